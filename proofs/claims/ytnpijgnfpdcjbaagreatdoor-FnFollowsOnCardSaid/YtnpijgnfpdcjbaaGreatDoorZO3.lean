/- Plain laws, merged; what is proved here is told ahead of each part. -/
import Derived.Test.YtnpijgnfpdcjbaaGreatDoorZO2
namespace Go.Proofs.YtnpijgnfpdcjbaaGreatDoor.G
open Go.V
structure BT (st:Ty.d aE) (d:Ty.d aA):Prop where
 live:cS st.1=true
 disk:DR d
 full:∀ x ∈ st.1.2.1,∃ t,fT d (a_ aF x)=some t∧FL t
 tail:∀ t,fT d (cj st)=some t→st.2.2.2.1=(t.size:Int)
theorem qa {d:Ty.d aA} (hd:DR d) (s:ByteArray):(aT d s).2=(fT d s).isSome:=by
 rw [ke hd]
 unfold fT
 cases bh d.1 s <;> rfl
theorem sa {d:Ty.d aA} (hd:DR d) {tail:Int}:∀ {l:List Int},lg d tail l=true↔((∀ x ∈ l,∃ t,fT d (a_ aF x)=some t∧FL t)∧(l≠[]→∀ t,fT d (a_ aF (aZ l))=some t→tail=(t.size:Int)))
 | []=>⟨fun _=>⟨fun x hx=>(by cases hx),fun h=>absurd rfl h⟩,fun _=>rfl⟩
 | x::l=>by
  have ih:=sa hd (tail:=tail) (l:=l)
  have hl:l≠[]→aZ (x::l)=aZ l:=fun h=>by
   unfold aZ
   cases l with
   | nil=>exact absurd rfl h
   | cons y r=>simp [List.getD]
  unfold lg AX
  simp only [gN]
  rw [ih,qa hd,jD hd]
  constructor
  · rintro ⟨⟨h1,h2,h3⟩,h4,h5⟩
    obtain ⟨t,ht⟩:=Option.isSome_iff_exists.1 h1
    rw [ht] at h2 h3
    simp only [Option.getD_some,decide_eq_true_eq] at h2
    refine ⟨fun y hy=>?_,fun _ u hu=>?_⟩
    · rcases List.mem_cons.1 hy with e | e
      · rw [e];exact ⟨t,ht,EU h2⟩
      · exact h4 y e
    · by_cases c:l=[]
      · subst c
        have e:aZ [x]=x:=rfl
        rw [e,ht] at hu
        have hu:=Option.some.inj hu
        rw [← hu]
        simp only [List.isEmpty_nil,fh,Bool.false_or,Option.getD_some] at h3
        exact Hi h3
      · rw [hl c] at hu
        exact h5 c u hu
  · rintro ⟨h1,h2⟩
    obtain ⟨t,ht,hf⟩:=h1 x jd
    rw [ht]
    simp only [Option.isSome_some,Option.getD_some,decide_eq_true_eq]
    refine ⟨⟨by trivial,yG hf,?_⟩,fun y hy=>h1 y (lK _ hy),fun c u hu=>h2 (by simp) u (by rw [hl c];exact hu)⟩
    cases l with
    | nil =>
     have:=h2 (by simp) t (by rw [show aZ [x]=x from rfl];exact ht)
     rw [this]
     simp
    | cons y r=>rfl
theorem GX {st:Ty.d aE} {d:Ty.d aA} (h:d9 st d=true):BT st d:=by
 obtain ⟨g1,g2,g3⟩:=eW h
 unfold d9 at h
 simp only [gN] at h
 obtain ⟨_,_,k1,_,_⟩:=bQ (nx:=st.1.1) (ids:=st.1.2.1) g1.live
 obtain ⟨q1,q2⟩:=(sa g1.disk).1 h.2.2.2.2.1
 exact ⟨g1.live,g1.disk,q1,q2 (by intro e;rw [e] at k1;simp at k1)⟩
def PK (d:Ty.d aA) (p:Ty.d aC):Prop:=fO d (eP p)=(fX p,true)
def PE (p:Ty.d aC):Prop:=(LE.le (α:=Int) 1 p.1∧LE.le (α:=Int) p.1 100000)∧LE.le (α:=Int) 0 p.2.1∧LE.le (α:=Int) 1 p.2.2.1∧LE.le (α:=Int) p.2.2.1 210
theorem Gt {st:Ty.d aE} {d:Ty.d aA} (h:BT st d) {r:Ty.d b7} (hr:bm r=true) (z:(jQ st d r).1.2.2=0):BT (jQ st d r).1.1 (jQ st d r).1.2.1∧PK (jQ st d r).1.2.1 (jQ st d r).2∧PE (jQ st d r).2:=by
 obtain ⟨b1,b2⟩:=Ea h.live
 obtain ⟨n1,n2,n3,n4⟩:=iG (n:=st.1.1) (ids:=st.1.2.1) h.live
 obtain ⟨_,_,g1,_,_⟩:=bQ (nx:=st.1.1) (ids:=st.1.2.1) h.live
 have hlast:aZ st.1.2.1 ∈ st.1.2.1:=by
  have hs:=lh g1
  rw [hs]
  exact List.mem_append_right _ (List.mem_singleton.2 (by rw [← hs]))
 have hz:=tQ r
 have hl:((aQ (aG r)).size:Int)=aw r:=rfl
 obtain ⟨t,ht,hf⟩:=h.full _ hlast
 have ht:fT d (cj st)=some t:=ht
 have htl:=h.tail t ht
 have ha:=oj h.disk (cj st) (aQ (aG r))
 have ko:∀ s,cj st≠s→fT (iH d (cj st) (aQ (aG r))).1 s=fT d s:=fun s q=>xB q
 have kl:=sI (d:=d) (s:=cj st) (x:=aQ (aG r))
 unfold jQ at z ⊢
 generalize iH d (cj st) (aQ (aG r))=a at ha ko kl z ⊢
 cases c:a.2 != 0 with
 | true =>
  rw [c] at z
  have z:(tl a).2=0:=z
  have q:=wL a
  rw [z,c] at q
  cases q
 | false =>
  have c0:(a.2==0)=true:=beq_iff_eq.2 (gn c)
  rw [c0,ac,ht] at kl
  have kl:fT a.1 (cj st)=some (t++aQ (aG r)):=kl
  simp only [aK]
  refine ⟨⟨h.live,ha,fun x hx=>?_,fun u hu=>?_⟩,?_,?_⟩
  · by_cases q:cj st=a_ aF x
    · rw [← q]
      exact ⟨_,kl,Hd hf hr⟩
    · show ∃ t,fT a.1 (a_ aF x)=some t∧FL t
      rw [ko _ q]
      exact h.full x hx
  · have hu:fT a.1 (cj st)=some u:=hu
    rw [kl] at hu
    rw [← Option.some.inj hu,ByteArray.size_append]
    show @Eq Int (st.2.2.2.1+aw r) ((t.size+(aQ (aG r)).size:Nat):Int)
    rw [htl]
    omega
  · show dk (aT a.1 (cj st)).1 st.2.2.2.1 (aw r)=(r,true)
    rw [jD ha,kl,htl]
    exact yr t hr
  · refine ⟨⟨b1,by show LE.le (α:=Int) (aZ st.1.2.1) 100000;omega⟩,?_,?_,?_⟩
    · show LE.le (α:=Int) 0 st.2.2.2.1
      rw [htl]
      omega
    · show LE.le (α:=Int) 1 (aw r)
      omega
    · show LE.le (α:=Int) (aw r) 210
      omega
theorem rW (l:List Int) (n:Int):aZ (l++[n])=n:=by
 unfold aZ
 simp [List.getD]
theorem K3 {st:Ty.d aE} {d:Ty.d aA} (h:BT st d) (z:(jc st d).2.2=0):BT (jc st d).1 (jc st d).2.1:=by
 obtain ⟨n1,n2,n3,_⟩:=iG (n:=st.1.1) (ids:=st.1.2.1) h.live
 have hseg:∀ x:Int,x ∈ st.1.2.1→1≤x∧x≤100000:=fun x hx=>⟨(n3 x hx).1,by have:=(n3 x hx).2;omega⟩
 have hnew:∀ x ∈ st.1.2.1,a_ aF st.1.1≠a_ aF x:=fun x hx=>mg ⟨n1,n2⟩ (hseg x hx) (by have:=(n3 x hx).2;omega)
 have k2:∀ x ∈ st.1.2.1,fT (bM (a_ aF st.1.1) (fj d (cj st)).1).1 (a_ aF x)=fT d (a_ aF x):=fun x hx=>(l9 (hnew x hx)).trans lE
 have k3:∀ x ∈ st.1.2.1,fT (bf (kM st) (bM (a_ aF st.1.1) (fj d (cj st)).1).1).1 (a_ aF x)=fT d (a_ aF x):=fun x hx=>(gj (gZ (hseg x hx)) (iX (hseg x hx))).trans (k2 x hx)
 have o2:=lZ (s:=a_ aF st.1.1) (d:=(fj d (cj st)).1)
 have o3:fT (bf (kM st) (bM (a_ aF st.1.1) (fj d (cj st)).1).1).1 (a_ aF st.1.1)=fT (bM (a_ aF st.1.1) (fj d (cj st)).1).1 (a_ aF st.1.1):=gj (gZ ⟨n1,n2⟩) (iX ⟨n1,n2⟩)
 have h1:=lk h.disk (cj st)
 have h2:=jz (a_ aF st.1.1) _ h1
 have h3:=jp (kM st) _ h2
 unfold jc at z ⊢
 by_cases c1:(st.1.2.1.length:Int)≥60
 · rw [aO c1] at z
   exact absurd z (by show (5:Int)≠0;decide)
 by_cases c2:st.1.1≥(100000:Int)
 · rw [aP c1,aO c2] at z
   exact absurd z (by show (5:Int)≠0;decide)
 have c1':st.1.2.1.length<60:=by omega
 have c2':LT.lt (α:=Int) st.1.1 100000:=Int.not_le.1 c2
 have hg:cS (DT st).1=true:=tN h.live c2' c1'
 rw [aP c1,aP c2] at z ⊢
 simp only [aK] at z ⊢
 generalize fj d (cj st)=r1 at h1 h2 h3 k2 k3 o2 o3 z ⊢
 generalize bM (a_ aF st.1.1) r1.1=r2 at h2 h3 k2 k3 o2 o3 z ⊢
 generalize bf (kM st) r2.1=r3 at h3 k3 o3 z ⊢
 have tlz:∀ r:RD,(r.2 != 0)=true→(tl r).2≠0:=fun r q e=>by
  have:=wL r
  rw [e,q] at this
  cases this
 cases e1:r1.2 != 0 with
 | true=>rw [e1] at z;exact absurd z (tlz r1 e1)
 | false =>
  rw [e1] at z
  simp only [aK] at z ⊢
  cases e2:r2.2 != 0 with
  | true=>rw [e2] at z;exact absurd z (tlz r2 e2)
  | false =>
   rw [e2] at z
   simp only [aK] at z ⊢
   have o2:=o2 (gn e2)
   cases e3:r3.2 != 0 with
   | true =>
    rw [e3] at z
    simp only [ac] at z
    refine absurd z ?_
    unfold nW
    cases q:(tl r3).2==2 with
    | false=>exact tlz r3 e3
    | true =>
     show (bif (eh [iK,a_ aF st.1.1] (tl r3).1).2==0 then (2:Int) else iF (eh [iK,a_ aF st.1.1] (tl r3).1).2)≠0
     cases w:(eh [iK,a_ aF st.1.1] (tl r3).1).2==0 with
     | true=>show (2:Int)≠0;decide
     | false =>
      intro e
      have:=iD (eh [iK,a_ aF st.1.1] (tl r3).1).2
      rw [w] at this
      simp only [aK] at e
      rw [e] at this
      cases this
   | false =>
    simp only [aK]
    refine ⟨hg,h3,fun x hx=>?_,fun u hu=>?_⟩
    · have hx:x ∈ st.1.2.1++[st.1.1]:=hx
      rcases List.mem_append.1 hx with w | w
      · show ∃ t,fT r3.1 (a_ aF x)=some t∧FL t
        rw [k3 x w]
        exact h.full x w
      · rw [List.mem_singleton.1 w]
        exact ⟨_,o3.trans o2,G7⟩
    · have hu:fT r3.1 (a_ aF (aZ (st.1.2.1++[st.1.1])))=some u:=hu
      rw [rW,o3,o2] at hu
      rw [← Option.some.inj hu]
      rfl
theorem K_ {st:Ty.d aE} {d:Ty.d aA} (h:BT st d) {r:Ty.d b7} (hr:bm r=true) (z:(fc st d r).1.2.2=0):BT (fc st d r).1.1 (fc st d r).1.2.1∧PK (fc st d r).1.2.1 (fc st d r).2∧PE (fc st d r).2:=by
 have hq:=K3 h
 unfold fc at z ⊢
 cases c:decide (st.2.2.2.1 > 0)&&decide (st.2.2.2.1+aw r > 200) with
 | false =>
  rw [c] at z
  exact Gt h hr z
 | true =>
  rw [c] at z
  simp only [ac] at z ⊢
  generalize jc st d=q at hq z ⊢
  cases c2:q.2.2 != 0 with
  | true =>
   rw [c2] at z
   have z:q.2.2=0:=z
   rw [z] at c2
   cases c2
  | false =>
   rw [c2] at z
   exact Gt (hq (gn c2)) hr z
theorem Eg:∀ (l:j7) (st:Ty.d aE) (d:Ty.d aA) (ps:aW),BT st d→(∀ r ∈ l,bm r=true)→(∀ p ∈ ps,PK d p∧PE p∧LT.lt (α:=Int) p.1 st.1.1)→(ek l st d ps).1.2.2=0 →
 BT (ek l st d ps).1.1 (ek l st d ps).1.2.1∧∀ p ∈ (ek l st d ps).2,PK (ek l st d ps).1.2.1 p∧PE p∧LT.lt (α:=Int) p.1 (ek l st d ps).1.1.1.1
 | [],st,d,ps,h,_,hp,_=>⟨h,hp⟩
 | r::l,st,d,ps,h,hr,hp,z=>by
  have hb:=K_ h (hr r jd)
  obtain ⟨s1,s2,s3,s4⟩:=E0 (d:=d) h.live h.disk r
  unfold ek at z ⊢
  generalize fc st d r=q at hb s1 s2 s3 s4 z ⊢
  cases c:q.1.2.2 != 0 with
  | true =>
   rw [c] at z
   have z:q.1.2.2=0:=z
   rw [z] at c
   cases c
  | false =>
   have e0:=gn c
   obtain ⟨k1,k2,k3⟩:=hb e0
   rw [c] at z
   simp only [aK] at z ⊢
   refine Eg l q.1.1 q.1.2.1 (ps++[q.2]) k1 (fun x hx=>hr x (lK _ hx)) (fun p hq=>?_) z
   rcases List.mem_append.1 hq with w | w
   · obtain ⟨p1,p2,p3⟩:=hp p w
     refine ⟨?_,p2,Int.lt_of_lt_of_le p3 s2⟩
     have p1':fO d (eP p)=(fX p,true):=p1
     show fO q.1.2.1 (eP p)=(fX p,true)
     rw [wY h.disk k1.disk s1 p2.1.1 p3 p2.1.2 (by rw [p1']),p1']
   · rw [List.mem_singleton.1 w]
     exact ⟨k2,k3,(s4 e0).2⟩
theorem Dz {l:lA} {b:Int} (h:ju l=true) (h0:1≤b) (h1:b≤1000000):∀ r ∈ iW l b,bm r=true:=by
 intro r hr
 unfold iW at hr
 rcases List.mem_append.1 hr with w | w
 · obtain ⟨x,hx,e⟩:=List.mem_map.1 w
   have hp:=rk h hx
   unfold ni lH at hp
   simp only [gN] at hp
   rw [← e]
   unfold fe bm
   cases c:x.2.1 with
   | true =>
    simp only [ac]
    rw [show ((2:Int)==1||(2:Int)==4)=false from rfl,show ((2:Int)==2)=true from rfl]
    simp only [aK,ac]
    rw [hp.1,aO (show 1≤b∧b≤1000000 from ⟨h0,h1⟩),show seq ByteArray.empty ⟨#[]⟩=true from bX _]
    rfl
   | false =>
    simp only [aK]
    rw [show ((1:Int)==1||(1:Int)==4)=true from rfl]
    simp only [ac]
    rw [hp.1,hp.2.1,aO (show 1≤b∧b≤1000000 from ⟨h0,h1⟩)]
    rfl
 · have hl:=mf h
   have hs:=ER (l.map (fe b))
   rw [List.mem_singleton.1 w]
   unfold fJ bm
   rw [show ((3:Int)==1||(3:Int)==4)=false from rfl,show ((3:Int)==2)=false from rfl,show ((3:Int)==3)=true from rfl]
   simp only [aK,ac]
   rw [aO (show (0:Int)≤((l.map (fe b)).length:Int)∧((l.map (fe b)).length:Int)≤8 by rw [List.length_map];omega),aO (show 0≤uo (l.map (fe b))∧uo (l.map (fe b))≤4294967295 from hs),aO (show 1≤b∧b≤1000000 from ⟨h0,h1⟩),show seq ByteArray.empty ⟨#[]⟩=true from bX _]
   rfl
def LD (key x:ByteArray):Bool:=mh x key||seq x key
def Kk (K:List ByteArray) (key:ByteArray):List ByteArray:=K.takeWhile (LD key)++key::K.dropWhile (LD key)
theorem qR (l:aR) (key:ByteArray):iO (h9 l key)=(iO l).filter fun x=>!(seq x key):=by
 unfold iO h9
 rw [List.filter_map]
 rfl
theorem BJ (l:aR) (e:Ty.d aB):iO (pZ l e)=Kk (iO l) e.1:=by
 unfold iO pZ Kk
 rw [List.map_append,List.map_cons,List.takeWhile_map,List.dropWhile_map]
 rfl
theorem y_:∀ (l:lA) (d d' es fs:aR),iO d=iO d'→iO es=iO fs→iO (pc d l es)=iO (pc d' l fs)
 | [],d,d',es,fs,h,_=>by rw [pf,pf];exact h
 | x::l,d,d',[],[],h,_=>by unfold pc;exact h
 | x::l,d,d',e::es,[],_,g=>by cases g
 | x::l,d,d',[],f::fs,_,g=>by cases g
 | x::l,d,d',e::es,f::fs,h,g=>by
  unfold iO at g
  rw [List.map_cons,List.map_cons] at g
  injection g with g1 g2
  unfold pc
  refine y_ l _ _ es fs ?_ g2
  cases x.2.1 with
  | true=>simp only [ac];rw [qR,qR,h]
  | false =>
   simp only [aK]
   unfold pV
   rw [BJ,BJ,qR,qR,h,g1]
theorem Ko {a:Int} (h:1≤a) (g:a≤1000000):1≤a+1∧a+1≤1000001:=by omega
theorem L6 (a:Int):¬ a≥a+1:=by omega
theorem KS {a b:Int} (h:¬ b≥a):¬ b≥a+1:=by omega
theorem Ap {st:Ty.d aE} {d:Ty.d aA} {l:lA} (hs:d9 st d=true) (he:EI st) (hp:ju l=true) (hb:LE.le (α:=Int) st.2.2.1 1000000) (ha:lX st.2.1 l≤20) (z:(gD st d l).2.2=0):d9 (gD st d l).1 (gD st d l).2.1=true ∧
 (∀ e ∈ (gD st d l).1.2.1,(e ∈ st.2.1∧fO (gD st d l).2.1 e=fO d e)∨∃ x ∈ l,x.2.1=false∧e.1=x.1∧fO (gD st d l).2.1 e=(fe st.2.2.1 x,true)) ∧
 iO (gD st d l).1.2.1=iO (pc st.2.1 l (l.map wO)) ∧
 ∃ ps:aW,(gD st d l).1.2.1=bL st.2.1 ps∧ps.map fX=l.map (fe st.2.2.1)∧(∀ p ∈ ps,fO (gD st d l).2.1 (eP p)=(fX p,true))∧∀ e ∈ st.2.1,fO (gD st d l).2.1 e=fO d e:=by
 obtain ⟨g1,g2,g3⟩:=eW hs
 have hBT:=GX hs
 have hs':=hs
 unfold d9 at hs'
 simp only [gN] at hs'
 obtain ⟨_,_,hdir,_,_,hent⟩:=hs'
 obtain ⟨d1,d2,d3⟩:=rt.1 hdir
 have hl8:=mf hp
 have hbat:SR (pF st) (d,0) 100000:=⟨g1.live,g1.disk,g1.lo,g1.hi⟩
 obtain ⟨f1,f2,f3⟩:=oe (iW l st.2.2.1) (pF st) d [] 100000 hbat (by decide)
 obtain ⟨s1,s2,s3,s4⟩:=B2 (iW l st.2.2.1) (pF st) d [] 100000 hbat (by decide) (fun x hx=>by cases hx)
 have hB:=Eg (iW l st.2.2.1) (pF st) d [] ⟨hBT.live,hBT.disk,hBT.full,hBT.tail⟩ (Dz hp g3 hb) (fun x hx=>by cases hx)
 unfold gD at z ⊢
 generalize ek (iW l st.2.2.1) (pF st) d []=q at f1 f2 f3 s1 s2 s3 s4 hB z ⊢
 have e2:q.1.1.2.1=st.2.1:=f2
 have s1:EX st.1.1 d q.1.2.1:=s1
 have s3:q.1.1.2.2.1=st.2.2.1+1:=s3
 unfold t8 at z ⊢
 cases c:q.1.2.2 != 0 with
 | true =>
  rw [c] at z
  have z:q.1.2.2=0:=z
  rw [z] at c
  cases c
 | false =>
  rw [c] at z
  simp only [aK] at z ⊢
  have c0:=gn c
  have f3:=f3 c0
  rw [List.map_nil,List.nil_append] at f3
  obtain ⟨hB1,hB2⟩:=hB c0
  have y0:=wS s1 (KB st.1.1 q.1.2.1 (cj q.1.1))
  have y1:=lk hB1.disk (cj q.1.1)
  have y2:∀ s,fT (fj q.1.2.1 (cj q.1.1)).1 s=fT q.1.2.1 s:=fun s=>lE
  generalize fj q.1.2.1 (cj q.1.1)=y at y0 y1 y2 z ⊢
  cases cy:y.2 != 0 with
  | true =>
   rw [cy] at z
   have z:(tl y).2=0:=z
   have q:=wL y
   rw [z,cy] at q
   cases q
  | false =>
   simp only [aK]
   have hrp:∀ p ∈ q.2.take l.length,fX p ∈ l.map (fe st.2.2.1):=fun p hp=>by
    have h1:(q.2.take l.length).map fX=l.map (fe st.2.2.1):=by
     rw [List.map_take,f3]
     unfold iW
     rw [List.take_append_of_le_length (by rw [List.length_map];omega),List.take_of_length_le (by rw [List.length_map];omega)]
    rw [← h1]
    exact List.mem_map.2 ⟨p,hp,rfl⟩
   have hPK:∀ p ∈ q.2.take l.length,fO y.1 (eP p)=(fX p,true):=fun p hp=>by
    obtain ⟨p1,_,_⟩:=hB2 p (List.mem_of_mem_take hp)
    have p1:fO q.1.2.1 (eP p)=(fX p,true):=p1
    rw [← p1]
    unfold fO
    rw [jD y1,jD hB1.disk,y2]
   have newE:∀ e ∈ bL q.1.1.2.1 (q.2.take l.length),(∃ p ∈ q.2.take l.length,e=eP p∧(p.2.2.2.1.1==2)=false)∨e ∈ st.2.1:=fun e hq=>by
    rw [e2] at hq
    exact mX _ hq
   have hput:∀ p ∈ q.2.take l.length,lH (eP p).1=true∧(fX p).2.1=st.2.2.1∧((fX p).1=1∨(fX p).1=2):=fun p hq=>by
    obtain ⟨x,hx,e⟩:=List.mem_map.1 (hrp p hq)
    have hk:=rk hp hx
    unfold ni at hk
    simp only [gN] at hk
    refine ⟨?_,?_,?_⟩
    · show lH (fX p).2.2.1=true
      rw [← e]
      unfold fe
      cases x.2.1 <;> exact hk.1
    · rw [← e]
      unfold fe
      cases x.2.1 <;> rfl
    · rw [← e]
      unfold fe
      cases x.2.1
      · exact .inl rfl
      · exact .inr rfl
   have hkeys:iO (bL st.2.1 (q.2.take l.length))=iO (pc st.2.1 l (l.map wO)):=by
    have k1:iO (pc st.2.1 l (q.2.map eP))=iO (pc st.2.1 l (l.map wO++[wO (ByteArray.empty,(false,(ByteArray.empty,())))])):=by
     refine y_ l _ _ _ _ rfl ?_
     unfold iO
     rw [List.map_map,show q.2.map ((fun x:Ty.d aB=>x.1) ∘ eP)=(q.2.map fX).map (fun r:Ty.d b7=>r.2.2.1) from by rw [List.map_map];rfl,f3]
     unfold iW
     rw [List.map_append,List.map_append,List.map_map,List.map_map]
     congr 1
     refine List.map_congr_left fun x _=>?_
     show (fe st.2.2.1 x).2.2.1=x.1
     unfold fe
     cases x.2.1 <;> rfl
    have k2:∀ (l:lA) (d:aR) (m:aR),pc d l (l.map wO++m)=pc d l (l.map wO):=by
     intro l
     induction l with
     | nil=>intro d m;rw [pf,pf]
     | cons x l ih =>
      intro d m
      rw [List.map_cons,List.cons_append]
      unfold pc
      exact ih _ m
    rw [k2,wZ st.2.2.1 l q.2 [fJ 3 st.2.2.1 (l.map (fe st.2.2.1))] st.2.1 f3] at k1
    exact k1
   have oldE:∀ e ∈ st.2.1,fO y.1 e=fO d e:=fun e w=>by
    have hin:=List.all_eq_true.1 hent e w
    obtain ⟨i1,i2⟩:=he e w
    have i3:LE.le (α:=Int) e.2.1 100000:=by
     have:=d2 e w
     unfold J2 at this
     simp only [gN,decide_eq_true_eq] at this
     exact this.2.1.2
    unfold m0 at hin
    simp only [gN] at hin
    exact wY g1.disk y1 y0 i1 i2 i3 hin.1
   refine ⟨?_,fun e hq=>?_,by show iO (bL q.1.1.2.1 (q.2.take l.length))=_;rw [e2];exact hkeys,q.2.take l.length,by show bL q.1.1.2.1 (q.2.take l.length)=_;rw [e2],?_,hPK,oldE⟩
   rotate_left
   rotate_left
   · rw [List.map_take,f3]
     unfold iW
     rw [List.take_append_of_le_length (by rw [List.length_map];omega),List.take_of_length_le (by rw [List.length_map];omega)]
   rotate_left
   · show (e ∈ st.2.1∧fO y.1 e=fO d e)∨∃ x ∈ l,x.2.1=false∧e.1=x.1∧fO y.1 e=(fe st.2.2.1 x,true)
     rcases newE e hq with ⟨p,hq',w,kd⟩ | w
     · obtain ⟨x,hx,ex⟩:=List.mem_map.1 (hrp p hq')
       have kd:((fX p).1==2)=false:=kd
       have cx:x.2.1=false:=by
        cases c:x.2.1 with
        | false=>rfl
        | true =>
         rw [← ex] at kd
         unfold fe at kd
         rw [c] at kd
         cases kd
       refine .inr ⟨x,hx,cx,?_,?_⟩
       · rw [w]
         show (fX p).2.2.1=x.1
         rw [← ex]
         unfold fe
         rw [cx]
         rfl
       · rw [w,hPK p hq',ex]
     · exact .inl ⟨w,oldE e w⟩
   unfold d9
   simp only [gN]
   refine ⟨jP.2 y1,hB1.live,rt.2 ⟨?_,fun e hq=>?_,?_⟩,decide_eq_true ?_,(sa y1).2 ⟨fun x hx=>?_,fun _ u hu=>?_⟩,List.all_eq_true.2 fun e hq=>?_⟩
   · have k3:=congrArg List.length hkeys
     unfold iO at k3
     rw [List.length_map,List.length_map] at k3
     show (bL q.1.1.2.1 (q.2.take l.length)).length≤20
     rw [e2,k3]
     unfold lX at ha
     omega
   · rcases newE e hq with ⟨p,hq',w,_⟩ | w
     · obtain ⟨_,p2,_⟩:=hB2 p (List.mem_of_mem_take hq')
       obtain ⟨u1,u2,u3⟩:=hput p hq'
       rw [w]
       unfold J2
       rw [u1,aO (show (1:Int)≤(eP p).2.1∧(eP p).2.1≤100000 from p2.1),aP (show ¬ (eP p).2.2.1<(0:Int) from Int.not_lt.2 p2.2.1),aO (show (1:Int)≤(eP p).2.2.2.1∧(eP p).2.2.2.1≤210 from p2.2.2),
        aO (show (1:Int)≤(eP p).2.2.2.2.1∧(eP p).2.2.2.2.1≤1000000 from by show (1:Int)≤(fX p).2.1∧(fX p).2.1≤1000000;rw [u2];exact ⟨g3,hb⟩)]
       rfl
     · exact d2 e w
   · show cW (iO (bL q.1.1.2.1 (q.2.take l.length)))
     rw [e2]
     exact oW _ d3
   · show (1:Int)≤q.1.1.2.2.1∧q.1.1.2.2.1≤1000001
     rw [s3]
     exact Ko g3 hb
   · show ∃ t,fT y.1 (a_ aF x)=some t∧FL t
     rw [y2]
     exact hB1.full x hx
   · have hu:fT y.1 (cj q.1.1)=some u:=hu
     rw [y2] at hu
     exact hB1.tail u hu
   · show m0 y.1 q.1.1.2.2.1 e=true
     rw [s3]
     rcases newE e hq with ⟨p,hq',w,kd⟩ | w
     · obtain ⟨u1,u2,u3⟩:=hput p hq'
       have hr:=hPK p hq'
       have kd:((fX p).1==2)=false:=kd
       have k1:(fX p).1=1:=by
        rcases u3 with v | v
        · exact v
        · rw [v] at kd;cases kd
       unfold m0
       rw [w,hr]
       simp only []
       rw [show (eP p).1=(fX p).2.2.1 from rfl,bX,show (eP p).2.2.2.2.1=(fX p).2.1 from rfl,beq_self_eq_true,k1,u2,aP (L6 st.2.2.1)]
       rfl
     · have hin:=List.all_eq_true.1 hent e w
       obtain ⟨i1,i2⟩:=he e w
       have i3:LE.le (α:=Int) e.2.1 100000:=by
        have:=d2 e w
        unfold J2 at this
        simp only [gN,decide_eq_true_eq] at this
        exact this.2.1.2
       unfold m0 at hin ⊢
       simp only [gN] at hin ⊢
       rw [wY g1.disk y1 y0 i1 i2 i3 hin.1]
       refine ⟨hin.1,hin.2.1,hin.2.2.1,hin.2.2.2.1,?_⟩
       have hlt:=hin.2.2.2.2
       simp only [Bool.not_eq_true',decide_eq_false_iff_not] at hlt ⊢
       exact KS hlt
theorem Hs {d:Ty.d aA} {s:ByteArray}:bh d.1 s=none↔fT d s=none:=by
 unfold fT
 cases bh d.1 s <;> simp
theorem yD {α:Type} {p:α→Bool}:∀ {l:List α},(∀ x ∈ l,p x=true)→l.takeWhile p=l∧l.dropWhile p=[]
 | [],_=>⟨rfl,rfl⟩
 | x::l,h=>by
  have ih:=yD (p:=p) (l:=l) fun y hy=>h y (lK _ hy)
  rw [List.takeWhile_cons,List.dropWhile_cons,h x jd,if_pos rfl,if_pos rfl,ih.1]
  exact ⟨rfl,ih.2⟩
theorem yY:∀ {l:aR},cW (iO l)→∀ e ∈ l,wq l e.1=some e
 | [],_,e,h=>by cases h
 | x::l,hk,e,h=>by
  unfold cW iO at hk
  rw [List.map_cons,List.pairwise_cons] at hk
  rw [wq.eq_2]
  rcases List.mem_cons.1 h with w | w
  · rw [w,bX]
    rfl
  · have hlt:=hk.1 e.1 (List.mem_map.2 ⟨e,w,rfl⟩)
    rw [kK (fun q=>by rw [q,ol] at hlt;cases hlt),aK]
    exact yY hk.2 e w
theorem Ig {st:Ty.d aE} {d:Ty.d aA} (h:d9 st d=true) {e:Ty.d aB} (he:e ∈ st.2.1):ub st.2.1 d e.1=((e.1,((fO d e).1.2.2.2.1,((fO d e).1.2.1,()))),0):=by
 unfold d9 at h
 simp only [gN] at h
 obtain ⟨_,_,hdir,_,_,hent⟩:=h
 obtain ⟨_,_,hk⟩:=rt.1 hdir
 have hin:=List.all_eq_true.1 hent e he
 unfold m0 at hin
 simp only [gN] at hin
 unfold ub
 rw [yY hk e he]
 simp only []
 rw [hin.1,hin.2.1,hin.2.2.2.1]
 rfl
theorem vD {st:Ty.d aE} {d:Ty.d aA} (h:d9 st d=true):gd st.2.1 d=(st.2.1.map fun e=>(e.1,((fO d e).1.2.2.2.1,((fO d e).1.2.1,()))),0):=by
 have key:∀ (r:aR) (acc:iE),(∀ e ∈ r,e ∈ st.2.1)→pQ st.2.1 d (r.map (·.1)) acc=(acc++r.map fun e=>(e.1,((fO d e).1.2.2.2.1,((fO d e).1.2.1,()))),0):=by
  intro r
  induction r with
  | nil=>intro acc _;rw [List.map_nil,List.map_nil,List.append_nil];rfl
  | cons e r ih =>
   intro acc hr
   rw [List.map_cons,pQ,Ig h (hr e jd)]
   show pQ st.2.1 d (r.map (·.1)) (acc++[_])=_
   rw [ih _ fun x hx=>hr x (lK _ hx),nn]
   rfl
 unfold gd
 rw [key st.2.1 [] fun e he=>he,List.nil_append]
def JD:ByteArray:=⟨#[108,105,118,101]⟩
theorem Hu {d:Ty.d aA} {e:Ty.d aB} (h:(fO d e).2=true):bm (fO d e).1=true:=by
 unfold fO dk at h ⊢
 by_cases c1:0≤e.2.2.1∧e.2.2.1≤((aT d (a_ aF e.2.1)).1.size:Int)∧1≤e.2.2.2.1∧e.2.2.2.1≤((aT d (a_ aF e.2.1)).1.size:Int)-e.2.2.1
 · rw [if_pos c1] at h ⊢
   by_cases c2:(fi (ByteArray.extract (aT d (a_ aF e.2.1)).1 (Int.toNat e.2.2.1) (Int.toNat (e.2.2.1+e.2.2.2.1)))).2=e.2.2.2.1
   · rw [if_pos c2] at h ⊢
     exact (vN (Prod.ext rfl h)).1
   · rw [if_neg c2] at h
     cases h
 · rw [if_neg c1] at h
   cases h
theorem v7 {r:Ty.d b7} (h:bm r=true) (hk:r.1=1∨r.1=4):bm (bD (r.2.2.1,(r.2.2.2.1,(r.2.1,()))))=true:=by
 have hb:(r.1==1||r.1==4)=true:=by rcases hk with q | q <;> rw [q] <;> rfl
 unfold bm at h
 rw [hb,ac] at h
 simp only [gN] at h
 unfold bm bD
 rw [show ((4:Int)==1||(4:Int)==4)=true from rfl]
 simp only [ac]
 rw [h.1,h.2.1,h.2.2.2.2]
 rfl
theorem yU {st:Ty.d aE} {d:Ty.d aA} (h:d9 st d=true):(∀ p ∈ (gd st.2.1 d).1,bm (bD p)=true)∧cW ((gd st.2.1 d).1.map (·.1)):=by
 rw [vD h]
 have h':=h
 unfold d9 at h'
 simp only [gN] at h'
 obtain ⟨_,_,hdir,_,_,hent⟩:=h'
 obtain ⟨_,_,hk⟩:=rt.1 hdir
 refine ⟨fun p hp=>?_,?_⟩
 · obtain ⟨e,he,rfl⟩:=List.mem_map.1 hp
   have hin:=List.all_eq_true.1 hent e he
   unfold m0 at hin
   simp only [gN,Bool.or_eq_true,beq_iff_eq] at hin
   have:=v7 (Hu hin.1) hin.2.2.2.1
   rw [dr.1 hin.2.1] at this
   exact this
 · rw [List.map_map]
   exact hk
theorem Il {b:Int} (h:1≤b) (g:b≤1000001):0≤b-1∧b-1≤1000000:=by omega
theorem An {a b:Int} (h:a<b) (g:b≤100000):a≤100000:=by omega
def fH:j7→Int→yq
 | [],_=>[]
 | r::l,a=>(a,(aw r,(r,())))::fH l (a+aw r)
theorem xA:∀ (rs:j7) (pre:ByteArray) (d:Nat),(∀ r ∈ rs,bm r=true)→(aX rs).size<d→(fS (pre++aX rs) d (pre.size:Int)).1=fH rs (pre.size:Int)
 | [],pre,d,_,hd=>by
  obtain ⟨d,rfl⟩:∃ q,d=q+1:=⟨d-1,by omega⟩
  have:fi (ByteArray.extract (pre++aX []) (Int.toNat (pre.size:Int)) (pre++aX []).size)=(⟨#[]⟩,0):=by
   rw [nt,dj,aX,vC]
  rw [fS,this,if_pos rfl]
  rfl
 | r::rs,pre,d,h,hd=>by
  rw [aX,aN] at hd
  have hz:=jC r
  have hp:=jw (s:=aG r) (by omega)
  obtain ⟨d,rfl⟩:∃ q,d=q+1:=⟨d-1,by omega⟩
  have ih:=xA rs (pre++aQ (aG r)) d (fun x hx=>h x (lK _ hx)) (by omega)
  rw [ai,aN pre] at ih
  rw [aX,Dc (h r (jd ..)),fH]
  simp only []
  rw [ih,show ((pre.size+(aQ (aG r)).size:Nat):Int)=(pre.size:Int)+aw r by unfold aw;omega]
  rfl
theorem vx {rs:j7} (h:∀ r ∈ rs,bm r=true):(az (aX rs)).1=fH rs 0:=by
 have:=xA rs ⟨#[]⟩ ((aX rs).size+1) h (by omega)
 rw [nU] at this
 exact this
theorem yu:∀ (l m:j7) (a:Int),fH (l++m) a=fH l a++fH m (a+((aX l).size:Int))
 | [],m,a=>by
  show fH m a=fH m (a+((⟨#[]⟩:ByteArray).size:Int))
  rw [show ((⟨#[]⟩:ByteArray).size:Int)=0 from rfl,Int.add_zero]
 | r::l,m,a=>by
  rw [List.cons_append,fH,fH,yu l m,aX,aN,List.cons_append]
  rw [show a+aw r+((aX l).size:Int)=a+(((aQ (aG r)).size+(aX l).size:Nat):Int) by unfold aw;omega]
abbrev qD:=List (Int × j7)
def um (x:Int × j7):aW:=b9 x.1 (fH x.2 0)
def jb:qD→aW
 | []=>[]
 | x::l=>um x++jb l
theorem E4:∀ (l m:qD),jb (l++m)=jb l++jb m
 | [],_=>rfl
 | x::l,m=>by
  show um x++jb (l++m)=um x++jb l++jb m
  rw [E4 l m,nn]
structure TX (st:Ty.d aE) (d:Ty.d aA) (L:qD):Prop where
 live:cS st.1=true
 disk:DR d
 ids:st.1.2.1=L.map (·.1)
 text:∀ x ∈ L,fT d (a_ aF x.1)=some (aX x.2)∧∀ r ∈ x.2,bm r=true
 tail:∀ t,fT d (cj st)=some t→st.2.2.2.1=(t.size:Int)
theorem TX.bt {st:Ty.d aE} {d:Ty.d aA} {L:qD} (h:TX st d L):BT st d:=⟨h.live,h.disk,fun x hx=>by
 rw [h.ids] at hx
 obtain ⟨y,hy,rfl⟩:=List.mem_map.1 hx
 exact ⟨_,(h.text y hy).1,y.2,(h.text y hy).2,rfl⟩,h.tail⟩
theorem zV {d:Ty.d aA}:∀ {ids:List Int},(∀ x ∈ ids,∃ t,fT d (a_ aF x)=some t∧FL t)→∃ L:qD,ids=L.map (·.1)∧∀ x ∈ L,fT d (a_ aF x.1)=some (aX x.2)∧∀ r ∈ x.2,bm r=true
 | [],_=>⟨[],rfl,fun x hx=>(by cases hx)⟩
 | x::l,h=>by
  obtain ⟨L,h1,h2⟩:=zV (ids:=l) fun y hy=>h y (lK _ hy)
  obtain ⟨t,ht,rs,hr,e⟩:=h x jd
  refine ⟨(x,rs)::L,by rw [List.map_cons,← h1],fun y hy=>?_⟩
  rcases List.mem_cons.1 hy with w | w
  · rw [w];exact ⟨by rw [ht,e],hr⟩
  · exact h2 y w
theorem BT.tx {st:Ty.d aE} {d:Ty.d aA} (h:BT st d):∃ L,TX st d L:=by
 obtain ⟨L,h1,h2⟩:=zV h.full
 exact ⟨L,h.live,h.disk,h1,h2,h.tail⟩
theorem I8 {d:Ty.d aA} (hd:DR d) {x:Int × j7} (h:fT d (a_ aF x.1)=some (aX x.2)∧∀ r ∈ x.2,bm r=true):wv d x.1=um x:=by
 unfold wv um dp
 rw [jD hd,h.1]
 show b9 x.1 (az (aX x.2)).1=_
 rw [vx h.2]
theorem sL {d:Ty.d aA} (hd:DR d):∀ {L:qD},(∀ x ∈ L,fT d (a_ aF x.1)=some (aX x.2)∧∀ r ∈ x.2,bm r=true)→m4 d (L.map (·.1))=jb L
 | [],_=>rfl
 | x::L,h=>by
  rw [List.map_cons]
  show wv d x.1++m4 d (L.map (·.1))=um x++jb L
  rw [sL hd fun y hy=>h y (lK _ hy),I8 hd (h x jd)]
theorem rF:∀ (rs:j7) (pre post:ByteArray),(∀ r ∈ rs,bm r=true)→∀ x ∈ fH rs (pre.size:Int),dk (pre++(aX rs++post)) x.1 x.2.1=(x.2.2.1,true)∧bm x.2.2.1=true∧LE.le (α:=Int) 0 x.1∧LE.le (α:=Int) 1 x.2.1∧LE.le (α:=Int) x.2.1 210∧x.2.2.1 ∈ rs
 | [],_,_,_,x,hx=>(by cases hx)
 | r::rs,pre,post,h,x,hx=>by
  have hr:=h r jd
  rw [aX,oM]
  rw [fH] at hx
  rcases List.mem_cons.1 hx with w | w
  · rw [w]
    have hz:=tQ r
    have e:=yr pre hr
    refine ⟨?_,hr,Int.natCast_nonneg _,show LE.le (α:=Int) 1 (aw r) by omega,hz.2,jd⟩
    show dk (pre++(aQ (aG r)++(aX rs++post))) (pre.size:Int) (aw r)=(r,true)
    rw [← oM,yi (by rw [e]),e]
  · have hz:((pre++aQ (aG r)).size:Int)=(pre.size:Int)+aw r:=by
     rw [ByteArray.size_append]
     unfold aw
     omega
    rw [← hz] at w
    obtain ⟨i1,i2,i3,i4,i5,i6⟩:=rF rs (pre++aQ (aG r)) post (fun q hq=>h q (lK _ hq)) x w
    rw [oM] at i1
    exact ⟨i1,i2,i3,i4,i5,lK _ i6⟩
theorem tY {L:qD} {p:Ty.d aC} (h:p ∈ jb L):∃ x ∈ L,∃ s ∈ fH x.2 0,p=(x.1,s):=by
 induction L with
 | nil=>cases h
 | cons x L ih =>
  have h:p ∈ um x++jb L:=h
  rcases List.mem_append.1 h with w | w
  · unfold um b9 at w
    obtain ⟨s,hs,e⟩:=List.mem_map.1 w
    exact ⟨x,jd,s,hs,e.symm⟩
  · obtain ⟨y,hy,q⟩:=ih w
    exact ⟨y,lK _ hy,q⟩
structure PL (d:Ty.d aA) (nx:Int) (p:Ty.d aC):Prop where
 lo:LE.le (α:=Int) 1 p.1
 hi:LT.lt (α:=Int) p.1 nx
 at0:LE.le (α:=Int) 0 p.2.1
 len0:LE.le (α:=Int) 1 p.2.2.1
 len1:LE.le (α:=Int) p.2.2.1 210
 ok:bm (fX p)=true
 read:fO d (eP p)=(fX p,true)
theorem sd {st:Ty.d aE} {d:Ty.d aA} {L:qD} (h:TX st d L) {p:Ty.d aC} (hp:p ∈ jb L):PL d st.1.1 p:=by
 obtain ⟨x,hx,s,hs,e⟩:=tY hp
 obtain ⟨n1,n2,n3,_⟩:=iG (n:=st.1.1) (ids:=st.1.2.1) h.live
 have hi:x.1 ∈ st.1.2.1:=by rw [h.ids];exact List.mem_map.2 ⟨x,hx,rfl⟩
 obtain ⟨t1,t2⟩:=h.text x hx
 obtain ⟨i1,i2,i3,i4,i5,_⟩:=rF x.2 ⟨#[]⟩ ⟨#[]⟩ t2 s hs
 rw [e]
 refine ⟨(n3 _ hi).1,(n3 _ hi).2,i3,i4,i5,i2,?_⟩
 unfold fO
 show dk (aT d (a_ aF x.1)).1 s.1 s.2.1=(s.2.2.1,true)
 rw [jD h.disk,t1]
 show dk (aX x.2) s.1 s.2.1=_
 rw [Ft,nU] at i1
 exact i1
abbrev Gs:=aR × Int × Int
def iB (pre:aW) (p:Ty.d aC) (s:Gs):Gs :=
 bif p.2.2.2.1.1==3 then (bif gO p.2.2.2.1 (eJ p.2.2.2.1.2.1 pre) then (bL s.1 (eJ p.2.2.2.1.2.1 pre),mP p.2.2.2.1.2.1 s.2.1,kN (bL s.1 (eJ p.2.2.2.1.2.1 pre)) s.2.2) else (s.1,mP p.2.2.2.1.2.1 s.2.1,s.2.2)) else
 bif p.2.2.2.1.1==5 then (bif gO p.2.2.2.1 (bK pre) then (bL s.1 (bK pre),mP p.2.2.2.1.2.1 s.2.1,kN (bL s.1 (bK pre)) s.2.2) else (s.1,mP p.2.2.2.1.2.1 s.2.1,1)) else
 (s.1,mP p.2.2.2.1.2.1 s.2.1,s.2.2)
def gr (pre:aW):aW→Gs→Gs
 | [],s=>s
 | p::r,s=>bif s.2.2 != 0 then s else gr (pre++[p]) r (iB pre p s)
theorem AN {pre:aW} {s:Gs} (h:s.2.2≠0):∀ r:aW,gr pre r s=s
 | []=>rfl
 | p::r=>by unfold gr;rw [show (s.2.2 != 0)=true from bne_iff_ne.2 h];rfl
theorem ES (pre:aW) (p:Ty.d aC) (r:aW) (s:Gs):gr pre (p::r) s=bif s.2.2 != 0 then s else gr (pre++[p]) r (iB pre p s):=rfl
theorem rl:∀ (a b pre:aW) (s:Gs),gr pre (a++b) s=gr (pre++a) b (gr pre a s)
 | [],b,pre,s=>by rw [List.append_nil];rfl
 | p::a,b,pre,s=>by
  rw [List.cons_append,ES,ES pre p a]
  by_cases c:s.2.2=0
  · rw [show (s.2.2 != 0)=false by rw [c];rfl,aK,aK,rl a b,nn]
    rfl
  · rw [show (s.2.2 != 0)=true from bne_iff_ne.2 c,ac,ac]
    exact (AN c _).symm
theorem rK (all:aW):∀ (r:aW) (i:Nat) (d:aR) (la c:Int),all.drop i=r→i≤all.length →
 gV all r i d la c=(let s:=gr (all.take i) r (d,la,c);bif s.2.2==0&&decide ((bK all).length > 0) then (s.1,(s.2.1,(1,()))) else (s.1,(s.2.1,(s.2.2,()))))
 | [],i,d,la,c,_,_=>rfl
 | p::r,i,d,la,c,h,hi=>by
  have hlt:i<all.length:=by
   have:=congrArg List.length h
   rw [List.length_drop,kJ] at this
   omega
  have ht:all.take (i+1)=all.take i++[p]:=by
   have e:all[i]=p:=by
    have:=List.drop_eq_getElem_cons hlt
    rw [h] at this
    injection this with w _
    exact w.symm
   rw [List.take_succ_eq_append_getElem hlt,e]
  have hd:all.drop (i+1)=r:=by rw [← List.drop_drop,h];rfl
  have ih:=fun d' la' c'=>rK all r (i+1) d' la' c' hd hlt
  unfold gV gr
  by_cases c0:c=0
  · subst c0
    simp only [bne_self_eq_false,aK]
    rw [← ht]
    unfold iB
    cases p.2.2.2.1.1==3 with
    | true =>
     simp only [ac]
     cases gO p.2.2.2.1 (eJ p.2.2.2.1.2.1 (all.take i)) <;> exact ih _ _ _
    | false =>
     simp only [aK]
     cases p.2.2.2.1.1==5 with
     | true =>
      simp only [ac]
      cases gO p.2.2.2.1 (bK (all.take i)) <;> exact ih _ _ _
     | false=>exact ih _ _ _
  · have e1:(c != 0)=true:=bne_iff_ne.2 c0
    have e2:(c==0)=false:=mF c0
    simp only [e1,ac,e2,Bool.false_and,aK]
theorem Cj {pl:aW} {d:aR} {la:Int} (h:gr [] pl ([],0,0)=(d,la,0)) (hm:bK pl=[]):eD ([],(0,(0,()))) pl=(d,(la,(0,()))):=by
 have e:eD ([],(0,(0,()))) pl=(bif (gr [] pl ([],0,0)).2.2==0&&decide ((bK pl).length > 0) then ((gr [] pl ([],0,0)).1,((gr [] pl ([],0,0)).2.1,(1,()))) else ((gr [] pl ([],0,0)).1,((gr [] pl ([],0,0)).2.1,((gr [] pl ([],0,0)).2.2,())))):=rK pl pl 0 [] 0 0 rfl (Nat.zero_le _)
 rw [e,h,hm]
 rfl
theorem vq {g:aR} {la0:Int} {pl:aW} (h:(eD (g,(la0,(0,()))) pl).2.2.1=0):gr [] pl (g,la0,0)=((eD (g,(la0,(0,()))) pl).1,(eD (g,(la0,(0,()))) pl).2.1,0)∧bK pl=[]:=by
 have e:=rK pl pl 0 g la0 0 rfl (Nat.zero_le _)
 have e:eD (g,(la0,(0,()))) pl=(let s:=gr [] pl (g,la0,0);bif s.2.2==0&&decide ((bK pl).length > 0) then (s.1,(s.2.1,(1,()))) else (s.1,(s.2.1,(s.2.2,())))):=e
 rw [e] at h ⊢
 generalize gr [] pl (g,la0,0)=s at h ⊢
 obtain ⟨a,b,c⟩:=s
 simp only [] at h ⊢
 cases q:(c==0&&decide ((bK pl).length > 0)) with
 | true=>rw [q] at h;exact absurd h (by show (1:Int)≠0;decide)
 | false =>
  rw [q] at h
  simp only [aK] at h ⊢
  subst h
  refine ⟨rfl,?_⟩
  simp only [beq_self_eq_true,Bool.true_and,decide_eq_false_iff_not] at q
  exact List.length_eq_zero_iff.1 (by omega)
theorem mA (l m:aW):bK (l++m)=m.foldl fD (bK l):=by unfold bK;rw [List.foldl_append]
theorem uX (b:Int) (l m:aW):eJ b (l++m)=m.foldl (eA b) (eJ b l):=by unfold eJ;rw [List.foldl_append]
def plain (p:Ty.d aC):Prop:=p.2.2.2.1.1=1∨p.2.2.2.1.1=2
theorem C1 {p:Ty.d aC} (h:plain p):(p.2.2.2.1.1==3)=false∧(p.2.2.2.1.1==4)=false∧(p.2.2.2.1.1==5)=false∧(p.2.2.2.1.1==1||p.2.2.2.1.1==2)=true:=by
 rcases h with q | q <;> rw [q] <;> exact ⟨rfl,rfl,rfl,rfl⟩
theorem x_:∀ (q pre:aW) (d:aR) (la:Int),(∀ p ∈ q,plain p)→∃ la',gr pre q (d,la,0)=(d,la',0)
 | [],_,d,la,_=>⟨la,rfl⟩
 | p::q,pre,d,la,h=>by
  obtain ⟨h3,h4,h5,_⟩:=C1 (h p jd)
  obtain ⟨la',e⟩:=x_ q (pre++[p]) d (mP p.2.2.2.1.2.1 la) fun x hx=>h x (lK _ hx)
  refine ⟨la',?_⟩
  unfold gr iB
  rw [h3,h5]
  exact e
theorem vS:∀ (q:aW) (acc:aW),(∀ p ∈ q,p.2.2.2.1.1≠4∧p.2.2.2.1.1≠5)→q.foldl fD acc=acc
 | [],_,_=>rfl
 | p::q,acc,h=>by
  obtain ⟨h4,h5⟩:=h p jd
  rw [List.foldl_cons,show fD acc p=acc by unfold fD;rw [mF h4,mF h5];rfl]
  exact vS q acc fun x hx=>h x (lK _ hx)
theorem vi {b:Int}:∀ (q:aW) (acc:aW),(∀ p ∈ q,p.2.2.2.1.2.1≠b)→q.foldl (eA b) acc=acc
 | [],_,_=>rfl
 | p::q,acc,h=>by
  rw [List.foldl_cons,show eA b acc p=acc by unfold eA;rw [mF (h p jd)];rfl]
  exact vi q acc fun x hx=>h x (lK _ hx)
theorem B4 {b:Int}:∀ (q:aW) (acc:aW),(∀ p ∈ q,plain p∧p.2.2.2.1.2.1=b)→q.foldl (eA b) acc=acc++q
 | [],acc,_=>(List.append_nil acc).symm
 | p::q,acc,h=>by
  obtain ⟨h1,h2⟩:=h p jd
  obtain ⟨h3,h4,h5,h6⟩:=C1 h1
  rw [List.foldl_cons,show eA b acc p=acc++[p] by unfold eA;rw [h2,beq_self_eq_true,h3,h6];rfl]
  rw [B4 q (acc++[p]) fun x hx=>h x (lK _ hx),nn]
  rfl
theorem uO {b:Int}:∀ (l:aW) (acc:aW),(∀ p ∈ acc,plain p)→∀ p ∈ l.foldl (eA b) acc,plain p∧(p ∈ acc∨p ∈ l)
 | [],acc,h,p,hp=>⟨h p hp,.inl hp⟩
 | x::l,acc,h,p,hp=>by
  rw [List.foldl_cons] at hp
  have hs:∀ q ∈ eA b acc x,plain q∧(q ∈ acc∨q=x):=fun q hq=>by
   unfold eA at hq
   cases c1:x.2.2.2.1.2.1==b with
   | false=>rw [c1] at hq;exact ⟨h q hq,.inl hq⟩
   | true =>
    rw [c1,ac] at hq
    cases c2:x.2.2.2.1.1==3 with
    | true=>rw [c2] at hq;cases hq
    | false =>
     rw [c2,aK] at hq
     cases c3:x.2.2.2.1.1==1||x.2.2.2.1.1==2 with
     | false=>rw [c3] at hq;exact ⟨h q hq,.inl hq⟩
     | true =>
      rw [c3,ac] at hq
      rcases List.mem_append.1 hq with w | w
      · exact ⟨h q w,.inl w⟩
      · rw [List.mem_singleton.1 w]
        simp only [Bool.or_eq_true,beq_iff_eq] at c3
        exact ⟨c3,.inr rfl⟩
  obtain ⟨g1,g2⟩:=uO l (eA b acc x) (fun q hq=>(hs q hq).1) p hp
  refine ⟨g1,?_⟩
  rcases g2 with w | w
  · rcases (hs p w).2 with v | v
    · exact .inl v
    · rw [v];exact .inr jd
  · exact .inr (lK _ w)
theorem uC:∀ (l:aW) (acc:aW),(∀ p ∈ acc,p.2.2.2.1.1=4)→∀ p ∈ l.foldl fD acc,p.2.2.2.1.1=4∧(p ∈ acc∨p ∈ l)
 | [],acc,h,p,hp=>⟨h p hp,.inl hp⟩
 | x::l,acc,h,p,hp=>by
  rw [List.foldl_cons] at hp
  have hs:∀ q ∈ fD acc x,q.2.2.2.1.1=4∧(q ∈ acc∨q=x):=fun q hq=>by
   unfold fD at hq
   cases c2:x.2.2.2.1.1==5 with
   | true=>rw [c2] at hq;cases hq
   | false =>
    rw [c2,aK] at hq
    cases c3:x.2.2.2.1.1==4 with
    | false=>rw [c3] at hq;exact ⟨h q hq,.inl hq⟩
    | true =>
     rw [c3,ac] at hq
     rcases List.mem_append.1 hq with w | w
     · exact ⟨h q w,.inl w⟩
     · rw [List.mem_singleton.1 w]
       exact ⟨Hi c3,.inr rfl⟩
  obtain ⟨g1,g2⟩:=uC l (fD acc x) (fun q hq=>(hs q hq).1) p hp
  refine ⟨g1,?_⟩
  rcases g2 with w | w
  · rcases (hs p w).2 with v | v
    · exact .inl v
    · rw [v];exact .inr jd
  · exact .inr (lK _ w)
def EP (pl:aW) (d:aR):Prop:=∀ e ∈ d,∃ p ∈ pl,e=eP p∧(p.2.2.2.1.1=1∨p.2.2.2.1.1=4)
theorem vR {pl:aW}:∀ (own:aW) {d:aR},EP pl d→(∀ p ∈ own,p ∈ pl∧(p.2.2.2.1.1=1∨p.2.2.2.1.1=2∨p.2.2.2.1.1=4))→EP pl (bL d own)
 | [],d,h,_=>h
 | p::own,d,h,ho=>by
  refine vR own (d:=fI d p) (fun e he=>?_) fun q hq=>ho q (lK _ hq)
  obtain ⟨k1,k2⟩:=ho p jd
  unfold fI at he
  cases c:p.2.2.2.1.1==2 with
  | true=>rw [c,ac] at he;exact h e (List.mem_filter.1 he).1
  | false =>
   rw [c,aK] at he
   unfold pV at he
   rcases E7 he with w | w
   · refine ⟨p,k1,w,?_⟩
     rcases k2 with q | q | q
     · exact .inl q
     · rw [q] at c;cases c
     · exact .inr q
   · exact h e (List.mem_filter.1 w).1
theorem Gv (all:aW):∀ (r pre:aW) (s:Gs),(∀ p ∈ pre,p ∈ all)→(∀ p ∈ r,p ∈ all)→EP all s.1→cW (iO s.1)→s.1.length≤20→(gr pre r s).2.2=0→EP all (gr pre r s).1∧cW (iO (gr pre r s).1)∧(gr pre r s).1.length≤20
 | [],pre,s,_,_,h1,h2,h3,_=>⟨h1,h2,h3⟩
 | p::r,pre,s,hp,hr,h1,h2,h3,z=>by
  by_cases c:s.2.2=0
  · have e:gr pre (p::r) s=gr (pre++[p]) r (iB pre p s):=by
     show (bif s.2.2 != 0 then _ else _)=_
     rw [c];rfl
    rw [e] at z ⊢
    have z0:(iB pre p s).2.2=0:=by
     by_cases w:(iB pre p s).2.2=0
     · exact w
     · rw [AN w] at z
       exact absurd z w
    have hs:EP all (iB pre p s).1∧cW (iO (iB pre p s).1)∧(iB pre p s).1.length≤20:=by
     have hc:∀ {x:aR},kN x s.2.2=0→x.length≤20:=fun {x} q=>by
      unfold kN at q
      split at q
      · cases q
      · omega
     unfold iB at z0 ⊢
     cases c3:p.2.2.2.1.1==3 with
     | true =>
      rw [c3] at z0
      simp only [ac] at z0 ⊢
      cases c4:gO p.2.2.2.1 (eJ p.2.2.2.1.2.1 pre) with
      | true =>
       rw [c4] at z0
       exact ⟨vR _ h1 fun q hq=>by
        obtain ⟨g1,g2⟩:=uO pre [] (fun _ w=>by cases w) q hq
        refine ⟨hp q (g2.resolve_left fun w=>by cases w),?_⟩
        rcases g1 with w | w
        · exact .inl w
        · exact .inr (.inl w),oW _ h2,hc z0⟩
      | false=>exact ⟨h1,h2,h3⟩
     | false =>
      rw [c3] at z0
      simp only [aK] at z0 ⊢
      cases c5:p.2.2.2.1.1==5 with
      | true =>
       rw [c5] at z0
       simp only [ac] at z0 ⊢
       cases c4:gO p.2.2.2.1 (bK pre) with
       | true =>
        rw [c4] at z0
        exact ⟨vR _ h1 fun q hq=>by
         obtain ⟨g1,g2⟩:=uC pre [] (fun _ w=>by cases w) q hq
         exact ⟨hp q (g2.resolve_left fun w=>by cases w),.inr (.inr g1)⟩,oW _ h2,hc z0⟩
       | false=>exact ⟨h1,h2,h3⟩
      | false=>exact ⟨h1,h2,h3⟩
    exact Gv all r (pre++[p]) (iB pre p s) (fun q hq=>by
     rcases List.mem_append.1 hq with w | w
     · exact hp q w
     · rw [List.mem_singleton.1 w];exact hr p jd) (fun q hq=>hr q (lK _ hq)) hs.1 hs.2.1 hs.2.2 z
  · rw [AN c] at z
    exact absurd z c
theorem JY (a b:Int):a≤mP a b∧b≤mP a b:=by unfold mP;split <;> omega
theorem FI (pre:aW) (p:Ty.d aC) (s:Gs):(iB pre p s).2.1=mP p.2.2.2.1.2.1 s.2.1:=by
 unfold iB
 cases p.2.2.2.1.1==3
 · cases p.2.2.2.1.1==5
   · rfl
   · cases gO p.2.2.2.1 (bK pre) <;> rfl
 · cases gO p.2.2.2.1 (eJ p.2.2.2.1.2.1 pre) <;> rfl
theorem zg:∀ (r pre:aW) (s:Gs),(gr pre r s).2.2=0→s.2.1≤(gr pre r s).2.1∧(∀ p ∈ r,LE.le (α:=Int) p.2.2.2.1.2.1 (gr pre r s).2.1)∧∀ b:Int,s.2.1≤b→(∀ p ∈ r,LE.le (α:=Int) p.2.2.2.1.2.1 b)→(gr pre r s).2.1≤b
 | [],pre,s,_=>⟨Int.le_refl _,fun p hp=>(by cases hp),fun b h _=>h⟩
 | p::r,pre,s,z=>by
  by_cases c:s.2.2=0
  · have e:gr pre (p::r) s=gr (pre++[p]) r (iB pre p s):=by
     show (bif s.2.2 != 0 then _ else _)=_
     rw [c];rfl
    rw [e] at z ⊢
    obtain ⟨i1,i2,i3⟩:=zg r (pre++[p]) (iB pre p s) z
    rw [FI] at i1 i3
    have hm:=JY p.2.2.2.1.2.1 s.2.1
    refine ⟨by omega,fun q hq=>?_,fun b h0 hb=>i3 b ?_ fun q hq=>hb q (lK _ hq)⟩
    · rcases List.mem_cons.1 hq with w | w
      · rw [w];exact Int.le_trans hm.1 i1
      · exact i2 q w
    · have:=hb p jd
      unfold mP
      split
      · exact this
      · exact h0
  · rw [AN c] at z
    exact absurd z c
structure JT (pl:aW) (dir:aR) (b:Int):Prop where
 gr:∃ la,gr [] pl ([],0,0)=(dir,la,0)
 mark:bK pl=[]
 bat:∀ p ∈ pl,LT.lt (α:=Int) p.2.2.2.1.2.1 b
 lo:LE.le (α:=Int) 1 b
 hi:LE.le (α:=Int) b 1000001
def MI (st:Ty.d aE) (d:Ty.d aA):Prop:=∃ L,TX st d L∧JT (jb L) st.2.1 st.2.2.1
theorem Hq {r:Ty.d b7} (h:bm r=true) (hk:r.1=1∨r.1=4):lH r.2.2.1=true∧decide ((1:Int)≤r.2.1∧r.2.1≤1000000)=true:=by
 have hb:(r.1==1||r.1==4)=true:=by rcases hk with q | q <;> rw [q] <;> rfl
 unfold bm at h
 rw [hb,ac] at h
 simp only [gN] at h
 exact ⟨h.1,h.2.2.2.2⟩
theorem MI.store {st:Ty.d aE} {d:Ty.d aA} (h:MI st d):d9 st d=true∧EI st:=by
 obtain ⟨L,t,j⟩:=h
 obtain ⟨la,hg⟩:=j.gr
 obtain ⟨n1,n2,n3,_⟩:=iG (n:=st.1.1) (ids:=st.1.2.1) t.live
 obtain ⟨_,_,g1,_,_⟩:=bQ (nx:=st.1.1) (ids:=st.1.2.1) t.live
 obtain ⟨e1,e2,e3⟩:=Gv (jb L) (jb L) [] ([],0,0) (fun p hp=>by cases hp) (fun p hp=>hp) (fun e he=>by cases he) List.Pairwise.nil (by decide) (by rw [hg])
 rw [hg] at e1 e2 e3
 have e1:EP (jb L) st.2.1:=e1
 have e2:cW (iO st.2.1):=e2
 have e3:st.2.1.length≤20:=e3
 have hb:=t.bt
 refine ⟨?_,fun e he=>?_⟩
 · unfold d9
   rw [jP.2 t.disk,t.live,rt.2 ⟨e3,fun e he=>?_,e2⟩,aO ⟨j.lo,j.hi⟩,(sa t.disk).2 ⟨hb.full,fun _=>hb.tail⟩]
   · simp only [Bool.true_and]
     rw [List.all_eq_true]
     intro e he
     obtain ⟨p,hp,q,hk⟩:=e1 e he
     have pi:=sd t hp
     unfold m0
     rw [q,pi.read]
     have hbt:=j.bat p hp
     show (true&&(seq (fX p).2.2.1 (fX p).2.2.1&&(((fX p).2.1==(fX p).2.1)&&((((fX p).1==1)||((fX p).1==4))&&!decide ((fX p).2.1≥st.2.2.1)))))=true
     rw [bX,beq_self_eq_true,aP (show ¬ (fX p).2.1≥st.2.2.1 from Int.not_le.2 hbt)]
     rcases hk with w | w
     · rw [show (fX p).1=1 from w];rfl
     · rw [show (fX p).1=4 from w];rfl
   · obtain ⟨p,hp,q,hk⟩:=e1 e he
     have pi:=sd t hp
     obtain ⟨k1,k2⟩:=Hq pi.ok hk
     rw [q]
     unfold J2
     show (lH (fX p).2.2.1&&(decide ((1:Int)≤p.1∧p.1≤100000)&&(!decide (p.2.1<(0:Int))&&(decide ((1:Int)≤p.2.2.1∧p.2.2.1≤210)&&decide ((1:Int)≤(fX p).2.1∧(fX p).2.1≤1000000)))))=true
     rw [k1,k2,aO ⟨pi.lo,An pi.hi n2⟩,aP (Int.not_lt.2 pi.at0),aO ⟨pi.len0,pi.len1⟩]
     rfl
 · obtain ⟨p,hp,q,_⟩:=e1 e he
   have pi:=sd t hp
   rw [q]
   exact ⟨pi.lo,pi.hi⟩
theorem vH {ids:List Int} {L:qD} (h:ids=L.map (·.1)) (h1:1≤ids.length):∃ L0 x,L=L0++[x]∧aZ ids=x.1:=by
 rcases List.eq_nil_or_concat L with e | ⟨L0,x,e⟩
 · rw [h,e] at h1
   cases h1
 · rw [List.concat_eq_append] at e
   refine ⟨L0,x,e,?_⟩
   rw [h,e,List.map_append,List.map_singleton,rW]
theorem Aj (x:Int) (rs:j7) (r:Ty.d b7):um (x,rs++[r])=um (x,rs)++[(x,(((aX rs).size:Int),(aw r,(r,()))))]:=by
 unfold um b9
 show List.map _ (fH (rs++[r]) 0)=List.map _ (fH rs 0)++_
 rw [yu,List.map_append,Int.zero_add]
 rfl
theorem xR (L:qD) (x:Int × j7):jb (L++[x])=jb L++um x:=by
 rw [E4]
 show jb L++(um x++[])=_
 rw [List.append_nil]
theorem Ge {st:Ty.d aE} {d:Ty.d aA} {L:qD} (h:TX st d L) {r:Ty.d b7} (hr:bm r=true) :
 ∃ L',TX (jQ st d r).1.1 (jQ st d r).1.2.1 L'∧jb L'=jb L++(bif (jQ st d r).1.2.2==0 then [(jQ st d r).2] else [])∧((jQ st d r).1.2.2=0→fX (jQ st d r).2=r):=by
 obtain ⟨n1,n2,n3,n4⟩:=iG (n:=st.1.1) (ids:=st.1.2.1) h.live
 obtain ⟨_,_,g1,_,_⟩:=bQ (nx:=st.1.1) (ids:=st.1.2.1) h.live
 obtain ⟨L0,x,eL,el⟩:=vH h.ids g1
 have ha:=oj h.disk (cj st) (aQ (aG r))
 have ko:∀ s,cj st≠s→fT (iH d (cj st) (aQ (aG r))).1 s=fT d s:=fun s q=>xB q
 have kl:=sI (d:=d) (s:=cj st) (x:=aQ (aG r))
 have hact:cj st=a_ aF x.1:=by unfold cj;rw [el]
 unfold jQ
 generalize iH d (cj st) (aQ (aG r))=a at ha ko kl ⊢
 cases c:a.2 != 0 with
 | true =>
  have c0:(a.2==0)=false:=by unfold bne at c;simpa using c
  rw [c0,aK] at kl
  have all:∀ s,fT a.1 s=fT d s:=fun s=>by
   by_cases q:cj st=s
   · rw [← q];exact kl
   · exact ko s q
  have ht:((tl a).2==0)=false:=by
   have:=wL a
   rw [c] at this
   unfold bne at this
   simpa using this
  refine ⟨L,⟨h.live,ha,h.ids,fun y hy=>⟨(all _).trans (h.text y hy).1,(h.text y hy).2⟩,fun t q=>h.tail t ((all _).symm.trans q)⟩,?_,fun q=>?_⟩
  · show jb L=jb L++(bif (tl a).2==0 then _ else [])
    rw [ht,aK,List.append_nil]
  · have q:(tl a).2=0:=q
    rw [q] at ht
    cases ht
 | false =>
  have c0:(a.2==0)=true:=beq_iff_eq.2 (gn c)
  have hx:x ∈ L:=by rw [eL];exact List.mem_append_right _ jd
  obtain ⟨x1,x2⟩:=h.text x hx
  rw [c0,ac,hact,x1] at kl
  have kl:fT a.1 (a_ aF x.1)=some (aX x.2++aQ (aG r)):=kl
  have e2:aX (x.2++[r])=aX x.2++aQ (aG r):=by rw [nJ,xK]
  have hsz:st.2.2.2.1=((aX x.2).size:Int):=h.tail _ (by rw [hact];exact x1)
  have hm:x.1 ∈ st.1.2.1:=by rw [h.ids];exact List.mem_map.2 ⟨x,hx,rfl⟩
  simp only [aK]
  refine ⟨L0++[(x.1,x.2++[r])],⟨h.live,ha,?_,fun y hy=>?_,fun t q=>?_⟩,?_,fun _=>rfl⟩
  · show st.1.2.1=_
    rw [h.ids,eL,List.map_append,List.map_append]
    rfl
  · rcases List.mem_append.1 hy with w | w
    · have hyL:y ∈ L:=by rw [eL];exact List.mem_append_left _ w
      have hym:y.1 ∈ st.1.2.1:=by rw [h.ids];exact List.mem_map.2 ⟨y,hyL,rfl⟩
      have hne:y.1≠x.1:=by
       have hp:=n4
       rw [h.ids,eL,List.map_append] at hp
       have:=(List.pairwise_append.1 hp).2.2 y.1 (List.mem_map.2 ⟨y,w,rfl⟩) x.1 jd
       omega
      refine ⟨?_,(h.text y hyL).2⟩
      show fT a.1 (a_ aF y.1)=_
      rw [ko _ (by rw [hact];exact mg ⟨(n3 _ hm).1,An (n3 _ hm).2 n2⟩ ⟨(n3 _ hym).1,An (n3 _ hym).2 n2⟩ fun q=>hne q.symm)]
      exact (h.text y hyL).1
    · rw [List.mem_singleton.1 w]
      refine ⟨by show fT a.1 (a_ aF x.1)=some (aX (x.2++[r]));rw [kl,e2],fun q hq=>?_⟩
      rcases List.mem_append.1 hq with v | v
      · exact x2 q v
      · rw [List.mem_singleton.1 v];exact hr
  · have q:fT a.1 (cj st)=some t:=q
    rw [hact,kl] at q
    rw [← Option.some.inj q,ByteArray.size_append]
    show @Eq Int (st.2.2.2.1+aw r) (((aX x.2).size+(aQ (aG r)).size:Nat):Int)
    rw [hsz]
    unfold aw
    omega
  · show jb (L0++[(x.1,x.2++[r])])=jb L++[(aZ st.1.2.1,(st.2.2.2.1,(aw r,(r,()))))]
    rw [xR,Aj,eL,xR,nn,el,hsz]
theorem K7 {st:Ty.d aE} {d:Ty.d aA} {L:qD} (h:TX st d L):∃ L',TX (jc st d).1 (jc st d).2.1 L'∧jb L'=jb L:=by
 obtain ⟨n1,n2,n3,n4⟩:=iG (n:=st.1.1) (ids:=st.1.2.1) h.live
 obtain ⟨f1,f2,_,_⟩:=qi h.live h.disk
 have hseg:∀ x:Int,x ∈ st.1.2.1→1≤x∧x≤100000:=fun x hx=>⟨(n3 x hx).1,An (n3 x hx).2 n2⟩
 have hnew:∀ x ∈ st.1.2.1,a_ aF st.1.1≠a_ aF x:=fun x hx=>mg ⟨n1,n2⟩ (hseg x hx) (by have:=(n3 x hx).2;omega)
 have k1:∀ x ∈ st.1.2.1,fT (fj d (cj st)).1 (a_ aF x)=fT d (a_ aF x):=fun x hx=>lE
 have k2:∀ x ∈ st.1.2.1,fT (bM (a_ aF st.1.1) (fj d (cj st)).1).1 (a_ aF x)=fT d (a_ aF x):=fun x hx=>(l9 (hnew x hx)).trans lE
 have k3:∀ x ∈ st.1.2.1,fT (bf (kM st) (bM (a_ aF st.1.1) (fj d (cj st)).1).1).1 (a_ aF x)=fT d (a_ aF x):=fun x hx=>(gj (gZ (hseg x hx)) (iX (hseg x hx))).trans (k2 x hx)
 have o2:=lZ (s:=a_ aF st.1.1) (d:=(fj d (cj st)).1)
 have o3:fT (bf (kM st) (bM (a_ aF st.1.1) (fj d (cj st)).1).1).1 (a_ aF st.1.1)=fT (bM (a_ aF st.1.1) (fj d (cj st)).1).1 (a_ aF st.1.1):=gj (gZ ⟨n1,n2⟩) (iX ⟨n1,n2⟩)
 obtain ⟨_,_,g1,_,_⟩:=bQ (nx:=st.1.1) (ids:=st.1.2.1) h.live
 obtain ⟨L0,x,eL,el⟩:=vH h.ids g1
 have hmem:∀ y ∈ L,y.1 ∈ st.1.2.1:=fun y hy=>by rw [h.ids];exact List.mem_map.2 ⟨y,hy,rfl⟩
 have hx:x ∈ L:=by rw [eL];exact List.mem_append_right _ jd
 have same:∀ (st':Ty.d aE) (y:Ty.d aA),cS st'.1=true→DR y→st'.1.2.1=st.1.2.1→st'.2.2.2.1=st.2.2.2.1→(∀ x ∈ st.1.2.1,fT y (a_ aF x)=fT d (a_ aF x))→∃ L',TX st' y L'∧jb L'=jb L:=fun st' y hl hd hi hs hk =>
  ⟨L,⟨hl,hd,hi.trans h.ids,fun z hz=>⟨(hk _ (hmem z hz)).trans (h.text z hz).1,(h.text z hz).2⟩,fun t q=>by
   rw [hs]
   refine h.tail t ?_
   have e:cj st'=a_ aF x.1:=by unfold cj;rw [hi,el]
   have e':cj st=a_ aF x.1:=by unfold cj;rw [el]
   rw [e,hk _ (hmem x hx)] at q
   rw [e']
   exact q⟩,rfl⟩
 unfold jc at f1 f2 ⊢
 by_cases c1:(st.1.2.1.length:Int)≥60
 · rw [aO c1]
   exact ⟨L,h,rfl⟩
 by_cases c2:st.1.1≥(100000:Int)
 · rw [aP c1,aO c2]
   exact ⟨L,h,rfl⟩
 rw [aP c1,aP c2] at f1 f2 ⊢
 simp only [aK] at f1 f2 ⊢
 generalize fj d (cj st)=r1 at k1 k2 k3 o2 o3 f1 f2 ⊢
 generalize bM (a_ aF st.1.1) r1.1=r2 at k2 k3 o2 o3 f1 f2 ⊢
 generalize bf (kM st) r2.1=r3 at k3 o3 f1 f2 ⊢
 cases e1:r1.2 != 0 with
 | true=>rw [e1] at f1 f2;exact same _ _ f1 f2 rfl rfl k1
 | false =>
  rw [e1] at f1 f2
  simp only [aK] at f1 f2 ⊢
  cases e2:r2.2 != 0 with
  | true=>rw [e2] at f1 f2;exact same _ _ f1 f2 rfl rfl k2
  | false =>
   rw [e2] at f1 f2
   simp only [aK] at f1 f2 ⊢
   cases e3:r3.2 != 0 with
   | true =>
    rw [e3] at f1 f2
    refine same _ _ f1 f2 rfl rfl fun y hy=>?_
    show fT (nW (a_ aF st.1.1) (tl r3)).1 _=_
    unfold nW
    cases (tl r3).2==2 with
    | false=>exact k3 y hy
    | true =>
     refine (m6 [iK,a_ aF st.1.1] r3.1 fun s hs=>?_).trans (k3 y hy)
     rcases List.mem_cons.1 hs with e | e
     · rw [e];exact gZ (hseg y hy)
     · rw [List.mem_singleton.1 e];exact hnew y hy
   | false =>
    rw [e3] at f1 f2
    have o2:=o2 (gn e2)
    refine ⟨L++[(st.1.1,[])],⟨f1,f2,?_,fun y hy=>?_,fun u hu=>?_⟩,?_⟩
    · show st.1.2.1++[st.1.1]=_
      rw [List.map_append,← h.ids]
      rfl
    · rcases List.mem_append.1 hy with w | w
      · exact ⟨(k3 _ (hmem y w)).trans (h.text y w).1,(h.text y w).2⟩
      · rw [List.mem_singleton.1 w]
        exact ⟨o3.trans o2,fun q hq=>by cases hq⟩
    · have hu:fT r3.1 (a_ aF (aZ (st.1.2.1++[st.1.1])))=some u:=hu
      rw [rW,o3,o2] at hu
      rw [← Option.some.inj hu]
      rfl
    · rw [xR]
      exact List.append_nil _
theorem JX {st:Ty.d aE} {d:Ty.d aA} {L:qD} (h:TX st d L) {r:Ty.d b7} (hr:bm r=true) :
 ∃ L',TX (fc st d r).1.1 (fc st d r).1.2.1 L'∧jb L'=jb L++(bif (fc st d r).1.2.2==0 then [(fc st d r).2] else [])∧((fc st d r).1.2.2=0→fX (fc st d r).2=r):=by
 unfold fc
 cases decide (st.2.2.2.1 > 0)&&decide (st.2.2.2.1+aw r > 200) with
 | false=>exact Ge h hr
 | true =>
  simp only [ac]
  obtain ⟨L1,t1,e1⟩:=K7 h
  generalize jc st d=q at t1 ⊢
  cases c:q.2.2 != 0 with
  | true =>
   have c0:(q.2.2==0)=false:=by unfold bne at c;simpa using c
   refine ⟨L1,t1,?_,fun z=>?_⟩
   · show jb L1=jb L++(bif q.2.2==0 then _ else [])
     rw [c0,aK,List.append_nil,e1]
   · have z:q.2.2=0:=z
     rw [z] at c0
     cases c0
  | false =>
   simp only [aK]
   obtain ⟨L2,t2,e2,e3⟩:=Ge t1 hr
   exact ⟨L2,t2,by rw [e2,e1],e3⟩
theorem EA:∀ (l:j7) (st:Ty.d aE) (d:Ty.d aA) (ps:aW) (L:qD),TX st d L→(∀ r ∈ l,bm r=true) →
 ∃ L' q,TX (ek l st d ps).1.1 (ek l st d ps).1.2.1 L'∧jb L'=jb L++q∧q.map fX=l.take q.length∧((ek l st d ps).1.2.2=0→(ek l st d ps).2=ps++q∧q.length=l.length)∧((ek l st d ps).1.2.2≠0→q.length<l.length)
 | [],st,d,ps,L,h,_=>⟨L,[],h,(List.append_nil _).symm,rfl,fun _=>⟨(List.append_nil _).symm,rfl⟩,fun z=>absurd rfl z⟩
 | r::l,st,d,ps,L,h,hr=>by
  obtain ⟨L1,t1,e1,e2⟩:=JX h (hr r jd)
  unfold ek
  generalize fc st d r=a at t1 e1 e2 ⊢
  cases c:a.1.2.2 != 0 with
  | true =>
   have c0:(a.1.2.2==0)=false:=by unfold bne at c;simpa using c
   rw [c0,aK] at e1
   refine ⟨L1,[],t1,e1,rfl,fun z=>?_,fun _=>Nat.zero_lt_succ _⟩
   have z:a.1.2.2=0:=z
   rw [z] at c0
   cases c0
  | false =>
   have c0:=gn c
   rw [show (a.1.2.2==0)=true from beq_iff_eq.2 c0,ac] at e1
   obtain ⟨L2,q,t2,f1,f2,f3,f4⟩:=EA l a.1.1 a.1.2.1 (ps++[a.2]) L1 t1 fun x hx=>hr x (lK _ hx)
   simp only [aK]
   refine ⟨L2,a.2::q,t2,by rw [f1,e1,nn];rfl,?_,fun z=>?_,fun z=>?_⟩
   · rw [List.map_cons,kJ,List.take_succ_cons,f2,e2 c0]
   · obtain ⟨g1,g2⟩:=f3 z
     exact ⟨by rw [g1,nn];rfl,by rw [kJ,kJ,g2]⟩
   · have:=f4 z
     rw [kJ,kJ]
     omega
structure DS (d:Ty.d aA):Prop where
 l:d.1.length≤131
 u:dy d.1≤200000
 n:pE d.1≤10000
theorem DS.sz {d:Ty.d aA} (h:DS d):AM d:=⟨by have:=h.l;omega,by have:=h.u;omega,by have:=h.n;omega⟩
inductive CE (st:Ty.d aE) (d:Ty.d aA) (l:lA):Prop
 | no (c:Int) (hc:c=4∨c=5) (e:fm st d l=(st,(d,c)))
 | none (hs:d9 st d=true) (hl:l.length=0) (e:fm st d l=(st,(d,0)))
 | done (hs:d9 st d=true) (hp:ju l=true) (hl:l.length≠0) (ha:lX st.2.1 l≤20) (hb:LE.le (α:=Int) st.2.2.1 1000000) (e:fm st d l=gD st d l)
theorem CH (st:Ty.d aE) (d:Ty.d aA) (l:lA):CE st d l:=by
 cases c1:d9 st d with
 | false=>exact .no 4 (.inl rfl) (by unfold fm;rw [c1];rfl)
 | true =>
  cases c2:ju l with
  | false=>exact .no 4 (.inl rfl) (by unfold fm;rw [c1,c2];rfl)
  | true =>
   by_cases c3:l.length=0
   · exact .none c1 c3 (by unfold fm;rw [c1,c2,c3];rfl)
   · have c3':((l.length:Int)==0)=false:=mF (by omega)
     by_cases c4:lX st.2.1 l > 20
     · exact .no 5 (.inr rfl) (by unfold fm;rw [c1,c2,c3',aO c4];rfl)
     · by_cases c5:st.2.2.1 > (1000000:Int)
       · exact .no 5 (.inr rfl) (by unfold fm;rw [c1,c2,c3',aP c4,aO c5];rfl)
       · exact .done c1 c2 c3 (by omega) (Int.not_lt.1 c5) (by unfold fm;rw [c1,c2,c3',aP c4,aP c5];rfl)
theorem Fq (st:Ty.d aE) (d:Ty.d aA):(jc st d).1.2.2.1=st.2.2.1:=by
 unfold jc
 cases decide ((st.1.2.1.length:Int)≥60) with
 | true=>rfl
 | false =>
  cases decide (st.1.1≥(100000:Int)) with
  | true=>rfl
  | false =>
   simp only [aK]
   generalize fj d (cj st)=r1
   generalize bM (a_ aF st.1.1) r1.1=r2
   generalize bf (kM st) r2.1=r3
   cases r1.2 != 0 with
   | true=>rfl
   | false =>
    cases r2.2 != 0 with
    | true=>rfl
    | false =>
     cases r3.2 != 0 with
     | true=>rfl
     | false=>rfl
theorem ya (st:Ty.d aE) (d:Ty.d aA) (r:Ty.d b7):(jQ st d r).1.1.2.2.1=st.2.2.1:=by
 unfold jQ
 generalize iH d (cj st) (aQ (aG r))=a
 cases a.2 != 0 <;> rfl
theorem FX (st:Ty.d aE) (d:Ty.d aA) (r:Ty.d b7):(fc st d r).1.1.2.2.1=st.2.2.1:=by
 have h:=Fq st d
 unfold fc
 cases decide (st.2.2.2.1 > 0)&&decide (st.2.2.2.1+aw r > 200) with
 | false=>exact ya st d r
 | true =>
  simp only [ac]
  generalize jc st d=q at h ⊢
  cases q.2.2 != 0 with
  | true=>exact h
  | false=>exact (ya q.1 q.2.1 r).trans h
theorem wJ:∀ (l:j7) (st:Ty.d aE) (d:Ty.d aA) (ps:aW),(ek l st d ps).1.1.2.2.1=st.2.2.1
 | [],_,_,_=>rfl
 | r::l,st,d,ps=>by
  have h:=FX st d r
  unfold ek
  generalize fc st d r=q at h ⊢
  cases q.1.2.2 != 0 with
  | true=>exact h
  | false=>exact (wJ l _ _ _).trans h
theorem H1 (l:lA) (b:Int):(iW l b).length=l.length+1:=by
 unfold iW
 rw [u7,List.length_map]
 rfl
def dn (d:Ty.d aA):Bool:=d.2.2.2.1
theorem GQ {d:Ty.d aA} {n t:ByteArray} (hd:DR d) (ht:fT d n=some t) (z:(fj d n).2≠0):dn (fj d n).1=true:=by
 have hn:(bh d.1 n).isNone=false:=by
  cases q:bh d.1 n with
  | none=>rw [Hs.1 q] at ht;cases ht
  | some f=>rfl
 unfold fj ij at z ⊢
 have hb:(jF d).2≠0→dn (jF d).1=true:=fun q=>by
  unfold jF at q ⊢
  rw [jP.2 hd] at q ⊢
  simp only [fh,aK] at q ⊢
  cases c1:d.2.2.2.1 with
  | true=>rfl
  | false =>
   rw [c1] at q
   simp only [aK] at q ⊢
   cases c2:(d.2.2.1==0) with
   | true=>rfl
   | false =>
    rw [c2] at q
    simp only [aK] at q
    cases c3:decide ((d.2.2.1:Int) > 0) with
    | true=>rw [c3] at q;exact absurd rfl q
    | false=>rw [c3] at q;exact absurd rfl q
 cases c:(jF d).2 != 0 with
 | true =>
  rw [ac]
  exact hb (bne_iff_ne.1 c)
 | false =>
  rw [c,aK] at z
  exfalso
  unfold uZ at z
  rw [hn] at z
  exact z rfl
theorem HN {st:Ty.d aE} {d:Ty.d aA} {L:qD} (h:TX st d L):∃ t,fT d (cj st)=some t:=by
 obtain ⟨_,_,g1,_,_⟩:=bQ (nx:=st.1.1) (ids:=st.1.2.1) h.live
 obtain ⟨L0,x,eL,el⟩:=vH h.ids g1
 exact ⟨_,by unfold cj;rw [el];exact (h.text x (by rw [eL];exact List.mem_append_right _ jd)).1⟩
theorem tW (b:Int) (x:Ty.d dI):((fe b x).1=1∨(fe b x).1=2)∧(fe b x).2.1=b:=by
 unfold fe
 cases x.2.1 with
 | true=>exact ⟨.inr rfl,rfl⟩
 | false=>exact ⟨.inl rfl,rfl⟩
theorem rE {q:aW} {l:lA} {b:Int} {n:Nat} (h:q.map fX=(l.map (fe b)).take n):∀ p ∈ q,plain p∧p.2.2.2.1.2.1=b:=fun p hp=>by
 have hm:fX p ∈ (l.map (fe b)).take n:=by rw [← h];exact List.mem_map.2 ⟨p,hp,rfl⟩
 obtain ⟨x,_,e⟩:=List.mem_map.1 (List.mem_of_mem_take hm)
 obtain ⟨h1,h2⟩:=tW b x
 rw [e] at h1 h2
 exact ⟨h1,h2⟩
theorem Fv {pre own:aW} {s:Ty.d aC} {l:lA} {b:Int} {dir:aR} {la:Int} (hp:∀ p ∈ pre,p.2.2.2.1.2.1≠b) (ho:own.map fX=l.map (fe b)) (hs:fX s=fJ 3 b (l.map (fe b))) (h20:(bL dir own).length≤20) :
 ∃ la',iB (pre++own) s (dir,la,0)=(bL dir own,la',0):=by
 have hown:∀ p ∈ own,plain p∧p.2.2.2.1.2.1=b:=rE (n:=(l.map (fe b)).length) (by rw [List.take_length];exact ho)
 have hk:s.2.2.2.1=fJ 3 b (l.map (fe b)):=hs
 have e:eJ b (pre++own)=own:=by
  rw [uX]
  show own.foldl (eA b) (pre.foldl (eA b) [])=_
  rw [vi pre [] hp,B4 own [] hown,List.nil_append]
 have hf:gO (fJ 3 b (l.map (fe b))) own=true:=by
  unfold gO fJ
  have:own.map qv=l.map (fe b):=ho
  rw [this,beq_self_eq_true,← ho,List.length_map,beq_self_eq_true]
  rfl
 refine ⟨mP b la,?_⟩
 unfold iB
 rw [hk]
 show (bif (3:Int)==3 then (bif gO (fJ 3 b (l.map (fe b))) (eJ b (pre++own)) then (bL dir (eJ b (pre++own)),mP b la,kN (bL dir (eJ b (pre++own))) 0) else _) else _)=_
 rw [e,hf]
 show (bL dir own,mP b la,kN (bL dir own) 0)=_
 unfold kN
 rw [if_neg (by omega)]
theorem HB {st:Ty.d aE} {d:Ty.d aA} {l:lA} (h:MI st d) (hp:ju l=true) (hb:LE.le (α:=Int) st.2.2.1 1000000) (ha:lX st.2.1 l≤20) (hn:dn (gD st d l).2.1=false):MI (gD st d l).1 (gD st d l).2.1:=by
 obtain ⟨hs,he⟩:=h.store
 have hw:=Ap hs he hp hb ha
 obtain ⟨L,t,j⟩:=h
 obtain ⟨la,hg⟩:=j.gr
 have t0:TX (pF st) d L:=⟨t.live,t.disk,t.ids,t.text,t.tail⟩
 obtain ⟨L',q,t1,e1,e2,e3,e4⟩:=EA (iW l st.2.2.1) (pF st) d [] L t0 (Dz hp j.lo hb)
 have hdir:(ek (iW l st.2.2.1) (pF st) d []).1.1.2.1=st.2.1:=by
  obtain ⟨g1,_,_⟩:=eW hs
  exact (oe (iW l st.2.2.1) (pF st) d [] 100000 ⟨g1.live,g1.disk,g1.lo,g1.hi⟩ (by decide)).2.1
 have hbat:(ek (iW l st.2.2.1) (pF st) d []).1.1.2.2.1=(st.2.2.1+1:Int):=wJ _ _ _ _
 have hlen:=H1 l st.2.2.1
 obtain ⟨b1,b2⟩:=Ko j.lo hb
 have hbq:∀ p ∈ q,p.2.2.2.1.2.1=st.2.2.1:=fun p hp=>by
  have hm:fX p ∈ iW l st.2.2.1:=List.mem_of_mem_take (by rw [← e2];exact List.mem_map.2 ⟨p,hp,rfl⟩)
  unfold iW at hm
  rcases List.mem_append.1 hm with w | w
  · obtain ⟨x,_,e⟩:=List.mem_map.1 w
    have:=(tW st.2.2.1 x).2
    rw [e] at this
    exact this
  · have:=List.mem_singleton.1 w
    show (fX p).2.1=_
    rw [this]
    rfl
 have hbat2:∀ p ∈ jb L',LT.lt (α:=Int) p.2.2.2.1.2.1 (st.2.2.1+1):=fun p hp=>by
  rw [e1] at hp
  rcases List.mem_append.1 hp with w | w
  · exact Int.lt_trans (j.bat p w) (Int.lt_succ _)
  · rw [hbq p w];exact Int.lt_succ _
 have hmark:∀ q':aW,(∀ p ∈ q',p ∈ q)→bK (jb L++q')=[]:=fun q' hq=>by
  rw [mA,j.mark]
  refine vS q' [] fun p hp=>?_
  have hm:fX p ∈ iW l st.2.2.1:=List.mem_of_mem_take (by rw [← e2];exact List.mem_map.2 ⟨p,hq p hp,rfl⟩)
  unfold iW at hm
  rcases List.mem_append.1 hm with w | w
  · obtain ⟨x,_,e⟩:=List.mem_map.1 w
    have:=(tW st.2.2.1 x).1
    rw [e] at this
    have this:p.2.2.2.1.1=1∨p.2.2.2.1.1=2:=this
    rcases this with v | v <;> rw [v] <;> exact ⟨by decide,by decide⟩
  · have:=List.mem_singleton.1 w
    have e:p.2.2.2.1.1=3:=by
     show (fX p).1=3
     rw [this]
     rfl
    rw [e]
    exact ⟨by decide,by decide⟩
 have some:q.length≤l.length→JT (jb L') st.2.1 (st.2.2.1+1):=fun hq=>by
  have e2':q.map fX=(l.map (fe st.2.2.1)).take q.length:=by
   rw [e2]
   unfold iW
   rw [List.take_append_of_le_length (by rw [List.length_map];exact hq)]
  obtain ⟨la',hla⟩:=x_ q (jb L) st.2.1 la fun p hp=>(rE e2' p hp).1
  refine ⟨⟨la',?_⟩,by rw [e1];exact hmark q fun p hp=>hp,hbat2,b1,b2⟩
  rw [e1,rl,hg]
  exact hla
 unfold gD at hn hw ⊢
 generalize ek (iW l st.2.2.1) (pF st) d []=a at t1 e3 e4 hdir hbat hn hw ⊢
 unfold t8 at hn hw ⊢
 cases c:a.1.2.2 != 0 with
 | true =>
  have hlt:=e4 (bne_iff_ne.1 c)
  refine ⟨L',t1,?_⟩
  show JT (jb L') a.1.1.2.1 a.1.1.2.2.1
  rw [hdir,hbat]
  exact some (by omega)
 | false =>
  rw [c] at hn hw
  simp only [aK] at hn hw ⊢
  obtain ⟨f1,f2⟩:=e3 (gn c)
  obtain ⟨tt,ht⟩:=HN t1
  have hsd:=fun z=>GQ t1.disk ht z
  have hsf:∀ s,fT (fj a.1.2.1 (cj a.1.1)).1 s=fT a.1.2.1 s:=fun s=>lE
  have hsD:=lk t1.disk (cj a.1.1)
  generalize fj a.1.2.1 (cj a.1.1)=y at hn hw hsd hsf hsD ⊢
  cases c2:y.2 != 0 with
  | true =>
   rw [c2] at hn
   have hn:dn y.1=false:=hn
   rw [hsd (bne_iff_ne.1 c2)] at hn
   cases hn
  | false =>
   rw [c2] at hw
   simp only [aK] at hw ⊢
   obtain ⟨s1,_⟩:=hw trivial
   have h20:=oa s1
   refine ⟨L',⟨t1.live,hsD,t1.ids,fun x hx=>⟨(hsf _).trans (t1.text x hx).1,(t1.text x hx).2⟩,fun t q=>t1.tail t ((hsf _).symm.trans q)⟩,?_⟩
   show JT (jb L') (bL a.1.1.2.1 (a.2.take l.length)) a.1.1.2.2.1
   have h20:(bL a.1.1.2.1 (a.2.take l.length)).length≤20:=h20
   rw [hdir,f1,List.nil_append] at h20
   rw [hdir,hbat,f1,List.nil_append]
   have hq1:q.length=l.length+1:=by omega
   obtain ⟨own,s,eq⟩:∃ own s,q=own++[s]:=by
    rcases List.eq_nil_or_concat q with w | ⟨a',b',w⟩
    · rw [w] at hq1;cases hq1
    · exact ⟨a',b',by rw [w,List.concat_eq_append]⟩
   subst eq
   have ho1:own.length=l.length:=by
    rw [u7,List.length_singleton] at hq1
    omega
   have et:(own++[s]).take l.length=own:=by rw [← ho1];exact List.take_left
   rw [et] at h20 ⊢
   have e2f:(own++[s]).map fX=iW l st.2.2.1:=by rw [e2,f2,List.take_length]
   rw [List.map_append] at e2f
   unfold iW at e2f
   obtain ⟨m1,m2⟩:=List.append_inj e2f (by rw [List.length_map,List.length_map];exact ho1)
   have m2:fX s=fJ 3 st.2.2.1 (l.map (fe st.2.2.1)):=(List.cons.inj m2).1
   have hown:∀ p ∈ own,plain p∧p.2.2.2.1.2.1=st.2.2.1:=rE (n:=(l.map (fe st.2.2.1)).length) (by rw [List.take_length];exact m1)
   obtain ⟨la1,hla1⟩:=x_ own (jb L) st.2.1 la fun p hp=>(hown p hp).1
   obtain ⟨la2,hla2⟩:=Fv (pre:=jb L) (own:=own) (s:=s) (dir:=st.2.1) (la:=la1) (fun p hp=>Int.ne_of_lt (j.bat p hp)) m1 m2 h20
   refine ⟨⟨la2,?_⟩,by rw [e1];exact hmark _ fun p hp=>hp,hbat2,b1,b2⟩
   rw [e1,rl,hg]
   show gr (jb L) (own++[s]) (st.2.1,la,0)=_
   rw [rl,hla1]
   exact hla2
theorem Fb {st:Ty.d aE} {d:Ty.d aA} (l:lA) (h:MI st d) (hn:dn (fm st d l).2.1=false):MI (fm st d l).1 (fm st d l).2.1:=by
 rcases CH st d l with ⟨c,hc,e⟩ | ⟨hs,hl,e⟩ | ⟨hs,hp,hl,ha,hb,e⟩
 · rw [e];exact h
 · rw [e];exact h
 · rw [e] at hn ⊢
   exact HB h hp hb ha hn
theorem BH {a b:Int} (h:a≤b):∀ (l:List Int) (p:Option Int),nC (m7 a) p l=true→nC (m7 b) p l=true
 | [],_,_=>rfl
 | x::l,p,q=>by
  unfold nC at q ⊢
  rw [gN] at q ⊢
  refine ⟨?_,BH h l (some x) q.2⟩
  have q1:=q.1
  unfold m7 at q1 ⊢
  rw [gN,decide_eq_true_eq] at q1 ⊢
  exact ⟨⟨q1.1.1,Int.le_trans q1.1.2 h⟩,q1.2⟩
theorem G2 {n:Int} {ids:List Int} (h:cS (n,(ids,()))=true) (hn:n+2≤100000):cS (n+2,(ids,()))=true:=by
 obtain ⟨g1,g2,_⟩:=bQ h
 unfold cS at h ⊢
 simp only [gN,decide_eq_true_eq] at h ⊢
 rw [aD (n:=n+2-1) (by omega) (by omega)]
 rw [aD (n:=n-1) (by omega) (by omega)] at h
 exact ⟨⟨show (1:Int)≤n+2 by omega,show n+2≤(100000:Int) from hn⟩,h.2.1,BH (by omega) _ _ h.2.2⟩
theorem wl:∀ (q pre:aW) (d:aR) (la:Int),(∀ p ∈ q,p.2.2.2.1.1≠3∧p.2.2.2.1.1≠5)→∃ la',gr pre q (d,la,0)=(d,la',0)
 | [],_,d,la,_=>⟨la,rfl⟩
 | p::q,pre,d,la,h=>by
  obtain ⟨h3,h5⟩:=h p jd
  obtain ⟨la',e⟩:=wl q (pre++[p]) d (mP p.2.2.2.1.2.1 la) fun x hx=>h x (lK _ hx)
  refine ⟨la',?_⟩
  unfold gr iB
  rw [mF h3,mF h5]
  exact e
theorem rM:∀ (q acc:aW),(∀ p ∈ q,p.2.2.2.1.1=4)→q.foldl fD acc=acc++q
 | [],acc,_=>(List.append_nil acc).symm
 | p::q,acc,h=>by
  have e:fD acc p=acc++[p]:=by
   unfold fD
   rw [h p jd]
   rfl
  rw [List.foldl_cons,e,rM q (acc++[p]) fun x hx=>h x (lK _ hx),nn]
  rfl
theorem Dt {dir:aR} {e:Ty.d aB} (h:∀ x ∈ dir,mh x.1 e.1=true):pV dir e=dir++[e]:=by
 have h1:h9 dir e.1=dir:=by
  unfold h9
  refine List.filter_eq_self.2 fun x hx=>?_
  have hs:=h x hx
  cases c:seq x.1 e.1 with
  | false=>rfl
  | true =>
   rw [dr.1 c] at hs
   exact absurd hs (by rw [ol];decide)
 unfold pV pZ
 rw [h1]
 obtain ⟨w1,w2⟩:=yD (p:=Hk e.1) (l:=dir) fun x hx=>by
  unfold Hk
  rw [h x hx]
  rfl
 rw [w1,w2]
theorem uH (m:Int):∀ (l:iE) (a:Int) (dir:aR),cW (iO dir++l.map (·.1))→bL dir (b9 m (fH (l.map bD) a))=dir++kw m l a
 | [],a,dir,_=>(List.append_nil dir).symm
 | p::l,a,dir,h=>by
  have e0:fI dir (m,(a,(aw (bD p),(bD p,()))))=dir++[(p.1,(m,(a,(aw (bD p),(p.2.2.1,())))))]:=by
   unfold fI
   show pV dir (p.1,(m,(a,(aw (bD p),(p.2.2.1,())))))=_
   refine Dt fun x hx=>?_
   rw [List.map_cons] at h
   exact (List.pairwise_append.1 h).2.2 x.1 (List.mem_map.2 ⟨x,hx,rfl⟩) p.1 jd
  show bL (fI dir (m,(a,(aw (bD p),(bD p,()))))) (b9 m (fH (l.map bD) (a+aw (bD p))))=_
  rw [e0,uH m l (a+aw (bD p)) _ (by
   unfold iO
   rw [List.map_append,nn]
   exact h),nn]
  rfl
theorem F3 {st:Ty.d aE} {d:Ty.d aA} (h:d9 st d=true):(∀ r ∈ jX (gd st.2.1 d).1 (st.2.2.1-1),bm r=true)∧∀ p ∈ (gd st.2.1 d).1,LT.lt (α:=Int) p.2.2.1 st.2.2.1:=by
 obtain ⟨k1,k2⟩:=yU h
 obtain ⟨b1,b2⟩:=xd h
 have h20:=oa h
 have hz:=nz st.2.1 d
 refine ⟨fun r hr=>?_,fun p hp=>?_⟩
 · unfold jX at hr
   rcases List.mem_append.1 hr with q | q
   · obtain ⟨p,hp,rfl⟩:=List.mem_map.1 q
     exact k1 p hp
   · rw [List.mem_singleton.1 q]
     have hs:=ER ((gd st.2.1 d).1.map bD)
     unfold bm fJ
     rw [show ((5:Int)==1||(5:Int)==4)=false from rfl,show ((5:Int)==2)=false from rfl,show ((5:Int)==3)=false from rfl,show ((5:Int)==5)=true from rfl]
     simp only [aK,ac]
     rw [aO (show (0:Int)≤(((gd st.2.1 d).1.map bD).length:Int)∧(((gd st.2.1 d).1.map bD).length:Int)≤20 by rw [List.length_map];omega),aO hs,aO (Il b1 b2),show seq ByteArray.empty ⟨#[]⟩=true from bX _]
     rfl
 · rw [vD h] at hp
   obtain ⟨e,he,rfl⟩:=List.mem_map.1 hp
   unfold d9 at h
   simp only [gN] at h
   have hin:=List.all_eq_true.1 h.2.2.2.2.2 e he
   unfold m0 at hin
   simp only [gN,beq_iff_eq,Bool.not_eq_true',decide_eq_false_iff_not] at hin
   show LT.lt (α:=Int) (fO d e).1.2.1 st.2.2.1
   rw [hin.2.2.1]
   exact Int.not_le.1 hin.2.2.2.2
theorem yJ {pre:aW} {p:Ty.d aC} {dir:aR} {la:Int} (hk:p.2.2.2.1.1=5) (hf:gO p.2.2.2.1 (bK pre)=true) (h20:(bL dir (bK pre)).length≤20):iB pre p (dir,la,0)=(bL dir (bK pre),mP p.2.2.2.1.2.1 la,0):=by
 unfold iB
 rw [hk,show ((5:Int)==3)=false from rfl,aK,show ((5:Int)==5)=true from rfl,ac,hf,ac]
 show (bL dir (bK pre),mP p.2.2.2.1.2.1 la,kN (bL dir (bK pre)) 0)=_
 unfold kN
 rw [if_neg (by omega)]
theorem IJ {m b:Int} {l:iE} (hk:cW (l.map (·.1))) (h20:l.length≤20) (hb:∀ p ∈ l,LT.lt (α:=Int) p.2.2.1 b) (b1:LE.le (α:=Int) 1 b) (b2:LE.le (α:=Int) b 1000001):JT (jb [(m,jX l (b-1)),(m+1,[])]) (kw m l 0) b:=by
 have e0:jb [(m,jX l (b-1)),(m+1,[])]=b9 m (fH (l.map bD) 0)++[(m,(((aX (l.map bD)).size:Int),(aw (fJ 5 (b-1) (l.map bD)),(fJ 5 (b-1) (l.map bD),()))))]:=by
  show um (m,jX l (b-1))++([]++[])=_
  rw [List.append_nil,List.append_nil]
  unfold jX
  exact Aj m (l.map bD) _
 have hq:∀ p ∈ b9 m (fH (l.map bD) 0),p.2.2.2.1 ∈ l.map bD:=fun p hp=>by
  have:∀ (rs:j7) (a:Int),∀ x ∈ fH rs a,x.2.2.1 ∈ rs:=by
   intro rs
   induction rs with
   | nil=>exact fun a x hx=>by cases hx
   | cons r rs ih =>
    intro a x hx
    rw [fH] at hx
    rcases List.mem_cons.1 hx with w | w
    · rw [w];exact jd
    · exact lK _ (ih _ x w)
  unfold b9 at hp
  obtain ⟨x,hx,rfl⟩:=List.mem_map.1 hp
  exact this _ _ x hx
 have h4:∀ p ∈ b9 m (fH (l.map bD) 0),p.2.2.2.1.1=4∧LT.lt (α:=Int) p.2.2.2.1.2.1 b:=fun p hp=>by
  obtain ⟨x,hx,e⟩:=List.mem_map.1 (hq p hp)
  rw [← e]
  exact ⟨rfl,hb x hx⟩
 have hrec:∀ (rs:j7) (a:Int),(b9 m (fH rs a)).map qv=rs:=by
  intro rs
  induction rs with
  | nil=>exact fun _=>rfl
  | cons r rs ih =>
   intro a
   show r::(b9 m (fH rs (a+aw r))).map qv=_
   rw [ih]
 have hown:bK (b9 m (fH (l.map bD) 0))=b9 m (fH (l.map bD) 0):=by
  unfold bK
  rw [rM _ _ fun p hp=>(h4 p hp).1,List.nil_append]
 have hf:gO (fJ 5 (b-1) (l.map bD)) (b9 m (fH (l.map bD) 0))=true:=by
  have hl:(b9 m (fH (l.map bD) 0)).length=(l.map bD).length:=by
   have:=congrArg List.length (hrec (l.map bD) 0)
   rw [List.length_map] at this
   exact this
  unfold gO fJ
  rw [hrec,hl,beq_self_eq_true,beq_self_eq_true]
  rfl
 have ha:bL [] (b9 m (fH (l.map bD) 0))=kw m l 0:=by
  rw [uH m l 0 [] hk,List.nil_append]
 rw [e0]
 obtain ⟨la,hla⟩:=wl (b9 m (fH (l.map bD) 0)) [] [] 0 fun p hp=>by
  rw [(h4 p hp).1]
  exact ⟨by decide,by decide⟩
 generalize b9 m (fH (l.map bD) 0)=pl at h4 hown hf ha hla ⊢
 refine ⟨⟨mP (b-1) la,?_⟩,?_,fun p hp=>?_,b1,b2⟩
 · rw [rl,hla,List.nil_append]
   have e:=yJ (pre:=pl) (p:=(m,(((aX (l.map bD)).size:Int),(aw (fJ 5 (b-1) (l.map bD)),(fJ 5 (b-1) (l.map bD),()))))) (dir:=[]) (la:=la) rfl (by rw [hown];exact hf) (by rw [hown,ha,sP];exact h20)
   rw [hown,ha] at e
   exact e
 · rw [mA]
   rfl
 · rcases List.mem_append.1 hp with w | w
   · exact (h4 p w).2
   · rw [List.mem_singleton.1 w]
     show LT.lt (α:=Int) (b-1) b
     exact Int.sub_lt_self b (by decide)
theorem CV {hb:ByteArray→ByteArray} {st:Ty.d aE} {d:Ty.d aA} {l:iE} (hl:cS st.1=true) (hd:DR d) (hn:LE.le (α:=Int) (st.1.1+2) 100000) :
 ((dP hb st d l).1=s9 st∧DR (dP hb st d l).2.1∧∀ x ∈ st.1.2.1,fT (dP hb st d l).2.1 (a_ aF x)=fT d (a_ aF x)) ∨
 ((dP hb st d l).1=(iL st.1.1,(kw st.1.1 l 0,(st.2.2.1,(0,(0,())))))∧DR (dP hb st d l).2.1∧fT (dP hb st d l).2.1 (a_ aF st.1.1)=some (aX (jX l (st.2.2.1-1)))∧fT (dP hb st d l).2.1 (a_ aF (st.1.1+1))=some ByteArray.empty):=by
 obtain ⟨n1,n2,n3,_⟩:=iG (n:=st.1.1) (ids:=st.1.2.1) hl
 have hm:(1:Int)≤st.1.1∧st.1.1≤(100000:Int):=⟨n1,n2⟩
 have hm1:LE.le (α:=Int) 1 (st.1.1+1)∧LE.le (α:=Int) (st.1.1+1) 100000:=⟨by omega,by omega⟩
 have hseg:∀ x:Int,x ∈ st.1.2.1→1≤x∧x≤100000:=fun x hx=>⟨(n3 x hx).1,An (n3 x hx).2 n2⟩
 have no1:∀ x ∈ st.1.2.1,a_ aF st.1.1≠a_ aF x:=fun x hx=>mg hm (hseg x hx) (by have:=(n3 x hx).2;omega)
 have no2:∀ x ∈ st.1.2.1,a_ aF (st.1.1+1)≠a_ aF x:=fun x hx=>mg hm1 (hseg x hx) (by have:=(n3 x hx).2;omega)
 have no3:∀ x ∈ st.1.2.1,a_ dG st.1.1≠a_ aF x:=fun x hx=>kL hm (hseg x hx)
 have no4:a_ aF (st.1.1+1)≠a_ aF st.1.1:=mg hm1 hm (by omega)
 have dropK:∀ (r:RD),DR r.1→(∀ x ∈ st.1.2.1,fT r.1 (a_ aF x)=fT d (a_ aF x))→DR (kf (jJ st.1.1) r).1∧∀ x ∈ st.1.2.1,fT (kf (jJ st.1.1) r).1 (a_ aF x)=fT d (a_ aF x):=fun r hr k=>by
  unfold kf
  cases r.2==2 with
  | false=>exact ⟨hr,k⟩
  | true =>
   refine ⟨ji _ _ hr,fun x hx=>(m6 _ _ fun s hs=>?_).trans (k x hx)⟩
   unfold jJ at hs
   rcases List.mem_cons.1 hs with e | e
   · rw [e];exact gZ (hseg x hx)
   rcases List.mem_cons.1 e with e | e
   · rw [e];exact no1 x hx
   rcases List.mem_cons.1 e with e | e
   · rw [e];exact no2 x hx
   · rw [List.mem_singleton.1 e];exact no3 x hx
 have a0:DR (fP st.1.1 l (st.2.2.1-1) d).1:=C8 _ _ _ hd
 have a1:∀ x ∈ st.1.2.1,fT (fP st.1.1 l (st.2.2.1-1) d).1 (a_ aF x)=fT d (a_ aF x):=fun x hx=>Ak (no1 x hx)
 have a2:(fP st.1.1 l (st.2.2.1-1) d).2=0→fT (fP st.1.1 l (st.2.2.1-1) d).1 (a_ aF st.1.1)=some (aX (jX l (st.2.2.1-1))):=fun z=>by
  unfold fP at z ⊢
  obtain ⟨z1,z2,_⟩:=iz z
  rw [z2]
  rw [lE]
  have z0:(bM (a_ aF st.1.1) d).2=0:=by
   by_cases w:(bM (a_ aF st.1.1) d).2=0
   · exact w
   · rw [pR _ _ _ w] at z1
     exact absurd z1 w
  have:=CY (a_ aF st.1.1) (jX l (st.2.2.1-1)) (bM (a_ aF st.1.1) d) ByteArray.empty (lZ z0) z1
  rw [this,show (ByteArray.empty:ByteArray)=dB [] from rfl,rQ]
 unfold dP
 generalize fP st.1.1 l (st.2.2.1-1) d=a at a0 a1 a2 ⊢
 cases ca:a.2 != 0 with
 | true=>exact .inl ⟨rfl,dropK (tl a) a0 a1⟩
 | false =>
  have b0:=jz (a_ aF (st.1.1+1)) a.1 a0
  have b1:∀ x ∈ st.1.2.1,fT (bM (a_ aF (st.1.1+1)) a.1).1 (a_ aF x)=fT d (a_ aF x):=fun x hx=>(l9 (no2 x hx)).trans (a1 x hx)
  have b2:=(l9 (d:=a.1) no4).trans (a2 (gn ca))
  have b3:=lZ (s:=a_ aF (st.1.1+1)) (d:=a.1)
  simp only [aK]
  generalize bM (a_ aF (st.1.1+1)) a.1=b at b0 b1 b2 b3 ⊢
  cases cb:b.2 != 0 with
  | true=>exact .inl ⟨rfl,dropK (tl b) b0 b1⟩
  | false =>
   have b3:=b3 (gn cb)
   have c0:DR (kn hb st.1.1 b.1).1:=by
    unfold kn
    cases (l_ (a_ dG st.1.1) (hb (aT b.1 (a_ aF st.1.1)).1) b.1).2==2 with
    | true=>exact ji _ _ (nR _ _ _ b0)
    | false=>exact nR _ _ _ b0
   have c1:∀ x ∈ st.1.2.1,fT (kn hb st.1.1 b.1).1 (a_ aF x)=fT d (a_ aF x):=fun x hx=>(qV (no3 x hx)).trans (b1 x hx)
   have c2:=(qV (hb:=hb) (d:=b.1) (kL hm hm)).trans b2
   have c3:=(qV (hb:=hb) (d:=b.1) (kL hm hm1)).trans b3
   simp only [aK]
   generalize kn hb st.1.1 b.1=e at c0 c1 c2 c3 ⊢
   cases ce:e.2 != 0 with
   | true=>exact .inl ⟨rfl,c0,c1⟩
   | false =>
    have d0:=jp (iL st.1.1) _ c0
    have d1:∀ x ∈ st.1.2.1,fT (bf (iL st.1.1) e.1).1 (a_ aF x)=fT d (a_ aF x):=fun x hx=>(gj (gZ (hseg x hx)) (iX (hseg x hx))).trans (c1 x hx)
    have d2:=(gj (d:=e.1) (v:=iL st.1.1) (gZ hm) (iX hm)).trans c2
    have d3:=(gj (d:=e.1) (v:=iL st.1.1) (gZ hm1) (iX hm1)).trans c3
    simp only [aK]
    generalize bf (iL st.1.1) e.1=f at d0 d1 d2 d3 ⊢
    cases cf:f.2 != 0 with
    | true=>exact .inl ⟨rfl,dropK (tl f) d0 d1⟩
    | false =>
     simp only [aK]
     have o0:∀ (ids:List Int) (x:Ty.d aA),DR x→DR (sA ids x).1:=by
      intro ids
      induction ids with
      | nil=>exact fun x hx=>hx
      | cons y ids ih=>exact fun x hx=>im (ji _ _ hx) fun z hz=>ih z hz
     exact .inr ⟨by trivial,o0 _ _ d0,(tF st.1.2.1 f.1 fun x hx=>⟨fun q=>no1 x hx q.symm,kL (hseg x hx) hm⟩).trans d2,(tF st.1.2.1 f.1 fun x hx=>⟨fun q=>no2 x hx q.symm,kL (hseg x hx) hm1⟩).trans d3⟩
theorem GG {st:Ty.d aE} {d:Ty.d aA} (h:MI st d):MI (mI st d).1 (mI st d).2.1:=by
 obtain ⟨hs,he⟩:=h.store
 unfold mI
 rw [hs]
 simp only [fh,aK]
 by_cases c2:st.1.1+2 > (100000:Int)
 · rw [aO c2];exact h
 · rw [aP c2]
   simp only [aK]
   cases c3:(gd st.2.1 d).2 != 0 with
   | true=>exact h
   | false =>
    simp only [aK]
    have hn:LE.le (α:=Int) (st.1.1+2) 100000:=Int.not_lt.1 c2
    obtain ⟨k1,k2⟩:=yU hs
    obtain ⟨k3,k4⟩:=F3 hs
    have h20:=oa hs
    have hz:=nz st.2.1 d
    obtain ⟨L,t,j⟩:=h
    obtain ⟨n1,n2,n3,_⟩:=iG (n:=st.1.1) (ids:=st.1.2.1) t.live
    obtain ⟨_,_,g1,_,_⟩:=bQ (nx:=st.1.1) (ids:=st.1.2.1) t.live
    rcases CV (hb:=Hj st.1.1) (l:=(gd st.2.1 d).1) t.live t.disk hn with ⟨e1,e2,e3⟩ | ⟨e1,e2,e3,e4⟩
    · generalize dP (Hj st.1.1) st d (gd st.2.1 d).1=q at e1 e2 e3 ⊢
      rw [e1]
      obtain ⟨L0,x,eL,el⟩:=vH t.ids g1
      have hmem:∀ y ∈ L,y.1 ∈ st.1.2.1:=fun y hy=>by rw [t.ids];exact List.mem_map.2 ⟨y,hy,rfl⟩
      have hx:x ∈ L:=by rw [eL];exact List.mem_append_right _ jd
      have ea:cj st=a_ aF x.1:=by unfold cj;rw [el]
      have ea2:cj (s9 st)=a_ aF x.1:=ea
      refine ⟨L,⟨G2 (n:=st.1.1) (ids:=st.1.2.1) t.live hn,e2,t.ids,fun y hy=>⟨(e3 _ (hmem y hy)).trans (t.text y hy).1,(t.text y hy).2⟩,fun s q=>t.tail s ?_⟩,j⟩
      rw [ea2,e3 _ (hmem x hx)] at q
      rw [ea]
      exact q
    · generalize dP (Hj st.1.1) st d (gd st.2.1 d).1=q at e1 e2 e3 e4 ⊢
      rw [e1]
      refine ⟨[(st.1.1,jX (gd st.2.1 d).1 (st.2.2.1-1)),(st.1.1+1,[])],⟨BA n1 hn,e2,rfl,fun x hx=>?_,fun s w=>?_⟩,IJ k2 (by omega) k4 j.lo j.hi⟩
      · rcases List.mem_cons.1 hx with w | w
        · rw [w];exact ⟨e3,k3⟩
        · rw [List.mem_singleton.1 w]
          exact ⟨e4,fun r hr=>by cases hr⟩
      · have w:fT q.2.1 (a_ aF (st.1.1+1))=some s:=w
        rw [e4] at w
        rw [← Option.some.inj w]
        rfl
theorem Iy {a b:Int} (h:a<b) (g:b≤100000):a≤100000:=by omega
theorem IF:(Dr dm).2=false:=by
 unfold Dr
 rcases jE (Hh dm) (fun _=>dm) (0:Int) dm with ⟨r,h1,_,_⟩ | h
 · exfalso
   obtain ⟨h0,h2,h3⟩:=h1
   have hp:=Az r
   rcases h3 with q | q
   · have:=congrArg nb q
     rw [gP] at this
     cases this
   · have:=congrArg nb q
     rw [gP] at this
     cases this
 · rw [h]
theorem D2 {ids:List Int} {d:Ty.d aA} {t:ByteArray} (ht:t=dm∨∃ x ∈ ids,1≤x∧x≤100000∧t=a_ aF x):fT (gm ids d).1 t=fT d t:=by
 refine m6 _ d fun s hs q=>?_
 have h:=Hf hs
 rw [q] at h
 rcases ht with w | ⟨x,hx,h0,h1,w⟩
 · rw [w,IF,Bool.false_and,Bool.false_or] at h
   have:=congrArg nb (dr.1 h)
   cases this
 · have hh:wK ids x=true:=by unfold wK;rw [List.any_eq_true];exact ⟨x,hx,beq_self_eq_true _⟩
   rw [w,xP (.inl rfl) h0 h1,hh] at h
   simp only [fh,Bool.and_false,Bool.false_or] at h
   exact gZ ⟨h0,h1⟩ (dr.1 h).symm
noncomputable def y8 (d:Ty.d aA):List Int→Int
 | []=>0
 | x::l=>(bif decide ((az (dp d x)).2<((dp d x).size:Int)) then 1 else 0)+y8 d l
theorem w9 {d:Ty.d aA}:∀ {l:List Int},iV d l=true→(∀ x ∈ l,(aT d (a_ aF x)).2=true)∧0≤y8 d l∧y8 d l≤1
 | [],_=>⟨fun x hx=>(by cases hx),Int.le_refl _,by unfold y8;decide⟩
 | x::l,h=>by
  unfold iV sw at h
  simp only [gN,Bool.or_eq_true,Bool.not_eq_true'] at h
  obtain ⟨⟨h1,h2⟩,h3⟩:=h
  obtain ⟨i1,i2,i3⟩:=w9 h3
  refine ⟨fun y hy=>?_,?_⟩
  · rcases List.mem_cons.1 hy with w | w
    · rw [w];exact h1
    · exact i1 y w
  · have e1:y8 d (x::l)=(bif decide ((az (dp d x)).2<((dp d x).size:Int)) then 1 else 0)+y8 d l:=rfl
    rw [e1]
    rcases h2 with q | q
    · have:l=[]:=List.isEmpty_iff.1 q
      subst this
      show 0≤(bif _ then (1:Int) else 0)+0∧(bif _ then (1:Int) else 0)+0≤1
      cases decide ((az (dp d x)).2<((dp d x).size:Int)) <;> exact ⟨by decide,by decide⟩
    · rw [q,aK]
      exact ⟨by omega,by omega⟩
theorem yL {d:Ty.d aA}:∀ {l:List Int},iV d l=true→∀ x ∈ l,x≠aZ l→(az (dp d x)).2=((dp d x).size:Int)
 | [],_,x,hx,_=>(by cases hx)
 | y::l,h,x,hx,hn=>by
  unfold iV sw at h
  simp only [gN,Bool.or_eq_true,Bool.not_eq_true'] at h
  obtain ⟨⟨h1,h2⟩,h3⟩:=h
  have hl:l≠[]→aZ (y::l)=aZ l:=fun q=>by
   cases l with
   | nil=>exact absurd rfl q
   | cons z l=>rfl
  rcases List.mem_cons.1 hx with w | w
  · rw [w] at hn ⊢
    rcases h2 with q | q
    · have:l=[]:=List.isEmpty_iff.1 q
      subst this
      exact absurd rfl hn
    · have:=of_decide_eq_false q
      have:=(j3 (dp d y)).2
      omega
  · have hne:l≠[]:=fun q=>by rw [q] at w;cases w
    exact yL h3 x w (by rw [← hl hne];exact hn)
theorem GW {A:aW} (h1:∀ b,eJ b A=[]) (h2:bK A=[]):∀ (r pre:aW) (s:Gs),gr (A++pre) r s=gr pre r s
 | [],_,_=>rfl
 | p::r,pre,s=>by
  have e1:∀ b,eJ b (A++pre)=eJ b pre:=fun b=>by rw [uX,h1];rfl
  have e2:bK (A++pre)=bK pre:=by rw [mA,h2];rfl
  unfold gr iB
  rw [e1,e2,nn,GW h1 h2 r]
theorem EW:∀ (r pre:aW) (d:aR) (la la' c:Int),(gr pre r (d,la,c)).1=(gr pre r (d,la',c)).1∧(gr pre r (d,la,c)).2.2=(gr pre r (d,la',c)).2.2
 | [],_,_,_,_,_=>⟨rfl,rfl⟩
 | p::r,pre,d,la,la',c=>by
  unfold gr
  simp only []
  cases c != 0 with
  | true=>exact ⟨rfl,rfl⟩
  | false =>
   simp only [aK]
   unfold iB
   simp only []
   cases p.2.2.2.1.1==3 with
   | true =>
    simp only [ac]
    cases gO p.2.2.2.1 (eJ p.2.2.2.1.2.1 pre) <;> exact EW r _ _ _ _ _
   | false =>
    simp only [aK]
    cases p.2.2.2.1.1==5 with
    | true =>
     simp only [ac]
     cases gO p.2.2.2.1 (bK pre) <;> exact EW r _ _ _ _ _
    | false=>exact EW r _ _ _ _ _
theorem BQ {m:Int}:∀ (l:yq) (p:Option (Ty.d c_)),nC (nc m) p l=true→(∀ x ∈ l,x.2.2.1.1=4∧LE.le (α:=Int) x.2.2.1.2.1 m)∧cW (l.map fun x=>x.2.2.1.2.2.1)∧(∀ q,p=some q→∀ x ∈ l,mh q.2.2.1.2.2.1 x.2.2.1.2.2.1=true)
 | [],p,_=>⟨fun x h=>(by cases h),List.Pairwise.nil,fun q _ x h=>(by cases h)⟩
 | g::l,p,h=>by
  unfold nC at h
  rw [gN] at h
  obtain ⟨h1,h2⟩:=h
  obtain ⟨i1,i2,i3⟩:=BQ l (some g) h2
  unfold nc at h1
  simp only [gN,beq_iff_eq,Bool.not_eq_true',decide_eq_false_iff_not] at h1
  obtain ⟨g1,g2,g3⟩:=h1
  refine ⟨fun x hx=>?_,?_,fun q hq x hx=>?_⟩
  · rcases List.mem_cons.1 hx with e | e
    · rw [e];exact ⟨g1,Int.not_lt.1 g2⟩
    · exact i1 x e
  · rw [List.map_cons]
    unfold cW
    rw [List.pairwise_cons]
    refine ⟨fun x hx=>?_,i2⟩
    obtain ⟨f,hf,rfl⟩:=List.mem_map.1 hx
    exact i3 g rfl f hf
  · subst hq
    rcases List.mem_cons.1 hx with e | e
    · rw [e];exact g3
    · exact oF g3 (i3 g rfl x e)
theorem uW (m:Int):∀ (l:yq) (dir:aR),(∀ x ∈ l,x.2.2.1.1=4)→cW (iO dir++l.map fun x=>x.2.2.1.2.2.1)→bL dir (b9 m l)=dir++l.map (BN m)
 | [],dir,_,_=>(List.append_nil dir).symm
 | x::l,dir,h4,h=>by
  have e0:fI dir (m,x)=dir++[BN m x]:=by
   unfold fI
   rw [show ((m,x):Ty.d aC).2.2.2.1.1=4 from h4 x jd]
   show pV dir (BN m x)=_
   refine Dt fun y hy=>?_
   rw [List.map_cons] at h
   exact (List.pairwise_append.1 h).2.2 y.1 (List.mem_map.2 ⟨y,hy,rfl⟩) x.2.2.1.2.2.1 jd
  show bL (fI dir (m,x)) (b9 m l)=_
  rw [e0,uW m l _ (fun y hy=>h4 y (lK _ hy)) (by
   unfold iO
   rw [List.map_append,nn]
   exact h),nn]
  rfl
theorem I1 {id:Int} {rs:j7} (hr:∀ r ∈ rs,bm r=true) (h:(fq id (aX rs)).2=true) :
 (∃ la,gr [] (um (id,rs)) ([],0,0)=((fq id (aX rs)).1.2.2.1,la,0))∧(∀ b,eJ b (um (id,rs))=[])∧bK (um (id,rs))=[]∧∀ p ∈ um (id,rs),LE.le (α:=Int) p.2.2.2.1.2.1 (fq id (aX rs)).1.2.1:=by
 have hsp:um (id,rs)=b9 id (az (aX rs)).1:=by
  unfold um
  rw [vx hr]
 have hok:∀ x ∈ (az (aX rs)).1,bm x.2.2.1=true:=fun x hx=>by
  refine hr _ ?_
  rw [← (oY hr).1]
  exact List.mem_map.2 ⟨x,hx,rfl⟩
 rw [hsp]
 unfold fq at h ⊢
 cases c1:(az (aX rs)).2 != ((aX rs).size:Int) with
 | true=>rw [c1] at h;cases h
 | false =>
  rw [c1] at h
  simp only [aK] at h ⊢
  generalize (az (aX rs)).1=l at h hok ⊢
  cases c2:l.length==0 with
  | true=>rw [c2] at h;cases h
  | false =>
   rw [c2] at h
   simp only [aK] at h ⊢
   have hne:l.length≠0:=by simpa using c2
   obtain ⟨k,mk,el⟩:∃ k mk,l=k++[mk]:=by
    rcases List.eq_nil_or_concat l with w | ⟨a,b,w⟩
    · rw [w] at hne;exact absurd rfl hne
    · exact ⟨a,b,by rw [w,List.concat_eq_append]⟩
   subst el
   have et:(k++[mk]).take ((k++[mk]).length-1)=k:=by
    rw [u7,List.length_singleton,Nat.add_sub_cancel]
    exact List.take_left
   have eg:(k++[mk]).getD ((k++[mk]).length-1) (Ty.z c_)=mk:=by
    rw [u7,List.length_singleton,Nat.add_sub_cancel]
    simp [List.getD]
   rw [et,eg] at h ⊢
   cases c3:mk.2.2.1.1 != 5 with
   | true=>rw [c3] at h;cases h
   | false =>
    rw [c3] at h
    simp only [aK] at h ⊢
    cases c4:!decide ((1:Int)≤id∧id≤100000) with
    | true=>rw [c4] at h;cases h
    | false =>
     rw [c4] at h
     simp only [aK] at h ⊢
     cases c5:nC (nc mk.2.2.1.2.1) none k with
     | false=>rw [c5] at h;cases h
     | true =>
      rw [c5] at h
      simp only [fh,aK] at h ⊢
      cases c6:gO mk.2.2.1 (b9 id k) with
      | false=>rw [c6] at h;cases h
      | true =>
       simp only [fh,aK]
       obtain ⟨a1,a2,_⟩:=BQ k none c5
       have c3:mk.2.2.1.1=5:=by simpa using c3
       have h4:∀ p ∈ b9 id k,p.2.2.2.1.1=4∧LE.le (α:=Int) p.2.2.2.1.2.1 mk.2.2.1.2.1:=fun p hp=>by
        unfold b9 at hp
        obtain ⟨x,hx,rfl⟩:=List.mem_map.1 hp
        exact a1 x hx
       have hmk:=hok mk (List.mem_append_right _ jd)
       have h20:(b9 id k).length≤20:=by
        unfold gO at c6
        rw [gN,beq_iff_eq] at c6
        unfold bm at hmk
        rw [c3] at hmk
        rw [show ((5:Int)==1||(5:Int)==4)=false from rfl,show ((5:Int)==2)=false from rfl,show ((5:Int)==3)=false from rfl,show ((5:Int)==5)=true from rfl] at hmk
        simp only [aK,ac,gN,decide_eq_true_eq] at hmk
        have hc:LE.le (α:=Int) (((b9 id k).length:Nat):Int) 20:=by
         rw [← c6.1]
         exact hmk.2.2.1.2
        omega
       have hown:bK (b9 id k)=b9 id k:=by
        unfold bK
        rw [rM _ _ fun p hp=>(h4 p hp).1,List.nil_append]
       have ha:bL [] (b9 id k)=k.map (BN id):=by rw [uW id k [] (fun x hx=>(a1 x hx).1) a2,List.nil_append]
       have epl:b9 id (k++[mk])=b9 id k++[(id,mk)]:=by
        unfold b9
        rw [List.map_append]
        rfl
       obtain ⟨la,hla⟩:=wl (b9 id k) [] [] 0 fun p hp=>by
        rw [(h4 p hp).1]
        exact ⟨by decide,by decide⟩
       rw [epl]
       have hlen:(b9 id k).length=k.length:=qF id k
       refine ⟨⟨mP mk.2.2.1.2.1 la,?_⟩,fun b=>?_,?_,fun p hp=>?_⟩
       · rw [rl,hla,List.nil_append]
         have e:=yJ (pre:=b9 id k) (p:=(id,mk)) (dir:=[]) (la:=la) c3 (by rw [hown];exact c6) (by rw [hown,ha,List.length_map];omega)
         rw [hown,ha] at e
         exact e
       · have:∀ (q:aW),(∀ p ∈ q,p.2.2.2.1.1=4∨p.2.2.2.1.1=5)→q.foldl (eA b) []=[]:=by
          intro q
          induction q with
          | nil=>exact fun _=>rfl
          | cons p q ih =>
           intro hq
           have e:eA b [] p=[]:=by
            unfold eA
            rcases hq p jd with w | w <;> rw [w] <;> cases p.2.2.2.1.2.1==b <;> rfl
           rw [List.foldl_cons,e]
           exact ih fun x hx=>hq x (lK _ hx)
         refine this _ fun p hp=>?_
         rcases List.mem_append.1 hp with w | w
         · exact .inl (h4 p w).1
         · rw [List.mem_singleton.1 w];exact .inr c3
       · rw [mA]
         show fD _ (id,mk)=[]
         unfold fD
         rw [show ((id,mk):Ty.d aC).2.2.2.1.1=5 from c3]
         rfl
       · rcases List.mem_append.1 hp with w | w
         · exact (h4 p w).2
         · rw [List.mem_singleton.1 w];exact Int.le_refl _
theorem tI {r:Ty.d b7} (h:bm r=true):LE.le (α:=Int) 0 r.2.1∧LE.le (α:=Int) r.2.1 1000000:=by
 unfold bm at h
 cases c1:(r.1==1||r.1==4) with
 | true =>
  rw [c1] at h
  simp only [ac,gN,decide_eq_true_eq] at h
  have:=h.2.2.2.2
  exact ⟨Int.le_trans (by decide) this.1,this.2⟩
 | false =>
  rw [c1] at h
  cases c2:(r.1==2) with
  | true =>
   rw [c2] at h
   simp only [ac,aK,gN,decide_eq_true_eq] at h
   have:=h.2.2.2.2
   exact ⟨Int.le_trans (by decide) this.1,this.2⟩
  | false =>
   rw [c2] at h
   cases c3:(r.1==3) with
   | true =>
    rw [c3] at h
    simp only [ac,aK,gN,decide_eq_true_eq] at h
    have:=h.2.2.2.2
    exact ⟨Int.le_trans (by decide) this.1,this.2⟩
   | false =>
    rw [c3] at h
    cases c4:(r.1==5) with
    | true =>
     rw [c4] at h
     simp only [ac,aK,gN,decide_eq_true_eq] at h
     exact h.2.2.2.2
    | false=>rw [c4] at h;cases h
theorem I6 {y:Ty.d aA} (hy:DR y) {L:qD} (hL:1≤L.length) (ht:∀ x ∈ L,fT y (a_ aF x.1)=some (aX x.2)∧∀ r ∈ x.2,bm r=true) (z:(jq y (L.map (·.1))).2.2.1=0) :
 JT (jb L) (jq y (L.map (·.1))).1 (aJ ((jq y (L.map (·.1))).2.1+1)):=by
 have hok:∀ p ∈ jb L,bm p.2.2.2.1=true:=fun p hp=>by
  obtain ⟨x,hx,s,hs,e⟩:=tY hp
  obtain ⟨_,i2,_⟩:=rF x.2 ⟨#[]⟩ ⟨#[]⟩ (ht x hx).2 s hs
  rw [e]
  exact i2
 have fin:∀ (dir:aR) (la:Int),(∃ la',gr [] (jb L) ([],0,0)=(dir,la',0))→bK (jb L)=[]→LE.le (α:=Int) 0 la→LE.le (α:=Int) la 1000000→(∀ p ∈ jb L,LE.le (α:=Int) p.2.2.2.1.2.1 la)→JT (jb L) dir (aJ (la+1)):=fun dir la h1 h2 h3 h4 h5=>by
  rw [aD (n:=la+1) (by omega) (by omega)]
  exact ⟨h1,h2,fun p hp=>Int.lt_add_one_of_le (h5 p hp),show (1:Int)≤la+1 by omega,show la+1≤(1000001:Int) by omega⟩
 obtain ⟨x0,L',rfl⟩:∃ x L',L=x::L':=by
  cases L with
  | nil=>cases hL
  | cons x L'=>exact ⟨x,L',rfl⟩
 have epl:jb (x0::L')=um x0++jb L':=rfl
 have e1:m4 y ((x0::L').map (·.1))=jb (x0::L'):=sL hy ht
 have e2:m4 y (L'.map (·.1))=jb L':=sL hy fun x hx=>ht x (lK _ hx)
 unfold jq at z ⊢
 cases c:oh y (((x0::L').map (·.1)).getD 0 0) with
 | false =>
  rw [c] at z
  simp only [aK] at z ⊢
  rw [e1] at z ⊢
  obtain ⟨g1,g2⟩:=vq z
  have hz:(gr [] (jb (x0::L')) ([],0,0)).2.2=0:=by rw [g1]
  obtain ⟨l1,l2,l3⟩:=zg (jb (x0::L')) [] ([],0,0) hz
  have ela:(gr [] (jb (x0::L')) ([],0,0)).2.1=(eD ([],(0,(0,()))) (jb (x0::L'))).2.1:=by rw [g1]
  have l3:=l3 1000000 (by decide) fun p hp=>(tI (hok p hp)).2
  rw [ela] at l1 l2 l3
  exact fin _ _ ⟨_,g1⟩ g2 l1 l3 l2
 | true =>
  rw [c] at z
  simp only [ac] at z ⊢
  have ed:((x0::L').map (·.1)).drop 1=L'.map (·.1):=rfl
  have ex:((x0::L').map (·.1)).getD 0 0=x0.1:=rfl
  rw [ed,ex,e2] at z ⊢
  rw [ex] at c
  obtain ⟨t1,t2⟩:=ht x0 jd
  unfold oh at c
  simp only [gN] at c
  obtain ⟨_,_,c⟩:=c
  have es:dp y x0.1=aX x0.2:=by
   unfold dp
   rw [jD hy,t1]
   rfl
  rw [es] at c
  unfold mY at c
  simp only [gN,beq_iff_eq] at c
  obtain ⟨f1,_,f3,f4⟩:=c
  obtain ⟨⟨la0,k1⟩,k2,k3,k4⟩:=I1 (id:=x0.1) t2 f1
  rw [f3] at k4
  rw [tT.1 f4] at k1
  have k1:gr [] (um x0) ([],0,0)=((gl y x0.1).2.2.1,la0,0):=k1
  have k2:∀ b,eJ b (um x0)=[]:=k2
  have k3:bK (um x0)=[]:=k3
  have k4:∀ p ∈ um x0,LE.le (α:=Int) p.2.2.2.1.2.1 (gl y x0.1).2.1:=k4
  obtain ⟨g1,g2⟩:=vq z
  have hz:(gr [] (jb L') ((gl y x0.1).2.2.1,(gl y x0.1).2.1,0)).2.2=0:=by rw [g1]
  obtain ⟨l1,l2,l3⟩:=zg (jb L') [] ((gl y x0.1).2.2.1,(gl y x0.1).2.1,0) hz
  have ela:(gr [] (jb L') ((gl y x0.1).2.2.1,(gl y x0.1).2.1,0)).2.1=(eD ((gl y x0.1).2.2.1,((gl y x0.1).2.1,(0,()))) (jb L')).2.1:=by rw [g1]
  have hmark:∃ mk:Ty.d b7,bm mk=true∧mk.2.1=(gl y x0.1).2.1:=by
   rw [← f3]
   have hb:(fq x0.1 (aX x0.2)).2=true:=f1
   have hok2:∀ x ∈ (az (aX x0.2)).1,bm x.2.2.1=true:=fun x hx=>by
    refine t2 _ ?_
    rw [← (oY t2).1]
    exact List.mem_map.2 ⟨x,hx,rfl⟩
   unfold fq at hb ⊢
   cases w1:(az (aX x0.2)).2 != ((aX x0.2).size:Int) with
   | true=>rw [w1] at hb;cases hb
   | false =>
    rw [w1] at hb
    simp only [aK] at hb ⊢
    generalize (az (aX x0.2)).1=l at hb hok2 ⊢
    cases w2:l.length==0 with
    | true=>rw [w2] at hb;cases hb
    | false =>
     rw [w2] at hb
     simp only [aK] at hb ⊢
     have hne:l.length≠0:=by simpa using w2
     have hm:l.getD (l.length-1) (Ty.z c_) ∈ l:=by
      show (l[l.length-1]?).getD _ ∈ l
      rw [List.getElem?_eq_getElem (by omega)]
      exact List.getElem_mem _
     generalize l.getD (l.length-1) (Ty.z c_)=mk at hb hm ⊢
     refine ⟨mk.2.2.1,hok2 _ hm,?_⟩
     revert hb
     cases mk.2.2.1.1 != 5 <;> cases !decide ((1:Int)≤x0.1∧x0.1≤100000) <;> cases nC (nc mk.2.2.1.2.1) none (l.take (l.length-1)) <;> cases gO mk.2.2.1 (b9 x0.1 (l.take (l.length-1))) <;> intro hb <;> first | rfl | cases hb
  obtain ⟨mk,m1,m2⟩:=hmark
  have mb:=tI m1
  rw [m2] at mb
  have l3:=l3 1000000 mb.2 fun p hp=>(tI (hok p (by rw [epl];exact List.mem_append_right _ hp))).2
  rw [ela] at l1 l2 l3
  have l1:LE.le (α:=Int) (gl y x0.1).2.1 (eD ((gl y x0.1).2.2.1,((gl y x0.1).2.1,(0,()))) (jb L')).2.1:=l1
  refine fin _ _ ?_ ?_ (Int.le_trans mb.1 l1) l3 fun p hp=>?_
  · rw [epl,rl,k1]
    have q:=GW k2 k3 (jb L') [] ((gl y x0.1).2.2.1,la0,0)
    rw [List.append_nil] at q
    rw [List.nil_append,q]
    obtain ⟨v1,v2⟩:=EW (jb L') [] (gl y x0.1).2.2.1 la0 (gl y x0.1).2.1 0
    rw [g1] at v1 v2
    exact ⟨(gr [] (jb L') ((gl y x0.1).2.2.1,la0,0)).2.1,Prod.ext v1 (Prod.ext rfl v2)⟩
  · rw [epl,mA,k3]
    exact g2
  · rw [epl] at hp
    rcases List.mem_append.1 hp with w | w
    · exact Int.le_trans (k4 p w) l1
    · exact l2 p w
theorem H2 {d:Ty.d aA} (ht:(aT d JD).2=true) (z:(ja d).2.2=0):MI (ja d).1 (ja d).2.1:=by
 have ht:(aT d dm).2=true:=ht
 have hdk:gf d=true:=by
  unfold aT at ht
  cases c:gf d with
  | true=>rfl
  | false=>rw [c] at ht;cases ht
 have hd:=jP.1 hdk
 unfold ja at z ⊢
 rw [hdk] at z ⊢
 simp only [fh,aK] at z ⊢
 cases c1:d.2.2.2.1 with
 | true=>rw [c1] at z;exact absurd z (by show (1:Int)≠0;decide)
 | false =>
  rw [c1,ht] at z
  rw [ht]
  simp only [fh,aK] at z ⊢
  rcases jE (fun v=>cS v=true) cE ((0,([],())):Ty.d cY) (aT d dm).1 with ⟨v,h1,h2,e⟩ | e
  · have e:fM (aT d dm).1=(v,true):=e
    rw [e] at z ⊢
    simp only [fh,aK] at z ⊢
    obtain ⟨_,_,hv1,hv2,_⟩:=bQ (nx:=v.1) (ids:=v.2.1) h1
    obtain ⟨n1,n2,n3,n4⟩:=iG (n:=v.1) (ids:=v.2.1) h1
    unfold qE at z ⊢
    cases cg:iV d v.2.1 with
    | false=>rw [cg] at z;exact absurd z (by show (3:Int)≠0;decide)
    | true =>
     rw [cg] at z
     simp only [fh,aK] at z ⊢
     cases cf:(fQ (aZ v.2.1) d).2 != 0 with
     | true =>
      rw [cf] at z
      have z:iF (fQ (aZ v.2.1) d).2=0:=z
      have:=iD (fQ (aZ v.2.1) d).2
      rw [z] at this
      rw [show ((fQ (aZ v.2.1) d).2 != 0)=!((fQ (aZ v.2.1) d).2==0) from rfl,← this] at cf
      cases cf
     | false =>
      rw [cf] at z
      simp only [aK] at z ⊢
      have fz:=gn cf
      have fx:=Gh (aZ v.2.1) hd
      have ftx:=fun s=>HZ hd (x:=aZ v.2.1) fz s
      have flive:fT (fQ (aZ v.2.1) d).1 dm=fT d dm∧((az (dp (fQ (aZ v.2.1) d).1 (aZ v.2.1))).2=((dp (fQ (aZ v.2.1) d).1 (aZ v.2.1)).size:Int))∧∀ x ∈ v.2.1,x≠aZ v.2.1→aT (fQ (aZ v.2.1) d).1 (a_ aF x)=aT d (a_ aF x):=by
       have hlast:aZ v.2.1 ∈ v.2.1:=by
        rw [lh hv1]
        exact List.mem_append_right _ (by rw [← lh hv1];exact List.mem_singleton.2 rfl)
       obtain ⟨b1,b2⟩:=n3 _ hlast
       obtain ⟨c1',c2',c3'⟩:=iz fz
       have hs:=j3 (dp d (aZ v.2.1))
       rw [show fQ (aZ v.2.1) d=_ from c2']
       by_cases hb:(az (dp d (aZ v.2.1))).2<((dp d (aZ v.2.1)).size:Int)
       · simp only [aO hb,ac] at c1' c3' ⊢
         have hy:=xV hd (a_ aF (aZ v.2.1)) (az (dp d (aZ v.2.1))).2
         have et:=fun s=>(pS hy c3' s).trans (vY hd c1' s)
         refine ⟨lE.trans ?_,?_,fun x hx hn=>?_⟩
         · have h1:=vY hd c1' dm
           rw [kK (iX ⟨b1,by omega⟩),aK] at h1
           have q1:=jD hy dm
           have q2:=qa hy dm
           have q3:=jD hd dm
           have q4:=qa hd dm
           rw [h1] at q1 q2
           rw [q1] at q3
           rw [q2] at q4
           cases w1:fT (wF d (a_ aF (aZ v.2.1)) (az (dp d (aZ v.2.1))).2).1 dm with
           | none =>
            cases w2:fT d dm with
            | none=>rfl
            | some t=>rw [w1,w2] at q4;cases q4
           | some s =>
            cases w2:fT d dm with
            | none=>rw [w1,w2] at q4;cases q4
            | some t=>rw [w1,w2] at q3;exact congrArg some q3
         · have ew:=et (a_ aF (aZ v.2.1))
           rw [bX,ac] at ew
           show (az (aT _ _).1).2=((aT _ _).1.size:Int)
           rw [ew]
           show (az (ByteArray.extract (dp d (aZ v.2.1)) 0 _)).2=((ByteArray.extract (dp d (aZ v.2.1)) 0 _).size:Int)
           rw [yn,qf _ (by omega)]
           omega
         · rw [et,kK fun q=>hn ?_]
           · rfl
           · by_cases w:x=aZ v.2.1
             · exact w
             · exact absurd q (mg ⟨(n3 x hx).1,Iy (n3 x hx).2 n2⟩ ⟨b1,by omega⟩ w)
       · simp only [aP hb,aK] at c1' c3' ⊢
         refine ⟨lE,?_,fun x hx hn=>pS hd c3' _⟩
         show (az (aT _ _).1).2=((aT _ _).1.size:Int)
         rw [pS hd c3']
         show (az (dp d (aZ v.2.1))).2=((dp d (aZ v.2.1)).size:Int)
         omega
      obtain ⟨f1,f2,f3⟩:=flive
      have gJ:∀ (L:qD),v.2.1=L.map (·.1)→(∀ x ∈ L,fT (fQ (aZ v.2.1) d).1 (a_ aF x.1)=some (aX x.2)∧∀ r ∈ x.2,bm r=true)→(jq (fQ (aZ v.2.1) d).1 v.2.1).2.2.1=0→JT (jb L) (jq (fQ (aZ v.2.1) d).1 v.2.1).1 (aJ ((jq (fQ (aZ v.2.1) d).1 v.2.1).2.1+1)):=fun L e1 e2 e3=>by
       have hL:1≤L.length:=by
        rw [e1,List.length_map] at hv1
        exact hv1
       rw [e1] at fx e2 e3 ⊢
       exact I6 fx hL e2 e3
      unfold ta at z ⊢
      generalize jq (fQ (aZ v.2.1) d).1 v.2.1=g at z gJ ⊢
      cases cq:g.2.2.1 != 0 with
      | true=>rw [cq] at z;exact absurd z (by show (3:Int)≠0;decide)
      | false =>
       rw [cq] at z
       simp only [aK] at z ⊢
       cases cs:(gm v.2.1 (fQ (aZ v.2.1) d).1).2 != 0 with
       | true =>
        rw [cs] at z
        have z:iF (gm v.2.1 (fQ (aZ v.2.1) d).1).2=0:=z
        have:=iD (gm v.2.1 (fQ (aZ v.2.1) d).1).2
        rw [z] at this
        rw [show ((gm v.2.1 (fQ (aZ v.2.1) d).1).2 != 0)=!((gm v.2.1 (fQ (aZ v.2.1) d).1).2==0) from rfl,← this] at cs
        cases cs
       | false =>
        simp only [aK]
        have hx:=q7 v.2.1 _ fx
        have sk:∀ t:ByteArray,(t=dm∨∃ x ∈ v.2.1,1≤x∧x≤100000∧t=a_ aF x)→fT (gm v.2.1 (fQ (aZ v.2.1) d).1).1 t=fT (fQ (aZ v.2.1) d).1 t:=fun t=>D2
        have sS:∀ i ∈ v.2.1,fT (gm v.2.1 (fQ (aZ v.2.1) d).1).1 (a_ aF i)=fT (fQ (aZ v.2.1) d).1 (a_ aF i):=fun i hi=>sk _ (.inr ⟨i,hi,(n3 i hi).1,Iy (n3 i hi).2 n2,rfl⟩)
        obtain ⟨t1,_,_⟩:=w9 cg
        have hfull:∀ i ∈ v.2.1,∃ t,fT (fQ (aZ v.2.1) d).1 (a_ aF i)=some t∧FL t:=fun i hi=>by
         have h1:(aT (fQ (aZ v.2.1) d).1 (a_ aF i)).2=true:=by rw [(ftx _).1];exact t1 i hi
         rw [qa fx] at h1
         obtain ⟨t,ht⟩:=Option.isSome_iff_exists.1 h1
         refine ⟨t,ht,EU ?_⟩
         have h2:(az (dp (fQ (aZ v.2.1) d).1 i)).2=((dp (fQ (aZ v.2.1) d).1 i).size:Int):=by
          by_cases w:i=aZ v.2.1
          · rw [w];exact f2
          · have:=yL cg i hi w
            unfold dp at this ⊢
            rw [f3 i hi w]
            exact this
         unfold dp at h2
         rw [jD fx,ht] at h2
         exact h2
        obtain ⟨L,l1,l2⟩:=zV hfull
        have hlast:aZ v.2.1 ∈ v.2.1:=by
         rw [lh hv1]
         exact List.mem_append_right _ (by rw [← lh hv1];exact List.mem_singleton.2 rfl)
        refine ⟨L,⟨h1,hx,l1,fun x hx'=>⟨?_,(l2 x hx').2⟩,fun t q=>?_⟩,gJ L l1 l2 (gn cq)⟩
        · rw [sS x.1 (by rw [l1];exact List.mem_map.2 ⟨x,hx',rfl⟩)]
          exact (l2 x hx').1
        · have q:fT (gm v.2.1 (fQ (aZ v.2.1) d).1).1 (a_ aF (aZ v.2.1))=some t:=q
          rw [sS _ hlast] at q
          show (az (dp d (aZ v.2.1))).2=(t.size:Int)
          have e3:az (dp (fQ (aZ v.2.1) d).1 (aZ v.2.1))=az (dp d (aZ v.2.1)):=(ftx _).2
          rw [← e3,f2]
          unfold dp
          rw [jD fx,q]
          rfl
  · rw [show fM (aT d dm).1=((0,([],())),false) from e] at z
    exact absurd z (by show (3:Int)≠0;decide)
theorem Io {d:Ty.d aA} {s:ByteArray} (z:(wz d s).2=0):fT (wz d s).1 s=some ByteArray.empty:=by
 obtain ⟨c1,c2⟩:=o5 (d:=d) (g:=tf s) z
 unfold fT
 show (bh (ij d (tf s)).1.1 s).map _=_
 rw [c2]
 unfold tf at c1 ⊢
 cases c3:jo s with
 | false=>rw [c3] at c1;cases c1
 | true =>
  rw [c3] at c1
  simp only [fh,aK] at c1 ⊢
  cases c4:(bh d.1 s) with
  | some f=>rw [c4] at c1;cases c1
  | none =>
   rw [c4] at c1
   simp only [Option.isSome_none,aK] at c1 ⊢
   cases c5:decide ((d.1.length:Int)≥130) with
   | true=>rw [c5] at c1;cases c1
   | false =>
    simp only [aK]
    rw [vA (f:=(s,(ByteArray.empty,(0,())))) c4,bX]
    rfl
theorem Ij {d:Ty.d aA} (z:(ja d).2.2=0):MI (ja d).1 (ja d).2.1:=by
 cases ht:(aT d JD).2 with
 | true=>exact H2 ht z
 | false =>
  have ht:(aT d dm).2=false:=ht
  cases hdk:gf d with
  | false =>
   rw [HY hdk] at z
   exact absurd z (by show (4:Int)≠0;decide)
  | true =>
   have hd:=jP.1 hdk
   unfold ja at z ⊢
   rw [hdk] at z ⊢
   simp only [fh,aK] at z ⊢
   cases c1:d.2.2.2.1 with
   | true=>rw [c1] at z;exact absurd z (by show (1:Int)≠0;decide)
   | false =>
    rw [c1,ht] at z
    rw [ht]
    simp only [tn,ac,aK] at z ⊢
    unfold p0 at z ⊢
    cases c2:(jW d).2==0 with
    | false =>
     rw [c2] at z
     have z:iF (jW d).2=0:=z
     have:=iD (jW d).2
     rw [z,c2] at this
     cases this
    | true =>
     simp only [ac]
     have c2:(jW d).2=0:=Hi c2
     have hD:DR (jW d).1:=im (im (q7 [] d hd) fun x hx=>zX hx _) (jp u9)
     have ht1:fT (jW d).1 (a_ aF 1)=some ByteArray.empty:=by
      unfold jW at c2 ⊢
      obtain ⟨z1,z2,_⟩:=iz c2
      rw [z2,gj (gZ (by decide)) (iX (by decide))]
      obtain ⟨z3,z4,z5⟩:=iz z1
      rw [z4]
      exact Io z5
     refine ⟨[(1,[])],⟨by decide,hD,rfl,fun x hx=>?_,fun t q=>?_⟩,⟨0,rfl⟩,rfl,fun p hp=>(by cases hp),show (1:Int)≤1 by decide,show (1:Int)≤1000001 by decide⟩
     · rw [List.mem_singleton.1 hx]
       exact ⟨ht1,fun r hr=>by cases hr⟩
     · have q:fT (jW d).1 (a_ aF 1)=some t:=q
       rw [ht1] at q
       rw [← Option.some.inj q]
       rfl
def CL (Q:Ty.d aA→Prop):Prop:=∀ d g,Q d→Q (ij d g).1
theorem n6 {Q:Ty.d aA→Prop} {r:RD} {f:Ty.d aA→RD} (h:Q r.1) (hf:∀ x,Q x→Q (f x).1):Q (gM r f).1:=by
 unfold gM
 cases r.2==0 with
 | true=>exact hf _ h
 | false=>exact h
section
variable {Q:Ty.d aA→Prop} (hQ:CL Q)
include hQ
theorem ET (s:ByteArray) (d:Ty.d aA) (h:Q d):Q (mB s d).1:=by
 unfold mB
 cases (bh d.1 s).isSome with
 | true=>exact hQ d (BB s) h
 | false=>exact h
theorem sW (s:ByteArray) (d:Ty.d aA) (h:Q d):Q (bM s d).1:=n6 (ET hQ s d h) fun x hx=>hQ x (tf s) hx
theorem zS (s t:ByteArray) (d:Ty.d aA) (h:Q d):Q (l_ s t d).1:=n6 (n6 (sW hQ s d h) fun x hx=>hQ x (zC s t) hx) fun x hx=>hQ x (uZ s) hx
theorem rV (v:Ty.d cY) (d:Ty.d aA) (h:Q d):Q (bf v d).1:=n6 (zS hQ _ _ d h) fun x hx=>hQ x (Bb iK dm) hx
theorem n9:∀ (l:List ByteArray) (d:Ty.d aA),Q d→Q (eh l d).1
 | [],d,h=>h
 | s::l,d,h=>n6 (ET hQ s d h) (n9 l)
theorem Jr (st:Ty.d aE) {d:Ty.d aA} (h:Q d):Q (jc st d).2.1:=by
 have h1:Q (fj d (cj st)).1:=hQ d (uZ (cj st)) h
 have h2:=sW hQ (a_ aF st.1.1) _ h1
 have h3:=rV hQ (kM st) _ h2
 unfold jc
 cases decide ((st.1.2.1.length:Int)≥60) with
 | true=>exact h
 | false =>
  cases decide (st.1.1≥(100000:Int)) with
  | true=>exact h
  | false =>
   simp only [aK]
   generalize fj d (cj st)=r1 at h1 h2 h3 ⊢
   generalize bM (a_ aF st.1.1) r1.1=r2 at h2 h3 ⊢
   generalize bf (kM st) r2.1=r3 at h3 ⊢
   cases r1.2 != 0 with
   | true=>exact h1
   | false =>
    cases r2.2 != 0 with
    | true=>exact h2
    | false =>
     cases r3.2 != 0 with
     | true =>
      show Q (nW (a_ aF st.1.1) (tl r3)).1
      unfold nW
      cases (tl r3).2==2 with
      | false=>exact h3
      | true=>exact n9 hQ _ r3.1 h3
     | false=>exact h3
theorem GI (st:Ty.d aE) {d:Ty.d aA} (h:Q d) (r:Ty.d b7):Q (jQ st d r).1.2.1:=by
 have ha:Q (iH d (cj st) (aQ (aG r))).1:=hQ d (zC (cj st) (aQ (aG r))) h
 unfold jQ
 generalize iH d (cj st) (aQ (aG r))=a at ha ⊢
 cases a.2 != 0 <;> exact ha
theorem Jl (st:Ty.d aE) {d:Ty.d aA} (h:Q d) (r:Ty.d b7):Q (fc st d r).1.2.1:=by
 have h1:=Jr hQ st h
 unfold fc
 cases decide (st.2.2.2.1 > 0)&&decide (st.2.2.2.1+aw r > 200) with
 | false=>exact GI hQ st h r
 | true =>
  simp only [ac]
  generalize jc st d=q at h1 ⊢
  cases q.2.2 != 0 with
  | true=>exact h1
  | false=>exact GI hQ q.1 h1 r
theorem Dk:∀ (l:j7) (st:Ty.d aE) (d:Ty.d aA) (ps:aW),Q d→Q (ek l st d ps).1.2.1
 | [],_,_,_,h=>h
 | r::l,st,d,ps,h=>by
  have h1:=Jl hQ st h r
  unfold ek
  generalize fc st d r=q at h1 ⊢
  cases q.1.2.2 != 0 with
  | true=>exact h1
  | false=>exact Dk l _ _ _ h1
theorem yS (st:Ty.d aE) {d:Ty.d aA} (l:lA) (h:Q d):Q (fm st d l).2.1:=by
 unfold fm
 cases !d9 st d with
 | true=>exact h
 | false =>
  cases !ju l with
  | true=>exact h
  | false =>
   cases (l.length:Int)==0 with
   | true=>exact h
   | false =>
    cases decide (lX st.2.1 l > 20) with
    | true=>exact h
    | false =>
     cases decide (st.2.2.1 > (1000000:Int)) with
     | true=>exact h
     | false =>
      show Q (gD st d l).2.1
      have h1:=Dk hQ (iW l st.2.2.1) (pF st) d [] h
      unfold gD
      generalize ek (iW l st.2.2.1) (pF st) d []=q at h1 ⊢
      have h2:Q (fj q.1.2.1 (cj q.1.1)).1:=hQ _ (uZ (cj q.1.1)) h1
      unfold t8
      cases q.1.2.2 != 0 with
      | true=>exact h1
      | false =>
       simp only [aK]
       generalize fj q.1.2.1 (cj q.1.1)=y at h2 ⊢
       cases y.2 != 0 <;> exact h2
theorem JM (nm:ByteArray):∀ (rs:j7) (r:RD),Q r.1→Q (vM nm rs r).1
 | [],_,h=>h
 | x::rs,r,h=>JM nm rs _ (n6 h fun y hy=>hQ y (zC nm (aQ (aG x))) hy)
theorem tX (ns:List ByteArray) {r:RD} (h:Q r.1):Q (kf ns r).1:=by
 unfold kf
 cases r.2==2 with
 | true=>exact n9 hQ _ _ h
 | false=>exact h
theorem AY (st:Ty.d aE) {d:Ty.d aA} (h:Q d):Q (mI st d).2.1:=by
 unfold mI
 cases !d9 st d with
 | true=>exact h
 | false =>
  cases decide (st.1.1+2 > (100000:Int)) with
  | true=>exact h
  | false =>
   cases (gd st.2.1 d).2 != 0 with
   | true=>exact h
   | false =>
    show Q (dP (Hj st.1.1) st d (gd st.2.1 d).1).2.1
    generalize (gd st.2.1 d).1=l
    have a1:Q (fP st.1.1 l (st.2.2.1-1) d).1:=n6 (JM hQ _ _ _ (sW hQ _ d h)) fun x hx=>hQ x (uZ _) hx
    unfold dP
    generalize fP st.1.1 l (st.2.2.1-1) d=a at a1 ⊢
    cases a.2 != 0 with
    | true=>exact tX hQ _ (r:=tl a) a1
    | false =>
     have b1:=sW hQ (a_ aF (st.1.1+1)) a.1 a1
     simp only [aK]
     generalize bM (a_ aF (st.1.1+1)) a.1=b at b1 ⊢
     cases b.2 != 0 with
     | true=>exact tX hQ _ (r:=tl b) b1
     | false =>
      have c1:Q (kn (Hj st.1.1) st.1.1 b.1).1:=by
       unfold kn
       cases (l_ (a_ dG st.1.1) (Hj st.1.1 (aT b.1 (a_ aF st.1.1)).1) b.1).2==2 with
       | true=>exact n9 hQ _ _ (zS hQ _ _ _ b1)
       | false=>exact zS hQ _ _ _ b1
      simp only [aK]
      generalize kn (Hj st.1.1) st.1.1 b.1=e at c1 ⊢
      cases e.2 != 0 with
      | true=>exact c1
      | false =>
       have d1:=rV hQ (iL st.1.1) e.1 c1
       simp only [aK]
       generalize bf (iL st.1.1) e.1=f at d1 ⊢
       cases f.2 != 0 with
       | true=>exact tX hQ _ (r:=tl f) d1
       | false =>
        have o:∀ (ids:List Int) (x:Ty.d aA),Q x→Q (sA ids x).1:=by
         intro ids
         induction ids with
         | nil=>exact fun x hx=>hx
         | cons y ids ih=>exact fun x hx=>n6 (n9 hQ _ _ hx) fun z hz=>ih z hz
        exact o _ _ d1
theorem IR {d:Ty.d aA} (h:Q d):Q (ja d).2.1:=by
 unfold ja
 cases !gf d with
 | true=>exact h
 | false =>
  cases d.2.2.2.1 with
  | true=>exact h
  | false =>
   cases !(aT d dm).2 with
   | true =>
    have h1:Q (jW d).1:=n6 (n6 (n9 hQ _ d h) fun x hx=>hQ x (tf _) hx) fun x hx=>rV hQ u9 x hx
    show Q (p0 d).2.1
    unfold p0
    cases (jW d).2==0 <;> exact h1
   | false =>
    cases !(fM (aT d dm).1).2 with
    | true=>exact h
    | false =>
     show Q (qE (fM (aT d dm).1).1 d).2.1
     generalize (fM (aT d dm).1).1=v
     unfold qE
     cases !iV d v.2.1 with
     | true=>exact h
     | false =>
      have h1:Q (fQ (aZ v.2.1) d).1:=by
       unfold fQ
       refine n6 ?_ fun x hx=>hQ x (uZ _) hx
       cases decide ((az (dp d (aZ v.2.1))).2<((dp d (aZ v.2.1)).size:Int)) with
       | true=>exact hQ d (FA _ _) h
       | false=>exact h
      simp only [aK]
      cases (fQ (aZ v.2.1) d).2 != 0 with
      | true=>exact h1
      | false =>
       simp only [aK]
       generalize jq (fQ (aZ v.2.1) d).1 v.2.1=g
       have h2:Q (gm v.2.1 (fQ (aZ v.2.1) d).1).1:=n9 hQ _ _ h1
       unfold ta
       cases g.2.2.1 != 0 with
       | true=>exact h1
       | false =>
        simp only [aK]
        cases (gm v.2.1 (fQ (aZ v.2.1) d).1).2 != 0 <;> exact h2
end
theorem yh (d:Ty.d aA):(jF d).1.1=d.1∧(dn d=true→dn (jF d).1=true∧(jF d).2≠0)∧(LT.lt (α:=Int) d.2.2.1 0→dn d=false→jF d=(d,0)∨jF d=(d,5)):=by
 unfold jF dn
 cases c0:!gf d with
 | true=>exact ⟨rfl,fun h=>⟨h,by show (5:Int)≠0;decide⟩,fun _ _ => .inr rfl⟩
 | false =>
  simp only [aK]
  cases c1:d.2.2.2.1 with
  | true=>exact ⟨rfl,fun h=>⟨rfl,by show (1:Int)≠0;decide⟩,fun _ h=>by cases h⟩
  | false =>
   simp only [aK]
   cases c2:d.2.2.1==0 with
   | true=>exact ⟨rfl,fun h=>(by cases h),fun h _=>by rw [Hi c2] at h;exact absurd h (by decide)⟩
   | false =>
    cases c3:decide ((d.2.2.1:Int) > 0) with
    | true=>exact ⟨rfl,fun h=>(by cases h),fun h _=>absurd (of_decide_eq_true c3) (Int.not_lt.2 (Int.le_of_lt h))⟩
    | false=>exact ⟨rfl,fun h=>(by cases h),fun _ _ => .inl rfl⟩
theorem E_:CL fun d=>dn d=true:=fun d g h=>by
 obtain ⟨h1,h2⟩:=(yh d).2.1 h
 unfold ij
 rw [show ((jF d).2 != 0)=true from bne_iff_ne.2 h2]
 exact h1
def FU (d:Ty.d aA):Prop:=LT.lt (α:=Int) d.2.2.1 0∧dn d=false
theorem yz:CL FU:=fun d g h=>by
 unfold ij
 rcases (yh d).2.2 h.1 h.2 with e | e
 · rw [e];exact h
 · rw [e];exact h
theorem Fa {st:Ty.d aE} {d:Ty.d aA} {l:lA} (h:dn (fm st d l).2.1=false):dn d=false:=by
 cases c:dn d with
 | false=>rfl
 | true=>rw [yS E_ st l c] at h;cases h
theorem GO {st:Ty.d aE} {d:Ty.d aA} (h:dn (mI st d).2.1=false):dn d=false:=by
 cases c:dn d with
 | false=>rfl
 | true=>rw [AY E_ st c] at h;cases h
theorem Jz {st:Ty.d aE} {d d':Ty.d aA} (h:MI st d) (hd:DR d') (e:d'.1=d.1):MI st d':=by
 obtain ⟨L,t,j⟩:=h
 have k:∀ s,fT d' s=fT d s:=fun s=>by unfold fT;rw [e]
 exact ⟨L,⟨t.live,hd,t.ids,fun x hx=>⟨(k _).trans (t.text x hx).1,(t.text x hx).2⟩,fun s q=>t.tail s ((k _).symm.trans q)⟩,j⟩
abbrev gq:=List (Ty.d dH)
def jR (l:gq) (id:Int):ByteArray:=match l with
 | []=>⟨#[]⟩
 | p::r=>bif p.1==id then p.2.1 else jR r id
theorem ra {k:Nat} (hk:2 ^ 50≤k) (f:Ty.d ay) (id:Int) (hl:f.2.1.length≤1099511627775):gX.f k f id=some (jR f.2.1 id,()):=by
 unfold gX.f gX.t
 refine e_ (L:=fun n i (_:Unit)=>gX.l0 k n id f.2.1 f.2.1.length i) (R:=fun r _=>some (jR r id,())) (Ty.z dH) f.2.1 (fun _ _=>True) (fun n s hs=>?_) (fun n i s x rest h0 h1 hx hr hp ih=>?_) (n:=k) (s:=()) (by omega) trivial
 · simp (disch:=omega) only [gX.l0,gX.b0,aP,aK,jR]
 · simp (disch:=omega) only [gX.l0,gX.b0,aO,ac,aH,hx,aD,jR]
   rw [ih () trivial]
   cases x.1==id <;> rfl
theorem tL {l:gq} {id:Int} {b:Nat} (h:∀ p ∈ l,p.2.1.size≤b):(jR l id).size≤b:=by
 induction l with
 | nil=>exact Nat.zero_le _
 | cons p r ih =>
  unfold jR
  cases p.1==id
  · exact ih fun q hq=>h q (lK _ hq)
  · exact h p (jd ..)
def G9 (l:gq):Nat:=(l.map fun p=>p.2.1.size).sum
theorem IH {l:gq} {p:Ty.d dH} (h:p ∈ l):p.2.1.size≤G9 l:=by
 unfold G9
 induction l with
 | nil=>cases h
 | cons q l ih =>
  rw [List.map_cons,List.sum_cons]
  rcases List.mem_cons.1 h with e | e
  · subst e;omega
  · have:=ih e;omega
abbrev EC:=List (Ty.d mK)
def xH (f:gq):EC→gq→List Int→Option (gq × List Int)
 | [],out,ids=>some (out,ids)
 | b::l,out,ids=>bif decide ((0:Int)≤b.2.1∧b.2.1≤((jR f b.1).size:Int)) then xH f l (out++[(b.1,(ByteArray.extract (jR f b.1) 0 (Int.toNat b.2.1)++b.2.2.1,()))]) (ids++[b.1]) else none
def EE (f:Ty.d ay) (next:Int):Option (gq × List Int)→Ty.d ay × Bool × Unit
 | none=>(f,(false,()))
 | some q=>bif !cS (next,(q.2,())) then (f,(false,())) else ((next,(q.1,())),(true,()))
def HW (f:Ty.d ay) (p:Ty.d jZ):Ty.d ay × Bool × Unit:=EE f p.1 (xH f.2.1 p.2.1 [] [])
def FB (l:gq) (B:Nat):Prop:=∀ p ∈ l,p.2.1.size≤B
def PB (l:EC) (B:Nat):Prop:=∀ p ∈ l,p.2.2.1.size≤B
theorem wI {k:Nat} (hk:2 ^ 50≤k) {f:Ty.d ay} {p:Ty.d jZ} (hf:f.2.1.length≤1000000) (hp:p.2.1.length≤1000000) {B B':Nat} (h1:FB f.2.1 B) (h2:PB p.2.1 B') (hB:B≤1099511627776) (hB':B'≤1099511627776):bN.f k f p=some (HW f p):=by
 unfold bN.f bN.t
 rw [cD (by omega) (by decide)]
 refine e_ (L:=fun n i (s:gq × List Int)=>bN.l0 k n p.2.1 p.2.1.length i f.1 f.2.1 [] 0 f.2.1 f.1 s.1 p.1 s.2 p.1) (R:=fun r s=>some (EE f p.1 (xH f.2.1 r s.1 s.2))) (Ty.z mK) p.2.1 (fun i s=>(s.1.length:Int)≤i∧(s.2.length:Int)≤i) (fun n s hs=>?_) (fun n i s x rest g0 g1 hx hr hs ih=>?_) (n:=k) (s:=([],[])) (by omega) ⟨by decide,by decide⟩
 · obtain ⟨s1,s2⟩:=hs
   simp only [bN.l0,bN.b0]
   rw [aP (by omega),aK,u5 hk (by show s.2.length≤_;omega),ab]
   unfold xH EE
   simp only []
   cases cS (p.1,(s.2,())) <;> rfl
 · obtain ⟨s1,s2⟩:=hs
   have hm:x ∈ p.2.1:=by rw [← hx];exact iI (by omega)
   have hsz:=tL (id:=x.1) h1
   have hpz:=h2 x hm
   have hez:(ByteArray.extract (jR f.2.1 x.1) 0 (Int.toNat x.2.1)).size≤(jR f.2.1 x.1).size:=by rw [ByteArray.size_extract];omega
   simp only [bN.l0,bN.b0]
   rw [aO g1,ac,aH g0 g1,hx,ra hk _ _ (by show f.2.1.length≤_;omega),ab,lm,ab]
   unfold xH
   simp only []
   by_cases c:(0:Int)≤x.2.1∧x.2.1≤((jR f.2.1 x.1).size:Int)
   · rw [aO c,fh,aK,ac,cN c.1 c.2,e9 (by omega),cD (by omega) (by decide),cD (by omega) (by decide),aD (n:=i+1) (by omega) (by omega)]
     exact ih (s.1++[(x.1,(ByteArray.extract (jR f.2.1 x.1) 0 (Int.toNat x.2.1)++x.2.2.1,()))],s.2++[x.1]) ⟨by simp only [];rw [br];omega,by simp only [];rw [br];omega⟩
   · rw [aP c]
     rfl
theorem CJ {k:Nat} (hk:2 ^ 50≤k) {f:Ty.d ay} (hf:f.2.1.length≤1048576):bE.f k f f=some (true,()):=by
 unfold bE.f bE.t
 rw [bne_self_eq_false,aK,bne_self_eq_false,aK]
 refine e_ (L:=fun n i (_:Unit)=>bE.l0 k n i f.1 f.2.1 f.1 f.2.1) (R:=fun r _=>some (true,())) (Ty.z dH) f.2.1 (fun _ _=>True) (fun n _ _=>?_) (fun n i _ x rest h0 h1 hx hr hp ih=>?_) (n:=k) (s:=()) (by omega) trivial
 · simp only [bE.l0,bE.b0]
   rw [aP (by omega),aK]
 · simp only [bE.l0,bE.b0]
   rw [aO h1,ac]
   repeat rw [aH h0 h1]
   rw [hx,aD (n:=i+1) (by omega) (by omega),bX,beq_self_eq_true]
   exact ih () trivial
theorem xy {k:Nat} (hk:2 ^ 50≤k) {p:Ty.d jZ} (hp:p.2.1.length≤1048576):c9.f k p=some (p.2.1.foldl (fun (a:Int) b=>aJ (a+(b.2.2.1.size:Int))) 0,()):=by
 unfold c9.f c9.t
 refine e_ (L:=fun n i (s:Int)=>c9.l0 k n s p.2.1 p.2.1.length i) (R:=fun r s=>some (r.foldl (fun (a:Int) b=>aJ (a+(b.2.2.1.size:Int))) s,())) (Ty.z mK) p.2.1 (fun _ _=>True) (fun n s hs=>?_) (fun n i s x rest h0 h1 hx hr hp ih=>?_) (n:=k) (by omega) trivial
 · simp only [c9.l0,c9.b0]
   rw [aP (by omega),aK]
   rfl
 · simp only [c9.l0,c9.b0]
   rw [aO h1,ac,aH h0 h1,hx,aD (n:=i+1) (by omega) (by omega)]
   exact ih _ trivial
noncomputable def lz (d:Ty.d aA) (f:gq) (id:Int):Ty.d mK :=
 bif tH (aT d (a_ aF id)).1 (jR f id) then (id,(((jR f id).size:Int),(ByteArray.extract (aT d (a_ aF id)).1 (jR f id).size (aT d (a_ aF id)).1.size,()))) else (id,(0,((aT d (a_ aF id)).1,())))
noncomputable def lO (st:Ty.d aE) (d:Ty.d aA) (f:gq):Ty.d jZ :=
 bif !d9 st d then (0,([],())) else (st.1.1,(st.1.2.1.map (lz d f),()))
theorem Ez {st:Ty.d aE} {d:Ty.d aA} (h:d9 st d=true):st.1.2.1.length≤60:=by
 unfold d9 cS at h
 simp only [gN,decide_eq_true_eq] at h
 omega
theorem B9 {k:Nat} (hk:2 ^ 50≤k) {st:Ty.d aE} {d:Ty.d aA} {f:Ty.d ay} (hd:AM d) (hw1:st.1.2.1.length≤1048576) (hw:st.2.1.length≤1048576) (hf:f.2.1.length≤1099511627775) (hp:∀ p ∈ f.2.1,p.2.1.size≤1073741824):dA.f k st d f=some (lO st d f.2.1,()):=by
 have:=hd.l;have:=hd.u;have:=hd.n
 unfold dA.f dA.t lO
 rw [AG hk hd (by omega) (by omega),ab]
 cases c:d9 st d with
 | false=>rfl
 | true =>
  have hv:=Ez c
  rw [fh,aK,aK]
  refine e_ (L:=fun n i s=>dA.l0 k n st.1.2.1 st.1.2.1.length i d.1 d.2.1 d.2.2.1 d.2.2.2.1 f.1 f.2.1 [] 0 s st.1.1) (R:=fun r s=>some ((st.1.1,(s++r.map (lz d f.2.1),())),())) (Ty.z (.int .i64)) st.1.2.1 (fun i s=>(s.length:Int)=i) (fun n s hs=>?_) (fun n i s x rest h0 h1 hx hr hs ih=>?_) (n:=k) (s:=[]) (by omega) rfl
  · simp (disch:=omega) only [dA.l0,dA.b0,aP,aK,List.map_nil,List.append_nil]
  · have ih:=ih (s++[lz d f.2.1 x]) (by rw [br];omega)
    have hz:=fp d (a_ aF x)
    have ht:=pW hk (d:=d) (by omega) (by omega) (by omega) (a_ aF x)
    have hh:=ra hk f x hf
    have hm:=tL (id:=x) hp
    have hpre:h_.f k (aT d (a_ aF x)).1 (jR f.2.1 x)=some (tH (aT d (a_ aF x)).1 (jR f.2.1 x),()):=by
     unfold h_.f
     rw [Ht]
    have ha:s++[lz d f.2.1 x]++rest.map (lz d f.2.1)=s++(x::rest).map (lz d f.2.1):=by rw [nn];rfl
    rw [ha] at ih
    simp (disch:=first | omega | decide) only [dA.l0,dA.b0,aO h1,ac,aH,hx,mr k,ab,ht,hh,hpre,cD,aD,nt]
    unfold lz at ih
    cases e:tH (aT d (a_ aF x)).1 (jR f.2.1 x) with
    | true =>
     have hle:=Dj e
     rw [ac,cN (by omega) (by omega)]
     rw [e] at ih
     exact ih
    | false =>
     rw [aK]
     rw [e] at ih
     exact ih
noncomputable def nL:gq→aW→Option aW
 | [],acc=>some acc
 | p::r,acc=>bif decide ((az p.2.1).2<(p.2.1.size:Int)) then none else nL r (acc++b9 p.1 (az p.2.1).1)
noncomputable def kW (f:gq):aR→iE→iE × Bool
 | [],acc=>(acc,true)
 | e::r,acc=>bif (dk (jR f e.2.1) e.2.2.1 e.2.2.2.1).2 then kW f r (acc++[((dk (jR f e.2.1) e.2.2.1 e.2.2.2.1).1.2.2.1,((dk (jR f e.2.1) e.2.2.1 e.2.2.2.1).1.2.2.2.1,((dk (jR f e.2.1) e.2.2.1 e.2.2.2.1).1.2.1,())))]) else ([],false)
noncomputable def oU (f:gq):iE × Bool:=match nL f [] with
 | none=>([],false)
 | some l=>bif (eD ([],(0,(0,()))) l).2.2.1 != 0 then ([],false) else kW f (eD ([],(0,(0,()))) l).1 []
theorem xl {k:Nat} (hk:2 ^ 50≤k) (f:Ty.d ay) (hl:f.2.1.length≤134217728) (ht:G9 f.2.1≤134217728):ap.f k f=some ((oU f.2.1).1,((oU f.2.1).2,())):=by
 have hp:∀ p ∈ f.2.1,p.2.1.size≤134217728:=fun p h=>Nat.le_trans (IH h) ht
 unfold ap.f ap.t oU
 have l1:∀ g:aR,g.length≤268435456→ap.l1 k k g.length 0 f.1 f.2.1 [] g=some ((kW f.2.1 g []).1,((kW f.2.1 g []).2,())):=fun g hg=>by
  refine e_ (L:=fun n i s=>ap.l1 k n g.length i f.1 f.2.1 s g) (R:=fun r s=>some ((kW f.2.1 r s).1,((kW f.2.1 r s).2,()))) (Ty.z aB) g (fun i s=>(s.length:Int)=i) (fun n s hs=>?_) (fun n i s x rest h0 h1 hx hr hp' ih=>?_) (n:=k) (s:=[]) (by omega) (by decide)
  · simp (disch:=omega) only [ap.l1,ap.b1,aP,aK,kW]
  · have hh:=ra hk (f.1,(f.2.1,())) x.2.1 (by simp only [];omega)
    have hz:=tL (id:=x.2.1) hp
    have hr':=t_ hk (s:=jR f.2.1 x.2.1) x.2.2.1 x.2.2.2.1 (by omega)
    simp (disch:=first | omega | decide) only [ap.l1,ap.b1,aO,ac,aH,hx,hh,hr',ab,cD,aD,kW]
    generalize dk (jR f.2.1 x.2.1) x.2.2.1 x.2.2.2.1=q
    cases c:q.2 with
    | true=>exact ih _ (by rw [br];omega)
    | false=>rfl
 refine e_ (L:=fun n i s=>ap.l0 k n f.2.1 f.2.1.length i f.1 f.2.1 s) (R:=fun r s=>some ((match nL r s with | none=>(([],false):iE × Bool) | some l=>bif (eD ([],(0,(0,()))) l).2.2.1 != 0 then ([],false) else kW f.2.1 (eD ([],(0,(0,()))) l).1 []).1,
  ((match nL r s with | none=>(([],false):iE × Bool) | some l=>bif (eD ([],(0,(0,()))) l).2.2.1 != 0 then ([],false) else kW f.2.1 (eD ([],(0,(0,()))) l).1 []).2,()))) (Ty.z dH) f.2.1 (fun i s=>s.length+G9 (f.2.1.drop i.toNat)≤134217728) (fun n s hs=>?_) (fun n i s x rest h0 h1 hx hr hp' ih=>?_) (n:=k) (s:=[]) (by omega) (by simpa using ht)
 · rw [Int.toNat_natCast,List.drop_length] at hs
   have hs':s.length≤134217728:=by omega
   have hg:=ou (g:=([],(0,(0,())))) (l:=s) hs' (by simp)
   simp (disch:=first | omega | (simp only [List.length_nil];omega)) only [ap.l0,ap.b0,aP,aK,nL,vp hk,ab]
   generalize eD ([],(0,(0,()))) s=g at *
   cases c:g.2.2.1 != 0
   · rw [aK,aK,l1 _ hg]
   · rfl
 · have hm:x ∈ f.2.1:=List.mem_of_mem_drop (by rw [hr];exact jd ..)
   have hx1:=hp x hm
   have hsc:=j3 x.2.1
   have e:=uS hk (s:=x.2.1) (by omega)
   have hrest:f.2.1.drop (i+1).toNat=rest:=by
    have:=congrArg (List.drop 1) hr
    rw [List.drop_drop,List.drop_one,List.tail_cons] at this
    rw [show (i+1).toNat=i.toNat+1 by omega]
    exact this
   rw [hr] at hp'
   have htx:G9 (x::rest)=x.2.1.size+G9 rest:=by unfold G9;rw [List.map_cons,List.sum_cons]
   have hpl:=qF x.1 (az x.2.1).1
   simp (disch:=omega) only [ap.l0,ap.b0,aO h1,ac,aH,hx,e,ab,aD,nL]
   by_cases c:(az x.2.1).2<(x.2.1.size:Int)
   · rw [aO c,show ((az x.2.1).2 != (x.2.1.size:Int))=true from bne_iff_ne.2 (by omega)]
     rfl
   · rw [aP c,show ((az x.2.1).2 != (x.2.1.size:Int))=false from by rw [bne_eq_false_iff_eq];omega]
     simp only [aK]
     rw [xi hk _ (by omega),ab]
     simp only []
     rw [cD (by omega) (by decide)]
     exact ih _ (by rw [hrest,u7];omega)
noncomputable def qg (d:Ty.d aA) (i:Int):Ty.d dH:=(i,((aT d (a_ aF i)).1,()))
noncomputable def m8 (st:Ty.d aE) (d:Ty.d aA):gq:=st.1.2.1.map (qg d)
theorem Bd (s:ByteArray):ByteArray.extract s 0 0=⟨#[]⟩:=jV (by rw [jf];rfl)
theorem vc (d:Ty.d aA) (f:gq):∀ (ids:List Int) (out:gq) (acc:List Int),xH f (ids.map (lz d f)) out acc=some (out++ids.map (qg d),acc++ids)
 | [],out,acc=>by rw [List.map_nil,List.map_nil,List.append_nil,List.append_nil];rfl
 | i::ids,out,acc=>by
  have key:(lz d f i).1=i∧(0:Int)≤(lz d f i).2.1∧(lz d f i).2.1≤((jR f i).size:Int)∧ByteArray.extract (jR f i) 0 (Int.toNat (lz d f i).2.1)++(lz d f i).2.2.1=(aT d (a_ aF i)).1:=by
   unfold lz
   cases c:tH (aT d (a_ aF i)).1 (jR f i) with
   | true =>
    refine ⟨rfl,Int.natCast_nonneg _,Int.le_refl _,?_⟩
    show ByteArray.extract (jR f i) 0 (Int.toNat ((jR f i).size:Int))++ByteArray.extract (aT d (a_ aF i)).1 (jR f i).size (aT d (a_ aF i)).1.size=_
    rw [Int.toNat_natCast,tM]
    exact (DZ c).symm
   | false =>
    refine ⟨rfl,Int.le_refl _,Int.natCast_nonneg _,?_⟩
    show ByteArray.extract (jR f i) 0 0++(aT d (a_ aF i)).1=_
    rw [Bd]
    exact rQ _
  obtain ⟨k1,k2,k3,k4⟩:=key
  rw [List.map_cons,xH,k1,aO ⟨k2,k3⟩,ac,k4,vc d f ids,List.map_cons,nn,nn]
  rfl
theorem FH {st:Ty.d aE} {d:Ty.d aA} (h:d9 st d=true) (f:Ty.d ay):HW f (lO st d f.2.1)=((st.1.1,(m8 st d,())),(true,())):=by
 obtain ⟨g1,_,_⟩:=eW h
 unfold HW lO
 rw [h]
 simp only [fh,aK]
 rw [vc]
 unfold EE
 simp only [List.nil_append]
 rw [show cS (st.1.1,(st.1.2.1,()))=true from g1.live]
 rfl
theorem B5 (d:Ty.d aA) {i:Int}:∀ {ids:List Int},i ∈ ids→jR (ids.map (qg d)) i=(aT d (a_ aF i)).1
 | [],h=>(by cases h)
 | x::ids,h=>by
  rw [List.map_cons]
  show (bif x==i then (aT d (a_ aF x)).1 else jR (ids.map (qg d)) i)=_
  cases c:x==i with
  | true=>rw [Hi c];rfl
  | false =>
   rcases List.mem_cons.1 h with w | w
   · rw [w,beq_self_eq_true] at c;cases c
   · exact B5 d w
theorem uE (d:Ty.d aA):∀ (ids:List Int) (acc:aW),(∀ i ∈ ids,(az (dp d i)).2=((dp d i).size:Int))→nL (ids.map (qg d)) acc=some (acc++m4 d ids)
 | [],acc,_=>by rw [List.map_nil];show some acc=some (acc++[]);rw [List.append_nil]
 | i::ids,acc,h=>by
  have hi:=h i jd
  unfold dp at hi
  rw [List.map_cons,nL]
  rw [show (qg d i).2.1=(aT d (a_ aF i)).1 from rfl,aP (by omega),aK,uE d ids _ fun j hj=>h j (lK _ hj),nn]
  rfl
theorem wR {d:Ty.d aA} {f:gq}:∀ (dir:aR) (acc:iE),(∀ e ∈ dir,dk (jR f e.2.1) e.2.2.1 e.2.2.2.1=fO d e∧(fO d e).2=true∧(fO d e).1.2.2.1=e.1) →
 kW f dir acc=(acc++dir.map (fun e=>(e.1,((fO d e).1.2.2.2.1,((fO d e).1.2.1,())))),true)
 | [],acc,_=>by rw [List.map_nil,List.append_nil];rfl
 | e::dir,acc,h=>by
  obtain ⟨h1,h2,h3⟩:=h e jd
  unfold kW
  rw [h1,h2,ac,h3,wR dir _ fun x hx=>h x (lK _ hx),nn]
  rfl
theorem B_ {st:Ty.d aE} {d:Ty.d aA} (h:MI st d):oU (m8 st d)=((gd st.2.1 d).1,true):=by
 obtain ⟨hs,he⟩:=h.store
 obtain ⟨L,t,j⟩:=h
 obtain ⟨la,hg⟩:=j.gr
 have hfull:∀ i ∈ st.1.2.1,(az (dp d i)).2=((dp d i).size:Int):=fun i hi=>by
  obtain ⟨s,h1,h2⟩:=t.bt.full i hi
  unfold dp
  rw [jD t.disk,h1]
  exact yG h2
 have e1:m4 d st.1.2.1=jb L:=by rw [t.ids];exact sL t.disk t.text
 obtain ⟨ep,_,_⟩:=Gv (jb L) (jb L) [] ([],0,0) (fun p hp=>by cases hp) (fun p hp=>hp) (fun e he=>by cases he) List.Pairwise.nil (by decide) (by rw [hg])
 rw [hg] at ep
 have ep:EP (jb L) st.2.1:=ep
 unfold oU m8
 rw [uE d st.1.2.1 [] hfull,List.nil_append,e1]
 simp only []
 rw [Cj hg j.mark]
 simp only [bne_self_eq_false,aK]
 rw [wR (d:=d) st.2.1 [] fun e he=>?_,List.nil_append,vD hs]
 obtain ⟨p,hp,q,_⟩:=ep e he
 have pi:=sd t hp
 obtain ⟨x,hx,s,_,ex⟩:=tY hp
 have hi:p.1 ∈ st.1.2.1:=by
  rw [ex,t.ids]
  exact List.mem_map.2 ⟨x,hx,rfl⟩
 have e2:e.2.1=p.1:=by rw [q];rfl
 rw [q,pi.read]
 refine ⟨?_,rfl,rfl⟩
 rw [show (eP p).2.1=p.1 from rfl,B5 d hi]
 exact pi.read
def JB (l:EC):Int:=l.foldl (fun (a:Int) b=>aJ (a+(b.2.2.1.size:Int))) 0
theorem H_:∀ (l m:EC) (a b:Int),l.length=m.length→(∀ p ∈ l.zip m,p.1.2.2.1.size≤p.2.2.2.1.size)→PB m 100000→0≤a→a≤b→b+100000*(m.length:Int)≤1000000000000 →
 0≤l.foldl (fun (a:Int) b=>aJ (a+(b.2.2.1.size:Int))) a∧l.foldl (fun (a:Int) b=>aJ (a+(b.2.2.1.size:Int))) a≤m.foldl (fun (a:Int) b=>aJ (a+(b.2.2.1.size:Int))) b∧m.foldl (fun (a:Int) b=>aJ (a+(b.2.2.1.size:Int))) b≤b+100000*(m.length:Int)
 | [],[],a,b,_,_,_,h0,h1,_=>⟨h0,h1,by show b≤b+100000*((0:Nat):Int);omega⟩
 | [],y::m,a,b,h,_,_,_,_,_=>by cases h
 | x::l,[],a,b,h,_,_,_,_,_=>by cases h
 | x::l,y::m,a,b,h,hp,hm,h0,h1,h2=>by
  have hxy:x.2.2.1.size≤y.2.2.1.size:=hp (x,y) jd
  have hy:=hm y jd
  have hl:l.length=m.length:=by simpa using h
  have hlm:((y::m).length:Int)=(m.length:Int)+1:=by rw [kJ];omega
  rw [hlm] at h2 ⊢
  rw [List.foldl_cons,List.foldl_cons,aD (n:=a+(x.2.2.1.size:Int)) (by omega) (by omega),aD (n:=b+(y.2.2.1.size:Int)) (by omega) (by omega)]
  obtain ⟨i1,i2,i3⟩:=H_ l m (a+(x.2.2.1.size:Int)) (b+(y.2.2.1.size:Int)) hl (fun p hq=>hp p (lK _ hq)) (fun p hq=>hm p (lK _ hq)) (by omega) (by omega) (by omega)
  exact ⟨i1,i2,by omega⟩
theorem Do {d:Ty.d aA} (hd:DR d) (s:ByteArray):(aT d s).1.size≤100000:=by
 have h:LE.le (α:=Int) (dy d.1:Int) 100000:=Int.le_trans hd.use hd.cap1
 have:=fp d s
 omega
theorem Gf {d:Ty.d aA} (f:gq) (i:Int):(lz d f i).2.2.1.size≤(aT d (a_ aF i)).1.size:=by
 unfold lz
 cases tH (aT d (a_ aF i)).1 (jR f i) with
 | true=>exact zT _ _ _
 | false=>exact Nat.le_refl _
theorem Ib (d:Ty.d aA) (i:Int):(lz d [] i).2.2.1.size=(aT d (a_ aF i)).1.size:=by
 unfold lz
 have h:tH (aT d (a_ aF i)).1 ⟨#[]⟩=true:=by
  unfold tH
  rw [aO (show (⟨#[]⟩:ByteArray).size≤_ from Nat.zero_le _)]
  show seq (ByteArray.extract _ 0 0) ⟨#[]⟩=true
  rw [Bd]
  exact bX _
 rw [show jR [] i=⟨#[]⟩ from rfl,h]
 show (ByteArray.extract (aT d (a_ aF i)).1 0 (aT d (a_ aF i)).1.size).size=_
 rw [tM]
theorem IW {st:Ty.d aE} {d:Ty.d aA} (h:d9 st d=true) (f:gq):0≤JB (lO st d f).2.1∧JB (lO st d f).2.1≤JB (lO st d []).2.1∧JB (lO st d []).2.1≤6000000:=by
 obtain ⟨g1,_,_⟩:=eW h
 have hd:DR d:=g1.disk
 have h60:st.1.2.1.length≤60:=(bQ (nx:=st.1.1) (ids:=st.1.2.1) g1.live).2.2.2.1
 unfold lO JB
 rw [h]
 simp only [fh,aK]
 have hz:∀ ids:List Int,∀ p ∈ (ids.map (lz d f)).zip (ids.map (lz d [])),p.1.2.2.1.size≤p.2.2.2.1.size:=by
  intro ids
  induction ids with
  | nil=>exact fun p hp=>by cases hp
  | cons i ids ih =>
   intro p hp
   rw [List.map_cons,List.map_cons,List.zip_cons_cons] at hp
   rcases List.mem_cons.1 hp with w | w
   · rw [w]
     show (lz d f i).2.2.1.size≤(lz d [] i).2.2.1.size
     rw [Ib]
     exact Gf f i
   · exact ih p w
 have hPB:PB (st.1.2.1.map (lz d [])) 100000:=fun p hp=>by
  obtain ⟨i,_,rfl⟩:=List.mem_map.1 hp
  exact Nat.le_trans (Gf [] i) (Do hd _)
 obtain ⟨i1,i2,i3⟩:=H_ (st.1.2.1.map (lz d f)) (st.1.2.1.map (lz d [])) 0 0 (by rw [List.length_map,List.length_map]) (hz _) hPB (Int.le_refl _) (Int.le_refl _) (by rw [List.length_map];omega)
 rw [List.length_map] at i3
 exact ⟨i1,i2,by omega⟩
theorem EJ {st:Ty.d aE} {d:Ty.d aA} (h:d9 st d=true):(m8 st d).length≤60∧FB (m8 st d) 100000:=by
 obtain ⟨g1,_,_⟩:=eW h
 have hd:DR d:=g1.disk
 have h60:st.1.2.1.length≤60:=(bQ (nx:=st.1.1) (ids:=st.1.2.1) g1.live).2.2.2.1
 unfold m8
 refine ⟨by rw [List.length_map];exact h60,fun p hp=>?_⟩
 obtain ⟨i,_,rfl⟩:=List.mem_map.1 hp
 exact Do hd _
theorem Bc {hb:ByteArray→ByteArray} {st:Ty.d aE} {d:Ty.d aA} {l:iE} (hd:DR d) (hl:cS st.1=true) (hn:LE.le (α:=Int) (st.1.1+2) 100000) (hdir:st.2.1.length≤268435456) (hlen:l.length≤268435456) :
 DR (dP hb st d l).2.1∧(dP hb st d l).1.1.2.1.length≤60∧(dP hb st d l).1.2.1.length≤268435456:=by
 have h60:st.1.2.1.length≤60:=(bQ (nx:=st.1.1) (ids:=st.1.2.1) hl).2.2.2.1
 have hs:DR (dP hb (st.1,([],st.2.2)) d l).2.1∧(dP hb (st.1,([],st.2.2)) d l).1.1.2.1.length≤60:=by
  have hIV:IV ((st.1,([],st.2.2)),(d,0)):=⟨hd,h60,Nat.zero_le _,fun x hx=>(by cases hx),Int.natCast_nonneg _⟩
  obtain ⟨q1,_⟩:=FK (hb:=hb) hIV hl hn (l:=l) hlen
  exact ⟨q1.disk,q1.ids⟩
 have he:=sP st.1.1 l 0
 unfold dP at hs ⊢
 simp only [] at hs
 generalize fP st.1.1 l (st.2.2.1-1) d=a at hs ⊢
 cases ca:a.2 != 0 with
 | true=>rw [ca] at hs;exact ⟨hs.1,hs.2,hdir⟩
 | false =>
  rw [ca] at hs
  simp only [aK] at hs ⊢
  generalize bM (a_ aF (st.1.1+1)) a.1=b at hs ⊢
  cases cb:b.2 != 0 with
  | true=>rw [cb] at hs;exact ⟨hs.1,hs.2,hdir⟩
  | false =>
   rw [cb] at hs
   simp only [aK] at hs ⊢
   generalize kn hb st.1.1 b.1=e at hs ⊢
   cases ce:e.2 != 0 with
   | true=>rw [ce] at hs;exact ⟨hs.1,hs.2,hdir⟩
   | false =>
    rw [ce] at hs
    simp only [aK] at hs ⊢
    generalize bf (iL st.1.1) e.1=f at hs ⊢
    cases cf:f.2 != 0 with
    | true=>rw [cf] at hs;exact ⟨hs.1,hs.2,hdir⟩
    | false =>
     rw [cf] at hs
     exact ⟨hs.1,hs.2,by show (kw st.1.1 l 0).length≤_;rw [he];exact hlen⟩
theorem CM {st:Ty.d aE} {d:Ty.d aA} (hd:DR d) (h1:st.1.2.1.length≤60) (h2:st.2.1.length≤268435456) :
 DR (mI st d).2.1∧(mI st d).1.1.2.1.length≤60∧(mI st d).1.2.1.length≤268435456:=by
 unfold mI
 cases c1:d9 st d with
 | false=>exact ⟨hd,h1,h2⟩
 | true =>
  obtain ⟨g1,g2,g3⟩:=eW c1
  simp only [fh,aK]
  by_cases c2:st.1.1+2 > (100000:Int)
  · rw [aO c2]
    exact ⟨hd,h1,h2⟩
  · rw [aP c2]
    simp only [aK]
    have hz:=nz st.2.1 d
    cases (gd st.2.1 d).2 != 0 with
    | true=>exact ⟨hd,h1,h2⟩
    | false=>exact Bc hd g1.live (Int.not_lt.1 c2) h2 (by omega)
theorem D5 (s:ByteArray):(fM s).1.2.1.length≤60:=by
 rcases jE (fun v=>cS v=true) cE ((0,([],())):Ty.d cY) s with ⟨r,h1,h2,h3⟩ | h
 · unfold fM
   rw [h3]
   exact (bQ (nx:=r.1) (ids:=r.2.1) h1).2.2.2.1
 · unfold fM
   rw [h]
   exact Nat.zero_le _
theorem GN {d:Ty.d aA}:(ja d).1.1.2.1.length≤60:=by
 have hv:=D5 (aT d dm).1
 unfold ja
 cases gf d with
 | false=>exact Nat.zero_le _
 | true =>
  cases d.2.2.2.1 with
  | true=>exact Nat.zero_le _
  | false =>
   cases (aT d dm).2 with
   | false =>
    show (p0 d).1.1.2.1.length≤60
    unfold p0
    cases (jW d).2==0
    · exact Nat.zero_le _
    · show 1≤60
      decide
   | true =>
    simp only [fh,aK]
    cases (fM (aT d dm).1).2 with
    | false=>exact Nat.zero_le _
    | true =>
     simp only [fh,aK]
     generalize (fM (aT d dm).1).1=v at hv ⊢
     unfold qE
     cases iV d v.2.1 with
     | false=>exact Nat.zero_le _
     | true =>
      simp only [fh,aK]
      cases (fQ (aZ v.2.1) d).2 != 0 with
      | true=>exact Nat.zero_le _
      | false =>
       simp only [aK]
       generalize jq (fQ (aZ v.2.1) d).1 v.2.1=g
       unfold ta
       cases g.2.2.1 != 0 with
       | true=>exact Nat.zero_le _
       | false =>
        simp only [aK]
        cases (gm v.2.1 (fQ (aZ v.2.1) d).1).2 != 0 with
        | true=>exact Nat.zero_le _
        | false=>exact hv
def TV (t:Ty.d e6):Prop:=t.2.1.length≤20∧t.2.2.1.length≤50
structure EV (F:Prop) (e:Ty.d df):Prop where
 ids:e.2.1.1.2.1.length≤60
 dir:e.2.1.2.1.length≤268435456
 disk:DR e.2.2.1
 len:e.2.2.2.1.length≤3
 txn:∀ t ∈ e.2.2.2.1,TV t
 mi:e.1=true→dn e.2.2.1=false→MI e.2.1 e.2.2.1
 fu:F→FU e.2.2.1
theorem Du:TV (Ty.z e6):=⟨Nat.zero_le _,Nat.zero_le _⟩
theorem Gn:∀ t ∈ List.replicate 3 (Ty.z e6),TV t:=fun t ht=>by
 rw [List.eq_of_mem_replicate ht]
 exact Du
theorem EN {F:Prop} {d:Ty.d aA} (h:DR d) (hf:F→FU d):EV F (EH (ja d)):=by
 obtain ⟨h1,h2⟩:=CN h
 exact ⟨GN,h2,h1,Nat.le_refl _,Gn,fun z _=>Ij (Hi z),fun q=>IR yz (hf q)⟩
theorem D4 {l:List (Ty.d e6)} (h:∀ t ∈ l,TV t) (i:Nat):TV (l.getD i (Ty.z e6)):=by
 by_cases c:i<l.length
 · exact h _ (iI c)
 · have:l.getD i (Ty.z e6)=Ty.z e6:=by simp [List.getD,c]
   rw [this]
   exact Du
theorem KI {l:List (Ty.d e6)} (h:∀ t ∈ l,TV t) (i:Nat) {t:Ty.d e6} (ht:TV t):∀ x ∈ l.set i t,TV x:=fun x hx=>by
 rcases List.mem_or_eq_of_mem_set hx with q | q
 · exact h x q
 · rw [q];exact ht
theorem wG {F:Prop} {e:Ty.d df} (h:EV F e) (i:Nat) {t:Ty.d e6} (ht:TV t):EV F (e.1,(e.2.1,(e.2.2.1,(e.2.2.2.1.set i t,())))) :=
 ⟨h.ids,h.dir,h.disk,by show (List.set _ _ _).length≤3;rw [List.length_set];exact h.len,KI h.txn i ht,h.mi,h.fu⟩
theorem pO (k:Nat) {t:Ty.d e6} (h:TV t):eF.f k t=some (t,()):=by
 obtain ⟨h1,h2⟩:=h
 unfold eF.f eF.t
 rw [cD (by omega) (by decide),cD (by omega) (by decide),List.nil_append,List.nil_append]
theorem HC {F:Prop} {k:Nat} (hk:2 ^ 50≤k) {e:Ty.d df} (h:EV F e):eE.f k e=some (e,()):=by
 have h1:=h.ids
 have h2:=h.dir
 have h3:=h.len
 have ec:cm.f k e.2.1=some (e.2.1,()):=by
  unfold cm.f cm.t
  rw [cD (by omega) (by decide),cD (by omega) (by decide),List.nil_append,List.nil_append]
 unfold eE.f eE.t
 rw [ec,ab,jK k h.disk.sz,ab]
 simp only []
 refine (e_ (L:=fun n i (s:List (Ty.d e6))=>eE.l0 k n i e.2.1.1.2.1 e.2.1.2.1 e.2.2.1.1 e.1 e.2.1.1.1 e.2.1.2.2.1 e.2.1.2.2.2.1 e.2.1.2.2.2.2.1 e.2.2.1.2.1 e.2.2.1.2.2.1 e.2.2.1.2.2.2.1 e.2.2.2.1 [] [] [] [] false 0 0 0 0 0 0 false s) (R:=fun r s=>(some ((e.1,(e.2.1,(e.2.2.1,(s++r,())))),()):eE.Rs)) (Ty.z e6) e.2.2.2.1 (fun i s=>(s.length:Int)≤i) (fun n s hs=>?_) (fun n i s x rest g0 g1 hx hr hp ih=>?_) (n:=k) (s:=[]) (by omega) (by decide)).trans (by rw [List.nil_append])
 · simp only [eE.l0,eE.b0]
   rw [aP (by omega),aK,List.append_nil]
 · have hm:x ∈ e.2.2.2.1:=by rw [← hx];exact iI (by omega)
   simp only [eE.l0,eE.b0]
   rw [aO g1,ac,aH g0 g1,hx,pO k (h.txn x hm),ab,aD (n:=i+1) (by omega) (by omega),cD (by omega) (by decide)]
   refine (ih (s++[x]) (by rw [br];omega)).trans ?_
   rw [nn]
   rfl
theorem vW {k:Nat} (hk:2 ^ 50≤k) {t:Ty.d e6} (h:t.2.2.1.length≤1000) (key:ByteArray):je (dK.f k t key) (fun _=>True):=by
 have loop:∀ (m n:Nat) (i:Int),i+1=(m:Int)→m<n→m≤t.2.2.1.length→je (dK.l0 k n key i t.1 t.2.1 t.2.2.1 ByteArray.empty false ByteArray.empty) (fun _=>True):=by
  intro m
  induction m with
  | zero =>
   intro n i hi hn hm
   obtain ⟨n,rfl⟩:∃ q,n=q+1:=⟨n-1,by omega⟩
   simp only [dK.l0,dK.b0]
   exact ky (aP (by omega)) (ae trivial)
  | succ m ih =>
   intro n i hi hn hm
   obtain ⟨n,rfl⟩:∃ q,n=q+1:=⟨n-1,by omega⟩
   have hw:aJ (i-1)=i-1:=aD (by omega) (by omega)
   simp only [dK.l0,dK.b0,hw]
   exact kE (aO (by omega)) (g9 (by omega) (by omega) (b8 (fun _=>g9 (by omega) (by omega) (ae trivial)) (fun _=>ih n (i-1) (by omega) (by omega) (by omega))))
 unfold dK.f dK.t
 rw [aD (n:=(t.2.2.1.length:Int)-1) (by omega) (by omega)]
 exact loop t.2.2.1.length k _ (by omega) (by omega) (Nat.le_refl _)
theorem uG {k:Nat} (hk:2 ^ 50≤k) {t:Ty.d e6} (h:t.2.2.1.length≤1000):je (bH.f k t) (fun r=>r.1.length≤1000):=by
 have loop:∀ (m n:Nat) (i:Int) (out:lA),0≤i→i+(m:Int)=(t.2.2.1.length:Int)→m<n→(out.length:Int)≤i→je (bH.l0 k n i t.1 t.2.1 t.2.2.1 out) (fun r=>r.1.length≤1000):=by
  intro m
  induction m with
  | zero =>
   intro n i out h0 h1 hn ho
   obtain ⟨n,rfl⟩:∃ q,n=q+1:=⟨n-1,by omega⟩
   simp only [bH.l0,bH.b0]
   exact ky (aP (by omega)) (ae (by show out.length≤1000;omega))
  | succ m ih =>
   intro n i out h0 h1 hn ho
   obtain ⟨n,rfl⟩:∃ q,n=q+1:=⟨n-1,by omega⟩
   have hw:aJ (i+1)=i+1:=aD (by omega) (by omega)
   have inner:∀ (d n':Nat) (b:Bool) (j:Int),0≤j→j+(d:Int)=i→d<n'→je (bH.l1 k (bH.l0 k n) n' i b j t.1 t.2.1 t.2.2.1 out) (fun r=>r.1.length≤1000):=by
    intro d
    induction d with
    | zero =>
     intro n' b j j0 j1 hn'
     obtain ⟨n',rfl⟩:∃ q,n'=q+1:=⟨n'-1,by omega⟩
     simp only [bH.l1,bH.b1,hw]
     refine ky (aP (by omega)) (b8 (fun _=>g9 h0 (by omega) (bA (vW hk (t:=(t.1,(t.2.1,(t.2.2.1,())))) h _) fun r _=>oR (by omega) (by decide) ?_)) (fun _=>?_))
     · exact ih n (i+1) (out++[r.1]) (by omega) (by omega) (by omega) (by rw [br];omega)
     · exact ih n (i+1) out (by omega) (by omega) (by omega) (by omega)
    | succ d ih2 =>
     intro n' b j j0 j1 hn'
     obtain ⟨n',rfl⟩:∃ q,n'=q+1:=⟨n'-1,by omega⟩
     have hj:aJ (j+1)=j+1:=aD (by omega) (by omega)
     simp only [bH.l1,bH.b1,hj]
     exact kE (aO (by omega)) (b8 (fun _=>g9 j0 (by omega) (g9 h0 (by omega) (ih2 n' _ (j+1) (by omega) (by omega) (by omega)))) (fun _=>ih2 n' _ (j+1) (by omega) (by omega) (by omega)))
   simp only [bH.l0,bH.b0]
   exact kE (aO (by omega)) (inner i.toNat k true 0 (by omega) (by omega) (by omega))
 unfold bH.f bH.t
 exact loop t.2.2.1.length k 0 [] (by omega) (by omega) (by omega) (by decide)
theorem Hv {k:Nat} (hk:2 ^ 50≤k) {t:Ty.d e6} (h:TV t) {dir:aR} (hd:dir.length≤268435456):je (gE.f k t dir) (fun _=>True):=by
 obtain ⟨h1,h2⟩:=h
 have loop:∀ (m n:Nat) (i:Int),0≤i→i+(m:Int)=(t.2.1.length:Int)→m<n→je (gE.l0 k n dir i t.1 t.2.1 t.2.2.1) (fun _=>True):=by
  intro m
  induction m with
  | zero =>
   intro n i h0 h1 hn
   obtain ⟨n,rfl⟩:∃ q,n=q+1:=⟨n-1,by omega⟩
   simp only [gE.l0,gE.b0]
   exact ky (aP (by omega)) (ae trivial)
  | succ m ih =>
   intro n i h0 h1 hn
   obtain ⟨n,rfl⟩:∃ q,n=q+1:=⟨n-1,by omega⟩
   have hw:aJ (i+1)=i+1:=aD (by omega) (by omega)
   simp only [gE.l0,gE.b0,hw]
   refine kE (aO (by omega)) (g9 h0 (by omega) ?_)
   rw [qs hk (by omega)]
   have hq:∃ q,Hy (wq dir (t.2.1.getD i.toNat (Ty.z eS)).1)=some q:=by cases wq dir (t.2.1.getD i.toNat (Ty.z eS)).1 <;> exact ⟨_,rfl⟩
   obtain ⟨q,hq⟩:=hq
   exact bP hq (g9 h0 (by omega) (b8 (fun _=>ae trivial) (fun _=>ih n (i+1) (by omega) (by omega) (by omega))))
 unfold gE.f gE.t
 exact loop t.2.1.length k 0 (by omega) (by omega) (by omega)
theorem G4 {k:Nat} (hk:2 ^ 50≤k) {t:Ty.d e6} (h:TV t) (key:ByteArray) (b:Int):je (fA.f k t key b) (fun r=>TV r.1):=by
 have h1:=h.1
 have loop:∀ (m n:Nat) (i:Int),0≤i→i+(m:Int)=(t.2.1.length:Int)→m<n→je (fA.l0 k n key b i t.1 t.2.1 t.2.2.1 [] [] false t.2.1 t.2.2.1 t.1) (fun r=>TV r.1):=by
  intro m
  induction m with
  | zero =>
   intro n i h0 g1 hn
   obtain ⟨n,rfl⟩:∃ q,n=q+1:=⟨n-1,by omega⟩
   simp only [fA.l0,fA.b0]
   refine ky (aP (by omega)) (b8 (fun _=>ae h) (fun hb=>oR (by omega) (by decide) (ae ⟨?_,h.2⟩)))
   have hb:=of_decide_eq_false hb
   show (t.2.1++[_]).length≤20
   rw [br]
   omega
  | succ m ih =>
   intro n i h0 g1 hn
   obtain ⟨n,rfl⟩:∃ q,n=q+1:=⟨n-1,by omega⟩
   have hw:aJ (i+1)=i+1:=aD (by omega) (by omega)
   simp only [fA.l0,fA.b0,hw]
   exact kE (aO (by omega)) (g9 h0 (by omega) (b8 (fun _=>g9 h0 (by omega) (b8 (fun _=>ae h) (fun _=>ae h))) (fun _=>ih n (i+1) (by omega) (by omega) (by omega))))
 unfold fA.f fA.t
 refine bP (pO k h) (b8 (fun _=>ae h) (fun _=>bP (kB k key) (b8 (fun _=>ae h) (fun _=>?_))))
 exact loop t.2.1.length k 0 (by omega) (by omega) (by omega)
theorem DX {k:Nat} (hk:2 ^ 50≤k) {t:Ty.d e6} (h:TV t) (p:Ty.d dI):je (eo.f k t p) (fun r=>TV r.1):=by
 have h2:=h.2
 have hz:(t.2.2.1++[p]).length=t.2.2.1.length+1:=br ..
 unfold eo.f eo.t
 refine bP (pO k h) (b8 (fun _=>ae h) (fun _=>bP (nj hk _) (b8 (fun _=>ae h) (fun _=>oR (by show t.2.2.1.length+1≤_;omega) (by decide) ?_))))
 refine bA (uG hk (t:=(t.1,(t.2.1,((t.2.2.1++[p]),())))) (by show (t.2.2.1++[p]).length≤1000;omega)) fun r3 q3=>b8 (fun _=>bP (pO k h) (ae h)) (fun _=>b8 (fun _=>bP (pO k h) (ae h)) (fun hb=>?_))
 have hb:=of_decide_eq_false hb
 refine ae ⟨h.1,?_⟩
 have hb:¬ ((t.2.2.1++[p]).length:Int) > 50:=hb
 show (t.2.2.1++[p]).length≤50
 omega
theorem HG {F:Prop} {k:Nat} (hk:2 ^ 50≤k) {e:Ty.d df} (h:EV F e) {s:Ty.d bg} (h0:LE.le (α:=Int) 0 s.2.1) (h1:LT.lt (α:=Int) s.2.1 (e.2.2.2.1.length:Int)):je (er.f k e s) (fun r=>EV F r.1):=by
 have ht:=D4 h.txn (Int.toNat s.2.1)
 have hdir:=h.dir
 unfold er.f er.t
 refine g9 h0 h1 (bP (kB k _) (b8 (fun _=>ae h) (fun _=>bA (vW hk (by have:=ht.2;omega) _) fun r2 _=>b8 (fun _=>b8 (fun _=>ae h) (fun _=>ae h)) (fun _=>?_))))
 refine bP (vb hk h.disk.sz (by omega) _) (b8 (fun _=>ae h) (fun _=>bA (G4 hk ht _ _) fun r4 q4=>b8 (fun _=>ae h) (fun _=>g9 h0 h1 (ae (wG h _ q4)))))
theorem Br {F:Prop} {k:Nat} (hk:2 ^ 50≤k) {e:Ty.d df} (h:EV F e) {s:Ty.d bg} (h0:LE.le (α:=Int) 0 s.2.1) (h1:LT.lt (α:=Int) s.2.1 (e.2.2.2.1.length:Int)):je (d_.f k e s) (fun r=>EV F r.1):=by
 have ht:=D4 h.txn (Int.toNat s.2.1)
 have hdir:=h.dir
 have hids:=h.ids
 unfold d_.f d_.t
 refine g9 h0 h1 (g9 h0 h1 ?_)
 refine bA (Hv hk ht hdir) fun r2 _=>b8 (fun _=>ae (wG h _ ⟨Nat.zero_le _,Nat.zero_le _⟩)) (fun _=>?_)
 refine bA (uG hk (by have:=ht.2;omega)) fun r3 q3=>?_
 refine bP (xj hk h.disk.sz (by omega) (by omega) (by omega)) (ae ?_)
 obtain ⟨c1,c2,c3⟩:=As r3.1 h.disk hids hdir
 have hs:=wG h (Int.toNat s.2.1) (t:=(false,([],([],())))) ⟨Nat.zero_le _,Nat.zero_le _⟩
 exact ⟨c2,c3,c1,hs.len,hs.txn,fun up nd=>Fb r3.1 (h.mi up (Fa nd)) nd,fun q=>yS yz _ _ (h.fu q)⟩
theorem F0 {k:Nat} (hk:2 ^ 50≤k) {l:aR} (hl:l.length≤268435456):je (fB.f k l) (fun _=>True):=by
 unfold fB.f fB.t
 refine Cy (P:=fun _=>True) (r:=(l.map (·.1),())) ?_ trivial
 refine (e_ (L:=fun n i s=>fB.l0 k n l i s) (R:=fun r s=>some (s++r.map (·.1),())) (Ty.z aB) l (fun i s=>(s.length:Int)=i) (fun n s hs=>?_) (fun n i s x rest h0 h1 hx hr hp ih=>?_) (n:=k) (s:=[]) (by omega) rfl).trans (by rw [List.nil_append])
 · simp (disch:=omega) only [fB.l0,fB.b0,aP,aK,List.map_nil,List.append_nil]
 · have ih:=ih (s++[x.1]) (by rw [br];omega)
   simp (disch:=first | omega | decide) only [fB.l0,fB.b0,aO h1,ac,aH,hx,cD,aD,ih,List.map_cons]
   rw [nn]
   rfl
theorem zm {F:Prop} {k:Nat} (hk:2 ^ 50≤k) {e:Ty.d df} (h:EV F e) (s:Ty.d bg):je (dF.f k e s) (fun r=>EV F r.1):=by
 have hd:=h.disk
 have hdir:=h.dir
 have hids:=h.ids
 have hlen:=h.len
 have hsz:=hd.sz
 have z1:=hsz.l
 have z2:=hsz.u
 have z3:=hsz.n
 unfold dF.f dF.t
 refine bP (HC hk h) (b8 (fun _=>b8 (fun _=>ae h) (fun _=>bP (qx hk hsz) (ae (EN hd h.fu)))) (fun _=>b8 (fun _=>?_) (fun _=>b8 (fun _=>ae h) (fun _=>b8 (fun _=>?_) (fun _=>b8 (fun _=>?_) (fun _=>b8 (fun _=>?_) (fun _=>?_)))))))
 · -- vh
   have hu:=hd.use
   have hc:=hd.cap1
   have used_:k8.f k e.2.2.1=some ((dy e.2.2.1.1:Int),()):=by
    unfold k8.f k8.t
    rw [j_ hk (by omega) (by omega),ab,jP.2 hd]
    simp only [fh,aK]
    rw [pz hk (by omega) (by omega),ab]
   refine bP (j_ hk (by omega) (by omega)) (b8 (fun _=>ae h) (fun _=>bP used_ (bP (fE k _ _ _) (b8 (fun _=>ae h) (fun hb=>bP used_ (ae ?_))))))
   simp only [Bool.not_eq_false',decide_eq_true_eq] at hb
   have hu':LE.le (α:=Int) (dy e.2.2.1.1:Int) 100000:=Int.le_trans hu hc
   rw [aD (n:=100000-(dy e.2.2.1.1:Int)) (by omega) (by omega)] at hb
   obtain ⟨N,hN⟩:∃ N:Int,N=s.2.2.2.2.1:=⟨_,rfl⟩
   rw [← hN] at hb ⊢
   rw [aD (n:=(dy e.2.2.1.1:Int)+N) (by omega) (by omega)]
   exact ⟨hids,hdir,⟨hd.len,by show LE.le (α:=Int) 0 ((dy e.2.2.1.1:Int)+N);omega,by show LE.le (α:=Int) ((dy e.2.2.1.1:Int)+N) 100000;omega,hd.fu0,hd.fu1,by show LE.le (α:=Int) (dy e.2.2.1.1:Int) ((dy e.2.2.1.1:Int)+N);omega,hd.all,hd.keys⟩,hlen,h.txn,fun up nd=>Jz (h.mi up nd) ⟨hd.len,by show LE.le (α:=Int) 0 ((dy e.2.2.1.1:Int)+N);omega,by show LE.le (α:=Int) ((dy e.2.2.1.1:Int)+N) 100000;omega,hd.fu0,hd.fu1,by show LE.le (α:=Int) (dy e.2.2.1.1:Int) ((dy e.2.2.1.1:Int)+N);omega,hd.all,hd.keys⟩ rfl,h.fu⟩
 · -- merge
   refine bP (zu hk (st:=e.2.1) (d:=e.2.2.1) hsz (by omega) (by omega)) (ae ?_)
   obtain ⟨c1,c2,c3⟩:=CM hd hids hdir
   exact ⟨c2,c3,c1,hlen,h.txn,fun up nd=>GG (h.mi up (GO nd)),fun q=>AY yz _ (h.fu q)⟩
 · exact bA (F0 hk hdir) fun _ _=>ae h
 · rw [zx (by omega) (by omega) (by decide)]
   exact ae ⟨Nat.zero_le _,Nat.zero_le _,hd,Nat.le_refl _,Gn,fun up _=>(by cases up),h.fu⟩
 · refine bP (fE k _ _ _) (b8 (fun _=>ae h) (fun hb=>bP (fE k _ _ _) (b8 (fun _=>ae h) (fun _=>?_))))
   simp only [Bool.not_eq_false',decide_eq_true_eq] at hb
   rw [aD (n:=(e.2.2.2.1.length:Int)-1) (by omega) (by omega)] at hb
   have i0:LE.le (α:=Int) 0 s.2.1:=hb.1
   have i1:LT.lt (α:=Int) s.2.1 (e.2.2.2.1.length:Int):=by
    have:=hb.2
    exact Int.lt_of_le_of_lt this (by omega)
   have PUT:je ((cG.f k [(s.2.2.1,((s.1==4),(s.2.2.2.1,())))]).bind fun r15=>(bif (!r15.1) then (some (e,((4,(ByteArray.empty,([],()))),()))) else (bF s.2.1 (List.length e.2.2.2.1:Int)
    ((eo.f k (List.getD e.2.2.2.1 (Int.toNat s.2.1) (Ty.z e6)) (s.2.2.1,((s.1==4),(s.2.2.2.1,())))).bind fun r16=>(bif (!r16.2.1) then (some (e,((5,(ByteArray.empty,([],()))),()))) else (bF s.2.1 (List.length e.2.2.2.1:Int)
     (let l17:=(List.set e.2.2.2.1 (Int.toNat s.2.1) r16.1);(some ((e.1,(e.2.1,(e.2.2.1,(l17,())))),((0,(ByteArray.empty,([],()))),()))))))))):dF.Rs) (fun r=>EV F r.1) :=
    bP (nj hk _) (b8 (fun _=>ae h) (fun _=>g9 i0 i1 (bA (DX hk (D4 h.txn _) _) fun r16 q16=>b8 (fun _=>ae h) (fun _=>g9 i0 i1 (ae (wG h _ q16))))))
   have GET:je ((er.f k e s).bind fun r13=>(some r13)) (fun r=>EV F r.1):=bA (HG hk h i0 i1) fun r q=>ae q
   have COM:je ((d_.f k e s).bind fun r13=>(some r13)) (fun r=>EV F r.1):=bA (Br hk h i0 i1) fun r q=>ae q
   have SET:∀ b:Bool,je (bF s.2.1 (List.length e.2.2.2.1:Int) (let l11:=(List.set e.2.2.2.1 (Int.toNat s.2.1) (b,([],([],()))));(some ((e.1,(e.2.1,(e.2.2.1,(l11,())))),((0,(ByteArray.empty,([],()))),())))):dF.Rs) (fun r=>EV F r.1):=fun b=>g9 i0 i1 (ae (wG h _ ⟨Nat.zero_le _,Nat.zero_le _⟩))
   repeat' first
    | exact PUT
    | exact GET
    | exact COM
    | exact SET _
    | exact ae h
    | refine g9 i0 i1 ?_
    | refine b8 (fun _=>?_) (fun _=>?_)
theorem uz (k:Nat) {c:lR} (h:CI c) {n:Int} (h0:0<n) (h1:n≤256):je (aa.f k c n) (fun r=>CI r.1):=oN (kh k h h0 h1) fun _ q=>q.1
theorem JU {k:Nat} (hk:2 ^ 50≤k) {c:lR} (h:CI c) {m:Int} (h0:0≤m) (h1:m≤200):je (eR.f k c m) (fun r=>CI r.1):=oN (HR hk h h0 h1) fun _ q=>q.1
theorem Jp (k:Nat) {c:lR} (h:CI c) {l:List ByteArray} (h0:0<l.length) (h1:l.length≤256):je (cI.f k c l) (fun r=>CI r.1):=oN (CC k h h0 h1) fun _ q=>q.1
theorem qY (k:Nat) {c:lR} (h:CI c) {l:List Int} (h0:0<l.length) (h1:l.length≤256):je (aM.f k c l) (fun r=>CI r.1):=oN (Ad k h h0 h1) fun _ q=>q.1
theorem E3 {α:Type} {P:α→Prop} {b:Nat} {n:Int} {x:Option α} (h0:0≤n) (h1:n≤1099511627776) (hb:b≤128) (h:je x P):je (uv b n x) P:=by rw [zx h0 h1 hb];exact h
theorem F9 {k:Nat} (hk:2 ^ 50≤k) {c:lR} (h:CI c):je (iZ.f k c) (fun r=>CI r.1):=by
 unfold iZ.f iZ.t
 repeat' first
  | exact ae (by assumption)
  | refine bA (uz k (by assumption) (by omega) (by omega)) fun _ _=>?_
  | refine bA (IM k (by assumption)) fun _ _=>?_
  | refine bA (JU hk (by assumption) (by omega) (by omega)) fun _ _=>?_
  | refine bA (qY k (by assumption) (by decide) (by decide)) fun _ _=>?_
  | refine bA (Jp k (by assumption) (by decide) (by decide)) fun _ _=>?_
  | refine b8 (fun _=>?_) (fun _=>?_)
theorem FG {k:Nat} (hk:2 ^ 50≤k):∀ (m n:Nat) (c:lR) (out:List (Ty.d bg)) (rows:List Bool),m<n→CI c→out.length+2*m≤1000→rows.length=3 →
 je (dz.l0 k n (m:Int) c.1 c.2.1 c.2.2.1 out rows) (fun r=>CI r.1∧r.2.1.length≤1000):=by
 intro m
 induction m with
 | zero =>
  intro n c out rows hn hc ho hr
  obtain ⟨n,rfl⟩:∃ q,n=q+1:=⟨n-1,by omega⟩
  simp only [dz.l0,dz.b0]
  exact ky (aP (by omega)) (ae ⟨hc,by show out.length≤1000;omega⟩)
 | succ m ih =>
  intro n c out rows hn hc ho hr
  obtain ⟨n,rfl⟩:∃ q,n=q+1:=⟨n-1,by omega⟩
  have hw:aJ (((m+1:Nat):Int)-1)=(m:Int):=by rw [aD (by omega) (by omega)];omega
  simp only [dz.l0,dz.b0,hw]
  refine kE (aO (by omega)) (bA (F9 hk hc) fun r2 q2=>?_)
  repeat' first
   | exact ih n _ _ _ (by omega) (by assumption) (by simp only [u7,List.length_singleton];omega) (by first | exact hr | rfl | (simp only [List.length_set];exact hr))
   | refine bA (vy k (by assumption) (by omega) (by omega)) fun _ _=>?_
   | refine oR (by first | omega | (simp only [u7,List.length_singleton];omega)) (by decide) ?_
   | refine E3 (by omega) (by omega) (by decide) ?_
   | refine bP (fE k _ _ _) (b8 (fun hq=>?_) (fun _=>?_))
   | refine g9 (by have hq':=of_decide_eq_true hq;exact hq'.1) (by have hq':=of_decide_eq_true hq;exact Int.lt_of_le_of_lt hq'.2 (by rw [hr];decide)) ?_
   | refine b8 (fun _=>?_) (fun _=>?_)
theorem CP {k:Nat} (hk:2 ^ 50≤k) {c:lR} (h:CI c):je (dz.f k c 40) (fun r=>CI r.1∧r.2.1.length≤1000):=by
 unfold dz.f dz.t
 rw [show aJ (40+1)=41 from by decide]
 refine E3 (by omega) (by omega) (by decide) (bA (kh k h (by omega) (by omega)) fun r q=>?_)
 obtain ⟨hc,a,b⟩:=q
 have:=FG hk r.2.1.toNat k r.1 [] (List.replicate (Int.toNat 3) (Ty.z .bool)) (by omega) hc (by simp only [List.length_nil];omega) rfl
 rw [show ((r.2.1.toNat:Nat):Int)=r.2.1 by omega] at this
 exact this
theorem Ax {k:Nat} (hk:2 ^ 50≤k) {c:lR} (h:CI c):je (gR.f k c 40) (fun r=>CI r.1∧r.2.1.2.2.1.length≤1001):=by
 unfold gR.f gR.t
 refine bA (CP hk h) fun r1 q1=>?_
 obtain ⟨c1,z1⟩:=q1
 refine bA (kh k c1 (by omega) (by omega)) fun r2 q2=>b8 (fun _=>?_) (fun _=>b8 (fun _=>?_) (fun _=>ae ⟨q2.1,by show r1.2.1.length≤1001;omega⟩))
 · exact bA (vo k q2.1 (by omega)) fun r3 q3=>ae ⟨q3.1,by show r1.2.1.length≤1001;omega⟩
 · rw [aD (n:=(r1.2.1.length:Int)+1) (by omega) (by omega)]
   refine bA (vo k q2.1 (by omega)) fun r4 q4=>?_
   obtain ⟨c4,a4,b4⟩:=q4
   have e1:(List.take (Int.toNat r4.2.1) r1.2.1).length≤1000:=by rw [List.length_take];omega
   have e2:(List.take (Int.toNat r4.2.1) r1.2.1).length+(List.drop (Int.toNat r4.2.1) r1.2.1).length=r1.2.1.length:=by rw [← u7,List.take_append_drop]
   refine zy a4 (by omega) (oR (by omega) (by decide) (bA (uz k c4 (by omega) (by omega)) fun r5 q5=>?_))
   simp only [List.nil_append]
   refine oR (by omega) (by decide) (zy a4 (by omega) (oR (by rw [br];omega) (by decide) (ae ⟨q5,?_⟩)))
   show ((_++[_])++_).length≤1001
   rw [u7,br]
   omega
theorem Dq {st:Ty.d aE} {d:Ty.d aA} (hd:DR d) (f:gq) (hi:st.1.2.1.length≤60):PB (lO st d f).2.1 100000∧(lO st d f).2.1.length≤60:=by
 have hu:=hd.use
 have hc:=hd.cap1
 have h:LE.le (α:=Int) (dy d.1:Int) 100000:=Int.le_trans hu hc
 unfold lO
 cases d9 st d with
 | false=>exact ⟨fun x hx=>(by cases hx),Nat.zero_le _⟩
 | true =>
  simp only [fh,aK]
  refine ⟨fun x hx=>?_,by rw [List.length_map];exact hi⟩
  obtain ⟨i,_,e⟩:=List.mem_map.1 hx
  have hs:=fp d (a_ aF i)
  rw [← e]
  have:=zT (aT d (a_ aF i)).1
  have hs2:(aT d (a_ aF i)).1.size≤100000:=by omega
  unfold lz
  cases tH (aT d (a_ aF i)).1 (jR f i) with
  | true=>exact Nat.le_trans (this _ _) hs2
  | false=>exact hs2
theorem un {k:Nat} (hk:2 ^ 50≤k) {l:iE} (hl:l.length≤268435456):bq.f k l l=some (true,()):=by
 unfold bq.f bq.t
 rw [bne_self_eq_false,aK]
 refine e_ (L:=fun n i (_:Unit)=>bq.l0 k n l l i) (R:=fun r _=>some (true,())) (Ty.z aL) l (fun _ _=>True) (fun n _ _=>?_) (fun n i _ x rest h0 h1 hx hr hp ih=>?_) (n:=k) (s:=()) (by omega) trivial
 · simp only [bq.l0,bq.b0]
   rw [aP (by omega),aK]
 · simp only [bq.l0,bq.b0]
   rw [aO h1,ac]
   repeat rw [aH h0 h1]
   rw [hx,aD (n:=i+1) (by omega) (by omega),bX,bX,beq_self_eq_true]
   exact ih () trivial
theorem Ga {B:Nat}:∀ {l:gq},FB l B→G9 l≤l.length*B
 | [],_=>Nat.zero_le _
 | p::l,h=>by
  have h1:=h p jd
  have h2:=Ga (l:=l) fun q hq=>h q (lK _ hq)
  have e:G9 (p::l)=p.2.1.size+G9 l:=by unfold G9;rw [List.map_cons,List.sum_cons]
  rw [kJ,Nat.succ_mul,e]
  omega
def FS (f:Ty.d ay):Prop:=f.2.1.length≤60∧FB f.2.1 100001
theorem D_ (n:Int):FS (n,([],())):=⟨Nat.zero_le _,fun p hp=>by cases hp⟩
theorem va {k:Nat} (hk:2 ^ 50≤k) {st:Ty.d aE} {d:Ty.d aA} (h:MI st d) {f:Ty.d ay} (hf:FS f):dA.f k st d f=some (lO st d f.2.1,()):=by
 obtain ⟨hs,_⟩:=h.store
 obtain ⟨g1,g2,_⟩:=eW hs
 have hd:DR d:=g1.disk
 have h60:st.1.2.1.length≤60:=(bQ (nx:=st.1.1) (ids:=st.1.2.1) g1.live).2.2.2.1
 obtain ⟨f1,f2⟩:=hf
 exact B9 hk hd.sz (by omega) (by omega) (by omega) fun p hp=>Nat.le_trans (f2 p hp) (by omega)
theorem zc {k:Nat} (hk:2 ^ 50≤k) {st:Ty.d aE} {d:Ty.d aA} (h:MI st d) {f:Ty.d ay} (hf:FS f):bN.f k f (lO st d f.2.1)=some ((st.1.1,(m8 st d,())),(true,())):=by
 obtain ⟨hs,_⟩:=h.store
 obtain ⟨g1,g2,_⟩:=eW hs
 have hd:DR d:=g1.disk
 have h60:st.1.2.1.length≤60:=(bQ (nx:=st.1.1) (ids:=st.1.2.1) g1.live).2.2.2.1
 obtain ⟨f1,f2⟩:=hf
 obtain ⟨p1,p2⟩:=Dq (st:=st) hd f.2.1 h60
 rw [wI hk (B:=100001) (B':=100000) (by omega) (by omega) f2 p1 (by omega) (by omega),FH hs]
theorem Eb {st:Ty.d aE} {d:Ty.d aA} (h:MI st d) (n:Int):FS (n,(m8 st d,())):=by
 obtain ⟨c1,c2⟩:=EJ h.store.1
 exact ⟨c1,fun p hp=>Nat.le_trans (c2 p hp) (by omega)⟩
theorem FE {k:Nat} (hk:2 ^ 50≤k) {st:Ty.d aE} {d:Ty.d aA} (h:MI st d) (n:Int):ap.f k (n,(m8 st d,()))=some ((gd st.2.1 d).1,(true,())):=by
 obtain ⟨c1,c2⟩:=EJ h.store.1
 have ht:=Ga c2
 have:(m8 st d).length*100000≤60*100000:=Nat.mul_le_mul_right _ c1
 have e:=xl hk (n,(m8 st d,())) (by show (m8 st d).length≤_;omega) (by show G9 (m8 st d)≤_;omega)
 rw [e]
 show some ((oU (m8 st d)).1,((oU (m8 st d)).2,()))=_
 rw [B_ h]
theorem HL {k:Nat} (hk:2 ^ 50≤k) {st:Ty.d aE} {d:Ty.d aA} (h:d9 st d=true) (f:gq):c9.f k (lO st d f)=some (JB (lO st d f).2.1,()):=by
 obtain ⟨g1,_,_⟩:=eW h
 have hd:DR d:=g1.disk
 have h60:st.1.2.1.length≤60:=(bQ (nx:=st.1.1) (ids:=st.1.2.1) g1.live).2.2.2.1
 obtain ⟨_,p2⟩:=Dq (st:=st) hd f h60
 exact xy hk (by omega)
theorem FN {k:Nat} (hk:2 ^ 50≤k) {st:Ty.d aE} {d:Ty.d aA} (h:MI st d):eO.f k st d=some ((gd st.2.1 d).1,((gd st.2.1 d).2,()))∧(gd st.2.1 d).2=0∧bq.f k (gd st.2.1 d).1 (gd st.2.1 d).1=some (true,()):=by
 obtain ⟨hs,_⟩:=h.store
 obtain ⟨g1,g2,_⟩:=eW hs
 have hd:DR d:=g1.disk
 have hz:=nz st.2.1 d
 exact ⟨tu hk hd.sz (by omega),by rw [vD hs],un hk (by omega)⟩
theorem D7 {k:Nat} (hk:2 ^ 50≤k) {code:List Int} (hl:code.length≤1048576):je (gz.f k code) (fun r=>r.1.2.2.1.length≤100000):=by
 unfold gz.f gz.t
 refine bA (Ir hk hl) fun r1 q1=>?_
 refine bA (Ax hk q1) fun r2 q2=>?_
 obtain ⟨c2,z2⟩:=q2
 have hz:r2.2.1.2.2.1.length≤100000:=by omega
 refine bA (uz k c2 (by omega) (by omega)) fun r3 c3=>?_
 have A:∀ (cap fu:Int) (c:lR),CI c→je ((cF.f k c 20).bind fun r5=>(bif r5.2.1 then ((aM.f k r5.1 [(-1),100001,0,9]).bind fun r6=>(some ((r6.2.1,(fu,r2.2.1.2.2)),()))) else (some ((cap,(fu,r2.2.1.2.2)),())))) (fun r:Ty.d nK × Unit=>r.1.2.2.1.length≤100000):=fun cap fu c hc =>
  bA (vy k hc (by omega) (by omega)) fun r5 c5=>b8 (fun _=>bA (qY k c5 (by decide) (by decide)) fun r6 _=>ae hz) (fun _=>ae hz)
 have B:je ((aa.f k r3.1 60).bind fun r4=>((cF.f k r4.1 20).bind fun r5=>(bif r5.2.1 then ((aM.f k r5.1 [(-1),100001,0,9]).bind fun r6=>(some ((r6.2.1,(r4.2.1,r2.2.1.2.2)),()))) else (some ((r2.2.1.1,(r4.2.1,r2.2.1.2.2)),()))))) (fun r:Ty.d nK × Unit=>r.1.2.2.1.length≤100000) :=
  bA (uz k c3 (by omega) (by omega)) fun r4 c4=>A _ _ _ c4
 have C:je ((aM.f k r3.1 [(-2),(-1),0,100001]).bind fun r4=>((cF.f k r4.1 20).bind fun r5=>(bif r5.2.1 then ((aM.f k r5.1 [(-1),100001,0,9]).bind fun r6=>(some ((r6.2.1,(r4.2.1,r2.2.1.2.2)),()))) else (some ((r2.2.1.1,(r4.2.1,r2.2.1.2.2)),()))))) (fun r:Ty.d nK × Unit=>r.1.2.2.1.length≤100000) :=
  bA (qY k c3 (by decide) (by decide)) fun r4 c4=>A _ _ _ c4
 have D:je ((cF.f k r3.1 20).bind fun r10=>(bif r10.2.1 then ((aM.f k r10.1 [(-1),100001,0,9]).bind fun r11=>(some ((r11.2.1,r2.2.1.2),()))) else (some r2.2))) (fun r:Ty.d nK × Unit=>r.1.2.2.1.length≤100000) :=
  bA (vy k c3 (by omega) (by omega)) fun r5 c5=>b8 (fun _=>bA (qY k c5 (by decide) (by decide)) fun r6 _=>ae hz) (fun _=>ae hz)
 exact b8 (fun _=>b8 (fun _=>B) (fun _=>b8 (fun _=>C) (fun _=>D))) (fun _=>b8 (fun _=>B) (fun _=>b8 (fun _=>C) (fun _=>D)))
theorem L9 {k:Nat} {code:List Int} {i:Int} (h:0≤i):je (mQ.f k code i) (fun _=>True):=by
 unfold mQ.f mQ.t
 exact b8 (fun c=>g9 h (of_decide_eq_true c) (ae trivial)) (fun _=>ae trivial)
theorem HT {k:Nat} (hk:2 ^ 50≤k) {up:Bool} {st:Ty.d aE} {d:Ty.d aA} (h:up=true→MI st d) {f:Ty.d ay} (hf:FS f) {sent:Int} (hs:0≤sent) :
 je (bif (!up) then (some ((decide (sent≥0)),())) else ((dA.f k st d f).bind fun r11=>((bN.f k f r11.1).bind fun r12=>((ap.f k r12.1).bind fun r13=>((dA.f k st d (0,([],()))).bind fun r14=>((bN.f k (0,([],())) r14.1).bind fun r15=>((eO.f k st d).bind fun r16 =>
  (bif r12.2.1 then (bif r13.2.1 then ((bE.f k r12.1 r15.1).bind fun r17=>(bif r17.1 then ((bq.f k r13.1 r16.1).bind fun r18=>(bif r18.1 then (some ((r12.1.1==st.1.1),())) else (some (false,())))) else (some (false,())))) else (some (false,()))) else (some (false,()))))))))):Option (Bool × Unit)) (fun r=>r=(true,())):=by
 cases up with
 | false=>exact ae (by rw [aO (show sent≥0 from hs)])
 | true =>
  have h:=h rfl
  obtain ⟨d1,d2,d3⟩:=FN hk h
  obtain ⟨c1,_⟩:=Eb h st.1.1
  refine ky rfl ?_
  refine bP (va hk h hf) ?_
  refine bP (zc hk h hf) ?_
  refine bP (FE hk h _) ?_
  refine bP (va hk h (D_ 0)) ?_
  refine bP (zc hk h (D_ 0)) ?_
  refine bP d1 ?_
  refine kE rfl (kE rfl ?_)
  refine bP (CJ hk (f:=(st.1.1,(m8 st d,()))) (by omega)) (kE rfl ?_)
  refine bP d3 (kE rfl ?_)
  exact ae (by show ((st.1.1==st.1.1),())=(true,());rw [beq_self_eq_true])
theorem IQ {k:Nat} (hk:2 ^ 50≤k) {code:List Int} {steps:List (Ty.d bg)} (hs:steps.length≤100000) (cap fu:Int):∀ (m n:Nat) (i sent:Int) (e:Ty.d df) (f:Ty.d ay),m<n→0≤i→i+(m:Int)=(steps.length:Int)→EV True e→0≤sent→sent≤6000000*i→FS f →
 je (am.l1 k n code sent i steps cap fu e.2.1.1.2.1 e.2.1.2.1 e.2.2.1.1 e.2.2.2.1 e.1 e.2.1.1.1 e.2.1.2.2.1 e.2.1.2.2.2.1 e.2.1.2.2.2.2.1 e.2.2.1.2.1 e.2.2.1.2.2.1 e.2.2.1.2.2.2.1 f.2.1 f.1) (fun r=>r=(true,())):=by
 intro m
 induction m with
 | zero =>
  intro n i sent e f hn h0 h1 he s0 s1 hf
  obtain ⟨n,rfl⟩:∃ q,n=q+1:=⟨n-1,by omega⟩
  simp only [am.l1,am.b1]
  exact ky (aP (by omega)) (HT hk (st:=e.2.1) (d:=e.2.2.1) (f:=f) (fun up=>he.mi up (he.fu trivial).2) hf s0)
 | succ m ih =>
  intro n i sent e f hn h0 h1 he s0 s1 hf
  obtain ⟨n,rfl⟩:∃ q,n=q+1:=⟨n-1,by omega⟩
  have hw:aJ (i+1)=i+1:=aD (by omega) (by omega)
  simp only [am.l1,am.b1,hw]
  refine kE (aO (by omega)) (b8 (fun _=>?_) (fun _=>HT hk (st:=e.2.1) (d:=e.2.2.1) (f:=f) (fun up=>he.mi up (he.fu trivial).2) hf s0))
  refine g9 h0 (by omega) ?_
  refine bA (zm hk (e:=(e.1,(((e.2.1.1.1,(e.2.1.1.2.1,())),(e.2.1.2.1,(e.2.1.2.2.1,(e.2.1.2.2.2.1,(e.2.1.2.2.2.2.1,()))))),((e.2.2.1.1,(e.2.2.1.2.1,(e.2.2.1.2.2.1,(e.2.2.1.2.2.2.1,())))),(e.2.2.2.1,()))))) he (List.getD steps (Int.toNat i) (Ty.z bg))) fun r6 q6=>?_
  refine b8 (fun _=>ih n (i+1) sent r6.1 f (by omega) (by omega) (by omega) q6 s0 (by omega) hf) fun up=>?_
  have up:r6.1.1=true:=by simpa using up
  have hmi:MI r6.1.2.1 r6.1.2.2.1:=q6.mi up (q6.fu trivial).2
  refine bA (L9 h0) fun r7 _=>?_
  refine b8 (fun _=>ih n (i+1) sent r6.1 f (by omega) (by omega) (by omega) q6 s0 (by omega) hf) fun _=>?_
  refine bP (va hk hmi (f:=f) hf) ?_
  refine bP (zc hk hmi (f:=f) hf) ?_
  refine ky rfl ?_
  refine bP (HL hk hmi.store.1 f.2.1) ?_
  obtain ⟨p1,p2,p3⟩:=IW hmi.store.1 f.2.1
  simp only []
  rw [aD (n:=sent+JB (lO r6.1.2.1 r6.1.2.2.1 f.2.1).2.1) (by omega) (by omega)]
  exact ih n (i+1) (sent+JB (lO r6.1.2.1 r6.1.2.2.1 f.2.1).2.1) r6.1 (r6.1.2.1.1.1,(m8 r6.1.2.1 r6.1.2.2.1,())) (by omega) (by omega) (by omega) q6 (by omega) (by omega) (Eb hmi _)
theorem xk {k:Nat} (hk:2 ^ 50≤k) (code:List Int):am.f k code=some (true,()):=by
 refine K4 ?_
 unfold am.f am.t
 have hbig:o7.f k code=some (decide ((code.length:Int) > 1048576),()):=rfl
 refine bP hbig ?_
 refine b8 (fun _=>ae rfl) fun hb=>?_
 have hl:code.length≤1048576:=by have:=of_decide_eq_false hb;omega
 refine bA (D7 hk hl) fun r2 q2=>?_
 have hnew:=IP (n:=20000) (by omega) (by omega)
 refine bP (B8 k (by omega) (by omega)) ?_
 refine bP (qx hk (d:=IC 20000) hnew.sz) ?_
 refine b8 (fun _=>ae rfl) fun _=>?_
 have he:EV True (EH (ja (IC 20000))):=EN hnew fun _=>⟨(by decide:LT.lt (α:=Int) (-1) 0),rfl⟩
 obtain ⟨n,hn⟩:∃ q,k=q+1:=⟨k-1,by omega⟩
 have same:am.l0 k k=am.l1 k k:=by
  rw [show am.l0 k k=am.l0 k (n+1) by rw [← hn],show am.l1 k k=am.l1 k (n+1) by rw [← hn]]
  rfl
 rw [same]
 exact IQ hk q2 r2.1.1 r2.1.2.1 r2.1.2.2.1.length k 0 0 (EH (ja (IC 20000))) (0,([],())) (by omega) (Int.le_refl _) (by omega) he (Int.le_refl _) (by omega) (D_ 0)
theorem fnFollowsOn_pure:∀ x,Wf (tup [.slice (.int .u8)]) x→∃ k r,am.f k x.1=some r∧ml (B:=[.bool]) (fw ([.val (.slice (.int .u8))])) r=(true,()):=by
 rintro ⟨a0,_⟩ ⟨f0,_⟩
 suffices Ev (fun k=>am.f k a0) (true,()) by
  obtain ⟨k,h⟩:=this.some
  exact ⟨k,(true,()),h,rfl⟩
 exact KA fun k hk=>xk hk a0
end Go.Proofs.YtnpijgnfpdcjbaaGreatDoor.G

/- Plain laws, merged; what is proved here is told ahead of each part. -/
import Derived.Test.YtnpijgnfpdcjbaaGreatDoorZO2
set_option linter.unusedVariables false
set_option linter.unusedSimpArgs false
namespace Go.Proofs.YtnpijgnfpdcjbaaGreatDoor.G
open Go.V
structure BT (st:Ty.d aE) (d:Ty.d aA):Prop where
 live:cS st.1=true
 disk:DR d
 full:∀ x ∈ st.1.2.1,∃ t,fT d (a_ aF x)=some t∧FL t
 tail:∀ t,fT d (cj st)=some t→st.2.2.2.1=(t.size:Int)
theorem qh {d:Ty.d aA} (hd:DR d) (s:ByteArray):(aT d s).2=(fT d s).isSome:=by
 rw [kf hd]
 unfold fT
 cases bh d.1 s <;> rfl
theorem sa {d:Ty.d aA} (hd:DR d) {tail:Int}:∀ {l:List Int},lk d tail l=true↔((∀ x ∈ l,∃ t,fT d (a_ aF x)=some t∧FL t)∧(l≠[]→∀ t,fT d (a_ aF (aZ l))=some t→tail=(t.size:Int)))
 | []=>⟨fun _=>⟨fun x hx=>(by cases hx),fun h=>absurd rfl h⟩,fun _=>rfl⟩
 | x::l=>by
  have ih:=sa hd (tail:=tail) (l:=l)
  have hl:l≠[]→aZ (x::l)=aZ l:=fun h=>by
   unfold aZ
   cases l with
   | nil=>exact absurd rfl h
   | cons y r=>simp [List.getD]
  unfold lk Ax
  simp only [gN]
  rw [ih,qh hd,jH hd]
  constructor
  · rintro ⟨⟨h1,h2,h3⟩,h4,h5⟩
    obtain ⟨t,ht⟩:=Option.isSome_iff_exists.1 h1
    rw [ht] at h2 h3
    simp only [Option.getD_some,decide_eq_true_eq] at h2
    refine ⟨fun y hy=>?_,fun _ u hu=>?_⟩
    · rcases List.mem_cons.1 hy with e | e
      · rw [e];exact ⟨t,ht,EF h2⟩
      · exact h4 y e
    · by_cases c:l=[]
      · subst c
        have e:aZ [x]=x:=rfl
        rw [e,ht] at hu
        have hu:=Option.some.inj hu
        rw [← hu]
        simp only [List.isEmpty_nil,fh,Bool.false_or,Option.getD_some] at h3
        exact Hi h3
      · rw [hl c] at hu
        exact h5 c u hu
  · rintro ⟨h1,h2⟩
    obtain ⟨t,ht,hf⟩:=h1 x jd
    rw [ht]
    simp only [Option.isSome_some,Option.getD_some,decide_eq_true_eq]
    refine ⟨⟨by trivial,yq hf,?_⟩,fun y hy=>h1 y (lL _ hy),fun c u hu=>h2 (by simp) u (by rw [hl c];exact hu)⟩
    cases l with
    | nil =>
     have:=h2 (by simp) t (by rw [show aZ [x]=x from rfl];exact ht)
     rw [this]
     simp
    | cons y r=>rfl
theorem Ge {st:Ty.d aE} {d:Ty.d aA} (h:d9 st d=true):BT st d:=by
 obtain ⟨g1,g2,g3⟩:=eS h
 unfold d9 at h
 simp only [gN] at h
 obtain ⟨_,_,k1,_,_⟩:=bQ (nx:=st.1.1) (ids:=st.1.2.1) g1.live
 obtain ⟨q1,q2⟩:=(sa g1.disk).1 h.2.2.2.2.1
 exact ⟨g1.live,g1.disk,q1,q2 (by intro e;rw [e] at k1;simp at k1)⟩
def PK (d:Ty.d aA) (p:Ty.d aC):Prop:=fR d (eP p)=(fW p,true)
def PE (p:Ty.d aC):Prop:=(LE.le (α:=Int) 1 p.1∧LE.le (α:=Int) p.1 100000)∧LE.le (α:=Int) 0 p.2.1∧LE.le (α:=Int) 1 p.2.2.1∧LE.le (α:=Int) p.2.2.1 210
theorem GJ {st:Ty.d aE} {d:Ty.d aA} (h:BT st d) {r:Ty.d b7} (hr:bm r=true) (z:(jN st d r).1.2.2=0):BT (jN st d r).1.1 (jN st d r).1.2.1∧PK (jN st d r).1.2.1 (jN st d r).2∧PE (jN st d r).2:=by
 obtain ⟨b1,b2⟩:=Di h.live
 obtain ⟨n1,n2,n3,n4⟩:=iE (n:=st.1.1) (ids:=st.1.2.1) h.live
 obtain ⟨_,_,g1,_,_⟩:=bQ (nx:=st.1.1) (ids:=st.1.2.1) h.live
 have hlast:aZ st.1.2.1 ∈ st.1.2.1:=by
  have hs:=lT g1
  rw [hs]
  exact List.mem_append_right _ (List.mem_singleton.2 (by rw [← hs]))
 have hz:=tQ r
 have hl:((aQ (aG r)).size:Int)=aw r:=rfl
 obtain ⟨t,ht,hf⟩:=h.full _ hlast
 have ht:fT d (cj st)=some t:=ht
 have htl:=h.tail t ht
 have ha:=oc h.disk (cj st) (aQ (aG r))
 have ko:∀ s,cj st≠s→fT (iD d (cj st) (aQ (aG r))).1 s=fT d s:=fun s q=>wP q
 have kl:=sF (d:=d) (s:=cj st) (x:=aQ (aG r))
 unfold jN at z ⊢
 generalize iD d (cj st) (aQ (aG r))=a at ha ko kl z ⊢
 cases c:a.2 != 0 with
 | true =>
  rw [c] at z
  have z:(tl a).2=0:=z
  have q:=wI a
  rw [z,c] at q
  cases q
 | false =>
  have c0:(a.2==0)=true:=beq_iff_eq.2 (gu c)
  rw [c0,ac,ht] at kl
  have kl:fT a.1 (cj st)=some (t++aQ (aG r)):=kl
  simp only [aK]
  refine ⟨⟨h.live,ha,fun x hx=>?_,fun u hu=>?_⟩,?_,?_⟩
  · by_cases q:cj st=a_ aF x
    · rw [← q]
      exact ⟨_,kl,HP hf hr⟩
    · show ∃ t,fT a.1 (a_ aF x)=some t∧FL t
      rw [ko _ q]
      exact h.full x hx
  · have hu:fT a.1 (cj st)=some u:=hu
    rw [kl] at hu
    rw [← Option.some.inj hu,ByteArray.size_append]
    show @Eq Int (st.2.2.2.1+aw r) ((t.size+(aQ (aG r)).size:Nat):Int)
    rw [htl]
    omega
  · show dp (aT a.1 (cj st)).1 st.2.2.2.1 (aw r)=(r,true)
    rw [jH ha,kl,htl]
    exact yJ t hr
  · refine ⟨⟨b1,by show LE.le (α:=Int) (aZ st.1.2.1) 100000;omega⟩,?_,?_,?_⟩
    · show LE.le (α:=Int) 0 st.2.2.2.1
      rw [htl]
      omega
    · show LE.le (α:=Int) 1 (aw r)
      omega
    · show LE.le (α:=Int) (aw r) 210
      omega
theorem rl (l:List Int) (n:Int):aZ (l++[n])=n:=by
 unfold aZ
 simp [List.getD]
theorem JX {st:Ty.d aE} {d:Ty.d aA} (h:BT st d) (z:(jb st d).2.2=0):BT (jb st d).1 (jb st d).2.1:=by
 obtain ⟨n1,n2,n3,_⟩:=iE (n:=st.1.1) (ids:=st.1.2.1) h.live
 have hseg:∀ x:Int,x ∈ st.1.2.1→1≤x∧x≤100000:=fun x hx=>⟨(n3 x hx).1,by have:=(n3 x hx).2;omega⟩
 have hnew:∀ x ∈ st.1.2.1,a_ aF st.1.1≠a_ aF x:=fun x hx=>mn ⟨n1,n2⟩ (hseg x hx) (by have:=(n3 x hx).2;omega)
 have k2:∀ x ∈ st.1.2.1,fT (bO (a_ aF st.1.1) (fm d (cj st)).1).1 (a_ aF x)=fT d (a_ aF x):=fun x hx=>(l9 (hnew x hx)).trans kw
 have k3:∀ x ∈ st.1.2.1,fT (bf (kK st) (bO (a_ aF st.1.1) (fm d (cj st)).1).1).1 (a_ aF x)=fT d (a_ aF x):=fun x hx=>(gg (gT (hseg x hx)) (iS (hseg x hx))).trans (k2 x hx)
 have o2:=lP (s:=a_ aF st.1.1) (d:=(fm d (cj st)).1)
 have o3:fT (bf (kK st) (bO (a_ aF st.1.1) (fm d (cj st)).1).1).1 (a_ aF st.1.1)=fT (bO (a_ aF st.1.1) (fm d (cj st)).1).1 (a_ aF st.1.1):=gg (gT ⟨n1,n2⟩) (iS ⟨n1,n2⟩)
 have h1:=lR h.disk (cj st)
 have h2:=jx (a_ aF st.1.1) _ h1
 have h3:=jf (kK st) _ h2
 unfold jb at z ⊢
 by_cases c1:(st.1.2.1.length:Int)≥60
 · rw [aO c1] at z
   exact absurd z (by show (5:Int)≠0;decide)
 by_cases c2:st.1.1≥(100000:Int)
 · rw [aP c1,aO c2] at z
   exact absurd z (by show (5:Int)≠0;decide)
 have c1':st.1.2.1.length<60:=by omega
 have c2':LT.lt (α:=Int) st.1.1 100000:=Int.not_le.1 c2
 have hg:cS (Cd st).1=true:=tM h.live c2' c1'
 rw [aP c1,aP c2] at z ⊢
 simp only [aK] at z ⊢
 generalize fm d (cj st)=r1 at h1 h2 h3 k2 k3 o2 o3 z ⊢
 generalize bO (a_ aF st.1.1) r1.1=r2 at h2 h3 k2 k3 o2 o3 z ⊢
 generalize bf (kK st) r2.1=r3 at h3 k3 o3 z ⊢
 have tlz:∀ r:RD,(r.2 != 0)=true→(tl r).2≠0:=fun r q e=>by
  have:=wI r
  rw [e,q] at this
  cases this
 cases e1:r1.2 != 0 with
 | true=>rw [e1] at z;exact absurd z (tlz r1 e1)
 | false =>
  rw [e1] at z
  simp only [aK] at z ⊢
  cases e2:r2.2 != 0 with
  | true=>rw [e2] at z;exact absurd z (tlz r2 e2)
  | false =>
   rw [e2] at z
   simp only [aK] at z ⊢
   have o2:=o2 (gu e2)
   cases e3:r3.2 != 0 with
   | true =>
    rw [e3] at z
    simp only [ac] at z
    refine absurd z ?_
    unfold np
    cases q:(tl r3).2==2 with
    | false=>exact tlz r3 e3
    | true =>
     show (bif (eX [iL,a_ aF st.1.1] (tl r3).1).2==0 then (2:Int) else iH (eX [iL,a_ aF st.1.1] (tl r3).1).2)≠0
     cases w:(eX [iL,a_ aF st.1.1] (tl r3).1).2==0 with
     | true=>show (2:Int)≠0;decide
     | false =>
      intro e
      have:=iF (eX [iL,a_ aF st.1.1] (tl r3).1).2
      rw [w] at this
      simp only [aK] at e
      rw [e] at this
      cases this
   | false =>
    simp only [aK]
    refine ⟨hg,h3,fun x hx=>?_,fun u hu=>?_⟩
    · have hx:x ∈ st.1.2.1++[st.1.1]:=hx
      rcases List.mem_append.1 hx with w | w
      · show ∃ t,fT r3.1 (a_ aF x)=some t∧FL t
        rw [k3 x w]
        exact h.full x w
      · rw [List.mem_singleton.1 w]
        exact ⟨_,o3.trans o2,F9⟩
    · have hu:fT r3.1 (a_ aF (aZ (st.1.2.1++[st.1.1])))=some u:=hu
      rw [rl,o3,o2] at hu
      rw [← Option.some.inj hu]
      rfl
theorem Jz {st:Ty.d aE} {d:Ty.d aA} (h:BT st d) {r:Ty.d b7} (hr:bm r=true) (z:(fb st d r).1.2.2=0):BT (fb st d r).1.1 (fb st d r).1.2.1∧PK (fb st d r).1.2.1 (fb st d r).2∧PE (fb st d r).2:=by
 have hq:=JX h
 unfold fb at z ⊢
 cases c:decide (st.2.2.2.1 > 0)&&decide (st.2.2.2.1+aw r > 200) with
 | false =>
  rw [c] at z
  exact GJ h hr z
 | true =>
  rw [c] at z
  simp only [ac] at z ⊢
  generalize jb st d=q at hq z ⊢
  cases c2:q.2.2 != 0 with
  | true =>
   rw [c2] at z
   have z:q.2.2=0:=z
   rw [z] at c2
   cases c2
  | false =>
   rw [c2] at z
   exact GJ (hq (gu c2)) hr z
theorem EG:∀ (l:j2) (st:Ty.d aE) (d:Ty.d aA) (ps:aW),BT st d→(∀ r ∈ l,bm r=true)→(∀ p ∈ ps,PK d p∧PE p∧LT.lt (α:=Int) p.1 st.1.1)→(eW l st d ps).1.2.2=0 →
 BT (eW l st d ps).1.1 (eW l st d ps).1.2.1∧∀ p ∈ (eW l st d ps).2,PK (eW l st d ps).1.2.1 p∧PE p∧LT.lt (α:=Int) p.1 (eW l st d ps).1.1.1.1
 | [],st,d,ps,h,_,hp,_=>⟨h,hp⟩
 | r::l,st,d,ps,h,hr,hp,z=>by
  have hb:=Jz h (hr r jd)
  obtain ⟨s1,s2,s3,s4⟩:=Df (d:=d) h.live h.disk r
  unfold eW at z ⊢
  generalize fb st d r=q at hb s1 s2 s3 s4 z ⊢
  cases c:q.1.2.2 != 0 with
  | true =>
   rw [c] at z
   have z:q.1.2.2=0:=z
   rw [z] at c
   cases c
  | false =>
   have e0:=gu c
   obtain ⟨k1,k2,k3⟩:=hb e0
   rw [c] at z
   simp only [aK] at z ⊢
   refine EG l q.1.1 q.1.2.1 (ps++[q.2]) k1 (fun x hx=>hr x (lL _ hx)) (fun p hq=>?_) z
   rcases List.mem_append.1 hq with w | w
   · obtain ⟨p1,p2,p3⟩:=hp p w
     refine ⟨?_,p2,Int.lt_of_lt_of_le p3 s2⟩
     have p1':fR d (eP p)=(fW p,true):=p1
     show fR q.1.2.1 (eP p)=(fW p,true)
     rw [vt h.disk k1.disk s1 p2.1.1 p3 p2.1.2 (by rw [p1']),p1']
   · rw [List.mem_singleton.1 w]
     exact ⟨k2,k3,(s4 e0).2⟩
theorem Dy {l:lD} {b:Int} (h:jz l=true) (h0:1≤b) (h1:b≤1000000):∀ r ∈ iT l b,bm r=true:=by
 intro r hr
 unfold iT at hr
 rcases List.mem_append.1 hr with w | w
 · obtain ⟨x,hx,e⟩:=List.mem_map.1 w
   have hp:=rF h hx
   unfold nl ku at hp
   simp only [gN] at hp
   rw [← e]
   unfold fg bm
   cases c:x.2.1 with
   | true =>
    simp only [ac]
    rw [show ((2:Int)==1||(2:Int)==4)=false from rfl,show ((2:Int)==2)=true from rfl]
    simp only [aK,ac]
    rw [hp.1,aO (show 1≤b∧b≤1000000 from ⟨h0,h1⟩),show seq ByteArray.empty ⟨#[]⟩=true from bV _]
    rfl
   | false =>
    simp only [aK]
    rw [show ((1:Int)==1||(1:Int)==4)=true from rfl]
    simp only [ac]
    rw [hp.1,hp.2.1,aO (show 1≤b∧b≤1000000 from ⟨h0,h1⟩)]
    rfl
 · have hl:=n8 h
   have hs:=Dc (l.map (fg b))
   rw [List.mem_singleton.1 w]
   unfold fI bm
   rw [show ((3:Int)==1||(3:Int)==4)=false from rfl,show ((3:Int)==2)=false from rfl,show ((3:Int)==3)=true from rfl]
   simp only [aK,ac]
   rw [aO (show (0:Int)≤((l.map (fg b)).length:Int)∧((l.map (fg b)).length:Int)≤8 by rw [List.length_map];omega),aO (show 0≤ul (l.map (fg b))∧ul (l.map (fg b))≤4294967295 from hs),aO (show 1≤b∧b≤1000000 from ⟨h0,h1⟩),show seq ByteArray.empty ⟨#[]⟩=true from bV _]
   rfl
def LD (key x:ByteArray):Bool:=mo x key||seq x key
def KV (K:List ByteArray) (key:ByteArray):List ByteArray:=K.takeWhile (LD key)++key::K.dropWhile (LD key)
theorem qX (l:aR) (key:ByteArray):iP (gz l key)=(iP l).filter fun x=>!(seq x key):=by
 unfold iP gz
 rw [List.filter_map]
 rfl
theorem Am (l:aR) (e:Ty.d aB):iP (qB l e)=KV (iP l) e.1:=by
 unfold iP qB KV
 rw [List.map_append,List.map_cons,List.takeWhile_map,List.dropWhile_map]
 rfl
theorem yj:∀ (l:lD) (d d' es fs:aR),iP d=iP d'→iP es=iP fs→iP (pZ d l es)=iP (pZ d' l fs)
 | [],d,d',es,fs,h,_=>by rw [py,py];exact h
 | x::l,d,d',[],[],h,_=>by unfold pZ;exact h
 | x::l,d,d',e::es,[],_,g=>by cases g
 | x::l,d,d',[],f::fs,_,g=>by cases g
 | x::l,d,d',e::es,f::fs,h,g=>by
  unfold iP at g
  rw [List.map_cons,List.map_cons] at g
  injection g with g1 g2
  unfold pZ
  refine yj l _ _ es fs ?_ g2
  cases x.2.1 with
  | true=>simp only [ac];rw [qX,qX,h]
  | false =>
   simp only [aK]
   unfold qA
   rw [Am,Am,qX,qX,h,g1]
theorem Kd {a:Int} (h:1≤a) (g:a≤1000000):1≤a+1∧a+1≤1000001:=by omega
theorem Kz (a:Int):¬ a≥a+1:=by omega
theorem Kg {a b:Int} (h:¬ b≥a):¬ b≥a+1:=by omega
theorem Bi {st:Ty.d aE} {d:Ty.d aA} {l:lD} (hs:d9 st d=true) (he:EI st) (hp:jz l=true) (hb:LE.le (α:=Int) st.2.2.1 1000000) (ha:lh st.2.1 l≤20) (z:(gD st d l).2.2=0):d9 (gD st d l).1 (gD st d l).2.1=true ∧
 (∀ e ∈ (gD st d l).1.2.1,(e ∈ st.2.1∧fR (gD st d l).2.1 e=fR d e)∨∃ x ∈ l,x.2.1=false∧e.1=x.1∧fR (gD st d l).2.1 e=(fg st.2.2.1 x,true)) ∧
 iP (gD st d l).1.2.1=iP (pZ st.2.1 l (l.map wx)) ∧
 ∃ ps:aW,(gD st d l).1.2.1=bN st.2.1 ps∧ps.map fW=l.map (fg st.2.2.1)∧(∀ p ∈ ps,fR (gD st d l).2.1 (eP p)=(fW p,true))∧∀ e ∈ st.2.1,fR (gD st d l).2.1 e=fR d e:=by
 obtain ⟨g1,g2,g3⟩:=eS hs
 have hBT:=Ge hs
 have hs':=hs
 unfold d9 at hs'
 simp only [gN] at hs'
 obtain ⟨_,_,hdir,_,_,hent⟩:=hs'
 obtain ⟨d1,d2,d3⟩:=sP.1 hdir
 have hl8:=n8 hp
 have hbat:SR (pG st) (d,0) 100000:=⟨g1.live,g1.disk,g1.lo,g1.hi⟩
 obtain ⟨f1,f2,f3⟩:=oX (iT l st.2.2.1) (pG st) d [] 100000 hbat (by decide)
 obtain ⟨s1,s2,s3,s4⟩:=Bg (iT l st.2.2.1) (pG st) d [] 100000 hbat (by decide) (fun x hx=>by cases hx)
 have hB:=EG (iT l st.2.2.1) (pG st) d [] ⟨hBT.live,hBT.disk,hBT.full,hBT.tail⟩ (Dy hp g3 hb) (fun x hx=>by cases hx)
 unfold gD at z ⊢
 generalize eW (iT l st.2.2.1) (pG st) d []=q at f1 f2 f3 s1 s2 s3 s4 hB z ⊢
 have e2:q.1.1.2.1=st.2.1:=f2
 have s1:EX st.1.1 d q.1.2.1:=s1
 have s3:q.1.1.2.2.1=st.2.2.1+1:=s3
 unfold sG at z ⊢
 cases c:q.1.2.2 != 0 with
 | true =>
  rw [c] at z
  have z:q.1.2.2=0:=z
  rw [z] at c
  cases c
 | false =>
  rw [c] at z
  simp only [aK] at z ⊢
  have c0:=gu c
  have f3:=f3 c0
  rw [List.map_nil,List.nil_append] at f3
  obtain ⟨hB1,hB2⟩:=hB c0
  have y0:=xL s1 (Jg st.1.1 q.1.2.1 (cj q.1.1))
  have y1:=lR hB1.disk (cj q.1.1)
  have y2:∀ s,fT (fm q.1.2.1 (cj q.1.1)).1 s=fT q.1.2.1 s:=fun s=>kw
  generalize fm q.1.2.1 (cj q.1.1)=y at y0 y1 y2 z ⊢
  cases cy:y.2 != 0 with
  | true =>
   rw [cy] at z
   have z:(tl y).2=0:=z
   have q:=wI y
   rw [z,cy] at q
   cases q
  | false =>
   simp only [aK]
   have hrp:∀ p ∈ q.2.take l.length,fW p ∈ l.map (fg st.2.2.1):=fun p hp=>by
    have h1:(q.2.take l.length).map fW=l.map (fg st.2.2.1):=by
     rw [List.map_take,f3]
     unfold iT
     rw [List.take_append_of_le_length (by rw [List.length_map];omega),List.take_of_length_le (by rw [List.length_map];omega)]
    rw [← h1]
    exact List.mem_map.2 ⟨p,hp,rfl⟩
   have hPK:∀ p ∈ q.2.take l.length,fR y.1 (eP p)=(fW p,true):=fun p hp=>by
    obtain ⟨p1,_,_⟩:=hB2 p (List.mem_of_mem_take hp)
    have p1:fR q.1.2.1 (eP p)=(fW p,true):=p1
    rw [← p1]
    unfold fR
    rw [jH y1,jH hB1.disk,y2]
   have newE:∀ e ∈ bN q.1.1.2.1 (q.2.take l.length),(∃ p ∈ q.2.take l.length,e=eP p∧(p.2.2.2.1.1==2)=false)∨e ∈ st.2.1:=fun e hq=>by
    rw [e2] at hq
    exact ma _ hq
   have hput:∀ p ∈ q.2.take l.length,ku (eP p).1=true∧(fW p).2.1=st.2.2.1∧((fW p).1=1∨(fW p).1=2):=fun p hq=>by
    obtain ⟨x,hx,e⟩:=List.mem_map.1 (hrp p hq)
    have hk:=rF hp hx
    unfold nl at hk
    simp only [gN] at hk
    refine ⟨?_,?_,?_⟩
    · show ku (fW p).2.2.1=true
      rw [← e]
      unfold fg
      cases x.2.1 <;> exact hk.1
    · rw [← e]
      unfold fg
      cases x.2.1 <;> rfl
    · rw [← e]
      unfold fg
      cases x.2.1
      · exact .inl rfl
      · exact .inr rfl
   have hkeys:iP (bN st.2.1 (q.2.take l.length))=iP (pZ st.2.1 l (l.map wx)):=by
    have k1:iP (pZ st.2.1 l (q.2.map eP))=iP (pZ st.2.1 l (l.map wx++[wx (ByteArray.empty,(false,(ByteArray.empty,())))])):=by
     refine yj l _ _ _ _ rfl ?_
     unfold iP
     rw [List.map_map,show q.2.map ((fun x:Ty.d aB=>x.1) ∘ eP)=(q.2.map fW).map (fun r:Ty.d b7=>r.2.2.1) from by rw [List.map_map];rfl,f3]
     unfold iT
     rw [List.map_append,List.map_append,List.map_map,List.map_map]
     congr 1
     refine List.map_congr_left fun x _=>?_
     show (fg st.2.2.1 x).2.2.1=x.1
     unfold fg
     cases x.2.1 <;> rfl
    have k2:∀ (l:lD) (d:aR) (m:aR),pZ d l (l.map wx++m)=pZ d l (l.map wx):=by
     intro l
     induction l with
     | nil=>intro d m;rw [py,py]
     | cons x l ih =>
      intro d m
      rw [List.map_cons,List.cons_append]
      unfold pZ
      exact ih _ m
    rw [k2,wv st.2.2.1 l q.2 [fI 3 st.2.2.1 (l.map (fg st.2.2.1))] st.2.1 f3] at k1
    exact k1
   have oldE:∀ e ∈ st.2.1,fR y.1 e=fR d e:=fun e w=>by
    have hin:=List.all_eq_true.1 hent e w
    obtain ⟨i1,i2⟩:=he e w
    have i3:LE.le (α:=Int) e.2.1 100000:=by
     have:=d2 e w
     unfold JB at this
     simp only [gN,decide_eq_true_eq] at this
     exact this.2.1.2
    unfold ly at hin
    simp only [gN] at hin
    exact vt g1.disk y1 y0 i1 i2 i3 hin.1
   refine ⟨?_,fun e hq=>?_,by show iP (bN q.1.1.2.1 (q.2.take l.length))=_;rw [e2];exact hkeys,q.2.take l.length,by show bN q.1.1.2.1 (q.2.take l.length)=_;rw [e2],?_,hPK,oldE⟩
   rotate_left
   rotate_left
   · rw [List.map_take,f3]
     unfold iT
     rw [List.take_append_of_le_length (by rw [List.length_map];omega),List.take_of_length_le (by rw [List.length_map];omega)]
   rotate_left
   · show (e ∈ st.2.1∧fR y.1 e=fR d e)∨∃ x ∈ l,x.2.1=false∧e.1=x.1∧fR y.1 e=(fg st.2.2.1 x,true)
     rcases newE e hq with ⟨p,hq',w,kd⟩ | w
     · obtain ⟨x,hx,ex⟩:=List.mem_map.1 (hrp p hq')
       have kd:((fW p).1==2)=false:=kd
       have cx:x.2.1=false:=by
        cases c:x.2.1 with
        | false=>rfl
        | true =>
         rw [← ex] at kd
         unfold fg at kd
         rw [c] at kd
         cases kd
       refine .inr ⟨x,hx,cx,?_,?_⟩
       · rw [w]
         show (fW p).2.2.1=x.1
         rw [← ex]
         unfold fg
         rw [cx]
         rfl
       · rw [w,hPK p hq',ex]
     · exact .inl ⟨w,oldE e w⟩
   unfold d9
   simp only [gN]
   refine ⟨jQ.2 y1,hB1.live,sP.2 ⟨?_,fun e hq=>?_,?_⟩,decide_eq_true ?_,(sa y1).2 ⟨fun x hx=>?_,fun _ u hu=>?_⟩,List.all_eq_true.2 fun e hq=>?_⟩
   · have k3:=congrArg List.length hkeys
     unfold iP at k3
     rw [List.length_map,List.length_map] at k3
     show (bN q.1.1.2.1 (q.2.take l.length)).length≤20
     rw [e2,k3]
     unfold lh at ha
     omega
   · rcases newE e hq with ⟨p,hq',w,_⟩ | w
     · obtain ⟨_,p2,_⟩:=hB2 p (List.mem_of_mem_take hq')
       obtain ⟨u1,u2,u3⟩:=hput p hq'
       rw [w]
       unfold JB
       rw [u1,aO (show (1:Int)≤(eP p).2.1∧(eP p).2.1≤100000 from p2.1),aP (show ¬ (eP p).2.2.1<(0:Int) from Int.not_lt.2 p2.2.1),aO (show (1:Int)≤(eP p).2.2.2.1∧(eP p).2.2.2.1≤210 from p2.2.2),
        aO (show (1:Int)≤(eP p).2.2.2.2.1∧(eP p).2.2.2.2.1≤1000000 from by show (1:Int)≤(fW p).2.1∧(fW p).2.1≤1000000;rw [u2];exact ⟨g3,hb⟩)]
       rfl
     · exact d2 e w
   · show cW (iP (bN q.1.1.2.1 (q.2.take l.length)))
     rw [e2]
     exact p9 _ d3
   · show (1:Int)≤q.1.1.2.2.1∧q.1.1.2.2.1≤1000001
     rw [s3]
     exact Kd g3 hb
   · show ∃ t,fT y.1 (a_ aF x)=some t∧FL t
     rw [y2]
     exact hB1.full x hx
   · have hu:fT y.1 (cj q.1.1)=some u:=hu
     rw [y2] at hu
     exact hB1.tail u hu
   · show ly y.1 q.1.1.2.2.1 e=true
     rw [s3]
     rcases newE e hq with ⟨p,hq',w,kd⟩ | w
     · obtain ⟨u1,u2,u3⟩:=hput p hq'
       have hr:=hPK p hq'
       have kd:((fW p).1==2)=false:=kd
       have k1:(fW p).1=1:=by
        rcases u3 with v | v
        · exact v
        · rw [v] at kd;cases kd
       unfold ly
       rw [w,hr]
       simp only []
       rw [show (eP p).1=(fW p).2.2.1 from rfl,bV,show (eP p).2.2.2.2.1=(fW p).2.1 from rfl,beq_self_eq_true,k1,u2,aP (Kz st.2.2.1)]
       rfl
     · have hin:=List.all_eq_true.1 hent e w
       obtain ⟨i1,i2⟩:=he e w
       have i3:LE.le (α:=Int) e.2.1 100000:=by
        have:=d2 e w
        unfold JB at this
        simp only [gN,decide_eq_true_eq] at this
        exact this.2.1.2
       unfold ly at hin ⊢
       simp only [gN] at hin ⊢
       rw [vt g1.disk y1 y0 i1 i2 i3 hin.1]
       refine ⟨hin.1,hin.2.1,hin.2.2.1,hin.2.2.2.1,?_⟩
       have hlt:=hin.2.2.2.2
       simp only [Bool.not_eq_true',decide_eq_false_iff_not] at hlt ⊢
       exact Kg hlt
theorem IW {d:Ty.d aA} {s:ByteArray}:bh d.1 s=none↔fT d s=none:=by
 unfold fT
 cases bh d.1 s <;> simp
theorem ye {α:Type} {p:α→Bool}:∀ {l:List α},(∀ x ∈ l,p x=true)→l.takeWhile p=l∧l.dropWhile p=[]
 | [],_=>⟨rfl,rfl⟩
 | x::l,h=>by
  have ih:=ye (p:=p) (l:=l) fun y hy=>h y (lL _ hy)
  rw [List.takeWhile_cons,List.dropWhile_cons,h x jd,if_pos rfl,if_pos rfl,ih.1]
  exact ⟨rfl,ih.2⟩
theorem yQ:∀ {l:aR},cW (iP l)→∀ e ∈ l,vL l e.1=some e
 | [],_,e,h=>by cases h
 | x::l,hk,e,h=>by
  unfold cW iP at hk
  rw [List.map_cons,List.pairwise_cons] at hk
  rw [vL.eq_2]
  rcases List.mem_cons.1 h with w | w
  · rw [w,bV]
    rfl
  · have hlt:=hk.1 e.1 (List.mem_map.2 ⟨e,w,rfl⟩)
    rw [kP (fun q=>by rw [q,oQ] at hlt;cases hlt),aK]
    exact yQ hk.2 e w
theorem Hn {st:Ty.d aE} {d:Ty.d aA} (h:d9 st d=true) {e:Ty.d aB} (he:e ∈ st.2.1):uk st.2.1 d e.1=((e.1,((fR d e).1.2.2.2.1,((fR d e).1.2.1,()))),0):=by
 unfold d9 at h
 simp only [gN] at h
 obtain ⟨_,_,hdir,_,_,hent⟩:=h
 obtain ⟨_,_,hk⟩:=sP.1 hdir
 have hin:=List.all_eq_true.1 hent e he
 unfold ly at hin
 simp only [gN] at hin
 unfold uk
 rw [yQ hk e he]
 simp only []
 rw [hin.1,hin.2.1,hin.2.2.2.1]
 rfl
theorem vE {st:Ty.d aE} {d:Ty.d aA} (h:d9 st d=true):gf st.2.1 d=(st.2.1.map fun e=>(e.1,((fR d e).1.2.2.2.1,((fR d e).1.2.1,()))),0):=by
 have key:∀ (r:aR) (acc:iA),(∀ e ∈ r,e ∈ st.2.1)→pP st.2.1 d (r.map (·.1)) acc=(acc++r.map fun e=>(e.1,((fR d e).1.2.2.2.1,((fR d e).1.2.1,()))),0):=by
  intro r
  induction r with
  | nil=>intro acc _;rw [List.map_nil,List.map_nil,List.append_nil];rfl
  | cons e r ih =>
   intro acc hr
   rw [List.map_cons,pP,Hn h (hr e jd)]
   show pP st.2.1 d (r.map (·.1)) (acc++[_])=_
   rw [ih _ fun x hx=>hr x (lL _ hx),nn]
   rfl
 unfold gf
 rw [key st.2.1 [] fun e he=>he,List.nil_append]
def J0:ByteArray:=⟨#[108,105,118,101]⟩
theorem Ij {d:Ty.d aA} {e:Ty.d aB} (h:(fR d e).2=true):bm (fR d e).1=true:=by
 unfold fR dp at h ⊢
 by_cases c1:0≤e.2.2.1∧e.2.2.1≤((aT d (a_ aF e.2.1)).1.size:Int)∧1≤e.2.2.2.1∧e.2.2.2.1≤((aT d (a_ aF e.2.1)).1.size:Int)-e.2.2.1
 · rw [if_pos c1] at h ⊢
   by_cases c2:(fi (ByteArray.extract (aT d (a_ aF e.2.1)).1 (Int.toNat e.2.2.1) (Int.toNat (e.2.2.1+e.2.2.2.1)))).2=e.2.2.2.1
   · rw [if_pos c2] at h ⊢
     exact (vM (Prod.ext rfl h)).1
   · rw [if_neg c2] at h
     cases h
 · rw [if_neg c1] at h
   cases h
theorem uv {r:Ty.d b7} (h:bm r=true) (hk:r.1=1∨r.1=4):bm (bD (r.2.2.1,(r.2.2.2.1,(r.2.1,()))))=true:=by
 have hb:(r.1==1||r.1==4)=true:=by rcases hk with q | q <;> rw [q] <;> rfl
 unfold bm at h
 rw [hb,ac] at h
 simp only [gN] at h
 unfold bm bD
 rw [show ((4:Int)==1||(4:Int)==4)=true from rfl]
 simp only [ac]
 rw [h.1,h.2.1,h.2.2.2.2]
 rfl
theorem yd {st:Ty.d aE} {d:Ty.d aA} (h:d9 st d=true):(∀ p ∈ (gf st.2.1 d).1,bm (bD p)=true)∧cW ((gf st.2.1 d).1.map (·.1)):=by
 rw [vE h]
 have h':=h
 unfold d9 at h'
 simp only [gN] at h'
 obtain ⟨_,_,hdir,_,_,hent⟩:=h'
 obtain ⟨_,_,hk⟩:=sP.1 hdir
 refine ⟨fun p hp=>?_,?_⟩
 · obtain ⟨e,he,rfl⟩:=List.mem_map.1 hp
   have hin:=List.all_eq_true.1 hent e he
   unfold ly at hin
   simp only [gN,Bool.or_eq_true,beq_iff_eq] at hin
   have:=uv (Ij hin.1) hin.2.2.2.1
   rw [dr.1 hin.2.1] at this
   exact this
 · rw [List.map_map]
   exact hk
theorem Iq {b:Int} (h:1≤b) (g:b≤1000001):0≤b-1∧b-1≤1000000:=by omega
theorem BV {a b:Int} (h:a<b) (g:b≤100000):a≤100000:=by omega
def fF:j2→Int→yK
 | [],_=>[]
 | r::l,a=>(a,(aw r,(r,())))::fF l (a+aw r)
theorem wc:∀ (rs:j2) (pre:ByteArray) (d:Nat),(∀ r ∈ rs,bm r=true)→(aX rs).size<d→(fS (pre++aX rs) d (pre.size:Int)).1=fF rs (pre.size:Int)
 | [],pre,d,_,hd=>by
  obtain ⟨d,rfl⟩:∃ q,d=q+1:=⟨d-1,by omega⟩
  have:fi (ByteArray.extract (pre++aX []) (Int.toNat (pre.size:Int)) (pre++aX []).size)=(⟨#[]⟩,0):=by
   rw [nt,dk,aX,v7]
  rw [fS,this,if_pos rfl]
  rfl
 | r::rs,pre,d,h,hd=>by
  rw [aX,aN] at hd
  have hz:=jJ r
  have hp:=jq (s:=aG r) (by omega)
  obtain ⟨d,rfl⟩:∃ q,d=q+1:=⟨d-1,by omega⟩
  have ih:=wc rs (pre++aQ (aG r)) d (fun x hx=>h x (lL _ hx)) (by omega)
  rw [ai,aN pre] at ih
  rw [aX,EN (h r (jd ..)),fF]
  simp only []
  rw [ih,show ((pre.size+(aQ (aG r)).size:Nat):Int)=(pre.size:Int)+aw r by unfold aw;omega]
  rfl
theorem wG {rs:j2} (h:∀ r ∈ rs,bm r=true):(az (aX rs)).1=fF rs 0:=by
 have:=wc rs ⟨#[]⟩ ((aX rs).size+1) h (by omega)
 rw [nL] at this
 exact this
theorem yS:∀ (l m:j2) (a:Int),fF (l++m) a=fF l a++fF m (a+((aX l).size:Int))
 | [],m,a=>by
  show fF m a=fF m (a+((⟨#[]⟩:ByteArray).size:Int))
  rw [show ((⟨#[]⟩:ByteArray).size:Int)=0 from rfl,Int.add_zero]
 | r::l,m,a=>by
  rw [List.cons_append,fF,fF,yS l m,aX,aN,List.cons_append]
  rw [show a+aw r+((aX l).size:Int)=a+(((aQ (aG r)).size+(aX l).size:Nat):Int) by unfold aw;omega]
abbrev q7:=List (Int × j2)
def uq (x:Int × j2):aW:=b8 x.1 (fF x.2 0)
def jc:q7→aW
 | []=>[]
 | x::l=>uq x++jc l
theorem Dn:∀ (l m:q7),jc (l++m)=jc l++jc m
 | [],_=>rfl
 | x::l,m=>by
  show uq x++jc (l++m)=uq x++jc l++jc m
  rw [Dn l m,nn]
structure TX (st:Ty.d aE) (d:Ty.d aA) (L:q7):Prop where
 live:cS st.1=true
 disk:DR d
 ids:st.1.2.1=L.map (·.1)
 text:∀ x ∈ L,fT d (a_ aF x.1)=some (aX x.2)∧∀ r ∈ x.2,bm r=true
 tail:∀ t,fT d (cj st)=some t→st.2.2.2.1=(t.size:Int)
theorem TX.bt {st:Ty.d aE} {d:Ty.d aA} {L:q7} (h:TX st d L):BT st d:=⟨h.live,h.disk,fun x hx=>by
 rw [h.ids] at hx
 obtain ⟨y,hy,rfl⟩:=List.mem_map.1 hx
 exact ⟨_,(h.text y hy).1,y.2,(h.text y hy).2,rfl⟩,h.tail⟩
theorem A0 {d:Ty.d aA}:∀ {ids:List Int},(∀ x ∈ ids,∃ t,fT d (a_ aF x)=some t∧FL t)→∃ L:q7,ids=L.map (·.1)∧∀ x ∈ L,fT d (a_ aF x.1)=some (aX x.2)∧∀ r ∈ x.2,bm r=true
 | [],_=>⟨[],rfl,fun x hx=>(by cases hx)⟩
 | x::l,h=>by
  obtain ⟨L,h1,h2⟩:=A0 (ids:=l) fun y hy=>h y (lL _ hy)
  obtain ⟨t,ht,rs,hr,e⟩:=h x jd
  refine ⟨(x,rs)::L,by rw [List.map_cons,← h1],fun y hy=>?_⟩
  rcases List.mem_cons.1 hy with w | w
  · rw [w];exact ⟨by rw [ht,e],hr⟩
  · exact h2 y w
theorem BT.tx {st:Ty.d aE} {d:Ty.d aA} (h:BT st d):∃ L,TX st d L:=by
 obtain ⟨L,h1,h2⟩:=A0 h.full
 exact ⟨L,h.live,h.disk,h1,h2,h.tail⟩
theorem Hz {d:Ty.d aA} (hd:DR d) {x:Int × j2} (h:fT d (a_ aF x.1)=some (aX x.2)∧∀ r ∈ x.2,bm r=true):vZ d x.1=uq x:=by
 unfold vZ uq dq
 rw [jH hd,h.1]
 show b8 x.1 (az (aX x.2)).1=_
 rw [wG h.2]
theorem sV {d:Ty.d aA} (hd:DR d):∀ {L:q7},(∀ x ∈ L,fT d (a_ aF x.1)=some (aX x.2)∧∀ r ∈ x.2,bm r=true)→mE d (L.map (·.1))=jc L
 | [],_=>rfl
 | x::L,h=>by
  rw [List.map_cons]
  show vZ d x.1++mE d (L.map (·.1))=uq x++jc L
  rw [sV hd fun y hy=>h y (lL _ hy),Hz hd (h x jd)]
theorem rE:∀ (rs:j2) (pre post:ByteArray),(∀ r ∈ rs,bm r=true)→∀ x ∈ fF rs (pre.size:Int),dp (pre++(aX rs++post)) x.1 x.2.1=(x.2.2.1,true)∧bm x.2.2.1=true∧LE.le (α:=Int) 0 x.1∧LE.le (α:=Int) 1 x.2.1∧LE.le (α:=Int) x.2.1 210∧x.2.2.1 ∈ rs
 | [],_,_,_,x,hx=>(by cases hx)
 | r::rs,pre,post,h,x,hx=>by
  have hr:=h r jd
  rw [aX,oG]
  rw [fF] at hx
  rcases List.mem_cons.1 hx with w | w
  · rw [w]
    have hz:=tQ r
    have e:=yJ pre hr
    refine ⟨?_,hr,Int.natCast_nonneg _,show LE.le (α:=Int) 1 (aw r) by omega,hz.2,jd⟩
    show dp (pre++(aQ (aG r)++(aX rs++post))) (pre.size:Int) (aw r)=(r,true)
    rw [← oG,yb (by rw [e]),e]
  · have hz:((pre++aQ (aG r)).size:Int)=(pre.size:Int)+aw r:=by
     rw [ByteArray.size_append]
     unfold aw
     omega
    rw [← hz] at w
    obtain ⟨i1,i2,i3,i4,i5,i6⟩:=rE rs (pre++aQ (aG r)) post (fun q hq=>h q (lL _ hq)) x w
    rw [oG] at i1
    exact ⟨i1,i2,i3,i4,i5,lL _ i6⟩
theorem tT {L:q7} {p:Ty.d aC} (h:p ∈ jc L):∃ x ∈ L,∃ s ∈ fF x.2 0,p=(x.1,s):=by
 induction L with
 | nil=>cases h
 | cons x L ih =>
  have h:p ∈ uq x++jc L:=h
  rcases List.mem_append.1 h with w | w
  · unfold uq b8 at w
    obtain ⟨s,hs,e⟩:=List.mem_map.1 w
    exact ⟨x,jd,s,hs,e.symm⟩
  · obtain ⟨y,hy,q⟩:=ih w
    exact ⟨y,lL _ hy,q⟩
structure PL (d:Ty.d aA) (nx:Int) (p:Ty.d aC):Prop where
 lo:LE.le (α:=Int) 1 p.1
 hi:LT.lt (α:=Int) p.1 nx
 at0:LE.le (α:=Int) 0 p.2.1
 len0:LE.le (α:=Int) 1 p.2.2.1
 len1:LE.le (α:=Int) p.2.2.1 210
 ok:bm (fW p)=true
 read:fR d (eP p)=(fW p,true)
theorem tA {st:Ty.d aE} {d:Ty.d aA} {L:q7} (h:TX st d L) {p:Ty.d aC} (hp:p ∈ jc L):PL d st.1.1 p:=by
 obtain ⟨x,hx,s,hs,e⟩:=tT hp
 obtain ⟨n1,n2,n3,_⟩:=iE (n:=st.1.1) (ids:=st.1.2.1) h.live
 have hi:x.1 ∈ st.1.2.1:=by rw [h.ids];exact List.mem_map.2 ⟨x,hx,rfl⟩
 obtain ⟨t1,t2⟩:=h.text x hx
 obtain ⟨i1,i2,i3,i4,i5,_⟩:=rE x.2 ⟨#[]⟩ ⟨#[]⟩ t2 s hs
 rw [e]
 refine ⟨(n3 _ hi).1,(n3 _ hi).2,i3,i4,i5,i2,?_⟩
 unfold fR
 show dp (aT d (a_ aF x.1)).1 s.1 s.2.1=(s.2.2.1,true)
 rw [jH h.disk,t1]
 show dp (aX x.2) s.1 s.2.1=_
 rw [FZ,nL] at i1
 exact i1
abbrev Gn:=aR × Int × Int
def iC (pre:aW) (p:Ty.d aC) (s:Gn):Gn :=
 bif p.2.2.2.1.1==3 then (bif gV p.2.2.2.1 (eF p.2.2.2.1.2.1 pre) then (bN s.1 (eF p.2.2.2.1.2.1 pre),mQ p.2.2.2.1.2.1 s.2.1,kL (bN s.1 (eF p.2.2.2.1.2.1 pre)) s.2.2) else (s.1,mQ p.2.2.2.1.2.1 s.2.1,s.2.2)) else
 bif p.2.2.2.1.1==5 then (bif gV p.2.2.2.1 (bM pre) then (bN s.1 (bM pre),mQ p.2.2.2.1.2.1 s.2.1,kL (bN s.1 (bM pre)) s.2.2) else (s.1,mQ p.2.2.2.1.2.1 s.2.1,1)) else
 (s.1,mQ p.2.2.2.1.2.1 s.2.1,s.2.2)
def gr (pre:aW):aW→Gn→Gn
 | [],s=>s
 | p::r,s=>bif s.2.2 != 0 then s else gr (pre++[p]) r (iC pre p s)
theorem zJ {pre:aW} {s:Gn} (h:s.2.2≠0):∀ r:aW,gr pre r s=s
 | []=>rfl
 | p::r=>by unfold gr;rw [show (s.2.2 != 0)=true from bne_iff_ne.2 h];rfl
theorem E6 (pre:aW) (p:Ty.d aC) (r:aW) (s:Gn):gr pre (p::r) s=bif s.2.2 != 0 then s else gr (pre++[p]) r (iC pre p s):=rfl
theorem rT:∀ (a b pre:aW) (s:Gn),gr pre (a++b) s=gr (pre++a) b (gr pre a s)
 | [],b,pre,s=>by rw [List.append_nil];rfl
 | p::a,b,pre,s=>by
  rw [List.cons_append,E6,E6 pre p a]
  by_cases c:s.2.2=0
  · rw [show (s.2.2 != 0)=false by rw [c];rfl,aK,aK,rT a b,nn]
    rfl
  · rw [show (s.2.2 != 0)=true from bne_iff_ne.2 c,ac,ac]
    exact (zJ c _).symm
theorem rI (all:aW):∀ (r:aW) (i:Nat) (d:aR) (la c:Int),all.drop i=r→i≤all.length →
 gO all r i d la c=(let s:=gr (all.take i) r (d,la,c);bif s.2.2==0&&decide ((bM all).length > 0) then (s.1,(s.2.1,(1,()))) else (s.1,(s.2.1,(s.2.2,()))))
 | [],i,d,la,c,_,_=>rfl
 | p::r,i,d,la,c,h,hi=>by
  have hlt:i<all.length:=by
   have:=congrArg List.length h
   rw [List.length_drop,kJ] at this
   omega
  have ht:all.take (i+1)=all.take i++[p]:=by
   have e:all[i]=p:=by
    have:=List.drop_eq_getElem_cons hlt
    rw [h] at this
    injection this with w _
    exact w.symm
   rw [List.take_succ_eq_append_getElem hlt,e]
  have hd:all.drop (i+1)=r:=by rw [← List.drop_drop,h];rfl
  have ih:=fun d' la' c'=>rI all r (i+1) d' la' c' hd hlt
  unfold gO gr
  by_cases c0:c=0
  · subst c0
    simp only [bne_self_eq_false,aK]
    rw [← ht]
    unfold iC
    cases p.2.2.2.1.1==3 with
    | true =>
     simp only [ac]
     cases gV p.2.2.2.1 (eF p.2.2.2.1.2.1 (all.take i)) <;> exact ih _ _ _
    | false =>
     simp only [aK]
     cases p.2.2.2.1.1==5 with
     | true =>
      simp only [ac]
      cases gV p.2.2.2.1 (bM (all.take i)) <;> exact ih _ _ _
     | false=>exact ih _ _ _
  · have e1:(c != 0)=true:=bne_iff_ne.2 c0
    have e2:(c==0)=false:=mC c0
    simp only [e1,ac,e2,Bool.false_and,aK]
theorem Cz {pl:aW} {d:aR} {la:Int} (h:gr [] pl ([],0,0)=(d,la,0)) (hm:bM pl=[]):eH ([],(0,(0,()))) pl=(d,(la,(0,()))):=by
 have e:eH ([],(0,(0,()))) pl=(bif (gr [] pl ([],0,0)).2.2==0&&decide ((bM pl).length > 0) then ((gr [] pl ([],0,0)).1,((gr [] pl ([],0,0)).2.1,(1,()))) else ((gr [] pl ([],0,0)).1,((gr [] pl ([],0,0)).2.1,((gr [] pl ([],0,0)).2.2,())))):=rI pl pl 0 [] 0 0 rfl (Nat.zero_le _)
 rw [e,h,hm]
 rfl
theorem vu {g:aR} {la0:Int} {pl:aW} (h:(eH (g,(la0,(0,()))) pl).2.2.1=0):gr [] pl (g,la0,0)=((eH (g,(la0,(0,()))) pl).1,(eH (g,(la0,(0,()))) pl).2.1,0)∧bM pl=[]:=by
 have e:=rI pl pl 0 g la0 0 rfl (Nat.zero_le _)
 have e:eH (g,(la0,(0,()))) pl=(let s:=gr [] pl (g,la0,0);bif s.2.2==0&&decide ((bM pl).length > 0) then (s.1,(s.2.1,(1,()))) else (s.1,(s.2.1,(s.2.2,())))):=e
 rw [e] at h ⊢
 generalize gr [] pl (g,la0,0)=s at h ⊢
 obtain ⟨a,b,c⟩:=s
 simp only [] at h ⊢
 cases q:(c==0&&decide ((bM pl).length > 0)) with
 | true=>rw [q] at h;exact absurd h (by show (1:Int)≠0;decide)
 | false =>
  rw [q] at h
  simp only [aK] at h ⊢
  subst h
  refine ⟨rfl,?_⟩
  simp only [beq_self_eq_true,Bool.true_and,decide_eq_false_iff_not] at q
  exact List.length_eq_zero_iff.1 (by omega)
theorem mB (l m:aW):bM (l++m)=m.foldl fD (bM l):=by unfold bM;rw [List.foldl_append]
theorem uM (b:Int) (l m:aW):eF b (l++m)=m.foldl (eA b) (eF b l):=by unfold eF;rw [List.foldl_append]
def plain (p:Ty.d aC):Prop:=p.2.2.2.1.1=1∨p.2.2.2.1.1=2
theorem Bj {p:Ty.d aC} (h:plain p):(p.2.2.2.1.1==3)=false∧(p.2.2.2.1.1==4)=false∧(p.2.2.2.1.1==5)=false∧(p.2.2.2.1.1==1||p.2.2.2.1.1==2)=true:=by
 rcases h with q | q <;> rw [q] <;> exact ⟨rfl,rfl,rfl,rfl⟩
theorem vh:∀ (q pre:aW) (d:aR) (la:Int),(∀ p ∈ q,plain p)→∃ la',gr pre q (d,la,0)=(d,la',0)
 | [],_,d,la,_=>⟨la,rfl⟩
 | p::q,pre,d,la,h=>by
  obtain ⟨h3,h4,h5,_⟩:=Bj (h p jd)
  obtain ⟨la',e⟩:=vh q (pre++[p]) d (mQ p.2.2.2.1.2.1 la) fun x hx=>h x (lL _ hx)
  refine ⟨la',?_⟩
  unfold gr iC
  rw [h3,h5]
  exact e
theorem w6:∀ (q:aW) (acc:aW),(∀ p ∈ q,p.2.2.2.1.1≠4∧p.2.2.2.1.1≠5)→q.foldl fD acc=acc
 | [],_,_=>rfl
 | p::q,acc,h=>by
  obtain ⟨h4,h5⟩:=h p jd
  rw [List.foldl_cons,show fD acc p=acc by unfold fD;rw [mC h4,mC h5];rfl]
  exact w6 q acc fun x hx=>h x (lL _ hx)
theorem wZ {b:Int}:∀ (q:aW) (acc:aW),(∀ p ∈ q,p.2.2.2.1.2.1≠b)→q.foldl (eA b) acc=acc
 | [],_,_=>rfl
 | p::q,acc,h=>by
  rw [List.foldl_cons,show eA b acc p=acc by unfold eA;rw [mC (h p jd)];rfl]
  exact wZ q acc fun x hx=>h x (lL _ hx)
theorem BR {b:Int}:∀ (q:aW) (acc:aW),(∀ p ∈ q,plain p∧p.2.2.2.1.2.1=b)→q.foldl (eA b) acc=acc++q
 | [],acc,_=>(List.append_nil acc).symm
 | p::q,acc,h=>by
  obtain ⟨h1,h2⟩:=h p jd
  obtain ⟨h3,h4,h5,h6⟩:=Bj h1
  rw [List.foldl_cons,show eA b acc p=acc++[p] by unfold eA;rw [h2,beq_self_eq_true,h3,h6];rfl]
  rw [BR q (acc++[p]) fun x hx=>h x (lL _ hx),nn]
  rfl
theorem u_ {b:Int}:∀ (l:aW) (acc:aW),(∀ p ∈ acc,plain p)→∀ p ∈ l.foldl (eA b) acc,plain p∧(p ∈ acc∨p ∈ l)
 | [],acc,h,p,hp=>⟨h p hp,.inl hp⟩
 | x::l,acc,h,p,hp=>by
  rw [List.foldl_cons] at hp
  have hs:∀ q ∈ eA b acc x,plain q∧(q ∈ acc∨q=x):=fun q hq=>by
   unfold eA at hq
   cases c1:x.2.2.2.1.2.1==b with
   | false=>rw [c1] at hq;exact ⟨h q hq,.inl hq⟩
   | true =>
    rw [c1,ac] at hq
    cases c2:x.2.2.2.1.1==3 with
    | true=>rw [c2] at hq;cases hq
    | false =>
     rw [c2,aK] at hq
     cases c3:x.2.2.2.1.1==1||x.2.2.2.1.1==2 with
     | false=>rw [c3] at hq;exact ⟨h q hq,.inl hq⟩
     | true =>
      rw [c3,ac] at hq
      rcases List.mem_append.1 hq with w | w
      · exact ⟨h q w,.inl w⟩
      · rw [List.mem_singleton.1 w]
        simp only [Bool.or_eq_true,beq_iff_eq] at c3
        exact ⟨c3,.inr rfl⟩
  obtain ⟨g1,g2⟩:=u_ l (eA b acc x) (fun q hq=>(hs q hq).1) p hp
  refine ⟨g1,?_⟩
  rcases g2 with w | w
  · rcases (hs p w).2 with v | v
    · exact .inl v
    · rw [v];exact .inr jd
  · exact .inr (lL _ w)
theorem uB:∀ (l:aW) (acc:aW),(∀ p ∈ acc,p.2.2.2.1.1=4)→∀ p ∈ l.foldl fD acc,p.2.2.2.1.1=4∧(p ∈ acc∨p ∈ l)
 | [],acc,h,p,hp=>⟨h p hp,.inl hp⟩
 | x::l,acc,h,p,hp=>by
  rw [List.foldl_cons] at hp
  have hs:∀ q ∈ fD acc x,q.2.2.2.1.1=4∧(q ∈ acc∨q=x):=fun q hq=>by
   unfold fD at hq
   cases c2:x.2.2.2.1.1==5 with
   | true=>rw [c2] at hq;cases hq
   | false =>
    rw [c2,aK] at hq
    cases c3:x.2.2.2.1.1==4 with
    | false=>rw [c3] at hq;exact ⟨h q hq,.inl hq⟩
    | true =>
     rw [c3,ac] at hq
     rcases List.mem_append.1 hq with w | w
     · exact ⟨h q w,.inl w⟩
     · rw [List.mem_singleton.1 w]
       exact ⟨Hi c3,.inr rfl⟩
  obtain ⟨g1,g2⟩:=uB l (fD acc x) (fun q hq=>(hs q hq).1) p hp
  refine ⟨g1,?_⟩
  rcases g2 with w | w
  · rcases (hs p w).2 with v | v
    · exact .inl v
    · rw [v];exact .inr jd
  · exact .inr (lL _ w)
def EP (pl:aW) (d:aR):Prop:=∀ e ∈ d,∃ p ∈ pl,e=eP p∧(p.2.2.2.1.1=1∨p.2.2.2.1.1=4)
theorem wR {pl:aW}:∀ (own:aW) {d:aR},EP pl d→(∀ p ∈ own,p ∈ pl∧(p.2.2.2.1.1=1∨p.2.2.2.1.1=2∨p.2.2.2.1.1=4))→EP pl (bN d own)
 | [],d,h,_=>h
 | p::own,d,h,ho=>by
  refine wR own (d:=fJ d p) (fun e he=>?_) fun q hq=>ho q (lL _ hq)
  obtain ⟨k1,k2⟩:=ho p jd
  unfold fJ at he
  cases c:p.2.2.2.1.1==2 with
  | true=>rw [c,ac] at he;exact h e (List.mem_filter.1 he).1
  | false =>
   rw [c,aK] at he
   unfold qA at he
   rcases EU he with w | w
   · refine ⟨p,k1,w,?_⟩
     rcases k2 with q | q | q
     · exact .inl q
     · rw [q] at c;cases c
     · exact .inr q
   · exact h e (List.mem_filter.1 w).1
theorem GZ (all:aW):∀ (r pre:aW) (s:Gn),(∀ p ∈ pre,p ∈ all)→(∀ p ∈ r,p ∈ all)→EP all s.1→cW (iP s.1)→s.1.length≤20→(gr pre r s).2.2=0→EP all (gr pre r s).1∧cW (iP (gr pre r s).1)∧(gr pre r s).1.length≤20
 | [],pre,s,_,_,h1,h2,h3,_=>⟨h1,h2,h3⟩
 | p::r,pre,s,hp,hr,h1,h2,h3,z=>by
  by_cases c:s.2.2=0
  · have e:gr pre (p::r) s=gr (pre++[p]) r (iC pre p s):=by
     show (bif s.2.2 != 0 then _ else _)=_
     rw [c];rfl
    rw [e] at z ⊢
    have z0:(iC pre p s).2.2=0:=by
     by_cases w:(iC pre p s).2.2=0
     · exact w
     · rw [zJ w] at z
       exact absurd z w
    have hs:EP all (iC pre p s).1∧cW (iP (iC pre p s).1)∧(iC pre p s).1.length≤20:=by
     have hc:∀ {x:aR},kL x s.2.2=0→x.length≤20:=fun {x} q=>by
      unfold kL at q
      split at q
      · cases q
      · omega
     unfold iC at z0 ⊢
     cases c3:p.2.2.2.1.1==3 with
     | true =>
      rw [c3] at z0
      simp only [ac] at z0 ⊢
      cases c4:gV p.2.2.2.1 (eF p.2.2.2.1.2.1 pre) with
      | true =>
       rw [c4] at z0
       exact ⟨wR _ h1 fun q hq=>by
        obtain ⟨g1,g2⟩:=u_ pre [] (fun _ w=>by cases w) q hq
        refine ⟨hp q (g2.resolve_left fun w=>by cases w),?_⟩
        rcases g1 with w | w
        · exact .inl w
        · exact .inr (.inl w),p9 _ h2,hc z0⟩
      | false=>exact ⟨h1,h2,h3⟩
     | false =>
      rw [c3] at z0
      simp only [aK] at z0 ⊢
      cases c5:p.2.2.2.1.1==5 with
      | true =>
       rw [c5] at z0
       simp only [ac] at z0 ⊢
       cases c4:gV p.2.2.2.1 (bM pre) with
       | true =>
        rw [c4] at z0
        exact ⟨wR _ h1 fun q hq=>by
         obtain ⟨g1,g2⟩:=uB pre [] (fun _ w=>by cases w) q hq
         exact ⟨hp q (g2.resolve_left fun w=>by cases w),.inr (.inr g1)⟩,p9 _ h2,hc z0⟩
       | false=>exact ⟨h1,h2,h3⟩
      | false=>exact ⟨h1,h2,h3⟩
    exact GZ all r (pre++[p]) (iC pre p s) (fun q hq=>by
     rcases List.mem_append.1 hq with w | w
     · exact hp q w
     · rw [List.mem_singleton.1 w];exact hr p jd) (fun q hq=>hr q (lL _ hq)) hs.1 hs.2.1 hs.2.2 z
  · rw [zJ c] at z
    exact absurd z c
theorem Js (a b:Int):a≤mQ a b∧b≤mQ a b:=by unfold mQ;split <;> omega
theorem FH (pre:aW) (p:Ty.d aC) (s:Gn):(iC pre p s).2.1=mQ p.2.2.2.1.2.1 s.2.1:=by
 unfold iC
 cases p.2.2.2.1.1==3
 · cases p.2.2.2.1.1==5
   · rfl
   · cases gV p.2.2.2.1 (bM pre) <;> rfl
 · cases gV p.2.2.2.1 (eF p.2.2.2.1.2.1 pre) <;> rfl
theorem zt:∀ (r pre:aW) (s:Gn),(gr pre r s).2.2=0→s.2.1≤(gr pre r s).2.1∧(∀ p ∈ r,LE.le (α:=Int) p.2.2.2.1.2.1 (gr pre r s).2.1)∧∀ b:Int,s.2.1≤b→(∀ p ∈ r,LE.le (α:=Int) p.2.2.2.1.2.1 b)→(gr pre r s).2.1≤b
 | [],pre,s,_=>⟨Int.le_refl _,fun p hp=>(by cases hp),fun b h _=>h⟩
 | p::r,pre,s,z=>by
  by_cases c:s.2.2=0
  · have e:gr pre (p::r) s=gr (pre++[p]) r (iC pre p s):=by
     show (bif s.2.2 != 0 then _ else _)=_
     rw [c];rfl
    rw [e] at z ⊢
    obtain ⟨i1,i2,i3⟩:=zt r (pre++[p]) (iC pre p s) z
    rw [FH] at i1 i3
    have hm:=Js p.2.2.2.1.2.1 s.2.1
    refine ⟨by omega,fun q hq=>?_,fun b h0 hb=>i3 b ?_ fun q hq=>hb q (lL _ hq)⟩
    · rcases List.mem_cons.1 hq with w | w
      · rw [w];exact Int.le_trans hm.1 i1
      · exact i2 q w
    · have:=hb p jd
      unfold mQ
      split
      · exact this
      · exact h0
  · rw [zJ c] at z
    exact absurd z c
structure JT (pl:aW) (dir:aR) (b:Int):Prop where
 gr:∃ la,gr [] pl ([],0,0)=(dir,la,0)
 mark:bM pl=[]
 bat:∀ p ∈ pl,LT.lt (α:=Int) p.2.2.2.1.2.1 b
 lo:LE.le (α:=Int) 1 b
 hi:LE.le (α:=Int) b 1000001
def MI (st:Ty.d aE) (d:Ty.d aA):Prop:=∃ L,TX st d L∧JT (jc L) st.2.1 st.2.2.1
theorem IA {r:Ty.d b7} (h:bm r=true) (hk:r.1=1∨r.1=4):ku r.2.2.1=true∧decide ((1:Int)≤r.2.1∧r.2.1≤1000000)=true:=by
 have hb:(r.1==1||r.1==4)=true:=by rcases hk with q | q <;> rw [q] <;> rfl
 unfold bm at h
 rw [hb,ac] at h
 simp only [gN] at h
 exact ⟨h.1,h.2.2.2.2⟩
theorem MI.store {st:Ty.d aE} {d:Ty.d aA} (h:MI st d):d9 st d=true∧EI st:=by
 obtain ⟨L,t,j⟩:=h
 obtain ⟨la,hg⟩:=j.gr
 obtain ⟨n1,n2,n3,_⟩:=iE (n:=st.1.1) (ids:=st.1.2.1) t.live
 obtain ⟨_,_,g1,_,_⟩:=bQ (nx:=st.1.1) (ids:=st.1.2.1) t.live
 obtain ⟨e1,e2,e3⟩:=GZ (jc L) (jc L) [] ([],0,0) (fun p hp=>by cases hp) (fun p hp=>hp) (fun e he=>by cases he) List.Pairwise.nil (by decide) (by rw [hg])
 rw [hg] at e1 e2 e3
 have e1:EP (jc L) st.2.1:=e1
 have e2:cW (iP st.2.1):=e2
 have e3:st.2.1.length≤20:=e3
 have hb:=t.bt
 refine ⟨?_,fun e he=>?_⟩
 · unfold d9
   rw [jQ.2 t.disk,t.live,sP.2 ⟨e3,fun e he=>?_,e2⟩,aO ⟨j.lo,j.hi⟩,(sa t.disk).2 ⟨hb.full,fun _=>hb.tail⟩]
   · simp only [Bool.true_and]
     rw [List.all_eq_true]
     intro e he
     obtain ⟨p,hp,q,hk⟩:=e1 e he
     have pi:=tA t hp
     unfold ly
     rw [q,pi.read]
     have hbt:=j.bat p hp
     show (true&&(seq (fW p).2.2.1 (fW p).2.2.1&&(((fW p).2.1==(fW p).2.1)&&((((fW p).1==1)||((fW p).1==4))&&!decide ((fW p).2.1≥st.2.2.1)))))=true
     rw [bV,beq_self_eq_true,aP (show ¬ (fW p).2.1≥st.2.2.1 from Int.not_le.2 hbt)]
     rcases hk with w | w
     · rw [show (fW p).1=1 from w];rfl
     · rw [show (fW p).1=4 from w];rfl
   · obtain ⟨p,hp,q,hk⟩:=e1 e he
     have pi:=tA t hp
     obtain ⟨k1,k2⟩:=IA pi.ok hk
     rw [q]
     unfold JB
     show (ku (fW p).2.2.1&&(decide ((1:Int)≤p.1∧p.1≤100000)&&(!decide (p.2.1<(0:Int))&&(decide ((1:Int)≤p.2.2.1∧p.2.2.1≤210)&&decide ((1:Int)≤(fW p).2.1∧(fW p).2.1≤1000000)))))=true
     rw [k1,k2,aO ⟨pi.lo,BV pi.hi n2⟩,aP (Int.not_lt.2 pi.at0),aO ⟨pi.len0,pi.len1⟩]
     rfl
 · obtain ⟨p,hp,q,_⟩:=e1 e he
   have pi:=tA t hp
   rw [q]
   exact ⟨pi.lo,pi.hi⟩
theorem vD {ids:List Int} {L:q7} (h:ids=L.map (·.1)) (h1:1≤ids.length):∃ L0 x,L=L0++[x]∧aZ ids=x.1:=by
 rcases List.eq_nil_or_concat L with e | ⟨L0,x,e⟩
 · rw [h,e] at h1
   cases h1
 · rw [List.concat_eq_append] at e
   refine ⟨L0,x,e,?_⟩
   rw [h,e,List.map_append,List.map_singleton,rl]
theorem Au (x:Int) (rs:j2) (r:Ty.d b7):uq (x,rs++[r])=uq (x,rs)++[(x,(((aX rs).size:Int),(aw r,(r,()))))]:=by
 unfold uq b8
 show List.map _ (fF (rs++[r]) 0)=List.map _ (fF rs 0)++_
 rw [yS,List.map_append,Int.zero_add]
 rfl
theorem vw (L:q7) (x:Int × j2):jc (L++[x])=jc L++uq x:=by
 rw [Dn]
 show jc L++(uq x++[])=_
 rw [List.append_nil]
theorem HC {st:Ty.d aE} {d:Ty.d aA} {L:q7} (h:TX st d L) {r:Ty.d b7} (hr:bm r=true) :
 ∃ L',TX (jN st d r).1.1 (jN st d r).1.2.1 L'∧jc L'=jc L++(bif (jN st d r).1.2.2==0 then [(jN st d r).2] else [])∧((jN st d r).1.2.2=0→fW (jN st d r).2=r):=by
 obtain ⟨n1,n2,n3,n4⟩:=iE (n:=st.1.1) (ids:=st.1.2.1) h.live
 obtain ⟨_,_,g1,_,_⟩:=bQ (nx:=st.1.1) (ids:=st.1.2.1) h.live
 obtain ⟨L0,x,eL,el⟩:=vD h.ids g1
 have ha:=oc h.disk (cj st) (aQ (aG r))
 have ko:∀ s,cj st≠s→fT (iD d (cj st) (aQ (aG r))).1 s=fT d s:=fun s q=>wP q
 have kl:=sF (d:=d) (s:=cj st) (x:=aQ (aG r))
 have hact:cj st=a_ aF x.1:=by unfold cj;rw [el]
 unfold jN
 generalize iD d (cj st) (aQ (aG r))=a at ha ko kl ⊢
 cases c:a.2 != 0 with
 | true =>
  have c0:(a.2==0)=false:=by unfold bne at c;simpa using c
  rw [c0,aK] at kl
  have all:∀ s,fT a.1 s=fT d s:=fun s=>by
   by_cases q:cj st=s
   · rw [← q];exact kl
   · exact ko s q
  have ht:((tl a).2==0)=false:=by
   have:=wI a
   rw [c] at this
   unfold bne at this
   simpa using this
  refine ⟨L,⟨h.live,ha,h.ids,fun y hy=>⟨(all _).trans (h.text y hy).1,(h.text y hy).2⟩,fun t q=>h.tail t ((all _).symm.trans q)⟩,?_,fun q=>?_⟩
  · show jc L=jc L++(bif (tl a).2==0 then _ else [])
    rw [ht,aK,List.append_nil]
  · have q:(tl a).2=0:=q
    rw [q] at ht
    cases ht
 | false =>
  have c0:(a.2==0)=true:=beq_iff_eq.2 (gu c)
  have hx:x ∈ L:=by rw [eL];exact List.mem_append_right _ jd
  obtain ⟨x1,x2⟩:=h.text x hx
  rw [c0,ac,hact,x1] at kl
  have kl:fT a.1 (a_ aF x.1)=some (aX x.2++aQ (aG r)):=kl
  have e2:aX (x.2++[r])=aX x.2++aQ (aG r):=by rw [nP,vR]
  have hsz:st.2.2.2.1=((aX x.2).size:Int):=h.tail _ (by rw [hact];exact x1)
  have hm:x.1 ∈ st.1.2.1:=by rw [h.ids];exact List.mem_map.2 ⟨x,hx,rfl⟩
  simp only [aK]
  refine ⟨L0++[(x.1,x.2++[r])],⟨h.live,ha,?_,fun y hy=>?_,fun t q=>?_⟩,?_,fun _=>rfl⟩
  · show st.1.2.1=_
    rw [h.ids,eL,List.map_append,List.map_append]
    rfl
  · rcases List.mem_append.1 hy with w | w
    · have hyL:y ∈ L:=by rw [eL];exact List.mem_append_left _ w
      have hym:y.1 ∈ st.1.2.1:=by rw [h.ids];exact List.mem_map.2 ⟨y,hyL,rfl⟩
      have hne:y.1≠x.1:=by
       have hp:=n4
       rw [h.ids,eL,List.map_append] at hp
       have:=(List.pairwise_append.1 hp).2.2 y.1 (List.mem_map.2 ⟨y,w,rfl⟩) x.1 jd
       omega
      refine ⟨?_,(h.text y hyL).2⟩
      show fT a.1 (a_ aF y.1)=_
      rw [ko _ (by rw [hact];exact mn ⟨(n3 _ hm).1,BV (n3 _ hm).2 n2⟩ ⟨(n3 _ hym).1,BV (n3 _ hym).2 n2⟩ fun q=>hne q.symm)]
      exact (h.text y hyL).1
    · rw [List.mem_singleton.1 w]
      refine ⟨by show fT a.1 (a_ aF x.1)=some (aX (x.2++[r]));rw [kl,e2],fun q hq=>?_⟩
      rcases List.mem_append.1 hq with v | v
      · exact x2 q v
      · rw [List.mem_singleton.1 v];exact hr
  · have q:fT a.1 (cj st)=some t:=q
    rw [hact,kl] at q
    rw [← Option.some.inj q,ByteArray.size_append]
    show @Eq Int (st.2.2.2.1+aw r) (((aX x.2).size+(aQ (aG r)).size:Nat):Int)
    rw [hsz]
    unfold aw
    omega
  · show jc (L0++[(x.1,x.2++[r])])=jc L++[(aZ st.1.2.1,(st.2.2.2.1,(aw r,(r,()))))]
    rw [vw,Au,eL,vw,nn,el,hsz]
theorem K5 {st:Ty.d aE} {d:Ty.d aA} {L:q7} (h:TX st d L):∃ L',TX (jb st d).1 (jb st d).2.1 L'∧jc L'=jc L:=by
 obtain ⟨n1,n2,n3,n4⟩:=iE (n:=st.1.1) (ids:=st.1.2.1) h.live
 obtain ⟨f1,f2,_,_⟩:=qg h.live h.disk
 have hseg:∀ x:Int,x ∈ st.1.2.1→1≤x∧x≤100000:=fun x hx=>⟨(n3 x hx).1,BV (n3 x hx).2 n2⟩
 have hnew:∀ x ∈ st.1.2.1,a_ aF st.1.1≠a_ aF x:=fun x hx=>mn ⟨n1,n2⟩ (hseg x hx) (by have:=(n3 x hx).2;omega)
 have k1:∀ x ∈ st.1.2.1,fT (fm d (cj st)).1 (a_ aF x)=fT d (a_ aF x):=fun x hx=>kw
 have k2:∀ x ∈ st.1.2.1,fT (bO (a_ aF st.1.1) (fm d (cj st)).1).1 (a_ aF x)=fT d (a_ aF x):=fun x hx=>(l9 (hnew x hx)).trans kw
 have k3:∀ x ∈ st.1.2.1,fT (bf (kK st) (bO (a_ aF st.1.1) (fm d (cj st)).1).1).1 (a_ aF x)=fT d (a_ aF x):=fun x hx=>(gg (gT (hseg x hx)) (iS (hseg x hx))).trans (k2 x hx)
 have o2:=lP (s:=a_ aF st.1.1) (d:=(fm d (cj st)).1)
 have o3:fT (bf (kK st) (bO (a_ aF st.1.1) (fm d (cj st)).1).1).1 (a_ aF st.1.1)=fT (bO (a_ aF st.1.1) (fm d (cj st)).1).1 (a_ aF st.1.1):=gg (gT ⟨n1,n2⟩) (iS ⟨n1,n2⟩)
 obtain ⟨_,_,g1,_,_⟩:=bQ (nx:=st.1.1) (ids:=st.1.2.1) h.live
 obtain ⟨L0,x,eL,el⟩:=vD h.ids g1
 have hmem:∀ y ∈ L,y.1 ∈ st.1.2.1:=fun y hy=>by rw [h.ids];exact List.mem_map.2 ⟨y,hy,rfl⟩
 have hx:x ∈ L:=by rw [eL];exact List.mem_append_right _ jd
 have same:∀ (st':Ty.d aE) (y:Ty.d aA),cS st'.1=true→DR y→st'.1.2.1=st.1.2.1→st'.2.2.2.1=st.2.2.2.1→(∀ x ∈ st.1.2.1,fT y (a_ aF x)=fT d (a_ aF x))→∃ L',TX st' y L'∧jc L'=jc L:=fun st' y hl hd hi hs hk =>
  ⟨L,⟨hl,hd,hi.trans h.ids,fun z hz=>⟨(hk _ (hmem z hz)).trans (h.text z hz).1,(h.text z hz).2⟩,fun t q=>by
   rw [hs]
   refine h.tail t ?_
   have e:cj st'=a_ aF x.1:=by unfold cj;rw [hi,el]
   have e':cj st=a_ aF x.1:=by unfold cj;rw [el]
   rw [e,hk _ (hmem x hx)] at q
   rw [e']
   exact q⟩,rfl⟩
 unfold jb at f1 f2 ⊢
 by_cases c1:(st.1.2.1.length:Int)≥60
 · rw [aO c1]
   exact ⟨L,h,rfl⟩
 by_cases c2:st.1.1≥(100000:Int)
 · rw [aP c1,aO c2]
   exact ⟨L,h,rfl⟩
 rw [aP c1,aP c2] at f1 f2 ⊢
 simp only [aK] at f1 f2 ⊢
 generalize fm d (cj st)=r1 at k1 k2 k3 o2 o3 f1 f2 ⊢
 generalize bO (a_ aF st.1.1) r1.1=r2 at k2 k3 o2 o3 f1 f2 ⊢
 generalize bf (kK st) r2.1=r3 at k3 o3 f1 f2 ⊢
 cases e1:r1.2 != 0 with
 | true=>rw [e1] at f1 f2;exact same _ _ f1 f2 rfl rfl k1
 | false =>
  rw [e1] at f1 f2
  simp only [aK] at f1 f2 ⊢
  cases e2:r2.2 != 0 with
  | true=>rw [e2] at f1 f2;exact same _ _ f1 f2 rfl rfl k2
  | false =>
   rw [e2] at f1 f2
   simp only [aK] at f1 f2 ⊢
   cases e3:r3.2 != 0 with
   | true =>
    rw [e3] at f1 f2
    refine same _ _ f1 f2 rfl rfl fun y hy=>?_
    show fT (np (a_ aF st.1.1) (tl r3)).1 _=_
    unfold np
    cases (tl r3).2==2 with
    | false=>exact k3 y hy
    | true =>
     refine (mH [iL,a_ aF st.1.1] r3.1 fun s hs=>?_).trans (k3 y hy)
     rcases List.mem_cons.1 hs with e | e
     · rw [e];exact gT (hseg y hy)
     · rw [List.mem_singleton.1 e];exact hnew y hy
   | false =>
    rw [e3] at f1 f2
    have o2:=o2 (gu e2)
    refine ⟨L++[(st.1.1,[])],⟨f1,f2,?_,fun y hy=>?_,fun u hu=>?_⟩,?_⟩
    · show st.1.2.1++[st.1.1]=_
      rw [List.map_append,← h.ids]
      rfl
    · rcases List.mem_append.1 hy with w | w
      · exact ⟨(k3 _ (hmem y w)).trans (h.text y w).1,(h.text y w).2⟩
      · rw [List.mem_singleton.1 w]
        exact ⟨o3.trans o2,fun q hq=>by cases hq⟩
    · have hu:fT r3.1 (a_ aF (aZ (st.1.2.1++[st.1.1])))=some u:=hu
      rw [rl,o3,o2] at hu
      rw [← Option.some.inj hu]
      rfl
    · rw [vw]
      exact List.append_nil _
theorem Jo {st:Ty.d aE} {d:Ty.d aA} {L:q7} (h:TX st d L) {r:Ty.d b7} (hr:bm r=true) :
 ∃ L',TX (fb st d r).1.1 (fb st d r).1.2.1 L'∧jc L'=jc L++(bif (fb st d r).1.2.2==0 then [(fb st d r).2] else [])∧((fb st d r).1.2.2=0→fW (fb st d r).2=r):=by
 unfold fb
 cases decide (st.2.2.2.1 > 0)&&decide (st.2.2.2.1+aw r > 200) with
 | false=>exact HC h hr
 | true =>
  simp only [ac]
  obtain ⟨L1,t1,e1⟩:=K5 h
  generalize jb st d=q at t1 ⊢
  cases c:q.2.2 != 0 with
  | true =>
   have c0:(q.2.2==0)=false:=by unfold bne at c;simpa using c
   refine ⟨L1,t1,?_,fun z=>?_⟩
   · show jc L1=jc L++(bif q.2.2==0 then _ else [])
     rw [c0,aK,List.append_nil,e1]
   · have z:q.2.2=0:=z
     rw [z] at c0
     cases c0
  | false =>
   simp only [aK]
   obtain ⟨L2,t2,e2,e3⟩:=HC t1 hr
   exact ⟨L2,t2,by rw [e2,e1],e3⟩
theorem EQ:∀ (l:j2) (st:Ty.d aE) (d:Ty.d aA) (ps:aW) (L:q7),TX st d L→(∀ r ∈ l,bm r=true) →
 ∃ L' q,TX (eW l st d ps).1.1 (eW l st d ps).1.2.1 L'∧jc L'=jc L++q∧q.map fW=l.take q.length∧((eW l st d ps).1.2.2=0→(eW l st d ps).2=ps++q∧q.length=l.length)∧((eW l st d ps).1.2.2≠0→q.length<l.length)
 | [],st,d,ps,L,h,_=>⟨L,[],h,(List.append_nil _).symm,rfl,fun _=>⟨(List.append_nil _).symm,rfl⟩,fun z=>absurd rfl z⟩
 | r::l,st,d,ps,L,h,hr=>by
  obtain ⟨L1,t1,e1,e2⟩:=Jo h (hr r jd)
  unfold eW
  generalize fb st d r=a at t1 e1 e2 ⊢
  cases c:a.1.2.2 != 0 with
  | true =>
   have c0:(a.1.2.2==0)=false:=by unfold bne at c;simpa using c
   rw [c0,aK] at e1
   refine ⟨L1,[],t1,e1,rfl,fun z=>?_,fun _=>Nat.zero_lt_succ _⟩
   have z:a.1.2.2=0:=z
   rw [z] at c0
   cases c0
  | false =>
   have c0:=gu c
   rw [show (a.1.2.2==0)=true from beq_iff_eq.2 c0,ac] at e1
   obtain ⟨L2,q,t2,f1,f2,f3,f4⟩:=EQ l a.1.1 a.1.2.1 (ps++[a.2]) L1 t1 fun x hx=>hr x (lL _ hx)
   simp only [aK]
   refine ⟨L2,a.2::q,t2,by rw [f1,e1,nn];rfl,?_,fun z=>?_,fun z=>?_⟩
   · rw [List.map_cons,kJ,List.take_succ_cons,f2,e2 c0]
   · obtain ⟨g1,g2⟩:=f3 z
     exact ⟨by rw [g1,nn];rfl,by rw [kJ,kJ,g2]⟩
   · have:=f4 z
     rw [kJ,kJ]
     omega
structure DS (d:Ty.d aA):Prop where
 l:d.1.length≤131
 u:e6 d.1≤200000
 n:pA d.1≤10000
theorem DS.sz {d:Ty.d aA} (h:DS d):zE d:=⟨by have:=h.l;omega,by have:=h.u;omega,by have:=h.n;omega⟩
inductive CE (st:Ty.d aE) (d:Ty.d aA) (l:lD):Prop
 | no (c:Int) (hc:c=4∨c=5) (e:fp st d l=(st,(d,c)))
 | none (hs:d9 st d=true) (hl:l.length=0) (e:fp st d l=(st,(d,0)))
 | done (hs:d9 st d=true) (hp:jz l=true) (hl:l.length≠0) (ha:lh st.2.1 l≤20) (hb:LE.le (α:=Int) st.2.2.1 1000000) (e:fp st d l=gD st d l)
theorem Ci (st:Ty.d aE) (d:Ty.d aA) (l:lD):CE st d l:=by
 cases c1:d9 st d with
 | false=>exact .no 4 (.inl rfl) (by unfold fp;rw [c1];rfl)
 | true =>
  cases c2:jz l with
  | false=>exact .no 4 (.inl rfl) (by unfold fp;rw [c1,c2];rfl)
  | true =>
   by_cases c3:l.length=0
   · exact .none c1 c3 (by unfold fp;rw [c1,c2,c3];rfl)
   · have c3':((l.length:Int)==0)=false:=mC (by omega)
     by_cases c4:lh st.2.1 l > 20
     · exact .no 5 (.inr rfl) (by unfold fp;rw [c1,c2,c3',aO c4];rfl)
     · by_cases c5:st.2.2.1 > (1000000:Int)
       · exact .no 5 (.inr rfl) (by unfold fp;rw [c1,c2,c3',aP c4,aO c5];rfl)
       · exact .done c1 c2 c3 (by omega) (Int.not_lt.1 c5) (by unfold fp;rw [c1,c2,c3',aP c4,aP c5];rfl)
theorem F8 (st:Ty.d aE) (d:Ty.d aA):(jb st d).1.2.2.1=st.2.2.1:=by
 unfold jb
 cases decide ((st.1.2.1.length:Int)≥60) with
 | true=>rfl
 | false =>
  cases decide (st.1.1≥(100000:Int)) with
  | true=>rfl
  | false =>
   simp only [aK]
   generalize fm d (cj st)=r1
   generalize bO (a_ aF st.1.1) r1.1=r2
   generalize bf (kK st) r2.1=r3
   cases r1.2 != 0 with
   | true=>rfl
   | false =>
    cases r2.2 != 0 with
    | true=>rfl
    | false =>
     cases r3.2 != 0 with
     | true=>rfl
     | false=>rfl
theorem yM (st:Ty.d aE) (d:Ty.d aA) (r:Ty.d b7):(jN st d r).1.1.2.2.1=st.2.2.1:=by
 unfold jN
 generalize iD d (cj st) (aQ (aG r))=a
 cases a.2 != 0 <;> rfl
theorem G0 (st:Ty.d aE) (d:Ty.d aA) (r:Ty.d b7):(fb st d r).1.1.2.2.1=st.2.2.1:=by
 have h:=F8 st d
 unfold fb
 cases decide (st.2.2.2.1 > 0)&&decide (st.2.2.2.1+aw r > 200) with
 | false=>exact yM st d r
 | true =>
  simp only [ac]
  generalize jb st d=q at h ⊢
  cases q.2.2 != 0 with
  | true=>exact h
  | false=>exact (yM q.1 q.2.1 r).trans h
theorem vK:∀ (l:j2) (st:Ty.d aE) (d:Ty.d aA) (ps:aW),(eW l st d ps).1.1.2.2.1=st.2.2.1
 | [],_,_,_=>rfl
 | r::l,st,d,ps=>by
  have h:=G0 st d r
  unfold eW
  generalize fb st d r=q at h ⊢
  cases q.1.2.2 != 0 with
  | true=>exact h
  | false=>exact (vK l _ _ _).trans h
theorem GG (l:lD) (b:Int):(iT l b).length=l.length+1:=by
 unfold iT
 rw [uH,List.length_map]
 rfl
def dn (d:Ty.d aA):Bool:=d.2.2.2.1
theorem Gm {d:Ty.d aA} {n t:ByteArray} (hd:DR d) (ht:fT d n=some t) (z:(fm d n).2≠0):dn (fm d n).1=true:=by
 have hn:(bh d.1 n).isNone=false:=by
  cases q:bh d.1 n with
  | none=>rw [IW.1 q] at ht;cases ht
  | some f=>rfl
 unfold fm ik at z ⊢
 have hb:(jF d).2≠0→dn (jF d).1=true:=fun q=>by
  unfold jF at q ⊢
  rw [jQ.2 hd] at q ⊢
  simp only [fh,aK] at q ⊢
  cases c1:d.2.2.2.1 with
  | true=>rfl
  | false =>
   rw [c1] at q
   simp only [aK] at q ⊢
   cases c2:(d.2.2.1==0) with
   | true=>rfl
   | false =>
    rw [c2] at q
    simp only [aK] at q
    cases c3:decide ((d.2.2.1:Int) > 0) with
    | true=>rw [c3] at q;exact absurd rfl q
    | false=>rw [c3] at q;exact absurd rfl q
 cases c:(jF d).2 != 0 with
 | true =>
  rw [ac]
  exact hb (bne_iff_ne.1 c)
 | false =>
  rw [c,aK] at z
  exfalso
  unfold uf at z
  rw [hn] at z
  exact z rfl
theorem HE {st:Ty.d aE} {d:Ty.d aA} {L:q7} (h:TX st d L):∃ t,fT d (cj st)=some t:=by
 obtain ⟨_,_,g1,_,_⟩:=bQ (nx:=st.1.1) (ids:=st.1.2.1) h.live
 obtain ⟨L0,x,eL,el⟩:=vD h.ids g1
 exact ⟨_,by unfold cj;rw [el];exact (h.text x (by rw [eL];exact List.mem_append_right _ jd)).1⟩
theorem ta (b:Int) (x:Ty.d dI):((fg b x).1=1∨(fg b x).1=2)∧(fg b x).2.1=b:=by
 unfold fg
 cases x.2.1 with
 | true=>exact ⟨.inr rfl,rfl⟩
 | false=>exact ⟨.inl rfl,rfl⟩
theorem rO {q:aW} {l:lD} {b:Int} {n:Nat} (h:q.map fW=(l.map (fg b)).take n):∀ p ∈ q,plain p∧p.2.2.2.1.2.1=b:=fun p hp=>by
 have hm:fW p ∈ (l.map (fg b)).take n:=by rw [← h];exact List.mem_map.2 ⟨p,hp,rfl⟩
 obtain ⟨x,_,e⟩:=List.mem_map.1 (List.mem_of_mem_take hm)
 obtain ⟨h1,h2⟩:=ta b x
 rw [e] at h1 h2
 exact ⟨h1,h2⟩
theorem Fl {pre own:aW} {s:Ty.d aC} {l:lD} {b:Int} {dir:aR} {la:Int} (hp:∀ p ∈ pre,p.2.2.2.1.2.1≠b) (ho:own.map fW=l.map (fg b)) (hs:fW s=fI 3 b (l.map (fg b))) (h20:(bN dir own).length≤20) :
 ∃ la',iC (pre++own) s (dir,la,0)=(bN dir own,la',0):=by
 have hown:∀ p ∈ own,plain p∧p.2.2.2.1.2.1=b:=rO (n:=(l.map (fg b)).length) (by rw [List.take_length];exact ho)
 have hk:s.2.2.2.1=fI 3 b (l.map (fg b)):=hs
 have e:eF b (pre++own)=own:=by
  rw [uM]
  show own.foldl (eA b) (pre.foldl (eA b) [])=_
  rw [wZ pre [] hp,BR own [] hown,List.nil_append]
 have hf:gV (fI 3 b (l.map (fg b))) own=true:=by
  unfold gV fI
  have:own.map qu=l.map (fg b):=ho
  rw [this,beq_self_eq_true,← ho,List.length_map,beq_self_eq_true]
  rfl
 refine ⟨mQ b la,?_⟩
 unfold iC
 rw [hk]
 show (bif (3:Int)==3 then (bif gV (fI 3 b (l.map (fg b))) (eF b (pre++own)) then (bN dir (eF b (pre++own)),mQ b la,kL (bN dir (eF b (pre++own))) 0) else _) else _)=_
 rw [e,hf]
 show (bN dir own,mQ b la,kL (bN dir own) 0)=_
 unfold kL
 rw [if_neg (by omega)]
theorem Gt {st:Ty.d aE} {d:Ty.d aA} {l:lD} (h:MI st d) (hp:jz l=true) (hb:LE.le (α:=Int) st.2.2.1 1000000) (ha:lh st.2.1 l≤20) (hn:dn (gD st d l).2.1=false):MI (gD st d l).1 (gD st d l).2.1:=by
 obtain ⟨hs,he⟩:=h.store
 have hw:=Bi hs he hp hb ha
 obtain ⟨L,t,j⟩:=h
 obtain ⟨la,hg⟩:=j.gr
 have t0:TX (pG st) d L:=⟨t.live,t.disk,t.ids,t.text,t.tail⟩
 obtain ⟨L',q,t1,e1,e2,e3,e4⟩:=EQ (iT l st.2.2.1) (pG st) d [] L t0 (Dy hp j.lo hb)
 have hdir:(eW (iT l st.2.2.1) (pG st) d []).1.1.2.1=st.2.1:=by
  obtain ⟨g1,_,_⟩:=eS hs
  exact (oX (iT l st.2.2.1) (pG st) d [] 100000 ⟨g1.live,g1.disk,g1.lo,g1.hi⟩ (by decide)).2.1
 have hbat:(eW (iT l st.2.2.1) (pG st) d []).1.1.2.2.1=(st.2.2.1+1:Int):=vK _ _ _ _
 have hlen:=GG l st.2.2.1
 obtain ⟨b1,b2⟩:=Kd j.lo hb
 have hbq:∀ p ∈ q,p.2.2.2.1.2.1=st.2.2.1:=fun p hp=>by
  have hm:fW p ∈ iT l st.2.2.1:=List.mem_of_mem_take (by rw [← e2];exact List.mem_map.2 ⟨p,hp,rfl⟩)
  unfold iT at hm
  rcases List.mem_append.1 hm with w | w
  · obtain ⟨x,_,e⟩:=List.mem_map.1 w
    have:=(ta st.2.2.1 x).2
    rw [e] at this
    exact this
  · have:=List.mem_singleton.1 w
    show (fW p).2.1=_
    rw [this]
    rfl
 have hbat2:∀ p ∈ jc L',LT.lt (α:=Int) p.2.2.2.1.2.1 (st.2.2.1+1):=fun p hp=>by
  rw [e1] at hp
  rcases List.mem_append.1 hp with w | w
  · exact Int.lt_trans (j.bat p w) (Int.lt_succ _)
  · rw [hbq p w];exact Int.lt_succ _
 have hmark:∀ q':aW,(∀ p ∈ q',p ∈ q)→bM (jc L++q')=[]:=fun q' hq=>by
  rw [mB,j.mark]
  refine w6 q' [] fun p hp=>?_
  have hm:fW p ∈ iT l st.2.2.1:=List.mem_of_mem_take (by rw [← e2];exact List.mem_map.2 ⟨p,hq p hp,rfl⟩)
  unfold iT at hm
  rcases List.mem_append.1 hm with w | w
  · obtain ⟨x,_,e⟩:=List.mem_map.1 w
    have:=(ta st.2.2.1 x).1
    rw [e] at this
    have this:p.2.2.2.1.1=1∨p.2.2.2.1.1=2:=this
    rcases this with v | v <;> rw [v] <;> exact ⟨by decide,by decide⟩
  · have:=List.mem_singleton.1 w
    have e:p.2.2.2.1.1=3:=by
     show (fW p).1=3
     rw [this]
     rfl
    rw [e]
    exact ⟨by decide,by decide⟩
 have some:q.length≤l.length→JT (jc L') st.2.1 (st.2.2.1+1):=fun hq=>by
  have e2':q.map fW=(l.map (fg st.2.2.1)).take q.length:=by
   rw [e2]
   unfold iT
   rw [List.take_append_of_le_length (by rw [List.length_map];exact hq)]
  obtain ⟨la',hla⟩:=vh q (jc L) st.2.1 la fun p hp=>(rO e2' p hp).1
  refine ⟨⟨la',?_⟩,by rw [e1];exact hmark q fun p hp=>hp,hbat2,b1,b2⟩
  rw [e1,rT,hg]
  exact hla
 unfold gD at hn hw ⊢
 generalize eW (iT l st.2.2.1) (pG st) d []=a at t1 e3 e4 hdir hbat hn hw ⊢
 unfold sG at hn hw ⊢
 cases c:a.1.2.2 != 0 with
 | true =>
  have hlt:=e4 (bne_iff_ne.1 c)
  refine ⟨L',t1,?_⟩
  show JT (jc L') a.1.1.2.1 a.1.1.2.2.1
  rw [hdir,hbat]
  exact some (by omega)
 | false =>
  rw [c] at hn hw
  simp only [aK] at hn hw ⊢
  obtain ⟨f1,f2⟩:=e3 (gu c)
  obtain ⟨tt,ht⟩:=HE t1
  have hsd:=fun z=>Gm t1.disk ht z
  have hsf:∀ s,fT (fm a.1.2.1 (cj a.1.1)).1 s=fT a.1.2.1 s:=fun s=>kw
  have hsD:=lR t1.disk (cj a.1.1)
  generalize fm a.1.2.1 (cj a.1.1)=y at hn hw hsd hsf hsD ⊢
  cases c2:y.2 != 0 with
  | true =>
   rw [c2] at hn
   have hn:dn y.1=false:=hn
   rw [hsd (bne_iff_ne.1 c2)] at hn
   cases hn
  | false =>
   rw [c2] at hw
   simp only [aK] at hw ⊢
   obtain ⟨s1,_⟩:=hw trivial
   have h20:=oo s1
   refine ⟨L',⟨t1.live,hsD,t1.ids,fun x hx=>⟨(hsf _).trans (t1.text x hx).1,(t1.text x hx).2⟩,fun t q=>t1.tail t ((hsf _).symm.trans q)⟩,?_⟩
   show JT (jc L') (bN a.1.1.2.1 (a.2.take l.length)) a.1.1.2.2.1
   have h20:(bN a.1.1.2.1 (a.2.take l.length)).length≤20:=h20
   rw [hdir,f1,List.nil_append] at h20
   rw [hdir,hbat,f1,List.nil_append]
   have hq1:q.length=l.length+1:=by omega
   obtain ⟨own,s,eq⟩:∃ own s,q=own++[s]:=by
    rcases List.eq_nil_or_concat q with w | ⟨a',b',w⟩
    · rw [w] at hq1;cases hq1
    · exact ⟨a',b',by rw [w,List.concat_eq_append]⟩
   subst eq
   have ho1:own.length=l.length:=by
    rw [uH,List.length_singleton] at hq1
    omega
   have et:(own++[s]).take l.length=own:=by rw [← ho1];exact List.take_left
   rw [et] at h20 ⊢
   have e2f:(own++[s]).map fW=iT l st.2.2.1:=by rw [e2,f2,List.take_length]
   rw [List.map_append] at e2f
   unfold iT at e2f
   obtain ⟨m1,m2⟩:=List.append_inj e2f (by rw [List.length_map,List.length_map];exact ho1)
   have m2:fW s=fI 3 st.2.2.1 (l.map (fg st.2.2.1)):=(List.cons.inj m2).1
   have hown:∀ p ∈ own,plain p∧p.2.2.2.1.2.1=st.2.2.1:=rO (n:=(l.map (fg st.2.2.1)).length) (by rw [List.take_length];exact m1)
   obtain ⟨la1,hla1⟩:=vh own (jc L) st.2.1 la fun p hp=>(hown p hp).1
   obtain ⟨la2,hla2⟩:=Fl (pre:=jc L) (own:=own) (s:=s) (dir:=st.2.1) (la:=la1) (fun p hp=>Int.ne_of_lt (j.bat p hp)) m1 m2 h20
   refine ⟨⟨la2,?_⟩,by rw [e1];exact hmark _ fun p hp=>hp,hbat2,b1,b2⟩
   rw [e1,rT,hg]
   show gr (jc L) (own++[s]) (st.2.1,la,0)=_
   rw [rT,hla1]
   exact hla2
theorem FG {st:Ty.d aE} {d:Ty.d aA} (l:lD) (h:MI st d) (hn:dn (fp st d l).2.1=false):MI (fp st d l).1 (fp st d l).2.1:=by
 rcases Ci st d l with ⟨c,hc,e⟩ | ⟨hs,hl,e⟩ | ⟨hs,hp,hl,ha,hb,e⟩
 · rw [e];exact h
 · rw [e];exact h
 · rw [e] at hn ⊢
   exact Gt h hp hb ha hn
theorem C2 {a b:Int} (h:a≤b):∀ (l:List Int) (p:Option Int),nJ (mF a) p l=true→nJ (mF b) p l=true
 | [],_,_=>rfl
 | x::l,p,q=>by
  unfold nJ at q ⊢
  rw [gN] at q ⊢
  refine ⟨?_,C2 h l (some x) q.2⟩
  have q1:=q.1
  unfold mF at q1 ⊢
  rw [gN,decide_eq_true_eq] at q1 ⊢
  exact ⟨⟨q1.1.1,Int.le_trans q1.1.2 h⟩,q1.2⟩
theorem FE {n:Int} {ids:List Int} (h:cS (n,(ids,()))=true) (hn:n+2≤100000):cS (n+2,(ids,()))=true:=by
 obtain ⟨g1,g2,_⟩:=bQ h
 unfold cS at h ⊢
 simp only [gN,decide_eq_true_eq] at h ⊢
 rw [aD (n:=n+2-1) (by omega) (by omega)]
 rw [aD (n:=n-1) (by omega) (by omega)] at h
 exact ⟨⟨show (1:Int)≤n+2 by omega,show n+2≤(100000:Int) from hn⟩,h.2.1,C2 (by omega) _ _ h.2.2⟩
theorem wJ:∀ (q pre:aW) (d:aR) (la:Int),(∀ p ∈ q,p.2.2.2.1.1≠3∧p.2.2.2.1.1≠5)→∃ la',gr pre q (d,la,0)=(d,la',0)
 | [],_,d,la,_=>⟨la,rfl⟩
 | p::q,pre,d,la,h=>by
  obtain ⟨h3,h5⟩:=h p jd
  obtain ⟨la',e⟩:=wJ q (pre++[p]) d (mQ p.2.2.2.1.2.1 la) fun x hx=>h x (lL _ hx)
  refine ⟨la',?_⟩
  unfold gr iC
  rw [mC h3,mC h5]
  exact e
theorem rh:∀ (q acc:aW),(∀ p ∈ q,p.2.2.2.1.1=4)→q.foldl fD acc=acc++q
 | [],acc,_=>(List.append_nil acc).symm
 | p::q,acc,h=>by
  have e:fD acc p=acc++[p]:=by
   unfold fD
   rw [h p jd]
   rfl
  rw [List.foldl_cons,e,rh q (acc++[p]) fun x hx=>h x (lL _ hx),nn]
  rfl
theorem E0 {dir:aR} {e:Ty.d aB} (h:∀ x ∈ dir,mo x.1 e.1=true):qA dir e=dir++[e]:=by
 have h1:gz dir e.1=dir:=by
  unfold gz
  refine List.filter_eq_self.2 fun x hx=>?_
  have hs:=h x hx
  cases c:seq x.1 e.1 with
  | false=>rfl
  | true =>
   rw [dr.1 c] at hs
   exact absurd hs (by rw [oQ];decide)
 unfold qA qB
 rw [h1]
 obtain ⟨w1,w2⟩:=ye (p:=Hg e.1) (l:=dir) fun x hx=>by
  unfold Hg
  rw [h x hx]
  rfl
 rw [w1,w2]
theorem uJ (m:Int):∀ (l:iA) (a:Int) (dir:aR),cW (iP dir++l.map (·.1))→bN dir (b8 m (fF (l.map bD) a))=dir++lF m l a
 | [],a,dir,_=>(List.append_nil dir).symm
 | p::l,a,dir,h=>by
  have e0:fJ dir (m,(a,(aw (bD p),(bD p,()))))=dir++[(p.1,(m,(a,(aw (bD p),(p.2.2.1,())))))]:=by
   unfold fJ
   show qA dir (p.1,(m,(a,(aw (bD p),(p.2.2.1,())))))=_
   refine E0 fun x hx=>?_
   rw [List.map_cons] at h
   exact (List.pairwise_append.1 h).2.2 x.1 (List.mem_map.2 ⟨x,hx,rfl⟩) p.1 jd
  show bN (fJ dir (m,(a,(aw (bD p),(bD p,()))))) (b8 m (fF (l.map bD) (a+aw (bD p))))=_
  rw [e0,uJ m l (a+aw (bD p)) _ (by
   unfold iP
   rw [List.map_append,nn]
   exact h),nn]
  rfl
theorem F7 {st:Ty.d aE} {d:Ty.d aA} (h:d9 st d=true):(∀ r ∈ jX (gf st.2.1 d).1 (st.2.2.1-1),bm r=true)∧∀ p ∈ (gf st.2.1 d).1,LT.lt (α:=Int) p.2.2.1 st.2.2.1:=by
 obtain ⟨k1,k2⟩:=yd h
 obtain ⟨b1,b2⟩:=vn h
 have h20:=oo h
 have hz:=ny st.2.1 d
 refine ⟨fun r hr=>?_,fun p hp=>?_⟩
 · unfold jX at hr
   rcases List.mem_append.1 hr with q | q
   · obtain ⟨p,hp,rfl⟩:=List.mem_map.1 q
     exact k1 p hp
   · rw [List.mem_singleton.1 q]
     have hs:=Dc ((gf st.2.1 d).1.map bD)
     unfold bm fI
     rw [show ((5:Int)==1||(5:Int)==4)=false from rfl,show ((5:Int)==2)=false from rfl,show ((5:Int)==3)=false from rfl,show ((5:Int)==5)=true from rfl]
     simp only [aK,ac]
     rw [aO (show (0:Int)≤(((gf st.2.1 d).1.map bD).length:Int)∧(((gf st.2.1 d).1.map bD).length:Int)≤20 by rw [List.length_map];omega),aO hs,aO (Iq b1 b2),show seq ByteArray.empty ⟨#[]⟩=true from bV _]
     rfl
 · rw [vE h] at hp
   obtain ⟨e,he,rfl⟩:=List.mem_map.1 hp
   unfold d9 at h
   simp only [gN] at h
   have hin:=List.all_eq_true.1 h.2.2.2.2.2 e he
   unfold ly at hin
   simp only [gN,beq_iff_eq,Bool.not_eq_true',decide_eq_false_iff_not] at hin
   show LT.lt (α:=Int) (fR d e).1.2.1 st.2.2.1
   rw [hin.2.2.1]
   exact Int.not_le.1 hin.2.2.2.2
theorem yF {pre:aW} {p:Ty.d aC} {dir:aR} {la:Int} (hk:p.2.2.2.1.1=5) (hf:gV p.2.2.2.1 (bM pre)=true) (h20:(bN dir (bM pre)).length≤20):iC pre p (dir,la,0)=(bN dir (bM pre),mQ p.2.2.2.1.2.1 la,0):=by
 unfold iC
 rw [hk,show ((5:Int)==3)=false from rfl,aK,show ((5:Int)==5)=true from rfl,ac,hf,ac]
 show (bN dir (bM pre),mQ p.2.2.2.1.2.1 la,kL (bN dir (bM pre)) 0)=_
 unfold kL
 rw [if_neg (by omega)]
theorem IQ {m b:Int} {l:iA} (hk:cW (l.map (·.1))) (h20:l.length≤20) (hb:∀ p ∈ l,LT.lt (α:=Int) p.2.2.1 b) (b1:LE.le (α:=Int) 1 b) (b2:LE.le (α:=Int) b 1000001):JT (jc [(m,jX l (b-1)),(m+1,[])]) (lF m l 0) b:=by
 have e0:jc [(m,jX l (b-1)),(m+1,[])]=b8 m (fF (l.map bD) 0)++[(m,(((aX (l.map bD)).size:Int),(aw (fI 5 (b-1) (l.map bD)),(fI 5 (b-1) (l.map bD),()))))]:=by
  show uq (m,jX l (b-1))++([]++[])=_
  rw [List.append_nil,List.append_nil]
  unfold jX
  exact Au m (l.map bD) _
 have hq:∀ p ∈ b8 m (fF (l.map bD) 0),p.2.2.2.1 ∈ l.map bD:=fun p hp=>by
  have:∀ (rs:j2) (a:Int),∀ x ∈ fF rs a,x.2.2.1 ∈ rs:=by
   intro rs
   induction rs with
   | nil=>exact fun a x hx=>by cases hx
   | cons r rs ih =>
    intro a x hx
    rw [fF] at hx
    rcases List.mem_cons.1 hx with w | w
    · rw [w];exact jd
    · exact lL _ (ih _ x w)
  unfold b8 at hp
  obtain ⟨x,hx,rfl⟩:=List.mem_map.1 hp
  exact this _ _ x hx
 have h4:∀ p ∈ b8 m (fF (l.map bD) 0),p.2.2.2.1.1=4∧LT.lt (α:=Int) p.2.2.2.1.2.1 b:=fun p hp=>by
  obtain ⟨x,hx,e⟩:=List.mem_map.1 (hq p hp)
  rw [← e]
  exact ⟨rfl,hb x hx⟩
 have hrec:∀ (rs:j2) (a:Int),(b8 m (fF rs a)).map qu=rs:=by
  intro rs
  induction rs with
  | nil=>exact fun _=>rfl
  | cons r rs ih =>
   intro a
   show r::(b8 m (fF rs (a+aw r))).map qu=_
   rw [ih]
 have hown:bM (b8 m (fF (l.map bD) 0))=b8 m (fF (l.map bD) 0):=by
  unfold bM
  rw [rh _ _ fun p hp=>(h4 p hp).1,List.nil_append]
 have hf:gV (fI 5 (b-1) (l.map bD)) (b8 m (fF (l.map bD) 0))=true:=by
  have hl:(b8 m (fF (l.map bD) 0)).length=(l.map bD).length:=by
   have:=congrArg List.length (hrec (l.map bD) 0)
   rw [List.length_map] at this
   exact this
  unfold gV fI
  rw [hrec,hl,beq_self_eq_true,beq_self_eq_true]
  rfl
 have ha:bN [] (b8 m (fF (l.map bD) 0))=lF m l 0:=by
  rw [uJ m l 0 [] hk,List.nil_append]
 rw [e0]
 obtain ⟨la,hla⟩:=wJ (b8 m (fF (l.map bD) 0)) [] [] 0 fun p hp=>by
  rw [(h4 p hp).1]
  exact ⟨by decide,by decide⟩
 generalize b8 m (fF (l.map bD) 0)=pl at h4 hown hf ha hla ⊢
 refine ⟨⟨mQ (b-1) la,?_⟩,?_,fun p hp=>?_,b1,b2⟩
 · rw [rT,hla,List.nil_append]
   have e:=yF (pre:=pl) (p:=(m,(((aX (l.map bD)).size:Int),(aw (fI 5 (b-1) (l.map bD)),(fI 5 (b-1) (l.map bD),()))))) (dir:=[]) (la:=la) rfl (by rw [hown];exact hf) (by rw [hown,ha,sQ];exact h20)
   rw [hown,ha] at e
   exact e
 · rw [mB]
   rfl
 · rcases List.mem_append.1 hp with w | w
   · exact (h4 p w).2
   · rw [List.mem_singleton.1 w]
     show LT.lt (α:=Int) (b-1) b
     exact Int.sub_lt_self b (by decide)
theorem DF {hb:ByteArray→ByteArray} {st:Ty.d aE} {d:Ty.d aA} {l:iA} (hl:cS st.1=true) (hd:DR d) (hn:LE.le (α:=Int) (st.1.1+2) 100000) :
 ((dQ hb st d l).1=s5 st∧DR (dQ hb st d l).2.1∧∀ x ∈ st.1.2.1,fT (dQ hb st d l).2.1 (a_ aF x)=fT d (a_ aF x)) ∨
 ((dQ hb st d l).1=(iM st.1.1,(lF st.1.1 l 0,(st.2.2.1,(0,(0,())))))∧DR (dQ hb st d l).2.1∧fT (dQ hb st d l).2.1 (a_ aF st.1.1)=some (aX (jX l (st.2.2.1-1)))∧fT (dQ hb st d l).2.1 (a_ aF (st.1.1+1))=some ByteArray.empty):=by
 obtain ⟨n1,n2,n3,_⟩:=iE (n:=st.1.1) (ids:=st.1.2.1) hl
 have hm:(1:Int)≤st.1.1∧st.1.1≤(100000:Int):=⟨n1,n2⟩
 have hm1:LE.le (α:=Int) 1 (st.1.1+1)∧LE.le (α:=Int) (st.1.1+1) 100000:=⟨by omega,by omega⟩
 have hseg:∀ x:Int,x ∈ st.1.2.1→1≤x∧x≤100000:=fun x hx=>⟨(n3 x hx).1,BV (n3 x hx).2 n2⟩
 have no1:∀ x ∈ st.1.2.1,a_ aF st.1.1≠a_ aF x:=fun x hx=>mn hm (hseg x hx) (by have:=(n3 x hx).2;omega)
 have no2:∀ x ∈ st.1.2.1,a_ aF (st.1.1+1)≠a_ aF x:=fun x hx=>mn hm1 (hseg x hx) (by have:=(n3 x hx).2;omega)
 have no3:∀ x ∈ st.1.2.1,a_ dC st.1.1≠a_ aF x:=fun x hx=>kM hm (hseg x hx)
 have no4:a_ aF (st.1.1+1)≠a_ aF st.1.1:=mn hm1 hm (by omega)
 have dropK:∀ (r:RD),DR r.1→(∀ x ∈ st.1.2.1,fT r.1 (a_ aF x)=fT d (a_ aF x))→DR (kY (jG st.1.1) r).1∧∀ x ∈ st.1.2.1,fT (kY (jG st.1.1) r).1 (a_ aF x)=fT d (a_ aF x):=fun r hr k=>by
  unfold kY
  cases r.2==2 with
  | false=>exact ⟨hr,k⟩
  | true =>
   refine ⟨ju _ _ hr,fun x hx=>(mH _ _ fun s hs=>?_).trans (k x hx)⟩
   unfold jG at hs
   rcases List.mem_cons.1 hs with e | e
   · rw [e];exact gT (hseg x hx)
   rcases List.mem_cons.1 e with e | e
   · rw [e];exact no1 x hx
   rcases List.mem_cons.1 e with e | e
   · rw [e];exact no2 x hx
   · rw [List.mem_singleton.1 e];exact no3 x hx
 have a0:DR (fQ st.1.1 l (st.2.2.1-1) d).1:=Af _ _ _ hd
 have a1:∀ x ∈ st.1.2.1,fT (fQ st.1.1 l (st.2.2.1-1) d).1 (a_ aF x)=fT d (a_ aF x):=fun x hx=>Ac (no1 x hx)
 have a2:(fQ st.1.1 l (st.2.2.1-1) d).2=0→fT (fQ st.1.1 l (st.2.2.1-1) d).1 (a_ aF st.1.1)=some (aX (jX l (st.2.2.1-1))):=fun z=>by
  unfold fQ at z ⊢
  obtain ⟨z1,z2,_⟩:=iv z
  rw [z2]
  rw [kw]
  have z0:(bO (a_ aF st.1.1) d).2=0:=by
   by_cases w:(bO (a_ aF st.1.1) d).2=0
   · exact w
   · rw [pf _ _ _ w] at z1
     exact absurd z1 w
  have:=DZ (a_ aF st.1.1) (jX l (st.2.2.1-1)) (bO (a_ aF st.1.1) d) ByteArray.empty (lP z0) z1
  rw [this,show (ByteArray.empty:ByteArray)=dB [] from rfl,rG]
 unfold dQ
 generalize fQ st.1.1 l (st.2.2.1-1) d=a at a0 a1 a2 ⊢
 cases ca:a.2 != 0 with
 | true=>exact .inl ⟨rfl,dropK (tl a) a0 a1⟩
 | false =>
  have b0:=jx (a_ aF (st.1.1+1)) a.1 a0
  have b1:∀ x ∈ st.1.2.1,fT (bO (a_ aF (st.1.1+1)) a.1).1 (a_ aF x)=fT d (a_ aF x):=fun x hx=>(l9 (no2 x hx)).trans (a1 x hx)
  have b2:=(l9 (d:=a.1) no4).trans (a2 (gu ca))
  have b3:=lP (s:=a_ aF (st.1.1+1)) (d:=a.1)
  simp only [aK]
  generalize bO (a_ aF (st.1.1+1)) a.1=b at b0 b1 b2 b3 ⊢
  cases cb:b.2 != 0 with
  | true=>exact .inl ⟨rfl,dropK (tl b) b0 b1⟩
  | false =>
   have b3:=b3 (gu cb)
   have c0:DR (kn hb st.1.1 b.1).1:=by
    unfold kn
    cases (lB (a_ dC st.1.1) (hb (aT b.1 (a_ aF st.1.1)).1) b.1).2==2 with
    | true=>exact ju _ _ (nN _ _ _ b0)
    | false=>exact nN _ _ _ b0
   have c1:∀ x ∈ st.1.2.1,fT (kn hb st.1.1 b.1).1 (a_ aF x)=fT d (a_ aF x):=fun x hx=>(qb (no3 x hx)).trans (b1 x hx)
   have c2:=(qb (hb:=hb) (d:=b.1) (kM hm hm)).trans b2
   have c3:=(qb (hb:=hb) (d:=b.1) (kM hm hm1)).trans b3
   simp only [aK]
   generalize kn hb st.1.1 b.1=e at c0 c1 c2 c3 ⊢
   cases ce:e.2 != 0 with
   | true=>exact .inl ⟨rfl,c0,c1⟩
   | false =>
    have d0:=jf (iM st.1.1) _ c0
    have d1:∀ x ∈ st.1.2.1,fT (bf (iM st.1.1) e.1).1 (a_ aF x)=fT d (a_ aF x):=fun x hx=>(gg (gT (hseg x hx)) (iS (hseg x hx))).trans (c1 x hx)
    have d2:=(gg (d:=e.1) (v:=iM st.1.1) (gT hm) (iS hm)).trans c2
    have d3:=(gg (d:=e.1) (v:=iM st.1.1) (gT hm1) (iS hm1)).trans c3
    simp only [aK]
    generalize bf (iM st.1.1) e.1=f at d0 d1 d2 d3 ⊢
    cases cf:f.2 != 0 with
    | true=>exact .inl ⟨rfl,dropK (tl f) d0 d1⟩
    | false =>
     simp only [aK]
     have o0:∀ (ids:List Int) (x:Ty.d aA),DR x→DR (ry ids x).1:=by
      intro ids
      induction ids with
      | nil=>exact fun x hx=>hx
      | cons y ids ih=>exact fun x hx=>im (ju _ _ hx) fun z hz=>ih z hz
     exact .inr ⟨by trivial,o0 _ _ d0,(tk st.1.2.1 f.1 fun x hx=>⟨fun q=>no1 x hx q.symm,kM (hseg x hx) hm⟩).trans d2,(tk st.1.2.1 f.1 fun x hx=>⟨fun q=>no2 x hx q.symm,kM (hseg x hx) hm1⟩).trans d3⟩
theorem Gh {st:Ty.d aE} {d:Ty.d aA} (h:MI st d):MI (mJ st d).1 (mJ st d).2.1:=by
 obtain ⟨hs,he⟩:=h.store
 unfold mJ
 rw [hs]
 simp only [fh,aK]
 by_cases c2:st.1.1+2 > (100000:Int)
 · rw [aO c2];exact h
 · rw [aP c2]
   simp only [aK]
   cases c3:(gf st.2.1 d).2 != 0 with
   | true=>exact h
   | false =>
    simp only [aK]
    have hn:LE.le (α:=Int) (st.1.1+2) 100000:=Int.not_lt.1 c2
    obtain ⟨k1,k2⟩:=yd hs
    obtain ⟨k3,k4⟩:=F7 hs
    have h20:=oo hs
    have hz:=ny st.2.1 d
    obtain ⟨L,t,j⟩:=h
    obtain ⟨n1,n2,n3,_⟩:=iE (n:=st.1.1) (ids:=st.1.2.1) t.live
    obtain ⟨_,_,g1,_,_⟩:=bQ (nx:=st.1.1) (ids:=st.1.2.1) t.live
    rcases DF (hb:=Hh st.1.1) (l:=(gf st.2.1 d).1) t.live t.disk hn with ⟨e1,e2,e3⟩ | ⟨e1,e2,e3,e4⟩
    · generalize dQ (Hh st.1.1) st d (gf st.2.1 d).1=q at e1 e2 e3 ⊢
      rw [e1]
      obtain ⟨L0,x,eL,el⟩:=vD t.ids g1
      have hmem:∀ y ∈ L,y.1 ∈ st.1.2.1:=fun y hy=>by rw [t.ids];exact List.mem_map.2 ⟨y,hy,rfl⟩
      have hx:x ∈ L:=by rw [eL];exact List.mem_append_right _ jd
      have ea:cj st=a_ aF x.1:=by unfold cj;rw [el]
      have ea2:cj (s5 st)=a_ aF x.1:=ea
      refine ⟨L,⟨FE (n:=st.1.1) (ids:=st.1.2.1) t.live hn,e2,t.ids,fun y hy=>⟨(e3 _ (hmem y hy)).trans (t.text y hy).1,(t.text y hy).2⟩,fun s q=>t.tail s ?_⟩,j⟩
      rw [ea2,e3 _ (hmem x hx)] at q
      rw [ea]
      exact q
    · generalize dQ (Hh st.1.1) st d (gf st.2.1 d).1=q at e1 e2 e3 e4 ⊢
      rw [e1]
      refine ⟨[(st.1.1,jX (gf st.2.1 d).1 (st.2.2.1-1)),(st.1.1+1,[])],⟨Bb n1 hn,e2,rfl,fun x hx=>?_,fun s w=>?_⟩,IQ k2 (by omega) k4 j.lo j.hi⟩
      · rcases List.mem_cons.1 hx with w | w
        · rw [w];exact ⟨e3,k3⟩
        · rw [List.mem_singleton.1 w]
          exact ⟨e4,fun r hr=>by cases hr⟩
      · have w:fT q.2.1 (a_ aF (st.1.1+1))=some s:=w
        rw [e4] at w
        rw [← Option.some.inj w]
        rfl
theorem J9 {a b:Int} (h:a<b) (g:b≤100000):a≤100000:=by omega
theorem IB:(De dm).2=false:=by
 unfold De
 rcases jD (Hj dm) (fun _=>dm) (0:Int) dm with ⟨r,h1,_,_⟩ | h
 · exfalso
   obtain ⟨h0,h2,h3⟩:=h1
   have hp:=An r
   rcases h3 with q | q
   · have:=congrArg nb q
     rw [gQ] at this
     cases this
   · have:=congrArg nb q
     rw [gQ] at this
     cases this
 · rw [h]
theorem DC {ids:List Int} {d:Ty.d aA} {t:ByteArray} (ht:t=dm∨∃ x ∈ ids,1≤x∧x≤100000∧t=a_ aF x):fT (gm ids d).1 t=fT d t:=by
 refine mH _ d fun s hs q=>?_
 have h:=Hb hs
 rw [q] at h
 rcases ht with w | ⟨x,hx,h0,h1,w⟩
 · rw [w,IB,Bool.false_and,Bool.false_or] at h
   have:=congrArg nb (dr.1 h)
   cases this
 · have hh:vm ids x=true:=by unfold vm;rw [List.any_eq_true];exact ⟨x,hx,beq_self_eq_true _⟩
   rw [w,wF (.inl rfl) h0 h1,hh] at h
   simp only [fh,Bool.and_false,Bool.false_or] at h
   exact gT ⟨h0,h1⟩ (dr.1 h).symm
noncomputable def yN (d:Ty.d aA):List Int→Int
 | []=>0
 | x::l=>(bif decide ((az (dq d x)).2<((dq d x).size:Int)) then 1 else 0)+yN d l
theorem vq {d:Ty.d aA}:∀ {l:List Int},iW d l=true→(∀ x ∈ l,(aT d (a_ aF x)).2=true)∧0≤yN d l∧yN d l≤1
 | [],_=>⟨fun x hx=>(by cases hx),Int.le_refl _,by unfold yN;decide⟩
 | x::l,h=>by
  unfold iW rz at h
  simp only [gN,Bool.or_eq_true,Bool.not_eq_true'] at h
  obtain ⟨⟨h1,h2⟩,h3⟩:=h
  obtain ⟨i1,i2,i3⟩:=vq h3
  refine ⟨fun y hy=>?_,?_⟩
  · rcases List.mem_cons.1 hy with w | w
    · rw [w];exact h1
    · exact i1 y w
  · have e1:yN d (x::l)=(bif decide ((az (dq d x)).2<((dq d x).size:Int)) then 1 else 0)+yN d l:=rfl
    rw [e1]
    rcases h2 with q | q
    · have:l=[]:=List.isEmpty_iff.1 q
      subst this
      show 0≤(bif _ then (1:Int) else 0)+0∧(bif _ then (1:Int) else 0)+0≤1
      cases decide ((az (dq d x)).2<((dq d x).size:Int)) <;> exact ⟨by decide,by decide⟩
    · rw [q,aK]
      exact ⟨by omega,by omega⟩
theorem yE {d:Ty.d aA}:∀ {l:List Int},iW d l=true→∀ x ∈ l,x≠aZ l→(az (dq d x)).2=((dq d x).size:Int)
 | [],_,x,hx,_=>(by cases hx)
 | y::l,h,x,hx,hn=>by
  unfold iW rz at h
  simp only [gN,Bool.or_eq_true,Bool.not_eq_true'] at h
  obtain ⟨⟨h1,h2⟩,h3⟩:=h
  have hl:l≠[]→aZ (y::l)=aZ l:=fun q=>by
   cases l with
   | nil=>exact absurd rfl q
   | cons z l=>rfl
  rcases List.mem_cons.1 hx with w | w
  · rw [w] at hn ⊢
    rcases h2 with q | q
    · have:l=[]:=List.isEmpty_iff.1 q
      subst this
      exact absurd rfl hn
    · have:=of_decide_eq_false q
      have:=(iw (dq d y)).2
      omega
  · have hne:l≠[]:=fun q=>by rw [q] at w;cases w
    exact yE h3 x w (by rw [← hl hne];exact hn)
theorem HQ {A:aW} (h1:∀ b,eF b A=[]) (h2:bM A=[]):∀ (r pre:aW) (s:Gn),gr (A++pre) r s=gr pre r s
 | [],_,_=>rfl
 | p::r,pre,s=>by
  have e1:∀ b,eF b (A++pre)=eF b pre:=fun b=>by rw [uM,h1];rfl
  have e2:bM (A++pre)=bM pre:=by rw [mB,h2];rfl
  unfold gr iC
  rw [e1,e2,nn,HQ h1 h2 r]
theorem E_:∀ (r pre:aW) (d:aR) (la la' c:Int),(gr pre r (d,la,c)).1=(gr pre r (d,la',c)).1∧(gr pre r (d,la,c)).2.2=(gr pre r (d,la',c)).2.2
 | [],_,_,_,_,_=>⟨rfl,rfl⟩
 | p::r,pre,d,la,la',c=>by
  unfold gr
  simp only []
  cases c != 0 with
  | true=>exact ⟨rfl,rfl⟩
  | false =>
   simp only [aK]
   unfold iC
   simp only []
   cases p.2.2.2.1.1==3 with
   | true =>
    simp only [ac]
    cases gV p.2.2.2.1 (eF p.2.2.2.1.2.1 pre) <;> exact E_ r _ _ _ _ _
   | false =>
    simp only [aK]
    cases p.2.2.2.1.1==5 with
    | true =>
     simp only [ac]
     cases gV p.2.2.2.1 (bM pre) <;> exact E_ r _ _ _ _ _
    | false=>exact E_ r _ _ _ _ _
theorem BL {m:Int}:∀ (l:yK) (p:Option (Ty.d c_)),nJ (nZ m) p l=true→(∀ x ∈ l,x.2.2.1.1=4∧LE.le (α:=Int) x.2.2.1.2.1 m)∧cW (l.map fun x=>x.2.2.1.2.2.1)∧(∀ q,p=some q→∀ x ∈ l,mo q.2.2.1.2.2.1 x.2.2.1.2.2.1=true)
 | [],p,_=>⟨fun x h=>(by cases h),List.Pairwise.nil,fun q _ x h=>(by cases h)⟩
 | g::l,p,h=>by
  unfold nJ at h
  rw [gN] at h
  obtain ⟨h1,h2⟩:=h
  obtain ⟨i1,i2,i3⟩:=BL l (some g) h2
  unfold nZ at h1
  simp only [gN,beq_iff_eq,Bool.not_eq_true',decide_eq_false_iff_not] at h1
  obtain ⟨g1,g2,g3⟩:=h1
  refine ⟨fun x hx=>?_,?_,fun q hq x hx=>?_⟩
  · rcases List.mem_cons.1 hx with e | e
    · rw [e];exact ⟨g1,Int.not_lt.1 g2⟩
    · exact i1 x e
  · rw [List.map_cons]
    unfold cW
    rw [List.pairwise_cons]
    refine ⟨fun x hx=>?_,i2⟩
    obtain ⟨f,hf,rfl⟩:=List.mem_map.1 hx
    exact i3 g rfl f hf
  · subst hq
    rcases List.mem_cons.1 hx with e | e
    · rw [e];exact g3
    · exact oO g3 (i3 g rfl x e)
theorem uS (m:Int):∀ (l:yK) (dir:aR),(∀ x ∈ l,x.2.2.1.1=4)→cW (iP dir++l.map fun x=>x.2.2.1.2.2.1)→bN dir (b8 m l)=dir++l.map (Ah m)
 | [],dir,_,_=>(List.append_nil dir).symm
 | x::l,dir,h4,h=>by
  have e0:fJ dir (m,x)=dir++[Ah m x]:=by
   unfold fJ
   rw [show ((m,x):Ty.d aC).2.2.2.1.1=4 from h4 x jd]
   show qA dir (Ah m x)=_
   refine E0 fun y hy=>?_
   rw [List.map_cons] at h
   exact (List.pairwise_append.1 h).2.2 y.1 (List.mem_map.2 ⟨y,hy,rfl⟩) x.2.2.1.2.2.1 jd
  show bN (fJ dir (m,x)) (b8 m l)=_
  rw [e0,uS m l _ (fun y hy=>h4 y (lL _ hy)) (by
   unfold iP
   rw [List.map_append,nn]
   exact h),nn]
  rfl
theorem It {id:Int} {rs:j2} (hr:∀ r ∈ rs,bm r=true) (h:(fv id (aX rs)).2=true) :
 (∃ la,gr [] (uq (id,rs)) ([],0,0)=((fv id (aX rs)).1.2.2.1,la,0))∧(∀ b,eF b (uq (id,rs))=[])∧bM (uq (id,rs))=[]∧∀ p ∈ uq (id,rs),LE.le (α:=Int) p.2.2.2.1.2.1 (fv id (aX rs)).1.2.1:=by
 have hsp:uq (id,rs)=b8 id (az (aX rs)).1:=by
  unfold uq
  rw [wG hr]
 have hok:∀ x ∈ (az (aX rs)).1,bm x.2.2.1=true:=fun x hx=>by
  refine hr _ ?_
  rw [← (p0 hr).1]
  exact List.mem_map.2 ⟨x,hx,rfl⟩
 rw [hsp]
 unfold fv at h ⊢
 cases c1:(az (aX rs)).2 != ((aX rs).size:Int) with
 | true=>rw [c1] at h;cases h
 | false =>
  rw [c1] at h
  simp only [aK] at h ⊢
  generalize (az (aX rs)).1=l at h hok ⊢
  cases c2:l.length==0 with
  | true=>rw [c2] at h;cases h
  | false =>
   rw [c2] at h
   simp only [aK] at h ⊢
   have hne:l.length≠0:=by simpa using c2
   obtain ⟨k,mk,el⟩:∃ k mk,l=k++[mk]:=by
    rcases List.eq_nil_or_concat l with w | ⟨a,b,w⟩
    · rw [w] at hne;exact absurd rfl hne
    · exact ⟨a,b,by rw [w,List.concat_eq_append]⟩
   subst el
   have et:(k++[mk]).take ((k++[mk]).length-1)=k:=by
    rw [uH,List.length_singleton,Nat.add_sub_cancel]
    exact List.take_left
   have eg:(k++[mk]).getD ((k++[mk]).length-1) (Ty.z c_)=mk:=by
    rw [uH,List.length_singleton,Nat.add_sub_cancel]
    simp [List.getD]
   rw [et,eg] at h ⊢
   cases c3:mk.2.2.1.1 != 5 with
   | true=>rw [c3] at h;cases h
   | false =>
    rw [c3] at h
    simp only [aK] at h ⊢
    cases c4:!decide ((1:Int)≤id∧id≤100000) with
    | true=>rw [c4] at h;cases h
    | false =>
     rw [c4] at h
     simp only [aK] at h ⊢
     cases c5:nJ (nZ mk.2.2.1.2.1) none k with
     | false=>rw [c5] at h;cases h
     | true =>
      rw [c5] at h
      simp only [fh,aK] at h ⊢
      cases c6:gV mk.2.2.1 (b8 id k) with
      | false=>rw [c6] at h;cases h
      | true =>
       simp only [fh,aK]
       obtain ⟨a1,a2,_⟩:=BL k none c5
       have c3:mk.2.2.1.1=5:=by simpa using c3
       have h4:∀ p ∈ b8 id k,p.2.2.2.1.1=4∧LE.le (α:=Int) p.2.2.2.1.2.1 mk.2.2.1.2.1:=fun p hp=>by
        unfold b8 at hp
        obtain ⟨x,hx,rfl⟩:=List.mem_map.1 hp
        exact a1 x hx
       have hmk:=hok mk (List.mem_append_right _ jd)
       have h20:(b8 id k).length≤20:=by
        unfold gV at c6
        rw [gN,beq_iff_eq] at c6
        unfold bm at hmk
        rw [c3] at hmk
        rw [show ((5:Int)==1||(5:Int)==4)=false from rfl,show ((5:Int)==2)=false from rfl,show ((5:Int)==3)=false from rfl,show ((5:Int)==5)=true from rfl] at hmk
        simp only [aK,ac,gN,decide_eq_true_eq] at hmk
        have hc:LE.le (α:=Int) (((b8 id k).length:Nat):Int) 20:=by
         rw [← c6.1]
         exact hmk.2.2.1.2
        omega
       have hown:bM (b8 id k)=b8 id k:=by
        unfold bM
        rw [rh _ _ fun p hp=>(h4 p hp).1,List.nil_append]
       have ha:bN [] (b8 id k)=k.map (Ah id):=by rw [uS id k [] (fun x hx=>(a1 x hx).1) a2,List.nil_append]
       have epl:b8 id (k++[mk])=b8 id k++[(id,mk)]:=by
        unfold b8
        rw [List.map_append]
        rfl
       obtain ⟨la,hla⟩:=wJ (b8 id k) [] [] 0 fun p hp=>by
        rw [(h4 p hp).1]
        exact ⟨by decide,by decide⟩
       rw [epl]
       have hlen:(b8 id k).length=k.length:=pW id k
       refine ⟨⟨mQ mk.2.2.1.2.1 la,?_⟩,fun b=>?_,?_,fun p hp=>?_⟩
       · rw [rT,hla,List.nil_append]
         have e:=yF (pre:=b8 id k) (p:=(id,mk)) (dir:=[]) (la:=la) c3 (by rw [hown];exact c6) (by rw [hown,ha,List.length_map];omega)
         rw [hown,ha] at e
         exact e
       · have:∀ (q:aW),(∀ p ∈ q,p.2.2.2.1.1=4∨p.2.2.2.1.1=5)→q.foldl (eA b) []=[]:=by
          intro q
          induction q with
          | nil=>exact fun _=>rfl
          | cons p q ih =>
           intro hq
           have e:eA b [] p=[]:=by
            unfold eA
            rcases hq p jd with w | w <;> rw [w] <;> cases p.2.2.2.1.2.1==b <;> rfl
           rw [List.foldl_cons,e]
           exact ih fun x hx=>hq x (lL _ hx)
         refine this _ fun p hp=>?_
         rcases List.mem_append.1 hp with w | w
         · exact .inl (h4 p w).1
         · rw [List.mem_singleton.1 w];exact .inr c3
       · rw [mB]
         show fD _ (id,mk)=[]
         unfold fD
         rw [show ((id,mk):Ty.d aC).2.2.2.1.1=5 from c3]
         rfl
       · rcases List.mem_append.1 hp with w | w
         · exact (h4 p w).2
         · rw [List.mem_singleton.1 w];exact Int.le_refl _
theorem tV {r:Ty.d b7} (h:bm r=true):LE.le (α:=Int) 0 r.2.1∧LE.le (α:=Int) r.2.1 1000000:=by
 unfold bm at h
 cases c1:(r.1==1||r.1==4) with
 | true =>
  rw [c1] at h
  simp only [ac,gN,decide_eq_true_eq] at h
  have:=h.2.2.2.2
  exact ⟨Int.le_trans (by decide) this.1,this.2⟩
 | false =>
  rw [c1] at h
  cases c2:(r.1==2) with
  | true =>
   rw [c2] at h
   simp only [ac,aK,gN,decide_eq_true_eq] at h
   have:=h.2.2.2.2
   exact ⟨Int.le_trans (by decide) this.1,this.2⟩
  | false =>
   rw [c2] at h
   cases c3:(r.1==3) with
   | true =>
    rw [c3] at h
    simp only [ac,aK,gN,decide_eq_true_eq] at h
    have:=h.2.2.2.2
    exact ⟨Int.le_trans (by decide) this.1,this.2⟩
   | false =>
    rw [c3] at h
    cases c4:(r.1==5) with
    | true =>
     rw [c4] at h
     simp only [ac,aK,gN,decide_eq_true_eq] at h
     exact h.2.2.2.2
    | false=>rw [c4] at h;cases h
theorem Ir {y:Ty.d aA} (hy:DR y) {L:q7} (hL:1≤L.length) (ht:∀ x ∈ L,fT y (a_ aF x.1)=some (aX x.2)∧∀ r ∈ x.2,bm r=true) (z:(ji y (L.map (·.1))).2.2.1=0) :
 JT (jc L) (ji y (L.map (·.1))).1 (aJ ((ji y (L.map (·.1))).2.1+1)):=by
 have hok:∀ p ∈ jc L,bm p.2.2.2.1=true:=fun p hp=>by
  obtain ⟨x,hx,s,hs,e⟩:=tT hp
  obtain ⟨_,i2,_⟩:=rE x.2 ⟨#[]⟩ ⟨#[]⟩ (ht x hx).2 s hs
  rw [e]
  exact i2
 have fin:∀ (dir:aR) (la:Int),(∃ la',gr [] (jc L) ([],0,0)=(dir,la',0))→bM (jc L)=[]→LE.le (α:=Int) 0 la→LE.le (α:=Int) la 1000000→(∀ p ∈ jc L,LE.le (α:=Int) p.2.2.2.1.2.1 la)→JT (jc L) dir (aJ (la+1)):=fun dir la h1 h2 h3 h4 h5=>by
  rw [aD (n:=la+1) (by omega) (by omega)]
  exact ⟨h1,h2,fun p hp=>Int.lt_add_one_of_le (h5 p hp),show (1:Int)≤la+1 by omega,show la+1≤(1000001:Int) by omega⟩
 obtain ⟨x0,L',rfl⟩:∃ x L',L=x::L':=by
  cases L with
  | nil=>cases hL
  | cons x L'=>exact ⟨x,L',rfl⟩
 have epl:jc (x0::L')=uq x0++jc L':=rfl
 have e1:mE y ((x0::L').map (·.1))=jc (x0::L'):=sV hy ht
 have e2:mE y (L'.map (·.1))=jc L':=sV hy fun x hx=>ht x (lL _ hx)
 unfold ji at z ⊢
 cases c:ol y (((x0::L').map (·.1)).getD 0 0) with
 | false =>
  rw [c] at z
  simp only [aK] at z ⊢
  rw [e1] at z ⊢
  obtain ⟨g1,g2⟩:=vu z
  have hz:(gr [] (jc (x0::L')) ([],0,0)).2.2=0:=by rw [g1]
  obtain ⟨l1,l2,l3⟩:=zt (jc (x0::L')) [] ([],0,0) hz
  have ela:(gr [] (jc (x0::L')) ([],0,0)).2.1=(eH ([],(0,(0,()))) (jc (x0::L'))).2.1:=by rw [g1]
  have l3:=l3 1000000 (by decide) fun p hp=>(tV (hok p hp)).2
  rw [ela] at l1 l2 l3
  exact fin _ _ ⟨_,g1⟩ g2 l1 l3 l2
 | true =>
  rw [c] at z
  simp only [ac] at z ⊢
  have ed:((x0::L').map (·.1)).drop 1=L'.map (·.1):=rfl
  have ex:((x0::L').map (·.1)).getD 0 0=x0.1:=rfl
  rw [ed,ex,e2] at z ⊢
  rw [ex] at c
  obtain ⟨t1,t2⟩:=ht x0 jd
  unfold ol at c
  simp only [gN] at c
  obtain ⟨_,_,c⟩:=c
  have es:dq y x0.1=aX x0.2:=by
   unfold dq
   rw [jH hy,t1]
   rfl
  rw [es] at c
  unfold mY at c
  simp only [gN,beq_iff_eq] at c
  obtain ⟨f1,_,f3,f4⟩:=c
  obtain ⟨⟨la0,k1⟩,k2,k3,k4⟩:=It (id:=x0.1) t2 f1
  rw [f3] at k4
  rw [tK.1 f4] at k1
  have k1:gr [] (uq x0) ([],0,0)=((gp y x0.1).2.2.1,la0,0):=k1
  have k2:∀ b,eF b (uq x0)=[]:=k2
  have k3:bM (uq x0)=[]:=k3
  have k4:∀ p ∈ uq x0,LE.le (α:=Int) p.2.2.2.1.2.1 (gp y x0.1).2.1:=k4
  obtain ⟨g1,g2⟩:=vu z
  have hz:(gr [] (jc L') ((gp y x0.1).2.2.1,(gp y x0.1).2.1,0)).2.2=0:=by rw [g1]
  obtain ⟨l1,l2,l3⟩:=zt (jc L') [] ((gp y x0.1).2.2.1,(gp y x0.1).2.1,0) hz
  have ela:(gr [] (jc L') ((gp y x0.1).2.2.1,(gp y x0.1).2.1,0)).2.1=(eH ((gp y x0.1).2.2.1,((gp y x0.1).2.1,(0,()))) (jc L')).2.1:=by rw [g1]
  have hmark:∃ mk:Ty.d b7,bm mk=true∧mk.2.1=(gp y x0.1).2.1:=by
   rw [← f3]
   have hb:(fv x0.1 (aX x0.2)).2=true:=f1
   have hok2:∀ x ∈ (az (aX x0.2)).1,bm x.2.2.1=true:=fun x hx=>by
    refine t2 _ ?_
    rw [← (p0 t2).1]
    exact List.mem_map.2 ⟨x,hx,rfl⟩
   unfold fv at hb ⊢
   cases w1:(az (aX x0.2)).2 != ((aX x0.2).size:Int) with
   | true=>rw [w1] at hb;cases hb
   | false =>
    rw [w1] at hb
    simp only [aK] at hb ⊢
    generalize (az (aX x0.2)).1=l at hb hok2 ⊢
    cases w2:l.length==0 with
    | true=>rw [w2] at hb;cases hb
    | false =>
     rw [w2] at hb
     simp only [aK] at hb ⊢
     have hne:l.length≠0:=by simpa using w2
     have hm:l.getD (l.length-1) (Ty.z c_) ∈ l:=by
      show (l[l.length-1]?).getD _ ∈ l
      rw [List.getElem?_eq_getElem (by omega)]
      exact List.getElem_mem _
     generalize l.getD (l.length-1) (Ty.z c_)=mk at hb hm ⊢
     refine ⟨mk.2.2.1,hok2 _ hm,?_⟩
     revert hb
     cases mk.2.2.1.1 != 5 <;> cases !decide ((1:Int)≤x0.1∧x0.1≤100000) <;> cases nJ (nZ mk.2.2.1.2.1) none (l.take (l.length-1)) <;> cases gV mk.2.2.1 (b8 x0.1 (l.take (l.length-1))) <;> intro hb <;> first | rfl | cases hb
  obtain ⟨mk,m1,m2⟩:=hmark
  have mb:=tV m1
  rw [m2] at mb
  have l3:=l3 1000000 mb.2 fun p hp=>(tV (hok p (by rw [epl];exact List.mem_append_right _ hp))).2
  rw [ela] at l1 l2 l3
  have l1:LE.le (α:=Int) (gp y x0.1).2.1 (eH ((gp y x0.1).2.2.1,((gp y x0.1).2.1,(0,()))) (jc L')).2.1:=l1
  refine fin _ _ ?_ ?_ (Int.le_trans mb.1 l1) l3 fun p hp=>?_
  · rw [epl,rT,k1]
    have q:=HQ k2 k3 (jc L') [] ((gp y x0.1).2.2.1,la0,0)
    rw [List.append_nil] at q
    rw [List.nil_append,q]
    obtain ⟨v1,v2⟩:=E_ (jc L') [] (gp y x0.1).2.2.1 la0 (gp y x0.1).2.1 0
    rw [g1] at v1 v2
    exact ⟨(gr [] (jc L') ((gp y x0.1).2.2.1,la0,0)).2.1,Prod.ext v1 (Prod.ext rfl v2)⟩
  · rw [epl,mB,k3]
    exact g2
  · rw [epl] at hp
    rcases List.mem_append.1 hp with w | w
    · exact Int.le_trans (k4 p w) l1
    · exact l2 p w
theorem GK {d:Ty.d aA} (ht:(aT d J0).2=true) (z:(jZ d).2.2=0):MI (jZ d).1 (jZ d).2.1:=by
 have ht:(aT d dm).2=true:=ht
 have hdk:gd d=true:=by
  unfold aT at ht
  cases c:gd d with
  | true=>rfl
  | false=>rw [c] at ht;cases ht
 have hd:=jQ.1 hdk
 unfold jZ at z ⊢
 rw [hdk] at z ⊢
 simp only [fh,aK] at z ⊢
 cases c1:d.2.2.2.1 with
 | true=>rw [c1] at z;exact absurd z (by show (1:Int)≠0;decide)
 | false =>
  rw [c1,ht] at z
  rw [ht]
  simp only [fh,aK] at z ⊢
  rcases jD (fun v=>cS v=true) cE ((0,([],())):Ty.d cY) (aT d dm).1 with ⟨v,h1,h2,e⟩ | e
  · have e:fM (aT d dm).1=(v,true):=e
    rw [e] at z ⊢
    simp only [fh,aK] at z ⊢
    obtain ⟨_,_,hv1,hv2,_⟩:=bQ (nx:=v.1) (ids:=v.2.1) h1
    obtain ⟨n1,n2,n3,n4⟩:=iE (n:=v.1) (ids:=v.2.1) h1
    unfold pR at z ⊢
    cases cg:iW d v.2.1 with
    | false=>rw [cg] at z;exact absurd z (by show (3:Int)≠0;decide)
    | true =>
     rw [cg] at z
     simp only [fh,aK] at z ⊢
     cases cf:(fN (aZ v.2.1) d).2 != 0 with
     | true =>
      rw [cf] at z
      have z:iH (fN (aZ v.2.1) d).2=0:=z
      have:=iF (fN (aZ v.2.1) d).2
      rw [z] at this
      rw [show ((fN (aZ v.2.1) d).2 != 0)=!((fN (aZ v.2.1) d).2==0) from rfl,← this] at cf
      cases cf
     | false =>
      rw [cf] at z
      simp only [aK] at z ⊢
      have fz:=gu cf
      have fx:=Gy (aZ v.2.1) hd
      have ftx:=fun s=>Gs hd (x:=aZ v.2.1) fz s
      have flive:fT (fN (aZ v.2.1) d).1 dm=fT d dm∧((az (dq (fN (aZ v.2.1) d).1 (aZ v.2.1))).2=((dq (fN (aZ v.2.1) d).1 (aZ v.2.1)).size:Int))∧∀ x ∈ v.2.1,x≠aZ v.2.1→aT (fN (aZ v.2.1) d).1 (a_ aF x)=aT d (a_ aF x):=by
       have hlast:aZ v.2.1 ∈ v.2.1:=by
        rw [lT hv1]
        exact List.mem_append_right _ (by rw [← lT hv1];exact List.mem_singleton.2 rfl)
       obtain ⟨b1,b2⟩:=n3 _ hlast
       obtain ⟨c1',c2',c3'⟩:=iv fz
       have hs:=iw (dq d (aZ v.2.1))
       rw [show fN (aZ v.2.1) d=_ from c2']
       by_cases hb:(az (dq d (aZ v.2.1))).2<((dq d (aZ v.2.1)).size:Int)
       · simp only [aO hb,ac] at c1' c3' ⊢
         have hy:=wM hd (a_ aF (aZ v.2.1)) (az (dq d (aZ v.2.1))).2
         have et:=fun s=>(q8 hy c3' s).trans (wD hd c1' s)
         refine ⟨kw.trans ?_,?_,fun x hx hn=>?_⟩
         · have h1:=wD hd c1' dm
           rw [kP (iS ⟨b1,by omega⟩),aK] at h1
           have q1:=jH hy dm
           have q2:=qh hy dm
           have q3:=jH hd dm
           have q4:=qh hd dm
           rw [h1] at q1 q2
           rw [q1] at q3
           rw [q2] at q4
           cases w1:fT (xF d (a_ aF (aZ v.2.1)) (az (dq d (aZ v.2.1))).2).1 dm with
           | none =>
            cases w2:fT d dm with
            | none=>rfl
            | some t=>rw [w1,w2] at q4;cases q4
           | some s =>
            cases w2:fT d dm with
            | none=>rw [w1,w2] at q4;cases q4
            | some t=>rw [w1,w2] at q3;exact congrArg some q3
         · have ew:=et (a_ aF (aZ v.2.1))
           rw [bV,ac] at ew
           show (az (aT _ _).1).2=((aT _ _).1.size:Int)
           rw [ew]
           show (az (ByteArray.extract (dq d (aZ v.2.1)) 0 _)).2=((ByteArray.extract (dq d (aZ v.2.1)) 0 _).size:Int)
           rw [yV,qQ _ (by omega)]
           omega
         · rw [et,kP fun q=>hn ?_]
           · rfl
           · by_cases w:x=aZ v.2.1
             · exact w
             · exact absurd q (mn ⟨(n3 x hx).1,J9 (n3 x hx).2 n2⟩ ⟨b1,by omega⟩ w)
       · simp only [aP hb,aK] at c1' c3' ⊢
         refine ⟨kw,?_,fun x hx hn=>q8 hd c3' _⟩
         show (az (aT _ _).1).2=((aT _ _).1.size:Int)
         rw [q8 hd c3']
         show (az (dq d (aZ v.2.1))).2=((dq d (aZ v.2.1)).size:Int)
         omega
      obtain ⟨f1,f2,f3⟩:=flive
      have gJ:∀ (L:q7),v.2.1=L.map (·.1)→(∀ x ∈ L,fT (fN (aZ v.2.1) d).1 (a_ aF x.1)=some (aX x.2)∧∀ r ∈ x.2,bm r=true)→(ji (fN (aZ v.2.1) d).1 v.2.1).2.2.1=0→JT (jc L) (ji (fN (aZ v.2.1) d).1 v.2.1).1 (aJ ((ji (fN (aZ v.2.1) d).1 v.2.1).2.1+1)):=fun L e1 e2 e3=>by
       have hL:1≤L.length:=by
        rw [e1,List.length_map] at hv1
        exact hv1
       rw [e1] at fx e2 e3 ⊢
       exact Ir fx hL e2 e3
      unfold tF at z ⊢
      generalize ji (fN (aZ v.2.1) d).1 v.2.1=g at z gJ ⊢
      cases cq:g.2.2.1 != 0 with
      | true=>rw [cq] at z;exact absurd z (by show (3:Int)≠0;decide)
      | false =>
       rw [cq] at z
       simp only [aK] at z ⊢
       cases cs:(gm v.2.1 (fN (aZ v.2.1) d).1).2 != 0 with
       | true =>
        rw [cs] at z
        have z:iH (gm v.2.1 (fN (aZ v.2.1) d).1).2=0:=z
        have:=iF (gm v.2.1 (fN (aZ v.2.1) d).1).2
        rw [z] at this
        rw [show ((gm v.2.1 (fN (aZ v.2.1) d).1).2 != 0)=!((gm v.2.1 (fN (aZ v.2.1) d).1).2==0) from rfl,← this] at cs
        cases cs
       | false =>
        simp only [aK]
        have hx:=pN v.2.1 _ fx
        have sk:∀ t:ByteArray,(t=dm∨∃ x ∈ v.2.1,1≤x∧x≤100000∧t=a_ aF x)→fT (gm v.2.1 (fN (aZ v.2.1) d).1).1 t=fT (fN (aZ v.2.1) d).1 t:=fun t=>DC
        have sS:∀ i ∈ v.2.1,fT (gm v.2.1 (fN (aZ v.2.1) d).1).1 (a_ aF i)=fT (fN (aZ v.2.1) d).1 (a_ aF i):=fun i hi=>sk _ (.inr ⟨i,hi,(n3 i hi).1,J9 (n3 i hi).2 n2,rfl⟩)
        obtain ⟨t1,_,_⟩:=vq cg
        have hfull:∀ i ∈ v.2.1,∃ t,fT (fN (aZ v.2.1) d).1 (a_ aF i)=some t∧FL t:=fun i hi=>by
         have h1:(aT (fN (aZ v.2.1) d).1 (a_ aF i)).2=true:=by rw [(ftx _).1];exact t1 i hi
         rw [qh fx] at h1
         obtain ⟨t,ht⟩:=Option.isSome_iff_exists.1 h1
         refine ⟨t,ht,EF ?_⟩
         have h2:(az (dq (fN (aZ v.2.1) d).1 i)).2=((dq (fN (aZ v.2.1) d).1 i).size:Int):=by
          by_cases w:i=aZ v.2.1
          · rw [w];exact f2
          · have:=yE cg i hi w
            unfold dq at this ⊢
            rw [f3 i hi w]
            exact this
         unfold dq at h2
         rw [jH fx,ht] at h2
         exact h2
        obtain ⟨L,l1,l2⟩:=A0 hfull
        have hlast:aZ v.2.1 ∈ v.2.1:=by
         rw [lT hv1]
         exact List.mem_append_right _ (by rw [← lT hv1];exact List.mem_singleton.2 rfl)
        refine ⟨L,⟨h1,hx,l1,fun x hx'=>⟨?_,(l2 x hx').2⟩,fun t q=>?_⟩,gJ L l1 l2 (gu cq)⟩
        · rw [sS x.1 (by rw [l1];exact List.mem_map.2 ⟨x,hx',rfl⟩)]
          exact (l2 x hx').1
        · have q:fT (gm v.2.1 (fN (aZ v.2.1) d).1).1 (a_ aF (aZ v.2.1))=some t:=q
          rw [sS _ hlast] at q
          show (az (dq d (aZ v.2.1))).2=(t.size:Int)
          have e3:az (dq (fN (aZ v.2.1) d).1 (aZ v.2.1))=az (dq d (aZ v.2.1)):=(ftx _).2
          rw [← e3,f2]
          unfold dq
          rw [jH fx,q]
          rfl
  · rw [show fM (aT d dm).1=((0,([],())),false) from e] at z
    exact absurd z (by show (3:Int)≠0;decide)
theorem IK {d:Ty.d aA} {s:ByteArray} (z:(vQ d s).2=0):fT (vQ d s).1 s=some ByteArray.empty:=by
 obtain ⟨c1,c2⟩:=oH (d:=d) (g:=th s) z
 unfold fT
 show (bh (ik d (th s)).1.1 s).map _=_
 rw [c2]
 unfold th at c1 ⊢
 cases c3:jr s with
 | false=>rw [c3] at c1;cases c1
 | true =>
  rw [c3] at c1
  simp only [fh,aK] at c1 ⊢
  cases c4:(bh d.1 s) with
  | some f=>rw [c4] at c1;cases c1
  | none =>
   rw [c4] at c1
   simp only [Option.isSome_none,aK] at c1 ⊢
   cases c5:decide ((d.1.length:Int)≥130) with
   | true=>rw [c5] at c1;cases c1
   | false =>
    simp only [aK]
    rw [vA (f:=(s,(ByteArray.empty,(0,())))) c4,bV]
    rfl
theorem ID {d:Ty.d aA} (z:(jZ d).2.2=0):MI (jZ d).1 (jZ d).2.1:=by
 cases ht:(aT d J0).2 with
 | true=>exact GK ht z
 | false =>
  have ht:(aT d dm).2=false:=ht
  cases hdk:gd d with
  | false =>
   rw [Gi hdk] at z
   exact absurd z (by show (4:Int)≠0;decide)
  | true =>
   have hd:=jQ.1 hdk
   unfold jZ at z ⊢
   rw [hdk] at z ⊢
   simp only [fh,aK] at z ⊢
   cases c1:d.2.2.2.1 with
   | true=>rw [c1] at z;exact absurd z (by show (1:Int)≠0;decide)
   | false =>
    rw [c1,ht] at z
    rw [ht]
    simp only [uV,ac,aK] at z ⊢
    unfold oU at z ⊢
    cases c2:(jW d).2==0 with
    | false =>
     rw [c2] at z
     have z:iH (jW d).2=0:=z
     have:=iF (jW d).2
     rw [z,c2] at this
     cases this
    | true =>
     simp only [ac]
     have c2:(jW d).2=0:=Hi c2
     have hD:DR (jW d).1:=im (im (pN [] d hd) fun x hx=>za hx _) (jf uI)
     have ht1:fT (jW d).1 (a_ aF 1)=some ByteArray.empty:=by
      unfold jW at c2 ⊢
      obtain ⟨z1,z2,_⟩:=iv c2
      rw [z2,gg (gT (by decide)) (iS (by decide))]
      obtain ⟨z3,z4,z5⟩:=iv z1
      rw [z4]
      exact IK z5
     refine ⟨[(1,[])],⟨by decide,hD,rfl,fun x hx=>?_,fun t q=>?_⟩,⟨0,rfl⟩,rfl,fun p hp=>(by cases hp),show (1:Int)≤1 by decide,show (1:Int)≤1000001 by decide⟩
     · rw [List.mem_singleton.1 hx]
       exact ⟨ht1,fun r hr=>by cases hr⟩
     · have q:fT (jW d).1 (a_ aF 1)=some t:=q
       rw [ht1] at q
       rw [← Option.some.inj q]
       rfl
def CL (Q:Ty.d aA→Prop):Prop:=∀ d g,Q d→Q (ik d g).1
theorem n6 {Q:Ty.d aA→Prop} {r:RD} {f:Ty.d aA→RD} (h:Q r.1) (hf:∀ x,Q x→Q (f x).1):Q (gM r f).1:=by
 unfold gM
 cases r.2==0 with
 | true=>exact hf _ h
 | false=>exact h
section
variable {Q:Ty.d aA→Prop} (hQ:CL Q)
include hQ
theorem E5 (s:ByteArray) (d:Ty.d aA) (h:Q d):Q (mD s d).1:=by
 unfold mD
 cases (bh d.1 s).isSome with
 | true=>exact hQ d (B5 s) h
 | false=>exact h
theorem sH (s:ByteArray) (d:Ty.d aA) (h:Q d):Q (bO s d).1:=n6 (E5 hQ s d h) fun x hx=>hQ x (th s) hx
theorem AR (s t:ByteArray) (d:Ty.d aA) (h:Q d):Q (lB s t d).1:=n6 (n6 (sH hQ s d h) fun x hx=>hQ x (AM s t) hx) fun x hx=>hQ x (uf s) hx
theorem ra (v:Ty.d cY) (d:Ty.d aA) (h:Q d):Q (bf v d).1:=n6 (AR hQ _ _ d h) fun x hx=>hQ x (BZ iL dm) hx
theorem n5:∀ (l:List ByteArray) (d:Ty.d aA),Q d→Q (eX l d).1
 | [],d,h=>h
 | s::l,d,h=>n6 (E5 hQ s d h) (n5 l)
theorem Jr (st:Ty.d aE) {d:Ty.d aA} (h:Q d):Q (jb st d).2.1:=by
 have h1:Q (fm d (cj st)).1:=hQ d (uf (cj st)) h
 have h2:=sH hQ (a_ aF st.1.1) _ h1
 have h3:=ra hQ (kK st) _ h2
 unfold jb
 cases decide ((st.1.2.1.length:Int)≥60) with
 | true=>exact h
 | false =>
  cases decide (st.1.1≥(100000:Int)) with
  | true=>exact h
  | false =>
   simp only [aK]
   generalize fm d (cj st)=r1 at h1 h2 h3 ⊢
   generalize bO (a_ aF st.1.1) r1.1=r2 at h2 h3 ⊢
   generalize bf (kK st) r2.1=r3 at h3 ⊢
   cases r1.2 != 0 with
   | true=>exact h1
   | false =>
    cases r2.2 != 0 with
    | true=>exact h2
    | false =>
     cases r3.2 != 0 with
     | true =>
      show Q (np (a_ aF st.1.1) (tl r3)).1
      unfold np
      cases (tl r3).2==2 with
      | false=>exact h3
      | true=>exact n5 hQ _ r3.1 h3
     | false=>exact h3
theorem HB (st:Ty.d aE) {d:Ty.d aA} (h:Q d) (r:Ty.d b7):Q (jN st d r).1.2.1:=by
 have ha:Q (iD d (cj st) (aQ (aG r))).1:=hQ d (AM (cj st) (aQ (aG r))) h
 unfold jN
 generalize iD d (cj st) (aQ (aG r))=a at ha ⊢
 cases a.2 != 0 <;> exact ha
theorem KF (st:Ty.d aE) {d:Ty.d aA} (h:Q d) (r:Ty.d b7):Q (fb st d r).1.2.1:=by
 have h1:=Jr hQ st h
 unfold fb
 cases decide (st.2.2.2.1 > 0)&&decide (st.2.2.2.1+aw r > 200) with
 | false=>exact HB hQ st h r
 | true =>
  simp only [ac]
  generalize jb st d=q at h1 ⊢
  cases q.2.2 != 0 with
  | true=>exact h1
  | false=>exact HB hQ q.1 h1 r
theorem EK:∀ (l:j2) (st:Ty.d aE) (d:Ty.d aA) (ps:aW),Q d→Q (eW l st d ps).1.2.1
 | [],_,_,_,h=>h
 | r::l,st,d,ps,h=>by
  have h1:=KF hQ st h r
  unfold eW
  generalize fb st d r=q at h1 ⊢
  cases q.1.2.2 != 0 with
  | true=>exact h1
  | false=>exact EK l _ _ _ h1
theorem yi (st:Ty.d aE) {d:Ty.d aA} (l:lD) (h:Q d):Q (fp st d l).2.1:=by
 unfold fp
 cases !d9 st d with
 | true=>exact h
 | false =>
  cases !jz l with
  | true=>exact h
  | false =>
   cases (l.length:Int)==0 with
   | true=>exact h
   | false =>
    cases decide (lh st.2.1 l > 20) with
    | true=>exact h
    | false =>
     cases decide (st.2.2.1 > (1000000:Int)) with
     | true=>exact h
     | false =>
      show Q (gD st d l).2.1
      have h1:=EK hQ (iT l st.2.2.1) (pG st) d [] h
      unfold gD
      generalize eW (iT l st.2.2.1) (pG st) d []=q at h1 ⊢
      have h2:Q (fm q.1.2.1 (cj q.1.1)).1:=hQ _ (uf (cj q.1.1)) h1
      unfold sG
      cases q.1.2.2 != 0 with
      | true=>exact h1
      | false =>
       simp only [aK]
       generalize fm q.1.2.1 (cj q.1.1)=y at h2 ⊢
       cases y.2 != 0 <;> exact h2
theorem Iz (nm:ByteArray):∀ (rs:j2) (r:RD),Q r.1→Q (w5 nm rs r).1
 | [],_,h=>h
 | x::rs,r,h=>Iz nm rs _ (n6 h fun y hy=>hQ y (AM nm (aQ (aG x))) hy)
theorem tP (ns:List ByteArray) {r:RD} (h:Q r.1):Q (kY ns r).1:=by
 unfold kY
 cases r.2==2 with
 | true=>exact n5 hQ _ _ h
 | false=>exact h
theorem Bt (st:Ty.d aE) {d:Ty.d aA} (h:Q d):Q (mJ st d).2.1:=by
 unfold mJ
 cases !d9 st d with
 | true=>exact h
 | false =>
  cases decide (st.1.1+2 > (100000:Int)) with
  | true=>exact h
  | false =>
   cases (gf st.2.1 d).2 != 0 with
   | true=>exact h
   | false =>
    show Q (dQ (Hh st.1.1) st d (gf st.2.1 d).1).2.1
    generalize (gf st.2.1 d).1=l
    have a1:Q (fQ st.1.1 l (st.2.2.1-1) d).1:=n6 (Iz hQ _ _ _ (sH hQ _ d h)) fun x hx=>hQ x (uf _) hx
    unfold dQ
    generalize fQ st.1.1 l (st.2.2.1-1) d=a at a1 ⊢
    cases a.2 != 0 with
    | true=>exact tP hQ _ (r:=tl a) a1
    | false =>
     have b1:=sH hQ (a_ aF (st.1.1+1)) a.1 a1
     simp only [aK]
     generalize bO (a_ aF (st.1.1+1)) a.1=b at b1 ⊢
     cases b.2 != 0 with
     | true=>exact tP hQ _ (r:=tl b) b1
     | false =>
      have c1:Q (kn (Hh st.1.1) st.1.1 b.1).1:=by
       unfold kn
       cases (lB (a_ dC st.1.1) (Hh st.1.1 (aT b.1 (a_ aF st.1.1)).1) b.1).2==2 with
       | true=>exact n5 hQ _ _ (AR hQ _ _ _ b1)
       | false=>exact AR hQ _ _ _ b1
      simp only [aK]
      generalize kn (Hh st.1.1) st.1.1 b.1=e at c1 ⊢
      cases e.2 != 0 with
      | true=>exact c1
      | false =>
       have d1:=ra hQ (iM st.1.1) e.1 c1
       simp only [aK]
       generalize bf (iM st.1.1) e.1=f at d1 ⊢
       cases f.2 != 0 with
       | true=>exact tP hQ _ (r:=tl f) d1
       | false =>
        have o:∀ (ids:List Int) (x:Ty.d aA),Q x→Q (ry ids x).1:=by
         intro ids
         induction ids with
         | nil=>exact fun x hx=>hx
         | cons y ids ih=>exact fun x hx=>n6 (n5 hQ _ _ hx) fun z hz=>ih z hz
        exact o _ _ d1
theorem IR {d:Ty.d aA} (h:Q d):Q (jZ d).2.1:=by
 unfold jZ
 cases !gd d with
 | true=>exact h
 | false =>
  cases d.2.2.2.1 with
  | true=>exact h
  | false =>
   cases !(aT d dm).2 with
   | true =>
    have h1:Q (jW d).1:=n6 (n6 (n5 hQ _ d h) fun x hx=>hQ x (th _) hx) fun x hx=>ra hQ uI x hx
    show Q (oU d).2.1
    unfold oU
    cases (jW d).2==0 <;> exact h1
   | false =>
    cases !(fM (aT d dm).1).2 with
    | true=>exact h
    | false =>
     show Q (pR (fM (aT d dm).1).1 d).2.1
     generalize (fM (aT d dm).1).1=v
     unfold pR
     cases !iW d v.2.1 with
     | true=>exact h
     | false =>
      have h1:Q (fN (aZ v.2.1) d).1:=by
       unfold fN
       refine n6 ?_ fun x hx=>hQ x (uf _) hx
       cases decide ((az (dq d (aZ v.2.1))).2<((dq d (aZ v.2.1)).size:Int)) with
       | true=>exact hQ d (FY _ _) h
       | false=>exact h
      simp only [aK]
      cases (fN (aZ v.2.1) d).2 != 0 with
      | true=>exact h1
      | false =>
       simp only [aK]
       generalize ji (fN (aZ v.2.1) d).1 v.2.1=g
       have h2:Q (gm v.2.1 (fN (aZ v.2.1) d).1).1:=n5 hQ _ _ h1
       unfold tF
       cases g.2.2.1 != 0 with
       | true=>exact h1
       | false =>
        simp only [aK]
        cases (gm v.2.1 (fN (aZ v.2.1) d).1).2 != 0 <;> exact h2
end
theorem yH (d:Ty.d aA):(jF d).1.1=d.1∧(dn d=true→dn (jF d).1=true∧(jF d).2≠0)∧(LT.lt (α:=Int) d.2.2.1 0→dn d=false→jF d=(d,0)∨jF d=(d,5)):=by
 unfold jF dn
 cases c0:!gd d with
 | true=>exact ⟨rfl,fun h=>⟨h,by show (5:Int)≠0;decide⟩,fun _ _ => .inr rfl⟩
 | false =>
  simp only [aK]
  cases c1:d.2.2.2.1 with
  | true=>exact ⟨rfl,fun h=>⟨rfl,by show (1:Int)≠0;decide⟩,fun _ h=>by cases h⟩
  | false =>
   simp only [aK]
   cases c2:d.2.2.1==0 with
   | true=>exact ⟨rfl,fun h=>(by cases h),fun h _=>by rw [Hi c2] at h;exact absurd h (by decide)⟩
   | false =>
    cases c3:decide ((d.2.2.1:Int) > 0) with
    | true=>exact ⟨rfl,fun h=>(by cases h),fun h _=>absurd (of_decide_eq_true c3) (Int.not_lt.2 (Int.le_of_lt h))⟩
    | false=>exact ⟨rfl,fun h=>(by cases h),fun _ _ => .inl rfl⟩
theorem Ea:CL fun d=>dn d=true:=fun d g h=>by
 obtain ⟨h1,h2⟩:=(yH d).2.1 h
 unfold ik
 rw [show ((jF d).2 != 0)=true from bne_iff_ne.2 h2]
 exact h1
def FU (d:Ty.d aA):Prop:=LT.lt (α:=Int) d.2.2.1 0∧dn d=false
theorem zg:CL FU:=fun d g h=>by
 unfold ik
 rcases (yH d).2.2 h.1 h.2 with e | e
 · rw [e];exact h
 · rw [e];exact h
theorem FT {st:Ty.d aE} {d:Ty.d aA} {l:lD} (h:dn (fp st d l).2.1=false):dn d=false:=by
 cases c:dn d with
 | false=>rfl
 | true=>rw [yi Ea st l c] at h;cases h
theorem Gf {st:Ty.d aE} {d:Ty.d aA} (h:dn (mJ st d).2.1=false):dn d=false:=by
 cases c:dn d with
 | false=>rfl
 | true=>rw [Bt Ea st c] at h;cases h
theorem K2 {st:Ty.d aE} {d d':Ty.d aA} (h:MI st d) (hd:DR d') (e:d'.1=d.1):MI st d':=by
 obtain ⟨L,t,j⟩:=h
 have k:∀ s,fT d' s=fT d s:=fun s=>by unfold fT;rw [e]
 exact ⟨L,⟨t.live,hd,t.ids,fun x hx=>⟨(k _).trans (t.text x hx).1,(t.text x hx).2⟩,fun s q=>t.tail s ((k _).symm.trans q)⟩,j⟩
abbrev gl:=List (Ty.d dE)
def jO (l:gl) (id:Int):ByteArray:=match l with
 | []=>⟨#[]⟩
 | p::r=>bif p.1==id then p.2.1 else jO r id
theorem rq {k:Nat} (hk:2 ^ 50≤k) (f:Ty.d ay) (id:Int) (hl:f.2.1.length≤1099511627775):gR.f k f id=some (jO f.2.1 id,()):=by
 unfold gR.f gR.t
 refine eG (L:=fun n i (_:Unit)=>gR.l0 k n id f.2.1 f.2.1.length i) (R:=fun r _=>some (jO r id,())) (Ty.z dE) f.2.1 (fun _ _=>True) (fun n s hs=>?_) (fun n i s x rest h0 h1 hx hr hp ih=>?_) (n:=k) (s:=()) (by omega) trivial
 · simp (disch:=omega) only [gR.l0,gR.b0,aP,aK,jO]
 · simp (disch:=omega) only [gR.l0,gR.b0,aO,ac,aH,hx,aD,jO]
   rw [ih () trivial]
   cases x.1==id <;> rfl
theorem tc {l:gl} {id:Int} {b:Nat} (h:∀ p ∈ l,p.2.1.size≤b):(jO l id).size≤b:=by
 induction l with
 | nil=>exact Nat.zero_le _
 | cons p r ih =>
  unfold jO
  cases p.1==id
  · exact ih fun q hq=>h q (lL _ hq)
  · exact h p (jd ..)
def G9 (l:gl):Nat:=(l.map fun p=>p.2.1.size).sum
theorem I0 {l:gl} {p:Ty.d dE} (h:p ∈ l):p.2.1.size≤G9 l:=by
 unfold G9
 induction l with
 | nil=>cases h
 | cons q l ih =>
  rw [List.map_cons,List.sum_cons]
  rcases List.mem_cons.1 h with e | e
  · subst e;omega
  · have:=ih e;omega
abbrev Dm:=List (Ty.d mN)
def xd (f:gl):Dm→gl→List Int→Option (gl × List Int)
 | [],out,ids=>some (out,ids)
 | b::l,out,ids=>bif decide ((0:Int)≤b.2.1∧b.2.1≤((jO f b.1).size:Int)) then xd f l (out++[(b.1,(ByteArray.extract (jO f b.1) 0 (Int.toNat b.2.1)++b.2.2.1,()))]) (ids++[b.1]) else none
def E4 (f:Ty.d ay) (next:Int):Option (gl × List Int)→Ty.d ay × Bool × Unit
 | none=>(f,(false,()))
 | some q=>bif !cS (next,(q.2,())) then (f,(false,())) else ((next,(q.1,())),(true,()))
def Hf (f:Ty.d ay) (p:Ty.d ja):Ty.d ay × Bool × Unit:=E4 f p.1 (xd f.2.1 p.2.1 [] [])
def FB (l:gl) (B:Nat):Prop:=∀ p ∈ l,p.2.1.size≤B
def PB (l:Dm) (B:Nat):Prop:=∀ p ∈ l,p.2.2.1.size≤B
theorem wo {k:Nat} (hk:2 ^ 50≤k) {f:Ty.d ay} {p:Ty.d ja} (hf:f.2.1.length≤1000000) (hp:p.2.1.length≤1000000) {B B':Nat} (h1:FB f.2.1 B) (h2:PB p.2.1 B') (hB:B≤1099511627776) (hB':B'≤1099511627776):bK.f k f p=some (Hf f p):=by
 unfold bK.f bK.t
 rw [cD (by omega) (by decide)]
 refine eG (L:=fun n i (s:gl × List Int)=>bK.l0 k n p.2.1 p.2.1.length i f.1 f.2.1 [] 0 f.2.1 f.1 s.1 p.1 s.2 p.1) (R:=fun r s=>some (E4 f p.1 (xd f.2.1 r s.1 s.2))) (Ty.z mN) p.2.1 (fun i s=>(s.1.length:Int)≤i∧(s.2.length:Int)≤i) (fun n s hs=>?_) (fun n i s x rest g0 g1 hx hr hs ih=>?_) (n:=k) (s:=([],[])) (by omega) ⟨by decide,by decide⟩
 · obtain ⟨s1,s2⟩:=hs
   simp only [bK.l0,bK.b0]
   rw [aP (by omega),aK,uD hk (by show s.2.length≤_;omega),ab]
   unfold xd E4
   simp only []
   cases cS (p.1,(s.2,())) <;> rfl
 · obtain ⟨s1,s2⟩:=hs
   have hm:x ∈ p.2.1:=by rw [← hx];exact iJ (by omega)
   have hsz:=tc (id:=x.1) h1
   have hpz:=h2 x hm
   have hez:(ByteArray.extract (jO f.2.1 x.1) 0 (Int.toNat x.2.1)).size≤(jO f.2.1 x.1).size:=by rw [ByteArray.size_extract];omega
   simp only [bK.l0,bK.b0]
   rw [aO g1,ac,aH g0 g1,hx,rq hk _ _ (by show f.2.1.length≤_;omega),ab,lf,ab]
   unfold xd
   simp only []
   by_cases c:(0:Int)≤x.2.1∧x.2.1≤((jO f.2.1 x.1).size:Int)
   · rw [aO c,fh,aK,ac,cM c.1 c.2,e7 (by omega),cD (by omega) (by decide),cD (by omega) (by decide),aD (n:=i+1) (by omega) (by omega)]
     exact ih (s.1++[(x.1,(ByteArray.extract (jO f.2.1 x.1) 0 (Int.toNat x.2.1)++x.2.2.1,()))],s.2++[x.1]) ⟨by simp only [];rw [bv];omega,by simp only [];rw [bv];omega⟩
   · rw [aP c]
     rfl
theorem DD {k:Nat} (hk:2 ^ 50≤k) {f:Ty.d ay} (hf:f.2.1.length≤1048576):bC.f k f f=some (true,()):=by
 unfold bC.f bC.t
 rw [bne_self_eq_false,aK,bne_self_eq_false,aK]
 refine eG (L:=fun n i (_:Unit)=>bC.l0 k n i f.1 f.2.1 f.1 f.2.1) (R:=fun r _=>some (true,())) (Ty.z dE) f.2.1 (fun _ _=>True) (fun n _ _=>?_) (fun n i _ x rest h0 h1 hx hr hp ih=>?_) (n:=k) (s:=()) (by omega) trivial
 · simp only [bC.l0,bC.b0]
   rw [aP (by omega),aK]
 · simp only [bC.l0,bC.b0]
   rw [aO h1,ac]
   repeat rw [aH h0 h1]
   rw [hx,aD (n:=i+1) (by omega) (by omega),bV,beq_self_eq_true]
   exact ih () trivial
theorem xe {k:Nat} (hk:2 ^ 50≤k) {p:Ty.d ja} (hp:p.2.1.length≤1048576):c9.f k p=some (p.2.1.foldl (fun (a:Int) b=>aJ (a+(b.2.2.1.size:Int))) 0,()):=by
 unfold c9.f c9.t
 refine eG (L:=fun n i (s:Int)=>c9.l0 k n s p.2.1 p.2.1.length i) (R:=fun r s=>some (r.foldl (fun (a:Int) b=>aJ (a+(b.2.2.1.size:Int))) s,())) (Ty.z mN) p.2.1 (fun _ _=>True) (fun n s hs=>?_) (fun n i s x rest h0 h1 hx hr hp ih=>?_) (n:=k) (by omega) trivial
 · simp only [c9.l0,c9.b0]
   rw [aP (by omega),aK]
   rfl
 · simp only [c9.l0,c9.b0]
   rw [aO h1,ac,aH h0 h1,hx,aD (n:=i+1) (by omega) (by omega)]
   exact ih _ trivial
noncomputable def m7 (d:Ty.d aA) (f:gl) (id:Int):Ty.d mN :=
 bif tS (aT d (a_ aF id)).1 (jO f id) then (id,(((jO f id).size:Int),(ByteArray.extract (aT d (a_ aF id)).1 (jO f id).size (aT d (a_ aF id)).1.size,()))) else (id,(0,((aT d (a_ aF id)).1,())))
noncomputable def lO (st:Ty.d aE) (d:Ty.d aA) (f:gl):Ty.d ja :=
 bif !d9 st d then (0,([],())) else (st.1.1,(st.1.2.1.map (m7 d f),()))
theorem Ep {st:Ty.d aE} {d:Ty.d aA} (h:d9 st d=true):st.1.2.1.length≤60:=by
 unfold d9 cS at h
 simp only [gN,decide_eq_true_eq] at h
 omega
theorem Ai {k:Nat} (hk:2 ^ 50≤k) {st:Ty.d aE} {d:Ty.d aA} {f:Ty.d ay} (hd:zE d) (hw1:st.1.2.1.length≤1048576) (hw:st.2.1.length≤1048576) (hf:f.2.1.length≤1099511627775) (hp:∀ p ∈ f.2.1,p.2.1.size≤1073741824):dA.f k st d f=some (lO st d f.2.1,()):=by
 have:=hd.l;have:=hd.u;have:=hd.n
 unfold dA.f dA.t lO
 rw [zC hk hd (by omega) (by omega),ab]
 cases c:d9 st d with
 | false=>rfl
 | true =>
  have hv:=Ep c
  rw [fh,aK,aK]
  refine eG (L:=fun n i s=>dA.l0 k n st.1.2.1 st.1.2.1.length i d.1 d.2.1 d.2.2.1 d.2.2.2.1 f.1 f.2.1 [] 0 s st.1.1) (R:=fun r s=>some ((st.1.1,(s++r.map (m7 d f.2.1),())),())) (Ty.z (.int .i64)) st.1.2.1 (fun i s=>(s.length:Int)=i) (fun n s hs=>?_) (fun n i s x rest h0 h1 hx hr hs ih=>?_) (n:=k) (s:=[]) (by omega) rfl
  · simp (disch:=omega) only [dA.l0,dA.b0,aP,aK,List.map_nil,List.append_nil]
  · have ih:=ih (s++[m7 d f.2.1 x]) (by rw [bv];omega)
    have hz:=fo d (a_ aF x)
    have ht:=pa hk (d:=d) (by omega) (by omega) (by omega) (a_ aF x)
    have hh:=rq hk f x hf
    have hm:=tc (id:=x) hp
    have hpre:h_.f k (aT d (a_ aF x)).1 (jO f.2.1 x)=some (tS (aT d (a_ aF x)).1 (jO f.2.1 x),()):=by
     unfold h_.f
     rw [II]
    have ha:s++[m7 d f.2.1 x]++rest.map (m7 d f.2.1)=s++(x::rest).map (m7 d f.2.1):=by rw [nn];rfl
    rw [ha] at ih
    simp (disch:=first | omega | decide) only [dA.l0,dA.b0,aO h1,ac,aH,hx,md k,ab,ht,hh,hpre,cD,aD,nt]
    unfold m7 at ih
    cases e:tS (aT d (a_ aF x)).1 (jO f.2.1 x) with
    | true =>
     have hle:=EY e
     rw [ac,cM (by omega) (by omega)]
     rw [e] at ih
     exact ih
    | false =>
     rw [aK]
     rw [e] at ih
     exact ih
noncomputable def nS:gl→aW→Option aW
 | [],acc=>some acc
 | p::r,acc=>bif decide ((az p.2.1).2<(p.2.1.size:Int)) then none else nS r (acc++b8 p.1 (az p.2.1).1)
noncomputable def kU (f:gl):aR→iA→iA × Bool
 | [],acc=>(acc,true)
 | e::r,acc=>bif (dp (jO f e.2.1) e.2.2.1 e.2.2.2.1).2 then kU f r (acc++[((dp (jO f e.2.1) e.2.2.1 e.2.2.2.1).1.2.2.1,((dp (jO f e.2.1) e.2.2.1 e.2.2.2.1).1.2.2.2.1,((dp (jO f e.2.1) e.2.2.1 e.2.2.2.1).1.2.1,())))]) else ([],false)
noncomputable def ot (f:gl):iA × Bool:=match nS f [] with
 | none=>([],false)
 | some l=>bif (eH ([],(0,(0,()))) l).2.2.1 != 0 then ([],false) else kU f (eH ([],(0,(0,()))) l).1 []
theorem xq {k:Nat} (hk:2 ^ 50≤k) (f:Ty.d ay) (hl:f.2.1.length≤134217728) (ht:G9 f.2.1≤134217728):aq.f k f=some ((ot f.2.1).1,((ot f.2.1).2,())):=by
 have hp:∀ p ∈ f.2.1,p.2.1.size≤134217728:=fun p h=>Nat.le_trans (I0 h) ht
 unfold aq.f aq.t ot
 have l1:∀ g:aR,g.length≤268435456→aq.l1 k k g.length 0 f.1 f.2.1 [] g=some ((kU f.2.1 g []).1,((kU f.2.1 g []).2,())):=fun g hg=>by
  refine eG (L:=fun n i s=>aq.l1 k n g.length i f.1 f.2.1 s g) (R:=fun r s=>some ((kU f.2.1 r s).1,((kU f.2.1 r s).2,()))) (Ty.z aB) g (fun i s=>(s.length:Int)=i) (fun n s hs=>?_) (fun n i s x rest h0 h1 hx hr hp' ih=>?_) (n:=k) (s:=[]) (by omega) (by decide)
  · simp (disch:=omega) only [aq.l1,aq.b1,aP,aK,kU]
  · have hh:=rq hk (f.1,(f.2.1,())) x.2.1 (by simp only [];omega)
    have hz:=tc (id:=x.2.1) hp
    have hr':=t6 hk (s:=jO f.2.1 x.2.1) x.2.2.1 x.2.2.2.1 (by omega)
    simp (disch:=first | omega | decide) only [aq.l1,aq.b1,aO,ac,aH,hx,hh,hr',ab,cD,aD,kU]
    generalize dp (jO f.2.1 x.2.1) x.2.2.1 x.2.2.2.1=q
    cases c:q.2 with
    | true=>exact ih _ (by rw [bv];omega)
    | false=>rfl
 refine eG (L:=fun n i s=>aq.l0 k n f.2.1 f.2.1.length i f.1 f.2.1 s) (R:=fun r s=>some ((match nS r s with | none=>(([],false):iA × Bool) | some l=>bif (eH ([],(0,(0,()))) l).2.2.1 != 0 then ([],false) else kU f.2.1 (eH ([],(0,(0,()))) l).1 []).1,
  ((match nS r s with | none=>(([],false):iA × Bool) | some l=>bif (eH ([],(0,(0,()))) l).2.2.1 != 0 then ([],false) else kU f.2.1 (eH ([],(0,(0,()))) l).1 []).2,()))) (Ty.z dE) f.2.1 (fun i s=>s.length+G9 (f.2.1.drop i.toNat)≤134217728) (fun n s hs=>?_) (fun n i s x rest h0 h1 hx hr hp' ih=>?_) (n:=k) (s:=[]) (by omega) (by simpa using ht)
 · rw [Int.toNat_natCast,List.drop_length] at hs
   have hs':s.length≤134217728:=by omega
   have hg:=oT (g:=([],(0,(0,())))) (l:=s) hs' (by simp)
   simp (disch:=first | omega | (simp only [List.length_nil];omega)) only [aq.l0,aq.b0,aP,aK,nS,x_ hk,ab]
   generalize eH ([],(0,(0,()))) s=g at *
   cases c:g.2.2.1 != 0
   · rw [aK,aK,l1 _ hg]
   · rfl
 · have hm:x ∈ f.2.1:=List.mem_of_mem_drop (by rw [hr];exact jd ..)
   have hx1:=hp x hm
   have hsc:=iw x.2.1
   have e:=uC hk (s:=x.2.1) (by omega)
   have hrest:f.2.1.drop (i+1).toNat=rest:=by
    have:=congrArg (List.drop 1) hr
    rw [List.drop_drop,List.drop_one,List.tail_cons] at this
    rw [show (i+1).toNat=i.toNat+1 by omega]
    exact this
   rw [hr] at hp'
   have htx:G9 (x::rest)=x.2.1.size+G9 rest:=by unfold G9;rw [List.map_cons,List.sum_cons]
   have hpl:=pW x.1 (az x.2.1).1
   simp (disch:=omega) only [aq.l0,aq.b0,aO h1,ac,aH,hx,e,ab,aD,nS]
   by_cases c:(az x.2.1).2<(x.2.1.size:Int)
   · rw [aO c,show ((az x.2.1).2 != (x.2.1.size:Int))=true from bne_iff_ne.2 (by omega)]
     rfl
   · rw [aP c,show ((az x.2.1).2 != (x.2.1.size:Int))=false from by rw [bne_eq_false_iff_eq];omega]
     simp only [aK]
     rw [xf hk _ (by omega),ab]
     simp only []
     rw [cD (by omega) (by decide)]
     exact ih _ (by rw [hrest,uH];omega)
noncomputable def qi (d:Ty.d aA) (i:Int):Ty.d dE:=(i,((aT d (a_ aF i)).1,()))
noncomputable def m9 (st:Ty.d aE) (d:Ty.d aA):gl:=st.1.2.1.map (qi d)
theorem BW (s:ByteArray):ByteArray.extract s 0 0=⟨#[]⟩:=jV (by rw [jw];rfl)
theorem xM (d:Ty.d aA) (f:gl):∀ (ids:List Int) (out:gl) (acc:List Int),xd f (ids.map (m7 d f)) out acc=some (out++ids.map (qi d),acc++ids)
 | [],out,acc=>by rw [List.map_nil,List.map_nil,List.append_nil,List.append_nil];rfl
 | i::ids,out,acc=>by
  have key:(m7 d f i).1=i∧(0:Int)≤(m7 d f i).2.1∧(m7 d f i).2.1≤((jO f i).size:Int)∧ByteArray.extract (jO f i) 0 (Int.toNat (m7 d f i).2.1)++(m7 d f i).2.2.1=(aT d (a_ aF i)).1:=by
   unfold m7
   cases c:tS (aT d (a_ aF i)).1 (jO f i) with
   | true =>
    refine ⟨rfl,Int.natCast_nonneg _,Int.le_refl _,?_⟩
    show ByteArray.extract (jO f i) 0 (Int.toNat ((jO f i).size:Int))++ByteArray.extract (aT d (a_ aF i)).1 (jO f i).size (aT d (a_ aF i)).1.size=_
    rw [Int.toNat_natCast,tN]
    exact (D3 c).symm
   | false =>
    refine ⟨rfl,Int.le_refl _,Int.natCast_nonneg _,?_⟩
    show ByteArray.extract (jO f i) 0 0++(aT d (a_ aF i)).1=_
    rw [BW]
    exact rG _
  obtain ⟨k1,k2,k3,k4⟩:=key
  rw [List.map_cons,xd,k1,aO ⟨k2,k3⟩,ac,k4,xM d f ids,List.map_cons,nn,nn]
  rfl
theorem Ey {st:Ty.d aE} {d:Ty.d aA} (h:d9 st d=true) (f:Ty.d ay):Hf f (lO st d f.2.1)=((st.1.1,(m9 st d,())),(true,())):=by
 obtain ⟨g1,_,_⟩:=eS h
 unfold Hf lO
 rw [h]
 simp only [fh,aK]
 rw [xM]
 unfold E4
 simp only [List.nil_append]
 rw [show cS (st.1.1,(st.1.2.1,()))=true from g1.live]
 rfl
theorem B4 (d:Ty.d aA) {i:Int}:∀ {ids:List Int},i ∈ ids→jO (ids.map (qi d)) i=(aT d (a_ aF i)).1
 | [],h=>(by cases h)
 | x::ids,h=>by
  rw [List.map_cons]
  show (bif x==i then (aT d (a_ aF x)).1 else jO (ids.map (qi d)) i)=_
  cases c:x==i with
  | true=>rw [Hi c];rfl
  | false =>
   rcases List.mem_cons.1 h with w | w
   · rw [w,beq_self_eq_true] at c;cases c
   · exact B4 d w
theorem tq (d:Ty.d aA):∀ (ids:List Int) (acc:aW),(∀ i ∈ ids,(az (dq d i)).2=((dq d i).size:Int))→nS (ids.map (qi d)) acc=some (acc++mE d ids)
 | [],acc,_=>by rw [List.map_nil];show some acc=some (acc++[]);rw [List.append_nil]
 | i::ids,acc,h=>by
  have hi:=h i jd
  unfold dq at hi
  rw [List.map_cons,nS]
  rw [show (qi d i).2.1=(aT d (a_ aF i)).1 from rfl,aP (by omega),aK,tq d ids _ fun j hj=>h j (lL _ hj),nn]
  rfl
theorem xV {d:Ty.d aA} {f:gl}:∀ (dir:aR) (acc:iA),(∀ e ∈ dir,dp (jO f e.2.1) e.2.2.1 e.2.2.2.1=fR d e∧(fR d e).2=true∧(fR d e).1.2.2.1=e.1) →
 kU f dir acc=(acc++dir.map (fun e=>(e.1,((fR d e).1.2.2.2.1,((fR d e).1.2.1,())))),true)
 | [],acc,_=>by rw [List.map_nil,List.append_nil];rfl
 | e::dir,acc,h=>by
  obtain ⟨h1,h2,h3⟩:=h e jd
  unfold kU
  rw [h1,h2,ac,h3,xV dir _ fun x hx=>h x (lL _ hx),nn]
  rfl
theorem Bv {st:Ty.d aE} {d:Ty.d aA} (h:MI st d):ot (m9 st d)=((gf st.2.1 d).1,true):=by
 obtain ⟨hs,he⟩:=h.store
 obtain ⟨L,t,j⟩:=h
 obtain ⟨la,hg⟩:=j.gr
 have hfull:∀ i ∈ st.1.2.1,(az (dq d i)).2=((dq d i).size:Int):=fun i hi=>by
  obtain ⟨s,h1,h2⟩:=t.bt.full i hi
  unfold dq
  rw [jH t.disk,h1]
  exact yq h2
 have e1:mE d st.1.2.1=jc L:=by rw [t.ids];exact sV t.disk t.text
 obtain ⟨ep,_,_⟩:=GZ (jc L) (jc L) [] ([],0,0) (fun p hp=>by cases hp) (fun p hp=>hp) (fun e he=>by cases he) List.Pairwise.nil (by decide) (by rw [hg])
 rw [hg] at ep
 have ep:EP (jc L) st.2.1:=ep
 unfold ot m9
 rw [tq d st.1.2.1 [] hfull,List.nil_append,e1]
 simp only []
 rw [Cz hg j.mark]
 simp only [bne_self_eq_false,aK]
 rw [xV (d:=d) st.2.1 [] fun e he=>?_,List.nil_append,vE hs]
 obtain ⟨p,hp,q,_⟩:=ep e he
 have pi:=tA t hp
 obtain ⟨x,hx,s,_,ex⟩:=tT hp
 have hi:p.1 ∈ st.1.2.1:=by
  rw [ex,t.ids]
  exact List.mem_map.2 ⟨x,hx,rfl⟩
 have e2:e.2.1=p.1:=by rw [q];rfl
 rw [q,pi.read]
 refine ⟨?_,rfl,rfl⟩
 rw [show (eP p).2.1=p.1 from rfl,B4 d hi]
 exact pi.read
def JE (l:Dm):Int:=l.foldl (fun (a:Int) b=>aJ (a+(b.2.2.1.size:Int))) 0
theorem GN:∀ (l m:Dm) (a b:Int),l.length=m.length→(∀ p ∈ l.zip m,p.1.2.2.1.size≤p.2.2.2.1.size)→PB m 100000→0≤a→a≤b→b+100000*(m.length:Int)≤1000000000000 →
 0≤l.foldl (fun (a:Int) b=>aJ (a+(b.2.2.1.size:Int))) a∧l.foldl (fun (a:Int) b=>aJ (a+(b.2.2.1.size:Int))) a≤m.foldl (fun (a:Int) b=>aJ (a+(b.2.2.1.size:Int))) b∧m.foldl (fun (a:Int) b=>aJ (a+(b.2.2.1.size:Int))) b≤b+100000*(m.length:Int)
 | [],[],a,b,_,_,_,h0,h1,_=>⟨h0,h1,by show b≤b+100000*((0:Nat):Int);omega⟩
 | [],y::m,a,b,h,_,_,_,_,_=>by cases h
 | x::l,[],a,b,h,_,_,_,_,_=>by cases h
 | x::l,y::m,a,b,h,hp,hm,h0,h1,h2=>by
  have hxy:x.2.2.1.size≤y.2.2.1.size:=hp (x,y) jd
  have hy:=hm y jd
  have hl:l.length=m.length:=by simpa using h
  have hlm:((y::m).length:Int)=(m.length:Int)+1:=by rw [kJ];omega
  rw [hlm] at h2 ⊢
  rw [List.foldl_cons,List.foldl_cons,aD (n:=a+(x.2.2.1.size:Int)) (by omega) (by omega),aD (n:=b+(y.2.2.1.size:Int)) (by omega) (by omega)]
  obtain ⟨i1,i2,i3⟩:=GN l m (a+(x.2.2.1.size:Int)) (b+(y.2.2.1.size:Int)) hl (fun p hq=>hp p (lL _ hq)) (fun p hq=>hm p (lL _ hq)) (by omega) (by omega) (by omega)
  exact ⟨i1,i2,by omega⟩
theorem ES {d:Ty.d aA} (hd:DR d) (s:ByteArray):(aT d s).1.size≤100000:=by
 have h:LE.le (α:=Int) (e6 d.1:Int) 100000:=Int.le_trans hd.use hd.cap1
 have:=fo d s
 omega
theorem HX {d:Ty.d aA} (f:gl) (i:Int):(m7 d f i).2.2.1.size≤(aT d (a_ aF i)).1.size:=by
 unfold m7
 cases tS (aT d (a_ aF i)).1 (jO f i) with
 | true=>exact zo _ _ _
 | false=>exact Nat.le_refl _
theorem I_ (d:Ty.d aA) (i:Int):(m7 d [] i).2.2.1.size=(aT d (a_ aF i)).1.size:=by
 unfold m7
 have h:tS (aT d (a_ aF i)).1 ⟨#[]⟩=true:=by
  unfold tS
  rw [aO (show (⟨#[]⟩:ByteArray).size≤_ from Nat.zero_le _)]
  show seq (ByteArray.extract _ 0 0) ⟨#[]⟩=true
  rw [BW]
  exact bV _
 rw [show jO [] i=⟨#[]⟩ from rfl,h]
 show (ByteArray.extract (aT d (a_ aF i)).1 0 (aT d (a_ aF i)).1.size).size=_
 rw [tN]
theorem IH {st:Ty.d aE} {d:Ty.d aA} (h:d9 st d=true) (f:gl):0≤JE (lO st d f).2.1∧JE (lO st d f).2.1≤JE (lO st d []).2.1∧JE (lO st d []).2.1≤6000000:=by
 obtain ⟨g1,_,_⟩:=eS h
 have hd:DR d:=g1.disk
 have h60:st.1.2.1.length≤60:=(bQ (nx:=st.1.1) (ids:=st.1.2.1) g1.live).2.2.2.1
 unfold lO JE
 rw [h]
 simp only [fh,aK]
 have hz:∀ ids:List Int,∀ p ∈ (ids.map (m7 d f)).zip (ids.map (m7 d [])),p.1.2.2.1.size≤p.2.2.2.1.size:=by
  intro ids
  induction ids with
  | nil=>exact fun p hp=>by cases hp
  | cons i ids ih =>
   intro p hp
   rw [List.map_cons,List.map_cons,List.zip_cons_cons] at hp
   rcases List.mem_cons.1 hp with w | w
   · rw [w]
     show (m7 d f i).2.2.1.size≤(m7 d [] i).2.2.1.size
     rw [I_]
     exact HX f i
   · exact ih p w
 have hPB:PB (st.1.2.1.map (m7 d [])) 100000:=fun p hp=>by
  obtain ⟨i,_,rfl⟩:=List.mem_map.1 hp
  exact Nat.le_trans (HX [] i) (ES hd _)
 obtain ⟨i1,i2,i3⟩:=GN (st.1.2.1.map (m7 d f)) (st.1.2.1.map (m7 d [])) 0 0 (by rw [List.length_map,List.length_map]) (hz _) hPB (Int.le_refl _) (Int.le_refl _) (by rw [List.length_map];omega)
 rw [List.length_map] at i3
 exact ⟨i1,i2,by omega⟩
theorem Dd {st:Ty.d aE} {d:Ty.d aA} (h:d9 st d=true):(m9 st d).length≤60∧FB (m9 st d) 100000:=by
 obtain ⟨g1,_,_⟩:=eS h
 have hd:DR d:=g1.disk
 have h60:st.1.2.1.length≤60:=(bQ (nx:=st.1.1) (ids:=st.1.2.1) g1.live).2.2.2.1
 unfold m9
 refine ⟨by rw [List.length_map];exact h60,fun p hp=>?_⟩
 obtain ⟨i,_,rfl⟩:=List.mem_map.1 hp
 exact ES hd _
theorem Ar {hb:ByteArray→ByteArray} {st:Ty.d aE} {d:Ty.d aA} {l:iA} (hd:DR d) (hl:cS st.1=true) (hn:LE.le (α:=Int) (st.1.1+2) 100000) (hdir:st.2.1.length≤268435456) (hlen:l.length≤268435456) :
 DR (dQ hb st d l).2.1∧(dQ hb st d l).1.1.2.1.length≤60∧(dQ hb st d l).1.2.1.length≤268435456:=by
 have h60:st.1.2.1.length≤60:=(bQ (nx:=st.1.1) (ids:=st.1.2.1) hl).2.2.2.1
 have hs:DR (dQ hb (st.1,([],st.2.2)) d l).2.1∧(dQ hb (st.1,([],st.2.2)) d l).1.1.2.1.length≤60:=by
  have hIV:IV ((st.1,([],st.2.2)),(d,0)):=⟨hd,h60,Nat.zero_le _,fun x hx=>(by cases hx),Int.natCast_nonneg _⟩
  obtain ⟨q1,_⟩:=Ek (hb:=hb) hIV hl hn (l:=l) hlen
  exact ⟨q1.disk,q1.ids⟩
 have he:=sQ st.1.1 l 0
 unfold dQ at hs ⊢
 simp only [] at hs
 generalize fQ st.1.1 l (st.2.2.1-1) d=a at hs ⊢
 cases ca:a.2 != 0 with
 | true=>rw [ca] at hs;exact ⟨hs.1,hs.2,hdir⟩
 | false =>
  rw [ca] at hs
  simp only [aK] at hs ⊢
  generalize bO (a_ aF (st.1.1+1)) a.1=b at hs ⊢
  cases cb:b.2 != 0 with
  | true=>rw [cb] at hs;exact ⟨hs.1,hs.2,hdir⟩
  | false =>
   rw [cb] at hs
   simp only [aK] at hs ⊢
   generalize kn hb st.1.1 b.1=e at hs ⊢
   cases ce:e.2 != 0 with
   | true=>rw [ce] at hs;exact ⟨hs.1,hs.2,hdir⟩
   | false =>
    rw [ce] at hs
    simp only [aK] at hs ⊢
    generalize bf (iM st.1.1) e.1=f at hs ⊢
    cases cf:f.2 != 0 with
    | true=>rw [cf] at hs;exact ⟨hs.1,hs.2,hdir⟩
    | false =>
     rw [cf] at hs
     exact ⟨hs.1,hs.2,by show (lF st.1.1 l 0).length≤_;rw [he];exact hlen⟩
theorem Cm {st:Ty.d aE} {d:Ty.d aA} (hd:DR d) (h1:st.1.2.1.length≤60) (h2:st.2.1.length≤268435456) :
 DR (mJ st d).2.1∧(mJ st d).1.1.2.1.length≤60∧(mJ st d).1.2.1.length≤268435456:=by
 unfold mJ
 cases c1:d9 st d with
 | false=>exact ⟨hd,h1,h2⟩
 | true =>
  obtain ⟨g1,g2,g3⟩:=eS c1
  simp only [fh,aK]
  by_cases c2:st.1.1+2 > (100000:Int)
  · rw [aO c2]
    exact ⟨hd,h1,h2⟩
  · rw [aP c2]
    simp only [aK]
    have hz:=ny st.2.1 d
    cases (gf st.2.1 d).2 != 0 with
    | true=>exact ⟨hd,h1,h2⟩
    | false=>exact Ar hd g1.live (Int.not_lt.1 c2) h2 (by omega)
theorem D_ (s:ByteArray):(fM s).1.2.1.length≤60:=by
 rcases jD (fun v=>cS v=true) cE ((0,([],())):Ty.d cY) s with ⟨r,h1,h2,h3⟩ | h
 · unfold fM
   rw [h3]
   exact (bQ (nx:=r.1) (ids:=r.2.1) h1).2.2.2.1
 · unfold fM
   rw [h]
   exact Nat.zero_le _
theorem GM {d:Ty.d aA}:(jZ d).1.1.2.1.length≤60:=by
 have hv:=D_ (aT d dm).1
 unfold jZ
 cases gd d with
 | false=>exact Nat.zero_le _
 | true =>
  cases d.2.2.2.1 with
  | true=>exact Nat.zero_le _
  | false =>
   cases (aT d dm).2 with
   | false =>
    show (oU d).1.1.2.1.length≤60
    unfold oU
    cases (jW d).2==0
    · exact Nat.zero_le _
    · show 1≤60
      decide
   | true =>
    simp only [fh,aK]
    cases (fM (aT d dm).1).2 with
    | false=>exact Nat.zero_le _
    | true =>
     simp only [fh,aK]
     generalize (fM (aT d dm).1).1=v at hv ⊢
     unfold pR
     cases iW d v.2.1 with
     | false=>exact Nat.zero_le _
     | true =>
      simp only [fh,aK]
      cases (fN (aZ v.2.1) d).2 != 0 with
      | true=>exact Nat.zero_le _
      | false =>
       simp only [aK]
       generalize ji (fN (aZ v.2.1) d).1 v.2.1=g
       unfold tF
       cases g.2.2.1 != 0 with
       | true=>exact Nat.zero_le _
       | false =>
        simp only [aK]
        cases (gm v.2.1 (fN (aZ v.2.1) d).1).2 != 0 with
        | true=>exact Nat.zero_le _
        | false=>exact hv
def TV (t:Ty.d du):Prop:=t.2.1.length≤20∧t.2.2.1.length≤50
structure EV (F:Prop) (e:Ty.d dc):Prop where
 ids:e.2.1.1.2.1.length≤60
 dir:e.2.1.2.1.length≤268435456
 disk:DR e.2.2.1
 len:e.2.2.2.1.length≤3
 txn:∀ t ∈ e.2.2.2.1,TV t
 mi:e.1=true→dn e.2.2.1=false→MI e.2.1 e.2.2.1
 fu:F→FU e.2.2.1
theorem Ef:TV (Ty.z du):=⟨Nat.zero_le _,Nat.zero_le _⟩
theorem GB:∀ t ∈ List.replicate 3 (Ty.z du),TV t:=fun t ht=>by
 rw [List.eq_of_mem_replicate ht]
 exact Ef
theorem Dw {F:Prop} {d:Ty.d aA} (h:DR d) (hf:F→FU d):EV F (EW (jZ d)):=by
 obtain ⟨h1,h2⟩:=Cl h
 exact ⟨GM,h2,h1,Nat.le_refl _,GB,fun z _=>ID (Hi z),fun q=>IR zg (hf q)⟩
theorem DG {l:List (Ty.d du)} (h:∀ t ∈ l,TV t) (i:Nat):TV (l.getD i (Ty.z du)):=by
 by_cases c:i<l.length
 · exact h _ (iJ c)
 · have:l.getD i (Ty.z du)=Ty.z du:=by simp [List.getD,c]
   rw [this]
   exact Ef
theorem Jq {l:List (Ty.d du)} (h:∀ t ∈ l,TV t) (i:Nat) {t:Ty.d du} (ht:TV t):∀ x ∈ l.set i t,TV x:=fun x hx=>by
 rcases List.mem_or_eq_of_mem_set hx with q | q
 · exact h x q
 · rw [q];exact ht
theorem xU {F:Prop} {e:Ty.d dc} (h:EV F e) (i:Nat) {t:Ty.d du} (ht:TV t):EV F (e.1,(e.2.1,(e.2.2.1,(e.2.2.2.1.set i t,())))) :=
 ⟨h.ids,h.dir,h.disk,by show (List.set _ _ _).length≤3;rw [List.length_set];exact h.len,Jq h.txn i ht,h.mi,h.fu⟩
theorem qI (k:Nat) {t:Ty.d du} (h:TV t):eJ.f k t=some (t,()):=by
 obtain ⟨h1,h2⟩:=h
 unfold eJ.f eJ.t
 rw [cD (by omega) (by decide),cD (by omega) (by decide),List.nil_append,List.nil_append]
theorem HI {F:Prop} {k:Nat} (hk:2 ^ 50≤k) {e:Ty.d dc} (h:EV F e):eI.f k e=some (e,()):=by
 have h1:=h.ids
 have h2:=h.dir
 have h3:=h.len
 have ec:co.f k e.2.1=some (e.2.1,()):=by
  unfold co.f co.t
  rw [cD (by omega) (by decide),cD (by omega) (by decide),List.nil_append,List.nil_append]
 unfold eI.f eI.t
 rw [ec,ab,jK k h.disk.sz,ab]
 simp only []
 refine (eG (L:=fun n i (s:List (Ty.d du))=>eI.l0 k n i e.2.1.1.2.1 e.2.1.2.1 e.2.2.1.1 e.1 e.2.1.1.1 e.2.1.2.2.1 e.2.1.2.2.2.1 e.2.1.2.2.2.2.1 e.2.2.1.2.1 e.2.2.1.2.2.1 e.2.2.1.2.2.2.1 e.2.2.2.1 [] [] [] [] false 0 0 0 0 0 0 false s) (R:=fun r s=>(some ((e.1,(e.2.1,(e.2.2.1,(s++r,())))),()):eI.Rs)) (Ty.z du) e.2.2.2.1 (fun i s=>(s.length:Int)≤i) (fun n s hs=>?_) (fun n i s x rest g0 g1 hx hr hp ih=>?_) (n:=k) (s:=[]) (by omega) (by decide)).trans (by rw [List.nil_append])
 · simp only [eI.l0,eI.b0]
   rw [aP (by omega),aK,List.append_nil]
 · have hm:x ∈ e.2.2.2.1:=by rw [← hx];exact iJ (by omega)
   simp only [eI.l0,eI.b0]
   rw [aO g1,ac,aH g0 g1,hx,qI k (h.txn x hm),ab,aD (n:=i+1) (by omega) (by omega),cD (by omega) (by decide)]
   refine (ih (s++[x]) (by rw [bv];omega)).trans ?_
   rw [nn]
   rfl
theorem vc {k:Nat} (hk:2 ^ 50≤k) {t:Ty.d du} (h:t.2.2.1.length≤1000) (key:ByteArray):je (dL.f k t key) (fun _=>True):=by
 have loop:∀ (m n:Nat) (i:Int),i+1=(m:Int)→m<n→m≤t.2.2.1.length→je (dL.l0 k n key i t.1 t.2.1 t.2.2.1 ByteArray.empty false ByteArray.empty) (fun _=>True):=by
  intro m
  induction m with
  | zero =>
   intro n i hi hn hm
   obtain ⟨n,rfl⟩:∃ q,n=q+1:=⟨n-1,by omega⟩
   simp only [dL.l0,dL.b0]
   exact kz (aP (by omega)) (ae trivial)
  | succ m ih =>
   intro n i hi hn hm
   obtain ⟨n,rfl⟩:∃ q,n=q+1:=⟨n-1,by omega⟩
   have hw:aJ (i-1)=i-1:=aD (by omega) (by omega)
   simp only [dL.l0,dL.b0,hw]
   exact kE (aO (by omega)) (g_ (by omega) (by omega) (b9 (fun _=>g_ (by omega) (by omega) (ae trivial)) (fun _=>ih n (i-1) (by omega) (by omega) (by omega))))
 unfold dL.f dL.t
 rw [aD (n:=(t.2.2.1.length:Int)-1) (by omega) (by omega)]
 exact loop t.2.2.1.length k _ (by omega) (by omega) (Nat.le_refl _)
theorem tu {k:Nat} (hk:2 ^ 50≤k) {t:Ty.d du} (h:t.2.2.1.length≤1000):je (bI.f k t) (fun r=>r.1.length≤1000):=by
 have loop:∀ (m n:Nat) (i:Int) (out:lD),0≤i→i+(m:Int)=(t.2.2.1.length:Int)→m<n→(out.length:Int)≤i→je (bI.l0 k n i t.1 t.2.1 t.2.2.1 out) (fun r=>r.1.length≤1000):=by
  intro m
  induction m with
  | zero =>
   intro n i out h0 h1 hn ho
   obtain ⟨n,rfl⟩:∃ q,n=q+1:=⟨n-1,by omega⟩
   simp only [bI.l0,bI.b0]
   exact kz (aP (by omega)) (ae (by show out.length≤1000;omega))
  | succ m ih =>
   intro n i out h0 h1 hn ho
   obtain ⟨n,rfl⟩:∃ q,n=q+1:=⟨n-1,by omega⟩
   have hw:aJ (i+1)=i+1:=aD (by omega) (by omega)
   have inner:∀ (d n':Nat) (b:Bool) (j:Int),0≤j→j+(d:Int)=i→d<n'→je (bI.l1 k (bI.l0 k n) n' i b j t.1 t.2.1 t.2.2.1 out) (fun r=>r.1.length≤1000):=by
    intro d
    induction d with
    | zero =>
     intro n' b j j0 j1 hn'
     obtain ⟨n',rfl⟩:∃ q,n'=q+1:=⟨n'-1,by omega⟩
     simp only [bI.l1,bI.b1,hw]
     refine kz (aP (by omega)) (b9 (fun _=>g_ h0 (by omega) (bA (vc hk (t:=(t.1,(t.2.1,(t.2.2.1,())))) h _) fun r _=>oj (by omega) (by decide) ?_)) (fun _=>?_))
     · exact ih n (i+1) (out++[r.1]) (by omega) (by omega) (by omega) (by rw [bv];omega)
     · exact ih n (i+1) out (by omega) (by omega) (by omega) (by omega)
    | succ d ih2 =>
     intro n' b j j0 j1 hn'
     obtain ⟨n',rfl⟩:∃ q,n'=q+1:=⟨n'-1,by omega⟩
     have hj:aJ (j+1)=j+1:=aD (by omega) (by omega)
     simp only [bI.l1,bI.b1,hj]
     exact kE (aO (by omega)) (b9 (fun _=>g_ j0 (by omega) (g_ h0 (by omega) (ih2 n' _ (j+1) (by omega) (by omega) (by omega)))) (fun _=>ih2 n' _ (j+1) (by omega) (by omega) (by omega)))
   simp only [bI.l0,bI.b0]
   exact kE (aO (by omega)) (inner i.toNat k true 0 (by omega) (by omega) (by omega))
 unfold bI.f bI.t
 exact loop t.2.2.1.length k 0 [] (by omega) (by omega) (by omega) (by decide)
theorem Ig {k:Nat} (hk:2 ^ 50≤k) {t:Ty.d du} (h:TV t) {dir:aR} (hd:dir.length≤268435456):je (gE.f k t dir) (fun _=>True):=by
 obtain ⟨h1,h2⟩:=h
 have loop:∀ (m n:Nat) (i:Int),0≤i→i+(m:Int)=(t.2.1.length:Int)→m<n→je (gE.l0 k n dir i t.1 t.2.1 t.2.2.1) (fun _=>True):=by
  intro m
  induction m with
  | zero =>
   intro n i h0 h1 hn
   obtain ⟨n,rfl⟩:∃ q,n=q+1:=⟨n-1,by omega⟩
   simp only [gE.l0,gE.b0]
   exact kz (aP (by omega)) (ae trivial)
  | succ m ih =>
   intro n i h0 h1 hn
   obtain ⟨n,rfl⟩:∃ q,n=q+1:=⟨n-1,by omega⟩
   have hw:aJ (i+1)=i+1:=aD (by omega) (by omega)
   simp only [gE.l0,gE.b0,hw]
   refine kE (aO (by omega)) (g_ h0 (by omega) ?_)
   rw [qs hk (by omega)]
   have hq:∃ q,Hm (vL dir (t.2.1.getD i.toNat (Ty.z eh)).1)=some q:=by cases vL dir (t.2.1.getD i.toNat (Ty.z eh)).1 <;> exact ⟨_,rfl⟩
   obtain ⟨q,hq⟩:=hq
   exact bP hq (g_ h0 (by omega) (b9 (fun _=>ae trivial) (fun _=>ih n (i+1) (by omega) (by omega) (by omega))))
 unfold gE.f gE.t
 exact loop t.2.1.length k 0 (by omega) (by omega) (by omega)
theorem Fb {k:Nat} (hk:2 ^ 50≤k) {t:Ty.d du} (h:TV t) (key:ByteArray) (b:Int):je (fB.f k t key b) (fun r=>TV r.1):=by
 have h1:=h.1
 have loop:∀ (m n:Nat) (i:Int),0≤i→i+(m:Int)=(t.2.1.length:Int)→m<n→je (fB.l0 k n key b i t.1 t.2.1 t.2.2.1 [] [] false t.2.1 t.2.2.1 t.1) (fun r=>TV r.1):=by
  intro m
  induction m with
  | zero =>
   intro n i h0 g1 hn
   obtain ⟨n,rfl⟩:∃ q,n=q+1:=⟨n-1,by omega⟩
   simp only [fB.l0,fB.b0]
   refine kz (aP (by omega)) (b9 (fun _=>ae h) (fun hb=>oj (by omega) (by decide) (ae ⟨?_,h.2⟩)))
   have hb:=of_decide_eq_false hb
   show (t.2.1++[_]).length≤20
   rw [bv]
   omega
  | succ m ih =>
   intro n i h0 g1 hn
   obtain ⟨n,rfl⟩:∃ q,n=q+1:=⟨n-1,by omega⟩
   have hw:aJ (i+1)=i+1:=aD (by omega) (by omega)
   simp only [fB.l0,fB.b0,hw]
   exact kE (aO (by omega)) (g_ h0 (by omega) (b9 (fun _=>g_ h0 (by omega) (b9 (fun _=>ae h) (fun _=>ae h))) (fun _=>ih n (i+1) (by omega) (by omega) (by omega))))
 unfold fB.f fB.t
 refine bP (qI k h) (b9 (fun _=>ae h) (fun _=>bP (kF k key) (b9 (fun _=>ae h) (fun _=>?_))))
 exact loop t.2.1.length k 0 (by omega) (by omega) (by omega)
theorem Cj {k:Nat} (hk:2 ^ 50≤k) {t:Ty.d du} (h:TV t) (p:Ty.d dI):je (er.f k t p) (fun r=>TV r.1):=by
 have h2:=h.2
 have hz:(t.2.2.1++[p]).length=t.2.2.1.length+1:=bv ..
 unfold er.f er.t
 refine bP (qI k h) (b9 (fun _=>ae h) (fun _=>bP (nr hk _) (b9 (fun _=>ae h) (fun _=>oj (by show t.2.2.1.length+1≤_;omega) (by decide) ?_))))
 refine bA (tu hk (t:=(t.1,(t.2.1,((t.2.2.1++[p]),())))) (by show (t.2.2.1++[p]).length≤1000;omega)) fun r3 q3=>b9 (fun _=>bP (qI k h) (ae h)) (fun _=>b9 (fun _=>bP (qI k h) (ae h)) (fun hb=>?_))
 have hb:=of_decide_eq_false hb
 refine ae ⟨h.1,?_⟩
 have hb:¬ ((t.2.2.1++[p]).length:Int) > 50:=hb
 show (t.2.2.1++[p]).length≤50
 omega
theorem HJ {F:Prop} {k:Nat} (hk:2 ^ 50≤k) {e:Ty.d dc} (h:EV F e) {s:Ty.d bg} (h0:LE.le (α:=Int) 0 s.2.1) (h1:LT.lt (α:=Int) s.2.1 (e.2.2.2.1.length:Int)):je (eo.f k e s) (fun r=>EV F r.1):=by
 have ht:=DG h.txn (Int.toNat s.2.1)
 have hdir:=h.dir
 unfold eo.f eo.t
 refine g_ h0 h1 (bP (kF k _) (b9 (fun _=>ae h) (fun _=>bA (vc hk (by have:=ht.2;omega) _) fun r2 _=>b9 (fun _=>b9 (fun _=>ae h) (fun _=>ae h)) (fun _=>?_))))
 refine bP (xK hk h.disk.sz (by omega) _) (b9 (fun _=>ae h) (fun _=>bA (Fb hk ht _ _) fun r4 q4=>b9 (fun _=>ae h) (fun _=>g_ h0 h1 (ae (xU h _ q4)))))
theorem Aq {F:Prop} {k:Nat} (hk:2 ^ 50≤k) {e:Ty.d dc} (h:EV F e) {s:Ty.d bg} (h0:LE.le (α:=Int) 0 s.2.1) (h1:LT.lt (α:=Int) s.2.1 (e.2.2.2.1.length:Int)):je (d_.f k e s) (fun r=>EV F r.1):=by
 have ht:=DG h.txn (Int.toNat s.2.1)
 have hdir:=h.dir
 have hids:=h.ids
 unfold d_.f d_.t
 refine g_ h0 h1 (g_ h0 h1 ?_)
 refine bA (Ig hk ht hdir) fun r2 _=>b9 (fun _=>ae (xU h _ ⟨Nat.zero_le _,Nat.zero_le _⟩)) (fun _=>?_)
 refine bA (tu hk (by have:=ht.2;omega)) fun r3 q3=>?_
 refine bP (xw hk h.disk.sz (by omega) (by omega) (by omega)) (ae ?_)
 obtain ⟨c1,c2,c3⟩:=Bc r3.1 h.disk hids hdir
 have hs:=xU h (Int.toNat s.2.1) (t:=(false,([],([],())))) ⟨Nat.zero_le _,Nat.zero_le _⟩
 exact ⟨c2,c3,c1,hs.len,hs.txn,fun up nd=>FG r3.1 (h.mi up (FT nd)) nd,fun q=>yi zg _ _ (h.fu q)⟩
theorem Fi {k:Nat} (hk:2 ^ 50≤k) {l:aR} (hl:l.length≤268435456):je (ez.f k l) (fun _=>True):=by
 unfold ez.f ez.t
 refine CZ (P:=fun _=>True) (r:=(l.map (·.1),())) ?_ trivial
 refine (eG (L:=fun n i s=>ez.l0 k n l i s) (R:=fun r s=>some (s++r.map (·.1),())) (Ty.z aB) l (fun i s=>(s.length:Int)=i) (fun n s hs=>?_) (fun n i s x rest h0 h1 hx hr hp ih=>?_) (n:=k) (s:=[]) (by omega) rfl).trans (by rw [List.nil_append])
 · simp (disch:=omega) only [ez.l0,ez.b0,aP,aK,List.map_nil,List.append_nil]
 · have ih:=ih (s++[x.1]) (by rw [bv];omega)
   simp (disch:=first | omega | decide) only [ez.l0,ez.b0,aO h1,ac,aH,hx,cD,aD,ih,List.map_cons]
   rw [nn]
   rfl
theorem zv {F:Prop} {k:Nat} (hk:2 ^ 50≤k) {e:Ty.d dc} (h:EV F e) (s:Ty.d bg):je (dG.f k e s) (fun r=>EV F r.1):=by
 have hd:=h.disk
 have hdir:=h.dir
 have hids:=h.ids
 have hlen:=h.len
 have hsz:=hd.sz
 have z1:=hsz.l
 have z2:=hsz.u
 have z3:=hsz.n
 unfold dG.f dG.t
 refine bP (HI hk h) (b9 (fun _=>b9 (fun _=>ae h) (fun _=>bP (qy hk hsz) (ae (Dw hd h.fu)))) (fun _=>b9 (fun _=>?_) (fun _=>b9 (fun _=>ae h) (fun _=>b9 (fun _=>?_) (fun _=>b9 (fun _=>?_) (fun _=>b9 (fun _=>?_) (fun _=>?_)))))))
 · -- vk
   have hu:=hd.use
   have hc:=hd.cap1
   have used_:k6.f k e.2.2.1=some ((e6 e.2.2.1.1:Int),()):=by
    unfold k6.f k6.t
    rw [j_ hk (by omega) (by omega),ab,jQ.2 hd]
    simp only [fh,aK]
    rw [pT hk (by omega) (by omega),ab]
   refine bP (j_ hk (by omega) (by omega)) (b9 (fun _=>ae h) (fun _=>bP used_ (bP (fE k _ _ _) (b9 (fun _=>ae h) (fun hb=>bP used_ (ae ?_))))))
   simp only [Bool.not_eq_false',decide_eq_true_eq] at hb
   have hu':LE.le (α:=Int) (e6 e.2.2.1.1:Int) 100000:=Int.le_trans hu hc
   rw [aD (n:=100000-(e6 e.2.2.1.1:Int)) (by omega) (by omega)] at hb
   obtain ⟨N,hN⟩:∃ N:Int,N=s.2.2.2.2.1:=⟨_,rfl⟩
   rw [← hN] at hb ⊢
   rw [aD (n:=(e6 e.2.2.1.1:Int)+N) (by omega) (by omega)]
   exact ⟨hids,hdir,⟨hd.len,by show LE.le (α:=Int) 0 ((e6 e.2.2.1.1:Int)+N);omega,by show LE.le (α:=Int) ((e6 e.2.2.1.1:Int)+N) 100000;omega,hd.fu0,hd.fu1,by show LE.le (α:=Int) (e6 e.2.2.1.1:Int) ((e6 e.2.2.1.1:Int)+N);omega,hd.all,hd.keys⟩,hlen,h.txn,fun up nd=>K2 (h.mi up nd) ⟨hd.len,by show LE.le (α:=Int) 0 ((e6 e.2.2.1.1:Int)+N);omega,by show LE.le (α:=Int) ((e6 e.2.2.1.1:Int)+N) 100000;omega,hd.fu0,hd.fu1,by show LE.le (α:=Int) (e6 e.2.2.1.1:Int) ((e6 e.2.2.1.1:Int)+N);omega,hd.all,hd.keys⟩ rfl,h.fu⟩
 · -- merge
   refine bP (AH hk (st:=e.2.1) (d:=e.2.2.1) hsz (by omega) (by omega)) (ae ?_)
   obtain ⟨c1,c2,c3⟩:=Cm hd hids hdir
   exact ⟨c2,c3,c1,hlen,h.txn,fun up nd=>Gh (h.mi up (Gf nd)),fun q=>Bt zg _ (h.fu q)⟩
 · exact bA (Fi hk hdir) fun _ _=>ae h
 · rw [zf (by omega) (by omega) (by decide)]
   exact ae ⟨Nat.zero_le _,Nat.zero_le _,hd,Nat.le_refl _,GB,fun up _=>(by cases up),h.fu⟩
 · refine bP (fE k _ _ _) (b9 (fun _=>ae h) (fun hb=>bP (fE k _ _ _) (b9 (fun _=>ae h) (fun _=>?_))))
   simp only [Bool.not_eq_false',decide_eq_true_eq] at hb
   rw [aD (n:=(e.2.2.2.1.length:Int)-1) (by omega) (by omega)] at hb
   have i0:LE.le (α:=Int) 0 s.2.1:=hb.1
   have i1:LT.lt (α:=Int) s.2.1 (e.2.2.2.1.length:Int):=by
    have:=hb.2
    exact Int.lt_of_le_of_lt this (by omega)
   have PUT:je ((cF.f k [(s.2.2.1,((s.1==4),(s.2.2.2.1,())))]).bind fun r15=>(bif (!r15.1) then (some (e,((4,(ByteArray.empty,([],()))),()))) else (bF s.2.1 (List.length e.2.2.2.1:Int)
    ((er.f k (List.getD e.2.2.2.1 (Int.toNat s.2.1) (Ty.z du)) (s.2.2.1,((s.1==4),(s.2.2.2.1,())))).bind fun r16=>(bif (!r16.2.1) then (some (e,((5,(ByteArray.empty,([],()))),()))) else (bF s.2.1 (List.length e.2.2.2.1:Int)
     (let l17:=(List.set e.2.2.2.1 (Int.toNat s.2.1) r16.1);(some ((e.1,(e.2.1,(e.2.2.1,(l17,())))),((0,(ByteArray.empty,([],()))),()))))))))):dG.Rs) (fun r=>EV F r.1) :=
    bP (nr hk _) (b9 (fun _=>ae h) (fun _=>g_ i0 i1 (bA (Cj hk (DG h.txn _) _) fun r16 q16=>b9 (fun _=>ae h) (fun _=>g_ i0 i1 (ae (xU h _ q16))))))
   have GET:je ((eo.f k e s).bind fun r13=>(some r13)) (fun r=>EV F r.1):=bA (HJ hk h i0 i1) fun r q=>ae q
   have COM:je ((d_.f k e s).bind fun r13=>(some r13)) (fun r=>EV F r.1):=bA (Aq hk h i0 i1) fun r q=>ae q
   have SET:∀ b:Bool,je (bF s.2.1 (List.length e.2.2.2.1:Int) (let l11:=(List.set e.2.2.2.1 (Int.toNat s.2.1) (b,([],([],()))));(some ((e.1,(e.2.1,(e.2.2.1,(l11,())))),((0,(ByteArray.empty,([],()))),())))):dG.Rs) (fun r=>EV F r.1):=fun b=>g_ i0 i1 (ae (xU h _ ⟨Nat.zero_le _,Nat.zero_le _⟩))
   repeat' first
    | exact PUT
    | exact GET
    | exact COM
    | exact SET _
    | exact ae h
    | refine g_ i0 i1 ?_
    | refine b9 (fun _=>?_) (fun _=>?_)
theorem uz (k:Nat) {c:ll} (h:CI c) {n:Int} (h0:0<n) (h1:n≤256):je (aa.f k c n) (fun r=>CI r.1):=oE (kh k h h0 h1) fun _ q=>q.1
theorem Jy {k:Nat} (hk:2 ^ 50≤k) {c:ll} (h:CI c) {m:Int} (h0:0≤m) (h1:m≤200):je (eV.f k c m) (fun r=>CI r.1):=oE (GV hk h h0 h1) fun _ q=>q.1
theorem K4 (k:Nat) {c:ll} (h:CI c) {l:List ByteArray} (h0:0<l.length) (h1:l.length≤256):je (cK.f k c l) (fun r=>CI r.1):=oE (BU k h h0 h1) fun _ q=>q.1
theorem qc (k:Nat) {c:ll} (h:CI c) {l:List Int} (h0:0<l.length) (h1:l.length≤256):je (aM.f k c l) (fun r=>CI r.1):=oE (BI k h h0 h1) fun _ q=>q.1
theorem Ee {α:Type} {P:α→Prop} {b:Nat} {n:Int} {x:Option α} (h0:0≤n) (h1:n≤1099511627776) (hb:b≤128) (h:je x P):je (uy b n x) P:=by rw [zf h0 h1 hb];exact h
theorem FI {k:Nat} (hk:2 ^ 50≤k) {c:ll} (h:CI c):je (ia.f k c) (fun r=>CI r.1):=by
 unfold ia.f ia.t
 repeat' first
  | exact ae (by assumption)
  | refine bA (uz k (by assumption) (by omega) (by omega)) fun _ _=>?_
  | refine bA (IZ k (by assumption)) fun _ _=>?_
  | refine bA (Jy hk (by assumption) (by omega) (by omega)) fun _ _=>?_
  | refine bA (qc k (by assumption) (by decide) (by decide)) fun _ _=>?_
  | refine bA (K4 k (by assumption) (by decide) (by decide)) fun _ _=>?_
  | refine b9 (fun _=>?_) (fun _=>?_)
theorem FW {k:Nat} (hk:2 ^ 50≤k):∀ (m n:Nat) (c:ll) (out:List (Ty.d bg)) (rows:List Bool),m<n→CI c→out.length+2*m≤1000→rows.length=3 →
 je (dx.l0 k n (m:Int) c.1 c.2.1 c.2.2.1 out rows) (fun r=>CI r.1∧r.2.1.length≤1000):=by
 intro m
 induction m with
 | zero =>
  intro n c out rows hn hc ho hr
  obtain ⟨n,rfl⟩:∃ q,n=q+1:=⟨n-1,by omega⟩
  simp only [dx.l0,dx.b0]
  exact kz (aP (by omega)) (ae ⟨hc,by show out.length≤1000;omega⟩)
 | succ m ih =>
  intro n c out rows hn hc ho hr
  obtain ⟨n,rfl⟩:∃ q,n=q+1:=⟨n-1,by omega⟩
  have hw:aJ (((m+1:Nat):Int)-1)=(m:Int):=by rw [aD (by omega) (by omega)];omega
  simp only [dx.l0,dx.b0,hw]
  refine kE (aO (by omega)) (bA (FI hk hc) fun r2 q2=>?_)
  repeat' first
   | exact ih n _ _ _ (by omega) (by assumption) (by simp only [uH,List.length_singleton];omega) (by first | exact hr | rfl | (simp only [List.length_set];exact hr))
   | refine bA (wQ k (by assumption) (by omega) (by omega)) fun _ _=>?_
   | refine oj (by first | omega | (simp only [uH,List.length_singleton];omega)) (by decide) ?_
   | refine Ee (by omega) (by omega) (by decide) ?_
   | refine bP (fE k _ _ _) (b9 (fun hq=>?_) (fun _=>?_))
   | refine g_ (by have hq':=of_decide_eq_true hq;exact hq'.1) (by have hq':=of_decide_eq_true hq;exact Int.lt_of_le_of_lt hq'.2 (by rw [hr];decide)) ?_
   | refine b9 (fun _=>?_) (fun _=>?_)
theorem Ch {k:Nat} (hk:2 ^ 50≤k) {c:ll} (h:CI c):je (dx.f k c 40) (fun r=>CI r.1∧r.2.1.length≤1000):=by
 unfold dx.f dx.t
 rw [show aJ (40+1)=41 from by decide]
 refine Ee (by omega) (by omega) (by decide) (bA (kh k h (by omega) (by omega)) fun r q=>?_)
 obtain ⟨hc,a,b⟩:=q
 have:=FW hk r.2.1.toNat k r.1 [] (List.replicate (Int.toNat 3) (Ty.z .bool)) (by omega) hc (by simp only [List.length_nil];omega) rfl
 rw [show ((r.2.1.toNat:Nat):Int)=r.2.1 by omega] at this
 exact this
theorem C4 {k:Nat} (hk:2 ^ 50≤k) {c:ll} (h:CI c):je (gY.f k c 40) (fun r=>CI r.1∧r.2.1.2.2.1.length≤1001):=by
 unfold gY.f gY.t
 refine bA (Ch hk h) fun r1 q1=>?_
 obtain ⟨c1,z1⟩:=q1
 refine bA (kh k c1 (by omega) (by omega)) fun r2 q2=>b9 (fun _=>?_) (fun _=>b9 (fun _=>?_) (fun _=>ae ⟨q2.1,by show r1.2.1.length≤1001;omega⟩))
 · exact bA (xX k q2.1 (by omega)) fun r3 q3=>ae ⟨q3.1,by show r1.2.1.length≤1001;omega⟩
 · rw [aD (n:=(r1.2.1.length:Int)+1) (by omega) (by omega)]
   refine bA (xX k q2.1 (by omega)) fun r4 q4=>?_
   obtain ⟨c4,a4,b4⟩:=q4
   have e1:(List.take (Int.toNat r4.2.1) r1.2.1).length≤1000:=by rw [List.length_take];omega
   have e2:(List.take (Int.toNat r4.2.1) r1.2.1).length+(List.drop (Int.toNat r4.2.1) r1.2.1).length=r1.2.1.length:=by rw [← uH,List.take_append_drop]
   refine A6 a4 (by omega) (oj (by omega) (by decide) (bA (uz k c4 (by omega) (by omega)) fun r5 q5=>?_))
   simp only [List.nil_append]
   refine oj (by omega) (by decide) (A6 a4 (by omega) (oj (by rw [bv];omega) (by decide) (ae ⟨q5,?_⟩)))
   show ((_++[_])++_).length≤1001
   rw [uH,bv]
   omega
theorem Dx {st:Ty.d aE} {d:Ty.d aA} (hd:DR d) (f:gl) (hi:st.1.2.1.length≤60):PB (lO st d f).2.1 100000∧(lO st d f).2.1.length≤60:=by
 have hu:=hd.use
 have hc:=hd.cap1
 have h:LE.le (α:=Int) (e6 d.1:Int) 100000:=Int.le_trans hu hc
 unfold lO
 cases d9 st d with
 | false=>exact ⟨fun x hx=>(by cases hx),Nat.zero_le _⟩
 | true =>
  simp only [fh,aK]
  refine ⟨fun x hx=>?_,by rw [List.length_map];exact hi⟩
  obtain ⟨i,_,e⟩:=List.mem_map.1 hx
  have hs:=fo d (a_ aF i)
  rw [← e]
  have:=zo (aT d (a_ aF i)).1
  have hs2:(aT d (a_ aF i)).1.size≤100000:=by omega
  unfold m7
  cases tS (aT d (a_ aF i)).1 (jO f i) with
  | true=>exact Nat.le_trans (this _ _) hs2
  | false=>exact hs2
theorem uh {k:Nat} (hk:2 ^ 50≤k) {l:iA} (hl:l.length≤268435456):bq.f k l l=some (true,()):=by
 unfold bq.f bq.t
 rw [bne_self_eq_false,aK]
 refine eG (L:=fun n i (_:Unit)=>bq.l0 k n l l i) (R:=fun r _=>some (true,())) (Ty.z aL) l (fun _ _=>True) (fun n _ _=>?_) (fun n i _ x rest h0 h1 hx hr hp ih=>?_) (n:=k) (s:=()) (by omega) trivial
 · simp only [bq.l0,bq.b0]
   rw [aP (by omega),aK]
 · simp only [bq.l0,bq.b0]
   rw [aO h1,ac]
   repeat rw [aH h0 h1]
   rw [hx,aD (n:=i+1) (by omega) (by omega),bV,bV,beq_self_eq_true]
   exact ih () trivial
theorem Gx {B:Nat}:∀ {l:gl},FB l B→G9 l≤l.length*B
 | [],_=>Nat.zero_le _
 | p::l,h=>by
  have h1:=h p jd
  have h2:=Gx (l:=l) fun q hq=>h q (lL _ hq)
  have e:G9 (p::l)=p.2.1.size+G9 l:=by unfold G9;rw [List.map_cons,List.sum_cons]
  rw [kJ,Nat.succ_mul,e]
  omega
def FS (f:Ty.d ay):Prop:=f.2.1.length≤60∧FB f.2.1 100001
theorem D5 (n:Int):FS (n,([],())):=⟨Nat.zero_le _,fun p hp=>by cases hp⟩
theorem vi {k:Nat} (hk:2 ^ 50≤k) {st:Ty.d aE} {d:Ty.d aA} (h:MI st d) {f:Ty.d ay} (hf:FS f):dA.f k st d f=some (lO st d f.2.1,()):=by
 obtain ⟨hs,_⟩:=h.store
 obtain ⟨g1,g2,_⟩:=eS hs
 have hd:DR d:=g1.disk
 have h60:st.1.2.1.length≤60:=(bQ (nx:=st.1.1) (ids:=st.1.2.1) g1.live).2.2.2.1
 obtain ⟨f1,f2⟩:=hf
 exact Ai hk hd.sz (by omega) (by omega) (by omega) fun p hp=>Nat.le_trans (f2 p hp) (by omega)
theorem yx {k:Nat} (hk:2 ^ 50≤k) {st:Ty.d aE} {d:Ty.d aA} (h:MI st d) {f:Ty.d ay} (hf:FS f):bK.f k f (lO st d f.2.1)=some ((st.1.1,(m9 st d,())),(true,())):=by
 obtain ⟨hs,_⟩:=h.store
 obtain ⟨g1,g2,_⟩:=eS hs
 have hd:DR d:=g1.disk
 have h60:st.1.2.1.length≤60:=(bQ (nx:=st.1.1) (ids:=st.1.2.1) g1.live).2.2.2.1
 obtain ⟨f1,f2⟩:=hf
 obtain ⟨p1,p2⟩:=Dx (st:=st) hd f.2.1 h60
 rw [wo hk (B:=100001) (B':=100000) (by omega) (by omega) f2 p1 (by omega) (by omega),Ey hs]
theorem Du {st:Ty.d aE} {d:Ty.d aA} (h:MI st d) (n:Int):FS (n,(m9 st d,())):=by
 obtain ⟨c1,c2⟩:=Dd h.store.1
 exact ⟨c1,fun p hp=>Nat.le_trans (c2 p hp) (by omega)⟩
theorem Fz {k:Nat} (hk:2 ^ 50≤k) {st:Ty.d aE} {d:Ty.d aA} (h:MI st d) (n:Int):aq.f k (n,(m9 st d,()))=some ((gf st.2.1 d).1,(true,())):=by
 obtain ⟨c1,c2⟩:=Dd h.store.1
 have ht:=Gx c2
 have:(m9 st d).length*100000≤60*100000:=Nat.mul_le_mul_right _ c1
 have e:=xq hk (n,(m9 st d,())) (by show (m9 st d).length≤_;omega) (by show G9 (m9 st d)≤_;omega)
 rw [e]
 show some ((ot (m9 st d)).1,((ot (m9 st d)).2,()))=_
 rw [Bv h]
theorem GI {k:Nat} (hk:2 ^ 50≤k) {st:Ty.d aE} {d:Ty.d aA} (h:d9 st d=true) (f:gl):c9.f k (lO st d f)=some (JE (lO st d f).2.1,()):=by
 obtain ⟨g1,_,_⟩:=eS h
 have hd:DR d:=g1.disk
 have h60:st.1.2.1.length≤60:=(bQ (nx:=st.1.1) (ids:=st.1.2.1) g1.live).2.2.2.1
 obtain ⟨_,p2⟩:=Dx (st:=st) hd f h60
 exact xe hk (by omega)
theorem Fu {k:Nat} (hk:2 ^ 50≤k) {st:Ty.d aE} {d:Ty.d aA} (h:MI st d):eO.f k st d=some ((gf st.2.1 d).1,((gf st.2.1 d).2,()))∧(gf st.2.1 d).2=0∧bq.f k (gf st.2.1 d).1 (gf st.2.1 d).1=some (true,()):=by
 obtain ⟨hs,_⟩:=h.store
 obtain ⟨g1,g2,_⟩:=eS hs
 have hd:DR d:=g1.disk
 have hz:=ny st.2.1 d
 exact ⟨uK hk hd.sz (by omega),by rw [vE hs],uh hk (by omega)⟩
theorem CQ {k:Nat} (hk:2 ^ 50≤k) {code:List Int} (hl:code.length≤1048576):je (gw.f k code) (fun r=>r.1.2.2.1.length≤100000):=by
 unfold gw.f gw.t
 refine bA (Hw hk hl) fun r1 q1=>?_
 refine bA (C4 hk q1) fun r2 q2=>?_
 obtain ⟨c2,z2⟩:=q2
 have hz:r2.2.1.2.2.1.length≤100000:=by omega
 refine bA (uz k c2 (by omega) (by omega)) fun r3 c3=>?_
 have A:∀ (cap fu:Int) (c:ll),CI c→je ((cG.f k c 20).bind fun r5=>(bif r5.2.1 then ((aM.f k r5.1 [(-1),100001,0,9]).bind fun r6=>(some ((r6.2.1,(fu,r2.2.1.2.2)),()))) else (some ((cap,(fu,r2.2.1.2.2)),())))) (fun r:Ty.d nU × Unit=>r.1.2.2.1.length≤100000):=fun cap fu c hc =>
  bA (wQ k hc (by omega) (by omega)) fun r5 c5=>b9 (fun _=>bA (qc k c5 (by decide) (by decide)) fun r6 _=>ae hz) (fun _=>ae hz)
 have B:je ((aa.f k r3.1 60).bind fun r4=>((cG.f k r4.1 20).bind fun r5=>(bif r5.2.1 then ((aM.f k r5.1 [(-1),100001,0,9]).bind fun r6=>(some ((r6.2.1,(r4.2.1,r2.2.1.2.2)),()))) else (some ((r2.2.1.1,(r4.2.1,r2.2.1.2.2)),()))))) (fun r:Ty.d nU × Unit=>r.1.2.2.1.length≤100000) :=
  bA (uz k c3 (by omega) (by omega)) fun r4 c4=>A _ _ _ c4
 have C:je ((aM.f k r3.1 [(-2),(-1),0,100001]).bind fun r4=>((cG.f k r4.1 20).bind fun r5=>(bif r5.2.1 then ((aM.f k r5.1 [(-1),100001,0,9]).bind fun r6=>(some ((r6.2.1,(r4.2.1,r2.2.1.2.2)),()))) else (some ((r2.2.1.1,(r4.2.1,r2.2.1.2.2)),()))))) (fun r:Ty.d nU × Unit=>r.1.2.2.1.length≤100000) :=
  bA (qc k c3 (by decide) (by decide)) fun r4 c4=>A _ _ _ c4
 have D:je ((cG.f k r3.1 20).bind fun r10=>(bif r10.2.1 then ((aM.f k r10.1 [(-1),100001,0,9]).bind fun r11=>(some ((r11.2.1,r2.2.1.2),()))) else (some r2.2))) (fun r:Ty.d nU × Unit=>r.1.2.2.1.length≤100000) :=
  bA (wQ k c3 (by omega) (by omega)) fun r5 c5=>b9 (fun _=>bA (qc k c5 (by decide) (by decide)) fun r6 _=>ae hz) (fun _=>ae hz)
 exact b9 (fun _=>b9 (fun _=>B) (fun _=>b9 (fun _=>C) (fun _=>D))) (fun _=>b9 (fun _=>B) (fun _=>b9 (fun _=>C) (fun _=>D)))
theorem L4 {k:Nat} {code:List Int} {i:Int} (h:0≤i):je (mT.f k code i) (fun _=>True):=by
 unfold mT.f mT.t
 exact b9 (fun c=>g_ h (of_decide_eq_true c) (ae trivial)) (fun _=>ae trivial)
theorem Gk {k:Nat} (hk:2 ^ 50≤k) {up:Bool} {st:Ty.d aE} {d:Ty.d aA} (h:up=true→MI st d) {f:Ty.d ay} (hf:FS f) {sent:Int} (hs:0≤sent) :
 je (bif (!up) then (some ((decide (sent≥0)),())) else ((dA.f k st d f).bind fun r11=>((bK.f k f r11.1).bind fun r12=>((aq.f k r12.1).bind fun r13=>((dA.f k st d (0,([],()))).bind fun r14=>((bK.f k (0,([],())) r14.1).bind fun r15=>((eO.f k st d).bind fun r16 =>
  (bif r12.2.1 then (bif r13.2.1 then ((bC.f k r12.1 r15.1).bind fun r17=>(bif r17.1 then ((bq.f k r13.1 r16.1).bind fun r18=>(bif r18.1 then (some ((r12.1.1==st.1.1),())) else (some (false,())))) else (some (false,())))) else (some (false,()))) else (some (false,()))))))))):Option (Bool × Unit)) (fun r=>r=(true,())):=by
 cases up with
 | false=>exact ae (by rw [aO (show sent≥0 from hs)])
 | true =>
  have h:=h rfl
  obtain ⟨d1,d2,d3⟩:=Fu hk h
  obtain ⟨c1,_⟩:=Du h st.1.1
  refine kz rfl ?_
  refine bP (vi hk h hf) ?_
  refine bP (yx hk h hf) ?_
  refine bP (Fz hk h _) ?_
  refine bP (vi hk h (D5 0)) ?_
  refine bP (yx hk h (D5 0)) ?_
  refine bP d1 ?_
  refine kE rfl (kE rfl ?_)
  refine bP (DD hk (f:=(st.1.1,(m9 st d,()))) (by omega)) (kE rfl ?_)
  refine bP d3 (kE rfl ?_)
  exact ae (by show ((st.1.1==st.1.1),())=(true,());rw [beq_self_eq_true])
theorem Iv {k:Nat} (hk:2 ^ 50≤k) {code:List Int} {steps:List (Ty.d bg)} (hs:steps.length≤100000) (cap fu:Int):∀ (m n:Nat) (i sent:Int) (e:Ty.d dc) (f:Ty.d ay),m<n→0≤i→i+(m:Int)=(steps.length:Int)→EV True e→0≤sent→sent≤6000000*i→FS f →
 je (am.l1 k n code sent i steps cap fu e.2.1.1.2.1 e.2.1.2.1 e.2.2.1.1 e.2.2.2.1 e.1 e.2.1.1.1 e.2.1.2.2.1 e.2.1.2.2.2.1 e.2.1.2.2.2.2.1 e.2.2.1.2.1 e.2.2.1.2.2.1 e.2.2.1.2.2.2.1 f.2.1 f.1) (fun r=>r=(true,())):=by
 intro m
 induction m with
 | zero =>
  intro n i sent e f hn h0 h1 he s0 s1 hf
  obtain ⟨n,rfl⟩:∃ q,n=q+1:=⟨n-1,by omega⟩
  simp only [am.l1,am.b1]
  exact kz (aP (by omega)) (Gk hk (st:=e.2.1) (d:=e.2.2.1) (f:=f) (fun up=>he.mi up (he.fu trivial).2) hf s0)
 | succ m ih =>
  intro n i sent e f hn h0 h1 he s0 s1 hf
  obtain ⟨n,rfl⟩:∃ q,n=q+1:=⟨n-1,by omega⟩
  have hw:aJ (i+1)=i+1:=aD (by omega) (by omega)
  simp only [am.l1,am.b1,hw]
  refine kE (aO (by omega)) (b9 (fun _=>?_) (fun _=>Gk hk (st:=e.2.1) (d:=e.2.2.1) (f:=f) (fun up=>he.mi up (he.fu trivial).2) hf s0))
  refine g_ h0 (by omega) ?_
  refine bA (zv hk (e:=(e.1,(((e.2.1.1.1,(e.2.1.1.2.1,())),(e.2.1.2.1,(e.2.1.2.2.1,(e.2.1.2.2.2.1,(e.2.1.2.2.2.2.1,()))))),((e.2.2.1.1,(e.2.2.1.2.1,(e.2.2.1.2.2.1,(e.2.2.1.2.2.2.1,())))),(e.2.2.2.1,()))))) he (List.getD steps (Int.toNat i) (Ty.z bg))) fun r6 q6=>?_
  refine b9 (fun _=>ih n (i+1) sent r6.1 f (by omega) (by omega) (by omega) q6 s0 (by omega) hf) fun up=>?_
  have up:r6.1.1=true:=by simpa using up
  have hmi:MI r6.1.2.1 r6.1.2.2.1:=q6.mi up (q6.fu trivial).2
  refine bA (L4 h0) fun r7 _=>?_
  refine b9 (fun _=>ih n (i+1) sent r6.1 f (by omega) (by omega) (by omega) q6 s0 (by omega) hf) fun _=>?_
  refine bP (vi hk hmi (f:=f) hf) ?_
  refine bP (yx hk hmi (f:=f) hf) ?_
  refine kz rfl ?_
  refine bP (GI hk hmi.store.1 f.2.1) ?_
  obtain ⟨p1,p2,p3⟩:=IH hmi.store.1 f.2.1
  simp only []
  rw [aD (n:=sent+JE (lO r6.1.2.1 r6.1.2.2.1 f.2.1).2.1) (by omega) (by omega)]
  exact ih n (i+1) (sent+JE (lO r6.1.2.1 r6.1.2.2.1 f.2.1).2.1) r6.1 (r6.1.2.1.1.1,(m9 r6.1.2.1 r6.1.2.2.1,())) (by omega) (by omega) (by omega) q6 (by omega) (by omega) (Du hmi _)
theorem xl {k:Nat} (hk:2 ^ 50≤k) (code:List Int):am.f k code=some (true,()):=by
 refine Jx ?_
 unfold am.f am.t
 have hbig:o8.f k code=some (decide ((code.length:Int) > 1048576),()):=rfl
 refine bP hbig ?_
 refine b9 (fun _=>ae rfl) fun hb=>?_
 have hl:code.length≤1048576:=by have:=of_decide_eq_false hb;omega
 refine bA (CQ hk hl) fun r2 q2=>?_
 have hnew:=Ik (n:=20000) (by omega) (by omega)
 refine bP (C6 k (by omega) (by omega)) ?_
 refine bP (qy hk (d:=Iw 20000) hnew.sz) ?_
 refine b9 (fun _=>ae rfl) fun _=>?_
 have he:EV True (EW (jZ (Iw 20000))):=Dw hnew fun _=>⟨(by decide:LT.lt (α:=Int) (-1) 0),rfl⟩
 obtain ⟨n,hn⟩:∃ q,k=q+1:=⟨k-1,by omega⟩
 have same:am.l0 k k=am.l1 k k:=by
  rw [show am.l0 k k=am.l0 k (n+1) by rw [← hn],show am.l1 k k=am.l1 k (n+1) by rw [← hn]]
  rfl
 rw [same]
 exact Iv hk q2 r2.1.1 r2.1.2.1 r2.1.2.2.1.length k 0 0 (EW (jZ (Iw 20000))) (0,([],())) (by omega) (Int.le_refl _) (by omega) he (Int.le_refl _) (by omega) (D5 0)
theorem fnFollowsOn_pure:∀ x,Wf (tup [.slice (.int .u8)]) x→∃ k r,am.f k x.1=some r∧mz (B:=[.bool]) (fw ([.val (.slice (.int .u8))])) r=(true,()):=by
 rintro ⟨a0,_⟩ ⟨f0,_⟩
 suffices Ev (fun k=>am.f k a0) (true,()) by
  obtain ⟨k,h⟩:=this.some
  exact ⟨k,(true,()),h,rfl⟩
 exact Jc fun k hk=>xl hk a0
end Go.Proofs.YtnpijgnfpdcjbaaGreatDoor.G

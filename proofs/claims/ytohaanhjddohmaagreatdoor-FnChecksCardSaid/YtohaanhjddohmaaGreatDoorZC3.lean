/- Plain laws, merged; what is proved here is told ahead of each part. -/
import Derived.Test.YtohaanhjddohmaaGreatDoorZC2
set_option linter.unusedVariables false
set_option linter.unusedSimpArgs false
namespace Go.Proofs.YtohaanhjddohmaaGreatDoor.G
open Go.V
theorem vL (k:Nat) {n:Int} (h0:0≤n) (h1:n≤100000):eM.f k n=some (([],(n,(-1,(false,())))),()):=by
 unfold eM.f eM.t
 rw [gS,aO,aP ⟨h0,h1⟩]
 rfl
def sB (n:Int):Ty.den a_:=([],(n,(-1,(false,()))))
theorem BE {n:Int} (h0:0≤n) (h1:n≤100000):DR (sB n) :=
 ⟨Nat.zero_le _,h0,h1,show LE.le (α:=Int) (-1) (-1) from Int.le_refl _,show LE.le (α:=Int) (-1) 100000 by decide,h0,fun f hf=>(by cases hf),List.Pairwise.nil⟩
theorem DM {st:Ty.den aI} {d:Ty.den a_} {l:s_} (h:SR st (d,0) 100000) (hp:mu l=true) (hd:st.2.1.length≤20) :
 DR (nX st d l).2.1∧(nX st d l).1.1.2.1.length≤60∧(nX st d l).1.2.1.length≤268435456:=by
 have h8:=sn hp
 obtain ⟨g1,g2,g3⟩:=sT (xS l st.2.2.1) (As st) d [] 100000 ⟨h.live,h.disk,h.lo,h.hi⟩ (by decide)
 unfold nX
 generalize js (xS l st.2.2.1) (As st) d []=q at g1 g2 g3 ⊢
 have e2:q.1.1.2.1=st.2.1:=g2
 obtain ⟨_,_,_,hi,_⟩:=dp (nx:=q.1.1.1.1) (ids:=q.1.1.1.2.1) g1.live
 have hs:=nS g1.disk (j0 q.1.1)
 unfold vZ
 cases q.1.2.2 != 0 with
 | true=>exact ⟨g1.disk,hi,by show q.1.1.2.1.length≤_;rw [e2];omega⟩
 | false =>
  simp only [aN]
  generalize j8 q.1.2.1 (j0 q.1.1)=y at hs ⊢
  cases y.2 != 0 with
  | true=>exact ⟨hs,hi,by show q.1.1.2.1.length≤_;rw [e2];omega⟩
  | false =>
   refine ⟨hs,hi,?_⟩
   show (eV q.1.1.2.1 (q.2.take l.length)).length≤_
   have:=pr (q.2.take l.length) q.1.1.2.1
   rw [e2] at this ⊢
   rw [List.length_take] at this
   omega
structure RR (q:Ty.den aI × RD):Prop where
 disk:DR q.2.1
 ids:q.1.1.2.1.length≤60
 dir:q.1.2.1.length≤268435456
theorem GW {n:Int} (h0:0≤n) (h1:n≤100000):RR (jP (sB n)):=by
 have hd:=BE h0 h1
 obtain ⟨g1,g2⟩:=wB hd
 refine ⟨g1,?_,g2⟩
 unfold jP
 have e:(aS (sB n) dG).2=false:=by unfold aS;rw [iH.2 hd];rfl
 rw [iH.2 hd,e]
 show (nk (sB n)).1.1.2.1.length≤60
 unfold nk
 cases (kv (sB n)).2==0
 · exact Nat.zero_le _
 · show 1≤60
   decide
end Go.Proofs.YtohaanhjddohmaaGreatDoor.G
namespace Go.Proofs.YtohaanhjddohmaaGreatDoor.G
open Go.V
def nd:an→Int
 | []=>0
 | p::l=>p.2.2.1+nd l
def vV (l:ac):Prop:=∀ e ∈ l,LE.le (α:=Int) 0 e.2.2.2.1
def DH (l:an):Prop:=∀ p ∈ l,LE.le (α:=Int) 0 p.2.2.1
theorem nJ (e:Ty.den aA) (l:ac):iG (e::l)=e.2.2.2.1+iG l:=rfl
theorem xR:∀ l m:ac,iG (l++m)=iG l+iG m
 | [],m=>by rw [List.nil_append,iG,Int.zero_add]
 | e::l,m=>by rw [List.cons_append,nJ,nJ,xR l m,Int.add_assoc]
theorem nL (p:Ty.den aC) (l:an):nd (p::l)=p.2.2.1+nd l:=rfl
theorem uO:∀ l m:an,nd (l++m)=nd l+nd m
 | [],m=>by rw [List.nil_append,nd,Int.zero_add]
 | p::l,m=>by rw [List.cons_append,nL,nL,uO l m,Int.add_assoc]
theorem uP:∀ {l:an},DH l→0≤nd l
 | [],_=>Int.le_refl _
 | p::l,h=>by
  have h1:=h p pR
  have h2:=uP (l:=l) fun q hq=>h q (s9 _ hq)
  rw [nL]
  omega
theorem Dc {l:an} (h:DH l) (n:Nat):nd (l.take n)≤nd l:=by
 have e:=uO (l.take n) (l.drop n)
 rw [List.take_append_drop] at e
 have:=uP (l:=l.drop n) fun q hq=>h q (List.mem_of_mem_drop hq)
 omega
theorem uR (key:ByteArray):∀ {l:ac},vV l→iG (jI l key)≤iG l∧vV (jI l key)
 | [],h=>⟨Int.le_refl _,h⟩
 | e::l,h=>by
  have h1:=h e pR
  obtain ⟨i1,i2⟩:=uR key (l:=l) fun q hq=>h q (s9 _ hq)
  unfold jI at i1 i2 ⊢
  rw [List.filter_cons]
  cases !(seq e.1 key) with
  | true =>
   rw [if_pos rfl,nJ,nJ]
   refine ⟨by omega,fun q hq=>?_⟩
   rcases List.mem_cons.1 hq with w | w
   · rw [w];exact h1
   · exact i2 q w
  | false =>
   rw [if_neg (by decide),nJ]
   exact ⟨by omega,i2⟩
theorem GN (l:ac) (e:Ty.den aA):iG (sa l e)=iG l+e.2.2.2.1:=by
 unfold sa
 have h:=congrArg iG (List.takeWhile_append_dropWhile (p:=I4 e.1) (l:=l))
 rw [xR] at h
 rw [xR,nJ]
 omega
theorem Hk {l:ac} {e x:Ty.den aA} (h:x ∈ sa l e):x=e∨x ∈ l:=by
 unfold sa at h
 rcases List.mem_append.1 h with w | w
 · exact .inr (List.takeWhile_subset _ w)
 · rcases List.mem_cons.1 w with w | w
   · exact .inl w
   · exact .inr (List.dropWhile_subset _ w)
theorem FG {d:ac} {p:Ty.den aC} (h:vV d) (hp:LE.le (α:=Int) 0 p.2.2.1):iG (jM d p)≤iG d+p.2.2.1∧vV (jM d p):=by
 unfold jM
 cases p.2.2.2.1.1==2 with
 | true =>
  obtain ⟨i1,i2⟩:=uR p.2.2.2.1.2.2.1 h
  exact ⟨by simp only [aZ];omega,i2⟩
 | false =>
  obtain ⟨i1,i2⟩:=uR (w5 p).1 h
  simp only [aN]
  unfold uJ
  rw [GN]
  refine ⟨?_,fun q hq=>?_⟩
  · exact Int.add_le_add_right i1 _
  · rcases Hk hq with w | w
    · rw [w];exact hp
    · exact i2 q w
theorem xQ:∀ (ps:an) (d:ac),vV d→DH ps→iG (eV d ps)≤iG d+nd ps∧vV (eV d ps)
 | [],d,h,_=>⟨by show iG d≤iG d+0;omega,h⟩
 | p::ps,d,h,hp=>by
  obtain ⟨i1,i2⟩:=FG h (hp p pR)
  obtain ⟨j1,j2⟩:=xQ ps (jM d p) i2 fun q hq=>hp q (s9 _ hq)
  rw [nL]
  refine ⟨?_,j2⟩
  show iG (eV (jM d p) ps)≤_
  omega
theorem CA:∀ (l:mh) (st:Ty.den aI) (d:Ty.den a_) (ps:an) (B:Int),SR st (d,0) B→0≤B→DH ps →
 (jA d st.1.2.1:Int)+nd (js l st d ps).2≤(jA (js l st d ps).1.2.1 (js l st d ps).1.1.1.2.1:Int)+nd ps∧DH (js l st d ps).2
 | [],st,d,ps,B,h,_,hp=>⟨Int.le_refl _,hp⟩
 | r::l,st,d,ps,B,h,hB,hp=>by
  obtain ⟨g1,g2,g3⟩:=rp h hB r
  obtain ⟨s1,s2⟩:=Hz (d:=d) h.live h.disk r
  have hr:=m7 r
  unfold js
  generalize jy st d r=q at g1 g2 g3 s1 s2 ⊢
  cases c:q.1.2.2 != 0 with
  | true =>
   simp only [aZ]
   have:(0:Int)≤(if q.1.2.2=0 then dJ r else 0):=by split <;> omega
   exact ⟨by omega,hp⟩
  | false =>
   have e0:=nD c
   rw [if_pos e0] at s1
   have e1:=s2 e0
   have hp':DH (ps++[q.2]):=fun x hx=>by
    rcases List.mem_append.1 hx with w | w
    · exact hp x w
    · rw [List.mem_singleton.1 w]
      show LE.le (α:=Int) 0 q.2.2.2.1
      rw [e1]
      exact hr.1
   obtain ⟨i1,i2⟩:=CA l q.1.1 q.1.2.1 (ps++[q.2]) (B+211) ⟨g1.live,g1.disk,g1.lo,g1.hi⟩ (by omega) hp'
   simp only [aN]
   refine ⟨?_,i2⟩
   rw [uO] at i1
   have e2:nd [q.2]=dJ r:=by rw [nL,e1];show dJ r+0=_;omega
   omega
structure IV (q:Ty.den aI × RD):Prop where
 disk:DR q.2.1
 ids:q.1.1.2.1.length≤60
 dir:q.1.2.1.length≤268435456
 non:vV q.1.2.1
 sum:iG q.1.2.1≤(jA q.2.1 q.1.1.2.1:Int)
theorem Gd {st:Ty.den aI} {d:Ty.den a_} {l:s_} {c:Int} (h:IV (st,(d,c))) (hs:SR st (d,0) 100000) (hp:mu l=true) (hd:st.2.1.length≤20):IV (nX st d l):=by
 obtain ⟨w1,w2,w3⟩:=DM hs hp hd
 have hb:SR (As st) (d,0) 100000:=⟨hs.live,hs.disk,hs.lo,hs.hi⟩
 obtain ⟨g1,g2,g3⟩:=sT (xS l st.2.2.1) (As st) d [] 100000 hb (by decide)
 obtain ⟨s1,s2⟩:=CA (xS l st.2.2.1) (As st) d [] 100000 hb (by decide) (fun x hx=>by cases hx)
 refine ⟨w1,w2,w3,?_,?_⟩
 all_goals
  have hsum:iG st.2.1≤(jA d st.1.2.1:Int):=h.sum
  have hnon:vV st.2.1:=h.non
  unfold nX
  generalize js (xS l st.2.2.1) (As st) d []=q at g1 g2 g3 s1 s2 ⊢
  have e2:q.1.1.2.1=st.2.1:=g2
  have s1:(jA d st.1.2.1:Int)+nd q.2≤(jA q.1.2.1 q.1.1.1.2.1:Int)+0:=s1
  have s3:=uP s2
  have s4:=Dc s2 l.length
  have st2:DH (q.2.take l.length):=fun x hx=>s2 x (List.mem_of_mem_take hx)
  obtain ⟨a1,a2⟩:=xQ (q.2.take l.length) st.2.1 hnon st2
  unfold vZ
  cases q.1.2.2 != 0 with
  | true =>
   first
   | (show vV q.1.1.2.1;rw [e2];exact hnon)
   | (show iG q.1.1.2.1≤(jA q.1.2.1 q.1.1.1.2.1:Int);rw [e2];omega)
  | false =>
   have k1:jA (j8 q.1.2.1 (j0 q.1.1)).1 q.1.1.1.2.1=jA q.1.2.1 q.1.1.1.2.1:=k_ fun x hx=>rD
   simp only [aN]
   generalize j8 q.1.2.1 (j0 q.1.1)=y at k1 ⊢
   cases y.2 != 0 with
   | true =>
    first
    | (show vV q.1.1.2.1;rw [e2];exact hnon)
    | (show iG q.1.1.2.1≤(jA y.1 q.1.1.1.2.1:Int);rw [e2,k1];omega)
   | false =>
    first
    | (show vV (eV q.1.1.2.1 (q.2.take l.length));rw [e2];exact a2)
    | (show iG (eV q.1.1.2.1 (q.2.take l.length))≤(jA y.1 q.1.1.1.2.1:Int);rw [e2,k1];omega)
theorem FQ {st:Ty.den aI} {d:Ty.den a_} {c:Int} (l:s_) (h:IV (st,(d,c))):IV (lD st d l):=by
 have same:∀ z:Int,IV (st,(d,z)):=fun z=>⟨h.disk,h.ids,h.dir,h.non,h.sum⟩
 unfold lD
 cases c1:m9 st d with
 | false=>exact same _
 | true =>
  simp only [fV,aN]
  cases c2:mu l with
  | false=>exact same _
  | true =>
   simp only [fV,aN]
   cases (l.length:Int)==0 with
   | true=>exact same _
   | false =>
    cases decide (sS st.2.1 l > 20) with
    | true=>exact same _
    | false =>
     cases decide (st.2.2.1 > (1000000:Int)) with
     | true=>exact same _
     | false=>exact Gd h (mU c1).1 c2 (mU c1).2.1
theorem Hd {n:Int} (h0:0≤n) (h1:n≤100000):IV (jP (sB n)):=by
 have hr:=GW h0 h1
 have hd:=BE h0 h1
 have e:jP (sB n)=nk (sB n):=by
  unfold jP
  have e:(aS (sB n) dG).2=false:=by unfold aS;rw [iH.2 hd];rfl
  rw [iH.2 hd,e]
  rfl
 refine ⟨hr.disk,hr.ids,hr.dir,?_,?_⟩
 · rw [e]
   unfold nk
   cases (kv (sB n)).2==0 <;> exact fun x hx=>by cases hx
 · rw [e]
   unfold nk
   cases (kv (sB n)).2==0
   · exact Int.le_refl _
   · exact Int.ofNat_le.2 (Nat.zero_le _)
end Go.Proofs.YtohaanhjddohmaaGreatDoor.G
namespace Go.Proofs.YtohaanhjddohmaaGreatDoor.G
open Go.V
def w7 (l:lS) (mark:Int):Int:=((gp (qk l mark)).size:Int)
theorem uu (r:Ty.den bU) (l:mh):(gp (r::l)).size=(ah (aU r)).size+(gp l).size:=by rw [gp,ByteArray.size_append]
end Go.Proofs.YtohaanhjddohmaaGreatDoor.G
namespace Go.Proofs.YtohaanhjddohmaaGreatDoor.G
open Go.V
def yN (nm:ByteArray):mh→RD→RD
 | [],r=>r
 | x::l,r=>yN nm l (ga r fun y=>iv y nm (ah (aU x)))
def il (m:Int) (l:lS) (mark:Int) (d:Ty.den a_):RD:=ga (yN (aB aK m) (qk l mark) (dD (aB aK m) d)) fun y=>j8 y (aB aK m)
def oR (m:Int):lS→Int→ac
 | [],_=>[]
 | p::l,at_=>(p.1,(m,(at_,(dJ (eQ p),(p.2.2.1,())))))::oR m l (at_+dJ (eQ p))
def oY (ns:List ByteArray) (r:RD):RD:=bif r.2==2 then ((dz ns r.1).1,bif (dz ns r.1).2==0 then 2 else fL (dz ns r.1).2) else r
def ku (m:Int):List ByteArray:=[j6,aB aK m,aB aK (m+1),aB bz m]
def vm:List Int→Ty.den a_→RD
 | [],d=>(d,0)
 | x::l,d=>ga (dz [aB aK x,aB bz x] d) (vm l)
def wE (st:Ty.den aI):Ty.den aI:=((st.1.1+2,st.1.2),st.2)
def ky (m:Int):Ty.den bA:=(m+2,([m,m+1],()))
def qL (hb:ByteArray→ByteArray) (m:Int) (d:Ty.den a_):RD :=
 bif (mS (aB bz m) (hb (aS d (aB aK m)).1) d).2==2 then dz [aB bz m] (mS (aB bz m) (hb (aS d (aB aK m)).1) d).1 else mS (aB bz m) (hb (aS d (aB aK m)).1) d
def jl (hb:ByteArray→ByteArray) (st:Ty.den aI) (d:Ty.den a_) (l:lS):Ty.den aI × RD :=
 bif (il st.1.1 l (st.2.2.1-1) d).2 != 0 then (wE st,oY (ku st.1.1) (tl (il st.1.1 l (st.2.2.1-1) d))) else
 bif (dD (aB aK (st.1.1+1)) (il st.1.1 l (st.2.2.1-1) d).1).2 != 0 then (wE st,oY (ku st.1.1) (tl (dD (aB aK (st.1.1+1)) (il st.1.1 l (st.2.2.1-1) d).1))) else
 bif (qL hb st.1.1 (dD (aB aK (st.1.1+1)) (il st.1.1 l (st.2.2.1-1) d).1).1).2 != 0 then (wE st,tl (qL hb st.1.1 (dD (aB aK (st.1.1+1)) (il st.1.1 l (st.2.2.1-1) d).1).1)) else
 bif (dq (ky st.1.1) (qL hb st.1.1 (dD (aB aK (st.1.1+1)) (il st.1.1 l (st.2.2.1-1) d).1).1).1).2 != 0 then
  (wE st,oY (ku st.1.1) (tl (dq (ky st.1.1) (qL hb st.1.1 (dD (aB aK (st.1.1+1)) (il st.1.1 l (st.2.2.1-1) d).1).1).1))) else
 ((ky st.1.1,(oR st.1.1 l 0,(st.2.2.1,(0,(0,()))))),tl (vm st.1.2.1 (dq (ky st.1.1) (qL hb st.1.1 (dD (aB aK (st.1.1+1)) (il st.1.1 l (st.2.2.1-1) d).1).1).1).1))
theorem uY {s:ByteArray} {d:Ty.den a_} (h:(dD s d).2=0):fT (dD s d).1 s=some ByteArray.empty:=by
 unfold dD at h ⊢
 unfold ga at h ⊢
 cases c:(je s d).2==0 with
 | false =>
  rw [c,aN] at h
  rw [h] at c
  cases c
 | true =>
  rw [c,aZ] at h
  rw [aZ]
  obtain ⟨c1,c2⟩:=nF (d:=(je s d).1) (g:=u9 s) h
  unfold fT
  show (bg (ii (je s d).1 (u9 s)).1.1 s).map _=_
  rw [c2]
  unfold u9 at c1 ⊢
  cases c3:jt s with
  | false=>rw [c3] at c1;cases c1
  | true =>
   rw [c3] at c1
   simp only [fV,aN] at c1 ⊢
   cases c4:(bg (je s d).1.1 s) with
   | some f=>rw [c4] at c1;cases c1
   | none =>
    rw [c4] at c1
    simp only [Option.isSome_none,aN] at c1 ⊢
    cases c5:decide (((je s d).1.1.length:Int)≥130) with
    | true=>rw [c5] at c1;cases c1
    | false =>
     simp only [aN]
     rw [A5 (f:=(s,(ByteArray.empty,(0,())))) c4,cm]
     rfl
theorem sO (nm:ByteArray):∀ (l:mh) (r:RD),r.2≠0→yN nm l r=r
 | [],_,_=>rfl
 | x::l,r,h=>by
  unfold yN
  have e:ga r (fun y=>iv y nm (ah (aU x)))=r:=by
   unfold ga
   rw [nZ h]
   rfl
  rw [e]
  exact sO nm l r h
theorem H6 (nm:ByteArray):∀ (l:mh) (r:RD) (x:ByteArray),fT r.1 nm=some x→(yN nm l r).2=0→fT (yN nm l r).1 nm=some (x++gp l)
 | [],r,x,h,_=>by
  show fT r.1 nm=some (x++⟨#[]⟩)
  rw [h,show x++(⟨#[]⟩:ByteArray)=x from H8 x]
 | a::l,r,x,h,z=>by
  unfold yN at z ⊢
  by_cases c:(ga r (fun y=>iv y nm (ah (aU a)))).2=0
  · obtain ⟨c1,c2,c3⟩:=km c
    have c3:(iv r.1 nm (ah (aU a))).2=0:=c3
    have e:fT (ga r (fun y=>iv y nm (ah (aU a)))).1 nm=some (x++ah (aU a)):=by
     rw [c2]
     have:=BI (d:=r.1) (s:=nm) (x:=ah (aU a))
     rw [c3,h] at this
     exact this
    rw [H6 nm l _ _ e z]
    show some (x++ah (aU a)++gp l)=some (x++(ah (aU a)++gp l))
    rw [Ch]
  · rw [sO nm l _ c] at z
    exact absurd z c
theorem Ib {nm t:ByteArray} (h:nm≠t):∀ (l:mh) (r:RD),fT (yN nm l r).1 t=fT r.1 t
 | [],_=>rfl
 | a::l,r=>by
  show fT (yN nm l (ga r fun y=>iv y nm (ah (aU a)))).1 t=_
  rw [Ib h l]
  exact oJ rfl fun y=>D_ h
theorem H7 {m:Int} {l:lS} {mark:Int} {d:Ty.den a_} {t:ByteArray} (h:aB aK m≠t):fT (il m l mark d).1 t=fT d t :=
 oJ ((Ib h _ _).trans (qb h)) fun y=>rD
theorem AZ {hb:ByteArray→ByteArray} {m:Int} {d:Ty.den a_} {t:ByteArray} (h:aB bz m≠t):fT (qL hb m d).1 t=fT d t:=by
 unfold qL
 cases (mS (aB bz m) (hb (aS d (aB aK m)).1) d).2==2 with
 | false=>exact B5 h
 | true =>
  refine (pI _ _ fun s hs=>?_).trans (B5 h)
  rw [List.mem_singleton.1 hs]
  exact h
theorem A6 {t:ByteArray}:∀ (l:List Int) (d:Ty.den a_),(∀ x ∈ l,aB aK x≠t∧aB bz x≠t)→fT (vm l d).1 t=fT d t
 | [],_,_=>rfl
 | x::l,d,h=>by
  show fT (ga (dz [aB aK x,aB bz x] d) (vm l)).1 t=_
  refine oJ (pI _ _ fun s hs=>?_) fun y=>A6 l y fun z hz=>h z (s9 _ hz)
  have:=h x pR
  rcases List.mem_cons.1 hs with e | e
  · rw [e];exact this.1
  · rw [List.mem_singleton.1 e];exact this.2
theorem zV (m:Int):∀ (l:lS) (a:Int),iG (oR m l a)=((gp (l.map eQ)).size:Int)∧vV (oR m l a)
 | [],_=>⟨rfl,fun x hx=>by cases hx⟩
 | p::l,a=>by
  obtain ⟨i1,i2⟩:=zV m l (a+dJ (eQ p))
  have hr:=m7 (eQ p)
  refine ⟨?_,fun x hx=>?_⟩
  · show dJ (eQ p)+iG (oR m l (a+dJ (eQ p)))=_
    rw [i1,List.map_cons,uu]
    unfold dJ
    omega
  · rcases List.mem_cons.1 hx with e | e
    · rw [e];exact hr.1
    · exact i2 x e
end Go.Proofs.YtohaanhjddohmaaGreatDoor.G
namespace Go.Proofs.YtohaanhjddohmaaGreatDoor.G
open Go.V
theorem qj {x y:Int} (hx:1≤x∧x≤100000) (hy:1≤y∧y≤100000):aB bz x≠aB aK y:=fun q=>by
 have e:aB bz x=bz++fy x:=by unfold aB;rw [aP hx];rfl
 rw [wZ hy,e] at q
 have:=congrArg nb q
 rw [iL,iL] at this
 cases this
theorem F4 {x:Int} (hx:1≤x∧x≤100000):aB bz x≠dG:=fun q=>by
 have e:aB bz x=bz++fy x:=by unfold aB;rw [aP hx];rfl
 rw [e] at q
 have:=congrArg nb q
 rw [iL] at this
 cases this
theorem Gw {s t:ByteArray} {d:Ty.den a_} (z:(mS s t d).2=0):fT (mS s t d).1 s=some t:=by
 unfold mS at z ⊢
 obtain ⟨z1,e1,z2⟩:=km z
 obtain ⟨z3,e2,z4⟩:=km z1
 rw [e1,rD,e2]
 have:=BI (d:=(dD s d).1) (s:=s) (x:=t)
 rw [z4,uY z3] at this
 have this:fT (iv (dD s d).1 s t).1 s=some (ByteArray.empty++t):=this
 rw [this,show (ByteArray.empty:ByteArray)=dB [] from rfl,wu]
theorem I1 {d:Ty.den a_} {a b:ByteArray} (hd:DR d) (hab:a≠b) (z:(vp d a b).2=0):fT (vp d a b).1 b=fT d a:=by
 obtain ⟨c1,c2⟩:=nF z
 unfold fT
 show (bg (ii d (ye a b)).1.1 b).map _=_
 rw [c2]
 unfold ye at c1 ⊢
 cases c3:jt b with
 | false=>rw [c3] at c1;exact absurd c1 (by show (5:Int)≠0;decide)
 | true =>
  rw [c3] at c1
  simp only [fV,aN] at c1 ⊢
  cases c4:bg d.1 a with
  | none=>rw [c4] at c1;exact absurd c1 (by show (3:Int)≠0;decide)
  | some f =>
   simp only []
   rw [lb hab,aN]
   have hk:iw (kt (ib d.1 a)):=rO (mz _ _) hd.keys
   show (bg (gw (ib (ib d.1 a) b) (b,f.2)) b).map _=_
   rw [A5 (f:=(b,f.2)) (qu hk b),cm]
   rfl
theorem B4 {v:Ty.den bA} {d:Ty.den a_} (hd:DR d) (z:(dq v d).2=0):fT (dq v d).1 dG=some (au v):=by
 unfold dq at z ⊢
 obtain ⟨z1,e1,z2⟩:=km z
 rw [e1,I1 (pT _ _ _ hd) (by decide) z2,Gw z1]
theorem wb {n:Int} (h0:0≤n) (h1:n≤127):(iA n).size=1:=by
 unfold iA
 rw [if_pos ⟨h0,by omega⟩,← qr (by omega)]
 unfold vl
 rw [if_neg (by omega)]
 rfl
theorem Dp {n:Int} (h0:0≤n) (h1:n≤2097151):(iA n).size≤3:=by
 unfold iA
 rw [if_pos ⟨h0,by omega⟩,← qr (by omega)]
 unfold vl
 split
 · rw [lM]
   unfold vl
   split
   · rw [lM]
     unfold vl
     rw [if_neg (by omega)]
     exact Nat.le_refl _
   · show 1+1≤3
     decide
 · show 1≤3
   decide
theorem H4 (mark:Int) (l:mh):dJ (j_ 5 mark l)≤20:=by
 have key:(aU (j_ 5 mark l)).size≤9:=by
  unfold aU
  by_cases c:ik (j_ 5 mark l)=true
  · rw [if_pos c]
    rcases mW c with ⟨q,_⟩ | ⟨q,_⟩ | ⟨_,_,_,h1,h2,_,_,h3,h4⟩
    · exact absurd q (by show ¬ ((5:Int)=1∨(5:Int)=4);decide)
    · exact absurd q (by show ¬ ((5:Int)=2);decide)
    · rw [if_neg (by show ¬ ((5:Int)=1∨(5:Int)=4);decide),if_neg (by show ¬ ((5:Int)=2);decide),ByteArray.size_append,ByteArray.size_append,ByteArray.size_append,k8]
      have e1:(iA (j_ 5 mark l).1).size=1:=wb (n:=5) (by decide) (by decide)
      have e2:=Dp (n:=(j_ 5 mark l).2.1) h3 (Int.le_trans h4 (by decide))
      have e3:=wb (n:=(j_ 5 mark l).2.2.2.2.1) h1 (Int.le_trans h2 (by decide))
      omega
  · rw [if_neg c]
    exact Nat.zero_le _
 unfold dJ ah
 rw [if_neg (by omega),ByteArray.size_append,k8]
 unfold jW
 rw [ByteArray.size_append,wb (by omega) (by omega)]
 omega
theorem CW (m:Int):∀ (l:lS) (a:Int),(oR m l a).length=l.length
 | [],_=>rfl
 | p::l,a=>by
  show (oR m l (a+dJ (eQ p))).length+1=_
  rw [CW m l]
  rfl
theorem Fd {hb:ByteArray→ByteArray} {st:Ty.den aI} {d:Ty.den a_} {c:Int} {l:lS} (h:IV (st,(d,c))) (hl:dR st.1=true) (hn:LE.le (α:=Int) (st.1.1+2) 100000) (hlen:l.length≤268435456) :
 IV (jl hb st d l)∧((jl hb st d l).2.2=0→(jA (jl hb st d l).2.1 (jl hb st d l).1.1.2.1:Int)=w7 l (st.2.2.1-1)∧(jA (jl hb st d l).2.1 (jl hb st d l).1.1.2.1:Int)-iG (jl hb st d l).1.2.1≤20 ∧
  fT (jl hb st d l).2.1 (aB aK st.1.1)=some (gp (qk l (st.2.2.1-1)))∧fT (jl hb st d l).2.1 (aB aK (st.1.1+1))=some ByteArray.empty∧(jl hb st d l).1=(ky st.1.1,(oR st.1.1 l 0,(st.2.2.1,(0,(0,()))))) ∧
  fT (jl hb st d l).2.1 dG=some (au (ky st.1.1))):=by
 obtain ⟨n1,n2,n3,_⟩:=nV (n:=st.1.1) (ids:=st.1.2.1) hl
 have hd:DR d:=h.disk
 have hsum:iG st.2.1≤(jA d st.1.2.1:Int):=h.sum
 have hm:(1:Int)≤st.1.1∧st.1.1≤(100000:Int):=⟨n1,n2⟩
 have hm1:LE.le (α:=Int) 1 (st.1.1+1)∧LE.le (α:=Int) (st.1.1+1) 100000:=⟨by omega,by omega⟩
 have hseg:∀ x:Int,x ∈ st.1.2.1→1≤x∧x≤100000:=fun x hx=>⟨(n3 x hx).1,by have:=(n3 x hx).2;omega⟩
 have no1:∀ x ∈ st.1.2.1,aB aK st.1.1≠aB aK x:=fun x hx=>ue hm (hseg x hx) (by have:=(n3 x hx).2;omega)
 have no2:∀ x ∈ st.1.2.1,aB aK (st.1.1+1)≠aB aK x:=fun x hx=>ue hm1 (hseg x hx) (by have:=(n3 x hx).2;omega)
 have no3:∀ x ∈ st.1.2.1,aB bz st.1.1≠aB aK x:=fun x hx=>qj hm (hseg x hx)
 have no4:aB aK (st.1.1+1)≠aB aK st.1.1:=ue hm1 hm (by omega)
 have jump:∀ r:RD,DR r.1→(∀ x ∈ st.1.2.1,fT r.1 (aB aK x)=fT d (aB aK x))→IV (wE st,r):=fun r hr k=>⟨hr,h.ids,h.dir,h.non,by
  show iG st.2.1≤(jA r.1 st.1.2.1:Int)
  rw [k_ k]
  exact hsum⟩
 have dropK:∀ (r:RD),DR r.1→(∀ x ∈ st.1.2.1,fT r.1 (aB aK x)=fT d (aB aK x))→r.2≠0→IV (wE st,oY (ku st.1.1) r)∧(oY (ku st.1.1) r).2≠0:=fun r hr k hz=>by
  unfold oY
  cases r.2==2 with
  | false=>exact ⟨jump r hr k,hz⟩
  | true =>
   refine ⟨jump _ (mc _ _ hr) fun x hx=>(pI _ _ fun s hs=>?_).trans (k x hx),?_⟩
   · unfold ku at hs
     rcases List.mem_cons.1 hs with e | e
     · rw [e];exact nc (hseg x hx)
     rcases List.mem_cons.1 e with e | e
     · rw [e];exact no1 x hx
     rcases List.mem_cons.1 e with e | e
     · rw [e];exact no2 x hx
     · rw [List.mem_singleton.1 e];exact no3 x hx
   · show (bif (dz (ku st.1.1) r.1).2==0 then (2:Int) else fL (dz (ku st.1.1) r.1).2)≠0
     cases q:(dz (ku st.1.1) r.1).2==0 with
     | true =>
      show (2:Int)≠0
      decide
     | false =>
      intro e
      have:=gg (dz (ku st.1.1) r.1).2
      rw [q] at this
      simp only [aN] at e
      rw [e] at this
      cases this
 have tlnz:∀ r:RD,(r.2 != 0)=true→(tl r).2≠0:=fun r q e=>by
  have:=Gx r
  rw [e,q] at this
  cases this
 have a0:DR (il st.1.1 l (st.2.2.1-1) d).1:=by
  refine ke ?_ fun x hx=>nS hx _
  have:∀ (rs:mh) (r:RD),DR r.1→DR (yN (aB aK st.1.1) rs r).1:=by
   intro rs
   induction rs with
   | nil=>exact fun r hr=>hr
   | cons x rs ih=>exact fun r hr=>ih _ (ke hr fun y hy=>qC hy _ _)
  exact this _ _ (kz _ _ hd)
 have a1:∀ x ∈ st.1.2.1,fT (il st.1.1 l (st.2.2.1-1) d).1 (aB aK x)=fT d (aB aK x):=fun x hx=>H7 (no1 x hx)
 have a2:(il st.1.1 l (st.2.2.1-1) d).2=0→fT (il st.1.1 l (st.2.2.1-1) d).1 (aB aK st.1.1)=some (gp (qk l (st.2.2.1-1))):=fun z=>by
  unfold il at z ⊢
  obtain ⟨z1,z2,_⟩:=km z
  rw [z2]
  rw [rD]
  have z0:(dD (aB aK st.1.1) d).2=0:=by
   by_cases w:(dD (aB aK st.1.1) d).2=0
   · exact w
   · rw [sO _ _ _ w] at z1
     exact absurd z1 w
  have:=H6 (aB aK st.1.1) (qk l (st.2.2.1-1)) (dD (aB aK st.1.1) d) ByteArray.empty (uY z0) z1
  rw [this,show (ByteArray.empty:ByteArray)=dB [] from rfl,wu]
 unfold jl
 generalize il st.1.1 l (st.2.2.1-1) d=a at a0 a1 a2 ⊢
 cases ca:a.2 != 0 with
 | true =>
  obtain ⟨g1,g2⟩:=dropK (tl a) a0 a1 (tlnz a ca)
  exact ⟨g1,fun e=>absurd e g2⟩
 | false =>
  have b0:=kz (aB aK (st.1.1+1)) a.1 a0
  have b1:∀ x ∈ st.1.2.1,fT (dD (aB aK (st.1.1+1)) a.1).1 (aB aK x)=fT d (aB aK x):=fun x hx=>(qb (no2 x hx)).trans (a1 x hx)
  have b2:=(qb (d:=a.1) no4).trans (a2 (nD ca))
  have b3:=uY (s:=aB aK (st.1.1+1)) (d:=a.1)
  simp only [aN]
  generalize dD (aB aK (st.1.1+1)) a.1=b at b0 b1 b2 b3 ⊢
  cases cb:b.2 != 0 with
  | true =>
   obtain ⟨g1,g2⟩:=dropK (tl b) b0 b1 (tlnz b cb)
   exact ⟨g1,fun e=>absurd e g2⟩
  | false =>
   have b3:=b3 (nD cb)
   have c0:DR (qL hb st.1.1 b.1).1:=by
    unfold qL
    cases (mS (aB bz st.1.1) (hb (aS b.1 (aB aK st.1.1)).1) b.1).2==2 with
    | true=>exact mc _ _ (pT _ _ _ b0)
    | false=>exact pT _ _ _ b0
   have c1:∀ x ∈ st.1.2.1,fT (qL hb st.1.1 b.1).1 (aB aK x)=fT d (aB aK x):=fun x hx=>(AZ (no3 x hx)).trans (b1 x hx)
   have c2:=(AZ (hb:=hb) (d:=b.1) (qj hm hm)).trans b2
   have c3:=(AZ (hb:=hb) (d:=b.1) (qj hm hm1)).trans b3
   simp only [aN]
   generalize qL hb st.1.1 b.1=e at c0 c1 c2 c3 ⊢
   cases ce:e.2 != 0 with
   | true=>exact ⟨jump (tl e) c0 c1,fun z=>absurd z (tlnz e ce)⟩
   | false =>
    have d0:=nq (ky st.1.1) _ c0
    have d1:∀ x ∈ st.1.2.1,fT (dq (ky st.1.1) e.1).1 (aB aK x)=fT d (aB aK x):=fun x hx=>(pi (nc (hseg x hx)) (p0 (hseg x hx))).trans (c1 x hx)
    have d2:=(pi (d:=e.1) (v:=ky st.1.1) (nc hm) (p0 hm)).trans c2
    have d3:=(pi (d:=e.1) (v:=ky st.1.1) (nc hm1) (p0 hm1)).trans c3
    have d4:=B4 (v:=ky st.1.1) c0
    simp only [aN]
    generalize dq (ky st.1.1) e.1=f at d0 d1 d2 d3 d4 ⊢
    cases cf:f.2 != 0 with
    | true =>
     obtain ⟨g1,g2⟩:=dropK (tl f) d0 d1 (tlnz f cf)
     exact ⟨g1,fun z=>absurd z g2⟩
    | false =>
     simp only [aN]
     have o0:∀ (ids:List Int) (x:Ty.den a_),DR x→DR (vm ids x).1:=by
      intro ids
      induction ids with
      | nil=>exact fun x hx=>hx
      | cons y ids ih=>exact fun x hx=>ke (mc _ _ hx) fun z hz=>ih z hz
     have o2:=(A6 st.1.2.1 f.1 fun x hx=>⟨fun q=>no1 x hx q.symm,qj (hseg x hx) hm⟩).trans d2
     have o3:=(A6 st.1.2.1 f.1 fun x hx=>⟨fun q=>no2 x hx q.symm,qj (hseg x hx) hm1⟩).trans d3
     have o4:=(A6 st.1.2.1 f.1 fun x hx=>⟨fun q=>p0 (hseg x hx) q.symm,F4 (hseg x hx)⟩).trans (d4 (nD cf))
     have o1:=o0 st.1.2.1 f.1 d0
     generalize vm st.1.2.1 f.1=o at o1 o2 o3 o4 ⊢
     obtain ⟨l1,l2⟩:=zV st.1.1 l 0
     have hk:=H4 (st.2.2.1-1) (l.map eQ)
     have hk0:=(m7 (j_ 5 (st.2.2.1-1) (l.map eQ))).1
     have tot:(jA o.1 [st.1.1,st.1.1+1]:Int)=iG (oR st.1.1 l 0)+dJ (j_ 5 (st.2.2.1-1) (l.map eQ)):=by
      unfold jA FJ
      rw [List.map_cons,List.map_singleton,List.sum_cons,List.sum_singleton,o2,o3,l1]
      simp only [Option.getD_some]
      unfold qk
      rw [uw,ByteArray.size_append]
      have e1:(gp [j_ 5 (st.2.2.1-1) (l.map eQ)]).size=(ah (aU (j_ 5 (st.2.2.1-1) (l.map eQ)))).size:=by rw [uu];rfl
      have e2:(ByteArray.empty:ByteArray).size=0:=rfl
      rw [e1,e2]
      unfold dJ
      omega
     have tot0:(jA o.1 [st.1.1,st.1.1+1]:Int)=w7 l (st.2.2.1-1):=by
      unfold jA FJ w7
      rw [List.map_cons,List.map_singleton,List.sum_cons,List.sum_singleton,o2,o3]
      rfl
     refine ⟨⟨o1,(show 2≤60 by decide),?_,l2,?_⟩,fun _=>⟨tot0,?_,o2,o3,by trivial,o4⟩⟩
     · show (oR st.1.1 l 0).length≤_
       rw [CW]
       exact hlen
     · show iG (oR st.1.1 l 0)≤(jA o.1 [st.1.1,st.1.1+1]:Int)
       omega
     · show (jA o.1 [st.1.1,st.1.1+1]:Int)-iG (oR st.1.1 l 0)≤20
       omega
end Go.Proofs.YtohaanhjddohmaaGreatDoor.G
namespace Go.Proofs.YtohaanhjddohmaaGreatDoor.G
open Go.V
theorem ql {k:Nat} (hk:2 ^ 50≤k) (st:Ty.den aI) {r:RD} (hd:DR r.1) {m:Int} (h0:1≤m) (h1:m≤100000):dj.f k st r.1 m r.2=some (st,((oY (ku m) r).1,((oY (ku m) r).2,()))):=by
 unfold dj.f dj.t oY
 cases c:r.2==2 with
 | false =>
  have:(r.2 != 2)=true:=by unfold bne;rw [c];rfl
  rw [this]
  rfl
 | true =>
  have:(r.2 != 2)=false:=by unfold bne;rw [c];rfl
  rw [this]
  simp only [aN,aZ]
  rw [aD (n:=m+1) (by omega) (by omega),bV hk,aO,bV hk,aO,iD hk,aO]
  simp only []
  rw [show ([(⟨#[116,101,109,112]⟩:ByteArray),aB aK m,aB aK (m+1),aB bz m]:List ByteArray)=ku m from rfl,nE hk hd (by unfold ku;simp),aO]
  simp only [bne]
  cases q:(dz (ku m) r.1).2==0 with
  | true=>rw [E7 c];rfl
  | false=>simp only [ot,aZ,aN,dC,aO]
theorem B8 (k:Nat) (p:Ty.den aE):kg.f k p=some (eQ p,()):=rfl
theorem Dm {k:Nat} (hk:2 ^ 50≤k) (ids old:List Int) (dir:ac) (nx b s h:Int) (ho:old.length≤1073741824) {d:Ty.den a_} (hd:DR d) :
 bw.l0 k k 0 ids dir nx b s h [] [] 0 0 0 0 [] 0 0 false d.1 d.2.1 d.2.2.1 d.2.2.2.1 old=some (((nx,(ids,())),(dir,(b,(s,(h,()))))),((tl (vm old d)).1,((tl (vm old d)).2,()))):=by
 refine du (L:=fun n i (x:Ty.den a_)=>bw.l0 k n i ids dir nx b s h [] [] 0 0 0 0 [] 0 0 false x.1 x.2.1 x.2.2.1 x.2.2.2.1 old) (R:=fun r x=>(some (((nx,(ids,())),(dir,(b,(s,(h,()))))),((tl (vm r x)).1,((tl (vm r x)).2,()))):bw.Rs))
  (Ty.dflt (.int .i64)) old (fun _ x=>DR x) (fun n x hx=>?_) (fun n i x y rest h0 h1 hy hr hx ih=>?_) (n:=k) (s:=d) (by omega) hd
 · simp only [bw.l0,bw.b0]
   rw [aQ (by omega),aN]
   rfl
 · simp only [bw.l0,bw.b0]
   rw [aP h1,aZ,aG h0 h1,hy,bV hk,aO,aG h0 h1,iD hk,aO]
   simp only []
   rw [show (x.1,(x.2.1,(x.2.2.1,(x.2.2.2.1,()))))=x from rfl,nE hk hx (by simp),aO,aD (n:=i+1) (by omega) (by omega)]
   have hz:=mc [aB aK y,aB bz y] x hx
   simp only [vm]
   generalize dz [aB aK y,aB bz y] x=q at hz ⊢
   unfold ga
   simp only [bne]
   cases c:q.2==0 with
   | false=>simp only [ot,aZ,aN,dC,aO];rfl
   | true =>
    simp only [fV,aZ,aN]
    exact ih q.1 hz
end Go.Proofs.YtohaanhjddohmaaGreatDoor.G
namespace Go.Proofs.YtohaanhjddohmaaGreatDoor.G
open Go.V
def B_ (m:Int):lS→RD→ac→Int→ac
 | [],_,dir,_=>dir
 | p::l,r,dir,a=>bif r.2==0 then B_ m l (iv r.1 (aB aK m) (ah (aU (eQ p)))) (dir++[(p.1,(m,(a,(dJ (eQ p),(p.2.2.1,())))))]) (a+dJ (eQ p)) else dir
theorem EW (m:Int):∀ (l:lS) (r:RD) (dir:ac) (a:Int),r.2=0→(yN (aB aK m) (l.map eQ) r).2=0→B_ m l r dir a=dir++oR m l a
 | [],_,dir,_,_,_=>(List.append_nil dir).symm
 | p::l,r,dir,a,h,z=>by
  have e:ga r (fun y=>iv y (aB aK m) (ah (aU (eQ p))))=iv r.1 (aB aK m) (ah (aU (eQ p))):=by
   unfold ga
   rw [h]
   rfl
  have z:(yN (aB aK m) (l.map eQ) (ga r fun y=>iv y (aB aK m) (ah (aU (eQ p))))).2=0:=z
  rw [e] at z
  have z2:(iv r.1 (aB aK m) (ah (aU (eQ p)))).2=0:=by
   by_cases w:(iv r.1 (aB aK m) (ah (aU (eQ p)))).2=0
   · exact w
   · rw [sO _ _ _ w] at z
     exact absurd z w
  unfold B_
  rw [show (r.2==0)=true by rw [h];rfl,aZ,EW m l _ _ _ z2 z,rX]
  rfl
end Go.Proofs.YtohaanhjddohmaaGreatDoor.G
namespace Go.Proofs.YtohaanhjddohmaaGreatDoor.G
open Go.V
theorem yu {k:Nat} (hk:2 ^ 50≤k) {d:Ty.den a_} (hd:DR d) (m:Int) {l:lS} (hl:l.length≤1000000) (mark:Int) :
 dy.f k d m l mark=some ((il m l mark d).1,(B_ m l (dD (aB aK m) d) [] 0,(fL (il m l mark d).2,()))):=by
 have hsz:=wD m
 unfold dy.f dy.t
 rw [bV hk,aO]
 simp only []
 rw [n_ hk hd (by omega),aO]
 simp only []
 have hf:=kz (aB aK m) d hd
 unfold il qk
 generalize dD (aB aK m) d=r0 at hf ⊢
 refine du (L:=fun n i (s:RD × ac × Int × mh)=>dy.l0 k n m l mark s.1.2 s.2.2.1 i [] 0 0 false s.2.1 s.1.1.1 s.1.1.2.1 s.1.1.2.2.1 s.1.1.2.2.2.1 s.2.2.2)
  (R:=fun r s=>(some ((ga (yN (aB aK m) (r.map eQ++[j_ 5 mark (l.map eQ)]) s.1) fun y=>j8 y (aB aK m)).1,(B_ m r s.1 s.2.1 s.2.2.1,(fL (ga (yN (aB aK m) (r.map eQ++[j_ 5 mark (l.map eQ)]) s.1) fun y=>j8 y (aB aK m)).2,()))):dy.Rs))
  (Ty.dflt aE) l (fun i s=>DR s.1.1∧(s.1.2=0→s.2.2.2=(l.take i.toNat).map eQ)∧0≤s.2.2.1∧s.2.2.1≤211*i∧(s.2.1.length:Int)≤i∧(s.2.2.2.length:Int)≤i) (fun n s hs=>?_) (fun n i s x rest h0 h1 hx hr hs ih=>?_) (n:=k) (s:=(r0,([],(0,[])))) (by omega) ⟨hf,fun _=>rfl,Int.le_refl _,by simp,by simp,by simp⟩
 · obtain ⟨r,dir,a,recs⟩:=s
   obtain ⟨g1,g2,g3,g4,g5,g6⟩:=hs
   simp only [] at g1 g2 g3 g4 g5 g6 ⊢
   simp only [dy.l0,dy.b0]
   rw [aQ (by omega),aN]
   simp only [List.map_nil,List.nil_append,yN,B_]
   by_cases c:r.2=0
   · rw [Int.toNat_natCast,List.take_length] at g2
     rw [show (r.2==0)=true by rw [c];rfl,aZ,bV hk,aO,g2 c,md hk (by rw [List.length_map];omega),aO]
     simp only []
     rw [cK hk,aO]
     simp only []
     rw [iz hk,aO]
     simp only []
     have hfz:=i7 (aU (j_ 5 mark (l.map eQ)))
     rw [show (r.1.1,(r.1.2.1,(r.1.2.2.1,(r.1.2.2.2.1,()))))=r.1 from rfl,nW hk g1.sz (aB aK m) (by omega),aO]
     simp only []
     have ha:=qC g1 (aB aK m) (ah (aU (j_ 5 mark (l.map eQ))))
     rw [show ga r (fun y=>iv y (aB aK m) (ah (aU (j_ 5 mark (l.map eQ)))))=iv r.1 (aB aK m) (ah (aU (j_ 5 mark (l.map eQ)))) by unfold ga;rw [c];rfl]
     generalize iv r.1 (aB aK m) (ah (aU (j_ 5 mark (l.map eQ))))=q at ha ⊢
     unfold ga
     cases c2:q.2==0 with
     | true =>
      simp only [aZ]
      rw [aO]
      simp only []
      rw [lI hk ha.sz,aO,dC,aO]
     | false=>simp only [aN,dC,aO]
   · rw [nZ c]
     have e:ga r (fun y=>iv y (aB aK m) (ah (aU (j_ 5 mark (l.map eQ)))))=r:=by unfold ga;rw [nZ c];rfl
     rw [e]
     unfold ga
     rw [nZ c]
     simp only [aN,dC,aO]
 · obtain ⟨r,dir,a,recs⟩:=s
   obtain ⟨g1,g2,g3,g4,g5,g6⟩:=hs
   simp only [] at g1 g2 g3 g4 g5 g6 ih ⊢
   have hi:i.toNat<l.length:=by omega
   have et:l.take (i+1).toNat=l.take i.toNat++[x]:=by
    rw [show (i+1).toNat=i.toNat+1 by omega,List.take_succ_eq_append_getElem hi]
    congr 2
    rw [← hx]
    simp [List.getD,hi]
   simp only [dy.l0,dy.b0]
   rw [aP h1,aZ]
   simp only [List.map_cons,List.cons_append,yN,B_]
   by_cases c:r.2=0
   · have hr:=m7 (eQ x)
     have hfz:=i7 (aU (eQ x))
     have hz:((ah (aU (eQ x))).size:Int)=dJ (eQ x):=rfl
     rw [show (r.2==0)=true by rw [c];rfl,aZ,aG h0 h1,hx,B8,aO]
     simp only []
     rw [cK hk,aO]
     simp only []
     rw [iz hk,aO]
     simp only []
     rw [bV hk,aO]
     simp only []
     rw [show (r.1.1,(r.1.2.1,(r.1.2.2.1,(r.1.2.2.2.1,()))))=r.1 from rfl,nW hk g1.sz (aB aK m) (by omega),aO]
     simp only []
     rw [bK (by omega) (by decide),bK (by omega) (by decide),hz,aD (n:=a+dJ (eQ x)) (by omega) (by omega),aD (n:=i+1) (by omega) (by omega)]
     have ha:=qC g1 (aB aK m) (ah (aU (eQ x)))
     rw [show ga r (fun y=>iv y (aB aK m) (ah (aU (eQ x))))=iv r.1 (aB aK m) (ah (aU (eQ x))) by unfold ga;rw [c];rfl,aZ]
     exact ih (iv r.1 (aB aK m) (ah (aU (eQ x))),(dir++[(x.1,(m,(a,(dJ (eQ x),(x.2.2.1,())))))],(a+dJ (eQ x),recs++[eQ x]))) ⟨ha,fun _=>by simp only [];rw [g2 c,et,List.map_append];rfl,by simp only [];omega,by simp only [];omega,by simp only [];rw [vW,List.length_singleton];omega,by simp only [];rw [vW,List.length_singleton];omega⟩
   · rw [nZ c]
     have e:ga r (fun y=>iv y (aB aK m) (ah (aU (eQ x))))=r:=by unfold ga;rw [nZ c];rfl
     rw [e,sO _ _ _ c]
     unfold ga
     rw [nZ c]
     simp only [aN,dC,aO]
end Go.Proofs.YtohaanhjddohmaaGreatDoor.G
namespace Go.Proofs.YtohaanhjddohmaaGreatDoor.G
open Go.V
noncomputable def KQ (m:Int) (s:ByteArray):ByteArray:=bu (fp m s).1
theorem GI (nm:ByteArray):∀ (l m:mh) (r:RD),yN nm (l++m) r=yN nm m (yN nm l r)
 | [],_,_=>rfl
 | x::l,m,r=>by
  exact GI nm l m (ga r fun y=>iv y nm (ah (aU x)))
theorem IQ (nm:ByteArray):∀ (rs:mh) (r:RD),DR r.1→DR (yN nm rs r).1
 | [],_,h=>h
 | x::rs,r,h=>IQ nm rs _ (ke h fun y hy=>qC hy _ _)
theorem HQ (m:Int) (l:lS) (mark:Int) {d:Ty.den a_} (hd:DR d):DR (il m l mark d).1 :=
 ke (IQ _ _ _ (kz _ _ hd)) fun x hx=>nS hx _
theorem FW {m:Int} {l:lS} {mark:Int} {d:Ty.den a_} (h:(il m l mark d).2=0):B_ m l (dD (aB aK m) d) [] 0=oR m l 0:=by
 unfold il at h
 obtain ⟨z1,z2,_⟩:=km h
 unfold qk at z1
 rw [GI] at z1
 have z3:(yN (aB aK m) (l.map eQ) (dD (aB aK m) d)).2=0:=by
  by_cases w:(yN (aB aK m) (l.map eQ) (dD (aB aK m) d)).2=0
  · exact w
  · rw [sO _ _ _ w] at z1
    exact absurd z1 w
 have z0:(dD (aB aK m) d).2=0:=by
  by_cases w:(dD (aB aK m) d).2=0
  · exact w
  · rw [sO _ _ _ w] at z3
    exact absurd z3 w
 rw [EW m l _ [] 0 z0 z3,List.nil_append]
theorem G8 {m:Int} (h0:1≤m) (h1:m+2≤100000):dR (ky m)=true:=by
 have e:aF (m+2-1)=m+1:=by rw [aD (n:=m+2-1) (by omega) (by omega)];omega
 unfold dR ky
 simp only []
 rw [aP (show (1:Int)≤m+2∧m+2≤100000 from ⟨by omega,h1⟩),e]
 simp only [qO,nz,lM,List.length_nil]
 rw [aP (show (1:Int)≤m∧m≤m+1 from ⟨h0,by omega⟩),aP (show (1:Int)≤m+1∧m+1≤m+1 from ⟨by omega,by omega⟩),aP (show m<m+1 by omega)]
 rfl
theorem EB (c:Int):(fL c != 0)=(c != 0):=by unfold bne;rw [gg]
theorem xq {k:Nat} (hk:2 ^ 50≤k) {st:Ty.den aI} (hl:dR st.1=true) (hn:LE.le (α:=Int) (st.1.1+2) 100000) {f:Ty.den a_} (hf:DR f) (dir:ac) :
 (rm (Ty.bytes (.int .i64)) (0+List.length st.1.2.1) ((f8.f k f (st.1.1+2,([st.1.1,st.1.1+1],()))).bind fun r16=>(bif (r16.2.1 != 0) then ((dj.f k ((st.1.1+2,st.1.2),st.2) r16.1 st.1.1 r16.2.1).bind fun r17=>(some r17)) else
  (bw.l0 k k 0 [st.1.1,st.1.1+1] dir (st.1.1+2) st.2.2.1 0 0 [] [] 0 0 0 0 [] 0 0 false r16.1.1 r16.1.2.1 r16.1.2.2.1 r16.1.2.2.2.1 ([]++st.1.2.1)))):bw.Rs) =
 some (oS (bif (dq (ky st.1.1) f).2 != 0 then (wE st,oY (ku st.1.1) (tl (dq (ky st.1.1) f))) else ((ky st.1.1,(dir,(st.2.2.1,(0,(0,()))))),tl (vm st.1.2.1 (dq (ky st.1.1) f).1)))):=by
 obtain ⟨n1,n2,n3,_⟩:=nV (n:=st.1.1) (ids:=st.1.2.1) hl
 have h60:st.1.2.1.length≤60:=(dp (nx:=st.1.1) (ids:=st.1.2.1) hl).2.2.2.1
 rw [bK (by omega) (by decide),ng hk hf (v:=(st.1.1+2,([st.1.1,st.1.1+1],()))) (G8 n1 hn),aO]
 rw [show ((st.1.1+2,([st.1.1,st.1.1+1],())):Ty.den bA)=ky st.1.1 from rfl]
 have hp:=nq (ky st.1.1) f hf
 generalize dq (ky st.1.1) f=q at hp ⊢
 simp only []
 rw [EB]
 cases c:q.2 != 0 with
 | true =>
  simp only [aZ]
  rw [show fL q.2=(tl q).2 from rfl,show q.1=(tl q).1 from rfl,ql hk _ (r:=tl q) hp n1 n2,aO]
  rfl
 | false =>
  simp only [aN,List.nil_append]
  rw [Dm hk _ _ _ _ _ _ _ (by omega) hp]
  rfl
theorem yk {k:Nat} (hk:2 ^ 50≤k) {st:Ty.den aI} {d:Ty.den a_} (hd:DR d) (hl:dR st.1=true) (hn:LE.le (α:=Int) (st.1.1+2) 100000) (hb0:LE.le (α:=Int) 1 st.2.2.1) (hb1:LE.le (α:=Int) st.2.2.1 1000001) {l:lS} (hlen:l.length≤1000000) :
 bw.f k st d l=some (oS (jl (KQ st.1.1) st d l)):=by
 obtain ⟨n1,n2,n3,_⟩:=nV (n:=st.1.1) (ids:=st.1.2.1) hl
 have s1:=wD st.1.1
 have s2:=wD (st.1.1+1)
 have s3:=qX (.inr rfl:bz=aK∨bz=bz) st.1.1
 unfold bw.f bw.t
 rw [aD (n:=st.2.2.1-1) (by omega) (by omega),aD (n:=st.1.1+2) (by omega) (by omega),aD (n:=st.1.1+1) (by omega) (by omega),yu hk hd _ hlen,aO]
 simp only []
 have a0:=HQ st.1.1 l (st.2.2.1-1) hd
 have a1:=FW (m:=st.1.1) (l:=l) (mark:=st.2.2.1-1) (d:=d)
 unfold jl
 generalize B_ st.1.1 l (dD (aB aK st.1.1) d) [] 0=dir at a1 ⊢
 generalize il st.1.1 l (st.2.2.1-1) d=a at a0 a1 ⊢
 rw [EB]
 cases ca:a.2 != 0 with
 | true =>
  simp only [aZ]
  rw [show fL a.2=(tl a).2 from rfl,show a.1=(tl a).1 from rfl,ql hk _ (r:=tl a) a0 n1 n2,aO]
  rfl
 | false =>
  simp only [aN]
  rw [a1 (nD ca),bV hk,aO]
  simp only []
  rw [n_ hk a0 (by omega),aO]
  simp only []
  have b0:=kz (aB aK (st.1.1+1)) a.1 a0
  generalize dD (aB aK (st.1.1+1)) a.1=b at b0 ⊢
  cases cb:b.2 != 0 with
  | true =>
   simp only [aZ]
   rw [dC,aO]
   simp only []
   rw [show fL b.2=(tl b).2 from rfl,show b.1=(tl b).1 from rfl,ql hk _ (r:=tl b) b0 n1 n2,aO]
   rfl
  | false =>
   have hl':=b0.sz.l
   have hu':=b0.sz.u
   have hn':=b0.sz.n
   have ht:=fZ b.1 (aB aK st.1.1)
   have hcap:LE.le (α:=Int) (cJ b.1.1) 100000:=Int.le_trans b0.use b0.cap1
   simp only [aN]
   rw [bV hk,aO]
   simp only []
   rw [fa hk (by omega) (by omega) (by omega),aO]
   simp only []
   rw [oa hk _ (by omega),aO,iD hk,aO]
   simp only []
   rw [jv hk,aO]
   simp only []
   rw [vC hk b0 (by omega) (by have:=mN (fp st.1.1 (aS b.1 (aB aK st.1.1)).1).1;omega),aO]
   simp only []
   unfold qL
   rw [show KQ st.1.1 (aS b.1 (aB aK st.1.1)).1=bu (fp st.1.1 (aS b.1 (aB aK st.1.1)).1).1 from rfl]
   have c0:=pT (aB bz st.1.1) (bu (fp st.1.1 (aS b.1 (aB aK st.1.1)).1).1) b.1 b0
   generalize mS (aB bz st.1.1) (bu (fp st.1.1 (aS b.1 (aB aK st.1.1)).1).1) b.1=e at c0 ⊢
   cases ce:e.2==2 with
   | true =>
    simp only [aZ]
    rw [aO]
    simp only []
    rw [nE hk c0 (by simp),aO]
    simp only []
    have d0:=mc [aB bz st.1.1] e.1 c0
    generalize dz [aB bz st.1.1] e.1=f at d0 ⊢
    cases cf:f.2 != 0 with
    | true =>
     simp only [aZ]
     rw [dC,aO]
     rfl
    | false =>
     simp only [aN]
     exact xq hk hl hn d0 _
   | false =>
    simp only [aN]
    cases cf:e.2 != 0 with
    | true =>
     simp only [aZ]
     rw [dC,aO]
     rfl
    | false =>
     simp only [aN]
     exact xq hk hl hn c0 _
end Go.Proofs.YtohaanhjddohmaaGreatDoor.G
namespace Go.Proofs.YtohaanhjddohmaaGreatDoor.G
open Go.V
noncomputable def kw (st:Ty.den aI) (d:Ty.den a_):Ty.den aI × RD :=
 bif !m9 st d then (st,(d,4)) else bif decide (st.1.1+2 > 100000) then (st,(d,5)) else
 bif (oD st.2.1 d).2 != 0 then (st,(d,(oD st.2.1 d).2)) else jl (KQ st.1.1) st d (oD st.2.1 d).1
theorem Dy {st:Ty.den aI} {d:Ty.den a_} (h:m9 st d=true):LE.le (α:=Int) 1 st.2.2.1∧LE.le (α:=Int) st.2.2.1 1000001:=by
 unfold m9 at h
 simp only [kC,decide_eq_true_eq] at h
 exact h.2.2.2.1
theorem BH {k:Nat} (hk:2 ^ 50≤k) {st:Ty.den aI} {d:Ty.den a_} (hd:xy d) (h1:st.1.2.1.length≤1073741824) (h2:st.2.1.length≤536870912):kD.f k st d=some (oS (kw st d)):=by
 have ec:fO.f k st=some (st,()):=by
  unfold fO.f fO.t
  rw [bK (by omega) (by decide),bK (by omega) (by decide),List.nil_append,List.nil_append]
 unfold kD.f kD.t kw
 rw [ec,aO]
 simp only []
 rw [kc k hd,aO]
 simp only []
 rw [u7 hk hd,aO]
 simp only []
 cases c1:m9 st d with
 | false=>rfl
 | true =>
  obtain ⟨g1,g2,g3⟩:=mU c1
  obtain ⟨n1,n2,_,_⟩:=nV (n:=st.1.1) (ids:=st.1.2.1) g1.live
  simp only [fV,aN]
  rw [aD (n:=st.1.1+2) (by omega) (by omega)]
  by_cases c2:st.1.1+2 > (100000:Int)
  · rw [aP c2];rfl
  · rw [aQ c2]
    simp only [aN]
    rw [Bh hk hd (by omega),aO]
    simp only []
    have hz:=zi st.2.1 d
    obtain ⟨b1,b2⟩:=Dy c1
    cases (oD st.2.1 d).2 != 0 with
    | true=>rfl
    | false =>
     simp only [aN]
     rw [yk hk g1.disk g1.live (Int.not_lt.1 c2) b1 b2 (by omega),aO]
theorem Gi {st:Ty.den aI} {d:Ty.den a_} {c:Int} (h:IV (st,(d,c))):IV (kw st d)∧((kw st d).2.2=0→(m9 st d=true∧(oD st.2.1 d).2=0∧(jA (kw st d).2.1 (kw st d).1.1.2.1:Int)=w7 (oD st.2.1 d).1 (st.2.2.1-1))∧(jA (kw st d).2.1 (kw st d).1.1.2.1:Int)-iG (kw st d).1.2.1≤20):=by
 have same:∀ z:Int,IV (st,(d,z)):=fun z=>⟨h.disk,h.ids,h.dir,h.non,h.sum⟩
 unfold kw
 cases c1:m9 st d with
 | false=>exact ⟨same _,fun e=>absurd e (by show (4:Int)≠0;decide)⟩
 | true =>
  obtain ⟨g1,g2,g3⟩:=mU c1
  simp only [fV,aN]
  by_cases c2:st.1.1+2 > (100000:Int)
  · rw [aP c2]
    exact ⟨same _,fun e=>absurd e (by show (5:Int)≠0;decide)⟩
  · rw [aQ c2]
    simp only [aN]
    have hz:=zi st.2.1 d
    cases c3:(oD st.2.1 d).2 != 0 with
    | true=>exact ⟨same _,fun e=>absurd e (by intro q;rw [show (oD st.2.1 d).2=0 from q] at c3;cases c3)⟩
    | false =>
     simp only [aN]
     obtain ⟨q1,q2⟩:=Fd (hb:=KQ st.1.1) h g1.live (Int.not_lt.1 c2) (l:=(oD st.2.1 d).1) (by omega)
     exact ⟨q1,fun e=>⟨⟨by trivial,nD c3,(q2 e).1⟩,(q2 e).2.1⟩⟩
end Go.Proofs.YtohaanhjddohmaaGreatDoor.G
namespace Go.Proofs.YtohaanhjddohmaaGreatDoor.G
open Go.V
def FL (s:ByteArray):Prop:=∃ rs:mh,(∀ r ∈ rs,ik r=true)∧s=gp rs
end Go.Proofs.YtohaanhjddohmaaGreatDoor.G
namespace Go.Proofs.YtohaanhjddohmaaGreatDoor.G
open Go.V
structure BT (st:Ty.den aI) (d:Ty.den a_):Prop where
 live:dR st.1=true
 disk:DR d
 full:∀ x ∈ st.1.2.1,∃ t,fT d (aB aK x)=some t∧FL t
 tail:∀ t,fT d (j0 st)=some t→st.2.2.2.1=(t.size:Int)
theorem ru {d:Ty.den a_} (hd:DR d) (s:ByteArray):(aS d s).2=(fT d s).isSome:=by
 rw [lK hd]
 unfold fT
 cases bg d.1 s <;> rfl
end Go.Proofs.YtohaanhjddohmaaGreatDoor.G
namespace Go.Proofs.YtohaanhjddohmaaGreatDoor.G
open Go.V
theorem wA {d:Ty.den a_} {s:ByteArray}:bg d.1 s=none↔fT d s=none:=by
 unfold fT
 cases bg d.1 s <;> simp
theorem xK (v:Ty.den bA):(au v).size≤211:=by
 unfold au
 split
 · exact i7 (lB v)
 · decide
end Go.Proofs.YtohaanhjddohmaaGreatDoor.G
namespace Go.Proofs.YtohaanhjddohmaaGreatDoor.G
open Go.V
abbrev fU:=Ty.den ai
def CI (c:fU):Prop:=(0:Int)≤c.2.1∧c.2.1≤(c.1.length:Int)∧c.1.length≤1048576
theorem AO (y:Int):0≤aF (((BitVec.ofInt (IntKind.bits .i64) y &&& BitVec.ofInt (IntKind.bits .i64) 255).toNat:Int))∧aF (((BitVec.ofInt (IntKind.bits .i64) y &&& BitVec.ofInt (IntKind.bits .i64) 255).toNat:Int))≤255:=by
 have h:(BitVec.ofInt (IntKind.bits .i64) y &&& BitVec.ofInt (IntKind.bits .i64) 255).toNat≤255:=by
  rw [BitVec.toNat_and]
  exact Nat.le_trans Nat.and_le_right (by decide)
 rw [aD (by omega) (by omega)]
 omega
theorem HG {k:Nat} (hk:2 ^ 50≤k) {l:List Int} (hl:l.length≤1048576):∃ c:fU,gO.f k l=some ((),(c,()))∧CI c:=by
 unfold gO.f gO.t
 have key:∀ (d n:Nat) (i h:Int),(l.length:Int)-i=d→0≤i→d<n→∃ c:fU,gO.l0 k n l h i=some ((),(c,()))∧CI c:=by
  intro d
  induction d with
  | zero =>
   intro n i h h1 h2 hn
   obtain ⟨n,rfl⟩:∃ q,n=q+1:=⟨n-1,by omega⟩
   simp only [gO.l0,gO.b0]
   rw [aQ (show ¬ i<(l.length:Int) by omega),aN]
   exact ⟨_,rfl,Int.le_refl _,by show (0:Int)≤(l.length:Int);omega,hl⟩
  | succ d ih =>
   intro n i h h1 h2 hn
   obtain ⟨n,rfl⟩:∃ q,n=q+1:=⟨n-1,by omega⟩
   simp only [gO.l0,gO.b0]
   rw [aP (show i<(l.length:Int) by omega),aZ]
   by_cases c:i<4000
   · rw [aP c,aZ,aG h2 (by omega),aD (n:=i+1) (by omega) (by omega)]
     exact ih n (i+1) _ (by omega) (by omega) (by omega)
   · rw [aQ c,aN]
     exact ⟨_,rfl,Int.le_refl _,by show (0:Int)≤(l.length:Int);omega,hl⟩
 exact key l.length k 0 _ (by omega) (by omega) (by omega)
theorem uW (k:Nat) {c:fU} (h:CI c):∃ (c':fU) (x:Int),df.f k c=some (c',(x,()))∧CI c'∧0≤x∧x≤255:=by
 obtain ⟨b,i,hh,_⟩:=c
 change Int at i
 change Int at hh
 obtain ⟨h1,h2,h3⟩:=h
 have h1:0≤i:=h1
 have h2:i≤(b.length:Int):=h2
 have h3:b.length≤1048576:=h3
 unfold df.f df.t
 simp only []
 by_cases q:i<(b.length:Int)
 · rw [aP q,aZ,aG h1 q,aD (n:=i+1) (by omega) (by omega)]
   refine ⟨_,_,rfl,⟨by show (0:Int)≤i+1;omega,by show i+1≤(b.length:Int);omega,h3⟩,(AO _).1,(AO _).2⟩
 · rw [aQ q,aN]
   exact ⟨_,_,rfl,⟨h1,h2,h3⟩,(AO _).1,(AO _).2⟩
theorem ie (k:Nat) {c:fU} (h:CI c) {n:Int} (h0:0<n) (h1:n≤256):∃ (c':fU) (x:Int),aH.f k c n=some (c',(x,()))∧CI c'∧0≤x∧x<n:=by
 obtain ⟨c',x,e,hc,hx0,hx1⟩:=uW k h
 unfold aH.f aH.t
 rw [aQ (show ¬ n≤0 by omega),aN,aP h1,aZ,e,aO]
 simp only []
 rw [aQ (show ¬ n=0 by omega),aN]
 have e2:Int.tmod x n=x % n:=Int.tmod_eq_emod_of_nonneg hx0
 refine ⟨_,_,rfl,hc,?_,?_⟩
 · rw [e2];exact Int.emod_nonneg _ (by omega)
 · rw [e2];exact Int.emod_lt_of_pos _ h0
theorem pE (k:Nat) {c:fU} (h:CI c) {n:Int} (h0:0<n) (h1:n≤256):∃ (c':fU) (x:Bool),bB.f k c n=some (c',(x,()))∧CI c':=by
 obtain ⟨c',x,e,hc,_,_⟩:=ie k h h0 h1
 unfold bB.f bB.t
 rw [e,aO]
 exact ⟨_,_,rfl,hc⟩
theorem Fw (k:Nat) {c:fU} (h:CI c) {l:List ByteArray} (h0:0<l.length) (h1:l.length≤256):∃ (c':fU) (x:ByteArray),eI.f k c l=some (c',(x,()))∧CI c':=by
 obtain ⟨c',x,e,hc,hx0,hx1⟩:=ie k h (n:=(l.length:Int)) (by omega) (by omega)
 unfold eI.f eI.t
 rw [e,aO]
 simp only []
 rw [aG hx0 hx1]
 exact ⟨_,_,rfl,hc⟩
end Go.Proofs.YtohaanhjddohmaaGreatDoor.G
namespace Go.Proofs.YtohaanhjddohmaaGreatDoor.G
open Go.V
theorem Hc {k:Nat} (hk:2 ^ 50≤k) {l:List Int} (hl:l.length≤1048576):ja (gO.f k l) (fun r=>CI r.2.1):=by
 obtain ⟨c,e,h⟩:=HG hk hl
 exact ⟨_,e,h⟩
theorem ox (k:Nat) {c:fU} (h:CI c):ja (df.f k c) (fun r=>CI r.1∧0≤r.2.1∧r.2.1≤255):=by
 obtain ⟨c',x,e,h1,h2,h3⟩:=uW k h
 exact ⟨_,e,h1,h2,h3⟩
theorem cD (k:Nat) {c:fU} (h:CI c) {n:Int} (h0:0<n) (h1:n≤256):ja (aH.f k c n) (fun r=>CI r.1∧0≤r.2.1∧r.2.1<n):=by
 obtain ⟨c',x,e,q1,q2,q3⟩:=ie k h h0 h1
 exact ⟨_,e,q1,q2,q3⟩
theorem E6 (k:Nat) {c:fU} (h:CI c) {n:Int} (h0:0<n):ja (aH.f k c n) (fun r=>CI r.1∧0≤r.2.1∧r.2.1<n):=by
 by_cases h1:n≤256
 · exact cD k h h0 h1
 unfold aH.f aH.t
 refine lj (aQ (by omega)) (lj (aQ h1) ?_)
 refine aV (ox k h) fun r1 q1=>?_
 refine aV (ox k q1.1) fun r2 q2=>?_
 refine aV (ox k q2.1) fun r3 q3=>?_
 refine aV (ox k q3.1) fun r4 q4=>?_
 refine lj (aQ (by omega)) (bC ⟨q4.1,?_⟩)
 obtain ⟨_,a0,a1⟩:=q1
 obtain ⟨_,b0,b1⟩:=q2
 obtain ⟨_,c0,c1⟩:=q3
 obtain ⟨_,d0,d1⟩:=q4
 simp only []
 rw [aD (n:=r1.2.1*16777216) (by omega) (by omega),aD (n:=r2.2.1*65536) (by omega) (by omega),aD (n:=r3.2.1*256) (by omega) (by omega),aD (n:=r1.2.1*16777216+r2.2.1*65536) (by omega) (by omega),aD (n:=r1.2.1*16777216+r2.2.1*65536+r3.2.1*256) (by omega) (by omega),aD (n:=r1.2.1*16777216+r2.2.1*65536+r3.2.1*256+r4.2.1) (by omega) (by omega)]
 rw [Int.tmod_eq_emod_of_nonneg (by omega)]
 exact ⟨Int.emod_nonneg _ (by omega),Int.emod_lt_of_pos _ h0⟩
theorem l6 (k:Nat) {c:fU} (h:CI c) {n:Int} (h0:0<n) (h1:n≤256):ja (bB.f k c n) (fun r=>CI r.1):=by
 obtain ⟨c',x,e,q1⟩:=pE k h h0 h1
 exact ⟨_,e,q1⟩
end Go.Proofs.YtohaanhjddohmaaGreatDoor.G
namespace Go.Proofs.YtohaanhjddohmaaGreatDoor.G
open Go.V
theorem tq (k:Nat) {c:fU} (h:CI c) {l:List ByteArray} (h0:0<l.length) (h1:l.length≤256):ja (eI.f k c l) (fun r=>CI r.1∧r.2.1 ∈ l):=by
 unfold eI.f eI.t
 refine aV (cD k h (by omega) (by omega)) fun r q=>?_
 refine kB q.2.1 q.2.2 (bC ⟨q.1,gP ?_⟩)
 have:=q.2.1
 have:=q.2.2
 omega
theorem zL {l:List ByteArray} {m:Nat} (h:(l.all fun x=>decide (x.size≤m))=true) {x:ByteArray} (hx:x ∈ l):x.size≤m:=by
 have:=List.all_eq_true.1 h x hx
 simpa using this
end Go.Proofs.YtohaanhjddohmaaGreatDoor.G
namespace Go.Proofs.YtohaanhjddohmaaGreatDoor.G
open Go.V
theorem lP (k:Nat) {c:fU} (h:CI c) {l:List Int} (h0:0<l.length) (h1:l.length≤256):ja (ch.f k c l) (fun r=>CI r.1∧r.2.1 ∈ l):=by
 unfold ch.f ch.t
 refine aV (cD k h (by omega) (by omega)) fun r q=>?_
 refine kB q.2.1 q.2.2 (bC ⟨q.1,gP ?_⟩)
 have:=q.2.1
 have:=q.2.2
 omega
end Go.Proofs.YtohaanhjddohmaaGreatDoor.G
namespace Go.Proofs.YtohaanhjddohmaaGreatDoor.G
open Go.V
theorem zc (l:List Int):(bytesOf l).size=l.length:=by simp [bytesOf,ByteArray.size]
theorem IM {k:Nat} (hk:2 ^ 50≤k) (st:Int) (m:Nat) (hm:m≤200):∀ (d n:Nat) (c:fU) (out:List Int),d<n→CI c→out.length+d≤m→ja (b9.l0 k n st (d:Int) c.1 c.2.1 c.2.2.1 out) (fun r=>CI r.1∧r.2.1.size≤m):=by
 intro d
 induction d with
 | zero =>
  intro n c out hn hc ho
  obtain ⟨n,rfl⟩:∃ q,n=q+1:=⟨n-1,by omega⟩
  simp only [b9.l0,b9.b0]
  refine lj (aQ (by omega)) (bC ⟨hc,?_⟩)
  show (bytesOf out).size≤m
  rw [zc]
  omega
 | succ d ih =>
  intro n c out hn hc ho
  obtain ⟨n,rfl⟩:∃ q,n=q+1:=⟨n-1,by omega⟩
  have hw:aF (((d+1:Nat):Int)-1)=(d:Int):=by rw [aD (by omega) (by omega)];omega
  simp only [b9.l0,b9.b0,hw]
  refine mP (aP (by omega)) ?_
  refine aV (ox k hc) fun r hr=>?_
  refine bf (fun _=>bf (fun _=>?_) (fun _=>?_)) (fun _=>bf (fun _=>?_) (fun _=>?_))
  all_goals exact uj (by omega) (by decide) (ih n r.1 _ (by omega) hr.1 (by rw [bJ];omega))
theorem tY {k:Nat} (hk:2 ^ 50≤k) {c:fU} (h:CI c) {m:Int} (h0:0≤m) (h1:m≤200):ja (b9.f k c m) (fun r=>CI r.1∧(r.2.1.size:Int)≤m):=by
 unfold b9.f b9.t
 rw [aD (n:=m+1) (by omega) (by omega)]
 refine aV (cD k h (by omega) (by omega)) fun r1 q1=>?_
 refine aV (cD k q1.1 (by omega) (by omega)) fun r2 q2=>?_
 obtain ⟨c2,a,b⟩:=q2
 have:=IM hk r1.2.1 m.toNat (by omega) r2.2.1.toNat k r2.1 [] (by omega) c2 (by simp only [List.length_nil];omega)
 rw [show ((r2.2.1.toNat:Nat):Int)=r2.2.1 by omega] at this
 exact wQ this fun r hr=>⟨hr.1,by have:=hr.2;omega⟩
end Go.Proofs.YtohaanhjddohmaaGreatDoor.G
namespace Go.Proofs.YtohaanhjddohmaaGreatDoor.G
open Go.V
theorem E_ (k:Nat) {c:fU} (h:CI c):ja (eP.f k c) (fun r=>CI r.1):=by
 unfold eP.f eP.t
 exact aV (tq k h (by decide) (by decide)) fun r q=>bC q.1
theorem Gg {k:Nat} (hk:2 ^ 50≤k):∀ (d n:Nat) (c:fU) (out:s_),d<n→CI c→out.length+d≤100→ja (fM.l0 k n (d:Int) c.1 c.2.1 c.2.2.1 out) (fun r=>CI r.1∧r.2.1.length≤100):=by
 intro d
 induction d with
 | zero =>
  intro n c out hn hc ho
  obtain ⟨n,rfl⟩:∃ q,n=q+1:=⟨n-1,by omega⟩
  simp only [fM.l0,fM.b0]
  exact lj (aQ (by omega)) (bC ⟨hc,by show out.length≤100;omega⟩)
 | succ d ih =>
  intro n c out hn hc ho
  obtain ⟨n,rfl⟩:∃ q,n=q+1:=⟨n-1,by omega⟩
  have hw:aF (((d+1:Nat):Int)-1)=(d:Int):=by rw [aD (by omega) (by omega)];omega
  simp only [fM.l0,fM.b0,hw]
  refine mP (aP (by omega)) ?_
  refine aV (E_ k hc) fun r2 q2=>?_
  refine aV (tY hk q2 (by omega) (by omega)) fun r3 q3=>?_
  refine aV (l6 k q3.1 (by omega) (by omega)) fun r4 q4=>?_
  refine bf (fun _=>?_) (fun _=>?_)
  all_goals exact uj (by omega) (by decide) (ih n r4.1 _ (by omega) q4 (by rw [bJ];omega))
theorem Fl {k:Nat} (hk:2 ^ 50≤k) {c:fU} (h:CI c):ja (fM.f k c) (fun r=>CI r.1∧r.2.1.length≤100):=by
 unfold fM.f fM.t
 refine aV (cD k h (by omega) (by omega)) fun r q=>?_
 obtain ⟨hc,a,b⟩:=q
 have:=Gg hk r.2.1.toNat k r.1 [] (by omega) hc (by simp only [List.length_nil];omega)
 rw [show ((r.2.1.toNat:Nat):Int)=r.2.1 by omega] at this
 exact this
def KR (st:Ty.den aI) (d:Ty.den a_):Prop:=∃ c,IV (st,(d,c))
theorem FK {k:Nat} (hk:2 ^ 50≤k) {P:Ty.den aI→Ty.den a_→Prop} (hP:∀ st d,P st d→KR st d) (hM:∀ st d,P st d→P (kw st d).1 (kw st d).2.1) (hC:∀ st d l,P st d→P (lD st d l).1 (lD st d l).2.1)
 (y4:List Int) (y5:ac) (y6 y7 y8 y9:Int) (y10:lS) (y11 y12:Int) (y13:Bool):∀ (m n:Nat) (c:fU) (st:Ty.den aI) (d:Ty.den a_),m≤20→m<n→CI c→P st d →
 ja (dx.l0 k n (m:Int) c.1 c.2.1 c.2.2.1 y4 y5 y6 y7 y8 y9 y10 y11 y12 y13 st.1.2.1 st.2.1 st.1.1 st.2.2.1 st.2.2.2.1 st.2.2.2.2.1 d.1 d.2.1 d.2.2.1 d.2.2.2.1) (fun r=>CI r.1∧P r.2.1 r.2.2.1):=by
 intro m
 induction m with
 | zero =>
  intro n c st d hm hn hc hv
  obtain ⟨n,rfl⟩:∃ q,n=q+1:=⟨n-1,by omega⟩
  simp only [dx.l0,dx.b0]
  exact lj (aQ (by omega)) (bC ⟨hc,hv⟩)
 | succ m ih =>
  intro n c st d hm hn hc hv
  obtain ⟨n,rfl⟩:∃ q,n=q+1:=⟨n-1,by omega⟩
  have hw:aF (((m+1:Nat):Int)-1)=(m:Int):=by rw [aD (by omega) (by omega)];omega
  obtain ⟨z,hz⟩:=hP _ _ hv
  have hd:DR d:=hz.disk
  have h1:st.1.2.1.length≤60:=hz.ids
  have h2:st.2.1.length≤268435456:=hz.dir
  simp only [dx.l0,dx.b0,hw]
  refine mP (aP (by omega)) (bf (fun _=>bC ⟨hc,hv⟩) fun _=>?_)
  refine aV (l6 k hc (by omega) (by omega)) fun r5 q5=>?_
  refine bf (fun _=>?_) (fun _=>?_)
  · refine cM (BH hk (st:=st) (d:=d) hd.sz (by omega) (by omega)) ?_
    exact ih n r5.1 (kw st d).1 (kw st d).2.1 (by omega) (by omega) q5 (hM _ _ hv)
  · refine aV (Fl hk q5) fun r7 q7=>?_
    have q8:=q7.2
    refine cM (yl hk (st:=st) (d:=d) hd.sz (by omega) (by omega) (by omega)) ?_
    exact ih n r7.1 (lD st d r7.2.1).1 (lD st d r7.2.1).2.1 (by omega) (by omega) q7.1 (hC _ _ _ hv)
theorem Dg {k:Nat} (hk:2 ^ 50≤k) {P:Ty.den aI→Ty.den a_→Prop} (hP:∀ st d,P st d→KR st d) (hM:∀ st d,P st d→P (kw st d).1 (kw st d).2.1) (hC:∀ st d l,P st d→P (lD st d l).1 (lD st d l).2.1)
 (hO:∀ n:Int,0≤n→n≤100000→P (jP (sB n)).1 (jP (sB n)).2.1) {c:fU} (h:CI c):ja (dx.f k c) (fun r=>CI r.1∧P r.2.1 r.2.2.1):=by
 unfold dx.f dx.t
 refine aV (lP k h (by decide) (by decide)) fun r1 q1=>?_
 have hcap:(0:Int)≤r1.2.1∧r1.2.1≤100000:=by
  have:=q1.2
  simp only [List.mem_cons,List.not_mem_nil,or_false] at this
  omega
 refine cM (vL k hcap.1 hcap.2) ?_
 simp only []
 rw [show (([],(r1.2.1,(-1,(false,())))):Ty.den a_)=sB r1.2.1 from rfl]
 refine cM (Bk hk (BE hcap.1 hcap.2).sz) ?_
 refine aV (cD k q1.1 (by omega) (by omega)) fun r4 q4=>?_
 obtain ⟨hc,a,b⟩:=q4
 have:=FK hk hP hM hC [] [] 0 0 0 0 [] 0 0 false r4.2.1.toNat k r4.1 (jP (sB r1.2.1)).1 (jP (sB r1.2.1)).2.1 (by omega) (by omega) hc (hO _ hcap.1 hcap.2)
 rw [show ((r4.2.1.toNat:Nat):Int)=r4.2.1 by omega] at this
 exact this
theorem D0 {k:Nat} (hk:2 ^ 50≤k) {c:fU} (h:CI c):ja (dx.f k c) (fun r=>CI r.1∧KR r.2.1 r.2.2.1) :=
 Dg hk (P:=KR) (fun _ _ h=>h) (fun st d h=>by obtain ⟨z,hz⟩:=h;exact ⟨_,(Gi hz).1⟩) (fun st d l h=>by obtain ⟨z,hz⟩:=h;exact ⟨_,FQ l hz⟩) (fun n h0 h1=>⟨_,Hd h0 h1⟩) h
end Go.Proofs.YtohaanhjddohmaaGreatDoor.G
namespace Go.Proofs.YtohaanhjddohmaaGreatDoor.G
open Go.V
theorem DL (k:Nat) {n:Int} (h0:0≤n) (h1:n≤100000):eM.f k n=some (([],(n,(-1,(false,())))),()):=by
 unfold eM.f eM.t
 rw [gS,aO,aP ⟨h0,h1⟩]
 rfl
theorem Ji {n:Int} (h0:0≤n) (h1:n≤100000):DR ([],(n,(-1,(false,())))) :=
 ⟨by show 0≤130;omega,h0,h1,by show (-1:Int) ≤ -1;omega,by show (-1:Int)≤100000;omega,h0,fun f h=>(by cases h),List.Pairwise.nil⟩
theorem Bn (k:Nat) {c:fU} (h:CI c):ja (gD.f k c) (fun r=>CI r.1∧r.2.1.size≤12):=by
 unfold gD.f gD.t
 refine aV (tq k h (by decide) (by decide)) fun r q=>bC ⟨q.1,zL (by decide) q.2⟩
theorem tk {β:Type} {o:Option (Ty.den a_ × Int × Unit)} {m:Ty.den a_ × Int} {g:Ty.den a_ × Int × Unit→Option β} {Q:β→Prop} (e:o=some (m.1,(m.2,()))) (h:ja (g (m.1,(m.2,()))) Q):ja (Option.bind o g) Q:=by
 rw [e]
 exact h
theorem II {k:Nat} (hk:2 ^ 50≤k) (z:bO) (z1 z2:Int) (z3:Bool):∀ (d n:Nat) (c:fU) (x:Ty.den a_),d≤20→d<n→CI c→DR x →
 ja (eC.l0 k n (d:Int) c.1 c.2.1 c.2.2.1 z z1 z2 z3 x.1 x.2.1 x.2.2.1 x.2.2.2.1) (fun r=>CI r.1∧DR r.2.1):=by
 intro d
 induction d with
 | zero =>
  intro n c x hd hn hc hx
  obtain ⟨n,rfl⟩:∃ q,n=q+1:=⟨n-1,by omega⟩
  simp only [eC.l0,eC.b0]
  exact lj (aQ (by omega)) (bC ⟨hc,hx⟩)
 | succ d ih =>
  intro n c x hd hn hc hx
  obtain ⟨n,rfl⟩:∃ q,n=q+1:=⟨n-1,by omega⟩
  have hw:aF (((d+1:Nat):Int)-1)=(d:Int):=by rw [aD (by omega) (by omega)];omega
  have hz:=hx.sz
  simp only [eC.l0,eC.b0,hw]
  refine mP (aP (by omega)) ?_
  refine aV (Bn k hc) fun r3 q3=>?_
  refine aV (cD k q3.1 (by omega) (by omega)) fun r4 q4=>?_
  obtain ⟨hn3,hs3⟩:=q3
  have CR:ja (Option.bind (eG.f k (x.1,(x.2.1,(x.2.2.1,(x.2.2.2.1,())))) r3.2.1) fun r5=>(eC.l0 k n (d:Int) r4.1.1 r4.1.2.1 r4.1.2.2.1 z z1 z2 z3 r5.1.1 r5.1.2.1 r5.1.2.2.1 r5.1.2.2.2.1)) (fun r=>CI r.1∧DR r.2.1) :=
   tk (nr hk hz (by omega)) (ih n r4.1 _ (by omega) (by omega) q4.1 (xr hx _))
  have AP:ja (Option.bind (b9.f k r4.1 9) fun r6=>(Option.bind (cI.f k (x.1,(x.2.1,(x.2.2.1,(x.2.2.2.1,())))) r3.2.1 r6.2.1) fun r7=>(eC.l0 k n (d:Int) r6.1.1 r6.1.2.1 r6.1.2.2.1 z z1 z2 z3 r7.1.1 r7.1.2.1 r7.1.2.2.1 r7.1.2.2.2.1))) (fun r=>CI r.1∧DR r.2.1):=by
   refine aV (tY hk q4.1 (by omega) (by omega)) fun r6 q6=>?_
   have hs6:=q6.2
   exact tk (nW hk hz _ (by omega)) (ih n r6.1 _ (by omega) (by omega) q6.1 (qC hx _ _))
  have SY:ja (Option.bind (cy.f k (x.1,(x.2.1,(x.2.2.1,(x.2.2.2.1,())))) r3.2.1) fun r5=>(eC.l0 k n (d:Int) r4.1.1 r4.1.2.1 r4.1.2.2.1 z z1 z2 z3 r5.1.1 r5.1.2.1 r5.1.2.2.1 r5.1.2.2.2.1)) (fun r=>CI r.1∧DR r.2.1) :=
   tk (lI hk hz _) (ih n r4.1 _ (by omega) (by omega) q4.1 (nS hx _))
  have RN:ja (Option.bind (gD.f k r4.1) fun r6=>(Option.bind (fb.f k (x.1,(x.2.1,(x.2.2.1,(x.2.2.2.1,())))) r3.2.1 r6.2.1) fun r7=>(eC.l0 k n (d:Int) r6.1.1 r6.1.2.1 r6.1.2.2.1 z z1 z2 z3 r7.1.1 r7.1.2.1 r7.1.2.2.1 r7.1.2.2.2.1))) (fun r=>CI r.1∧DR r.2.1):=by
   refine aV (Bn k q4.1) fun r6 q6=>?_
   have hs6:=q6.2
   exact tk (wU hk hz _ (by omega)) (ih n r6.1 _ (by omega) (by omega) q6.1 (GC hx _ _))
  repeat' refine bf (fun _=>?_) (fun _=>?_)
  all_goals first | exact CR | exact AP | exact SY | exact RN
theorem H0 {k:Nat} (hk:2 ^ 50≤k) {c:fU} (h:CI c):ja (eC.f k c) (fun r=>CI r.1∧DR r.2.1):=by
 unfold eC.f eC.t
 refine cM (DL k (by omega) (by omega)) ?_
 refine aV (cD k h (by omega) (by omega)) fun r q=>?_
 obtain ⟨hc,a,b⟩:=q
 have:=II hk [] 0 0 false r.2.1.toNat k r.1 ([],(200,(-1,(false,())))) (by omega) (by omega) hc (Ji (by omega) (by omega))
 rw [show ((r.2.1.toNat:Nat):Int)=r.2.1 by omega] at this
 exact this
theorem Ho {l:bO} (h:0<l.length) (g:Ty.den bR):(l.set 0 g).length=l.length∧cJ (l.set 0 g)≤g.2.1.size+cJ l∧dS (l.set 0 g)≤g.1.size+dS l:=by
 cases l with
 | nil=>cases h
 | cons x l =>
  show (g::l).length=_∧cJ (g::l)≤_∧dS (g::l)≤_
  rw [dm,iE,dm,iE]
  exact ⟨rfl,by omega,by omega⟩
theorem pH:∀ l m:bO,dS (l++m)=dS l+dS m
 | [],m=>by show dS m=0+dS m;omega
 | x::l,m=>by rw [List.cons_append,iE,iE,pH l m];omega
structure DS (d:Ty.den a_):Prop where
 l:d.1.length≤131
 u:cJ d.1≤200000
 n:dS d.1≤10000
theorem DS.sz {d:Ty.den a_} (h:DS d):xy d:=⟨by have:=h.l;omega,by have:=h.u;omega,by have:=h.n;omega⟩
theorem DR.ds {d:Ty.den a_} (h:DR d):DS d:=by
 have h1:=h.len
 have h2:=h.use
 have h3:=h.cap1
 have h4:=ta d.1 h.all
 exact ⟨by omega,by omega,by omega⟩
theorem Ek {d:Ty.den a_} (h0:0<d.1.length) (h1:d.1.length≤131) (h2:cJ d.1≤100000) (h3:dS d.1≤5000) {g:Ty.den bR} (k1:g.2.1.size≤100000) (k2:g.1.size≤5000):DS (List.set d.1 0 g,d.2):=by
 obtain ⟨a1,a2,a3⟩:=Ho h0 g
 exact ⟨by show (List.set _ _ _).length≤131;omega,by show cJ (List.set _ _ _)≤200000;omega,by show dS (List.set _ _ _)≤10000;omega⟩
theorem J7 {k:Nat} (hk:2 ^ 50≤k) (z:bO) (z1 z2:Int) (z3:Bool):∀ (d n:Nat) (i:Int) (c:fU) (x:Ty.den a_),0≤i→i+(d:Int)=132→d<n→CI c→x.1.length≤131→cJ x.1≤200000→(dS x.1:Int)≤2000+40*i →
 ja (gn.l0 k n i c.1 c.2.1 c.2.2.1 z z1 z2 z3 x.1 x.2.1 x.2.2.1 x.2.2.2.1) (fun r=>CI r.1∧DS r.2.1):=by
 intro d
 induction d with
 | zero =>
  intro n i c x h0 h1 hn hc hl hu hm
  obtain ⟨n,rfl⟩:∃ q,n=q+1:=⟨n-1,by omega⟩
  simp only [gn.l0,gn.b0]
  refine aV (cD k hc (by omega) (by omega)) fun r hr=>?_
  obtain ⟨hc',a,b⟩:=hr
  rw [aD (n:=129+r.2.1) (by omega) (by omega)]
  exact lj (aQ (by omega)) (bC ⟨hc',⟨hl,hu,by show dS x.1≤10000;omega⟩⟩)
 | succ d ih =>
  intro n i c x h0 h1 hn hc hl hu hm
  obtain ⟨n,rfl⟩:∃ q,n=q+1:=⟨n-1,by omega⟩
  simp only [gn.l0,gn.b0]
  refine aV (cD k hc (by omega) (by omega)) fun r hr=>?_
  obtain ⟨hc',a,b⟩:=hr
  rw [aD (n:=129+r.2.1) (by omega) (by omega),aD (n:=100+i) (by omega) (by omega),aD (n:=i+1) (by omega) (by omega)]
  refine bf (fun _=>bf (fun hb=>?_) (fun _=>?_)) (fun _=>?_)
  · have hb:=of_decide_eq_true hb
    have hz:=lJ (n:=100+i) (by omega) (by omega)
    refine cM (np hk (by omega) (by omega)) ?_
    have hy:(⟨#[121]⟩:ByteArray).size=1:=rfl
    have hy2:((⟨#[121]⟩:ByteArray)++fy (100+i)).size=1+(fy (100+i)).size:=ByteArray.size_append ..
    simp only []
    refine n5 (by omega) (uj (by omega) (by decide) ?_)
    refine ih n (i+1) r.1 (x.1++[_],x.2) (by omega) (by omega) (by omega) hc' (by show (x.1++[_]).length≤131;rw [bJ];omega) ?_ ?_
    · show cJ (x.1++[_])≤200000
      rw [nv,dm,tH]
      exact hu
    · show (dS (x.1++[_]):Int)≤_
      rw [pH,iE]
      show ((dS x.1+(((⟨#[121]⟩:ByteArray)++fy (100+i)).size+0):Nat):Int)≤_
      omega
  · exact bC ⟨hc',⟨hl,hu,by show dS x.1≤10000;omega⟩⟩
  · exact bC ⟨hc',⟨hl,hu,by show dS x.1≤10000;omega⟩⟩
theorem Ha {k:Nat} (hk:2 ^ 50≤k) {c:fU} (h:CI c):ja (gn.f k c) (fun r=>CI r.1∧DS r.2.1):=by
 unfold gn.f gn.t
 refine aV (H0 hk h) fun r1 q1=>?_
 obtain ⟨hc1,hd⟩:=q1
 have hs:=hd.ds
 have g1:=hd.len
 have g2:=hd.use
 have g3:=hd.cap1
 have g4:=ta r1.2.1.1 hd.all
 refine aV (cD k hc1 (by omega) (by omega)) fun r2 q2=>?_
 refine bf (fun _=>?_) (fun _=>bf (fun _=>?_) (fun _=>bf (fun _=>?_) (fun _=>bf (fun _=>?_) (fun _=>bf (fun _=>?_) (fun _=>bf (fun _=>?_) (fun _=>?_))))))
 · refine aV (lP k q2.1 (by decide) (by decide)) fun r3 q3=>?_
   exact bC ⟨q3.1,⟨hs.l,hs.u,hs.n⟩⟩
 · exact bC ⟨q2.1,⟨hs.l,hs.u,hs.n⟩⟩
 · refine cM (oL hk (by omega) (by omega)) ?_
   refine cM (oL hk (by omega) (by omega)) ?_
   refine aV (lP k q2.1 (by simp) (by simp)) fun r3 q3=>?_
   exact bC ⟨q3.1,⟨hs.l,hs.u,hs.n⟩⟩
 · refine bf (fun hb=>?_) (fun _=>bC ⟨q2.1,hs⟩)
   have hb:=of_decide_eq_true hb
   refine aV (cD k q2.1 (by omega) (by omega)) fun r3 q3=>?_
   have hm:List.getD r1.2.1.1 0 (Ty.dflt bR) ∈ r1.2.1.1:=gP (by omega)
   have m1:=nn hm
   have m2:=m3 hm
   exact kB (by omega) (by omega) (bC ⟨q3.1,Ek (d:=r1.2.1) (by omega) (by omega) (by omega) (by omega) (Nat.le_trans m1 (by omega)) (Nat.le_trans m2 (by omega))⟩)
 · refine bf (fun hb=>?_) (fun _=>bC ⟨q2.1,hs⟩)
   have hb:=of_decide_eq_true hb
   refine aV (tq k q2.1 (by decide) (by decide)) fun r3 q3=>?_
   have hz:r3.2.1.size≤100:=zL (by decide) q3.2
   have hm:List.getD r1.2.1.1 0 (Ty.dflt bR) ∈ r1.2.1.1:=gP (by omega)
   have m1:=nn hm
   exact kB (by omega) (by omega) (bC ⟨q3.1,Ek (d:=r1.2.1) (by omega) (by omega) (by omega) (by omega) (Nat.le_trans m1 (by omega)) (Nat.le_trans hz (by omega))⟩)
 · exact J7 hk [] 0 0 false 132 k 0 r2.1 r1.2.1 (by omega) (by omega) (by omega) q2.1 (by omega) (by omega) (by omega)
 · exact bC ⟨q2.1,hs⟩
end Go.Proofs.YtohaanhjddohmaaGreatDoor.G
namespace Go.Proofs.YtohaanhjddohmaaGreatDoor.G
open Go.V
theorem Fk (k:Nat) {c:fU} (h:CI c):ja (j5.f k c) (fun r=>CI r.1):=by
 unfold j5.f j5.t
 refine aV (E_ k h) fun r1 q1=>?_
 refine aV (cD k q1 (by omega) (by omega)) fun r2 q2=>?_
 refine aV (cD k q2.1 (by omega) (by omega)) fun r3 q3=>?_
 refine aV (cD k q3.1 (by omega) (by omega)) fun r4 q4=>?_
 refine aV (cD k q4.1 (by omega) (by omega)) fun r5 q5=>bC q5.1
theorem J1 {k:Nat} (hk:2 ^ 50≤k):∀ (m n:Nat) (c:fU) (out:ac),m<n→CI c→out.length+m≤100→ja (gd.l0 k n (m:Int) c.1 c.2.1 c.2.2.1 out) (fun r=>CI r.1∧r.2.1.length≤100):=by
 intro m
 induction m with
 | zero =>
  intro n c out hn hc ho
  obtain ⟨n,rfl⟩:∃ q,n=q+1:=⟨n-1,by omega⟩
  simp only [gd.l0,gd.b0]
  refine lj (aQ (by omega)) (bf (fun hp=>?_) (fun _=>bC ⟨hc,by show out.length≤100;omega⟩))
  have hp:=of_decide_eq_true hp
  have hset:∀ (i:Nat) (e:Ty.den aA),(List.set out i e).length≤100:=fun i e=>by rw [List.length_set];omega
  refine aV (l6 k hc (by omega) (by omega)) fun r4 q4=>bf (fun _=>?_) (fun _=>bC ⟨q4,by show out.length≤100;omega⟩)
  refine aV (cD k q4 (by omega) (by omega)) fun r5 q5=>?_
  refine aV (cD k q5.1 (by omega) (by omega)) fun r6 q6=>?_
  obtain ⟨_,a5,b5⟩:=q5
  refine bf (fun _=>?_) (fun _=>bf (fun _=>?_) (fun _=>bf (fun _=>?_) (fun _=>?_)))
  · refine aV (tq k q6.1 (by decide) (by decide)) fun r7 q7=>kB a5 b5 (bC ⟨q7.1,hset _ _⟩)
  · exact kB a5 b5 (bC ⟨q6.1,hset _ _⟩)
  · refine aV (lP k q6.1 (by decide) (by decide)) fun r7 q7=>kB a5 b5 (bC ⟨q7.1,hset _ _⟩)
  · refine aV (lP k q6.1 (by decide) (by decide)) fun r7 q7=>kB a5 b5 (bC ⟨q7.1,hset _ _⟩)
 | succ m ih =>
  intro n c out hn hc ho
  obtain ⟨n,rfl⟩:∃ q,n=q+1:=⟨n-1,by omega⟩
  have hw:aF (((m+1:Nat):Int)-1)=(m:Int):=by rw [aD (by omega) (by omega)];omega
  simp only [gd.l0,gd.b0,hw]
  refine mP (aP (by omega)) ?_
  refine aV (Fk k hc) fun r2 q2=>?_
  have hp:=Cg out r2.2.1
  refine cM (oj hk _ (by omega)) ?_
  exact ih n r2.1 _ (by omega) q2 (by show (uJ out r2.2.1).length+m≤100;omega)
theorem He {k:Nat} (hk:2 ^ 50≤k) {c:fU} (h:CI c):ja (gd.f k c) (fun r=>CI r.1∧r.2.1.length≤100):=by
 unfold gd.f gd.t
 refine aV (cD k h (by omega) (by omega)) fun r q=>?_
 obtain ⟨hc,a,b⟩:=q
 have:=J1 hk r.2.1.toNat k r.1 [] (by omega) hc (by simp only [List.length_nil];omega)
 rw [show ((r.2.1.toNat:Nat):Int)=r.2.1 by omega] at this
 exact this
structure AV (st:Ty.den aI) (d:Ty.den a_):Prop where
 ids:st.1.2.1.length≤60
 dir:st.2.1.length≤268435456
 disk:DS d
theorem Gp {k:Nat} (hk:2 ^ 50≤k) {c:fU} (h:CI c):ja (jb.f k c) (fun r=>CI r.1∧AV r.2.1 r.2.2.1):=by
 unfold jb.f jb.t
 refine aV (D0 hk h) fun r1 q1=>?_
 obtain ⟨hc,z,hz⟩:=q1
 have hs:=hz.disk.ds
 have h1:r1.2.1.1.2.1.length≤60:=hz.ids
 have h2:r1.2.1.2.1.length≤268435456:=hz.dir
 refine aV (cD k hc (by omega) (by omega)) fun r2 q2=>?_
 have E:ja (bif (r2.2.1==6) then (some (r2.1,(((r1.2.1.1.1,([],())),r1.2.1.2),r1.2.2))) else (some (r2.1,r1.2))) (fun r:Ty.den ai × Ty.den aI × Ty.den a_ × Unit=>CI r.1∧AV r.2.1 r.2.2.1) :=
  bf (fun _=>bC ⟨q2.1,⟨Nat.zero_le _,h2,hs⟩⟩) (fun _=>bC ⟨q2.1,⟨h1,h2,hs⟩⟩)
 have F:ja ((aH.f k r2.1 12).bind fun r6=>(some (r6.1,(r1.2.1,((r1.2.2.1.1,(r1.2.2.1.2.1,(r6.2.1,r1.2.2.1.2.2.2))),()))))) (fun r:Ty.den ai × Ty.den aI × Ty.den a_ × Unit=>CI r.1∧AV r.2.1 r.2.2.1) :=
  aV (cD k q2.1 (by omega) (by omega)) fun r6 q6=>bC ⟨q6.1,⟨h1,h2,⟨hs.l,hs.u,hs.n⟩⟩⟩
 refine bf (fun _=>bC ⟨q2.1,⟨h1,h2,hs⟩⟩) (fun _=>bf (fun _=>?_) (fun _=>bf (fun _=>?_) (fun _=>bf (fun _=>?_) (fun _=>bf (fun _=>bf (fun _=>F) (fun _=>E)) (fun _=>bf (fun _=>F) (fun _=>E))))))
 · exact aV (He hk q2.1) fun r3 q3=>bC ⟨q3.1,⟨h1,by have:=q3.2;show r3.2.1.length≤268435456;omega,hs⟩⟩
 · exact aV (lP k q2.1 (by decide) (by decide)) fun r4 q4=>bC ⟨q4.1,⟨h1,h2,hs⟩⟩
 · exact aV (Ha hk q2.1) fun r5 q5=>bC ⟨q5.1,⟨h1,h2,q5.2⟩⟩
end Go.Proofs.YtohaanhjddohmaaGreatDoor.G
namespace Go.Proofs.YtohaanhjddohmaaGreatDoor.G
open Go.V
theorem uX (ids:List Int):∀ (l:bO) (acc:List ByteArray),mR ids l acc=acc++(l.filter (lu ids)).map (·.1)
 | [],acc=>(List.append_nil acc).symm
 | f::l,acc=>by
  unfold mR
  rw [uX ids l,List.filter_cons]
  cases lu ids f with
  | true=>rw [aZ,if_pos rfl,List.map_cons,rX];rfl
  | false=>rw [aN,if_neg (by decide)]
end Go.Proofs.YtohaanhjddohmaaGreatDoor.G
namespace Go.Proofs.YtohaanhjddohmaaGreatDoor.G
open Go.V
def xa (all:an) (p:Ty.den aC) (i:Nat):Bool:=(p.2.2.2.1.1==3)&&kp p.2.2.2.1 (jK p.2.2.2.1.2.1 (all.take i))
def qE (all:an):an→Nat→List Int→List Int
 | [],_,acc=>acc
 | p::r,i,acc=>qE all r (i+1) (bif xa all p i then acc++[p.2.2.2.1.2.1] else acc)
def iO (all:an):List Int:=qE all all 0 []
theorem zm (all:an):∀ (r:an) (i:Nat) (acc:List Int),(qE all r i acc).length≤acc.length+r.length
 | [],i,acc=>Nat.le_refl _
 | p::r,i,acc=>by
  have:=zm all r (i+1) (bif xa all p i then acc++[p.2.2.2.1.2.1] else acc)
  unfold qE
  cases c:xa all p i <;> rw [c] at this <;> simp only [aZ,aN,bJ,lM] at this ⊢ <;> omega
theorem ur (all:an):(iO all).length≤all.length:=by
 have:=zm all all 0 []
 rw [List.length_nil] at this
 unfold iO
 omega
theorem yS {k:Nat} (hk:2 ^ 50≤k) {all:an} (hl:all.length≤134217728):gH.f k all=some (iO all,()):=by
 unfold gH.f gH.t iO
 refine du (L:=fun n i (s:List Int × Nat)=>gH.l0 k n all all all.length i s.1) (R:=fun r s=>some (qE all r s.2 s.1,())) (Ty.dflt aC) all (fun i s=>(s.2:Int)=i∧s.1.length≤s.2) (fun n s hs=>?_) (fun n i s x rest h0 h1 hx hr hs ih=>?_) (n:=k) (s:=([],0)) (by omega) ⟨rfl,Nat.le_refl _⟩
 · simp (disch:=omega) only [gH.l0,gH.b0,aQ,aN,qE]
 · obtain ⟨s,j⟩:=s
   obtain ⟨g1,g2⟩:=hs
   simp only [] at g1 g2 ih ⊢
   have iY:=ih (s++[x.2.2.2.1.2.1],j+1) ⟨by simp only [];omega,by simp only [];rw [bJ];omega⟩
   have iN:=ih (s,j+1) ⟨by simp only [];omega,by simp only [];omega⟩
   simp only [] at iY iN
   have ho:=mi x.2.2.2.1.2.1 (all.take j)
   have ht:(all.take j).length≤all.length:=by rw [List.length_take];omega
   have e:qE all (x::rest) j s=qE all rest (j+1) (bif xa all x j then s++[x.2.2.2.1.2.1] else s):=rfl
   rw [e]
   unfold xa
   simp (disch:=first | omega | decide) only [gH.l0,gH.b0,aP h1,aZ,aG,hx]
   cases c:x.2.2.2.1.1==3 with
   | false =>
    rw [aN,Bool.false_and,aN,aD (by omega) (by omega)]
    exact iN
   | true =>
    have how:=uB hk (l:=all.take j) (r:=x.2.2.2.1) (E7 c) (by omega)
    rw [aZ,Bool.true_and,br (by omega) (by omega),show i.toNat=j by omega,how,aO]
    simp only []
    rw [oN hk _ (by omega),aO,aD (by omega) (by omega),bK (by omega) (by decide)]
    cases kp x.2.2.2.1 (jK x.2.2.2.1.2.1 (all.take j))
    · exact iN
    · exact iY
end Go.Proofs.YtohaanhjddohmaaGreatDoor.G
namespace Go.Proofs.YtohaanhjddohmaaGreatDoor.G
open Go.V
theorem yq {k:Nat} (hk:2 ^ 50≤k) {all:an} (hl:all.length≤134217728):gB.f k all=some (iO all,()):=by
 unfold gB.f gB.t iO
 refine du (L:=fun n i (s:List Int × Nat)=>gB.l0 k n all i s.1) (R:=fun r s=>some (qE all r s.2 s.1,())) (Ty.dflt aC) all (fun i s=>(s.2:Int)=i∧s.1.length≤s.2) (fun n s hs=>?_) (fun n i s x rest h0 h1 hx hr hs ih=>?_) (n:=k) (s:=([],0)) (by omega) ⟨rfl,Nat.le_refl _⟩
 · simp (disch:=omega) only [gB.l0,gB.b0,aQ,aN,qE]
 · obtain ⟨s,j⟩:=s
   obtain ⟨g1,g2⟩:=hs
   simp only [] at g1 g2 ih ⊢
   have iY:=ih (s++[x.2.2.2.1.2.1],j+1) ⟨by simp only [];omega,by simp only [];rw [bJ];omega⟩
   have iN:=ih (s,j+1) ⟨by simp only [];omega,by simp only [];omega⟩
   simp only [] at iY iN
   have ho:=mi x.2.2.2.1.2.1 (all.take j)
   have ht:(all.take j).length≤all.length:=by rw [List.length_take];omega
   have hof:=yw hk (l:=all) (e:=i) x.2.2.2.1.2.1 h0 (by omega) (by omega)
   rw [show i.toNat=j by omega] at hof
   have e:qE all (x::rest) j s=qE all rest (j+1) (bif xa all x j then s++[x.2.2.2.1.2.1] else s):=rfl
   simp (disch:=first | omega | decide) only [gB.l0,gB.b0,aP h1,aZ,aG,hx,hof,qY hk,aO,bK,aD,iY,iN,e]
   unfold xa
   cases x.2.2.2.1.1==3 <;> cases kp x.2.2.2.1 (jK x.2.2.2.1.2.1 (all.take j)) <;> rfl
abbrev yc:=Int × Int × Int × an
noncomputable def va (d:Ty.den a_) (s:yc) (x:Int):yc :=
 bif !(aS d (aB aK x)).2 then (s.1+1,s.2.1,s.2.2.1,s.2.2.2)
 else bif decide ((ay (aS d (aB aK x)).1).2<((aS d (aB aK x)).1.size:Int)) then (s.1,s.2.1+1,s.2.2.1+(((aS d (aB aK x)).1.size:Int)-(ay (aS d (aB aK x)).1).2),s.2.2.2++fQ x (ay (aS d (aB aK x)).1).1)
 else (s.1,s.2.1,s.2.2.1,s.2.2.2++fQ x (ay (aS d (aB aK x)).1).1)
noncomputable def ph (d:Ty.den a_) (l:List Int) (s:yc):yc:=l.foldl (va d) s
def xj (sl:List Int) (p:Ty.den aC):Bool:=((p.2.2.2.1.1==1)||(p.2.2.2.1.1==2))&&!nN sl p.2.2.2.1.2.1
def oe (sl:List Int):an→Int→Int
 | [],n=>n
 | p::r,n=>oe sl r (bif xj sl p then n+1 else n)
def AH (live:Bool) (orph:Int) (s:yc):Ty.den rr:=(live,(s.1,(s.2.1,(oe (iO s.2.2.2) s.2.2.2 0,(orph,((s.2.2.2.length:Int),(s.2.2.1,())))))))
def lA:ByteArray:=⟨#[108,105,118,101]⟩
noncomputable def gl (d:Ty.den a_):Ty.den rr :=
 AH (cO (aS d lA).1).2 ((kF d (cO (aS d lA).1).1.2.1).length:Int) (ph d (cO (aS d lA).1).1.2.1 (0,0,0,[]))
theorem tg (s:ByteArray):(cO s).1.2.1.length≤60:=by
 rcases jD (fun v=>dR v=true) au ((0,([],())):Ty.den bA) s with ⟨r,h1,h2,h3⟩ | h
 · unfold cO
   rw [h3]
   exact (dp (nx:=r.1) (ids:=r.2.1) h1).2.2.2.1
 · unfold cO
   rw [h]
   exact Nat.zero_le _
theorem Fb:ay ⟨#[]⟩=([],0):=by
 have h:=gC ⟨#[]⟩
 have e:(⟨#[]⟩:ByteArray).size=0:=rfl
 rw [e] at h
 generalize ay ⟨#[]⟩=q at h
 obtain ⟨l,n⟩:=q
 simp only [] at h
 have h1:l=[]:=List.length_eq_zero_iff.1 (by omega)
 have h2:n=0:=by omega
 rw [h1,h2]
theorem F5 {d:Ty.den a_} {s:ByteArray} (h:(aS d s).2=false):(aS d s).1=⟨#[]⟩:=by
 unfold aS at h ⊢
 generalize fh d=b at h ⊢
 generalize bg d.1 s=o at h ⊢
 cases b <;> cases o <;> first | rfl | cases h
def Hv (i:Int) (s:yc):Prop:=0≤s.1∧s.1≤i∧0≤s.2.1∧s.2.1≤i∧0≤s.2.2.1∧s.2.2.1≤i*2097152∧(s.2.2.2.length:Int)≤i*2097152
theorem zJ {d:Ty.den a_} (hu:cJ d.1≤2097152) {i:Int} {s:yc} (x:Int) (h:Hv i s):Hv (i+1) (va d s x):=by
 have hz:=fZ d (aB aK x)
 have hl:=gC (aS d (aB aK x)).1
 obtain ⟨h1,h2,h3,h4,h5,h6,h7⟩:=h
 unfold va
 cases (aS d (aB aK x)).2 with
 | false=>exact ⟨by show 0≤s.1+1;omega,by show s.1+1≤_;omega,h3,by show s.2.1≤_;omega,h5,by show s.2.2.1≤_;omega,by show (s.2.2.2.length:Int)≤_;omega⟩
 | true =>
  rw [fV,aN]
  have hp:((s.2.2.2++fQ x (ay (aS d (aB aK x)).1).1).length:Int)≤(i+1)*2097152:=by rw [vW,oC];omega
  cases decide ((ay (aS d (aB aK x)).1).2<((aS d (aB aK x)).1.size:Int)) with
  | true=>exact ⟨h1,by show s.1≤_;omega,by show 0≤s.2.1+1;omega,by show s.2.1+1≤_;omega,by show 0≤s.2.2.1+_;omega,by show s.2.2.1+_≤_;omega,hp⟩
  | false=>exact ⟨h1,by show s.1≤_;omega,h3,by show s.2.1≤_;omega,h5,by show s.2.2.1≤_;omega,hp⟩
theorem Ar {k:Nat} (hk:2 ^ 50≤k) {d:Ty.den a_} (hl:d.1.length≤2097152) (hu:cJ d.1≤2097152) (hn:dS d.1≤2097152):er.f k d=some (gl d,()):=by
 have hz:=fZ d lA
 have hv:=tg (aS d lA).1
 unfold er.f er.t gl
 rw [show (⟨#[108,105,118,101]⟩:ByteArray)=lA from rfl,fa hk (by omega) (by omega) (by omega),aO]
 simp only []
 rw [qG hk (by omega),aO]
 simp only []
 rw [vD hk (by omega) (by omega) (by omega),aO]
 generalize cO (aS d lA).1=v at hv
 generalize ((kF d v.1.2.1).length:Int)=orph
 obtain ⟨⟨nx,ids,_⟩,live⟩:=v
 simp only [] at hv ⊢
 refine du (L:=fun n i (s:yc)=>er.l0 k n i d.1 d.2.1 d.2.2.1 d.2.2.2.1 false 0 0 0 0 0 0 live s.1 s.2.1 0 orph 0 s.2.2.1 ids nx s.2.2.2) (R:=fun r s=>some (AH live orph (ph d r s),())) (Ty.dflt (.int .i64)) ids Hv (fun n s hs=>?_) (fun n i s x rest h0 h1 hx hr hs ih=>?_) (n:=k) (s:=(0,0,0,[])) (by omega) ⟨by simp,by simp,by simp,by simp,by simp,by simp,by simp⟩
 · obtain ⟨h1,h2,h3,h4,h5,h6,h7⟩:=hs
   have hal:s.2.2.2.length≤134217728:=by omega
   have hsl:=ur s.2.2.2
   simp (disch:=omega) only [er.l0,er.b0,aQ,aN,yq hk hal,aO]
   show _=some (AH live orph s,())
   unfold AH
   refine du (L:=fun n i (c:Int)=>er.l1 k n i false 0 0 0 0 0 0 live s.1 s.2.1 c orph s.2.2.2.length s.2.2.1 s.2.2.2 (iO s.2.2.2)) (R:=fun r c=>some ((live,(s.1,(s.2.1,(oe (iO s.2.2.2) r c,(orph,((s.2.2.2.length:Int),(s.2.2.1,()))))))),())) (Ty.dflt aC) s.2.2.2 (fun i c=>0≤c∧c≤i) (fun n c hc=>?_) (fun n i c x rest g0 g1 gx gr gc ih2=>?_) (n:=k) (s:=0) (by omega) ⟨by simp,by simp⟩
   · simp (disch:=omega) only [er.l1,er.b1,aQ,aN,oe]
   · have iY:=ih2 (c+1) ⟨by omega,by omega⟩
     have iN:=ih2 c ⟨by omega,by omega⟩
     have e:oe (iO s.2.2.2) (x::rest) c=oe (iO s.2.2.2) rest (bif xj (iO s.2.2.2) x then c+1 else c):=rfl
     simp (disch:=omega) only [er.l1,er.b1,aP g1,aZ,aG,gx,Ck hk,aO,aD,iY,iN,e]
     unfold xj
     cases x.2.2.2.1.1==1 <;> cases x.2.2.2.1.1==2 <;> cases nN (iO s.2.2.2) x.2.2.2.1.2.1 <;> rfl
 · have ih:=ih (va d s x) (zJ hu x hs)
   obtain ⟨h1',h2,h3,h4,h5,h6,h7⟩:=hs
   have hz:=fZ d (aB aK x)
   have hsl:=gC (aS d (aB aK x)).1
   have hp:=oC x (ay (aS d (aB aK x)).1).1
   have ht:=fa hk (d:=d) (by omega) (by omega) (by omega) (aB aK x)
   have hs:=lO hk (s:=(aS d (aB aK x)).1) (by omega)
   have hpl:=ou hk x (s:=(aS d (aB aK x)).1) (by omega)
   have e:ph d (x::rest) s=ph d rest (va d s x):=rfl
   rw [e,← ih]
   simp (disch:=first | omega | decide) only [er.l0,er.b0,aP h1,aZ,aG,hx,bV hk,aO,ht,hs,hpl,bK,aD]
   unfold va
   cases c:(aS d (aB aK x)).2 with
   | false =>
    have h0:=F5 c
    rw [h0,Fb]
    simp only [ot,aZ]
    rw [aQ (show ¬ (0:Int)<((⟨#[]⟩:ByteArray).size:Int) by decide),aN,show fQ x ([],(0:Int)).1=[] from rfl,List.append_nil]
   | true =>
    simp only [fV,aN]
    cases decide ((ay (aS d (aB aK x)).1).2<((aS d (aB aK x)).1.size:Int)) with
    | false=>rfl
    | true =>
     simp only [aZ]
     rw [show s.2.2.1+(((aS d (aB aK x)).1.size:Int)-(ay (aS d (aB aK x)).1).2)=s.2.2.1+((aS d (aB aK x)).1.size:Int)-(ay (aS d (aB aK x)).1).2 by omega]
theorem tj {k:Nat} (hk:2 ^ 50≤k) {d:Ty.den a_} (hl:d.1.length≤2097152) (hu:cJ d.1≤2097152) (hn:dS d.1≤2097152):dV.f k d=some (gl d,()):=by
 have hz:=fZ d lA
 have hv:=tg (aS d lA).1
 unfold dV.f dV.t gl
 rw [show (⟨#[108,105,118,101]⟩:ByteArray)=lA from rfl,kO hk (by omega) (by omega) (by omega),aO]
 simp only []
 rw [qM hk (by omega),aO]
 simp only []
 rw [uo hk (by omega) (by omega) (by omega),aO]
 generalize cO (aS d lA).1=v at hv
 generalize ((kF d v.1.2.1).length:Int)=orph
 obtain ⟨⟨nx,ids,_⟩,live⟩:=v
 simp only [] at hv ⊢
 refine du (L:=fun n i (s:yc)=>dV.l0 k n ids.length i d.1 d.2.1 d.2.2.1 d.2.2.2.1 false 0 0 0 0 0 0 live s.1 s.2.1 0 orph 0 s.2.2.1 s.2.2.2 ids) (R:=fun r s=>some (AH live orph (ph d r s),())) (Ty.dflt (.int .i64)) ids Hv (fun n s hs=>?_) (fun n i s x rest h0 h1 hx hr hs ih=>?_) (n:=k) (s:=(0,0,0,[])) (by omega) ⟨by simp,by simp,by simp,by simp,by simp,by simp,by simp⟩
 · obtain ⟨h1,h2,h3,h4,h5,h6,h7⟩:=hs
   have hal:s.2.2.2.length≤134217728:=by omega
   have hsl:=ur s.2.2.2
   simp (disch:=omega) only [dV.l0,dV.b0,aQ,aN,yS hk hal,aO]
   show _=some (AH live orph s,())
   unfold AH
   refine du (L:=fun n i (c:Int)=>dV.l1 k n s.2.2.2.length i false 0 0 0 0 0 0 live s.1 s.2.1 c orph s.2.2.2.length s.2.2.1 (iO s.2.2.2) s.2.2.2) (R:=fun r c=>some ((live,(s.1,(s.2.1,(oe (iO s.2.2.2) r c,(orph,((s.2.2.2.length:Int),(s.2.2.1,()))))))),())) (Ty.dflt aC) s.2.2.2 (fun i c=>0≤c∧c≤i) (fun n c hc=>?_) (fun n i c x rest g0 g1 gx gr gc ih2=>?_) (n:=k) (s:=0) (by omega) ⟨by simp,by simp⟩
   · simp (disch:=omega) only [dV.l1,dV.b1,aQ,aN,oe]
   · have iY:=ih2 (c+1) ⟨by omega,by omega⟩
     have iN:=ih2 c ⟨by omega,by omega⟩
     have e:oe (iO s.2.2.2) (x::rest) c=oe (iO s.2.2.2) rest (bif xj (iO s.2.2.2) x then c+1 else c):=rfl
     simp (disch:=omega) only [dV.l1,dV.b1,aP g1,aZ,aG,gx,vN hk,aO,aD,iY,iN,e]
     unfold xj
     cases x.2.2.2.1.1==1 <;> cases x.2.2.2.1.1==2 <;> cases nN (iO s.2.2.2) x.2.2.2.1.2.1 <;> rfl
 · have ih:=ih (va d s x) (zJ hu x hs)
   obtain ⟨h1',h2,h3,h4,h5,h6,h7⟩:=hs
   have hz:=fZ d (aB aK x)
   have hsl:=gC (aS d (aB aK x)).1
   have hp:=oC x (ay (aS d (aB aK x)).1).1
   have ht:=kO hk (d:=d) (by omega) (by omega) (by omega) (aB aK x)
   have hs:=qn hk (s:=(aS d (aB aK x)).1) (by omega)
   have hpl:=oi hk x (l:=(ay (aS d (aB aK x)).1).1) (by omega)
   have e:ph d (x::rest) s=ph d rest (va d s x):=rfl
   rw [e,← ih]
   simp (disch:=first | omega | decide) only [dV.l0,dV.b0,aP h1,aZ,aG,hx,kQ k,aO,ht,hs,hpl,bK,aD]
   unfold va
   cases c:(aS d (aB aK x)).2 with
   | false=>rfl
   | true =>
    simp only [fV,aN]
    cases decide ((ay (aS d (aB aK x)).1).2<((aS d (aB aK x)).1.size:Int)) <;> rfl
end Go.Proofs.YtohaanhjddohmaaGreatDoor.G
namespace Go.Proofs.YtohaanhjddohmaaGreatDoor.G
open Go.V
theorem IW {a b:Int} (h:a<b) (g:b≤100000):a≤100000:=by omega
theorem Gq {d:Ty.den a_} {s:ByteArray} (hd:DR d) (z:(je s d).2=0):fT (je s d).1 s=none:=by
 unfold je at z ⊢
 cases c:(bg d.1 s).isSome with
 | false =>
  rw [aN]
  refine wA.1 ?_
  cases q:bg d.1 s with
  | none=>rfl
  | some f=>rw [q] at c;cases c
 | true =>
  rw [c] at z
  simp only [aZ] at z ⊢
  obtain ⟨c1,c2⟩:=nF z
  refine wA.1 ?_
  show bg (ii d (vf s)).1.1 s=none
  rw [c2]
  unfold vf at c1 ⊢
  cases q:(bg d.1 s).isNone with
  | true=>rw [q] at c1;exact absurd c1 (by show (3:Int)≠0;decide)
  | false=>exact qu hd.keys s
theorem xW {t:ByteArray}:∀ (l:List ByteArray) (d:Ty.den a_),DR d→(dz l d).2=0→(t ∈ l∨fT d t=none)→fT (dz l d).1 t=none
 | [],d,_,_,h=>by
  rcases h with h | h
  · cases h
  · exact h
 | s::l,d,hd,z,h=>by
  obtain ⟨z1,e,z2⟩:=km (r:=je s d) (f:=dz l) z
  have hx:=tE s d hd
  show fT (ga (je s d) (dz l)).1 t=none
  rw [e]
  refine xW l (je s d).1 hx z2 ?_
  by_cases q:s=t
  · rw [← q]
    exact .inr (Gq hd z1)
  · rcases h with h | h
    · rcases List.mem_cons.1 h with w | w
      · exact absurd w.symm q
      · exact .inl w
    · exact .inr ((A4 q).trans h)
theorem Bq {f:Ty.den bR}:∀ {l:bO},f ∈ l→bg l f.1≠none
 | [],h,_=>(by cases h)
 | g::l,h,q=>by
  unfold bg at q
  cases c:seq g.1 f.1 with
  | true=>rw [c] at q;cases q
  | false =>
   rw [c,aN] at q
   rcases List.mem_cons.1 h with w | w
   · rw [w,cm] at c;cases c
   · exact Bq w q
theorem BM {s:ByteArray}:∀ {l:bO},bg l s≠none→∃ g ∈ l,g.1=s
 | [],h=>absurd rfl h
 | g::l,h=>by
  unfold bg at h
  cases c:seq g.1 s with
  | true=>exact ⟨g,pR,dY.1 c⟩
  | false =>
   rw [c,aN] at h
   obtain ⟨g',h1,h2⟩:=BM h
   exact ⟨g',s9 _ h1,h2⟩
theorem Br {ids:List Int} {f g:Ty.den bR} (h:g.1=f.1):lu ids g=lu ids f:=by unfold lu;rw [h]
theorem DJ {ids:List Int} {d:Ty.den a_} (hd:DR d) (z:(gM ids d).2=0):kF (gM ids d).1 ids=[]:=by
 have hx:=pJ ids d hd
 have e:kF d ids=(d.1.filter (lu ids)).map (·.1):=by
  unfold kF
  rw [iH.2 hd,aZ,uX,List.nil_append]
 unfold kF
 rw [iH.2 hx,aZ,uX,List.nil_append,List.map_eq_nil_iff,List.filter_eq_nil_iff]
 intro f hf c
 have k1:fT (gM ids d).1 f.1≠none:=fun q=>Bq hf (wA.2 q)
 refine k1 (xW _ d hd z ?_)
 by_cases q:fT d f.1=none
 · exact .inr q
 · refine .inl ?_
   obtain ⟨g,hg,hn⟩:=BM (l:=d.1) (s:=f.1) fun w=>q (wA.1 w)
   rw [e]
   exact List.mem_map.2 ⟨g,List.mem_filter.2 ⟨hg,by rw [Br hn];exact c⟩,hn⟩
theorem IE:(BL dG).2=false:=by
 unfold BL
 rcases jD (HU dG) (fun _=>dG) (0:Int) dG with ⟨r,h1,_,_⟩ | h
 · exfalso
   obtain ⟨h0,h2,h3⟩:=h1
   have hp:=CU r
   rcases h3 with q | q
   · have:=congrArg nb q
     rw [iL] at this
     cases this
   · have:=congrArg nb q
     rw [iL] at this
     cases this
 · rw [h]
theorem D7 {ids:List Int} {d:Ty.den a_} {t:ByteArray} (ht:t=dG∨∃ x ∈ ids,1≤x∧x≤100000∧t=aB aK x):fT (gM ids d).1 t=fT d t:=by
 refine pI _ d fun s hs q=>?_
 have h:=GO hs
 rw [q] at h
 rcases ht with w | ⟨x,hx,h0,h1,w⟩
 · rw [w,IE,Bool.false_and,Bool.false_or] at h
   have:=congrArg nb (dY.1 h)
   cases this
 · have hh:nN ids x=true:=by unfold nN;rw [List.any_eq_true];exact ⟨x,hx,beq_self_eq_true _⟩
   rw [w,wz (.inl rfl) h0 h1,hh] at h
   simp only [fV,Bool.and_false,Bool.false_or] at h
   exact nc ⟨h0,h1⟩ (dY.1 h).symm
noncomputable def qK (d:Ty.den a_):List Int→Int
 | []=>0
 | x::l=>(bif decide ((ay (d5 d x)).2<((d5 d x).size:Int)) then 1 else 0)+qK d l
theorem vq (d:Ty.den a_):∀ (l:List Int) (s:yc),(∀ x ∈ l,(aS d (aB aK x)).2=true)→(ph d l s).1=s.1∧(ph d l s).2.1=s.2.1+qK d l∧(ph d l s).2.2.2=s.2.2.2++jZ d l
 | [],s,_=>⟨rfl,(Int.add_zero _).symm,(List.append_nil _).symm⟩
 | x::l,s,h=>by
  have hx:=h x pR
  have ih:=fun s'=>vq d l s' fun y hy=>h y (s9 _ hy)
  have e:ph d (x::l) s=ph d l (va d s x):=rfl
  rw [e]
  obtain ⟨i1,i2,i3⟩:=ih (va d s x)
  rw [i1,i2,i3]
  have e1:qK d (x::l)=(bif decide ((ay (aS d (aB aK x)).1).2<((aS d (aB aK x)).1.size:Int)) then 1 else 0)+qK d l:=rfl
  have e2:jZ d (x::l)=fQ x (ay (aS d (aB aK x)).1).1++jZ d l:=rfl
  rw [e1,e2]
  unfold va
  rw [hx]
  simp only [fV,aN]
  cases decide ((ay (aS d (aB aK x)).1).2<((aS d (aB aK x)).1.size:Int)) with
  | true=>exact ⟨rfl,by simp only [aZ];omega,by simp only [aZ];rw [rX]⟩
  | false=>exact ⟨rfl,by simp only [aN];omega,by simp only [aN];rw [rX]⟩
theorem sN {d:Ty.den a_}:∀ {l:List Int},gQ d l=true→(∀ x ∈ l,(aS d (aB aK x)).2=true)∧0≤qK d l∧qK d l≤1
 | [],_=>⟨fun x hx=>(by cases hx),Int.le_refl _,by unfold qK;decide⟩
 | x::l,h=>by
  unfold gQ pb at h
  simp only [kC,Bool.or_eq_true,Bool.not_eq_true'] at h
  obtain ⟨⟨h1,h2⟩,h3⟩:=h
  obtain ⟨i1,i2,i3⟩:=sN h3
  refine ⟨fun y hy=>?_,?_⟩
  · rcases List.mem_cons.1 hy with w | w
    · rw [w];exact h1
    · exact i1 y w
  · have e1:qK d (x::l)=(bif decide ((ay (d5 d x)).2<((d5 d x).size:Int)) then 1 else 0)+qK d l:=rfl
    rw [e1]
    rcases h2 with q | q
    · have:l=[]:=List.isEmpty_iff.1 q
      subst this
      show 0≤(bif _ then (1:Int) else 0)+0∧(bif _ then (1:Int) else 0)+0≤1
      cases decide ((ay (d5 d x)).2<((d5 d x).size:Int)) <;> exact ⟨by decide,by decide⟩
    · rw [q,aN]
      exact ⟨by omega,by omega⟩
theorem A0 {d:Ty.den a_}:∀ {l:List Int},(∀ x ∈ l,(ay (d5 d x)).2=((d5 d x).size:Int))→qK d l=0
 | [],_=>rfl
 | x::l,h=>by
  show (bif decide ((ay (d5 d x)).2<((d5 d x).size:Int)) then (1:Int) else 0)+qK d l=0
  rw [A0 fun y hy=>h y (s9 _ hy),aQ (by rw [h x pR];omega)]
  rfl
theorem zX {d:Ty.den a_}:∀ {l:List Int},gQ d l=true→∀ x ∈ l,x≠aa l→(ay (d5 d x)).2=((d5 d x).size:Int)
 | [],_,x,hx,_=>(by cases hx)
 | y::l,h,x,hx,hn=>by
  unfold gQ pb at h
  simp only [kC,Bool.or_eq_true,Bool.not_eq_true'] at h
  obtain ⟨⟨h1,h2⟩,h3⟩:=h
  have hl:l≠[]→aa (y::l)=aa l:=fun q=>by
   cases l with
   | nil=>exact absurd rfl q
   | cons z l=>rfl
  rcases List.mem_cons.1 hx with w | w
  · rw [w] at hn ⊢
    rcases h2 with q | q
    · have:l=[]:=List.isEmpty_iff.1 q
      subst this
      exact absurd rfl hn
    · have:=of_decide_eq_false q
      have:=(gC (d5 d y)).2
      omega
  · have hne:l≠[]:=fun q=>by rw [q] at w;cases w
    exact zX h3 x w (by rw [← hl hne];exact hn)
theorem zW {d d':Ty.den a_}:∀ {l:List Int},(∀ x ∈ l,ay (d5 d' x)=ay (d5 d x))→jZ d' l=jZ d l
 | [],_=>rfl
 | x::l,h=>by
  show fQ x (ay (d5 d' x)).1++jZ d' l=fQ x (ay (d5 d x)).1++jZ d l
  rw [zW fun y hy=>h y (s9 _ hy),h x pR]
structure LK (d x:Ty.den a_):Prop where
 live:(gl d).1=true
 missing:(gl d).2.1=0
 torn:(gl d).2.2.1≤1
 records:(gl x).2.2.2.2.2.1=(gl d).2.2.2.2.2.1
 torn2:(gl x).2.2.1=0
 orphans:(gl x).2.2.2.2.1=0
theorem DU {d:Ty.den a_} (ht:(aS d lA).2=true) (z:(jP d).2.2=0):LK d (jP d).2.1:=by
 have ht:(aS d dG).2=true:=ht
 have hdk:fh d=true:=by
  unfold aS at ht
  cases c:fh d with
  | true=>rfl
  | false=>rw [c] at ht;cases ht
 have hd:=iH.1 hdk
 unfold jP at z ⊢
 rw [hdk] at z ⊢
 simp only [fV,aN] at z ⊢
 cases c1:d.2.2.2.1 with
 | true=>rw [c1] at z;exact absurd z (by show (1:Int)≠0;decide)
 | false =>
  rw [c1,ht] at z
  rw [ht]
  simp only [fV,aN] at z ⊢
  rcases jD (fun v=>dR v=true) au ((0,([],())):Ty.den bA) (aS d dG).1 with ⟨v,h1,h2,e⟩ | e
  · have e:cO (aS d dG).1=(v,true):=e
    rw [e] at z ⊢
    simp only [fV,aN] at z ⊢
    obtain ⟨_,_,hv1,hv2,_⟩:=dp (nx:=v.1) (ids:=v.2.1) h1
    obtain ⟨n1,n2,n3,n4⟩:=nV (n:=v.1) (ids:=v.2.1) h1
    unfold r_ at z ⊢
    cases cg:gQ d v.2.1 with
    | false=>rw [cg] at z;exact absurd z (by show (3:Int)≠0;decide)
    | true =>
     rw [cg] at z
     simp only [fV,aN] at z ⊢
     cases cf:(fq (aa v.2.1) d).2 != 0 with
     | true =>
      rw [cf] at z
      have z:fL (fq (aa v.2.1) d).2=0:=z
      have:=gg (fq (aa v.2.1) d).2
      rw [z] at this
      rw [show ((fq (aa v.2.1) d).2 != 0)=!((fq (aa v.2.1) d).2==0) from rfl,← this] at cf
      cases cf
     | false =>
      rw [cf] at z
      simp only [aN] at z ⊢
      have fz:=nD cf
      have fx:=DK (aa v.2.1) hd
      have ftx:=fun s=>BV hd (x:=aa v.2.1) fz s
      have flive:fT (fq (aa v.2.1) d).1 dG=fT d dG∧((ay (d5 (fq (aa v.2.1) d).1 (aa v.2.1))).2=((d5 (fq (aa v.2.1) d).1 (aa v.2.1)).size:Int))∧∀ x ∈ v.2.1,x≠aa v.2.1→aS (fq (aa v.2.1) d).1 (aB aK x)=aS d (aB aK x):=by
       have hlast:aa v.2.1 ∈ v.2.1:=by
        rw [sM hv1]
        exact List.mem_append_right _ (by rw [← sM hv1];exact List.mem_singleton.2 rfl)
       obtain ⟨b1,b2⟩:=n3 _ hlast
       obtain ⟨c1',c2',c3'⟩:=km fz
       have hs:=gC (d5 d (aa v.2.1))
       rw [show fq (aa v.2.1) d=_ from c2']
       by_cases hb:(ay (d5 d (aa v.2.1))).2<((d5 d (aa v.2.1)).size:Int)
       · simp only [aP hb,aZ] at c1' c3' ⊢
         have hy:=ug hd (aB aK (aa v.2.1)) (ay (d5 d (aa v.2.1))).2
         have et:=fun s=>(qW hy c3' s).trans (xF hd c1' s)
         refine ⟨rD.trans ?_,?_,fun x hx hn=>?_⟩
         · have h1:=xF hd c1' dG
           rw [lb (p0 ⟨b1,by omega⟩),aN] at h1
           have q1:=s6 hy dG
           have q2:=ru hy dG
           have q3:=s6 hd dG
           have q4:=ru hd dG
           rw [h1] at q1 q2
           rw [q1] at q3
           rw [q2] at q4
           cases w1:fT (mm d (aB aK (aa v.2.1)) (ay (d5 d (aa v.2.1))).2).1 dG with
           | none =>
            cases w2:fT d dG with
            | none=>rfl
            | some t=>rw [w1,w2] at q4;cases q4
           | some s =>
            cases w2:fT d dG with
            | none=>rw [w1,w2] at q4;cases q4
            | some t=>rw [w1,w2] at q3;exact congrArg some q3
         · have ew:=et (aB aK (aa v.2.1))
           rw [cm,aZ] at ew
           show (ay (aS _ _).1).2=((aS _ _).1.size:Int)
           rw [ew]
           show (ay (ByteArray.extract (d5 d (aa v.2.1)) 0 _)).2=((ByteArray.extract (d5 d (aa v.2.1)) 0 _).size:Int)
           rw [zx,rV _ (by omega)]
           omega
         · rw [et,lb fun q=>hn ?_]
           · rfl
           · by_cases w:x=aa v.2.1
             · exact w
             · exact absurd q (ue ⟨(n3 x hx).1,IW (n3 x hx).2 n2⟩ ⟨b1,by omega⟩ w)
       · simp only [aQ hb,aN] at c1' c3' ⊢
         refine ⟨rD,?_,fun x hx hn=>qW hd c3' _⟩
         show (ay (aS _ _).1).2=((aS _ _).1.size:Int)
         rw [qW hd c3']
         show (ay (d5 d (aa v.2.1))).2=((d5 d (aa v.2.1)).size:Int)
         omega
      obtain ⟨f1,f2,f3⟩:=flive
      unfold tB at z ⊢
      generalize oq (fq (aa v.2.1) d).1 v.2.1=g at z ⊢
      cases cq:g.2.2.1 != 0 with
      | true=>rw [cq] at z;exact absurd z (by show (3:Int)≠0;decide)
      | false =>
       rw [cq] at z
       simp only [aN] at z ⊢
       cases cs:(gM v.2.1 (fq (aa v.2.1) d).1).2 != 0 with
       | true =>
        rw [cs] at z
        have z:fL (gM v.2.1 (fq (aa v.2.1) d).1).2=0:=z
        have:=gg (gM v.2.1 (fq (aa v.2.1) d).1).2
        rw [z] at this
        rw [show ((gM v.2.1 (fq (aa v.2.1) d).1).2 != 0)=!((gM v.2.1 (fq (aa v.2.1) d).1).2==0) from rfl,← this] at cs
        cases cs
       | false =>
        simp only [aN]
        have sz:=nD cs
        have hx:=pJ v.2.1 _ fx
        show LK d (gM v.2.1 (fq (aa v.2.1) d).1).1
        have so:=DJ fx sz
        have sk:∀ t:ByteArray,(t=dG∨∃ x ∈ v.2.1,1≤x∧x≤100000∧t=aB aK x)→fT (gM v.2.1 (fq (aa v.2.1) d).1).1 t=fT (fq (aa v.2.1) d).1 t:=fun t=>D7
        generalize (gM v.2.1 (fq (aa v.2.1) d).1).1=x at hx so sk ⊢
        have eT:∀ t:ByteArray,(t=dG∨∃ x ∈ v.2.1,1≤x∧x≤100000∧t=aB aK x)→aS x t=aS (fq (aa v.2.1) d).1 t:=fun t h=>Prod.ext (by rw [s6 hx,s6 fx,sk t h]) (by rw [ru hx,ru fx,sk t h])
        have eS:∀ i ∈ v.2.1,aS x (aB aK i)=aS (fq (aa v.2.1) d).1 (aB aK i):=fun i hi=>eT _ (.inr ⟨i,hi,(n3 i hi).1,IW (n3 i hi).2 n2,rfl⟩)
        have eL:(aS x dG).1=(aS d dG).1:=by rw [s6 hx,sk dG (.inl rfl),f1,← s6 hd]
        obtain ⟨t1,t2,t3⟩:=sN cg
        have there:∀ i ∈ v.2.1,(aS x (aB aK i)).2=true:=fun i hi=>by rw [eS i hi,(ftx _).1];exact t1 i hi
        have full:∀ i ∈ v.2.1,(ay (d5 x i)).2=((d5 x i).size:Int):=fun i hi=>by
         unfold d5
         rw [eS i hi]
         by_cases w:i=aa v.2.1
         · rw [w];exact f2
         · rw [f3 i hi w];exact zX cg i hi w
        obtain ⟨a1,a2,a3⟩:=vq d v.2.1 (0,0,0,[]) t1
        obtain ⟨b1,b2,b3⟩:=vq x v.2.1 (0,0,0,[]) there
        have pl:jZ x v.2.1=jZ d v.2.1:=zW fun i hi=>by
         unfold d5
         rw [eS i hi]
         exact (ftx _).2
        have ed:gl d=AH true ((kF d v.2.1).length:Int) (ph d v.2.1 (0,0,0,[])):=by
         unfold gl
         rw [show lA=dG from rfl,e]
        have ex:gl x=AH true ((kF x v.2.1).length:Int) (ph x v.2.1 (0,0,0,[])):=by
         unfold gl
         rw [show lA=dG from rfl,eL,e]
        rw [A0 full] at b2
        refine ⟨by rw [ed];rfl,by rw [ed];exact a1,?_,?_,?_,?_⟩
        · rw [ed]
          show (ph d v.2.1 (0,0,0,[])).2.1≤1
          rw [a2]
          show (0:Int)+qK d v.2.1≤1
          omega
        · rw [ed,ex]
          show ((ph x v.2.1 (0,0,0,[])).2.2.2.length:Int)=((ph d v.2.1 (0,0,0,[])).2.2.2.length:Int)
          rw [a3,b3,pl]
        · rw [ex]
          show (ph x v.2.1 (0,0,0,[])).2.1=0
          rw [b2]
          rfl
        · rw [ex]
          show ((kF x v.2.1).length:Int)=0
          rw [so]
          rfl
  · rw [show cO (aS d dG).1=((0,([],())),false) from e] at z
    exact absurd z (by show (3:Int)≠0;decide)
theorem Fu {d:Ty.den a_} (ht:(aS d lA).2=true) (hd:d.2.2.2.1=false) (h:(gl d).1=false∨(gl d).2.1 > 0):(jP d).2.2=3:=by
 have ht:(aS d dG).2=true:=ht
 have hdk:fh d=true:=by
  unfold aS at ht
  cases c:fh d with
  | true=>rfl
  | false=>rw [c] at ht;cases ht
 unfold jP
 rw [hdk,hd,ht]
 simp only [fV,aN]
 cases c:(cO (aS d dG).1).2 with
 | false=>rfl
 | true =>
  simp only [fV,aN]
  unfold r_
  cases cg:gQ d (cO (aS d dG).1).1.2.1 with
  | false=>rfl
  | true =>
   exfalso
   have a1:=(vq d (cO (aS d dG).1).1.2.1 (0,0,0,[]) (sN cg).1).1
   rcases h with h | h
   · have h:(cO (aS d dG).1).2=false:=h
     rw [c] at h
     cases h
   · have h:(ph d (cO (aS d dG).1).1.2.1 (0,0,0,[])).1 > 0:=h
     rw [a1] at h
     exact absurd h (by show ¬ (0:Int) > 0;decide)
end Go.Proofs.YtohaanhjddohmaaGreatDoor.G
namespace Go.Proofs.YtohaanhjddohmaaGreatDoor.G
open Go.V
abbrev J4:=List (Int × mh)
structure TX (st:Ty.den aI) (d:Ty.den a_) (L:J4):Prop where
 live:dR st.1=true
 disk:DR d
 ids:st.1.2.1=L.map (·.1)
 text:∀ x ∈ L,fT d (aB aK x.1)=some (gp x.2)∧∀ r ∈ x.2,ik r=true
 tail:∀ t,fT d (j0 st)=some t→st.2.2.2.1=(t.size:Int)
theorem TX.bt {st:Ty.den aI} {d:Ty.den a_} {L:J4} (h:TX st d L):BT st d:=⟨h.live,h.disk,fun x hx=>by
 rw [h.ids] at hx
 obtain ⟨y,hy,rfl⟩:=List.mem_map.1 hx
 exact ⟨_,(h.text y hy).1,y.2,(h.text y hy).2,rfl⟩,h.tail⟩
theorem Eb {d:Ty.den a_}:∀ {ids:List Int},(∀ x ∈ ids,∃ t,fT d (aB aK x)=some t∧FL t)→∃ L:J4,ids=L.map (·.1)∧∀ x ∈ L,fT d (aB aK x.1)=some (gp x.2)∧∀ r ∈ x.2,ik r=true
 | [],_=>⟨[],rfl,fun x hx=>(by cases hx)⟩
 | x::l,h=>by
  obtain ⟨L,h1,h2⟩:=Eb (ids:=l) fun y hy=>h y (s9 _ hy)
  obtain ⟨t,ht,rs,hr,e⟩:=h x pR
  refine ⟨(x,rs)::L,by rw [List.map_cons,← h1],fun y hy=>?_⟩
  rcases List.mem_cons.1 hy with w | w
  · rw [w];exact ⟨by rw [ht,e],hr⟩
  · exact h2 y w
theorem BT.tx {st:Ty.den aI} {d:Ty.den a_} (h:BT st d):∃ L,TX st d L:=by
 obtain ⟨L,h1,h2⟩:=Eb h.full
 exact ⟨L,h.live,h.disk,h1,h2,h.tail⟩
end Go.Proofs.YtohaanhjddohmaaGreatDoor.G
namespace Go.Proofs.YtohaanhjddohmaaGreatDoor.G
open Go.V
abbrev KN:=ac × Int × Int
def JT (pre:an) (p:Ty.den aC) (s:KN):KN :=
 bif p.2.2.2.1.1==3 then (bif kp p.2.2.2.1 (jK p.2.2.2.1.2.1 pre) then (eV s.1 (jK p.2.2.2.1.2.1 pre),yO p.2.2.2.1.2.1 s.2.1,oF (eV s.1 (jK p.2.2.2.1.2.1 pre)) s.2.2) else (s.1,yO p.2.2.2.1.2.1 s.2.1,s.2.2)) else
 bif p.2.2.2.1.1==5 then (bif kp p.2.2.2.1 (hF pre) then (eV s.1 (hF pre),yO p.2.2.2.1.2.1 s.2.1,oF (eV s.1 (hF pre)) s.2.2) else (s.1,yO p.2.2.2.1.2.1 s.2.1,1)) else
 (s.1,yO p.2.2.2.1.2.1 s.2.1,s.2.2)
def gr (pre:an):an→KN→KN
 | [],s=>s
 | p::r,s=>bif s.2.2 != 0 then s else gr (pre++[p]) r (JT pre p s)
end Go.Proofs.YtohaanhjddohmaaGreatDoor.G
namespace Go.Proofs.YtohaanhjddohmaaGreatDoor.G
open Go.V
def dn (d:Ty.den a_):Bool:=d.2.2.2.1
end Go.Proofs.YtohaanhjddohmaaGreatDoor.G
namespace Go.Proofs.YtohaanhjddohmaaGreatDoor.G
open Go.V
theorem EU (k:Nat) {c:fU} (h:CI c) {n:Int} (h0:0<n) (h1:n≤256):ja (aH.f k c n) (fun r=>CI r.1):=wQ (cD k h h0 h1) fun _ q=>q.1
theorem ui {k:Nat} (hk:2 ^ 50≤k) {c:fU} (h:CI c) {s:ByteArray} (hs:s.size≤1073741824):ja (fS.f k c s) (fun r=>CI r.1∧r.2.1.size≤2*s.size+3):=by
 have hx:∀ i j:Nat,(ByteArray.extract s i j).size≤s.size:=GB s
 have hb:∀ x:Int,(bytesOf [x]).size=1:=fun x=>zc [x]
 have hcat:∀ a b:ByteArray,(a++b).size=a.size+b.size:=fun a b=>ByteArray.size_append ..
 unfold fS.f fS.t
 refine bf (fun _=>?_) (fun h0=>?_)
 · refine aV (tY hk h (by omega) (by omega)) fun r q=>bC ⟨q.1,?_⟩
   have:=q.2
   show r.2.1.size≤_
   omega
 have h0:(s.size:Int)≠0:=beq_eq_false_iff_ne.1 h0
 refine aV (E6 k h (by omega)) fun r2 q2=>?_
 obtain ⟨c2,a2,b2⟩:=q2
 have hw:aF (r2.2.1+1)=r2.2.1+1:=aD (by omega) (by omega)
 have x1:=hx 0 (Int.toNat r2.2.1)
 have x2:=hx (Int.toNat (r2.2.1+1)) s.size
 have x3:=hx (Int.toNat r2.2.1) s.size
 rw [hw]
 refine aV (EU k c2 (by omega) (by omega)) fun r3 q3=>bf (fun _=>?_) (fun _=>bf (fun _=>?_) (fun _=>bf (fun _=>?_) (fun _=>?_)))
 · refine oI a2 (by omega) (oI (by omega) (by omega) (n5 (by omega) (bC ⟨q3,?_⟩)))
   show (_++_:ByteArray).size≤_
   rw [hcat]
   omega
 · refine oI a2 (by omega) (aV (ox k q3) fun r4 q4=>n5 (by rw [hb];omega) (oI a2 (by omega) (n5 (by rw [hcat,hb];omega) (bC ⟨q4.1,?_⟩))))
   show (_++_:ByteArray).size≤_
   rw [hcat,hcat,hb]
   omega
 · refine oI a2 (by omega) (bC ⟨q3,?_⟩)
   show (ByteArray.extract s 0 _).size≤_
   omega
 · refine oI a2 (by omega) (kB a2 (by omega) (aV (EU k q3 (by omega) (by omega)) fun r5 q5=>n5 (by rw [hb];omega) (oI (by omega) (by omega) (n5 (by rw [hcat,hb];omega) (bC ⟨q5,?_⟩)))))
   show (_++_:ByteArray).size≤_
   rw [hcat,hcat,hb]
   omega
end Go.Proofs.YtohaanhjddohmaaGreatDoor.G
namespace Go.Proofs.YtohaanhjddohmaaGreatDoor.G
open Go.V
theorem I9 {k:Nat} (hk:2 ^ 50≤k) (z:List Int) (y w:Int):∀ (d n:Nat) (a:Int) (c:fU) (ids:List Int),d<n→CI c→ids.length+d≤4→1≤ids.length+d →
 ja (gJ.l0 k n a (d:Int) c.1 c.2.1 c.2.2.1 z y ids w) (fun r=>CI r.1∧1≤r.2.1.2.1.length∧r.2.1.2.1.length≤4):=by
 intro d
 induction d with
 | zero =>
  intro n a c ids hn hc h1 h2
  obtain ⟨n,rfl⟩:∃ q,n=q+1:=⟨n-1,by omega⟩
  simp only [gJ.l0,gJ.b0]
  refine lj (aQ (by omega)) ?_
  refine aV (cD k hc (by omega) (by omega)) fun r hr=>?_
  exact bC ⟨hr.1,h2,h1⟩
 | succ d ih =>
  intro n a c ids hn hc h1 h2
  obtain ⟨n,rfl⟩:∃ q,n=q+1:=⟨n-1,by omega⟩
  have hw:aF (((d+1:Nat):Int)-1)=(d:Int):=by rw [aD (by omega) (by omega)];omega
  simp only [gJ.l0,gJ.b0,hw]
  refine mP (aP (by omega)) ?_
  refine aV (cD k hc (by omega) (by omega)) fun r hr=>?_
  exact uj (by omega) (by decide) (ih n _ r.1 _ (by omega) hr.1 (by rw [bJ];omega) (by rw [bJ];omega))
theorem HH {k:Nat} (hk:2 ^ 50≤k) {c:fU} (h:CI c):ja (gJ.f k c) (fun r=>CI r.1∧1≤r.2.1.2.1.length∧r.2.1.2.1.length≤4):=by
 unfold gJ.f gJ.t
 refine aV (cD k h (by omega) (by omega)) fun r q=>?_
 obtain ⟨hc,a,b⟩:=q
 rw [aD (n:=1+r.2.1) (by omega) (by omega)]
 have:=I9 hk [] 0 0 (1+r.2.1).toNat k 0 r.1 [] (by omega) hc (by simp only [List.length_nil];omega) (by simp only [List.length_nil];omega)
 rw [show (((1+r.2.1).toNat:Nat):Int)=1+r.2.1 by omega] at this
 exact this
end Go.Proofs.YtohaanhjddohmaaGreatDoor.G
namespace Go.Proofs.YtohaanhjddohmaaGreatDoor.G
open Go.V
theorem wM (k:Nat) {c:fU} (h:CI c):∃ (c':fU) (x:ByteArray),eP.f k c=some (c',(x,()))∧CI c':=by
 unfold eP.f eP.t
 obtain ⟨c',x,e,hc⟩:=Fw k h (l:=[(⟨#[97]⟩:ByteArray),(⟨#[98]⟩:ByteArray),(⟨#[99]⟩:ByteArray),(⟨#[107,101,121]⟩:ByteArray),(⟨#[108,111,110,103,110,97,109,101]⟩:ByteArray)]) (by decide) (by decide)
 rw [e,aO]
 exact ⟨_,_,rfl,hc⟩
theorem zU {k:Nat} (hk:2 ^ 50≤k) {c:fU} (h:CI c) {m:Int} (h0:0≤m) (h1:m≤200):∃ (c':fU) (x:ByteArray),b9.f k c m=some (c',(x,()))∧CI c':=by
 unfold b9.f b9.t
 obtain ⟨c1,st,e1,hc1,_,_⟩:=ie k h (n:=4) (by omega) (by omega)
 rw [e1,aO]
 simp only []
 rw [aD (n:=m+1) (by omega) (by omega)]
 obtain ⟨c2,x,e2,hc2,hx0,hx1⟩:=ie k hc1 (n:=m+1) (by omega) (by omega)
 rw [e2,aO]
 simp only []
 have key:∀ (d n:Nat) (c:fU) (out:List Int),d<n→CI c→out.length+d≤1000→∃ (c':fU) (x:ByteArray),b9.l0 k n st (d:Int) c.1 c.2.1 c.2.2.1 out=some (c',(x,()))∧CI c':=by
  intro d
  induction d with
  | zero =>
   intro n c out hn hc ho
   obtain ⟨n,rfl⟩:∃ q,n=q+1:=⟨n-1,by omega⟩
   simp only [b9.l0,b9.b0]
   rw [aQ (show ¬ ((0:Nat):Int) > 0 by omega),aN]
   exact ⟨_,_,rfl,hc⟩
  | succ d ih =>
   intro n c out hn hc ho
   obtain ⟨n,rfl⟩:∃ q,n=q+1:=⟨n-1,by omega⟩
   obtain ⟨c3,y,e3,hc3,_,_⟩:=uW k hc
   have e3':df.f k (c.1,(c.2.1,(c.2.2.1,())))=some (c3,(y,())):=e3
   have hstep:∀ z:Int,∃ (c':fU) (x:ByteArray),b9.l0 k n st (d:Int) c3.1 c3.2.1 c3.2.2.1 (out++[z])=some (c',(x,()))∧CI c':=fun z =>
    ih n c3 (out++[z]) (by omega) hc3 (by rw [vW];simp only [List.length_singleton];omega)
   simp only [b9.l0,b9.b0]
   rw [aP (show ((d+1:Nat):Int) > 0 by omega),aZ,e3',aO]
   simp only []
   have hw:aF (((d+1:Nat):Int)-1)=(d:Int):=by rw [aD (by omega) (by omega)];omega
   rw [hw,bK (by omega) (by decide),bK (by omega) (by decide),bK (by omega) (by decide),bK (by omega) (by decide)]
   cases st==1 <;> cases st==2 <;> exact hstep _
 have:=key x.toNat k c2 [] (by omega) hc2 (by simp;omega)
 rw [show ((x.toNat:Nat):Int)=x by omega] at this
 exact this
end Go.Proofs.YtohaanhjddohmaaGreatDoor.G
namespace Go.Proofs.YtohaanhjddohmaaGreatDoor.G
open Go.V
def sG (o:Option (fU × an × Unit)):Prop:=∃ (c:fU) (l:an),o=some (c,(l,()))∧CI c∧l.length≤1000
theorem KX {k:Nat} (hk:2 ^ 50≤k) {L2:ab.T2} {b x:Int} {recs:mh} {m:Nat} (hr:recs.length≤100) (hm:m≤900)
 (H:∀ (sg:Int) (c:fU) (o:an),CI c→o.length≤m→sG (L2 sg b (aF (x-1)) c.1 c.2.1 c.2.2.1 o)) :
 ∀ (d n:Nat) (sg j:Int) (c:fU) (o:an),j+(d:Int)=(recs.length:Int)→0≤j→d<n→CI c→o.length+d+1≤m→sG (ab.l4 k L2 n sg b x j c.1 c.2.1 c.2.2.1 o recs):=by
 intro d
 induction d with
 | zero =>
  intro n sg j c o h1 h2 hn hc ho
  obtain ⟨n,rfl⟩:∃ q,n=q+1:=⟨n-1,by omega⟩
  obtain ⟨c1,y,e1,hc1,_,_⟩:=ie k hc (n:=8) (by omega) (by omega)
  have e1':aH.f k (c.1,(c.2.1,(c.2.2.1,()))) 8=some (c1,(y,())):=e1
  obtain ⟨c2,z,e2,hc2⟩:=pE k hc1 (n:=4) (by omega) (by omega)
  simp only [ab.l4,ab.b4]
  rw [aQ (show ¬ j<(recs.length:Int) by omega),aN,md hk (by omega),aO,e1',aO]
  simp only []
  have hL:∀ (sg:Int) (p:Ty.den aC),sG (L2 sg b (aF (x-1)) c2.1 c2.2.1 c2.2.2.1 (o++[p])):=fun sg p=>H sg c2 (o++[p]) hc2 (by rw [bJ];omega)
  cases y==0 with
  | true=>exact H sg c1 o hc1 (by omega)
  | false =>
   rw [aN]
   cases y==1 with
   | true =>
    rw [aZ,bK (by omega) (by decide),e2,aO]
    cases z
    · exact hL _ _
    · exact hL _ _
   | false =>
    rw [aN,bK (by omega) (by decide),e2,aO]
    cases z
    · exact hL _ _
    · exact hL _ _
 | succ d ih =>
  intro n sg j c o h1 h2 hn hc ho
  obtain ⟨n,rfl⟩:∃ q,n=q+1:=⟨n-1,by omega⟩
  simp only [ab.l4,ab.b4]
  rw [aP (show j<(recs.length:Int) by omega),aZ,aG h2 (by omega),bK (by omega) (by decide),aD (n:=j+1) (by omega) (by omega)]
  exact ih n sg (j+1) c _ (by omega) (by omega) (by omega) hc (by rw [bJ];omega)
theorem Ke {k:Nat} (hk:2 ^ 50≤k) {L2:ab.T2} {b x:Int} {m:Nat} (hm:m≤900)
 (H:∀ (sg:Int) (c:fU) (o:an),CI c→o.length≤m→sG (L2 sg b (aF (x-1)) c.1 c.2.1 c.2.2.1 o)) :
 ∀ (d n:Nat) (sg:Int) (c:fU) (o:an) (recs:mh),d<n→CI c→recs.length+d≤4→o.length+5≤m→sG (ab.l3 k L2 n sg b x (d:Int) c.1 c.2.1 c.2.2.1 o recs):=by
 intro d
 induction d with
 | zero =>
  intro n sg c o recs hn hc hr ho
  obtain ⟨n,rfl⟩:∃ q,n=q+1:=⟨n-1,by omega⟩
  simp only [ab.l3,ab.b3]
  rw [aQ (show ¬ ((0:Nat):Int) > 0 by omega),aN]
  exact KX hk (by omega) hm H recs.length k sg 0 c o (by omega) (by omega) (by omega) hc (by omega)
 | succ d ih =>
  intro n sg c o recs hn hc hr ho
  obtain ⟨n,rfl⟩:∃ q,n=q+1:=⟨n-1,by omega⟩
  obtain ⟨c1,y1,e1,hc1⟩:=wM k hc
  have e1':eP.f k (c.1,(c.2.1,(c.2.2.1,())))=some (c1,(y1,())):=e1
  obtain ⟨c2,y2,e2,hc2⟩:=zU hk hc1 (m:=4) (by omega) (by omega)
  obtain ⟨c3,y3,e3,hc3⟩:=pE k hc2 (n:=3) (by omega) (by omega)
  obtain ⟨c4,y4,e4,hc4⟩:=wM k hc3
  have hw:aF (((d+1:Nat):Int)-1)=(d:Int):=by rw [aD (by omega) (by omega)];omega
  simp only [ab.l3,ab.b3]
  rw [aP (show ((d+1:Nat):Int) > 0 by omega),aZ,e1',aO]
  simp only []
  rw [e2,aO]
  simp only []
  rw [e3,aO,hw]
  cases y3 with
  | true =>
   simp only [aZ]
   rw [e4,aO,bK (by omega) (by decide)]
   exact ih n sg c4 o _ (by omega) hc4 (by rw [bJ];omega) ho
  | false =>
   simp only [aN]
   rw [bK (by omega) (by decide)]
   exact ih n sg c3 o _ (by omega) hc3 (by rw [bJ];omega) ho
theorem Kh {k:Nat} (hk:2 ^ 50≤k):∀ (d n:Nat) (sg b:Int) (c:fU) (o:an),d<n→CI c→d≤10→o.length+10*d≤800→sG (ab.l2 k n sg b (d:Int) c.1 c.2.1 c.2.2.1 o):=by
 intro d
 induction d with
 | zero =>
  intro n sg b c o hn hc hd ho
  obtain ⟨n,rfl⟩:∃ q,n=q+1:=⟨n-1,by omega⟩
  simp only [ab.l2,ab.b2]
  rw [aQ (show ¬ ((0:Nat):Int) > 0 by omega),aN]
  exact ⟨c,o,rfl,hc,by omega⟩
 | succ d ih =>
  intro n sg b c o hn hc hd ho
  obtain ⟨n,rfl⟩:∃ q,n=q+1:=⟨n-1,by omega⟩
  obtain ⟨c1,y1,e1,hc1,_,_⟩:=ie k hc (n:=2) (by omega) (by omega)
  have e1':aH.f k (c.1,(c.2.1,(c.2.2.1,()))) 2=some (c1,(y1,())):=e1
  obtain ⟨c2,y2,e2,hc2,hy0,hy1⟩:=ie k hc1 (n:=4) (by omega) (by omega)
  simp only [ab.l2,ab.b2]
  rw [aP (show ((d+1:Nat):Int) > 0 by omega),aZ,e1',aO]
  simp only []
  rw [e2,aO]
  simp only []
  have h3:=Ke hk (L2:=ab.l2 k n) (b:=aF (aF (b+1)+y1)) (x:=((d+1:Nat):Int)) (m:=o.length+5) (by omega) (fun sg c o' hc' ho'=>by
   rw [show aF (((d+1:Nat):Int)-1)=(d:Int) by rw [aD (by omega) (by omega)];omega]
   exact ih n sg _ c o' (by omega) hc' (by omega) (by omega)) y2.toNat k sg c2 o [] (by omega) hc2 (by simp;omega) (by omega)
  rw [show ((y2.toNat:Nat):Int)=y2 by omega] at h3
  exact h3
theorem Gm {k:Nat} (hk:2 ^ 50≤k) (sg b:Int) {x:Int} (h0:0≤x) (h1:x<5) (c:fU) {o:an} (hc:CI c) (ho:o.length≤100):sG (ab.l2 k k sg b x c.1 c.2.1 c.2.2.1 o):=by
 have:=Kh hk x.toNat k sg b c o (by omega) hc (by omega) (by omega)
 rw [show ((x.toNat:Nat):Int)=x by omega] at this
 exact this
theorem Kf {k:Nat} (hk:2 ^ 50≤k) {b:Int} {recs:mh} (hr:recs.length≤10) :
 ∀ (d n:Nat) (sg j:Int) (c:fU) (o:an),j+(d:Int)=(recs.length:Int)→0≤j→d<n→CI c→o.length+d≤50→sG (ab.l1 k n sg b j c.1 c.2.1 c.2.2.1 o recs):=by
 intro d
 induction d with
 | zero =>
  intro n sg j c o h1 h2 hn hc ho
  obtain ⟨n,rfl⟩:∃ q,n=q+1:=⟨n-1,by omega⟩
  obtain ⟨c1,y,e1,hc1⟩:=pE k hc (n:=8) (by omega) (by omega)
  have e1':bB.f k (c.1,(c.2.1,(c.2.2.1,()))) 8=some (c1,(y,())):=e1
  obtain ⟨c2,z,e2,hc2,hz0,hz1⟩:=ie k hc1 (n:=5) (by omega) (by omega)
  simp only [ab.l1,ab.b1]
  rw [aQ (show ¬ j<(recs.length:Int) by omega),aN,e1',aO]
  cases y with
  | false =>
   simp only [ot,aZ]
   rw [md hk (by omega),aO,bK (by omega) (by decide),e2,aO]
   exact Gm hk 2 b hz0 hz1 c2 hc2 (by rw [bJ];omega)
  | true =>
   simp only [fV,aN]
   rw [e2,aO]
   exact Gm hk 2 b hz0 hz1 c2 hc2 (by omega)
 | succ d ih =>
  intro n sg j c o h1 h2 hn hc ho
  obtain ⟨n,rfl⟩:∃ q,n=q+1:=⟨n-1,by omega⟩
  simp only [ab.l1,ab.b1]
  rw [aP (show j<(recs.length:Int) by omega),aZ,aG h2 (by omega),bK (by omega) (by decide),aD (n:=j+1) (by omega) (by omega)]
  exact ih n sg (j+1) c _ (by omega) (by omega) (by omega) hc (by rw [bJ];omega)
theorem KW {k:Nat} (hk:2 ^ 50≤k):∀ (d n:Nat) (sg b:Int) (c:fU) (recs:mh),d<n→CI c→recs.length+d≤10→sG (ab.l0 k n sg b (d:Int) c.1 c.2.1 c.2.2.1 [] recs):=by
 intro d
 induction d with
 | zero =>
  intro n sg b c recs hn hc hr
  obtain ⟨n,rfl⟩:∃ q,n=q+1:=⟨n-1,by omega⟩
  simp only [ab.l0,ab.b0]
  rw [aQ (show ¬ ((0:Nat):Int) > 0 by omega),aN]
  exact Kf hk (by omega) recs.length k sg 0 c [] (by omega) (by omega) (by omega) hc (by simp;omega)
 | succ d ih =>
  intro n sg b c recs hn hc hr
  obtain ⟨n,rfl⟩:∃ q,n=q+1:=⟨n-1,by omega⟩
  obtain ⟨c1,y1,e1,hc1⟩:=wM k hc
  have e1':eP.f k (c.1,(c.2.1,(c.2.2.1,())))=some (c1,(y1,())):=e1
  obtain ⟨c2,y2,e2,hc2⟩:=zU hk hc1 (m:=4) (by omega) (by omega)
  have hw:aF (((d+1:Nat):Int)-1)=(d:Int):=by rw [aD (by omega) (by omega)];omega
  simp only [ab.l0,ab.b0]
  rw [aP (show ((d+1:Nat):Int) > 0 by omega),aZ,e1',aO]
  simp only []
  rw [e2,aO,bK (by omega) (by decide),hw]
  exact ih n sg _ c2 _ (by omega) hc2 (by rw [bJ];omega)
theorem C5 {k:Nat} (hk:2 ^ 50≤k) {c:fU} (hc:CI c):sG (ab.f k c):=by
 unfold ab.f ab.t
 obtain ⟨c1,y1,e1,hc1⟩:=pE k hc (n:=3) (by omega) (by omega)
 rw [e1,aO]
 cases y1 with
 | true =>
  simp only [aZ]
  obtain ⟨c2,z,e2,hc2,hz0,hz1⟩:=ie k hc1 (n:=3) (by omega) (by omega)
  rw [e2,aO]
  have:=KW hk z.toNat k 1 0 c2 [] (by omega) hc2 (by simp;omega)
  rw [show ((z.toNat:Nat):Int)=z by omega] at this
  exact this
 | false =>
  simp only [aN]
  obtain ⟨c2,z,e2,hc2,hz0,hz1⟩:=ie k hc1 (n:=5) (by omega) (by omega)
  rw [e2,aO]
  exact Gm hk 1 0 hz0 hz1 c2 hc2 (by simp)
end Go.Proofs.YtohaanhjddohmaaGreatDoor.G
namespace Go.Proofs.YtohaanhjddohmaaGreatDoor.G
open Go.V
theorem p5:∀ (l:bO) (f:Ty.den bR),dS (gw l f)=dS l+f.1.size
 | [],f=>by unfold gw;rw [iE,Nat.add_comm]
 | g::l,f=>by
  unfold gw
  cases mv f.1 g.1
  · rw [aN,iE,iE,p5 l f];omega
  · rw [aZ,iE,iE];omega
theorem I6 (n:Int):(aB bz n).size≤1000:=by
 unfold aB
 by_cases h:(1:Int)≤n∧n≤100000
 · rw [aP h,aZ,ByteArray.size_append]
   have:=lJ (n:=n) (by omega) (by omega)
   have:bz.size=4:=rfl
   omega
 · rw [aQ h]
   exact Nat.zero_le _
theorem Ff (d:Ty.den a_) (s:ByteArray):(qS d s).1.1=d.1∨(qS d s).1.1=gw d.1 (s,(ByteArray.empty,(0,()))):=by
 have hb:(kA d).1.1=d.1:=by
  unfold kA
  cases !fh d with
  | true=>rfl
  | false =>
   cases d.2.2.2.1 with
   | true=>rfl
   | false =>
    cases d.2.2.1==0 with
    | true=>rfl
    | false=>cases decide ((d.2.2.1:Int) > 0) <;> rfl
 unfold qS ii
 cases (kA d).2 != 0 with
 | true=>exact .inl hb
 | false =>
  show (u9 s d.1 d.2.1).1=_∨(u9 s d.1 d.2.1).1=_
  unfold u9
  cases !jt s with
  | true=>exact .inl rfl
  | false =>
   cases (bg d.1 s).isSome with
   | true=>exact .inl rfl
   | false =>
    cases decide ((d.1.length:Int)≥130) with
    | true=>exact .inl rfl
    | false=>exact .inr rfl
structure DB (d:Ty.den a_):Prop where
 l:d.1.length≤200
 u:cJ d.1≤2000000
 n:dS d.1≤20000
theorem Kg {k:Nat} (hk:2 ^ 50≤k):∀ (m n:Nat) (s:ByteArray) (i:Int) (c:fU) (recs:mh),m<n→i+(m:Int)=4→0≤i→CI c→s.size+211*m≤844→recs.length+m≤10 →
 ja (dl.l0 k n s i c.1 c.2.1 c.2.2.1 recs [(⟨#[97]⟩:ByteArray),(⟨#[98]⟩:ByteArray),(⟨#[99]⟩:ByteArray),(⟨#[107,101,121]⟩:ByteArray)]) (fun r=>CI r.1∧r.2.1.size≤4000):=by
 intro m
 induction m with
 | zero =>
  intro n s i c recs hn hi h0 hc hs hr
  obtain ⟨n,rfl⟩:∃ q,n=q+1:=⟨n-1,by omega⟩
  simp only [dl.l0,dl.b0]
  refine lj (aQ (by show ¬ i<(4:Int);omega)) ?_
  refine aV (cD k hc (by omega) (by omega)) fun r6 q6=>?_
  refine cM (md hk (by omega) _ _) ?_
  refine aV (l6 k q6.1 (by omega) (by omega)) fun r8 q8=>?_
  have fin:∀ r:Ty.den bU,ja ((bL.f k r).bind fun r9=>((d9.f k r9.1).bind fun r10=>(jk s r10.1 ((bB.f k r8.1 8).bind fun r11=>(bif r11.2.1 then ((fS.f k r11.1 (s++r10.1)).bind fun r12=>(some r12)) else (some (r11.1,((s++r10.1),())))))))) (fun r:Ty.den ai × ByteArray × Unit=>CI r.1∧r.2.1.size≤4000):=fun r=>by
   refine cM (cK hk r) ?_
   refine cM (iz hk _) ?_
   have hf:=i7 (aU r)
   have hz:(s++ah (aU r)).size=s.size+(ah (aU r)).size:=ByteArray.size_append ..
   refine n5 (by show s.size+(ah (aU r)).size≤_;omega) ?_
   refine aV (l6 k q8 (by omega) (by omega)) fun r11 q11=>?_
   refine bf (fun _=>?_) (fun _=>bC ⟨q11,by show (s++ah (aU r)).size≤4000;omega⟩)
   refine aV (ui hk q11 (s:=s++ah (aU r)) (by omega)) fun r12 q12=>bC ⟨q12.1,?_⟩
   have:=q12.2
   omega
  exact bf (fun _=>fin _) (fun _=>fin _)
 | succ m ih =>
  intro n s i c recs hn hi h0 hc hs hr
  obtain ⟨n,rfl⟩:∃ q,n=q+1:=⟨n-1,by omega⟩
  have hw:aF (i+1)=i+1:=aD (by omega) (by omega)
  simp only [dl.l0,dl.b0,hw]
  refine mP (aP (by show i<(4:Int);omega)) ?_
  refine aV (l6 k hc (by omega) (by omega)) fun r1 q1=>?_
  refine bf (fun _=>?_) (fun _=>ih n s (i+1) r1.1 recs (by omega) (by omega) (by omega) q1 (by omega) (by omega))
  refine aV (cD k q1 (by omega) (by omega)) fun r2 q2=>?_
  refine kB h0 (by show i<(4:Int);omega) ?_
  refine aV (tY hk q2.1 (by omega) (by omega)) fun r3 q3=>?_
  refine uj (by omega) (by decide) ?_
  refine cM (cK hk _) ?_
  refine cM (iz hk _) ?_
  simp only []
  generalize ((4,((aF (1+r2.2.1)),((List.getD [(⟨#[97]⟩:ByteArray),(⟨#[98]⟩:ByteArray),(⟨#[99]⟩:ByteArray),(⟨#[107,101,121]⟩:ByteArray)] (Int.toNat i) (Ty.dflt .str)),(r3.2.1,(0,(0,())))))):Ty.den bU)=r
  have hf:=i7 (aU r)
  have hz:(s++ah (aU r)).size=s.size+(ah (aU r)).size:=ByteArray.size_append ..
  refine n5 (by omega) ?_
  exact ih n (s++ah (aU r)) (i+1) r3.1 _ (by omega) (by omega) (by omega) q3.1 (by omega) (by rw [bJ];omega)
theorem CL {k:Nat} (hk:2 ^ 50≤k) {c:fU} (h:CI c):ja (dl.f k c) (fun r=>CI r.1∧r.2.1.size≤4000):=by
 unfold dl.f dl.t
 exact Kg hk 4 k ⟨#[]⟩ 0 c [] (by omega) (by omega) (by omega) h (by decide) (by decide)
theorem DP {k:Nat} (hk:2 ^ 50≤k) {c:fU} (h:CI c):ja (ab.f k c) (fun r=>CI r.1∧r.2.1.length≤1000):=by
 obtain ⟨c',l,e,h1,h2⟩:=C5 hk h
 exact ⟨_,e,h1,h2⟩
abbrev Ki:=Ty.den ai × Ty.den a_ × Unit
theorem Ee {k:Nat} (hk:2 ^ 50≤k) {P:Ki→Prop} {L0:bq.T0} {i:Int} {ids:List Int} {fs:bO} {z:bO} {z1 z2:Int} {z3:Bool} {cap fu nx:Int} {dw:Bool} (h0:0≤i) (h1:i<(ids.length:Int)) (hf:fs.length≤100)
 (hL:∀ (c:fU) (fs':bO),CI c→fs'.length≤fs.length+2→fs.length+1≤fs'.length→cJ fs'≤cJ fs+431000→dS fs'≤dS fs+2000→ja (L0 (aF (i+1)) c.1 c.2.1 c.2.2.1 z z1 z2 z3 fs' cap fu dw ids nx) P)
 {c:fU} (hc:CI c) {t:ByteArray} (ht:t.size≤430003) :
 ja (ba i (List.length ids:Int) ((aT.f k (List.getD ids (Int.toNat i) (Ty.dflt (.int .i64)))).bind fun r10=>((b7.f k fs (r10.1,(t,((ByteArray.size t:Int),())))).bind fun r11=>(ba i (List.length ids:Int) ((cv.f k (List.getD ids (Int.toNat i) (Ty.dflt (.int .i64))) t).bind fun r12=>(bif r12.2.1 then
  ((bB.f k c 3).bind fun r13=>(bif (!r13.2.1) then ((cH.f k r12.1).bind fun r14=>(ba i (List.length ids:Int) ((bo.f k (List.getD ids (Int.toNat i) (Ty.dflt (.int .i64)))).bind fun r15=>((b7.f k r11.1 (r15.1,(r14.1,((ByteArray.size r14.1:Int),())))).bind fun r16=>(L0 (aF (i+1)) r13.1.1 r13.1.2.1 r13.1.2.2.1 z z1 z2 z3 r16.1 cap fu dw ids nx)))))
  else (L0 (aF (i+1)) r13.1.1 r13.1.2.1 r13.1.2.2.1 z z1 z2 z3 r11.1 cap fu dw ids nx)))
  else (L0 (aF (i+1)) c.1 c.2.1 c.2.2.1 z z1 z2 z3 r11.1 cap fu dw ids nx))))))) P:=by
 refine kB h0 h1 ?_
 refine cM (bV hk _) ?_
 generalize List.getD ids (Int.toNat i) (Ty.dflt (.int .i64))=id
 refine cM (k0 hk _ (by omega)) ?_
 refine kB h0 h1 ?_
 refine cM (oa hk id (by omega)) ?_
 simp only []
 have s1:=wD id
 have s2:=I6 id
 have a1:=pc fs ((aB aK id,(t,((ByteArray.size t:Int),()))):Ty.den bR)
 have a2:cJ (gw fs ((aB aK id,(t,((ByteArray.size t:Int),()))):Ty.den bR))=cJ fs+t.size:=nO fs _
 have a3:dS (gw fs ((aB aK id,(t,((ByteArray.size t:Int),()))):Ty.den bR))=dS fs+(aB aK id).size:=p5 fs _
 generalize gw fs ((aB aK id,(t,((ByteArray.size t:Int),()))):Ty.den bR)=g at a1 a2 a3 ⊢
 have one:∀ c:fU,CI c→ja (L0 (aF (i+1)) c.1 c.2.1 c.2.2.1 z z1 z2 z3 g cap fu dw ids nx) P:=fun c hc=>hL c g hc (by omega) (by omega) (by omega) (by omega)
 refine bf (fun _=>?_) (fun _=>one c hc)
 refine aV (l6 k hc (by omega) (by omega)) fun r13 q13=>?_
 refine bf (fun _=>?_) (fun _=>one r13.1 q13)
 refine cM (jv hk _) ?_
 refine kB h0 h1 ?_
 refine cM (iD hk id) ?_
 have s3:=mN (fp id t).1
 simp only []
 generalize bu (fp id t).1=u at s3 ⊢
 have b1:=pc g ((aB bz id,(u,((ByteArray.size u:Int),()))):Ty.den bR)
 have b2:cJ (gw g ((aB bz id,(u,((ByteArray.size u:Int),()))):Ty.den bR))=cJ g+u.size:=nO g _
 have b3:dS (gw g ((aB bz id,(u,((ByteArray.size u:Int),()))):Ty.den bR))=dS g+(aB bz id).size:=p5 g _
 refine cM (k0 hk _ (by omega)) ?_
 exact hL r13.1 _ q13 (by show (gw g _).length≤_;omega) (by show _≤(gw g _).length;omega) (by show cJ (gw g _)≤_;omega) (by show dS (gw g _)≤_;omega)
theorem Jk {k:Nat} (hk:2 ^ 50≤k) {P:Ki→Prop} {L0:bq.T0} {i:Int} {ids:List Int} {fs:bO} {z:bO} {z1 z2:Int} {z3:Bool} {cap fu nx:Int} {dw:Bool} (h0:0≤i) (h1:i<(ids.length:Int)) (hf:fs.length≤100)
 (hL:∀ (c:fU) (fs':bO),CI c→fs'.length≤fs.length+2→fs.length+1≤fs'.length→cJ fs'≤cJ fs+431000→dS fs'≤dS fs+2000→ja (L0 (aF (i+1)) c.1 c.2.1 c.2.2.1 z z1 z2 z3 fs' cap fu dw ids nx) P)
 {pl:an} (hp:pl.length≤1000):∀ (m n:Nat) (s:ByteArray) (j:Int) (c:fU),m<n→0≤j→j+(m:Int)=(pl.length:Int)→CI c→s.size+211*m≤215000→ja (bq.l1 k L0 n i s j c.1 c.2.1 c.2.2.1 z z1 z2 z3 fs cap fu dw ids nx pl) P:=by
 intro m
 induction m with
 | zero =>
  intro n s j c hn hj he hc hs
  obtain ⟨n,rfl⟩:∃ q,n=q+1:=⟨n-1,by omega⟩
  simp only [bq.l1,bq.b1]
  refine lj (aQ (by omega)) ?_
  refine aV (l6 k hc (by omega) (by omega)) fun r8 q8=>?_
  refine bf (fun _=>?_) (fun _=>Ee hk h0 h1 hf hL q8 (by omega))
  refine aV (ui hk q8 (s:=s) (by omega)) fun r9 q9=>?_
  exact Ee hk h0 h1 hf hL q9.1 (by have:=q9.2;omega)
 | succ m ih =>
  intro n s j c hn hj he hc hs
  obtain ⟨n,rfl⟩:∃ q,n=q+1:=⟨n-1,by omega⟩
  have hw:aF (j+1)=j+1:=aD (by omega) (by omega)
  simp only [bq.l1,bq.b1,hw]
  refine mP (aP (by omega)) (kB hj (by omega) ?_)
  refine cM (cK hk _) ?_
  refine cM (iz hk _) ?_
  simp only []
  generalize (List.getD pl (Int.toNat j) (Ty.dflt aC)).2.2.2.1=r
  have hfr:=i7 (aU r)
  have hz:(s++ah (aU r)).size=s.size+(ah (aU r)).size:=ByteArray.size_append ..
  exact n5 (by omega) (ih n (s++ah (aU r)) (j+1) c (by omega) (by omega) (by omega) hc (by omega))
theorem J_ {k:Nat} (hk:2 ^ 50≤k) {ids:List Int} (hi:ids.length≤4) (hi1:1≤ids.length) (z:bO) (z1 z2:Int) (z3:Bool) (cap fu nx:Int) (dw:Bool):∀ (m n:Nat) (i:Nat) (c:fU) (fs:bO),m<n→i+m=ids.length→CI c→fs.length≤2*i→i≤fs.length→cJ fs≤431000*i→dS fs≤2000*i →
 ja (bq.l0 k n (i:Int) c.1 c.2.1 c.2.2.1 z z1 z2 z3 fs cap fu dw ids nx) (fun r=>CI r.1∧DB r.2.1):=by
 intro m
 induction m with
 | zero =>
  intro n i c fs hn he hc b1 b2 b3 b4
  obtain ⟨n,rfl⟩:∃ q,n=q+1:=⟨n-1,by omega⟩
  simp only [bq.l0,bq.b0]
  refine lj (aQ (by omega)) ?_
  refine cM (jw hk _) ?_
  have hv:=xK ((nx,(ids,())):Ty.den bA)
  simp only []
  generalize au ((nx,(ids,())):Ty.den bA)=t at hv ⊢
  refine aV (cD k hc (by omega) (by omega)) fun r25 q25=>?_
  have mq:∀ (g:bO) (u:ByteArray) (c:fU) (y:Int × Int × Bool × Unit),CI c→g.length≤100→cJ g≤1900000→dS g≤10000→u.size≤1000→ja ((b7.f k g ((⟨#[108,105,118,101]⟩:ByteArray),(u,((ByteArray.size u:Int),())))).bind fun r27=>(some (c,((r27.1,y),())))) (fun r:Ki=>CI r.1∧DB r.2.1):=fun g u c y hc g1 g2 g3 g4=>by
   refine cM (k0 hk _ (by omega)) (bC ⟨hc,?_⟩)
   have a1:=pc g (((⟨#[108,105,118,101]⟩:ByteArray),(u,((ByteArray.size u:Int),()))):Ty.den bR)
   have a2:cJ (gw g (((⟨#[108,105,118,101]⟩:ByteArray),(u,((ByteArray.size u:Int),()))):Ty.den bR))=cJ g+u.size:=nO g _
   have a3:dS (gw g (((⟨#[108,105,118,101]⟩:ByteArray),(u,((ByteArray.size u:Int),()))):Ty.den bR))=dS g+4:=p5 g _
   exact ⟨by show (gw g _).length≤200;omega,by show cJ (gw g _)≤2000000;omega,by show dS (gw g _)≤20000;omega⟩
  refine bf (fun _=>?_) (fun _=>bf (fun _=>?_) (fun _=>bf (fun _=>?_) (fun _=>bf (fun _=>?_) (fun _=>bf (fun _=>?_) (fun _=>?_)))))
  · refine aV (ui hk q25.1 (s:=t) (by omega)) fun r26 q26=>?_
    exact mq fs r26.2.1 r26.1 _ q26.1 (by omega) (by omega) (by omega) (by have:=q26.2;omega)
  · refine aV (cD k q25.1 (by omega) (by omega)) fun r28 q28=>?_
    obtain ⟨hc28,p1,p2⟩:=q28
    obtain ⟨a,ha⟩:∃ a:Nat,r28.2.1=(a:Int):=⟨r28.2.1.toNat,by omega⟩
    rw [ha]
    refine cM (lf k (l:=fs) (n:=a) (by omega) (by omega)) ?_
    have e1:(fs.take a++fs.drop (a+1)).length≤fs.length:=by rw [vW,List.length_take,List.length_drop];omega
    have e2:=nv (fs.take a) (fs.drop (a+1))
    have e3:=pH (fs.take a) (fs.drop (a+1))
    have e4:=nv (fs.take (a+1)) (fs.drop (a+1))
    have e5:=pH (fs.take (a+1)) (fs.drop (a+1))
    rw [List.take_append_drop] at e4 e5
    have e6:fs.take (a+1)=fs.take a++[fs[a]'(by omega)]:=List.take_succ_eq_append_getElem (by omega)
    have e7:=nv (fs.take a) [fs[a]'(by omega)]
    have e8:=pH (fs.take a) [fs[a]'(by omega)]
    rw [← e6] at e7 e8
    exact mq _ t r28.1 _ hc28 (by show (fs.take a++fs.drop (a+1)).length≤100;omega) (by show cJ (fs.take a++fs.drop (a+1))≤_;omega) (by show dS (fs.take a++fs.drop (a+1))≤_;omega) (by omega)
  · refine cM (nr hk (d:=(fs,(cap,(fu,(dw,()))))) ⟨by show fs.length≤_;omega,by show cJ fs≤_;omega,by show dS fs≤_;omega⟩ (by decide)) ?_
    have hcf:=Ff (fs,(cap,(fu,(dw,())))) (⟨#[115,101,103,57,57]⟩:ByteArray)
    simp only [] at hcf ⊢
    generalize (qS (fs,(cap,(fu,(dw,())))) (⟨#[115,101,103,57,57]⟩:ByteArray)).1=y at hcf ⊢
    have hy:y.1.length≤9∧cJ y.1≤431000*i∧dS y.1≤2000*i+5:=by
     rcases hcf with w | w
     · rw [w];exact ⟨by omega,b3,by omega⟩
     · have a1:=pc fs (((⟨#[115,101,103,57,57]⟩:ByteArray),(ByteArray.empty,(0,()))):Ty.den bR)
       have a2:cJ (gw fs (((⟨#[115,101,103,57,57]⟩:ByteArray),(ByteArray.empty,(0,()))):Ty.den bR))=cJ fs+0:=nO fs _
       have a3:dS (gw fs (((⟨#[115,101,103,57,57]⟩:ByteArray),(ByteArray.empty,(0,()))):Ty.den bR))=dS fs+5:=p5 fs _
       rw [w]
       exact ⟨by omega,by omega,by omega⟩
    exact mq y.1 t r25.1 _ q25.1 (by omega) (by omega) (by omega) (by omega)
  · exact bC ⟨q25.1,⟨by show fs.length≤200;omega,by show cJ fs≤2000000;omega,by show dS fs≤20000;omega⟩⟩
  · refine aV (cD k q25.1 (by omega) (by omega)) fun r33 q33=>?_
    exact mq fs t r33.1 _ q33.1 (by omega) (by omega) (by omega) (by omega)
  · exact mq fs t r25.1 _ q25.1 (by omega) (by omega) (by omega) (by omega)
 | succ m ih =>
  intro n i c fs hn he hc b1 b2 b3 b4
  obtain ⟨n,rfl⟩:∃ q,n=q+1:=⟨n-1,by omega⟩
  have hw:aF ((i:Int)+1)=((i+1:Nat):Int):=by rw [aD (by omega) (by omega)];omega
  have hL:∀ (c:fU) (fs':bO),CI c→fs'.length≤fs.length+2→fs.length+1≤fs'.length→cJ fs'≤cJ fs+431000→dS fs'≤dS fs+2000→ja (bq.l0 k n (aF ((i:Int)+1)) c.1 c.2.1 c.2.2.1 z z1 z2 z3 fs' cap fu dw ids nx) (fun r=>CI r.1∧DB r.2.1):=fun c fs' hc g1 g2 g3 g4=>by
   rw [hw]
   exact ih n (i+1) c fs' (by omega) (by omega) hc (by omega) (by omega) (by omega) (by omega)
  simp only [bq.l0,bq.b0]
  refine mP (aP (by omega)) ?_
  refine aV (DP hk hc) fun r3 q3=>?_
  have hone:∀ (c:fU) (s:ByteArray) (pl:an),CI c→pl.length≤1000→s.size+211*pl.length≤215000→ja (bq.l1 k (bq.l0 k n) k (i:Int) s 0 c.1 c.2.1 c.2.2.1 z z1 z2 z3 fs cap fu dw ids nx pl) (fun r=>CI r.1∧DB r.2.1):=fun c s pl hc hp hs =>
   Jk hk (by omega) (by omega) (by omega) hL hp pl.length k s 0 c (by omega) (by omega) (by omega) hc hs
  have h3:=q3.2
  refine bf (fun _=>?_) (fun _=>hone r3.1 ⟨#[]⟩ r3.2.1 q3.1 h3 (by show 0+211*r3.2.1.length≤215000;omega))
  refine aV (l6 k q3.1 (by omega) (by omega)) fun r4 q4=>?_
  refine bf (fun _=>?_) (fun _=>hone r4.1 ⟨#[]⟩ r3.2.1 q4 h3 (by show 0+211*r3.2.1.length≤215000;omega))
  refine aV (CL hk q4) fun r5 q5=>?_
  exact hone r5.1 r5.2.1 [] q5.1 (Nat.zero_le _) (by have:=q5.2;show _+0≤215000;omega)
theorem FV {k:Nat} (hk:2 ^ 50≤k) {c:fU} (h:CI c):ja (bq.f k c) (fun r=>CI r.1∧DB r.2.1):=by
 unfold bq.f bq.t
 refine cM (vL k (by omega) (by omega)) ?_
 refine aV (HH hk h) fun r2 q2=>?_
 exact J_ hk q2.2.2 q2.2.1 [] 0 0 false 100000 (-1) r2.2.1.1 false r2.2.1.2.1.length k 0 r2.1 [] (by have:=q2.2.2;omega) (Nat.zero_add _) q2.1 (Nat.le_refl _) (Nat.le_refl _) (Nat.le_refl _) (Nat.le_refl _)
end Go.Proofs.YtohaanhjddohmaaGreatDoor.G
namespace Go.Proofs.YtohaanhjddohmaaGreatDoor.G
open Go.V
theorem Bj {k:Nat} (hk:2 ^ 50≤k) {code:List Int} (hl:code.length≤1048576):ja (i8.f k code) (fun r=>DB r.1):=by
 unfold i8.f i8.t
 refine aV (Hc hk hl) fun r1 q1=>?_
 refine aV (FV hk q1) fun r2 q2=>?_
 refine aV (l6 k q2.1 (by omega) (by omega)) fun r3 q3=>?_
 refine bf (fun _=>?_) (fun _=>bC q2.2)
 refine aV (Gp hk q3) fun r4 q4=>bC ?_
 have h1:=q4.2.disk.l
 have h2:=q4.2.disk.u
 have h3:=q4.2.disk.n
 exact ⟨by show r4.2.2.1.1.length≤200;omega,by show cJ r4.2.2.1.1≤2000000;omega,by show dS r4.2.2.1.1≤20000;omega⟩
theorem AX {d x:Ty.den a_} {code:Int} (h3:(aS d lA).2=true→code=0→LK d x) (h12:(aS d lA).2=true→d.2.2.2.1=false→((gl d).1=false∨(gl d).2.1 > 0)→code=3) {o:Option (Bool × Unit)}
 (ho:∀ (A L K D c3 M c0 M0 T1 X1 X2 X3:Bool),A=(aS d lA).2→L=(gl d).1→K=fh d→D=d.2.2.2.1→c3=(code != 3)→M=decide ((gl d).2.1 > 0)→c0=(code != 0)→M0=((gl d).2.1==0)→T1=decide ((gl d).2.2.1≤1) →
  X1=((gl x).2.2.2.2.2.1==(gl d).2.2.2.2.2.1)→X2=((gl x).2.2.1==0)→X3=((gl x).2.2.2.2.1==0) →
  (A=false→o=some (true,()))∧(A=true→c0=false→L=true→M=false→M0=true→T1=true→X1=true→X2=true→X3=true→o=some (true,()))∧(A=true→c0=true→(D=false→(L=false∨M=true)→c3=false)→o=some (true,()))):o=some (true,()):=by
 obtain ⟨g1,g2,g3⟩:=ho _ _ _ _ _ _ _ _ _ _ _ _ rfl rfl rfl rfl rfl rfl rfl rfl rfl rfl rfl rfl
 cases hA:(aS d lA).2 with
 | false=>exact g1 hA
 | true =>
  by_cases hc:code=0
  · have lk:=h3 hA hc
    exact g2 hA (by rw [hc];rfl) lk.live (aQ (by rw [lk.missing];decide)) (by rw [lk.missing];rfl) (aP lk.torn) (by rw [lk.records];exact beq_self_eq_true _) (by rw [lk.torn2];rfl) (by rw [lk.orphans];rfl)
  · refine g3 hA (bne_iff_ne.2 hc) fun hD hb=>?_
    rw [h12 hA hD (hb.imp id of_decide_eq_true)]
    rfl
theorem DZ {k:Nat} (hk:2 ^ 50≤k) (code:List Int):ea.f k code=some (true,()):=by
 refine JL ?_
 unfold ea.f ea.t
 have hbig:p6.f k code=some (decide ((code.length:Int) > 1048576),()):=rfl
 refine cM hbig ?_
 refine bf (fun _=>bC rfl) fun hb=>?_
 have hl:code.length≤1048576:=by have:=of_decide_eq_false hb;omega
 refine aV (Bj hk hl) fun r2 q2=>?_
 obtain ⟨d,⟨⟩⟩:=r2
 have hd:DB d:=q2
 have d1:=hd.l
 have d2:=hd.u
 have d3:=hd.n
 have hx:(jP d).2.1.1.length≤200∧cJ (jP d).2.1.1≤2000000∧dS (jP d).2.1.1≤20000:=by
  cases c:fh d with
  | false=>rw [HM c];exact ⟨d1,d2,d3⟩
  | true =>
   have:=(wB (iH.1 c)).1.ds
   have h1:=this.l
   have h2:=this.u
   have h3:=this.n
   exact ⟨by omega,by omega,by omega⟩
 obtain ⟨x1,x2,x3⟩:=hx
 have e1:=tj hk (d:=d) (by omega) (by omega) (by omega)
 have e2:=CE hk (d:=d) ⟨by omega,by omega,by omega⟩
 have e3:=fa hk (d:=d) (s:=lA) (by omega) (by omega) (by omega)
 have e4:=Ar hk (d:=d) (by omega) (by omega) (by omega)
 have e5:=kI hk (d:=d) (by omega) (by omega)
 have e6:=tj hk (d:=(jP d).2.1) (by omega) (by omega) (by omega)
 have f1:=fun ht z=>DU (d:=d) ht z
 have f2:=fun ht hD h=>Fu (d:=d) ht hD h
 refine pj ?_ rfl
 rw [show (⟨#[108,105,118,101]⟩:ByteArray)=lA from rfl,e1,e2,e3,e4]
 unfold oS
 have hj:ea.l0 k k=ea.b0 k:=by
  obtain ⟨n,rfl⟩:∃ n,k=n+1:=⟨k-1,by omega⟩
  rfl
 rw [hj]
 unfold ea.b0
 simp only [aO,e5,e6,beq_self_eq_true,Bool.and_true,fV,aN]
 refine AX f1 f2 fun A L K D c3 M c0 M0 T1 X1 X2 X3 a1 a2 a3 a4 a5 a6 a7 a8 a9 a10 a11 a12=>?_
 rw [← a1,← a2,← a3,← a4,← a5,← a6,← a7,← a8,← a9]
 refine ⟨fun h=>?_,fun h1 h2 h3 h4 h5 h6 h7 h8 h9=>?_,fun h1 h2 h3=>?_⟩
 · subst h
   simp only [aN,ot,aZ]
   cases c0 <;> rfl
 · rw [← a10,← a11,← a12]
   subst h1 h2 h3 h4 h5 h6 h7 h8 h9
   simp only [aN,ot,aZ,fV]
 · subst h1 h2
   cases D with
   | true =>
    cases L <;> cases M <;> cases K <;> simp only [aZ,aN,fV,ot]
   | false =>
    have h3:=h3 rfl
    cases L with
    | false =>
     obtain rfl:=h3 (.inl rfl)
     cases M <;> cases K <;> simp only [aZ,aN,fV,ot]
    | true =>
     cases M with
     | false=>cases K <;> simp only [aZ,aN,fV,ot]
     | true =>
      obtain rfl:=h3 (.inr rfl)
      cases K <;> simp only [aZ,aN,fV,ot]
theorem fnChecks_pure:∀ x,Wf (tup [.slice (.int .u8)]) x→∃ k r,ea.f k x.1=some r∧nf (B:=[.bool]) (gU ([.val (.slice (.int .u8))])) r=(true,()):=by
 rintro ⟨a0,_⟩ ⟨f0,_⟩
 suffices Ev (fun k=>ea.f k a0) (true,()) by
  obtain ⟨k,h⟩:=this.some
  exact ⟨k,(true,()),h,rfl⟩
 exact Je fun k hk=>DZ hk a0
end Go.Proofs.YtohaanhjddohmaaGreatDoor.G

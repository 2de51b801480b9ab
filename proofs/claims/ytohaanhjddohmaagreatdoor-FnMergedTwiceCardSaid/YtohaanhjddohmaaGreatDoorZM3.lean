/- Plain laws, merged; what is proved here is told ahead of each part. -/
import Derived.Test.YtohaanhjddohmaaGreatDoorZM2
set_option linter.unusedVariables false
set_option linter.unusedSimpArgs false
namespace Go.Proofs.YtohaanhjddohmaaGreatDoor.G
open Go.V
theorem pu {x y:Int} (hx:1≤x∧x≤100000) (hy:1≤y∧y≤100000):aA bg x≠aA aI y:=fun q=>by
 have e:aA bg x=bg++fb x:=by unfold aA;rw [aN hx];rfl
 rw [vN hy,e] at q
 have:=congrArg nb q
 rw [iZ,iZ] at this
 cases this
theorem FQ {x:Int} (hx:1≤x∧x≤100000):aA bg x≠iy:=fun q=>by
 have e:aA bg x=bg++fb x:=by unfold aA;rw [aN hx];rfl
 rw [e] at q
 have:=congrArg nb q
 rw [iZ] at this
 cases this
theorem Gd {s t:ByteArray} {d:Ty.den a_} (z:(l7 s t d).2=0):fT (l7 s t d).1 s=some t:=by
 unfold l7 at z ⊢
 obtain ⟨z1,e1,z2⟩:=mb z
 obtain ⟨z3,e2,z4⟩:=mb z1
 rw [e1,tq,e2]
 have:=A4 (d:=(bY s d).1) (s:=s) (x:=t)
 rw [z4,th z3] at this
 have this:fT (h_ (bY s d).1 s t).1 s=some (ByteArray.empty++t):=this
 rw [this,show (ByteArray.empty:ByteArray)=dB [] from rfl,tN]
theorem IB {d:Ty.den a_} {a b:ByteArray} (hd:DR d) (hab:a≠b) (z:(uc d a b).2=0):fT (uc d a b).1 b=fT d a:=by
 obtain ⟨c1,c2⟩:=tZ z
 unfold fT
 show (bq (iR d (xn a b)).1.1 b).map _=_
 rw [c2]
 unfold xn at c1 ⊢
 cases c3:jc b with
 | false=>rw [c3] at c1;exact absurd c1 (by show (5:Int)≠0;decide)
 | true =>
  rw [c3] at c1
  simp only [ft,aM] at c1 ⊢
  cases c4:bq d.1 a with
  | none=>rw [c4] at c1;exact absurd c1 (by show (3:Int)≠0;decide)
  | some f =>
   simp only []
   rw [mH hab,aM]
   have hk:fp (kQ (iD d.1 a)):=qL (mS _ _) hd.keys
   show (bq (kE (iD (iD d.1 a) b) (b,f.2)) b).map _=_
   rw [Aa (f:=(b,f.2)) (sQ hk b),cY]
   rfl
theorem zU {v:Ty.den bE} {d:Ty.den a_} (hd:DR d) (z:(cV v d).2=0):fT (cV v d).1 iy=some (ae v):=by
 unfold cV at z ⊢
 obtain ⟨z1,e1,z2⟩:=mb z
 rw [e1,IB (lq _ _ _ hd) (by decide) z2,Gd z1]
theorem xF {n:Int} (h0:0≤n) (h1:n≤127):(gk n).size=1:=by
 unfold gk
 rw [if_pos ⟨h0,by omega⟩,← qI (by omega)]
 unfold vl
 rw [if_neg (by omega)]
 rfl
theorem DT {n:Int} (h0:0≤n) (h1:n≤2097151):(gk n).size≤3:=by
 unfold gk
 rw [if_pos ⟨h0,by omega⟩,← qI (by omega)]
 unfold vl
 split
 · rw [lB]
   unfold vl
   split
   · rw [lB]
     unfold vl
     rw [if_neg (by omega)]
     exact Nat.le_refl _
   · show 1+1≤3
     decide
 · show 1≤3
   decide
theorem Fi (mark:Int) (l:nK):bH (gq 5 mark l)≤20:=by
 have key:(aJ (gq 5 mark l)).size≤9:=by
  unfold aJ
  by_cases c:eo (gq 5 mark l)=true
  · rw [if_pos c]
    rcases m3 c with ⟨q,_⟩ | ⟨q,_⟩ | ⟨_,_,_,h1,h2,_,_,h3,h4⟩
    · exact absurd q (by show ¬ ((5:Int)=1∨(5:Int)=4);decide)
    · exact absurd q (by show ¬ ((5:Int)=2);decide)
    · rw [if_neg (by show ¬ ((5:Int)=1∨(5:Int)=4);decide),if_neg (by show ¬ ((5:Int)=2);decide),ByteArray.size_append,ByteArray.size_append,ByteArray.size_append,ip]
      have e1:(gk (gq 5 mark l).1).size=1:=xF (n:=5) (by decide) (by decide)
      have e2:=DT (n:=(gq 5 mark l).2.1) h3 (Int.le_trans h4 (by decide))
      have e3:=xF (n:=(gq 5 mark l).2.2.2.2.1) h1 (Int.le_trans h2 (by decide))
      omega
  · rw [if_neg c]
    exact Nat.zero_le _
 unfold bH aT
 rw [if_neg (by omega),ByteArray.size_append,ip]
 unfold iT
 rw [ByteArray.size_append,xF (by omega) (by omega)]
 omega
theorem vR (m:Int):∀ (l:gu) (a:Int),(i8 m l a).length=l.length
 | [],_=>rfl
 | p::l,a=>by
  show (i8 m l (a+bH (bU p))).length+1=_
  rw [vR m l]
  rfl
theorem tO {hb:ByteArray→ByteArray} {st:Ty.den aE} {d:Ty.den a_} {c:Int} {l:gu} (h:IV (st,(d,c))) (hl:d5 st.1=true) (hn:LE.le (α:=Int) (st.1.1+2) 100000) (hlen:l.length≤268435456) :
 IV (dy hb st d l)∧((dy hb st d l).2.2=0→(iG (dy hb st d l).2.1 (dy hb st d l).1.1.2.1:Int)=mX l (st.2.2.1-1)∧(iG (dy hb st d l).2.1 (dy hb st d l).1.1.2.1:Int)-gy (dy hb st d l).1.2.1≤20 ∧
  fT (dy hb st d l).2.1 (aA aI st.1.1)=some (bj (fq l (st.2.2.1-1)))∧fT (dy hb st d l).2.1 (aA aI (st.1.1+1))=some ByteArray.empty∧(dy hb st d l).1=(g9 st.1.1,(i8 st.1.1 l 0,(st.2.2.1,(0,(0,()))))) ∧
  fT (dy hb st d l).2.1 iy=some (ae (g9 st.1.1))):=by
 obtain ⟨n1,n2,n3,_⟩:=lI (n:=st.1.1) (ids:=st.1.2.1) hl
 have hd:DR d:=h.disk
 have hsum:gy st.2.1≤(iG d st.1.2.1:Int):=h.sum
 have hm:(1:Int)≤st.1.1∧st.1.1≤(100000:Int):=⟨n1,n2⟩
 have hm1:LE.le (α:=Int) 1 (st.1.1+1)∧LE.le (α:=Int) (st.1.1+1) 100000:=⟨by omega,by omega⟩
 have hseg:∀ x:Int,x ∈ st.1.2.1→1≤x∧x≤100000:=fun x hx=>⟨(n3 x hx).1,by have:=(n3 x hx).2;omega⟩
 have no1:∀ x ∈ st.1.2.1,aA aI st.1.1≠aA aI x:=fun x hx=>wD hm (hseg x hx) (by have:=(n3 x hx).2;omega)
 have no2:∀ x ∈ st.1.2.1,aA aI (st.1.1+1)≠aA aI x:=fun x hx=>wD hm1 (hseg x hx) (by have:=(n3 x hx).2;omega)
 have no3:∀ x ∈ st.1.2.1,aA bg st.1.1≠aA aI x:=fun x hx=>pu hm (hseg x hx)
 have no4:aA aI (st.1.1+1)≠aA aI st.1.1:=wD hm1 hm (by omega)
 have jump:∀ r:RD,DR r.1→(∀ x ∈ st.1.2.1,fT r.1 (aA aI x)=fT d (aA aI x))→IV (pk st,r):=fun r hr k=>⟨hr,h.ids,h.dir,h.non,by
  show gy st.2.1≤(iG r.1 st.1.2.1:Int)
  rw [jU k]
  exact hsum⟩
 have dropK:∀ (r:RD),DR r.1→(∀ x ∈ st.1.2.1,fT r.1 (aA aI x)=fT d (aA aI x))→r.2≠0→IV (pk st,kg (ig st.1.1) r)∧(kg (ig st.1.1) r).2≠0:=fun r hr k hz=>by
  unfold kg
  cases r.2==2 with
  | false=>exact ⟨jump r hr k,hz⟩
  | true =>
   refine ⟨jump _ (lL _ _ hr) fun x hx=>(qH _ _ fun s hs=>?_).trans (k x hx),?_⟩
   · unfold ig at hs
     rcases List.mem_cons.1 hs with e | e
     · rw [e];exact oK (hseg x hx)
     rcases List.mem_cons.1 e with e | e
     · rw [e];exact no1 x hx
     rcases List.mem_cons.1 e with e | e
     · rw [e];exact no2 x hx
     · rw [List.mem_singleton.1 e];exact no3 x hx
   · show (bif (cD (ig st.1.1) r.1).2==0 then (2:Int) else fR (cD (ig st.1.1) r.1).2)≠0
     cases q:(cD (ig st.1.1) r.1).2==0 with
     | true =>
      show (2:Int)≠0
      decide
     | false =>
      intro e
      have:=gn (cD (ig st.1.1) r.1).2
      rw [q] at this
      simp only [aM] at e
      rw [e] at this
      cases this
 have tlnz:∀ r:RD,(r.2 != 0)=true→(tl r).2≠0:=fun r q e=>by
  have:=Bv r
  rw [e,q] at this
  cases this
 have a0:DR (fW st.1.1 l (st.2.2.1-1) d).1:=by
  refine iJ ?_ fun x hx=>nB hx _
  have:∀ (rs:nK) (r:RD),DR r.1→DR (uE (aA aI st.1.1) rs r).1:=by
   intro rs
   induction rs with
   | nil=>exact fun r hr=>hr
   | cons x rs ih=>exact fun r hr=>ih _ (iJ hr fun y hy=>o5 hy _ _)
  exact this _ _ (jR _ _ hd)
 have a1:∀ x ∈ st.1.2.1,fT (fW st.1.1 l (st.2.2.1-1) d).1 (aA aI x)=fT d (aA aI x):=fun x hx=>Gi (no1 x hx)
 have a2:(fW st.1.1 l (st.2.2.1-1) d).2=0→fT (fW st.1.1 l (st.2.2.1-1) d).1 (aA aI st.1.1)=some (bj (fq l (st.2.2.1-1))):=fun z=>by
  unfold fW at z ⊢
  obtain ⟨z1,z2,_⟩:=mb z
  rw [z2]
  rw [tq]
  have z0:(bY (aA aI st.1.1) d).2=0:=by
   by_cases w:(bY (aA aI st.1.1) d).2=0
   · exact w
   · rw [rJ _ _ _ w] at z1
     exact absurd z1 w
  have:=H5 (aA aI st.1.1) (fq l (st.2.2.1-1)) (bY (aA aI st.1.1) d) ByteArray.empty (th z0) z1
  rw [this,show (ByteArray.empty:ByteArray)=dB [] from rfl,tN]
 unfold dy
 generalize fW st.1.1 l (st.2.2.1-1) d=a at a0 a1 a2 ⊢
 cases ca:a.2 != 0 with
 | true =>
  obtain ⟨g1,g2⟩:=dropK (tl a) a0 a1 (tlnz a ca)
  exact ⟨g1,fun e=>absurd e g2⟩
 | false =>
  have b0:=jR (aA aI (st.1.1+1)) a.1 a0
  have b1:∀ x ∈ st.1.2.1,fT (bY (aA aI (st.1.1+1)) a.1).1 (aA aI x)=fT d (aA aI x):=fun x hx=>(pc (no2 x hx)).trans (a1 x hx)
  have b2:=(pc (d:=a.1) no4).trans (a2 (jb ca))
  have b3:=th (s:=aA aI (st.1.1+1)) (d:=a.1)
  simp only [aM]
  generalize bY (aA aI (st.1.1+1)) a.1=b at b0 b1 b2 b3 ⊢
  cases cb:b.2 != 0 with
  | true =>
   obtain ⟨g1,g2⟩:=dropK (tl b) b0 b1 (tlnz b cb)
   exact ⟨g1,fun e=>absurd e g2⟩
  | false =>
   have b3:=b3 (jb cb)
   have c0:DR (kM hb st.1.1 b.1).1:=by
    unfold kM
    cases (l7 (aA bg st.1.1) (hb (aV b.1 (aA aI st.1.1)).1) b.1).2==2 with
    | true=>exact lL _ _ (lq _ _ _ b0)
    | false=>exact lq _ _ _ b0
   have c1:∀ x ∈ st.1.2.1,fT (kM hb st.1.1 b.1).1 (aA aI x)=fT d (aA aI x):=fun x hx=>(zN (no3 x hx)).trans (b1 x hx)
   have c2:=(zN (hb:=hb) (d:=b.1) (pu hm hm)).trans b2
   have c3:=(zN (hb:=hb) (d:=b.1) (pu hm hm1)).trans b3
   simp only [aM]
   generalize kM hb st.1.1 b.1=e at c0 c1 c2 c3 ⊢
   cases ce:e.2 != 0 with
   | true=>exact ⟨jump (tl e) c0 c1,fun z=>absurd z (tlnz e ce)⟩
   | false =>
    have d0:=lX (g9 st.1.1) _ c0
    have d1:∀ x ∈ st.1.2.1,fT (cV (g9 st.1.1) e.1).1 (aA aI x)=fT d (aA aI x):=fun x hx=>(pD (oK (hseg x hx)) (pt (hseg x hx))).trans (c1 x hx)
    have d2:=(pD (d:=e.1) (v:=g9 st.1.1) (oK hm) (pt hm)).trans c2
    have d3:=(pD (d:=e.1) (v:=g9 st.1.1) (oK hm1) (pt hm1)).trans c3
    have d4:=zU (v:=g9 st.1.1) c0
    simp only [aM]
    generalize cV (g9 st.1.1) e.1=f at d0 d1 d2 d3 d4 ⊢
    cases cf:f.2 != 0 with
    | true =>
     obtain ⟨g1,g2⟩:=dropK (tl f) d0 d1 (tlnz f cf)
     exact ⟨g1,fun z=>absurd z g2⟩
    | false =>
     simp only [aM]
     have o0:∀ (ids:List Int) (x:Ty.den a_),DR x→DR (oY ids x).1:=by
      intro ids
      induction ids with
      | nil=>exact fun x hx=>hx
      | cons y ids ih=>exact fun x hx=>iJ (lL _ _ hx) fun z hz=>ih z hz
     have o2:=(zE st.1.2.1 f.1 fun x hx=>⟨fun q=>no1 x hx q.symm,pu (hseg x hx) hm⟩).trans d2
     have o3:=(zE st.1.2.1 f.1 fun x hx=>⟨fun q=>no2 x hx q.symm,pu (hseg x hx) hm1⟩).trans d3
     have o4:=(zE st.1.2.1 f.1 fun x hx=>⟨fun q=>pt (hseg x hx) q.symm,FQ (hseg x hx)⟩).trans (d4 (jb cf))
     have o1:=o0 st.1.2.1 f.1 d0
     generalize oY st.1.2.1 f.1=o at o1 o2 o3 o4 ⊢
     obtain ⟨l1,l2⟩:=ye st.1.1 l 0
     have hk:=Fi (st.2.2.1-1) (l.map bU)
     have hk0:=(ky (gq 5 (st.2.2.1-1) (l.map bU))).1
     have tot:(iG o.1 [st.1.1,st.1.1+1]:Int)=gy (i8 st.1.1 l 0)+bH (gq 5 (st.2.2.1-1) (l.map bU)):=by
      unfold iG Db
      rw [List.map_cons,List.map_singleton,List.sum_cons,List.sum_singleton,o2,o3,l1]
      simp only [Option.getD_some]
      unfold fq
      rw [qK,ByteArray.size_append]
      have e1:(bj [gq 5 (st.2.2.1-1) (l.map bU)]).size=(aT (aJ (gq 5 (st.2.2.1-1) (l.map bU)))).size:=by rw [qO];rfl
      have e2:(ByteArray.empty:ByteArray).size=0:=rfl
      rw [e1,e2]
      unfold bH
      omega
     have tot0:(iG o.1 [st.1.1,st.1.1+1]:Int)=mX l (st.2.2.1-1):=by
      unfold iG Db mX
      rw [List.map_cons,List.map_singleton,List.sum_cons,List.sum_singleton,o2,o3]
      rfl
     refine ⟨⟨o1,(show 2≤60 by decide),?_,l2,?_⟩,fun _=>⟨tot0,?_,o2,o3,by trivial,o4⟩⟩
     · show (i8 st.1.1 l 0).length≤_
       rw [vR]
       exact hlen
     · show gy (i8 st.1.1 l 0)≤(iG o.1 [st.1.1,st.1.1+1]:Int)
       omega
     · show (iG o.1 [st.1.1,st.1.1+1]:Int)-gy (i8 st.1.1 l 0)≤20
       omega
end Go.Proofs.YtohaanhjddohmaaGreatDoor.G
namespace Go.Proofs.YtohaanhjddohmaaGreatDoor.G
open Go.V
theorem pZ {k:Nat} (hk:2 ^ 50≤k) (st:Ty.den aE) {r:RD} (hd:DR r.1) {m:Int} (h0:1≤m) (h1:m≤100000):dV.f k st r.1 m r.2=some (st,((kg (ig m) r).1,((kg (ig m) r).2,()))):=by
 unfold dV.f dV.t kg
 cases c:r.2==2 with
 | false =>
  have:(r.2 != 2)=true:=by unfold bne;rw [c];rfl
  rw [this]
  rfl
 | true =>
  have:(r.2 != 2)=false:=by unfold bne;rw [c];rfl
  rw [this]
  simp only [aM,aX]
  rw [aC (n:=m+1) (by omega) (by omega),bG hk,aO,bG hk,aO,iP hk,aO]
  simp only []
  rw [show ([(⟨#[116,101,109,112]⟩:ByteArray),aA aI m,aA aI (m+1),aA bg m]:List ByteArray)=ig m from rfl,ma hk hd (by unfold ig;simp),aO]
  simp only [bne]
  cases q:(cD (ig m) r.1).2==0 with
  | true=>rw [GU c];rfl
  | false=>simp only [tI,aX,aM,cp,aO]
theorem zr (k:Nat) (p:Ty.den aF):kD.f k p=some (bU p,()):=rfl
theorem Cr {k:Nat} (hk:2 ^ 50≤k) (ids old:List Int) (dir:aY) (nx b s h:Int) (ho:old.length≤1073741824) {d:Ty.den a_} (hd:DR d) :
 bf.l0 k k 0 ids dir nx b s h [] [] 0 0 0 0 [] 0 0 false d.1 d.2.1 d.2.2.1 d.2.2.2.1 old=some (((nx,(ids,())),(dir,(b,(s,(h,()))))),((tl (oY old d)).1,((tl (oY old d)).2,()))):=by
 refine dZ (L:=fun n i (x:Ty.den a_)=>bf.l0 k n i ids dir nx b s h [] [] 0 0 0 0 [] 0 0 false x.1 x.2.1 x.2.2.1 x.2.2.2.1 old) (R:=fun r x=>(some (((nx,(ids,())),(dir,(b,(s,(h,()))))),((tl (oY r x)).1,((tl (oY r x)).2,()))):bf.Rs))
  (Ty.dflt (.int .i64)) old (fun _ x=>DR x) (fun n x hx=>?_) (fun n i x y rest h0 h1 hy hr hx ih=>?_) (n:=k) (s:=d) (by omega) hd
 · simp only [bf.l0,bf.b0]
   rw [aP (by omega),aM]
   rfl
 · simp only [bf.l0,bf.b0]
   rw [aN h1,aX,aG h0 h1,hy,bG hk,aO,aG h0 h1,iP hk,aO]
   simp only []
   rw [show (x.1,(x.2.1,(x.2.2.1,(x.2.2.2.1,()))))=x from rfl,ma hk hx (by simp),aO,aC (n:=i+1) (by omega) (by omega)]
   have hz:=lL [aA aI y,aA bg y] x hx
   simp only [oY]
   generalize cD [aA aI y,aA bg y] x=q at hz ⊢
   unfold d7
   simp only [bne]
   cases c:q.2==0 with
   | false=>simp only [tI,aX,aM,cp,aO];rfl
   | true =>
    simp only [ft,aX,aM]
    exact ih q.1 hz
end Go.Proofs.YtohaanhjddohmaaGreatDoor.G
namespace Go.Proofs.YtohaanhjddohmaaGreatDoor.G
open Go.V
def zG (m:Int):gu→RD→aY→Int→aY
 | [],_,dir,_=>dir
 | p::l,r,dir,a=>bif r.2==0 then zG m l (h_ r.1 (aA aI m) (aT (aJ (bU p)))) (dir++[(p.1,(m,(a,(bH (bU p),(p.2.2.1,())))))]) (a+bH (bU p)) else dir
theorem EG (m:Int):∀ (l:gu) (r:RD) (dir:aY) (a:Int),r.2=0→(uE (aA aI m) (l.map bU) r).2=0→zG m l r dir a=dir++i8 m l a
 | [],_,dir,_,_,_=>(List.append_nil dir).symm
 | p::l,r,dir,a,h,z=>by
  have e:d7 r (fun y=>h_ y (aA aI m) (aT (aJ (bU p))))=h_ r.1 (aA aI m) (aT (aJ (bU p))):=by
   unfold d7
   rw [h]
   rfl
  have z:(uE (aA aI m) (l.map bU) (d7 r fun y=>h_ y (aA aI m) (aT (aJ (bU p))))).2=0:=z
  rw [e] at z
  have z2:(h_ r.1 (aA aI m) (aT (aJ (bU p)))).2=0:=by
   by_cases w:(h_ r.1 (aA aI m) (aT (aJ (bU p)))).2=0
   · exact w
   · rw [rJ _ _ _ w] at z
     exact absurd z w
  unfold zG
  rw [show (r.2==0)=true by rw [h];rfl,aX,EG m l _ _ _ z2 z,sy]
  rfl
end Go.Proofs.YtohaanhjddohmaaGreatDoor.G
namespace Go.Proofs.YtohaanhjddohmaaGreatDoor.G
open Go.V
theorem xx {k:Nat} (hk:2 ^ 50≤k) {d:Ty.den a_} (hd:DR d) (m:Int) {l:gu} (hl:l.length≤1000000) (mark:Int) :
 dc.f k d m l mark=some ((fW m l mark d).1,(zG m l (bY (aA aI m) d) [] 0,(fR (fW m l mark d).2,()))):=by
 have hsz:=tw m
 unfold dc.f dc.t
 rw [bG hk,aO]
 simp only []
 rw [mU hk hd (by omega),aO]
 simp only []
 have hf:=jR (aA aI m) d hd
 unfold fW fq
 generalize bY (aA aI m) d=r0 at hf ⊢
 refine dZ (L:=fun n i (s:RD × aY × Int × nK)=>dc.l0 k n m l mark s.1.2 s.2.2.1 i [] 0 0 false s.2.1 s.1.1.1 s.1.1.2.1 s.1.1.2.2.1 s.1.1.2.2.2.1 s.2.2.2)
  (R:=fun r s=>(some ((d7 (uE (aA aI m) (r.map bU++[gq 5 mark (l.map bU)]) s.1) fun y=>iq y (aA aI m)).1,(zG m r s.1 s.2.1 s.2.2.1,(fR (d7 (uE (aA aI m) (r.map bU++[gq 5 mark (l.map bU)]) s.1) fun y=>iq y (aA aI m)).2,()))):dc.Rs))
  (Ty.dflt aF) l (fun i s=>DR s.1.1∧(s.1.2=0→s.2.2.2=(l.take i.toNat).map bU)∧0≤s.2.2.1∧s.2.2.1≤211*i∧(s.2.1.length:Int)≤i∧(s.2.2.2.length:Int)≤i) (fun n s hs=>?_) (fun n i s x rest h0 h1 hx hr hs ih=>?_) (n:=k) (s:=(r0,([],(0,[])))) (by omega) ⟨hf,fun _=>rfl,Int.le_refl _,by simp,by simp,by simp⟩
 · obtain ⟨r,dir,a,recs⟩:=s
   obtain ⟨g1,g2,g3,g4,g5,g6⟩:=hs
   simp only [] at g1 g2 g3 g4 g5 g6 ⊢
   simp only [dc.l0,dc.b0]
   rw [aP (by omega),aM]
   simp only [List.map_nil,List.nil_append,uE,zG]
   by_cases c:r.2=0
   · rw [Int.toNat_natCast,List.take_length] at g2
     rw [show (r.2==0)=true by rw [c];rfl,aX,bG hk,aO,g2 c,u_ hk (by rw [List.length_map];omega),aO]
     simp only []
     rw [dE hk,aO]
     simp only []
     rw [lQ hk,aO]
     simp only []
     have hfz:=j9 (aJ (gq 5 mark (l.map bU)))
     rw [show (r.1.1,(r.1.2.1,(r.1.2.2.1,(r.1.2.2.2.1,()))))=r.1 from rfl,nD hk g1.sz (aA aI m) (by omega),aO]
     simp only []
     have ha:=o5 g1 (aA aI m) (aT (aJ (gq 5 mark (l.map bU))))
     rw [show d7 r (fun y=>h_ y (aA aI m) (aT (aJ (gq 5 mark (l.map bU)))))=h_ r.1 (aA aI m) (aT (aJ (gq 5 mark (l.map bU)))) by unfold d7;rw [c];rfl]
     generalize h_ r.1 (aA aI m) (aT (aJ (gq 5 mark (l.map bU))))=q at ha ⊢
     unfold d7
     cases c2:q.2==0 with
     | true =>
      simp only [aX]
      rw [aO]
      simp only []
      rw [kn hk ha.sz,aO,cp,aO]
     | false=>simp only [aM,cp,aO]
   · rw [mJ c]
     have e:d7 r (fun y=>h_ y (aA aI m) (aT (aJ (gq 5 mark (l.map bU)))))=r:=by unfold d7;rw [mJ c];rfl
     rw [e]
     unfold d7
     rw [mJ c]
     simp only [aM,cp,aO]
 · obtain ⟨r,dir,a,recs⟩:=s
   obtain ⟨g1,g2,g3,g4,g5,g6⟩:=hs
   simp only [] at g1 g2 g3 g4 g5 g6 ih ⊢
   have hi:i.toNat<l.length:=by omega
   have et:l.take (i+1).toNat=l.take i.toNat++[x]:=by
    rw [show (i+1).toNat=i.toNat+1 by omega,List.take_succ_eq_append_getElem hi]
    congr 2
    rw [← hx]
    simp [List.getD,hi]
   simp only [dc.l0,dc.b0]
   rw [aN h1,aX]
   simp only [List.map_cons,List.cons_append,uE,zG]
   by_cases c:r.2=0
   · have hr:=ky (bU x)
     have hfz:=j9 (aJ (bU x))
     have hz:((aT (aJ (bU x))).size:Int)=bH (bU x):=rfl
     rw [show (r.2==0)=true by rw [c];rfl,aX,aG h0 h1,hx,zr,aO]
     simp only []
     rw [dE hk,aO]
     simp only []
     rw [lQ hk,aO]
     simp only []
     rw [bG hk,aO]
     simp only []
     rw [show (r.1.1,(r.1.2.1,(r.1.2.2.1,(r.1.2.2.2.1,()))))=r.1 from rfl,nD hk g1.sz (aA aI m) (by omega),aO]
     simp only []
     rw [ba (by omega) (by decide),ba (by omega) (by decide),hz,aC (n:=a+bH (bU x)) (by omega) (by omega),aC (n:=i+1) (by omega) (by omega)]
     have ha:=o5 g1 (aA aI m) (aT (aJ (bU x)))
     rw [show d7 r (fun y=>h_ y (aA aI m) (aT (aJ (bU x))))=h_ r.1 (aA aI m) (aT (aJ (bU x))) by unfold d7;rw [c];rfl,aX]
     exact ih (h_ r.1 (aA aI m) (aT (aJ (bU x))),(dir++[(x.1,(m,(a,(bH (bU x),(x.2.2.1,())))))],(a+bH (bU x),recs++[bU x]))) ⟨ha,fun _=>by simp only [];rw [g2 c,et,List.map_append];rfl,by simp only [];omega,by simp only [];omega,by simp only [];rw [xS,List.length_singleton];omega,by simp only [];rw [xS,List.length_singleton];omega⟩
   · rw [mJ c]
     have e:d7 r (fun y=>h_ y (aA aI m) (aT (aJ (bU x))))=r:=by unfold d7;rw [mJ c];rfl
     rw [e,rJ _ _ _ c]
     unfold d7
     rw [mJ c]
     simp only [aM,cp,aO]
end Go.Proofs.YtohaanhjddohmaaGreatDoor.G
namespace Go.Proofs.YtohaanhjddohmaaGreatDoor.G
open Go.V
noncomputable def xR (m:Int) (s:ByteArray):ByteArray:=bu (fo m s).1
theorem Gx (nm:ByteArray):∀ (l m:nK) (r:RD),uE nm (l++m) r=uE nm m (uE nm l r)
 | [],_,_=>rfl
 | x::l,m,r=>by
  exact Gx nm l m (d7 r fun y=>h_ y nm (aT (aJ x)))
theorem IQ (nm:ByteArray):∀ (rs:nK) (r:RD),DR r.1→DR (uE nm rs r).1
 | [],_,h=>h
 | x::rs,r,h=>IQ nm rs _ (iJ h fun y hy=>o5 hy _ _)
theorem C2 (m:Int) (l:gu) (mark:Int) {d:Ty.den a_} (hd:DR d):DR (fW m l mark d).1 :=
 iJ (IQ _ _ _ (jR _ _ hd)) fun x hx=>nB hx _
theorem ET {m:Int} {l:gu} {mark:Int} {d:Ty.den a_} (h:(fW m l mark d).2=0):zG m l (bY (aA aI m) d) [] 0=i8 m l 0:=by
 unfold fW at h
 obtain ⟨z1,z2,_⟩:=mb h
 unfold fq at z1
 rw [Gx] at z1
 have z3:(uE (aA aI m) (l.map bU) (bY (aA aI m) d)).2=0:=by
  by_cases w:(uE (aA aI m) (l.map bU) (bY (aA aI m) d)).2=0
  · exact w
  · rw [rJ _ _ _ w] at z1
    exact absurd z1 w
 have z0:(bY (aA aI m) d).2=0:=by
  by_cases w:(bY (aA aI m) d).2=0
  · exact w
  · rw [rJ _ _ _ w] at z3
    exact absurd z3 w
 rw [EG m l _ [] 0 z0 z3,List.nil_append]
theorem Ar {m:Int} (h0:1≤m) (h1:m+2≤100000):d5 (g9 m)=true:=by
 have e:aH (m+2-1)=m+1:=by rw [aC (n:=m+2-1) (by omega) (by omega)];omega
 unfold d5 g9
 simp only []
 rw [aN (show (1:Int)≤m+2∧m+2≤100000 from ⟨by omega,h1⟩),e]
 simp only [pG,mr,lB,List.length_nil]
 rw [aN (show (1:Int)≤m∧m≤m+1 from ⟨h0,by omega⟩),aN (show (1:Int)≤m+1∧m+1≤m+1 from ⟨by omega,by omega⟩),aN (show m<m+1 by omega)]
 rfl
theorem Dp (c:Int):(fR c != 0)=(c != 0):=by unfold bne;rw [gn]
theorem vT {k:Nat} (hk:2 ^ 50≤k) {st:Ty.den aE} (hl:d5 st.1=true) (hn:LE.le (α:=Int) (st.1.1+2) 100000) {f:Ty.den a_} (hf:DR f) (dir:aY) :
 (rm (Ty.bytes (.int .i64)) (0+List.length st.1.2.1) ((eQ.f k f (st.1.1+2,([st.1.1,st.1.1+1],()))).bind fun r16=>(bif (r16.2.1 != 0) then ((dV.f k ((st.1.1+2,st.1.2),st.2) r16.1 st.1.1 r16.2.1).bind fun r17=>(some r17)) else
  (bf.l0 k k 0 [st.1.1,st.1.1+1] dir (st.1.1+2) st.2.2.1 0 0 [] [] 0 0 0 0 [] 0 0 false r16.1.1 r16.1.2.1 r16.1.2.2.1 r16.1.2.2.2.1 ([]++st.1.2.1)))):bf.Rs) =
 some (oS (bif (cV (g9 st.1.1) f).2 != 0 then (pk st,kg (ig st.1.1) (tl (cV (g9 st.1.1) f))) else ((g9 st.1.1,(dir,(st.2.2.1,(0,(0,()))))),tl (oY st.1.2.1 (cV (g9 st.1.1) f).1)))):=by
 obtain ⟨n1,n2,n3,_⟩:=lI (n:=st.1.1) (ids:=st.1.2.1) hl
 have h60:st.1.2.1.length≤60:=(dW (nx:=st.1.1) (ids:=st.1.2.1) hl).2.2.2.1
 rw [ba (by omega) (by decide),nG hk hf (v:=(st.1.1+2,([st.1.1,st.1.1+1],()))) (Ar n1 hn),aO]
 rw [show ((st.1.1+2,([st.1.1,st.1.1+1],())):Ty.den bE)=g9 st.1.1 from rfl]
 have hp:=lX (g9 st.1.1) f hf
 generalize cV (g9 st.1.1) f=q at hp ⊢
 simp only []
 rw [Dp]
 cases c:q.2 != 0 with
 | true =>
  simp only [aX]
  rw [show fR q.2=(tl q).2 from rfl,show q.1=(tl q).1 from rfl,pZ hk _ (r:=tl q) hp n1 n2,aO]
  rfl
 | false =>
  simp only [aM,List.nil_append]
  rw [Cr hk _ _ _ _ _ _ _ (by omega) hp]
  rfl
theorem xW {k:Nat} (hk:2 ^ 50≤k) {st:Ty.den aE} {d:Ty.den a_} (hd:DR d) (hl:d5 st.1=true) (hn:LE.le (α:=Int) (st.1.1+2) 100000) (hb0:LE.le (α:=Int) 1 st.2.2.1) (hb1:LE.le (α:=Int) st.2.2.1 1000001) {l:gu} (hlen:l.length≤1000000) :
 bf.f k st d l=some (oS (dy (xR st.1.1) st d l)):=by
 obtain ⟨n1,n2,n3,_⟩:=lI (n:=st.1.1) (ids:=st.1.2.1) hl
 have s1:=tw st.1.1
 have s2:=tw (st.1.1+1)
 have s3:=uA (.inr rfl:bg=aI∨bg=bg) st.1.1
 unfold bf.f bf.t
 rw [aC (n:=st.2.2.1-1) (by omega) (by omega),aC (n:=st.1.1+2) (by omega) (by omega),aC (n:=st.1.1+1) (by omega) (by omega),xx hk hd _ hlen,aO]
 simp only []
 have a0:=C2 st.1.1 l (st.2.2.1-1) hd
 have a1:=ET (m:=st.1.1) (l:=l) (mark:=st.2.2.1-1) (d:=d)
 unfold dy
 generalize zG st.1.1 l (bY (aA aI st.1.1) d) [] 0=dir at a1 ⊢
 generalize fW st.1.1 l (st.2.2.1-1) d=a at a0 a1 ⊢
 rw [Dp]
 cases ca:a.2 != 0 with
 | true =>
  simp only [aX]
  rw [show fR a.2=(tl a).2 from rfl,show a.1=(tl a).1 from rfl,pZ hk _ (r:=tl a) a0 n1 n2,aO]
  rfl
 | false =>
  simp only [aM]
  rw [a1 (jb ca),bG hk,aO]
  simp only []
  rw [mU hk a0 (by omega),aO]
  simp only []
  have b0:=jR (aA aI (st.1.1+1)) a.1 a0
  generalize bY (aA aI (st.1.1+1)) a.1=b at b0 ⊢
  cases cb:b.2 != 0 with
  | true =>
   simp only [aX]
   rw [cp,aO]
   simp only []
   rw [show fR b.2=(tl b).2 from rfl,show b.1=(tl b).1 from rfl,pZ hk _ (r:=tl b) b0 n1 n2,aO]
   rfl
  | false =>
   have hl':=b0.sz.l
   have hu':=b0.sz.u
   have hn':=b0.sz.n
   have ht:=eL b.1 (aA aI st.1.1)
   have hcap:LE.le (α:=Int) (dR b.1.1) 100000:=Int.le_trans b0.use b0.cap1
   simp only [aM]
   rw [bG hk,aO]
   simp only []
   rw [gB hk (by omega) (by omega) (by omega),aO]
   simp only []
   rw [qx hk _ (by omega),aO,iP hk,aO]
   simp only []
   rw [kV hk,aO]
   simp only []
   rw [uJ hk b0 (by omega) (by have:=lw (fo st.1.1 (aV b.1 (aA aI st.1.1)).1).1;omega),aO]
   simp only []
   unfold kM
   rw [show xR st.1.1 (aV b.1 (aA aI st.1.1)).1=bu (fo st.1.1 (aV b.1 (aA aI st.1.1)).1).1 from rfl]
   have c0:=lq (aA bg st.1.1) (bu (fo st.1.1 (aV b.1 (aA aI st.1.1)).1).1) b.1 b0
   generalize l7 (aA bg st.1.1) (bu (fo st.1.1 (aV b.1 (aA aI st.1.1)).1).1) b.1=e at c0 ⊢
   cases ce:e.2==2 with
   | true =>
    simp only [aX]
    rw [aO]
    simp only []
    rw [ma hk c0 (by simp),aO]
    simp only []
    have d0:=lL [aA bg st.1.1] e.1 c0
    generalize cD [aA bg st.1.1] e.1=f at d0 ⊢
    cases cf:f.2 != 0 with
    | true =>
     simp only [aX]
     rw [cp,aO]
     rfl
    | false =>
     simp only [aM]
     exact vT hk hl hn d0 _
   | false =>
    simp only [aM]
    cases cf:e.2 != 0 with
    | true =>
     simp only [aX]
     rw [cp,aO]
     rfl
    | false =>
     simp only [aM]
     exact vT hk hl hn c0 _
end Go.Proofs.YtohaanhjddohmaaGreatDoor.G
namespace Go.Proofs.YtohaanhjddohmaaGreatDoor.G
open Go.V
noncomputable def ap (st:Ty.den aE) (d:Ty.den a_):Ty.den aE × RD :=
 bif !gE st d then (st,(d,4)) else bif decide (st.1.1+2 > 100000) then (st,(d,5)) else
 bif (cR st.2.1 d).2 != 0 then (st,(d,(cR st.2.1 d).2)) else dy (xR st.1.1) st d (cR st.2.1 d).1
theorem pH {st:Ty.den aE} {d:Ty.den a_} (h:gE st d=true):LE.le (α:=Int) 1 st.2.2.1∧LE.le (α:=Int) st.2.2.1 1000001:=by
 unfold gE at h
 simp only [j6,decide_eq_true_eq] at h
 exact h.2.2.2.1
theorem AZ {k:Nat} (hk:2 ^ 50≤k) {st:Ty.den aE} {d:Ty.den a_} (hd:ta d) (h1:st.1.2.1.length≤1073741824) (h2:st.2.1.length≤536870912):jl.f k st d=some (oS (ap st d)):=by
 have ec:fD.f k st=some (st,()):=by
  unfold fD.f fD.t
  rw [ba (by omega) (by decide),ba (by omega) (by decide),List.nil_append,List.nil_append]
 unfold jl.f jl.t ap
 rw [ec,aO]
 simp only []
 rw [kI k hd,aO]
 simp only []
 rw [sT hk hd,aO]
 simp only []
 cases c1:gE st d with
 | false=>rfl
 | true =>
  obtain ⟨g1,g2,g3⟩:=jF c1
  obtain ⟨n1,n2,_,_⟩:=lI (n:=st.1.1) (ids:=st.1.2.1) g1.live
  simp only [ft,aM]
  rw [aC (n:=st.1.1+2) (by omega) (by omega)]
  by_cases c2:st.1.1+2 > (100000:Int)
  · rw [aN c2];rfl
  · rw [aP c2]
    simp only [aM]
    rw [uO hk hd (by omega),aO]
    simp only []
    have hz:=jZ st.2.1 d
    obtain ⟨b1,b2⟩:=pH c1
    cases (cR st.2.1 d).2 != 0 with
    | true=>rfl
    | false =>
     simp only [aM]
     rw [xW hk g1.disk g1.live (Int.not_lt.1 c2) b1 b2 (by omega),aO]
theorem GJ {st:Ty.den aE} {d:Ty.den a_} {c:Int} (h:IV (st,(d,c))):IV (ap st d)∧((ap st d).2.2=0→(gE st d=true∧(cR st.2.1 d).2=0∧(iG (ap st d).2.1 (ap st d).1.1.2.1:Int)=mX (cR st.2.1 d).1 (st.2.2.1-1))∧(iG (ap st d).2.1 (ap st d).1.1.2.1:Int)-gy (ap st d).1.2.1≤20):=by
 have same:∀ z:Int,IV (st,(d,z)):=fun z=>⟨h.disk,h.ids,h.dir,h.non,h.sum⟩
 unfold ap
 cases c1:gE st d with
 | false=>exact ⟨same _,fun e=>absurd e (by show (4:Int)≠0;decide)⟩
 | true =>
  obtain ⟨g1,g2,g3⟩:=jF c1
  simp only [ft,aM]
  by_cases c2:st.1.1+2 > (100000:Int)
  · rw [aN c2]
    exact ⟨same _,fun e=>absurd e (by show (5:Int)≠0;decide)⟩
  · rw [aP c2]
    simp only [aM]
    have hz:=jZ st.2.1 d
    cases c3:(cR st.2.1 d).2 != 0 with
    | true=>exact ⟨same _,fun e=>absurd e (by intro q;rw [show (cR st.2.1 d).2=0 from q] at c3;cases c3)⟩
    | false =>
     simp only [aM]
     obtain ⟨q1,q2⟩:=tO (hb:=xR st.1.1) h g1.live (Int.not_lt.1 c2) (l:=(cR st.2.1 d).1) (by omega)
     exact ⟨q1,fun e=>⟨⟨by trivial,jb c3,(q2 e).1⟩,(q2 e).2.1⟩⟩
end Go.Proofs.YtohaanhjddohmaaGreatDoor.G
namespace Go.Proofs.YtohaanhjddohmaaGreatDoor.G
open Go.V
abbrev kp:=Ty.den b8
def CI (c:kp):Prop:=(0:Int)≤c.2.1∧c.2.1≤(c.1.length:Int)∧c.1.length≤1048576
theorem zn (y:Int):0≤aH (((BitVec.ofInt (IntKind.bits .i64) y &&& BitVec.ofInt (IntKind.bits .i64) 255).toNat:Int))∧aH (((BitVec.ofInt (IntKind.bits .i64) y &&& BitVec.ofInt (IntKind.bits .i64) 255).toNat:Int))≤255:=by
 have h:(BitVec.ofInt (IntKind.bits .i64) y &&& BitVec.ofInt (IntKind.bits .i64) 255).toNat≤255:=by
  rw [BitVec.toNat_and]
  exact Nat.le_trans Nat.and_le_right (by decide)
 rw [aC (by omega) (by omega)]
 omega
theorem Gs {k:Nat} (hk:2 ^ 50≤k) {l:List Int} (hl:l.length≤1048576):∃ c:kp,fu.f k l=some ((),(c,()))∧CI c:=by
 unfold fu.f fu.t
 have key:∀ (d n:Nat) (i h:Int),(l.length:Int)-i=d→0≤i→d<n→∃ c:kp,fu.l0 k n l h i=some ((),(c,()))∧CI c:=by
  intro d
  induction d with
  | zero =>
   intro n i h h1 h2 hn
   obtain ⟨n,rfl⟩:∃ q,n=q+1:=⟨n-1,by omega⟩
   simp only [fu.l0,fu.b0]
   rw [aP (show ¬ i<(l.length:Int) by omega),aM]
   exact ⟨_,rfl,Int.le_refl _,by show (0:Int)≤(l.length:Int);omega,hl⟩
  | succ d ih =>
   intro n i h h1 h2 hn
   obtain ⟨n,rfl⟩:∃ q,n=q+1:=⟨n-1,by omega⟩
   simp only [fu.l0,fu.b0]
   rw [aN (show i<(l.length:Int) by omega),aX]
   by_cases c:i<4000
   · rw [aN c,aX,aG h2 (by omega),aC (n:=i+1) (by omega) (by omega)]
     exact ih n (i+1) _ (by omega) (by omega) (by omega)
   · rw [aP c,aM]
     exact ⟨_,rfl,Int.le_refl _,by show (0:Int)≤(l.length:Int);omega,hl⟩
 exact key l.length k 0 _ (by omega) (by omega) (by omega)
theorem yU (k:Nat) {c:kp} (h:CI c):∃ (c':kp) (x:Int),eX.f k c=some (c',(x,()))∧CI c'∧0≤x∧x≤255:=by
 obtain ⟨b,i,hh,_⟩:=c
 change Int at i
 change Int at hh
 obtain ⟨h1,h2,h3⟩:=h
 have h1:0≤i:=h1
 have h2:i≤(b.length:Int):=h2
 have h3:b.length≤1048576:=h3
 unfold eX.f eX.t
 simp only []
 by_cases q:i<(b.length:Int)
 · rw [aN q,aX,aG h1 q,aC (n:=i+1) (by omega) (by omega)]
   refine ⟨_,_,rfl,⟨by show (0:Int)≤i+1;omega,by show i+1≤(b.length:Int);omega,h3⟩,(zn _).1,(zn _).2⟩
 · rw [aP q,aM]
   exact ⟨_,_,rfl,⟨h1,h2,h3⟩,(zn _).1,(zn _).2⟩
theorem vP (k:Nat) {c:kp} (h:CI c) {n:Int} (h0:0<n) (h1:n≤256):∃ (c':kp) (x:Int),aW.f k c n=some (c',(x,()))∧CI c'∧0≤x∧x<n:=by
 obtain ⟨c',x,e,hc,hx0,hx1⟩:=yU k h
 unfold aW.f aW.t
 rw [aP (show ¬ n≤0 by omega),aM,aN h1,aX,e,aO]
 simp only []
 rw [aP (show ¬ n=0 by omega),aM]
 have e2:Int.tmod x n=x % n:=Int.tmod_eq_emod_of_nonneg hx0
 refine ⟨_,_,rfl,hc,?_,?_⟩
 · rw [e2];exact Int.emod_nonneg _ (by omega)
 · rw [e2];exact Int.emod_lt_of_pos _ h0
theorem F7 (k:Nat) {c:kp} (h:CI c) {n:Int} (h0:0<n) (h1:n≤256):∃ (c':kp) (x:Bool),fj.f k c n=some (c',(x,()))∧CI c':=by
 obtain ⟨c',x,e,hc,_,_⟩:=vP k h h0 h1
 unfold fj.f fj.t
 rw [e,aO]
 exact ⟨_,_,rfl,hc⟩
end Go.Proofs.YtohaanhjddohmaaGreatDoor.G
namespace Go.Proofs.YtohaanhjddohmaaGreatDoor.G
open Go.V
theorem HN {k:Nat} (hk:2 ^ 50≤k) {l:List Int} (hl:l.length≤1048576):lC (fu.f k l) (fun r=>CI r.2.1):=by
 obtain ⟨c,e,h⟩:=Gs hk hl
 exact ⟨_,e,h⟩
theorem Fy (k:Nat) {c:kp} (h:CI c):lC (eX.f k c) (fun r=>CI r.1∧0≤r.2.1∧r.2.1≤255):=by
 obtain ⟨c',x,e,h1,h2,h3⟩:=yU k h
 exact ⟨_,e,h1,h2,h3⟩
theorem eE (k:Nat) {c:kp} (h:CI c) {n:Int} (h0:0<n) (h1:n≤256):lC (aW.f k c n) (fun r=>CI r.1∧0≤r.2.1∧r.2.1<n):=by
 obtain ⟨c',x,e,q1,q2,q3⟩:=vP k h h0 h1
 exact ⟨_,e,q1,q2,q3⟩
theorem vX (k:Nat) {c:kp} (h:CI c) {n:Int} (h0:0<n) (h1:n≤256):lC (fj.f k c n) (fun r=>CI r.1):=by
 obtain ⟨c',x,e,q1⟩:=F7 k h h0 h1
 exact ⟨_,e,q1⟩
end Go.Proofs.YtohaanhjddohmaaGreatDoor.G
namespace Go.Proofs.YtohaanhjddohmaaGreatDoor.G
open Go.V
theorem rz (k:Nat) {c:kp} (h:CI c) {l:List ByteArray} (h0:0<l.length) (h1:l.length≤256):lC (fI.f k c l) (fun r=>CI r.1∧r.2.1 ∈ l):=by
 unfold fI.f fI.t
 refine aw (eE k h (by omega) (by omega)) fun r q=>?_
 refine nY q.2.1 q.2.2 (bL ⟨q.1,gb ?_⟩)
 have:=q.2.1
 have:=q.2.2
 omega
theorem yz {l:List ByteArray} {m:Nat} (h:(l.all fun x=>decide (x.size≤m))=true) {x:ByteArray} (hx:x ∈ l):x.size≤m:=by
 have:=List.all_eq_true.1 h x hx
 simpa using this
end Go.Proofs.YtohaanhjddohmaaGreatDoor.G
namespace Go.Proofs.YtohaanhjddohmaaGreatDoor.G
open Go.V
theorem ku (k:Nat) {c:kp} (h:CI c) {l:List Int} (h0:0<l.length) (h1:l.length≤256):lC (cO.f k c l) (fun r=>CI r.1∧r.2.1 ∈ l):=by
 unfold cO.f cO.t
 refine aw (eE k h (by omega) (by omega)) fun r q=>?_
 refine nY q.2.1 q.2.2 (bL ⟨q.1,gb ?_⟩)
 have:=q.2.1
 have:=q.2.2
 omega
end Go.Proofs.YtohaanhjddohmaaGreatDoor.G
namespace Go.Proofs.YtohaanhjddohmaaGreatDoor.G
open Go.V
theorem FU (l:List Int):(bytesOf l).size=l.length:=by simp [bytesOf,ByteArray.size]
theorem HU {k:Nat} (hk:2 ^ 50≤k) (st:Int) (m:Nat) (hm:m≤200):∀ (d n:Nat) (c:kp) (out:List Int),d<n→CI c→out.length+d≤m→lC (d_.l0 k n st (d:Int) c.1 c.2.1 c.2.2.1 out) (fun r=>CI r.1∧r.2.1.size≤m):=by
 intro d
 induction d with
 | zero =>
  intro n c out hn hc ho
  obtain ⟨n,rfl⟩:∃ q,n=q+1:=⟨n-1,by omega⟩
  simp only [d_.l0,d_.b0]
  refine rE (aP (by omega)) (bL ⟨hc,?_⟩)
  show (bytesOf out).size≤m
  rw [FU]
  omega
 | succ d ih =>
  intro n c out hn hc ho
  obtain ⟨n,rfl⟩:∃ q,n=q+1:=⟨n-1,by omega⟩
  have hw:aH (((d+1:Nat):Int)-1)=(d:Int):=by rw [aC (by omega) (by omega)];omega
  simp only [d_.l0,d_.b0,hw]
  refine lF (aN (by omega)) ?_
  refine aw (Fy k hc) fun r hr=>?_
  refine d9 (fun _=>d9 (fun _=>?_) (fun _=>?_)) (fun _=>d9 (fun _=>?_) (fun _=>?_))
  all_goals exact zu (by omega) (by decide) (ih n r.1 _ (by omega) hr.1 (by rw [cB];omega))
theorem C9 {k:Nat} (hk:2 ^ 50≤k) {c:kp} (h:CI c) {m:Int} (h0:0≤m) (h1:m≤200):lC (d_.f k c m) (fun r=>CI r.1∧(r.2.1.size:Int)≤m):=by
 unfold d_.f d_.t
 rw [aC (n:=m+1) (by omega) (by omega)]
 refine aw (eE k h (by omega) (by omega)) fun r1 q1=>?_
 refine aw (eE k q1.1 (by omega) (by omega)) fun r2 q2=>?_
 obtain ⟨c2,a,b⟩:=q2
 have:=HU hk r1.2.1 m.toNat (by omega) r2.2.1.toNat k r2.1 [] (by omega) c2 (by simp only [List.length_nil];omega)
 rw [show ((r2.2.1.toNat:Nat):Int)=r2.2.1 by omega] at this
 exact C1 this fun r hr=>⟨hr.1,by have:=hr.2;omega⟩
end Go.Proofs.YtohaanhjddohmaaGreatDoor.G
namespace Go.Proofs.YtohaanhjddohmaaGreatDoor.G
open Go.V
theorem E6 (k:Nat) {c:kp} (h:CI c):lC (iW.f k c) (fun r=>CI r.1):=by
 unfold iW.f iW.t
 exact aw (rz k h (by decide) (by decide)) fun r q=>bL q.1
theorem Gf {k:Nat} (hk:2 ^ 50≤k):∀ (d n:Nat) (c:kp) (out:qw),d<n→CI c→out.length+d≤100→lC (eu.l0 k n (d:Int) c.1 c.2.1 c.2.2.1 out) (fun r=>CI r.1∧r.2.1.length≤100):=by
 intro d
 induction d with
 | zero =>
  intro n c out hn hc ho
  obtain ⟨n,rfl⟩:∃ q,n=q+1:=⟨n-1,by omega⟩
  simp only [eu.l0,eu.b0]
  exact rE (aP (by omega)) (bL ⟨hc,by show out.length≤100;omega⟩)
 | succ d ih =>
  intro n c out hn hc ho
  obtain ⟨n,rfl⟩:∃ q,n=q+1:=⟨n-1,by omega⟩
  have hw:aH (((d+1:Nat):Int)-1)=(d:Int):=by rw [aC (by omega) (by omega)];omega
  simp only [eu.l0,eu.b0,hw]
  refine lF (aN (by omega)) ?_
  refine aw (E6 k hc) fun r2 q2=>?_
  refine aw (C9 hk q2 (by omega) (by omega)) fun r3 q3=>?_
  refine aw (vX k q3.1 (by omega) (by omega)) fun r4 q4=>?_
  refine d9 (fun _=>?_) (fun _=>?_)
  all_goals exact zu (by omega) (by decide) (ih n r4.1 _ (by omega) q4 (by rw [cB];omega))
theorem EV {k:Nat} (hk:2 ^ 50≤k) {c:kp} (h:CI c):lC (eu.f k c) (fun r=>CI r.1∧r.2.1.length≤100):=by
 unfold eu.f eu.t
 refine aw (eE k h (by omega) (by omega)) fun r q=>?_
 obtain ⟨hc,a,b⟩:=q
 have:=Gf hk r.2.1.toNat k r.1 [] (by omega) hc (by simp only [List.length_nil];omega)
 rw [show ((r.2.1.toNat:Nat):Int)=r.2.1 by omega] at this
 exact this
def K_ (st:Ty.den aE) (d:Ty.den a_):Prop:=∃ c,IV (st,(d,c))
theorem Ed {k:Nat} (hk:2 ^ 50≤k) {P:Ty.den aE→Ty.den a_→Prop} (hP:∀ st d,P st d→K_ st d) (hM:∀ st d,P st d→P (ap st d).1 (ap st d).2.1) (hC:∀ st d l,P st d→P (kc st d l).1 (kc st d l).2.1)
 (y4:List Int) (y5:aY) (y6 y7 y8 y9:Int) (y10:gu) (y11 y12:Int) (y13:Bool):∀ (m n:Nat) (c:kp) (st:Ty.den aE) (d:Ty.den a_),m≤20→m<n→CI c→P st d →
 lC (dh.l0 k n (m:Int) c.1 c.2.1 c.2.2.1 y4 y5 y6 y7 y8 y9 y10 y11 y12 y13 st.1.2.1 st.2.1 st.1.1 st.2.2.1 st.2.2.2.1 st.2.2.2.2.1 d.1 d.2.1 d.2.2.1 d.2.2.2.1) (fun r=>CI r.1∧P r.2.1 r.2.2.1):=by
 intro m
 induction m with
 | zero =>
  intro n c st d hm hn hc hv
  obtain ⟨n,rfl⟩:∃ q,n=q+1:=⟨n-1,by omega⟩
  simp only [dh.l0,dh.b0]
  exact rE (aP (by omega)) (bL ⟨hc,hv⟩)
 | succ m ih =>
  intro n c st d hm hn hc hv
  obtain ⟨n,rfl⟩:∃ q,n=q+1:=⟨n-1,by omega⟩
  have hw:aH (((m+1:Nat):Int)-1)=(m:Int):=by rw [aC (by omega) (by omega)];omega
  obtain ⟨z,hz⟩:=hP _ _ hv
  have hd:DR d:=hz.disk
  have h1:st.1.2.1.length≤60:=hz.ids
  have h2:st.2.1.length≤268435456:=hz.dir
  simp only [dh.l0,dh.b0,hw]
  refine lF (aN (by omega)) (d9 (fun _=>bL ⟨hc,hv⟩) fun _=>?_)
  refine aw (vX k hc (by omega) (by omega)) fun r5 q5=>?_
  refine d9 (fun _=>?_) (fun _=>?_)
  · refine eT (AZ hk (st:=st) (d:=d) hd.sz (by omega) (by omega)) ?_
    exact ih n r5.1 (ap st d).1 (ap st d).2.1 (by omega) (by omega) q5 (hM _ _ hv)
  · refine aw (EV hk q5) fun r7 q7=>?_
    have q8:=q7.2
    refine eT (y0 hk (st:=st) (d:=d) hd.sz (by omega) (by omega) (by omega)) ?_
    exact ih n r7.1 (kc st d r7.2.1).1 (kc st d r7.2.1).2.1 (by omega) (by omega) q7.1 (hC _ _ _ hv)
theorem Cj {k:Nat} (hk:2 ^ 50≤k) {P:Ty.den aE→Ty.den a_→Prop} (hP:∀ st d,P st d→K_ st d) (hM:∀ st d,P st d→P (ap st d).1 (ap st d).2.1) (hC:∀ st d l,P st d→P (kc st d l).1 (kc st d l).2.1)
 (hO:∀ n:Int,0≤n→n≤100000→P (nX (qv n)).1 (nX (qv n)).2.1) {c:kp} (h:CI c):lC (dh.f k c) (fun r=>CI r.1∧P r.2.1 r.2.2.1):=by
 unfold dh.f dh.t
 refine aw (ku k h (by decide) (by decide)) fun r1 q1=>?_
 have hcap:(0:Int)≤r1.2.1∧r1.2.1≤100000:=by
  have:=q1.2
  simp only [List.mem_cons,List.not_mem_nil,or_false] at this
  omega
 refine eT (Bf k hcap.1 hcap.2) ?_
 simp only []
 rw [show (([],(r1.2.1,(-1,(false,())))):Ty.den a_)=qv r1.2.1 from rfl]
 refine eT (Bu hk (AL hcap.1 hcap.2).sz) ?_
 refine aw (eE k q1.1 (by omega) (by omega)) fun r4 q4=>?_
 obtain ⟨hc,a,b⟩:=q4
 have:=Ed hk hP hM hC [] [] 0 0 0 0 [] 0 0 false r4.2.1.toNat k r4.1 (nX (qv r1.2.1)).1 (nX (qv r1.2.1)).2.1 (by omega) (by omega) hc (hO _ hcap.1 hcap.2)
 rw [show ((r4.2.1.toNat:Nat):Int)=r4.2.1 by omega] at this
 exact this
theorem Cb {k:Nat} (hk:2 ^ 50≤k) {c:kp} (h:CI c):lC (dh.f k c) (fun r=>CI r.1∧K_ r.2.1 r.2.2.1) :=
 Cj hk (P:=K_) (fun _ _ h=>h) (fun st d h=>by obtain ⟨z,hz⟩:=h;exact ⟨_,(GJ hz).1⟩) (fun st d l h=>by obtain ⟨z,hz⟩:=h;exact ⟨_,F1 l hz⟩) (fun n h0 h1=>⟨_,HK h0 h1⟩) h
end Go.Proofs.YtohaanhjddohmaaGreatDoor.G
namespace Go.Proofs.YtohaanhjddohmaaGreatDoor.G
open Go.V
theorem G7 {d:Ty.den a_} (h:DR d) (s:ByteArray):Db d s=(aV d s).1.size:=by
 unfold Db
 rw [sx h]
theorem nc {d:Ty.den a_} (h:DR d):∀ (ids:List Int) (n:Nat),ids.length≤n→ja d n ids=iG d ids
 | [],0,_=>rfl
 | [],n+1,_=>rfl
 | x::l,0,q=>by simp at q
 | x::l,n+1,q=>by
  have e:=nc h l n (by rw [lB] at q;omega)
  unfold iG at e ⊢
  rw [List.map_cons,List.sum_cons,G7 h]
  unfold ja
  rw [e]
end Go.Proofs.YtohaanhjddohmaaGreatDoor.G
namespace Go.Proofs.YtohaanhjddohmaaGreatDoor.G
open Go.V
theorem uI (hb:ByteArray→ByteArray) (st:Ty.den aE) (d:Ty.den a_) (l:gu) :
 (dy hb st d l).2=(dy hb (st.1,([],st.2.2)) d l).2∧(dy hb st d l).1.1=(dy hb (st.1,([],st.2.2)) d l).1.1:=by
 unfold dy
 simp only []
 generalize fW st.1.1 l (st.2.2.1-1) d=a
 cases a.2 != 0 with
 | true=>exact ⟨rfl,rfl⟩
 | false =>
  simp only [aM]
  generalize bY (aA aI (st.1.1+1)) a.1=b
  cases b.2 != 0 with
  | true=>exact ⟨rfl,rfl⟩
  | false =>
   simp only [aM]
   generalize kM hb st.1.1 b.1=e
   cases e.2 != 0 with
   | true=>exact ⟨rfl,rfl⟩
   | false =>
    simp only [aM]
    generalize cV (g9 st.1.1) e.1=f
    cases f.2 != 0 with
    | true=>exact ⟨rfl,rfl⟩
    | false=>exact ⟨rfl,rfl⟩
end Go.Proofs.YtohaanhjddohmaaGreatDoor.G
namespace Go.Proofs.YtohaanhjddohmaaGreatDoor.G
open Go.V
theorem KE (t:ByteArray):t++(⟨#[]⟩:ByteArray)=t:=Cz t
end Go.Proofs.YtohaanhjddohmaaGreatDoor.G
namespace Go.Proofs.YtohaanhjddohmaaGreatDoor.G
open Go.V
theorem F4 {s t:ByteArray} {i n:Int} (h:(ga s i n).2=true):ga (s++t) i n=ga s i n:=by
 unfold ga at h ⊢
 by_cases c:0≤i∧i≤s.size∧1≤n∧n≤s.size-i
 · have hz:(s++t).size=s.size+t.size:=ByteArray.size_append ..
   have e:ByteArray.extract (s++t) i.toNat (i+n).toNat=ByteArray.extract s i.toNat (i+n).toNat:=by
    refine kh ?_
    rw [rj,rj,iZ,List.take_append_of_le_length (by rw [cj];omega)]
   rw [if_pos c,if_pos (show 0≤i∧i≤(s++t).size∧1≤n∧n≤(s++t).size-i from ⟨c.1,by omega,c.2.2.1,by omega⟩),e]
 · rw [if_neg c] at h
   cases h
end Go.Proofs.YtohaanhjddohmaaGreatDoor.G
namespace Go.Proofs.YtohaanhjddohmaaGreatDoor.G
open Go.V
theorem Ez (r:Ty.den ax):5≤bH r∧bH r≤210:=by
 have h1:=kK r
 have h2:=je (s:=aJ r) (by omega)
 have h3:(aT (aJ r)).size≤74:=by
  unfold aT
  rw [if_neg (by omega)]
  have h4:=ip (oX (iT (aJ r)))
  have h5:=ai ((aJ r).size:Int)
  rw [ByteArray.size_append]
  unfold iT at h4 ⊢
  rw [ByteArray.size_append]
  omega
 unfold bH
 omega
theorem yv (t:ByteArray) {r:Ty.den ax} (h:eo r=true):ga (t++aT (aJ r)) (t.size:Int) (bH r)=(r,true):=by
 have hz:=kK r
 have hp:=Ez r
 have hl:((aT (aJ r)).size:Int)=bH r:=rfl
 have hs:(t++aT (aJ r)).size=t.size+(aT (aJ r)).size:=ByteArray.size_append ..
 have e:ByteArray.extract (t++aT (aJ r)) (t.size:Int).toNat ((t.size:Int)+bH r).toNat=aT (aJ r):=by
  rw [Int.toNat_natCast,show ((t.size:Int)+bH r).toNat=(t++aT (aJ r)).size by omega]
  exact e9 _ _
 have e2:iO (aT (aJ r))=(aJ r,((aT (aJ r)).size:Int)):=by
  have:=mf ⟨#[]⟩ (t:=aJ r) (by omega)
  rw [KE] at this
  exact this
 unfold ga
 rw [if_pos ⟨by omega,by omega,by omega,by omega⟩,e,e2]
 simp only []
 rw [if_pos hl,sB h]
def Jy (x:Ty.den aB):Bool:=oz x.1&&(decide ((1:Int)≤x.2.1∧x.2.1≤100000)&&(!decide (x.2.2.1<(0:Int))&&(decide ((1:Int)≤x.2.2.2.1∧x.2.2.2.1≤210)&&decide ((1:Int)≤x.2.2.2.2.1∧x.2.2.2.2.1≤1000000))))
theorem FJ (p:Option (Ty.den aB)) (x:Ty.den aB):oV p x=true↔(Jy x=true∧∀ q,p=some q→mN q.1 x.1=true):=by
 unfold oV Jy
 simp only [j6]
 cases p with
 | none=>exact ⟨fun h=>⟨⟨h.1,h.2.1,h.2.2.1,h.2.2.2.1,h.2.2.2.2.1⟩,fun q hq=>(by cases hq)⟩,fun h=>⟨h.1.1,h.1.2.1,h.1.2.2.1,h.1.2.2.2.1,h.1.2.2.2.2,rfl⟩⟩
 | some y=>exact ⟨fun h=>⟨⟨h.1,h.2.1,h.2.2.1,h.2.2.2.1,h.2.2.2.2.1⟩,fun q hq=>(by cases hq;exact h.2.2.2.2.2)⟩,fun h=>⟨h.1.1,h.1.2.1,h.1.2.2.1,h.1.2.2.2.1,h.1.2.2.2.2,h.2 y rfl⟩⟩
def Bb (l:aY):List ByteArray:=l.map (·.1)
theorem Dz:∀ (l:aY) (p:Option (Ty.den aB)),pG oV p l=true↔((∀ f ∈ l,Jy f=true)∧fp (Bb l)∧(∀ q,p=some q→∀ f ∈ l,mN q.1 f.1=true))
 | [],p=>by
  constructor
  · intro _
    exact ⟨fun f h=>(by cases h),List.Pairwise.nil,fun q _ f h=>(by cases h)⟩
  · intro _;rfl
 | g::l,p=>by
  have ih:=Dz l (some g)
  unfold pG
  rw [j6,ih,FJ]
  constructor
  · rintro ⟨⟨h1,h2⟩,h3,h4,h5⟩
    refine ⟨fun f hf=>?_,?_,fun q hq f hf=>?_⟩
    · rcases List.mem_cons.1 hf with e | e
      · rw [e];exact h1
      · exact h3 f e
    · unfold fp Bb
      rw [List.map_cons,List.pairwise_cons]
      refine ⟨fun x hx=>?_,h4⟩
      obtain ⟨f,hf,rfl⟩:=List.mem_map.1 hx
      exact h5 g rfl f hf
    · rcases List.mem_cons.1 hf with e | e
      · rw [e];exact h2 q hq
      · exact qg (h2 q hq) (h5 g rfl f e)
  · rintro ⟨h1,h2,h3⟩
    unfold fp Bb at h2
    rw [List.map_cons,List.pairwise_cons] at h2
    refine ⟨⟨h1 g (oE ..),fun q hq=>h3 q hq g (oE ..)⟩,fun f hf=>h1 f (qy _ hf),h2.2,fun q hq f hf=>?_⟩
    cases hq
    exact h2.1 f.1 (List.mem_map.2 ⟨f,hf,rfl⟩)
theorem EH {l:aY}:nP l=true↔(l.length≤20∧(∀ f ∈ l,Jy f=true)∧fp (Bb l)):=by
 unfold nP
 rw [j6,decide_eq_true_eq,Dz]
 exact ⟨fun h=>⟨by omega,h.2.1,h.2.2.1⟩,fun h=>⟨by omega,h.2.1,h.2.2,fun q hq=>(by cases hq)⟩⟩
end Go.Proofs.YtohaanhjddohmaaGreatDoor.G
namespace Go.Proofs.YtohaanhjddohmaaGreatDoor.G
open Go.V
theorem yR {d:Ty.den a_} (hd:DR d) (s:ByteArray):(aV d s).2=(fT d s).isSome:=by
 rw [vo hd]
 unfold fT
 cases bq d.1 s <;> rfl
end Go.Proofs.YtohaanhjddohmaaGreatDoor.G
namespace Go.Proofs.YtohaanhjddohmaaGreatDoor.G
open Go.V
theorem tk:∀ {l:aY},fp (Bb l)→∀ e ∈ l,tH l e.1=some e
 | [],_,e,h=>by cases h
 | x::l,hk,e,h=>by
  unfold fp Bb at hk
  rw [List.map_cons,List.pairwise_cons] at hk
  rw [tH.eq_2]
  rcases List.mem_cons.1 h with w | w
  · rw [w,cY]
    rfl
  · have hlt:=hk.1 e.1 (List.mem_map.2 ⟨e,w,rfl⟩)
    rw [mH (fun q=>by rw [q,pC] at hlt;cases hlt),aM]
    exact tk hk.2 e w
theorem I8 {st:Ty.den aE} {d:Ty.den a_} (h:gE st d=true) {e:Ty.den aB} (he:e ∈ st.2.1):pK st.2.1 d e.1=((e.1,((fy d e).1.2.2.2.1,((fy d e).1.2.1,()))),0):=by
 unfold gE at h
 simp only [j6] at h
 obtain ⟨_,_,hdir,_,_,hent⟩:=h
 obtain ⟨_,_,hk⟩:=EH.1 hdir
 have hin:=List.all_eq_true.1 hent e he
 unfold qM at hin
 simp only [j6] at hin
 unfold pK
 rw [tk hk e he]
 simp only []
 rw [hin.1,hin.2.1,hin.2.2.2.1]
 rfl
theorem I7 {st:Ty.den aE} {d:Ty.den a_} (h:gE st d=true):cR st.2.1 d=(st.2.1.map fun e=>(e.1,((fy d e).1.2.2.2.1,((fy d e).1.2.1,()))),0):=by
 have key:∀ (r:aY) (acc:gu),(∀ e ∈ r,e ∈ st.2.1)→lU st.2.1 d (r.map (·.1)) acc=(acc++r.map fun e=>(e.1,((fy d e).1.2.2.2.1,((fy d e).1.2.1,()))),0):=by
  intro r
  induction r with
  | nil=>intro acc _;rw [List.map_nil,List.map_nil,List.append_nil];rfl
  | cons e r ih =>
   intro acc hr
   rw [List.map_cons,lU,I8 h (hr e oE)]
   show lU st.2.1 d (r.map (·.1)) (acc++[_])=_
   rw [ih _ fun x hx=>hr x (qy _ hx),sy]
   rfl
 unfold cR
 rw [key st.2.1 [] fun e he=>he,List.nil_append]
end Go.Proofs.YtohaanhjddohmaaGreatDoor.G
namespace Go.Proofs.YtohaanhjddohmaaGreatDoor.G
open Go.V
def B4 (all:bD) (p:Ty.den aD) (i:Nat):Bool:=(p.2.2.2.1.1==3)&&mE p.2.2.2.1 (lG p.2.2.2.1.2.1 (all.take i))
def uG (all:bD):bD→Nat→List Int→List Int
 | [],_,acc=>acc
 | p::r,i,acc=>uG all r (i+1) (bif B4 all p i then acc++[p.2.2.2.1.2.1] else acc)
def kY (all:bD):List Int:=uG all all 0 []
theorem yB (all:bD):∀ (r:bD) (i:Nat) (acc:List Int),(uG all r i acc).length≤acc.length+r.length
 | [],i,acc=>Nat.le_refl _
 | p::r,i,acc=>by
  have:=yB all r (i+1) (bif B4 all p i then acc++[p.2.2.2.1.2.1] else acc)
  unfold uG
  cases c:B4 all p i <;> rw [c] at this <;> simp only [aX,aM,cB,lB] at this ⊢ <;> omega
theorem C4 (all:bD):(kY all).length≤all.length:=by
 have:=yB all all 0 []
 rw [List.length_nil] at this
 unfold kY
 omega
theorem xV {k:Nat} (hk:2 ^ 50≤k) {all:bD} (hl:all.length≤134217728):fh.f k all=some (kY all,()):=by
 unfold fh.f fh.t kY
 refine dZ (L:=fun n i (s:List Int × Nat)=>fh.l0 k n all all all.length i s.1) (R:=fun r s=>some (uG all r s.2 s.1,())) (Ty.dflt aD) all (fun i s=>(s.2:Int)=i∧s.1.length≤s.2) (fun n s hs=>?_) (fun n i s x rest h0 h1 hx hr hs ih=>?_) (n:=k) (s:=([],0)) (by omega) ⟨rfl,Nat.le_refl _⟩
 · simp (disch:=omega) only [fh.l0,fh.b0,aP,aM,uG]
 · obtain ⟨s,j⟩:=s
   obtain ⟨g1,g2⟩:=hs
   simp only [] at g1 g2 ih ⊢
   have iY:=ih (s++[x.2.2.2.1.2.1],j+1) ⟨by simp only [];omega,by simp only [];rw [cB];omega⟩
   have iN:=ih (s,j+1) ⟨by simp only [];omega,by simp only [];omega⟩
   simp only [] at iY iN
   have ho:=qN x.2.2.2.1.2.1 (all.take j)
   have ht:(all.take j).length≤all.length:=by rw [List.length_take];omega
   have e:uG all (x::rest) j s=uG all rest (j+1) (bif B4 all x j then s++[x.2.2.2.1.2.1] else s):=rfl
   rw [e]
   unfold B4
   simp (disch:=first | omega | decide) only [fh.l0,fh.b0,aN h1,aX,aG,hx]
   cases c:x.2.2.2.1.1==3 with
   | false =>
    rw [aM,Bool.false_and,aM,aC (by omega) (by omega)]
    exact iN
   | true =>
    have how:=zO hk (l:=all.take j) (r:=x.2.2.2.1) (GU c) (by omega)
    rw [aX,Bool.true_and,c_ (by omega) (by omega),show i.toNat=j by omega,how,aO]
    simp only []
    rw [uV hk _ (by omega),aO,aC (by omega) (by omega),ba (by omega) (by decide)]
    cases mE x.2.2.2.1 (lG x.2.2.2.1.2.1 (all.take j))
    · exact iN
    · exact iY
end Go.Proofs.YtohaanhjddohmaaGreatDoor.G
namespace Go.Proofs.YtohaanhjddohmaaGreatDoor.G
open Go.V
abbrev B5:=Int × Int × Int × bD
noncomputable def D3 (d:Ty.den a_) (s:B5) (x:Int):B5 :=
 bif !(aV d (aA aI x)).2 then (s.1+1,s.2.1,s.2.2.1,s.2.2.2)
 else bif decide ((cW (aV d (aA aI x)).1).2<((aV d (aA aI x)).1.size:Int)) then (s.1,s.2.1+1,s.2.2.1+(((aV d (aA aI x)).1.size:Int)-(cW (aV d (aA aI x)).1).2),s.2.2.2++eU x (cW (aV d (aA aI x)).1).1)
 else (s.1,s.2.1,s.2.2.1,s.2.2.2++eU x (cW (aV d (aA aI x)).1).1)
noncomputable def Am (d:Ty.den a_) (l:List Int) (s:B5):B5:=l.foldl (D3 d) s
def zg (sl:List Int) (p:Ty.den aD):Bool:=((p.2.2.2.1.1==1)||(p.2.2.2.1.1==2))&&!rt sl p.2.2.2.1.2.1
def pL (sl:List Int):bD→Int→Int
 | [],n=>n
 | p::r,n=>pL sl r (bif zg sl p then n+1 else n)
def HB (live:Bool) (orph:Int) (s:B5):Ty.den v_:=(live,(s.1,(s.2.1,(pL (kY s.2.2.2) s.2.2.2 0,(orph,((s.2.2.2.length:Int),(s.2.2.1,())))))))
def su:ByteArray:=⟨#[108,105,118,101]⟩
noncomputable def wF (d:Ty.den a_):Ty.den v_ :=
 HB (fK (aV d su).1).2 ((pM d (fK (aV d su).1).1.2.1).length:Int) (Am d (fK (aV d su).1).1.2.1 (0,0,0,[]))
theorem zF (s:ByteArray):(fK s).1.2.1.length≤60:=by
 rcases km (fun v=>d5 v=true) ae ((0,([],())):Ty.den bE) s with ⟨r,h1,h2,h3⟩ | h
 · unfold fK
   rw [h3]
   exact (dW (nx:=r.1) (ids:=r.2.1) h1).2.2.2.1
 · unfold fK
   rw [h]
   exact Nat.zero_le _
theorem F5:cW ⟨#[]⟩=([],0):=by
 have h:=jW ⟨#[]⟩
 have e:(⟨#[]⟩:ByteArray).size=0:=rfl
 rw [e] at h
 generalize cW ⟨#[]⟩=q at h
 obtain ⟨l,n⟩:=q
 simp only [] at h
 have h1:l=[]:=List.length_eq_zero_iff.1 (by omega)
 have h2:n=0:=by omega
 rw [h1,h2]
def JA (i:Int) (s:B5):Prop:=0≤s.1∧s.1≤i∧0≤s.2.1∧s.2.1≤i∧0≤s.2.2.1∧s.2.2.1≤i*2097152∧(s.2.2.2.length:Int)≤i*2097152
theorem El {d:Ty.den a_} (hu:dR d.1≤2097152) {i:Int} {s:B5} (x:Int) (h:JA i s):JA (i+1) (D3 d s x):=by
 have hz:=eL d (aA aI x)
 have hl:=jW (aV d (aA aI x)).1
 obtain ⟨h1,h2,h3,h4,h5,h6,h7⟩:=h
 unfold D3
 cases (aV d (aA aI x)).2 with
 | false=>exact ⟨by show 0≤s.1+1;omega,by show s.1+1≤_;omega,h3,by show s.2.1≤_;omega,h5,by show s.2.2.1≤_;omega,by show (s.2.2.2.length:Int)≤_;omega⟩
 | true =>
  rw [ft,aM]
  have hp:((s.2.2.2++eU x (cW (aV d (aA aI x)).1).1).length:Int)≤(i+1)*2097152:=by rw [xS,pX];omega
  cases decide ((cW (aV d (aA aI x)).1).2<((aV d (aA aI x)).1.size:Int)) with
  | true=>exact ⟨h1,by show s.1≤_;omega,by show 0≤s.2.1+1;omega,by show s.2.1+1≤_;omega,by show 0≤s.2.2.1+_;omega,by show s.2.2.1+_≤_;omega,hp⟩
  | false=>exact ⟨h1,by show s.1≤_;omega,h3,by show s.2.1≤_;omega,h5,by show s.2.2.1≤_;omega,hp⟩
theorem zj {k:Nat} (hk:2 ^ 50≤k) {d:Ty.den a_} (hl:d.1.length≤2097152) (hu:dR d.1≤2097152) (hn:i7 d.1≤2097152):eN.f k d=some (wF d,()):=by
 have hz:=eL d su
 have hv:=zF (aV d su).1
 unfold eN.f eN.t wF
 rw [show (⟨#[108,105,118,101]⟩:ByteArray)=su from rfl,jt hk (by omega) (by omega) (by omega),aO]
 simp only []
 rw [uq hk (by omega),aO]
 simp only []
 rw [Bz hk (by omega) (by omega) (by omega),aO]
 generalize fK (aV d su).1=v at hv
 generalize ((pM d v.1.2.1).length:Int)=orph
 obtain ⟨⟨nx,ids,_⟩,live⟩:=v
 simp only [] at hv ⊢
 refine dZ (L:=fun n i (s:B5)=>eN.l0 k n ids.length i d.1 d.2.1 d.2.2.1 d.2.2.2.1 false 0 0 0 0 0 0 live s.1 s.2.1 0 orph 0 s.2.2.1 s.2.2.2 ids) (R:=fun r s=>some (HB live orph (Am d r s),())) (Ty.dflt (.int .i64)) ids JA (fun n s hs=>?_) (fun n i s x rest h0 h1 hx hr hs ih=>?_) (n:=k) (s:=(0,0,0,[])) (by omega) ⟨by simp,by simp,by simp,by simp,by simp,by simp,by simp⟩
 · obtain ⟨h1,h2,h3,h4,h5,h6,h7⟩:=hs
   have hal:s.2.2.2.length≤134217728:=by omega
   have hsl:=C4 s.2.2.2
   simp (disch:=omega) only [eN.l0,eN.b0,aP,aM,xV hk hal,aO]
   show _=some (HB live orph s,())
   unfold HB
   refine dZ (L:=fun n i (c:Int)=>eN.l1 k n s.2.2.2.length i false 0 0 0 0 0 0 live s.1 s.2.1 c orph s.2.2.2.length s.2.2.1 (kY s.2.2.2) s.2.2.2) (R:=fun r c=>some ((live,(s.1,(s.2.1,(pL (kY s.2.2.2) r c,(orph,((s.2.2.2.length:Int),(s.2.2.1,()))))))),())) (Ty.dflt aD) s.2.2.2 (fun i c=>0≤c∧c≤i) (fun n c hc=>?_) (fun n i c x rest g0 g1 gx gr gc ih2=>?_) (n:=k) (s:=0) (by omega) ⟨by simp,by simp⟩
   · simp (disch:=omega) only [eN.l1,eN.b1,aP,aM,pL]
   · have iY:=ih2 (c+1) ⟨by omega,by omega⟩
     have iN:=ih2 c ⟨by omega,by omega⟩
     have e:pL (kY s.2.2.2) (x::rest) c=pL (kY s.2.2.2) rest (bif zg (kY s.2.2.2) x then c+1 else c):=rfl
     simp (disch:=omega) only [eN.l1,eN.b1,aN g1,aX,aG,gx,uN hk,aO,aC,iY,iN,e]
     unfold zg
     cases x.2.2.2.1.1==1 <;> cases x.2.2.2.1.1==2 <;> cases rt (kY s.2.2.2) x.2.2.2.1.2.1 <;> rfl
 · have ih:=ih (D3 d s x) (El hu x hs)
   obtain ⟨h1',h2,h3,h4,h5,h6,h7⟩:=hs
   have hz:=eL d (aA aI x)
   have hsl:=jW (aV d (aA aI x)).1
   have hp:=pX x (cW (aV d (aA aI x)).1).1
   have ht:=jt hk (d:=d) (by omega) (by omega) (by omega) (aA aI x)
   have hs:=pY hk (s:=(aV d (aA aI x)).1) (by omega)
   have hpl:=rD hk x (l:=(cW (aV d (aA aI x)).1).1) (by omega)
   have e:Am d (x::rest) s=Am d rest (D3 d s x):=rfl
   rw [e,← ih]
   simp (disch:=first | omega | decide) only [eN.l0,eN.b0,aN h1,aX,aG,hx,dX k,aO,ht,hs,hpl,ba,aC]
   unfold D3
   cases c:(aV d (aA aI x)).2 with
   | false=>rfl
   | true =>
    simp only [ft,aM]
    cases decide ((cW (aV d (aA aI x)).1).2<((aV d (aA aI x)).1.size:Int)) <;> rfl
end Go.Proofs.YtohaanhjddohmaaGreatDoor.G
namespace Go.Proofs.YtohaanhjddohmaaGreatDoor.G
open Go.V
noncomputable def CP (d:Ty.den a_) (e:Ty.den aB):Ty.den aF:=(e.1,((fy d e).1.2.2.2.1,((fy d e).1.2.1,())))
theorem Fp {dir:aY} {d:Ty.den a_} (h:∀ e ∈ dir,pK dir d e.1=(CP d e,0)):cR dir d=(dir.map (CP d),0):=by
 have key:∀ (r:aY) (acc:gu),(∀ e ∈ r,e ∈ dir)→lU dir d (r.map (·.1)) acc=(acc++r.map (CP d),0):=by
  intro r
  induction r with
  | nil=>intro acc _;rw [List.map_nil,List.map_nil,List.append_nil];rfl
  | cons e r ih =>
   intro acc hr
   rw [List.map_cons,lU,h e (hr e oE)]
   show lU dir d (r.map (·.1)) (acc++[_])=_
   rw [ih _ fun x hx=>hr x (qy _ hx),sy]
   rfl
 unfold cR
 rw [key dir [] fun e he=>he,List.nil_append]
theorem yt (m:Int):∀ (l:gu) (a:Int),Bb (i8 m l a)=l.map (·.1)
 | [],_=>rfl
 | p::l,a=>by
  have:=yt m l (a+bH (bU p))
  unfold Bb at this ⊢
  unfold i8
  rw [List.map_cons,List.map_cons,this]
theorem Ag {d:Ty.den a_} {m:Int}:∀ (l:gu) (pre post:ByteArray),(aV d (aA aI m)).1=pre++(bj (l.map bU)++post)→(∀ p ∈ l,eo (bU p)=true) →
 (∀ e ∈ i8 m l (pre.size:Int),∃ p,fy d e=(bU p,true)∧e.1=p.1)∧(i8 m l (pre.size:Int)).map (CP d)=l
 | [],_,_,_,_=>⟨fun e he=>(by cases he),rfl⟩
 | p::l,pre,post,ht,hr=>by
  have hp:=hr p oE
  have ht2:(aV d (aA aI m)).1=(pre++aT (aJ (bU p)))++(bj (l.map bU)++post):=by
   rw [ht,List.map_cons,bj,sF,sF]
  obtain ⟨i1,i2⟩:=Ag l (pre++aT (aJ (bU p))) post ht2 fun q hq=>hr q (qy _ hq)
  have hz:((pre++aT (aJ (bU p))).size:Int)=(pre.size:Int)+bH (bU p):=by
   rw [ByteArray.size_append]
   unfold bH
   omega
  rw [hz] at i1 i2
  have h0:fy d (p.1,(m,((pre.size:Int),(bH (bU p),(p.2.2.1,())))))=(bU p,true):=by
   unfold fy
   simp only []
   rw [ht2,F4 (by rw [yv pre hp]),yv pre hp]
  unfold i8
  refine ⟨fun e he=>?_,?_⟩
  · rcases List.mem_cons.1 he with w | w
    · rw [w]
      exact ⟨p,h0,rfl⟩
    · exact i1 e w
  · rw [List.map_cons,i2]
    unfold CP
    rw [h0]
    rfl
theorem FR {d:Ty.den a_} {m mark:Int} {l:gu} (ht:(aV d (aA aI m)).1=bj (fq l mark)) (hr:∀ p ∈ l,eo (bU p)=true) (hk:fp (l.map (·.1))):cR (i8 m l 0) d=(l,0):=by
 have ht2:(aV d (aA aI m)).1=(⟨#[]⟩:ByteArray)++(bj (l.map bU)++bj [gq 5 mark (l.map bU)]):=by
  rw [ht,show (⟨#[]⟩:ByteArray)=dB [] from rfl,tN]
  unfold fq
  rw [qK]
 obtain ⟨h1,h2⟩:=Ag l ⟨#[]⟩ _ ht2 hr
 have h1:∀ e ∈ i8 m l 0,∃ p,fy d e=(bU p,true)∧e.1=p.1:=h1
 have h2:(i8 m l 0).map (CP d)=l:=h2
 rw [Fp fun e he=>?_,h2]
 obtain ⟨p,p1,p2⟩:=h1 e he
 unfold pK
 rw [tk (by rw [yt];exact hk) e he]
 simp only []
 unfold CP
 rw [p1]
 simp only []
 rw [show seq (bU p).2.2.1 e.1=true by rw [p2];exact cY _]
 rfl
theorem HP {d:Ty.den a_} {e:Ty.den aB} (h:(fy d e).2=true):eo (fy d e).1=true:=by
 unfold fy ga at h ⊢
 by_cases c1:0≤e.2.2.1∧e.2.2.1≤((aV d (aA aI e.2.1)).1.size:Int)∧1≤e.2.2.2.1∧e.2.2.2.1≤((aV d (aA aI e.2.1)).1.size:Int)-e.2.2.1
 · rw [if_pos c1] at h ⊢
   by_cases c2:(iO (ByteArray.extract (aV d (aA aI e.2.1)).1 (Int.toNat e.2.2.1) (Int.toNat (e.2.2.1+e.2.2.2.1)))).2=e.2.2.2.1
   · rw [if_pos c2] at h ⊢
     exact (DG (Prod.ext rfl h)).1
   · rw [if_neg c2] at h
     cases h
 · rw [if_neg c1] at h
   cases h
theorem v8 {r:Ty.den ax} (h:eo r=true) (hk:r.1=1∨r.1=4):eo (bU (r.2.2.1,(r.2.2.2.1,(r.2.1,()))))=true:=by
 have hb:(r.1==1||r.1==4)=true:=by rcases hk with q | q <;> rw [q] <;> rfl
 unfold eo at h
 rw [hb,aX] at h
 simp only [j6] at h
 unfold eo bU
 rw [show ((4:Int)==1||(4:Int)==4)=true from rfl]
 simp only [aX]
 rw [h.1,h.2.1,h.2.2.2.2]
 rfl
theorem yn {st:Ty.den aE} {d:Ty.den a_} (h:gE st d=true):(∀ p ∈ (cR st.2.1 d).1,eo (bU p)=true)∧fp ((cR st.2.1 d).1.map (·.1)):=by
 rw [I7 h]
 have h':=h
 unfold gE at h'
 simp only [j6] at h'
 obtain ⟨_,_,hdir,_,_,hent⟩:=h'
 obtain ⟨_,_,hk⟩:=EH.1 hdir
 refine ⟨fun p hp=>?_,?_⟩
 · obtain ⟨e,he,rfl⟩:=List.mem_map.1 hp
   have hin:=List.all_eq_true.1 hent e he
   unfold qM at hin
   simp only [j6,Bool.or_eq_true,beq_iff_eq] at hin
   have:=v8 (HP hin.1) hin.2.2.2.1
   rw [dS.1 hin.2.1] at this
   exact this
 · rw [List.map_map]
   exact hk
theorem u1 (hb:ByteArray→ByteArray) (st:Ty.den aE) (d:Ty.den a_) (l:gu):(dy hb st d l).1=pk st∨(dy hb st d l).1=(g9 st.1.1,(i8 st.1.1 l 0,(st.2.2.1,(0,(0,()))))):=by
 unfold dy
 generalize fW st.1.1 l (st.2.2.1-1) d=a
 cases a.2 != 0 with
 | true=>exact .inl rfl
 | false =>
  simp only [aM]
  generalize bY (aA aI (st.1.1+1)) a.1=b
  cases b.2 != 0 with
  | true=>exact .inl rfl
  | false =>
   simp only [aM]
   generalize kM hb st.1.1 b.1=e
   cases e.2 != 0 with
   | true=>exact .inl rfl
   | false =>
    simp only [aM]
    generalize cV (g9 st.1.1) e.1=f
    cases f.2 != 0 with
    | true=>exact .inl rfl
    | false=>exact .inr rfl
structure MD (st:Ty.den aE) (d:Ty.den a_):Prop where
 store:gE st d=true
 dump:(cR st.2.1 d).2=0
 disk:DR (ap st d).2.1
 form:(ap st d).1=(g9 st.1.1,(i8 st.1.1 (cR st.2.1 d).1 0,(st.2.2.1,(0,(0,())))))
 segs:(iG (ap st d).2.1 [st.1.1,st.1.1+1]:Int)=mX (cR st.2.1 d).1 (st.2.2.1-1)
 text:fT (ap st d).2.1 (aA aI st.1.1)=some (bj (fq (cR st.2.1 d).1 (st.2.2.1-1)))
 next:fT (ap st d).2.1 (aA aI (st.1.1+1))=some ByteArray.empty
 live:fT (ap st d).2.1 iy=some (ae (g9 st.1.1))
 lo:LE.le (α:=Int) 1 st.1.1
 hi:LE.le (α:=Int) (st.1.1+2) 100000
theorem p0 {st:Ty.den aE} {d:Ty.den a_} (h:(ap st d).2.2=0):MD st d:=by
 have h0:=h
 unfold ap at h
 cases c1:gE st d with
 | false =>
  rw [c1] at h
  exact absurd h (by show (4:Int)≠0;decide)
 | true =>
  rw [c1] at h
  obtain ⟨g1,g2,g3⟩:=jF c1
  obtain ⟨n1,n2,n3,_⟩:=lI (n:=st.1.1) (ids:=st.1.2.1) g1.live
  have h60:st.1.2.1.length≤60:=(dW (nx:=st.1.1) (ids:=st.1.2.1) g1.live).2.2.2.1
  simp only [ft,aM] at h
  by_cases c2:st.1.1+2 > (100000:Int)
  · rw [aN c2] at h
    exact absurd h (by show (5:Int)≠0;decide)
  · rw [aP c2] at h
    simp only [aM] at h
    have hz:=jZ st.2.1 d
    cases c3:(cR st.2.1 d).2 != 0 with
    | true =>
     rw [c3] at h
     exact absurd h (by intro q;rw [show (cR st.2.1 d).2=0 from q] at c3;cases c3)
    | false =>
     rw [c3] at h
     simp only [aM] at h
     have e:ap st d=dy (xR st.1.1) st d (cR st.2.1 d).1:=by
      unfold ap
      rw [c1,aP c2,c3]
      rfl
     obtain ⟨e1,e2⟩:=uI (xR st.1.1) st d (cR st.2.1 d).1
     have hIV:IV ((st.1,([],st.2.2)),(d,0)):=⟨g1.disk,h60,Nat.zero_le _,fun x hx=>(by cases hx),Int.natCast_nonneg _⟩
     obtain ⟨q1,q2⟩:=tO (hb:=xR st.1.1) hIV g1.live (Int.not_lt.1 c2) (l:=(cR st.2.1 d).1) (by omega)
     have hc:(dy (xR st.1.1) (st.1,([],st.2.2)) d (cR st.2.1 d).1).2.2=0:=by rw [← e1];exact h
     obtain ⟨w1,_,w3,w4,w5,w6⟩:=q2 hc
     have hf:(dy (xR st.1.1) st d (cR st.2.1 d).1).1.1=g9 st.1.1:=by rw [e2,w5]
     refine ⟨c1,jb c3,?_,?_,?_,?_,?_,?_,n1,Int.not_lt.1 c2⟩
     · rw [e,e1];exact q1.disk
     · rw [e]
       rcases u1 (xR st.1.1) st d (cR st.2.1 d).1 with w | w
       · exfalso
         rw [w] at hf
         have hf:(st.1.1+2,st.1.2)=g9 st.1.1:=hf
         have h3:st.1.2.1=[st.1.1,st.1.1+1]:=by
          have:=congrArg (fun v:Ty.den bE=>v.2.1) hf
          exact this
         have:=(n3 st.1.1 (by rw [h3];exact oE)).2
         exact absurd this (Int.lt_irrefl _)
       · exact w
     · rw [w5] at w1
       rw [e,e1]
       exact w1
     · rw [e,e1];exact w3
     · rw [e,e1];exact w4
     · rw [e,e1];exact w6
theorem ra {st:Ty.den aE} {d:Ty.den a_} (h:MD st d):cR (ap st d).1.2.1 (ap st d).2.1=((cR st.2.1 d).1,0):=by
 obtain ⟨k1,k2⟩:=yn h.store
 rw [h.form]
 refine FR (mark:=st.2.2.1-1) ?_ k1 k2
 rw [sx h.disk,h.text]
 rfl
theorem wL {sl:List Int}:∀ {l:bD} (n:Int),(∀ p ∈ l,((p.2.2.2.1.1==1)||(p.2.2.2.1.1==2))=false)→pL sl l n=n
 | [],_,_=>rfl
 | p::l,n,h=>by
  unfold pL zg
  rw [h p oE]
  exact wL n fun q hq=>h q (qy _ hq)
theorem Hc {b:Int} (h:1≤b) (g:b≤1000001):0≤b-1∧b-1≤1000000:=by omega
theorem BP {st:Ty.den aE} {d:Ty.den a_} (h:MD st d):(wF (ap st d).2.1).2.2.2.1=0:=by
 obtain ⟨k1,k2⟩:=yn h.store
 have hlo:=h.lo
 have hhi:=h.hi
 have hl2:d5 (g9 st.1.1)=true:=Ar h.lo h.hi
 have e1:(aV (ap st d).2.1 su).1=ae (g9 st.1.1):=by rw [show su=iy from rfl,sx h.disk,h.live];rfl
 have ts:(aV (ap st d).2.1 (aA aI st.1.1))=(bj (fq (cR st.2.1 d).1 (st.2.2.1-1)),true):=Prod.ext (by rw [sx h.disk,h.text];rfl) (by rw [yR h.disk,h.text];rfl)
 have tn:(aV (ap st d).2.1 (aA aI (st.1.1+1)))=(⟨#[]⟩,true):=Prod.ext (by rw [sx h.disk,h.next];rfl) (by rw [yR h.disk,h.next];rfl)
 have hko:∀ r ∈ fq (cR st.2.1 d).1 (st.2.2.1-1),eo r=true:=by
  obtain ⟨b1,b2⟩:=pH h.store
  have h20:=p6 h.store
  have hz:=jZ st.2.1 d
  intro r hr
  unfold fq at hr
  rcases List.mem_append.1 hr with q | q
  · obtain ⟨p,hp,rfl⟩:=List.mem_map.1 q
    exact k1 p hp
  · rw [List.mem_singleton.1 q]
    have hs:=HD ((cR st.2.1 d).1.map bU)
    unfold eo gq
    rw [show ((5:Int)==1||(5:Int)==4)=false from rfl,show ((5:Int)==2)=false from rfl,show ((5:Int)==3)=false from rfl,show ((5:Int)==5)=true from rfl]
    simp only [aM,aX]
    rw [aN (show (0:Int)≤(((cR st.2.1 d).1.map bU).length:Int)∧(((cR st.2.1 d).1.map bU).length:Int)≤20 by rw [List.length_map];omega),aN hs,aN (Hc b1 b2),show seq ByteArray.empty ⟨#[]⟩=true from cY _]
    rfl
 obtain ⟨sf1,sf2⟩:=AF hko
 have kinds:∀ p ∈ eU st.1.1 (cW (bj (fq (cR st.2.1 d).1 (st.2.2.1-1)))).1,((p.2.2.2.1.1==1)||(p.2.2.2.1.1==2))=false:=fun p hp=>by
  unfold eU at hp
  obtain ⟨x,hx,rfl⟩:=List.mem_map.1 hp
  have hm:x.2.2.1 ∈ fq (cR st.2.1 d).1 (st.2.2.1-1):=by rw [← sf1];exact List.mem_map.2 ⟨x,hx,rfl⟩
  show ((x.2.2.1.1==1)||(x.2.2.1.1==2))=false
  unfold fq at hm
  rcases List.mem_append.1 hm with q | q
  · obtain ⟨p,_,e⟩:=List.mem_map.1 q
    rw [← e]
    rfl
  · rw [List.mem_singleton.1 q]
    rfl
 unfold wF
 rw [e1,xj hl2]
 show pL (kY (Am (ap st d).2.1 [st.1.1,st.1.1+1] (0,0,0,[])).2.2.2) (Am (ap st d).2.1 [st.1.1,st.1.1+1] (0,0,0,[])).2.2.2 0=0
 have e2:(Am (ap st d).2.1 [st.1.1,st.1.1+1] (0,0,0,[])).2.2.2=eU st.1.1 (cW (bj (fq (cR st.2.1 d).1 (st.2.2.1-1)))).1:=by
  unfold Am
  rw [List.foldl_cons,List.foldl_cons,List.foldl_nil]
  unfold D3
  rw [ts,tn]
  simp only []
  rw [sf2,F5,aP (show ¬ (((bj (fq (cR st.2.1 d).1 (st.2.2.1-1))).size:Int)<((bj (fq (cR st.2.1 d).1 (st.2.2.1-1))).size:Int)) by omega),aP (show ¬ ((0:Int)<((⟨#[]⟩:ByteArray).size:Int)) by decide)]
  simp only [ft,aM]
  show ([]++eU st.1.1 _)++eU (st.1.1+1) []=_
  rw [List.nil_append,show eU (st.1.1+1) []=[] from rfl,List.append_nil]
 rw [e2]
 exact wL 0 kinds
theorem Jg {st:Ty.den aE} {d:Ty.den a_} (c1:(ap st d).2.2=0) (c2:(ap (ap st d).1 (ap st d).2.1).2.2=0) :
 (cR (ap (ap st d).1 (ap st d).2.1).1.2.1 (ap (ap st d).1 (ap st d).2.1).2.1).1=(cR (ap st d).1.2.1 (ap st d).2.1).1 ∧
 BO (ap st d).1 (ap st d).2.1=0:=by
 have h1:=p0 c1
 have h2:=p0 c2
 refine ⟨by rw [ra h2],?_⟩
 have hd:=ra h1
 obtain ⟨b1,b2⟩:=pH h1.store
 unfold BO
 rw [h2.dump,h2.store]
 show aH _=0
 have hs:(ja (ap st d).2.1 60 (ap st d).1.1.2.1:Int)=mX (cR st.2.1 d).1 (st.2.2.1-1):=by
  rw [h1.form]
  show (ja (ap st d).2.1 60 [st.1.1,st.1.1+1]:Int)=_
  rw [nc h1.disk _ _ (show 2≤60 by decide),h1.segs]
 have hb:(ap st d).1.2.2.1=st.2.2.1:=by rw [h1.form]
 rw [hs,hd,hb,aC (n:=st.2.2.1-1) (by omega) (by omega),Int.sub_self]
 rfl
end Go.Proofs.YtohaanhjddohmaaGreatDoor.G
namespace Go.Proofs.YtohaanhjddohmaaGreatDoor.G
open Go.V
theorem Ds (g:Ty.den a_→RD) (q:RD):wk g (tl q)=tl (d7 q g):=by
 have e:=gn q.2
 unfold wk d7 tl
 simp only []
 rw [e]
 cases c:q.2==0 with
 | true=>rfl
 | false=>rfl
theorem C6 (c:Int):(fR c==2)=(c==2):=by
 unfold fR
 by_cases c0:c=0
 · subst c0;rfl
 by_cases c1:c=1
 · subst c1;rfl
 by_cases c2:c=2
 · subst c2;rfl
 rw [mJ c0,mJ c1,mJ c2]
 rfl
def xE (m:Int):nK→Int→aY
 | [],_=>[]
 | r::l,a=>(bif r.1==4 then [(r.2.2.1,(m,(a,(bH r,(r.2.1,())))))] else [])++xE m l (a+bH r)
theorem uB (m:Int) (mk:Ty.den ax) (hm:mk.1=5):∀ (l:gu) (a:Int),xE m (l.map bU++[mk]) a=i8 m l a
 | [],a=>by
  show (bif mk.1==4 then [_] else [])++[]=_
  rw [hm]
  rfl
 | p::l,a=>by
  show [_]++xE m (l.map bU++[mk]) (a+bH (bU p))=_
  rw [uB m mk hm l]
  rfl
theorem xZ {k:Nat} (hk:2 ^ 50≤k) {d:Ty.den a_} (hd:DR d) (m:Int) (hm0:1≤m) (hm1:m≤99999) {rs:nK} (hr:rs.length≤1000):aq.f k (wO (d,0)) m rs =
 some (wO (tl (d7 (d7 (uE (aA aI m) rs (bY (aA aI m) d)) fun y=>iq y (aA aI m)) (bY (aA aI (m+1))))),(xE m rs 0,())):=by
 have hz:=tw m
 have hz1:=tw (m+1)
 unfold aq.f aq.t
 rw [dX,aO]
 simp only []
 rw [rG hk (d,0) hd (by omega),aO,vB]
 simp only []
 refine dZ (L:=fun n i (s:RD × Int × aY)=>aq.l0 k n m s.2.1 rs rs.length i s.1.1.1 s.1.1.2.1 s.1.1.2.2.1 s.1.1.2.2.2.1 (fR s.1.2) s.2.2)
  (R:=fun r s=>some (wO (tl (d7 (d7 (uE (aA aI m) r s.1) fun y=>iq y (aA aI m)) (bY (aA aI (m+1))))),(s.2.2++xE m r s.2.1,()))) (Ty.dflt ax) rs (fun i s=>DR s.1.1∧0≤s.2.1∧s.2.1≤211*i∧(s.2.2.length:Int)≤i) (fun n s hs=>?_) (fun n i s x rest h0 h1 hx hr' hs ih=>?_) (n:=k) (s:=(bY (aA aI m) d,0,[])) (by omega) ⟨jR _ _ hd,Int.le_refl _,by show (0:Int)≤211*0;omega,by show (0:Int)≤0;omega⟩
 · obtain ⟨q,a,o⟩:=s
   obtain ⟨g1,g2,g3,g4⟩:=hs
   simp only [aq.l0,aq.b0]
   rw [aP (by omega),aM,dX,aO]
   simp only []
   rw [show ((q.1.1,(q.1.2.1,(q.1.2.2.1,(q.1.2.2.2.1,())))),(fR q.2,()))=wO (tl q) from rfl,yO hk (tl q) g1,aO,Ds]
   simp only []
   rw [dX,aO,aC (n:=m+1) (by omega) (by omega)]
   simp only []
   rw [rG hk (tl (d7 q fun y=>iq y (aA aI m))) (iJ g1 fun x hx=>nB hx _) (by omega),aO,Ds]
   show _=some (_,(o++[],()))
   rw [List.append_nil]
   rfl
 · obtain ⟨q,a,o⟩:=s
   obtain ⟨g1,g2,g3,g4⟩:=hs
   simp only [] at g1 g2 g3 g4 ih ⊢
   have hrl:=ky x
   have hln:((aT (aJ x)).size:Int)=bH x:=rfl
   simp only [aq.l0,aq.b0]
   rw [aN h1,aX,aG h0 h1,hx,mw hk,aO]
   simp only []
   rw [mR hk,aO]
   simp only []
   rw [dX,aO]
   simp only []
   rw [show ((q.1.1,(q.1.2.1,(q.1.2.2.1,(q.1.2.2.2.1,())))),(fR q.2,()))=wO (tl q) from rfl,yL hk (tl q) g1 _ (by omega),aO,Ds]
   simp only []
   have hD:DR (d7 q fun y=>h_ y (aA aI m) (aT (aJ x))).1:=iJ g1 fun y hy=>o5 hy _ _
   rw [hln,aC (n:=a+bH x) (by omega) (by omega),aC (n:=i+1) (by omega) (by omega),ba (by omega) (by decide)]
   have ihT:=ih ((d7 q fun y=>h_ y (aA aI m) (aT (aJ x))),a+bH x,o++[(x.2.2.1,(m,(a,(bH x,(x.2.1,())))))]) ⟨hD,by simp only [];omega,by simp only [];omega,by simp only [];rw [cB];omega⟩
   have ihF:=ih ((d7 q fun y=>h_ y (aA aI m) (aT (aJ x))),a+bH x,o) ⟨hD,by simp only [];omega,by simp only [];omega,by simp only [];omega⟩
   show (bif x.1==4 then _ else _)=some (wO (tl (d7 (d7 (uE (aA aI m) rest (d7 q fun y=>h_ y (aA aI m) (aT (aJ x)))) fun y=>iq y (aA aI m)) (bY (aA aI (m+1))))),(o++((bif x.1==4 then [(x.2.2.1,(m,(a,(bH x,(x.2.1,())))))] else [])++xE m rest (a+bH x)),()))
   cases x.1==4 with
   | true =>
    rw [aX,aX,← sy]
    exact ihT
   | false =>
    rw [aM,aM,List.nil_append]
    exact ihF
theorem FG (s:ByteArray) (x:Ty.den a_):tl (cD [s] x)=tl (iI s x):=by
 show tl (d7 (iI s x) (cD []))=_
 unfold d7
 cases c:(iI s x).2==0 with
 | true =>
  rw [zQ c]
  rfl
 | false=>rfl
theorem zT {k:Nat} (hk:2 ^ 50≤k) {q:RD} (hq:DR q.1) (m:Int):dG.f k (wO (tl q)) m=some (wO (tl (d7 q (kM (xR m) m))),()):=by
 unfold dG.f dG.t
 rw [show (wO (tl q)).2.1=(tl q).2 from rfl,Bv]
 cases c:q.2 != 0 with
 | true =>
  rw [aX]
  unfold d7
  rw [show (q.2==0)=false by unfold bne at c;simpa using c]
  rfl
 | false =>
  have c0:=jb c
  have hu:LE.le (α:=Int) (dR q.1.1) 100000:=Int.le_trans hq.use hq.cap1
  have hn:=hq.sz.n
  have hl:=hq.sz.l
  have hz:=eL q.1 (aA aI m)
  have hb:(q.2==0)=true:=beq_iff_eq.2 c0
  rw [aM,dX,aO,zQ hb]
  simp only []
  rw [show (wO (q.1,0)).1=q.1 from rfl,jt hk (by omega) (by omega) (by omega),aO]
  simp only []
  rw [xc hk m (by omega),aO]
  simp only []
  rw [mM,aO]
  have hhl:=vU m (s:=(aV q.1 (aA aI m)).1) (by omega)
  rw [um hk hhl,aO]
  simp only []
  have hsz:=lw (fo m (aV q.1 (aA aI m)).1).1
  have hhz:(aA bg m).size≤1099511627776:=by
   unfold aA
   by_cases h:(1:Int)≤m∧m≤100000
   · rw [aN h,aX,ByteArray.size_append]
     have:=kq (n:=m) (by omega) (by omega)
     have:bg.size=4:=rfl
     omega
   · rw [aP h]
     exact Nat.zero_le _
  rw [vm hk (q.1,0) hq hhz (by omega),aO,vB]
  simp only []
  unfold d7 kM
  rw [hb,aX,show xR m (aV q.1 (aA aI m)).1=bu (fo m (aV q.1 (aA aI m)).1).1 from rfl]
  have hD:=lq (aA bg m) (bu (fo m (aV q.1 (aA aI m)).1).1) q.1 hq
  generalize l7 (aA bg m) (bu (fo m (aV q.1 (aA aI m)).1).1) q.1=f at hD ⊢
  rw [show (wO (tl f)).2.1=fR f.2 from rfl,C6]
  cases c2:f.2==2 with
  | false=>rfl
  | true =>
   rw [aX,aX,aO]
   simp only []
   rw [show ((wO (tl f)).1,((0:Int),()))=wO (f.1,0) from rfl,lb hk (f.1,0) hD,aO,vB,FG]
theorem HF (d:Ty.den a_) (s:ByteArray):(pW d s).2≠2:=by
 unfold pW iR
 have hb:(jd d).2≠2:=by
  unfold jd
  cases !gw d with
  | true=>show (5:Int)≠2;decide
  | false =>
   cases d.2.2.2.1 with
   | true=>show (1:Int)≠2;decide
   | false =>
    cases d.2.2.1==0 with
    | true=>show (1:Int)≠2;decide
    | false=>cases decide ((d.2.2.1:Int) > 0) <;> (show (0:Int)≠2;decide)
 cases (jd d).2 != 0 with
 | true=>exact hb
 | false =>
  show (ub s d.1 d.2.1).2≠2
  unfold ub
  cases (bq d.1 s).isNone with
  | true=>show (3:Int)≠2;decide
  | false=>show (0:Int)≠2;decide
theorem FW (hb:ByteArray→ByteArray) (m:Int) (d:Ty.den a_):(kM hb m d).2≠2:=by
 unfold kM
 generalize l7 (aA bg m) (hb (aV d (aA aI m)).1) d=f
 cases c:f.2==2 with
 | false=>exact beq_eq_false_iff_ne.1 c
 | true =>
  show (d7 (iI (aA bg m) f.1) (cD [])).2≠2
  have hg:(iI (aA bg m) f.1).2≠2:=by
   unfold iI
   cases (bq f.1.1 (aA bg m)).isSome with
   | true=>exact HF _ _
   | false=>show (0:Int)≠2;decide
  unfold d7
  cases (iI (aA bg m) f.1).2==0 with
  | true=>show (0:Int)≠2;decide
  | false=>exact hg
theorem CV {ns:List ByteArray} {r:RD} (h:(r.2==2)=false):kg ns r=r:=by
 unfold kg
 rw [h]
 rfl
theorem BD (hb:ByteArray→ByteArray) (st:Ty.den aE) (d:Ty.den a_) (l:gu) {a q3 q4:RD} (ea:a=fW st.1.1 l (st.2.2.1-1) d) (e3:q3=d7 (d7 a (bY (aA aI (st.1.1+1)))) (kM hb st.1.1)) (e4:q4=d7 q3 (cV (g9 st.1.1))) :
 dy hb st d l=bif q3.2==0 then (bif q4.2 != 0 then (pk st,kg (ig st.1.1) (tl q4)) else ((g9 st.1.1,(i8 st.1.1 l 0,(st.2.2.1,(0,(0,()))))),tl (oY st.1.2.1 q4.1))) else (pk st,kg (ig st.1.1) (tl q3)):=by
 have sz:∀ (r:RD) (f:Ty.den a_→RD),(r.2 != 0)=false→d7 r f=f r.1:=fun r f h=>by unfold d7;rw [jb h];rfl
 have sn:∀ (r:RD) (f:Ty.den a_→RD),(r.2 != 0)=true→d7 r f=r:=fun r f h=>by
  unfold d7
  rw [show (r.2==0)=false by unfold bne at h;simpa using h]
  rfl
 have nz:∀ r:RD,(r.2 != 0)=true→(r.2==0)=false:=fun r h=>by unfold bne at h;simpa using h
 unfold dy
 rw [← ea]
 cases ca:a.2 != 0 with
 | true =>
  rw [sn a _ ca,sn a _ ca] at e3
  rw [e3,nz a ca]
  rfl
 | false =>
  rw [sz a _ ca] at e3
  simp only [aM]
  generalize bY (aA aI (st.1.1+1)) a.1=b at e3 ⊢
  cases cb:b.2 != 0 with
  | true =>
   rw [sn b _ cb] at e3
   rw [e3,nz b cb]
   rfl
  | false =>
   rw [sz b _ cb] at e3
   simp only [aM]
   have h2:=FW hb st.1.1 b.1
   rw [← e3] at h2 ⊢
   cases ce:q3.2 != 0 with
   | true =>
    rw [nz q3 ce]
    simp only [aX,aM]
    rw [CV]
    show (fR q3.2==2)=false
    rw [C6]
    exact mJ h2
   | false =>
    rw [sz q3 _ ce] at e4
    rw [← e4,jb ce]
    rfl
theorem xr {k:Nat} (hk:2 ^ 50≤k) {st:Ty.den aE} {d:Ty.den a_} (hl:d5 st.1=true) (hd:DR d) (hn:LE.le (α:=Int) (st.1.1+2) 100000) (hb0:LE.le (α:=Int) 1 st.2.2.1) (hb1:LE.le (α:=Int) st.2.2.1 1000001) {l:gu} (hlen:l.length≤900) :
 br.f k st (d,(0,())) l=some ((dy (xR st.1.1) st d l).1,(wO (dy (xR st.1.1) st d l).2,())):=by
 obtain ⟨n1,n2,n3,_⟩:=lI (n:=st.1.1) (ids:=st.1.2.1) hl
 have h60:st.1.2.1.length≤60:=(dW (nx:=st.1.1) (ids:=st.1.2.1) hl).2.2.2.1
 unfold br.f br.t
 rw [sd hk (by omega),aO,aC (n:=st.2.2.1-1) (by omega) (by omega),aC (n:=st.1.1+2) (by omega) (by omega),aC (n:=st.1.1+1) (by omega) (by omega)]
 simp only []
 have hkl:(fq l (st.2.2.1-1)).length≤1000:=by
  unfold fq
  rw [xS,List.length_map]
  show l.length+1≤1000
  omega
 have em:xE st.1.1 (fq l (st.2.2.1-1)) 0=i8 st.1.1 l 0:=uB st.1.1 _ rfl l 0
 rw [show ((d,((0:Int),())):Ty.den az)=wO (d,0) from rfl,xZ hk hd st.1.1 n1 (by omega) hkl,aO,em]
 simp only []
 have ea:(d7 (uE (aA aI st.1.1) (fq l (st.2.2.1-1)) (bY (aA aI st.1.1) d)) fun y=>iq y (aA aI st.1.1))=fW st.1.1 l (st.2.2.1-1) d:=rfl
 rw [ea]
 have a0:DR (fW st.1.1 l (st.2.2.1-1) d).1:=C2 _ _ _ hd
 have hq2:DR (d7 (fW st.1.1 l (st.2.2.1-1) d) (bY (aA aI (st.1.1+1)))).1:=iJ a0 fun x hx=>jR _ _ hx
 rw [zT hk hq2,aO]
 simp only []
 have hq3:DR (d7 (d7 (fW st.1.1 l (st.2.2.1-1) d) (bY (aA aI (st.1.1+1)))) (kM (xR st.1.1) st.1.1)).1:=iJ hq2 fun x hx=>by
  unfold kM
  cases (l7 (aA bg st.1.1) (xR st.1.1 (aV x (aA aI st.1.1)).1) x).2==2 with
  | true=>exact lL _ _ (lq _ _ _ hx)
  | false=>exact lq _ _ _ hx
 rw [BD (xR st.1.1) st d l rfl rfl rfl]
 generalize d7 (d7 (fW st.1.1 l (st.2.2.1-1) d) (bY (aA aI (st.1.1+1)))) (kM (xR st.1.1) st.1.1)=q3 at hq3 ⊢
 rw [show (wO (tl q3)).2.1=fR q3.2 from rfl,gn]
 have clean:∀ q:RD,DR q.1→((ao.f k st.1.1).bind fun r5=>((ao.f k (st.1.1+1)).bind fun r6=>((df.f k st.1.1).bind fun r7=>((aa.f k (wO (tl q)) [(⟨#[116,101,109,112]⟩:ByteArray),r5.1,r6.1,r7.1]).bind fun r8=>(some (((st.1.1+2,st.1.2),st.2),r8))))))=(some (pk st,(wO (kg (ig st.1.1) (tl q)),())):Option (Ty.den aE × Ty.den az × Unit)):=fun q hq=>by
  rw [dX,aO,dX,aO,mM,aO]
  simp only []
  rw [show [(⟨#[116,101,109,112]⟩:ByteArray),aA aI st.1.1,aA aI (st.1.1+1),aA bg st.1.1]=ig st.1.1 from rfl,C3 hk (tl q) hq (l:=ig st.1.1) (show 4≤1000 by decide),aO]
  rfl
 cases c3:q3.2==0 with
 | false =>
  have c3':(fR q3.2 != 0)=true:=by unfold bne;rw [gn,c3];rfl
  simp only [aM]
  rw [c3',aX]
  exact clean q3 hq3
 | true =>
  simp only [aX]
  rw [show (((st.1.1+2:Int),([st.1.1,st.1.1+1],())):Ty.den bE)=g9 st.1.1 from rfl,xl hk (tl q3) hq3 (v:=g9 st.1.1) (show 2≤1073741824 by decide),aO,Ds]
  simp only []
  have hq4:DR (d7 q3 (cV (g9 st.1.1))).1:=iJ hq3 fun x hx=>lX _ _ hx
  generalize d7 q3 (cV (g9 st.1.1))=q4 at hq4 ⊢
  rw [show (wO (tl q4)).2.1=(tl q4).2 from rfl,Bv]
  cases c4:q4.2 != 0 with
  | true =>
   rw [aX,aX]
   exact clean q4 hq4
  | false =>
   rw [aM,aM,zQ (beq_iff_eq.2 (jb c4))]
   have key:∀ r:RD,DR r.1→br.l0 k k st.1.2.1.length 0 [st.1.1,st.1.1+1] (i8 st.1.1 l 0) (st.1.1+2) st.2.2.1 0 0 r.1.1 r.1.2.1 r.1.2.2.1 r.1.2.2.2.1 r.2 st.1.2.1=some ((g9 st.1.1,(i8 st.1.1 l 0,(st.2.2.1,(0,(0,()))))),(wO (wk (oY st.1.2.1) r),())):=fun r hr=>by
    refine dZ (L:=fun n i (x:RD)=>br.l0 k n st.1.2.1.length i [st.1.1,st.1.1+1] (i8 st.1.1 l 0) (st.1.1+2) st.2.2.1 0 0 x.1.1 x.1.2.1 x.1.2.2.1 x.1.2.2.2.1 x.2 st.1.2.1) (R:=fun q x=>some ((g9 st.1.1,(i8 st.1.1 l 0,(st.2.2.1,(0,(0,()))))),(wO (wk (oY q) x),()))) (Ty.dflt (.int .i64)) st.1.2.1 (fun i x=>DR x.1) (fun n x hx=>?_) (fun n i x y rest h0 h1 hy hr' hx ih=>?_) (n:=k) (s:=r) (by omega) hr
    · simp only [br.l0,br.b0]
      rw [aP (by omega),aM,show oY []=fun d=>(d,0) from rfl,CW]
      rfl
    · simp only [br.l0,br.b0]
      rw [aN h1,aX,aG h0 h1,hy,dX,aO]
      simp only []
      rw [show ((x.1.1,(x.1.2.1,(x.1.2.2.1,(x.1.2.2.2.1,())))),(x.2,()))=wO x from rfl,lb hk x hx,aO,mM,aO]
      simp only []
      rw [lb hk _ (sM hx (ni _)),aO,aC (n:=i+1) (by omega) (by omega)]
      have e:wk (oY (y::rest)) x=wk (oY rest) (wk (iI (aA bg y)) (wk (iI (aA aI y)) x)):=by
       have e1:oY (y::rest)=fun d=>d7 (cD [aA aI y,aA bg y] d) (oY rest):=rfl
       rw [e1,tW,zJ,zJ,show cD []=fun d=>(d,0) from rfl,CW]
      rw [e]
      exact ih _ (sM (sM hx (ni _)) (ni _))
   have:=key (q4.1,0) hq4
   rw [vB] at this
   exact this
theorem t6 {k:Nat} (hk:2 ^ 50≤k) {st:Ty.den aE} {d:Ty.den a_} (hd:ta d) (h1:st.1.2.1.length≤1073741824) (h2:st.2.1.length≤536870912):jH.f k st d=some (oS (ap st d)):=by
 have ec:gf.f k st=some (st,()):=by
  unfold gf.f gf.t ib.f ib.t
  rw [ba (by omega) (by decide),aO]
  unfold jJ.f jJ.t
  rw [ba (by omega) (by decide),aO]
 unfold jH.f jH.t ap
 rw [ec,aO]
 simp only []
 rw [k7 k hd.l,aO]
 simp only []
 rw [uL hk hd (by omega),aO]
 simp only []
 rw [t_ hk hd (by omega) (by omega),aO]
 simp only []
 cases c1:gE st d with
 | false=>rfl
 | true =>
  obtain ⟨g1,g2,g3⟩:=jF c1
  obtain ⟨n1,n2,_,_⟩:=lI (n:=st.1.1) (ids:=st.1.2.1) g1.live
  simp only [ft,aM]
  rw [aC (n:=st.1.1+2) (by omega) (by omega)]
  by_cases c2:st.1.1+2 > (100000:Int)
  · rw [aN c2];rfl
  · rw [aP c2]
    simp only [aM]
    have hz:=jZ st.2.1 d
    obtain ⟨b1,b2⟩:=pH c1
    cases c3:(cR st.2.1 d).2 != 0 with
    | true=>rfl
    | false =>
     simp only [aM]
     rw [xr hk g1.live g1.disk (Int.not_lt.1 c2) b1 b2 (by omega),aO]
     rfl
end Go.Proofs.YtohaanhjddohmaaGreatDoor.G
namespace Go.Proofs.YtohaanhjddohmaaGreatDoor.G
open Go.V
theorem DN (k:Nat) {n:Int} (h0:0≤n) (h1:n≤100000):er.f k n=some (([],(n,(-1,(false,())))),()):=by
 unfold er.f er.t
 rw [fz,aO,aN ⟨h0,h1⟩]
 rfl
theorem Iy {n:Int} (h0:0≤n) (h1:n≤100000):DR ([],(n,(-1,(false,())))) :=
 ⟨by show 0≤130;omega,h0,h1,by show (-1:Int) ≤ -1;omega,by show (-1:Int)≤100000;omega,h0,fun f h=>(by cases h),List.Pairwise.nil⟩
theorem BR (k:Nat) {c:kp} (h:CI c):lC (fm.f k c) (fun r=>CI r.1∧r.2.1.size≤12):=by
 unfold fm.f fm.t
 refine aw (rz k h (by decide) (by decide)) fun r q=>bL ⟨q.1,yz (by decide) q.2⟩
theorem sb {β:Type} {o:Option (Ty.den a_ × Int × Unit)} {m:Ty.den a_ × Int} {g:Ty.den a_ × Int × Unit→Option β} {Q:β→Prop} (e:o=some (m.1,(m.2,()))) (h:lC (g (m.1,(m.2,()))) Q):lC (Option.bind o g) Q:=by
 rw [e]
 exact h
theorem HI {k:Nat} (hk:2 ^ 50≤k) (z:bW) (z1 z2:Int) (z3:Bool):∀ (d n:Nat) (c:kp) (x:Ty.den a_),d≤20→d<n→CI c→DR x →
 lC (dk.l0 k n (d:Int) c.1 c.2.1 c.2.2.1 z z1 z2 z3 x.1 x.2.1 x.2.2.1 x.2.2.2.1) (fun r=>CI r.1∧DR r.2.1):=by
 intro d
 induction d with
 | zero =>
  intro n c x hd hn hc hx
  obtain ⟨n,rfl⟩:∃ q,n=q+1:=⟨n-1,by omega⟩
  simp only [dk.l0,dk.b0]
  exact rE (aP (by omega)) (bL ⟨hc,hx⟩)
 | succ d ih =>
  intro n c x hd hn hc hx
  obtain ⟨n,rfl⟩:∃ q,n=q+1:=⟨n-1,by omega⟩
  have hw:aH (((d+1:Nat):Int)-1)=(d:Int):=by rw [aC (by omega) (by omega)];omega
  have hz:=hx.sz
  simp only [dk.l0,dk.b0,hw]
  refine lF (aN (by omega)) ?_
  refine aw (BR k hc) fun r3 q3=>?_
  refine aw (eE k q3.1 (by omega) (by omega)) fun r4 q4=>?_
  obtain ⟨hn3,hs3⟩:=q3
  have CR:lC (Option.bind (eY.f k (x.1,(x.2.1,(x.2.2.1,(x.2.2.2.1,())))) r3.2.1) fun r5=>(dk.l0 k n (d:Int) r4.1.1 r4.1.2.1 r4.1.2.2.1 z z1 z2 z3 r5.1.1 r5.1.2.1 r5.1.2.2.1 r5.1.2.2.2.1)) (fun r=>CI r.1∧DR r.2.1) :=
   sb (ov hk hz (by omega)) (ih n r4.1 _ (by omega) (by omega) q4.1 (A7 hx _))
  have AP:lC (Option.bind (d_.f k r4.1 9) fun r6=>(Option.bind (cA.f k (x.1,(x.2.1,(x.2.2.1,(x.2.2.2.1,())))) r3.2.1 r6.2.1) fun r7=>(dk.l0 k n (d:Int) r6.1.1 r6.1.2.1 r6.1.2.2.1 z z1 z2 z3 r7.1.1 r7.1.2.1 r7.1.2.2.1 r7.1.2.2.2.1))) (fun r=>CI r.1∧DR r.2.1):=by
   refine aw (C9 hk q4.1 (by omega) (by omega)) fun r6 q6=>?_
   have hs6:=q6.2
   exact sb (nD hk hz _ (by omega)) (ih n r6.1 _ (by omega) (by omega) q6.1 (o5 hx _ _))
  have SY:lC (Option.bind (cg.f k (x.1,(x.2.1,(x.2.2.1,(x.2.2.2.1,())))) r3.2.1) fun r5=>(dk.l0 k n (d:Int) r4.1.1 r4.1.2.1 r4.1.2.2.1 z z1 z2 z3 r5.1.1 r5.1.2.1 r5.1.2.2.1 r5.1.2.2.2.1)) (fun r=>CI r.1∧DR r.2.1) :=
   sb (kn hk hz _) (ih n r4.1 _ (by omega) (by omega) q4.1 (nB hx _))
  have RN:lC (Option.bind (fm.f k r4.1) fun r6=>(Option.bind (fJ.f k (x.1,(x.2.1,(x.2.2.1,(x.2.2.2.1,())))) r3.2.1 r6.2.1) fun r7=>(dk.l0 k n (d:Int) r6.1.1 r6.1.2.1 r6.1.2.2.1 z z1 z2 z3 r7.1.1 r7.1.2.1 r7.1.2.2.1 r7.1.2.2.2.1))) (fun r=>CI r.1∧DR r.2.1):=by
   refine aw (BR k q4.1) fun r6 q6=>?_
   have hs6:=q6.2
   exact sb (wQ hk hz _ (by omega)) (ih n r6.1 _ (by omega) (by omega) q6.1 (H2 hx _ _))
  repeat' refine d9 (fun _=>?_) (fun _=>?_)
  all_goals first | exact CR | exact AP | exact SY | exact RN
theorem G2 {k:Nat} (hk:2 ^ 50≤k) {c:kp} (h:CI c):lC (dk.f k c) (fun r=>CI r.1∧DR r.2.1):=by
 unfold dk.f dk.t
 refine eT (DN k (by omega) (by omega)) ?_
 refine aw (eE k h (by omega) (by omega)) fun r q=>?_
 obtain ⟨hc,a,b⟩:=q
 have:=HI hk [] 0 0 false r.2.1.toNat k r.1 ([],(200,(-1,(false,())))) (by omega) (by omega) hc (Iy (by omega) (by omega))
 rw [show ((r.2.1.toNat:Nat):Int)=r.2.1 by omega] at this
 exact this
theorem I1 {l:bW} (h:0<l.length) (g:Ty.den bp):(l.set 0 g).length=l.length∧dR (l.set 0 g)≤g.2.1.size+dR l∧i7 (l.set 0 g)≤g.1.size+i7 l:=by
 cases l with
 | nil=>cases h
 | cons x l =>
  show (g::l).length=_∧dR (g::l)≤_∧i7 (g::l)≤_
  rw [dY,ki,dY,ki]
  exact ⟨rfl,by omega,by omega⟩
theorem yY:∀ l m:bW,i7 (l++m)=i7 l+i7 m
 | [],m=>by show i7 m=0+i7 m;omega
 | x::l,m=>by rw [List.cons_append,ki,ki,yY l m];omega
structure DS (d:Ty.den a_):Prop where
 l:d.1.length≤131
 u:dR d.1≤200000
 n:i7 d.1≤10000
theorem DS.sz {d:Ty.den a_} (h:DS d):ta d:=⟨by have:=h.l;omega,by have:=h.u;omega,by have:=h.n;omega⟩
theorem DR.ds {d:Ty.den a_} (h:DR d):DS d:=by
 have h1:=h.len
 have h2:=h.use
 have h3:=h.cap1
 have h4:=sv d.1 h.all
 exact ⟨by omega,by omega,by omega⟩
theorem Dg {d:Ty.den a_} (h0:0<d.1.length) (h1:d.1.length≤131) (h2:dR d.1≤100000) (h3:i7 d.1≤5000) {g:Ty.den bp} (k1:g.2.1.size≤100000) (k2:g.1.size≤5000):DS (List.set d.1 0 g,d.2):=by
 obtain ⟨a1,a2,a3⟩:=I1 h0 g
 exact ⟨by show (List.set _ _ _).length≤131;omega,by show dR (List.set _ _ _)≤200000;omega,by show i7 (List.set _ _ _)≤10000;omega⟩
theorem Is {k:Nat} (hk:2 ^ 50≤k) (z:bW) (z1 z2:Int) (z3:Bool):∀ (d n:Nat) (i:Int) (c:kp) (x:Ty.den a_),0≤i→i+(d:Int)=132→d<n→CI c→x.1.length≤131→dR x.1≤200000→(i7 x.1:Int)≤2000+40*i →
 lC (gO.l0 k n i c.1 c.2.1 c.2.2.1 z z1 z2 z3 x.1 x.2.1 x.2.2.1 x.2.2.2.1) (fun r=>CI r.1∧DS r.2.1):=by
 intro d
 induction d with
 | zero =>
  intro n i c x h0 h1 hn hc hl hu hm
  obtain ⟨n,rfl⟩:∃ q,n=q+1:=⟨n-1,by omega⟩
  simp only [gO.l0,gO.b0]
  refine aw (eE k hc (by omega) (by omega)) fun r hr=>?_
  obtain ⟨hc',a,b⟩:=hr
  rw [aC (n:=129+r.2.1) (by omega) (by omega)]
  exact rE (aP (by omega)) (bL ⟨hc',⟨hl,hu,by show i7 x.1≤10000;omega⟩⟩)
 | succ d ih =>
  intro n i c x h0 h1 hn hc hl hu hm
  obtain ⟨n,rfl⟩:∃ q,n=q+1:=⟨n-1,by omega⟩
  simp only [gO.l0,gO.b0]
  refine aw (eE k hc (by omega) (by omega)) fun r hr=>?_
  obtain ⟨hc',a,b⟩:=hr
  rw [aC (n:=129+r.2.1) (by omega) (by omega),aC (n:=100+i) (by omega) (by omega),aC (n:=i+1) (by omega) (by omega)]
  refine d9 (fun _=>d9 (fun hb=>?_) (fun _=>?_)) (fun _=>?_)
  · have hb:=of_decide_eq_true hb
    have hz:=kq (n:=100+i) (by omega) (by omega)
    refine eT (mm hk (by omega) (by omega)) ?_
    have hy:(⟨#[121]⟩:ByteArray).size=1:=rfl
    have hy2:((⟨#[121]⟩:ByteArray)++fb (100+i)).size=1+(fb (100+i)).size:=ByteArray.size_append ..
    simp only []
    refine Hi (by omega) (zu (by omega) (by decide) ?_)
    refine ih n (i+1) r.1 (x.1++[_],x.2) (by omega) (by omega) (by omega) hc' (by show (x.1++[_]).length≤131;rw [cB];omega) ?_ ?_
    · show dR (x.1++[_])≤200000
      rw [sS,dY,sU]
      exact hu
    · show (i7 (x.1++[_]):Int)≤_
      rw [yY,ki]
      show ((i7 x.1+(((⟨#[121]⟩:ByteArray)++fb (100+i)).size+0):Nat):Int)≤_
      omega
  · exact bL ⟨hc',⟨hl,hu,by show i7 x.1≤10000;omega⟩⟩
  · exact bL ⟨hc',⟨hl,hu,by show i7 x.1≤10000;omega⟩⟩
theorem Hu {k:Nat} (hk:2 ^ 50≤k) {c:kp} (h:CI c):lC (gO.f k c) (fun r=>CI r.1∧DS r.2.1):=by
 unfold gO.f gO.t
 refine aw (G2 hk h) fun r1 q1=>?_
 obtain ⟨hc1,hd⟩:=q1
 have hs:=hd.ds
 have g1:=hd.len
 have g2:=hd.use
 have g3:=hd.cap1
 have g4:=sv r1.2.1.1 hd.all
 refine aw (eE k hc1 (by omega) (by omega)) fun r2 q2=>?_
 refine d9 (fun _=>?_) (fun _=>d9 (fun _=>?_) (fun _=>d9 (fun _=>?_) (fun _=>d9 (fun _=>?_) (fun _=>d9 (fun _=>?_) (fun _=>d9 (fun _=>?_) (fun _=>?_))))))
 · refine aw (ku k q2.1 (by decide) (by decide)) fun r3 q3=>?_
   exact bL ⟨q3.1,⟨hs.l,hs.u,hs.n⟩⟩
 · exact bL ⟨q2.1,⟨hs.l,hs.u,hs.n⟩⟩
 · refine eT (nq hk (by omega) (by omega)) ?_
   refine eT (nq hk (by omega) (by omega)) ?_
   refine aw (ku k q2.1 (by simp) (by simp)) fun r3 q3=>?_
   exact bL ⟨q3.1,⟨hs.l,hs.u,hs.n⟩⟩
 · refine d9 (fun hb=>?_) (fun _=>bL ⟨q2.1,hs⟩)
   have hb:=of_decide_eq_true hb
   refine aw (eE k q2.1 (by omega) (by omega)) fun r3 q3=>?_
   have hm:List.getD r1.2.1.1 0 (Ty.dflt bp) ∈ r1.2.1.1:=gb (by omega)
   have m1:=mn hm
   have m2:=ln hm
   exact nY (by omega) (by omega) (bL ⟨q3.1,Dg (d:=r1.2.1) (by omega) (by omega) (by omega) (by omega) (Nat.le_trans m1 (by omega)) (Nat.le_trans m2 (by omega))⟩)
 · refine d9 (fun hb=>?_) (fun _=>bL ⟨q2.1,hs⟩)
   have hb:=of_decide_eq_true hb
   refine aw (rz k q2.1 (by decide) (by decide)) fun r3 q3=>?_
   have hz:r3.2.1.size≤100:=yz (by decide) q3.2
   have hm:List.getD r1.2.1.1 0 (Ty.dflt bp) ∈ r1.2.1.1:=gb (by omega)
   have m1:=mn hm
   exact nY (by omega) (by omega) (bL ⟨q3.1,Dg (d:=r1.2.1) (by omega) (by omega) (by omega) (by omega) (Nat.le_trans m1 (by omega)) (Nat.le_trans hz (by omega))⟩)
 · exact Is hk [] 0 0 false 132 k 0 r2.1 r1.2.1 (by omega) (by omega) (by omega) q2.1 (by omega) (by omega) (by omega)
 · exact bL ⟨q2.1,hs⟩
end Go.Proofs.YtohaanhjddohmaaGreatDoor.G
namespace Go.Proofs.YtohaanhjddohmaaGreatDoor.G
open Go.V
theorem Ea (k:Nat) {c:kp} (h:CI c):lC (iS.f k c) (fun r=>CI r.1):=by
 unfold iS.f iS.t
 refine aw (E6 k h) fun r1 q1=>?_
 refine aw (eE k q1 (by omega) (by omega)) fun r2 q2=>?_
 refine aw (eE k q2.1 (by omega) (by omega)) fun r3 q3=>?_
 refine aw (eE k q3.1 (by omega) (by omega)) fun r4 q4=>?_
 refine aw (eE k q4.1 (by omega) (by omega)) fun r5 q5=>bL q5.1
theorem Iu {k:Nat} (hk:2 ^ 50≤k):∀ (m n:Nat) (c:kp) (out:aY),m<n→CI c→out.length+m≤100→lC (gP.l0 k n (m:Int) c.1 c.2.1 c.2.2.1 out) (fun r=>CI r.1∧r.2.1.length≤100):=by
 intro m
 induction m with
 | zero =>
  intro n c out hn hc ho
  obtain ⟨n,rfl⟩:∃ q,n=q+1:=⟨n-1,by omega⟩
  simp only [gP.l0,gP.b0]
  refine rE (aP (by omega)) (d9 (fun hp=>?_) (fun _=>bL ⟨hc,by show out.length≤100;omega⟩))
  have hp:=of_decide_eq_true hp
  have hset:∀ (i:Nat) (e:Ty.den aB),(List.set out i e).length≤100:=fun i e=>by rw [List.length_set];omega
  refine aw (vX k hc (by omega) (by omega)) fun r4 q4=>d9 (fun _=>?_) (fun _=>bL ⟨q4,by show out.length≤100;omega⟩)
  refine aw (eE k q4 (by omega) (by omega)) fun r5 q5=>?_
  refine aw (eE k q5.1 (by omega) (by omega)) fun r6 q6=>?_
  obtain ⟨_,a5,b5⟩:=q5
  refine d9 (fun _=>?_) (fun _=>d9 (fun _=>?_) (fun _=>d9 (fun _=>?_) (fun _=>?_)))
  · refine aw (rz k q6.1 (by decide) (by decide)) fun r7 q7=>nY a5 b5 (bL ⟨q7.1,hset _ _⟩)
  · exact nY a5 b5 (bL ⟨q6.1,hset _ _⟩)
  · refine aw (ku k q6.1 (by decide) (by decide)) fun r7 q7=>nY a5 b5 (bL ⟨q7.1,hset _ _⟩)
  · refine aw (ku k q6.1 (by decide) (by decide)) fun r7 q7=>nY a5 b5 (bL ⟨q7.1,hset _ _⟩)
 | succ m ih =>
  intro n c out hn hc ho
  obtain ⟨n,rfl⟩:∃ q,n=q+1:=⟨n-1,by omega⟩
  have hw:aH (((m+1:Nat):Int)-1)=(m:Int):=by rw [aC (by omega) (by omega)];omega
  simp only [gP.l0,gP.b0,hw]
  refine lF (aN (by omega)) ?_
  refine aw (Ea k hc) fun r2 q2=>?_
  have hp:=CE out r2.2.1
  refine eT (nv hk _ (by omega)) ?_
  exact ih n r2.1 _ (by omega) q2 (by show (xY out r2.2.1).length+m≤100;omega)
theorem HQ {k:Nat} (hk:2 ^ 50≤k) {c:kp} (h:CI c):lC (gP.f k c) (fun r=>CI r.1∧r.2.1.length≤100):=by
 unfold gP.f gP.t
 refine aw (eE k h (by omega) (by omega)) fun r q=>?_
 obtain ⟨hc,a,b⟩:=q
 have:=Iu hk r.2.1.toNat k r.1 [] (by omega) hc (by simp only [List.length_nil];omega)
 rw [show ((r.2.1.toNat:Nat):Int)=r.2.1 by omega] at this
 exact this
structure AV (st:Ty.den aE) (d:Ty.den a_):Prop where
 ids:st.1.2.1.length≤60
 dir:st.2.1.length≤268435456
 disk:DS d
theorem H4 {k:Nat} (hk:2 ^ 50≤k) {c:kp} (h:CI c):lC (jB.f k c) (fun r=>CI r.1∧AV r.2.1 r.2.2.1):=by
 unfold jB.f jB.t
 refine aw (Cb hk h) fun r1 q1=>?_
 obtain ⟨hc,z,hz⟩:=q1
 have hs:=hz.disk.ds
 have h1:r1.2.1.1.2.1.length≤60:=hz.ids
 have h2:r1.2.1.2.1.length≤268435456:=hz.dir
 refine aw (eE k hc (by omega) (by omega)) fun r2 q2=>?_
 have E:lC (bif (r2.2.1==6) then (some (r2.1,(((r1.2.1.1.1,([],())),r1.2.1.2),r1.2.2))) else (some (r2.1,r1.2))) (fun r:Ty.den b8 × Ty.den aE × Ty.den a_ × Unit=>CI r.1∧AV r.2.1 r.2.2.1) :=
  d9 (fun _=>bL ⟨q2.1,⟨Nat.zero_le _,h2,hs⟩⟩) (fun _=>bL ⟨q2.1,⟨h1,h2,hs⟩⟩)
 have F:lC ((aW.f k r2.1 12).bind fun r6=>(some (r6.1,(r1.2.1,((r1.2.2.1.1,(r1.2.2.1.2.1,(r6.2.1,r1.2.2.1.2.2.2))),()))))) (fun r:Ty.den b8 × Ty.den aE × Ty.den a_ × Unit=>CI r.1∧AV r.2.1 r.2.2.1) :=
  aw (eE k q2.1 (by omega) (by omega)) fun r6 q6=>bL ⟨q6.1,⟨h1,h2,⟨hs.l,hs.u,hs.n⟩⟩⟩
 refine d9 (fun _=>bL ⟨q2.1,⟨h1,h2,hs⟩⟩) (fun _=>d9 (fun _=>?_) (fun _=>d9 (fun _=>?_) (fun _=>d9 (fun _=>?_) (fun _=>d9 (fun _=>d9 (fun _=>F) (fun _=>E)) (fun _=>d9 (fun _=>F) (fun _=>E))))))
 · exact aw (HQ hk q2.1) fun r3 q3=>bL ⟨q3.1,⟨h1,by have:=q3.2;show r3.2.1.length≤268435456;omega,hs⟩⟩
 · exact aw (ku k q2.1 (by decide) (by decide)) fun r4 q4=>bL ⟨q4.1,⟨h1,h2,hs⟩⟩
 · exact aw (Hu hk q2.1) fun r5 q5=>bL ⟨q5.1,⟨h1,h2,q5.2⟩⟩
end Go.Proofs.YtohaanhjddohmaaGreatDoor.G
namespace Go.Proofs.YtohaanhjddohmaaGreatDoor.G
open Go.V
theorem ww {k:Nat} (hk:2 ^ 50≤k) {l:gu} (hl:l.length≤1048576):dA.f k l l=some (true,()):=by
 unfold dA.f dA.t
 rw [bne_self_eq_false,aM]
 refine dZ (L:=fun n i (_:Unit)=>dA.l0 k n l l i) (R:=fun r _=>some (true,())) (Ty.dflt aF) l (fun _ _=>True) (fun n _ _=>?_) (fun n i _ x rest h0 h1 hx hr hp ih=>?_) (n:=k) (s:=()) (by omega) trivial
 · simp only [dA.l0,dA.b0]
   rw [aP (by omega),aM]
 · simp only [dA.l0,dA.b0]
   rw [aN h1,aX]
   repeat rw [aG h0 h1]
   rw [hx,aC (n:=i+1) (by omega) (by omega),cY,cY,beq_self_eq_true]
   exact ih () trivial
end Go.Proofs.YtohaanhjddohmaaGreatDoor.G
namespace Go.Proofs.YtohaanhjddohmaaGreatDoor.G
open Go.V
theorem Bd {k:Nat} (hk:2 ^ 50≤k) {code:List Int} (hl:code.length≤1048576):lC (gi.f k code) (fun r=>AV r.1 r.2.1):=by
 unfold gi.f gi.t
 refine aw (HN hk hl) fun r1 q1=>?_
 exact aw (H4 hk q1) fun r2 q2=>bL q2.2
theorem B9 {st:Ty.den aE} {d:Ty.den a_} (h:AV st d):AV (ap st d).1 (ap st d).2.1:=by
 cases c1:gE st d with
 | false =>
  have e:ap st d=(st,(d,4)):=by unfold ap;rw [c1];rfl
  rw [e]
  exact h
 | true =>
  obtain ⟨g1,g2,g3⟩:=jF c1
  have h60:st.1.2.1.length≤60:=(dW (nx:=st.1.1) (ids:=st.1.2.1) g1.live).2.2.2.1
  by_cases c2:st.1.1+2 > (100000:Int)
  · have e:ap st d=(st,(d,5)):=by unfold ap;rw [c1,aN c2];rfl
    rw [e]
    exact h
  · have hz:=jZ st.2.1 d
    cases c3:(cR st.2.1 d).2 != 0 with
    | true =>
     have e:ap st d=(st,(d,(cR st.2.1 d).2)):=by unfold ap;rw [c1,aP c2,c3];rfl
     rw [e]
     exact h
    | false =>
     have e:ap st d=dy (xR st.1.1) st d (cR st.2.1 d).1:=by unfold ap;rw [c1,aP c2,c3];rfl
     obtain ⟨e1,e2⟩:=uI (xR st.1.1) st d (cR st.2.1 d).1
     have hIV:IV ((st.1,([],st.2.2)),(d,0)):=⟨g1.disk,h60,Nat.zero_le _,fun x hx=>(by cases hx),Int.natCast_nonneg _⟩
     obtain ⟨q1,_⟩:=tO (hb:=xR st.1.1) hIV g1.live (Int.not_lt.1 c2) (l:=(cR st.2.1 d).1) (by omega)
     have hd:DR (ap st d).2.1:=by rw [e,e1];exact q1.disk
     rcases u1 (xR st.1.1) st d (cR st.2.1 d).1 with w | w
     · refine ⟨?_,?_,hd.ds⟩
       · rw [e,w];exact h60
       · rw [e,w];show st.2.1.length≤_;omega
     · refine ⟨?_,?_,hd.ds⟩
       · rw [e,w];exact (show 2≤60 by decide)
       · rw [e,w]
         show (i8 st.1.1 (cR st.2.1 d).1 0).length≤_
         rw [vR]
         omega
theorem FL {k:Nat} (hk:2 ^ 50≤k) (code:List Int):dM.f k code=some (true,()):=by
 refine It ?_
 unfold dM.f dM.t
 have hbig:oN.f k code=some (decide ((code.length:Int) > 1048576),()):=rfl
 refine eT hbig ?_
 refine d9 (fun _=>bL rfl) fun hb=>?_
 have hl:code.length≤1048576:=by have:=of_decide_eq_false hb;omega
 refine aw (Bd hk hl) fun r2 q2=>?_
 obtain ⟨st,d,⟨⟩⟩:=r2
 have ha:AV st d:=q2
 have hb1:=B9 ha
 have hb2:=B9 hb1
 have hd:=ha.dir
 have hi:=ha.ids
 have hd1:=hb1.dir
 have hi1:=hb1.ids
 have hd2:=hb2.dir
 have hi2:=hb2.ids
 refine eT (t6 hk (st:=st) (d:=d) ha.disk.sz (by omega) (by omega)) ?_
 refine eT (t6 hk (st:=(ap st d).1) (d:=(ap st d).2.1) hb1.disk.sz (by omega) (by omega)) ?_
 refine d9 (fun _=>bL rfl) fun c1=>d9 (fun _=>bL rfl) fun c2=>d9 (fun _=>bL rfl) fun _=>?_
 have c1:(ap st d).2.2=0:=jb c1
 have c2:(ap (ap st d).1 (ap st d).2.1).2.2=0:=jb c2
 obtain ⟨t1,t2⟩:=Jg c1 c2
 have h1:=p0 c1
 have h2:=p0 c2
 have hdm:=ra h1
 have hlo:=BP h2
 have hx:=hb1.disk
 have hy:=hb2.disk
 unfold oS
 simp only []
 generalize ex:(ap st d).1=x at *
 generalize ey:(ap st d).2.1=y at *
 generalize ez:(ap x y).1=z at *
 generalize ew:(ap x y).2.1=w at *
 have y1:=hx.l
 have y2:=hx.u
 have y3:=hx.n
 have w1:=hy.l
 have w2:=hy.u
 have w3:=hy.n
 have dz:=jZ z.2.1 w
 have dx:=jZ x.2.1 y
 have dd:=jZ st.2.1 d
 have eS:ja w 60 z.1.2.1=ja y 60 x.1.2.1:=by
  have f1:=h1.form
  have f2:=h2.form
  have s1:=h1.segs
  have s2:=h2.segs
  have D1:=h1.disk
  have D2:=h2.disk
  rw [ex] at f1
  rw [ey] at s1 D1
  rw [ez] at f2
  rw [ew] at s2 D2
  have e2:z.1.2.1=[x.1.1,x.1.1+1]:=by rw [f2];rfl
  have e1:x.1.2.1=[st.1.1,st.1.1+1]:=by rw [f1];rfl
  rw [e2,e1]
  rw [nc D2 _ _ (show 2≤60 by decide),nc D1 _ _ (show 2≤60 by decide)]
  have hbt:x.2.2.1=st.2.2.1:=by rw [f1]
  rw [hdm,hbt,← s1] at s2
  exact Int.ofNat_inj.1 s2
 have eb:z.2.2.1=x.2.2.1:=by
  have f2:=h2.form
  rw [ez] at f2
  rw [f2]
 have en:z.1.1=x.1.1+2:=by
  have f2:=h2.form
  rw [ez] at f2
  rw [f2]
  rfl
 have hlo1:=h2.lo
 have hhi1:=h2.hi
 have ed:∀ (s:Ty.den aE) (t:Ty.den a_),ta t→s.2.1.length≤1099511627775→k9.f k s t=some ((cR s.2.1 t).1,()):=fun s t h1 h2=>by
  unfold k9.f k9.t
  rw [uO hk h1 h2,aO]
 refine eT (ed z w hy.sz (by omega)) ?_
 refine eT (ed x y hx.sz (by omega)) ?_
 refine eT (show dA.f k (cR z.2.1 w).1 (cR x.2.1 y).1=some (true,()) by
  rw [t1,hdm]
  have h20:=p6 h1.store
  exact ww hk (l:=(cR st.2.1 d).1) (by omega)) ?_
 refine lF rfl ?_
 refine eT (pO hk (st:=z) (d:=w) (by omega) (by omega) (by omega) (by omega)) ?_
 refine eT (pO hk (st:=x) (d:=y) (by omega) (by omega) (by omega) (by omega)) ?_
 refine lF (by rw [eS];exact beq_self_eq_true _) ?_
 refine lF (show (z.2.2.1==x.2.2.1)=true by rw [eb];exact beq_self_eq_true _) ?_
 refine lF (show (z.1.1==aH (x.1.1+2))=true by rw [en,aC (n:=x.1.1+2) (by omega) (by omega)];exact beq_self_eq_true _) ?_
 refine eT (Az hk (st:=x) (d:=y) hx.sz (by omega) (by omega)) ?_
 refine lF (show (BO x y==0)=true by rw [t2];rfl) ?_
 refine eT (zj hk (d:=w) (by omega) (by omega) (by omega)) ?_
 exact bL (by show (((wF w).2.2.2.1==0),())=(true,());rw [hlo];rfl)
theorem fnMergedTwice_pure:∀ x,Wf (tup [.slice (.int .u8)]) x→∃ k r,dM.f k x.1=some r∧nA (B:=[.bool]) (g7 ([.val (.slice (.int .u8))])) r=(true,()):=by
 rintro ⟨a0,_⟩ ⟨f0,_⟩
 suffices Ev (fun k=>dM.f k a0) (true,()) by
  obtain ⟨k,h⟩:=this.some
  exact ⟨k,(true,()),h,rfl⟩
 exact JN fun k hk=>FL hk a0
end Go.Proofs.YtohaanhjddohmaaGreatDoor.G

/- Plain laws, merged; what is proved here is told ahead of each part. -/
import Derived.Test.YtdbekilnpjmeaaaGreatDoorZB2
set_option linter.unusedVariables false
set_option linter.unusedSimpArgs false
namespace Go.Proofs.YtdbekilnpjmeaaaGreatDoor.G
open Go.V
theorem mW {x y:Int} (hx:1≤x∧x≤100000) (hy:1≤y∧y≤100000):aB dR x≠aB aI y:=fun q=>by
 have e:aB dR x=dR++gM x:=by unfold aB;rw [aM hx];rfl
 rw [wz hy,e] at q
 have:=congrArg nb q
 rw [iT,iT] at this
 cases this
theorem Eb {x:Int} (hx:1≤x∧x≤100000):aB dR x≠jM:=fun q=>by
 have e:aB dR x=dR++gM x:=by unfold aB;rw [aM hx];rfl
 rw [e] at q
 have:=congrArg nb q
 rw [iT] at this
 cases this
theorem HH {s t:ByteArray} {d:Ty.den a_} (z:(lJ s t d).2=0):fT (lJ s t d).1 s=some t:=by
 unfold lJ at z ⊢
 obtain ⟨z1,e1,z2⟩:=kH z
 obtain ⟨z3,e2,z4⟩:=kH z1
 rw [e1,kA,e2]
 have:=qp (d:=(b7 s d).1) (s:=s) (x:=t)
 rw [z4,ow z3] at this
 have this:fT (fq (b7 s d).1 s t).1 s=some (ByteArray.empty++t):=this
 rw [this,show (ByteArray.empty:ByteArray)=dB [] from rfl,xE]
theorem Ii {d:Ty.den a_} {a b:ByteArray} (hd:DR d) (hab:a≠b) (z:(su d a b).2=0):fT (su d a b).1 b=fT d a:=by
 obtain ⟨c1,c2⟩:=qr z
 unfold fT
 show (bi (iD d (uw a b)).1.1 b).map _=_
 rw [c2]
 unfold uw at c1 ⊢
 cases c3:jZ b with
 | false=>rw [c3] at c1;exact absurd c1 (by show (5:Int)≠0;decide)
 | true =>
  rw [c3] at c1
  simp only [fb,aK] at c1 ⊢
  cases c4:bi d.1 a with
  | none=>rw [c4] at c1;exact absurd c1 (by show (3:Int)≠0;decide)
  | some f =>
   simp only []
   rw [kh hab,aK]
   have hk:dO (kc (h_ d.1 a)):=ql (ml _ _) hd.keys
   show (bi (jx (h_ (h_ d.1 a) b) (b,f.2)) b).map _=_
   rw [AR (f:=(b,f.2)) (qd hk b),c9]
   rfl
theorem zR {v:Ty.den bj} {d:Ty.den a_} (hd:DR d) (z:(az v d).2=0):fT (az v d).1 jM=some (bw v):=by
 unfold az at z ⊢
 obtain ⟨z1,e1,z2⟩:=kH z
 rw [e1,Ii (o5 _ _ _ hd) (by decide) z2,HH z1]
theorem vk {n:Int} (h0:0≤n) (h1:n≤127):(gu n).size=1:=by
 unfold gu
 rw [if_pos ⟨h0,by omega⟩,← qG (by omega)]
 unfold vl
 rw [if_neg (by omega)]
 rfl
theorem Dd {n:Int} (h0:0≤n) (h1:n≤2097151):(gu n).size≤3:=by
 unfold gu
 rw [if_pos ⟨h0,by omega⟩,← qG (by omega)]
 unfold vl
 split
 · rw [lP]
   unfold vl
   split
   · rw [lP]
     unfold vl
     rw [if_neg (by omega)]
     exact Nat.le_refl _
   · show 1+1≤3
     decide
 · show 1≤3
   decide
theorem Gz (mark:Int) (l:jo):aY (gn 5 mark l)≤20:=by
 have key:(aF (gn 5 mark l)).size≤9:=by
  unfold aF
  by_cases c:fG (gn 5 mark l)=true
  · rw [if_pos c]
    rcases mY c with ⟨q,_⟩ | ⟨q,_⟩ | ⟨_,_,_,h1,h2,_,_,h3,h4⟩
    · exact absurd q (by show ¬ ((5:Int)=1∨(5:Int)=4);decide)
    · exact absurd q (by show ¬ ((5:Int)=2);decide)
    · rw [if_neg (by show ¬ ((5:Int)=1∨(5:Int)=4);decide),if_neg (by show ¬ ((5:Int)=2);decide),ByteArray.size_append,ByteArray.size_append,ByteArray.size_append,jH]
      have e1:(gu (gn 5 mark l).1).size=1:=vk (n:=5) (by decide) (by decide)
      have e2:=Dd (n:=(gn 5 mark l).2.1) h3 (Int.le_trans h4 (by decide))
      have e3:=vk (n:=(gn 5 mark l).2.2.2.2.1) h1 (Int.le_trans h2 (by decide))
      omega
  · rw [if_neg c]
    exact Nat.zero_le _
 unfold aY aN
 rw [if_neg (by omega),ByteArray.size_append,jH]
 unfold j5
 rw [ByteArray.size_append,vk (by omega) (by omega)]
 omega
theorem Am (m:Int):∀ (l:fo) (a:Int),(nd m l a).length=l.length
 | [],_=>rfl
 | p::l,a=>by
  show (nd m l (a+aY (e_ p))).length+1=_
  rw [Am m l]
  rfl
theorem F2 {hb:ByteArray→ByteArray} {st:Ty.den aC} {d:Ty.den a_} {c:Int} {l:fo} (h:IV (st,(d,c))) (hl:cP st.1=true) (hn:LE.le (α:=Int) (st.1.1+2) 100000) (hlen:l.length≤268435456) :
 IV (i8 hb st d l)∧((i8 hb st d l).2.2=0→(fF (i8 hb st d l).2.1 (i8 hb st d l).1.1.2.1:Int)=vR l (st.2.2.1-1)∧(fF (i8 hb st d l).2.1 (i8 hb st d l).1.1.2.1:Int)-hF (i8 hb st d l).1.2.1≤20 ∧
  fT (i8 hb st d l).2.1 (aB aI st.1.1)=some (dG (qN l (st.2.2.1-1)))∧fT (i8 hb st d l).2.1 (aB aI (st.1.1+1))=some ByteArray.empty∧(i8 hb st d l).1=(jl st.1.1,(nd st.1.1 l 0,(st.2.2.1,(0,(0,()))))) ∧
  fT (i8 hb st d l).2.1 jM=some (bw (jl st.1.1))):=by
 obtain ⟨n1,n2,n3,_⟩:=gm (n:=st.1.1) (ids:=st.1.2.1) hl
 have hd:DR d:=h.disk
 have hsum:hF st.2.1≤(fF d st.1.2.1:Int):=h.sum
 have hm:(1:Int)≤st.1.1∧st.1.1≤(100000:Int):=⟨n1,n2⟩
 have hm1:LE.le (α:=Int) 1 (st.1.1+1)∧LE.le (α:=Int) (st.1.1+1) 100000:=⟨by omega,by omega⟩
 have hseg:∀ x:Int,x ∈ st.1.2.1→1≤x∧x≤100000:=fun x hx=>⟨(n3 x hx).1,by have:=(n3 x hx).2;omega⟩
 have no1:∀ x ∈ st.1.2.1,aB aI st.1.1≠aB aI x:=fun x hx=>jB hm (hseg x hx) (by have:=(n3 x hx).2;omega)
 have no2:∀ x ∈ st.1.2.1,aB aI (st.1.1+1)≠aB aI x:=fun x hx=>jB hm1 (hseg x hx) (by have:=(n3 x hx).2;omega)
 have no3:∀ x ∈ st.1.2.1,aB dR st.1.1≠aB aI x:=fun x hx=>mW hm (hseg x hx)
 have no4:aB aI (st.1.1+1)≠aB aI st.1.1:=jB hm1 hm (by omega)
 have jump:∀ r:RD,DR r.1→(∀ x ∈ st.1.2.1,fT r.1 (aB aI x)=fT d (aB aI x))→IV (uK st,r):=fun r hr k=>⟨hr,h.ids,h.dir,h.non,by
  show hF st.2.1≤(fF r.1 st.1.2.1:Int)
  rw [iI k]
  exact hsum⟩
 have dropK:∀ (r:RD),DR r.1→(∀ x ∈ st.1.2.1,fT r.1 (aB aI x)=fT d (aB aI x))→r.2≠0→IV (uK st,mf (jj st.1.1) r)∧(mf (jj st.1.1) r).2≠0:=fun r hr k hz=>by
  unfold mf
  cases r.2==2 with
  | false=>exact ⟨jump r hr k,hz⟩
  | true =>
   refine ⟨jump _ (mO _ _ hr) fun x hx=>(mL _ _ fun s hs=>?_).trans (k x hx),?_⟩
   · unfold jj at hs
     rcases List.mem_cons.1 hs with e | e
     · rw [e];exact fw (hseg x hx)
     rcases List.mem_cons.1 e with e | e
     · rw [e];exact no1 x hx
     rcases List.mem_cons.1 e with e | e
     · rw [e];exact no2 x hx
     · rw [List.mem_singleton.1 e];exact no3 x hx
   · show (bif (ba (jj st.1.1) r.1).2==0 then (2:Int) else fM (ba (jj st.1.1) r.1).2)≠0
     cases q:(ba (jj st.1.1) r.1).2==0 with
     | true =>
      show (2:Int)≠0
      decide
     | false =>
      intro e
      have:=iR (ba (jj st.1.1) r.1).2
      rw [q] at this
      simp only [aK] at e
      rw [e] at this
      cases this
 have tlnz:∀ r:RD,(r.2 != 0)=true→(tl r).2≠0:=fun r q e=>by
  have:=mh r
  rw [e,q] at this
  cases this
 have a0:DR (gq st.1.1 l (st.2.2.1-1) d).1:=by
  refine kM ?_ fun x hx=>lf hx _
  have:∀ (rs:jo) (r:RD),DR r.1→DR (xT (aB aI st.1.1) rs r).1:=by
   intro rs
   induction rs with
   | nil=>exact fun r hr=>hr
   | cons x rs ih=>exact fun r hr=>ih _ (kM hr fun y hy=>oH hy _ _)
  exact this _ _ (j4 _ _ hd)
 have a1:∀ x ∈ st.1.2.1,fT (gq st.1.1 l (st.2.2.1-1) d).1 (aB aI x)=fT d (aB aI x):=fun x hx=>BJ (no1 x hx)
 have a2:(gq st.1.1 l (st.2.2.1-1) d).2=0→fT (gq st.1.1 l (st.2.2.1-1) d).1 (aB aI st.1.1)=some (dG (qN l (st.2.2.1-1))):=fun z=>by
  unfold gq at z ⊢
  obtain ⟨z1,z2,_⟩:=kH z
  rw [z2]
  rw [kA]
  have z0:(b7 (aB aI st.1.1) d).2=0:=by
   by_cases w:(b7 (aB aI st.1.1) d).2=0
   · exact w
   · rw [sE _ _ _ w] at z1
     exact absurd z1 w
  have:=HD (aB aI st.1.1) (qN l (st.2.2.1-1)) (b7 (aB aI st.1.1) d) ByteArray.empty (ow z0) z1
  rw [this,show (ByteArray.empty:ByteArray)=dB [] from rfl,xE]
 unfold i8
 generalize gq st.1.1 l (st.2.2.1-1) d=a at a0 a1 a2 ⊢
 cases ca:a.2 != 0 with
 | true =>
  obtain ⟨g1,g2⟩:=dropK (tl a) a0 a1 (tlnz a ca)
  exact ⟨g1,fun e=>absurd e g2⟩
 | false =>
  have b0:=j4 (aB aI (st.1.1+1)) a.1 a0
  have b1:∀ x ∈ st.1.2.1,fT (b7 (aB aI (st.1.1+1)) a.1).1 (aB aI x)=fT d (aB aI x):=fun x hx=>(ja (no2 x hx)).trans (a1 x hx)
  have b2:=(ja (d:=a.1) no4).trans (a2 (fa ca))
  have b3:=ow (s:=aB aI (st.1.1+1)) (d:=a.1)
  simp only [aK]
  generalize b7 (aB aI (st.1.1+1)) a.1=b at b0 b1 b2 b3 ⊢
  cases cb:b.2 != 0 with
  | true =>
   obtain ⟨g1,g2⟩:=dropK (tl b) b0 b1 (tlnz b cb)
   exact ⟨g1,fun e=>absurd e g2⟩
  | false =>
   have b3:=b3 (fa cb)
   have c0:DR (nD hb st.1.1 b.1).1:=by
    unfold nD
    cases (lJ (aB dR st.1.1) (hb (ao b.1 (aB aI st.1.1)).1) b.1).2==2 with
    | true=>exact mO _ _ (o5 _ _ _ b0)
    | false=>exact o5 _ _ _ b0
   have c1:∀ x ∈ st.1.2.1,fT (nD hb st.1.1 b.1).1 (aB aI x)=fT d (aB aI x):=fun x hx=>(vE (no3 x hx)).trans (b1 x hx)
   have c2:=(vE (hb:=hb) (d:=b.1) (mW hm hm)).trans b2
   have c3:=(vE (hb:=hb) (d:=b.1) (mW hm hm1)).trans b3
   simp only [aK]
   generalize nD hb st.1.1 b.1=e at c0 c1 c2 c3 ⊢
   cases ce:e.2 != 0 with
   | true=>exact ⟨jump (tl e) c0 c1,fun z=>absurd z (tlnz e ce)⟩
   | false =>
    have d0:=l_ (jl st.1.1) _ c0
    have d1:∀ x ∈ st.1.2.1,fT (az (jl st.1.1) e.1).1 (aB aI x)=fT d (aB aI x):=fun x hx=>(gZ (fw (hseg x hx)) (ia (hseg x hx))).trans (c1 x hx)
    have d2:=(gZ (d:=e.1) (v:=jl st.1.1) (fw hm) (ia hm)).trans c2
    have d3:=(gZ (d:=e.1) (v:=jl st.1.1) (fw hm1) (ia hm1)).trans c3
    have d4:=zR (v:=jl st.1.1) c0
    simp only [aK]
    generalize az (jl st.1.1) e.1=f at d0 d1 d2 d3 d4 ⊢
    cases cf:f.2 != 0 with
    | true =>
     obtain ⟨g1,g2⟩:=dropK (tl f) d0 d1 (tlnz f cf)
     exact ⟨g1,fun z=>absurd z g2⟩
    | false =>
     simp only [aK]
     have o0:∀ (ids:List Int) (x:Ty.den a_),DR x→DR (uy ids x).1:=by
      intro ids
      induction ids with
      | nil=>exact fun x hx=>hx
      | cons y ids ih=>exact fun x hx=>kM (mO _ _ hx) fun z hz=>ih z hz
     have o2:=(xI st.1.2.1 f.1 fun x hx=>⟨fun q=>no1 x hx q.symm,mW (hseg x hx) hm⟩).trans d2
     have o3:=(xI st.1.2.1 f.1 fun x hx=>⟨fun q=>no2 x hx q.symm,mW (hseg x hx) hm1⟩).trans d3
     have o4:=(xI st.1.2.1 f.1 fun x hx=>⟨fun q=>ia (hseg x hx) q.symm,Eb (hseg x hx)⟩).trans (d4 (fa cf))
     have o1:=o0 st.1.2.1 f.1 d0
     generalize uy st.1.2.1 f.1=o at o1 o2 o3 o4 ⊢
     obtain ⟨l1,l2⟩:=yw st.1.1 l 0
     have hk:=Gz (st.2.2.1-1) (l.map e_)
     have hk0:=(jA (gn 5 (st.2.2.1-1) (l.map e_))).1
     have tot:(fF o.1 [st.1.1,st.1.1+1]:Int)=hF (nd st.1.1 l 0)+aY (gn 5 (st.2.2.1-1) (l.map e_)):=by
      unfold fF yU
      rw [List.map_cons,List.map_singleton,List.sum_cons,List.sum_singleton,o2,o3,l1]
      simp only [Option.getD_some]
      unfold qN
      rw [q9,ByteArray.size_append]
      have e1:(dG [gn 5 (st.2.2.1-1) (l.map e_)]).size=(aN (aF (gn 5 (st.2.2.1-1) (l.map e_)))).size:=by rw [uR];rfl
      have e2:(ByteArray.empty:ByteArray).size=0:=rfl
      rw [e1,e2]
      unfold aY
      omega
     have tot0:(fF o.1 [st.1.1,st.1.1+1]:Int)=vR l (st.2.2.1-1):=by
      unfold fF yU vR
      rw [List.map_cons,List.map_singleton,List.sum_cons,List.sum_singleton,o2,o3]
      rfl
     refine ⟨⟨o1,(show 2≤60 by decide),?_,l2,?_⟩,fun _=>⟨tot0,?_,o2,o3,by trivial,o4⟩⟩
     · show (nd st.1.1 l 0).length≤_
       rw [Am]
       exact hlen
     · show hF (nd st.1.1 l 0)≤(fF o.1 [st.1.1,st.1.1+1]:Int)
       omega
     · show (fF o.1 [st.1.1,st.1.1+1]:Int)-hF (nd st.1.1 l 0)≤20
       omega
end Go.Proofs.YtdbekilnpjmeaaaGreatDoor.G
namespace Go.Proofs.YtdbekilnpjmeaaaGreatDoor.G
open Go.V
theorem qI {k:Nat} (hk:2 ^ 50≤k) (st:Ty.den aC) {r:RD} (hd:DR r.1) {m:Int} (h0:1≤m) (h1:m≤100000):dV.f k st r.1 m r.2=some (st,((mf (jj m) r).1,((mf (jj m) r).2,()))):=by
 unfold dV.f dV.t mf
 cases c:r.2==2 with
 | false =>
  have:(r.2 != 2)=true:=by unfold bne;rw [c];rfl
  rw [this]
  rfl
 | true =>
  have:(r.2 != 2)=false:=by unfold bne;rw [c];rfl
  rw [this]
  simp only [aK,aX]
  rw [aE (n:=m+1) (by omega) (by omega),bK hk,aT,bK hk,aT,iW hk,aT]
  simp only []
  rw [show ([(⟨#[116,101,109,112]⟩:ByteArray),aB aI m,aB aI (m+1),aB dR m]:List ByteArray)=jj m from rfl,mr hk hd (by unfold jj;simp),aT]
  simp only [bne]
  cases q:(ba (jj m) r.1).2==0 with
  | true=>rw [G7 c];rfl
  | false=>simp only [tD,aX,aK,cw,aT]
theorem AA (k:Nat) (p:Ty.den kg):kS.f k p=some (e_ p,()):=rfl
theorem D9 {k:Nat} (hk:2 ^ 50≤k) (ids old:List Int) (dir:aR) (nx b s h:Int) (ho:old.length≤1073741824) {d:Ty.den a_} (hd:DR d) :
 bp.l0 k k 0 ids dir nx b s h [] [] 0 0 0 0 [] 0 0 false d.1 d.2.1 d.2.2.1 d.2.2.2.1 old=some (((nx,(ids,())),(dir,(b,(s,(h,()))))),((tl (uy old d)).1,((tl (uy old d)).2,()))):=by
 refine eV (L:=fun n i (x:Ty.den a_)=>bp.l0 k n i ids dir nx b s h [] [] 0 0 0 0 [] 0 0 false x.1 x.2.1 x.2.2.1 x.2.2.2.1 old) (R:=fun r x=>(some (((nx,(ids,())),(dir,(b,(s,(h,()))))),((tl (uy r x)).1,((tl (uy r x)).2,()))):bp.Rs))
  (Ty.dflt (.int .i64)) old (fun _ x=>DR x) (fun n x hx=>?_) (fun n i x y rest h0 h1 hy hr hx ih=>?_) (n:=k) (s:=d) (by omega) hd
 · simp only [bp.l0,bp.b0]
   rw [aQ (by omega),aK]
   rfl
 · simp only [bp.l0,bp.b0]
   rw [aM h1,aX,aG h0 h1,hy,bK hk,aT,aG h0 h1,iW hk,aT]
   simp only []
   rw [show (x.1,(x.2.1,(x.2.2.1,(x.2.2.2.1,()))))=x from rfl,mr hk hx (by simp),aT,aE (n:=i+1) (by omega) (by omega)]
   have hz:=mO [aB aI y,aB dR y] x hx
   simp only [uy]
   generalize ba [aB aI y,aB dR y] x=q at hz ⊢
   unfold gR
   simp only [bne]
   cases c:q.2==0 with
   | false=>simp only [tD,aX,aK,cw,aT];rfl
   | true =>
    simp only [fb,aX,aK]
    exact ih q.1 hz
end Go.Proofs.YtdbekilnpjmeaaaGreatDoor.G
namespace Go.Proofs.YtdbekilnpjmeaaaGreatDoor.G
open Go.V
def A_ (m:Int):fo→RD→aR→Int→aR
 | [],_,dir,_=>dir
 | p::l,r,dir,a=>bif r.2==0 then A_ m l (fq r.1 (aB aI m) (aN (aF (e_ p)))) (dir++[(p.1,(m,(a,(aY (e_ p),(p.2.2.1,())))))]) (a+aY (e_ p)) else dir
theorem Dw (m:Int):∀ (l:fo) (r:RD) (dir:aR) (a:Int),r.2=0→(xT (aB aI m) (l.map e_) r).2=0→A_ m l r dir a=dir++nd m l a
 | [],_,dir,_,_,_=>(List.append_nil dir).symm
 | p::l,r,dir,a,h,z=>by
  have e:gR r (fun y=>fq y (aB aI m) (aN (aF (e_ p))))=fq r.1 (aB aI m) (aN (aF (e_ p))):=by
   unfold gR
   rw [h]
   rfl
  have z:(xT (aB aI m) (l.map e_) (gR r fun y=>fq y (aB aI m) (aN (aF (e_ p))))).2=0:=z
  rw [e] at z
  have z2:(fq r.1 (aB aI m) (aN (aF (e_ p)))).2=0:=by
   by_cases w:(fq r.1 (aB aI m) (aN (aF (e_ p)))).2=0
   · exact w
   · rw [sE _ _ _ w] at z
     exact absurd z w
  unfold A_
  rw [show (r.2==0)=true by rw [h];rfl,aX,Dw m l _ _ _ z2 z,rW]
  rfl
end Go.Proofs.YtdbekilnpjmeaaaGreatDoor.G
namespace Go.Proofs.YtdbekilnpjmeaaaGreatDoor.G
open Go.V
theorem xg {k:Nat} (hk:2 ^ 50≤k) {d:Ty.den a_} (hd:DR d) (m:Int) {l:fo} (hl:l.length≤1000000) (mark:Int) :
 dX.f k d m l mark=some ((gq m l mark d).1,(A_ m l (b7 (aB aI m) d) [] 0,(fM (gq m l mark d).2,()))):=by
 have hsz:=w6 m
 unfold dX.f dX.t
 rw [bK hk,aT]
 simp only []
 rw [mj hk hd (by omega),aT]
 simp only []
 have hf:=j4 (aB aI m) d hd
 unfold gq qN
 generalize b7 (aB aI m) d=r0 at hf ⊢
 refine eV (L:=fun n i (s:RD × aR × Int × jo)=>dX.l0 k n m l mark s.1.2 s.2.2.1 i [] 0 0 false s.2.1 s.1.1.1 s.1.1.2.1 s.1.1.2.2.1 s.1.1.2.2.2.1 s.2.2.2)
  (R:=fun r s=>(some ((gR (xT (aB aI m) (r.map e_++[gn 5 mark (l.map e_)]) s.1) fun y=>eA y (aB aI m)).1,(A_ m r s.1 s.2.1 s.2.2.1,(fM (gR (xT (aB aI m) (r.map e_++[gn 5 mark (l.map e_)]) s.1) fun y=>eA y (aB aI m)).2,()))):dX.Rs))
  (Ty.dflt kg) l (fun i s=>DR s.1.1∧(s.1.2=0→s.2.2.2=(l.take i.toNat).map e_)∧0≤s.2.2.1∧s.2.2.1≤211*i∧(s.2.1.length:Int)≤i∧(s.2.2.2.length:Int)≤i) (fun n s hs=>?_) (fun n i s x rest h0 h1 hx hr hs ih=>?_) (n:=k) (s:=(r0,([],(0,[])))) (by omega) ⟨hf,fun _=>rfl,Int.le_refl _,by simp,by simp,by simp⟩
 · obtain ⟨r,dir,a,recs⟩:=s
   obtain ⟨g1,g2,g3,g4,g5,g6⟩:=hs
   simp only [] at g1 g2 g3 g4 g5 g6 ⊢
   simp only [dX.l0,dX.b0]
   rw [aQ (by omega),aK]
   simp only [List.map_nil,List.nil_append,xT,A_]
   by_cases c:r.2=0
   · rw [Int.toNat_natCast,List.take_length] at g2
     rw [show (r.2==0)=true by rw [c];rfl,aX,bK hk,aT,g2 c,uG hk (by rw [List.length_map];omega),aT]
     simp only []
     rw [dJ hk,aT]
     simp only []
     rw [lQ hk,aT]
     simp only []
     have hfz:=lL (aF (gn 5 mark (l.map e_)))
     rw [show (r.1.1,(r.1.2.1,(r.1.2.2.1,(r.1.2.2.2.1,()))))=r.1 from rfl,nQ hk g1.sz (aB aI m) (by omega),aT]
     simp only []
     have ha:=oH g1 (aB aI m) (aN (aF (gn 5 mark (l.map e_))))
     rw [show gR r (fun y=>fq y (aB aI m) (aN (aF (gn 5 mark (l.map e_)))))=fq r.1 (aB aI m) (aN (aF (gn 5 mark (l.map e_)))) by unfold gR;rw [c];rfl]
     generalize fq r.1 (aB aI m) (aN (aF (gn 5 mark (l.map e_))))=q at ha ⊢
     unfold gR
     cases c2:q.2==0 with
     | true =>
      simp only [aX]
      rw [aT]
      simp only []
      rw [kz hk ha.sz,aT,cw,aT]
     | false=>simp only [aK,cw,aT]
   · rw [mm c]
     have e:gR r (fun y=>fq y (aB aI m) (aN (aF (gn 5 mark (l.map e_)))))=r:=by unfold gR;rw [mm c];rfl
     rw [e]
     unfold gR
     rw [mm c]
     simp only [aK,cw,aT]
 · obtain ⟨r,dir,a,recs⟩:=s
   obtain ⟨g1,g2,g3,g4,g5,g6⟩:=hs
   simp only [] at g1 g2 g3 g4 g5 g6 ih ⊢
   have hi:i.toNat<l.length:=by omega
   have et:l.take (i+1).toNat=l.take i.toNat++[x]:=by
    rw [show (i+1).toNat=i.toNat+1 by omega,List.take_succ_eq_append_getElem hi]
    congr 2
    rw [← hx]
    simp [List.getD,hi]
   simp only [dX.l0,dX.b0]
   rw [aM h1,aX]
   simp only [List.map_cons,List.cons_append,xT,A_]
   by_cases c:r.2=0
   · have hr:=jA (e_ x)
     have hfz:=lL (aF (e_ x))
     have hz:((aN (aF (e_ x))).size:Int)=aY (e_ x):=rfl
     rw [show (r.2==0)=true by rw [c];rfl,aX,aG h0 h1,hx,AA,aT]
     simp only []
     rw [dJ hk,aT]
     simp only []
     rw [lQ hk,aT]
     simp only []
     rw [bK hk,aT]
     simp only []
     rw [show (r.1.1,(r.1.2.1,(r.1.2.2.1,(r.1.2.2.2.1,()))))=r.1 from rfl,nQ hk g1.sz (aB aI m) (by omega),aT]
     simp only []
     rw [bm (by omega) (by decide),bm (by omega) (by decide),hz,aE (n:=a+aY (e_ x)) (by omega) (by omega),aE (n:=i+1) (by omega) (by omega)]
     have ha:=oH g1 (aB aI m) (aN (aF (e_ x)))
     rw [show gR r (fun y=>fq y (aB aI m) (aN (aF (e_ x))))=fq r.1 (aB aI m) (aN (aF (e_ x))) by unfold gR;rw [c];rfl,aX]
     exact ih (fq r.1 (aB aI m) (aN (aF (e_ x))),(dir++[(x.1,(m,(a,(aY (e_ x),(x.2.2.1,())))))],(a+aY (e_ x),recs++[e_ x]))) ⟨ha,fun _=>by simp only [];rw [g2 c,et,List.map_append];rfl,by simp only [];omega,by simp only [];omega,by simp only [];rw [sG,List.length_singleton];omega,by simp only [];rw [sG,List.length_singleton];omega⟩
   · rw [mm c]
     have e:gR r (fun y=>fq y (aB aI m) (aN (aF (e_ x))))=r:=by unfold gR;rw [mm c];rfl
     rw [e,sE _ _ _ c]
     unfold gR
     rw [mm c]
     simp only [aK,cw,aT]
end Go.Proofs.YtdbekilnpjmeaaaGreatDoor.G
namespace Go.Proofs.YtdbekilnpjmeaaaGreatDoor.G
open Go.V
noncomputable def KT (m:Int) (s:ByteArray):ByteArray:=d6 (ib m s).1
theorem G5 (nm:ByteArray):∀ (l m:jo) (r:RD),xT nm (l++m) r=xT nm m (xT nm l r)
 | [],_,_=>rfl
 | x::l,m,r=>by
  exact G5 nm l m (gR r fun y=>fq y nm (aN (aF x)))
theorem Iz (nm:ByteArray):∀ (rs:jo) (r:RD),DR r.1→DR (xT nm rs r).1
 | [],_,h=>h
 | x::rs,r,h=>Iz nm rs _ (kM h fun y hy=>oH hy _ _)
theorem Gj (m:Int) (l:fo) (mark:Int) {d:Ty.den a_} (hd:DR d):DR (gq m l mark d).1 :=
 kM (Iz _ _ _ (j4 _ _ hd)) fun x hx=>lf hx _
theorem F0 {m:Int} {l:fo} {mark:Int} {d:Ty.den a_} (h:(gq m l mark d).2=0):A_ m l (b7 (aB aI m) d) [] 0=nd m l 0:=by
 unfold gq at h
 obtain ⟨z1,z2,_⟩:=kH h
 unfold qN at z1
 rw [G5] at z1
 have z3:(xT (aB aI m) (l.map e_) (b7 (aB aI m) d)).2=0:=by
  by_cases w:(xT (aB aI m) (l.map e_) (b7 (aB aI m) d)).2=0
  · exact w
  · rw [sE _ _ _ w] at z1
    exact absurd z1 w
 have z0:(b7 (aB aI m) d).2=0:=by
  by_cases w:(b7 (aB aI m) d).2=0
  · exact w
  · rw [sE _ _ _ w] at z3
    exact absurd z3 w
 rw [Dw m l _ [] 0 z0 z3,List.nil_append]
theorem G_ {m:Int} (h0:1≤m) (h1:m+2≤100000):cP (jl m)=true:=by
 have e:aH (m+2-1)=m+1:=by rw [aE (n:=m+2-1) (by omega) (by omega)];omega
 unfold cP jl
 simp only []
 rw [aM (show (1:Int)≤m+2∧m+2≤100000 from ⟨by omega,h1⟩),e]
 simp only [ph,nG,lP,List.length_nil]
 rw [aM (show (1:Int)≤m∧m≤m+1 from ⟨h0,by omega⟩),aM (show (1:Int)≤m+1∧m+1≤m+1 from ⟨by omega,by omega⟩),aM (show m<m+1 by omega)]
 rfl
theorem E9 (c:Int):(fM c != 0)=(c != 0):=by unfold bne;rw [iR]
theorem vd {k:Nat} (hk:2 ^ 50≤k) {st:Ty.den aC} (hl:cP st.1=true) (hn:LE.le (α:=Int) (st.1.1+2) 100000) {f:Ty.den a_} (hf:DR f) (dir:aR) :
 (rm (Ty.bytes (.int .i64)) (0+List.length st.1.2.1) ((dT.f k f (st.1.1+2,([st.1.1,st.1.1+1],()))).bind fun r16=>(bif (r16.2.1 != 0) then ((dV.f k ((st.1.1+2,st.1.2),st.2) r16.1 st.1.1 r16.2.1).bind fun r17=>(some r17)) else
  (bp.l0 k k 0 [st.1.1,st.1.1+1] dir (st.1.1+2) st.2.2.1 0 0 [] [] 0 0 0 0 [] 0 0 false r16.1.1 r16.1.2.1 r16.1.2.2.1 r16.1.2.2.2.1 ([]++st.1.2.1)))):bp.Rs) =
 some (oS (bif (az (jl st.1.1) f).2 != 0 then (uK st,mf (jj st.1.1) (tl (az (jl st.1.1) f))) else ((jl st.1.1,(dir,(st.2.2.1,(0,(0,()))))),tl (uy st.1.2.1 (az (jl st.1.1) f).1)))):=by
 obtain ⟨n1,n2,n3,_⟩:=gm (n:=st.1.1) (ids:=st.1.2.1) hl
 have h60:st.1.2.1.length≤60:=(ck (nx:=st.1.1) (ids:=st.1.2.1) hl).2.2.2.1
 rw [bm (by omega) (by decide),nK hk hf (v:=(st.1.1+2,([st.1.1,st.1.1+1],()))) (G_ n1 hn),aT]
 rw [show ((st.1.1+2,([st.1.1,st.1.1+1],())):Ty.den bj)=jl st.1.1 from rfl]
 have hp:=l_ (jl st.1.1) f hf
 generalize az (jl st.1.1) f=q at hp ⊢
 simp only []
 rw [E9]
 cases c:q.2 != 0 with
 | true =>
  simp only [aX]
  rw [show fM q.2=(tl q).2 from rfl,show q.1=(tl q).1 from rfl,qI hk _ (r:=tl q) hp n1 n2,aT]
  rfl
 | false =>
  simp only [aK,List.nil_append]
  rw [D9 hk _ _ _ _ _ _ _ (by omega) hp]
  rfl
theorem xf {k:Nat} (hk:2 ^ 50≤k) {st:Ty.den aC} {d:Ty.den a_} (hd:DR d) (hl:cP st.1=true) (hn:LE.le (α:=Int) (st.1.1+2) 100000) (hb0:LE.le (α:=Int) 1 st.2.2.1) (hb1:LE.le (α:=Int) st.2.2.1 1000001) {l:fo} (hlen:l.length≤1000000) :
 bp.f k st d l=some (oS (i8 (KT st.1.1) st d l)):=by
 obtain ⟨n1,n2,n3,_⟩:=gm (n:=st.1.1) (ids:=st.1.2.1) hl
 have s1:=w6 st.1.1
 have s2:=w6 (st.1.1+1)
 have s3:=uC (.inr rfl:dR=aI∨dR=dR) st.1.1
 unfold bp.f bp.t
 rw [aE (n:=st.2.2.1-1) (by omega) (by omega),aE (n:=st.1.1+2) (by omega) (by omega),aE (n:=st.1.1+1) (by omega) (by omega),xg hk hd _ hlen,aT]
 simp only []
 have a0:=Gj st.1.1 l (st.2.2.1-1) hd
 have a1:=F0 (m:=st.1.1) (l:=l) (mark:=st.2.2.1-1) (d:=d)
 unfold i8
 generalize A_ st.1.1 l (b7 (aB aI st.1.1) d) [] 0=dir at a1 ⊢
 generalize gq st.1.1 l (st.2.2.1-1) d=a at a0 a1 ⊢
 rw [E9]
 cases ca:a.2 != 0 with
 | true =>
  simp only [aX]
  rw [show fM a.2=(tl a).2 from rfl,show a.1=(tl a).1 from rfl,qI hk _ (r:=tl a) a0 n1 n2,aT]
  rfl
 | false =>
  simp only [aK]
  rw [a1 (fa ca),bK hk,aT]
  simp only []
  rw [mj hk a0 (by omega),aT]
  simp only []
  have b0:=j4 (aB aI (st.1.1+1)) a.1 a0
  generalize b7 (aB aI (st.1.1+1)) a.1=b at b0 ⊢
  cases cb:b.2 != 0 with
  | true =>
   simp only [aX]
   rw [cw,aT]
   simp only []
   rw [show fM b.2=(tl b).2 from rfl,show b.1=(tl b).1 from rfl,qI hk _ (r:=tl b) b0 n1 n2,aT]
   rfl
  | false =>
   have hl':=b0.sz.l
   have hu':=b0.sz.u
   have hn':=b0.sz.n
   have ht:=gX b.1 (aB aI st.1.1)
   have hcap:LE.le (α:=Int) (dz b.1.1) 100000:=Int.le_trans b0.use b0.cap1
   simp only [aK]
   rw [bK hk,aT]
   simp only []
   rw [gI hk (by omega) (by omega) (by omega),aT]
   simp only []
   rw [rQ hk _ (by omega),aT,iW hk,aT]
   simp only []
   rw [ku hk,aT]
   simp only []
   rw [uD hk b0 (by omega) (by have:=oI (ib st.1.1 (ao b.1 (aB aI st.1.1)).1).1;omega),aT]
   simp only []
   unfold nD
   rw [show KT st.1.1 (ao b.1 (aB aI st.1.1)).1=d6 (ib st.1.1 (ao b.1 (aB aI st.1.1)).1).1 from rfl]
   have c0:=o5 (aB dR st.1.1) (d6 (ib st.1.1 (ao b.1 (aB aI st.1.1)).1).1) b.1 b0
   generalize lJ (aB dR st.1.1) (d6 (ib st.1.1 (ao b.1 (aB aI st.1.1)).1).1) b.1=e at c0 ⊢
   cases ce:e.2==2 with
   | true =>
    simp only [aX]
    rw [aT]
    simp only []
    rw [mr hk c0 (by simp),aT]
    simp only []
    have d0:=mO [aB dR st.1.1] e.1 c0
    generalize ba [aB dR st.1.1] e.1=f at d0 ⊢
    cases cf:f.2 != 0 with
    | true =>
     simp only [aX]
     rw [cw,aT]
     rfl
    | false =>
     simp only [aK]
     exact vd hk hl hn d0 _
   | false =>
    simp only [aK]
    cases cf:e.2 != 0 with
    | true =>
     simp only [aX]
     rw [cw,aT]
     rfl
    | false =>
     simp only [aK]
     exact vd hk hl hn c0 _
end Go.Proofs.YtdbekilnpjmeaaaGreatDoor.G
namespace Go.Proofs.YtdbekilnpjmeaaaGreatDoor.G
open Go.V
noncomputable def iq (st:Ty.den aC) (d:Ty.den a_):Ty.den aC × RD :=
 bif !dP st d then (st,(d,4)) else bif decide (st.1.1+2 > 100000) then (st,(d,5)) else
 bif (gk st.2.1 d).2 != 0 then (st,(d,(gk st.2.1 d).2)) else i8 (KT st.1.1) st d (gk st.2.1 d).1
theorem Cd {st:Ty.den aC} {d:Ty.den a_} (h:dP st d=true):LE.le (α:=Int) 1 st.2.2.1∧LE.le (α:=Int) st.2.2.1 1000001:=by
 unfold dP at h
 simp only [im,decide_eq_true_eq] at h
 exact h.2.2.2.1
theorem zf {k:Nat} (hk:2 ^ 50≤k) {st:Ty.den aC} {d:Ty.den a_} (hd:uF d) (h1:st.1.2.1.length≤1073741824) (h2:st.2.1.length≤536870912):k7.f k st d=some (oS (iq st d)):=by
 have ec:dy.f k st=some (st,()):=by
  unfold dy.f dy.t
  rw [bm (by omega) (by decide),bm (by omega) (by decide),List.nil_append,List.nil_append]
 unfold k7.f k7.t iq
 rw [ec,aT]
 simp only []
 rw [kR k hd,aT]
 simp only []
 rw [pN hk hd,aT]
 simp only []
 cases c1:dP st d with
 | false=>rfl
 | true =>
  obtain ⟨g1,g2,g3⟩:=dF c1
  obtain ⟨n1,n2,_,_⟩:=gm (n:=st.1.1) (ids:=st.1.2.1) g1.live
  simp only [fb,aK]
  rw [aE (n:=st.1.1+2) (by omega) (by omega)]
  by_cases c2:st.1.1+2 > (100000:Int)
  · rw [aM c2];rfl
  · rw [aQ c2]
    simp only [aK]
    rw [uI hk hd (by omega),aT]
    simp only []
    have hz:=rC st.2.1 d
    obtain ⟨b1,b2⟩:=Cd c1
    cases (gk st.2.1 d).2 != 0 with
    | true=>rfl
    | false =>
     simp only [aK]
     rw [xf hk g1.disk g1.live (Int.not_lt.1 c2) b1 b2 (by omega),aT]
theorem HY {st:Ty.den aC} {d:Ty.den a_} {c:Int} (h:IV (st,(d,c))):IV (iq st d)∧((iq st d).2.2=0→(dP st d=true∧(gk st.2.1 d).2=0∧(fF (iq st d).2.1 (iq st d).1.1.2.1:Int)=vR (gk st.2.1 d).1 (st.2.2.1-1))∧(fF (iq st d).2.1 (iq st d).1.1.2.1:Int)-hF (iq st d).1.2.1≤20):=by
 have same:∀ z:Int,IV (st,(d,z)):=fun z=>⟨h.disk,h.ids,h.dir,h.non,h.sum⟩
 unfold iq
 cases c1:dP st d with
 | false=>exact ⟨same _,fun e=>absurd e (by show (4:Int)≠0;decide)⟩
 | true =>
  obtain ⟨g1,g2,g3⟩:=dF c1
  simp only [fb,aK]
  by_cases c2:st.1.1+2 > (100000:Int)
  · rw [aM c2]
    exact ⟨same _,fun e=>absurd e (by show (5:Int)≠0;decide)⟩
  · rw [aQ c2]
    simp only [aK]
    have hz:=rC st.2.1 d
    cases c3:(gk st.2.1 d).2 != 0 with
    | true=>exact ⟨same _,fun e=>absurd e (by intro q;rw [show (gk st.2.1 d).2=0 from q] at c3;cases c3)⟩
    | false =>
     simp only [aK]
     obtain ⟨q1,q2⟩:=F2 (hb:=KT st.1.1) h g1.live (Int.not_lt.1 c2) (l:=(gk st.2.1 d).1) (by omega)
     exact ⟨q1,fun e=>⟨⟨by trivial,fa c3,(q2 e).1⟩,(q2 e).2.1⟩⟩
end Go.Proofs.YtdbekilnpjmeaaaGreatDoor.G
namespace Go.Proofs.YtdbekilnpjmeaaaGreatDoor.G
open Go.V
theorem Fa {s t:ByteArray} {i n:Int} (h:(gY s i n).2=true):gY (s++t) i n=gY s i n:=by
 unfold gY at h ⊢
 by_cases c:0≤i∧i≤s.size∧1≤n∧n≤s.size-i
 · have hz:(s++t).size=s.size+t.size:=ByteArray.size_append ..
   have e:ByteArray.extract (s++t) i.toNat (i+n).toNat=ByteArray.extract s i.toNat (i+n).toNat:=by
    refine kV ?_
    rw [ri,ri,iT,List.take_append_of_le_length (by rw [cY];omega)]
   rw [if_pos c,if_pos (show 0≤i∧i≤(s++t).size∧1≤n∧n≤(s++t).size-i from ⟨c.1,by omega,c.2.2.1,by omega⟩),e]
 · rw [if_neg c] at h
   cases h
theorem xN {n:Int} {d d':Ty.den a_} {e:Ty.den aA} (hd:DR d) (hd':DR d') (hx:EX n d d') (h1:LE.le (α:=Int) 1 e.2.1) (h2:LT.lt (α:=Int) e.2.1 n) (h3:LE.le (α:=Int) e.2.1 100000) (h:(eX d e).2=true):eX d' e=eX d e:=by
 unfold eX at h ⊢
 rw [o7 hd] at h
 rw [o7 hd,o7 hd']
 cases c:fT d (aB aI e.2.1) with
 | none =>
  rw [c] at h
  have h:(gY ⟨#[]⟩ e.2.2.1 e.2.2.2.1).2=true:=h
  rw [ui] at h
  cases h
 | some t =>
  obtain ⟨u,hu⟩:=hx e.2.1 h1 h2 h3 t c
  rw [c] at h
  rw [hu]
  exact Fa h
def EI (st:Ty.den aC):Prop:=∀ e ∈ st.2.1,LE.le (α:=Int) 1 e.2.1∧LT.lt (α:=Int) e.2.1 st.1.1
theorem F7 {st:Ty.den aC} (h:EI st) (d:Ty.den a_) (l:gP):EI (cB st d l).1:=by
 rcases DH st d l with ⟨e,_⟩ | ⟨_,_,g2,_,g4,_⟩
 · rw [e];exact h
 · intro x hx
   rcases g4 x hx with w | w
   · exact ⟨(h x w).1,Int.lt_of_lt_of_le (h x w).2 g2⟩
   · exact w
theorem E_ (m:Int):∀ (l:fo) (a:Int),∀ e ∈ nd m l a,e.2.1=m
 | [],_,e,h=>by cases h
 | p::l,a,e,h=>by
  rcases List.mem_cons.1 h with w | w
  · rw [w]
  · exact E_ m l _ e w
theorem vL {st:Ty.den aC} (h:EI st):EI (uK st):=fun e he=>⟨(h e he).1,by have:=(h e he).2;show LT.lt (α:=Int) e.2.1 (st.1.1+2);omega⟩
theorem HE {st:Ty.den aC} (h:EI st) (d:Ty.den a_):EI (iq st d).1:=by
 unfold iq
 cases c1:dP st d with
 | false=>exact h
 | true =>
  obtain ⟨g1,_,_⟩:=dF c1
  obtain ⟨n1,n2,_,_⟩:=gm (n:=st.1.1) (ids:=st.1.2.1) g1.live
  simp only [fb,aK]
  cases decide (st.1.1+2 > (100000:Int)) with
  | true=>exact h
  | false =>
   cases (gk st.2.1 d).2 != 0 with
   | true=>exact h
   | false =>
    simp only [aK]
    generalize (gk st.2.1 d).1=l
    unfold i8
    generalize gq st.1.1 l (st.2.2.1-1) d=a
    cases a.2 != 0 with
    | true=>exact vL h
    | false =>
     simp only [aK]
     generalize b7 (aB aI (st.1.1+1)) a.1=b
     cases b.2 != 0 with
     | true=>exact vL h
     | false =>
      simp only [aK]
      generalize nD (KT st.1.1) st.1.1 b.1=e
      cases e.2 != 0 with
      | true=>exact vL h
      | false =>
       simp only [aK]
       generalize az (jl st.1.1) e.1=f
       cases f.2 != 0 with
       | true=>exact vL h
       | false =>
        intro x hx
        have:=E_ st.1.1 l 0 x hx
        exact ⟨by rw [this];exact n1,by rw [this];show LT.lt (α:=Int) st.1.1 (st.1.1+2);omega⟩
end Go.Proofs.YtdbekilnpjmeaaaGreatDoor.G
namespace Go.Proofs.YtdbekilnpjmeaaaGreatDoor.G
open Go.V
def FL (s:ByteArray):Prop:=∃ rs:jo,(∀ r ∈ rs,fG r=true)∧s=dG rs
theorem Ik (s:ByteArray):∀ (d:Nat) (i:Int),0≤i→i≤s.size→(s.size:Int)-i<d→(kT s d i).2=(s.size:Int)→FL (ByteArray.extract s i.toNat s.size):=by
 intro d
 induction d with
 | zero=>intro i h0 h1 h2 _;omega
 | succ d ih =>
  intro i h0 h1 h2 h
  have stop:i=(s.size:Int)→FL (ByteArray.extract s i.toNat s.size):=fun e=>by
   rw [e,Int.toNat_natCast,GX]
   exact ⟨[],fun r hr=>(by cases hr),rfl⟩
  rw [kT] at h
  by_cases c1:(iV (ByteArray.extract s i.toNat s.size)).2=0
  · rw [if_pos c1] at h
    exact stop h
  · rw [if_neg c1] at h
    cases c2:(i6 (iV (ByteArray.extract s i.toNat s.size)).1).2 with
    | false =>
     rw [if_pos c2] at h
     exact stop h
    | true =>
     rw [if_neg (by rw [c2];decide)] at h
     have hu:=n8 (ByteArray.extract s i.toNat s.size)
     have hz:=qh s i.toNat
     have ih:=ih (i+(iV (ByteArray.extract s i.toNat s.size)).2) (by omega) (by omega) (by omega) h
     rcases og (ByteArray.extract s i.toNat s.size) with ⟨t,r,ht,e1,e2⟩ | ⟨e2,_⟩
     · rw [e2] at ih c2
       simp only [] at ih c2
       have e3:ByteArray.extract s (i+((aN t).size:Int)).toNat s.size=r:=by
        apply kV
        have hnb:=congrArg nb e1
        rw [ig,iT] at hnb
        rw [ig,show (i+((aN t).size:Int)).toNat=i.toNat+(aN t).size by omega,← List.drop_drop,hnb,List.drop_left' (cY _)]
       rw [e3] at ih
       obtain ⟨rs,k1,k2⟩:=ih
       obtain ⟨g1,g2⟩:=CM (s:=t) (r:=(i6 t).1) (Prod.ext rfl c2)
       refine ⟨(i6 t).1::rs,fun x hx=>?_,?_⟩
       · rcases List.mem_cons.1 hx with e | e
         · rw [e];exact g1
         · exact k1 x e
       · rw [e1,k2,dG,g2]
     · exact absurd (by rw [e2]) c1
theorem FB (s:ByteArray):ByteArray.extract s 0 s.size=s:=kV (by rw [ig,List.drop_zero])
theorem I9 {s:ByteArray} (h:(dq s).2=(s.size:Int)):FL s:=by
 have:=Ik s (s.size+1) 0 (by omega) (by omega) (by omega) h
 rw [show (0:Int).toNat=0 from rfl,FB] at this
 exact this
theorem Fe {s:ByteArray} (h:FL s):(dq s).2=(s.size:Int):=by
 obtain ⟨rs,h1,h2⟩:=h
 rw [h2]
 exact (AO h1).2
theorem DW (r:Ty.den am):dG [r]=aN (aF r):=GH _
theorem GB {s:ByteArray} {r:Ty.den am} (h:FL s) (hr:fG r=true):FL (s++aN (aF r)):=by
 obtain ⟨rs,h1,h2⟩:=h
 refine ⟨rs++[r],fun x hx=>?_,?_⟩
 · rcases List.mem_append.1 hx with e | e
   · exact h1 x e
   · rw [List.mem_singleton.1 e];exact hr
 · rw [q9,DW,h2]
theorem Fn:FL ⟨#[]⟩:=⟨[],fun r hr=>(by cases hr),rfl⟩
theorem yD (r:Ty.den am):5≤aY r∧aY r≤210:=by
 have h1:=kP r
 have h2:=kx (s:=aF r) (by omega)
 have h3:(aN (aF r)).size≤74:=by
  unfold aN
  rw [if_neg (by omega)]
  have h4:=jH (pn (j5 (aF r)))
  have h5:=bA ((aF r).size:Int)
  rw [ByteArray.size_append]
  unfold j5 at h4 ⊢
  rw [ByteArray.size_append]
  omega
 unfold aY
 omega
theorem Ed (t:ByteArray) {r:Ty.den am} (h:fG r=true):gY (t++aN (aF r)) (t.size:Int) (aY r)=(r,true):=by
 have hz:=kP r
 have hp:=yD r
 have hl:((aN (aF r)).size:Int)=aY r:=rfl
 have hs:(t++aN (aF r)).size=t.size+(aN (aF r)).size:=ByteArray.size_append ..
 have e:ByteArray.extract (t++aN (aF r)) (t.size:Int).toNat ((t.size:Int)+aY r).toNat=aN (aF r):=by
  rw [Int.toNat_natCast,show ((t.size:Int)+aY r).toNat=(t++aN (aF r)).size by omega]
  exact eU _ _
 have e2:iV (aN (aF r))=(aF r,((aN (aF r)).size:Int)):=by
  have:=ox ⟨#[]⟩ (t:=aF r) (by omega)
  rw [GH] at this
  exact this
 unfold gY
 rw [if_pos ⟨by omega,by omega,by omega,by omega⟩,e,e2]
 simp only []
 rw [if_pos hl,tS h]
def Jh (x:Ty.den aA):Bool:=m3 x.1&&(decide ((1:Int)≤x.2.1∧x.2.1≤100000)&&(!decide (x.2.2.1<(0:Int))&&(decide ((1:Int)≤x.2.2.2.1∧x.2.2.2.1≤210)&&decide ((1:Int)≤x.2.2.2.2.1∧x.2.2.2.2.1≤1000000))))
theorem Fd (p:Option (Ty.den aA)) (x:Ty.den aA):nt p x=true↔(Jh x=true∧∀ q,p=some q→lZ q.1 x.1=true):=by
 unfold nt Jh
 simp only [im]
 cases p with
 | none=>exact ⟨fun h=>⟨⟨h.1,h.2.1,h.2.2.1,h.2.2.2.1,h.2.2.2.2.1⟩,fun q hq=>(by cases hq)⟩,fun h=>⟨h.1.1,h.1.2.1,h.1.2.2.1,h.1.2.2.2.1,h.1.2.2.2.2,rfl⟩⟩
 | some y=>exact ⟨fun h=>⟨⟨h.1,h.2.1,h.2.2.1,h.2.2.2.1,h.2.2.2.2.1⟩,fun q hq=>(by cases hq;exact h.2.2.2.2.2)⟩,fun h=>⟨h.1.1,h.1.2.1,h.1.2.2.1,h.1.2.2.2.1,h.1.2.2.2.2,h.2 y rfl⟩⟩
def ji (l:aR):List ByteArray:=l.map (·.1)
theorem EA:∀ (l:aR) (p:Option (Ty.den aA)),ph nt p l=true↔((∀ f ∈ l,Jh f=true)∧dO (ji l)∧(∀ q,p=some q→∀ f ∈ l,lZ q.1 f.1=true))
 | [],p=>by
  constructor
  · intro _
    exact ⟨fun f h=>(by cases h),List.Pairwise.nil,fun q _ f h=>(by cases h)⟩
  · intro _;rfl
 | g::l,p=>by
  have ih:=EA l (some g)
  unfold ph
  rw [im,ih,Fd]
  constructor
  · rintro ⟨⟨h1,h2⟩,h3,h4,h5⟩
    refine ⟨fun f hf=>?_,?_,fun q hq f hf=>?_⟩
    · rcases List.mem_cons.1 hf with e | e
      · rw [e];exact h1
      · exact h3 f e
    · unfold dO ji
      rw [List.map_cons,List.pairwise_cons]
      refine ⟨fun x hx=>?_,h4⟩
      obtain ⟨f,hf,rfl⟩:=List.mem_map.1 hx
      exact h5 g rfl f hf
    · rcases List.mem_cons.1 hf with e | e
      · rw [e];exact h2 q hq
      · exact om (h2 q hq) (h5 g rfl f e)
  · rintro ⟨h1,h2,h3⟩
    unfold dO ji at h2
    rw [List.map_cons,List.pairwise_cons] at h2
    refine ⟨⟨h1 g (oX ..),fun q hq=>h3 q hq g (oX ..)⟩,fun f hf=>h1 f (qS _ hf),h2.2,fun q hq f hf=>?_⟩
    cases hq
    exact h2.1 f.1 (List.mem_map.2 ⟨f,hf,rfl⟩)
theorem AW {l:aR}:oz l=true↔(l.length≤20∧(∀ f ∈ l,Jh f=true)∧dO (ji l)):=by
 unfold oz
 rw [im,decide_eq_true_eq,EA]
 exact ⟨fun h=>⟨by omega,h.2.1,h.2.2.1⟩,fun h=>⟨by omega,h.2.1,h.2.2,fun q hq=>(by cases hq)⟩⟩
theorem yj (key:ByteArray) {l:aR} (h:dO (ji l)):dO (ji (gB l key)):=List.Pairwise.sublist (List.Sublist.map _ List.filter_sublist) h
theorem yW {α:Type} (key:α→ByteArray) {e:α}:∀ {l:List α},dO (l.map key)→(∀ g ∈ l,key g≠key e)→dO ((l.takeWhile (fun x=>lZ (key x) (key e)||seq (key x) (key e))++e::l.dropWhile (fun x=>lZ (key x) (key e)||seq (key x) (key e))).map key)
 | [],_,_=>List.pairwise_singleton ..
 | g::l,h,hn=>by
  have h':=h
  unfold dO at h'
  rw [List.map_cons,List.pairwise_cons] at h'
  have ih:=yW key (e:=e) (l:=l) h'.2 fun x hx=>hn x (qS _ hx)
  rw [List.takeWhile_cons,List.dropWhile_cons]
  have hne:=hn g oX
  cases c:(lZ (key g) (key e)||seq (key g) (key e)) with
  | true =>
   rw [if_pos rfl,if_pos rfl]
   unfold dO at ih ⊢
   rw [List.cons_append,List.map_cons,List.pairwise_cons]
   refine ⟨fun x hx=>?_,ih⟩
   have hge:lZ (key g) (key e)=true:=by
    rw [kh hne,Bool.or_false] at c
    exact c
   obtain ⟨y,hy,rfl⟩:=List.mem_map.1 hx
   rcases List.mem_append.1 hy with w | w
   · exact h'.1 (key y) (List.mem_map.2 ⟨y,List.takeWhile_subset _ w,rfl⟩)
   · rcases List.mem_cons.1 w with w | w
     · rw [w];exact hge
     · exact h'.1 (key y) (List.mem_map.2 ⟨y,List.dropWhile_subset _ w,rfl⟩)
  | false =>
   rw [if_neg (by decide),if_neg (by decide),List.nil_append]
   rw [kh hne,Bool.or_false] at c
   have hlt:lZ (key e) (key g)=true:=by
    have:=lA (key e) (key g)
    rw [kh (fun q=>hne q.symm),c] at this
    simpa using this
   unfold dO
   rw [List.map_cons,List.pairwise_cons]
   refine ⟨fun x hx=>?_,h⟩
   obtain ⟨y,hy,rfl⟩:=List.mem_map.1 hx
   rcases List.mem_cons.1 hy with w | w
   · rw [w];exact hlt
   · exact om hlt (h'.1 (key y) (List.mem_map.2 ⟨y,w,rfl⟩))
theorem HJ {e:Ty.den aA} {l:aR} (h:dO (ji l)) (hn:∀ g ∈ l,g.1≠e.1):dO (ji (mo l e)):=yW (fun x:Ty.den aA=>x.1) h hn
theorem Ib {l:aR} {key:ByteArray}:∀ g ∈ gB l key,g.1≠key:=fun g hg q=>by
 unfold gB at hg
 rw [List.mem_filter] at hg
 have:=hg.2
 rw [q,c9] at this
 cases this
theorem Er {d:aR} (p:Ty.den aL) (h:dO (ji d)):dO (ji (fK d p)):=by
 unfold fK
 cases p.2.2.2.1.1==2 with
 | true=>exact yj _ h
 | false=>exact HJ (yj _ h) Ib
theorem vo:∀ (ps:bG) {d:aR},dO (ji d)→dO (ji (dC d ps))
 | [],_,h=>h
 | p::ps,d,h=>vo ps (d:=fK d p) (Er p h)
end Go.Proofs.YtdbekilnpjmeaaaGreatDoor.G
namespace Go.Proofs.YtdbekilnpjmeaaaGreatDoor.G
open Go.V
structure BT (st:Ty.den aC) (d:Ty.den a_):Prop where
 live:cP st.1=true
 disk:DR d
 full:∀ x ∈ st.1.2.1,∃ t,fT d (aB aI x)=some t∧FL t
 tail:∀ t,fT d (bL st)=some t→st.2.2.2.1=(t.size:Int)
theorem EY {d:Ty.den a_} (hd:DR d) (s:ByteArray):(ao d s).2=(fT d s).isSome:=by
 rw [rq hd]
 unfold fT
 cases bi d.1 s <;> rfl
theorem wQ {d:Ty.den a_} (hd:DR d) {tail:Int}:∀ {l:List Int},m9 d tail l=true↔((∀ x ∈ l,∃ t,fT d (aB aI x)=some t∧FL t)∧(l≠[]→∀ t,fT d (aB aI (c8 l))=some t→tail=(t.size:Int)))
 | []=>⟨fun _=>⟨fun x hx=>(by cases hx),fun h=>absurd rfl h⟩,fun _=>rfl⟩
 | x::l=>by
  have ih:=wQ hd (tail:=tail) (l:=l)
  have hl:l≠[]→c8 (x::l)=c8 l:=fun h=>by
   unfold c8
   cases l with
   | nil=>exact absurd rfl h
   | cons y r=>simp [List.getD]
  unfold m9 BL
  simp only [im]
  rw [ih,EY hd,o7 hd]
  constructor
  · rintro ⟨⟨h1,h2,h3⟩,h4,h5⟩
    obtain ⟨t,ht⟩:=Option.isSome_iff_exists.1 h1
    rw [ht] at h2 h3
    simp only [Option.getD_some,decide_eq_true_eq] at h2
    refine ⟨fun y hy=>?_,fun _ u hu=>?_⟩
    · rcases List.mem_cons.1 hy with e | e
      · rw [e];exact ⟨t,ht,I9 h2⟩
      · exact h4 y e
    · by_cases c:l=[]
      · subst c
        have e:c8 [x]=x:=rfl
        rw [e,ht] at hu
        have hu:=Option.some.inj hu
        rw [← hu]
        simp only [List.isEmpty_nil,fb,Bool.false_or,Option.getD_some] at h3
        exact G7 h3
      · rw [hl c] at hu
        exact h5 c u hu
  · rintro ⟨h1,h2⟩
    obtain ⟨t,ht,hf⟩:=h1 x oX
    rw [ht]
    simp only [Option.isSome_some,Option.getD_some,decide_eq_true_eq]
    refine ⟨⟨by trivial,Fe hf,?_⟩,fun y hy=>h1 y (qS _ hy),fun c u hu=>h2 (by simp) u (by rw [hl c];exact hu)⟩
    cases l with
    | nil =>
     have:=h2 (by simp) t (by rw [show c8 [x]=x from rfl];exact ht)
     rw [this]
     simp
    | cons y r=>rfl
theorem Bx {st:Ty.den aC} {d:Ty.den a_} (h:dP st d=true):BT st d:=by
 obtain ⟨g1,g2,g3⟩:=dF h
 unfold dP at h
 simp only [im] at h
 obtain ⟨_,_,k1,_,_⟩:=ck (nx:=st.1.1) (ids:=st.1.2.1) g1.live
 obtain ⟨q1,q2⟩:=(wQ g1.disk).1 h.2.2.2.2.1
 exact ⟨g1.live,g1.disk,q1,q2 (by intro e;rw [e] at k1;simp at k1)⟩
def PK (d:Ty.den a_) (p:Ty.den aL):Prop:=eX d (cr p)=(iy p,true)
def PE (p:Ty.den aL):Prop:=(LE.le (α:=Int) 1 p.1∧LE.le (α:=Int) p.1 100000)∧LE.le (α:=Int) 0 p.2.1∧LE.le (α:=Int) 1 p.2.2.1∧LE.le (α:=Int) p.2.2.1 210
theorem Gp {st:Ty.den aC} {d:Ty.den a_} (h:BT st d) {r:Ty.den am} (hr:fG r=true) (z:(gd st d r).1.2.2=0):BT (gd st d r).1.1 (gd st d r).1.2.1∧PK (gd st d r).1.2.1 (gd st d r).2∧PE (gd st d r).2:=by
 obtain ⟨b1,b2⟩:=vI h.live
 obtain ⟨n1,n2,n3,n4⟩:=gm (n:=st.1.1) (ids:=st.1.2.1) h.live
 obtain ⟨_,_,g1,_,_⟩:=ck (nx:=st.1.1) (ids:=st.1.2.1) h.live
 have hlast:c8 st.1.2.1 ∈ st.1.2.1:=by
  have hs:=pK g1
  rw [hs]
  exact List.mem_append_right _ (List.mem_singleton.2 (by rw [← hs]))
 have hz:=yD r
 have hl:((aN (aF r)).size:Int)=aY r:=rfl
 obtain ⟨t,ht,hf⟩:=h.full _ hlast
 have ht:fT d (bL st)=some t:=ht
 have htl:=h.tail t ht
 have ha:=oH h.disk (bL st) (aN (aF r))
 have ko:∀ s,bL st≠s→fT (fq d (bL st) (aN (aF r))).1 s=fT d s:=fun s q=>pR q
 have kl:=qp (d:=d) (s:=bL st) (x:=aN (aF r))
 unfold gd at z ⊢
 generalize fq d (bL st) (aN (aF r))=a at ha ko kl z ⊢
 cases c:a.2 != 0 with
 | true =>
  rw [c] at z
  have z:(tl a).2=0:=z
  have q:=mh a
  rw [z,c] at q
  cases q
 | false =>
  have c0:(a.2==0)=true:=beq_iff_eq.2 (fa c)
  rw [c0,aX,ht] at kl
  have kl:fT a.1 (bL st)=some (t++aN (aF r)):=kl
  simp only [aK]
  refine ⟨⟨h.live,ha,fun x hx=>?_,fun u hu=>?_⟩,?_,?_⟩
  · by_cases q:bL st=aB aI x
    · rw [← q]
      exact ⟨_,kl,GB hf hr⟩
    · show ∃ t,fT a.1 (aB aI x)=some t∧FL t
      rw [ko _ q]
      exact h.full x hx
  · have hu:fT a.1 (bL st)=some u:=hu
    rw [kl] at hu
    rw [← Option.some.inj hu,ByteArray.size_append]
    show @Eq Int (st.2.2.2.1+aY r) ((t.size+(aN (aF r)).size:Nat):Int)
    rw [htl]
    omega
  · show gY (ao a.1 (bL st)).1 st.2.2.2.1 (aY r)=(r,true)
    rw [o7 ha,kl,htl]
    exact Ed t hr
  · refine ⟨⟨b1,by show LE.le (α:=Int) (c8 st.1.2.1) 100000;omega⟩,?_,?_,?_⟩
    · show LE.le (α:=Int) 0 st.2.2.2.1
      rw [htl]
      omega
    · show LE.le (α:=Int) 1 (aY r)
      omega
    · show LE.le (α:=Int) (aY r) 210
      omega
theorem Cc (l:List Int) (n:Int):c8 (l++[n])=n:=by
 unfold c8
 simp [List.getD]
theorem HV {st:Ty.den aC} {d:Ty.den a_} (h:BT st d) (z:(gj st d).2.2=0):BT (gj st d).1 (gj st d).2.1:=by
 obtain ⟨n1,n2,n3,_⟩:=gm (n:=st.1.1) (ids:=st.1.2.1) h.live
 have hseg:∀ x:Int,x ∈ st.1.2.1→1≤x∧x≤100000:=fun x hx=>⟨(n3 x hx).1,by have:=(n3 x hx).2;omega⟩
 have hnew:∀ x ∈ st.1.2.1,aB aI st.1.1≠aB aI x:=fun x hx=>jB ⟨n1,n2⟩ (hseg x hx) (by have:=(n3 x hx).2;omega)
 have k2:∀ x ∈ st.1.2.1,fT (b7 (aB aI st.1.1) (eA d (bL st)).1).1 (aB aI x)=fT d (aB aI x):=fun x hx=>(ja (hnew x hx)).trans kA
 have k3:∀ x ∈ st.1.2.1,fT (az (ie st) (b7 (aB aI st.1.1) (eA d (bL st)).1).1).1 (aB aI x)=fT d (aB aI x):=fun x hx=>(gZ (fw (hseg x hx)) (ia (hseg x hx))).trans (k2 x hx)
 have o2:=ow (s:=aB aI st.1.1) (d:=(eA d (bL st)).1)
 have o3:fT (az (ie st) (b7 (aB aI st.1.1) (eA d (bL st)).1).1).1 (aB aI st.1.1)=fT (b7 (aB aI st.1.1) (eA d (bL st)).1).1 (aB aI st.1.1):=gZ (fw ⟨n1,n2⟩) (ia ⟨n1,n2⟩)
 have h1:=lf h.disk (bL st)
 have h2:=j4 (aB aI st.1.1) _ h1
 have h3:=l_ (ie st) _ h2
 unfold gj at z ⊢
 by_cases c1:(st.1.2.1.length:Int)≥60
 · rw [aM c1] at z
   exact absurd z (by show (5:Int)≠0;decide)
 by_cases c2:st.1.1≥(100000:Int)
 · rw [aQ c1,aM c2] at z
   exact absurd z (by show (5:Int)≠0;decide)
 have c1':st.1.2.1.length<60:=by omega
 have c2':LT.lt (α:=Int) st.1.1 100000:=Int.not_le.1 c2
 have hg:cP (DZ st).1=true:=tY h.live c2' c1'
 rw [aQ c1,aQ c2] at z ⊢
 simp only [aK] at z ⊢
 generalize eA d (bL st)=r1 at h1 h2 h3 k2 k3 o2 o3 z ⊢
 generalize b7 (aB aI st.1.1) r1.1=r2 at h2 h3 k2 k3 o2 o3 z ⊢
 generalize az (ie st) r2.1=r3 at h3 k3 o3 z ⊢
 have tlz:∀ r:RD,(r.2 != 0)=true→(tl r).2≠0:=fun r q e=>by
  have:=mh r
  rw [e,q] at this
  cases this
 cases e1:r1.2 != 0 with
 | true=>rw [e1] at z;exact absurd z (tlz r1 e1)
 | false =>
  rw [e1] at z
  simp only [aK] at z ⊢
  cases e2:r2.2 != 0 with
  | true=>rw [e2] at z;exact absurd z (tlz r2 e2)
  | false =>
   rw [e2] at z
   simp only [aK] at z ⊢
   have o2:=o2 (fa e2)
   cases e3:r3.2 != 0 with
   | true =>
    rw [e3] at z
    simp only [aX] at z
    refine absurd z ?_
    unfold oN
    cases q:(tl r3).2==2 with
    | false=>exact tlz r3 e3
    | true =>
     show (bif (ba [fA,aB aI st.1.1] (tl r3).1).2==0 then (2:Int) else fM (ba [fA,aB aI st.1.1] (tl r3).1).2)≠0
     cases w:(ba [fA,aB aI st.1.1] (tl r3).1).2==0 with
     | true=>show (2:Int)≠0;decide
     | false =>
      intro e
      have:=iR (ba [fA,aB aI st.1.1] (tl r3).1).2
      rw [w] at this
      simp only [aK] at e
      rw [e] at this
      cases this
   | false =>
    simp only [aK]
    refine ⟨hg,h3,fun x hx=>?_,fun u hu=>?_⟩
    · have hx:x ∈ st.1.2.1++[st.1.1]:=hx
      rcases List.mem_append.1 hx with w | w
      · show ∃ t,fT r3.1 (aB aI x)=some t∧FL t
        rw [k3 x w]
        exact h.full x w
      · rw [List.mem_singleton.1 w]
        exact ⟨_,o3.trans o2,Fn⟩
    · have hu:fT r3.1 (aB aI (c8 (st.1.2.1++[st.1.1])))=some u:=hu
      rw [Cc,o3,o2] at hu
      rw [← Option.some.inj hu]
      rfl
theorem Gf {st:Ty.den aC} {d:Ty.den a_} (h:BT st d) {r:Ty.den am} (hr:fG r=true) (z:(df st d r).1.2.2=0):BT (df st d r).1.1 (df st d r).1.2.1∧PK (df st d r).1.2.1 (df st d r).2∧PE (df st d r).2:=by
 have hq:=HV h
 unfold df at z ⊢
 cases c:decide (st.2.2.2.1 > 0)&&decide (st.2.2.2.1+aY r > 200) with
 | false =>
  rw [c] at z
  exact Gp h hr z
 | true =>
  rw [c] at z
  simp only [aX] at z ⊢
  generalize gj st d=q at hq z ⊢
  cases c2:q.2.2 != 0 with
  | true =>
   rw [c2] at z
   have z:q.2.2=0:=z
   rw [z] at c2
   cases c2
  | false =>
   rw [c2] at z
   exact Gp (hq (fa c2)) hr z
theorem Ad:∀ (l:jo) (st:Ty.den aC) (d:Ty.den a_) (ps:bG),BT st d→(∀ r ∈ l,fG r=true)→(∀ p ∈ ps,PK d p∧PE p∧LT.lt (α:=Int) p.1 st.1.1)→(d_ l st d ps).1.2.2=0 →
 BT (d_ l st d ps).1.1 (d_ l st d ps).1.2.1∧∀ p ∈ (d_ l st d ps).2,PK (d_ l st d ps).1.2.1 p∧PE p∧LT.lt (α:=Int) p.1 (d_ l st d ps).1.1.1.1
 | [],st,d,ps,h,_,hp,_=>⟨h,hp⟩
 | r::l,st,d,ps,h,hr,hp,z=>by
  have hb:=Gf h (hr r oX)
  obtain ⟨s1,s2,s3,s4⟩:=E5 (d:=d) h.live h.disk r
  unfold d_ at z ⊢
  generalize df st d r=q at hb s1 s2 s3 s4 z ⊢
  cases c:q.1.2.2 != 0 with
  | true =>
   rw [c] at z
   have z:q.1.2.2=0:=z
   rw [z] at c
   cases c
  | false =>
   have e0:=fa c
   obtain ⟨k1,k2,k3⟩:=hb e0
   rw [c] at z
   simp only [aK] at z ⊢
   refine Ad l q.1.1 q.1.2.1 (ps++[q.2]) k1 (fun x hx=>hr x (qS _ hx)) (fun p hq=>?_) z
   rcases List.mem_append.1 hq with w | w
   · obtain ⟨p1,p2,p3⟩:=hp p w
     refine ⟨?_,p2,Int.lt_of_lt_of_le p3 s2⟩
     have p1':eX d (cr p)=(iy p,true):=p1
     show eX q.1.2.1 (cr p)=(iy p,true)
     rw [xN h.disk k1.disk s1 p2.1.1 p3 p2.1.2 (by rw [p1']),p1']
   · rw [List.mem_singleton.1 w]
     exact ⟨k2,k3,(s4 e0).2⟩
theorem zh {l:gP} {b:Int} (h:gV l=true) (h0:1≤b) (h1:b≤1000000):∀ r ∈ eZ l b,fG r=true:=by
 intro r hr
 unfold eZ at hr
 rcases List.mem_append.1 hr with w | w
 · obtain ⟨x,hx,e⟩:=List.mem_map.1 w
   have hp:=sA h hx
   unfold kZ m3 at hp
   simp only [im] at hp
   rw [← e]
   unfold fZ fG
   cases c:x.2.1 with
   | true =>
    simp only [aX]
    rw [show ((2:Int)==1||(2:Int)==4)=false from rfl,show ((2:Int)==2)=true from rfl]
    simp only [aK,aX]
    rw [hp.1,aM (show 1≤b∧b≤1000000 from ⟨h0,h1⟩),show seq ByteArray.empty ⟨#[]⟩=true from c9 _]
    rfl
   | false =>
    simp only [aK]
    rw [show ((1:Int)==1||(1:Int)==4)=true from rfl]
    simp only [aX]
    rw [hp.1,hp.2.1,aM (show 1≤b∧b≤1000000 from ⟨h0,h1⟩)]
    rfl
 · have hl:=jV h
   have hs:=Hg (l.map (fZ b))
   rw [List.mem_singleton.1 w]
   unfold gn fG
   rw [show ((3:Int)==1||(3:Int)==4)=false from rfl,show ((3:Int)==2)=false from rfl,show ((3:Int)==3)=true from rfl]
   simp only [aK,aX]
   rw [aM (show (0:Int)≤((l.map (fZ b)).length:Int)∧((l.map (fZ b)).length:Int)≤8 by rw [List.length_map];omega),aM (show 0≤xA (l.map (fZ b))∧xA (l.map (fZ b))≤4294967295 from hs),aM (show 1≤b∧b≤1000000 from ⟨h0,h1⟩),show seq ByteArray.empty ⟨#[]⟩=true from c9 _]
   rfl
def Kt (key x:ByteArray):Bool:=lZ x key||seq x key
def KO (K:List ByteArray) (key:ByteArray):List ByteArray:=K.takeWhile (Kt key)++key::K.dropWhile (Kt key)
theorem qy (l:aR) (key:ByteArray):ji (gB l key)=(ji l).filter fun x=>!(seq x key):=by
 unfold ji gB
 rw [List.filter_map]
 rfl
theorem Bm (l:aR) (e:Ty.den aA):ji (mo l e)=KO (ji l) e.1:=by
 unfold ji mo KO
 rw [List.map_append,List.map_cons,List.takeWhile_map,List.dropWhile_map]
 rfl
theorem yA:∀ (l:gP) (d d' es fs:aR),ji d=ji d'→ji es=ji fs→ji (nf d l es)=ji (nf d' l fs)
 | [],d,d',es,fs,h,_=>by rw [p0,p0];exact h
 | x::l,d,d',[],[],h,_=>by unfold nf;exact h
 | x::l,d,d',e::es,[],_,g=>by cases g
 | x::l,d,d',[],f::fs,_,g=>by cases g
 | x::l,d,d',e::es,f::fs,h,g=>by
  unfold ji at g
  rw [List.map_cons,List.map_cons] at g
  injection g with g1 g2
  unfold nf
  refine yA l _ _ es fs ?_ g2
  cases x.2.1 with
  | true=>simp only [aX];rw [qy,qy,h]
  | false =>
   simp only [aK]
   unfold rK
   rw [Bm,Bm,qy,qy,h,g1]
theorem KF {a:Int} (h:1≤a) (g:a≤1000000):1≤a+1∧a+1≤1000001:=by omega
theorem Kl (a:Int):¬ a≥a+1:=by omega
theorem KH {a b:Int} (h:¬ b≥a):¬ b≥a+1:=by omega
theorem uk {st:Ty.den aC} {d:Ty.den a_} {l:gP} (hs:dP st d=true) (he:EI st) (hp:gV l=true) (hb:LE.le (α:=Int) st.2.2.1 1000000) (ha:k_ st.2.1 l≤20) (z:(br st d l).2.2=0):dP (br st d l).1 (br st d l).2.1=true ∧
 (∀ e ∈ (br st d l).1.2.1,(e ∈ st.2.1∧eX (br st d l).2.1 e=eX d e)∨∃ x ∈ l,x.2.1=false∧e.1=x.1∧eX (br st d l).2.1 e=(fZ st.2.2.1 x,true)) ∧
 ji (br st d l).1.2.1=ji (nf st.2.1 l (l.map sX)) ∧
 ∃ ps:bG,(br st d l).1.2.1=dC st.2.1 ps∧ps.map iy=l.map (fZ st.2.2.1)∧(∀ p ∈ ps,eX (br st d l).2.1 (cr p)=(iy p,true))∧∀ e ∈ st.2.1,eX (br st d l).2.1 e=eX d e:=by
 obtain ⟨g1,g2,g3⟩:=dF hs
 have hBT:=Bx hs
 have hs':=hs
 unfold dP at hs'
 simp only [im] at hs'
 obtain ⟨_,_,hdir,_,_,hent⟩:=hs'
 obtain ⟨d1,d2,d3⟩:=AW.1 hdir
 have hl8:=jV hp
 have hbat:SR (lN st) (d,0) 100000:=⟨g1.live,g1.disk,g1.lo,g1.hi⟩
 obtain ⟨f1,f2,f3⟩:=ly (eZ l st.2.2.1) (lN st) d [] 100000 hbat (by decide)
 obtain ⟨s1,s2,s3,s4⟩:=xO (eZ l st.2.2.1) (lN st) d [] 100000 hbat (by decide) (fun x hx=>by cases hx)
 have hB:=Ad (eZ l st.2.2.1) (lN st) d [] ⟨hBT.live,hBT.disk,hBT.full,hBT.tail⟩ (zh hp g3 hb) (fun x hx=>by cases hx)
 unfold br at z ⊢
 generalize d_ (eZ l st.2.2.1) (lN st) d []=q at f1 f2 f3 s1 s2 s3 s4 hB z ⊢
 have e2:q.1.1.2.1=st.2.1:=f2
 have s1:EX st.1.1 d q.1.2.1:=s1
 have s3:q.1.1.2.2.1=st.2.2.1+1:=s3
 unfold nl at z ⊢
 cases c:q.1.2.2 != 0 with
 | true =>
  rw [c] at z
  have z:q.1.2.2=0:=z
  rw [z] at c
  cases c
 | false =>
  rw [c] at z
  simp only [aK] at z ⊢
  have c0:=fa c
  have f3:=f3 c0
  rw [List.map_nil,List.nil_append] at f3
  obtain ⟨hB1,hB2⟩:=hB c0
  have y0:=sH s1 (Gi st.1.1 q.1.2.1 (bL q.1.1))
  have y1:=lf hB1.disk (bL q.1.1)
  have y2:∀ s,fT (eA q.1.2.1 (bL q.1.1)).1 s=fT q.1.2.1 s:=fun s=>kA
  generalize eA q.1.2.1 (bL q.1.1)=y at y0 y1 y2 z ⊢
  cases cy:y.2 != 0 with
  | true =>
   rw [cy] at z
   have z:(tl y).2=0:=z
   have q:=mh y
   rw [z,cy] at q
   cases q
  | false =>
   simp only [aK]
   have hrp:∀ p ∈ q.2.take l.length,iy p ∈ l.map (fZ st.2.2.1):=fun p hp=>by
    have h1:(q.2.take l.length).map iy=l.map (fZ st.2.2.1):=by
     rw [List.map_take,f3]
     unfold eZ
     rw [List.take_append_of_le_length (by rw [List.length_map];omega),List.take_of_length_le (by rw [List.length_map];omega)]
    rw [← h1]
    exact List.mem_map.2 ⟨p,hp,rfl⟩
   have hPK:∀ p ∈ q.2.take l.length,eX y.1 (cr p)=(iy p,true):=fun p hp=>by
    obtain ⟨p1,_,_⟩:=hB2 p (List.mem_of_mem_take hp)
    have p1:eX q.1.2.1 (cr p)=(iy p,true):=p1
    rw [← p1]
    unfold eX
    rw [o7 y1,o7 hB1.disk,y2]
   have newE:∀ e ∈ dC q.1.1.2.1 (q.2.take l.length),(∃ p ∈ q.2.take l.length,e=cr p∧(p.2.2.2.1.1==2)=false)∨e ∈ st.2.1:=fun e hq=>by
    rw [e2] at hq
    exact mB _ hq
   have hput:∀ p ∈ q.2.take l.length,m3 (cr p).1=true∧(iy p).2.1=st.2.2.1∧((iy p).1=1∨(iy p).1=2):=fun p hq=>by
    obtain ⟨x,hx,e⟩:=List.mem_map.1 (hrp p hq)
    have hk:=sA hp hx
    unfold kZ at hk
    simp only [im] at hk
    refine ⟨?_,?_,?_⟩
    · show m3 (iy p).2.2.1=true
      rw [← e]
      unfold fZ
      cases x.2.1 <;> exact hk.1
    · rw [← e]
      unfold fZ
      cases x.2.1 <;> rfl
    · rw [← e]
      unfold fZ
      cases x.2.1
      · exact .inl rfl
      · exact .inr rfl
   have hkeys:ji (dC st.2.1 (q.2.take l.length))=ji (nf st.2.1 l (l.map sX)):=by
    have k1:ji (nf st.2.1 l (q.2.map cr))=ji (nf st.2.1 l (l.map sX++[sX (ByteArray.empty,(false,(ByteArray.empty,())))])):=by
     refine yA l _ _ _ _ rfl ?_
     unfold ji
     rw [List.map_map,show q.2.map ((fun x:Ty.den aA=>x.1) ∘ cr)=(q.2.map iy).map (fun r:Ty.den am=>r.2.2.1) from by rw [List.map_map];rfl,f3]
     unfold eZ
     rw [List.map_append,List.map_append,List.map_map,List.map_map]
     congr 1
     refine List.map_congr_left fun x _=>?_
     show (fZ st.2.2.1 x).2.2.1=x.1
     unfold fZ
     cases x.2.1 <;> rfl
    have k2:∀ (l:gP) (d:aR) (m:aR),nf d l (l.map sX++m)=nf d l (l.map sX):=by
     intro l
     induction l with
     | nil=>intro d m;rw [p0,p0]
     | cons x l ih =>
      intro d m
      rw [List.map_cons,List.cons_append]
      unfold nf
      exact ih _ m
    rw [k2,sB st.2.2.1 l q.2 [gn 3 st.2.2.1 (l.map (fZ st.2.2.1))] st.2.1 f3] at k1
    exact k1
   have oldE:∀ e ∈ st.2.1,eX y.1 e=eX d e:=fun e w=>by
    have hin:=List.all_eq_true.1 hent e w
    obtain ⟨i1,i2⟩:=he e w
    have i3:LE.le (α:=Int) e.2.1 100000:=by
     have:=d2 e w
     unfold Jh at this
     simp only [im,decide_eq_true_eq] at this
     exact this.2.1.2
    unfold nN at hin
    simp only [im] at hin
    exact xN g1.disk y1 y0 i1 i2 i3 hin.1
   refine ⟨?_,fun e hq=>?_,by show ji (dC q.1.1.2.1 (q.2.take l.length))=_;rw [e2];exact hkeys,q.2.take l.length,by show dC q.1.1.2.1 (q.2.take l.length)=_;rw [e2],?_,hPK,oldE⟩
   rotate_left
   rotate_left
   · rw [List.map_take,f3]
     unfold eZ
     rw [List.take_append_of_le_length (by rw [List.length_map];omega),List.take_of_length_le (by rw [List.length_map];omega)]
   rotate_left
   · show (e ∈ st.2.1∧eX y.1 e=eX d e)∨∃ x ∈ l,x.2.1=false∧e.1=x.1∧eX y.1 e=(fZ st.2.2.1 x,true)
     rcases newE e hq with ⟨p,hq',w,kd⟩ | w
     · obtain ⟨x,hx,ex⟩:=List.mem_map.1 (hrp p hq')
       have kd:((iy p).1==2)=false:=kd
       have cx:x.2.1=false:=by
        cases c:x.2.1 with
        | false=>rfl
        | true =>
         rw [← ex] at kd
         unfold fZ at kd
         rw [c] at kd
         cases kd
       refine .inr ⟨x,hx,cx,?_,?_⟩
       · rw [w]
         show (iy p).2.2.1=x.1
         rw [← ex]
         unfold fZ
         rw [cx]
         rfl
       · rw [w,hPK p hq',ex]
     · exact .inl ⟨w,oldE e w⟩
   unfold dP
   simp only [im]
   refine ⟨hZ.2 y1,hB1.live,AW.2 ⟨?_,fun e hq=>?_,?_⟩,decide_eq_true ?_,(wQ y1).2 ⟨fun x hx=>?_,fun _ u hu=>?_⟩,List.all_eq_true.2 fun e hq=>?_⟩
   · have k3:=congrArg List.length hkeys
     unfold ji at k3
     rw [List.length_map,List.length_map] at k3
     show (dC q.1.1.2.1 (q.2.take l.length)).length≤20
     rw [e2,k3]
     unfold k_ at ha
     omega
   · rcases newE e hq with ⟨p,hq',w,_⟩ | w
     · obtain ⟨_,p2,_⟩:=hB2 p (List.mem_of_mem_take hq')
       obtain ⟨u1,u2,u3⟩:=hput p hq'
       rw [w]
       unfold Jh
       rw [u1,aM (show (1:Int)≤(cr p).2.1∧(cr p).2.1≤100000 from p2.1),aQ (show ¬ (cr p).2.2.1<(0:Int) from Int.not_lt.2 p2.2.1),aM (show (1:Int)≤(cr p).2.2.2.1∧(cr p).2.2.2.1≤210 from p2.2.2),
        aM (show (1:Int)≤(cr p).2.2.2.2.1∧(cr p).2.2.2.2.1≤1000000 from by show (1:Int)≤(iy p).2.1∧(iy p).2.1≤1000000;rw [u2];exact ⟨g3,hb⟩)]
       rfl
     · exact d2 e w
   · show dO (ji (dC q.1.1.2.1 (q.2.take l.length)))
     rw [e2]
     exact vo _ d3
   · show (1:Int)≤q.1.1.2.2.1∧q.1.1.2.2.1≤1000001
     rw [s3]
     exact KF g3 hb
   · show ∃ t,fT y.1 (aB aI x)=some t∧FL t
     rw [y2]
     exact hB1.full x hx
   · have hu:fT y.1 (bL q.1.1)=some u:=hu
     rw [y2] at hu
     exact hB1.tail u hu
   · show nN y.1 q.1.1.2.2.1 e=true
     rw [s3]
     rcases newE e hq with ⟨p,hq',w,kd⟩ | w
     · obtain ⟨u1,u2,u3⟩:=hput p hq'
       have hr:=hPK p hq'
       have kd:((iy p).1==2)=false:=kd
       have k1:(iy p).1=1:=by
        rcases u3 with v | v
        · exact v
        · rw [v] at kd;cases kd
       unfold nN
       rw [w,hr]
       simp only []
       rw [show (cr p).1=(iy p).2.2.1 from rfl,c9,show (cr p).2.2.2.2.1=(iy p).2.1 from rfl,beq_self_eq_true,k1,u2,aQ (Kl st.2.2.1)]
       rfl
     · have hin:=List.all_eq_true.1 hent e w
       obtain ⟨i1,i2⟩:=he e w
       have i3:LE.le (α:=Int) e.2.1 100000:=by
        have:=d2 e w
        unfold Jh at this
        simp only [im,decide_eq_true_eq] at this
        exact this.2.1.2
       unfold nN at hin ⊢
       simp only [im] at hin ⊢
       rw [xN g1.disk y1 y0 i1 i2 i3 hin.1]
       refine ⟨hin.1,hin.2.1,hin.2.2.1,hin.2.2.2.1,?_⟩
       have hlt:=hin.2.2.2.2
       simp only [Bool.not_eq_true',decide_eq_false_iff_not] at hlt ⊢
       exact KH hlt
end Go.Proofs.YtdbekilnpjmeaaaGreatDoor.G
namespace Go.Proofs.YtdbekilnpjmeaaaGreatDoor.G
open Go.V
theorem zV {d:Ty.den a_} {s:ByteArray}:bi d.1 s=none↔fT d s=none:=by
 unfold fT
 cases bi d.1 s <;> simp
theorem Hk {r:RD} {f:Ty.den a_→RD} (h:r.2=0):gR r f=f r.1:=by
 unfold gR
 rw [h]
 rfl
end Go.Proofs.YtdbekilnpjmeaaaGreatDoor.G
namespace Go.Proofs.YtdbekilnpjmeaaaGreatDoor.G
open Go.V
theorem xy:∀ {l:aR},dO (ji l)→∀ e ∈ l,j8 l e.1=some e
 | [],_,e,h=>by cases h
 | x::l,hk,e,h=>by
  unfold dO ji at hk
  rw [List.map_cons,List.pairwise_cons] at hk
  rw [j8.eq_2]
  rcases List.mem_cons.1 h with w | w
  · rw [w,c9]
    rfl
  · have hlt:=hk.1 e.1 (List.mem_map.2 ⟨e,w,rfl⟩)
    rw [kh (fun q=>by rw [q,pX] at hlt;cases hlt),aK]
    exact xy hk.2 e w
theorem Hu {st:Ty.den aC} {d:Ty.den a_} (h:dP st d=true) {e:Ty.den aA} (he:e ∈ st.2.1):qg st.2.1 d e.1=((e.1,((eX d e).1.2.2.2.1,((eX d e).1.2.1,()))),0):=by
 unfold dP at h
 simp only [im] at h
 obtain ⟨_,_,hdir,_,_,hent⟩:=h
 obtain ⟨_,_,hk⟩:=AW.1 hdir
 have hin:=List.all_eq_true.1 hent e he
 unfold nN at hin
 simp only [im] at hin
 unfold qg
 rw [xy hk e he]
 simp only []
 rw [hin.1,hin.2.1,hin.2.2.2.1]
 rfl
theorem zl {st:Ty.den aC} {d:Ty.den a_} (h:dP st d=true):gk st.2.1 d=(st.2.1.map fun e=>(e.1,((eX d e).1.2.2.2.1,((eX d e).1.2.1,()))),0):=by
 have key:∀ (r:aR) (acc:fo),(∀ e ∈ r,e ∈ st.2.1)→nO st.2.1 d (r.map (·.1)) acc=(acc++r.map fun e=>(e.1,((eX d e).1.2.2.2.1,((eX d e).1.2.1,()))),0):=by
  intro r
  induction r with
  | nil=>intro acc _;rw [List.map_nil,List.map_nil,List.append_nil];rfl
  | cons e r ih =>
   intro acc hr
   rw [List.map_cons,nO,Hu h (hr e oX)]
   show nO st.2.1 d (r.map (·.1)) (acc++[_])=_
   rw [ih _ fun x hx=>hr x (qS _ hx),rW]
   rfl
 unfold gk
 rw [key st.2.1 [] fun e he=>he,List.nil_append]
end Go.Proofs.YtdbekilnpjmeaaaGreatDoor.G
namespace Go.Proofs.YtdbekilnpjmeaaaGreatDoor.G
open Go.V
def JY (key:ByteArray) (x:Ty.den kg):Bool:=lZ x.1 key||seq x.1 key
def jb (l:fo) (key:ByteArray):fo:=l.filter fun x=>!(seq x.1 key)
def zF (l:fo) (p:Ty.den kg):fo:=l.takeWhile (JY p.1)++p::l.dropWhile (JY p.1)
def Df (l:fo) (p:Ty.den kg) (del:Bool):fo:=bif del then jb l p.1 else zF (jb l p.1) p
def rS (l:fo) (puts:gP) (b:Int):fo:=puts.foldl (fun l q=>Df l (q.1,(q.2.2.1,(b,()))) q.2.1) l
theorem Fv (l:fo) (p:Ty.den kg):(zF l p).length=l.length+1:=by
 unfold zF
 rw [sG,lP]
 have:=congrArg List.length (List.takeWhile_append_dropWhile (p:=JY p.1) (l:=l))
 rw [sG] at this
 omega
theorem zI (l:fo) (key:ByteArray):(jb l key).length≤l.length:=List.length_filter_le ..
theorem Fu (l:fo) (p:Ty.den kg) (del:Bool):(Df l p del).length≤l.length+1:=by
 unfold Df
 have:=zI l p.1
 cases del
 · rw [aK,Fv];omega
 · rw [aX];omega
end Go.Proofs.YtdbekilnpjmeaaaGreatDoor.G
namespace Go.Proofs.YtdbekilnpjmeaaaGreatDoor.G
open Go.V
theorem ug {v:Ty.den aA→Ty.den kg} (hv:∀ e,(v e).1=e.1) (l:aR) (key:ByteArray):(gB l key).map v=jb (l.map v) key:=by
 unfold gB jb
 rw [List.filter_map]
 congr 1
 refine List.filter_congr fun x _=>?_
 show (!(seq x.1 key))=!(seq (v x).1 key)
 rw [hv]
theorem Hj {v:Ty.den aA→Ty.den kg} (hv:∀ e,(v e).1=e.1) (l:aR) (e:Ty.den aA):(mo l e).map v=zF (l.map v) (v e):=by
 have h:((JY (v e).1) ∘ v)=Cx e.1:=by
  funext x
  show (lZ (v x).1 (v e).1||seq (v x).1 (v e).1)=_
  rw [hv,hv]
  rfl
 unfold mo zF
 rw [List.map_append,List.map_cons,List.takeWhile_map,List.dropWhile_map,h]
theorem yI {v:Ty.den aA→Ty.den kg} (hv:∀ e,(v e).1=e.1) (b:Int):∀ (l:gP) (ps:bG) (dir:aR),ps.map iy=l.map (fZ b)→(∀ p ∈ ps,v (cr p)=((iy p).2.2.1,((iy p).2.2.2.1,((iy p).2.1,()))))→(dC dir ps).map v=rS (dir.map v) l b
 | [],[],dir,_,_=>rfl
 | [],p::ps,dir,h,_=>by cases h
 | x::l,[],dir,h,_=>by cases h
 | x::l,p::ps,dir,h,hp=>by
  rw [List.map_cons,List.map_cons] at h
  injection h with h1 h2
  have ih:=yI hv b l ps (fK dir p) h2 fun q hq=>hp q (qS _ hq)
  show (dC (fK dir p) ps).map v=rS (Df (dir.map v) (x.1,(x.2.2.1,(b,()))) x.2.1) l b
  rw [ih]
  congr 1
  have hpp:=hp p oX
  have h1:p.2.2.2.1=fZ b x:=h1
  unfold fK Df
  rw [h1]
  cases c:x.2.1 with
  | true =>
   rw [show ((fZ b x).1==2)=true by unfold fZ;rw [c];rfl,show (fZ b x).2.2.1=x.1 by unfold fZ;rw [c];rfl]
   exact ug hv dir x.1
  | false =>
   rw [show ((fZ b x).1==2)=false by unfold fZ;rw [c];rfl]
   simp only [aK]
   unfold rK
   have ek:(cr p).1=x.1:=by
    show p.2.2.2.1.2.2.1=x.1
    rw [h1]
    unfold fZ
    rw [c]
    rfl
   have ev:v (cr p)=(x.1,(x.2.2.1,(b,()))):=by
    rw [hpp]
    show (p.2.2.2.1.2.2.1,(p.2.2.2.1.2.2.2.1,(p.2.2.2.1.2.1,())))=_
    rw [h1]
    unfold fZ
    rw [c]
    rfl
   rw [Hj hv,ug hv,ev,ek]
theorem CU {st:Ty.den aC} {d:Ty.den a_} {l:gP} (hs:dP st d=true) (he:EI st) (hp:gV l=true) (hb:LE.le (α:=Int) st.2.2.1 1000000) (ha:k_ st.2.1 l≤20) (z:(br st d l).2.2=0) :
 gk (br st d l).1.2.1 (br st d l).2.1=(rS (gk st.2.1 d).1 l st.2.2.1,0):=by
 obtain ⟨s1,_,_,ps,p1,p2,p3,p4⟩:=uk hs he hp hb ha z
 rw [zl s1,zl hs,p1]
 simp only []
 rw [yI (v:=fun e=>(e.1,((eX (br st d l).2.1 e).1.2.2.2.1,((eX (br st d l).2.1 e).1.2.1,())))) (fun _=>rfl) st.2.2.1 l ps st.2.1 p2 fun p hq=>?_]
 · congr 2
   refine List.map_congr_left fun e he=>?_
   rw [p4 e he]
 · rw [p3 p hq]
   rfl
end Go.Proofs.YtdbekilnpjmeaaaGreatDoor.G
namespace Go.Proofs.YtdbekilnpjmeaaaGreatDoor.G
open Go.V
def SP (d d':Ty.den a_) (m:Int):Prop:=0≤m∧∀ n n':Int,n=d.2.2.1→n'=d'.2.2.1→0≤n→n≤100000→n'=n-m∧0≤n'
theorem I2 (d:Ty.den a_):SP d d 0:=⟨Int.le_refl _,fun n n' h h' h0 h1=>by rw [← h] at h';omega⟩
theorem lh {d d' d'':Ty.den a_} {a b c:Int} (h:SP d d' a) (g:SP d' d'' b) (e:c=a+b):SP d d'' c:=by
 obtain ⟨a0,h⟩:=h
 obtain ⟨b0,g⟩:=g
 refine ⟨by omega,fun n n' q q' h0 h1=>?_⟩
 obtain ⟨u1,u2⟩:=h n d'.2.2.1 q rfl h0 h1
 obtain ⟨w1,w2⟩:=g d'.2.2.1 n' rfl q' u2 (Int.le_trans (Int.le_of_eq u1) (by omega))
 obtain ⟨m,hm⟩:∃ m:Int,m=d'.2.2.1:=⟨_,rfl⟩
 rw [← hm] at u1 w1
 exact ⟨by omega,w2⟩
theorem pe {d:Ty.den a_} {g:bN→Int→bN × Int} (h:(iD d g).2=0):SP d (iD d g).1 1:=by
 refine ⟨by decide,fun n n' q q' h0 h1=>?_⟩
 unfold iD at h q'
 cases c:(jm d).2 != 0 with
 | true =>
  rw [c,aX] at h
  rw [h] at c
  cases c
 | false =>
  rw [c,aK] at q'
  have z:=fa c
  have q':n'=(jm d).1.2.2.1:=q'
  unfold jm at z q'
  cases c1:iB d with
  | false=>rw [c1] at z;exact absurd z (by show (5:Int)≠0;decide)
  | true =>
   rw [c1] at z q'
   simp only [fb,aK] at z q'
   cases c2:d.2.2.2.1 with
   | true=>rw [c2] at z;exact absurd z (by show (1:Int)≠0;decide)
   | false =>
    rw [c2] at z q'
    simp only [aK] at z q'
    rw [← q] at z q'
    cases c3:n==0 with
    | true=>rw [c3] at z;exact absurd z (by show (1:Int)≠0;decide)
    | false =>
     rw [c3] at q'
     have c3:=beq_eq_false_iff_ne.1 c3
     rw [aM (show n > 0 by omega)] at q'
     have q':n'=aH (n-1):=q'
     rw [aE (n:=n-1) (by omega) (by omega)] at q'
     omega
theorem FW {d:Ty.den a_} {s:ByteArray} (h:fT d s=none):jk s d=(d,0):=by
 have:=zV.2 h
 unfold jk
 rw [this]
 rfl
theorem B9 {d:Ty.den a_} {s:ByteArray} (h:fT d s=none) (z:(b7 s d).2=0):SP d (b7 s d).1 1:=by
 unfold b7 at z ⊢
 rw [FW h,Hk (r:=(d,0)) rfl] at z ⊢
 exact pe z
theorem IY {d:Ty.den a_} {s t:ByteArray} (h:fT d s=none) (z:(lJ s t d).2=0):SP d (lJ s t d).1 3:=by
 unfold lJ at z ⊢
 obtain ⟨z1,e1,z2⟩:=kH z
 obtain ⟨z3,e2,z4⟩:=kH z1
 rw [e1]
 refine lh ?_ (pe z2) (show (3:Int)=2+1 by decide)
 rw [e2]
 exact lh (B9 h z3) (pe z4) (by decide)
theorem Il {d:Ty.den a_} {a b:ByteArray} (hd:DR d) (hab:a≠b) (z:(su d a b).2=0):fT (su d a b).1 a=none:=by
 obtain ⟨c1,c2⟩:=qr z
 unfold fT
 show (bi (iD d (uw a b)).1.1 a).map _=_
 rw [c2]
 unfold uw at c1 ⊢
 cases c3:jZ b with
 | false=>rw [c3] at c1;exact absurd c1 (by show (5:Int)≠0;decide)
 | true =>
  rw [c3] at c1
  simp only [fb,aK] at c1 ⊢
  cases c4:bi d.1 a with
  | none=>rw [c4] at c1;exact absurd c1 (by show (3:Int)≠0;decide)
  | some f =>
   simp only []
   rw [kh hab,aK]
   show (bi (jx (h_ (h_ d.1 a) b) (b,f.2)) a).map _=_
   rw [vS (f:=(b,f.2)) (fun q=>hab q.symm),sV hab,qd hd.keys a]
   rfl
theorem DD {d:Ty.den a_} {v:Ty.den bj} (hd:DR d) (h:fT d fA=none) (z:(az v d).2=0):SP d (az v d).1 4∧fT (az v d).1 fA=none:=by
 unfold az at z ⊢
 obtain ⟨z1,e1,z2⟩:=kH z
 rw [e1]
 exact ⟨lh (IY h z1) (pe z2) (show (4:Int)=3+1 by decide),Il (o5 _ _ _ hd) (by decide) z2⟩
structure AB (st:Ty.den aC) (d:Ty.den a_):Prop where
 temp:fT d fA=none
 segs:∀ x:Int,LE.le (α:=Int) st.1.1 x→x≤100000→fT d (aB aI x)=none
theorem Hc {st:Ty.den aC} {d:Ty.den a_} (h:BT st d) (z:(gj st d).2.2=0) :
 (gj st d).1.2.2.2.1=0∧fF (gj st d).2.1 (gj st d).1.1.2.1=fF d st.1.2.1∧(AB st d→SP d (gj st d).2.1 6∧AB (gj st d).1 (gj st d).2.1):=by
 obtain ⟨n1,n2,n3,_⟩:=gm (n:=st.1.1) (ids:=st.1.2.1) h.live
 have hseg:∀ x:Int,x ∈ st.1.2.1→1≤x∧x≤100000:=fun x hx=>⟨(n3 x hx).1,by have:=(n3 x hx).2;omega⟩
 have hnew:∀ x ∈ st.1.2.1,aB aI st.1.1≠aB aI x:=fun x hx=>jB ⟨n1,n2⟩ (hseg x hx) (by have:=(n3 x hx).2;omega)
 have k3:∀ x ∈ st.1.2.1,fT (az (ie st) (b7 (aB aI st.1.1) (eA d (bL st)).1).1).1 (aB aI x)=fT d (aB aI x):=fun x hx=>(gZ (fw (hseg x hx)) (ia (hseg x hx))).trans ((ja (hnew x hx)).trans kA)
 have h1:=lf h.disk (bL st)
 have h2:=j4 (aB aI st.1.1) _ h1
 have t1:AB st d→fT (eA d (bL st)).1 fA=none:=fun ha=>kA.trans ha.temp
 have t2:AB st d→fT (b7 (aB aI st.1.1) (eA d (bL st)).1).1 fA=none:=fun ha=>(ja (fun q=>fw ⟨n1,n2⟩ q.symm)).trans (t1 ha)
 have g1:AB st d→fT (eA d (bL st)).1 (aB aI st.1.1)=none:=fun ha=>kA.trans (ha.segs _ (Int.le_refl _) n2)
 have g2:AB st d→∀ x:Int,LE.le (α:=Int) (st.1.1+1) x→x≤100000→fT (az (ie st) (b7 (aB aI st.1.1) (eA d (bL st)).1).1).1 (aB aI x)=none:=fun ha x x0 x1=>by
  have hx:1≤x∧x≤100000:=⟨by omega,x1⟩
  exact (gZ (fw hx) (ia hx)).trans ((ja (jB ⟨n1,n2⟩ hx (by omega))).trans (kA.trans (ha.segs x (by omega) x1)))
 have o2:=ow (s:=aB aI st.1.1) (d:=(eA d (bL st)).1)
 have o3:fT (az (ie st) (b7 (aB aI st.1.1) (eA d (bL st)).1).1).1 (aB aI st.1.1)=fT (b7 (aB aI st.1.1) (eA d (bL st)).1).1 (aB aI st.1.1):=gZ (fw ⟨n1,n2⟩) (ia ⟨n1,n2⟩)
 have c1:=pe (d:=d) (g:=xp (bL st))
 have c2:=fun ha=>B9 (d:=(eA d (bL st)).1) (g1 ha)
 have c3:=fun ha=>DD (v:=ie st) h2 (t2 ha)
 have tlz:∀ r:RD,(r.2 != 0)=true→(tl r).2≠0:=fun r q e=>by
  have:=mh r
  rw [e,q] at this
  cases this
 unfold gj at z ⊢
 by_cases q1:(st.1.2.1.length:Int)≥60
 · rw [aM q1] at z
   exact absurd z (by show (5:Int)≠0;decide)
 by_cases q2:st.1.1≥(100000:Int)
 · rw [aQ q1,aM q2] at z
   exact absurd z (by show (5:Int)≠0;decide)
 rw [aQ q1,aQ q2] at z ⊢
 simp only [aK] at z ⊢
 change (eA d (bL st)).2=0→SP d (eA d (bL st)).1 1 at c1
 generalize eA d (bL st)=r1 at c1 c2 c3 h1 h2 k3 t1 t2 g1 g2 o2 o3 z ⊢
 generalize b7 (aB aI st.1.1) r1.1=r2 at c2 c3 h2 k3 t2 g2 o2 o3 z ⊢
 generalize az (ie st) r2.1=r3 at c3 k3 g2 o3 z ⊢
 cases e1:r1.2 != 0 with
 | true=>rw [e1] at z;exact absurd z (tlz r1 e1)
 | false =>
  rw [e1] at z
  simp only [aK] at z ⊢
  cases e2:r2.2 != 0 with
  | true=>rw [e2] at z;exact absurd z (tlz r2 e2)
  | false =>
   rw [e2] at z
   simp only [aK] at z ⊢
   have o2:=o2 (fa e2)
   cases e3:r3.2 != 0 with
   | true =>
    rw [e3] at z
    simp only [aX] at z
    refine absurd z ?_
    unfold oN
    cases q:(tl r3).2==2 with
    | false=>exact tlz r3 e3
    | true =>
     show (bif (ba [fA,aB aI st.1.1] (tl r3).1).2==0 then (2:Int) else fM (ba [fA,aB aI st.1.1] (tl r3).1).2)≠0
     cases w:(ba [fA,aB aI st.1.1] (tl r3).1).2==0 with
     | true=>show (2:Int)≠0;decide
     | false =>
      intro e
      have:=iR (ba [fA,aB aI st.1.1] (tl r3).1).2
      rw [w] at this
      simp only [aK] at e
      rw [e] at this
      cases this
   | false =>
    simp only [aK]
    refine ⟨rfl,?_,fun ha=>?_⟩
    rotate_left
    · obtain ⟨c3,c4⟩:=c3 ha (fa e3)
      exact ⟨lh (c1 (fa e1)) (lh (c2 ha (fa e2)) c3 rfl) (by decide),⟨c4,g2 ha⟩⟩
    show fF r3.1 (st.1.2.1++[st.1.1])=fF d st.1.2.1
    rw [sZ,iI k3]
    have:fF r3.1 [st.1.1]=0:=by
     unfold fF yU
     rw [List.map_singleton,List.sum_singleton,o3,o2]
     rfl
    rw [this,Nat.add_zero]
theorem CC {st:Ty.den aC} {d:Ty.den a_} (h:BT st d) (r:Ty.den am) (z:(gd st d r).1.2.2=0) :
 (∀ n:Int,n=st.2.2.2.1→(gd st d r).1.1.2.2.2.1=n+aY r)∧(fF (gd st d r).1.2.1 (gd st d r).1.1.1.2.1:Int)=(fF d st.1.2.1:Int)+aY r∧(AB st d→SP d (gd st d r).1.2.1 1∧AB (gd st d r).1.1 (gd st d r).1.2.1):=by
 obtain ⟨b1,b2⟩:=vI h.live
 obtain ⟨n1,n2,n3,n4⟩:=gm (n:=st.1.1) (ids:=st.1.2.1) h.live
 obtain ⟨_,_,g1,_,_⟩:=ck (nx:=st.1.1) (ids:=st.1.2.1) h.live
 have hs:=pK g1
 have hlast:c8 st.1.2.1 ∈ st.1.2.1:=by rw [hs];exact List.mem_append_right _ (List.mem_singleton.2 (by rw [← hs]))
 have hp:∀ x:Int,x ∈ st.1.2.1.dropLast→x<c8 st.1.2.1:=fun x hx=>by
  rw [hs] at n4
  exact (List.pairwise_append.1 n4).2.2 x hx _ (List.mem_singleton.2 rfl)
 have hb:∀ x:Int,x ∈ st.1.2.1→1≤x∧x≤100000:=fun x hx=>⟨(n3 x hx).1,by have:=(n3 x hx).2;omega⟩
 obtain ⟨t,ht,_⟩:=h.full _ hlast
 have ht:fT d (bL st)=some t:=ht
 have ko:∀ x ∈ st.1.2.1.dropLast,fT (fq d (bL st) (aN (aF r))).1 (aB aI x)=fT d (aB aI x):=fun x hx =>
  pR (jB (hb _ hlast) (hb x (List.dropLast_subset _ hx)) (by have:=hp x hx;omega))
 have kt:AB st d→fT (fq d (bL st) (aN (aF r))).1 fA=none:=fun ha=>(pR (fun q=>fw (hb _ hlast) q.symm)).trans ha.temp
 have kn:AB st d→∀ x:Int,LE.le (α:=Int) st.1.1 x→x≤100000→fT (fq d (bL st) (aN (aF r))).1 (aB aI x)=none:=fun ha x x0 x1 =>
  (pR (jB (hb _ hlast) ⟨by omega,x1⟩ (by omega))).trans (ha.segs x x0 x1)
 have kl:=qp (d:=d) (s:=bL st) (x:=aN (aF r))
 have c1:=pe (d:=d) (g:=wn (bL st) (aN (aF r)))
 change (fq d (bL st) (aN (aF r))).2=0→SP d (fq d (bL st) (aN (aF r))).1 1 at c1
 unfold gd at z ⊢
 generalize fq d (bL st) (aN (aF r))=a at ko kt kn kl c1 z ⊢
 cases c:a.2 != 0 with
 | true =>
  rw [c] at z
  have z:(tl a).2=0:=z
  have q:=mh a
  rw [z,c] at q
  cases q
 | false =>
  have c0:=fa c
  rw [show (a.2==0)=true from beq_iff_eq.2 c0,aX,ht] at kl
  have kl:fT a.1 (bL st)=some (t++aN (aF r)):=kl
  simp only [aK]
  refine ⟨fun n hn=>by rw [hn];rfl,?_,fun ha=>⟨c1 c0,⟨kt ha,kn ha⟩⟩⟩
  show (fF a.1 st.1.2.1:Int)=(fF d st.1.2.1:Int)+aY r
  have e1:∀ dd:Ty.den a_,fF dd st.1.2.1=fF dd st.1.2.1.dropLast+yU dd (bL st):=fun dd=>by
   conv=>lhs;rw [hs]
   rw [sZ]
   unfold fF bL
   simp
  rw [e1 d,e1 a.1,iI ko]
  have e2:yU a.1 (bL st)=yU d (bL st)+(aN (aF r)).size:=by
   unfold yU
   rw [kl,ht]
   simp [ByteArray.size_append]
  rw [e2]
  unfold aY
  omega
def mA:jo→Int→Int
 | [],_=>0
 | r::l,sz=>if 0<sz∧aY r > 200-sz then 7+mA l (aY r) else 1+mA l (sz+aY r)
def pj:jo→Int
 | []=>0
 | r::l=>aY r+pj l
theorem Ab:∀ (l:jo) (sz s b:Int),ov l sz s b=(s+mA l sz,b+pj l)
 | [],sz,s,b=>by unfold ov mA pj;rw [Int.add_zero,Int.add_zero]
 | r::l,sz,s,b=>by
  unfold ov mA pj
  by_cases c:0<sz∧aY r > 200-sz
  · rw [if_pos c,if_pos c,Ab l]
    exact Prod.ext (by show s+6+1+_=s+(7+_);omega) (by show b+_+_=b+(_+_);omega)
  · rw [if_neg c,if_neg c,Ab l]
    exact Prod.ext (by show s+1+_=s+(1+_);omega) (by show b+_+_=b+(_+_);omega)
theorem H3 {st:Ty.den aC} {d:Ty.den a_} (h:BT st d) (r:Ty.den am) (z:(df st d r).1.2.2=0) {n:Int} (hn:n=st.2.2.2.1) :
 (df st d r).1.1.2.2.2.1=(if 0<n∧aY r > 200-n then aY r else n+aY r)∧(fF (df st d r).1.2.1 (df st d r).1.1.1.2.1:Int)=(fF d st.1.2.1:Int)+aY r ∧
 (AB st d→SP d (df st d r).1.2.1 (if 0<n∧aY r > 200-n then 7 else 1)∧AB (df st d r).1.1 (df st d r).1.2.1):=by
 have hq:=HV h
 have hc:=Hc h
 unfold df at z ⊢
 rw [← hn] at z ⊢
 by_cases c:0<n∧aY r > 200-n
 · rw [aM (show n > 0 from c.1),aM (show n+aY r > 200 by omega)] at z ⊢
   rw [if_pos c,if_pos c]
   simp only [Bool.and_self,aX] at z ⊢
   generalize gj st d=q at hq hc z ⊢
   cases c2:q.2.2 != 0 with
   | true =>
    rw [c2] at z
    have z:q.2.2=0:=z
    rw [z] at c2
    cases c2
   | false =>
    rw [c2] at z
    simp only [aK] at z ⊢
    have z2:=fa c2
    obtain ⟨u2,u3,u4⟩:=hc z2
    obtain ⟨w2,w3,w4⟩:=CC (hq z2) r z
    refine ⟨?_,by rw [w3,u3],fun ha=>?_⟩
    · rw [w2 0 u2.symm,Int.zero_add]
    · obtain ⟨u1,u5⟩:=u4 ha
      obtain ⟨w1,w5⟩:=w4 u5
      exact ⟨lh u1 w1 (by decide),w5⟩
 · have hf:(decide (n > 0)&&decide (n+aY r > 200))=false:=by
    rw [Bool.and_eq_false_iff]
    by_cases c0:n > 0
    · exact .inr (aQ fun q=>c ⟨c0,by omega⟩)
    · exact .inl (aQ c0)
   rw [hf] at z ⊢
   rw [if_neg c,if_neg c]
   obtain ⟨w2,w3,w4⟩:=CC h r z
   exact ⟨w2 n hn,w3,w4⟩
theorem yq:∀ (l:jo) (st:Ty.den aC) (d:Ty.den a_) (ps:bG) (n:Int),BT st d→(∀ r ∈ l,fG r=true)→n=st.2.2.2.1→(d_ l st d ps).1.2.2=0 →
 (fF (d_ l st d ps).1.2.1 (d_ l st d ps).1.1.1.2.1:Int)=(fF d st.1.2.1:Int)+pj l∧(AB st d→SP d (d_ l st d ps).1.2.1 (mA l n))
 | [],st,d,ps,n,_,_,_,_=>⟨by show (fF d st.1.2.1:Int)=_+0;omega,fun _=>I2 d⟩
 | r::l,st,d,ps,n,h,hr,hn,z=>by
  have hb:=Gf h (hr r oX)
  have hc:=fun z=>H3 h r z hn
  unfold d_ at z ⊢
  generalize df st d r=q at hb hc z ⊢
  cases c:q.1.2.2 != 0 with
  | true =>
   rw [c] at z
   have z:q.1.2.2=0:=z
   rw [z] at c
   cases c
  | false =>
   rw [c] at z
   simp only [aK] at z ⊢
   have e0:=fa c
   obtain ⟨k1,_,_⟩:=hb e0
   obtain ⟨u2,u3,u4⟩:=hc e0
   obtain ⟨i1,i2⟩:=yq l q.1.1 q.1.2.1 (ps++[q.2]) _ k1 (fun x hx=>hr x (qS _ hx)) u2.symm z
   unfold mA pj
   refine ⟨by rw [i1,u3];omega,fun ha=>?_⟩
   obtain ⟨u1,u5⟩:=u4 ha
   have i2:=i2 u5
   by_cases w:0<n∧aY r > 200-n
   · rw [if_pos w] at u1 i2 ⊢
     exact lh u1 i2 rfl
   · rw [if_neg w] at u1 i2 ⊢
     exact lh u1 i2 rfl
theorem CV {st:Ty.den aC} {d:Ty.den a_} {l:gP} (hs:dP st d=true) (hp:gV l=true) (hb:LE.le (α:=Int) st.2.2.1 1000000) (z:(br st d l).2.2=0) {n:Int} (hn:n=st.2.2.2.1) :
 (fF (br st d l).2.1 (br st d l).1.1.2.1:Int)=(fF d st.1.2.1:Int)+pj (eZ l st.2.2.1)∧(AB st d→SP d (br st d l).2.1 (1+mA (eZ l st.2.2.1) n)):=by
 obtain ⟨g1,g2,g3⟩:=dF hs
 have hBT:=Bx hs
 have hb':BT (lN st) d:=⟨hBT.live,hBT.disk,hBT.full,hBT.tail⟩
 have hA:=fun z=>yq (eZ l st.2.2.1) (lN st) d [] n hb' (zh hp g3 hb) hn z
 have hB:=Ad (eZ l st.2.2.1) (lN st) d [] hb' (zh hp g3 hb) (fun x hx=>by cases hx)
 unfold br at z ⊢
 generalize d_ (eZ l st.2.2.1) (lN st) d []=q at hA hB z ⊢
 unfold nl at z ⊢
 cases c:q.1.2.2 != 0 with
 | true =>
  rw [c] at z
  have z:q.1.2.2=0:=z
  rw [z] at c
  cases c
 | false =>
  rw [c] at z
  simp only [aK] at z ⊢
  obtain ⟨a1,a2⟩:=hA (fa c)
  have c1:=pe (d:=q.1.2.1) (g:=xp (bL q.1.1))
  change (eA q.1.2.1 (bL q.1.1)).2=0→SP q.1.2.1 (eA q.1.2.1 (bL q.1.1)).1 1 at c1
  have k1:fF (eA q.1.2.1 (bL q.1.1)).1 q.1.1.1.2.1=fF q.1.2.1 q.1.1.1.2.1:=iI fun x hx=>kA
  generalize eA q.1.2.1 (bL q.1.1)=y at c1 k1 z ⊢
  cases cy:y.2 != 0 with
  | true =>
   rw [cy] at z
   have z:(tl y).2=0:=z
   have q:=mh y
   rw [z,cy] at q
   cases q
  | false =>
   simp only [aK]
   refine ⟨?_,fun ha=>lh (a2 ⟨ha.temp,ha.segs⟩) (c1 (fa cy)) (Int.add_comm _ _)⟩
   show (fF y.1 q.1.1.1.2.1:Int)=_
   rw [k1,a1]
   rfl
end Go.Proofs.YtdbekilnpjmeaaaGreatDoor.G
namespace Go.Proofs.YtdbekilnpjmeaaaGreatDoor.G
open Go.V
abbrev ki:=Ty.den ap
def CI (c:ki):Prop:=(0:Int)≤c.2.1∧c.2.1≤(c.1.length:Int)∧c.1.length≤1048576
theorem Ac (y:Int):0≤aH (((BitVec.ofInt (IntKind.bits .i64) y &&& BitVec.ofInt (IntKind.bits .i64) 255).toNat:Int))∧aH (((BitVec.ofInt (IntKind.bits .i64) y &&& BitVec.ofInt (IntKind.bits .i64) 255).toNat:Int))≤255:=by
 have h:(BitVec.ofInt (IntKind.bits .i64) y &&& BitVec.ofInt (IntKind.bits .i64) 255).toNat≤255:=by
  rw [BitVec.toNat_and]
  exact Nat.le_trans Nat.and_le_right (by decide)
 rw [aE (by omega) (by omega)]
 omega
theorem GV {k:Nat} (hk:2 ^ 50≤k) {l:List Int} (hl:l.length≤1048576):∃ c:ki,gD.f k l=some ((),(c,()))∧CI c:=by
 unfold gD.f gD.t
 have key:∀ (d n:Nat) (i h:Int),(l.length:Int)-i=d→0≤i→d<n→∃ c:ki,gD.l0 k n l h i=some ((),(c,()))∧CI c:=by
  intro d
  induction d with
  | zero =>
   intro n i h h1 h2 hn
   obtain ⟨n,rfl⟩:∃ q,n=q+1:=⟨n-1,by omega⟩
   simp only [gD.l0,gD.b0]
   rw [aQ (show ¬ i<(l.length:Int) by omega),aK]
   exact ⟨_,rfl,Int.le_refl _,by show (0:Int)≤(l.length:Int);omega,hl⟩
  | succ d ih =>
   intro n i h h1 h2 hn
   obtain ⟨n,rfl⟩:∃ q,n=q+1:=⟨n-1,by omega⟩
   simp only [gD.l0,gD.b0]
   rw [aM (show i<(l.length:Int) by omega),aX]
   by_cases c:i<4000
   · rw [aM c,aX,aG h2 (by omega),aE (n:=i+1) (by omega) (by omega)]
     exact ih n (i+1) _ (by omega) (by omega) (by omega)
   · rw [aQ c,aK]
     exact ⟨_,rfl,Int.le_refl _,by show (0:Int)≤(l.length:Int);omega,hl⟩
 exact key l.length k 0 _ (by omega) (by omega) (by omega)
theorem yK (k:Nat) {c:ki} (h:CI c):∃ (c':ki) (x:Int),eu.f k c=some (c',(x,()))∧CI c'∧0≤x∧x≤255:=by
 obtain ⟨b,i,hh,_⟩:=c
 change Int at i
 change Int at hh
 obtain ⟨h1,h2,h3⟩:=h
 have h1:0≤i:=h1
 have h2:i≤(b.length:Int):=h2
 have h3:b.length≤1048576:=h3
 unfold eu.f eu.t
 simp only []
 by_cases q:i<(b.length:Int)
 · rw [aM q,aX,aG h1 q,aE (n:=i+1) (by omega) (by omega)]
   refine ⟨_,_,rfl,⟨by show (0:Int)≤i+1;omega,by show i+1≤(b.length:Int);omega,h3⟩,(Ac _).1,(Ac _).2⟩
 · rw [aQ q,aK]
   exact ⟨_,_,rfl,⟨h1,h2,h3⟩,(Ac _).1,(Ac _).2⟩
theorem xM (k:Nat) {c:ki} (h:CI c) {n:Int} (h0:0<n) (h1:n≤256):∃ (c':ki) (x:Int),aV.f k c n=some (c',(x,()))∧CI c'∧0≤x∧x<n:=by
 obtain ⟨c',x,e,hc,hx0,hx1⟩:=yK k h
 unfold aV.f aV.t
 rw [aQ (show ¬ n≤0 by omega),aK,aM h1,aX,e,aT]
 simp only []
 rw [aQ (show ¬ n=0 by omega),aK]
 have e2:Int.tmod x n=x % n:=Int.tmod_eq_emod_of_nonneg hx0
 refine ⟨_,_,rfl,hc,?_,?_⟩
 · rw [e2];exact Int.emod_nonneg _ (by omega)
 · rw [e2];exact Int.emod_lt_of_pos _ h0
theorem Ef (k:Nat) {c:ki} (h:CI c) {n:Int} (h0:0<n) (h1:n≤256):∃ (c':ki) (x:Bool),g7.f k c n=some (c',(x,()))∧CI c':=by
 obtain ⟨c',x,e,hc,_,_⟩:=xM k h h0 h1
 unfold g7.f g7.t
 rw [e,aT]
 exact ⟨_,_,rfl,hc⟩
end Go.Proofs.YtdbekilnpjmeaaaGreatDoor.G
namespace Go.Proofs.YtdbekilnpjmeaaaGreatDoor.G
open Go.V
theorem I5 {k:Nat} (hk:2 ^ 50≤k) {l:List Int} (hl:l.length≤1048576):lH (gD.f k l) (fun r=>CI r.2.1):=by
 obtain ⟨c,e,h⟩:=GV hk hl
 exact ⟨_,e,h⟩
theorem Fs (k:Nat) {c:ki} (h:CI c):lH (eu.f k c) (fun r=>CI r.1∧0≤r.2.1∧r.2.1≤255):=by
 obtain ⟨c',x,e,h1,h2,h3⟩:=yK k h
 exact ⟨_,e,h1,h2,h3⟩
theorem dN (k:Nat) {c:ki} (h:CI c) {n:Int} (h0:0<n) (h1:n≤256):lH (aV.f k c n) (fun r=>CI r.1∧0≤r.2.1∧r.2.1<n):=by
 obtain ⟨c',x,e,q1,q2,q3⟩:=xM k h h0 h1
 exact ⟨_,e,q1,q2,q3⟩
theorem w_ (k:Nat) {c:ki} (h:CI c) {n:Int} (h0:0<n) (h1:n≤256):lH (g7.f k c n) (fun r=>CI r.1):=by
 obtain ⟨c',x,e,q1⟩:=Ef k h h0 h1
 exact ⟨_,e,q1⟩
end Go.Proofs.YtdbekilnpjmeaaaGreatDoor.G
namespace Go.Proofs.YtdbekilnpjmeaaaGreatDoor.G
open Go.V
theorem qV (k:Nat) {c:ki} (h:CI c) {l:List ByteArray} (h0:0<l.length) (h1:l.length≤256):lH (eO.f k c l) (fun r=>CI r.1∧r.2.1 ∈ l):=by
 unfold eO.f eO.t
 refine ae (dN k h (by omega) (by omega)) fun r q=>?_
 refine ny q.2.1 q.2.2 (bC ⟨q.1,iP ?_⟩)
 have:=q.2.1
 have:=q.2.2
 omega
theorem yk {l:List ByteArray} {m:Nat} (h:(l.all fun x=>decide (x.size≤m))=true) {x:ByteArray} (hx:x ∈ l):x.size≤m:=by
 have:=List.all_eq_true.1 h x hx
 simpa using this
end Go.Proofs.YtdbekilnpjmeaaaGreatDoor.G
namespace Go.Proofs.YtdbekilnpjmeaaaGreatDoor.G
open Go.V
theorem lD (k:Nat) {c:ki} (h:CI c) {l:List Int} (h0:0<l.length) (h1:l.length≤256):lH (cO.f k c l) (fun r=>CI r.1∧r.2.1 ∈ l):=by
 unfold cO.f cO.t
 refine ae (dN k h (by omega) (by omega)) fun r q=>?_
 refine ny q.2.1 q.2.2 (bC ⟨q.1,iP ?_⟩)
 have:=q.2.1
 have:=q.2.2
 omega
end Go.Proofs.YtdbekilnpjmeaaaGreatDoor.G
namespace Go.Proofs.YtdbekilnpjmeaaaGreatDoor.G
open Go.V
theorem Et (l:List Int):(bytesOf l).size=l.length:=by simp [bytesOf,ByteArray.size]
theorem IO {k:Nat} (hk:2 ^ 50≤k) (st:Int) (m:Nat) (hm:m≤200):∀ (d n:Nat) (c:ki) (out:List Int),d<n→CI c→out.length+d≤m→lH (dI.l0 k n st (d:Int) c.1 c.2.1 c.2.2.1 out) (fun r=>CI r.1∧r.2.1.size≤m):=by
 intro d
 induction d with
 | zero =>
  intro n c out hn hc ho
  obtain ⟨n,rfl⟩:∃ q,n=q+1:=⟨n-1,by omega⟩
  simp only [dI.l0,dI.b0]
  refine jT (aQ (by omega)) (bC ⟨hc,?_⟩)
  show (bytesOf out).size≤m
  rw [Et]
  omega
 | succ d ih =>
  intro n c out hn hc ho
  obtain ⟨n,rfl⟩:∃ q,n=q+1:=⟨n-1,by omega⟩
  have hw:aH (((d+1:Nat):Int)-1)=(d:Int):=by rw [aE (by omega) (by omega)];omega
  simp only [dI.l0,dI.b0,hw]
  refine kj (aM (by omega)) ?_
  refine ae (Fs k hc) fun r hr=>?_
  refine cM (fun _=>cM (fun _=>?_) (fun _=>?_)) (fun _=>cM (fun _=>?_) (fun _=>?_))
  all_goals exact s5 (by omega) (by decide) (ih n r.1 _ (by omega) hr.1 (by rw [cS];omega))
theorem BS {k:Nat} (hk:2 ^ 50≤k) {c:ki} (h:CI c) {m:Int} (h0:0≤m) (h1:m≤200):lH (dI.f k c m) (fun r=>CI r.1∧(r.2.1.size:Int)≤m):=by
 unfold dI.f dI.t
 rw [aE (n:=m+1) (by omega) (by omega)]
 refine ae (dN k h (by omega) (by omega)) fun r1 q1=>?_
 refine ae (dN k q1.1 (by omega) (by omega)) fun r2 q2=>?_
 obtain ⟨c2,a,b⟩:=q2
 have:=IO hk r1.2.1 m.toNat (by omega) r2.2.1.toNat k r2.1 [] (by omega) c2 (by simp only [List.length_nil];omega)
 rw [show ((r2.2.1.toNat:Nat):Int)=r2.2.1 by omega] at this
 exact Bk this fun r hr=>⟨hr.1,by have:=hr.2;omega⟩
end Go.Proofs.YtdbekilnpjmeaaaGreatDoor.G
namespace Go.Proofs.YtdbekilnpjmeaaaGreatDoor.G
open Go.V
theorem E7 (k:Nat) {c:ki} (h:CI c):lH (il.f k c) (fun r=>CI r.1):=by
 unfold il.f il.t
 exact ae (qV k h (by decide) (by decide)) fun r q=>bC q.1
theorem Fx {k:Nat} (hk:2 ^ 50≤k):∀ (d n:Nat) (c:ki) (out:gP),d<n→CI c→out.length+d≤100→lH (dx.l0 k n (d:Int) c.1 c.2.1 c.2.2.1 out) (fun r=>CI r.1∧r.2.1.length≤100):=by
 intro d
 induction d with
 | zero =>
  intro n c out hn hc ho
  obtain ⟨n,rfl⟩:∃ q,n=q+1:=⟨n-1,by omega⟩
  simp only [dx.l0,dx.b0]
  exact jT (aQ (by omega)) (bC ⟨hc,by show out.length≤100;omega⟩)
 | succ d ih =>
  intro n c out hn hc ho
  obtain ⟨n,rfl⟩:∃ q,n=q+1:=⟨n-1,by omega⟩
  have hw:aH (((d+1:Nat):Int)-1)=(d:Int):=by rw [aE (by omega) (by omega)];omega
  simp only [dx.l0,dx.b0,hw]
  refine kj (aM (by omega)) ?_
  refine ae (E7 k hc) fun r2 q2=>?_
  refine ae (BS hk q2 (by omega) (by omega)) fun r3 q3=>?_
  refine ae (w_ k q3.1 (by omega) (by omega)) fun r4 q4=>?_
  refine cM (fun _=>?_) (fun _=>?_)
  all_goals exact s5 (by omega) (by decide) (ih n r4.1 _ (by omega) q4 (by rw [cS];omega))
theorem yY {k:Nat} (hk:2 ^ 50≤k) {c:ki} (h:CI c):lH (dx.f k c) (fun r=>CI r.1∧r.2.1.length≤100):=by
 unfold dx.f dx.t
 refine ae (dN k h (by omega) (by omega)) fun r q=>?_
 obtain ⟨hc,a,b⟩:=q
 have:=Fx hk r.2.1.toNat k r.1 [] (by omega) hc (by simp only [List.length_nil];omega)
 rw [show ((r.2.1.toNat:Nat):Int)=r.2.1 by omega] at this
 exact this
def Kp (st:Ty.den aC) (d:Ty.den a_):Prop:=∃ c,IV (st,(d,c))
theorem Fc {k:Nat} (hk:2 ^ 50≤k) {P:Ty.den aC→Ty.den a_→Prop} (hP:∀ st d,P st d→Kp st d) (hM:∀ st d,P st d→P (iq st d).1 (iq st d).2.1) (hC:∀ st d l,P st d→P (cB st d l).1 (cB st d l).2.1)
 (y4:List Int) (y5:aR) (y6 y7 y8 y9:Int) (y10:fo) (y11 y12:Int) (y13:Bool):∀ (m n:Nat) (c:ki) (st:Ty.den aC) (d:Ty.den a_),m≤20→m<n→CI c→P st d →
 lH (eJ.l0 k n (m:Int) c.1 c.2.1 c.2.2.1 y4 y5 y6 y7 y8 y9 y10 y11 y12 y13 st.1.2.1 st.2.1 st.1.1 st.2.2.1 st.2.2.2.1 st.2.2.2.2.1 d.1 d.2.1 d.2.2.1 d.2.2.2.1) (fun r=>CI r.1∧P r.2.1 r.2.2.1):=by
 intro m
 induction m with
 | zero =>
  intro n c st d hm hn hc hv
  obtain ⟨n,rfl⟩:∃ q,n=q+1:=⟨n-1,by omega⟩
  simp only [eJ.l0,eJ.b0]
  exact jT (aQ (by omega)) (bC ⟨hc,hv⟩)
 | succ m ih =>
  intro n c st d hm hn hc hv
  obtain ⟨n,rfl⟩:∃ q,n=q+1:=⟨n-1,by omega⟩
  have hw:aH (((m+1:Nat):Int)-1)=(m:Int):=by rw [aE (by omega) (by omega)];omega
  obtain ⟨z,hz⟩:=hP _ _ hv
  have hd:DR d:=hz.disk
  have h1:st.1.2.1.length≤60:=hz.ids
  have h2:st.2.1.length≤268435456:=hz.dir
  simp only [eJ.l0,eJ.b0,hw]
  refine kj (aM (by omega)) (cM (fun _=>bC ⟨hc,hv⟩) fun _=>?_)
  refine ae (w_ k hc (by omega) (by omega)) fun r5 q5=>?_
  refine cM (fun _=>?_) (fun _=>?_)
  · refine d5 (zf hk (st:=st) (d:=d) hd.sz (by omega) (by omega)) ?_
    exact ih n r5.1 (iq st d).1 (iq st d).2.1 (by omega) (by omega) q5 (hM _ _ hv)
  · refine ae (yY hk q5) fun r7 q7=>?_
    have q8:=q7.2
    refine d5 (rU hk (st:=st) (d:=d) hd.sz (by omega) (by omega) (by omega)) ?_
    exact ih n r7.1 (cB st d r7.2.1).1 (cB st d r7.2.1).2.1 (by omega) (by omega) q7.1 (hC _ _ _ hv)
theorem Cw {k:Nat} (hk:2 ^ 50≤k) {P:Ty.den aC→Ty.den a_→Prop} (hP:∀ st d,P st d→Kp st d) (hM:∀ st d,P st d→P (iq st d).1 (iq st d).2.1) (hC:∀ st d l,P st d→P (cB st d l).1 (cB st d l).2.1)
 (hO:∀ n:Int,0≤n→n≤100000→P (lm (mX n)).1 (lm (mX n)).2.1) {c:ki} (h:CI c):lH (eJ.f k c) (fun r=>CI r.1∧P r.2.1 r.2.2.1):=by
 unfold eJ.f eJ.t
 refine ae (lD k h (by decide) (by decide)) fun r1 q1=>?_
 have hcap:(0:Int)≤r1.2.1∧r1.2.1≤100000:=by
  have:=q1.2
  simp only [List.mem_cons,List.not_mem_nil,or_false] at this
  omega
 refine d5 (Bj k hcap.1 hcap.2) ?_
 simp only []
 rw [show (([],(r1.2.1,(-1,(false,())))):Ty.den a_)=mX r1.2.1 from rfl]
 refine d5 (Aq hk (vQ hcap.1 hcap.2).sz) ?_
 refine ae (dN k q1.1 (by omega) (by omega)) fun r4 q4=>?_
 obtain ⟨hc,a,b⟩:=q4
 have:=Fc hk hP hM hC [] [] 0 0 0 0 [] 0 0 false r4.2.1.toNat k r4.1 (lm (mX r1.2.1)).1 (lm (mX r1.2.1)).2.1 (by omega) (by omega) hc (hO _ hcap.1 hcap.2)
 rw [show ((r4.2.1.toNat:Nat):Int)=r4.2.1 by omega] at this
 exact this
end Go.Proofs.YtdbekilnpjmeaaaGreatDoor.G
namespace Go.Proofs.YtdbekilnpjmeaaaGreatDoor.G
open Go.V
theorem Ci (k:Nat) {n:Int} (h0:0≤n) (h1:n≤100000):fE.f k n=some (([],(n,(-1,(false,())))),()):=by
 unfold fE.f fE.t
 rw [g_,aT,aM ⟨h0,h1⟩]
 rfl
theorem JI {n:Int} (h0:0≤n) (h1:n≤100000):DR ([],(n,(-1,(false,())))) :=
 ⟨by show 0≤130;omega,h0,h1,by show (-1:Int) ≤ -1;omega,by show (-1:Int)≤100000;omega,h0,fun f h=>(by cases h),List.Pairwise.nil⟩
theorem Bq (k:Nat) {c:ki} (h:CI c):lH (g9.f k c) (fun r=>CI r.1∧r.2.1.size≤12):=by
 unfold g9.f g9.t
 refine ae (qV k h (by decide) (by decide)) fun r q=>bC ⟨q.1,yk (by decide) q.2⟩
theorem sW {β:Type} {o:Option (Ty.den a_ × Int × Unit)} {m:Ty.den a_ × Int} {g:Ty.den a_ × Int × Unit→Option β} {Q:β→Prop} (e:o=some (m.1,(m.2,()))) (h:lH (g (m.1,(m.2,()))) Q):lH (Option.bind o g) Q:=by
 rw [e]
 exact h
theorem Hl {k:Nat} (hk:2 ^ 50≤k) (z:bN) (z1 z2:Int) (z3:Bool):∀ (d n:Nat) (c:ki) (x:Ty.den a_),d≤20→d<n→CI c→DR x →
 lH (dp.l0 k n (d:Int) c.1 c.2.1 c.2.2.1 z z1 z2 z3 x.1 x.2.1 x.2.2.1 x.2.2.2.1) (fun r=>CI r.1∧DR r.2.1):=by
 intro d
 induction d with
 | zero =>
  intro n c x hd hn hc hx
  obtain ⟨n,rfl⟩:∃ q,n=q+1:=⟨n-1,by omega⟩
  simp only [dp.l0,dp.b0]
  exact jT (aQ (by omega)) (bC ⟨hc,hx⟩)
 | succ d ih =>
  intro n c x hd hn hc hx
  obtain ⟨n,rfl⟩:∃ q,n=q+1:=⟨n-1,by omega⟩
  have hw:aH (((d+1:Nat):Int)-1)=(d:Int):=by rw [aE (by omega) (by omega)];omega
  have hz:=hx.sz
  simp only [dp.l0,dp.b0,hw]
  refine kj (aM (by omega)) ?_
  refine ae (Bq k hc) fun r3 q3=>?_
  refine ae (dN k q3.1 (by omega) (by omega)) fun r4 q4=>?_
  obtain ⟨hn3,hs3⟩:=q3
  have CR:lH (Option.bind (eg.f k (x.1,(x.2.1,(x.2.2.1,(x.2.2.2.1,())))) r3.2.1) fun r5=>(dp.l0 k n (d:Int) r4.1.1 r4.1.2.1 r4.1.2.2.1 z z1 z2 z3 r5.1.1 r5.1.2.1 r5.1.2.2.1 r5.1.2.2.2.1)) (fun r=>CI r.1∧DR r.2.1) :=
   sW (pB hk hz (by omega)) (ih n r4.1 _ (by omega) (by omega) q4.1 (zL hx _))
  have AP:lH (Option.bind (dI.f k r4.1 9) fun r6=>(Option.bind (bS.f k (x.1,(x.2.1,(x.2.2.1,(x.2.2.2.1,())))) r3.2.1 r6.2.1) fun r7=>(dp.l0 k n (d:Int) r6.1.1 r6.1.2.1 r6.1.2.2.1 z z1 z2 z3 r7.1.1 r7.1.2.1 r7.1.2.2.1 r7.1.2.2.2.1))) (fun r=>CI r.1∧DR r.2.1):=by
   refine ae (BS hk q4.1 (by omega) (by omega)) fun r6 q6=>?_
   have hs6:=q6.2
   exact sW (nQ hk hz _ (by omega)) (ih n r6.1 _ (by omega) (by omega) q6.1 (oH hx _ _))
  have SY:lH (Option.bind (bx.f k (x.1,(x.2.1,(x.2.2.1,(x.2.2.2.1,())))) r3.2.1) fun r5=>(dp.l0 k n (d:Int) r4.1.1 r4.1.2.1 r4.1.2.2.1 z z1 z2 z3 r5.1.1 r5.1.2.1 r5.1.2.2.1 r5.1.2.2.2.1)) (fun r=>CI r.1∧DR r.2.1) :=
   sW (kz hk hz _) (ih n r4.1 _ (by omega) (by omega) q4.1 (lf hx _))
  have RN:lH (Option.bind (g9.f k r4.1) fun r6=>(Option.bind (fL.f k (x.1,(x.2.1,(x.2.2.1,(x.2.2.2.1,())))) r3.2.1 r6.2.1) fun r7=>(dp.l0 k n (d:Int) r6.1.1 r6.1.2.1 r6.1.2.2.1 z z1 z2 z3 r7.1.1 r7.1.2.1 r7.1.2.2.1 r7.1.2.2.2.1))) (fun r=>CI r.1∧DR r.2.1):=by
   refine ae (Bq k q4.1) fun r6 q6=>?_
   have hs6:=q6.2
   exact sW (vx hk hz _ (by omega)) (ih n r6.1 _ (by omega) (by omega) q6.1 (Gn hx _ _))
  repeat' refine cM (fun _=>?_) (fun _=>?_)
  all_goals first | exact CR | exact AP | exact SY | exact RN
theorem H2 {k:Nat} (hk:2 ^ 50≤k) {c:ki} (h:CI c):lH (dp.f k c) (fun r=>CI r.1∧DR r.2.1):=by
 unfold dp.f dp.t
 refine d5 (Ci k (by omega) (by omega)) ?_
 refine ae (dN k h (by omega) (by omega)) fun r q=>?_
 obtain ⟨hc,a,b⟩:=q
 have:=Hl hk [] 0 0 false r.2.1.toNat k r.1 ([],(200,(-1,(false,())))) (by omega) (by omega) hc (JI (by omega) (by omega))
 rw [show ((r.2.1.toNat:Nat):Int)=r.2.1 by omega] at this
 exact this
theorem Ij {l:bN} (h:0<l.length) (g:Ty.den aD):(l.set 0 g).length=l.length∧dz (l.set 0 g)≤g.2.1.size+dz l∧ik (l.set 0 g)≤g.1.size+ik l:=by
 cases l with
 | nil=>cases h
 | cons x l =>
  show (g::l).length=_∧dz (g::l)≤_∧ik (g::l)≤_
  rw [dW,kw,dW,kw]
  exact ⟨rfl,by omega,by omega⟩
theorem ym:∀ l m:bN,ik (l++m)=ik l+ik m
 | [],m=>by show ik m=0+ik m;omega
 | x::l,m=>by rw [List.cons_append,kw,kw,ym l m];omega
structure DS (d:Ty.den a_):Prop where
 l:d.1.length≤131
 u:dz d.1≤200000
 n:ik d.1≤10000
theorem DS.sz {d:Ty.den a_} (h:DS d):uF d:=⟨by have:=h.l;omega,by have:=h.u;omega,by have:=h.n;omega⟩
theorem DR.ds {d:Ty.den a_} (h:DR d):DS d:=by
 have h1:=h.len
 have h2:=h.use
 have h3:=h.cap1
 have h4:=sx d.1 h.all
 exact ⟨by omega,by omega,by omega⟩
theorem ES {d:Ty.den a_} (h0:0<d.1.length) (h1:d.1.length≤131) (h2:dz d.1≤100000) (h3:ik d.1≤5000) {g:Ty.den aD} (k1:g.2.1.size≤100000) (k2:g.1.size≤5000):DS (List.set d.1 0 g,d.2):=by
 obtain ⟨a1,a2,a3⟩:=Ij h0 g
 exact ⟨by show (List.set _ _ _).length≤131;omega,by show dz (List.set _ _ _)≤200000;omega,by show ik (List.set _ _ _)≤10000;omega⟩
theorem JZ {k:Nat} (hk:2 ^ 50≤k) (z:bN) (z1 z2:Int) (z3:Bool):∀ (d n:Nat) (i:Int) (c:ki) (x:Ty.den a_),0≤i→i+(d:Int)=132→d<n→CI c→x.1.length≤131→dz x.1≤200000→(ik x.1:Int)≤2000+40*i →
 lH (gT.l0 k n i c.1 c.2.1 c.2.2.1 z z1 z2 z3 x.1 x.2.1 x.2.2.1 x.2.2.2.1) (fun r=>CI r.1∧DS r.2.1):=by
 intro d
 induction d with
 | zero =>
  intro n i c x h0 h1 hn hc hl hu hm
  obtain ⟨n,rfl⟩:∃ q,n=q+1:=⟨n-1,by omega⟩
  simp only [gT.l0,gT.b0]
  refine ae (dN k hc (by omega) (by omega)) fun r hr=>?_
  obtain ⟨hc',a,b⟩:=hr
  rw [aE (n:=129+r.2.1) (by omega) (by omega)]
  exact jT (aQ (by omega)) (bC ⟨hc',⟨hl,hu,by show ik x.1≤10000;omega⟩⟩)
 | succ d ih =>
  intro n i c x h0 h1 hn hc hl hu hm
  obtain ⟨n,rfl⟩:∃ q,n=q+1:=⟨n-1,by omega⟩
  simp only [gT.l0,gT.b0]
  refine ae (dN k hc (by omega) (by omega)) fun r hr=>?_
  obtain ⟨hc',a,b⟩:=hr
  rw [aE (n:=129+r.2.1) (by omega) (by omega),aE (n:=100+i) (by omega) (by omega),aE (n:=i+1) (by omega) (by omega)]
  refine cM (fun _=>cM (fun hb=>?_) (fun _=>?_)) (fun _=>?_)
  · have hb:=of_decide_eq_true hb
    have hz:=l7 (n:=100+i) (by omega) (by omega)
    refine d5 (lu hk (by omega) (by omega)) ?_
    have hy:(⟨#[121]⟩:ByteArray).size=1:=rfl
    have hy2:((⟨#[121]⟩:ByteArray)++gM (100+i)).size=1+(gM (100+i)).size:=ByteArray.size_append ..
    simp only []
    refine EP (by omega) (s5 (by omega) (by decide) ?_)
    refine ih n (i+1) r.1 (x.1++[_],x.2) (by omega) (by omega) (by omega) hc' (by show (x.1++[_]).length≤131;rw [cS];omega) ?_ ?_
    · show dz (x.1++[_])≤200000
      rw [tE,dW,sN]
      exact hu
    · show (ik (x.1++[_]):Int)≤_
      rw [ym,kw]
      show ((ik x.1+(((⟨#[121]⟩:ByteArray)++gM (100+i)).size+0):Nat):Int)≤_
      omega
  · exact bC ⟨hc',⟨hl,hu,by show ik x.1≤10000;omega⟩⟩
  · exact bC ⟨hc',⟨hl,hu,by show ik x.1≤10000;omega⟩⟩
theorem Hq {k:Nat} (hk:2 ^ 50≤k) {c:ki} (h:CI c):lH (gT.f k c) (fun r=>CI r.1∧DS r.2.1):=by
 unfold gT.f gT.t
 refine ae (H2 hk h) fun r1 q1=>?_
 obtain ⟨hc1,hd⟩:=q1
 have hs:=hd.ds
 have g1:=hd.len
 have g2:=hd.use
 have g3:=hd.cap1
 have g4:=sx r1.2.1.1 hd.all
 refine ae (dN k hc1 (by omega) (by omega)) fun r2 q2=>?_
 refine cM (fun _=>?_) (fun _=>cM (fun _=>?_) (fun _=>cM (fun _=>?_) (fun _=>cM (fun _=>?_) (fun _=>cM (fun _=>?_) (fun _=>cM (fun _=>?_) (fun _=>?_))))))
 · refine ae (lD k q2.1 (by decide) (by decide)) fun r3 q3=>?_
   exact bC ⟨q3.1,⟨hs.l,hs.u,hs.n⟩⟩
 · exact bC ⟨q2.1,⟨hs.l,hs.u,hs.n⟩⟩
 · refine d5 (nw hk (by omega) (by omega)) ?_
   refine d5 (nw hk (by omega) (by omega)) ?_
   refine ae (lD k q2.1 (by simp) (by simp)) fun r3 q3=>?_
   exact bC ⟨q3.1,⟨hs.l,hs.u,hs.n⟩⟩
 · refine cM (fun hb=>?_) (fun _=>bC ⟨q2.1,hs⟩)
   have hb:=of_decide_eq_true hb
   refine ae (dN k q2.1 (by omega) (by omega)) fun r3 q3=>?_
   have hm:List.getD r1.2.1.1 0 (Ty.dflt aD) ∈ r1.2.1.1:=iP (by omega)
   have m1:=nR hm
   have m2:=n5 hm
   exact ny (by omega) (by omega) (bC ⟨q3.1,ES (d:=r1.2.1) (by omega) (by omega) (by omega) (by omega) (Nat.le_trans m1 (by omega)) (Nat.le_trans m2 (by omega))⟩)
 · refine cM (fun hb=>?_) (fun _=>bC ⟨q2.1,hs⟩)
   have hb:=of_decide_eq_true hb
   refine ae (qV k q2.1 (by decide) (by decide)) fun r3 q3=>?_
   have hz:r3.2.1.size≤100:=yk (by decide) q3.2
   have hm:List.getD r1.2.1.1 0 (Ty.dflt aD) ∈ r1.2.1.1:=iP (by omega)
   have m1:=nR hm
   exact ny (by omega) (by omega) (bC ⟨q3.1,ES (d:=r1.2.1) (by omega) (by omega) (by omega) (by omega) (Nat.le_trans m1 (by omega)) (Nat.le_trans hz (by omega))⟩)
 · exact JZ hk [] 0 0 false 132 k 0 r2.1 r1.2.1 (by omega) (by omega) (by omega) q2.1 (by omega) (by omega) (by omega)
 · exact bC ⟨q2.1,hs⟩
end Go.Proofs.YtdbekilnpjmeaaaGreatDoor.G
namespace Go.Proofs.YtdbekilnpjmeaaaGreatDoor.G
open Go.V
theorem Fk (k:Nat) {c:ki} (h:CI c):lH (ii.f k c) (fun r=>CI r.1):=by
 unfold ii.f ii.t
 refine ae (E7 k h) fun r1 q1=>?_
 refine ae (dN k q1 (by omega) (by omega)) fun r2 q2=>?_
 refine ae (dN k q2.1 (by omega) (by omega)) fun r3 q3=>?_
 refine ae (dN k q3.1 (by omega) (by omega)) fun r4 q4=>?_
 refine ae (dN k q4.1 (by omega) (by omega)) fun r5 q5=>bC q5.1
theorem Jr {k:Nat} (hk:2 ^ 50≤k):∀ (m n:Nat) (c:ki) (out:aR),m<n→CI c→out.length+m≤100→lH (gU.l0 k n (m:Int) c.1 c.2.1 c.2.2.1 out) (fun r=>CI r.1∧r.2.1.length≤100):=by
 intro m
 induction m with
 | zero =>
  intro n c out hn hc ho
  obtain ⟨n,rfl⟩:∃ q,n=q+1:=⟨n-1,by omega⟩
  simp only [gU.l0,gU.b0]
  refine jT (aQ (by omega)) (cM (fun hp=>?_) (fun _=>bC ⟨hc,by show out.length≤100;omega⟩))
  have hp:=of_decide_eq_true hp
  have hset:∀ (i:Nat) (e:Ty.den aA),(List.set out i e).length≤100:=fun i e=>by rw [List.length_set];omega
  refine ae (w_ k hc (by omega) (by omega)) fun r4 q4=>cM (fun _=>?_) (fun _=>bC ⟨q4,by show out.length≤100;omega⟩)
  refine ae (dN k q4 (by omega) (by omega)) fun r5 q5=>?_
  refine ae (dN k q5.1 (by omega) (by omega)) fun r6 q6=>?_
  obtain ⟨_,a5,b5⟩:=q5
  refine cM (fun _=>?_) (fun _=>cM (fun _=>?_) (fun _=>cM (fun _=>?_) (fun _=>?_)))
  · refine ae (qV k q6.1 (by decide) (by decide)) fun r7 q7=>ny a5 b5 (bC ⟨q7.1,hset _ _⟩)
  · exact ny a5 b5 (bC ⟨q6.1,hset _ _⟩)
  · refine ae (lD k q6.1 (by decide) (by decide)) fun r7 q7=>ny a5 b5 (bC ⟨q7.1,hset _ _⟩)
  · refine ae (lD k q6.1 (by decide) (by decide)) fun r7 q7=>ny a5 b5 (bC ⟨q7.1,hset _ _⟩)
 | succ m ih =>
  intro n c out hn hc ho
  obtain ⟨n,rfl⟩:∃ q,n=q+1:=⟨n-1,by omega⟩
  have hw:aH (((m+1:Nat):Int)-1)=(m:Int):=by rw [aE (by omega) (by omega)];omega
  simp only [gU.l0,gU.b0,hw]
  refine kj (aM (by omega)) ?_
  refine ae (Fk k hc) fun r2 q2=>?_
  have hp:=Bv out r2.2.1
  refine d5 (oF hk _ (by omega)) ?_
  exact ih n r2.1 _ (by omega) q2 (by show (rK out r2.2.1).length+m≤100;omega)
theorem I8 {k:Nat} (hk:2 ^ 50≤k) {c:ki} (h:CI c):lH (gU.f k c) (fun r=>CI r.1∧r.2.1.length≤100):=by
 unfold gU.f gU.t
 refine ae (dN k h (by omega) (by omega)) fun r q=>?_
 obtain ⟨hc,a,b⟩:=q
 have:=Jr hk r.2.1.toNat k r.1 [] (by omega) hc (by simp only [List.length_nil];omega)
 rw [show ((r.2.1.toNat:Nat):Int)=r.2.1 by omega] at this
 exact this
structure AV (st:Ty.den aC) (d:Ty.den a_):Prop where
 ids:st.1.2.1.length≤60
 dir:st.2.1.length≤268435456
 disk:DS d
end Go.Proofs.YtdbekilnpjmeaaaGreatDoor.G
namespace Go.Proofs.YtdbekilnpjmeaaaGreatDoor.G
open Go.V
def NS (st:Ty.den aC) (d:Ty.den a_):Prop:=∀ x:Int,LE.le (α:=Int) st.1.1 x→1≤x→x≤100000→fT d (aB aI x)=none
theorem Jb {st:Ty.den aC} {d:Ty.den a_} (hl:cP st.1=true) (h:NS st d):NS (gj st d).1 (gj st d).2.1:=by
 obtain ⟨n1,n2,_,_⟩:=gm (n:=st.1.1) (ids:=st.1.2.1) hl
 have k1:∀ x:Int,LE.le (α:=Int) st.1.1 x→1≤x→x≤100000→fT (eA d (bL st)).1 (aB aI x)=none:=fun x h0 h1 h2=>kA.trans (h x h0 h1 h2)
 have k2:∀ x:Int,LE.le (α:=Int) (st.1.1+1) x→1≤x→x≤100000→fT (b7 (aB aI st.1.1) (eA d (bL st)).1).1 (aB aI x)=none:=fun x h0 h1 h2=>(ja (jB ⟨n1,n2⟩ ⟨h1,h2⟩ (by omega))).trans (k1 x (by omega) h1 h2)
 have k3:∀ x:Int,LE.le (α:=Int) (st.1.1+1) x→1≤x→x≤100000→fT (az (ie st) (b7 (aB aI st.1.1) (eA d (bL st)).1).1).1 (aB aI x)=none:=fun x h0 h1 h2=>(gZ (fw ⟨h1,h2⟩) (ia ⟨h1,h2⟩)).trans (k2 x h0 h1 h2)
 unfold gj
 cases decide ((st.1.2.1.length:Int)≥60) with
 | true=>exact h
 | false =>
  cases decide (st.1.1≥(100000:Int)) with
  | true=>exact h
  | false =>
   simp only [aK]
   generalize eA d (bL st)=r1 at k1 k2 k3 ⊢
   generalize b7 (aB aI st.1.1) r1.1=r2 at k2 k3 ⊢
   generalize az (ie st) r2.1=r3 at k3 ⊢
   cases r1.2 != 0 with
   | true=>exact k1
   | false =>
    cases r2.2 != 0 with
    | true=>exact k2
    | false =>
     cases r3.2 != 0 with
     | true =>
      simp only [aX,aK]
      unfold oN
      cases (tl r3).2==2 with
      | false=>exact k3
      | true =>
       intro x h0 h1 h2
       refine (mL [fA,aB aI st.1.1] r3.1 fun s hs=>?_).trans (k3 x h0 h1 h2)
       have h0:LE.le (α:=Int) (st.1.1+1) x:=h0
       rcases List.mem_cons.1 hs with e | e
       · rw [e];exact fw ⟨h1,h2⟩
       · rw [List.mem_singleton.1 e];exact jB ⟨n1,n2⟩ ⟨h1,h2⟩ (by omega)
     | false=>exact k3
theorem Hb {st:Ty.den aC} {d:Ty.den a_} (hl:cP st.1=true) (h:NS st d) (r:Ty.den am):NS (gd st d r).1.1 (gd st d r).1.2.1:=by
 obtain ⟨b1,b2⟩:=vI hl
 obtain ⟨n1,n2,_,_⟩:=gm (n:=st.1.1) (ids:=st.1.2.1) hl
 have hk:∀ x:Int,LE.le (α:=Int) st.1.1 x→1≤x→x≤100000→fT (fq d (bL st) (aN (aF r))).1 (aB aI x)=none:=fun x h0 h1 h2 =>
  (pR (jB ⟨b1,by omega⟩ ⟨h1,h2⟩ (by omega))).trans (h x h0 h1 h2)
 unfold gd
 generalize fq d (bL st) (aN (aF r))=a at hk ⊢
 cases a.2 != 0 <;> exact hk
theorem Jc {st:Ty.den aC} {d:Ty.den a_} (hl:cP st.1=true) (hd:DR d) (h:NS st d) (r:Ty.den am):NS (df st d r).1.1 (df st d r).1.2.1:=by
 have h2:=Jb hl h
 have h1:=(mw hl hd).1
 unfold df
 cases decide (st.2.2.2.1 > 0)&&decide (st.2.2.2.1+aY r > 200) with
 | false=>exact Hb hl h r
 | true =>
  simp only [aX]
  generalize gj st d=q at h1 h2 ⊢
  cases q.2.2 != 0 with
  | true=>exact h2
  | false=>exact Hb h1 h2 r
theorem ET:∀ (l:jo) (st:Ty.den aC) (d:Ty.den a_) (ps:bG) (B:Int),SR st (d,0) B→0≤B→NS st d→NS (d_ l st d ps).1.1 (d_ l st d ps).1.2.1
 | [],st,d,ps,B,_,_,h=>h
 | r::l,st,d,ps,B,hs,hB,h=>by
  obtain ⟨g1,_,_⟩:=mC hs hB r
  have hn:=Jc hs.live hs.disk h r
  unfold d_
  generalize df st d r=q at g1 hn ⊢
  cases q.1.2.2 != 0 with
  | true=>exact hn
  | false=>exact ET l q.1.1 q.1.2.1 (ps++[q.2]) (B+211) ⟨g1.live,g1.disk,g1.lo,g1.hi⟩ (by omega) hn
theorem Ga {st:Ty.den aC} {d:Ty.den a_} {l:gP} (hs:SR st (d,0) 100000) (h:NS st d):NS (br st d l).1 (br st d l).2.1:=by
 have hn:=ET (eZ l st.2.2.1) (lN st) d [] 100000 ⟨hs.live,hs.disk,hs.lo,hs.hi⟩ (by decide) h
 unfold br
 generalize d_ (eZ l st.2.2.1) (lN st) d []=q at hn ⊢
 have hy:NS q.1.1 (eA q.1.2.1 (bL q.1.1)).1:=fun x h0 h1 h2=>kA.trans (hn x h0 h1 h2)
 unfold nl
 cases q.1.2.2 != 0 with
 | true=>exact hn
 | false =>
  simp only [aK]
  generalize eA q.1.2.1 (bL q.1.1)=y at hy ⊢
  cases y.2 != 0 <;> exact hy
def PV (st:Ty.den aC) (d:Ty.den a_):Prop:=(Kp st d∧EI st)∧(cP st.1=true→NS st d)
theorem FP {st:Ty.den aC} {d:Ty.den a_} (l:gP) (h:PV st d):PV (cB st d l).1 (cB st d l).2.1:=by
 obtain ⟨⟨⟨z,hz⟩,he⟩,hn⟩:=h
 refine ⟨⟨⟨_,FK l hz⟩,F7 he d l⟩,?_⟩
 unfold cB
 cases c1:dP st d with
 | false=>exact hn
 | true =>
  have hs:=(dF c1).1
  simp only [fb,aK]
  cases gV l with
  | false=>exact hn
  | true =>
   simp only [fb,aK]
   cases (l.length:Int)==0 with
   | true=>exact hn
   | false =>
    cases decide (k_ st.2.1 l > 20) with
    | true=>exact hn
    | false =>
     cases decide (st.2.2.1 > (1000000:Int)) with
     | true=>exact hn
     | false=>exact fun _=>Ga hs (hn hs.live)
theorem Ek {hb:ByteArray→ByteArray} {st:Ty.den aC} {d:Ty.den a_} {l:fo} (hl:cP st.1=true) (hn2:LE.le (α:=Int) (st.1.1+2) 100000) (h:NS st d):NS (i8 hb st d l).1 (i8 hb st d l).2.1:=by
 obtain ⟨n1,n2,n3,_⟩:=gm (n:=st.1.1) (ids:=st.1.2.1) hl
 have hm:(1:Int)≤st.1.1∧st.1.1≤(100000:Int):=⟨n1,n2⟩
 have hm1:LE.le (α:=Int) 1 (st.1.1+1)∧LE.le (α:=Int) (st.1.1+1) 100000:=⟨by omega,by omega⟩
 have hseg:∀ x:Int,x ∈ st.1.2.1→1≤x∧x≤100000:=fun x hx=>⟨(n3 x hx).1,by have:=(n3 x hx).2;omega⟩
 have up:∀ r:RD,(∀ x:Int,LE.le (α:=Int) (st.1.1+2) x→1≤x→x≤100000→fT r.1 (aB aI x)=none)→∀ x:Int,LE.le (α:=Int) (st.1.1+2) x→1≤x→x≤100000→fT (mf (jj st.1.1) r).1 (aB aI x)=none:=fun r hr x h0 h1 h2=>by
  unfold mf
  cases r.2==2 with
  | false=>exact hr x h0 h1 h2
  | true =>
   refine (mL _ _ fun s hs=>?_).trans (hr x h0 h1 h2)
   unfold jj at hs
   rcases List.mem_cons.1 hs with e | e
   · rw [e];exact fw ⟨h1,h2⟩
   rcases List.mem_cons.1 e with e | e
   · rw [e];exact jB hm ⟨h1,h2⟩ (by omega)
   rcases List.mem_cons.1 e with e | e
   · rw [e];exact jB hm1 ⟨h1,h2⟩ (by omega)
   · rw [List.mem_singleton.1 e];exact mW hm ⟨h1,h2⟩
 have a1:∀ x:Int,LE.le (α:=Int) (st.1.1+2) x→1≤x→x≤100000→fT (gq st.1.1 l (st.2.2.1-1) d).1 (aB aI x)=none:=fun x h0 h1 h2=>(BJ (jB hm ⟨h1,h2⟩ (by omega))).trans (h x (by omega) h1 h2)
 unfold i8
 generalize gq st.1.1 l (st.2.2.1-1) d=a at a1 ⊢
 cases a.2 != 0 with
 | true=>exact up (tl a) a1
 | false =>
  have b1:∀ x:Int,LE.le (α:=Int) (st.1.1+2) x→1≤x→x≤100000→fT (b7 (aB aI (st.1.1+1)) a.1).1 (aB aI x)=none:=fun x h0 h1 h2=>(ja (jB hm1 ⟨h1,h2⟩ (by omega))).trans (a1 x h0 h1 h2)
  simp only [aK]
  generalize b7 (aB aI (st.1.1+1)) a.1=b at b1 ⊢
  cases b.2 != 0 with
  | true=>exact up (tl b) b1
  | false =>
   have c1:∀ x:Int,LE.le (α:=Int) (st.1.1+2) x→1≤x→x≤100000→fT (nD hb st.1.1 b.1).1 (aB aI x)=none:=fun x h0 h1 h2=>(vE (mW hm ⟨h1,h2⟩)).trans (b1 x h0 h1 h2)
   simp only [aK]
   generalize nD hb st.1.1 b.1=e at c1 ⊢
   cases e.2 != 0 with
   | true=>exact c1
   | false =>
    have d1:∀ x:Int,LE.le (α:=Int) (st.1.1+2) x→1≤x→x≤100000→fT (az (jl st.1.1) e.1).1 (aB aI x)=none:=fun x h0 h1 h2=>(gZ (fw ⟨h1,h2⟩) (ia ⟨h1,h2⟩)).trans (c1 x h0 h1 h2)
    simp only [aK]
    generalize az (jl st.1.1) e.1=f at d1 ⊢
    cases f.2 != 0 with
    | true=>exact up (tl f) d1
    | false =>
     intro x h0 h1 h2
     have h0:LE.le (α:=Int) (st.1.1+2) x:=h0
     refine (xI st.1.2.1 f.1 fun y hy=>⟨jB (hseg y hy) ⟨h1,h2⟩ ?_,mW (hseg y hy) ⟨h1,h2⟩⟩).trans (d1 x h0 h1 h2)
     have:=(n3 y hy).2
     omega
theorem HO {st:Ty.den aC} {d:Ty.den a_} (h:PV st d):PV (iq st d).1 (iq st d).2.1:=by
 obtain ⟨⟨⟨z,hz⟩,he⟩,hn⟩:=h
 refine ⟨⟨⟨_,(HY hz).1⟩,HE he d⟩,?_⟩
 unfold iq
 cases c1:dP st d with
 | false=>exact hn
 | true =>
  have hs:=(dF c1).1
  simp only [fb,aK]
  by_cases c2:st.1.1+2 > (100000:Int)
  · rw [aM c2]
    exact hn
  · rw [aQ c2]
    simp only [aK]
    cases (gk st.2.1 d).2 != 0 with
    | true=>exact hn
    | false=>exact fun _=>Ek hs.live (Int.not_lt.1 c2) (hn hs.live)
theorem I4 {n:Int} (h0:0≤n) (h1:n≤100000):PV (lm (mX n)).1 (lm (mX n)).2.1:=by
 have hd:=vQ h0 h1
 have e:lm (mX n)=ma (mX n):=by
  unfold lm
  have e:(ao (mX n) jM).2=false:=by unfold ao;rw [hZ.2 hd];rfl
  rw [hZ.2 hd,e]
  rfl
 refine ⟨⟨⟨_,Hm h0 h1⟩,?_⟩,?_⟩
 · rw [e]
   unfold ma
   cases (lV (mX n)).2==0 <;> exact fun x hx=>by cases hx
 · rw [e]
   have e0:lb [] (mX n)=(mX n,0):=by
    unfold lb o8
    rw [hZ.2 hd]
    rfl
   have k:∀ x:Int,2≤x→1≤x→x≤100000→fT (lV (mX n)).1 (aB aI x)=none:=fun x x0 x1 x2=>by
    unfold lV
    rw [e0]
    refine mH ?_ fun y=>gZ (fw ⟨x1,x2⟩) (ia ⟨x1,x2⟩)
    refine mH (x:=none) rfl fun y=>Fw (jB ⟨by omega,by omega⟩ ⟨x1,x2⟩ (by omega))
   unfold ma
   cases (lV (mX n)).2==0 with
   | true=>exact fun _=>k
   | false=>exact fun q=>by cases q
def BV (st:Ty.den aC) (d:Ty.den a_):Prop:=AV st d∧(dP st d=true→EI st)
theorem Ep {k:Nat} (hk:2 ^ 50≤k) {c:ki} (h:CI c):lH (jR.f k c) (fun r=>CI r.1∧BV r.2.1 r.2.2.1):=by
 unfold jR.f jR.t
 refine ae (Cw hk (P:=PV) (fun _ _ h=>h.1.1) (fun _ _ h=>HO h) (fun _ _ l h=>FP l h) (fun n h0 h1=>I4 h0 h1) h) fun r1 q1=>?_
 obtain ⟨hc,⟨⟨z,hz⟩,he⟩,hn⟩:=q1
 have hd:DR r1.2.2.1:=hz.disk
 have hs:=hd.ds
 have h1:r1.2.1.1.2.1.length≤60:=hz.ids
 have h2:r1.2.1.2.1.length≤268435456:=hz.dir
 refine ae (dN k hc (by omega) (by omega)) fun r2 q2=>?_
 have E:lH (bif (r2.2.1==6) then (some (r2.1,(((r1.2.1.1.1,([],())),r1.2.1.2),r1.2.2))) else (some (r2.1,r1.2))) (fun r:Ty.den ap × Ty.den aC × Ty.den a_ × Unit=>CI r.1∧BV r.2.1 r.2.2.1) :=
  cM (fun _=>bC ⟨q2.1,⟨Nat.zero_le _,h2,hs⟩,fun _=>he⟩) (fun _=>bC ⟨q2.1,⟨h1,h2,hs⟩,fun _=>he⟩)
 have F:lH ((aV.f k r2.1 12).bind fun r6=>(some (r6.1,(r1.2.1,((r1.2.2.1.1,(r1.2.2.1.2.1,(r6.2.1,r1.2.2.1.2.2.2))),()))))) (fun r:Ty.den ap × Ty.den aC × Ty.den a_ × Unit=>CI r.1∧BV r.2.1 r.2.2.1) :=
  ae (dN k q2.1 (by omega) (by omega)) fun r6 q6=>bC ⟨q6.1,⟨h1,h2,⟨hs.l,hs.u,hs.n⟩⟩,fun _=>he⟩
 refine cM (fun _=>bC ⟨q2.1,⟨h1,h2,hs⟩,fun _=>he⟩) (fun _=>cM (fun _=>?_) (fun _=>cM (fun _=>?_) (fun _=>cM (fun _=>?_) (fun _=>cM (fun _=>cM (fun _=>F) (fun _=>E)) (fun _=>cM (fun _=>F) (fun _=>E))))))
 · refine ae (I8 hk q2.1) fun r3 q3=>bC ⟨q3.1,⟨h1,by have:=q3.2;show r3.2.1.length≤268435456;omega,hs⟩,fun g=>?_⟩
   have g':=g
   unfold dP at g'
   simp only [im] at g'
   obtain ⟨_,hlive,hdir,_,_,hent⟩:=g'
   have hlive:cP r1.2.1.1=true:=hlive
   intro e hm
   have hm:e ∈ r3.2.1:=hm
   have hin:=List.all_eq_true.1 hent e hm
   unfold nN at hin
   simp only [im] at hin
   have ht:=yi hin.1
   have h0:LE.le (α:=Int) 1 e.2.1∧LE.le (α:=Int) e.2.1 100000:=by
    unfold oz at hdir
    rw [im] at hdir
    obtain ⟨p,hp⟩:=vO hdir.2 hm
    unfold nt at hp
    simp only [im,decide_eq_true_eq] at hp
    exact hp.2.1
   refine ⟨h0.1,Int.not_le.1 fun q=>?_⟩
   have:=hn hlive e.2.1 q h0.1 h0.2
   have ht:(ao r1.2.2.1 (aB aI e.2.1)).2=true:=ht
   rw [rq hd] at ht
   unfold fT at this
   cases c:bi r1.2.2.1.1 (aB aI e.2.1) with
   | none=>rw [c] at ht;cases ht
   | some f=>rw [c] at this;cases this
 · exact ae (lD k q2.1 (by decide) (by decide)) fun r4 q4=>bC ⟨q4.1,⟨h1,h2,hs⟩,fun _=>he⟩
 · exact ae (Hq hk q2.1) fun r5 q5=>bC ⟨q5.1,⟨h1,h2,q5.2⟩,fun _=>he⟩
end Go.Proofs.YtdbekilnpjmeaaaGreatDoor.G
namespace Go.Proofs.YtdbekilnpjmeaaaGreatDoor.G
open Go.V
theorem yL (ids:List Int):∀ (l:bN) (acc:List ByteArray),qT ids l acc=acc++(l.filter (nU ids)).map (·.1)
 | [],acc=>(List.append_nil acc).symm
 | f::l,acc=>by
  unfold qT
  rw [yL ids l,List.filter_cons]
  cases nU ids f with
  | true=>rw [aX,if_pos rfl,List.map_cons,rW];rfl
  | false=>rw [aK,if_neg (by decide)]
theorem tp {s:ByteArray}:∀ {l:bN},(∀ f ∈ l,f.1≠s)→bi l s=none
 | [],_=>rfl
 | f::l,h=>by
  unfold bi
  rw [kh (h f oX),aK]
  exact tp fun g hg=>h g (qS _ hg)
theorem ID {st:Ty.den aC} {d:Ty.den a_} (hl:cP st.1=true) (hd:DR d) (h:o8 d st.1.2.1=[]):AB st d:=by
 obtain ⟨n1,n2,n3,_⟩:=gm (n:=st.1.1) (ids:=st.1.2.1) hl
 unfold o8 at h
 rw [hZ.2 hd,aX,yL,List.nil_append] at h
 have hno:∀ f ∈ d.1,nU st.1.2.1 f=false:=fun f hf=>by
  have h2:=List.map_eq_nil_iff.1 h
  have h3:=List.filter_eq_nil_iff.1 h2 f hf
  cases c:nU st.1.2.1 f with
  | false=>rfl
  | true=>exact absurd c h3
 refine ⟨zV.1 (tp fun f hf q=>?_),fun x x0 x1=>zV.1 (tp fun f hf q=>?_)⟩
 · have:=hno f hf
   unfold nU at this
   rw [q,c9,Bool.or_true] at this
   cases this
 · have:=hno f hf
   unfold nU at this
   rw [q,xH (.inl rfl) (show (1:Int)≤x by omega) x1] at this
   have hh:zo st.1.2.1 x=false:=by
    unfold zo
    rw [List.any_eq_false]
    intro y hy
    have:=(n3 y hy).2
    simp only [beq_iff_eq]
    omega
   rw [hh] at this
   cases this
inductive CE (st:Ty.den aC) (d:Ty.den a_) (l:gP):Prop
 | no (c:Int) (hc:c=4∨c=5) (e:cB st d l=(st,(d,c)))
 | none (hs:dP st d=true) (hl:l.length=0) (e:cB st d l=(st,(d,0)))
 | done (hs:dP st d=true) (hp:gV l=true) (hl:l.length≠0) (ha:k_ st.2.1 l≤20) (hb:LE.le (α:=Int) st.2.2.1 1000000) (e:cB st d l=br st d l)
theorem D0 (st:Ty.den aC) (d:Ty.den a_) (l:gP):CE st d l:=by
 cases c1:dP st d with
 | false=>exact .no 4 (.inl rfl) (by unfold cB;rw [c1];rfl)
 | true =>
  cases c2:gV l with
  | false=>exact .no 4 (.inl rfl) (by unfold cB;rw [c1,c2];rfl)
  | true =>
   by_cases c3:l.length=0
   · exact .none c1 c3 (by unfold cB;rw [c1,c2,c3];rfl)
   · have c3':((l.length:Int)==0)=false:=mm (by omega)
     by_cases c4:k_ st.2.1 l > 20
     · exact .no 5 (.inr rfl) (by unfold cB;rw [c1,c2,c3',aM c4];rfl)
     · by_cases c5:st.2.2.1 > (1000000:Int)
       · exact .no 5 (.inr rfl) (by unfold cB;rw [c1,c2,c3',aQ c4,aM c5];rfl)
       · exact .done c1 c2 c3 (by omega) (Int.not_lt.1 c5) (by unfold cB;rw [c1,c2,c3',aQ c4,aQ c5];rfl)
theorem AY (c:Int):fM c=0∨fM c=1∨fM c=2∨fM c=3:=by
 unfold fM
 cases c==0
 · cases c==1
   · cases c==2
     · exact .inr (.inr (.inr rfl))
     · exact .inr (.inr (.inl rfl))
   · exact .inr (.inl rfl)
 · exact .inl rfl
theorem GG (st:Ty.den aC) (d:Ty.den a_):(gj st d).2.2≠4:=by
 have ht:∀ r:RD,(tl r).2≠4:=fun r=>by
  show fM r.2≠4
  rcases AY r.2 with q | q | q | q <;> rw [q] <;> decide
 unfold gj
 cases decide ((st.1.2.1.length:Int)≥60) with
 | true=>show (5:Int)≠4;decide
 | false =>
  cases decide (st.1.1≥(100000:Int)) with
  | true=>show (5:Int)≠4;decide
  | false =>
   simp only [aK]
   generalize eA d (bL st)=r1
   generalize b7 (aB aI st.1.1) r1.1=r2
   generalize az (ie st) r2.1=r3
   cases r1.2 != 0 with
   | true=>exact ht r1
   | false =>
    cases r2.2 != 0 with
    | true=>exact ht r2
    | false =>
     cases r3.2 != 0 with
     | true =>
      simp only [aX,aK]
      unfold oN
      cases (tl r3).2==2 with
      | false=>exact ht r3
      | true =>
       show (bif (ba [fA,aB aI st.1.1] (tl r3).1).2==0 then (2:Int) else fM (ba [fA,aB aI st.1.1] (tl r3).1).2)≠4
       cases (ba [fA,aB aI st.1.1] (tl r3).1).2==0 with
       | true=>show (2:Int)≠4;decide
       | false=>exact ht (ba [fA,aB aI st.1.1] (tl r3).1)
     | false=>show (0:Int)≠4;decide
theorem B2 (st:Ty.den aC) (d:Ty.den a_) (r:Ty.den am):(gd st d r).1.2.2≠4:=by
 unfold gd
 generalize fq d (bL st) (aN (aF r))=a
 cases a.2 != 0 with
 | true =>
  show fM a.2≠4
  rcases AY a.2 with q | q | q | q <;> rw [q] <;> decide
 | false=>show (0:Int)≠4;decide
theorem H6 (st:Ty.den aC) (d:Ty.den a_) (r:Ty.den am):(df st d r).1.2.2≠4:=by
 have h:=GG st d
 unfold df
 cases decide (st.2.2.2.1 > 0)&&decide (st.2.2.2.1+aY r > 200) with
 | false=>exact B2 st d r
 | true =>
  simp only [aX]
  generalize gj st d=q at h ⊢
  cases q.2.2 != 0 with
  | true=>exact h
  | false=>exact B2 q.1 q.2.1 r
theorem xz:∀ (l:jo) (st:Ty.den aC) (d:Ty.den a_) (ps:bG),(d_ l st d ps).1.2.2≠4
 | [],_,_,_=>by show (0:Int)≠4;decide
 | r::l,st,d,ps=>by
  have h:=H6 st d r
  unfold d_
  generalize df st d r=q at h ⊢
  cases q.1.2.2 != 0 with
  | true=>exact h
  | false=>exact xz l _ _ _
theorem DK {st:Ty.den aC} {d:Ty.den a_} {l:gP} (h:SR st (d,0) 100000):(br st d l).2.2≠4∧((br st d l).2.2≠0→(br st d l).1.2.1=st.2.1):=by
 have hc:=xz (eZ l st.2.2.1) (lN st) d []
 obtain ⟨_,g2,_⟩:=ly (eZ l st.2.2.1) (lN st) d [] 100000 ⟨h.live,h.disk,h.lo,h.hi⟩ (by decide)
 unfold br
 generalize d_ (eZ l st.2.2.1) (lN st) d []=q at hc g2 ⊢
 have g2:q.1.1.2.1=st.2.1:=g2
 unfold nl
 cases q.1.2.2 != 0 with
 | true=>exact ⟨hc,fun _=>g2⟩
 | false =>
  simp only [aK]
  generalize eA q.1.2.1 (bL q.1.1)=y
  cases y.2 != 0 with
  | true =>
   refine ⟨?_,fun _=>g2⟩
   show fM y.2≠4
   rcases AY y.2 with q | q | q | q <;> rw [q] <;> decide
  | false=>exact ⟨by show (0:Int)≠4;decide,fun q=>absurd rfl q⟩
end Go.Proofs.YtdbekilnpjmeaaaGreatDoor.G
namespace Go.Proofs.YtdbekilnpjmeaaaGreatDoor.G
open Go.V
theorem HL {d:Ty.den a_} (h:DR d) (s:ByteArray):yU d s=(ao d s).1.size:=by
 unfold yU
 rw [o7 h]
theorem qB {d:Ty.den a_} (h:DR d):∀ (ids:List Int) (n:Nat),ids.length≤n→oK d n ids=fF d ids
 | [],0,_=>rfl
 | [],n+1,_=>rfl
 | x::l,0,q=>by simp at q
 | x::l,n+1,q=>by
  have e:=qB h l n (by rw [lP] at q;omega)
  unfold fF at e ⊢
  rw [List.map_cons,List.sum_cons,HL h]
  unfold oK
  rw [e]
end Go.Proofs.YtdbekilnpjmeaaaGreatDoor.G
namespace Go.Proofs.YtdbekilnpjmeaaaGreatDoor.G
open Go.V
theorem Ec (st:Ty.den aC) (d:Ty.den a_):(gj st d).1.2.2.1=st.2.2.1:=by
 unfold gj
 cases decide ((st.1.2.1.length:Int)≥60) with
 | true=>rfl
 | false =>
  cases decide (st.1.1≥(100000:Int)) with
  | true=>rfl
  | false =>
   simp only [aK]
   generalize eA d (bL st)=r1
   generalize b7 (aB aI st.1.1) r1.1=r2
   generalize az (ie st) r2.1=r3
   cases r1.2 != 0 with
   | true=>rfl
   | false =>
    cases r2.2 != 0 with
    | true=>rfl
    | false =>
     cases r3.2 != 0 with
     | true=>rfl
     | false=>rfl
theorem yB (st:Ty.den aC) (d:Ty.den a_) (r:Ty.den am):(gd st d r).1.1.2.2.1=st.2.2.1:=by
 unfold gd
 generalize fq d (bL st) (aN (aF r))=a
 cases a.2 != 0 <;> rfl
theorem Fg (st:Ty.den aC) (d:Ty.den a_) (r:Ty.den am):(df st d r).1.1.2.2.1=st.2.2.1:=by
 have h:=Ec st d
 unfold df
 cases decide (st.2.2.2.1 > 0)&&decide (st.2.2.2.1+aY r > 200) with
 | false=>exact yB st d r
 | true =>
  simp only [aX]
  generalize gj st d=q at h ⊢
  cases q.2.2 != 0 with
  | true=>exact h
  | false=>exact (yB q.1 q.2.1 r).trans h
theorem wP:∀ (l:jo) (st:Ty.den aC) (d:Ty.den a_) (ps:bG),(d_ l st d ps).1.1.2.2.1=st.2.2.1
 | [],_,_,_=>rfl
 | r::l,st,d,ps=>by
  have h:=Fg st d r
  unfold d_
  generalize df st d r=q at h ⊢
  cases q.1.2.2 != 0 with
  | true=>exact h
  | false=>exact (wP l _ _ _).trans h
theorem uO (st:Ty.den aC) (d:Ty.den a_) (l:gP):(br st d l).1.2.2.1=(st.2.2.1+1:Int):=by
 have h:(d_ (eZ l st.2.2.1) (lN st) d []).1.1.2.2.1=(st.2.2.1+1:Int):=wP _ _ _ _
 unfold br
 generalize d_ (eZ l st.2.2.1) (lN st) d []=q at h ⊢
 unfold nl
 cases q.1.2.2 != 0 with
 | true=>exact h
 | false =>
  simp only [aK]
  generalize eA q.1.2.1 (bL q.1.1)=y
  cases y.2 != 0 <;> exact h
theorem yZ {st:Ty.den aC} {d:Ty.den a_} {l:gP} (hs:dP st d=true) (hp:gV l=true) (hl:l.length≠0) (hb:LE.le (α:=Int) st.2.2.1 1000000) :
 ij st l=(1+mA (eZ l st.2.2.1) st.2.2.2.1,(pj (eZ l st.2.2.1),())):=by
 obtain ⟨g1,g2,g3⟩:=dF hs
 unfold ij
 rw [if_pos ⟨hl,hp,g3,hb,g1.lo⟩,Ab]
 show ((_:Int),((0+_:Int),()))=_
 rw [Int.zero_add]
theorem F_ {st:Ty.den aC} {l:gP} (hl:l.length=0):ij st l=(0,(0,())):=by
 unfold ij
 rw [if_neg fun h=>h.1 hl]
theorem ww:∀ (l:jo) (n:Int),0≤mA l n∧mA l n≤7*(l.length:Int)
 | [],n=>⟨Int.le_refl _,by unfold mA;rw [List.length_nil];omega⟩
 | r::l,n=>by
  have h1:=ww l (aY r)
  have h2:=ww l (n+aY r)
  have el:((r::l).length:Int)=(l.length:Int)+1:=by rw [lP];omega
  unfold mA
  split <;> omega
theorem EN:∀ (l:jo),0≤pj l∧pj l≤211*(l.length:Int)
 | []=>⟨Int.le_refl _,by unfold pj;rw [List.length_nil];omega⟩
 | r::l=>by
  have h1:=EN l
  have h2:=jA r
  have el:((r::l).length:Int)=(l.length:Int)+1:=by rw [lP];omega
  unfold pj
  omega
theorem H9 (l:gP) (b:Int):(eZ l b).length=l.length+1:=by
 unfold eZ
 rw [sG,List.length_map]
 rfl
end Go.Proofs.YtdbekilnpjmeaaaGreatDoor.G
namespace Go.Proofs.YtdbekilnpjmeaaaGreatDoor.G
open Go.V
structure CG (st:Ty.den aC) (d:Ty.den a_) (l:gP) (x:Ty.den aC) (y:Ty.den a_):Prop where
 old:dP st d=true
 store:dP x y=true
 puts:l.length≤8
 dump:gk x.2.1 y=(rS (gk st.2.1 d).1 l st.2.2.1,0)
 fuel:(0:Int)≤d.2.2.1→0<l.length→o8 d st.1.2.1=[]→y.2.2.1=aH (d.2.2.1-(ij st l).1)
 segs:aH ((oK y 60 x.1.2.1:Int)-(oK d 60 st.1.2.1:Int))=(ij st l).2.1
 last:(l.length=0∧x=st)∨(l.length≠0∧x.2.2.1=aH (st.2.2.1+1))
inductive CT (st:Ty.den aC) (d:Ty.den a_) (l:gP) (r:Ty.den aC × RD):Prop
 | same (c:Int) (hc:c=4∨c=5) (e:r=(st,(d,c)))
 | fail (h0:r.2.2≠0) (h4:r.2.2≠4) (hs:st.2.1.length≤20) (hd:r.1.2.1=st.2.1) (hb:(st.2.2.1==r.1.2.2.1)=false)
 | good (h0:r.2.2=0) (h:CG st d l r.1 r.2.1)
theorem CP (a b:Int):a+b-a=b:=by omega
theorem Hi (a:Int):(a==a+1)=false:=mm (by omega)
theorem IZ {f s n':Int} (h0:0≤f) (h1:f≤100000) (s0:0≤s) (s1:s≤1000) (e:n'=f-s):n'=aH (f-s):=by
 rw [aE (by omega) (by omega)]
 exact e
theorem As {st:Ty.den aC} {d:Ty.den a_} {l:gP} (he:dP st d=true→EI st):CT st d l (cB st d l):=by
 rcases D0 st d l with ⟨c,hc,e⟩ | ⟨hs,hl,e⟩ | ⟨hs,hp,hl,ha,hb,e⟩
 · exact .same c hc e
 · rw [e]
   refine .good rfl ⟨hs,hs,by omega,?_,fun _ h _=>by omega,?_,.inl ⟨hl,rfl⟩⟩
   · obtain rfl:l=[]:=List.length_eq_zero_iff.1 hl
     show gk st.2.1 d=((gk st.2.1 d).1,0)
     rw [zl hs]
   · rw [F_ hl]
     show aH (_-_)=0
     rw [Int.sub_self]
     rfl
 · rw [e]
   obtain ⟨g1,g2,g3⟩:=dF hs
   have h8:=jV hp
   obtain ⟨wc,wd⟩:=DK (l:=l) g1
   by_cases z:(br st d l).2.2=0
   · obtain ⟨s1,_⟩:=uk hs (he hs) hp hb ha z
     obtain ⟨k1,k2⟩:=CV hs hp hb z rfl
     obtain ⟨f1,_,_⟩:=dF s1
     have i1:st.1.2.1.length≤60:=(ck (nx:=st.1.1) (ids:=st.1.2.1) g1.live).2.2.2.1
     have i2:(br st d l).1.1.2.1.length≤60:=(ck (nx:=(br st d l).1.1.1) (ids:=(br st d l).1.1.2.1) f1.live).2.2.2.1
     have hr:=H9 l st.2.2.1
     have hst:=ww (eZ l st.2.2.1) st.2.2.2.1
     have hle:=EN (eZ l st.2.2.1)
     refine .good z ⟨hs,s1,h8,CU hs (he hs) hp hb ha z,fun h0 _ ho=>?_,?_,.inr ⟨hl,?_⟩⟩
     · rw [yZ hs hp hl hb]
       exact IZ h0 g1.disk.fu1 (by omega) (by omega) ((k2 (ID g1.live g1.disk ho)).2 _ _ rfl rfl h0 g1.disk.fu1).1
     · rw [yZ hs hp hl hb,qB f1.disk _ _ i2,qB g1.disk _ _ i1,k1,CP,aE (by omega) (by omega)]
     · rw [uO]
       obtain ⟨b1,b2⟩:=KF g3 hb
       rw [aE (by omega) (by omega)]
   · exact .fail z wc g2 (wd z) (by rw [uO];exact Hi _)
end Go.Proofs.YtdbekilnpjmeaaaGreatDoor.G
namespace Go.Proofs.YtdbekilnpjmeaaaGreatDoor.G
open Go.V
theorem zP (x:Ty.den kg) (l:fo) (key:ByteArray):jb (x::l) key=bif seq x.1 key then jb l key else x::jb l key:=by
 unfold jb
 rw [List.filter_cons]
 cases seq x.1 key <;> rfl
theorem GA (x:Ty.den kg) (l:fo) (p:Ty.den kg):zF (x::l) p=bif JY p.1 x then x::zF l p else p::x::l:=by
 unfold zF
 rw [List.takeWhile_cons,List.dropWhile_cons]
 cases JY p.1 x <;> rfl
theorem Bi {k:Nat} (hk:2 ^ 50≤k) {l:fo} (hl:l.length≤1048576) (p:Ty.den kg) (del:Bool):ft.f k l p del=some (Df l p del,()):=by
 unfold ft.f ft.t
 refine (eV (L:=fun n i (s:Bool × fo)=>ft.l0 k n l s.1 i p.1 p.2.1 p.2.2.1 s.2) (R:=fun r s=>some (s.2++(bif s.1 then jb r p.1 else zF (jb r p.1) (p.1,(p.2.1,(p.2.2.1,())))),())) (Ty.dflt kg) l (fun i s=>(s.2.length:Int)≤2*i+1) (fun n s hs=>?_) (fun n i s x rest h0 h1 hx hr hp ih=>?_) (n:=k) (s:=(del,[])) (by omega) (by show ((0:Nat):Int)≤2*0+1;decide)).trans (by rw [List.nil_append];rfl)
 · obtain ⟨dn,out⟩:=s
   simp only [] at hs ⊢
   simp only [ft.l0,ft.b0]
   rw [aQ (by omega),aK,bm (by omega) (by decide)]
   cases dn with
   | true=>rw [show jb [] p.1=[] from rfl,aX,List.append_nil];rfl
   | false=>rfl
 · obtain ⟨dn,out⟩:=s
   simp only [] at hp ih ⊢
   have hz:(out++[((p.1,(p.2.1,(p.2.2.1,()))):Ty.den kg)]).length=out.length+1:=cS ..
   simp (disch:=first | omega | decide) only [ft.l0,ft.b0,aM h1,aX,aG,hx,bm,aE]
   have i1:=ih (dn,out) (by simp only [];omega)
   have i2:=ih (dn,out++[x]) (by simp only [];rw [sG,List.length_singleton];omega)
   have i3:=ih (true,(out++[(p.1,(p.2.1,(p.2.2.1,())))])++[x]) (by simp only [];rw [sG,sG,List.length_singleton,List.length_singleton];omega)
   simp only [] at i1 i2 i3
   rw [zP]
   cases c1:seq x.1 p.1 with
   | true=>simp only [aX];exact i1
   | false =>
    simp only [aK]
    cases dn with
    | true =>
     simp only [fb,aK,aX] at i2 ⊢
     rw [i2,rW]
     rfl
    | false =>
     simp only [tD,aK,aX] at i2 i3 ⊢
     rw [GA]
     unfold JY
     rw [c1,Bool.or_false]
     cases lZ x.1 p.1 with
     | true =>
      simp only [fb,aK,aX]
      rw [i2,rW]
      rfl
     | false =>
      simp only [tD,aK,aX]
      rw [i3,rW,rW]
      rfl
theorem zc {k:Nat} (hk:2 ^ 50≤k) {l:fo} (hl:l.length≤1000) {puts:gP} (hp:puts.length≤1000) (b:Int):gz.f k l puts b=some (rS l puts b,()):=by
 unfold gz.f gz.t
 rw [bm (by omega) (by decide),List.nil_append]
 refine eV (L:=fun n i (s:fo)=>gz.l0 k n puts b i s) (R:=fun r s=>some (rS s r b,())) (Ty.dflt af) puts (fun i s=>(s.length:Int)≤1000+i) (fun n s hs=>?_) (fun n i s x rest h0 h1 hx hr hp' ih=>?_) (n:=k) (s:=l) (by omega) (by omega)
 · simp only [gz.l0,gz.b0]
   rw [aQ (by omega),aK]
   rfl
 · have hz:=Fu s (x.1,(x.2.2.1,(b,()))) x.2.1
   simp only [gz.l0,gz.b0]
   rw [aM h1,aX]
   repeat rw [aG h0 h1]
   rw [hx,Bi hk (by omega),aT,aE (n:=i+1) (by omega) (by omega)]
   exact ih (Df s (x.1,(x.2.2.1,(b,()))) x.2.1) (by omega)
end Go.Proofs.YtdbekilnpjmeaaaGreatDoor.G
namespace Go.Proofs.YtdbekilnpjmeaaaGreatDoor.G
open Go.V
theorem wy {k:Nat} (hk:2 ^ 50≤k) {l:fo} (hl:l.length≤1048576):cj.f k l l=some (true,()):=by
 unfold cj.f cj.t
 rw [bne_self_eq_false,aK]
 refine eV (L:=fun n i (_:Unit)=>cj.l0 k n l l i) (R:=fun r _=>some (true,())) (Ty.dflt kg) l (fun _ _=>True) (fun n _ _=>?_) (fun n i _ x rest h0 h1 hx hr hp ih=>?_) (n:=k) (s:=()) (by omega) trivial
 · simp only [cj.l0,cj.b0]
   rw [aQ (by omega),aK]
 · simp only [cj.l0,cj.b0]
   rw [aM h1,aX]
   repeat rw [aG h0 h1]
   rw [hx,aE (n:=i+1) (by omega) (by omega),c9,c9,beq_self_eq_true]
   exact ih () trivial
end Go.Proofs.YtdbekilnpjmeaaaGreatDoor.G
namespace Go.Proofs.YtdbekilnpjmeaaaGreatDoor.G
open Go.V
theorem uJ (k:Nat):∀ n:Nat,eo.l0 k n=fun l b i nx ids dir x6 x7 x8 x9 x10 x11 x12 x13 x14 x15 x16 x17 x18 x19 x20 x21 x22 x23 x24=>bB.l0 k n b i l ids dir nx x6 x7 x8 x9 x10 x11 x12 x13 x14 x15 x16 x17 x18 x19 x20 x21 x22 x23 x24
 | 0=>rfl
 | n+1=>by
  show eo.b0 k (eo.l0 k n)=_
  rw [uJ k n]
  rfl
theorem vc {k:Nat} (hk:2 ^ 50≤k) {st:Ty.den aC} {d:Ty.den a_} (hd:uF d) (h1:st.1.2.1.length≤1073741824) (h2:st.2.1.length≤536870912) {l:gP} (hl:l.length≤1073741824) :
 jS.f k st d l=some ((cB st d l).1,((cB st d l).2.1,((cB st d l).2.2,()))):=by
 have e:∀ (a:Ty.den aC) (b:Ty.den a_),eo.f k a b l=bB.f k a b l:=fun a b=>by
  unfold eo.f eo.t
  rw [uJ]
  rfl
 rw [← rU hk hd h1 h2 hl]
 unfold jS.f jS.t
 simp only [e]
 rfl
theorem qF {k:Nat} (hk:2 ^ 50≤k) {st:Ty.den aC} (hi:st.1.2.1.length≤1048576) (hd:st.2.1.length≤1073741824):an.f k st st=some (true,()):=by
 unfold an.f an.t
 simp only [bne_self_eq_false,aK]
 refine eV (L:=fun n i (_:Unit)=>an.l0 k n i st.1.1 st.1.2.1 st.2.1 st.2.2.1 st.2.2.2.1 st.2.2.2.2.1 st.1.1 st.1.2.1 st.2.1 st.2.2.1 st.2.2.2.1 st.2.2.2.2.1) (R:=fun r _=>some (true,())) (Ty.dflt (.int .i64)) st.1.2.1 (fun _ _=>True) (fun n _ _=>?_) (fun n i _ x rest h0 h1 hx hr hp ih=>?_) (n:=k) (s:=()) (by omega) trivial
 · simp only [an.l0,an.b0]
   rw [aQ (by omega),aK,nY hk hd,r_.2 rfl]
   rfl
 · simp only [an.l0,an.b0]
   rw [aM h1,aX]
   repeat rw [aG h0 h1]
   rw [bne_self_eq_false,aK,aE (n:=i+1) (by omega) (by omega)]
   exact ih () trivial
theorem xu {k:Nat} (hk:2 ^ 50≤k) {d:Ty.den a_} (hl:d.1.length≤1048576):dY.f k d d=some (true,()):=by
 unfold dY.f dY.t
 rw [bne_self_eq_false,bne_self_eq_false,bne_self_eq_false,beq_self_eq_true,fb]
 simp only [aK]
 refine eV (L:=fun n i (_:Unit)=>dY.l0 k n i d.1 d.2.1 d.2.2.1 d.2.2.2.1 d.1 d.2.1 d.2.2.1 d.2.2.2.1) (R:=fun r _=>some (true,())) (Ty.dflt aD) d.1 (fun _ _=>True) (fun n _ _=>?_) (fun n i _ x rest h0 h1 hx hr hp ih=>?_) (n:=k) (s:=()) (by omega) trivial
 · simp only [dY.l0,dY.b0]
   rw [aQ (by omega),aK]
 · simp only [dY.l0,dY.b0]
   rw [aM h1,aX]
   repeat rw [aG h0 h1]
   rw [hx,aE (n:=i+1) (by omega) (by omega),c9,c9,beq_self_eq_true]
   exact ih () trivial
theorem I7 {k:Nat} (hk:2 ^ 50≤k):∀ (m n:Nat) (c:ki) (out:gP),m<n→CI c→10≤out.length+m→out.length≤110→lH (dE.l0 k n c.1 c.2.1 c.2.2.1 out) (fun r=>CI r.1∧r.2.1.length≤110):=by
 intro m
 induction m with
 | zero =>
  intro n c out hn hc h1 h2
  obtain ⟨n,rfl⟩:∃ q,n=q+1:=⟨n-1,by omega⟩
  simp only [dE.l0,dE.b0]
  refine ae (dN k hc (by omega) (by omega)) fun r4 q4=>?_
  obtain ⟨q,a,b⟩:=q4
  exact jT (by rw [aE (by omega) (by omega)];exact aQ (by omega)) (bC ⟨q,h2⟩)
 | succ m ih =>
  intro n c out hn hc h1 h2
  obtain ⟨n,rfl⟩:∃ q,n=q+1:=⟨n-1,by omega⟩
  simp only [dE.l0,dE.b0]
  refine ae (dN k hc (by omega) (by omega)) fun r4 q4=>?_
  obtain ⟨q,a,b⟩:=q4
  refine cM (fun h=>?_) (fun _=>bC ⟨q,h2⟩)
  have h:=of_decide_eq_true h
  rw [aE (by omega) (by omega)] at h
  refine d5 (lu hk (by omega) (by omega)) ?_
  have hz:=l7 (n:=(out.length:Int)) (by omega) (by omega)
  refine EP (by show 1+(gM _).size≤_;omega) (s5 (by omega) (by decide) (ih n r4.1 _ (by omega) q (by rw [cS];omega) (by rw [cS];omega)))
theorem zU {k:Nat} (hk:2 ^ 50≤k) {c:ki} (h:CI c):lH (dE.f k c) (fun r=>CI r.1∧r.2.1.length≤110):=by
 unfold dE.f dE.t
 refine ae (yY hk h) fun r1 q1=>?_
 obtain ⟨hc,h1⟩:=q1
 refine ae (dN k hc (by omega) (by omega)) fun r2 q2=>?_
 refine cM (fun _=>?_) (fun _=>cM (fun _=>?_) (fun _=>cM (fun _=>?_) (fun _=>bC ⟨q2.1,by show r1.2.1.length≤110;omega⟩)))
 · exact ae (qV k q2.1 (by decide) (by decide)) fun r3 q3=>s5 (by omega) (by decide) (bC ⟨q3.1,by show (r1.2.1++[_]).length≤110;rw [cS];omega⟩)
 · exact I7 hk 10 k r2.1 r1.2.1 (by omega) q2.1 (by omega) (by omega)
 · exact s5 (by omega) (by decide) (bC ⟨q2.1,by show (r1.2.1++[_]).length≤110;rw [cS];omega⟩)
theorem Aa {k:Nat} (hk:2 ^ 50≤k) {code:List Int} (hl:code.length≤1048576):lH (gL.f k code) (fun r=>BV r.1 r.2.1∧r.2.2.1.length≤110):=by
 unfold gL.f gL.t
 refine ae (I5 hk hl) fun r1 q1=>?_
 refine ae (Ep hk q1) fun r2 q2=>?_
 exact ae (zU hk q2.1) fun r3 q3=>bC ⟨q2.2,q3.2⟩
theorem Gg {k:Nat} {x st:Ty.den aC} {y d:Ty.den a_} {l:gP} {a b B:Int} (h1:aZ.f k x y=some (a,())) (h2:aZ.f k st d=some (b,())) (hB:aH (a-b)=B) (hl:(l.length=0∧an.f k x st=some (true,()))∨(l.length≠0∧x.2.2.1=aH (st.2.2.1+1))) :
 ((aZ.f k x y).bind fun r17=>((aZ.f k st d).bind fun r18=>(bif ((aH (r17.1-r18.1)) != B) then (some (false,())) else (bif ((List.length l:Int)==0) then
  ((an.f k x st).bind fun r19=>(bif r19.1 then (some (true,())) else (bif (decide ((List.length l:Int) > 0)) then (some ((x.2.2.1==(aH (st.2.2.1+1))),())) else (some (false,())))))
  else (bif (decide ((List.length l:Int) > 0)) then (some ((x.2.2.1==(aH (st.2.2.1+1))),())) else (some (false,())))))))=(some (true,()):Option (Bool × Unit)):=by
 rw [h1,h2]
 simp only [aT]
 rw [hB,bne_self_eq_false,aK]
 rcases hl with ⟨c,h⟩ | ⟨c,h⟩
 · rw [c,h];rfl
 · rw [show ((l.length:Int)==0)=false from mm (by omega),aM (show (l.length:Int) > 0 by omega),h]
   simp only [aK,aX,beq_self_eq_true]
theorem Aw {k:Nat} (hk:2 ^ 50≤k) (code:List Int):fV.f k code=some (true,()):=by
 refine JS ?_
 unfold fV.f fV.t
 have hbig:od.f k code=some (decide ((code.length:Int) > 1048576),()):=rfl
 refine d5 hbig ?_
 refine cM (fun _=>bC rfl) fun hb=>?_
 have hl:code.length≤1048576:=by have:=of_decide_eq_false hb;omega
 refine ae (Aa hk hl) fun r2 q2=>?_
 obtain ⟨st,d,l,⟨⟩⟩:=r2
 obtain ⟨⟨hav,hei⟩,hlen⟩:=q2
 have hav:AV st d:=hav
 have hei:dP st d=true→EI st:=hei
 have hlen:l.length≤110:=hlen
 have hz:=hav.disk.sz
 have z1:=hav.disk.l
 have z2:=hav.disk.u
 have z3:=hav.disk.n
 have h60:=hav.ids
 have hdir:=hav.dir
 refine d5 (xr hk (st:=st) (d:=d) (l:=l) hz (by omega) (by omega) (by omega)) ?_
 refine d5 (vc hk (st:=st) (d:=d) (l:=l) hz (by omega) (by omega) (by omega)) ?_
 refine jT (bne_self_eq_false _) ?_
 have ht:=As (st:=st) (d:=d) (l:=l) hei
 generalize cB st d l=r at ht ⊢
 obtain ⟨x,y,c⟩:=r
 simp only []
 rcases ht with ⟨c',hc,e⟩ | ⟨h0,h4,hs,hd,hb'⟩ | ⟨h0,h⟩
 · cases e
   have e1:=qF hk (st:=st) (by omega) (by omega)
   have e2:=xu hk (d:=d) (by omega)
   rcases hc with rfl | rfl
   · exact kj rfl (d5 e1 (kj rfl (d5 e2 (bC rfl))))
   · exact jT rfl (kj rfl (kj (beq_self_eq_true _) (d5 e1 (kj rfl (d5 e2 (bC rfl))))))
 · have h0:c≠0:=h0
   have h4:c≠4:=h4
   have hd:x.2.1=st.2.1:=hd
   have hn:(c != 0)=true:=bne_iff_ne.2 h0
   have e1:cT.f k x.2.1 st.2.1=some (true,()):=by rw [hd,nY hk (by omega),r_.2 rfl]
   refine jT (mm h4) (cM (fun _=>jT hb' ?_) (fun _=>?_)) <;> exact kj hn (d5 e1 (bC rfl))
 · obtain rfl:c=0:=h0
   have h:CG st d l x y:=h
   obtain ⟨f1,f2,_⟩:=dF h.store
   obtain ⟨_,g2,_⟩:=dF h.old
   have f3:DR y:=f1.disk
   have fz:=f3.ds.sz
   have y1:=f3.ds.l
   have y2:=f3.ds.u
   have y3:=f3.ds.n
   have i2:x.1.2.1.length≤60:=(ck (nx:=x.1.1) (ids:=x.1.2.1) f1.live).2.2.2.1
   have h8:=h.puts
   have hsz:LE.le (α:=Int) st.2.2.2.1 100000:=(dF h.old).1.hi
   have dl:=rC st.2.1 d
   have dm:=rC x.2.1 y
   have hf:(rS (gk st.2.1 d).1 l st.2.2.1).length≤20:=by
    have:=congrArg (fun q=>q.1.length) h.dump
    have:(gk x.2.1 y).1.length=(rS (gk st.2.1 d).1 l st.2.2.1).length:=this
    omega
   have tail:∀ a:Int,lH ((aZ.f k x y).bind fun r17=>((aZ.f k st d).bind fun r18=>(bif ((aH (r17.1-r18.1)) != (ij st l).2.1) then (some (false,())) else (bif ((List.length l:Int)==0) then
    ((an.f k x st).bind fun r19=>(bif r19.1 then (some (true,())) else (bif (decide ((List.length l:Int) > 0)) then (some ((x.2.2.1==(aH (st.2.2.1+1))),())) else (some (false,())))))
    else (bif (decide ((List.length l:Int) > 0)) then (some ((x.2.2.1==(aH (st.2.2.1+1))),())) else (some (false,()))))))) (fun r:Bool × Unit=>r=(true,())):=fun _ =>
    D3 (Gg (pk hk (st:=x) (d:=y) (by omega) (by omega) (by omega) (by omega)) (pk hk (st:=st) (d:=d) (by omega) (by omega) (by omega) (by omega)) h.segs (h.last.imp (fun q=>⟨q.1,by rw [q.2];exact qF hk (by omega) (by omega)⟩) id)) rfl
   refine jT rfl (jT rfl (jT rfl ?_))
   refine d5 (uI hk (st:=st) hz (by omega)) ?_
   refine d5 (Bp hk (st:=x) fz (by omega)) ?_
   refine jT (by rw [h.dump];rfl) ?_
   refine d5 (zc hk (l:=(gk st.2.1 d).1) (puts:=l) (by omega) (by omega) st.2.2.1) ?_
   refine d5 (show cj.f k (gk x.2.1 y).1 (rS (gk st.2.1 d).1 l st.2.2.1)=some (true,()) by rw [h.dump];exact wy hk (l:=rS (gk st.2.1 d).1 l st.2.2.1) (by omega)) ?_
   refine jT rfl ?_
   refine d5 (pN hk (st:=x) fz) ?_
   refine jT (by rw [h.store];rfl) ?_
   refine d5 (sq hk (s:=st) (l:=l) (by omega) (Int.le_trans hsz (by decide))) ?_
   refine cM (fun c1=>cM (fun c2=>?_) (fun _=>tail 0)) (fun _=>tail 0)
   refine d5 (uQ hk (d:=d) (v:=st.1) (by omega) (by omega) (by omega)) ?_
   refine cM (fun c3=>?_) (fun _=>tail 0)
   have c3:o8 d st.1.2.1=[]:=List.length_eq_zero_iff.1 (by have c4:((o8 d st.1.2.1).length:Int)=0:=G7 c3;omega)
   have c2:=of_decide_eq_true c2
   have ef:=h.fuel (of_decide_eq_true c1) (by omega) c3
   exact jT (by rw [ef];exact bne_self_eq_false _) (tail 0)
theorem fnCommits_pure:∀ x,Wf (tup [.slice (.int .u8)]) x→∃ k r,fV.f k x.1=some r∧nP (B:=[.bool]) (gG ([.val (.slice (.int .u8))])) r=(true,()):=by
 rintro ⟨a0,_⟩ ⟨f0,_⟩
 suffices Ev (fun k=>fV.f k a0) (true,()) by
  obtain ⟨k,h⟩:=this.some
  exact ⟨k,(true,()),h,rfl⟩
 exact Jg fun k hk=>Aw hk a0
end Go.Proofs.YtdbekilnpjmeaaaGreatDoor.G

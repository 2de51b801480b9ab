/- Plain laws, merged; what is proved here is told ahead of each part. -/
import Derived.Test.YtbgnhoggngbhhaaGreatDoorZU1
set_option linter.unusedVariables false
set_option linter.unusedSimpArgs false
namespace Go.Proofs.YtbgnhoggngbhhaaGreatDoor.G
open Go.V
theorem Ig {pre rest:ByteArray} {r:Ty.d ba} (h:bd r=true) (d:Nat) :
 g7 (pre++(aT (aI r)++rest)) (d+1) (pre.size:Int)=(((pre.size:Int),(((aT (aI r)).size:Int),(r,())))::(g7 (pre++(aT (aI r)++rest)) d ((pre.size+(aT (aI r)).size:Nat):Int)).1,(g7 (pre++(aT (aI r)++rest)) d ((pre.size+(aT (aI r)).size:Nat):Int)).2):=by
 have hz:=lU r
 have hp:=lG (s:=aI r) (by omega)
 rw [g7,rI,gJ,oI rest (by omega)]
 simp only []
 rw [vN h,if_neg (by omega)]
 simp only []
 rw [if_neg (show ¬ ((true:Bool)=false) by decide)]
 rfl
theorem xI:∀ (rs:jM) (pre:ByteArray) (d:Nat),(∀ r ∈ rs,bd r=true)→(aU rs).size<d→(g7 (pre++aU rs) d (pre.size:Int)).1.map (·.2.2.1)=rs∧(g7 (pre++aU rs) d (pre.size:Int)).2=((pre++aU rs).size:Int)
 | [],pre,d,_,hd=>by
  obtain ⟨d,rfl⟩:∃ q,d=q+1:=⟨d-1,by omega⟩
  have:h_ (ByteArray.extract (pre++aU []) (Int.toNat (pre.size:Int)) (pre++aU []).size)=(⟨#[]⟩,0):=by
   rw [rI,gJ,aU,yE]
  rw [g7,this,if_pos rfl,aU,aZ,e0]
  exact ⟨rfl,rfl⟩
 | r::rs,pre,d,h,hd=>by
  rw [aU,aZ] at hd
  have hz:=lU r
  have hp:=lG (s:=aI r) (by omega)
  obtain ⟨d,rfl⟩:∃ q,d=q+1:=⟨d-1,by omega⟩
  have ih:=xI rs (pre++aT (aI r)) d (fun x hx=>h x (kR _ hx)) (by omega)
  rw [bg,aZ pre] at ih
  rw [aU,Ig (h r (ii ..))]
  simp only [List.map_cons]
  exact ⟨by rw [ih.1],ih.2⟩
theorem rC {rs:jM} (h:∀ r ∈ rs,bd r=true):(bx (aU rs)).1.map (·.2.2.1)=rs∧(bx (aU rs)).2=((aU rs).size:Int):=by
 have:=xI rs ⟨#[]⟩ ((aU rs).size+1) h (by omega)
 rw [oE,e0] at this
 exact this
abbrev fC:=List (Ty.d aW)
def jB (x:Ty.d aW):Bool:=eT x.1&&(decide ((x.2.2.1.size:Int)≤24)&&(!x.2.1||seq x.2.2.1 ⟨#[]⟩))
def dN (l:fC):Bool:=pR (fun _=>jB) none l&&decide (l.length≤8)
theorem tV {k:Nat} (hk:2 ^ 50≤k) (l:fC):e_.f k l=some (dN l,()):=by
 unfold e_.f e_.t dN
 by_cases c:l.length > 8
 · rw [aV (by omega),aa,aY (by omega),Bool.and_false]
 · rw [aY (by omega),aJ,aV (by omega),Bool.and_true]
   have st:∀ (n:Nat) (i:Int) x,0≤i→i<l.length→l.getD i.toNat (Ty.z aW)=x→e_.l0 k (n+1) l i=bif jB x then e_.l0 k n l (i+1) else some (false,()):=fun n i x h0 h1 hx=>by
    simp (disch:=omega) only [e_.l0,e_.b0,aV h1,aa,aN,hx,o7 k,aX,aE,jB,eT]
    by_cases c2:(x.2.2.1.size:Int) > 24
    · rw [aV c2,aY (show ¬ (x.2.2.1.size:Int)≤24 by omega)]
      cases decide (1≤(x.1.size:Int)∧(x.1.size:Int)≤8) <;> rfl
    · rw [aY c2,aV (show (x.2.2.1.size:Int)≤24 by omega)]
      cases decide (1≤(x.1.size:Int)∧(x.1.size:Int)≤8) <;> cases x.2.1 <;> cases seq x.2.2.1 ⟨#[]⟩ <;> rfl
   exact (wo (L:=fun n i=>e_.l0 k n l i) (Ty.z aW) l (fun _=>jB) (some (true,())) (some (false,())) (fun n=>by simp (disch:=omega) only [e_.l0,e_.b0,aY,aJ])
    (fun n x h hx=>st n 0 x (by omega) (by omega) hx) (fun n i x y h0 h1 hx hy=>st n i x (by omega) h1 hx) (n:=k) (by omega)).trans (by cases pR (fun _=>jB) none l <;> rfl)
theorem BB {k:Nat} (hk:2 ^ 50≤k) {l:fC} (hl:l.length≤1099511627776):fG.f k l=some (dN l,()):=by
 unfold fG.f fG.t dN
 have st:∀ (n:Nat) (i:Int) x,0≤i→i<l.length→l.getD i.toNat (Ty.z aW)=x→fG.l0 k (n+1) l l l.length i=bif jB x then fG.l0 k n l l l.length (i+1) else some (false,()):=fun n i x h0 h1 hx=>by
  have e:fa.f k x=some (jB x,()):=by
   unfold fa.f fa.t jB eT
   rw [kN,aX]
   cases decide (1≤(x.1.size:Int)∧(x.1.size:Int)≤8) <;> cases decide ((x.2.2.1.size:Int)≤24) <;> cases x.2.1 <;> rfl
  simp (disch:=omega) only [fG.l0,fG.b0,aV h1,aa,aN,hx,e,aX,aE]
  cases jB x <;> rfl
 exact (wo (L:=fun n i=>fG.l0 k n l l l.length i) (Ty.z aW) l (fun _=>jB) (some (decide ((l.length:Int)≤8),())) (some (false,())) (fun n=>by simp (disch:=omega) only [fG.l0,fG.b0,aY,aJ])
  (fun n x h hx=>st n 0 x (by omega) (by omega) hx) (fun n i x y h0 h1 hx hy=>st n i x (by omega) h1 hx) (n:=k) (by omega)).trans (by rw [show decide ((l.length:Int)≤8)=decide (l.length≤8) from decide_eq_decide.2 (by omega)];cases pR (fun _=>jB) none l <;> rfl)
theorem nI {l:fC} (h:dN l=true):l.length≤8:=by
 unfold dN at h
 rw [iA,decide_eq_true_eq] at h
 exact h.2
theorem uY {l:fC} (h:dN l=true) {x:Ty.d aW} (hx:x ∈ l):jB x=true:=by
 unfold dN at h
 rw [iA] at h
 exact (Cg h.1 hx).elim fun _ q=>q
def gW (b:Int) (p:Ty.d aW):Ty.d ba:=bif p.2.1 then (2,(b,(p.1,(ByteArray.empty,(0,(0,())))))) else (1,(b,(p.1,(p.2.2.1,(0,(0,()))))))
def dT (l:fC) (b:Int):jM:=l.map (gW b)++[gp 3 b (l.map (gW b))]
theorem wV {k:Nat} (hk:2 ^ 50≤k) {l:fC} (hl:l.length≤1073741823) (b:Int):dw.f k l b=some (dT l b,()):=by
 unfold dw.f dw.t
 refine (fe (L:=fun n i s=>dw.l0 k n l b l l.length i s) (R:=fun r s=>some (s++r.map (gW b)++[gp 3 b (s++r.map (gW b))],())) (Ty.z aW) l (fun i s=>(s.length:Int)=i) (fun n s hs=>?_) (fun n i s x rest h0 h1 hx hr hp ih=>?_) (n:=k) (s:=[]) (by omega) (by decide)).trans (by rw [List.nil_append];rfl)
 · simp (disch:=first | omega | decide) only [dw.l0,dw.b0,aY,aJ,qu hk,aX,bf,List.map_nil,List.append_nil,gp,hs]
 · have ih:=ih (s++[gW b x]) (by rw [py];show ((s.length+1:Nat):Int)=_;omega)
   have e:gW b x=bif x.2.1 then (2,(b,(x.1,(ByteArray.empty,(0,(0,())))))) else (1,(b,(x.1,(x.2.2.1,(0,(0,())))))):=rfl
   simp (disch:=first | omega | decide) only [dw.l0,dw.b0,aV,aa,aN,hx,bf,aE]
   cases c:x.2.1 <;> rw [c] at e <;> simp only [aa,aJ] at e ⊢ <;> rw [← e] <;> refine ih.trans ?_ <;> simp only [List.map_cons,nw,List.cons_append,List.nil_append]
def ar (r:Ty.d ba):Int:=((aT (aI r)).size:Int)
theorem mD (r:Ty.d ba):0≤ar r∧ar r≤211:=by
 have:=m9 (aI r)
 unfold ar
 omega
def lY (l:aS) (key:ByteArray):aS:=l.filter fun x=>!(seq x.1 key)
def Nf (key:ByteArray) (x:Ty.d aB):Bool:=nT x.1 key||seq x.1 key
def uE (l:aS) (e:Ty.d aB):aS:=l.takeWhile (Nf e.1)++e::l.dropWhile (Nf e.1)
def rB (l:aS) (e:Ty.d aB):aS:=uE (lY l e.1) e
theorem qF (l:aS) (key:ByteArray):(lY l key).length≤l.length:=List.length_filter_le ..
theorem FW (l:aS) (e:Ty.d aB):(uE l e).length=l.length+1:=by
 unfold uE
 rw [py,jj]
 have:=congrArg List.length (List.takeWhile_append_dropWhile (p:=Nf e.1) (l:=l))
 rw [py] at this
 omega
theorem KL (l:aS) (e:Ty.d aB):(rB l e).length≤l.length+1:=by
 unfold rB
 have:=qF l e.1
 rw [FW]
 omega
abbrev ah:=List (Ty.d aM)
def fY (b:Int) (acc:ah) (p:Ty.d aM):ah :=
 bif p.2.2.2.1.2.1==b then (bif p.2.2.2.1.1==3 then [] else bif p.2.2.2.1.1==1||p.2.2.2.1.1==2 then acc++[p] else acc) else acc
def gg (acc:ah) (p:Ty.d aM):ah:=bif p.2.2.2.1.1==5 then [] else bif p.2.2.2.1.1==4 then acc++[p] else acc
def fO (b:Int) (l:ah):ah:=l.foldl (fY b) []
def bz (l:ah):ah:=l.foldl gg []
theorem vA (b:Int) (acc:ah) (p:Ty.d aM):(fY b acc p).length≤acc.length+1:=by
 unfold fY
 cases p.2.2.2.1.2.1==b <;> cases p.2.2.2.1.1==3 <;> cases p.2.2.2.1.1==1 <;> cases p.2.2.2.1.1==2 <;> simp
theorem vr (acc:ah) (p:Ty.d aM):(gg acc p).length≤acc.length+1:=by
 unfold gg
 cases p.2.2.2.1.1==5 <;> cases p.2.2.2.1.1==4 <;> simp
theorem we {f:ah→Ty.d aM→ah} (h:∀ a p,(f a p).length≤a.length+1):∀ (l acc:ah),(l.foldl f acc).length≤acc.length+l.length
 | [],acc=>by simp
 | p::l,acc=>by
  have:=we h l (f acc p)
  have:=h acc p
  rw [List.foldl_cons,jj]
  omega
theorem FR (b:Int) (l:ah):(fO b l).length≤l.length:=by
 have:=we (vA b) l []
 simpa [fO] using this
theorem Fx (l:ah):(bz l).length≤l.length:=by
 have:=we vr l []
 simpa [bz] using this
theorem D_ {k:Nat} (hk:2 ^ 50≤k) {l:ah} {r:Ty.d ba} (hr:r.1=3) (hl:l.length≤1099511627775):dK.f k l r=some (fO r.2.1 l,()):=by
 unfold dK.f dK.t
 rw [hr]
 refine fe (L:=fun n i s=>dK.l0 k n l l.length i 3 r.2.1 r.2.2.1 r.2.2.2.1 r.2.2.2.2.1 r.2.2.2.2.2.1 s) (R:=fun q s=>some (q.foldl (fY r.2.1) s,())) (Ty.z aM) l (fun i s=>(s.length:Int)≤i) (fun n s hs=>?_) (fun n i s x rest h0 h1 hx hr hp ih=>?_) (n:=k) (s:=[]) (by omega) (by decide)
 · simp (disch:=omega) only [dK.l0,dK.b0,aY,aJ,List.foldl_nil]
 · simp (disch:=omega) only [dK.l0,dK.b0,aV h1,aa,aJ,aN,hx,aE,show ((3:Int)==3)=true from rfl,show ((3:Int)==5)=false from rfl]
   rw [List.foldl_cons]
   have hs1:=vA r.2.1 s x
   have ih1:=ih (fY r.2.1 s x) (by omega)
   rw [← ih1]
   unfold fY bne
   have r1:∀ {R:Type} (q:Option R),rm (Ty.bytes aM) (s.length+1) q=q:=fun q=>bf (by omega) (by decide)
   simp only [r1]
   cases c1:(x.2.2.2.1.2.1==r.2.1) <;> cases c2:(x.2.2.2.1.1==3) <;> cases c3:(x.2.2.2.1.1==1) <;> cases c4:(x.2.2.2.1.1==2) <;> rfl
theorem vV {k:Nat} (hk:2 ^ 50≤k) {l:ah} {r:Ty.d ba} (hr:r.1=5) (hl:l.length≤1099511627775):dK.f k l r=some (bz l,()):=by
 unfold dK.f dK.t
 rw [hr]
 refine fe (L:=fun n i s=>dK.l0 k n l l.length i 5 r.2.1 r.2.2.1 r.2.2.2.1 r.2.2.2.2.1 r.2.2.2.2.2.1 s) (R:=fun q s=>some (q.foldl gg s,())) (Ty.z aM) l (fun i s=>(s.length:Int)≤i) (fun n s hs=>?_) (fun n i s x rest h0 h1 hx hr hp ih=>?_) (n:=k) (s:=[]) (by omega) (by decide)
 · simp (disch:=omega) only [dK.l0,dK.b0,aY,aJ,List.foldl_nil]
 · simp (disch:=omega) only [dK.l0,dK.b0,aV h1,aa,aJ,aN,hx,aE,show ((5:Int)==3)=false from rfl,show ((5:Int)==5)=true from rfl]
   rw [List.foldl_cons]
   have hs1:=vr s x
   have ih1:=ih (gg s x) (by omega)
   rw [← ih1]
   unfold gg
   have r1:∀ {R:Type} (q:Option R),rm (Ty.bytes aM) (s.length+1) q=q:=fun q=>bf (by omega) (by decide)
   simp only [r1]
   cases c1:(x.2.2.2.1.1==5) <;> cases c2:(x.2.2.2.1.1==4) <;> rfl
def AQ (p:Ty.d aM):Ty.d ba:=p.2.2.2.1
def jd (r:Ty.d ba) (own:ah):Bool:=(r.2.2.2.2.1==(own.length:Int))&&(r.2.2.2.2.2.1==Ez (own.map AQ))
theorem sG {k:Nat} (hk:2 ^ 50≤k) (r:Ty.d ba) {l:ah} (hl:l.length≤1073741823):gh.f k r l=some (jd r l,()):=by
 unfold gh.f gh.t
 refine (fe (L:=fun n i s=>gh.l0 k n l l.length i r.1 r.2.1 r.2.2.1 r.2.2.2.1 r.2.2.2.2.1 r.2.2.2.2.2.1 s) (R:=fun q s=>some ((r.2.2.2.2.1==((s++q.map AQ).length:Int))&&(r.2.2.2.2.2.1==Ez (s++q.map AQ)),())) (Ty.z aM) l (fun i s=>(s.length:Int)=i) (fun n s hs=>?_) (fun n i s x rest h0 h1 hx hr hp ih=>?_) (n:=k) (s:=[]) (by omega) (by decide)).trans (by rw [List.nil_append,List.length_map];rfl)
 · simp (disch:=omega) only [gh.l0,gh.b0,aY,aJ,List.map_nil,List.append_nil,qu hk,aX]
   cases (r.2.2.2.2.1==(s.length:Int)) <;> rfl
 · simp (disch:=first | omega | decide) only [gh.l0,gh.b0,aV,aa,aN,hx,bf,aE]
   refine (ih (s++[AQ x]) (by rw [d8];omega)).trans ?_
   simp only [List.map_cons,nw,List.cons_append,List.nil_append]
theorem ov {k:Nat} (hk:2 ^ 50≤k) {l:aS} (key:ByteArray) (hl:l.length≤1099511627775):cB.f k l key=some (lY l key,()):=by
 unfold cB.f cB.t
 refine (fe (L:=fun n i s=>cB.l0 k n key l l.length i s) (R:=fun r s=>some (s++lY r key,())) (Ty.z aB) l (fun i s=>(s.length:Int)≤i) (fun n s hs=>?_) (fun n i s x rest h0 h1 hx hr hp ih=>?_) (n:=k) (s:=[]) (by omega) (by decide)).trans (by rw [List.nil_append])
 · simp (disch:=omega) only [cB.l0,cB.b0,aY,aJ,lY,List.filter_nil,List.append_nil]
 · cases c:seq x.1 key with
   | true =>
    simp (disch:=first | omega | decide) only [cB.l0,cB.b0,aV,aa,aJ,aN,hx,c,fN,aE]
    refine (ih s (by omega)).trans ?_
    simp only [lY,List.filter_cons,c,fN,Bool.false_eq_true,if_false]
   | false =>
    simp (disch:=first | omega | decide) only [cB.l0,cB.b0,aV,aa,aN,hx,c,tR,bf,aE]
    refine (ih (s++[x]) (by rw [d8];omega)).trans ?_
    simp only [lY,List.filter_cons,c,tR,if_true,nw,List.cons_append,List.nil_append]
theorem tn {k:Nat} (hk:2 ^ 50≤k) {l:aS} (e:Ty.d aB) (hl:l.length≤1099511627775):dC.f k l e=some (rB l e,()):=by
 unfold dC.f dC.t rB
 rw [ov hk e.1 hl,aX]
 have hd:=qF l e.1
 simp only []
 generalize lY l e.1=r at *
 have cp:∀ q:aS,q.length≤1099511627775→cJ.f k q=some (q,()):=fun q hq=>by
  unfold cJ.f cJ.t
  rw [bf (by omega) (by decide)]
 have key:∀ (d j n:Nat),r.length-j=d→j≤r.length→d<n→dC.l0 k n (j:Int) e.1 e.2.1 e.2.2.1 e.2.2.2.1 e.2.2.2.2.1 r=some (r.take j++uE (r.drop j) e,()):=by
  intro d
  induction d with
  | zero =>
   intro j n hd hj hn
   obtain ⟨n,rfl⟩:∃ q,n=q+1:=⟨n-1,by omega⟩
   have:j=r.length:=by omega
   subst this
   simp (disch:=first | omega | (simp only [d8,List.length_take,List.length_drop];omega) | decide) only [dC.l0,dC.b0,aY,aJ,dL,rI,cp,aX,bf]
   rw [List.drop_length,uE]
   simp
  | succ d ih =>
   intro j n hd hj hn
   obtain ⟨n,rfl⟩:∃ q,n=q+1:=⟨n-1,by omega⟩
   have hlt:j<r.length:=by omega
   have e1:r.drop j=r.getD j (Ty.z aB)::r.drop (j+1):=by
    rw [List.drop_eq_getElem_cons hlt]
    simp [List.getD,hlt]
   cases c:Nf e.1 (r.getD j (Ty.z aB)) with
   | true =>
    have c':=c
    unfold Nf at c'
    have ih:=ih (j+1) n (by omega) (by omega) (by omega)
    simp (disch:=omega) only [dC.l0,dC.b0,aV,aa,aN,rI,c',aE]
    rw [show ((j:Int)+1)=((j+1:Nat):Int) by omega,ih,e1,mX (z:=Ty.z aB) hlt]
    unfold uE
    simp only [List.takeWhile_cons,List.dropWhile_cons,c,if_true,nw,List.cons_append,List.nil_append]
   | false =>
    have c':=c
    unfold Nf at c'
    simp (disch:=first | omega | (simp only [d8,List.length_take,List.length_drop];omega) | decide) only [dC.l0,dC.b0,aV,aa,aJ,aN,rI,c',dL,cp,aX,bf]
    rw [e1]
    unfold uE
    simp only [List.takeWhile_cons,List.dropWhile_cons,c,Bool.false_eq_true,if_false,nw,List.cons_append,List.nil_append]
 exact (key r.length 0 k (by omega) (by omega) (by omega)).trans (by rw [List.take_zero,List.drop_zero,List.nil_append])
def dV (p:Ty.d aM):Ty.d aB:=(p.2.2.2.1.2.2.1,(p.1,(p.2.1,(p.2.2.1,(p.2.2.2.1.2.1,())))))
def fy (d:aS) (p:Ty.d aM):aS:=bif p.2.2.2.1.1==2 then lY d p.2.2.2.1.2.2.1 else rB d (dV p)
def cV (d:aS) (own:ah):aS:=own.foldl fy d
theorem xc (d:aS) (p:Ty.d aM):(fy d p).length≤d.length+1:=by
 unfold fy
 have h1:=qF d p.2.2.2.1.2.2.1
 have h2:=KL d (dV p)
 cases p.2.2.2.1.1==2
 · rw [aJ];omega
 · rw [aa];omega
theorem zi:∀ (own:ah) (d:aS),(cV d own).length≤d.length+own.length
 | [],d=>Nat.le_refl _
 | p::own,d=>by
  have:=zi own (fy d p)
  have:=xc d p
  rw [cV,List.foldl_cons,jj]
  unfold cV at this
  simp only [cV] at *
  omega
def nf (d:aS) (code:Int):Int:=if d.length > 20 then 2 else code
theorem vD {k:Nat} (hk:2 ^ 50≤k) (g:Ty.d kH) {own:ah} (ho:own.length≤268435456) (hd:g.1.length≤268435456):cO.f k g own=some ((cV g.1 own,(g.2.1,(nf (cV g.1 own) g.2.2.1,()))),()):=by
 unfold cO.f cO.t
 refine fe (L:=fun n i (d:aS)=>cO.l0 k n own own.length i d g.2.1 g.2.2.1) (R:=fun q d=>some ((cV d q,(g.2.1,(nf (cV d q) g.2.2.1,()))),())) (Ty.z aM) own (fun i d=>(d.length:Int)≤268435456+i) (fun n d hs=>?_) (fun n i d x rest h0 h1 hx hr hp ih=>?_) (n:=k) (s:=g.1) (by omega) (by omega)
 · change _=some ((d,(g.2.1,(nf d g.2.2.1,()))),())
   simp (disch:=omega) only [cO.l0,cO.b0,aY (show ¬ ((own.length:Int)<(own.length:Int)) by omega),aJ,nf]
   by_cases c:d.length > 20
   · rw [aV (by omega),if_pos c];rfl
   · rw [aY (by omega),if_neg c];rfl
 · have hsd:=xc d x
   have ih:=ih (fy d x) (by omega)
   have e:fy d x=bif x.2.2.2.1.1==2 then lY d x.2.2.2.1.2.2.1 else rB d (dV x):=rfl
   simp (disch:=omega) only [cO.l0,cO.b0,aV h1,aa,aN,hx,ov hk,tn hk,aX,aE]
   rw [show cV d (x::rest)=cV (fy d x) rest from rfl,← ih,e]
   cases x.2.2.2.1.1==2 <;> rfl
def o_ (a b:Int):Int:=if a > b then a else b
def l_ (all:ah):ah→Nat→aS→Int→Int→Ty.d kH
 | [],_,d,last,code=>bif code==0&&decide ((bz all).length > 0) then (d,(last,(1,()))) else (d,(last,(code,())))
 | p::rest,i,d,last,code =>
  bif code != 0 then (d,(last,(code,()))) else
  bif p.2.2.2.1.1==3 then (bif jd p.2.2.2.1 (fO p.2.2.2.1.2.1 (all.take i)) then l_ all rest (i+1) (cV d (fO p.2.2.2.1.2.1 (all.take i))) (o_ p.2.2.2.1.2.1 last) (nf (cV d (fO p.2.2.2.1.2.1 (all.take i))) code)
   else l_ all rest (i+1) d (o_ p.2.2.2.1.2.1 last) code) else
  bif p.2.2.2.1.1==5 then (bif jd p.2.2.2.1 (bz (all.take i)) then l_ all rest (i+1) (cV d (bz (all.take i))) (o_ p.2.2.2.1.2.1 last) (nf (cV d (bz (all.take i))) code)
   else l_ all rest (i+1) d (o_ p.2.2.2.1.2.1 last) 1) else
  l_ all rest (i+1) d (o_ p.2.2.2.1.2.1 last) code
def iK (g:Ty.d kH) (l:ah):Ty.d kH:=l_ l l 0 g.1 g.2.1 g.2.2.1
def Lo (d:aS) (code:Int):Prop:=d.length≤268435456∧(code=0→d.length≤134217728)
theorem zo {d:aS} {own:ah} {code:Int} (h:Lo d 0) (ho:own.length≤134217728):Lo (cV d own) (nf (cV d own) code):=by
 have h1:=zi own d
 have h2:=h.2 rfl
 refine ⟨by omega,fun q=>?_⟩
 unfold nf at q
 split at q
 · cases q
 · omega
theorem MH {d:aS} (h:Lo d 0):Lo d 1:=⟨h.1,fun q=>by cases q⟩
theorem yY {k:Nat} (hk:2 ^ 50≤k) (g:Ty.d kH) {l:ah} (hl:l.length≤134217728) (hd:g.1.length≤134217728):db.f k g l=some (iK g l,()):=by
 unfold db.f db.t
 have cp:cJ.f k g.1=some (g.1,()):=by
  unfold cJ.f cJ.t
  rw [bf (by omega) (by decide)]
 rw [cp,aX]
 simp only []
 have key:=Oo (L:=fun n i (s:aS × Int × Int)=>db.l0 k n l l l.length i [] 0 0 s.1 s.2.1 s.2.2) (R:=fun (q:ah) s=>some (l_ l q (l.length-q.length) s.1 s.2.1 s.2.2,())) (Ty.z aM) l (fun i s=>Lo s.1 s.2.2) (fun n s hs=>?_) (fun n i s x rest h0 h1 hx hr hp ih=>?_) k 0 (g.1,(g.2.1,g.2.2.1)) (by omega) (by omega) (by omega) ⟨by simp only [];omega,fun _=>by simp only [];omega⟩
 · have e:l.drop (Int.toNat 0)=l:=rfl
   rw [e,Nat.sub_self] at key
   exact key
 · obtain ⟨d,last,code⟩:=s
   have hm:=vV hk (l:=l) (r:=(5,(0,(ByteArray.empty,(ByteArray.empty,(0,(0,()))))))) rfl (by omega)
   simp (disch:=omega) only [db.l0,db.b0,aY,aJ,l_,hm,aX]
   cases c1:(code==0)
   · rfl
   · by_cases c2:(bz l).length > 0
     · rw [aV (show ((bz l).length:Int) > 0 by omega),aV c2];rfl
     · rw [aY (show ¬ ((bz l).length:Int) > 0 by omega),aY c2];rfl
 · obtain ⟨d,last,code⟩:=s
   simp only [] at hp ih
   have hi:l.length-(x::rest).length=i.toNat:=by
    have:=congrArg List.length hr
    rw [List.length_drop] at this
    omega
   have hi2:l.length-rest.length=i.toNat+1:=by rw [jj] at hi;have:=congrArg List.length hr;rw [List.length_drop,jj] at this;omega
   have htk:(l.take i.toNat).length≤134217728:=by rw [List.length_take];omega
   have ih:=fun a b c h=>ih (a,(b,c)) h
   simp only [hi2] at ih
   rw [hi]
   simp (disch:=omega) only [db.l0,db.b0,aV h1,aa,aN,hx,aE,l_]
   by_cases c0:code=0
   case neg =>
    rw [show (code != 0)=true from bne_iff_ne.2 c0]
    rfl
   subst c0
   simp only [show ((0:Int) != 0)=false from rfl,aJ]
   by_cases c3:x.2.2.2.1.1=3
   · have b3:(x.2.2.2.1.1==3)=true:=by rw [c3];rfl
     have b3':(x.2.2.2.1.1 != 3)=false:=by rw [c3];rfl
     have b5:(x.2.2.2.1.1==5)=false:=by rw [c3];rfl
     have hlen:=FR x.2.2.2.1.2.1 (l.take i.toNat)
     simp only [b3,b3',b5,aa,aJ]
     rw [dL (by omega) (by omega),D_ hk c3 (by omega),aX]
     simp only []
     rw [sG hk _ (by omega),aX]
     cases c:jd x.2.2.2.1 (fO x.2.2.2.1.2.1 (l.take i.toNat)) with
     | true =>
      simp only [aa]
      rw [vD hk _ (by omega) (by simp only [];exact hp.1),aX]
      exact ih _ _ _ (zo hp (by omega))
     | false =>
      simp only [aJ]
      exact ih _ _ _ hp
   · have b3:(x.2.2.2.1.1==3)=false:=pz c3
     have b3':(x.2.2.2.1.1 != 3)=true:=bne_iff_ne.2 c3
     by_cases c5:x.2.2.2.1.1=5
     · have b5:(x.2.2.2.1.1==5)=true:=by rw [c5];rfl
       have b5':(x.2.2.2.1.1 != 5)=false:=by rw [c5];rfl
       have hlen:=Fx (l.take i.toNat)
       simp only [b3,b3',b5,b5',aa,aJ]
       rw [dL (by omega) (by omega),vV hk c5 (by omega),aX]
       simp only []
       rw [sG hk _ (by omega),aX]
       cases c:jd x.2.2.2.1 (bz (l.take i.toNat)) with
       | true =>
        simp only [aa]
        rw [vD hk _ (by omega) (by simp only [];exact hp.1),aX]
        exact ih _ _ _ (zo hp (by omega))
       | false =>
        simp only [aJ]
        exact ih _ _ _ (MH hp)
     · have b5:(x.2.2.2.1.1==5)=false:=pz c5
       have b5':(x.2.2.2.1.1 != 5)=true:=bne_iff_ne.2 c5
       simp only [b3,b3',b5,b5',aa,aJ]
       exact ih _ _ _ hp
theorem FB {lim lim':Int} (h:lim≤lim'):∀ (l:List Int) (p:Option Int),pR (qA lim) p l=true→pR (qA lim') p l=true
 | [],_,_=>rfl
 | x::l,p,q=>by
  simp only [pR,iA] at q ⊢
  refine ⟨?_,FB h l _ q.2⟩
  have q1:=q.1
  unfold qA at q1 ⊢
  rw [iA,decide_eq_true_eq] at q1 ⊢
  exact ⟨⟨q1.1.1,Int.le_trans q1.1.2 h⟩,q1.2⟩
theorem Fs {lim n:Int} (h1:1≤n) (h:lim<n):∀ (l:List Int) (p:Option Int),(∀ y,p=some y→y<n)→pR (qA lim) p l=true→pR (qA n) p (l++[n])=true
 | [],p,hp,_=>by
  simp only [List.nil_append,pR,Bool.and_true]
  unfold qA
  rw [iA,decide_eq_true_eq]
  refine ⟨⟨h1,Int.le_refl _⟩,?_⟩
  cases p with
  | none=>rfl
  | some y=>exact decide_eq_true (hp y rfl)
 | x::l,p,hp,q=>by
  simp only [pR,iA,List.cons_append] at q ⊢
  have q1:=q.1
  unfold qA at q1
  rw [iA,decide_eq_true_eq] at q1
  refine ⟨?_,Fs h1 h l _ (fun y e=>by cases e;exact Int.lt_of_le_of_lt q1.1.2 h) q.2⟩
  unfold qA
  rw [iA,decide_eq_true_eq]
  exact ⟨⟨q1.1.1,Int.le_of_lt (Int.lt_of_le_of_lt q1.1.2 h)⟩,q1.2⟩
theorem Jg {n:Int} {ids:List Int} (h:dl (n,(ids,()))=true) (hn:n<100000):dl (n+1,(ids,()))=true:=by
 obtain ⟨g1,g2,_⟩:=bm h
 unfold dl at h ⊢
 simp only [iA,decide_eq_true_eq] at h ⊢
 rw [aE (n:=n+1-1) (by omega) (by omega)]
 rw [aE (n:=n-1) (by omega) (by omega)] at h
 exact ⟨⟨show (1:Int)≤n+1 by omega,show n+1≤(100000:Int) by omega⟩,h.2.1,FB (by omega) _ _ h.2.2⟩
theorem Bd {n:Int} {ids:List Int} (h:dl (n,(ids,()))=true) (hn:n<100000) (hl:ids.length<60):dl (n+1,(ids++[n],()))=true:=by
 obtain ⟨g1,g2,_⟩:=bm h
 unfold dl at h ⊢
 simp only [iA,decide_eq_true_eq] at h ⊢
 rw [aE (n:=n+1-1) (by omega) (by omega)]
 rw [aE (n:=n-1) (by omega) (by omega)] at h
 refine ⟨⟨show (1:Int)≤n+1 by omega,show n+1≤(100000:Int) by omega⟩,⟨?_,?_⟩,?_⟩
 · rw [py,List.length_singleton];omega
 · rw [py,List.length_singleton];omega
 · rw [show n+1-1=n by omega]
   exact Fs g1 (by omega) _ _ (fun y e=>by cases e) h.2.2
def bR (st:Ty.d aD):ByteArray:=a_ aF (bj st.1.2.1)
theorem yd {st:Ty.d aD} (h:dl st.1=true):0≤aQ ((st.1.2.1.length:Int)-1)∧aQ ((st.1.2.1.length:Int)-1)<(st.1.2.1.length:Int)∧st.1.2.1.getD (aQ ((st.1.2.1.length:Int)-1)).toNat (Ty.z (.int .i64))=bj st.1.2.1:=by
 obtain ⟨_,_,h1,h2,_⟩:=bm (nx:=st.1.1) (ids:=st.1.2.1) h
 rw [aE (n:=(st.1.2.1.length:Int)-1) (by omega) (by omega)]
 refine ⟨by omega,by omega,?_⟩
 unfold bj
 rw [show ((st.1.2.1.length:Int)-1).toNat=st.1.2.1.length-1 by omega]
 rfl
theorem pu {k:Nat} {st:Ty.d aD} (h:dl st.1=true):bn.f k st=some (st,(bR st,())):=by
 obtain ⟨h1,h2,h3⟩:=yd h
 unfold bn.f bn.t bR
 rw [aN h1 h2,h3,cX,aX]
def tl (r:RD):RD:=(r.1,gQ r.2)
theorem oH (f:Ty.d aA→RD) (d:Ty.d aA):wk f (d,0)=tl (f d):=rfl
theorem pD {r:RD} (h:(r.2==0)=true):tl r=(r.1,0):=by
 unfold tl
 rw [C9 h]
 rfl
theorem lf (r:RD):((tl r).2 != 0)=(r.2 != 0):=by
 unfold tl bne
 rw [hZ]
def Kt (st:Ty.d aD):Ty.d aD:=((st.1.1+1,st.1.2),st.2)
def kZ (st:Ty.d aD):Ty.d ch:=(st.1.1+1,(st.1.2.1++[st.1.1],()))
def uC (st:Ty.d aD):Ty.d aD:=(kZ st,(st.2.1,(st.2.2.1,(0,st.2.2.2.2))))
def qY (nm:ByteArray) (r:RD):RD:=bif r.2==2 then ((bi [iH,nm] r.1).1,bif (bi [iH,nm] r.1).2==0 then 2 else gQ (bi [iH,nm] r.1).2) else r
def gu (st:Ty.d aD) (d:Ty.d aA):Ty.d aD × RD :=
 bif decide ((st.1.2.1.length:Int)≥60) then (st,(d,5)) else bif decide (st.1.1≥100000) then (st,(d,5)) else
 bif (dS d (bR st)).2 != 0 then (st,tl (dS d (bR st))) else
 bif (aw (a_ aF st.1.1) (dS d (bR st)).1).2 != 0 then (Kt st,tl (aw (a_ aF st.1.1) (dS d (bR st)).1)) else
 bif (bB (kZ st) (aw (a_ aF st.1.1) (dS d (bR st)).1).1).2 != 0 then (Kt st,qY (a_ aF st.1.1) (tl (bB (kZ st) (aw (a_ aF st.1.1) (dS d (bR st)).1).1)))
 else (uC st,((bB (kZ st) (aw (a_ aF st.1.1) (dS d (bR st)).1).1).1,0))
structure SR (st:Ty.d aD) (r:RD) (B:Int):Prop where
 live:dl st.1=true
 disk:DR r.1
 lo:LE.le (α:=Int) 0 st.2.2.2.1
 hi:LE.le (α:=Int) st.2.2.2.1 B
theorem HG (n:Int):(a_ aF n).size≤1000:=by
 unfold a_
 by_cases h:(1:Int)≤n∧n≤100000
 · rw [aV h,aa,ByteArray.size_append]
   have:=mw (n:=n) (by omega) (by omega)
   have:aF.size=3:=rfl
   omega
 · rw [aY h]
   exact Nat.zero_le _
theorem H3 {k:Nat} (hk:2 ^ 50≤k) {st:Ty.d aD} {d:Ty.d aA} (hl:dl st.1=true) (hd:DR d):fA.f k st (wO (d,0))=some ((gu st d).1,(wO (gu st d).2,())):=by
 obtain ⟨g1,g2,g3,g4,_⟩:=bm (nx:=st.1.1) (ids:=st.1.2.1) hl
 have hsz:=HG st.1.1
 unfold fA.f fA.t gu
 by_cases c1:(st.1.2.1.length:Int)≥60
 · rw [aV c1];rfl
 by_cases c2:st.1.1≥(100000:Int)
 · rw [aY c1,aV c2];rfl
 have c2':LT.lt (α:=Int) st.1.1 100000:=Int.not_le.1 c2
 rw [aY c1,aY c2]
 simp only [aJ]
 rw [pu hl,aX]
 simp only []
 rw [oK hk _ hd,aX,oH]
 simp only []
 have h1:=md hd (bR st)
 generalize dS d (bR st)=r1 at h1 ⊢
 rw [show (wO (tl r1)).2.1=(tl r1).2 from rfl,lf]
 cases c3:r1.2 != 0 with
 | true=>rfl
 | false =>
  simp only [aJ]
  rw [pD (r:=r1) (by unfold bne at c3;simpa using c3),cX,aX]
  simp only []
  rw [qa hk (r1.1,0) h1 (by omega),aX,oH]
  simp only []
  have h2:=j3 (a_ aF st.1.1) _ h1
  generalize aw (a_ aF st.1.1) r1.1=r2 at h2 ⊢
  have ew:aQ (st.1.1+1)=st.1.1+1:=aE (by omega) (by omega)
  rw [show (wO (tl r2)).2.1=(tl r2).2 from rfl,lf,ew]
  cases c4:r2.2 != 0 with
  | true=>rfl
  | false =>
   simp only [aJ]
   rw [pD (r:=r2) (by unfold bne at c4;simpa using c4)]
   have ec:dR.f k ((st.1.1+1,st.1.2):Ty.d ch)=some (((st.1.1+1,st.1.2):Ty.d ch),()):=by
    unfold dR.f dR.t
    rw [bf (by show st.1.2.1.length≤_;omega) (by decide)]
   rw [ec,aX]
   simp only []
   have hlen:(st.1.2.1++[st.1.1]).length≤1073741824:=by rw [py,List.length_singleton];omega
   rw [bf (by omega) (by decide),pc hk (r2.1,0) h2 (v:=(st.1.1+1,(st.1.2.1++[st.1.1],()))) hlen,aX,oH]
   simp only []
   have h3:=m3 (kZ st) _ h2
   rw [show ((st.1.1+1,(st.1.2.1++[st.1.1],())):Ty.d ch)=kZ st from rfl]
   generalize bB (kZ st) r2.1=r3 at h3 ⊢
   rw [show (wO (tl r3)).2.1=(tl r3).2 from rfl,lf]
   cases c5:r3.2 != 0 with
   | true =>
    simp only [aa]
    rw [aX,show (⟨#[116,101,109,112]⟩:ByteArray)=iH from rfl]
    simp only []
    rw [xh hk (tl r3) h3 (by simp),aX]
    rfl
   | false =>
    simp only [aJ]
    rw [pD (r:=r3) (by unfold bne at c5;simpa using c5)]
    rfl
theorem se {st:Ty.d aD} {d:Ty.d aA} (hl:dl st.1=true) (hd:DR d):dl (gu st d).1.1=true∧DR (gu st d).2.1∧(gu st d).1.2.1=st.2.1∧((gu st d).1.2.2.2.1=st.2.2.2.1∨(gu st d).1.2.2.2.1=0):=by
 unfold gu
 by_cases c1:(st.1.2.1.length:Int)≥60
 · rw [aV c1];exact ⟨hl,hd,rfl,.inl rfl⟩
 by_cases c2:st.1.1≥(100000:Int)
 · rw [aY c1,aV c2];exact ⟨hl,hd,rfl,.inl rfl⟩
 have c1':st.1.2.1.length<60:=by omega
 have c2':LT.lt (α:=Int) st.1.1 100000:=Int.not_le.1 c2
 have hn:dl (Kt st).1=true:=Jg (ids:=st.1.2.1) hl c2'
 have hg:dl (uC st).1=true:=Bd hl c2' c1'
 have h1:=md hd (bR st)
 have h2:=j3 (a_ aF st.1.1) _ h1
 have h3:=m3 (kZ st) _ h2
 rw [aY c1,aY c2]
 simp only [aJ]
 generalize dS d (bR st)=r1 at h1 h2 h3 ⊢
 generalize aw (a_ aF st.1.1) r1.1=r2 at h2 h3 ⊢
 generalize bB (kZ st) r2.1=r3 at h3 ⊢
 cases r1.2 != 0 with
 | true=>exact ⟨hl,h1,rfl,.inl rfl⟩
 | false =>
  cases r2.2 != 0 with
  | true=>exact ⟨hn,h2,rfl,.inl rfl⟩
  | false =>
   cases r3.2 != 0 with
   | true =>
    refine ⟨hn,?_,rfl,.inl rfl⟩
    simp only [aa,aJ]
    unfold qY
    cases (tl r3).2==2 with
    | true=>exact jv _ _ h3
    | false=>exact h3
   | false=>exact ⟨hg,h3,rfl,.inr rfl⟩
def Ij:Ty.d aM:=(0,(0,(0,((0,(0,(ByteArray.empty,(ByteArray.empty,(0,(0,())))))),()))))
def OT (st:Ty.d aD) (n:Int):Ty.d aD:=(st.1,(st.2.1,(st.2.2.1,(n,st.2.2.2.2))))
def iT (st:Ty.d aD) (d:Ty.d aA) (r:Ty.d ba):(Ty.d aD × RD) × Ty.d aM :=
 bif (jA d (bR st) (aT (aI r))).2 != 0 then ((st,tl (jA d (bR st) (aT (aI r)))),Ij)
 else ((OT st (st.2.2.2.1+ar r),((jA d (bR st) (aT (aI r))).1,0)),(bj st.1.2.1,(st.2.2.2.1,(ar r,(r,())))))
def eI (st:Ty.d aD) (d:Ty.d aA) (r:Ty.d ba):(Ty.d aD × RD) × Ty.d aM :=
 bif decide (st.2.2.2.1 > 0)&&decide (st.2.2.2.1+ar r > 200) then
  (bif (gu st d).2.2 != 0 then (gu st d,Ij) else iT (gu st d).1 (gu st d).2.1 r)
 else iT st d r
def gA (p:Ty.d aM):Ty.d ba:=p.2.2.2.1
theorem CG {st:Ty.d aD} {d:Ty.d aA} (hl:dl st.1=true) (hd:DR d) {B:Int} (h0:LE.le (α:=Int) 0 st.2.2.2.1) (h1:LE.le (α:=Int) st.2.2.2.1 B) (r:Ty.d ba) :
 SR (iT st d r).1.1 (iT st d r).1.2 (B+211)∧(iT st d r).1.1.2.1=st.2.1∧((iT st d r).1.2.2=0→gA (iT st d r).2=r):=by
 have hr:=mD r
 have ha:=qm hd (bR st) (aT (aI r))
 unfold iT
 generalize jA d (bR st) (aT (aI r))=a at ha ⊢
 cases c:a.2 != 0 with
 | true =>
  refine ⟨⟨hl,ha,h0,?_⟩,rfl,fun e=>?_⟩
  · show LE.le (α:=Int) st.2.2.2.1 (B+211)
    omega
  · have e:(tl a).2=0:=e
    have q:=lf a
    rw [e,c] at q
    cases q
 | false =>
  refine ⟨⟨hl,ha,?_,?_⟩,rfl,fun e=>rfl⟩
  · show LE.le (α:=Int) 0 (st.2.2.2.1+ar r)
    omega
  · show LE.le (α:=Int) (st.2.2.2.1+ar r) (B+211)
    omega
theorem w9 {st:Ty.d aD} {d:Ty.d aA} {B:Int} (h:SR st (d,0) B) (hB:0≤B) (r:Ty.d ba) :
 SR (eI st d r).1.1 (eI st d r).1.2 (B+211)∧(eI st d r).1.1.2.1=st.2.1∧((eI st d r).1.2.2=0→gA (eI st d r).2=r):=by
 obtain ⟨hl,hd,h0,h1⟩:=h
 unfold eI
 cases decide (st.2.2.2.1 > 0)&&decide (st.2.2.2.1+ar r > 200) with
 | false=>exact CG hl hd h0 h1 r
 | true =>
  obtain ⟨g1,g2,g3,g4⟩:=se hl hd
  generalize gu st d=q at g1 g2 g3 g4 ⊢
  have s0:LE.le (α:=Int) 0 q.1.2.2.2.1:=by rcases g4 with e | e <;> rw [e];exact h0;exact Int.le_refl _
  have s1:LE.le (α:=Int) q.1.2.2.2.1 B:=by rcases g4 with e | e <;> rw [e];exact h1;exact hB
  cases c:q.2.2 != 0 with
  | true =>
   refine ⟨⟨g1,g2,s0,?_⟩,g3,fun e=>?_⟩
   · show LE.le (α:=Int) q.1.2.2.2.1 (B+211)
     omega
   · have e:q.2.2=0:=e
     rw [e] at c
     cases c
  | false =>
   obtain ⟨k1,k2,k3⟩:=CG g1 g2 s0 s1 r
   exact ⟨k1,k2.trans g3,k3⟩
theorem A_ {k:Nat} (hk:2 ^ 50≤k) {st:Ty.d aD} {d:Ty.d aA} (hl:dl st.1=true) (hd:DR d) (r:Ty.d ba) (h0:LE.le (α:=Int) 0 st.2.2.2.1) (h1:LE.le (α:=Int) st.2.2.2.1 1099511627776) :
 ∃ e,((cD (aQ ((List.length st.1.2.1:Int)-1)) (List.length st.1.2.1:Int) ((bn.f k st).bind fun r4=>((cT.f k (wO (d,0)) r4.2.1 (aT (aI r))).bind fun r5=>(bif (r5.1.2.1==0) then
  (some ((r4.1.1,(r4.1.2.1,(r4.1.2.2.1,((aQ (r4.1.2.2.2.1+(ByteArray.size (aT (aI r)):Int))),r4.1.2.2.2.2)))),(r5.1,((r.2.2.1,((List.getD st.1.2.1 (Int.toNat (aQ ((List.length st.1.2.1:Int)-1))) (Ty.z (.int .i64))),(st.2.2.2.1,((ByteArray.size (aT (aI r)):Int),(r.2.1,()))))),()))))
  else (some (r4.1,(r5.1,((r.2.2.1,((List.getD st.1.2.1 (Int.toNat (aQ ((List.length st.1.2.1:Int)-1))) (Ty.z (.int .i64))),(st.2.2.2.1,((ByteArray.size (aT (aI r)):Int),(r.2.1,()))))),())))))))):fv.Rs) =
 some ((iT st d r).1.1,(wO (iT st d r).1.2,(e,())))∧((iT st d r).1.2.2=0→e=dV (iT st d r).2):=by
 obtain ⟨g1,g2,g3⟩:=yd hl
 have hr:=mD r
 have hz:((aT (aI r)).size:Int)=ar r:=rfl
 refine ⟨(r.2.2.1,(bj st.1.2.1,(st.2.2.2.1,(ar r,(r.2.1,()))))),?_,?_⟩
 · rw [aN g1 g2,pu hl,aX]
   simp only []
   rw [wv hk (d,0) hd (bR st) (t:=aT (aI r)) (by omega),aX,oH]
   unfold iT
   simp only []
   generalize jA d (bR st) (aT (aI r))=a
   rw [show (wO (tl a)).2.1=(tl a).2 from rfl,g3,hz]
   have q:=lf a
   unfold bne at q ⊢
   cases c:a.2==0 with
   | true =>
    rw [c] at q
    have q:((tl a).2==0)=true:=by simpa using q
    rw [q,pD c]
    simp only [aa,aJ,fN]
    rw [aE (by omega) (by omega)]
    rfl
   | false =>
    rw [c] at q
    have q:((tl a).2==0)=false:=by simpa using q
    rw [q]
    rfl
 · unfold iT
   generalize jA d (bR st) (aT (aI r))=a
   cases c:a.2 != 0 with
   | true =>
    intro e
    have e:(tl a).2=0:=e
    have q:=lf a
    rw [e,c] at q
    cases q
   | false=>exact fun _=>rfl
theorem GQ {k:Nat} (hk:2 ^ 50≤k) {st:Ty.d aD} {d:Ty.d aA} {B:Int} (h:SR st (d,0) B) (hB:0≤B) (hB':B≤1000000000) (r:Ty.d ba) :
 ∃ e,fv.f k st (wO (d,0)) r=some ((eI st d r).1.1,(wO (eI st d r).1.2,(e,())))∧((eI st d r).1.2.2=0→e=dV (eI st d r).2):=by
 obtain ⟨hl,hd,h0,h1⟩:=h
 have hr:=mD r
 have hz:((aT (aI r)).size:Int)=ar r:=rfl
 have own:=A_ (d:=d) hk hl hd r h0 (by omega)
 have e1:aQ (st.2.2.2.1+((aT (aI r)).size:Int))=st.2.2.2.1+ar r:=aE (by omega) (by omega)
 have hw:((wO (d,0)).2.1 != 0)=false:=rfl
 unfold fv.f fv.t
 rw [p5 hk,aX]
 simp only []
 rw [oG hk,aX]
 simp only []
 rw [hw]
 simp only [aJ]
 unfold eI
 rw [e1]
 by_cases c1:LT.lt (α:=Int) 0 st.2.2.2.1
 · rw [aV (show st.2.2.2.1 > 0 from c1)]
   simp only [Bool.true_and,aa]
   by_cases c2:LT.lt (α:=Int) 200 (st.2.2.2.1+ar r)
   · rw [aV (show st.2.2.2.1+ar r > 200 from c2)]
     simp only [aa]
     rw [H3 hk hl hd,aX]
     simp only []
     obtain ⟨g1,g2,g3,g4⟩:=se hl hd
     generalize gu st d=q at g1 g2 g3 g4 ⊢
     rw [show (wO q.2).2.1=q.2.2 from rfl]
     cases c:q.2.2 != 0 with
     | true =>
      refine ⟨_,rfl,fun e=>?_⟩
      have e:q.2.2=0:=e
      rw [e] at c
      cases c
     | false =>
      have s0:LE.le (α:=Int) 0 q.1.2.2.2.1:=by rcases g4 with e | e <;> rw [e];exact h0;exact Int.le_refl _
      have s1:LE.le (α:=Int) q.1.2.2.2.1 B:=by rcases g4 with e | e <;> rw [e];exact h1;exact hB
      have e2:wO q.2=wO (q.2.1,0):=by
       have:q.2.2=0:=by unfold bne at c;simpa using c
       show (q.2.1,(q.2.2,()))=(q.2.1,((0:Int),()))
       rw [this]
      simp only [aJ]
      rw [e2]
      exact A_ hk g1 g2 r s0 (by omega)
   · rw [aY (show ¬ st.2.2.2.1+ar r > 200 from c2)]
     simp only [aJ]
     exact own
 · rw [aY (show ¬ st.2.2.2.1 > 0 from c1)]
   simp only [Bool.false_and,aJ]
   exact own
def fT (d:Ty.d aA) (s:ByteArray):Option ByteArray:=(bS d.1 s).map (·.2.1)
theorem iV {d:Ty.d aA} (h:DR d) (s:ByteArray):(bG d s).1=(fT d s).getD ⟨#[]⟩:=by
 rw [m6 h]
 unfold fT
 cases bS d.1 s <;> rfl
theorem yD:∀ {l:bo} {f:Ty.d cE} {t:ByteArray},bS l f.1=none→bS (kc l f) t=bif seq f.1 t then some f else bS l t
 | [],f,t,_=>rfl
 | g::l,f,t,h=>by
  unfold bS at h
  cases c:seq g.1 f.1 with
  | true=>rw [c] at h;cases h
  | false =>
   rw [c,aJ] at h
   unfold kc
   cases nT f.1 g.1 with
   | true=>rfl
   | false =>
    simp only [aJ]
    rw [bS.eq_2,yD h,bS.eq_2]
    by_cases q:f.1=t
    · rw [q] at c ⊢
      rw [c,bZ]
      rfl
    · rw [kE q]
      rfl
theorem yt {l:bo} {f:Ty.d cE} {t:ByteArray} (h:f.1≠t):bS (kc l f) t=bS l t:=by
 induction l with
 | nil=>unfold kc;rw [bS.eq_2,kE h];rfl
 | cons g l ih =>
  unfold kc
  cases nT f.1 g.1 with
  | true=>rw [aa,bS.eq_2,kE h,aJ]
  | false=>rw [aJ,bS.eq_2,ih,bS.eq_2]
theorem vo {d:Ty.d aA} {g:bo→Int→bo × Int} {t:ByteArray} (h:∀ l c,(bS (g l c).1 t).map (·.2.1)=(bS l t).map (·.2.1)):fT (i_ d g).1 t=fT d t:=by
 unfold i_ fT
 cases (li d).2 != 0 with
 | true=>rw [aa,zQ]
 | false=>exact h d.1 d.2.1
theorem Lv {d:Ty.d aA} {s t:ByteArray} (h:s≠t):fT (qX d s).1 t=fT d t:=vo fun l c=>by
 unfold tN
 cases !j9 s with
 | true=>rfl
 | false =>
  cases (bS l s).isSome with
  | true=>rfl
  | false =>
   cases decide ((l.length:Int)≥130) with
   | true=>rfl
   | false =>
    show (bS (kc l (s,(ByteArray.empty,(0,())))) t).map _=_
    rw [yt (f:=(s,(ByteArray.empty,(0,())))) h]
theorem uA {d:Ty.d aA} {s t x:ByteArray} (h:s≠t):fT (jA d s x).1 t=fT d t:=vo fun l c=>by
 unfold yZ
 cases (bS l s).isNone with
 | true=>rfl
 | false =>
  cases decide ((x.size:Int) > aQ (c-(di l:Int))) with
  | true=>rfl
  | false =>
   show (bS (ky (fun f=>(f.1,(f.2.1++x,f.2.2))) l s) t).map _=_
   rw [sj (h:=fun f:Ty.d cE=>(f.1,(f.2.1++x,f.2.2))) (fun f=>rfl),kE (fun q=>h q.symm)]
   rfl
theorem kp {d:Ty.d aA} {s t:ByteArray}:fT (dS d s).1 t=fT d t:=vo fun l c=>by
 unfold va
 cases (bS l s).isNone with
 | true=>rfl
 | false =>
  show (bS (ky (fun f=>(f.1,(f.2.1,((f.2.1.size:Int),f.2.2.2)))) l s) t).map _=_
  rw [sj (h:=fun f:Ty.d cE=>(f.1,(f.2.1,((f.2.1.size:Int),f.2.2.2)))) (fun f=>rfl)]
  by_cases q:t=s
  · rw [q,bZ]
    cases bS l s <;> rfl
  · rw [kE q]
    rfl
theorem PI {d:Ty.d aA} {s t:ByteArray} (h:s≠t):fT (xw d s).1 t=fT d t:=vo fun l c=>by
 unfold uN
 cases (bS l s).isNone with
 | true=>rfl
 | false =>
  show (bS (gR l s) t).map _=_
  rw [yP (fun q=>h q.symm)]
theorem P2 {d:Ty.d aA} {a b t:ByteArray} (h1:a≠t) (h2:b≠t):fT (wB d a b).1 t=fT d t:=vo fun l c=>by
 unfold uf
 cases !j9 b with
 | true=>rfl
 | false =>
  simp only [aJ]
  cases bS l a with
  | none=>rfl
  | some f =>
   cases seq a b with
   | true=>rfl
   | false =>
    show (bS (kc (gR (gR l a) b) (b,f.2)) t).map _=_
    rw [yt (f:=(b,f.2)) h2,yP (fun q=>h2 q.symm),yP (fun q=>h1 q.symm)]
theorem qk {d:Ty.d aA} {s x:ByteArray}:fT (jA d s x).1 s=bif (jA d s x).2==0 then (fT d s).map (·++x) else fT d s:=by
 unfold jA i_ fT
 cases c:(li d).2 != 0 with
 | true =>
  rw [aa,zQ]
  have:((li d).2==0)=false:=by unfold bne at c;simpa using c
  rw [this]
  rfl
 | false =>
  simp only [aJ]
  unfold yZ
  cases c1:bS d.1 s with
  | none=>simp only [Option.isNone_none,aa];rw [c1];rfl
  | some f =>
   simp only [Option.isNone_some,aJ]
   cases decide ((x.size:Int) > aQ (d.2.1-(di d.1:Int))) with
   | true=>simp only [aa];rw [c1];rfl
   | false =>
    simp only [aJ]
    rw [sj (h:=fun f:Ty.d cE=>(f.1,(f.2.1++x,f.2.2))) (fun f=>rfl),bZ,c1]
    rfl
theorem pN {r:RD} {f:Ty.d aA→RD} {t:ByteArray} {x:Option ByteArray} (h1:fT r.1 t=x) (h2:∀ y,fT (f y).1 t=fT y t):fT (eW r f).1 t=x:=by
 unfold eW
 cases r.2==0 with
 | true=>exact (h2 _).trans h1
 | false=>exact h1
theorem Dn {d:Ty.d aA} {s t:ByteArray} (h:s≠t):fT (gF s d).1 t=fT d t:=by
 unfold gF
 cases (bS d.1 s).isSome with
 | true=>exact PI h
 | false=>rfl
theorem lI {d:Ty.d aA} {s t:ByteArray} (h:s≠t):fT (aw s d).1 t=fT d t:=pN (Dn h) fun y=>Lv h
theorem Cx {d:Ty.d aA} {s t x:ByteArray} (h:s≠t):fT (kv s x d).1 t=fT d t:=pN (pN (lI h) fun y=>uA h) fun y=>kp
theorem fb {d:Ty.d aA} {v:Ty.d ch} {t:ByteArray} (h1:iH≠t) (h2:gP≠t):fT (bB v d).1 t=fT d t:=pN (Cx h1) fun y=>P2 h1 h2
theorem oi {t:ByteArray}:∀ (l:List ByteArray) (d:Ty.d aA),(∀ s ∈ l,s≠t)→fT (bi l d).1 t=fT d t
 | [],_,_=>rfl
 | s::l,d,h=>by
  show fT (eW (gF s d) (bi l)).1 t=_
  exact pN (Dn (h s ii)) fun y=>oi l y fun q hq=>h q (kR _ hq)
def d5:jM→Ty.d aD→Ty.d aA→ah→(Ty.d aD × RD) × ah
 | [],st,d,ps=>((st,(d,0)),ps)
 | r::l,st,d,ps=>bif (eI st d r).1.2.2 != 0 then ((eI st d r).1,ps) else d5 l (eI st d r).1.1 (eI st d r).1.2.1 (ps++[(eI st d r).2])
def Qe (st:Ty.d aD) (dir:aS):Ty.d aD:=(st.1,(dir,st.2.2))
def xx (n:Nat) (q:(Ty.d aD × RD) × ah):Ty.d aD × RD :=
 bif q.1.2.2 != 0 then q.1 else bif (dS q.1.2.1 (bR q.1.1)).2 != 0 then (q.1.1,tl (dS q.1.2.1 (bR q.1.1))) else (Qe q.1.1 (cV q.1.1.2.1 (q.2.take n)),((dS q.1.2.1 (bR q.1.1)).1,0))
def kz (st:Ty.d aD):Ty.d aD:=(st.1,(st.2.1,(st.2.2.1+1,st.2.2.2)))
def cN (st:Ty.d aD) (d:Ty.d aA) (l:fC):Ty.d aD × RD:=xx l.length (d5 (dT l st.2.2.1) (kz st) d [])
theorem uX:∀ (l:jM) (st:Ty.d aD) (d:Ty.d aA) (ps:ah) (B:Int),SR st (d,0) B→0≤B →
 SR (d5 l st d ps).1.1 (d5 l st d ps).1.2 (B+211*(l.length:Int))∧(d5 l st d ps).1.1.2.1=st.2.1∧((d5 l st d ps).1.2.2=0→(d5 l st d ps).2.map gA=ps.map gA++l)
 | [],st,d,ps,B,h,_=>⟨⟨h.live,h.disk,h.lo,by have:=h.hi;show LE.le (α:=Int) st.2.2.2.1 _;rw [List.length_nil];omega⟩,rfl,fun _=>(List.append_nil _).symm⟩
 | r::l,st,d,ps,B,h,hB=>by
  obtain ⟨g1,g2,g3⟩:=w9 h hB r
  unfold d5
  have el:((r::l).length:Int)=(l.length:Int)+1:=by rw [jj];omega
  cases c:(eI st d r).1.2.2 != 0 with
  | true =>
   refine ⟨⟨g1.live,g1.disk,g1.lo,?_⟩,g2,fun e=>?_⟩
   · have:=g1.hi
     show LE.le (α:=Int) (eI st d r).1.1.2.2.2.1 _
     omega
   · have e:(eI st d r).1.2.2=0:=e
     rw [e] at c
     cases c
  | false =>
   have e0:(eI st d r).1.2.2=0:=by unfold bne at c;simpa using c
   obtain ⟨k1,k2,k3⟩:=uX l (eI st d r).1.1 (eI st d r).1.2.1 (ps++[(eI st d r).2]) (B+211) ⟨g1.live,g1.disk,g1.lo,g1.hi⟩ (by omega)
   refine ⟨⟨k1.live,k1.disk,k1.lo,?_⟩,k2.trans g2,fun e=>?_⟩
   · have:=k1.hi
     show LE.le (α:=Int) (d5 l (eI st d r).1.1 (eI st d r).1.2.1 (ps++[(eI st d r).2])).1.1.2.2.2.1 _
     omega
   · have:=k3 e
     show (d5 l (eI st d r).1.1 (eI st d r).1.2.1 (ps++[(eI st d r).2])).2.map gA=_
     rw [this,List.map_append,List.map_singleton,g3 e0,nw]
     rfl
def ny:aS→fC→aS→aS
 | dir,[],_=>dir
 | dir,_::_,[]=>dir
 | dir,p::l,e::es=>ny (bif p.2.1 then lY dir p.1 else rB dir e) l es
theorem og (dir:aS) (es:aS):ny dir [] es=dir:=by cases es <;> rfl
theorem uH (b:Int):∀ (l:fC) (ps:ah) (q:jM) (dir:aS),ps.map gA=l.map (gW b)++q→ny dir l (ps.map dV)=cV dir (ps.take l.length)
 | [],ps,q,dir,h=>by rw [List.length_nil,List.take_zero,og];rfl
 | x::l,[],q,dir,h=>by cases h
 | x::l,p::ps,q,dir,h=>by
  rw [List.map_cons,List.map_cons,List.cons_append] at h
  injection h with h1 h2
  rw [List.map_cons,jj,List.take_succ_cons]
  unfold ny cV
  rw [List.foldl_cons,uH b l ps q _ h2]
  unfold cV
  congr 1
  unfold fy
  rw [show p.2.2.2.1=gW b x from h1]
  unfold gW
  cases x.2.1 <;> rfl
def wQ (p:Ty.d aW):Ty.d aB:=(p.1,(0,(0,(0,(0,())))))
def nn (dir:aS) (l:fC):Int:=((ny dir l (l.map wQ)).length:Int)
theorem Mn (l:aS) (e:Ty.d aB):(rB l e).length≤l.length+1:=by
 unfold rB
 rw [FW]
 have:=qF l e.1
 omega
theorem Bb {k:Nat} (hk:2 ^ 50≤k) {l:fC} (hl:l.length≤1000) {es:aS} (he:l.length≤es.length) {L:Nat→Int→aS→fz.Rs}
 (hL:∀ n i s,L (n+1) i s=bif decide (i<(l.length:Int)) then cD i (l.length:Int) (bif (l.getD i.toNat (Ty.z aW)).2.1 then ((cB.f k s (l.getD i.toNat (Ty.z aW)).1).bind fun r=>L n (aQ (i+1)) r.1) else
  (cD i (es.length:Int) ((dC.f k s (es.getD i.toNat (Ty.z aB))).bind fun r=>L n (aQ (i+1)) r.1))) else some (s,()))
 (n:Nat) (i:Int) (s:aS) (h0:0≤i) (h1:i≤(l.length:Int)) (h2:(l.length:Int)-i<n) (hs:(s.length:Int)≤536870912+i):L n i s=some (ny s (l.drop i.toNat) (es.drop i.toNat),()):=by
 refine MO (L:=L) (R:=fun i s=>some (ny s (l.drop i.toNat) (es.drop i.toNat),())) (l.length:Int) (fun i s=>(s.length:Int)≤536870912+i) (fun n s hs=>?_) (fun n i s h0 h1 hp ih=>?_) n i s h0 h1 h2 hs
 · rw [hL,aY (by omega),aJ,Int.toNat_natCast,List.drop_length,og]
 · have hi:i.toNat<l.length:=by omega
   have hj:i.toNat<es.length:=by omega
   have e1:l.drop i.toNat=l.getD i.toNat (Ty.z aW)::l.drop (i+1).toNat:=by
    rw [List.drop_eq_getElem_cons hi,show (i+1).toNat=i.toNat+1 by omega]
    simp [List.getD,hi]
   have e2:es.drop i.toNat=es.getD i.toNat (Ty.z aB)::es.drop (i+1).toNat:=by
    rw [List.drop_eq_getElem_cons hj,show (i+1).toNat=i.toNat+1 by omega]
    simp [List.getD,hj]
   rw [hL,aV h1,aa,aN h0 h1,e1,e2]
   simp only [ny]
   generalize l.getD i.toNat (Ty.z aW)=x
   generalize es.getD i.toNat (Ty.z aB)=e
   rw [aE (n:=i+1) (by omega) (by omega),aN h0 (by omega)]
   cases c:x.2.1 with
   | true =>
    have:=qF s x.1
    simp only [aa]
    rw [ov hk x.1 (by omega),aX]
    exact ih (lY s x.1) (by omega)
   | false =>
    have:=Mn s e
    simp only [aJ]
    rw [tn hk e (by omega),aX]
    exact ih (rB s e) (by omega)
theorem G0 {k:Nat} (hk:2 ^ 50≤k) {dir:aS} (hd:dir.length≤536870912) {l:fC} (hl:l.length≤1000) {es:aS} (he:l.length≤es.length):ga.f k dir l es=some (ny dir l es,()):=by
 unfold ga.f ga.t
 exact Bb hk hl he (L:=fun n i s=>ga.l0 k n es l l.length i s) (fun n i s=>rfl) k 0 dir (by omega) (by omega) (by omega) (by omega)
theorem EV {k:Nat} (hk:2 ^ 50≤k) {dir:aS} (hd:dir.length≤536870912) {l:fC} (hl:l.length≤1000) {es:aS} (he:l.length≤es.length):fz.f k dir l es=some (ny dir l es,()):=by
 obtain ⟨q,hq⟩:∃ q,k=q+1:=⟨k-1,by omega⟩
 have k1:=Bb hk hl he (L:=fun n i s=>fz.l1 k n es l l.length i s) (fun n i s=>rfl) (q+1) 0 dir (by omega) (by omega) (by omega) (by omega)
 unfold fz.f fz.t
 refine Eq.trans ?_ k1
 rw [show fz.l0 k k=fz.l0 k (q+1) by rw [← hq]]
 rfl
theorem E6 {k:Nat} (hk:2 ^ 50≤k) {dir:aS} (hd:dir.length≤536870912) {l:fC} (hl:l.length≤1000):eP.f k dir l=some (nn dir l,()):=by
 unfold eP.f eP.t nn
 refine (fe (L:=fun n i (s:aS)=>eP.l0 k n dir l l l.length i s) (R:=fun r s=>if (s++r.map wQ).length=l.length then some (((ny dir l (s++r.map wQ)).length:Int),()) else none) (Ty.z aW) l (fun i s=>(s.length:Int)=i) (fun n s hs=>?_) (fun n i s x rest h0 h1 hx hr hp ih=>?_) (n:=k) (s:=[]) (by omega) rfl).trans ?_
 · simp (disch:=omega) only [eP.l0,eP.b0,aY,aJ]
   rw [EV hk hd hl (by omega),aX,List.map_nil,List.append_nil,if_pos (by omega)]
 · simp (disch:=first | omega | decide) only [eP.l0,eP.b0,aV,aa,aN,hx,bf,aE]
   refine (ih (s++[wQ x]) (by rw [py,List.length_singleton];omega)).trans ?_
   rw [nw]
   rfl
 · rw [List.nil_append,if_pos (List.length_map ..)]
theorem f8 {c:Int} (h:(c != 0)=false):c=0:=by unfold bne at h;simpa using h
theorem Jn (l:fC) (b:Int):(dT l b).length=l.length+1:=by unfold dT;rw [py,List.length_map];rfl
theorem D9 {k:Nat} (hk:2 ^ 50≤k) {st:Ty.d aD} {d:Ty.d aA} {l:fC} (h:SR st (d,0) 100000) (hb0:LE.le (α:=Int) 0 st.2.2.1) (hb:LE.le (α:=Int) st.2.2.1 1000000) (hp:dN l=true) (hd:st.2.1.length≤20) :
 cA.f k st (wO (d,0)) l=some ((cN st d l).1,(wO (cN st d l).2,())):=by
 have hl:=nI hp
 unfold cA.f cA.t cN
 rw [wV hk (by omega),aX]
 simp only []
 rw [aE (n:=st.2.2.1+1) (by omega) (by omega)]
 have hrl:=Jn l st.2.2.1
 have hre:dT l st.2.2.1=l.map (gW st.2.2.1)++[gp 3 st.2.2.1 (l.map (gW st.2.2.1))]:=rfl
 generalize dT l st.2.2.1=rs at hrl hre ⊢
 refine fe (L:=fun n i (s:(Ty.d aD × Ty.d aA) × ah)=>cA.l0 k n l rs.length i s.1.1.1.2.1 s.1.1.2.1 s.1.1.1.1 s.1.1.2.2.1 s.1.1.2.2.2.1 s.1.1.2.2.2.2.1 s.1.2.1 s.1.2.2.1 s.1.2.2.2.1 s.1.2.2.2.2.1 0 (s.2.map dV) rs)
  (R:=fun r s=>(some ((xx l.length (d5 r s.1.1 s.1.2 s.2)).1,(wO (xx l.length (d5 r s.1.1 s.1.2 s.2)).2,())):cA.Rs))
  (Ty.z ba) rs (fun i s=>SR s.1.1 (s.1.2,0) (100000+211*i)∧s.2.map gA=rs.take i.toNat∧s.1.1.2.1.length≤20) (fun n s hs=>?_) (fun n i s x rest h0 h1 hx hr hs ih=>?_) (n:=k) (s:=((kz st,d),[])) (by omega) ⟨⟨h.live,h.disk,h.lo,Int.le_trans h.hi (by decide)⟩,rfl,hd⟩
 · obtain ⟨⟨st',d'⟩,ps⟩:=s
   obtain ⟨g1,g2,g3⟩:=hs
   simp only [] at g1 g2 g3 ⊢
   rw [Int.toNat_natCast,List.take_length] at g2
   have hps:ps.length=rs.length:=by simpa using congrArg List.length g2
   simp only [cA.l0,cA.b0]
   rw [aY (by omega),aJ,show ((st'.1.1,(st'.1.2.1,())),(st'.2.1,(st'.2.2.1,(st'.2.2.2.1,(st'.2.2.2.2.1,())))))=st' from rfl,pu g1.live,aX]
   simp only []
   rw [show ((d'.1,(d'.2.1,(d'.2.2.1,(d'.2.2.2.1,())))),((0:Int),()))=wO (d',0) from rfl,oK hk (d',0) g1.disk,aX,oH]
   unfold xx d5
   simp only [show ((0:Int) != 0)=false from rfl,aJ]
   generalize dS d' (bR st')=y
   have q:=lf y
   rw [show (wO (tl y)).2.1=(tl y).2 from rfl]
   cases c:y.2 != 0 with
   | true =>
    rw [c] at q
    have q:((tl y).2==0)=false:=by unfold bne at q;simpa using q
    rw [q]
    rfl
   | false =>
    rw [c] at q
    have q:((tl y).2==0)=true:=by unfold bne at q;simpa using q
    rw [q]
    simp only [aa,aJ]
    rw [G0 hk (by omega) (by omega) (by rw [List.length_map];omega),aX,uH st.2.2.1 l ps [gp 3 st.2.2.1 (l.map (gW st.2.2.1))] st'.2.1 (g2.trans hre),pD (r:=y) (by unfold bne at c;simpa using c)]
    rfl
 · obtain ⟨⟨st',d'⟩,ps⟩:=s
   obtain ⟨g1,g2,g3⟩:=hs
   simp only [] at g1 g2 g3 ih ⊢
   have hi:i.toNat<rs.length:=by omega
   have et:rs.take (i+1).toNat=rs.take i.toNat++[x]:=by
    rw [show (i+1).toNat=i.toNat+1 by omega,List.take_succ_eq_append_getElem hi]
    congr 2
    rw [← hx]
    simp [List.getD,hi]
   have hps:ps.length≤rs.length:=by
    have:=congrArg List.length g2
    rw [List.length_map,List.length_take] at this
    omega
   obtain ⟨k1,k2,k3⟩:=w9 g1 (by omega) x
   obtain ⟨e,he1,he2⟩:=GQ hk g1 (by omega) (by omega) x
   simp only [cA.l0,cA.b0,d5]
   rw [aV h1,aa,aN h0 h1,hx,show ((st'.1.1,(st'.1.2.1,())),(st'.2.1,(st'.2.2.1,(st'.2.2.2.1,(st'.2.2.2.2.1,())))))=st' from rfl,show ((d'.1,(d'.2.1,(d'.2.2.1,(d'.2.2.2.1,())))),((0:Int),()))=wO (d',0) from rfl,he1,aX]
   simp only []
   have hk1:=k1.hi
   generalize eI st' d' x=q at k1 k2 k3 hk1 he2 ⊢
   rw [show (wO q.1.2).2.1=q.1.2.2 from rfl]
   cases c:q.1.2.2 != 0 with
   | true =>
    simp only [aa]
    unfold xx
    simp only [c,aa]
   | false =>
    simp only [aJ]
    have z:=f8 c
    have q3:=k3 z
    rw [bf (by rw [List.length_map];omega) (by decide),aE (n:=i+1) (by omega) (by omega),he2 z]
    have e1:(ps++[q.2]).map dV=ps.map dV++[dV q.2]:=by rw [List.map_append,List.map_singleton]
    have ih:=ih ((q.1.1,q.1.2.1),ps++[q.2]) ⟨⟨k1.live,k1.disk,k1.lo,by show LE.le (α:=Int) q.1.1.2.2.2.1 _;omega⟩,by simp only [];rw [List.map_append,List.map_singleton,q3,g2,et],by simp only [];rw [k2];exact g3⟩
    simp only [] at ih
    rw [e1] at ih
    rw [show (wO q.1.2).1=q.1.2.1 from rfl,z]
    exact ih
noncomputable def pG (st:Ty.d aD) (d:Ty.d aA) (l:fC):Ty.d aD × RD :=
 bif !dj st d then (st,(d,4)) else bif !dN l then (st,(d,4)) else bif (l.length:Int)==0 then (st,(d,0)) else bif decide (nn st.2.1 l > 20) then (st,(d,5)) else
 bif decide (st.2.2.1 > 1000000) then (st,(d,5)) else cN st d l
theorem CH {d:Ty.d aA} {tail:Int}:∀ {l:List Int},l≠[]→pf d tail l=true→∃ x,tail=((bG d (a_ aF x)).1.size:Int)
 | [],h,_=>absurd rfl h
 | [x],_,h=>by
  unfold pf IE at h
  simp only [iA,List.isEmpty_nil,fN,Bool.false_or] at h
  exact ⟨x,C9 h.1.2.2⟩
 | x::y::l,_,h=>by
  unfold pf at h
  rw [iA] at h
  exact CH (by intro q;cases q) h.2
theorem dM {st:Ty.d aD} {d:Ty.d aA} (h:dj st d=true):SR st (d,0) 100000∧st.2.1.length≤20∧LE.le (α:=Int) 1 st.2.2.1:=by
 unfold dj tL at h
 simp only [iA,decide_eq_true_eq] at h
 obtain ⟨h1,h2,⟨h3,_⟩,h4,h5,_⟩:=h
 obtain ⟨_,_,g1,_,_⟩:=bm (nx:=st.1.1) (ids:=st.1.2.1) h2
 have hd:=jL.1 h1
 obtain ⟨x,hx⟩:=CH (by intro q;rw [q] at g1;simp at g1) h5
 have hs:=lA d (a_ aF x)
 have hu:=hd.use
 have hc:=hd.cap1
 refine ⟨⟨h2,hd,?_,?_⟩,by omega,h4.1⟩
 · show LE.le (α:=Int) 0 st.2.2.2.1
   rw [hx]
   omega
 · show LE.le (α:=Int) st.2.2.2.1 100000
   rw [hx]
   have:LE.le (α:=Int) (di d.1) 100000:=Int.le_trans hu hc
   omega
theorem Ap {k:Nat} (hk:2 ^ 50≤k) {st:Ty.d aD} {d:Ty.d aA} (hd:ED d) (h1:st.1.2.1.length≤1073741824) (h2:st.2.1.length≤536870912) {l:fC} (hl:l.length≤1073741824) :
 jP.f k st d l=some ((pG st d l).1,((pG st d l).2.1,((pG st d l).2.2,()))):=by
 have ec:cM.f k st=some (st,()):=by
  unfold cM.f cM.t dR.f dR.t
  rw [bf (by omega) (by decide),aX]
  unfold cJ.f cJ.t
  rw [bf (by omega) (by decide),aX]
 unfold jP.f jP.t pG
 rw [ec,aX]
 simp only []
 rw [gV k hd.l,aX]
 simp only []
 rw [ub hk hd (by omega) (by omega),aX]
 simp only []
 cases c1:dj st d with
 | false=>rfl
 | true =>
  simp only [fN,aJ]
  rw [BB hk (by omega),aX]
  simp only []
  cases c2:dN l with
  | false=>rfl
  | true =>
   have h8:=nI c2
   obtain ⟨g1,g2,g3⟩:=dM c1
   simp only [fN,aJ]
   cases c3:(l.length:Int)==0 with
   | true=>rfl
   | false =>
    simp only [aJ]
    rw [E6 hk (by omega) (by omega),aX]
    simp only []
    cases c4:decide (nn st.2.1 l > 20) with
    | true=>rfl
    | false =>
     simp only [aJ]
     by_cases c5:st.2.2.1 > (1000000:Int)
     · rw [aV c5];rfl
     · rw [aY c5]
       simp only [aJ]
       rw [show ((d,((0:Int),())):Ty.d an)=wO (d,0) from rfl,D9 hk g1 (Int.le_trans (by decide) g3) (Int.not_lt.1 c5) c2 g2,aX]
       rfl
theorem Do {a b:Ty.d ch} (ha:dl a=true) (hb:dl b=true) (h:c_ a=c_ b):a=b:=by
 have h1:=oT (k:=2 ^ 50) (Nat.le_refl _) (nx:=a.1) (ids:=a.2.1) ha
 have h2:=oT (k:=2 ^ 50) (Nat.le_refl _) (nx:=b.1) (ids:=b.2.1) hb
 have e:c_ (a.1,(a.2.1,()))=c_ (b.1,(b.2.1,())):=h
 rw [e,h2] at h1
 have h3:=Option.some.inj h1
 exact ((Prod.mk.inj h3).1).symm
theorem B4 {v:Ty.d ch} (h:dl v=true):lP (c_ v)=(v,true):=Ch (fun a b ha hb=>Do ha hb) h
theorem vw {p:ByteArray} (hp:p=aF∨p=bM) {n:Int} (h0:1≤n) (h1:n≤100000):Mi (a_ p n)=(n,true):=by
 have e:a_ p n=p++jl n:=by unfold a_;rw [aV ⟨h0,h1⟩];rfl
 have hn:Po (p++jl n) n:=⟨h0,h1,by rcases hp with q | q <;> rw [q] <;> simp⟩
 rw [e]
 rcases nF (Po (p++jl n)) (fun _=>p++jl n) (0:Int) (p++jl n) with ⟨r,g1,_,g3⟩ | g
 · unfold Mi
   rw [g3,NF g1 hn]
 · exfalso
   unfold pg at g
   rw [dif_pos ⟨n,hn,rfl⟩] at g
   cases (Prod.mk.inj g).2
def Pn (d:Ty.d aA) (s:ByteArray):Nat:=((fT d s).getD ⟨#[]⟩).size
def tM (d:Ty.d aA) (ids:List Int):Nat:=(ids.map fun x=>Pn d (a_ aF x)).sum
def tQ:aS→Int
 | []=>0
 | e::l=>e.2.2.2.1+tQ l
theorem pq {x y:Int} (hx:1≤x∧x≤100000) (hy:1≤y∧y≤100000) (h:x≠y):a_ aF x≠a_ aF y:=fun q=>by
 have e1:=vw (.inl rfl) hx.1 hx.2
 have e2:=vw (.inl rfl) hy.1 hy.2
 rw [q,e2] at e1
 injection e1 with e1 _
 exact h e1.symm
theorem vQ {x:Int} (hx:1≤x∧x≤100000):a_ aF x=aF++jl x:=by
 unfold a_
 rw [aV hx]
 rfl
theorem iJ {x:Int} (hx:1≤x∧x≤100000):iH≠a_ aF x:=fun q=>by
 rw [vQ hx] at q
 have:=congrArg nb q
 rw [gX] at this
 cases this
theorem jG {x:Int} (hx:1≤x∧x≤100000):gP≠a_ aF x:=fun q=>by
 rw [vQ hx] at q
 have:=congrArg nb q
 rw [gX] at this
 cases this
theorem gH {n:Int} {ids:List Int} (h:dl (n,(ids,()))=true):1≤n∧n≤100000∧(∀ x ∈ ids,1≤x∧x<n)∧ids.Pairwise (· < ·):=by
 obtain ⟨g1,g2,_⟩:=bm h
 unfold dl at h
 simp only [iA,decide_eq_true_eq] at h
 have h3:=h.2.2
 rw [aE (n:=n-1) (by omega) (by omega)] at h3
 have key:∀ (l:List Int) (p:Option Int),pR (qA (n-1)) p l=true→(∀ x ∈ l,1≤x∧x<n∧∀ y,p=some y→y<x)∧l.Pairwise (· < ·):=by
  intro l
  induction l with
  | nil=>exact fun p _=>⟨fun x hx=>(by cases hx),List.Pairwise.nil⟩
  | cons a l ih =>
   intro p hp
   simp only [pR,iA] at hp
   obtain ⟨q1,q2⟩:=hp
   unfold qA at q1
   rw [iA,decide_eq_true_eq] at q1
   obtain ⟨⟨b1,b2⟩,b3⟩:=q1
   have b1:1≤a:=b1
   have b2:a≤n-1:=b2
   obtain ⟨i1,i2⟩:=ih (some a) q2
   have ha:∀ y,p=some y→y<a:=fun y e=>by
    rw [e] at b3
    exact of_decide_eq_true b3
   refine ⟨fun x hx=>?_,?_⟩
   · rcases List.mem_cons.1 hx with e | e
     · rw [e]
       exact ⟨b1,by omega,ha⟩
     · obtain ⟨c1,c2,c3⟩:=i1 x e
       have:=c3 a rfl
       exact ⟨c1,c2,fun y ey=>Int.lt_trans (ha y ey) this⟩
   · exact List.Pairwise.cons (fun x hx=>(i1 x hx).2.2 a rfl) i2
 obtain ⟨k1,k2⟩:=key ids none h3
 exact ⟨g1,g2,fun x hx=>⟨(k1 x hx).1,(k1 x hx).2.1⟩,k2⟩
theorem Bf {d d':Ty.d aA}:∀ {ids:List Int},(∀ x ∈ ids,fT d' (a_ aF x)=fT d (a_ aF x))→tM d' ids=tM d ids
 | [],_=>rfl
 | x::l,h=>by
  unfold tM at *
  rw [List.map_cons,List.map_cons,List.sum_cons,List.sum_cons]
  have e1:Pn d' (a_ aF x)=Pn d (a_ aF x):=by unfold Pn;rw [h x ii]
  have e2:=Bf (ids:=l) fun y hy=>h y (kR _ hy)
  unfold tM at e2
  rw [e1,e2]
theorem m5 {ids:List Int} (h:1≤ids.length):ids=ids.dropLast++[bj ids]:=by
 have hne:ids≠[]:=by intro q;rw [q] at h;simp at h
 have e:bj ids=ids.getLast hne:=by
  unfold bj
  rw [List.getLast_eq_getElem]
  simp [List.getD,show ids.length-1<ids.length by omega]
 rw [e]
 exact (List.dropLast_concat_getLast hne).symm
abbrev Bz:=List (Ty.d cz)
def bY (id:Int) (l:Bz):ah:=l.map fun x=>(id,x)
theorem xe (id:Int) (l:Bz):(bY id l).length=l.length:=by unfold bY;rw [List.length_map]
theorem tO {k:Nat} (hk:2 ^ 50≤k) (id:Int) {l:Bz} (hl:l.length≤1099511627775):eQ.f k id l=some (bY id l,()):=by
 unfold eQ.f eQ.t
 refine (fe (L:=fun n i s=>eQ.l0 k n id l l.length i s) (R:=fun r s=>some (s++bY id r,())) (Ty.z cz) l (fun i s=>(s.length:Int)=i) (fun n s hs=>?_) (fun n i s x rest h0 h1 hx hr hp ih=>?_) (n:=k) (s:=[]) (by omega) (by decide)).trans (by rw [List.nil_append])
 · simp (disch:=omega) only [eQ.l0,eQ.b0,aY,aJ,bY,List.map_nil,List.append_nil]
 · have ih:=ih (s++[(id,x)]) (by rw [d8];omega)
   simp (disch:=first | omega | decide) only [eQ.l0,eQ.b0,aV,aa,aN,hx,bf,aE]
   refine ih.trans ?_
   simp only [bY,List.map_cons,nw,List.cons_append,List.nil_append]
def pK:Ty.d iS:=(0,(0,([],())))
def I7 (s0:Int) (e:Ty.d aB):Bool:=(e.2.1==s0)&&!decide ((e.2.2.1:Int) > 100000)
def Cr (l:aS):Bool:=l.all (I7 (l.getD 0 (Ty.z aB)).2.1)
def mf (h:Ty.d iS):Bool:=decide ((0:Int)≤h.1∧h.1≤100000)&&(decide ((0:Int)≤h.2.1∧h.2.1≤1000000)&&(tL h.2.2.1&&Cr h.2.2.1))
def kU (e:Ty.d aB):ByteArray:=jf e.1++(jX e.2.1++(jX e.2.2.1++(jX e.2.2.2.1++jX e.2.2.2.2.1)))
def nc:aS→ByteArray
 | []=>⟨#[]⟩
 | e::l=>kU e++nc l
def tT (h:Ty.d iS):ByteArray:=jX h.1++(jX h.2.1++(jX (h.2.2.1.length:Int)++nc h.2.2.1))
def ez (h:Ty.d iS):ByteArray:=if mf h=true then v7 (sP (tT h))++tT h else ⟨#[]⟩
theorem pr {k:Nat} (hk:2 ^ 50≤k) {h:Ty.d iS} (hl:h.2.2.1.length≤1073741824):eA.f k h=some (mf h,()):=by
 unfold eA.f eA.t mf Cr
 have fin:∀ b:Bool,(bif b then (Option.bind (ac.f k h.1 0 100000) fun r1=>(bif r1.1 then (Option.bind (ac.f k h.2.1 0 1000000) fun r2=>(bif r2.1 then (Option.bind (eD.f k h.2.2.1) fun r3=>(some r3)) else (some (false,())))) else (some (false,())))) else (some (false,())))=some (decide ((0:Int)≤h.1∧h.1≤100000)&&(decide ((0:Int)≤h.2.1∧h.2.1≤1000000)&&(tL h.2.2.1&&b)),()):=fun b=>by
  rw [iQ,aX,iQ,aX,AK hk (by omega),aX]
  simp only []
  cases decide ((0:Int)≤h.1∧h.1≤100000) <;> cases decide ((0:Int)≤h.2.1∧h.2.1≤1000000) <;> cases tL h.2.2.1 <;> cases b <;> rfl
 rw [← fin]
 refine fe (L:=fun n i (_:Unit)=>eA.l0 k n h.2.2.1 h.2.2.1.length i h.1 h.2.1 h.2.2.1) (R:=fun r _=>bif r.all (I7 (h.2.2.1.getD 0 (Ty.z aB)).2.1) then (Option.bind (ac.f k h.1 0 100000) fun r1=>(bif r1.1 then (Option.bind (ac.f k h.2.1 0 1000000) fun r2=>(bif r2.1 then (Option.bind (eD.f k h.2.2.1) fun r3=>(some r3)) else (some (false,())))) else (some (false,())))) else (some (false,()))) (Ty.z aB) h.2.2.1 (fun _ _=>True) (fun n _ _=>?_) (fun n i _ x rest h0 h1 hx hr hp ih=>?_) (n:=k) (s:=()) (by omega) trivial
 · simp only [eA.l0,eA.b0]
   rw [aY (by omega),aJ]
   rfl
 · have ih:=ih () trivial
   simp only [eA.l0,eA.b0]
   rw [aV h1,aa,aN h0 h1,aN (by omega) (by omega),hx,aE (n:=i+1) (by omega) (by omega),ih,List.all_cons]
   unfold I7 bne
   cases x.2.1==(h.2.2.1.getD 0 (Ty.z aB)).2.1 <;> cases decide ((x.2.2.1:Int) > 100000) <;> rfl
theorem jt {l:aS} (h:tL l=true):l.length≤20∧∀ e ∈ l,(1≤e.1.size∧e.1.size≤8)∧(LE.le (α:=Int) 1 e.2.1∧LE.le (α:=Int) e.2.1 100000)∧LE.le (α:=Int) 0 e.2.2.1∧(LE.le (α:=Int) 1 e.2.2.2.1∧LE.le (α:=Int) e.2.2.2.1 210)∧(LE.le (α:=Int) 1 e.2.2.2.2.1∧LE.le (α:=Int) e.2.2.2.2.1 1000000):=by
 unfold tL at h
 rw [iA,decide_eq_true_eq] at h
 refine ⟨by have:=h.1;omega,fun e he=>?_⟩
 obtain ⟨q,hq⟩:=Cg h.2 he
 unfold ug eT at hq
 rw [iA,iA,iA,iA,iA,decide_eq_true_eq,decide_eq_true_eq,decide_eq_true_eq,decide_eq_true_eq] at hq
 obtain ⟨g1,g2,g3,g4,g5,_⟩:=hq
 have g3':¬ LT.lt (α:=Int) e.2.2.1 0:=by
  intro q
  have:(!decide (e.2.2.1<(0:Int)))=false:=by rw [aV q];rfl
  rw [this] at g3
  cases g3
 exact ⟨by omega,g2,Int.not_lt.1 g3',g4,g5⟩
theorem na {h:Ty.d iS} (q:mf h=true):tL h.2.2.1=true:=by
 unfold mf at q
 rw [iA,iA,iA] at q
 exact q.2.2.1
theorem wP {e:Ty.d aB}:(kU e).size≤35+e.1.size:=by
 have a:=bK (e.1.size:Int)
 have b:=bK e.2.1
 have c:=bK e.2.2.1
 have d:=bK e.2.2.2.1
 have f:=bK e.2.2.2.2.1
 unfold kU jf
 simp only [aZ]
 omega
theorem qs:∀ {l:aS},(∀ e ∈ l,e.1.size≤8)→(nc l).size≤43*l.length
 | [],_=>Nat.zero_le _
 | e::l,h=>by
  have h1:=h e (ii ..)
  have h2:=qs (l:=l) fun x hx=>h x (kR _ hx)
  have h3:=wP (e:=e)
  unfold nc
  rw [aZ,jj]
  omega
theorem H9 {h:Ty.d iS} (q:mf h=true):(tT h).size≤900:=by
 obtain ⟨h1,h2⟩:=jt (na q)
 have:=qs (l:=h.2.2.1) fun e he=>(h2 e he).1.2
 have a:=bK h.1
 have b:=bK h.2.1
 have c:=bK (h.2.2.1.length:Int)
 unfold tT
 simp only [aZ]
 omega
theorem po (h:Ty.d iS):(ez h).size≤904:=by
 unfold ez
 by_cases q:mf h=true
 · have:=H9 q
   rw [if_pos q,aZ,show (v7 (sP (tT h))).size=4 from rfl]
   omega
 · rw [if_neg q];decide
theorem np {k:Nat} (hk:2 ^ 50≤k) {h:Ty.d iS} (hl:h.2.2.1.length≤1073741824):dA.f k h=some (ez h,()):=by
 unfold dA.f dA.t ez
 rw [pr hk hl,aX]
 cases q:mf h with
 | false=>rfl
 | true =>
  obtain ⟨h1,h2⟩:=jt (na q)
  have a:=bK h.1
  have b:=bK h.2.1
  have c:=bK (h.2.2.1.length:Int)
  rw [fN,aJ,sE hk (by simp),aX,if_pos rfl]
  simp only []
  refine (fe (L:=fun n i s=>dA.l0 k n s h.2.2.1 h.2.2.1.length i) (R:=fun r s=>some (v7 (sP (s++nc r))++(s++nc r),())) (Ty.z aB) h.2.2.1 (fun i s=>(s.size:Int)≤21+43*i) (fun n s hs=>?_) (fun n i s x rest g0 g1 hx hr hs ih=>?_) (n:=k) (s:=jT [h.1,h.2.1,(h.2.2.1.length:Int)]) (by omega) (by simp only [jT,aZ];rw [show (⟨#[]⟩:ByteArray).size=0 from rfl];omega)).trans (by unfold tT;simp only [jT,bg,iO,oE])
  · have hc:=vu s
    simp only [dA.l0,dA.b0]
    rw [aY (by omega),aJ,uK hk (by omega),aX]
    simp only []
    rw [qc hk hc.1 hc.2,aX]
    simp only []
    rw [iz (by rw [show (v7 (sP s)).size=4 from rfl];omega),show nc []=⟨#[]⟩ from rfl,iO]
  · have hm:x ∈ h.2.2.1:=by rw [← hx];exact fX (by omega)
    have hz:=(h2 x hm).1.2
    have ht:=wP (e:=x)
    have v1:=bK (x.1.size:Int)
    have v2:=bK x.2.1
    have v3:=bK x.2.2.1
    have v4:=bK x.2.2.2.1
    have v5:=bK x.2.2.2.2.1
    have ih:=ih (s++kU x) (by have:=wP (e:=x);rw [aZ];omega)
    have e:jf x.1++jT [x.2.1,x.2.2.1,x.2.2.2.1,x.2.2.2.2.1]=kU x:=by
     unfold kU
     simp only [jT,iO]
    simp only [dA.l0,dA.b0]
    rw [aV g1,aa,aN g0 g1,hx,lq hk (by omega),aX,sE hk (by simp),aX]
    simp only []
    have hts:(jf x.1).size+(jT [x.2.1,x.2.2.1,x.2.2.2.1,x.2.2.2.2.1]).size≤100:=by
     rw [← aZ,e];omega
    rw [iz (by omega),e,iz (by omega),aE (n:=i+1) (by omega) (by omega),ih,show nc (x::rest)=kU x++nc rest from rfl,bg]
def sb (x y:Ty.d aB):Bool:=(seq x.1 y.1)&&((x.2.1==y.2.1)&&((x.2.2.1==y.2.2.1)&&((x.2.2.2.1==y.2.2.2.1)&&(x.2.2.2.2.1==y.2.2.2.2.1))))
def vS:aS→aS→Bool
 | [],[]=>true
 | x::l,y::m=>sb x y&&vS l m
 | _,_=>false
theorem G4 {x y:Ty.d aB}:sb x y=true↔x=y:=by
 unfold sb
 simp only [iA,beq_iff_eq,eE]
 constructor
 · rintro ⟨h1,h2,h3,h4,h5⟩
   obtain ⟨a,b,c,d,e,_⟩:=x
   obtain ⟨a',b',c',d',e',_⟩:=y
   simp only at h1 h2 h3 h4 h5
   subst h1 h2 h3 h4 h5
   rfl
 · rintro rfl;exact ⟨rfl,rfl,rfl,rfl,rfl⟩
theorem tG:∀ {l m:aS},vS l m=true↔l=m
 | [],[]=>⟨fun _=>rfl,fun _=>rfl⟩
 | [],y::m=>⟨fun h=>(by cases h),fun h=>(by cases h)⟩
 | x::l,[]=>⟨fun h=>(by cases h),fun h=>(by cases h)⟩
 | x::l,y::m=>by
  unfold vS
  rw [iA,G4,tG,List.cons.injEq]
theorem Iy:∀ {l m:aS},l.length≠m.length→vS l m=false:=fun {l m} h=>by
 cases c:vS l m with
 | false=>rfl
 | true=>rw [tG.1 c] at h;exact absurd rfl h
theorem wu {α:Type} {l:List α} {i:Nat} (z:α) (h:i<l.length):l.drop i=l.getD i z::l.drop (i+1):=by
 rw [List.drop_eq_getElem_cons h]
 simp [List.getD,h]
theorem Aj {k:Nat} (hk:2 ^ 50≤k) {l m:aS} (hl:l.length≤1073741824):fV.f k l m=some (vS l m,()):=by
 unfold fV.f fV.t
 by_cases hne:l.length=m.length
 · rw [show ((l.length:Int) != (m.length:Int))=false by rw [hne];simp,aJ]
   refine (MO (L:=fun n i (_:Unit)=>fV.l0 k n l m l.length i) (R:=fun i _=>some (vS (l.drop i.toNat) (m.drop i.toNat),())) l.length (fun _ _=>True) (fun n _ _=>?_) (fun n i _ h0 h1 _ ih=>?_) k 0 () (by omega) (by omega) (by omega) trivial).trans (by simp)
   · simp only [fV.l0,fV.b0]
     rw [aY (by omega),aJ,rI,List.drop_length,hne,List.drop_length]
     rfl
   · have ih:=ih () trivial
     have c1:i.toNat<l.length:=by omega
     simp only [fV.l0,fV.b0]
     rw [aV h1,aa,aN h0 h1,aN h0 (by omega),aE (n:=i+1) (by omega) (by omega),ih,wu (Ty.z aB) c1,wu (Ty.z aB) (l:=m) (i:=i.toNat) (by omega),show (i+1).toNat=i.toNat+1 by omega]
     show _=some (sb _ _&&vS _ _,())
     show (bif !(sb (l.getD i.toNat (Ty.z aB)) (m.getD i.toNat (Ty.z aB))) then _ else _)=_
     cases sb (l.getD i.toNat (Ty.z aB)) (m.getD i.toNat (Ty.z aB)) <;> rfl
 · rw [show ((l.length:Int) != (m.length:Int))=true from bne_iff_ne.2 (by omega),aa,Iy hne]
def nq (mark:Int) (p:Option (Ty.d cz)) (x:Ty.d cz):Bool :=
 (x.2.2.1.1==4)&&(!decide ((x.2.2.1.2.1:Int) > mark)&&(match p with | none=>true | some y=>nT y.2.2.1.2.2.1 x.2.2.1.2.2.1))
def G_ (id:Int) (x:Ty.d cz):Ty.d aB:=(x.2.2.1.2.2.1,(id,(x.1,(x.2.1,(x.2.2.1.2.1,())))))
noncomputable def g6 (id:Int) (s:ByteArray):Ty.d iS × Bool :=
 bif (bx s).2 != (s.size:Int) then (pK,false) else bif (bx s).1.length==0 then (pK,false) else
 bif ((bx s).1.getD ((bx s).1.length-1) (Ty.z cz)).2.2.1.1 != 5 then (pK,false) else
 bif !decide ((1:Int)≤id∧id≤100000) then (pK,false) else
 bif !pR (nq ((bx s).1.getD ((bx s).1.length-1) (Ty.z cz)).2.2.1.2.1) none ((bx s).1.take ((bx s).1.length-1)) then (pK,false) else
 bif !jd ((bx s).1.getD ((bx s).1.length-1) (Ty.z cz)).2.2.1 (bY id ((bx s).1.take ((bx s).1.length-1))) then (pK,false) else
 (((s.size:Int),(((bx s).1.getD ((bx s).1.length-1) (Ty.z cz)).2.2.1.2.1,(((bx s).1.take ((bx s).1.length-1)).map (G_ id),()))),true)
theorem tS {k:Nat} (hk:2 ^ 50≤k) (id:Int) {s:ByteArray} (hs:s.size≤1073741823):dy.f k id s=some ((g6 id s).1,((g6 id s).2,())):=by
 have hln:=my s
 unfold dy.f dy.t g6
 rw [sF hk (by omega),aX]
 simp only []
 generalize bx s=sc at hln ⊢
 obtain ⟨l,en⟩:=sc
 simp only at hln ⊢
 have w0:aQ ((l.length:Int)-1)=(l.length:Int)-1:=aE (by omega) (by omega)
 by_cases h0:l.length=0
 · rw [w0,aV (by omega),aa,show (l.length==0)=true by rw [h0];rfl]
   cases en != (s.size:Int) <;> rfl
 · rw [w0,aY (by omega),aJ,show (l.length==0)=false from pz h0]
   cases he:en != (s.size:Int) with
   | true=>rfl
   | false =>
    have hen:en=(s.size:Int):=by
     cases q:en==(s.size:Int) with
     | true=>exact C9 q
     | false=>unfold bne at he;rw [q] at he;cases he
    simp only [aJ]
    have w1:(l.length:Int)-1=((l.length-1:Nat):Int):=by omega
    rw [iQ,aX]
    simp only []
    rw [w1,rI,aN (by omega) (by omega),aN (by omega) (by omega),dL (by omega) (by omega),aN (by omega) (by omega),dL (by omega) (by omega)]
    generalize hm:l.getD (l.length-1) (Ty.z cz)=m
    have hpl:(l.take (l.length-1)).length=l.length-1:=by rw [List.length_take];omega
    rw [tO hk id (by omega),aX]
    simp only []
    rw [sG hk _ (by unfold bY;rw [List.length_map];omega),aX]
    simp only []
    cases decide ((1:Int)≤id∧id≤100000) with
    | false=>cases m.2.2.1.1 != 5 <;> rfl
    | true =>
     cases m.2.2.1.1 != 5 with
     | true=>rfl
     | false =>
      simp only [fN,aJ]
      cases jd m.2.2.1 (bY id (l.take (l.length-1))) with
      | false=>cases pR (nq m.2.2.1.2.1) none (l.take (l.length-1)) <;> rfl
      | true =>
       simp only [fN,aJ]
       refine (wo (L:=fun n i=>dy.l0 k n id l (l.take (l.length-1)) (l.take (l.length-1)).length i [] 0 0 ((l.take i.toNat).map (G_ id)) en m.2.2.1.2.1) (Ty.z cz) (l.take (l.length-1)) (nq m.2.2.1.2.1)
        (some (((s.size:Int),(m.2.2.1.2.1,((l.take (l.length-1)).map (G_ id),()))),(true,()))) (some (pK,(false,()))) (fun n=>?_) (fun n x h hx=>?_) (fun n i x y h0 h1 hx hy=>?_) (n:=k) (by omega)).trans (by
         cases pR (nq m.2.2.1.2.1) none (l.take (l.length-1)) <;> rfl)
       · simp only [dy.l0,dy.b0]
         rw [hpl,rI,aY (by omega),aJ,hen]
       · have h':=h
         rw [hpl] at h'
         have hx':l.getD 0 (Ty.z cz)=x:=by rw [← hx,show Int.toNat 0=0 from rfl,wZ (by omega)]
         simp only [dy.l0,dy.b0]
         rw [aV (by omega),aa,aN (by omega) (by omega),hx,aY (show ¬ (0:Int) > 0 by omega),aJ,bf (by simp) (by decide),aE (n:=(0:Int)+1) (by omega) (by omega),show Int.toNat 1=0+1 from rfl,mX (z:=Ty.z cz) (show 0<l.length by omega),hx']
         simp only [nq,bne]
         cases x.2.2.1.1==4 <;> cases decide ((x.2.2.1.2.1:Int) > m.2.2.1.2.1) <;> rfl
       · have h1':=h1
         rw [hpl] at h1'
         have hx':l.getD i.toNat (Ty.z cz)=x:=by rw [← hx,wZ (by omega)]
         have hy':l.getD (i-1).toNat (Ty.z cz)=y:=by rw [← hy,wZ (by omega)]
         simp only [dy.l0,dy.b0]
         rw [aV h1,aa,aN (by omega) (by omega),hx,aV (show i > 0 by omega),aE (n:=i-1) (by omega) (by omega),aN (by omega) (by omega),hy',bf (by rw [List.length_map,List.length_take];omega) (by decide),aE (n:=i+1) (by omega) (by omega),show (i+1).toNat=i.toNat+1 by omega,mX (z:=Ty.z cz) (show i.toNat<l.length by omega),hx',List.map_append]
         simp only [nq,bne]
         cases x.2.2.1.1==4 <;> cases decide ((x.2.2.1.2.1:Int) > m.2.2.1.2.1) <;> cases nT y.2.2.1.2.2.1 x.2.2.1.2.2.1 <;> rfl
noncomputable def oJ (id:Int) (s:ByteArray) (h:Ty.d iS):Bool:=(g6 id s).2&&(((g6 id s).1.1==h.1)&&(((g6 id s).1.2.1==h.2.1)&&vS (g6 id s).1.2.2.1 h.2.2.1))
theorem zW (id:Int) {s:ByteArray} (hs:s.size≤1073741823):(g6 id s).1.2.2.1.length≤1073741824:=by
 have hln:=my s
 unfold g6
 generalize bx s=sc at hln ⊢
 obtain ⟨l,en⟩:=sc
 simp only at hln ⊢
 cases en != (s.size:Int)
 · cases l.length==0
   · cases (l.getD (l.length-1) (Ty.z cz)).2.2.1.1 != 5
     · cases !decide ((1:Int)≤id∧id≤100000)
       · cases !pR (nq (l.getD (l.length-1) (Ty.z cz)).2.2.1.2.1) none (l.take (l.length-1))
         · cases !jd (l.getD (l.length-1) (Ty.z cz)).2.2.1 (bY id (l.take (l.length-1)))
           · show ((l.take (l.length-1)).map (G_ id)).length≤1073741824
             rw [List.length_map,List.length_take]
             omega
           · exact Nat.zero_le _
         · exact Nat.zero_le _
       · exact Nat.zero_le _
     · exact Nat.zero_le _
   · exact Nat.zero_le _
 · exact Nat.zero_le _
theorem y4 {k:Nat} (hk:2 ^ 50≤k) (id:Int) {s:ByteArray} (hs:s.size≤1073741823) (h:Ty.d iS):il.f k id s h=some (oJ id s h,()):=by
 have hl:=zW id hs
 unfold il.f il.t oJ
 rw [tS hk id hs,aX]
 simp only []
 rw [Aj hk hl,aX]
 cases (g6 id s).2 <;> cases (g6 id s).1.1==h.1 <;> cases (g6 id s).1.2.1==h.2.1 <;> rfl
end Go.Proofs.YtbgnhoggngbhhaaGreatDoor.G
namespace Go.V
def oU {α:Type} (o:Option α) (P:α→Prop):Prop:=∃ r,o=some r∧P r
section
variable {α β:Type} {P P':α→Prop} {Q:β→Prop}
theorem jz {r:α} (h:P r):oU (some r) P:=⟨r,rfl,h⟩
theorem wK {o:Option α} {r:α} (e:o=some r) (h:P r):oU o P:=⟨r,e,h⟩
theorem P_ {o:Option α} {r:α} (h:oU o (fun x=>x=r)):o=some r:=by
 obtain ⟨x,e,rfl⟩:=h
 exact e
theorem sV {o:Option α} (h:oU o P) (hp:∀ r,P r→P' r):oU o P':=by
 obtain ⟨r,e,hr⟩:=h
 exact ⟨r,e,hp r hr⟩
theorem fi {o:Option α} {g:α→Option β} (h:oU o P) (hg:∀ r,P r→oU (g r) Q):oU (Option.bind o g) Q:=by
 obtain ⟨r,e,hr⟩:=h
 rw [e]
 exact hg r hr
theorem sq {o:Option α} {r:α} {g:α→Option β} (e:o=some r) (hg:oU (g r) Q):oU (Option.bind o g) Q:=by
 rw [e]
 exact hg
theorem o9 {b:Bool} {x y:Option α} (h1:b=true→oU x P) (h2:b=false→oU y P):oU (bif b then x else y) P:=by
 cases b
 · exact h2 rfl
 · exact h1 rfl
theorem I5 {b:Bool} {x y:Option α} (hb:b=true) (h:oU x P):oU (bif b then x else y) P:=by rw [hb];exact h
theorem KI {b:Bool} {x y:Option α} (hb:b=false) (h:oU y P):oU (bif b then x else y) P:=by rw [hb];exact h
theorem yG {i n:Int} {x:Option α} (h0:0≤i) (h1:i<n) (h:oU x P):oU (cD i n x) P:=by rw [aN h0 h1];exact h
theorem NW {i n:Int} {x:Option α} (h0:0≤i) (h1:i≤n) (h:oU x P):oU (rP i n x) P:=by rw [dL h0 h1];exact h
theorem Ks {b n:Nat} {x:Option α} (h0:n≤1099511627776) (hb:b≤128) (h:oU x P):oU (rm b n x) P:=by rw [bf h0 hb];exact h
end
end Go.V
namespace Go.Proofs.YtbgnhoggngbhhaaGreatDoor.G
open Go.V
noncomputable def km (s:ByteArray):Ty.d iS × Bool:=pg (fun h=>mf h=true) ez pK s
def RH (s:ByteArray) (o:Option (Ty.d iS × Bool × Unit)):Prop:=(∃ h,mf h=true∧ez h=s∧o=some (h,(true,())))∨o=some (pK,(false,()))
theorem O0 (s:ByteArray):RH s (some (pK,(false,()))) := .inr rfl
theorem Oz {s:ByteArray} (hs:4≤s.size) (h:Ty.d iS):RH s (bif !seq (ez h) s then some (pK,(false,())) else some (h,(true,()))):=by
 cases c:seq (ez h) s with
 | false=>exact .inr rfl
 | true =>
  have e:=eE.1 c
  refine .inl ⟨h,?_,e,rfl⟩
  cases q:mf h with
  | true=>rfl
  | false =>
   unfold ez at e
   rw [if_neg (by rw [q];decide)] at e
   rw [← e] at hs
   exact absurd hs (by decide)
def MB (x:Int):Prop:=0≤x∧x≤1000000
theorem qW {x:Int} (h:MB x):∃ n:Nat,n<562949953421312∧x=(n:Int)∧jX x=bp n:=by
 obtain ⟨n,rfl⟩:=Int.eq_ofNat_of_zero_le h.1
 have:=h.2
 exact ⟨n,by omega,rfl,da (by omega)⟩
theorem ML {e:Ty.d aB} {l:aS} (hl:tL l=true) (ho:Cr l=true) (he:e ∈ l):∀ x ∈ [(e.2.1:Int),e.2.2.1,e.2.2.2.1,e.2.2.2.2.1],MB x:=by
 obtain ⟨_,q⟩:=jt hl
 obtain ⟨_,⟨a1,a2⟩,b1,⟨c1,c2⟩,⟨d1,d2⟩⟩:=q e he
 have h2:=List.all_eq_true.1 ho e he
 unfold I7 at h2
 rw [iA] at h2
 have b2:LE.le (α:=Int) e.2.2.1 100000:=by
  refine Int.not_lt.1 fun w=>?_
  have:(!decide ((e.2.2.1:Int) > 100000))=false:=by rw [aV w];rfl
  rw [this] at h2
  cases h2.2
 intro x hx
 simp only [List.mem_cons,List.not_mem_nil,or_false] at hx
 rcases hx with rfl | rfl | rfl | rfl
 · exact ⟨by omega,by omega⟩
 · exact ⟨b1,by omega⟩
 · exact ⟨by omega,by omega⟩
 · exact ⟨by omega,d2⟩
theorem JG (e:Ty.d aB) (h:e.1.size≤8) (t:ByteArray):kU e++t=bp e.1.size++(e.1++(jT [(e.2.1:Int),e.2.2.1,e.2.2.2.1,e.2.2.2.2.1]++t)):=by
 unfold kU jf
 rw [da (by omega)]
 simp only [jT,iO,bg]
theorem Je {h:Ty.d iS} (q:mf h=true):∀ x ∈ [(h.1:Int),h.2.1,(h.2.2.1.length:Int)],MB x:=by
 have h20:=(jt (na q)).1
 unfold mf at q
 rw [iA,iA,decide_eq_true_eq,decide_eq_true_eq] at q
 obtain ⟨⟨a1,a2⟩,⟨b1,b2⟩,_⟩:=q
 intro x hx
 simp only [List.mem_cons,List.not_mem_nil,or_false] at hx
 rcases hx with rfl | rfl | rfl
 · exact ⟨a1,by have:LE.le (α:=Int) h.1 100000:=a2;omega⟩
 · exact ⟨b1,b2⟩
 · exact ⟨by omega,by omega⟩
theorem Am {h:Ty.d iS} (q:mf h=true):ez h=v7 (sP (tT h))++(jT [(h.1:Int),h.2.1,(h.2.2.1.length:Int)]++nc h.2.2.1):=by
 unfold ez
 rw [if_pos q]
 unfold tT
 simp only [jT,iO,bg]
theorem Ns (x:Int):(v7 x).size=4:=rfl
theorem xD {k:Nat} (hk:2 ^ 50≤k) {r:ByteArray} (b:Bool) (hs:r.size≤1073741824):oU (aO.f k (r,(b,()))) (fun x=>x.1.1.size≤r.size∧(b=true→x.1.2.1=true)∧(x.1.2.1=false→x.1.1.size<r.size)∧0≤x.2.1∧x.2.1<562949953421312):=by
 cases b with
 | true=>exact wK (xP hk (by omega)) ⟨Nat.le_refl _,fun _=>rfl,fun h=>(by cases h),Int.le_refl _,by show (0:Int)<562949953421312;omega⟩
 | false =>
  rcases ke r with ⟨a,t,ha,rfl⟩ | h
  · have:=ao a
    rw [aZ] at hs
    exact wK (fE hk ha (by omega)) ⟨by show t.size≤_;rw [aZ];omega,fun h=>(by cases h),fun _=>by show t.size<_;rw [aZ];omega,by show (0:Int)≤(a:Int);omega,by show (a:Int)<_;omega⟩
  · exact wK (mY hk h (by omega)) ⟨Nat.le_refl _,fun h=>(by cases h),fun h=>(by cases h),Int.le_refl _,by show (0:Int)<562949953421312;omega⟩
theorem Ii (k:Nat) (r:ByteArray) (b:Bool) {n:Int} (h0:0≤n):oU (aq.f k (r,(b,())) n) (fun x=>x.1.1.size≤r.size∧(b=true→x.1.2.1=true)):=by
 cases b with
 | true=>exact wK (sX k r n) ⟨Nat.le_refl _,fun _=>rfl⟩
 | false =>
  by_cases h:n > (r.size:Int)
  · exact wK (tD k h) ⟨Nat.le_refl _,fun _=>rfl⟩
  · have e:=vK r (n:=n.toNat) (by omega)
    have hz:(ByteArray.extract r 0 n.toNat).size=n.toNat:=by rw [← dW,lB,List.length_take,dW];omega
    have:=rr k (ByteArray.extract r 0 n.toNat) (ByteArray.extract r n.toNat r.size)
    rw [← e,hz,show ((n.toNat:Nat):Int)=n by omega] at this
    exact wK this ⟨by show (ByteArray.extract r n.toNat r.size).size≤_;rw [sB];omega,fun h=>(by cases h)⟩
theorem Ob {k:Nat} (hk:2 ^ 50≤k) {r:ByteArray} (b:Bool) (hs:r.size≤1073741824):oU (am.f k (r,(b,()))) (fun x=>x.1.1.size≤r.size∧(b=true→x.1.2.1=true)∧(x.1.2.1=false→x.1.1.size<r.size)):=by
 unfold am.f am.t
 refine fi (xD hk b hs) fun r1 q1=>?_
 obtain ⟨a1,a2,a3,a4,_⟩:=q1
 refine fi (Ii k r1.1.1 r1.1.2.1 a4) fun r2 q2=>jz ⟨by omega,fun h=>q2.2 (a2 h),fun h=>?_⟩
 cases c:r1.1.2.1 with
 | true=>rw [q2.2 c] at h;cases h
 | false=>have:=a3 c;omega
theorem rt {k:Nat} (n:Nat) (s:ByteArray) (c j:Int) (z:aS) (z1 z2:Int) (rest:ByteArray) (out:aS) (a b:Int):b_.l0 k (n+1) s c j z z1 z2 rest true out a b=some (pK,(false,())):=by
 simp only [b_.l0,b_.b0]
 cases decide (j<c) <;> rfl
theorem Gp {k:Nat} (hk:2 ^ 50≤k) {s:ByteArray} (h4:4≤s.size) {h:Ty.d iS} (hl:h.2.2.1.length≤1073741824):RH s (Option.bind (eA.f k h) fun r12=>(bif (!r12.1) then (some ((0,(0,([],()))),(false,()))) else (Option.bind (dA.f k h) fun r13=>(bif (!(seq r13.1 s)) then (some ((0,(0,([],()))),(false,()))) else (some (h,(true,()))))))):=by
 rw [pr hk hl,aX,np hk hl,aX]
 cases mf h with
 | false=>exact O0 s
 | true=>exact Oz h4 h
theorem Fy {k:Nat} (hk:2 ^ 50≤k) {s:ByteArray} (h4:4≤s.size) (c:Int) (hc:c<562949953421312) (z:aS) (z1 z2 a b:Int):∀ (n:Nat) (rest:ByteArray) (j:Int) (out:aS),rest.size+2≤n→0≤j→out.length+rest.size≤1073741824 →
 RH s (b_.l0 k n s c j z z1 z2 rest false out a b):=by
 intro n
 induction n with
 | zero=>intro rest j out h1;omega
 | succ n ih =>
  intro rest j out h1 h2 h5
  obtain ⟨n,rfl⟩:∃ q,n=q+1:=⟨n-1,by omega⟩
  simp only [b_.l0]
  unfold b_.b0
  by_cases cj:j<c
  · rw [aV cj,aa,tR,aa]
    obtain ⟨r5,e5,p1,p2,p3⟩:=Ob hk false (r:=rest) (by omega)
    rw [e5,aX]
    obtain ⟨r6,e6,s1,s2,s3,_⟩:=xD hk r5.1.2.1 (r:=r5.1.1) (by omega)
    rw [show aO.f k r5.1=_ from e6,aX]
    obtain ⟨r7,e7,t1,t2,t3,_⟩:=xD hk r6.1.2.1 (r:=r6.1.1) (by omega)
    rw [show aO.f k r6.1=_ from e7,aX]
    obtain ⟨r8,e8,u1,u2,u3,_⟩:=xD hk r7.1.2.1 (r:=r7.1.1) (by omega)
    rw [show aO.f k r7.1=_ from e8,aX]
    obtain ⟨r9,e9,v1,v2,v3,_⟩:=xD hk r8.1.2.1 (r:=r8.1.1) (by omega)
    rw [show aO.f k r8.1=_ from e9,aX,bf (by omega) (by decide),aE (n:=j+1) (by omega) (by omega)]
    cases hb:r9.1.2.1 with
    | true=>exact .inr (rt n s c (j+1) z z1 z2 _ _ a b)
    | false =>
     have:=v3 hb
     exact ih r9.1.1 (j+1) _ (by omega) (by omega) (by rw [d8];omega)
  · rw [aY cj,aJ]
    simp only [aJ]
    exact Gp hk h4 (h:=(a,(b,(out,())))) (by show out.length≤_;omega)
theorem Cw {k:Nat} (hk:2 ^ 50≤k) {s:ByteArray} (h:s.size<4):b_.f k s=some (pK,(false,())):=by
 unfold b_.f b_.t
 rw [tD k (by omega),aX]
 simp only []
 rw [xP hk (by omega),aX]
 simp only []
 rw [xP hk (by omega),aX]
 simp only []
 rw [xP hk (by omega),aX]
 obtain ⟨q,hq⟩:∃ q,k=q+1:=⟨k-1,by omega⟩
 exact (congrArg (fun z=>b_.l0 k z s 0 0 [] 0 0 s true [] 0 0) hq).trans (rt q s 0 0 [] 0 0 s [] 0 0)
theorem GX {k:Nat} (hk:2 ^ 50≤k) {s:ByteArray} (hs:s.size≤1073741824):RH s (b_.f k s):=by
 by_cases h4:s.size<4
 · rw [Cw hk h4];exact O0 s
 unfold b_.f b_.t
 obtain ⟨r1,e1,p1,_⟩:=Ii k s false (n:=4) (by omega)
 rw [e1,aX]
 obtain ⟨r2,e2,s1,_,_,_⟩:=xD hk r1.1.2.1 (r:=r1.1.1) (by omega)
 rw [show aO.f k r1.1=_ from e2,aX]
 obtain ⟨r3,e3,t1,_,_,_⟩:=xD hk r2.1.2.1 (r:=r2.1.1) (by omega)
 rw [show aO.f k r2.1=_ from e3,aX]
 obtain ⟨r4,e4,u1,_,_,u4,u5⟩:=xD hk r3.1.2.1 (r:=r3.1.1) (by omega)
 rw [show aO.f k r3.1=_ from e4,aX]
 cases r4.1.2.1 with
 | true =>
  obtain ⟨q,hq⟩:∃ q,k=q+1:=⟨k-1,by omega⟩
  exact .inr ((congrArg (fun z=>b_.l0 k z s r4.2.1 0 [] 0 0 r4.1.1 true [] r2.2.1 r3.2.1) hq).trans (rt q s _ 0 [] 0 0 _ [] _ _))
 | false=>exact Fy hk (by omega) r4.2.1 u5 [] 0 0 _ _ k r4.1.1 0 [] (by omega) (by omega) (by simp only [List.length_nil];omega)
theorem yn {k:Nat} (hk:2 ^ 50≤k) {h:Ty.d iS} (q:mf h=true) (z:aS) (z1 z2:Int):∀ (r:aS) (n:Nat) (j:Int) (out:aS),(∀ e ∈ r,e ∈ h.2.2.1)→out++r=h.2.2.1→(out.length:Int)=j→r.length<n →
 b_.l0 k n (ez h) (h.2.2.1.length:Int) j z z1 z2 (nc r) false out h.1 h.2.1=some (h,(true,()))
 | [],n,j,out,hr,ho,hj,hn=>by
  obtain ⟨n,rfl⟩:∃ q,n=q+1:=⟨n-1,by omega⟩
  have h20:=(jt (na q)).1
  rw [List.append_nil] at ho
  simp only [b_.l0,b_.b0]
  rw [aY (by rw [← hj,ho];omega),aJ,aJ,ho,show (h.1,(h.2.1,(h.2.2.1,())))=h from rfl,pr hk (by omega),aX,q]
  simp only [fN,aJ]
  rw [np hk (by omega),aX]
  simp only [bZ]
  rfl
 | e::r,n,j,out,hr,ho,hj,hn=>by
  obtain ⟨n,rfl⟩:∃ q,n=q+1:=⟨n-1,by omega⟩
  have hlen:h.2.2.1.length=out.length+(r.length+1):=by rw [← ho,py,jj]
  have he:=hr e (ii ..)
  have hd:=na q
  have h1:Cr h.2.2.1=true:=by unfold mf at q;rw [iA,iA,iA] at q;exact q.2.2.2
  have hk8:=((jt hd).2 e he).1.2
  have h20:=(jt hd).1
  have hnum:=ML hd h1 he
  have hes:=qs (l:=r) fun x hx=>((jt hd).2 x (hr x (kR _ hx))).1.2
  obtain ⟨n1,b1,f1,g1⟩:=qW (hnum e.2.1 (by simp))
  obtain ⟨n2,b2,f2,g2⟩:=qW (hnum e.2.2.1 (by simp))
  obtain ⟨n3,b3,f3,g3⟩:=qW (hnum e.2.2.2.1 (by simp))
  obtain ⟨n4,b4,f4,g4⟩:=qW (hnum e.2.2.2.2.1 (by simp))
  have v1:=ao n1
  have v2:=ao n2
  have v3:=ao n3
  have v4:=ao n4
  have hform:nc (e::r)=bp e.1.size++(e.1++(bp n1++(bp n2++(bp n3++(bp n4++nc r))))):=by
   rw [show nc (e::r)=kU e++nc r from rfl,JG e hk8]
   simp only [jT,iO,bg,g1,g2,g3,g4]
  have ih:=yn hk q z z1 z2 r n (j+1) (out++[e]) (fun x hx=>hr x (kR _ hx)) (by rw [nw];exact ho) (by rw [d8];omega) (by rw [jj] at hn;omega)
  have hl20:r.length≤20:=by omega
  rw [hform]
  simp only [b_.l0,b_.b0]
  rw [aV (by omega),aa,tR,aa,oA hk (by omega) (by simp only [aZ];omega),aX]
  simp only []
  rw [fE hk b1 (by simp only [aZ];omega),aX]
  simp only []
  rw [fE hk b2 (by simp only [aZ];omega),aX]
  simp only []
  rw [fE hk b3 (by simp only [aZ];omega),aX]
  simp only []
  rw [fE hk b4 (by omega),aX]
  simp only []
  rw [bf (by omega) (by decide),aE (n:=j+1) (by omega) (by omega),← f1,← f2,← f3,← f4]
  exact ih
theorem Iz {k:Nat} (hk:2 ^ 50≤k) {h:Ty.d iS} (q:mf h=true):b_.f k (ez h)=some (h,(true,())):=by
 have h20:=(jt (na q)).1
 have hes:=qs (l:=h.2.2.1) fun x hx=>((jt (na q)).2 x hx).1.2
 have hnum:=Je q
 obtain ⟨n1,b1,f1,g1⟩:=qW (hnum h.1 (by simp))
 obtain ⟨n2,b2,f2,g2⟩:=qW (hnum h.2.1 (by simp))
 obtain ⟨n3,b3,f3,g3⟩:=qW (hnum (h.2.2.1.length:Int) (by simp))
 have v1:=ao n1
 have v2:=ao n2
 have v3:=ao n3
 have hform:ez h=v7 (sP (tT h))++(bp n1++(bp n2++(bp n3++nc h.2.2.1))):=by
  rw [Am q]
  simp only [jT,iO,bg,g1,g2,g3]
 have hl:=yn hk q [] 0 0 h.2.2.1 k 0 [] (fun e he=>he) rfl rfl (by omega)
 unfold b_.f b_.t
 have eb:=rr k (v7 (sP (tT h))) (bp n1++(bp n2++(bp n3++nc h.2.2.1)))
 rw [← hform,Ns] at eb
 rw [show aq.f k (ez h,(false,())) 4=_ from eb,aX]
 simp only []
 rw [fE hk b1 (by simp only [aZ];omega),aX]
 simp only []
 rw [fE hk b2 (by simp only [aZ];omega),aX]
 simp only []
 rw [fE hk b3 (by omega),aX]
 simp only []
 rw [← f1,← f2,← f3]
 exact hl
theorem xt {k:Nat} (hk:2 ^ 50≤k) {s:ByteArray} (hs:s.size≤1073741824):b_.f k s=some ((km s).1,((km s).2,())) :=
 tA (fun h h1 h2=>by rw [← h2];exact Iz hk h1) (GX hk hs)
theorem D6 {s:ByteArray}:(km s).1.2.2.1.length≤20:=by
 rcases nF (fun h=>mf h=true) ez pK s with ⟨r,h1,_,e⟩ | e
 · unfold km
   rw [e]
   exact (jt (na h1)).1
 · unfold km
   rw [e]
   exact Nat.zero_le _
def kO:Ty.d aD:=((0,([],())),([],(0,(0,(0,())))))
noncomputable def vv (d:Ty.d aA) (x:Int) (last:Bool):Bool:=(bG d (a_ aF x)).2&&(last||!decide ((bx (gO d x)).2<((gO d x).size:Int)))
noncomputable def lm (d:Ty.d aA):List Int→Bool
 | []=>true
 | x::l=>vv d x l.isEmpty&&lm d l
noncomputable def mm (d:Ty.d aA) (x:Int):ah:=bY x (bx (gO d x)).1
noncomputable def kx (d:Ty.d aA):List Int→ah
 | []=>[]
 | x::l=>mm d x++kx d l
noncomputable def dt (d:Ty.d aA) (x:Int):Ty.d iS:=(km (bG d (a_ bM x)).1).1
noncomputable def nj (d:Ty.d aA) (x:Int):Bool:=(bG d (a_ bM x)).2&&((km (bG d (a_ bM x)).1).2&&oJ x (gO d x) (dt d x))
noncomputable def lj (d:Ty.d aA) (ids:List Int):Ty.d kH :=
 bif nj d (ids.getD 0 0) then iK ((dt d (ids.getD 0 0)).2.2.1,((dt d (ids.getD 0 0)).2.1,(0,()))) (kx d (ids.drop 1)) else iK ([],(0,(0,()))) (kx d ids)
noncomputable def E7 (v:Ty.d ch) (en:Int) (g:Ty.d kH) (hi:Int):Ty.d aD:=(v,(g.1,(aQ (g.2.1+1),(en,(hi,())))))
noncomputable def Kf (v:Ty.d ch) (en:Int) (x:Ty.d aA) (g:Ty.d kH) (hi:Int):Ty.d aD × RD :=
 bif g.2.2.1 != 0 then (kO,(x,3)) else bif (lk v.2.1 x).2 != 0 then (kO,((lk v.2.1 x).1,gQ (lk v.2.1 x).2)) else
 (E7 v en g hi,((lk v.2.1 x).1,0))
noncomputable def D7 (v:Ty.d ch) (d:Ty.d aA):Ty.d aD × RD :=
 bif !lm d v.2.1 then (kO,(d,3)) else
 bif (mK (bj v.2.1) d).2 != 0 then (kO,((mK (bj v.2.1) d).1,gQ (mK (bj v.2.1) d).2)) else
 Kf v (bx (gO d (bj v.2.1))).2 (mK (bj v.2.1) d).1 (lj (mK (bj v.2.1) d).1 v.2.1) (bif nj (mK (bj v.2.1) d).1 (v.2.1.getD 0 0) then v.2.1.getD 0 0 else 0)
def rZ:Ty.d ch:=(2,([1],()))
noncomputable def ni (d:Ty.d aA):RD:=eW (eW (lk [] d) fun x=>qX x (a_ aF 1)) (bB rZ)
noncomputable def yr (d:Ty.d aA):Ty.d aD × RD :=
 bif (ni d).2==0 then ((rZ,([],(1,(0,(0,()))))),((ni d).1,0)) else (kO,((ni d).1,gQ (ni d).2))
noncomputable def m8 (d:Ty.d aA):Ty.d aD × RD :=
 bif !j6 d then (kO,(d,4)) else bif d.2.2.2.1 then (kO,(d,1)) else
 bif !(bG d gP).2 then yr d else
 bif !(lP (bG d gP).1).2 then (kO,(d,3)) else D7 (lP (bG d gP).1).1 d
def oS (q:Ty.d aD × RD):Ty.d aD × Ty.d aA × Int × Unit:=(q.1,(q.2.1,(q.2.2,())))
theorem tF {d:Ty.d aA} (h:DR d) (x:Int):(gO d x).size≤100000:=by
 have:=lA d (a_ aF x)
 have h2:=h.use
 have h3:=h.cap1
 unfold gO
 omega
theorem zC {d:Ty.d aA} (h:DR d) (x:Int):(mm d x).length≤100000:=by
 have h1:=tF h x
 have h2:=my (gO d x)
 unfold mm
 rw [xe]
 omega
theorem wG {d:Ty.d aA} (h:DR d):∀ l:List Int,(kx d l).length≤100000*l.length
 | []=>Nat.zero_le _
 | x::l=>by
  have h1:=zC h x
  have h2:=wG h l
  unfold kx
  rw [py,jj]
  omega
noncomputable def ui (d:Ty.d aA):Int→List Int→Int
 | e,[]=>e
 | _,x::l=>ui d (bx (gO d x)).2 l
theorem zK (d:Ty.d aA):∀ (l:List Int) (e:Int),l≠[]→ui d e l=(bx (gO d (l.getD (l.length-1) 0))).2
 | [],e,h=>absurd rfl h
 | [x],e,_=>rfl
 | x::y::l,e,_=>by
  show ui d (bx (gO d x)).2 (y::l)=_
  rw [zK d (y::l) _ (by simp)]
  rfl
def ux:List ah→ah
 | []=>[]
 | a::l=>a++ux l
theorem sQ (d:Ty.d aA):∀ l:List Int,ux (l.map (mm d))=kx d l
 | []=>rfl
 | x::l=>by show mm d x++ux (l.map (mm d))=mm d x++kx d l;rw [sQ d l]
theorem oc {d x:Ty.d aA} (h:∀ s,bx (bG x s).1=bx (bG d s).1):∀ l:List Int,kx x l=kx d l
 | []=>rfl
 | y::l=>by
  unfold kx mm gO
  rw [h,oc h l]
theorem sU {k:Nat} (hk:2 ^ 50≤k) (r:RD) (h:DR r.1) {v:Ty.d ch} (hv:v.2.1.length≤60):bJ.f k (wO r) v =
 some (wO r,(bif lm r.1 v.2.1 then (v.2.1.map (mm r.1),(ui r.1 0 v.2.1,(true,()))) else ([],(0,(false,()))))):=by
 have hl:=h.sz.l
 have hu:=h.sz.u
 have hn:=h.sz.n
 unfold bJ.f bJ.t
 refine (fe (L:=fun n i (s:Int × List ah)=>bJ.l0 k n s.1 v.2.1 v.2.1.length i r.1.1 r.1.2.1 r.1.2.2.1 r.1.2.2.2.1 r.2 v.1 v.2.1 s.2) (R:=fun q s=>some (wO r,(bif lm r.1 q then (s.2++q.map (mm r.1),(ui r.1 s.1 q,(true,()))) else ([],(0,(false,())))))) (Ty.z (.int .i64)) v.2.1 (fun i s=>(s.2.length:Int)≤i) (fun n s hs=>?_) (fun n i s y rest h0 h1 hy hr hs ih=>?_) (n:=k) (s:=(0,[])) (by omega) (by simp)).trans (by rw [List.nil_append])
 · simp only [bJ.l0,bJ.b0]
   rw [aY (by omega),aJ,show lm r.1 []=true from rfl,List.map_nil,List.append_nil]
   rfl
 · have hsy:=tF h y
   have hsc:=my (gO r.1 y)
   have hlast:=EL h0 hr
   have ih:=ih ((bx (gO r.1 y)).2,s.2++[mm r.1 y]) (by simp only [d8];omega)
   simp only [] at ih hs
   simp only [bJ.l0,bJ.b0]
   rw [aV h1,aa,aN h0 h1,hy,cX k,aX]
   simp only []
   rw [show (r.1.1,(r.1.2.1,(r.1.2.2.1,(r.1.2.2.2.1,()))))=r.1 from rfl,jQ hk (by omega) (by omega) (by omega),aX]
   simp only [show (bG r.1 (a_ aF y)).1=gO r.1 y from rfl]
   rw [sF hk (by omega),aX]
   simp only []
   rw [tO hk y (by omega),aX]
   simp only []
   rw [bf (by omega) (by decide),aE (n:=i+1) (by omega) (by omega),aE (n:=(v.2.1.length:Int)-1) (by omega) (by omega)]
   rw [show bY y (bx (gO r.1 y)).1=mm r.1 y from rfl,ih]
   rw [show lm r.1 (y::rest)=(vv r.1 y rest.isEmpty&&lm r.1 rest) from rfl]
   unfold vv
   rw [hlast]
   have e1:((bx (gO r.1 y)).2 != ((gO r.1 y).size:Int))=decide ((bx (gO r.1 y)).2<((gO r.1 y).size:Int)):=by
    by_cases q:(bx (gO r.1 y)).2<((gO r.1 y).size:Int)
    · rw [aV q];exact bne_iff_ne.2 (by omega)
    · rw [aY q]
      have:(bx (gO r.1 y)).2=((gO r.1 y).size:Int):=by omega
      rw [this]
      simp
   rw [e1]
   have e2:decide (i<(v.2.1.length:Int)-1)=!decide (i+1=(v.2.1.length:Int)):=by
    by_cases q:i+1=(v.2.1.length:Int)
    · rw [aV q,aY (by omega)];rfl
    · rw [aY q,aV (by omega)];rfl
   rw [e2]
   have e3:s.2++[mm r.1 y]++rest.map (mm r.1)=s.2++(y::rest).map (mm r.1):=by rw [nw];rfl
   rw [e3]
   cases (bG r.1 (a_ aF y)).2 with
   | false=>rfl
   | true =>
    cases decide (i+1=(v.2.1.length:Int)) with
    | true=>rfl
    | false=>cases decide ((bx (gO r.1 y)).2<((gO r.1 y).size:Int)) <;> rfl
theorem Ar {k:Nat} (hk:2 ^ 50≤k) (r:RD) (h:DR r.1) (id:Int):d7.f k (wO r) id =
 some (wO r,((bif nj r.1 id then ((dt r.1 id).2.2.1,((dt r.1 id).2.1,(0,()))) else ([],(0,(0,())))),(nj r.1 id,()))):=by
 have hl:=h.sz.l
 have hu:=h.sz.u
 have hn:=h.sz.n
 have ht:=lA r.1 (a_ bM id)
 have hs:=tF h id
 unfold d7.f d7.t nj dt
 rw [lz,aX]
 simp only [show (wO r).1=r.1 from rfl]
 rw [jQ hk (by omega) (by omega) (by omega),aX]
 simp only []
 rw [xt hk (by omega),aX,cX,aX]
 simp only []
 rw [jQ hk (by omega) (by omega) (by omega),aX]
 simp only [show (bG r.1 (a_ aF id)).1=gO r.1 id from rfl]
 rw [y4 hk _ (by omega),aX]
 simp only []
 cases (bG r.1 (a_ bM id)).2 with
 | false=>rfl
 | true =>
  cases (km (bG r.1 (a_ bM id)).1).2 with
  | false=>rfl
  | true=>cases oJ id (gO r.1 id) (km (bG r.1 (a_ bM id)).1).1 <;> rfl
def Jq (k:Nat) (v:Ty.d ch) (en:Int) (x:Ty.d aA) (hi:Int) (dir:aS) (la:Int) (pl:ah):Option (Ty.d an × Ty.d aD × Unit) :=
 (Option.bind (db.f k (dir,(la,(0,()))) pl) fun r9=>(bif (r9.1.2.2.1 != 0) then (some ((x,(3,())),(kO,()))) else
 (Option.bind (ag.f k (x,(0,())) v) fun r10=>(some (r10.1,((v,(r9.1.1,((aQ (r9.1.2.1+1)),(en,(hi,()))))),()))))))
def QE (q:Ty.d aD × RD) (o:Option (Ty.d an × Ty.d aD × Unit)):Prop:=∃ st,o=some (wO q.2,(st,()))∧(q.2.2=0→st=q.1)∧(q.2.2≠0→q.1=kO)
theorem vn {c:Int} (h:(c==0)=false):gQ c≠0:=fun q=>by
 have:=hZ c
 rw [q,h] at this
 cases this
theorem ID {k:Nat} (hk:2 ^ 50≤k) {v:Ty.d ch} (hv:v.2.1.length≤60) (en:Int) {x:Ty.d aA} (h:DR x) (hi:Int) {dir:aS} (hd:dir.length≤1000) (la:Int) {pl:ah} (hp:pl.length≤100000000) :
 QE (Kf v en x (iK (dir,(la,(0,()))) pl) hi) (Jq k v en x hi dir la pl):=by
 unfold Jq Kf
 rw [yY hk _ (by omega) (by show dir.length≤_;omega),aX]
 simp only [bne]
 cases (iK (dir,(la,(0,()))) pl).2.2.1==0 with
 | false=>exact ⟨kO,rfl,fun q=>(by cases q),fun _=>rfl⟩
 | true =>
  simp only [fN,aJ]
  rw [show ag.f k (x,(0,())) v=_ from za hk (x,0) h (by omega),aX]
  cases c:(lk v.2.1 x).2==0 with
  | true =>
   refine ⟨E7 v en (iK (dir,(la,(0,()))) pl) hi,?_,fun _=>rfl,fun q=>absurd rfl q⟩
   show some (wO (wk (lk v.2.1) (x,0)),_)=some (wO ((lk v.2.1 x).1,0),_)
   unfold wk
   simp only [beq_self_eq_true,aa]
   rw [C9 c]
   rfl
  | false=>exact ⟨_,rfl,fun q=>absurd q (vn c),fun _=>rfl⟩
theorem Ov {k:Nat} (hk:2 ^ 50≤k) {v:Ty.d ch} (en:Int) (x:Ty.d aA) (hi:Int) (dir:aS) (la:Int) {al:List ah} (hal:∀ a ∈ al,a.length≤100000) (hz:al.length≤60) :
 aR.l0 k k al al.length 0 x.1 x.2.1 x.2.2.1 x.2.2.2.1 0 [] [] 0 0 0 0 v.2.1 v.1 [] v.1 0 en hi dir la 0 []=Jq k v en x hi dir la (ux al):=by
 refine (fe (L:=fun n i pl=>aR.l0 k n al al.length i x.1 x.2.1 x.2.2.1 x.2.2.2.1 0 [] [] 0 0 0 0 v.2.1 v.1 [] v.1 0 en hi dir la 0 pl) (R:=fun r pl=>Jq k v en x hi dir la (pl++ux r)) (Ty.z (.slice aM)) al (fun i pl=>(pl.length:Int)≤100000*i) (fun n pl hp=>?_) (fun n i pl y rest h0 h1 hy hr hp ih=>?_) (n:=k) (s:=[]) (by omega) (by simp)).trans (by rw [List.nil_append])
 · simp only [aR.l0,aR.b0]
   rw [aY (by omega),aJ,show ux []=[] from rfl,List.append_nil]
   rfl
 · have hy2:y.length≤100000:=hal y (by rw [← hy];exact fX (by omega))
   have ih:=ih (pl++y) (by rw [py];omega)
   simp only [aR.l0,aR.b0]
   rw [aV h1,aa,aN h0 h1,hy,bf (by omega) (by decide),aE (n:=i+1) (by omega) (by omega)]
   refine ih.trans ?_
   rw [nw]
   rfl
theorem P5 {k:Nat} (hk:2 ^ 50≤k) {v:Ty.d ch} (en:Int) (x:Ty.d aA) (hi:Int) (dir:aS) (la:Int) {al:List ah} (hal:∀ a ∈ al,a.length≤100000) (hz:al.length≤60) :
 aR.l1 k k al.length 0 x.1 x.2.1 x.2.2.1 x.2.2.2.1 0 [] [] 0 0 0 0 v.2.1 v.1 [] v.1 0 en hi dir la 0 [] al=Jq k v en x hi dir la (ux al):=by
 refine (fe (L:=fun n i pl=>aR.l1 k n al.length i x.1 x.2.1 x.2.2.1 x.2.2.2.1 0 [] [] 0 0 0 0 v.2.1 v.1 [] v.1 0 en hi dir la 0 pl al) (R:=fun r pl=>Jq k v en x hi dir la (pl++ux r)) (Ty.z (.slice aM)) al (fun i pl=>(pl.length:Int)≤100000*i) (fun n pl hp=>?_) (fun n i pl y rest h0 h1 hy hr hp ih=>?_) (n:=k) (s:=[]) (by omega) (by simp)).trans (by rw [List.nil_append])
 · simp only [aR.l1,aR.b1]
   rw [aY (by omega),aJ,show ux []=[] from rfl,List.append_nil]
   rfl
 · have hy2:y.length≤100000:=hal y (by rw [← hy];exact fX (by omega))
   have ih:=ih (pl++y) (by rw [py];omega)
   simp only [aR.l1,aR.b1]
   rw [aV h1,aa,aN h0 h1,hy,bf (by omega) (by decide),aE (n:=i+1) (by omega) (by omega)]
   refine ih.trans ?_
   rw [nw]
   rfl
theorem IF (k:Nat):∀ n,aR.l2 k n=aR.l0 k n
 | 0=>rfl
 | n+1=>by show aR.b2 k (aR.l2 k n)=aR.b0 k (aR.l0 k n);rw [IF k n];rfl
theorem I0 (k:Nat):∀ n,aR.l3 k n=aR.l1 k n
 | 0=>rfl
 | n+1=>by show aR.b3 k (aR.l3 k n)=aR.b1 k (aR.l1 k n);rw [I0 k n];rfl
theorem Eb {k:Nat} (hk:2 ^ 50≤k) {v:Ty.d ch} (hv:dl v=true) {d:Ty.d aA} (h:DR d) (en:Int) {x:Ty.d aA} (hx:DR x) (hsame:∀ s,bx (bG x s).1=bx (bG d s).1) :
 QE (Kf v en x (lj x v.2.1) (bif nj x (v.2.1.getD 0 0) then v.2.1.getD 0 0 else 0))
  (cD 0 (List.length v.2.1:Int) (Option.bind (d7.f k (x,(0,())) (List.getD v.2.1 0 (Ty.z (.int .i64)))) fun r8 =>
   (bif r8.2.2.1 then (cD 0 (List.length v.2.1:Int) (rP 1 (List.length (v.2.1.map (mm d)):Int)
    (aR.l0 k k (List.drop 1 (v.2.1.map (mm d))) (List.length (List.drop 1 (v.2.1.map (mm d))):Int) 0 r8.1.1.1 r8.1.1.2.1 r8.1.1.2.2.1 r8.1.1.2.2.2.1 r8.1.2.1 [] [] 0 0 0 0 v.2.1 v.1 [] v.1 0 en (List.getD v.2.1 0 (Ty.z (.int .i64))) r8.2.1.1 r8.2.1.2.1 r8.2.1.2.2.1 [])))
   else (aR.l1 k k (List.length (v.2.1.map (mm d)):Int) 0 r8.1.1.1 r8.1.1.2.1 r8.1.1.2.2.1 r8.1.1.2.2.2.1 r8.1.2.1 [] [] 0 0 0 0 v.2.1 v.1 [] v.1 0 en 0 r8.2.1.1 r8.2.1.2.1 r8.2.1.2.2.1 [] (v.2.1.map (mm d)))))):=by
 obtain ⟨_,_,hv1,hv2,_⟩:=bm (nx:=v.1) (ids:=v.2.1) hv
 have hpa:=wG hx (v.2.1.drop 1)
 have hpb:=wG hx v.2.1
 rw [List.length_drop] at hpa
 have hh:=D6 (s:=(bG x (a_ bM (v.2.1.getD 0 0))).1)
 have hal:∀ a ∈ v.2.1.map (mm d),a.length≤100000:=fun a ha=>by
  obtain ⟨y,_,rfl⟩:=List.mem_map.1 ha
  exact zC h y
 rw [aN (by omega) (by omega),show List.getD v.2.1 0 (Ty.z (.int .i64))=v.2.1.getD 0 0 from rfl,show d7.f k (x,(0,())) (v.2.1.getD 0 0)=_ from Ar hk (x,0) hx (v.2.1.getD 0 0),aX]
 unfold lj
 cases nj x (v.2.1.getD 0 0) with
 | true =>
  simp only [aa]
  rw [aN (by omega) (by omega),dL (by omega) (by rw [List.length_map];omega)]
  have:=ID hk hv2 en hx (v.2.1.getD 0 0) (dir:=(dt x (v.2.1.getD 0 0)).2.2.1) (by show (km _).1.2.2.1.length≤_;omega) (dt x (v.2.1.getD 0 0)).2.1 (pl:=kx x (v.2.1.drop 1)) (by omega)
  rw [← List.map_drop]
  rw [oc hsame,← sQ] at this
  have e:=Ov hk (v:=v) en x (v.2.1.getD 0 0) (dt x (v.2.1.getD 0 0)).2.2.1 (dt x (v.2.1.getD 0 0)).2.1 (al:=(v.2.1.drop 1).map (mm d)) (fun a ha=>by
   obtain ⟨y,_,rfl⟩:=List.mem_map.1 ha
   exact zC h y) (by rw [List.length_map,List.length_drop];omega)
  rw [← e] at this
  rw [oc hsame,← sQ]
  exact this
 | false =>
  simp only [aJ]
  have:=ID hk hv2 en hx 0 (dir:=[]) (by simp) 0 (pl:=kx x v.2.1) (by omega)
  rw [oc hsame,← sQ] at this
  have e:=P5 hk (v:=v) en x 0 [] 0 (al:=v.2.1.map (mm d)) hal (by rw [List.length_map];omega)
  rw [← e] at this
  rw [oc hsame,← sQ]
  exact this
theorem CZ {k:Nat} (hk:2 ^ 50≤k) {d:Ty.d aA} (h:DR d) {t:ByteArray} (ht:t.size≤1099511627776) :
 QE (bif !(lP t).2 then (kO,(d,3)) else D7 (lP t).1 d) (aR.f k (d,(0,())) t):=by
 have hl:=h.sz.l
 have hu:=h.sz.u
 have hn:=h.sz.n
 unfold aR.f aR.t
 rw [xz hk ht,aX]
 rcases nF (fun v=>dl v=true) c_ ((0,([],())):Ty.d ch) t with ⟨v,h1,_,e⟩ | e
 · rw [show lP t=(v,true) from e]
   obtain ⟨_,_,hv1,hv2,_⟩:=bm (nx:=v.1) (ids:=v.2.1) h1
   simp only [fN,aJ]
   rw [show bJ.f k (d,(0,())) v=_ from sU hk (d,0) h hv2,aX]
   simp only []
   unfold D7
   cases lm d v.2.1 with
   | false=>exact ⟨kO,rfl,fun q=>(by cases q),fun _=>rfl⟩
   | true =>
    have hs:=tF h (bj v.2.1)
    have hsc:=my (gO d (bj v.2.1))
    have w:aQ ((v.2.1.length:Int)-1)=((v.2.1.length-1:Nat):Int):=by rw [aE (by omega) (by omega)];omega
    simp only [fN,aJ,aa]
    rw [zK d v.2.1 0 (by intro q;rw [q] at hv1;exact absurd hv1 (by decide)),w,rI,aN (by omega) (by omega),show List.getD v.2.1 (v.2.1.length-1) (Ty.z (.int .i64))=bj v.2.1 from rfl,show v.2.1.getD (v.2.1.length-1) 0=bj v.2.1 from rfl,cX,aX]
    simp only [show (wO (d,0)).1=d from rfl]
    rw [jQ hk (by omega) (by omega) (by omega),aX,IF,I0]
    simp only [show (bG d (a_ aF (bj v.2.1))).1=gO d (bj v.2.1) from rfl]
    have fx:=PW (bj v.2.1) h
    have ft:=fun c s=>(LM h (x:=bj v.2.1) c s).2
    generalize hen:(bx (gO d (bj v.2.1))).2=en at *
    by_cases q:en<((gO d (bj v.2.1)).size:Int)
    · have ef:mK (bj v.2.1) d=eW (qT d (a_ aF (bj v.2.1)) en) fun y=>dS y (a_ aF (bj v.2.1)):=by
       unfold mK
       rw [hen,aV q]
       rfl
      rw [show (((gO d (bj v.2.1)).size:Int) != en)=true from bne_iff_ne.2 (by omega),aa,HI hk h.sz,aX]
      simp only []
      rw [sr,aX]
      simp only []
      have h2:=Dg h (a_ aF (bj v.2.1)) en
      rw [show bL.f k ((qT d (a_ aF (bj v.2.1)) en).1,(gQ (qT d (a_ aF (bj v.2.1)) en).2,())) (a_ aF (bj v.2.1))=_ from oK hk ((qT d (a_ aF (bj v.2.1)) en).1,gQ (qT d (a_ aF (bj v.2.1)) en).2) h2 _,aX]
      have e2:wk (fun x=>dS x (a_ aF (bj v.2.1))) ((qT d (a_ aF (bj v.2.1)) en).1,gQ (qT d (a_ aF (bj v.2.1)) en).2)=((mK (bj v.2.1) d).1,gQ (mK (bj v.2.1) d).2):=by
       have:=ql (fun x=>qT x (a_ aF (bj v.2.1)) en) (fun x=>dS x (a_ aF (bj v.2.1))) (d,0)
       rw [show wk (fun x=>qT x (a_ aF (bj v.2.1)) en) (d,0)=((qT d (a_ aF (bj v.2.1)) en).1,gQ (qT d (a_ aF (bj v.2.1)) en).2) from rfl] at this
       rw [← this,ef]
       rfl
      rw [e2]
      simp only [bne,show (wO ((mK (bj v.2.1) d).1,gQ (mK (bj v.2.1) d).2)).2.1=gQ (mK (bj v.2.1) d).2 from rfl,hZ]
      cases c:(mK (bj v.2.1) d).2==0 with
      | false=>exact ⟨kO,rfl,fun q=>absurd q (vn c),fun _=>rfl⟩
      | true =>
       simp only [fN,aJ]
       have c0:=C9 c
       rw [c0]
       exact Eb hk h1 h en fx (ft c0)
    · have ef:mK (bj v.2.1) d=dS d (a_ aF (bj v.2.1)):=by
       unfold mK
       rw [hen,aY q]
       rfl
      rw [show (((gO d (bj v.2.1)).size:Int) != en)=false by rw [show ((gO d (bj v.2.1)).size:Int)=en by omega];simp,aJ,oK hk (d,0) h,aX]
      have e2:wk (fun x=>dS x (a_ aF (bj v.2.1))) (d,0)=((mK (bj v.2.1) d).1,gQ (mK (bj v.2.1) d).2):=by rw [ef];rfl
      rw [e2]
      simp only [bne,show (wO ((mK (bj v.2.1) d).1,gQ (mK (bj v.2.1) d).2)).2.1=gQ (mK (bj v.2.1) d).2 from rfl,hZ]
      cases c:(mK (bj v.2.1) d).2==0 with
      | false=>exact ⟨kO,rfl,fun q=>absurd q (vn c),fun _=>rfl⟩
      | true =>
       simp only [fN,aJ]
       have c0:=C9 c
       rw [c0]
       exact Eb hk h1 h en fx (ft c0)
 · rw [show lP t=((0,([],())),false) from e]
   simp only [tR,aa]
   rw [show bJ.f k (d,(0,())) ((0,([],())):Ty.d ch)=_ from sU hk (d,0) h (by decide),aX]
   exact ⟨kO,rfl,fun q=>(by cases q),fun _=>rfl⟩
theorem E4 {k:Nat} (hk:2 ^ 50≤k) {d:Ty.d aA} (h:DR d):QE (yr d) (fL.f k (d,(0,()))):=by
 have h1:=rM (r:=((d,0):RD)) h (KJ [])
 have hn:=Fl (.inl rfl:aF=aF∨aF=bM) 1
 have h2:=rM h1 fun x hx=>HJ hx (a_ aF 1)
 unfold fL.f fL.t
 rw [show ag.f k (d,(0,())) ((0,([],())):Ty.d ch)=_ from za hk (d,0) h (v:=(0,([],()))) (by decide),aX,cX,aX]
 simp only [show ((0,(([]:List Int),())):Ty.d ch).2.1=[] from rfl]
 rw [CQ hk _ h1 (by omega),aX]
 simp only []
 rw [show ((2,([1],())):Ty.d ch)=rZ from rfl,pc hk _ h2 (by decide),aX,← ql (lk []) (fun x=>qX x (a_ aF 1)),← ql]
 unfold yr
 refine ⟨(rZ,([],(1,(0,(0,()))))),?_,?_,?_⟩
 · cases c:(ni d).2==0 with
   | true =>
    show some (wO ((ni d).1,gQ (ni d).2),_)=some (wO ((ni d).1,0),_)
    rw [C9 c]
    rfl
   | false=>rfl
 · cases c:(ni d).2==0 with
   | true=>intro _;rfl
   | false=>intro q;exact absurd q (vn c)
 · cases c:(ni d).2==0 with
   | true=>intro q;exact absurd rfl q
   | false=>intro _;rfl
theorem Fa {k:Nat} (hk:2 ^ 50≤k) {d:Ty.d aA} (hd:ED d):mI.f k d=some (oS (m8 d)):=by
 have hl:=hd.l
 have hu:=hd.u
 have hn:=hd.n
 unfold mI.f mI.t m8
 rw [gV k hl,aX,iG hk (by omega) (by omega),aX]
 cases c:j6 d with
 | false=>rfl
 | true =>
  have h:=jL.1 c
  have fin:∀ (q:Ty.d aD × RD) (o:Option (Ty.d an × Ty.d aD × Unit)),QE q o→(Option.bind o fun r4=>(bif (r4.1.2.1 != 0) then (some (kO,r4.1)) else (some (r4.2.1,(r4.1.1,(0,()))))))=some (oS q):=fun q o hq=>by
   obtain ⟨st,e,a,b⟩:=hq
   rw [e,aX]
   simp only [bne,show (wO q.2).2.1=q.2.2 from rfl]
   cases cq:q.2.2==0 with
   | true =>
    have z:=C9 cq
    rw [a z]
    show some (q.1,(q.2.1,(0,())))=some (q.1,(q.2.1,(q.2.2,())))
    rw [z]
   | false =>
    rw [tR,aa]
    show some (kO,(q.2.1,(q.2.2,())))=some (q.1,(q.2.1,(q.2.2,())))
    rw [b (fun z=>by rw [z] at cq;cases cq)]
  simp only [fN,aJ]
  cases cdn:d.2.2.2.1 with
  | true=>rfl
  | false =>
   simp only [aJ]
   rw [show (⟨#[108,105,118,101]⟩:ByteArray)=gP from rfl,jQ hk (by omega) (by omega) (by omega),aX]
   simp only []
   cases (bG d gP).2 with
   | false =>
    simp only [tR,aa,aJ]
    exact fin _ _ (E4 hk h)
   | true =>
    have hz:=lA d gP
    simp only [fN,aJ,aa]
    exact fin _ _ (CZ hk h (by omega))
noncomputable def vg (q:Ty.d aD × RD):Ty.d bO:=((q.2.2==0),(q.1,(q.2.1,(List.replicate 3 (Ty.z aK),()))))
theorem tU {k:Nat} (hk:2 ^ 50≤k) {d:Ty.d aA} (hd:ED d):fK.f k d=some (vg (m8 d),((m8 d).2.2,())):=by
 unfold fK.f fK.t
 rw [Fa hk hd,aX,pV (by omega) (by omega) (by decide)]
 rfl
def ml (n:Int):Ty.d aA:=([],(n,(-1,(false,()))))
theorem Ho {n:Int} (h0:0≤n) (h1:n≤100000):DR (ml n) :=
 ⟨Nat.zero_le _,h0,h1,show LE.le (α:=Int) (-1) (-1) from Int.le_refl _,show LE.le (α:=Int) (-1) 100000 by decide,h0,fun f hf=>(by cases hf),List.Pairwise.nil⟩
def QD (l:aS):Prop:=∀ e ∈ l,LE.le (α:=Int) 0 e.2.2.2.1
theorem Hq {l:aS} {e x:Ty.d aB} (h:x ∈ uE l e):x=e∨x ∈ l:=by
 unfold uE at h
 rcases List.mem_append.1 h with w | w
 · exact .inr (List.takeWhile_subset _ w)
 · rcases List.mem_cons.1 w with w | w
   · exact .inl w
   · exact .inr (List.dropWhile_subset _ w)
structure IV (q:Ty.d aD × RD):Prop where
 disk:DR q.2.1
 ids:q.1.1.2.1.length≤60
 dir:q.1.2.1.length≤268435456
 non:QD q.1.2.1
 sum:tQ q.1.2.1≤(tM q.2.1 q.1.1.2.1:Int)
def yI (l:du) (mark:Int):Int:=((aU (fI l mark)).size:Int)
theorem xB (r:Ty.d ba) (l:jM):(aU (r::l)).size=(aT (aI r)).size+(aU l).size:=by rw [aU,ByteArray.size_append]
theorem qy {st:Ty.d aD} {d:Ty.d aA} (c:dj st d=true):st.2.1.length≤20:=by
 unfold dj tL at c
 simp only [iA,decide_eq_true_eq] at c
 omega
def Ak (nm:ByteArray):jM→RD→RD
 | [],r=>r
 | x::l,r=>Ak nm l (eW r fun y=>jA y nm (aT (aI x)))
def dH (m:Int) (l:du) (mark:Int) (d:Ty.d aA):RD:=eW (Ak (a_ aF m) (fI l mark) (aw (a_ aF m) d)) fun y=>dS y (a_ aF m)
def iI (m:Int):du→Int→aS
 | [],_=>[]
 | p::l,at_=>(p.1,(m,(at_,(ar (cI p),(p.2.2.1,())))))::iI m l (at_+ar (cI p))
def mS (ns:List ByteArray) (r:RD):RD:=bif r.2==2 then ((bi ns r.1).1,bif (bi ns r.1).2==0 then 2 else gQ (bi ns r.1).2) else r
def kq (m:Int):List ByteArray:=[iH,a_ aF m,a_ aF (m+1),a_ bM m]
def mR:List Int→Ty.d aA→RD
 | [],d=>(d,0)
 | x::l,d=>eW (bi [a_ aF x,a_ bM x] d) (mR l)
def pO (st:Ty.d aD):Ty.d aD:=((st.1.1+2,st.1.2),st.2)
def fc (m:Int):Ty.d ch:=(m+2,([m,m+1],()))
def gq (hb:ByteArray→ByteArray) (m:Int) (d:Ty.d aA):RD :=
 bif (kv (a_ bM m) (hb (bG d (a_ aF m)).1) d).2==2 then bi [a_ bM m] (kv (a_ bM m) (hb (bG d (a_ aF m)).1) d).1 else kv (a_ bM m) (hb (bG d (a_ aF m)).1) d
def cP (hb:ByteArray→ByteArray) (st:Ty.d aD) (d:Ty.d aA) (l:du):Ty.d aD × RD :=
 bif (dH st.1.1 l (st.2.2.1-1) d).2 != 0 then (pO st,mS (kq st.1.1) (tl (dH st.1.1 l (st.2.2.1-1) d))) else
 bif (aw (a_ aF (st.1.1+1)) (dH st.1.1 l (st.2.2.1-1) d).1).2 != 0 then (pO st,mS (kq st.1.1) (tl (aw (a_ aF (st.1.1+1)) (dH st.1.1 l (st.2.2.1-1) d).1))) else
 bif (gq hb st.1.1 (aw (a_ aF (st.1.1+1)) (dH st.1.1 l (st.2.2.1-1) d).1).1).2 != 0 then (pO st,tl (gq hb st.1.1 (aw (a_ aF (st.1.1+1)) (dH st.1.1 l (st.2.2.1-1) d).1).1)) else
 bif (bB (fc st.1.1) (gq hb st.1.1 (aw (a_ aF (st.1.1+1)) (dH st.1.1 l (st.2.2.1-1) d).1).1).1).2 != 0 then
  (pO st,mS (kq st.1.1) (tl (bB (fc st.1.1) (gq hb st.1.1 (aw (a_ aF (st.1.1+1)) (dH st.1.1 l (st.2.2.1-1) d).1).1).1))) else
 ((fc st.1.1,(iI st.1.1 l 0,(st.2.2.1,(0,(0,()))))),tl (mR st.1.2.1 (bB (fc st.1.1) (gq hb st.1.1 (aw (a_ aF (st.1.1+1)) (dH st.1.1 l (st.2.2.1-1) d).1).1).1).1))
theorem lT {s:ByteArray} {d:Ty.d aA} (h:(aw s d).2=0):fT (aw s d).1 s=some ByteArray.empty:=by
 unfold aw at h ⊢
 unfold eW at h ⊢
 cases c:(gF s d).2==0 with
 | false =>
  rw [c,aJ] at h
  rw [h] at c
  cases c
 | true =>
  rw [c,aa] at h
  rw [aa]
  obtain ⟨c1,c2⟩:=nL (d:=(gF s d).1) (g:=tN s) h
  unfold fT
  show (bS (i_ (gF s d).1 (tN s)).1.1 s).map _=_
  rw [c2]
  unfold tN at c1 ⊢
  cases c3:j9 s with
  | false=>rw [c3] at c1;cases c1
  | true =>
   rw [c3] at c1
   simp only [fN,aJ] at c1 ⊢
   cases c4:(bS (gF s d).1.1 s) with
   | some f=>rw [c4] at c1;cases c1
   | none =>
    rw [c4] at c1
    simp only [Option.isSome_none,aJ] at c1 ⊢
    cases c5:decide (((gF s d).1.1.length:Int)≥130) with
    | true=>rw [c5] at c1;cases c1
    | false =>
     simp only [aJ]
     rw [yD (f:=(s,(ByteArray.empty,(0,())))) c4,bZ]
     rfl
theorem Dj (nm:ByteArray):∀ (l:jM) (r:RD),r.2≠0→Ak nm l r=r
 | [],_,_=>rfl
 | x::l,r,h=>by
  unfold Ak
  have e:eW r (fun y=>jA y nm (aT (aI x)))=r:=by
   unfold eW
   rw [pz h]
   rfl
  rw [e]
  exact Dj nm l r h
theorem Gw (nm:ByteArray):∀ (l:jM) (r:RD) (x:ByteArray),fT r.1 nm=some x→(Ak nm l r).2=0→fT (Ak nm l r).1 nm=some (x++aU l)
 | [],r,x,h,_=>by
  show fT r.1 nm=some (x++⟨#[]⟩)
  rw [h,show x++(⟨#[]⟩:ByteArray)=x from Kp x]
 | a::l,r,x,h,z=>by
  unfold Ak at z ⊢
  by_cases c:(eW r (fun y=>jA y nm (aT (aI a)))).2=0
  · obtain ⟨c1,c2,c3⟩:=kf c
    have c3:(jA r.1 nm (aT (aI a))).2=0:=c3
    have e:fT (eW r (fun y=>jA y nm (aT (aI a)))).1 nm=some (x++aT (aI a)):=by
     rw [c2]
     have:=qk (d:=r.1) (s:=nm) (x:=aT (aI a))
     rw [c3,h] at this
     exact this
    rw [Gw nm l _ _ e z]
    show some (x++aT (aI a)++aU l)=some (x++(aT (aI a)++aU l))
    rw [oe]
  · rw [Dj nm l _ c] at z
    exact absurd z c
theorem Ny {nm t:ByteArray} (h:nm≠t):∀ (l:jM) (r:RD),fT (Ak nm l r).1 t=fT r.1 t
 | [],_=>rfl
 | a::l,r=>by
  show fT (Ak nm l (eW r fun y=>jA y nm (aT (aI a)))).1 t=_
  rw [Ny h l]
  exact pN rfl fun y=>uA h
theorem Aa {m:Int} {l:du} {mark:Int} {d:Ty.d aA} {t:ByteArray} (h:a_ aF m≠t):fT (dH m l mark d).1 t=fT d t :=
 pN ((Ny h _ _).trans (lI h)) fun y=>kp
theorem qg {hb:ByteArray→ByteArray} {m:Int} {d:Ty.d aA} {t:ByteArray} (h:a_ bM m≠t):fT (gq hb m d).1 t=fT d t:=by
 unfold gq
 cases (kv (a_ bM m) (hb (bG d (a_ aF m)).1) d).2==2 with
 | false=>exact Cx h
 | true =>
  refine (oi _ _ fun s hs=>?_).trans (Cx h)
  rw [List.mem_singleton.1 hs]
  exact h
theorem u6 {t:ByteArray}:∀ (l:List Int) (d:Ty.d aA),(∀ x ∈ l,a_ aF x≠t∧a_ bM x≠t)→fT (mR l d).1 t=fT d t
 | [],_,_=>rfl
 | x::l,d,h=>by
  show fT (eW (bi [a_ aF x,a_ bM x] d) (mR l)).1 t=_
  refine pN (oi _ _ fun s hs=>?_) fun y=>u6 l y fun z hz=>h z (kR _ hz)
  have:=h x ii
  rcases List.mem_cons.1 hs with e | e
  · rw [e];exact this.1
  · rw [List.mem_singleton.1 e];exact this.2
theorem BP (m:Int):∀ (l:du) (a:Int),tQ (iI m l a)=((aU (l.map cI)).size:Int)∧QD (iI m l a)
 | [],_=>⟨rfl,fun x hx=>by cases hx⟩
 | p::l,a=>by
  obtain ⟨i1,i2⟩:=BP m l (a+ar (cI p))
  have hr:=mD (cI p)
  refine ⟨?_,fun x hx=>?_⟩
  · show ar (cI p)+tQ (iI m l (a+ar (cI p)))=_
    rw [i1,List.map_cons,xB]
    unfold ar
    omega
  · rcases List.mem_cons.1 hx with e | e
    · rw [e];exact hr.1
    · exact i2 x e
theorem ln {x y:Int} (hx:1≤x∧x≤100000) (hy:1≤y∧y≤100000):a_ bM x≠a_ aF y:=fun q=>by
 have e:a_ bM x=bM++jl x:=by unfold a_;rw [aV hx];rfl
 rw [vQ hy,e] at q
 have:=congrArg nb q
 rw [gX,gX] at this
 cases this
theorem Be {x:Int} (hx:1≤x∧x≤100000):a_ bM x≠gP:=fun q=>by
 have e:a_ bM x=bM++jl x:=by unfold a_;rw [aV hx];rfl
 rw [e] at q
 have:=congrArg nb q
 rw [gX] at this
 cases this
theorem FC {s t:ByteArray} {d:Ty.d aA} (z:(kv s t d).2=0):fT (kv s t d).1 s=some t:=by
 unfold kv at z ⊢
 obtain ⟨z1,e1,z2⟩:=kf z
 obtain ⟨z3,e2,z4⟩:=kf z1
 rw [e1,kp,e2]
 have:=qk (d:=(aw s d).1) (s:=s) (x:=t)
 rw [z4,lT z3] at this
 have this:fT (jA (aw s d).1 s t).1 s=some (ByteArray.empty++t):=this
 rw [this,show (ByteArray.empty:ByteArray)=dB [] from rfl,Df]
theorem Mw {d:Ty.d aA} {a b:ByteArray} (hd:DR d) (hab:a≠b) (z:(wB d a b).2=0):fT (wB d a b).1 b=fT d a:=by
 obtain ⟨c1,c2⟩:=nL z
 unfold fT
 show (bS (i_ d (uf a b)).1.1 b).map _=_
 rw [c2]
 unfold uf at c1 ⊢
 cases c3:j9 b with
 | false=>rw [c3] at c1;exact absurd c1 (by show (5:Int)≠0;decide)
 | true =>
  rw [c3] at c1
  simp only [fN,aJ] at c1 ⊢
  cases c4:bS d.1 a with
  | none=>rw [c4] at c1;exact absurd c1 (by show (3:Int)≠0;decide)
  | some f =>
   simp only []
   rw [kE hab,aJ]
   have hk:cU (lH (gR d.1 a)):=s9 (rD _ _) hd.keys
   show (bS (kc (gR (gR d.1 a) b) (b,f.2)) b).map _=_
   rw [yD (f:=(b,f.2)) (p8 hk b),bZ]
   rfl
theorem qj {v:Ty.d ch} {d:Ty.d aA} (hd:DR d) (z:(bB v d).2=0):fT (bB v d).1 gP=some (c_ v):=by
 unfold bB at z ⊢
 obtain ⟨z1,e1,z2⟩:=kf z
 rw [e1,Mw (jh _ _ _ hd) (by decide) z2,FC z1]
theorem zJ {n:Int} (h0:0≤n) (h1:n≤127):(jX n).size=1:=by
 unfold jX
 rw [if_pos ⟨h0,by omega⟩,← rW (by omega)]
 unfold vl
 rw [if_neg (by omega)]
 rfl
theorem GY {n:Int} (h0:0≤n) (h1:n≤2097151):(jX n).size≤3:=by
 unfold jX
 rw [if_pos ⟨h0,by omega⟩,← rW (by omega)]
 unfold vl
 split
 · rw [jj]
   unfold vl
   split
   · rw [jj]
     unfold vl
     rw [if_neg (by omega)]
     exact Nat.le_refl _
   · show 1+1≤3
     decide
 · show 1≤3
   decide
theorem MP (mark:Int) (l:jM):ar (gp 5 mark l)≤20:=by
 have key:(aI (gp 5 mark l)).size≤9:=by
  unfold aI
  by_cases c:bd (gp 5 mark l)=true
  · rw [if_pos c]
    rcases nX c with ⟨q,_⟩ | ⟨q,_⟩ | ⟨_,_,_,h1,h2,_,_,h3,h4⟩
    · exact absurd q (by show ¬ ((5:Int)=1∨(5:Int)=4);decide)
    · exact absurd q (by show ¬ ((5:Int)=2);decide)
    · rw [if_neg (by show ¬ ((5:Int)=1∨(5:Int)=4);decide),if_neg (by show ¬ ((5:Int)=2);decide),ByteArray.size_append,ByteArray.size_append,ByteArray.size_append,im]
      have e1:(jX (gp 5 mark l).1).size=1:=zJ (n:=5) (by decide) (by decide)
      have e2:=GY (n:=(gp 5 mark l).2.1) h3 (Int.le_trans h4 (by decide))
      have e3:=zJ (n:=(gp 5 mark l).2.2.2.2.1) h1 (Int.le_trans h2 (by decide))
      omega
  · rw [if_neg c]
    exact Nat.zero_le _
 unfold ar aT
 rw [if_neg (by omega),ByteArray.size_append,im]
 unfold jf
 rw [ByteArray.size_append,zJ (by omega) (by omega)]
 omega
theorem zZ (m:Int):∀ (l:du) (a:Int),(iI m l a).length=l.length
 | [],_=>rfl
 | p::l,a=>by
  show (iI m l (a+ar (cI p))).length+1=_
  rw [zZ m l]
  rfl
theorem KH {hb:ByteArray→ByteArray} {st:Ty.d aD} {d:Ty.d aA} {c:Int} {l:du} (h:IV (st,(d,c))) (hl:dl st.1=true) (hn:LE.le (α:=Int) (st.1.1+2) 100000) (hlen:l.length≤268435456) :
 IV (cP hb st d l)∧((cP hb st d l).2.2=0→(tM (cP hb st d l).2.1 (cP hb st d l).1.1.2.1:Int)=yI l (st.2.2.1-1)∧(tM (cP hb st d l).2.1 (cP hb st d l).1.1.2.1:Int)-tQ (cP hb st d l).1.2.1≤20 ∧
  fT (cP hb st d l).2.1 (a_ aF st.1.1)=some (aU (fI l (st.2.2.1-1)))∧fT (cP hb st d l).2.1 (a_ aF (st.1.1+1))=some ByteArray.empty∧(cP hb st d l).1=(fc st.1.1,(iI st.1.1 l 0,(st.2.2.1,(0,(0,()))))) ∧
  fT (cP hb st d l).2.1 gP=some (c_ (fc st.1.1))):=by
 obtain ⟨n1,n2,n3,_⟩:=gH (n:=st.1.1) (ids:=st.1.2.1) hl
 have hd:DR d:=h.disk
 have hsum:tQ st.2.1≤(tM d st.1.2.1:Int):=h.sum
 have hm:(1:Int)≤st.1.1∧st.1.1≤(100000:Int):=⟨n1,n2⟩
 have hm1:LE.le (α:=Int) 1 (st.1.1+1)∧LE.le (α:=Int) (st.1.1+1) 100000:=⟨by omega,by omega⟩
 have hseg:∀ x:Int,x ∈ st.1.2.1→1≤x∧x≤100000:=fun x hx=>⟨(n3 x hx).1,by have:=(n3 x hx).2;omega⟩
 have no1:∀ x ∈ st.1.2.1,a_ aF st.1.1≠a_ aF x:=fun x hx=>pq hm (hseg x hx) (by have:=(n3 x hx).2;omega)
 have no2:∀ x ∈ st.1.2.1,a_ aF (st.1.1+1)≠a_ aF x:=fun x hx=>pq hm1 (hseg x hx) (by have:=(n3 x hx).2;omega)
 have no3:∀ x ∈ st.1.2.1,a_ bM st.1.1≠a_ aF x:=fun x hx=>ln hm (hseg x hx)
 have no4:a_ aF (st.1.1+1)≠a_ aF st.1.1:=pq hm1 hm (by omega)
 have jump:∀ r:RD,DR r.1→(∀ x ∈ st.1.2.1,fT r.1 (a_ aF x)=fT d (a_ aF x))→IV (pO st,r):=fun r hr k=>⟨hr,h.ids,h.dir,h.non,by
  show tQ st.2.1≤(tM r.1 st.1.2.1:Int)
  rw [Bf k]
  exact hsum⟩
 have dropK:∀ (r:RD),DR r.1→(∀ x ∈ st.1.2.1,fT r.1 (a_ aF x)=fT d (a_ aF x))→r.2≠0→IV (pO st,mS (kq st.1.1) r)∧(mS (kq st.1.1) r).2≠0:=fun r hr k hz=>by
  unfold mS
  cases r.2==2 with
  | false=>exact ⟨jump r hr k,hz⟩
  | true =>
   refine ⟨jump _ (jv _ _ hr) fun x hx=>(oi _ _ fun s hs=>?_).trans (k x hx),?_⟩
   · unfold kq at hs
     rcases List.mem_cons.1 hs with e | e
     · rw [e];exact iJ (hseg x hx)
     rcases List.mem_cons.1 e with e | e
     · rw [e];exact no1 x hx
     rcases List.mem_cons.1 e with e | e
     · rw [e];exact no2 x hx
     · rw [List.mem_singleton.1 e];exact no3 x hx
   · show (bif (bi (kq st.1.1) r.1).2==0 then (2:Int) else gQ (bi (kq st.1.1) r.1).2)≠0
     cases q:(bi (kq st.1.1) r.1).2==0 with
     | true =>
      show (2:Int)≠0
      decide
     | false =>
      intro e
      have:=hZ (bi (kq st.1.1) r.1).2
      rw [q] at this
      simp only [aJ] at e
      rw [e] at this
      cases this
 have tlnz:∀ r:RD,(r.2 != 0)=true→(tl r).2≠0:=fun r q e=>by
  have:=lf r
  rw [e,q] at this
  cases this
 have a0:DR (dH st.1.1 l (st.2.2.1-1) d).1:=by
  refine jN ?_ fun x hx=>md hx _
  have:∀ (rs:jM) (r:RD),DR r.1→DR (Ak (a_ aF st.1.1) rs r).1:=by
   intro rs
   induction rs with
   | nil=>exact fun r hr=>hr
   | cons x rs ih=>exact fun r hr=>ih _ (jN hr fun y hy=>qm hy _ _)
  exact this _ _ (j3 _ _ hd)
 have a1:∀ x ∈ st.1.2.1,fT (dH st.1.1 l (st.2.2.1-1) d).1 (a_ aF x)=fT d (a_ aF x):=fun x hx=>Aa (no1 x hx)
 have a2:(dH st.1.1 l (st.2.2.1-1) d).2=0→fT (dH st.1.1 l (st.2.2.1-1) d).1 (a_ aF st.1.1)=some (aU (fI l (st.2.2.1-1))):=fun z=>by
  unfold dH at z ⊢
  obtain ⟨z1,z2,_⟩:=kf z
  rw [z2]
  rw [kp]
  have z0:(aw (a_ aF st.1.1) d).2=0:=by
   by_cases w:(aw (a_ aF st.1.1) d).2=0
   · exact w
   · rw [Dj _ _ _ w] at z1
     exact absurd z1 w
  have:=Gw (a_ aF st.1.1) (fI l (st.2.2.1-1)) (aw (a_ aF st.1.1) d) ByteArray.empty (lT z0) z1
  rw [this,show (ByteArray.empty:ByteArray)=dB [] from rfl,Df]
 unfold cP
 generalize dH st.1.1 l (st.2.2.1-1) d=a at a0 a1 a2 ⊢
 cases ca:a.2 != 0 with
 | true =>
  obtain ⟨g1,g2⟩:=dropK (tl a) a0 a1 (tlnz a ca)
  exact ⟨g1,fun e=>absurd e g2⟩
 | false =>
  have b0:=j3 (a_ aF (st.1.1+1)) a.1 a0
  have b1:∀ x ∈ st.1.2.1,fT (aw (a_ aF (st.1.1+1)) a.1).1 (a_ aF x)=fT d (a_ aF x):=fun x hx=>(lI (no2 x hx)).trans (a1 x hx)
  have b2:=(lI (d:=a.1) no4).trans (a2 (f8 ca))
  have b3:=lT (s:=a_ aF (st.1.1+1)) (d:=a.1)
  simp only [aJ]
  generalize aw (a_ aF (st.1.1+1)) a.1=b at b0 b1 b2 b3 ⊢
  cases cb:b.2 != 0 with
  | true =>
   obtain ⟨g1,g2⟩:=dropK (tl b) b0 b1 (tlnz b cb)
   exact ⟨g1,fun e=>absurd e g2⟩
  | false =>
   have b3:=b3 (f8 cb)
   have c0:DR (gq hb st.1.1 b.1).1:=by
    unfold gq
    cases (kv (a_ bM st.1.1) (hb (bG b.1 (a_ aF st.1.1)).1) b.1).2==2 with
    | true=>exact jv _ _ (jh _ _ _ b0)
    | false=>exact jh _ _ _ b0
   have c1:∀ x ∈ st.1.2.1,fT (gq hb st.1.1 b.1).1 (a_ aF x)=fT d (a_ aF x):=fun x hx=>(qg (no3 x hx)).trans (b1 x hx)
   have c2:=(qg (hb:=hb) (d:=b.1) (ln hm hm)).trans b2
   have c3:=(qg (hb:=hb) (d:=b.1) (ln hm hm1)).trans b3
   simp only [aJ]
   generalize gq hb st.1.1 b.1=e at c0 c1 c2 c3 ⊢
   cases ce:e.2 != 0 with
   | true=>exact ⟨jump (tl e) c0 c1,fun z=>absurd z (tlnz e ce)⟩
   | false =>
    have d0:=m3 (fc st.1.1) _ c0
    have d1:∀ x ∈ st.1.2.1,fT (bB (fc st.1.1) e.1).1 (a_ aF x)=fT d (a_ aF x):=fun x hx=>(fb (iJ (hseg x hx)) (jG (hseg x hx))).trans (c1 x hx)
    have d2:=(fb (d:=e.1) (v:=fc st.1.1) (iJ hm) (jG hm)).trans c2
    have d3:=(fb (d:=e.1) (v:=fc st.1.1) (iJ hm1) (jG hm1)).trans c3
    have d4:=qj (v:=fc st.1.1) c0
    simp only [aJ]
    generalize bB (fc st.1.1) e.1=f at d0 d1 d2 d3 d4 ⊢
    cases cf:f.2 != 0 with
    | true =>
     obtain ⟨g1,g2⟩:=dropK (tl f) d0 d1 (tlnz f cf)
     exact ⟨g1,fun z=>absurd z g2⟩
    | false =>
     simp only [aJ]
     have o0:∀ (ids:List Int) (x:Ty.d aA),DR x→DR (mR ids x).1:=by
      intro ids
      induction ids with
      | nil=>exact fun x hx=>hx
      | cons y ids ih=>exact fun x hx=>jN (jv _ _ hx) fun z hz=>ih z hz
     have o2:=(u6 st.1.2.1 f.1 fun x hx=>⟨fun q=>no1 x hx q.symm,ln (hseg x hx) hm⟩).trans d2
     have o3:=(u6 st.1.2.1 f.1 fun x hx=>⟨fun q=>no2 x hx q.symm,ln (hseg x hx) hm1⟩).trans d3
     have o4:=(u6 st.1.2.1 f.1 fun x hx=>⟨fun q=>jG (hseg x hx) q.symm,Be (hseg x hx)⟩).trans (d4 (f8 cf))
     have o1:=o0 st.1.2.1 f.1 d0
     generalize mR st.1.2.1 f.1=o at o1 o2 o3 o4 ⊢
     obtain ⟨l1,l2⟩:=BP st.1.1 l 0
     have hk:=MP (st.2.2.1-1) (l.map cI)
     have hk0:=(mD (gp 5 (st.2.2.1-1) (l.map cI))).1
     have tot:(tM o.1 [st.1.1,st.1.1+1]:Int)=tQ (iI st.1.1 l 0)+ar (gp 5 (st.2.2.1-1) (l.map cI)):=by
      unfold tM Pn
      rw [List.map_cons,List.map_singleton,List.sum_cons,List.sum_singleton,o2,o3,l1]
      simp only [Option.getD_some]
      unfold fI
      rw [nU,ByteArray.size_append]
      have e1:(aU [gp 5 (st.2.2.1-1) (l.map cI)]).size=(aT (aI (gp 5 (st.2.2.1-1) (l.map cI)))).size:=by rw [xB];rfl
      have e2:(ByteArray.empty:ByteArray).size=0:=rfl
      rw [e1,e2]
      unfold ar
      omega
     have tot0:(tM o.1 [st.1.1,st.1.1+1]:Int)=yI l (st.2.2.1-1):=by
      unfold tM Pn yI
      rw [List.map_cons,List.map_singleton,List.sum_cons,List.sum_singleton,o2,o3]
      rfl
     refine ⟨⟨o1,(show 2≤60 by decide),?_,l2,?_⟩,fun _=>⟨tot0,?_,o2,o3,by trivial,o4⟩⟩
     · show (iI st.1.1 l 0).length≤_
       rw [zZ]
       exact hlen
     · show tQ (iI st.1.1 l 0)≤(tM o.1 [st.1.1,st.1.1+1]:Int)
       omega
     · show (tM o.1 [st.1.1,st.1.1+1]:Int)-tQ (iI st.1.1 l 0)≤20
       omega
noncomputable def s_ (m:Int) (s:ByteArray):ByteArray:=ez (g6 m s).1
theorem ON (nm:ByteArray):∀ (rs:jM) (r:RD),DR r.1→DR (Ak nm rs r).1
 | [],_,h=>h
 | x::rs,r,h=>ON nm rs _ (jN h fun y hy=>qm hy _ _)
theorem sL (m:Int) (l:du) (mark:Int) {d:Ty.d aA} (hd:DR d):DR (dH m l mark d).1 :=
 jN (ON _ _ _ (j3 _ _ hd)) fun x hx=>md hx _
theorem LS {m:Int} (h0:1≤m) (h1:m+2≤100000):dl (fc m)=true:=by
 have e:aQ (m+2-1)=m+1:=by rw [aE (n:=m+2-1) (by omega) (by omega)];omega
 unfold dl fc
 simp only []
 rw [aV (show (1:Int)≤m+2∧m+2≤100000 from ⟨by omega,h1⟩),e]
 simp only [pR,qA,jj,List.length_nil]
 rw [aV (show (1:Int)≤m∧m≤m+1 from ⟨h0,by omega⟩),aV (show (1:Int)≤m+1∧m+1≤m+1 from ⟨by omega,by omega⟩),aV (show m<m+1 by omega)]
 rfl
noncomputable def br (st:Ty.d aD) (d:Ty.d aA):Ty.d aD × RD :=
 bif !dj st d then (st,(d,4)) else bif decide (st.1.1+2 > 100000) then (st,(d,5)) else
 bif (bX st.2.1 d).2 != 0 then (st,(d,(bX st.2.1 d).2)) else cP (s_ st.1.1) st d (bX st.2.1 d).1
theorem AM {st:Ty.d aD} {d:Ty.d aA} (h:dj st d=true):LE.le (α:=Int) 1 st.2.2.1∧LE.le (α:=Int) st.2.2.1 1000001:=by
 unfold dj at h
 simp only [iA,decide_eq_true_eq] at h
 exact h.2.2.2.1
abbrev oB:=Ty.d fk
def CI (c:oB):Prop:=(0:Int)≤c.2.1∧c.2.1≤(c.1.length:Int)∧c.1.length≤1048576
theorem Cu (y:Int):0≤aQ (((BitVec.ofInt (IntKind.bits .i64) y &&& BitVec.ofInt (IntKind.bits .i64) 255).toNat:Int))∧aQ (((BitVec.ofInt (IntKind.bits .i64) y &&& BitVec.ofInt (IntKind.bits .i64) 255).toNat:Int))≤255:=by
 have h:(BitVec.ofInt (IntKind.bits .i64) y &&& BitVec.ofInt (IntKind.bits .i64) 255).toNat≤255:=by
  rw [BitVec.toNat_and]
  exact Nat.le_trans Nat.and_le_right (by decide)
 rw [aE (by omega) (by omega)]
 omega
theorem L9 {k:Nat} (hk:2 ^ 50≤k) {l:List Int} (hl:l.length≤1048576):∃ c:oB,gT.f k l=some ((),(c,()))∧CI c:=by
 unfold gT.f gT.t
 have key:∀ (d n:Nat) (i h:Int),(l.length:Int)-i=d→0≤i→d<n→∃ c:oB,gT.l0 k n l h i=some ((),(c,()))∧CI c:=by
  intro d
  induction d with
  | zero =>
   intro n i h h1 h2 hn
   obtain ⟨n,rfl⟩:∃ q,n=q+1:=⟨n-1,by omega⟩
   simp only [gT.l0,gT.b0]
   rw [aY (show ¬ i<(l.length:Int) by omega),aJ]
   exact ⟨_,rfl,Int.le_refl _,by show (0:Int)≤(l.length:Int);omega,hl⟩
  | succ d ih =>
   intro n i h h1 h2 hn
   obtain ⟨n,rfl⟩:∃ q,n=q+1:=⟨n-1,by omega⟩
   simp only [gT.l0,gT.b0]
   rw [aV (show i<(l.length:Int) by omega),aa]
   by_cases c:i<4000
   · rw [aV c,aa,aN h2 (by omega),aE (n:=i+1) (by omega) (by omega)]
     exact ih n (i+1) _ (by omega) (by omega) (by omega)
   · rw [aY c,aJ]
     exact ⟨_,rfl,Int.le_refl _,by show (0:Int)≤(l.length:Int);omega,hl⟩
 exact key l.length k 0 _ (by omega) (by omega) (by omega)
theorem BI (k:Nat) {c:oB} (h:CI c):∃ (c':oB) (x:Int),fB.f k c=some (c',(x,()))∧CI c'∧0≤x∧x≤255:=by
 obtain ⟨b,i,hh,_⟩:=c
 change Int at i
 change Int at hh
 obtain ⟨h1,h2,h3⟩:=h
 have h1:0≤i:=h1
 have h2:i≤(b.length:Int):=h2
 have h3:b.length≤1048576:=h3
 unfold fB.f fB.t
 simp only []
 by_cases q:i<(b.length:Int)
 · rw [aV q,aa,aN h1 q,aE (n:=i+1) (by omega) (by omega)]
   refine ⟨_,_,rfl,⟨by show (0:Int)≤i+1;omega,by show i+1≤(b.length:Int);omega,h3⟩,(Cu _).1,(Cu _).2⟩
 · rw [aY q,aJ]
   exact ⟨_,_,rfl,⟨h1,h2,h3⟩,(Cu _).1,(Cu _).2⟩
theorem zq (k:Nat) {c:oB} (h:CI c) {n:Int} (h0:0<n) (h1:n≤256):∃ (c':oB) (x:Int),bN.f k c n=some (c',(x,()))∧CI c'∧0≤x∧x<n:=by
 obtain ⟨c',x,e,hc,hx0,hx1⟩:=BI k h
 unfold bN.f bN.t
 rw [aY (show ¬ n≤0 by omega),aJ,aV h1,aa,e,aX]
 simp only []
 rw [aY (show ¬ n=0 by omega),aJ]
 have e2:Int.tmod x n=x % n:=Int.tmod_eq_emod_of_nonneg hx0
 refine ⟨_,_,rfl,hc,?_,?_⟩
 · rw [e2];exact Int.emod_nonneg _ (by omega)
 · rw [e2];exact Int.emod_lt_of_pos _ h0
theorem J_ (k:Nat) {c:oB} (h:CI c) {n:Int} (h0:0<n) (h1:n≤256):∃ (c':oB) (x:Bool),gl.f k c n=some (c',(x,()))∧CI c':=by
 obtain ⟨c',x,e,hc,_,_⟩:=zq k h h0 h1
 unfold gl.f gl.t
 rw [e,aX]
 exact ⟨_,_,rfl,hc⟩
theorem My {k:Nat} (hk:2 ^ 50≤k) {l:List Int} (hl:l.length≤1048576):oU (gT.f k l) (fun r=>CI r.2.1):=by
 obtain ⟨c,e,h⟩:=L9 hk hl
 exact ⟨_,e,h⟩
theorem Kl (k:Nat) {c:oB} (h:CI c):oU (fB.f k c) (fun r=>CI r.1∧0≤r.2.1∧r.2.1≤255):=by
 obtain ⟨c',x,e,h1,h2,h3⟩:=BI k h
 exact ⟨_,e,h1,h2,h3⟩
theorem oP (k:Nat) {c:oB} (h:CI c) {n:Int} (h0:0<n) (h1:n≤256):oU (bN.f k c n) (fun r=>CI r.1∧0≤r.2.1∧r.2.1<n):=by
 obtain ⟨c',x,e,q1,q2,q3⟩:=zq k h h0 h1
 exact ⟨_,e,q1,q2,q3⟩
theorem Kk (k:Nat) {c:oB} (h:CI c) {n:Int} (h0:0<n) (h1:n≤256):oU (gl.f k c n) (fun r=>CI r.1):=by
 obtain ⟨c',x,e,q1⟩:=J_ k h h0 h1
 exact ⟨_,e,q1⟩
theorem ET (k:Nat) {c:oB} (h:CI c) {l:List ByteArray} (h0:0<l.length) (h1:l.length≤256):oU (cr.f k c l) (fun r=>CI r.1∧r.2.1 ∈ l):=by
 unfold cr.f cr.t
 refine fi (oP k h (by omega) (by omega)) fun r q=>?_
 refine yG q.2.1 q.2.2 (jz ⟨q.1,fX ?_⟩)
 have:=q.2.1
 have:=q.2.2
 omega
theorem Fi (k:Nat) {c:oB} (h:CI c) {l:List Int} (h0:0<l.length) (h1:l.length≤256):oU (ai.f k c l) (fun r=>CI r.1∧r.2.1 ∈ l):=by
 unfold ai.f ai.t
 refine fi (oP k h (by omega) (by omega)) fun r q=>?_
 refine yG q.2.1 q.2.2 (jz ⟨q.1,fX ?_⟩)
 have:=q.2.1
 have:=q.2.2
 omega
theorem JO (l:List Int):(bytesOf l).size=l.length:=by simp [bytesOf,ByteArray.size]
theorem N8 {k:Nat} (hk:2 ^ 50≤k) (st:Int) (m:Nat) (hm:m≤200):∀ (d n:Nat) (c:oB) (out:List Int),d<n→CI c→out.length+d≤m→oU (fH.l0 k n st (d:Int) c.1 c.2.1 c.2.2.1 out) (fun r=>CI r.1∧r.2.1.size≤m):=by
 intro d
 induction d with
 | zero =>
  intro n c out hn hc ho
  obtain ⟨n,rfl⟩:∃ q,n=q+1:=⟨n-1,by omega⟩
  simp only [fH.l0,fH.b0]
  refine KI (aY (by omega)) (jz ⟨hc,?_⟩)
  show (bytesOf out).size≤m
  rw [JO]
  omega
 | succ d ih =>
  intro n c out hn hc ho
  obtain ⟨n,rfl⟩:∃ q,n=q+1:=⟨n-1,by omega⟩
  have hw:aQ (((d+1:Nat):Int)-1)=(d:Int):=by rw [aE (by omega) (by omega)];omega
  simp only [fH.l0,fH.b0,hw]
  refine I5 (aV (by omega)) ?_
  refine fi (Kl k hc) fun r hr=>?_
  refine o9 (fun _=>o9 (fun _=>?_) (fun _=>?_)) (fun _=>o9 (fun _=>?_) (fun _=>?_))
  all_goals exact Ks (by omega) (by decide) (ih n r.1 _ (by omega) hr.1 (by rw [d8];omega))
theorem Lc {k:Nat} (hk:2 ^ 50≤k) {c:oB} (h:CI c) {m:Int} (h0:0≤m) (h1:m≤200):oU (fH.f k c m) (fun r=>CI r.1∧(r.2.1.size:Int)≤m):=by
 unfold fH.f fH.t
 rw [aE (n:=m+1) (by omega) (by omega)]
 refine fi (oP k h (by omega) (by omega)) fun r1 q1=>?_
 refine fi (oP k q1.1 (by omega) (by omega)) fun r2 q2=>?_
 obtain ⟨c2,a,b⟩:=q2
 have:=N8 hk r1.2.1 m.toNat (by omega) r2.2.1.toNat k r2.1 [] (by omega) c2 (by simp only [List.length_nil];omega)
 rw [show ((r2.2.1.toNat:Nat):Int)=r2.2.1 by omega] at this
 exact sV this fun r hr=>⟨hr.1,by have:=hr.2;omega⟩
theorem N6 (k:Nat) {c:oB} (h:CI c):oU (ix.f k c) (fun r=>CI r.1):=by
 unfold ix.f ix.t
 exact fi (ET k h (by decide) (by decide)) fun r q=>jz q.1
theorem F_ (hb:ByteArray→ByteArray) (st:Ty.d aD) (d:Ty.d aA) (l:du) :
 (cP hb st d l).2=(cP hb (st.1,([],st.2.2)) d l).2∧(cP hb st d l).1.1=(cP hb (st.1,([],st.2.2)) d l).1.1:=by
 unfold cP
 simp only []
 generalize dH st.1.1 l (st.2.2.1-1) d=a
 cases a.2 != 0 with
 | true=>exact ⟨rfl,rfl⟩
 | false =>
  simp only [aJ]
  generalize aw (a_ aF (st.1.1+1)) a.1=b
  cases b.2 != 0 with
  | true=>exact ⟨rfl,rfl⟩
  | false =>
   simp only [aJ]
   generalize gq hb st.1.1 b.1=e
   cases e.2 != 0 with
   | true=>exact ⟨rfl,rfl⟩
   | false =>
    simp only [aJ]
    generalize bB (fc st.1.1) e.1=f
    cases f.2 != 0 with
    | true=>exact ⟨rfl,rfl⟩
    | false=>exact ⟨rfl,rfl⟩
def EX (n:Int) (d d':Ty.d aA):Prop:=∀ x:Int,1≤x→x<n→x≤100000→∀ t,fT d (a_ aF x)=some t→∃ u,fT d' (a_ aF x)=some (t++u)
theorem JR (t:ByteArray):t++(⟨#[]⟩:ByteArray)=t:=Kp t
theorem qQ {n:Int} {d d':Ty.d aA} (h:∀ x:Int,1≤x→x<n→x≤100000→fT d' (a_ aF x)=fT d (a_ aF x)):EX n d d':=fun x h0 h1 h2 t e=>⟨⟨#[]⟩,by rw [h x h0 h1 h2,e,JR]⟩
theorem Ca (n:Int) (d:Ty.d aA):EX n d d:=qQ fun _ _ _ _=>rfl
theorem yh {n:Int} {d d' d'':Ty.d aA} (h:EX n d d') (g:EX n d' d''):EX n d d'':=fun x h0 h1 h2 t e=>by
 obtain ⟨u,hu⟩:=h x h0 h1 h2 t e
 obtain ⟨v,hv⟩:=g x h0 h1 h2 _ hu
 exact ⟨u++v,by rw [hv,oe]⟩
theorem N9 {n m:Int} {d d':Ty.d aA} (h:EX m d d') (q:n≤m):EX n d d':=fun x h0 h1 h2 t e=>h x h0 (by omega) h2 t e
theorem OV (n:Int) (d:Ty.d aA) (s x:ByteArray):EX n d (jA d s x).1:=fun y h0 h1 h2 t e=>by
 by_cases q:s=a_ aF y
 · subst q
   have:=qk (d:=d) (s:=a_ aF y) (x:=x)
   rw [e] at this
   cases c:(jA d (a_ aF y) x).2==0 with
   | true=>rw [c] at this;exact ⟨x,this⟩
   | false=>rw [c] at this;exact ⟨⟨#[]⟩,by rw [this,JR];rfl⟩
 · exact ⟨⟨#[]⟩,by rw [uA q,e,JR]⟩
theorem PD (n:Int) (d:Ty.d aA) (s:ByteArray):EX n d (dS d s).1:=qQ fun x _ _ _=>kp
theorem Ng {st:Ty.d aD} {d:Ty.d aA} (hl:dl st.1=true) :
 EX st.1.1 d (gu st d).2.1∧LE.le (α:=Int) st.1.1 (gu st d).1.1.1∧(gu st d).1.2.2.1=st.2.2.1:=by
 obtain ⟨n1,n2,n3,_⟩:=gH (n:=st.1.1) (ids:=st.1.2.1) hl
 have hnew:∀ x:Int,1≤x→x<st.1.1→x≤100000→a_ aF st.1.1≠a_ aF x:=fun x h0 h1 h2=>pq ⟨n1,n2⟩ ⟨h0,h2⟩ (by omega)
 have k1:∀ x:Int,1≤x→x<st.1.1→x≤100000→fT (dS d (bR st)).1 (a_ aF x)=fT d (a_ aF x):=fun x _ _ _=>kp
 have k2:∀ x:Int,1≤x→x<st.1.1→x≤100000→fT (aw (a_ aF st.1.1) (dS d (bR st)).1).1 (a_ aF x)=fT d (a_ aF x):=fun x h0 h1 h2=>(lI (hnew x h0 h1 h2)).trans (k1 x h0 h1 h2)
 have k3:∀ x:Int,1≤x→x<st.1.1→x≤100000→fT (bB (kZ st) (aw (a_ aF st.1.1) (dS d (bR st)).1).1).1 (a_ aF x)=fT d (a_ aF x):=fun x h0 h1 h2=>(fb (iJ ⟨h0,h2⟩) (jG ⟨h0,h2⟩)).trans (k2 x h0 h1 h2)
 unfold gu
 cases decide ((st.1.2.1.length:Int)≥60) with
 | true=>exact ⟨Ca _ _,Int.le_refl _,rfl⟩
 | false =>
  cases decide (st.1.1≥(100000:Int)) with
  | true=>exact ⟨Ca _ _,Int.le_refl _,rfl⟩
  | false =>
   have up:LE.le (α:=Int) st.1.1 (st.1.1+1):=by omega
   simp only [aJ]
   generalize dS d (bR st)=r1 at k1 k2 k3 ⊢
   generalize aw (a_ aF st.1.1) r1.1=r2 at k2 k3 ⊢
   generalize bB (kZ st) r2.1=r3 at k3 ⊢
   cases r1.2 != 0 with
   | true=>exact ⟨qQ k1,Int.le_refl _,rfl⟩
   | false =>
    cases r2.2 != 0 with
    | true=>exact ⟨qQ k2,up,rfl⟩
    | false =>
     cases r3.2 != 0 with
     | true =>
      refine ⟨?_,up,rfl⟩
      simp only [aa,aJ]
      unfold qY
      cases (tl r3).2==2 with
      | false=>exact qQ k3
      | true =>
       refine qQ fun x h0 h1 h2=>?_
       refine (oi [iH,a_ aF st.1.1] r3.1 fun s hs=>?_).trans (k3 x h0 h1 h2)
       rcases List.mem_cons.1 hs with e | e
       · rw [e];exact iJ ⟨h0,h2⟩
       · rw [List.mem_singleton.1 e];exact hnew x h0 h1 h2
     | false=>exact ⟨qQ k3,up,rfl⟩
theorem IW {st:Ty.d aD} (hl:dl st.1=true):LE.le (α:=Int) 1 (bj st.1.2.1)∧LT.lt (α:=Int) (bj st.1.2.1) st.1.1:=by
 obtain ⟨n1,n2,n3,n4⟩:=gH (n:=st.1.1) (ids:=st.1.2.1) hl
 obtain ⟨_,_,g1,_,_⟩:=bm (nx:=st.1.1) (ids:=st.1.2.1) hl
 have hs:=m5 g1
 have hlast:bj st.1.2.1 ∈ st.1.2.1:=by rw [hs];exact List.mem_append_right _ (List.mem_singleton.2 (by rw [← hs]))
 exact n3 _ hlast
theorem IP {st:Ty.d aD} {d:Ty.d aA} (hl:dl st.1=true) (r:Ty.d ba) (n:Int) :
 EX n d (iT st d r).1.2.1∧(iT st d r).1.1.1=st.1∧(iT st d r).1.1.2.2.1=st.2.2.1∧((iT st d r).1.2.2=0→LE.le (α:=Int) 1 (iT st d r).2.1∧LT.lt (α:=Int) (iT st d r).2.1 st.1.1):=by
 have hE:=OV n d (bR st) (aT (aI r))
 unfold iT
 generalize jA d (bR st) (aT (aI r))=a at hE ⊢
 cases c:a.2 != 0 with
 | true =>
  refine ⟨hE,rfl,rfl,fun e=>?_⟩
  have e:(tl a).2=0:=e
  have q:=lf a
  rw [e,c] at q
  cases q
 | false=>exact ⟨hE,rfl,rfl,fun _=>IW hl⟩
theorem Hy {st:Ty.d aD} {d:Ty.d aA} (hl:dl st.1=true) (hd:DR d) (r:Ty.d ba) :
 EX st.1.1 d (eI st d r).1.2.1∧LE.le (α:=Int) st.1.1 (eI st d r).1.1.1.1∧(eI st d r).1.1.2.2.1=st.2.2.1∧((eI st d r).1.2.2=0→LE.le (α:=Int) 1 (eI st d r).2.1∧LT.lt (α:=Int) (eI st d r).2.1 (eI st d r).1.1.1.1):=by
 unfold eI
 cases decide (st.2.2.2.1 > 0)&&decide (st.2.2.2.1+ar r > 200) with
 | false =>
  obtain ⟨s1,s2,s3,s4⟩:=IP (d:=d) hl r st.1.1
  simp only [aJ]
  rw [s2]
  exact ⟨s1,Int.le_refl _,s3,s4⟩
 | true =>
  obtain ⟨g1,g2,g3,g4⟩:=se hl hd
  obtain ⟨t1,t2,t3⟩:=Ng (d:=d) hl
  simp only [aa]
  generalize gu st d=q at g1 g2 g3 g4 t1 t2 t3 ⊢
  cases c:q.2.2 != 0 with
  | true =>
   refine ⟨t1,t2,t3,fun e=>?_⟩
   have e:q.2.2=0:=e
   rw [e] at c
   cases c
  | false =>
   obtain ⟨s1,s2,s3,s4⟩:=IP (d:=q.2.1) g1 r st.1.1
   simp only [aJ]
   rw [s2]
   exact ⟨yh t1 s1,t2,s3.trans t3,s4⟩
theorem F1:∀ (l:jM) (st:Ty.d aD) (d:Ty.d aA) (ps:ah) (B:Int),SR st (d,0) B→0≤B→(∀ p ∈ ps,LE.le (α:=Int) 1 p.1∧LT.lt (α:=Int) p.1 st.1.1) →
 EX st.1.1 d (d5 l st d ps).1.2.1∧LE.le (α:=Int) st.1.1 (d5 l st d ps).1.1.1.1∧(d5 l st d ps).1.1.2.2.1=st.2.2.1∧∀ p ∈ (d5 l st d ps).2,LE.le (α:=Int) 1 p.1∧LT.lt (α:=Int) p.1 (d5 l st d ps).1.1.1.1
 | [],st,d,ps,B,_,_,hp=>⟨Ca _ _,Int.le_refl _,rfl,hp⟩
 | r::l,st,d,ps,B,h,hB,hp=>by
  obtain ⟨g1,g2,g3⟩:=w9 h hB r
  obtain ⟨s1,s2,s3,s4⟩:=Hy (d:=d) h.live h.disk r
  unfold d5
  generalize eI st d r=q at g1 g2 g3 s1 s2 s3 s4 ⊢
  have up:∀ p ∈ ps,LE.le (α:=Int) 1 p.1∧LT.lt (α:=Int) p.1 q.1.1.1.1:=fun p hq=>⟨(hp p hq).1,Int.lt_of_lt_of_le (hp p hq).2 s2⟩
  cases c:q.1.2.2 != 0 with
  | true=>exact ⟨s1,s2,s3,up⟩
  | false =>
   have e0:=f8 c
   obtain ⟨i1,i2,i3,i4⟩:=F1 l q.1.1 q.1.2.1 (ps++[q.2]) (B+211) ⟨g1.live,g1.disk,g1.lo,g1.hi⟩ (by omega) fun p hq=>by
    rcases List.mem_append.1 hq with w | w
    · exact up p w
    · rw [List.mem_singleton.1 w]
      exact s4 e0
   simp only [aJ]
   exact ⟨yh s1 (N9 i1 s2),Int.le_trans s2 i2,i3.trans s3,i4⟩
theorem LG {d:aS} {p:Ty.d aM} {e:Ty.d aB} (h:e ∈ fy d p):(e=dV p∧(p.2.2.2.1.1==2)=false)∨e ∈ d:=by
 unfold fy at h
 cases c:p.2.2.2.1.1==2 with
 | true=>rw [c,aa] at h;exact .inr ((List.mem_filter.1 h).1)
 | false =>
  rw [c,aJ] at h
  rcases Hq h with w | w
  · exact .inl ⟨w,rfl⟩
  · exact .inr ((List.mem_filter.1 w).1)
theorem oO {e:Ty.d aB}:∀ (ps:ah) {d:aS},e ∈ cV d ps→(∃ p ∈ ps,e=dV p∧(p.2.2.2.1.1==2)=false)∨e ∈ d
 | [],d,h => .inr h
 | p::ps,d,h=>by
  rcases oO ps (d:=fy d p) h with ⟨q,hq,w⟩ | w
  · exact .inl ⟨q,kR _ hq,w⟩
  · rcases LG w with w | w
    · exact .inl ⟨p,ii,w⟩
    · exact .inr w
theorem wU {s t:ByteArray} {i n:Int} (h:(iU s i n).2=true):iU (s++t) i n=iU s i n:=by
 unfold iU at h ⊢
 by_cases c:0≤i∧i≤s.size∧1≤n∧n≤s.size-i
 · have hz:(s++t).size=s.size+t.size:=ByteArray.size_append ..
   have e:ByteArray.extract (s++t) i.toNat (i+n).toNat=ByteArray.extract s i.toNat (i+n).toNat:=by
    refine kJ ?_
    rw [uI,uI,gX,List.take_append_of_le_length (by rw [dW];omega)]
   rw [if_pos c,if_pos (show 0≤i∧i≤(s++t).size∧1≤n∧n≤(s++t).size-i from ⟨c.1,by omega,c.2.2.1,by omega⟩),e]
 · rw [if_neg c] at h
   cases h
theorem zd {n:Int} {d d':Ty.d aA} {e:Ty.d aB} (hd:DR d) (hd':DR d') (hx:EX n d d') (h1:LE.le (α:=Int) 1 e.2.1) (h2:LT.lt (α:=Int) e.2.1 n) (h3:LE.le (α:=Int) e.2.1 100000) (h:(dc d e).2=true):dc d' e=dc d e:=by
 unfold dc at h ⊢
 rw [iV hd] at h
 rw [iV hd,iV hd']
 cases c:fT d (a_ aF e.2.1) with
 | none =>
  rw [c] at h
  have h:(iU ⟨#[]⟩ e.2.2.1 e.2.2.2.1).2=true:=h
  rw [Ed] at h
  cases h
 | some t =>
  obtain ⟨u,hu⟩:=hx e.2.1 h1 h2 h3 t c
  rw [c] at h
  rw [hu]
  exact wU h
def EI (st:Ty.d aD):Prop:=∀ e ∈ st.2.1,LE.le (α:=Int) 1 e.2.1∧LT.lt (α:=Int) e.2.1 st.1.1
def FL (s:ByteArray):Prop:=∃ rs:jM,(∀ r ∈ rs,bd r=true)∧s=aU rs
theorem NB (s:ByteArray):∀ (d:Nat) (i:Int),0≤i→i≤s.size→(s.size:Int)-i<d→(g7 s d i).2=(s.size:Int)→FL (ByteArray.extract s i.toNat s.size):=by
 intro d
 induction d with
 | zero=>intro i h0 h1 h2 _;omega
 | succ d ih =>
  intro i h0 h1 h2 h
  have stop:i=(s.size:Int)→FL (ByteArray.extract s i.toNat s.size):=fun e=>by
   rw [e,Int.toNat_natCast,Eu]
   exact ⟨[],fun r hr=>(by cases hr),rfl⟩
  rw [g7] at h
  by_cases c1:(h_ (ByteArray.extract s i.toNat s.size)).2=0
  · rw [if_pos c1] at h
    exact stop h
  · rw [if_neg c1] at h
    cases c2:(iw (h_ (ByteArray.extract s i.toNat s.size)).1).2 with
    | false =>
     rw [if_pos c2] at h
     exact stop h
    | true =>
     rw [if_neg (by rw [c2];decide)] at h
     have hu:=oQ (ByteArray.extract s i.toNat s.size)
     have hz:=sB s i.toNat
     have ih:=ih (i+(h_ (ByteArray.extract s i.toNat s.size)).2) (by omega) (by omega) (by omega) h
     rcases nK (ByteArray.extract s i.toNat s.size) with ⟨t,r,ht,e1,e2⟩ | ⟨e2,_⟩
     · rw [e2] at ih c2
       simp only [] at ih c2
       have e3:ByteArray.extract s (i+((aT t).size:Int)).toNat s.size=r:=by
        apply kJ
        have hnb:=congrArg nb e1
        rw [j7,gX] at hnb
        rw [j7,show (i+((aT t).size:Int)).toNat=i.toNat+(aT t).size by omega,← List.drop_drop,hnb,List.drop_left' (dW _)]
       rw [e3] at ih
       obtain ⟨rs,k1,k2⟩:=ih
       obtain ⟨g1,g2⟩:=zH (s:=t) (r:=(iw t).1) (Prod.ext rfl c2)
       refine ⟨(iw t).1::rs,fun x hx=>?_,?_⟩
       · rcases List.mem_cons.1 hx with e | e
         · rw [e];exact g1
         · exact k1 x e
       · rw [e1,k2,aU,g2]
     · exact absurd (by rw [e2]) c1
theorem Jc (s:ByteArray):ByteArray.extract s 0 s.size=s:=kJ (by rw [j7,List.drop_zero])
theorem NT {s:ByteArray} (h:(bx s).2=(s.size:Int)):FL s:=by
 have:=NB s (s.size+1) 0 (by omega) (by omega) (by omega) h
 rw [show (0:Int).toNat=0 from rfl,Jc] at this
 exact this
theorem Ba {s:ByteArray} (h:FL s):(bx s).2=(s.size:Int):=by
 obtain ⟨rs,h1,h2⟩:=h
 rw [h2]
 exact (rC h1).2
theorem AF (r:Ty.d ba):aU [r]=aT (aI r):=JR _
theorem LW {s:ByteArray} {r:Ty.d ba} (h:FL s) (hr:bd r=true):FL (s++aT (aI r)):=by
 obtain ⟨rs,h1,h2⟩:=h
 refine ⟨rs++[r],fun x hx=>?_,?_⟩
 · rcases List.mem_append.1 hx with e | e
   · exact h1 x e
   · rw [List.mem_singleton.1 e];exact hr
 · rw [nU,AF,h2]
theorem Jf:FL ⟨#[]⟩:=⟨[],fun r hr=>(by cases hr),rfl⟩
theorem sZ (r:Ty.d ba):5≤ar r∧ar r≤210:=by
 have h1:=lU r
 have h2:=lG (s:=aI r) (by omega)
 have h3:(aT (aI r)).size≤74:=by
  unfold aT
  rw [if_neg (by omega)]
  have h4:=im (sP (jf (aI r)))
  have h5:=bK ((aI r).size:Int)
  rw [ByteArray.size_append]
  unfold jf at h4 ⊢
  rw [ByteArray.size_append]
  omega
 unfold ar
 omega
theorem sg (t:ByteArray) {r:Ty.d ba} (h:bd r=true):iU (t++aT (aI r)) (t.size:Int) (ar r)=(r,true):=by
 have hz:=lU r
 have hp:=sZ r
 have hl:((aT (aI r)).size:Int)=ar r:=rfl
 have hs:(t++aT (aI r)).size=t.size+(aT (aI r)).size:=ByteArray.size_append ..
 have e:ByteArray.extract (t++aT (aI r)) (t.size:Int).toNat ((t.size:Int)+ar r).toNat=aT (aI r):=by
  rw [Int.toNat_natCast,show ((t.size:Int)+ar r).toNat=(t++aT (aI r)).size by omega]
  exact gJ _ _
 have e2:h_ (aT (aI r))=(aI r,((aT (aI r)).size:Int)):=by
  have:=oI ⟨#[]⟩ (t:=aI r) (by omega)
  rw [JR] at this
  exact this
 unfold iU
 rw [if_pos ⟨by omega,by omega,by omega,by omega⟩,e,e2]
 simp only []
 rw [if_pos hl,vN h]
def OC (x:Ty.d aB):Bool:=eT x.1&&(decide ((1:Int)≤x.2.1∧x.2.1≤100000)&&(!decide (x.2.2.1<(0:Int))&&(decide ((1:Int)≤x.2.2.2.1∧x.2.2.2.1≤210)&&decide ((1:Int)≤x.2.2.2.2.1∧x.2.2.2.2.1≤1000000))))
theorem Jw (p:Option (Ty.d aB)) (x:Ty.d aB):ug p x=true↔(OC x=true∧∀ q,p=some q→nT q.1 x.1=true):=by
 unfold ug OC
 simp only [iA]
 cases p with
 | none=>exact ⟨fun h=>⟨⟨h.1,h.2.1,h.2.2.1,h.2.2.2.1,h.2.2.2.2.1⟩,fun q hq=>(by cases hq)⟩,fun h=>⟨h.1.1,h.1.2.1,h.1.2.2.1,h.1.2.2.2.1,h.1.2.2.2.2,rfl⟩⟩
 | some y=>exact ⟨fun h=>⟨⟨h.1,h.2.1,h.2.2.1,h.2.2.2.1,h.2.2.2.2.1⟩,fun q hq=>(by cases hq;exact h.2.2.2.2.2)⟩,fun h=>⟨h.1.1,h.1.2.1,h.1.2.2.1,h.1.2.2.2.1,h.1.2.2.2.2,h.2 y rfl⟩⟩
def gw (l:aS):List ByteArray:=l.map (·.1)
theorem Hz:∀ (l:aS) (p:Option (Ty.d aB)),pR ug p l=true↔((∀ f ∈ l,OC f=true)∧cU (gw l)∧(∀ q,p=some q→∀ f ∈ l,nT q.1 f.1=true))
 | [],p=>by
  constructor
  · intro _
    exact ⟨fun f h=>(by cases h),List.Pairwise.nil,fun q _ f h=>(by cases h)⟩
  · intro _;rfl
 | g::l,p=>by
  have ih:=Hz l (some g)
  unfold pR
  rw [iA,ih,Jw]
  constructor
  · rintro ⟨⟨h1,h2⟩,h3,h4,h5⟩
    refine ⟨fun f hf=>?_,?_,fun q hq f hf=>?_⟩
    · rcases List.mem_cons.1 hf with e | e
      · rw [e];exact h1
      · exact h3 f e
    · unfold cU gw
      rw [List.map_cons,List.pairwise_cons]
      refine ⟨fun x hx=>?_,h4⟩
      obtain ⟨f,hf,rfl⟩:=List.mem_map.1 hx
      exact h5 g rfl f hf
    · rcases List.mem_cons.1 hf with e | e
      · rw [e];exact h2 q hq
      · exact oL (h2 q hq) (h5 g rfl f e)
  · rintro ⟨h1,h2,h3⟩
    unfold cU gw at h2
    rw [List.map_cons,List.pairwise_cons] at h2
    refine ⟨⟨h1 g (ii ..),fun q hq=>h3 q hq g (ii ..)⟩,fun f hf=>h1 f (kR _ hf),h2.2,fun q hq f hf=>?_⟩
    cases hq
    exact h2.1 f.1 (List.mem_map.2 ⟨f,hf,rfl⟩)
theorem ur {l:aS}:tL l=true↔(l.length≤20∧(∀ f ∈ l,OC f=true)∧cU (gw l)):=by
 unfold tL
 rw [iA,decide_eq_true_eq,Hz]
 exact ⟨fun h=>⟨by omega,h.2.1,h.2.2.1⟩,fun h=>⟨by omega,h.2.1,h.2.2,fun q hq=>(by cases hq)⟩⟩
theorem BX (key:ByteArray) {l:aS} (h:cU (gw l)):cU (gw (lY l key)):=List.Pairwise.sublist (List.Sublist.map _ List.filter_sublist) h
theorem CN {α:Type} (key:α→ByteArray) {e:α}:∀ {l:List α},cU (l.map key)→(∀ g ∈ l,key g≠key e)→cU ((l.takeWhile (fun x=>nT (key x) (key e)||seq (key x) (key e))++e::l.dropWhile (fun x=>nT (key x) (key e)||seq (key x) (key e))).map key)
 | [],_,_=>List.pairwise_singleton ..
 | g::l,h,hn=>by
  have h':=h
  unfold cU at h'
  rw [List.map_cons,List.pairwise_cons] at h'
  have ih:=CN key (e:=e) (l:=l) h'.2 fun x hx=>hn x (kR _ hx)
  rw [List.takeWhile_cons,List.dropWhile_cons]
  have hne:=hn g ii
  cases c:(nT (key g) (key e)||seq (key g) (key e)) with
  | true =>
   rw [if_pos rfl,if_pos rfl]
   unfold cU at ih ⊢
   rw [List.cons_append,List.map_cons,List.pairwise_cons]
   refine ⟨fun x hx=>?_,ih⟩
   have hge:nT (key g) (key e)=true:=by
    rw [kE hne,Bool.or_false] at c
    exact c
   obtain ⟨y,hy,rfl⟩:=List.mem_map.1 hx
   rcases List.mem_append.1 hy with w | w
   · exact h'.1 (key y) (List.mem_map.2 ⟨y,List.takeWhile_subset _ w,rfl⟩)
   · rcases List.mem_cons.1 w with w | w
     · rw [w];exact hge
     · exact h'.1 (key y) (List.mem_map.2 ⟨y,List.dropWhile_subset _ w,rfl⟩)
  | false =>
   rw [if_neg (by decide),if_neg (by decide),List.nil_append]
   rw [kE hne,Bool.or_false] at c
   have hlt:nT (key e) (key g)=true:=by
    have:=sx (key e) (key g)
    rw [kE (fun q=>hne q.symm),c] at this
    simpa using this
   unfold cU
   rw [List.map_cons,List.pairwise_cons]
   refine ⟨fun x hx=>?_,h⟩
   obtain ⟨y,hy,rfl⟩:=List.mem_map.1 hx
   rcases List.mem_cons.1 hy with w | w
   · rw [w];exact hlt
   · exact oL hlt (h'.1 (key y) (List.mem_map.2 ⟨y,w,rfl⟩))
theorem M2 {e:Ty.d aB} {l:aS} (h:cU (gw l)) (hn:∀ g ∈ l,g.1≠e.1):cU (gw (uE l e)):=CN (fun x:Ty.d aB=>x.1) h hn
theorem Nn {l:aS} {key:ByteArray}:∀ g ∈ lY l key,g.1≠key:=fun g hg q=>by
 unfold lY at hg
 rw [List.mem_filter] at hg
 have:=hg.2
 rw [q,bZ] at this
 cases this
theorem Jh {d:aS} (p:Ty.d aM) (h:cU (gw d)):cU (gw (fy d p)):=by
 unfold fy
 cases p.2.2.2.1.1==2 with
 | true=>exact BX _ h
 | false=>exact M2 (BX _ h) Nn
theorem qi:∀ (ps:ah) {d:aS},cU (gw d)→cU (gw (cV d ps))
 | [],_,h=>h
 | p::ps,d,h=>qi ps (d:=fy d p) (Jh p h)
structure BT (st:Ty.d aD) (d:Ty.d aA):Prop where
 live:dl st.1=true
 disk:DR d
 full:∀ x ∈ st.1.2.1,∃ t,fT d (a_ aF x)=some t∧FL t
 tail:∀ t,fT d (bR st)=some t→st.2.2.2.1=(t.size:Int)
theorem ww {d:Ty.d aA} (hd:DR d) (s:ByteArray):(bG d s).2=(fT d s).isSome:=by
 rw [m6 hd]
 unfold fT
 cases bS d.1 s <;> rfl
theorem ud {d:Ty.d aA} (hd:DR d) {tail:Int}:∀ {l:List Int},pf d tail l=true↔((∀ x ∈ l,∃ t,fT d (a_ aF x)=some t∧FL t)∧(l≠[]→∀ t,fT d (a_ aF (bj l))=some t→tail=(t.size:Int)))
 | []=>⟨fun _=>⟨fun x hx=>(by cases hx),fun h=>absurd rfl h⟩,fun _=>rfl⟩
 | x::l=>by
  have ih:=ud hd (tail:=tail) (l:=l)
  have hl:l≠[]→bj (x::l)=bj l:=fun h=>by
   unfold bj
   cases l with
   | nil=>exact absurd rfl h
   | cons y r=>simp [List.getD]
  unfold pf IE
  simp only [iA]
  rw [ih,ww hd,iV hd]
  constructor
  · rintro ⟨⟨h1,h2,h3⟩,h4,h5⟩
    obtain ⟨t,ht⟩:=Option.isSome_iff_exists.1 h1
    rw [ht] at h2 h3
    simp only [Option.getD_some,decide_eq_true_eq] at h2
    refine ⟨fun y hy=>?_,fun _ u hu=>?_⟩
    · rcases List.mem_cons.1 hy with e | e
      · rw [e];exact ⟨t,ht,NT h2⟩
      · exact h4 y e
    · by_cases c:l=[]
      · subst c
        have e:bj [x]=x:=rfl
        rw [e,ht] at hu
        have hu:=Option.some.inj hu
        rw [← hu]
        simp only [List.isEmpty_nil,fN,Bool.false_or,Option.getD_some] at h3
        exact C9 h3
      · rw [hl c] at hu
        exact h5 c u hu
  · rintro ⟨h1,h2⟩
    obtain ⟨t,ht,hf⟩:=h1 x ii
    rw [ht]
    simp only [Option.isSome_some,Option.getD_some,decide_eq_true_eq]
    refine ⟨⟨by trivial,Ba hf,?_⟩,fun y hy=>h1 y (kR _ hy),fun c u hu=>h2 (by simp) u (by rw [hl c];exact hu)⟩
    cases l with
    | nil =>
     have:=h2 (by simp) t (by rw [show bj [x]=x from rfl];exact ht)
     rw [this]
     simp
    | cons y r=>rfl
theorem s7 {st:Ty.d aD} {d:Ty.d aA} (h:dj st d=true):BT st d:=by
 obtain ⟨g1,g2,g3⟩:=dM h
 unfold dj at h
 simp only [iA] at h
 obtain ⟨_,_,k1,_,_⟩:=bm (nx:=st.1.1) (ids:=st.1.2.1) g1.live
 obtain ⟨q1,q2⟩:=(ud g1.disk).1 h.2.2.2.2.1
 exact ⟨g1.live,g1.disk,q1,q2 (by intro e;rw [e] at k1;simp at k1)⟩
def PK (d:Ty.d aA) (p:Ty.d aM):Prop:=dc d (dV p)=(gA p,true)
def PE (p:Ty.d aM):Prop:=(LE.le (α:=Int) 1 p.1∧LE.le (α:=Int) p.1 100000)∧LE.le (α:=Int) 0 p.2.1∧LE.le (α:=Int) 1 p.2.2.1∧LE.le (α:=Int) p.2.2.1 210
theorem Li {st:Ty.d aD} {d:Ty.d aA} (h:BT st d) {r:Ty.d ba} (hr:bd r=true) (z:(iT st d r).1.2.2=0):BT (iT st d r).1.1 (iT st d r).1.2.1∧PK (iT st d r).1.2.1 (iT st d r).2∧PE (iT st d r).2:=by
 obtain ⟨b1,b2⟩:=IW h.live
 obtain ⟨n1,n2,n3,n4⟩:=gH (n:=st.1.1) (ids:=st.1.2.1) h.live
 obtain ⟨_,_,g1,_,_⟩:=bm (nx:=st.1.1) (ids:=st.1.2.1) h.live
 have hlast:bj st.1.2.1 ∈ st.1.2.1:=by
  have hs:=m5 g1
  rw [hs]
  exact List.mem_append_right _ (List.mem_singleton.2 (by rw [← hs]))
 have hz:=sZ r
 have hl:((aT (aI r)).size:Int)=ar r:=rfl
 obtain ⟨t,ht,hf⟩:=h.full _ hlast
 have ht:fT d (bR st)=some t:=ht
 have htl:=h.tail t ht
 have ha:=qm h.disk (bR st) (aT (aI r))
 have ko:∀ s,bR st≠s→fT (jA d (bR st) (aT (aI r))).1 s=fT d s:=fun s q=>uA q
 have kl:=qk (d:=d) (s:=bR st) (x:=aT (aI r))
 unfold iT at z ⊢
 generalize jA d (bR st) (aT (aI r))=a at ha ko kl z ⊢
 cases c:a.2 != 0 with
 | true =>
  rw [c] at z
  have z:(tl a).2=0:=z
  have q:=lf a
  rw [z,c] at q
  cases q
 | false =>
  have c0:(a.2==0)=true:=beq_iff_eq.2 (f8 c)
  rw [c0,aa,ht] at kl
  have kl:fT a.1 (bR st)=some (t++aT (aI r)):=kl
  simp only [aJ]
  refine ⟨⟨h.live,ha,fun x hx=>?_,fun u hu=>?_⟩,?_,?_⟩
  · by_cases q:bR st=a_ aF x
    · rw [← q]
      exact ⟨_,kl,LW hf hr⟩
    · show ∃ t,fT a.1 (a_ aF x)=some t∧FL t
      rw [ko _ q]
      exact h.full x hx
  · have hu:fT a.1 (bR st)=some u:=hu
    rw [kl] at hu
    rw [← Option.some.inj hu,ByteArray.size_append]
    show @Eq Int (st.2.2.2.1+ar r) ((t.size+(aT (aI r)).size:Nat):Int)
    rw [htl]
    omega
  · show iU (bG a.1 (bR st)).1 st.2.2.2.1 (ar r)=(r,true)
    rw [iV ha,kl,htl]
    exact sg t hr
  · refine ⟨⟨b1,by show LE.le (α:=Int) (bj st.1.2.1) 100000;omega⟩,?_,?_,?_⟩
    · show LE.le (α:=Int) 0 st.2.2.2.1
      rw [htl]
      omega
    · show LE.le (α:=Int) 1 (ar r)
      omega
    · show LE.le (α:=Int) (ar r) 210
      omega
theorem uV (l:List Int) (n:Int):bj (l++[n])=n:=by
 unfold bj
 simp [List.getD]
theorem GG {st:Ty.d aD} {d:Ty.d aA} (h:BT st d) (z:(gu st d).2.2=0):BT (gu st d).1 (gu st d).2.1:=by
 obtain ⟨n1,n2,n3,_⟩:=gH (n:=st.1.1) (ids:=st.1.2.1) h.live
 have hseg:∀ x:Int,x ∈ st.1.2.1→1≤x∧x≤100000:=fun x hx=>⟨(n3 x hx).1,by have:=(n3 x hx).2;omega⟩
 have hnew:∀ x ∈ st.1.2.1,a_ aF st.1.1≠a_ aF x:=fun x hx=>pq ⟨n1,n2⟩ (hseg x hx) (by have:=(n3 x hx).2;omega)
 have k2:∀ x ∈ st.1.2.1,fT (aw (a_ aF st.1.1) (dS d (bR st)).1).1 (a_ aF x)=fT d (a_ aF x):=fun x hx=>(lI (hnew x hx)).trans kp
 have k3:∀ x ∈ st.1.2.1,fT (bB (kZ st) (aw (a_ aF st.1.1) (dS d (bR st)).1).1).1 (a_ aF x)=fT d (a_ aF x):=fun x hx=>(fb (iJ (hseg x hx)) (jG (hseg x hx))).trans (k2 x hx)
 have o2:=lT (s:=a_ aF st.1.1) (d:=(dS d (bR st)).1)
 have o3:fT (bB (kZ st) (aw (a_ aF st.1.1) (dS d (bR st)).1).1).1 (a_ aF st.1.1)=fT (aw (a_ aF st.1.1) (dS d (bR st)).1).1 (a_ aF st.1.1):=fb (iJ ⟨n1,n2⟩) (jG ⟨n1,n2⟩)
 have h1:=md h.disk (bR st)
 have h2:=j3 (a_ aF st.1.1) _ h1
 have h3:=m3 (kZ st) _ h2
 unfold gu at z ⊢
 by_cases c1:(st.1.2.1.length:Int)≥60
 · rw [aV c1] at z
   exact absurd z (by show (5:Int)≠0;decide)
 by_cases c2:st.1.1≥(100000:Int)
 · rw [aY c1,aV c2] at z
   exact absurd z (by show (5:Int)≠0;decide)
 have c1':st.1.2.1.length<60:=by omega
 have c2':LT.lt (α:=Int) st.1.1 100000:=Int.not_le.1 c2
 have hg:dl (uC st).1=true:=Bd h.live c2' c1'
 rw [aY c1,aY c2] at z ⊢
 simp only [aJ] at z ⊢
 generalize dS d (bR st)=r1 at h1 h2 h3 k2 k3 o2 o3 z ⊢
 generalize aw (a_ aF st.1.1) r1.1=r2 at h2 h3 k2 k3 o2 o3 z ⊢
 generalize bB (kZ st) r2.1=r3 at h3 k3 o3 z ⊢
 have tlz:∀ r:RD,(r.2 != 0)=true→(tl r).2≠0:=fun r q e=>by
  have:=lf r
  rw [e,q] at this
  cases this
 cases e1:r1.2 != 0 with
 | true=>rw [e1] at z;exact absurd z (tlz r1 e1)
 | false =>
  rw [e1] at z
  simp only [aJ] at z ⊢
  cases e2:r2.2 != 0 with
  | true=>rw [e2] at z;exact absurd z (tlz r2 e2)
  | false =>
   rw [e2] at z
   simp only [aJ] at z ⊢
   have o2:=o2 (f8 e2)
   cases e3:r3.2 != 0 with
   | true =>
    rw [e3] at z
    simp only [aa] at z
    refine absurd z ?_
    unfold qY
    cases q:(tl r3).2==2 with
    | false=>exact tlz r3 e3
    | true =>
     show (bif (bi [iH,a_ aF st.1.1] (tl r3).1).2==0 then (2:Int) else gQ (bi [iH,a_ aF st.1.1] (tl r3).1).2)≠0
     cases w:(bi [iH,a_ aF st.1.1] (tl r3).1).2==0 with
     | true=>show (2:Int)≠0;decide
     | false =>
      intro e
      have:=hZ (bi [iH,a_ aF st.1.1] (tl r3).1).2
      rw [w] at this
      simp only [aJ] at e
      rw [e] at this
      cases this
   | false =>
    simp only [aJ]
    refine ⟨hg,h3,fun x hx=>?_,fun u hu=>?_⟩
    · have hx:x ∈ st.1.2.1++[st.1.1]:=hx
      rcases List.mem_append.1 hx with w | w
      · show ∃ t,fT r3.1 (a_ aF x)=some t∧FL t
        rw [k3 x w]
        exact h.full x w
      · rw [List.mem_singleton.1 w]
        exact ⟨_,o3.trans o2,Jf⟩
    · have hu:fT r3.1 (a_ aF (bj (st.1.2.1++[st.1.1])))=some u:=hu
      rw [uV,o3,o2] at hu
      rw [← Option.some.inj hu]
      rfl
theorem Ga {st:Ty.d aD} {d:Ty.d aA} (h:BT st d) {r:Ty.d ba} (hr:bd r=true) (z:(eI st d r).1.2.2=0):BT (eI st d r).1.1 (eI st d r).1.2.1∧PK (eI st d r).1.2.1 (eI st d r).2∧PE (eI st d r).2:=by
 have hq:=GG h
 unfold eI at z ⊢
 cases c:decide (st.2.2.2.1 > 0)&&decide (st.2.2.2.1+ar r > 200) with
 | false =>
  rw [c] at z
  exact Li h hr z
 | true =>
  rw [c] at z
  simp only [aa] at z ⊢
  generalize gu st d=q at hq z ⊢
  cases c2:q.2.2 != 0 with
  | true =>
   rw [c2] at z
   have z:q.2.2=0:=z
   rw [z] at c2
   cases c2
  | false =>
   rw [c2] at z
   exact Li (hq (f8 c2)) hr z
theorem yL:∀ (l:jM) (st:Ty.d aD) (d:Ty.d aA) (ps:ah),BT st d→(∀ r ∈ l,bd r=true)→(∀ p ∈ ps,PK d p∧PE p∧LT.lt (α:=Int) p.1 st.1.1)→(d5 l st d ps).1.2.2=0 →
 BT (d5 l st d ps).1.1 (d5 l st d ps).1.2.1∧∀ p ∈ (d5 l st d ps).2,PK (d5 l st d ps).1.2.1 p∧PE p∧LT.lt (α:=Int) p.1 (d5 l st d ps).1.1.1.1
 | [],st,d,ps,h,_,hp,_=>⟨h,hp⟩
 | r::l,st,d,ps,h,hr,hp,z=>by
  have hb:=Ga h (hr r ii)
  obtain ⟨s1,s2,s3,s4⟩:=Hy (d:=d) h.live h.disk r
  unfold d5 at z ⊢
  generalize eI st d r=q at hb s1 s2 s3 s4 z ⊢
  cases c:q.1.2.2 != 0 with
  | true =>
   rw [c] at z
   have z:q.1.2.2=0:=z
   rw [z] at c
   cases c
  | false =>
   have e0:=f8 c
   obtain ⟨k1,k2,k3⟩:=hb e0
   rw [c] at z
   simp only [aJ] at z ⊢
   refine yL l q.1.1 q.1.2.1 (ps++[q.2]) k1 (fun x hx=>hr x (kR _ hx)) (fun p hq=>?_) z
   rcases List.mem_append.1 hq with w | w
   · obtain ⟨p1,p2,p3⟩:=hp p w
     refine ⟨?_,p2,Int.lt_of_lt_of_le p3 s2⟩
     have p1':dc d (dV p)=(gA p,true):=p1
     show dc q.1.2.1 (dV p)=(gA p,true)
     rw [zd h.disk k1.disk s1 p2.1.1 p3 p2.1.2 (by rw [p1']),p1']
   · rw [List.mem_singleton.1 w]
     exact ⟨k2,k3,(s4 e0).2⟩
theorem oC {l:fC} {b:Int} (h:dN l=true) (h0:1≤b) (h1:b≤1000000):∀ r ∈ dT l b,bd r=true:=by
 intro r hr
 unfold dT at hr
 rcases List.mem_append.1 hr with w | w
 · obtain ⟨x,hx,e⟩:=List.mem_map.1 w
   have hp:=uY h hx
   unfold jB eT at hp
   simp only [iA] at hp
   rw [← e]
   unfold gW bd
   cases c:x.2.1 with
   | true =>
    simp only [aa]
    rw [show ((2:Int)==1||(2:Int)==4)=false from rfl,show ((2:Int)==2)=true from rfl]
    simp only [aJ,aa]
    rw [hp.1,aV (show 1≤b∧b≤1000000 from ⟨h0,h1⟩),show seq ByteArray.empty ⟨#[]⟩=true from bZ _]
    rfl
   | false =>
    simp only [aJ]
    rw [show ((1:Int)==1||(1:Int)==4)=true from rfl]
    simp only [aa]
    rw [hp.1,hp.2.1,aV (show 1≤b∧b≤1000000 from ⟨h0,h1⟩)]
    rfl
 · have hl:=nI h
   have hs:=I3 (l.map (gW b))
   rw [List.mem_singleton.1 w]
   unfold gp bd
   rw [show ((3:Int)==1||(3:Int)==4)=false from rfl,show ((3:Int)==2)=false from rfl,show ((3:Int)==3)=true from rfl]
   simp only [aJ,aa]
   rw [aV (show (0:Int)≤((l.map (gW b)).length:Int)∧((l.map (gW b)).length:Int)≤8 by rw [List.length_map];omega),aV (show 0≤Ez (l.map (gW b))∧Ez (l.map (gW b))≤4294967295 from hs),aV (show 1≤b∧b≤1000000 from ⟨h0,h1⟩),show seq ByteArray.empty ⟨#[]⟩=true from bZ _]
   rfl
def Qi (key x:ByteArray):Bool:=nT x key||seq x key
def NS (K:List ByteArray) (key:ByteArray):List ByteArray:=K.takeWhile (Qi key)++key::K.dropWhile (Qi key)
theorem oN (l:aS) (key:ByteArray):gw (lY l key)=(gw l).filter fun x=>!(seq x key):=by
 unfold gw lY
 rw [List.filter_map]
 rfl
theorem ze (l:aS) (e:Ty.d aB):gw (uE l e)=NS (gw l) e.1:=by
 unfold gw uE NS
 rw [List.map_append,List.map_cons,List.takeWhile_map,List.dropWhile_map]
 rfl
theorem CL:∀ (l:fC) (d d' es fs:aS),gw d=gw d'→gw es=gw fs→gw (ny d l es)=gw (ny d' l fs)
 | [],d,d',es,fs,h,_=>by rw [og,og];exact h
 | x::l,d,d',[],[],h,_=>by unfold ny;exact h
 | x::l,d,d',e::es,[],_,g=>by cases g
 | x::l,d,d',[],f::fs,_,g=>by cases g
 | x::l,d,d',e::es,f::fs,h,g=>by
  unfold gw at g
  rw [List.map_cons,List.map_cons] at g
  injection g with g1 g2
  unfold ny
  refine CL l _ _ es fs ?_ g2
  cases x.2.1 with
  | true=>simp only [aa];rw [oN,oN,h]
  | false =>
   simp only [aJ]
   unfold rB
   rw [ze,ze,oN,oN,h,g1]
theorem Pv {a:Int} (h:1≤a) (g:a≤1000000):1≤a+1∧a+1≤1000001:=by omega
theorem QY (a:Int):¬ a≥a+1:=by omega
theorem QG {a b:Int} (h:¬ b≥a):¬ b≥a+1:=by omega
theorem xU {st:Ty.d aD} {d:Ty.d aA} {l:fC} (hs:dj st d=true) (he:EI st) (hp:dN l=true) (hb:LE.le (α:=Int) st.2.2.1 1000000) (ha:nn st.2.1 l≤20) (z:(cN st d l).2.2=0):dj (cN st d l).1 (cN st d l).2.1=true ∧
 (∀ e ∈ (cN st d l).1.2.1,(e ∈ st.2.1∧dc (cN st d l).2.1 e=dc d e)∨∃ x ∈ l,x.2.1=false∧e.1=x.1∧dc (cN st d l).2.1 e=(gW st.2.2.1 x,true)) ∧
 gw (cN st d l).1.2.1=gw (ny st.2.1 l (l.map wQ)) ∧
 ∃ ps:ah,(cN st d l).1.2.1=cV st.2.1 ps∧ps.map gA=l.map (gW st.2.2.1)∧(∀ p ∈ ps,dc (cN st d l).2.1 (dV p)=(gA p,true))∧∀ e ∈ st.2.1,dc (cN st d l).2.1 e=dc d e:=by
 obtain ⟨g1,g2,g3⟩:=dM hs
 have hBT:=s7 hs
 have hs':=hs
 unfold dj at hs'
 simp only [iA] at hs'
 obtain ⟨_,_,hdir,_,_,hent⟩:=hs'
 obtain ⟨d1,d2,d3⟩:=ur.1 hdir
 have hl8:=nI hp
 have hbat:SR (kz st) (d,0) 100000:=⟨g1.live,g1.disk,g1.lo,g1.hi⟩
 obtain ⟨f1,f2,f3⟩:=uX (dT l st.2.2.1) (kz st) d [] 100000 hbat (by decide)
 obtain ⟨s1,s2,s3,s4⟩:=F1 (dT l st.2.2.1) (kz st) d [] 100000 hbat (by decide) (fun x hx=>by cases hx)
 have hB:=yL (dT l st.2.2.1) (kz st) d [] ⟨hBT.live,hBT.disk,hBT.full,hBT.tail⟩ (oC hp g3 hb) (fun x hx=>by cases hx)
 unfold cN at z ⊢
 generalize d5 (dT l st.2.2.1) (kz st) d []=q at f1 f2 f3 s1 s2 s3 s4 hB z ⊢
 have e2:q.1.1.2.1=st.2.1:=f2
 have s1:EX st.1.1 d q.1.2.1:=s1
 have s3:q.1.1.2.2.1=st.2.2.1+1:=s3
 unfold xx at z ⊢
 cases c:q.1.2.2 != 0 with
 | true =>
  rw [c] at z
  have z:q.1.2.2=0:=z
  rw [z] at c
  cases c
 | false =>
  rw [c] at z
  simp only [aJ] at z ⊢
  have c0:=f8 c
  have f3:=f3 c0
  rw [List.map_nil,List.nil_append] at f3
  obtain ⟨hB1,hB2⟩:=hB c0
  have y0:=yh s1 (PD st.1.1 q.1.2.1 (bR q.1.1))
  have y1:=md hB1.disk (bR q.1.1)
  have y2:∀ s,fT (dS q.1.2.1 (bR q.1.1)).1 s=fT q.1.2.1 s:=fun s=>kp
  generalize dS q.1.2.1 (bR q.1.1)=y at y0 y1 y2 z ⊢
  cases cy:y.2 != 0 with
  | true =>
   rw [cy] at z
   have z:(tl y).2=0:=z
   have q:=lf y
   rw [z,cy] at q
   cases q
  | false =>
   simp only [aJ]
   have hrp:∀ p ∈ q.2.take l.length,gA p ∈ l.map (gW st.2.2.1):=fun p hp=>by
    have h1:(q.2.take l.length).map gA=l.map (gW st.2.2.1):=by
     rw [List.map_take,f3]
     unfold dT
     rw [List.take_append_of_le_length (by rw [List.length_map];omega),List.take_of_length_le (by rw [List.length_map];omega)]
    rw [← h1]
    exact List.mem_map.2 ⟨p,hp,rfl⟩
   have hPK:∀ p ∈ q.2.take l.length,dc y.1 (dV p)=(gA p,true):=fun p hp=>by
    obtain ⟨p1,_,_⟩:=hB2 p (List.mem_of_mem_take hp)
    have p1:dc q.1.2.1 (dV p)=(gA p,true):=p1
    rw [← p1]
    unfold dc
    rw [iV y1,iV hB1.disk,y2]
   have newE:∀ e ∈ cV q.1.1.2.1 (q.2.take l.length),(∃ p ∈ q.2.take l.length,e=dV p∧(p.2.2.2.1.1==2)=false)∨e ∈ st.2.1:=fun e hq=>by
    rw [e2] at hq
    exact oO _ hq
   have hput:∀ p ∈ q.2.take l.length,eT (dV p).1=true∧(gA p).2.1=st.2.2.1∧((gA p).1=1∨(gA p).1=2):=fun p hq=>by
    obtain ⟨x,hx,e⟩:=List.mem_map.1 (hrp p hq)
    have hk:=uY hp hx
    unfold jB at hk
    simp only [iA] at hk
    refine ⟨?_,?_,?_⟩
    · show eT (gA p).2.2.1=true
      rw [← e]
      unfold gW
      cases x.2.1 <;> exact hk.1
    · rw [← e]
      unfold gW
      cases x.2.1 <;> rfl
    · rw [← e]
      unfold gW
      cases x.2.1
      · exact .inl rfl
      · exact .inr rfl
   have hkeys:gw (cV st.2.1 (q.2.take l.length))=gw (ny st.2.1 l (l.map wQ)):=by
    have k1:gw (ny st.2.1 l (q.2.map dV))=gw (ny st.2.1 l (l.map wQ++[wQ (ByteArray.empty,(false,(ByteArray.empty,())))])):=by
     refine CL l _ _ _ _ rfl ?_
     unfold gw
     rw [List.map_map,show q.2.map ((fun x:Ty.d aB=>x.1) ∘ dV)=(q.2.map gA).map (fun r:Ty.d ba=>r.2.2.1) from by rw [List.map_map];rfl,f3]
     unfold dT
     rw [List.map_append,List.map_append,List.map_map,List.map_map]
     congr 1
     refine List.map_congr_left fun x _=>?_
     show (gW st.2.2.1 x).2.2.1=x.1
     unfold gW
     cases x.2.1 <;> rfl
    have k2:∀ (l:fC) (d:aS) (m:aS),ny d l (l.map wQ++m)=ny d l (l.map wQ):=by
     intro l
     induction l with
     | nil=>intro d m;rw [og,og]
     | cons x l ih =>
      intro d m
      rw [List.map_cons,List.cons_append]
      unfold ny
      exact ih _ m
    rw [k2,uH st.2.2.1 l q.2 [gp 3 st.2.2.1 (l.map (gW st.2.2.1))] st.2.1 f3] at k1
    exact k1
   have oldE:∀ e ∈ st.2.1,dc y.1 e=dc d e:=fun e w=>by
    have hin:=List.all_eq_true.1 hent e w
    obtain ⟨i1,i2⟩:=he e w
    have i3:LE.le (α:=Int) e.2.1 100000:=by
     have:=d2 e w
     unfold OC at this
     simp only [iA,decide_eq_true_eq] at this
     exact this.2.1.2
    unfold pI at hin
    simp only [iA] at hin
    exact zd g1.disk y1 y0 i1 i2 i3 hin.1
   refine ⟨?_,fun e hq=>?_,by show gw (cV q.1.1.2.1 (q.2.take l.length))=_;rw [e2];exact hkeys,q.2.take l.length,by show cV q.1.1.2.1 (q.2.take l.length)=_;rw [e2],?_,hPK,oldE⟩
   rotate_left
   rotate_left
   · rw [List.map_take,f3]
     unfold dT
     rw [List.take_append_of_le_length (by rw [List.length_map];omega),List.take_of_length_le (by rw [List.length_map];omega)]
   rotate_left
   · show (e ∈ st.2.1∧dc y.1 e=dc d e)∨∃ x ∈ l,x.2.1=false∧e.1=x.1∧dc y.1 e=(gW st.2.2.1 x,true)
     rcases newE e hq with ⟨p,hq',w,kd⟩ | w
     · obtain ⟨x,hx,ex⟩:=List.mem_map.1 (hrp p hq')
       have kd:((gA p).1==2)=false:=kd
       have cx:x.2.1=false:=by
        cases c:x.2.1 with
        | false=>rfl
        | true =>
         rw [← ex] at kd
         unfold gW at kd
         rw [c] at kd
         cases kd
       refine .inr ⟨x,hx,cx,?_,?_⟩
       · rw [w]
         show (gA p).2.2.1=x.1
         rw [← ex]
         unfold gW
         rw [cx]
         rfl
       · rw [w,hPK p hq',ex]
     · exact .inl ⟨w,oldE e w⟩
   unfold dj
   simp only [iA]
   refine ⟨jL.2 y1,hB1.live,ur.2 ⟨?_,fun e hq=>?_,?_⟩,decide_eq_true ?_,(ud y1).2 ⟨fun x hx=>?_,fun _ u hu=>?_⟩,List.all_eq_true.2 fun e hq=>?_⟩
   · have k3:=congrArg List.length hkeys
     unfold gw at k3
     rw [List.length_map,List.length_map] at k3
     show (cV q.1.1.2.1 (q.2.take l.length)).length≤20
     rw [e2,k3]
     unfold nn at ha
     omega
   · rcases newE e hq with ⟨p,hq',w,_⟩ | w
     · obtain ⟨_,p2,_⟩:=hB2 p (List.mem_of_mem_take hq')
       obtain ⟨u1,u2,u3⟩:=hput p hq'
       rw [w]
       unfold OC
       rw [u1,aV (show (1:Int)≤(dV p).2.1∧(dV p).2.1≤100000 from p2.1),aY (show ¬ (dV p).2.2.1<(0:Int) from Int.not_lt.2 p2.2.1),aV (show (1:Int)≤(dV p).2.2.2.1∧(dV p).2.2.2.1≤210 from p2.2.2),
        aV (show (1:Int)≤(dV p).2.2.2.2.1∧(dV p).2.2.2.2.1≤1000000 from by show (1:Int)≤(gA p).2.1∧(gA p).2.1≤1000000;rw [u2];exact ⟨g3,hb⟩)]
       rfl
     · exact d2 e w
   · show cU (gw (cV q.1.1.2.1 (q.2.take l.length)))
     rw [e2]
     exact qi _ d3
   · show (1:Int)≤q.1.1.2.2.1∧q.1.1.2.2.1≤1000001
     rw [s3]
     exact Pv g3 hb
   · show ∃ t,fT y.1 (a_ aF x)=some t∧FL t
     rw [y2]
     exact hB1.full x hx
   · have hu:fT y.1 (bR q.1.1)=some u:=hu
     rw [y2] at hu
     exact hB1.tail u hu
   · show pI y.1 q.1.1.2.2.1 e=true
     rw [s3]
     rcases newE e hq with ⟨p,hq',w,kd⟩ | w
     · obtain ⟨u1,u2,u3⟩:=hput p hq'
       have hr:=hPK p hq'
       have kd:((gA p).1==2)=false:=kd
       have k1:(gA p).1=1:=by
        rcases u3 with v | v
        · exact v
        · rw [v] at kd;cases kd
       unfold pI
       rw [w,hr]
       simp only []
       rw [show (dV p).1=(gA p).2.2.1 from rfl,bZ,show (dV p).2.2.2.2.1=(gA p).2.1 from rfl,beq_self_eq_true,k1,u2,aY (QY st.2.2.1)]
       rfl
     · have hin:=List.all_eq_true.1 hent e w
       obtain ⟨i1,i2⟩:=he e w
       have i3:LE.le (α:=Int) e.2.1 100000:=by
        have:=d2 e w
        unfold OC at this
        simp only [iA,decide_eq_true_eq] at this
        exact this.2.1.2
       unfold pI at hin ⊢
       simp only [iA] at hin ⊢
       rw [zd g1.disk y1 y0 i1 i2 i3 hin.1]
       refine ⟨hin.1,hin.2.1,hin.2.2.1,hin.2.2.2.1,?_⟩
       have hlt:=hin.2.2.2.2
       simp only [Bool.not_eq_true',decide_eq_false_iff_not] at hlt ⊢
       exact QG hlt
theorem wW:∀ l:List Nat,(∀ b ∈ l,48≤b∧b≤57)→lV l=true
 | [],_=>rfl
 | b::l,h=>by
  unfold lV
  rw [wW l fun x hx=>h x (kR _ hx),aV (h b ii),Bool.or_true]
  rfl
theorem vp {n:Int} (h:1≤n∧n≤100000):j9 (a_ aF n)=true:=by
 have hz:=mw (n:=n) (by omega) (by omega)
 have h3:aF.size=3:=rfl
 rw [vQ h]
 have hs:(aF++jl n).size=3+(jl n).size:=by rw [ByteArray.size_append,h3]
 have hl:(jl n).size≤6:=by
  rw [← dW,pF,if_neg (by omega),List.length_map]
  have:=kh 5 n.toNat (by omega)
  omega
 unfold j9
 rw [aV (show 1≤(aF++jl n).size∧(aF++jl n).size≤12 from ⟨by omega,by omega⟩),Bool.and_true,gX,pF,if_neg (by omega)]
 show lV (115::101::103::(Lib.decDigits n.toNat).map UInt8.toNat)=true
 simp only [lV]
 rw [wW _ fun b hb=>?_]
 · decide
 · obtain ⟨x,hx,rfl⟩:=List.mem_map.1 hb
   exact kX _ x hx
structure RM (d:Ty.d aA) (F U:Nat):Prop where
 disk:DR d
 fuel:d.2.2.1=(-1:Int)
 up:d.2.2.2.1=false
 cap:d.2.1=(100000:Int)
 files:d.1.length≤F
 use:di d.1≤U
theorem RM.mono {d:Ty.d aA} {F U F' U':Nat} (h:RM d F U) (h1:F≤F') (h2:U≤U'):RM d F' U':=⟨h.disk,h.fuel,h.up,h.cap,Nat.le_trans h.files h1,Nat.le_trans h.use h2⟩
theorem LJ {d:Ty.d aA} {F U:Nat} (h:RM d F U):li d=(d,0):=by
 unfold li
 rw [jL.2 h.disk,h.up,h.fuel]
 rfl
theorem vt {d:Ty.d aA} {F U F' U':Nat} (h:RM d F U) {g:bo→Int→bo × Int} (hd:DR (i_ d g).1) (h1:(g d.1 d.2.1).1.length≤F') (h2:di (g d.1 d.2.1).1≤U'):RM (i_ d g).1 F' U'∧(i_ d g).2=(g d.1 d.2.1).2:=by
 have e:i_ d g=(((g d.1 d.2.1).1,d.2),(g d.1 d.2.1).2):=by
  unfold i_
  rw [LJ h]
  rfl
 rw [e] at hd ⊢
 exact ⟨⟨hd,h.fuel,h.up,h.cap,h1,h2⟩,rfl⟩
theorem Cq {d:Ty.d aA} {s:ByteArray}:bS d.1 s=none↔fT d s=none:=by
 unfold fT
 cases bS d.1 s <;> simp
theorem M7 {d:Ty.d aA} {F U:Nat} (h:RM d F U) (hF:F<130) {s:ByteArray} (hn:j9 s=true) (hx:bS d.1 s=none):RM (qX d s).1 (F+1) U∧(qX d s).2=0:=by
 have hg:tN s d.1 d.2.1=(kc d.1 (s,(ByteArray.empty,(0,()))),0):=by
  unfold tN
  rw [hn,hx,aY (by have:=h.files;omega)]
  rfl
 have:=vt h (g:=tN s) (HJ h.disk s) (F':=F+1) (U':=U) (by rw [hg];show (kc _ _).length≤_;rw [vL];have:=h.files;omega) (by rw [hg];show di (kc _ _)≤_;rw [sJ];exact h.use)
 rw [hg] at this
 exact this
theorem PR {d:Ty.d aA} {F U:Nat} (h:RM d F U) {s:ByteArray} (hx:(bS d.1 s).isSome=true):RM (xw d s).1 F U∧(xw d s).2=0∧bS (xw d s).1.1 s=none:=by
 have hn:(bS d.1 s).isNone=false:=by cases q:bS d.1 s with
  | none=>rw [q] at hx;cases hx
  | some f=>rfl
 have hg:uN s d.1 d.2.1=(gR d.1 s,0):=by
  unfold uN
  rw [hn]
  rfl
 have hl:∀ (l:bo),(gR l s).length≤l.length:=by
  intro l
  induction l with
  | nil=>exact Nat.le_refl _
  | cons g l ih =>
   unfold gR
   cases seq g.1 s with
   | true=>exact Nat.le_succ _
   | false=>show (gR l s).length+1≤l.length+1;omega
 have:=vt h (g:=uN s) (KU h.disk s) (F':=F) (U':=U) (by rw [hg];exact Nat.le_trans (hl _) h.files) (by rw [hg];exact Nat.le_trans (pU _ _) h.use)
 rw [hg] at this
 refine ⟨this.1,this.2,?_⟩
 have e:(xw d s).1.1=gR d.1 s:=by
  show (i_ d (uN s)).1.1=_
  unfold i_
  rw [LJ h,hg]
  rfl
 rw [e]
 exact p8 h.disk.keys s
theorem Io {d:Ty.d aA} {F U:Nat} (h:RM d F U) (s:ByteArray):RM (gF s d).1 F U∧(gF s d).2=0∧bS (gF s d).1.1 s=none:=by
 unfold gF
 cases c:(bS d.1 s).isSome with
 | true=>exact PR h c
 | false =>
  refine ⟨h,rfl,?_⟩
  cases q:bS d.1 s with
  | none=>exact q
  | some f=>rw [q] at c;cases c
theorem oF {r:RD} {f:Ty.d aA→RD} (h:r.2=0):eW r f=f r.1:=by
 unfold eW
 rw [h]
 rfl
theorem vB {d:Ty.d aA} {F U:Nat} (h:RM d F U) (hF:F<130) {s:ByteArray} (hn:j9 s=true):RM (aw s d).1 (F+1) U∧(aw s d).2=0:=by
 obtain ⟨g1,g2,g3⟩:=Io h s
 unfold aw
 rw [oF g2]
 exact M7 g1 hF hn g3
theorem Hc {d:Ty.d aA} {F U:Nat} (h:RM d F U) {s x:ByteArray} {n:Nat} (hx:(fT d s).isSome=true) (hn:x.size≤n) (hU:U+n≤100000):RM (jA d s x).1 F (U+n)∧(jA d s x).2=0:=by
 unfold fT at hx
 have hu:=h.use
 cases q:bS d.1 s with
 | none=>rw [q] at hx;cases hx
 | some f =>
  have hg:yZ s x d.1 d.2.1=(ky (fun f=>(f.1,(f.2.1++x,f.2.2))) d.1 s,0):=by
   unfold yZ
   rw [q,h.cap,aE (n:=100000-(di d.1:Int)) (by omega) (by omega),aY (by omega)]
   rfl
  have hz:=qH (h:=fun f:Ty.d cE=>(f.1,(f.2.1++x,f.2.2))) q
  have hs:(f.2.1++x).size=f.2.1.size+x.size:=ByteArray.size_append ..
  simp only [] at hz
  have:=vt h (g:=yZ s x) (qm h.disk s x) (F':=F) (U':=U+n) (by rw [hg];show (ky _ _ _).length≤_;rw [tC];exact h.files) (by rw [hg];show di (ky _ _ _)≤_;omega)
  rw [hg] at this
  exact this
theorem wa {d:Ty.d aA} {F U:Nat} (h:RM d F U) {s:ByteArray} (hx:(fT d s).isSome=true):RM (dS d s).1 F U∧(dS d s).2=0:=by
 unfold fT at hx
 have hu:=h.use
 cases q:bS d.1 s with
 | none=>rw [q] at hx;cases hx
 | some f =>
  have hg:va s d.1 d.2.1=(ky (fun f=>(f.1,(f.2.1,((f.2.1.size:Int),f.2.2.2)))) d.1 s,0):=by
   unfold va
   rw [q]
   rfl
  have hz:=qH (h:=fun f:Ty.d cE=>(f.1,(f.2.1,((f.2.1.size:Int),f.2.2.2)))) q
  simp only [] at hz
  have:=vt h (g:=va s) (md h.disk s) (F':=F) (U':=U) (by rw [hg];show (ky _ _ _).length≤_;rw [tC];exact h.files) (by rw [hg];show di (ky _ _ _)≤_;omega)
  rw [hg] at this
  exact this
theorem Pd {d:Ty.d aA} {F U:Nat} (h:RM d F U) {a b:ByteArray} (hn:j9 b=true) (hab:a≠b) (hx:(fT d a).isSome=true):RM (wB d a b).1 F U∧(wB d a b).2=0:=by
 unfold fT at hx
 have hu:=h.use
 cases q:bS d.1 a with
 | none=>rw [q] at hx;cases hx
 | some f =>
  have hg:uf a b d.1 d.2.1=(kc (gR (gR d.1 a) b) (b,f.2),0):=by
   unfold uf
   rw [hn,q,kE hab]
   rfl
  have hz:=vR q
  have hz2:=pU (gR d.1 a) b
  have hl:∀ (s:ByteArray) (l:bo),(gR l s).length≤l.length:=by
   intro s l
   induction l with
   | nil=>exact Nat.le_refl _
   | cons g l ih =>
    unfold gR
    cases seq g.1 s with
    | true=>exact Nat.le_succ _
    | false=>show (gR l s).length+1≤l.length+1;omega
  have hl1:∀ l:bo,∀ f,bS l a=some f→(gR l a).length+1=l.length:=by
   intro l
   induction l with
   | nil=>intro f q;cases q
   | cons g l ih =>
    intro f q
    unfold bS at q
    unfold gR
    cases c:seq g.1 a with
    | true=>rfl
    | false =>
     rw [c] at q
     have:=ih f q
     show (gR l a).length+1+1=l.length+1
     omega
  have hl2:=hl b (gR d.1 a)
  have hl3:=hl1 d.1 f q
  have hf:=h.files
  have:=vt h (g:=uf a b) (Ky h.disk a b) (F':=F) (U':=U) (by rw [hg];show (kc _ _).length≤_;rw [vL];omega) (by rw [hg];show di (kc _ _)≤_;rw [sJ];show di _+f.2.1.size≤_;omega)
  rw [hg] at this
  exact this
theorem IY {d:Ty.d aA} {F U:Nat} (h:RM d F U) (hF:F<130) {s t:ByteArray} {n:Nat} (hn:j9 s=true) (ht:t.size≤n) (hU:U+n≤100000):RM (kv s t d).1 (F+1) (U+n)∧(kv s t d).2=0∧(fT (kv s t d).1 s).isSome=true:=by
 obtain ⟨a1,a2⟩:=vB h hF hn
 have a3:=lT (s:=s) (d:=d) a2
 obtain ⟨b1,b2⟩:=Hc a1 (s:=s) (x:=t) (n:=n) (by rw [a3];rfl) ht hU
 have b3:=qk (d:=(aw s d).1) (s:=s) (x:=t)
 rw [b2,a3] at b3
 have b3:fT (jA (aw s d).1 s t).1 s=some (ByteArray.empty++t):=b3
 obtain ⟨c1,c2⟩:=wa b1 (s:=s) (by rw [b3];rfl)
 unfold kv
 rw [oF a2,oF b2]
 exact ⟨c1,c2,by rw [kp,b3];rfl⟩
theorem rY (v:Ty.d ch):(c_ v).size≤211:=by
 unfold c_
 split
 · exact m9 (rN v)
 · decide
theorem uO {d:Ty.d aA} {F U:Nat} (h:RM d F U) (hF:F<130) (hU:U+211≤100000) (v:Ty.d ch):RM (bB v d).1 (F+1) (U+211)∧(bB v d).2=0:=by
 obtain ⟨a1,a2,a3⟩:=IY h hF (s:=iH) (t:=c_ v) (n:=211) (by decide) (rY v) hU
 unfold bB
 rw [oF a2]
 exact Pd a1 (by decide) (by decide) a3
theorem P6 {st:Ty.d aD} {d:Ty.d aA} {F U:Nat} (h:RM d F U) (hb:BT st d) (hF:F+1<130) (hU:U+211≤100000) (hi:st.1.2.1.length<60) (hn:LT.lt (α:=Int) st.1.1 100000) :
 RM (gu st d).2.1 (F+2) (U+211)∧(gu st d).2.2=0∧(gu st d).1.1.2.1.length=st.1.2.1.length+1∧(gu st d).1.1.1=st.1.1+1:=by
 obtain ⟨n1,n2,n3,_⟩:=gH (n:=st.1.1) (ids:=st.1.2.1) hb.live
 obtain ⟨_,_,g1,_,_⟩:=bm (nx:=st.1.1) (ids:=st.1.2.1) hb.live
 have hlast:bj st.1.2.1 ∈ st.1.2.1:=by
  have hs:=m5 g1
  rw [hs]
  exact List.mem_append_right _ (List.mem_singleton.2 (by rw [← hs]))
 obtain ⟨t,ht,_⟩:=hb.full _ hlast
 obtain ⟨a1,a2⟩:=wa h (s:=bR st) (by rw [show fT d (bR st)=some t from ht];rfl)
 obtain ⟨b1,b2⟩:=vB a1 (by omega) (vp ⟨n1,n2⟩)
 obtain ⟨c1,c2⟩:=uO b1 (by omega) hU (kZ st)
 unfold gu
 rw [aY (show ¬ (st.1.2.1.length:Int)≥60 by omega),aY (show ¬ st.1.1≥(100000:Int) from Int.not_le.2 hn),a2,b2,c2]
 refine ⟨c1,rfl,?_,rfl⟩
 show (st.1.2.1++[st.1.1]).length=_
 rw [py,List.length_singleton]
theorem vU (r:Ty.d ba):(aT (aI r)).size≤210:=by
 have:=sZ r
 unfold ar at this
 omega
theorem Lk {st:Ty.d aD} {d:Ty.d aA} {F U:Nat} (h:RM d F U) (hb:BT st d) (hU:U+210≤100000) (r:Ty.d ba) :
 RM (iT st d r).1.2.1 F (U+210)∧(iT st d r).1.2.2=0∧(iT st d r).1.1.1=st.1:=by
 obtain ⟨_,_,g1,_,_⟩:=bm (nx:=st.1.1) (ids:=st.1.2.1) hb.live
 have hlast:bj st.1.2.1 ∈ st.1.2.1:=by
  have hs:=m5 g1
  rw [hs]
  exact List.mem_append_right _ (List.mem_singleton.2 (by rw [← hs]))
 obtain ⟨t,ht,_⟩:=hb.full _ hlast
 obtain ⟨a1,a2⟩:=Hc h (s:=bR st) (x:=aT (aI r)) (n:=210) (by rw [show fT d (bR st)=some t from ht];rfl) (vU r) hU
 unfold iT
 rw [a2]
 exact ⟨a1,rfl,rfl⟩
theorem Oi {st:Ty.d aD} {d:Ty.d aA} {F U:Nat} (h:RM d F U) (hb:BT st d) (hF:F+1<130) (hU:U+421≤100000) (hi:st.1.2.1.length<60) (hn:LT.lt (α:=Int) st.1.1 100000) (r:Ty.d ba) :
 RM (eI st d r).1.2.1 (F+2) (U+421)∧(eI st d r).1.2.2=0∧(eI st d r).1.1.1.2.1.length≤st.1.2.1.length+1∧LE.le (α:=Int) (eI st d r).1.1.1.1 (st.1.1+1):=by
 obtain ⟨a1,a2,a3,a4⟩:=P6 h hb hF (by omega) hi hn
 have ab:=GG hb a2
 unfold eI
 cases decide (st.2.2.2.1 > 0)&&decide (st.2.2.2.1+ar r > 200) with
 | false =>
  obtain ⟨s1,s2,s3⟩:=Lk h hb (by omega) r
  simp only [aJ]
  rw [s3]
  exact ⟨s1.mono (by omega) (by omega),s2,by omega,by omega⟩
 | true =>
  simp only [aa]
  generalize gu st d=q at a1 a2 a3 a4 ab ⊢
  rw [show (q.2.2 != 0)=false by rw [a2];rfl]
  obtain ⟨s1,s2,s3⟩:=Lk a1 ab (by omega) r
  simp only [aJ]
  rw [s3]
  exact ⟨s1.mono (by omega) (by omega),s2,by omega,Int.le_of_eq a4⟩
theorem D1:∀ (l:jM) (st:Ty.d aD) (d:Ty.d aA) (ps:ah) (F U:Nat),RM d F U→BT st d→(∀ r ∈ l,bd r=true)→F+2*l.length<130→U+421*l.length≤100000→st.1.2.1.length+l.length≤60→LE.le (α:=Int) (st.1.1+(l.length:Int)) 100000 →
 RM (d5 l st d ps).1.2.1 (F+2*l.length) (U+421*l.length)∧(d5 l st d ps).1.2.2=0∧(d5 l st d ps).1.1.1.2.1.length≤st.1.2.1.length+l.length∧LE.le (α:=Int) (d5 l st d ps).1.1.1.1 (st.1.1+(l.length:Int))
 | [],st,d,ps,F,U,h,_,_,_,_,_,_=>⟨h.mono (by omega) (by omega),rfl,Nat.le_refl _,by rw [List.length_nil];exact Int.le_of_eq (Int.add_zero _).symm⟩
 | r::l,st,d,ps,F,U,h,hb,hr,hF,hU,hi,hn=>by
  have el:(r::l).length=l.length+1:=jj
  rw [el] at hF hU hi hn ⊢
  have e3:421*(l.length+1)=421*l.length+421:=Nat.mul_succ 421 l.length
  rw [e3] at hU ⊢
  generalize hm:421*l.length=m at hU ⊢
  have u0:F+1<130:=by omega
  have u1:U+421≤100000:=Nat.le_trans (Nat.add_le_add_left (Nat.le_add_left 421 m) U) hU
  have u2:st.1.2.1.length<60:=by omega
  have u3:LT.lt (α:=Int) st.1.1 100000:=by omega
  obtain ⟨a1,a2,a3,a4⟩:=Oi h hb u0 u1 u2 u3 r
  obtain ⟨b1,_,_⟩:=Ga hb (hr r ii) a2
  unfold d5
  generalize eI st d r=q at a1 a2 a3 a4 b1 ⊢
  rw [show (q.1.2.2 != 0)=false by rw [a2];rfl]
  simp only [aJ]
  obtain ⟨i1,i2,i3,i4⟩:=D1 l q.1.1 q.1.2.1 (ps++[q.2]) (F+2) (U+421) a1 b1 (fun x hx=>hr x (kR _ hx)) (by omega) (by rw [hm,Nat.add_assoc,Nat.add_comm 421 m];exact hU) (by omega) (by omega)
  rw [hm] at i1
  exact ⟨i1.mono (by omega) (Nat.le_of_eq (by rw [Nat.add_assoc,Nat.add_comm 421 m])),i2,by omega,by omega⟩
theorem Me {st:Ty.d aD} {d:Ty.d aA} {l:fC} {F U:Nat} (h:RM d F U) (hs:dj st d=true) (hp:dN l=true) (hb:LE.le (α:=Int) st.2.2.1 1000000) (hF:F+20<130) (hU:U+4000≤100000) (hi:st.1.2.1.length≤50) (hn:LE.le (α:=Int) st.1.1 99000) :
 RM (cN st d l).2.1 (F+18) (U+3789)∧(cN st d l).2.2=0∧(cN st d l).1.1.2.1.length≤st.1.2.1.length+9∧LE.le (α:=Int) (cN st d l).1.1.1 (st.1.1+9):=by
 obtain ⟨g1,g2,g3⟩:=dM hs
 have hBT:=s7 hs
 have hl8:=nI hp
 have hlen:(dT l st.2.2.1).length≤9:=by unfold dT;rw [py,List.length_map,List.length_singleton];omega
 obtain ⟨a1,a2,a3,a4⟩:=D1 (dT l st.2.2.1) (kz st) d [] F U h ⟨hBT.live,hBT.disk,hBT.full,hBT.tail⟩ (oC hp g3 hb) (by omega) (by omega) (by show st.1.2.1.length+_≤60;omega) (by show LE.le (α:=Int) (st.1.1+_) 100000;omega)
 obtain ⟨hB,_⟩:=yL (dT l st.2.2.1) (kz st) d [] ⟨hBT.live,hBT.disk,hBT.full,hBT.tail⟩ (oC hp g3 hb) (fun x hx=>by cases hx) a2
 have a3:(d5 (dT l st.2.2.1) (kz st) d []).1.1.1.2.1.length≤st.1.2.1.length+(dT l st.2.2.1).length:=a3
 have a4:LE.le (α:=Int) (d5 (dT l st.2.2.1) (kz st) d []).1.1.1.1 (st.1.1+((dT l st.2.2.1).length:Int)):=a4
 unfold cN
 generalize d5 (dT l st.2.2.1) (kz st) d []=q at a1 a2 a3 a4 hB ⊢
 obtain ⟨_,_,k1,_,_⟩:=bm (nx:=q.1.1.1.1) (ids:=q.1.1.1.2.1) hB.live
 have hlast:bj q.1.1.1.2.1 ∈ q.1.1.1.2.1:=by
  have hs:=m5 k1
  rw [hs]
  exact List.mem_append_right _ (List.mem_singleton.2 (by rw [← hs]))
 obtain ⟨t,ht,_⟩:=hB.full _ hlast
 obtain ⟨y1,y2⟩:=wa a1 (s:=bR q.1.1) (by rw [show fT q.1.2.1 (bR q.1.1)=some t from ht];rfl)
 unfold xx
 rw [show (q.1.2.2 != 0)=false by rw [a2];rfl,y2]
 exact ⟨y1.mono (by omega) (by omega),rfl,by show q.1.1.1.2.1.length≤_;omega,by show LE.le (α:=Int) q.1.1.1.1 _;omega⟩
theorem PO:RM (ml 100000) 0 0:=⟨Ho (by omega) (by omega),rfl,rfl,rfl,Nat.le_refl _,Nat.le_refl _⟩
theorem C1 {α:Type} {p:α→Bool}:∀ {l:List α},(∀ x ∈ l,p x=true)→l.takeWhile p=l∧l.dropWhile p=[]
 | [],_=>⟨rfl,rfl⟩
 | x::l,h=>by
  have ih:=C1 (p:=p) (l:=l) fun y hy=>h y (kR _ hy)
  rw [List.takeWhile_cons,List.dropWhile_cons,h x ii,if_pos rfl,if_pos rfl,ih.1]
  exact ⟨rfl,ih.2⟩
theorem wJ:∀ {l:aS},cU (gw l)→∀ e ∈ l,qp l e.1=some e
 | [],_,e,h=>by cases h
 | x::l,hk,e,h=>by
  unfold cU gw at hk
  rw [List.map_cons,List.pairwise_cons] at hk
  rw [qp.eq_2]
  rcases List.mem_cons.1 h with w | w
  · rw [w,bZ]
    rfl
  · have hlt:=hk.1 e.1 (List.mem_map.2 ⟨e,w,rfl⟩)
    rw [kE (fun q=>by rw [q,nM] at hlt;cases hlt),aJ]
    exact wJ hk.2 e w
theorem Mm {st:Ty.d aD} {d:Ty.d aA} (h:dj st d=true) {e:Ty.d aB} (he:e ∈ st.2.1):rG st.2.1 d e.1=((e.1,((dc d e).1.2.2.2.1,((dc d e).1.2.1,()))),0):=by
 unfold dj at h
 simp only [iA] at h
 obtain ⟨_,_,hdir,_,_,hent⟩:=h
 obtain ⟨_,_,hk⟩:=ur.1 hdir
 have hin:=List.all_eq_true.1 hent e he
 unfold pI at hin
 simp only [iA] at hin
 unfold rG
 rw [wJ hk e he]
 simp only []
 rw [hin.1,hin.2.1,hin.2.2.2.1]
 rfl
theorem ku {st:Ty.d aD} {d:Ty.d aA} (h:dj st d=true):bX st.2.1 d=(st.2.1.map fun e=>(e.1,((dc d e).1.2.2.2.1,((dc d e).1.2.1,()))),0):=by
 have key:∀ (r:aS) (acc:du),(∀ e ∈ r,e ∈ st.2.1)→pE st.2.1 d (r.map (·.1)) acc=(acc++r.map fun e=>(e.1,((dc d e).1.2.2.2.1,((dc d e).1.2.1,()))),0):=by
  intro r
  induction r with
  | nil=>intro acc _;rw [List.map_nil,List.map_nil,List.append_nil];rfl
  | cons e r ih =>
   intro acc hr
   rw [List.map_cons,pE,Mm h (hr e ii)]
   show pE st.2.1 d (r.map (·.1)) (acc++[_])=_
   rw [ih _ fun x hx=>hr x (kR _ hx),nw]
   rfl
 unfold bX
 rw [key st.2.1 [] fun e he=>he,List.nil_append]
def Oy (key:ByteArray) (x:Ty.d aL):Bool:=nT x.1 key||seq x.1 key
def jK (l:du) (key:ByteArray):du:=l.filter fun x=>!(seq x.1 key)
def Ah (l:du) (p:Ty.d aL):du:=l.takeWhile (Oy p.1)++p::l.dropWhile (Oy p.1)
def Cf (l:du) (p:Ty.d aL) (del:Bool):du:=bif del then jK l p.1 else Ah (jK l p.1) p
def m_ (l:du) (puts:fC) (b:Int):du:=puts.foldl (fun l q=>Cf l (q.1,(q.2.2.1,(b,()))) q.2.1) l
theorem Km (l:du) (p:Ty.d aL):(Ah l p).length=l.length+1:=by
 unfold Ah
 rw [py,jj]
 have:=congrArg List.length (List.takeWhile_append_dropWhile (p:=Oy p.1) (l:=l))
 rw [py] at this
 omega
theorem EB (l:du) (key:ByteArray):(jK l key).length≤l.length:=List.length_filter_le ..
theorem MY (l:du) (p:Ty.d aL) (del:Bool):(Cf l p del).length≤l.length+1:=by
 unfold Cf
 have:=EB l p.1
 cases del
 · rw [aJ,Km];omega
 · rw [aa];omega
theorem xH {v:Ty.d aB→Ty.d aL} (hv:∀ e,(v e).1=e.1) (l:aS) (key:ByteArray):(lY l key).map v=jK (l.map v) key:=by
 unfold lY jK
 rw [List.filter_map]
 congr 1
 refine List.filter_congr fun x _=>?_
 show (!(seq x.1 key))=!(seq (v x).1 key)
 rw [hv]
theorem N4 {v:Ty.d aB→Ty.d aL} (hv:∀ e,(v e).1=e.1) (l:aS) (e:Ty.d aB):(uE l e).map v=Ah (l.map v) (v e):=by
 have h:((Oy (v e).1) ∘ v)=Nf e.1:=by
  funext x
  show (nT (v x).1 (v e).1||seq (v x).1 (v e).1)=_
  rw [hv,hv]
  rfl
 unfold uE Ah
 rw [List.map_append,List.map_cons,List.takeWhile_map,List.dropWhile_map,h]
theorem C_ {v:Ty.d aB→Ty.d aL} (hv:∀ e,(v e).1=e.1) (b:Int):∀ (l:fC) (ps:ah) (dir:aS),ps.map gA=l.map (gW b)→(∀ p ∈ ps,v (dV p)=((gA p).2.2.1,((gA p).2.2.2.1,((gA p).2.1,()))))→(cV dir ps).map v=m_ (dir.map v) l b
 | [],[],dir,_,_=>rfl
 | [],p::ps,dir,h,_=>by cases h
 | x::l,[],dir,h,_=>by cases h
 | x::l,p::ps,dir,h,hp=>by
  rw [List.map_cons,List.map_cons] at h
  injection h with h1 h2
  have ih:=C_ hv b l ps (fy dir p) h2 fun q hq=>hp q (kR _ hq)
  show (cV (fy dir p) ps).map v=m_ (Cf (dir.map v) (x.1,(x.2.2.1,(b,()))) x.2.1) l b
  rw [ih]
  congr 1
  have hpp:=hp p ii
  have h1:p.2.2.2.1=gW b x:=h1
  unfold fy Cf
  rw [h1]
  cases c:x.2.1 with
  | true =>
   rw [show ((gW b x).1==2)=true by unfold gW;rw [c];rfl,show (gW b x).2.2.1=x.1 by unfold gW;rw [c];rfl]
   exact xH hv dir x.1
  | false =>
   rw [show ((gW b x).1==2)=false by unfold gW;rw [c];rfl]
   simp only [aJ]
   unfold rB
   have ek:(dV p).1=x.1:=by
    show p.2.2.2.1.2.2.1=x.1
    rw [h1]
    unfold gW
    rw [c]
    rfl
   have ev:v (dV p)=(x.1,(x.2.2.1,(b,()))):=by
    rw [hpp]
    show (p.2.2.2.1.2.2.1,(p.2.2.2.1.2.2.2.1,(p.2.2.2.1.2.1,())))=_
    rw [h1]
    unfold gW
    rw [c]
    rfl
   rw [N4 hv,xH hv,ev,ek]
theorem GI {st:Ty.d aD} {d:Ty.d aA} {l:fC} (hs:dj st d=true) (he:EI st) (hp:dN l=true) (hb:LE.le (α:=Int) st.2.2.1 1000000) (ha:nn st.2.1 l≤20) (z:(cN st d l).2.2=0) :
 bX (cN st d l).1.2.1 (cN st d l).2.1=(m_ (bX st.2.1 d).1 l st.2.2.1,0):=by
 obtain ⟨s1,_,_,ps,p1,p2,p3,p4⟩:=xU hs he hp hb ha z
 rw [ku s1,ku hs,p1]
 simp only []
 rw [C_ (v:=fun e=>(e.1,((dc (cN st d l).2.1 e).1.2.2.2.1,((dc (cN st d l).2.1 e).1.2.1,())))) (fun _=>rfl) st.2.2.1 l ps st.2.1 p2 fun p hq=>?_]
 · congr 2
   refine List.map_congr_left fun e he=>?_
   rw [p4 e he]
 · rw [p3 p hq]
   rfl
noncomputable def HY (d:Ty.d aA) (e:Ty.d aB):Ty.d aL:=(e.1,((dc d e).1.2.2.2.1,((dc d e).1.2.1,())))
theorem Ln {dir:aS} {d:Ty.d aA} (h:∀ e ∈ dir,rG dir d e.1=(HY d e,0)):bX dir d=(dir.map (HY d),0):=by
 have key:∀ (r:aS) (acc:du),(∀ e ∈ r,e ∈ dir)→pE dir d (r.map (·.1)) acc=(acc++r.map (HY d),0):=by
  intro r
  induction r with
  | nil=>intro acc _;rw [List.map_nil,List.map_nil,List.append_nil];rfl
  | cons e r ih =>
   intro acc hr
   rw [List.map_cons,pE,h e (hr e ii)]
   show pE dir d (r.map (·.1)) (acc++[_])=_
   rw [ih _ fun x hx=>hr x (kR _ hx),nw]
   rfl
 unfold bX
 rw [key dir [] fun e he=>he,List.nil_append]
theorem CR (m:Int):∀ (l:du) (a:Int),gw (iI m l a)=l.map (·.1)
 | [],_=>rfl
 | p::l,a=>by
  have:=CR m l (a+ar (cI p))
  unfold gw at this ⊢
  unfold iI
  rw [List.map_cons,List.map_cons,this]
theorem EG {d:Ty.d aA} {m:Int}:∀ (l:du) (pre post:ByteArray),(bG d (a_ aF m)).1=pre++(aU (l.map cI)++post)→(∀ p ∈ l,bd (cI p)=true) →
 (∀ e ∈ iI m l (pre.size:Int),∃ p,dc d e=(cI p,true)∧e.1=p.1)∧(iI m l (pre.size:Int)).map (HY d)=l
 | [],_,_,_,_=>⟨fun e he=>(by cases he),rfl⟩
 | p::l,pre,post,ht,hr=>by
  have hp:=hr p ii
  have ht2:(bG d (a_ aF m)).1=(pre++aT (aI (cI p)))++(aU (l.map cI)++post):=by
   rw [ht,List.map_cons,aU,oe,oe]
  obtain ⟨i1,i2⟩:=EG l (pre++aT (aI (cI p))) post ht2 fun q hq=>hr q (kR _ hq)
  have hz:((pre++aT (aI (cI p))).size:Int)=(pre.size:Int)+ar (cI p):=by
   rw [ByteArray.size_append]
   unfold ar
   omega
  rw [hz] at i1 i2
  have h0:dc d (p.1,(m,((pre.size:Int),(ar (cI p),(p.2.2.1,())))))=(cI p,true):=by
   unfold dc
   simp only []
   rw [ht2,wU (by rw [sg pre hp]),sg pre hp]
  unfold iI
  refine ⟨fun e he=>?_,?_⟩
  · rcases List.mem_cons.1 he with w | w
    · rw [w]
      exact ⟨p,h0,rfl⟩
    · exact i1 e w
  · rw [List.map_cons,i2]
    unfold HY
    rw [h0]
    rfl
theorem Iv {d:Ty.d aA} {m mark:Int} {l:du} (ht:(bG d (a_ aF m)).1=aU (fI l mark)) (hr:∀ p ∈ l,bd (cI p)=true) (hk:cU (l.map (·.1))):bX (iI m l 0) d=(l,0):=by
 have ht2:(bG d (a_ aF m)).1=(⟨#[]⟩:ByteArray)++(aU (l.map cI)++aU [gp 5 mark (l.map cI)]):=by
  rw [ht,show (⟨#[]⟩:ByteArray)=dB [] from rfl,Df]
  unfold fI
  rw [nU]
 obtain ⟨h1,h2⟩:=EG l ⟨#[]⟩ _ ht2 hr
 have h1:∀ e ∈ iI m l 0,∃ p,dc d e=(cI p,true)∧e.1=p.1:=h1
 have h2:(iI m l 0).map (HY d)=l:=h2
 rw [Ln fun e he=>?_,h2]
 obtain ⟨p,p1,p2⟩:=h1 e he
 unfold rG
 rw [wJ (by rw [CR];exact hk) e he]
 simp only []
 unfold HY
 rw [p1]
 simp only []
 rw [show seq (cI p).2.2.1 e.1=true by rw [p2];exact bZ _]
 rfl
theorem Mp {d:Ty.d aA} {e:Ty.d aB} (h:(dc d e).2=true):bd (dc d e).1=true:=by
 unfold dc iU at h ⊢
 by_cases c1:0≤e.2.2.1∧e.2.2.1≤((bG d (a_ aF e.2.1)).1.size:Int)∧1≤e.2.2.2.1∧e.2.2.2.1≤((bG d (a_ aF e.2.1)).1.size:Int)-e.2.2.1
 · rw [if_pos c1] at h ⊢
   by_cases c2:(h_ (ByteArray.extract (bG d (a_ aF e.2.1)).1 (Int.toNat e.2.2.1) (Int.toNat (e.2.2.1+e.2.2.2.1)))).2=e.2.2.2.1
   · rw [if_pos c2] at h ⊢
     exact (zH (Prod.ext rfl h)).1
   · rw [if_neg c2] at h
     cases h
 · rw [if_neg c1] at h
   cases h
theorem yJ {r:Ty.d ba} (h:bd r=true) (hk:r.1=1∨r.1=4):bd (cI (r.2.2.1,(r.2.2.2.1,(r.2.1,()))))=true:=by
 have hb:(r.1==1||r.1==4)=true:=by rcases hk with q | q <;> rw [q] <;> rfl
 unfold bd at h
 rw [hb,aa] at h
 simp only [iA] at h
 unfold bd cI
 rw [show ((4:Int)==1||(4:Int)==4)=true from rfl]
 simp only [aa]
 rw [h.1,h.2.1,h.2.2.2.2]
 rfl
theorem wS {st:Ty.d aD} {d:Ty.d aA} (h:dj st d=true):(∀ p ∈ (bX st.2.1 d).1,bd (cI p)=true)∧cU ((bX st.2.1 d).1.map (·.1)):=by
 rw [ku h]
 have h':=h
 unfold dj at h'
 simp only [iA] at h'
 obtain ⟨_,_,hdir,_,_,hent⟩:=h'
 obtain ⟨_,_,hk⟩:=ur.1 hdir
 refine ⟨fun p hp=>?_,?_⟩
 · obtain ⟨e,he,rfl⟩:=List.mem_map.1 hp
   have hin:=List.all_eq_true.1 hent e he
   unfold pI at hin
   simp only [iA,Bool.or_eq_true,beq_iff_eq] at hin
   have:=yJ (Mp hin.1) hin.2.2.2.1
   rw [eE.1 hin.2.1] at this
   exact this
 · rw [List.map_map]
   exact hk
theorem Em (hb:ByteArray→ByteArray) (st:Ty.d aD) (d:Ty.d aA) (l:du):(cP hb st d l).1=pO st∨(cP hb st d l).1=(fc st.1.1,(iI st.1.1 l 0,(st.2.2.1,(0,(0,()))))):=by
 unfold cP
 generalize dH st.1.1 l (st.2.2.1-1) d=a
 cases a.2 != 0 with
 | true=>exact .inl rfl
 | false =>
  simp only [aJ]
  generalize aw (a_ aF (st.1.1+1)) a.1=b
  cases b.2 != 0 with
  | true=>exact .inl rfl
  | false =>
   simp only [aJ]
   generalize gq hb st.1.1 b.1=e
   cases e.2 != 0 with
   | true=>exact .inl rfl
   | false =>
    simp only [aJ]
    generalize bB (fc st.1.1) e.1=f
    cases f.2 != 0 with
    | true=>exact .inl rfl
    | false=>exact .inr rfl
structure MD (st:Ty.d aD) (d:Ty.d aA):Prop where
 store:dj st d=true
 dump:(bX st.2.1 d).2=0
 disk:DR (br st d).2.1
 form:(br st d).1=(fc st.1.1,(iI st.1.1 (bX st.2.1 d).1 0,(st.2.2.1,(0,(0,())))))
 segs:(tM (br st d).2.1 [st.1.1,st.1.1+1]:Int)=yI (bX st.2.1 d).1 (st.2.2.1-1)
 text:fT (br st d).2.1 (a_ aF st.1.1)=some (aU (fI (bX st.2.1 d).1 (st.2.2.1-1)))
 next:fT (br st d).2.1 (a_ aF (st.1.1+1))=some ByteArray.empty
 live:fT (br st d).2.1 gP=some (c_ (fc st.1.1))
 lo:LE.le (α:=Int) 1 st.1.1
 hi:LE.le (α:=Int) (st.1.1+2) 100000
theorem mz {st:Ty.d aD} {d:Ty.d aA} (h:(br st d).2.2=0):MD st d:=by
 have h0:=h
 unfold br at h
 cases c1:dj st d with
 | false =>
  rw [c1] at h
  exact absurd h (by show (4:Int)≠0;decide)
 | true =>
  rw [c1] at h
  obtain ⟨g1,g2,g3⟩:=dM c1
  obtain ⟨n1,n2,n3,_⟩:=gH (n:=st.1.1) (ids:=st.1.2.1) g1.live
  have h60:st.1.2.1.length≤60:=(bm (nx:=st.1.1) (ids:=st.1.2.1) g1.live).2.2.2.1
  simp only [fN,aJ] at h
  by_cases c2:st.1.1+2 > (100000:Int)
  · rw [aV c2] at h
    exact absurd h (by show (5:Int)≠0;decide)
  · rw [aY c2] at h
    simp only [aJ] at h
    have hz:=sk st.2.1 d
    cases c3:(bX st.2.1 d).2 != 0 with
    | true =>
     rw [c3] at h
     exact absurd h (by intro q;rw [show (bX st.2.1 d).2=0 from q] at c3;cases c3)
    | false =>
     rw [c3] at h
     simp only [aJ] at h
     have e:br st d=cP (s_ st.1.1) st d (bX st.2.1 d).1:=by
      unfold br
      rw [c1,aY c2,c3]
      rfl
     obtain ⟨e1,e2⟩:=F_ (s_ st.1.1) st d (bX st.2.1 d).1
     have hIV:IV ((st.1,([],st.2.2)),(d,0)):=⟨g1.disk,h60,Nat.zero_le _,fun x hx=>(by cases hx),Int.natCast_nonneg _⟩
     obtain ⟨q1,q2⟩:=KH (hb:=s_ st.1.1) hIV g1.live (Int.not_lt.1 c2) (l:=(bX st.2.1 d).1) (by omega)
     have hc:(cP (s_ st.1.1) (st.1,([],st.2.2)) d (bX st.2.1 d).1).2.2=0:=by rw [← e1];exact h
     obtain ⟨w1,_,w3,w4,w5,w6⟩:=q2 hc
     have hf:(cP (s_ st.1.1) st d (bX st.2.1 d).1).1.1=fc st.1.1:=by rw [e2,w5]
     refine ⟨c1,f8 c3,?_,?_,?_,?_,?_,?_,n1,Int.not_lt.1 c2⟩
     · rw [e,e1];exact q1.disk
     · rw [e]
       rcases Em (s_ st.1.1) st d (bX st.2.1 d).1 with w | w
       · exfalso
         rw [w] at hf
         have hf:(st.1.1+2,st.1.2)=fc st.1.1:=hf
         have h3:st.1.2.1=[st.1.1,st.1.1+1]:=by
          have:=congrArg (fun v:Ty.d ch=>v.2.1) hf
          exact this
         have:=(n3 st.1.1 (by rw [h3];exact ii)).2
         exact absurd this (Int.lt_irrefl _)
       · exact w
     · rw [w5] at w1
       rw [e,e1]
       exact w1
     · rw [e,e1];exact w3
     · rw [e,e1];exact w4
     · rw [e,e1];exact w6
theorem Gu {st:Ty.d aD} {d:Ty.d aA} (h:MD st d):bX (br st d).1.2.1 (br st d).2.1=((bX st.2.1 d).1,0):=by
 obtain ⟨k1,k2⟩:=wS h.store
 rw [h.form]
 refine Iv (mark:=st.2.2.1-1) ?_ k1 k2
 rw [iV h.disk,h.text]
 rfl
theorem Mo {b:Int} (h:1≤b) (g:b≤1000001):0≤b-1∧b-1≤1000000:=by omega
theorem FP {a b:Int} (h:a<b) (g:b≤100000):a≤100000:=by omega
def eh:jM→Int→Bz
 | [],_=>[]
 | r::l,a=>(a,(ar r,(r,())))::eh l (a+ar r)
theorem yi:∀ (rs:jM) (pre:ByteArray) (d:Nat),(∀ r ∈ rs,bd r=true)→(aU rs).size<d→(g7 (pre++aU rs) d (pre.size:Int)).1=eh rs (pre.size:Int)
 | [],pre,d,_,hd=>by
  obtain ⟨d,rfl⟩:∃ q,d=q+1:=⟨d-1,by omega⟩
  have:h_ (ByteArray.extract (pre++aU []) (Int.toNat (pre.size:Int)) (pre++aU []).size)=(⟨#[]⟩,0):=by
   rw [rI,gJ,aU,yE]
  rw [g7,this,if_pos rfl]
  rfl
 | r::rs,pre,d,h,hd=>by
  rw [aU,aZ] at hd
  have hz:=lU r
  have hp:=lG (s:=aI r) (by omega)
  obtain ⟨d,rfl⟩:∃ q,d=q+1:=⟨d-1,by omega⟩
  have ih:=yi rs (pre++aT (aI r)) d (fun x hx=>h x (kR _ hx)) (by omega)
  rw [bg,aZ pre] at ih
  rw [aU,Ig (h r (ii ..)),eh]
  simp only []
  rw [ih,show ((pre.size+(aT (aI r)).size:Nat):Int)=(pre.size:Int)+ar r by unfold ar;omega]
  rfl
theorem tq {rs:jM} (h:∀ r ∈ rs,bd r=true):(bx (aU rs)).1=eh rs 0:=by
 have:=yi rs ⟨#[]⟩ ((aU rs).size+1) h (by omega)
 rw [oE] at this
 exact this
theorem Bc:∀ (l m:jM) (a:Int),eh (l++m) a=eh l a++eh m (a+((aU l).size:Int))
 | [],m,a=>by
  show eh m a=eh m (a+((⟨#[]⟩:ByteArray).size:Int))
  rw [show ((⟨#[]⟩:ByteArray).size:Int)=0 from rfl,Int.add_zero]
 | r::l,m,a=>by
  rw [List.cons_append,eh,eh,Bc l m,aU,aZ,List.cons_append]
  rw [show a+ar r+((aU l).size:Int)=a+(((aT (aI r)).size+(aU l).size:Nat):Int) by unfold ar;omega]
abbrev rS:=List (Int × jM)
def tK (x:Int × jM):ah:=bY x.1 (eh x.2 0)
def jE:rS→ah
 | []=>[]
 | x::l=>tK x++jE l
theorem I9:∀ (l m:rS),jE (l++m)=jE l++jE m
 | [],_=>rfl
 | x::l,m=>by
  show tK x++jE (l++m)=tK x++jE l++jE m
  rw [I9 l m,nw]
structure TX (st:Ty.d aD) (d:Ty.d aA) (L:rS):Prop where
 live:dl st.1=true
 disk:DR d
 ids:st.1.2.1=L.map (·.1)
 text:∀ x ∈ L,fT d (a_ aF x.1)=some (aU x.2)∧∀ r ∈ x.2,bd r=true
 tail:∀ t,fT d (bR st)=some t→st.2.2.2.1=(t.size:Int)
theorem TX.bt {st:Ty.d aD} {d:Ty.d aA} {L:rS} (h:TX st d L):BT st d:=⟨h.live,h.disk,fun x hx=>by
 rw [h.ids] at hx
 obtain ⟨y,hy,rfl⟩:=List.mem_map.1 hx
 exact ⟨_,(h.text y hy).1,y.2,(h.text y hy).2,rfl⟩,h.tail⟩
theorem Ie {d:Ty.d aA}:∀ {ids:List Int},(∀ x ∈ ids,∃ t,fT d (a_ aF x)=some t∧FL t)→∃ L:rS,ids=L.map (·.1)∧∀ x ∈ L,fT d (a_ aF x.1)=some (aU x.2)∧∀ r ∈ x.2,bd r=true
 | [],_=>⟨[],rfl,fun x hx=>(by cases hx)⟩
 | x::l,h=>by
  obtain ⟨L,h1,h2⟩:=Ie (ids:=l) fun y hy=>h y (kR _ hy)
  obtain ⟨t,ht,rs,hr,e⟩:=h x ii
  refine ⟨(x,rs)::L,by rw [List.map_cons,← h1],fun y hy=>?_⟩
  rcases List.mem_cons.1 hy with w | w
  · rw [w];exact ⟨by rw [ht,e],hr⟩
  · exact h2 y w
theorem BT.tx {st:Ty.d aD} {d:Ty.d aA} (h:BT st d):∃ L,TX st d L:=by
 obtain ⟨L,h1,h2⟩:=Ie h.full
 exact ⟨L,h.live,h.disk,h1,h2,h.tail⟩
theorem It {d:Ty.d aA} (hd:DR d) {x:Int × jM} (h:fT d (a_ aF x.1)=some (aU x.2)∧∀ r ∈ x.2,bd r=true):mm d x.1=tK x:=by
 unfold mm tK gO
 rw [iV hd,h.1]
 show bY x.1 (bx (aU x.2)).1=_
 rw [tq h.2]
theorem qN {d:Ty.d aA} (hd:DR d):∀ {L:rS},(∀ x ∈ L,fT d (a_ aF x.1)=some (aU x.2)∧∀ r ∈ x.2,bd r=true)→kx d (L.map (·.1))=jE L
 | [],_=>rfl
 | x::L,h=>by
  rw [List.map_cons]
  show mm d x.1++kx d (L.map (·.1))=tK x++jE L
  rw [qN hd fun y hy=>h y (kR _ hy),It hd (h x ii)]
theorem qn:∀ (rs:jM) (pre post:ByteArray),(∀ r ∈ rs,bd r=true)→∀ x ∈ eh rs (pre.size:Int),iU (pre++(aU rs++post)) x.1 x.2.1=(x.2.2.1,true)∧bd x.2.2.1=true∧LE.le (α:=Int) 0 x.1∧LE.le (α:=Int) 1 x.2.1∧LE.le (α:=Int) x.2.1 210∧x.2.2.1 ∈ rs
 | [],_,_,_,x,hx=>(by cases hx)
 | r::rs,pre,post,h,x,hx=>by
  have hr:=h r ii
  rw [aU,oe]
  rw [eh] at hx
  rcases List.mem_cons.1 hx with w | w
  · rw [w]
    have hz:=sZ r
    have e:=sg pre hr
    refine ⟨?_,hr,Int.natCast_nonneg _,show LE.le (α:=Int) 1 (ar r) by omega,hz.2,ii⟩
    show iU (pre++(aT (aI r)++(aU rs++post))) (pre.size:Int) (ar r)=(r,true)
    rw [← oe,wU (by rw [e]),e]
  · have hz:((pre++aT (aI r)).size:Int)=(pre.size:Int)+ar r:=by
     rw [ByteArray.size_append]
     unfold ar
     omega
    rw [← hz] at w
    obtain ⟨i1,i2,i3,i4,i5,i6⟩:=qn rs (pre++aT (aI r)) post (fun q hq=>h q (kR _ hq)) x w
    rw [oe] at i1
    exact ⟨i1,i2,i3,i4,i5,kR _ i6⟩
theorem wb {L:rS} {p:Ty.d aM} (h:p ∈ jE L):∃ x ∈ L,∃ s ∈ eh x.2 0,p=(x.1,s):=by
 induction L with
 | nil=>cases h
 | cons x L ih =>
  have h:p ∈ tK x++jE L:=h
  rcases List.mem_append.1 h with w | w
  · unfold tK bY at w
    obtain ⟨s,hs,e⟩:=List.mem_map.1 w
    exact ⟨x,ii,s,hs,e.symm⟩
  · obtain ⟨y,hy,q⟩:=ih w
    exact ⟨y,kR _ hy,q⟩
structure PL (d:Ty.d aA) (nx:Int) (p:Ty.d aM):Prop where
 lo:LE.le (α:=Int) 1 p.1
 hi:LT.lt (α:=Int) p.1 nx
 at0:LE.le (α:=Int) 0 p.2.1
 len0:LE.le (α:=Int) 1 p.2.2.1
 len1:LE.le (α:=Int) p.2.2.1 210
 ok:bd (gA p)=true
 read:dc d (dV p)=(gA p,true)
theorem zF {st:Ty.d aD} {d:Ty.d aA} {L:rS} (h:TX st d L) {p:Ty.d aM} (hp:p ∈ jE L):PL d st.1.1 p:=by
 obtain ⟨x,hx,s,hs,e⟩:=wb hp
 obtain ⟨n1,n2,n3,_⟩:=gH (n:=st.1.1) (ids:=st.1.2.1) h.live
 have hi:x.1 ∈ st.1.2.1:=by rw [h.ids];exact List.mem_map.2 ⟨x,hx,rfl⟩
 obtain ⟨t1,t2⟩:=h.text x hx
 obtain ⟨i1,i2,i3,i4,i5,_⟩:=qn x.2 ⟨#[]⟩ ⟨#[]⟩ t2 s hs
 rw [e]
 refine ⟨(n3 _ hi).1,(n3 _ hi).2,i3,i4,i5,i2,?_⟩
 unfold dc
 show iU (bG d (a_ aF x.1)).1 s.1 s.2.1=(s.2.2.1,true)
 rw [iV h.disk,t1]
 show iU (aU x.2) s.1 s.2.1=_
 rw [JR,oE] at i1
 exact i1
end Go.Proofs.YtbgnhoggngbhhaaGreatDoor.G

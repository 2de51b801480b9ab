/- Plain laws, merged; what is proved here is told ahead of each part. -/
import Derived.Test.YtohaanhjddohmaaGreatDoorZM1
set_option linter.unusedVariables false
set_option linter.unusedSimpArgs false
namespace Go.Proofs.YtohaanhjddohmaaGreatDoor.G
open Go.V
def bg:ByteArray:=⟨#[104,105,110,116]⟩
theorem iP {k:Nat} (hk:2 ^ 50≤k) (n:Int):cZ.f k n=some (aA bg n,()):=by
 unfold cZ.f cZ.t aA
 rw [fz,aO]
 by_cases c:(1:Int)≤n∧n≤100000
 · have hz:=kq (n:=n) (by omega) (by omega)
   rw [aN c]
   simp only [ft,aM,aX]
   rw [mm hk (by omega) (by omega),aO,dL (by show 4+(fb n).size≤_;omega)]
   rfl
 · rw [aP c]
   rfl
def Hg (s:ByteArray) (n:Int):Prop:=1≤n∧n≤100000∧(s=aI++fb n∨s=bg++fb n)
theorem wZ (a b:ByteArray):aI++a≠bg++b:=fun h=>by
 have:=congrArg nb h
 rw [iZ,iZ,show nb aI=[115,101,103] from rfl,show nb bg=[104,105,110,116] from rfl] at this
 simp at this
theorem EC {s:ByteArray} {n m:Int} (h:Hg s n) (g:Hg s m):n=m:=by
 rcases h.2.2 with h1 | h1 <;> rcases g.2.2 with g1 | g1
 · exact xA (rP (h1.symm.trans g1))
 · exact absurd (h1.symm.trans g1) (wZ _ _)
 · exact absurd (g1.symm.trans h1) (wZ _ _)
 · exact xA (rP (h1.symm.trans g1))
theorem FI {s:ByteArray} {n:Int} (hs:0<s.size) (h:(seq (aA aI n) s||seq (aA bg n) s)=true):Hg s n:=by
 unfold aA at h
 by_cases c:(1:Int)≤n∧n≤100000
 · rw [aN c,Bool.or_eq_true] at h
   exact ⟨c.1,c.2,h.imp (fun q=>(dS.1 q).symm) (fun q=>(dS.1 q).symm)⟩
 · rw [aP c,Bool.or_eq_true] at h
   rcases h with q | q
   · rw [← dS.1 q] at hs;exact absurd hs (Nat.lt_irrefl 0)
   · rw [← dS.1 q] at hs;exact absurd hs (Nat.lt_irrefl 0)
theorem EW {s:ByteArray} {n:Int} (h:Hg s n):(seq (aA aI n) s||seq (aA bg n) s)=true:=by
 obtain ⟨h0,h1,h2⟩:=h
 unfold aA
 rw [aN ⟨h0,h1⟩,Bool.or_eq_true]
 exact h2.imp (fun q=>dS.2 q.symm) (fun q=>dS.2 q.symm)
noncomputable def FV (s:ByteArray):Int × Bool:=o_ (Hg s) (fun _=>s) 0 s
theorem Gp (n:Int):0<(fb n).size:=by
 rw [← cj,p8]
 split
 · rw [lB];omega
 · rw [List.length_map]
   exact List.length_pos_iff.2 (mY _)
theorem tp (s:ByteArray) (n:Nat):(ByteArray.extract s n s.size).size=s.size-n:=by rw [← cj,jo,List.length_drop,cj]
noncomputable def xM (s:ByteArray) (i:Nat):Bool :=
 decide ((s.size:Int) > (i:Int))&&((dj (ByteArray.extract s i s.size)).2&&(decide ((dj (ByteArray.extract s i s.size)).1≥1)&&(seq (aA aI (dj (ByteArray.extract s i s.size)).1) s||seq (aA bg (dj (ByteArray.extract s i s.size)).1) s)))
theorem EL {k:Nat} (hk:2 ^ 50≤k) {s:ByteArray} (hs:s.size≤1099511627776) (m i:Nat) (hi:i≤4) :
 gl.l0 k (m+1) s (i:Int)=bif xM s i then some ((dj (ByteArray.extract s i s.size)).1,(true,())) else gl.l0 k m s ((i+1:Nat):Int):=by
 have hz:=tp s i
 simp only [gl.l0,gl.b0]
 rw [aN (show (i:Int)≤4 by omega),aX,aC (by omega) (by omega),show (i:Int)+1=((i+1:Nat):Int) by omega]
 unfold xM
 by_cases c:(s.size:Int) > (i:Int)
 · rw [aN c,aX,c_ (by omega) (by omega),Int.toNat_natCast,xK hk (by omega),aO]
   simp only [bG hk,iP hk,aO]
   generalize dj (ByteArray.extract s i s.size)=r
   cases r.2 <;> cases decide (r.1≥1) <;> cases seq (aA aI r.1) s <;> cases seq (aA bg r.1) s <;> rfl
 · rw [aP c]
   rfl
theorem zm {s:ByteArray} {i:Nat} (h:xM s i=true):Hg s (dj (ByteArray.extract s i s.size)).1:=by
 unfold xM at h
 simp only [j6,decide_eq_true_eq] at h
 exact FI (by omega) h.2.2.2
theorem G8 {p:ByteArray} {n:Int} (h:Hg (p++fb n) n):xM (p++fb n) p.size=true∧(dj (ByteArray.extract (p++fb n) p.size (p++fb n).size)).1=n:=by
 have hd:JW n:=⟨by have:=h.1;omega,by have:=h.2.1;omega⟩
 have hp:=Gp n
 rw [show ByteArray.extract (p++fb n) p.size (p++fb n).size=fb n from e9 p (fb n)]
 unfold xM
 rw [show ByteArray.extract (p++fb n) p.size (p++fb n).size=fb n from e9 p (fb n),u7 hd]
 refine ⟨?_,rfl⟩
 simp only []
 rw [EW h,aN (by rw [ByteArray.size_append];omega),aN h.1]
 rfl
theorem Eu {k:Nat} (hk:2 ^ 50≤k) {s:ByteArray} (hs:s.size≤1099511627776):gl.f k s=some ((FV s).1,((FV s).2,())):=by
 have e:gl.f k s=bif xM s 3 then some ((dj (ByteArray.extract s 3 s.size)).1,(true,())) else bif xM s 4 then some ((dj (ByteArray.extract s 4 s.size)).1,(true,())) else some (0,(false,())):=by
  unfold gl.f gl.t
  obtain ⟨m,hm⟩:∃ m,k=m+3:=⟨k-3,by omega⟩
  have h3:=EL hk hs (m+2) 3 (by omega)
  have h4:=EL hk hs (m+1) 4 (by omega)
  have h5:gl.l0 k (m+1) s ((5:Nat):Int)=some (0,(false,())):=rfl
  rw [← hm] at h3
  rw [show (3:Int)=((3:Nat):Int) from rfl,h3,h4,h5]
 rw [e]
 refine mW (fun n h1 _=>?_) ?_
 · rcases h1.2.2 with q | q
   · have:=G8 (p:=aI) (n:=n) (by rw [← q];exact h1)
     rw [← q,show aI.size=3 from rfl] at this
     rw [this.1,this.2]
     rfl
   · cases c:xM s 3 with
     | true=>rw [EC h1 (zm c)];rfl
     | false =>
      have:=G8 (p:=bg) (n:=n) (by rw [← q];exact h1)
      rw [← q,show bg.size=4 from rfl] at this
      rw [this.1,this.2]
      rfl
 · cases c:xM s 3 with
   | true=>exact .inl ⟨_,zm c,rfl,rfl⟩
   | false =>
    cases c4:xM s 4 with
    | true=>exact .inl ⟨_,zm c4,rfl,rfl⟩
    | false=>exact .inr rfl
noncomputable def xh (s p:ByteArray):Option (Int × Bool × Unit) :=
 bif pT s p&&((dj (ByteArray.extract s p.size s.size)).2&&decide ((1:Int)≤(dj (ByteArray.extract s p.size s.size)).1∧(dj (ByteArray.extract s p.size s.size)).1≤100000)) then some ((dj (ByteArray.extract s p.size s.size)).1,(true,())) else some (0,(false,()))
theorem GI {s p:ByteArray} (h:xh s p≠some (0,(false,()))):∃ n,1≤n∧n≤100000∧s=p++fb n∧xh s p=some (n,(true,())):=by
 unfold xh at h ⊢
 cases c:pT s p&&((dj (ByteArray.extract s p.size s.size)).2&&decide ((1:Int)≤(dj (ByteArray.extract s p.size s.size)).1∧(dj (ByteArray.extract s p.size s.size)).1≤100000)) with
 | false=>rw [c] at h;exact absurd rfl h
 | true =>
  simp only [j6,decide_eq_true_eq] at c
  obtain ⟨c1,c2,c3⟩:=c
  have e:dj (ByteArray.extract s p.size s.size)=((dj (ByteArray.extract s p.size s.size)).1,true):=by rw [← c2]
  have q:=vG e
  exact ⟨_,c3.1,c3.2,by rw [q.2];exact vi c1,rfl⟩
theorem GQ {p:ByteArray} {n:Int} (h0:1≤n) (h1:n≤100000):xh (p++fb n) p=some (n,(true,())):=by
 unfold xh
 rw [BC,show ByteArray.extract (p++fb n) p.size (p++fb n).size=fb n from e9 p (fb n),u7 ⟨by omega,by omega⟩]
 simp only []
 rw [aN ⟨h0,h1⟩]
 rfl
theorem Eg (k:Nat) {s:ByteArray} (hs:s.size≤281474976710656):k8.f k s=some ((FV s).1,((FV s).2,())):=by
 have e:k8.f k s=bif pT s aI then xh s aI else xh s bg:=by
  unfold k8.f k8.t
  rw [show (⟨#[115,101,103]⟩:ByteArray)=aI from rfl,show (⟨#[104,105,110,116]⟩:ByteArray)=bg from rfl,ss,ss]
  simp only [aO]
  unfold xh
  have h3:=tp s aI.size
  have h4:=tp s bg.size
  cases pT s aI with
  | true =>
   simp only [ft,aM,aX,Bool.true_and]
   rw [n7 k (by omega),aO]
   simp only [jr k,aO]
   generalize dj (ByteArray.extract s aI.size s.size)=r
   cases r.2 <;> cases decide ((1:Int)≤r.1∧r.1≤100000) <;> rfl
  | false =>
   simp only [tI,aM,aX]
   cases pT s bg with
   | true =>
    simp only [ft,aM,aX,Bool.true_and]
    rw [n7 k (by omega),aO]
    simp only [jr k,aO]
    generalize dj (ByteArray.extract s bg.size s.size)=r
    cases r.2 <;> cases decide ((1:Int)≤r.1∧r.1≤100000) <;> rfl
   | false =>
    simp only [tI,aM,aX,Bool.false_and]
    rw [n7 k hs,aO]
 rw [e]
 refine mW (fun n h1 _=>?_) ?_
 · rcases h1.2.2 with q | q
   · rw [q,BC,aX,GQ h1.1 h1.2.1]
   · have hp:pT s aI=false:=by
      cases c:pT s aI with
      | false=>rfl
      | true=>exact absurd ((vi c).symm.trans q) (wZ _ _)
     rw [hp,aM,q,GQ h1.1 h1.2.1]
 · cases pT s aI with
   | true =>
    rw [aX]
    by_cases c:xh s aI=some (0,(false,()))
    · exact .inr c
    · obtain ⟨n,h0,h1,h2,h3⟩:=GI c
      exact .inl ⟨n,⟨h0,h1,.inl h2⟩,rfl,h3⟩
   | false =>
    rw [aM]
    by_cases c:xh s bg=some (0,(false,()))
    · exact .inr c
    · obtain ⟨n,h0,h1,h2,h3⟩:=GI c
      exact .inl ⟨n,⟨h0,h1,.inr h2⟩,rfl,h3⟩
theorem uN {k:Nat} (hk:2 ^ 50≤k) {l:List Int} (hl:l.length≤1099511627776) (x:Int):eG.f k l x=some (rt l x,()):=by
 unfold eG.f eG.t
 refine dZ (L:=fun n i (_:Unit)=>eG.l0 k n x l l.length i) (R:=fun r _=>some (rt r x,())) (Ty.dflt (.int .i64)) l (fun _ _=>True) (fun n _ _=>?_) (fun n i _ y rest h0 h1 hx hr hp ih=>?_) (n:=k) (s:=()) (by omega) trivial
 · simp (disch:=omega) only [eG.l0,eG.b0,aP,aM]
   rfl
 · have ih:=ih () trivial
   have e:rt (y::rest) x=((y==x)||rt rest x):=rfl
   simp (disch:=omega) only [eG.l0,eG.b0,aN h1,aX,aG,hx,aC,ih,e]
   cases y==x <;> rfl
def iu:ByteArray:=⟨#[116,101,109,112]⟩
noncomputable def rF (ids:List Int) (f:Ty.den bp):Bool:=((FV f.1).2&&!rt ids (FV f.1).1)||seq f.1 iu
noncomputable def oZ (ids:List Int):bW→List ByteArray→List ByteArray
 | [],acc=>acc
 | f::l,acc=>oZ ids l (bif rF ids f then acc++[f.1] else acc)
noncomputable def pM (d:Ty.den a_) (ids:List Int):List ByteArray:=bif gw d then oZ ids d.1 [] else []
theorem yq {d:Ty.den a_} (h:gw d=true):d.1.length≤130:=by
 unfold gw at h
 rw [j6,decide_eq_true_eq] at h
 exact h.1
theorem C0 {k:Nat} (hk:2 ^ 50≤k) {d:Ty.den a_} {v:Ty.den bE} (hu:dR d.1≤1099511627776) (hn:i7 d.1≤1099511627776) (hv:v.2.1.length≤1099511627776):bK.f k d v=some (pM d v.2.1,()):=by
 unfold bK.f bK.t pM
 rw [kx hk hu hn,aO]
 cases cd:gw d with
 | false=>rfl
 | true =>
  have hl:=yq cd
  rw [ft,aM,aX]
  refine dZ (L:=fun n i s=>bK.l0 k n i d.1 d.2.1 d.2.2.1 d.2.2.2.1 v.1 v.2.1 s) (R:=fun r s=>some (oZ v.2.1 r s,())) (Ty.dflt bp) d.1 (fun i s=>(s.length:Int)≤i) (fun n s hs=>?_) (fun n i s x rest h0 h1 hx hr hs ih=>?_) (n:=k) (s:=[]) (by omega) (by simp)
  · simp (disch:=omega) only [bK.l0,bK.b0,aP,aM,oZ]
  · have hm:x ∈ d.1:=by rw [← hx];exact gb (by omega)
    have hz:=ln hm
    have iY:=ih (s++[x.1]) (by rw [cB];omega)
    have iN:=ih s (by omega)
    have key:∀ (id:Int) (is:Bool),bK.l1 k (bK.l0 k n) k i id is false 0 d.1 d.2.1 d.2.2.1 d.2.2.2.1 v.1 v.2.1 s =
     bif (is&&!rt v.2.1 id)||seq x.1 iu then bK.l0 k n (i+1) d.1 d.2.1 d.2.2.1 d.2.2.2.1 v.1 v.2.1 (s++[x.1]) else bK.l0 k n (i+1) d.1 d.2.1 d.2.2.1 d.2.2.2.1 v.1 v.2.1 s:=fun id is=>by
     refine (dZ (L:=fun m j lv=>bK.l1 k (bK.l0 k n) m i id is lv j d.1 d.2.1 d.2.2.1 d.2.2.2.1 v.1 v.2.1 s) (R:=fun r lv=>bif (is&&!(lv||rt r id))||seq x.1 iu then bK.l0 k n (i+1) d.1 d.2.1 d.2.2.1 d.2.2.2.1 v.1 v.2.1 (s++[x.1]) else bK.l0 k n (i+1) d.1 d.2.1 d.2.2.1 d.2.2.2.1 v.1 v.2.1 s) (Ty.dflt (.int .i64)) v.2.1 (fun _ _=>True) (fun m lv _=>?_) (fun m j lv y r2 g0 g1 gx gr _ ih2=>?_) (n:=k) (s:=false) (by omega) trivial)
     · simp (disch:=first | omega | decide) only [bK.l1,bK.b1,aP,aM,aG,hx,ba,aC]
       rw [show rt [] id=false from rfl,show (⟨#[116,101,109,112]⟩:ByteArray)=iu from rfl]
       cases is <;> cases lv <;> cases seq x.1 iu <;> rfl
     · have e:rt (y::r2) id=((y==id)||rt r2 id):=rfl
       simp (disch:=omega) only [bK.l1,bK.b1,aN g1,aX,aG,gx,aC,e]
       cases lv with
       | true=>exact (ih2 true trivial)
       | false =>
        have:=ih2 (y==id) trivial
        simp only [aM,Bool.false_or]
        exact this
    simp (disch:=omega) only [bK.l0,bK.b0,aN h1,aX,aG,hx,Eu hk,aO,key]
    rw [show oZ v.2.1 (x::rest) s=oZ v.2.1 rest (bif rF v.2.1 x then s++[x.1] else s) from rfl]
    unfold rF
    cases ((FV x.1).2&&!rt v.2.1 (FV x.1).1)||seq x.1 iu
    · exact iN
    · exact iY
theorem Bz {k:Nat} (hk:2 ^ 50≤k) {d:Ty.den a_} {v:Ty.den bE} (hu:dR d.1≤1099511627776) (hn:i7 d.1≤1099511627776) (hv:v.2.1.length≤1099511627776):f_.f k d v=some (pM d v.2.1,()):=by
 unfold f_.f f_.t pM
 rw [jE hk hu hn,aO]
 cases cd:gw d with
 | false=>rfl
 | true =>
  have hl:=yq cd
  rw [ft,aM,aX]
  refine dZ (L:=fun n i s=>f_.l0 k n d.1 d.1.length i v.1 v.2.1 s) (R:=fun r s=>some (oZ v.2.1 r s,())) (Ty.dflt bp) d.1 (fun i s=>(s.length:Int)≤i) (fun n s hs=>?_) (fun n i s x rest h0 h1 hx hr hs ih=>?_) (n:=k) (s:=[]) (by omega) (by simp)
  · simp (disch:=omega) only [f_.l0,f_.b0,aP,aM,oZ]
  · have hm:x ∈ d.1:=by rw [← hx];exact gb (by omega)
    have hz:=ln hm
    have iY:=ih (s++[x.1]) (by rw [cB];omega)
    have iN:=ih s (by omega)
    simp (disch:=first | omega | decide) only [f_.l0,f_.b0,aN h1,aX,aG,hx,Eg k,aO,uN hk hv,ba,aC,iY,iN]
    rw [show oZ v.2.1 (x::rest) s=oZ v.2.1 rest (bif rF v.2.1 x then s++[x.1] else s) from rfl,show (⟨#[116,101,109,112]⟩:ByteArray)=iu from rfl]
    unfold rF
    cases (FV x.1).2 <;> cases rt v.2.1 (FV x.1).1 <;> cases seq x.1 iu <;> rfl
end Go.Proofs.YtohaanhjddohmaaGreatDoor.G
namespace Go.Proofs.YtohaanhjddohmaaGreatDoor.G
open Go.V
theorem qB {k:Nat} (hk:2 ^ 50≤k) {l:List Int} (hl:l.length≤1073741824):d6.f k l=some (dH l,()):=by
 unfold d6.f d6.t
 refine (dZ (L:=fun n i s=>d6.l0 k n s l l.length i) (R:=fun r s=>some (s++dH r,())) (Ty.dflt (.int .i64)) l (fun i s=>(s.size:Int)≤7*i) (fun n s hs=>?_) (fun n i s x rest g0 g1 hx hr hs ih=>?_) (n:=k) (s:=⟨#[]⟩) (by omega) (by decide)).trans (by rw [mT])
 · simp (disch:=omega) only [d6.l0,d6.b0,aP,aM]
   rw [show dH []=⟨#[]⟩ from rfl,gG]
 · have hv:=ai x
   have ih:=ih (s++gk x) (by rw [aL];omega)
   simp (disch:=omega) only [d6.l0,d6.b0,aN g1,aX,aG,hx,nE hk,aO,dL,aC,ih]
   rw [af]
   rfl
theorem uu {k:Nat} (hk:2 ^ 50≤k) (v:Ty.den bE) (hl:v.2.1.length≤1073741824):hF.f k v=some (ae v,()):=by
 unfold hF.f hF.t ae
 rw [py hk (by omega),aO]
 cases c:d5 v with
 | false=>rfl
 | true =>
  have a:=ai v.1
  have b:=ai (v.2.1.length:Int)
  have d:=mh v.2.1
  rw [ft,aM,zC hk,aO,qB hk hl,aO,if_pos rfl]
  simp only []
  rw [dL (by rw [aL];omega),mR hk,aO,af]
  rfl
theorem mM (k:Nat) (n:Int):df.f k n=some (aA bg n,()):=by
 unfold df.f df.t
 rw [show (⟨#[104,105,110,116]⟩:ByteArray)=bg from rfl,sH k (by decide) n]
 rfl
theorem uX (v:Ty.den bE):(ae v).size≤1099511627776:=by
 unfold ae
 split
 · have:=j9 (kr v);omega
 · decide
theorem uA {p:ByteArray} (hp:p=aI∨p=bg) (n:Int):(aA p n).size≤1000:=by
 have hs:p.size≤4:=by rcases hp with q | q <;> rw [q] <;> decide
 unfold aA
 by_cases h:(1:Int)≤n∧n≤100000
 · have:=kq (n:=n) (by omega) (by omega)
   rw [aN h,aX,ByteArray.size_append]
   omega
 · rw [aP h,aM];decide
end Go.Proofs.YtohaanhjddohmaaGreatDoor.G
namespace Go.Proofs.YtohaanhjddohmaaGreatDoor.G
open Go.V
abbrev RD:=Ty.den a_ × Int
def d7 (r:RD) (f:Ty.den a_→RD):RD:=bif r.2==0 then f r.1 else r
def fR (c:Int):Int:=bif c==0 then 0 else bif c==1 then 1 else bif c==2 then 2 else 3
def wk (f:Ty.den a_→RD) (r:RD):RD:=bif r.2==0 then ((f r.1).1,fR (f r.1).2) else r
def wO (r:RD):Ty.den az:=(r.1,(r.2,()))
def iy:ByteArray:=⟨#[108,105,118,101]⟩
def iI (s:ByteArray) (d:Ty.den a_):RD:=bif (bq d.1 s).isSome then pW d s else (d,0)
def bY (s:ByteArray) (d:Ty.den a_):RD:=d7 (iI s d) fun x=>tv x s
def l7 (s t:ByteArray) (d:Ty.den a_):RD:=d7 (d7 (bY s d) fun x=>h_ x s t) fun x=>iq x s
def cV (v:Ty.den bE) (d:Ty.den a_):RD:=d7 (l7 iu (ae v) d) fun x=>uc x iu iy
def cD:List ByteArray→Ty.den a_→RD
 | [],d=>(d,0)
 | s::l,d=>d7 (iI s d) (cD l)
noncomputable def mF (ids:List Int) (d:Ty.den a_):RD:=cD (pM d ids) d
theorem gn (c:Int):(fR c==0)=(c==0):=by
 unfold fR
 cases h:c==0 with
 | true=>rfl
 | false =>
  cases c==1
  · cases c==2 <;> rfl
  · rfl
theorem tW (f g:Ty.den a_→RD) (r:RD):wk (fun x=>d7 (f x) g) r=wk g (wk f r):=by
 unfold wk d7
 cases h:r.2==0 with
 | false=>simp only [aM,h]
 | true =>
  simp only [aX,gn]
  cases (f r.1).2==0 <;> rfl
theorem CW (r:RD):wk (fun d=>(d,0)) r=r:=by
 unfold wk
 cases h:r.2==0 with
 | false=>rfl
 | true=>exact Prod.ext rfl (by show fR 0=r.2;rw [GU h];rfl)
theorem iJ {r:RD} {f:Ty.den a_→RD} (h:DR r.1) (hf:∀ x,DR x→DR (f x).1):DR (d7 r f).1:=by
 unfold d7
 cases r.2==0
 · exact h
 · exact hf _ h
theorem sM {r:RD} {f:Ty.den a_→RD} (h:DR r.1) (hf:∀ x,DR x→DR (f x).1):DR (wk f r).1:=by
 unfold wk
 cases r.2==0
 · exact h
 · exact hf _ h
theorem ni (s:ByteArray) (d:Ty.den a_) (h:DR d):DR (iI s d).1:=by
 unfold iI
 cases (bq d.1 s).isSome
 · exact h
 · exact za h s
theorem jR (s:ByteArray) (d:Ty.den a_) (h:DR d):DR (bY s d).1:=iJ (ni s d h) fun x hx=>A7 hx s
theorem lq (s t:ByteArray) (d:Ty.den a_) (h:DR d):DR (l7 s t d).1:=iJ (iJ (jR s d h) fun x hx=>o5 hx s t) fun x hx=>nB hx s
theorem lX (v:Ty.den bE) (d:Ty.den a_) (h:DR d):DR (cV v d).1:=iJ (lq _ _ d h) fun x hx=>H2 hx _ _
theorem lL:∀ (l:List ByteArray) (d:Ty.den a_),DR d→DR (cD l d).1
 | [],d,h=>h
 | s::l,d,h=>iJ (ni s d h) (lL l)
theorem vW (ids:List Int) (d:Ty.den a_) (h:DR d):DR (mF ids d).1:=lL _ d h
theorem cp (k:Nat) (c:Int):aU.f k c=some (fR c,()):=by
 unfold aU.f aU.t fR
 cases c==0 <;> cases c==1 <;> cases c==2 <;> rfl
theorem yx {l:bW} {s:ByteArray}:decide (kR l s 0≥0)=(bq l s).isSome:=by
 rcases gU l s 0 with ⟨h1,h2,_⟩ | ⟨n,h1,h2,h3,_⟩
 · rw [h1,h2];rfl
 · rw [h2,h3,aN (by omega)];rfl
theorem EP {l:bW} {s:ByteArray}:decide (kR l s 0<0)=!(bq l s).isSome:=by
 rcases gU l s 0 with ⟨h1,h2,_⟩ | ⟨n,h1,h2,h3,_⟩
 · rw [h1,h2];rfl
 · rw [h2,h3,aP (by omega)];rfl
theorem mU {k:Nat} (hk:2 ^ 50≤k) {d:Ty.den a_} (h:DR d) {s:ByteArray} (hs:s.size≤1099511627776):da.f k d s=some ((bY s d).1,((bY s d).2,())):=by
 have hl:=h.sz.l
 unfold da.f da.t bY iI
 rw [i6 hk (by omega),aO]
 simp only [yx]
 cases (bq d.1 s).isSome with
 | false =>
  simp only [aM]
  rw [ov hk h.sz hs]
  rfl
 | true =>
  simp only [aX]
  rw [rI hk h.sz,aO]
  unfold d7
  simp only [bne]
  cases c:(pW d s).2==0 with
  | false=>rfl
  | true =>
   simp only [ft,aM,aX]
   rw [ov hk (za h s).sz hs]
   rfl
theorem uJ {k:Nat} (hk:2 ^ 50≤k) {d:Ty.den a_} (h:DR d) {s t:ByteArray} (hs:s.size≤1099511627776) (ht:t.size≤1099511627776):gZ.f k d s t=some ((l7 s t d).1,((l7 s t d).2,())):=by
 have h1:=jR s d h
 unfold gZ.f gZ.t l7
 rw [mU hk h hs,aO]
 simp only []
 generalize bY s d=r at h1 ⊢
 unfold d7
 cases c:r.2==0 with
 | false=>simp only [aM,c]
 | true =>
  simp only [aX]
  rw [nD hk h1.sz s ht,aO]
  simp only []
  cases c2:(h_ r.1 s t).2==0 with
  | false=>rfl
  | true =>
   simp only [aX]
   rw [kn hk (o5 h1 s t).sz]
   rfl
theorem nG {k:Nat} (hk:2 ^ 50≤k) {d:Ty.den a_} (h:DR d) {v:Ty.den bE} (hv:d5 v=true):eQ.f k d v=some ((cV v d).1,(fR (cV v d).2,())):=by
 have hu:=h.sz.u
 have hn:=h.sz.n
 have h1:=lq iu (ae v) d h
 unfold eQ.f eQ.t cV
 rw [kx hk (by omega) (by omega),aO,jh.2 h]
 simp only [ft,aM]
 rw [pi hk,aO,hv]
 simp only [ft,aM]
 rw [kZ hk,aO,show (⟨#[116,101,109,112]⟩:ByteArray)=iu from rfl,show (⟨#[108,105,118,101]⟩:ByteArray)=iy from rfl]
 simp only []
 rw [uJ hk h (s:=iu) (t:=ae v) (by decide) (uX v),aO]
 simp only []
 generalize l7 iu (ae v) d=r at h1 ⊢
 unfold d7
 cases c:r.2==0 with
 | false=>simp only [aM,cp,aO]
 | true =>
  simp only [aX]
  rw [wQ hk h1.sz iu (b:=iy) (by decide),aO]
  simp only [cp,aO]
theorem ma {k:Nat} (hk:2 ^ 50≤k) {d:Ty.den a_} (h:DR d) {l:List ByteArray} (hl:l.length≤1073741824):bn.f k d l=some ((cD l d).1,((cD l d).2,())):=by
 unfold bn.f bn.t
 refine dZ (L:=fun n i (x:Ty.den a_)=>bn.l0 k n l i x.1 x.2.1 x.2.2.1 x.2.2.2.1 [] 0 0 false) (R:=fun r x=>some ((cD r x).1,((cD r x).2,()))) (Ty.dflt .str) l (fun _ x=>DR x) (fun n x hx=>?_) (fun n i x y rest h0 h1 hy hr hx ih=>?_) (n:=k) (s:=d) (by omega) h
 · simp only [bn.l0,bn.b0]
   rw [aP (by omega),aM]
   rfl
 · have hlx:=hx.sz.l
   simp only [bn.l0,bn.b0]
   rw [aN h1,aX,aG h0 h1,hy,show (x.1,(x.2.1,(x.2.2.1,(x.2.2.2.1,()))))=x from rfl,i6 hk (by omega),aO,aG h0 h1,aC (n:=i+1) (by omega) (by omega)]
   simp only [EP,cD,iI,d7]
   cases (bq x.1 y).isSome with
   | false =>
    simp only [tI,aX,aM]
    exact ih x hx
   | true =>
    simp only [ft,aM,aX]
    rw [rI hk hx.sz,aO]
    simp only [bne]
    cases c:(pW x y).2==0 with
    | false=>rfl
    | true =>
     simp only [ft,aM,aX]
     exact ih _ (za hx y)
theorem Aw (ids:List Int):∀ (l:bW) (acc:List ByteArray),oZ ids l acc=acc++(l.filter (rF ids)).map (·.1)
 | [],acc=>by unfold oZ;simp
 | f::l,acc=>by
  unfold oZ
  rw [Aw ids l]
  cases c:rF ids f
  · rw [aM,List.filter_cons_of_neg (by rw [c];decide)]
  · rw [aX,List.filter_cons_of_pos c,List.map_cons,sy];rfl
theorem GY {d:Ty.den a_} (ids:List Int):(pM d ids).Sublist (kQ d.1):=by
 unfold pM
 cases gw d
 · exact List.nil_sublist _
 · rw [aX,Aw,List.nil_append]
   exact (List.filter_sublist).map _
theorem vK {l:bW} {s t:ByteArray} (h:t≠s):bq (iD l s) t=bq l t:=by
 induction l with
 | nil=>rfl
 | cons g l ih =>
  unfold iD
  cases c:seq g.1 s with
  | true =>
   rw [aX,bq.eq_2,mH (fun q=>h (by rw [← q,dS.1 c])),aM]
  | false =>
   rw [aM,bq.eq_2,bq.eq_2,ih]
theorem HS {l:bW} {s:ByteArray} (h:s ∈ kQ l):(bq l s).isSome=true:=by
 cases q:bq l s with
 | some f=>rfl
 | none =>
  obtain ⟨f,h1,h2⟩:=List.mem_map.1 h
  exact absurd h2 (nH.1 q f h1)
theorem GH {d:Ty.den a_} {s t:ByteArray} (h:t≠s) (ht:(bq d.1 t).isSome=true):(bq (pW d s).1.1 t).isSome=true:=by
 unfold pW iR
 cases (jd d).2 != 0 with
 | true=>rw [aX,ow];exact ht
 | false =>
  show (bq (ub s d.1 d.2.1).1 t).isSome=true
  unfold ub
  cases (bq d.1 s).isNone
  · show (bq (iD d.1 s) t).isSome=true
    rw [vK h]
    exact ht
  · exact ht
theorem sj {k:Nat} (hk:2 ^ 50≤k) {d:Ty.den a_} (h:DR d) {v:Ty.den bE} (hv:v.2.1.length≤1099511627776):bh.f k d v=some ((mF v.2.1 d).1,(fR (mF v.2.1 d).2,())):=by
 have hu:=h.sz.u
 have hn:=h.sz.n
 have hl:=h.len
 have hsub:=GY (d:=d) v.2.1
 have hlen:=hsub.length_le
 unfold kQ at hlen
 rw [List.length_map] at hlen
 have hne:(pM d v.2.1).Pairwise (fun a b=>a≠b):=(List.Pairwise.sublist hsub h.keys).imp fun {a b} q e=>by rw [e,pC] at q;cases q
 have hall:∀ s ∈ pM d v.2.1,(bq d.1 s).isSome=true:=fun s hs=>HS (hsub.subset hs)
 unfold bh.f bh.t mF
 rw [C0 hk (by omega) (by omega) hv,aO]
 simp only []
 generalize pM d v.2.1=l at hlen hne hall ⊢
 refine dZ (L:=fun n i (x:Ty.den a_)=>bh.l0 k n i x.1 x.2.1 x.2.2.1 x.2.2.2.1 [] 0 0 false l) (R:=fun r x=>some ((cD r x).1,(fR (cD r x).2,()))) (Ty.dflt .str) l (fun i x=>DR x∧∀ s ∈ l.drop i.toNat,(bq x.1 s).isSome=true) (fun n x hx=>?_) (fun n i x y rest h0 h1 hy hr hx ih=>?_) (n:=k) (s:=d) (by omega) ⟨h,fun s hs=>hall s (List.mem_of_mem_drop hs)⟩
 · simp only [bh.l0,bh.b0]
   rw [aP (by omega),aM]
   rfl
 · obtain ⟨hd,ha⟩:=hx
   have hp:(y::rest).Pairwise (fun a b=>a≠b):=by rw [← hr];exact hne.drop
   have hdr:l.drop (i+1).toNat=rest:=by
    have:=congrArg (List.drop 1) hr
    rw [List.drop_drop,List.drop_one,List.tail_cons] at this
    rw [show (i+1).toNat=i.toNat+1 by omega]
    exact this
   have hy1:(bq x.1 y).isSome=true:=ha y (by rw [hr];exact oE ..)
   simp only [bh.l0,bh.b0]
   rw [aN h1,aX,aG h0 h1,hy,show (x.1,(x.2.1,(x.2.2.1,(x.2.2.2.1,()))))=x from rfl,rI hk hd.sz,aO,aC (n:=i+1) (by omega) (by omega)]
   simp only [cD,iI,d7,hy1,aX,bne,cp]
   cases c:(pW x y).2==0 with
   | false=>rfl
   | true =>
    simp only [ft,aM,aX]
    refine ih (pW x y).1 ⟨za hd y,fun s hs=>?_⟩
    rw [hdr] at hs
    exact GH (fun e=>(List.pairwise_cons.1 hp).1 s hs e.symm) (ha s (by rw [hr];exact qy _ hs))
theorem BF (k:Nat) (c:Int):l6.f k c=some (fR c,()):=by
 unfold l6.f l6.t fR
 cases c==0 <;> cases c==1 <;> cases c==2 <;> rfl
theorem sr (k:Nat) (w:Ty.den az) (d:Ty.den a_) (c:Int):ar.f k w d c=some ((d,(fR c,())),()):=by
 unfold ar.f ar.t
 rw [BF,aO]
theorem Ek {k:Nat} (hk:2 ^ 50≤k) (r:RD) (h:DR r.1) {s:ByteArray} (hs:s.size≤1099511627776):eJ.f k (wO r) s=some (wO (wk (fun x=>tv x s) r),()):=by
 unfold eJ.f eJ.t wk wO
 simp only []
 cases c:r.2==0 with
 | false=>rfl
 | true=>rw [aX,aX,CN hk h.sz hs,aO,sr,aO]
theorem yL {k:Nat} (hk:2 ^ 50≤k) (r:RD) (h:DR r.1) (s:ByteArray) {t:ByteArray} (ht:t.size≤1099511627776):eF.f k (wO r) s t=some (wO (wk (fun x=>h_ x s t) r),()):=by
 unfold eF.f eF.t wk wO
 simp only []
 cases c:r.2==0 with
 | false=>rfl
 | true=>rw [aX,aX,Cx hk h.sz s ht,aO,sr,aO]
theorem yO {k:Nat} (hk:2 ^ 50≤k) (r:RD) (h:DR r.1) (s:ByteArray):db.f k (wO r) s=some (wO (wk (fun x=>iq x s) r),()):=by
 unfold db.f db.t wk wO
 simp only []
 cases c:r.2==0 with
 | false=>rfl
 | true=>rw [aX,aX,Dc hk h.sz s,aO,sr,aO]
theorem Er {k:Nat} (hk:2 ^ 50≤k) (r:RD) (h:DR r.1) (a:ByteArray) {b:ByteArray} (hb:b.size≤1099511627776):eH.f k (wO r) a b=some (wO (wk (fun x=>uc x a b) r),()):=by
 unfold eH.f eH.t wk wO
 simp only []
 cases c:r.2==0 with
 | false=>rfl
 | true=>rw [aX,aX,Cq hk h.sz a hb,aO,sr,aO]
theorem lb {k:Nat} (hk:2 ^ 50≤k) (r:RD) (h:DR r.1) (s:ByteArray):bB.f k (wO r) s=some (wO (wk (iI s) r),()):=by
 have hl:=h.sz.l
 unfold bB.f bB.t wk wO iI
 simp only []
 cases c:r.2==0 with
 | false=>rfl
 | true =>
  rw [aX,aX,jD hk (by omega),aO]
  simp only [yx]
  cases (bq r.1.1 s).isSome with
  | true=>rw [aX,aX,CX hk h.sz s,aO,sr,aO]
  | false =>
   simp only [aM]
   rw [GU c]
   rfl
theorem rG {k:Nat} (hk:2 ^ 50≤k) (r:RD) (h:DR r.1) {s:ByteArray} (hs:s.size≤1099511627776):dF.f k (wO r) s=some (wO (wk (bY s) r),()):=by
 unfold dF.f dF.t
 rw [lb hk r h,aO]
 simp only []
 rw [Ek hk _ (sM h (ni s)) hs,aO,← tW]
 rfl
theorem vm {k:Nat} (hk:2 ^ 50≤k) (r:RD) (h:DR r.1) {s t:ByteArray} (hs:s.size≤1099511627776) (ht:t.size≤1099511627776):cv.f k (wO r) s t=some (wO (wk (l7 s t) r),()):=by
 unfold cv.f cv.t
 rw [rG hk r h hs,aO]
 simp only []
 have h1:=sM (r:=r) h (jR s)
 rw [yL hk _ h1 s ht,aO]
 simp only []
 rw [yO hk _ (sM h1 fun x hx=>o5 hx s t) s,aO,← tW (bY s) (fun x=>h_ x s t),← tW]
 rfl
theorem xl {k:Nat} (hk:2 ^ 50≤k) (r:RD) (h:DR r.1) {v:Ty.den bE} (hv:v.2.1.length≤1073741824):dm.f k (wO r) v=some (wO (wk (cV v) r),()):=by
 unfold dm.f dm.t
 rw [uu hk v hv,aO,show (⟨#[116,101,109,112]⟩:ByteArray)=iu from rfl,show (⟨#[108,105,118,101]⟩:ByteArray)=iy from rfl]
 simp only []
 rw [vm hk r h (s:=iu) (t:=ae v) (by decide) (uX v),aO]
 simp only []
 rw [Er hk _ (sM h (lq _ _)) iu (b:=iy) (by decide),aO,← tW]
 rfl
theorem zJ (s:ByteArray) (l:List ByteArray) (r:RD):wk (cD (s::l)) r=wk (cD l) (wk (iI s) r):=tW (iI s) (cD l) r
theorem C3 {k:Nat} (hk:2 ^ 50≤k) (r:RD) (h:DR r.1) {l:List ByteArray} (hl:l.length≤1000):aa.f k (wO r) l =
 some (wO (bif r.2==2 then ((cD l r.1).1,bif (cD l r.1).2==0 then 2 else fR (cD l r.1).2) else r),()):=by
 unfold aa.f aa.t
 rw [show (wO r).2.1=r.2 from rfl]
 simp only [bne]
 cases c:r.2==2 with
 | false=>rfl
 | true =>
  simp only [ft,aM,aX]
  have e2:r.2=2:=GU c
  have key:∀ (n:Nat) (i:Int) (x:RD),0≤i→i≤(l.length:Int)→(l.length:Int)-i<n→DR x.1→aa.l1 k n l l.length i r.1.2.1 r.1.2.2.1 r.1.2.2.2.1 2 x.1.1 x.1.2.1 x.1.2.2.1 x.1.2.2.2.1 x.2 =
   some (wO (bif (wk (cD (l.drop i.toNat)) x).2==0 then ((wk (cD (l.drop i.toNat)) x).1,2) else wk (cD (l.drop i.toNat)) x),()):=fun n i x h0 h1 h2 hx=>by
   refine Gk (L:=fun n i (x:RD)=>aa.l1 k n l l.length i r.1.2.1 r.1.2.2.1 r.1.2.2.2.1 2 x.1.1 x.1.2.1 x.1.2.2.1 x.1.2.2.2.1 x.2) (R:=fun q x=>some (wO (bif (wk (cD q) x).2==0 then ((wk (cD q) x).1,2) else wk (cD q) x),())) (Ty.dflt .str) l (fun i x=>DR x.1) (fun n x hx=>?_) (fun n i x y rest h0 h1 hy hr hx ih=>?_) n i x h0 h1 h2 hx
   · simp only [aa.l1,aa.b1]
     rw [aP (by omega),aM,show cD []=fun d=>(d,0) from rfl,CW]
     simp only [bne]
     cases x.2==0 <;> rfl
   · simp only [aa.l1,aa.b1]
     rw [aN h1,aX,aG h0 h1,hy,show ((x.1.1,(x.1.2.1,(x.1.2.2.1,(x.1.2.2.2.1,())))),(x.2,()))=wO x from rfl,lb hk x hx,aO,aC (n:=i+1) (by omega) (by omega),zJ]
     exact ih (wk (iI y) x) (sM hx (ni y))
  obtain ⟨q,hq⟩:∃ q,k=q+1:=⟨k-1,by omega⟩
  have fin:aa.l0 k (q+1) l l.length 0 r.1.1 r.1.2.1 r.1.2.2.1 r.1.2.2.2.1 2 r.1.2.1 r.1.2.2.1 r.1.2.2.2.1 0=some (wO (bif (wk (cD l) (r.1,0)).2==0 then ((wk (cD l) (r.1,0)).1,2) else wk (cD l) (r.1,0)),()):=by
   have k1:=key (q+1+1) 0 (r.1,0) (by omega) (by omega) (by omega) h
   rw [show l.drop (0:Int).toNat=l from rfl] at k1
   refine Eq.trans ?_ k1
   simp only [aa.l0,aa.b0,aa.l1,aa.b1]
   by_cases hz:(0:Int)<(l.length:Int)
   · rw [aN hz,aX,aX,aG (by omega) hz,aG (by omega) hz]
     have e1:bB.f k ((r.1.1,(r.1.2.1,(r.1.2.2.1,(r.1.2.2.2.1,())))),(0,())) (List.getD l (Int.toNat 0) (Ty.dflt .str))=_:=lb hk (r.1,0) h (List.getD l (Int.toNat 0) (Ty.dflt .str))
     rw [e1,aO,aO,aC (n:=(0:Int)+1) (by omega) (by omega)]
     have d1:=sM (r:=((r.1,0):RD)) h (ni (List.getD l (Int.toNat 0) (Ty.dflt .str)))
     have a1:=key q 1 (wk (iI (List.getD l (Int.toNat 0) (Ty.dflt .str))) (r.1,0)) (by omega) (by omega) (by omega) d1
     have a2:=key (q+1) 1 (wk (iI (List.getD l (Int.toNat 0) (Ty.dflt .str))) (r.1,0)) (by omega) (by omega) (by omega) d1
     exact a1.trans a2.symm
   · rw [aP hz,aM,aM]
  rw [show (wO r).1=r.1 from rfl,e2]
  have fin2:aa.l0 k k l l.length 0 r.1.1 r.1.2.1 r.1.2.2.1 r.1.2.2.2.1 2 r.1.2.1 r.1.2.2.1 r.1.2.2.2.1 0=_:=(congrArg (fun z=>aa.l0 k z l l.length 0 r.1.1 r.1.2.1 r.1.2.2.1 r.1.2.2.2.1 2 r.1.2.1 r.1.2.2.1 r.1.2.2.2.1 0) hq).trans fin
  rw [fin2]
  unfold wk
  simp only [beq_self_eq_true,aX,gn]
  cases c3:(cD l r.1).2==0 <;> rfl
end Go.Proofs.YtohaanhjddohmaaGreatDoor.G
namespace Go.Proofs.YtohaanhjddohmaaGreatDoor.G
open Go.V
def ja (d:Ty.den a_):Nat→List Int→Nat
 | 0,_=>0
 | _+1,[]=>0
 | n+1,x::l=>(aV d (aA aI x)).1.size+ja d n l
theorem pO {k:Nat} (hk:2 ^ 50≤k) {st:Ty.den aE} {d:Ty.den a_} (hi:st.1.2.1.length≤1099511627776) (hl:d.1.length≤1099511627776) (hu:dR d.1≤1099511627776) (hn:i7 d.1≤1099511627776) :
 cw.f k st d=some ((ja d 60 st.1.2.1:Int),()):=by
 unfold cw.f cw.t
 refine (dZ (L:=fun n i (s:Int × Nat)=>cw.l0 k n s.1 i st.1.1 st.1.2.1 st.2.1 st.2.2.1 st.2.2.2.1 st.2.2.2.2.1 d.1 d.2.1 d.2.2.1 d.2.2.2.1) (R:=fun r s=>some (s.1+(ja d (60-s.2) r:Int),())) (Ty.dflt (.int .i64)) st.1.2.1
  (fun i s=>(s.2:Int)=i∧0≤s.1∧s.1≤i*1099511627776) (fun n s hs=>?_) (fun n i s x rest h0 h1 hx hr hp ih=>?_) (n:=k) (s:=(0,0)) (by omega) ⟨rfl,by simp,by simp⟩).trans (by simp)
 · simp (disch:=omega) only [cw.l0,cw.b0,aP,aM]
   cases 60-s.2 <;> simp [ja]
 · obtain ⟨s,j⟩:=s
   obtain ⟨g0,g1,g2⟩:=hp
   simp only [] at g0 g1 g2 ih ⊢
   by_cases c:i<60
   · have ht:=gB hk (d:=d) hl hu hn (aA aI x)
     have hz:=eL d (aA aI x)
     have ih:=ih (s+((aV d (aA aI x)).1.size:Int),j+1) ⟨by omega,by simp only [];omega,by simp only [];omega⟩
     simp only [] at ih
     simp (disch:=omega) only [cw.l0,cw.b0,aN h1,aN c,aX,aG,hx,bG hk,aO,ht,aC,ih]
     rw [show 60-j=(60-(j+1))+1 by omega,ja]
     congr 2
     omega
   · simp (disch:=omega) only [cw.l0,cw.b0,aN h1,aP c,aX,aM]
     rw [show 60-j=0 by omega]
     simp [ja]
theorem uo {k:Nat} (hk:2 ^ 50≤k) {st:Ty.den aE} {d:Ty.den a_} (hi:st.1.2.1.length≤1048576) (hl:d.1.length≤1099511627776) (hu:dR d.1≤1099511627776) (hn:i7 d.1≤1099511627776) :
 dK.f k st d=some ((ja d 60 st.1.2.1:Int),()):=by
 unfold dK.f dK.t
 refine (dZ (L:=fun n i (s:Int × Nat)=>dK.l0 k n s.1 st.1.2.1 st.1.2.1.length i d.1 d.2.1 d.2.2.1 d.2.2.2.1) (R:=fun r s=>some (s.1+(ja d (60-s.2) r:Int),())) (Ty.dflt (.int .i64)) st.1.2.1
  (fun i s=>(s.2:Int)=i∧0≤s.1∧s.1≤i*1099511627776) (fun n s hs=>?_) (fun n i s x rest h0 h1 hx hr hp ih=>?_) (n:=k) (s:=(0,0)) (by omega) ⟨rfl,by simp,by simp⟩).trans (by simp)
 · simp (disch:=omega) only [dK.l0,dK.b0,aP,aM]
   cases 60-s.2 <;> simp [ja]
 · obtain ⟨s,j⟩:=s
   obtain ⟨g0,g1,g2⟩:=hp
   simp only [] at g0 g1 g2 ih ⊢
   by_cases c:i<60
   · have ht:=jt hk (d:=d) hl hu hn (aA aI x)
     have hz:=eL d (aA aI x)
     have ih:=ih (s+((aV d (aA aI x)).1.size:Int),j+1) ⟨by omega,by simp only [];omega,by simp only [];omega⟩
     simp only [] at ih
     simp (disch:=omega) only [dK.l0,dK.b0,aN h1,aN c,aX,aG,hx,dX k,aO,ht,aC,ih]
     rw [show 60-j=(60-(j+1))+1 by omega,ja]
     congr 2
     omega
   · have ih:=ih (s,j+1) ⟨by omega,by simp only [];omega,by simp only [];omega⟩
     simp only [] at ih
     simp (disch:=omega) only [dK.l0,dK.b0,aN h1,aP c,aX,aM,aG,aC,ih]
     rw [show 60-j=0 by omega,show 60-(j+1)=0 by omega]
     simp [ja]
end Go.Proofs.YtohaanhjddohmaaGreatDoor.G
namespace Go.Proofs.YtohaanhjddohmaaGreatDoor.G
open Go.V
abbrev nK:=List (Ty.den ax)
def gq (kind batch:Int) (l:nK):Ty.den ax:=(kind,(batch,(ByteArray.empty,(ByteArray.empty,((l.length:Int),(xT l,()))))))
theorem u_ {k:Nat} (hk:2 ^ 50≤k) {l:nK} (hl:l.length≤1073741824) (b kd:Int):gd.f k l b kd=some (gq kd b l,()):=by
 unfold gd.f gd.t
 rw [p_ hk hl,aO]
 rfl
end Go.Proofs.YtohaanhjddohmaaGreatDoor.G
namespace Go.Proofs.YtohaanhjddohmaaGreatDoor.G
open Go.V
abbrev gu:=List (Ty.den aF)
def oz (s:ByteArray):Bool:=decide (1≤(s.size:Int)∧(s.size:Int)≤8)
def bU (p:Ty.den aF):Ty.den ax:=(4,(p.2.2.1,(p.1,(p.2.1,(0,(0,()))))))
def fq (l:gu) (mark:Int):nK:=l.map bU++[gq 5 mark (l.map bU)]
theorem sd {k:Nat} (hk:2 ^ 50≤k) {l:gu} (hl:l.length≤1073741823) (mark:Int):fZ.f k l mark=some (fq l mark,()):=by
 unfold fZ.f fZ.t
 refine (dZ (L:=fun n i s=>fZ.l0 k n l mark l l.length i s) (R:=fun r s=>some (s++r.map bU++[gq 5 mark (s++r.map bU)],())) (Ty.dflt aF) l (fun i s=>(s.length:Int)=i) (fun n s hs=>?_) (fun n i s x rest h0 h1 hx hr hp ih=>?_) (n:=k) (s:=[]) (by omega) (by decide)).trans (by rw [List.nil_append];rfl)
 · simp (disch:=first | omega | decide) only [fZ.l0,fZ.b0,aP,aM,ry hk,aO,ba,List.map_nil,List.append_nil,gq,hs]
 · have ih:=ih (s++[bU x]) (by rw [xS];show ((s.length+1:Nat):Int)=_;omega)
   simp (disch:=first | omega | decide) only [fZ.l0,fZ.b0,aN,aX,aG,hx,ba,aC]
   refine ih.trans ?_
   simp only [List.map_cons,sy,List.cons_append,List.nil_append]
def bj:nK→ByteArray
 | []=>⟨#[]⟩
 | r::l=>aT (aJ r)++bj l
theorem qK:∀ l m:nK,bj (l++m)=bj l++bj m
 | [],m=>by rw [List.nil_append,bj,mT]
 | r::l,m=>by rw [List.cons_append,bj,qK l m,bj,af]
end Go.Proofs.YtohaanhjddohmaaGreatDoor.G
namespace Go.Proofs.YtohaanhjddohmaaGreatDoor.G
open Go.V
abbrev aY:=List (Ty.den aB)
end Go.Proofs.YtohaanhjddohmaaGreatDoor.G
namespace Go.Proofs.YtohaanhjddohmaaGreatDoor.G
open Go.V
noncomputable def ga (s:ByteArray) (i n:Int):Ty.den ax × Bool :=
 if 0≤i∧i≤s.size∧1≤n∧n≤s.size-i then (if (iO (ByteArray.extract s i.toNat (i+n).toNat)).2=n then j5 (iO (ByteArray.extract s i.toNat (i+n).toNat)).1 else (rp,false)) else (rp,false)
theorem Cf {s:ByteArray} (h:(j5 s).2=false):j5 s=(rp,false):=EB h
theorem H7 (s:ByteArray) (i j:Nat):(ByteArray.extract s i j).size≤s.size:=by
 rw [← cj,rj,List.length_drop,List.length_take,cj];omega
theorem s_ {k:Nat} (hk:2 ^ 50≤k) {s:ByteArray} (i n:Int) (hs:s.size≤1099511627775):iX.f k s i n=some ((ga s i n).1,((ga s i n).2,())):=by
 unfold iX.f iX.t ga
 rw [nV,aO]
 by_cases c1:0≤i∧i≤s.size
 case neg=>rw [aP c1,if_neg (fun h=>c1 ⟨h.1,h.2.1⟩)];rfl
 rw [aN c1,ft,aM,nV,aO,aC (by omega) (by omega)]
 by_cases c2:1≤n∧n≤s.size-i
 case neg=>rw [aP c2,if_neg (fun h=>c2 ⟨h.2.2.1,h.2.2.2⟩)];rfl
 have hz:=H7 s i.toNat (i+n).toNat
 have hu:=me (ByteArray.extract s i.toNat (i+n).toNat)
 rw [aN c2,ft,aM,aC (by omega) (by omega),tE (by omega) (by omega) (by omega),if_pos ⟨c1.1,c1.2,c2⟩,lP hk (by omega),aO]
 simp only []
 rw [qE hk (by omega),aO]
 by_cases c3:(iO (ByteArray.extract s i.toNat (i+n).toNat)).2=n
 · rw [if_pos c3]
   simp only [show ((iO (ByteArray.extract s i.toNat (i+n).toNat)).2 != n)=false by rw [c3];simp,aM]
   cases c4:(j5 (iO (ByteArray.extract s i.toNat (i+n).toNat)).1).2 with
   | true=>rfl
   | false=>rw [Cf c4];rfl
 · rw [if_neg c3]
   simp only [show ((iO (ByteArray.extract s i.toNat (i+n).toNat)).2 != n)=true from bne_iff_ne.2 c3,aX]
theorem sw {k:Nat} (hk:2 ^ 50≤k) {s:ByteArray} (i n:Int) (hs:s.size≤1099511627775):ii.f k s i n=some ((ga s i n).1,((ga s i n).2,())):=by
 unfold ii.f ii.t ga
 rw [tD,aO]
 by_cases c1:0≤i∧i≤s.size
 case neg=>rw [aP c1,if_neg (fun h=>c1 ⟨h.1,h.2.1⟩)];rfl
 rw [aN c1,ft,aM,tD,aO,aC (by omega) (by omega)]
 by_cases c2:0≤n∧n≤s.size-i
 case neg=>rw [aP c2,if_neg (fun h=>c2 ⟨by omega,h.2.2.2⟩)];rfl
 have hz:=H7 s i.toNat (i+n).toNat
 have hu:=me (ByteArray.extract s i.toNat (i+n).toNat)
 have hsz:(ByteArray.extract s i.toNat (i+n).toNat).size≤(i+n).toNat-i.toNat:=by rw [← cj,rj,List.length_drop,List.length_take];omega
 rw [aN c2,ft,aM,aC (by omega) (by omega),tE (by omega) (by omega) (by omega),lJ hk (by omega),aO]
 simp only []
 by_cases c0:(iO (ByteArray.extract s i.toNat (i+n).toNat)).2=0
 · rw [show ((iO (ByteArray.extract s i.toNat (i+n).toNat)).2==0)=true by rw [c0];rfl,aX]
   split
   · rename_i h
     rw [if_neg (by omega)]
   · rfl
 · rw [show ((iO (ByteArray.extract s i.toNat (i+n).toNat)).2==0)=false from mJ c0,aM,if_pos ⟨c1.1,c1.2,by omega,c2.2⟩]
   by_cases c3:(iO (ByteArray.extract s i.toNat (i+n).toNat)).2=n
   · rw [if_pos c3]
     simp only [show ((iO (ByteArray.extract s i.toNat (i+n).toNat)).2 != n)=false by rw [c3];simp,aM]
     rw [qF hk (by omega),aO]
   · rw [if_neg c3]
     simp only [show ((iO (ByteArray.extract s i.toNat (i+n).toNat)).2 != n)=true from bne_iff_ne.2 c3,aX]
end Go.Proofs.YtohaanhjddohmaaGreatDoor.G
namespace Go.Proofs.YtohaanhjddohmaaGreatDoor.G
open Go.V
def oV (p:Option (Ty.den aB)) (x:Ty.den aB):Bool :=
 oz x.1&&(decide ((1:Int)≤x.2.1∧x.2.1≤100000)&&(!decide (x.2.2.1<(0:Int))&&(decide ((1:Int)≤x.2.2.2.1∧x.2.2.2.1≤210)&&(decide ((1:Int)≤x.2.2.2.2.1∧x.2.2.2.2.1≤1000000)&&(match p with | none=>true | some y=>mN y.1 x.1)))))
def nP (l:aY):Bool:=decide ((l.length:Int)≤20)&&pG oV none l
theorem wU {k:Nat} (hk:2 ^ 50≤k) (l:aY):eZ.f k l=some (nP l,()):=by
 unfold eZ.f eZ.t nP
 by_cases c:l.length > 20
 · rw [aN (by omega),aX,aP (by omega),Bool.false_and]
 · rw [aP (by omega),aM,aN (by omega),Bool.true_and]
   refine (ol (L:=fun n i=>eZ.l0 k n l i) (Ty.dflt aB) l oV (some (true,())) (some (false,())) (fun n=>?_) (fun n x h hx=>?_) (fun n i x y h0 h1 hx hy=>?_) (n:=k) (by omega)).trans (by cases pG oV none l <;> rfl)
   · simp (disch:=omega) only [eZ.l0,eZ.b0,aP,aM]
   · simp (disch:=omega) only [eZ.l0,eZ.b0,aN (show (0:Int)<(l.length:Int) by omega),aX,aG,hx,mV k,fz k,aO,aP (show ¬ (0:Int) > 0 by omega),aM,aC,oV,oz]
     cases decide (1≤(x.1.size:Int)∧(x.1.size:Int)≤8) <;> cases decide ((1:Int)≤x.2.1∧x.2.1≤100000) <;> cases decide (x.2.2.1<(0:Int)) <;> cases decide ((1:Int)≤x.2.2.2.1∧x.2.2.2.1≤210) <;> cases decide ((1:Int)≤x.2.2.2.2.1∧x.2.2.2.2.1≤1000000) <;> rfl
   · simp (disch:=omega) only [eZ.l0,eZ.b0,aN h1,aX,aG,hx,hy,mV k,fz k,aO,aN (show i > 0 by omega),aM,aC,oV,oz,lf]
     cases decide (1≤(x.1.size:Int)∧(x.1.size:Int)≤8) <;> cases decide ((1:Int)≤x.2.1∧x.2.1≤100000) <;> cases decide (x.2.2.1<(0:Int)) <;> cases decide ((1:Int)≤x.2.2.2.1∧x.2.2.2.1≤210) <;> cases decide ((1:Int)≤x.2.2.2.2.1∧x.2.2.2.2.1≤1000000) <;> cases mN y.1 x.1 <;> rfl
theorem vY {k:Nat} (hk:2 ^ 50≤k) {l:aY} (hl:l.length≤1099511627776):dw.f k l=some (nP l,()):=by
 unfold dw.f dw.t nP
 refine (ol (L:=fun n i=>dw.l0 k n l l l.length i) (Ty.dflt aB) l oV (some (decide ((l.length:Int)≤20),())) (some (false,())) (fun n=>?_) (fun n x h hx=>?_) (fun n i x y h0 h1 hx hy=>?_) (n:=k) (by omega)).trans (by cases pG oV none l <;> cases decide ((l.length:Int)≤20) <;> rfl)
 · simp (disch:=omega) only [dw.l0,dw.b0,aP (show ¬ (l.length:Int)<(l.length:Int) by omega),aM]
 · simp (disch:=omega) only [dw.l0,dw.b0,aN (show (0:Int)<(l.length:Int) by omega),aX,aG,hx,pA k,jr k,aO,aP (show ¬ (0:Int) > 0 by omega),aM,aC,oV,oz]
   cases decide (1≤(x.1.size:Int)∧(x.1.size:Int)≤8) <;> cases decide ((1:Int)≤x.2.1∧x.2.1≤100000) <;> cases decide (x.2.2.1<(0:Int)) <;> cases decide ((1:Int)≤x.2.2.2.1∧x.2.2.2.1≤210) <;> cases decide ((1:Int)≤x.2.2.2.2.1∧x.2.2.2.2.1≤1000000) <;> rfl
 · simp (disch:=omega) only [dw.l0,dw.b0,aN h1,aX,aG,hx,hy,pA k,jr k,aO,aN (show i > 0 by omega),aM,aC,oV,oz]
   cases decide (1≤(x.1.size:Int)∧(x.1.size:Int)≤8) <;> cases decide ((1:Int)≤x.2.1∧x.2.1≤100000) <;> cases decide (x.2.2.1<(0:Int)) <;> cases decide ((1:Int)≤x.2.2.2.1∧x.2.2.2.1≤210) <;> cases decide ((1:Int)≤x.2.2.2.2.1∧x.2.2.2.2.1≤1000000) <;> cases mN y.1 x.1 <;> rfl
def tH:aY→ByteArray→Option (Ty.den aB)
 | [],_=>none
 | e::l,s=>bif seq e.1 s then some e else tH l s
def Iw:Ty.den aB:=(ByteArray.empty,(0,(0,(0,(0,())))))
def FC:Option (Ty.den aB)→Option (Ty.den aB × Bool × Unit)
 | none=>some (Iw,(false,()))
 | some e=>some (e,(true,()))
theorem xq {k:Nat} (hk:2 ^ 50≤k) {l:aY} (hl:l.length≤1099511627776) (s:ByteArray):fk.f k l s=FC (tH l s):=by
 unfold fk.f fk.t
 refine dZ (L:=fun n i (_:Unit)=>fk.l0 k n l s i ByteArray.empty 0 0 0 0) (R:=fun r _=>FC (tH r s)) (Ty.dflt aB) l (fun _ _=>True) (fun n _ _=>?_) (fun n i _ x rest h0 h1 hx hr hp ih=>?_) (n:=k) (s:=()) (by omega) trivial
 · simp (disch:=omega) only [fk.l0,fk.b0,aP,aM,tH]
   rfl
 · have ih:=ih () trivial
   simp (disch:=omega) only [fk.l0,fk.b0,aN h1,aX,aG,hx,aC,ih,tH]
   cases seq x.1 s <;> rfl
theorem xp {k:Nat} (hk:2 ^ 50≤k) {l:aY} (hl:l.length≤1099511627776) (s:ByteArray):ff.f k l s=FC (tH l s):=by
 unfold ff.f ff.t
 refine dZ (L:=fun n i (_:Unit)=>ff.l0 k n s l l.length i ByteArray.empty 0 0 0 0) (R:=fun r _=>FC (tH r s)) (Ty.dflt aB) l (fun _ _=>True) (fun n _ _=>?_) (fun n i _ x rest h0 h1 hx hr hp ih=>?_) (n:=k) (s:=()) (by omega) trivial
 · simp (disch:=omega) only [ff.l0,ff.b0,aP,aM,tH]
   rfl
 · have ih:=ih () trivial
   simp (disch:=omega) only [ff.l0,ff.b0,aN h1,aX,aG,hx,aC,ih,tH]
   cases seq x.1 s <;> rfl
def IX:Ty.den aF:=(ByteArray.empty,(ByteArray.empty,(0,())))
noncomputable def fy (d:Ty.den a_) (e:Ty.den aB):Ty.den ax × Bool:=ga (aV d (aA aI e.2.1)).1 e.2.2.1 e.2.2.2.1
noncomputable def pK (l:aY) (d:Ty.den a_) (key:ByteArray):Ty.den aF × Int :=
 match tH l key with
 | none=>(IX,8)
 | some e=>bif (fy d e).2&&(seq (fy d e).1.2.2.1 key&&(((fy d e).1.1==1)||((fy d e).1.1==4))) then ((key,((fy d e).1.2.2.2.1,((fy d e).1.2.1,()))),0) else (IX,3)
theorem Bw (i n:Int):ga ⟨#[]⟩ i n=(rp,false):=by
 unfold ga
 rw [if_neg]
 rintro ⟨h1,h2,h3,h4⟩
 have:((⟨#[]⟩:ByteArray).size:Int)=0:=rfl
 omega
theorem HW {d:Ty.den a_} {s:ByteArray} (h:(aV d s).2=false):(aV d s).1=⟨#[]⟩:=by
 unfold aV at h ⊢
 generalize gw d=b at h ⊢
 generalize bq d.1 s=o at h ⊢
 cases b <;> cases o <;> first | rfl | cases h
theorem EX {d:Ty.den a_} {e:Ty.den aB} (h:(fy d e).2=true):(aV d (aA aI e.2.1)).2=true:=by
 cases c:(aV d (aA aI e.2.1)).2 with
 | true=>rfl
 | false =>
  unfold fy at h
  rw [HW c,Bw] at h
  cases h
theorem Cc {k:Nat} (hk:2 ^ 50≤k) {st:Ty.den aE} {d:Ty.den a_} (hd:ta d) (hl:st.2.1.length≤1099511627776) (key:ByteArray):m5.f k st d key=some ((pK st.2.1 d key).1,((pK st.2.1 d key).2,())):=by
 have:=hd.l;have:=hd.u;have:=hd.n
 unfold m5.f m5.t pK
 rw [xq hk hl]
 cases tH st.2.1 key with
 | none=>rfl
 | some e =>
  unfold FC
  have hz:=eL d (aA aI e.2.1)
  simp only [aO,ft,aM,bG hk]
  rw [gB hk (by omega) (by omega) (by omega),aO]
  simp only []
  rw [s_ hk _ _ (by omega),aO]
  change (bif !(aV d (aA aI e.2.1)).2 then _ else bif !(fy d e).2 then _ else bif !seq (fy d e).1.2.2.1 key then _ else bif !((fy d e).1.1==1) then bif !((fy d e).1.1==4) then _ else some ((key,((fy d e).1.2.2.2.1,((fy d e).1.2.1,()))),(0,())) else some ((key,((fy d e).1.2.2.2.1,((fy d e).1.2.1,()))),(0,())))=_
  cases c:(fy d e).2 with
  | false=>cases (aV d (aA aI e.2.1)).2 <;> rfl
  | true =>
   rw [EX c]
   cases seq (fy d e).1.2.2.1 key <;> cases ((fy d e).1.1==1) <;> cases ((fy d e).1.1==4) <;> rfl
theorem D7 {k:Nat} (hk:2 ^ 50≤k) {st:Ty.den aE} {d:Ty.den a_} (hd:ta d) (hl:st.2.1.length≤1099511627776) (key:ByteArray):mA.f k st d key=some ((pK st.2.1 d key).1,((pK st.2.1 d key).2,())):=by
 have:=hd.l;have:=hd.u;have:=hd.n
 unfold mA.f mA.t pK
 rw [xp hk hl]
 cases tH st.2.1 key with
 | none=>rfl
 | some e =>
  unfold FC
  have hz:=eL d (aA aI e.2.1)
  simp only [aO,ft,aM,dX k]
  rw [jt hk (by omega) (by omega) (by omega),aO]
  simp only []
  rw [sw hk _ _ (by omega),aO]
  change (bif !(fy d e).2 then _ else bif !((fy d e).1.1==1) then bif !((fy d e).1.1==4) then _ else bif !seq (fy d e).1.2.2.1 key then _ else some (((fy d e).1.2.2.1,((fy d e).1.2.2.2.1,((fy d e).1.2.1,()))),(0,())) else bif !seq (fy d e).1.2.2.1 key then _ else some (((fy d e).1.2.2.1,((fy d e).1.2.2.2.1,((fy d e).1.2.1,()))),(0,())))=_
  cases c:(fy d e).2 with
  | false=>rfl
  | true =>
   cases q:seq (fy d e).1.2.2.1 key with
   | false=>cases ((fy d e).1.1==1) <;> cases ((fy d e).1.1==4) <;> rfl
   | true =>
    rw [dS.1 q]
    cases ((fy d e).1.1==1) <;> cases ((fy d e).1.1==4) <;> rfl
noncomputable def lU (l:aY) (d:Ty.den a_):List ByteArray→gu→gu × Int
 | [],acc=>(acc,0)
 | key::r,acc=>bif (pK l d key).2 != 0 then ([],(pK l d key).2) else lU l d r (acc++[(pK l d key).1])
noncomputable def cR (l:aY) (d:Ty.den a_):gu × Int:=lU l d (l.map (·.1)) []
theorem ya (l:aY) (d:Ty.den a_):∀ (r:List ByteArray) (acc:gu),(lU l d r acc).1.length≤acc.length+r.length
 | [],acc=>Nat.le_refl _
 | key::r,acc=>by
  unfold lU
  cases (pK l d key).2 != 0 with
  | true=>exact Nat.zero_le _
  | false =>
   have:=ya l d r (acc++[(pK l d key).1])
   rw [cB] at this
   rw [aM,lB]
   omega
theorem jZ (l:aY) (d:Ty.den a_):(cR l d).1.length≤l.length:=by
 have:=ya l d (l.map (·.1)) []
 rw [List.length_map,List.length_nil] at this
 unfold cR
 omega
theorem uO {k:Nat} (hk:2 ^ 50≤k) {st:Ty.den aE} {d:Ty.den a_} (hd:ta d) (hl:st.2.1.length≤1099511627775):gS.f k st d=some ((cR st.2.1 d).1,((cR st.2.1 d).2,())):=by
 unfold gS.f gS.t cR
 refine dZ (L:=fun n i s=>gS.l0 k n i st.1.1 st.1.2.1 st.2.1 st.2.2.1 st.2.2.2.1 st.2.2.2.2.1 d.1 d.2.1 d.2.2.1 d.2.2.2.1 s) (R:=fun r s=>some ((lU st.2.1 d (r.map (·.1)) s).1,((lU st.2.1 d (r.map (·.1)) s).2,()))) (Ty.dflt aB) st.2.1 (fun i s=>(s.length:Int)=i) (fun n s hs=>?_) (fun n i s x rest h0 h1 hx hr hp ih=>?_) (n:=k) (s:=[]) (by omega) rfl
 · simp (disch:=omega) only [gS.l0,gS.b0,aP,aM,List.map_nil,lU]
 · have hg:=Cc hk (st:=st) (d:=d) hd (by omega) x.1
   have ih:=ih (s++[(pK st.2.1 d x.1).1]) (by rw [cB];omega)
   simp (disch:=first | omega | decide) only [gS.l0,gS.b0,aN h1,aX,aG,hx,hg,aO,ba,aC,ih,List.map_cons,lU]
   cases (pK st.2.1 d x.1).2 != 0 <;> rfl
theorem Bt {k:Nat} (hk:2 ^ 50≤k) {l:aY} (hl:l.length≤1099511627775):fA.f k l=some (l.map (·.1),()):=by
 unfold fA.f fA.t
 refine dZ (L:=fun n i s=>fA.l0 k n l l.length i s) (R:=fun r s=>some (s++r.map (·.1),())) (Ty.dflt aB) l (fun i s=>(s.length:Int)=i) (fun n s hs=>?_) (fun n i s x rest h0 h1 hx hr hp ih=>?_) (n:=k) (s:=[]) (by omega) rfl
 · simp (disch:=omega) only [fA.l0,fA.b0,aP,aM,List.map_nil,List.append_nil]
 · have ih:=ih (s++[x.1]) (by rw [cB];omega)
   simp (disch:=first | omega | decide) only [fA.l0,fA.b0,aN h1,aX,aG,hx,ba,aC,ih,List.map_cons]
   rw [sy]
   rfl
theorem uL {k:Nat} (hk:2 ^ 50≤k) {st:Ty.den aE} {d:Ty.den a_} (hd:ta d) (hl:st.2.1.length≤1099511627775):gJ.f k st d=some ((cR st.2.1 d).1,((cR st.2.1 d).2,())):=by
 unfold gJ.f gJ.t cR
 rw [Bt hk hl,aO]
 have hm:(st.2.1.map (·.1)).length=st.2.1.length:=List.length_map ..
 refine dZ (L:=fun n i s=>gJ.l0 k n (st.2.1.map (·.1)).length i st.1.1 st.1.2.1 st.2.1 st.2.2.1 st.2.2.2.1 st.2.2.2.2.1 d.1 d.2.1 d.2.2.1 d.2.2.2.1 s (st.2.1.map (·.1))) (R:=fun r s=>some ((lU st.2.1 d r s).1,((lU st.2.1 d r s).2,()))) (Ty.dflt .str) (st.2.1.map (·.1)) (fun i s=>(s.length:Int)=i) (fun n s hs=>?_) (fun n i s x rest h0 h1 hx hr hp ih=>?_) (n:=k) (s:=[]) (by omega) rfl
 · simp (disch:=omega) only [gJ.l0,gJ.b0,aP,aM,lU]
 · have hg:=D7 hk (st:=st) (d:=d) hd (by omega) x
   have ih:=ih (s++[(pK st.2.1 d x).1]) (by rw [cB];omega)
   simp (disch:=first | omega | decide) only [gJ.l0,gJ.b0,aN h1,aX,aG,hx,hg,aO,ba,aC,ih,lU]
   cases (pK st.2.1 d x).2 != 0 <;> rfl
noncomputable def E3 (d:Ty.den a_) (tail:Int) (x:Int) (last:Bool):Bool :=
 (aV d (aA aI x)).2&&(decide ((cW (aV d (aA aI x)).1).2=((aV d (aA aI x)).1.size:Int))&&(!last||(tail==((aV d (aA aI x)).1.size:Int))))
noncomputable def mj (d:Ty.den a_) (tail:Int):List Int→Bool
 | []=>true
 | x::l=>E3 d tail x l.isEmpty&&mj d tail l
noncomputable def qM (d:Ty.den a_) (next:Int) (e:Ty.den aB):Bool :=
 (fy d e).2&&(seq (fy d e).1.2.2.1 e.1&&(((fy d e).1.2.1==e.2.2.2.2.1)&&((((fy d e).1.1==1)||((fy d e).1.1==4))&&!decide (e.2.2.2.2.1≥next))))
noncomputable def gE (st:Ty.den aE) (d:Ty.den a_):Bool :=
 gw d&&(d5 st.1&&(nP st.2.1&&(decide ((1:Int)≤st.2.2.1∧st.2.2.1≤1000001)&&(mj d st.2.2.2.1 st.1.2.1&&st.2.1.all (qM d st.2.2.1)))))
theorem BX {α:Type} {l:List α} {i:Int} {x:α} {rest:List α} (h0:0≤i) (h:l.drop i.toNat=x::rest):rest.isEmpty=decide (i+1=(l.length:Int)):=by
 have:=congrArg List.length h
 rw [List.length_drop,lB] at this
 cases rest with
 | nil=>rw [aN (by rw [List.length_nil] at this;omega)];rfl
 | cons y r=>rw [aP (by rw [lB] at this;omega)];rfl
theorem sT {k:Nat} (hk:2 ^ 50≤k) {st:Ty.den aE} {d:Ty.den a_} (hd:ta d):bw.f k st d=some (gE st d,()):=by
 have:=hd.l;have:=hd.u;have:=hd.n
 unfold bw.f bw.t gE
 rw [kx hk (by omega) (by omega),aO]
 cases gw d with
 | false=>rfl
 | true =>
  rw [ft,aM,pi hk,aO,Bool.true_and]
  cases cl:d5 st.1 with
  | false=>rfl
  | true =>
   rw [ft,aM,wU hk,aO,Bool.true_and]
   cases cd:nP st.2.1 with
   | false=>rfl
   | true =>
    rw [ft,aM,fz,aO,Bool.true_and]
    cases decide ((1:Int)≤st.2.2.1∧st.2.2.1≤1000001) with
    | false=>rfl
    | true =>
     rw [ft,aM,Bool.true_and]
     have hl:st.1.2.1.length≤60:=by
      unfold d5 at cl
      rw [j6,j6,decide_eq_true_eq,decide_eq_true_eq] at cl
      omega
     have he:st.2.1.length≤20:=by
      unfold nP at cd
      rw [j6,decide_eq_true_eq] at cd
      omega
     have l1:bw.l1 k k 0 st.1.1 st.1.2.1 st.2.1 st.2.2.1 st.2.2.2.1 st.2.2.2.2.1 d.1 d.2.1 d.2.2.1 d.2.2.2.1=some (st.2.1.all (qM d st.2.2.1),()):=by
      refine dZ (L:=fun n i (_:Unit)=>bw.l1 k n i st.1.1 st.1.2.1 st.2.1 st.2.2.1 st.2.2.2.1 st.2.2.2.2.1 d.1 d.2.1 d.2.2.1 d.2.2.2.1) (R:=fun r _=>some (r.all (qM d st.2.2.1),())) (Ty.dflt aB) st.2.1 (fun _ _=>True) (fun n _ _=>?_) (fun n i _ x rest h0 h1 hx hr hp ih=>?_) (n:=k) (s:=()) (by omega) trivial
      · simp (disch:=omega) only [bw.l1,bw.b1,aP,aM,List.all_nil]
      · have ih:=ih () trivial
        have hz:=eL d (aA aI x.2.1)
        have ht:=gB hk (d:=d) (by omega) (by omega) (by omega) (aA aI x.2.1)
        have hr:=s_ hk (s:=(aV d (aA aI x.2.1)).1) x.2.2.1 x.2.2.2.1 (by omega)
        simp (disch:=omega) only [bw.l1,bw.b1,aN h1,aX,aG,hx,bG hk,aO,ht,hr,aC,ih,List.all_cons,qM,fy,bne]
        cases (ga (aV d (aA aI x.2.1)).1 x.2.2.1 x.2.2.2.1).2 <;> cases seq (ga (aV d (aA aI x.2.1)).1 x.2.2.1 x.2.2.2.1).1.2.2.1 x.1 <;> cases ((ga (aV d (aA aI x.2.1)).1 x.2.2.1 x.2.2.2.1).1.2.1==x.2.2.2.2.1) <;>
         cases ((ga (aV d (aA aI x.2.1)).1 x.2.2.1 x.2.2.2.1).1.1==1) <;> cases ((ga (aV d (aA aI x.2.1)).1 x.2.2.1 x.2.2.2.1).1.1==4) <;> cases decide (x.2.2.2.2.1≥st.2.2.1) <;> rfl
     refine (dZ (L:=fun n i (_:Unit)=>bw.l0 k n i st.1.1 st.1.2.1 st.2.1 st.2.2.1 st.2.2.2.1 st.2.2.2.2.1 d.1 d.2.1 d.2.2.1 d.2.2.2.1) (R:=fun r _=>some (mj d st.2.2.2.1 r&&st.2.1.all (qM d st.2.2.1),())) (Ty.dflt (.int .i64)) st.1.2.1 (fun _ _=>True) (fun n _ _=>?_) (fun n i _ x rest h0 h1 hx hr hp ih=>?_) (n:=k) (s:=()) (by omega) trivial)
     · simp (disch:=omega) only [bw.l0,bw.b0,aP,aM,mj,l1,Bool.true_and]
     · have ih:=ih () trivial
       have hz:=eL d (aA aI x)
       have ht:=gB hk (d:=d) (by omega) (by omega) (by omega) (aA aI x)
       have hs:=m8 hk (s:=(aV d (aA aI x)).1) (by omega)
       have hle:=(jW (aV d (aA aI x)).1).2.2
       have hlast:=BX h0 hr
       simp (disch:=omega) only [bw.l0,bw.b0,aN h1,aX,aG,hx,bG hk,aO,ht,hs,aC,ih,mj,E3,bne,hlast]
       rw [show ((i+1:Int)==(st.1.2.1.length:Int))=decide (i+1=(st.1.2.1.length:Int)) from rfl]
       cases (aV d (aA aI x)).2 with
       | false=>rfl
       | true =>
        by_cases q:(cW (aV d (aA aI x)).1).2=((aV d (aA aI x)).1.size:Int)
        · rw [aN q,aP (by omega)]
          cases decide (i+1=(st.1.2.1.length:Int)) <;> cases (st.2.2.2.1==((aV d (aA aI x)).1.size:Int)) <;> rfl
        · rw [aP q,aN (by omega)]
          rfl
theorem t_ {k:Nat} (hk:2 ^ 50≤k) {st:Ty.den aE} {d:Ty.den a_} (hd:ta d) (hv:st.1.2.1.length≤1099511627776) (hw:st.2.1.length≤1099511627776):bz.f k st d=some (gE st d,()):=by
 have:=hd.l;have:=hd.u;have:=hd.n
 unfold bz.f bz.t gE
 rw [jE hk (by omega) (by omega),aO]
 cases gw d with
 | false=>rfl
 | true =>
  rw [ft,aM,py hk hv,aO,Bool.true_and]
  cases cl:d5 st.1 with
  | false=>rfl
  | true =>
   rw [ft,aM,vY hk hw,aO,Bool.true_and]
   cases cd:nP st.2.1 with
   | false=>rfl
   | true =>
    rw [ft,aM,jr,aO,Bool.true_and]
    cases decide ((1:Int)≤st.2.2.1∧st.2.2.1≤1000001) with
    | false=>rfl
    | true =>
     rw [ft,aM,Bool.true_and]
     have hl:st.1.2.1.length≤60:=by
      unfold d5 at cl
      rw [j6,j6,decide_eq_true_eq,decide_eq_true_eq] at cl
      omega
     have he:st.2.1.length≤20:=by
      unfold nP at cd
      rw [j6,decide_eq_true_eq] at cd
      omega
     have l1:bz.l1 k k st.2.1 st.2.1.length 0 st.1.1 st.1.2.1 st.2.1 st.2.2.1 st.2.2.2.1 st.2.2.2.2.1 d.1 d.2.1 d.2.2.1 d.2.2.2.1=some (st.2.1.all (qM d st.2.2.1),()):=by
      refine dZ (L:=fun n i (_:Unit)=>bz.l1 k n st.2.1 st.2.1.length i st.1.1 st.1.2.1 st.2.1 st.2.2.1 st.2.2.2.1 st.2.2.2.2.1 d.1 d.2.1 d.2.2.1 d.2.2.2.1) (R:=fun r _=>some (r.all (qM d st.2.2.1),())) (Ty.dflt aB) st.2.1 (fun _ _=>True) (fun n _ _=>?_) (fun n i _ x rest h0 h1 hx hr hp ih=>?_) (n:=k) (s:=()) (by omega) trivial
      · simp (disch:=omega) only [bz.l1,bz.b1,aP,aM,List.all_nil]
      · have ih:=ih () trivial
        have hz:=eL d (aA aI x.2.1)
        have ht:=jt hk (d:=d) (by omega) (by omega) (by omega) (aA aI x.2.1)
        have hr:=sw hk (s:=(aV d (aA aI x.2.1)).1) x.2.2.1 x.2.2.2.1 (by omega)
        simp (disch:=omega) only [bz.l1,bz.b1,aN h1,aX,aG,hx,dX k,aO,ht,hr,aC,ih,List.all_cons,qM,fy,bne]
        cases (ga (aV d (aA aI x.2.1)).1 x.2.2.1 x.2.2.2.1).2 <;> cases seq (ga (aV d (aA aI x.2.1)).1 x.2.2.1 x.2.2.2.1).1.2.2.1 x.1 <;> cases ((ga (aV d (aA aI x.2.1)).1 x.2.2.1 x.2.2.2.1).1.2.1==x.2.2.2.2.1) <;>
         cases ((ga (aV d (aA aI x.2.1)).1 x.2.2.1 x.2.2.2.1).1.1==1) <;> cases ((ga (aV d (aA aI x.2.1)).1 x.2.2.1 x.2.2.2.1).1.1==4) <;> cases decide (x.2.2.2.2.1≥st.2.2.1) <;> rfl
     refine (dZ (L:=fun n i (_:Unit)=>bz.l0 k n st.1.2.1 st.1.2.1.length i st.1.1 st.1.2.1 st.2.1 st.2.2.1 st.2.2.2.1 st.2.2.2.2.1 d.1 d.2.1 d.2.2.1 d.2.2.2.1) (R:=fun r _=>some (mj d st.2.2.2.1 r&&st.2.1.all (qM d st.2.2.1),())) (Ty.dflt (.int .i64)) st.1.2.1 (fun _ _=>True) (fun n _ _=>?_) (fun n i _ x rest h0 h1 hx hr hp ih=>?_) (n:=k) (s:=()) (by omega) trivial)
     · simp (disch:=omega) only [bz.l0,bz.b0,aP,aM,mj,l1,Bool.true_and]
     · have ih:=ih () trivial
       have hz:=eL d (aA aI x)
       have ht:=jt hk (d:=d) (by omega) (by omega) (by omega) (aA aI x)
       have hs:=pY hk (s:=(aV d (aA aI x)).1) (by omega)
       have hlast:=BX h0 hr
       simp (disch:=omega) only [bz.l0,bz.b0,aN h1,aX,aG,hx,dX k,aO,ht,hs,aC,ih,mj,E3,bne,hlast]
       rw [show (i==(st.1.2.1.length:Int)-1)=decide (i+1=(st.1.2.1.length:Int)) from (show decide (i=(st.1.2.1.length:Int)-1)=_ from decide_eq_decide.2 (by omega))]
       cases (aV d (aA aI x)).2 with
       | false=>rfl
       | true =>
        by_cases q:(cW (aV d (aA aI x)).1).2=((aV d (aA aI x)).1.size:Int)
        · rw [aN q,show ((cW (aV d (aA aI x)).1).2==((aV d (aA aI x)).1.size:Int))=true from beq_iff_eq.2 q,q]
          cases decide (i+1=(st.1.2.1.length:Int)) <;> cases (st.2.2.2.1==((aV d (aA aI x)).1.size:Int)) <;> rfl
        · rw [aP q,show ((cW (aV d (aA aI x)).1).2==((aV d (aA aI x)).1.size:Int))=false from mJ q]
          rfl
end Go.Proofs.YtohaanhjddohmaaGreatDoor.G
namespace Go.Proofs.YtohaanhjddohmaaGreatDoor.G
open Go.V
theorem vL {h:Ty.den bp→Ty.den bp} (hh:∀ f,(h f).1=f.1):∀ (l:bW) (s t:ByteArray),bq (lY h l s) t=bif seq t s then (bq l s).map h else bq l t
 | [],s,t=>by cases seq t s <;> rfl
 | g::l,s,t=>by
  unfold lY
  cases c:seq g.1 s with
  | true =>
   have e:=dS.1 c
   rw [aX,bq.eq_2,hh,bq.eq_2,c,aX]
   by_cases q:t=s
   · rw [e,q,cY];rfl
   · rw [mH q,aM,bq.eq_2]
     rw [e,mH (fun w=>q w.symm)]
     rfl
  | false =>
   rw [aM,bq.eq_2,bq.eq_2,c,aM,vL hh l s t,bq.eq_2]
   by_cases q:t=s
   · rw [q,cY,c];rfl
   · rw [mH q];rfl
theorem tZ {d:Ty.den a_} {g:bW→Int→bW × Int} (h:(iR d g).2=0):(g d.1 d.2.1).2=0∧(iR d g).1.1=(g d.1 d.2.1).1:=by
 unfold iR at h ⊢
 cases c:(jd d).2 != 0 with
 | true =>
  rw [c,aX] at h
  rw [h] at c
  cases c
 | false=>rw [c] at h;exact ⟨h,rfl⟩
theorem vo {d:Ty.den a_} (h:DR d) (s:ByteArray):aV d s=match bq d.1 s with | none=>(⟨#[]⟩,false) | some f=>(f.2.1,true):=by
 unfold aV
 rw [jh.2 h]
 rfl
theorem mb {r:RD} {f:Ty.den a_→RD} (h:(d7 r f).2=0):r.2=0∧d7 r f=f r.1∧(f r.1).2=0:=by
 unfold d7 at h ⊢
 cases c:r.2==0 with
 | true=>rw [c] at h;exact ⟨GU c,rfl,h⟩
 | false =>
  rw [c] at h
  rw [aM] at h
  rw [h] at c
  cases c
noncomputable def kB (d:Ty.den a_) (x:Int):ByteArray:=(aV d (aA aI x)).1
def dQ (ids:List Int):Int:=ids.getD (ids.length-1) 0
noncomputable def nQ (x:Int) (d:Ty.den a_):RD :=
 d7 (bif decide ((cW (kB d x)).2<((kB d x).size:Int)) then Ca d (aA aI x) (cW (kB d x)).2 else (d,0)) fun y=>iq y (aA aI x)
theorem J9 (x:Int) {d:Ty.den a_} (h:DR d):DR (nQ x d).1:=by
 unfold nQ
 refine iJ ?_ fun y hy=>nB hy _
 cases decide ((cW (kB d x)).2<((kB d x).size:Int))
 · exact h
 · exact Gn h _ _
end Go.Proofs.YtohaanhjddohmaaGreatDoor.G
namespace Go.Proofs.YtohaanhjddohmaaGreatDoor.G
open Go.V
theorem HZ {pre rest:ByteArray} {r:Ty.den ax} (h:eo r=true) (d:Nat) :
 kw (pre++(aT (aJ r)++rest)) (d+1) (pre.size:Int)=(((pre.size:Int),(((aT (aJ r)).size:Int),(r,())))::(kw (pre++(aT (aJ r)++rest)) d ((pre.size+(aT (aJ r)).size:Nat):Int)).1,(kw (pre++(aT (aJ r)++rest)) d ((pre.size+(aT (aJ r)).size:Nat):Int)).2):=by
 have hz:=kK r
 have hp:=je (s:=aJ r) (by omega)
 rw [kw,ng,e9,mf rest (by omega)]
 simp only []
 rw [sB h,if_neg (by omega)]
 simp only []
 rw [if_neg (show ¬ ((true:Bool)=false) by decide)]
 rfl
theorem u6:∀ (rs:nK) (pre:ByteArray) (d:Nat),(∀ r ∈ rs,eo r=true)→(bj rs).size<d→(kw (pre++bj rs) d (pre.size:Int)).1.map (·.2.2.1)=rs∧(kw (pre++bj rs) d (pre.size:Int)).2=((pre++bj rs).size:Int)
 | [],pre,d,_,hd=>by
  obtain ⟨d,rfl⟩:∃ q,d=q+1:=⟨d-1,by omega⟩
  have:iO (ByteArray.extract (pre++bj []) (Int.toNat (pre.size:Int)) (pre++bj []).size)=(⟨#[]⟩,0):=by
   rw [ng,e9,bj,Dk]
  rw [kw,this,if_pos rfl,bj,aL,e0]
  exact ⟨rfl,rfl⟩
 | r::rs,pre,d,h,hd=>by
  rw [bj,aL] at hd
  have hz:=kK r
  have hp:=je (s:=aJ r) (by omega)
  obtain ⟨d,rfl⟩:∃ q,d=q+1:=⟨d-1,by omega⟩
  have ih:=u6 rs (pre++aT (aJ r)) d (fun x hx=>h x (qy _ hx)) (by omega)
  rw [af,aL pre] at ih
  rw [bj,HZ (h r (oE ..))]
  simp only [List.map_cons]
  exact ⟨by rw [ih.1],ih.2⟩
theorem AF {rs:nK} (h:∀ r ∈ rs,eo r=true):(cW (bj rs)).1.map (·.2.2.1)=rs∧(cW (bj rs)).2=((bj rs).size:Int):=by
 have:=u6 rs ⟨#[]⟩ ((bj rs).size+1) h (by omega)
 rw [mT,e0] at this
 exact this
end Go.Proofs.YtohaanhjddohmaaGreatDoor.G
namespace Go.Proofs.YtohaanhjddohmaaGreatDoor.G
open Go.V
abbrev qw:=List (Ty.den g8)
def qR (x:Ty.den g8):Bool:=oz x.1&&(decide ((x.2.2.1.size:Int)≤24)&&(!x.2.1||seq x.2.2.1 ⟨#[]⟩))
def mL (l:qw):Bool:=pG (fun _=>qR) none l&&decide (l.length≤8)
theorem yA {k:Nat} (hk:2 ^ 50≤k) (l:qw):ek.f k l=some (mL l,()):=by
 unfold ek.f ek.t mL
 by_cases c:l.length > 8
 · rw [aN (by omega),aX,aP (by omega),Bool.and_false]
 · rw [aP (by omega),aM,aN (by omega),Bool.and_true]
   have st:∀ (n:Nat) (i:Int) x,0≤i→i<l.length→l.getD i.toNat (Ty.dflt g8)=x→ek.l0 k (n+1) l i=bif qR x then ek.l0 k n l (i+1) else some (false,()):=fun n i x h0 h1 hx=>by
    simp (disch:=omega) only [ek.l0,ek.b0,aN h1,aX,aG,hx,mV k,aO,aC,qR,oz]
    by_cases c2:(x.2.2.1.size:Int) > 24
    · rw [aN c2,aP (show ¬ (x.2.2.1.size:Int)≤24 by omega)]
      cases decide (1≤(x.1.size:Int)∧(x.1.size:Int)≤8) <;> rfl
    · rw [aP c2,aN (show (x.2.2.1.size:Int)≤24 by omega)]
      cases decide (1≤(x.1.size:Int)∧(x.1.size:Int)≤8) <;> cases x.2.1 <;> cases seq x.2.2.1 ⟨#[]⟩ <;> rfl
   exact (ol (L:=fun n i=>ek.l0 k n l i) (Ty.dflt g8) l (fun _=>qR) (some (true,())) (some (false,())) (fun n=>by simp (disch:=omega) only [ek.l0,ek.b0,aP,aM])
    (fun n x h hx=>st n 0 x (by omega) (by omega) hx) (fun n i x y h0 h1 hx hy=>st n i x (by omega) h1 hx) (n:=k) (by omega)).trans (by cases pG (fun _=>qR) none l <;> rfl)
theorem rS {l:qw} (h:mL l=true):l.length≤8:=by
 unfold mL at h
 rw [j6,decide_eq_true_eq] at h
 exact h.2
theorem D6 {l:qw} (h:mL l=true) {x:Ty.den g8} (hx:x ∈ l):qR x=true:=by
 unfold mL at h
 rw [j6] at h
 exact (zV h.1 hx).elim fun _ q=>q
def mZ (b:Int) (p:Ty.den g8):Ty.den ax:=bif p.2.1 then (2,(b,(p.1,(ByteArray.empty,(0,(0,())))))) else (1,(b,(p.1,(p.2.2.1,(0,(0,()))))))
def xB (l:qw) (b:Int):nK:=l.map (mZ b)++[gq 3 b (l.map (mZ b))]
def bH (r:Ty.den ax):Int:=((aT (aJ r)).size:Int)
theorem ky (r:Ty.den ax):0≤bH r∧bH r≤211:=by
 have:=j9 (aJ r)
 unfold bH
 omega
theorem F_ {x:Ty.den g8} (b:Int) (h:qR x=true):mZ b x=bif x.2.1 then (2,(b,(x.1,(x.2.2.1,(0,(0,())))))) else (1,(b,(x.1,(x.2.2.1,(0,(0,())))))):=by
 unfold mZ
 unfold qR at h
 rw [j6,j6] at h
 cases c:x.2.1 with
 | false=>rfl
 | true =>
  rw [c] at h
  have:x.2.2.1=⟨#[]⟩:=dS.1 h.2.2
  rw [this]
  rfl
end Go.Proofs.YtohaanhjddohmaaGreatDoor.G
namespace Go.Proofs.YtohaanhjddohmaaGreatDoor.G
open Go.V
def kT (l:aY) (key:ByteArray):aY:=l.filter fun x=>!(seq x.1 key)
def JV (key:ByteArray) (x:Ty.den aB):Bool:=mN x.1 key||seq x.1 key
def we (l:aY) (e:Ty.den aB):aY:=l.takeWhile (JV e.1)++e::l.dropWhile (JV e.1)
def xY (l:aY) (e:Ty.den aB):aY:=we (kT l e.1) e
theorem qW (l:aY) (key:ByteArray):(kT l key).length≤l.length:=List.length_filter_le ..
theorem BL (l:aY) (e:Ty.den aB):(we l e).length=l.length+1:=by
 unfold we
 rw [xS,lB]
 have:=congrArg List.length (List.takeWhile_append_dropWhile (p:=JV e.1) (l:=l))
 rw [xS] at this
 omega
theorem CE (l:aY) (e:Ty.den aB):(xY l e).length≤l.length+1:=by
 unfold xY
 have:=qW l e.1
 rw [BL]
 omega
theorem nv {k:Nat} (hk:2 ^ 50≤k) {l:aY} (e:Ty.den aB) (hl:l.length≤1073741823):bV.f k l e=some (xY l e,()):=by
 unfold bV.f bV.t
 refine (dZ (L:=fun n i (s:Bool × aY)=>bV.l0 k n l s.1 i e.1 e.2.1 e.2.2.1 e.2.2.2.1 e.2.2.2.2.1 s.2) (R:=fun r s=>some (s.2++bif s.1 then kT r e.1 else we (kT r e.1) e,())) (Ty.dflt aB) l (fun i s=>(s.2.length:Int)≤2*i+1) (fun n s hs=>?_) (fun n i s x rest h0 h1 hx hr hp ih=>?_) (n:=k) (s:=(false,[])) (by omega) (by simp)).trans (by rw [List.nil_append];rfl)
 · obtain ⟨dn,out⟩:=s
   simp only [] at hs
   cases dn with
   | true=>simp (disch:=first | omega | decide) only [bV.l0,bV.b0,aP,aM,aX,ft,kT,List.filter_nil,List.append_nil]
   | false=>simp (disch:=first | omega | decide) only [bV.l0,bV.b0,aP,aM,aX,tI,ba,kT,List.filter_nil,we,List.takeWhile_nil,List.dropWhile_nil,List.nil_append]
 · obtain ⟨dn,out⟩:=s
   simp only [] at hp
   cases c:seq x.1 e.1 with
   | true =>
    simp (disch:=omega) only [bV.l0,bV.b0,aN,aX,aG,hx,c,aC]
    refine (ih (dn,out) (by simp only [];omega)).trans ?_
    simp only [kT,List.filter_cons,c,ft,Bool.false_eq_true,if_false]
   | false =>
    have ef:kT (x::rest) e.1=x::kT rest e.1:=by simp only [kT,List.filter_cons,c,tI,if_true]
    cases dn with
    | true =>
     simp (disch:=first | omega | decide) only [bV.l0,bV.b0,aN,aX,aM,aG,hx,c,aC,ft,ba]
     refine (ih (true,out++[x]) (by simp only [cB];omega)).trans ?_
     rw [ef]
     simp only [aX,sy,List.cons_append,List.nil_append]
    | false =>
     cases c2:mN x.1 e.1 with
     | true =>
      simp (disch:=first | omega | decide) only [bV.l0,bV.b0,aN,aX,aM,aG,hx,c,c2,aC,tI,ft,Bool.true_or,ba]
      refine (ih (false,out++[x]) (by simp only [cB];omega)).trans ?_
      rw [ef]
      simp only [aM,we,JV,List.takeWhile_cons,List.dropWhile_cons,c2,Bool.true_or,if_true,sy,List.cons_append,List.nil_append]
     | false =>
      have hx2:(out++[(e.1,(e.2.1,(e.2.2.1,(e.2.2.2.1,(e.2.2.2.2.1,())))))]:aY).length+1≤1099511627776:=by rw [cB];omega
      simp (disch:=first | omega | decide) only [bV.l0,bV.b0,aN,aX,aM,aG,hx,c,c2,aC,tI,Bool.or_false,ba]
      refine (ih (true,(out++[e])++[x]) (by simp only [cB];omega)).trans ?_
      rw [ef]
      simp only [aX,aM,we,JV,List.takeWhile_cons,List.dropWhile_cons,c,c2,Bool.or_false,Bool.false_eq_true,if_false,sy,List.cons_append,List.nil_append]
end Go.Proofs.YtohaanhjddohmaaGreatDoor.G
namespace Go.Proofs.YtohaanhjddohmaaGreatDoor.G
open Go.V
abbrev bD:=List (Ty.den aD)
def mB (b:Int) (acc:bD) (p:Ty.den aD):bD :=
 bif p.2.2.2.1.2.1==b then (bif p.2.2.2.1.1==3 then [] else bif p.2.2.2.1.1==1||p.2.2.2.1.1==2 then acc++[p] else acc) else acc
def oW (acc:bD) (p:Ty.den aD):bD:=bif p.2.2.2.1.1==5 then [] else bif p.2.2.2.1.1==4 then acc++[p] else acc
def lG (b:Int) (l:bD):bD:=l.foldl (mB b) []
def jw (l:bD):bD:=l.foldl oW []
theorem ox (b:Int) (acc:bD) (p:Ty.den aD):(mB b acc p).length≤acc.length+1:=by
 unfold mB
 cases p.2.2.2.1.2.1==b <;> cases p.2.2.2.1.1==3 <;> cases p.2.2.2.1.1==1 <;> cases p.2.2.2.1.1==2 <;> simp
theorem se (acc:bD) (p:Ty.den aD):(oW acc p).length≤acc.length+1:=by
 unfold oW
 cases p.2.2.2.1.1==5 <;> cases p.2.2.2.1.1==4 <;> simp
theorem tX {f:bD→Ty.den aD→bD} (h:∀ a p,(f a p).length≤a.length+1):∀ (l acc:bD),(l.foldl f acc).length≤acc.length+l.length
 | [],acc=>by simp
 | p::l,acc=>by
  have:=tX h l (f acc p)
  have:=h acc p
  rw [List.foldl_cons,lB]
  omega
theorem qN (b:Int) (l:bD):(lG b l).length≤l.length:=by
 have:=tX (ox b) l []
 simpa [lG] using this
theorem uM (l:bD):(jw l).length≤l.length:=by
 have:=tX se l []
 simpa [jw] using this
theorem Ej {k:Nat} (hk:2 ^ 50≤k) {l:bD} {e:Int} (b:Int) (h0:0≤e) (he:e≤l.length) (hl:l.length≤1099511627775):iA.f k l e b=some (lG b (l.take e.toNat),()):=by
 unfold iA.f iA.t
 have hlen:(l.take e.toNat).length=e.toNat:=by rw [List.length_take];omega
 have he':e=((l.take e.toNat).length:Int):=by omega
 conv=>lhs;rw [he']
 refine dZ (L:=fun n i s=>iA.l0 k n l ((l.take e.toNat).length:Int) b i s) (R:=fun r s=>some (r.foldl (mB b) s,())) (Ty.dflt aD) (l.take e.toNat) (fun i s=>(s.length:Int)≤i) (fun n s hs=>?_) (fun n i s x rest h0 h1 hx hr hp ih=>?_) (n:=k) (s:=[]) (by omega) (by decide)
 · simp (disch:=omega) only [iA.l0,iA.b0,aP,aM,List.foldl_nil]
 · rw [kJ (by omega)] at hx
   have ih:=fun s' (h:s'.length≤s.length+1)=>ih s' (by omega)
   simp (disch:=omega) only [iA.l0,iA.b0,aN h1,aX,aG,hx,aC]
   rw [List.foldl_cons]
   have hs1:=ox b s x
   have ih1:=ih _ hs1
   rw [← ih1]
   unfold mB
   have r1:∀ {R:Type} (q:Option R),rm (Ty.bytes aD) (s.length+1) q=q:=fun q=>ba (by omega) (by decide)
   have r2:∀ {R:Type} (q:Option R),rm (Ty.bytes aD) (0+1) q=q:=fun q=>ba (by omega) (by decide)
   simp only [r1,r2]
   cases c1:(x.2.2.2.1.2.1==b) <;> cases c2:(x.2.2.2.1.1==3) <;> cases c3:(x.2.2.2.1.1==1) <;> cases c4:(x.2.2.2.1.1==2) <;> first | rfl | skip
   all_goals (exfalso;have e2:=eq_of_beq c2;first | (rw [e2] at c3;revert c3;decide) | (rw [e2] at c4;revert c4;decide))
theorem zO {k:Nat} (hk:2 ^ 50≤k) {l:bD} {r:Ty.den ax} (hr:r.1=3) (hl:l.length≤1099511627775):gN.f k l r=some (lG r.2.1 l,()):=by
 unfold gN.f gN.t
 rw [hr]
 refine dZ (L:=fun n i s=>gN.l0 k n l l.length i 3 r.2.1 r.2.2.1 r.2.2.2.1 r.2.2.2.2.1 r.2.2.2.2.2.1 s) (R:=fun q s=>some (q.foldl (mB r.2.1) s,())) (Ty.dflt aD) l (fun i s=>(s.length:Int)≤i) (fun n s hs=>?_) (fun n i s x rest h0 h1 hx hr hp ih=>?_) (n:=k) (s:=[]) (by omega) (by decide)
 · simp (disch:=omega) only [gN.l0,gN.b0,aP,aM,List.foldl_nil]
 · simp (disch:=omega) only [gN.l0,gN.b0,aN h1,aX,aM,aG,hx,aC,show ((3:Int)==3)=true from rfl,show ((3:Int)==5)=false from rfl]
   rw [List.foldl_cons]
   have hs1:=ox r.2.1 s x
   have ih1:=ih (mB r.2.1 s x) (by omega)
   rw [← ih1]
   unfold mB bne
   have r1:∀ {R:Type} (q:Option R),rm (Ty.bytes aD) (s.length+1) q=q:=fun q=>ba (by omega) (by decide)
   simp only [r1]
   cases c1:(x.2.2.2.1.2.1==r.2.1) <;> cases c2:(x.2.2.2.1.1==3) <;> cases c3:(x.2.2.2.1.1==1) <;> cases c4:(x.2.2.2.1.1==2) <;> rfl
def wl (p:Ty.den aD):Ty.den ax:=p.2.2.2.1
def mE (r:Ty.den ax) (own:bD):Bool:=(r.2.2.2.2.1==(own.length:Int))&&(r.2.2.2.2.2.1==xT (own.map wl))
theorem uV {k:Nat} (hk:2 ^ 50≤k) (r:Ty.den ax) {l:bD} (hl:l.length≤1073741823):gM.f k r l=some (mE r l,()):=by
 unfold gM.f gM.t
 refine (dZ (L:=fun n i s=>gM.l0 k n l l.length i r.1 r.2.1 r.2.2.1 r.2.2.2.1 r.2.2.2.2.1 r.2.2.2.2.2.1 s) (R:=fun q s=>some ((r.2.2.2.2.1==((s++q.map wl).length:Int))&&(r.2.2.2.2.2.1==xT (s++q.map wl)),())) (Ty.dflt aD) l (fun i s=>(s.length:Int)=i) (fun n s hs=>?_) (fun n i s x rest h0 h1 hx hr hp ih=>?_) (n:=k) (s:=[]) (by omega) (by decide)).trans (by rw [List.nil_append,List.length_map];rfl)
 · simp (disch:=omega) only [gM.l0,gM.b0,aP,aM,List.map_nil,List.append_nil,ry hk,aO]
   cases (r.2.2.2.2.1==(s.length:Int)) <;> rfl
 · simp (disch:=first | omega | decide) only [gM.l0,gM.b0,aN,aX,aG,hx,ba,aC]
   refine (ih (s++[wl x]) (by rw [cB];omega)).trans ?_
   simp only [List.map_cons,sy,List.cons_append,List.nil_append]
theorem u5 {k:Nat} (hk:2 ^ 50≤k) (r:Ty.den ax) {l:bD} (hl:l.length≤1073741823):iU.f k r l=some (mE r l,()):=by
 have e:fc.f k l=some (l.map wl,()):=by
  unfold fc.f fc.t
  refine (dZ (L:=fun n i s=>fc.l0 k n l i s) (R:=fun q s=>some (s++q.map wl,())) (Ty.dflt aD) l (fun i s=>(s.length:Int)=i) (fun n s hs=>?_) (fun n i s x rest h0 h1 hx hr hp ih=>?_) (n:=k) (s:=[]) (by omega) (by decide)).trans (by rw [List.nil_append])
  · simp (disch:=omega) only [fc.l0,fc.b0,aP,aM,List.map_nil,List.append_nil]
  · simp (disch:=first | omega | decide) only [fc.l0,fc.b0,aN,aX,aG,hx,ba,aC]
    refine (ih (s++[wl x]) (by rw [cB];omega)).trans ?_
    simp only [List.map_cons,sy,List.cons_append,List.nil_append]
 unfold iU.f iU.t mE
 rw [e,aO]
 simp only []
 rw [p_ hk (by rw [List.length_map];omega),aO]
 cases (r.2.2.2.2.1==(l.length:Int)) <;> rfl
end Go.Proofs.YtohaanhjddohmaaGreatDoor.G
namespace Go.Proofs.YtohaanhjddohmaaGreatDoor.G
open Go.V
theorem q_ {k:Nat} (hk:2 ^ 50≤k) {l:aY} (key:ByteArray) (hl:l.length≤1099511627775):co.f k l key=some (kT l key,()):=by
 unfold co.f co.t
 refine (dZ (L:=fun n i s=>co.l0 k n l key i s) (R:=fun r s=>some (s++kT r key,())) (Ty.dflt aB) l (fun i s=>(s.length:Int)≤i) (fun n s hs=>?_) (fun n i s x rest h0 h1 hx hr hp ih=>?_) (n:=k) (s:=[]) (by omega) (by decide)).trans (by rw [List.nil_append])
 · simp (disch:=omega) only [co.l0,co.b0,aP,aM,kT,List.filter_nil,List.append_nil]
 · cases c:seq x.1 key with
   | true =>
    simp (disch:=first | omega | decide) only [co.l0,co.b0,aN,aX,aM,aG,hx,c,ft,aC]
    refine (ih s (by omega)).trans ?_
    simp only [kT,List.filter_cons,c,ft,Bool.false_eq_true,if_false]
   | false =>
    simp (disch:=first | omega | decide) only [co.l0,co.b0,aN,aX,aG,hx,c,tI,ba,aC]
    refine (ih (s++[x]) (by rw [cB];omega)).trans ?_
    simp only [kT,List.filter_cons,c,tI,if_true,sy,List.cons_append,List.nil_append]
theorem uD {k:Nat} (hk:2 ^ 50≤k) {l:bD} {e:Int} (h0:0≤e) (he:e≤l.length) (hl:l.length≤1099511627775):eg.f k l e=some (jw (l.take e.toNat),()):=by
 unfold eg.f eg.t
 have hlen:(l.take e.toNat).length=e.toNat:=by rw [List.length_take];omega
 have he':e=((l.take e.toNat).length:Int):=by omega
 conv=>lhs;rw [he']
 refine dZ (L:=fun n i s=>eg.l0 k n l ((l.take e.toNat).length:Int) i s) (R:=fun r s=>some (r.foldl oW s,())) (Ty.dflt aD) (l.take e.toNat) (fun i s=>(s.length:Int)≤i) (fun n s hs=>?_) (fun n i s x rest h0 h1 hx hr hp ih=>?_) (n:=k) (s:=[]) (by omega) (by decide)
 · simp (disch:=omega) only [eg.l0,eg.b0,aP,aM,List.foldl_nil]
 · rw [kJ (by omega)] at hx
   simp (disch:=omega) only [eg.l0,eg.b0,aN h1,aX,aG,hx,aC]
   rw [List.foldl_cons]
   have hs1:=se s x
   have ih1:=ih (oW s x) (by omega)
   rw [← ih1]
   unfold oW
   have r1:∀ {R:Type} (q:Option R),rm (Ty.bytes aD) (s.length+1) q=q:=fun q=>ba (by omega) (by decide)
   have r2:∀ {R:Type} (q:Option R),rm (Ty.bytes aD) (0+1) q=q:=fun q=>ba (by omega) (by decide)
   simp only [r1,r2]
   cases c1:(x.2.2.2.1.1==5) <;> cases c2:(x.2.2.2.1.1==4) <;> first | rfl | skip
   all_goals (exfalso;have e2:=eq_of_beq c1;rw [e2] at c2;revert c2;decide)
def zx (p:Ty.den aD):Ty.den aB:=(p.2.2.2.1.2.2.1,(p.1,(p.2.1,(p.2.2.1,(p.2.2.2.1.2.1,())))))
def k0 (d:aY) (p:Ty.den aD):aY:=bif p.2.2.2.1.1==2 then kT d p.2.2.2.1.2.2.1 else xY d (zx p)
def gD (d:aY) (own:bD):aY:=own.foldl k0 d
theorem uC (d:aY) (p:Ty.den aD):(k0 d p).length≤d.length+1:=by
 unfold k0
 have h1:=qW d p.2.2.2.1.2.2.1
 have h2:=CE d (zx p)
 cases p.2.2.2.1.1==2
 · rw [aM];omega
 · rw [aX];omega
theorem oo:∀ (own:bD) (d:aY),(gD d own).length≤d.length+own.length
 | [],d=>Nat.le_refl _
 | p::own,d=>by
  have:=oo own (k0 d p)
  have:=uC d p
  rw [gD,List.foldl_cons,lB]
  unfold gD at this
  simp only [gD] at *
  omega
def uY (d:aY) (code:Int):Int:=if d.length > 20 then 2 else code
theorem wt {k:Nat} (hk:2 ^ 50≤k) {d:aY} (p:Ty.den aD) (hd:d.length≤1073741823):gp.f k d p=some (k0 d p,()):=by
 unfold gp.f gp.t k0
 rw [q_ hk _ (by omega),nv hk _ hd]
 cases p.2.2.2.1.1==2 <;> rfl
def Fe (a b:Int):Int:=if a > b then a else b
def jQ (all:bD):bD→Nat→aY→Int→Int→Ty.den kO
 | [],_,d,last,code=>bif code==0&&decide ((jw all).length > 0) then (d,(last,(1,()))) else (d,(last,(code,())))
 | p::rest,i,d,last,code =>
  bif code != 0 then (d,(last,(code,()))) else
  bif p.2.2.2.1.1==3 then (bif mE p.2.2.2.1 (lG p.2.2.2.1.2.1 (all.take i)) then jQ all rest (i+1) (gD d (lG p.2.2.2.1.2.1 (all.take i))) (Fe p.2.2.2.1.2.1 last) (uY (gD d (lG p.2.2.2.1.2.1 (all.take i))) code)
   else jQ all rest (i+1) d (Fe p.2.2.2.1.2.1 last) code) else
  bif p.2.2.2.1.1==5 then (bif mE p.2.2.2.1 (jw (all.take i)) then jQ all rest (i+1) (gD d (jw (all.take i))) (Fe p.2.2.2.1.2.1 last) (uY (gD d (jw (all.take i))) code)
   else jQ all rest (i+1) d (Fe p.2.2.2.1.2.1 last) 1) else
  jQ all rest (i+1) d (Fe p.2.2.2.1.2.1 last) code
def mg (g:Ty.den kO) (l:bD):Ty.den kO:=jQ l l 0 g.1 g.2.1 g.2.2.1
def EO (d:aY) (code:Int):Prop:=d.length≤268435456∧(code=0→d.length≤134217728)
theorem ou {d:aY} {own:bD} {code:Int} (h:EO d 0) (ho:own.length≤134217728):EO (gD d own) (uY (gD d own) code):=by
 have h1:=oo own d
 have h2:=h.2 rfl
 refine ⟨by omega,fun q=>?_⟩
 unfold uY at q
 split at q
 · cases q
 · omega
theorem BM {d:aY} (h:EO d 0):EO d 1:=⟨h.1,fun q=>by cases q⟩
theorem wJ {k:Nat} (hk:2 ^ 50≤k) (g:Ty.den kO) {l:bD} (hl:l.length≤134217728) (hd:g.1.length≤134217728):bx.f k g l=some (mg g l,()):=by
 unfold bx.f bx.t
 rw [ba (by omega) (by decide),List.nil_append]
 have inner:∀ {own:bD} {d:aY} (L0:bD→Int→aY→Int→Int→aY→Int→Int→Option (Ty.den kO × Unit)) (i last code:Int),own.length≤134217728→d.length≤268435456→0≤i→i≤134217728 →
  bx.l1 k L0 k l i 0 [] 0 0 d last code own=L0 l (i+1) [] 0 0 (gD d own) last (uY (gD d own) code):=fun {own d} L0 i last code ho hd2 hi0 hi1=>by
  refine dZ (L:=fun n j (d:aY)=>bx.l1 k L0 n l i j [] 0 0 d last code own) (R:=fun q d=>L0 l (i+1) [] 0 0 (gD d q) last (uY (gD d q) code)) (Ty.dflt aD) own (fun j d=>(d.length:Int)≤268435456+j) (fun n d hs=>?_) (fun n j d x rest h0 h1 hx hr hp ih=>?_) (n:=k) (s:=d) (by omega) (by omega)
  · change _=L0 l (i+1) [] 0 0 d last (uY d code)
    simp (disch:=omega) only [bx.l1,bx.b1,aP (show ¬ ((own.length:Int)<(own.length:Int)) by omega),aM,uY,aC]
    by_cases c:d.length > 20
    · rw [aN (by omega),if_pos c];rfl
    · rw [aP (by omega),if_neg c];rfl
  · have hsd:=uC d x
    simp (disch:=omega) only [bx.l1,bx.b1,aN h1,aX,aG,hx,wt hk,aO,aC]
    exact ih _ (by omega)
 have hmk:=uD hk (l:=l) (e:=l.length) (by omega) (by omega) (by omega)
 rw [Int.toNat_natCast,List.take_length] at hmk
 have key:=Gk (L:=fun n i (s:aY × Int × Int)=>bx.l0 k n l i [] 0 0 s.1 s.2.1 s.2.2) (R:=fun (q:bD) s=>some (jQ l q (l.length-q.length) s.1 s.2.1 s.2.2,())) (Ty.dflt aD) l (fun i s=>EO s.1 s.2.2) (fun n s hs=>?_) (fun n i s x rest h0 h1 hx hr hp ih=>?_) k 0 (g.1,(g.2.1,g.2.2.1)) (by omega) (by omega) (by omega) ⟨by simp only [];omega,fun _=>by simp only [];omega⟩
 · have e:l.drop (Int.toNat 0)=l:=rfl
   rw [e,Nat.sub_self] at key
   exact key
 · obtain ⟨d,last,code⟩:=s
   simp (disch:=omega) only [bx.l0,bx.b0,aP,aM,jQ,hmk,aO]
   cases c1:(code==0)
   · rfl
   · by_cases c2:(jw l).length > 0
     · rw [aN (show ((jw l).length:Int) > 0 by omega),aN c2];rfl
     · rw [aP (show ¬ ((jw l).length:Int) > 0 by omega),aP c2];rfl
 · obtain ⟨d,last,code⟩:=s
   simp only [] at hp ih
   have hi:l.length-(x::rest).length=i.toNat:=by
    have:=congrArg List.length hr
    rw [List.length_drop] at this
    omega
   have hi2:l.length-rest.length=i.toNat+1:=by rw [lB] at hi;have:=congrArg List.length hr;rw [List.length_drop,lB] at this;omega
   have htk:(l.take i.toNat).length≤134217728:=by rw [List.length_take];omega
   have ih:=fun a b c h=>ih (a,(b,c)) h
   simp only [hi2] at ih
   rw [hi]
   simp (disch:=omega) only [bx.l0,bx.b0,aN h1,aX,aG,hx,aC,jQ,hmk,aO]
   by_cases c0:code=0
   case neg =>
    rw [show (code != 0)=true from bne_iff_ne.2 c0,show (code==0)=false from mJ c0]
    rfl
   subst c0
   simp only [show ((0:Int) != 0)=false from rfl,show ((0:Int)==0)=true from rfl,aM,aX]
   by_cases c3:x.2.2.2.1.1=3
   · have b3:(x.2.2.2.1.1==3)=true:=by rw [c3];rfl
     have hlen:=qN x.2.2.2.1.2.1 (l.take i.toNat)
     simp only [b3,aX]
     rw [Ej hk _ h0 (by omega) (by omega),aO]
     simp only []
     rw [u5 hk _ (by omega),aO]
     cases c:mE x.2.2.2.1 (lG x.2.2.2.1.2.1 (l.take i.toNat)) with
     | true =>
      simp only [ft,aX,aM]
      rw [inner _ i _ _ (by omega) hp.1 h0 (by omega)]
      exact ih _ _ _ (ou hp (by omega))
     | false =>
      simp only [tI,aX,aM]
      exact ih _ _ _ hp
   · have b3:(x.2.2.2.1.1==3)=false:=mJ c3
     by_cases c5:x.2.2.2.1.1=5
     · have b5:(x.2.2.2.1.1==5)=true:=by rw [c5];rfl
       have hlen:=uM (l.take i.toNat)
       simp only [b3,b5,aX,aM]
       rw [uD hk h0 (by omega) (by omega),aO]
       simp only []
       rw [u5 hk _ (by omega),aO]
       cases c:mE x.2.2.2.1 (jw (l.take i.toNat)) with
       | true =>
        simp only [ft,aX,aM]
        rw [inner _ i _ _ (by omega) hp.1 h0 (by omega)]
        exact ih _ _ _ (ou hp (by omega))
       | false =>
        simp only [tI,aX,aM]
        exact ih _ _ _ (BM hp)
     · have b5:(x.2.2.2.1.1==5)=false:=mJ c5
       simp only [b3,b5,aX,aM]
       exact ih _ _ _ hp
theorem jz (all:bD) (ha:all.length≤134217728):∀ (q:bD) (i:Nat) (d:aY) (last code:Int),EO d code→(jQ all q i d last code).1.length≤268435456
 | [],i,d,last,code,h=>by
  unfold jQ
  cases code==0&&decide ((jw all).length > 0) <;> exact h.1
 | p::q,i,d,last,code,h=>by
  have hs:=qN p.2.2.2.1.2.1 (all.take i)
  have hm:=uM (all.take i)
  have htk:(all.take i).length≤134217728:=by rw [List.length_take];omega
  unfold jQ
  by_cases c0:code=0
  case neg=>rw [show (code != 0)=true from bne_iff_ne.2 c0];exact h.1
  subst c0
  simp only [show ((0:Int) != 0)=false from rfl,aM]
  cases p.2.2.2.1.1==3
  · cases p.2.2.2.1.1==5
    · exact jz all ha q _ _ _ _ h
    · cases mE p.2.2.2.1 (jw (all.take i))
      · exact jz all ha q _ _ _ _ (BM h)
      · exact jz all ha q _ _ _ _ (ou h (by omega))
  · cases mE p.2.2.2.1 (lG p.2.2.2.1.2.1 (all.take i))
    · exact jz all ha q _ _ _ _ h
    · exact jz all ha q _ _ _ _ (ou h (by omega))
theorem tB {g:Ty.den kO} {l:bD} (hl:l.length≤134217728) (hd:g.1.length≤134217728):(mg g l).1.length≤268435456:=jz l hl l 0 _ _ _ ⟨by omega,fun _=>hd⟩
end Go.Proofs.YtohaanhjddohmaaGreatDoor.G
namespace Go.Proofs.YtohaanhjddohmaaGreatDoor.G
open Go.V
theorem B8 {lim lim':Int} (h:lim≤lim'):∀ (l:List Int) (p:Option Int),pG (mr lim) p l=true→pG (mr lim') p l=true
 | [],_,_=>rfl
 | x::l,p,q=>by
  simp only [pG,j6] at q ⊢
  refine ⟨?_,B8 h l _ q.2⟩
  have q1:=q.1
  unfold mr at q1 ⊢
  rw [j6,decide_eq_true_eq] at q1 ⊢
  exact ⟨⟨q1.1.1,Int.le_trans q1.1.2 h⟩,q1.2⟩
theorem Ba {lim n:Int} (h1:1≤n) (h:lim<n):∀ (l:List Int) (p:Option Int),(∀ y,p=some y→y<n)→pG (mr lim) p l=true→pG (mr n) p (l++[n])=true
 | [],p,hp,_=>by
  simp only [List.nil_append,pG,Bool.and_true]
  unfold mr
  rw [j6,decide_eq_true_eq]
  refine ⟨⟨h1,Int.le_refl _⟩,?_⟩
  cases p with
  | none=>rfl
  | some y=>exact decide_eq_true (hp y rfl)
 | x::l,p,hp,q=>by
  simp only [pG,j6,List.cons_append] at q ⊢
  have q1:=q.1
  unfold mr at q1
  rw [j6,decide_eq_true_eq] at q1
  refine ⟨?_,Ba h1 h l _ (fun y e=>by cases e;exact Int.lt_of_le_of_lt q1.1.2 h) q.2⟩
  unfold mr
  rw [j6,decide_eq_true_eq]
  exact ⟨⟨q1.1.1,Int.le_of_lt (Int.lt_of_le_of_lt q1.1.2 h)⟩,q1.2⟩
theorem FN {n:Int} {ids:List Int} (h:d5 (n,(ids,()))=true) (hn:n<100000):d5 (n+1,(ids,()))=true:=by
 obtain ⟨g1,g2,_⟩:=dW h
 unfold d5 at h ⊢
 simp only [j6,decide_eq_true_eq] at h ⊢
 rw [aC (n:=n+1-1) (by omega) (by omega)]
 rw [aC (n:=n-1) (by omega) (by omega)] at h
 exact ⟨⟨show (1:Int)≤n+1 by omega,show n+1≤(100000:Int) by omega⟩,h.2.1,B8 (by omega) _ _ h.2.2⟩
theorem yi {n:Int} {ids:List Int} (h:d5 (n,(ids,()))=true) (hn:n<100000) (hl:ids.length<60):d5 (n+1,(ids++[n],()))=true:=by
 obtain ⟨g1,g2,_⟩:=dW h
 unfold d5 at h ⊢
 simp only [j6,decide_eq_true_eq] at h ⊢
 rw [aC (n:=n+1-1) (by omega) (by omega)]
 rw [aC (n:=n-1) (by omega) (by omega)] at h
 refine ⟨⟨show (1:Int)≤n+1 by omega,show n+1≤(100000:Int) by omega⟩,⟨?_,?_⟩,?_⟩
 · rw [xS,List.length_singleton];omega
 · rw [xS,List.length_singleton];omega
 · rw [show n+1-1=n by omega]
   exact Ba g1 (by omega) _ _ (fun y e=>by cases e) h.2.2
def il (st:Ty.den aE):ByteArray:=aA aI (dQ st.1.2.1)
theorem vx {st:Ty.den aE} (h:d5 st.1=true):0≤aH ((st.1.2.1.length:Int)-1)∧aH ((st.1.2.1.length:Int)-1)<(st.1.2.1.length:Int)∧st.1.2.1.getD (aH ((st.1.2.1.length:Int)-1)).toNat (Ty.dflt (.int .i64))=dQ st.1.2.1:=by
 obtain ⟨_,_,h1,h2,_⟩:=dW (nx:=st.1.1) (ids:=st.1.2.1) h
 rw [aC (n:=(st.1.2.1.length:Int)-1) (by omega) (by omega)]
 refine ⟨by omega,by omega,?_⟩
 unfold dQ
 rw [show ((st.1.2.1.length:Int)-1).toNat=st.1.2.1.length-1 by omega]
 rfl
theorem oA {k:Nat} (hk:2 ^ 50≤k) {st:Ty.den aE} (h:d5 st.1=true):ch.f k st=some (il st,()):=by
 obtain ⟨h1,h2,h3⟩:=vx h
 unfold ch.f ch.t il
 rw [aG h1 h2,h3,bG hk,aO]
def tl (r:RD):RD:=(r.1,fR r.2)
theorem vB (f:Ty.den a_→RD) (d:Ty.den a_):wk f (d,0)=tl (f d):=rfl
theorem zQ {r:RD} (h:(r.2==0)=true):tl r=(r.1,0):=by
 unfold tl
 rw [GU h]
 rfl
theorem Bv (r:RD):((tl r).2 != 0)=(r.2 != 0):=by
 unfold tl bne
 rw [gn]
def GV (st:Ty.den aE):Ty.den aE:=((st.1.1+1,st.1.2),st.2)
def pj (st:Ty.den aE):Ty.den bE:=(st.1.1+1,(st.1.2.1++[st.1.1],()))
def Gg (st:Ty.den aE):Ty.den aE:=(pj st,(st.2.1,(st.2.2.1,(0,st.2.2.2.2))))
def wT (nm:ByteArray) (r:RD):RD:=bif r.2==2 then ((cD [iu,nm] r.1).1,bif (cD [iu,nm] r.1).2==0 then 2 else fR (cD [iu,nm] r.1).2) else r
def oQ (st:Ty.den aE) (d:Ty.den a_):Ty.den aE × RD :=
 bif decide ((st.1.2.1.length:Int)≥60) then (st,(d,5)) else bif decide (st.1.1≥100000) then (st,(d,5)) else
 bif (iq d (il st)).2 != 0 then (st,tl (iq d (il st))) else
 bif (bY (aA aI st.1.1) (iq d (il st)).1).2 != 0 then (GV st,tl (bY (aA aI st.1.1) (iq d (il st)).1)) else
 bif (cV (pj st) (bY (aA aI st.1.1) (iq d (il st)).1).1).2 != 0 then (GV st,wT (aA aI st.1.1) (tl (cV (pj st) (bY (aA aI st.1.1) (iq d (il st)).1).1)))
 else (Gg st,((cV (pj st) (bY (aA aI st.1.1) (iq d (il st)).1).1).1,0))
structure SR (st:Ty.den aE) (r:RD) (B:Int):Prop where
 live:d5 st.1=true
 disk:DR r.1
 lo:LE.le (α:=Int) 0 st.2.2.2.1
 hi:LE.le (α:=Int) st.2.2.2.1 B
theorem tw (n:Int):(aA aI n).size≤1000:=by
 unfold aA
 by_cases h:(1:Int)≤n∧n≤100000
 · rw [aN h,aX,ByteArray.size_append]
   have:=kq (n:=n) (by omega) (by omega)
   have:aI.size=3:=rfl
   omega
 · rw [aP h]
   exact Nat.zero_le _
theorem DI {k:Nat} (hk:2 ^ 50≤k) {st:Ty.den aE} {d:Ty.den a_} (hl:d5 st.1=true) (hd:DR d):fH.f k st d=some ((oQ st d).1,((oQ st d).2.1,((oQ st d).2.2,()))):=by
 obtain ⟨g1,g2,g3,g4,_⟩:=dW (nx:=st.1.1) (ids:=st.1.2.1) hl
 have hsz:=tw st.1.1
 unfold fH.f fH.t oQ
 by_cases c1:(st.1.2.1.length:Int)≥60
 · rw [aN c1];rfl
 by_cases c2:st.1.1≥(100000:Int)
 · rw [aP c1,aN c2];rfl
 have c1':st.1.2.1.length<60:=by omega
 have c2':LT.lt (α:=Int) st.1.1 100000:=Int.not_le.1 c2
 rw [aP c1,aP c2]
 simp only [aM]
 rw [oA hk hl,aO]
 simp only []
 rw [kn hk hd.sz,aO]
 simp only []
 have h1:=nB hd (il st)
 generalize iq d (il st)=r1 at h1 ⊢
 cases c3:r1.2 != 0 with
 | true=>simp only [aX,cp,aO,tl]
 | false =>
  simp only [aM]
  rw [bG hk,aO]
  simp only []
  rw [mU hk h1 (by omega),aO]
  simp only []
  have h2:=jR (aA aI st.1.1) _ h1
  generalize bY (aA aI st.1.1) r1.1=r2 at h2 ⊢
  have ew:aH (st.1.1+1)=st.1.1+1:=aC (by omega) (by omega)
  cases c4:r2.2 != 0 with
  | true=>simp only [aX,cp,aO,tl,ew];rfl
  | false =>
   simp only [aM]
   rw [List.nil_append,ba (by omega) (by decide),ba (by omega) (by decide),ew,nG hk h2 (v:=(st.1.1+1,(st.1.2.1++[st.1.1],()))) (yi hl c2' c1'),aO]
   simp only []
   have h3:=lX (pj st) _ h2
   rw [show ((st.1.1+1,(st.1.2.1++[st.1.1],())):Ty.den bE)=pj st from rfl]
   generalize cV (pj st) r2.1=r3 at h3 ⊢
   have et:(fR r3.2 != 0)=(r3.2 != 0):=by unfold bne;rw [gn]
   cases c5:fR r3.2==2 with
   | true =>
    have e2:fR r3.2=2:=GU c5
    have c6:(r3.2 != 0)=true:=by rw [← et,e2];rfl
    rw [c6]
    simp only [aX]
    rw [aO,show (⟨#[116,101,109,112]⟩:ByteArray)=iu from rfl]
    simp only []
    rw [ma hk h3 (by simp),aO]
    unfold wT
    rw [show (tl r3).2=fR r3.2 from rfl,c5,show (tl r3).1=r3.1 from rfl]
    simp only [aX,bne]
    generalize cD [iu,aA aI st.1.1] r3.1=r4
    cases c7:r4.2==0 with
    | true=>rw [e2];rfl
    | false=>simp only [tI,aX,aM,cp,aO];rfl
   | false =>
    simp only [aM]
    rw [et]
    cases c6:r3.2 != 0 with
    | true =>
     simp only [aX]
     unfold wT
     rw [show (tl r3).2=fR r3.2 from rfl,c5]
     rfl
    | false=>rfl
end Go.Proofs.YtohaanhjddohmaaGreatDoor.G
namespace Go.Proofs.YtohaanhjddohmaaGreatDoor.G
open Go.V
theorem tf {st:Ty.den aE} {d:Ty.den a_} (hl:d5 st.1=true) (hd:DR d):d5 (oQ st d).1.1=true∧DR (oQ st d).2.1∧(oQ st d).1.2.1=st.2.1∧((oQ st d).1.2.2.2.1=st.2.2.2.1∨(oQ st d).1.2.2.2.1=0):=by
 unfold oQ
 by_cases c1:(st.1.2.1.length:Int)≥60
 · rw [aN c1];exact ⟨hl,hd,rfl,.inl rfl⟩
 by_cases c2:st.1.1≥(100000:Int)
 · rw [aP c1,aN c2];exact ⟨hl,hd,rfl,.inl rfl⟩
 have c1':st.1.2.1.length<60:=by omega
 have c2':LT.lt (α:=Int) st.1.1 100000:=Int.not_le.1 c2
 have hn:d5 (GV st).1=true:=FN (ids:=st.1.2.1) hl c2'
 have hg:d5 (Gg st).1=true:=yi hl c2' c1'
 have h1:=nB hd (il st)
 have h2:=jR (aA aI st.1.1) _ h1
 have h3:=lX (pj st) _ h2
 rw [aP c1,aP c2]
 simp only [aM]
 generalize iq d (il st)=r1 at h1 h2 h3 ⊢
 generalize bY (aA aI st.1.1) r1.1=r2 at h2 h3 ⊢
 generalize cV (pj st) r2.1=r3 at h3 ⊢
 cases r1.2 != 0 with
 | true=>exact ⟨hl,h1,rfl,.inl rfl⟩
 | false =>
  cases r2.2 != 0 with
  | true=>exact ⟨hn,h2,rfl,.inl rfl⟩
  | false =>
   cases r3.2 != 0 with
   | true =>
    refine ⟨hn,?_,rfl,.inl rfl⟩
    simp only [aX,aM]
    unfold wT
    cases (tl r3).2==2 with
    | true=>exact lL _ _ h3
    | false=>exact h3
   | false=>exact ⟨hg,h3,rfl,.inr rfl⟩
def AC:Ty.den aD:=(0,(0,(0,((0,(0,(ByteArray.empty,(ByteArray.empty,(0,(0,())))))),()))))
def J8 (st:Ty.den aE) (n:Int):Ty.den aE:=(st.1,(st.2.1,(st.2.2.1,(n,st.2.2.2.2))))
def pF (st:Ty.den aE) (d:Ty.den a_) (r:Ty.den ax):(Ty.den aE × RD) × Ty.den aD :=
 bif (h_ d (il st) (aT (aJ r))).2 != 0 then ((st,tl (h_ d (il st) (aT (aJ r)))),AC)
 else ((J8 st (st.2.2.2.1+bH r),((h_ d (il st) (aT (aJ r))).1,0)),(dQ st.1.2.1,(st.2.2.2.1,(bH r,(r,())))))
def jT (st:Ty.den aE) (d:Ty.den a_) (r:Ty.den ax):(Ty.den aE × RD) × Ty.den aD :=
 bif decide (st.2.2.2.1 > 0)&&decide (st.2.2.2.1+bH r > 200) then
  (bif (oQ st d).2.2 != 0 then (oQ st d,AC) else pF (oQ st d).1 (oQ st d).2.1 r)
 else pF st d r
def vg (p:Ty.den aD):Ty.den ax:=p.2.2.2.1
theorem yF {st:Ty.den aE} {d:Ty.den a_} (hl:d5 st.1=true) (hd:DR d) {B:Int} (h0:LE.le (α:=Int) 0 st.2.2.2.1) (h1:LE.le (α:=Int) st.2.2.2.1 B) (r:Ty.den ax) :
 SR (pF st d r).1.1 (pF st d r).1.2 (B+211)∧(pF st d r).1.1.2.1=st.2.1∧((pF st d r).1.2.2=0→vg (pF st d r).2=r):=by
 have hr:=ky r
 have ha:=o5 hd (il st) (aT (aJ r))
 unfold pF
 generalize h_ d (il st) (aT (aJ r))=a at ha ⊢
 cases c:a.2 != 0 with
 | true =>
  refine ⟨⟨hl,ha,h0,?_⟩,rfl,fun e=>?_⟩
  · show LE.le (α:=Int) st.2.2.2.1 (B+211)
    omega
  · have e:(tl a).2=0:=e
    have q:=Bv a
    rw [e,c] at q
    cases q
 | false =>
  refine ⟨⟨hl,ha,?_,?_⟩,rfl,fun e=>rfl⟩
  · show LE.le (α:=Int) 0 (st.2.2.2.1+bH r)
    omega
  · show LE.le (α:=Int) (st.2.2.2.1+bH r) (B+211)
    omega
theorem qd {st:Ty.den aE} {d:Ty.den a_} {B:Int} (h:SR st (d,0) B) (hB:0≤B) (r:Ty.den ax) :
 SR (jT st d r).1.1 (jT st d r).1.2 (B+211)∧(jT st d r).1.1.2.1=st.2.1∧((jT st d r).1.2.2=0→vg (jT st d r).2=r):=by
 obtain ⟨hl,hd,h0,h1⟩:=h
 unfold jT
 cases decide (st.2.2.2.1 > 0)&&decide (st.2.2.2.1+bH r > 200) with
 | false=>exact yF hl hd h0 h1 r
 | true =>
  obtain ⟨g1,g2,g3,g4⟩:=tf hl hd
  generalize oQ st d=q at g1 g2 g3 g4 ⊢
  have s0:LE.le (α:=Int) 0 q.1.2.2.2.1:=by rcases g4 with e | e <;> rw [e];exact h0;exact Int.le_refl _
  have s1:LE.le (α:=Int) q.1.2.2.2.1 B:=by rcases g4 with e | e <;> rw [e];exact h1;exact hB
  cases c:q.2.2 != 0 with
  | true =>
   refine ⟨⟨g1,g2,s0,?_⟩,g3,fun e=>?_⟩
   · show LE.le (α:=Int) q.1.2.2.2.1 (B+211)
     omega
   · have e:q.2.2=0:=e
     rw [e] at c
     cases c
  | false =>
   obtain ⟨k1,k2,k3⟩:=yF g1 g2 s0 s1 r
   exact ⟨k1,k2.trans g3,k3⟩
theorem xJ {k:Nat} (hk:2 ^ 50≤k) {st:Ty.den aE} {d:Ty.den a_} (hl:d5 st.1=true) (hd:DR d) (r:Ty.den ax) (h0:LE.le (α:=Int) 0 st.2.2.2.1) (h1:LE.le (α:=Int) st.2.2.2.1 1099511627776) :
 (((ch.f k st).bind fun r4=>((cA.f k d r4.1 (aT (aJ r))).bind fun r5=>(bif (r5.2.1 != 0) then ((aU.f k r5.2.1).bind fun r6=>(some (st,(r5.1,(AC,r6)))))
  else (bi (aH ((List.length st.1.2.1:Int)-1)) (List.length st.1.2.1:Int) (some ((st.1,(st.2.1,(st.2.2.1,((aH (st.2.2.2.1+(ByteArray.size (aT (aJ r)):Int))),st.2.2.2.2)))),(r5.1,(((List.getD st.1.2.1 (Int.toNat (aH ((List.length st.1.2.1:Int)-1))) (Ty.dflt (.int .i64))),(st.2.2.2.1,((ByteArray.size (aT (aJ r)):Int),(r,())))),(0,()))))))))):e7.Rs) =
 some ((pF st d r).1.1,((pF st d r).1.2.1,((pF st d r).2,((pF st d r).1.2.2,())))):=by
 obtain ⟨g1,g2,g3⟩:=vx hl
 have hr:=ky r
 have hz:((aT (aJ r)).size:Int)=bH r:=rfl
 rw [oA hk hl,aO]
 simp only []
 rw [nD hk hd.sz (il st) (t:=aT (aJ r)) (by omega),aO]
 unfold pF
 simp only []
 generalize h_ d (il st) (aT (aJ r))=a
 cases c:a.2 != 0 with
 | true=>simp only [aX,cp,aO];rfl
 | false =>
  simp only [aM]
  rw [aG g1 g2,g3,hz,aC (by omega) (by omega)]
  rfl
theorem wK {k:Nat} (hk:2 ^ 50≤k) {st:Ty.den aE} {d:Ty.den a_} {B:Int} (h:SR st (d,0) B) (hB:0≤B) (hB':B≤1000000000) (r:Ty.den ax) :
 e7.f k st d r=some ((jT st d r).1.1,((jT st d r).1.2.1,((jT st d r).2,((jT st d r).1.2.2,())))):=by
 obtain ⟨hl,hd,h0,h1⟩:=h
 have hr:=ky r
 have hz:((aT (aJ r)).size:Int)=bH r:=rfl
 have own:=xJ (d:=d) hk hl hd r h0 (by omega)
 rw [hz,aC (n:=st.2.2.2.1+bH r) (by omega) (by omega)] at own
 unfold e7.f e7.t
 rw [dE hk,aO]
 simp only []
 rw [lQ hk,aO]
 simp only []
 rw [hz,aC (n:=st.2.2.2.1+bH r) (by omega) (by omega)]
 unfold jT
 by_cases c1:LT.lt (α:=Int) 0 st.2.2.2.1
 · rw [aN (show st.2.2.2.1 > 0 from c1),Bool.true_and,aX]
   by_cases c2:LT.lt (α:=Int) 200 (st.2.2.2.1+bH r)
   · rw [aN (show st.2.2.2.1+bH r > 200 from c2),aX,aX,DI hk hl hd,aO]
     simp only []
     obtain ⟨g1,g2,g3,g4⟩:=tf hl hd
     generalize oQ st d=q at g1 g2 g3 g4 ⊢
     cases c:q.2.2 != 0 with
     | true=>rfl
     | false =>
      have s0:LE.le (α:=Int) 0 q.1.2.2.2.1:=by rcases g4 with e | e <;> rw [e];exact h0;exact Int.le_refl _
      have s1:LE.le (α:=Int) q.1.2.2.2.1 B:=by rcases g4 with e | e <;> rw [e];exact h1;exact hB
      exact xJ hk g1 g2 r s0 (by omega)
   · rw [aP (show ¬ st.2.2.2.1+bH r > 200 from c2),aM,aM]
     exact own
 · rw [aP (show ¬ st.2.2.2.1 > 0 from c1),Bool.false_and,aM]
   exact own
end Go.Proofs.YtohaanhjddohmaaGreatDoor.G
namespace Go.Proofs.YtohaanhjddohmaaGreatDoor.G
open Go.V
def fT (d:Ty.den a_) (s:ByteArray):Option ByteArray:=(bq d.1 s).map (·.2.1)
theorem sx {d:Ty.den a_} (h:DR d) (s:ByteArray):(aV d s).1=(fT d s).getD ⟨#[]⟩:=by
 rw [vo h]
 unfold fT
 cases bq d.1 s <;> rfl
theorem Aa:∀ {l:bW} {f:Ty.den bp} {t:ByteArray},bq l f.1=none→bq (kE l f) t=bif seq f.1 t then some f else bq l t
 | [],f,t,_=>rfl
 | g::l,f,t,h=>by
  unfold bq at h
  cases c:seq g.1 f.1 with
  | true=>rw [c] at h;cases h
  | false =>
   rw [c,aM] at h
   unfold kE
   cases mN f.1 g.1 with
   | true=>rfl
   | false =>
    simp only [aM]
    rw [bq.eq_2,Aa h,bq.eq_2]
    by_cases q:f.1=t
    · rw [q] at c ⊢
      rw [c,cY]
      rfl
    · rw [mH q]
      rfl
theorem BQ {l:bW} {f:Ty.den bp} {t:ByteArray} (h:f.1≠t):bq (kE l f) t=bq l t:=by
 induction l with
 | nil=>unfold kE;rw [bq.eq_2,mH h];rfl
 | cons g l ih =>
  unfold kE
  cases mN f.1 g.1 with
  | true=>rw [aX,bq.eq_2,mH h,aM]
  | false=>rw [aM,bq.eq_2,ih,bq.eq_2]
theorem sk {d:Ty.den a_} {g:bW→Int→bW × Int} {t:ByteArray} (h:∀ l c,(bq (g l c).1 t).map (·.2.1)=(bq l t).map (·.2.1)):fT (iR d g).1 t=fT d t:=by
 unfold iR fT
 cases (jd d).2 != 0 with
 | true=>rw [aX,ow]
 | false=>exact h d.1 d.2.1
theorem Ij {d:Ty.den a_} {s t:ByteArray} (h:s≠t):fT (tv d s).1 t=fT d t:=sk fun l c=>by
 unfold wq
 cases !jc s with
 | true=>rfl
 | false =>
  cases (bq l s).isSome with
  | true=>rfl
  | false =>
   cases decide ((l.length:Int)≥130) with
   | true=>rfl
   | false =>
    show (bq (kE l (s,(ByteArray.empty,(0,())))) t).map _=_
    rw [BQ (f:=(s,(ByteArray.empty,(0,())))) h]
theorem DZ {d:Ty.den a_} {s t x:ByteArray} (h:s≠t):fT (h_ d s x).1 t=fT d t:=sk fun l c=>by
 unfold xm
 cases (bq l s).isNone with
 | true=>rfl
 | false =>
  cases decide ((x.size:Int) > aH (c-(dR l:Int))) with
  | true=>rfl
  | false =>
   show (bq (lY (fun f=>(f.1,(f.2.1++x,f.2.2))) l s) t).map _=_
   rw [vL (h:=fun f:Ty.den bp=>(f.1,(f.2.1++x,f.2.2))) (fun f=>rfl),mH (fun q=>h q.symm)]
   rfl
theorem tq {d:Ty.den a_} {s t:ByteArray}:fT (iq d s).1 t=fT d t:=sk fun l c=>by
 unfold Bm
 cases (bq l s).isNone with
 | true=>rfl
 | false =>
  show (bq (lY (fun f=>(f.1,(f.2.1,((f.2.1.size:Int),f.2.2.2)))) l s) t).map _=_
  rw [vL (h:=fun f:Ty.den bp=>(f.1,(f.2.1,((f.2.1.size:Int),f.2.2.2)))) (fun f=>rfl)]
  by_cases q:t=s
  · rw [q,cY]
    cases bq l s <;> rfl
  · rw [mH q]
    rfl
theorem JJ {d:Ty.den a_} {s t:ByteArray} (h:s≠t):fT (pW d s).1 t=fT d t:=sk fun l c=>by
 unfold ub
 cases (bq l s).isNone with
 | true=>rfl
 | false =>
  show (bq (iD l s) t).map _=_
  rw [vK (fun q=>h q.symm)]
theorem JF {d:Ty.den a_} {a b t:ByteArray} (h1:a≠t) (h2:b≠t):fT (uc d a b).1 t=fT d t:=sk fun l c=>by
 unfold xn
 cases !jc b with
 | true=>rfl
 | false =>
  simp only [aM]
  cases bq l a with
  | none=>rfl
  | some f =>
   cases seq a b with
   | true=>rfl
   | false =>
    show (bq (kE (iD (iD l a) b) (b,f.2)) t).map _=_
    rw [BQ (f:=(b,f.2)) h2,vK (fun q=>h2 q.symm),vK (fun q=>h1 q.symm)]
theorem A4 {d:Ty.den a_} {s x:ByteArray}:fT (h_ d s x).1 s=bif (h_ d s x).2==0 then (fT d s).map (·++x) else fT d s:=by
 unfold h_ iR fT
 cases c:(jd d).2 != 0 with
 | true =>
  rw [aX,ow]
  have:((jd d).2==0)=false:=by unfold bne at c;simpa using c
  rw [this]
  rfl
 | false =>
  simp only [aM]
  unfold xm
  cases c1:bq d.1 s with
  | none=>simp only [Option.isNone_none,aX];rw [c1];rfl
  | some f =>
   simp only [Option.isNone_some,aM]
   cases decide ((x.size:Int) > aH (d.2.1-(dR d.1:Int))) with
   | true=>simp only [aX];rw [c1];rfl
   | false =>
    simp only [aM]
    rw [vL (h:=fun f:Ty.den bp=>(f.1,(f.2.1++x,f.2.2))) (fun f=>rfl),cY,c1]
    rfl
theorem nk {r:RD} {f:Ty.den a_→RD} {t:ByteArray} {x:Option ByteArray} (h1:fT r.1 t=x) (h2:∀ y,fT (f y).1 t=fT y t):fT (d7 r f).1 t=x:=by
 unfold d7
 cases r.2==0 with
 | true=>exact (h2 _).trans h1
 | false=>exact h1
theorem Dh {d:Ty.den a_} {s t:ByteArray} (h:s≠t):fT (iI s d).1 t=fT d t:=by
 unfold iI
 cases (bq d.1 s).isSome with
 | true=>exact JJ h
 | false=>rfl
theorem pc {d:Ty.den a_} {s t:ByteArray} (h:s≠t):fT (bY s d).1 t=fT d t:=nk (Dh h) fun y=>Ij h
theorem zk {d:Ty.den a_} {s t x:ByteArray} (h:s≠t):fT (l7 s x d).1 t=fT d t:=nk (nk (pc h) fun y=>DZ h) fun y=>tq
theorem pD {d:Ty.den a_} {v:Ty.den bE} {t:ByteArray} (h1:iu≠t) (h2:iy≠t):fT (cV v d).1 t=fT d t:=nk (zk h1) fun y=>JF h1 h2
theorem qH {t:ByteArray}:∀ (l:List ByteArray) (d:Ty.den a_),(∀ s ∈ l,s≠t)→fT (cD l d).1 t=fT d t
 | [],_,_=>rfl
 | s::l,d,h=>by
  show fT (d7 (iI s d) (cD l)).1 t=_
  exact nk (Dh (h s oE)) fun y=>qH l y fun q hq=>h q (qy _ hq)
end Go.Proofs.YtohaanhjddohmaaGreatDoor.G
namespace Go.Proofs.YtohaanhjddohmaaGreatDoor.G
open Go.V
def jN:nK→Ty.den aE→Ty.den a_→bD→(Ty.den aE × RD) × bD
 | [],st,d,ps=>((st,(d,0)),ps)
 | r::l,st,d,ps=>bif (jT st d r).1.2.2 != 0 then ((jT st d r).1,ps) else jN l (jT st d r).1.1 (jT st d r).1.2.1 (ps++[(jT st d r).2])
def KB (st:Ty.den aE) (dir:aY):Ty.den aE:=(st.1,(dir,st.2.2))
def ug (n:Nat) (q:(Ty.den aE × RD) × bD):Ty.den aE × RD :=
 bif q.1.2.2 != 0 then q.1 else bif (iq q.1.2.1 (il q.1.1)).2 != 0 then (q.1.1,tl (iq q.1.2.1 (il q.1.1))) else (KB q.1.1 (gD q.1.1.2.1 (q.2.take n)),((iq q.1.2.1 (il q.1.1)).1,0))
def AE (st:Ty.den aE):Ty.den aE:=(st.1,(st.2.1,(st.2.2.1+1,st.2.2.2)))
def n9 (st:Ty.den aE) (d:Ty.den a_) (l:qw):Ty.den aE × RD:=ug l.length (jN (xB l st.2.2.1) (AE st) d [])
theorem rU:∀ (l:nK) (st:Ty.den aE) (d:Ty.den a_) (ps:bD) (B:Int),SR st (d,0) B→0≤B →
 SR (jN l st d ps).1.1 (jN l st d ps).1.2 (B+211*(l.length:Int))∧(jN l st d ps).1.1.2.1=st.2.1∧((jN l st d ps).1.2.2=0→(jN l st d ps).2.map vg=ps.map vg++l)
 | [],st,d,ps,B,h,_=>⟨⟨h.live,h.disk,h.lo,by have:=h.hi;show LE.le (α:=Int) st.2.2.2.1 _;rw [List.length_nil];omega⟩,rfl,fun _=>(List.append_nil _).symm⟩
 | r::l,st,d,ps,B,h,hB=>by
  obtain ⟨g1,g2,g3⟩:=qd h hB r
  unfold jN
  have el:((r::l).length:Int)=(l.length:Int)+1:=by rw [lB];omega
  cases c:(jT st d r).1.2.2 != 0 with
  | true =>
   refine ⟨⟨g1.live,g1.disk,g1.lo,?_⟩,g2,fun e=>?_⟩
   · have:=g1.hi
     show LE.le (α:=Int) (jT st d r).1.1.2.2.2.1 _
     omega
   · have e:(jT st d r).1.2.2=0:=e
     rw [e] at c
     cases c
  | false =>
   have e0:(jT st d r).1.2.2=0:=by unfold bne at c;simpa using c
   obtain ⟨k1,k2,k3⟩:=rU l (jT st d r).1.1 (jT st d r).1.2.1 (ps++[(jT st d r).2]) (B+211) ⟨g1.live,g1.disk,g1.lo,g1.hi⟩ (by omega)
   refine ⟨⟨k1.live,k1.disk,k1.lo,?_⟩,k2.trans g2,fun e=>?_⟩
   · have:=k1.hi
     show LE.le (α:=Int) (jN l (jT st d r).1.1 (jT st d r).1.2.1 (ps++[(jT st d r).2])).1.1.2.2.2.1 _
     omega
   · have:=k3 e
     show (jN l (jT st d r).1.1 (jT st d r).1.2.1 (ps++[(jT st d r).2])).2.map vg=_
     rw [this,List.map_append,List.map_singleton,g3 e0,sy]
     rfl
def Io:aY→qw→aY→aY
 | dir,[],_=>dir
 | dir,_::_,[]=>dir
 | dir,p::l,e::es=>Io (bif p.2.1 then kT dir p.1 else xY dir e) l es
def Fw (p:Ty.den g8):Ty.den aB:=(p.1,(0,(0,(0,(0,())))))
def rR (dir:aY) (l:qw):Int:=((Io dir l (l.map Fw)).length:Int)
theorem HM (l:aY) (e:Ty.den aB):(xY l e).length≤l.length+1:=by
 unfold xY
 rw [BL]
 have:=qW l e.1
 omega
theorem AU {k:Nat} (hk:2 ^ 50≤k) {dir:aY} (hd:dir.length≤536870912) {l:qw} (hl:l.length≤1000):cq.f k dir l=some (rR dir l,()):=by
 have key:∀ (n:Nat) (i:Int) (s:aY),0≤i→i≤(l.length:Int)→(l.length:Int)-i<n→(s.length:Int)≤536870912+i→cq.l1 k n l i s=some (rR s (l.drop i.toNat),()):=fun n i s h0 h1 h2 hs=>by
  refine Gk (L:=fun n i (s:aY)=>cq.l1 k n l i s) (R:=fun r s=>some (rR s r,())) (Ty.dflt g8) l (fun i s=>(s.length:Int)≤536870912+i) (fun n s hs=>?_) (fun n i s x rest h0 h1 hx hr hp ih=>?_) n i s h0 h1 h2 hs
  · simp (disch:=omega) only [cq.l1,cq.b1,aP,aM]
    rfl
  · simp only [cq.l1,cq.b1]
    rw [aN h1,aX,aG h0 h1,hx,aC (n:=i+1) (by omega) (by omega)]
    unfold rR
    simp only [List.map_cons,Io]
    cases c:x.2.1 with
    | true =>
     have:=qW s x.1
     simp only [aX]
     rw [aG h0 h1,q_ hk x.1 (by omega),aO]
     exact ih (kT s x.1) (by omega)
    | false =>
     have:=HM s (Fw x)
     have e:=nv hk (l:=s) (Fw x) (by omega)
     unfold Fw at e
     simp only [aM]
     rw [aG h0 h1,e,aO]
     exact ih (xY s (Fw x)) (by omega)
 obtain ⟨q,hq⟩:∃ q,k=q+1:=⟨k-1,by omega⟩
 have k1:=key (q+1) 0 dir (by omega) (by omega) (by omega) (by omega)
 unfold cq.f cq.t
 rw [show l.drop (0:Int).toNat=l from rfl] at k1
 refine Eq.trans ?_ k1
 rw [show cq.l0 k k=cq.l0 k (q+1) by rw [← hq]]
 rfl
end Go.Proofs.YtohaanhjddohmaaGreatDoor.G
namespace Go.Proofs.YtohaanhjddohmaaGreatDoor.G
open Go.V
theorem Ci (dir:aY) (ps:bD) (p:Ty.den aD):gD dir (ps++[p])=k0 (gD dir ps) p:=by
 unfold gD
 rw [List.foldl_append]
 rfl
theorem jb {c:Int} (h:(c != 0)=false):c=0:=by unfold bne at h;simpa using h
theorem zH {k:Nat} (hk:2 ^ 50≤k) {st:Ty.den aE} {d:Ty.den a_} {l:qw} (h:SR st (d,0) 100000) (hb0:LE.le (α:=Int) 0 st.2.2.1) (hb:LE.le (α:=Int) st.2.2.1 1000000) (hp:mL l=true) (hd:st.2.1.length≤20) :
 bM.f k st d l=some ((n9 st d l).1,((n9 st d l).2.1,((n9 st d l).2.2,()))):=by
 have hl:=rS hp
 unfold bM.f bM.t n9 xB
 rw [ba (by omega) (by decide),List.nil_append,aC (n:=st.2.2.1+1) (by omega) (by omega)]
 generalize hbe:st.2.2.1=b at *
 rw [show AE st=((st.1,(st.2.1,(b+1,st.2.2.2))):Ty.den aE) from by unfold AE;rw [hbe]]
 refine dZ (L:=fun n i (s:(Ty.den aE × Ty.den a_) × bD)=>bM.l0 k n b i l s.1.1.1.2.1 s.1.1.2.1 s.1.1.1.1 s.1.1.2.2.1 s.1.1.2.2.2.1 s.1.1.2.2.2.2.1 s.1.2.1 s.1.2.2.1 s.1.2.2.2.1 s.1.2.2.2.2.1 [] [] 0 0 0 0 [] 0 0 false (s.2.map vg) (gD s.1.1.2.1 s.2))
  (R:=fun r s=>(some ((ug l.length (jN (r.map (mZ b)++[gq 3 b (l.map (mZ b))]) s.1.1 s.1.2 s.2)).1,((ug l.length (jN (r.map (mZ b)++[gq 3 b (l.map (mZ b))]) s.1.1 s.1.2 s.2)).2.1,((ug l.length (jN (r.map (mZ b)++[gq 3 b (l.map (mZ b))]) s.1.1 s.1.2 s.2)).2.2,()))):bM.Rs))
  (Ty.dflt g8) l (fun i s=>SR s.1.1 (s.1.2,0) (100000+211*i)∧s.2.map vg=(l.take i.toNat).map (mZ b)∧s.1.1.2.1.length≤20) (fun n s hs=>?_) (fun n i s x rest h0 h1 hx hr hs ih=>?_) (n:=k) (s:=(((((st.1,(st.2.1,(b+1,st.2.2.2))):Ty.den aE)),d),[])) (by omega) ⟨⟨h.live,h.disk,h.lo,Int.le_trans h.hi (by decide)⟩,rfl,hd⟩
 · obtain ⟨⟨st',d'⟩,ps⟩:=s
   obtain ⟨g1,g2,g3⟩:=hs
   simp only [] at g1 g2 g3 ⊢
   rw [Int.toNat_natCast,List.take_length] at g2
   have hps:ps.length=l.length:=by simpa using congrArg List.length g2
   simp only [bM.l0,bM.b0]
   rw [aP (by omega),aM,g2,u_ hk (by rw [List.length_map];omega),aO]
   simp only []
   rw [show ((st'.1.1,(st'.1.2.1,())),(st'.2.1,(st'.2.2.1,(st'.2.2.2.1,(st'.2.2.2.2.1,())))))=st' from rfl,show (d'.1,(d'.2.1,(d'.2.2.1,(d'.2.2.2.1,()))))=d' from rfl,
    wK hk g1 (by omega) (by omega),aO]
   simp only [List.map_nil,List.nil_append,jN]
   obtain ⟨k1,k2,_⟩:=qd g1 (by omega) (gq 3 b (l.map (mZ b)))
   generalize jT st' d' (gq 3 b (l.map (mZ b)))=q at k1 k2 ⊢
   cases c:q.1.2.2 != 0 with
   | true =>
    simp only [aX]
    unfold ug
    simp only [c,aX]
   | false =>
    simp only [aM]
    rw [oA hk k1.live,aO]
    simp only []
    rw [kn hk (DR.sz k1.disk),aO]
    unfold ug
    simp only [show ((0:Int) != 0)=false from rfl,aM]
    generalize iq q.1.2.1 (il q.1.1)=y
    cases c2:y.2 != 0 with
    | true=>simp only [aX,cp,aO];rfl
    | false =>
     simp only [aM]
     rw [k2,List.take_append_of_le_length (by omega),List.take_of_length_le (by omega)]
     rfl
 · obtain ⟨⟨st',d'⟩,ps⟩:=s
   obtain ⟨g1,g2,g3⟩:=hs
   simp only [] at g1 g2 g3 ih ⊢
   have hi:i.toNat<l.length:=by omega
   have hm:x ∈ l:=List.mem_of_mem_drop (i:=i.toNat) (by rw [hr];exact oE)
   have e:=F_ b (D6 hp hm)
   have et:l.take (i+1).toNat=l.take i.toNat++[x]:=by
    rw [show (i+1).toNat=i.toNat+1 by omega,List.take_succ_eq_append_getElem hi]
    congr 2
    rw [← hx]
    simp [List.getD,hi]
   have hps:ps.length≤l.length:=by
    have:=congrArg List.length g2
    rw [List.length_map,List.length_map,List.length_take] at this
    omega
   obtain ⟨k1,k2,k3⟩:=qd g1 (by omega) (mZ b x)
   have body:((e7.f k st' d' (mZ b x)).bind fun r1=>(bif (r1.2.2.2.1 != 0) then (some (r1.1,(r1.2.1,r1.2.2.2))) else ((gp.f k (gD st'.2.1 ps) r1.2.2.1).bind fun r2=>(rm (Ty.bytes ax) (List.length (ps.map vg)+1)
    (bM.l0 k n b (aH (i+1)) l r1.1.1.2.1 r1.1.2.1 r1.1.1.1 r1.1.2.2.1 r1.1.2.2.2.1 r1.1.2.2.2.2.1 r1.2.1.1 r1.2.1.2.1 r1.2.1.2.2.1 r1.2.1.2.2.2.1 [] [] 0 0 0 0 [] 0 0 false (ps.map vg++[mZ b x]) r2.1))))) =
    (some ((ug l.length (jN ((x::rest).map (mZ b)++[gq 3 b (l.map (mZ b))]) st' d' ps)).1,((ug l.length (jN ((x::rest).map (mZ b)++[gq 3 b (l.map (mZ b))]) st' d' ps)).2.1,((ug l.length (jN ((x::rest).map (mZ b)++[gq 3 b (l.map (mZ b))]) st' d' ps)).2.2,()))):bM.Rs):=by
    rw [wK hk g1 (by omega) (by omega),aO]
    simp only [List.map_cons,List.cons_append,jN]
    have hk1:=k1.hi
    generalize jT st' d' (mZ b x)=q at k1 k2 k3 hk1 ⊢
    cases c:q.1.2.2 != 0 with
    | true =>
     simp only [aX]
     unfold ug
     simp only [c,aX]
    | false =>
     simp only [aM]
     have hal:=oo ps st'.2.1
     rw [wt hk q.2 (by omega),aO,ba (by rw [List.length_map];omega) (by decide),aC (n:=i+1) (by omega) (by omega)]
     have q3:=k3 (jb c)
     have e1:(ps++[q.2]).map vg=ps.map vg++[mZ b x]:=by rw [List.map_append,List.map_singleton,q3]
     have e2:gD q.1.1.2.1 (ps++[q.2])=k0 (gD st'.2.1 ps) q.2:=by rw [k2,Ci]
     have ih:=ih ((q.1.1,q.1.2.1),ps++[q.2]) ⟨⟨k1.live,k1.disk,k1.lo,by show LE.le (α:=Int) q.1.1.2.2.2.1 _;omega⟩,by simp only [];rw [e1,g2,et,List.map_append];rfl,by simp only [];rw [k2];exact g3⟩
     simp only [] at ih
     rw [e1,e2] at ih
     exact ih
   simp only [bM.l0,bM.b0]
   rw [aN h1,aX,aG h0 h1,aG h0 h1,aG h0 h1,hx]
   rw [show ((st'.1.1,(st'.1.2.1,())),(st'.2.1,(st'.2.2.1,(st'.2.2.2.1,(st'.2.2.2.2.1,())))))=st' from rfl,show (d'.1,(d'.2.1,(d'.2.2.1,(d'.2.2.2.1,()))))=d' from rfl]
   cases c:x.2.1 with
   | true =>
    rw [c,aX] at e
    simp only [aX]
    rw [← e]
    exact body
   | false =>
    rw [c,aM] at e
    simp only [aM]
    rw [← e]
    exact body
noncomputable def kc (st:Ty.den aE) (d:Ty.den a_) (l:qw):Ty.den aE × RD :=
 bif !gE st d then (st,(d,4)) else bif !mL l then (st,(d,4)) else bif (l.length:Int)==0 then (st,(d,0)) else bif decide (rR st.2.1 l > 20) then (st,(d,5)) else
 bif decide (st.2.2.1 > 1000000) then (st,(d,5)) else n9 st d l
theorem yT {d:Ty.den a_} {tail:Int}:∀ {l:List Int},l≠[]→mj d tail l=true→∃ x,tail=((aV d (aA aI x)).1.size:Int)
 | [],h,_=>absurd rfl h
 | [x],_,h=>by
  unfold mj E3 at h
  simp only [j6,List.isEmpty_nil,ft,Bool.false_or] at h
  exact ⟨x,GU h.1.2.2⟩
 | x::y::l,_,h=>by
  unfold mj at h
  rw [j6] at h
  exact yT (by intro q;cases q) h.2
theorem jF {st:Ty.den aE} {d:Ty.den a_} (h:gE st d=true):SR st (d,0) 100000∧st.2.1.length≤20∧LE.le (α:=Int) 1 st.2.2.1:=by
 unfold gE nP at h
 simp only [j6,decide_eq_true_eq] at h
 obtain ⟨h1,h2,⟨h3,_⟩,h4,h5,_⟩:=h
 obtain ⟨_,_,g1,_,_⟩:=dW (nx:=st.1.1) (ids:=st.1.2.1) h2
 have hd:=jh.1 h1
 obtain ⟨x,hx⟩:=yT (by intro q;rw [q] at g1;simp at g1) h5
 have hs:=eL d (aA aI x)
 have hu:=hd.use
 have hc:=hd.cap1
 refine ⟨⟨h2,hd,?_,?_⟩,by omega,h4.1⟩
 · show LE.le (α:=Int) 0 st.2.2.2.1
   rw [hx]
   omega
 · show LE.le (α:=Int) st.2.2.2.1 100000
   rw [hx]
   have:LE.le (α:=Int) (dR d.1) 100000:=Int.le_trans hu hc
   omega
theorem y0 {k:Nat} (hk:2 ^ 50≤k) {st:Ty.den aE} {d:Ty.den a_} (hd:ta d) (h1:st.1.2.1.length≤1073741824) (h2:st.2.1.length≤536870912) {l:qw} (hl:l.length≤1073741824) :
 gj.f k st d l=some ((kc st d l).1,((kc st d l).2.1,((kc st d l).2.2,()))):=by
 have ec:fD.f k st=some (st,()):=by
  unfold fD.f fD.t
  rw [ba (by omega) (by decide),ba (by omega) (by decide),List.nil_append,List.nil_append]
 unfold gj.f gj.t kc
 rw [ec,aO]
 simp only []
 rw [kI k hd,aO]
 simp only []
 rw [sT hk hd,aO]
 simp only []
 cases c1:gE st d with
 | false=>rfl
 | true =>
  simp only [ft,aM]
  rw [yA hk,aO]
  simp only []
  cases c2:mL l with
  | false=>rfl
  | true =>
   have h8:=rS c2
   obtain ⟨g1,g2,g3⟩:=jF c1
   simp only [ft,aM]
   cases c3:(l.length:Int)==0 with
   | true=>rfl
   | false =>
    simp only [aM]
    rw [AU hk (by omega) (by omega),aO]
    simp only []
    cases c4:decide (rR st.2.1 l > 20) with
    | true=>rfl
    | false =>
     simp only [aM]
     by_cases c5:st.2.2.1 > (1000000:Int)
     · rw [aN c5];rfl
     · rw [aP c5]
       simp only [aM]
       rw [zH hk g1 (Int.le_trans (by decide) g3) (Int.not_lt.1 c5) c2 g2,aO]
end Go.Proofs.YtohaanhjddohmaaGreatDoor.G
namespace Go.Proofs.YtohaanhjddohmaaGreatDoor.G
open Go.V
theorem A6 {a b:Ty.den bE} (ha:d5 a=true) (hb:d5 b=true) (h:ae a=ae b):a=b:=by
 have h1:=n5 (k:=2 ^ 50) (Nat.le_refl _) (nx:=a.1) (ids:=a.2.1) ha
 have h2:=n5 (k:=2 ^ 50) (Nat.le_refl _) (nx:=b.1) (ids:=b.2.1) hb
 have e:ae (a.1,(a.2.1,()))=ae (b.1,(b.2.1,())):=h
 rw [e,h2] at h1
 have h3:=Option.some.inj h1
 exact ((Prod.mk.inj h3).1).symm
theorem xj {v:Ty.den bE} (h:d5 v=true):fK (ae v)=(v,true):=zc (fun a b ha hb=>A6 ha hb) h
theorem Aj {p:ByteArray} (hp:p=aI∨p=bg) {n:Int} (h0:1≤n) (h1:n≤100000):FV (aA p n)=(n,true):=by
 have e:aA p n=p++fb n:=by unfold aA;rw [aN ⟨h0,h1⟩];rfl
 have hn:Hg (p++fb n) n:=⟨h0,h1,by rcases hp with q | q <;> rw [q] <;> simp⟩
 rw [e]
 rcases km (Hg (p++fb n)) (fun _=>p++fb n) (0:Int) (p++fb n) with ⟨r,g1,_,g3⟩ | g
 · unfold FV
   rw [g3,EC g1 hn]
 · exfalso
   unfold o_ at g
   rw [dif_pos ⟨n,hn,rfl⟩] at g
   cases (Prod.mk.inj g).2
end Go.Proofs.YtohaanhjddohmaaGreatDoor.G
namespace Go.Proofs.YtohaanhjddohmaaGreatDoor.G
open Go.V
def Db (d:Ty.den a_) (s:ByteArray):Nat:=((fT d s).getD ⟨#[]⟩).size
def iG (d:Ty.den a_) (ids:List Int):Nat:=(ids.map fun x=>Db d (aA aI x)).sum
def gy:aY→Int
 | []=>0
 | e::l=>e.2.2.2.1+gy l
theorem wD {x y:Int} (hx:1≤x∧x≤100000) (hy:1≤y∧y≤100000) (h:x≠y):aA aI x≠aA aI y:=fun q=>by
 have e1:=Aj (.inl rfl) hx.1 hx.2
 have e2:=Aj (.inl rfl) hy.1 hy.2
 rw [q,e2] at e1
 injection e1 with e1 _
 exact h e1.symm
theorem vN {x:Int} (hx:1≤x∧x≤100000):aA aI x=aI++fb x:=by
 unfold aA
 rw [aN hx]
 rfl
theorem oK {x:Int} (hx:1≤x∧x≤100000):iu≠aA aI x:=fun q=>by
 rw [vN hx] at q
 have:=congrArg nb q
 rw [iZ] at this
 cases this
theorem pt {x:Int} (hx:1≤x∧x≤100000):iy≠aA aI x:=fun q=>by
 rw [vN hx] at q
 have:=congrArg nb q
 rw [iZ] at this
 cases this
theorem lI {n:Int} {ids:List Int} (h:d5 (n,(ids,()))=true):1≤n∧n≤100000∧(∀ x ∈ ids,1≤x∧x<n)∧ids.Pairwise (· < ·):=by
 obtain ⟨g1,g2,_⟩:=dW h
 unfold d5 at h
 simp only [j6,decide_eq_true_eq] at h
 have h3:=h.2.2
 rw [aC (n:=n-1) (by omega) (by omega)] at h3
 have key:∀ (l:List Int) (p:Option Int),pG (mr (n-1)) p l=true→(∀ x ∈ l,1≤x∧x<n∧∀ y,p=some y→y<x)∧l.Pairwise (· < ·):=by
  intro l
  induction l with
  | nil=>exact fun p _=>⟨fun x hx=>(by cases hx),List.Pairwise.nil⟩
  | cons a l ih =>
   intro p hp
   simp only [pG,j6] at hp
   obtain ⟨q1,q2⟩:=hp
   unfold mr at q1
   rw [j6,decide_eq_true_eq] at q1
   obtain ⟨⟨b1,b2⟩,b3⟩:=q1
   have b1:1≤a:=b1
   have b2:a≤n-1:=b2
   obtain ⟨i1,i2⟩:=ih (some a) q2
   have ha:∀ y,p=some y→y<a:=fun y e=>by
    rw [e] at b3
    exact of_decide_eq_true b3
   refine ⟨fun x hx=>?_,?_⟩
   · rcases List.mem_cons.1 hx with e | e
     · rw [e]
       exact ⟨b1,by omega,ha⟩
     · obtain ⟨c1,c2,c3⟩:=i1 x e
       have:=c3 a rfl
       exact ⟨c1,c2,fun y ey=>Int.lt_trans (ha y ey) this⟩
   · exact List.Pairwise.cons (fun x hx=>(i1 x hx).2.2 a rfl) i2
 obtain ⟨k1,k2⟩:=key ids none h3
 exact ⟨g1,g2,fun x hx=>⟨(k1 x hx).1,(k1 x hx).2.1⟩,k2⟩
theorem jU {d d':Ty.den a_}:∀ {ids:List Int},(∀ x ∈ ids,fT d' (aA aI x)=fT d (aA aI x))→iG d' ids=iG d ids
 | [],_=>rfl
 | x::l,h=>by
  unfold iG at *
  rw [List.map_cons,List.map_cons,List.sum_cons,List.sum_cons]
  have e1:Db d' (aA aI x)=Db d (aA aI x):=by unfold Db;rw [h x oE]
  have e2:=jU (ids:=l) fun y hy=>h y (qy _ hy)
  unfold iG at e2
  rw [e1,e2]
theorem BK (d:Ty.den a_) (l m:List Int):iG d (l++m)=iG d l+iG d m:=by
 unfold iG
 rw [List.map_append,List.sum_append]
theorem HV {st:Ty.den aE} {d:Ty.den a_} (hl:d5 st.1=true) (hd:DR d):iG d st.1.2.1≤iG (oQ st d).2.1 (oQ st d).1.1.2.1:=by
 obtain ⟨n1,n2,n3,_⟩:=lI (n:=st.1.1) (ids:=st.1.2.1) hl
 have hseg:∀ x:Int,x ∈ st.1.2.1→1≤x∧x≤100000:=fun x hx=>⟨(n3 x hx).1,by have:=(n3 x hx).2;omega⟩
 have hnew:∀ x ∈ st.1.2.1,aA aI st.1.1≠aA aI x:=fun x hx=>wD ⟨n1,n2⟩ (hseg x hx) (by have:=(n3 x hx).2;omega)
 have k1:∀ x ∈ st.1.2.1,fT (iq d (il st)).1 (aA aI x)=fT d (aA aI x):=fun x hx=>tq
 have k2:∀ x ∈ st.1.2.1,fT (bY (aA aI st.1.1) (iq d (il st)).1).1 (aA aI x)=fT d (aA aI x):=fun x hx=>(pc (hnew x hx)).trans (k1 x hx)
 have k3:∀ x ∈ st.1.2.1,fT (cV (pj st) (bY (aA aI st.1.1) (iq d (il st)).1).1).1 (aA aI x)=fT d (aA aI x):=fun x hx=>(pD (oK (hseg x hx)) (pt (hseg x hx))).trans (k2 x hx)
 unfold oQ
 cases decide ((st.1.2.1.length:Int)≥60) with
 | true=>exact Nat.le_refl _
 | false =>
  cases decide (st.1.1≥(100000:Int)) with
  | true=>exact Nat.le_refl _
  | false =>
   simp only [aM]
   generalize iq d (il st)=r1 at k1 k2 k3 ⊢
   generalize bY (aA aI st.1.1) r1.1=r2 at k2 k3 ⊢
   generalize cV (pj st) r2.1=r3 at k3 ⊢
   cases r1.2 != 0 with
   | true=>exact Nat.le_of_eq (jU k1).symm
   | false =>
    cases r2.2 != 0 with
    | true=>exact Nat.le_of_eq (jU k2).symm
    | false =>
     cases r3.2 != 0 with
     | true =>
      simp only [aX,aM]
      unfold wT
      cases (tl r3).2==2 with
      | false=>exact Nat.le_of_eq (jU k3).symm
      | true =>
       refine Nat.le_of_eq (jU fun x hx=>?_).symm
       refine (qH [iu,aA aI st.1.1] r3.1 fun s hs=>?_).trans (k3 x hx)
       rcases List.mem_cons.1 hs with e | e
       · rw [e];exact oK (hseg x hx)
       · rw [List.mem_singleton.1 e];exact hnew x hx
     | false =>
      show iG d st.1.2.1≤iG r3.1 (st.1.2.1++[st.1.1])
      rw [BK,jU k3]
      exact Nat.le_add_right _ _
theorem Ft {d:Ty.den a_} {s x:ByteArray} (h:(h_ d s x).2=0):(fT d s).isSome=true:=by
 obtain ⟨c1,_⟩:=tZ h
 unfold xm at c1
 unfold fT
 cases c:bq d.1 s with
 | none=>rw [c] at c1;cases c1
 | some f=>rfl
theorem CQ {ids:List Int} (h:1≤ids.length):ids=ids.dropLast++[dQ ids]:=by
 have hne:ids≠[]:=by intro q;rw [q] at h;simp at h
 have e:dQ ids=ids.getLast hne:=by
  unfold dQ
  rw [List.getLast_eq_getElem]
  simp [List.getD,show ids.length-1<ids.length by omega]
 rw [e]
 exact (List.dropLast_concat_getLast hne).symm
theorem Dq {st:Ty.den aE} {d:Ty.den a_} (hl:d5 st.1=true) (hd:DR d) (r:Ty.den ax) :
 (pF st d r).1.1.1=st.1∧(iG d st.1.2.1:Int)+(if (pF st d r).1.2.2=0 then bH r else 0)≤(iG (pF st d r).1.2.1 st.1.2.1:Int)∧((pF st d r).1.2.2=0→(pF st d r).2.2.2.1=bH r):=by
 obtain ⟨n1,n2,n3,n4⟩:=lI (n:=st.1.1) (ids:=st.1.2.1) hl
 obtain ⟨_,_,g1,_,_⟩:=dW (nx:=st.1.1) (ids:=st.1.2.1) hl
 have hs:=CQ g1
 have hp:∀ x:Int,x ∈ st.1.2.1.dropLast→x<dQ st.1.2.1:=fun x hx=>by
  rw [hs] at n4
  exact (List.pairwise_append.1 n4).2.2 x hx _ (List.mem_singleton.2 rfl)
 have hlast:dQ st.1.2.1 ∈ st.1.2.1:=by rw [hs];exact List.mem_append_right _ (List.mem_singleton.2 (by rw [← hs]))
 have hb:∀ x:Int,x ∈ st.1.2.1→1≤x∧x≤100000:=fun x hx=>⟨(n3 x hx).1,by have:=(n3 x hx).2;omega⟩
 have ko:∀ x ∈ st.1.2.1.dropLast,fT (h_ d (il st) (aT (aJ r))).1 (aA aI x)=fT d (aA aI x):=fun x hx =>
  DZ (wD (hb _ hlast) (hb x (List.dropLast_subset _ hx)) (by have:=hp x hx;omega))
 have kl:=A4 (d:=d) (s:=il st) (x:=aT (aJ r))
 have ks:=Ft (d:=d) (s:=il st) (x:=aT (aJ r))
 unfold pF
 generalize h_ d (il st) (aT (aJ r))=a at ko kl ks ⊢
 have e1:∀ dd:Ty.den a_,iG dd st.1.2.1=iG dd st.1.2.1.dropLast+Db dd (il st):=fun dd=>by
  conv=>lhs;rw [hs]
  rw [BK]
  unfold iG il
  simp
 cases c:a.2==0 with
 | true =>
  have z:a.2=0:=GU c
  have cn:(a.2 != 0)=false:=by unfold bne;rw [c];rfl
  rw [c,aX] at kl
  obtain ⟨x,hx⟩:=Option.isSome_iff_exists.1 (ks z)
  rw [cn]
  refine ⟨rfl,?_,fun _=>rfl⟩
  show _+(if (0:Int)=0 then bH r else 0)≤(iG a.1 st.1.2.1:Int)
  rw [if_pos rfl,e1 d,e1 a.1,jU ko]
  have e2:Db a.1 (il st)=Db d (il st)+(aT (aJ r)).size:=by
   unfold Db
   rw [kl,hx]
   simp [ByteArray.size_append]
  rw [e2]
  unfold bH
  omega
 | false =>
  have cn:(a.2 != 0)=true:=by unfold bne;rw [c];rfl
  rw [c,aM] at kl
  rw [cn]
  have hz:¬ (tl a).2=0:=fun e=>by
   have q:=Bv a
   rw [e,cn] at q
   cases q
  refine ⟨rfl,?_,fun e=>absurd e hz⟩
  show _+(if (tl a).2=0 then bH r else 0)≤(iG a.1 st.1.2.1:Int)
  rw [if_neg hz,e1 d,e1 a.1,jU ko]
  have e2:Db a.1 (il st)=Db d (il st):=by unfold Db;rw [kl]
  rw [e2]
  omega
theorem Hm {st:Ty.den aE} {d:Ty.den a_} (hl:d5 st.1=true) (hd:DR d) (r:Ty.den ax) :
 (iG d st.1.2.1:Int)+(if (jT st d r).1.2.2=0 then bH r else 0)≤(iG (jT st d r).1.2.1 (jT st d r).1.1.1.2.1:Int)∧((jT st d r).1.2.2=0→(jT st d r).2.2.2.1=bH r):=by
 unfold jT
 cases decide (st.2.2.2.1 > 0)&&decide (st.2.2.2.1+bH r > 200) with
 | false =>
  obtain ⟨s1,s2,s3⟩:=Dq hl hd r
  simp only [aM]
  rw [s1]
  exact ⟨s2,s3⟩
 | true =>
  obtain ⟨g1,g2,g3,g4⟩:=tf hl hd
  have gs:=HV hl hd
  simp only [aX]
  generalize oQ st d=q at g1 g2 g3 g4 gs ⊢
  cases c:q.2.2 != 0 with
  | true =>
   have hz:¬ q.2.2=0:=fun e=>by rw [e] at c;cases c
   simp only [aX]
   rw [if_neg hz]
   exact ⟨by omega,fun e=>absurd e hz⟩
  | false =>
   obtain ⟨s1,s2,s3⟩:=Dq g1 g2 r
   simp only [aM]
   rw [s1]
   exact ⟨by omega,s3⟩
end Go.Proofs.YtohaanhjddohmaaGreatDoor.G
namespace Go.Proofs.YtohaanhjddohmaaGreatDoor.G
open Go.V
abbrev GN:=List (Ty.den b9)
def eU (id:Int) (l:GN):bD:=l.map fun x=>(id,x)
theorem pX (id:Int) (l:GN):(eU id l).length=l.length:=by unfold eU;rw [List.length_map]
theorem rD {k:Nat} (hk:2 ^ 50≤k) (id:Int) {l:GN} (hl:l.length≤1099511627775):eI.f k id l=some (eU id l,()):=by
 unfold eI.f eI.t
 refine (dZ (L:=fun n i s=>eI.l0 k n id l l.length i s) (R:=fun r s=>some (s++eU id r,())) (Ty.dflt b9) l (fun i s=>(s.length:Int)=i) (fun n s hs=>?_) (fun n i s x rest h0 h1 hx hr hp ih=>?_) (n:=k) (s:=[]) (by omega) (by decide)).trans (by rw [List.nil_append])
 · simp (disch:=omega) only [eI.l0,eI.b0,aP,aM,eU,List.map_nil,List.append_nil]
 · have ih:=ih (s++[(id,x)]) (by rw [cB];omega)
   simp (disch:=first | omega | decide) only [eI.l0,eI.b0,aN,aX,aG,hx,ba,aC]
   refine ih.trans ?_
   simp only [eU,List.map_cons,sy,List.cons_append,List.nil_append]
theorem rC {k:Nat} (hk:2 ^ 50≤k) (id:Int) {s:ByteArray} (hs:s.size≤1099511627775):bQ.f k id s=some (eU id (cW s).1,()):=by
 unfold bQ.f bQ.t
 rw [m8 hk hs,aO]
 have hl:=(jW s).1
 simp only []
 generalize (cW s).1=l at *
 refine (dZ (L:=fun n i s=>bQ.l0 k n id i s l) (R:=fun r s=>some (s++eU id r,())) (Ty.dflt b9) l (fun i s=>(s.length:Int)=i) (fun n s hs=>?_) (fun n i s x rest h0 h1 hx hr hp ih=>?_) (n:=k) (s:=[]) (by omega) (by decide)).trans (by rw [List.nil_append])
 · simp (disch:=omega) only [bQ.l0,bQ.b0,aP,aM,eU,List.map_nil,List.append_nil]
 · have ih:=ih (s++[(id,x)]) (by rw [cB];omega)
   simp (disch:=first | omega | decide) only [bQ.l0,bQ.b0,aN,aX,aG,hx,ba,aC]
   refine ih.trans ?_
   simp only [eU,List.map_cons,sy,List.cons_append,List.nil_append]
end Go.Proofs.YtohaanhjddohmaaGreatDoor.G
namespace Go.Proofs.YtohaanhjddohmaaGreatDoor.G
open Go.V
def nZ:Ty.den eh:=(0,(0,([],())))
def zD (s0:Int) (e:Ty.den aB):Bool:=(e.2.1==s0)&&!decide ((e.2.2.1:Int) > 100000)
def xC (l:aY):Bool:=l.all (zD (l.getD 0 (Ty.dflt aB)).2.1)
def kP (h:Ty.den eh):Bool:=decide ((0:Int)≤h.1∧h.1≤100000)&&(decide ((0:Int)≤h.2.1∧h.2.1≤1000000)&&(nP h.2.2.1&&xC h.2.2.1))
def iL (e:Ty.den aB):ByteArray:=iT e.1++(gk e.2.1++(gk e.2.2.1++(gk e.2.2.2.1++gk e.2.2.2.2.1)))
def jG:aY→ByteArray
 | []=>⟨#[]⟩
 | e::l=>iL e++jG l
def qT (h:Ty.den eh):ByteArray:=gk h.1++(gk h.2.1++(gk (h.2.2.1.length:Int)++jG h.2.2.1))
def bu (h:Ty.den eh):ByteArray:=if kP h=true then qs (oX (qT h))++qT h else ⟨#[]⟩
theorem xU {k:Nat} (hk:2 ^ 50≤k) (h:Ty.den eh):gQ.f k h=some (kP h,()):=by
 unfold gQ.f gQ.t kP
 rw [fz,aO]
 cases decide ((0:Int)≤h.1∧h.1≤100000) with
 | false=>rfl
 | true =>
  simp only [ft,aM,Bool.true_and]
  rw [fz,aO]
  cases decide ((0:Int)≤h.2.1∧h.2.1≤1000000) with
  | false=>rfl
  | true =>
   simp only [ft,aM,Bool.true_and]
   rw [wU hk,aO]
   cases cd:nP h.2.2.1 with
   | false=>rfl
   | true =>
    simp only [ft,aM,Bool.true_and]
    have hl:h.2.2.1.length≤20:=by
     unfold nP at cd
     rw [j6,decide_eq_true_eq] at cd
     have:=cd.1
     omega
    unfold xC
    refine dZ (L:=fun n i (_:Unit)=>gQ.l0 k n i h.1 h.2.1 h.2.2.1) (R:=fun r _=>some (r.all (zD (h.2.2.1.getD 0 (Ty.dflt aB)).2.1),())) (Ty.dflt aB) h.2.2.1 (fun _ _=>True) (fun n _ _=>?_) (fun n i _ x rest h0 h1 hx hr hp ih=>?_) (n:=k) (s:=()) (by omega) trivial
    · simp only [gQ.l0,gQ.b0]
      rw [aP (by omega),aM]
      rfl
    · have ih:=ih () trivial
      simp only [gQ.l0,gQ.b0]
      rw [aN h1,aX,aG h0 h1,aG (by omega) (by omega),hx,aG h0 h1,aC (n:=i+1) (by omega) (by omega),ih,List.all_cons]
      unfold zD bne
      cases x.2.1==(h.2.2.1.getD 0 (Ty.dflt aB)).2.1 <;> cases decide ((x.2.2.1:Int) > 100000) <;> rfl
theorem xe {k:Nat} (hk:2 ^ 50≤k) {h:Ty.den eh} (hl:h.2.2.1.length≤1073741824):fi.f k h=some (kP h,()):=by
 unfold fi.f fi.t kP xC
 have fin:∀ b:Bool,(bif b then (Option.bind (ah.f k h.1 0 100000) fun r1=>(bif r1.1 then (Option.bind (ah.f k h.2.1 0 1000000) fun r2=>(bif r2.1 then (Option.bind (dw.f k h.2.2.1) fun r3=>(some r3)) else (some (false,())))) else (some (false,())))) else (some (false,())))=some (decide ((0:Int)≤h.1∧h.1≤100000)&&(decide ((0:Int)≤h.2.1∧h.2.1≤1000000)&&(nP h.2.2.1&&b)),()):=fun b=>by
  rw [jr,aO,jr,aO,vY hk (by omega),aO]
  simp only []
  cases decide ((0:Int)≤h.1∧h.1≤100000) <;> cases decide ((0:Int)≤h.2.1∧h.2.1≤1000000) <;> cases nP h.2.2.1 <;> cases b <;> rfl
 rw [← fin]
 refine dZ (L:=fun n i (_:Unit)=>fi.l0 k n h.2.2.1 h.2.2.1.length i h.1 h.2.1 h.2.2.1) (R:=fun r _=>bif r.all (zD (h.2.2.1.getD 0 (Ty.dflt aB)).2.1) then (Option.bind (ah.f k h.1 0 100000) fun r1=>(bif r1.1 then (Option.bind (ah.f k h.2.1 0 1000000) fun r2=>(bif r2.1 then (Option.bind (dw.f k h.2.2.1) fun r3=>(some r3)) else (some (false,())))) else (some (false,())))) else (some (false,()))) (Ty.dflt aB) h.2.2.1 (fun _ _=>True) (fun n _ _=>?_) (fun n i _ x rest h0 h1 hx hr hp ih=>?_) (n:=k) (s:=()) (by omega) trivial
 · simp only [fi.l0,fi.b0]
   rw [aP (by omega),aM]
   rfl
 · have ih:=ih () trivial
   simp only [fi.l0,fi.b0]
   rw [aN h1,aX,aG h0 h1,aG (by omega) (by omega),hx,aC (n:=i+1) (by omega) (by omega),ih,List.all_cons]
   unfold zD bne
   cases x.2.1==(h.2.2.1.getD 0 (Ty.dflt aB)).2.1 <;> cases decide ((x.2.2.1:Int) > 100000) <;> rfl
theorem kG {l:aY} (h:nP l=true):l.length≤20∧∀ e ∈ l,(1≤e.1.size∧e.1.size≤8)∧(LE.le (α:=Int) 1 e.2.1∧LE.le (α:=Int) e.2.1 100000)∧LE.le (α:=Int) 0 e.2.2.1∧(LE.le (α:=Int) 1 e.2.2.2.1∧LE.le (α:=Int) e.2.2.2.1 210)∧(LE.le (α:=Int) 1 e.2.2.2.2.1∧LE.le (α:=Int) e.2.2.2.2.1 1000000):=by
 unfold nP at h
 rw [j6,decide_eq_true_eq] at h
 refine ⟨by have:=h.1;omega,fun e he=>?_⟩
 obtain ⟨q,hq⟩:=zV h.2 he
 unfold oV oz at hq
 rw [j6,j6,j6,j6,j6,decide_eq_true_eq,decide_eq_true_eq,decide_eq_true_eq,decide_eq_true_eq] at hq
 obtain ⟨g1,g2,g3,g4,g5,_⟩:=hq
 have g3':¬ LT.lt (α:=Int) e.2.2.1 0:=by
  intro q
  have:(!decide (e.2.2.1<(0:Int)))=false:=by rw [aN q];rfl
  rw [this] at g3
  cases g3
 exact ⟨by omega,g2,Int.not_lt.1 g3',g4,g5⟩
theorem mq {h:Ty.den eh} (q:kP h=true):nP h.2.2.1=true:=by
 unfold kP at q
 rw [j6,j6,j6] at q
 exact q.2.2.1
theorem qa {e:Ty.den aB}:(iL e).size≤35+e.1.size:=by
 have a:=ai (e.1.size:Int)
 have b:=ai e.2.1
 have c:=ai e.2.2.1
 have d:=ai e.2.2.2.1
 have f:=ai e.2.2.2.2.1
 unfold iL iT
 simp only [aL]
 omega
theorem vp:∀ {l:aY},(∀ e ∈ l,e.1.size≤8)→(jG l).size≤43*l.length
 | [],_=>Nat.zero_le _
 | e::l,h=>by
  have h1:=h e (oE ..)
  have h2:=vp (l:=l) fun x hx=>h x (qy _ hx)
  have h3:=qa (e:=e)
  unfold jG
  rw [aL,lB]
  omega
theorem DX {h:Ty.den eh} (q:kP h=true):(qT h).size≤900:=by
 obtain ⟨h1,h2⟩:=kG (mq q)
 have:=vp (l:=h.2.2.1) fun e he=>(h2 e he).1.2
 have a:=ai h.1
 have b:=ai h.2.1
 have c:=ai (h.2.2.1.length:Int)
 unfold qT
 simp only [aL]
 omega
theorem lw (h:Ty.den eh):(bu h).size≤904:=by
 unfold bu
 by_cases q:kP h=true
 · have:=DX q
   rw [if_pos q,aL,show (qs (oX (qT h))).size=4 from rfl]
   omega
 · rw [if_neg q];decide
theorem kV {k:Nat} (hk:2 ^ 50≤k) (h:Ty.den eh):dN.f k h=some (bu h,()):=by
 unfold dN.f dN.t bu
 rw [xU hk,aO]
 cases q:kP h with
 | false=>rfl
 | true =>
  obtain ⟨h1,h2⟩:=kG (mq q)
  have a:=ai h.1
  have b:=ai h.2.1
  have c:=ai (h.2.2.1.length:Int)
  rw [ft,aM,gK hk,aO,gK hk,aO,if_pos rfl]
  simp only []
  rw [dL (by omega),gK hk,aO]
  simp only []
  rw [dL (by rw [aL];omega)]
  refine (dZ (L:=fun n i s=>dN.l0 k n s i h.1 h.2.1 h.2.2.1) (R:=fun r s=>some (qs (oX (s++jG r))++(s++jG r),())) (Ty.dflt aB) h.2.2.1 (fun i s=>(s.size:Int)≤21+43*i) (fun n s hs=>?_) (fun n i s x rest g0 g1 hx hr hs ih=>?_) (n:=k) (s:=gk h.1++gk h.2.1++gk (h.2.2.1.length:Int)) (by omega) (by rw [aL,aL];omega)).trans (by unfold qT;rw [af,af])
  · have hc:=qk s
    simp only [dN.l0,dN.b0]
    rw [aP (by omega),aM,rW hk (by omega),aO]
    simp only []
    rw [oh hk hc.1 hc.2,aO]
    simp only []
    rw [dL (by rw [show (qs (oX s)).size=4 from rfl];omega),show jG []=⟨#[]⟩ from rfl,gG]
  · have hm:x ∈ h.2.2.1:=by rw [← hx];exact gb (by omega)
    have hz:=(h2 x hm).1.2
    have v1:=ai (x.1.size:Int)
    have v2:=ai x.2.1
    have v3:=ai x.2.2.1
    have v4:=ai x.2.2.2.1
    have v5:=ai x.2.2.2.2.1
    have ih:=ih (s++iL x) (by have:=qa (e:=x);rw [aL];omega)
    simp only [dN.l0,dN.b0]
    rw [aN g1,aX,aG g0 g1,hx]
    simp only [gK hk,aO]
    rw [dL (by omega),dL (by rw [aL];omega),dL (by rw [aL,aL];omega),dL (by rw [aL,aL,aL];omega),dL (by rw [aL,aL,aL,aL];omega),dL (by rw [aL,aL,aL,aL,aL];omega),aC (n:=i+1) (by omega) (by omega)]
    have e:s++gk (x.1.size:Int)++x.1++gk x.2.1++gk x.2.2.1++gk x.2.2.2.1++gk x.2.2.2.2.1=s++iL x:=by
     unfold iL iT
     simp only [af]
    rw [e,ih]
    rw [show jG (x::rest)=iL x++jG rest from rfl,af]
theorem um {k:Nat} (hk:2 ^ 50≤k) {h:Ty.den eh} (hl:h.2.2.1.length≤1073741824):eD.f k h=some (bu h,()):=by
 unfold eD.f eD.t bu
 rw [xe hk hl,aO]
 cases q:kP h with
 | false=>rfl
 | true =>
  obtain ⟨h1,h2⟩:=kG (mq q)
  have a:=ai h.1
  have b:=ai h.2.1
  have c:=ai (h.2.2.1.length:Int)
  rw [ft,aM,qB hk (by simp),aO,if_pos rfl]
  simp only []
  refine (dZ (L:=fun n i s=>eD.l0 k n s h.2.2.1 h.2.2.1.length i) (R:=fun r s=>some (qs (oX (s++jG r))++(s++jG r),())) (Ty.dflt aB) h.2.2.1 (fun i s=>(s.size:Int)≤21+43*i) (fun n s hs=>?_) (fun n i s x rest g0 g1 hx hr hs ih=>?_) (n:=k) (s:=dH [h.1,h.2.1,(h.2.2.1.length:Int)]) (by omega) (by simp only [dH,aL];rw [show (⟨#[]⟩:ByteArray).size=0 from rfl];omega)).trans (by unfold qT;simp only [dH,af,gG,mT])
  · have hc:=qk s
    simp only [eD.l0,eD.b0]
    rw [aP (by omega),aM,rh hk (by omega),aO]
    simp only []
    rw [pJ hk hc.1 hc.2,aO]
    simp only []
    rw [dL (by rw [show (qs (oX s)).size=4 from rfl];omega),show jG []=⟨#[]⟩ from rfl,gG]
  · have hm:x ∈ h.2.2.1:=by rw [← hx];exact gb (by omega)
    have hz:=(h2 x hm).1.2
    have ht:=qa (e:=x)
    have v1:=ai (x.1.size:Int)
    have v2:=ai x.2.1
    have v3:=ai x.2.2.1
    have v4:=ai x.2.2.2.1
    have v5:=ai x.2.2.2.2.1
    have ih:=ih (s++iL x) (by have:=qa (e:=x);rw [aL];omega)
    have e:iT x.1++dH [x.2.1,x.2.2.1,x.2.2.2.1,x.2.2.2.2.1]=iL x:=by
     unfold iL
     simp only [dH,gG]
    simp only [eD.l0,eD.b0]
    rw [aN g1,aX,aG g0 g1,hx,kS hk (by omega),aO,qB hk (by simp),aO]
    simp only []
    have hts:(iT x.1).size+(dH [x.2.1,x.2.2.1,x.2.2.2.1,x.2.2.2.2.1]).size≤100:=by
     rw [← aL,e];omega
    rw [dL (by omega),e,dL (by omega),aC (n:=i+1) (by omega) (by omega),ih,show jG (x::rest)=iL x++jG rest from rfl,af]
def qo (x y:Ty.den aB):Bool:=(seq x.1 y.1)&&((x.2.1==y.2.1)&&((x.2.2.1==y.2.2.1)&&((x.2.2.2.1==y.2.2.2.1)&&(x.2.2.2.2.1==y.2.2.2.2.1))))
def tG:aY→aY→Bool
 | [],[]=>true
 | x::l,y::m=>qo x y&&tG l m
 | _,_=>false
theorem Bq {x y:Ty.den aB}:qo x y=true↔x=y:=by
 unfold qo
 simp only [j6,beq_iff_eq,dS]
 constructor
 · rintro ⟨h1,h2,h3,h4,h5⟩
   obtain ⟨a,b,c,d,e,_⟩:=x
   obtain ⟨a',b',c',d',e',_⟩:=y
   simp only at h1 h2 h3 h4 h5
   subst h1 h2 h3 h4 h5
   rfl
 · rintro rfl;exact ⟨rfl,rfl,rfl,rfl,rfl⟩
theorem yW:∀ {l m:aY},tG l m=true↔l=m
 | [],[]=>⟨fun _=>rfl,fun _=>rfl⟩
 | [],y::m=>⟨fun h=>(by cases h),fun h=>(by cases h)⟩
 | x::l,[]=>⟨fun h=>(by cases h),fun h=>(by cases h)⟩
 | x::l,y::m=>by
  unfold tG
  rw [j6,Bq,yW,List.cons.injEq]
theorem Ef:∀ {l m:aY},l.length≠m.length→tG l m=false:=fun {l m} h=>by
 cases c:tG l m with
 | false=>rfl
 | true=>rw [yW.1 c] at h;exact absurd rfl h
theorem tc {α:Type} {l:List α} {i:Nat} (z:α) (h:i<l.length):l.drop i=l.getD i z::l.drop (i+1):=by
 rw [List.drop_eq_getElem_cons h]
 simp [List.getD,h]
theorem xN {k:Nat} (hk:2 ^ 50≤k) {l m:aY} (hl:l.length≤1073741824):fB.f k l m=some (tG l m,()):=by
 unfold fB.f fB.t
 by_cases hne:l.length=m.length
 · rw [show ((l.length:Int) != (m.length:Int))=false by rw [hne];simp,aM]
   refine (HJ (L:=fun n i (_:Unit)=>fB.l0 k n l m i) (R:=fun i _=>some (tG (l.drop i.toNat) (m.drop i.toNat),())) l.length (fun _ _=>True) (fun n _ _=>?_) (fun n i _ h0 h1 _ ih=>?_) k 0 () (by omega) (by omega) (by omega) trivial).trans (by simp)
   · simp only [fB.l0,fB.b0]
     rw [aP (by omega),aM,ng,List.drop_length,hne,List.drop_length]
     rfl
   · have ih:=ih () trivial
     have c1:i.toNat<l.length:=by omega
     simp only [fB.l0,fB.b0]
     rw [aN h1,aX,aG h0 h1,aG h0 (by omega),aC (n:=i+1) (by omega) (by omega),ih,tc (Ty.dflt aB) c1,tc (Ty.dflt aB) (l:=m) (i:=i.toNat) (by omega),show (i+1).toNat=i.toNat+1 by omega]
     show _=some (qo _ _&&tG _ _,())
     show (bif !(qo (l.getD i.toNat (Ty.dflt aB)) (m.getD i.toNat (Ty.dflt aB))) then _ else _)=_
     cases qo (l.getD i.toNat (Ty.dflt aB)) (m.getD i.toNat (Ty.dflt aB)) <;> rfl
 · rw [show ((l.length:Int) != (m.length:Int))=true from bne_iff_ne.2 (by omega),aX,Ef hne]
def nL (mark:Int) (p:Option (Ty.den b9)) (x:Ty.den b9):Bool :=
 (x.2.2.1.1==4)&&(!decide ((x.2.2.1.2.1:Int) > mark)&&(match p with | none=>true | some y=>mN y.2.2.1.2.2.1 x.2.2.1.2.2.1))
def FE (id:Int) (x:Ty.den b9):Ty.den aB:=(x.2.2.1.2.2.1,(id,(x.1,(x.2.1,(x.2.2.1.2.1,())))))
noncomputable def fo (id:Int) (s:ByteArray):Ty.den eh × Bool :=
 bif (cW s).2 != (s.size:Int) then (nZ,false) else bif (cW s).1.length==0 then (nZ,false) else
 bif ((cW s).1.getD ((cW s).1.length-1) (Ty.dflt b9)).2.2.1.1 != 5 then (nZ,false) else
 bif !decide ((1:Int)≤id∧id≤100000) then (nZ,false) else
 bif !pG (nL ((cW s).1.getD ((cW s).1.length-1) (Ty.dflt b9)).2.2.1.2.1) none ((cW s).1.take ((cW s).1.length-1)) then (nZ,false) else
 bif !mE ((cW s).1.getD ((cW s).1.length-1) (Ty.dflt b9)).2.2.1 (eU id ((cW s).1.take ((cW s).1.length-1))) then (nZ,false) else
 (((s.size:Int),(((cW s).1.getD ((cW s).1.length-1) (Ty.dflt b9)).2.2.1.2.1,(((cW s).1.take ((cW s).1.length-1)).map (FE id),()))),true)
theorem uw (id:Int):seq (aA aI id) ⟨#[]⟩=!decide ((1:Int)≤id∧id≤100000):=by
 by_cases h:(1:Int)≤id∧id≤100000
 · rw [aN h]
   have e:aA aI id=aI++fb id:=by unfold aA;rw [aN h];rfl
   rw [e,mH fun q=>?_]
   · rfl
   · have:=congrArg ByteArray.size q
     rw [aL] at this
     have s3:aI.size=3:=rfl
     have s0:(⟨#[]⟩:ByteArray).size=0:=rfl
     omega
 · rw [aP h]
   have e:aA aI id=⟨#[]⟩:=by unfold aA;rw [aP h];rfl
   rw [e,cY]
   rfl
theorem qx {k:Nat} (hk:2 ^ 50≤k) (id:Int) {s:ByteArray} (hs:s.size≤1073741823):di.f k id s=some ((fo id s).1,((fo id s).2,())):=by
 have hln:=jW s
 unfold di.f di.t fo
 rw [m8 hk (by omega),aO]
 simp only []
 generalize cW s=sc at hln ⊢
 obtain ⟨l,en⟩:=sc
 simp only at hln ⊢
 cases en != (s.size:Int) with
 | true=>rfl
 | false =>
  simp only [aM]
  by_cases h0:l.length=0
  · rw [show ((l.length:Int)==0)=true by rw [h0];rfl,show (l.length==0)=true by rw [h0];rfl]
    rfl
  · rw [show ((l.length:Int)==0)=false from mJ (by omega),show (l.length==0)=false from mJ h0]
    simp only [aM]
    have w1:aH ((l.length:Int)-1)=((l.length-1:Nat):Int):=by rw [aC (by omega) (by omega)];omega
    rw [w1,ng,aG (by omega) (by omega),aG (by omega) (by omega)]
    generalize hm:l.getD (l.length-1) (Ty.dflt b9)=m
    cases m.2.2.1.1 != 5 with
    | true=>rfl
    | false =>
     simp only [aM]
     rw [bG hk,aO]
     simp only [uw]
     cases decide ((1:Int)≤id∧id≤100000) with
     | false=>rfl
     | true =>
      simp only [ft,aM]
      have hpl:(l.take (l.length-1)).length=l.length-1:=by rw [List.length_take];omega
      refine (ol (L:=fun n i=>di.l0 k n id i [] 0 0 l ((l.take i.toNat).map (FE id)) (s.size:Int) m.2.2.1.2.1 ((l.take i.toNat).map fun x=>x.2.2.1)) (Ty.dflt b9) (l.take (l.length-1)) (nL m.2.2.1.2.1)
       (bif !mE m.2.2.1 (eU id (l.take (l.length-1))) then some (nZ,(false,())) else some (((s.size:Int),(m.2.2.1.2.1,((l.take (l.length-1)).map (FE id),()))),(true,()))) (some (nZ,(false,()))) (fun n=>?_) (fun n x h hx=>?_) (fun n i x y h0 h1 hx hy=>?_) (n:=k) (by omega)).trans (by
        cases pG (nL m.2.2.1.2.1) none (l.take (l.length-1)) <;> cases mE m.2.2.1 (eU id (l.take (l.length-1))) <;> rfl)
      · simp only [di.l0,di.b0]
        rw [hpl,ng,aC (n:=((l.length-1:Nat):Int)+1) (by omega) (by omega),aP (by omega),aM,w1,ng,aG (by omega) (by omega),hm,p_ hk (by rw [List.length_map,hpl];omega),aO,List.length_map,hpl]
        unfold mE eU bne
        rw [List.length_map,hpl,List.map_map]
        show (bif !(m.2.2.1.2.2.2.2.1==((l.length-1:Nat):Int)) then _ else bif !(m.2.2.1.2.2.2.2.2.1==xT ((l.take (l.length-1)).map fun x=>x.2.2.1)) then _ else _)=bif !((m.2.2.1.2.2.2.2.1==((l.length-1:Nat):Int))&&(m.2.2.1.2.2.2.2.2.1==xT ((l.take (l.length-1)).map fun x=>x.2.2.1))) then _ else _
        cases m.2.2.1.2.2.2.2.1==((l.length-1:Nat):Int) <;> cases m.2.2.1.2.2.2.2.2.1==xT ((l.take (l.length-1)).map fun x=>x.2.2.1) <;> rfl
      · rw [hpl] at h
        have hx':l.getD 0 (Ty.dflt b9)=x:=by rw [← hx,show Int.toNat 0=0 from rfl,kJ (by omega)]
        simp only [di.l0,di.b0]
        rw [aC (n:=(0:Int)+1) (by omega) (by omega),aN (by omega),aX,aG (by omega) (by omega),show Int.toNat 0=0 from rfl,hx',aP (show ¬ (0:Int) > 0 by omega),aM,ba (by simp) (by decide),aG (by omega) (by omega),aG (by omega) (by omega),ba (by simp) (by decide),show Int.toNat 1=0+1 from rfl,jk (z:=Ty.dflt b9) (show 0<l.length by omega),hx']
        simp only [nL,bne]
        cases x.2.2.1.1==4 <;> cases decide ((x.2.2.1.2.1:Int) > m.2.2.1.2.1) <;> rfl
      · rw [hpl] at h1
        have hx':l.getD i.toNat (Ty.dflt b9)=x:=by rw [← hx,kJ (by omega)]
        have hy':l.getD (i-1).toNat (Ty.dflt b9)=y:=by rw [← hy,kJ (by omega)]
        simp only [di.l0,di.b0]
        rw [aC (n:=i+1) (by omega) (by omega),aN (by omega),aX,aG (by omega) (by omega),hx',aN (show i > 0 by omega),aC (n:=i-1) (by omega) (by omega),aG (by omega) (by omega),hy',lf,ba (by rw [List.length_map,List.length_take];omega) (by decide),aG (by omega) (by omega),aG (by omega) (by omega),ba (by rw [List.length_map,List.length_take];omega) (by decide),show (i+1).toNat=i.toNat+1 by omega,jk (z:=Ty.dflt b9) (show i.toNat<l.length by omega),hx',List.map_append,List.map_append]
        simp only [nL,bne]
        cases x.2.2.1.1==4 <;> cases decide ((x.2.2.1.2.1:Int) > m.2.2.1.2.1) <;> cases mN y.2.2.1.2.2.1 x.2.2.1.2.2.1 <;> rfl
theorem xc {k:Nat} (hk:2 ^ 50≤k) (id:Int) {s:ByteArray} (hs:s.size≤1073741823):eW.f k id s=some ((fo id s).1,((fo id s).2,())):=by
 have hln:=jW s
 unfold eW.f eW.t fo
 rw [pY hk (by omega),aO]
 simp only []
 generalize cW s=sc at hln ⊢
 obtain ⟨l,en⟩:=sc
 simp only at hln ⊢
 have w0:aH ((l.length:Int)-1)=(l.length:Int)-1:=aC (by omega) (by omega)
 by_cases h0:l.length=0
 · rw [w0,aN (by omega),aX,show (l.length==0)=true by rw [h0];rfl]
   cases en != (s.size:Int) <;> rfl
 · rw [w0,aP (by omega),aM,show (l.length==0)=false from mJ h0]
   cases he:en != (s.size:Int) with
   | true=>rfl
   | false =>
    have hen:en=(s.size:Int):=by
     cases q:en==(s.size:Int) with
     | true=>exact GU q
     | false=>unfold bne at he;rw [q] at he;cases he
    simp only [aM]
    have w1:(l.length:Int)-1=((l.length-1:Nat):Int):=by omega
    rw [jr,aO]
    simp only []
    rw [w1,ng,aG (by omega) (by omega),aG (by omega) (by omega),c_ (by omega) (by omega),aG (by omega) (by omega),c_ (by omega) (by omega)]
    generalize hm:l.getD (l.length-1) (Ty.dflt b9)=m
    have hpl:(l.take (l.length-1)).length=l.length-1:=by rw [List.length_take];omega
    rw [rD hk id (by omega),aO]
    simp only []
    rw [uV hk _ (by unfold eU;rw [List.length_map];omega),aO]
    simp only []
    cases decide ((1:Int)≤id∧id≤100000) with
    | false=>cases m.2.2.1.1 != 5 <;> rfl
    | true =>
     cases m.2.2.1.1 != 5 with
     | true=>rfl
     | false =>
      simp only [ft,aM]
      cases mE m.2.2.1 (eU id (l.take (l.length-1))) with
      | false=>cases pG (nL m.2.2.1.2.1) none (l.take (l.length-1)) <;> rfl
      | true =>
       simp only [ft,aM]
       refine (ol (L:=fun n i=>eW.l0 k n id l (l.take (l.length-1)) (l.take (l.length-1)).length i [] 0 0 ((l.take i.toNat).map (FE id)) en m.2.2.1.2.1) (Ty.dflt b9) (l.take (l.length-1)) (nL m.2.2.1.2.1)
        (some (((s.size:Int),(m.2.2.1.2.1,((l.take (l.length-1)).map (FE id),()))),(true,()))) (some (nZ,(false,()))) (fun n=>?_) (fun n x h hx=>?_) (fun n i x y h0 h1 hx hy=>?_) (n:=k) (by omega)).trans (by
         cases pG (nL m.2.2.1.2.1) none (l.take (l.length-1)) <;> rfl)
       · simp only [eW.l0,eW.b0]
         rw [hpl,ng,aP (by omega),aM,hen]
       · have h':=h
         rw [hpl] at h'
         have hx':l.getD 0 (Ty.dflt b9)=x:=by rw [← hx,show Int.toNat 0=0 from rfl,kJ (by omega)]
         simp only [eW.l0,eW.b0]
         rw [aN (by omega),aX,aG (by omega) (by omega),hx,aP (show ¬ (0:Int) > 0 by omega),aM,ba (by simp) (by decide),aC (n:=(0:Int)+1) (by omega) (by omega),show Int.toNat 1=0+1 from rfl,jk (z:=Ty.dflt b9) (show 0<l.length by omega),hx']
         simp only [nL,bne]
         cases x.2.2.1.1==4 <;> cases decide ((x.2.2.1.2.1:Int) > m.2.2.1.2.1) <;> rfl
       · have h1':=h1
         rw [hpl] at h1'
         have hx':l.getD i.toNat (Ty.dflt b9)=x:=by rw [← hx,kJ (by omega)]
         have hy':l.getD (i-1).toNat (Ty.dflt b9)=y:=by rw [← hy,kJ (by omega)]
         simp only [eW.l0,eW.b0]
         rw [aN h1,aX,aG (by omega) (by omega),hx,aN (show i > 0 by omega),aC (n:=i-1) (by omega) (by omega),aG (by omega) (by omega),hy',ba (by rw [List.length_map,List.length_take];omega) (by decide),aC (n:=i+1) (by omega) (by omega),show (i+1).toNat=i.toNat+1 by omega,jk (z:=Ty.dflt b9) (show i.toNat<l.length by omega),hx',List.map_append]
         simp only [nL,bne]
         cases x.2.2.1.1==4 <;> cases decide ((x.2.2.1.2.1:Int) > m.2.2.1.2.1) <;> cases mN y.2.2.1.2.2.1 x.2.2.1.2.2.1 <;> rfl
noncomputable def oT (id:Int) (s:ByteArray) (h:Ty.den eh):Bool:=(fo id s).2&&(((fo id s).1.1==h.1)&&(((fo id s).1.2.1==h.2.1)&&tG (fo id s).1.2.2.1 h.2.2.1))
theorem vU (id:Int) {s:ByteArray} (hs:s.size≤1073741823):(fo id s).1.2.2.1.length≤1073741824:=by
 have hln:=jW s
 unfold fo
 generalize cW s=sc at hln ⊢
 obtain ⟨l,en⟩:=sc
 simp only at hln ⊢
 cases en != (s.size:Int)
 · cases l.length==0
   · cases (l.getD (l.length-1) (Ty.dflt b9)).2.2.1.1 != 5
     · cases !decide ((1:Int)≤id∧id≤100000)
       · cases !pG (nL (l.getD (l.length-1) (Ty.dflt b9)).2.2.1.2.1) none (l.take (l.length-1))
         · cases !mE (l.getD (l.length-1) (Ty.dflt b9)).2.2.1 (eU id (l.take (l.length-1)))
           · show ((l.take (l.length-1)).map (FE id)).length≤1073741824
             rw [List.length_map,List.length_take]
             omega
           · exact Nat.zero_le _
         · exact Nat.zero_le _
       · exact Nat.zero_le _
     · exact Nat.zero_le _
   · exact Nat.zero_le _
 · exact Nat.zero_le _
theorem ul {k:Nat} (hk:2 ^ 50≤k) (id:Int) {s:ByteArray} (hs:s.size≤1073741823) (h:Ty.den eh):gV.f k id s h=some (oT id s h,()):=by
 have hl:=vU id hs
 unfold gV.f gV.t oT
 rw [qx hk id hs,aO]
 simp only []
 rw [xN hk hl,aO]
 cases (fo id s).2 <;> cases (fo id s).1.1==h.1 <;> cases (fo id s).1.2.1==h.2.1 <;> rfl
end Go.Proofs.YtohaanhjddohmaaGreatDoor.G
namespace Go.V
def lC {α:Type} (o:Option α) (P:α→Prop):Prop:=∃ r,o=some r∧P r
section
variable {α β:Type} {P P':α→Prop} {Q:β→Prop}
theorem bL {r:α} (h:P r):lC (some r) P:=⟨r,rfl,h⟩
theorem GA {o:Option α} {r:α} (e:o=some r) (h:P r):lC o P:=⟨r,e,h⟩
theorem It {o:Option α} {r:α} (h:lC o (fun x=>x=r)):o=some r:=by
 obtain ⟨x,e,rfl⟩:=h
 exact e
theorem C1 {o:Option α} (h:lC o P) (hp:∀ r,P r→P' r):lC o P':=by
 obtain ⟨r,e,hr⟩:=h
 exact ⟨r,e,hp r hr⟩
theorem aw {o:Option α} {g:α→Option β} (h:lC o P) (hg:∀ r,P r→lC (g r) Q):lC (Option.bind o g) Q:=by
 obtain ⟨r,e,hr⟩:=h
 rw [e]
 exact hg r hr
theorem eT {o:Option α} {r:α} {g:α→Option β} (e:o=some r) (hg:lC (g r) Q):lC (Option.bind o g) Q:=by
 rw [e]
 exact hg
theorem d9 {b:Bool} {x y:Option α} (h1:b=true→lC x P) (h2:b=false→lC y P):lC (bif b then x else y) P:=by
 cases b
 · exact h2 rfl
 · exact h1 rfl
theorem lF {b:Bool} {x y:Option α} (hb:b=true) (h:lC x P):lC (bif b then x else y) P:=by rw [hb];exact h
theorem rE {b:Bool} {x y:Option α} (hb:b=false) (h:lC y P):lC (bif b then x else y) P:=by rw [hb];exact h
theorem nY {i n:Int} {x:Option α} (h0:0≤i) (h1:i<n) (h:lC x P):lC (bi i n x) P:=by rw [aG h0 h1];exact h
theorem Hf {i n:Int} {x:Option α} (h0:0≤i) (h1:i≤n) (h:lC x P):lC (pV i n x) P:=by rw [c_ h0 h1];exact h
theorem zu {b n:Nat} {x:Option α} (h0:n≤1099511627776) (hb:b≤128) (h:lC x P):lC (rm b n x) P:=by rw [ba h0 hb];exact h
theorem Hi {a b:ByteArray} {x:Option α} (h0:a.size+b.size≤4611686018427387904) (h:lC x P):lC (k_ a b x) P:=by rw [dL h0];exact h
end
end Go.V
namespace Go.Proofs.YtohaanhjddohmaaGreatDoor.G
open Go.V
noncomputable def iE (s:ByteArray):Ty.den eh × Bool:=o_ (fun h=>kP h=true) bu nZ s
def RH (s:ByteArray) (o:Option (Ty.den eh × Bool × Unit)):Prop:=(∃ h,kP h=true∧bu h=s∧o=some (h,(true,())))∨o=some (nZ,(false,()))
theorem BH (s:ByteArray):RH s (some (nZ,(false,()))) := .inr rfl
theorem Fo {s:ByteArray} (hs:4≤s.size) (h:Ty.den eh):RH s (bif !seq (bu h) s then some (nZ,(false,())) else some (h,(true,()))):=by
 cases c:seq (bu h) s with
 | false=>exact .inr rfl
 | true =>
  have e:=dS.1 c
  refine .inl ⟨h,?_,e,rfl⟩
  cases q:kP h with
  | true=>rfl
  | false =>
   unfold bu at e
   rw [if_neg (by rw [q];decide)] at e
   rw [← e] at hs
   exact absurd hs (by decide)
theorem FT {k:Nat} (hk:2 ^ 50≤k) {s:ByteArray} (hs:s.size≤1073741824) {m:Int} (h0:0≤m) (hm:m≤4):∀ (d n:Nat) (pos j:Int) (out:List Int),j+(d:Int)=m→0≤j→d<n→0≤pos→pos≤s.size→(out.length:Int)=j →
 lC (bT.l0 k n s pos m j out) (fun r=>(r.2.1 = -1∨(pos≤r.2.1∧r.2.1≤(s.size:Int)))∧(r.1.length:Int)=m):=by
 intro d
 induction d with
 | zero =>
  intro n pos j out h1 h2 hn h3 h4 h5
  obtain ⟨n,rfl⟩:∃ q,n=q+1:=⟨n-1,by omega⟩
  simp only [bT.l0,bT.b0]
  exact rE (aP (by omega)) (bL ⟨.inr ⟨Int.le_refl _,h4⟩,by show (out.length:Int)=m;omega⟩)
 | succ d ih =>
  intro n pos j out h1 h2 hn h3 h4 h5
  obtain ⟨n,rfl⟩:∃ q,n=q+1:=⟨n-1,by omega⟩
  have hr:=A0 (ByteArray.extract s pos.toNat s.size)
  rw [sV] at hr
  simp only [bT.l0,bT.b0]
  refine lF (aN (by omega)) (Hf h3 h4 (eT (fO hk _) ?_))
  generalize D8 (rv 7 (nb (ByteArray.extract s pos.toNat s.size)))=r at hr
  refine d9 (fun _=>?_) (fun _=>?_)
  · rw [J_ h0 (by omega) (by decide)]
    exact bL ⟨.inl rfl,by show ((List.replicate m.toNat _).length:Int)=m;rw [List.length_replicate];omega⟩
  · rw [aC (n:=pos+r.2.1) (by omega) (by omega),aC (n:=j+1) (by omega) (by omega)]
    refine zu (by omega) (by decide) (C1 (ih n (pos+r.2.1) (j+1) (out++[r.1]) (by omega) (by omega) (by omega) (by omega) (by omega) (by rw [cB];omega)) fun x hx=>⟨?_,hx.2⟩)
    rcases hx.1 with q | q
    · exact .inl q
    · exact .inr ⟨by omega,q.2⟩
theorem BU {k:Nat} (hk:2 ^ 50≤k) {s:ByteArray} (hs:s.size≤1073741824) {m pos:Int} (h0:0≤m) (hm:m≤4) (h1:0≤pos) (h2:pos≤s.size) :
 lC (bT.f k s pos m) (fun r=>(r.2.1 = -1∨(pos≤r.2.1∧r.2.1≤(s.size:Int)))∧(r.1.length:Int)=m):=by
 unfold bT.f bT.t
 exact FT hk hs h0 hm m.toNat k pos 0 [] (by omega) (by omega) (by omega) h1 h2 rfl
def Bl (x:Int):Prop:=0≤x∧x≤1000000
theorem I6 {x:Int} (h:Bl x):∃ n:Nat,n<562949953421312∧x=(n:Int)∧gk x=b_ n:=by
 obtain ⟨n,rfl⟩:=Int.eq_ofNat_of_zero_le h.1
 have:=h.2
 exact ⟨n,by omega,rfl,dD (by omega)⟩
theorem CG {k:Nat} (hk:2 ^ 50≤k) {m:Int} (hm:m≤4):∀ (xs:List Int) (pre t:ByteArray) (n:Nat) (j:Int) (out:List Int),(∀ x ∈ xs,Bl x)→j+(xs.length:Int)=m→0≤j→xs.length<n→(out.length:Int)≤j→pre.size+((dH xs).size+t.size)≤1073741824 →
 bT.l0 k n (pre++(dH xs++t)) (pre.size:Int) m j out=some (out++xs,(((pre.size+(dH xs).size:Nat):Int),()))
 | [],pre,t,n,j,out,hx,h1,h2,hn,h3,hz=>by
  obtain ⟨n,rfl⟩:∃ q,n=q+1:=⟨n-1,by omega⟩
  simp only [List.length_nil] at h1
  simp only [bT.l0,bT.b0]
  rw [aP (by omega),aM,List.append_nil]
  rfl
 | x::xs,pre,t,n,j,out,hx,h1,h2,hn,h3,hz=>by
  obtain ⟨n,rfl⟩:∃ q,n=q+1:=⟨n-1,by omega⟩
  obtain ⟨a,ha,rfl,hv⟩:=I6 (hx x (oE ..))
  have hva:=ag a
  rw [lB] at h1 hn
  have e1:dH ((a:Int)::xs)=b_ a++dH xs:=by rw [dH,hv]
  rw [e1,aL] at hz
  rw [e1]
  have e2:pre++(b_ a++dH xs++t)=pre++b_ a++(dH xs++t):=by simp only [af]
  have ih:=CG hk hm xs (pre++b_ a) t n (j+1) (out++[(a:Int)]) (fun y hy=>hx y (qy _ hy)) (by omega) (by omega) (by omega) (by rw [cB];omega) (by rw [aL];omega)
  simp only [bT.l0,bT.b0]
  rw [aN (by omega),aX,c_ (by omega) (by rw [aL];omega),ng,e9,af,cQ hk ha,aO]
  simp only []
  rw [show (((b_ a).size:Int)==0)=false from mJ (by omega),aM,ba (by omega) (by decide),s8,aC (by omega) (by omega),aC (n:=j+1) (by omega) (by omega)]
  rw [aL] at ih
  rw [← af pre,ih,sy,aL,Nat.add_assoc]
  rfl
theorem EF {k:Nat} (hk:2 ^ 50≤k) {xs:List Int} (pre t:ByteArray) (hx:∀ x ∈ xs,Bl x) (hl:xs.length≤4) (hz:pre.size+((dH xs).size+t.size)≤1073741824) :
 bT.f k (pre++(dH xs++t)) (pre.size:Int) (xs.length:Int)=some (xs,(((pre.size+(dH xs).size:Nat):Int),())):=by
 unfold bT.f bT.t
 exact CG hk (by omega) xs pre t k 0 [] hx (by omega) (by omega) (by omega) (by simp) hz
theorem KA {k:Nat} (hk:2 ^ 50≤k) {s:ByteArray} (hs:s.size≤1073741824):lC (cK.f k s) (fun r=>r.2.1.size≤s.size):=by
 rcases my s with ⟨u,t,hu,rfl⟩ | h
 · rw [aL,aL] at hs
   exact GA (u3 hk hu (by rw [aL];omega)) (by show t.size≤_;rw [aL,aL];omega)
 · exact GA (vu hk (by omega) h) (Nat.zero_le _)
theorem B6 {k:Nat} (hk:2 ^ 50≤k) {s:ByteArray} (h4:4≤s.size) (hs:s.size≤1073741824) (z:aY) (z1 z2 a b:Int) {xs:List Int} (hx:xs.length=3) (hc:xs.getD 2 (Ty.dflt (.int .i64))≤(20:Int)):∀ (d n:Nat) (pos j:Int) (out:aY),j+(d:Int)=20→0≤j→d<n→0≤pos→pos≤s.size→(out.length:Int)≤j →
 RH s (bJ.l0 k n s pos j z z1 z2 xs out a b):=by
 intro d
 induction d with
 | zero =>
  intro n pos j out h1 h2 hn h3 h5 h6
  obtain ⟨n,rfl⟩:∃ q,n=q+1:=⟨n-1,by omega⟩
  simp only [bJ.l0,bJ.b0]
  rw [aG (by omega) (by omega),aP (show ¬ j<xs.getD 2 (Ty.dflt (.int .i64)) by omega),aM,kV hk,aO]
  exact Fo h4 _
 | succ d ih =>
  intro n pos j out h1 h2 hn h3 h5 h6
  obtain ⟨n,rfl⟩:∃ q,n=q+1:=⟨n-1,by omega⟩
  have hz:=sV s pos.toNat
  simp only [bJ.l0,bJ.b0]
  rw [aG (by omega) (by omega)]
  by_cases c:j<xs.getD 2 (Ty.dflt (.int .i64))
  · rw [aN c,aX,c_ h3 h5]
    obtain ⟨r2,e2,q2⟩:=KA hk (s:=ByteArray.extract s pos.toNat s.size) (by omega)
    rw [e2,aO]
    obtain ⟨r3,e3,q3,q4⟩:=BU hk (s:=r2.2.1) (m:=4) (pos:=0) (by omega) (by omega) (by omega) (by omega) (by omega)
    rw [e3,aO]
    cases r2.2.2.1 with
    | false=>exact BH s
    | true =>
     simp only [ft,aM]
     by_cases c3:r3.2.1<0
     · rw [aN c3];exact BH s
     · rw [aP c3,aM,aG (by omega) (by omega),aG (by omega) (by omega),aG (by omega) (by omega),aG (by omega) (by omega),ba (by omega) (by decide),aC (n:=(s.size:Int)-(r2.2.1.size:Int)) (by omega) (by omega),aC (n:=(s.size:Int)-(r2.2.1.size:Int)+r3.2.1) (by omega) (by omega),aC (n:=j+1) (by omega) (by omega)]
       exact ih n _ (j+1) _ (by omega) (by omega) (by omega) (by omega) (by omega) (by rw [cB];omega)
  · rw [aP c,aM,kV hk,aO]
    exact Fo h4 _
theorem Df {k:Nat} (hk:2 ^ 50≤k) {s:ByteArray} (hs:s.size≤1073741824):RH s (bJ.f k s):=by
 unfold bJ.f bJ.t
 by_cases h4:(s.size:Int)<4
 · rw [aN h4];exact BH s
 · rw [aP h4,aM]
   obtain ⟨r,e,q1,q2⟩:=BU hk (s:=s) (m:=3) (pos:=4) hs (by omega) (by omega) (by omega) (by omega)
   rw [e,aO]
   by_cases c1:r.2.1<0
   · rw [aN c1];exact BH s
   · rw [aP c1,aM,aG (by omega) (by omega)]
     by_cases c2:r.1.getD 2 (Ty.dflt (.int .i64)) > (20:Int)
     · rw [aN c2];exact BH s
     · rw [aP c2,aM,aG (by omega) (by omega),aG (by omega) (by omega)]
       exact B6 hk (by omega) hs [] 0 0 _ _ (by omega) (Int.not_lt.1 c2) 20 k r.2.1 0 [] (by omega) (by omega) (by omega) (by omega) (by omega) (by simp)
theorem Gy {e:Ty.den aB} {l:aY} (hl:nP l=true) (ho:xC l=true) (he:e ∈ l):∀ x ∈ [(e.2.1:Int),e.2.2.1,e.2.2.2.1,e.2.2.2.2.1],Bl x:=by
 obtain ⟨_,q⟩:=kG hl
 obtain ⟨_,⟨a1,a2⟩,b1,⟨c1,c2⟩,⟨d1,d2⟩⟩:=q e he
 have h2:=List.all_eq_true.1 ho e he
 unfold zD at h2
 rw [j6] at h2
 have b2:LE.le (α:=Int) e.2.2.1 100000:=by
  refine Int.not_lt.1 fun w=>?_
  have:(!decide ((e.2.2.1:Int) > 100000))=false:=by rw [aN w];rfl
  rw [this] at h2
  cases h2.2
 intro x hx
 simp only [List.mem_cons,List.not_mem_nil,or_false] at hx
 rcases hx with rfl | rfl | rfl | rfl
 · exact ⟨by omega,by omega⟩
 · exact ⟨b1,by omega⟩
 · exact ⟨by omega,by omega⟩
 · exact ⟨by omega,d2⟩
theorem EY (e:Ty.den aB) (h:e.1.size≤8) (t:ByteArray):iL e++t=b_ e.1.size++(e.1++(dH [(e.2.1:Int),e.2.2.1,e.2.2.2.1,e.2.2.2.2.1]++t)):=by
 unfold iL iT
 rw [dD (by omega)]
 simp only [dH,gG,af]
theorem vb {k:Nat} (hk:2 ^ 50≤k) {h:Ty.den eh} (q:kP h=true) (z:aY) (z1 z2:Int):∀ (r:aY) (pre:ByteArray) (n:Nat) (j:Int) (out:aY),(∀ e ∈ r,e ∈ h.2.2.1)→out++r=h.2.2.1→(out.length:Int)=j→r.length<n→bu h=pre++jG r→pre.size≤1000 →
 bJ.l0 k n (bu h) (pre.size:Int) j z z1 z2 [(h.1:Int),h.2.1,(h.2.2.1.length:Int)] out h.1 h.2.1=some (h,(true,()))
 | [],pre,n,j,out,hr,ho,hj,hn,hs,hp=>by
  obtain ⟨n,rfl⟩:∃ q,n=q+1:=⟨n-1,by omega⟩
  rw [List.append_nil] at ho
  simp only [bJ.l0,bJ.b0]
  rw [aG (by omega) (by simp),show List.getD [(h.1:Int),h.2.1,(h.2.2.1.length:Int)] 2 (Ty.dflt (.int .i64))=(h.2.2.1.length:Int) from rfl,ho,aP (by rw [← hj,ho];omega),aM,show (h.1,(h.2.1,(h.2.2.1,())))=h from rfl,kV hk,aO]
  simp only [cY]
  rfl
 | e::r,pre,n,j,out,hr,ho,hj,hn,hs,hp=>by
  obtain ⟨n,rfl⟩:∃ q,n=q+1:=⟨n-1,by omega⟩
  have hlen:h.2.2.1.length=out.length+(r.length+1):=by rw [← ho,xS,lB]
  have he:=hr e (oE ..)
  have hd:=mq q
  have h1:xC h.2.2.1=true:=by unfold kP at q;rw [j6,j6,j6] at q;exact q.2.2.2
  have hk8:=((kG hd).2 e he).1.2
  have h20:=(kG hd).1
  have hnum:=Gy hd h1 he
  have hz:=lw h
  have hf:=EY e hk8 (jG r)
  have hs2:bu h=pre++(b_ e.1.size++(e.1++(dH [(e.2.1:Int),e.2.2.1,e.2.2.2.1,e.2.2.2.2.1]++jG r))):=by rw [← hf];exact hs
  have hs3:bu h=(pre++iL e)++jG r:=by rw [af];exact hs
  have hsz:=congrArg ByteArray.size hs2
  simp only [aL] at hsz
  have hsz3:=congrArg ByteArray.size hs3
  rw [aL,aL] at hsz3
  have ih:=vb hk q z z1 z2 r (pre++iL e) n (j+1) (out++[e]) (fun x hx=>hr x (qy _ hx)) (by rw [sy];exact ho) (by rw [cB];omega) (by rw [lB] at hn;omega) hs3 (by rw [aL];omega)
  have hv:=EF hk (xs:=[(e.2.1:Int),e.2.2.1,e.2.2.2.1,e.2.2.2.2.1]) ⟨#[]⟩ (jG r) hnum (by simp) (by rw [e0];omega)
  rw [mT,e0] at hv
  simp only [bJ.l0,bJ.b0]
  rw [aG (by omega) (by simp),show List.getD [(h.1:Int),h.2.1,(h.2.2.1.length:Int)] 2 (Ty.dflt (.int .i64))=(h.2.2.1.length:Int) from rfl,aN (by omega),aX,c_ (by omega) (by omega),ng]
  have ex:ByteArray.extract (bu h) pre.size (bu h).size=b_ e.1.size++(e.1++(dH [(e.2.1:Int),e.2.2.1,e.2.2.2.1,e.2.2.2.2.1]++jG r)):=by rw [hs2,e9]
  rw [ex,u3 hk (by omega) (by simp only [aL];omega),aO]
  simp only []
  rw [show bT.f k (dH [(e.2.1:Int),e.2.2.1,e.2.2.2.1,e.2.2.2.2.1]++jG r) 0 4=_ from hv,aO]
  simp only [ft,aM]
  rw [aP (by omega),aM,aG (by omega) (by simp),aG (by omega) (by simp),aG (by omega) (by simp),aG (by omega) (by simp),ba (by omega) (by decide),aC (n:=j+1) (by omega) (by omega)]
  have hsv:(dH [(e.2.1:Int),e.2.2.1,e.2.2.2.1,e.2.2.2.2.1]++jG r).size=(dH [(e.2.1:Int),e.2.2.1,e.2.2.2.1,e.2.2.2.2.1]).size+(jG r).size:=aL _ _
  have w:aH (aH (((bu h).size:Int)-((dH [(e.2.1:Int),e.2.2.1,e.2.2.2.1,e.2.2.2.2.1]++jG r).size:Int))+((0+(dH [(e.2.1:Int),e.2.2.1,e.2.2.2.1,e.2.2.2.2.1]).size:Nat):Int))=((pre++iL e).size:Int):=by
   have hpe:=aL pre (iL e)
   rw [aC (n:=((bu h).size:Int)-_) (by omega) (by omega),aC (by omega) (by omega)]
   omega
  rw [w]
  exact ih
theorem Eh {h:Ty.den eh} (q:kP h=true):∀ x ∈ [(h.1:Int),h.2.1,(h.2.2.1.length:Int)],Bl x:=by
 have h20:=(kG (mq q)).1
 unfold kP at q
 rw [j6,j6,decide_eq_true_eq,decide_eq_true_eq] at q
 obtain ⟨⟨a1,a2⟩,⟨b1,b2⟩,_⟩:=q
 intro x hx
 simp only [List.mem_cons,List.not_mem_nil,or_false] at hx
 rcases hx with rfl | rfl | rfl
 · exact ⟨a1,by have:LE.le (α:=Int) h.1 100000:=a2;omega⟩
 · exact ⟨b1,b2⟩
 · exact ⟨by omega,by omega⟩
theorem xv {h:Ty.den eh} (q:kP h=true):bu h=qs (oX (qT h))++(dH [(h.1:Int),h.2.1,(h.2.2.1.length:Int)]++jG h.2.2.1):=by
 unfold bu
 rw [if_pos q]
 unfold qT
 simp only [dH,gG,af]
theorem ru (x:Int):(qs x).size=4:=rfl
theorem FK {k:Nat} (hk:2 ^ 50≤k) {h:Ty.den eh} (q:kP h=true):bJ.f k (bu h)=some (h,(true,())):=by
 have h20:=(kG (mq q)).1
 have hf:=xv q
 have hz:=lw h
 have hsz:=congrArg ByteArray.size hf
 rw [aL,aL,ru] at hsz
 have hv:=EF hk (xs:=[(h.1:Int),h.2.1,(h.2.2.1.length:Int)]) (qs (oX (qT h))) (jG h.2.2.1) (Eh q) (by simp) (by rw [ru];omega)
 rw [← hf,ru] at hv
 unfold bJ.f bJ.t
 rw [aP (by omega),aM,show bT.f k (bu h) 4 3=_ from hv,aO]
 simp only []
 rw [aP (by omega),aM,aG (by omega) (by simp),show List.getD [(h.1:Int),h.2.1,(h.2.2.1.length:Int)] 2 (Ty.dflt (.int .i64))=(h.2.2.1.length:Int) from rfl,aP (by omega),aM,aG (by omega) (by simp),aG (by omega) (by simp)]
 have:=vb hk q [] 0 0 h.2.2.1 (qs (oX (qT h))++dH [(h.1:Int),h.2.1,(h.2.2.1.length:Int)]) k 0 [] (fun e he=>he) rfl rfl (by omega) (by rw [af];exact hf) (by rw [aL,ru];omega)
 rw [aL,ru] at this
 exact this
theorem pR {k:Nat} (hk:2 ^ 50≤k) {s:ByteArray} (hs:s.size≤1073741824):bJ.f k s=some ((iE s).1,((iE s).2,())) :=
 mW (fun h h1 h2=>by rw [← h2];exact FK hk h1) (Df hk hs)
theorem sA {s:ByteArray}:(iE s).1.2.2.1.length≤20:=by
 rcases km (fun h=>kP h=true) bu nZ s with ⟨r,h1,_,e⟩ | e
 · unfold iE
   rw [e]
   exact (kG (mq h1)).1
 · unfold iE
   rw [e]
   exact Nat.zero_le _
end Go.Proofs.YtohaanhjddohmaaGreatDoor.G
namespace Go.Proofs.YtohaanhjddohmaaGreatDoor.G
open Go.V
def lk:Ty.den aE:=((0,([],())),([],(0,(0,(0,())))))
noncomputable def A5 (d:Ty.den a_) (x:Int) (last:Bool):Bool:=(aV d (aA aI x)).2&&(last||!decide ((cW (kB d x)).2<((kB d x).size:Int)))
noncomputable def n6 (d:Ty.den a_):List Int→Bool
 | []=>true
 | x::l=>A5 d x l.isEmpty&&n6 d l
noncomputable def Ao (d:Ty.den a_) (x:Int):bD:=eU x (cW (kB d x)).1
noncomputable def qA (d:Ty.den a_):List Int→bD
 | []=>[]
 | x::l=>Ao d x++qA d l
noncomputable def tM (d:Ty.den a_) (x:Int):Ty.den eh:=(iE (aV d (aA bg x)).1).1
noncomputable def rX (d:Ty.den a_) (x:Int):Bool:=(aV d (aA bg x)).2&&((iE (aV d (aA bg x)).1).2&&oT x (kB d x) (tM d x))
noncomputable def rL (d:Ty.den a_) (ids:List Int):Ty.den kO :=
 bif rX d (ids.getD 0 0) then mg ((tM d (ids.getD 0 0)).2.2.1,((tM d (ids.getD 0 0)).2.1,(0,()))) (qA d (ids.drop 1)) else mg ([],(0,(0,()))) (qA d ids)
noncomputable def Hl (v:Ty.den bE) (en:Int) (g:Ty.den kO) (hi:Int):Ty.den aE:=(v,(g.1,(aH (g.2.1+1),(en,(hi,())))))
noncomputable def xy (v:Ty.den bE) (en:Int) (x:Ty.den a_) (g:Ty.den kO) (hi:Int):Ty.den aE × RD :=
 bif g.2.2.1 != 0 then (lk,(x,3)) else bif (mF v.2.1 x).2 != 0 then (lk,((mF v.2.1 x).1,fR (mF v.2.1 x).2)) else
 (Hl v en g hi,((mF v.2.1 x).1,0))
noncomputable def zX (v:Ty.den bE) (d:Ty.den a_):Ty.den aE × RD :=
 bif !n6 d v.2.1 then (lk,(d,3)) else
 bif (nQ (dQ v.2.1) d).2 != 0 then (lk,((nQ (dQ v.2.1) d).1,fR (nQ (dQ v.2.1) d).2)) else
 xy v (cW (kB d (dQ v.2.1))).2 (nQ (dQ v.2.1) d).1 (rL (nQ (dQ v.2.1) d).1 v.2.1) (bif rX (nQ (dQ v.2.1) d).1 (v.2.1.getD 0 0) then v.2.1.getD 0 0 else 0)
def yg:Ty.den bE:=(2,([1],()))
noncomputable def nt (d:Ty.den a_):RD:=d7 (d7 (mF [] d) fun x=>tv x (aA aI 1)) (cV yg)
noncomputable def oi (d:Ty.den a_):Ty.den aE × RD :=
 bif (nt d).2==0 then ((yg,([],(1,(0,(0,()))))),((nt d).1,0)) else (lk,((nt d).1,fR (nt d).2))
noncomputable def nX (d:Ty.den a_):Ty.den aE × RD :=
 bif !gw d then (lk,(d,4)) else bif d.2.2.2.1 then (lk,(d,1)) else
 bif !(aV d iy).2 then oi d else
 bif !(fK (aV d iy).1).2 then (lk,(d,3)) else zX (fK (aV d iy).1).1 d
def oS (q:Ty.den aE × RD):Ty.den aE × Ty.den a_ × Int × Unit:=(q.1,(q.2.1,(q.2.2,())))
theorem E0 {lim:Int}:∀ (l:List Int) (p:Option Int),pG (mr lim) p l=true→(∀ q,p=some q→∀ x ∈ l,q<x)∧l.Pairwise (fun a b=>a<b)
 | [],p,_=>⟨fun q _ x hx=>(by cases hx),List.Pairwise.nil⟩
 | y::l,p,h=>by
  unfold pG at h
  rw [j6] at h
  obtain ⟨h1,h2⟩:=h
  obtain ⟨a,b⟩:=E0 l (some y) h2
  have hy:∀ q,p=some q→q<y:=fun q hq=>by
   subst hq
   unfold mr at h1
   rw [j6] at h1
   exact of_decide_eq_true h1.2
  refine ⟨fun q hq x hx=>?_,List.pairwise_cons.2 ⟨a y rfl,b⟩⟩
  rcases List.mem_cons.1 hx with e | e
  · rw [e];exact hy q hq
  · have:=a y rfl x e
    have:=hy q hq
    omega
theorem ES {v:Ty.den bE} (h:d5 v=true):v.2.1.Pairwise (fun a b=>a<b):=by
 unfold d5 at h
 rw [j6,j6] at h
 exact (E0 _ _ h.2.2).2
theorem Gu {α:Type} {l m:List α} {n:Nat} {z:α} (h:l.length≤n):(l++m).getD n z=m.getD (n-l.length) z:=by
 simp [List.getD,List.getElem?_append_right h]
theorem Ho {ids:List Int} (hp:ids.Pairwise (fun a b=>a<b)) {i:Nat} {x:Int} {rest:List Int} (h:ids.drop i=x::rest):(x==dQ ids)=rest.isEmpty:=by
 have hi:=Hj h
 have hlen:=congrArg List.length h
 rw [List.length_drop,lB] at hlen
 have e:ids=ids.take i++(x::rest):=by rw [← h,List.take_append_drop]
 have hl:dQ ids=(x::rest).getD rest.length 0:=by
  unfold dQ
  have ht:(ids.take i).length=i:=by rw [List.length_take];omega
  conv=>lhs;rw [e]
  rw [Gu (by rw [ht,xS,ht,lB];omega),ht,xS,ht,lB]
  congr 1
  omega
 cases rest with
 | nil=>rw [hl];exact beq_self_eq_true x
 | cons y r =>
  rw [hl]
  have hm:(x::y::r).getD (y::r).length 0 ∈ y::r:=by
   show (y::r).getD r.length 0 ∈ y::r
   exact gb (by rw [lB];omega)
  have hpd:(x::y::r).Pairwise (fun a b=>a<b):=by rw [← h];exact hp.drop
  have:=(List.pairwise_cons.1 hpd).1 _ hm
  exact mJ (by omega)
theorem oc {d:Ty.den a_} (h:DR d) (x:Int):(kB d x).size≤100000:=by
 have:=eL d (aA aI x)
 have h2:=h.use
 have h3:=h.cap1
 unfold kB
 omega
theorem vy {d:Ty.den a_} (h:DR d) (x:Int):(Ao d x).length≤100000:=by
 have h1:=oc h x
 have h2:=jW (kB d x)
 unfold Ao
 rw [pX]
 omega
theorem oI {d:Ty.den a_} (h:DR d):∀ l:List Int,(qA d l).length≤100000*l.length
 | []=>Nat.zero_le _
 | x::l=>by
  have h1:=vy h x
  have h2:=oI h l
  unfold qA
  rw [xS,lB]
  omega
theorem zi {k:Nat} (hk:2 ^ 50≤k) {d:Ty.den a_} (h:DR d):gC.f k d=some (oS (oi d)):=by
 have h1:=vW [] d h
 have hv:d5 yg=true:=by decide
 unfold gC.f gC.t oi nt
 rw [sj hk h (by decide),aO]
 simp only [show ((0,(([]:List Int),())):Ty.den bE).2.1=[] from rfl]
 generalize mF [] d=r at h1 ⊢
 unfold d7
 simp only [bne,gn]
 cases c:r.2==0 with
 | false=>simp only [tI,aX,aM,c];rfl
 | true =>
  simp only [ft,aM,aX]
  rw [bG hk,aO]
  simp only []
  have hn:=uA (.inl rfl:aI=aI∨aI=bg) 1
  rw [ov hk h1.sz (by omega),aO]
  simp only [cp,aO]
  cases c2:(tv r.1 (aA aI 1)).2==0 with
  | false=>simp only [tI,aX,aM,c2];rfl
  | true =>
   simp only [ft,aM,aX]
   rw [show ((2,([1],())):Ty.den bE)=yg from rfl,nG hk (A7 h1 _) hv,aO]
   simp only [gn]
   cases c3:(cV yg (tv r.1 (aA aI 1)).1).2==0 <;> rfl
def Ha (k:Nat) (v:Ty.den bE) (en:Int) (x:Ty.den a_) (hi:Int) (dir:aY) (la:Int) (pl:bD):Option (Ty.den aE × Ty.den a_ × Int × Unit) :=
 (Option.bind (bx.f k (dir,(la,(0,()))) pl) fun r33=>(bif (r33.1.2.2.1 != 0) then (some (lk,(x,(3,())))) else
 (Option.bind (bh.f k x v) fun r34=>(bif (r34.2.1 != 0) then (some (lk,r34)) else (some ((v,(r33.1.1,((aH (r33.1.2.1+1)),(en,(hi,()))))),(r34.1,(0,()))))))))
theorem Dw {k:Nat} (hk:2 ^ 50≤k) {v:Ty.den bE} (hv:v.2.1.length≤60) (en:Int) {x:Ty.den a_} (h:DR x) (hi:Int) {dir:aY} (hd:dir.length≤1000) (la:Int) {pl:bD} (hp:pl.length≤100000000) :
 Ha k v en x hi dir la pl=some (oS (xy v en x (mg (dir,(la,(0,()))) pl) hi)):=by
 unfold Ha xy
 rw [wJ hk _ (by omega) (by show dir.length≤_;omega),aO]
 simp only [bne]
 cases (mg (dir,(la,(0,()))) pl).2.2.1==0 with
 | false=>rfl
 | true =>
  simp only [ft,aM]
  rw [sj hk h (by omega),aO]
  simp only [gn]
  cases (mF v.2.1 x).2==0 <;> rfl
theorem J3 {k:Nat} (hk:2 ^ 50≤k) {v:Ty.den bE} (hv:v.2.1.length≤60) (en:Int) {x:Ty.den a_} (h:DR x) (hi:Int) (dir:aY) (la:Int) :
 ∀ (n:Nat) (i:Int) (pl:bD),0≤i→i≤(v.2.1.length:Int)→(v.2.1.length:Int)-i<n→1≤i∧(pl.length:Int)≤100000*i →
 b7.l1 k n i [] [] 0 0 0 0 [] 0 0 false [] [] 0 0 0 0 v.2.1 v.1 x.1 x.2.1 x.2.2.1 x.2.2.2.1 [] v.1 0 en hi dir la 0 pl=Ha k v en x hi dir la (pl++qA x (v.2.1.drop i.toNat)):=by
 have hl:=h.sz.l
 have hu:=h.sz.u
 have hn:=h.sz.n
 refine Gk (L:=fun n i pl=>b7.l1 k n i [] [] 0 0 0 0 [] 0 0 false [] [] 0 0 0 0 v.2.1 v.1 x.1 x.2.1 x.2.2.1 x.2.2.2.1 [] v.1 0 en hi dir la 0 pl) (R:=fun r pl=>Ha k v en x hi dir la (pl++qA x r)) (Ty.dflt (.int .i64)) v.2.1 (fun i pl=>1≤i∧(pl.length:Int)≤100000*i) (fun n pl hp=>?_) (fun n i pl y rest h0 h1 hy hr hp ih=>?_)
 · simp only [b7.l1,b7.b1]
   rw [aP (by omega),aM,show qA x []=[] from rfl,List.append_nil]
   rfl
 · have hs:=oc h y
   have hpl:=vy h y
   have ht:=eL x (aA bg y)
   have ih:=ih (pl++Ao x y) ⟨by omega,by rw [xS];omega⟩
   simp only [b7.l1,b7.b1]
   rw [aN h1,aX,aG h0 h1,hy,bG hk,aO]
   simp only []
   rw [show (x.1,(x.2.1,(x.2.2.1,(x.2.2.2.1,()))))=x from rfl,gB hk (by omega) (by omega) (by omega),aO,aG h0 h1,iP hk,aO]
   simp only []
   rw [gB hk (by omega) (by omega) (by omega),aO]
   simp only []
   rw [pR hk (by omega),aO,show (i==0)=false from mJ (by omega)]
   simp only [aM]
   rw [aG h0 h1,rC hk y (by show (kB x y).size≤_;omega),aO]
   simp only []
   rw [ba (by show pl.length+(Ao x y).length≤_;omega) (by decide),aC (n:=i+1) (by omega) (by omega)]
   refine ih.trans ?_
   rw [sy]
   rfl
theorem vf {k:Nat} (hk:2 ^ 50≤k) {v:Ty.den bE} (hv:v.2.1.length≤60) (hv1:1≤v.2.1.length) (en:Int) {x:Ty.den a_} (h:DR x) :
 b7.l1 k k 0 [] [] 0 0 0 0 [] 0 0 false [] [] 0 0 0 0 v.2.1 v.1 x.1 x.2.1 x.2.2.1 x.2.2.2.1 [] v.1 0 en 0 [] 0 0 []=some (oS (xy v en x (rL x v.2.1) (bif rX x (v.2.1.getD 0 0) then v.2.1.getD 0 0 else 0))):=by
 have hl:=h.sz.l
 have hu:=h.sz.u
 have hn:=h.sz.n
 obtain ⟨n,hn2⟩:∃ q,k=q+1:=⟨k-1,by omega⟩
 have hs:=oc h (v.2.1.getD 0 0)
 have hpl:=vy h (v.2.1.getD 0 0)
 have ht:=eL x (aA bg (v.2.1.getD 0 0))
 have hpa:=oI h (v.2.1.drop 1)
 have hpb:=oI h v.2.1
 rw [List.length_drop] at hpa
 have hh:=sA (s:=(aV x (aA bg (v.2.1.getD 0 0))).1)
 have step:=fun hi dir la pl=>J3 hk hv en h hi dir la n 1 pl (by omega) (by omega) (by omega)
 refine (congrArg (fun z=>b7.l1 k z 0 [] [] 0 0 0 0 [] 0 0 false [] [] 0 0 0 0 v.2.1 v.1 x.1 x.2.1 x.2.2.1 x.2.2.2.1 [] v.1 0 en 0 [] 0 0 []) hn2).trans ?_
 have hsplit:v.2.1=v.2.1.getD 0 0::v.2.1.drop 1:=by
  have:=tc (0:Int) (l:=v.2.1) (i:=0) (by omega)
  rw [List.drop_zero] at this
  exact this
 simp only [b7.l1,b7.b1]
 rw [aN (by omega),aX,aG (by omega) (by omega),show List.getD v.2.1 (Int.toNat 0) (Ty.dflt (.int .i64))=v.2.1.getD 0 0 from rfl,bG hk,aO]
 simp only []
 rw [show (x.1,(x.2.1,(x.2.2.1,(x.2.2.2.1,()))))=x from rfl,gB hk (by omega) (by omega) (by omega),aO,aG (by omega) (by omega),iP hk,aO]
 simp only []
 rw [gB hk (by omega) (by omega) (by omega),aO]
 simp only []
 rw [pR hk (by omega),aO,show ((0:Int)==0)=true from rfl]
 simp only [aX]
 rw [rC hk (v.2.1.getD 0 0) (by show (kB x (v.2.1.getD 0 0)).size≤_;omega),aO]
 simp only []
 rw [ba (by show ([]:bD).length+(Ao x (v.2.1.getD 0 0)).length≤_;rw [List.length_nil];omega) (by decide),aC (n:=(0:Int)+1) (by omega) (by omega),aG (by omega) (by omega)]
 rw [show List.getD v.2.1 0 (Ty.dflt (.int .i64))=v.2.1.getD 0 0 from rfl]
 rw [ul hk _ (by show (kB x (v.2.1.getD 0 0)).size≤_;omega),aO]
 simp only []
 have no:b7.l1 k n (0+1) [] [] 0 0 0 0 [] 0 0 false [] [] 0 0 0 0 v.2.1 v.1 x.1 x.2.1 x.2.2.1 x.2.2.2.1 [] v.1 0 en 0 [] 0 0 ([]++eU (v.2.1.getD 0 0) (cW (aV x (aA aI (v.2.1.getD 0 0))).1).1)=some (oS (xy v en x (mg ([],(0,(0,()))) (qA x v.2.1)) 0)):=by
  refine (step 0 [] 0 (Ao x (v.2.1.getD 0 0)) ⟨by omega,by omega⟩).trans ?_
  rw [show Ao x (v.2.1.getD 0 0)++qA x (v.2.1.drop (Int.toNat 1))=qA x (v.2.1.getD 0 0::v.2.1.drop 1) from rfl,← hsplit]
  exact Dw hk hv en h 0 (by simp) 0 (by omega)
 unfold rL rX tM
 show (bif (aV x (aA bg (v.2.1.getD 0 0))).2 then (bif (iE (aV x (aA bg (v.2.1.getD 0 0))).1).2 then (bif oT (v.2.1.getD 0 0) (kB x (v.2.1.getD 0 0)) (iE (aV x (aA bg (v.2.1.getD 0 0))).1).1 then _ else _) else _) else _)=_
 cases (aV x (aA bg (v.2.1.getD 0 0))).2 with
 | false=>simp only [aM,Bool.false_and];rw [aG (by omega) (by omega)];exact no
 | true =>
  cases (iE (aV x (aA bg (v.2.1.getD 0 0))).1).2 with
  | false=>simp only [aM,aX,Bool.false_and,Bool.true_and];rw [aG (by omega) (by omega)];exact no
  | true =>
   cases oT (v.2.1.getD 0 0) (kB x (v.2.1.getD 0 0)) (iE (aV x (aA bg (v.2.1.getD 0 0))).1).1 with
   | false=>simp only [aM,aX,Bool.true_and];rw [aG (by omega) (by omega)];exact no
   | true =>
    simp only [aX,Bool.true_and]
    rw [aG (by omega) (by omega)]
    refine (step (v.2.1.getD 0 0) (iE (aV x (aA bg (v.2.1.getD 0 0))).1).1.2.2.1 (iE (aV x (aA bg (v.2.1.getD 0 0))).1).1.2.1 [] ⟨by omega,by simp⟩).trans ?_
    rw [List.nil_append,show (1:Int).toNat=1 from rfl]
    exact Dw hk hv en h _ (by omega) _ (by omega)
theorem EE (k:Nat):∀ n,b7.l2 k n=b7.l1 k n
 | 0=>rfl
 | n+1=>by show b7.b2 k (b7.l2 k n)=b7.b1 k (b7.l1 k n);rw [EE k n];rfl
theorem JB {k:Nat} (hk:2 ^ 50≤k) {v:Ty.den bE} (hv:d5 v=true) {d:Ty.den a_} (h:DR d) :
 b7.l0 k k (dQ v.2.1) 0 d.1 d.2.1 d.2.2.1 d.2.2.2.1 [] [] 0 0 0 0 [] 0 0 false [] [] 0 0 0 0 v.2.1 v.1=some (oS (zX v d)):=by
 obtain ⟨_,_,hv1,hv2,_⟩:=dW (nx:=v.1) (ids:=v.2.1) hv
 have hrise:=ES hv
 have hl:=h.sz.l
 have hu:=h.sz.u
 have hn:=h.sz.n
 have hs:=oc h (dQ v.2.1)
 have hsc:=jW (kB d (dQ v.2.1))
 have hfin:∀ n:Nat,b7.l0 k (n+1) (dQ v.2.1) (v.2.1.length:Int) d.1 d.2.1 d.2.2.1 d.2.2.2.1 [] [] 0 0 0 0 [] 0 0 false [] [] 0 0 0 0 v.2.1 v.1 =
  some (oS (bif (nQ (dQ v.2.1) d).2 != 0 then (lk,((nQ (dQ v.2.1) d).1,fR (nQ (dQ v.2.1) d).2)) else xy v (cW (kB d (dQ v.2.1))).2 (nQ (dQ v.2.1) d).1 (rL (nQ (dQ v.2.1) d).1 v.2.1) (bif rX (nQ (dQ v.2.1) d).1 (v.2.1.getD 0 0) then v.2.1.getD 0 0 else 0))):=fun n=>by
  simp only [b7.l0,b7.b0]
  rw [aP (by omega),aM,bG hk,aO]
  simp only []
  rw [show (d.1,(d.2.1,(d.2.2.1,(d.2.2.2.1,()))))=d from rfl,gB hk (by omega) (by omega) (by omega),aO]
  simp only [show (aV d (aA aI (dQ v.2.1))).1=kB d (dQ v.2.1) from rfl]
  rw [m8 hk (by omega),aO,kI k h.sz,aO,EE]
  simp only []
  show (bif decide ((cW (kB d (dQ v.2.1))).2<((kB d (dQ v.2.1)).size:Int)) then _ else _)=_
  unfold nQ
  cases decide ((cW (kB d (dQ v.2.1))).2<((kB d (dQ v.2.1)).size:Int)) with
  | true =>
   simp only [aX]
   simp only [aO]
   rw [Cu hk h.sz,aO]
   simp only [cp,aO]
   unfold d7
   simp only [bne]
   show (bif !((Ca d (aA aI (dQ v.2.1)) (cW (kB d (dQ v.2.1))).2).2==0) then _ else _)=_
   have h1:=Gn h (aA aI (dQ v.2.1)) (cW (kB d (dQ v.2.1))).2
   generalize Ca d (aA aI (dQ v.2.1)) (cW (kB d (dQ v.2.1))).2=r at h1
   cases c:r.2==0 with
   | false=>simp only [tI,aX,aM,c];rfl
   | true =>
    simp only [ft,aM,aX]
    rw [kn hk h1.sz,aO]
    simp only []
    have h2:=nB h1 (aA aI (dQ v.2.1))
    generalize iq r.1 (aA aI (dQ v.2.1))=q at h2
    cases c2:q.2==0 with
    | false=>rfl
    | true =>
     simp only [ft,aM]
     exact vf hk hv2 hv1 _ h2
  | false =>
   simp only [aM]
   simp only [aO]
   rw [kn hk h.sz,aO]
   simp only [cp,aO]
   unfold d7
   simp only [bne,show ((0:Int)==0)=true from rfl,aX]
   have h2:=nB h (aA aI (dQ v.2.1))
   generalize iq d (aA aI (dQ v.2.1))=q at h2
   cases c2:q.2==0 with
   | false=>rfl
   | true =>
    simp only [ft,aM]
    exact vf hk hv2 hv1 _ h2
 unfold zX
 refine (dZ (L:=fun n i (_:Unit)=>b7.l0 k n (dQ v.2.1) i d.1 d.2.1 d.2.2.1 d.2.2.2.1 [] [] 0 0 0 0 [] 0 0 false [] [] 0 0 0 0 v.2.1 v.1) (R:=fun r _=>bif n6 d r then some (oS (bif (nQ (dQ v.2.1) d).2 != 0 then (lk,((nQ (dQ v.2.1) d).1,fR (nQ (dQ v.2.1) d).2)) else xy v (cW (kB d (dQ v.2.1))).2 (nQ (dQ v.2.1) d).1 (rL (nQ (dQ v.2.1) d).1 v.2.1) (bif rX (nQ (dQ v.2.1) d).1 (v.2.1.getD 0 0) then v.2.1.getD 0 0 else 0))) else some (oS (lk,(d,3)))) (Ty.dflt (.int .i64)) v.2.1 (fun _ _=>True) (fun n _ _=>hfin n) (fun n i _ y rest h0 h1 hy hr hp ih=>?_) (n:=k) (s:=()) (by omega) trivial).trans (by cases n6 d v.2.1 <;> rfl)
 have ih:=ih () trivial
 have hsy:=oc h y
 have hlast:=Ho hrise hr
 simp only [b7.l0,b7.b0]
 rw [aN h1,aX,aG h0 h1,hy,bG hk,aO]
 simp only []
 rw [show (d.1,(d.2.1,(d.2.2.1,(d.2.2.2.1,()))))=d from rfl,gB hk (by omega) (by omega) (by omega),aO]
 simp only []
 rw [m8 hk (by show (kB d y).size≤_;omega),aO,kI k h.sz,aO,aG h0 h1,aC (n:=i+1) (by omega) (by omega),ih]
 rw [show n6 d (y::rest)=(A5 d y rest.isEmpty&&n6 d rest) from rfl]
 unfold A5 bne
 rw [hlast]
 show (bif !(aV d (aA aI y)).2 then _ else bif !rest.isEmpty then (bif decide ((cW (kB d y)).2<((kB d y).size:Int)) then _ else _) else _)=_
 cases (aV d (aA aI y)).2 with
 | false=>rfl
 | true =>
  cases rest.isEmpty with
  | true=>rfl
  | false=>cases decide ((cW (kB d y)).2<((kB d y).size:Int)) <;> rfl
theorem Bu {k:Nat} (hk:2 ^ 50≤k) {d:Ty.den a_} (hd:ta d):b7.f k d=some (oS (nX d)):=by
 have hl:=hd.l
 have hu:=hd.u
 have hn:=hd.n
 unfold b7.f b7.t nX
 rw [kx hk (by omega) (by omega),aO,kI k hd]
 cases c:gw d with
 | false=>rfl
 | true =>
  have h:=jh.1 c
  simp only [ft,aM,aO]
  cases cdn:d.2.2.2.1 with
  | true=>rfl
  | false =>
   simp only [aM]
   rw [show (⟨#[108,105,118,101]⟩:ByteArray)=iy from rfl,gB hk (by omega) (by omega) (by omega),aO]
   simp only []
   cases (aV d iy).2 with
   | false =>
    simp only [tI,aX]
    rw [zi hk h]
    rfl
   | true =>
    have hz:=eL d iy
    simp only [ft,aM]
    rw [ux hk (by omega),aO]
    simp only []
    rcases km (fun v=>d5 v=true) ae ((0,([],())):Ty.den bE) (aV d iy).1 with ⟨v,h1,_,e⟩ | e
    · rw [show fK (aV d iy).1=(v,true) from e]
      simp only [ft,aM]
      obtain ⟨_,_,hv1,hv2,_⟩:=dW (nx:=v.1) (ids:=v.2.1) h1
      have w:aH ((v.2.1.length:Int)-1)=((v.2.1.length-1:Nat):Int):=by rw [aC (by omega) (by omega)];omega
      rw [w,ng,aG (by omega) (by omega)]
      have:=JB hk h1 h
      rw [cdn] at this
      exact this
    · rw [show fK (aV d iy).1=((0,([],())),false) from e]
      rfl
end Go.Proofs.YtohaanhjddohmaaGreatDoor.G
namespace Go.Proofs.YtohaanhjddohmaaGreatDoor.G
open Go.V
theorem Em (v:Ty.den bE) (en:Int) {x:Ty.den a_} (h:DR x) {g:Ty.den kO} (hg:g.1.length≤268435456) (hi:Int):DR (xy v en x g hi).2.1∧(xy v en x g hi).1.2.1.length≤268435456:=by
 have hs:=vW v.2.1 x h
 unfold xy
 cases g.2.2.1 != 0 with
 | true=>exact ⟨h,Nat.zero_le _⟩
 | false =>
  cases (mF v.2.1 x).2 != 0 with
  | true=>exact ⟨hs,Nat.zero_le _⟩
  | false=>exact ⟨hs,hg⟩
theorem Ey {x:Ty.den a_} (h:DR x) {ids:List Int} (hl:ids.length≤60):(rL x ids).1.length≤268435456:=by
 have hpa:=oI h (ids.drop 1)
 have hpb:=oI h ids
 rw [List.length_drop] at hpa
 have hh:=sA (s:=(aV x (aA bg (ids.getD 0 0))).1)
 unfold rL
 cases rX x (ids.getD 0 0)
 · exact tB (by omega) (by simp)
 · exact tB (by omega) (by show (tM x (ids.getD 0 0)).2.2.1.length≤_;unfold tM;omega)
theorem Cd {d:Ty.den a_} (h:DR d):DR (nX d).2.1∧(nX d).1.2.1.length≤268435456:=by
 unfold nX
 rw [jh.2 h]
 simp only [ft,aM]
 cases d.2.2.2.1 with
 | true=>exact ⟨h,Nat.zero_le _⟩
 | false =>
  simp only [aM]
  cases (aV d iy).2 with
  | false =>
   simp only [tI,aX]
   have hf:DR (nt d).1:=iJ (iJ (vW [] d h) fun x hx=>A7 hx _) (lX yg)
   unfold oi
   cases (nt d).2==0 with
   | true=>exact ⟨hf,Nat.zero_le _⟩
   | false=>exact ⟨hf,Nat.zero_le _⟩
  | true =>
   simp only [ft,aM]
   rcases km (fun v=>d5 v=true) ae ((0,([],())):Ty.den bE) (aV d iy).1 with ⟨v,h1,_,e⟩ | e
   · rw [show fK (aV d iy).1=(v,true) from e]
     obtain ⟨_,_,hv1,hv2,_⟩:=dW (nx:=v.1) (ids:=v.2.1) h1
     simp only [ft,aM]
     have fx:=J9 (dQ v.2.1) h
     unfold zX
     cases n6 d v.2.1 with
     | false=>exact ⟨h,Nat.zero_le _⟩
     | true =>
      simp only [ft,aM]
      cases (nQ (dQ v.2.1) d).2 != 0 with
      | true=>exact ⟨fx,Nat.zero_le _⟩
      | false=>exact Em v _ fx (Ey fx hv2) _
   · rw [show fK (aV d iy).1=((0,([],())),false) from e]
     exact ⟨h,Nat.zero_le _⟩
end Go.Proofs.YtohaanhjddohmaaGreatDoor.G
namespace Go.Proofs.YtohaanhjddohmaaGreatDoor.G
open Go.V
theorem Bf (k:Nat) {n:Int} (h0:0≤n) (h1:n≤100000):er.f k n=some (([],(n,(-1,(false,())))),()):=by
 unfold er.f er.t
 rw [fz,aO,aN ⟨h0,h1⟩]
 rfl
def qv (n:Int):Ty.den a_:=([],(n,(-1,(false,()))))
theorem AL {n:Int} (h0:0≤n) (h1:n≤100000):DR (qv n) :=
 ⟨Nat.zero_le _,h0,h1,show LE.le (α:=Int) (-1) (-1) from Int.le_refl _,show LE.le (α:=Int) (-1) 100000 by decide,h0,fun f hf=>(by cases hf),List.Pairwise.nil⟩
theorem CL {st:Ty.den aE} {d:Ty.den a_} {l:qw} (h:SR st (d,0) 100000) (hp:mL l=true) (hd:st.2.1.length≤20) :
 DR (n9 st d l).2.1∧(n9 st d l).1.1.2.1.length≤60∧(n9 st d l).1.2.1.length≤268435456:=by
 have h8:=rS hp
 obtain ⟨g1,g2,g3⟩:=rU (xB l st.2.2.1) (AE st) d [] 100000 ⟨h.live,h.disk,h.lo,h.hi⟩ (by decide)
 unfold n9
 generalize jN (xB l st.2.2.1) (AE st) d []=q at g1 g2 g3 ⊢
 have e2:q.1.1.2.1=st.2.1:=g2
 obtain ⟨_,_,_,hi,_⟩:=dW (nx:=q.1.1.1.1) (ids:=q.1.1.1.2.1) g1.live
 have hs:=nB g1.disk (il q.1.1)
 unfold ug
 cases q.1.2.2 != 0 with
 | true=>exact ⟨g1.disk,hi,by show q.1.1.2.1.length≤_;rw [e2];omega⟩
 | false =>
  simp only [aM]
  generalize iq q.1.2.1 (il q.1.1)=y at hs ⊢
  cases y.2 != 0 with
  | true=>exact ⟨hs,hi,by show q.1.1.2.1.length≤_;rw [e2];omega⟩
  | false =>
   refine ⟨hs,hi,?_⟩
   show (gD q.1.1.2.1 (q.2.take l.length)).length≤_
   have:=oo (q.2.take l.length) q.1.1.2.1
   rw [e2] at this ⊢
   rw [List.length_take] at this
   omega
structure RR (q:Ty.den aE × RD):Prop where
 disk:DR q.2.1
 ids:q.1.1.2.1.length≤60
 dir:q.1.2.1.length≤268435456
theorem GF {n:Int} (h0:0≤n) (h1:n≤100000):RR (nX (qv n)):=by
 have hd:=AL h0 h1
 obtain ⟨g1,g2⟩:=Cd hd
 refine ⟨g1,?_,g2⟩
 unfold nX
 have e:(aV (qv n) iy).2=false:=by unfold aV;rw [jh.2 hd];rfl
 rw [jh.2 hd,e]
 show (oi (qv n)).1.1.2.1.length≤60
 unfold oi
 cases (nt (qv n)).2==0
 · exact Nat.zero_le _
 · show 1≤60
   decide
end Go.Proofs.YtohaanhjddohmaaGreatDoor.G
namespace Go.Proofs.YtohaanhjddohmaaGreatDoor.G
open Go.V
def nC:bD→Int
 | []=>0
 | p::l=>p.2.2.1+nC l
def ut (l:aY):Prop:=∀ e ∈ l,LE.le (α:=Int) 0 e.2.2.2.1
def Ch (l:bD):Prop:=∀ p ∈ l,LE.le (α:=Int) 0 p.2.2.1
theorem md (e:Ty.den aB) (l:aY):gy (e::l)=e.2.2.2.1+gy l:=rfl
theorem vV:∀ l m:aY,gy (l++m)=gy l+gy m
 | [],m=>by rw [List.nil_append,gy,Int.zero_add]
 | e::l,m=>by rw [List.cons_append,md,md,vV l m,Int.add_assoc]
theorem nN (p:Ty.den aD) (l:bD):nC (p::l)=p.2.2.1+nC l:=rfl
theorem tL:∀ l m:bD,nC (l++m)=nC l+nC m
 | [],m=>by rw [List.nil_append,nC,Int.zero_add]
 | p::l,m=>by rw [List.cons_append,nN,nN,tL l m,Int.add_assoc]
theorem tS:∀ {l:bD},Ch l→0≤nC l
 | [],_=>Int.le_refl _
 | p::l,h=>by
  have h1:=h p oE
  have h2:=tS (l:=l) fun q hq=>h q (qy _ hq)
  rw [nN]
  omega
theorem Dd {l:bD} (h:Ch l) (n:Nat):nC (l.take n)≤nC l:=by
 have e:=tL (l.take n) (l.drop n)
 rw [List.take_append_drop] at e
 have:=tS (l:=l.drop n) fun q hq=>h q (List.mem_of_mem_drop hq)
 omega
theorem u0 (key:ByteArray):∀ {l:aY},ut l→gy (kT l key)≤gy l∧ut (kT l key)
 | [],h=>⟨Int.le_refl _,h⟩
 | e::l,h=>by
  have h1:=h e oE
  obtain ⟨i1,i2⟩:=u0 key (l:=l) fun q hq=>h q (qy _ hq)
  unfold kT at i1 i2 ⊢
  rw [List.filter_cons]
  cases !(seq e.1 key) with
  | true =>
   rw [if_pos rfl,md,md]
   refine ⟨by omega,fun q hq=>?_⟩
   rcases List.mem_cons.1 hq with w | w
   · rw [w];exact h1
   · exact i2 q w
  | false =>
   rw [if_neg (by decide),md]
   exact ⟨by omega,i2⟩
theorem Fc (l:aY) (e:Ty.den aB):gy (we l e)=gy l+e.2.2.2.1:=by
 unfold we
 have h:=congrArg gy (List.takeWhile_append_dropWhile (p:=JV e.1) (l:=l))
 rw [vV] at h
 rw [vV,md]
 omega
theorem Hs {l:aY} {e x:Ty.den aB} (h:x ∈ we l e):x=e∨x ∈ l:=by
 unfold we at h
 rcases List.mem_append.1 h with w | w
 · exact .inr (List.takeWhile_subset _ w)
 · rcases List.mem_cons.1 w with w | w
   · exact .inl w
   · exact .inr (List.dropWhile_subset _ w)
theorem FF {d:aY} {p:Ty.den aD} (h:ut d) (hp:LE.le (α:=Int) 0 p.2.2.1):gy (k0 d p)≤gy d+p.2.2.1∧ut (k0 d p):=by
 unfold k0
 cases p.2.2.2.1.1==2 with
 | true =>
  obtain ⟨i1,i2⟩:=u0 p.2.2.2.1.2.2.1 h
  exact ⟨by simp only [aX];omega,i2⟩
 | false =>
  obtain ⟨i1,i2⟩:=u0 (zx p).1 h
  simp only [aM]
  unfold xY
  rw [Fc]
  refine ⟨?_,fun q hq=>?_⟩
  · exact Int.add_le_add_right i1 _
  · rcases Hs hq with w | w
    · rw [w];exact hp
    · exact i2 q w
theorem wa:∀ (ps:bD) (d:aY),ut d→Ch ps→gy (gD d ps)≤gy d+nC ps∧ut (gD d ps)
 | [],d,h,_=>⟨by show gy d≤gy d+0;omega,h⟩
 | p::ps,d,h,hp=>by
  obtain ⟨i1,i2⟩:=FF h (hp p oE)
  obtain ⟨j1,j2⟩:=wa ps (k0 d p) i2 fun q hq=>hp q (qy _ hq)
  rw [nN]
  refine ⟨?_,j2⟩
  show gy (gD (k0 d p) ps)≤_
  omega
theorem An:∀ (l:nK) (st:Ty.den aE) (d:Ty.den a_) (ps:bD) (B:Int),SR st (d,0) B→0≤B→Ch ps →
 (iG d st.1.2.1:Int)+nC (jN l st d ps).2≤(iG (jN l st d ps).1.2.1 (jN l st d ps).1.1.1.2.1:Int)+nC ps∧Ch (jN l st d ps).2
 | [],st,d,ps,B,h,_,hp=>⟨Int.le_refl _,hp⟩
 | r::l,st,d,ps,B,h,hB,hp=>by
  obtain ⟨g1,g2,g3⟩:=qd h hB r
  obtain ⟨s1,s2⟩:=Hm (d:=d) h.live h.disk r
  have hr:=ky r
  unfold jN
  generalize jT st d r=q at g1 g2 g3 s1 s2 ⊢
  cases c:q.1.2.2 != 0 with
  | true =>
   simp only [aX]
   have:(0:Int)≤(if q.1.2.2=0 then bH r else 0):=by split <;> omega
   exact ⟨by omega,hp⟩
  | false =>
   have e0:=jb c
   rw [if_pos e0] at s1
   have e1:=s2 e0
   have hp':Ch (ps++[q.2]):=fun x hx=>by
    rcases List.mem_append.1 hx with w | w
    · exact hp x w
    · rw [List.mem_singleton.1 w]
      show LE.le (α:=Int) 0 q.2.2.2.1
      rw [e1]
      exact hr.1
   obtain ⟨i1,i2⟩:=An l q.1.1 q.1.2.1 (ps++[q.2]) (B+211) ⟨g1.live,g1.disk,g1.lo,g1.hi⟩ (by omega) hp'
   simp only [aM]
   refine ⟨?_,i2⟩
   rw [tL] at i1
   have e2:nC [q.2]=bH r:=by rw [nN,e1];show bH r+0=_;omega
   omega
structure IV (q:Ty.den aE × RD):Prop where
 disk:DR q.2.1
 ids:q.1.1.2.1.length≤60
 dir:q.1.2.1.length≤268435456
 non:ut q.1.2.1
 sum:gy q.1.2.1≤(iG q.2.1 q.1.1.2.1:Int)
theorem Fl {st:Ty.den aE} {d:Ty.den a_} {l:qw} {c:Int} (h:IV (st,(d,c))) (hs:SR st (d,0) 100000) (hp:mL l=true) (hd:st.2.1.length≤20):IV (n9 st d l):=by
 obtain ⟨w1,w2,w3⟩:=CL hs hp hd
 have hb:SR (AE st) (d,0) 100000:=⟨hs.live,hs.disk,hs.lo,hs.hi⟩
 obtain ⟨g1,g2,g3⟩:=rU (xB l st.2.2.1) (AE st) d [] 100000 hb (by decide)
 obtain ⟨s1,s2⟩:=An (xB l st.2.2.1) (AE st) d [] 100000 hb (by decide) (fun x hx=>by cases hx)
 refine ⟨w1,w2,w3,?_,?_⟩
 all_goals
  have hsum:gy st.2.1≤(iG d st.1.2.1:Int):=h.sum
  have hnon:ut st.2.1:=h.non
  unfold n9
  generalize jN (xB l st.2.2.1) (AE st) d []=q at g1 g2 g3 s1 s2 ⊢
  have e2:q.1.1.2.1=st.2.1:=g2
  have s1:(iG d st.1.2.1:Int)+nC q.2≤(iG q.1.2.1 q.1.1.1.2.1:Int)+0:=s1
  have s3:=tS s2
  have s4:=Dd s2 l.length
  have st2:Ch (q.2.take l.length):=fun x hx=>s2 x (List.mem_of_mem_take hx)
  obtain ⟨a1,a2⟩:=wa (q.2.take l.length) st.2.1 hnon st2
  unfold ug
  cases q.1.2.2 != 0 with
  | true =>
   first
   | (show ut q.1.1.2.1;rw [e2];exact hnon)
   | (show gy q.1.1.2.1≤(iG q.1.2.1 q.1.1.1.2.1:Int);rw [e2];omega)
  | false =>
   have k1:iG (iq q.1.2.1 (il q.1.1)).1 q.1.1.1.2.1=iG q.1.2.1 q.1.1.1.2.1:=jU fun x hx=>tq
   simp only [aM]
   generalize iq q.1.2.1 (il q.1.1)=y at k1 ⊢
   cases y.2 != 0 with
   | true =>
    first
    | (show ut q.1.1.2.1;rw [e2];exact hnon)
    | (show gy q.1.1.2.1≤(iG y.1 q.1.1.1.2.1:Int);rw [e2,k1];omega)
   | false =>
    first
    | (show ut (gD q.1.1.2.1 (q.2.take l.length));rw [e2];exact a2)
    | (show gy (gD q.1.1.2.1 (q.2.take l.length))≤(iG y.1 q.1.1.1.2.1:Int);rw [e2,k1];omega)
theorem F1 {st:Ty.den aE} {d:Ty.den a_} {c:Int} (l:qw) (h:IV (st,(d,c))):IV (kc st d l):=by
 have same:∀ z:Int,IV (st,(d,z)):=fun z=>⟨h.disk,h.ids,h.dir,h.non,h.sum⟩
 unfold kc
 cases c1:gE st d with
 | false=>exact same _
 | true =>
  simp only [ft,aM]
  cases c2:mL l with
  | false=>exact same _
  | true =>
   simp only [ft,aM]
   cases (l.length:Int)==0 with
   | true=>exact same _
   | false =>
    cases decide (rR st.2.1 l > 20) with
    | true=>exact same _
    | false =>
     cases decide (st.2.2.1 > (1000000:Int)) with
     | true=>exact same _
     | false=>exact Fl h (jF c1).1 c2 (jF c1).2.1
theorem HK {n:Int} (h0:0≤n) (h1:n≤100000):IV (nX (qv n)):=by
 have hr:=GF h0 h1
 have hd:=AL h0 h1
 have e:nX (qv n)=oi (qv n):=by
  unfold nX
  have e:(aV (qv n) iy).2=false:=by unfold aV;rw [jh.2 hd];rfl
  rw [jh.2 hd,e]
  rfl
 refine ⟨hr.disk,hr.ids,hr.dir,?_,?_⟩
 · rw [e]
   unfold oi
   cases (nt (qv n)).2==0 <;> exact fun x hx=>by cases hx
 · rw [e]
   unfold oi
   cases (nt (qv n)).2==0
   · exact Int.le_refl _
   · exact Int.ofNat_le.2 (Nat.zero_le _)
end Go.Proofs.YtohaanhjddohmaaGreatDoor.G
namespace Go.Proofs.YtohaanhjddohmaaGreatDoor.G
open Go.V
def mX (l:gu) (mark:Int):Int:=((bj (fq l mark)).size:Int)
theorem qO (r:Ty.den ax) (l:nK):(bj (r::l)).size=(aT (aJ r)).size+(bj l).size:=by rw [bj,ByteArray.size_append]
theorem xz {k:Nat} (hk:2 ^ 50≤k) {l:gu} (hl:l.length≤1048576) (mark:Int):d8.f k l mark=some (mX l mark,()):=by
 unfold d8.f d8.t mX
 rw [sd hk (by omega),aO]
 have hz:(fq l mark).length=l.length+1:=by unfold fq;rw [cB,List.length_map]
 refine (dZ (L:=fun n i s=>d8.l0 k n s (fq l mark).length i (fq l mark)) (R:=fun r s=>some (s+((bj r).size:Int),())) (Ty.dflt ax) (fq l mark) (fun i s=>0≤s∧s≤211*i) (fun n s hs=>?_) (fun n i s x rest h0 h1 hx hr hp ih=>?_) (n:=k) (s:=0) (by omega) ⟨by simp,by simp⟩).trans (by rw [Int.zero_add])
 · simp (disch:=omega) only [d8.l0,d8.b0,aP,aM]
   show some (s,())=some (s+((0:Nat):Int),())
   rw [show s+((0:Nat):Int)=s by omega]
 · have hf:=j9 (aJ x)
   have ih:=ih (s+((aT (aJ x)).size:Int)) ⟨by omega,by omega⟩
   simp (disch:=omega) only [d8.l0,d8.b0,aN h1,aX,aG,hx,mw hk,mR hk,aO,aC,ih]
   have hc:=qO x rest
   congr 2
   omega
noncomputable def BO (st:Ty.den aE) (d:Ty.den a_):Int :=
 bif (cR st.2.1 d).2 != 0 then 0 else bif !gE st d then 0 else aH ((ja d 60 st.1.2.1:Int)-mX (cR st.2.1 d).1 (aH (st.2.2.1-1)))
theorem p6 {st:Ty.den aE} {d:Ty.den a_} (c:gE st d=true):st.2.1.length≤20:=by
 unfold gE nP at c
 simp only [j6,decide_eq_true_eq] at c
 omega
theorem Az {k:Nat} (hk:2 ^ 50≤k) {st:Ty.den aE} {d:Ty.den a_} (hd:ta d) (hv:st.1.2.1.length≤1048576) (hw:st.2.1.length≤1099511627775):gg.f k st d=some (BO st d,()):=by
 have:=hd.l;have:=hd.u;have:=hd.n
 have hl:=jZ st.2.1 d
 unfold gg.f gg.t BO
 rw [uL hk hd (by omega),aO]
 simp only []
 cases (cR st.2.1 d).2 != 0 with
 | true=>rfl
 | false =>
  rw [aM,aM,t_ hk hd (by omega) (by omega),aO]
  cases c:gE st d with
  | false=>rfl
  | true =>
   have:=p6 c
   rw [ft,aM,aM,uo hk (by omega) (by omega) (by omega) (by omega),aO,xz hk (by omega),aO]
end Go.Proofs.YtohaanhjddohmaaGreatDoor.G
namespace Go.Proofs.YtohaanhjddohmaaGreatDoor.G
open Go.V
def uE (nm:ByteArray):nK→RD→RD
 | [],r=>r
 | x::l,r=>uE nm l (d7 r fun y=>h_ y nm (aT (aJ x)))
def fW (m:Int) (l:gu) (mark:Int) (d:Ty.den a_):RD:=d7 (uE (aA aI m) (fq l mark) (bY (aA aI m) d)) fun y=>iq y (aA aI m)
def i8 (m:Int):gu→Int→aY
 | [],_=>[]
 | p::l,at_=>(p.1,(m,(at_,(bH (bU p),(p.2.2.1,())))))::i8 m l (at_+bH (bU p))
def kg (ns:List ByteArray) (r:RD):RD:=bif r.2==2 then ((cD ns r.1).1,bif (cD ns r.1).2==0 then 2 else fR (cD ns r.1).2) else r
def ig (m:Int):List ByteArray:=[iu,aA aI m,aA aI (m+1),aA bg m]
def oY:List Int→Ty.den a_→RD
 | [],d=>(d,0)
 | x::l,d=>d7 (cD [aA aI x,aA bg x] d) (oY l)
def pk (st:Ty.den aE):Ty.den aE:=((st.1.1+2,st.1.2),st.2)
def g9 (m:Int):Ty.den bE:=(m+2,([m,m+1],()))
def kM (hb:ByteArray→ByteArray) (m:Int) (d:Ty.den a_):RD :=
 bif (l7 (aA bg m) (hb (aV d (aA aI m)).1) d).2==2 then cD [aA bg m] (l7 (aA bg m) (hb (aV d (aA aI m)).1) d).1 else l7 (aA bg m) (hb (aV d (aA aI m)).1) d
def dy (hb:ByteArray→ByteArray) (st:Ty.den aE) (d:Ty.den a_) (l:gu):Ty.den aE × RD :=
 bif (fW st.1.1 l (st.2.2.1-1) d).2 != 0 then (pk st,kg (ig st.1.1) (tl (fW st.1.1 l (st.2.2.1-1) d))) else
 bif (bY (aA aI (st.1.1+1)) (fW st.1.1 l (st.2.2.1-1) d).1).2 != 0 then (pk st,kg (ig st.1.1) (tl (bY (aA aI (st.1.1+1)) (fW st.1.1 l (st.2.2.1-1) d).1))) else
 bif (kM hb st.1.1 (bY (aA aI (st.1.1+1)) (fW st.1.1 l (st.2.2.1-1) d).1).1).2 != 0 then (pk st,tl (kM hb st.1.1 (bY (aA aI (st.1.1+1)) (fW st.1.1 l (st.2.2.1-1) d).1).1)) else
 bif (cV (g9 st.1.1) (kM hb st.1.1 (bY (aA aI (st.1.1+1)) (fW st.1.1 l (st.2.2.1-1) d).1).1).1).2 != 0 then
  (pk st,kg (ig st.1.1) (tl (cV (g9 st.1.1) (kM hb st.1.1 (bY (aA aI (st.1.1+1)) (fW st.1.1 l (st.2.2.1-1) d).1).1).1))) else
 ((g9 st.1.1,(i8 st.1.1 l 0,(st.2.2.1,(0,(0,()))))),tl (oY st.1.2.1 (cV (g9 st.1.1) (kM hb st.1.1 (bY (aA aI (st.1.1+1)) (fW st.1.1 l (st.2.2.1-1) d).1).1).1).1))
theorem th {s:ByteArray} {d:Ty.den a_} (h:(bY s d).2=0):fT (bY s d).1 s=some ByteArray.empty:=by
 unfold bY at h ⊢
 unfold d7 at h ⊢
 cases c:(iI s d).2==0 with
 | false =>
  rw [c,aM] at h
  rw [h] at c
  cases c
 | true =>
  rw [c,aX] at h
  rw [aX]
  obtain ⟨c1,c2⟩:=tZ (d:=(iI s d).1) (g:=wq s) h
  unfold fT
  show (bq (iR (iI s d).1 (wq s)).1.1 s).map _=_
  rw [c2]
  unfold wq at c1 ⊢
  cases c3:jc s with
  | false=>rw [c3] at c1;cases c1
  | true =>
   rw [c3] at c1
   simp only [ft,aM] at c1 ⊢
   cases c4:(bq (iI s d).1.1 s) with
   | some f=>rw [c4] at c1;cases c1
   | none =>
    rw [c4] at c1
    simp only [Option.isSome_none,aM] at c1 ⊢
    cases c5:decide (((iI s d).1.1.length:Int)≥130) with
    | true=>rw [c5] at c1;cases c1
    | false =>
     simp only [aM]
     rw [Aa (f:=(s,(ByteArray.empty,(0,())))) c4,cY]
     rfl
theorem rJ (nm:ByteArray):∀ (l:nK) (r:RD),r.2≠0→uE nm l r=r
 | [],_,_=>rfl
 | x::l,r,h=>by
  unfold uE
  have e:d7 r (fun y=>h_ y nm (aT (aJ x)))=r:=by
   unfold d7
   rw [mJ h]
   rfl
  rw [e]
  exact rJ nm l r h
theorem H5 (nm:ByteArray):∀ (l:nK) (r:RD) (x:ByteArray),fT r.1 nm=some x→(uE nm l r).2=0→fT (uE nm l r).1 nm=some (x++bj l)
 | [],r,x,h,_=>by
  show fT r.1 nm=some (x++⟨#[]⟩)
  rw [h,show x++(⟨#[]⟩:ByteArray)=x from Cz x]
 | a::l,r,x,h,z=>by
  unfold uE at z ⊢
  by_cases c:(d7 r (fun y=>h_ y nm (aT (aJ a)))).2=0
  · obtain ⟨c1,c2,c3⟩:=mb c
    have c3:(h_ r.1 nm (aT (aJ a))).2=0:=c3
    have e:fT (d7 r (fun y=>h_ y nm (aT (aJ a)))).1 nm=some (x++aT (aJ a)):=by
     rw [c2]
     have:=A4 (d:=r.1) (s:=nm) (x:=aT (aJ a))
     rw [c3,h] at this
     exact this
    rw [H5 nm l _ _ e z]
    show some (x++aT (aJ a)++bj l)=some (x++(aT (aJ a)++bj l))
    rw [sF]
  · rw [rJ nm l _ c] at z
    exact absurd z c
theorem IC {nm t:ByteArray} (h:nm≠t):∀ (l:nK) (r:RD),fT (uE nm l r).1 t=fT r.1 t
 | [],_=>rfl
 | a::l,r=>by
  show fT (uE nm l (d7 r fun y=>h_ y nm (aT (aJ a)))).1 t=_
  rw [IC h l]
  exact nk rfl fun y=>DZ h
theorem Gi {m:Int} {l:gu} {mark:Int} {d:Ty.den a_} {t:ByteArray} (h:aA aI m≠t):fT (fW m l mark d).1 t=fT d t :=
 nk ((IC h _ _).trans (pc h)) fun y=>tq
theorem zN {hb:ByteArray→ByteArray} {m:Int} {d:Ty.den a_} {t:ByteArray} (h:aA bg m≠t):fT (kM hb m d).1 t=fT d t:=by
 unfold kM
 cases (l7 (aA bg m) (hb (aV d (aA aI m)).1) d).2==2 with
 | false=>exact zk h
 | true =>
  refine (qH _ _ fun s hs=>?_).trans (zk h)
  rw [List.mem_singleton.1 hs]
  exact h
theorem zE {t:ByteArray}:∀ (l:List Int) (d:Ty.den a_),(∀ x ∈ l,aA aI x≠t∧aA bg x≠t)→fT (oY l d).1 t=fT d t
 | [],_,_=>rfl
 | x::l,d,h=>by
  show fT (d7 (cD [aA aI x,aA bg x] d) (oY l)).1 t=_
  refine nk (qH _ _ fun s hs=>?_) fun y=>zE l y fun z hz=>h z (qy _ hz)
  have:=h x oE
  rcases List.mem_cons.1 hs with e | e
  · rw [e];exact this.1
  · rw [List.mem_singleton.1 e];exact this.2
theorem ye (m:Int):∀ (l:gu) (a:Int),gy (i8 m l a)=((bj (l.map bU)).size:Int)∧ut (i8 m l a)
 | [],_=>⟨rfl,fun x hx=>by cases hx⟩
 | p::l,a=>by
  obtain ⟨i1,i2⟩:=ye m l (a+bH (bU p))
  have hr:=ky (bU p)
  refine ⟨?_,fun x hx=>?_⟩
  · show bH (bU p)+gy (i8 m l (a+bH (bU p)))=_
    rw [i1,List.map_cons,qO]
    unfold bH
    omega
  · rcases List.mem_cons.1 hx with e | e
    · rw [e];exact hr.1
    · exact i2 x e
end Go.Proofs.YtohaanhjddohmaaGreatDoor.G

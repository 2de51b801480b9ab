/- Plain laws, merged; what is proved here is told ahead of each part. -/
import Derived.Test.YtohaanhjddohmaaGreatDoorZC1
set_option linter.unusedVariables false
set_option linter.unusedSimpArgs false
namespace Go.Proofs.YtohaanhjddohmaaGreatDoor.G
open Go.V
def bz:ByteArray:=⟨#[104,105,110,116]⟩
theorem iD {k:Nat} (hk:2 ^ 50≤k) (n:Int):bo.f k n=some (aB bz n,()):=by
 unfold bo.f bo.t aB
 rw [gS,aO]
 by_cases c:(1:Int)≤n∧n≤100000
 · have hz:=lJ (n:=n) (by omega) (by omega)
   rw [aP c]
   simp only [fV,aN,aZ]
   rw [np hk (by omega) (by omega),aO,dW (by show 4+(fy n).size≤_;omega)]
   rfl
 · rw [aQ c]
   rfl
def HU (s:ByteArray) (n:Int):Prop:=1≤n∧n≤100000∧(s=aK++fy n∨s=bz++fy n)
theorem wJ (a b:ByteArray):aK++a≠bz++b:=fun h=>by
 have:=congrArg nb h
 rw [iL,iL,show nb aK=[115,101,103] from rfl,show nb bz=[104,105,110,116] from rfl] at this
 simp at this
theorem Es {s:ByteArray} {n m:Int} (h:HU s n) (g:HU s m):n=m:=by
 rcases h.2.2 with h1 | h1 <;> rcases g.2.2 with g1 | g1
 · exact y_ (sL (h1.symm.trans g1))
 · exact absurd (h1.symm.trans g1) (wJ _ _)
 · exact absurd (g1.symm.trans h1) (wJ _ _)
 · exact y_ (sL (h1.symm.trans g1))
theorem Ey {s:ByteArray} {n:Int} (hs:0<s.size) (h:(seq (aB aK n) s||seq (aB bz n) s)=true):HU s n:=by
 unfold aB at h
 by_cases c:(1:Int)≤n∧n≤100000
 · rw [aP c,Bool.or_eq_true] at h
   exact ⟨c.1,c.2,h.imp (fun q=>(dY.1 q).symm) (fun q=>(dY.1 q).symm)⟩
 · rw [aQ c,Bool.or_eq_true] at h
   rcases h with q | q
   · rw [← dY.1 q] at hs;exact absurd hs (Nat.lt_irrefl 0)
   · rw [← dY.1 q] at hs;exact absurd hs (Nat.lt_irrefl 0)
theorem FC {s:ByteArray} {n:Int} (h:HU s n):(seq (aB aK n) s||seq (aB bz n) s)=true:=by
 obtain ⟨h0,h1,h2⟩:=h
 unfold aB
 rw [aP ⟨h0,h1⟩,Bool.or_eq_true]
 exact h2.imp (fun q=>dY.2 q.symm) (fun q=>dY.2 q.symm)
noncomputable def BL (s:ByteArray):Int × Bool:=od (HU s) (fun _=>s) 0 s
theorem CU (n:Int):0<(fy n).size:=by
 rw [← cX,qB]
 split
 · rw [lM];omega
 · rw [List.length_map]
   exact List.length_pos_iff.2 (my _)
theorem uV (s:ByteArray) (n:Nat):(ByteArray.extract s n s.size).size=s.size-n:=by rw [← cX,iy,List.length_drop,cX]
noncomputable def wn (s:ByteArray) (i:Nat):Bool :=
 decide ((s.size:Int) > (i:Int))&&((eH (ByteArray.extract s i s.size)).2&&(decide ((eH (ByteArray.extract s i s.size)).1≥1)&&(seq (aB aK (eH (ByteArray.extract s i s.size)).1) s||seq (aB bz (eH (ByteArray.extract s i s.size)).1) s)))
theorem EJ {k:Nat} (hk:2 ^ 50≤k) {s:ByteArray} (hs:s.size≤1099511627776) (m i:Nat) (hi:i≤4) :
 iB.l0 k (m+1) s (i:Int)=bif wn s i then some ((eH (ByteArray.extract s i s.size)).1,(true,())) else iB.l0 k m s ((i+1:Nat):Int):=by
 have hz:=uV s i
 simp only [iB.l0,iB.b0]
 rw [aP (show (i:Int)≤4 by omega),aZ,aD (by omega) (by omega),show (i:Int)+1=((i+1:Nat):Int) by omega]
 unfold wn
 by_cases c:(s.size:Int) > (i:Int)
 · rw [aP c,aZ,br (by omega) (by omega),Int.toNat_natCast,xN hk (by omega),aO]
   simp only [bV hk,iD hk,aO]
   generalize eH (ByteArray.extract s i s.size)=r
   cases r.2 <;> cases decide (r.1≥1) <;> cases seq (aB aK r.1) s <;> cases seq (aB bz r.1) s <;> rfl
 · rw [aQ c]
   rfl
theorem BD {s:ByteArray} {i:Nat} (h:wn s i=true):HU s (eH (ByteArray.extract s i s.size)).1:=by
 unfold wn at h
 simp only [kC,decide_eq_true_eq] at h
 exact Ey (by omega) h.2.2.2
theorem GM {p:ByteArray} {n:Int} (h:HU (p++fy n) n):wn (p++fy n) p.size=true∧(eH (ByteArray.extract (p++fy n) p.size (p++fy n).size)).1=n:=by
 have hd:Jo n:=⟨by have:=h.1;omega,by have:=h.2.1;omega⟩
 have hp:=CU n
 rw [show ByteArray.extract (p++fy n) p.size (p++fy n).size=fy n from fW p (fy n)]
 unfold wn
 rw [show ByteArray.extract (p++fy n) p.size (p++fy n).size=fy n from fW p (fy n),ux hd]
 refine ⟨?_,rfl⟩
 simp only []
 rw [FC h,aP (by rw [ByteArray.size_append];omega),aP h.1]
 rfl
theorem F6 {k:Nat} (hk:2 ^ 50≤k) {s:ByteArray} (hs:s.size≤1099511627776):iB.f k s=some ((BL s).1,((BL s).2,())):=by
 have e:iB.f k s=bif wn s 3 then some ((eH (ByteArray.extract s 3 s.size)).1,(true,())) else bif wn s 4 then some ((eH (ByteArray.extract s 4 s.size)).1,(true,())) else some (0,(false,())):=by
  unfold iB.f iB.t
  obtain ⟨m,hm⟩:∃ m,k=m+3:=⟨k-3,by omega⟩
  have h3:=EJ hk hs (m+2) 3 (by omega)
  have h4:=EJ hk hs (m+1) 4 (by omega)
  have h5:iB.l0 k (m+1) s ((5:Nat):Int)=some (0,(false,())):=rfl
  rw [← hm] at h3
  rw [show (3:Int)=((3:Nat):Int) from rfl,h3,h4,h5]
 rw [e]
 refine mL (fun n h1 _=>?_) ?_
 · rcases h1.2.2 with q | q
   · have:=GM (p:=aK) (n:=n) (by rw [← q];exact h1)
     rw [← q,show aK.size=3 from rfl] at this
     rw [this.1,this.2]
     rfl
   · cases c:wn s 3 with
     | true=>rw [Es h1 (BD c)];rfl
     | false =>
      have:=GM (p:=bz) (n:=n) (by rw [← q];exact h1)
      rw [← q,show bz.size=4 from rfl] at this
      rw [this.1,this.2]
      rfl
 · cases c:wn s 3 with
   | true=>exact .inl ⟨_,BD c,rfl,rfl⟩
   | false =>
    cases c4:wn s 4 with
    | true=>exact .inl ⟨_,BD c4,rfl,rfl⟩
    | false=>exact .inr rfl
noncomputable def yg (s p:ByteArray):Option (Int × Bool × Unit) :=
 bif qR s p&&((eH (ByteArray.extract s p.size s.size)).2&&decide ((1:Int)≤(eH (ByteArray.extract s p.size s.size)).1∧(eH (ByteArray.extract s p.size s.size)).1≤100000)) then some ((eH (ByteArray.extract s p.size s.size)).1,(true,())) else some (0,(false,()))
theorem Gj {s p:ByteArray} (h:yg s p≠some (0,(false,()))):∃ n,1≤n∧n≤100000∧s=p++fy n∧yg s p=some (n,(true,())):=by
 unfold yg at h ⊢
 cases c:qR s p&&((eH (ByteArray.extract s p.size s.size)).2&&decide ((1:Int)≤(eH (ByteArray.extract s p.size s.size)).1∧(eH (ByteArray.extract s p.size s.size)).1≤100000)) with
 | false=>rw [c] at h;exact absurd rfl h
 | true =>
  simp only [kC,decide_eq_true_eq] at c
  obtain ⟨c1,c2,c3⟩:=c
  have e:eH (ByteArray.extract s p.size s.size)=((eH (ByteArray.extract s p.size s.size)).1,true):=by rw [← c2]
  have q:=Az e
  exact ⟨_,c3.1,c3.2,by rw [q.2];exact xb c1,rfl⟩
theorem HS {p:ByteArray} {n:Int} (h0:1≤n) (h1:n≤100000):yg (p++fy n) p=some (n,(true,())):=by
 unfold yg
 rw [Bd,show ByteArray.extract (p++fy n) p.size (p++fy n).size=fy n from fW p (fy n),ux ⟨by omega,by omega⟩]
 simp only []
 rw [aP ⟨h0,h1⟩]
 rfl
theorem Fj (k:Nat) {s:ByteArray} (hs:s.size≤281474976710656):kn.f k s=some ((BL s).1,((BL s).2,())):=by
 have e:kn.f k s=bif qR s aK then yg s aK else yg s bz:=by
  unfold kn.f kn.t
  rw [show (⟨#[115,101,103]⟩:ByteArray)=aK from rfl,show (⟨#[104,105,110,116]⟩:ByteArray)=bz from rfl,tL,tL]
  simp only [aO]
  unfold yg
  have h3:=uV s aK.size
  have h4:=uV s bz.size
  cases qR s aK with
  | true =>
   simp only [fV,aN,aZ,Bool.true_and]
   rw [na k (by omega),aO]
   simp only [kR k,aO]
   generalize eH (ByteArray.extract s aK.size s.size)=r
   cases r.2 <;> cases decide ((1:Int)≤r.1∧r.1≤100000) <;> rfl
  | false =>
   simp only [ot,aN,aZ]
   cases qR s bz with
   | true =>
    simp only [fV,aN,aZ,Bool.true_and]
    rw [na k (by omega),aO]
    simp only [kR k,aO]
    generalize eH (ByteArray.extract s bz.size s.size)=r
    cases r.2 <;> cases decide ((1:Int)≤r.1∧r.1≤100000) <;> rfl
   | false =>
    simp only [ot,aN,aZ,Bool.false_and]
    rw [na k hs,aO]
 rw [e]
 refine mL (fun n h1 _=>?_) ?_
 · rcases h1.2.2 with q | q
   · rw [q,Bd,aZ,HS h1.1 h1.2.1]
   · have hp:qR s aK=false:=by
      cases c:qR s aK with
      | false=>rfl
      | true=>exact absurd ((xb c).symm.trans q) (wJ _ _)
     rw [hp,aN,q,HS h1.1 h1.2.1]
 · cases qR s aK with
   | true =>
    rw [aZ]
    by_cases c:yg s aK=some (0,(false,()))
    · exact .inr c
    · obtain ⟨n,h0,h1,h2,h3⟩:=Gj c
      exact .inl ⟨n,⟨h0,h1,.inl h2⟩,rfl,h3⟩
   | false =>
    rw [aN]
    by_cases c:yg s bz=some (0,(false,()))
    · exact .inr c
    · obtain ⟨n,h0,h1,h2,h3⟩:=Gj c
      exact .inl ⟨n,⟨h0,h1,.inr h2⟩,rfl,h3⟩
theorem Ck {k:Nat} (hk:2 ^ 50≤k) {l:List Int} (hl:l.length≤1099511627776) (x:Int):gR.f k l x=some (nN l x,()):=by
 unfold gR.f gR.t
 refine du (L:=fun n i (_:Unit)=>gR.l0 k n l x i) (R:=fun r _=>some (nN r x,())) (Ty.dflt (.int .i64)) l (fun _ _=>True) (fun n _ _=>?_) (fun n i _ y rest h0 h1 hx hr hp ih=>?_) (n:=k) (s:=()) (by omega) trivial
 · simp (disch:=omega) only [gR.l0,gR.b0,aQ,aN]
   rfl
 · have ih:=ih () trivial
   have e:nN (y::rest) x=((y==x)||nN rest x):=rfl
   simp (disch:=omega) only [gR.l0,gR.b0,aP h1,aZ,aG,hx,aD,ih,e]
   cases y==x <;> rfl
theorem vN {k:Nat} (hk:2 ^ 50≤k) {l:List Int} (hl:l.length≤1099511627776) (x:Int):ek.f k l x=some (nN l x,()):=by
 unfold ek.f ek.t
 refine du (L:=fun n i (_:Unit)=>ek.l0 k n x l l.length i) (R:=fun r _=>some (nN r x,())) (Ty.dflt (.int .i64)) l (fun _ _=>True) (fun n _ _=>?_) (fun n i _ y rest h0 h1 hx hr hp ih=>?_) (n:=k) (s:=()) (by omega) trivial
 · simp (disch:=omega) only [ek.l0,ek.b0,aQ,aN]
   rfl
 · have ih:=ih () trivial
   have e:nN (y::rest) x=((y==x)||nN rest x):=rfl
   simp (disch:=omega) only [ek.l0,ek.b0,aP h1,aZ,aG,hx,aD,ih,e]
   cases y==x <;> rfl
def j6:ByteArray:=⟨#[116,101,109,112]⟩
noncomputable def lu (ids:List Int) (f:Ty.den bR):Bool:=((BL f.1).2&&!nN ids (BL f.1).1)||seq f.1 j6
noncomputable def mR (ids:List Int):bO→List ByteArray→List ByteArray
 | [],acc=>acc
 | f::l,acc=>mR ids l (bif lu ids f then acc++[f.1] else acc)
noncomputable def kF (d:Ty.den a_) (ids:List Int):List ByteArray:=bif fh d then mR ids d.1 [] else []
theorem zT {d:Ty.den a_} (h:fh d=true):d.1.length≤130:=by
 unfold fh at h
 rw [kC,decide_eq_true_eq] at h
 exact h.1
theorem vD {k:Nat} (hk:2 ^ 50≤k) {d:Ty.den a_} {v:Ty.den bA} (hu:cJ d.1≤1099511627776) (hn:dS d.1≤1099511627776) (hv:v.2.1.length≤1099511627776):bS.f k d v=some (kF d v.2.1,()):=by
 unfold bS.f bS.t kF
 rw [kI hk hu hn,aO]
 cases cd:fh d with
 | false=>rfl
 | true =>
  have hl:=zT cd
  rw [fV,aN,aZ]
  refine du (L:=fun n i s=>bS.l0 k n i d.1 d.2.1 d.2.2.1 d.2.2.2.1 v.1 v.2.1 s) (R:=fun r s=>some (mR v.2.1 r s,())) (Ty.dflt bR) d.1 (fun i s=>(s.length:Int)≤i) (fun n s hs=>?_) (fun n i s x rest h0 h1 hx hr hs ih=>?_) (n:=k) (s:=[]) (by omega) (by simp)
  · simp (disch:=omega) only [bS.l0,bS.b0,aQ,aN,mR]
  · have hm:x ∈ d.1:=by rw [← hx];exact gP (by omega)
    have hz:=m3 hm
    have iY:=ih (s++[x.1]) (by rw [bJ];omega)
    have iN:=ih s (by omega)
    have key:∀ (id:Int) (is:Bool),bS.l1 k (bS.l0 k n) k i id is false 0 d.1 d.2.1 d.2.2.1 d.2.2.2.1 v.1 v.2.1 s =
     bif (is&&!nN v.2.1 id)||seq x.1 j6 then bS.l0 k n (i+1) d.1 d.2.1 d.2.2.1 d.2.2.2.1 v.1 v.2.1 (s++[x.1]) else bS.l0 k n (i+1) d.1 d.2.1 d.2.2.1 d.2.2.2.1 v.1 v.2.1 s:=fun id is=>by
     refine (du (L:=fun m j lv=>bS.l1 k (bS.l0 k n) m i id is lv j d.1 d.2.1 d.2.2.1 d.2.2.2.1 v.1 v.2.1 s) (R:=fun r lv=>bif (is&&!(lv||nN r id))||seq x.1 j6 then bS.l0 k n (i+1) d.1 d.2.1 d.2.2.1 d.2.2.2.1 v.1 v.2.1 (s++[x.1]) else bS.l0 k n (i+1) d.1 d.2.1 d.2.2.1 d.2.2.2.1 v.1 v.2.1 s) (Ty.dflt (.int .i64)) v.2.1 (fun _ _=>True) (fun m lv _=>?_) (fun m j lv y r2 g0 g1 gx gr _ ih2=>?_) (n:=k) (s:=false) (by omega) trivial)
     · simp (disch:=first | omega | decide) only [bS.l1,bS.b1,aQ,aN,aG,hx,bK,aD]
       rw [show nN [] id=false from rfl,show (⟨#[116,101,109,112]⟩:ByteArray)=j6 from rfl]
       cases is <;> cases lv <;> cases seq x.1 j6 <;> rfl
     · have e:nN (y::r2) id=((y==id)||nN r2 id):=rfl
       simp (disch:=omega) only [bS.l1,bS.b1,aP g1,aZ,aG,gx,aD,e]
       cases lv with
       | true=>exact (ih2 true trivial)
       | false =>
        have:=ih2 (y==id) trivial
        simp only [aN,Bool.false_or]
        exact this
    simp (disch:=omega) only [bS.l0,bS.b0,aP h1,aZ,aG,hx,F6 hk,aO,key]
    rw [show mR v.2.1 (x::rest) s=mR v.2.1 rest (bif lu v.2.1 x then s++[x.1] else s) from rfl]
    unfold lu
    cases ((BL x.1).2&&!nN v.2.1 (BL x.1).1)||seq x.1 j6
    · exact iN
    · exact iY
theorem uo {k:Nat} (hk:2 ^ 50≤k) {d:Ty.den a_} {v:Ty.den bA} (hu:cJ d.1≤1099511627776) (hn:dS d.1≤1099511627776) (hv:v.2.1.length≤1099511627776):eJ.f k d v=some (kF d v.2.1,()):=by
 unfold eJ.f eJ.t kF
 rw [j7 hk hu hn,aO]
 cases cd:fh d with
 | false=>rfl
 | true =>
  have hl:=zT cd
  rw [fV,aN,aZ]
  refine du (L:=fun n i s=>eJ.l0 k n d.1 d.1.length i v.1 v.2.1 s) (R:=fun r s=>some (mR v.2.1 r s,())) (Ty.dflt bR) d.1 (fun i s=>(s.length:Int)≤i) (fun n s hs=>?_) (fun n i s x rest h0 h1 hx hr hs ih=>?_) (n:=k) (s:=[]) (by omega) (by simp)
  · simp (disch:=omega) only [eJ.l0,eJ.b0,aQ,aN,mR]
  · have hm:x ∈ d.1:=by rw [← hx];exact gP (by omega)
    have hz:=m3 hm
    have iY:=ih (s++[x.1]) (by rw [bJ];omega)
    have iN:=ih s (by omega)
    simp (disch:=first | omega | decide) only [eJ.l0,eJ.b0,aP h1,aZ,aG,hx,Fj k,aO,vN hk hv,bK,aD,iY,iN]
    rw [show mR v.2.1 (x::rest) s=mR v.2.1 rest (bif lu v.2.1 x then s++[x.1] else s) from rfl,show (⟨#[116,101,109,112]⟩:ByteArray)=j6 from rfl]
    unfold lu
    cases (BL x.1).2 <;> cases nN v.2.1 (BL x.1).1 <;> cases seq x.1 j6 <;> rfl
end Go.Proofs.YtohaanhjddohmaaGreatDoor.G
namespace Go.Proofs.YtohaanhjddohmaaGreatDoor.G
open Go.V
theorem qc {k:Nat} (hk:2 ^ 50≤k) {l:List Int} (hl:l.length≤1073741824):dI.f k l=some (dH l,()):=by
 unfold dI.f dI.t
 refine (du (L:=fun n i s=>dI.l0 k n s l l.length i) (R:=fun r s=>some (s++dH r,())) (Ty.dflt (.int .i64)) l (fun i s=>(s.size:Int)≤7*i) (fun n s hs=>?_) (fun n i s x rest g0 g1 hx hr hs ih=>?_) (n:=k) (s:=⟨#[]⟩) (by omega) (by decide)).trans (by rw [oV])
 · simp (disch:=omega) only [dI.l0,dI.b0,aQ,aN]
   rw [show dH []=⟨#[]⟩ from rfl,gL]
 · have hv:=ax x
   have ih:=ih (s++iA x) (by rw [aM];omega)
   simp (disch:=omega) only [dI.l0,dI.b0,aP g1,aZ,aG,hx,nT hk,aO,dW,aD,ih]
   rw [ap]
   rfl
theorem vd {k:Nat} (hk:2 ^ 50≤k) (v:Ty.den bA) (hl:v.2.1.length≤1073741824):iQ.f k v=some (au v,()):=by
 unfold iQ.f iQ.t au
 rw [uz hk (by omega),aO]
 cases c:dR v with
 | false=>rfl
 | true =>
  have a:=ax v.1
  have b:=ax (v.2.1.length:Int)
  have d:=nU v.2.1
  rw [fV,aN,yz hk,aO,qc hk hl,aO,if_pos rfl]
  simp only []
  rw [dW (by rw [aM];omega),tJ hk,aO,ap]
  rfl
theorem vY (k:Nat) (n:Int):iR.f k n=some (aB bz n,()):=by
 unfold iR.f iR.t
 rw [show (⟨#[104,105,110,116]⟩:ByteArray)=bz from rfl,tP k (by decide) n]
 rfl
theorem v8 (v:Ty.den bA):(au v).size≤1099511627776:=by
 unfold au
 split
 · have:=i7 (lB v);omega
 · decide
theorem qX {p:ByteArray} (hp:p=aK∨p=bz) (n:Int):(aB p n).size≤1000:=by
 have hs:p.size≤4:=by rcases hp with q | q <;> rw [q] <;> decide
 unfold aB
 by_cases h:(1:Int)≤n∧n≤100000
 · have:=lJ (n:=n) (by omega) (by omega)
   rw [aP h,aZ,ByteArray.size_append]
   omega
 · rw [aQ h,aN];decide
end Go.Proofs.YtohaanhjddohmaaGreatDoor.G
namespace Go.Proofs.YtohaanhjddohmaaGreatDoor.G
open Go.V
abbrev RD:=Ty.den a_ × Int
def ga (r:RD) (f:Ty.den a_→RD):RD:=bif r.2==0 then f r.1 else r
def fL (c:Int):Int:=bif c==0 then 0 else bif c==1 then 1 else bif c==2 then 2 else 3
def wk (f:Ty.den a_→RD) (r:RD):RD:=bif r.2==0 then ((f r.1).1,fL (f r.1).2) else r
def wO (r:RD):Ty.den b8:=(r.1,(r.2,()))
def dG:ByteArray:=⟨#[108,105,118,101]⟩
def je (s:ByteArray) (d:Ty.den a_):RD:=bif (bg d.1 s).isSome then sR d s else (d,0)
def dD (s:ByteArray) (d:Ty.den a_):RD:=ga (je s d) fun x=>qS x s
def mS (s t:ByteArray) (d:Ty.den a_):RD:=ga (ga (dD s d) fun x=>iv x s t) fun x=>j8 x s
def dq (v:Ty.den bA) (d:Ty.den a_):RD:=ga (mS j6 (au v) d) fun x=>vp x j6 dG
def dz:List ByteArray→Ty.den a_→RD
 | [],d=>(d,0)
 | s::l,d=>ga (je s d) (dz l)
noncomputable def gM (ids:List Int) (d:Ty.den a_):RD:=dz (kF d ids) d
theorem gg (c:Int):(fL c==0)=(c==0):=by
 unfold fL
 cases h:c==0 with
 | true=>rfl
 | false =>
  cases c==1
  · cases c==2 <;> rfl
  · rfl
theorem qz (f g:Ty.den a_→RD) (r:RD):wk (fun x=>ga (f x) g) r=wk g (wk f r):=by
 unfold wk ga
 cases h:r.2==0 with
 | false=>simp only [aN,h]
 | true =>
  simp only [aZ,gg]
  cases (f r.1).2==0 <;> rfl
theorem JJ (r:RD):wk (fun d=>(d,0)) r=r:=by
 unfold wk
 cases h:r.2==0 with
 | false=>rfl
 | true=>exact Prod.ext rfl (by show fL 0=r.2;rw [E7 h];rfl)
theorem ke {r:RD} {f:Ty.den a_→RD} (h:DR r.1) (hf:∀ x,DR x→DR (f x).1):DR (ga r f).1:=by
 unfold ga
 cases r.2==0
 · exact h
 · exact hf _ h
theorem wq {r:RD} {f:Ty.den a_→RD} (h:DR r.1) (hf:∀ x,DR x→DR (f x).1):DR (wk f r).1:=by
 unfold wk
 cases r.2==0
 · exact h
 · exact hf _ h
theorem tE (s:ByteArray) (d:Ty.den a_) (h:DR d):DR (je s d).1:=by
 unfold je
 cases (bg d.1 s).isSome
 · exact h
 · exact AB h s
theorem kz (s:ByteArray) (d:Ty.den a_) (h:DR d):DR (dD s d).1:=ke (tE s d h) fun x hx=>xr hx s
theorem pT (s t:ByteArray) (d:Ty.den a_) (h:DR d):DR (mS s t d).1:=ke (ke (kz s d h) fun x hx=>qC hx s t) fun x hx=>nS hx s
theorem nq (v:Ty.den bA) (d:Ty.den a_) (h:DR d):DR (dq v d).1:=ke (pT _ _ d h) fun x hx=>GC hx _ _
theorem mc:∀ (l:List ByteArray) (d:Ty.den a_),DR d→DR (dz l d).1
 | [],d,h=>h
 | s::l,d,h=>ke (tE s d h) (mc l)
theorem pJ (ids:List Int) (d:Ty.den a_) (h:DR d):DR (gM ids d).1:=mc _ d h
theorem dC (k:Nat) (c:Int):aY.f k c=some (fL c,()):=by
 unfold aY.f aY.t fL
 cases c==0 <;> cases c==1 <;> cases c==2 <;> rfl
theorem zh {l:bO} {s:ByteArray}:decide (l7 l s 0≥0)=(bg l s).isSome:=by
 rcases gZ l s 0 with ⟨h1,h2,_⟩ | ⟨n,h1,h2,h3,_⟩
 · rw [h1,h2];rfl
 · rw [h2,h3,aP (by omega)];rfl
theorem FZ {l:bO} {s:ByteArray}:decide (l7 l s 0<0)=!(bg l s).isSome:=by
 rcases gZ l s 0 with ⟨h1,h2,_⟩ | ⟨n,h1,h2,h3,_⟩
 · rw [h1,h2];rfl
 · rw [h2,h3,aQ (by omega)];rfl
theorem n_ {k:Nat} (hk:2 ^ 50≤k) {d:Ty.den a_} (h:DR d) {s:ByteArray} (hs:s.size≤1099511627776):dr.f k d s=some ((dD s d).1,((dD s d).2,())):=by
 have hl:=h.sz.l
 unfold dr.f dr.t dD je
 rw [iV hk (by omega),aO]
 simp only [zh]
 cases (bg d.1 s).isSome with
 | false =>
  simp only [aN]
  rw [nr hk h.sz hs]
  rfl
 | true =>
  simp only [aZ]
  rw [sr hk h.sz,aO]
  unfold ga
  simp only [bne]
  cases c:(sR d s).2==0 with
  | false=>rfl
  | true =>
   simp only [fV,aN,aZ]
   rw [nr hk (AB h s).sz hs]
   rfl
theorem vC {k:Nat} (hk:2 ^ 50≤k) {d:Ty.den a_} (h:DR d) {s t:ByteArray} (hs:s.size≤1099511627776) (ht:t.size≤1099511627776):h_.f k d s t=some ((mS s t d).1,((mS s t d).2,())):=by
 have h1:=kz s d h
 unfold h_.f h_.t mS
 rw [n_ hk h hs,aO]
 simp only []
 generalize dD s d=r at h1 ⊢
 unfold ga
 cases c:r.2==0 with
 | false=>simp only [aN,c]
 | true =>
  simp only [aZ]
  rw [nW hk h1.sz s ht,aO]
  simp only []
  cases c2:(iv r.1 s t).2==0 with
  | false=>rfl
  | true =>
   simp only [aZ]
   rw [lI hk (qC h1 s t).sz]
   rfl
theorem ng {k:Nat} (hk:2 ^ 50≤k) {d:Ty.den a_} (h:DR d) {v:Ty.den bA} (hv:dR v=true):f8.f k d v=some ((dq v d).1,(fL (dq v d).2,())):=by
 have hu:=h.sz.u
 have hn:=h.sz.n
 have h1:=pT j6 (au v) d h
 unfold f8.f f8.t dq
 rw [kI hk (by omega) (by omega),aO,iH.2 h]
 simp only [fV,aN]
 rw [rQ hk,aO,hv]
 simp only [fV,aN]
 rw [jw hk,aO,show (⟨#[116,101,109,112]⟩:ByteArray)=j6 from rfl,show (⟨#[108,105,118,101]⟩:ByteArray)=dG from rfl]
 simp only []
 rw [vC hk h (s:=j6) (t:=au v) (by decide) (v8 v),aO]
 simp only []
 generalize mS j6 (au v) d=r at h1 ⊢
 unfold ga
 cases c:r.2==0 with
 | false=>simp only [aN,dC,aO]
 | true =>
  simp only [aZ]
  rw [wU hk h1.sz j6 (b:=dG) (by decide),aO]
  simp only [dC,aO]
theorem nE {k:Nat} (hk:2 ^ 50≤k) {d:Ty.den a_} (h:DR d) {l:List ByteArray} (hl:l.length≤1073741824):cA.f k d l=some ((dz l d).1,((dz l d).2,())):=by
 unfold cA.f cA.t
 refine du (L:=fun n i (x:Ty.den a_)=>cA.l0 k n l i x.1 x.2.1 x.2.2.1 x.2.2.2.1 [] 0 0 false) (R:=fun r x=>some ((dz r x).1,((dz r x).2,()))) (Ty.dflt .str) l (fun _ x=>DR x) (fun n x hx=>?_) (fun n i x y rest h0 h1 hy hr hx ih=>?_) (n:=k) (s:=d) (by omega) h
 · simp only [cA.l0,cA.b0]
   rw [aQ (by omega),aN]
   rfl
 · have hlx:=hx.sz.l
   simp only [cA.l0,cA.b0]
   rw [aP h1,aZ,aG h0 h1,hy,show (x.1,(x.2.1,(x.2.2.1,(x.2.2.2.1,()))))=x from rfl,iV hk (by omega),aO,aG h0 h1,aD (n:=i+1) (by omega) (by omega)]
   simp only [FZ,dz,je,ga]
   cases (bg x.1 y).isSome with
   | false =>
    simp only [ot,aZ,aN]
    exact ih x hx
   | true =>
    simp only [fV,aN,aZ]
    rw [sr hk hx.sz,aO]
    simp only [bne]
    cases c:(sR x y).2==0 with
    | false=>rfl
    | true =>
     simp only [fV,aN,aZ]
     exact ih _ (AB hx y)
theorem Bu (ids:List Int):∀ (l:bO) (acc:List ByteArray),mR ids l acc=acc++(l.filter (lu ids)).map (·.1)
 | [],acc=>by unfold mR;simp
 | f::l,acc=>by
  unfold mR
  rw [Bu ids l]
  cases c:lu ids f
  · rw [aN,List.filter_cons_of_neg (by rw [c];decide)]
  · rw [aZ,List.filter_cons_of_pos c,List.map_cons,rX];rfl
theorem Bo {d:Ty.den a_} (ids:List Int):(kF d ids).Sublist (kt d.1):=by
 unfold kF
 cases fh d
 · exact List.nil_sublist _
 · rw [aZ,Bu,List.nil_append]
   exact (List.filter_sublist).map _
theorem vx {l:bO} {s t:ByteArray} (h:t≠s):bg (ib l s) t=bg l t:=by
 induction l with
 | nil=>rfl
 | cons g l ih =>
  unfold ib
  cases c:seq g.1 s with
  | true =>
   rw [aZ,bg.eq_2,lb (fun q=>h (by rw [← q,dY.1 c])),aN]
  | false =>
   rw [aN,bg.eq_2,bg.eq_2,ih]
theorem I_ {l:bO} {s:ByteArray} (h:s ∈ kt l):(bg l s).isSome=true:=by
 cases q:bg l s with
 | some f=>rfl
 | none =>
  obtain ⟨f,h1,h2⟩:=List.mem_map.1 h
  exact absurd h2 (ni.1 q f h1)
theorem G_ {d:Ty.den a_} {s t:ByteArray} (h:t≠s) (ht:(bg d.1 t).isSome=true):(bg (sR d s).1.1 t).isSome=true:=by
 unfold sR ii
 cases (kA d).2 != 0 with
 | true=>rw [aZ,pW];exact ht
 | false =>
  show (bg (vf s d.1 d.2.1).1 t).isSome=true
  unfold vf
  cases (bg d.1 s).isNone
  · show (bg (ib d.1 s) t).isSome=true
    rw [vx h]
    exact ht
  · exact ht
theorem tQ {k:Nat} (hk:2 ^ 50≤k) {d:Ty.den a_} (h:DR d) {v:Ty.den bA} (hv:v.2.1.length≤1099511627776):bx.f k d v=some ((gM v.2.1 d).1,(fL (gM v.2.1 d).2,())):=by
 have hu:=h.sz.u
 have hn:=h.sz.n
 have hl:=h.len
 have hsub:=Bo (d:=d) v.2.1
 have hlen:=hsub.length_le
 unfold kt at hlen
 rw [List.length_map] at hlen
 have hne:(kF d v.2.1).Pairwise (fun a b=>a≠b):=(List.Pairwise.sublist hsub h.keys).imp fun {a b} q e=>by rw [e,sX] at q;cases q
 have hall:∀ s ∈ kF d v.2.1,(bg d.1 s).isSome=true:=fun s hs=>I_ (hsub.subset hs)
 unfold bx.f bx.t gM
 rw [vD hk (by omega) (by omega) hv,aO]
 simp only []
 generalize kF d v.2.1=l at hlen hne hall ⊢
 refine du (L:=fun n i (x:Ty.den a_)=>bx.l0 k n i x.1 x.2.1 x.2.2.1 x.2.2.2.1 [] 0 0 false l) (R:=fun r x=>some ((dz r x).1,(fL (dz r x).2,()))) (Ty.dflt .str) l (fun i x=>DR x∧∀ s ∈ l.drop i.toNat,(bg x.1 s).isSome=true) (fun n x hx=>?_) (fun n i x y rest h0 h1 hy hr hx ih=>?_) (n:=k) (s:=d) (by omega) ⟨h,fun s hs=>hall s (List.mem_of_mem_drop hs)⟩
 · simp only [bx.l0,bx.b0]
   rw [aQ (by omega),aN]
   rfl
 · obtain ⟨hd,ha⟩:=hx
   have hp:(y::rest).Pairwise (fun a b=>a≠b):=by rw [← hr];exact hne.drop
   have hdr:l.drop (i+1).toNat=rest:=by
    have:=congrArg (List.drop 1) hr
    rw [List.drop_drop,List.drop_one,List.tail_cons] at this
    rw [show (i+1).toNat=i.toNat+1 by omega]
    exact this
   have hy1:(bg x.1 y).isSome=true:=ha y (by rw [hr];exact pR ..)
   simp only [bx.l0,bx.b0]
   rw [aP h1,aZ,aG h0 h1,hy,show (x.1,(x.2.1,(x.2.2.1,(x.2.2.2.1,()))))=x from rfl,sr hk hd.sz,aO,aD (n:=i+1) (by omega) (by omega)]
   simp only [dz,je,ga,hy1,aZ,bne,dC]
   cases c:(sR x y).2==0 with
   | false=>rfl
   | true =>
    simp only [fV,aN,aZ]
    refine ih (sR x y).1 ⟨AB hd y,fun s hs=>?_⟩
    rw [hdr] at hs
    exact G_ (fun e=>(List.pairwise_cons.1 hp).1 s hs e.symm) (ha s (by rw [hr];exact s9 _ hs))
theorem BR (k:Nat) (c:Int):lR.f k c=some (fL c,()):=by
 unfold lR.f lR.t fL
 cases c==0 <;> cases c==1 <;> cases c==2 <;> rfl
theorem ry (k:Nat) (w:Ty.den b8) (d:Ty.den a_) (c:Int):aw.f k w d c=some ((d,(fL c,())),()):=by
 unfold aw.f aw.t
 rw [BR,aO]
theorem zK {k:Nat} (hk:2 ^ 50≤k) (r:RD) (h:DR r.1) {s:ByteArray} (hs:s.size≤1099511627776):dF.f k (wO r) s=some (wO (wk (fun x=>qS x s) r),()):=by
 unfold dF.f dF.t wk wO
 simp only []
 cases c:r.2==0 with
 | false=>rfl
 | true=>rw [aZ,aZ,E5 hk h.sz hs,aO,ry,aO]
theorem Fe {k:Nat} (hk:2 ^ 50≤k) (r:RD) (h:DR r.1) (s:ByteArray) {t:ByteArray} (ht:t.size≤1099511627776):gK.f k (wO r) s t=some (wO (wk (fun x=>iv x s t) r),()):=by
 unfold gK.f gK.t wk wO
 simp only []
 cases c:r.2==0 with
 | false=>rfl
 | true=>rw [aZ,aZ,DW hk h.sz s ht,aO,ry,aO]
theorem ud {k:Nat} (hk:2 ^ 50≤k) (r:RD) (h:DR r.1) (s:ByteArray):d6.f k (wO r) s=some (wO (wk (fun x=>j8 x s) r),()):=by
 unfold d6.f d6.t wk wO
 simp only []
 cases c:r.2==0 with
 | false=>rfl
 | true=>rw [aZ,aZ,DA hk h.sz s,aO,ry,aO]
theorem Fv {k:Nat} (hk:2 ^ 50≤k) (r:RD) (h:DR r.1) (a:ByteArray) {b:ByteArray} (hb:b.size≤1099511627776):eg.f k (wO r) a b=some (wO (wk (fun x=>vp x a b) r),()):=by
 unfold eg.f eg.t wk wO
 simp only []
 cases c:r.2==0 with
 | false=>rfl
 | true=>rw [aZ,aZ,DO hk h.sz a hb,aO,ry,aO]
theorem xJ {k:Nat} (hk:2 ^ 50≤k) (r:RD) (h:DR r.1) (s:ByteArray):dt.f k (wO r) s=some (wO (wk (je s) r),()):=by
 have hl:=h.sz.l
 unfold dt.f dt.t wk wO je
 simp only []
 cases c:r.2==0 with
 | false=>rfl
 | true =>
  rw [aZ,aZ,j3 hk (by omega),aO]
  simp only [zh]
  cases (bg r.1.1 s).isSome with
  | true=>rw [aZ,aZ,Df hk h.sz s,aO,ry,aO]
  | false =>
   simp only [aN]
   rw [E7 c]
   rfl
theorem Di {k:Nat} (hk:2 ^ 50≤k) (r:RD) (h:DR r.1) {s:ByteArray} (hs:s.size≤1099511627776):fc.f k (wO r) s=some (wO (wk (dD s) r),()):=by
 unfold fc.f fc.t
 rw [xJ hk r h,aO]
 simp only []
 rw [zK hk _ (wq h (tE s)) hs,aO,← qz]
 rfl
theorem DG {k:Nat} (hk:2 ^ 50≤k) (r:RD) (h:DR r.1) {s t:ByteArray} (hs:s.size≤1099511627776) (ht:t.size≤1099511627776):eh.f k (wO r) s t=some (wO (wk (mS s t) r),()):=by
 unfold eh.f eh.t
 rw [Di hk r h hs,aO]
 simp only []
 have h1:=wq (r:=r) h (kz s)
 rw [Fe hk _ h1 s ht,aO]
 simp only []
 rw [ud hk _ (wq h1 fun x hx=>qC hx s t) s,aO,← qz (dD s) (fun x=>iv x s t),← qz]
 rfl
theorem yt {k:Nat} (hk:2 ^ 50≤k) (r:RD) (h:DR r.1) {v:Ty.den bA} (hv:v.2.1.length≤1073741824):eA.f k (wO r) v=some (wO (wk (dq v) r),()):=by
 unfold eA.f eA.t
 rw [vd hk v hv,aO,show (⟨#[116,101,109,112]⟩:ByteArray)=j6 from rfl,show (⟨#[108,105,118,101]⟩:ByteArray)=dG from rfl]
 simp only []
 rw [DG hk r h (s:=j6) (t:=au v) (by decide) (v8 v),aO]
 simp only []
 rw [Fv hk _ (wq h (pT _ _)) j6 (b:=dG) (by decide),aO,← qz]
 rfl
theorem Hu (s:ByteArray) (l:List ByteArray) (r:RD):wk (dz (s::l)) r=wk (dz l) (wk (je s) r):=qz (je s) (dz l) r
theorem xg {k:Nat} (hk:2 ^ 50≤k) (r:RD) (h:DR r.1) {v:Ty.den bA} (hv:v.2.1.length≤1099511627776):ae.f k (wO r) v=some (wO (wk (gM v.2.1) r),()):=by
 have hu:=h.sz.u
 have hn:=h.sz.n
 have hlen:=(Bo (d:=r.1) v.2.1).length_le
 have hl:=h.len
 unfold kt at hlen
 rw [List.length_map] at hlen
 unfold ae.f ae.t
 rw [show (wO r).1=r.1 from rfl,uo hk (by omega) (by omega) hv,aO]
 simp only []
 have key:∀ l:List ByteArray,l.length≤1000→ae.l0 k k l.length 0 r.1.1 r.1.2.1 r.1.2.2.1 r.1.2.2.2.1 r.2 l=some (wO (wk (dz l) r),()):=fun l hl=>by
  refine du (L:=fun n i (x:RD)=>ae.l0 k n l.length i x.1.1 x.1.2.1 x.1.2.2.1 x.1.2.2.2.1 x.2 l) (R:=fun q x=>some (wO (wk (dz q) x),())) (Ty.dflt .str) l (fun i x=>DR x.1) (fun n x hx=>?_) (fun n i x y rest h0 h1 hy hr hx ih=>?_) (n:=k) (s:=r) (by omega) h
  · simp only [ae.l0,ae.b0]
    rw [aQ (by omega),aN,show dz []=fun d=>(d,0) from rfl,JJ]
    rfl
  · simp only [ae.l0,ae.b0]
    rw [aP h1,aZ,aG h0 h1,hy,show ((x.1.1,(x.1.2.1,(x.1.2.2.1,(x.1.2.2.2.1,())))),(x.2,()))=wO x from rfl,xJ hk x hx,aO,aD (n:=i+1) (by omega) (by omega),Hu]
    exact ih (wk (je y) x) (wq hx (tE y))
 rw [show (wO r).2.1=r.2 from rfl]
 rw [key (kF r.1 v.2.1) (by omega)]
 unfold wk gM
 rfl
end Go.Proofs.YtohaanhjddohmaaGreatDoor.G
namespace Go.Proofs.YtohaanhjddohmaaGreatDoor.G
open Go.V
abbrev mh:=List (Ty.den bU)
def j_ (kind batch:Int) (l:mh):Ty.den bU:=(kind,(batch,(ByteArray.empty,(ByteArray.empty,((l.length:Int),(BW l,()))))))
theorem md {k:Nat} (hk:2 ^ 50≤k) {l:mh} (hl:l.length≤1073741824) (b kd:Int):eo.f k l b kd=some (j_ kd b l,()):=by
 unfold eo.f eo.t
 rw [pm hk hl,aO]
 rfl
end Go.Proofs.YtohaanhjddohmaaGreatDoor.G
namespace Go.Proofs.YtohaanhjddohmaaGreatDoor.G
open Go.V
abbrev lS:=List (Ty.den aE)
def rL (s:ByteArray):Bool:=decide (1≤(s.size:Int)∧(s.size:Int)≤8)
def eQ (p:Ty.den aE):Ty.den bU:=(4,(p.2.2.1,(p.1,(p.2.1,(0,(0,()))))))
def qk (l:lS) (mark:Int):mh:=l.map eQ++[j_ 5 mark (l.map eQ)]
def gp:mh→ByteArray
 | []=>⟨#[]⟩
 | r::l=>ah (aU r)++gp l
theorem uw:∀ l m:mh,gp (l++m)=gp l++gp m
 | [],m=>by rw [List.nil_append,gp,oV]
 | r::l,m=>by rw [List.cons_append,gp,uw l m,gp,ap]
end Go.Proofs.YtohaanhjddohmaaGreatDoor.G
namespace Go.Proofs.YtohaanhjddohmaaGreatDoor.G
open Go.V
abbrev ac:=List (Ty.den aA)
end Go.Proofs.YtohaanhjddohmaaGreatDoor.G
namespace Go.Proofs.YtohaanhjddohmaaGreatDoor.G
open Go.V
noncomputable def nl (s:ByteArray) (i n:Int):Ty.den bU × Bool :=
 if 0≤i∧i≤s.size∧1≤n∧n≤s.size-i then (if (iP (ByteArray.extract s i.toNat (i+n).toNat)).2=n then jV (iP (ByteArray.extract s i.toNat (i+n).toNat)).1 else (sW,false)) else (sW,false)
theorem Dz {s:ByteArray} (h:(jV s).2=false):jV s=(sW,false):=EY h
theorem GB (s:ByteArray) (i j:Nat):(ByteArray.extract s i j).size≤s.size:=by
 rw [← cX,Ap,List.length_drop,List.length_take,cX];omega
theorem t6 {k:Nat} (hk:2 ^ 50≤k) {s:ByteArray} (i n:Int) (hs:s.size≤1099511627775):jF.f k s i n=some ((nl s i n).1,((nl s i n).2,())):=by
 unfold jF.f jF.t nl
 rw [oK,aO]
 by_cases c1:0≤i∧i≤s.size
 case neg=>rw [aQ c1,if_neg (fun h=>c1 ⟨h.1,h.2.1⟩)];rfl
 rw [aP c1,fV,aN,oK,aO,aD (by omega) (by omega)]
 by_cases c2:1≤n∧n≤s.size-i
 case neg=>rw [aQ c2,if_neg (fun h=>c2 ⟨h.2.2.1,h.2.2.2⟩)];rfl
 have hz:=GB s i.toNat (i+n).toNat
 have hu:=nH (ByteArray.extract s i.toNat (i+n).toNat)
 rw [aP c2,fV,aN,aD (by omega) (by omega),vr (by omega) (by omega) (by omega),if_pos ⟨c1.1,c1.2,c2⟩,lZ hk (by omega),aO]
 simp only []
 rw [qZ hk (by omega),aO]
 by_cases c3:(iP (ByteArray.extract s i.toNat (i+n).toNat)).2=n
 · rw [if_pos c3]
   simp only [show ((iP (ByteArray.extract s i.toNat (i+n).toNat)).2 != n)=false by rw [c3];simp,aN]
   cases c4:(jV (iP (ByteArray.extract s i.toNat (i+n).toNat)).1).2 with
   | true=>rfl
   | false=>rw [Dz c4];rfl
 · rw [if_neg c3]
   simp only [show ((iP (ByteArray.extract s i.toNat (i+n).toNat)).2 != n)=true from bne_iff_ne.2 c3,aZ]
end Go.Proofs.YtohaanhjddohmaaGreatDoor.G
namespace Go.Proofs.YtohaanhjddohmaaGreatDoor.G
open Go.V
def sF (p:Option (Ty.den aA)) (x:Ty.den aA):Bool :=
 rL x.1&&(decide ((1:Int)≤x.2.1∧x.2.1≤100000)&&(!decide (x.2.2.1<(0:Int))&&(decide ((1:Int)≤x.2.2.2.1∧x.2.2.2.1≤210)&&(decide ((1:Int)≤x.2.2.2.2.1∧x.2.2.2.2.1≤1000000)&&(match p with | none=>true | some y=>mv y.1 x.1)))))
def qd (l:ac):Bool:=decide ((l.length:Int)≤20)&&qO sF none l
theorem xh {k:Nat} (hk:2 ^ 50≤k) (l:ac):fC.f k l=some (qd l,()):=by
 unfold fC.f fC.t qd
 by_cases c:l.length > 20
 · rw [aP (by omega),aZ,aQ (by omega),Bool.false_and]
 · rw [aQ (by omega),aN,aP (by omega),Bool.true_and]
   refine (pV (L:=fun n i=>fC.l0 k n l i) (Ty.dflt aA) l sF (some (true,())) (some (false,())) (fun n=>?_) (fun n x h hx=>?_) (fun n i x y h0 h1 hx hy=>?_) (n:=k) (by omega)).trans (by cases qO sF none l <;> rfl)
   · simp (disch:=omega) only [fC.l0,fC.b0,aQ,aN]
   · simp (disch:=omega) only [fC.l0,fC.b0,aP (show (0:Int)<(l.length:Int) by omega),aZ,aG,hx,n6 k,gS k,aO,aQ (show ¬ (0:Int) > 0 by omega),aN,aD,sF,rL]
     cases decide (1≤(x.1.size:Int)∧(x.1.size:Int)≤8) <;> cases decide ((1:Int)≤x.2.1∧x.2.1≤100000) <;> cases decide (x.2.2.1<(0:Int)) <;> cases decide ((1:Int)≤x.2.2.2.1∧x.2.2.2.1≤210) <;> cases decide ((1:Int)≤x.2.2.2.2.1∧x.2.2.2.2.1≤1000000) <;> rfl
   · simp (disch:=omega) only [fC.l0,fC.b0,aP h1,aZ,aG,hx,hy,n6 k,gS k,aO,aP (show i > 0 by omega),aN,aD,sF,rL,m5]
     cases decide (1≤(x.1.size:Int)∧(x.1.size:Int)≤8) <;> cases decide ((1:Int)≤x.2.1∧x.2.1≤100000) <;> cases decide (x.2.2.1<(0:Int)) <;> cases decide ((1:Int)≤x.2.2.2.1∧x.2.2.2.1≤210) <;> cases decide ((1:Int)≤x.2.2.2.2.1∧x.2.2.2.2.1≤1000000) <;> cases mv y.1 x.1 <;> rfl
theorem Dn {k:Nat} (hk:2 ^ 50≤k) {l:ac} (hl:l.length≤1099511627776):fJ.f k l=some (qd l,()):=by
 unfold fJ.f fJ.t qd
 refine (pV (L:=fun n i=>fJ.l0 k n l l l.length i) (Ty.dflt aA) l sF (some (decide ((l.length:Int)≤20),())) (some (false,())) (fun n=>?_) (fun n x h hx=>?_) (fun n i x y h0 h1 hx hy=>?_) (n:=k) (by omega)).trans (by cases qO sF none l <;> cases decide ((l.length:Int)≤20) <;> rfl)
 · simp (disch:=omega) only [fJ.l0,fJ.b0,aQ (show ¬ (l.length:Int)<(l.length:Int) by omega),aN]
 · simp (disch:=omega) only [fJ.l0,fJ.b0,aP (show (0:Int)<(l.length:Int) by omega),aZ,aG,hx,pt k,kR k,aO,aQ (show ¬ (0:Int) > 0 by omega),aN,aD,sF,rL]
   cases decide (1≤(x.1.size:Int)∧(x.1.size:Int)≤8) <;> cases decide ((1:Int)≤x.2.1∧x.2.1≤100000) <;> cases decide (x.2.2.1<(0:Int)) <;> cases decide ((1:Int)≤x.2.2.2.1∧x.2.2.2.1≤210) <;> cases decide ((1:Int)≤x.2.2.2.2.1∧x.2.2.2.2.1≤1000000) <;> rfl
 · simp (disch:=omega) only [fJ.l0,fJ.b0,aP h1,aZ,aG,hx,hy,pt k,kR k,aO,aP (show i > 0 by omega),aN,aD,sF,rL]
   cases decide (1≤(x.1.size:Int)∧(x.1.size:Int)≤8) <;> cases decide ((1:Int)≤x.2.1∧x.2.1≤100000) <;> cases decide (x.2.2.1<(0:Int)) <;> cases decide ((1:Int)≤x.2.2.2.1∧x.2.2.2.1≤210) <;> cases decide ((1:Int)≤x.2.2.2.2.1∧x.2.2.2.2.1≤1000000) <;> cases mv y.1 x.1 <;> rfl
def D3:ac→ByteArray→Option (Ty.den aA)
 | [],_=>none
 | e::l,s=>bif seq e.1 s then some e else D3 l s
def Iu:Ty.den aA:=(ByteArray.empty,(0,(0,(0,(0,())))))
def Iv:Option (Ty.den aA)→Option (Ty.den aA × Bool × Unit)
 | none=>some (Iu,(false,()))
 | some e=>some (e,(true,()))
theorem yi {k:Nat} (hk:2 ^ 50≤k) {l:ac} (hl:l.length≤1099511627776) (s:ByteArray):gF.f k l s=Iv (D3 l s):=by
 unfold gF.f gF.t
 refine du (L:=fun n i (_:Unit)=>gF.l0 k n l s i ByteArray.empty 0 0 0 0) (R:=fun r _=>Iv (D3 r s)) (Ty.dflt aA) l (fun _ _=>True) (fun n _ _=>?_) (fun n i _ x rest h0 h1 hx hr hp ih=>?_) (n:=k) (s:=()) (by omega) trivial
 · simp (disch:=omega) only [gF.l0,gF.b0,aQ,aN,D3]
   rfl
 · have ih:=ih () trivial
   simp (disch:=omega) only [gF.l0,gF.b0,aP h1,aZ,aG,hx,aD,ih,D3]
   cases seq x.1 s <;> rfl
def Ie:Ty.den aE:=(ByteArray.empty,(ByteArray.empty,(0,())))
noncomputable def me (d:Ty.den a_) (e:Ty.den aA):Ty.den bU × Bool:=nl (aS d (aB aK e.2.1)).1 e.2.2.1 e.2.2.2.1
noncomputable def yX (l:ac) (d:Ty.den a_) (key:ByteArray):Ty.den aE × Int :=
 match D3 l key with
 | none=>(Ie,8)
 | some e=>bif (me d e).2&&(seq (me d e).1.2.2.1 key&&(((me d e).1.1==1)||((me d e).1.1==4))) then ((key,((me d e).1.2.2.2.1,((me d e).1.2.1,()))),0) else (Ie,3)
theorem CS (i n:Int):nl ⟨#[]⟩ i n=(sW,false):=by
 unfold nl
 rw [if_neg]
 rintro ⟨h1,h2,h3,h4⟩
 have:((⟨#[]⟩:ByteArray).size:Int)=0:=rfl
 omega
theorem Ej {d:Ty.den a_} {s:ByteArray} (h:(aS d s).2=false):(aS d s).1=⟨#[]⟩:=by
 unfold aS at h ⊢
 generalize fh d=b at h ⊢
 generalize bg d.1 s=o at h ⊢
 cases b <;> cases o <;> first | rfl | cases h
theorem FB {d:Ty.den a_} {e:Ty.den aA} (h:(me d e).2=true):(aS d (aB aK e.2.1)).2=true:=by
 cases c:(aS d (aB aK e.2.1)).2 with
 | true=>rfl
 | false =>
  unfold me at h
  rw [Ej c,CS] at h
  cases h
theorem Da {k:Nat} (hk:2 ^ 50≤k) {st:Ty.den aI} {d:Ty.den a_} (hd:xy d) (hl:st.2.1.length≤1099511627776) (key:ByteArray):mQ.f k st d key=some ((yX st.2.1 d key).1,((yX st.2.1 d key).2,())):=by
 have:=hd.l;have:=hd.u;have:=hd.n
 unfold mQ.f mQ.t yX
 rw [yi hk hl]
 cases D3 st.2.1 key with
 | none=>rfl
 | some e =>
  unfold Iv
  have hz:=fZ d (aB aK e.2.1)
  simp only [aO,fV,aN,bV hk]
  rw [fa hk (by omega) (by omega) (by omega),aO]
  simp only []
  rw [t6 hk _ _ (by omega),aO]
  change (bif !(aS d (aB aK e.2.1)).2 then _ else bif !(me d e).2 then _ else bif !seq (me d e).1.2.2.1 key then _ else bif !((me d e).1.1==1) then bif !((me d e).1.1==4) then _ else some ((key,((me d e).1.2.2.2.1,((me d e).1.2.1,()))),(0,())) else some ((key,((me d e).1.2.2.2.1,((me d e).1.2.1,()))),(0,())))=_
  cases c:(me d e).2 with
  | false=>cases (aS d (aB aK e.2.1)).2 <;> rfl
  | true =>
   rw [FB c]
   cases seq (me d e).1.2.2.1 key <;> cases ((me d e).1.1==1) <;> cases ((me d e).1.1==4) <;> rfl
noncomputable def vM (l:ac) (d:Ty.den a_):List ByteArray→lS→lS × Int
 | [],acc=>(acc,0)
 | key::r,acc=>bif (yX l d key).2 != 0 then ([],(yX l d key).2) else vM l d r (acc++[(yX l d key).1])
noncomputable def oD (l:ac) (d:Ty.den a_):lS × Int:=vM l d (l.map (·.1)) []
theorem ze (l:ac) (d:Ty.den a_):∀ (r:List ByteArray) (acc:lS),(vM l d r acc).1.length≤acc.length+r.length
 | [],acc=>Nat.le_refl _
 | key::r,acc=>by
  unfold vM
  cases (yX l d key).2 != 0 with
  | true=>exact Nat.zero_le _
  | false =>
   have:=ze l d r (acc++[(yX l d key).1])
   rw [bJ] at this
   rw [aN,lM]
   omega
theorem zi (l:ac) (d:Ty.den a_):(oD l d).1.length≤l.length:=by
 have:=ze l d (l.map (·.1)) []
 rw [List.length_map,List.length_nil] at this
 unfold oD
 omega
theorem Bh {k:Nat} (hk:2 ^ 50≤k) {st:Ty.den aI} {d:Ty.den a_} (hd:xy d) (hl:st.2.1.length≤1099511627775):iZ.f k st d=some ((oD st.2.1 d).1,((oD st.2.1 d).2,())):=by
 unfold iZ.f iZ.t oD
 refine du (L:=fun n i s=>iZ.l0 k n i st.1.1 st.1.2.1 st.2.1 st.2.2.1 st.2.2.2.1 st.2.2.2.2.1 d.1 d.2.1 d.2.2.1 d.2.2.2.1 s) (R:=fun r s=>some ((vM st.2.1 d (r.map (·.1)) s).1,((vM st.2.1 d (r.map (·.1)) s).2,()))) (Ty.dflt aA) st.2.1 (fun i s=>(s.length:Int)=i) (fun n s hs=>?_) (fun n i s x rest h0 h1 hx hr hp ih=>?_) (n:=k) (s:=[]) (by omega) rfl
 · simp (disch:=omega) only [iZ.l0,iZ.b0,aQ,aN,List.map_nil,vM]
 · have hg:=Da hk (st:=st) (d:=d) hd (by omega) x.1
   have ih:=ih (s++[(yX st.2.1 d x.1).1]) (by rw [bJ];omega)
   simp (disch:=first | omega | decide) only [iZ.l0,iZ.b0,aP h1,aZ,aG,hx,hg,aO,bK,aD,ih,List.map_cons,vM]
   cases (yX st.2.1 d x.1).2 != 0 <;> rfl
noncomputable def Gh (d:Ty.den a_) (tail:Int) (x:Int) (last:Bool):Bool :=
 (aS d (aB aK x)).2&&(decide ((ay (aS d (aB aK x)).1).2=((aS d (aB aK x)).1.size:Int))&&(!last||(tail==((aS d (aB aK x)).1.size:Int))))
noncomputable def qt (d:Ty.den a_) (tail:Int):List Int→Bool
 | []=>true
 | x::l=>Gh d tail x l.isEmpty&&qt d tail l
noncomputable def CD (d:Ty.den a_) (next:Int) (e:Ty.den aA):Bool :=
 (me d e).2&&(seq (me d e).1.2.2.1 e.1&&(((me d e).1.2.1==e.2.2.2.2.1)&&((((me d e).1.1==1)||((me d e).1.1==4))&&!decide (e.2.2.2.2.1≥next))))
noncomputable def m9 (st:Ty.den aI) (d:Ty.den a_):Bool :=
 fh d&&(dR st.1&&(qd st.2.1&&(decide ((1:Int)≤st.2.2.1∧st.2.2.1≤1000001)&&(qt d st.2.2.2.1 st.1.2.1&&st.2.1.all (CD d st.2.2.1)))))
theorem Bt {α:Type} {l:List α} {i:Int} {x:α} {rest:List α} (h0:0≤i) (h:l.drop i.toNat=x::rest):rest.isEmpty=decide (i+1=(l.length:Int)):=by
 have:=congrArg List.length h
 rw [List.length_drop,lM] at this
 cases rest with
 | nil=>rw [aP (by rw [List.length_nil] at this;omega)];rfl
 | cons y r=>rw [aQ (by rw [lM] at this;omega)];rfl
theorem u7 {k:Nat} (hk:2 ^ 50≤k) {st:Ty.den aI} {d:Ty.den a_} (hd:xy d):cG.f k st d=some (m9 st d,()):=by
 have:=hd.l;have:=hd.u;have:=hd.n
 unfold cG.f cG.t m9
 rw [kI hk (by omega) (by omega),aO]
 cases fh d with
 | false=>rfl
 | true =>
  rw [fV,aN,rQ hk,aO,Bool.true_and]
  cases cl:dR st.1 with
  | false=>rfl
  | true =>
   rw [fV,aN,xh hk,aO,Bool.true_and]
   cases cd:qd st.2.1 with
   | false=>rfl
   | true =>
    rw [fV,aN,gS,aO,Bool.true_and]
    cases decide ((1:Int)≤st.2.2.1∧st.2.2.1≤1000001) with
    | false=>rfl
    | true =>
     rw [fV,aN,Bool.true_and]
     have hl:st.1.2.1.length≤60:=by
      unfold dR at cl
      rw [kC,kC,decide_eq_true_eq,decide_eq_true_eq] at cl
      omega
     have he:st.2.1.length≤20:=by
      unfold qd at cd
      rw [kC,decide_eq_true_eq] at cd
      omega
     have l1:cG.l1 k k 0 st.1.1 st.1.2.1 st.2.1 st.2.2.1 st.2.2.2.1 st.2.2.2.2.1 d.1 d.2.1 d.2.2.1 d.2.2.2.1=some (st.2.1.all (CD d st.2.2.1),()):=by
      refine du (L:=fun n i (_:Unit)=>cG.l1 k n i st.1.1 st.1.2.1 st.2.1 st.2.2.1 st.2.2.2.1 st.2.2.2.2.1 d.1 d.2.1 d.2.2.1 d.2.2.2.1) (R:=fun r _=>some (r.all (CD d st.2.2.1),())) (Ty.dflt aA) st.2.1 (fun _ _=>True) (fun n _ _=>?_) (fun n i _ x rest h0 h1 hx hr hp ih=>?_) (n:=k) (s:=()) (by omega) trivial
      · simp (disch:=omega) only [cG.l1,cG.b1,aQ,aN,List.all_nil]
      · have ih:=ih () trivial
        have hz:=fZ d (aB aK x.2.1)
        have ht:=fa hk (d:=d) (by omega) (by omega) (by omega) (aB aK x.2.1)
        have hr:=t6 hk (s:=(aS d (aB aK x.2.1)).1) x.2.2.1 x.2.2.2.1 (by omega)
        simp (disch:=omega) only [cG.l1,cG.b1,aP h1,aZ,aG,hx,bV hk,aO,ht,hr,aD,ih,List.all_cons,CD,me,bne]
        cases (nl (aS d (aB aK x.2.1)).1 x.2.2.1 x.2.2.2.1).2 <;> cases seq (nl (aS d (aB aK x.2.1)).1 x.2.2.1 x.2.2.2.1).1.2.2.1 x.1 <;> cases ((nl (aS d (aB aK x.2.1)).1 x.2.2.1 x.2.2.2.1).1.2.1==x.2.2.2.2.1) <;>
         cases ((nl (aS d (aB aK x.2.1)).1 x.2.2.1 x.2.2.2.1).1.1==1) <;> cases ((nl (aS d (aB aK x.2.1)).1 x.2.2.1 x.2.2.2.1).1.1==4) <;> cases decide (x.2.2.2.2.1≥st.2.2.1) <;> rfl
     refine (du (L:=fun n i (_:Unit)=>cG.l0 k n i st.1.1 st.1.2.1 st.2.1 st.2.2.1 st.2.2.2.1 st.2.2.2.2.1 d.1 d.2.1 d.2.2.1 d.2.2.2.1) (R:=fun r _=>some (qt d st.2.2.2.1 r&&st.2.1.all (CD d st.2.2.1),())) (Ty.dflt (.int .i64)) st.1.2.1 (fun _ _=>True) (fun n _ _=>?_) (fun n i _ x rest h0 h1 hx hr hp ih=>?_) (n:=k) (s:=()) (by omega) trivial)
     · simp (disch:=omega) only [cG.l0,cG.b0,aQ,aN,qt,l1,Bool.true_and]
     · have ih:=ih () trivial
       have hz:=fZ d (aB aK x)
       have ht:=fa hk (d:=d) (by omega) (by omega) (by omega) (aB aK x)
       have hs:=lO hk (s:=(aS d (aB aK x)).1) (by omega)
       have hle:=(gC (aS d (aB aK x)).1).2.2
       have hlast:=Bt h0 hr
       simp (disch:=omega) only [cG.l0,cG.b0,aP h1,aZ,aG,hx,bV hk,aO,ht,hs,aD,ih,qt,Gh,bne,hlast]
       rw [show ((i+1:Int)==(st.1.2.1.length:Int))=decide (i+1=(st.1.2.1.length:Int)) from rfl]
       cases (aS d (aB aK x)).2 with
       | false=>rfl
       | true =>
        by_cases q:(ay (aS d (aB aK x)).1).2=((aS d (aB aK x)).1.size:Int)
        · rw [aP q,aQ (by omega)]
          cases decide (i+1=(st.1.2.1.length:Int)) <;> cases (st.2.2.2.1==((aS d (aB aK x)).1.size:Int)) <;> rfl
        · rw [aQ q,aP (by omega)]
          rfl
end Go.Proofs.YtohaanhjddohmaaGreatDoor.G
namespace Go.Proofs.YtohaanhjddohmaaGreatDoor.G
open Go.V
theorem Gs (s:ByteArray):ByteArray.extract s s.size s.size=⟨#[]⟩:=kx (by rw [iy,List.drop_eq_nil_of_le (by rw [cX];omega)];rfl)
theorem FR (s:ByteArray):∀ (d d':Nat) (i:Int),0≤i→i≤s.size→(s.size:Int)-i<d→(ij s d i).2-i<d'→ij (ByteArray.extract s 0 (ij s d i).2.toNat) d' i=ij s d i:=by
 intro d
 induction d with
 | zero=>intro d' i h0 h1 h2;omega
 | succ d ih =>
  intro d' i h0 h1 h2 h3
  have hu:=nH (ByteArray.extract s i.toNat s.size)
  have hz:=p9 s i.toNat
  have stop:∀ d':Nat,0<d'→ij (ByteArray.extract s 0 i.toNat) d' i=([],i):=fun d' hd=>by
   obtain ⟨n,rfl⟩:∃ q,d'=q+1:=⟨d'-1,by omega⟩
   have hs:(ByteArray.extract s 0 i.toNat).size=i.toNat:=rV s (by omega)
   have e:ByteArray.extract (ByteArray.extract s 0 i.toNat) i.toNat (ByteArray.extract s 0 i.toNat).size=⟨#[]⟩:=by
    have:=Gs (ByteArray.extract s 0 i.toNat)
    rw [hs] at this ⊢
    exact this
   rw [ij,e,Eh,if_pos rfl]
  by_cases c1:(iP (ByteArray.extract s i.toNat s.size)).2=0
  · have e:ij s (d+1) i=([],i):=by rw [ij,if_pos c1]
    rw [e] at h3 ⊢
    exact stop d' (by simp only [] at h3;omega)
  · cases c2:(jV (iP (ByteArray.extract s i.toNat s.size)).1).2 with
    | false =>
     have e:ij s (d+1) i=([],i):=by rw [ij,if_neg c1,if_pos c2]
     rw [e] at h3 ⊢
     exact stop d' (by simp only [] at h3;omega)
    | true =>
     have e:ij s (d+1) i=(((i,((iP (ByteArray.extract s i.toNat s.size)).2,((jV (iP (ByteArray.extract s i.toNat s.size)).1).1,()))):Ty.den bM)::(ij s d (i+(iP (ByteArray.extract s i.toNat s.size)).2)).1,(ij s d (i+(iP (ByteArray.extract s i.toNat s.size)).2)).2):=by
      rw [ij,if_neg c1,if_neg (by rw [c2];decide)]
     rw [e] at h3 ⊢
     simp only [] at h3 ⊢
     have hl:=uk s d (i+(iP (ByteArray.extract s i.toNat s.size)).2) (by omega) (by omega)
     obtain ⟨n,rfl⟩:∃ q,d'=q+1:=⟨d'-1,by omega⟩
     have ih:=ih n (i+(iP (ByteArray.extract s i.toNat s.size)).2) (by omega) (by omega) (by omega) (by omega)
     have key:iP (ByteArray.extract (ByteArray.extract s 0 (ij s d (i+(iP (ByteArray.extract s i.toNat s.size)).2)).2.toNat) i.toNat (ByteArray.extract s 0 (ij s d (i+(iP (ByteArray.extract s i.toNat s.size)).2)).2.toNat).size)=iP (ByteArray.extract s i.toNat s.size):=by
      generalize (ij s d (i+(iP (ByteArray.extract s i.toNat s.size)).2)).2=x at hl ⊢
      rcases nG (ByteArray.extract s i.toNat s.size) with ⟨t,r,ht,e1,e2⟩ | ⟨e2,_⟩
      · rw [e2] at hl ⊢
        simp only [] at hl
        have e3:ByteArray.extract (ByteArray.extract s 0 x.toNat) i.toNat (ByteArray.extract s 0 x.toNat).size=ah t++ByteArray.extract r 0 (x.toNat-i.toNat-(ah t).size):=by
         apply kx
         have hnb:=congrArg nb e1
         rw [iy,iL] at hnb
         rw [iy,kJ,iL,kJ,List.drop_take,hnb,List.take_append,cX,List.take_of_length_le (by rw [cX];omega)]
        rw [e3,pA _ ht]
      · exact absurd (by rw [e2]) c1
     rw [ij,key,if_neg c1,if_neg (by rw [c2];decide),ih]
theorem zx (s:ByteArray):ay (ByteArray.extract s 0 (ay s).2.toNat)=ay s:=by
 have hl:=gC s
 have:=FR s (s.size+1) ((ay s).2.toNat+1) 0 (by omega) (by omega) (by omega) (by show (ay s).2-0<_;omega)
 have hz:=rV s (n:=(ay s).2.toNat) (by omega)
 unfold ay at hz ⊢
 rw [hz]
 exact this
theorem rW {h:Ty.den bR→Ty.den bR} (hh:∀ f,(h f).1=f.1):∀ (l:bO) (s t:ByteArray),bg (ly h l s) t=bif seq t s then (bg l s).map h else bg l t
 | [],s,t=>by cases seq t s <;> rfl
 | g::l,s,t=>by
  unfold ly
  cases c:seq g.1 s with
  | true =>
   have e:=dY.1 c
   rw [aZ,bg.eq_2,hh,bg.eq_2,c,aZ]
   by_cases q:t=s
   · rw [e,q,cm];rfl
   · rw [lb q,aN,bg.eq_2]
     rw [e,lb (fun w=>q w.symm)]
     rfl
  | false =>
   rw [aN,bg.eq_2,bg.eq_2,c,aN,rW hh l s t,bg.eq_2]
   by_cases q:t=s
   · rw [q,cm,c];rfl
   · rw [lb q];rfl
theorem nF {d:Ty.den a_} {g:bO→Int→bO × Int} (h:(ii d g).2=0):(g d.1 d.2.1).2=0∧(ii d g).1.1=(g d.1 d.2.1).1:=by
 unfold ii at h ⊢
 cases c:(kA d).2 != 0 with
 | true =>
  rw [c,aZ] at h
  rw [h] at c
  cases c
 | false=>rw [c] at h;exact ⟨h,rfl⟩
theorem lK {d:Ty.den a_} (h:DR d) (s:ByteArray):aS d s=match bg d.1 s with | none=>(⟨#[]⟩,false) | some f=>(f.2.1,true):=by
 unfold aS
 rw [iH.2 h]
 rfl
theorem qW {d:Ty.den a_} (h:DR d) {n:ByteArray} (c:(j8 d n).2=0) (s:ByteArray):aS (j8 d n).1 s=aS d s:=by
 obtain ⟨c1,c2⟩:=nF c
 rw [lK (nS h n),lK h]
 unfold j8
 rw [c2]
 unfold Am at c1 ⊢
 cases hg:(bg d.1 n).isNone with
 | true=>rfl
 | false =>
  rw [aN]
  show (match bg (ly _ d.1 n) s with | none=>_ | some f=>_)=_
  rw [rW (by intro f;rfl)]
  by_cases q:s=n
  · rw [q,cm,aZ]
    cases bg d.1 n <;> rfl
  · rw [lb q,aN]
theorem xF {d:Ty.den a_} (h:DR d) {n:ByteArray} {m:Int} (c:(mm d n m).2=0) (s:ByteArray):aS (mm d n m).1 s=bif seq s n then (ByteArray.extract (aS d n).1 0 m.toNat,true) else aS d s:=by
 obtain ⟨c1,c2⟩:=nF c
 rw [lK (ug h n m),lK h,lK h]
 unfold mm
 rw [c2]
 unfold C9 at c1 ⊢
 cases hg:bg d.1 n with
 | none=>rw [hg] at c1;cases c1
 | some f =>
  rw [hg] at c1
  simp only [] at c1 ⊢
  cases hm:decide (0≤m∧m≤(f.2.1.size:Int)) with
  | false=>rw [hm] at c1;cases c1
  | true =>
   simp only [fV,aN]
   rw [rW (by intro f;rfl)]
   by_cases q:s=n
   · rw [q,cm,aZ,hg];rfl
   · rw [lb q,aN,aN]
theorem km {r:RD} {f:Ty.den a_→RD} (h:(ga r f).2=0):r.2=0∧ga r f=f r.1∧(f r.1).2=0:=by
 unfold ga at h ⊢
 cases c:r.2==0 with
 | true=>rw [c] at h;exact ⟨E7 c,rfl,h⟩
 | false =>
  rw [c] at h
  rw [aN] at h
  rw [h] at c
  cases c
noncomputable def d5 (d:Ty.den a_) (x:Int):ByteArray:=(aS d (aB aK x)).1
def aa (ids:List Int):Int:=ids.getD (ids.length-1) 0
noncomputable def fq (x:Int) (d:Ty.den a_):RD :=
 ga (bif decide ((ay (d5 d x)).2<((d5 d x).size:Int)) then mm d (aB aK x) (ay (d5 d x)).2 else (d,0)) fun y=>j8 y (aB aK x)
theorem DK (x:Int) {d:Ty.den a_} (h:DR d):DR (fq x d).1:=by
 unfold fq
 refine ke ?_ fun y hy=>nS hy _
 cases decide ((ay (d5 d x)).2<((d5 d x).size:Int))
 · exact h
 · exact ug h _ _
theorem BV {d:Ty.den a_} (h:DR d) {x:Int} (c:(fq x d).2=0) (s:ByteArray):(aS (fq x d).1 s).2=(aS d s).2∧ay (aS (fq x d).1 s).1=ay (aS d s).1:=by
 obtain ⟨c1,c2,c3⟩:=km c
 have e:fq x d=_:=c2
 rw [e]
 by_cases hb:(ay (d5 d x)).2<((d5 d x).size:Int)
 · simp only [aP hb,aZ] at c1 c3 ⊢
   rw [qW (ug h _ _) c3,xF h c1]
   by_cases q:s=aB aK x
   · rw [q,cm,aZ]
     refine ⟨?_,zx (d5 d x)⟩
     cases hq:(aS d (aB aK x)).2 with
     | true=>rfl
     | false =>
      exfalso
      unfold d5 at hb
      have hl:=gC (aS d (aB aK x)).1
      rw [Ej hq] at hb hl
      rw [e0] at hb
      omega
   · rw [lb q];exact ⟨rfl,rfl⟩
 · simp only [aQ hb,aN] at c1 c3 ⊢
   rw [qW h c3]
   exact ⟨rfl,rfl⟩
end Go.Proofs.YtohaanhjddohmaaGreatDoor.G
namespace Go.Proofs.YtohaanhjddohmaaGreatDoor.G
open Go.V
abbrev s_:=List (Ty.den gT)
def qm (x:Ty.den gT):Bool:=rL x.1&&(decide ((x.2.2.1.size:Int)≤24)&&(!x.2.1||seq x.2.2.1 ⟨#[]⟩))
def mu (l:s_):Bool:=qO (fun _=>qm) none l&&decide (l.length≤8)
theorem yn {k:Nat} (hk:2 ^ 50≤k) (l:s_):fK.f k l=some (mu l,()):=by
 unfold fK.f fK.t mu
 by_cases c:l.length > 8
 · rw [aP (by omega),aZ,aQ (by omega),Bool.and_false]
 · rw [aQ (by omega),aN,aP (by omega),Bool.and_true]
   have st:∀ (n:Nat) (i:Int) x,0≤i→i<l.length→l.getD i.toNat (Ty.dflt gT)=x→fK.l0 k (n+1) l i=bif qm x then fK.l0 k n l (i+1) else some (false,()):=fun n i x h0 h1 hx=>by
    simp (disch:=omega) only [fK.l0,fK.b0,aP h1,aZ,aG,hx,n6 k,aO,aD,qm,rL]
    by_cases c2:(x.2.2.1.size:Int) > 24
    · rw [aP c2,aQ (show ¬ (x.2.2.1.size:Int)≤24 by omega)]
      cases decide (1≤(x.1.size:Int)∧(x.1.size:Int)≤8) <;> rfl
    · rw [aQ c2,aP (show (x.2.2.1.size:Int)≤24 by omega)]
      cases decide (1≤(x.1.size:Int)∧(x.1.size:Int)≤8) <;> cases x.2.1 <;> cases seq x.2.2.1 ⟨#[]⟩ <;> rfl
   exact (pV (L:=fun n i=>fK.l0 k n l i) (Ty.dflt gT) l (fun _=>qm) (some (true,())) (some (false,())) (fun n=>by simp (disch:=omega) only [fK.l0,fK.b0,aQ,aN])
    (fun n x h hx=>st n 0 x (by omega) (by omega) hx) (fun n i x y h0 h1 hx hy=>st n i x (by omega) h1 hx) (n:=k) (by omega)).trans (by cases qO (fun _=>qm) none l <;> rfl)
theorem sn {l:s_} (h:mu l=true):l.length≤8:=by
 unfold mu at h
 rw [kC,decide_eq_true_eq] at h
 exact h.2
theorem Du {l:s_} (h:mu l=true) {x:Ty.den gT} (hx:x ∈ l):qm x=true:=by
 unfold mu at h
 rw [kC] at h
 exact (BG h.1 hx).elim fun _ q=>q
def nA (b:Int) (p:Ty.den gT):Ty.den bU:=bif p.2.1 then (2,(b,(p.1,(ByteArray.empty,(0,(0,())))))) else (1,(b,(p.1,(p.2.2.1,(0,(0,()))))))
def xS (l:s_) (b:Int):mh:=l.map (nA b)++[j_ 3 b (l.map (nA b))]
def dJ (r:Ty.den bU):Int:=((ah (aU r)).size:Int)
theorem m7 (r:Ty.den bU):0≤dJ r∧dJ r≤211:=by
 have:=i7 (aU r)
 unfold dJ
 omega
theorem FF {x:Ty.den gT} (b:Int) (h:qm x=true):nA b x=bif x.2.1 then (2,(b,(x.1,(x.2.2.1,(0,(0,())))))) else (1,(b,(x.1,(x.2.2.1,(0,(0,())))))):=by
 unfold nA
 unfold qm at h
 rw [kC,kC] at h
 cases c:x.2.1 with
 | false=>rfl
 | true =>
  rw [c] at h
  have:x.2.2.1=⟨#[]⟩:=dY.1 h.2.2
  rw [this]
  rfl
end Go.Proofs.YtohaanhjddohmaaGreatDoor.G
namespace Go.Proofs.YtohaanhjddohmaaGreatDoor.G
open Go.V
def jI (l:ac) (key:ByteArray):ac:=l.filter fun x=>!(seq x.1 key)
def I4 (key:ByteArray) (x:Ty.den aA):Bool:=mv x.1 key||seq x.1 key
def sa (l:ac) (e:Ty.den aA):ac:=l.takeWhile (I4 e.1)++e::l.dropWhile (I4 e.1)
def uJ (l:ac) (e:Ty.den aA):ac:=sa (jI l e.1) e
theorem p8 (l:ac) (key:ByteArray):(jI l key).length≤l.length:=List.length_filter_le ..
theorem Bf (l:ac) (e:Ty.den aA):(sa l e).length=l.length+1:=by
 unfold sa
 rw [vW,lM]
 have:=congrArg List.length (List.takeWhile_append_dropWhile (p:=I4 e.1) (l:=l))
 rw [vW] at this
 omega
theorem Cg (l:ac) (e:Ty.den aA):(uJ l e).length≤l.length+1:=by
 unfold uJ
 have:=p8 l e.1
 rw [Bf]
 omega
theorem oj {k:Nat} (hk:2 ^ 50≤k) {l:ac} (e:Ty.den aA) (hl:l.length≤1073741823):bn.f k l e=some (uJ l e,()):=by
 unfold bn.f bn.t
 refine (du (L:=fun n i (s:Bool × ac)=>bn.l0 k n l s.1 i e.1 e.2.1 e.2.2.1 e.2.2.2.1 e.2.2.2.2.1 s.2) (R:=fun r s=>some (s.2++bif s.1 then jI r e.1 else sa (jI r e.1) e,())) (Ty.dflt aA) l (fun i s=>(s.2.length:Int)≤2*i+1) (fun n s hs=>?_) (fun n i s x rest h0 h1 hx hr hp ih=>?_) (n:=k) (s:=(false,[])) (by omega) (by simp)).trans (by rw [List.nil_append];rfl)
 · obtain ⟨dn,out⟩:=s
   simp only [] at hs
   cases dn with
   | true=>simp (disch:=first | omega | decide) only [bn.l0,bn.b0,aQ,aN,aZ,fV,jI,List.filter_nil,List.append_nil]
   | false=>simp (disch:=first | omega | decide) only [bn.l0,bn.b0,aQ,aN,aZ,ot,bK,jI,List.filter_nil,sa,List.takeWhile_nil,List.dropWhile_nil,List.nil_append]
 · obtain ⟨dn,out⟩:=s
   simp only [] at hp
   cases c:seq x.1 e.1 with
   | true =>
    simp (disch:=omega) only [bn.l0,bn.b0,aP,aZ,aG,hx,c,aD]
    refine (ih (dn,out) (by simp only [];omega)).trans ?_
    simp only [jI,List.filter_cons,c,fV,Bool.false_eq_true,if_false]
   | false =>
    have ef:jI (x::rest) e.1=x::jI rest e.1:=by simp only [jI,List.filter_cons,c,ot,if_true]
    cases dn with
    | true =>
     simp (disch:=first | omega | decide) only [bn.l0,bn.b0,aP,aZ,aN,aG,hx,c,aD,fV,bK]
     refine (ih (true,out++[x]) (by simp only [bJ];omega)).trans ?_
     rw [ef]
     simp only [aZ,rX,List.cons_append,List.nil_append]
    | false =>
     cases c2:mv x.1 e.1 with
     | true =>
      simp (disch:=first | omega | decide) only [bn.l0,bn.b0,aP,aZ,aN,aG,hx,c,c2,aD,ot,fV,Bool.true_or,bK]
      refine (ih (false,out++[x]) (by simp only [bJ];omega)).trans ?_
      rw [ef]
      simp only [aN,sa,I4,List.takeWhile_cons,List.dropWhile_cons,c2,Bool.true_or,if_true,rX,List.cons_append,List.nil_append]
     | false =>
      have hx2:(out++[(e.1,(e.2.1,(e.2.2.1,(e.2.2.2.1,(e.2.2.2.2.1,())))))]:ac).length+1≤1099511627776:=by rw [bJ];omega
      simp (disch:=first | omega | decide) only [bn.l0,bn.b0,aP,aZ,aN,aG,hx,c,c2,aD,ot,Bool.or_false,bK]
      refine (ih (true,(out++[e])++[x]) (by simp only [bJ];omega)).trans ?_
      rw [ef]
      simp only [aZ,aN,sa,I4,List.takeWhile_cons,List.dropWhile_cons,c,c2,Bool.or_false,Bool.false_eq_true,if_false,rX,List.cons_append,List.nil_append]
end Go.Proofs.YtohaanhjddohmaaGreatDoor.G
namespace Go.Proofs.YtohaanhjddohmaaGreatDoor.G
open Go.V
abbrev an:=List (Ty.den aC)
def mT (b:Int) (acc:an) (p:Ty.den aC):an :=
 bif p.2.2.2.1.2.1==b then (bif p.2.2.2.1.1==3 then [] else bif p.2.2.2.1.1==1||p.2.2.2.1.1==2 then acc++[p] else acc) else acc
def lr (acc:an) (p:Ty.den aC):an:=bif p.2.2.2.1.1==5 then [] else bif p.2.2.2.1.1==4 then acc++[p] else acc
def jK (b:Int) (l:an):an:=l.foldl (mT b) []
def hF (l:an):an:=l.foldl lr []
theorem pz (b:Int) (acc:an) (p:Ty.den aC):(mT b acc p).length≤acc.length+1:=by
 unfold mT
 cases p.2.2.2.1.2.1==b <;> cases p.2.2.2.1.1==3 <;> cases p.2.2.2.1.1==1 <;> cases p.2.2.2.1.1==2 <;> simp
theorem pZ (acc:an) (p:Ty.den aC):(lr acc p).length≤acc.length+1:=by
 unfold lr
 cases p.2.2.2.1.1==5 <;> cases p.2.2.2.1.1==4 <;> simp
theorem ub {f:an→Ty.den aC→an} (h:∀ a p,(f a p).length≤a.length+1):∀ (l acc:an),(l.foldl f acc).length≤acc.length+l.length
 | [],acc=>by simp
 | p::l,acc=>by
  have:=ub h l (f acc p)
  have:=h acc p
  rw [List.foldl_cons,lM]
  omega
theorem mi (b:Int) (l:an):(jK b l).length≤l.length:=by
 have:=ub (pz b) l []
 simpa [jK] using this
theorem qa (l:an):(hF l).length≤l.length:=by
 have:=ub pZ l []
 simpa [hF] using this
theorem yw {k:Nat} (hk:2 ^ 50≤k) {l:an} {e:Int} (b:Int) (h0:0≤e) (he:e≤l.length) (hl:l.length≤1099511627775):gj.f k l e b=some (jK b (l.take e.toNat),()):=by
 unfold gj.f gj.t
 have hlen:(l.take e.toNat).length=e.toNat:=by rw [List.length_take];omega
 have he':e=((l.take e.toNat).length:Int):=by omega
 conv=>lhs;rw [he']
 refine du (L:=fun n i s=>gj.l0 k n l ((l.take e.toNat).length:Int) b i s) (R:=fun r s=>some (r.foldl (mT b) s,())) (Ty.dflt aC) (l.take e.toNat) (fun i s=>(s.length:Int)≤i) (fun n s hs=>?_) (fun n i s x rest h0 h1 hx hr hp ih=>?_) (n:=k) (s:=[]) (by omega) (by decide)
 · simp (disch:=omega) only [gj.l0,gj.b0,aQ,aN,List.foldl_nil]
 · rw [kV (by omega)] at hx
   have ih:=fun s' (h:s'.length≤s.length+1)=>ih s' (by omega)
   simp (disch:=omega) only [gj.l0,gj.b0,aP h1,aZ,aG,hx,aD]
   rw [List.foldl_cons]
   have hs1:=pz b s x
   have ih1:=ih _ hs1
   rw [← ih1]
   unfold mT
   have r1:∀ {R:Type} (q:Option R),rm (Ty.bytes aC) (s.length+1) q=q:=fun q=>bK (by omega) (by decide)
   have r2:∀ {R:Type} (q:Option R),rm (Ty.bytes aC) (0+1) q=q:=fun q=>bK (by omega) (by decide)
   simp only [r1,r2]
   cases c1:(x.2.2.2.1.2.1==b) <;> cases c2:(x.2.2.2.1.1==3) <;> cases c3:(x.2.2.2.1.1==1) <;> cases c4:(x.2.2.2.1.1==2) <;> first | rfl | skip
   all_goals (exfalso;have e2:=eq_of_beq c2;first | (rw [e2] at c3;revert c3;decide) | (rw [e2] at c4;revert c4;decide))
theorem uB {k:Nat} (hk:2 ^ 50≤k) {l:an} {r:Ty.den bU} (hr:r.1=3) (hl:l.length≤1099511627775):cS.f k l r=some (jK r.2.1 l,()):=by
 unfold cS.f cS.t
 rw [hr]
 refine du (L:=fun n i s=>cS.l0 k n l l.length i 3 r.2.1 r.2.2.1 r.2.2.2.1 r.2.2.2.2.1 r.2.2.2.2.2.1 s) (R:=fun q s=>some (q.foldl (mT r.2.1) s,())) (Ty.dflt aC) l (fun i s=>(s.length:Int)≤i) (fun n s hs=>?_) (fun n i s x rest h0 h1 hx hr hp ih=>?_) (n:=k) (s:=[]) (by omega) (by decide)
 · simp (disch:=omega) only [cS.l0,cS.b0,aQ,aN,List.foldl_nil]
 · simp (disch:=omega) only [cS.l0,cS.b0,aP h1,aZ,aN,aG,hx,aD,show ((3:Int)==3)=true from rfl,show ((3:Int)==5)=false from rfl]
   rw [List.foldl_cons]
   have hs1:=pz r.2.1 s x
   have ih1:=ih (mT r.2.1 s x) (by omega)
   rw [← ih1]
   unfold mT bne
   have r1:∀ {R:Type} (q:Option R),rm (Ty.bytes aC) (s.length+1) q=q:=fun q=>bK (by omega) (by decide)
   simp only [r1]
   cases c1:(x.2.2.2.1.2.1==r.2.1) <;> cases c2:(x.2.2.2.1.1==3) <;> cases c3:(x.2.2.2.1.1==1) <;> cases c4:(x.2.2.2.1.1==2) <;> rfl
theorem u_ {k:Nat} (hk:2 ^ 50≤k) {l:an} {r:Ty.den bU} (hr:r.1=5) (hl:l.length≤1099511627775):cS.f k l r=some (hF l,()):=by
 unfold cS.f cS.t
 rw [hr]
 refine du (L:=fun n i s=>cS.l0 k n l l.length i 5 r.2.1 r.2.2.1 r.2.2.2.1 r.2.2.2.2.1 r.2.2.2.2.2.1 s) (R:=fun q s=>some (q.foldl lr s,())) (Ty.dflt aC) l (fun i s=>(s.length:Int)≤i) (fun n s hs=>?_) (fun n i s x rest h0 h1 hx hr hp ih=>?_) (n:=k) (s:=[]) (by omega) (by decide)
 · simp (disch:=omega) only [cS.l0,cS.b0,aQ,aN,List.foldl_nil]
 · simp (disch:=omega) only [cS.l0,cS.b0,aP h1,aZ,aN,aG,hx,aD,show ((5:Int)==3)=false from rfl,show ((5:Int)==5)=true from rfl]
   rw [List.foldl_cons]
   have hs1:=pZ s x
   have ih1:=ih (lr s x) (by omega)
   rw [← ih1]
   unfold lr
   have r1:∀ {R:Type} (q:Option R),rm (Ty.bytes aC) (s.length+1) q=q:=fun q=>bK (by omega) (by decide)
   simp only [r1]
   cases c1:(x.2.2.2.1.1==5) <;> cases c2:(x.2.2.2.1.1==4) <;> rfl
def wv (p:Ty.den aC):Ty.den bU:=p.2.2.2.1
def kp (r:Ty.den bU) (own:an):Bool:=(r.2.2.2.2.1==(own.length:Int))&&(r.2.2.2.2.2.1==BW (own.map wv))
theorem oN {k:Nat} (hk:2 ^ 50≤k) (r:Ty.den bU) {l:an} (hl:l.length≤1073741823):fg.f k r l=some (kp r l,()):=by
 unfold fg.f fg.t
 refine (du (L:=fun n i s=>fg.l0 k n l l.length i r.1 r.2.1 r.2.2.1 r.2.2.2.1 r.2.2.2.2.1 r.2.2.2.2.2.1 s) (R:=fun q s=>some ((r.2.2.2.2.1==((s++q.map wv).length:Int))&&(r.2.2.2.2.2.1==BW (s++q.map wv)),())) (Ty.dflt aC) l (fun i s=>(s.length:Int)=i) (fun n s hs=>?_) (fun n i s x rest h0 h1 hx hr hp ih=>?_) (n:=k) (s:=[]) (by omega) (by decide)).trans (by rw [List.nil_append,List.length_map];rfl)
 · simp (disch:=omega) only [fg.l0,fg.b0,aQ,aN,List.map_nil,List.append_nil,AM hk,aO]
   cases (r.2.2.2.2.1==(s.length:Int)) <;> rfl
 · simp (disch:=first | omega | decide) only [fg.l0,fg.b0,aP,aZ,aG,hx,bK,aD]
   refine (ih (s++[wv x]) (by rw [bJ];omega)).trans ?_
   simp only [List.map_cons,rX,List.cons_append,List.nil_append]
theorem qY {k:Nat} (hk:2 ^ 50≤k) (r:Ty.den bU) {l:an} (hl:l.length≤1073741823):i6.f k r l=some (kp r l,()):=by
 have e:gI.f k l=some (l.map wv,()):=by
  unfold gI.f gI.t
  refine (du (L:=fun n i s=>gI.l0 k n l i s) (R:=fun q s=>some (s++q.map wv,())) (Ty.dflt aC) l (fun i s=>(s.length:Int)=i) (fun n s hs=>?_) (fun n i s x rest h0 h1 hx hr hp ih=>?_) (n:=k) (s:=[]) (by omega) (by decide)).trans (by rw [List.nil_append])
  · simp (disch:=omega) only [gI.l0,gI.b0,aQ,aN,List.map_nil,List.append_nil]
  · simp (disch:=first | omega | decide) only [gI.l0,gI.b0,aP,aZ,aG,hx,bK,aD]
    refine (ih (s++[wv x]) (by rw [bJ];omega)).trans ?_
    simp only [List.map_cons,rX,List.cons_append,List.nil_append]
 unfold i6.f i6.t kp
 rw [e,aO]
 simp only []
 rw [pm hk (by rw [List.length_map];omega),aO]
 cases (r.2.2.2.2.1==(l.length:Int)) <;> rfl
end Go.Proofs.YtohaanhjddohmaaGreatDoor.G
namespace Go.Proofs.YtohaanhjddohmaaGreatDoor.G
open Go.V
theorem rH {k:Nat} (hk:2 ^ 50≤k) {l:ac} (key:ByteArray) (hl:l.length≤1099511627775):dA.f k l key=some (jI l key,()):=by
 unfold dA.f dA.t
 refine (du (L:=fun n i s=>dA.l0 k n l key i s) (R:=fun r s=>some (s++jI r key,())) (Ty.dflt aA) l (fun i s=>(s.length:Int)≤i) (fun n s hs=>?_) (fun n i s x rest h0 h1 hx hr hp ih=>?_) (n:=k) (s:=[]) (by omega) (by decide)).trans (by rw [List.nil_append])
 · simp (disch:=omega) only [dA.l0,dA.b0,aQ,aN,jI,List.filter_nil,List.append_nil]
 · cases c:seq x.1 key with
   | true =>
    simp (disch:=first | omega | decide) only [dA.l0,dA.b0,aP,aZ,aN,aG,hx,c,fV,aD]
    refine (ih s (by omega)).trans ?_
    simp only [jI,List.filter_cons,c,fV,Bool.false_eq_true,if_false]
   | false =>
    simp (disch:=first | omega | decide) only [dA.l0,dA.b0,aP,aZ,aG,hx,c,ot,bK,aD]
    refine (ih (s++[x]) (by rw [bJ];omega)).trans ?_
    simp only [jI,List.filter_cons,c,ot,if_true,rX,List.cons_append,List.nil_append]
theorem qi {k:Nat} (hk:2 ^ 50≤k) {l:ac} (key:ByteArray) (hl:l.length≤1099511627775):dQ.f k l key=some (jI l key,()):=by
 unfold dQ.f dQ.t
 refine (du (L:=fun n i s=>dQ.l0 k n key l l.length i s) (R:=fun r s=>some (s++jI r key,())) (Ty.dflt aA) l (fun i s=>(s.length:Int)≤i) (fun n s hs=>?_) (fun n i s x rest h0 h1 hx hr hp ih=>?_) (n:=k) (s:=[]) (by omega) (by decide)).trans (by rw [List.nil_append])
 · simp (disch:=omega) only [dQ.l0,dQ.b0,aQ,aN,jI,List.filter_nil,List.append_nil]
 · cases c:seq x.1 key with
   | true =>
    simp (disch:=first | omega | decide) only [dQ.l0,dQ.b0,aP,aZ,aN,aG,hx,c,fV,aD]
    refine (ih s (by omega)).trans ?_
    simp only [jI,List.filter_cons,c,fV,Bool.false_eq_true,if_false]
   | false =>
    simp (disch:=first | omega | decide) only [dQ.l0,dQ.b0,aP,aZ,aG,hx,c,ot,bK,aD]
    refine (ih (s++[x]) (by rw [bJ];omega)).trans ?_
    simp only [jI,List.filter_cons,c,ot,if_true,rX,List.cons_append,List.nil_append]
theorem yr {k:Nat} (hk:2 ^ 50≤k) {l:ac} (e:Ty.den aA) (hl:l.length≤1099511627775):fG.f k l e=some (uJ l e,()):=by
 unfold fG.f fG.t uJ
 rw [qi hk e.1 hl,aO]
 have hd:=p8 l e.1
 simp only []
 generalize jI l e.1=r at *
 have cp:∀ q:ac,q.length≤1099511627775→fA.f k q=some (q,()):=fun q hq=>by
  unfold fA.f fA.t
  rw [bK (by omega) (by decide)]
 have key:∀ (d j n:Nat),r.length-j=d→j≤r.length→d<n→fG.l0 k n (j:Int) e.1 e.2.1 e.2.2.1 e.2.2.2.1 e.2.2.2.2.1 r=some (r.take j++sa (r.drop j) e,()):=by
  intro d
  induction d with
  | zero =>
   intro j n hd hj hn
   obtain ⟨n,rfl⟩:∃ q,n=q+1:=⟨n-1,by omega⟩
   have:j=r.length:=by omega
   subst this
   simp (disch:=first | omega | (simp only [bJ,List.length_take,List.length_drop];omega) | decide) only [fG.l0,fG.b0,aQ,aN,br,nK,cp,aO,bK]
   rw [List.drop_length,sa]
   simp
  | succ d ih =>
   intro j n hd hj hn
   obtain ⟨n,rfl⟩:∃ q,n=q+1:=⟨n-1,by omega⟩
   have hlt:j<r.length:=by omega
   have e1:r.drop j=r.getD j (Ty.dflt aA)::r.drop (j+1):=by
    rw [List.drop_eq_getElem_cons hlt]
    simp [List.getD,hlt]
   cases c:I4 e.1 (r.getD j (Ty.dflt aA)) with
   | true =>
    have c':=c
    unfold I4 at c'
    have ih:=ih (j+1) n (by omega) (by omega) (by omega)
    simp (disch:=omega) only [fG.l0,fG.b0,aP,aZ,aG,nK,c',aD]
    rw [show ((j:Int)+1)=((j+1:Nat):Int) by omega,ih,e1,jX (z:=Ty.dflt aA) hlt]
    unfold sa
    simp only [List.takeWhile_cons,List.dropWhile_cons,c,if_true,rX,List.cons_append,List.nil_append]
   | false =>
    have c':=c
    unfold I4 at c'
    simp (disch:=first | omega | (simp only [bJ,List.length_take,List.length_drop];omega) | decide) only [fG.l0,fG.b0,aP,aZ,aN,aG,nK,c',br,cp,aO,bK]
    rw [e1]
    unfold sa
    simp only [List.takeWhile_cons,List.dropWhile_cons,c,Bool.false_eq_true,if_false,rX,List.cons_append,List.nil_append]
 exact (key r.length 0 k (by omega) (by omega) (by omega)).trans (by rw [List.take_zero,List.drop_zero,List.nil_append])
theorem uv {k:Nat} (hk:2 ^ 50≤k) {l:an} {e:Int} (h0:0≤e) (he:e≤l.length) (hl:l.length≤1099511627775):fD.f k l e=some (hF (l.take e.toNat),()):=by
 unfold fD.f fD.t
 have hlen:(l.take e.toNat).length=e.toNat:=by rw [List.length_take];omega
 have he':e=((l.take e.toNat).length:Int):=by omega
 conv=>lhs;rw [he']
 refine du (L:=fun n i s=>fD.l0 k n l ((l.take e.toNat).length:Int) i s) (R:=fun r s=>some (r.foldl lr s,())) (Ty.dflt aC) (l.take e.toNat) (fun i s=>(s.length:Int)≤i) (fun n s hs=>?_) (fun n i s x rest h0 h1 hx hr hp ih=>?_) (n:=k) (s:=[]) (by omega) (by decide)
 · simp (disch:=omega) only [fD.l0,fD.b0,aQ,aN,List.foldl_nil]
 · rw [kV (by omega)] at hx
   simp (disch:=omega) only [fD.l0,fD.b0,aP h1,aZ,aG,hx,aD]
   rw [List.foldl_cons]
   have hs1:=pZ s x
   have ih1:=ih (lr s x) (by omega)
   rw [← ih1]
   unfold lr
   have r1:∀ {R:Type} (q:Option R),rm (Ty.bytes aC) (s.length+1) q=q:=fun q=>bK (by omega) (by decide)
   have r2:∀ {R:Type} (q:Option R),rm (Ty.bytes aC) (0+1) q=q:=fun q=>bK (by omega) (by decide)
   simp only [r1,r2]
   cases c1:(x.2.2.2.1.1==5) <;> cases c2:(x.2.2.2.1.1==4) <;> first | rfl | skip
   all_goals (exfalso;have e2:=eq_of_beq c1;rw [e2] at c2;revert c2;decide)
def w5 (p:Ty.den aC):Ty.den aA:=(p.2.2.2.1.2.2.1,(p.1,(p.2.1,(p.2.2.1,(p.2.2.2.1.2.1,())))))
def jM (d:ac) (p:Ty.den aC):ac:=bif p.2.2.2.1.1==2 then jI d p.2.2.2.1.2.2.1 else uJ d (w5 p)
def eV (d:ac) (own:an):ac:=own.foldl jM d
theorem rC (d:ac) (p:Ty.den aC):(jM d p).length≤d.length+1:=by
 unfold jM
 have h1:=p8 d p.2.2.2.1.2.2.1
 have h2:=Cg d (w5 p)
 cases p.2.2.2.1.1==2
 · rw [aN];omega
 · rw [aZ];omega
theorem pr:∀ (own:an) (d:ac),(eV d own).length≤d.length+own.length
 | [],d=>Nat.le_refl _
 | p::own,d=>by
  have:=pr own (jM d p)
  have:=rC d p
  rw [eV,List.foldl_cons,lM]
  unfold eV at this
  simp only [eV] at *
  omega
def oF (d:ac) (code:Int):Int:=if d.length > 20 then 2 else code
theorem t_ {k:Nat} (hk:2 ^ 50≤k) (g:Ty.den g_) {own:an} (ho:own.length≤268435456) (hd:g.1.length≤268435456):cC.f k g own=some ((eV g.1 own,(g.2.1,(oF (eV g.1 own) g.2.2.1,()))),()):=by
 unfold cC.f cC.t
 refine du (L:=fun n i (d:ac)=>cC.l0 k n own own.length i d g.2.1 g.2.2.1) (R:=fun q d=>some ((eV d q,(g.2.1,(oF (eV d q) g.2.2.1,()))),())) (Ty.dflt aC) own (fun i d=>(d.length:Int)≤268435456+i) (fun n d hs=>?_) (fun n i d x rest h0 h1 hx hr hp ih=>?_) (n:=k) (s:=g.1) (by omega) (by omega)
 · change _=some ((d,(g.2.1,(oF d g.2.2.1,()))),())
   simp (disch:=omega) only [cC.l0,cC.b0,aQ (show ¬ ((own.length:Int)<(own.length:Int)) by omega),aN,oF]
   by_cases c:d.length > 20
   · rw [aP (by omega),if_pos c];rfl
   · rw [aQ (by omega),if_neg c];rfl
 · have hsd:=rC d x
   have ih:=ih (jM d x) (by omega)
   have e:jM d x=bif x.2.2.2.1.1==2 then jI d x.2.2.2.1.2.2.1 else uJ d (w5 x):=rfl
   simp (disch:=omega) only [cC.l0,cC.b0,aP h1,aZ,aG,hx,qi hk,yr hk,aO,aD]
   rw [show eV d (x::rest)=eV (jM d x) rest from rfl,← ih,e]
   cases x.2.2.2.1.1==2 <;> rfl
theorem wr {k:Nat} (hk:2 ^ 50≤k) {d:ac} (p:Ty.den aC) (hd:d.length≤1073741823):iF.f k d p=some (jM d p,()):=by
 unfold iF.f iF.t jM
 rw [rH hk _ (by omega),oj hk _ hd]
 cases p.2.2.2.1.1==2 <;> rfl
def yO (a b:Int):Int:=if a > b then a else b
def ip (all:an):an→Nat→ac→Int→Int→Ty.den g_
 | [],_,d,last,code=>bif code==0&&decide ((hF all).length > 0) then (d,(last,(1,()))) else (d,(last,(code,())))
 | p::rest,i,d,last,code =>
  bif code != 0 then (d,(last,(code,()))) else
  bif p.2.2.2.1.1==3 then (bif kp p.2.2.2.1 (jK p.2.2.2.1.2.1 (all.take i)) then ip all rest (i+1) (eV d (jK p.2.2.2.1.2.1 (all.take i))) (yO p.2.2.2.1.2.1 last) (oF (eV d (jK p.2.2.2.1.2.1 (all.take i))) code)
   else ip all rest (i+1) d (yO p.2.2.2.1.2.1 last) code) else
  bif p.2.2.2.1.1==5 then (bif kp p.2.2.2.1 (hF (all.take i)) then ip all rest (i+1) (eV d (hF (all.take i))) (yO p.2.2.2.1.2.1 last) (oF (eV d (hF (all.take i))) code)
   else ip all rest (i+1) d (yO p.2.2.2.1.2.1 last) 1) else
  ip all rest (i+1) d (yO p.2.2.2.1.2.1 last) code
def kE (g:Ty.den g_) (l:an):Ty.den g_:=ip l l 0 g.1 g.2.1 g.2.2.1
def D2 (d:ac) (code:Int):Prop:=d.length≤268435456∧(code=0→d.length≤134217728)
theorem m8 {d:ac} {own:an} {code:Int} (h:D2 d 0) (ho:own.length≤134217728):D2 (eV d own) (oF (eV d own) code):=by
 have h1:=pr own d
 have h2:=h.2 rfl
 refine ⟨by omega,fun q=>?_⟩
 unfold oF at q
 split at q
 · cases q
 · omega
theorem xI {d:ac} (h:D2 d 0):D2 d 1:=⟨h.1,fun q=>by cases q⟩
theorem wC {k:Nat} (hk:2 ^ 50≤k) (g:Ty.den g_) {l:an} (hl:l.length≤134217728) (hd:g.1.length≤134217728):dM.f k g l=some (kE g l,()):=by
 unfold dM.f dM.t
 have cp:fA.f k g.1=some (g.1,()):=by
  unfold fA.f fA.t
  rw [bK (by omega) (by decide)]
 rw [cp,aO]
 simp only []
 have key:=Fz (L:=fun n i (s:ac × Int × Int)=>dM.l0 k n l l l.length i [] 0 0 s.1 s.2.1 s.2.2) (R:=fun (q:an) s=>some (ip l q (l.length-q.length) s.1 s.2.1 s.2.2,())) (Ty.dflt aC) l (fun i s=>D2 s.1 s.2.2) (fun n s hs=>?_) (fun n i s x rest h0 h1 hx hr hp ih=>?_) k 0 (g.1,(g.2.1,g.2.2.1)) (by omega) (by omega) (by omega) ⟨by simp only [];omega,fun _=>by simp only [];omega⟩
 · have e:l.drop (Int.toNat 0)=l:=rfl
   rw [e,Nat.sub_self] at key
   exact key
 · obtain ⟨d,last,code⟩:=s
   have hm:=u_ hk (l:=l) (r:=(5,(0,(ByteArray.empty,(ByteArray.empty,(0,(0,()))))))) rfl (by omega)
   simp (disch:=omega) only [dM.l0,dM.b0,aQ,aN,ip,hm,aO]
   cases c1:(code==0)
   · rfl
   · by_cases c2:(hF l).length > 0
     · rw [aP (show ((hF l).length:Int) > 0 by omega),aP c2];rfl
     · rw [aQ (show ¬ ((hF l).length:Int) > 0 by omega),aQ c2];rfl
 · obtain ⟨d,last,code⟩:=s
   simp only [] at hp ih
   have hi:l.length-(x::rest).length=i.toNat:=by
    have:=congrArg List.length hr
    rw [List.length_drop] at this
    omega
   have hi2:l.length-rest.length=i.toNat+1:=by rw [lM] at hi;have:=congrArg List.length hr;rw [List.length_drop,lM] at this;omega
   have htk:(l.take i.toNat).length≤134217728:=by rw [List.length_take];omega
   have ih:=fun a b c h=>ih (a,(b,c)) h
   simp only [hi2] at ih
   rw [hi]
   simp (disch:=omega) only [dM.l0,dM.b0,aP h1,aZ,aG,hx,aD,ip]
   by_cases c0:code=0
   case neg =>
    rw [show (code != 0)=true from bne_iff_ne.2 c0]
    rfl
   subst c0
   simp only [show ((0:Int) != 0)=false from rfl,aN]
   by_cases c3:x.2.2.2.1.1=3
   · have b3:(x.2.2.2.1.1==3)=true:=by rw [c3];rfl
     have b3':(x.2.2.2.1.1 != 3)=false:=by rw [c3];rfl
     have b5:(x.2.2.2.1.1==5)=false:=by rw [c3];rfl
     have hlen:=mi x.2.2.2.1.2.1 (l.take i.toNat)
     simp only [b3,b3',b5,aZ,aN]
     rw [br (by omega) (by omega),uB hk c3 (by omega),aO]
     simp only []
     rw [oN hk _ (by omega),aO]
     cases c:kp x.2.2.2.1 (jK x.2.2.2.1.2.1 (l.take i.toNat)) with
     | true =>
      simp only [aZ]
      rw [t_ hk _ (by omega) (by simp only [];exact hp.1),aO]
      exact ih _ _ _ (m8 hp (by omega))
     | false =>
      simp only [aN]
      exact ih _ _ _ hp
   · have b3:(x.2.2.2.1.1==3)=false:=nZ c3
     have b3':(x.2.2.2.1.1 != 3)=true:=bne_iff_ne.2 c3
     by_cases c5:x.2.2.2.1.1=5
     · have b5:(x.2.2.2.1.1==5)=true:=by rw [c5];rfl
       have b5':(x.2.2.2.1.1 != 5)=false:=by rw [c5];rfl
       have hlen:=qa (l.take i.toNat)
       simp only [b3,b3',b5,b5',aZ,aN]
       rw [br (by omega) (by omega),u_ hk c5 (by omega),aO]
       simp only []
       rw [oN hk _ (by omega),aO]
       cases c:kp x.2.2.2.1 (hF (l.take i.toNat)) with
       | true =>
        simp only [aZ]
        rw [t_ hk _ (by omega) (by simp only [];exact hp.1),aO]
        exact ih _ _ _ (m8 hp (by omega))
       | false =>
        simp only [aN]
        exact ih _ _ _ (xI hp)
     · have b5:(x.2.2.2.1.1==5)=false:=nZ c5
       have b5':(x.2.2.2.1.1 != 5)=true:=bne_iff_ne.2 c5
       simp only [b3,b3',b5,b5',aZ,aN]
       exact ih _ _ _ hp
theorem yG {k:Nat} (hk:2 ^ 50≤k) (g:Ty.den g_) {l:an} (hl:l.length≤134217728) (hd:g.1.length≤134217728):cF.f k g l=some (kE g l,()):=by
 unfold cF.f cF.t
 rw [bK (by omega) (by decide),List.nil_append]
 have inner:∀ {own:an} {d:ac} (L0:an→Int→ac→Int→Int→ac→Int→Int→Option (Ty.den g_ × Unit)) (i last code:Int),own.length≤134217728→d.length≤268435456→0≤i→i≤134217728 →
  cF.l1 k L0 k l i 0 [] 0 0 d last code own=L0 l (i+1) [] 0 0 (eV d own) last (oF (eV d own) code):=fun {own d} L0 i last code ho hd2 hi0 hi1=>by
  refine du (L:=fun n j (d:ac)=>cF.l1 k L0 n l i j [] 0 0 d last code own) (R:=fun q d=>L0 l (i+1) [] 0 0 (eV d q) last (oF (eV d q) code)) (Ty.dflt aC) own (fun j d=>(d.length:Int)≤268435456+j) (fun n d hs=>?_) (fun n j d x rest h0 h1 hx hr hp ih=>?_) (n:=k) (s:=d) (by omega) (by omega)
  · change _=L0 l (i+1) [] 0 0 d last (oF d code)
    simp (disch:=omega) only [cF.l1,cF.b1,aQ (show ¬ ((own.length:Int)<(own.length:Int)) by omega),aN,oF,aD]
    by_cases c:d.length > 20
    · rw [aP (by omega),if_pos c];rfl
    · rw [aQ (by omega),if_neg c];rfl
  · have hsd:=rC d x
    simp (disch:=omega) only [cF.l1,cF.b1,aP h1,aZ,aG,hx,wr hk,aO,aD]
    exact ih _ (by omega)
 have hmk:=uv hk (l:=l) (e:=l.length) (by omega) (by omega) (by omega)
 rw [Int.toNat_natCast,List.take_length] at hmk
 have key:=Fz (L:=fun n i (s:ac × Int × Int)=>cF.l0 k n l i [] 0 0 s.1 s.2.1 s.2.2) (R:=fun (q:an) s=>some (ip l q (l.length-q.length) s.1 s.2.1 s.2.2,())) (Ty.dflt aC) l (fun i s=>D2 s.1 s.2.2) (fun n s hs=>?_) (fun n i s x rest h0 h1 hx hr hp ih=>?_) k 0 (g.1,(g.2.1,g.2.2.1)) (by omega) (by omega) (by omega) ⟨by simp only [];omega,fun _=>by simp only [];omega⟩
 · have e:l.drop (Int.toNat 0)=l:=rfl
   rw [e,Nat.sub_self] at key
   exact key
 · obtain ⟨d,last,code⟩:=s
   simp (disch:=omega) only [cF.l0,cF.b0,aQ,aN,ip,hmk,aO]
   cases c1:(code==0)
   · rfl
   · by_cases c2:(hF l).length > 0
     · rw [aP (show ((hF l).length:Int) > 0 by omega),aP c2];rfl
     · rw [aQ (show ¬ ((hF l).length:Int) > 0 by omega),aQ c2];rfl
 · obtain ⟨d,last,code⟩:=s
   simp only [] at hp ih
   have hi:l.length-(x::rest).length=i.toNat:=by
    have:=congrArg List.length hr
    rw [List.length_drop] at this
    omega
   have hi2:l.length-rest.length=i.toNat+1:=by rw [lM] at hi;have:=congrArg List.length hr;rw [List.length_drop,lM] at this;omega
   have htk:(l.take i.toNat).length≤134217728:=by rw [List.length_take];omega
   have ih:=fun a b c h=>ih (a,(b,c)) h
   simp only [hi2] at ih
   rw [hi]
   simp (disch:=omega) only [cF.l0,cF.b0,aP h1,aZ,aG,hx,aD,ip,hmk,aO]
   by_cases c0:code=0
   case neg =>
    rw [show (code != 0)=true from bne_iff_ne.2 c0,show (code==0)=false from nZ c0]
    rfl
   subst c0
   simp only [show ((0:Int) != 0)=false from rfl,show ((0:Int)==0)=true from rfl,aN,aZ]
   by_cases c3:x.2.2.2.1.1=3
   · have b3:(x.2.2.2.1.1==3)=true:=by rw [c3];rfl
     have hlen:=mi x.2.2.2.1.2.1 (l.take i.toNat)
     simp only [b3,aZ]
     rw [yw hk _ h0 (by omega) (by omega),aO]
     simp only []
     rw [qY hk _ (by omega),aO]
     cases c:kp x.2.2.2.1 (jK x.2.2.2.1.2.1 (l.take i.toNat)) with
     | true =>
      simp only [fV,aZ,aN]
      rw [inner _ i _ _ (by omega) hp.1 h0 (by omega)]
      exact ih _ _ _ (m8 hp (by omega))
     | false =>
      simp only [ot,aZ,aN]
      exact ih _ _ _ hp
   · have b3:(x.2.2.2.1.1==3)=false:=nZ c3
     by_cases c5:x.2.2.2.1.1=5
     · have b5:(x.2.2.2.1.1==5)=true:=by rw [c5];rfl
       have hlen:=qa (l.take i.toNat)
       simp only [b3,b5,aZ,aN]
       rw [uv hk h0 (by omega) (by omega),aO]
       simp only []
       rw [qY hk _ (by omega),aO]
       cases c:kp x.2.2.2.1 (hF (l.take i.toNat)) with
       | true =>
        simp only [fV,aZ,aN]
        rw [inner _ i _ _ (by omega) hp.1 h0 (by omega)]
        exact ih _ _ _ (m8 hp (by omega))
       | false =>
        simp only [ot,aZ,aN]
        exact ih _ _ _ (xI hp)
     · have b5:(x.2.2.2.1.1==5)=false:=nZ c5
       simp only [b3,b5,aZ,aN]
       exact ih _ _ _ hp
theorem kj (all:an) (ha:all.length≤134217728):∀ (q:an) (i:Nat) (d:ac) (last code:Int),D2 d code→(ip all q i d last code).1.length≤268435456
 | [],i,d,last,code,h=>by
  unfold ip
  cases code==0&&decide ((hF all).length > 0) <;> exact h.1
 | p::q,i,d,last,code,h=>by
  have hs:=mi p.2.2.2.1.2.1 (all.take i)
  have hm:=qa (all.take i)
  have htk:(all.take i).length≤134217728:=by rw [List.length_take];omega
  unfold ip
  by_cases c0:code=0
  case neg=>rw [show (code != 0)=true from bne_iff_ne.2 c0];exact h.1
  subst c0
  simp only [show ((0:Int) != 0)=false from rfl,aN]
  cases p.2.2.2.1.1==3
  · cases p.2.2.2.1.1==5
    · exact kj all ha q _ _ _ _ h
    · cases kp p.2.2.2.1 (hF (all.take i))
      · exact kj all ha q _ _ _ _ (xI h)
      · exact kj all ha q _ _ _ _ (m8 h (by omega))
  · cases kp p.2.2.2.1 (jK p.2.2.2.1.2.1 (all.take i))
    · exact kj all ha q _ _ _ _ h
    · exact kj all ha q _ _ _ _ (m8 h (by omega))
theorem t7 {g:Ty.den g_} {l:an} (hl:l.length≤134217728) (hd:g.1.length≤134217728):(kE g l).1.length≤268435456:=kj l hl l 0 _ _ _ ⟨by omega,fun _=>hd⟩
end Go.Proofs.YtohaanhjddohmaaGreatDoor.G
namespace Go.Proofs.YtohaanhjddohmaaGreatDoor.G
open Go.V
theorem Cl {lim lim':Int} (h:lim≤lim'):∀ (l:List Int) (p:Option Int),qO (nz lim) p l=true→qO (nz lim') p l=true
 | [],_,_=>rfl
 | x::l,p,q=>by
  simp only [qO,kC] at q ⊢
  refine ⟨?_,Cl h l _ q.2⟩
  have q1:=q.1
  unfold nz at q1 ⊢
  rw [kC,decide_eq_true_eq] at q1 ⊢
  exact ⟨⟨q1.1.1,Int.le_trans q1.1.2 h⟩,q1.2⟩
theorem CJ {lim n:Int} (h1:1≤n) (h:lim<n):∀ (l:List Int) (p:Option Int),(∀ y,p=some y→y<n)→qO (nz lim) p l=true→qO (nz n) p (l++[n])=true
 | [],p,hp,_=>by
  simp only [List.nil_append,qO,Bool.and_true]
  unfold nz
  rw [kC,decide_eq_true_eq]
  refine ⟨⟨h1,Int.le_refl _⟩,?_⟩
  cases p with
  | none=>rfl
  | some y=>exact decide_eq_true (hp y rfl)
 | x::l,p,hp,q=>by
  simp only [qO,kC,List.cons_append] at q ⊢
  have q1:=q.1
  unfold nz at q1
  rw [kC,decide_eq_true_eq] at q1
  refine ⟨?_,CJ h1 h l _ (fun y e=>by cases e;exact Int.lt_of_le_of_lt q1.1.2 h) q.2⟩
  unfold nz
  rw [kC,decide_eq_true_eq]
  exact ⟨⟨q1.1.1,Int.le_of_lt (Int.lt_of_le_of_lt q1.1.2 h)⟩,q1.2⟩
theorem FD {n:Int} {ids:List Int} (h:dR (n,(ids,()))=true) (hn:n<100000):dR (n+1,(ids,()))=true:=by
 obtain ⟨g1,g2,_⟩:=dp h
 unfold dR at h ⊢
 simp only [kC,decide_eq_true_eq] at h ⊢
 rw [aD (n:=n+1-1) (by omega) (by omega)]
 rw [aD (n:=n-1) (by omega) (by omega)] at h
 exact ⟨⟨show (1:Int)≤n+1 by omega,show n+1≤(100000:Int) by omega⟩,h.2.1,Cl (by omega) _ _ h.2.2⟩
theorem zd {n:Int} {ids:List Int} (h:dR (n,(ids,()))=true) (hn:n<100000) (hl:ids.length<60):dR (n+1,(ids++[n],()))=true:=by
 obtain ⟨g1,g2,_⟩:=dp h
 unfold dR at h ⊢
 simp only [kC,decide_eq_true_eq] at h ⊢
 rw [aD (n:=n+1-1) (by omega) (by omega)]
 rw [aD (n:=n-1) (by omega) (by omega)] at h
 refine ⟨⟨show (1:Int)≤n+1 by omega,show n+1≤(100000:Int) by omega⟩,⟨?_,?_⟩,?_⟩
 · rw [vW,List.length_singleton];omega
 · rw [vW,List.length_singleton];omega
 · rw [show n+1-1=n by omega]
   exact CJ g1 (by omega) _ _ (fun y e=>by cases e) h.2.2
def j0 (st:Ty.den aI):ByteArray:=aB aK (aa st.1.2.1)
theorem xz {st:Ty.den aI} (h:dR st.1=true):0≤aF ((st.1.2.1.length:Int)-1)∧aF ((st.1.2.1.length:Int)-1)<(st.1.2.1.length:Int)∧st.1.2.1.getD (aF ((st.1.2.1.length:Int)-1)).toNat (Ty.dflt (.int .i64))=aa st.1.2.1:=by
 obtain ⟨_,_,h1,h2,_⟩:=dp (nx:=st.1.1) (ids:=st.1.2.1) h
 rw [aD (n:=(st.1.2.1.length:Int)-1) (by omega) (by omega)]
 refine ⟨by omega,by omega,?_⟩
 unfold aa
 rw [show ((st.1.2.1.length:Int)-1).toNat=st.1.2.1.length-1 by omega]
 rfl
theorem oX {k:Nat} (hk:2 ^ 50≤k) {st:Ty.den aI} (h:dR st.1=true):d7.f k st=some (j0 st,()):=by
 obtain ⟨h1,h2,h3⟩:=xz h
 unfold d7.f d7.t j0
 rw [aG h1 h2,h3,bV hk,aO]
def tl (r:RD):RD:=(r.1,fL r.2)
theorem Gx (r:RD):((tl r).2 != 0)=(r.2 != 0):=by
 unfold tl bne
 rw [gg]
def H3 (st:Ty.den aI):Ty.den aI:=((st.1.1+1,st.1.2),st.2)
def qy (st:Ty.den aI):Ty.den bA:=(st.1.1+1,(st.1.2.1++[st.1.1],()))
def Gk (st:Ty.den aI):Ty.den aI:=(qy st,(st.2.1,(st.2.2.1,(0,st.2.2.2.2))))
def wW (nm:ByteArray) (r:RD):RD:=bif r.2==2 then ((dz [j6,nm] r.1).1,bif (dz [j6,nm] r.1).2==0 then 2 else fL (dz [j6,nm] r.1).2) else r
def pM (st:Ty.den aI) (d:Ty.den a_):Ty.den aI × RD :=
 bif decide ((st.1.2.1.length:Int)≥60) then (st,(d,5)) else bif decide (st.1.1≥100000) then (st,(d,5)) else
 bif (j8 d (j0 st)).2 != 0 then (st,tl (j8 d (j0 st))) else
 bif (dD (aB aK st.1.1) (j8 d (j0 st)).1).2 != 0 then (H3 st,tl (dD (aB aK st.1.1) (j8 d (j0 st)).1)) else
 bif (dq (qy st) (dD (aB aK st.1.1) (j8 d (j0 st)).1).1).2 != 0 then (H3 st,wW (aB aK st.1.1) (tl (dq (qy st) (dD (aB aK st.1.1) (j8 d (j0 st)).1).1)))
 else (Gk st,((dq (qy st) (dD (aB aK st.1.1) (j8 d (j0 st)).1).1).1,0))
structure SR (st:Ty.den aI) (r:RD) (B:Int):Prop where
 live:dR st.1=true
 disk:DR r.1
 lo:LE.le (α:=Int) 0 st.2.2.2.1
 hi:LE.le (α:=Int) st.2.2.2.1 B
theorem wD (n:Int):(aB aK n).size≤1000:=by
 unfold aB
 by_cases h:(1:Int)≤n∧n≤100000
 · rw [aP h,aZ,ByteArray.size_append]
   have:=lJ (n:=n) (by omega) (by omega)
   have:aK.size=3:=rfl
   omega
 · rw [aQ h]
   exact Nat.zero_le _
theorem Cy {k:Nat} (hk:2 ^ 50≤k) {st:Ty.den aI} {d:Ty.den a_} (hl:dR st.1=true) (hd:DR d):fe.f k st d=some ((pM st d).1,((pM st d).2.1,((pM st d).2.2,()))):=by
 obtain ⟨g1,g2,g3,g4,_⟩:=dp (nx:=st.1.1) (ids:=st.1.2.1) hl
 have hsz:=wD st.1.1
 unfold fe.f fe.t pM
 by_cases c1:(st.1.2.1.length:Int)≥60
 · rw [aP c1];rfl
 by_cases c2:st.1.1≥(100000:Int)
 · rw [aQ c1,aP c2];rfl
 have c1':st.1.2.1.length<60:=by omega
 have c2':LT.lt (α:=Int) st.1.1 100000:=Int.not_le.1 c2
 rw [aQ c1,aQ c2]
 simp only [aN]
 rw [oX hk hl,aO]
 simp only []
 rw [lI hk hd.sz,aO]
 simp only []
 have h1:=nS hd (j0 st)
 generalize j8 d (j0 st)=r1 at h1 ⊢
 cases c3:r1.2 != 0 with
 | true=>simp only [aZ,dC,aO,tl]
 | false =>
  simp only [aN]
  rw [bV hk,aO]
  simp only []
  rw [n_ hk h1 (by omega),aO]
  simp only []
  have h2:=kz (aB aK st.1.1) _ h1
  generalize dD (aB aK st.1.1) r1.1=r2 at h2 ⊢
  have ew:aF (st.1.1+1)=st.1.1+1:=aD (by omega) (by omega)
  cases c4:r2.2 != 0 with
  | true=>simp only [aZ,dC,aO,tl,ew];rfl
  | false =>
   simp only [aN]
   rw [List.nil_append,bK (by omega) (by decide),bK (by omega) (by decide),ew,ng hk h2 (v:=(st.1.1+1,(st.1.2.1++[st.1.1],()))) (zd hl c2' c1'),aO]
   simp only []
   have h3:=nq (qy st) _ h2
   rw [show ((st.1.1+1,(st.1.2.1++[st.1.1],())):Ty.den bA)=qy st from rfl]
   generalize dq (qy st) r2.1=r3 at h3 ⊢
   have et:(fL r3.2 != 0)=(r3.2 != 0):=by unfold bne;rw [gg]
   cases c5:fL r3.2==2 with
   | true =>
    have e2:fL r3.2=2:=E7 c5
    have c6:(r3.2 != 0)=true:=by rw [← et,e2];rfl
    rw [c6]
    simp only [aZ]
    rw [aO,show (⟨#[116,101,109,112]⟩:ByteArray)=j6 from rfl]
    simp only []
    rw [nE hk h3 (by simp),aO]
    unfold wW
    rw [show (tl r3).2=fL r3.2 from rfl,c5,show (tl r3).1=r3.1 from rfl]
    simp only [aZ,bne]
    generalize dz [j6,aB aK st.1.1] r3.1=r4
    cases c7:r4.2==0 with
    | true=>rw [e2];rfl
    | false=>simp only [ot,aZ,aN,dC,aO];rfl
   | false =>
    simp only [aN]
    rw [et]
    cases c6:r3.2 != 0 with
    | true =>
     simp only [aZ]
     unfold wW
     rw [show (tl r3).2=fL r3.2 from rfl,c5]
     rfl
    | false=>rfl
end Go.Proofs.YtohaanhjddohmaaGreatDoor.G
namespace Go.Proofs.YtohaanhjddohmaaGreatDoor.G
open Go.V
theorem uZ {st:Ty.den aI} {d:Ty.den a_} (hl:dR st.1=true) (hd:DR d):dR (pM st d).1.1=true∧DR (pM st d).2.1∧(pM st d).1.2.1=st.2.1∧((pM st d).1.2.2.2.1=st.2.2.2.1∨(pM st d).1.2.2.2.1=0):=by
 unfold pM
 by_cases c1:(st.1.2.1.length:Int)≥60
 · rw [aP c1];exact ⟨hl,hd,rfl,.inl rfl⟩
 by_cases c2:st.1.1≥(100000:Int)
 · rw [aQ c1,aP c2];exact ⟨hl,hd,rfl,.inl rfl⟩
 have c1':st.1.2.1.length<60:=by omega
 have c2':LT.lt (α:=Int) st.1.1 100000:=Int.not_le.1 c2
 have hn:dR (H3 st).1=true:=FD (ids:=st.1.2.1) hl c2'
 have hg:dR (Gk st).1=true:=zd hl c2' c1'
 have h1:=nS hd (j0 st)
 have h2:=kz (aB aK st.1.1) _ h1
 have h3:=nq (qy st) _ h2
 rw [aQ c1,aQ c2]
 simp only [aN]
 generalize j8 d (j0 st)=r1 at h1 h2 h3 ⊢
 generalize dD (aB aK st.1.1) r1.1=r2 at h2 h3 ⊢
 generalize dq (qy st) r2.1=r3 at h3 ⊢
 cases r1.2 != 0 with
 | true=>exact ⟨hl,h1,rfl,.inl rfl⟩
 | false =>
  cases r2.2 != 0 with
  | true=>exact ⟨hn,h2,rfl,.inl rfl⟩
  | false =>
   cases r3.2 != 0 with
   | true =>
    refine ⟨hn,?_,rfl,.inl rfl⟩
    simp only [aZ,aN]
    unfold wW
    cases (tl r3).2==2 with
    | true=>exact mc _ _ h3
    | false=>exact h3
   | false=>exact ⟨hg,h3,rfl,.inr rfl⟩
def AY:Ty.den aC:=(0,(0,(0,((0,(0,(ByteArray.empty,(ByteArray.empty,(0,(0,())))))),()))))
def J8 (st:Ty.den aI) (n:Int):Ty.den aI:=(st.1,(st.2.1,(st.2.2.1,(n,st.2.2.2.2))))
def pa (st:Ty.den aI) (d:Ty.den a_) (r:Ty.den bU):(Ty.den aI × RD) × Ty.den aC :=
 bif (iv d (j0 st) (ah (aU r))).2 != 0 then ((st,tl (iv d (j0 st) (ah (aU r)))),AY)
 else ((J8 st (st.2.2.2.1+dJ r),((iv d (j0 st) (ah (aU r))).1,0)),(aa st.1.2.1,(st.2.2.2.1,(dJ r,(r,())))))
def jy (st:Ty.den aI) (d:Ty.den a_) (r:Ty.den bU):(Ty.den aI × RD) × Ty.den aC :=
 bif decide (st.2.2.2.1 > 0)&&decide (st.2.2.2.1+dJ r > 200) then
  (bif (pM st d).2.2 != 0 then (pM st d,AY) else pa (pM st d).1 (pM st d).2.1 r)
 else pa st d r
def xP (p:Ty.den aC):Ty.den bU:=p.2.2.2.1
theorem zy {st:Ty.den aI} {d:Ty.den a_} (hl:dR st.1=true) (hd:DR d) {B:Int} (h0:LE.le (α:=Int) 0 st.2.2.2.1) (h1:LE.le (α:=Int) st.2.2.2.1 B) (r:Ty.den bU) :
 SR (pa st d r).1.1 (pa st d r).1.2 (B+211)∧(pa st d r).1.1.2.1=st.2.1∧((pa st d r).1.2.2=0→xP (pa st d r).2=r):=by
 have hr:=m7 r
 have ha:=qC hd (j0 st) (ah (aU r))
 unfold pa
 generalize iv d (j0 st) (ah (aU r))=a at ha ⊢
 cases c:a.2 != 0 with
 | true =>
  refine ⟨⟨hl,ha,h0,?_⟩,rfl,fun e=>?_⟩
  · show LE.le (α:=Int) st.2.2.2.1 (B+211)
    omega
  · have e:(tl a).2=0:=e
    have q:=Gx a
    rw [e,c] at q
    cases q
 | false =>
  refine ⟨⟨hl,ha,?_,?_⟩,rfl,fun e=>rfl⟩
  · show LE.le (α:=Int) 0 (st.2.2.2.1+dJ r)
    omega
  · show LE.le (α:=Int) (st.2.2.2.1+dJ r) (B+211)
    omega
theorem rp {st:Ty.den aI} {d:Ty.den a_} {B:Int} (h:SR st (d,0) B) (hB:0≤B) (r:Ty.den bU) :
 SR (jy st d r).1.1 (jy st d r).1.2 (B+211)∧(jy st d r).1.1.2.1=st.2.1∧((jy st d r).1.2.2=0→xP (jy st d r).2=r):=by
 obtain ⟨hl,hd,h0,h1⟩:=h
 unfold jy
 cases decide (st.2.2.2.1 > 0)&&decide (st.2.2.2.1+dJ r > 200) with
 | false=>exact zy hl hd h0 h1 r
 | true =>
  obtain ⟨g1,g2,g3,g4⟩:=uZ hl hd
  generalize pM st d=q at g1 g2 g3 g4 ⊢
  have s0:LE.le (α:=Int) 0 q.1.2.2.2.1:=by rcases g4 with e | e <;> rw [e];exact h0;exact Int.le_refl _
  have s1:LE.le (α:=Int) q.1.2.2.2.1 B:=by rcases g4 with e | e <;> rw [e];exact h1;exact hB
  cases c:q.2.2 != 0 with
  | true =>
   refine ⟨⟨g1,g2,s0,?_⟩,g3,fun e=>?_⟩
   · show LE.le (α:=Int) q.1.2.2.2.1 (B+211)
     omega
   · have e:q.2.2=0:=e
     rw [e] at c
     cases c
  | false =>
   obtain ⟨k1,k2,k3⟩:=zy g1 g2 s0 s1 r
   exact ⟨k1,k2.trans g3,k3⟩
theorem xG {k:Nat} (hk:2 ^ 50≤k) {st:Ty.den aI} {d:Ty.den a_} (hl:dR st.1=true) (hd:DR d) (r:Ty.den bU) (h0:LE.le (α:=Int) 0 st.2.2.2.1) (h1:LE.le (α:=Int) st.2.2.2.1 1099511627776) :
 (((d7.f k st).bind fun r4=>((cI.f k d r4.1 (ah (aU r))).bind fun r5=>(bif (r5.2.1 != 0) then ((aY.f k r5.2.1).bind fun r6=>(some (st,(r5.1,(AY,r6)))))
  else (ba (aF ((List.length st.1.2.1:Int)-1)) (List.length st.1.2.1:Int) (some ((st.1,(st.2.1,(st.2.2.1,((aF (st.2.2.2.1+(ByteArray.size (ah (aU r)):Int))),st.2.2.2.2)))),(r5.1,(((List.getD st.1.2.1 (Int.toNat (aF ((List.length st.1.2.1:Int)-1))) (Ty.dflt (.int .i64))),(st.2.2.2.1,((ByteArray.size (ah (aU r)):Int),(r,())))),(0,()))))))))):eR.Rs) =
 some ((pa st d r).1.1,((pa st d r).1.2.1,((pa st d r).2,((pa st d r).1.2.2,())))):=by
 obtain ⟨g1,g2,g3⟩:=xz hl
 have hr:=m7 r
 have hz:((ah (aU r)).size:Int)=dJ r:=rfl
 rw [oX hk hl,aO]
 simp only []
 rw [nW hk hd.sz (j0 st) (t:=ah (aU r)) (by omega),aO]
 unfold pa
 simp only []
 generalize iv d (j0 st) (ah (aU r))=a
 cases c:a.2 != 0 with
 | true=>simp only [aZ,dC,aO];rfl
 | false =>
  simp only [aN]
  rw [aG g1 g2,g3,hz,aD (by omega) (by omega)]
  rfl
theorem xH {k:Nat} (hk:2 ^ 50≤k) {st:Ty.den aI} {d:Ty.den a_} {B:Int} (h:SR st (d,0) B) (hB:0≤B) (hB':B≤1000000000) (r:Ty.den bU) :
 eR.f k st d r=some ((jy st d r).1.1,((jy st d r).1.2.1,((jy st d r).2,((jy st d r).1.2.2,())))):=by
 obtain ⟨hl,hd,h0,h1⟩:=h
 have hr:=m7 r
 have hz:((ah (aU r)).size:Int)=dJ r:=rfl
 have own:=xG (d:=d) hk hl hd r h0 (by omega)
 rw [hz,aD (n:=st.2.2.2.1+dJ r) (by omega) (by omega)] at own
 unfold eR.f eR.t
 rw [cK hk,aO]
 simp only []
 rw [iz hk,aO]
 simp only []
 rw [hz,aD (n:=st.2.2.2.1+dJ r) (by omega) (by omega)]
 unfold jy
 by_cases c1:LT.lt (α:=Int) 0 st.2.2.2.1
 · rw [aP (show st.2.2.2.1 > 0 from c1),Bool.true_and,aZ]
   by_cases c2:LT.lt (α:=Int) 200 (st.2.2.2.1+dJ r)
   · rw [aP (show st.2.2.2.1+dJ r > 200 from c2),aZ,aZ,Cy hk hl hd,aO]
     simp only []
     obtain ⟨g1,g2,g3,g4⟩:=uZ hl hd
     generalize pM st d=q at g1 g2 g3 g4 ⊢
     cases c:q.2.2 != 0 with
     | true=>rfl
     | false =>
      have s0:LE.le (α:=Int) 0 q.1.2.2.2.1:=by rcases g4 with e | e <;> rw [e];exact h0;exact Int.le_refl _
      have s1:LE.le (α:=Int) q.1.2.2.2.1 B:=by rcases g4 with e | e <;> rw [e];exact h1;exact hB
      exact xG hk g1 g2 r s0 (by omega)
   · rw [aQ (show ¬ st.2.2.2.1+dJ r > 200 from c2),aN,aN]
     exact own
 · rw [aQ (show ¬ st.2.2.2.1 > 0 from c1),Bool.false_and,aN]
   exact own
end Go.Proofs.YtohaanhjddohmaaGreatDoor.G
namespace Go.Proofs.YtohaanhjddohmaaGreatDoor.G
open Go.V
def fT (d:Ty.den a_) (s:ByteArray):Option ByteArray:=(bg d.1 s).map (·.2.1)
theorem s6 {d:Ty.den a_} (h:DR d) (s:ByteArray):(aS d s).1=(fT d s).getD ⟨#[]⟩:=by
 rw [lK h]
 unfold fT
 cases bg d.1 s <;> rfl
theorem A5:∀ {l:bO} {f:Ty.den bR} {t:ByteArray},bg l f.1=none→bg (gw l f) t=bif seq f.1 t then some f else bg l t
 | [],f,t,_=>rfl
 | g::l,f,t,h=>by
  unfold bg at h
  cases c:seq g.1 f.1 with
  | true=>rw [c] at h;cases h
  | false =>
   rw [c,aN] at h
   unfold gw
   cases mv f.1 g.1 with
   | true=>rfl
   | false =>
    simp only [aN]
    rw [bg.eq_2,A5 h,bg.eq_2]
    by_cases q:f.1=t
    · rw [q] at c ⊢
      rw [c,cm]
      rfl
    · rw [lb q]
      rfl
theorem Bz {l:bO} {f:Ty.den bR} {t:ByteArray} (h:f.1≠t):bg (gw l f) t=bg l t:=by
 induction l with
 | nil=>unfold gw;rw [bg.eq_2,lb h];rfl
 | cons g l ih =>
  unfold gw
  cases mv f.1 g.1 with
  | true=>rw [aZ,bg.eq_2,lb h,aN]
  | false=>rw [aN,bg.eq_2,ih,bg.eq_2]
theorem sy {d:Ty.den a_} {g:bO→Int→bO × Int} {t:ByteArray} (h:∀ l c,(bg (g l c).1 t).map (·.2.1)=(bg l t).map (·.2.1)):fT (ii d g).1 t=fT d t:=by
 unfold ii fT
 cases (kA d).2 != 0 with
 | true=>rw [aZ,pW]
 | false=>exact h d.1 d.2.1
theorem Jm {d:Ty.den a_} {s t:ByteArray} (h:s≠t):fT (qS d s).1 t=fT d t:=sy fun l c=>by
 unfold u9
 cases !jt s with
 | true=>rfl
 | false =>
  cases (bg l s).isSome with
  | true=>rfl
  | false =>
   cases decide ((l.length:Int)≥130) with
   | true=>rfl
   | false =>
    show (bg (gw l (s,(ByteArray.empty,(0,())))) t).map _=_
    rw [Bz (f:=(s,(ByteArray.empty,(0,())))) h]
theorem D_ {d:Ty.den a_} {s t x:ByteArray} (h:s≠t):fT (iv d s x).1 t=fT d t:=sy fun l c=>by
 unfold yQ
 cases (bg l s).isNone with
 | true=>rfl
 | false =>
  cases decide ((x.size:Int) > aF (c-(cJ l:Int))) with
  | true=>rfl
  | false =>
   show (bg (ly (fun f=>(f.1,(f.2.1++x,f.2.2))) l s) t).map _=_
   rw [rW (h:=fun f:Ty.den bR=>(f.1,(f.2.1++x,f.2.2))) (fun f=>rfl),lb (fun q=>h q.symm)]
   rfl
theorem rD {d:Ty.den a_} {s t:ByteArray}:fT (j8 d s).1 t=fT d t:=sy fun l c=>by
 unfold Am
 cases (bg l s).isNone with
 | true=>rfl
 | false =>
  show (bg (ly (fun f=>(f.1,(f.2.1,((f.2.1.size:Int),f.2.2.2)))) l s) t).map _=_
  rw [rW (h:=fun f:Ty.den bR=>(f.1,(f.2.1,((f.2.1.size:Int),f.2.2.2)))) (fun f=>rfl)]
  by_cases q:t=s
  · rw [q,cm]
    cases bg l s <;> rfl
  · rw [lb q]
    rfl
theorem Jb {d:Ty.den a_} {s t:ByteArray} (h:s≠t):fT (sR d s).1 t=fT d t:=sy fun l c=>by
 unfold vf
 cases (bg l s).isNone with
 | true=>rfl
 | false =>
  show (bg (ib l s) t).map _=_
  rw [vx (fun q=>h q.symm)]
theorem JS {d:Ty.den a_} {a b t:ByteArray} (h1:a≠t) (h2:b≠t):fT (vp d a b).1 t=fT d t:=sy fun l c=>by
 unfold ye
 cases !jt b with
 | true=>rfl
 | false =>
  simp only [aN]
  cases bg l a with
  | none=>rfl
  | some f =>
   cases seq a b with
   | true=>rfl
   | false =>
    show (bg (gw (ib (ib l a) b) (b,f.2)) t).map _=_
    rw [Bz (f:=(b,f.2)) h2,vx (fun q=>h2 q.symm),vx (fun q=>h1 q.symm)]
theorem BI {d:Ty.den a_} {s x:ByteArray}:fT (iv d s x).1 s=bif (iv d s x).2==0 then (fT d s).map (·++x) else fT d s:=by
 unfold iv ii fT
 cases c:(kA d).2 != 0 with
 | true =>
  rw [aZ,pW]
  have:((kA d).2==0)=false:=by unfold bne at c;simpa using c
  rw [this]
  rfl
 | false =>
  simp only [aN]
  unfold yQ
  cases c1:bg d.1 s with
  | none=>simp only [Option.isNone_none,aZ];rw [c1];rfl
  | some f =>
   simp only [Option.isNone_some,aN]
   cases decide ((x.size:Int) > aF (d.2.1-(cJ d.1:Int))) with
   | true=>simp only [aZ];rw [c1];rfl
   | false =>
    simp only [aN]
    rw [rW (h:=fun f:Ty.den bR=>(f.1,(f.2.1++x,f.2.2))) (fun f=>rfl),cm,c1]
    rfl
theorem oJ {r:RD} {f:Ty.den a_→RD} {t:ByteArray} {x:Option ByteArray} (h1:fT r.1 t=x) (h2:∀ y,fT (f y).1 t=fT y t):fT (ga r f).1 t=x:=by
 unfold ga
 cases r.2==0 with
 | true=>exact (h2 _).trans h1
 | false=>exact h1
theorem A4 {d:Ty.den a_} {s t:ByteArray} (h:s≠t):fT (je s d).1 t=fT d t:=by
 unfold je
 cases (bg d.1 s).isSome with
 | true=>exact Jb h
 | false=>rfl
theorem qb {d:Ty.den a_} {s t:ByteArray} (h:s≠t):fT (dD s d).1 t=fT d t:=oJ (A4 h) fun y=>Jm h
theorem B5 {d:Ty.den a_} {s t x:ByteArray} (h:s≠t):fT (mS s x d).1 t=fT d t:=oJ (oJ (qb h) fun y=>D_ h) fun y=>rD
theorem pi {d:Ty.den a_} {v:Ty.den bA} {t:ByteArray} (h1:j6≠t) (h2:dG≠t):fT (dq v d).1 t=fT d t:=oJ (B5 h1) fun y=>JS h1 h2
theorem pI {t:ByteArray}:∀ (l:List ByteArray) (d:Ty.den a_),(∀ s ∈ l,s≠t)→fT (dz l d).1 t=fT d t
 | [],_,_=>rfl
 | s::l,d,h=>by
  show fT (ga (je s d) (dz l)).1 t=_
  exact oJ (A4 (h s pR)) fun y=>pI l y fun q hq=>h q (s9 _ hq)
end Go.Proofs.YtohaanhjddohmaaGreatDoor.G
namespace Go.Proofs.YtohaanhjddohmaaGreatDoor.G
open Go.V
def js:mh→Ty.den aI→Ty.den a_→an→(Ty.den aI × RD) × an
 | [],st,d,ps=>((st,(d,0)),ps)
 | r::l,st,d,ps=>bif (jy st d r).1.2.2 != 0 then ((jy st d r).1,ps) else js l (jy st d r).1.1 (jy st d r).1.2.1 (ps++[(jy st d r).2])
def KV (st:Ty.den aI) (dir:ac):Ty.den aI:=(st.1,(dir,st.2.2))
def vZ (n:Nat) (q:(Ty.den aI × RD) × an):Ty.den aI × RD :=
 bif q.1.2.2 != 0 then q.1 else bif (j8 q.1.2.1 (j0 q.1.1)).2 != 0 then (q.1.1,tl (j8 q.1.2.1 (j0 q.1.1))) else (KV q.1.1 (eV q.1.1.2.1 (q.2.take n)),((j8 q.1.2.1 (j0 q.1.1)).1,0))
def As (st:Ty.den aI):Ty.den aI:=(st.1,(st.2.1,(st.2.2.1+1,st.2.2.2)))
def nX (st:Ty.den aI) (d:Ty.den a_) (l:s_):Ty.den aI × RD:=vZ l.length (js (xS l st.2.2.1) (As st) d [])
theorem sT:∀ (l:mh) (st:Ty.den aI) (d:Ty.den a_) (ps:an) (B:Int),SR st (d,0) B→0≤B →
 SR (js l st d ps).1.1 (js l st d ps).1.2 (B+211*(l.length:Int))∧(js l st d ps).1.1.2.1=st.2.1∧((js l st d ps).1.2.2=0→(js l st d ps).2.map xP=ps.map xP++l)
 | [],st,d,ps,B,h,_=>⟨⟨h.live,h.disk,h.lo,by have:=h.hi;show LE.le (α:=Int) st.2.2.2.1 _;rw [List.length_nil];omega⟩,rfl,fun _=>(List.append_nil _).symm⟩
 | r::l,st,d,ps,B,h,hB=>by
  obtain ⟨g1,g2,g3⟩:=rp h hB r
  unfold js
  have el:((r::l).length:Int)=(l.length:Int)+1:=by rw [lM];omega
  cases c:(jy st d r).1.2.2 != 0 with
  | true =>
   refine ⟨⟨g1.live,g1.disk,g1.lo,?_⟩,g2,fun e=>?_⟩
   · have:=g1.hi
     show LE.le (α:=Int) (jy st d r).1.1.2.2.2.1 _
     omega
   · have e:(jy st d r).1.2.2=0:=e
     rw [e] at c
     cases c
  | false =>
   have e0:(jy st d r).1.2.2=0:=by unfold bne at c;simpa using c
   obtain ⟨k1,k2,k3⟩:=sT l (jy st d r).1.1 (jy st d r).1.2.1 (ps++[(jy st d r).2]) (B+211) ⟨g1.live,g1.disk,g1.lo,g1.hi⟩ (by omega)
   refine ⟨⟨k1.live,k1.disk,k1.lo,?_⟩,k2.trans g2,fun e=>?_⟩
   · have:=k1.hi
     show LE.le (α:=Int) (js l (jy st d r).1.1 (jy st d r).1.2.1 (ps++[(jy st d r).2])).1.1.2.2.2.1 _
     omega
   · have:=k3 e
     show (js l (jy st d r).1.1 (jy st d r).1.2.1 (ps++[(jy st d r).2])).2.map xP=_
     rw [this,List.map_append,List.map_singleton,g3 e0,rX]
     rfl
def Jj:ac→s_→ac→ac
 | dir,[],_=>dir
 | dir,_::_,[]=>dir
 | dir,p::l,e::es=>Jj (bif p.2.1 then jI dir p.1 else uJ dir e) l es
def GK (p:Ty.den gT):Ty.den aA:=(p.1,(0,(0,(0,(0,())))))
def sS (dir:ac) (l:s_):Int:=((Jj dir l (l.map GK)).length:Int)
theorem I3 (l:ac) (e:Ty.den aA):(uJ l e).length≤l.length+1:=by
 unfold uJ
 rw [Bf]
 have:=p8 l e.1
 omega
theorem AU {k:Nat} (hk:2 ^ 50≤k) {dir:ac} (hd:dir.length≤536870912) {l:s_} (hl:l.length≤1000):dE.f k dir l=some (sS dir l,()):=by
 have key:∀ (n:Nat) (i:Int) (s:ac),0≤i→i≤(l.length:Int)→(l.length:Int)-i<n→(s.length:Int)≤536870912+i→dE.l1 k n l i s=some (sS s (l.drop i.toNat),()):=fun n i s h0 h1 h2 hs=>by
  refine Fz (L:=fun n i (s:ac)=>dE.l1 k n l i s) (R:=fun r s=>some (sS s r,())) (Ty.dflt gT) l (fun i s=>(s.length:Int)≤536870912+i) (fun n s hs=>?_) (fun n i s x rest h0 h1 hx hr hp ih=>?_) n i s h0 h1 h2 hs
  · simp (disch:=omega) only [dE.l1,dE.b1,aQ,aN]
    rfl
  · simp only [dE.l1,dE.b1]
    rw [aP h1,aZ,aG h0 h1,hx,aD (n:=i+1) (by omega) (by omega)]
    unfold sS
    simp only [List.map_cons,Jj]
    cases c:x.2.1 with
    | true =>
     have:=p8 s x.1
     simp only [aZ]
     rw [aG h0 h1,rH hk x.1 (by omega),aO]
     exact ih (jI s x.1) (by omega)
    | false =>
     have:=I3 s (GK x)
     have e:=oj hk (l:=s) (GK x) (by omega)
     unfold GK at e
     simp only [aN]
     rw [aG h0 h1,e,aO]
     exact ih (uJ s (GK x)) (by omega)
 obtain ⟨q,hq⟩:∃ q,k=q+1:=⟨k-1,by omega⟩
 have k1:=key (q+1) 0 dir (by omega) (by omega) (by omega) (by omega)
 unfold dE.f dE.t
 rw [show l.drop (0:Int).toNat=l from rfl] at k1
 refine Eq.trans ?_ k1
 rw [show dE.l0 k k=dE.l0 k (q+1) by rw [← hq]]
 rfl
end Go.Proofs.YtohaanhjddohmaaGreatDoor.G
namespace Go.Proofs.YtohaanhjddohmaaGreatDoor.G
open Go.V
theorem D8 (dir:ac) (ps:an) (p:Ty.den aC):eV dir (ps++[p])=jM (eV dir ps) p:=by
 unfold eV
 rw [List.foldl_append]
 rfl
theorem nD {c:Int} (h:(c != 0)=false):c=0:=by unfold bne at h;simpa using h
theorem Af {k:Nat} (hk:2 ^ 50≤k) {st:Ty.den aI} {d:Ty.den a_} {l:s_} (h:SR st (d,0) 100000) (hb0:LE.le (α:=Int) 0 st.2.2.1) (hb:LE.le (α:=Int) st.2.2.1 1000000) (hp:mu l=true) (hd:st.2.1.length≤20) :
 bd.f k st d l=some ((nX st d l).1,((nX st d l).2.1,((nX st d l).2.2,()))):=by
 have hl:=sn hp
 unfold bd.f bd.t nX xS
 rw [bK (by omega) (by decide),List.nil_append,aD (n:=st.2.2.1+1) (by omega) (by omega)]
 generalize hbe:st.2.2.1=b at *
 rw [show As st=((st.1,(st.2.1,(b+1,st.2.2.2))):Ty.den aI) from by unfold As;rw [hbe]]
 refine du (L:=fun n i (s:(Ty.den aI × Ty.den a_) × an)=>bd.l0 k n b i l s.1.1.1.2.1 s.1.1.2.1 s.1.1.1.1 s.1.1.2.2.1 s.1.1.2.2.2.1 s.1.1.2.2.2.2.1 s.1.2.1 s.1.2.2.1 s.1.2.2.2.1 s.1.2.2.2.2.1 [] [] 0 0 0 0 [] 0 0 false (s.2.map xP) (eV s.1.1.2.1 s.2))
  (R:=fun r s=>(some ((vZ l.length (js (r.map (nA b)++[j_ 3 b (l.map (nA b))]) s.1.1 s.1.2 s.2)).1,((vZ l.length (js (r.map (nA b)++[j_ 3 b (l.map (nA b))]) s.1.1 s.1.2 s.2)).2.1,((vZ l.length (js (r.map (nA b)++[j_ 3 b (l.map (nA b))]) s.1.1 s.1.2 s.2)).2.2,()))):bd.Rs))
  (Ty.dflt gT) l (fun i s=>SR s.1.1 (s.1.2,0) (100000+211*i)∧s.2.map xP=(l.take i.toNat).map (nA b)∧s.1.1.2.1.length≤20) (fun n s hs=>?_) (fun n i s x rest h0 h1 hx hr hs ih=>?_) (n:=k) (s:=(((((st.1,(st.2.1,(b+1,st.2.2.2))):Ty.den aI)),d),[])) (by omega) ⟨⟨h.live,h.disk,h.lo,Int.le_trans h.hi (by decide)⟩,rfl,hd⟩
 · obtain ⟨⟨st',d'⟩,ps⟩:=s
   obtain ⟨g1,g2,g3⟩:=hs
   simp only [] at g1 g2 g3 ⊢
   rw [Int.toNat_natCast,List.take_length] at g2
   have hps:ps.length=l.length:=by simpa using congrArg List.length g2
   simp only [bd.l0,bd.b0]
   rw [aQ (by omega),aN,g2,md hk (by rw [List.length_map];omega),aO]
   simp only []
   rw [show ((st'.1.1,(st'.1.2.1,())),(st'.2.1,(st'.2.2.1,(st'.2.2.2.1,(st'.2.2.2.2.1,())))))=st' from rfl,show (d'.1,(d'.2.1,(d'.2.2.1,(d'.2.2.2.1,()))))=d' from rfl,
    xH hk g1 (by omega) (by omega),aO]
   simp only [List.map_nil,List.nil_append,js]
   obtain ⟨k1,k2,_⟩:=rp g1 (by omega) (j_ 3 b (l.map (nA b)))
   generalize jy st' d' (j_ 3 b (l.map (nA b)))=q at k1 k2 ⊢
   cases c:q.1.2.2 != 0 with
   | true =>
    simp only [aZ]
    unfold vZ
    simp only [c,aZ]
   | false =>
    simp only [aN]
    rw [oX hk k1.live,aO]
    simp only []
    rw [lI hk (DR.sz k1.disk),aO]
    unfold vZ
    simp only [show ((0:Int) != 0)=false from rfl,aN]
    generalize j8 q.1.2.1 (j0 q.1.1)=y
    cases c2:y.2 != 0 with
    | true=>simp only [aZ,dC,aO];rfl
    | false =>
     simp only [aN]
     rw [k2,List.take_append_of_le_length (by omega),List.take_of_length_le (by omega)]
     rfl
 · obtain ⟨⟨st',d'⟩,ps⟩:=s
   obtain ⟨g1,g2,g3⟩:=hs
   simp only [] at g1 g2 g3 ih ⊢
   have hi:i.toNat<l.length:=by omega
   have hm:x ∈ l:=List.mem_of_mem_drop (i:=i.toNat) (by rw [hr];exact pR)
   have e:=FF b (Du hp hm)
   have et:l.take (i+1).toNat=l.take i.toNat++[x]:=by
    rw [show (i+1).toNat=i.toNat+1 by omega,List.take_succ_eq_append_getElem hi]
    congr 2
    rw [← hx]
    simp [List.getD,hi]
   have hps:ps.length≤l.length:=by
    have:=congrArg List.length g2
    rw [List.length_map,List.length_map,List.length_take] at this
    omega
   obtain ⟨k1,k2,k3⟩:=rp g1 (by omega) (nA b x)
   have body:((eR.f k st' d' (nA b x)).bind fun r1=>(bif (r1.2.2.2.1 != 0) then (some (r1.1,(r1.2.1,r1.2.2.2))) else ((iF.f k (eV st'.2.1 ps) r1.2.2.1).bind fun r2=>(rm (Ty.bytes bU) (List.length (ps.map xP)+1)
    (bd.l0 k n b (aF (i+1)) l r1.1.1.2.1 r1.1.2.1 r1.1.1.1 r1.1.2.2.1 r1.1.2.2.2.1 r1.1.2.2.2.2.1 r1.2.1.1 r1.2.1.2.1 r1.2.1.2.2.1 r1.2.1.2.2.2.1 [] [] 0 0 0 0 [] 0 0 false (ps.map xP++[nA b x]) r2.1))))) =
    (some ((vZ l.length (js ((x::rest).map (nA b)++[j_ 3 b (l.map (nA b))]) st' d' ps)).1,((vZ l.length (js ((x::rest).map (nA b)++[j_ 3 b (l.map (nA b))]) st' d' ps)).2.1,((vZ l.length (js ((x::rest).map (nA b)++[j_ 3 b (l.map (nA b))]) st' d' ps)).2.2,()))):bd.Rs):=by
    rw [xH hk g1 (by omega) (by omega),aO]
    simp only [List.map_cons,List.cons_append,js]
    have hk1:=k1.hi
    generalize jy st' d' (nA b x)=q at k1 k2 k3 hk1 ⊢
    cases c:q.1.2.2 != 0 with
    | true =>
     simp only [aZ]
     unfold vZ
     simp only [c,aZ]
    | false =>
     simp only [aN]
     have hal:=pr ps st'.2.1
     rw [wr hk q.2 (by omega),aO,bK (by rw [List.length_map];omega) (by decide),aD (n:=i+1) (by omega) (by omega)]
     have q3:=k3 (nD c)
     have e1:(ps++[q.2]).map xP=ps.map xP++[nA b x]:=by rw [List.map_append,List.map_singleton,q3]
     have e2:eV q.1.1.2.1 (ps++[q.2])=jM (eV st'.2.1 ps) q.2:=by rw [k2,D8]
     have ih:=ih ((q.1.1,q.1.2.1),ps++[q.2]) ⟨⟨k1.live,k1.disk,k1.lo,by show LE.le (α:=Int) q.1.1.2.2.2.1 _;omega⟩,by simp only [];rw [e1,g2,et,List.map_append];rfl,by simp only [];rw [k2];exact g3⟩
     simp only [] at ih
     rw [e1,e2] at ih
     exact ih
   simp only [bd.l0,bd.b0]
   rw [aP h1,aZ,aG h0 h1,aG h0 h1,aG h0 h1,hx]
   rw [show ((st'.1.1,(st'.1.2.1,())),(st'.2.1,(st'.2.2.1,(st'.2.2.2.1,(st'.2.2.2.2.1,())))))=st' from rfl,show (d'.1,(d'.2.1,(d'.2.2.1,(d'.2.2.2.1,()))))=d' from rfl]
   cases c:x.2.1 with
   | true =>
    rw [c,aZ] at e
    simp only [aZ]
    rw [← e]
    exact body
   | false =>
    rw [c,aN] at e
    simp only [aN]
    rw [← e]
    exact body
noncomputable def lD (st:Ty.den aI) (d:Ty.den a_) (l:s_):Ty.den aI × RD :=
 bif !m9 st d then (st,(d,4)) else bif !mu l then (st,(d,4)) else bif (l.length:Int)==0 then (st,(d,0)) else bif decide (sS st.2.1 l > 20) then (st,(d,5)) else
 bif decide (st.2.2.1 > 1000000) then (st,(d,5)) else nX st d l
theorem zr {d:Ty.den a_} {tail:Int}:∀ {l:List Int},l≠[]→qt d tail l=true→∃ x,tail=((aS d (aB aK x)).1.size:Int)
 | [],h,_=>absurd rfl h
 | [x],_,h=>by
  unfold qt Gh at h
  simp only [kC,List.isEmpty_nil,fV,Bool.false_or] at h
  exact ⟨x,E7 h.1.2.2⟩
 | x::y::l,_,h=>by
  unfold qt at h
  rw [kC] at h
  exact zr (by intro q;cases q) h.2
theorem mU {st:Ty.den aI} {d:Ty.den a_} (h:m9 st d=true):SR st (d,0) 100000∧st.2.1.length≤20∧LE.le (α:=Int) 1 st.2.2.1:=by
 unfold m9 qd at h
 simp only [kC,decide_eq_true_eq] at h
 obtain ⟨h1,h2,⟨h3,_⟩,h4,h5,_⟩:=h
 obtain ⟨_,_,g1,_,_⟩:=dp (nx:=st.1.1) (ids:=st.1.2.1) h2
 have hd:=iH.1 h1
 obtain ⟨x,hx⟩:=zr (by intro q;rw [q] at g1;simp at g1) h5
 have hs:=fZ d (aB aK x)
 have hu:=hd.use
 have hc:=hd.cap1
 refine ⟨⟨h2,hd,?_,?_⟩,by omega,h4.1⟩
 · show LE.le (α:=Int) 0 st.2.2.2.1
   rw [hx]
   omega
 · show LE.le (α:=Int) st.2.2.2.1 100000
   rw [hx]
   have:LE.le (α:=Int) (cJ d.1) 100000:=Int.le_trans hu hc
   omega
theorem yl {k:Nat} (hk:2 ^ 50≤k) {st:Ty.den aI} {d:Ty.den a_} (hd:xy d) (h1:st.1.2.1.length≤1073741824) (h2:st.2.1.length≤536870912) {l:s_} (hl:l.length≤1073741824) :
 i_.f k st d l=some ((lD st d l).1,((lD st d l).2.1,((lD st d l).2.2,()))):=by
 have ec:fO.f k st=some (st,()):=by
  unfold fO.f fO.t
  rw [bK (by omega) (by decide),bK (by omega) (by decide),List.nil_append,List.nil_append]
 unfold i_.f i_.t lD
 rw [ec,aO]
 simp only []
 rw [kc k hd,aO]
 simp only []
 rw [u7 hk hd,aO]
 simp only []
 cases c1:m9 st d with
 | false=>rfl
 | true =>
  simp only [fV,aN]
  rw [yn hk,aO]
  simp only []
  cases c2:mu l with
  | false=>rfl
  | true =>
   have h8:=sn c2
   obtain ⟨g1,g2,g3⟩:=mU c1
   simp only [fV,aN]
   cases c3:(l.length:Int)==0 with
   | true=>rfl
   | false =>
    simp only [aN]
    rw [AU hk (by omega) (by omega),aO]
    simp only []
    cases c4:decide (sS st.2.1 l > 20) with
    | true=>rfl
    | false =>
     simp only [aN]
     by_cases c5:st.2.2.1 > (1000000:Int)
     · rw [aP c5];rfl
     · rw [aQ c5]
       simp only [aN]
       rw [Af hk g1 (Int.le_trans (by decide) g3) (Int.not_lt.1 c5) c2 g2,aO]
end Go.Proofs.YtohaanhjddohmaaGreatDoor.G
namespace Go.Proofs.YtohaanhjddohmaaGreatDoor.G
open Go.V
theorem wz {p:ByteArray} (hp:p=aK∨p=bz) {n:Int} (h0:1≤n) (h1:n≤100000):BL (aB p n)=(n,true):=by
 have e:aB p n=p++fy n:=by unfold aB;rw [aP ⟨h0,h1⟩];rfl
 have hn:HU (p++fy n) n:=⟨h0,h1,by rcases hp with q | q <;> rw [q] <;> simp⟩
 rw [e]
 rcases jD (HU (p++fy n)) (fun _=>p++fy n) (0:Int) (p++fy n) with ⟨r,g1,_,g3⟩ | g
 · unfold BL
   rw [g3,Es g1 hn]
 · exfalso
   unfold od at g
   rw [dif_pos ⟨n,hn,rfl⟩] at g
   cases (Prod.mk.inj g).2
theorem Cc (ids:List Int):∀ (l:bO) (acc:List ByteArray) (x:ByteArray),x ∈ mR ids l acc→x ∈ acc∨(((BL x).2&&!nN ids (BL x).1)||seq x j6)=true
 | [],acc,x,h => .inl h
 | f::l,acc,x,h=>by
  unfold mR at h
  rcases Cc ids l _ x h with q | q
  · cases c:lu ids f with
    | false=>rw [c] at q;exact .inl q
    | true =>
     rw [c,aZ] at q
     rcases List.mem_append.1 q with q | q
     · exact .inl q
     · rw [List.mem_singleton] at q
       subst q
       exact .inr c
  · exact .inr q
theorem GO {d:Ty.den a_} {ids:List Int} {x:ByteArray} (h:x ∈ kF d ids):(((BL x).2&&!nN ids (BL x).1)||seq x j6)=true:=by
 unfold kF at h
 cases c:fh d with
 | false=>rw [c] at h;cases h
 | true =>
  rw [c,aZ] at h
  rcases Cc ids d.1 [] x h with q | q
  · cases q
  · exact q
end Go.Proofs.YtohaanhjddohmaaGreatDoor.G
namespace Go.Proofs.YtohaanhjddohmaaGreatDoor.G
open Go.V
def FJ (d:Ty.den a_) (s:ByteArray):Nat:=((fT d s).getD ⟨#[]⟩).size
def jA (d:Ty.den a_) (ids:List Int):Nat:=(ids.map fun x=>FJ d (aB aK x)).sum
def iG:ac→Int
 | []=>0
 | e::l=>e.2.2.2.1+iG l
theorem ue {x y:Int} (hx:1≤x∧x≤100000) (hy:1≤y∧y≤100000) (h:x≠y):aB aK x≠aB aK y:=fun q=>by
 have e1:=wz (.inl rfl) hx.1 hx.2
 have e2:=wz (.inl rfl) hy.1 hy.2
 rw [q,e2] at e1
 injection e1 with e1 _
 exact h e1.symm
theorem wZ {x:Int} (hx:1≤x∧x≤100000):aB aK x=aK++fy x:=by
 unfold aB
 rw [aP hx]
 rfl
theorem nc {x:Int} (hx:1≤x∧x≤100000):j6≠aB aK x:=fun q=>by
 rw [wZ hx] at q
 have:=congrArg nb q
 rw [iL] at this
 cases this
theorem p0 {x:Int} (hx:1≤x∧x≤100000):dG≠aB aK x:=fun q=>by
 rw [wZ hx] at q
 have:=congrArg nb q
 rw [iL] at this
 cases this
theorem nV {n:Int} {ids:List Int} (h:dR (n,(ids,()))=true):1≤n∧n≤100000∧(∀ x ∈ ids,1≤x∧x<n)∧ids.Pairwise (· < ·):=by
 obtain ⟨g1,g2,_⟩:=dp h
 unfold dR at h
 simp only [kC,decide_eq_true_eq] at h
 have h3:=h.2.2
 rw [aD (n:=n-1) (by omega) (by omega)] at h3
 have key:∀ (l:List Int) (p:Option Int),qO (nz (n-1)) p l=true→(∀ x ∈ l,1≤x∧x<n∧∀ y,p=some y→y<x)∧l.Pairwise (· < ·):=by
  intro l
  induction l with
  | nil=>exact fun p _=>⟨fun x hx=>(by cases hx),List.Pairwise.nil⟩
  | cons a l ih =>
   intro p hp
   simp only [qO,kC] at hp
   obtain ⟨q1,q2⟩:=hp
   unfold nz at q1
   rw [kC,decide_eq_true_eq] at q1
   obtain ⟨⟨b1,b2⟩,b3⟩:=q1
   have b1:1≤a:=b1
   have b2:a≤n-1:=b2
   obtain ⟨i1,i2⟩:=ih (some a) q2
   have ha:∀ y,p=some y→y<a:=fun y e=>by
    rw [e] at b3
    exact of_decide_eq_true b3
   refine ⟨fun x hx=>?_,?_⟩
   · rcases List.mem_cons.1 hx with e | e
     · rw [e]
       exact ⟨b1,by omega,ha⟩
     · obtain ⟨c1,c2,c3⟩:=i1 x e
       have:=c3 a rfl
       exact ⟨c1,c2,fun y ey=>Int.lt_trans (ha y ey) this⟩
   · exact List.Pairwise.cons (fun x hx=>(i1 x hx).2.2 a rfl) i2
 obtain ⟨k1,k2⟩:=key ids none h3
 exact ⟨g1,g2,fun x hx=>⟨(k1 x hx).1,(k1 x hx).2.1⟩,k2⟩
theorem k_ {d d':Ty.den a_}:∀ {ids:List Int},(∀ x ∈ ids,fT d' (aB aK x)=fT d (aB aK x))→jA d' ids=jA d ids
 | [],_=>rfl
 | x::l,h=>by
  unfold jA at *
  rw [List.map_cons,List.map_cons,List.sum_cons,List.sum_cons]
  have e1:FJ d' (aB aK x)=FJ d (aB aK x):=by unfold FJ;rw [h x pR]
  have e2:=k_ (ids:=l) fun y hy=>h y (s9 _ hy)
  unfold jA at e2
  rw [e1,e2]
theorem Bm (d:Ty.den a_) (l m:List Int):jA d (l++m)=jA d l+jA d m:=by
 unfold jA
 rw [List.map_append,List.sum_append]
theorem IK {st:Ty.den aI} {d:Ty.den a_} (hl:dR st.1=true) (hd:DR d):jA d st.1.2.1≤jA (pM st d).2.1 (pM st d).1.1.2.1:=by
 obtain ⟨n1,n2,n3,_⟩:=nV (n:=st.1.1) (ids:=st.1.2.1) hl
 have hseg:∀ x:Int,x ∈ st.1.2.1→1≤x∧x≤100000:=fun x hx=>⟨(n3 x hx).1,by have:=(n3 x hx).2;omega⟩
 have hnew:∀ x ∈ st.1.2.1,aB aK st.1.1≠aB aK x:=fun x hx=>ue ⟨n1,n2⟩ (hseg x hx) (by have:=(n3 x hx).2;omega)
 have k1:∀ x ∈ st.1.2.1,fT (j8 d (j0 st)).1 (aB aK x)=fT d (aB aK x):=fun x hx=>rD
 have k2:∀ x ∈ st.1.2.1,fT (dD (aB aK st.1.1) (j8 d (j0 st)).1).1 (aB aK x)=fT d (aB aK x):=fun x hx=>(qb (hnew x hx)).trans (k1 x hx)
 have k3:∀ x ∈ st.1.2.1,fT (dq (qy st) (dD (aB aK st.1.1) (j8 d (j0 st)).1).1).1 (aB aK x)=fT d (aB aK x):=fun x hx=>(pi (nc (hseg x hx)) (p0 (hseg x hx))).trans (k2 x hx)
 unfold pM
 cases decide ((st.1.2.1.length:Int)≥60) with
 | true=>exact Nat.le_refl _
 | false =>
  cases decide (st.1.1≥(100000:Int)) with
  | true=>exact Nat.le_refl _
  | false =>
   simp only [aN]
   generalize j8 d (j0 st)=r1 at k1 k2 k3 ⊢
   generalize dD (aB aK st.1.1) r1.1=r2 at k2 k3 ⊢
   generalize dq (qy st) r2.1=r3 at k3 ⊢
   cases r1.2 != 0 with
   | true=>exact Nat.le_of_eq (k_ k1).symm
   | false =>
    cases r2.2 != 0 with
    | true=>exact Nat.le_of_eq (k_ k2).symm
    | false =>
     cases r3.2 != 0 with
     | true =>
      simp only [aZ,aN]
      unfold wW
      cases (tl r3).2==2 with
      | false=>exact Nat.le_of_eq (k_ k3).symm
      | true =>
       refine Nat.le_of_eq (k_ fun x hx=>?_).symm
       refine (pI [j6,aB aK st.1.1] r3.1 fun s hs=>?_).trans (k3 x hx)
       rcases List.mem_cons.1 hs with e | e
       · rw [e];exact nc (hseg x hx)
       · rw [List.mem_singleton.1 e];exact hnew x hx
     | false =>
      show jA d st.1.2.1≤jA r3.1 (st.1.2.1++[st.1.1])
      rw [Bm,k_ k3]
      exact Nat.le_add_right _ _
theorem G7 {d:Ty.den a_} {s x:ByteArray} (h:(iv d s x).2=0):(fT d s).isSome=true:=by
 obtain ⟨c1,_⟩:=nF h
 unfold yQ at c1
 unfold fT
 cases c:bg d.1 s with
 | none=>rw [c] at c1;cases c1
 | some f=>rfl
theorem sM {ids:List Int} (h:1≤ids.length):ids=ids.dropLast++[aa ids]:=by
 have hne:ids≠[]:=by intro q;rw [q] at h;simp at h
 have e:aa ids=ids.getLast hne:=by
  unfold aa
  rw [List.getLast_eq_getElem]
  simp [List.getD,show ids.length-1<ids.length by omega]
 rw [e]
 exact (List.dropLast_concat_getLast hne).symm
theorem EV {st:Ty.den aI} {d:Ty.den a_} (hl:dR st.1=true) (hd:DR d) (r:Ty.den bU) :
 (pa st d r).1.1.1=st.1∧(jA d st.1.2.1:Int)+(if (pa st d r).1.2.2=0 then dJ r else 0)≤(jA (pa st d r).1.2.1 st.1.2.1:Int)∧((pa st d r).1.2.2=0→(pa st d r).2.2.2.1=dJ r):=by
 obtain ⟨n1,n2,n3,n4⟩:=nV (n:=st.1.1) (ids:=st.1.2.1) hl
 obtain ⟨_,_,g1,_,_⟩:=dp (nx:=st.1.1) (ids:=st.1.2.1) hl
 have hs:=sM g1
 have hp:∀ x:Int,x ∈ st.1.2.1.dropLast→x<aa st.1.2.1:=fun x hx=>by
  rw [hs] at n4
  exact (List.pairwise_append.1 n4).2.2 x hx _ (List.mem_singleton.2 rfl)
 have hlast:aa st.1.2.1 ∈ st.1.2.1:=by rw [hs];exact List.mem_append_right _ (List.mem_singleton.2 (by rw [← hs]))
 have hb:∀ x:Int,x ∈ st.1.2.1→1≤x∧x≤100000:=fun x hx=>⟨(n3 x hx).1,by have:=(n3 x hx).2;omega⟩
 have ko:∀ x ∈ st.1.2.1.dropLast,fT (iv d (j0 st) (ah (aU r))).1 (aB aK x)=fT d (aB aK x):=fun x hx =>
  D_ (ue (hb _ hlast) (hb x (List.dropLast_subset _ hx)) (by have:=hp x hx;omega))
 have kl:=BI (d:=d) (s:=j0 st) (x:=ah (aU r))
 have ks:=G7 (d:=d) (s:=j0 st) (x:=ah (aU r))
 unfold pa
 generalize iv d (j0 st) (ah (aU r))=a at ko kl ks ⊢
 have e1:∀ dd:Ty.den a_,jA dd st.1.2.1=jA dd st.1.2.1.dropLast+FJ dd (j0 st):=fun dd=>by
  conv=>lhs;rw [hs]
  rw [Bm]
  unfold jA j0
  simp
 cases c:a.2==0 with
 | true =>
  have z:a.2=0:=E7 c
  have cn:(a.2 != 0)=false:=by unfold bne;rw [c];rfl
  rw [c,aZ] at kl
  obtain ⟨x,hx⟩:=Option.isSome_iff_exists.1 (ks z)
  rw [cn]
  refine ⟨rfl,?_,fun _=>rfl⟩
  show _+(if (0:Int)=0 then dJ r else 0)≤(jA a.1 st.1.2.1:Int)
  rw [if_pos rfl,e1 d,e1 a.1,k_ ko]
  have e2:FJ a.1 (j0 st)=FJ d (j0 st)+(ah (aU r)).size:=by
   unfold FJ
   rw [kl,hx]
   simp [ByteArray.size_append]
  rw [e2]
  unfold dJ
  omega
 | false =>
  have cn:(a.2 != 0)=true:=by unfold bne;rw [c];rfl
  rw [c,aN] at kl
  rw [cn]
  have hz:¬ (tl a).2=0:=fun e=>by
   have q:=Gx a
   rw [e,cn] at q
   cases q
  refine ⟨rfl,?_,fun e=>absurd e hz⟩
  show _+(if (tl a).2=0 then dJ r else 0)≤(jA a.1 st.1.2.1:Int)
  rw [if_neg hz,e1 d,e1 a.1,k_ ko]
  have e2:FJ a.1 (j0 st)=FJ d (j0 st):=by unfold FJ;rw [kl]
  rw [e2]
  omega
theorem Hz {st:Ty.den aI} {d:Ty.den a_} (hl:dR st.1=true) (hd:DR d) (r:Ty.den bU) :
 (jA d st.1.2.1:Int)+(if (jy st d r).1.2.2=0 then dJ r else 0)≤(jA (jy st d r).1.2.1 (jy st d r).1.1.1.2.1:Int)∧((jy st d r).1.2.2=0→(jy st d r).2.2.2.1=dJ r):=by
 unfold jy
 cases decide (st.2.2.2.1 > 0)&&decide (st.2.2.2.1+dJ r > 200) with
 | false =>
  obtain ⟨s1,s2,s3⟩:=EV hl hd r
  simp only [aN]
  rw [s1]
  exact ⟨s2,s3⟩
 | true =>
  obtain ⟨g1,g2,g3,g4⟩:=uZ hl hd
  have gs:=IK hl hd
  simp only [aZ]
  generalize pM st d=q at g1 g2 g3 g4 gs ⊢
  cases c:q.2.2 != 0 with
  | true =>
   have hz:¬ q.2.2=0:=fun e=>by rw [e] at c;cases c
   simp only [aZ]
   rw [if_neg hz]
   exact ⟨by omega,fun e=>absurd e hz⟩
  | false =>
   obtain ⟨s1,s2,s3⟩:=EV g1 g2 r
   simp only [aN]
   rw [s1]
   exact ⟨by omega,s3⟩
end Go.Proofs.YtohaanhjddohmaaGreatDoor.G
namespace Go.Proofs.YtohaanhjddohmaaGreatDoor.G
open Go.V
abbrev GS:=List (Ty.den bM)
def fQ (id:Int) (l:GS):an:=l.map fun x=>(id,x)
theorem oC (id:Int) (l:GS):(fQ id l).length=l.length:=by unfold fQ;rw [List.length_map]
theorem oi {k:Nat} (hk:2 ^ 50≤k) (id:Int) {l:GS} (hl:l.length≤1099511627775):dO.f k id l=some (fQ id l,()):=by
 unfold dO.f dO.t
 refine (du (L:=fun n i s=>dO.l0 k n id l l.length i s) (R:=fun r s=>some (s++fQ id r,())) (Ty.dflt bM) l (fun i s=>(s.length:Int)=i) (fun n s hs=>?_) (fun n i s x rest h0 h1 hx hr hp ih=>?_) (n:=k) (s:=[]) (by omega) (by decide)).trans (by rw [List.nil_append])
 · simp (disch:=omega) only [dO.l0,dO.b0,aQ,aN,fQ,List.map_nil,List.append_nil]
 · have ih:=ih (s++[(id,x)]) (by rw [bJ];omega)
   simp (disch:=first | omega | decide) only [dO.l0,dO.b0,aP,aZ,aG,hx,bK,aD]
   refine ih.trans ?_
   simp only [fQ,List.map_cons,rX,List.cons_append,List.nil_append]
theorem ou {k:Nat} (hk:2 ^ 50≤k) (id:Int) {s:ByteArray} (hs:s.size≤1099511627775):bD.f k id s=some (fQ id (ay s).1,()):=by
 unfold bD.f bD.t
 rw [lO hk hs,aO]
 have hl:=(gC s).1
 simp only []
 generalize (ay s).1=l at *
 refine (du (L:=fun n i s=>bD.l0 k n id i s l) (R:=fun r s=>some (s++fQ id r,())) (Ty.dflt bM) l (fun i s=>(s.length:Int)=i) (fun n s hs=>?_) (fun n i s x rest h0 h1 hx hr hp ih=>?_) (n:=k) (s:=[]) (by omega) (by decide)).trans (by rw [List.nil_append])
 · simp (disch:=omega) only [bD.l0,bD.b0,aQ,aN,fQ,List.map_nil,List.append_nil]
 · have ih:=ih (s++[(id,x)]) (by rw [bJ];omega)
   simp (disch:=first | omega | decide) only [bD.l0,bD.b0,aP,aZ,aG,hx,bK,aD]
   refine ih.trans ?_
   simp only [fQ,List.map_cons,rX,List.cons_append,List.nil_append]
end Go.Proofs.YtohaanhjddohmaaGreatDoor.G
namespace Go.Proofs.YtohaanhjddohmaaGreatDoor.G
open Go.V
def mw:Ty.den dc:=(0,(0,([],())))
def zq (s0:Int) (e:Ty.den aA):Bool:=(e.2.1==s0)&&!decide ((e.2.2.1:Int) > 100000)
def uI (l:ac):Bool:=l.all (zq (l.getD 0 (Ty.dflt aA)).2.1)
def jr (h:Ty.den dc):Bool:=decide ((0:Int)≤h.1∧h.1≤100000)&&(decide ((0:Int)≤h.2.1∧h.2.1≤1000000)&&(qd h.2.2.1&&uI h.2.2.1))
def iq (e:Ty.den aA):ByteArray:=jW e.1++(iA e.2.1++(iA e.2.2.1++(iA e.2.2.2.1++iA e.2.2.2.2.1)))
def iI:ac→ByteArray
 | []=>⟨#[]⟩
 | e::l=>iq e++iI l
def oz (h:Ty.den dc):ByteArray:=iA h.1++(iA h.2.1++(iA (h.2.2.1.length:Int)++iI h.2.2.1))
def bu (h:Ty.den dc):ByteArray:=if jr h=true then qT (oc (oz h))++oz h else ⟨#[]⟩
theorem yh {k:Nat} (hk:2 ^ 50≤k) (h:Ty.den dc):gi.f k h=some (jr h,()):=by
 unfold gi.f gi.t jr
 rw [gS,aO]
 cases decide ((0:Int)≤h.1∧h.1≤100000) with
 | false=>rfl
 | true =>
  simp only [fV,aN,Bool.true_and]
  rw [gS,aO]
  cases decide ((0:Int)≤h.2.1∧h.2.1≤1000000) with
  | false=>rfl
  | true =>
   simp only [fV,aN,Bool.true_and]
   rw [xh hk,aO]
   cases cd:qd h.2.2.1 with
   | false=>rfl
   | true =>
    simp only [fV,aN,Bool.true_and]
    have hl:h.2.2.1.length≤20:=by
     unfold qd at cd
     rw [kC,decide_eq_true_eq] at cd
     have:=cd.1
     omega
    unfold uI
    refine du (L:=fun n i (_:Unit)=>gi.l0 k n i h.1 h.2.1 h.2.2.1) (R:=fun r _=>some (r.all (zq (h.2.2.1.getD 0 (Ty.dflt aA)).2.1),())) (Ty.dflt aA) h.2.2.1 (fun _ _=>True) (fun n _ _=>?_) (fun n i _ x rest h0 h1 hx hr hp ih=>?_) (n:=k) (s:=()) (by omega) trivial
    · simp only [gi.l0,gi.b0]
      rw [aQ (by omega),aN]
      rfl
    · have ih:=ih () trivial
      simp only [gi.l0,gi.b0]
      rw [aP h1,aZ,aG h0 h1,aG (by omega) (by omega),hx,aG h0 h1,aD (n:=i+1) (by omega) (by omega),ih,List.all_cons]
      unfold zq bne
      cases x.2.1==(h.2.2.1.getD 0 (Ty.dflt aA)).2.1 <;> cases decide ((x.2.2.1:Int) > 100000) <;> rfl
theorem om {k:Nat} (hk:2 ^ 50≤k) {h:Ty.den dc} (hl:h.2.2.1.length≤1073741824):e_.f k h=some (jr h,()):=by
 unfold e_.f e_.t jr uI
 have fin:∀ b:Bool,(bif b then (Option.bind (az.f k h.1 0 100000) fun r1=>(bif r1.1 then (Option.bind (az.f k h.2.1 0 1000000) fun r2=>(bif r2.1 then (Option.bind (fJ.f k h.2.2.1) fun r3=>(some r3)) else (some (false,())))) else (some (false,())))) else (some (false,())))=some (decide ((0:Int)≤h.1∧h.1≤100000)&&(decide ((0:Int)≤h.2.1∧h.2.1≤1000000)&&(qd h.2.2.1&&b)),()):=fun b=>by
  rw [kR,aO,kR,aO,Dn hk (by omega),aO]
  simp only []
  cases decide ((0:Int)≤h.1∧h.1≤100000) <;> cases decide ((0:Int)≤h.2.1∧h.2.1≤1000000) <;> cases qd h.2.2.1 <;> cases b <;> rfl
 rw [← fin]
 refine du (L:=fun n i (_:Unit)=>e_.l0 k n h.2.2.1 h.2.2.1.length i h.1 h.2.1 h.2.2.1) (R:=fun r _=>bif r.all (zq (h.2.2.1.getD 0 (Ty.dflt aA)).2.1) then (Option.bind (az.f k h.1 0 100000) fun r1=>(bif r1.1 then (Option.bind (az.f k h.2.1 0 1000000) fun r2=>(bif r2.1 then (Option.bind (fJ.f k h.2.2.1) fun r3=>(some r3)) else (some (false,())))) else (some (false,())))) else (some (false,()))) (Ty.dflt aA) h.2.2.1 (fun _ _=>True) (fun n _ _=>?_) (fun n i _ x rest h0 h1 hx hr hp ih=>?_) (n:=k) (s:=()) (by omega) trivial
 · simp only [e_.l0,e_.b0]
   rw [aQ (by omega),aN]
   rfl
 · have ih:=ih () trivial
   simp only [e_.l0,e_.b0]
   rw [aP h1,aZ,aG h0 h1,aG (by omega) (by omega),hx,aD (n:=i+1) (by omega) (by omega),ih,List.all_cons]
   unfold zq bne
   cases x.2.1==(h.2.2.1.getD 0 (Ty.dflt aA)).2.1 <;> cases decide ((x.2.2.1:Int) > 100000) <;> rfl
theorem gh {l:ac} (h:qd l=true):l.length≤20∧∀ e ∈ l,(1≤e.1.size∧e.1.size≤8)∧(LE.le (α:=Int) 1 e.2.1∧LE.le (α:=Int) e.2.1 100000)∧LE.le (α:=Int) 0 e.2.2.1∧(LE.le (α:=Int) 1 e.2.2.2.1∧LE.le (α:=Int) e.2.2.2.1 210)∧(LE.le (α:=Int) 1 e.2.2.2.2.1∧LE.le (α:=Int) e.2.2.2.2.1 1000000):=by
 unfold qd at h
 rw [kC,decide_eq_true_eq] at h
 refine ⟨by have:=h.1;omega,fun e he=>?_⟩
 obtain ⟨q,hq⟩:=BG h.2 he
 unfold sF rL at hq
 rw [kC,kC,kC,kC,kC,decide_eq_true_eq,decide_eq_true_eq,decide_eq_true_eq,decide_eq_true_eq] at hq
 obtain ⟨g1,g2,g3,g4,g5,_⟩:=hq
 have g3':¬ LT.lt (α:=Int) e.2.2.1 0:=by
  intro q
  have:(!decide (e.2.2.1<(0:Int)))=false:=by rw [aP q];rfl
  rw [this] at g3
  cases g3
 exact ⟨by omega,g2,Int.not_lt.1 g3',g4,g5⟩
theorem kP {h:Ty.den dc} (q:jr h=true):qd h.2.2.1=true:=by
 unfold jr at q
 rw [kC,kC,kC] at q
 exact q.2.2.1
theorem rU {e:Ty.den aA}:(iq e).size≤35+e.1.size:=by
 have a:=ax (e.1.size:Int)
 have b:=ax e.2.1
 have c:=ax e.2.2.1
 have d:=ax e.2.2.2.1
 have f:=ax e.2.2.2.2.1
 unfold iq jW
 simp only [aM]
 omega
theorem pg:∀ {l:ac},(∀ e ∈ l,e.1.size≤8)→(iI l).size≤43*l.length
 | [],_=>Nat.zero_le _
 | e::l,h=>by
  have h1:=h e (pR ..)
  have h2:=pg (l:=l) fun x hx=>h x (s9 _ hx)
  have h3:=rU (e:=e)
  unfold iI
  rw [aM,lM]
  omega
theorem Dt {h:Ty.den dc} (q:jr h=true):(oz h).size≤900:=by
 obtain ⟨h1,h2⟩:=gh (kP q)
 have:=pg (l:=h.2.2.1) fun e he=>(h2 e he).1.2
 have a:=ax h.1
 have b:=ax h.2.1
 have c:=ax (h.2.2.1.length:Int)
 unfold oz
 simp only [aM]
 omega
theorem mN (h:Ty.den dc):(bu h).size≤904:=by
 unfold bu
 by_cases q:jr h=true
 · have:=Dt q
   rw [if_pos q,aM,show (qT (oc (oz h))).size=4 from rfl]
   omega
 · rw [if_neg q];decide
theorem jv {k:Nat} (hk:2 ^ 50≤k) (h:Ty.den dc):cH.f k h=some (bu h,()):=by
 unfold cH.f cH.t bu
 rw [yh hk,aO]
 cases q:jr h with
 | false=>rfl
 | true =>
  obtain ⟨h1,h2⟩:=gh (kP q)
  have a:=ax h.1
  have b:=ax h.2.1
  have c:=ax (h.2.2.1.length:Int)
  rw [fV,aN,gk hk,aO,gk hk,aO,if_pos rfl]
  simp only []
  rw [dW (by omega),gk hk,aO]
  simp only []
  rw [dW (by rw [aM];omega)]
  refine (du (L:=fun n i s=>cH.l0 k n s i h.1 h.2.1 h.2.2.1) (R:=fun r s=>some (qT (oc (s++iI r))++(s++iI r),())) (Ty.dflt aA) h.2.2.1 (fun i s=>(s.size:Int)≤21+43*i) (fun n s hs=>?_) (fun n i s x rest g0 g1 hx hr hs ih=>?_) (n:=k) (s:=iA h.1++iA h.2.1++iA (h.2.2.1.length:Int)) (by omega) (by rw [aM,aM];omega)).trans (by unfold oz;rw [ap,ap])
  · have hc:=tn s
    simp only [cH.l0,cH.b0]
    rw [aQ (by omega),aN,ss hk (by omega),aO]
    simp only []
    rw [pf hk hc.1 hc.2,aO]
    simp only []
    rw [dW (by rw [show (qT (oc s)).size=4 from rfl];omega),show iI []=⟨#[]⟩ from rfl,gL]
  · have hm:x ∈ h.2.2.1:=by rw [← hx];exact gP (by omega)
    have hz:=(h2 x hm).1.2
    have v1:=ax (x.1.size:Int)
    have v2:=ax x.2.1
    have v3:=ax x.2.2.1
    have v4:=ax x.2.2.2.1
    have v5:=ax x.2.2.2.2.1
    have ih:=ih (s++iq x) (by have:=rU (e:=x);rw [aM];omega)
    simp only [cH.l0,cH.b0]
    rw [aP g1,aZ,aG g0 g1,hx]
    simp only [gk hk,aO]
    rw [dW (by omega),dW (by rw [aM];omega),dW (by rw [aM,aM];omega),dW (by rw [aM,aM,aM];omega),dW (by rw [aM,aM,aM,aM];omega),dW (by rw [aM,aM,aM,aM,aM];omega),aD (n:=i+1) (by omega) (by omega)]
    have e:s++iA (x.1.size:Int)++x.1++iA x.2.1++iA x.2.2.1++iA x.2.2.2.1++iA x.2.2.2.2.1=s++iq x:=by
     unfold iq jW
     simp only [ap]
    rw [e,ih]
    rw [show iI (x::rest)=iq x++iI rest from rfl,ap]
theorem qJ {k:Nat} (hk:2 ^ 50≤k) {h:Ty.den dc} (hl:h.2.2.1.length≤1073741824):dX.f k h=some (bu h,()):=by
 unfold dX.f dX.t bu
 rw [om hk hl,aO]
 cases q:jr h with
 | false=>rfl
 | true =>
  obtain ⟨h1,h2⟩:=gh (kP q)
  have a:=ax h.1
  have b:=ax h.2.1
  have c:=ax (h.2.2.1.length:Int)
  rw [fV,aN,qc hk (by simp),aO,if_pos rfl]
  simp only []
  refine (du (L:=fun n i s=>dX.l0 k n s h.2.2.1 h.2.2.1.length i) (R:=fun r s=>some (qT (oc (s++iI r))++(s++iI r),())) (Ty.dflt aA) h.2.2.1 (fun i s=>(s.size:Int)≤21+43*i) (fun n s hs=>?_) (fun n i s x rest g0 g1 hx hr hs ih=>?_) (n:=k) (s:=dH [h.1,h.2.1,(h.2.2.1.length:Int)]) (by omega) (by simp only [dH,aM];rw [show (⟨#[]⟩:ByteArray).size=0 from rfl];omega)).trans (by unfold oz;simp only [dH,ap,gL,oV])
  · have hc:=tn s
    simp only [dX.l0,dX.b0]
    rw [aQ (by omega),aN,sv hk (by omega),aO]
    simp only []
    rw [pe hk hc.1 hc.2,aO]
    simp only []
    rw [dW (by rw [show (qT (oc s)).size=4 from rfl];omega),show iI []=⟨#[]⟩ from rfl,gL]
  · have hm:x ∈ h.2.2.1:=by rw [← hx];exact gP (by omega)
    have hz:=(h2 x hm).1.2
    have ht:=rU (e:=x)
    have v1:=ax (x.1.size:Int)
    have v2:=ax x.2.1
    have v3:=ax x.2.2.1
    have v4:=ax x.2.2.2.1
    have v5:=ax x.2.2.2.2.1
    have ih:=ih (s++iq x) (by have:=rU (e:=x);rw [aM];omega)
    have e:jW x.1++dH [x.2.1,x.2.2.1,x.2.2.2.1,x.2.2.2.2.1]=iq x:=by
     unfold iq
     simp only [dH,gL]
    simp only [dX.l0,dX.b0]
    rw [aP g1,aZ,aG g0 g1,hx,l_ hk (by omega),aO,qc hk (by simp),aO]
    simp only []
    have hts:(jW x.1).size+(dH [x.2.1,x.2.2.1,x.2.2.2.1,x.2.2.2.2.1]).size≤100:=by
     rw [← aM,e];omega
    rw [dW (by omega),e,dW (by omega),aD (n:=i+1) (by omega) (by omega),ih,show iI (x::rest)=iq x++iI rest from rfl,ap]
def nC (x y:Ty.den aA):Bool:=(seq x.1 y.1)&&((x.2.1==y.2.1)&&((x.2.2.1==y.2.2.1)&&((x.2.2.2.1==y.2.2.2.1)&&(x.2.2.2.2.1==y.2.2.2.2.1))))
def qI:ac→ac→Bool
 | [],[]=>true
 | x::l,y::m=>nC x y&&qI l m
 | _,_=>false
theorem CY {x y:Ty.den aA}:nC x y=true↔x=y:=by
 unfold nC
 simp only [kC,beq_iff_eq,dY]
 constructor
 · rintro ⟨h1,h2,h3,h4,h5⟩
   obtain ⟨a,b,c,d,e,_⟩:=x
   obtain ⟨a',b',c',d',e',_⟩:=y
   simp only at h1 h2 h3 h4 h5
   subst h1 h2 h3 h4 h5
   rfl
 · rintro rfl;exact ⟨rfl,rfl,rfl,rfl,rfl⟩
theorem zY:∀ {l m:ac},qI l m=true↔l=m
 | [],[]=>⟨fun _=>rfl,fun _=>rfl⟩
 | [],y::m=>⟨fun h=>(by cases h),fun h=>(by cases h)⟩
 | x::l,[]=>⟨fun h=>(by cases h),fun h=>(by cases h)⟩
 | x::l,y::m=>by
  unfold qI
  rw [kC,CY,zY,List.cons.injEq]
theorem zR:∀ {l m:ac},l.length≠m.length→qI l m=false:=fun {l m} h=>by
 cases c:qI l m with
 | false=>rfl
 | true=>rw [zY.1 c] at h;exact absurd rfl h
theorem pC {α:Type} {l:List α} {i:Nat} (z:α) (h:i<l.length):l.drop i=l.getD i z::l.drop (i+1):=by
 rw [List.drop_eq_getElem_cons h]
 simp [List.getD,h]
theorem xV {k:Nat} (hk:2 ^ 50≤k) {l m:ac} (hl:l.length≤1073741824):fP.f k l m=some (qI l m,()):=by
 unfold fP.f fP.t
 by_cases hne:l.length=m.length
 · rw [show ((l.length:Int) != (m.length:Int))=false by rw [hne];simp,aN]
   refine (H_ (L:=fun n i (_:Unit)=>fP.l0 k n l m i) (R:=fun i _=>some (qI (l.drop i.toNat) (m.drop i.toNat),())) l.length (fun _ _=>True) (fun n _ _=>?_) (fun n i _ h0 h1 _ ih=>?_) k 0 () (by omega) (by omega) (by omega) trivial).trans (by simp)
   · simp only [fP.l0,fP.b0]
     rw [aQ (by omega),aN,nK,List.drop_length,hne,List.drop_length]
     rfl
   · have ih:=ih () trivial
     have c1:i.toNat<l.length:=by omega
     simp only [fP.l0,fP.b0]
     rw [aP h1,aZ,aG h0 h1,aG h0 (by omega),aD (n:=i+1) (by omega) (by omega),ih,pC (Ty.dflt aA) c1,pC (Ty.dflt aA) (l:=m) (i:=i.toNat) (by omega),show (i+1).toNat=i.toNat+1 by omega]
     show _=some (nC _ _&&qI _ _,())
     show (bif !(nC (l.getD i.toNat (Ty.dflt aA)) (m.getD i.toNat (Ty.dflt aA))) then _ else _)=_
     cases nC (l.getD i.toNat (Ty.dflt aA)) (m.getD i.toNat (Ty.dflt aA)) <;> rfl
 · rw [show ((l.length:Int) != (m.length:Int))=true from bne_iff_ne.2 (by omega),aZ,zR hne]
theorem xO {k:Nat} (hk:2 ^ 50≤k) {l m:ac} (hl:l.length≤1073741824):fR.f k l m=some (qI l m,()):=by
 unfold fR.f fR.t
 by_cases hne:l.length=m.length
 · rw [show ((l.length:Int) != (m.length:Int))=false by rw [hne];simp,aN]
   refine (H_ (L:=fun n i (_:Unit)=>fR.l0 k n l m l.length i) (R:=fun i _=>some (qI (l.drop i.toNat) (m.drop i.toNat),())) l.length (fun _ _=>True) (fun n _ _=>?_) (fun n i _ h0 h1 _ ih=>?_) k 0 () (by omega) (by omega) (by omega) trivial).trans (by simp)
   · simp only [fR.l0,fR.b0]
     rw [aQ (by omega),aN,nK,List.drop_length,hne,List.drop_length]
     rfl
   · have ih:=ih () trivial
     have c1:i.toNat<l.length:=by omega
     simp only [fR.l0,fR.b0]
     rw [aP h1,aZ,aG h0 h1,aG h0 (by omega),aD (n:=i+1) (by omega) (by omega),ih,pC (Ty.dflt aA) c1,pC (Ty.dflt aA) (l:=m) (i:=i.toNat) (by omega),show (i+1).toNat=i.toNat+1 by omega]
     show _=some (nC _ _&&qI _ _,())
     show (bif !(nC (l.getD i.toNat (Ty.dflt aA)) (m.getD i.toNat (Ty.dflt aA))) then _ else _)=_
     cases nC (l.getD i.toNat (Ty.dflt aA)) (m.getD i.toNat (Ty.dflt aA)) <;> rfl
 · rw [show ((l.length:Int) != (m.length:Int))=true from bne_iff_ne.2 (by omega),aZ,zR hne]
def nM (mark:Int) (p:Option (Ty.den bM)) (x:Ty.den bM):Bool :=
 (x.2.2.1.1==4)&&(!decide ((x.2.2.1.2.1:Int) > mark)&&(match p with | none=>true | some y=>mv y.2.2.1.2.2.1 x.2.2.1.2.2.1))
def FA (id:Int) (x:Ty.den bM):Ty.den aA:=(x.2.2.1.2.2.1,(id,(x.1,(x.2.1,(x.2.2.1.2.1,())))))
noncomputable def fp (id:Int) (s:ByteArray):Ty.den dc × Bool :=
 bif (ay s).2 != (s.size:Int) then (mw,false) else bif (ay s).1.length==0 then (mw,false) else
 bif ((ay s).1.getD ((ay s).1.length-1) (Ty.dflt bM)).2.2.1.1 != 5 then (mw,false) else
 bif !decide ((1:Int)≤id∧id≤100000) then (mw,false) else
 bif !qO (nM ((ay s).1.getD ((ay s).1.length-1) (Ty.dflt bM)).2.2.1.2.1) none ((ay s).1.take ((ay s).1.length-1)) then (mw,false) else
 bif !kp ((ay s).1.getD ((ay s).1.length-1) (Ty.dflt bM)).2.2.1 (fQ id ((ay s).1.take ((ay s).1.length-1))) then (mw,false) else
 (((s.size:Int),(((ay s).1.getD ((ay s).1.length-1) (Ty.dflt bM)).2.2.1.2.1,(((ay s).1.take ((ay s).1.length-1)).map (FA id),()))),true)
theorem vo (id:Int):seq (aB aK id) ⟨#[]⟩=!decide ((1:Int)≤id∧id≤100000):=by
 by_cases h:(1:Int)≤id∧id≤100000
 · rw [aP h]
   have e:aB aK id=aK++fy id:=by unfold aB;rw [aP h];rfl
   rw [e,lb fun q=>?_]
   · rfl
   · have:=congrArg ByteArray.size q
     rw [aM] at this
     have s3:aK.size=3:=rfl
     have s0:(⟨#[]⟩:ByteArray).size=0:=rfl
     omega
 · rw [aQ h]
   have e:aB aK id=⟨#[]⟩:=by unfold aB;rw [aQ h];rfl
   rw [e,cm]
   rfl
theorem oa {k:Nat} (hk:2 ^ 50≤k) (id:Int) {s:ByteArray} (hs:s.size≤1073741823):cv.f k id s=some ((fp id s).1,((fp id s).2,())):=by
 have hln:=gC s
 unfold cv.f cv.t fp
 rw [lO hk (by omega),aO]
 simp only []
 generalize ay s=sc at hln ⊢
 obtain ⟨l,en⟩:=sc
 simp only at hln ⊢
 cases en != (s.size:Int) with
 | true=>rfl
 | false =>
  simp only [aN]
  by_cases h0:l.length=0
  · rw [show ((l.length:Int)==0)=true by rw [h0];rfl,show (l.length==0)=true by rw [h0];rfl]
    rfl
  · rw [show ((l.length:Int)==0)=false from nZ (by omega),show (l.length==0)=false from nZ h0]
    simp only [aN]
    have w1:aF ((l.length:Int)-1)=((l.length-1:Nat):Int):=by rw [aD (by omega) (by omega)];omega
    rw [w1,nK,aG (by omega) (by omega),aG (by omega) (by omega)]
    generalize hm:l.getD (l.length-1) (Ty.dflt bM)=m
    cases m.2.2.1.1 != 5 with
    | true=>rfl
    | false =>
     simp only [aN]
     rw [bV hk,aO]
     simp only [vo]
     cases decide ((1:Int)≤id∧id≤100000) with
     | false=>rfl
     | true =>
      simp only [fV,aN]
      have hpl:(l.take (l.length-1)).length=l.length-1:=by rw [List.length_take];omega
      refine (pV (L:=fun n i=>cv.l0 k n id i [] 0 0 l ((l.take i.toNat).map (FA id)) (s.size:Int) m.2.2.1.2.1 ((l.take i.toNat).map fun x=>x.2.2.1)) (Ty.dflt bM) (l.take (l.length-1)) (nM m.2.2.1.2.1)
       (bif !kp m.2.2.1 (fQ id (l.take (l.length-1))) then some (mw,(false,())) else some (((s.size:Int),(m.2.2.1.2.1,((l.take (l.length-1)).map (FA id),()))),(true,()))) (some (mw,(false,()))) (fun n=>?_) (fun n x h hx=>?_) (fun n i x y h0 h1 hx hy=>?_) (n:=k) (by omega)).trans (by
        cases qO (nM m.2.2.1.2.1) none (l.take (l.length-1)) <;> cases kp m.2.2.1 (fQ id (l.take (l.length-1))) <;> rfl)
      · simp only [cv.l0,cv.b0]
        rw [hpl,nK,aD (n:=((l.length-1:Nat):Int)+1) (by omega) (by omega),aQ (by omega),aN,w1,nK,aG (by omega) (by omega),hm,pm hk (by rw [List.length_map,hpl];omega),aO,List.length_map,hpl]
        unfold kp fQ bne
        rw [List.length_map,hpl,List.map_map]
        show (bif !(m.2.2.1.2.2.2.2.1==((l.length-1:Nat):Int)) then _ else bif !(m.2.2.1.2.2.2.2.2.1==BW ((l.take (l.length-1)).map fun x=>x.2.2.1)) then _ else _)=bif !((m.2.2.1.2.2.2.2.1==((l.length-1:Nat):Int))&&(m.2.2.1.2.2.2.2.2.1==BW ((l.take (l.length-1)).map fun x=>x.2.2.1))) then _ else _
        cases m.2.2.1.2.2.2.2.1==((l.length-1:Nat):Int) <;> cases m.2.2.1.2.2.2.2.2.1==BW ((l.take (l.length-1)).map fun x=>x.2.2.1) <;> rfl
      · rw [hpl] at h
        have hx':l.getD 0 (Ty.dflt bM)=x:=by rw [← hx,show Int.toNat 0=0 from rfl,kV (by omega)]
        simp only [cv.l0,cv.b0]
        rw [aD (n:=(0:Int)+1) (by omega) (by omega),aP (by omega),aZ,aG (by omega) (by omega),show Int.toNat 0=0 from rfl,hx',aQ (show ¬ (0:Int) > 0 by omega),aN,bK (by simp) (by decide),aG (by omega) (by omega),aG (by omega) (by omega),bK (by simp) (by decide),show Int.toNat 1=0+1 from rfl,jX (z:=Ty.dflt bM) (show 0<l.length by omega),hx']
        simp only [nM,bne]
        cases x.2.2.1.1==4 <;> cases decide ((x.2.2.1.2.1:Int) > m.2.2.1.2.1) <;> rfl
      · rw [hpl] at h1
        have hx':l.getD i.toNat (Ty.dflt bM)=x:=by rw [← hx,kV (by omega)]
        have hy':l.getD (i-1).toNat (Ty.dflt bM)=y:=by rw [← hy,kV (by omega)]
        simp only [cv.l0,cv.b0]
        rw [aD (n:=i+1) (by omega) (by omega),aP (by omega),aZ,aG (by omega) (by omega),hx',aP (show i > 0 by omega),aD (n:=i-1) (by omega) (by omega),aG (by omega) (by omega),hy',m5,bK (by rw [List.length_map,List.length_take];omega) (by decide),aG (by omega) (by omega),aG (by omega) (by omega),bK (by rw [List.length_map,List.length_take];omega) (by decide),show (i+1).toNat=i.toNat+1 by omega,jX (z:=Ty.dflt bM) (show i.toNat<l.length by omega),hx',List.map_append,List.map_append]
        simp only [nM,bne]
        cases x.2.2.1.1==4 <;> cases decide ((x.2.2.1.2.1:Int) > m.2.2.1.2.1) <;> cases mv y.2.2.1.2.2.1 x.2.2.1.2.2.1 <;> rfl
theorem yd {k:Nat} (hk:2 ^ 50≤k) (id:Int) {s:ByteArray} (hs:s.size≤1073741823):fF.f k id s=some ((fp id s).1,((fp id s).2,())):=by
 have hln:=gC s
 unfold fF.f fF.t fp
 rw [qn hk (by omega),aO]
 simp only []
 generalize ay s=sc at hln ⊢
 obtain ⟨l,en⟩:=sc
 simp only at hln ⊢
 have w0:aF ((l.length:Int)-1)=(l.length:Int)-1:=aD (by omega) (by omega)
 by_cases h0:l.length=0
 · rw [w0,aP (by omega),aZ,show (l.length==0)=true by rw [h0];rfl]
   cases en != (s.size:Int) <;> rfl
 · rw [w0,aQ (by omega),aN,show (l.length==0)=false from nZ h0]
   cases he:en != (s.size:Int) with
   | true=>rfl
   | false =>
    have hen:en=(s.size:Int):=by
     cases q:en==(s.size:Int) with
     | true=>exact E7 q
     | false=>unfold bne at he;rw [q] at he;cases he
    simp only [aN]
    have w1:(l.length:Int)-1=((l.length-1:Nat):Int):=by omega
    rw [kR,aO]
    simp only []
    rw [w1,nK,aG (by omega) (by omega),aG (by omega) (by omega),br (by omega) (by omega),aG (by omega) (by omega),br (by omega) (by omega)]
    generalize hm:l.getD (l.length-1) (Ty.dflt bM)=m
    have hpl:(l.take (l.length-1)).length=l.length-1:=by rw [List.length_take];omega
    rw [oi hk id (by omega),aO]
    simp only []
    rw [oN hk _ (by unfold fQ;rw [List.length_map];omega),aO]
    simp only []
    cases decide ((1:Int)≤id∧id≤100000) with
    | false=>cases m.2.2.1.1 != 5 <;> rfl
    | true =>
     cases m.2.2.1.1 != 5 with
     | true=>rfl
     | false =>
      simp only [fV,aN]
      cases kp m.2.2.1 (fQ id (l.take (l.length-1))) with
      | false=>cases qO (nM m.2.2.1.2.1) none (l.take (l.length-1)) <;> rfl
      | true =>
       simp only [fV,aN]
       refine (pV (L:=fun n i=>fF.l0 k n id l (l.take (l.length-1)) (l.take (l.length-1)).length i [] 0 0 ((l.take i.toNat).map (FA id)) en m.2.2.1.2.1) (Ty.dflt bM) (l.take (l.length-1)) (nM m.2.2.1.2.1)
        (some (((s.size:Int),(m.2.2.1.2.1,((l.take (l.length-1)).map (FA id),()))),(true,()))) (some (mw,(false,()))) (fun n=>?_) (fun n x h hx=>?_) (fun n i x y h0 h1 hx hy=>?_) (n:=k) (by omega)).trans (by
         cases qO (nM m.2.2.1.2.1) none (l.take (l.length-1)) <;> rfl)
       · simp only [fF.l0,fF.b0]
         rw [hpl,nK,aQ (by omega),aN,hen]
       · have h':=h
         rw [hpl] at h'
         have hx':l.getD 0 (Ty.dflt bM)=x:=by rw [← hx,show Int.toNat 0=0 from rfl,kV (by omega)]
         simp only [fF.l0,fF.b0]
         rw [aP (by omega),aZ,aG (by omega) (by omega),hx,aQ (show ¬ (0:Int) > 0 by omega),aN,bK (by simp) (by decide),aD (n:=(0:Int)+1) (by omega) (by omega),show Int.toNat 1=0+1 from rfl,jX (z:=Ty.dflt bM) (show 0<l.length by omega),hx']
         simp only [nM,bne]
         cases x.2.2.1.1==4 <;> cases decide ((x.2.2.1.2.1:Int) > m.2.2.1.2.1) <;> rfl
       · have h1':=h1
         rw [hpl] at h1'
         have hx':l.getD i.toNat (Ty.dflt bM)=x:=by rw [← hx,kV (by omega)]
         have hy':l.getD (i-1).toNat (Ty.dflt bM)=y:=by rw [← hy,kV (by omega)]
         simp only [fF.l0,fF.b0]
         rw [aP h1,aZ,aG (by omega) (by omega),hx,aP (show i > 0 by omega),aD (n:=i-1) (by omega) (by omega),aG (by omega) (by omega),hy',bK (by rw [List.length_map,List.length_take];omega) (by decide),aD (n:=i+1) (by omega) (by omega),show (i+1).toNat=i.toNat+1 by omega,jX (z:=Ty.dflt bM) (show i.toNat<l.length by omega),hx',List.map_append]
         simp only [nM,bne]
         cases x.2.2.1.1==4 <;> cases decide ((x.2.2.1.2.1:Int) > m.2.2.1.2.1) <;> cases mv y.2.2.1.2.2.1 x.2.2.1.2.2.1 <;> rfl
noncomputable def lV (id:Int) (s:ByteArray) (h:Ty.den dc):Bool:=(fp id s).2&&(((fp id s).1.1==h.1)&&(((fp id s).1.2.1==h.2.1)&&qI (fp id s).1.2.2.1 h.2.2.1))
theorem xw (id:Int) {s:ByteArray} (hs:s.size≤1073741823):(fp id s).1.2.2.1.length≤1073741824:=by
 have hln:=gC s
 unfold fp
 generalize ay s=sc at hln ⊢
 obtain ⟨l,en⟩:=sc
 simp only at hln ⊢
 cases en != (s.size:Int)
 · cases l.length==0
   · cases (l.getD (l.length-1) (Ty.dflt bM)).2.2.1.1 != 5
     · cases !decide ((1:Int)≤id∧id≤100000)
       · cases !qO (nM (l.getD (l.length-1) (Ty.dflt bM)).2.2.1.2.1) none (l.take (l.length-1))
         · cases !kp (l.getD (l.length-1) (Ty.dflt bM)).2.2.1 (fQ id (l.take (l.length-1)))
           · show ((l.take (l.length-1)).map (FA id)).length≤1073741824
             rw [List.length_map,List.length_take]
             omega
           · exact Nat.zero_le _
         · exact Nat.zero_le _
       · exact Nat.zero_le _
     · exact Nat.zero_le _
   · exact Nat.zero_le _
 · exact Nat.zero_le _
theorem vU {k:Nat} (hk:2 ^ 50≤k) (id:Int) {s:ByteArray} (hs:s.size≤1073741823) (h:Ty.den dc):gu.f k id s h=some (lV id s h,()):=by
 have hl:=xw id hs
 unfold gu.f gu.t lV
 rw [oa hk id hs,aO]
 simp only []
 rw [xV hk hl,aO]
 cases (fp id s).2 <;> cases (fp id s).1.1==h.1 <;> cases (fp id s).1.2.1==h.2.1 <;> rfl
theorem vX {k:Nat} (hk:2 ^ 50≤k) (id:Int) {s:ByteArray} (hs:s.size≤1073741823) (h:Ty.den dc):iT.f k id s h=some (lV id s h,()):=by
 have hl:=xw id hs
 unfold iT.f iT.t lV
 rw [yd hk id hs,aO]
 simp only []
 rw [xO hk hl,aO]
 cases (fp id s).2 <;> cases (fp id s).1.1==h.1 <;> cases (fp id s).1.2.1==h.2.1 <;> rfl
end Go.Proofs.YtohaanhjddohmaaGreatDoor.G
namespace Go.V
def ja {α:Type} (o:Option α) (P:α→Prop):Prop:=∃ r,o=some r∧P r
section
variable {α β:Type} {P P':α→Prop} {Q:β→Prop}
theorem bC {r:α} (h:P r):ja (some r) P:=⟨r,rfl,h⟩
theorem pj {o:Option α} {r:α} (e:o=some r) (h:P r):ja o P:=⟨r,e,h⟩
theorem JL {o:Option α} {r:α} (h:ja o (fun x=>x=r)):o=some r:=by
 obtain ⟨x,e,rfl⟩:=h
 exact e
theorem wQ {o:Option α} (h:ja o P) (hp:∀ r,P r→P' r):ja o P':=by
 obtain ⟨r,e,hr⟩:=h
 exact ⟨r,e,hp r hr⟩
theorem aV {o:Option α} {g:α→Option β} (h:ja o P) (hg:∀ r,P r→ja (g r) Q):ja (Option.bind o g) Q:=by
 obtain ⟨r,e,hr⟩:=h
 rw [e]
 exact hg r hr
theorem cM {o:Option α} {r:α} {g:α→Option β} (e:o=some r) (hg:ja (g r) Q):ja (Option.bind o g) Q:=by
 rw [e]
 exact hg
theorem bf {b:Bool} {x y:Option α} (h1:b=true→ja x P) (h2:b=false→ja y P):ja (bif b then x else y) P:=by
 cases b
 · exact h2 rfl
 · exact h1 rfl
theorem mP {b:Bool} {x y:Option α} (hb:b=true) (h:ja x P):ja (bif b then x else y) P:=by rw [hb];exact h
theorem lj {b:Bool} {x y:Option α} (hb:b=false) (h:ja y P):ja (bif b then x else y) P:=by rw [hb];exact h
theorem kB {i n:Int} {x:Option α} (h0:0≤i) (h1:i<n) (h:ja x P):ja (ba i n x) P:=by rw [aG h0 h1];exact h
theorem oI {i n:Int} {x:Option α} (h0:0≤i) (h1:i≤n) (h:ja x P):ja (mj i n x) P:=by rw [br h0 h1];exact h
theorem uj {b n:Nat} {x:Option α} (h0:n≤1099511627776) (hb:b≤128) (h:ja x P):ja (rm b n x) P:=by rw [bK h0 hb];exact h
theorem n5 {a b:ByteArray} {x:Option α} (h0:a.size+b.size≤4611686018427387904) (h:ja x P):ja (jk a b x) P:=by rw [dW h0];exact h
end
end Go.V
namespace Go.Proofs.YtohaanhjddohmaaGreatDoor.G
open Go.V
noncomputable def ff (s:ByteArray):Ty.den dc × Bool:=od (fun h=>jr h=true) bu mw s
def RH (s:ByteArray) (o:Option (Ty.den dc × Bool × Unit)):Prop:=(∃ h,jr h=true∧bu h=s∧o=some (h,(true,())))∨o=some (mw,(false,()))
theorem xY (s:ByteArray):RH s (some (mw,(false,()))) := .inr rfl
theorem Dv {s:ByteArray} (hs:4≤s.size) (h:Ty.den dc):RH s (bif !seq (bu h) s then some (mw,(false,())) else some (h,(true,()))):=by
 cases c:seq (bu h) s with
 | false=>exact .inr rfl
 | true =>
  have e:=dY.1 c
  refine .inl ⟨h,?_,e,rfl⟩
  cases q:jr h with
  | true=>rfl
  | false =>
   unfold bu at e
   rw [if_neg (by rw [q];decide)] at e
   rw [← e] at hs
   exact absurd hs (by decide)
theorem FH {k:Nat} (hk:2 ^ 50≤k) {s:ByteArray} (hs:s.size≤1073741824) {m:Int} (h0:0≤m) (hm:m≤4):∀ (d n:Nat) (pos j:Int) (out:List Int),j+(d:Int)=m→0≤j→d<n→0≤pos→pos≤s.size→(out.length:Int)=j →
 ja (bm.l0 k n s pos m j out) (fun r=>(r.2.1 = -1∨(pos≤r.2.1∧r.2.1≤(s.size:Int)))∧(r.1.length:Int)=m):=by
 intro d
 induction d with
 | zero =>
  intro n pos j out h1 h2 hn h3 h4 h5
  obtain ⟨n,rfl⟩:∃ q,n=q+1:=⟨n-1,by omega⟩
  simp only [bm.l0,bm.b0]
  exact lj (aQ (by omega)) (bC ⟨.inr ⟨Int.le_refl _,h4⟩,by show (out.length:Int)=m;omega⟩)
 | succ d ih =>
  intro n pos j out h1 h2 hn h3 h4 h5
  obtain ⟨n,rfl⟩:∃ q,n=q+1:=⟨n-1,by omega⟩
  have hr:=AC (ByteArray.extract s pos.toNat s.size)
  rw [p9] at hr
  simp only [bm.l0,bm.b0]
  refine mP (aP (by omega)) (oI h3 h4 (cM (fm hk _) ?_))
  generalize Cv (rv 7 (nb (ByteArray.extract s pos.toNat s.size)))=r at hr
  refine bf (fun _=>?_) (fun _=>?_)
  · rw [JF h0 (by omega) (by decide)]
    exact bC ⟨.inl rfl,by show ((List.replicate m.toNat _).length:Int)=m;rw [List.length_replicate];omega⟩
  · rw [aD (n:=pos+r.2.1) (by omega) (by omega),aD (n:=j+1) (by omega) (by omega)]
    refine uj (by omega) (by decide) (wQ (ih n (pos+r.2.1) (j+1) (out++[r.1]) (by omega) (by omega) (by omega) (by omega) (by omega) (by rw [bJ];omega)) fun x hx=>⟨?_,hx.2⟩)
    rcases hx.1 with q | q
    · exact .inl q
    · exact .inr ⟨by omega,q.2⟩
theorem C8 {k:Nat} (hk:2 ^ 50≤k) {s:ByteArray} (hs:s.size≤1073741824) {m pos:Int} (h0:0≤m) (hm:m≤4) (h1:0≤pos) (h2:pos≤s.size) :
 ja (bm.f k s pos m) (fun r=>(r.2.1 = -1∨(pos≤r.2.1∧r.2.1≤(s.size:Int)))∧(r.1.length:Int)=m):=by
 unfold bm.f bm.t
 exact FH hk hs h0 hm m.toNat k pos 0 [] (by omega) (by omega) (by omega) h1 h2 rfl
def BZ (x:Int):Prop:=0≤x∧x≤1000000
theorem oT {x:Int} (h:BZ x):∃ n:Nat,n<562949953421312∧x=(n:Int)∧iA x=bE n:=by
 obtain ⟨n,rfl⟩:=Int.eq_ofNat_of_zero_le h.1
 have:=h.2
 exact ⟨n,by omega,rfl,dL (by omega)⟩
theorem Cf {k:Nat} (hk:2 ^ 50≤k) {m:Int} (hm:m≤4):∀ (xs:List Int) (pre t:ByteArray) (n:Nat) (j:Int) (out:List Int),(∀ x ∈ xs,BZ x)→j+(xs.length:Int)=m→0≤j→xs.length<n→(out.length:Int)≤j→pre.size+((dH xs).size+t.size)≤1073741824 →
 bm.l0 k n (pre++(dH xs++t)) (pre.size:Int) m j out=some (out++xs,(((pre.size+(dH xs).size:Nat):Int),()))
 | [],pre,t,n,j,out,hx,h1,h2,hn,h3,hz=>by
  obtain ⟨n,rfl⟩:∃ q,n=q+1:=⟨n-1,by omega⟩
  simp only [List.length_nil] at h1
  simp only [bm.l0,bm.b0]
  rw [aQ (by omega),aN,List.append_nil]
  rfl
 | x::xs,pre,t,n,j,out,hx,h1,h2,hn,h3,hz=>by
  obtain ⟨n,rfl⟩:∃ q,n=q+1:=⟨n-1,by omega⟩
  obtain ⟨a,ha,rfl,hv⟩:=oT (hx x (pR ..))
  have hva:=af a
  rw [lM] at h1 hn
  have e1:dH ((a:Int)::xs)=bE a++dH xs:=by rw [dH,hv]
  rw [e1,aM] at hz
  rw [e1]
  have e2:pre++(bE a++dH xs++t)=pre++bE a++(dH xs++t):=by simp only [ap]
  have ih:=Cf hk hm xs (pre++bE a) t n (j+1) (out++[(a:Int)]) (fun y hy=>hx y (s9 _ hy)) (by omega) (by omega) (by omega) (by rw [bJ];omega) (by rw [aM];omega)
  simp only [bm.l0,bm.b0]
  rw [aP (by omega),aZ,br (by omega) (by rw [aM];omega),nK,fW,ap,co hk ha,aO]
  simp only []
  rw [show (((bE a).size:Int)==0)=false from nZ (by omega),aN,bK (by omega) (by decide),tV,aD (by omega) (by omega),aD (n:=j+1) (by omega) (by omega)]
  rw [aM] at ih
  rw [← ap pre,ih,rX,aM,Nat.add_assoc]
  rfl
theorem Ed {k:Nat} (hk:2 ^ 50≤k) {xs:List Int} (pre t:ByteArray) (hx:∀ x ∈ xs,BZ x) (hl:xs.length≤4) (hz:pre.size+((dH xs).size+t.size)≤1073741824) :
 bm.f k (pre++(dH xs++t)) (pre.size:Int) (xs.length:Int)=some (xs,(((pre.size+(dH xs).size:Nat):Int),())):=by
 unfold bm.f bm.t
 exact Cf hk (by omega) xs pre t k 0 [] hx (by omega) (by omega) (by omega) (by simp) hz
theorem KZ {k:Nat} (hk:2 ^ 50≤k) {s:ByteArray} (hs:s.size≤1073741824):ja (cV.f k s) (fun r=>r.2.1.size≤s.size):=by
 rcases nQ s with ⟨u,t,hu,rfl⟩ | h
 · rw [aM,aM] at hs
   exact pj (vB hk hu (by rw [aM];omega)) (by show t.size≤_;rw [aM,aM];omega)
 · exact pj (wT hk (by omega) h) (Nat.zero_le _)
theorem Cq {k:Nat} (hk:2 ^ 50≤k) {s:ByteArray} (h4:4≤s.size) (hs:s.size≤1073741824) (z:ac) (z1 z2 a b:Int) {xs:List Int} (hx:xs.length=3) (hc:xs.getD 2 (Ty.dflt (.int .i64))≤(20:Int)):∀ (d n:Nat) (pos j:Int) (out:ac),j+(d:Int)=20→0≤j→d<n→0≤pos→pos≤s.size→(out.length:Int)≤j →
 RH s (bZ.l0 k n s pos j z z1 z2 xs out a b):=by
 intro d
 induction d with
 | zero =>
  intro n pos j out h1 h2 hn h3 h5 h6
  obtain ⟨n,rfl⟩:∃ q,n=q+1:=⟨n-1,by omega⟩
  simp only [bZ.l0,bZ.b0]
  rw [aG (by omega) (by omega),aQ (show ¬ j<xs.getD 2 (Ty.dflt (.int .i64)) by omega),aN,jv hk,aO]
  exact Dv h4 _
 | succ d ih =>
  intro n pos j out h1 h2 hn h3 h5 h6
  obtain ⟨n,rfl⟩:∃ q,n=q+1:=⟨n-1,by omega⟩
  have hz:=p9 s pos.toNat
  simp only [bZ.l0,bZ.b0]
  rw [aG (by omega) (by omega)]
  by_cases c:j<xs.getD 2 (Ty.dflt (.int .i64))
  · rw [aP c,aZ,br h3 h5]
    obtain ⟨r2,e2,q2⟩:=KZ hk (s:=ByteArray.extract s pos.toNat s.size) (by omega)
    rw [e2,aO]
    obtain ⟨r3,e3,q3,q4⟩:=C8 hk (s:=r2.2.1) (m:=4) (pos:=0) (by omega) (by omega) (by omega) (by omega) (by omega)
    rw [e3,aO]
    cases r2.2.2.1 with
    | false=>exact xY s
    | true =>
     simp only [fV,aN]
     by_cases c3:r3.2.1<0
     · rw [aP c3];exact xY s
     · rw [aQ c3,aN,aG (by omega) (by omega),aG (by omega) (by omega),aG (by omega) (by omega),aG (by omega) (by omega),bK (by omega) (by decide),aD (n:=(s.size:Int)-(r2.2.1.size:Int)) (by omega) (by omega),aD (n:=(s.size:Int)-(r2.2.1.size:Int)+r3.2.1) (by omega) (by omega),aD (n:=j+1) (by omega) (by omega)]
       exact ih n _ (j+1) _ (by omega) (by omega) (by omega) (by omega) (by omega) (by rw [bJ];omega)
  · rw [aQ c,aN,jv hk,aO]
    exact Dv h4 _
theorem Dh {k:Nat} (hk:2 ^ 50≤k) {s:ByteArray} (hs:s.size≤1073741824):RH s (bZ.f k s):=by
 unfold bZ.f bZ.t
 by_cases h4:(s.size:Int)<4
 · rw [aP h4];exact xY s
 · rw [aQ h4,aN]
   obtain ⟨r,e,q1,q2⟩:=C8 hk (s:=s) (m:=3) (pos:=4) hs (by omega) (by omega) (by omega) (by omega)
   rw [e,aO]
   by_cases c1:r.2.1<0
   · rw [aP c1];exact xY s
   · rw [aQ c1,aN,aG (by omega) (by omega)]
     by_cases c2:r.1.getD 2 (Ty.dflt (.int .i64)) > (20:Int)
     · rw [aP c2];exact xY s
     · rw [aQ c2,aN,aG (by omega) (by omega),aG (by omega) (by omega)]
       exact Cq hk (by omega) hs [] 0 0 _ _ (by omega) (Int.not_lt.1 c2) 20 k r.2.1 0 [] (by omega) (by omega) (by omega) (by omega) (by omega) (by simp)
theorem CK {e:Ty.den aA} {l:ac} (hl:qd l=true) (ho:uI l=true) (he:e ∈ l):∀ x ∈ [(e.2.1:Int),e.2.2.1,e.2.2.2.1,e.2.2.2.2.1],BZ x:=by
 obtain ⟨_,q⟩:=gh hl
 obtain ⟨_,⟨a1,a2⟩,b1,⟨c1,c2⟩,⟨d1,d2⟩⟩:=q e he
 have h2:=List.all_eq_true.1 ho e he
 unfold zq at h2
 rw [kC] at h2
 have b2:LE.le (α:=Int) e.2.2.1 100000:=by
  refine Int.not_lt.1 fun w=>?_
  have:(!decide ((e.2.2.1:Int) > 100000))=false:=by rw [aP w];rfl
  rw [this] at h2
  cases h2.2
 intro x hx
 simp only [List.mem_cons,List.not_mem_nil,or_false] at hx
 rcases hx with rfl | rfl | rfl | rfl
 · exact ⟨by omega,by omega⟩
 · exact ⟨b1,by omega⟩
 · exact ⟨by omega,by omega⟩
 · exact ⟨by omega,d2⟩
theorem zF (e:Ty.den aA) (h:e.1.size≤8) (t:ByteArray):iq e++t=bE e.1.size++(e.1++(dH [(e.2.1:Int),e.2.2.1,e.2.2.2.1,e.2.2.2.2.1]++t)):=by
 unfold iq jW
 rw [dL (by omega)]
 simp only [dH,gL,ap]
theorem wg {k:Nat} (hk:2 ^ 50≤k) {h:Ty.den dc} (q:jr h=true) (z:ac) (z1 z2:Int):∀ (r:ac) (pre:ByteArray) (n:Nat) (j:Int) (out:ac),(∀ e ∈ r,e ∈ h.2.2.1)→out++r=h.2.2.1→(out.length:Int)=j→r.length<n→bu h=pre++iI r→pre.size≤1000 →
 bZ.l0 k n (bu h) (pre.size:Int) j z z1 z2 [(h.1:Int),h.2.1,(h.2.2.1.length:Int)] out h.1 h.2.1=some (h,(true,()))
 | [],pre,n,j,out,hr,ho,hj,hn,hs,hp=>by
  obtain ⟨n,rfl⟩:∃ q,n=q+1:=⟨n-1,by omega⟩
  rw [List.append_nil] at ho
  simp only [bZ.l0,bZ.b0]
  rw [aG (by omega) (by simp),show List.getD [(h.1:Int),h.2.1,(h.2.2.1.length:Int)] 2 (Ty.dflt (.int .i64))=(h.2.2.1.length:Int) from rfl,ho,aQ (by rw [← hj,ho];omega),aN,show (h.1,(h.2.1,(h.2.2.1,())))=h from rfl,jv hk,aO]
  simp only [cm]
  rfl
 | e::r,pre,n,j,out,hr,ho,hj,hn,hs,hp=>by
  obtain ⟨n,rfl⟩:∃ q,n=q+1:=⟨n-1,by omega⟩
  have hlen:h.2.2.1.length=out.length+(r.length+1):=by rw [← ho,vW,lM]
  have he:=hr e (pR ..)
  have hd:=kP q
  have h1:uI h.2.2.1=true:=by unfold jr at q;rw [kC,kC,kC] at q;exact q.2.2.2
  have hk8:=((gh hd).2 e he).1.2
  have h20:=(gh hd).1
  have hnum:=CK hd h1 he
  have hz:=mN h
  have hf:=zF e hk8 (iI r)
  have hs2:bu h=pre++(bE e.1.size++(e.1++(dH [(e.2.1:Int),e.2.2.1,e.2.2.2.1,e.2.2.2.2.1]++iI r))):=by rw [← hf];exact hs
  have hs3:bu h=(pre++iq e)++iI r:=by rw [ap];exact hs
  have hsz:=congrArg ByteArray.size hs2
  simp only [aM] at hsz
  have hsz3:=congrArg ByteArray.size hs3
  rw [aM,aM] at hsz3
  have ih:=wg hk q z z1 z2 r (pre++iq e) n (j+1) (out++[e]) (fun x hx=>hr x (s9 _ hx)) (by rw [rX];exact ho) (by rw [bJ];omega) (by rw [lM] at hn;omega) hs3 (by rw [aM];omega)
  have hv:=Ed hk (xs:=[(e.2.1:Int),e.2.2.1,e.2.2.2.1,e.2.2.2.2.1]) ⟨#[]⟩ (iI r) hnum (by simp) (by rw [e0];omega)
  rw [oV,e0] at hv
  simp only [bZ.l0,bZ.b0]
  rw [aG (by omega) (by simp),show List.getD [(h.1:Int),h.2.1,(h.2.2.1.length:Int)] 2 (Ty.dflt (.int .i64))=(h.2.2.1.length:Int) from rfl,aP (by omega),aZ,br (by omega) (by omega),nK]
  have ex:ByteArray.extract (bu h) pre.size (bu h).size=bE e.1.size++(e.1++(dH [(e.2.1:Int),e.2.2.1,e.2.2.2.1,e.2.2.2.2.1]++iI r)):=by rw [hs2,fW]
  rw [ex,vB hk (by omega) (by simp only [aM];omega),aO]
  simp only []
  rw [show bm.f k (dH [(e.2.1:Int),e.2.2.1,e.2.2.2.1,e.2.2.2.2.1]++iI r) 0 4=_ from hv,aO]
  simp only [fV,aN]
  rw [aQ (by omega),aN,aG (by omega) (by simp),aG (by omega) (by simp),aG (by omega) (by simp),aG (by omega) (by simp),bK (by omega) (by decide),aD (n:=j+1) (by omega) (by omega)]
  have hsv:(dH [(e.2.1:Int),e.2.2.1,e.2.2.2.1,e.2.2.2.2.1]++iI r).size=(dH [(e.2.1:Int),e.2.2.1,e.2.2.2.1,e.2.2.2.2.1]).size+(iI r).size:=aM _ _
  have w:aF (aF (((bu h).size:Int)-((dH [(e.2.1:Int),e.2.2.1,e.2.2.2.1,e.2.2.2.2.1]++iI r).size:Int))+((0+(dH [(e.2.1:Int),e.2.2.1,e.2.2.2.1,e.2.2.2.2.1]).size:Nat):Int))=((pre++iq e).size:Int):=by
   have hpe:=aM pre (iq e)
   rw [aD (n:=((bu h).size:Int)-_) (by omega) (by omega),aD (by omega) (by omega)]
   omega
  rw [w]
  exact ih
theorem yv {h:Ty.den dc} (q:jr h=true):∀ x ∈ [(h.1:Int),h.2.1,(h.2.2.1.length:Int)],BZ x:=by
 have h20:=(gh (kP q)).1
 unfold jr at q
 rw [kC,kC,decide_eq_true_eq,decide_eq_true_eq] at q
 obtain ⟨⟨a1,a2⟩,⟨b1,b2⟩,_⟩:=q
 intro x hx
 simp only [List.mem_cons,List.not_mem_nil,or_false] at hx
 rcases hx with rfl | rfl | rfl
 · exact ⟨a1,by have:LE.le (α:=Int) h.1 100000:=a2;omega⟩
 · exact ⟨b1,b2⟩
 · exact ⟨by omega,by omega⟩
theorem sD {h:Ty.den dc} (q:jr h=true):bu h=qT (oc (oz h))++(dH [(h.1:Int),h.2.1,(h.2.2.1.length:Int)]++iI h.2.2.1):=by
 unfold bu
 rw [if_pos q]
 unfold oz
 simp only [dH,gL,ap]
theorem s8 (x:Int):(qT x).size=4:=rfl
theorem FY {k:Nat} (hk:2 ^ 50≤k) {h:Ty.den dc} (q:jr h=true):bZ.f k (bu h)=some (h,(true,())):=by
 have h20:=(gh (kP q)).1
 have hf:=sD q
 have hz:=mN h
 have hsz:=congrArg ByteArray.size hf
 rw [aM,aM,s8] at hsz
 have hv:=Ed hk (xs:=[(h.1:Int),h.2.1,(h.2.2.1.length:Int)]) (qT (oc (oz h))) (iI h.2.2.1) (yv q) (by simp) (by rw [s8];omega)
 rw [← hf,s8] at hv
 unfold bZ.f bZ.t
 rw [aQ (by omega),aN,show bm.f k (bu h) 4 3=_ from hv,aO]
 simp only []
 rw [aQ (by omega),aN,aG (by omega) (by simp),show List.getD [(h.1:Int),h.2.1,(h.2.2.1.length:Int)] 2 (Ty.dflt (.int .i64))=(h.2.2.1.length:Int) from rfl,aQ (by omega),aN,aG (by omega) (by simp),aG (by omega) (by simp)]
 have:=wg hk q [] 0 0 h.2.2.1 (qT (oc (oz h))++dH [(h.1:Int),h.2.1,(h.2.2.1.length:Int)]) k 0 [] (fun e he=>he) rfl rfl (by omega) (by rw [ap];exact hf) (by rw [aM,s8];omega)
 rw [aM,s8] at this
 exact this
theorem qF {k:Nat} (hk:2 ^ 50≤k) {s:ByteArray} (hs:s.size≤1073741824):bZ.f k s=some ((ff s).1,((ff s).2,())) :=
 mL (fun h h1 h2=>by rw [← h2];exact FY hk h1) (Dh hk hs)
theorem ut {k:Nat} (hk:2 ^ 50≤k) {r:ByteArray} (b:Bool) (hs:r.size≤1073741824):ja (aJ.f k (r,(b,()))) (fun x=>x.1.1.size≤r.size∧(b=true→x.1.2.1=true)∧(x.1.2.1=false→x.1.1.size<r.size)∧0≤x.2.1∧x.2.1<562949953421312):=by
 cases b with
 | true=>exact pj (vP hk (by omega)) ⟨Nat.le_refl _,fun _=>rfl,fun h=>(by cases h),Int.le_refl _,by show (0:Int)<562949953421312;omega⟩
 | false =>
  rcases jx r with ⟨a,t,ha,rfl⟩ | h
  · have:=af a
    rw [aM] at hs
    exact pj (fH hk ha (by omega)) ⟨by show t.size≤_;rw [aM];omega,fun h=>(by cases h),fun _=>by show t.size<_;rw [aM];omega,by show (0:Int)≤(a:Int);omega,by show (a:Int)<_;omega⟩
  · exact pj (lq hk h (by omega)) ⟨Nat.le_refl _,fun h=>(by cases h),fun h=>(by cases h),Int.le_refl _,by show (0:Int)<562949953421312;omega⟩
theorem Ef (k:Nat) (r:ByteArray) (b:Bool) {n:Int} (h0:0≤n):ja (ak.f k (r,(b,())) n) (fun x=>x.1.1.size≤r.size∧(b=true→x.1.2.1=true)):=by
 cases b with
 | true=>exact pj (ri k r n) ⟨Nat.le_refl _,fun _=>rfl⟩
 | false =>
  by_cases h:n > (r.size:Int)
  · exact pj (rt k h) ⟨Nat.le_refl _,fun _=>rfl⟩
  · have e:=tO r (n:=n.toNat) (by omega)
    have hz:(ByteArray.extract r 0 n.toNat).size=n.toNat:=by rw [← cX,kJ,List.length_take,cX];omega
    have:=rS k (ByteArray.extract r 0 n.toNat) (ByteArray.extract r n.toNat r.size)
    rw [← e,hz,show ((n.toNat:Nat):Int)=n by omega] at this
    exact pj this ⟨by show (ByteArray.extract r n.toNat r.size).size≤_;rw [p9];omega,fun h=>(by cases h)⟩
theorem Is {k:Nat} (hk:2 ^ 50≤k) {r:ByteArray} (b:Bool) (hs:r.size≤1073741824):ja (ag.f k (r,(b,()))) (fun x=>x.1.1.size≤r.size∧(b=true→x.1.2.1=true)∧(x.1.2.1=false→x.1.1.size<r.size)):=by
 unfold ag.f ag.t
 refine aV (ut hk b hs) fun r1 q1=>?_
 obtain ⟨a1,a2,a3,a4,_⟩:=q1
 refine aV (Ef k r1.1.1 r1.1.2.1 a4) fun r2 q2=>bC ⟨by omega,fun h=>q2.2 (a2 h),fun h=>?_⟩
 cases c:r1.1.2.1 with
 | true=>rw [q2.2 c] at h;cases h
 | false=>have:=a3 c;omega
theorem qV {k:Nat} (n:Nat) (s:ByteArray) (c j:Int) (z:ac) (z1 z2:Int) (rest:ByteArray) (out:ac) (a b:Int):b_.l0 k (n+1) s c j z z1 z2 rest true out a b=some (mw,(false,())):=by
 simp only [b_.l0,b_.b0]
 cases decide (j<c) <;> rfl
theorem DN {k:Nat} (hk:2 ^ 50≤k) {s:ByteArray} (h4:4≤s.size) {h:Ty.den dc} (hl:h.2.2.1.length≤1073741824):RH s (Option.bind (e_.f k h) fun r12=>(bif (!r12.1) then (some ((0,(0,([],()))),(false,()))) else (Option.bind (dX.f k h) fun r13=>(bif (!(seq r13.1 s)) then (some ((0,(0,([],()))),(false,()))) else (some (h,(true,()))))))):=by
 rw [om hk hl,aO,qJ hk hl,aO]
 cases jr h with
 | false=>exact xY s
 | true=>exact Dv h4 h
theorem C_ {k:Nat} (hk:2 ^ 50≤k) {s:ByteArray} (h4:4≤s.size) (c:Int) (hc:c<562949953421312) (z:ac) (z1 z2 a b:Int):∀ (n:Nat) (rest:ByteArray) (j:Int) (out:ac),rest.size+2≤n→0≤j→out.length+rest.size≤1073741824 →
 RH s (b_.l0 k n s c j z z1 z2 rest false out a b):=by
 intro n
 induction n with
 | zero=>intro rest j out h1;omega
 | succ n ih =>
  intro rest j out h1 h2 h5
  obtain ⟨n,rfl⟩:∃ q,n=q+1:=⟨n-1,by omega⟩
  simp only [b_.l0]
  unfold b_.b0
  by_cases cj:j<c
  · rw [aP cj,aZ,ot,aZ]
    obtain ⟨r5,e5,p1,p2,p3⟩:=Is hk false (r:=rest) (by omega)
    rw [e5,aO]
    obtain ⟨r6,e6,s1,s2,s3,_⟩:=ut hk r5.1.2.1 (r:=r5.1.1) (by omega)
    rw [show aJ.f k r5.1=_ from e6,aO]
    obtain ⟨r7,e7,t1,t2,t3,_⟩:=ut hk r6.1.2.1 (r:=r6.1.1) (by omega)
    rw [show aJ.f k r6.1=_ from e7,aO]
    obtain ⟨r8,e8,u1,u2,u3,_⟩:=ut hk r7.1.2.1 (r:=r7.1.1) (by omega)
    rw [show aJ.f k r7.1=_ from e8,aO]
    obtain ⟨r9,e9,v1,v2,v3,_⟩:=ut hk r8.1.2.1 (r:=r8.1.1) (by omega)
    rw [show aJ.f k r8.1=_ from e9,aO,bK (by omega) (by decide),aD (n:=j+1) (by omega) (by omega)]
    cases hb:r9.1.2.1 with
    | true=>exact .inr (qV n s c (j+1) z z1 z2 _ _ a b)
    | false =>
     have:=v3 hb
     exact ih r9.1.1 (j+1) _ (by omega) (by omega) (by rw [bJ];omega)
  · rw [aQ cj,aN]
    simp only [aN]
    exact DN hk h4 (h:=(a,(b,(out,())))) (by show out.length≤_;omega)
theorem B7 {k:Nat} (hk:2 ^ 50≤k) {s:ByteArray} (h:s.size<4):b_.f k s=some (mw,(false,())):=by
 unfold b_.f b_.t
 rw [rt k (by omega),aO]
 simp only []
 rw [vP hk (by omega),aO]
 simp only []
 rw [vP hk (by omega),aO]
 simp only []
 rw [vP hk (by omega),aO]
 obtain ⟨q,hq⟩:∃ q,k=q+1:=⟨k-1,by omega⟩
 exact (congrArg (fun z=>b_.l0 k z s 0 0 [] 0 0 s true [] 0 0) hq).trans (qV q s 0 0 [] 0 0 s [] 0 0)
theorem DF {k:Nat} (hk:2 ^ 50≤k) {s:ByteArray} (hs:s.size≤1073741824):RH s (b_.f k s):=by
 by_cases h4:s.size<4
 · rw [B7 hk h4];exact xY s
 unfold b_.f b_.t
 obtain ⟨r1,e1,p1,_⟩:=Ef k s false (n:=4) (by omega)
 rw [e1,aO]
 obtain ⟨r2,e2,s1,_,_,_⟩:=ut hk r1.1.2.1 (r:=r1.1.1) (by omega)
 rw [show aJ.f k r1.1=_ from e2,aO]
 obtain ⟨r3,e3,t1,_,_,_⟩:=ut hk r2.1.2.1 (r:=r2.1.1) (by omega)
 rw [show aJ.f k r2.1=_ from e3,aO]
 obtain ⟨r4,e4,u1,_,_,u4,u5⟩:=ut hk r3.1.2.1 (r:=r3.1.1) (by omega)
 rw [show aJ.f k r3.1=_ from e4,aO]
 cases r4.1.2.1 with
 | true =>
  obtain ⟨q,hq⟩:∃ q,k=q+1:=⟨k-1,by omega⟩
  exact .inr ((congrArg (fun z=>b_.l0 k z s r4.2.1 0 [] 0 0 r4.1.1 true [] r2.2.1 r3.2.1) hq).trans (qV q s _ 0 [] 0 0 _ [] _ _))
 | false=>exact C_ hk (by omega) r4.2.1 u5 [] 0 0 _ _ k r4.1.1 0 [] (by omega) (by omega) (by simp only [List.length_nil];omega)
theorem wY {k:Nat} (hk:2 ^ 50≤k) {h:Ty.den dc} (q:jr h=true) (z:ac) (z1 z2:Int):∀ (r:ac) (n:Nat) (j:Int) (out:ac),(∀ e ∈ r,e ∈ h.2.2.1)→out++r=h.2.2.1→(out.length:Int)=j→r.length<n →
 b_.l0 k n (bu h) (h.2.2.1.length:Int) j z z1 z2 (iI r) false out h.1 h.2.1=some (h,(true,()))
 | [],n,j,out,hr,ho,hj,hn=>by
  obtain ⟨n,rfl⟩:∃ q,n=q+1:=⟨n-1,by omega⟩
  have h20:=(gh (kP q)).1
  rw [List.append_nil] at ho
  simp only [b_.l0,b_.b0]
  rw [aQ (by rw [← hj,ho];omega),aN,aN,ho,show (h.1,(h.2.1,(h.2.2.1,())))=h from rfl,om hk (by omega),aO,q]
  simp only [fV,aN]
  rw [qJ hk (by omega),aO]
  simp only [cm]
  rfl
 | e::r,n,j,out,hr,ho,hj,hn=>by
  obtain ⟨n,rfl⟩:∃ q,n=q+1:=⟨n-1,by omega⟩
  have hlen:h.2.2.1.length=out.length+(r.length+1):=by rw [← ho,vW,lM]
  have he:=hr e (pR ..)
  have hd:=kP q
  have h1:uI h.2.2.1=true:=by unfold jr at q;rw [kC,kC,kC] at q;exact q.2.2.2
  have hk8:=((gh hd).2 e he).1.2
  have h20:=(gh hd).1
  have hnum:=CK hd h1 he
  have hes:=pg (l:=r) fun x hx=>((gh hd).2 x (hr x (s9 _ hx))).1.2
  obtain ⟨n1,b1,f1,g1⟩:=oT (hnum e.2.1 (by simp))
  obtain ⟨n2,b2,f2,g2⟩:=oT (hnum e.2.2.1 (by simp))
  obtain ⟨n3,b3,f3,g3⟩:=oT (hnum e.2.2.2.1 (by simp))
  obtain ⟨n4,b4,f4,g4⟩:=oT (hnum e.2.2.2.2.1 (by simp))
  have v1:=af n1
  have v2:=af n2
  have v3:=af n3
  have v4:=af n4
  have hform:iI (e::r)=bE e.1.size++(e.1++(bE n1++(bE n2++(bE n3++(bE n4++iI r))))):=by
   rw [show iI (e::r)=iq e++iI r from rfl,zF e hk8]
   simp only [dH,gL,ap,g1,g2,g3,g4]
  have ih:=wY hk q z z1 z2 r n (j+1) (out++[e]) (fun x hx=>hr x (s9 _ hx)) (by rw [rX];exact ho) (by rw [bJ];omega) (by rw [lM] at hn;omega)
  have hl20:r.length≤20:=by omega
  rw [hform]
  simp only [b_.l0,b_.b0]
  rw [aP (by omega),aZ,ot,aZ,n7 hk (by omega) (by simp only [aM];omega),aO]
  simp only []
  rw [fH hk b1 (by simp only [aM];omega),aO]
  simp only []
  rw [fH hk b2 (by simp only [aM];omega),aO]
  simp only []
  rw [fH hk b3 (by simp only [aM];omega),aO]
  simp only []
  rw [fH hk b4 (by omega),aO]
  simp only []
  rw [bK (by omega) (by decide),aD (n:=j+1) (by omega) (by omega),← f1,← f2,← f3,← f4]
  exact ih
theorem Fc {k:Nat} (hk:2 ^ 50≤k) {h:Ty.den dc} (q:jr h=true):b_.f k (bu h)=some (h,(true,())):=by
 have h20:=(gh (kP q)).1
 have hes:=pg (l:=h.2.2.1) fun x hx=>((gh (kP q)).2 x hx).1.2
 have hnum:=yv q
 obtain ⟨n1,b1,f1,g1⟩:=oT (hnum h.1 (by simp))
 obtain ⟨n2,b2,f2,g2⟩:=oT (hnum h.2.1 (by simp))
 obtain ⟨n3,b3,f3,g3⟩:=oT (hnum (h.2.2.1.length:Int) (by simp))
 have v1:=af n1
 have v2:=af n2
 have v3:=af n3
 have hform:bu h=qT (oc (oz h))++(bE n1++(bE n2++(bE n3++iI h.2.2.1))):=by
  rw [sD q]
  simp only [dH,gL,ap,g1,g2,g3]
 have hl:=wY hk q [] 0 0 h.2.2.1 k 0 [] (fun e he=>he) rfl rfl (by omega)
 unfold b_.f b_.t
 have eb:=rS k (qT (oc (oz h))) (bE n1++(bE n2++(bE n3++iI h.2.2.1)))
 rw [← hform,s8] at eb
 rw [show ak.f k (bu h,(false,())) 4=_ from eb,aO]
 simp only []
 rw [fH hk b1 (by simp only [aM];omega),aO]
 simp only []
 rw [fH hk b2 (by simp only [aM];omega),aO]
 simp only []
 rw [fH hk b3 (by omega),aO]
 simp only []
 rw [← f1,← f2,← f3]
 exact hl
theorem vS {k:Nat} (hk:2 ^ 50≤k) {s:ByteArray} (hs:s.size≤1073741824):b_.f k s=some ((ff s).1,((ff s).2,())) :=
 mL (fun h h1 h2=>by rw [← h2];exact Fc hk h1) (DF hk hs)
theorem pY {s:ByteArray}:(ff s).1.2.2.1.length≤20:=by
 rcases jD (fun h=>jr h=true) bu mw s with ⟨r,h1,_,e⟩ | e
 · unfold ff
   rw [e]
   exact (gh (kP h1)).1
 · unfold ff
   rw [e]
   exact Nat.zero_le _
end Go.Proofs.YtohaanhjddohmaaGreatDoor.G
namespace Go.Proofs.YtohaanhjddohmaaGreatDoor.G
open Go.V
def iJ:Ty.den aI:=((0,([],())),([],(0,(0,(0,())))))
noncomputable def pb (d:Ty.den a_) (x:Int) (last:Bool):Bool:=(aS d (aB aK x)).2&&(last||!decide ((ay (d5 d x)).2<((d5 d x).size:Int)))
noncomputable def gQ (d:Ty.den a_):List Int→Bool
 | []=>true
 | x::l=>pb d x l.isEmpty&&gQ d l
noncomputable def lx (d:Ty.den a_) (x:Int):an:=fQ x (ay (d5 d x)).1
noncomputable def jZ (d:Ty.den a_):List Int→an
 | []=>[]
 | x::l=>lx d x++jZ d l
noncomputable def mD (d:Ty.den a_) (x:Int):Ty.den dc:=(ff (aS d (aB bz x)).1).1
noncomputable def mr (d:Ty.den a_) (x:Int):Bool:=(aS d (aB bz x)).2&&((ff (aS d (aB bz x)).1).2&&lV x (d5 d x) (mD d x))
noncomputable def oq (d:Ty.den a_) (ids:List Int):Ty.den g_ :=
 bif mr d (ids.getD 0 0) then kE ((mD d (ids.getD 0 0)).2.2.1,((mD d (ids.getD 0 0)).2.1,(0,()))) (jZ d (ids.drop 1)) else kE ([],(0,(0,()))) (jZ d ids)
noncomputable def E9 (v:Ty.den bA) (en:Int) (g:Ty.den g_) (hi:Int):Ty.den aI:=(v,(g.1,(aF (g.2.1+1),(en,(hi,())))))
noncomputable def tB (v:Ty.den bA) (en:Int) (x:Ty.den a_) (g:Ty.den g_) (hi:Int):Ty.den aI × RD :=
 bif g.2.2.1 != 0 then (iJ,(x,3)) else bif (gM v.2.1 x).2 != 0 then (iJ,((gM v.2.1 x).1,fL (gM v.2.1 x).2)) else
 (E9 v en g hi,((gM v.2.1 x).1,0))
noncomputable def r_ (v:Ty.den bA) (d:Ty.den a_):Ty.den aI × RD :=
 bif !gQ d v.2.1 then (iJ,(d,3)) else
 bif (fq (aa v.2.1) d).2 != 0 then (iJ,((fq (aa v.2.1) d).1,fL (fq (aa v.2.1) d).2)) else
 tB v (ay (d5 d (aa v.2.1))).2 (fq (aa v.2.1) d).1 (oq (fq (aa v.2.1) d).1 v.2.1) (bif mr (fq (aa v.2.1) d).1 (v.2.1.getD 0 0) then v.2.1.getD 0 0 else 0)
def vA:Ty.den bA:=(2,([1],()))
noncomputable def kv (d:Ty.den a_):RD:=ga (ga (gM [] d) fun x=>qS x (aB aK 1)) (dq vA)
noncomputable def nk (d:Ty.den a_):Ty.den aI × RD :=
 bif (kv d).2==0 then ((vA,([],(1,(0,(0,()))))),((kv d).1,0)) else (iJ,((kv d).1,fL (kv d).2))
noncomputable def jP (d:Ty.den a_):Ty.den aI × RD :=
 bif !fh d then (iJ,(d,4)) else bif d.2.2.2.1 then (iJ,(d,1)) else
 bif !(aS d dG).2 then nk d else
 bif !(cO (aS d dG).1).2 then (iJ,(d,3)) else r_ (cO (aS d dG).1).1 d
def oS (q:Ty.den aI × RD):Ty.den aI × Ty.den a_ × Int × Unit:=(q.1,(q.2.1,(q.2.2,())))
theorem Ec {lim:Int}:∀ (l:List Int) (p:Option Int),qO (nz lim) p l=true→(∀ q,p=some q→∀ x ∈ l,q<x)∧l.Pairwise (fun a b=>a<b)
 | [],p,_=>⟨fun q _ x hx=>(by cases hx),List.Pairwise.nil⟩
 | y::l,p,h=>by
  unfold qO at h
  rw [kC] at h
  obtain ⟨h1,h2⟩:=h
  obtain ⟨a,b⟩:=Ec l (some y) h2
  have hy:∀ q,p=some q→q<y:=fun q hq=>by
   subst hq
   unfold nz at h1
   rw [kC] at h1
   exact of_decide_eq_true h1.2
  refine ⟨fun q hq x hx=>?_,List.pairwise_cons.2 ⟨a y rfl,b⟩⟩
  rcases List.mem_cons.1 hx with e | e
  · rw [e];exact hy q hq
  · have:=a y rfl x e
    have:=hy q hq
    omega
theorem F9 {v:Ty.den bA} (h:dR v=true):v.2.1.Pairwise (fun a b=>a<b):=by
 unfold dR at h
 rw [kC,kC] at h
 exact (Ec _ _ h.2.2).2
theorem HF {α:Type} {l m:List α} {n:Nat} {z:α} (h:l.length≤n):(l++m).getD n z=m.getD (n-l.length) z:=by
 simp [List.getD,List.getElem?_append_right h]
theorem I8 {ids:List Int} (hp:ids.Pairwise (fun a b=>a<b)) {i:Nat} {x:Int} {rest:List Int} (h:ids.drop i=x::rest):(x==aa ids)=rest.isEmpty:=by
 have hi:=I2 h
 have hlen:=congrArg List.length h
 rw [List.length_drop,lM] at hlen
 have e:ids=ids.take i++(x::rest):=by rw [← h,List.take_append_drop]
 have hl:aa ids=(x::rest).getD rest.length 0:=by
  unfold aa
  have ht:(ids.take i).length=i:=by rw [List.length_take];omega
  conv=>lhs;rw [e]
  rw [HF (by rw [ht,vW,ht,lM];omega),ht,vW,ht,lM]
  congr 1
  omega
 cases rest with
 | nil=>rw [hl];exact beq_self_eq_true x
 | cons y r =>
  rw [hl]
  have hm:(x::y::r).getD (y::r).length 0 ∈ y::r:=by
   show (y::r).getD r.length 0 ∈ y::r
   exact gP (by rw [lM];omega)
  have hpd:(x::y::r).Pairwise (fun a b=>a<b):=by rw [← h];exact hp.drop
  have:=(List.pairwise_cons.1 hpd).1 _ hm
  exact nZ (by omega)
theorem lN {d:Ty.den a_} (h:DR d) (x:Int):(d5 d x).size≤100000:=by
 have:=fZ d (aB aK x)
 have h2:=h.use
 have h3:=h.cap1
 unfold d5
 omega
theorem qg {d:Ty.den a_} (h:DR d) (x:Int):(lx d x).length≤100000:=by
 have h1:=lN h x
 have h2:=gC (d5 d x)
 unfold lx
 rw [oC]
 omega
theorem mG {d:Ty.den a_} (h:DR d):∀ l:List Int,(jZ d l).length≤100000*l.length
 | []=>Nat.zero_le _
 | x::l=>by
  have h1:=qg h x
  have h2:=mG h l
  unfold jZ
  rw [vW,lM]
  omega
theorem An {k:Nat} (hk:2 ^ 50≤k) {d:Ty.den a_} (h:DR d):gV.f k d=some (oS (nk d)):=by
 have h1:=pJ [] d h
 have hv:dR vA=true:=by decide
 unfold gV.f gV.t nk kv
 rw [tQ hk h (by decide),aO]
 simp only [show ((0,(([]:List Int),())):Ty.den bA).2.1=[] from rfl]
 generalize gM [] d=r at h1 ⊢
 unfold ga
 simp only [bne,gg]
 cases c:r.2==0 with
 | false=>simp only [ot,aZ,aN,c];rfl
 | true =>
  simp only [fV,aN,aZ]
  rw [bV hk,aO]
  simp only []
  have hn:=qX (.inl rfl:aK=aK∨aK=bz) 1
  rw [nr hk h1.sz (by omega),aO]
  simp only [dC,aO]
  cases c2:(qS r.1 (aB aK 1)).2==0 with
  | false=>simp only [ot,aZ,aN,c2];rfl
  | true =>
   simp only [fV,aN,aZ]
   rw [show ((2,([1],())):Ty.den bA)=vA from rfl,ng hk (xr h1 _) hv,aO]
   simp only [gg]
   cases c3:(dq vA (qS r.1 (aB aK 1)).1).2==0 <;> rfl
def Hw (k:Nat) (v:Ty.den bA) (en:Int) (x:Ty.den a_) (hi:Int) (dir:ac) (la:Int) (pl:an):Option (Ty.den aI × Ty.den a_ × Int × Unit) :=
 (Option.bind (cF.f k (dir,(la,(0,()))) pl) fun r33=>(bif (r33.1.2.2.1 != 0) then (some (iJ,(x,(3,())))) else
 (Option.bind (bx.f k x v) fun r34=>(bif (r34.2.1 != 0) then (some (iJ,r34)) else (some ((v,(r33.1.1,((aF (r33.1.2.1+1)),(en,(hi,()))))),(r34.1,(0,()))))))))
theorem EC {k:Nat} (hk:2 ^ 50≤k) {v:Ty.den bA} (hv:v.2.1.length≤60) (en:Int) {x:Ty.den a_} (h:DR x) (hi:Int) {dir:ac} (hd:dir.length≤1000) (la:Int) {pl:an} (hp:pl.length≤100000000) :
 Hw k v en x hi dir la pl=some (oS (tB v en x (kE (dir,(la,(0,()))) pl) hi)):=by
 unfold Hw tB
 rw [yG hk _ (by omega) (by show dir.length≤_;omega),aO]
 simp only [bne]
 cases (kE (dir,(la,(0,()))) pl).2.2.1==0 with
 | false=>rfl
 | true =>
  simp only [fV,aN]
  rw [tQ hk h (by omega),aO]
  simp only [gg]
  cases (gM v.2.1 x).2==0 <;> rfl
theorem It {k:Nat} (hk:2 ^ 50≤k) {v:Ty.den bA} (hv:v.2.1.length≤60) (en:Int) {x:Ty.den a_} (h:DR x) (hi:Int) (dir:ac) (la:Int) :
 ∀ (n:Nat) (i:Int) (pl:an),0≤i→i≤(v.2.1.length:Int)→(v.2.1.length:Int)-i<n→1≤i∧(pl.length:Int)≤100000*i →
 bG.l1 k n i [] [] 0 0 0 0 [] 0 0 false [] [] 0 0 0 0 v.2.1 v.1 x.1 x.2.1 x.2.2.1 x.2.2.2.1 [] v.1 0 en hi dir la 0 pl=Hw k v en x hi dir la (pl++jZ x (v.2.1.drop i.toNat)):=by
 have hl:=h.sz.l
 have hu:=h.sz.u
 have hn:=h.sz.n
 refine Fz (L:=fun n i pl=>bG.l1 k n i [] [] 0 0 0 0 [] 0 0 false [] [] 0 0 0 0 v.2.1 v.1 x.1 x.2.1 x.2.2.1 x.2.2.2.1 [] v.1 0 en hi dir la 0 pl) (R:=fun r pl=>Hw k v en x hi dir la (pl++jZ x r)) (Ty.dflt (.int .i64)) v.2.1 (fun i pl=>1≤i∧(pl.length:Int)≤100000*i) (fun n pl hp=>?_) (fun n i pl y rest h0 h1 hy hr hp ih=>?_)
 · simp only [bG.l1,bG.b1]
   rw [aQ (by omega),aN,show jZ x []=[] from rfl,List.append_nil]
   rfl
 · have hs:=lN h y
   have hpl:=qg h y
   have ht:=fZ x (aB bz y)
   have ih:=ih (pl++lx x y) ⟨by omega,by rw [vW];omega⟩
   simp only [bG.l1,bG.b1]
   rw [aP h1,aZ,aG h0 h1,hy,bV hk,aO]
   simp only []
   rw [show (x.1,(x.2.1,(x.2.2.1,(x.2.2.2.1,()))))=x from rfl,fa hk (by omega) (by omega) (by omega),aO,aG h0 h1,iD hk,aO]
   simp only []
   rw [fa hk (by omega) (by omega) (by omega),aO]
   simp only []
   rw [qF hk (by omega),aO,show (i==0)=false from nZ (by omega)]
   simp only [aN]
   rw [aG h0 h1,ou hk y (by show (d5 x y).size≤_;omega),aO]
   simp only []
   rw [bK (by show pl.length+(lx x y).length≤_;omega) (by decide),aD (n:=i+1) (by omega) (by omega)]
   refine ih.trans ?_
   rw [rX]
   rfl
theorem wR {k:Nat} (hk:2 ^ 50≤k) {v:Ty.den bA} (hv:v.2.1.length≤60) (hv1:1≤v.2.1.length) (en:Int) {x:Ty.den a_} (h:DR x) :
 bG.l1 k k 0 [] [] 0 0 0 0 [] 0 0 false [] [] 0 0 0 0 v.2.1 v.1 x.1 x.2.1 x.2.2.1 x.2.2.2.1 [] v.1 0 en 0 [] 0 0 []=some (oS (tB v en x (oq x v.2.1) (bif mr x (v.2.1.getD 0 0) then v.2.1.getD 0 0 else 0))):=by
 have hl:=h.sz.l
 have hu:=h.sz.u
 have hn:=h.sz.n
 obtain ⟨n,hn2⟩:∃ q,k=q+1:=⟨k-1,by omega⟩
 have hs:=lN h (v.2.1.getD 0 0)
 have hpl:=qg h (v.2.1.getD 0 0)
 have ht:=fZ x (aB bz (v.2.1.getD 0 0))
 have hpa:=mG h (v.2.1.drop 1)
 have hpb:=mG h v.2.1
 rw [List.length_drop] at hpa
 have hh:=pY (s:=(aS x (aB bz (v.2.1.getD 0 0))).1)
 have step:=fun hi dir la pl=>It hk hv en h hi dir la n 1 pl (by omega) (by omega) (by omega)
 refine (congrArg (fun z=>bG.l1 k z 0 [] [] 0 0 0 0 [] 0 0 false [] [] 0 0 0 0 v.2.1 v.1 x.1 x.2.1 x.2.2.1 x.2.2.2.1 [] v.1 0 en 0 [] 0 0 []) hn2).trans ?_
 have hsplit:v.2.1=v.2.1.getD 0 0::v.2.1.drop 1:=by
  have:=pC (0:Int) (l:=v.2.1) (i:=0) (by omega)
  rw [List.drop_zero] at this
  exact this
 simp only [bG.l1,bG.b1]
 rw [aP (by omega),aZ,aG (by omega) (by omega),show List.getD v.2.1 (Int.toNat 0) (Ty.dflt (.int .i64))=v.2.1.getD 0 0 from rfl,bV hk,aO]
 simp only []
 rw [show (x.1,(x.2.1,(x.2.2.1,(x.2.2.2.1,()))))=x from rfl,fa hk (by omega) (by omega) (by omega),aO,aG (by omega) (by omega),iD hk,aO]
 simp only []
 rw [fa hk (by omega) (by omega) (by omega),aO]
 simp only []
 rw [qF hk (by omega),aO,show ((0:Int)==0)=true from rfl]
 simp only [aZ]
 rw [ou hk (v.2.1.getD 0 0) (by show (d5 x (v.2.1.getD 0 0)).size≤_;omega),aO]
 simp only []
 rw [bK (by show ([]:an).length+(lx x (v.2.1.getD 0 0)).length≤_;rw [List.length_nil];omega) (by decide),aD (n:=(0:Int)+1) (by omega) (by omega),aG (by omega) (by omega)]
 rw [show List.getD v.2.1 0 (Ty.dflt (.int .i64))=v.2.1.getD 0 0 from rfl]
 rw [vU hk _ (by show (d5 x (v.2.1.getD 0 0)).size≤_;omega),aO]
 simp only []
 have no:bG.l1 k n (0+1) [] [] 0 0 0 0 [] 0 0 false [] [] 0 0 0 0 v.2.1 v.1 x.1 x.2.1 x.2.2.1 x.2.2.2.1 [] v.1 0 en 0 [] 0 0 ([]++fQ (v.2.1.getD 0 0) (ay (aS x (aB aK (v.2.1.getD 0 0))).1).1)=some (oS (tB v en x (kE ([],(0,(0,()))) (jZ x v.2.1)) 0)):=by
  refine (step 0 [] 0 (lx x (v.2.1.getD 0 0)) ⟨by omega,by omega⟩).trans ?_
  rw [show lx x (v.2.1.getD 0 0)++jZ x (v.2.1.drop (Int.toNat 1))=jZ x (v.2.1.getD 0 0::v.2.1.drop 1) from rfl,← hsplit]
  exact EC hk hv en h 0 (by simp) 0 (by omega)
 unfold oq mr mD
 show (bif (aS x (aB bz (v.2.1.getD 0 0))).2 then (bif (ff (aS x (aB bz (v.2.1.getD 0 0))).1).2 then (bif lV (v.2.1.getD 0 0) (d5 x (v.2.1.getD 0 0)) (ff (aS x (aB bz (v.2.1.getD 0 0))).1).1 then _ else _) else _) else _)=_
 cases (aS x (aB bz (v.2.1.getD 0 0))).2 with
 | false=>simp only [aN,Bool.false_and];rw [aG (by omega) (by omega)];exact no
 | true =>
  cases (ff (aS x (aB bz (v.2.1.getD 0 0))).1).2 with
  | false=>simp only [aN,aZ,Bool.false_and,Bool.true_and];rw [aG (by omega) (by omega)];exact no
  | true =>
   cases lV (v.2.1.getD 0 0) (d5 x (v.2.1.getD 0 0)) (ff (aS x (aB bz (v.2.1.getD 0 0))).1).1 with
   | false=>simp only [aN,aZ,Bool.true_and];rw [aG (by omega) (by omega)];exact no
   | true =>
    simp only [aZ,Bool.true_and]
    rw [aG (by omega) (by omega)]
    refine (step (v.2.1.getD 0 0) (ff (aS x (aB bz (v.2.1.getD 0 0))).1).1.2.2.1 (ff (aS x (aB bz (v.2.1.getD 0 0))).1).1.2.1 [] ⟨by omega,by simp⟩).trans ?_
    rw [List.nil_append,show (1:Int).toNat=1 from rfl]
    exact EC hk hv en h _ (by omega) _ (by omega)
theorem ER (k:Nat):∀ n,bG.l2 k n=bG.l1 k n
 | 0=>rfl
 | n+1=>by show bG.b2 k (bG.l2 k n)=bG.b1 k (bG.l1 k n);rw [ER k n];rfl
theorem Iz {k:Nat} (hk:2 ^ 50≤k) {v:Ty.den bA} (hv:dR v=true) {d:Ty.den a_} (h:DR d) :
 bG.l0 k k (aa v.2.1) 0 d.1 d.2.1 d.2.2.1 d.2.2.2.1 [] [] 0 0 0 0 [] 0 0 false [] [] 0 0 0 0 v.2.1 v.1=some (oS (r_ v d)):=by
 obtain ⟨_,_,hv1,hv2,_⟩:=dp (nx:=v.1) (ids:=v.2.1) hv
 have hrise:=F9 hv
 have hl:=h.sz.l
 have hu:=h.sz.u
 have hn:=h.sz.n
 have hs:=lN h (aa v.2.1)
 have hsc:=gC (d5 d (aa v.2.1))
 have hfin:∀ n:Nat,bG.l0 k (n+1) (aa v.2.1) (v.2.1.length:Int) d.1 d.2.1 d.2.2.1 d.2.2.2.1 [] [] 0 0 0 0 [] 0 0 false [] [] 0 0 0 0 v.2.1 v.1 =
  some (oS (bif (fq (aa v.2.1) d).2 != 0 then (iJ,((fq (aa v.2.1) d).1,fL (fq (aa v.2.1) d).2)) else tB v (ay (d5 d (aa v.2.1))).2 (fq (aa v.2.1) d).1 (oq (fq (aa v.2.1) d).1 v.2.1) (bif mr (fq (aa v.2.1) d).1 (v.2.1.getD 0 0) then v.2.1.getD 0 0 else 0))):=fun n=>by
  simp only [bG.l0,bG.b0]
  rw [aQ (by omega),aN,bV hk,aO]
  simp only []
  rw [show (d.1,(d.2.1,(d.2.2.1,(d.2.2.2.1,()))))=d from rfl,fa hk (by omega) (by omega) (by omega),aO]
  simp only [show (aS d (aB aK (aa v.2.1))).1=d5 d (aa v.2.1) from rfl]
  rw [lO hk (by omega),aO,kc k h.sz,aO,ER]
  simp only []
  show (bif decide ((ay (d5 d (aa v.2.1))).2<((d5 d (aa v.2.1)).size:Int)) then _ else _)=_
  unfold fq
  cases decide ((ay (d5 d (aa v.2.1))).2<((d5 d (aa v.2.1)).size:Int)) with
  | true =>
   simp only [aZ]
   simp only [aO]
   rw [D1 hk h.sz,aO]
   simp only [dC,aO]
   unfold ga
   simp only [bne]
   show (bif !((mm d (aB aK (aa v.2.1)) (ay (d5 d (aa v.2.1))).2).2==0) then _ else _)=_
   have h1:=ug h (aB aK (aa v.2.1)) (ay (d5 d (aa v.2.1))).2
   generalize mm d (aB aK (aa v.2.1)) (ay (d5 d (aa v.2.1))).2=r at h1
   cases c:r.2==0 with
   | false=>simp only [ot,aZ,aN,c];rfl
   | true =>
    simp only [fV,aN,aZ]
    rw [lI hk h1.sz,aO]
    simp only []
    have h2:=nS h1 (aB aK (aa v.2.1))
    generalize j8 r.1 (aB aK (aa v.2.1))=q at h2
    cases c2:q.2==0 with
    | false=>rfl
    | true =>
     simp only [fV,aN]
     exact wR hk hv2 hv1 _ h2
  | false =>
   simp only [aN]
   simp only [aO]
   rw [lI hk h.sz,aO]
   simp only [dC,aO]
   unfold ga
   simp only [bne,show ((0:Int)==0)=true from rfl,aZ]
   have h2:=nS h (aB aK (aa v.2.1))
   generalize j8 d (aB aK (aa v.2.1))=q at h2
   cases c2:q.2==0 with
   | false=>rfl
   | true =>
    simp only [fV,aN]
    exact wR hk hv2 hv1 _ h2
 unfold r_
 refine (du (L:=fun n i (_:Unit)=>bG.l0 k n (aa v.2.1) i d.1 d.2.1 d.2.2.1 d.2.2.2.1 [] [] 0 0 0 0 [] 0 0 false [] [] 0 0 0 0 v.2.1 v.1) (R:=fun r _=>bif gQ d r then some (oS (bif (fq (aa v.2.1) d).2 != 0 then (iJ,((fq (aa v.2.1) d).1,fL (fq (aa v.2.1) d).2)) else tB v (ay (d5 d (aa v.2.1))).2 (fq (aa v.2.1) d).1 (oq (fq (aa v.2.1) d).1 v.2.1) (bif mr (fq (aa v.2.1) d).1 (v.2.1.getD 0 0) then v.2.1.getD 0 0 else 0))) else some (oS (iJ,(d,3)))) (Ty.dflt (.int .i64)) v.2.1 (fun _ _=>True) (fun n _ _=>hfin n) (fun n i _ y rest h0 h1 hy hr hp ih=>?_) (n:=k) (s:=()) (by omega) trivial).trans (by cases gQ d v.2.1 <;> rfl)
 have ih:=ih () trivial
 have hsy:=lN h y
 have hlast:=I8 hrise hr
 simp only [bG.l0,bG.b0]
 rw [aP h1,aZ,aG h0 h1,hy,bV hk,aO]
 simp only []
 rw [show (d.1,(d.2.1,(d.2.2.1,(d.2.2.2.1,()))))=d from rfl,fa hk (by omega) (by omega) (by omega),aO]
 simp only []
 rw [lO hk (by show (d5 d y).size≤_;omega),aO,kc k h.sz,aO,aG h0 h1,aD (n:=i+1) (by omega) (by omega),ih]
 rw [show gQ d (y::rest)=(pb d y rest.isEmpty&&gQ d rest) from rfl]
 unfold pb bne
 rw [hlast]
 show (bif !(aS d (aB aK y)).2 then _ else bif !rest.isEmpty then (bif decide ((ay (d5 d y)).2<((d5 d y).size:Int)) then _ else _) else _)=_
 cases (aS d (aB aK y)).2 with
 | false=>rfl
 | true =>
  cases rest.isEmpty with
  | true=>rfl
  | false=>cases decide ((ay (d5 d y)).2<((d5 d y).size:Int)) <;> rfl
theorem Bk {k:Nat} (hk:2 ^ 50≤k) {d:Ty.den a_} (hd:xy d):bG.f k d=some (oS (jP d)):=by
 have hl:=hd.l
 have hu:=hd.u
 have hn:=hd.n
 unfold bG.f bG.t jP
 rw [kI hk (by omega) (by omega),aO,kc k hd]
 cases c:fh d with
 | false=>rfl
 | true =>
  have h:=iH.1 c
  simp only [fV,aN,aO]
  cases cdn:d.2.2.2.1 with
  | true=>rfl
  | false =>
   simp only [aN]
   rw [show (⟨#[108,105,118,101]⟩:ByteArray)=dG from rfl,fa hk (by omega) (by omega) (by omega),aO]
   simp only []
   cases (aS d dG).2 with
   | false =>
    simp only [ot,aZ]
    rw [An hk h]
    rfl
   | true =>
    have hz:=fZ d dG
    simp only [fV,aN]
    rw [qG hk (by omega),aO]
    simp only []
    rcases jD (fun v=>dR v=true) au ((0,([],())):Ty.den bA) (aS d dG).1 with ⟨v,h1,_,e⟩ | e
    · rw [show cO (aS d dG).1=(v,true) from e]
      simp only [fV,aN]
      obtain ⟨_,_,hv1,hv2,_⟩:=dp (nx:=v.1) (ids:=v.2.1) h1
      have w:aF ((v.2.1.length:Int)-1)=((v.2.1.length-1:Nat):Int):=by rw [aD (by omega) (by omega)];omega
      rw [w,nK,aG (by omega) (by omega)]
      have:=Iz hk h1 h
      rw [cdn] at this
      exact this
    · rw [show cO (aS d dG).1=((0,([],())),false) from e]
      rfl
end Go.Proofs.YtohaanhjddohmaaGreatDoor.G
namespace Go.Proofs.YtohaanhjddohmaaGreatDoor.G
open Go.V
noncomputable def th (d:Ty.den a_):Int→List Int→Int
 | e,[]=>e
 | _,x::l=>th d (ay (d5 d x)).2 l
theorem xf (d:Ty.den a_):∀ (l:List Int) (e:Int),l≠[]→th d e l=(ay (d5 d (l.getD (l.length-1) 0))).2
 | [],e,h=>absurd rfl h
 | [x],e,_=>rfl
 | x::y::l,e,_=>by
  show th d (ay (d5 d x)).2 (y::l)=_
  rw [xf d (y::l) _ (by simp)]
  rfl
def tc:List an→an
 | []=>[]
 | a::l=>a++tc l
theorem rN (d:Ty.den a_):∀ l:List Int,tc (l.map (lx d))=jZ d l
 | []=>rfl
 | x::l=>by show lx d x++tc (l.map (lx d))=lx d x++jZ d l;rw [rN d l]
theorem nw {d x:Ty.den a_} (h:∀ s,ay (aS x s).1=ay (aS d s).1):∀ l:List Int,jZ x l=jZ d l
 | []=>rfl
 | y::l=>by
  unfold jZ lx d5
  rw [h,nw h l]
theorem qx {k:Nat} (hk:2 ^ 50≤k) (r:RD) (h:DR r.1) {v:Ty.den bA} (hv:v.2.1.length≤60):bN.f k (wO r) v =
 some (wO r,(bif gQ r.1 v.2.1 then (v.2.1.map (lx r.1),(th r.1 0 v.2.1,(true,()))) else ([],(0,(false,()))))):=by
 have hl:=h.sz.l
 have hu:=h.sz.u
 have hn:=h.sz.n
 unfold bN.f bN.t
 refine (du (L:=fun n i (s:Int × List an)=>bN.l0 k n s.1 v.2.1 v.2.1.length i r.1.1 r.1.2.1 r.1.2.2.1 r.1.2.2.2.1 r.2 v.1 v.2.1 s.2) (R:=fun q s=>some (wO r,(bif gQ r.1 q then (s.2++q.map (lx r.1),(th r.1 s.1 q,(true,()))) else ([],(0,(false,())))))) (Ty.dflt (.int .i64)) v.2.1 (fun i s=>(s.2.length:Int)≤i) (fun n s hs=>?_) (fun n i s y rest h0 h1 hy hr hs ih=>?_) (n:=k) (s:=(0,[])) (by omega) (by simp)).trans (by rw [List.nil_append])
 · simp only [bN.l0,bN.b0]
   rw [aQ (by omega),aN,show gQ r.1 []=true from rfl,List.map_nil,List.append_nil]
   rfl
 · have hsy:=lN h y
   have hsc:=gC (d5 r.1 y)
   have hlast:=Bt h0 hr
   have ih:=ih ((ay (d5 r.1 y)).2,s.2++[lx r.1 y]) (by simp only [bJ];omega)
   simp only [] at ih hs
   simp only [bN.l0,bN.b0]
   rw [aP h1,aZ,aG h0 h1,hy,kQ k,aO]
   simp only []
   rw [show (r.1.1,(r.1.2.1,(r.1.2.2.1,(r.1.2.2.2.1,()))))=r.1 from rfl,kO hk (by omega) (by omega) (by omega),aO]
   simp only [show (aS r.1 (aB aK y)).1=d5 r.1 y from rfl]
   rw [qn hk (by omega),aO]
   simp only []
   rw [oi hk y (by omega),aO]
   simp only []
   rw [bK (by omega) (by decide),aD (n:=i+1) (by omega) (by omega),aD (n:=(v.2.1.length:Int)-1) (by omega) (by omega)]
   rw [show fQ y (ay (d5 r.1 y)).1=lx r.1 y from rfl,ih]
   rw [show gQ r.1 (y::rest)=(pb r.1 y rest.isEmpty&&gQ r.1 rest) from rfl]
   unfold pb
   rw [hlast]
   have e1:((ay (d5 r.1 y)).2 != ((d5 r.1 y).size:Int))=decide ((ay (d5 r.1 y)).2<((d5 r.1 y).size:Int)):=by
    by_cases q:(ay (d5 r.1 y)).2<((d5 r.1 y).size:Int)
    · rw [aP q];exact bne_iff_ne.2 (by omega)
    · rw [aQ q]
      have:(ay (d5 r.1 y)).2=((d5 r.1 y).size:Int):=by omega
      rw [this]
      simp
   rw [e1]
   have e2:decide (i<(v.2.1.length:Int)-1)=!decide (i+1=(v.2.1.length:Int)):=by
    by_cases q:i+1=(v.2.1.length:Int)
    · rw [aP q,aQ (by omega)];rfl
    · rw [aQ q,aP (by omega)];rfl
   rw [e2]
   have e3:s.2++[lx r.1 y]++rest.map (lx r.1)=s.2++(y::rest).map (lx r.1):=by rw [rX];rfl
   rw [e3]
   cases (aS r.1 (aB aK y)).2 with
   | false=>rfl
   | true =>
    cases decide (i+1=(v.2.1.length:Int)) with
    | true=>rfl
    | false=>cases decide ((ay (d5 r.1 y)).2<((d5 r.1 y).size:Int)) <;> rfl
theorem yU {k:Nat} (hk:2 ^ 50≤k) (r:RD) (h:DR r.1) (id:Int):ck.f k (wO r) id =
 some (wO r,((bif mr r.1 id then ((mD r.1 id).2.2.1,((mD r.1 id).2.1,(0,()))) else ([],(0,(0,())))),(mr r.1 id,()))):=by
 have hl:=h.sz.l
 have hu:=h.sz.u
 have hn:=h.sz.n
 have ht:=fZ r.1 (aB bz id)
 have hs:=lN h id
 unfold ck.f ck.t mr mD
 rw [vY,aO]
 simp only [show (wO r).1=r.1 from rfl]
 rw [kO hk (by omega) (by omega) (by omega),aO]
 simp only []
 rw [vS hk (by omega),aO,kQ,aO]
 simp only []
 rw [kO hk (by omega) (by omega) (by omega),aO]
 simp only [show (aS r.1 (aB aK id)).1=d5 r.1 id from rfl]
 rw [vX hk _ (by omega),aO]
 simp only []
 cases (aS r.1 (aB bz id)).2 with
 | false=>rfl
 | true =>
  cases (ff (aS r.1 (aB bz id)).1).2 with
  | false=>rfl
  | true=>cases lV id (d5 r.1 id) (ff (aS r.1 (aB bz id)).1).1 <;> rfl
def Fm (k:Nat) (v:Ty.den bA) (en:Int) (x:Ty.den a_) (hi:Int) (dir:ac) (la:Int) (pl:an):Option (Ty.den b8 × Ty.den aI × Unit) :=
 (Option.bind (dM.f k (dir,(la,(0,()))) pl) fun r9=>(bif (r9.1.2.2.1 != 0) then (some ((x,(3,())),(iJ,()))) else
 (Option.bind (ae.f k (x,(0,())) v) fun r10=>(some (r10.1,((v,(r9.1.1,((aF (r9.1.2.1+1)),(en,(hi,()))))),()))))))
def Ju (q:Ty.den aI × RD) (o:Option (Ty.den b8 × Ty.den aI × Unit)):Prop:=∃ st,o=some (wO q.2,(st,()))∧(q.2.2=0→st=q.1)∧(q.2.2≠0→q.1=iJ)
theorem uG {c:Int} (h:(c==0)=false):fL c≠0:=fun q=>by
 have:=gg c
 rw [q,h] at this
 cases this
theorem EO {k:Nat} (hk:2 ^ 50≤k) {v:Ty.den bA} (hv:v.2.1.length≤60) (en:Int) {x:Ty.den a_} (h:DR x) (hi:Int) {dir:ac} (hd:dir.length≤1000) (la:Int) {pl:an} (hp:pl.length≤100000000) :
 Ju (tB v en x (kE (dir,(la,(0,()))) pl) hi) (Fm k v en x hi dir la pl):=by
 unfold Fm tB
 rw [wC hk _ (by omega) (by show dir.length≤_;omega),aO]
 simp only [bne]
 cases (kE (dir,(la,(0,()))) pl).2.2.1==0 with
 | false=>exact ⟨iJ,rfl,fun q=>(by cases q),fun _=>rfl⟩
 | true =>
  simp only [fV,aN]
  rw [show ae.f k (x,(0,())) v=_ from xg hk (x,0) h (by omega),aO]
  cases c:(gM v.2.1 x).2==0 with
  | true =>
   refine ⟨E9 v en (kE (dir,(la,(0,()))) pl) hi,?_,fun _=>rfl,fun q=>absurd rfl q⟩
   show some (wO (wk (gM v.2.1) (x,0)),_)=some (wO ((gM v.2.1 x).1,0),_)
   unfold wk
   simp only [beq_self_eq_true,aZ]
   rw [E7 c]
   rfl
  | false=>exact ⟨_,rfl,fun q=>absurd q (uG c),fun _=>rfl⟩
theorem J2 {k:Nat} (hk:2 ^ 50≤k) {v:Ty.den bA} (en:Int) (x:Ty.den a_) (hi:Int) (dir:ac) (la:Int) {al:List an} (hal:∀ a ∈ al,a.length≤100000) (hz:al.length≤60) :
 aR.l0 k k al al.length 0 x.1 x.2.1 x.2.2.1 x.2.2.2.1 0 [] [] 0 0 0 0 v.2.1 v.1 [] v.1 0 en hi dir la 0 []=Fm k v en x hi dir la (tc al):=by
 refine (du (L:=fun n i pl=>aR.l0 k n al al.length i x.1 x.2.1 x.2.2.1 x.2.2.2.1 0 [] [] 0 0 0 0 v.2.1 v.1 [] v.1 0 en hi dir la 0 pl) (R:=fun r pl=>Fm k v en x hi dir la (pl++tc r)) (Ty.dflt (.slice aC)) al (fun i pl=>(pl.length:Int)≤100000*i) (fun n pl hp=>?_) (fun n i pl y rest h0 h1 hy hr hp ih=>?_) (n:=k) (s:=[]) (by omega) (by simp)).trans (by rw [List.nil_append])
 · simp only [aR.l0,aR.b0]
   rw [aQ (by omega),aN,show tc []=[] from rfl,List.append_nil]
   rfl
 · have hy2:y.length≤100000:=hal y (by rw [← hy];exact gP (by omega))
   have ih:=ih (pl++y) (by rw [vW];omega)
   simp only [aR.l0,aR.b0]
   rw [aP h1,aZ,aG h0 h1,hy,bK (by omega) (by decide),aD (n:=i+1) (by omega) (by omega)]
   refine ih.trans ?_
   rw [rX]
   rfl
theorem J5 {k:Nat} (hk:2 ^ 50≤k) {v:Ty.den bA} (en:Int) (x:Ty.den a_) (hi:Int) (dir:ac) (la:Int) {al:List an} (hal:∀ a ∈ al,a.length≤100000) (hz:al.length≤60) :
 aR.l1 k k al.length 0 x.1 x.2.1 x.2.2.1 x.2.2.2.1 0 [] [] 0 0 0 0 v.2.1 v.1 [] v.1 0 en hi dir la 0 [] al=Fm k v en x hi dir la (tc al):=by
 refine (du (L:=fun n i pl=>aR.l1 k n al.length i x.1 x.2.1 x.2.2.1 x.2.2.2.1 0 [] [] 0 0 0 0 v.2.1 v.1 [] v.1 0 en hi dir la 0 pl al) (R:=fun r pl=>Fm k v en x hi dir la (pl++tc r)) (Ty.dflt (.slice aC)) al (fun i pl=>(pl.length:Int)≤100000*i) (fun n pl hp=>?_) (fun n i pl y rest h0 h1 hy hr hp ih=>?_) (n:=k) (s:=[]) (by omega) (by simp)).trans (by rw [List.nil_append])
 · simp only [aR.l1,aR.b1]
   rw [aQ (by omega),aN,show tc []=[] from rfl,List.append_nil]
   rfl
 · have hy2:y.length≤100000:=hal y (by rw [← hy];exact gP (by omega))
   have ih:=ih (pl++y) (by rw [vW];omega)
   simp only [aR.l1,aR.b1]
   rw [aP h1,aZ,aG h0 h1,hy,bK (by omega) (by decide),aD (n:=i+1) (by omega) (by omega)]
   refine ih.trans ?_
   rw [rX]
   rfl
theorem EK (k:Nat):∀ n,aR.l2 k n=aR.l0 k n
 | 0=>rfl
 | n+1=>by show aR.b2 k (aR.l2 k n)=aR.b0 k (aR.l0 k n);rw [EK k n];rfl
theorem Eo (k:Nat):∀ n,aR.l3 k n=aR.l1 k n
 | 0=>rfl
 | n+1=>by show aR.b3 k (aR.l3 k n)=aR.b1 k (aR.l1 k n);rw [Eo k n];rfl
theorem Ba {k:Nat} (hk:2 ^ 50≤k) {v:Ty.den bA} (hv:dR v=true) {d:Ty.den a_} (h:DR d) (en:Int) {x:Ty.den a_} (hx:DR x) (hsame:∀ s,ay (aS x s).1=ay (aS d s).1) :
 Ju (tB v en x (oq x v.2.1) (bif mr x (v.2.1.getD 0 0) then v.2.1.getD 0 0 else 0))
  (ba 0 (List.length v.2.1:Int) (Option.bind (ck.f k (x,(0,())) (List.getD v.2.1 0 (Ty.dflt (.int .i64)))) fun r8 =>
   (bif r8.2.2.1 then (ba 0 (List.length v.2.1:Int) (mj 1 (List.length (v.2.1.map (lx d)):Int)
    (aR.l0 k k (List.drop 1 (v.2.1.map (lx d))) (List.length (List.drop 1 (v.2.1.map (lx d))):Int) 0 r8.1.1.1 r8.1.1.2.1 r8.1.1.2.2.1 r8.1.1.2.2.2.1 r8.1.2.1 [] [] 0 0 0 0 v.2.1 v.1 [] v.1 0 en (List.getD v.2.1 0 (Ty.dflt (.int .i64))) r8.2.1.1 r8.2.1.2.1 r8.2.1.2.2.1 [])))
   else (aR.l1 k k (List.length (v.2.1.map (lx d)):Int) 0 r8.1.1.1 r8.1.1.2.1 r8.1.1.2.2.1 r8.1.1.2.2.2.1 r8.1.2.1 [] [] 0 0 0 0 v.2.1 v.1 [] v.1 0 en 0 r8.2.1.1 r8.2.1.2.1 r8.2.1.2.2.1 [] (v.2.1.map (lx d)))))):=by
 obtain ⟨_,_,hv1,hv2,_⟩:=dp (nx:=v.1) (ids:=v.2.1) hv
 have hpa:=mG hx (v.2.1.drop 1)
 have hpb:=mG hx v.2.1
 rw [List.length_drop] at hpa
 have hh:=pY (s:=(aS x (aB bz (v.2.1.getD 0 0))).1)
 have hal:∀ a ∈ v.2.1.map (lx d),a.length≤100000:=fun a ha=>by
  obtain ⟨y,_,rfl⟩:=List.mem_map.1 ha
  exact qg h y
 rw [aG (by omega) (by omega),show List.getD v.2.1 0 (Ty.dflt (.int .i64))=v.2.1.getD 0 0 from rfl,show ck.f k (x,(0,())) (v.2.1.getD 0 0)=_ from yU hk (x,0) hx (v.2.1.getD 0 0),aO]
 unfold oq
 cases mr x (v.2.1.getD 0 0) with
 | true =>
  simp only [aZ]
  rw [aG (by omega) (by omega),br (by omega) (by rw [List.length_map];omega)]
  have:=EO hk hv2 en hx (v.2.1.getD 0 0) (dir:=(mD x (v.2.1.getD 0 0)).2.2.1) (by show (ff _).1.2.2.1.length≤_;omega) (mD x (v.2.1.getD 0 0)).2.1 (pl:=jZ x (v.2.1.drop 1)) (by omega)
  rw [← List.map_drop]
  rw [nw hsame,← rN] at this
  have e:=J2 hk (v:=v) en x (v.2.1.getD 0 0) (mD x (v.2.1.getD 0 0)).2.2.1 (mD x (v.2.1.getD 0 0)).2.1 (al:=(v.2.1.drop 1).map (lx d)) (fun a ha=>by
   obtain ⟨y,_,rfl⟩:=List.mem_map.1 ha
   exact qg h y) (by rw [List.length_map,List.length_drop];omega)
  rw [← e] at this
  rw [nw hsame,← rN]
  exact this
 | false =>
  simp only [aN]
  have:=EO hk hv2 en hx 0 (dir:=[]) (by simp) 0 (pl:=jZ x v.2.1) (by omega)
  rw [nw hsame,← rN] at this
  have e:=J5 hk (v:=v) en x 0 [] 0 (al:=v.2.1.map (lx d)) hal (by rw [List.length_map];omega)
  rw [← e] at this
  rw [nw hsame,← rN]
  exact this
theorem Ah {k:Nat} (hk:2 ^ 50≤k) {d:Ty.den a_} (h:DR d) {t:ByteArray} (ht:t.size≤1099511627776) :
 Ju (bif !(cO t).2 then (iJ,(d,3)) else r_ (cO t).1 d) (aR.f k (d,(0,())) t):=by
 have hl:=h.sz.l
 have hu:=h.sz.u
 have hn:=h.sz.n
 unfold aR.f aR.t
 rw [qM hk ht,aO]
 rcases jD (fun v=>dR v=true) au ((0,([],())):Ty.den bA) t with ⟨v,h1,_,e⟩ | e
 · rw [show cO t=(v,true) from e]
   obtain ⟨_,_,hv1,hv2,_⟩:=dp (nx:=v.1) (ids:=v.2.1) h1
   simp only [fV,aN]
   rw [show bN.f k (d,(0,())) v=_ from qx hk (d,0) h hv2,aO]
   simp only []
   unfold r_
   cases gQ d v.2.1 with
   | false=>exact ⟨iJ,rfl,fun q=>(by cases q),fun _=>rfl⟩
   | true =>
    have hs:=lN h (aa v.2.1)
    have hsc:=gC (d5 d (aa v.2.1))
    have w:aF ((v.2.1.length:Int)-1)=((v.2.1.length-1:Nat):Int):=by rw [aD (by omega) (by omega)];omega
    simp only [fV,aN,aZ]
    rw [xf d v.2.1 0 (by intro q;rw [q] at hv1;exact absurd hv1 (by decide)),w,nK,aG (by omega) (by omega),show List.getD v.2.1 (v.2.1.length-1) (Ty.dflt (.int .i64))=aa v.2.1 from rfl,show v.2.1.getD (v.2.1.length-1) 0=aa v.2.1 from rfl,kQ,aO]
    simp only [show (wO (d,0)).1=d from rfl]
    rw [kO hk (by omega) (by omega) (by omega),aO,EK,Eo]
    simp only [show (aS d (aB aK (aa v.2.1))).1=d5 d (aa v.2.1) from rfl]
    have fx:=DK (aa v.2.1) h
    have ft:=fun c s=>(BV h (x:=aa v.2.1) c s).2
    generalize hen:(ay (d5 d (aa v.2.1))).2=en at *
    by_cases q:en<((d5 d (aa v.2.1)).size:Int)
    · have ef:fq (aa v.2.1) d=ga (mm d (aB aK (aa v.2.1)) en) fun y=>j8 y (aB aK (aa v.2.1)):=by
       unfold fq
       rw [hen,aP q]
       rfl
      rw [show (((d5 d (aa v.2.1)).size:Int) != en)=true from bne_iff_ne.2 (by omega),aZ,De hk h.sz,aO]
      simp only []
      rw [ry,aO]
      simp only []
      have h2:=ug h (aB aK (aa v.2.1)) en
      rw [show d6.f k ((mm d (aB aK (aa v.2.1)) en).1,(fL (mm d (aB aK (aa v.2.1)) en).2,())) (aB aK (aa v.2.1))=_ from ud hk ((mm d (aB aK (aa v.2.1)) en).1,fL (mm d (aB aK (aa v.2.1)) en).2) h2 _,aO]
      have e2:wk (fun x=>j8 x (aB aK (aa v.2.1))) ((mm d (aB aK (aa v.2.1)) en).1,fL (mm d (aB aK (aa v.2.1)) en).2)=((fq (aa v.2.1) d).1,fL (fq (aa v.2.1) d).2):=by
       have:=qz (fun x=>mm x (aB aK (aa v.2.1)) en) (fun x=>j8 x (aB aK (aa v.2.1))) (d,0)
       rw [show wk (fun x=>mm x (aB aK (aa v.2.1)) en) (d,0)=((mm d (aB aK (aa v.2.1)) en).1,fL (mm d (aB aK (aa v.2.1)) en).2) from rfl] at this
       rw [← this,ef]
       rfl
      rw [e2]
      simp only [bne,show (wO ((fq (aa v.2.1) d).1,fL (fq (aa v.2.1) d).2)).2.1=fL (fq (aa v.2.1) d).2 from rfl,gg]
      cases c:(fq (aa v.2.1) d).2==0 with
      | false=>exact ⟨iJ,rfl,fun q=>absurd q (uG c),fun _=>rfl⟩
      | true =>
       simp only [fV,aN]
       have c0:=E7 c
       rw [c0]
       exact Ba hk h1 h en fx (ft c0)
    · have ef:fq (aa v.2.1) d=j8 d (aB aK (aa v.2.1)):=by
       unfold fq
       rw [hen,aQ q]
       rfl
      rw [show (((d5 d (aa v.2.1)).size:Int) != en)=false by rw [show ((d5 d (aa v.2.1)).size:Int)=en by omega];simp,aN,ud hk (d,0) h,aO]
      have e2:wk (fun x=>j8 x (aB aK (aa v.2.1))) (d,0)=((fq (aa v.2.1) d).1,fL (fq (aa v.2.1) d).2):=by rw [ef];rfl
      rw [e2]
      simp only [bne,show (wO ((fq (aa v.2.1) d).1,fL (fq (aa v.2.1) d).2)).2.1=fL (fq (aa v.2.1) d).2 from rfl,gg]
      cases c:(fq (aa v.2.1) d).2==0 with
      | false=>exact ⟨iJ,rfl,fun q=>absurd q (uG c),fun _=>rfl⟩
      | true =>
       simp only [fV,aN]
       have c0:=E7 c
       rw [c0]
       exact Ba hk h1 h en fx (ft c0)
 · rw [show cO t=((0,([],())),false) from e]
   simp only [ot,aZ]
   rw [show bN.f k (d,(0,())) ((0,([],())):Ty.den bA)=_ from qx hk (d,0) h (by decide),aO]
   exact ⟨iJ,rfl,fun q=>(by cases q),fun _=>rfl⟩
theorem B3 {k:Nat} (hk:2 ^ 50≤k) {d:Ty.den a_} (h:DR d):Ju (nk d) (fI.f k (d,(0,()))):=by
 have h1:=wq (r:=((d,0):RD)) h (pJ [])
 have hn:=qX (.inl rfl:aK=aK∨aK=bz) 1
 have h2:=wq h1 fun x hx=>xr hx (aB aK 1)
 unfold fI.f fI.t
 rw [show ae.f k (d,(0,())) ((0,([],())):Ty.den bA)=_ from xg hk (d,0) h (v:=(0,([],()))) (by decide),aO,kQ,aO]
 simp only [show ((0,(([]:List Int),())):Ty.den bA).2.1=[] from rfl]
 rw [zK hk _ h1 (by omega),aO]
 simp only []
 rw [show ((2,([1],())):Ty.den bA)=vA from rfl,yt hk _ h2 (by decide),aO,← qz (gM []) (fun x=>qS x (aB aK 1)),← qz]
 unfold nk
 refine ⟨(vA,([],(1,(0,(0,()))))),?_,?_,?_⟩
 · cases c:(kv d).2==0 with
   | true =>
    show some (wO ((kv d).1,fL (kv d).2),_)=some (wO ((kv d).1,0),_)
    rw [E7 c]
    rfl
   | false=>rfl
 · cases c:(kv d).2==0 with
   | true=>intro _;rfl
   | false=>intro q;exact absurd q (uG c)
 · cases c:(kv d).2==0 with
   | true=>intro q;exact absurd rfl q
   | false=>intro _;rfl
theorem CE {k:Nat} (hk:2 ^ 50≤k) {d:Ty.den a_} (hd:xy d):lU.f k d=some (oS (jP d)):=by
 have hl:=hd.l
 have hu:=hd.u
 have hn:=hd.n
 unfold lU.f lU.t jP
 rw [ji k hl,aO,j7 hk (by omega) (by omega),aO]
 cases c:fh d with
 | false=>rfl
 | true =>
  have h:=iH.1 c
  have fin:∀ (q:Ty.den aI × RD) (o:Option (Ty.den b8 × Ty.den aI × Unit)),Ju q o→(Option.bind o fun r4=>(bif (r4.1.2.1 != 0) then (some (iJ,r4.1)) else (some (r4.2.1,(r4.1.1,(0,()))))))=some (oS q):=fun q o hq=>by
   obtain ⟨st,e,a,b⟩:=hq
   rw [e,aO]
   simp only [bne,show (wO q.2).2.1=q.2.2 from rfl]
   cases cq:q.2.2==0 with
   | true =>
    have z:=E7 cq
    rw [a z]
    show some (q.1,(q.2.1,(0,())))=some (q.1,(q.2.1,(q.2.2,())))
    rw [z]
   | false =>
    rw [ot,aZ]
    show some (iJ,(q.2.1,(q.2.2,())))=some (q.1,(q.2.1,(q.2.2,())))
    rw [b (fun z=>by rw [z] at cq;cases cq)]
  simp only [fV,aN]
  cases cdn:d.2.2.2.1 with
  | true=>rfl
  | false =>
   simp only [aN]
   rw [show (⟨#[108,105,118,101]⟩:ByteArray)=dG from rfl,kO hk (by omega) (by omega) (by omega),aO]
   simp only []
   cases (aS d dG).2 with
   | false =>
    simp only [ot,aZ,aN]
    exact fin _ _ (B3 hk h)
   | true =>
    have hz:=fZ d dG
    simp only [fV,aN,aZ]
    exact fin _ _ (Ah hk h (by omega))
end Go.Proofs.YtohaanhjddohmaaGreatDoor.G
namespace Go.Proofs.YtohaanhjddohmaaGreatDoor.G
open Go.V
theorem F2 (v:Ty.den bA) (en:Int) {x:Ty.den a_} (h:DR x) {g:Ty.den g_} (hg:g.1.length≤268435456) (hi:Int):DR (tB v en x g hi).2.1∧(tB v en x g hi).1.2.1.length≤268435456:=by
 have hs:=pJ v.2.1 x h
 unfold tB
 cases g.2.2.1 != 0 with
 | true=>exact ⟨h,Nat.zero_le _⟩
 | false =>
  cases (gM v.2.1 x).2 != 0 with
  | true=>exact ⟨hs,Nat.zero_le _⟩
  | false=>exact ⟨hs,hg⟩
theorem Fi {x:Ty.den a_} (h:DR x) {ids:List Int} (hl:ids.length≤60):(oq x ids).1.length≤268435456:=by
 have hpa:=mG h (ids.drop 1)
 have hpb:=mG h ids
 rw [List.length_drop] at hpa
 have hh:=pY (s:=(aS x (aB bz (ids.getD 0 0))).1)
 unfold oq
 cases mr x (ids.getD 0 0)
 · exact t7 (by omega) (by simp)
 · exact t7 (by omega) (by show (mD x (ids.getD 0 0)).2.2.1.length≤_;unfold mD;omega)
theorem wB {d:Ty.den a_} (h:DR d):DR (jP d).2.1∧(jP d).1.2.1.length≤268435456:=by
 unfold jP
 rw [iH.2 h]
 simp only [fV,aN]
 cases d.2.2.2.1 with
 | true=>exact ⟨h,Nat.zero_le _⟩
 | false =>
  simp only [aN]
  cases (aS d dG).2 with
  | false =>
   simp only [ot,aZ]
   have hf:DR (kv d).1:=ke (ke (pJ [] d h) fun x hx=>xr hx _) (nq vA)
   unfold nk
   cases (kv d).2==0 with
   | true=>exact ⟨hf,Nat.zero_le _⟩
   | false=>exact ⟨hf,Nat.zero_le _⟩
  | true =>
   simp only [fV,aN]
   rcases jD (fun v=>dR v=true) au ((0,([],())):Ty.den bA) (aS d dG).1 with ⟨v,h1,_,e⟩ | e
   · rw [show cO (aS d dG).1=(v,true) from e]
     obtain ⟨_,_,hv1,hv2,_⟩:=dp (nx:=v.1) (ids:=v.2.1) h1
     simp only [fV,aN]
     have fx:=DK (aa v.2.1) h
     unfold r_
     cases gQ d v.2.1 with
     | false=>exact ⟨h,Nat.zero_le _⟩
     | true =>
      simp only [fV,aN]
      cases (fq (aa v.2.1) d).2 != 0 with
      | true=>exact ⟨fx,Nat.zero_le _⟩
      | false=>exact F2 v _ fx (Fi fx hv2) _
   · rw [show cO (aS d dG).1=((0,([],())),false) from e]
     exact ⟨h,Nat.zero_le _⟩
theorem HM {d:Ty.den a_} (h:fh d=false):jP d=(iJ,(d,4)):=by
 unfold jP
 rw [h]
 rfl
end Go.Proofs.YtohaanhjddohmaaGreatDoor.G

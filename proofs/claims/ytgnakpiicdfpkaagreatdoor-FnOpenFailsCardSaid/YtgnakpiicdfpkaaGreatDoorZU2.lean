/- Plain laws, merged; what is proved here is told ahead of each part. -/
import Derived.Test.YtgnakpiicdfpkaaGreatDoorZU1
set_option linter.unusedVariables false
set_option linter.unusedSimpArgs false
namespace Go.Proofs.YtgnakpiicdfpkaaGreatDoor.G
open Go.V
def bp:ByteArray:=⟨#[104,105,110,116]⟩
theorem iQ {k:Nat} (hk:2 ^ 50≤k) (n:Int):bv.f k n=some (aC bp n,()):=by
 unfold bv.f bv.t aC
 rw [ga,aQ]
 by_cases c:(1:Int)≤n∧n≤100000
 · have hz:=lm (n:=n) (by omega) (by omega)
   rw [aO c]
   simp only [ff,aK,aY]
   rw [oN hk (by omega) (by omega),aQ,dV (by show 4+(g_ n).size≤_;omega)]
   rfl
 · rw [aP c]
   rfl
def JY (s:ByteArray) (n:Int):Prop:=1≤n∧n≤100000∧(s=aL++g_ n∨s=bp++g_ n)
theorem yz (a b:ByteArray):aL++a≠bp++b:=fun h=>by
 have:=congrArg nb h
 rw [iT,iT,show nb aL=[115,101,103] from rfl,show nb bp=[104,105,110,116] from rfl] at this
 simp at this
theorem Fy {s:ByteArray} {n m:Int} (h:JY s n) (g:JY s m):n=m:=by
 rcases h.2.2 with h1 | h1 <;> rcases g.2.2 with g1 | g1
 · exact zJ (tX (h1.symm.trans g1))
 · exact absurd (h1.symm.trans g1) (yz _ _)
 · exact absurd (g1.symm.trans h1) (yz _ _)
 · exact zJ (tX (h1.symm.trans g1))
theorem Gh {s:ByteArray} {n:Int} (hs:0<s.size) (h:(seq (aC aL n) s||seq (aC bp n) s)=true):JY s n:=by
 unfold aC at h
 by_cases c:(1:Int)≤n∧n≤100000
 · rw [aO c,Bool.or_eq_true] at h
   exact ⟨c.1,c.2,h.imp (fun q=>(cS.1 q).symm) (fun q=>(cS.1 q).symm)⟩
 · rw [aP c,Bool.or_eq_true] at h
   rcases h with q | q
   · rw [← cS.1 q] at hs;exact absurd hs (Nat.lt_irrefl 0)
   · rw [← cS.1 q] at hs;exact absurd hs (Nat.lt_irrefl 0)
theorem H3 {s:ByteArray} {n:Int} (h:JY s n):(seq (aC aL n) s||seq (aC bp n) s)=true:=by
 obtain ⟨h0,h1,h2⟩:=h
 unfold aC
 rw [aO ⟨h0,h1⟩,Bool.or_eq_true]
 exact h2.imp (fun q=>cS.2 q.symm) (fun q=>cS.2 q.symm)
noncomputable def CM (s:ByteArray):Int × Bool:=pB (JY s) (fun _=>s) 0 s
theorem Dh (n:Int):0<(g_ n).size:=by
 rw [← cW,qI]
 split
 · rw [lQ];omega
 · rw [List.length_map]
   exact List.length_pos_iff.2 (ni _)
theorem vD (s:ByteArray) (n:Nat):(ByteArray.extract s n s.size).size=s.size-n:=by rw [← cW,jC,List.length_drop,cW]
noncomputable def xx (s:ByteArray) (i:Nat):Bool :=
 decide ((s.size:Int) > (i:Int))&&((eF (ByteArray.extract s i s.size)).2&&(decide ((eF (ByteArray.extract s i s.size)).1≥1)&&(seq (aC aL (eF (ByteArray.extract s i s.size)).1) s||seq (aC bp (eF (ByteArray.extract s i s.size)).1) s)))
theorem G3 {k:Nat} (hk:2 ^ 50≤k) {s:ByteArray} (hs:s.size≤1099511627776) (m i:Nat) (hi:i≤4) :
 iM.l0 k (m+1) s (i:Int)=bif xx s i then some ((eF (ByteArray.extract s i s.size)).1,(true,())) else iM.l0 k m s ((i+1:Nat):Int):=by
 have hz:=vD s i
 simp only [iM.l0,iM.b0]
 rw [aO (show (i:Int)≤4 by omega),aY,aE (by omega) (by omega),show (i:Int)+1=((i+1:Nat):Int) by omega]
 unfold xx
 by_cases c:(s.size:Int) > (i:Int)
 · rw [aO c,aY,bq (by omega) (by omega),Int.toNat_natCast,yx hk (by omega),aQ]
   simp only [ba hk,iQ hk,aQ]
   generalize eF (ByteArray.extract s i s.size)=r
   cases r.2 <;> cases decide (r.1≥1) <;> cases seq (aC aL r.1) s <;> cases seq (aC bp r.1) s <;> rfl
 · rw [aP c]
   rfl
theorem C8 {s:ByteArray} {i:Nat} (h:xx s i=true):JY s (eF (ByteArray.extract s i s.size)).1:=by
 unfold xx at h
 simp only [ke,decide_eq_true_eq] at h
 exact Gh (by omega) h.2.2.2
theorem I3 {p:ByteArray} {n:Int} (h:JY (p++g_ n) n):xx (p++g_ n) p.size=true∧(eF (ByteArray.extract (p++g_ n) p.size (p++g_ n).size)).1=n:=by
 have hd:M9 n:=⟨by have:=h.1;omega,by have:=h.2.1;omega⟩
 have hp:=Dh n
 rw [show ByteArray.extract (p++g_ n) p.size (p++g_ n).size=g_ n from fh p (g_ n)]
 unfold xx
 rw [show ByteArray.extract (p++g_ n) p.size (p++g_ n).size=g_ n from fh p (g_ n),wC hd]
 refine ⟨?_,rfl⟩
 simp only []
 rw [H3 h,aO (by rw [ByteArray.size_append];omega),aO h.1]
 rfl
theorem Hb {k:Nat} (hk:2 ^ 50≤k) {s:ByteArray} (hs:s.size≤1099511627776):iM.f k s=some ((CM s).1,((CM s).2,())):=by
 have e:iM.f k s=bif xx s 3 then some ((eF (ByteArray.extract s 3 s.size)).1,(true,())) else bif xx s 4 then some ((eF (ByteArray.extract s 4 s.size)).1,(true,())) else some (0,(false,())):=by
  unfold iM.f iM.t
  obtain ⟨m,hm⟩:∃ m,k=m+3:=⟨k-3,by omega⟩
  have h3:=G3 hk hs (m+2) 3 (by omega)
  have h4:=G3 hk hs (m+1) 4 (by omega)
  have h5:iM.l0 k (m+1) s ((5:Nat):Int)=some (0,(false,())):=rfl
  rw [← hm] at h3
  rw [show (3:Int)=((3:Nat):Int) from rfl,h3,h4,h5]
 rw [e]
 refine my (fun n h1 _=>?_) ?_
 · rcases h1.2.2 with q | q
   · have:=I3 (p:=aL) (n:=n) (by rw [← q];exact h1)
     rw [← q,show aL.size=3 from rfl] at this
     rw [this.1,this.2]
     rfl
   · cases c:xx s 3 with
     | true=>rw [Fy h1 (C8 c)];rfl
     | false =>
      have:=I3 (p:=bp) (n:=n) (by rw [← q];exact h1)
      rw [← q,show bp.size=4 from rfl] at this
      rw [this.1,this.2]
      rfl
 · cases c:xx s 3 with
   | true=>exact .inl ⟨_,C8 c,rfl,rfl⟩
   | false =>
    cases c4:xx s 4 with
    | true=>exact .inl ⟨_,C8 c4,rfl,rfl⟩
    | false=>exact .inr rfl
noncomputable def zg (s p:ByteArray):Option (Int × Bool × Unit) :=
 bif qp s p&&((eF (ByteArray.extract s p.size s.size)).2&&decide ((1:Int)≤(eF (ByteArray.extract s p.size s.size)).1∧(eF (ByteArray.extract s p.size s.size)).1≤100000)) then some ((eF (ByteArray.extract s p.size s.size)).1,(true,())) else some (0,(false,()))
theorem JU {s p:ByteArray} (h:zg s p≠some (0,(false,()))):∃ n,1≤n∧n≤100000∧s=p++g_ n∧zg s p=some (n,(true,())):=by
 unfold zg at h ⊢
 cases c:qp s p&&((eF (ByteArray.extract s p.size s.size)).2&&decide ((1:Int)≤(eF (ByteArray.extract s p.size s.size)).1∧(eF (ByteArray.extract s p.size s.size)).1≤100000)) with
 | false=>rw [c] at h;exact absurd rfl h
 | true =>
  simp only [ke,decide_eq_true_eq] at c
  obtain ⟨c1,c2,c3⟩:=c
  have e:eF (ByteArray.extract s p.size s.size)=((eF (ByteArray.extract s p.size s.size)).1,true):=by rw [← c2]
  have q:=C0 e
  exact ⟨_,c3.1,c3.2,by rw [q.2];exact yp c1,rfl⟩
theorem JV {p:ByteArray} {n:Int} (h0:1≤n) (h1:n≤100000):zg (p++g_ n) p=some (n,(true,())):=by
 unfold zg
 rw [CN,show ByteArray.extract (p++g_ n) p.size (p++g_ n).size=g_ n from fh p (g_ n),wC ⟨by omega,by omega⟩]
 simp only []
 rw [aO ⟨h0,h1⟩]
 rfl
theorem HL (k:Nat) {s:ByteArray} (hs:s.size≤281474976710656):lF.f k s=some ((CM s).1,((CM s).2,())):=by
 have e:lF.f k s=bif qp s aL then zg s aL else zg s bp:=by
  unfold lF.f lF.t
  rw [show (⟨#[115,101,103]⟩:ByteArray)=aL from rfl,show (⟨#[104,105,110,116]⟩:ByteArray)=bp from rfl,uM,uM]
  simp only [aQ]
  unfold zg
  have h3:=vD s aL.size
  have h4:=vD s bp.size
  cases qp s aL with
  | true =>
   simp only [ff,aK,aY,Bool.true_and]
   rw [oD k (by omega),aQ]
   simp only [kc k,aQ]
   generalize eF (ByteArray.extract s aL.size s.size)=r
   cases r.2 <;> cases decide ((1:Int)≤r.1∧r.1≤100000) <;> rfl
  | false =>
   simp only [qj,aK,aY]
   cases qp s bp with
   | true =>
    simp only [ff,aK,aY,Bool.true_and]
    rw [oD k (by omega),aQ]
    simp only [kc k,aQ]
    generalize eF (ByteArray.extract s bp.size s.size)=r
    cases r.2 <;> cases decide ((1:Int)≤r.1∧r.1≤100000) <;> rfl
   | false =>
    simp only [qj,aK,aY,Bool.false_and]
    rw [oD k hs,aQ]
 rw [e]
 refine my (fun n h1 _=>?_) ?_
 · rcases h1.2.2 with q | q
   · rw [q,CN,aY,JV h1.1 h1.2.1]
   · have hp:qp s aL=false:=by
      cases c:qp s aL with
      | false=>rfl
      | true=>exact absurd ((yp c).symm.trans q) (yz _ _)
     rw [hp,aK,q,JV h1.1 h1.2.1]
 · cases qp s aL with
   | true =>
    rw [aY]
    by_cases c:zg s aL=some (0,(false,()))
    · exact .inr c
    · obtain ⟨n,h0,h1,h2,h3⟩:=JU c
      exact .inl ⟨n,⟨h0,h1,.inl h2⟩,rfl,h3⟩
   | false =>
    rw [aK]
    by_cases c:zg s bp=some (0,(false,()))
    · exact .inr c
    · obtain ⟨n,h0,h1,h2,h3⟩:=JU c
      exact .inl ⟨n,⟨h0,h1,.inr h2⟩,rfl,h3⟩
theorem Da {k:Nat} (hk:2 ^ 50≤k) {l:List Int} (hl:l.length≤1099511627776) (x:Int):gR.f k l x=some (pW l x,()):=by
 unfold gR.f gR.t
 refine eV (L:=fun n i (_:Unit)=>gR.l0 k n x l l.length i) (R:=fun r _=>some (pW r x,())) (Ty.z (.int .i64)) l (fun _ _=>True) (fun n _ _=>?_) (fun n i _ y rest h0 h1 hx hr hp ih=>?_) (n:=k) (s:=()) (by omega) trivial
 · simp (disch:=omega) only [gR.l0,gR.b0,aP,aK]
   rfl
 · have ih:=ih () trivial
   have e:pW (y::rest) x=((y==x)||pW rest x):=rfl
   simp (disch:=omega) only [gR.l0,gR.b0,aO h1,aY,aH,hx,aE,ih,e]
   cases y==x <;> rfl
def ia:ByteArray:=⟨#[116,101,109,112]⟩
noncomputable def j8 (ids:List Int) (f:Ty.d aB):Bool:=((CM f.1).2&&!pW ids (CM f.1).1)||seq f.1 ia
noncomputable def n7 (ids:List Int):aW→List ByteArray→List ByteArray
 | [],acc=>acc
 | f::l,acc=>n7 ids l (bif j8 ids f then acc++[f.1] else acc)
noncomputable def nW (d:Ty.d a_) (ids:List Int):List ByteArray:=bif fJ d then n7 ids d.1 [] else []
theorem Ad {d:Ty.d a_} (h:fJ d=true):d.1.length≤130:=by
 unfold fJ at h
 rw [ke,decide_eq_true_eq] at h
 exact h.1
theorem Ch {k:Nat} (hk:2 ^ 50≤k) {d:Ty.d a_} {v:Ty.d ay} (hu:cO d.1≤1099511627776) (hn:dz d.1≤1099511627776) (hv:v.2.1.length≤1099511627776):bQ.f k d v=some (nW d v.2.1,()):=by
 unfold bQ.f bQ.t nW
 rw [kw hk hu hn,aQ]
 cases cd:fJ d with
 | false=>rfl
 | true =>
  have hl:=Ad cd
  rw [ff,aK,aY]
  refine eV (L:=fun n i s=>bQ.l0 k n i d.1 d.2.1 d.2.2.1 d.2.2.2.1 v.1 v.2.1 s) (R:=fun r s=>some (n7 v.2.1 r s,())) (Ty.z aB) d.1 (fun i s=>(s.length:Int)≤i) (fun n s hs=>?_) (fun n i s x rest h0 h1 hx hr hs ih=>?_) (n:=k) (s:=[]) (by omega) (by simp)
  · simp (disch:=omega) only [bQ.l0,bQ.b0,aP,aK,n7]
  · have hm:x ∈ d.1:=by rw [← hx];exact dx (by omega)
    have hz:=mZ hm
    have iY:=ih (s++[x.1]) (by rw [bK];omega)
    have iN:=ih s (by omega)
    have key:∀ (id:Int) (is:Bool),bQ.l1 k (bQ.l0 k n) k i id is false 0 d.1 d.2.1 d.2.2.1 d.2.2.2.1 v.1 v.2.1 s =
     bif (is&&!pW v.2.1 id)||seq x.1 ia then bQ.l0 k n (i+1) d.1 d.2.1 d.2.2.1 d.2.2.2.1 v.1 v.2.1 (s++[x.1]) else bQ.l0 k n (i+1) d.1 d.2.1 d.2.2.1 d.2.2.2.1 v.1 v.2.1 s:=fun id is=>by
     refine (eV (L:=fun m j lv=>bQ.l1 k (bQ.l0 k n) m i id is lv j d.1 d.2.1 d.2.2.1 d.2.2.2.1 v.1 v.2.1 s) (R:=fun r lv=>bif (is&&!(lv||pW r id))||seq x.1 ia then bQ.l0 k n (i+1) d.1 d.2.1 d.2.2.1 d.2.2.2.1 v.1 v.2.1 (s++[x.1]) else bQ.l0 k n (i+1) d.1 d.2.1 d.2.2.1 d.2.2.2.1 v.1 v.2.1 s) (Ty.z (.int .i64)) v.2.1 (fun _ _=>True) (fun m lv _=>?_) (fun m j lv y r2 g0 g1 gx gr _ ih2=>?_) (n:=k) (s:=false) (by omega) trivial)
     · simp (disch:=first | omega | decide) only [bQ.l1,bQ.b1,aP,aK,aH,hx,bO,aE]
       rw [show pW [] id=false from rfl,show (⟨#[116,101,109,112]⟩:ByteArray)=ia from rfl]
       cases is <;> cases lv <;> cases seq x.1 ia <;> rfl
     · have e:pW (y::r2) id=((y==id)||pW r2 id):=rfl
       simp (disch:=omega) only [bQ.l1,bQ.b1,aO g1,aY,aH,gx,aE,e]
       cases lv with
       | true=>exact (ih2 true trivial)
       | false =>
        have:=ih2 (y==id) trivial
        simp only [aK,Bool.false_or]
        exact this
    simp (disch:=omega) only [bQ.l0,bQ.b0,aO h1,aY,aH,hx,Hb hk,aQ,key]
    rw [show n7 v.2.1 (x::rest) s=n7 v.2.1 rest (bif j8 v.2.1 x then s++[x.1] else s) from rfl]
    unfold j8
    cases ((CM x.1).2&&!pW v.2.1 (CM x.1).1)||seq x.1 ia
    · exact iN
    · exact iY
theorem DW {k:Nat} (hk:2 ^ 50≤k) {d:Ty.d a_} {v:Ty.d ay} (hu:cO d.1≤1099511627776) (hn:dz d.1≤1099511627776) (hv:v.2.1.length≤1099511627776):fZ.f k d v=some (nW d v.2.1,()):=by
 unfold fZ.f fZ.t nW
 rw [iE hk hu hn,aQ]
 cases cd:fJ d with
 | false=>rfl
 | true =>
  have hl:=Ad cd
  rw [ff,aK,aY]
  refine eV (L:=fun n i s=>fZ.l0 k n d.1 d.1.length i v.1 v.2.1 s) (R:=fun r s=>some (n7 v.2.1 r s,())) (Ty.z aB) d.1 (fun i s=>(s.length:Int)≤i) (fun n s hs=>?_) (fun n i s x rest h0 h1 hx hr hs ih=>?_) (n:=k) (s:=[]) (by omega) (by simp)
  · simp (disch:=omega) only [fZ.l0,fZ.b0,aP,aK,n7]
  · have hm:x ∈ d.1:=by rw [← hx];exact dx (by omega)
    have hz:=mZ hm
    have iY:=ih (s++[x.1]) (by rw [bK];omega)
    have iN:=ih s (by omega)
    simp (disch:=first | omega | decide) only [fZ.l0,fZ.b0,aO h1,aY,aH,hx,HL k,aQ,Da hk hv,bO,aE,iY,iN]
    rw [show n7 v.2.1 (x::rest) s=n7 v.2.1 rest (bif j8 v.2.1 x then s++[x.1] else s) from rfl,show (⟨#[116,101,109,112]⟩:ByteArray)=ia from rfl]
    unfold j8
    cases (CM x.1).2 <;> cases pW v.2.1 (CM x.1).1 <;> cases seq x.1 ia <;> rfl
theorem rC {k:Nat} (hk:2 ^ 50≤k) {l:List Int} (hl:l.length≤1073741824):dM.f k l=some (dK l,()):=by
 unfold dM.f dM.t
 refine (eV (L:=fun n i s=>dM.l0 k n s l l.length i) (R:=fun r s=>some (s++dK r,())) (Ty.z (.int .i64)) l (fun i s=>(s.size:Int)≤7*i) (fun n s hs=>?_) (fun n i s x rest g0 g1 hx hr hs ih=>?_) (n:=k) (s:=⟨#[]⟩) (by omega) (by decide)).trans (by rw [od])
 · simp (disch:=omega) only [dM.l0,dM.b0,aP,aK]
   rw [show dK []=⟨#[]⟩ from rfl,gS]
 · have hv:=b9 x
   have ih:=ih (s++iL x) (by rw [aN];omega)
   simp (disch:=omega) only [dM.l0,dM.b0,aO g1,aY,aH,hx,oE hk,aQ,dV,aE,ih]
   rw [ar]
   rfl
theorem wb {k:Nat} (hk:2 ^ 50≤k) (v:Ty.d ay) (hl:v.2.1.length≤1073741824):ir.f k v=some (ap v,()):=by
 unfold ir.f ir.t ap
 rw [vq hk (by omega),aQ]
 cases c:dG v with
 | false=>rfl
 | true =>
  have a:=b9 v.1
  have b:=b9 (v.2.1.length:Int)
  have d:=oJ v.2.1
  rw [ff,aK,A_ hk,aQ,rC hk hl,aQ,if_pos rfl]
  simp only []
  rw [dV (by rw [aN];omega),ux hk,aQ,ar]
  rfl
theorem wq (k:Nat) (n:Int):iq.f k n=some (aC bp n,()):=by
 unfold iq.f iq.t
 rw [show (⟨#[104,105,110,116]⟩:ByteArray)=bp from rfl,tr k (by decide) n]
 rfl
theorem w_ (v:Ty.d ay):(ap v).size≤1099511627776:=by
 unfold ap
 split
 · have:=iK (lf v);omega
 · decide
theorem ro {p:ByteArray} (hp:p=aL∨p=bp) (n:Int):(aC p n).size≤1000:=by
 have hs:p.size≤4:=by rcases hp with q | q <;> rw [q] <;> decide
 unfold aC
 by_cases h:(1:Int)≤n∧n≤100000
 · have:=lm (n:=n) (by omega) (by omega)
   rw [aO h,aY,ByteArray.size_append]
   omega
 · rw [aP h,aK];decide
abbrev RD:=Ty.d a_ × Int
def gD (r:RD) (f:Ty.d a_→RD):RD:=bif r.2==0 then f r.1 else r
def fj (c:Int):Int:=bif c==0 then 0 else bif c==1 then 1 else bif c==2 then 2 else 3
def wk (f:Ty.d a_→RD) (r:RD):RD:=bif r.2==0 then ((f r.1).1,fj (f r.1).2) else r
def wO (r:RD):Ty.d bA:=(r.1,(r.2,()))
def d_:ByteArray:=⟨#[108,105,118,101]⟩
def kJ (s:ByteArray) (d:Ty.d a_):RD:=bif (ax d.1 s).isSome then se d s else (d,0)
def dH (s:ByteArray) (d:Ty.d a_):RD:=gD (kJ s d) fun x=>pQ x s
def m3 (s t:ByteArray) (d:Ty.d a_):RD:=gD (gD (dH s d) fun x=>jI x s t) fun x=>iv x s
def db (v:Ty.d ay) (d:Ty.d a_):RD:=gD (m3 ia (ap v) d) fun x=>tE x ia d_
def eT:List ByteArray→Ty.d a_→RD
 | [],d=>(d,0)
 | s::l,d=>gD (kJ s d) (eT l)
noncomputable def iO (ids:List Int) (d:Ty.d a_):RD:=eT (nW d ids) d
theorem j7 (c:Int):(fj c==0)=(c==0):=by
 unfold fj
 cases h:c==0 with
 | true=>rfl
 | false =>
  cases c==1
  · cases c==2 <;> rfl
  · rfl
theorem rx (f g:Ty.d a_→RD) (r:RD):wk (fun x=>gD (f x) g) r=wk g (wk f r):=by
 unfold wk gD
 cases h:r.2==0 with
 | false=>simp only [aK,h]
 | true =>
  simp only [aY,j7]
  cases (f r.1).2==0 <;> rfl
theorem LJ (r:RD):wk (fun d=>(d,0)) r=r:=by
 unfold wk
 cases h:r.2==0 with
 | false=>rfl
 | true=>exact Prod.ext rfl (by show fj 0=r.2;rw [Gj h];rfl)
theorem lN {r:RD} {f:Ty.d a_→RD} (h:DR r.1) (hf:∀ x,DR x→DR (f x).1):DR (gD r f).1:=by
 unfold gD
 cases r.2==0
 · exact h
 · exact hf _ h
theorem xP {r:RD} {f:Ty.d a_→RD} (h:DR r.1) (hf:∀ x,DR x→DR (f x).1):DR (wk f r).1:=by
 unfold wk
 cases r.2==0
 · exact h
 · exact hf _ h
theorem u7 (s:ByteArray) (d:Ty.d a_) (h:DR d):DR (kJ s d).1:=by
 unfold kJ
 cases (ax d.1 s).isSome
 · exact h
 · exact xV h s
theorem lb (s:ByteArray) (d:Ty.d a_) (h:DR d):DR (dH s d).1:=lN (u7 s d h) fun x hx=>tA hx s
theorem qZ (s t:ByteArray) (d:Ty.d a_) (h:DR d):DR (m3 s t d).1:=lN (lN (lb s d h) fun x hx=>pJ hx s t) fun x hx=>nP hx s
theorem oC (v:Ty.d ay) (d:Ty.d a_) (h:DR d):DR (db v d).1:=lN (qZ _ _ d h) fun x hx=>FB hx _ _
theorem n9:∀ (l:List ByteArray) (d:Ty.d a_),DR d→DR (eT l d).1
 | [],d,h=>h
 | s::l,d,h=>lN (u7 s d h) (n9 l)
theorem ut (ids:List Int) (d:Ty.d a_) (h:DR d):DR (iO ids d).1:=n9 _ d h
theorem dF (k:Nat) (c:Int):aX.f k c=some (fj c,()):=by
 unfold aX.f aX.t fj
 cases c==0 <;> cases c==1 <;> cases c==2 <;> rfl
theorem B5 {l:aW} {s:ByteArray}:decide (lY l s 0≥0)=(ax l s).isSome:=by
 rcases gW l s 0 with ⟨h1,h2,_⟩ | ⟨n,h1,h2,h3,_⟩
 · rw [h1,h2];rfl
 · rw [h2,h3,aO (by omega)];rfl
theorem HZ {l:aW} {s:ByteArray}:decide (lY l s 0<0)=!(ax l s).isSome:=by
 rcases gW l s 0 with ⟨h1,h2,_⟩ | ⟨n,h1,h2,h3,_⟩
 · rw [h1,h2];rfl
 · rw [h2,h3,aP (by omega)];rfl
theorem nn {k:Nat} (hk:2 ^ 50≤k) {d:Ty.d a_} (h:DR d) {s:ByteArray} (hs:s.size≤1099511627776):eC.f k d s=some ((dH s d).1,((dH s d).2,())):=by
 have hl:=h.sz.l
 unfold eC.f eC.t dH kJ
 rw [ij hk (by omega),aQ]
 simp only [B5]
 cases (ax d.1 s).isSome with
 | false =>
  simp only [aK]
  rw [o_ hk h.sz hs]
  rfl
 | true =>
  simp only [aY]
  rw [tZ hk h.sz,aQ]
  unfold gD
  simp only [bne]
  cases c:(se d s).2==0 with
  | false=>rfl
  | true =>
   simp only [ff,aK,aY]
   rw [o_ hk (xV h s).sz hs]
   rfl
theorem vw {k:Nat} (hk:2 ^ 50≤k) {d:Ty.d a_} (h:DR d) {s t:ByteArray} (hs:s.size≤1099511627776) (ht:t.size≤1099511627776):iD.f k d s t=some ((m3 s t d).1,((m3 s t d).2,())):=by
 have h1:=lb s d h
 unfold iD.f iD.t m3
 rw [nn hk h hs,aQ]
 simp only []
 generalize dH s d=r at h1 ⊢
 unfold gD
 cases c:r.2==0 with
 | false=>simp only [aK,c]
 | true =>
  simp only [aY]
  rw [oI hk h1.sz s ht,aQ]
  simp only []
  cases c2:(jI r.1 s t).2==0 with
  | false=>rfl
  | true =>
   simp only [aY]
   rw [lq hk (pJ h1 s t).sz]
   rfl
theorem oU {k:Nat} (hk:2 ^ 50≤k) {d:Ty.d a_} (h:DR d) {v:Ty.d ay} (hv:dG v=true):fE.f k d v=some ((db v d).1,(fj (db v d).2,())):=by
 have hu:=h.sz.u
 have hn:=h.sz.n
 have h1:=qZ ia (ap v) d h
 unfold fE.f fE.t db
 rw [kw hk (by omega) (by omega),aQ,dO.2 h]
 simp only [ff,aK]
 rw [rW hk,aQ,hv]
 simp only [ff,aK]
 rw [kP hk,aQ,show (⟨#[116,101,109,112]⟩:ByteArray)=ia from rfl,show (⟨#[108,105,118,101]⟩:ByteArray)=d_ from rfl]
 simp only []
 rw [vw hk h (s:=ia) (t:=ap v) (by decide) (w_ v),aQ]
 simp only []
 generalize m3 ia (ap v) d=r at h1 ⊢
 unfold gD
 cases c:r.2==0 with
 | false=>simp only [aK,dF,aQ]
 | true =>
  simp only [aY]
  rw [xn hk h1.sz ia (b:=d_) (by decide),aQ]
  simp only [dF,aQ]
theorem nh {k:Nat} (hk:2 ^ 50≤k) {d:Ty.d a_} (h:DR d) {l:List ByteArray} (hl:l.length≤1073741824):cE.f k d l=some ((eT l d).1,((eT l d).2,())):=by
 unfold cE.f cE.t
 refine eV (L:=fun n i (x:Ty.d a_)=>cE.l0 k n l i x.1 x.2.1 x.2.2.1 x.2.2.2.1 [] 0 0 false) (R:=fun r x=>some ((eT r x).1,((eT r x).2,()))) (Ty.z .str) l (fun _ x=>DR x) (fun n x hx=>?_) (fun n i x y rest h0 h1 hy hr hx ih=>?_) (n:=k) (s:=d) (by omega) h
 · simp only [cE.l0,cE.b0]
   rw [aP (by omega),aK]
   rfl
 · have hlx:=hx.sz.l
   simp only [cE.l0,cE.b0]
   rw [aO h1,aY,aH h0 h1,hy,show (x.1,(x.2.1,(x.2.2.1,(x.2.2.2.1,()))))=x from rfl,ij hk (by omega),aQ,aH h0 h1,aE (n:=i+1) (by omega) (by omega)]
   simp only [HZ,eT,kJ,gD]
   cases (ax x.1 y).isSome with
   | false =>
    simp only [qj,aY,aK]
    exact ih x hx
   | true =>
    simp only [ff,aK,aY]
    rw [tZ hk hx.sz,aQ]
    simp only [bne]
    cases c:(se x y).2==0 with
    | false=>rfl
    | true =>
     simp only [ff,aK,aY]
     exact ih _ (xV hx y)
theorem Dp (ids:List Int):∀ (l:aW) (acc:List ByteArray),n7 ids l acc=acc++(l.filter (j8 ids)).map (·.1)
 | [],acc=>by unfold n7;simp
 | f::l,acc=>by
  unfold n7
  rw [Dp ids l]
  cases c:j8 ids f
  · rw [aK,List.filter_cons_of_neg (by rw [c];decide)]
  · rw [aY,List.filter_cons_of_pos c,List.map_cons,s7];rfl
theorem DV {d:Ty.d a_} (ids:List Int):(nW d ids).Sublist (jr d.1):=by
 unfold nW
 cases fJ d
 · exact List.nil_sublist _
 · rw [aY,Dp,List.nil_append]
   exact (List.filter_sublist).map _
theorem wy {l:aW} {s t:ByteArray} (h:t≠s):ax (gm l s) t=ax l t:=by
 induction l with
 | nil=>rfl
 | cons g l ih =>
  unfold gm
  cases c:seq g.1 s with
  | true =>
   rw [aY,ax.eq_2,lW (fun q=>h (by rw [← q,cS.1 c])),aK]
  | false =>
   rw [aK,ax.eq_2,ax.eq_2,ih]
theorem KU {l:aW} {s:ByteArray} (h:s ∈ jr l):(ax l s).isSome=true:=by
 cases q:ax l s with
 | some f=>rfl
 | none =>
  obtain ⟨f,h1,h2⟩:=List.mem_map.1 h
  exact absurd h2 (oP.1 q f h1)
theorem Iz {d:Ty.d a_} {s t:ByteArray} (h:t≠s) (ht:(ax d.1 t).isSome=true):(ax (se d s).1.1 t).isSome=true:=by
 unfold se gA
 cases (jf d).2 != 0 with
 | true=>rw [aY,mY];exact ht
 | false =>
  show (ax (ul s d.1 d.2.1).1 t).isSome=true
  unfold ul
  cases (ax d.1 s).isNone
  · show (ax (gm d.1 s) t).isSome=true
    rw [wy h]
    exact ht
  · exact ht
theorem uD {k:Nat} (hk:2 ^ 50≤k) {d:Ty.d a_} (h:DR d) {v:Ty.d ay} (hv:v.2.1.length≤1099511627776):bG.f k d v=some ((iO v.2.1 d).1,(fj (iO v.2.1 d).2,())):=by
 have hu:=h.sz.u
 have hn:=h.sz.n
 have hl:=h.len
 have hsub:=DV (d:=d) v.2.1
 have hlen:=hsub.length_le
 unfold jr at hlen
 rw [List.length_map] at hlen
 have hne:(nW d v.2.1).Pairwise (fun a b=>a≠b):=(List.Pairwise.sublist hsub h.keys).imp fun {a b} q e=>by rw [e,qS] at q;cases q
 have hall:∀ s ∈ nW d v.2.1,(ax d.1 s).isSome=true:=fun s hs=>KU (hsub.subset hs)
 unfold bG.f bG.t iO
 rw [Ch hk (by omega) (by omega) hv,aQ]
 simp only []
 generalize nW d v.2.1=l at hlen hne hall ⊢
 refine eV (L:=fun n i (x:Ty.d a_)=>bG.l0 k n i x.1 x.2.1 x.2.2.1 x.2.2.2.1 [] 0 0 false l) (R:=fun r x=>some ((eT r x).1,(fj (eT r x).2,()))) (Ty.z .str) l (fun i x=>DR x∧∀ s ∈ l.drop i.toNat,(ax x.1 s).isSome=true) (fun n x hx=>?_) (fun n i x y rest h0 h1 hy hr hx ih=>?_) (n:=k) (s:=d) (by omega) ⟨h,fun s hs=>hall s (List.mem_of_mem_drop hs)⟩
 · simp only [bG.l0,bG.b0]
   rw [aP (by omega),aK]
   rfl
 · obtain ⟨hd,ha⟩:=hx
   have hp:(y::rest).Pairwise (fun a b=>a≠b):=by rw [← hr];exact hne.drop
   have hdr:l.drop (i+1).toNat=rest:=by
    have:=congrArg (List.drop 1) hr
    rw [List.drop_drop,List.drop_one,List.tail_cons] at this
    rw [show (i+1).toNat=i.toNat+1 by omega]
    exact this
   have hy1:(ax x.1 y).isSome=true:=ha y (by rw [hr];exact oh ..)
   simp only [bG.l0,bG.b0]
   rw [aO h1,aY,aH h0 h1,hy,show (x.1,(x.2.1,(x.2.2.1,(x.2.2.2.1,()))))=x from rfl,tZ hk hd.sz,aQ,aE (n:=i+1) (by omega) (by omega)]
   simp only [eT,kJ,gD,hy1,aY,bne,dF]
   cases c:(se x y).2==0 with
   | false=>rfl
   | true =>
    simp only [ff,aK,aY]
    refine ih (se x y).1 ⟨xV hd y,fun s hs=>?_⟩
    rw [hdr] at hs
    exact Iz (fun e=>(List.pairwise_cons.1 hp).1 s hs e.symm) (ha s (by rw [hr];exact qu _ hs))
theorem Cc (k:Nat) (c:Int):m4.f k c=some (fj c,()):=by
 unfold m4.f m4.t fj
 cases c==0 <;> cases c==1 <;> cases c==2 <;> rfl
theorem sL (k:Nat) (w:Ty.d bA) (d:Ty.d a_) (c:Int):az.f k w d c=some ((d,(fj c,())),()):=by
 unfold az.f az.t
 rw [Cc,aQ]
theorem AE {k:Nat} (hk:2 ^ 50≤k) (r:RD) (h:DR r.1) {s:ByteArray} (hs:s.size≤1099511627776):dJ.f k (wO r) s=some (wO (wk (fun x=>pQ x s) r),()):=by
 unfold dJ.f dJ.t wk wO
 simp only []
 cases c:r.2==0 with
 | false=>rfl
 | true=>rw [aY,aY,El hk h.sz hs,aQ,sL,aQ]
theorem Gu {k:Nat} (hk:2 ^ 50≤k) (r:RD) (h:DR r.1) (s:ByteArray) {t:ByteArray} (ht:t.size≤1099511627776):gM.f k (wO r) s t=some (wO (wk (fun x=>jI x s t) r),()):=by
 unfold gM.f gM.t wk wO
 simp only []
 cases c:r.2==0 with
 | false=>rfl
 | true=>rw [aY,aY,FZ hk h.sz s ht,aQ,sL,aQ]
theorem vc {k:Nat} (hk:2 ^ 50≤k) (r:RD) (h:DR r.1) (s:ByteArray):d7.f k (wO r) s=some (wO (wk (fun x=>iv x s) r),()):=by
 unfold d7.f d7.t wk wO
 simp only []
 cases c:r.2==0 with
 | false=>rfl
 | true=>rw [aY,aY,Et hk h.sz s,aQ,sL,aQ]
theorem Hk {k:Nat} (hk:2 ^ 50≤k) (r:RD) (h:DR r.1) (a:ByteArray) {b:ByteArray} (hb:b.size≤1099511627776):eu.f k (wO r) a b=some (wO (wk (fun x=>tE x a b) r),()):=by
 unfold eu.f eu.t wk wO
 simp only []
 cases c:r.2==0 with
 | false=>rfl
 | true=>rw [aY,aY,FP hk h.sz a hb,aQ,sL,aQ]
theorem yY {k:Nat} (hk:2 ^ 50≤k) (r:RD) (h:DR r.1) (s:ByteArray):eA.f k (wO r) s=some (wO (wk (kJ s) r),()):=by
 have hl:=h.sz.l
 unfold eA.f eA.t wk wO kJ
 simp only []
 cases c:r.2==0 with
 | false=>rfl
 | true =>
  rw [aY,aY,jO hk (by omega),aQ]
  simp only [B5]
  cases (ax r.1.1 s).isSome with
  | true=>rw [aY,aY,Ef hk h.sz s,aQ,sL,aQ]
  | false =>
   simp only [aK]
   rw [Gj c]
   rfl
theorem En {k:Nat} (hk:2 ^ 50≤k) (r:RD) (h:DR r.1) {s:ByteArray} (hs:s.size≤1099511627776):fm.f k (wO r) s=some (wO (wk (dH s) r),()):=by
 unfold fm.f fm.t
 rw [yY hk r h,aQ]
 simp only []
 rw [AE hk _ (xP h (u7 s)) hs,aQ,← rx]
 rfl
theorem Es {k:Nat} (hk:2 ^ 50≤k) (r:RD) (h:DR r.1) {s t:ByteArray} (hs:s.size≤1099511627776) (ht:t.size≤1099511627776):ek.f k (wO r) s t=some (wO (wk (m3 s t) r),()):=by
 unfold ek.f ek.t
 rw [En hk r h hs,aQ]
 simp only []
 have h1:=xP (r:=r) h (lb s)
 rw [Gu hk _ h1 s ht,aQ]
 simp only []
 rw [vc hk _ (xP h1 fun x hx=>pJ hx s t) s,aQ,← rx (dH s) (fun x=>jI x s t),← rx]
 rfl
theorem zt {k:Nat} (hk:2 ^ 50≤k) (r:RD) (h:DR r.1) {v:Ty.d ay} (hv:v.2.1.length≤1073741824):eN.f k (wO r) v=some (wO (wk (db v) r),()):=by
 unfold eN.f eN.t
 rw [wb hk v hv,aQ,show (⟨#[116,101,109,112]⟩:ByteArray)=ia from rfl,show (⟨#[108,105,118,101]⟩:ByteArray)=d_ from rfl]
 simp only []
 rw [Es hk r h (s:=ia) (t:=ap v) (by decide) (w_ v),aQ]
 simp only []
 rw [Hk hk _ (xP h (qZ _ _)) ia (b:=d_) (by decide),aQ,← rx]
 rfl
theorem K9 (s:ByteArray) (l:List ByteArray) (r:RD):wk (eT (s::l)) r=wk (eT l) (wk (kJ s) r):=rx (kJ s) (eT l) r
theorem xj {k:Nat} (hk:2 ^ 50≤k) (r:RD) (h:DR r.1) {v:Ty.d ay} (hv:v.2.1.length≤1099511627776):af.f k (wO r) v=some (wO (wk (iO v.2.1) r),()):=by
 have hu:=h.sz.u
 have hn:=h.sz.n
 have hlen:=(DV (d:=r.1) v.2.1).length_le
 have hl:=h.len
 unfold jr at hlen
 rw [List.length_map] at hlen
 unfold af.f af.t
 rw [show (wO r).1=r.1 from rfl,DW hk (by omega) (by omega) hv,aQ]
 simp only []
 have key:∀ l:List ByteArray,l.length≤1000→af.l0 k k l.length 0 r.1.1 r.1.2.1 r.1.2.2.1 r.1.2.2.2.1 r.2 l=some (wO (wk (eT l) r),()):=fun l hl=>by
  refine eV (L:=fun n i (x:RD)=>af.l0 k n l.length i x.1.1 x.1.2.1 x.1.2.2.1 x.1.2.2.2.1 x.2 l) (R:=fun q x=>some (wO (wk (eT q) x),())) (Ty.z .str) l (fun i x=>DR x.1) (fun n x hx=>?_) (fun n i x y rest h0 h1 hy hr hx ih=>?_) (n:=k) (s:=r) (by omega) h
  · simp only [af.l0,af.b0]
    rw [aP (by omega),aK,show eT []=fun d=>(d,0) from rfl,LJ]
    rfl
  · simp only [af.l0,af.b0]
    rw [aO h1,aY,aH h0 h1,hy,show ((x.1.1,(x.1.2.1,(x.1.2.2.1,(x.1.2.2.2.1,())))),(x.2,()))=wO x from rfl,yY hk x hx,aQ,aE (n:=i+1) (by omega) (by omega),K9]
    exact ih (wk (kJ y) x) (xP hx (u7 y))
 rw [show (wO r).2.1=r.2 from rfl]
 rw [key (nW r.1 v.2.1) (by omega)]
 unfold wk iO
 rfl
abbrev nF:=List (Ty.d bP)
def jS (kind batch:Int) (l:nF):Ty.d bP:=(kind,(batch,(ByteArray.empty,(ByteArray.empty,((l.length:Int),(CP l,()))))))
theorem nK {k:Nat} (hk:2 ^ 50≤k) {l:nF} (hl:l.length≤1073741824) (b kd:Int):er.f k l b kd=some (jS kd b l,()):=by
 unfold er.f er.t
 rw [qM hk hl,aQ]
 rfl
abbrev lP:=List (Ty.d yB)
def r_ (s:ByteArray):Bool:=decide (1≤(s.size:Int)∧(s.size:Int)≤8)
def eU (p:Ty.d yB):Ty.d bP:=(4,(p.2.2.1,(p.1,(p.2.1,(0,(0,()))))))
def rR (l:lP) (mark:Int):nF:=l.map eU++[jS 5 mark (l.map eU)]
def iA:nF→ByteArray
 | []=>⟨#[]⟩
 | r::l=>aj (aU r)++iA l
theorem vx:∀ l m:nF,iA (l++m)=iA l++iA m
 | [],m=>by rw [List.nil_append,iA,od]
 | r::l,m=>by rw [List.cons_append,iA,vx l m,iA,ar]
abbrev ab:=List (Ty.d aA)
noncomputable def mO (s:ByteArray) (i n:Int):Ty.d bP × Bool :=
 if 0≤i∧i≤s.size∧1≤n∧n≤s.size-i then (if (hF (ByteArray.extract s i.toNat (i+n).toNat)).2=n then jj (hF (ByteArray.extract s i.toNat (i+n).toNat)).1 else (tP,false)) else (tP,false)
theorem FN {s:ByteArray} (h:(jj s).2=false):jj s=(tP,false):=GY h
theorem Er (s:ByteArray) (i j:Nat):(ByteArray.extract s i j).size≤s.size:=by
 rw [← cW,xz,List.length_drop,List.length_take,cW];omega
theorem ui {k:Nat} (hk:2 ^ 50≤k) {s:ByteArray} (i n:Int) (hs:s.size≤1099511627775):jY.f k s i n=some ((mO s i n).1,((mO s i n).2,())):=by
 unfold jY.f jY.t mO
 rw [oo,aQ]
 by_cases c1:0≤i∧i≤s.size
 case neg=>rw [aP c1,if_neg (fun h=>c1 ⟨h.1,h.2.1⟩)];rfl
 rw [aO c1,ff,aK,oo,aQ,aE (by omega) (by omega)]
 by_cases c2:1≤n∧n≤s.size-i
 case neg=>rw [aP c2,if_neg (fun h=>c2 ⟨h.2.2.1,h.2.2.2⟩)];rfl
 have hz:=Er s i.toNat (i+n).toNat
 have hu:=mf (ByteArray.extract s i.toNat (i+n).toNat)
 rw [aO c2,ff,aK,aE (by omega) (by omega),v8 (by omega) (by omega) (by omega),if_pos ⟨c1.1,c1.2,c2⟩,mJ hk (by omega),aQ]
 simp only []
 rw [rl hk (by omega),aQ]
 by_cases c3:(hF (ByteArray.extract s i.toNat (i+n).toNat)).2=n
 · rw [if_pos c3]
   simp only [show ((hF (ByteArray.extract s i.toNat (i+n).toNat)).2 != n)=false by rw [c3];simp,aK]
   cases c4:(jj (hF (ByteArray.extract s i.toNat (i+n).toNat)).1).2 with
   | true=>rfl
   | false=>rw [FN c4];rfl
 · rw [if_neg c3]
   simp only [show ((hF (ByteArray.extract s i.toNat (i+n).toNat)).2 != n)=true from bne_iff_ne.2 c3,aY]
theorem BK {k:Nat} (hk:2 ^ 50≤k) {s:ByteArray} (i n:Int) (hs:s.size≤1099511627775):kp.f k s i n=some ((mO s i n).1,((mO s i n).2,())):=by
 unfold kp.f kp.t mO
 rw [uA,aQ]
 by_cases c1:0≤i∧i≤s.size
 case neg=>rw [aP c1,if_neg (fun h=>c1 ⟨h.1,h.2.1⟩)];rfl
 rw [aO c1,ff,aK,uA,aQ,aE (by omega) (by omega)]
 by_cases c2:0≤n∧n≤s.size-i
 case neg=>rw [aP c2,if_neg (fun h=>c2 ⟨by omega,h.2.2.2⟩)];rfl
 have hz:=Er s i.toNat (i+n).toNat
 have hu:=mf (ByteArray.extract s i.toNat (i+n).toNat)
 have hsz:(ByteArray.extract s i.toNat (i+n).toNat).size≤(i+n).toNat-i.toNat:=by rw [← cW,xz,List.length_drop,List.length_take];omega
 rw [aO c2,ff,aK,aE (by omega) (by omega),v8 (by omega) (by omega) (by omega),mA hk (by omega),aQ]
 simp only []
 by_cases c0:(hF (ByteArray.extract s i.toNat (i+n).toNat)).2=0
 · rw [show ((hF (ByteArray.extract s i.toNat (i+n).toNat)).2==0)=true by rw [c0];rfl,aY]
   split
   · rename_i h
     rw [if_neg (by omega)]
   · rfl
 · rw [show ((hF (ByteArray.extract s i.toNat (i+n).toNat)).2==0)=false from nw c0,aK,if_pos ⟨c1.1,c1.2,by omega,c2.2⟩]
   by_cases c3:(hF (ByteArray.extract s i.toNat (i+n).toNat)).2=n
   · rw [if_pos c3]
     simp only [show ((hF (ByteArray.extract s i.toNat (i+n).toNat)).2 != n)=false by rw [c3];simp,aK]
     rw [rS hk (by omega),aQ]
   · rw [if_neg c3]
     simp only [show ((hF (ByteArray.extract s i.toNat (i+n).toNat)).2 != n)=true from bne_iff_ne.2 c3,aY]
def sw (p:Option (Ty.d aA)) (x:Ty.d aA):Bool :=
 r_ x.1&&(decide ((1:Int)≤x.2.1∧x.2.1≤100000)&&(!decide (x.2.2.1<(0:Int))&&(decide ((1:Int)≤x.2.2.2.1∧x.2.2.2.1≤210)&&(decide ((1:Int)≤x.2.2.2.2.1∧x.2.2.2.2.1≤1000000)&&(match p with | none=>true | some y=>nO y.1 x.1)))))
def rq (l:ab):Bool:=decide ((l.length:Int)≤20)&&qs sw none l
theorem zV {k:Nat} (hk:2 ^ 50≤k) (l:ab):fK.f k l=some (rq l,()):=by
 unfold fK.f fK.t rq
 by_cases c:l.length > 20
 · rw [aO (by omega),aY,aP (by omega),Bool.false_and]
 · rw [aP (by omega),aK,aO (by omega),Bool.true_and]
   refine (qD (L:=fun n i=>fK.l0 k n l i) (Ty.z aA) l sw (some (true,())) (some (false,())) (fun n=>?_) (fun n x h hx=>?_) (fun n i x y h0 h1 hx hy=>?_) (n:=k) (by omega)).trans (by cases qs sw none l <;> rfl)
   · simp (disch:=omega) only [fK.l0,fK.b0,aP,aK]
   · simp (disch:=omega) only [fK.l0,fK.b0,aO (show (0:Int)<(l.length:Int) by omega),aY,aH,hx,nc k,ga k,aQ,aP (show ¬ (0:Int) > 0 by omega),aK,aE,sw,r_]
     cases decide (1≤(x.1.size:Int)∧(x.1.size:Int)≤8) <;> cases decide ((1:Int)≤x.2.1∧x.2.1≤100000) <;> cases decide (x.2.2.1<(0:Int)) <;> cases decide ((1:Int)≤x.2.2.2.1∧x.2.2.2.1≤210) <;> cases decide ((1:Int)≤x.2.2.2.2.1∧x.2.2.2.2.1≤1000000) <;> rfl
   · simp (disch:=omega) only [fK.l0,fK.b0,aO h1,aY,aH,hx,hy,nc k,ga k,aQ,aO (show i > 0 by omega),aK,aE,sw,r_,md]
     cases decide (1≤(x.1.size:Int)∧(x.1.size:Int)≤8) <;> cases decide ((1:Int)≤x.2.1∧x.2.1≤100000) <;> cases decide (x.2.2.1<(0:Int)) <;> cases decide ((1:Int)≤x.2.2.2.1∧x.2.2.2.1≤210) <;> cases decide ((1:Int)≤x.2.2.2.2.1∧x.2.2.2.2.1≤1000000) <;> cases nO y.1 x.1 <;> rfl
theorem EH {k:Nat} (hk:2 ^ 50≤k) {l:ab} (hl:l.length≤1099511627776):fS.f k l=some (rq l,()):=by
 unfold fS.f fS.t rq
 refine (qD (L:=fun n i=>fS.l0 k n l l l.length i) (Ty.z aA) l sw (some (decide ((l.length:Int)≤20),())) (some (false,())) (fun n=>?_) (fun n x h hx=>?_) (fun n i x y h0 h1 hx hy=>?_) (n:=k) (by omega)).trans (by cases qs sw none l <;> cases decide ((l.length:Int)≤20) <;> rfl)
 · simp (disch:=omega) only [fS.l0,fS.b0,aP (show ¬ (l.length:Int)<(l.length:Int) by omega),aK]
 · simp (disch:=omega) only [fS.l0,fS.b0,aO (show (0:Int)<(l.length:Int) by omega),aY,aH,hx,qP k,kc k,aQ,aP (show ¬ (0:Int) > 0 by omega),aK,aE,sw,r_]
   cases decide (1≤(x.1.size:Int)∧(x.1.size:Int)≤8) <;> cases decide ((1:Int)≤x.2.1∧x.2.1≤100000) <;> cases decide (x.2.2.1<(0:Int)) <;> cases decide ((1:Int)≤x.2.2.2.1∧x.2.2.2.1≤210) <;> cases decide ((1:Int)≤x.2.2.2.2.1∧x.2.2.2.2.1≤1000000) <;> rfl
 · simp (disch:=omega) only [fS.l0,fS.b0,aO h1,aY,aH,hx,hy,qP k,kc k,aQ,aO (show i > 0 by omega),aK,aE,sw,r_]
   cases decide (1≤(x.1.size:Int)∧(x.1.size:Int)≤8) <;> cases decide ((1:Int)≤x.2.1∧x.2.1≤100000) <;> cases decide (x.2.2.1<(0:Int)) <;> cases decide ((1:Int)≤x.2.2.2.1∧x.2.2.2.1≤210) <;> cases decide ((1:Int)≤x.2.2.2.2.1∧x.2.2.2.2.1≤1000000) <;> cases nO y.1 x.1 <;> rfl
def wl:ab→ByteArray→Option (Ty.d aA)
 | [],_=>none
 | e::l,s=>bif seq e.1 s then some e else wl l s
def M5:Ty.d aA:=(ByteArray.empty,(0,(0,(0,(0,())))))
def H9:Option (Ty.d aA)→Option (Ty.d aA × Bool × Unit)
 | none=>some (M5,(false,()))
 | some e=>some (e,(true,()))
theorem zw {k:Nat} (hk:2 ^ 50≤k) {l:ab} (hl:l.length≤1099511627776) (s:ByteArray):gK.f k l s=H9 (wl l s):=by
 unfold gK.f gK.t
 refine eV (L:=fun n i (_:Unit)=>gK.l0 k n l s i ByteArray.empty 0 0 0 0) (R:=fun r _=>H9 (wl r s)) (Ty.z aA) l (fun _ _=>True) (fun n _ _=>?_) (fun n i _ x rest h0 h1 hx hr hp ih=>?_) (n:=k) (s:=()) (by omega) trivial
 · simp (disch:=omega) only [gK.l0,gK.b0,aP,aK,wl]
   rfl
 · have ih:=ih () trivial
   simp (disch:=omega) only [gK.l0,gK.b0,aO h1,aY,aH,hx,aE,ih,wl]
   cases seq x.1 s <;> rfl
theorem zd {k:Nat} (hk:2 ^ 50≤k) {l:ab} (hl:l.length≤1099511627776) (s:ByteArray):gQ.f k l s=H9 (wl l s):=by
 unfold gQ.f gQ.t
 refine eV (L:=fun n i (_:Unit)=>gQ.l0 k n s l l.length i ByteArray.empty 0 0 0 0) (R:=fun r _=>H9 (wl r s)) (Ty.z aA) l (fun _ _=>True) (fun n _ _=>?_) (fun n i _ x rest h0 h1 hx hr hp ih=>?_) (n:=k) (s:=()) (by omega) trivial
 · simp (disch:=omega) only [gQ.l0,gQ.b0,aP,aK,wl]
   rfl
 · have ih:=ih () trivial
   simp (disch:=omega) only [gQ.l0,gQ.b0,aO h1,aY,aH,hx,aE,ih,wl]
   cases seq x.1 s <;> rfl
def Kx:Ty.d yB:=(ByteArray.empty,(ByteArray.empty,(0,())))
noncomputable def jb (d:Ty.d a_) (e:Ty.d aA):Ty.d bP × Bool:=mO (ae d (aC aL e.2.1)).1 e.2.2.1 e.2.2.2.1
noncomputable def tf (l:ab) (d:Ty.d a_) (key:ByteArray):Ty.d yB × Int :=
 match wl l key with
 | none=>(Kx,8)
 | some e=>bif (jb d e).2&&(seq (jb d e).1.2.2.1 key&&(((jb d e).1.1==1)||((jb d e).1.1==4))) then ((key,((jb d e).1.2.2.2.1,((jb d e).1.2.1,()))),0) else (Kx,3)
theorem EB (i n:Int):mO ⟨#[]⟩ i n=(tP,false):=by
 unfold mO
 rw [if_neg]
 rintro ⟨h1,h2,h3,h4⟩
 have:((⟨#[]⟩:ByteArray).size:Int)=0:=rfl
 omega
theorem GI {d:Ty.d a_} {s:ByteArray} (h:(ae d s).2=false):(ae d s).1=⟨#[]⟩:=by
 unfold ae at h ⊢
 generalize fJ d=b at h ⊢
 generalize ax d.1 s=o at h ⊢
 cases b <;> cases o <;> first | rfl | cases h
theorem H8 {d:Ty.d a_} {e:Ty.d aA} (h:(jb d e).2=true):(ae d (aC aL e.2.1)).2=true:=by
 cases c:(ae d (aC aL e.2.1)).2 with
 | true=>rfl
 | false =>
  unfold jb at h
  rw [GI c,EB] at h
  cases h
theorem EQ {k:Nat} (hk:2 ^ 50≤k) {st:Ty.d aG} {d:Ty.d a_} (hd:p6 d) (hl:st.2.1.length≤1099511627776) (key:ByteArray):nI.f k st d key=some ((tf st.2.1 d key).1,((tf st.2.1 d key).2,())):=by
 have:=hd.l;have:=hd.u;have:=hd.n
 unfold nI.f nI.t tf
 rw [zw hk hl]
 cases wl st.2.1 key with
 | none=>rfl
 | some e =>
  unfold H9
  have hz:=iS d (aC aL e.2.1)
  simp only [aQ,ff,aK,ba hk]
  rw [iF hk (by omega) (by omega) (by omega),aQ]
  simp only []
  rw [ui hk _ _ (by omega),aQ]
  change (bif !(ae d (aC aL e.2.1)).2 then _ else bif !(jb d e).2 then _ else bif !seq (jb d e).1.2.2.1 key then _ else bif !((jb d e).1.1==1) then bif !((jb d e).1.1==4) then _ else some ((key,((jb d e).1.2.2.2.1,((jb d e).1.2.1,()))),(0,())) else some ((key,((jb d e).1.2.2.2.1,((jb d e).1.2.1,()))),(0,())))=_
  cases c:(jb d e).2 with
  | false=>cases (ae d (aC aL e.2.1)).2 <;> rfl
  | true =>
   rw [H8 c]
   cases seq (jb d e).1.2.2.1 key <;> cases ((jb d e).1.1==1) <;> cases ((jb d e).1.1==4) <;> rfl
theorem F0 {k:Nat} (hk:2 ^ 50≤k) {st:Ty.d aG} {d:Ty.d a_} (hd:p6 d) (hl:st.2.1.length≤1099511627776) (key:ByteArray):nJ.f k st d key=some ((tf st.2.1 d key).1,((tf st.2.1 d key).2,())):=by
 have:=hd.l;have:=hd.u;have:=hd.n
 unfold nJ.f nJ.t tf
 rw [zd hk hl]
 cases wl st.2.1 key with
 | none=>rfl
 | some e =>
  unfold H9
  have hz:=iS d (aC aL e.2.1)
  simp only [aQ,ff,aK,kv k]
  rw [ly hk (by omega) (by omega) (by omega),aQ]
  simp only []
  rw [BK hk _ _ (by omega),aQ]
  change (bif !(jb d e).2 then _ else bif !((jb d e).1.1==1) then bif !((jb d e).1.1==4) then _ else bif !seq (jb d e).1.2.2.1 key then _ else some (((jb d e).1.2.2.1,((jb d e).1.2.2.2.1,((jb d e).1.2.1,()))),(0,())) else bif !seq (jb d e).1.2.2.1 key then _ else some (((jb d e).1.2.2.1,((jb d e).1.2.2.2.1,((jb d e).1.2.1,()))),(0,())))=_
  cases c:(jb d e).2 with
  | false=>rfl
  | true =>
   cases q:seq (jb d e).1.2.2.1 key with
   | false=>cases ((jb d e).1.1==1) <;> cases ((jb d e).1.1==4) <;> rfl
   | true =>
    rw [cS.1 q]
    cases ((jb d e).1.1==1) <;> cases ((jb d e).1.1==4) <;> rfl
noncomputable def qk (l:ab) (d:Ty.d a_):List ByteArray→lP→lP × Int
 | [],acc=>(acc,0)
 | key::r,acc=>bif (tf l d key).2 != 0 then ([],(tf l d key).2) else qk l d r (acc++[(tf l d key).1])
noncomputable def mU (l:ab) (d:Ty.d a_):lP × Int:=qk l d (l.map (·.1)) []
theorem Ai (l:ab) (d:Ty.d a_):∀ (r:List ByteArray) (acc:lP),(qk l d r acc).1.length≤acc.length+r.length
 | [],acc=>Nat.le_refl _
 | key::r,acc=>by
  unfold qk
  cases (tf l d key).2 != 0 with
  | true=>exact Nat.zero_le _
  | false =>
   have:=Ai l d r (acc++[(tf l d key).1])
   rw [bK] at this
   rw [aK,lQ]
   omega
theorem vh (l:ab) (d:Ty.d a_):(mU l d).1.length≤l.length:=by
 have:=Ai l d (l.map (·.1)) []
 rw [List.length_map,List.length_nil] at this
 unfold mU
 omega
theorem wB {k:Nat} (hk:2 ^ 50≤k) {st:Ty.d aG} {d:Ty.d a_} (hd:p6 d) (hl:st.2.1.length≤1099511627775):gu.f k st d=some ((mU st.2.1 d).1,((mU st.2.1 d).2,())):=by
 unfold gu.f gu.t mU
 refine eV (L:=fun n i s=>gu.l0 k n i st.1.1 st.1.2.1 st.2.1 st.2.2.1 st.2.2.2.1 st.2.2.2.2.1 d.1 d.2.1 d.2.2.1 d.2.2.2.1 s) (R:=fun r s=>some ((qk st.2.1 d (r.map (·.1)) s).1,((qk st.2.1 d (r.map (·.1)) s).2,()))) (Ty.z aA) st.2.1 (fun i s=>(s.length:Int)=i) (fun n s hs=>?_) (fun n i s x rest h0 h1 hx hr hp ih=>?_) (n:=k) (s:=[]) (by omega) rfl
 · simp (disch:=omega) only [gu.l0,gu.b0,aP,aK,List.map_nil,qk]
 · have hg:=EQ hk (st:=st) (d:=d) hd (by omega) x.1
   have ih:=ih (s++[(tf st.2.1 d x.1).1]) (by rw [bK];omega)
   simp (disch:=first | omega | decide) only [gu.l0,gu.b0,aO h1,aY,aH,hx,hg,aQ,bO,aE,ih,List.map_cons,qk]
   cases (tf st.2.1 d x.1).2 != 0 <;> rfl
theorem Cz {k:Nat} (hk:2 ^ 50≤k) {l:ab} (hl:l.length≤1099511627775):fe.f k l=some (l.map (·.1),()):=by
 unfold fe.f fe.t
 refine eV (L:=fun n i s=>fe.l0 k n l l.length i s) (R:=fun r s=>some (s++r.map (·.1),())) (Ty.z aA) l (fun i s=>(s.length:Int)=i) (fun n s hs=>?_) (fun n i s x rest h0 h1 hx hr hp ih=>?_) (n:=k) (s:=[]) (by omega) rfl
 · simp (disch:=omega) only [fe.l0,fe.b0,aP,aK,List.map_nil,List.append_nil]
 · have ih:=ih (s++[x.1]) (by rw [bK];omega)
   simp (disch:=first | omega | decide) only [fe.l0,fe.b0,aO h1,aY,aH,hx,bO,aE,ih,List.map_cons]
   rw [s7]
   rfl
theorem De {k:Nat} (hk:2 ^ 50≤k) {st:Ty.d aG} {d:Ty.d a_} (hd:p6 d) (hl:st.2.1.length≤1099511627775):iw.f k st d=some ((mU st.2.1 d).1,((mU st.2.1 d).2,())):=by
 unfold iw.f iw.t mU
 rw [Cz hk hl,aQ]
 have hm:(st.2.1.map (·.1)).length=st.2.1.length:=List.length_map ..
 refine eV (L:=fun n i s=>iw.l0 k n (st.2.1.map (·.1)).length i st.1.1 st.1.2.1 st.2.1 st.2.2.1 st.2.2.2.1 st.2.2.2.2.1 d.1 d.2.1 d.2.2.1 d.2.2.2.1 s (st.2.1.map (·.1))) (R:=fun r s=>some ((qk st.2.1 d r s).1,((qk st.2.1 d r s).2,()))) (Ty.z .str) (st.2.1.map (·.1)) (fun i s=>(s.length:Int)=i) (fun n s hs=>?_) (fun n i s x rest h0 h1 hx hr hp ih=>?_) (n:=k) (s:=[]) (by omega) rfl
 · simp (disch:=omega) only [iw.l0,iw.b0,aP,aK,qk]
 · have hg:=F0 hk (st:=st) (d:=d) hd (by omega) x
   have ih:=ih (s++[(tf st.2.1 d x).1]) (by rw [bK];omega)
   simp (disch:=first | omega | decide) only [iw.l0,iw.b0,aO h1,aY,aH,hx,hg,aQ,bO,aE,ih,qk]
   cases (tf st.2.1 d x).2 != 0 <;> rfl
noncomputable def Ie (d:Ty.d a_) (tail:Int) (x:Int) (last:Bool):Bool :=
 (ae d (aC aL x)).2&&(decide ((aw (ae d (aC aL x)).1).2=((ae d (aC aL x)).1.size:Int))&&(!last||(tail==((ae d (aC aL x)).1.size:Int))))
noncomputable def rF (d:Ty.d a_) (tail:Int):List Int→Bool
 | []=>true
 | x::l=>Ie d tail x l.isEmpty&&rF d tail l
noncomputable def Cj (d:Ty.d a_) (next:Int) (e:Ty.d aA):Bool :=
 (jb d e).2&&(seq (jb d e).1.2.2.1 e.1&&(((jb d e).1.2.1==e.2.2.2.2.1)&&((((jb d e).1.1==1)||((jb d e).1.1==4))&&!decide (e.2.2.2.2.1≥next))))
noncomputable def mX (st:Ty.d aG) (d:Ty.d a_):Bool :=
 fJ d&&(dG st.1&&(rq st.2.1&&(decide ((1:Int)≤st.2.2.1∧st.2.2.1≤1000001)&&(rF d st.2.2.2.1 st.1.2.1&&st.2.1.all (Cj d st.2.2.1)))))
theorem Cr {α:Type} {l:List α} {i:Int} {x:α} {rest:List α} (h0:0≤i) (h:l.drop i.toNat=x::rest):rest.isEmpty=decide (i+1=(l.length:Int)):=by
 have:=congrArg List.length h
 rw [List.length_drop,lQ] at this
 cases rest with
 | nil=>rw [aO (by rw [List.length_nil] at this;omega)];rfl
 | cons y r=>rw [aP (by rw [lQ] at this;omega)];rfl
theorem uY {k:Nat} (hk:2 ^ 50≤k) {st:Ty.d aG} {d:Ty.d a_} (hd:p6 d):cL.f k st d=some (mX st d,()):=by
 have:=hd.l;have:=hd.u;have:=hd.n
 unfold cL.f cL.t mX
 rw [kw hk (by omega) (by omega),aQ]
 cases fJ d with
 | false=>rfl
 | true =>
  rw [ff,aK,rW hk,aQ,Bool.true_and]
  cases cl:dG st.1 with
  | false=>rfl
  | true =>
   rw [ff,aK,zV hk,aQ,Bool.true_and]
   cases cd:rq st.2.1 with
   | false=>rfl
   | true =>
    rw [ff,aK,ga,aQ,Bool.true_and]
    cases decide ((1:Int)≤st.2.2.1∧st.2.2.1≤1000001) with
    | false=>rfl
    | true =>
     rw [ff,aK,Bool.true_and]
     have hl:st.1.2.1.length≤60:=by
      unfold dG at cl
      rw [ke,ke,decide_eq_true_eq,decide_eq_true_eq] at cl
      omega
     have he:st.2.1.length≤20:=by
      unfold rq at cd
      rw [ke,decide_eq_true_eq] at cd
      omega
     have l1:cL.l1 k k 0 st.1.1 st.1.2.1 st.2.1 st.2.2.1 st.2.2.2.1 st.2.2.2.2.1 d.1 d.2.1 d.2.2.1 d.2.2.2.1=some (st.2.1.all (Cj d st.2.2.1),()):=by
      refine eV (L:=fun n i (_:Unit)=>cL.l1 k n i st.1.1 st.1.2.1 st.2.1 st.2.2.1 st.2.2.2.1 st.2.2.2.2.1 d.1 d.2.1 d.2.2.1 d.2.2.2.1) (R:=fun r _=>some (r.all (Cj d st.2.2.1),())) (Ty.z aA) st.2.1 (fun _ _=>True) (fun n _ _=>?_) (fun n i _ x rest h0 h1 hx hr hp ih=>?_) (n:=k) (s:=()) (by omega) trivial
      · simp (disch:=omega) only [cL.l1,cL.b1,aP,aK,List.all_nil]
      · have ih:=ih () trivial
        have hz:=iS d (aC aL x.2.1)
        have ht:=iF hk (d:=d) (by omega) (by omega) (by omega) (aC aL x.2.1)
        have hr:=ui hk (s:=(ae d (aC aL x.2.1)).1) x.2.2.1 x.2.2.2.1 (by omega)
        simp (disch:=omega) only [cL.l1,cL.b1,aO h1,aY,aH,hx,ba hk,aQ,ht,hr,aE,ih,List.all_cons,Cj,jb,bne]
        cases (mO (ae d (aC aL x.2.1)).1 x.2.2.1 x.2.2.2.1).2 <;> cases seq (mO (ae d (aC aL x.2.1)).1 x.2.2.1 x.2.2.2.1).1.2.2.1 x.1 <;> cases ((mO (ae d (aC aL x.2.1)).1 x.2.2.1 x.2.2.2.1).1.2.1==x.2.2.2.2.1) <;>
         cases ((mO (ae d (aC aL x.2.1)).1 x.2.2.1 x.2.2.2.1).1.1==1) <;> cases ((mO (ae d (aC aL x.2.1)).1 x.2.2.1 x.2.2.2.1).1.1==4) <;> cases decide (x.2.2.2.2.1≥st.2.2.1) <;> rfl
     refine (eV (L:=fun n i (_:Unit)=>cL.l0 k n i st.1.1 st.1.2.1 st.2.1 st.2.2.1 st.2.2.2.1 st.2.2.2.2.1 d.1 d.2.1 d.2.2.1 d.2.2.2.1) (R:=fun r _=>some (rF d st.2.2.2.1 r&&st.2.1.all (Cj d st.2.2.1),())) (Ty.z (.int .i64)) st.1.2.1 (fun _ _=>True) (fun n _ _=>?_) (fun n i _ x rest h0 h1 hx hr hp ih=>?_) (n:=k) (s:=()) (by omega) trivial)
     · simp (disch:=omega) only [cL.l0,cL.b0,aP,aK,rF,l1,Bool.true_and]
     · have ih:=ih () trivial
       have hz:=iS d (aC aL x)
       have ht:=iF hk (d:=d) (by omega) (by omega) (by omega) (aC aL x)
       have hs:=nB hk (s:=(ae d (aC aL x)).1) (by omega)
       have hle:=(gz (ae d (aC aL x)).1).2.2
       have hlast:=Cr h0 hr
       simp (disch:=omega) only [cL.l0,cL.b0,aO h1,aY,aH,hx,ba hk,aQ,ht,hs,aE,ih,rF,Ie,bne,hlast]
       rw [show ((i+1:Int)==(st.1.2.1.length:Int))=decide (i+1=(st.1.2.1.length:Int)) from rfl]
       cases (ae d (aC aL x)).2 with
       | false=>rfl
       | true =>
        by_cases q:(aw (ae d (aC aL x)).1).2=((ae d (aC aL x)).1.size:Int)
        · rw [aO q,aP (by omega)]
          cases decide (i+1=(st.1.2.1.length:Int)) <;> cases (st.2.2.2.1==((ae d (aC aL x)).1.size:Int)) <;> rfl
        · rw [aP q,aO (by omega)]
          rfl
theorem JX (s:ByteArray):ByteArray.extract s s.size s.size=⟨#[]⟩:=kt (by rw [jC,List.drop_eq_nil_of_le (by rw [cW];omega)];rfl)
theorem Ao (s:ByteArray):∀ (d d':Nat) (i:Int),0≤i→i≤s.size→(s.size:Int)-i<d→(jB s d i).2-i<d'→jB (ByteArray.extract s 0 (jB s d i).2.toNat) d' i=jB s d i:=by
 intro d
 induction d with
 | zero=>intro d' i h0 h1 h2;omega
 | succ d ih =>
  intro d' i h0 h1 h2 h3
  have hu:=mf (ByteArray.extract s i.toNat s.size)
  have hz:=pa s i.toNat
  have stop:∀ d':Nat,0<d'→jB (ByteArray.extract s 0 i.toNat) d' i=([],i):=fun d' hd=>by
   obtain ⟨n,rfl⟩:∃ q,d'=q+1:=⟨d'-1,by omega⟩
   have hs:(ByteArray.extract s 0 i.toNat).size=i.toNat:=nt s (by omega)
   have e:ByteArray.extract (ByteArray.extract s 0 i.toNat) i.toNat (ByteArray.extract s 0 i.toNat).size=⟨#[]⟩:=by
    have:=JX (ByteArray.extract s 0 i.toNat)
    rw [hs] at this ⊢
    exact this
   rw [jB,e,GQ,if_pos rfl]
  by_cases c1:(hF (ByteArray.extract s i.toNat s.size)).2=0
  · have e:jB s (d+1) i=([],i):=by rw [jB,if_pos c1]
    rw [e] at h3 ⊢
    exact stop d' (by simp only [] at h3;omega)
  · cases c2:(jj (hF (ByteArray.extract s i.toNat s.size)).1).2 with
    | false =>
     have e:jB s (d+1) i=([],i):=by rw [jB,if_neg c1,if_pos c2]
     rw [e] at h3 ⊢
     exact stop d' (by simp only [] at h3;omega)
    | true =>
     have e:jB s (d+1) i=(((i,((hF (ByteArray.extract s i.toNat s.size)).2,((jj (hF (ByteArray.extract s i.toNat s.size)).1).1,()))):Ty.d bM)::(jB s d (i+(hF (ByteArray.extract s i.toNat s.size)).2)).1,(jB s d (i+(hF (ByteArray.extract s i.toNat s.size)).2)).2):=by
      rw [jB,if_neg c1,if_neg (by rw [c2];decide)]
     rw [e] at h3 ⊢
     simp only [] at h3 ⊢
     have hl:=vK s d (i+(hF (ByteArray.extract s i.toNat s.size)).2) (by omega) (by omega)
     obtain ⟨n,rfl⟩:∃ q,d'=q+1:=⟨d'-1,by omega⟩
     have ih:=ih n (i+(hF (ByteArray.extract s i.toNat s.size)).2) (by omega) (by omega) (by omega) (by omega)
     have key:hF (ByteArray.extract (ByteArray.extract s 0 (jB s d (i+(hF (ByteArray.extract s i.toNat s.size)).2)).2.toNat) i.toNat (ByteArray.extract s 0 (jB s d (i+(hF (ByteArray.extract s i.toNat s.size)).2)).2.toNat).size)=hF (ByteArray.extract s i.toNat s.size):=by
      generalize (jB s d (i+(hF (ByteArray.extract s i.toNat s.size)).2)).2=x at hl ⊢
      rcases nu (ByteArray.extract s i.toNat s.size) with ⟨t,r,ht,e1,e2⟩ | ⟨e2,_⟩
      · rw [e2] at hl ⊢
        simp only [] at hl
        have e3:ByteArray.extract (ByteArray.extract s 0 x.toNat) i.toNat (ByteArray.extract s 0 x.toNat).size=aj t++ByteArray.extract r 0 (x.toNat-i.toNat-(aj t).size):=by
         apply kt
         have hnb:=congrArg nb e1
         rw [jC,iT] at hnb
         rw [jC,ky,iT,ky,List.drop_take,hnb,List.take_append,cW,List.take_of_length_le (by rw [cW];omega)]
        rw [e3,pt _ ht]
      · exact absurd (by rw [e2]) c1
     rw [jB,key,if_neg c1,if_neg (by rw [c2];decide),ih]
theorem HQ (s:ByteArray):aw (ByteArray.extract s 0 (aw s).2.toNat)=aw s:=by
 have hl:=gz s
 have:=Ao s (s.size+1) ((aw s).2.toNat+1) 0 (by omega) (by omega) (by omega) (by show (aw s).2-0<_;omega)
 have hz:=nt s (n:=(aw s).2.toNat) (by omega)
 unfold aw at hz ⊢
 rw [hz]
 exact this
theorem ob {h:Ty.d aB→Ty.d aB} (hh:∀ f,(h f).1=f.1):∀ (l:aW) (s t:ByteArray),ax (fH h l s) t=bif seq t s then (ax l s).map h else ax l t
 | [],s,t=>by cases seq t s <;> rfl
 | g::l,s,t=>by
  unfold fH
  cases c:seq g.1 s with
  | true =>
   have e:=cS.1 c
   rw [aY,ax.eq_2,hh,ax.eq_2,c,aY]
   by_cases q:t=s
   · rw [e,q,cF];rfl
   · rw [lW q,aK,ax.eq_2]
     rw [e,lW (fun w=>q w.symm)]
     rfl
  | false =>
   rw [aK,ax.eq_2,ax.eq_2,c,aK,ob hh l s t,ax.eq_2]
   by_cases q:t=s
   · rw [q,cF,c];rfl
   · rw [lW q];rfl
theorem pY {d:Ty.d a_} {g:aW→Int→aW × Int} (h:(gA d g).2=0):(g d.1 d.2.1).2=0∧(gA d g).1.1=(g d.1 d.2.1).1:=by
 unfold gA at h ⊢
 cases c:(jf d).2 != 0 with
 | true =>
  rw [c,aY] at h
  rw [h] at c
  cases c
 | false=>rw [c] at h;exact ⟨h,rfl⟩
theorem gY {d:Ty.d a_} (h:DR d) (s:ByteArray):ae d s=match ax d.1 s with | none=>(⟨#[]⟩,false) | some f=>(f.2.1,true):=by
 unfold ae
 rw [dO.2 h]
 rfl
theorem Ct {d:Ty.d a_} (h:DR d) {n:ByteArray} (c:(iv d n).2=0) (s:ByteArray):ae (iv d n).1 s=ae d s:=by
 obtain ⟨c1,c2⟩:=pY c
 rw [gY (nP h n),gY h]
 unfold iv
 rw [c2]
 unfold tI at c1 ⊢
 cases hg:(ax d.1 n).isNone with
 | true=>rfl
 | false =>
  rw [aK]
  show (match ax (fH _ d.1 n) s with | none=>_ | some f=>_)=_
  rw [ob (by intro f;rfl)]
  by_cases q:s=n
  · rw [q,cF,aY]
    cases ax d.1 n <;> rfl
  · rw [lW q,aK]
theorem IU {d:Ty.d a_} (h:DR d) {n:ByteArray} {m:Int} (c:(mN d n m).2=0) (s:ByteArray):ae (mN d n m).1 s=bif seq s n then (ByteArray.extract (ae d n).1 0 m.toNat,true) else ae d s:=by
 obtain ⟨c1,c2⟩:=pY c
 rw [gY (vL h n m),gY h,gY h]
 unfold mN
 rw [c2]
 unfold xa at c1 ⊢
 cases hg:ax d.1 n with
 | none=>rw [hg] at c1;cases c1
 | some f =>
  rw [hg] at c1
  simp only [] at c1 ⊢
  cases hm:decide (0≤m∧m≤(f.2.1.size:Int)) with
  | false=>rw [hm] at c1;cases c1
  | true =>
   simp only [ff,aK]
   rw [ob (by intro f;rfl)]
   by_cases q:s=n
   · rw [q,cF,aY,hg];rfl
   · rw [lW q,aK,aK]
theorem mj {r:RD} {f:Ty.d a_→RD} (h:(gD r f).2=0):r.2=0∧gD r f=f r.1∧(f r.1).2=0:=by
 unfold gD at h ⊢
 cases c:r.2==0 with
 | true=>rw [c] at h;exact ⟨Gj c,rfl,h⟩
 | false =>
  rw [c] at h
  rw [aK] at h
  rw [h] at c
  cases c
noncomputable def dh (d:Ty.d a_) (x:Int):ByteArray:=(ae d (aC aL x)).1
def aa (ids:List Int):Int:=ids.getD (ids.length-1) 0
noncomputable def gn (x:Int) (d:Ty.d a_):RD :=
 gD (bif decide ((aw (dh d x)).2<((dh d x).size:Int)) then mN d (aC aL x) (aw (dh d x)).2 else (d,0)) fun y=>iv y (aC aL x)
theorem yJ (x:Int) {d:Ty.d a_} (h:DR d):DR (gn x d).1:=by
 unfold gn
 refine lN ?_ fun y hy=>nP hy _
 cases decide ((aw (dh d x)).2<((dh d x).size:Int))
 · exact h
 · exact vL h _ _
theorem Im {d:Ty.d a_} (h:DR d) {x:Int} (c:(gn x d).2=0) (s:ByteArray):(ae (gn x d).1 s).2=(ae d s).2∧aw (ae (gn x d).1 s).1=aw (ae d s).1:=by
 obtain ⟨c1,c2,c3⟩:=mj c
 have e:gn x d=_:=c2
 rw [e]
 by_cases hb:(aw (dh d x)).2<((dh d x).size:Int)
 · simp only [aO hb,aY] at c1 c3 ⊢
   rw [Ct (vL h _ _) c3,IU h c1]
   by_cases q:s=aC aL x
   · rw [q,cF,aY]
     refine ⟨?_,HQ (dh d x)⟩
     cases hq:(ae d (aC aL x)).2 with
     | true=>rfl
     | false =>
      exfalso
      unfold dh at hb
      have hl:=gz (ae d (aC aL x)).1
      rw [GI hq] at hb hl
      rw [e0] at hb
      omega
   · rw [lW q];exact ⟨rfl,rfl⟩
 · simp only [aP hb,aK] at c1 c3 ⊢
   rw [Ct h c3]
   exact ⟨rfl,rfl⟩
abbrev sk:=List (Ty.d gZ)
def rh (x:Ty.d gZ):Bool:=r_ x.1&&(decide ((x.2.2.1.size:Int)≤24)&&(!x.2.1||seq x.2.2.1 ⟨#[]⟩))
def nT (l:sk):Bool:=qs (fun _=>rh) none l&&decide (l.length≤8)
theorem zq {k:Nat} (hk:2 ^ 50≤k) (l:sk):fO.f k l=some (nT l,()):=by
 unfold fO.f fO.t nT
 by_cases c:l.length > 8
 · rw [aO (by omega),aY,aP (by omega),Bool.and_false]
 · rw [aP (by omega),aK,aO (by omega),Bool.and_true]
   have st:∀ (n:Nat) (i:Int) x,0≤i→i<l.length→l.getD i.toNat (Ty.z gZ)=x→fO.l0 k (n+1) l i=bif rh x then fO.l0 k n l (i+1) else some (false,()):=fun n i x h0 h1 hx=>by
    simp (disch:=omega) only [fO.l0,fO.b0,aO h1,aY,aH,hx,nc k,aQ,aE,rh,r_]
    by_cases c2:(x.2.2.1.size:Int) > 24
    · rw [aO c2,aP (show ¬ (x.2.2.1.size:Int)≤24 by omega)]
      cases decide (1≤(x.1.size:Int)∧(x.1.size:Int)≤8) <;> rfl
    · rw [aP c2,aO (show (x.2.2.1.size:Int)≤24 by omega)]
      cases decide (1≤(x.1.size:Int)∧(x.1.size:Int)≤8) <;> cases x.2.1 <;> cases seq x.2.2.1 ⟨#[]⟩ <;> rfl
   exact (qD (L:=fun n i=>fO.l0 k n l i) (Ty.z gZ) l (fun _=>rh) (some (true,())) (some (false,())) (fun n=>by simp (disch:=omega) only [fO.l0,fO.b0,aP,aK])
    (fun n x h hx=>st n 0 x (by omega) (by omega) hx) (fun n i x y h0 h1 hx hy=>st n i x (by omega) h1 hx) (n:=k) (by omega)).trans (by cases qs (fun _=>rh) none l <;> rfl)
theorem tR {l:sk} (h:nT l=true):l.length≤8:=by
 unfold nT at h
 rw [ke,decide_eq_true_eq] at h
 exact h.2
theorem FJ {l:sk} (h:nT l=true) {x:Ty.d gZ} (hx:x ∈ l):rh x=true:=by
 unfold nT at h
 rw [ke] at h
 exact (Bv h.1 hx).elim fun _ q=>q
def nd (b:Int) (p:Ty.d gZ):Ty.d bP:=bif p.2.1 then (2,(b,(p.1,(ByteArray.empty,(0,(0,())))))) else (1,(b,(p.1,(p.2.2.1,(0,(0,()))))))
def yk (l:sk) (b:Int):nF:=l.map (nd b)++[jS 3 b (l.map (nd b))]
def dP (r:Ty.d bP):Int:=((aj (aU r)).size:Int)
theorem me (r:Ty.d bP):0≤dP r∧dP r≤211:=by
 have:=iK (aU r)
 unfold dP
 omega
theorem Hn {x:Ty.d gZ} (b:Int) (h:rh x=true):nd b x=bif x.2.1 then (2,(b,(x.1,(x.2.2.1,(0,(0,())))))) else (1,(b,(x.1,(x.2.2.1,(0,(0,())))))):=by
 unfold nd
 unfold rh at h
 rw [ke,ke] at h
 cases c:x.2.1 with
 | false=>rfl
 | true =>
  rw [c] at h
  have:x.2.2.1=⟨#[]⟩:=cS.1 h.2.2
  rw [this]
  rfl
def je (l:ab) (key:ByteArray):ab:=l.filter fun x=>!(seq x.1 key)
def Jx (key:ByteArray) (x:Ty.d aA):Bool:=nO x.1 key||seq x.1 key
def tH (l:ab) (e:Ty.d aA):ab:=l.takeWhile (Jx e.1)++e::l.dropWhile (Jx e.1)
def vE (l:ab) (e:Ty.d aA):ab:=tH (je l e.1) e
theorem pn (l:ab) (key:ByteArray):(je l key).length≤l.length:=List.length_filter_le ..
theorem Dq (l:ab) (e:Ty.d aA):(tH l e).length=l.length+1:=by
 unfold tH
 rw [xF,lQ]
 have:=congrArg List.length (List.takeWhile_append_dropWhile (p:=Jx e.1) (l:=l))
 rw [xF] at this
 omega
theorem Ca (l:ab) (e:Ty.d aA):(vE l e).length≤l.length+1:=by
 unfold vE
 have:=pn l e.1
 rw [Dq]
 omega
theorem pD {k:Nat} (hk:2 ^ 50≤k) {l:ab} (e:Ty.d aA) (hl:l.length≤1073741823):br.f k l e=some (vE l e,()):=by
 unfold br.f br.t
 refine (eV (L:=fun n i (s:Bool × ab)=>br.l0 k n l s.1 i e.1 e.2.1 e.2.2.1 e.2.2.2.1 e.2.2.2.2.1 s.2) (R:=fun r s=>some (s.2++bif s.1 then je r e.1 else tH (je r e.1) e,())) (Ty.z aA) l (fun i s=>(s.2.length:Int)≤2*i+1) (fun n s hs=>?_) (fun n i s x rest h0 h1 hx hr hp ih=>?_) (n:=k) (s:=(false,[])) (by omega) (by simp)).trans (by rw [List.nil_append];rfl)
 · obtain ⟨dn,out⟩:=s
   simp only [] at hs
   cases dn with
   | true=>simp (disch:=first | omega | decide) only [br.l0,br.b0,aP,aK,aY,ff,je,List.filter_nil,List.append_nil]
   | false=>simp (disch:=first | omega | decide) only [br.l0,br.b0,aP,aK,aY,qj,bO,je,List.filter_nil,tH,List.takeWhile_nil,List.dropWhile_nil,List.nil_append]
 · obtain ⟨dn,out⟩:=s
   simp only [] at hp
   cases c:seq x.1 e.1 with
   | true =>
    simp (disch:=omega) only [br.l0,br.b0,aO,aY,aH,hx,c,aE]
    refine (ih (dn,out) (by simp only [];omega)).trans ?_
    simp only [je,List.filter_cons,c,ff,Bool.false_eq_true,if_false]
   | false =>
    have ef:je (x::rest) e.1=x::je rest e.1:=by simp only [je,List.filter_cons,c,qj,if_true]
    cases dn with
    | true =>
     simp (disch:=first | omega | decide) only [br.l0,br.b0,aO,aY,aK,aH,hx,c,aE,ff,bO]
     refine (ih (true,out++[x]) (by simp only [bK];omega)).trans ?_
     rw [ef]
     simp only [aY,s7,List.cons_append,List.nil_append]
    | false =>
     cases c2:nO x.1 e.1 with
     | true =>
      simp (disch:=first | omega | decide) only [br.l0,br.b0,aO,aY,aK,aH,hx,c,c2,aE,qj,ff,Bool.true_or,bO]
      refine (ih (false,out++[x]) (by simp only [bK];omega)).trans ?_
      rw [ef]
      simp only [aK,tH,Jx,List.takeWhile_cons,List.dropWhile_cons,c2,Bool.true_or,if_true,s7,List.cons_append,List.nil_append]
     | false =>
      have hx2:(out++[(e.1,(e.2.1,(e.2.2.1,(e.2.2.2.1,(e.2.2.2.2.1,())))))]:ab).length+1≤1099511627776:=by rw [bK];omega
      simp (disch:=first | omega | decide) only [br.l0,br.b0,aO,aY,aK,aH,hx,c,c2,aE,qj,Bool.or_false,bO]
      refine (ih (true,(out++[e])++[x]) (by simp only [bK];omega)).trans ?_
      rw [ef]
      simp only [aY,aK,tH,Jx,List.takeWhile_cons,List.dropWhile_cons,c,c2,Bool.or_false,Bool.false_eq_true,if_false,s7,List.cons_append,List.nil_append]
abbrev bB:=List (Ty.d aD)
def n8 (b:Int) (acc:bB) (p:Ty.d aD):bB :=
 bif p.2.2.2.1.2.1==b then (bif p.2.2.2.1.1==3 then [] else bif p.2.2.2.1.1==1||p.2.2.2.1.1==2 then acc++[p] else acc) else acc
def mI (acc:bB) (p:Ty.d aD):bB:=bif p.2.2.2.1.1==5 then [] else bif p.2.2.2.1.1==4 then acc++[p] else acc
def lA (b:Int) (l:bB):bB:=l.foldl (n8 b) []
def i6 (l:bB):bB:=l.foldl mI []
theorem qG (b:Int) (acc:bB) (p:Ty.d aD):(n8 b acc p).length≤acc.length+1:=by
 unfold n8
 cases p.2.2.2.1.2.1==b <;> cases p.2.2.2.1.1==3 <;> cases p.2.2.2.1.1==1 <;> cases p.2.2.2.1.1==2 <;> simp
theorem qF (acc:bB) (p:Ty.d aD):(mI acc p).length≤acc.length+1:=by
 unfold mI
 cases p.2.2.2.1.1==5 <;> cases p.2.2.2.1.1==4 <;> simp
theorem vX {f:bB→Ty.d aD→bB} (h:∀ a p,(f a p).length≤a.length+1):∀ (l acc:bB),(l.foldl f acc).length≤acc.length+l.length
 | [],acc=>by simp
 | p::l,acc=>by
  have:=vX h l (f acc p)
  have:=h acc p
  rw [List.foldl_cons,lQ]
  omega
theorem rt (b:Int) (l:bB):(lA b l).length≤l.length:=by
 have:=vX (qG b) l []
 simpa [lA] using this
theorem rT (l:bB):(i6 l).length≤l.length:=by
 have:=vX qF l []
 simpa [i6] using this
theorem Gv {k:Nat} (hk:2 ^ 50≤k) {l:bB} {e:Int} (b:Int) (h0:0≤e) (he:e≤l.length) (hl:l.length≤1099511627775):iz.f k l e b=some (lA b (l.take e.toNat),()):=by
 unfold iz.f iz.t
 have hlen:(l.take e.toNat).length=e.toNat:=by rw [List.length_take];omega
 have he':e=((l.take e.toNat).length:Int):=by omega
 conv=>lhs;rw [he']
 refine eV (L:=fun n i s=>iz.l0 k n l ((l.take e.toNat).length:Int) b i s) (R:=fun r s=>some (r.foldl (n8 b) s,())) (Ty.z aD) (l.take e.toNat) (fun i s=>(s.length:Int)≤i) (fun n s hs=>?_) (fun n i s x rest h0 h1 hx hr hp ih=>?_) (n:=k) (s:=[]) (by omega) (by decide)
 · simp (disch:=omega) only [iz.l0,iz.b0,aP,aK,List.foldl_nil]
 · rw [lH (by omega)] at hx
   have ih:=fun s' (h:s'.length≤s.length+1)=>ih s' (by omega)
   simp (disch:=omega) only [iz.l0,iz.b0,aO h1,aY,aH,hx,aE]
   rw [List.foldl_cons]
   have hs1:=qG b s x
   have ih1:=ih _ hs1
   rw [← ih1]
   unfold n8
   have r1:∀ {R:Type} (q:Option R),rm (Ty.bytes aD) (s.length+1) q=q:=fun q=>bO (by omega) (by decide)
   have r2:∀ {R:Type} (q:Option R),rm (Ty.bytes aD) (0+1) q=q:=fun q=>bO (by omega) (by decide)
   simp only [r1,r2]
   cases c1:(x.2.2.2.1.2.1==b) <;> cases c2:(x.2.2.2.1.1==3) <;> cases c3:(x.2.2.2.1.1==1) <;> cases c4:(x.2.2.2.1.1==2) <;> first | rfl | skip
   all_goals (exfalso;have e2:=eq_of_beq c2;first | (rw [e2] at c3;revert c3;decide) | (rw [e2] at c4;revert c4;decide))
theorem B9 {k:Nat} (hk:2 ^ 50≤k) {l:bB} {r:Ty.d bP} (hr:r.1=3) (hl:l.length≤1099511627775):d9.f k l r=some (lA r.2.1 l,()):=by
 unfold d9.f d9.t
 rw [hr]
 refine eV (L:=fun n i s=>d9.l0 k n l l.length i 3 r.2.1 r.2.2.1 r.2.2.2.1 r.2.2.2.2.1 r.2.2.2.2.2.1 s) (R:=fun q s=>some (q.foldl (n8 r.2.1) s,())) (Ty.z aD) l (fun i s=>(s.length:Int)≤i) (fun n s hs=>?_) (fun n i s x rest h0 h1 hx hr hp ih=>?_) (n:=k) (s:=[]) (by omega) (by decide)
 · simp (disch:=omega) only [d9.l0,d9.b0,aP,aK,List.foldl_nil]
 · simp (disch:=omega) only [d9.l0,d9.b0,aO h1,aY,aK,aH,hx,aE,show ((3:Int)==3)=true from rfl,show ((3:Int)==5)=false from rfl]
   rw [List.foldl_cons]
   have hs1:=qG r.2.1 s x
   have ih1:=ih (n8 r.2.1 s x) (by omega)
   rw [← ih1]
   unfold n8 bne
   have r1:∀ {R:Type} (q:Option R),rm (Ty.bytes aD) (s.length+1) q=q:=fun q=>bO (by omega) (by decide)
   simp only [r1]
   cases c1:(x.2.2.2.1.2.1==r.2.1) <;> cases c2:(x.2.2.2.1.1==3) <;> cases c3:(x.2.2.2.1.1==1) <;> cases c4:(x.2.2.2.1.1==2) <;> rfl
theorem v7 {k:Nat} (hk:2 ^ 50≤k) {l:bB} {r:Ty.d bP} (hr:r.1=5) (hl:l.length≤1099511627775):d9.f k l r=some (i6 l,()):=by
 unfold d9.f d9.t
 rw [hr]
 refine eV (L:=fun n i s=>d9.l0 k n l l.length i 5 r.2.1 r.2.2.1 r.2.2.2.1 r.2.2.2.2.1 r.2.2.2.2.2.1 s) (R:=fun q s=>some (q.foldl mI s,())) (Ty.z aD) l (fun i s=>(s.length:Int)≤i) (fun n s hs=>?_) (fun n i s x rest h0 h1 hx hr hp ih=>?_) (n:=k) (s:=[]) (by omega) (by decide)
 · simp (disch:=omega) only [d9.l0,d9.b0,aP,aK,List.foldl_nil]
 · simp (disch:=omega) only [d9.l0,d9.b0,aO h1,aY,aK,aH,hx,aE,show ((5:Int)==3)=false from rfl,show ((5:Int)==5)=true from rfl]
   rw [List.foldl_cons]
   have hs1:=qF s x
   have ih1:=ih (mI s x) (by omega)
   rw [← ih1]
   unfold mI
   have r1:∀ {R:Type} (q:Option R),rm (Ty.bytes aD) (s.length+1) q=q:=fun q=>bO (by omega) (by decide)
   simp only [r1]
   cases c1:(x.2.2.2.1.1==5) <;> cases c2:(x.2.2.2.1.1==4) <;> rfl
def z_ (p:Ty.d aD):Ty.d bP:=p.2.2.2.1
def mG (r:Ty.d bP) (own:bB):Bool:=(r.2.2.2.2.1==(own.length:Int))&&(r.2.2.2.2.2.1==CP (own.map z_))
theorem rr {k:Nat} (hk:2 ^ 50≤k) (r:Ty.d bP) {l:bB} (hl:l.length≤1073741823):gb.f k r l=some (mG r l,()):=by
 unfold gb.f gb.t
 refine (eV (L:=fun n i s=>gb.l0 k n l l.length i r.1 r.2.1 r.2.2.1 r.2.2.2.1 r.2.2.2.2.1 r.2.2.2.2.2.1 s) (R:=fun q s=>some ((r.2.2.2.2.1==((s++q.map z_).length:Int))&&(r.2.2.2.2.2.1==CP (s++q.map z_)),())) (Ty.z aD) l (fun i s=>(s.length:Int)=i) (fun n s hs=>?_) (fun n i s x rest h0 h1 hx hr hp ih=>?_) (n:=k) (s:=[]) (by omega) (by decide)).trans (by rw [List.nil_append,List.length_map];rfl)
 · simp (disch:=omega) only [gb.l0,gb.b0,aP,aK,List.map_nil,List.append_nil,BP hk,aQ]
   cases (r.2.2.2.2.1==(s.length:Int)) <;> rfl
 · simp (disch:=first | omega | decide) only [gb.l0,gb.b0,aO,aY,aH,hx,bO,aE]
   refine (ih (s++[z_ x]) (by rw [bK];omega)).trans ?_
   simp only [List.map_cons,s7,List.cons_append,List.nil_append]
theorem vu {k:Nat} (hk:2 ^ 50≤k) (r:Ty.d bP) {l:bB} (hl:l.length≤1073741823):jR.f k r l=some (mG r l,()):=by
 have e:gP.f k l=some (l.map z_,()):=by
  unfold gP.f gP.t
  refine (eV (L:=fun n i s=>gP.l0 k n l i s) (R:=fun q s=>some (s++q.map z_,())) (Ty.z aD) l (fun i s=>(s.length:Int)=i) (fun n s hs=>?_) (fun n i s x rest h0 h1 hx hr hp ih=>?_) (n:=k) (s:=[]) (by omega) (by decide)).trans (by rw [List.nil_append])
  · simp (disch:=omega) only [gP.l0,gP.b0,aP,aK,List.map_nil,List.append_nil]
  · simp (disch:=first | omega | decide) only [gP.l0,gP.b0,aO,aY,aH,hx,bO,aE]
    refine (ih (s++[z_ x]) (by rw [bK];omega)).trans ?_
    simp only [List.map_cons,s7,List.cons_append,List.nil_append]
 unfold jR.f jR.t mG
 rw [e,aQ]
 simp only []
 rw [qM hk (by rw [List.length_map];omega),aQ]
 cases (r.2.2.2.2.1==(l.length:Int)) <;> rfl
theorem ry {k:Nat} (hk:2 ^ 50≤k) {l:ab} (key:ByteArray) (hl:l.length≤1099511627775):dD.f k l key=some (je l key,()):=by
 unfold dD.f dD.t
 refine (eV (L:=fun n i s=>dD.l0 k n l key i s) (R:=fun r s=>some (s++je r key,())) (Ty.z aA) l (fun i s=>(s.length:Int)≤i) (fun n s hs=>?_) (fun n i s x rest h0 h1 hx hr hp ih=>?_) (n:=k) (s:=[]) (by omega) (by decide)).trans (by rw [List.nil_append])
 · simp (disch:=omega) only [dD.l0,dD.b0,aP,aK,je,List.filter_nil,List.append_nil]
 · cases c:seq x.1 key with
   | true =>
    simp (disch:=first | omega | decide) only [dD.l0,dD.b0,aO,aY,aK,aH,hx,c,ff,aE]
    refine (ih s (by omega)).trans ?_
    simp only [je,List.filter_cons,c,ff,Bool.false_eq_true,if_false]
   | false =>
    simp (disch:=first | omega | decide) only [dD.l0,dD.b0,aO,aY,aH,hx,c,qj,bO,aE]
    refine (ih (s++[x]) (by rw [bK];omega)).trans ?_
    simp only [je,List.filter_cons,c,qj,if_true,s7,List.cons_append,List.nil_append]
theorem rO {k:Nat} (hk:2 ^ 50≤k) {l:ab} (key:ByteArray) (hl:l.length≤1099511627775):dT.f k l key=some (je l key,()):=by
 unfold dT.f dT.t
 refine (eV (L:=fun n i s=>dT.l0 k n key l l.length i s) (R:=fun r s=>some (s++je r key,())) (Ty.z aA) l (fun i s=>(s.length:Int)≤i) (fun n s hs=>?_) (fun n i s x rest h0 h1 hx hr hp ih=>?_) (n:=k) (s:=[]) (by omega) (by decide)).trans (by rw [List.nil_append])
 · simp (disch:=omega) only [dT.l0,dT.b0,aP,aK,je,List.filter_nil,List.append_nil]
 · cases c:seq x.1 key with
   | true =>
    simp (disch:=first | omega | decide) only [dT.l0,dT.b0,aO,aY,aK,aH,hx,c,ff,aE]
    refine (ih s (by omega)).trans ?_
    simp only [je,List.filter_cons,c,ff,Bool.false_eq_true,if_false]
   | false =>
    simp (disch:=first | omega | decide) only [dT.l0,dT.b0,aO,aY,aH,hx,c,qj,bO,aE]
    refine (ih (s++[x]) (by rw [bK];omega)).trans ?_
    simp only [je,List.filter_cons,c,qj,if_true,s7,List.cons_append,List.nil_append]
theorem zx {k:Nat} (hk:2 ^ 50≤k) {l:ab} (e:Ty.d aA) (hl:l.length≤1099511627775):fM.f k l e=some (vE l e,()):=by
 unfold fM.f fM.t vE
 rw [rO hk e.1 hl,aQ]
 have hd:=pn l e.1
 simp only []
 generalize je l e.1=r at *
 have cp:∀ q:ab,q.length≤1099511627775→fA.f k q=some (q,()):=fun q hq=>by
  unfold fA.f fA.t
  rw [bO (by omega) (by decide)]
 have key:∀ (d j n:Nat),r.length-j=d→j≤r.length→d<n→fM.l0 k n (j:Int) e.1 e.2.1 e.2.2.1 e.2.2.2.1 e.2.2.2.2.1 r=some (r.take j++tH (r.drop j) e,()):=by
  intro d
  induction d with
  | zero =>
   intro j n hd hj hn
   obtain ⟨n,rfl⟩:∃ q,n=q+1:=⟨n-1,by omega⟩
   have:j=r.length:=by omega
   subst this
   simp (disch:=first | omega | (simp only [bK,List.length_take,List.length_drop];omega) | decide) only [fM.l0,fM.b0,aP,aK,bq,nU,cp,aQ,bO]
   rw [List.drop_length,tH]
   simp
  | succ d ih =>
   intro j n hd hj hn
   obtain ⟨n,rfl⟩:∃ q,n=q+1:=⟨n-1,by omega⟩
   have hlt:j<r.length:=by omega
   have e1:r.drop j=r.getD j (Ty.z aA)::r.drop (j+1):=by
    rw [List.drop_eq_getElem_cons hlt]
    simp [List.getD,hlt]
   cases c:Jx e.1 (r.getD j (Ty.z aA)) with
   | true =>
    have c':=c
    unfold Jx at c'
    have ih:=ih (j+1) n (by omega) (by omega) (by omega)
    simp (disch:=omega) only [fM.l0,fM.b0,aO,aY,aH,nU,c',aE]
    rw [show ((j:Int)+1)=((j+1:Nat):Int) by omega,ih,e1,j3 (z:=Ty.z aA) hlt]
    unfold tH
    simp only [List.takeWhile_cons,List.dropWhile_cons,c,if_true,s7,List.cons_append,List.nil_append]
   | false =>
    have c':=c
    unfold Jx at c'
    simp (disch:=first | omega | (simp only [bK,List.length_take,List.length_drop];omega) | decide) only [fM.l0,fM.b0,aO,aY,aK,aH,nU,c',bq,cp,aQ,bO]
    rw [e1]
    unfold tH
    simp only [List.takeWhile_cons,List.dropWhile_cons,c,Bool.false_eq_true,if_false,s7,List.cons_append,List.nil_append]
 exact (key r.length 0 k (by omega) (by omega) (by omega)).trans (by rw [List.take_zero,List.drop_zero,List.nil_append])
theorem wJ {k:Nat} (hk:2 ^ 50≤k) {l:bB} {e:Int} (h0:0≤e) (he:e≤l.length) (hl:l.length≤1099511627775):fV.f k l e=some (i6 (l.take e.toNat),()):=by
 unfold fV.f fV.t
 have hlen:(l.take e.toNat).length=e.toNat:=by rw [List.length_take];omega
 have he':e=((l.take e.toNat).length:Int):=by omega
 conv=>lhs;rw [he']
 refine eV (L:=fun n i s=>fV.l0 k n l ((l.take e.toNat).length:Int) i s) (R:=fun r s=>some (r.foldl mI s,())) (Ty.z aD) (l.take e.toNat) (fun i s=>(s.length:Int)≤i) (fun n s hs=>?_) (fun n i s x rest h0 h1 hx hr hp ih=>?_) (n:=k) (s:=[]) (by omega) (by decide)
 · simp (disch:=omega) only [fV.l0,fV.b0,aP,aK,List.foldl_nil]
 · rw [lH (by omega)] at hx
   simp (disch:=omega) only [fV.l0,fV.b0,aO h1,aY,aH,hx,aE]
   rw [List.foldl_cons]
   have hs1:=qF s x
   have ih1:=ih (mI s x) (by omega)
   rw [← ih1]
   unfold mI
   have r1:∀ {R:Type} (q:Option R),rm (Ty.bytes aD) (s.length+1) q=q:=fun q=>bO (by omega) (by decide)
   have r2:∀ {R:Type} (q:Option R),rm (Ty.bytes aD) (0+1) q=q:=fun q=>bO (by omega) (by decide)
   simp only [r1,r2]
   cases c1:(x.2.2.2.1.1==5) <;> cases c2:(x.2.2.2.1.1==4) <;> first | rfl | skip
   all_goals (exfalso;have e2:=eq_of_beq c1;rw [e2] at c2;revert c2;decide)
def xJ (p:Ty.d aD):Ty.d aA:=(p.2.2.2.1.2.2.1,(p.1,(p.2.1,(p.2.2.1,(p.2.2.2.1.2.1,())))))
def ji (d:ab) (p:Ty.d aD):ab:=bif p.2.2.2.1.1==2 then je d p.2.2.2.1.2.2.1 else vE d (xJ p)
def eY (d:ab) (own:bB):ab:=own.foldl ji d
theorem rI (d:ab) (p:Ty.d aD):(ji d p).length≤d.length+1:=by
 unfold ji
 have h1:=pn d p.2.2.2.1.2.2.1
 have h2:=Ca d (xJ p)
 cases p.2.2.2.1.1==2
 · rw [aK];omega
 · rw [aY];omega
theorem qJ:∀ (own:bB) (d:ab),(eY d own).length≤d.length+own.length
 | [],d=>Nat.le_refl _
 | p::own,d=>by
  have:=qJ own (ji d p)
  have:=rI d p
  rw [eY,List.foldl_cons,lQ]
  unfold eY at this
  simp only [eY] at *
  omega
def og (d:ab) (code:Int):Int:=if d.length > 20 then 2 else code
theorem u0 {k:Nat} (hk:2 ^ 50≤k) (g:Ty.d gB) {own:bB} (ho:own.length≤268435456) (hd:g.1.length≤268435456):cJ.f k g own=some ((eY g.1 own,(g.2.1,(og (eY g.1 own) g.2.2.1,()))),()):=by
 unfold cJ.f cJ.t
 refine eV (L:=fun n i (d:ab)=>cJ.l0 k n own own.length i d g.2.1 g.2.2.1) (R:=fun q d=>some ((eY d q,(g.2.1,(og (eY d q) g.2.2.1,()))),())) (Ty.z aD) own (fun i d=>(d.length:Int)≤268435456+i) (fun n d hs=>?_) (fun n i d x rest h0 h1 hx hr hp ih=>?_) (n:=k) (s:=g.1) (by omega) (by omega)
 · change _=some ((d,(g.2.1,(og d g.2.2.1,()))),())
   simp (disch:=omega) only [cJ.l0,cJ.b0,aP (show ¬ ((own.length:Int)<(own.length:Int)) by omega),aK,og]
   by_cases c:d.length > 20
   · rw [aO (by omega),if_pos c];rfl
   · rw [aP (by omega),if_neg c];rfl
 · have hsd:=rI d x
   have ih:=ih (ji d x) (by omega)
   have e:ji d x=bif x.2.2.2.1.1==2 then je d x.2.2.2.1.2.2.1 else vE d (xJ x):=rfl
   simp (disch:=omega) only [cJ.l0,cJ.b0,aO h1,aY,aH,hx,rO hk,zx hk,aQ,aE]
   rw [show eY d (x::rest)=eY (ji d x) rest from rfl,← ih,e]
   cases x.2.2.2.1.1==2 <;> rfl
theorem zS {k:Nat} (hk:2 ^ 50≤k) {d:ab} (p:Ty.d aD) (hd:d.length≤1073741823):iR.f k d p=some (ji d p,()):=by
 unfold iR.f iR.t ji
 rw [ry hk _ (by omega),pD hk _ hd]
 cases p.2.2.2.1.1==2 <;> rfl
def A6 (a b:Int):Int:=if a > b then a else b
def jA (all:bB):bB→Nat→ab→Int→Int→Ty.d gB
 | [],_,d,last,code=>bif code==0&&decide ((i6 all).length > 0) then (d,(last,(1,()))) else (d,(last,(code,())))
 | p::rest,i,d,last,code =>
  bif code != 0 then (d,(last,(code,()))) else
  bif p.2.2.2.1.1==3 then (bif mG p.2.2.2.1 (lA p.2.2.2.1.2.1 (all.take i)) then jA all rest (i+1) (eY d (lA p.2.2.2.1.2.1 (all.take i))) (A6 p.2.2.2.1.2.1 last) (og (eY d (lA p.2.2.2.1.2.1 (all.take i))) code)
   else jA all rest (i+1) d (A6 p.2.2.2.1.2.1 last) code) else
  bif p.2.2.2.1.1==5 then (bif mG p.2.2.2.1 (i6 (all.take i)) then jA all rest (i+1) (eY d (i6 (all.take i))) (A6 p.2.2.2.1.2.1 last) (og (eY d (i6 (all.take i))) code)
   else jA all rest (i+1) d (A6 p.2.2.2.1.2.1 last) 1) else
  jA all rest (i+1) d (A6 p.2.2.2.1.2.1 last) code
def kq (g:Ty.d gB) (l:bB):Ty.d gB:=jA l l 0 g.1 g.2.1 g.2.2.1
def F6 (d:ab) (code:Int):Prop:=d.length≤268435456∧(code=0→d.length≤134217728)
theorem mq {d:ab} {own:bB} {code:Int} (h:F6 d 0) (ho:own.length≤134217728):F6 (eY d own) (og (eY d own) code):=by
 have h1:=qJ own d
 have h2:=h.2 rfl
 refine ⟨by omega,fun q=>?_⟩
 unfold og at q
 split at q
 · cases q
 · omega
theorem xR {d:ab} (h:F6 d 0):F6 d 1:=⟨h.1,fun q=>by cases q⟩
theorem zR {k:Nat} (hk:2 ^ 50≤k) (g:Ty.d gB) {l:bB} (hl:l.length≤134217728) (hd:g.1.length≤134217728):dN.f k g l=some (kq g l,()):=by
 unfold dN.f dN.t
 have cp:fA.f k g.1=some (g.1,()):=by
  unfold fA.f fA.t
  rw [bO (by omega) (by decide)]
 rw [cp,aQ]
 simp only []
 have key:=Is (L:=fun n i (s:ab × Int × Int)=>dN.l0 k n l l l.length i [] 0 0 s.1 s.2.1 s.2.2) (R:=fun (q:bB) s=>some (jA l q (l.length-q.length) s.1 s.2.1 s.2.2,())) (Ty.z aD) l (fun i s=>F6 s.1 s.2.2) (fun n s hs=>?_) (fun n i s x rest h0 h1 hx hr hp ih=>?_) k 0 (g.1,(g.2.1,g.2.2.1)) (by omega) (by omega) (by omega) ⟨by simp only [];omega,fun _=>by simp only [];omega⟩
 · have e:l.drop (Int.toNat 0)=l:=rfl
   rw [e,Nat.sub_self] at key
   exact key
 · obtain ⟨d,last,code⟩:=s
   have hm:=v7 hk (l:=l) (r:=(5,(0,(ByteArray.empty,(ByteArray.empty,(0,(0,()))))))) rfl (by omega)
   simp (disch:=omega) only [dN.l0,dN.b0,aP,aK,jA,hm,aQ]
   cases c1:(code==0)
   · rfl
   · by_cases c2:(i6 l).length > 0
     · rw [aO (show ((i6 l).length:Int) > 0 by omega),aO c2];rfl
     · rw [aP (show ¬ ((i6 l).length:Int) > 0 by omega),aP c2];rfl
 · obtain ⟨d,last,code⟩:=s
   simp only [] at hp ih
   have hi:l.length-(x::rest).length=i.toNat:=by
    have:=congrArg List.length hr
    rw [List.length_drop] at this
    omega
   have hi2:l.length-rest.length=i.toNat+1:=by rw [lQ] at hi;have:=congrArg List.length hr;rw [List.length_drop,lQ] at this;omega
   have htk:(l.take i.toNat).length≤134217728:=by rw [List.length_take];omega
   have ih:=fun a b c h=>ih (a,(b,c)) h
   simp only [hi2] at ih
   rw [hi]
   simp (disch:=omega) only [dN.l0,dN.b0,aO h1,aY,aH,hx,aE,jA]
   by_cases c0:code=0
   case neg =>
    rw [show (code != 0)=true from bne_iff_ne.2 c0]
    rfl
   subst c0
   simp only [show ((0:Int) != 0)=false from rfl,aK]
   by_cases c3:x.2.2.2.1.1=3
   · have b3:(x.2.2.2.1.1==3)=true:=by rw [c3];rfl
     have b3':(x.2.2.2.1.1 != 3)=false:=by rw [c3];rfl
     have b5:(x.2.2.2.1.1==5)=false:=by rw [c3];rfl
     have hlen:=rt x.2.2.2.1.2.1 (l.take i.toNat)
     simp only [b3,b3',b5,aY,aK]
     rw [bq (by omega) (by omega),B9 hk c3 (by omega),aQ]
     simp only []
     rw [rr hk _ (by omega),aQ]
     cases c:mG x.2.2.2.1 (lA x.2.2.2.1.2.1 (l.take i.toNat)) with
     | true =>
      simp only [aY]
      rw [u0 hk _ (by omega) (by simp only [];exact hp.1),aQ]
      exact ih _ _ _ (mq hp (by omega))
     | false =>
      simp only [aK]
      exact ih _ _ _ hp
   · have b3:(x.2.2.2.1.1==3)=false:=nw c3
     have b3':(x.2.2.2.1.1 != 3)=true:=bne_iff_ne.2 c3
     by_cases c5:x.2.2.2.1.1=5
     · have b5:(x.2.2.2.1.1==5)=true:=by rw [c5];rfl
       have b5':(x.2.2.2.1.1 != 5)=false:=by rw [c5];rfl
       have hlen:=rT (l.take i.toNat)
       simp only [b3,b3',b5,b5',aY,aK]
       rw [bq (by omega) (by omega),v7 hk c5 (by omega),aQ]
       simp only []
       rw [rr hk _ (by omega),aQ]
       cases c:mG x.2.2.2.1 (i6 (l.take i.toNat)) with
       | true =>
        simp only [aY]
        rw [u0 hk _ (by omega) (by simp only [];exact hp.1),aQ]
        exact ih _ _ _ (mq hp (by omega))
       | false =>
        simp only [aK]
        exact ih _ _ _ (xR hp)
     · have b5:(x.2.2.2.1.1==5)=false:=nw c5
       have b5':(x.2.2.2.1.1 != 5)=true:=bne_iff_ne.2 c5
       simp only [b3,b3',b5,b5',aY,aK]
       exact ih _ _ _ hp
theorem xf {k:Nat} (hk:2 ^ 50≤k) (g:Ty.d gB) {l:bB} (hl:l.length≤134217728) (hd:g.1.length≤134217728):cM.f k g l=some (kq g l,()):=by
 unfold cM.f cM.t
 rw [bO (by omega) (by decide),List.nil_append]
 have inner:∀ {own:bB} {d:ab} (L0:bB→Int→ab→Int→Int→ab→Int→Int→Option (Ty.d gB × Unit)) (i last code:Int),own.length≤134217728→d.length≤268435456→0≤i→i≤134217728 →
  cM.l1 k L0 k l i 0 [] 0 0 d last code own=L0 l (i+1) [] 0 0 (eY d own) last (og (eY d own) code):=fun {own d} L0 i last code ho hd2 hi0 hi1=>by
  refine eV (L:=fun n j (d:ab)=>cM.l1 k L0 n l i j [] 0 0 d last code own) (R:=fun q d=>L0 l (i+1) [] 0 0 (eY d q) last (og (eY d q) code)) (Ty.z aD) own (fun j d=>(d.length:Int)≤268435456+j) (fun n d hs=>?_) (fun n j d x rest h0 h1 hx hr hp ih=>?_) (n:=k) (s:=d) (by omega) (by omega)
  · change _=L0 l (i+1) [] 0 0 d last (og d code)
    simp (disch:=omega) only [cM.l1,cM.b1,aP (show ¬ ((own.length:Int)<(own.length:Int)) by omega),aK,og,aE]
    by_cases c:d.length > 20
    · rw [aO (by omega),if_pos c];rfl
    · rw [aP (by omega),if_neg c];rfl
  · have hsd:=rI d x
    simp (disch:=omega) only [cM.l1,cM.b1,aO h1,aY,aH,hx,zS hk,aQ,aE]
    exact ih _ (by omega)
 have hmk:=wJ hk (l:=l) (e:=l.length) (by omega) (by omega) (by omega)
 rw [Int.toNat_natCast,List.take_length] at hmk
 have key:=Is (L:=fun n i (s:ab × Int × Int)=>cM.l0 k n l i [] 0 0 s.1 s.2.1 s.2.2) (R:=fun (q:bB) s=>some (jA l q (l.length-q.length) s.1 s.2.1 s.2.2,())) (Ty.z aD) l (fun i s=>F6 s.1 s.2.2) (fun n s hs=>?_) (fun n i s x rest h0 h1 hx hr hp ih=>?_) k 0 (g.1,(g.2.1,g.2.2.1)) (by omega) (by omega) (by omega) ⟨by simp only [];omega,fun _=>by simp only [];omega⟩
 · have e:l.drop (Int.toNat 0)=l:=rfl
   rw [e,Nat.sub_self] at key
   exact key
 · obtain ⟨d,last,code⟩:=s
   simp (disch:=omega) only [cM.l0,cM.b0,aP,aK,jA,hmk,aQ]
   cases c1:(code==0)
   · rfl
   · by_cases c2:(i6 l).length > 0
     · rw [aO (show ((i6 l).length:Int) > 0 by omega),aO c2];rfl
     · rw [aP (show ¬ ((i6 l).length:Int) > 0 by omega),aP c2];rfl
 · obtain ⟨d,last,code⟩:=s
   simp only [] at hp ih
   have hi:l.length-(x::rest).length=i.toNat:=by
    have:=congrArg List.length hr
    rw [List.length_drop] at this
    omega
   have hi2:l.length-rest.length=i.toNat+1:=by rw [lQ] at hi;have:=congrArg List.length hr;rw [List.length_drop,lQ] at this;omega
   have htk:(l.take i.toNat).length≤134217728:=by rw [List.length_take];omega
   have ih:=fun a b c h=>ih (a,(b,c)) h
   simp only [hi2] at ih
   rw [hi]
   simp (disch:=omega) only [cM.l0,cM.b0,aO h1,aY,aH,hx,aE,jA,hmk,aQ]
   by_cases c0:code=0
   case neg =>
    rw [show (code != 0)=true from bne_iff_ne.2 c0,show (code==0)=false from nw c0]
    rfl
   subst c0
   simp only [show ((0:Int) != 0)=false from rfl,show ((0:Int)==0)=true from rfl,aK,aY]
   by_cases c3:x.2.2.2.1.1=3
   · have b3:(x.2.2.2.1.1==3)=true:=by rw [c3];rfl
     have hlen:=rt x.2.2.2.1.2.1 (l.take i.toNat)
     simp only [b3,aY]
     rw [Gv hk _ h0 (by omega) (by omega),aQ]
     simp only []
     rw [vu hk _ (by omega),aQ]
     cases c:mG x.2.2.2.1 (lA x.2.2.2.1.2.1 (l.take i.toNat)) with
     | true =>
      simp only [ff,aY,aK]
      rw [inner _ i _ _ (by omega) hp.1 h0 (by omega)]
      exact ih _ _ _ (mq hp (by omega))
     | false =>
      simp only [qj,aY,aK]
      exact ih _ _ _ hp
   · have b3:(x.2.2.2.1.1==3)=false:=nw c3
     by_cases c5:x.2.2.2.1.1=5
     · have b5:(x.2.2.2.1.1==5)=true:=by rw [c5];rfl
       have hlen:=rT (l.take i.toNat)
       simp only [b3,b5,aY,aK]
       rw [wJ hk h0 (by omega) (by omega),aQ]
       simp only []
       rw [vu hk _ (by omega),aQ]
       cases c:mG x.2.2.2.1 (i6 (l.take i.toNat)) with
       | true =>
        simp only [ff,aY,aK]
        rw [inner _ i _ _ (by omega) hp.1 h0 (by omega)]
        exact ih _ _ _ (mq hp (by omega))
       | false =>
        simp only [qj,aY,aK]
        exact ih _ _ _ (xR hp)
     · have b5:(x.2.2.2.1.1==5)=false:=nw c5
       simp only [b3,b5,aY,aK]
       exact ih _ _ _ hp
theorem lJ (all:bB) (ha:all.length≤134217728):∀ (q:bB) (i:Nat) (d:ab) (last code:Int),F6 d code→(jA all q i d last code).1.length≤268435456
 | [],i,d,last,code,h=>by
  unfold jA
  cases code==0&&decide ((i6 all).length > 0) <;> exact h.1
 | p::q,i,d,last,code,h=>by
  have hs:=rt p.2.2.2.1.2.1 (all.take i)
  have hm:=rT (all.take i)
  have htk:(all.take i).length≤134217728:=by rw [List.length_take];omega
  unfold jA
  by_cases c0:code=0
  case neg=>rw [show (code != 0)=true from bne_iff_ne.2 c0];exact h.1
  subst c0
  simp only [show ((0:Int) != 0)=false from rfl,aK]
  cases p.2.2.2.1.1==3
  · cases p.2.2.2.1.1==5
    · exact lJ all ha q _ _ _ _ h
    · cases mG p.2.2.2.1 (i6 (all.take i))
      · exact lJ all ha q _ _ _ _ (xR h)
      · exact lJ all ha q _ _ _ _ (mq h (by omega))
  · cases mG p.2.2.2.1 (lA p.2.2.2.1.2.1 (all.take i))
    · exact lJ all ha q _ _ _ _ h
    · exact lJ all ha q _ _ _ _ (mq h (by omega))
theorem uJ {g:Ty.d gB} {l:bB} (hl:l.length≤134217728) (hd:g.1.length≤134217728):(kq g l).1.length≤268435456:=lJ l hl l 0 _ _ _ ⟨by omega,fun _=>hd⟩
theorem DN {lim lim':Int} (h:lim≤lim'):∀ (l:List Int) (p:Option Int),qs (nz lim) p l=true→qs (nz lim') p l=true
 | [],_,_=>rfl
 | x::l,p,q=>by
  simp only [qs,ke] at q ⊢
  refine ⟨?_,DN h l _ q.2⟩
  have q1:=q.1
  unfold nz at q1 ⊢
  rw [ke,decide_eq_true_eq] at q1 ⊢
  exact ⟨⟨q1.1.1,Int.le_trans q1.1.2 h⟩,q1.2⟩
theorem Dv {lim n:Int} (h1:1≤n) (h:lim<n):∀ (l:List Int) (p:Option Int),(∀ y,p=some y→y<n)→qs (nz lim) p l=true→qs (nz n) p (l++[n])=true
 | [],p,hp,_=>by
  simp only [List.nil_append,qs,Bool.and_true]
  unfold nz
  rw [ke,decide_eq_true_eq]
  refine ⟨⟨h1,Int.le_refl _⟩,?_⟩
  cases p with
  | none=>rfl
  | some y=>exact decide_eq_true (hp y rfl)
 | x::l,p,hp,q=>by
  simp only [qs,ke,List.cons_append] at q ⊢
  have q1:=q.1
  unfold nz at q1
  rw [ke,decide_eq_true_eq] at q1
  refine ⟨?_,Dv h1 h l _ (fun y e=>by cases e;exact Int.lt_of_le_of_lt q1.1.2 h) q.2⟩
  unfold nz
  rw [ke,decide_eq_true_eq]
  exact ⟨⟨q1.1.1,Int.le_of_lt (Int.lt_of_le_of_lt q1.1.2 h)⟩,q1.2⟩
theorem HV {n:Int} {ids:List Int} (h:dG (n,(ids,()))=true) (hn:n<100000):dG (n+1,(ids,()))=true:=by
 obtain ⟨g1,g2,_⟩:=dY h
 unfold dG at h ⊢
 simp only [ke,decide_eq_true_eq] at h ⊢
 rw [aE (n:=n+1-1) (by omega) (by omega)]
 rw [aE (n:=n-1) (by omega) (by omega)] at h
 exact ⟨⟨show (1:Int)≤n+1 by omega,show n+1≤(100000:Int) by omega⟩,h.2.1,DN (by omega) _ _ h.2.2⟩
theorem Ar {n:Int} {ids:List Int} (h:dG (n,(ids,()))=true) (hn:n<100000) (hl:ids.length<60):dG (n+1,(ids++[n],()))=true:=by
 obtain ⟨g1,g2,_⟩:=dY h
 unfold dG at h ⊢
 simp only [ke,decide_eq_true_eq] at h ⊢
 rw [aE (n:=n+1-1) (by omega) (by omega)]
 rw [aE (n:=n-1) (by omega) (by omega)] at h
 refine ⟨⟨show (1:Int)≤n+1 by omega,show n+1≤(100000:Int) by omega⟩,⟨?_,?_⟩,?_⟩
 · rw [xF,List.length_singleton];omega
 · rw [xF,List.length_singleton];omega
 · rw [show n+1-1=n by omega]
   exact Dv g1 (by omega) _ _ (fun y e=>by cases e) h.2.2
def jM (st:Ty.d aG):ByteArray:=aC aL (aa st.1.2.1)
theorem xd {st:Ty.d aG} (h:dG st.1=true):0≤aF ((st.1.2.1.length:Int)-1)∧aF ((st.1.2.1.length:Int)-1)<(st.1.2.1.length:Int)∧st.1.2.1.getD (aF ((st.1.2.1.length:Int)-1)).toNat (Ty.z (.int .i64))=aa st.1.2.1:=by
 obtain ⟨_,_,h1,h2,_⟩:=dY (nx:=st.1.1) (ids:=st.1.2.1) h
 rw [aE (n:=(st.1.2.1.length:Int)-1) (by omega) (by omega)]
 refine ⟨by omega,by omega,?_⟩
 unfold aa
 rw [show ((st.1.2.1.length:Int)-1).toNat=st.1.2.1.length-1 by omega]
 rfl
theorem pK {k:Nat} (hk:2 ^ 50≤k) {st:Ty.d aG} (h:dG st.1=true):dC.f k st=some (jM st,()):=by
 obtain ⟨h1,h2,h3⟩:=xd h
 unfold dC.f dC.t jM
 rw [aH h1 h2,h3,ba hk,aQ]
def tl (r:RD):RD:=(r.1,fj r.2)
theorem J2 (r:RD):((tl r).2 != 0)=(r.2 != 0):=by
 unfold tl bne
 rw [j7]
def Iu (st:Ty.d aG):Ty.d aG:=((st.1.1+1,st.1.2),st.2)
def s6 (st:Ty.d aG):Ty.d ay:=(st.1.1+1,(st.1.2.1++[st.1.1],()))
def Iw (st:Ty.d aG):Ty.d aG:=(s6 st,(st.2.1,(st.2.2.1,(0,st.2.2.2.2))))
def yV (nm:ByteArray) (r:RD):RD:=bif r.2==2 then ((eT [ia,nm] r.1).1,bif (eT [ia,nm] r.1).2==0 then 2 else fj (eT [ia,nm] r.1).2) else r
def pe (st:Ty.d aG) (d:Ty.d a_):Ty.d aG × RD :=
 bif decide ((st.1.2.1.length:Int)≥60) then (st,(d,5)) else bif decide (st.1.1≥100000) then (st,(d,5)) else
 bif (iv d (jM st)).2 != 0 then (st,tl (iv d (jM st))) else
 bif (dH (aC aL st.1.1) (iv d (jM st)).1).2 != 0 then (Iu st,tl (dH (aC aL st.1.1) (iv d (jM st)).1)) else
 bif (db (s6 st) (dH (aC aL st.1.1) (iv d (jM st)).1).1).2 != 0 then (Iu st,yV (aC aL st.1.1) (tl (db (s6 st) (dH (aC aL st.1.1) (iv d (jM st)).1).1)))
 else (Iw st,((db (s6 st) (dH (aC aL st.1.1) (iv d (jM st)).1).1).1,0))
structure SR (st:Ty.d aG) (r:RD) (B:Int):Prop where
 live:dG st.1=true
 disk:DR r.1
 lo:LE.le (α:=Int) 0 st.2.2.2.1
 hi:LE.le (α:=Int) st.2.2.2.1 B
theorem yS (n:Int):(aC aL n).size≤1000:=by
 unfold aC
 by_cases h:(1:Int)≤n∧n≤100000
 · rw [aO h,aY,ByteArray.size_append]
   have:=lm (n:=n) (by omega) (by omega)
   have:aL.size=3:=rfl
   omega
 · rw [aP h]
   exact Nat.zero_le _
theorem ES {k:Nat} (hk:2 ^ 50≤k) {st:Ty.d aG} {d:Ty.d a_} (hl:dG st.1=true) (hd:DR d):fo.f k st d=some ((pe st d).1,((pe st d).2.1,((pe st d).2.2,()))):=by
 obtain ⟨g1,g2,g3,g4,_⟩:=dY (nx:=st.1.1) (ids:=st.1.2.1) hl
 have hsz:=yS st.1.1
 unfold fo.f fo.t pe
 by_cases c1:(st.1.2.1.length:Int)≥60
 · rw [aO c1];rfl
 by_cases c2:st.1.1≥(100000:Int)
 · rw [aP c1,aO c2];rfl
 have c1':st.1.2.1.length<60:=by omega
 have c2':LT.lt (α:=Int) st.1.1 100000:=Int.not_le.1 c2
 rw [aP c1,aP c2]
 simp only [aK]
 rw [pK hk hl,aQ]
 simp only []
 rw [lq hk hd.sz,aQ]
 simp only []
 have h1:=nP hd (jM st)
 generalize iv d (jM st)=r1 at h1 ⊢
 cases c3:r1.2 != 0 with
 | true=>simp only [aY,dF,aQ,tl]
 | false =>
  simp only [aK]
  rw [ba hk,aQ]
  simp only []
  rw [nn hk h1 (by omega),aQ]
  simp only []
  have h2:=lb (aC aL st.1.1) _ h1
  generalize dH (aC aL st.1.1) r1.1=r2 at h2 ⊢
  have ew:aF (st.1.1+1)=st.1.1+1:=aE (by omega) (by omega)
  cases c4:r2.2 != 0 with
  | true=>simp only [aY,dF,aQ,tl,ew];rfl
  | false =>
   simp only [aK]
   rw [List.nil_append,bO (by omega) (by decide),bO (by omega) (by decide),ew,oU hk h2 (v:=(st.1.1+1,(st.1.2.1++[st.1.1],()))) (Ar hl c2' c1'),aQ]
   simp only []
   have h3:=oC (s6 st) _ h2
   rw [show ((st.1.1+1,(st.1.2.1++[st.1.1],())):Ty.d ay)=s6 st from rfl]
   generalize db (s6 st) r2.1=r3 at h3 ⊢
   have et:(fj r3.2 != 0)=(r3.2 != 0):=by unfold bne;rw [j7]
   cases c5:fj r3.2==2 with
   | true =>
    have e2:fj r3.2=2:=Gj c5
    have c6:(r3.2 != 0)=true:=by rw [← et,e2];rfl
    rw [c6]
    simp only [aY]
    rw [aQ,show (⟨#[116,101,109,112]⟩:ByteArray)=ia from rfl]
    simp only []
    rw [nh hk h3 (by simp),aQ]
    unfold yV
    rw [show (tl r3).2=fj r3.2 from rfl,c5,show (tl r3).1=r3.1 from rfl]
    simp only [aY,bne]
    generalize eT [ia,aC aL st.1.1] r3.1=r4
    cases c7:r4.2==0 with
    | true=>rw [e2];rfl
    | false=>simp only [qj,aY,aK,dF,aQ];rfl
   | false =>
    simp only [aK]
    rw [et]
    cases c6:r3.2 != 0 with
    | true =>
     simp only [aY]
     unfold yV
     rw [show (tl r3).2=fj r3.2 from rfl,c5]
     rfl
    | false=>rfl
theorem vP {st:Ty.d aG} {d:Ty.d a_} (hl:dG st.1=true) (hd:DR d):dG (pe st d).1.1=true∧DR (pe st d).2.1∧(pe st d).1.2.1=st.2.1∧((pe st d).1.2.2.2.1=st.2.2.2.1∨(pe st d).1.2.2.2.1=0):=by
 unfold pe
 by_cases c1:(st.1.2.1.length:Int)≥60
 · rw [aO c1];exact ⟨hl,hd,rfl,.inl rfl⟩
 by_cases c2:st.1.1≥(100000:Int)
 · rw [aP c1,aO c2];exact ⟨hl,hd,rfl,.inl rfl⟩
 have c1':st.1.2.1.length<60:=by omega
 have c2':LT.lt (α:=Int) st.1.1 100000:=Int.not_le.1 c2
 have hn:dG (Iu st).1=true:=HV (ids:=st.1.2.1) hl c2'
 have hg:dG (Iw st).1=true:=Ar hl c2' c1'
 have h1:=nP hd (jM st)
 have h2:=lb (aC aL st.1.1) _ h1
 have h3:=oC (s6 st) _ h2
 rw [aP c1,aP c2]
 simp only [aK]
 generalize iv d (jM st)=r1 at h1 h2 h3 ⊢
 generalize dH (aC aL st.1.1) r1.1=r2 at h2 h3 ⊢
 generalize db (s6 st) r2.1=r3 at h3 ⊢
 cases r1.2 != 0 with
 | true=>exact ⟨hl,h1,rfl,.inl rfl⟩
 | false =>
  cases r2.2 != 0 with
  | true=>exact ⟨hn,h2,rfl,.inl rfl⟩
  | false =>
   cases r3.2 != 0 with
   | true =>
    refine ⟨hn,?_,rfl,.inl rfl⟩
    simp only [aY,aK]
    unfold yV
    cases (tl r3).2==2 with
    | true=>exact n9 _ _ h3
    | false=>exact h3
   | false=>exact ⟨hg,h3,rfl,.inr rfl⟩
def CF:Ty.d aD:=(0,(0,(0,((0,(0,(ByteArray.empty,(ByteArray.empty,(0,(0,())))))),()))))
def LK (st:Ty.d aG) (n:Int):Ty.d aG:=(st.1,(st.2.1,(st.2.2.1,(n,st.2.2.2.2))))
def qb (st:Ty.d aG) (d:Ty.d a_) (r:Ty.d bP):(Ty.d aG × RD) × Ty.d aD :=
 bif (jI d (jM st) (aj (aU r))).2 != 0 then ((st,tl (jI d (jM st) (aj (aU r)))),CF)
 else ((LK st (st.2.2.2.1+dP r),((jI d (jM st) (aj (aU r))).1,0)),(aa st.1.2.1,(st.2.2.2.1,(dP r,(r,())))))
def kK (st:Ty.d aG) (d:Ty.d a_) (r:Ty.d bP):(Ty.d aG × RD) × Ty.d aD :=
 bif decide (st.2.2.2.1 > 0)&&decide (st.2.2.2.1+dP r > 200) then
  (bif (pe st d).2.2 != 0 then (pe st d,CF) else qb (pe st d).1 (pe st d).2.1 r)
 else qb st d r
def zW (p:Ty.d aD):Ty.d bP:=p.2.2.2.1
theorem AH {st:Ty.d aG} {d:Ty.d a_} (hl:dG st.1=true) (hd:DR d) {B:Int} (h0:LE.le (α:=Int) 0 st.2.2.2.1) (h1:LE.le (α:=Int) st.2.2.2.1 B) (r:Ty.d bP) :
 SR (qb st d r).1.1 (qb st d r).1.2 (B+211)∧(qb st d r).1.1.2.1=st.2.1∧((qb st d r).1.2.2=0→zW (qb st d r).2=r):=by
 have hr:=me r
 have ha:=pJ hd (jM st) (aj (aU r))
 unfold qb
 generalize jI d (jM st) (aj (aU r))=a at ha ⊢
 cases c:a.2 != 0 with
 | true =>
  refine ⟨⟨hl,ha,h0,?_⟩,rfl,fun e=>?_⟩
  · show LE.le (α:=Int) st.2.2.2.1 (B+211)
    omega
  · have e:(tl a).2=0:=e
    have q:=J2 a
    rw [e,c] at q
    cases q
 | false =>
  refine ⟨⟨hl,ha,?_,?_⟩,rfl,fun e=>rfl⟩
  · show LE.le (α:=Int) 0 (st.2.2.2.1+dP r)
    omega
  · show LE.le (α:=Int) (st.2.2.2.1+dP r) (B+211)
    omega
theorem sT {st:Ty.d aG} {d:Ty.d a_} {B:Int} (h:SR st (d,0) B) (hB:0≤B) (r:Ty.d bP) :
 SR (kK st d r).1.1 (kK st d r).1.2 (B+211)∧(kK st d r).1.1.2.1=st.2.1∧((kK st d r).1.2.2=0→zW (kK st d r).2=r):=by
 obtain ⟨hl,hd,h0,h1⟩:=h
 unfold kK
 cases decide (st.2.2.2.1 > 0)&&decide (st.2.2.2.1+dP r > 200) with
 | false=>exact AH hl hd h0 h1 r
 | true =>
  obtain ⟨g1,g2,g3,g4⟩:=vP hl hd
  generalize pe st d=q at g1 g2 g3 g4 ⊢
  have s0:LE.le (α:=Int) 0 q.1.2.2.2.1:=by rcases g4 with e | e <;> rw [e];exact h0;exact Int.le_refl _
  have s1:LE.le (α:=Int) q.1.2.2.2.1 B:=by rcases g4 with e | e <;> rw [e];exact h1;exact hB
  cases c:q.2.2 != 0 with
  | true =>
   refine ⟨⟨g1,g2,s0,?_⟩,g3,fun e=>?_⟩
   · show LE.le (α:=Int) q.1.2.2.2.1 (B+211)
     omega
   · have e:q.2.2=0:=e
     rw [e] at c
     cases c
  | false =>
   obtain ⟨k1,k2,k3⟩:=AH g1 g2 s0 s1 r
   exact ⟨k1,k2.trans g3,k3⟩
theorem yc {k:Nat} (hk:2 ^ 50≤k) {st:Ty.d aG} {d:Ty.d a_} (hl:dG st.1=true) (hd:DR d) (r:Ty.d bP) (h0:LE.le (α:=Int) 0 st.2.2.2.1) (h1:LE.le (α:=Int) st.2.2.2.1 1099511627776) :
 (((dC.f k st).bind fun r4=>((cQ.f k d r4.1 (aj (aU r))).bind fun r5=>(bif (r5.2.1 != 0) then ((aX.f k r5.2.1).bind fun r6=>(some (st,(r5.1,(CF,r6)))))
  else (bW (aF ((List.length st.1.2.1:Int)-1)) (List.length st.1.2.1:Int) (some ((st.1,(st.2.1,(st.2.2.1,((aF (st.2.2.2.1+(ByteArray.size (aj (aU r)):Int))),st.2.2.2.2)))),(r5.1,(((List.getD st.1.2.1 (Int.toNat (aF ((List.length st.1.2.1:Int)-1))) (Ty.z (.int .i64))),(st.2.2.2.1,((ByteArray.size (aj (aU r)):Int),(r,())))),(0,()))))))))):eX.Rs) =
 some ((qb st d r).1.1,((qb st d r).1.2.1,((qb st d r).2,((qb st d r).1.2.2,())))):=by
 obtain ⟨g1,g2,g3⟩:=xd hl
 have hr:=me r
 have hz:((aj (aU r)).size:Int)=dP r:=rfl
 rw [pK hk hl,aQ]
 simp only []
 rw [oI hk hd.sz (jM st) (t:=aj (aU r)) (by omega),aQ]
 unfold qb
 simp only []
 generalize jI d (jM st) (aj (aU r))=a
 cases c:a.2 != 0 with
 | true=>simp only [aY,dF,aQ];rfl
 | false =>
  simp only [aK]
  rw [aH g1 g2,g3,hz,aE (by omega) (by omega)]
  rfl
theorem zM {k:Nat} (hk:2 ^ 50≤k) {st:Ty.d aG} {d:Ty.d a_} {B:Int} (h:SR st (d,0) B) (hB:0≤B) (hB':B≤1000000000) (r:Ty.d bP) :
 eX.f k st d r=some ((kK st d r).1.1,((kK st d r).1.2.1,((kK st d r).2,((kK st d r).1.2.2,())))):=by
 obtain ⟨hl,hd,h0,h1⟩:=h
 have hr:=me r
 have hz:((aj (aU r)).size:Int)=dP r:=rfl
 have own:=yc (d:=d) hk hl hd r h0 (by omega)
 rw [hz,aE (n:=st.2.2.2.1+dP r) (by omega) (by omega)] at own
 unfold eX.f eX.t
 rw [cR hk,aQ]
 simp only []
 rw [jP hk,aQ]
 simp only []
 rw [hz,aE (n:=st.2.2.2.1+dP r) (by omega) (by omega)]
 unfold kK
 by_cases c1:LT.lt (α:=Int) 0 st.2.2.2.1
 · rw [aO (show st.2.2.2.1 > 0 from c1),Bool.true_and,aY]
   by_cases c2:LT.lt (α:=Int) 200 (st.2.2.2.1+dP r)
   · rw [aO (show st.2.2.2.1+dP r > 200 from c2),aY,aY,ES hk hl hd,aQ]
     simp only []
     obtain ⟨g1,g2,g3,g4⟩:=vP hl hd
     generalize pe st d=q at g1 g2 g3 g4 ⊢
     cases c:q.2.2 != 0 with
     | true=>rfl
     | false =>
      have s0:LE.le (α:=Int) 0 q.1.2.2.2.1:=by rcases g4 with e | e <;> rw [e];exact h0;exact Int.le_refl _
      have s1:LE.le (α:=Int) q.1.2.2.2.1 B:=by rcases g4 with e | e <;> rw [e];exact h1;exact hB
      exact yc hk g1 g2 r s0 (by omega)
   · rw [aP (show ¬ st.2.2.2.1+dP r > 200 from c2),aK,aK]
     exact own
 · rw [aP (show ¬ st.2.2.2.1 > 0 from c1),Bool.false_and,aK]
   exact own
def fT (d:Ty.d a_) (s:ByteArray):Option ByteArray:=(ax d.1 s).map (·.2.1)
theorem BC:∀ {l:aW} {f:Ty.d aB} {t:ByteArray},ax l f.1=none→ax (gh l f) t=bif seq f.1 t then some f else ax l t
 | [],f,t,_=>rfl
 | g::l,f,t,h=>by
  unfold ax at h
  cases c:seq g.1 f.1 with
  | true=>rw [c] at h;cases h
  | false =>
   rw [c,aK] at h
   unfold gh
   cases nO f.1 g.1 with
   | true=>rfl
   | false =>
    simp only [aK]
    rw [ax.eq_2,BC h,ax.eq_2]
    by_cases q:f.1=t
    · rw [q] at c ⊢
      rw [c,cF]
      rfl
    · rw [lW q]
      rfl
theorem Cf {l:aW} {f:Ty.d aB} {t:ByteArray} (h:f.1≠t):ax (gh l f) t=ax l t:=by
 induction l with
 | nil=>unfold gh;rw [ax.eq_2,lW h];rfl
 | cons g l ih =>
  unfold gh
  cases nO f.1 g.1 with
  | true=>rw [aY,ax.eq_2,lW h,aK]
  | false=>rw [aK,ax.eq_2,ih,ax.eq_2]
theorem uT {d:Ty.d a_} {g:aW→Int→aW × Int} {t:ByteArray} (h:∀ l c,(ax (g l c).1 t).map (·.2.1)=(ax l t).map (·.2.1)):fT (gA d g).1 t=fT d t:=by
 unfold gA fT
 cases (jf d).2 != 0 with
 | true=>rw [aY,mY]
 | false=>exact h d.1 d.2.1
theorem Lt {d:Ty.d a_} {s t:ByteArray} (h:s≠t):fT (pQ d s).1 t=fT d t:=uT fun l c=>by
 unfold sa
 cases !jk s with
 | true=>rfl
 | false =>
  cases (ax l s).isSome with
  | true=>rfl
  | false =>
   cases decide ((l.length:Int)≥130) with
   | true=>rfl
   | false =>
    show (ax (gh l (s,(ByteArray.empty,(0,())))) t).map _=_
    rw [Cf (f:=(s,(ByteArray.empty,(0,())))) h]
theorem Ec {d:Ty.d a_} {s t x:ByteArray} (h:s≠t):fT (jI d s x).1 t=fT d t:=uT fun l c=>by
 unfold wg
 cases (ax l s).isNone with
 | true=>rfl
 | false =>
  cases decide ((x.size:Int) > aF (c-(cO l:Int))) with
  | true=>rfl
  | false =>
   show (ax (fH (fun f=>(f.1,(f.2.1++x,f.2.2))) l s) t).map _=_
   rw [ob (h:=fun f:Ty.d aB=>(f.1,(f.2.1++x,f.2.2))) (fun f=>rfl),lW (fun q=>h q.symm)]
   rfl
theorem vO {d:Ty.d a_} {s t:ByteArray}:fT (iv d s).1 t=fT d t:=uT fun l c=>by
 unfold tI
 cases (ax l s).isNone with
 | true=>rfl
 | false =>
  show (ax (fH (fun f=>(f.1,(f.2.1,((f.2.1.size:Int),f.2.2.2)))) l s) t).map _=_
  rw [ob (h:=fun f:Ty.d aB=>(f.1,(f.2.1,((f.2.1.size:Int),f.2.2.2)))) (fun f=>rfl)]
  by_cases q:t=s
  · rw [q,cF]
    cases ax l s <;> rfl
  · rw [lW q]
    rfl
theorem LW {d:Ty.d a_} {s t:ByteArray} (h:s≠t):fT (se d s).1 t=fT d t:=uT fun l c=>by
 unfold ul
 cases (ax l s).isNone with
 | true=>rfl
 | false =>
  show (ax (gm l s) t).map _=_
  rw [wy (fun q=>h q.symm)]
theorem La {d:Ty.d a_} {a b t:ByteArray} (h1:a≠t) (h2:b≠t):fT (tE d a b).1 t=fT d t:=uT fun l c=>by
 unfold uz
 cases !jk b with
 | true=>rfl
 | false =>
  simp only [aK]
  cases ax l a with
  | none=>rfl
  | some f =>
   cases seq a b with
   | true=>rfl
   | false =>
    show (ax (gh (gm (gm l a) b) (b,f.2)) t).map _=_
    rw [Cf (f:=(b,f.2)) h2,wy (fun q=>h2 q.symm),wy (fun q=>h1 q.symm)]
theorem B_ {d:Ty.d a_} {s x:ByteArray}:fT (jI d s x).1 s=bif (jI d s x).2==0 then (fT d s).map (·++x) else fT d s:=by
 unfold jI gA fT
 cases c:(jf d).2 != 0 with
 | true =>
  rw [aY,mY]
  have:((jf d).2==0)=false:=by unfold bne at c;simpa using c
  rw [this]
  rfl
 | false =>
  simp only [aK]
  unfold wg
  cases c1:ax d.1 s with
  | none=>simp only [Option.isNone_none,aY];rw [c1];rfl
  | some f =>
   simp only [Option.isNone_some,aK]
   cases decide ((x.size:Int) > aF (d.2.1-(cO d.1:Int))) with
   | true=>simp only [aY];rw [c1];rfl
   | false =>
    simp only [aK]
    rw [ob (h:=fun f:Ty.d aB=>(f.1,(f.2.1++x,f.2.2))) (fun f=>rfl),cF,c1]
    rfl
theorem p0 {r:RD} {f:Ty.d a_→RD} {t:ByteArray} {x:Option ByteArray} (h1:fT r.1 t=x) (h2:∀ y,fT (f y).1 t=fT y t):fT (gD r f).1 t=x:=by
 unfold gD
 cases r.2==0 with
 | true=>exact (h2 _).trans h1
 | false=>exact h1
theorem GX {d:Ty.d a_} {s t:ByteArray} (h:s≠t):fT (kJ s d).1 t=fT d t:=by
 unfold kJ
 cases (ax d.1 s).isSome with
 | true=>exact LW h
 | false=>rfl
theorem rA {d:Ty.d a_} {s t:ByteArray} (h:s≠t):fT (dH s d).1 t=fT d t:=p0 (GX h) fun y=>Lt h
theorem C_ {d:Ty.d a_} {s t x:ByteArray} (h:s≠t):fT (m3 s x d).1 t=fT d t:=p0 (p0 (rA h) fun y=>Ec h) fun y=>vO
theorem qL {d:Ty.d a_} {v:Ty.d ay} {t:ByteArray} (h1:ia≠t) (h2:d_≠t):fT (db v d).1 t=fT d t:=p0 (C_ h1) fun y=>La h1 h2
theorem rH {t:ByteArray}:∀ (l:List ByteArray) (d:Ty.d a_),(∀ s ∈ l,s≠t)→fT (eT l d).1 t=fT d t
 | [],_,_=>rfl
 | s::l,d,h=>by
  show fT (gD (kJ s d) (eT l)).1 t=_
  exact p0 (GX (h s oh)) fun y=>rH l y fun q hq=>h q (qu _ hq)
def kH:nF→Ty.d aG→Ty.d a_→bB→(Ty.d aG × RD) × bB
 | [],st,d,ps=>((st,(d,0)),ps)
 | r::l,st,d,ps=>bif (kK st d r).1.2.2 != 0 then ((kK st d r).1,ps) else kH l (kK st d r).1.1 (kK st d r).1.2.1 (ps++[(kK st d r).2])
def Mz (st:Ty.d aG) (dir:ab):Ty.d aG:=(st.1,(dir,st.2.2))
def wL (n:Nat) (q:(Ty.d aG × RD) × bB):Ty.d aG × RD :=
 bif q.1.2.2 != 0 then q.1 else bif (iv q.1.2.1 (jM q.1.1)).2 != 0 then (q.1.1,tl (iv q.1.2.1 (jM q.1.1))) else (Mz q.1.1 (eY q.1.1.2.1 (q.2.take n)),((iv q.1.2.1 (jM q.1.1)).1,0))
def Br (st:Ty.d aG):Ty.d aG:=(st.1,(st.2.1,(st.2.2.1+1,st.2.2.2)))
def oM (st:Ty.d aG) (d:Ty.d a_) (l:sk):Ty.d aG × RD:=wL l.length (kH (yk l st.2.2.1) (Br st) d [])
theorem tT:∀ (l:nF) (st:Ty.d aG) (d:Ty.d a_) (ps:bB) (B:Int),SR st (d,0) B→0≤B →
 SR (kH l st d ps).1.1 (kH l st d ps).1.2 (B+211*(l.length:Int))∧(kH l st d ps).1.1.2.1=st.2.1∧((kH l st d ps).1.2.2=0→(kH l st d ps).2.map zW=ps.map zW++l)
 | [],st,d,ps,B,h,_=>⟨⟨h.live,h.disk,h.lo,by have:=h.hi;show LE.le (α:=Int) st.2.2.2.1 _;rw [List.length_nil];omega⟩,rfl,fun _=>(List.append_nil _).symm⟩
 | r::l,st,d,ps,B,h,hB=>by
  obtain ⟨g1,g2,g3⟩:=sT h hB r
  unfold kH
  have el:((r::l).length:Int)=(l.length:Int)+1:=by rw [lQ];omega
  cases c:(kK st d r).1.2.2 != 0 with
  | true =>
   refine ⟨⟨g1.live,g1.disk,g1.lo,?_⟩,g2,fun e=>?_⟩
   · have:=g1.hi
     show LE.le (α:=Int) (kK st d r).1.1.2.2.2.1 _
     omega
   · have e:(kK st d r).1.2.2=0:=e
     rw [e] at c
     cases c
  | false =>
   have e0:(kK st d r).1.2.2=0:=by unfold bne at c;simpa using c
   obtain ⟨k1,k2,k3⟩:=tT l (kK st d r).1.1 (kK st d r).1.2.1 (ps++[(kK st d r).2]) (B+211) ⟨g1.live,g1.disk,g1.lo,g1.hi⟩ (by omega)
   refine ⟨⟨k1.live,k1.disk,k1.lo,?_⟩,k2.trans g2,fun e=>?_⟩
   · have:=k1.hi
     show LE.le (α:=Int) (kH l (kK st d r).1.1 (kK st d r).1.2.1 (ps++[(kK st d r).2])).1.1.2.2.2.1 _
     omega
   · have:=k3 e
     show (kH l (kK st d r).1.1 (kK st d r).1.2.1 (ps++[(kK st d r).2])).2.map zW=_
     rw [this,List.map_append,List.map_singleton,g3 e0,s7]
     rfl
def LZ:ab→sk→ab→ab
 | dir,[],_=>dir
 | dir,_::_,[]=>dir
 | dir,p::l,e::es=>LZ (bif p.2.1 then je dir p.1 else vE dir e) l es
def JL (p:Ty.d gZ):Ty.d aA:=(p.1,(0,(0,(0,(0,())))))
def tc (dir:ab) (l:sk):Int:=((LZ dir l (l.map JL)).length:Int)
theorem Jh (l:ab) (e:Ty.d aA):(vE l e).length≤l.length+1:=by
 unfold vE
 rw [Dq]
 have:=pn l e.1
 omega
theorem BO {k:Nat} (hk:2 ^ 50≤k) {dir:ab} (hd:dir.length≤536870912) {l:sk} (hl:l.length≤1000):dI.f k dir l=some (tc dir l,()):=by
 have key:∀ (n:Nat) (i:Int) (s:ab),0≤i→i≤(l.length:Int)→(l.length:Int)-i<n→(s.length:Int)≤536870912+i→dI.l1 k n l i s=some (tc s (l.drop i.toNat),()):=fun n i s h0 h1 h2 hs=>by
  refine Is (L:=fun n i (s:ab)=>dI.l1 k n l i s) (R:=fun r s=>some (tc s r,())) (Ty.z gZ) l (fun i s=>(s.length:Int)≤536870912+i) (fun n s hs=>?_) (fun n i s x rest h0 h1 hx hr hp ih=>?_) n i s h0 h1 h2 hs
  · simp (disch:=omega) only [dI.l1,dI.b1,aP,aK]
    rfl
  · simp only [dI.l1,dI.b1]
    rw [aO h1,aY,aH h0 h1,hx,aE (n:=i+1) (by omega) (by omega)]
    unfold tc
    simp only [List.map_cons,LZ]
    cases c:x.2.1 with
    | true =>
     have:=pn s x.1
     simp only [aY]
     rw [aH h0 h1,ry hk x.1 (by omega),aQ]
     exact ih (je s x.1) (by omega)
    | false =>
     have:=Jh s (JL x)
     have e:=pD hk (l:=s) (JL x) (by omega)
     unfold JL at e
     simp only [aK]
     rw [aH h0 h1,e,aQ]
     exact ih (vE s (JL x)) (by omega)
 obtain ⟨q,hq⟩:∃ q,k=q+1:=⟨k-1,by omega⟩
 have k1:=key (q+1) 0 dir (by omega) (by omega) (by omega) (by omega)
 unfold dI.f dI.t
 rw [show l.drop (0:Int).toNat=l from rfl] at k1
 refine Eq.trans ?_ k1
 rw [show dI.l0 k k=dI.l0 k (q+1) by rw [← hq]]
 rfl
theorem FK (dir:ab) (ps:bB) (p:Ty.d aD):eY dir (ps++[p])=ji (eY dir ps) p:=by
 unfold eY
 rw [List.foldl_append]
 rfl
theorem qQ {c:Int} (h:(c != 0)=false):c=0:=by unfold bne at h;simpa using h
theorem Bd {k:Nat} (hk:2 ^ 50≤k) {st:Ty.d aG} {d:Ty.d a_} {l:sk} (h:SR st (d,0) 100000) (hb0:LE.le (α:=Int) 0 st.2.2.1) (hb:LE.le (α:=Int) st.2.2.1 1000000) (hp:nT l=true) (hd:st.2.1.length≤20) :
 bf.f k st d l=some ((oM st d l).1,((oM st d l).2.1,((oM st d l).2.2,()))):=by
 have hl:=tR hp
 unfold bf.f bf.t oM yk
 rw [bO (by omega) (by decide),List.nil_append,aE (n:=st.2.2.1+1) (by omega) (by omega)]
 generalize hbe:st.2.2.1=b at *
 rw [show Br st=((st.1,(st.2.1,(b+1,st.2.2.2))):Ty.d aG) from by unfold Br;rw [hbe]]
 refine eV (L:=fun n i (s:(Ty.d aG × Ty.d a_) × bB)=>bf.l0 k n b i l s.1.1.1.2.1 s.1.1.2.1 s.1.1.1.1 s.1.1.2.2.1 s.1.1.2.2.2.1 s.1.1.2.2.2.2.1 s.1.2.1 s.1.2.2.1 s.1.2.2.2.1 s.1.2.2.2.2.1 [] [] 0 0 0 0 [] 0 0 false (s.2.map zW) (eY s.1.1.2.1 s.2))
  (R:=fun r s=>(some ((wL l.length (kH (r.map (nd b)++[jS 3 b (l.map (nd b))]) s.1.1 s.1.2 s.2)).1,((wL l.length (kH (r.map (nd b)++[jS 3 b (l.map (nd b))]) s.1.1 s.1.2 s.2)).2.1,((wL l.length (kH (r.map (nd b)++[jS 3 b (l.map (nd b))]) s.1.1 s.1.2 s.2)).2.2,()))):bf.Rs))
  (Ty.z gZ) l (fun i s=>SR s.1.1 (s.1.2,0) (100000+211*i)∧s.2.map zW=(l.take i.toNat).map (nd b)∧s.1.1.2.1.length≤20) (fun n s hs=>?_) (fun n i s x rest h0 h1 hx hr hs ih=>?_) (n:=k) (s:=(((((st.1,(st.2.1,(b+1,st.2.2.2))):Ty.d aG)),d),[])) (by omega) ⟨⟨h.live,h.disk,h.lo,Int.le_trans h.hi (by decide)⟩,rfl,hd⟩
 · obtain ⟨⟨st',d'⟩,ps⟩:=s
   obtain ⟨g1,g2,g3⟩:=hs
   simp only [] at g1 g2 g3 ⊢
   rw [Int.toNat_natCast,List.take_length] at g2
   have hps:ps.length=l.length:=by simpa using congrArg List.length g2
   simp only [bf.l0,bf.b0]
   rw [aP (by omega),aK,g2,nK hk (by rw [List.length_map];omega),aQ]
   simp only []
   rw [show ((st'.1.1,(st'.1.2.1,())),(st'.2.1,(st'.2.2.1,(st'.2.2.2.1,(st'.2.2.2.2.1,())))))=st' from rfl,show (d'.1,(d'.2.1,(d'.2.2.1,(d'.2.2.2.1,()))))=d' from rfl,
    zM hk g1 (by omega) (by omega),aQ]
   simp only [List.map_nil,List.nil_append,kH]
   obtain ⟨k1,k2,_⟩:=sT g1 (by omega) (jS 3 b (l.map (nd b)))
   generalize kK st' d' (jS 3 b (l.map (nd b)))=q at k1 k2 ⊢
   cases c:q.1.2.2 != 0 with
   | true =>
    simp only [aY]
    unfold wL
    simp only [c,aY]
   | false =>
    simp only [aK]
    rw [pK hk k1.live,aQ]
    simp only []
    rw [lq hk (DR.sz k1.disk),aQ]
    unfold wL
    simp only [show ((0:Int) != 0)=false from rfl,aK]
    generalize iv q.1.2.1 (jM q.1.1)=y
    cases c2:y.2 != 0 with
    | true=>simp only [aY,dF,aQ];rfl
    | false =>
     simp only [aK]
     rw [k2,List.take_append_of_le_length (by omega),List.take_of_length_le (by omega)]
     rfl
 · obtain ⟨⟨st',d'⟩,ps⟩:=s
   obtain ⟨g1,g2,g3⟩:=hs
   simp only [] at g1 g2 g3 ih ⊢
   have hi:i.toNat<l.length:=by omega
   have hm:x ∈ l:=List.mem_of_mem_drop (i:=i.toNat) (by rw [hr];exact oh)
   have e:=Hn b (FJ hp hm)
   have et:l.take (i+1).toNat=l.take i.toNat++[x]:=by
    rw [show (i+1).toNat=i.toNat+1 by omega,List.take_succ_eq_append_getElem hi]
    congr 2
    rw [← hx]
    simp [List.getD,hi]
   have hps:ps.length≤l.length:=by
    have:=congrArg List.length g2
    rw [List.length_map,List.length_map,List.length_take] at this
    omega
   obtain ⟨k1,k2,k3⟩:=sT g1 (by omega) (nd b x)
   have body:((eX.f k st' d' (nd b x)).bind fun r1=>(bif (r1.2.2.2.1 != 0) then (some (r1.1,(r1.2.1,r1.2.2.2))) else ((iR.f k (eY st'.2.1 ps) r1.2.2.1).bind fun r2=>(rm (Ty.bytes bP) (List.length (ps.map zW)+1)
    (bf.l0 k n b (aF (i+1)) l r1.1.1.2.1 r1.1.2.1 r1.1.1.1 r1.1.2.2.1 r1.1.2.2.2.1 r1.1.2.2.2.2.1 r1.2.1.1 r1.2.1.2.1 r1.2.1.2.2.1 r1.2.1.2.2.2.1 [] [] 0 0 0 0 [] 0 0 false (ps.map zW++[nd b x]) r2.1))))) =
    (some ((wL l.length (kH ((x::rest).map (nd b)++[jS 3 b (l.map (nd b))]) st' d' ps)).1,((wL l.length (kH ((x::rest).map (nd b)++[jS 3 b (l.map (nd b))]) st' d' ps)).2.1,((wL l.length (kH ((x::rest).map (nd b)++[jS 3 b (l.map (nd b))]) st' d' ps)).2.2,()))):bf.Rs):=by
    rw [zM hk g1 (by omega) (by omega),aQ]
    simp only [List.map_cons,List.cons_append,kH]
    have hk1:=k1.hi
    generalize kK st' d' (nd b x)=q at k1 k2 k3 hk1 ⊢
    cases c:q.1.2.2 != 0 with
    | true =>
     simp only [aY]
     unfold wL
     simp only [c,aY]
    | false =>
     simp only [aK]
     have hal:=qJ ps st'.2.1
     rw [zS hk q.2 (by omega),aQ,bO (by rw [List.length_map];omega) (by decide),aE (n:=i+1) (by omega) (by omega)]
     have q3:=k3 (qQ c)
     have e1:(ps++[q.2]).map zW=ps.map zW++[nd b x]:=by rw [List.map_append,List.map_singleton,q3]
     have e2:eY q.1.1.2.1 (ps++[q.2])=ji (eY st'.2.1 ps) q.2:=by rw [k2,FK]
     have ih:=ih ((q.1.1,q.1.2.1),ps++[q.2]) ⟨⟨k1.live,k1.disk,k1.lo,by show LE.le (α:=Int) q.1.1.2.2.2.1 _;omega⟩,by simp only [];rw [e1,g2,et,List.map_append];rfl,by simp only [];rw [k2];exact g3⟩
     simp only [] at ih
     rw [e1,e2] at ih
     exact ih
   simp only [bf.l0,bf.b0]
   rw [aO h1,aY,aH h0 h1,aH h0 h1,aH h0 h1,hx]
   rw [show ((st'.1.1,(st'.1.2.1,())),(st'.2.1,(st'.2.2.1,(st'.2.2.2.1,(st'.2.2.2.2.1,())))))=st' from rfl,show (d'.1,(d'.2.1,(d'.2.2.1,(d'.2.2.2.1,()))))=d' from rfl]
   cases c:x.2.1 with
   | true =>
    rw [c,aY] at e
    simp only [aY]
    rw [← e]
    exact body
   | false =>
    rw [c,aK] at e
    simp only [aK]
    rw [← e]
    exact body
noncomputable def lg (st:Ty.d aG) (d:Ty.d a_) (l:sk):Ty.d aG × RD :=
 bif !mX st d then (st,(d,4)) else bif !nT l then (st,(d,4)) else bif (l.length:Int)==0 then (st,(d,0)) else bif decide (tc st.2.1 l > 20) then (st,(d,5)) else
 bif decide (st.2.2.1 > 1000000) then (st,(d,5)) else oM st d l
theorem Av {d:Ty.d a_} {tail:Int}:∀ {l:List Int},l≠[]→rF d tail l=true→∃ x,tail=((ae d (aC aL x)).1.size:Int)
 | [],h,_=>absurd rfl h
 | [x],_,h=>by
  unfold rF Ie at h
  simp only [ke,List.isEmpty_nil,ff,Bool.false_or] at h
  exact ⟨x,Gj h.1.2.2⟩
 | x::y::l,_,h=>by
  unfold rF at h
  rw [ke] at h
  exact Av (by intro q;cases q) h.2
theorem nE {st:Ty.d aG} {d:Ty.d a_} (h:mX st d=true):SR st (d,0) 100000∧st.2.1.length≤20∧LE.le (α:=Int) 1 st.2.2.1:=by
 unfold mX rq at h
 simp only [ke,decide_eq_true_eq] at h
 obtain ⟨h1,h2,⟨h3,_⟩,h4,h5,_⟩:=h
 obtain ⟨_,_,g1,_,_⟩:=dY (nx:=st.1.1) (ids:=st.1.2.1) h2
 have hd:=dO.1 h1
 obtain ⟨x,hx⟩:=Av (by intro q;rw [q] at g1;simp at g1) h5
 have hs:=iS d (aC aL x)
 have hu:=hd.use
 have hc:=hd.cap1
 refine ⟨⟨h2,hd,?_,?_⟩,by omega,h4.1⟩
 · show LE.le (α:=Int) 0 st.2.2.2.1
   rw [hx]
   omega
 · show LE.le (α:=Int) st.2.2.2.1 100000
   rw [hx]
   have:LE.le (α:=Int) (cO d.1) 100000:=Int.le_trans hu hc
   omega
theorem zy {k:Nat} (hk:2 ^ 50≤k) {st:Ty.d aG} {d:Ty.d a_} (hd:p6 d) (h1:st.1.2.1.length≤1073741824) (h2:st.2.1.length≤536870912) {l:sk} (hl:l.length≤1073741824) :
 gU.f k st d l=some ((lg st d l).1,((lg st d l).2.1,((lg st d l).2.2,()))):=by
 have ec:fb.f k st=some (st,()):=by
  unfold fb.f fb.t
  rw [bO (by omega) (by decide),bO (by omega) (by decide),List.nil_append,List.nil_append]
 unfold gU.f gU.t lg
 rw [ec,aQ]
 simp only []
 rw [kD k hd,aQ]
 simp only []
 rw [uY hk hd,aQ]
 simp only []
 cases c1:mX st d with
 | false=>rfl
 | true =>
  simp only [ff,aK]
  rw [zq hk,aQ]
  simp only []
  cases c2:nT l with
  | false=>rfl
  | true =>
   have h8:=tR c2
   obtain ⟨g1,g2,g3⟩:=nE c1
   simp only [ff,aK]
   cases c3:(l.length:Int)==0 with
   | true=>rfl
   | false =>
    simp only [aK]
    rw [BO hk (by omega) (by omega),aQ]
    simp only []
    cases c4:decide (tc st.2.1 l > 20) with
    | true=>rfl
    | false =>
     simp only [aK]
     by_cases c5:st.2.2.1 > (1000000:Int)
     · rw [aO c5];rfl
     · rw [aP c5]
       simp only [aK]
       rw [Bd hk g1 (Int.le_trans (by decide) g3) (Int.not_lt.1 c5) c2 g2,aQ]
theorem rU {p:ByteArray} (hp:p=aL∨p=bp) {n:Int} (h0:1≤n) (h1:n≤100000):CM (aC p n)=(n,true):=by
 have e:aC p n=p++g_ n:=by unfold aC;rw [aO ⟨h0,h1⟩];rfl
 have hn:JY (p++g_ n) n:=⟨h0,h1,by rcases hp with q | q <;> rw [q] <;> simp⟩
 rw [e]
 rcases iU (JY (p++g_ n)) (fun _=>p++g_ n) (0:Int) (p++g_ n) with ⟨r,g1,_,g3⟩ | g
 · unfold CM
   rw [g3,Fy g1 hn]
 · exfalso
   unfold pB at g
   rw [dif_pos ⟨n,hn,rfl⟩] at g
   cases (Prod.mk.inj g).2
theorem Dj (ids:List Int):∀ (l:aW) (acc:List ByteArray) (x:ByteArray),x ∈ n7 ids l acc→x ∈ acc∨(((CM x).2&&!pW ids (CM x).1)||seq x ia)=true
 | [],acc,x,h => .inl h
 | f::l,acc,x,h=>by
  unfold n7 at h
  rcases Dj ids l _ x h with q | q
  · cases c:j8 ids f with
    | false=>rw [c] at q;exact .inl q
    | true =>
     rw [c,aY] at q
     rcases List.mem_append.1 q with q | q
     · exact .inl q
     · rw [List.mem_singleton] at q
       subst q
       exact .inr c
  · exact .inr q
theorem JI {d:Ty.d a_} {ids:List Int} {x:ByteArray} (h:x ∈ nW d ids):(((CM x).2&&!pW ids (CM x).1)||seq x ia)=true:=by
 unfold nW at h
 cases c:fJ d with
 | false=>rw [c] at h;cases h
 | true =>
  rw [c,aY] at h
  rcases Dj ids d.1 [] x h with q | q
  · cases q
  · exact q
def Gk (d:Ty.d a_) (s:ByteArray):Nat:=((fT d s).getD ⟨#[]⟩).size
def jL (d:Ty.d a_) (ids:List Int):Nat:=(ids.map fun x=>Gk d (aC aL x)).sum
def iZ:ab→Int
 | []=>0
 | e::l=>e.2.2.2.1+iZ l
theorem tQ {x y:Int} (hx:1≤x∧x≤100000) (hy:1≤y∧y≤100000) (h:x≠y):aC aL x≠aC aL y:=fun q=>by
 have e1:=rU (.inl rfl) hx.1 hx.2
 have e2:=rU (.inl rfl) hy.1 hy.2
 rw [q,e2] at e1
 injection e1 with e1 _
 exact h e1.symm
theorem xy {x:Int} (hx:1≤x∧x≤100000):aC aL x=aL++g_ x:=by
 unfold aC
 rw [aO hx]
 rfl
theorem o7 {x:Int} (hx:1≤x∧x≤100000):ia≠aC aL x:=fun q=>by
 rw [xy hx] at q
 have:=congrArg nb q
 rw [iT] at this
 cases this
theorem pf {x:Int} (hx:1≤x∧x≤100000):d_≠aC aL x:=fun q=>by
 rw [xy hx] at q
 have:=congrArg nb q
 rw [iT] at this
 cases this
theorem mK {n:Int} {ids:List Int} (h:dG (n,(ids,()))=true):1≤n∧n≤100000∧(∀ x ∈ ids,1≤x∧x<n)∧ids.Pairwise (· < ·):=by
 obtain ⟨g1,g2,_⟩:=dY h
 unfold dG at h
 simp only [ke,decide_eq_true_eq] at h
 have h3:=h.2.2
 rw [aE (n:=n-1) (by omega) (by omega)] at h3
 have key:∀ (l:List Int) (p:Option Int),qs (nz (n-1)) p l=true→(∀ x ∈ l,1≤x∧x<n∧∀ y,p=some y→y<x)∧l.Pairwise (· < ·):=by
  intro l
  induction l with
  | nil=>exact fun p _=>⟨fun x hx=>(by cases hx),List.Pairwise.nil⟩
  | cons a l ih =>
   intro p hp
   simp only [qs,ke] at hp
   obtain ⟨q1,q2⟩:=hp
   unfold nz at q1
   rw [ke,decide_eq_true_eq] at q1
   obtain ⟨⟨b1,b2⟩,b3⟩:=q1
   have b1:1≤a:=b1
   have b2:a≤n-1:=b2
   obtain ⟨i1,i2⟩:=ih (some a) q2
   have ha:∀ y,p=some y→y<a:=fun y e=>by
    rw [e] at b3
    exact of_decide_eq_true b3
   refine ⟨fun x hx=>?_,?_⟩
   · rcases List.mem_cons.1 hx with e | e
     · rw [e]
       exact ⟨b1,by omega,ha⟩
     · obtain ⟨c1,c2,c3⟩:=i1 x e
       have:=c3 a rfl
       exact ⟨c1,c2,fun y ey=>Int.lt_trans (ha y ey) this⟩
   · exact List.Pairwise.cons (fun x hx=>(i1 x hx).2.2 a rfl) i2
 obtain ⟨k1,k2⟩:=key ids none h3
 exact ⟨g1,g2,fun x hx=>⟨(k1 x hx).1,(k1 x hx).2.1⟩,k2⟩
theorem kW {d d':Ty.d a_}:∀ {ids:List Int},(∀ x ∈ ids,fT d' (aC aL x)=fT d (aC aL x))→jL d' ids=jL d ids
 | [],_=>rfl
 | x::l,h=>by
  unfold jL at *
  rw [List.map_cons,List.map_cons,List.sum_cons,List.sum_cons]
  have e1:Gk d' (aC aL x)=Gk d (aC aL x):=by unfold Gk;rw [h x oh]
  have e2:=kW (ids:=l) fun y hy=>h y (qu _ hy)
  unfold jL at e2
  rw [e1,e2]
theorem Dg (d:Ty.d a_) (l m:List Int):jL d (l++m)=jL d l+jL d m:=by
 unfold jL
 rw [List.map_append,List.sum_append]
theorem KO {st:Ty.d aG} {d:Ty.d a_} (hl:dG st.1=true) (hd:DR d):jL d st.1.2.1≤jL (pe st d).2.1 (pe st d).1.1.2.1:=by
 obtain ⟨n1,n2,n3,_⟩:=mK (n:=st.1.1) (ids:=st.1.2.1) hl
 have hseg:∀ x:Int,x ∈ st.1.2.1→1≤x∧x≤100000:=fun x hx=>⟨(n3 x hx).1,by have:=(n3 x hx).2;omega⟩
 have hnew:∀ x ∈ st.1.2.1,aC aL st.1.1≠aC aL x:=fun x hx=>tQ ⟨n1,n2⟩ (hseg x hx) (by have:=(n3 x hx).2;omega)
 have k1:∀ x ∈ st.1.2.1,fT (iv d (jM st)).1 (aC aL x)=fT d (aC aL x):=fun x hx=>vO
 have k2:∀ x ∈ st.1.2.1,fT (dH (aC aL st.1.1) (iv d (jM st)).1).1 (aC aL x)=fT d (aC aL x):=fun x hx=>(rA (hnew x hx)).trans (k1 x hx)
 have k3:∀ x ∈ st.1.2.1,fT (db (s6 st) (dH (aC aL st.1.1) (iv d (jM st)).1).1).1 (aC aL x)=fT d (aC aL x):=fun x hx=>(qL (o7 (hseg x hx)) (pf (hseg x hx))).trans (k2 x hx)
 unfold pe
 cases decide ((st.1.2.1.length:Int)≥60) with
 | true=>exact Nat.le_refl _
 | false =>
  cases decide (st.1.1≥(100000:Int)) with
  | true=>exact Nat.le_refl _
  | false =>
   simp only [aK]
   generalize iv d (jM st)=r1 at k1 k2 k3 ⊢
   generalize dH (aC aL st.1.1) r1.1=r2 at k2 k3 ⊢
   generalize db (s6 st) r2.1=r3 at k3 ⊢
   cases r1.2 != 0 with
   | true=>exact Nat.le_of_eq (kW k1).symm
   | false =>
    cases r2.2 != 0 with
    | true=>exact Nat.le_of_eq (kW k2).symm
    | false =>
     cases r3.2 != 0 with
     | true =>
      simp only [aY,aK]
      unfold yV
      cases (tl r3).2==2 with
      | false=>exact Nat.le_of_eq (kW k3).symm
      | true =>
       refine Nat.le_of_eq (kW fun x hx=>?_).symm
       refine (rH [ia,aC aL st.1.1] r3.1 fun s hs=>?_).trans (k3 x hx)
       rcases List.mem_cons.1 hs with e | e
       · rw [e];exact o7 (hseg x hx)
       · rw [List.mem_singleton.1 e];exact hnew x hx
     | false =>
      show jL d st.1.2.1≤jL r3.1 (st.1.2.1++[st.1.1])
      rw [Dg,kW k3]
      exact Nat.le_add_right _ _
theorem J3 {d:Ty.d a_} {s x:ByteArray} (h:(jI d s x).2=0):(fT d s).isSome=true:=by
 obtain ⟨c1,_⟩:=pY h
 unfold wg at c1
 unfold fT
 cases c:ax d.1 s with
 | none=>rw [c] at c1;cases c1
 | some f=>rfl
theorem EO {ids:List Int} (h:1≤ids.length):ids=ids.dropLast++[aa ids]:=by
 have hne:ids≠[]:=by intro q;rw [q] at h;simp at h
 have e:aa ids=ids.getLast hne:=by
  unfold aa
  rw [List.getLast_eq_getElem]
  simp [List.getD,show ids.length-1<ids.length by omega]
 rw [e]
 exact (List.dropLast_concat_getLast hne).symm
theorem Fo {st:Ty.d aG} {d:Ty.d a_} (hl:dG st.1=true) (hd:DR d) (r:Ty.d bP) :
 (qb st d r).1.1.1=st.1∧(jL d st.1.2.1:Int)+(if (qb st d r).1.2.2=0 then dP r else 0)≤(jL (qb st d r).1.2.1 st.1.2.1:Int)∧((qb st d r).1.2.2=0→(qb st d r).2.2.2.1=dP r):=by
 obtain ⟨n1,n2,n3,n4⟩:=mK (n:=st.1.1) (ids:=st.1.2.1) hl
 obtain ⟨_,_,g1,_,_⟩:=dY (nx:=st.1.1) (ids:=st.1.2.1) hl
 have hs:=EO g1
 have hp:∀ x:Int,x ∈ st.1.2.1.dropLast→x<aa st.1.2.1:=fun x hx=>by
  rw [hs] at n4
  exact (List.pairwise_append.1 n4).2.2 x hx _ (List.mem_singleton.2 rfl)
 have hlast:aa st.1.2.1 ∈ st.1.2.1:=by rw [hs];exact List.mem_append_right _ (List.mem_singleton.2 (by rw [← hs]))
 have hb:∀ x:Int,x ∈ st.1.2.1→1≤x∧x≤100000:=fun x hx=>⟨(n3 x hx).1,by have:=(n3 x hx).2;omega⟩
 have ko:∀ x ∈ st.1.2.1.dropLast,fT (jI d (jM st) (aj (aU r))).1 (aC aL x)=fT d (aC aL x):=fun x hx =>
  Ec (tQ (hb _ hlast) (hb x (List.dropLast_subset _ hx)) (by have:=hp x hx;omega))
 have kl:=B_ (d:=d) (s:=jM st) (x:=aj (aU r))
 have ks:=J3 (d:=d) (s:=jM st) (x:=aj (aU r))
 unfold qb
 generalize jI d (jM st) (aj (aU r))=a at ko kl ks ⊢
 have e1:∀ dd:Ty.d a_,jL dd st.1.2.1=jL dd st.1.2.1.dropLast+Gk dd (jM st):=fun dd=>by
  conv=>lhs;rw [hs]
  rw [Dg]
  unfold jL jM
  simp
 cases c:a.2==0 with
 | true =>
  have z:a.2=0:=Gj c
  have cn:(a.2 != 0)=false:=by unfold bne;rw [c];rfl
  rw [c,aY] at kl
  obtain ⟨x,hx⟩:=Option.isSome_iff_exists.1 (ks z)
  rw [cn]
  refine ⟨rfl,?_,fun _=>rfl⟩
  show _+(if (0:Int)=0 then dP r else 0)≤(jL a.1 st.1.2.1:Int)
  rw [if_pos rfl,e1 d,e1 a.1,kW ko]
  have e2:Gk a.1 (jM st)=Gk d (jM st)+(aj (aU r)).size:=by
   unfold Gk
   rw [kl,hx]
   simp [ByteArray.size_append]
  rw [e2]
  unfold dP
  omega
 | false =>
  have cn:(a.2 != 0)=true:=by unfold bne;rw [c];rfl
  rw [c,aK] at kl
  rw [cn]
  have hz:¬ (tl a).2=0:=fun e=>by
   have q:=J2 a
   rw [e,cn] at q
   cases q
  refine ⟨rfl,?_,fun e=>absurd e hz⟩
  show _+(if (tl a).2=0 then dP r else 0)≤(jL a.1 st.1.2.1:Int)
  rw [if_neg hz,e1 d,e1 a.1,kW ko]
  have e2:Gk a.1 (jM st)=Gk d (jM st):=by unfold Gk;rw [kl]
  rw [e2]
  omega
theorem Jv {st:Ty.d aG} {d:Ty.d a_} (hl:dG st.1=true) (hd:DR d) (r:Ty.d bP) :
 (jL d st.1.2.1:Int)+(if (kK st d r).1.2.2=0 then dP r else 0)≤(jL (kK st d r).1.2.1 (kK st d r).1.1.1.2.1:Int)∧((kK st d r).1.2.2=0→(kK st d r).2.2.2.1=dP r):=by
 unfold kK
 cases decide (st.2.2.2.1 > 0)&&decide (st.2.2.2.1+dP r > 200) with
 | false =>
  obtain ⟨s1,s2,s3⟩:=Fo hl hd r
  simp only [aK]
  rw [s1]
  exact ⟨s2,s3⟩
 | true =>
  obtain ⟨g1,g2,g3,g4⟩:=vP hl hd
  have gs:=KO hl hd
  simp only [aY]
  generalize pe st d=q at g1 g2 g3 g4 gs ⊢
  cases c:q.2.2 != 0 with
  | true =>
   have hz:¬ q.2.2=0:=fun e=>by rw [e] at c;cases c
   simp only [aY]
   rw [if_neg hz]
   exact ⟨by omega,fun e=>absurd e hz⟩
  | false =>
   obtain ⟨s1,s2,s3⟩:=Fo g1 g2 r
   simp only [aK]
   rw [s1]
   exact ⟨by omega,s3⟩
abbrev IA:=List (Ty.d bM)
def gj (id:Int) (l:IA):bB:=l.map fun x=>(id,x)
theorem CU (id:Int) (l:IA):(gj id l).length=l.length:=by unfold gj;rw [List.length_map]
theorem sn {k:Nat} (hk:2 ^ 50≤k) (id:Int) {l:IA} (hl:l.length≤1099511627775):eo.f k id l=some (gj id l,()):=by
 unfold eo.f eo.t
 refine (eV (L:=fun n i s=>eo.l0 k n id l l.length i s) (R:=fun r s=>some (s++gj id r,())) (Ty.z bM) l (fun i s=>(s.length:Int)=i) (fun n s hs=>?_) (fun n i s x rest h0 h1 hx hr hp ih=>?_) (n:=k) (s:=[]) (by omega) (by decide)).trans (by rw [List.nil_append])
 · simp (disch:=omega) only [eo.l0,eo.b0,aP,aK,gj,List.map_nil,List.append_nil]
 · have ih:=ih (s++[(id,x)]) (by rw [bK];omega)
   simp (disch:=first | omega | decide) only [eo.l0,eo.b0,aO,aY,aH,hx,bO,aE]
   refine ih.trans ?_
   simp only [gj,List.map_cons,s7,List.cons_append,List.nil_append]
theorem sv {k:Nat} (hk:2 ^ 50≤k) (id:Int) {s:ByteArray} (hs:s.size≤1099511627775):bm.f k id s=some (gj id (aw s).1,()):=by
 unfold bm.f bm.t
 rw [nB hk hs,aQ]
 have hl:=(gz s).1
 simp only []
 generalize (aw s).1=l at *
 refine (eV (L:=fun n i s=>bm.l0 k n id i s l) (R:=fun r s=>some (s++gj id r,())) (Ty.z bM) l (fun i s=>(s.length:Int)=i) (fun n s hs=>?_) (fun n i s x rest h0 h1 hx hr hp ih=>?_) (n:=k) (s:=[]) (by omega) (by decide)).trans (by rw [List.nil_append])
 · simp (disch:=omega) only [bm.l0,bm.b0,aP,aK,gj,List.map_nil,List.append_nil]
 · have ih:=ih (s++[(id,x)]) (by rw [bK];omega)
   simp (disch:=first | omega | decide) only [bm.l0,bm.b0,aO,aY,aH,hx,bO,aE]
   refine ih.trans ?_
   simp only [gj,List.map_cons,s7,List.cons_append,List.nil_append]
def nX:Ty.d di:=(0,(0,([],())))
def Ak (s0:Int) (e:Ty.d aA):Bool:=(e.2.1==s0)&&!decide ((e.2.2.1:Int) > 100000)
def vi (l:ab):Bool:=l.all (Ak (l.getD 0 (Ty.z aA)).2.1)
def kR (h:Ty.d di):Bool:=decide ((0:Int)≤h.1∧h.1≤100000)&&(decide ((0:Int)≤h.2.1∧h.2.1≤1000000)&&(rq h.2.2.1&&vi h.2.2.1))
def jF (e:Ty.d aA):ByteArray:=jq e.1++(iL e.2.1++(iL e.2.2.1++(iL e.2.2.2.1++iL e.2.2.2.2.1)))
def iX:ab→ByteArray
 | []=>⟨#[]⟩
 | e::l=>jF e++iX l
def pO (h:Ty.d di):ByteArray:=iL h.1++(iL h.2.1++(iL (h.2.2.1.length:Int)++iX h.2.2.1))
def c8 (h:Ty.d di):ByteArray:=if kR h=true then qn (p9 (pO h))++pO h else ⟨#[]⟩
theorem zn {k:Nat} (hk:2 ^ 50≤k) (h:Ty.d di):gw.f k h=some (kR h,()):=by
 unfold gw.f gw.t kR
 rw [ga,aQ]
 cases decide ((0:Int)≤h.1∧h.1≤100000) with
 | false=>rfl
 | true =>
  simp only [ff,aK,Bool.true_and]
  rw [ga,aQ]
  cases decide ((0:Int)≤h.2.1∧h.2.1≤1000000) with
  | false=>rfl
  | true =>
   simp only [ff,aK,Bool.true_and]
   rw [zV hk,aQ]
   cases cd:rq h.2.2.1 with
   | false=>rfl
   | true =>
    simp only [ff,aK,Bool.true_and]
    have hl:h.2.2.1.length≤20:=by
     unfold rq at cd
     rw [ke,decide_eq_true_eq] at cd
     have:=cd.1
     omega
    unfold vi
    refine eV (L:=fun n i (_:Unit)=>gw.l0 k n i h.1 h.2.1 h.2.2.1) (R:=fun r _=>some (r.all (Ak (h.2.2.1.getD 0 (Ty.z aA)).2.1),())) (Ty.z aA) h.2.2.1 (fun _ _=>True) (fun n _ _=>?_) (fun n i _ x rest h0 h1 hx hr hp ih=>?_) (n:=k) (s:=()) (by omega) trivial
    · simp only [gw.l0,gw.b0]
      rw [aP (by omega),aK]
      rfl
    · have ih:=ih () trivial
      simp only [gw.l0,gw.b0]
      rw [aO h1,aY,aH h0 h1,aH (by omega) (by omega),hx,aH h0 h1,aE (n:=i+1) (by omega) (by omega),ih,List.all_cons]
      unfold Ak bne
      cases x.2.1==(h.2.2.1.getD 0 (Ty.z aA)).2.1 <;> cases decide ((x.2.2.1:Int) > 100000) <;> rfl
theorem p_ {k:Nat} (hk:2 ^ 50≤k) {h:Ty.d di} (hl:h.2.2.1.length≤1073741824):eJ.f k h=some (kR h,()):=by
 unfold eJ.f eJ.t kR vi
 have fin:∀ b:Bool,(bif b then (Option.bind (au.f k h.1 0 100000) fun r1=>(bif r1.1 then (Option.bind (au.f k h.2.1 0 1000000) fun r2=>(bif r2.1 then (Option.bind (fS.f k h.2.2.1) fun r3=>(some r3)) else (some (false,())))) else (some (false,())))) else (some (false,())))=some (decide ((0:Int)≤h.1∧h.1≤100000)&&(decide ((0:Int)≤h.2.1∧h.2.1≤1000000)&&(rq h.2.2.1&&b)),()):=fun b=>by
  rw [kc,aQ,kc,aQ,EH hk (by omega),aQ]
  simp only []
  cases decide ((0:Int)≤h.1∧h.1≤100000) <;> cases decide ((0:Int)≤h.2.1∧h.2.1≤1000000) <;> cases rq h.2.2.1 <;> cases b <;> rfl
 rw [← fin]
 refine eV (L:=fun n i (_:Unit)=>eJ.l0 k n h.2.2.1 h.2.2.1.length i h.1 h.2.1 h.2.2.1) (R:=fun r _=>bif r.all (Ak (h.2.2.1.getD 0 (Ty.z aA)).2.1) then (Option.bind (au.f k h.1 0 100000) fun r1=>(bif r1.1 then (Option.bind (au.f k h.2.1 0 1000000) fun r2=>(bif r2.1 then (Option.bind (fS.f k h.2.2.1) fun r3=>(some r3)) else (some (false,())))) else (some (false,())))) else (some (false,()))) (Ty.z aA) h.2.2.1 (fun _ _=>True) (fun n _ _=>?_) (fun n i _ x rest h0 h1 hx hr hp ih=>?_) (n:=k) (s:=()) (by omega) trivial
 · simp only [eJ.l0,eJ.b0]
   rw [aP (by omega),aK]
   rfl
 · have ih:=ih () trivial
   simp only [eJ.l0,eJ.b0]
   rw [aO h1,aY,aH h0 h1,aH (by omega) (by omega),hx,aE (n:=i+1) (by omega) (by omega),ih,List.all_cons]
   unfold Ak bne
   cases x.2.1==(h.2.2.1.getD 0 (Ty.z aA)).2.1 <;> cases decide ((x.2.2.1:Int) > 100000) <;> rfl
theorem gp {l:ab} (h:rq l=true):l.length≤20∧∀ e ∈ l,(1≤e.1.size∧e.1.size≤8)∧(LE.le (α:=Int) 1 e.2.1∧LE.le (α:=Int) e.2.1 100000)∧LE.le (α:=Int) 0 e.2.2.1∧(LE.le (α:=Int) 1 e.2.2.2.1∧LE.le (α:=Int) e.2.2.2.1 210)∧(LE.le (α:=Int) 1 e.2.2.2.2.1∧LE.le (α:=Int) e.2.2.2.2.1 1000000):=by
 unfold rq at h
 rw [ke,decide_eq_true_eq] at h
 refine ⟨by have:=h.1;omega,fun e he=>?_⟩
 obtain ⟨q,hq⟩:=Bv h.2 he
 unfold sw r_ at hq
 rw [ke,ke,ke,ke,ke,decide_eq_true_eq,decide_eq_true_eq,decide_eq_true_eq,decide_eq_true_eq] at hq
 obtain ⟨g1,g2,g3,g4,g5,_⟩:=hq
 have g3':¬ LT.lt (α:=Int) e.2.2.1 0:=by
  intro q
  have:(!decide (e.2.2.1<(0:Int)))=false:=by rw [aO q];rfl
  rw [this] at g3
  cases g3
 exact ⟨by omega,g2,Int.not_lt.1 g3',g4,g5⟩
theorem kg {h:Ty.d di} (q:kR h=true):rq h.2.2.1=true:=by
 unfold kR at q
 rw [ke,ke,ke] at q
 exact q.2.2.1
theorem sD {e:Ty.d aA}:(jF e).size≤35+e.1.size:=by
 have a:=b9 (e.1.size:Int)
 have b:=b9 e.2.1
 have c:=b9 e.2.2.1
 have d:=b9 e.2.2.2.1
 have f:=b9 e.2.2.2.2.1
 unfold jF jq
 simp only [aN]
 omega
theorem qX:∀ {l:ab},(∀ e ∈ l,e.1.size≤8)→(iX l).size≤43*l.length
 | [],_=>Nat.zero_le _
 | e::l,h=>by
  have h1:=h e (oh ..)
  have h2:=qX (l:=l) fun x hx=>h x (qu _ hx)
  have h3:=sD (e:=e)
  unfold iX
  rw [aN,lQ]
  omega
theorem EY {h:Ty.d di} (q:kR h=true):(pO h).size≤900:=by
 obtain ⟨h1,h2⟩:=gp (kg q)
 have:=qX (l:=h.2.2.1) fun e he=>(h2 e he).1.2
 have a:=b9 h.1
 have b:=b9 h.2.1
 have c:=b9 (h.2.2.1.length:Int)
 unfold pO
 simp only [aN]
 omega
theorem mu (h:Ty.d di):(c8 h).size≤904:=by
 unfold c8
 by_cases q:kR h=true
 · have:=EY q
   rw [if_pos q,aN,show (qn (p9 (pO h))).size=4 from rfl]
   omega
 · rw [if_neg q];decide
theorem kM {k:Nat} (hk:2 ^ 50≤k) (h:Ty.d di):cN.f k h=some (c8 h,()):=by
 unfold cN.f cN.t c8
 rw [zn hk,aQ]
 cases q:kR h with
 | false=>rfl
 | true =>
  obtain ⟨h1,h2⟩:=gp (kg q)
  have a:=b9 h.1
  have b:=b9 h.2.1
  have c:=b9 (h.2.2.1.length:Int)
  rw [ff,aK,h9 hk,aQ,h9 hk,aQ,if_pos rfl]
  simp only []
  rw [dV (by omega),h9 hk,aQ]
  simp only []
  rw [dV (by rw [aN];omega)]
  refine (eV (L:=fun n i s=>cN.l0 k n s i h.1 h.2.1 h.2.2.1) (R:=fun r s=>some (qn (p9 (s++iX r))++(s++iX r),())) (Ty.z aA) h.2.2.1 (fun i s=>(s.size:Int)≤21+43*i) (fun n s hs=>?_) (fun n i s x rest g0 g1 hx hr hs ih=>?_) (n:=k) (s:=iL h.1++iL h.2.1++iL (h.2.2.1.length:Int)) (by omega) (by rw [aN,aN];omega)).trans (by unfold pO;rw [ar,ar])
  · have hc:=um s
    simp only [cN.l0,cN.b0]
    rw [aP (by omega),aK,tL hk (by omega),aQ]
    simp only []
    rw [pz hk hc.1 hc.2,aQ]
    simp only []
    rw [dV (by rw [show (qn (p9 s)).size=4 from rfl];omega),show iX []=⟨#[]⟩ from rfl,gS]
  · have hm:x ∈ h.2.2.1:=by rw [← hx];exact dx (by omega)
    have hz:=(h2 x hm).1.2
    have v1:=b9 (x.1.size:Int)
    have v2:=b9 x.2.1
    have v3:=b9 x.2.2.1
    have v4:=b9 x.2.2.2.1
    have v5:=b9 x.2.2.2.2.1
    have ih:=ih (s++jF x) (by have:=sD (e:=x);rw [aN];omega)
    simp only [cN.l0,cN.b0]
    rw [aO g1,aY,aH g0 g1,hx]
    simp only [h9 hk,aQ]
    rw [dV (by omega),dV (by rw [aN];omega),dV (by rw [aN,aN];omega),dV (by rw [aN,aN,aN];omega),dV (by rw [aN,aN,aN,aN];omega),dV (by rw [aN,aN,aN,aN,aN];omega),aE (n:=i+1) (by omega) (by omega)]
    have e:s++iL (x.1.size:Int)++x.1++iL x.2.1++iL x.2.2.1++iL x.2.2.2.1++iL x.2.2.2.2.1=s++jF x:=by
     unfold jF jq
     simp only [ar]
    rw [e,ih]
    rw [show iX (x::rest)=jF x++iX rest from rfl,ar]
theorem ql {k:Nat} (hk:2 ^ 50≤k) {h:Ty.d di} (hl:h.2.2.1.length≤1073741824):dW.f k h=some (c8 h,()):=by
 unfold dW.f dW.t c8
 rw [p_ hk hl,aQ]
 cases q:kR h with
 | false=>rfl
 | true =>
  obtain ⟨h1,h2⟩:=gp (kg q)
  have a:=b9 h.1
  have b:=b9 h.2.1
  have c:=b9 (h.2.2.1.length:Int)
  rw [ff,aK,rC hk (by simp),aQ,if_pos rfl]
  simp only []
  refine (eV (L:=fun n i s=>dW.l0 k n s h.2.2.1 h.2.2.1.length i) (R:=fun r s=>some (qn (p9 (s++iX r))++(s++iX r),())) (Ty.z aA) h.2.2.1 (fun i s=>(s.size:Int)≤21+43*i) (fun n s hs=>?_) (fun n i s x rest g0 g1 hx hr hs ih=>?_) (n:=k) (s:=dK [h.1,h.2.1,(h.2.2.1.length:Int)]) (by omega) (by simp only [dK,aN];rw [show (⟨#[]⟩:ByteArray).size=0 from rfl];omega)).trans (by unfold pO;simp only [dK,ar,gS,od])
  · have hc:=um s
    simp only [dW.l0,dW.b0]
    rw [aP (by omega),aK,ta hk (by omega),aQ]
    simp only []
    rw [qV hk hc.1 hc.2,aQ]
    simp only []
    rw [dV (by rw [show (qn (p9 s)).size=4 from rfl];omega),show iX []=⟨#[]⟩ from rfl,gS]
  · have hm:x ∈ h.2.2.1:=by rw [← hx];exact dx (by omega)
    have hz:=(h2 x hm).1.2
    have ht:=sD (e:=x)
    have v1:=b9 (x.1.size:Int)
    have v2:=b9 x.2.1
    have v3:=b9 x.2.2.1
    have v4:=b9 x.2.2.2.1
    have v5:=b9 x.2.2.2.2.1
    have ih:=ih (s++jF x) (by have:=sD (e:=x);rw [aN];omega)
    have e:jq x.1++dK [x.2.1,x.2.2.1,x.2.2.2.1,x.2.2.2.2.1]=jF x:=by
     unfold jF
     simp only [dK,gS]
    simp only [dW.l0,dW.b0]
    rw [aO g1,aY,aH g0 g1,hx,lX hk (by omega),aQ,rC hk (by simp),aQ]
    simp only []
    have hts:(jq x.1).size+(dK [x.2.1,x.2.2.1,x.2.2.2.1,x.2.2.2.2.1]).size≤100:=by
     rw [← aN,e];omega
    rw [dV (by omega),e,dV (by omega),aE (n:=i+1) (by omega) (by omega),ih,show iX (x::rest)=jF x++iX rest from rfl,ar]
def nq (x y:Ty.d aA):Bool:=(seq x.1 y.1)&&((x.2.1==y.2.1)&&((x.2.2.1==y.2.2.1)&&((x.2.2.2.1==y.2.2.2.1)&&(x.2.2.2.2.1==y.2.2.2.2.1))))
def qm:ab→ab→Bool
 | [],[]=>true
 | x::l,y::m=>nq x y&&qm l m
 | _,_=>false
theorem DX {x y:Ty.d aA}:nq x y=true↔x=y:=by
 unfold nq
 simp only [ke,beq_iff_eq,cS]
 constructor
 · rintro ⟨h1,h2,h3,h4,h5⟩
   obtain ⟨a,b,c,d,e,_⟩:=x
   obtain ⟨a',b',c',d',e',_⟩:=y
   simp only at h1 h2 h3 h4 h5
   subst h1 h2 h3 h4 h5
   rfl
 · rintro rfl;exact ⟨rfl,rfl,rfl,rfl,rfl⟩
theorem vk:∀ {l m:ab},qm l m=true↔l=m
 | [],[]=>⟨fun _=>rfl,fun _=>rfl⟩
 | [],y::m=>⟨fun h=>(by cases h),fun h=>(by cases h)⟩
 | x::l,[]=>⟨fun h=>(by cases h),fun h=>(by cases h)⟩
 | x::l,y::m=>by
  unfold qm
  rw [ke,DX,vk,List.cons.injEq]
theorem Ay:∀ {l m:ab},l.length≠m.length→qm l m=false:=fun {l m} h=>by
 cases c:qm l m with
 | false=>rfl
 | true=>rw [vk.1 c] at h;exact absurd rfl h
theorem pU {α:Type} {l:List α} {i:Nat} (z:α) (h:i<l.length):l.drop i=l.getD i z::l.drop (i+1):=by
 rw [List.drop_eq_getElem_cons h]
 simp [List.getD,h]
theorem rk {k:Nat} (hk:2 ^ 50≤k) {l m:ab} (hl:l.length≤1073741824):eQ.f k l m=some (qm l m,()):=by
 unfold eQ.f eQ.t
 by_cases hne:l.length=m.length
 · rw [show ((l.length:Int) != (m.length:Int))=false by rw [hne];simp,aK]
   refine (FY (L:=fun n i (_:Unit)=>eQ.l0 k n l m i) (R:=fun i _=>some (qm (l.drop i.toNat) (m.drop i.toNat),())) l.length (fun _ _=>True) (fun n _ _=>?_) (fun n i _ h0 h1 _ ih=>?_) k 0 () (by omega) (by omega) (by omega) trivial).trans (by simp)
   · simp only [eQ.l0,eQ.b0]
     rw [aP (by omega),aK,nU,List.drop_length,hne,List.drop_length]
     rfl
   · have ih:=ih () trivial
     have c1:i.toNat<l.length:=by omega
     simp only [eQ.l0,eQ.b0]
     rw [aO h1,aY,aH h0 h1,aH h0 (by omega),aE (n:=i+1) (by omega) (by omega),ih,pU (Ty.z aA) c1,pU (Ty.z aA) (l:=m) (i:=i.toNat) (by omega),show (i+1).toNat=i.toNat+1 by omega]
     show _=some (nq _ _&&qm _ _,())
     show (bif !(nq (l.getD i.toNat (Ty.z aA)) (m.getD i.toNat (Ty.z aA))) then _ else _)=_
     cases nq (l.getD i.toNat (Ty.z aA)) (m.getD i.toNat (Ty.z aA)) <;> rfl
 · rw [show ((l.length:Int) != (m.length:Int))=true from bne_iff_ne.2 (by omega),aY,Ay hne]
theorem yj {k:Nat} (hk:2 ^ 50≤k) {l m:ab} (hl:l.length≤1073741824):fa.f k l m=some (qm l m,()):=by
 unfold fa.f fa.t
 by_cases hne:l.length=m.length
 · rw [show ((l.length:Int) != (m.length:Int))=false by rw [hne];simp,aK]
   refine (FY (L:=fun n i (_:Unit)=>fa.l0 k n l m l.length i) (R:=fun i _=>some (qm (l.drop i.toNat) (m.drop i.toNat),())) l.length (fun _ _=>True) (fun n _ _=>?_) (fun n i _ h0 h1 _ ih=>?_) k 0 () (by omega) (by omega) (by omega) trivial).trans (by simp)
   · simp only [fa.l0,fa.b0]
     rw [aP (by omega),aK,nU,List.drop_length,hne,List.drop_length]
     rfl
   · have ih:=ih () trivial
     have c1:i.toNat<l.length:=by omega
     simp only [fa.l0,fa.b0]
     rw [aO h1,aY,aH h0 h1,aH h0 (by omega),aE (n:=i+1) (by omega) (by omega),ih,pU (Ty.z aA) c1,pU (Ty.z aA) (l:=m) (i:=i.toNat) (by omega),show (i+1).toNat=i.toNat+1 by omega]
     show _=some (nq _ _&&qm _ _,())
     show (bif !(nq (l.getD i.toNat (Ty.z aA)) (m.getD i.toNat (Ty.z aA))) then _ else _)=_
     cases nq (l.getD i.toNat (Ty.z aA)) (m.getD i.toNat (Ty.z aA)) <;> rfl
 · rw [show ((l.length:Int) != (m.length:Int))=true from bne_iff_ne.2 (by omega),aY,Ay hne]
def oL (mark:Int) (p:Option (Ty.d bM)) (x:Ty.d bM):Bool :=
 (x.2.2.1.1==4)&&(!decide ((x.2.2.1.2.1:Int) > mark)&&(match p with | none=>true | some y=>nO y.2.2.1.2.2.1 x.2.2.1.2.2.1))
def Gw (id:Int) (x:Ty.d bM):Ty.d aA:=(x.2.2.1.2.2.1,(id,(x.1,(x.2.1,(x.2.2.1.2.1,())))))
noncomputable def g9 (id:Int) (s:ByteArray):Ty.d di × Bool :=
 bif (aw s).2 != (s.size:Int) then (nX,false) else bif (aw s).1.length==0 then (nX,false) else
 bif ((aw s).1.getD ((aw s).1.length-1) (Ty.z bM)).2.2.1.1 != 5 then (nX,false) else
 bif !decide ((1:Int)≤id∧id≤100000) then (nX,false) else
 bif !qs (oL ((aw s).1.getD ((aw s).1.length-1) (Ty.z bM)).2.2.1.2.1) none ((aw s).1.take ((aw s).1.length-1)) then (nX,false) else
 bif !mG ((aw s).1.getD ((aw s).1.length-1) (Ty.z bM)).2.2.1 (gj id ((aw s).1.take ((aw s).1.length-1))) then (nX,false) else
 (((s.size:Int),(((aw s).1.getD ((aw s).1.length-1) (Ty.z bM)).2.2.1.2.1,(((aw s).1.take ((aw s).1.length-1)).map (Gw id),()))),true)
theorem wc (id:Int):seq (aC aL id) ⟨#[]⟩=!decide ((1:Int)≤id∧id≤100000):=by
 by_cases h:(1:Int)≤id∧id≤100000
 · rw [aO h]
   have e:aC aL id=aL++g_ id:=by unfold aC;rw [aO h];rfl
   rw [e,lW fun q=>?_]
   · rfl
   · have:=congrArg ByteArray.size q
     rw [aN] at this
     have s3:aL.size=3:=rfl
     have s0:(⟨#[]⟩:ByteArray).size=0:=rfl
     omega
 · rw [aP h]
   have e:aC aL id=⟨#[]⟩:=by unfold aC;rw [aP h];rfl
   rw [e,cF]
   rfl
theorem p7 {k:Nat} (hk:2 ^ 50≤k) (id:Int) {s:ByteArray} (hs:s.size≤1073741823):d5.f k id s=some ((g9 id s).1,((g9 id s).2,())):=by
 have hln:=gz s
 unfold d5.f d5.t g9
 rw [nB hk (by omega),aQ]
 simp only []
 generalize aw s=sc at hln ⊢
 obtain ⟨l,en⟩:=sc
 simp only at hln ⊢
 cases en != (s.size:Int) with
 | true=>rfl
 | false =>
  simp only [aK]
  by_cases h0:l.length=0
  · rw [show ((l.length:Int)==0)=true by rw [h0];rfl,show (l.length==0)=true by rw [h0];rfl]
    rfl
  · rw [show ((l.length:Int)==0)=false from nw (by omega),show (l.length==0)=false from nw h0]
    simp only [aK]
    have w1:aF ((l.length:Int)-1)=((l.length-1:Nat):Int):=by rw [aE (by omega) (by omega)];omega
    rw [w1,nU,aH (by omega) (by omega),aH (by omega) (by omega)]
    generalize hm:l.getD (l.length-1) (Ty.z bM)=m
    cases m.2.2.1.1 != 5 with
    | true=>rfl
    | false =>
     simp only [aK]
     rw [ba hk,aQ]
     simp only [wc]
     cases decide ((1:Int)≤id∧id≤100000) with
     | false=>rfl
     | true =>
      simp only [ff,aK]
      have hpl:(l.take (l.length-1)).length=l.length-1:=by rw [List.length_take];omega
      refine (qD (L:=fun n i=>d5.l0 k n id i [] 0 0 l ((l.take i.toNat).map (Gw id)) (s.size:Int) m.2.2.1.2.1 ((l.take i.toNat).map fun x=>x.2.2.1)) (Ty.z bM) (l.take (l.length-1)) (oL m.2.2.1.2.1)
       (bif !mG m.2.2.1 (gj id (l.take (l.length-1))) then some (nX,(false,())) else some (((s.size:Int),(m.2.2.1.2.1,((l.take (l.length-1)).map (Gw id),()))),(true,()))) (some (nX,(false,()))) (fun n=>?_) (fun n x h hx=>?_) (fun n i x y h0 h1 hx hy=>?_) (n:=k) (by omega)).trans (by
        cases qs (oL m.2.2.1.2.1) none (l.take (l.length-1)) <;> cases mG m.2.2.1 (gj id (l.take (l.length-1))) <;> rfl)
      · simp only [d5.l0,d5.b0]
        rw [hpl,nU,aE (n:=((l.length-1:Nat):Int)+1) (by omega) (by omega),aP (by omega),aK,w1,nU,aH (by omega) (by omega),hm,qM hk (by rw [List.length_map,hpl];omega),aQ,List.length_map,hpl]
        unfold mG gj bne
        rw [List.length_map,hpl,List.map_map]
        show (bif !(m.2.2.1.2.2.2.2.1==((l.length-1:Nat):Int)) then _ else bif !(m.2.2.1.2.2.2.2.2.1==CP ((l.take (l.length-1)).map fun x=>x.2.2.1)) then _ else _)=bif !((m.2.2.1.2.2.2.2.1==((l.length-1:Nat):Int))&&(m.2.2.1.2.2.2.2.2.1==CP ((l.take (l.length-1)).map fun x=>x.2.2.1))) then _ else _
        cases m.2.2.1.2.2.2.2.1==((l.length-1:Nat):Int) <;> cases m.2.2.1.2.2.2.2.2.1==CP ((l.take (l.length-1)).map fun x=>x.2.2.1) <;> rfl
      · rw [hpl] at h
        have hx':l.getD 0 (Ty.z bM)=x:=by rw [← hx,show Int.toNat 0=0 from rfl,lH (by omega)]
        simp only [d5.l0,d5.b0]
        rw [aE (n:=(0:Int)+1) (by omega) (by omega),aO (by omega),aY,aH (by omega) (by omega),show Int.toNat 0=0 from rfl,hx',aP (show ¬ (0:Int) > 0 by omega),aK,bO (by simp) (by decide),aH (by omega) (by omega),aH (by omega) (by omega),bO (by simp) (by decide),show Int.toNat 1=0+1 from rfl,j3 (z:=Ty.z bM) (show 0<l.length by omega),hx']
        simp only [oL,bne]
        cases x.2.2.1.1==4 <;> cases decide ((x.2.2.1.2.1:Int) > m.2.2.1.2.1) <;> rfl
      · rw [hpl] at h1
        have hx':l.getD i.toNat (Ty.z bM)=x:=by rw [← hx,lH (by omega)]
        have hy':l.getD (i-1).toNat (Ty.z bM)=y:=by rw [← hy,lH (by omega)]
        simp only [d5.l0,d5.b0]
        rw [aE (n:=i+1) (by omega) (by omega),aO (by omega),aY,aH (by omega) (by omega),hx',aO (show i > 0 by omega),aE (n:=i-1) (by omega) (by omega),aH (by omega) (by omega),hy',md,bO (by rw [List.length_map,List.length_take];omega) (by decide),aH (by omega) (by omega),aH (by omega) (by omega),bO (by rw [List.length_map,List.length_take];omega) (by decide),show (i+1).toNat=i.toNat+1 by omega,j3 (z:=Ty.z bM) (show i.toNat<l.length by omega),hx',List.map_append,List.map_append]
        simp only [oL,bne]
        cases x.2.2.1.1==4 <;> cases decide ((x.2.2.1.2.1:Int) > m.2.2.1.2.1) <;> cases nO y.2.2.1.2.2.1 x.2.2.1.2.2.1 <;> rfl
theorem zu {k:Nat} (hk:2 ^ 50≤k) (id:Int) {s:ByteArray} (hs:s.size≤1073741823):fR.f k id s=some ((g9 id s).1,((g9 id s).2,())):=by
 have hln:=gz s
 unfold fR.f fR.t g9
 rw [vp hk (by omega),aQ]
 simp only []
 generalize aw s=sc at hln ⊢
 obtain ⟨l,en⟩:=sc
 simp only at hln ⊢
 have w0:aF ((l.length:Int)-1)=(l.length:Int)-1:=aE (by omega) (by omega)
 by_cases h0:l.length=0
 · rw [w0,aO (by omega),aY,show (l.length==0)=true by rw [h0];rfl]
   cases en != (s.size:Int) <;> rfl
 · rw [w0,aP (by omega),aK,show (l.length==0)=false from nw h0]
   cases he:en != (s.size:Int) with
   | true=>rfl
   | false =>
    have hen:en=(s.size:Int):=by
     cases q:en==(s.size:Int) with
     | true=>exact Gj q
     | false=>unfold bne at he;rw [q] at he;cases he
    simp only [aK]
    have w1:(l.length:Int)-1=((l.length-1:Nat):Int):=by omega
    rw [kc,aQ]
    simp only []
    rw [w1,nU,aH (by omega) (by omega),aH (by omega) (by omega),bq (by omega) (by omega),aH (by omega) (by omega),bq (by omega) (by omega)]
    generalize hm:l.getD (l.length-1) (Ty.z bM)=m
    have hpl:(l.take (l.length-1)).length=l.length-1:=by rw [List.length_take];omega
    rw [sn hk id (by omega),aQ]
    simp only []
    rw [rr hk _ (by unfold gj;rw [List.length_map];omega),aQ]
    simp only []
    cases decide ((1:Int)≤id∧id≤100000) with
    | false=>cases m.2.2.1.1 != 5 <;> rfl
    | true =>
     cases m.2.2.1.1 != 5 with
     | true=>rfl
     | false =>
      simp only [ff,aK]
      cases mG m.2.2.1 (gj id (l.take (l.length-1))) with
      | false=>cases qs (oL m.2.2.1.2.1) none (l.take (l.length-1)) <;> rfl
      | true =>
       simp only [ff,aK]
       refine (qD (L:=fun n i=>fR.l0 k n id l (l.take (l.length-1)) (l.take (l.length-1)).length i [] 0 0 ((l.take i.toNat).map (Gw id)) en m.2.2.1.2.1) (Ty.z bM) (l.take (l.length-1)) (oL m.2.2.1.2.1)
        (some (((s.size:Int),(m.2.2.1.2.1,((l.take (l.length-1)).map (Gw id),()))),(true,()))) (some (nX,(false,()))) (fun n=>?_) (fun n x h hx=>?_) (fun n i x y h0 h1 hx hy=>?_) (n:=k) (by omega)).trans (by
         cases qs (oL m.2.2.1.2.1) none (l.take (l.length-1)) <;> rfl)
       · simp only [fR.l0,fR.b0]
         rw [hpl,nU,aP (by omega),aK,hen]
       · have h':=h
         rw [hpl] at h'
         have hx':l.getD 0 (Ty.z bM)=x:=by rw [← hx,show Int.toNat 0=0 from rfl,lH (by omega)]
         simp only [fR.l0,fR.b0]
         rw [aO (by omega),aY,aH (by omega) (by omega),hx,aP (show ¬ (0:Int) > 0 by omega),aK,bO (by simp) (by decide),aE (n:=(0:Int)+1) (by omega) (by omega),show Int.toNat 1=0+1 from rfl,j3 (z:=Ty.z bM) (show 0<l.length by omega),hx']
         simp only [oL,bne]
         cases x.2.2.1.1==4 <;> cases decide ((x.2.2.1.2.1:Int) > m.2.2.1.2.1) <;> rfl
       · have h1':=h1
         rw [hpl] at h1'
         have hx':l.getD i.toNat (Ty.z bM)=x:=by rw [← hx,lH (by omega)]
         have hy':l.getD (i-1).toNat (Ty.z bM)=y:=by rw [← hy,lH (by omega)]
         simp only [fR.l0,fR.b0]
         rw [aO h1,aY,aH (by omega) (by omega),hx,aO (show i > 0 by omega),aE (n:=i-1) (by omega) (by omega),aH (by omega) (by omega),hy',bO (by rw [List.length_map,List.length_take];omega) (by decide),aE (n:=i+1) (by omega) (by omega),show (i+1).toNat=i.toNat+1 by omega,j3 (z:=Ty.z bM) (show i.toNat<l.length by omega),hx',List.map_append]
         simp only [oL,bne]
         cases x.2.2.1.1==4 <;> cases decide ((x.2.2.1.2.1:Int) > m.2.2.1.2.1) <;> cases nO y.2.2.1.2.2.1 x.2.2.1.2.2.1 <;> rfl
noncomputable def lu (id:Int) (s:ByteArray) (h:Ty.d di):Bool:=(g9 id s).2&&(((g9 id s).1.1==h.1)&&(((g9 id s).1.2.1==h.2.1)&&qm (g9 id s).1.2.2.1 h.2.2.1))
theorem ya (id:Int) {s:ByteArray} (hs:s.size≤1073741823):(g9 id s).1.2.2.1.length≤1073741824:=by
 have hln:=gz s
 unfold g9
 generalize aw s=sc at hln ⊢
 obtain ⟨l,en⟩:=sc
 simp only at hln ⊢
 cases en != (s.size:Int)
 · cases l.length==0
   · cases (l.getD (l.length-1) (Ty.z bM)).2.2.1.1 != 5
     · cases !decide ((1:Int)≤id∧id≤100000)
       · cases !qs (oL (l.getD (l.length-1) (Ty.z bM)).2.2.1.2.1) none (l.take (l.length-1))
         · cases !mG (l.getD (l.length-1) (Ty.z bM)).2.2.1 (gj id (l.take (l.length-1)))
           · show ((l.take (l.length-1)).map (Gw id)).length≤1073741824
             rw [List.length_map,List.length_take]
             omega
           · exact Nat.zero_le _
         · exact Nat.zero_le _
       · exact Nat.zero_le _
     · exact Nat.zero_le _
   · exact Nat.zero_le _
 · exact Nat.zero_le _
theorem wh {k:Nat} (hk:2 ^ 50≤k) (id:Int) {s:ByteArray} (hs:s.size≤1073741823) (h:Ty.d di):i_.f k id s h=some (lu id s h,()):=by
 have hl:=ya id hs
 unfold i_.f i_.t lu
 rw [p7 hk id hs,aQ]
 simp only []
 rw [rk hk hl,aQ]
 cases (g9 id s).2 <;> cases (g9 id s).1.1==h.1 <;> cases (g9 id s).1.2.1==h.2.1 <;> rfl
theorem wu {k:Nat} (hk:2 ^ 50≤k) (id:Int) {s:ByteArray} (hs:s.size≤1073741823) (h:Ty.d di):il.f k id s h=some (lu id s h,()):=by
 have hl:=ya id hs
 unfold il.f il.t lu
 rw [zu hk id hs,aQ]
 simp only []
 rw [yj hk hl,aQ]
 cases (g9 id s).2 <;> cases (g9 id s).1.1==h.1 <;> cases (g9 id s).1.2.1==h.2.1 <;> rfl
end Go.Proofs.YtgnakpiicdfpkaaGreatDoor.G
namespace Go.V
def jX {α:Type} (o:Option α) (P:α→Prop):Prop:=∃ r,o=some r∧P r
section
variable {α β:Type} {P P':α→Prop} {Q:β→Prop}
theorem b8 {r:α} (h:P r):jX (some r) P:=⟨r,rfl,h⟩
theorem ru {o:Option α} {r:α} (e:o=some r) (h:P r):jX o P:=⟨r,e,h⟩
theorem LU {o:Option α} {r:α} (h:jX o (fun x=>x=r)):o=some r:=by
 obtain ⟨x,e,rfl⟩:=h
 exact e
theorem yq {o:Option α} (h:jX o P) (hp:∀ r,P r→P' r):jX o P':=by
 obtain ⟨r,e,hr⟩:=h
 exact ⟨r,e,hp r hr⟩
theorem aS {o:Option α} {g:α→Option β} (h:jX o P) (hg:∀ r,P r→jX (g r) Q):jX (Option.bind o g) Q:=by
 obtain ⟨r,e,hr⟩:=h
 rw [e]
 exact hg r hr
theorem bR {o:Option α} {r:α} {g:α→Option β} (e:o=some r) (hg:jX (g r) Q):jX (Option.bind o g) Q:=by
 rw [e]
 exact hg
theorem bX {b:Bool} {x y:Option α} (h1:b=true→jX x P) (h2:b=false→jX y P):jX (bif b then x else y) P:=by
 cases b
 · exact h2 rfl
 · exact h1 rfl
theorem lM {b:Bool} {x y:Option α} (hb:b=true) (h:jX x P):jX (bif b then x else y) P:=by rw [hb];exact h
theorem kZ {b:Bool} {x y:Option α} (hb:b=false) (h:jX y P):jX (bif b then x else y) P:=by rw [hb];exact h
theorem k_ {i n:Int} {x:Option α} (h0:0≤i) (h1:i<n) (h:jX x P):jX (bW i n x) P:=by rw [aH h0 h1];exact h
theorem oj {i n:Int} {x:Option α} (h0:0≤i) (h1:i≤n) (h:jX x P):jX (mR i n x) P:=by rw [bq h0 h1];exact h
theorem tj {b n:Nat} {x:Option α} (h0:n≤1099511627776) (hb:b≤128) (h:jX x P):jX (rm b n x) P:=by rw [bO h0 hb];exact h
theorem np {a b:ByteArray} {x:Option α} (h0:a.size+b.size≤4611686018427387904) (h:jX x P):jX (kC a b x) P:=by rw [dV h0];exact h
end
end Go.V
namespace Go.Proofs.YtgnakpiicdfpkaaGreatDoor.G
open Go.V
noncomputable def fq (s:ByteArray):Ty.d di × Bool:=pB (fun h=>kR h=true) c8 nX s
def RH (s:ByteArray) (o:Option (Ty.d di × Bool × Unit)):Prop:=(∃ h,kR h=true∧c8 h=s∧o=some (h,(true,())))∨o=some (nX,(false,()))
theorem zB (s:ByteArray):RH s (some (nX,(false,()))) := .inr rfl
theorem FS {s:ByteArray} (hs:4≤s.size) (h:Ty.d di):RH s (bif !seq (c8 h) s then some (nX,(false,())) else some (h,(true,()))):=by
 cases c:seq (c8 h) s with
 | false=>exact .inr rfl
 | true =>
  have e:=cS.1 c
  refine .inl ⟨h,?_,e,rfl⟩
  cases q:kR h with
  | true=>rfl
  | false =>
   unfold c8 at e
   rw [if_neg (by rw [q];decide)] at e
   rw [← e] at hs
   exact absurd hs (by decide)
theorem Hg {k:Nat} (hk:2 ^ 50≤k) {s:ByteArray} (hs:s.size≤1073741824) {m:Int} (h0:0≤m) (hm:m≤4):∀ (d n:Nat) (pos j:Int) (out:List Int),j+(d:Int)=m→0≤j→d<n→0≤pos→pos≤s.size→(out.length:Int)=j →
 jX (bo.l0 k n s pos m j out) (fun r=>(r.2.1 = -1∨(pos≤r.2.1∧r.2.1≤(s.size:Int)))∧(r.1.length:Int)=m):=by
 intro d
 induction d with
 | zero =>
  intro n pos j out h1 h2 hn h3 h4 h5
  obtain ⟨n,rfl⟩:∃ q,n=q+1:=⟨n-1,by omega⟩
  simp only [bo.l0,bo.b0]
  exact kZ (aP (by omega)) (b8 ⟨.inr ⟨Int.le_refl _,h4⟩,by show (out.length:Int)=m;omega⟩)
 | succ d ih =>
  intro n pos j out h1 h2 hn h3 h4 h5
  obtain ⟨n,rfl⟩:∃ q,n=q+1:=⟨n-1,by omega⟩
  have hr:=C7 (ByteArray.extract s pos.toNat s.size)
  rw [pa] at hr
  simp only [bo.l0,bo.b0]
  refine lM (aO (by omega)) (oj h3 h4 (bR (fy hk _) ?_))
  generalize FG (rv 7 (nb (ByteArray.extract s pos.toNat s.size)))=r at hr
  refine bX (fun _=>?_) (fun _=>?_)
  · rw [Fc h0 (by omega) (by decide)]
    exact b8 ⟨.inl rfl,by show ((List.replicate m.toNat _).length:Int)=m;rw [List.length_replicate];omega⟩
  · rw [aE (n:=pos+r.2.1) (by omega) (by omega),aE (n:=j+1) (by omega) (by omega)]
    refine tj (by omega) (by decide) (yq (ih n (pos+r.2.1) (j+1) (out++[r.1]) (by omega) (by omega) (by omega) (by omega) (by omega) (by rw [bK];omega)) fun x hx=>⟨?_,hx.2⟩)
    rcases hx.1 with q | q
    · exact .inl q
    · exact .inr ⟨by omega,q.2⟩
theorem Dd {k:Nat} (hk:2 ^ 50≤k) {s:ByteArray} (hs:s.size≤1073741824) {m pos:Int} (h0:0≤m) (hm:m≤4) (h1:0≤pos) (h2:pos≤s.size) :
 jX (bo.f k s pos m) (fun r=>(r.2.1 = -1∨(pos≤r.2.1∧r.2.1≤(s.size:Int)))∧(r.1.length:Int)=m):=by
 unfold bo.f bo.t
 exact Hg hk hs h0 hm m.toNat k pos 0 [] (by omega) (by omega) (by omega) h1 h2 rfl
def D9 (x:Int):Prop:=0≤x∧x≤1000000
theorem ot {x:Int} (h:D9 x):∃ n:Nat,n<562949953421312∧x=(n:Int)∧iL x=bI n:=by
 obtain ⟨n,rfl⟩:=Int.eq_ofNat_of_zero_le h.1
 have:=h.2
 exact ⟨n,by omega,rfl,dS (by omega)⟩
theorem DJ {k:Nat} (hk:2 ^ 50≤k) {m:Int} (hm:m≤4):∀ (xs:List Int) (pre t:ByteArray) (n:Nat) (j:Int) (out:List Int),(∀ x ∈ xs,D9 x)→j+(xs.length:Int)=m→0≤j→xs.length<n→(out.length:Int)≤j→pre.size+((dK xs).size+t.size)≤1073741824 →
 bo.l0 k n (pre++(dK xs++t)) (pre.size:Int) m j out=some (out++xs,(((pre.size+(dK xs).size:Nat):Int),()))
 | [],pre,t,n,j,out,hx,h1,h2,hn,h3,hz=>by
  obtain ⟨n,rfl⟩:∃ q,n=q+1:=⟨n-1,by omega⟩
  simp only [List.length_nil] at h1
  simp only [bo.l0,bo.b0]
  rw [aP (by omega),aK,List.append_nil]
  rfl
 | x::xs,pre,t,n,j,out,hx,h1,h2,hn,h3,hz=>by
  obtain ⟨n,rfl⟩:∃ q,n=q+1:=⟨n-1,by omega⟩
  obtain ⟨a,ha,rfl,hv⟩:=ot (hx x (oh ..))
  have hva:=ah a
  rw [lQ] at h1 hn
  have e1:dK ((a:Int)::xs)=bI a++dK xs:=by rw [dK,hv]
  rw [e1,aN] at hz
  rw [e1]
  have e2:pre++(bI a++dK xs++t)=pre++bI a++(dK xs++t):=by simp only [ar]
  have ih:=DJ hk hm xs (pre++bI a) t n (j+1) (out++[(a:Int)]) (fun y hy=>hx y (qu _ hy)) (by omega) (by omega) (by omega) (by rw [bK];omega) (by rw [aN];omega)
  simp only [bo.l0,bo.b0]
  rw [aO (by omega),aY,bq (by omega) (by rw [aN];omega),nU,fh,ar,ch hk ha,aQ]
  simp only []
  rw [show (((bI a).size:Int)==0)=false from nw (by omega),aK,bO (by omega) (by decide),uF,aE (by omega) (by omega),aE (n:=j+1) (by omega) (by omega)]
  rw [aN] at ih
  rw [← ar pre,ih,s7,aN,Nat.add_assoc]
  rfl
theorem GH {k:Nat} (hk:2 ^ 50≤k) {xs:List Int} (pre t:ByteArray) (hx:∀ x ∈ xs,D9 x) (hl:xs.length≤4) (hz:pre.size+((dK xs).size+t.size)≤1073741824) :
 bo.f k (pre++(dK xs++t)) (pre.size:Int) (xs.length:Int)=some (xs,(((pre.size+(dK xs).size:Nat):Int),())):=by
 unfold bo.f bo.t
 exact DJ hk (by omega) xs pre t k 0 [] hx (by omega) (by omega) (by omega) (by simp) hz
theorem Mu {k:Nat} (hk:2 ^ 50≤k) {s:ByteArray} (hs:s.size≤1073741824):jX (cY.f k s) (fun r=>r.2.1.size≤s.size):=by
 rcases o8 s with ⟨u,t,hu,rfl⟩ | h
 · rw [aN,aN] at hs
   exact ru (vm hk hu (by rw [aN];omega)) (by show t.size≤_;rw [aN,aN];omega)
 · exact ru (yu hk (by omega) h) (Nat.zero_le _)
theorem E_ {k:Nat} (hk:2 ^ 50≤k) {s:ByteArray} (h4:4≤s.size) (hs:s.size≤1073741824) (z:ab) (z1 z2 a b:Int) {xs:List Int} (hx:xs.length=3) (hc:xs.getD 2 (Ty.z (.int .i64))≤(20:Int)):∀ (d n:Nat) (pos j:Int) (out:ab),j+(d:Int)=20→0≤j→d<n→0≤pos→pos≤s.size→(out.length:Int)≤j →
 RH s (bZ.l0 k n s pos j z z1 z2 xs out a b):=by
 intro d
 induction d with
 | zero =>
  intro n pos j out h1 h2 hn h3 h5 h6
  obtain ⟨n,rfl⟩:∃ q,n=q+1:=⟨n-1,by omega⟩
  simp only [bZ.l0,bZ.b0]
  rw [aH (by omega) (by omega),aP (show ¬ j<xs.getD 2 (Ty.z (.int .i64)) by omega),aK,kM hk,aQ]
  exact FS h4 _
 | succ d ih =>
  intro n pos j out h1 h2 hn h3 h5 h6
  obtain ⟨n,rfl⟩:∃ q,n=q+1:=⟨n-1,by omega⟩
  have hz:=pa s pos.toNat
  simp only [bZ.l0,bZ.b0]
  rw [aH (by omega) (by omega)]
  by_cases c:j<xs.getD 2 (Ty.z (.int .i64))
  · rw [aO c,aY,bq h3 h5]
    obtain ⟨r2,e2,q2⟩:=Mu hk (s:=ByteArray.extract s pos.toNat s.size) (by omega)
    rw [e2,aQ]
    obtain ⟨r3,e3,q3,q4⟩:=Dd hk (s:=r2.2.1) (m:=4) (pos:=0) (by omega) (by omega) (by omega) (by omega) (by omega)
    rw [e3,aQ]
    cases r2.2.2.1 with
    | false=>exact zB s
    | true =>
     simp only [ff,aK]
     by_cases c3:r3.2.1<0
     · rw [aO c3];exact zB s
     · rw [aP c3,aK,aH (by omega) (by omega),aH (by omega) (by omega),aH (by omega) (by omega),aH (by omega) (by omega),bO (by omega) (by decide),aE (n:=(s.size:Int)-(r2.2.1.size:Int)) (by omega) (by omega),aE (n:=(s.size:Int)-(r2.2.1.size:Int)+r3.2.1) (by omega) (by omega),aE (n:=j+1) (by omega) (by omega)]
       exact ih n _ (j+1) _ (by omega) (by omega) (by omega) (by omega) (by omega) (by rw [bK];omega)
  · rw [aP c,aK,kM hk,aQ]
    exact FS h4 _
theorem F3 {k:Nat} (hk:2 ^ 50≤k) {s:ByteArray} (hs:s.size≤1073741824):RH s (bZ.f k s):=by
 unfold bZ.f bZ.t
 by_cases h4:(s.size:Int)<4
 · rw [aO h4];exact zB s
 · rw [aP h4,aK]
   obtain ⟨r,e,q1,q2⟩:=Dd hk (s:=s) (m:=3) (pos:=4) hs (by omega) (by omega) (by omega) (by omega)
   rw [e,aQ]
   by_cases c1:r.2.1<0
   · rw [aO c1];exact zB s
   · rw [aP c1,aK,aH (by omega) (by omega)]
     by_cases c2:r.1.getD 2 (Ty.z (.int .i64)) > (20:Int)
     · rw [aO c2];exact zB s
     · rw [aP c2,aK,aH (by omega) (by omega),aH (by omega) (by omega)]
       exact E_ hk (by omega) hs [] 0 0 _ _ (by omega) (Int.not_lt.1 c2) 20 k r.2.1 0 [] (by omega) (by omega) (by omega) (by omega) (by omega) (by simp)
theorem E5 {e:Ty.d aA} {l:ab} (hl:rq l=true) (ho:vi l=true) (he:e ∈ l):∀ x ∈ [(e.2.1:Int),e.2.2.1,e.2.2.2.1,e.2.2.2.2.1],D9 x:=by
 obtain ⟨_,q⟩:=gp hl
 obtain ⟨_,⟨a1,a2⟩,b1,⟨c1,c2⟩,⟨d1,d2⟩⟩:=q e he
 have h2:=List.all_eq_true.1 ho e he
 unfold Ak at h2
 rw [ke] at h2
 have b2:LE.le (α:=Int) e.2.2.1 100000:=by
  refine Int.not_lt.1 fun w=>?_
  have:(!decide ((e.2.2.1:Int) > 100000))=false:=by rw [aO w];rfl
  rw [this] at h2
  cases h2.2
 intro x hx
 simp only [List.mem_cons,List.not_mem_nil,or_false] at hx
 rcases hx with rfl | rfl | rfl | rfl
 · exact ⟨by omega,by omega⟩
 · exact ⟨b1,by omega⟩
 · exact ⟨by omega,by omega⟩
 · exact ⟨by omega,d2⟩
theorem AL (e:Ty.d aA) (h:e.1.size≤8) (t:ByteArray):jF e++t=bI e.1.size++(e.1++(dK [(e.2.1:Int),e.2.2.1,e.2.2.2.1,e.2.2.2.2.1]++t)):=by
 unfold jF jq
 rw [dS (by omega)]
 simp only [dK,gS,ar]
theorem yO {k:Nat} (hk:2 ^ 50≤k) {h:Ty.d di} (q:kR h=true) (z:ab) (z1 z2:Int):∀ (r:ab) (pre:ByteArray) (n:Nat) (j:Int) (out:ab),(∀ e ∈ r,e ∈ h.2.2.1)→out++r=h.2.2.1→(out.length:Int)=j→r.length<n→c8 h=pre++iX r→pre.size≤1000 →
 bZ.l0 k n (c8 h) (pre.size:Int) j z z1 z2 [(h.1:Int),h.2.1,(h.2.2.1.length:Int)] out h.1 h.2.1=some (h,(true,()))
 | [],pre,n,j,out,hr,ho,hj,hn,hs,hp=>by
  obtain ⟨n,rfl⟩:∃ q,n=q+1:=⟨n-1,by omega⟩
  rw [List.append_nil] at ho
  simp only [bZ.l0,bZ.b0]
  rw [aH (by omega) (by simp),show List.getD [(h.1:Int),h.2.1,(h.2.2.1.length:Int)] 2 (Ty.z (.int .i64))=(h.2.2.1.length:Int) from rfl,ho,aP (by rw [← hj,ho];omega),aK,show (h.1,(h.2.1,(h.2.2.1,())))=h from rfl,kM hk,aQ]
  simp only [cF]
  rfl
 | e::r,pre,n,j,out,hr,ho,hj,hn,hs,hp=>by
  obtain ⟨n,rfl⟩:∃ q,n=q+1:=⟨n-1,by omega⟩
  have hlen:h.2.2.1.length=out.length+(r.length+1):=by rw [← ho,xF,lQ]
  have he:=hr e (oh ..)
  have hd:=kg q
  have h1:vi h.2.2.1=true:=by unfold kR at q;rw [ke,ke,ke] at q;exact q.2.2.2
  have hk8:=((gp hd).2 e he).1.2
  have h20:=(gp hd).1
  have hnum:=E5 hd h1 he
  have hz:=mu h
  have hf:=AL e hk8 (iX r)
  have hs2:c8 h=pre++(bI e.1.size++(e.1++(dK [(e.2.1:Int),e.2.2.1,e.2.2.2.1,e.2.2.2.2.1]++iX r))):=by rw [← hf];exact hs
  have hs3:c8 h=(pre++jF e)++iX r:=by rw [ar];exact hs
  have hsz:=congrArg ByteArray.size hs2
  simp only [aN] at hsz
  have hsz3:=congrArg ByteArray.size hs3
  rw [aN,aN] at hsz3
  have ih:=yO hk q z z1 z2 r (pre++jF e) n (j+1) (out++[e]) (fun x hx=>hr x (qu _ hx)) (by rw [s7];exact ho) (by rw [bK];omega) (by rw [lQ] at hn;omega) hs3 (by rw [aN];omega)
  have hv:=GH hk (xs:=[(e.2.1:Int),e.2.2.1,e.2.2.2.1,e.2.2.2.2.1]) ⟨#[]⟩ (iX r) hnum (by simp) (by rw [e0];omega)
  rw [od,e0] at hv
  simp only [bZ.l0,bZ.b0]
  rw [aH (by omega) (by simp),show List.getD [(h.1:Int),h.2.1,(h.2.2.1.length:Int)] 2 (Ty.z (.int .i64))=(h.2.2.1.length:Int) from rfl,aO (by omega),aY,bq (by omega) (by omega),nU]
  have ex:ByteArray.extract (c8 h) pre.size (c8 h).size=bI e.1.size++(e.1++(dK [(e.2.1:Int),e.2.2.1,e.2.2.2.1,e.2.2.2.2.1]++iX r)):=by rw [hs2,fh]
  rw [ex,vm hk (by omega) (by simp only [aN];omega),aQ]
  simp only []
  rw [show bo.f k (dK [(e.2.1:Int),e.2.2.1,e.2.2.2.1,e.2.2.2.2.1]++iX r) 0 4=_ from hv,aQ]
  simp only [ff,aK]
  rw [aP (by omega),aK,aH (by omega) (by simp),aH (by omega) (by simp),aH (by omega) (by simp),aH (by omega) (by simp),bO (by omega) (by decide),aE (n:=j+1) (by omega) (by omega)]
  have hsv:(dK [(e.2.1:Int),e.2.2.1,e.2.2.2.1,e.2.2.2.2.1]++iX r).size=(dK [(e.2.1:Int),e.2.2.1,e.2.2.2.1,e.2.2.2.2.1]).size+(iX r).size:=aN _ _
  have w:aF (aF (((c8 h).size:Int)-((dK [(e.2.1:Int),e.2.2.1,e.2.2.2.1,e.2.2.2.2.1]++iX r).size:Int))+((0+(dK [(e.2.1:Int),e.2.2.1,e.2.2.2.1,e.2.2.2.2.1]).size:Nat):Int))=((pre++jF e).size:Int):=by
   have hpe:=aN pre (jF e)
   rw [aE (n:=((c8 h).size:Int)-_) (by omega) (by omega),aE (by omega) (by omega)]
   omega
  rw [w]
  exact ih
theorem Ae {h:Ty.d di} (q:kR h=true):∀ x ∈ [(h.1:Int),h.2.1,(h.2.2.1.length:Int)],D9 x:=by
 have h20:=(gp (kg q)).1
 unfold kR at q
 rw [ke,ke,decide_eq_true_eq,decide_eq_true_eq] at q
 obtain ⟨⟨a1,a2⟩,⟨b1,b2⟩,_⟩:=q
 intro x hx
 simp only [List.mem_cons,List.not_mem_nil,or_false] at hx
 rcases hx with rfl | rfl | rfl
 · exact ⟨a1,by have:LE.le (α:=Int) h.1 100000:=a2;omega⟩
 · exact ⟨b1,b2⟩
 · exact ⟨by omega,by omega⟩
theorem su {h:Ty.d di} (q:kR h=true):c8 h=qn (p9 (pO h))++(dK [(h.1:Int),h.2.1,(h.2.2.1.length:Int)]++iX h.2.2.1):=by
 unfold c8
 rw [if_pos q]
 unfold pO
 simp only [dK,gS,ar]
theorem sX (x:Int):(qn x).size=4:=rfl
theorem Gg {k:Nat} (hk:2 ^ 50≤k) {h:Ty.d di} (q:kR h=true):bZ.f k (c8 h)=some (h,(true,())):=by
 have h20:=(gp (kg q)).1
 have hf:=su q
 have hz:=mu h
 have hsz:=congrArg ByteArray.size hf
 rw [aN,aN,sX] at hsz
 have hv:=GH hk (xs:=[(h.1:Int),h.2.1,(h.2.2.1.length:Int)]) (qn (p9 (pO h))) (iX h.2.2.1) (Ae q) (by simp) (by rw [sX];omega)
 rw [← hf,sX] at hv
 unfold bZ.f bZ.t
 rw [aP (by omega),aK,show bo.f k (c8 h) 4 3=_ from hv,aQ]
 simp only []
 rw [aP (by omega),aK,aH (by omega) (by simp),show List.getD [(h.1:Int),h.2.1,(h.2.2.1.length:Int)] 2 (Ty.z (.int .i64))=(h.2.2.1.length:Int) from rfl,aP (by omega),aK,aH (by omega) (by simp),aH (by omega) (by simp)]
 have:=yO hk q [] 0 0 h.2.2.1 (qn (p9 (pO h))++dK [(h.1:Int),h.2.1,(h.2.2.1.length:Int)]) k 0 [] (fun e he=>he) rfl rfl (by omega) (by rw [ar];exact hf) (by rw [aN,sX];omega)
 rw [aN,sX] at this
 exact this
theorem qc {k:Nat} (hk:2 ^ 50≤k) {s:ByteArray} (hs:s.size≤1073741824):bZ.f k s=some ((fq s).1,((fq s).2,())) :=
 my (fun h h1 h2=>by rw [← h2];exact Gg hk h1) (F3 hk hs)
theorem wK {k:Nat} (hk:2 ^ 50≤k) {r:ByteArray} (b:Bool) (hs:r.size≤1073741824):jX (aJ.f k (r,(b,()))) (fun x=>x.1.1.size≤r.size∧(b=true→x.1.2.1=true)∧(x.1.2.1=false→x.1.1.size<r.size)∧0≤x.2.1∧x.2.1<562949953421312):=by
 cases b with
 | true=>exact ru (vr hk (by omega)) ⟨Nat.le_refl _,fun _=>rfl,fun h=>(by cases h),Int.le_refl _,by show (0:Int)<562949953421312;omega⟩
 | false =>
  rcases kN r with ⟨a,t,ha,rfl⟩ | h
  · have:=ah a
    rw [aN] at hs
    exact ru (fW hk ha (by omega)) ⟨by show t.size≤_;rw [aN];omega,fun h=>(by cases h),fun _=>by show t.size<_;rw [aN];omega,by show (0:Int)≤(a:Int);omega,by show (a:Int)<_;omega⟩
  · exact ru (m8 hk h (by omega)) ⟨Nat.le_refl _,fun h=>(by cases h),fun h=>(by cases h),Int.le_refl _,by show (0:Int)<562949953421312;omega⟩
theorem GJ (k:Nat) (r:ByteArray) (b:Bool) {n:Int} (h0:0≤n):jX (an.f k (r,(b,())) n) (fun x=>x.1.1.size≤r.size∧(b=true→x.1.2.1=true)):=by
 cases b with
 | true=>exact ru (sG k r n) ⟨Nat.le_refl _,fun _=>rfl⟩
 | false =>
  by_cases h:n > (r.size:Int)
  · exact ru (sF k h) ⟨Nat.le_refl _,fun _=>rfl⟩
  · have e:=uC r (n:=n.toNat) (by omega)
    have hz:(ByteArray.extract r 0 n.toNat).size=n.toNat:=by rw [← cW,ky,List.length_take,cW];omega
    have:=s5 k (ByteArray.extract r 0 n.toNat) (ByteArray.extract r n.toNat r.size)
    rw [← e,hz,show ((n.toNat:Nat):Int)=n by omega] at this
    exact ru this ⟨by show (ByteArray.extract r n.toNat r.size).size≤_;rw [pa];omega,fun h=>(by cases h)⟩
theorem Lk {k:Nat} (hk:2 ^ 50≤k) {r:ByteArray} (b:Bool) (hs:r.size≤1073741824):jX (ai.f k (r,(b,()))) (fun x=>x.1.1.size≤r.size∧(b=true→x.1.2.1=true)∧(x.1.2.1=false→x.1.1.size<r.size)):=by
 unfold ai.f ai.t
 refine aS (wK hk b hs) fun r1 q1=>?_
 obtain ⟨a1,a2,a3,a4,_⟩:=q1
 refine aS (GJ k r1.1.1 r1.1.2.1 a4) fun r2 q2=>b8 ⟨by omega,fun h=>q2.2 (a2 h),fun h=>?_⟩
 cases c:r1.1.2.1 with
 | true=>rw [q2.2 c] at h;cases h
 | false=>have:=a3 c;omega
theorem ri {k:Nat} (n:Nat) (s:ByteArray) (c j:Int) (z:ab) (z1 z2:Int) (rest:ByteArray) (out:ab) (a b:Int):bF.l0 k (n+1) s c j z z1 z2 rest true out a b=some (nX,(false,())):=by
 simp only [bF.l0,bF.b0]
 cases decide (j<c) <;> rfl
theorem EJ {k:Nat} (hk:2 ^ 50≤k) {s:ByteArray} (h4:4≤s.size) {h:Ty.d di} (hl:h.2.2.1.length≤1073741824):RH s (Option.bind (eJ.f k h) fun r12=>(bif (!r12.1) then (some ((0,(0,([],()))),(false,()))) else (Option.bind (dW.f k h) fun r13=>(bif (!(seq r13.1 s)) then (some ((0,(0,([],()))),(false,()))) else (some (h,(true,()))))))):=by
 rw [p_ hk hl,aQ,ql hk hl,aQ]
 cases kR h with
 | false=>exact zB s
 | true=>exact FS h4 h
theorem CY {k:Nat} (hk:2 ^ 50≤k) {s:ByteArray} (h4:4≤s.size) (c:Int) (hc:c<562949953421312) (z:ab) (z1 z2 a b:Int):∀ (n:Nat) (rest:ByteArray) (j:Int) (out:ab),rest.size+2≤n→0≤j→out.length+rest.size≤1073741824 →
 RH s (bF.l0 k n s c j z z1 z2 rest false out a b):=by
 intro n
 induction n with
 | zero=>intro rest j out h1;omega
 | succ n ih =>
  intro rest j out h1 h2 h5
  obtain ⟨n,rfl⟩:∃ q,n=q+1:=⟨n-1,by omega⟩
  simp only [bF.l0]
  unfold bF.b0
  by_cases cj:j<c
  · rw [aO cj,aY,qj,aY]
    obtain ⟨r5,e5,p1,p2,p3⟩:=Lk hk false (r:=rest) (by omega)
    rw [e5,aQ]
    obtain ⟨r6,e6,s1,s2,s3,_⟩:=wK hk r5.1.2.1 (r:=r5.1.1) (by omega)
    rw [show aJ.f k r5.1=_ from e6,aQ]
    obtain ⟨r7,e7,t1,t2,t3,_⟩:=wK hk r6.1.2.1 (r:=r6.1.1) (by omega)
    rw [show aJ.f k r6.1=_ from e7,aQ]
    obtain ⟨r8,e8,u1,u2,u3,_⟩:=wK hk r7.1.2.1 (r:=r7.1.1) (by omega)
    rw [show aJ.f k r7.1=_ from e8,aQ]
    obtain ⟨r9,e9,v1,v2,v3,_⟩:=wK hk r8.1.2.1 (r:=r8.1.1) (by omega)
    rw [show aJ.f k r8.1=_ from e9,aQ,bO (by omega) (by decide),aE (n:=j+1) (by omega) (by omega)]
    cases hb:r9.1.2.1 with
    | true=>exact .inr (ri n s c (j+1) z z1 z2 _ _ a b)
    | false =>
     have:=v3 hb
     exact ih r9.1.1 (j+1) _ (by omega) (by omega) (by rw [bK];omega)
  · rw [aP cj,aK]
    simp only [aK]
    exact EJ hk h4 (h:=(a,(b,(out,())))) (by show out.length≤_;omega)
theorem BI {k:Nat} (hk:2 ^ 50≤k) {s:ByteArray} (h:s.size<4):bF.f k s=some (nX,(false,())):=by
 unfold bF.f bF.t
 rw [sF k (by omega),aQ]
 simp only []
 rw [vr hk (by omega),aQ]
 simp only []
 rw [vr hk (by omega),aQ]
 simp only []
 rw [vr hk (by omega),aQ]
 obtain ⟨q,hq⟩:∃ q,k=q+1:=⟨k-1,by omega⟩
 exact (congrArg (fun z=>bF.l0 k z s 0 0 [] 0 0 s true [] 0 0) hq).trans (ri q s 0 0 [] 0 0 s [] 0 0)
theorem Ey {k:Nat} (hk:2 ^ 50≤k) {s:ByteArray} (hs:s.size≤1073741824):RH s (bF.f k s):=by
 by_cases h4:s.size<4
 · rw [BI hk h4];exact zB s
 unfold bF.f bF.t
 obtain ⟨r1,e1,p1,_⟩:=GJ k s false (n:=4) (by omega)
 rw [e1,aQ]
 obtain ⟨r2,e2,s1,_,_,_⟩:=wK hk r1.1.2.1 (r:=r1.1.1) (by omega)
 rw [show aJ.f k r1.1=_ from e2,aQ]
 obtain ⟨r3,e3,t1,_,_,_⟩:=wK hk r2.1.2.1 (r:=r2.1.1) (by omega)
 rw [show aJ.f k r2.1=_ from e3,aQ]
 obtain ⟨r4,e4,u1,_,_,u4,u5⟩:=wK hk r3.1.2.1 (r:=r3.1.1) (by omega)
 rw [show aJ.f k r3.1=_ from e4,aQ]
 cases r4.1.2.1 with
 | true =>
  obtain ⟨q,hq⟩:∃ q,k=q+1:=⟨k-1,by omega⟩
  exact .inr ((congrArg (fun z=>bF.l0 k z s r4.2.1 0 [] 0 0 r4.1.1 true [] r2.2.1 r3.2.1) hq).trans (ri q s _ 0 [] 0 0 _ [] _ _))
 | false=>exact CY hk (by omega) r4.2.1 u5 [] 0 0 _ _ k r4.1.1 0 [] (by omega) (by omega) (by simp only [List.length_nil];omega)
theorem yG {k:Nat} (hk:2 ^ 50≤k) {h:Ty.d di} (q:kR h=true) (z:ab) (z1 z2:Int):∀ (r:ab) (n:Nat) (j:Int) (out:ab),(∀ e ∈ r,e ∈ h.2.2.1)→out++r=h.2.2.1→(out.length:Int)=j→r.length<n →
 bF.l0 k n (c8 h) (h.2.2.1.length:Int) j z z1 z2 (iX r) false out h.1 h.2.1=some (h,(true,()))
 | [],n,j,out,hr,ho,hj,hn=>by
  obtain ⟨n,rfl⟩:∃ q,n=q+1:=⟨n-1,by omega⟩
  have h20:=(gp (kg q)).1
  rw [List.append_nil] at ho
  simp only [bF.l0,bF.b0]
  rw [aP (by rw [← hj,ho];omega),aK,aK,ho,show (h.1,(h.2.1,(h.2.2.1,())))=h from rfl,p_ hk (by omega),aQ,q]
  simp only [ff,aK]
  rw [ql hk (by omega),aQ]
  simp only [cF]
  rfl
 | e::r,n,j,out,hr,ho,hj,hn=>by
  obtain ⟨n,rfl⟩:∃ q,n=q+1:=⟨n-1,by omega⟩
  have hlen:h.2.2.1.length=out.length+(r.length+1):=by rw [← ho,xF,lQ]
  have he:=hr e (oh ..)
  have hd:=kg q
  have h1:vi h.2.2.1=true:=by unfold kR at q;rw [ke,ke,ke] at q;exact q.2.2.2
  have hk8:=((gp hd).2 e he).1.2
  have h20:=(gp hd).1
  have hnum:=E5 hd h1 he
  have hes:=qX (l:=r) fun x hx=>((gp hd).2 x (hr x (qu _ hx))).1.2
  obtain ⟨n1,b1,f1,g1⟩:=ot (hnum e.2.1 (by simp))
  obtain ⟨n2,b2,f2,g2⟩:=ot (hnum e.2.2.1 (by simp))
  obtain ⟨n3,b3,f3,g3⟩:=ot (hnum e.2.2.2.1 (by simp))
  obtain ⟨n4,b4,f4,g4⟩:=ot (hnum e.2.2.2.2.1 (by simp))
  have v1:=ah n1
  have v2:=ah n2
  have v3:=ah n3
  have v4:=ah n4
  have hform:iX (e::r)=bI e.1.size++(e.1++(bI n1++(bI n2++(bI n3++(bI n4++iX r))))):=by
   rw [show iX (e::r)=jF e++iX r from rfl,AL e hk8]
   simp only [dK,gS,ar,g1,g2,g3,g4]
  have ih:=yG hk q z z1 z2 r n (j+1) (out++[e]) (fun x hx=>hr x (qu _ hx)) (by rw [s7];exact ho) (by rw [bK];omega) (by rw [lQ] at hn;omega)
  have hl20:r.length≤20:=by omega
  rw [hform]
  simp only [bF.l0,bF.b0]
  rw [aO (by omega),aY,qj,aY,nk hk (by omega) (by simp only [aN];omega),aQ]
  simp only []
  rw [fW hk b1 (by simp only [aN];omega),aQ]
  simp only []
  rw [fW hk b2 (by simp only [aN];omega),aQ]
  simp only []
  rw [fW hk b3 (by simp only [aN];omega),aQ]
  simp only []
  rw [fW hk b4 (by omega),aQ]
  simp only []
  rw [bO (by omega) (by decide),aE (n:=j+1) (by omega) (by omega),← f1,← f2,← f3,← f4]
  exact ih
theorem He {k:Nat} (hk:2 ^ 50≤k) {h:Ty.d di} (q:kR h=true):bF.f k (c8 h)=some (h,(true,())):=by
 have h20:=(gp (kg q)).1
 have hes:=qX (l:=h.2.2.1) fun x hx=>((gp (kg q)).2 x hx).1.2
 have hnum:=Ae q
 obtain ⟨n1,b1,f1,g1⟩:=ot (hnum h.1 (by simp))
 obtain ⟨n2,b2,f2,g2⟩:=ot (hnum h.2.1 (by simp))
 obtain ⟨n3,b3,f3,g3⟩:=ot (hnum (h.2.2.1.length:Int) (by simp))
 have v1:=ah n1
 have v2:=ah n2
 have v3:=ah n3
 have hform:c8 h=qn (p9 (pO h))++(bI n1++(bI n2++(bI n3++iX h.2.2.1))):=by
  rw [su q]
  simp only [dK,gS,ar,g1,g2,g3]
 have hl:=yG hk q [] 0 0 h.2.2.1 k 0 [] (fun e he=>he) rfl rfl (by omega)
 unfold bF.f bF.t
 have eb:=s5 k (qn (p9 (pO h))) (bI n1++(bI n2++(bI n3++iX h.2.2.1)))
 rw [← hform,sX] at eb
 rw [show an.f k (c8 h,(false,())) 4=_ from eb,aQ]
 simp only []
 rw [fW hk b1 (by simp only [aN];omega),aQ]
 simp only []
 rw [fW hk b2 (by simp only [aN];omega),aQ]
 simp only []
 rw [fW hk b3 (by omega),aQ]
 simp only []
 rw [← f1,← f2,← f3]
 exact hl
theorem wS {k:Nat} (hk:2 ^ 50≤k) {s:ByteArray} (hs:s.size≤1073741824):bF.f k s=some ((fq s).1,((fq s).2,())) :=
 my (fun h h1 h2=>by rw [← h2];exact He hk h1) (Ey hk hs)
theorem qN {s:ByteArray}:(fq s).1.2.2.1.length≤20:=by
 rcases iU (fun h=>kR h=true) c8 nX s with ⟨r,h1,_,e⟩ | e
 · unfold fq
   rw [e]
   exact (gp (kg h1)).1
 · unfold fq
   rw [e]
   exact Nat.zero_le _
def iV:Ty.d aG:=((0,([],())),([],(0,(0,(0,())))))
noncomputable def na (d:Ty.d a_) (x:Int) (last:Bool):Bool:=(ae d (aC aL x)).2&&(last||!decide ((aw (dh d x)).2<((dh d x).size:Int)))
noncomputable def eL (d:Ty.d a_):List Int→Bool
 | []=>true
 | x::l=>na d x l.isEmpty&&eL d l
noncomputable def mS (d:Ty.d a_) (x:Int):bB:=gj x (aw (dh d x)).1
noncomputable def jx (d:Ty.d a_):List Int→bB
 | []=>[]
 | x::l=>mS d x++jx d l
noncomputable def lT (d:Ty.d a_) (x:Int):Ty.d di:=(fq (ae d (aC bp x)).1).1
noncomputable def km (d:Ty.d a_) (x:Int):Bool:=(ae d (aC bp x)).2&&((fq (ae d (aC bp x)).1).2&&lu x (dh d x) (lT d x))
noncomputable def ll (d:Ty.d a_) (ids:List Int):Ty.d gB :=
 bif km d (ids.getD 0 0) then kq ((lT d (ids.getD 0 0)).2.2.1,((lT d (ids.getD 0 0)).2.1,(0,()))) (jx d (ids.drop 1)) else kq ([],(0,(0,()))) (jx d ids)
noncomputable def Fz (v:Ty.d ay) (en:Int) (g:Ty.d gB) (hi:Int):Ty.d aG:=(v,(g.1,(aF (g.2.1+1),(en,(hi,())))))
noncomputable def sd (v:Ty.d ay) (en:Int) (x:Ty.d a_) (g:Ty.d gB) (hi:Int):Ty.d aG × RD :=
 bif g.2.2.1 != 0 then (iV,(x,3)) else bif (iO v.2.1 x).2 != 0 then (iV,((iO v.2.1 x).1,fj (iO v.2.1 x).2)) else
 (Fz v en g hi,((iO v.2.1 x).1,0))
noncomputable def js (v:Ty.d ay) (d:Ty.d a_):Ty.d aG × RD :=
 bif !eL d v.2.1 then (iV,(d,3)) else
 bif (gn (aa v.2.1) d).2 != 0 then (iV,((gn (aa v.2.1) d).1,fj (gn (aa v.2.1) d).2)) else
 sd v (aw (dh d (aa v.2.1))).2 (gn (aa v.2.1) d).1 (ll (gn (aa v.2.1) d).1 v.2.1) (bif km (gn (aa v.2.1) d).1 (v.2.1.getD 0 0) then v.2.1.getD 0 0 else 0)
def sy:Ty.d ay:=(2,([1],()))
noncomputable def ib (d:Ty.d a_):RD:=gD (gD (iO [] d) fun x=>pQ x (aC aL 1)) (db sy)
noncomputable def kY (d:Ty.d a_):Ty.d aG × RD :=
 bif (ib d).2==0 then ((sy,([],(1,(0,(0,()))))),((ib d).1,0)) else (iV,((ib d).1,fj (ib d).2))
noncomputable def fD (d:Ty.d a_):Ty.d aG × RD :=
 bif !fJ d then (iV,(d,4)) else bif d.2.2.2.1 then (iV,(d,1)) else
 bif !(ae d d_).2 then kY d else
 bif !(cr (ae d d_).1).2 then (iV,(d,3)) else js (cr (ae d d_).1).1 d
def oS (q:Ty.d aG × RD):Ty.d aG × Ty.d a_ × Int × Unit:=(q.1,(q.2.1,(q.2.2,())))
theorem Fv {lim:Int}:∀ (l:List Int) (p:Option Int),qs (nz lim) p l=true→(∀ q,p=some q→∀ x ∈ l,q<x)∧l.Pairwise (fun a b=>a<b)
 | [],p,_=>⟨fun q _ x hx=>(by cases hx),List.Pairwise.nil⟩
 | y::l,p,h=>by
  unfold qs at h
  rw [ke] at h
  obtain ⟨h1,h2⟩:=h
  obtain ⟨a,b⟩:=Fv l (some y) h2
  have hy:∀ q,p=some q→q<y:=fun q hq=>by
   subst hq
   unfold nz at h1
   rw [ke] at h1
   exact of_decide_eq_true h1.2
  refine ⟨fun q hq x hx=>?_,List.pairwise_cons.2 ⟨a y rfl,b⟩⟩
  rcases List.mem_cons.1 hx with e | e
  · rw [e];exact hy q hq
  · have:=a y rfl x e
    have:=hy q hq
    omega
theorem Hc {v:Ty.d ay} (h:dG v=true):v.2.1.Pairwise (fun a b=>a<b):=by
 unfold dG at h
 rw [ke,ke] at h
 exact (Fv _ _ h.2.2).2
theorem J9 {α:Type} {l m:List α} {n:Nat} {z:α} (h:l.length≤n):(l++m).getD n z=m.getD (n-l.length) z:=by
 simp [List.getD,List.getElem?_append_right h]
theorem KC {ids:List Int} (hp:ids.Pairwise (fun a b=>a<b)) {i:Nat} {x:Int} {rest:List Int} (h:ids.drop i=x::rest):(x==aa ids)=rest.isEmpty:=by
 have hi:=Jy h
 have hlen:=congrArg List.length h
 rw [List.length_drop,lQ] at hlen
 have e:ids=ids.take i++(x::rest):=by rw [← h,List.take_append_drop]
 have hl:aa ids=(x::rest).getD rest.length 0:=by
  unfold aa
  have ht:(ids.take i).length=i:=by rw [List.length_take];omega
  conv=>lhs;rw [e]
  rw [J9 (by rw [ht,xF,ht,lQ];omega),ht,xF,ht,lQ]
  congr 1
  omega
 cases rest with
 | nil=>rw [hl];exact beq_self_eq_true x
 | cons y r =>
  rw [hl]
  have hm:(x::y::r).getD (y::r).length 0 ∈ y::r:=by
   show (y::r).getD r.length 0 ∈ y::r
   exact dx (by rw [lQ];omega)
  have hpd:(x::y::r).Pairwise (fun a b=>a<b):=by rw [← h];exact hp.drop
  have:=(List.pairwise_cons.1 hpd).1 _ hm
  exact nw (by omega)
theorem lx {d:Ty.d a_} (h:DR d) (x:Int):(dh d x).size≤100000:=by
 have:=iS d (aC aL x)
 have h2:=h.use
 have h3:=h.cap1
 unfold dh
 omega
theorem rY {d:Ty.d a_} (h:DR d) (x:Int):(mS d x).length≤100000:=by
 have h1:=lx h x
 have h2:=gz (dh d x)
 unfold mS
 rw [CU]
 omega
theorem mg {d:Ty.d a_} (h:DR d):∀ l:List Int,(jx d l).length≤100000*l.length
 | []=>Nat.zero_le _
 | x::l=>by
  have h1:=rY h x
  have h2:=mg h l
  unfold jx
  rw [xF,lQ]
  omega
theorem Fu (k:Nat):∀ n,ed.l1 k n=bG.l0 k n
 | 0=>rfl
 | n+1=>by show ed.b1 k (ed.l1 k n)=bG.b0 k (bG.l0 k n);rw [Fu k n];rfl
theorem KG (k:Nat):∀ n,ed.l0 k n=bG.l0 k n
 | 0=>rfl
 | n+1=>by show ed.b0 k (ed.l1 k n)=bG.b0 k (bG.l0 k n);rw [Fu k n];rfl
theorem Lc (k:Nat):ed.f k=bG.f k:=by
 unfold ed.f bG.f
 rw [KG k k]
 rfl
theorem Bn {k:Nat} (hk:2 ^ 50≤k) {d:Ty.d a_} (h:DR d):im.f k d=some (oS (kY d)):=by
 have h1:=ut [] d h
 have hv:dG sy=true:=by decide
 unfold im.f im.t kY ib
 rw [Lc k,uD hk h (by decide),aQ]
 simp only [show ((0,(([]:List Int),())):Ty.d ay).2.1=[] from rfl]
 generalize iO [] d=r at h1 ⊢
 unfold gD
 simp only [bne,j7]
 cases c:r.2==0 with
 | false=>simp only [qj,aY,aK,c];rfl
 | true =>
  simp only [ff,aK,aY]
  rw [ba hk,aQ]
  simp only []
  have hn:=ro (.inl rfl:aL=aL∨aL=bp) 1
  rw [o_ hk h1.sz (by omega),aQ]
  simp only [dF,aQ]
  cases c2:(pQ r.1 (aC aL 1)).2==0 with
  | false=>simp only [qj,aY,aK,c2];rfl
  | true =>
   simp only [ff,aK,aY]
   rw [show ((2,([1],())):Ty.d ay)=sy from rfl,oU hk (tA h1 _) hv,aQ]
   simp only [j7]
   cases c3:(db sy (pQ r.1 (aC aL 1)).1).2==0 <;> rfl
def K6 (k:Nat) (v:Ty.d ay) (en:Int) (x:Ty.d a_) (hi:Int) (dir:ab) (la:Int) (pl:bB):Option (Ty.d aG × Ty.d a_ × Int × Unit) :=
 (Option.bind (cM.f k (dir,(la,(0,()))) pl) fun r33=>(bif (r33.1.2.2.1 != 0) then (some (iV,(x,(3,())))) else
 (Option.bind (bG.f k x v) fun r34=>(bif (r34.2.1 != 0) then (some (iV,r34)) else (some ((v,(r33.1.1,((aF (r33.1.2.1+1)),(en,(hi,()))))),(r34.1,(0,()))))))))
theorem Fs {k:Nat} (hk:2 ^ 50≤k) {v:Ty.d ay} (hv:v.2.1.length≤60) (en:Int) {x:Ty.d a_} (h:DR x) (hi:Int) {dir:ab} (hd:dir.length≤1000) (la:Int) {pl:bB} (hp:pl.length≤100000000) :
 K6 k v en x hi dir la pl=some (oS (sd v en x (kq (dir,(la,(0,()))) pl) hi)):=by
 unfold K6 sd
 rw [xf hk _ (by omega) (by show dir.length≤_;omega),aQ]
 simp only [bne]
 cases (kq (dir,(la,(0,()))) pl).2.2.1==0 with
 | false=>rfl
 | true =>
  simp only [ff,aK]
  rw [uD hk h (by omega),aQ]
  simp only [j7]
  cases (iO v.2.1 x).2==0 <;> rfl
theorem Lm {k:Nat} (hk:2 ^ 50≤k) {v:Ty.d ay} (hv:v.2.1.length≤60) (en:Int) {x:Ty.d a_} (h:DR x) (hi:Int) (dir:ab) (la:Int) :
 ∀ (n:Nat) (i:Int) (pl:bB),0≤i→i≤(v.2.1.length:Int)→(v.2.1.length:Int)-i<n→1≤i∧(pl.length:Int)≤100000*i →
 bd.l1 k n i [] [] 0 0 0 0 [] 0 0 false [] [] 0 0 0 0 v.2.1 v.1 x.1 x.2.1 x.2.2.1 x.2.2.2.1 [] v.1 0 en hi dir la 0 pl=K6 k v en x hi dir la (pl++jx x (v.2.1.drop i.toNat)):=by
 have hl:=h.sz.l
 have hu:=h.sz.u
 have hn:=h.sz.n
 refine Is (L:=fun n i pl=>bd.l1 k n i [] [] 0 0 0 0 [] 0 0 false [] [] 0 0 0 0 v.2.1 v.1 x.1 x.2.1 x.2.2.1 x.2.2.2.1 [] v.1 0 en hi dir la 0 pl) (R:=fun r pl=>K6 k v en x hi dir la (pl++jx x r)) (Ty.z (.int .i64)) v.2.1 (fun i pl=>1≤i∧(pl.length:Int)≤100000*i) (fun n pl hp=>?_) (fun n i pl y rest h0 h1 hy hr hp ih=>?_)
 · simp only [bd.l1,bd.b1]
   rw [aP (by omega),aK,show jx x []=[] from rfl,List.append_nil]
   rfl
 · have hs:=lx h y
   have hpl:=rY h y
   have ht:=iS x (aC bp y)
   have ih:=ih (pl++mS x y) ⟨by omega,by rw [xF];omega⟩
   simp only [bd.l1,bd.b1]
   rw [aO h1,aY,aH h0 h1,hy,ba hk,aQ]
   simp only []
   rw [show (x.1,(x.2.1,(x.2.2.1,(x.2.2.2.1,()))))=x from rfl,iF hk (by omega) (by omega) (by omega),aQ,aH h0 h1,iQ hk,aQ]
   simp only []
   rw [iF hk (by omega) (by omega) (by omega),aQ]
   simp only []
   rw [qc hk (by omega),aQ,show (i==0)=false from nw (by omega)]
   simp only [aK]
   rw [aH h0 h1,sv hk y (by show (dh x y).size≤_;omega),aQ]
   simp only []
   rw [bO (by show pl.length+(mS x y).length≤_;omega) (by decide),aE (n:=i+1) (by omega) (by omega)]
   refine ih.trans ?_
   rw [s7]
   rfl
theorem yX {k:Nat} (hk:2 ^ 50≤k) {v:Ty.d ay} (hv:v.2.1.length≤60) (hv1:1≤v.2.1.length) (en:Int) {x:Ty.d a_} (h:DR x) :
 bd.l1 k k 0 [] [] 0 0 0 0 [] 0 0 false [] [] 0 0 0 0 v.2.1 v.1 x.1 x.2.1 x.2.2.1 x.2.2.2.1 [] v.1 0 en 0 [] 0 0 []=some (oS (sd v en x (ll x v.2.1) (bif km x (v.2.1.getD 0 0) then v.2.1.getD 0 0 else 0))):=by
 have hl:=h.sz.l
 have hu:=h.sz.u
 have hn:=h.sz.n
 obtain ⟨n,hn2⟩:∃ q,k=q+1:=⟨k-1,by omega⟩
 have hs:=lx h (v.2.1.getD 0 0)
 have hpl:=rY h (v.2.1.getD 0 0)
 have ht:=iS x (aC bp (v.2.1.getD 0 0))
 have hpa:=mg h (v.2.1.drop 1)
 have hpb:=mg h v.2.1
 rw [List.length_drop] at hpa
 have hh:=qN (s:=(ae x (aC bp (v.2.1.getD 0 0))).1)
 have step:=fun hi dir la pl=>Lm hk hv en h hi dir la n 1 pl (by omega) (by omega) (by omega)
 refine (congrArg (fun z=>bd.l1 k z 0 [] [] 0 0 0 0 [] 0 0 false [] [] 0 0 0 0 v.2.1 v.1 x.1 x.2.1 x.2.2.1 x.2.2.2.1 [] v.1 0 en 0 [] 0 0 []) hn2).trans ?_
 have hsplit:v.2.1=v.2.1.getD 0 0::v.2.1.drop 1:=by
  have:=pU (0:Int) (l:=v.2.1) (i:=0) (by omega)
  rw [List.drop_zero] at this
  exact this
 simp only [bd.l1,bd.b1]
 rw [aO (by omega),aY,aH (by omega) (by omega),show List.getD v.2.1 (Int.toNat 0) (Ty.z (.int .i64))=v.2.1.getD 0 0 from rfl,ba hk,aQ]
 simp only []
 rw [show (x.1,(x.2.1,(x.2.2.1,(x.2.2.2.1,()))))=x from rfl,iF hk (by omega) (by omega) (by omega),aQ,aH (by omega) (by omega),iQ hk,aQ]
 simp only []
 rw [iF hk (by omega) (by omega) (by omega),aQ]
 simp only []
 rw [qc hk (by omega),aQ,show ((0:Int)==0)=true from rfl]
 simp only [aY]
 rw [sv hk (v.2.1.getD 0 0) (by show (dh x (v.2.1.getD 0 0)).size≤_;omega),aQ]
 simp only []
 rw [bO (by show ([]:bB).length+(mS x (v.2.1.getD 0 0)).length≤_;rw [List.length_nil];omega) (by decide),aE (n:=(0:Int)+1) (by omega) (by omega),aH (by omega) (by omega)]
 rw [show List.getD v.2.1 0 (Ty.z (.int .i64))=v.2.1.getD 0 0 from rfl]
 rw [wh hk _ (by show (dh x (v.2.1.getD 0 0)).size≤_;omega),aQ]
 simp only []
 have no:bd.l1 k n (0+1) [] [] 0 0 0 0 [] 0 0 false [] [] 0 0 0 0 v.2.1 v.1 x.1 x.2.1 x.2.2.1 x.2.2.2.1 [] v.1 0 en 0 [] 0 0 ([]++gj (v.2.1.getD 0 0) (aw (ae x (aC aL (v.2.1.getD 0 0))).1).1)=some (oS (sd v en x (kq ([],(0,(0,()))) (jx x v.2.1)) 0)):=by
  refine (step 0 [] 0 (mS x (v.2.1.getD 0 0)) ⟨by omega,by omega⟩).trans ?_
  rw [show mS x (v.2.1.getD 0 0)++jx x (v.2.1.drop (Int.toNat 1))=jx x (v.2.1.getD 0 0::v.2.1.drop 1) from rfl,← hsplit]
  exact Fs hk hv en h 0 (by simp) 0 (by omega)
 unfold ll km lT
 show (bif (ae x (aC bp (v.2.1.getD 0 0))).2 then (bif (fq (ae x (aC bp (v.2.1.getD 0 0))).1).2 then (bif lu (v.2.1.getD 0 0) (dh x (v.2.1.getD 0 0)) (fq (ae x (aC bp (v.2.1.getD 0 0))).1).1 then _ else _) else _) else _)=_
 cases (ae x (aC bp (v.2.1.getD 0 0))).2 with
 | false=>simp only [aK,Bool.false_and];rw [aH (by omega) (by omega)];exact no
 | true =>
  cases (fq (ae x (aC bp (v.2.1.getD 0 0))).1).2 with
  | false=>simp only [aK,aY,Bool.false_and,Bool.true_and];rw [aH (by omega) (by omega)];exact no
  | true =>
   cases lu (v.2.1.getD 0 0) (dh x (v.2.1.getD 0 0)) (fq (ae x (aC bp (v.2.1.getD 0 0))).1).1 with
   | false=>simp only [aK,aY,Bool.true_and];rw [aH (by omega) (by omega)];exact no
   | true =>
    simp only [aY,Bool.true_and]
    rw [aH (by omega) (by omega)]
    refine (step (v.2.1.getD 0 0) (fq (ae x (aC bp (v.2.1.getD 0 0))).1).1.2.2.1 (fq (ae x (aC bp (v.2.1.getD 0 0))).1).1.2.1 [] ⟨by omega,by simp⟩).trans ?_
    rw [List.nil_append,show (1:Int).toNat=1 from rfl]
    exact Fs hk hv en h _ (by omega) _ (by omega)
theorem Fl (k:Nat):∀ n,bd.l2 k n=bd.l1 k n
 | 0=>rfl
 | n+1=>by show bd.b2 k (bd.l2 k n)=bd.b1 k (bd.l1 k n);rw [Fl k n];rfl
theorem LP {k:Nat} (hk:2 ^ 50≤k) {v:Ty.d ay} (hv:dG v=true) {d:Ty.d a_} (h:DR d) :
 bd.l0 k k (aa v.2.1) 0 d.1 d.2.1 d.2.2.1 d.2.2.2.1 [] [] 0 0 0 0 [] 0 0 false [] [] 0 0 0 0 v.2.1 v.1=some (oS (js v d)):=by
 obtain ⟨_,_,hv1,hv2,_⟩:=dY (nx:=v.1) (ids:=v.2.1) hv
 have hrise:=Hc hv
 have hl:=h.sz.l
 have hu:=h.sz.u
 have hn:=h.sz.n
 have hs:=lx h (aa v.2.1)
 have hsc:=gz (dh d (aa v.2.1))
 have hfin:∀ n:Nat,bd.l0 k (n+1) (aa v.2.1) (v.2.1.length:Int) d.1 d.2.1 d.2.2.1 d.2.2.2.1 [] [] 0 0 0 0 [] 0 0 false [] [] 0 0 0 0 v.2.1 v.1 =
  some (oS (bif (gn (aa v.2.1) d).2 != 0 then (iV,((gn (aa v.2.1) d).1,fj (gn (aa v.2.1) d).2)) else sd v (aw (dh d (aa v.2.1))).2 (gn (aa v.2.1) d).1 (ll (gn (aa v.2.1) d).1 v.2.1) (bif km (gn (aa v.2.1) d).1 (v.2.1.getD 0 0) then v.2.1.getD 0 0 else 0))):=fun n=>by
  simp only [bd.l0,bd.b0]
  rw [aP (by omega),aK,ba hk,aQ]
  simp only []
  rw [show (d.1,(d.2.1,(d.2.2.1,(d.2.2.2.1,()))))=d from rfl,iF hk (by omega) (by omega) (by omega),aQ]
  simp only [show (ae d (aC aL (aa v.2.1))).1=dh d (aa v.2.1) from rfl]
  rw [nB hk (by omega),aQ,kD k h.sz,aQ,Fl]
  simp only []
  show (bif decide ((aw (dh d (aa v.2.1))).2<((dh d (aa v.2.1)).size:Int)) then _ else _)=_
  unfold gn
  cases decide ((aw (dh d (aa v.2.1))).2<((dh d (aa v.2.1)).size:Int)) with
  | true =>
   simp only [aY]
   simp only [aQ]
   rw [FM hk h.sz,aQ]
   simp only [dF,aQ]
   unfold gD
   simp only [bne]
   show (bif !((mN d (aC aL (aa v.2.1)) (aw (dh d (aa v.2.1))).2).2==0) then _ else _)=_
   have h1:=vL h (aC aL (aa v.2.1)) (aw (dh d (aa v.2.1))).2
   generalize mN d (aC aL (aa v.2.1)) (aw (dh d (aa v.2.1))).2=r at h1
   cases c:r.2==0 with
   | false=>simp only [qj,aY,aK,c];rfl
   | true =>
    simp only [ff,aK,aY]
    rw [lq hk h1.sz,aQ]
    simp only []
    have h2:=nP h1 (aC aL (aa v.2.1))
    generalize iv r.1 (aC aL (aa v.2.1))=q at h2
    cases c2:q.2==0 with
    | false=>rfl
    | true =>
     simp only [ff,aK]
     exact yX hk hv2 hv1 _ h2
  | false =>
   simp only [aK]
   simp only [aQ]
   rw [lq hk h.sz,aQ]
   simp only [dF,aQ]
   unfold gD
   simp only [bne,show ((0:Int)==0)=true from rfl,aY]
   have h2:=nP h (aC aL (aa v.2.1))
   generalize iv d (aC aL (aa v.2.1))=q at h2
   cases c2:q.2==0 with
   | false=>rfl
   | true =>
    simp only [ff,aK]
    exact yX hk hv2 hv1 _ h2
 unfold js
 refine (eV (L:=fun n i (_:Unit)=>bd.l0 k n (aa v.2.1) i d.1 d.2.1 d.2.2.1 d.2.2.2.1 [] [] 0 0 0 0 [] 0 0 false [] [] 0 0 0 0 v.2.1 v.1) (R:=fun r _=>bif eL d r then some (oS (bif (gn (aa v.2.1) d).2 != 0 then (iV,((gn (aa v.2.1) d).1,fj (gn (aa v.2.1) d).2)) else sd v (aw (dh d (aa v.2.1))).2 (gn (aa v.2.1) d).1 (ll (gn (aa v.2.1) d).1 v.2.1) (bif km (gn (aa v.2.1) d).1 (v.2.1.getD 0 0) then v.2.1.getD 0 0 else 0))) else some (oS (iV,(d,3)))) (Ty.z (.int .i64)) v.2.1 (fun _ _=>True) (fun n _ _=>hfin n) (fun n i _ y rest h0 h1 hy hr hp ih=>?_) (n:=k) (s:=()) (by omega) trivial).trans (by cases eL d v.2.1 <;> rfl)
 have ih:=ih () trivial
 have hsy:=lx h y
 have hlast:=KC hrise hr
 simp only [bd.l0,bd.b0]
 rw [aO h1,aY,aH h0 h1,hy,ba hk,aQ]
 simp only []
 rw [show (d.1,(d.2.1,(d.2.2.1,(d.2.2.2.1,()))))=d from rfl,iF hk (by omega) (by omega) (by omega),aQ]
 simp only []
 rw [nB hk (by show (dh d y).size≤_;omega),aQ,kD k h.sz,aQ,aH h0 h1,aE (n:=i+1) (by omega) (by omega),ih]
 rw [show eL d (y::rest)=(na d y rest.isEmpty&&eL d rest) from rfl]
 unfold na bne
 rw [hlast]
 show (bif !(ae d (aC aL y)).2 then _ else bif !rest.isEmpty then (bif decide ((aw (dh d y)).2<((dh d y).size:Int)) then _ else _) else _)=_
 cases (ae d (aC aL y)).2 with
 | false=>rfl
 | true =>
  cases rest.isEmpty with
  | true=>rfl
  | false=>cases decide ((aw (dh d y)).2<((dh d y).size:Int)) <;> rfl
theorem qz {k:Nat} (hk:2 ^ 50≤k) {d:Ty.d a_} (hd:p6 d):bd.f k d=some (oS (fD d)):=by
 have hl:=hd.l
 have hu:=hd.u
 have hn:=hd.n
 unfold bd.f bd.t fD
 rw [kw hk (by omega) (by omega),aQ,kD k hd]
 cases c:fJ d with
 | false=>rfl
 | true =>
  have h:=dO.1 c
  simp only [ff,aK,aQ]
  cases cdn:d.2.2.2.1 with
  | true=>rfl
  | false =>
   simp only [aK]
   rw [show (⟨#[108,105,118,101]⟩:ByteArray)=d_ from rfl,iF hk (by omega) (by omega) (by omega),aQ]
   simp only []
   cases (ae d d_).2 with
   | false =>
    simp only [qj,aY]
    rw [Bn hk h]
    rfl
   | true =>
    have hz:=iS d d_
    simp only [ff,aK]
    rw [wn hk (by omega),aQ]
    simp only []
    rcases iU (fun v=>dG v=true) ap ((0,([],())):Ty.d ay) (ae d d_).1 with ⟨v,h1,_,e⟩ | e
    · rw [show cr (ae d d_).1=(v,true) from e]
      simp only [ff,aK]
      obtain ⟨_,_,hv1,hv2,_⟩:=dY (nx:=v.1) (ids:=v.2.1) h1
      have w:aF ((v.2.1.length:Int)-1)=((v.2.1.length-1:Nat):Int):=by rw [aE (by omega) (by omega)];omega
      rw [w,nU,aH (by omega) (by omega)]
      have:=LP hk h1 h
      rw [cdn] at this
      exact this
    · rw [show cr (ae d d_).1=((0,([],())),false) from e]
      rfl
end Go.Proofs.YtgnakpiicdfpkaaGreatDoor.G

/- Plain laws, merged; what is proved here is told ahead of each part. -/
import Derived.Test.YtijlgdoiofdmhaaGreatDoorZK1
set_option linter.unusedVariables false
set_option linter.unusedSimpArgs false
namespace Go.Proofs.YtijlgdoiofdmhaaGreatDoor.G
open Go.V
def bg:ByteArray:=⟨#[104,105,110,116]⟩
theorem js {k:Nat} (hk:2 ^ 50≤k) (n:Int):dO.f k n=some (aB bg n,()):=by
 unfold dO.f dO.t aB;rw [fC,aJ];by_cases c:(1:Int)≤n∧n≤100000
 · have hz:=ny (n:=n) (by omega) (by omega);rw [aK c];simp only [eQ,aI,aU];rw [s5 hk (by omega) (by omega),aJ,eL (by show 4+(hZ n).size≤_;omega)];rfl
 · rw [aN c];rfl
def Lj (s:ByteArray) (n:Int):Prop:=1≤n∧n≤100000∧(s=aO++hZ n∨s=bg++hZ n)
theorem zK (a b:ByteArray):aO++a≠bg++b:=fun h=>by have:=congrArg nb h;rw [jr,jr,show nb aO=[115,101,103] from rfl,show nb bg=[104,105,110,116] from rfl] at this;simp at this
theorem I8 {s:ByteArray} {n m:Int} (h:Lj s n) (g:Lj s m):n=m:=by
 rcases h.2.2 with h1 | h1 <;> rcases g.2.2 with g1 | g1
 · exact zv (v_ (h1.symm.trans g1))
 · exact absurd (h1.symm.trans g1) (zK _ _)
 · exact absurd (g1.symm.trans h1) (zK _ _)
 · exact zv (v_ (h1.symm.trans g1))
theorem JB {s:ByteArray} {n:Int} (hs:0<s.size) (h:(seq (aB aO n) s||seq (aB bg n) s)=true):Lj s n:=by
 unfold aB at h;by_cases c:(1:Int)≤n∧n≤100000
 · rw [aK c,Bool.or_eq_true] at h;exact ⟨c.1,c.2,h.imp (fun q=>(dT.1 q).symm) (fun q=>(dT.1 q).symm)⟩
 · rw [aN c,Bool.or_eq_true] at h;rcases h with q | q
   · rw [← dT.1 q] at hs;exact absurd hs (Nat.lt_irrefl 0)
   · rw [← dT.1 q] at hs;exact absurd hs (Nat.lt_irrefl 0)
theorem Ij {s:ByteArray} {n:Int} (h:Lj s n):(seq (aB aO n) s||seq (aB bg n) s)=true:=by obtain ⟨h0,h1,h2⟩:=h;unfold aB;rw [aK ⟨h0,h1⟩,Bool.or_eq_true];exact h2.imp (fun q=>dT.2 q.symm) (fun q=>dT.2 q.symm)
noncomputable def Jb (s:ByteArray):Int × Bool:=qN (Lj s) (fun _=>s) 0 s
theorem KM (n:Int):0<(hZ n).size:=by
 rw [← dD,rX];split
 · rw [lq];omega
 · rw [List.length_map];exact List.length_pos_iff.2 (oy _)
theorem wh (s:ByteArray) (n:Nat):(ByteArray.extract s n s.size).size=s.size-n:=by rw [← dD,k8,List.length_drop,dD]
noncomputable def zC (s:ByteArray) (i:Nat):Bool :=
 decide ((s.size:Int) > (i:Int))&&((f_ (ByteArray.extract s i s.size)).2&&(decide ((f_ (ByteArray.extract s i s.size)).1≥1)&&(seq (aB aO (f_ (ByteArray.extract s i s.size)).1) s||seq (aB bg (f_ (ByteArray.extract s i s.size)).1) s)))
theorem I0 {k:Nat} (hk:2 ^ 50≤k) {s:ByteArray} (hs:s.size≤1099511627776) (m i:Nat) (hi:i≤4) :
 iz.l0 k (m+1) s (i:Int)=bif zC s i then some ((f_ (ByteArray.extract s i s.size)).1,(true,())) else iz.l0 k m s ((i+1:Nat):Int):=by
 have hz:=wh s i;simp only [iz.l0,iz.b0];rw [aK (show (i:Int)≤4 by omega),aU,aC (by omega) (by omega),show (i:Int)+1=((i+1:Nat):Int) by omega];unfold zC;by_cases c:(s.size:Int) > (i:Int)
 · rw [aK c,aU,bv (by omega) (by omega),Int.toNat_natCast,A0 hk (by omega),aJ];simp only [c8 hk,js hk,aJ];generalize f_ (ByteArray.extract s i s.size)=r;cases r.2 <;> cases decide (r.1≥1) <;> cases seq (aB aO r.1) s <;> cases seq (aB bg r.1) s <;> rfl
 · rw [aN c];rfl
theorem Db {s:ByteArray} {i:Nat} (h:zC s i=true):Lj s (f_ (ByteArray.extract s i s.size)).1:=by unfold zC at h;simp only [lP,decide_eq_true_eq] at h;exact JB (by omega) h.2.2.2
theorem Ka {p:ByteArray} {n:Int} (h:Lj (p++hZ n) n):zC (p++hZ n) p.size=true∧(f_ (ByteArray.extract (p++hZ n) p.size (p++hZ n).size)).1=n:=by have hd:Nh n:=⟨by have:=h.1;omega,by have:=h.2.1;omega⟩;have hp:=KM n;rw [show ByteArray.extract (p++hZ n) p.size (p++hZ n).size=hZ n from gO p (hZ n)];unfold zC;rw [show ByteArray.extract (p++hZ n) p.size (p++hZ n).size=hZ n from gO p (hZ n),xq hd];refine ⟨?_,rfl⟩;simp only [];rw [Ij h,aK (by rw [ByteArray.size_append];omega),aK h.1];rfl
theorem JI {k:Nat} (hk:2 ^ 50≤k) {s:ByteArray} (hs:s.size≤1099511627776):iz.f k s=some ((Jb s).1,((Jb s).2,())):=by
 have e:iz.f k s=bif zC s 3 then some ((f_ (ByteArray.extract s 3 s.size)).1,(true,())) else bif zC s 4 then some ((f_ (ByteArray.extract s 4 s.size)).1,(true,())) else some (0,(false,())):=by unfold iz.f iz.t;obtain ⟨m,hm⟩:∃ m,k=m+3:=⟨k-3,by omega⟩;have h3:=I0 hk hs (m+2) 3 (by omega);have h4:=I0 hk hs (m+1) 4 (by omega);have h5:iz.l0 k (m+1) s ((5:Nat):Int)=some (0,(false,())):=rfl;rw [← hm] at h3;rw [show (3:Int)=((3:Nat):Int) from rfl,h3,h4,h5]
 rw [e];refine oA (fun n h1 _=>?_) ?_
 · rcases h1.2.2 with q | q
   · have:=Ka (p:=aO) (n:=n) (by rw [← q];exact h1);rw [← q,show aO.size=3 from rfl] at this;rw [this.1,this.2];rfl
   · cases c:zC s 3 with
     | true=>rw [I8 h1 (Db c)];rfl
     | false =>have:=Ka (p:=bg) (n:=n) (by rw [← q];exact h1);rw [← q,show bg.size=4 from rfl] at this;rw [this.1,this.2];rfl
 · cases c:zC s 3 with
   | true=>exact .inl ⟨_,Db c,rfl,rfl⟩
   | false =>
    cases c4:zC s 4 with
    | true=>exact .inl ⟨_,Db c4,rfl,rfl⟩
    | false=>exact .inr rfl
noncomputable def BE (s p:ByteArray):Option (Int × Bool × Unit) :=
 bif sI s p&&((f_ (ByteArray.extract s p.size s.size)).2&&decide ((1:Int)≤(f_ (ByteArray.extract s p.size s.size)).1∧(f_ (ByteArray.extract s p.size s.size)).1≤100000)) then some ((f_ (ByteArray.extract s p.size s.size)).1,(true,())) else some (0,(false,()))
theorem KU {s p:ByteArray} (h:BE s p≠some (0,(false,()))):∃ n,1≤n∧n≤100000∧s=p++hZ n∧BE s p=some (n,(true,())):=by
 unfold BE at h ⊢;cases c:sI s p&&((f_ (ByteArray.extract s p.size s.size)).2&&decide ((1:Int)≤(f_ (ByteArray.extract s p.size s.size)).1∧(f_ (ByteArray.extract s p.size s.size)).1≤100000)) with
 | false=>rw [c] at h;exact absurd rfl h
 | true =>
  simp only [lP,decide_eq_true_eq] at c;obtain ⟨c1,c2,c3⟩:=c;have e:f_ (ByteArray.extract s p.size s.size)=((f_ (ByteArray.extract s p.size s.size)).1,true):=by rw [← c2]
  have q:=Ci e;exact ⟨_,c3.1,c3.2,by rw [q.2];exact AZ c1,rfl⟩
theorem Jm {p:ByteArray} {n:Int} (h0:1≤n) (h1:n≤100000):BE (p++hZ n) p=some (n,(true,())):=by unfold BE;rw [Fp,show ByteArray.extract (p++hZ n) p.size (p++hZ n).size=hZ n from gO p (hZ n),xq ⟨by omega,by omega⟩];simp only [];rw [aK ⟨h0,h1⟩];rfl
theorem Ik (k:Nat) {s:ByteArray} (hs:s.size≤281474976710656):m9.f k s=some ((Jb s).1,((Jb s).2,())):=by
 have e:m9.f k s=bif sI s aO then BE s aO else BE s bg:=by
  unfold m9.f m9.t;rw [show (⟨#[115,101,103]⟩:ByteArray)=aO from rfl,show (⟨#[104,105,110,116]⟩:ByteArray)=bg from rfl,vg,vg];simp only [aJ];unfold BE;have h3:=wh s aO.size;have h4:=wh s bg.size;cases sI s aO with
  | true =>simp only [eQ,aI,aU,Bool.true_and];rw [pX k (by omega),aJ];simp only [iq k,aJ];generalize f_ (ByteArray.extract s aO.size s.size)=r;cases r.2 <;> cases decide ((1:Int)≤r.1∧r.1≤100000) <;> rfl
  | false =>
   simp only [rB,aI,aU];cases sI s bg with
   | true =>simp only [eQ,aI,aU,Bool.true_and];rw [pX k (by omega),aJ];simp only [iq k,aJ];generalize f_ (ByteArray.extract s bg.size s.size)=r;cases r.2 <;> cases decide ((1:Int)≤r.1∧r.1≤100000) <;> rfl
   | false =>simp only [rB,aI,aU,Bool.false_and];rw [pX k hs,aJ]
 rw [e];refine oA (fun n h1 _=>?_) ?_
 · rcases h1.2.2 with q | q
   · rw [q,Fp,aU,Jm h1.1 h1.2.1]
   · have hp:sI s aO=false:=by
      cases c:sI s aO with
      | false=>rfl
      | true=>exact absurd ((AZ c).symm.trans q) (zK _ _)
     rw [hp,aI,q,Jm h1.1 h1.2.1]
 · cases sI s aO with
   | true =>
    rw [aU];by_cases c:BE s aO=some (0,(false,()))
    · exact .inr c
    · obtain ⟨n,h0,h1,h2,h3⟩:=KU c;exact .inl ⟨n,⟨h0,h1,.inl h2⟩,rfl,h3⟩
   | false =>
    rw [aI];by_cases c:BE s bg=some (0,(false,()))
    · exact .inr c
    · obtain ⟨n,h0,h1,h2,h3⟩:=KU c;exact .inl ⟨n,⟨h0,h1,.inr h2⟩,rfl,h3⟩
theorem FJ {k:Nat} (hk:2 ^ 50≤k) {l:List Int} (hl:l.length≤1099511627776) (x:Int):h9.f k l x=some (yF l x,()):=by
 unfold h9.f h9.t;refine dG (L:=fun n i (_:Unit)=>h9.l0 k n x l l.length i) (R:=fun r _=>some (yF r x,())) (Ty.z (.int .i64)) l (fun _ _=>True) (fun n _ _=>?_) (fun n i _ y rest h0 h1 hx hr hp ih=>?_) (n:=k) (s:=()) (by omega) trivial
 · simp (disch:=omega) only [h9.l0,h9.b0,aN,aI];rfl
 · have ih:=ih () trivial;have e:yF (y::rest) x=((y==x)||yF rest x):=rfl;simp (disch:=omega) only [h9.l0,h9.b0,aK h1,aU,aF,hx,aC,ih,e];cases y==x <;> rfl
def jm:ByteArray:=⟨#[116,101,109,112]⟩
noncomputable def ui (ids:List Int) (f:Ty.d aE):Bool:=((Jb f.1).2&&!yF ids (Jb f.1).1)||seq f.1 jm
noncomputable def qt (ids:List Int):bo→List ByteArray→List ByteArray
 | [],acc=>acc
 | f::l,acc=>qt ids l (bif ui ids f then acc++[f.1] else acc)
noncomputable def qC (d:Ty.d aA) (ids:List Int):List ByteArray:=bif gP d then qt ids d.1 [] else []
theorem Be {d:Ty.d aA} (h:gP d=true):d.1.length≤130:=by unfold gP at h;rw [lP,decide_eq_true_eq] at h;exact h.1
theorem EY {k:Nat} (hk:2 ^ 50≤k) {d:Ty.d aA} {v:Ty.d bL} (hu:dS d.1≤1099511627776) (hn:s9 d.1≤1099511627776) (hv:v.2.1.length≤1099511627776):bX.f k d v=some (qC d v.2.1,()):=by
 unfold bX.f bX.t qC;rw [kB hk hu hn,aJ];cases cd:gP d with
 | false=>rfl
 | true =>
  have hl:=Be cd;rw [eQ,aI,aU];refine dG (L:=fun n i s=>bX.l0 k n i d.1 d.2.1 d.2.2.1 d.2.2.2.1 v.1 v.2.1 s) (R:=fun r s=>some (qt v.2.1 r s,())) (Ty.z aE) d.1 (fun i s=>(s.length:Int)≤i) (fun n s hs=>?_) (fun n i s x rest h0 h1 hx hr hs ih=>?_) (n:=k) (s:=[]) (by omega) (by simp)
  · simp (disch:=omega) only [bX.l0,bX.b0,aN,aI,qt]
  · have hm:x ∈ d.1:=by rw [← hx];exact fv (by omega)
    have hz:=pA hm;have iY:=ih (s++[x.1]) (by rw [bK];omega);have iN:=ih s (by omega);have key:∀ (id:Int) (is:Bool),bX.l1 k (bX.l0 k n) k i id is false 0 d.1 d.2.1 d.2.2.1 d.2.2.2.1 v.1 v.2.1 s =
     bif (is&&!yF v.2.1 id)||seq x.1 jm then bX.l0 k n (i+1) d.1 d.2.1 d.2.2.1 d.2.2.2.1 v.1 v.2.1 (s++[x.1]) else bX.l0 k n (i+1) d.1 d.2.1 d.2.2.1 d.2.2.2.1 v.1 v.2.1 s:=fun id is=>by
     refine (dG (L:=fun m j lv=>bX.l1 k (bX.l0 k n) m i id is lv j d.1 d.2.1 d.2.2.1 d.2.2.2.1 v.1 v.2.1 s) (R:=fun r lv=>bif (is&&!(lv||yF r id))||seq x.1 jm then bX.l0 k n (i+1) d.1 d.2.1 d.2.2.1 d.2.2.2.1 v.1 v.2.1 (s++[x.1]) else bX.l0 k n (i+1) d.1 d.2.1 d.2.2.1 d.2.2.2.1 v.1 v.2.1 s) (Ty.z (.int .i64)) v.2.1 (fun _ _=>True) (fun m lv _=>?_) (fun m j lv y r2 g0 g1 gx gr _ ih2=>?_) (n:=k) (s:=false) (by omega) trivial)
     · simp (disch:=first | omega | decide) only [bX.l1,bX.b1,aN,aI,aF,hx,b7,aC];rw [show yF [] id=false from rfl,show (⟨#[116,101,109,112]⟩:ByteArray)=jm from rfl];cases is <;> cases lv <;> cases seq x.1 jm <;> rfl
     · have e:yF (y::r2) id=((y==id)||yF r2 id):=rfl;simp (disch:=omega) only [bX.l1,bX.b1,aK g1,aU,aF,gx,aC,e];cases lv with
       | true=>exact (ih2 true trivial)
       | false =>have:=ih2 (y==id) trivial;simp only [aI,Bool.false_or];exact this
    simp (disch:=omega) only [bX.l0,bX.b0,aK h1,aU,aF,hx,JI hk,aJ,key];rw [show qt v.2.1 (x::rest) s=qt v.2.1 rest (bif ui v.2.1 x then s++[x.1] else s) from rfl];unfold ui;cases ((Jb x.1).2&&!yF v.2.1 (Jb x.1).1)||seq x.1 jm
    · exact iN
    · exact iY
theorem FT {k:Nat} (hk:2 ^ 50≤k) {d:Ty.d aA} {v:Ty.d bL} (hu:dS d.1≤1099511627776) (hn:s9 d.1≤1099511627776) (hv:v.2.1.length≤1099511627776):gF.f k d v=some (qC d v.2.1,()):=by
 unfold gF.f gF.t qC;rw [iI hk hu hn,aJ];cases cd:gP d with
 | false=>rfl
 | true =>
  have hl:=Be cd;rw [eQ,aI,aU];refine dG (L:=fun n i s=>gF.l0 k n d.1 d.1.length i v.1 v.2.1 s) (R:=fun r s=>some (qt v.2.1 r s,())) (Ty.z aE) d.1 (fun i s=>(s.length:Int)≤i) (fun n s hs=>?_) (fun n i s x rest h0 h1 hx hr hs ih=>?_) (n:=k) (s:=[]) (by omega) (by simp)
  · simp (disch:=omega) only [gF.l0,gF.b0,aN,aI,qt]
  · have hm:x ∈ d.1:=by rw [← hx];exact fv (by omega)
    have hz:=pA hm;have iY:=ih (s++[x.1]) (by rw [bK];omega);have iN:=ih s (by omega);simp (disch:=first | omega | decide) only [gF.l0,gF.b0,aK h1,aU,aF,hx,Ik k,aJ,FJ hk hv,b7,aC,iY,iN];rw [show qt v.2.1 (x::rest) s=qt v.2.1 rest (bif ui v.2.1 x then s++[x.1] else s) from rfl,show (⟨#[116,101,109,112]⟩:ByteArray)=jm from rfl];unfold ui;cases (Jb x.1).2 <;> cases yF v.2.1 (Jb x.1).1 <;> cases seq x.1 jm <;> rfl
theorem sU {k:Nat} (hk:2 ^ 50≤k) {l:List Int} (hl:l.length≤1073741824):dt.f k l=some (dq l,()):=by
 unfold dt.f dt.t;refine (dG (L:=fun n i s=>dt.l0 k n s l l.length i) (R:=fun r s=>some (s++dq r,())) (Ty.z (.int .i64)) l (fun i s=>(s.size:Int)≤7*i) (fun n s hs=>?_) (fun n i s x rest g0 g1 hx hr hs ih=>?_) (n:=k) (s:=⟨#[]⟩) (by omega) (by decide)).trans (by rw [pz])
 · simp (disch:=omega) only [dt.l0,dt.b0,aN,aI];rw [show dq []=⟨#[]⟩ from rfl,hO]
 · have hv:=bB x;have ih:=ih (s++ix x) (by rw [aP];omega);simp (disch:=omega) only [dt.l0,dt.b0,aK g1,aU,aF,hx,pe hk,aJ,eL,aC,ih];rw [az];rfl
theorem yA {k:Nat} (hk:2 ^ 50≤k) (v:Ty.d bL) (hl:v.2.1.length≤1073741824):jL.f k v=some (bF v,()):=by
 unfold jL.f jL.t bF;rw [sy hk (by omega),aJ];cases c:dp v with
 | false=>rfl
 | true =>have a:=bB v.1;have b:=bB (v.2.1.length:Int);have d:=pb v.2.1;rw [eQ,aI,C2 hk,aJ,sU hk hl,aJ,if_pos rfl];simp only [];rw [eL (by rw [aP];omega),oq hk,aJ,az];rfl
theorem mV (k:Nat) (n:Int):di.f k n=some (aB bg n,()):=by unfold di.f di.t;rw [show (⟨#[104,105,110,116]⟩:ByteArray)=bg from rfl,wB k (by decide) n];rfl
theorem xV (v:Ty.d bL):(bF v).size≤1099511627776:=by
 unfold bF;split
 · have:=ln (mq v);omega
 · decide
theorem tB {p:ByteArray} (hp:p=aO∨p=bg) (n:Int):(aB p n).size≤1000:=by
 have hs:p.size≤4:=by rcases hp with q | q <;> rw [q] <;> decide
 unfold aB;by_cases h:(1:Int)≤n∧n≤100000
 · have:=ny (n:=n) (by omega) (by omega);rw [aK h,aU,ByteArray.size_append];omega
 · rw [aN h,aI];decide
abbrev RD:=Ty.d aA × Int
def dW (r:RD) (f:Ty.d aA→RD):RD:=bif r.2==0 then f r.1 else r
def dX (c:Int):Int:=bif c==0 then 0 else bif c==1 then 1 else bif c==2 then 2 else 3
def wk (f:Ty.d aA→RD) (r:RD):RD:=bif r.2==0 then ((f r.1).1,dX (f r.1).2) else r
def wO (r:RD):Ty.d au:=(r.1,(r.2,()))
def j2:ByteArray:=⟨#[108,105,118,101]⟩
def j9 (s:ByteArray) (d:Ty.d aA):RD:=bif (cB d.1 s).isSome then rO d s else (d,0)
def cA (s:ByteArray) (d:Ty.d aA):RD:=dW (j9 s d) fun x=>vF x s
def lY (s t:ByteArray) (d:Ty.d aA):RD:=dW (dW (cA s d) fun x=>j3 x s t) fun x=>jB x s
def cv (v:Ty.d bL) (d:Ty.d aA):RD:=dW (lY jm (bF v) d) fun x=>wq x jm j2
def bm:List ByteArray→Ty.d aA→RD
 | [],d=>(d,0)
 | s::l,d=>dW (j9 s d) (bm l)
noncomputable def jb (ids:List Int) (d:Ty.d aA):RD:=bm (qC d ids) d
theorem gp (c:Int):(dX c==0)=(c==0):=by
 unfold dX;cases h:c==0 with
 | true=>rfl
 | false =>
  cases c==1
  · cases c==2 <;> rfl
  · rfl
theorem rx (f g:Ty.d aA→RD) (r:RD):wk (fun x=>dW (f x) g) r=wk g (wk f r):=by
 unfold wk dW;cases h:r.2==0 with
 | false=>simp only [aI,h]
 | true =>simp only [aU,gp];cases (f r.1).2==0 <;> rfl
theorem Cd (r:RD):wk (fun d=>(d,0)) r=r:=by
 unfold wk;cases h:r.2==0 with
 | false=>rfl
 | true=>exact Prod.ext rfl (by show dX 0=r.2;rw [Aw h];rfl)
theorem jk {r:RD} {f:Ty.d aA→RD} (h:DR r.1) (hf:∀ x,DR x→DR (f x).1):DR (dW r f).1:=by
 unfold dW;cases r.2==0
 · exact h
 · exact hf _ h
theorem sE {r:RD} {f:Ty.d aA→RD} (h:DR r.1) (hf:∀ x,DR x→DR (f x).1):DR (wk f r).1:=by
 unfold wk;cases r.2==0
 · exact h
 · exact hf _ h
theorem oz (s:ByteArray) (d:Ty.d aA) (h:DR d):DR (j9 s d).1:=by
 unfold j9;cases (cB d.1 s).isSome
 · exact h
 · exact DU h s
theorem kX (s:ByteArray) (d:Ty.d aA) (h:DR d):DR (cA s d).1:=jk (oz s d h) fun x hx=>CV hx s
theorem o9 (s t:ByteArray) (d:Ty.d aA) (h:DR d):DR (lY s t d).1:=jk (jk (kX s d h) fun x hx=>rQ hx s t) fun x hx=>oY hx s
theorem me (v:Ty.d bL) (d:Ty.d aA) (h:DR d):DR (cv v d).1:=jk (o9 _ _ d h) fun x hx=>NZ hx _ _
theorem nT:∀ (l:List ByteArray) (d:Ty.d aA),DR d→DR (bm l d).1
 | [],d,h=>h
 | s::l,d,h=>jk (oz s d h) (nT l)
theorem vx (ids:List Int) (d:Ty.d aA) (h:DR d):DR (jb ids d).1:=nT _ d h
theorem dc (k:Nat) (c:Int):aY.f k c=some (dX c,()):=by unfold aY.f aY.t dX;cases c==0 <;> cases c==1 <;> cases c==2 <;> rfl
theorem Bn {l:bo} {s:ByteArray}:decide (mO l s 0≥0)=(cB l s).isSome:=by
 rcases iL l s 0 with ⟨h1,h2,_⟩ | ⟨n,h1,h2,h3,_⟩
 · rw [h1,h2];rfl
 · rw [h2,h3,aK (by omega)];rfl
theorem Ii {l:bo} {s:ByteArray}:decide (mO l s 0<0)=!(cB l s).isSome:=by
 rcases iL l s 0 with ⟨h1,h2,_⟩ | ⟨n,h1,h2,h3,_⟩
 · rw [h1,h2];rfl
 · rw [h2,h3,aN (by omega)];rfl
theorem oi {k:Nat} (hk:2 ^ 50≤k) {d:Ty.d aA} (h:DR d) {s:ByteArray} (hs:s.size≤1099511627776):eX.f k d s=some ((cA s d).1,((cA s d).2,())):=by
 have hl:=h.sz.l;unfold eX.f eX.t cA j9;rw [jP hk (by omega),aJ];simp only [Bn];cases (cB d.1 s).isSome with
 | false =>simp only [aI];rw [uy hk h.sz hs];rfl
 | true =>
  simp only [aU];rw [un hk h.sz,aJ];unfold dW;simp only [bne];cases c:(rO d s).2==0 with
  | false=>rfl
  | true =>simp only [eQ,aI,aU];rw [uy hk (DU h s).sz hs];rfl
theorem xu {k:Nat} (hk:2 ^ 50≤k) {d:Ty.d aA} (h:DR d) {s t:ByteArray} (hs:s.size≤1099511627776) (ht:t.size≤1099511627776):ik.f k d s t=some ((lY s t d).1,((lY s t d).2,())):=by
 have h1:=kX s d h;unfold ik.f ik.t lY;rw [oi hk h hs,aJ];simp only [];generalize cA s d=r at h1 ⊢;unfold dW;cases c:r.2==0 with
 | false=>simp only [aI,c]
 | true =>
  simp only [aU];rw [rl hk h1.sz s ht,aJ];simp only [];cases c2:(j3 r.1 s t).2==0 with
  | false=>rfl
  | true =>simp only [aU];rw [np hk (rQ h1 s t).sz];rfl
theorem pH {k:Nat} (hk:2 ^ 50≤k) {d:Ty.d aA} (h:DR d) {v:Ty.d bL} (hv:dp v=true):fa.f k d v=some ((cv v d).1,(dX (cv v d).2,())):=by
 have hu:=h.sz.u;have hn:=h.sz.n;have h1:=o9 jm (bF v) d h;unfold fa.f fa.t cv;rw [kB hk (by omega) (by omega),aJ,lH.2 h];simp only [eQ,aI];rw [su hk,aJ,hv];simp only [eQ,aI];rw [mZ hk,aJ,show (⟨#[116,101,109,112]⟩:ByteArray)=jm from rfl,show (⟨#[108,105,118,101]⟩:ByteArray)=j2 from rfl];simp only [];rw [xu hk h (s:=jm) (t:=bF v) (by decide) (xV v),aJ];simp only [];generalize lY jm (bF v) d=r at h1 ⊢;unfold dW;cases c:r.2==0 with
 | false=>simp only [aI,dc,aJ]
 | true =>simp only [aU];rw [GH hk h1.sz jm (b:=j2) (by decide),aJ];simp only [dc,aJ]
theorem oj {k:Nat} (hk:2 ^ 50≤k) {d:Ty.d aA} (h:DR d) {l:List ByteArray} (hl:l.length≤1073741824):cP.f k d l=some ((bm l d).1,((bm l d).2,())):=by
 unfold cP.f cP.t;refine dG (L:=fun n i (x:Ty.d aA)=>cP.l0 k n l i x.1 x.2.1 x.2.2.1 x.2.2.2.1 [] 0 0 false) (R:=fun r x=>some ((bm r x).1,((bm r x).2,()))) (Ty.z .str) l (fun _ x=>DR x) (fun n x hx=>?_) (fun n i x y rest h0 h1 hy hr hx ih=>?_) (n:=k) (s:=d) (by omega) h
 · simp only [cP.l0,cP.b0];rw [aN (by omega),aI];rfl
 · have hlx:=hx.sz.l;simp only [cP.l0,cP.b0];rw [aK h1,aU,aF h0 h1,hy,show (x.1,(x.2.1,(x.2.2.1,(x.2.2.2.1,()))))=x from rfl,jP hk (by omega),aJ,aF h0 h1,aC (n:=i+1) (by omega) (by omega)];simp only [Ii,bm,j9,dW];cases (cB x.1 y).isSome with
   | false =>simp only [rB,aU,aI];exact ih x hx
   | true =>
    simp only [eQ,aI,aU];rw [un hk hx.sz,aJ];simp only [bne];cases c:(rO x y).2==0 with
    | false=>rfl
    | true =>simp only [eQ,aI,aU];exact ih _ (DU hx y)
theorem EB (ids:List Int):∀ (l:bo) (acc:List ByteArray),qt ids l acc=acc++(l.filter (ui ids)).map (·.1)
 | [],acc=>by unfold qt;simp
 | f::l,acc=>by
  unfold qt;rw [EB ids l];cases c:ui ids f
  · rw [aI,List.filter_cons_of_neg (by rw [c];decide)]
  · rw [aU,List.filter_cons_of_pos c,List.map_cons,py];rfl
theorem FB {d:Ty.d aA} (ids:List Int):(qC d ids).Sublist (mJ d.1):=by
 unfold qC;cases gP d
 · exact List.nil_sublist _
 · rw [aU,EB,List.nil_append];exact (List.filter_sublist).map _
theorem yT {l:bo} {s t:ByteArray} (h:t≠s):cB (jZ l s) t=cB l t:=by
 induction l with
 | nil=>rfl
 | cons g l ih =>
  unfold jZ;cases c:seq g.1 s with
  | true =>rw [aU,cB.eq_2,n8 (fun q=>h (by rw [← q,dT.1 c])),aI]
  | false =>rw [aI,cB.eq_2,cB.eq_2,ih]
theorem LY {l:bo} {s:ByteArray} (h:s ∈ mJ l):(cB l s).isSome=true:=by
 cases q:cB l s with
 | some f=>rfl
 | none =>obtain ⟨f,h1,h2⟩:=List.mem_map.1 h;exact absurd h2 (pP.1 q f h1)
theorem Ke {d:Ty.d aA} {s t:ByteArray} (h:t≠s) (ht:(cB d.1 t).isSome=true):(cB (rO d s).1.1 t).isSome=true:=by
 unfold rO iZ;cases (jG d).2 != 0 with
 | true=>rw [aU,ru];exact ht
 | false =>
  show (cB (vn s d.1 d.2.1).1 t).isSome=true;unfold vn;cases (cB d.1 s).isNone
  · show (cB (jZ d.1 s) t).isSome=true;rw [yT h];exact ht
  · exact ht
theorem vb {k:Nat} (hk:2 ^ 50≤k) {d:Ty.d aA} (h:DR d) {v:Ty.d bL} (hv:v.2.1.length≤1099511627776):bG.f k d v=some ((jb v.2.1 d).1,(dX (jb v.2.1 d).2,())):=by
 have hu:=h.sz.u;have hn:=h.sz.n;have hl:=h.len;have hsub:=FB (d:=d) v.2.1;have hlen:=hsub.length_le;unfold mJ at hlen;rw [List.length_map] at hlen;have hne:(qC d v.2.1).Pairwise (fun a b=>a≠b):=(List.Pairwise.sublist hsub h.keys).imp fun {a b} q e=>by rw [e,ul] at q;cases q
 have hall:∀ s ∈ qC d v.2.1,(cB d.1 s).isSome=true:=fun s hs=>LY (hsub.subset hs)
 unfold bG.f bG.t jb;rw [EY hk (by omega) (by omega) hv,aJ];simp only [];generalize qC d v.2.1=l at hlen hne hall ⊢;refine dG (L:=fun n i (x:Ty.d aA)=>bG.l0 k n i x.1 x.2.1 x.2.2.1 x.2.2.2.1 [] 0 0 false l) (R:=fun r x=>some ((bm r x).1,(dX (bm r x).2,()))) (Ty.z .str) l (fun i x=>DR x∧∀ s ∈ l.drop i.toNat,(cB x.1 s).isSome=true) (fun n x hx=>?_) (fun n i x y rest h0 h1 hy hr hx ih=>?_) (n:=k) (s:=d) (by omega) ⟨h,fun s hs=>hall s (List.mem_of_mem_drop hs)⟩
 · simp only [bG.l0,bG.b0];rw [aN (by omega),aI];rfl
 · obtain ⟨hd,ha⟩:=hx;have hp:(y::rest).Pairwise (fun a b=>a≠b):=by rw [← hr];exact hne.drop
   have hdr:l.drop (i+1).toNat=rest:=by have:=congrArg (List.drop 1) hr;rw [List.drop_drop,List.drop_one,List.tail_cons] at this;rw [show (i+1).toNat=i.toNat+1 by omega];exact this
   have hy1:(cB x.1 y).isSome=true:=ha y (by rw [hr];exact sM ..);simp only [bG.l0,bG.b0];rw [aK h1,aU,aF h0 h1,hy,show (x.1,(x.2.1,(x.2.2.1,(x.2.2.2.1,()))))=x from rfl,un hk hd.sz,aJ,aC (n:=i+1) (by omega) (by omega)];simp only [bm,j9,dW,hy1,aU,bne,dc];cases c:(rO x y).2==0 with
   | false=>rfl
   | true =>simp only [eQ,aI,aU];refine ih (rO x y).1 ⟨DU hd y,fun s hs=>?_⟩;rw [hdr] at hs;exact Ke (fun e=>(List.pairwise_cons.1 hp).1 s hs e.symm) (ha s (by rw [hr];exact wW _ hs))
theorem FS (k:Nat) (c:Int):mg.f k c=some (dX c,()):=by unfold mg.f mg.t dX;cases c==0 <;> cases c==1 <;> cases c==2 <;> rfl
theorem uA (k:Nat) (w:Ty.d au) (d:Ty.d aA) (c:Int):b_.f k w d c=some ((d,(dX c,())),()):=by unfold b_.f b_.t;rw [FS,aJ]
theorem Bq {k:Nat} (hk:2 ^ 50≤k) (r:RD) (h:DR r.1) {s:ByteArray} (hs:s.size≤1099511627776):dl.f k (wO r) s=some (wO (wk (fun x=>vF x s) r),()):=by
 unfold dl.f dl.t wk wO;simp only [];cases c:r.2==0 with
 | false=>rfl
 | true=>rw [aU,aU,Gh hk h.sz hs,aJ,uA,aJ]
theorem xF {k:Nat} (hk:2 ^ 50≤k) (r:RD) (h:DR r.1) (s:ByteArray) {t:ByteArray} (ht:t.size≤1099511627776):cW.f k (wO r) s t=some (wO (wk (fun x=>j3 x s t) r),()):=by
 unfold cW.f cW.t wk wO;simp only [];cases c:r.2==0 with
 | false=>rfl
 | true=>rw [aU,aU,Gg hk h.sz s ht,aJ,uA,aJ]
theorem p7 {k:Nat} (hk:2 ^ 50≤k) (r:RD) (h:DR r.1) (s:ByteArray):bT.f k (wO r) s=some (wO (wk (fun x=>jB x s) r),()):=by
 unfold bT.f bT.t wk wO;simp only [];cases c:r.2==0 with
 | false=>rfl
 | true=>rw [aU,aU,GV hk h.sz s,aJ,uA,aJ]
theorem IQ {k:Nat} (hk:2 ^ 50≤k) (r:RD) (h:DR r.1) (a:ByteArray) {b:ByteArray} (hb:b.size≤1099511627776):fS.f k (wO r) a b=some (wO (wk (fun x=>wq x a b) r),()):=by
 unfold fS.f fS.t wk wO;simp only [];cases c:r.2==0 with
 | false=>rfl
 | true=>rw [aU,aU,Gy hk h.sz a hb,aJ,uA,aJ]
theorem mf {k:Nat} (hk:2 ^ 50≤k) (r:RD) (h:DR r.1) (s:ByteArray):bN.f k (wO r) s=some (wO (wk (j9 s) r),()):=by
 have hl:=h.sz.l;unfold bN.f bN.t wk wO j9;simp only [];cases c:r.2==0 with
 | false=>rfl
 | true =>
  rw [aU,aU,k7 hk (by omega),aJ];simp only [Bn];cases (cB r.1.1 s).isSome with
  | true=>rw [aU,aU,HM hk h.sz s,aJ,uA,aJ]
  | false =>simp only [aI];rw [Aw c];rfl
theorem rN {k:Nat} (hk:2 ^ 50≤k) (r:RD) (h:DR r.1) {s:ByteArray} (hs:s.size≤1099511627776):d_.f k (wO r) s=some (wO (wk (cA s) r),()):=by unfold d_.f d_.t;rw [mf hk r h,aJ];simp only [];rw [Bq hk _ (sE h (oz s)) hs,aJ,← rx];rfl
theorem zw {k:Nat} (hk:2 ^ 50≤k) (r:RD) (h:DR r.1) {s t:ByteArray} (hs:s.size≤1099511627776) (ht:t.size≤1099511627776):dj.f k (wO r) s t=some (wO (wk (lY s t) r),()):=by unfold dj.f dj.t;rw [rN hk r h hs,aJ];simp only [];have h1:=sE (r:=r) h (kX s);rw [xF hk _ h1 s ht,aJ];simp only [];rw [p7 hk _ (sE h1 fun x hx=>rQ hx s t) s,aJ,← rx (cA s) (fun x=>j3 x s t),← rx];rfl
theorem qd {k:Nat} (hk:2 ^ 50≤k) (r:RD) (h:DR r.1) {v:Ty.d bL} (hv:v.2.1.length≤1073741824):cH.f k (wO r) v=some (wO (wk (cv v) r),()):=by unfold cH.f cH.t;rw [yA hk v hv,aJ,show (⟨#[116,101,109,112]⟩:ByteArray)=jm from rfl,show (⟨#[108,105,118,101]⟩:ByteArray)=j2 from rfl];simp only [];rw [zw hk r h (s:=jm) (t:=bF v) (by decide) (xV v),aJ];simp only [];rw [IQ hk _ (sE h (o9 _ _)) jm (b:=j2) (by decide),aJ,← rx];rfl
theorem yW (s:ByteArray) (l:List ByteArray) (r:RD):wk (bm (s::l)) r=wk (bm l) (wk (j9 s) r):=rx (j9 s) (bm l) r
theorem AX {k:Nat} (hk:2 ^ 50≤k) (r:RD) (h:DR r.1) {v:Ty.d bL} (hv:v.2.1.length≤1099511627776):ah.f k (wO r) v=some (wO (wk (jb v.2.1) r),()):=by
 have hu:=h.sz.u;have hn:=h.sz.n;have hlen:=(FB (d:=r.1) v.2.1).length_le;have hl:=h.len;unfold mJ at hlen;rw [List.length_map] at hlen;unfold ah.f ah.t;rw [show (wO r).1=r.1 from rfl,FT hk (by omega) (by omega) hv,aJ];simp only [];have key:∀ l:List ByteArray,l.length≤1000→ah.l0 k k l.length 0 r.1.1 r.1.2.1 r.1.2.2.1 r.1.2.2.2.1 r.2 l=some (wO (wk (bm l) r),()):=fun l hl=>by
  refine dG (L:=fun n i (x:RD)=>ah.l0 k n l.length i x.1.1 x.1.2.1 x.1.2.2.1 x.1.2.2.2.1 x.2 l) (R:=fun q x=>some (wO (wk (bm q) x),())) (Ty.z .str) l (fun i x=>DR x.1) (fun n x hx=>?_) (fun n i x y rest h0 h1 hy hr hx ih=>?_) (n:=k) (s:=r) (by omega) h
  · simp only [ah.l0,ah.b0];rw [aN (by omega),aI,show bm []=fun d=>(d,0) from rfl,Cd];rfl
  · simp only [ah.l0,ah.b0];rw [aK h1,aU,aF h0 h1,hy,show ((x.1.1,(x.1.2.1,(x.1.2.2.1,(x.1.2.2.2.1,())))),(x.2,()))=wO x from rfl,mf hk x hx,aJ,aC (n:=i+1) (by omega) (by omega),yW];exact ih (wk (j9 y) x) (sE hx (oz y))
 rw [show (wO r).2.1=r.2 from rfl];rw [key (qC r.1 v.2.1) (by omega)];unfold wk jb;rfl
theorem xf {k:Nat} (hk:2 ^ 50≤k) (r:RD) (h:DR r.1) {l:List ByteArray} (hl:l.length≤1000):ag.f k (wO r) l =
 some (wO (bif r.2==2 then ((bm l r.1).1,bif (bm l r.1).2==0 then 2 else dX (bm l r.1).2) else r),()):=by
 unfold ag.f ag.t;rw [show (wO r).2.1=r.2 from rfl];simp only [bne];cases c:r.2==2 with
 | false=>rfl
 | true =>
  simp only [eQ,aI,aU];have e2:r.2=2:=Aw c;have key:∀ (n:Nat) (i:Int) (x:RD),0≤i→i≤(l.length:Int)→(l.length:Int)-i<n→DR x.1→ag.l1 k n l l.length i r.1.2.1 r.1.2.2.1 r.1.2.2.2.1 2 x.1.1 x.1.2.1 x.1.2.2.1 x.1.2.2.2.1 x.2 =
   some (wO (bif (wk (bm (l.drop i.toNat)) x).2==0 then ((wk (bm (l.drop i.toNat)) x).1,2) else wk (bm (l.drop i.toNat)) x),()):=fun n i x h0 h1 h2 hx=>by
   refine Ig (L:=fun n i (x:RD)=>ag.l1 k n l l.length i r.1.2.1 r.1.2.2.1 r.1.2.2.2.1 2 x.1.1 x.1.2.1 x.1.2.2.1 x.1.2.2.2.1 x.2) (R:=fun q x=>some (wO (bif (wk (bm q) x).2==0 then ((wk (bm q) x).1,2) else wk (bm q) x),())) (Ty.z .str) l (fun i x=>DR x.1) (fun n x hx=>?_) (fun n i x y rest h0 h1 hy hr hx ih=>?_) n i x h0 h1 h2 hx
   · simp only [ag.l1,ag.b1];rw [aN (by omega),aI,show bm []=fun d=>(d,0) from rfl,Cd];simp only [bne];cases x.2==0 <;> rfl
   · simp only [ag.l1,ag.b1];rw [aK h1,aU,aF h0 h1,hy,show ((x.1.1,(x.1.2.1,(x.1.2.2.1,(x.1.2.2.2.1,())))),(x.2,()))=wO x from rfl,mf hk x hx,aJ,aC (n:=i+1) (by omega) (by omega),yW];exact ih (wk (j9 y) x) (sE hx (oz y))
  obtain ⟨q,hq⟩:∃ q,k=q+1:=⟨k-1,by omega⟩;have fin:ag.l0 k (q+1) l l.length 0 r.1.1 r.1.2.1 r.1.2.2.1 r.1.2.2.2.1 2 r.1.2.1 r.1.2.2.1 r.1.2.2.2.1 0=some (wO (bif (wk (bm l) (r.1,0)).2==0 then ((wk (bm l) (r.1,0)).1,2) else wk (bm l) (r.1,0)),()):=by
   have k1:=key (q+1+1) 0 (r.1,0) (by omega) (by omega) (by omega) h;rw [show l.drop (0:Int).toNat=l from rfl] at k1;refine Eq.trans ?_ k1;simp only [ag.l0,ag.b0,ag.l1,ag.b1];by_cases hz:(0:Int)<(l.length:Int)
   · rw [aK hz,aU,aU,aF (by omega) hz,aF (by omega) hz];have e1:bN.f k ((r.1.1,(r.1.2.1,(r.1.2.2.1,(r.1.2.2.2.1,())))),(0,())) (List.getD l (Int.toNat 0) (Ty.z .str))=_:=mf hk (r.1,0) h (List.getD l (Int.toNat 0) (Ty.z .str));rw [e1,aJ,aJ,aC (n:=(0:Int)+1) (by omega) (by omega)];have d1:=sE (r:=((r.1,0):RD)) h (oz (List.getD l (Int.toNat 0) (Ty.z .str)));have a1:=key q 1 (wk (j9 (List.getD l (Int.toNat 0) (Ty.z .str))) (r.1,0)) (by omega) (by omega) (by omega) d1;have a2:=key (q+1) 1 (wk (j9 (List.getD l (Int.toNat 0) (Ty.z .str))) (r.1,0)) (by omega) (by omega) (by omega) d1;exact a1.trans a2.symm
   · rw [aN hz,aI,aI]
  rw [show (wO r).1=r.1 from rfl,e2];have fin2:ag.l0 k k l l.length 0 r.1.1 r.1.2.1 r.1.2.2.1 r.1.2.2.2.1 2 r.1.2.1 r.1.2.2.1 r.1.2.2.2.1 0=_:=(congrArg (fun z=>ag.l0 k z l l.length 0 r.1.1 r.1.2.1 r.1.2.2.1 r.1.2.2.2.1 2 r.1.2.1 r.1.2.2.1 r.1.2.2.2.1 0) hq).trans fin;rw [fin2];unfold wk;simp only [beq_self_eq_true,aU,gp];cases c3:(bm l r.1).2==0 <;> rfl
abbrev oL:=List (Ty.d bR)
def ir (kind batch:Int) (l:oL):Ty.d bR:=(kind,(batch,(ByteArray.empty,(ByteArray.empty,((l.length:Int),(EM l,()))))))
theorem xp {k:Nat} (hk:2 ^ 50≤k) {l:oL} (hl:l.length≤1073741824) (b kd:Int):ip.f k l b kd=some (ir kd b l,()):=by unfold ip.f ip.t;rw [rI hk hl,aJ];rfl
abbrev lA:=List (Ty.d uI)
def iJ (s:ByteArray):Bool:=decide (1≤(s.size:Int)∧(s.size:Int)≤8)
def eC (p:Ty.d uI):Ty.d bR:=(4,(p.2.2.1,(p.1,(p.2.1,(0,(0,()))))))
def nl (l:lA) (mark:Int):oL:=l.map eC++[ir 5 mark (l.map eC)]
theorem Cb {k:Nat} (hk:2 ^ 50≤k) {l:lA} (hl:l.length≤1073741823) (mark:Int):iQ.f k l mark=some (nl l mark,()):=by
 unfold iQ.f iQ.t;refine (dG (L:=fun n i s=>iQ.l0 k n l mark l l.length i s) (R:=fun r s=>some (s++r.map eC++[ir 5 mark (s++r.map eC)],())) (Ty.z uI) l (fun i s=>(s.length:Int)=i) (fun n s hs=>?_) (fun n i s x rest h0 h1 hx hr hp ih=>?_) (n:=k) (s:=[]) (by omega) (by decide)).trans (by rw [List.nil_append];rfl)
 · simp (disch:=first | omega | decide) only [iQ.l0,iQ.b0,aN,aI,rj hk,aJ,b7,List.map_nil,List.append_nil,ir,hs]
 · have ih:=ih (s++[eC x]) (by rw [sF];show ((s.length+1:Nat):Int)=_;omega);simp (disch:=first | omega | decide) only [iQ.l0,iQ.b0,aK,aU,aF,hx,b7,aC];refine ih.trans ?_;simp only [List.map_cons,py,List.cons_append,List.nil_append]
def jE:oL→ByteArray
 | []=>⟨#[]⟩
 | r::l=>am (aV r)++jE l
theorem xZ:∀ l m:oL,jE (l++m)=jE l++jE m
 | [],m=>by rw [List.nil_append,jE,pz]
 | r::l,m=>by rw [List.cons_append,jE,xZ l m,jE,az]
abbrev aX:=List (Ty.d a_)
noncomputable def kt (s:ByteArray) (i n:Int):Ty.d bR × Bool :=
 if 0≤i∧i≤s.size∧1≤n∧n≤s.size-i then (if (iU (ByteArray.extract s i.toNat (i+n).toNat)).2=n then kV (iU (ByteArray.extract s i.toNat (i+n).toNat)).1 else (ur,false)) else (ur,false)
theorem H3 {s:ByteArray} (h:(kV s).2=false):kV s=(ur,false):=IE h
theorem Ju (s:ByteArray) (i j:Nat):(ByteArray.extract s i j).size≤s.size:=by rw [← dD,yf,List.length_drop,List.length_take,dD];omega
theorem wK {k:Nat} (hk:2 ^ 50≤k) {s:ByteArray} (i n:Int) (hs:s.size≤1099511627775):kK.f k s i n=some ((kt s i n).1,((kt s i n).2,())):=by
 unfold kK.f kK.t kt;rw [q8,aJ];by_cases c1:0≤i∧i≤s.size
 case neg=>rw [aN c1,if_neg (fun h=>c1 ⟨h.1,h.2.1⟩)];rfl
 rw [aK c1,eQ,aI,q8,aJ,aC (by omega) (by omega)];by_cases c2:1≤n∧n≤s.size-i
 case neg=>rw [aN c2,if_neg (fun h=>c2 ⟨h.2.2.1,h.2.2.2⟩)];rfl
 have hz:=Ju s i.toNat (i+n).toNat;have hu:=nv (ByteArray.extract s i.toNat (i+n).toNat);rw [aK c2,eQ,aI,aC (by omega) (by omega),va (by omega) (by omega) (by omega),if_pos ⟨c1.1,c1.2,c2⟩,nB hk (by omega),aJ];simp only [];rw [tL hk (by omega),aJ];by_cases c3:(iU (ByteArray.extract s i.toNat (i+n).toNat)).2=n
 · rw [if_pos c3];simp only [show ((iU (ByteArray.extract s i.toNat (i+n).toNat)).2 != n)=false by rw [c3];simp,aI];cases c4:(kV (iU (ByteArray.extract s i.toNat (i+n).toNat)).1).2 with
   | true=>rfl
   | false=>rw [H3 c4];rfl
 · rw [if_neg c3];simp only [show ((iU (ByteArray.extract s i.toNat (i+n).toNat)).2 != n)=true from bne_iff_ne.2 c3,aU]
theorem vK {k:Nat} (hk:2 ^ 50≤k) {s:ByteArray} (i n:Int) (hs:s.size≤1099511627775):kF.f k s i n=some ((kt s i n).1,((kt s i n).2,())):=by
 unfold kF.f kF.t kt;rw [wS,aJ];by_cases c1:0≤i∧i≤s.size
 case neg=>rw [aN c1,if_neg (fun h=>c1 ⟨h.1,h.2.1⟩)];rfl
 rw [aK c1,eQ,aI,wS,aJ,aC (by omega) (by omega)];by_cases c2:0≤n∧n≤s.size-i
 case neg=>rw [aN c2,if_neg (fun h=>c2 ⟨by omega,h.2.2.2⟩)];rfl
 have hz:=Ju s i.toNat (i+n).toNat;have hu:=nv (ByteArray.extract s i.toNat (i+n).toNat);have hsz:(ByteArray.extract s i.toNat (i+n).toNat).size≤(i+n).toNat-i.toNat:=by rw [← dD,yf,List.length_drop,List.length_take];omega
 rw [aK c2,eQ,aI,aC (by omega) (by omega),va (by omega) (by omega) (by omega),nN hk (by omega),aJ];simp only [];by_cases c0:(iU (ByteArray.extract s i.toNat (i+n).toNat)).2=0
 · rw [show ((iU (ByteArray.extract s i.toNat (i+n).toNat)).2==0)=true by rw [c0];rfl,aU];split
   · rename_i h;rw [if_neg (by omega)]
   · rfl
 · rw [show ((iU (ByteArray.extract s i.toNat (i+n).toNat)).2==0)=false from n_ c0,aI,if_pos ⟨c1.1,c1.2,by omega,c2.2⟩];by_cases c3:(iU (ByteArray.extract s i.toNat (i+n).toNat)).2=n
   · rw [if_pos c3];simp only [show ((iU (ByteArray.extract s i.toNat (i+n).toNat)).2 != n)=false by rw [c3];simp,aI];rw [sx hk (by omega),aJ]
   · rw [if_neg c3];simp only [show ((iU (ByteArray.extract s i.toNat (i+n).toNat)).2 != n)=true from bne_iff_ne.2 c3,aU]
def uU (p:Option (Ty.d a_)) (x:Ty.d a_):Bool :=
 iJ x.1&&(decide ((1:Int)≤x.2.1∧x.2.1≤100000)&&(!decide (x.2.2.1<(0:Int))&&(decide ((1:Int)≤x.2.2.2.1∧x.2.2.2.1≤210)&&(decide ((1:Int)≤x.2.2.2.2.1∧x.2.2.2.2.1≤1000000)&&(match p with | none=>true | some y=>ox y.1 x.1)))))
def rk (l:aX):Bool:=decide ((l.length:Int)≤20)&&sD uU none l
theorem zW {k:Nat} (hk:2 ^ 50≤k) (l:aX):fy.f k l=some (rk l,()):=by
 unfold fy.f fy.t rk;by_cases c:l.length > 20
 · rw [aK (by omega),aU,aN (by omega),Bool.false_and]
 · rw [aN (by omega),aI,aK (by omega),Bool.true_and];refine (qU (L:=fun n i=>fy.l0 k n l i) (Ty.z a_) l uU (some (true,())) (some (false,())) (fun n=>?_) (fun n x h hx=>?_) (fun n i x y h0 h1 hx hy=>?_) (n:=k) (by omega)).trans (by cases sD uU none l <;> rfl)
   · simp (disch:=omega) only [fy.l0,fy.b0,aN,aI]
   · simp (disch:=omega) only [fy.l0,fy.b0,aK (show (0:Int)<(l.length:Int) by omega),aU,aF,hx,m0 k,fC k,aJ,aN (show ¬ (0:Int) > 0 by omega),aI,aC,uU,iJ];cases decide (1≤(x.1.size:Int)∧(x.1.size:Int)≤8) <;> cases decide ((1:Int)≤x.2.1∧x.2.1≤100000) <;> cases decide (x.2.2.1<(0:Int)) <;> cases decide ((1:Int)≤x.2.2.2.1∧x.2.2.2.1≤210) <;> cases decide ((1:Int)≤x.2.2.2.2.1∧x.2.2.2.2.1≤1000000) <;> rfl
   · simp (disch:=omega) only [fy.l0,fy.b0,aK h1,aU,aF,hx,hy,m0 k,fC k,aJ,aK (show i > 0 by omega),aI,aC,uU,iJ,nk];cases decide (1≤(x.1.size:Int)∧(x.1.size:Int)≤8) <;> cases decide ((1:Int)≤x.2.1∧x.2.1≤100000) <;> cases decide (x.2.2.1<(0:Int)) <;> cases decide ((1:Int)≤x.2.2.2.1∧x.2.2.2.1≤210) <;> cases decide ((1:Int)≤x.2.2.2.2.1∧x.2.2.2.2.1≤1000000) <;> cases ox y.1 x.1 <;> rfl
theorem A4 {k:Nat} (hk:2 ^ 50≤k) {l:aX} (hl:l.length≤1099511627776):fF.f k l=some (rk l,()):=by
 unfold fF.f fF.t rk;refine (qU (L:=fun n i=>fF.l0 k n l l l.length i) (Ty.z a_) l uU (some (decide ((l.length:Int)≤20),())) (some (false,())) (fun n=>?_) (fun n x h hx=>?_) (fun n i x y h0 h1 hx hy=>?_) (n:=k) (by omega)).trans (by cases sD uU none l <;> cases decide ((l.length:Int)≤20) <;> rfl)
 · simp (disch:=omega) only [fF.l0,fF.b0,aN (show ¬ (l.length:Int)<(l.length:Int) by omega),aI]
 · simp (disch:=omega) only [fF.l0,fF.b0,aK (show (0:Int)<(l.length:Int) by omega),aU,aF,hx,kv k,iq k,aJ,aN (show ¬ (0:Int) > 0 by omega),aI,aC,uU,iJ];cases decide (1≤(x.1.size:Int)∧(x.1.size:Int)≤8) <;> cases decide ((1:Int)≤x.2.1∧x.2.1≤100000) <;> cases decide (x.2.2.1<(0:Int)) <;> cases decide ((1:Int)≤x.2.2.2.1∧x.2.2.2.1≤210) <;> cases decide ((1:Int)≤x.2.2.2.2.1∧x.2.2.2.2.1≤1000000) <;> rfl
 · simp (disch:=omega) only [fF.l0,fF.b0,aK h1,aU,aF,hx,hy,kv k,iq k,aJ,aK (show i > 0 by omega),aI,aC,uU,iJ];cases decide (1≤(x.1.size:Int)∧(x.1.size:Int)≤8) <;> cases decide ((1:Int)≤x.2.1∧x.2.1≤100000) <;> cases decide (x.2.2.1<(0:Int)) <;> cases decide ((1:Int)≤x.2.2.2.1∧x.2.2.2.1≤210) <;> cases decide ((1:Int)≤x.2.2.2.2.1∧x.2.2.2.2.1≤1000000) <;> cases ox y.1 x.1 <;> rfl
def sj:aX→ByteArray→Option (Ty.d a_)
 | [],_=>none
 | e::l,s=>bif seq e.1 s then some e else sj l s
def Me:Ty.d a_:=(ByteArray.empty,(0,(0,(0,(0,())))))
def Gi:Option (Ty.d a_)→Option (Ty.d a_ × Bool × Unit)
 | none=>some (Me,(false,()))
 | some e=>some (e,(true,()))
theorem uV {k:Nat} (hk:2 ^ 50≤k) {l:aX} (hl:l.length≤1099511627776) (s:ByteArray):fq.f k l s=Gi (sj l s):=by
 unfold fq.f fq.t;refine dG (L:=fun n i (_:Unit)=>fq.l0 k n l s i ByteArray.empty 0 0 0 0) (R:=fun r _=>Gi (sj r s)) (Ty.z a_) l (fun _ _=>True) (fun n _ _=>?_) (fun n i _ x rest h0 h1 hx hr hp ih=>?_) (n:=k) (s:=()) (by omega) trivial
 · simp (disch:=omega) only [fq.l0,fq.b0,aN,aI,sj];rfl
 · have ih:=ih () trivial;simp (disch:=omega) only [fq.l0,fq.b0,aK h1,aU,aF,hx,aC,ih,sj];cases seq x.1 s <;> rfl
theorem uD {k:Nat} (hk:2 ^ 50≤k) {l:aX} (hl:l.length≤1099511627776) (s:ByteArray):fh.f k l s=Gi (sj l s):=by
 unfold fh.f fh.t;refine dG (L:=fun n i (_:Unit)=>fh.l0 k n s l l.length i ByteArray.empty 0 0 0 0) (R:=fun r _=>Gi (sj r s)) (Ty.z a_) l (fun _ _=>True) (fun n _ _=>?_) (fun n i _ x rest h0 h1 hx hr hp ih=>?_) (n:=k) (s:=()) (by omega) trivial
 · simp (disch:=omega) only [fh.l0,fh.b0,aN,aI,sj];rfl
 · have ih:=ih () trivial;simp (disch:=omega) only [fh.l0,fh.b0,aK h1,aU,aF,hx,aC,ih,sj];cases seq x.1 s <;> rfl
def MC:Ty.d uI:=(ByteArray.empty,(ByteArray.empty,(0,())))
noncomputable def iW (d:Ty.d aA) (e:Ty.d a_):Ty.d bR × Bool:=kt (ao d (aB aO e.2.1)).1 e.2.2.1 e.2.2.2.1
noncomputable def lU (l:aX) (d:Ty.d aA) (key:ByteArray):Ty.d uI × Int :=
 match sj l key with
 | none=>(MC,8)
 | some e=>bif (iW d e).2&&(seq (iW d e).1.2.2.1 key&&(((iW d e).1.1==1)||((iW d e).1.1==4))) then ((key,((iW d e).1.2.2.2.1,((iW d e).1.2.1,()))),0) else (MC,3)
theorem ES (i n:Int):kt ⟨#[]⟩ i n=(ur,false):=by
 unfold kt;rw [if_neg]
 rintro ⟨h1,h2,h3,h4⟩
 have:((⟨#[]⟩:ByteArray).size:Int)=0:=rfl;omega
theorem HZ {d:Ty.d aA} {s:ByteArray} (h:(ao d s).2=false):(ao d s).1=⟨#[]⟩:=by
 unfold ao at h ⊢;generalize gP d=b at h ⊢;generalize cB d.1 s=o at h ⊢;cases b <;> cases o <;> first | rfl | cases h
theorem JA {d:Ty.d aA} {e:Ty.d a_} (h:(iW d e).2=true):(ao d (aB aO e.2.1)).2=true:=by
 cases c:(ao d (aB aO e.2.1)).2 with
 | true=>rfl
 | false =>unfold iW at h;rw [HZ c,ES] at h;cases h
theorem zt {k:Nat} (hk:2 ^ 50≤k) {st:Ty.d aG} {d:Ty.d aA} (hd:uN d) (hl:st.2.1.length≤1099511627776) (key:ByteArray):mP.f k st d key=some ((lU st.2.1 d key).1,((lU st.2.1 d key).2,())):=by
 have:=hd.l;have:=hd.u;have:=hd.n;unfold mP.f mP.t lU;rw [uV hk hl];cases sj st.2.1 key with
 | none=>rfl
 | some e =>
  unfold Gi;have hz:=gw d (aB aO e.2.1);simp only [aJ,eQ,aI,c8 hk];rw [iu hk (by omega) (by omega) (by omega),aJ];simp only [];rw [wK hk _ _ (by omega),aJ];change (bif !(ao d (aB aO e.2.1)).2 then _ else bif !(iW d e).2 then _ else bif !seq (iW d e).1.2.2.1 key then _ else bif !((iW d e).1.1==1) then bif !((iW d e).1.1==4) then _ else some ((key,((iW d e).1.2.2.2.1,((iW d e).1.2.1,()))),(0,())) else some ((key,((iW d e).1.2.2.2.1,((iW d e).1.2.1,()))),(0,())))=_;cases c:(iW d e).2 with
  | false=>cases (ao d (aB aO e.2.1)).2 <;> rfl
  | true =>rw [JA c];cases seq (iW d e).1.2.2.1 key <;> cases ((iW d e).1.1==1) <;> cases ((iW d e).1.1==4) <;> rfl
theorem AC {k:Nat} (hk:2 ^ 50≤k) {st:Ty.d aG} {d:Ty.d aA} (hd:uN d) (hl:st.2.1.length≤1099511627776) (key:ByteArray):mR.f k st d key=some ((lU st.2.1 d key).1,((lU st.2.1 d key).2,())):=by
 have:=hd.l;have:=hd.u;have:=hd.n;unfold mR.f mR.t lU;rw [uD hk hl];cases sj st.2.1 key with
 | none=>rfl
 | some e =>
  unfold Gi;have hz:=gw d (aB aO e.2.1);simp only [aJ,eQ,aI,cr k];rw [jv hk (by omega) (by omega) (by omega),aJ];simp only [];rw [vK hk _ _ (by omega),aJ];change (bif !(iW d e).2 then _ else bif !((iW d e).1.1==1) then bif !((iW d e).1.1==4) then _ else bif !seq (iW d e).1.2.2.1 key then _ else some (((iW d e).1.2.2.1,((iW d e).1.2.2.2.1,((iW d e).1.2.1,()))),(0,())) else bif !seq (iW d e).1.2.2.1 key then _ else some (((iW d e).1.2.2.1,((iW d e).1.2.2.2.1,((iW d e).1.2.1,()))),(0,())))=_;cases c:(iW d e).2 with
  | false=>rfl
  | true =>
   cases q:seq (iW d e).1.2.2.1 key with
   | false=>cases ((iW d e).1.1==1) <;> cases ((iW d e).1.1==4) <;> rfl
   | true =>rw [dT.1 q];cases ((iW d e).1.1==1) <;> cases ((iW d e).1.1==4) <;> rfl
noncomputable def oH (l:aX) (d:Ty.d aA):List ByteArray→lA→lA × Int
 | [],acc=>(acc,0)
 | key::r,acc=>bif (lU l d key).2 != 0 then ([],(lU l d key).2) else oH l d r (acc++[(lU l d key).1])
noncomputable def mm (l:aX) (d:Ty.d aA):lA × Int:=oH l d (l.map (·.1)) []
theorem CM (l:aX) (d:Ty.d aA):∀ (r:List ByteArray) (acc:lA),(oH l d r acc).1.length≤acc.length+r.length
 | [],acc=>Nat.le_refl _
 | key::r,acc=>by
  unfold oH;cases (lU l d key).2 != 0 with
  | true=>exact Nat.zero_le _
  | false =>have:=CM l d r (acc++[(lU l d key).1]);rw [bK] at this;rw [aI,lq];omega
theorem wt (l:aX) (d:Ty.d aA):(mm l d).1.length≤l.length:=by have:=CM l d (l.map (·.1)) [];rw [List.length_map,List.length_nil] at this;unfold mm;omega
theorem Eb {k:Nat} (hk:2 ^ 50≤k) {st:Ty.d aG} {d:Ty.d aA} (hd:uN d) (hl:st.2.1.length≤1099511627775):jW.f k st d=some ((mm st.2.1 d).1,((mm st.2.1 d).2,())):=by
 unfold jW.f jW.t mm;refine dG (L:=fun n i s=>jW.l0 k n i st.1.1 st.1.2.1 st.2.1 st.2.2.1 st.2.2.2.1 st.2.2.2.2.1 d.1 d.2.1 d.2.2.1 d.2.2.2.1 s) (R:=fun r s=>some ((oH st.2.1 d (r.map (·.1)) s).1,((oH st.2.1 d (r.map (·.1)) s).2,()))) (Ty.z a_) st.2.1 (fun i s=>(s.length:Int)=i) (fun n s hs=>?_) (fun n i s x rest h0 h1 hx hr hp ih=>?_) (n:=k) (s:=[]) (by omega) rfl
 · simp (disch:=omega) only [jW.l0,jW.b0,aN,aI,List.map_nil,oH]
 · have hg:=zt hk (st:=st) (d:=d) hd (by omega) x.1;have ih:=ih (s++[(lU st.2.1 d x.1).1]) (by rw [bK];omega);simp (disch:=first | omega | decide) only [jW.l0,jW.b0,aK h1,aU,aF,hx,hg,aJ,b7,aC,ih,List.map_cons,oH];cases (lU st.2.1 d x.1).2 != 0 <;> rfl
theorem xQ {k:Nat} (hk:2 ^ 50≤k) {l:aX} (hl:l.length≤1099511627775):eN.f k l=some (l.map (·.1),()):=by
 unfold eN.f eN.t;refine dG (L:=fun n i s=>eN.l0 k n l l.length i s) (R:=fun r s=>some (s++r.map (·.1),())) (Ty.z a_) l (fun i s=>(s.length:Int)=i) (fun n s hs=>?_) (fun n i s x rest h0 h1 hx hr hp ih=>?_) (n:=k) (s:=[]) (by omega) rfl
 · simp (disch:=omega) only [eN.l0,eN.b0,aN,aI,List.map_nil,List.append_nil]
 · have ih:=ih (s++[x.1]) (by rw [bK];omega);simp (disch:=first | omega | decide) only [eN.l0,eN.b0,aK h1,aU,aF,hx,b7,aC,ih,List.map_cons];rw [py];rfl
theorem Eo {k:Nat} (hk:2 ^ 50≤k) {st:Ty.d aG} {d:Ty.d aA} (hd:uN d) (hl:st.2.1.length≤1099511627775):jY.f k st d=some ((mm st.2.1 d).1,((mm st.2.1 d).2,())):=by
 unfold jY.f jY.t mm;rw [xQ hk hl,aJ];have hm:(st.2.1.map (·.1)).length=st.2.1.length:=List.length_map ..;refine dG (L:=fun n i s=>jY.l0 k n (st.2.1.map (·.1)).length i st.1.1 st.1.2.1 st.2.1 st.2.2.1 st.2.2.2.1 st.2.2.2.2.1 d.1 d.2.1 d.2.2.1 d.2.2.2.1 s (st.2.1.map (·.1))) (R:=fun r s=>some ((oH st.2.1 d r s).1,((oH st.2.1 d r s).2,()))) (Ty.z .str) (st.2.1.map (·.1)) (fun i s=>(s.length:Int)=i) (fun n s hs=>?_) (fun n i s x rest h0 h1 hx hr hp ih=>?_) (n:=k) (s:=[]) (by omega) rfl
 · simp (disch:=omega) only [jY.l0,jY.b0,aN,aI,oH]
 · have hg:=AC hk (st:=st) (d:=d) hd (by omega) x;have ih:=ih (s++[(lU st.2.1 d x).1]) (by rw [bK];omega);simp (disch:=first | omega | decide) only [jY.l0,jY.b0,aK h1,aU,aF,hx,hg,aJ,b7,aC,ih,oH];cases (lU st.2.1 d x).2 != 0 <;> rfl
noncomputable def Er (d:Ty.d aA) (tail:Int) (x:Int) (last:Bool):Bool :=
 (ao d (aB aO x)).2&&(decide ((cL (ao d (aB aO x)).1).2=((ao d (aB aO x)).1.size:Int))&&(!last||(tail==((ao d (aB aO x)).1.size:Int))))
noncomputable def nC (d:Ty.d aA) (tail:Int):List Int→Bool
 | []=>true
 | x::l=>Er d tail x l.isEmpty&&nC d tail l
noncomputable def sG (d:Ty.d aA) (next:Int) (e:Ty.d a_):Bool :=
 (iW d e).2&&(seq (iW d e).1.2.2.1 e.1&&(((iW d e).1.2.1==e.2.2.2.2.1)&&((((iW d e).1.1==1)||((iW d e).1.1==4))&&!decide (e.2.2.2.2.1≥next))))
noncomputable def kL (st:Ty.d aG) (d:Ty.d aA):Bool :=
 gP d&&(dp st.1&&(rk st.2.1&&(decide ((1:Int)≤st.2.2.1∧st.2.2.1≤1000001)&&(nC d st.2.2.2.1 st.1.2.1&&st.2.1.all (sG d st.2.2.1)))))
theorem AO {α:Type} {l:List α} {i:Int} {x:α} {rest:List α} (h0:0≤i) (h:l.drop i.toNat=x::rest):rest.isEmpty=decide (i+1=(l.length:Int)):=by
 have:=congrArg List.length h;rw [List.length_drop,lq] at this;cases rest with
 | nil=>rw [aK (by rw [List.length_nil] at this;omega)];rfl
 | cons y r=>rw [aN (by rw [lq] at this;omega)];rfl
theorem vi {k:Nat} (hk:2 ^ 50≤k) {st:Ty.d aG} {d:Ty.d aA} (hd:uN d):ch.f k st d=some (kL st d,()):=by
 have:=hd.l;have:=hd.u;have:=hd.n;unfold ch.f ch.t kL;rw [kB hk (by omega) (by omega),aJ];cases gP d with
 | false=>rfl
 | true =>
  rw [eQ,aI,su hk,aJ,Bool.true_and];cases cl:dp st.1 with
  | false=>rfl
  | true =>
   rw [eQ,aI,zW hk,aJ,Bool.true_and];cases cd:rk st.2.1 with
   | false=>rfl
   | true =>
    rw [eQ,aI,fC,aJ,Bool.true_and];cases decide ((1:Int)≤st.2.2.1∧st.2.2.1≤1000001) with
    | false=>rfl
    | true =>
     rw [eQ,aI,Bool.true_and];have hl:st.1.2.1.length≤60:=by unfold dp at cl;rw [lP,lP,decide_eq_true_eq,decide_eq_true_eq] at cl;omega
     have he:st.2.1.length≤20:=by unfold rk at cd;rw [lP,decide_eq_true_eq] at cd;omega
     have l1:ch.l1 k k 0 st.1.1 st.1.2.1 st.2.1 st.2.2.1 st.2.2.2.1 st.2.2.2.2.1 d.1 d.2.1 d.2.2.1 d.2.2.2.1=some (st.2.1.all (sG d st.2.2.1),()):=by
      refine dG (L:=fun n i (_:Unit)=>ch.l1 k n i st.1.1 st.1.2.1 st.2.1 st.2.2.1 st.2.2.2.1 st.2.2.2.2.1 d.1 d.2.1 d.2.2.1 d.2.2.2.1) (R:=fun r _=>some (r.all (sG d st.2.2.1),())) (Ty.z a_) st.2.1 (fun _ _=>True) (fun n _ _=>?_) (fun n i _ x rest h0 h1 hx hr hp ih=>?_) (n:=k) (s:=()) (by omega) trivial
      · simp (disch:=omega) only [ch.l1,ch.b1,aN,aI,List.all_nil]
      · have ih:=ih () trivial;have hz:=gw d (aB aO x.2.1);have ht:=iu hk (d:=d) (by omega) (by omega) (by omega) (aB aO x.2.1);have hr:=wK hk (s:=(ao d (aB aO x.2.1)).1) x.2.2.1 x.2.2.2.1 (by omega);simp (disch:=omega) only [ch.l1,ch.b1,aK h1,aU,aF,hx,c8 hk,aJ,ht,hr,aC,ih,List.all_cons,sG,iW,bne];cases (kt (ao d (aB aO x.2.1)).1 x.2.2.1 x.2.2.2.1).2 <;> cases seq (kt (ao d (aB aO x.2.1)).1 x.2.2.1 x.2.2.2.1).1.2.2.1 x.1 <;> cases ((kt (ao d (aB aO x.2.1)).1 x.2.2.1 x.2.2.2.1).1.2.1==x.2.2.2.2.1) <;>
         cases ((kt (ao d (aB aO x.2.1)).1 x.2.2.1 x.2.2.2.1).1.1==1) <;> cases ((kt (ao d (aB aO x.2.1)).1 x.2.2.1 x.2.2.2.1).1.1==4) <;> cases decide (x.2.2.2.2.1≥st.2.2.1) <;> rfl
     refine (dG (L:=fun n i (_:Unit)=>ch.l0 k n i st.1.1 st.1.2.1 st.2.1 st.2.2.1 st.2.2.2.1 st.2.2.2.2.1 d.1 d.2.1 d.2.2.1 d.2.2.2.1) (R:=fun r _=>some (nC d st.2.2.2.1 r&&st.2.1.all (sG d st.2.2.1),())) (Ty.z (.int .i64)) st.1.2.1 (fun _ _=>True) (fun n _ _=>?_) (fun n i _ x rest h0 h1 hx hr hp ih=>?_) (n:=k) (s:=()) (by omega) trivial)
     · simp (disch:=omega) only [ch.l0,ch.b0,aN,aI,nC,l1,Bool.true_and]
     · have ih:=ih () trivial;have hz:=gw d (aB aO x);have ht:=iu hk (d:=d) (by omega) (by omega) (by omega) (aB aO x);have hs:=oP hk (s:=(ao d (aB aO x)).1) (by omega);have hle:=(kS (ao d (aB aO x)).1).2.2;have hlast:=AO h0 hr;simp (disch:=omega) only [ch.l0,ch.b0,aK h1,aU,aF,hx,c8 hk,aJ,ht,hs,aC,ih,nC,Er,bne,hlast];rw [show ((i+1:Int)==(st.1.2.1.length:Int))=decide (i+1=(st.1.2.1.length:Int)) from rfl];cases (ao d (aB aO x)).2 with
       | false=>rfl
       | true =>
        by_cases q:(cL (ao d (aB aO x)).1).2=((ao d (aB aO x)).1.size:Int)
        · rw [aK q,aN (by omega)];cases decide (i+1=(st.1.2.1.length:Int)) <;> cases (st.2.2.2.1==((ao d (aB aO x)).1.size:Int)) <;> rfl
        · rw [aN q,aK (by omega)];rfl
theorem wL {k:Nat} (hk:2 ^ 50≤k) {st:Ty.d aG} {d:Ty.d aA} (hd:uN d) (hv:st.1.2.1.length≤1099511627776) (hw:st.2.1.length≤1099511627776):cm.f k st d=some (kL st d,()):=by
 have:=hd.l;have:=hd.u;have:=hd.n;unfold cm.f cm.t kL;rw [iI hk (by omega) (by omega),aJ];cases gP d with
 | false=>rfl
 | true =>
  rw [eQ,aI,sy hk hv,aJ,Bool.true_and];cases cl:dp st.1 with
  | false=>rfl
  | true =>
   rw [eQ,aI,A4 hk hw,aJ,Bool.true_and];cases cd:rk st.2.1 with
   | false=>rfl
   | true =>
    rw [eQ,aI,iq,aJ,Bool.true_and];cases decide ((1:Int)≤st.2.2.1∧st.2.2.1≤1000001) with
    | false=>rfl
    | true =>
     rw [eQ,aI,Bool.true_and];have hl:st.1.2.1.length≤60:=by unfold dp at cl;rw [lP,lP,decide_eq_true_eq,decide_eq_true_eq] at cl;omega
     have he:st.2.1.length≤20:=by unfold rk at cd;rw [lP,decide_eq_true_eq] at cd;omega
     have l1:cm.l1 k k st.2.1 st.2.1.length 0 st.1.1 st.1.2.1 st.2.1 st.2.2.1 st.2.2.2.1 st.2.2.2.2.1 d.1 d.2.1 d.2.2.1 d.2.2.2.1=some (st.2.1.all (sG d st.2.2.1),()):=by
      refine dG (L:=fun n i (_:Unit)=>cm.l1 k n st.2.1 st.2.1.length i st.1.1 st.1.2.1 st.2.1 st.2.2.1 st.2.2.2.1 st.2.2.2.2.1 d.1 d.2.1 d.2.2.1 d.2.2.2.1) (R:=fun r _=>some (r.all (sG d st.2.2.1),())) (Ty.z a_) st.2.1 (fun _ _=>True) (fun n _ _=>?_) (fun n i _ x rest h0 h1 hx hr hp ih=>?_) (n:=k) (s:=()) (by omega) trivial
      · simp (disch:=omega) only [cm.l1,cm.b1,aN,aI,List.all_nil]
      · have ih:=ih () trivial;have hz:=gw d (aB aO x.2.1);have ht:=jv hk (d:=d) (by omega) (by omega) (by omega) (aB aO x.2.1);have hr:=vK hk (s:=(ao d (aB aO x.2.1)).1) x.2.2.1 x.2.2.2.1 (by omega);simp (disch:=omega) only [cm.l1,cm.b1,aK h1,aU,aF,hx,cr k,aJ,ht,hr,aC,ih,List.all_cons,sG,iW,bne];cases (kt (ao d (aB aO x.2.1)).1 x.2.2.1 x.2.2.2.1).2 <;> cases seq (kt (ao d (aB aO x.2.1)).1 x.2.2.1 x.2.2.2.1).1.2.2.1 x.1 <;> cases ((kt (ao d (aB aO x.2.1)).1 x.2.2.1 x.2.2.2.1).1.2.1==x.2.2.2.2.1) <;>
         cases ((kt (ao d (aB aO x.2.1)).1 x.2.2.1 x.2.2.2.1).1.1==1) <;> cases ((kt (ao d (aB aO x.2.1)).1 x.2.2.1 x.2.2.2.1).1.1==4) <;> cases decide (x.2.2.2.2.1≥st.2.2.1) <;> rfl
     refine (dG (L:=fun n i (_:Unit)=>cm.l0 k n st.1.2.1 st.1.2.1.length i st.1.1 st.1.2.1 st.2.1 st.2.2.1 st.2.2.2.1 st.2.2.2.2.1 d.1 d.2.1 d.2.2.1 d.2.2.2.1) (R:=fun r _=>some (nC d st.2.2.2.1 r&&st.2.1.all (sG d st.2.2.1),())) (Ty.z (.int .i64)) st.1.2.1 (fun _ _=>True) (fun n _ _=>?_) (fun n i _ x rest h0 h1 hx hr hp ih=>?_) (n:=k) (s:=()) (by omega) trivial)
     · simp (disch:=omega) only [cm.l0,cm.b0,aN,aI,nC,l1,Bool.true_and]
     · have ih:=ih () trivial;have hz:=gw d (aB aO x);have ht:=jv hk (d:=d) (by omega) (by omega) (by omega) (aB aO x);have hs:=tE hk (s:=(ao d (aB aO x)).1) (by omega);have hlast:=AO h0 hr;simp (disch:=omega) only [cm.l0,cm.b0,aK h1,aU,aF,hx,cr k,aJ,ht,hs,aC,ih,nC,Er,bne,hlast];rw [show (i==(st.1.2.1.length:Int)-1)=decide (i+1=(st.1.2.1.length:Int)) from (show decide (i=(st.1.2.1.length:Int)-1)=_ from decide_eq_decide.2 (by omega))];cases (ao d (aB aO x)).2 with
       | false=>rfl
       | true =>
        by_cases q:(cL (ao d (aB aO x)).1).2=((ao d (aB aO x)).1.size:Int)
        · rw [aK q,show ((cL (ao d (aB aO x)).1).2==((ao d (aB aO x)).1.size:Int))=true from beq_iff_eq.2 q,q];cases decide (i+1=(st.1.2.1.length:Int)) <;> cases (st.2.2.2.1==((ao d (aB aO x)).1.size:Int)) <;> rfl
        · rw [aN q,show ((cL (ao d (aB aO x)).1).2==((ao d (aB aO x)).1.size:Int))=false from n_ q];rfl
theorem Js (s:ByteArray):ByteArray.extract s s.size s.size=⟨#[]⟩:=mI (by rw [k8,List.drop_eq_nil_of_le (by rw [dD];omega)];rfl)
theorem JR (s:ByteArray):∀ (d d':Nat) (i:Int),0≤i→i≤s.size→(s.size:Int)-i<d→(jg s d i).2-i<d'→jg (ByteArray.extract s 0 (jg s d i).2.toNat) d' i=jg s d i:=by
 intro d
 induction d with
 | zero=>intro d' i h0 h1 h2;omega
 | succ d ih =>
  intro d' i h0 h1 h2 h3;have hu:=nv (ByteArray.extract s i.toNat s.size);have hz:=rE s i.toNat;have stop:∀ d':Nat,0<d'→jg (ByteArray.extract s 0 i.toNat) d' i=([],i):=fun d' hd=>by
   obtain ⟨n,rfl⟩:∃ q,d'=q+1:=⟨d'-1,by omega⟩;have hs:(ByteArray.extract s 0 i.toNat).size=i.toNat:=wa s (by omega);have e:ByteArray.extract (ByteArray.extract s 0 i.toNat) i.toNat (ByteArray.extract s 0 i.toNat).size=⟨#[]⟩:=by have:=Js (ByteArray.extract s 0 i.toNat);rw [hs] at this ⊢;exact this
   rw [jg,e,HX,if_pos rfl]
  by_cases c1:(iU (ByteArray.extract s i.toNat s.size)).2=0
  · have e:jg s (d+1) i=([],i):=by rw [jg,if_pos c1]
    rw [e] at h3 ⊢;exact stop d' (by simp only [] at h3;omega)
  · cases c2:(kV (iU (ByteArray.extract s i.toNat s.size)).1).2 with
    | false =>
     have e:jg s (d+1) i=([],i):=by rw [jg,if_neg c1,if_pos c2]
     rw [e] at h3 ⊢;exact stop d' (by simp only [] at h3;omega)
    | true =>
     have e:jg s (d+1) i=(((i,((iU (ByteArray.extract s i.toNat s.size)).2,((kV (iU (ByteArray.extract s i.toNat s.size)).1).1,()))):Ty.d bU)::(jg s d (i+(iU (ByteArray.extract s i.toNat s.size)).2)).1,(jg s d (i+(iU (ByteArray.extract s i.toNat s.size)).2)).2):=by rw [jg,if_neg c1,if_neg (by rw [c2];decide)]
     rw [e] at h3 ⊢;simp only [] at h3 ⊢;have hl:=xB s d (i+(iU (ByteArray.extract s i.toNat s.size)).2) (by omega) (by omega);obtain ⟨n,rfl⟩:∃ q,d'=q+1:=⟨d'-1,by omega⟩;have ih:=ih n (i+(iU (ByteArray.extract s i.toNat s.size)).2) (by omega) (by omega) (by omega) (by omega);have key:iU (ByteArray.extract (ByteArray.extract s 0 (jg s d (i+(iU (ByteArray.extract s i.toNat s.size)).2)).2.toNat) i.toNat (ByteArray.extract s 0 (jg s d (i+(iU (ByteArray.extract s i.toNat s.size)).2)).2.toNat).size)=iU (ByteArray.extract s i.toNat s.size):=by
      generalize (jg s d (i+(iU (ByteArray.extract s i.toNat s.size)).2)).2=x at hl ⊢;rcases p_ (ByteArray.extract s i.toNat s.size) with ⟨t,r,ht,e1,e2⟩ | ⟨e2,_⟩
      · rw [e2] at hl ⊢;simp only [] at hl;have e3:ByteArray.extract (ByteArray.extract s 0 x.toNat) i.toNat (ByteArray.extract s 0 x.toNat).size=am t++ByteArray.extract r 0 (x.toNat-i.toNat-(am t).size):=by
         apply mI;have hnb:=congrArg nb e1;rw [k8,jr] at hnb;rw [k8,lZ,jr,lZ,List.drop_take,hnb,List.take_append,dD,List.take_of_length_le (by rw [dD];omega)]
        rw [e3,qn _ ht]
      · exact absurd (by rw [e2]) c1
     rw [jg,key,if_neg c1,if_neg (by rw [c2];decide),ih]
theorem Ie (s:ByteArray):cL (ByteArray.extract s 0 (cL s).2.toNat)=cL s:=by have hl:=kS s;have:=JR s (s.size+1) ((cL s).2.toNat+1) 0 (by omega) (by omega) (by omega) (by show (cL s).2-0<_;omega);have hz:=wa s (n:=(cL s).2.toNat) (by omega);unfold cL at hz ⊢;rw [hz];exact this
theorem tr {h:Ty.d aE→Ty.d aE} (hh:∀ f,(h f).1=f.1):∀ (l:bo) (s t:ByteArray),cB (nV h l s) t=bif seq t s then (cB l s).map h else cB l t
 | [],s,t=>by cases seq t s <;> rfl
 | g::l,s,t=>by
  unfold nV;cases c:seq g.1 s with
  | true =>
   have e:=dT.1 c;rw [aU,cB.eq_2,hh,cB.eq_2,c,aU];by_cases q:t=s
   · rw [e,q,cZ];rfl
   · rw [n8 q,aI,cB.eq_2];rw [e,n8 (fun w=>q w.symm)];rfl
  | false =>
   rw [aI,cB.eq_2,cB.eq_2,c,aI,tr hh l s t,cB.eq_2];by_cases q:t=s
   · rw [q,cZ,c];rfl
   · rw [n8 q];rfl
theorem u7 {d:Ty.d aA} {g:bo→Int→bo × Int} (h:(iZ d g).2=0):(g d.1 d.2.1).2=0∧(iZ d g).1.1=(g d.1 d.2.1).1:=by
 unfold iZ at h ⊢;cases c:(jG d).2 != 0 with
 | true =>rw [c,aU] at h;rw [h] at c;cases c
 | false=>rw [c] at h;exact ⟨h,rfl⟩
theorem pV {d:Ty.d aA} (h:DR d) (s:ByteArray):ao d s=match cB d.1 s with | none=>(⟨#[]⟩,false) | some f=>(f.2.1,true):=by unfold ao;rw [lH.2 h];rfl
theorem Fe {d:Ty.d aA} (h:DR d) {n:ByteArray} (c:(jB d n).2=0) (s:ByteArray):ao (jB d n).1 s=ao d s:=by
 obtain ⟨c1,c2⟩:=u7 c;rw [pV (oY h n),pV h];unfold jB;rw [c2];unfold Av at c1 ⊢;cases hg:(cB d.1 n).isNone with
 | true=>rfl
 | false =>
  rw [aI];show (match cB (nV _ d.1 n) s with | none=>_ | some f=>_)=_;rw [tr (by intro f;rfl)];by_cases q:s=n
  · rw [q,cZ,aU];cases cB d.1 n <;> rfl
  · rw [n8 q,aI]
theorem LC {d:Ty.d aA} (h:DR d) {n:ByteArray} {m:Int} (c:(oW d n m).2=0) (s:ByteArray):ao (oW d n m).1 s=bif seq s n then (ByteArray.extract (ao d n).1 0 m.toNat,true) else ao d s:=by
 obtain ⟨c1,c2⟩:=u7 c;rw [pV (Aa h n m),pV h,pV h];unfold oW;rw [c2];unfold B3 at c1 ⊢;cases hg:cB d.1 n with
 | none=>rw [hg] at c1;cases c1
 | some f =>
  rw [hg] at c1;simp only [] at c1 ⊢;cases hm:decide (0≤m∧m≤(f.2.1.size:Int)) with
  | false=>rw [hm] at c1;cases c1
  | true =>
   simp only [eQ,aI];rw [tr (by intro f;rfl)];by_cases q:s=n
   · rw [q,cZ,aU,hg];rfl
   · rw [n8 q,aI,aI]
theorem nd {r:RD} {f:Ty.d aA→RD} (h:(dW r f).2=0):r.2=0∧dW r f=f r.1∧(f r.1).2=0:=by
 unfold dW at h ⊢;cases c:r.2==0 with
 | true=>rw [c] at h;exact ⟨Aw c,rfl,h⟩
 | false =>rw [c] at h;rw [aI] at h;rw [h] at c;cases c
noncomputable def gC (d:Ty.d aA) (x:Int):ByteArray:=(ao d (aB aO x)).1
def bH (ids:List Int):Int:=ids.getD (ids.length-1) 0
noncomputable def jD (x:Int) (d:Ty.d aA):RD :=
 dW (bif decide ((cL (gC d x)).2<((gC d x).size:Int)) then oW d (aB aO x) (cL (gC d x)).2 else (d,0)) fun y=>jB y (aB aO x)
theorem K2 (x:Int) {d:Ty.d aA} (h:DR d):DR (jD x d).1:=by
 unfold jD;refine jk ?_ fun y hy=>oY hy _
 cases decide ((cL (gC d x)).2<((gC d x).size:Int))
 · exact h
 · exact Aa h _ _
theorem Kt {d:Ty.d aA} (h:DR d) {x:Int} (c:(jD x d).2=0) (s:ByteArray):(ao (jD x d).1 s).2=(ao d s).2∧cL (ao (jD x d).1 s).1=cL (ao d s).1:=by
 obtain ⟨c1,c2,c3⟩:=nd c;have e:jD x d=_:=c2;rw [e];by_cases hb:(cL (gC d x)).2<((gC d x).size:Int)
 · simp only [aK hb,aU] at c1 c3 ⊢;rw [Fe (Aa h _ _) c3,LC h c1];by_cases q:s=aB aO x
   · rw [q,cZ,aU];refine ⟨?_,Ie (gC d x)⟩;cases hq:(ao d (aB aO x)).2 with
     | true=>rfl
     | false =>exfalso;unfold gC at hb;have hl:=kS (ao d (aB aO x)).1;rw [HZ hq] at hb hl;rw [e0] at hb;omega
   · rw [n8 q];exact ⟨rfl,rfl⟩
 · simp only [aN hb,aI] at c1 c3 ⊢;rw [Fe h c3];exact ⟨rfl,rfl⟩
abbrev iy:=List (Ty.d aW)
def lO (x:Ty.d aW):Bool:=iJ x.1&&(decide ((x.2.2.1.size:Int)≤24)&&(!x.2.1||seq x.2.2.1 ⟨#[]⟩))
def gQ (l:iy):Bool:=sD (fun _=>lO) none l&&decide (l.length≤8)
theorem qY {k:Nat} (hk:2 ^ 50≤k) (l:iy):co.f k l=some (gQ l,()):=by
 unfold co.f co.t gQ;by_cases c:l.length > 8
 · rw [aK (by omega),aU,aN (by omega),Bool.and_false]
 · rw [aN (by omega),aI,aK (by omega),Bool.and_true];have st:∀ (n:Nat) (i:Int) x,0≤i→i<l.length→l.getD i.toNat (Ty.z aW)=x→co.l0 k (n+1) l i=bif lO x then co.l0 k n l (i+1) else some (false,()):=fun n i x h0 h1 hx=>by
    simp (disch:=omega) only [co.l0,co.b0,aK h1,aU,aF,hx,m0 k,aJ,aC,lO,iJ];by_cases c2:(x.2.2.1.size:Int) > 24
    · rw [aK c2,aN (show ¬ (x.2.2.1.size:Int)≤24 by omega)];cases decide (1≤(x.1.size:Int)∧(x.1.size:Int)≤8) <;> rfl
    · rw [aN c2,aK (show (x.2.2.1.size:Int)≤24 by omega)];cases decide (1≤(x.1.size:Int)∧(x.1.size:Int)≤8) <;> cases x.2.1 <;> cases seq x.2.2.1 ⟨#[]⟩ <;> rfl
   exact (qU (L:=fun n i=>co.l0 k n l i) (Ty.z aW) l (fun _=>lO) (some (true,())) (some (false,())) (fun n=>by simp (disch:=omega) only [co.l0,co.b0,aN,aI])
    (fun n x h hx=>st n 0 x (by omega) (by omega) hx) (fun n i x y h0 h1 hx hy=>st n i x (by omega) h1 hx) (n:=k) (by omega)).trans (by cases sD (fun _=>lO) none l <;> rfl)
theorem Az {k:Nat} (hk:2 ^ 50≤k) {l:iy} (hl:l.length≤1099511627776):fw.f k l=some (gQ l,()):=by
 unfold fw.f fw.t gQ;have st:∀ (n:Nat) (i:Int) x,0≤i→i<l.length→l.getD i.toNat (Ty.z aW)=x→fw.l0 k (n+1) l l l.length i=bif lO x then fw.l0 k n l l l.length (i+1) else some (false,()):=fun n i x h0 h1 hx=>by
  have e:gS.f k x=some (lO x,()):=by unfold gS.f gS.t lO iJ;rw [kv,aJ];cases decide (1≤(x.1.size:Int)∧(x.1.size:Int)≤8) <;> cases decide ((x.2.2.1.size:Int)≤24) <;> cases x.2.1 <;> rfl
  simp (disch:=omega) only [fw.l0,fw.b0,aK h1,aU,aF,hx,e,aJ,aC];cases lO x <;> rfl
 exact (qU (L:=fun n i=>fw.l0 k n l l l.length i) (Ty.z aW) l (fun _=>lO) (some (decide ((l.length:Int)≤8),())) (some (false,())) (fun n=>by simp (disch:=omega) only [fw.l0,fw.b0,aN,aI])
  (fun n x h hx=>st n 0 x (by omega) (by omega) hx) (fun n i x y h0 h1 hx hy=>st n i x (by omega) h1 hx) (n:=k) (by omega)).trans (by rw [show decide ((l.length:Int)≤8)=decide (l.length≤8) from decide_eq_decide.2 (by omega)];cases sD (fun _=>lO) none l <;> rfl)
theorem pK {l:iy} (h:gQ l=true):l.length≤8:=by unfold gQ at h;rw [lP,decide_eq_true_eq] at h;exact h.2
theorem HJ {l:iy} (h:gQ l=true) {x:Ty.d aW} (hx:x ∈ l):lO x=true:=by
 unfold gQ at h;rw [lP] at h;exact (DC h.1 hx).elim fun _ q=>q
def mB (b:Int) (p:Ty.d aW):Ty.d bR:=bif p.2.1 then (2,(b,(p.1,(ByteArray.empty,(0,(0,())))))) else (1,(b,(p.1,(p.2.2.1,(0,(0,()))))))
def sB (l:iy) (b:Int):oL:=l.map (mB b)++[ir 3 b (l.map (mB b))]
theorem wb {k:Nat} (hk:2 ^ 50≤k) {l:iy} (hl:l.length≤1073741823) (b:Int):eU.f k l b=some (sB l b,()):=by
 unfold eU.f eU.t;refine (dG (L:=fun n i s=>eU.l0 k n l b l l.length i s) (R:=fun r s=>some (s++r.map (mB b)++[ir 3 b (s++r.map (mB b))],())) (Ty.z aW) l (fun i s=>(s.length:Int)=i) (fun n s hs=>?_) (fun n i s x rest h0 h1 hx hr hp ih=>?_) (n:=k) (s:=[]) (by omega) (by decide)).trans (by rw [List.nil_append];rfl)
 · simp (disch:=first | omega | decide) only [eU.l0,eU.b0,aN,aI,rj hk,aJ,b7,List.map_nil,List.append_nil,ir,hs]
 · have ih:=ih (s++[mB b x]) (by rw [sF];show ((s.length+1:Nat):Int)=_;omega);have e:mB b x=bif x.2.1 then (2,(b,(x.1,(ByteArray.empty,(0,(0,())))))) else (1,(b,(x.1,(x.2.2.1,(0,(0,())))))):=rfl;simp (disch:=first | omega | decide) only [eU.l0,eU.b0,aK,aU,aF,hx,b7,aC];cases c:x.2.1 <;> rw [c] at e <;> simp only [aU,aI] at e ⊢ <;> rw [← e] <;> refine ih.trans ?_ <;> simp only [List.map_cons,py,List.cons_append,List.nil_append]
def d5 (r:Ty.d bR):Int:=((am (aV r)).size:Int)
theorem mA (r:Ty.d bR):0≤d5 r∧d5 r≤211:=by have:=ln (aV r);unfold d5;omega
theorem JW {x:Ty.d aW} (b:Int) (h:lO x=true):mB b x=bif x.2.1 then (2,(b,(x.1,(x.2.2.1,(0,(0,())))))) else (1,(b,(x.1,(x.2.2.1,(0,(0,())))))):=by
 unfold mB;unfold lO at h;rw [lP,lP] at h;cases c:x.2.1 with
 | false=>rfl
 | true =>rw [c] at h;have:x.2.2.1=⟨#[]⟩:=dT.1 h.2.2;rw [this];rfl
def ki (l:aX) (key:ByteArray):aX:=l.filter fun x=>!(seq x.1 key)
def MJ (key:ByteArray) (x:Ty.d a_):Bool:=ox x.1 key||seq x.1 key
def As (l:aX) (e:Ty.d a_):aX:=l.takeWhile (MJ e.1)++e::l.dropWhile (MJ e.1)
def xv (l:aX) (e:Ty.d a_):aX:=As (ki l e.1) e
theorem p9 (l:aX) (key:ByteArray):(ki l key).length≤l.length:=List.length_filter_le ..
theorem E_ (l:aX) (e:Ty.d a_):(As l e).length=l.length+1:=by unfold As;rw [sF,lq];have:=congrArg List.length (List.takeWhile_append_dropWhile (p:=MJ e.1) (l:=l));rw [sF] at this;omega
theorem Kz (l:aX) (e:Ty.d a_):(xv l e).length≤l.length+1:=by unfold xv;have:=p9 l e.1;rw [E_];omega
theorem uG {k:Nat} (hk:2 ^ 50≤k) {l:aX} (e:Ty.d a_) (hl:l.length≤1073741823):cU.f k l e=some (xv l e,()):=by
 unfold cU.f cU.t;refine (dG (L:=fun n i (s:Bool × aX)=>cU.l0 k n l s.1 i e.1 e.2.1 e.2.2.1 e.2.2.2.1 e.2.2.2.2.1 s.2) (R:=fun r s=>some (s.2++bif s.1 then ki r e.1 else As (ki r e.1) e,())) (Ty.z a_) l (fun i s=>(s.2.length:Int)≤2*i+1) (fun n s hs=>?_) (fun n i s x rest h0 h1 hx hr hp ih=>?_) (n:=k) (s:=(false,[])) (by omega) (by simp)).trans (by rw [List.nil_append];rfl)
 · obtain ⟨dn,out⟩:=s;simp only [] at hs;cases dn with
   | true=>simp (disch:=first | omega | decide) only [cU.l0,cU.b0,aN,aI,aU,eQ,ki,List.filter_nil,List.append_nil]
   | false=>simp (disch:=first | omega | decide) only [cU.l0,cU.b0,aN,aI,aU,rB,b7,ki,List.filter_nil,As,List.takeWhile_nil,List.dropWhile_nil,List.nil_append]
 · obtain ⟨dn,out⟩:=s;simp only [] at hp;cases c:seq x.1 e.1 with
   | true =>simp (disch:=omega) only [cU.l0,cU.b0,aK,aU,aF,hx,c,aC];refine (ih (dn,out) (by simp only [];omega)).trans ?_;simp only [ki,List.filter_cons,c,eQ,Bool.false_eq_true,if_false]
   | false =>
    have ef:ki (x::rest) e.1=x::ki rest e.1:=by simp only [ki,List.filter_cons,c,rB,if_true]
    cases dn with
    | true =>simp (disch:=first | omega | decide) only [cU.l0,cU.b0,aK,aU,aI,aF,hx,c,aC,eQ,b7];refine (ih (true,out++[x]) (by simp only [bK];omega)).trans ?_;rw [ef];simp only [aU,py,List.cons_append,List.nil_append]
    | false =>
     cases c2:ox x.1 e.1 with
     | true =>simp (disch:=first | omega | decide) only [cU.l0,cU.b0,aK,aU,aI,aF,hx,c,c2,aC,rB,eQ,Bool.true_or,b7];refine (ih (false,out++[x]) (by simp only [bK];omega)).trans ?_;rw [ef];simp only [aI,As,MJ,List.takeWhile_cons,List.dropWhile_cons,c2,Bool.true_or,if_true,py,List.cons_append,List.nil_append]
     | false =>
      have hx2:(out++[(e.1,(e.2.1,(e.2.2.1,(e.2.2.2.1,(e.2.2.2.2.1,())))))]:aX).length+1≤1099511627776:=by rw [bK];omega
      simp (disch:=first | omega | decide) only [cU.l0,cU.b0,aK,aU,aI,aF,hx,c,c2,aC,rB,Bool.or_false,b7];refine (ih (true,(out++[e])++[x]) (by simp only [bK];omega)).trans ?_;rw [ef];simp only [aU,aI,As,MJ,List.takeWhile_cons,List.dropWhile_cons,c,c2,Bool.or_false,Bool.false_eq_true,if_false,py,List.cons_append,List.nil_append]
abbrev bZ:=List (Ty.d aD)
def oT (b:Int) (acc:bZ) (p:Ty.d aD):bZ :=
 bif p.2.2.2.1.2.1==b then (bif p.2.2.2.1.1==3 then [] else bif p.2.2.2.1.1==1||p.2.2.2.1.1==2 then acc++[p] else acc) else acc
def nE (acc:bZ) (p:Ty.d aD):bZ:=bif p.2.2.2.1.1==5 then [] else bif p.2.2.2.1.1==4 then acc++[p] else acc
def m6 (b:Int) (l:bZ):bZ:=l.foldl (oT b) []
def iM (l:bZ):bZ:=l.foldl nE []
theorem ri (b:Int) (acc:bZ) (p:Ty.d aD):(oT b acc p).length≤acc.length+1:=by unfold oT;cases p.2.2.2.1.2.1==b <;> cases p.2.2.2.1.1==3 <;> cases p.2.2.2.1.1==1 <;> cases p.2.2.2.1.1==2 <;> simp
theorem rS (acc:bZ) (p:Ty.d aD):(nE acc p).length≤acc.length+1:=by unfold nE;cases p.2.2.2.1.1==5 <;> cases p.2.2.2.1.1==4 <;> simp
theorem wy {f:bZ→Ty.d aD→bZ} (h:∀ a p,(f a p).length≤a.length+1):∀ (l acc:bZ),(l.foldl f acc).length≤acc.length+l.length
 | [],acc=>by simp
 | p::l,acc=>by have:=wy h l (f acc p);have:=h acc p;rw [List.foldl_cons,lq];omega
theorem sw (b:Int) (l:bZ):(m6 b l).length≤l.length:=by have:=wy (ri b) l [];simpa [m6] using this
theorem t6 (l:bZ):(iM l).length≤l.length:=by have:=wy rS l [];simpa [iM] using this
theorem J0 {k:Nat} (hk:2 ^ 50≤k) {l:bZ} {e:Int} (b:Int) (h0:0≤e) (he:e≤l.length) (hl:l.length≤1099511627775):jU.f k l e b=some (m6 b (l.take e.toNat),()):=by
 unfold jU.f jU.t;have hlen:(l.take e.toNat).length=e.toNat:=by rw [List.length_take];omega
 have he':e=((l.take e.toNat).length:Int):=by omega
 conv=>lhs;rw [he']
 refine dG (L:=fun n i s=>jU.l0 k n l ((l.take e.toNat).length:Int) b i s) (R:=fun r s=>some (r.foldl (oT b) s,())) (Ty.z aD) (l.take e.toNat) (fun i s=>(s.length:Int)≤i) (fun n s hs=>?_) (fun n i s x rest h0 h1 hx hr hp ih=>?_) (n:=k) (s:=[]) (by omega) (by decide)
 · simp (disch:=omega) only [jU.l0,jU.b0,aN,aI,List.foldl_nil]
 · rw [m7 (by omega)] at hx;have ih:=fun s' (h:s'.length≤s.length+1)=>ih s' (by omega)
   simp (disch:=omega) only [jU.l0,jU.b0,aK h1,aU,aF,hx,aC];rw [List.foldl_cons];have hs1:=ri b s x;have ih1:=ih _ hs1;rw [← ih1];unfold oT;have r1:∀ {R:Type} (q:Option R),rm (Ty.bytes aD) (s.length+1) q=q:=fun q=>b7 (by omega) (by decide)
   have r2:∀ {R:Type} (q:Option R),rm (Ty.bytes aD) (0+1) q=q:=fun q=>b7 (by omega) (by decide)
   simp only [r1,r2];cases c1:(x.2.2.2.1.2.1==b) <;> cases c2:(x.2.2.2.1.1==3) <;> cases c3:(x.2.2.2.1.1==1) <;> cases c4:(x.2.2.2.1.1==2) <;> first | rfl | skip
   all_goals (exfalso;have e2:=eq_of_beq c2;first | (rw [e2] at c3;revert c3;decide) | (rw [e2] at c4;revert c4;decide))
theorem DG {k:Nat} (hk:2 ^ 50≤k) {l:bZ} {r:Ty.d bR} (hr:r.1=3) (hl:l.length≤1099511627775):dU.f k l r=some (m6 r.2.1 l,()):=by
 unfold dU.f dU.t;rw [hr];refine dG (L:=fun n i s=>dU.l0 k n l l.length i 3 r.2.1 r.2.2.1 r.2.2.2.1 r.2.2.2.2.1 r.2.2.2.2.2.1 s) (R:=fun q s=>some (q.foldl (oT r.2.1) s,())) (Ty.z aD) l (fun i s=>(s.length:Int)≤i) (fun n s hs=>?_) (fun n i s x rest h0 h1 hx hr hp ih=>?_) (n:=k) (s:=[]) (by omega) (by decide)
 · simp (disch:=omega) only [dU.l0,dU.b0,aN,aI,List.foldl_nil]
 · simp (disch:=omega) only [dU.l0,dU.b0,aK h1,aU,aI,aF,hx,aC,show ((3:Int)==3)=true from rfl,show ((3:Int)==5)=false from rfl];rw [List.foldl_cons];have hs1:=ri r.2.1 s x;have ih1:=ih (oT r.2.1 s x) (by omega);rw [← ih1];unfold oT bne;have r1:∀ {R:Type} (q:Option R),rm (Ty.bytes aD) (s.length+1) q=q:=fun q=>b7 (by omega) (by decide)
   simp only [r1];cases c1:(x.2.2.2.1.2.1==r.2.1) <;> cases c2:(x.2.2.2.1.1==3) <;> cases c3:(x.2.2.2.1.1==1) <;> cases c4:(x.2.2.2.1.1==2) <;> rfl
theorem wN {k:Nat} (hk:2 ^ 50≤k) {l:bZ} {r:Ty.d bR} (hr:r.1=5) (hl:l.length≤1099511627775):dU.f k l r=some (iM l,()):=by
 unfold dU.f dU.t;rw [hr];refine dG (L:=fun n i s=>dU.l0 k n l l.length i 5 r.2.1 r.2.2.1 r.2.2.2.1 r.2.2.2.2.1 r.2.2.2.2.2.1 s) (R:=fun q s=>some (q.foldl nE s,())) (Ty.z aD) l (fun i s=>(s.length:Int)≤i) (fun n s hs=>?_) (fun n i s x rest h0 h1 hx hr hp ih=>?_) (n:=k) (s:=[]) (by omega) (by decide)
 · simp (disch:=omega) only [dU.l0,dU.b0,aN,aI,List.foldl_nil]
 · simp (disch:=omega) only [dU.l0,dU.b0,aK h1,aU,aI,aF,hx,aC,show ((5:Int)==3)=false from rfl,show ((5:Int)==5)=true from rfl];rw [List.foldl_cons];have hs1:=rS s x;have ih1:=ih (nE s x) (by omega);rw [← ih1];unfold nE;have r1:∀ {R:Type} (q:Option R),rm (Ty.bytes aD) (s.length+1) q=q:=fun q=>b7 (by omega) (by decide)
   simp only [r1];cases c1:(x.2.2.2.1.1==5) <;> cases c2:(x.2.2.2.1.1==4) <;> rfl
def zG (p:Ty.d aD):Ty.d bR:=p.2.2.2.1
def nH (r:Ty.d bR) (own:bZ):Bool:=(r.2.2.2.2.1==(own.length:Int))&&(r.2.2.2.2.2.1==EM (own.map zG))
theorem sO {k:Nat} (hk:2 ^ 50≤k) (r:Ty.d bR) {l:bZ} (hl:l.length≤1073741823):iF.f k r l=some (nH r l,()):=by
 unfold iF.f iF.t;refine (dG (L:=fun n i s=>iF.l0 k n l l.length i r.1 r.2.1 r.2.2.1 r.2.2.2.1 r.2.2.2.2.1 r.2.2.2.2.2.1 s) (R:=fun q s=>some ((r.2.2.2.2.1==((s++q.map zG).length:Int))&&(r.2.2.2.2.2.1==EM (s++q.map zG)),())) (Ty.z aD) l (fun i s=>(s.length:Int)=i) (fun n s hs=>?_) (fun n i s x rest h0 h1 hx hr hp ih=>?_) (n:=k) (s:=[]) (by omega) (by decide)).trans (by rw [List.nil_append,List.length_map];rfl)
 · simp (disch:=omega) only [iF.l0,iF.b0,aN,aI,List.map_nil,List.append_nil,rj hk,aJ];cases (r.2.2.2.2.1==(s.length:Int)) <;> rfl
 · simp (disch:=first | omega | decide) only [iF.l0,iF.b0,aK,aU,aF,hx,b7,aC];refine (ih (s++[zG x]) (by rw [bK];omega)).trans ?_;simp only [List.map_cons,py,List.cons_append,List.nil_append]
theorem xm {k:Nat} (hk:2 ^ 50≤k) (r:Ty.d bR) {l:bZ} (hl:l.length≤1073741823):jz.f k r l=some (nH r l,()):=by
 have e:h_.f k l=some (l.map zG,()):=by
  unfold h_.f h_.t;refine (dG (L:=fun n i s=>h_.l0 k n l i s) (R:=fun q s=>some (s++q.map zG,())) (Ty.z aD) l (fun i s=>(s.length:Int)=i) (fun n s hs=>?_) (fun n i s x rest h0 h1 hx hr hp ih=>?_) (n:=k) (s:=[]) (by omega) (by decide)).trans (by rw [List.nil_append])
  · simp (disch:=omega) only [h_.l0,h_.b0,aN,aI,List.map_nil,List.append_nil]
  · simp (disch:=first | omega | decide) only [h_.l0,h_.b0,aK,aU,aF,hx,b7,aC];refine (ih (s++[zG x]) (by rw [bK];omega)).trans ?_;simp only [List.map_cons,py,List.cons_append,List.nil_append]
 unfold jz.f jz.t nH;rw [e,aJ];simp only [];rw [rI hk (by rw [List.length_map];omega),aJ];cases (r.2.2.2.2.1==(l.length:Int)) <;> rfl
theorem sT {k:Nat} (hk:2 ^ 50≤k) {l:aX} (key:ByteArray) (hl:l.length≤1099511627775):da.f k l key=some (ki l key,()):=by
 unfold da.f da.t;refine (dG (L:=fun n i s=>da.l0 k n l key i s) (R:=fun r s=>some (s++ki r key,())) (Ty.z a_) l (fun i s=>(s.length:Int)≤i) (fun n s hs=>?_) (fun n i s x rest h0 h1 hx hr hp ih=>?_) (n:=k) (s:=[]) (by omega) (by decide)).trans (by rw [List.nil_append])
 · simp (disch:=omega) only [da.l0,da.b0,aN,aI,ki,List.filter_nil,List.append_nil]
 · cases c:seq x.1 key with
   | true =>simp (disch:=first | omega | decide) only [da.l0,da.b0,aK,aU,aI,aF,hx,c,eQ,aC];refine (ih s (by omega)).trans ?_;simp only [ki,List.filter_cons,c,eQ,Bool.false_eq_true,if_false]
   | false =>simp (disch:=first | omega | decide) only [da.l0,da.b0,aK,aU,aF,hx,c,rB,b7,aC];refine (ih (s++[x]) (by rw [bK];omega)).trans ?_;simp only [ki,List.filter_cons,c,rB,if_true,py,List.cons_append,List.nil_append]
theorem pf {k:Nat} (hk:2 ^ 50≤k) {l:aX} (key:ByteArray) (hl:l.length≤1099511627775):cG.f k l key=some (ki l key,()):=by
 unfold cG.f cG.t;refine (dG (L:=fun n i s=>cG.l0 k n key l l.length i s) (R:=fun r s=>some (s++ki r key,())) (Ty.z a_) l (fun i s=>(s.length:Int)≤i) (fun n s hs=>?_) (fun n i s x rest h0 h1 hx hr hp ih=>?_) (n:=k) (s:=[]) (by omega) (by decide)).trans (by rw [List.nil_append])
 · simp (disch:=omega) only [cG.l0,cG.b0,aN,aI,ki,List.filter_nil,List.append_nil]
 · cases c:seq x.1 key with
   | true =>simp (disch:=first | omega | decide) only [cG.l0,cG.b0,aK,aU,aI,aF,hx,c,eQ,aC];refine (ih s (by omega)).trans ?_;simp only [ki,List.filter_cons,c,eQ,Bool.false_eq_true,if_false]
   | false =>simp (disch:=first | omega | decide) only [cG.l0,cG.b0,aK,aU,aF,hx,c,rB,b7,aC];refine (ih (s++[x]) (by rw [bK];omega)).trans ?_;simp only [ki,List.filter_cons,c,rB,if_true,py,List.cons_append,List.nil_append]
theorem uP {k:Nat} (hk:2 ^ 50≤k) {l:aX} (e:Ty.d a_) (hl:l.length≤1099511627775):dQ.f k l e=some (xv l e,()):=by
 unfold dQ.f dQ.t xv;rw [pf hk e.1 hl,aJ];have hd:=p9 l e.1;simp only [];generalize ki l e.1=r at *;have cp:∀ q:aX,q.length≤1099511627775→cM.f k q=some (q,()):=fun q hq=>by unfold cM.f cM.t;rw [b7 (by omega) (by decide)]
 have key:∀ (d j n:Nat),r.length-j=d→j≤r.length→d<n→dQ.l0 k n (j:Int) e.1 e.2.1 e.2.2.1 e.2.2.2.1 e.2.2.2.2.1 r=some (r.take j++As (r.drop j) e,()):=by
  intro d
  induction d with
  | zero =>
   intro j n hd hj hn;obtain ⟨n,rfl⟩:∃ q,n=q+1:=⟨n-1,by omega⟩;have:j=r.length:=by omega
   subst this;simp (disch:=first | omega | (simp only [bK,List.length_take,List.length_drop];omega) | decide) only [dQ.l0,dQ.b0,aN,aI,bv,p5,cp,aJ,b7];rw [List.drop_length,As];simp
  | succ d ih =>
   intro j n hd hj hn;obtain ⟨n,rfl⟩:∃ q,n=q+1:=⟨n-1,by omega⟩;have hlt:j<r.length:=by omega
   have e1:r.drop j=r.getD j (Ty.z a_)::r.drop (j+1):=by rw [List.drop_eq_getElem_cons hlt];simp [List.getD,hlt]
   cases c:MJ e.1 (r.getD j (Ty.z a_)) with
   | true =>have c':=c;unfold MJ at c';have ih:=ih (j+1) n (by omega) (by omega) (by omega);simp (disch:=omega) only [dQ.l0,dQ.b0,aK,aU,aF,p5,c',aC];rw [show ((j:Int)+1)=((j+1:Nat):Int) by omega,ih,e1,kY (z:=Ty.z a_) hlt];unfold As;simp only [List.takeWhile_cons,List.dropWhile_cons,c,if_true,py,List.cons_append,List.nil_append]
   | false =>have c':=c;unfold MJ at c';simp (disch:=first | omega | (simp only [bK,List.length_take,List.length_drop];omega) | decide) only [dQ.l0,dQ.b0,aK,aU,aI,aF,p5,c',bv,cp,aJ,b7];rw [e1];unfold As;simp only [List.takeWhile_cons,List.dropWhile_cons,c,Bool.false_eq_true,if_false,py,List.cons_append,List.nil_append]
 exact (key r.length 0 k (by omega) (by omega) (by omega)).trans (by rw [List.take_zero,List.drop_zero,List.nil_append])
theorem xe {k:Nat} (hk:2 ^ 50≤k) {l:bZ} {e:Int} (h0:0≤e) (he:e≤l.length) (hl:l.length≤1099511627775):g9.f k l e=some (iM (l.take e.toNat),()):=by
 unfold g9.f g9.t;have hlen:(l.take e.toNat).length=e.toNat:=by rw [List.length_take];omega
 have he':e=((l.take e.toNat).length:Int):=by omega
 conv=>lhs;rw [he']
 refine dG (L:=fun n i s=>g9.l0 k n l ((l.take e.toNat).length:Int) i s) (R:=fun r s=>some (r.foldl nE s,())) (Ty.z aD) (l.take e.toNat) (fun i s=>(s.length:Int)≤i) (fun n s hs=>?_) (fun n i s x rest h0 h1 hx hr hp ih=>?_) (n:=k) (s:=[]) (by omega) (by decide)
 · simp (disch:=omega) only [g9.l0,g9.b0,aN,aI,List.foldl_nil]
 · rw [m7 (by omega)] at hx;simp (disch:=omega) only [g9.l0,g9.b0,aK h1,aU,aF,hx,aC];rw [List.foldl_cons];have hs1:=rS s x;have ih1:=ih (nE s x) (by omega);rw [← ih1];unfold nE;have r1:∀ {R:Type} (q:Option R),rm (Ty.bytes aD) (s.length+1) q=q:=fun q=>b7 (by omega) (by decide)
   have r2:∀ {R:Type} (q:Option R),rm (Ty.bytes aD) (0+1) q=q:=fun q=>b7 (by omega) (by decide)
   simp only [r1,r2];cases c1:(x.2.2.2.1.1==5) <;> cases c2:(x.2.2.2.1.1==4) <;> first | rfl | skip
   all_goals (exfalso;have e2:=eq_of_beq c1;rw [e2] at c2;revert c2;decide)
def o_ (p:Ty.d aD):Ty.d a_:=(p.2.2.2.1.2.2.1,(p.1,(p.2.1,(p.2.2.1,(p.2.2.2.1.2.1,())))))
def mU (d:aX) (p:Ty.d aD):aX:=bif p.2.2.2.1.1==2 then ki d p.2.2.2.1.2.2.1 else xv d (o_ p)
def fc (d:aX) (own:bZ):aX:=own.foldl mU d
theorem sX (d:aX) (p:Ty.d aD):(mU d p).length≤d.length+1:=by
 unfold mU;have h1:=p9 d p.2.2.2.1.2.2.1;have h2:=Kz d (o_ p);cases p.2.2.2.1.1==2
 · rw [aI];omega
 · rw [aU];omega
theorem rJ:∀ (own:bZ) (d:aX),(fc d own).length≤d.length+own.length
 | [],d=>Nat.le_refl _
 | p::own,d=>by have:=rJ own (mU d p);have:=sX d p;rw [fc,List.foldl_cons,lq];unfold fc at this;simp only [fc] at *;omega
def qA (d:aX) (code:Int):Int:=if d.length > 20 then 2 else code
theorem vN {k:Nat} (hk:2 ^ 50≤k) (g:Ty.d iK) {own:bZ} (ho:own.length≤268435456) (hd:g.1.length≤268435456):cR.f k g own=some ((fc g.1 own,(g.2.1,(qA (fc g.1 own) g.2.2.1,()))),()):=by
 unfold cR.f cR.t;refine dG (L:=fun n i (d:aX)=>cR.l0 k n own own.length i d g.2.1 g.2.2.1) (R:=fun q d=>some ((fc d q,(g.2.1,(qA (fc d q) g.2.2.1,()))),())) (Ty.z aD) own (fun i d=>(d.length:Int)≤268435456+i) (fun n d hs=>?_) (fun n i d x rest h0 h1 hx hr hp ih=>?_) (n:=k) (s:=g.1) (by omega) (by omega)
 · change _=some ((d,(g.2.1,(qA d g.2.2.1,()))),());simp (disch:=omega) only [cR.l0,cR.b0,aN (show ¬ ((own.length:Int)<(own.length:Int)) by omega),aI,qA];by_cases c:d.length > 20
   · rw [aK (by omega),if_pos c];rfl
   · rw [aN (by omega),if_neg c];rfl
 · have hsd:=sX d x;have ih:=ih (mU d x) (by omega);have e:mU d x=bif x.2.2.2.1.1==2 then ki d x.2.2.2.1.2.2.1 else xv d (o_ x):=rfl;simp (disch:=omega) only [cR.l0,cR.b0,aK h1,aU,aF,hx,pf hk,uP hk,aJ,aC];rw [show fc d (x::rest)=fc (mU d x) rest from rfl,← ih,e];cases x.2.2.2.1.1==2 <;> rfl
theorem Ag {k:Nat} (hk:2 ^ 50≤k) {d:aX} (p:Ty.d aD) (hd:d.length≤1073741823):j6.f k d p=some (mU d p,()):=by unfold j6.f j6.t mU;rw [sT hk _ (by omega),uG hk _ hd];cases p.2.2.2.1.1==2 <;> rfl
def BN (a b:Int):Int:=if a > b then a else b
def je (all:bZ):bZ→Nat→aX→Int→Int→Ty.d iK
 | [],_,d,last,code=>bif code==0&&decide ((iM all).length > 0) then (d,(last,(1,()))) else (d,(last,(code,())))
 | p::rest,i,d,last,code =>
  bif code != 0 then (d,(last,(code,()))) else
  bif p.2.2.2.1.1==3 then (bif nH p.2.2.2.1 (m6 p.2.2.2.1.2.1 (all.take i)) then je all rest (i+1) (fc d (m6 p.2.2.2.1.2.1 (all.take i))) (BN p.2.2.2.1.2.1 last) (qA (fc d (m6 p.2.2.2.1.2.1 (all.take i))) code)
   else je all rest (i+1) d (BN p.2.2.2.1.2.1 last) code) else
  bif p.2.2.2.1.1==5 then (bif nH p.2.2.2.1 (iM (all.take i)) then je all rest (i+1) (fc d (iM (all.take i))) (BN p.2.2.2.1.2.1 last) (qA (fc d (iM (all.take i))) code)
   else je all rest (i+1) d (BN p.2.2.2.1.2.1 last) 1) else
  je all rest (i+1) d (BN p.2.2.2.1.2.1 last) code
def lm (g:Ty.d iK) (l:bZ):Ty.d iK:=je l l 0 g.1 g.2.1 g.2.2.1
def GZ (d:aX) (code:Int):Prop:=d.length≤268435456∧(code=0→d.length≤134217728)
theorem nr {d:aX} {own:bZ} {code:Int} (h:GZ d 0) (ho:own.length≤134217728):GZ (fc d own) (qA (fc d own) code):=by
 have h1:=rJ own d;have h2:=h.2 rfl;refine ⟨by omega,fun q=>?_⟩;unfold qA at q;split at q
 · cases q
 · omega
theorem Ak {d:aX} (h:GZ d 0):GZ d 1:=⟨h.1,fun q=>by cases q⟩
theorem yn {k:Nat} (hk:2 ^ 50≤k) (g:Ty.d iK) {l:bZ} (hl:l.length≤134217728) (hd:g.1.length≤134217728):dw.f k g l=some (lm g l,()):=by
 unfold dw.f dw.t;have cp:cM.f k g.1=some (g.1,()):=by unfold cM.f cM.t;rw [b7 (by omega) (by decide)]
 rw [cp,aJ];simp only [];have key:=Ig (L:=fun n i (s:aX × Int × Int)=>dw.l0 k n l l l.length i [] 0 0 s.1 s.2.1 s.2.2) (R:=fun (q:bZ) s=>some (je l q (l.length-q.length) s.1 s.2.1 s.2.2,())) (Ty.z aD) l (fun i s=>GZ s.1 s.2.2) (fun n s hs=>?_) (fun n i s x rest h0 h1 hx hr hp ih=>?_) k 0 (g.1,(g.2.1,g.2.2.1)) (by omega) (by omega) (by omega) ⟨by simp only [];omega,fun _=>by simp only [];omega⟩
 · have e:l.drop (Int.toNat 0)=l:=rfl;rw [e,Nat.sub_self] at key;exact key
 · obtain ⟨d,last,code⟩:=s;have hm:=wN hk (l:=l) (r:=(5,(0,(ByteArray.empty,(ByteArray.empty,(0,(0,()))))))) rfl (by omega);simp (disch:=omega) only [dw.l0,dw.b0,aN,aI,je,hm,aJ];cases c1:(code==0)
   · rfl
   · by_cases c2:(iM l).length > 0
     · rw [aK (show ((iM l).length:Int) > 0 by omega),aK c2];rfl
     · rw [aN (show ¬ ((iM l).length:Int) > 0 by omega),aN c2];rfl
 · obtain ⟨d,last,code⟩:=s;simp only [] at hp ih;have hi:l.length-(x::rest).length=i.toNat:=by
    have:=congrArg List.length hr;rw [List.length_drop] at this;omega
   have hi2:l.length-rest.length=i.toNat+1:=by rw [lq] at hi;have:=congrArg List.length hr;rw [List.length_drop,lq] at this;omega
   have htk:(l.take i.toNat).length≤134217728:=by rw [List.length_take];omega
   have ih:=fun a b c h=>ih (a,(b,c)) h
   simp only [hi2] at ih;rw [hi];simp (disch:=omega) only [dw.l0,dw.b0,aK h1,aU,aF,hx,aC,je];by_cases c0:code=0
   case neg =>rw [show (code != 0)=true from bne_iff_ne.2 c0];rfl
   subst c0;simp only [show ((0:Int) != 0)=false from rfl,aI];by_cases c3:x.2.2.2.1.1=3
   · have b3:(x.2.2.2.1.1==3)=true:=by rw [c3];rfl
     have b3':(x.2.2.2.1.1 != 3)=false:=by rw [c3];rfl
     have b5:(x.2.2.2.1.1==5)=false:=by rw [c3];rfl
     have hlen:=sw x.2.2.2.1.2.1 (l.take i.toNat);simp only [b3,b3',b5,aU,aI];rw [bv (by omega) (by omega),DG hk c3 (by omega),aJ];simp only [];rw [sO hk _ (by omega),aJ];cases c:nH x.2.2.2.1 (m6 x.2.2.2.1.2.1 (l.take i.toNat)) with
     | true =>simp only [aU];rw [vN hk _ (by omega) (by simp only [];exact hp.1),aJ];exact ih _ _ _ (nr hp (by omega))
     | false =>simp only [aI];exact ih _ _ _ hp
   · have b3:(x.2.2.2.1.1==3)=false:=n_ c3;have b3':(x.2.2.2.1.1 != 3)=true:=bne_iff_ne.2 c3;by_cases c5:x.2.2.2.1.1=5
     · have b5:(x.2.2.2.1.1==5)=true:=by rw [c5];rfl
       have b5':(x.2.2.2.1.1 != 5)=false:=by rw [c5];rfl
       have hlen:=t6 (l.take i.toNat);simp only [b3,b3',b5,b5',aU,aI];rw [bv (by omega) (by omega),wN hk c5 (by omega),aJ];simp only [];rw [sO hk _ (by omega),aJ];cases c:nH x.2.2.2.1 (iM (l.take i.toNat)) with
       | true =>simp only [aU];rw [vN hk _ (by omega) (by simp only [];exact hp.1),aJ];exact ih _ _ _ (nr hp (by omega))
       | false =>simp only [aI];exact ih _ _ _ (Ak hp)
     · have b5:(x.2.2.2.1.1==5)=false:=n_ c5;have b5':(x.2.2.2.1.1 != 5)=true:=bne_iff_ne.2 c5;simp only [b3,b3',b5,b5',aU,aI];exact ih _ _ _ hp
theorem Ah {k:Nat} (hk:2 ^ 50≤k) (g:Ty.d iK) {l:bZ} (hl:l.length≤134217728) (hd:g.1.length≤134217728):ck.f k g l=some (lm g l,()):=by
 unfold ck.f ck.t;rw [b7 (by omega) (by decide),List.nil_append];have inner:∀ {own:bZ} {d:aX} (L0:bZ→Int→aX→Int→Int→aX→Int→Int→Option (Ty.d iK × Unit)) (i last code:Int),own.length≤134217728→d.length≤268435456→0≤i→i≤134217728 →
  ck.l1 k L0 k l i 0 [] 0 0 d last code own=L0 l (i+1) [] 0 0 (fc d own) last (qA (fc d own) code):=fun {own d} L0 i last code ho hd2 hi0 hi1=>by
  refine dG (L:=fun n j (d:aX)=>ck.l1 k L0 n l i j [] 0 0 d last code own) (R:=fun q d=>L0 l (i+1) [] 0 0 (fc d q) last (qA (fc d q) code)) (Ty.z aD) own (fun j d=>(d.length:Int)≤268435456+j) (fun n d hs=>?_) (fun n j d x rest h0 h1 hx hr hp ih=>?_) (n:=k) (s:=d) (by omega) (by omega)
  · change _=L0 l (i+1) [] 0 0 d last (qA d code);simp (disch:=omega) only [ck.l1,ck.b1,aN (show ¬ ((own.length:Int)<(own.length:Int)) by omega),aI,qA,aC];by_cases c:d.length > 20
    · rw [aK (by omega),if_pos c];rfl
    · rw [aN (by omega),if_neg c];rfl
  · have hsd:=sX d x;simp (disch:=omega) only [ck.l1,ck.b1,aK h1,aU,aF,hx,Ag hk,aJ,aC];exact ih _ (by omega)
 have hmk:=xe hk (l:=l) (e:=l.length) (by omega) (by omega) (by omega);rw [Int.toNat_natCast,List.take_length] at hmk;have key:=Ig (L:=fun n i (s:aX × Int × Int)=>ck.l0 k n l i [] 0 0 s.1 s.2.1 s.2.2) (R:=fun (q:bZ) s=>some (je l q (l.length-q.length) s.1 s.2.1 s.2.2,())) (Ty.z aD) l (fun i s=>GZ s.1 s.2.2) (fun n s hs=>?_) (fun n i s x rest h0 h1 hx hr hp ih=>?_) k 0 (g.1,(g.2.1,g.2.2.1)) (by omega) (by omega) (by omega) ⟨by simp only [];omega,fun _=>by simp only [];omega⟩
 · have e:l.drop (Int.toNat 0)=l:=rfl;rw [e,Nat.sub_self] at key;exact key
 · obtain ⟨d,last,code⟩:=s;simp (disch:=omega) only [ck.l0,ck.b0,aN,aI,je,hmk,aJ];cases c1:(code==0)
   · rfl
   · by_cases c2:(iM l).length > 0
     · rw [aK (show ((iM l).length:Int) > 0 by omega),aK c2];rfl
     · rw [aN (show ¬ ((iM l).length:Int) > 0 by omega),aN c2];rfl
 · obtain ⟨d,last,code⟩:=s;simp only [] at hp ih;have hi:l.length-(x::rest).length=i.toNat:=by
    have:=congrArg List.length hr;rw [List.length_drop] at this;omega
   have hi2:l.length-rest.length=i.toNat+1:=by rw [lq] at hi;have:=congrArg List.length hr;rw [List.length_drop,lq] at this;omega
   have htk:(l.take i.toNat).length≤134217728:=by rw [List.length_take];omega
   have ih:=fun a b c h=>ih (a,(b,c)) h
   simp only [hi2] at ih;rw [hi];simp (disch:=omega) only [ck.l0,ck.b0,aK h1,aU,aF,hx,aC,je,hmk,aJ];by_cases c0:code=0
   case neg =>rw [show (code != 0)=true from bne_iff_ne.2 c0,show (code==0)=false from n_ c0];rfl
   subst c0;simp only [show ((0:Int) != 0)=false from rfl,show ((0:Int)==0)=true from rfl,aI,aU];by_cases c3:x.2.2.2.1.1=3
   · have b3:(x.2.2.2.1.1==3)=true:=by rw [c3];rfl
     have hlen:=sw x.2.2.2.1.2.1 (l.take i.toNat);simp only [b3,aU];rw [J0 hk _ h0 (by omega) (by omega),aJ];simp only [];rw [xm hk _ (by omega),aJ];cases c:nH x.2.2.2.1 (m6 x.2.2.2.1.2.1 (l.take i.toNat)) with
     | true =>simp only [eQ,aU,aI];rw [inner _ i _ _ (by omega) hp.1 h0 (by omega)];exact ih _ _ _ (nr hp (by omega))
     | false =>simp only [rB,aU,aI];exact ih _ _ _ hp
   · have b3:(x.2.2.2.1.1==3)=false:=n_ c3;by_cases c5:x.2.2.2.1.1=5
     · have b5:(x.2.2.2.1.1==5)=true:=by rw [c5];rfl
       have hlen:=t6 (l.take i.toNat);simp only [b3,b5,aU,aI];rw [xe hk h0 (by omega) (by omega),aJ];simp only [];rw [xm hk _ (by omega),aJ];cases c:nH x.2.2.2.1 (iM (l.take i.toNat)) with
       | true =>simp only [eQ,aU,aI];rw [inner _ i _ _ (by omega) hp.1 h0 (by omega)];exact ih _ _ _ (nr hp (by omega))
       | false =>simp only [rB,aU,aI];exact ih _ _ _ (Ak hp)
     · have b5:(x.2.2.2.1.1==5)=false:=n_ c5;simp only [b3,b5,aU,aI];exact ih _ _ _ hp
theorem lw (all:bZ) (ha:all.length≤134217728):∀ (q:bZ) (i:Nat) (d:aX) (last code:Int),GZ d code→(je all q i d last code).1.length≤268435456
 | [],i,d,last,code,h=>by unfold je;cases code==0&&decide ((iM all).length > 0) <;> exact h.1
 | p::q,i,d,last,code,h=>by
  have hs:=sw p.2.2.2.1.2.1 (all.take i);have hm:=t6 (all.take i);have htk:(all.take i).length≤134217728:=by rw [List.length_take];omega
  unfold je;by_cases c0:code=0
  case neg=>rw [show (code != 0)=true from bne_iff_ne.2 c0];exact h.1
  subst c0;simp only [show ((0:Int) != 0)=false from rfl,aI];cases p.2.2.2.1.1==3
  · cases p.2.2.2.1.1==5
    · exact lw all ha q _ _ _ _ h
    · cases nH p.2.2.2.1 (iM (all.take i))
      · exact lw all ha q _ _ _ _ (Ak h)
      · exact lw all ha q _ _ _ _ (nr h (by omega))
  · cases nH p.2.2.2.1 (m6 p.2.2.2.1.2.1 (all.take i))
    · exact lw all ha q _ _ _ _ h
    · exact lw all ha q _ _ _ _ (nr h (by omega))
theorem vu {g:Ty.d iK} {l:bZ} (hl:l.length≤134217728) (hd:g.1.length≤134217728):(lm g l).1.length≤268435456:=lw l hl l 0 _ _ _ ⟨by omega,fun _=>hd⟩
theorem EJ {lim lim':Int} (h:lim≤lim'):∀ (l:List Int) (p:Option Int),sD (pF lim) p l=true→sD (pF lim') p l=true
 | [],_,_=>rfl
 | x::l,p,q=>by simp only [sD,lP] at q ⊢;refine ⟨?_,EJ h l _ q.2⟩;have q1:=q.1;unfold pF at q1 ⊢;rw [lP,decide_eq_true_eq] at q1 ⊢;exact ⟨⟨q1.1.1,Int.le_trans q1.1.2 h⟩,q1.2⟩
theorem Ef {lim n:Int} (h1:1≤n) (h:lim<n):∀ (l:List Int) (p:Option Int),(∀ y,p=some y→y<n)→sD (pF lim) p l=true→sD (pF n) p (l++[n])=true
 | [],p,hp,_=>by
  simp only [List.nil_append,sD,Bool.and_true];unfold pF;rw [lP,decide_eq_true_eq];refine ⟨⟨h1,Int.le_refl _⟩,?_⟩;cases p with
  | none=>rfl
  | some y=>exact decide_eq_true (hp y rfl)
 | x::l,p,hp,q=>by simp only [sD,lP,List.cons_append] at q ⊢;have q1:=q.1;unfold pF at q1;rw [lP,decide_eq_true_eq] at q1;refine ⟨?_,Ef h1 h l _ (fun y e=>by cases e;exact Int.lt_of_le_of_lt q1.1.2 h) q.2⟩;unfold pF;rw [lP,decide_eq_true_eq];exact ⟨⟨q1.1.1,Int.le_of_lt (Int.lt_of_le_of_lt q1.1.2 h)⟩,q1.2⟩
theorem JK {n:Int} {ids:List Int} (h:dp (n,(ids,()))=true) (hn:n<100000):dp (n+1,(ids,()))=true:=by obtain ⟨g1,g2,_⟩:=eD h;unfold dp at h ⊢;simp only [lP,decide_eq_true_eq] at h ⊢;rw [aC (n:=n+1-1) (by omega) (by omega)];rw [aC (n:=n-1) (by omega) (by omega)] at h;exact ⟨⟨show (1:Int)≤n+1 by omega,show n+1≤(100000:Int) by omega⟩,h.2.1,EJ (by omega) _ _ h.2.2⟩
theorem Bo {n:Int} {ids:List Int} (h:dp (n,(ids,()))=true) (hn:n<100000) (hl:ids.length<60):dp (n+1,(ids++[n],()))=true:=by
 obtain ⟨g1,g2,_⟩:=eD h;unfold dp at h ⊢;simp only [lP,decide_eq_true_eq] at h ⊢;rw [aC (n:=n+1-1) (by omega) (by omega)];rw [aC (n:=n-1) (by omega) (by omega)] at h;refine ⟨⟨show (1:Int)≤n+1 by omega,show n+1≤(100000:Int) by omega⟩,⟨?_,?_⟩,?_⟩
 · rw [sF,List.length_singleton];omega
 · rw [sF,List.length_singleton];omega
 · rw [show n+1-1=n by omega];exact Ef g1 (by omega) _ _ (fun y e=>by cases e) h.2.2
def k9 (st:Ty.d aG):ByteArray:=aB aO (bH st.1.2.1)
theorem rL {st:Ty.d aG} (h:dp st.1=true):0≤aH ((st.1.2.1.length:Int)-1)∧aH ((st.1.2.1.length:Int)-1)<(st.1.2.1.length:Int)∧st.1.2.1.getD (aH ((st.1.2.1.length:Int)-1)).toNat (Ty.z (.int .i64))=bH st.1.2.1:=by obtain ⟨_,_,h1,h2,_⟩:=eD (nx:=st.1.1) (ids:=st.1.2.1) h;rw [aC (n:=(st.1.2.1.length:Int)-1) (by omega) (by omega)];refine ⟨by omega,by omega,?_⟩;unfold bH;rw [show ((st.1.2.1.length:Int)-1).toNat=st.1.2.1.length-1 by omega];rfl
theorem qZ {k:Nat} (hk:2 ^ 50≤k) {st:Ty.d aG} (h:dp st.1=true):dV.f k st=some (k9 st,()):=by obtain ⟨h1,h2,h3⟩:=rL h;unfold dV.f dV.t k9;rw [aF h1 h2,h3,c8 hk,aJ]
theorem qR {k:Nat} {st:Ty.d aG} (h:dp st.1=true):bj.f k st=some (st,(k9 st,())):=by obtain ⟨h1,h2,h3⟩:=rL h;unfold bj.f bj.t k9;rw [aF h1 h2,h3,cr,aJ]
def tl (r:RD):RD:=(r.1,dX r.2)
theorem p0 (f:Ty.d aA→RD) (d:Ty.d aA):wk f (d,0)=tl (f d):=rfl
theorem q9 {r:RD} (h:(r.2==0)=true):tl r=(r.1,0):=by unfold tl;rw [Aw h];rfl
theorem uW (r:RD):((tl r).2 != 0)=(r.2 != 0):=by unfold tl bne;rw [gp]
def Jg (st:Ty.d aG):Ty.d aG:=((st.1.1+1,st.1.2),st.2)
def pE (st:Ty.d aG):Ty.d bL:=(st.1.1+1,(st.1.2.1++[st.1.1],()))
def KY (st:Ty.d aG):Ty.d aG:=(pE st,(st.2.1,(st.2.2.1,(0,st.2.2.2.2))))
def zd (nm:ByteArray) (r:RD):RD:=bif r.2==2 then ((bm [jm,nm] r.1).1,bif (bm [jm,nm] r.1).2==0 then 2 else dX (bm [jm,nm] r.1).2) else r
def oX (st:Ty.d aG) (d:Ty.d aA):Ty.d aG × RD :=
 bif decide ((st.1.2.1.length:Int)≥60) then (st,(d,5)) else bif decide (st.1.1≥100000) then (st,(d,5)) else
 bif (jB d (k9 st)).2 != 0 then (st,tl (jB d (k9 st))) else
 bif (cA (aB aO st.1.1) (jB d (k9 st)).1).2 != 0 then (Jg st,tl (cA (aB aO st.1.1) (jB d (k9 st)).1)) else
 bif (cv (pE st) (cA (aB aO st.1.1) (jB d (k9 st)).1).1).2 != 0 then (Jg st,zd (aB aO st.1.1) (tl (cv (pE st) (cA (aB aO st.1.1) (jB d (k9 st)).1).1)))
 else (KY st,((cv (pE st) (cA (aB aO st.1.1) (jB d (k9 st)).1).1).1,0))
structure SR (st:Ty.d aG) (r:RD) (B:Int):Prop where
 live:dp st.1=true
 disk:DR r.1
 lo:LE.le (α:=Int) 0 st.2.2.2.1
 hi:LE.le (α:=Int) st.2.2.2.1 B
theorem uZ (n:Int):(aB aO n).size≤1000:=by
 unfold aB;by_cases h:(1:Int)≤n∧n≤100000
 · rw [aK h,aU,ByteArray.size_append];have:=ny (n:=n) (by omega) (by omega);have:aO.size=3:=rfl;omega
 · rw [aN h];exact Nat.zero_le _
theorem Gc {k:Nat} (hk:2 ^ 50≤k) {st:Ty.d aG} {d:Ty.d aA} (hl:dp st.1=true) (hd:DR d):gU.f k st d=some ((oX st d).1,((oX st d).2.1,((oX st d).2.2,()))):=by
 obtain ⟨g1,g2,g3,g4,_⟩:=eD (nx:=st.1.1) (ids:=st.1.2.1) hl;have hsz:=uZ st.1.1;unfold gU.f gU.t oX;by_cases c1:(st.1.2.1.length:Int)≥60
 · rw [aK c1];rfl
 by_cases c2:st.1.1≥(100000:Int)
 · rw [aN c1,aK c2];rfl
 have c1':st.1.2.1.length<60:=by omega
 have c2':LT.lt (α:=Int) st.1.1 100000:=Int.not_le.1 c2;rw [aN c1,aN c2];simp only [aI];rw [qZ hk hl,aJ];simp only [];rw [np hk hd.sz,aJ];simp only [];have h1:=oY hd (k9 st);generalize jB d (k9 st)=r1 at h1 ⊢;cases c3:r1.2 != 0 with
 | true=>simp only [aU,dc,aJ,tl]
 | false =>
  simp only [aI];rw [c8 hk,aJ];simp only [];rw [oi hk h1 (by omega),aJ];simp only [];have h2:=kX (aB aO st.1.1) _ h1;generalize cA (aB aO st.1.1) r1.1=r2 at h2 ⊢;have ew:aH (st.1.1+1)=st.1.1+1:=aC (by omega) (by omega);cases c4:r2.2 != 0 with
  | true=>simp only [aU,dc,aJ,tl,ew];rfl
  | false =>
   simp only [aI];rw [List.nil_append,b7 (by omega) (by decide),b7 (by omega) (by decide),ew,pH hk h2 (v:=(st.1.1+1,(st.1.2.1++[st.1.1],()))) (Bo hl c2' c1'),aJ];simp only [];have h3:=me (pE st) _ h2;rw [show ((st.1.1+1,(st.1.2.1++[st.1.1],())):Ty.d bL)=pE st from rfl];generalize cv (pE st) r2.1=r3 at h3 ⊢;have et:(dX r3.2 != 0)=(r3.2 != 0):=by unfold bne;rw [gp]
   cases c5:dX r3.2==2 with
   | true =>
    have e2:dX r3.2=2:=Aw c5;have c6:(r3.2 != 0)=true:=by rw [← et,e2];rfl
    rw [c6];simp only [aU];rw [aJ,show (⟨#[116,101,109,112]⟩:ByteArray)=jm from rfl];simp only [];rw [oj hk h3 (by simp),aJ];unfold zd;rw [show (tl r3).2=dX r3.2 from rfl,c5,show (tl r3).1=r3.1 from rfl];simp only [aU,bne];generalize bm [jm,aB aO st.1.1] r3.1=r4;cases c7:r4.2==0 with
    | true=>rw [e2];rfl
    | false=>simp only [rB,aU,aI,dc,aJ];rfl
   | false =>
    simp only [aI];rw [et];cases c6:r3.2 != 0 with
    | true =>simp only [aU];unfold zd;rw [show (tl r3).2=dX r3.2 from rfl,c5];rfl
    | false=>rfl
theorem GB {k:Nat} (hk:2 ^ 50≤k) {st:Ty.d aG} {d:Ty.d aA} (hl:dp st.1=true) (hd:DR d):g7.f k st (wO (d,0))=some ((oX st d).1,(wO (oX st d).2,())):=by
 obtain ⟨g1,g2,g3,g4,_⟩:=eD (nx:=st.1.1) (ids:=st.1.2.1) hl;have hsz:=uZ st.1.1;unfold g7.f g7.t oX;by_cases c1:(st.1.2.1.length:Int)≥60
 · rw [aK c1];rfl
 by_cases c2:st.1.1≥(100000:Int)
 · rw [aN c1,aK c2];rfl
 have c2':LT.lt (α:=Int) st.1.1 100000:=Int.not_le.1 c2;rw [aN c1,aN c2];simp only [aI];rw [qR hl,aJ];simp only [];rw [p7 hk _ hd,aJ,p0];simp only [];have h1:=oY hd (k9 st);generalize jB d (k9 st)=r1 at h1 ⊢;rw [show (wO (tl r1)).2.1=(tl r1).2 from rfl,uW];cases c3:r1.2 != 0 with
 | true=>rfl
 | false =>
  simp only [aI];rw [q9 (r:=r1) (by unfold bne at c3;simpa using c3),cr,aJ];simp only [];rw [rN hk (r1.1,0) h1 (by omega),aJ,p0];simp only [];have h2:=kX (aB aO st.1.1) _ h1;generalize cA (aB aO st.1.1) r1.1=r2 at h2 ⊢;have ew:aH (st.1.1+1)=st.1.1+1:=aC (by omega) (by omega);rw [show (wO (tl r2)).2.1=(tl r2).2 from rfl,uW,ew];cases c4:r2.2 != 0 with
  | true=>rfl
  | false =>
   simp only [aI];rw [q9 (r:=r2) (by unfold bne at c4;simpa using c4)];have ec:df.f k ((st.1.1+1,st.1.2):Ty.d bL)=some (((st.1.1+1,st.1.2):Ty.d bL),()):=by unfold df.f df.t;rw [b7 (by show st.1.2.1.length≤_;omega) (by decide)]
   rw [ec,aJ];simp only [];have hlen:(st.1.2.1++[st.1.1]).length≤1073741824:=by rw [sF,List.length_singleton];omega
   rw [b7 (by omega) (by decide),qd hk (r2.1,0) h2 (v:=(st.1.1+1,(st.1.2.1++[st.1.1],()))) hlen,aJ,p0];simp only [];have h3:=me (pE st) _ h2;rw [show ((st.1.1+1,(st.1.2.1++[st.1.1],())):Ty.d bL)=pE st from rfl];generalize cv (pE st) r2.1=r3 at h3 ⊢;rw [show (wO (tl r3)).2.1=(tl r3).2 from rfl,uW];cases c5:r3.2 != 0 with
   | true =>simp only [aU];rw [aJ,show (⟨#[116,101,109,112]⟩:ByteArray)=jm from rfl];simp only [];rw [xf hk (tl r3) h3 (by simp),aJ];rfl
   | false =>simp only [aI];rw [q9 (r:=r3) (by unfold bne at c5;simpa using c5)];rfl
theorem wv {st:Ty.d aG} {d:Ty.d aA} (hl:dp st.1=true) (hd:DR d):dp (oX st d).1.1=true∧DR (oX st d).2.1∧(oX st d).1.2.1=st.2.1∧((oX st d).1.2.2.2.1=st.2.2.2.1∨(oX st d).1.2.2.2.1=0):=by
 unfold oX;by_cases c1:(st.1.2.1.length:Int)≥60
 · rw [aK c1];exact ⟨hl,hd,rfl,.inl rfl⟩
 by_cases c2:st.1.1≥(100000:Int)
 · rw [aN c1,aK c2];exact ⟨hl,hd,rfl,.inl rfl⟩
 have c1':st.1.2.1.length<60:=by omega
 have c2':LT.lt (α:=Int) st.1.1 100000:=Int.not_le.1 c2;have hn:dp (Jg st).1=true:=JK (ids:=st.1.2.1) hl c2';have hg:dp (KY st).1=true:=Bo hl c2' c1';have h1:=oY hd (k9 st);have h2:=kX (aB aO st.1.1) _ h1;have h3:=me (pE st) _ h2;rw [aN c1,aN c2];simp only [aI];generalize jB d (k9 st)=r1 at h1 h2 h3 ⊢;generalize cA (aB aO st.1.1) r1.1=r2 at h2 h3 ⊢;generalize cv (pE st) r2.1=r3 at h3 ⊢;cases r1.2 != 0 with
 | true=>exact ⟨hl,h1,rfl,.inl rfl⟩
 | false =>
  cases r2.2 != 0 with
  | true=>exact ⟨hn,h2,rfl,.inl rfl⟩
  | false =>
   cases r3.2 != 0 with
   | true =>
    refine ⟨hn,?_,rfl,.inl rfl⟩;simp only [aU,aI];unfold zd;cases (tl r3).2==2 with
    | true=>exact nT _ _ h3
    | false=>exact h3
   | false=>exact ⟨hg,h3,rfl,.inr rfl⟩
def Do:Ty.d aD:=(0,(0,(0,((0,(0,(ByteArray.empty,(ByteArray.empty,(0,(0,())))))),()))))
def Mf (st:Ty.d aG) (n:Int):Ty.d aG:=(st.1,(st.2.1,(st.2.2.1,(n,st.2.2.2.2))))
def pk (st:Ty.d aG) (d:Ty.d aA) (r:Ty.d bR):(Ty.d aG × RD) × Ty.d aD :=
 bif (j3 d (k9 st) (am (aV r))).2 != 0 then ((st,tl (j3 d (k9 st) (am (aV r)))),Do)
 else ((Mf st (st.2.2.2.1+d5 r),((j3 d (k9 st) (am (aV r))).1,0)),(bH st.1.2.1,(st.2.2.2.1,(d5 r,(r,())))))
def kP (st:Ty.d aG) (d:Ty.d aA) (r:Ty.d bR):(Ty.d aG × RD) × Ty.d aD :=
 bif decide (st.2.2.2.1 > 0)&&decide (st.2.2.2.1+d5 r > 200) then
  (bif (oX st d).2.2 != 0 then (oX st d,Do) else pk (oX st d).1 (oX st d).2.1 r)
 else pk st d r
def x_ (p:Ty.d aD):Ty.d bR:=p.2.2.2.1
theorem C1 {st:Ty.d aG} {d:Ty.d aA} (hl:dp st.1=true) (hd:DR d) {B:Int} (h0:LE.le (α:=Int) 0 st.2.2.2.1) (h1:LE.le (α:=Int) st.2.2.2.1 B) (r:Ty.d bR) :
 SR (pk st d r).1.1 (pk st d r).1.2 (B+211)∧(pk st d r).1.1.2.1=st.2.1∧((pk st d r).1.2.2=0→x_ (pk st d r).2=r):=by
 have hr:=mA r;have ha:=rQ hd (k9 st) (am (aV r));unfold pk;generalize j3 d (k9 st) (am (aV r))=a at ha ⊢;cases c:a.2 != 0 with
 | true =>
  refine ⟨⟨hl,ha,h0,?_⟩,rfl,fun e=>?_⟩
  · show LE.le (α:=Int) st.2.2.2.1 (B+211);omega
  · have e:(tl a).2=0:=e;have q:=uW a;rw [e,c] at q;cases q
 | false =>
  refine ⟨⟨hl,ha,?_,?_⟩,rfl,fun e=>rfl⟩
  · show LE.le (α:=Int) 0 (st.2.2.2.1+d5 r);omega
  · show LE.le (α:=Int) (st.2.2.2.1+d5 r) (B+211);omega
theorem u_ {st:Ty.d aG} {d:Ty.d aA} {B:Int} (h:SR st (d,0) B) (hB:0≤B) (r:Ty.d bR) :
 SR (kP st d r).1.1 (kP st d r).1.2 (B+211)∧(kP st d r).1.1.2.1=st.2.1∧((kP st d r).1.2.2=0→x_ (kP st d r).2=r):=by
 obtain ⟨hl,hd,h0,h1⟩:=h;unfold kP;cases decide (st.2.2.2.1 > 0)&&decide (st.2.2.2.1+d5 r > 200) with
 | false=>exact C1 hl hd h0 h1 r
 | true =>
  obtain ⟨g1,g2,g3,g4⟩:=wv hl hd;generalize oX st d=q at g1 g2 g3 g4 ⊢;have s0:LE.le (α:=Int) 0 q.1.2.2.2.1:=by rcases g4 with e | e <;> rw [e];exact h0;exact Int.le_refl _
  have s1:LE.le (α:=Int) q.1.2.2.2.1 B:=by rcases g4 with e | e <;> rw [e];exact h1;exact hB
  cases c:q.2.2 != 0 with
  | true =>
   refine ⟨⟨g1,g2,s0,?_⟩,g3,fun e=>?_⟩
   · show LE.le (α:=Int) q.1.2.2.2.1 (B+211);omega
   · have e:q.2.2=0:=e;rw [e] at c;cases c
  | false =>obtain ⟨k1,k2,k3⟩:=C1 g1 g2 s0 s1 r;exact ⟨k1,k2.trans g3,k3⟩
theorem A_ {k:Nat} (hk:2 ^ 50≤k) {st:Ty.d aG} {d:Ty.d aA} (hl:dp st.1=true) (hd:DR d) (r:Ty.d bR) (h0:LE.le (α:=Int) 0 st.2.2.2.1) (h1:LE.le (α:=Int) st.2.2.2.1 1099511627776) :
 (((dV.f k st).bind fun r4=>((eo.f k d r4.1 (am (aV r))).bind fun r5=>(bif (r5.2.1 != 0) then ((aY.f k r5.2.1).bind fun r6=>(some (st,(r5.1,(Do,r6)))))
  else (b9 (aH ((List.length st.1.2.1:Int)-1)) (List.length st.1.2.1:Int) (some ((st.1,(st.2.1,(st.2.2.1,((aH (st.2.2.2.1+(ByteArray.size (am (aV r)):Int))),st.2.2.2.2)))),(r5.1,(((List.getD st.1.2.1 (Int.toNat (aH ((List.length st.1.2.1:Int)-1))) (Ty.z (.int .i64))),(st.2.2.2.1,((ByteArray.size (am (aV r)):Int),(r,())))),(0,()))))))))):fH.Rs) =
 some ((pk st d r).1.1,((pk st d r).1.2.1,((pk st d r).2,((pk st d r).1.2.2,())))):=by
 obtain ⟨g1,g2,g3⟩:=rL hl;have hr:=mA r;have hz:((am (aV r)).size:Int)=d5 r:=rfl;rw [qZ hk hl,aJ];simp only [];rw [rl hk hd.sz (k9 st) (t:=am (aV r)) (by omega),aJ];unfold pk;simp only [];generalize j3 d (k9 st) (am (aV r))=a;cases c:a.2 != 0 with
 | true=>simp only [aU,dc,aJ];rfl
 | false =>simp only [aI];rw [aF g1 g2,g3,hz,aC (by omega) (by omega)];rfl
theorem Af {k:Nat} (hk:2 ^ 50≤k) {st:Ty.d aG} {d:Ty.d aA} {B:Int} (h:SR st (d,0) B) (hB:0≤B) (hB':B≤1000000000) (r:Ty.d bR) :
 fH.f k st d r=some ((kP st d r).1.1,((kP st d r).1.2.1,((kP st d r).2,((kP st d r).1.2.2,())))):=by
 obtain ⟨hl,hd,h0,h1⟩:=h;have hr:=mA r;have hz:((am (aV r)).size:Int)=d5 r:=rfl;have own:=A_ (d:=d) hk hl hd r h0 (by omega);rw [hz,aC (n:=st.2.2.2.1+d5 r) (by omega) (by omega)] at own;unfold fH.f fH.t;rw [dx hk,aJ];simp only [];rw [nJ hk,aJ];simp only [];rw [hz,aC (n:=st.2.2.2.1+d5 r) (by omega) (by omega)];unfold kP;by_cases c1:LT.lt (α:=Int) 0 st.2.2.2.1
 · rw [aK (show st.2.2.2.1 > 0 from c1),Bool.true_and,aU];by_cases c2:LT.lt (α:=Int) 200 (st.2.2.2.1+d5 r)
   · rw [aK (show st.2.2.2.1+d5 r > 200 from c2),aU,aU,Gc hk hl hd,aJ];simp only [];obtain ⟨g1,g2,g3,g4⟩:=wv hl hd;generalize oX st d=q at g1 g2 g3 g4 ⊢;cases c:q.2.2 != 0 with
     | true=>rfl
     | false =>
      have s0:LE.le (α:=Int) 0 q.1.2.2.2.1:=by rcases g4 with e | e <;> rw [e];exact h0;exact Int.le_refl _
      have s1:LE.le (α:=Int) q.1.2.2.2.1 B:=by rcases g4 with e | e <;> rw [e];exact h1;exact hB
      exact A_ hk g1 g2 r s0 (by omega)
   · rw [aN (show ¬ st.2.2.2.1+d5 r > 200 from c2),aI,aI];exact own
 · rw [aN (show ¬ st.2.2.2.1 > 0 from c1),Bool.false_and,aI];exact own
theorem yk {k:Nat} (hk:2 ^ 50≤k) {st:Ty.d aG} {d:Ty.d aA} (hl:dp st.1=true) (hd:DR d) (r:Ty.d bR) (h0:LE.le (α:=Int) 0 st.2.2.2.1) (h1:LE.le (α:=Int) st.2.2.2.1 1099511627776) :
 ∃ e,((b9 (aH ((List.length st.1.2.1:Int)-1)) (List.length st.1.2.1:Int) ((bj.f k st).bind fun r4=>((cW.f k (wO (d,0)) r4.2.1 (am (aV r))).bind fun r5=>(bif (r5.1.2.1==0) then
  (some ((r4.1.1,(r4.1.2.1,(r4.1.2.2.1,((aH (r4.1.2.2.2.1+(ByteArray.size (am (aV r)):Int))),r4.1.2.2.2.2)))),(r5.1,((r.2.2.1,((List.getD st.1.2.1 (Int.toNat (aH ((List.length st.1.2.1:Int)-1))) (Ty.z (.int .i64))),(st.2.2.2.1,((ByteArray.size (am (aV r)):Int),(r.2.1,()))))),()))))
  else (some (r4.1,(r5.1,((r.2.2.1,((List.getD st.1.2.1 (Int.toNat (aH ((List.length st.1.2.1:Int)-1))) (Ty.z (.int .i64))),(st.2.2.2.1,((ByteArray.size (am (aV r)):Int),(r.2.1,()))))),())))))))):gh.Rs) =
 some ((pk st d r).1.1,(wO (pk st d r).1.2,(e,())))∧((pk st d r).1.2.2=0→e=o_ (pk st d r).2):=by
 obtain ⟨g1,g2,g3⟩:=rL hl;have hr:=mA r;have hz:((am (aV r)).size:Int)=d5 r:=rfl;refine ⟨(r.2.2.1,(bH st.1.2.1,(st.2.2.2.1,(d5 r,(r.2.1,()))))),?_,?_⟩
 · rw [aF g1 g2,qR hl,aJ];simp only [];rw [xF hk (d,0) hd (k9 st) (t:=am (aV r)) (by omega),aJ,p0];unfold pk;simp only [];generalize j3 d (k9 st) (am (aV r))=a;rw [show (wO (tl a)).2.1=(tl a).2 from rfl,g3,hz];have q:=uW a;unfold bne at q ⊢;cases c:a.2==0 with
   | true =>
    rw [c] at q;have q:((tl a).2==0)=true:=by simpa using q
    rw [q,q9 c];simp only [aU,aI,eQ];rw [aC (by omega) (by omega)];rfl
   | false =>
    rw [c] at q;have q:((tl a).2==0)=false:=by simpa using q
    rw [q];rfl
 · unfold pk;generalize j3 d (k9 st) (am (aV r))=a;cases c:a.2 != 0 with
   | true =>intro e;have e:(tl a).2=0:=e;have q:=uW a;rw [e,c] at q;cases q
   | false=>exact fun _=>rfl
theorem GK {k:Nat} (hk:2 ^ 50≤k) {st:Ty.d aG} {d:Ty.d aA} {B:Int} (h:SR st (d,0) B) (hB:0≤B) (hB':B≤1000000000) (r:Ty.d bR) :
 ∃ e,gh.f k st (wO (d,0)) r=some ((kP st d r).1.1,(wO (kP st d r).1.2,(e,())))∧((kP st d r).1.2.2=0→e=o_ (kP st d r).2):=by
 obtain ⟨hl,hd,h0,h1⟩:=h;have hr:=mA r;have hz:((am (aV r)).size:Int)=d5 r:=rfl;have own:=yk (d:=d) hk hl hd r h0 (by omega);have e1:aH (st.2.2.2.1+((am (aV r)).size:Int))=st.2.2.2.1+d5 r:=aC (by omega) (by omega);have hw:((wO (d,0)).2.1 != 0)=false:=rfl;unfold gh.f gh.t;rw [pG hk,aJ];simp only [];rw [oq hk,aJ];simp only [];rw [hw];simp only [aI];unfold kP;rw [e1];by_cases c1:LT.lt (α:=Int) 0 st.2.2.2.1
 · rw [aK (show st.2.2.2.1 > 0 from c1)];simp only [Bool.true_and,aU];by_cases c2:LT.lt (α:=Int) 200 (st.2.2.2.1+d5 r)
   · rw [aK (show st.2.2.2.1+d5 r > 200 from c2)];simp only [aU];rw [GB hk hl hd,aJ];simp only [];obtain ⟨g1,g2,g3,g4⟩:=wv hl hd;generalize oX st d=q at g1 g2 g3 g4 ⊢;rw [show (wO q.2).2.1=q.2.2 from rfl];cases c:q.2.2 != 0 with
     | true =>refine ⟨_,rfl,fun e=>?_⟩;have e:q.2.2=0:=e;rw [e] at c;cases c
     | false =>
      have s0:LE.le (α:=Int) 0 q.1.2.2.2.1:=by rcases g4 with e | e <;> rw [e];exact h0;exact Int.le_refl _
      have s1:LE.le (α:=Int) q.1.2.2.2.1 B:=by rcases g4 with e | e <;> rw [e];exact h1;exact hB
      have e2:wO q.2=wO (q.2.1,0):=by
       have:q.2.2=0:=by unfold bne at c;simpa using c
       show (q.2.1,(q.2.2,()))=(q.2.1,((0:Int),()));rw [this]
      simp only [aI];rw [e2];exact yk hk g1 g2 r s0 (by omega)
   · rw [aN (show ¬ st.2.2.2.1+d5 r > 200 from c2)];simp only [aI];exact own
 · rw [aN (show ¬ st.2.2.2.1 > 0 from c1)];simp only [Bool.false_and,aI];exact own
def fT (d:Ty.d aA) (s:ByteArray):Option ByteArray:=(cB d.1 s).map (·.2.1)
theorem D1:∀ {l:bo} {f:Ty.d aE} {t:ByteArray},cB l f.1=none→cB (m4 l f) t=bif seq f.1 t then some f else cB l t
 | [],f,t,_=>rfl
 | g::l,f,t,h=>by
  unfold cB at h;cases c:seq g.1 f.1 with
  | true=>rw [c] at h;cases h
  | false =>
   rw [c,aI] at h;unfold m4;cases ox f.1 g.1 with
   | true=>rfl
   | false =>
    simp only [aI];rw [cB.eq_2,D1 h,cB.eq_2];by_cases q:f.1=t
    · rw [q] at c ⊢;rw [c,cZ];rfl
    · rw [n8 q];rfl
theorem Ee {l:bo} {f:Ty.d aE} {t:ByteArray} (h:f.1≠t):cB (m4 l f) t=cB l t:=by
 induction l with
 | nil=>unfold m4;rw [cB.eq_2,n8 h];rfl
 | cons g l ih =>
  unfold m4;cases ox f.1 g.1 with
  | true=>rw [aU,cB.eq_2,n8 h,aI]
  | false=>rw [aI,cB.eq_2,ih,cB.eq_2]
theorem vP {d:Ty.d aA} {g:bo→Int→bo × Int} {t:ByteArray} (h:∀ l c,(cB (g l c).1 t).map (·.2.1)=(cB l t).map (·.2.1)):fT (iZ d g).1 t=fT d t:=by
 unfold iZ fT;cases (jG d).2 != 0 with
 | true=>rw [aU,ru]
 | false=>exact h d.1 d.2.1
theorem NO {d:Ty.d aA} {s t:ByteArray} (h:s≠t):fT (vF d s).1 t=fT d t:=vP fun l c=>by
 unfold wc;cases !kq s with
 | true=>rfl
 | false =>
  cases (cB l s).isSome with
  | true=>rfl
  | false =>
   cases decide ((l.length:Int)≥130) with
   | true=>rfl
   | false =>show (cB (m4 l (s,(ByteArray.empty,(0,())))) t).map _=_;rw [Ee (f:=(s,(ByteArray.empty,(0,())))) h]
theorem KV {d:Ty.d aA} {s t x:ByteArray} (h:s≠t):fT (j3 d s x).1 t=fT d t:=vP fun l c=>by
 unfold AK;cases (cB l s).isNone with
 | true=>rfl
 | false =>
  cases decide ((x.size:Int) > aH (c-(dS l:Int))) with
  | true=>rfl
  | false =>show (cB (nV (fun f=>(f.1,(f.2.1++x,f.2.2))) l s) t).map _=_;rw [tr (h:=fun f:Ty.d aE=>(f.1,(f.2.1++x,f.2.2))) (fun f=>rfl),n8 (fun q=>h q.symm)];rfl
theorem D8 {d:Ty.d aA} {s t:ByteArray}:fT (jB d s).1 t=fT d t:=vP fun l c=>by
 unfold Av;cases (cB l s).isNone with
 | true=>rfl
 | false =>
  show (cB (nV (fun f=>(f.1,(f.2.1,((f.2.1.size:Int),f.2.2.2)))) l s) t).map _=_;rw [tr (h:=fun f:Ty.d aE=>(f.1,(f.2.1,((f.2.1.size:Int),f.2.2.2)))) (fun f=>rfl)];by_cases q:t=s
  · rw [q,cZ];cases cB l s <;> rfl
  · rw [n8 q];rfl
theorem Mb {d:Ty.d aA} {s t:ByteArray} (h:s≠t):fT (rO d s).1 t=fT d t:=vP fun l c=>by
 unfold vn;cases (cB l s).isNone with
 | true=>rfl
 | false =>show (cB (jZ l s) t).map _=_;rw [yT (fun q=>h q.symm)]
theorem Mu {d:Ty.d aA} {a b t:ByteArray} (h1:a≠t) (h2:b≠t):fT (wq d a b).1 t=fT d t:=vP fun l c=>by
 unfold y_;cases !kq b with
 | true=>rfl
 | false =>
  simp only [aI];cases cB l a with
  | none=>rfl
  | some f =>
   cases seq a b with
   | true=>rfl
   | false =>show (cB (m4 (jZ (jZ l a) b) (b,f.2)) t).map _=_;rw [Ee (f:=(b,f.2)) h2,yT (fun q=>h2 q.symm),yT (fun q=>h1 q.symm)]
theorem He {d:Ty.d aA} {s x:ByteArray}:fT (j3 d s x).1 s=bif (j3 d s x).2==0 then (fT d s).map (·++x) else fT d s:=by
 unfold j3 iZ fT;cases c:(jG d).2 != 0 with
 | true =>
  rw [aU,ru];have:((jG d).2==0)=false:=by unfold bne at c;simpa using c
  rw [this];rfl
 | false =>
  simp only [aI];unfold AK;cases c1:cB d.1 s with
  | none=>simp only [Option.isNone_none,aU];rw [c1];rfl
  | some f =>
   simp only [Option.isNone_some,aI];cases decide ((x.size:Int) > aH (d.2.1-(dS d.1:Int))) with
   | true=>simp only [aU];rw [c1];rfl
   | false =>simp only [aI];rw [tr (h:=fun f:Ty.d aE=>(f.1,(f.2.1++x,f.2.2))) (fun f=>rfl),cZ,c1];rfl
theorem qH {r:RD} {f:Ty.d aA→RD} {t:ByteArray} {x:Option ByteArray} (h1:fT r.1 t=x) (h2:∀ y,fT (f y).1 t=fT y t):fT (dW r f).1 t=x:=by
 unfold dW;cases r.2==0 with
 | true=>exact (h2 _).trans h1
 | false=>exact h1
theorem HS {d:Ty.d aA} {s t:ByteArray} (h:s≠t):fT (j9 s d).1 t=fT d t:=by
 unfold j9;cases (cB d.1 s).isSome with
 | true=>exact Mb h
 | false=>rfl
theorem vI {d:Ty.d aA} {s t:ByteArray} (h:s≠t):fT (cA s d).1 t=fT d t:=qH (HS h) fun y=>NO h
theorem Ct {d:Ty.d aA} {s t x:ByteArray} (h:s≠t):fT (lY s x d).1 t=fT d t:=qH (qH (vI h) fun y=>KV h) fun y=>D8
theorem uo {d:Ty.d aA} {v:Ty.d bL} {t:ByteArray} (h1:jm≠t) (h2:j2≠t):fT (cv v d).1 t=fT d t:=qH (Ct h1) fun y=>Mu h1 h2
theorem vt {t:ByteArray}:∀ (l:List ByteArray) (d:Ty.d aA),(∀ s ∈ l,s≠t)→fT (bm l d).1 t=fT d t
 | [],_,_=>rfl
 | s::l,d,h=>by
  show fT (dW (j9 s d) (bm l)).1 t=_;exact qH (HS (h s sM)) fun y=>vt l y fun q hq=>h q (wW _ hq)
def kN:oL→Ty.d aG→Ty.d aA→bZ→(Ty.d aG × RD) × bZ
 | [],st,d,ps=>((st,(d,0)),ps)
 | r::l,st,d,ps=>bif (kP st d r).1.2.2 != 0 then ((kP st d r).1,ps) else kN l (kP st d r).1.1 (kP st d r).1.2.1 (ps++[(kP st d r).2])
def OY (st:Ty.d aG) (dir:aX):Ty.d aG:=(st.1,(dir,st.2.2))
def uB (n:Nat) (q:(Ty.d aG × RD) × bZ):Ty.d aG × RD :=
 bif q.1.2.2 != 0 then q.1 else bif (jB q.1.2.1 (k9 q.1.1)).2 != 0 then (q.1.1,tl (jB q.1.2.1 (k9 q.1.1))) else (OY q.1.1 (fc q.1.1.2.1 (q.2.take n)),((jB q.1.2.1 (k9 q.1.1)).1,0))
def Dn (st:Ty.d aG):Ty.d aG:=(st.1,(st.2.1,(st.2.2.1+1,st.2.2.2)))
def md (st:Ty.d aG) (d:Ty.d aA) (l:iy):Ty.d aG × RD:=uB l.length (kN (sB l st.2.2.1) (Dn st) d [])
theorem zL:∀ (l:oL) (st:Ty.d aG) (d:Ty.d aA) (ps:bZ) (B:Int),SR st (d,0) B→0≤B →
 SR (kN l st d ps).1.1 (kN l st d ps).1.2 (B+211*(l.length:Int))∧(kN l st d ps).1.1.2.1=st.2.1∧((kN l st d ps).1.2.2=0→(kN l st d ps).2.map x_=ps.map x_++l)
 | [],st,d,ps,B,h,_=>⟨⟨h.live,h.disk,h.lo,by have:=h.hi;show LE.le (α:=Int) st.2.2.2.1 _;rw [List.length_nil];omega⟩,rfl,fun _=>(List.append_nil _).symm⟩
 | r::l,st,d,ps,B,h,hB=>by
  obtain ⟨g1,g2,g3⟩:=u_ h hB r;unfold kN;have el:((r::l).length:Int)=(l.length:Int)+1:=by rw [lq];omega
  cases c:(kP st d r).1.2.2 != 0 with
  | true =>
   refine ⟨⟨g1.live,g1.disk,g1.lo,?_⟩,g2,fun e=>?_⟩
   · have:=g1.hi;show LE.le (α:=Int) (kP st d r).1.1.2.2.2.1 _;omega
   · have e:(kP st d r).1.2.2=0:=e;rw [e] at c;cases c
  | false =>
   have e0:(kP st d r).1.2.2=0:=by unfold bne at c;simpa using c
   obtain ⟨k1,k2,k3⟩:=zL l (kP st d r).1.1 (kP st d r).1.2.1 (ps++[(kP st d r).2]) (B+211) ⟨g1.live,g1.disk,g1.lo,g1.hi⟩ (by omega);refine ⟨⟨k1.live,k1.disk,k1.lo,?_⟩,k2.trans g2,fun e=>?_⟩
   · have:=k1.hi;show LE.le (α:=Int) (kN l (kP st d r).1.1 (kP st d r).1.2.1 (ps++[(kP st d r).2])).1.1.2.2.2.1 _;omega
   · have:=k3 e;show (kN l (kP st d r).1.1 (kP st d r).1.2.1 (ps++[(kP st d r).2])).2.map x_=_;rw [this,List.map_append,List.map_singleton,g3 e0,py];rfl
def y0:aX→iy→aX→aX
 | dir,[],_=>dir
 | dir,_::_,[]=>dir
 | dir,p::l,e::es=>y0 (bif p.2.1 then ki dir p.1 else xv dir e) l es
theorem Ea (dir:aX) (es:aX):y0 dir [] es=dir:=by cases es <;> rfl
theorem AE (b:Int):∀ (l:iy) (ps:bZ) (q:oL) (dir:aX),ps.map x_=l.map (mB b)++q→y0 dir l (ps.map o_)=fc dir (ps.take l.length)
 | [],ps,q,dir,h=>by rw [List.length_nil,List.take_zero,Ea];rfl
 | x::l,[],q,dir,h=>by cases h
 | x::l,p::ps,q,dir,h=>by
  rw [List.map_cons,List.map_cons,List.cons_append] at h;injection h with h1 h2;rw [List.map_cons,lq,List.take_succ_cons];unfold y0 fc;rw [List.foldl_cons,AE b l ps q _ h2];unfold fc;congr 1;unfold mU;rw [show p.2.2.2.1=mB b x from h1];unfold mB;cases x.2.1 <;> rfl
def FN (p:Ty.d aW):Ty.d a_:=(p.1,(0,(0,(0,(0,())))))
def pc (dir:aX) (l:iy):Int:=((y0 dir l (l.map FN)).length:Int)
theorem HP (l:aX) (e:Ty.d a_):(xv l e).length≤l.length+1:=by unfold xv;rw [E_];have:=p9 l e.1;omega
theorem Dp {k:Nat} (hk:2 ^ 50≤k) {dir:aX} (hd:dir.length≤536870912) {l:iy} (hl:l.length≤1000):dh.f k dir l=some (pc dir l,()):=by
 have key:∀ (n:Nat) (i:Int) (s:aX),0≤i→i≤(l.length:Int)→(l.length:Int)-i<n→(s.length:Int)≤536870912+i→dh.l1 k n l i s=some (pc s (l.drop i.toNat),()):=fun n i s h0 h1 h2 hs=>by
  refine Ig (L:=fun n i (s:aX)=>dh.l1 k n l i s) (R:=fun r s=>some (pc s r,())) (Ty.z aW) l (fun i s=>(s.length:Int)≤536870912+i) (fun n s hs=>?_) (fun n i s x rest h0 h1 hx hr hp ih=>?_) n i s h0 h1 h2 hs
  · simp (disch:=omega) only [dh.l1,dh.b1,aN,aI];rfl
  · simp only [dh.l1,dh.b1];rw [aK h1,aU,aF h0 h1,hx,aC (n:=i+1) (by omega) (by omega)];unfold pc;simp only [List.map_cons,y0];cases c:x.2.1 with
    | true =>have:=p9 s x.1;simp only [aU];rw [aF h0 h1,sT hk x.1 (by omega),aJ];exact ih (ki s x.1) (by omega)
    | false =>have:=HP s (FN x);have e:=uG hk (l:=s) (FN x) (by omega);unfold FN at e;simp only [aI];rw [aF h0 h1,e,aJ];exact ih (xv s (FN x)) (by omega)
 obtain ⟨q,hq⟩:∃ q,k=q+1:=⟨k-1,by omega⟩;have k1:=key (q+1) 0 dir (by omega) (by omega) (by omega) (by omega);unfold dh.f dh.t;rw [show l.drop (0:Int).toNat=l from rfl] at k1;refine Eq.trans ?_ k1;rw [show dh.l0 k k=dh.l0 k (q+1) by rw [← hq]];rfl
theorem C8 {k:Nat} (hk:2 ^ 50≤k) {l:iy} (hl:l.length≤1000) {es:aX} (he:l.length≤es.length) {L:Nat→Int→aX→gf.Rs}
 (hL:∀ n i s,L (n+1) i s=bif decide (i<(l.length:Int)) then b9 i (l.length:Int) (bif (l.getD i.toNat (Ty.z aW)).2.1 then ((cG.f k s (l.getD i.toNat (Ty.z aW)).1).bind fun r=>L n (aH (i+1)) r.1) else
  (b9 i (es.length:Int) ((dQ.f k s (es.getD i.toNat (Ty.z a_))).bind fun r=>L n (aH (i+1)) r.1))) else some (s,()))
 (n:Nat) (i:Int) (s:aX) (h0:0≤i) (h1:i≤(l.length:Int)) (h2:(l.length:Int)-i<n) (hs:(s.length:Int)≤536870912+i):L n i s=some (y0 s (l.drop i.toNat) (es.drop i.toNat),()):=by
 refine Ir (L:=L) (R:=fun i s=>some (y0 s (l.drop i.toNat) (es.drop i.toNat),())) (l.length:Int) (fun i s=>(s.length:Int)≤536870912+i) (fun n s hs=>?_) (fun n i s h0 h1 hp ih=>?_) n i s h0 h1 h2 hs
 · rw [hL,aN (by omega),aI,Int.toNat_natCast,List.drop_length,Ea]
 · have hi:i.toNat<l.length:=by omega
   have hj:i.toNat<es.length:=by omega
   have e1:l.drop i.toNat=l.getD i.toNat (Ty.z aW)::l.drop (i+1).toNat:=by rw [List.drop_eq_getElem_cons hi,show (i+1).toNat=i.toNat+1 by omega];simp [List.getD,hi]
   have e2:es.drop i.toNat=es.getD i.toNat (Ty.z a_)::es.drop (i+1).toNat:=by rw [List.drop_eq_getElem_cons hj,show (i+1).toNat=i.toNat+1 by omega];simp [List.getD,hj]
   rw [hL,aK h1,aU,aF h0 h1,e1,e2];simp only [y0];generalize l.getD i.toNat (Ty.z aW)=x;generalize es.getD i.toNat (Ty.z a_)=e;rw [aC (n:=i+1) (by omega) (by omega),aF h0 (by omega)];cases c:x.2.1 with
   | true =>have:=p9 s x.1;simp only [aU];rw [pf hk x.1 (by omega),aJ];exact ih (ki s x.1) (by omega)
   | false =>have:=HP s e;simp only [aI];rw [uP hk e (by omega),aJ];exact ih (xv s e) (by omega)
theorem Ff {k:Nat} (hk:2 ^ 50≤k) {dir:aX} (hd:dir.length≤536870912) {l:iy} (hl:l.length≤1000) {es:aX} (he:l.length≤es.length):iD.f k dir l es=some (y0 dir l es,()):=by unfold iD.f iD.t;exact C8 hk hl he (L:=fun n i s=>iD.l0 k n es l l.length i s) (fun n i s=>rfl) k 0 dir (by omega) (by omega) (by omega) (by omega)
theorem F8 {k:Nat} (hk:2 ^ 50≤k) {dir:aX} (hd:dir.length≤536870912) {l:iy} (hl:l.length≤1000) {es:aX} (he:l.length≤es.length):gf.f k dir l es=some (y0 dir l es,()):=by obtain ⟨q,hq⟩:∃ q,k=q+1:=⟨k-1,by omega⟩;have k1:=C8 hk hl he (L:=fun n i s=>gf.l1 k n es l l.length i s) (fun n i s=>rfl) (q+1) 0 dir (by omega) (by omega) (by omega) (by omega);unfold gf.f gf.t;refine Eq.trans ?_ k1;rw [show gf.l0 k k=gf.l0 k (q+1) by rw [← hq]];rfl
theorem CR {k:Nat} (hk:2 ^ 50≤k) {dir:aX} (hd:dir.length≤536870912) {l:iy} (hl:l.length≤1000):fO.f k dir l=some (pc dir l,()):=by
 unfold fO.f fO.t pc;refine (dG (L:=fun n i (s:aX)=>fO.l0 k n dir l l l.length i s) (R:=fun r s=>if (s++r.map FN).length=l.length then some (((y0 dir l (s++r.map FN)).length:Int),()) else none) (Ty.z aW) l (fun i s=>(s.length:Int)=i) (fun n s hs=>?_) (fun n i s x rest h0 h1 hx hr hp ih=>?_) (n:=k) (s:=[]) (by omega) rfl).trans ?_
 · simp (disch:=omega) only [fO.l0,fO.b0,aN,aI];rw [F8 hk hd hl (by omega),aJ,List.map_nil,List.append_nil,if_pos (by omega)]
 · simp (disch:=first | omega | decide) only [fO.l0,fO.b0,aK,aU,aF,hx,b7,aC];refine (ih (s++[FN x]) (by rw [sF,List.length_singleton];omega)).trans ?_;rw [py];rfl
 · rw [List.nil_append,if_pos (List.length_map ..)]
theorem HC (dir:aX) (ps:bZ) (p:Ty.d aD):fc dir (ps++[p])=mU (fc dir ps) p:=by unfold fc;rw [List.foldl_append];rfl
theorem oB {c:Int} (h:(c != 0)=false):c=0:=by unfold bne at h;simpa using h
theorem J6 (l:iy) (b:Int):(sB l b).length=l.length+1:=by unfold sB;rw [sF,List.length_map];rfl
theorem Cr {k:Nat} (hk:2 ^ 50≤k) {st:Ty.d aG} {d:Ty.d aA} {l:iy} (h:SR st (d,0) 100000) (hb0:LE.le (α:=Int) 0 st.2.2.1) (hb:LE.le (α:=Int) st.2.2.1 1000000) (hp:gQ l=true) (hd:st.2.1.length≤20) :
 bn.f k st d l=some ((md st d l).1,((md st d l).2.1,((md st d l).2.2,()))):=by
 have hl:=pK hp;unfold bn.f bn.t md sB;rw [b7 (by omega) (by decide),List.nil_append,aC (n:=st.2.2.1+1) (by omega) (by omega)];generalize hbe:st.2.2.1=b at *;rw [show Dn st=((st.1,(st.2.1,(b+1,st.2.2.2))):Ty.d aG) from by unfold Dn;rw [hbe]];refine dG (L:=fun n i (s:(Ty.d aG × Ty.d aA) × bZ)=>bn.l0 k n b i l s.1.1.1.2.1 s.1.1.2.1 s.1.1.1.1 s.1.1.2.2.1 s.1.1.2.2.2.1 s.1.1.2.2.2.2.1 s.1.2.1 s.1.2.2.1 s.1.2.2.2.1 s.1.2.2.2.2.1 [] [] 0 0 0 0 [] 0 0 false (s.2.map x_) (fc s.1.1.2.1 s.2))
  (R:=fun r s=>(some ((uB l.length (kN (r.map (mB b)++[ir 3 b (l.map (mB b))]) s.1.1 s.1.2 s.2)).1,((uB l.length (kN (r.map (mB b)++[ir 3 b (l.map (mB b))]) s.1.1 s.1.2 s.2)).2.1,((uB l.length (kN (r.map (mB b)++[ir 3 b (l.map (mB b))]) s.1.1 s.1.2 s.2)).2.2,()))):bn.Rs))
  (Ty.z aW) l (fun i s=>SR s.1.1 (s.1.2,0) (100000+211*i)∧s.2.map x_=(l.take i.toNat).map (mB b)∧s.1.1.2.1.length≤20) (fun n s hs=>?_) (fun n i s x rest h0 h1 hx hr hs ih=>?_) (n:=k) (s:=(((((st.1,(st.2.1,(b+1,st.2.2.2))):Ty.d aG)),d),[])) (by omega) ⟨⟨h.live,h.disk,h.lo,Int.le_trans h.hi (by decide)⟩,rfl,hd⟩
 · obtain ⟨⟨st',d'⟩,ps⟩:=s;obtain ⟨g1,g2,g3⟩:=hs;simp only [] at g1 g2 g3 ⊢;rw [Int.toNat_natCast,List.take_length] at g2;have hps:ps.length=l.length:=by simpa using congrArg List.length g2
   simp only [bn.l0,bn.b0];rw [aN (by omega),aI,g2,xp hk (by rw [List.length_map];omega),aJ];simp only [];rw [show ((st'.1.1,(st'.1.2.1,())),(st'.2.1,(st'.2.2.1,(st'.2.2.2.1,(st'.2.2.2.2.1,())))))=st' from rfl,show (d'.1,(d'.2.1,(d'.2.2.1,(d'.2.2.2.1,()))))=d' from rfl,
    Af hk g1 (by omega) (by omega),aJ]
   simp only [List.map_nil,List.nil_append,kN];obtain ⟨k1,k2,_⟩:=u_ g1 (by omega) (ir 3 b (l.map (mB b)));generalize kP st' d' (ir 3 b (l.map (mB b)))=q at k1 k2 ⊢;cases c:q.1.2.2 != 0 with
   | true =>simp only [aU];unfold uB;simp only [c,aU]
   | false =>
    simp only [aI];rw [qZ hk k1.live,aJ];simp only [];rw [np hk (DR.sz k1.disk),aJ];unfold uB;simp only [show ((0:Int) != 0)=false from rfl,aI];generalize jB q.1.2.1 (k9 q.1.1)=y;cases c2:y.2 != 0 with
    | true=>simp only [aU,dc,aJ];rfl
    | false =>simp only [aI];rw [k2,List.take_append_of_le_length (by omega),List.take_of_length_le (by omega)];rfl
 · obtain ⟨⟨st',d'⟩,ps⟩:=s;obtain ⟨g1,g2,g3⟩:=hs;simp only [] at g1 g2 g3 ih ⊢;have hi:i.toNat<l.length:=by omega
   have hm:x ∈ l:=List.mem_of_mem_drop (i:=i.toNat) (by rw [hr];exact sM);have e:=JW b (HJ hp hm);have et:l.take (i+1).toNat=l.take i.toNat++[x]:=by rw [show (i+1).toNat=i.toNat+1 by omega,List.take_succ_eq_append_getElem hi];congr 2;rw [← hx];simp [List.getD,hi]
   have hps:ps.length≤l.length:=by have:=congrArg List.length g2;rw [List.length_map,List.length_map,List.length_take] at this;omega
   obtain ⟨k1,k2,k3⟩:=u_ g1 (by omega) (mB b x);have body:((fH.f k st' d' (mB b x)).bind fun r1=>(bif (r1.2.2.2.1 != 0) then (some (r1.1,(r1.2.1,r1.2.2.2))) else ((j6.f k (fc st'.2.1 ps) r1.2.2.1).bind fun r2=>(rm (Ty.bytes bR) (List.length (ps.map x_)+1)
    (bn.l0 k n b (aH (i+1)) l r1.1.1.2.1 r1.1.2.1 r1.1.1.1 r1.1.2.2.1 r1.1.2.2.2.1 r1.1.2.2.2.2.1 r1.2.1.1 r1.2.1.2.1 r1.2.1.2.2.1 r1.2.1.2.2.2.1 [] [] 0 0 0 0 [] 0 0 false (ps.map x_++[mB b x]) r2.1))))) =
    (some ((uB l.length (kN ((x::rest).map (mB b)++[ir 3 b (l.map (mB b))]) st' d' ps)).1,((uB l.length (kN ((x::rest).map (mB b)++[ir 3 b (l.map (mB b))]) st' d' ps)).2.1,((uB l.length (kN ((x::rest).map (mB b)++[ir 3 b (l.map (mB b))]) st' d' ps)).2.2,()))):bn.Rs):=by
    rw [Af hk g1 (by omega) (by omega),aJ];simp only [List.map_cons,List.cons_append,kN];have hk1:=k1.hi;generalize kP st' d' (mB b x)=q at k1 k2 k3 hk1 ⊢;cases c:q.1.2.2 != 0 with
    | true =>simp only [aU];unfold uB;simp only [c,aU]
    | false =>
     simp only [aI];have hal:=rJ ps st'.2.1;rw [Ag hk q.2 (by omega),aJ,b7 (by rw [List.length_map];omega) (by decide),aC (n:=i+1) (by omega) (by omega)];have q3:=k3 (oB c);have e1:(ps++[q.2]).map x_=ps.map x_++[mB b x]:=by rw [List.map_append,List.map_singleton,q3]
     have e2:fc q.1.1.2.1 (ps++[q.2])=mU (fc st'.2.1 ps) q.2:=by rw [k2,HC]
     have ih:=ih ((q.1.1,q.1.2.1),ps++[q.2]) ⟨⟨k1.live,k1.disk,k1.lo,by show LE.le (α:=Int) q.1.1.2.2.2.1 _;omega⟩,by simp only [];rw [e1,g2,et,List.map_append];rfl,by simp only [];rw [k2];exact g3⟩;simp only [] at ih;rw [e1,e2] at ih;exact ih
   simp only [bn.l0,bn.b0];rw [aK h1,aU,aF h0 h1,aF h0 h1,aF h0 h1,hx];rw [show ((st'.1.1,(st'.1.2.1,())),(st'.2.1,(st'.2.2.1,(st'.2.2.2.1,(st'.2.2.2.2.1,())))))=st' from rfl,show (d'.1,(d'.2.1,(d'.2.2.1,(d'.2.2.2.1,()))))=d' from rfl];cases c:x.2.1 with
   | true =>rw [c,aU] at e;simp only [aU];rw [← e];exact body
   | false =>rw [c,aI] at e;simp only [aI];rw [← e];exact body
theorem Dg {k:Nat} (hk:2 ^ 50≤k) {st:Ty.d aG} {d:Ty.d aA} {l:iy} (h:SR st (d,0) 100000) (hb0:LE.le (α:=Int) 0 st.2.2.1) (hb:LE.le (α:=Int) st.2.2.1 1000000) (hp:gQ l=true) (hd:st.2.1.length≤20) :
 cF.f k st (wO (d,0)) l=some ((md st d l).1,(wO (md st d l).2,())):=by
 have hl:=pK hp;unfold cF.f cF.t md;rw [wb hk (by omega),aJ];simp only [];rw [aC (n:=st.2.2.1+1) (by omega) (by omega)];have hrl:=J6 l st.2.2.1;have hre:sB l st.2.2.1=l.map (mB st.2.2.1)++[ir 3 st.2.2.1 (l.map (mB st.2.2.1))]:=rfl;generalize sB l st.2.2.1=rs at hrl hre ⊢;refine dG (L:=fun n i (s:(Ty.d aG × Ty.d aA) × bZ)=>cF.l0 k n l rs.length i s.1.1.1.2.1 s.1.1.2.1 s.1.1.1.1 s.1.1.2.2.1 s.1.1.2.2.2.1 s.1.1.2.2.2.2.1 s.1.2.1 s.1.2.2.1 s.1.2.2.2.1 s.1.2.2.2.2.1 0 (s.2.map o_) rs)
  (R:=fun r s=>(some ((uB l.length (kN r s.1.1 s.1.2 s.2)).1,(wO (uB l.length (kN r s.1.1 s.1.2 s.2)).2,())):cF.Rs))
  (Ty.z bR) rs (fun i s=>SR s.1.1 (s.1.2,0) (100000+211*i)∧s.2.map x_=rs.take i.toNat∧s.1.1.2.1.length≤20) (fun n s hs=>?_) (fun n i s x rest h0 h1 hx hr hs ih=>?_) (n:=k) (s:=((Dn st,d),[])) (by omega) ⟨⟨h.live,h.disk,h.lo,Int.le_trans h.hi (by decide)⟩,rfl,hd⟩
 · obtain ⟨⟨st',d'⟩,ps⟩:=s;obtain ⟨g1,g2,g3⟩:=hs;simp only [] at g1 g2 g3 ⊢;rw [Int.toNat_natCast,List.take_length] at g2;have hps:ps.length=rs.length:=by simpa using congrArg List.length g2
   simp only [cF.l0,cF.b0];rw [aN (by omega),aI,show ((st'.1.1,(st'.1.2.1,())),(st'.2.1,(st'.2.2.1,(st'.2.2.2.1,(st'.2.2.2.2.1,())))))=st' from rfl,qR g1.live,aJ];simp only [];rw [show ((d'.1,(d'.2.1,(d'.2.2.1,(d'.2.2.2.1,())))),((0:Int),()))=wO (d',0) from rfl,p7 hk (d',0) g1.disk,aJ,p0];unfold uB kN;simp only [show ((0:Int) != 0)=false from rfl,aI];generalize jB d' (k9 st')=y;have q:=uW y;rw [show (wO (tl y)).2.1=(tl y).2 from rfl];cases c:y.2 != 0 with
   | true =>
    rw [c] at q;have q:((tl y).2==0)=false:=by unfold bne at q;simpa using q
    rw [q];rfl
   | false =>
    rw [c] at q;have q:((tl y).2==0)=true:=by unfold bne at q;simpa using q
    rw [q];simp only [aU,aI];rw [Ff hk (by omega) (by omega) (by rw [List.length_map];omega),aJ,AE st.2.2.1 l ps [ir 3 st.2.2.1 (l.map (mB st.2.2.1))] st'.2.1 (g2.trans hre),q9 (r:=y) (by unfold bne at c;simpa using c)];rfl
 · obtain ⟨⟨st',d'⟩,ps⟩:=s;obtain ⟨g1,g2,g3⟩:=hs;simp only [] at g1 g2 g3 ih ⊢;have hi:i.toNat<rs.length:=by omega
   have et:rs.take (i+1).toNat=rs.take i.toNat++[x]:=by rw [show (i+1).toNat=i.toNat+1 by omega,List.take_succ_eq_append_getElem hi];congr 2;rw [← hx];simp [List.getD,hi]
   have hps:ps.length≤rs.length:=by have:=congrArg List.length g2;rw [List.length_map,List.length_take] at this;omega
   obtain ⟨k1,k2,k3⟩:=u_ g1 (by omega) x;obtain ⟨e,he1,he2⟩:=GK hk g1 (by omega) (by omega) x;simp only [cF.l0,cF.b0,kN];rw [aK h1,aU,aF h0 h1,hx,show ((st'.1.1,(st'.1.2.1,())),(st'.2.1,(st'.2.2.1,(st'.2.2.2.1,(st'.2.2.2.2.1,())))))=st' from rfl,show ((d'.1,(d'.2.1,(d'.2.2.1,(d'.2.2.2.1,())))),((0:Int),()))=wO (d',0) from rfl,he1,aJ];simp only [];have hk1:=k1.hi;generalize kP st' d' x=q at k1 k2 k3 hk1 he2 ⊢;rw [show (wO q.1.2).2.1=q.1.2.2 from rfl];cases c:q.1.2.2 != 0 with
   | true =>simp only [aU];unfold uB;simp only [c,aU]
   | false =>
    simp only [aI];have z:=oB c;have q3:=k3 z;rw [b7 (by rw [List.length_map];omega) (by decide),aC (n:=i+1) (by omega) (by omega),he2 z];have e1:(ps++[q.2]).map o_=ps.map o_++[o_ q.2]:=by rw [List.map_append,List.map_singleton]
    have ih:=ih ((q.1.1,q.1.2.1),ps++[q.2]) ⟨⟨k1.live,k1.disk,k1.lo,by show LE.le (α:=Int) q.1.1.2.2.2.1 _;omega⟩,by simp only [];rw [List.map_append,List.map_singleton,q3,g2,et],by simp only [];rw [k2];exact g3⟩;simp only [] at ih;rw [e1] at ih;rw [show (wO q.1.2).1=q.1.2.1 from rfl,z];exact ih
noncomputable def jj (st:Ty.d aG) (d:Ty.d aA) (l:iy):Ty.d aG × RD :=
 bif !kL st d then (st,(d,4)) else bif !gQ l then (st,(d,4)) else bif (l.length:Int)==0 then (st,(d,0)) else bif decide (pc st.2.1 l > 20) then (st,(d,5)) else
 bif decide (st.2.2.1 > 1000000) then (st,(d,5)) else md st d l
theorem CK {d:Ty.d aA} {tail:Int}:∀ {l:List Int},l≠[]→nC d tail l=true→∃ x,tail=((ao d (aB aO x)).1.size:Int)
 | [],h,_=>absurd rfl h
 | [x],_,h=>by unfold nC Er at h;simp only [lP,List.isEmpty_nil,eQ,Bool.false_or] at h;exact ⟨x,Aw h.1.2.2⟩
 | x::y::l,_,h=>by unfold nC at h;rw [lP] at h;exact CK (by intro q;cases q) h.2
theorem lk {st:Ty.d aG} {d:Ty.d aA} (h:kL st d=true):SR st (d,0) 100000∧st.2.1.length≤20∧LE.le (α:=Int) 1 st.2.2.1:=by
 unfold kL rk at h;simp only [lP,decide_eq_true_eq] at h;obtain ⟨h1,h2,⟨h3,_⟩,h4,h5,_⟩:=h;obtain ⟨_,_,g1,_,_⟩:=eD (nx:=st.1.1) (ids:=st.1.2.1) h2;have hd:=lH.1 h1;obtain ⟨x,hx⟩:=CK (by intro q;rw [q] at g1;simp at g1) h5;have hs:=gw d (aB aO x);have hu:=hd.use;have hc:=hd.cap1;refine ⟨⟨h2,hd,?_,?_⟩,by omega,h4.1⟩
 · show LE.le (α:=Int) 0 st.2.2.2.1;rw [hx];omega
 · show LE.le (α:=Int) st.2.2.2.1 100000;rw [hx];have:LE.le (α:=Int) (dS d.1) 100000:=Int.le_trans hu hc;omega
theorem BM {k:Nat} (hk:2 ^ 50≤k) {st:Ty.d aG} {d:Ty.d aA} (hd:uN d) (h1:st.1.2.1.length≤1073741824) (h2:st.2.1.length≤536870912) {l:iy} (hl:l.length≤1073741824) :
 iw.f k st d l=some ((jj st d l).1,((jj st d l).2.1,((jj st d l).2.2,()))):=by
 have ec:db.f k st=some (st,()):=by unfold db.f db.t;rw [b7 (by omega) (by decide),b7 (by omega) (by decide),List.nil_append,List.nil_append]
 unfold iw.f iw.t jj;rw [ec,aJ];simp only [];rw [ju k hd,aJ];simp only [];rw [vi hk hd,aJ];simp only [];cases c1:kL st d with
 | false=>rfl
 | true =>
  simp only [eQ,aI];rw [qY hk,aJ];simp only [];cases c2:gQ l with
  | false=>rfl
  | true =>
   have h8:=pK c2;obtain ⟨g1,g2,g3⟩:=lk c1;simp only [eQ,aI];cases c3:(l.length:Int)==0 with
   | true=>rfl
   | false =>
    simp only [aI];rw [Dp hk (by omega) (by omega),aJ];simp only [];cases c4:decide (pc st.2.1 l > 20) with
    | true=>rfl
    | false =>
     simp only [aI];by_cases c5:st.2.2.1 > (1000000:Int)
     · rw [aK c5];rfl
     · rw [aN c5];simp only [aI];rw [Cr hk g1 (Int.le_trans (by decide) g3) (Int.not_lt.1 c5) c2 g2,aJ]
theorem Ay {k:Nat} (hk:2 ^ 50≤k) {st:Ty.d aG} {d:Ty.d aA} (hd:uN d) (h1:st.1.2.1.length≤1073741824) (h2:st.2.1.length≤536870912) {l:iy} (hl:l.length≤1073741824) :
 kC.f k st d l=some ((jj st d l).1,((jj st d l).2.1,((jj st d l).2.2,()))):=by
 have ec:cQ.f k st=some (st,()):=by unfold cQ.f cQ.t df.f df.t;rw [b7 (by omega) (by decide),aJ];unfold cM.f cM.t;rw [b7 (by omega) (by decide),aJ]
 unfold kC.f kC.t jj;rw [ec,aJ];simp only [];rw [iA k hd.l,aJ];simp only [];rw [wL hk hd (by omega) (by omega),aJ];simp only [];cases c1:kL st d with
 | false=>rfl
 | true =>
  simp only [eQ,aI];rw [Az hk (by omega),aJ];simp only [];cases c2:gQ l with
  | false=>rfl
  | true =>
   have h8:=pK c2;obtain ⟨g1,g2,g3⟩:=lk c1;simp only [eQ,aI];cases c3:(l.length:Int)==0 with
   | true=>rfl
   | false =>
    simp only [aI];rw [CR hk (by omega) (by omega),aJ];simp only [];cases c4:decide (pc st.2.1 l > 20) with
    | true=>rfl
    | false =>
     simp only [aI];by_cases c5:st.2.2.1 > (1000000:Int)
     · rw [aK c5];rfl
     · rw [aN c5];simp only [aI];rw [show ((d,((0:Int),())):Ty.d au)=wO (d,0) from rfl,Dg hk g1 (Int.le_trans (by decide) g3) (Int.not_lt.1 c5) c2 g2,aJ];rfl
theorem ET {p:ByteArray} (hp:p=aO∨p=bg) {n:Int} (h0:1≤n) (h1:n≤100000):Jb (aB p n)=(n,true):=by
 have e:aB p n=p++hZ n:=by unfold aB;rw [aK ⟨h0,h1⟩];rfl
 have hn:Lj (p++hZ n) n:=⟨h0,h1,by rcases hp with q | q <;> rw [q] <;> simp⟩;rw [e];rcases lg (Lj (p++hZ n)) (fun _=>p++hZ n) (0:Int) (p++hZ n) with ⟨r,g1,_,g3⟩ | g
 · unfold Jb;rw [g3,I8 g1 hn]
 · exfalso;unfold qN at g;rw [dif_pos ⟨n,hn,rfl⟩] at g;cases (Prod.mk.inj g).2
def Ng (d:Ty.d aA) (s:ByteArray):Nat:=((fT d s).getD ⟨#[]⟩).size
def vE (d:Ty.d aA) (ids:List Int):Nat:=(ids.map fun x=>Ng d (aB aO x)).sum
def uF:aX→Int
 | []=>0
 | e::l=>e.2.2.2.1+uF l
theorem GU {x y:Int} (hx:1≤x∧x≤100000) (hy:1≤y∧y≤100000) (h:x≠y):aB aO x≠aB aO y:=fun q=>by
 have e1:=ET (.inl rfl) hx.1 hx.2;have e2:=ET (.inl rfl) hy.1 hy.2;rw [q,e2] at e1;injection e1 with e1 _;exact h e1.symm
theorem Ar {x:Int} (hx:1≤x∧x≤100000):aB aO x=aO++hZ x:=by unfold aB;rw [aK hx];rfl
theorem vJ {x:Int} (hx:1≤x∧x≤100000):jm≠aB aO x:=fun q=>by rw [Ar hx] at q;have:=congrArg nb q;rw [jr] at this;cases this
theorem vy {x:Int} (hx:1≤x∧x≤100000):j2≠aB aO x:=fun q=>by rw [Ar hx] at q;have:=congrArg nb q;rw [jr] at this;cases this
theorem qy {n:Int} {ids:List Int} (h:dp (n,(ids,()))=true):1≤n∧n≤100000∧(∀ x ∈ ids,1≤x∧x<n)∧ids.Pairwise (· < ·):=by
 obtain ⟨g1,g2,_⟩:=eD h;unfold dp at h;simp only [lP,decide_eq_true_eq] at h;have h3:=h.2.2;rw [aC (n:=n-1) (by omega) (by omega)] at h3;have key:∀ (l:List Int) (p:Option Int),sD (pF (n-1)) p l=true→(∀ x ∈ l,1≤x∧x<n∧∀ y,p=some y→y<x)∧l.Pairwise (· < ·):=by
  intro l
  induction l with
  | nil=>exact fun p _=>⟨fun x hx=>(by cases hx),List.Pairwise.nil⟩
  | cons a l ih =>
   intro p hp;simp only [sD,lP] at hp;obtain ⟨q1,q2⟩:=hp;unfold pF at q1;rw [lP,decide_eq_true_eq] at q1;obtain ⟨⟨b1,b2⟩,b3⟩:=q1;have b1:1≤a:=b1;have b2:a≤n-1:=b2;obtain ⟨i1,i2⟩:=ih (some a) q2;have ha:∀ y,p=some y→y<a:=fun y e=>by rw [e] at b3;exact of_decide_eq_true b3
   refine ⟨fun x hx=>?_,?_⟩
   · rcases List.mem_cons.1 hx with e | e
     · rw [e];exact ⟨b1,by omega,ha⟩
     · obtain ⟨c1,c2,c3⟩:=i1 x e;have:=c3 a rfl;exact ⟨c1,c2,fun y ey=>Int.lt_trans (ha y ey) this⟩
   · exact List.Pairwise.cons (fun x hx=>(i1 x hx).2.2 a rfl) i2
 obtain ⟨k1,k2⟩:=key ids none h3;exact ⟨g1,g2,fun x hx=>⟨(k1 x hx).1,(k1 x hx).2.1⟩,k2⟩
theorem BU {d d':Ty.d aA}:∀ {ids:List Int},(∀ x ∈ ids,fT d' (aB aO x)=fT d (aB aO x))→vE d' ids=vE d ids
 | [],_=>rfl
 | x::l,h=>by
  unfold vE at *;rw [List.map_cons,List.map_cons,List.sum_cons,List.sum_cons];have e1:Ng d' (aB aO x)=Ng d (aB aO x):=by unfold Ng;rw [h x sM]
  have e2:=BU (ids:=l) fun y hy=>h y (wW _ hy)
  unfold vE at e2;rw [e1,e2]
abbrev Hd:=List (Ty.d bU)
def ic (id:Int) (l:Hd):bZ:=l.map fun x=>(id,x)
theorem Fg (id:Int) (l:Hd):(ic id l).length=l.length:=by unfold ic;rw [List.length_map]
theorem uJ {k:Nat} (hk:2 ^ 50≤k) (id:Int) {l:Hd} (hl:l.length≤1099511627775):fU.f k id l=some (ic id l,()):=by
 unfold fU.f fU.t;refine (dG (L:=fun n i s=>fU.l0 k n id l l.length i s) (R:=fun r s=>some (s++ic id r,())) (Ty.z bU) l (fun i s=>(s.length:Int)=i) (fun n s hs=>?_) (fun n i s x rest h0 h1 hx hr hp ih=>?_) (n:=k) (s:=[]) (by omega) (by decide)).trans (by rw [List.nil_append])
 · simp (disch:=omega) only [fU.l0,fU.b0,aN,aI,ic,List.map_nil,List.append_nil]
 · have ih:=ih (s++[(id,x)]) (by rw [bK];omega);simp (disch:=first | omega | decide) only [fU.l0,fU.b0,aK,aU,aF,hx,b7,aC];refine ih.trans ?_;simp only [ic,List.map_cons,py,List.cons_append,List.nil_append]
theorem uO {k:Nat} (hk:2 ^ 50≤k) (id:Int) {s:ByteArray} (hs:s.size≤1099511627775):bu.f k id s=some (ic id (cL s).1,()):=by
 unfold bu.f bu.t;rw [oP hk hs,aJ];have hl:=(kS s).1;simp only [];generalize (cL s).1=l at *;refine (dG (L:=fun n i s=>bu.l0 k n id i s l) (R:=fun r s=>some (s++ic id r,())) (Ty.z bU) l (fun i s=>(s.length:Int)=i) (fun n s hs=>?_) (fun n i s x rest h0 h1 hx hr hp ih=>?_) (n:=k) (s:=[]) (by omega) (by decide)).trans (by rw [List.nil_append])
 · simp (disch:=omega) only [bu.l0,bu.b0,aN,aI,ic,List.map_nil,List.append_nil]
 · have ih:=ih (s++[(id,x)]) (by rw [bK];omega);simp (disch:=first | omega | decide) only [bu.l0,bu.b0,aK,aU,aF,hx,b7,aC];refine ih.trans ?_;simp only [ic,List.map_cons,py,List.cons_append,List.nil_append]
def od:Ty.d fV:=(0,(0,([],())))
def C6 (s0:Int) (e:Ty.d a_):Bool:=(e.2.1==s0)&&!decide ((e.2.2.1:Int) > 100000)
def xL (l:aX):Bool:=l.all (C6 (l.getD 0 (Ty.z a_)).2.1)
def lF (h:Ty.d fV):Bool:=decide ((0:Int)≤h.1∧h.1≤100000)&&(decide ((0:Int)≤h.2.1∧h.2.1≤1000000)&&(rk h.2.2.1&&xL h.2.2.1))
def jl (e:Ty.d a_):ByteArray:=kT e.1++(ix e.2.1++(ix e.2.2.1++(ix e.2.2.2.1++ix e.2.2.2.2.1)))
def jA:aX→ByteArray
 | []=>⟨#[]⟩
 | e::l=>jl e++jA l
def qo (h:Ty.d fV):ByteArray:=ix h.1++(ix h.2.1++(ix (h.2.2.1.length:Int)++jA h.2.2.1))
def bz (h:Ty.d fV):ByteArray:=if lF h=true then sL (qc (qo h))++qo h else ⟨#[]⟩
theorem B1 {k:Nat} (hk:2 ^ 50≤k) (h:Ty.d fV):iS.f k h=some (lF h,()):=by
 unfold iS.f iS.t lF;rw [fC,aJ];cases decide ((0:Int)≤h.1∧h.1≤100000) with
 | false=>rfl
 | true =>
  simp only [eQ,aI,Bool.true_and];rw [fC,aJ];cases decide ((0:Int)≤h.2.1∧h.2.1≤1000000) with
  | false=>rfl
  | true =>
   simp only [eQ,aI,Bool.true_and];rw [zW hk,aJ];cases cd:rk h.2.2.1 with
   | false=>rfl
   | true =>
    simp only [eQ,aI,Bool.true_and];have hl:h.2.2.1.length≤20:=by unfold rk at cd;rw [lP,decide_eq_true_eq] at cd;have:=cd.1;omega
    unfold xL;refine dG (L:=fun n i (_:Unit)=>iS.l0 k n i h.1 h.2.1 h.2.2.1) (R:=fun r _=>some (r.all (C6 (h.2.2.1.getD 0 (Ty.z a_)).2.1),())) (Ty.z a_) h.2.2.1 (fun _ _=>True) (fun n _ _=>?_) (fun n i _ x rest h0 h1 hx hr hp ih=>?_) (n:=k) (s:=()) (by omega) trivial
    · simp only [iS.l0,iS.b0];rw [aN (by omega),aI];rfl
    · have ih:=ih () trivial;simp only [iS.l0,iS.b0];rw [aK h1,aU,aF h0 h1,aF (by omega) (by omega),hx,aF h0 h1,aC (n:=i+1) (by omega) (by omega),ih,List.all_cons];unfold C6 bne;cases x.2.1==(h.2.2.1.getD 0 (Ty.z a_)).2.1 <;> cases decide ((x.2.2.1:Int) > 100000) <;> rfl
theorem qV {k:Nat} (hk:2 ^ 50≤k) {h:Ty.d fV} (hl:h.2.2.1.length≤1073741824):eZ.f k h=some (lF h,()):=by
 unfold eZ.f eZ.t lF xL;have fin:∀ b:Bool,(bif b then (Option.bind (ab.f k h.1 0 100000) fun r1=>(bif r1.1 then (Option.bind (ab.f k h.2.1 0 1000000) fun r2=>(bif r2.1 then (Option.bind (fF.f k h.2.2.1) fun r3=>(some r3)) else (some (false,())))) else (some (false,())))) else (some (false,())))=some (decide ((0:Int)≤h.1∧h.1≤100000)&&(decide ((0:Int)≤h.2.1∧h.2.1≤1000000)&&(rk h.2.2.1&&b)),()):=fun b=>by rw [iq,aJ,iq,aJ,A4 hk (by omega),aJ];simp only [];cases decide ((0:Int)≤h.1∧h.1≤100000) <;> cases decide ((0:Int)≤h.2.1∧h.2.1≤1000000) <;> cases rk h.2.2.1 <;> cases b <;> rfl
 rw [← fin];refine dG (L:=fun n i (_:Unit)=>eZ.l0 k n h.2.2.1 h.2.2.1.length i h.1 h.2.1 h.2.2.1) (R:=fun r _=>bif r.all (C6 (h.2.2.1.getD 0 (Ty.z a_)).2.1) then (Option.bind (ab.f k h.1 0 100000) fun r1=>(bif r1.1 then (Option.bind (ab.f k h.2.1 0 1000000) fun r2=>(bif r2.1 then (Option.bind (fF.f k h.2.2.1) fun r3=>(some r3)) else (some (false,())))) else (some (false,())))) else (some (false,()))) (Ty.z a_) h.2.2.1 (fun _ _=>True) (fun n _ _=>?_) (fun n i _ x rest h0 h1 hx hr hp ih=>?_) (n:=k) (s:=()) (by omega) trivial
 · simp only [eZ.l0,eZ.b0];rw [aN (by omega),aI];rfl
 · have ih:=ih () trivial;simp only [eZ.l0,eZ.b0];rw [aK h1,aU,aF h0 h1,aF (by omega) (by omega),hx,aC (n:=i+1) (by omega) (by omega),ih,List.all_cons];unfold C6 bne;cases x.2.1==(h.2.2.1.getD 0 (Ty.z a_)).2.1 <;> cases decide ((x.2.2.1:Int) > 100000) <;> rfl
theorem iT {l:aX} (h:rk l=true):l.length≤20∧∀ e ∈ l,(1≤e.1.size∧e.1.size≤8)∧(LE.le (α:=Int) 1 e.2.1∧LE.le (α:=Int) e.2.1 100000)∧LE.le (α:=Int) 0 e.2.2.1∧(LE.le (α:=Int) 1 e.2.2.2.1∧LE.le (α:=Int) e.2.2.2.1 210)∧(LE.le (α:=Int) 1 e.2.2.2.2.1∧LE.le (α:=Int) e.2.2.2.2.1 1000000):=by
 unfold rk at h;rw [lP,decide_eq_true_eq] at h;refine ⟨by have:=h.1;omega,fun e he=>?_⟩;obtain ⟨q,hq⟩:=DC h.2 he;unfold uU iJ at hq;rw [lP,lP,lP,lP,lP,decide_eq_true_eq,decide_eq_true_eq,decide_eq_true_eq,decide_eq_true_eq] at hq;obtain ⟨g1,g2,g3,g4,g5,_⟩:=hq;have g3':¬ LT.lt (α:=Int) e.2.2.1 0:=by
  intro q;have:(!decide (e.2.2.1<(0:Int)))=false:=by rw [aK q];rfl
  rw [this] at g3;cases g3
 exact ⟨by omega,g2,Int.not_lt.1 g3',g4,g5⟩
theorem lW {h:Ty.d fV} (q:lF h=true):rk h.2.2.1=true:=by unfold lF at q;rw [lP,lP,lP] at q;exact q.2.2.1
theorem tV {e:Ty.d a_}:(jl e).size≤35+e.1.size:=by have a:=bB (e.1.size:Int);have b:=bB e.2.1;have c:=bB e.2.2.1;have d:=bB e.2.2.2.1;have f:=bB e.2.2.2.2.1;unfold jl kT;simp only [aP];omega
theorem rG:∀ {l:aX},(∀ e ∈ l,e.1.size≤8)→(jA l).size≤43*l.length
 | [],_=>Nat.zero_le _
 | e::l,h=>by
  have h1:=h e (sM ..);have h2:=rG (l:=l) fun x hx=>h x (wW _ hx)
  have h3:=tV (e:=e);unfold jA;rw [aP,lq];omega
theorem GN {h:Ty.d fV} (q:lF h=true):(qo h).size≤900:=by
 obtain ⟨h1,h2⟩:=iT (lW q);have:=rG (l:=h.2.2.1) fun e he=>(h2 e he).1.2
 have a:=bB h.1;have b:=bB h.2.1;have c:=bB (h.2.2.1.length:Int);unfold qo;simp only [aP];omega
theorem o7 (h:Ty.d fV):(bz h).size≤904:=by
 unfold bz;by_cases q:lF h=true
 · have:=GN q;rw [if_pos q,aP,show (sL (qc (qo h))).size=4 from rfl];omega
 · rw [if_neg q];decide
theorem mW {k:Nat} (hk:2 ^ 50≤k) (h:Ty.d fV):eJ.f k h=some (bz h,()):=by
 unfold eJ.f eJ.t bz;rw [B1 hk,aJ];cases q:lF h with
 | false=>rfl
 | true =>
  obtain ⟨h1,h2⟩:=iT (lW q);have a:=bB h.1;have b:=bB h.2.1;have c:=bB (h.2.2.1.length:Int);rw [eQ,aI,iV hk,aJ,iV hk,aJ,if_pos rfl];simp only [];rw [eL (by omega),iV hk,aJ];simp only [];rw [eL (by rw [aP];omega)];refine (dG (L:=fun n i s=>eJ.l0 k n s i h.1 h.2.1 h.2.2.1) (R:=fun r s=>some (sL (qc (s++jA r))++(s++jA r),())) (Ty.z a_) h.2.2.1 (fun i s=>(s.size:Int)≤21+43*i) (fun n s hs=>?_) (fun n i s x rest g0 g1 hx hr hs ih=>?_) (n:=k) (s:=ix h.1++ix h.2.1++ix (h.2.2.1.length:Int)) (by omega) (by rw [aP,aP];omega)).trans (by unfold qo;rw [az,az])
  · have hc:=vQ s;simp only [eJ.l0,eJ.b0];rw [aN (by omega),aI,ub hk (by omega),aJ];simp only [];rw [s6 hk hc.1 hc.2,aJ];simp only [];rw [eL (by rw [show (sL (qc s)).size=4 from rfl];omega),show jA []=⟨#[]⟩ from rfl,hO]
  · have hm:x ∈ h.2.2.1:=by rw [← hx];exact fv (by omega)
    have hz:=(h2 x hm).1.2;have v1:=bB (x.1.size:Int);have v2:=bB x.2.1;have v3:=bB x.2.2.1;have v4:=bB x.2.2.2.1;have v5:=bB x.2.2.2.2.1;have ih:=ih (s++jl x) (by have:=tV (e:=x);rw [aP];omega);simp only [eJ.l0,eJ.b0];rw [aK g1,aU,aF g0 g1,hx];simp only [iV hk,aJ];rw [eL (by omega),eL (by rw [aP];omega),eL (by rw [aP,aP];omega),eL (by rw [aP,aP,aP];omega),eL (by rw [aP,aP,aP,aP];omega),eL (by rw [aP,aP,aP,aP,aP];omega),aC (n:=i+1) (by omega) (by omega)];have e:s++ix (x.1.size:Int)++x.1++ix x.2.1++ix x.2.2.1++ix x.2.2.2.1++ix x.2.2.2.2.1=s++jl x:=by unfold jl kT;simp only [az]
    rw [e,ih];rw [show jA (x::rest)=jl x++jA rest from rfl,az]
theorem oc {k:Nat} (hk:2 ^ 50≤k) {h:Ty.d fV} (hl:h.2.2.1.length≤1073741824):dN.f k h=some (bz h,()):=by
 unfold dN.f dN.t bz;rw [qV hk hl,aJ];cases q:lF h with
 | false=>rfl
 | true =>
  obtain ⟨h1,h2⟩:=iT (lW q);have a:=bB h.1;have b:=bB h.2.1;have c:=bB (h.2.2.1.length:Int);rw [eQ,aI,sU hk (by simp),aJ,if_pos rfl];simp only [];refine (dG (L:=fun n i s=>dN.l0 k n s h.2.2.1 h.2.2.1.length i) (R:=fun r s=>some (sL (qc (s++jA r))++(s++jA r),())) (Ty.z a_) h.2.2.1 (fun i s=>(s.size:Int)≤21+43*i) (fun n s hs=>?_) (fun n i s x rest g0 g1 hx hr hs ih=>?_) (n:=k) (s:=dq [h.1,h.2.1,(h.2.2.1.length:Int)]) (by omega) (by simp only [dq,aP];rw [show (⟨#[]⟩:ByteArray).size=0 from rfl];omega)).trans (by unfold qo;simp only [dq,az,hO,pz])
  · have hc:=vQ s;simp only [dN.l0,dN.b0];rw [aN (by omega),aI,uv hk (by omega),aJ];simp only [];rw [rt hk hc.1 hc.2,aJ];simp only [];rw [eL (by rw [show (sL (qc s)).size=4 from rfl];omega),show jA []=⟨#[]⟩ from rfl,hO]
  · have hm:x ∈ h.2.2.1:=by rw [← hx];exact fv (by omega)
    have hz:=(h2 x hm).1.2;have ht:=tV (e:=x);have v1:=bB (x.1.size:Int);have v2:=bB x.2.1;have v3:=bB x.2.2.1;have v4:=bB x.2.2.2.1;have v5:=bB x.2.2.2.2.1;have ih:=ih (s++jl x) (by have:=tV (e:=x);rw [aP];omega);have e:kT x.1++dq [x.2.1,x.2.2.1,x.2.2.2.1,x.2.2.2.2.1]=jl x:=by unfold jl;simp only [dq,hO]
    simp only [dN.l0,dN.b0];rw [aK g1,aU,aF g0 g1,hx,mQ hk (by omega),aJ,sU hk (by simp),aJ];simp only [];have hts:(kT x.1).size+(dq [x.2.1,x.2.2.1,x.2.2.2.1,x.2.2.2.2.1]).size≤100:=by rw [← aP,e];omega
    rw [eL (by omega),e,eL (by omega),aC (n:=i+1) (by omega) (by omega),ih,show jA (x::rest)=jl x++jA rest from rfl,az]
def ol (x y:Ty.d a_):Bool:=(seq x.1 y.1)&&((x.2.1==y.2.1)&&((x.2.2.1==y.2.2.1)&&((x.2.2.2.1==y.2.2.2.1)&&(x.2.2.2.2.1==y.2.2.2.2.1))))
def sH:aX→aX→Bool
 | [],[]=>true
 | x::l,y::m=>ol x y&&sH l m
 | _,_=>false
theorem FZ {x y:Ty.d a_}:ol x y=true↔x=y:=by
 unfold ol;simp only [lP,beq_iff_eq,dT];constructor
 · rintro ⟨h1,h2,h3,h4,h5⟩
   obtain ⟨a,b,c,d,e,_⟩:=x;obtain ⟨a',b',c',d',e',_⟩:=y;simp only at h1 h2 h3 h4 h5;subst h1 h2 h3 h4 h5;rfl
 · rintro rfl;exact ⟨rfl,rfl,rfl,rfl,rfl⟩
theorem Br:∀ {l m:aX},sH l m=true↔l=m
 | [],[]=>⟨fun _=>rfl,fun _=>rfl⟩
 | [],y::m=>⟨fun h=>(by cases h),fun h=>(by cases h)⟩
 | x::l,[]=>⟨fun h=>(by cases h),fun h=>(by cases h)⟩
 | x::l,y::m=>by unfold sH;rw [lP,FZ,Br,List.cons.injEq]
theorem C7:∀ {l m:aX},l.length≠m.length→sH l m=false:=fun {l m} h=>by
 cases c:sH l m with
 | false=>rfl
 | true=>rw [Br.1 c] at h;exact absurd rfl h
theorem p6 {α:Type} {l:List α} {i:Nat} (z:α) (h:i<l.length):l.drop i=l.getD i z::l.drop (i+1):=by rw [List.drop_eq_getElem_cons h];simp [List.getD,h]
theorem AL {k:Nat} (hk:2 ^ 50≤k) {l m:aX} (hl:l.length≤1073741824):gG.f k l m=some (sH l m,()):=by
 unfold gG.f gG.t;by_cases hne:l.length=m.length
 · rw [show ((l.length:Int) != (m.length:Int))=false by rw [hne];simp,aI];refine (Ir (L:=fun n i (_:Unit)=>gG.l0 k n l m i) (R:=fun i _=>some (sH (l.drop i.toNat) (m.drop i.toNat),())) l.length (fun _ _=>True) (fun n _ _=>?_) (fun n i _ h0 h1 _ ih=>?_) k 0 () (by omega) (by omega) (by omega) trivial).trans (by simp)
   · simp only [gG.l0,gG.b0];rw [aN (by omega),aI,p5,List.drop_length,hne,List.drop_length];rfl
   · have ih:=ih () trivial;have c1:i.toNat<l.length:=by omega
     simp only [gG.l0,gG.b0];rw [aK h1,aU,aF h0 h1,aF h0 (by omega),aC (n:=i+1) (by omega) (by omega),ih,p6 (Ty.z a_) c1,p6 (Ty.z a_) (l:=m) (i:=i.toNat) (by omega),show (i+1).toNat=i.toNat+1 by omega];show _=some (ol _ _&&sH _ _,());show (bif !(ol (l.getD i.toNat (Ty.z a_)) (m.getD i.toNat (Ty.z a_))) then _ else _)=_;cases ol (l.getD i.toNat (Ty.z a_)) (m.getD i.toNat (Ty.z a_)) <;> rfl
 · rw [show ((l.length:Int) != (m.length:Int))=true from bne_iff_ne.2 (by omega),aU,C7 hne]
theorem An {k:Nat} (hk:2 ^ 50≤k) {l m:aX} (hl:l.length≤1073741824):gD.f k l m=some (sH l m,()):=by
 unfold gD.f gD.t;by_cases hne:l.length=m.length
 · rw [show ((l.length:Int) != (m.length:Int))=false by rw [hne];simp,aI];refine (Ir (L:=fun n i (_:Unit)=>gD.l0 k n l m l.length i) (R:=fun i _=>some (sH (l.drop i.toNat) (m.drop i.toNat),())) l.length (fun _ _=>True) (fun n _ _=>?_) (fun n i _ h0 h1 _ ih=>?_) k 0 () (by omega) (by omega) (by omega) trivial).trans (by simp)
   · simp only [gD.l0,gD.b0];rw [aN (by omega),aI,p5,List.drop_length,hne,List.drop_length];rfl
   · have ih:=ih () trivial;have c1:i.toNat<l.length:=by omega
     simp only [gD.l0,gD.b0];rw [aK h1,aU,aF h0 h1,aF h0 (by omega),aC (n:=i+1) (by omega) (by omega),ih,p6 (Ty.z a_) c1,p6 (Ty.z a_) (l:=m) (i:=i.toNat) (by omega),show (i+1).toNat=i.toNat+1 by omega];show _=some (ol _ _&&sH _ _,());show (bif !(ol (l.getD i.toNat (Ty.z a_)) (m.getD i.toNat (Ty.z a_))) then _ else _)=_;cases ol (l.getD i.toNat (Ty.z a_)) (m.getD i.toNat (Ty.z a_)) <;> rfl
 · rw [show ((l.length:Int) != (m.length:Int))=true from bne_iff_ne.2 (by omega),aU,C7 hne]
def pW (mark:Int) (p:Option (Ty.d bU)) (x:Ty.d bU):Bool :=
 (x.2.2.1.1==4)&&(!decide ((x.2.2.1.2.1:Int) > mark)&&(match p with | none=>true | some y=>ox y.2.2.1.2.2.1 x.2.2.1.2.2.1))
def Ih (id:Int) (x:Ty.d bU):Ty.d a_:=(x.2.2.1.2.2.1,(id,(x.1,(x.2.1,(x.2.2.1.2.1,())))))
noncomputable def gL (id:Int) (s:ByteArray):Ty.d fV × Bool :=
 bif (cL s).2 != (s.size:Int) then (od,false) else bif (cL s).1.length==0 then (od,false) else
 bif ((cL s).1.getD ((cL s).1.length-1) (Ty.z bU)).2.2.1.1 != 5 then (od,false) else
 bif !decide ((1:Int)≤id∧id≤100000) then (od,false) else
 bif !sD (pW ((cL s).1.getD ((cL s).1.length-1) (Ty.z bU)).2.2.1.2.1) none ((cL s).1.take ((cL s).1.length-1)) then (od,false) else
 bif !nH ((cL s).1.getD ((cL s).1.length-1) (Ty.z bU)).2.2.1 (ic id ((cL s).1.take ((cL s).1.length-1))) then (od,false) else
 (((s.size:Int),(((cL s).1.getD ((cL s).1.length-1) (Ty.z bU)).2.2.1.2.1,(((cL s).1.take ((cL s).1.length-1)).map (Ih id),()))),true)
theorem yI (id:Int):seq (aB aO id) ⟨#[]⟩=!decide ((1:Int)≤id∧id≤100000):=by
 by_cases h:(1:Int)≤id∧id≤100000
 · rw [aK h];have e:aB aO id=aO++hZ id:=by unfold aB;rw [aK h];rfl
   rw [e,n8 fun q=>?_]
   · rfl
   · have:=congrArg ByteArray.size q;rw [aP] at this;have s3:aO.size=3:=rfl;have s0:(⟨#[]⟩:ByteArray).size=0:=rfl;omega
 · rw [aN h];have e:aB aO id=⟨#[]⟩:=by unfold aB;rw [aN h];rfl
   rw [e,cZ];rfl
theorem uE {k:Nat} (hk:2 ^ 50≤k) (id:Int) {s:ByteArray} (hs:s.size≤1073741823):f8.f k id s=some ((gL id s).1,((gL id s).2,())):=by
 have hln:=kS s;unfold f8.f f8.t gL;rw [oP hk (by omega),aJ];simp only [];generalize cL s=sc at hln ⊢;obtain ⟨l,en⟩:=sc;simp only at hln ⊢;cases en != (s.size:Int) with
 | true=>rfl
 | false =>
  simp only [aI];by_cases h0:l.length=0
  · rw [show ((l.length:Int)==0)=true by rw [h0];rfl,show (l.length==0)=true by rw [h0];rfl];rfl
  · rw [show ((l.length:Int)==0)=false from n_ (by omega),show (l.length==0)=false from n_ h0];simp only [aI];have w1:aH ((l.length:Int)-1)=((l.length-1:Nat):Int):=by rw [aC (by omega) (by omega)];omega
    rw [w1,p5,aF (by omega) (by omega),aF (by omega) (by omega)];generalize hm:l.getD (l.length-1) (Ty.z bU)=m;cases m.2.2.1.1 != 5 with
    | true=>rfl
    | false =>
     simp only [aI];rw [c8 hk,aJ];simp only [yI];cases decide ((1:Int)≤id∧id≤100000) with
     | false=>rfl
     | true =>
      simp only [eQ,aI];have hpl:(l.take (l.length-1)).length=l.length-1:=by rw [List.length_take];omega
      refine (qU (L:=fun n i=>f8.l0 k n id i [] 0 0 l ((l.take i.toNat).map (Ih id)) (s.size:Int) m.2.2.1.2.1 ((l.take i.toNat).map fun x=>x.2.2.1)) (Ty.z bU) (l.take (l.length-1)) (pW m.2.2.1.2.1)
       (bif !nH m.2.2.1 (ic id (l.take (l.length-1))) then some (od,(false,())) else some (((s.size:Int),(m.2.2.1.2.1,((l.take (l.length-1)).map (Ih id),()))),(true,()))) (some (od,(false,()))) (fun n=>?_) (fun n x h hx=>?_) (fun n i x y h0 h1 hx hy=>?_) (n:=k) (by omega)).trans (by
        cases sD (pW m.2.2.1.2.1) none (l.take (l.length-1)) <;> cases nH m.2.2.1 (ic id (l.take (l.length-1))) <;> rfl)
      · simp only [f8.l0,f8.b0];rw [hpl,p5,aC (n:=((l.length-1:Nat):Int)+1) (by omega) (by omega),aN (by omega),aI,w1,p5,aF (by omega) (by omega),hm,rI hk (by rw [List.length_map,hpl];omega),aJ,List.length_map,hpl];unfold nH ic bne;rw [List.length_map,hpl,List.map_map];show (bif !(m.2.2.1.2.2.2.2.1==((l.length-1:Nat):Int)) then _ else bif !(m.2.2.1.2.2.2.2.2.1==EM ((l.take (l.length-1)).map fun x=>x.2.2.1)) then _ else _)=bif !((m.2.2.1.2.2.2.2.1==((l.length-1:Nat):Int))&&(m.2.2.1.2.2.2.2.2.1==EM ((l.take (l.length-1)).map fun x=>x.2.2.1))) then _ else _;cases m.2.2.1.2.2.2.2.1==((l.length-1:Nat):Int) <;> cases m.2.2.1.2.2.2.2.2.1==EM ((l.take (l.length-1)).map fun x=>x.2.2.1) <;> rfl
      · rw [hpl] at h;have hx':l.getD 0 (Ty.z bU)=x:=by rw [← hx,show Int.toNat 0=0 from rfl,m7 (by omega)]
        simp only [f8.l0,f8.b0];rw [aC (n:=(0:Int)+1) (by omega) (by omega),aK (by omega),aU,aF (by omega) (by omega),show Int.toNat 0=0 from rfl,hx',aN (show ¬ (0:Int) > 0 by omega),aI,b7 (by simp) (by decide),aF (by omega) (by omega),aF (by omega) (by omega),b7 (by simp) (by decide),show Int.toNat 1=0+1 from rfl,kY (z:=Ty.z bU) (show 0<l.length by omega),hx'];simp only [pW,bne];cases x.2.2.1.1==4 <;> cases decide ((x.2.2.1.2.1:Int) > m.2.2.1.2.1) <;> rfl
      · rw [hpl] at h1;have hx':l.getD i.toNat (Ty.z bU)=x:=by rw [← hx,m7 (by omega)]
        have hy':l.getD (i-1).toNat (Ty.z bU)=y:=by rw [← hy,m7 (by omega)]
        simp only [f8.l0,f8.b0];rw [aC (n:=i+1) (by omega) (by omega),aK (by omega),aU,aF (by omega) (by omega),hx',aK (show i > 0 by omega),aC (n:=i-1) (by omega) (by omega),aF (by omega) (by omega),hy',nk,b7 (by rw [List.length_map,List.length_take];omega) (by decide),aF (by omega) (by omega),aF (by omega) (by omega),b7 (by rw [List.length_map,List.length_take];omega) (by decide),show (i+1).toNat=i.toNat+1 by omega,kY (z:=Ty.z bU) (show i.toNat<l.length by omega),hx',List.map_append,List.map_append];simp only [pW,bne];cases x.2.2.1.1==4 <;> cases decide ((x.2.2.1.2.1:Int) > m.2.2.1.2.1) <;> cases ox y.2.2.1.2.2.1 x.2.2.1.2.2.1 <;> rfl
theorem uT {k:Nat} (hk:2 ^ 50≤k) (id:Int) {s:ByteArray} (hs:s.size≤1073741823):eu.f k id s=some ((gL id s).1,((gL id s).2,())):=by
 have hln:=kS s;unfold eu.f eu.t gL;rw [tE hk (by omega),aJ];simp only [];generalize cL s=sc at hln ⊢;obtain ⟨l,en⟩:=sc;simp only at hln ⊢;have w0:aH ((l.length:Int)-1)=(l.length:Int)-1:=aC (by omega) (by omega);by_cases h0:l.length=0
 · rw [w0,aK (by omega),aU,show (l.length==0)=true by rw [h0];rfl];cases en != (s.size:Int) <;> rfl
 · rw [w0,aN (by omega),aI,show (l.length==0)=false from n_ h0];cases he:en != (s.size:Int) with
   | true=>rfl
   | false =>
    have hen:en=(s.size:Int):=by
     cases q:en==(s.size:Int) with
     | true=>exact Aw q
     | false=>unfold bne at he;rw [q] at he;cases he
    simp only [aI];have w1:(l.length:Int)-1=((l.length-1:Nat):Int):=by omega
    rw [iq,aJ];simp only [];rw [w1,p5,aF (by omega) (by omega),aF (by omega) (by omega),bv (by omega) (by omega),aF (by omega) (by omega),bv (by omega) (by omega)];generalize hm:l.getD (l.length-1) (Ty.z bU)=m;have hpl:(l.take (l.length-1)).length=l.length-1:=by rw [List.length_take];omega
    rw [uJ hk id (by omega),aJ];simp only [];rw [sO hk _ (by unfold ic;rw [List.length_map];omega),aJ];simp only [];cases decide ((1:Int)≤id∧id≤100000) with
    | false=>cases m.2.2.1.1 != 5 <;> rfl
    | true =>
     cases m.2.2.1.1 != 5 with
     | true=>rfl
     | false =>
      simp only [eQ,aI];cases nH m.2.2.1 (ic id (l.take (l.length-1))) with
      | false=>cases sD (pW m.2.2.1.2.1) none (l.take (l.length-1)) <;> rfl
      | true =>
       simp only [eQ,aI];refine (qU (L:=fun n i=>eu.l0 k n id l (l.take (l.length-1)) (l.take (l.length-1)).length i [] 0 0 ((l.take i.toNat).map (Ih id)) en m.2.2.1.2.1) (Ty.z bU) (l.take (l.length-1)) (pW m.2.2.1.2.1)
        (some (((s.size:Int),(m.2.2.1.2.1,((l.take (l.length-1)).map (Ih id),()))),(true,()))) (some (od,(false,()))) (fun n=>?_) (fun n x h hx=>?_) (fun n i x y h0 h1 hx hy=>?_) (n:=k) (by omega)).trans (by
         cases sD (pW m.2.2.1.2.1) none (l.take (l.length-1)) <;> rfl)
       · simp only [eu.l0,eu.b0];rw [hpl,p5,aN (by omega),aI,hen]
       · have h':=h;rw [hpl] at h';have hx':l.getD 0 (Ty.z bU)=x:=by rw [← hx,show Int.toNat 0=0 from rfl,m7 (by omega)]
         simp only [eu.l0,eu.b0];rw [aK (by omega),aU,aF (by omega) (by omega),hx,aN (show ¬ (0:Int) > 0 by omega),aI,b7 (by simp) (by decide),aC (n:=(0:Int)+1) (by omega) (by omega),show Int.toNat 1=0+1 from rfl,kY (z:=Ty.z bU) (show 0<l.length by omega),hx'];simp only [pW,bne];cases x.2.2.1.1==4 <;> cases decide ((x.2.2.1.2.1:Int) > m.2.2.1.2.1) <;> rfl
       · have h1':=h1;rw [hpl] at h1';have hx':l.getD i.toNat (Ty.z bU)=x:=by rw [← hx,m7 (by omega)]
         have hy':l.getD (i-1).toNat (Ty.z bU)=y:=by rw [← hy,m7 (by omega)]
         simp only [eu.l0,eu.b0];rw [aK h1,aU,aF (by omega) (by omega),hx,aK (show i > 0 by omega),aC (n:=i-1) (by omega) (by omega),aF (by omega) (by omega),hy',b7 (by rw [List.length_map,List.length_take];omega) (by decide),aC (n:=i+1) (by omega) (by omega),show (i+1).toNat=i.toNat+1 by omega,kY (z:=Ty.z bU) (show i.toNat<l.length by omega),hx',List.map_append];simp only [pW,bne];cases x.2.2.1.1==4 <;> cases decide ((x.2.2.1.2.1:Int) > m.2.2.1.2.1) <;> cases ox y.2.2.1.2.2.1 x.2.2.1.2.2.1 <;> rfl
noncomputable def mu (id:Int) (s:ByteArray) (h:Ty.d fV):Bool:=(gL id s).2&&(((gL id s).1.1==h.1)&&(((gL id s).1.2.1==h.2.1)&&sH (gL id s).1.2.2.1 h.2.2.1))
theorem v8 (id:Int) {s:ByteArray} (hs:s.size≤1073741823):(gL id s).1.2.2.1.length≤1073741824:=by
 have hln:=kS s;unfold gL;generalize cL s=sc at hln ⊢;obtain ⟨l,en⟩:=sc;simp only at hln ⊢;cases en != (s.size:Int)
 · cases l.length==0
   · cases (l.getD (l.length-1) (Ty.z bU)).2.2.1.1 != 5
     · cases !decide ((1:Int)≤id∧id≤100000)
       · cases !sD (pW (l.getD (l.length-1) (Ty.z bU)).2.2.1.2.1) none (l.take (l.length-1))
         · cases !nH (l.getD (l.length-1) (Ty.z bU)).2.2.1 (ic id (l.take (l.length-1)))
           · show ((l.take (l.length-1)).map (Ih id)).length≤1073741824;rw [List.length_map,List.length_take];omega
           · exact Nat.zero_le _
         · exact Nat.zero_le _
       · exact Nat.zero_le _
     · exact Nat.zero_le _
   · exact Nat.zero_le _
 · exact Nat.zero_le _
theorem yC {k:Nat} (hk:2 ^ 50≤k) (id:Int) {s:ByteArray} (hs:s.size≤1073741823) (h:Ty.d fV):ig.f k id s h=some (mu id s h,()):=by have hl:=v8 id hs;unfold ig.f ig.t mu;rw [uE hk id hs,aJ];simp only [];rw [AL hk hl,aJ];cases (gL id s).2 <;> cases (gL id s).1.1==h.1 <;> cases (gL id s).1.2.1==h.2.1 <;> rfl
theorem yG {k:Nat} (hk:2 ^ 50≤k) (id:Int) {s:ByteArray} (hs:s.size≤1073741823) (h:Ty.d fV):jJ.f k id s h=some (mu id s h,()):=by have hl:=v8 id hs;unfold jJ.f jJ.t mu;rw [uT hk id hs,aJ];simp only [];rw [An hk hl,aJ];cases (gL id s).2 <;> cases (gL id s).1.1==h.1 <;> cases (gL id s).1.2.1==h.2.1 <;> rfl
end Go.Proofs.YtijlgdoiofdmhaaGreatDoor.G
namespace Go.V
def nW {α:Type} (o:Option α) (P:α→Prop):Prop:=∃ r,o=some r∧P r
section
variable {α β:Type} {P P':α→Prop} {Q:β→Prop}
theorem fB {r:α} (h:P r):nW (some r) P:=⟨r,rfl,h⟩
theorem tM {o:Option α} {r:α} (e:o=some r) (h:P r):nW o P:=⟨r,e,h⟩
theorem NN {o:Option α} {r:α} (h:nW o (fun x=>x=r)):o=some r:=by obtain ⟨x,e,rfl⟩:=h;exact e
theorem qu {o:Option α} (h:nW o P) (hp:∀ r,P r→P' r):nW o P':=by obtain ⟨r,e,hr⟩:=h;exact ⟨r,e,hp r hr⟩
theorem cY {o:Option α} {g:α→Option β} (h:nW o P) (hg:∀ r,P r→nW (g r) Q):nW (Option.bind o g) Q:=by obtain ⟨r,e,hr⟩:=h;rw [e];exact hg r hr
theorem mo {o:Option α} {r:α} {g:α→Option β} (e:o=some r) (hg:nW (g r) Q):nW (Option.bind o g) Q:=by rw [e];exact hg
theorem ib {b:Bool} {x y:Option α} (h1:b=true→nW x P) (h2:b=false→nW y P):nW (bif b then x else y) P:=by
 cases b
 · exact h2 rfl
 · exact h1 rfl
theorem ow {b:Bool} {x y:Option α} (hb:b=true) (h:nW x P):nW (bif b then x else y) P:=by rw [hb];exact h
theorem nS {b:Bool} {x y:Option α} (hb:b=false) (h:nW y P):nW (bif b then x else y) P:=by rw [hb];exact h
theorem yQ {i n:Int} {x:Option α} (h0:0≤i) (h1:i<n) (h:nW x P):nW (b9 i n x) P:=by rw [aF h0 h1];exact h
theorem Cj {i n:Int} {x:Option α} (h0:0≤i) (h1:i≤n) (h:nW x P):nW (oh i n x) P:=by rw [bv h0 h1];exact h
theorem wz {b n:Nat} {x:Option α} (h0:n≤1099511627776) (hb:b≤128) (h:nW x P):nW (rm b n x) P:=by rw [b7 h0 hb];exact h
end
end Go.V
namespace Go.Proofs.YtijlgdoiofdmhaaGreatDoor.G
open Go.V
noncomputable def gV (s:ByteArray):Ty.d fV × Bool:=qN (fun h=>lF h=true) bz od s
def RH (s:ByteArray) (o:Option (Ty.d fV × Bool × Unit)):Prop:=(∃ h,lF h=true∧bz h=s∧o=some (h,(true,())))∨o=some (od,(false,()))
theorem yl (s:ByteArray):RH s (some (od,(false,()))) := .inr rfl
theorem H4 {s:ByteArray} (hs:4≤s.size) (h:Ty.d fV):RH s (bif !seq (bz h) s then some (od,(false,())) else some (h,(true,()))):=by
 cases c:seq (bz h) s with
 | false=>exact .inr rfl
 | true =>
  have e:=dT.1 c;refine .inl ⟨h,?_,e,rfl⟩;cases q:lF h with
  | true=>rfl
  | false =>unfold bz at e;rw [if_neg (by rw [q];decide)] at e;rw [← e] at hs;exact absurd hs (by decide)
theorem Ja {k:Nat} (hk:2 ^ 50≤k) {s:ByteArray} (hs:s.size≤1073741824) {m:Int} (h0:0≤m) (hm:m≤4):∀ (d n:Nat) (pos j:Int) (out:List Int),j+(d:Int)=m→0≤j→d<n→0≤pos→pos≤s.size→(out.length:Int)=j →
 nW (c_.l0 k n s pos m j out) (fun r=>(r.2.1 = -1∨(pos≤r.2.1∧r.2.1≤(s.size:Int)))∧(r.1.length:Int)=m):=by
 intro d
 induction d with
 | zero =>intro n pos j out h1 h2 hn h3 h4 h5;obtain ⟨n,rfl⟩:∃ q,n=q+1:=⟨n-1,by omega⟩;simp only [c_.l0,c_.b0];exact nS (aN (by omega)) (fB ⟨.inr ⟨Int.le_refl _,h4⟩,by show (out.length:Int)=m;omega⟩)
 | succ d ih =>
  intro n pos j out h1 h2 hn h3 h4 h5;obtain ⟨n,rfl⟩:∃ q,n=q+1:=⟨n-1,by omega⟩;have hr:=Cc (ByteArray.extract s pos.toNat s.size);rw [rE] at hr;simp only [c_.l0,c_.b0];refine ow (aK (by omega)) (Cj h3 h4 (mo (gZ hk _) ?_));generalize Gs (rv 7 (nb (ByteArray.extract s pos.toNat s.size)))=r at hr;refine ib (fun _=>?_) (fun _=>?_)
  · rw [xE h0 (by omega) (by decide)];exact fB ⟨.inl rfl,by show ((List.replicate m.toNat _).length:Int)=m;rw [List.length_replicate];omega⟩
  · rw [aC (n:=pos+r.2.1) (by omega) (by omega),aC (n:=j+1) (by omega) (by omega)];refine wz (by omega) (by decide) (qu (ih n (pos+r.2.1) (j+1) (out++[r.1]) (by omega) (by omega) (by omega) (by omega) (by omega) (by rw [bK];omega)) fun x hx=>⟨?_,hx.2⟩);rcases hx.1 with q | q
    · exact .inl q
    · exact .inr ⟨by omega,q.2⟩
theorem F7 {k:Nat} (hk:2 ^ 50≤k) {s:ByteArray} (hs:s.size≤1073741824) {m pos:Int} (h0:0≤m) (hm:m≤4) (h1:0≤pos) (h2:pos≤s.size) :
 nW (c_.f k s pos m) (fun r=>(r.2.1 = -1∨(pos≤r.2.1∧r.2.1≤(s.size:Int)))∧(r.1.length:Int)=m):=by
 unfold c_.f c_.t;exact Ja hk hs h0 hm m.toNat k pos 0 [] (by omega) (by omega) (by omega) h1 h2 rfl
def E8 (x:Int):Prop:=0≤x∧x≤1000000
theorem qF {x:Int} (h:E8 x):∃ n:Nat,n<562949953421312∧x=(n:Int)∧ix x=bJ n:=by obtain ⟨n,rfl⟩:=Int.eq_ofNat_of_zero_le h.1;have:=h.2;exact ⟨n,by omega,rfl,du (by omega)⟩
theorem EN {k:Nat} (hk:2 ^ 50≤k) {m:Int} (hm:m≤4):∀ (xs:List Int) (pre t:ByteArray) (n:Nat) (j:Int) (out:List Int),(∀ x ∈ xs,E8 x)→j+(xs.length:Int)=m→0≤j→xs.length<n→(out.length:Int)≤j→pre.size+((dq xs).size+t.size)≤1073741824 →
 c_.l0 k n (pre++(dq xs++t)) (pre.size:Int) m j out=some (out++xs,(((pre.size+(dq xs).size:Nat):Int),()))
 | [],pre,t,n,j,out,hx,h1,h2,hn,h3,hz=>by obtain ⟨n,rfl⟩:∃ q,n=q+1:=⟨n-1,by omega⟩;simp only [List.length_nil] at h1;simp only [c_.l0,c_.b0];rw [aN (by omega),aI,List.append_nil];rfl
 | x::xs,pre,t,n,j,out,hx,h1,h2,hn,h3,hz=>by
  obtain ⟨n,rfl⟩:∃ q,n=q+1:=⟨n-1,by omega⟩;obtain ⟨a,ha,rfl,hv⟩:=qF (hx x (sM ..));have hva:=ap a;rw [lq] at h1 hn;have e1:dq ((a:Int)::xs)=bJ a++dq xs:=by rw [dq,hv]
  rw [e1,aP] at hz;rw [e1];have e2:pre++(bJ a++dq xs++t)=pre++bJ a++(dq xs++t):=by simp only [az]
  have ih:=EN hk hm xs (pre++bJ a) t n (j+1) (out++[(a:Int)]) (fun y hy=>hx y (wW _ hy)) (by omega) (by omega) (by omega) (by rw [bK];omega) (by rw [aP];omega);simp only [c_.l0,c_.b0];rw [aK (by omega),aU,bv (by omega) (by rw [aP];omega),p5,gO,az,dJ hk ha,aJ];simp only [];rw [show (((bJ a).size:Int)==0)=false from n_ (by omega),aI,b7 (by omega) (by decide),vq,aC (by omega) (by omega),aC (n:=j+1) (by omega) (by omega)];rw [aP] at ih;rw [← az pre,ih,py,aP,Nat.add_assoc];rfl
theorem Hf {k:Nat} (hk:2 ^ 50≤k) {xs:List Int} (pre t:ByteArray) (hx:∀ x ∈ xs,E8 x) (hl:xs.length≤4) (hz:pre.size+((dq xs).size+t.size)≤1073741824) :
 c_.f k (pre++(dq xs++t)) (pre.size:Int) (xs.length:Int)=some (xs,(((pre.size+(dq xs).size:Nat):Int),())):=by
 unfold c_.f c_.t;exact EN hk (by omega) xs pre t k 0 [] hx (by omega) (by omega) (by omega) (by simp) hz
theorem OS {k:Nat} (hk:2 ^ 50≤k) {s:ByteArray} (hs:s.size≤1073741824):nW (dE.f k s) (fun r=>r.2.1.size≤s.size):=by
 rcases pQ s with ⟨u,t,hu,rfl⟩ | h
 · rw [aP,aP] at hs;exact tM (xO hk hu (by rw [aP];omega)) (by show t.size≤_;rw [aP,aP];omega)
 · exact tM (zD hk (by omega) h) (Nat.zero_le _)
theorem F3 {k:Nat} (hk:2 ^ 50≤k) {s:ByteArray} (h4:4≤s.size) (hs:s.size≤1073741824) (z:aX) (z1 z2 a b:Int) {xs:List Int} (hx:xs.length=3) (hc:xs.getD 2 (Ty.z (.int .i64))≤(20:Int)):∀ (d n:Nat) (pos j:Int) (out:aX),j+(d:Int)=20→0≤j→d<n→0≤pos→pos≤s.size→(out.length:Int)≤j →
 RH s (bd.l0 k n s pos j z z1 z2 xs out a b):=by
 intro d
 induction d with
 | zero =>intro n pos j out h1 h2 hn h3 h5 h6;obtain ⟨n,rfl⟩:∃ q,n=q+1:=⟨n-1,by omega⟩;simp only [bd.l0,bd.b0];rw [aF (by omega) (by omega),aN (show ¬ j<xs.getD 2 (Ty.z (.int .i64)) by omega),aI,mW hk,aJ];exact H4 h4 _
 | succ d ih =>
  intro n pos j out h1 h2 hn h3 h5 h6;obtain ⟨n,rfl⟩:∃ q,n=q+1:=⟨n-1,by omega⟩;have hz:=rE s pos.toNat;simp only [bd.l0,bd.b0];rw [aF (by omega) (by omega)];by_cases c:j<xs.getD 2 (Ty.z (.int .i64))
  · rw [aK c,aU,bv h3 h5];obtain ⟨r2,e2,q2⟩:=OS hk (s:=ByteArray.extract s pos.toNat s.size) (by omega);rw [e2,aJ];obtain ⟨r3,e3,q3,q4⟩:=F7 hk (s:=r2.2.1) (m:=4) (pos:=0) (by omega) (by omega) (by omega) (by omega) (by omega);rw [e3,aJ];cases r2.2.2.1 with
    | false=>exact yl s
    | true =>
     simp only [eQ,aI];by_cases c3:r3.2.1<0
     · rw [aK c3];exact yl s
     · rw [aN c3,aI,aF (by omega) (by omega),aF (by omega) (by omega),aF (by omega) (by omega),aF (by omega) (by omega),b7 (by omega) (by decide),aC (n:=(s.size:Int)-(r2.2.1.size:Int)) (by omega) (by omega),aC (n:=(s.size:Int)-(r2.2.1.size:Int)+r3.2.1) (by omega) (by omega),aC (n:=j+1) (by omega) (by omega)];exact ih n _ (j+1) _ (by omega) (by omega) (by omega) (by omega) (by omega) (by rw [bK];omega)
  · rw [aN c,aI,mW hk,aJ];exact H4 h4 _
theorem H1 {k:Nat} (hk:2 ^ 50≤k) {s:ByteArray} (hs:s.size≤1073741824):RH s (bd.f k s):=by
 unfold bd.f bd.t;by_cases h4:(s.size:Int)<4
 · rw [aK h4];exact yl s
 · rw [aN h4,aI];obtain ⟨r,e,q1,q2⟩:=F7 hk (s:=s) (m:=3) (pos:=4) hs (by omega) (by omega) (by omega) (by omega);rw [e,aJ];by_cases c1:r.2.1<0
   · rw [aK c1];exact yl s
   · rw [aN c1,aI,aF (by omega) (by omega)];by_cases c2:r.1.getD 2 (Ty.z (.int .i64)) > (20:Int)
     · rw [aK c2];exact yl s
     · rw [aN c2,aI,aF (by omega) (by omega),aF (by omega) (by omega)];exact F3 hk (by omega) hs [] 0 0 _ _ (by omega) (Int.not_lt.1 c2) 20 k r.2.1 0 [] (by omega) (by omega) (by omega) (by omega) (by omega) (by simp)
theorem Ed {e:Ty.d a_} {l:aX} (hl:rk l=true) (ho:xL l=true) (he:e ∈ l):∀ x ∈ [(e.2.1:Int),e.2.2.1,e.2.2.2.1,e.2.2.2.2.1],E8 x:=by
 obtain ⟨_,q⟩:=iT hl;obtain ⟨_,⟨a1,a2⟩,b1,⟨c1,c2⟩,⟨d1,d2⟩⟩:=q e he;have h2:=List.all_eq_true.1 ho e he;unfold C6 at h2;rw [lP] at h2;have b2:LE.le (α:=Int) e.2.2.1 100000:=by
  refine Int.not_lt.1 fun w=>?_
  have:(!decide ((e.2.2.1:Int) > 100000))=false:=by rw [aK w];rfl
  rw [this] at h2;cases h2.2
 intro x hx;simp only [List.mem_cons,List.not_mem_nil,or_false] at hx;rcases hx with rfl | rfl | rfl | rfl
 · exact ⟨by omega,by omega⟩
 · exact ⟨b1,by omega⟩
 · exact ⟨by omega,by omega⟩
 · exact ⟨by omega,d2⟩
theorem CG (e:Ty.d a_) (h:e.1.size≤8) (t:ByteArray):jl e++t=bJ e.1.size++(e.1++(dq [(e.2.1:Int),e.2.2.1,e.2.2.2.1,e.2.2.2.2.1]++t)):=by unfold jl kT;rw [du (by omega)];simp only [dq,hO,az]
theorem yc {k:Nat} (hk:2 ^ 50≤k) {h:Ty.d fV} (q:lF h=true) (z:aX) (z1 z2:Int):∀ (r:aX) (pre:ByteArray) (n:Nat) (j:Int) (out:aX),(∀ e ∈ r,e ∈ h.2.2.1)→out++r=h.2.2.1→(out.length:Int)=j→r.length<n→bz h=pre++jA r→pre.size≤1000 →
 bd.l0 k n (bz h) (pre.size:Int) j z z1 z2 [(h.1:Int),h.2.1,(h.2.2.1.length:Int)] out h.1 h.2.1=some (h,(true,()))
 | [],pre,n,j,out,hr,ho,hj,hn,hs,hp=>by obtain ⟨n,rfl⟩:∃ q,n=q+1:=⟨n-1,by omega⟩;rw [List.append_nil] at ho;simp only [bd.l0,bd.b0];rw [aF (by omega) (by simp),show List.getD [(h.1:Int),h.2.1,(h.2.2.1.length:Int)] 2 (Ty.z (.int .i64))=(h.2.2.1.length:Int) from rfl,ho,aN (by rw [← hj,ho];omega),aI,show (h.1,(h.2.1,(h.2.2.1,())))=h from rfl,mW hk,aJ];simp only [cZ];rfl
 | e::r,pre,n,j,out,hr,ho,hj,hn,hs,hp=>by
  obtain ⟨n,rfl⟩:∃ q,n=q+1:=⟨n-1,by omega⟩;have hlen:h.2.2.1.length=out.length+(r.length+1):=by rw [← ho,sF,lq]
  have he:=hr e (sM ..);have hd:=lW q;have h1:xL h.2.2.1=true:=by unfold lF at q;rw [lP,lP,lP] at q;exact q.2.2.2
  have hk8:=((iT hd).2 e he).1.2;have h20:=(iT hd).1;have hnum:=Ed hd h1 he;have hz:=o7 h;have hf:=CG e hk8 (jA r);have hs2:bz h=pre++(bJ e.1.size++(e.1++(dq [(e.2.1:Int),e.2.2.1,e.2.2.2.1,e.2.2.2.2.1]++jA r))):=by rw [← hf];exact hs
  have hs3:bz h=(pre++jl e)++jA r:=by rw [az];exact hs
  have hsz:=congrArg ByteArray.size hs2;simp only [aP] at hsz;have hsz3:=congrArg ByteArray.size hs3;rw [aP,aP] at hsz3;have ih:=yc hk q z z1 z2 r (pre++jl e) n (j+1) (out++[e]) (fun x hx=>hr x (wW _ hx)) (by rw [py];exact ho) (by rw [bK];omega) (by rw [lq] at hn;omega) hs3 (by rw [aP];omega);have hv:=Hf hk (xs:=[(e.2.1:Int),e.2.2.1,e.2.2.2.1,e.2.2.2.2.1]) ⟨#[]⟩ (jA r) hnum (by simp) (by rw [e0];omega);rw [pz,e0] at hv;simp only [bd.l0,bd.b0];rw [aF (by omega) (by simp),show List.getD [(h.1:Int),h.2.1,(h.2.2.1.length:Int)] 2 (Ty.z (.int .i64))=(h.2.2.1.length:Int) from rfl,aK (by omega),aU,bv (by omega) (by omega),p5];have ex:ByteArray.extract (bz h) pre.size (bz h).size=bJ e.1.size++(e.1++(dq [(e.2.1:Int),e.2.2.1,e.2.2.2.1,e.2.2.2.2.1]++jA r)):=by rw [hs2,gO]
  rw [ex,xO hk (by omega) (by simp only [aP];omega),aJ];simp only [];rw [show c_.f k (dq [(e.2.1:Int),e.2.2.1,e.2.2.2.1,e.2.2.2.2.1]++jA r) 0 4=_ from hv,aJ];simp only [eQ,aI];rw [aN (by omega),aI,aF (by omega) (by simp),aF (by omega) (by simp),aF (by omega) (by simp),aF (by omega) (by simp),b7 (by omega) (by decide),aC (n:=j+1) (by omega) (by omega)];have hsv:(dq [(e.2.1:Int),e.2.2.1,e.2.2.2.1,e.2.2.2.2.1]++jA r).size=(dq [(e.2.1:Int),e.2.2.1,e.2.2.2.1,e.2.2.2.2.1]).size+(jA r).size:=aP _ _;have w:aH (aH (((bz h).size:Int)-((dq [(e.2.1:Int),e.2.2.1,e.2.2.2.1,e.2.2.2.2.1]++jA r).size:Int))+((0+(dq [(e.2.1:Int),e.2.2.1,e.2.2.2.1,e.2.2.2.2.1]).size:Nat):Int))=((pre++jl e).size:Int):=by have hpe:=aP pre (jl e);rw [aC (n:=((bz h).size:Int)-_) (by omega) (by omega),aC (by omega) (by omega)];omega
  rw [w];exact ih
theorem Bt {h:Ty.d fV} (q:lF h=true):∀ x ∈ [(h.1:Int),h.2.1,(h.2.2.1.length:Int)],E8 x:=by
 have h20:=(iT (lW q)).1;unfold lF at q;rw [lP,lP,decide_eq_true_eq,decide_eq_true_eq] at q;obtain ⟨⟨a1,a2⟩,⟨b1,b2⟩,_⟩:=q;intro x hx;simp only [List.mem_cons,List.not_mem_nil,or_false] at hx;rcases hx with rfl | rfl | rfl
 · exact ⟨a1,by have:LE.le (α:=Int) h.1 100000:=a2;omega⟩
 · exact ⟨b1,b2⟩
 · exact ⟨by omega,by omega⟩
theorem uR {h:Ty.d fV} (q:lF h=true):bz h=sL (qc (qo h))++(dq [(h.1:Int),h.2.1,(h.2.2.1.length:Int)]++jA h.2.2.1):=by unfold bz;rw [if_pos q];unfold qo;simp only [dq,hO,az]
theorem u6 (x:Int):(sL x).size=4:=rfl
theorem IR {k:Nat} (hk:2 ^ 50≤k) {h:Ty.d fV} (q:lF h=true):bd.f k (bz h)=some (h,(true,())):=by have h20:=(iT (lW q)).1;have hf:=uR q;have hz:=o7 h;have hsz:=congrArg ByteArray.size hf;rw [aP,aP,u6] at hsz;have hv:=Hf hk (xs:=[(h.1:Int),h.2.1,(h.2.2.1.length:Int)]) (sL (qc (qo h))) (jA h.2.2.1) (Bt q) (by simp) (by rw [u6];omega);rw [← hf,u6] at hv;unfold bd.f bd.t;rw [aN (by omega),aI,show c_.f k (bz h) 4 3=_ from hv,aJ];simp only [];rw [aN (by omega),aI,aF (by omega) (by simp),show List.getD [(h.1:Int),h.2.1,(h.2.2.1.length:Int)] 2 (Ty.z (.int .i64))=(h.2.2.1.length:Int) from rfl,aN (by omega),aI,aF (by omega) (by simp),aF (by omega) (by simp)];have:=yc hk q [] 0 0 h.2.2.1 (sL (qc (qo h))++dq [(h.1:Int),h.2.1,(h.2.2.1.length:Int)]) k 0 [] (fun e he=>he) rfl rfl (by omega) (by rw [az];exact hf) (by rw [aP,u6];omega);rw [aP,u6] at this;exact this
theorem sA {k:Nat} (hk:2 ^ 50≤k) {s:ByteArray} (hs:s.size≤1073741824):bd.f k s=some ((gV s).1,((gV s).2,())) :=
 oA (fun h h1 h2=>by rw [← h2];exact IR hk h1) (H1 hk hs)
theorem xt {k:Nat} (hk:2 ^ 50≤k) {r:ByteArray} (b:Bool) (hs:r.size≤1073741824):nW (aL.f k (r,(b,()))) (fun x=>x.1.1.size≤r.size∧(b=true→x.1.2.1=true)∧(x.1.2.1=false→x.1.1.size<r.size)∧0≤x.2.1∧x.2.1<562949953421312):=by
 cases b with
 | true=>exact tM (xP hk (by omega)) ⟨Nat.le_refl _,fun _=>rfl,fun h=>(by cases h),Int.le_refl _,by show (0:Int)<562949953421312;omega⟩
 | false =>
  rcases lI r with ⟨a,t,ha,rfl⟩ | h
  · have:=ap a;rw [aP] at hs;exact tM (fj hk ha (by omega)) ⟨by show t.size≤_;rw [aP];omega,fun h=>(by cases h),fun _=>by show t.size<_;rw [aP];omega,by show (0:Int)≤(a:Int);omega,by show (a:Int)<_;omega⟩
  · exact tM (nD hk h (by omega)) ⟨Nat.le_refl _,fun h=>(by cases h),fun h=>(by cases h),Int.le_refl _,by show (0:Int)<562949953421312;omega⟩
theorem IK (k:Nat) (r:ByteArray) (b:Bool) {n:Int} (h0:0≤n):nW (ax.f k (r,(b,())) n) (fun x=>x.1.1.size≤r.size∧(b=true→x.1.2.1=true)):=by
 cases b with
 | true=>exact tM (tp k r n) ⟨Nat.le_refl _,fun _=>rfl⟩
 | false =>
  by_cases h:n > (r.size:Int)
  · exact tM (tX k h) ⟨Nat.le_refl _,fun _=>rfl⟩
  · have e:=vm r (n:=n.toNat) (by omega);have hz:(ByteArray.extract r 0 n.toNat).size=n.toNat:=by rw [← dD,lZ,List.length_take,dD];omega
    have:=sP k (ByteArray.extract r 0 n.toNat) (ByteArray.extract r n.toNat r.size);rw [← e,hz,show ((n.toNat:Nat):Int)=n by omega] at this;exact tM this ⟨by show (ByteArray.extract r n.toNat r.size).size≤_;rw [rE];omega,fun h=>(by cases h)⟩
theorem N7 {k:Nat} (hk:2 ^ 50≤k) {r:ByteArray} (b:Bool) (hs:r.size≤1073741824):nW (aq.f k (r,(b,()))) (fun x=>x.1.1.size≤r.size∧(b=true→x.1.2.1=true)∧(x.1.2.1=false→x.1.1.size<r.size)):=by
 unfold aq.f aq.t;refine cY (xt hk b hs) fun r1 q1=>?_
 obtain ⟨a1,a2,a3,a4,_⟩:=q1;refine cY (IK k r1.1.1 r1.1.2.1 a4) fun r2 q2=>fB ⟨by omega,fun h=>q2.2 (a2 h),fun h=>?_⟩
 cases c:r1.1.2.1 with
 | true=>rw [q2.2 c] at h;cases h
 | false=>have:=a3 c;omega
theorem sV {k:Nat} (n:Nat) (s:ByteArray) (c j:Int) (z:aX) (z1 z2:Int) (rest:ByteArray) (out:aX) (a b:Int):bD.l0 k (n+1) s c j z z1 z2 rest true out a b=some (od,(false,())):=by simp only [bD.l0,bD.b0];cases decide (j<c) <;> rfl
theorem HI {k:Nat} (hk:2 ^ 50≤k) {s:ByteArray} (h4:4≤s.size) {h:Ty.d fV} (hl:h.2.2.1.length≤1073741824):RH s (Option.bind (eZ.f k h) fun r12=>(bif (!r12.1) then (some ((0,(0,([],()))),(false,()))) else (Option.bind (dN.f k h) fun r13=>(bif (!(seq r13.1 s)) then (some ((0,(0,([],()))),(false,()))) else (some (h,(true,()))))))):=by
 rw [qV hk hl,aJ,oc hk hl,aJ];cases lF h with
 | false=>exact yl s
 | true=>exact H4 h4 h
theorem Fj {k:Nat} (hk:2 ^ 50≤k) {s:ByteArray} (h4:4≤s.size) (c:Int) (hc:c<562949953421312) (z:aX) (z1 z2 a b:Int):∀ (n:Nat) (rest:ByteArray) (j:Int) (out:aX),rest.size+2≤n→0≤j→out.length+rest.size≤1073741824 →
 RH s (bD.l0 k n s c j z z1 z2 rest false out a b):=by
 intro n
 induction n with
 | zero=>intro rest j out h1;omega
 | succ n ih =>
  intro rest j out h1 h2 h5;obtain ⟨n,rfl⟩:∃ q,n=q+1:=⟨n-1,by omega⟩;simp only [bD.l0];unfold bD.b0;by_cases cj:j<c
  · rw [aK cj,aU,rB,aU];obtain ⟨r5,e5,p1,p2,p3⟩:=N7 hk false (r:=rest) (by omega);rw [e5,aJ];obtain ⟨r6,e6,s1,s2,s3,_⟩:=xt hk r5.1.2.1 (r:=r5.1.1) (by omega);rw [show aL.f k r5.1=_ from e6,aJ];obtain ⟨r7,e7,t1,t2,t3,_⟩:=xt hk r6.1.2.1 (r:=r6.1.1) (by omega);rw [show aL.f k r6.1=_ from e7,aJ];obtain ⟨r8,e8,u1,u2,u3,_⟩:=xt hk r7.1.2.1 (r:=r7.1.1) (by omega);rw [show aL.f k r7.1=_ from e8,aJ];obtain ⟨r9,e9,v1,v2,v3,_⟩:=xt hk r8.1.2.1 (r:=r8.1.1) (by omega);rw [show aL.f k r8.1=_ from e9,aJ,b7 (by omega) (by decide),aC (n:=j+1) (by omega) (by omega)];cases hb:r9.1.2.1 with
    | true=>exact .inr (sV n s c (j+1) z z1 z2 _ _ a b)
    | false =>have:=v3 hb;exact ih r9.1.1 (j+1) _ (by omega) (by omega) (by rw [bK];omega)
  · rw [aN cj,aI];simp only [aI];exact HI hk h4 (h:=(a,(b,(out,())))) (by show out.length≤_;omega)
theorem Dr {k:Nat} (hk:2 ^ 50≤k) {s:ByteArray} (h:s.size<4):bD.f k s=some (od,(false,())):=by unfold bD.f bD.t;rw [tX k (by omega),aJ];simp only [];rw [xP hk (by omega),aJ];simp only [];rw [xP hk (by omega),aJ];simp only [];rw [xP hk (by omega),aJ];obtain ⟨q,hq⟩:∃ q,k=q+1:=⟨k-1,by omega⟩;exact (congrArg (fun z=>bD.l0 k z s 0 0 [] 0 0 s true [] 0 0) hq).trans (sV q s 0 0 [] 0 0 s [] 0 0)
theorem G8 {k:Nat} (hk:2 ^ 50≤k) {s:ByteArray} (hs:s.size≤1073741824):RH s (bD.f k s):=by
 by_cases h4:s.size<4
 · rw [Dr hk h4];exact yl s
 unfold bD.f bD.t;obtain ⟨r1,e1,p1,_⟩:=IK k s false (n:=4) (by omega);rw [e1,aJ];obtain ⟨r2,e2,s1,_,_,_⟩:=xt hk r1.1.2.1 (r:=r1.1.1) (by omega);rw [show aL.f k r1.1=_ from e2,aJ];obtain ⟨r3,e3,t1,_,_,_⟩:=xt hk r2.1.2.1 (r:=r2.1.1) (by omega);rw [show aL.f k r2.1=_ from e3,aJ];obtain ⟨r4,e4,u1,_,_,u4,u5⟩:=xt hk r3.1.2.1 (r:=r3.1.1) (by omega);rw [show aL.f k r3.1=_ from e4,aJ];cases r4.1.2.1 with
 | true =>obtain ⟨q,hq⟩:∃ q,k=q+1:=⟨k-1,by omega⟩;exact .inr ((congrArg (fun z=>bD.l0 k z s r4.2.1 0 [] 0 0 r4.1.1 true [] r2.2.1 r3.2.1) hq).trans (sV q s _ 0 [] 0 0 _ [] _ _))
 | false=>exact Fj hk (by omega) r4.2.1 u5 [] 0 0 _ _ k r4.1.1 0 [] (by omega) (by omega) (by simp only [List.length_nil];omega)
theorem A8 {k:Nat} (hk:2 ^ 50≤k) {h:Ty.d fV} (q:lF h=true) (z:aX) (z1 z2:Int):∀ (r:aX) (n:Nat) (j:Int) (out:aX),(∀ e ∈ r,e ∈ h.2.2.1)→out++r=h.2.2.1→(out.length:Int)=j→r.length<n →
 bD.l0 k n (bz h) (h.2.2.1.length:Int) j z z1 z2 (jA r) false out h.1 h.2.1=some (h,(true,()))
 | [],n,j,out,hr,ho,hj,hn=>by obtain ⟨n,rfl⟩:∃ q,n=q+1:=⟨n-1,by omega⟩;have h20:=(iT (lW q)).1;rw [List.append_nil] at ho;simp only [bD.l0,bD.b0];rw [aN (by rw [← hj,ho];omega),aI,aI,ho,show (h.1,(h.2.1,(h.2.2.1,())))=h from rfl,qV hk (by omega),aJ,q];simp only [eQ,aI];rw [oc hk (by omega),aJ];simp only [cZ];rfl
 | e::r,n,j,out,hr,ho,hj,hn=>by
  obtain ⟨n,rfl⟩:∃ q,n=q+1:=⟨n-1,by omega⟩;have hlen:h.2.2.1.length=out.length+(r.length+1):=by rw [← ho,sF,lq]
  have he:=hr e (sM ..);have hd:=lW q;have h1:xL h.2.2.1=true:=by unfold lF at q;rw [lP,lP,lP] at q;exact q.2.2.2
  have hk8:=((iT hd).2 e he).1.2;have h20:=(iT hd).1;have hnum:=Ed hd h1 he;have hes:=rG (l:=r) fun x hx=>((iT hd).2 x (hr x (wW _ hx))).1.2
  obtain ⟨n1,b1,f1,g1⟩:=qF (hnum e.2.1 (by simp));obtain ⟨n2,b2,f2,g2⟩:=qF (hnum e.2.2.1 (by simp));obtain ⟨n3,b3,f3,g3⟩:=qF (hnum e.2.2.2.1 (by simp));obtain ⟨n4,b4,f4,g4⟩:=qF (hnum e.2.2.2.2.1 (by simp));have v1:=ap n1;have v2:=ap n2;have v3:=ap n3;have v4:=ap n4;have hform:jA (e::r)=bJ e.1.size++(e.1++(bJ n1++(bJ n2++(bJ n3++(bJ n4++jA r))))):=by rw [show jA (e::r)=jl e++jA r from rfl,CG e hk8];simp only [dq,hO,az,g1,g2,g3,g4]
  have ih:=A8 hk q z z1 z2 r n (j+1) (out++[e]) (fun x hx=>hr x (wW _ hx)) (by rw [py];exact ho) (by rw [bK];omega) (by rw [lq] at hn;omega);have hl20:r.length≤20:=by omega
  rw [hform];simp only [bD.l0,bD.b0];rw [aK (by omega),aU,rB,aU,ou hk (by omega) (by simp only [aP];omega),aJ];simp only [];rw [fj hk b1 (by simp only [aP];omega),aJ];simp only [];rw [fj hk b2 (by simp only [aP];omega),aJ];simp only [];rw [fj hk b3 (by simp only [aP];omega),aJ];simp only [];rw [fj hk b4 (by omega),aJ];simp only [];rw [b7 (by omega) (by decide),aC (n:=j+1) (by omega) (by omega),← f1,← f2,← f3,← f4];exact ih
theorem JL {k:Nat} (hk:2 ^ 50≤k) {h:Ty.d fV} (q:lF h=true):bD.f k (bz h)=some (h,(true,())):=by
 have h20:=(iT (lW q)).1;have hes:=rG (l:=h.2.2.1) fun x hx=>((iT (lW q)).2 x hx).1.2
 have hnum:=Bt q;obtain ⟨n1,b1,f1,g1⟩:=qF (hnum h.1 (by simp));obtain ⟨n2,b2,f2,g2⟩:=qF (hnum h.2.1 (by simp));obtain ⟨n3,b3,f3,g3⟩:=qF (hnum (h.2.2.1.length:Int) (by simp));have v1:=ap n1;have v2:=ap n2;have v3:=ap n3;have hform:bz h=sL (qc (qo h))++(bJ n1++(bJ n2++(bJ n3++jA h.2.2.1))):=by rw [uR q];simp only [dq,hO,az,g1,g2,g3]
 have hl:=A8 hk q [] 0 0 h.2.2.1 k 0 [] (fun e he=>he) rfl rfl (by omega);unfold bD.f bD.t;have eb:=sP k (sL (qc (qo h))) (bJ n1++(bJ n2++(bJ n3++jA h.2.2.1)));rw [← hform,u6] at eb;rw [show ax.f k (bz h,(false,())) 4=_ from eb,aJ];simp only [];rw [fj hk b1 (by simp only [aP];omega),aJ];simp only [];rw [fj hk b2 (by simp only [aP];omega),aJ];simp only [];rw [fj hk b3 (by omega),aJ];simp only [];rw [← f1,← f2,← f3];exact hl
theorem xx {k:Nat} (hk:2 ^ 50≤k) {s:ByteArray} (hs:s.size≤1073741824):bD.f k s=some ((gV s).1,((gV s).2,())) :=
 oA (fun h h1 h2=>by rw [← h2];exact JL hk h1) (G8 hk hs)
theorem rp {s:ByteArray}:(gV s).1.2.2.1.length≤20:=by
 rcases lg (fun h=>lF h=true) bz od s with ⟨r,h1,_,e⟩ | e
 · unfold gV;rw [e];exact (iT (lW h1)).1
 · unfold gV;rw [e];exact Nat.zero_le _
end Go.Proofs.YtijlgdoiofdmhaaGreatDoor.G

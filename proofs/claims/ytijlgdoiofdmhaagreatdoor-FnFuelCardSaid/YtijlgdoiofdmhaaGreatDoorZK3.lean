/- Plain laws, merged; what is proved here is told ahead of each part. -/
import Derived.Test.YtijlgdoiofdmhaaGreatDoorZK2
set_option linter.unusedVariables false
set_option linter.unusedSimpArgs false
namespace Go.Proofs.YtijlgdoiofdmhaaGreatDoor.G
open Go.V
def j5:Ty.d aG:=((0,([],())),([],(0,(0,(0,())))))
noncomputable def u0 (d:Ty.d aA) (x:Int) (last:Bool):Bool:=(ao d (aB aO x)).2&&(last||!decide ((cL (gC d x)).2<((gC d x).size:Int)))
noncomputable def iO (d:Ty.d aA):List Int→Bool
 | []=>true
 | x::l=>u0 d x l.isEmpty&&iO d l
noncomputable def nG (d:Ty.d aA) (x:Int):bZ:=ic x (cL (gC d x)).1
noncomputable def mL (d:Ty.d aA):List Int→bZ
 | []=>[]
 | x::l=>nG d x++mL d l
noncomputable def mH (d:Ty.d aA) (x:Int):Ty.d fV:=(gV (ao d (aB bg x)).1).1
noncomputable def ma (d:Ty.d aA) (x:Int):Bool:=(ao d (aB bg x)).2&&((gV (ao d (aB bg x)).1).2&&mu x (gC d x) (mH d x))
noncomputable def nM (d:Ty.d aA) (ids:List Int):Ty.d iK :=
 bif ma d (ids.getD 0 0) then lm ((mH d (ids.getD 0 0)).2.2.1,((mH d (ids.getD 0 0)).2.1,(0,()))) (mL d (ids.drop 1)) else lm ([],(0,(0,()))) (mL d ids)
noncomputable def IG (v:Ty.d bL) (en:Int) (g:Ty.d iK) (hi:Int):Ty.d aG:=(v,(g.1,(aH (g.2.1+1),(en,(hi,())))))
noncomputable def ue (v:Ty.d bL) (en:Int) (x:Ty.d aA) (g:Ty.d iK) (hi:Int):Ty.d aG × RD :=
 bif g.2.2.1 != 0 then (j5,(x,3)) else bif (jb v.2.1 x).2 != 0 then (j5,((jb v.2.1 x).1,dX (jb v.2.1 x).2)) else
 (IG v en g hi,((jb v.2.1 x).1,0))
noncomputable def sS (v:Ty.d bL) (d:Ty.d aA):Ty.d aG × RD :=
 bif !iO d v.2.1 then (j5,(d,3)) else
 bif (jD (bH v.2.1) d).2 != 0 then (j5,((jD (bH v.2.1) d).1,dX (jD (bH v.2.1) d).2)) else
 ue v (cL (gC d (bH v.2.1))).2 (jD (bH v.2.1) d).1 (nM (jD (bH v.2.1) d).1 v.2.1) (bif ma (jD (bH v.2.1) d).1 (v.2.1.getD 0 0) then v.2.1.getD 0 0 else 0)
def w8:Ty.d bL:=(2,([1],()))
noncomputable def lQ (d:Ty.d aA):RD:=dW (dW (jb [] d) fun x=>vF x (aB aO 1)) (cv w8)
noncomputable def rZ (d:Ty.d aA):Ty.d aG × RD :=
 bif (lQ d).2==0 then ((w8,([],(1,(0,(0,()))))),((lQ d).1,0)) else (j5,((lQ d).1,dX (lQ d).2))
noncomputable def eM (d:Ty.d aA):Ty.d aG × RD :=
 bif !gP d then (j5,(d,4)) else bif d.2.2.2.1 then (j5,(d,1)) else
 bif !(ao d j2).2 then rZ d else
 bif !(fQ (ao d j2).1).2 then (j5,(d,3)) else sS (fQ (ao d j2).1).1 d
def oS (q:Ty.d aG × RD):Ty.d aG × Ty.d aA × Int × Unit:=(q.1,(q.2.1,(q.2.2,())))
theorem I3 {lim:Int}:∀ (l:List Int) (p:Option Int),sD (pF lim) p l=true→(∀ q,p=some q→∀ x ∈ l,q<x)∧l.Pairwise (fun a b=>a<b)
 | [],p,_=>⟨fun q _ x hx=>(by cases hx),List.Pairwise.nil⟩
 | y::l,p,h=>by
  unfold sD at h;rw [lP] at h;obtain ⟨h1,h2⟩:=h;obtain ⟨a,b⟩:=I3 l (some y) h2;have hy:∀ q,p=some q→q<y:=fun q hq=>by subst hq;unfold pF at h1;rw [lP] at h1;exact of_decide_eq_true h1.2
  refine ⟨fun q hq x hx=>?_,List.pairwise_cons.2 ⟨a y rfl,b⟩⟩;rcases List.mem_cons.1 hx with e | e
  · rw [e];exact hy q hq
  · have:=a y rfl x e;have:=hy q hq;omega
theorem Iy {v:Ty.d bL} (h:dp v=true):v.2.1.Pairwise (fun a b=>a<b):=by unfold dp at h;rw [lP,lP] at h;exact (I3 _ _ h.2.2).2
theorem KT {α:Type} {l m:List α} {n:Nat} {z:α} (h:l.length≤n):(l++m).getD n z=m.getD (n-l.length) z:=by simp [List.getD,List.getElem?_append_right h]
theorem M2 {ids:List Int} (hp:ids.Pairwise (fun a b=>a<b)) {i:Nat} {x:Int} {rest:List Int} (h:ids.drop i=x::rest):(x==bH ids)=rest.isEmpty:=by
 have hi:=Lh h;have hlen:=congrArg List.length h;rw [List.length_drop,lq] at hlen;have e:ids=ids.take i++(x::rest):=by rw [← h,List.take_append_drop]
 have hl:bH ids=(x::rest).getD rest.length 0:=by
  unfold bH;have ht:(ids.take i).length=i:=by rw [List.length_take];omega
  conv=>lhs;rw [e]
  rw [KT (by rw [ht,sF,ht,lq];omega),ht,sF,ht,lq];congr 1;omega
 cases rest with
 | nil=>rw [hl];exact beq_self_eq_true x
 | cons y r =>
  rw [hl];have hm:(x::y::r).getD (y::r).length 0 ∈ y::r:=by show (y::r).getD r.length 0 ∈ y::r;exact fv (by rw [lq];omega)
  have hpd:(x::y::r).Pairwise (fun a b=>a<b):=by rw [← h];exact hp.drop
  have:=(List.pairwise_cons.1 hpd).1 _ hm;exact n_ (by omega)
theorem mz {d:Ty.d aA} (h:DR d) (x:Int):(gC d x).size≤100000:=by have:=gw d (aB aO x);have h2:=h.use;have h3:=h.cap1;unfold gC;omega
theorem sR {d:Ty.d aA} (h:DR d) (x:Int):(nG d x).length≤100000:=by have h1:=mz h x;have h2:=kS (gC d x);unfold nG;rw [Fg];omega
theorem nt {d:Ty.d aA} (h:DR d):∀ l:List Int,(mL d l).length≤100000*l.length
 | []=>Nat.zero_le _
 | x::l=>by have h1:=sR h x;have h2:=nt h l;unfold mL;rw [sF,lq];omega
theorem I1 (k:Nat):∀ n,fP.l1 k n=bG.l0 k n
 | 0=>rfl
 | n+1=>by show fP.b1 k (fP.l1 k n)=bG.b0 k (bG.l0 k n);rw [I1 k n];rfl
theorem LS (k:Nat):∀ n,fP.l0 k n=bG.l0 k n
 | 0=>rfl
 | n+1=>by show fP.b0 k (fP.l1 k n)=bG.b0 k (bG.l0 k n);rw [I1 k n];rfl
theorem Mk (k:Nat):fP.f k=bG.f k:=by unfold fP.f bG.f;rw [LS k k];rfl
theorem Dh {k:Nat} (hk:2 ^ 50≤k) {d:Ty.d aA} (h:DR d):jT.f k d=some (oS (rZ d)):=by
 have h1:=vx [] d h;have hv:dp w8=true:=by decide
 unfold jT.f jT.t rZ lQ;rw [Mk k,vb hk h (by decide),aJ];simp only [show ((0,(([]:List Int),())):Ty.d bL).2.1=[] from rfl];generalize jb [] d=r at h1 ⊢;unfold dW;simp only [bne,gp];cases c:r.2==0 with
 | false=>simp only [rB,aU,aI,c];rfl
 | true =>
  simp only [eQ,aI,aU];rw [c8 hk,aJ];simp only [];have hn:=tB (.inl rfl:aO=aO∨aO=bg) 1;rw [uy hk h1.sz (by omega),aJ];simp only [dc,aJ];cases c2:(vF r.1 (aB aO 1)).2==0 with
  | false=>simp only [rB,aU,aI,c2];rfl
  | true =>simp only [eQ,aI,aU];rw [show ((2,([1],())):Ty.d bL)=w8 from rfl,pH hk (CV h1 _) hv,aJ];simp only [gp];cases c3:(cv w8 (vF r.1 (aB aO 1)).1).2==0 <;> rfl
def Le (k:Nat) (v:Ty.d bL) (en:Int) (x:Ty.d aA) (hi:Int) (dir:aX) (la:Int) (pl:bZ):Option (Ty.d aG × Ty.d aA × Int × Unit) :=
 (Option.bind (ck.f k (dir,(la,(0,()))) pl) fun r33=>(bif (r33.1.2.2.1 != 0) then (some (j5,(x,(3,())))) else
 (Option.bind (bG.f k x v) fun r34=>(bif (r34.2.1 != 0) then (some (j5,r34)) else (some ((v,(r33.1.1,((aH (r33.1.2.1+1)),(en,(hi,()))))),(r34.1,(0,()))))))))
theorem HY {k:Nat} (hk:2 ^ 50≤k) {v:Ty.d bL} (hv:v.2.1.length≤60) (en:Int) {x:Ty.d aA} (h:DR x) (hi:Int) {dir:aX} (hd:dir.length≤1000) (la:Int) {pl:bZ} (hp:pl.length≤100000000) :
 Le k v en x hi dir la pl=some (oS (ue v en x (lm (dir,(la,(0,()))) pl) hi)):=by
 unfold Le ue;rw [Ah hk _ (by omega) (by show dir.length≤_;omega),aJ];simp only [bne];cases (lm (dir,(la,(0,()))) pl).2.2.1==0 with
 | false=>rfl
 | true =>simp only [eQ,aI];rw [vb hk h (by omega),aJ];simp only [gp];cases (jb v.2.1 x).2==0 <;> rfl
theorem N3 {k:Nat} (hk:2 ^ 50≤k) {v:Ty.d bL} (hv:v.2.1.length≤60) (en:Int) {x:Ty.d aA} (h:DR x) (hi:Int) (dir:aX) (la:Int) :
 ∀ (n:Nat) (i:Int) (pl:bZ),0≤i→i≤(v.2.1.length:Int)→(v.2.1.length:Int)-i<n→1≤i∧(pl.length:Int)≤100000*i →
 cK.l1 k n i [] [] 0 0 0 0 [] 0 0 false [] [] 0 0 0 0 v.2.1 v.1 x.1 x.2.1 x.2.2.1 x.2.2.2.1 [] v.1 0 en hi dir la 0 pl=Le k v en x hi dir la (pl++mL x (v.2.1.drop i.toNat)):=by
 have hl:=h.sz.l;have hu:=h.sz.u;have hn:=h.sz.n;refine Ig (L:=fun n i pl=>cK.l1 k n i [] [] 0 0 0 0 [] 0 0 false [] [] 0 0 0 0 v.2.1 v.1 x.1 x.2.1 x.2.2.1 x.2.2.2.1 [] v.1 0 en hi dir la 0 pl) (R:=fun r pl=>Le k v en x hi dir la (pl++mL x r)) (Ty.z (.int .i64)) v.2.1 (fun i pl=>1≤i∧(pl.length:Int)≤100000*i) (fun n pl hp=>?_) (fun n i pl y rest h0 h1 hy hr hp ih=>?_)
 · simp only [cK.l1,cK.b1];rw [aN (by omega),aI,show mL x []=[] from rfl,List.append_nil];rfl
 · have hs:=mz h y;have hpl:=sR h y;have ht:=gw x (aB bg y);have ih:=ih (pl++nG x y) ⟨by omega,by rw [sF];omega⟩;simp only [cK.l1,cK.b1];rw [aK h1,aU,aF h0 h1,hy,c8 hk,aJ];simp only [];rw [show (x.1,(x.2.1,(x.2.2.1,(x.2.2.2.1,()))))=x from rfl,iu hk (by omega) (by omega) (by omega),aJ,aF h0 h1,js hk,aJ];simp only [];rw [iu hk (by omega) (by omega) (by omega),aJ];simp only [];rw [sA hk (by omega),aJ,show (i==0)=false from n_ (by omega)];simp only [aI];rw [aF h0 h1,uO hk y (by show (gC x y).size≤_;omega),aJ];simp only [];rw [b7 (by show pl.length+(nG x y).length≤_;omega) (by decide),aC (n:=i+1) (by omega) (by omega)];refine ih.trans ?_;rw [py];rfl
theorem zy {k:Nat} (hk:2 ^ 50≤k) {v:Ty.d bL} (hv:v.2.1.length≤60) (hv1:1≤v.2.1.length) (en:Int) {x:Ty.d aA} (h:DR x) :
 cK.l1 k k 0 [] [] 0 0 0 0 [] 0 0 false [] [] 0 0 0 0 v.2.1 v.1 x.1 x.2.1 x.2.2.1 x.2.2.2.1 [] v.1 0 en 0 [] 0 0 []=some (oS (ue v en x (nM x v.2.1) (bif ma x (v.2.1.getD 0 0) then v.2.1.getD 0 0 else 0))):=by
 have hl:=h.sz.l;have hu:=h.sz.u;have hn:=h.sz.n;obtain ⟨n,hn2⟩:∃ q,k=q+1:=⟨k-1,by omega⟩;have hs:=mz h (v.2.1.getD 0 0);have hpl:=sR h (v.2.1.getD 0 0);have ht:=gw x (aB bg (v.2.1.getD 0 0));have hpa:=nt h (v.2.1.drop 1);have hpb:=nt h v.2.1;rw [List.length_drop] at hpa;have hh:=rp (s:=(ao x (aB bg (v.2.1.getD 0 0))).1);have step:=fun hi dir la pl=>N3 hk hv en h hi dir la n 1 pl (by omega) (by omega) (by omega)
 refine (congrArg (fun z=>cK.l1 k z 0 [] [] 0 0 0 0 [] 0 0 false [] [] 0 0 0 0 v.2.1 v.1 x.1 x.2.1 x.2.2.1 x.2.2.2.1 [] v.1 0 en 0 [] 0 0 []) hn2).trans ?_;have hsplit:v.2.1=v.2.1.getD 0 0::v.2.1.drop 1:=by have:=p6 (0:Int) (l:=v.2.1) (i:=0) (by omega);rw [List.drop_zero] at this;exact this
 simp only [cK.l1,cK.b1];rw [aK (by omega),aU,aF (by omega) (by omega),show List.getD v.2.1 (Int.toNat 0) (Ty.z (.int .i64))=v.2.1.getD 0 0 from rfl,c8 hk,aJ];simp only [];rw [show (x.1,(x.2.1,(x.2.2.1,(x.2.2.2.1,()))))=x from rfl,iu hk (by omega) (by omega) (by omega),aJ,aF (by omega) (by omega),js hk,aJ];simp only [];rw [iu hk (by omega) (by omega) (by omega),aJ];simp only [];rw [sA hk (by omega),aJ,show ((0:Int)==0)=true from rfl];simp only [aU];rw [uO hk (v.2.1.getD 0 0) (by show (gC x (v.2.1.getD 0 0)).size≤_;omega),aJ];simp only [];rw [b7 (by show ([]:bZ).length+(nG x (v.2.1.getD 0 0)).length≤_;rw [List.length_nil];omega) (by decide),aC (n:=(0:Int)+1) (by omega) (by omega),aF (by omega) (by omega)];rw [show List.getD v.2.1 0 (Ty.z (.int .i64))=v.2.1.getD 0 0 from rfl];rw [yC hk _ (by show (gC x (v.2.1.getD 0 0)).size≤_;omega),aJ];simp only [];have no:cK.l1 k n (0+1) [] [] 0 0 0 0 [] 0 0 false [] [] 0 0 0 0 v.2.1 v.1 x.1 x.2.1 x.2.2.1 x.2.2.2.1 [] v.1 0 en 0 [] 0 0 ([]++ic (v.2.1.getD 0 0) (cL (ao x (aB aO (v.2.1.getD 0 0))).1).1)=some (oS (ue v en x (lm ([],(0,(0,()))) (mL x v.2.1)) 0)):=by refine (step 0 [] 0 (nG x (v.2.1.getD 0 0)) ⟨by omega,by omega⟩).trans ?_;rw [show nG x (v.2.1.getD 0 0)++mL x (v.2.1.drop (Int.toNat 1))=mL x (v.2.1.getD 0 0::v.2.1.drop 1) from rfl,← hsplit];exact HY hk hv en h 0 (by simp) 0 (by omega)
 unfold nM ma mH;show (bif (ao x (aB bg (v.2.1.getD 0 0))).2 then (bif (gV (ao x (aB bg (v.2.1.getD 0 0))).1).2 then (bif mu (v.2.1.getD 0 0) (gC x (v.2.1.getD 0 0)) (gV (ao x (aB bg (v.2.1.getD 0 0))).1).1 then _ else _) else _) else _)=_;cases (ao x (aB bg (v.2.1.getD 0 0))).2 with
 | false=>simp only [aI,Bool.false_and];rw [aF (by omega) (by omega)];exact no
 | true =>
  cases (gV (ao x (aB bg (v.2.1.getD 0 0))).1).2 with
  | false=>simp only [aI,aU,Bool.false_and,Bool.true_and];rw [aF (by omega) (by omega)];exact no
  | true =>
   cases mu (v.2.1.getD 0 0) (gC x (v.2.1.getD 0 0)) (gV (ao x (aB bg (v.2.1.getD 0 0))).1).1 with
   | false=>simp only [aI,aU,Bool.true_and];rw [aF (by omega) (by omega)];exact no
   | true =>simp only [aU,Bool.true_and];rw [aF (by omega) (by omega)];refine (step (v.2.1.getD 0 0) (gV (ao x (aB bg (v.2.1.getD 0 0))).1).1.2.2.1 (gV (ao x (aB bg (v.2.1.getD 0 0))).1).1.2.1 [] ⟨by omega,by simp⟩).trans ?_;rw [List.nil_append,show (1:Int).toNat=1 from rfl];exact HY hk hv en h _ (by omega) _ (by omega)
theorem Hc (k:Nat):∀ n,cK.l2 k n=cK.l1 k n
 | 0=>rfl
 | n+1=>by show cK.b2 k (cK.l2 k n)=cK.b1 k (cK.l1 k n);rw [Hc k n];rfl
theorem NS {k:Nat} (hk:2 ^ 50≤k) {v:Ty.d bL} (hv:dp v=true) {d:Ty.d aA} (h:DR d) :
 cK.l0 k k (bH v.2.1) 0 d.1 d.2.1 d.2.2.1 d.2.2.2.1 [] [] 0 0 0 0 [] 0 0 false [] [] 0 0 0 0 v.2.1 v.1=some (oS (sS v d)):=by
 obtain ⟨_,_,hv1,hv2,_⟩:=eD (nx:=v.1) (ids:=v.2.1) hv;have hrise:=Iy hv;have hl:=h.sz.l;have hu:=h.sz.u;have hn:=h.sz.n;have hs:=mz h (bH v.2.1);have hsc:=kS (gC d (bH v.2.1));have hfin:∀ n:Nat,cK.l0 k (n+1) (bH v.2.1) (v.2.1.length:Int) d.1 d.2.1 d.2.2.1 d.2.2.2.1 [] [] 0 0 0 0 [] 0 0 false [] [] 0 0 0 0 v.2.1 v.1 =
  some (oS (bif (jD (bH v.2.1) d).2 != 0 then (j5,((jD (bH v.2.1) d).1,dX (jD (bH v.2.1) d).2)) else ue v (cL (gC d (bH v.2.1))).2 (jD (bH v.2.1) d).1 (nM (jD (bH v.2.1) d).1 v.2.1) (bif ma (jD (bH v.2.1) d).1 (v.2.1.getD 0 0) then v.2.1.getD 0 0 else 0))):=fun n=>by
  simp only [cK.l0,cK.b0];rw [aN (by omega),aI,c8 hk,aJ];simp only [];rw [show (d.1,(d.2.1,(d.2.2.1,(d.2.2.2.1,()))))=d from rfl,iu hk (by omega) (by omega) (by omega),aJ];simp only [show (ao d (aB aO (bH v.2.1))).1=gC d (bH v.2.1) from rfl];rw [oP hk (by omega),aJ,ju k h.sz,aJ,Hc];simp only [];show (bif decide ((cL (gC d (bH v.2.1))).2<((gC d (bH v.2.1)).size:Int)) then _ else _)=_;unfold jD;cases decide ((cL (gC d (bH v.2.1))).2<((gC d (bH v.2.1)).size:Int)) with
  | true =>
   simp only [aU];simp only [aJ];rw [G5 hk h.sz,aJ];simp only [dc,aJ];unfold dW;simp only [bne];show (bif !((oW d (aB aO (bH v.2.1)) (cL (gC d (bH v.2.1))).2).2==0) then _ else _)=_;have h1:=Aa h (aB aO (bH v.2.1)) (cL (gC d (bH v.2.1))).2;generalize oW d (aB aO (bH v.2.1)) (cL (gC d (bH v.2.1))).2=r at h1;cases c:r.2==0 with
   | false=>simp only [rB,aU,aI,c];rfl
   | true =>
    simp only [eQ,aI,aU];rw [np hk h1.sz,aJ];simp only [];have h2:=oY h1 (aB aO (bH v.2.1));generalize jB r.1 (aB aO (bH v.2.1))=q at h2;cases c2:q.2==0 with
    | false=>rfl
    | true =>simp only [eQ,aI];exact zy hk hv2 hv1 _ h2
  | false =>
   simp only [aI];simp only [aJ];rw [np hk h.sz,aJ];simp only [dc,aJ];unfold dW;simp only [bne,show ((0:Int)==0)=true from rfl,aU];have h2:=oY h (aB aO (bH v.2.1));generalize jB d (aB aO (bH v.2.1))=q at h2;cases c2:q.2==0 with
   | false=>rfl
   | true =>simp only [eQ,aI];exact zy hk hv2 hv1 _ h2
 unfold sS;refine (dG (L:=fun n i (_:Unit)=>cK.l0 k n (bH v.2.1) i d.1 d.2.1 d.2.2.1 d.2.2.2.1 [] [] 0 0 0 0 [] 0 0 false [] [] 0 0 0 0 v.2.1 v.1) (R:=fun r _=>bif iO d r then some (oS (bif (jD (bH v.2.1) d).2 != 0 then (j5,((jD (bH v.2.1) d).1,dX (jD (bH v.2.1) d).2)) else ue v (cL (gC d (bH v.2.1))).2 (jD (bH v.2.1) d).1 (nM (jD (bH v.2.1) d).1 v.2.1) (bif ma (jD (bH v.2.1) d).1 (v.2.1.getD 0 0) then v.2.1.getD 0 0 else 0))) else some (oS (j5,(d,3)))) (Ty.z (.int .i64)) v.2.1 (fun _ _=>True) (fun n _ _=>hfin n) (fun n i _ y rest h0 h1 hy hr hp ih=>?_) (n:=k) (s:=()) (by omega) trivial).trans (by cases iO d v.2.1 <;> rfl);have ih:=ih () trivial;have hsy:=mz h y;have hlast:=M2 hrise hr;simp only [cK.l0,cK.b0];rw [aK h1,aU,aF h0 h1,hy,c8 hk,aJ];simp only [];rw [show (d.1,(d.2.1,(d.2.2.1,(d.2.2.2.1,()))))=d from rfl,iu hk (by omega) (by omega) (by omega),aJ];simp only [];rw [oP hk (by show (gC d y).size≤_;omega),aJ,ju k h.sz,aJ,aF h0 h1,aC (n:=i+1) (by omega) (by omega),ih];rw [show iO d (y::rest)=(u0 d y rest.isEmpty&&iO d rest) from rfl];unfold u0 bne;rw [hlast];show (bif !(ao d (aB aO y)).2 then _ else bif !rest.isEmpty then (bif decide ((cL (gC d y)).2<((gC d y).size:Int)) then _ else _) else _)=_;cases (ao d (aB aO y)).2 with
 | false=>rfl
 | true =>
  cases rest.isEmpty with
  | true=>rfl
  | false=>cases decide ((cL (gC d y)).2<((gC d y).size:Int)) <;> rfl
theorem F5 {k:Nat} (hk:2 ^ 50≤k) {d:Ty.d aA} (hd:uN d):cK.f k d=some (oS (eM d)):=by
 have hl:=hd.l;have hu:=hd.u;have hn:=hd.n;unfold cK.f cK.t eM;rw [kB hk (by omega) (by omega),aJ,ju k hd];cases c:gP d with
 | false=>rfl
 | true =>
  have h:=lH.1 c;simp only [eQ,aI,aJ];cases cdn:d.2.2.2.1 with
  | true=>rfl
  | false =>
   simp only [aI];rw [show (⟨#[108,105,118,101]⟩:ByteArray)=j2 from rfl,iu hk (by omega) (by omega) (by omega),aJ];simp only [];cases (ao d j2).2 with
   | false =>simp only [rB,aU];rw [Dh hk h];rfl
   | true =>
    have hz:=gw d j2;simp only [eQ,aI];rw [y7 hk (by omega),aJ];simp only [];rcases lg (fun v=>dp v=true) bF ((0,([],())):Ty.d bL) (ao d j2).1 with ⟨v,h1,_,e⟩ | e
    · rw [show fQ (ao d j2).1=(v,true) from e];simp only [eQ,aI];obtain ⟨_,_,hv1,hv2,_⟩:=eD (nx:=v.1) (ids:=v.2.1) h1;have w:aH ((v.2.1.length:Int)-1)=((v.2.1.length-1:Nat):Int):=by rw [aC (by omega) (by omega)];omega
      rw [w,p5,aF (by omega) (by omega)];have:=NS hk h1 h;rw [cdn] at this;exact this
    · rw [show fQ (ao d j2).1=((0,([],())),false) from e];rfl
noncomputable def wM (d:Ty.d aA):Int→List Int→Int
 | e,[]=>e
 | _,x::l=>wM d (cL (gC d x)).2 l
theorem yh (d:Ty.d aA):∀ (l:List Int) (e:Int),l≠[]→wM d e l=(cL (gC d (l.getD (l.length-1) 0))).2
 | [],e,h=>absurd rfl h
 | [x],e,_=>rfl
 | x::y::l,e,_=>by show wM d (cL (gC d x)).2 (y::l)=_;rw [yh d (y::l) _ (by simp)];rfl
def wC:List bZ→bZ
 | []=>[]
 | a::l=>a++wC l
theorem sY (d:Ty.d aA):∀ l:List Int,wC (l.map (nG d))=mL d l
 | []=>rfl
 | x::l=>by show nG d x++wC (l.map (nG d))=nG d x++mL d l;rw [sY d l]
theorem pa {d x:Ty.d aA} (h:∀ s,cL (ao x s).1=cL (ao d s).1):∀ l:List Int,mL x l=mL d l
 | []=>rfl
 | y::l=>by unfold mL nG gC;rw [h,pa h l]
theorem sq {k:Nat} (hk:2 ^ 50≤k) (r:RD) (h:DR r.1) {v:Ty.d bL} (hv:v.2.1.length≤60):bS.f k (wO r) v =
 some (wO r,(bif iO r.1 v.2.1 then (v.2.1.map (nG r.1),(wM r.1 0 v.2.1,(true,()))) else ([],(0,(false,()))))):=by
 have hl:=h.sz.l;have hu:=h.sz.u;have hn:=h.sz.n;unfold bS.f bS.t;refine (dG (L:=fun n i (s:Int × List bZ)=>bS.l0 k n s.1 v.2.1 v.2.1.length i r.1.1 r.1.2.1 r.1.2.2.1 r.1.2.2.2.1 r.2 v.1 v.2.1 s.2) (R:=fun q s=>some (wO r,(bif iO r.1 q then (s.2++q.map (nG r.1),(wM r.1 s.1 q,(true,()))) else ([],(0,(false,())))))) (Ty.z (.int .i64)) v.2.1 (fun i s=>(s.2.length:Int)≤i) (fun n s hs=>?_) (fun n i s y rest h0 h1 hy hr hs ih=>?_) (n:=k) (s:=(0,[])) (by omega) (by simp)).trans (by rw [List.nil_append])
 · simp only [bS.l0,bS.b0];rw [aN (by omega),aI,show iO r.1 []=true from rfl,List.map_nil,List.append_nil];rfl
 · have hsy:=mz h y;have hsc:=kS (gC r.1 y);have hlast:=AO h0 hr;have ih:=ih ((cL (gC r.1 y)).2,s.2++[nG r.1 y]) (by simp only [bK];omega);simp only [] at ih hs;simp only [bS.l0,bS.b0];rw [aK h1,aU,aF h0 h1,hy,cr k,aJ];simp only [];rw [show (r.1.1,(r.1.2.1,(r.1.2.2.1,(r.1.2.2.2.1,()))))=r.1 from rfl,jv hk (by omega) (by omega) (by omega),aJ];simp only [show (ao r.1 (aB aO y)).1=gC r.1 y from rfl];rw [tE hk (by omega),aJ];simp only [];rw [uJ hk y (by omega),aJ];simp only [];rw [b7 (by omega) (by decide),aC (n:=i+1) (by omega) (by omega),aC (n:=(v.2.1.length:Int)-1) (by omega) (by omega)];rw [show ic y (cL (gC r.1 y)).1=nG r.1 y from rfl,ih];rw [show iO r.1 (y::rest)=(u0 r.1 y rest.isEmpty&&iO r.1 rest) from rfl];unfold u0;rw [hlast];have e1:((cL (gC r.1 y)).2 != ((gC r.1 y).size:Int))=decide ((cL (gC r.1 y)).2<((gC r.1 y).size:Int)):=by
    by_cases q:(cL (gC r.1 y)).2<((gC r.1 y).size:Int)
    · rw [aK q];exact bne_iff_ne.2 (by omega)
    · rw [aN q];have:(cL (gC r.1 y)).2=((gC r.1 y).size:Int):=by omega
      rw [this];simp
   rw [e1];have e2:decide (i<(v.2.1.length:Int)-1)=!decide (i+1=(v.2.1.length:Int)):=by
    by_cases q:i+1=(v.2.1.length:Int)
    · rw [aK q,aN (by omega)];rfl
    · rw [aN q,aK (by omega)];rfl
   rw [e2];have e3:s.2++[nG r.1 y]++rest.map (nG r.1)=s.2++(y::rest).map (nG r.1):=by rw [py];rfl
   rw [e3];cases (ao r.1 (aB aO y)).2 with
   | false=>rfl
   | true =>
    cases decide (i+1=(v.2.1.length:Int)) with
    | true=>rfl
    | false=>cases decide ((cL (gC r.1 y)).2<((gC r.1 y).size:Int)) <;> rfl
theorem BP {k:Nat} (hk:2 ^ 50≤k) (r:RD) (h:DR r.1) (id:Int):dI.f k (wO r) id =
 some (wO r,((bif ma r.1 id then ((mH r.1 id).2.2.1,((mH r.1 id).2.1,(0,()))) else ([],(0,(0,())))),(ma r.1 id,()))):=by
 have hl:=h.sz.l;have hu:=h.sz.u;have hn:=h.sz.n;have ht:=gw r.1 (aB bg id);have hs:=mz h id;unfold dI.f dI.t ma mH;rw [mV,aJ];simp only [show (wO r).1=r.1 from rfl];rw [jv hk (by omega) (by omega) (by omega),aJ];simp only [];rw [xx hk (by omega),aJ,cr,aJ];simp only [];rw [jv hk (by omega) (by omega) (by omega),aJ];simp only [show (ao r.1 (aB aO id)).1=gC r.1 id from rfl];rw [yG hk _ (by omega),aJ];simp only [];cases (ao r.1 (aB bg id)).2 with
 | false=>rfl
 | true =>
  cases (gV (ao r.1 (aB bg id)).1).2 with
  | false=>rfl
  | true=>cases mu id (gC r.1 id) (gV (ao r.1 (aB bg id)).1).1 <;> rfl
def Iu (k:Nat) (v:Ty.d bL) (en:Int) (x:Ty.d aA) (hi:Int) (dir:aX) (la:Int) (pl:bZ):Option (Ty.d au × Ty.d aG × Unit) :=
 (Option.bind (dw.f k (dir,(la,(0,()))) pl) fun r9=>(bif (r9.1.2.2.1 != 0) then (some ((x,(3,())),(j5,()))) else
 (Option.bind (ah.f k (x,(0,())) v) fun r10=>(some (r10.1,((v,(r9.1.1,((aH (r9.1.2.1+1)),(en,(hi,()))))),()))))))
def OB (q:Ty.d aG × RD) (o:Option (Ty.d au × Ty.d aG × Unit)):Prop:=∃ st,o=some (wO q.2,(st,()))∧(q.2.2=0→st=q.1)∧(q.2.2≠0→q.1=j5)
theorem wG {c:Int} (h:(c==0)=false):dX c≠0:=fun q=>by have:=gp c;rw [q,h] at this;cases this
theorem I9 {k:Nat} (hk:2 ^ 50≤k) {v:Ty.d bL} (hv:v.2.1.length≤60) (en:Int) {x:Ty.d aA} (h:DR x) (hi:Int) {dir:aX} (hd:dir.length≤1000) (la:Int) {pl:bZ} (hp:pl.length≤100000000) :
 OB (ue v en x (lm (dir,(la,(0,()))) pl) hi) (Iu k v en x hi dir la pl):=by
 unfold Iu ue;rw [yn hk _ (by omega) (by show dir.length≤_;omega),aJ];simp only [bne];cases (lm (dir,(la,(0,()))) pl).2.2.1==0 with
 | false=>exact ⟨j5,rfl,fun q=>(by cases q),fun _=>rfl⟩
 | true =>
  simp only [eQ,aI];rw [show ah.f k (x,(0,())) v=_ from AX hk (x,0) h (by omega),aJ];cases c:(jb v.2.1 x).2==0 with
  | true =>refine ⟨IG v en (lm (dir,(la,(0,()))) pl) hi,?_,fun _=>rfl,fun q=>absurd rfl q⟩;show some (wO (wk (jb v.2.1) (x,0)),_)=some (wO ((jb v.2.1 x).1,0),_);unfold wk;simp only [beq_self_eq_true,aU];rw [Aw c];rfl
  | false=>exact ⟨_,rfl,fun q=>absurd q (wG c),fun _=>rfl⟩
theorem Mq {k:Nat} (hk:2 ^ 50≤k) {v:Ty.d bL} (en:Int) (x:Ty.d aA) (hi:Int) (dir:aX) (la:Int) {al:List bZ} (hal:∀ a ∈ al,a.length≤100000) (hz:al.length≤60) :
 aT.l0 k k al al.length 0 x.1 x.2.1 x.2.2.1 x.2.2.2.1 0 [] [] 0 0 0 0 v.2.1 v.1 [] v.1 0 en hi dir la 0 []=Iu k v en x hi dir la (wC al):=by
 refine (dG (L:=fun n i pl=>aT.l0 k n al al.length i x.1 x.2.1 x.2.2.1 x.2.2.2.1 0 [] [] 0 0 0 0 v.2.1 v.1 [] v.1 0 en hi dir la 0 pl) (R:=fun r pl=>Iu k v en x hi dir la (pl++wC r)) (Ty.z (.slice aD)) al (fun i pl=>(pl.length:Int)≤100000*i) (fun n pl hp=>?_) (fun n i pl y rest h0 h1 hy hr hp ih=>?_) (n:=k) (s:=[]) (by omega) (by simp)).trans (by rw [List.nil_append])
 · simp only [aT.l0,aT.b0];rw [aN (by omega),aI,show wC []=[] from rfl,List.append_nil];rfl
 · have hy2:y.length≤100000:=hal y (by rw [← hy];exact fv (by omega));have ih:=ih (pl++y) (by rw [sF];omega);simp only [aT.l0,aT.b0];rw [aK h1,aU,aF h0 h1,hy,b7 (by omega) (by decide),aC (n:=i+1) (by omega) (by omega)];refine ih.trans ?_;rw [py];rfl
theorem NY {k:Nat} (hk:2 ^ 50≤k) {v:Ty.d bL} (en:Int) (x:Ty.d aA) (hi:Int) (dir:aX) (la:Int) {al:List bZ} (hal:∀ a ∈ al,a.length≤100000) (hz:al.length≤60) :
 aT.l1 k k al.length 0 x.1 x.2.1 x.2.2.1 x.2.2.2.1 0 [] [] 0 0 0 0 v.2.1 v.1 [] v.1 0 en hi dir la 0 [] al=Iu k v en x hi dir la (wC al):=by
 refine (dG (L:=fun n i pl=>aT.l1 k n al.length i x.1 x.2.1 x.2.2.1 x.2.2.2.1 0 [] [] 0 0 0 0 v.2.1 v.1 [] v.1 0 en hi dir la 0 pl al) (R:=fun r pl=>Iu k v en x hi dir la (pl++wC r)) (Ty.z (.slice aD)) al (fun i pl=>(pl.length:Int)≤100000*i) (fun n pl hp=>?_) (fun n i pl y rest h0 h1 hy hr hp ih=>?_) (n:=k) (s:=[]) (by omega) (by simp)).trans (by rw [List.nil_append])
 · simp only [aT.l1,aT.b1];rw [aN (by omega),aI,show wC []=[] from rfl,List.append_nil];rfl
 · have hy2:y.length≤100000:=hal y (by rw [← hy];exact fv (by omega));have ih:=ih (pl++y) (by rw [sF];omega);simp only [aT.l1,aT.b1];rw [aK h1,aU,aF h0 h1,hy,b7 (by omega) (by decide),aC (n:=i+1) (by omega) (by omega)];refine ih.trans ?_;rw [py];rfl
theorem Hz (k:Nat):∀ n,aT.l2 k n=aT.l0 k n
 | 0=>rfl
 | n+1=>by show aT.b2 k (aT.l2 k n)=aT.b0 k (aT.l0 k n);rw [Hz k n];rfl
theorem IJ (k:Nat):∀ n,aT.l3 k n=aT.l1 k n
 | 0=>rfl
 | n+1=>by show aT.b3 k (aT.l3 k n)=aT.b1 k (aT.l1 k n);rw [IJ k n];rfl
theorem ER {k:Nat} (hk:2 ^ 50≤k) {v:Ty.d bL} (hv:dp v=true) {d:Ty.d aA} (h:DR d) (en:Int) {x:Ty.d aA} (hx:DR x) (hsame:∀ s,cL (ao x s).1=cL (ao d s).1) :
 OB (ue v en x (nM x v.2.1) (bif ma x (v.2.1.getD 0 0) then v.2.1.getD 0 0 else 0))
  (b9 0 (List.length v.2.1:Int) (Option.bind (dI.f k (x,(0,())) (List.getD v.2.1 0 (Ty.z (.int .i64)))) fun r8 =>
   (bif r8.2.2.1 then (b9 0 (List.length v.2.1:Int) (oh 1 (List.length (v.2.1.map (nG d)):Int)
    (aT.l0 k k (List.drop 1 (v.2.1.map (nG d))) (List.length (List.drop 1 (v.2.1.map (nG d))):Int) 0 r8.1.1.1 r8.1.1.2.1 r8.1.1.2.2.1 r8.1.1.2.2.2.1 r8.1.2.1 [] [] 0 0 0 0 v.2.1 v.1 [] v.1 0 en (List.getD v.2.1 0 (Ty.z (.int .i64))) r8.2.1.1 r8.2.1.2.1 r8.2.1.2.2.1 [])))
   else (aT.l1 k k (List.length (v.2.1.map (nG d)):Int) 0 r8.1.1.1 r8.1.1.2.1 r8.1.1.2.2.1 r8.1.1.2.2.2.1 r8.1.2.1 [] [] 0 0 0 0 v.2.1 v.1 [] v.1 0 en 0 r8.2.1.1 r8.2.1.2.1 r8.2.1.2.2.1 [] (v.2.1.map (nG d)))))):=by
 obtain ⟨_,_,hv1,hv2,_⟩:=eD (nx:=v.1) (ids:=v.2.1) hv;have hpa:=nt hx (v.2.1.drop 1);have hpb:=nt hx v.2.1;rw [List.length_drop] at hpa;have hh:=rp (s:=(ao x (aB bg (v.2.1.getD 0 0))).1);have hal:∀ a ∈ v.2.1.map (nG d),a.length≤100000:=fun a ha=>by obtain ⟨y,_,rfl⟩:=List.mem_map.1 ha;exact sR h y
 rw [aF (by omega) (by omega),show List.getD v.2.1 0 (Ty.z (.int .i64))=v.2.1.getD 0 0 from rfl,show dI.f k (x,(0,())) (v.2.1.getD 0 0)=_ from BP hk (x,0) hx (v.2.1.getD 0 0),aJ];unfold nM;cases ma x (v.2.1.getD 0 0) with
 | true =>
  simp only [aU];rw [aF (by omega) (by omega),bv (by omega) (by rw [List.length_map];omega)];have:=I9 hk hv2 en hx (v.2.1.getD 0 0) (dir:=(mH x (v.2.1.getD 0 0)).2.2.1) (by show (gV _).1.2.2.1.length≤_;omega) (mH x (v.2.1.getD 0 0)).2.1 (pl:=mL x (v.2.1.drop 1)) (by omega);rw [← List.map_drop];rw [pa hsame,← sY] at this;have e:=Mq hk (v:=v) en x (v.2.1.getD 0 0) (mH x (v.2.1.getD 0 0)).2.2.1 (mH x (v.2.1.getD 0 0)).2.1 (al:=(v.2.1.drop 1).map (nG d)) (fun a ha=>by
   obtain ⟨y,_,rfl⟩:=List.mem_map.1 ha;exact sR h y) (by rw [List.length_map,List.length_drop];omega)
  rw [← e] at this;rw [pa hsame,← sY];exact this
 | false =>simp only [aI];have:=I9 hk hv2 en hx 0 (dir:=[]) (by simp) 0 (pl:=mL x v.2.1) (by omega);rw [pa hsame,← sY] at this;have e:=NY hk (v:=v) en x 0 [] 0 (al:=v.2.1.map (nG d)) hal (by rw [List.length_map];omega);rw [← e] at this;rw [pa hsame,← sY];exact this
theorem Ck {k:Nat} (hk:2 ^ 50≤k) {d:Ty.d aA} (h:DR d) {t:ByteArray} (ht:t.size≤1099511627776) :
 OB (bif !(fQ t).2 then (j5,(d,3)) else sS (fQ t).1 d) (aT.f k (d,(0,())) t):=by
 have hl:=h.sz.l;have hu:=h.sz.u;have hn:=h.sz.n;unfold aT.f aT.t;rw [y4 hk ht,aJ];rcases lg (fun v=>dp v=true) bF ((0,([],())):Ty.d bL) t with ⟨v,h1,_,e⟩ | e
 · rw [show fQ t=(v,true) from e];obtain ⟨_,_,hv1,hv2,_⟩:=eD (nx:=v.1) (ids:=v.2.1) h1;simp only [eQ,aI];rw [show bS.f k (d,(0,())) v=_ from sq hk (d,0) h hv2,aJ];simp only [];unfold sS;cases iO d v.2.1 with
   | false=>exact ⟨j5,rfl,fun q=>(by cases q),fun _=>rfl⟩
   | true =>
    have hs:=mz h (bH v.2.1);have hsc:=kS (gC d (bH v.2.1));have w:aH ((v.2.1.length:Int)-1)=((v.2.1.length-1:Nat):Int):=by rw [aC (by omega) (by omega)];omega
    simp only [eQ,aI,aU];rw [yh d v.2.1 0 (by intro q;rw [q] at hv1;exact absurd hv1 (by decide)),w,p5,aF (by omega) (by omega),show List.getD v.2.1 (v.2.1.length-1) (Ty.z (.int .i64))=bH v.2.1 from rfl,show v.2.1.getD (v.2.1.length-1) 0=bH v.2.1 from rfl,cr,aJ];simp only [show (wO (d,0)).1=d from rfl];rw [jv hk (by omega) (by omega) (by omega),aJ,Hz,IJ];simp only [show (ao d (aB aO (bH v.2.1))).1=gC d (bH v.2.1) from rfl];have fx:=K2 (bH v.2.1) h;have ft:=fun c s=>(Kt h (x:=bH v.2.1) c s).2
    generalize hen:(cL (gC d (bH v.2.1))).2=en at *;by_cases q:en<((gC d (bH v.2.1)).size:Int)
    · have ef:jD (bH v.2.1) d=dW (oW d (aB aO (bH v.2.1)) en) fun y=>jB y (aB aO (bH v.2.1)):=by
       unfold jD;rw [hen,aK q];rfl
      rw [show (((gC d (bH v.2.1)).size:Int) != en)=true from bne_iff_ne.2 (by omega),aU,Gx hk h.sz,aJ];simp only [];rw [uA,aJ];simp only [];have h2:=Aa h (aB aO (bH v.2.1)) en;rw [show bT.f k ((oW d (aB aO (bH v.2.1)) en).1,(dX (oW d (aB aO (bH v.2.1)) en).2,())) (aB aO (bH v.2.1))=_ from p7 hk ((oW d (aB aO (bH v.2.1)) en).1,dX (oW d (aB aO (bH v.2.1)) en).2) h2 _,aJ];have e2:wk (fun x=>jB x (aB aO (bH v.2.1))) ((oW d (aB aO (bH v.2.1)) en).1,dX (oW d (aB aO (bH v.2.1)) en).2)=((jD (bH v.2.1) d).1,dX (jD (bH v.2.1) d).2):=by have:=rx (fun x=>oW x (aB aO (bH v.2.1)) en) (fun x=>jB x (aB aO (bH v.2.1))) (d,0);rw [show wk (fun x=>oW x (aB aO (bH v.2.1)) en) (d,0)=((oW d (aB aO (bH v.2.1)) en).1,dX (oW d (aB aO (bH v.2.1)) en).2) from rfl] at this;rw [← this,ef];rfl
      rw [e2];simp only [bne,show (wO ((jD (bH v.2.1) d).1,dX (jD (bH v.2.1) d).2)).2.1=dX (jD (bH v.2.1) d).2 from rfl,gp];cases c:(jD (bH v.2.1) d).2==0 with
      | false=>exact ⟨j5,rfl,fun q=>absurd q (wG c),fun _=>rfl⟩
      | true =>simp only [eQ,aI];have c0:=Aw c;rw [c0];exact ER hk h1 h en fx (ft c0)
    · have ef:jD (bH v.2.1) d=jB d (aB aO (bH v.2.1)):=by
       unfold jD;rw [hen,aN q];rfl
      rw [show (((gC d (bH v.2.1)).size:Int) != en)=false by rw [show ((gC d (bH v.2.1)).size:Int)=en by omega];simp,aI,p7 hk (d,0) h,aJ];have e2:wk (fun x=>jB x (aB aO (bH v.2.1))) (d,0)=((jD (bH v.2.1) d).1,dX (jD (bH v.2.1) d).2):=by rw [ef];rfl
      rw [e2];simp only [bne,show (wO ((jD (bH v.2.1) d).1,dX (jD (bH v.2.1) d).2)).2.1=dX (jD (bH v.2.1) d).2 from rfl,gp];cases c:(jD (bH v.2.1) d).2==0 with
      | false=>exact ⟨j5,rfl,fun q=>absurd q (wG c),fun _=>rfl⟩
      | true =>simp only [eQ,aI];have c0:=Aw c;rw [c0];exact ER hk h1 h en fx (ft c0)
 · rw [show fQ t=((0,([],())),false) from e];simp only [rB,aU];rw [show bS.f k (d,(0,())) ((0,([],())):Ty.d bL)=_ from sq hk (d,0) h (by decide),aJ];exact ⟨j5,rfl,fun q=>(by cases q),fun _=>rfl⟩
theorem Dm {k:Nat} (hk:2 ^ 50≤k) {d:Ty.d aA} (h:DR d):OB (rZ d) (g8.f k (d,(0,()))):=by
 have h1:=sE (r:=((d,0):RD)) h (vx []);have hn:=tB (.inl rfl:aO=aO∨aO=bg) 1;have h2:=sE h1 fun x hx=>CV hx (aB aO 1)
 unfold g8.f g8.t;rw [show ah.f k (d,(0,())) ((0,([],())):Ty.d bL)=_ from AX hk (d,0) h (v:=(0,([],()))) (by decide),aJ,cr,aJ];simp only [show ((0,(([]:List Int),())):Ty.d bL).2.1=[] from rfl];rw [Bq hk _ h1 (by omega),aJ];simp only [];rw [show ((2,([1],())):Ty.d bL)=w8 from rfl,qd hk _ h2 (by decide),aJ,← rx (jb []) (fun x=>vF x (aB aO 1)),← rx];unfold rZ;refine ⟨(w8,([],(1,(0,(0,()))))),?_,?_,?_⟩
 · cases c:(lQ d).2==0 with
   | true =>show some (wO ((lQ d).1,dX (lQ d).2),_)=some (wO ((lQ d).1,0),_);rw [Aw c];rfl
   | false=>rfl
 · cases c:(lQ d).2==0 with
   | true=>intro _;rfl
   | false=>intro q;exact absurd q (wG c)
 · cases c:(lQ d).2==0 with
   | true=>intro q;exact absurd rfl q
   | false=>intro _;rfl
theorem Fu {k:Nat} (hk:2 ^ 50≤k) {d:Ty.d aA} (hd:uN d):mn.f k d=some (oS (eM d)):=by
 have hl:=hd.l;have hu:=hd.u;have hn:=hd.n;unfold mn.f mn.t eM;rw [iA k hl,aJ,iI hk (by omega) (by omega),aJ];cases c:gP d with
 | false=>rfl
 | true =>
  have h:=lH.1 c;have fin:∀ (q:Ty.d aG × RD) (o:Option (Ty.d au × Ty.d aG × Unit)),OB q o→(Option.bind o fun r4=>(bif (r4.1.2.1 != 0) then (some (j5,r4.1)) else (some (r4.2.1,(r4.1.1,(0,()))))))=some (oS q):=fun q o hq=>by
   obtain ⟨st,e,a,b⟩:=hq;rw [e,aJ];simp only [bne,show (wO q.2).2.1=q.2.2 from rfl];cases cq:q.2.2==0 with
   | true =>have z:=Aw cq;rw [a z];show some (q.1,(q.2.1,(0,())))=some (q.1,(q.2.1,(q.2.2,())));rw [z]
   | false =>rw [rB,aU];show some (j5,(q.2.1,(q.2.2,())))=some (q.1,(q.2.1,(q.2.2,())));rw [b (fun z=>by rw [z] at cq;cases cq)]
  simp only [eQ,aI];cases cdn:d.2.2.2.1 with
  | true=>rfl
  | false =>
   simp only [aI];rw [show (⟨#[108,105,118,101]⟩:ByteArray)=j2 from rfl,jv hk (by omega) (by omega) (by omega),aJ];simp only [];cases (ao d j2).2 with
   | false =>simp only [rB,aU,aI];exact fin _ _ (Dm hk h)
   | true =>have hz:=gw d j2;simp only [eQ,aI,aU];exact fin _ _ (Ck hk h (by omega))
theorem JX (v:Ty.d bL) (en:Int) {x:Ty.d aA} (h:DR x) {g:Ty.d iK} (hg:g.1.length≤268435456) (hi:Int):DR (ue v en x g hi).2.1∧(ue v en x g hi).1.2.1.length≤268435456:=by
 have hs:=vx v.2.1 x h;unfold ue;cases g.2.2.1 != 0 with
 | true=>exact ⟨h,Nat.zero_le _⟩
 | false =>
  cases (jb v.2.1 x).2 != 0 with
  | true=>exact ⟨hs,Nat.zero_le _⟩
  | false=>exact ⟨hs,hg⟩
theorem J7 {x:Ty.d aA} (h:DR x) {ids:List Int} (hl:ids.length≤60):(nM x ids).1.length≤268435456:=by
 have hpa:=nt h (ids.drop 1);have hpb:=nt h ids;rw [List.length_drop] at hpa;have hh:=rp (s:=(ao x (aB bg (ids.getD 0 0))).1);unfold nM;cases ma x (ids.getD 0 0)
 · exact vu (by omega) (by simp)
 · exact vu (by omega) (by show (mH x (ids.getD 0 0)).2.2.1.length≤_;unfold mH;omega)
theorem G6 {d:Ty.d aA} (h:DR d):DR (eM d).2.1∧(eM d).1.2.1.length≤268435456:=by
 unfold eM;rw [lH.2 h];simp only [eQ,aI];cases d.2.2.2.1 with
 | true=>exact ⟨h,Nat.zero_le _⟩
 | false =>
  simp only [aI];cases (ao d j2).2 with
  | false =>
   simp only [rB,aU];have hf:DR (lQ d).1:=jk (jk (vx [] d h) fun x hx=>CV hx _) (me w8);unfold rZ;cases (lQ d).2==0 with
   | true=>exact ⟨hf,Nat.zero_le _⟩
   | false=>exact ⟨hf,Nat.zero_le _⟩
  | true =>
   simp only [eQ,aI];rcases lg (fun v=>dp v=true) bF ((0,([],())):Ty.d bL) (ao d j2).1 with ⟨v,h1,_,e⟩ | e
   · rw [show fQ (ao d j2).1=(v,true) from e];obtain ⟨_,_,hv1,hv2,_⟩:=eD (nx:=v.1) (ids:=v.2.1) h1;simp only [eQ,aI];have fx:=K2 (bH v.2.1) h;unfold sS;cases iO d v.2.1 with
     | false=>exact ⟨h,Nat.zero_le _⟩
     | true =>
      simp only [eQ,aI];cases (jD (bH v.2.1) d).2 != 0 with
      | true=>exact ⟨fx,Nat.zero_le _⟩
      | false=>exact JX v _ fx (J7 fx hv2) _
   · rw [show fQ (ao d j2).1=((0,([],())),false) from e];exact ⟨h,Nat.zero_le _⟩
noncomputable def kD (q:Ty.d aG × RD):Ty.d af:=((q.2.2==0),(q.1,(q.2.1,(List.replicate 3 (Ty.z ai),()))))
theorem uX {k:Nat} (hk:2 ^ 50≤k) {d:Ty.d aA} (hd:uN d):gX.f k d=some (kD (eM d),((eM d).2.2,())):=by unfold gX.f gX.t;rw [F5 hk hd,aJ,xE (by omega) (by omega) (by decide)];rfl
theorem uH {k:Nat} (hk:2 ^ 50≤k) {d:Ty.d aA} (hd:uN d):fz.f k d=some (kD (eM d),((eM d).2.2,())):=by unfold fz.f fz.t;rw [Fu hk hd,aJ,xE (by omega) (by omega) (by decide)];rfl
def oZ (n:Int):Ty.d aA:=([],(n,(-1,(false,()))))
theorem yP {n:Int} (h0:0≤n) (h1:n≤100000):DR (oZ n) :=
 ⟨Nat.zero_le _,h0,h1,show LE.le (α:=Int) (-1) (-1) from Int.le_refl _,show LE.le (α:=Int) (-1) 100000 by decide,h0,fun f hf=>(by cases hf),List.Pairwise.nil⟩
theorem Ge {st:Ty.d aG} {d:Ty.d aA} {l:iy} (h:SR st (d,0) 100000) (hp:gQ l=true) (hd:st.2.1.length≤20) :
 DR (md st d l).2.1∧(md st d l).1.1.2.1.length≤60∧(md st d l).1.2.1.length≤268435456:=by
 have h8:=pK hp;obtain ⟨g1,g2,g3⟩:=zL (sB l st.2.2.1) (Dn st) d [] 100000 ⟨h.live,h.disk,h.lo,h.hi⟩ (by decide);unfold md;generalize kN (sB l st.2.2.1) (Dn st) d []=q at g1 g2 g3 ⊢;have e2:q.1.1.2.1=st.2.1:=g2;obtain ⟨_,_,_,hi,_⟩:=eD (nx:=q.1.1.1.1) (ids:=q.1.1.1.2.1) g1.live;have hs:=oY g1.disk (k9 q.1.1);unfold uB;cases q.1.2.2 != 0 with
 | true=>exact ⟨g1.disk,hi,by show q.1.1.2.1.length≤_;rw [e2];omega⟩
 | false =>
  simp only [aI];generalize jB q.1.2.1 (k9 q.1.1)=y at hs ⊢;cases y.2 != 0 with
  | true=>exact ⟨hs,hi,by show q.1.1.2.1.length≤_;rw [e2];omega⟩
  | false =>refine ⟨hs,hi,?_⟩;show (fc q.1.1.2.1 (q.2.take l.length)).length≤_;have:=rJ (q.2.take l.length) q.1.1.2.1;rw [e2] at this ⊢;rw [List.length_take] at this;omega
theorem FL {st:Ty.d aG} {d:Ty.d aA} (l:iy) (hd:DR d) (h1:st.1.2.1.length≤60) (h2:st.2.1.length≤268435456) :
 DR (jj st d l).2.1∧(jj st d l).1.1.2.1.length≤60∧(jj st d l).1.2.1.length≤268435456:=by
 unfold jj;cases c1:kL st d with
 | false=>exact ⟨hd,h1,h2⟩
 | true =>
  simp only [eQ,aI];cases c2:gQ l with
  | false=>exact ⟨hd,h1,h2⟩
  | true =>
   simp only [eQ,aI];cases (l.length:Int)==0 with
   | true=>exact ⟨hd,h1,h2⟩
   | false =>
    cases decide (pc st.2.1 l > 20) with
    | true=>exact ⟨hd,h1,h2⟩
    | false =>
     cases decide (st.2.2.1 > (1000000:Int)) with
     | true=>exact ⟨hd,h1,h2⟩
     | false=>exact Ge (lk c1).1 c2 (lk c1).2.1
def O1 (l:aX):Prop:=∀ e ∈ l,LE.le (α:=Int) 0 e.2.2.2.1
structure IV (q:Ty.d aG × RD):Prop where
 disk:DR q.2.1
 ids:q.1.1.2.1.length≤60
 dir:q.1.2.1.length≤268435456
 non:O1 q.1.2.1
 sum:uF q.1.2.1≤(vE q.2.1 q.1.1.2.1:Int)
def CW (l:lA) (mark:Int):Int:=((jE (nl l mark)).size:Int)
theorem xY (r:Ty.d bR) (l:oL):(jE (r::l)).size=(am (aV r)).size+(jE l).size:=by rw [jE,ByteArray.size_append]
def wX (nm:ByteArray):oL→RD→RD
 | [],r=>r
 | x::l,r=>wX nm l (dW r fun y=>j3 y nm (am (aV x)))
def gI (m:Int) (l:lA) (mark:Int) (d:Ty.d aA):RD:=dW (wX (aB aO m) (nl l mark) (cA (aB aO m) d)) fun y=>jB y (aB aO m)
def mE (m:Int):lA→Int→aX
 | [],_=>[]
 | p::l,at_=>(p.1,(m,(at_,(d5 (eC p),(p.2.2.1,())))))::mE m l (at_+d5 (eC p))
def j7 (ns:List ByteArray) (r:RD):RD:=bif r.2==2 then ((bm ns r.1).1,bif (bm ns r.1).2==0 then 2 else dX (bm ns r.1).2) else r
def jC (m:Int):List ByteArray:=[jm,aB aO m,aB aO (m+1),aB bg m]
def qP:List Int→Ty.d aA→RD
 | [],d=>(d,0)
 | x::l,d=>dW (bm [aB aO x,aB bg x] d) (qP l)
def uQ (st:Ty.d aG):Ty.d aG:=((st.1.1+2,st.1.2),st.2)
def j8 (m:Int):Ty.d bL:=(m+2,([m,m+1],()))
def lJ (hb:ByteArray→ByteArray) (m:Int) (d:Ty.d aA):RD :=
 bif (lY (aB bg m) (hb (ao d (aB aO m)).1) d).2==2 then bm [aB bg m] (lY (aB bg m) (hb (ao d (aB aO m)).1) d).1 else lY (aB bg m) (hb (ao d (aB aO m)).1) d
def ff (hb:ByteArray→ByteArray) (st:Ty.d aG) (d:Ty.d aA) (l:lA):Ty.d aG × RD :=
 bif (gI st.1.1 l (st.2.2.1-1) d).2 != 0 then (uQ st,j7 (jC st.1.1) (tl (gI st.1.1 l (st.2.2.1-1) d))) else
 bif (cA (aB aO (st.1.1+1)) (gI st.1.1 l (st.2.2.1-1) d).1).2 != 0 then (uQ st,j7 (jC st.1.1) (tl (cA (aB aO (st.1.1+1)) (gI st.1.1 l (st.2.2.1-1) d).1))) else
 bif (lJ hb st.1.1 (cA (aB aO (st.1.1+1)) (gI st.1.1 l (st.2.2.1-1) d).1).1).2 != 0 then (uQ st,tl (lJ hb st.1.1 (cA (aB aO (st.1.1+1)) (gI st.1.1 l (st.2.2.1-1) d).1).1)) else
 bif (cv (j8 st.1.1) (lJ hb st.1.1 (cA (aB aO (st.1.1+1)) (gI st.1.1 l (st.2.2.1-1) d).1).1).1).2 != 0 then
  (uQ st,j7 (jC st.1.1) (tl (cv (j8 st.1.1) (lJ hb st.1.1 (cA (aB aO (st.1.1+1)) (gI st.1.1 l (st.2.2.1-1) d).1).1).1))) else
 ((j8 st.1.1,(mE st.1.1 l 0,(st.2.2.1,(0,(0,()))))),tl (qP st.1.2.1 (cv (j8 st.1.1) (lJ hb st.1.1 (cA (aB aO (st.1.1+1)) (gI st.1.1 l (st.2.2.1-1) d).1).1).1).1))
theorem wo {s:ByteArray} {d:Ty.d aA} (h:(cA s d).2=0):fT (cA s d).1 s=some ByteArray.empty:=by
 unfold cA at h ⊢;unfold dW at h ⊢;cases c:(j9 s d).2==0 with
 | false =>rw [c,aI] at h;rw [h] at c;cases c
 | true =>
  rw [c,aU] at h;rw [aU];obtain ⟨c1,c2⟩:=u7 (d:=(j9 s d).1) (g:=wc s) h;unfold fT;show (cB (iZ (j9 s d).1 (wc s)).1.1 s).map _=_;rw [c2];unfold wc at c1 ⊢;cases c3:kq s with
  | false=>rw [c3] at c1;cases c1
  | true =>
   rw [c3] at c1;simp only [eQ,aI] at c1 ⊢;cases c4:(cB (j9 s d).1.1 s) with
   | some f=>rw [c4] at c1;cases c1
   | none =>
    rw [c4] at c1;simp only [Option.isSome_none,aI] at c1 ⊢;cases c5:decide (((j9 s d).1.1.length:Int)≥130) with
    | true=>rw [c5] at c1;cases c1
    | false =>simp only [aI];rw [D1 (f:=(s,(ByteArray.empty,(0,())))) c4,cZ];rfl
theorem uh (nm:ByteArray):∀ (l:oL) (r:RD),r.2≠0→wX nm l r=r
 | [],_,_=>rfl
 | x::l,r,h=>by
  unfold wX;have e:dW r (fun y=>j3 y nm (am (aV x)))=r:=by unfold dW;rw [n_ h];rfl
  rw [e];exact uh nm l r h
theorem Jv (nm:ByteArray):∀ (l:oL) (r:RD) (x:ByteArray),fT r.1 nm=some x→(wX nm l r).2=0→fT (wX nm l r).1 nm=some (x++jE l)
 | [],r,x,h,_=>by show fT r.1 nm=some (x++⟨#[]⟩);rw [h,show x++(⟨#[]⟩:ByteArray)=x from Jl x]
 | a::l,r,x,h,z=>by
  unfold wX at z ⊢;by_cases c:(dW r (fun y=>j3 y nm (am (aV a)))).2=0
  · obtain ⟨c1,c2,c3⟩:=nd c;have c3:(j3 r.1 nm (am (aV a))).2=0:=c3;have e:fT (dW r (fun y=>j3 y nm (am (aV a)))).1 nm=some (x++am (aV a)):=by
     rw [c2];have:=He (d:=r.1) (s:=nm) (x:=am (aV a));rw [c3,h] at this;exact this
    rw [Jv nm l _ _ e z];show some (x++am (aV a)++jE l)=some (x++(am (aV a)++jE l));rw [Fy]
  · rw [uh nm l _ c] at z;exact absurd z c
theorem MA {nm t:ByteArray} (h:nm≠t):∀ (l:oL) (r:RD),fT (wX nm l r).1 t=fT r.1 t
 | [],_=>rfl
 | a::l,r=>by
  show fT (wX nm l (dW r fun y=>j3 y nm (am (aV a)))).1 t=_;rw [MA h l];exact qH rfl fun y=>KV h
theorem Ky {m:Int} {l:lA} {mark:Int} {d:Ty.d aA} {t:ByteArray} (h:aB aO m≠t):fT (gI m l mark d).1 t=fT d t :=
 qH ((MA h _ _).trans (vI h)) fun y=>D8
theorem Da {hb:ByteArray→ByteArray} {m:Int} {d:Ty.d aA} {t:ByteArray} (h:aB bg m≠t):fT (lJ hb m d).1 t=fT d t:=by
 unfold lJ;cases (lY (aB bg m) (hb (ao d (aB aO m)).1) d).2==2 with
 | false=>exact Ct h
 | true =>refine (vt _ _ fun s hs=>?_).trans (Ct h);rw [List.mem_singleton.1 hs];exact h
theorem Dc {t:ByteArray}:∀ (l:List Int) (d:Ty.d aA),(∀ x ∈ l,aB aO x≠t∧aB bg x≠t)→fT (qP l d).1 t=fT d t
 | [],_,_=>rfl
 | x::l,d,h=>by
  show fT (dW (bm [aB aO x,aB bg x] d) (qP l)).1 t=_;refine qH (vt _ _ fun s hs=>?_) fun y=>Dc l y fun z hz=>h z (wW _ hz)
  have:=h x sM;rcases List.mem_cons.1 hs with e | e
  · rw [e];exact this.1
  · rw [List.mem_singleton.1 e];exact this.2
theorem CO (m:Int):∀ (l:lA) (a:Int),uF (mE m l a)=((jE (l.map eC)).size:Int)∧O1 (mE m l a)
 | [],_=>⟨rfl,fun x hx=>by cases hx⟩
 | p::l,a=>by
  obtain ⟨i1,i2⟩:=CO m l (a+d5 (eC p));have hr:=mA (eC p);refine ⟨?_,fun x hx=>?_⟩
  · show d5 (eC p)+uF (mE m l (a+d5 (eC p)))=_;rw [i1,List.map_cons,xY];unfold d5;omega
  · rcases List.mem_cons.1 hx with e | e
    · rw [e];exact hr.1
    · exact i2 x e
theorem tC {x y:Int} (hx:1≤x∧x≤100000) (hy:1≤y∧y≤100000):aB bg x≠aB aO y:=fun q=>by
 have e:aB bg x=bg++hZ x:=by unfold aB;rw [aK hx];rfl
 rw [Ar hy,e] at q;have:=congrArg nb q;rw [jr,jr] at this;cases this
theorem Iz {x:Int} (hx:1≤x∧x≤100000):aB bg x≠j2:=fun q=>by
 have e:aB bg x=bg++hZ x:=by unfold aB;rw [aK hx];rfl
 rw [e] at q;have:=congrArg nb q;rw [jr] at this;cases this
theorem Jr {s t:ByteArray} {d:Ty.d aA} (z:(lY s t d).2=0):fT (lY s t d).1 s=some t:=by unfold lY at z ⊢;obtain ⟨z1,e1,z2⟩:=nd z;obtain ⟨z3,e2,z4⟩:=nd z1;rw [e1,D8,e2];have:=He (d:=(cA s d).1) (s:=s) (x:=t);rw [z4,wo z3] at this;have this:fT (j3 (cA s d).1 s t).1 s=some (ByteArray.empty++t):=this;rw [this,show (ByteArray.empty:ByteArray)=dB [] from rfl,AJ]
theorem Ln {d:Ty.d aA} {a b:ByteArray} (hd:DR d) (hab:a≠b) (z:(wq d a b).2=0):fT (wq d a b).1 b=fT d a:=by
 obtain ⟨c1,c2⟩:=u7 z;unfold fT;show (cB (iZ d (y_ a b)).1.1 b).map _=_;rw [c2];unfold y_ at c1 ⊢;cases c3:kq b with
 | false=>rw [c3] at c1;exact absurd c1 (by show (5:Int)≠0;decide)
 | true =>
  rw [c3] at c1;simp only [eQ,aI] at c1 ⊢;cases c4:cB d.1 a with
  | none=>rw [c4] at c1;exact absurd c1 (by show (3:Int)≠0;decide)
  | some f =>simp only [];rw [n8 hab,aI];have hk:jp (mJ (jZ d.1 a)):=tF (om _ _) hd.keys;show (cB (m4 (jZ (jZ d.1 a) b) (b,f.2)) b).map _=_;rw [D1 (f:=(b,f.2)) (vh hk b),cZ];rfl
theorem DZ {v:Ty.d bL} {d:Ty.d aA} (hd:DR d) (z:(cv v d).2=0):fT (cv v d).1 j2=some (bF v):=by unfold cv at z ⊢;obtain ⟨z1,e1,z2⟩:=nd z;rw [e1,Ln (o9 _ _ _ hd) (by decide) z2,Jr z1]
theorem yd {n:Int} (h0:0≤n) (h1:n≤127):(ix n).size=1:=by unfold ix;rw [if_pos ⟨h0,by omega⟩,← si (by omega)];unfold vl;rw [if_neg (by omega)];rfl
theorem GC {n:Int} (h0:0≤n) (h1:n≤2097151):(ix n).size≤3:=by
 unfold ix;rw [if_pos ⟨h0,by omega⟩,← si (by omega)];unfold vl;split
 · rw [lq];unfold vl;split
   · rw [lq];unfold vl;rw [if_neg (by omega)];exact Nat.le_refl _
   · show 1+1≤3
     decide
 · show 1≤3
   decide
theorem Kr (mark:Int) (l:oL):d5 (ir 5 mark l)≤20:=by
 have key:(aV (ir 5 mark l)).size≤9:=by
  unfold aV;by_cases c:k_ (ir 5 mark l)=true
  · rw [if_pos c];rcases oF c with ⟨q,_⟩ | ⟨q,_⟩ | ⟨_,_,_,h1,h2,_,_,h3,h4⟩
    · exact absurd q (by show ¬ ((5:Int)=1∨(5:Int)=4);decide)
    · exact absurd q (by show ¬ ((5:Int)=2);decide)
    · rw [if_neg (by show ¬ ((5:Int)=1∨(5:Int)=4);decide),if_neg (by show ¬ ((5:Int)=2);decide),ByteArray.size_append,ByteArray.size_append,ByteArray.size_append,lK];have e1:(ix (ir 5 mark l).1).size=1:=yd (n:=5) (by decide) (by decide);have e2:=GC (n:=(ir 5 mark l).2.1) h3 (Int.le_trans h4 (by decide));have e3:=yd (n:=(ir 5 mark l).2.2.2.2.1) h1 (Int.le_trans h2 (by decide));omega
  · rw [if_neg c];exact Nat.zero_le _
 unfold d5 am;rw [if_neg (by omega),ByteArray.size_append,lK];unfold kT;rw [ByteArray.size_append,yd (by omega) (by omega)];omega
theorem za (m:Int):∀ (l:lA) (a:Int),(mE m l a).length=l.length
 | [],_=>rfl
 | p::l,a=>by show (mE m l (a+d5 (eC p))).length+1=_;rw [za m l];rfl
theorem Im {hb:ByteArray→ByteArray} {st:Ty.d aG} {d:Ty.d aA} {c:Int} {l:lA} (h:IV (st,(d,c))) (hl:dp st.1=true) (hn:LE.le (α:=Int) (st.1.1+2) 100000) (hlen:l.length≤268435456) :
 IV (ff hb st d l)∧((ff hb st d l).2.2=0→(vE (ff hb st d l).2.1 (ff hb st d l).1.1.2.1:Int)=CW l (st.2.2.1-1)∧(vE (ff hb st d l).2.1 (ff hb st d l).1.1.2.1:Int)-uF (ff hb st d l).1.2.1≤20 ∧
  fT (ff hb st d l).2.1 (aB aO st.1.1)=some (jE (nl l (st.2.2.1-1)))∧fT (ff hb st d l).2.1 (aB aO (st.1.1+1))=some ByteArray.empty∧(ff hb st d l).1=(j8 st.1.1,(mE st.1.1 l 0,(st.2.2.1,(0,(0,()))))) ∧
  fT (ff hb st d l).2.1 j2=some (bF (j8 st.1.1))):=by
 obtain ⟨n1,n2,n3,_⟩:=qy (n:=st.1.1) (ids:=st.1.2.1) hl;have hd:DR d:=h.disk;have hsum:uF st.2.1≤(vE d st.1.2.1:Int):=h.sum;have hm:(1:Int)≤st.1.1∧st.1.1≤(100000:Int):=⟨n1,n2⟩;have hm1:LE.le (α:=Int) 1 (st.1.1+1)∧LE.le (α:=Int) (st.1.1+1) 100000:=⟨by omega,by omega⟩;have hseg:∀ x:Int,x ∈ st.1.2.1→1≤x∧x≤100000:=fun x hx=>⟨(n3 x hx).1,by have:=(n3 x hx).2;omega⟩
 have no1:∀ x ∈ st.1.2.1,aB aO st.1.1≠aB aO x:=fun x hx=>GU hm (hseg x hx) (by have:=(n3 x hx).2;omega)
 have no2:∀ x ∈ st.1.2.1,aB aO (st.1.1+1)≠aB aO x:=fun x hx=>GU hm1 (hseg x hx) (by have:=(n3 x hx).2;omega)
 have no3:∀ x ∈ st.1.2.1,aB bg st.1.1≠aB aO x:=fun x hx=>tC hm (hseg x hx)
 have no4:aB aO (st.1.1+1)≠aB aO st.1.1:=GU hm1 hm (by omega);have jump:∀ r:RD,DR r.1→(∀ x ∈ st.1.2.1,fT r.1 (aB aO x)=fT d (aB aO x))→IV (uQ st,r):=fun r hr k=>⟨hr,h.ids,h.dir,h.non,by
  show uF st.2.1≤(vE r.1 st.1.2.1:Int);rw [BU k];exact hsum⟩
 have dropK:∀ (r:RD),DR r.1→(∀ x ∈ st.1.2.1,fT r.1 (aB aO x)=fT d (aB aO x))→r.2≠0→IV (uQ st,j7 (jC st.1.1) r)∧(j7 (jC st.1.1) r).2≠0:=fun r hr k hz=>by
  unfold j7;cases r.2==2 with
  | false=>exact ⟨jump r hr k,hz⟩
  | true =>
   refine ⟨jump _ (nT _ _ hr) fun x hx=>(vt _ _ fun s hs=>?_).trans (k x hx),?_⟩
   · unfold jC at hs;rcases List.mem_cons.1 hs with e | e
     · rw [e];exact vJ (hseg x hx)
     rcases List.mem_cons.1 e with e | e
     · rw [e];exact no1 x hx
     rcases List.mem_cons.1 e with e | e
     · rw [e];exact no2 x hx
     · rw [List.mem_singleton.1 e];exact no3 x hx
   · show (bif (bm (jC st.1.1) r.1).2==0 then (2:Int) else dX (bm (jC st.1.1) r.1).2)≠0;cases q:(bm (jC st.1.1) r.1).2==0 with
     | true =>
      show (2:Int)≠0
      decide
     | false =>intro e;have:=gp (bm (jC st.1.1) r.1).2;rw [q] at this;simp only [aI] at e;rw [e] at this;cases this
 have tlnz:∀ r:RD,(r.2 != 0)=true→(tl r).2≠0:=fun r q e=>by have:=uW r;rw [e,q] at this;cases this
 have a0:DR (gI st.1.1 l (st.2.2.1-1) d).1:=by
  refine jk ?_ fun x hx=>oY hx _
  have:∀ (rs:oL) (r:RD),DR r.1→DR (wX (aB aO st.1.1) rs r).1:=by
   intro rs
   induction rs with
   | nil=>exact fun r hr=>hr
   | cons x rs ih=>exact fun r hr=>ih _ (jk hr fun y hy=>rQ hy _ _)
  exact this _ _ (kX _ _ hd)
 have a1:∀ x ∈ st.1.2.1,fT (gI st.1.1 l (st.2.2.1-1) d).1 (aB aO x)=fT d (aB aO x):=fun x hx=>Ky (no1 x hx)
 have a2:(gI st.1.1 l (st.2.2.1-1) d).2=0→fT (gI st.1.1 l (st.2.2.1-1) d).1 (aB aO st.1.1)=some (jE (nl l (st.2.2.1-1))):=fun z=>by
  unfold gI at z ⊢;obtain ⟨z1,z2,_⟩:=nd z;rw [z2];rw [D8];have z0:(cA (aB aO st.1.1) d).2=0:=by
   by_cases w:(cA (aB aO st.1.1) d).2=0
   · exact w
   · rw [uh _ _ _ w] at z1;exact absurd z1 w
  have:=Jv (aB aO st.1.1) (nl l (st.2.2.1-1)) (cA (aB aO st.1.1) d) ByteArray.empty (wo z0) z1;rw [this,show (ByteArray.empty:ByteArray)=dB [] from rfl,AJ]
 unfold ff;generalize gI st.1.1 l (st.2.2.1-1) d=a at a0 a1 a2 ⊢;cases ca:a.2 != 0 with
 | true =>obtain ⟨g1,g2⟩:=dropK (tl a) a0 a1 (tlnz a ca);exact ⟨g1,fun e=>absurd e g2⟩
 | false =>
  have b0:=kX (aB aO (st.1.1+1)) a.1 a0;have b1:∀ x ∈ st.1.2.1,fT (cA (aB aO (st.1.1+1)) a.1).1 (aB aO x)=fT d (aB aO x):=fun x hx=>(vI (no2 x hx)).trans (a1 x hx)
  have b2:=(vI (d:=a.1) no4).trans (a2 (oB ca));have b3:=wo (s:=aB aO (st.1.1+1)) (d:=a.1);simp only [aI];generalize cA (aB aO (st.1.1+1)) a.1=b at b0 b1 b2 b3 ⊢;cases cb:b.2 != 0 with
  | true =>obtain ⟨g1,g2⟩:=dropK (tl b) b0 b1 (tlnz b cb);exact ⟨g1,fun e=>absurd e g2⟩
  | false =>
   have b3:=b3 (oB cb);have c0:DR (lJ hb st.1.1 b.1).1:=by
    unfold lJ;cases (lY (aB bg st.1.1) (hb (ao b.1 (aB aO st.1.1)).1) b.1).2==2 with
    | true=>exact nT _ _ (o9 _ _ _ b0)
    | false=>exact o9 _ _ _ b0
   have c1:∀ x ∈ st.1.2.1,fT (lJ hb st.1.1 b.1).1 (aB aO x)=fT d (aB aO x):=fun x hx=>(Da (no3 x hx)).trans (b1 x hx)
   have c2:=(Da (hb:=hb) (d:=b.1) (tC hm hm)).trans b2;have c3:=(Da (hb:=hb) (d:=b.1) (tC hm hm1)).trans b3;simp only [aI];generalize lJ hb st.1.1 b.1=e at c0 c1 c2 c3 ⊢;cases ce:e.2 != 0 with
   | true=>exact ⟨jump (tl e) c0 c1,fun z=>absurd z (tlnz e ce)⟩
   | false =>
    have d0:=me (j8 st.1.1) _ c0;have d1:∀ x ∈ st.1.2.1,fT (cv (j8 st.1.1) e.1).1 (aB aO x)=fT d (aB aO x):=fun x hx=>(uo (vJ (hseg x hx)) (vy (hseg x hx))).trans (c1 x hx)
    have d2:=(uo (d:=e.1) (v:=j8 st.1.1) (vJ hm) (vy hm)).trans c2;have d3:=(uo (d:=e.1) (v:=j8 st.1.1) (vJ hm1) (vy hm1)).trans c3;have d4:=DZ (v:=j8 st.1.1) c0;simp only [aI];generalize cv (j8 st.1.1) e.1=f at d0 d1 d2 d3 d4 ⊢;cases cf:f.2 != 0 with
    | true =>obtain ⟨g1,g2⟩:=dropK (tl f) d0 d1 (tlnz f cf);exact ⟨g1,fun z=>absurd z g2⟩
    | false =>
     simp only [aI];have o0:∀ (ids:List Int) (x:Ty.d aA),DR x→DR (qP ids x).1:=by
      intro ids
      induction ids with
      | nil=>exact fun x hx=>hx
      | cons y ids ih=>exact fun x hx=>jk (nT _ _ hx) fun z hz=>ih z hz
     have o2:=(Dc st.1.2.1 f.1 fun x hx=>⟨fun q=>no1 x hx q.symm,tC (hseg x hx) hm⟩).trans d2;have o3:=(Dc st.1.2.1 f.1 fun x hx=>⟨fun q=>no2 x hx q.symm,tC (hseg x hx) hm1⟩).trans d3;have o4:=(Dc st.1.2.1 f.1 fun x hx=>⟨fun q=>vy (hseg x hx) q.symm,Iz (hseg x hx)⟩).trans (d4 (oB cf));have o1:=o0 st.1.2.1 f.1 d0;generalize qP st.1.2.1 f.1=o at o1 o2 o3 o4 ⊢;obtain ⟨l1,l2⟩:=CO st.1.1 l 0;have hk:=Kr (st.2.2.1-1) (l.map eC);have hk0:=(mA (ir 5 (st.2.2.1-1) (l.map eC))).1;have tot:(vE o.1 [st.1.1,st.1.1+1]:Int)=uF (mE st.1.1 l 0)+d5 (ir 5 (st.2.2.1-1) (l.map eC)):=by
      unfold vE Ng;rw [List.map_cons,List.map_singleton,List.sum_cons,List.sum_singleton,o2,o3,l1];simp only [Option.getD_some];unfold nl;rw [xZ,ByteArray.size_append];have e1:(jE [ir 5 (st.2.2.1-1) (l.map eC)]).size=(am (aV (ir 5 (st.2.2.1-1) (l.map eC)))).size:=by rw [xY];rfl
      have e2:(ByteArray.empty:ByteArray).size=0:=rfl;rw [e1,e2];unfold d5;omega
     have tot0:(vE o.1 [st.1.1,st.1.1+1]:Int)=CW l (st.2.2.1-1):=by unfold vE Ng CW;rw [List.map_cons,List.map_singleton,List.sum_cons,List.sum_singleton,o2,o3];rfl
     refine ⟨⟨o1,(show 2≤60 by decide),?_,l2,?_⟩,fun _=>⟨tot0,?_,o2,o3,by trivial,o4⟩⟩
     · show (mE st.1.1 l 0).length≤_;rw [za];exact hlen
     · show uF (mE st.1.1 l 0)≤(vE o.1 [st.1.1,st.1.1+1]:Int);omega
     · show (vE o.1 [st.1.1,st.1.1+1]:Int)-uF (mE st.1.1 l 0)≤20;omega
theorem sZ {k:Nat} (hk:2 ^ 50≤k) (st:Ty.d aG) {r:RD} (hd:DR r.1) {m:Int} (h0:1≤m) (h1:m≤100000):eT.f k st r.1 m r.2=some (st,((j7 (jC m) r).1,((j7 (jC m) r).2,()))):=by
 unfold eT.f eT.t j7;cases c:r.2==2 with
 | false =>
  have:(r.2 != 2)=true:=by unfold bne;rw [c];rfl
  rw [this];rfl
 | true =>
  have:(r.2 != 2)=false:=by unfold bne;rw [c];rfl
  rw [this];simp only [aI,aU];rw [aC (n:=m+1) (by omega) (by omega),c8 hk,aJ,c8 hk,aJ,js hk,aJ];simp only [];rw [show ([(⟨#[116,101,109,112]⟩:ByteArray),aB aO m,aB aO (m+1),aB bg m]:List ByteArray)=jC m from rfl,oj hk hd (by unfold jC;simp),aJ];simp only [bne];cases q:(bm (jC m) r.1).2==0 with
  | true=>rw [Aw c];rfl
  | false=>simp only [rB,aU,aI,dc,aJ]
theorem Dt (k:Nat) (p:Ty.d uI):lr.f k p=some (eC p,()):=rfl
theorem H9 {k:Nat} (hk:2 ^ 50≤k) (ids old:List Int) (dir:aX) (nx b s h:Int) (ho:old.length≤1073741824) {d:Ty.d aA} (hd:DR d) :
 cI.l0 k k 0 ids dir nx b s h [] [] 0 0 0 0 [] 0 0 false d.1 d.2.1 d.2.2.1 d.2.2.2.1 old=some (((nx,(ids,())),(dir,(b,(s,(h,()))))),((tl (qP old d)).1,((tl (qP old d)).2,()))):=by
 refine dG (L:=fun n i (x:Ty.d aA)=>cI.l0 k n i ids dir nx b s h [] [] 0 0 0 0 [] 0 0 false x.1 x.2.1 x.2.2.1 x.2.2.2.1 old) (R:=fun r x=>(some (((nx,(ids,())),(dir,(b,(s,(h,()))))),((tl (qP r x)).1,((tl (qP r x)).2,()))):cI.Rs))
  (Ty.z (.int .i64)) old (fun _ x=>DR x) (fun n x hx=>?_) (fun n i x y rest h0 h1 hy hr hx ih=>?_) (n:=k) (s:=d) (by omega) hd
 · simp only [cI.l0,cI.b0];rw [aN (by omega),aI];rfl
 · simp only [cI.l0,cI.b0];rw [aK h1,aU,aF h0 h1,hy,c8 hk,aJ,aF h0 h1,js hk,aJ];simp only [];rw [show (x.1,(x.2.1,(x.2.2.1,(x.2.2.2.1,()))))=x from rfl,oj hk hx (by simp),aJ,aC (n:=i+1) (by omega) (by omega)];have hz:=nT [aB aO y,aB bg y] x hx;simp only [qP];generalize bm [aB aO y,aB bg y] x=q at hz ⊢;unfold dW;simp only [bne];cases c:q.2==0 with
   | false=>simp only [rB,aU,aI,dc,aJ];rfl
   | true =>simp only [eQ,aU,aI];exact ih q.1 hz
def E4 (m:Int):lA→RD→aX→Int→aX
 | [],_,dir,_=>dir
 | p::l,r,dir,a=>bif r.2==0 then E4 m l (j3 r.1 (aB aO m) (am (aV (eC p)))) (dir++[(p.1,(m,(a,(d5 (eC p),(p.2.2.1,())))))]) (a+d5 (eC p)) else dir
theorem ID (m:Int):∀ (l:lA) (r:RD) (dir:aX) (a:Int),r.2=0→(wX (aB aO m) (l.map eC) r).2=0→E4 m l r dir a=dir++mE m l a
 | [],_,dir,_,_,_=>(List.append_nil dir).symm
 | p::l,r,dir,a,h,z=>by
  have e:dW r (fun y=>j3 y (aB aO m) (am (aV (eC p))))=j3 r.1 (aB aO m) (am (aV (eC p))):=by unfold dW;rw [h];rfl
  have z:(wX (aB aO m) (l.map eC) (dW r fun y=>j3 y (aB aO m) (am (aV (eC p))))).2=0:=z;rw [e] at z;have z2:(j3 r.1 (aB aO m) (am (aV (eC p)))).2=0:=by
   by_cases w:(j3 r.1 (aB aO m) (am (aV (eC p)))).2=0
   · exact w
   · rw [uh _ _ _ w] at z;exact absurd z w
  unfold E4;rw [show (r.2==0)=true by rw [h];rfl,aU,ID m l _ _ _ z2 z,py];rfl
theorem BO {k:Nat} (hk:2 ^ 50≤k) {d:Ty.d aA} (hd:DR d) (m:Int) {l:lA} (hl:l.length≤1000000) (mark:Int) :
 eY.f k d m l mark=some ((gI m l mark d).1,(E4 m l (cA (aB aO m) d) [] 0,(dX (gI m l mark d).2,()))):=by
 have hsz:=uZ m;unfold eY.f eY.t;rw [c8 hk,aJ];simp only [];rw [oi hk hd (by omega),aJ];simp only [];have hf:=kX (aB aO m) d hd;unfold gI nl;generalize cA (aB aO m) d=r0 at hf ⊢;refine dG (L:=fun n i (s:RD × aX × Int × oL)=>eY.l0 k n m l mark s.1.2 s.2.2.1 i [] 0 0 false s.2.1 s.1.1.1 s.1.1.2.1 s.1.1.2.2.1 s.1.1.2.2.2.1 s.2.2.2)
  (R:=fun r s=>(some ((dW (wX (aB aO m) (r.map eC++[ir 5 mark (l.map eC)]) s.1) fun y=>jB y (aB aO m)).1,(E4 m r s.1 s.2.1 s.2.2.1,(dX (dW (wX (aB aO m) (r.map eC++[ir 5 mark (l.map eC)]) s.1) fun y=>jB y (aB aO m)).2,()))):eY.Rs))
  (Ty.z uI) l (fun i s=>DR s.1.1∧(s.1.2=0→s.2.2.2=(l.take i.toNat).map eC)∧0≤s.2.2.1∧s.2.2.1≤211*i∧(s.2.1.length:Int)≤i∧(s.2.2.2.length:Int)≤i) (fun n s hs=>?_) (fun n i s x rest h0 h1 hx hr hs ih=>?_) (n:=k) (s:=(r0,([],(0,[])))) (by omega) ⟨hf,fun _=>rfl,Int.le_refl _,by simp,by simp,by simp⟩
 · obtain ⟨r,dir,a,recs⟩:=s;obtain ⟨g1,g2,g3,g4,g5,g6⟩:=hs;simp only [] at g1 g2 g3 g4 g5 g6 ⊢;simp only [eY.l0,eY.b0];rw [aN (by omega),aI];simp only [List.map_nil,List.nil_append,wX,E4];by_cases c:r.2=0
   · rw [Int.toNat_natCast,List.take_length] at g2;rw [show (r.2==0)=true by rw [c];rfl,aU,c8 hk,aJ,g2 c,xp hk (by rw [List.length_map];omega),aJ];simp only [];rw [dx hk,aJ];simp only [];rw [nJ hk,aJ];simp only [];have hfz:=ln (aV (ir 5 mark (l.map eC)));rw [show (r.1.1,(r.1.2.1,(r.1.2.2.1,(r.1.2.2.2.1,()))))=r.1 from rfl,rl hk g1.sz (aB aO m) (by omega),aJ];simp only [];have ha:=rQ g1 (aB aO m) (am (aV (ir 5 mark (l.map eC))));rw [show dW r (fun y=>j3 y (aB aO m) (am (aV (ir 5 mark (l.map eC)))))=j3 r.1 (aB aO m) (am (aV (ir 5 mark (l.map eC)))) by unfold dW;rw [c];rfl];generalize j3 r.1 (aB aO m) (am (aV (ir 5 mark (l.map eC))))=q at ha ⊢;unfold dW;cases c2:q.2==0 with
     | true =>simp only [aU];rw [aJ];simp only [];rw [np hk ha.sz,aJ,dc,aJ]
     | false=>simp only [aI,dc,aJ]
   · rw [n_ c];have e:dW r (fun y=>j3 y (aB aO m) (am (aV (ir 5 mark (l.map eC)))))=r:=by unfold dW;rw [n_ c];rfl
     rw [e];unfold dW;rw [n_ c];simp only [aI,dc,aJ]
 · obtain ⟨r,dir,a,recs⟩:=s;obtain ⟨g1,g2,g3,g4,g5,g6⟩:=hs;simp only [] at g1 g2 g3 g4 g5 g6 ih ⊢;have hi:i.toNat<l.length:=by omega
   have et:l.take (i+1).toNat=l.take i.toNat++[x]:=by rw [show (i+1).toNat=i.toNat+1 by omega,List.take_succ_eq_append_getElem hi];congr 2;rw [← hx];simp [List.getD,hi]
   simp only [eY.l0,eY.b0];rw [aK h1,aU];simp only [List.map_cons,List.cons_append,wX,E4];by_cases c:r.2=0
   · have hr:=mA (eC x);have hfz:=ln (aV (eC x));have hz:((am (aV (eC x))).size:Int)=d5 (eC x):=rfl;rw [show (r.2==0)=true by rw [c];rfl,aU,aF h0 h1,hx,Dt,aJ];simp only [];rw [dx hk,aJ];simp only [];rw [nJ hk,aJ];simp only [];rw [c8 hk,aJ];simp only [];rw [show (r.1.1,(r.1.2.1,(r.1.2.2.1,(r.1.2.2.2.1,()))))=r.1 from rfl,rl hk g1.sz (aB aO m) (by omega),aJ];simp only [];rw [b7 (by omega) (by decide),b7 (by omega) (by decide),hz,aC (n:=a+d5 (eC x)) (by omega) (by omega),aC (n:=i+1) (by omega) (by omega)];have ha:=rQ g1 (aB aO m) (am (aV (eC x)));rw [show dW r (fun y=>j3 y (aB aO m) (am (aV (eC x))))=j3 r.1 (aB aO m) (am (aV (eC x))) by unfold dW;rw [c];rfl,aU];exact ih (j3 r.1 (aB aO m) (am (aV (eC x))),(dir++[(x.1,(m,(a,(d5 (eC x),(x.2.2.1,())))))],(a+d5 (eC x),recs++[eC x]))) ⟨ha,fun _=>by simp only [];rw [g2 c,et,List.map_append];rfl,by simp only [];omega,by simp only [];omega,by simp only [];rw [sF,List.length_singleton];omega,by simp only [];rw [sF,List.length_singleton];omega⟩
   · rw [n_ c];have e:dW r (fun y=>j3 y (aB aO m) (am (aV (eC x))))=r:=by unfold dW;rw [n_ c];rfl
     rw [e,uh _ _ _ c];unfold dW;rw [n_ c];simp only [aI,dc,aJ]
noncomputable def G4 (m:Int) (s:ByteArray):ByteArray:=bz (gL m s).1
theorem Ks (nm:ByteArray):∀ (l m:oL) (r:RD),wX nm (l++m) r=wX nm m (wX nm l r)
 | [],_,_=>rfl
 | x::l,m,r=>by exact Ks nm l m (dW r fun y=>j3 y nm (am (aV x)))
theorem MD (nm:ByteArray):∀ (rs:oL) (r:RD),DR r.1→DR (wX nm rs r).1
 | [],_,h=>h
 | x::rs,r,h=>MD nm rs _ (jk h fun y hy=>rQ hy _ _)
theorem El (m:Int) (l:lA) (mark:Int) {d:Ty.d aA} (hd:DR d):DR (gI m l mark d).1 :=
 jk (MD _ _ _ (kX _ _ hd)) fun x hx=>oY hx _
theorem JZ {m:Int} {l:lA} {mark:Int} {d:Ty.d aA} (h:(gI m l mark d).2=0):E4 m l (cA (aB aO m) d) [] 0=mE m l 0:=by
 unfold gI at h;obtain ⟨z1,z2,_⟩:=nd h;unfold nl at z1;rw [Ks] at z1;have z3:(wX (aB aO m) (l.map eC) (cA (aB aO m) d)).2=0:=by
  by_cases w:(wX (aB aO m) (l.map eC) (cA (aB aO m) d)).2=0
  · exact w
  · rw [uh _ _ _ w] at z1;exact absurd z1 w
 have z0:(cA (aB aO m) d).2=0:=by
  by_cases w:(cA (aB aO m) d).2=0
  · exact w
  · rw [uh _ _ _ w] at z3;exact absurd z3 w
 rw [ID m l _ [] 0 z0 z3,List.nil_append]
theorem K7 {m:Int} (h0:1≤m) (h1:m+2≤100000):dp (j8 m)=true:=by
 have e:aH (m+2-1)=m+1:=by rw [aC (n:=m+2-1) (by omega) (by omega)];omega
 unfold dp j8;simp only [];rw [aK (show (1:Int)≤m+2∧m+2≤100000 from ⟨by omega,h1⟩),e];simp only [sD,pF,lq,List.length_nil];rw [aK (show (1:Int)≤m∧m≤m+1 from ⟨h0,by omega⟩),aK (show (1:Int)≤m+1∧m+1≤m+1 from ⟨by omega,by omega⟩),aK (show m<m+1 by omega)];rfl
theorem I2 (c:Int):(dX c != 0)=(c != 0):=by unfold bne;rw [gp]
theorem zF {k:Nat} (hk:2 ^ 50≤k) {st:Ty.d aG} (hl:dp st.1=true) (hn:LE.le (α:=Int) (st.1.1+2) 100000) {f:Ty.d aA} (hf:DR f) (dir:aX) :
 (rm (Ty.bytes (.int .i64)) (0+List.length st.1.2.1) ((fa.f k f (st.1.1+2,([st.1.1,st.1.1+1],()))).bind fun r16=>(bif (r16.2.1 != 0) then ((eT.f k ((st.1.1+2,st.1.2),st.2) r16.1 st.1.1 r16.2.1).bind fun r17=>(some r17)) else
  (cI.l0 k k 0 [st.1.1,st.1.1+1] dir (st.1.1+2) st.2.2.1 0 0 [] [] 0 0 0 0 [] 0 0 false r16.1.1 r16.1.2.1 r16.1.2.2.1 r16.1.2.2.2.1 ([]++st.1.2.1)))):cI.Rs) =
 some (oS (bif (cv (j8 st.1.1) f).2 != 0 then (uQ st,j7 (jC st.1.1) (tl (cv (j8 st.1.1) f))) else ((j8 st.1.1,(dir,(st.2.2.1,(0,(0,()))))),tl (qP st.1.2.1 (cv (j8 st.1.1) f).1)))):=by
 obtain ⟨n1,n2,n3,_⟩:=qy (n:=st.1.1) (ids:=st.1.2.1) hl;have h60:st.1.2.1.length≤60:=(eD (nx:=st.1.1) (ids:=st.1.2.1) hl).2.2.2.1;rw [b7 (by omega) (by decide),pH hk hf (v:=(st.1.1+2,([st.1.1,st.1.1+1],()))) (K7 n1 hn),aJ];rw [show ((st.1.1+2,([st.1.1,st.1.1+1],())):Ty.d bL)=j8 st.1.1 from rfl];have hp:=me (j8 st.1.1) f hf;generalize cv (j8 st.1.1) f=q at hp ⊢;simp only [];rw [I2];cases c:q.2 != 0 with
 | true =>simp only [aU];rw [show dX q.2=(tl q).2 from rfl,show q.1=(tl q).1 from rfl,sZ hk _ (r:=tl q) hp n1 n2,aJ];rfl
 | false =>simp only [aI,List.nil_append];rw [H9 hk _ _ _ _ _ _ _ (by omega) hp];rfl
theorem BK {k:Nat} (hk:2 ^ 50≤k) {st:Ty.d aG} {d:Ty.d aA} (hd:DR d) (hl:dp st.1=true) (hn:LE.le (α:=Int) (st.1.1+2) 100000) (hb0:LE.le (α:=Int) 1 st.2.2.1) (hb1:LE.le (α:=Int) st.2.2.1 1000001) {l:lA} (hlen:l.length≤1000000) :
 cI.f k st d l=some (oS (ff (G4 st.1.1) st d l)):=by
 obtain ⟨n1,n2,n3,_⟩:=qy (n:=st.1.1) (ids:=st.1.2.1) hl;have s1:=uZ st.1.1;have s2:=uZ (st.1.1+1);have s3:=tB (.inr rfl:bg=aO∨bg=bg) st.1.1;unfold cI.f cI.t;rw [aC (n:=st.2.2.1-1) (by omega) (by omega),aC (n:=st.1.1+2) (by omega) (by omega),aC (n:=st.1.1+1) (by omega) (by omega),BO hk hd _ hlen,aJ];simp only [];have a0:=El st.1.1 l (st.2.2.1-1) hd;have a1:=JZ (m:=st.1.1) (l:=l) (mark:=st.2.2.1-1) (d:=d);unfold ff;generalize E4 st.1.1 l (cA (aB aO st.1.1) d) [] 0=dir at a1 ⊢;generalize gI st.1.1 l (st.2.2.1-1) d=a at a0 a1 ⊢;rw [I2];cases ca:a.2 != 0 with
 | true =>simp only [aU];rw [show dX a.2=(tl a).2 from rfl,show a.1=(tl a).1 from rfl,sZ hk _ (r:=tl a) a0 n1 n2,aJ];rfl
 | false =>
  simp only [aI];rw [a1 (oB ca),c8 hk,aJ];simp only [];rw [oi hk a0 (by omega),aJ];simp only [];have b0:=kX (aB aO (st.1.1+1)) a.1 a0;generalize cA (aB aO (st.1.1+1)) a.1=b at b0 ⊢;cases cb:b.2 != 0 with
  | true =>simp only [aU];rw [dc,aJ];simp only [];rw [show dX b.2=(tl b).2 from rfl,show b.1=(tl b).1 from rfl,sZ hk _ (r:=tl b) b0 n1 n2,aJ];rfl
  | false =>
   have hl':=b0.sz.l;have hu':=b0.sz.u;have hn':=b0.sz.n;have ht:=gw b.1 (aB aO st.1.1);have hcap:LE.le (α:=Int) (dS b.1.1) 100000:=Int.le_trans b0.use b0.cap1;simp only [aI];rw [c8 hk,aJ];simp only [];rw [iu hk (by omega) (by omega) (by omega),aJ];simp only [];rw [uE hk _ (by omega),aJ,js hk,aJ];simp only [];rw [mW hk,aJ];simp only [];rw [xu hk b0 (by omega) (by have:=o7 (gL st.1.1 (ao b.1 (aB aO st.1.1)).1).1;omega),aJ];simp only [];unfold lJ;rw [show G4 st.1.1 (ao b.1 (aB aO st.1.1)).1=bz (gL st.1.1 (ao b.1 (aB aO st.1.1)).1).1 from rfl];have c0:=o9 (aB bg st.1.1) (bz (gL st.1.1 (ao b.1 (aB aO st.1.1)).1).1) b.1 b0;generalize lY (aB bg st.1.1) (bz (gL st.1.1 (ao b.1 (aB aO st.1.1)).1).1) b.1=e at c0 ⊢;cases ce:e.2==2 with
   | true =>
    simp only [aU];rw [aJ];simp only [];rw [oj hk c0 (by simp),aJ];simp only [];have d0:=nT [aB bg st.1.1] e.1 c0;generalize bm [aB bg st.1.1] e.1=f at d0 ⊢;cases cf:f.2 != 0 with
    | true =>simp only [aU];rw [dc,aJ];rfl
    | false =>simp only [aI];exact zF hk hl hn d0 _
   | false =>
    simp only [aI];cases cf:e.2 != 0 with
    | true =>simp only [aU];rw [dc,aJ];rfl
    | false =>simp only [aI];exact zF hk hl hn c0 _
noncomputable def nP (st:Ty.d aG) (d:Ty.d aA):Ty.d aG × RD :=
 bif !kL st d then (st,(d,4)) else bif decide (st.1.1+2 > 100000) then (st,(d,5)) else
 bif (mm st.2.1 d).2 != 0 then (st,(d,(mm st.2.1 d).2)) else ff (G4 st.1.1) st d (mm st.2.1 d).1
theorem zB {st:Ty.d aG} {d:Ty.d aA} (h:kL st d=true):LE.le (α:=Int) 1 st.2.2.1∧LE.le (α:=Int) st.2.2.1 1000001:=by unfold kL at h;simp only [lP,decide_eq_true_eq] at h;exact h.2.2.2.1
theorem E3 {k:Nat} (hk:2 ^ 50≤k) {st:Ty.d aG} {d:Ty.d aA} (hd:uN d) (h1:st.1.2.1.length≤1073741824) (h2:st.2.1.length≤536870912):lb.f k st d=some (oS (nP st d)):=by
 have ec:db.f k st=some (st,()):=by unfold db.f db.t;rw [b7 (by omega) (by decide),b7 (by omega) (by decide),List.nil_append,List.nil_append]
 unfold lb.f lb.t nP;rw [ec,aJ];simp only [];rw [ju k hd,aJ];simp only [];rw [vi hk hd,aJ];simp only [];cases c1:kL st d with
 | false=>rfl
 | true =>
  obtain ⟨g1,g2,g3⟩:=lk c1;obtain ⟨n1,n2,_,_⟩:=qy (n:=st.1.1) (ids:=st.1.2.1) g1.live;simp only [eQ,aI];rw [aC (n:=st.1.1+2) (by omega) (by omega)];by_cases c2:st.1.1+2 > (100000:Int)
  · rw [aK c2];rfl
  · rw [aN c2];simp only [aI];rw [Eb hk hd (by omega),aJ];simp only [];have hz:=wt st.2.1 d;obtain ⟨b1,b2⟩:=zB c1;cases (mm st.2.1 d).2 != 0 with
    | true=>rfl
    | false =>simp only [aI];rw [BK hk g1.disk g1.live (Int.not_lt.1 c2) b1 b2 (by omega),aJ]
abbrev ng:=Ty.d fm
def CI (c:ng):Prop:=(0:Int)≤c.2.1∧c.2.1≤(c.1.length:Int)∧c.1.length≤1048576
theorem CZ (y:Int):0≤aH (((BitVec.ofInt (IntKind.bits .i64) y &&& BitVec.ofInt (IntKind.bits .i64) 255).toNat:Int))∧aH (((BitVec.ofInt (IntKind.bits .i64) y &&& BitVec.ofInt (IntKind.bits .i64) 255).toNat:Int))≤255:=by
 have h:(BitVec.ofInt (IntKind.bits .i64) y &&& BitVec.ofInt (IntKind.bits .i64) 255).toNat≤255:=by rw [BitVec.toNat_and];exact Nat.le_trans Nat.and_le_right (by decide)
 rw [aC (by omega) (by omega)];omega
theorem KJ {k:Nat} (hk:2 ^ 50≤k) {l:List Int} (hl:l.length≤1048576):∃ c:ng,i7.f k l=some ((),(c,()))∧CI c:=by
 unfold i7.f i7.t;have key:∀ (d n:Nat) (i h:Int),(l.length:Int)-i=d→0≤i→d<n→∃ c:ng,i7.l0 k n l h i=some ((),(c,()))∧CI c:=by
  intro d
  induction d with
  | zero =>intro n i h h1 h2 hn;obtain ⟨n,rfl⟩:∃ q,n=q+1:=⟨n-1,by omega⟩;simp only [i7.l0,i7.b0];rw [aN (show ¬ i<(l.length:Int) by omega),aI];exact ⟨_,rfl,Int.le_refl _,by show (0:Int)≤(l.length:Int);omega,hl⟩
  | succ d ih =>
   intro n i h h1 h2 hn;obtain ⟨n,rfl⟩:∃ q,n=q+1:=⟨n-1,by omega⟩;simp only [i7.l0,i7.b0];rw [aK (show i<(l.length:Int) by omega),aU];by_cases c:i<4000
   · rw [aK c,aU,aF h2 (by omega),aC (n:=i+1) (by omega) (by omega)];exact ih n (i+1) _ (by omega) (by omega) (by omega)
   · rw [aN c,aI];exact ⟨_,rfl,Int.le_refl _,by show (0:Int)≤(l.length:Int);omega,hl⟩
 exact key l.length k 0 _ (by omega) (by omega) (by omega)
theorem C3 (k:Nat) {c:ng} (h:CI c):∃ (c':ng) (x:Int),fk.f k c=some (c',(x,()))∧CI c'∧0≤x∧x≤255:=by
 obtain ⟨b,i,hh,_⟩:=c;change Int at i;change Int at hh;obtain ⟨h1,h2,h3⟩:=h;have h1:0≤i:=h1;have h2:i≤(b.length:Int):=h2;have h3:b.length≤1048576:=h3;unfold fk.f fk.t;simp only [];by_cases q:i<(b.length:Int)
 · rw [aK q,aU,aF h1 q,aC (n:=i+1) (by omega) (by omega)];refine ⟨_,_,rfl,⟨by show (0:Int)≤i+1;omega,by show i+1≤(b.length:Int);omega,h3⟩,(CZ _).1,(CZ _).2⟩
 · rw [aN q,aI];exact ⟨_,_,rfl,⟨h1,h2,h3⟩,(CZ _).1,(CZ _).2⟩
theorem yr (k:Nat) {c:ng} (h:CI c) {n:Int} (h0:0<n) (h1:n≤256):∃ (c':ng) (x:Int),aj.f k c n=some (c',(x,()))∧CI c'∧0≤x∧x<n:=by
 obtain ⟨c',x,e,hc,hx0,hx1⟩:=C3 k h;unfold aj.f aj.t;rw [aN (show ¬ n≤0 by omega),aI,aK h1,aU,e,aJ];simp only [];rw [aN (show ¬ n=0 by omega),aI];have e2:Int.tmod x n=x % n:=Int.tmod_eq_emod_of_nonneg hx0;refine ⟨_,_,rfl,hc,?_,?_⟩
 · rw [e2];exact Int.emod_nonneg _ (by omega)
 · rw [e2];exact Int.emod_lt_of_pos _ h0
theorem Il (k:Nat) {c:ng} (h:CI c) {n:Int} (h0:0<n) (h1:n≤256):∃ (c':ng) (x:Bool),cy.f k c n=some (c',(x,()))∧CI c':=by obtain ⟨c',x,e,hc,_,_⟩:=yr k h h0 h1;unfold cy.f cy.t;rw [e,aJ];exact ⟨_,_,rfl,hc⟩
theorem Ld {k:Nat} (hk:2 ^ 50≤k) {l:List Int} (hl:l.length≤1048576):nW (i7.f k l) (fun r=>CI r.2.1):=by obtain ⟨c,e,h⟩:=KJ hk hl;exact ⟨_,e,h⟩
theorem t7 (k:Nat) {c:ng} (h:CI c):nW (fk.f k c) (fun r=>CI r.1∧0≤r.2.1∧r.2.1≤255):=by obtain ⟨c',x,e,h1,h2,h3⟩:=C3 k h;exact ⟨_,e,h1,h2,h3⟩
theorem mw (k:Nat) {c:ng} (h:CI c) {n:Int} (h0:0<n) (h1:n≤256):nW (aj.f k c n) (fun r=>CI r.1∧0≤r.2.1∧r.2.1<n):=by obtain ⟨c',x,e,q1,q2,q3⟩:=yr k h h0 h1;exact ⟨_,e,q1,q2,q3⟩
theorem zJ (k:Nat) {c:ng} (h:CI c) {n:Int} (h0:0<n):nW (aj.f k c n) (fun r=>CI r.1∧0≤r.2.1∧r.2.1<n):=by
 by_cases h1:n≤256
 · exact mw k h h0 h1
 unfold aj.f aj.t;refine nS (aN (by omega)) (nS (aN h1) ?_);refine cY (t7 k h) fun r1 q1=>?_
 refine cY (t7 k q1.1) fun r2 q2=>?_
 refine cY (t7 k q2.1) fun r3 q3=>?_
 refine cY (t7 k q3.1) fun r4 q4=>?_
 refine nS (aN (by omega)) (fB ⟨q4.1,?_⟩);obtain ⟨_,a0,a1⟩:=q1;obtain ⟨_,b0,b1⟩:=q2;obtain ⟨_,c0,c1⟩:=q3;obtain ⟨_,d0,d1⟩:=q4;simp only [];rw [aC (n:=r1.2.1*16777216) (by omega) (by omega),aC (n:=r2.2.1*65536) (by omega) (by omega),aC (n:=r3.2.1*256) (by omega) (by omega),aC (n:=r1.2.1*16777216+r2.2.1*65536) (by omega) (by omega),aC (n:=r1.2.1*16777216+r2.2.1*65536+r3.2.1*256) (by omega) (by omega),aC (n:=r1.2.1*16777216+r2.2.1*65536+r3.2.1*256+r4.2.1) (by omega) (by omega)];rw [Int.tmod_eq_emod_of_nonneg (by omega)];exact ⟨Int.emod_nonneg _ (by omega),Int.emod_lt_of_pos _ h0⟩
theorem yv (k:Nat) {c:ng} (h:CI c) {n:Int} (h0:0<n) (h1:n≤256):nW (cy.f k c n) (fun r=>CI r.1):=by obtain ⟨c',x,e,q1⟩:=Il k h h0 h1;exact ⟨_,e,q1⟩
theorem EX (k:Nat) {c:ng} (h:CI c) {l:List ByteArray} (h0:0<l.length) (h1:l.length≤256):nW (dF.f k c l) (fun r=>CI r.1∧r.2.1 ∈ l):=by
 unfold dF.f dF.t;refine cY (mw k h (by omega) (by omega)) fun r q=>?_
 refine yQ q.2.1 q.2.2 (fB ⟨q.1,fv ?_⟩);have:=q.2.1;have:=q.2.2;omega
theorem Fx (k:Nat) {c:ng} (h:CI c) {l:List Int} (h0:0<l.length) (h1:l.length≤256):nW (aQ.f k c l) (fun r=>CI r.1∧r.2.1 ∈ l):=by
 unfold aQ.f aQ.t;refine cY (mw k h (by omega) (by omega)) fun r q=>?_
 refine yQ q.2.1 q.2.2 (fB ⟨q.1,fv ?_⟩);have:=q.2.1;have:=q.2.2;omega
theorem JO (l:List Int):(bytesOf l).size=l.length:=by simp [bytesOf,ByteArray.size]
theorem La {k:Nat} (hk:2 ^ 50≤k) (st:Int) (m:Nat) (hm:m≤200):∀ (d n:Nat) (c:ng) (out:List Int),d<n→CI c→out.length+d≤m→nW (fi.l0 k n st (d:Int) c.1 c.2.1 c.2.2.1 out) (fun r=>CI r.1∧r.2.1.size≤m):=by
 intro d
 induction d with
 | zero =>intro n c out hn hc ho;obtain ⟨n,rfl⟩:∃ q,n=q+1:=⟨n-1,by omega⟩;simp only [fi.l0,fi.b0];refine nS (aN (by omega)) (fB ⟨hc,?_⟩);show (bytesOf out).size≤m;rw [JO];omega
 | succ d ih =>
  intro n c out hn hc ho;obtain ⟨n,rfl⟩:∃ q,n=q+1:=⟨n-1,by omega⟩;have hw:aH (((d+1:Nat):Int)-1)=(d:Int):=by rw [aC (by omega) (by omega)];omega
  simp only [fi.l0,fi.b0,hw];refine ow (aK (by omega)) ?_;refine cY (t7 k hc) fun r hr=>?_
  refine ib (fun _=>ib (fun _=>?_) (fun _=>?_)) (fun _=>ib (fun _=>?_) (fun _=>?_))
  all_goals exact wz (by omega) (by decide) (ih n r.1 _ (by omega) hr.1 (by rw [bK];omega))
theorem Je {k:Nat} (hk:2 ^ 50≤k) {c:ng} (h:CI c) {m:Int} (h0:0≤m) (h1:m≤200):nW (fi.f k c m) (fun r=>CI r.1∧(r.2.1.size:Int)≤m):=by
 unfold fi.f fi.t;rw [aC (n:=m+1) (by omega) (by omega)];refine cY (mw k h (by omega) (by omega)) fun r1 q1=>?_
 refine cY (mw k q1.1 (by omega) (by omega)) fun r2 q2=>?_
 obtain ⟨c2,a,b⟩:=q2;have:=La hk r1.2.1 m.toNat (by omega) r2.2.1.toNat k r2.1 [] (by omega) c2 (by simp only [List.length_nil];omega);rw [show ((r2.2.1.toNat:Nat):Int)=r2.2.1 by omega] at this;exact qu this fun r hr=>⟨hr.1,by have:=hr.2;omega⟩
theorem LV (k:Nat) {c:ng} (h:CI c):nW (ja.f k c) (fun r=>CI r.1):=by
 unfold ja.f ja.t;exact cY (EX k h (by decide) (by decide)) fun r q=>fB q.1
def Kk:oL→Int→Hd
 | [],_=>[]
 | r::l,a=>(a,(d5 r,(r,())))::Kk l (a+d5 r)
abbrev Nu:=List (Int × oL)
def Oi (x:Int × oL):bZ:=ic x.1 (Kk x.2 0)
def Oe:Nu→bZ
 | []=>[]
 | x::l=>Oi x++Oe l
structure TX (st:Ty.d aG) (d:Ty.d aA) (L:Nu):Prop where
 live:dp st.1=true
 disk:DR d
 ids:st.1.2.1=L.map (·.1)
 text:∀ x ∈ L,fT d (aB aO x.1)=some (jE x.2)∧∀ r ∈ x.2,k_ r=true
 tail:∀ t,fT d (k9 st)=some t→st.2.2.2.1=(t.size:Int)
abbrev OI:=aX × Int × Int
def Mn (pre:bZ) (p:Ty.d aD) (s:OI):OI :=
 bif p.2.2.2.1.1==3 then (bif nH p.2.2.2.1 (m6 p.2.2.2.1.2.1 pre) then (fc s.1 (m6 p.2.2.2.1.2.1 pre),BN p.2.2.2.1.2.1 s.2.1,qA (fc s.1 (m6 p.2.2.2.1.2.1 pre)) s.2.2) else (s.1,BN p.2.2.2.1.2.1 s.2.1,s.2.2)) else
 bif p.2.2.2.1.1==5 then (bif nH p.2.2.2.1 (iM pre) then (fc s.1 (iM pre),BN p.2.2.2.1.2.1 s.2.1,qA (fc s.1 (iM pre)) s.2.2) else (s.1,BN p.2.2.2.1.2.1 s.2.1,1)) else
 (s.1,BN p.2.2.2.1.2.1 s.2.1,s.2.2)
def gr (pre:bZ):bZ→OI→OI
 | [],s=>s
 | p::r,s=>bif s.2.2 != 0 then s else gr (pre++[p]) r (Mn pre p s)
structure JT (pl:bZ) (dir:aX) (b:Int):Prop where
 gr:∃ la,gr [] pl ([],0,0)=(dir,la,0)
 mark:iM pl=[]
 bat:∀ p ∈ pl,LT.lt (α:=Int) p.2.2.2.1.2.1 b
 lo:LE.le (α:=Int) 1 b
 hi:LE.le (α:=Int) b 1000001
def MI (st:Ty.d aG) (d:Ty.d aA):Prop:=∃ L,TX st d L∧JT (Oe L) st.2.1 st.2.2.1
theorem Gk (k:Nat) {n:Int} (h0:0≤n) (h1:n≤100000):jy.f k n=some (([],(n,(-1,(false,())))),()):=by unfold jy.f jy.t;rw [fC,aJ,aK ⟨h0,h1⟩];rfl
def dn (d:Ty.d aA):Bool:=d.2.2.2.1
def FU (d:Ty.d aA):Prop:=LT.lt (α:=Int) d.2.2.1 0∧dn d=false
theorem Ei {hb:ByteArray→ByteArray} {st:Ty.d aG} {d:Ty.d aA} {l:lA} (hd:DR d) (hl:dp st.1=true) (hn:LE.le (α:=Int) (st.1.1+2) 100000) (hdir:st.2.1.length≤268435456) (hlen:l.length≤268435456) :
 DR (ff hb st d l).2.1∧(ff hb st d l).1.1.2.1.length≤60∧(ff hb st d l).1.2.1.length≤268435456:=by
 have h60:st.1.2.1.length≤60:=(eD (nx:=st.1.1) (ids:=st.1.2.1) hl).2.2.2.1;have hs:DR (ff hb (st.1,([],st.2.2)) d l).2.1∧(ff hb (st.1,([],st.2.2)) d l).1.1.2.1.length≤60:=by have hIV:IV ((st.1,([],st.2.2)),(d,0)):=⟨hd,h60,Nat.zero_le _,fun x hx=>(by cases hx),Int.natCast_nonneg _⟩;obtain ⟨q1,_⟩:=Im (hb:=hb) hIV hl hn (l:=l) hlen;exact ⟨q1.disk,q1.ids⟩
 have he:=za st.1.1 l 0;unfold ff at hs ⊢;simp only [] at hs;generalize gI st.1.1 l (st.2.2.1-1) d=a at hs ⊢;cases ca:a.2 != 0 with
 | true=>rw [ca] at hs;exact ⟨hs.1,hs.2,hdir⟩
 | false =>
  rw [ca] at hs;simp only [aI] at hs ⊢;generalize cA (aB aO (st.1.1+1)) a.1=b at hs ⊢;cases cb:b.2 != 0 with
  | true=>rw [cb] at hs;exact ⟨hs.1,hs.2,hdir⟩
  | false =>
   rw [cb] at hs;simp only [aI] at hs ⊢;generalize lJ hb st.1.1 b.1=e at hs ⊢;cases ce:e.2 != 0 with
   | true=>rw [ce] at hs;exact ⟨hs.1,hs.2,hdir⟩
   | false =>
    rw [ce] at hs;simp only [aI] at hs ⊢;generalize cv (j8 st.1.1) e.1=f at hs ⊢;cases cf:f.2 != 0 with
    | true=>rw [cf] at hs;exact ⟨hs.1,hs.2,hdir⟩
    | false =>rw [cf] at hs;exact ⟨hs.1,hs.2,by show (mE st.1.1 l 0).length≤_;rw [he];exact hlen⟩
theorem HF {st:Ty.d aG} {d:Ty.d aA} (hd:DR d) (h1:st.1.2.1.length≤60) (h2:st.2.1.length≤268435456) :
 DR (nP st d).2.1∧(nP st d).1.1.2.1.length≤60∧(nP st d).1.2.1.length≤268435456:=by
 unfold nP;cases c1:kL st d with
 | false=>exact ⟨hd,h1,h2⟩
 | true =>
  obtain ⟨g1,g2,g3⟩:=lk c1;simp only [eQ,aI];by_cases c2:st.1.1+2 > (100000:Int)
  · rw [aK c2];exact ⟨hd,h1,h2⟩
  · rw [aN c2];simp only [aI];have hz:=wt st.2.1 d;cases (mm st.2.1 d).2 != 0 with
    | true=>exact ⟨hd,h1,h2⟩
    | false=>exact Ei hd g1.live (Int.not_lt.1 c2) h2 (by omega)
theorem Gm (s:ByteArray):(fQ s).1.2.1.length≤60:=by
 rcases lg (fun v=>dp v=true) bF ((0,([],())):Ty.d bL) s with ⟨r,h1,h2,h3⟩ | h
 · unfold fQ;rw [h3];exact (eD (nx:=r.1) (ids:=r.2.1) h1).2.2.2.1
 · unfold fQ;rw [h];exact Nat.zero_le _
theorem Jx {d:Ty.d aA}:(eM d).1.1.2.1.length≤60:=by
 have hv:=Gm (ao d j2).1;unfold eM;cases gP d with
 | false=>exact Nat.zero_le _
 | true =>
  cases d.2.2.2.1 with
  | true=>exact Nat.zero_le _
  | false =>
   cases (ao d j2).2 with
   | false =>
    show (rZ d).1.1.2.1.length≤60;unfold rZ;cases (lQ d).2==0
    · exact Nat.zero_le _
    · show 1≤60
      decide
   | true =>
    simp only [eQ,aI];cases (fQ (ao d j2).1).2 with
    | false=>exact Nat.zero_le _
    | true =>
     simp only [eQ,aI];generalize (fQ (ao d j2).1).1=v at hv ⊢;unfold sS;cases iO d v.2.1 with
     | false=>exact Nat.zero_le _
     | true =>
      simp only [eQ,aI];cases (jD (bH v.2.1) d).2 != 0 with
      | true=>exact Nat.zero_le _
      | false =>
       simp only [aI];generalize nM (jD (bH v.2.1) d).1 v.2.1=g;unfold ue;cases g.2.2.1 != 0 with
       | true=>exact Nat.zero_le _
       | false =>
        simp only [aI];cases (jb v.2.1 (jD (bH v.2.1) d).1).2 != 0 with
        | true=>exact Nat.zero_le _
        | false=>exact hv
def TV (t:Ty.d ai):Prop:=t.2.1.length≤20∧t.2.2.1.length≤50
structure EV (F:Prop × Prop) (e:Ty.d af):Prop where
 ids:e.2.1.1.2.1.length≤60
 dir:e.2.1.2.1.length≤268435456
 disk:DR e.2.2.1
 len:e.2.2.2.1.length≤3
 txn:∀ t ∈ e.2.2.2.1,TV t
 mi:F.1→e.1=true→dn e.2.2.1=false→MI e.2.1 e.2.2.1
 fu:F.2→FU e.2.2.1
theorem HO:TV (Ty.z ai):=⟨Nat.zero_le _,Nat.zero_le _⟩
theorem Jy:∀ t ∈ List.replicate 3 (Ty.z ai),TV t:=fun t ht=>by rw [List.eq_of_mem_replicate ht];exact HO
theorem qL {l:List (Ty.d ai)} (h:∀ t ∈ l,TV t) (i:Nat):TV (l.getD i (Ty.z ai)):=by
 by_cases c:i<l.length
 · exact h _ (fv c)
 · have:l.getD i (Ty.z ai)=Ty.z ai:=by simp [List.getD,c]
   rw [this];exact HO
theorem Ml {l:List (Ty.d ai)} (h:∀ t ∈ l,TV t) (i:Nat) {t:Ty.d ai} (ht:TV t):∀ x ∈ l.set i t,TV x:=fun x hx=>by
 rcases List.mem_or_eq_of_mem_set hx with q | q
 · exact h x q
 · rw [q];exact ht
theorem NM {F:Prop × Prop} {e:Ty.d af} (h:EV F e) (i:Nat) {t:Ty.d ai} (ht:TV t):EV F (e.1,(e.2.1,(e.2.2.1,(e.2.2.2.1.set i t,())))) :=
 ⟨h.ids,h.dir,h.disk,by show (List.set _ _ _).length≤3;rw [List.length_set];exact h.len,Ml h.txn i ht,h.mi,h.fu⟩
theorem z_ (k:Nat) {t:Ty.d ai} (h:TV t):fY.f k t=some (t,()):=by obtain ⟨h1,h2⟩:=h;unfold fY.f fY.t;rw [b7 (by omega) (by decide),b7 (by omega) (by decide),List.nil_append,List.nil_append]
theorem Fs {F:Prop × Prop} {k:Nat} (hk:2 ^ 50≤k) {e:Ty.d af} (h:EV F e):eR.f k e=some (e,()):=by
 have h1:=h.ids;have h2:=h.dir;have h3:=h.len;have ec:db.f k e.2.1=some (e.2.1,()):=by unfold db.f db.t;rw [b7 (by omega) (by decide),b7 (by omega) (by decide),List.nil_append,List.nil_append]
 unfold eR.f eR.t;rw [ec,aJ,ju k h.disk.sz,aJ];simp only [];refine (dG (L:=fun n i (s:List (Ty.d ai))=>eR.l0 k n i e.2.1.1.2.1 e.2.1.2.1 e.2.2.1.1 e.1 e.2.1.1.1 e.2.1.2.2.1 e.2.1.2.2.2.1 e.2.1.2.2.2.2.1 e.2.2.1.2.1 e.2.2.1.2.2.1 e.2.2.1.2.2.2.1 e.2.2.2.1 [] [] [] [] false 0 0 0 0 0 0 false s) (R:=fun r s=>(some ((e.1,(e.2.1,(e.2.2.1,(s++r,())))),()):eR.Rs)) (Ty.z ai) e.2.2.2.1 (fun i s=>(s.length:Int)≤i) (fun n s hs=>?_) (fun n i s x rest g0 g1 hx hr hp ih=>?_) (n:=k) (s:=[]) (by omega) (by decide)).trans (by rw [List.nil_append])
 · simp only [eR.l0,eR.b0];rw [aN (by omega),aI,List.append_nil]
 · have hm:x ∈ e.2.2.2.1:=by rw [← hx];exact fv (by omega)
   simp only [eR.l0,eR.b0];rw [aK g1,aU,aF g0 g1,hx,z_ k (h.txn x hm),aJ,aC (n:=i+1) (by omega) (by omega),b7 (by omega) (by decide)];refine (ih (s++[x]) (by rw [bK];omega)).trans ?_;rw [py];rfl
def nn:iy→ByteArray→Option (Ty.d aW)
 | [],_=>none
 | p::l,key=>match nn l key with
  | some q=>some q
  | none=>bif seq p.1 key then some p else none
def OW:Ty.d aW:=(ByteArray.empty,(false,(ByteArray.empty,())))
def xI (o:Option (Ty.d aW)):Ty.d aW × Bool × Unit:=match o with
 | none=>(OW,(false,()))
 | some p=>(p,(true,()))
theorem vr (key:ByteArray) (x:Ty.d aW):∀ l:iy,nn (l++[x]) key=bif seq x.1 key then some x else nn l key
 | []=>by show (match nn [] key with | some q=>some q | none=>bif seq x.1 key then some x else none)=_;rfl
 | p::l=>by
  show (match nn (l++[x]) key with | some q=>some q | none=>bif seq p.1 key then some p else none)=_;rw [vr key x l];cases seq x.1 key with
  | true=>rfl
  | false=>rfl
theorem rC {α:Type} {l:List α} {n:Nat} (z:α) (h:n<l.length):l.take (n+1)=l.take n++[l.getD n z]:=by rw [List.take_add_one];simp [List.getD,h]
theorem zY {k:Nat} (hk:2 ^ 50≤k) {t:Ty.d ai} (h:t.2.2.1.length≤1000) (key:ByteArray):eG.f k t key=some (xI (nn t.2.2.1 key)):=by
 have loop:∀ (m n:Nat) (i:Int),i+1=(m:Int)→m<n→m≤t.2.2.1.length→eG.l0 k n key i t.1 t.2.1 t.2.2.1 ByteArray.empty false ByteArray.empty=some (xI (nn (t.2.2.1.take m) key)):=by
  intro m
  induction m with
  | zero =>intro n i hi hn hm;obtain ⟨n,rfl⟩:∃ q,n=q+1:=⟨n-1,by omega⟩;simp only [eG.l0,eG.b0];rw [aN (by omega),aI];rfl
  | succ m ih =>
   intro n i hi hn hm;obtain ⟨n,rfl⟩:∃ q,n=q+1:=⟨n-1,by omega⟩;have hw:aH (i-1)=i-1:=aC (by omega) (by omega);have hi2:i.toNat=m:=by omega
   simp only [eG.l0,eG.b0,hw];rw [aK (by omega),aU,aF (by omega) (by omega),aF (by omega) (by omega),ih n (i-1) (by omega) (by omega) (by omega),rC (Ty.z aW) (by omega),vr,hi2];cases seq (List.getD t.2.2.1 m (Ty.z aW)).1 key <;> rfl
 unfold eG.f eG.t;rw [aC (n:=(t.2.2.1.length:Int)-1) (by omega) (by omega),loop t.2.2.1.length k _ (by omega) (by omega) (Nat.le_refl _),List.take_length]
def pO (ks:List ByteArray) (key:ByteArray):Bool:=ks.any fun s=>seq s key
def og (w:iy):List ByteArray:=w.foldl (fun ks p=>bif pO ks p.1 then ks else ks++[p.1]) []
def n7 (w:iy):iy:=(og w).map fun s=>(xI (nn w s)).1
theorem zo (w:iy) (p:Ty.d aW):og (w++[p])=bif pO (og w) p.1 then og w else og w++[p.1]:=by unfold og;rw [List.foldl_append];rfl
theorem Kd (a b:List ByteArray) (s:ByteArray):pO (a++b) s=(pO a s||pO b s):=List.any_append
theorem C0 (s:ByteArray):∀ w:iy,pO (og w) s=w.any fun p=>seq p.1 s:=by
 intro w;have key:∀ (w:iy) (ks:List ByteArray),pO (w.foldl (fun ks p=>bif pO ks p.1 then ks else ks++[p.1]) ks) s=(pO ks s||w.any fun p=>seq p.1 s):=by
  intro w
  induction w with
  | nil=>intro ks;exact (Bool.or_false _).symm
  | cons p w ih =>
   intro ks;rw [List.foldl_cons,ih,List.any_cons];cases c:pO ks p.1 with
   | false =>rw [aI,Kd,Bool.or_assoc];congr 2;show (seq p.1 s||false)=_;rw [Bool.or_false]
   | true =>
    rw [aU];cases q:seq p.1 s with
    | false=>rw [Bool.false_or]
    | true=>rw [dT.1 q] at c;rw [c];rfl
 exact key w []
theorem C5:∀ w:iy,(og w).length≤w.length:=by
 intro w;have key:∀ (w:iy) (ks:List ByteArray),(w.foldl (fun ks p=>bif pO ks p.1 then ks else ks++[p.1]) ks).length≤ks.length+w.length:=by
  intro w
  induction w with
  | nil=>intro ks;exact Nat.le_refl _
  | cons p w ih =>
   intro ks;have:=ih (bif pO ks p.1 then ks else ks++[p.1]);rw [List.foldl_cons,lq];cases c:pO ks p.1 with
   | true=>rw [c,aU] at this;rw [aU];omega
   | false=>rw [c,aI,bK] at this;rw [aI];omega
 have:=key w [];rw [List.length_nil,Nat.zero_add] at this;exact this
theorem sf (w:iy):(n7 w).length≤w.length:=by unfold n7;rw [List.length_map];exact C5 w
theorem uu {k:Nat} (hk:2 ^ 50≤k) {t:Ty.d ai} (h:t.2.2.1.length≤1000):bM.f k t=some (n7 t.2.2.1,()):=by
 have loop:∀ (m n:Nat) (i:Int),0≤i→i+(m:Int)=(t.2.2.1.length:Int)→m<n →
  bM.l0 k n i t.1 t.2.1 t.2.2.1 ((og (t.2.2.1.take i.toNat)).map fun s=>(xI (nn t.2.2.1 s)).1)=some (n7 t.2.2.1,()):=by
  intro m
  induction m with
  | zero =>intro n i h0 h1 hn;obtain ⟨n,rfl⟩:∃ q,n=q+1:=⟨n-1,by omega⟩;simp only [bM.l0,bM.b0];rw [aN (by omega),aI,show i.toNat=t.2.2.1.length by omega,List.take_length];rfl
  | succ m ih =>
   intro n i h0 h1 hn;obtain ⟨n,rfl⟩:∃ q,n=q+1:=⟨n-1,by omega⟩;have hw:aH (i+1)=i+1:=aC (by omega) (by omega);have hnext:=ih n (i+1) (by omega) (by omega) (by omega);rw [show (i+1).toNat=i.toNat+1 by omega,rC (Ty.z aW) (by omega),zo] at hnext;have hlen:=C5 (t.2.2.1.take i.toNat);rw [List.length_take] at hlen;have inner:∀ (d n':Nat) (b:Bool) (j:Int),0≤j→j+(d:Int)=i→d<n'→b=!(t.2.2.1.take j.toNat).any (fun p=>seq p.1 (List.getD t.2.2.1 i.toNat (Ty.z aW)).1) →
    bM.l1 k (bM.l0 k n) n' i b j t.1 t.2.1 t.2.2.1 ((og (t.2.2.1.take i.toNat)).map fun s=>(xI (nn t.2.2.1 s)).1)=some (n7 t.2.2.1,()):=by
    intro d
    induction d with
    | zero =>
     intro n' b j j0 j1 hn' hb;obtain ⟨n',rfl⟩:∃ q,n'=q+1:=⟨n'-1,by omega⟩;rw [show j.toNat=i.toNat by omega,← C0] at hb;simp only [bM.l1,bM.b1,hw];rw [aN (by omega),aI,hb];cases c:pO (og (t.2.2.1.take i.toNat)) (List.getD t.2.2.1 i.toNat (Ty.z aW)).1 with
     | true =>rw [c,aU] at hnext;exact hnext
     | false =>rw [c,aI,List.map_append] at hnext;simp only [rB,aU];rw [aF h0 (by omega),show (t.1,(t.2.1,(t.2.2.1,())))=t from rfl,zY hk h,aJ,b7 (by rw [List.length_map];omega) (by decide)];exact hnext
    | succ d ih2 =>
     intro n' b j j0 j1 hn' hb;obtain ⟨n',rfl⟩:∃ q,n'=q+1:=⟨n'-1,by omega⟩;have hj:aH (j+1)=j+1:=aC (by omega) (by omega);have ha:(t.2.2.1.take (j+1).toNat).any (fun p=>seq p.1 (List.getD t.2.2.1 i.toNat (Ty.z aW)).1)=((t.2.2.1.take j.toNat).any (fun p=>seq p.1 (List.getD t.2.2.1 i.toNat (Ty.z aW)).1)||seq (List.getD t.2.2.1 j.toNat (Ty.z aW)).1 (List.getD t.2.2.1 i.toNat (Ty.z aW)).1):=by rw [show (j+1).toNat=j.toNat+1 by omega,rC (Ty.z aW) (by omega),List.any_append];congr 1;show (_||false)=_;rw [Bool.or_false]
     simp only [bM.l1,bM.b1,hj];rw [aK (by omega),aU];cases b with
     | true =>rw [aU,aF j0 (by omega),aF h0 (by omega)];refine ih2 n' _ (j+1) (by omega) (by omega) (by omega) ?_;rw [ha,Bool.not_or,← hb,Bool.true_and]
     | false =>rw [aI];refine ih2 n' _ (j+1) (by omega) (by omega) (by omega) ?_;rw [ha,Bool.not_or,← hb,Bool.false_and]
   simp only [bM.l0,bM.b0];rw [aK (by omega),aU];exact inner i.toNat k true 0 (by omega) (by omega) (by omega) rfl
 unfold bM.f bM.t;exact loop t.2.2.1.length k 0 (by omega) (by omega) (by omega)
def zH (dir:aX) (key:ByteArray):Int:=match sj dir key with
 | none=>0
 | some e=>e.2.2.2.2.1
def pJ (rows:List (Ty.d bV)) (dir:aX):Bool:=rows.all fun r=>zH dir r.1==r.2.1
theorem G2 (o:Option (Ty.d a_)):∃ q:Ty.d a_ × Bool × Unit,Gi o=some q∧q.1.2.2.2.2.1=(match o with | none=>(0:Int) | some e=>e.2.2.2.2.1):=by cases o <;> exact ⟨_,rfl,rfl⟩
theorem D_ {k:Nat} (hk:2 ^ 50≤k) {t:Ty.d ai} (h:t.2.1.length≤1000) {dir:aX} (hd:dir.length≤268435456):iX.f k t dir=some (pJ t.2.1 dir,()):=by
 unfold iX.f iX.t pJ;refine dG (L:=fun n i (_:Unit)=>iX.l0 k n dir i t.1 t.2.1 t.2.2.1) (R:=fun r _=>some (r.all fun r=>zH dir r.1==r.2.1,())) (Ty.z bV) t.2.1 (fun _ _=>True) (fun n _ _=>?_) (fun n i _ x rest h0 h1 hx hr hp ih=>?_) (n:=k) (s:=()) (by omega) trivial
 · simp only [iX.l0,iX.b0];rw [aN (by omega),aI];rfl
 · have ih:=ih () trivial;obtain ⟨q,e1,e2⟩:=G2 (sj dir x.1);simp only [iX.l0,iX.b0];rw [aK h1,aU,aF h0 h1,hx,uV hk (by omega),e1,aJ,aF h0 h1,aC (n:=i+1) (by omega) (by omega),ih,List.all_cons];unfold bne;rw [show (q.1.2.2.2.2.1==x.2.1)=(zH dir x.1==x.2.1) by rw [e2];rfl];cases zH dir x.1==x.2.1 <;> rfl
def lT (rows:List (Ty.d bV)) (key:ByteArray):Option Int:=(rows.find? fun r=>seq r.1 key).map (·.2.1)
def lS (t:Ty.d ai) (key:ByteArray) (b:Int):Ty.d ai × Int :=
 bif !t.1 then (t,4) else bif !iJ key then (t,4) else match lT t.2.1 key with
 | some b'=>(t,bif b' != b then 7 else 0)
 | none=>bif decide ((t.2.1.length:Int)≥20) then (t,5) else ((t.1,(t.2.1++[(key,(b,()))],t.2.2)),0)
theorem D3 {k:Nat} (hk:2 ^ 50≤k) {t:Ty.d ai} (h:TV t) (key:ByteArray) (b:Int):gK.f k t key b=some ((lS t key b).1,((lS t key b).2,())):=by
 have h1:=h.1;unfold gK.f gK.t lS;rw [z_ k h,aJ];cases c1:t.1 with
 | false=>rfl
 | true =>
  simp only [eQ,aI];have hko:dA.f k key=some (iJ key,()):=m0 k key;rw [hko,aJ];simp only [];cases iJ key with
  | false=>rfl
  | true =>
   simp only [eQ,aI];rw [← c1];refine dG (L:=fun n i (_:Unit)=>gK.l0 k n key b i t.1 t.2.1 t.2.2.1 [] [] false t.2.1 t.2.2.1 t.1) (R:=fun r _=>some ((match lT r key with | some b'=>(t,bif b' != b then 7 else 0) | none=>bif decide ((t.2.1.length:Int)≥20) then (t,5) else ((t.1,(t.2.1++[(key,(b,()))],t.2.2)),0):Ty.d ai × Int).1,((match lT r key with | some b'=>(t,bif b' != b then 7 else 0) | none=>bif decide ((t.2.1.length:Int)≥20) then (t,5) else ((t.1,(t.2.1++[(key,(b,()))],t.2.2)),0):Ty.d ai × Int).2,()))) (Ty.z bV) t.2.1 (fun _ _=>True) (fun n _ _=>?_) (fun n i _ x rest g0 g1 hx hr hp ih=>?_) (n:=k) (s:=()) (by omega) trivial
   · simp only [gK.l0,gK.b0];rw [aN (by omega),aI];show _=some ((bif decide ((t.2.1.length:Int)≥20) then (t,5) else ((t.1,(t.2.1++[(key,(b,()))],t.2.2)),0):Ty.d ai × Int).1,((bif decide ((t.2.1.length:Int)≥20) then (t,5) else ((t.1,(t.2.1++[(key,(b,()))],t.2.2)),0):Ty.d ai × Int).2,()));cases decide ((t.2.1.length:Int)≥20) with
     | true=>rfl
     | false =>rw [aI,aI,b7 (by omega) (by decide)]
   · have ih:=ih () trivial;simp only [gK.l0,gK.b0];rw [aK g1,aU,aF g0 g1,hx,aC (n:=i+1) (by omega) (by omega),ih,aF g0 g1];have er:lT (x::rest) key=bif seq x.1 key then some x.2.1 else lT rest key:=by
      unfold lT;rw [List.find?_cons];cases seq x.1 key <;> rfl
     rw [er];cases seq x.1 key with
     | false=>rfl
     | true =>show (bif x.2.1 != b then _ else _)=some ((t,bif x.2.1 != b then 7 else 0).1,((t,bif x.2.1 != b then 7 else 0).2,()));cases x.2.1 != b <;> rfl
def jq (t:Ty.d ai) (p:Ty.d aW):Ty.d ai × Bool :=
 bif !t.1 then (t,false) else bif !gQ [p] then (t,false) else bif decide (((n7 (t.2.2.1++[p])).length:Int) > 8) then (t,false) else
 bif decide (((t.2.2.1++[p]).length:Int) > 50) then (t,false) else ((t.1,(t.2.1,(t.2.2.1++[p],()))),true)
theorem B9 {k:Nat} (hk:2 ^ 50≤k) {t:Ty.d ai} (h:TV t) (p:Ty.d aW):g_.f k t p=some ((jq t p).1,((jq t p).2,())):=by
 have h2:=h.2;have hz:(t.2.2.1++[p]).length=t.2.2.1.length+1:=bK ..;unfold g_.f g_.t jq;rw [z_ k h,aJ];cases t.1 with
 | false=>rfl
 | true =>
  simp only [eQ,aI];rw [qY hk _,aJ];simp only [];cases gQ [p] with
  | false=>rfl
  | true =>
   simp only [eQ,aI];rw [b7 (by omega) (by decide),uu hk (t:=(true,(t.2.1,((t.2.2.1++[p]),())))) (by show (t.2.2.1++[p]).length≤1000;omega),aJ];simp only [];cases decide (((n7 (t.2.2.1++[p])).length:Int) > 8) with
   | true=>rfl
   | false =>simp only [aI];cases decide (((t.2.2.1++[p]).length:Int) > 50) <;> rfl
def mM (c:Int):Ty.d ac:=(c,(ByteArray.empty,([],())))
def wT (e:Ty.d af) (i:Int) (t:Ty.d ai):Ty.d af:=(e.1,(e.2.1,(e.2.2.1,(e.2.2.2.1.set i.toNat t,()))))
def e_ (e:Ty.d af) (i:Int):Ty.d ai:=e.2.2.2.1.getD i.toNat (Ty.z ai)
abbrev um:=Ty.d af × Ty.d ac
noncomputable def BA (e:Ty.d af) (s:Ty.d aZ) (t:Ty.d ai) (p:Ty.d uI × Int):um :=
 bif p.2==3 then (e,mM p.2) else bif (lS t s.2.2.1 p.1.2.2.1).2 != 0 then (e,mM (lS t s.2.2.1 p.1.2.2.1).2) else
 (wT e s.2.1 (lS t s.2.2.1 p.1.2.2.1).1,(p.2,(p.1.2.1,([],()))))
noncomputable def w7 (e:Ty.d af) (s:Ty.d aZ):um :=
 bif !iJ s.2.2.1 then (e,mM 4) else match nn (e_ e s.2.1).2.2.1 s.2.2.1 with
 | some p=>bif p.2.1 then (e,mM 8) else (e,(0,(p.2.2.1,([],()))))
 | none=>BA e s (e_ e s.2.1) (lU e.2.1.2.1 e.2.2.1 s.2.2.1)
def LB:Ty.d ai:=(false,([],([],())))
noncomputable def lz (e:Ty.d af) (s:Ty.d aZ):um :=
 bif !pJ (e_ e s.2.1).2.1 e.2.1.2.1 then (wT e s.2.1 LB,mM 7) else
 ((e.1,((jj e.2.1 e.2.2.1 (n7 (e_ e s.2.1).2.2.1)).1,((jj e.2.1 e.2.2.1 (n7 (e_ e s.2.1).2.2.1)).2.1,(wT e s.2.1 LB).2.2.2))),mM (jj e.2.1 e.2.2.1 (n7 (e_ e s.2.1).2.2.1)).2.2)
def rM (s:Ty.d aZ):Ty.d aW:=(s.2.2.1,((s.1==4),(s.2.2.2.1,())))
def wl (e:Ty.d af) (s:Ty.d aZ):um :=
 bif !gQ [rM s] then (e,mM 4) else bif !(jq (e_ e s.2.1) (rM s)).2 then (e,mM 5) else (wT e s.2.1 (jq (e_ e s.2.1) (rM s)).1,mM 0)
noncomputable def q_ (e:Ty.d af) (s:Ty.d aZ):um :=
 bif s.1==1 then (wT e s.2.1 (true,([],([],()))),mM 0) else bif s.1==6 then (wT e s.2.1 LB,mM 0) else
 bif s.1==2 then w7 e s else bif s.1==5 then lz e s else wl e s
def y8 (e:Ty.d af) (s:Ty.d aZ):um :=
 bif !decide (0≤s.2.2.2.2.1∧s.2.2.2.2.1≤100000-(dS e.2.2.1.1:Int)) then (e,mM 4) else ((e.1,(e.2.1,((e.2.2.1.1,((dS e.2.2.1.1:Int)+s.2.2.2.2.1,e.2.2.1.2.2)),e.2.2.2))),mM 0)
noncomputable def ua (e:Ty.d af):um:=((e.1,((nP e.2.1 e.2.2.1).1,((nP e.2.1 e.2.2.1).2.1,e.2.2.2))),mM (nP e.2.1 e.2.2.1).2.2)
def Mo (e:Ty.d af):um:=((false,(j5,(e.2.2.1,(List.replicate 3 (Ty.z ai),())))),mM 0)
def BH (e:Ty.d af) (s:Ty.d aZ):Bool:=decide (0≤s.2.1∧s.2.1≤(e.2.2.2.1.length:Int)-1)&&(decide (1≤s.1∧s.1≤6)&&!((e_ e s.2.1).1==(s.1==1)))
noncomputable def dM (e:Ty.d af) (s:Ty.d aZ):um :=
 bif s.1==10 then (bif e.1 then (e,mM 4) else (kD (eM e.2.2.1),mM (eM e.2.2.1).2.2)) else
 bif s.1==11 then y8 e s else bif !e.1 then (e,mM 6) else bif s.1==7 then ua e else
 bif s.1==8 then (e,(0,(ByteArray.empty,(e.2.1.2.1.map (·.1),())))) else bif s.1==9 then Mo e else
 bif !BH e s then (e,mM 4) else q_ e s
def oE (q:um):Option (Ty.d af × Ty.d ac × Unit):=some (q.1,(q.2,()))
theorem ED {F:Prop × Prop} {k:Nat} (hk:2 ^ 50≤k) {e:Ty.d af} (h:EV F e) {s:Ty.d aZ} (h0:LE.le (α:=Int) 0 s.2.1) (h1:LT.lt (α:=Int) s.2.1 (e.2.2.2.1.length:Int)):gB.f k e s=oE (w7 e s):=by
 have ht:TV (e_ e s.2.1):=qL h.txn (Int.toNat s.2.1);have hdir:=h.dir;have hko:dA.f k s.2.2.1=some (iJ s.2.2.1,()):=m0 k s.2.2.1;unfold gB.f gB.t w7;rw [aF h0 h1,hko,aJ];simp only [];cases iJ s.2.2.1 with
 | false=>rfl
 | true =>
  simp only [eQ,aI];rw [show List.getD e.2.2.2.1 (Int.toNat s.2.1) (Ty.z ai)=e_ e s.2.1 from rfl,zY hk (by have:=ht.2;omega),aJ];cases nn (e_ e s.2.1).2.2.1 s.2.2.1 with
  | some p =>show (bif p.2.1 then _ else _)=_;cases hp:p.2.1 <;> simp only [hp] <;> rfl
  | none =>
   simp only [xI,aI];unfold BA;rw [zt hk h.disk.sz (by omega),aJ];simp only [];generalize lU e.2.1.2.1 e.2.2.1 s.2.2.1=p;cases p.2==3 with
   | true=>rfl
   | false =>
    simp only [aI];rw [D3 hk ht,aJ];simp only [];cases (lS (e_ e s.2.1) s.2.2.1 p.1.2.2.1).2 != 0 with
    | true=>rfl
    | false =>simp only [aI];rw [aF h0 h1];rfl
theorem AB {F:Prop × Prop} {k:Nat} (hk:2 ^ 50≤k) {e:Ty.d af} (h:EV F e) {s:Ty.d aZ} (h0:LE.le (α:=Int) 0 s.2.1) (h1:LT.lt (α:=Int) s.2.1 (e.2.2.2.1.length:Int)):dr.f k e s=oE (lz e s):=by
 have ht:TV (e_ e s.2.1):=qL h.txn (Int.toNat s.2.1);have hdir:=h.dir;have hids:=h.ids;have hn:=sf (e_ e s.2.1).2.2.1;have h2:=ht.2;unfold dr.f dr.t lz;rw [aF h0 h1,aF h0 h1,show List.getD e.2.2.2.1 (Int.toNat s.2.1) (Ty.z ai)=e_ e s.2.1 from rfl];simp only [];rw [D_ hk (by have:=ht.1;omega) hdir,aJ];simp only [];cases pJ (e_ e s.2.1).2.1 e.2.1.2.1 with
 | false=>rfl
 | true =>simp only [eQ,aI];rw [uu hk (by omega),aJ];simp only [];rw [BM hk h.disk.sz (by omega) (by omega) (by omega)];rfl
theorem DO {k:Nat} (hk:2 ^ 50≤k) {l:aX} (hl:l.length≤268435456):gH.f k l=some (l.map (·.1),()):=by
 unfold gH.f gH.t;refine (dG (L:=fun n i s=>gH.l0 k n l i s) (R:=fun r s=>some (s++r.map (·.1),())) (Ty.z a_) l (fun i s=>(s.length:Int)=i) (fun n s hs=>?_) (fun n i s x rest h0 h1 hx hr hp ih=>?_) (n:=k) (s:=[]) (by omega) rfl).trans (by rw [List.nil_append])
 · simp (disch:=omega) only [gH.l0,gH.b0,aN,aI,List.map_nil,List.append_nil]
 · have ih:=ih (s++[x.1]) (by rw [bK];omega);simp (disch:=first | omega | decide) only [gH.l0,gH.b0,aK h1,aU,aF,hx,b7,aC,ih,List.map_cons];rw [py];rfl
theorem FI {F:Prop × Prop} {k:Nat} (hk:2 ^ 50≤k) {e:Ty.d af} (h:EV F e) {s:Ty.d aZ} (h0:LE.le (α:=Int) 0 s.2.1) (h1:LT.lt (α:=Int) s.2.1 (e.2.2.2.1.length:Int)) :
 (bif (s.1==1) then (b9 s.2.1 (List.length e.2.2.2.1:Int) (let l11:=(List.set e.2.2.2.1 (Int.toNat s.2.1) (true,([],([],()))));(some ((e.1,(e.2.1,(e.2.2.1,(l11,())))),((0,(ByteArray.empty,([],()))),()))))) else
 (bif (s.1==6) then (b9 s.2.1 (List.length e.2.2.2.1:Int) (let l12:=(List.set e.2.2.2.1 (Int.toNat s.2.1) (false,([],([],()))));(some ((e.1,(e.2.1,(e.2.2.1,(l12,())))),((0,(ByteArray.empty,([],()))),()))))) else
 (bif (s.1==2) then ((gB.f k e s).bind fun r13=>(some r13)) else (bif (s.1==5) then ((dr.f k e s).bind fun r14=>(some r14)) else
 ((co.f k [(s.2.2.1,((s.1==4),(s.2.2.2.1,())))]).bind fun r15=>(bif (!r15.1) then (some (e,((4,(ByteArray.empty,([],()))),()))) else
 (b9 s.2.1 (List.length e.2.2.2.1:Int) ((g_.f k (List.getD e.2.2.2.1 (Int.toNat s.2.1) (Ty.z ai)) (s.2.2.1,((s.1==4),(s.2.2.2.1,())))).bind fun r16=>(bif (!r16.2.1) then (some (e,((5,(ByteArray.empty,([],()))),()))) else
 (b9 s.2.1 (List.length e.2.2.2.1:Int) (let l17:=(List.set e.2.2.2.1 (Int.toNat s.2.1) r16.1);(some ((e.1,(e.2.1,(e.2.2.1,(l17,())))),((0,(ByteArray.empty,([],()))),()))))))))))))):Option (Ty.d af × Ty.d ac × Unit))=oE (q_ e s):=by
 have ht:TV (e_ e s.2.1):=qL h.txn (Int.toNat s.2.1);unfold q_;rw [ED hk h h0 h1,AB hk h h0 h1,aF h0 h1,aF h0 h1];cases s.1==1 with
 | true=>rfl
 | false =>
  cases s.1==6 with
  | true=>rfl
  | false =>
   cases s.1==2 with
   | true=>rfl
   | false =>
    cases s.1==5 with
    | true=>rfl
    | false =>
     simp only [aI];unfold wl;rw [show ((s.2.2.1,((s.1==4),(s.2.2.2.1,()))):Ty.d aW)=rM s from rfl,qY hk,aJ];simp only [];cases gQ [rM s] with
     | false=>rfl
     | true =>
      simp only [eQ,aI];rw [aF h0 h1,show List.getD e.2.2.2.1 (Int.toNat s.2.1) (Ty.z ai)=e_ e s.2.1 from rfl,B9 hk ht,aJ];simp only [];cases (jq (e_ e s.2.1) (rM s)).2 with
      | false=>rfl
      | true =>simp only [eQ,aI];rw [aF h0 h1];rfl
theorem FD {F:Prop × Prop} {k:Nat} (hk:2 ^ 50≤k) {e:Ty.d af} (h:EV F e) (s:Ty.d aZ):cJ.f k e s=oE (dM e s):=by
 have hd:=h.disk;have hdir:=h.dir;have hids:=h.ids;have hlen:=h.len;have hsz:=hd.sz;have z1:=hsz.l;have z2:=hsz.u;have z3:=hsz.n;unfold cJ.f cJ.t dM;rw [Fs hk h,aJ];simp only [];cases s.1==10 with
 | true =>
  cases e.1 with
  | true=>rfl
  | false =>simp only [aU,aI];rw [uX hk hsz];rfl
 | false =>
  cases s.1==11 with
  | true =>
   simp only [aU,aI];have hu:=hd.use;have hc:=hd.cap1;have used_:mD.f k e.2.2.1=some ((dS e.2.2.1.1:Int),()):=by unfold mD.f mD.t;rw [kB hk (by omega) (by omega),aJ,lH.2 hd];simp only [eQ,aI];rw [tA hk (by omega) (by omega),aJ]
   have hu':LE.le (α:=Int) (dS e.2.2.1.1:Int) 100000:=Int.le_trans hu hc;rw [kB hk (by omega) (by omega),aJ,lH.2 hd];simp only [eQ,aI];rw [used_,aJ,fC,aJ];simp only [];unfold y8;rw [aC (n:=100000-(dS e.2.2.1.1:Int)) (by omega) (by omega)];by_cases q:0≤s.2.2.2.2.1∧s.2.2.2.2.1≤100000-(dS e.2.2.1.1:Int)
   · rw [aK q];simp only [eQ,aI];obtain ⟨N,hN⟩:∃ N:Int,N=s.2.2.2.2.1:=⟨_,rfl⟩;rw [aJ];simp only [];have q1:LE.le (α:=Int) 0 s.2.2.2.2.1:=q.1;have q2:LE.le (α:=Int) s.2.2.2.2.1 (100000-(dS e.2.2.1.1:Int)):=q.2;rw [← hN] at q1 q2 ⊢;rw [aC (n:=(dS e.2.2.1.1:Int)+N) (by omega) (by omega)];rfl
   · rw [aN q];rfl
  | false =>
   simp only [aI];cases up:e.1 with
   | false=>rfl
   | true =>
    simp only [eQ,aI];cases s.1==7 with
    | true =>simp only [aU];rw [E3 hk (st:=e.2.1) (d:=e.2.2.1) hsz (by omega) (by omega)];unfold ua;rw [up];rfl
    | false =>
     simp only [aI];cases s.1==8 with
     | true =>simp only [aU];rw [DO hk hdir];rfl
     | false =>
      simp only [aI];cases s.1==9 with
      | true =>simp only [aU];rw [xE (by omega) (by omega) (by decide)];rfl
      | false =>
       simp only [aI];rw [fC,aJ];simp only [];rw [aC (n:=(e.2.2.2.1.length:Int)-1) (by omega) (by omega)];unfold BH;by_cases q:0≤s.2.1∧s.2.1≤(e.2.2.2.1.length:Int)-1
       · have h0:LE.le (α:=Int) 0 s.2.1:=q.1;have h1:LT.lt (α:=Int) s.2.1 (e.2.2.2.1.length:Int):=by have q2:LE.le (α:=Int) s.2.1 ((e.2.2.2.1.length:Int)-1):=q.2;omega
         have hs:=FI hk h h0 h1;rw [aK q];simp only [eQ,aI,Bool.true_and];rw [fC,aJ];simp only [];cases decide ((1:Int)≤s.1∧s.1≤6) with
         | false=>rfl
         | true =>
          simp only [eQ,aI,Bool.true_and,Bool.not_not,bne];rw [aF h0 h1,show List.getD e.2.2.2.1 (Int.toNat s.2.1) (Ty.z ai)=e_ e s.2.1 from rfl];rw [show List.getD e.2.2.2.1 (Int.toNat s.2.1) (Ty.z ai)=e_ e s.2.1 from rfl,up] at hs;cases c1:s.1==1 with
          | true =>
           rw [c1] at hs;simp only [aU,eQ,aI] at hs ⊢;cases (e_ e s.2.1).1 with
           | true=>rfl
           | false=>exact hs
          | false =>
           rw [c1] at hs;simp only [aI,rB,aU] at hs ⊢;rw [aF h0 h1];cases (e_ e s.2.1).1 with
           | false=>rfl
           | true=>exact hs
       · rw [aN q];rfl
def lp (d:Ty.d aA):Ty.d aA:=(d.1,(d.2.1,(-1,(false,()))))
structure rR (d:Ty.d aA):Prop where
 up:d.2.2.2.1=false
 f0:LE.le (α:=Int) (-1) d.2.2.1
 f1:LE.le (α:=Int) d.2.2.1 100000
theorem qs {d:Ty.d aA} (h:rR d):gP (lp d)=gP d:=by have h0:=h.f0;have h1:=h.f1;have e:decide ((-1:Int)≤d.2.2.1∧d.2.2.1≤(100000:Int))=true:=aK ⟨h0,h1⟩;unfold gP;rw [e];rfl
theorem oG {d:Ty.d aA} (h:rR d):ao (lp d)=ao d:=by funext s;unfold ao;rw [qs h];rfl
def FR (r r':RD):Prop:=(r'.2=r.2∧r.2≠1∧r'.1=lp r.1∧rR r.1)∨(r.2=1∧r.1.2.2.2.1=true)
def LO (q q':Ty.d aG × RD):Prop:=(q'.1=q.1∧q'.2.2=q.2.2∧q.2.2≠1∧q'.2.1=lp q.2.1∧rR q.2.1)∨(q.2.2=1∧q.2.1.2.2.2.1=true)
theorem IF {d:Ty.d aA} (h:rR d) {c:Int} (hc:c≠1):FR (d,c) (lp d,c) := .inl ⟨rfl,hc,rfl,h⟩
theorem qE {d:Ty.d aA} (h:rR d) (st:Ty.d aG) {c:Int} (hc:c≠1):LO (st,(d,c)) (st,(lp d,c)) := .inl ⟨rfl,rfl,hc,rfl,h⟩
theorem L9 {r r':RD} (h:FR r r') (st:Ty.d aG):LO (st,r) (st,r'):=by
 rcases h with ⟨a,b,c,d⟩ | h
 · exact .inl ⟨rfl,a,b,c,d⟩
 · exact .inr h
theorem tW {d:Ty.d aA} (h:rR d) {g:bo→Int→bo × Int} (hg:∀ l c,(g l c).2≠1):FR (iZ d g) (iZ (lp d) g):=by
 have h0':=h.f0;have h1':=h.f1;obtain ⟨l,cap,fuel,dn,u⟩:=d;obtain rfl:dn=false:=h.up;obtain ⟨N,hN⟩:∃ N:Int,N=fuel:=⟨_,rfl⟩;obtain rfl:=hN;have h0:(-1:Int)≤N:=h0';have h1:N≤(100000:Int):=h1';have ed:=qs h;clear h0' h1';cases c:gP ((l,(cap,(N,(false,u)))):Ty.d aA) with
 | false =>
  rw [c] at ed;have e1:jG ((l,(cap,(N,(false,u)))):Ty.d aA)=((l,(cap,(N,(false,u)))),5):=by unfold jG;rw [c];rfl
  have e2:jG (lp (l,(cap,(N,(false,u)))))=(lp (l,(cap,(N,(false,u)))),5):=by unfold jG;rw [ed];rfl
  unfold iZ;rw [e1,e2];exact .inl ⟨rfl,(by omega:(5:Int)≠1),rfl,h⟩
 | true =>
  rw [c] at ed;have e2:jG (lp (l,(cap,(N,(false,u)))))=(lp (l,(cap,(N,(false,u)))),0):=by unfold jG;rw [ed];rfl
  by_cases q:N=0
  · subst q;have e1:jG ((l,(cap,((0:Int),(false,u)))):Ty.d aA)=((l,(cap,((0:Int),(true,())))),1):=by unfold jG;rw [c];rfl
    refine .inr ?_;unfold iZ;rw [e1];exact ⟨rfl,rfl⟩
  · have z:(N==0)=false:=n_ q;by_cases p:N = -1
    · have e1:jG ((l,(cap,(N,(false,u)))):Ty.d aA)=((l,(cap,(N,(false,u)))),0):=by
       unfold jG;rw [c];show (bif (N==0) then _ else bif decide ((N:Int) > 0) then _ else ((l,(cap,(N,(false,u)))),0))=_;rw [z,aI,aN (show ¬ N > 0 by omega),aI]
      unfold iZ;rw [e1,e2];exact .inl ⟨rfl,hg l cap,rfl,rfl,h0,h1⟩
    · have e1:jG ((l,(cap,(N,(false,u)))):Ty.d aA)=((l,(cap,(N-1,(false,u)))),0):=by
       unfold jG;rw [c];show (bif (N==0) then _ else bif decide ((N:Int) > 0) then ((l,(cap,(aH (N-1),(false,u)))),0) else ((l,(cap,(N,(false,u)))),0))=_;rw [z,aI,aK (show N > 0 by omega),aU,aC (n:=N-1) (by omega) (by omega)]
      unfold iZ;rw [e1,e2];refine .inl ⟨rfl,hg l cap,rfl,rfl,?_,?_⟩
      · show LE.le (α:=Int) (-1) (N-1);omega
      · show LE.le (α:=Int) (N-1) 100000;omega
theorem pi {r r':RD} {f f':Ty.d aA→RD} (h:FR r r') (hf:∀ x,rR x→FR (f x) (f' (lp x))):FR (dW r f) (dW r' f'):=by
 rcases h with ⟨a,b,c,d⟩ | ⟨a,b⟩
 · unfold dW;rw [a,c];cases q:r.2==0 with
   | true=>exact hf _ d
   | false=>exact .inl ⟨a,b,c,d⟩
 · unfold dW;rw [a];exact .inr ⟨a,b⟩
theorem qj {r r':RD} (h:FR r r'):FR (tl r) (tl r'):=by
 rcases h with ⟨a,b,c,d⟩ | ⟨a,b⟩
 · refine .inl ⟨by show dX _=dX _;rw [a],?_,c,d⟩;show dX r.2≠1;unfold dX;have e:(r.2==1)=false:=n_ b;rw [e];cases r.2==0 with
   | true=>exact (by omega:(0:Int)≠1)
   | false=>cases r.2==2 with
    | true=>exact (by omega:(2:Int)≠1)
    | false=>exact (by omega:(3:Int)≠1)
 · refine .inr ⟨?_,b⟩;show dX r.2=1;rw [a];rfl
theorem Nz (s:ByteArray) (l:bo) (c:Int):(wc s l c).2≠1:=by
 unfold wc;cases !kq s with
 | true=>exact (by omega:(5:Int)≠1)
 | false =>
  cases (cB l s).isSome with
  | true=>exact (by omega:(4:Int)≠1)
  | false=>cases decide ((l.length:Int)≥130) with
   | true=>exact (by omega:(2:Int)≠1)
   | false=>exact (by omega:(0:Int)≠1)
theorem Nx (s t:ByteArray) (l:bo) (c:Int):(AK s t l c).2≠1:=by
 unfold AK;cases (cB l s).isNone with
 | true=>exact (by omega:(3:Int)≠1)
 | false=>cases decide ((t.size:Int) > aH (c-(dS l:Int))) with
  | true=>exact (by omega:(2:Int)≠1)
  | false=>exact (by omega:(0:Int)≠1)
theorem Nn (s:ByteArray) (l:bo) (c:Int):(Av s l c).2≠1:=by
 unfold Av;cases (cB l s).isNone with
 | true=>exact (by omega:(3:Int)≠1)
 | false=>exact (by omega:(0:Int)≠1)
theorem Ns (a b:ByteArray) (l:bo) (c:Int):(y_ a b l c).2≠1:=by
 unfold y_;cases !kq b with
 | true=>exact (by omega:(5:Int)≠1)
 | false =>
  cases cB l a with
  | none=>exact (by omega:(3:Int)≠1)
  | some f=>cases seq a b with
   | true=>exact (by omega:(0:Int)≠1)
   | false=>exact (by omega:(0:Int)≠1)
theorem OD (s:ByteArray) (l:bo) (c:Int):(vn s l c).2≠1:=by
 unfold vn;cases (cB l s).isNone with
 | true=>exact (by omega:(3:Int)≠1)
 | false=>exact (by omega:(0:Int)≠1)
theorem Nr (s:ByteArray) (n:Int) (l:bo) (c:Int):(B3 s n l c).2≠1:=by
 unfold B3;cases cB l s with
 | none=>exact (by omega:(3:Int)≠1)
 | some f =>
  simp only [];cases !decide (0≤n∧n≤(f.2.1.size:Int)) with
  | true=>exact (by omega:(5:Int)≠1)
  | false=>exact (by omega:(0:Int)≠1)
def FF (f:Ty.d aA→RD):Prop:=∀ d,rR d→FR (f d) (f (lp d))
theorem zf (s:ByteArray):FF fun d=>jB d s:=fun d h=>tW h (Nn s)
theorem Gt (s t:ByteArray):FF fun d=>j3 d s t:=fun d h=>tW h (Nx s t)
theorem KF (s:ByteArray):FF fun d=>vF d s:=fun d h=>tW h (Nz s)
theorem NG (a b:ByteArray):FF fun d=>wq d a b:=fun d h=>tW h (Ns a b)
theorem My (s:ByteArray) (n:Int):FF fun d=>oW d s n:=fun d h=>tW h (Nr s n)
theorem Hs (s:ByteArray):FF (j9 s):=fun d h=>by
 show FR (bif (cB d.1 s).isSome then rO d s else (d,0)) (bif (cB d.1 s).isSome then rO (lp d) s else (lp d,0));cases (cB d.1 s).isSome with
 | true=>exact tW h (OD s)
 | false=>exact IF h (by omega)
theorem vL (s:ByteArray):FF (cA s):=fun d h=>pi (Hs s d h) (KF s)
theorem IM (s t:ByteArray):FF (lY s t):=fun d h=>pi (pi (vL s d h) (Gt s t)) (zf s)
theorem ux (v:Ty.d bL):FF (cv v):=fun d h=>pi (IM _ _ d h) (NG jm j2)
theorem tJ:∀ l:List ByteArray,FF (bm l)
 | [],d,h=>IF h (by omega)
 | s::l,d,h=>pi (Hs s d h) (tJ l)
theorem KS {d:Ty.d aA} (h:rR d) (ids:List Int):qC (lp d) ids=qC d ids:=by unfold qC;rw [qs h];rfl
theorem G1 (ids:List Int):FF (jb ids):=fun d h=>by unfold jb;rw [KS h];exact tJ _ d h
theorem qW {r r':RD} (h:FR r r') {st:Ty.d aG} {F:RD→RD} (hF:FR r r'→FR (F r) (F r')) (hd:r.2=1→(F r).2=1∧(F r).1.2.2.2.1=r.1.2.2.2.1)
 {G G':Ty.d aG × RD} (hG:r.2=0→rR r.1→r'.1=lp r.1→LO G G'):LO (bif r.2 != 0 then (st,F r) else G) (bif r'.2 != 0 then (st,F r') else G'):=by
 rcases id h with ⟨a,b,c,d⟩ | ⟨a,b⟩
 · rw [a];by_cases q:r.2=0
   · have e:(r.2 != 0)=false:=by unfold bne;rw [q];rfl
     rw [e];exact hG q d c
   · have e:(r.2 != 0)=true:=by unfold bne;rw [n_ q];rfl
     rw [e];exact L9 (hF h) st
 · have e:(r.2 != 0)=true:=by unfold bne;rw [a];rfl
   rw [e];obtain ⟨x,y⟩:=hd a;exact .inr ⟨x,y.trans b⟩
theorem s7 {r:RD} (h:r.2=1):(tl r).2=1∧(tl r).1.2.2.2.1=r.1.2.2.2.1:=⟨by show dX r.2=1;rw [h];rfl,rfl⟩
theorem tS (ns:List ByteArray) {r r':RD} (h:FR r r'):FR (j7 ns r) (j7 ns r'):=by
 unfold j7;rcases id h with ⟨a,b,c,d⟩ | ⟨a,b⟩
 · rw [a,c];cases q:r.2==2 with
   | false=>exact h
   | true =>
    simp only [aU];have hd:=tJ ns r.1 d;rcases hd with ⟨a2,b2,c2,d2⟩ | ⟨a2,b2⟩
    · rw [a2];refine .inl ⟨rfl,?_,c2,d2⟩;show (bif (bm ns r.1).2==0 then (2:Int) else dX (bm ns r.1).2)≠1;cases z:(bm ns r.1).2==0 with
      | true=>exact (by omega:(2:Int)≠1)
      | false =>
       have e:((bm ns r.1).2==1)=false:=n_ b2;unfold dX;rw [z,e];cases (bm ns r.1).2==2
       · exact (by omega:(3:Int)≠1)
       · exact (by omega:(2:Int)≠1)
    · refine .inr ⟨?_,b2⟩;show (bif (bm ns r.1).2==0 then (2:Int) else dX (bm ns r.1).2)=1;rw [a2];rfl
 · rw [a];exact .inr ⟨a,b⟩
theorem rP (ns:List ByteArray) {r:RD} (h:r.2=1):(j7 ns (tl r)).2=1∧(j7 ns (tl r)).1.2.2.2.1=r.1.2.2.2.1:=by
 have e:(tl r).2=1:=(s7 h).1;have:j7 ns (tl r)=tl r:=by unfold j7;rw [e];rfl
 rw [this];exact s7 h
theorem NE (st:Ty.d aG) {d:Ty.d aA} (h:rR d):LO (oX st d) (oX st (lp d)):=by
 unfold oX;cases decide ((st.1.2.1.length:Int)≥60) with
 | true=>exact qE h st (by omega)
 | false =>
  cases decide (st.1.1≥(100000:Int)) with
  | true=>exact qE h st (by omega)
  | false =>
   simp only [aI];have h1:=zf (k9 st) d h;simp only [] at h1;generalize jB d (k9 st)=r1 at h1 ⊢;generalize jB (lp d) (k9 st)=s1 at h1 ⊢;refine qW h1 qj (fun q=>s7 q) fun z1 u1 e1=>?_
   rw [e1];have h2:=vL (aB aO st.1.1) r1.1 u1;generalize cA (aB aO st.1.1) r1.1=r2 at h2 ⊢;generalize cA (aB aO st.1.1) (lp r1.1)=s2 at h2 ⊢;refine qW h2 qj (fun q=>s7 q) fun z2 u2 e2=>?_
   rw [e2];have h3:=ux (pE st) r2.1 u2;generalize cv (pE st) r2.1=r3 at h3 ⊢;generalize cv (pE st) (lp r2.1)=s3 at h3 ⊢;refine qW h3 (F:=fun r=>zd (aB aO st.1.1) (tl r)) (fun q=>tS [jm,aB aO st.1.1] (qj q)) (fun q=>rP [jm,aB aO st.1.1] q) fun z3 u3 e3=>?_
   exact .inl ⟨rfl,rfl,(by omega:(0:Int)≠1),e3,u3⟩
def FA (q q':(Ty.d aG × RD) × Ty.d aD):Prop:=(q'.1.1=q.1.1∧q'.1.2.2=q.1.2.2∧q.1.2.2≠1∧q'.1.2.1=lp q.1.2.1∧rR q.1.2.1∧q'.2=q.2)∨(q.1.2.2=1∧q.1.2.1.2.2.2.1=true)
theorem KB (st:Ty.d aG) {d:Ty.d aA} (h:rR d) (r:Ty.d bR):FA (pk st d r) (pk st (lp d) r):=by
 have h1:=Gt (k9 st) (am (aV r)) d h;simp only [] at h1;unfold pk;generalize j3 d (k9 st) (am (aV r))=r1 at h1 ⊢;generalize j3 (lp d) (k9 st) (am (aV r))=s1 at h1 ⊢;rcases id h1 with ⟨a,b,c,u⟩ | ⟨a,b⟩
 · rw [a];cases r1.2 != 0 with
   | true =>
    rcases qj h1 with ⟨a',b',c',u'⟩ | q
    · exact .inl ⟨rfl,a',b',c',u',rfl⟩
    · exact .inr q
   | false=>exact .inl ⟨rfl,rfl,(by omega:(0:Int)≠1),c,u,rfl⟩
 · have e:(r1.2 != 0)=true:=by unfold bne;rw [a];rfl
   rw [e];obtain ⟨x,y⟩:=s7 a;exact .inr ⟨x,y.trans b⟩
theorem Ma (st:Ty.d aG) {d:Ty.d aA} (h:rR d) (r:Ty.d bR):FA (kP st d r) (kP st (lp d) r):=by
 unfold kP;cases decide (st.2.2.2.1 > 0)&&decide (st.2.2.2.1+d5 r > 200) with
 | false=>exact KB st h r
 | true =>
  simp only [aU];have h1:=NE st h;generalize oX st d=q at h1 ⊢;generalize oX st (lp d)=q' at h1 ⊢;rcases h1 with ⟨a,b,c,e,u⟩ | ⟨a,b⟩
  · rw [b];cases z:q.2.2 != 0 with
    | true=>exact .inl ⟨a,b,c,e,u,rfl⟩
    | false =>simp only [aI];rw [a,e];exact KB q.1 u r
  · have z:(q.2.2 != 0)=true:=by unfold bne;rw [a];rfl
    rw [z];exact .inr ⟨a,b⟩
def FP (q q':(Ty.d aG × RD) × bZ):Prop:=(q'.1.1=q.1.1∧q'.1.2.2=q.1.2.2∧q.1.2.2≠1∧q'.1.2.1=lp q.1.2.1∧rR q.1.2.1∧q'.2=q.2)∨(q.1.2.2=1∧q.1.2.1.2.2.2.1=true)
theorem HU:∀ (l:oL) (st:Ty.d aG) (d:Ty.d aA) (ps:bZ),rR d→FP (kN l st d ps) (kN l st (lp d) ps)
 | [],st,d,ps,h => .inl ⟨rfl,rfl,(by omega:(0:Int)≠1),rfl,h,rfl⟩
 | r::l,st,d,ps,h=>by
  have h1:=Ma st h r;unfold kN;generalize kP st d r=q at h1 ⊢;generalize kP st (lp d) r=q' at h1 ⊢;rcases h1 with ⟨a,b,c,e,u,p⟩ | ⟨a,b⟩
  · rw [b];cases z:q.1.2.2 != 0 with
    | true=>exact .inl ⟨a,b,c,e,u,rfl⟩
    | false =>simp only [aI];rw [a,e,p];exact HU l _ _ _ u
  · have z:(q.1.2.2 != 0)=true:=by unfold bne;rw [a];rfl
    rw [z];exact .inr ⟨a,b⟩
theorem Hu {d:Ty.d aA} (h:rR d):iW (lp d)=iW d:=by funext e;unfold iW;rw [oG h]
theorem Es {d:Ty.d aA} (h:rR d) (tail:Int):∀ l:List Int,nC (lp d) tail l=nC d tail l
 | []=>rfl
 | x::l=>by unfold nC Er;rw [oG h,Es h tail l]
theorem Bd {d:Ty.d aA} (h:rR d) (st:Ty.d aG):kL st (lp d)=kL st d:=by
 have e:sG (lp d) st.2.2.1=sG d st.2.2.1:=by funext x;unfold sG;rw [Hu h]
 unfold kL;rw [qs h,Es h,e]
theorem HV {d:Ty.d aA} (h:rR d) (l:aX) (key:ByteArray):lU l (lp d) key=lU l d key:=by unfold lU;rw [Hu h]
theorem CB {d:Ty.d aA} (h:rR d) (l:aX):∀ (r:List ByteArray) (acc:lA),oH l (lp d) r acc=oH l d r acc
 | [],acc=>rfl
 | key::r,acc=>by unfold oH;rw [HV h,CB h l r]
theorem Kg {d:Ty.d aA} (h:rR d) (l:aX):mm l (lp d)=mm l d:=CB h l _ _
theorem JD (st:Ty.d aG) {d:Ty.d aA} (h:rR d) (l:iy):LO (jj st d l) (jj st (lp d) l):=by
 unfold jj;rw [Bd h];cases !kL st d with
 | true=>exact qE h st (by omega)
 | false =>
  cases !gQ l with
  | true=>exact qE h st (by omega)
  | false =>
   cases (l.length:Int)==0 with
   | true=>exact qE h st (by omega)
   | false =>
    cases decide (pc st.2.1 l > 20) with
    | true=>exact qE h st (by omega)
    | false =>
     cases decide (st.2.2.1 > (1000000:Int)) with
     | true=>exact qE h st (by omega)
     | false =>
      show LO (md st d l) (md st (lp d) l);have h1:=HU (sB l st.2.2.1) (Dn st) d [] h;unfold md;generalize kN (sB l st.2.2.1) (Dn st) d []=q at h1 ⊢;generalize kN (sB l st.2.2.1) (Dn st) (lp d) []=q' at h1 ⊢;unfold uB;rcases h1 with ⟨a,b,c,e,u,p⟩ | ⟨a,b⟩
      · rw [b];cases z:q.1.2.2 != 0 with
        | true=>exact .inl ⟨a,b,c,e,u⟩
        | false =>
         simp only [aI];rw [a,e,p];have h2:=zf (k9 q.1.1) q.1.2.1 u;simp only [] at h2;generalize jB q.1.2.1 (k9 q.1.1)=y at h2 ⊢;generalize jB (lp q.1.2.1) (k9 q.1.1)=y' at h2 ⊢;refine qW h2 qj (fun q=>s7 q) fun z2 u2 e2=>?_
         exact .inl ⟨rfl,rfl,(by omega:(0:Int)≠1),e2,u2⟩
      · have z:(q.1.2.2 != 0)=true:=by unfold bne;rw [a];rfl
        rw [z];exact .inr ⟨a,b⟩
theorem MB (nm:ByteArray):∀ (rs:oL) (r r':RD),FR r r'→FR (wX nm rs r) (wX nm rs r')
 | [],_,_,h=>h
 | x::rs,r,r',h=>MB nm rs _ _ (pi h (Gt nm (am (aV x))))
theorem Kj:∀ l:List Int,FF (qP l)
 | [],d,h=>IF h (by omega)
 | x::l,d,h=>pi (tJ _ d h) (Kj l)
theorem Lr (hb:ByteArray→ByteArray) (m:Int):FF (lJ hb m):=fun d h=>by
 unfold lJ;rw [oG h];have h1:=IM (aB bg m) (hb (ao d (aB aO m)).1) d h;generalize lY (aB bg m) (hb (ao d (aB aO m)).1) d=r at h1 ⊢;generalize lY (aB bg m) (hb (ao d (aB aO m)).1) (lp d)=r' at h1 ⊢;rcases id h1 with ⟨a,b,c,u⟩ | ⟨a,b⟩
 · rw [a,c];cases r.2==2 with
   | true=>exact tJ _ r.1 u
   | false=>exact h1
 · rw [a];exact .inr ⟨a,b⟩
theorem KQ (st:Ty.d aG) {d:Ty.d aA} (h:rR d):LO (nP st d) (nP st (lp d)):=by
 have hc:∀ l acc,(oH st.2.1 d l acc).2≠1:=fun l=>by
  induction l with
  | nil=>intro acc;exact (by omega:(0:Int)≠1)
  | cons key r ih =>
   intro acc;unfold oH;have hg:(lU st.2.1 d key).2≠1:=by
    unfold lU;cases sj st.2.1 key with
    | none=>exact (by omega:(8:Int)≠1)
    | some e =>
     simp only [];cases (iW d e).2&&(seq (iW d e).1.2.2.1 key&&(((iW d e).1.1==1)||((iW d e).1.1==4))) with
     | true=>exact (by omega:(0:Int)≠1)
     | false=>exact (by omega:(3:Int)≠1)
   cases (lU st.2.1 d key).2 != 0 with
   | true=>exact hg
   | false=>exact ih _
 unfold nP;rw [Bd h,Kg h];cases !kL st d with
 | true=>exact qE h st (by omega)
 | false =>
  cases decide (st.1.1+2 > (100000:Int)) with
  | true=>exact qE h st (by omega)
  | false =>
   cases q:(mm st.2.1 d).2 != 0 with
   | true=>exact qE h st (hc _ _)
   | false =>
    show LO (ff (G4 st.1.1) st d (mm st.2.1 d).1) (ff (G4 st.1.1) st (lp d) (mm st.2.1 d).1);generalize (mm st.2.1 d).1=l;have h1:FR (gI st.1.1 l (st.2.2.1-1) d) (gI st.1.1 l (st.2.2.1-1) (lp d)):=pi (MB _ _ _ _ (vL _ d h)) (zf _);unfold ff;generalize gI st.1.1 l (st.2.2.1-1) d=r1 at h1 ⊢;generalize gI st.1.1 l (st.2.2.1-1) (lp d)=s1 at h1 ⊢;refine qW h1 (F:=fun r=>j7 (jC st.1.1) (tl r)) (fun q=>tS _ (qj q)) (fun q=>rP _ q) fun z1 u1 e1=>?_
    rw [e1];have h2:=vL (aB aO (st.1.1+1)) r1.1 u1;generalize cA (aB aO (st.1.1+1)) r1.1=r2 at h2 ⊢;generalize cA (aB aO (st.1.1+1)) (lp r1.1)=s2 at h2 ⊢;refine qW h2 (F:=fun r=>j7 (jC st.1.1) (tl r)) (fun q=>tS _ (qj q)) (fun q=>rP _ q) fun z2 u2 e2=>?_
    rw [e2];have h3:=Lr (G4 st.1.1) st.1.1 r2.1 u2;generalize lJ (G4 st.1.1) st.1.1 r2.1=r3 at h3 ⊢;generalize lJ (G4 st.1.1) st.1.1 (lp r2.1)=s3 at h3 ⊢;refine qW h3 qj (fun q=>s7 q) fun z3 u3 e3=>?_
    rw [e3];have h4:=ux (j8 st.1.1) r3.1 u3;generalize cv (j8 st.1.1) r3.1=r4 at h4 ⊢;generalize cv (j8 st.1.1) (lp r3.1)=s4 at h4 ⊢;refine qW h4 (F:=fun r=>j7 (jC st.1.1) (tl r)) (fun q=>tS _ (qj q)) (fun q=>rP _ q) fun z4 u4 e4=>?_
    rw [e4];exact L9 (qj (Kj st.1.2.1 r4.1 u4)) _
theorem sQ {d:Ty.d aA} (h:rR d):gC (lp d)=gC d:=by funext x;unfold gC;rw [oG h]
theorem wD {d:Ty.d aA} (h:rR d):∀ l:List Int,iO (lp d) l=iO d l
 | []=>rfl
 | x::l=>by unfold iO u0;rw [oG h,sQ h,wD h l]
theorem ww {d:Ty.d aA} (h:rR d):∀ l:List Int,mL (lp d) l=mL d l
 | []=>rfl
 | x::l=>by unfold mL nG;rw [sQ h,ww h l]
theorem AQ {d:Ty.d aA} (h:rR d) (x:Int):mH (lp d) x=mH d x:=by unfold mH;rw [oG h]
theorem zV {d:Ty.d aA} (h:rR d) (x:Int):ma (lp d) x=ma d x:=by unfold ma;rw [oG h,sQ h,AQ h]
theorem J9 {d:Ty.d aA} (h:rR d) (ids:List Int):nM (lp d) ids=nM d ids:=by unfold nM;rw [zV h,AQ h,ww h,ww h]
theorem NK (x:Int):FF (jD x):=fun d h=>by
 unfold jD;rw [sQ h];refine pi ?_ (zf (aB aO x));cases decide ((cL (gC d x)).2<((gC d x).size:Int)) with
 | true=>exact My _ _ d h
 | false=>exact IF h (by omega)
theorem Ht {d:Ty.d aA} (h:rR d):LO (eM d) (eM (lp d)):=by
 have hup:=h.up;unfold eM;rw [qs h,oG h,hup];cases !gP d with
 | true=>exact qE h _ (by omega)
 | false =>
  simp only [aI];rw [show (lp d).2.2.2.1=false from rfl,aI];cases !(ao d j2).2 with
  | true =>
   simp only [aU];have h1:FR (lQ d) (lQ (lp d)):=pi (pi (G1 [] d h) (KF (aB aO 1))) (ux w8);unfold rZ;generalize lQ d=r1 at h1 ⊢;generalize lQ (lp d)=s1 at h1 ⊢;rcases id h1 with ⟨a,b,c,u⟩ | ⟨a,b⟩
   · rw [a];cases r1.2==0 with
     | true=>exact .inl ⟨rfl,rfl,(by omega:(0:Int)≠1),c,u⟩
     | false =>have:=L9 (qj h1) j5;unfold tl at this;rw [a] at this;exact this
   · rw [a];exact .inr ⟨rfl,b⟩
  | false =>
   simp only [aI];cases !(fQ (ao d j2).1).2 with
   | true=>exact qE h _ (by omega)
   | false =>
    simp only [aI];generalize (fQ (ao d j2).1).1=v;unfold sS;rw [wD h,sQ h];cases !iO d v.2.1 with
    | true=>exact qE h _ (by omega)
    | false =>
     simp only [aI];have h1:=NK (bH v.2.1) d h;generalize jD (bH v.2.1) d=r1 at h1 ⊢;generalize jD (bH v.2.1) (lp d)=s1 at h1 ⊢;refine qW h1 (F:=tl) qj (fun q=>s7 q) fun z1 u1 e1=>?_
     rw [e1,J9 u1,zV u1];unfold ue;cases (nM r1.1 v.2.1).2.2.1 != 0 with
     | true=>exact qE u1 _ (by omega)
     | false =>
      simp only [aI];have h2:=G1 v.2.1 r1.1 u1;generalize jb v.2.1 r1.1=r2 at h2 ⊢;generalize jb v.2.1 (lp r1.1)=s2 at h2 ⊢;refine qW h2 (F:=tl) qj (fun q=>s7 q) fun z2 u2 e2=>?_
      exact .inl ⟨rfl,rfl,(by omega:(0:Int)≠1),e2,u2⟩
def UQ (t:Ty.d ai):Prop:=t.2.1.Pairwise fun a b=>a.1≠b.1
theorem HR:UQ LB:=List.Pairwise.nil
theorem L6 {key:ByteArray}:∀ {l:List (Ty.d bV)},lT l key=none→∀ r ∈ l,r.1≠key:=by intro l h r hr q;unfold lT at h;rw [Option.map_eq_none_iff] at h;have:=List.find?_eq_none.1 h r hr;rw [Fz q] at this;exact this rfl
theorem KP {t:Ty.d ai} (h:UQ t) (key:ByteArray) (b:Int):UQ (lS t key b).1:=by
 unfold lS;cases !t.1 with
 | true=>exact h
 | false =>
  cases !iJ key with
  | true=>exact h
  | false =>
   simp only [aI];cases c:lT t.2.1 key with
   | some b'=>exact h
   | none =>
    show UQ (bif decide ((t.2.1.length:Int)≥20) then (t,5) else ((t.1,(t.2.1++[(key,(b,()))],t.2.2)),0):Ty.d ai × Int).1;cases decide ((t.2.1.length:Int)≥20) with
    | true=>exact h
    | false =>
     show (t.2.1++[(key,(b,()))]).Pairwise fun a b=>a.1≠b.1
     refine List.pairwise_append.2 ⟨h,List.pairwise_singleton _ _,fun x hx y hy=>?_⟩;rw [List.mem_singleton.1 hy];exact L6 c x hx
theorem Ix {t:Ty.d ai} (h:UQ t) (p:Ty.d aW):UQ (jq t p).1:=by
 unfold jq;cases !t.1 with
 | true=>exact h
 | false =>
  cases !gQ [p] with
  | true=>exact h
  | false =>
   cases decide (((n7 (t.2.2.1++[p])).length:Int) > 8) with
   | true=>exact h
   | false=>cases decide (((t.2.2.1++[p]).length:Int) > 50) <;> exact h
def UE (e:Ty.d af):Prop:=∀ t ∈ e.2.2.2.1,UQ t
theorem DV {e:Ty.d af} (h:UE e) (i:Int):UQ (e_ e i):=by
 unfold e_;by_cases c:i.toNat<e.2.2.2.1.length
 · exact h _ (fv c)
 · have:e.2.2.2.1.getD i.toNat (Ty.z ai)=Ty.z ai:=by simp [List.getD,c]
   rw [this];exact List.Pairwise.nil
theorem yt {e:Ty.d af} (h:UE e) (i:Int) {t:Ty.d ai} (ht:UQ t):UE (wT e i t):=fun x hx=>by
 rcases List.mem_or_eq_of_mem_set (show x ∈ e.2.2.2.1.set i.toNat t from hx) with q | q
 · exact h x q
 · rw [q];exact ht
theorem AG:∀ t ∈ List.replicate 3 (Ty.z ai),UQ t:=fun t ht=>by rw [List.eq_of_mem_replicate ht];exact List.Pairwise.nil
theorem Lo {e:Ty.d af} (h:UE e) (s:Ty.d aZ):UE (q_ e s).1:=by
 unfold q_;cases s.1==1 with
 | true=>exact yt h _ List.Pairwise.nil
 | false =>
  cases s.1==6 with
  | true=>exact yt h _ HR
  | false =>
   cases s.1==2 with
   | true =>
    show UE (w7 e s).1;unfold w7;cases !iJ s.2.2.1 with
    | true=>exact h
    | false =>
     rw [aI];cases nn (e_ e s.2.1).2.2.1 s.2.2.1 with
     | some p =>show UE (bif p.2.1 then (e,mM 8) else (e,(0,(p.2.2.1,([],())))):um).1;cases p.2.1 <;> exact h
     | none =>
      show UE (BA e s (e_ e s.2.1) (lU e.2.1.2.1 e.2.2.1 s.2.2.1)).1;unfold BA;cases (lU e.2.1.2.1 e.2.2.1 s.2.2.1).2==3 with
      | true=>exact h
      | false =>
       rw [aI];cases (lS (e_ e s.2.1) s.2.2.1 (lU e.2.1.2.1 e.2.2.1 s.2.2.1).1.2.2.1).2 != 0 with
       | true=>exact h
       | false=>exact yt h _ (KP (DV h _) _ _)
   | false =>
    cases s.1==5 with
    | true =>show UE (lz e s).1;unfold lz;cases !pJ (e_ e s.2.1).2.1 e.2.1.2.1 <;> exact yt h s.2.1 HR
    | false =>
     show UE (wl e s).1;unfold wl;cases !gQ [rM s] with
     | true=>exact h
     | false =>
      rw [aI];cases !(jq (e_ e s.2.1) (rM s)).2 with
      | true=>exact h
      | false=>exact yt h _ (Ix (DV h _) _)
theorem LA {e:Ty.d af} (h:UE e) (s:Ty.d aZ):UE (dM e s).1:=by
 unfold dM;cases s.1==10 with
 | true =>
  cases e.1 with
  | true=>exact h
  | false=>exact AG
 | false =>
  cases s.1==11 with
  | true =>show UE (y8 e s).1;unfold y8;cases !decide (0≤s.2.2.2.2.1∧s.2.2.2.2.1≤100000-(dS e.2.2.1.1:Int)) <;> exact h
  | false =>
   cases !e.1 with
   | true=>exact h
   | false =>
    cases s.1==7 with
    | true=>exact h
    | false =>
     cases s.1==8 with
     | true=>exact h
     | false =>
      cases s.1==9 with
      | true=>exact AG
      | false =>
       cases !BH e s with
       | true=>exact h
       | false=>exact Lo h s
theorem ro (k:Nat) {t:Ty.d ai} (h:TV t):eO.f k t=some (t,()):=by obtain ⟨h1,h2⟩:=h;unfold eO.f eO.t kJ.f kJ.t;rw [b7 (by omega) (by decide),b7 (by omega) (by decide)];rfl
theorem Gf {k:Nat} (hk:2 ^ 50≤k) {t:Ty.d ai} (h:t.2.2.1.length≤1000) (key:ByteArray):fM.f k t key=some (xI (nn t.2.2.1 key)):=by
 have loop:∀ (m n:Nat) (i:Int),i+1=(m:Int)→m<n→m≤t.2.2.1.length→fM.l0 k n key i t.1 t.2.1 t.2.2.1 ByteArray.empty false ByteArray.empty=some (xI (nn (t.2.2.1.take m) key)):=by
  intro m
  induction m with
  | zero =>intro n i hi hn hm;obtain ⟨n,rfl⟩:∃ q,n=q+1:=⟨n-1,by omega⟩;simp only [fM.l0,fM.b0];rw [aN (by omega),aI];rfl
  | succ m ih =>
   intro n i hi hn hm;obtain ⟨n,rfl⟩:∃ q,n=q+1:=⟨n-1,by omega⟩;have hw:aH (i-1)=i-1:=aC (by omega) (by omega);have hi2:i.toNat=m:=by omega
   simp only [fM.l0,fM.b0,hw];rw [aK (by omega),aU,aF (by omega) (by omega),aF (by omega) (by omega),ih n (i-1) (by omega) (by omega) (by omega),rC (Ty.z aW) (by omega),vr,hi2];cases seq (List.getD t.2.2.1 m (Ty.z aW)).1 key <;> rfl
 unfold fM.f fM.t;rw [aC (n:=(t.2.2.1.length:Int)-1) (by omega) (by omega),loop t.2.2.1.length k _ (by omega) (by omega) (Nat.le_refl _),List.take_length]
def xr:iy→Ty.d aW→iy
 | [],p=>[p]
 | q::l,p=>bif seq q.1 p.1 then p::l else q::xr l p
def t8 (key:ByteArray):iy→Int→Int→Int
 | [],_,at_=>at_
 | q::l,j,at_=>t8 key l (j+1) (bif seq q.1 key then j else at_)
theorem xJ {key:ByteArray}:∀ (l:iy) (j at_:Int),(∀ q ∈ l,q.1≠key)→t8 key l j at_=at_
 | [],_,_,_=>rfl
 | q::l,j,at_,h=>by unfold t8;rw [n8 (h q sM),aI,xJ l _ _ fun x hx=>h x (wW _ hx)]
theorem AM (p:Ty.d aW):∀ l:iy,l.Pairwise (fun a b=>a.1≠b.1)→((∀ q ∈ l,q.1≠p.1)∧xr l p=l++[p])∨∃ a q c,l=a++q::c∧xr l p=a++p::c∧∀ j at_:Int,t8 p.1 l j at_=j+(a.length:Int)
 | [],_ => .inl ⟨fun q h=>(by cases h),rfl⟩
 | q::l,h=>by
  obtain ⟨h1,h2⟩:=List.pairwise_cons.1 h;unfold xr;cases c:seq q.1 p.1 with
  | true =>refine .inr ⟨[],q,l,rfl,rfl,fun j at_=>?_⟩;unfold t8;rw [c,aU,xJ l _ _ fun x hx w=>h1 x hx (by rw [w];exact dT.1 c)];show j=j+((0:Nat):Int);omega
  | false =>
   have hq:q.1≠p.1:=fun w=>by rw [Fz w] at c;cases c
   rcases AM p l h2 with ⟨g1,g2⟩ | ⟨a,x,y,g1,g2,g3⟩
   · refine .inl ⟨fun x hx=>?_,by rw [aI,g2];rfl⟩;rcases List.mem_cons.1 hx with w | w
     · rw [w];exact hq
     · exact g1 x w
   · refine .inr ⟨q::a,x,y,by rw [g1];rfl,by rw [aI,g2];rfl,fun j at_=>?_⟩;unfold t8;rw [c,aI,g3,lq];omega
theorem Lv {a c:iy} {q p:Ty.d aW}:(a++q::c).set a.length p=a++p::c:=by simp
theorem K5 (p:Ty.d aW) {l:iy} (h:l.Pairwise fun a b=>a.1≠b.1):(bif decide (t8 p.1 l 0 (-1)≥0) then l.set (t8 p.1 l 0 (-1)).toNat p else l++[p])=xr l p:=by
 rcases AM p l h with ⟨g1,g2⟩ | ⟨a,x,y,g1,g2,g3⟩
 · rw [xJ l 0 (-1) g1,g2];rfl
 · rw [g3,g2,aK (by omega),aU,Int.zero_add,Int.toNat_natCast,g1,Lv]
theorem xc:∀ w:iy,(og w).Pairwise (·≠·):=by
 have key:∀ (w:iy) (ks:List ByteArray),ks.Pairwise (·≠·)→(w.foldl (fun ks p=>bif pO ks p.1 then ks else ks++[p.1]) ks).Pairwise (·≠·):=by
  intro w
  induction w with
  | nil=>exact fun ks h=>h
  | cons p w ih =>
   intro ks h;rw [List.foldl_cons];refine ih _ ?_;cases c:pO ks p.1 with
   | true=>exact h
   | false =>rw [aI];refine List.pairwise_append.2 ⟨h,List.pairwise_singleton _ _,fun x hx y hy q=>?_⟩;rw [List.mem_singleton.1 hy] at q;unfold pO at c;rw [List.any_eq_false] at c;exact c x hx (Fz q)
 exact fun w=>key w [] List.Pairwise.nil
theorem Ly {w:iy} {s:ByteArray}:(w.any fun p=>seq p.1 s)=true→∃ q,nn w s=some q∧q.1=s:=by
 induction w with
 | nil=>intro h;cases h
 | cons p w ih =>
  intro h;rw [List.any_cons] at h;unfold nn;cases c:nn w s with
  | some q =>
   cases d:w.any fun p=>seq p.1 s with
   | true =>obtain ⟨q',e1,e2⟩:=ih d;rw [c] at e1;cases e1;exact ⟨q,rfl,e2⟩
   | false =>
    exfalso;have:∀ w:iy,(w.any fun p=>seq p.1 s)=false→nn w s=none:=by
     intro w
     induction w with
     | nil=>intro _;rfl
     | cons x w ih2 =>intro hx;rw [List.any_cons,Bool.or_eq_false_iff] at hx;unfold nn;rw [ih2 hx.2,hx.1];rfl
    rw [this w d] at c;cases c
  | none =>
   cases d:seq p.1 s with
   | true=>exact ⟨p,rfl,dT.1 d⟩
   | false =>rw [d,Bool.false_or] at h;obtain ⟨q',e1,_⟩:=ih h;rw [c] at e1;cases e1
theorem yg {w:iy} {s:ByteArray} (h:s ∈ og w):(xI (nn w s)).1.1=s:=by
 have hh:pO (og w) s=true:=by unfold pO;rw [List.any_eq_true];exact ⟨s,h,cZ s⟩
 rw [C0] at hh;obtain ⟨q,e1,e2⟩:=Ly hh;rw [e1];exact e2
theorem HH (w:iy):(n7 w).Pairwise fun a b=>a.1≠b.1:=by
 unfold n7;rw [List.pairwise_map];refine (xc w).imp_of_mem fun ha hb q=>?_
 rw [yg ha,yg hb];exact q
theorem F9 {g:ByteArray→Ty.d aW} (p:Ty.d aW):∀ ks:List ByteArray,(∀ s ∈ ks,(g s).1=s)→ks.Pairwise (·≠·)→xr (ks.map g) p=ks.map (fun s=>bif seq p.1 s then p else g s)++bif pO ks p.1 then [] else [p]
 | [],_,_=>rfl
 | s::ks,h,hn=>by
  obtain ⟨n1,n2⟩:=List.pairwise_cons.1 hn;have ih:=F9 p ks (fun x hx=>h x (wW _ hx)) n2;rw [List.map_cons,List.map_cons];have e:pO (s::ks) p.1=(seq s p.1||pO ks p.1):=List.any_cons;rw [e];unfold xr;rw [h s sM];cases c:seq s p.1 with
  | true =>
   have es:s=p.1:=dT.1 c;rw [aU,← es,cZ,aU,Bool.true_or,aU,List.append_nil];congr 1;refine List.map_congr_left fun x hx=>?_
   rw [n8 (n1 x hx),aI]
  | false =>
   have es:p.1≠s:=fun w=>by rw [Fz w.symm] at c;cases c
   rw [aI,ih,n8 es,aI,Bool.false_or];rfl
theorem Ip (w:iy) (p:Ty.d aW):n7 (w++[p])=xr (n7 w) p:=by
 unfold n7;rw [F9 p (og w) (fun s hs=>yg hs) (xc w),zo];have e:(fun s=>(xI (nn (w++[p]) s)).1)=fun s=>bif seq p.1 s then p else (xI (nn w s)).1:=by funext s;rw [vr];cases seq p.1 s <;> rfl
 rw [e];cases pO (og w) p.1 with
 | true=>rw [aU,aU,List.append_nil]
 | false =>rw [aI,aI,List.map_append];congr 1;show [bif seq p.1 p.1 then p else _]=[p];rw [cZ];rfl
theorem HN {k:Nat} (hk:2 ^ 50≤k) {w:iy} (h:w.length≤1000):gb.f k w=some (n7 w,()):=by
 have loop:∀ (m n:Nat) (i:Int),0≤i→i+(m:Int)=(w.length:Int)→m<n→gb.l0 k n w (w.length:Int) i (n7 (w.take i.toNat))=some (n7 w,()):=by
  intro m
  induction m with
  | zero =>intro n i h0 h1 hn;obtain ⟨n,rfl⟩:∃ q,n=q+1:=⟨n-1,by omega⟩;simp only [gb.l0,gb.b0];rw [aN (by omega),aI,show i.toNat=w.length by omega,List.take_length]
  | succ m ih =>
   intro n i h0 h1 hn;obtain ⟨n,rfl⟩:∃ q,n=q+1:=⟨n-1,by omega⟩;have hw:aH (i+1)=i+1:=aC (by omega) (by omega);have hnext:=ih n (i+1) (by omega) (by omega) (by omega);rw [show (i+1).toNat=i.toNat+1 by omega,rC (Ty.z aW) (by omega),Ip] at hnext;have hlen:=sf (w.take i.toNat);rw [List.length_take] at hlen;obtain ⟨out,ho⟩:∃ out,out=n7 (w.take i.toNat):=⟨_,rfl⟩;have hnd:out.Pairwise fun a b=>a.1≠b.1:=by rw [ho];exact HH _
   rw [← ho] at hnext hlen ⊢;obtain ⟨p,hp⟩:∃ p,p=List.getD w i.toNat (Ty.z aW):=⟨_,rfl⟩;rw [← hp] at hnext;simp only [gb.l0,gb.b0];rw [aK (by omega),aU,aF h0 (by omega),← hp];have inner:∀ (d n':Nat) (at_ j:Int),0≤j→j+(d:Int)=(out.length:Int)→d<n' → -1≤at_→at_<(out.length:Int) →
    gb.l1 k (gb.l0 k n) n' at_ w (w.length:Int) i (out.length:Int) j out p.1 p.2.1 p.2.2.1=gb.l0 k n w (w.length:Int) (i+1) (bif decide (t8 p.1 (out.drop j.toNat) j at_≥0) then out.set (t8 p.1 (out.drop j.toNat) j at_).toNat p else out++[p]):=by
    intro d
    induction d with
    | zero =>
     intro n' at_ j j0 j1 hn' a0 a1;obtain ⟨n',rfl⟩:∃ q,n'=q+1:=⟨n'-1,by omega⟩;simp only [gb.l1,gb.b1,hw];rw [aN (by omega),aI,List.drop_eq_nil_of_le (show out.length≤j.toNat by omega)];show _=gb.l0 k n w (w.length:Int) (i+1) (bif decide (at_≥0) then out.set at_.toNat p else out++[p]);by_cases c:at_≥0
     · rw [aK c,aU,aU,aF c a1]
     · rw [aN c,aI,aI,b7 (by omega) (by decide)]
    | succ d ih2 =>
     intro n' at_ j j0 j1 hn' a0 a1;obtain ⟨n',rfl⟩:∃ q,n'=q+1:=⟨n'-1,by omega⟩;have hj:aH (j+1)=j+1:=aC (by omega) (by omega);have hd:out.drop j.toNat=List.getD out j.toNat (Ty.z aW)::out.drop (j+1).toNat:=by have:=p6 (Ty.z aW) (l:=out) (i:=j.toNat) (by omega);rw [show (j+1).toNat=j.toNat+1 by omega];exact this
     simp only [gb.l1,gb.b1,hj];rw [aK (by omega),aU,aF j0 (by omega),hd];unfold t8;cases seq (List.getD out j.toNat (Ty.z aW)).1 p.1 with
     | true=>exact ih2 n' j (j+1) (by omega) (by omega) (by omega) (by omega) (by omega)
     | false=>exact ih2 n' at_ (j+1) (by omega) (by omega) (by omega) a0 a1
   rw [inner out.length k (-1) 0 (by omega) (by omega) (by omega) (by omega) (by omega),show (0:Int).toNat=0 from rfl,List.drop_zero,K5 p hnd];exact hnext
 unfold gb.f gb.t;exact loop w.length k 0 (by omega) (by omega) (by omega)
theorem tQ {k:Nat} (hk:2 ^ 50≤k) {t:Ty.d ai} (h:t.2.2.1.length≤1000):eV.f k t=some (n7 t.2.2.1,()):=by unfold eV.f eV.t;rw [HN hk h];rfl
theorem Ds {k:Nat} (hk:2 ^ 50≤k) {t:Ty.d ai} (h:t.2.1.length≤1000) {dir:aX} (hd:dir.length≤268435456):i8.f k t dir=some (pJ t.2.1 dir,()):=by
 unfold i8.f i8.t pJ;refine dG (L:=fun n i (_:Unit)=>i8.l0 k n dir t.2.1 (t.2.1.length:Int) i) (R:=fun r _=>some (r.all fun r=>zH dir r.1==r.2.1,())) (Ty.z bV) t.2.1 (fun _ _=>True) (fun n _ _=>?_) (fun n i _ x rest h0 h1 hx hr hp ih=>?_) (n:=k) (s:=()) (by omega) trivial
 · simp only [i8.l0,i8.b0];rw [aN (by omega),aI];rfl
 · have ih:=ih () trivial;obtain ⟨q,e1,e2⟩:=G2 (sj dir x.1);simp only [i8.l0,i8.b0];rw [aK h1,aU,aF h0 h1,hx,uD hk (by omega),e1,aJ,aC (n:=i+1) (by omega) (by omega),ih,List.all_cons];unfold bne;rw [show (q.1.2.2.2.2.1==x.2.1)=(zH dir x.1==x.2.1) by rw [e2];rfl];cases zH dir x.1==x.2.1 <;> rfl
theorem DK {k:Nat} (hk:2 ^ 50≤k) {t:Ty.d ai} (h:TV t) (hu:UQ t) (key:ByteArray) (b:Int):gM.f k t key b=some ((lS t key b).1,((lS t key b).2,())):=by
 have h1:=h.1;unfold gM.f gM.t lS;rw [ro k h,aJ];cases c1:t.1 with
 | false=>rfl
 | true =>
  simp only [eQ,aI];have hko:eI.f k key=some (iJ key,()):=kv k key;rw [hko,aJ];simp only [];cases iJ key with
  | false=>rfl
  | true =>
   simp only [eQ,aI];rw [← c1];refine dG (L:=fun n i (kn:Bool)=>gM.l0 k n key b kn t.2.1 (t.2.1.length:Int) i t.1 t.2.1 t.2.2.1 [] [] false t.2.1 t.2.2.1 t.1) (R:=fun r kn=>bif kn then some (t,((0:Int),())) else some ((match lT r key with | some b'=>(t,bif b' != b then 7 else 0) | none=>bif decide ((t.2.1.length:Int)≥20) then (t,5) else ((t.1,(t.2.1++[(key,(b,()))],t.2.2)),0):Ty.d ai × Int).1,((match lT r key with | some b'=>(t,bif b' != b then 7 else 0) | none=>bif decide ((t.2.1.length:Int)≥20) then (t,5) else ((t.1,(t.2.1++[(key,(b,()))],t.2.2)),0):Ty.d ai × Int).2,()))) (Ty.z bV) t.2.1 (fun i kn=>kn=true→∀ x ∈ t.2.1.drop i.toNat,x.1≠key) (fun n kn _=>?_) (fun n i kn x rest g0 g1 hx hr hp ih=>?_) (n:=k) (s:=false) (by omega) (fun q=>by cases q)
   · simp only [gM.l0,gM.b0];rw [aN (by omega),aI];cases kn with
     | true=>rfl
     | false =>
      show _=some ((bif decide ((t.2.1.length:Int)≥20) then (t,5) else ((t.1,(t.2.1++[(key,(b,()))],t.2.2)),0):Ty.d ai × Int).1,((bif decide ((t.2.1.length:Int)≥20) then (t,5) else ((t.1,(t.2.1++[(key,(b,()))],t.2.2)),0):Ty.d ai × Int).2,()));rw [aI];cases decide ((t.2.1.length:Int)≥20) with
      | true=>rfl
      | false =>rw [aI,aI,b7 (by omega) (by decide)]
   · have er:lT (x::rest) key=bif seq x.1 key then some x.2.1 else lT rest key:=by
      unfold lT;rw [List.find?_cons];cases seq x.1 key <;> rfl
     have hrest:t.2.1.drop (i+1).toNat=rest:=by have:=congrArg (List.drop 1) hr;rw [List.drop_drop] at this;rw [show (i+1).toNat=i.toNat+1 by omega];exact this
     simp only [gM.l0,gM.b0];rw [aK g1,aU,aF g0 g1,hx,aC (n:=i+1) (by omega) (by omega),er];cases c:seq x.1 key with
     | false =>
      simp only [rB,aU,aI];refine ih kn fun q y hy=>hp q y ?_
      rw [hr];rw [hrest] at hy;exact wW _ hy
     | true =>
      simp only [eQ,aI,aU];cases kn with
      | true=>exact absurd (dT.1 c) (hp rfl x (by rw [hr];exact sM))
      | false =>
       show (bif x.2.1 != b then _ else _)=some ((t,bif x.2.1 != b then 7 else 0).1,((t,bif x.2.1 != b then 7 else 0).2,()));cases x.2.1 != b with
       | true=>rfl
       | false =>
        refine (ih true fun _ y hy q=>?_).trans rfl;rw [hrest] at hy;have hpw:(t.2.1.drop i.toNat).Pairwise fun a b=>a.1≠b.1:=List.Pairwise.sublist (List.drop_sublist _ _) hu
        rw [hr] at hpw;exact (List.pairwise_cons.1 hpw).1 y hy ((dT.1 c).trans q.symm)
theorem uL (k:Nat) (x:Ty.d aW):gS.f k x=some (gQ [x],()):=by
 have e:gS.f k x=some (lO x,()):=by unfold gS.f gS.t lO iJ;rw [kv,aJ];cases decide (1≤(x.1.size:Int)∧(x.1.size:Int)≤8) <;> cases decide ((x.2.2.1.size:Int)≤24) <;> cases x.2.1 <;> rfl
 rw [e];unfold gQ;show some (lO x,())=some ((lO x&&true)&&decide _,());rw [Bool.and_true,aK (by show (1:Nat)≤8;decide),Bool.and_true]
theorem B6 {k:Nat} (hk:2 ^ 50≤k) {t:Ty.d ai} (h:TV t) (p:Ty.d aW):jK.f k t p=some ((jq t p).1,((jq t p).2,())):=by
 have h2:=h.2;have hz:(t.2.2.1++[p]).length=t.2.2.1.length+1:=bK ..;unfold jK.f jK.t jq;rw [ro k h,aJ];simp only [];rw [b7 (by omega) (by decide)];cases t.1 with
 | false=>rfl
 | true =>
  simp only [eQ,aI];rw [uL,aJ];simp only [];cases gQ [p] with
  | false=>rfl
  | true =>
   simp only [eQ,aI];rw [tQ hk (t:=(true,(t.2.1,((t.2.2.1++[p]),())))) (by show (t.2.2.1++[p]).length≤1000;omega),aJ];simp only [];cases decide (((n7 (t.2.2.1++[p])).length:Int) > 8) with
   | true=>rfl
   | false =>simp only [aI];cases decide (((t.2.2.1++[p]).length:Int) > 50) <;> rfl
theorem zx {l:List (Ty.d ai)} {i:Nat} (h:i<l.length):l.set i (l.getD i (Ty.z ai))=l:=by
 have e:l.getD i (Ty.z ai)=l[i]:=by simp [List.getD,h]
 rw [e,List.set_getElem_self]
theorem BW {e:Ty.d af} {i:Int} (h0:LE.le (α:=Int) 0 i) (h1:LT.lt (α:=Int) i (e.2.2.2.1.length:Int)):wT e i (e_ e i)=e:=by unfold wT e_;rw [zx (by omega)]
theorem JJ {t:Ty.d ai} {key:ByteArray} {b:Int} (h:((lS t key b).2 != 0)=true):(lS t key b).1=t:=by
 unfold lS at h ⊢;cases c1:!t.1 with
 | true=>rfl
 | false =>
  cases c2:!iJ key with
  | true=>rfl
  | false =>
   rw [c1,c2] at h;simp only [aI] at h ⊢;cases c:lT t.2.1 key with
   | some b'=>rfl
   | none =>
    rw [c] at h;simp only [] at h ⊢;cases d:decide ((t.2.1.length:Int)≥20) with
    | true=>rfl
    | false=>rw [d] at h;cases h
theorem GQ {t:Ty.d ai} {p:Ty.d aW} (h:(jq t p).2=false):(jq t p).1=t:=by
 unfold jq at h ⊢;cases c1:!t.1 with
 | true=>rfl
 | false =>
  cases c2:!gQ [p] with
  | true=>rfl
  | false =>
   cases c3:decide (((n7 (t.2.2.1++[p])).length:Int) > 8) with
   | true=>rfl
   | false =>
    cases c4:decide (((t.2.2.1++[p]).length:Int) > 50) with
    | true=>rfl
    | false=>rw [c1,c2,c3,c4] at h;cases h
theorem IC (g:Ty.d aA→RD) (q:RD):wk g (tl q)=tl (dW q g):=by
 have e:=gp q.2;unfold wk dW tl;simp only [];rw [e];cases c:q.2==0 with
 | true=>rfl
 | false=>rfl
theorem FG (c:Int):(dX c==2)=(c==2):=by
 unfold dX;by_cases c0:c=0
 · subst c0;rfl
 by_cases c1:c=1
 · subst c1;rfl
 by_cases c2:c=2
 · subst c2;rfl
 rw [n_ c0,n_ c1,n_ c2];rfl
def yi (m:Int):oL→Int→aX
 | [],_=>[]
 | r::l,a=>(bif r.1==4 then [(r.2.2.1,(m,(a,(d5 r,(r.2.1,())))))] else [])++yi m l (a+d5 r)
theorem xN (m:Int) (mk:Ty.d bR) (hm:mk.1=5):∀ (l:lA) (a:Int),yi m (l.map eC++[mk]) a=mE m l a
 | [],a=>by show (bif mk.1==4 then [_] else [])++[]=_;rw [hm];rfl
 | p::l,a=>by show [_]++yi m (l.map eC++[mk]) (a+d5 (eC p))=_;rw [xN m mk hm l];rfl
theorem Ax {k:Nat} (hk:2 ^ 50≤k) {d:Ty.d aA} (hd:DR d) (m:Int) (hm0:1≤m) (hm1:m≤99999) {rs:oL} (hr:rs.length≤1000):bI.f k (wO (d,0)) m rs =
 some (wO (tl (dW (dW (wX (aB aO m) rs (cA (aB aO m) d)) fun y=>jB y (aB aO m)) (cA (aB aO (m+1))))),(yi m rs 0,())):=by
 have hz:=uZ m;have hz1:=uZ (m+1);unfold bI.f bI.t;rw [cr,aJ];simp only [];rw [rN hk (d,0) hd (by omega),aJ,p0];simp only [];refine dG (L:=fun n i (s:RD × Int × aX)=>bI.l0 k n m s.2.1 rs rs.length i s.1.1.1 s.1.1.2.1 s.1.1.2.2.1 s.1.1.2.2.2.1 (dX s.1.2) s.2.2)
  (R:=fun r s=>some (wO (tl (dW (dW (wX (aB aO m) r s.1) fun y=>jB y (aB aO m)) (cA (aB aO (m+1))))),(s.2.2++yi m r s.2.1,()))) (Ty.z bR) rs (fun i s=>DR s.1.1∧0≤s.2.1∧s.2.1≤211*i∧(s.2.2.length:Int)≤i) (fun n s hs=>?_) (fun n i s x rest h0 h1 hx hr' hs ih=>?_) (n:=k) (s:=(cA (aB aO m) d,0,[])) (by omega) ⟨kX _ _ hd,Int.le_refl _,by show (0:Int)≤211*0;omega,by show (0:Int)≤0;omega⟩
 · obtain ⟨q,a,o⟩:=s;obtain ⟨g1,g2,g3,g4⟩:=hs;simp only [bI.l0,bI.b0];rw [aN (by omega),aI,cr,aJ];simp only [];rw [show ((q.1.1,(q.1.2.1,(q.1.2.2.1,(q.1.2.2.2.1,())))),(dX q.2,()))=wO (tl q) from rfl,p7 hk (tl q) g1,aJ,IC];simp only [];rw [cr,aJ,aC (n:=m+1) (by omega) (by omega)];simp only [];rw [rN hk (tl (dW q fun y=>jB y (aB aO m))) (jk g1 fun x hx=>oY hx _) (by omega),aJ,IC];show _=some (_,(o++[],()));rw [List.append_nil];rfl
 · obtain ⟨q,a,o⟩:=s;obtain ⟨g1,g2,g3,g4⟩:=hs;simp only [] at g1 g2 g3 g4 ih ⊢;have hrl:=mA x;have hln:((am (aV x)).size:Int)=d5 x:=rfl;simp only [bI.l0,bI.b0];rw [aK h1,aU,aF h0 h1,hx,pG hk,aJ];simp only [];rw [oq hk,aJ];simp only [];rw [cr,aJ];simp only [];rw [show ((q.1.1,(q.1.2.1,(q.1.2.2.1,(q.1.2.2.2.1,())))),(dX q.2,()))=wO (tl q) from rfl,xF hk (tl q) g1 _ (by omega),aJ,IC];simp only [];have hD:DR (dW q fun y=>j3 y (aB aO m) (am (aV x))).1:=jk g1 fun y hy=>rQ hy _ _
   rw [hln,aC (n:=a+d5 x) (by omega) (by omega),aC (n:=i+1) (by omega) (by omega),b7 (by omega) (by decide)];have ihT:=ih ((dW q fun y=>j3 y (aB aO m) (am (aV x))),a+d5 x,o++[(x.2.2.1,(m,(a,(d5 x,(x.2.1,())))))]) ⟨hD,by simp only [];omega,by simp only [];omega,by simp only [];rw [bK];omega⟩;have ihF:=ih ((dW q fun y=>j3 y (aB aO m) (am (aV x))),a+d5 x,o) ⟨hD,by simp only [];omega,by simp only [];omega,by simp only [];omega⟩;show (bif x.1==4 then _ else _)=some (wO (tl (dW (dW (wX (aB aO m) rest (dW q fun y=>j3 y (aB aO m) (am (aV x)))) fun y=>jB y (aB aO m)) (cA (aB aO (m+1))))),(o++((bif x.1==4 then [(x.2.2.1,(m,(a,(d5 x,(x.2.1,())))))] else [])++yi m rest (a+d5 x)),()));cases x.1==4 with
   | true =>rw [aU,aU,← py];exact ihT
   | false =>rw [aI,aI,List.nil_append];exact ihF
theorem IZ (s:ByteArray) (x:Ty.d aA):tl (bm [s] x)=tl (j9 s x):=by
 show tl (dW (j9 s x) (bm []))=_;unfold dW;cases c:(j9 s x).2==0 with
 | true =>rw [q9 c];rfl
 | false=>rfl
theorem Cy {k:Nat} (hk:2 ^ 50≤k) {q:RD} (hq:DR q.1) (m:Int):dz.f k (wO (tl q)) m=some (wO (tl (dW q (lJ (G4 m) m))),()):=by
 unfold dz.f dz.t;rw [show (wO (tl q)).2.1=(tl q).2 from rfl,uW];cases c:q.2 != 0 with
 | true =>rw [aU];unfold dW;rw [show (q.2==0)=false by unfold bne at c;simpa using c];rfl
 | false =>
  have c0:=oB c;have hu:LE.le (α:=Int) (dS q.1.1) 100000:=Int.le_trans hq.use hq.cap1;have hn:=hq.sz.n;have hl:=hq.sz.l;have hz:=gw q.1 (aB aO m);have hb:(q.2==0)=true:=beq_iff_eq.2 c0;rw [aI,cr,aJ,q9 hb];simp only [];rw [show (wO (q.1,0)).1=q.1 from rfl,jv hk (by omega) (by omega) (by omega),aJ];simp only [];rw [uT hk m (by omega),aJ];simp only [];rw [mV,aJ];have hhl:=v8 m (s:=(ao q.1 (aB aO m)).1) (by omega);rw [oc hk hhl,aJ];simp only [];have hsz:=o7 (gL m (ao q.1 (aB aO m)).1).1;have hhz:(aB bg m).size≤1099511627776:=by
   unfold aB;by_cases h:(1:Int)≤m∧m≤100000
   · rw [aK h,aU,ByteArray.size_append];have:=ny (n:=m) (by omega) (by omega);have:bg.size=4:=rfl;omega
   · rw [aN h];exact Nat.zero_le _
  rw [zw hk (q.1,0) hq hhz (by omega),aJ,p0];simp only [];unfold dW lJ;rw [hb,aU,show G4 m (ao q.1 (aB aO m)).1=bz (gL m (ao q.1 (aB aO m)).1).1 from rfl];have hD:=o9 (aB bg m) (bz (gL m (ao q.1 (aB aO m)).1).1) q.1 hq;generalize lY (aB bg m) (bz (gL m (ao q.1 (aB aO m)).1).1) q.1=f at hD ⊢;rw [show (wO (tl f)).2.1=dX f.2 from rfl,FG];cases c2:f.2==2 with
  | false=>rfl
  | true =>rw [aU,aU,aJ];simp only [];rw [show ((wO (tl f)).1,((0:Int),()))=wO (f.1,0) from rfl,mf hk (f.1,0) hD,aJ,p0,IZ]
theorem Lq (d:Ty.d aA) (s:ByteArray):(rO d s).2≠2:=by
 unfold rO iZ;have hb:(jG d).2≠2:=by
  unfold jG;cases !gP d with
  | true=>show (5:Int)≠2;decide
  | false =>
   cases d.2.2.2.1 with
   | true=>show (1:Int)≠2;decide
   | false =>
    cases d.2.2.1==0 with
    | true=>show (1:Int)≠2;decide
    | false=>cases decide ((d.2.2.1:Int) > 0) <;> (show (0:Int)≠2;decide)
 cases (jG d).2 != 0 with
 | true=>exact hb
 | false =>
  show (vn s d.1 d.2.1).2≠2;unfold vn;cases (cB d.1 s).isNone with
  | true=>show (3:Int)≠2;decide
  | false=>show (0:Int)≠2;decide
theorem Jh (hb:ByteArray→ByteArray) (m:Int) (d:Ty.d aA):(lJ hb m d).2≠2:=by
 unfold lJ;generalize lY (aB bg m) (hb (ao d (aB aO m)).1) d=f;cases c:f.2==2 with
 | false=>exact beq_eq_false_iff_ne.1 c
 | true =>
  show (dW (j9 (aB bg m) f.1) (bm [])).2≠2;have hg:(j9 (aB bg m) f.1).2≠2:=by
   unfold j9;cases (cB f.1.1 (aB bg m)).isSome with
   | true=>exact Lq _ _
   | false=>show (0:Int)≠2;decide
  unfold dW;cases (j9 (aB bg m) f.1).2==0 with
  | true=>show (0:Int)≠2;decide
  | false=>exact hg
theorem H2 {ns:List ByteArray} {r:RD} (h:(r.2==2)=false):j7 ns r=r:=by unfold j7;rw [h];rfl
theorem EH (hb:ByteArray→ByteArray) (st:Ty.d aG) (d:Ty.d aA) (l:lA) {a q3 q4:RD} (ea:a=gI st.1.1 l (st.2.2.1-1) d) (e3:q3=dW (dW a (cA (aB aO (st.1.1+1)))) (lJ hb st.1.1)) (e4:q4=dW q3 (cv (j8 st.1.1))) :
 ff hb st d l=bif q3.2==0 then (bif q4.2 != 0 then (uQ st,j7 (jC st.1.1) (tl q4)) else ((j8 st.1.1,(mE st.1.1 l 0,(st.2.2.1,(0,(0,()))))),tl (qP st.1.2.1 q4.1))) else (uQ st,j7 (jC st.1.1) (tl q3)):=by
 have sz:∀ (r:RD) (f:Ty.d aA→RD),(r.2 != 0)=false→dW r f=f r.1:=fun r f h=>by unfold dW;rw [oB h];rfl
 have sn:∀ (r:RD) (f:Ty.d aA→RD),(r.2 != 0)=true→dW r f=r:=fun r f h=>by unfold dW;rw [show (r.2==0)=false by unfold bne at h;simpa using h];rfl
 have nz:∀ r:RD,(r.2 != 0)=true→(r.2==0)=false:=fun r h=>by unfold bne at h;simpa using h
 unfold ff;rw [← ea];cases ca:a.2 != 0 with
 | true =>rw [sn a _ ca,sn a _ ca] at e3;rw [e3,nz a ca];rfl
 | false =>
  rw [sz a _ ca] at e3;simp only [aI];generalize cA (aB aO (st.1.1+1)) a.1=b at e3 ⊢;cases cb:b.2 != 0 with
  | true =>rw [sn b _ cb] at e3;rw [e3,nz b cb];rfl
  | false =>
   rw [sz b _ cb] at e3;simp only [aI];have h2:=Jh hb st.1.1 b.1;rw [← e3] at h2 ⊢;cases ce:q3.2 != 0 with
   | true =>rw [nz q3 ce];simp only [aU,aI];rw [H2];show (dX q3.2==2)=false;rw [FG];exact n_ h2
   | false =>rw [sz q3 _ ce] at e4;rw [← e4,oB ce];rfl
theorem BB {k:Nat} (hk:2 ^ 50≤k) {st:Ty.d aG} {d:Ty.d aA} (hl:dp st.1=true) (hd:DR d) (hn:LE.le (α:=Int) (st.1.1+2) 100000) (hb0:LE.le (α:=Int) 1 st.2.2.1) (hb1:LE.le (α:=Int) st.2.2.1 1000001) {l:lA} (hlen:l.length≤900) :
 cT.f k st (d,(0,())) l=some ((ff (G4 st.1.1) st d l).1,(wO (ff (G4 st.1.1) st d l).2,())):=by
 obtain ⟨n1,n2,n3,_⟩:=qy (n:=st.1.1) (ids:=st.1.2.1) hl;have h60:st.1.2.1.length≤60:=(eD (nx:=st.1.1) (ids:=st.1.2.1) hl).2.2.2.1;unfold cT.f cT.t;rw [Cb hk (by omega),aJ,aC (n:=st.2.2.1-1) (by omega) (by omega),aC (n:=st.1.1+2) (by omega) (by omega),aC (n:=st.1.1+1) (by omega) (by omega)];simp only [];have hkl:(nl l (st.2.2.1-1)).length≤1000:=by unfold nl;rw [sF,List.length_map];show l.length+1≤1000;omega
 have em:yi st.1.1 (nl l (st.2.2.1-1)) 0=mE st.1.1 l 0:=xN st.1.1 _ rfl l 0;rw [show ((d,((0:Int),())):Ty.d au)=wO (d,0) from rfl,Ax hk hd st.1.1 n1 (by omega) hkl,aJ,em];simp only [];have ea:(dW (wX (aB aO st.1.1) (nl l (st.2.2.1-1)) (cA (aB aO st.1.1) d)) fun y=>jB y (aB aO st.1.1))=gI st.1.1 l (st.2.2.1-1) d:=rfl;rw [ea];have a0:DR (gI st.1.1 l (st.2.2.1-1) d).1:=El _ _ _ hd;have hq2:DR (dW (gI st.1.1 l (st.2.2.1-1) d) (cA (aB aO (st.1.1+1)))).1:=jk a0 fun x hx=>kX _ _ hx
 rw [Cy hk hq2,aJ];simp only [];have hq3:DR (dW (dW (gI st.1.1 l (st.2.2.1-1) d) (cA (aB aO (st.1.1+1)))) (lJ (G4 st.1.1) st.1.1)).1:=jk hq2 fun x hx=>by
  unfold lJ;cases (lY (aB bg st.1.1) (G4 st.1.1 (ao x (aB aO st.1.1)).1) x).2==2 with
  | true=>exact nT _ _ (o9 _ _ _ hx)
  | false=>exact o9 _ _ _ hx
 rw [EH (G4 st.1.1) st d l rfl rfl rfl];generalize dW (dW (gI st.1.1 l (st.2.2.1-1) d) (cA (aB aO (st.1.1+1)))) (lJ (G4 st.1.1) st.1.1)=q3 at hq3 ⊢;rw [show (wO (tl q3)).2.1=dX q3.2 from rfl,gp];have clean:∀ q:RD,DR q.1→((ar.f k st.1.1).bind fun r5=>((ar.f k (st.1.1+1)).bind fun r6=>((di.f k st.1.1).bind fun r7=>((ag.f k (wO (tl q)) [(⟨#[116,101,109,112]⟩:ByteArray),r5.1,r6.1,r7.1]).bind fun r8=>(some (((st.1.1+2,st.1.2),st.2),r8))))))=(some (uQ st,(wO (j7 (jC st.1.1) (tl q)),())):Option (Ty.d aG × Ty.d au × Unit)):=fun q hq=>by rw [cr,aJ,cr,aJ,mV,aJ];simp only [];rw [show [(⟨#[116,101,109,112]⟩:ByteArray),aB aO st.1.1,aB aO (st.1.1+1),aB bg st.1.1]=jC st.1.1 from rfl,xf hk (tl q) hq (l:=jC st.1.1) (show 4≤1000 by decide),aJ];rfl
 cases c3:q3.2==0 with
 | false =>
  have c3':(dX q3.2 != 0)=true:=by unfold bne;rw [gp,c3];rfl
  simp only [aI];rw [c3',aU];exact clean q3 hq3
 | true =>
  simp only [aU];rw [show (((st.1.1+2:Int),([st.1.1,st.1.1+1],())):Ty.d bL)=j8 st.1.1 from rfl,qd hk (tl q3) hq3 (v:=j8 st.1.1) (show 2≤1073741824 by decide),aJ,IC];simp only [];have hq4:DR (dW q3 (cv (j8 st.1.1))).1:=jk hq3 fun x hx=>me _ _ hx
  generalize dW q3 (cv (j8 st.1.1))=q4 at hq4 ⊢;rw [show (wO (tl q4)).2.1=(tl q4).2 from rfl,uW];cases c4:q4.2 != 0 with
  | true =>rw [aU,aU];exact clean q4 hq4
  | false =>
   rw [aI,aI,q9 (beq_iff_eq.2 (oB c4))];have key:∀ r:RD,DR r.1→cT.l0 k k st.1.2.1.length 0 [st.1.1,st.1.1+1] (mE st.1.1 l 0) (st.1.1+2) st.2.2.1 0 0 r.1.1 r.1.2.1 r.1.2.2.1 r.1.2.2.2.1 r.2 st.1.2.1=some ((j8 st.1.1,(mE st.1.1 l 0,(st.2.2.1,(0,(0,()))))),(wO (wk (qP st.1.2.1) r),())):=fun r hr=>by
    refine dG (L:=fun n i (x:RD)=>cT.l0 k n st.1.2.1.length i [st.1.1,st.1.1+1] (mE st.1.1 l 0) (st.1.1+2) st.2.2.1 0 0 x.1.1 x.1.2.1 x.1.2.2.1 x.1.2.2.2.1 x.2 st.1.2.1) (R:=fun q x=>some ((j8 st.1.1,(mE st.1.1 l 0,(st.2.2.1,(0,(0,()))))),(wO (wk (qP q) x),()))) (Ty.z (.int .i64)) st.1.2.1 (fun i x=>DR x.1) (fun n x hx=>?_) (fun n i x y rest h0 h1 hy hr' hx ih=>?_) (n:=k) (s:=r) (by omega) hr
    · simp only [cT.l0,cT.b0];rw [aN (by omega),aI,show qP []=fun d=>(d,0) from rfl,Cd];rfl
    · simp only [cT.l0,cT.b0];rw [aK h1,aU,aF h0 h1,hy,cr,aJ];simp only [];rw [show ((x.1.1,(x.1.2.1,(x.1.2.2.1,(x.1.2.2.2.1,())))),(x.2,()))=wO x from rfl,mf hk x hx,aJ,mV,aJ];simp only [];rw [mf hk _ (sE hx (oz _)),aJ,aC (n:=i+1) (by omega) (by omega)];have e:wk (qP (y::rest)) x=wk (qP rest) (wk (j9 (aB bg y)) (wk (j9 (aB aO y)) x)):=by
       have e1:qP (y::rest)=fun d=>dW (bm [aB aO y,aB bg y] d) (qP rest):=rfl
       rw [e1,rx,yW,yW,show bm []=fun d=>(d,0) from rfl,Cd]
      rw [e];exact ih _ (sE (sE hx (oz _)) (oz _))
   have:=key (q4.1,0) hq4;rw [p0] at this;exact this
theorem Df {k:Nat} (hk:2 ^ 50≤k) {st:Ty.d aG} {d:Ty.d aA} (hd:uN d) (h1:st.1.2.1.length≤1073741824) (h2:st.2.1.length≤536870912):kw.f k st d=some (oS (nP st d)):=by
 have ec:cQ.f k st=some (st,()):=by unfold cQ.f cQ.t df.f df.t;rw [b7 (by omega) (by decide),aJ];unfold cM.f cM.t;rw [b7 (by omega) (by decide),aJ]
 unfold kw.f kw.t nP;rw [ec,aJ];simp only [];rw [iA k hd.l,aJ];simp only [];rw [Eo hk hd (by omega),aJ];simp only [];rw [wL hk hd (by omega) (by omega),aJ];simp only [];cases c1:kL st d with
 | false=>rfl
 | true =>
  obtain ⟨g1,g2,g3⟩:=lk c1;obtain ⟨n1,n2,_,_⟩:=qy (n:=st.1.1) (ids:=st.1.2.1) g1.live;simp only [eQ,aI];rw [aC (n:=st.1.1+2) (by omega) (by omega)];by_cases c2:st.1.1+2 > (100000:Int)
  · rw [aK c2];rfl
  · rw [aN c2];simp only [aI];have hz:=wt st.2.1 d;obtain ⟨b1,b2⟩:=zB c1;cases c3:(mm st.2.1 d).2 != 0 with
    | true=>rfl
    | false =>simp only [aI];rw [BB hk g1.live g1.disk (Int.not_lt.1 c2) b1 b2 (by omega),aJ];rfl
structure EW (e:Ty.d af):Prop where
 ids:e.1=true→e.2.1.1.2.1.length≤1048576
 dir:e.1=true→e.2.1.2.1.length≤268435456
 sz:uN e.2.2.1
 len:e.2.2.2.1.length≤3
 txn:∀ t ∈ e.2.2.2.1,TV t
 uq:UE e
def Ib (R:Ty.d d6) (q:um):Option (Ty.d d6 × Ty.d ac × Unit):=some ((q.1,R.2),(q.2,()))
theorem Ez {k:Nat} (hk:2 ^ 50≤k) {R:Ty.d d6} (h:EW R.1) (up:R.1.1=true) {s:Ty.d aZ} (h0:LE.le (α:=Int) 0 s.2.1) (h1:LT.lt (α:=Int) s.2.1 (R.1.2.2.2.1.length:Int)):cw.f k R s=Ib R (w7 R.1 s):=by
 have ht:TV (e_ R.1 s.2.1):=qL h.txn (Int.toNat s.2.1);have hq:UQ (e_ R.1 s.2.1):=DV h.uq _;have hdir:=h.dir up;have hko:eI.f k s.2.2.1=some (iJ s.2.2.1,()):=kv k s.2.2.1;unfold cw.f cw.t w7;rw [aF h0 h1,hko,aJ];simp only [];cases iJ s.2.2.1 with
 | false=>rfl
 | true =>
  simp only [eQ,aI];rw [show List.getD R.1.2.2.2.1 (Int.toNat s.2.1) (Ty.z ai)=e_ R.1 s.2.1 from rfl];unfold pI.f pI.t;rw [Gf hk (by have:=ht.2;omega),aJ];cases nn (e_ R.1 s.2.1).2.2.1 s.2.2.1 with
  | some p =>simp only [xI,eQ,aI];cases hp:p.2.1 <;> rfl
  | none =>
   simp only [xI,rB,aU,aJ,aI];unfold BA;rw [AC hk h.sz (by omega),aJ];simp only [];generalize lU R.1.2.1.2.1 R.1.2.2.1 s.2.2.1=p;cases p.2==3 with
   | true=>rfl
   | false =>
    simp only [aI];unfold nh.f nh.t;rw [DK hk ht hq,aJ];simp only [];cases c:(lS (e_ R.1 s.2.1) s.2.2.1 p.1.2.2.1).2 != 0 with
    | true =>simp only [aU,aJ];rw [JJ c];have e1:=BW h0 h1;unfold wT at e1;exact congrArg (fun x=>some ((x,R.2),_)) e1
    | false=>rfl
theorem E9 {k:Nat} (hk:2 ^ 50≤k) {R:Ty.d d6} (h:EW R.1) {s:Ty.d aZ} (h0:LE.le (α:=Int) 0 s.2.1) (h1:LT.lt (α:=Int) s.2.1 (R.1.2.2.2.1.length:Int)) :
 ((l9.f k (List.getD R.1.2.2.2.1 (Int.toNat s.2.1) (Ty.z ai)) s).bind fun r5=>(let l6:=(List.set R.1.2.2.2.1 (Int.toNat s.2.1) r5.1);(some (((R.1.1,(R.1.2.1,(R.1.2.2.1,(l6,())))),R.2),r5.2))):Option (Ty.d d6 × Ty.d ac × Unit))=Ib R (wl R.1 s):=by
 have ht:TV (e_ R.1 s.2.1):=qL h.txn (Int.toNat s.2.1);have e1:=BW h0 h1;unfold wT at e1;unfold l9.f l9.t wl;rw [show List.getD R.1.2.2.2.1 (Int.toNat s.2.1) (Ty.z ai)=e_ R.1 s.2.1 from rfl,show ((s.2.2.1,((s.1==4),(s.2.2.2.1,()))):Ty.d aW)=rM s from rfl,B6 hk ht,aJ,uL,aJ];simp only [];cases c:(jq (e_ R.1 s.2.1) (rM s)).2 with
 | false =>
  rw [GQ c];cases gQ [rM s] with
  | false=>exact congrArg (fun x=>some ((x,R.2),_)) e1
  | true=>exact congrArg (fun x=>some ((x,R.2),_)) e1
 | true =>
  have hp:gQ [rM s]=true:=by
   unfold jq at c;cases c1:!(e_ R.1 s.2.1).1 with
   | true=>rw [c1] at c;cases c
   | false =>
    rw [c1] at c;cases c2:gQ [rM s] with
    | true=>rfl
    | false=>rw [c2] at c;cases c
  rw [hp];rfl
theorem Ca {k:Nat} (hk:2 ^ 50≤k) {R:Ty.d d6} (h:EW R.1) (up:R.1.1=true) {s:Ty.d aZ}:bW.f k R s=Ib R (bif !BH R.1 s then (R.1,mM 4) else q_ R.1 s):=by
 have hlen:=h.len;have hids:=h.ids up;have hdir:=h.dir up;unfold bW.f bW.t ky.f ky.t BH;rw [iq,aJ];simp only [];by_cases r:(1:Int)≤s.1∧s.1≤6
 · rw [aK r];simp only [aU,Bool.true_and];rw [iq,aJ];simp only [];rw [aC (n:=(R.1.2.2.2.1.length:Int)-1) (by omega) (by omega)];by_cases q:0≤s.2.1∧s.2.1≤(R.1.2.2.2.1.length:Int)-1
   · have h0:LE.le (α:=Int) 0 s.2.1:=q.1;have h1:LT.lt (α:=Int) s.2.1 (R.1.2.2.2.1.length:Int):=by have q2:LE.le (α:=Int) s.2.1 ((R.1.2.2.2.1.length:Int)-1):=q.2;omega
     have ht:TV (e_ R.1 s.2.1):=qL h.txn (Int.toNat s.2.1);rw [aK q];simp only [aU,Bool.true_and];rw [aF h0 h1,aJ,aF h0 h1];simp only [];have hf:((List.getD R.1.2.2.2.1 (Int.toNat s.2.1) (Ty.z ai)).1==(s.1 != 1))=!((e_ R.1 s.2.1).1==(s.1==1)):=by show ((e_ R.1 s.2.1).1==!(s.1==1))=_;cases (e_ R.1 s.2.1).1 <;> cases s.1==1 <;> rfl
     rw [hf];cases (e_ R.1 s.2.1).1==(s.1==1) with
     | true=>rfl
     | false =>
      simp only [rB,eQ,aI];unfold q_;rw [Ez hk h up h0 h1];cases c1:s.1==1 with
      | true=>rfl
      | false =>
       cases c6:s.1==6 with
       | true=>rfl
       | false =>
        cases c2:s.1==2 with
        | true=>rfl
        | false =>
         simp only [aI];have hput:=E9 hk h h0 h1;cases c5:s.1==5 with
         | true =>
          have e5:s.1=5:=Aw c5;have hn:=sf (e_ R.1 s.2.1).2.2.1;have ht2:=ht.2;rw [show (s.1==3)=false by rw [e5];rfl,show (s.1==4)=false by rw [e5];rfl];simp only [aU,aI];rw [show List.getD R.1.2.2.2.1 (Int.toNat s.2.1) (Ty.z ai)=e_ R.1 s.2.1 from rfl,Ds hk (by have:=ht.1;omega) hdir,aJ];simp only [];unfold lz;cases pJ (e_ R.1 s.2.1).2.1 R.1.2.1.2.1 with
          | false=>rfl
          | true =>simp only [eQ,aI];rw [tQ hk (by omega),aJ];simp only [];rw [Ay hk h.sz (by omega) (by omega) (by omega)];rfl
         | false =>
          simp only [aI];cases c3:s.1==3 with
          | true =>simp only [aU];exact hput
          | false =>
           simp only [aI];cases c4:s.1==4 with
           | true =>simp only [aU];exact hput
           | false =>
            exfalso;have n1:=beq_eq_false_iff_ne.1 c1;have n2:=beq_eq_false_iff_ne.1 c2;have n3:=beq_eq_false_iff_ne.1 c3;have n4:=beq_eq_false_iff_ne.1 c4;have n5:=beq_eq_false_iff_ne.1 c5;have n6:=beq_eq_false_iff_ne.1 c6;have key:∀ S:Int,1≤S→S≤6→S≠1→S≠2→S≠3→S≠4→S≠5→S≠6→False:=by omega
            exact key s.1 r.1 r.2 n1 n2 n3 n4 n5 n6
   · rw [aN q];rfl
 · rw [aN r];simp only [aI,aJ,rB,aU,Bool.false_and,Bool.and_false];rfl
theorem Dz {k:Nat} (hk:2 ^ 50≤k) {R:Ty.d d6} (h:EW R.1) {s:Ty.d aZ} (h11:(s.1==11)=false):bC.f k R s=Ib R (dM R.1 s):=by
 unfold bC.f bC.t dM;rw [h11];cases c10:s.1==10 with
 | true =>
  simp only [aU];cases R.1.1 with
  | true=>rfl
  | false =>simp only [aI];rw [uH hk h.sz,aJ];rfl
 | false =>
  simp only [aI];cases up:R.1.1 with
  | false=>rfl
  | true =>
   have hdir:=h.dir up;have hids:=h.ids up;simp only [eQ,aI];cases c7:s.1==7 with
   | true =>simp only [aU];rw [Df hk (st:=R.1.2.1) (d:=R.1.2.2.1) h.sz (by omega) (by omega)];unfold ua;rw [up];rfl
   | false =>
    simp only [aI];cases s.1==8 with
    | true =>simp only [aU];rw [xQ hk (by omega)];rfl
    | false =>
     simp only [aI];cases c9:s.1==9 with
     | true =>simp only [aU];rw [xE (by omega) (by omega) (by decide)];rfl
     | false =>simp only [aI];rw [Ca hk h up];rfl
def pq (e:Ty.d af) (s:Ty.d aZ):iy :=
 bif s.1 != 5 then [] else bif !e.1 then [] else bif !decide (0≤s.2.1∧s.2.1≤(e.2.2.2.1.length:Int)-1) then [] else bif !(e_ e s.2.1).1 then [] else n7 (e_ e s.2.1).2.2.1
theorem Eu {k:Nat} (hk:2 ^ 50≤k) {e:Ty.d af} (h:EW e) (s:Ty.d aZ):kx.f k e s=some (pq e s,()):=by
 have hlen:=h.len;have ht:TV (e_ e s.2.1):=qL h.txn (Int.toNat s.2.1);have h2:=ht.2;unfold kx.f kx.t pq;cases s.1 != 5 with
 | true=>rfl
 | false =>
  cases !e.1 with
  | true=>rfl
  | false =>
   simp only [aI];rw [iq,aJ,aC (n:=(e.2.2.2.1.length:Int)-1) (by omega) (by omega)];simp only [];by_cases q:0≤s.2.1∧s.2.1≤(e.2.2.2.1.length:Int)-1
   · have h0:LE.le (α:=Int) 0 s.2.1:=q.1;have h1:LT.lt (α:=Int) s.2.1 (e.2.2.2.1.length:Int):=by have q2:LE.le (α:=Int) s.2.1 ((e.2.2.2.1.length:Int)-1):=q.2;omega
     rw [aK q];simp only [eQ,aI];rw [aF h0 h1,aF h0 h1,show List.getD e.2.2.2.1 (Int.toNat s.2.1) (Ty.z ai)=e_ e s.2.1 from rfl,tQ hk (by omega)];cases (e_ e s.2.1).1 <;> rfl
   · rw [aN q];rfl
theorem Jo {e:Ty.d af} (h:EW e) (s:Ty.d aZ):(pq e s).length≤1000:=by
 have ht:TV (e_ e s.2.1):=qL h.txn (Int.toNat s.2.1);have h2:=ht.2;have h3:=sf (e_ e s.2.1).2.2.1;unfold pq;cases s.1 != 5 with
 | true=>exact Nat.zero_le _
 | false =>
  cases !e.1 with
  | true=>exact Nat.zero_le _
  | false =>
   cases !decide (0≤s.2.1∧s.2.1≤(e.2.2.2.1.length:Int)-1) with
   | true=>exact Nat.zero_le _
   | false =>
    cases !(e_ e s.2.1).1 with
    | true=>exact Nat.zero_le _
    | false=>show (n7 (e_ e s.2.1).2.2.1).length≤1000;omega
theorem KH {k:Nat} (hk:2 ^ 50≤k) {e:Ty.d af} (h:EW e) (up:e.1=true):gA.f k e=some (e,()):=by
 have h1:=h.ids up;have h2:=h.dir up;have h3:=h.len;have ec:cQ.f k e.2.1=some (e.2.1,()):=by unfold cQ.f cQ.t df.f df.t;rw [b7 (by omega) (by decide),aJ];unfold cM.f cM.t;rw [b7 (by omega) (by decide)];rfl
 have et:eW.f k e.2.2.2.1=some (e.2.2.2.1,()):=by
  unfold eW.f eW.t;refine (dG (L:=fun n i (s:List (Ty.d ai))=>eW.l0 k n e.2.2.2.1 (e.2.2.2.1.length:Int) i s) (R:=fun r s=>(some (s++r,()):eW.Rs)) (Ty.z ai) e.2.2.2.1 (fun i s=>(s.length:Int)=i) (fun n s hs=>?_) (fun n i s x rest g0 g1 hx hr hp ih=>?_) (n:=k) (s:=[]) (by omega) rfl).trans (by rw [List.nil_append])
  · simp only [eW.l0,eW.b0];rw [aN (by omega),aI,List.append_nil]
  · have hm:x ∈ e.2.2.2.1:=by rw [← hx];exact fv (by omega)
    simp only [eW.l0,eW.b0];rw [aK g1,aU,aF g0 g1,hx,ro k (h.txn x hm),aJ,aC (n:=i+1) (by omega) (by omega),b7 (by omega) (by decide)];refine (ih (s++[x]) (by rw [bK];omega)).trans ?_;rw [py];rfl
 unfold gA.f gA.t;rw [ec,aJ,iA k h.sz.l,aJ,et];rfl
theorem Ko {t:Ty.d ai} (h:TV t) (key:ByteArray) (b:Int):TV (lS t key b).1:=by
 unfold lS;cases !t.1 with
 | true=>exact h
 | false =>
  cases !iJ key with
  | true=>exact h
  | false =>
   simp only [aI];cases lT t.2.1 key with
   | some b'=>exact h
   | none =>
    simp only [];cases c:decide ((t.2.1.length:Int)≥20) with
    | true=>exact h
    | false =>have c:=of_decide_eq_false c;refine ⟨?_,h.2⟩;show (t.2.1++[_]).length≤20;rw [bK];omega
theorem IY {t:Ty.d ai} (h:TV t) (p:Ty.d aW):TV (jq t p).1:=by
 unfold jq;cases !t.1 with
 | true=>exact h
 | false =>
  cases !gQ [p] with
  | true=>exact h
  | false =>
   cases decide (((n7 (t.2.2.1++[p])).length:Int) > 8) with
   | true=>exact h
   | false =>
    cases c:decide (((t.2.2.1++[p]).length:Int) > 50) with
    | true=>exact h
    | false =>have c:¬ ((t.2.2.1++[p]).length:Int) > 50:=of_decide_eq_false c;refine ⟨h.1,?_⟩;show (t.2.2.1++[p]).length≤50;omega
theorem tw {F:Prop × Prop} {e:Ty.d af} (h:EV F e) (i:Int) {t:Ty.d ai} (ht:TV t):EV F (wT e i t):=NM h i.toNat ht
theorem K9:TV LB:=⟨Nat.zero_le _,Nat.zero_le _⟩
theorem wA {d:Ty.d aA} (h:DR d):EV (False,False) (kD (eM d)):=by obtain ⟨h1,h2⟩:=G6 h;exact ⟨Jx,h2,h1,Nat.le_refl _,Jy,fun q=>q.elim,fun q=>q.elim⟩
theorem Du {e:Ty.d af} (h:EV (False,False) e) (s:Ty.d aZ):EV (False,False) (dM e s).1:=by
 have hd:=h.disk;have hdir:=h.dir;have hids:=h.ids;have hlen:=h.len;have ht:=qL h.txn (Int.toNat s.2.1);unfold dM;cases s.1==10 with
 | true =>
  cases e.1 with
  | true=>exact h
  | false=>exact wA hd
 | false =>
  cases s.1==11 with
  | true =>
   show EV (False,False) (y8 e s).1;unfold y8;cases c:decide (0≤s.2.2.2.2.1∧s.2.2.2.2.1≤100000-(dS e.2.2.1.1:Int)) with
   | false=>exact h
   | true =>have hb:=of_decide_eq_true c;obtain ⟨N,hN⟩:∃ N:Int,N=s.2.2.2.2.1:=⟨_,rfl⟩;rw [← hN] at hb ⊢;have hb0:LE.le (α:=Int) 0 N:=hb.1;have hb1:LE.le (α:=Int) N (100000-(dS e.2.2.1.1:Int)):=hb.2;show EV (False,False) (e.1,(e.2.1,((e.2.2.1.1,((dS e.2.2.1.1:Int)+N,e.2.2.1.2.2)),e.2.2.2)));have hz:DR (e.2.2.1.1,((dS e.2.2.1.1:Int)+N,e.2.2.1.2.2)):=⟨hd.len,by show LE.le (α:=Int) 0 ((dS e.2.2.1.1:Int)+N);omega,by show LE.le (α:=Int) ((dS e.2.2.1.1:Int)+N) 100000;omega,hd.fu0,hd.fu1,by show LE.le (α:=Int) (dS e.2.2.1.1:Int) ((dS e.2.2.1.1:Int)+N);omega,hd.all,hd.keys⟩;exact ⟨hids,hdir,hz,hlen,h.txn,fun m=>m.elim,fun m=>m.elim⟩
  | false =>
   cases !e.1 with
   | true=>exact h
   | false =>
    cases s.1==7 with
    | true =>show EV (False,False) (ua e).1;obtain ⟨c1,c2,c3⟩:=HF hd hids hdir;exact ⟨c2,c3,c1,hlen,h.txn,fun m=>m.elim,fun m=>m.elim⟩
    | false =>
     cases s.1==8 with
     | true=>exact h
     | false =>
      cases s.1==9 with
      | true=>exact ⟨Nat.zero_le _,Nat.zero_le _,hd,Nat.le_refl _,Jy,fun m=>m.elim,fun m=>m.elim⟩
      | false =>
       cases !BH e s with
       | true=>exact h
       | false =>
        show EV (False,False) (q_ e s).1;unfold q_;cases s.1==1 with
        | true=>exact tw h s.2.1 ⟨Nat.zero_le _,Nat.zero_le _⟩
        | false =>
         cases s.1==6 with
         | true=>exact tw h s.2.1 K9
         | false =>
          cases s.1==2 with
          | true =>
           show EV (False,False) (w7 e s).1;unfold w7;cases !iJ s.2.2.1 with
           | true=>exact h
           | false =>
            rw [aI];cases nn (e_ e s.2.1).2.2.1 s.2.2.1 with
            | some p =>show EV (False,False) (bif p.2.1 then (e,mM 8) else (e,(0,(p.2.2.1,([],())))):um).1;cases p.2.1 <;> exact h
            | none =>
             show EV (False,False) (BA e s (e_ e s.2.1) (lU e.2.1.2.1 e.2.2.1 s.2.2.1)).1;unfold BA;cases (lU e.2.1.2.1 e.2.2.1 s.2.2.1).2==3 with
             | true=>exact h
             | false =>
              rw [aI];cases (lS (e_ e s.2.1) s.2.2.1 (lU e.2.1.2.1 e.2.2.1 s.2.2.1).1.2.2.1).2 != 0 with
              | true=>exact h
              | false=>exact tw h s.2.1 (Ko ht _ _)
          | false =>
           cases s.1==5 with
           | true =>
            show EV (False,False) (lz e s).1;unfold lz;cases !pJ (e_ e s.2.1).2.1 e.2.1.2.1 with
            | true=>exact tw h s.2.1 K9
            | false =>obtain ⟨c1,c2,c3⟩:=FL (n7 (e_ e s.2.1).2.2.1) hd hids hdir;have hs:=tw h s.2.1 K9;exact ⟨c2,c3,c1,hs.len,hs.txn,fun m=>m.elim,fun m=>m.elim⟩
           | false =>
            show EV (False,False) (wl e s).1;unfold wl;cases !gQ [rM s] with
            | true=>exact h
            | false =>
             rw [aI];cases !(jq (e_ e s.2.1) (rM s)).2 with
             | true=>exact h
             | false=>exact tw h s.2.1 (IY ht _)
theorem yS (k:Nat) {c:ng} (h:CI c) {n:Int} (h0:0<n) (h1:n≤256):nW (aj.f k c n) (fun r=>CI r.1):=qu (mw k h h0 h1) fun _ q=>q.1
theorem Mw {k:Nat} (hk:2 ^ 50≤k) {c:ng} (h:CI c) {m:Int} (h0:0≤m) (h1:m≤200):nW (fi.f k c m) (fun r=>CI r.1):=qu (Je hk h h0 h1) fun _ q=>q.1
theorem Mz (k:Nat) {c:ng} (h:CI c) {l:List ByteArray} (h0:0<l.length) (h1:l.length≤256):nW (dF.f k c l) (fun r=>CI r.1):=qu (EX k h h0 h1) fun _ q=>q.1
theorem th (k:Nat) {c:ng} (h:CI c) {l:List Int} (h0:0<l.length) (h1:l.length≤256):nW (aQ.f k c l) (fun r=>CI r.1):=qu (Fx k h h0 h1) fun _ q=>q.1
theorem I7 {α:Type} {P:α→Prop} {b:Nat} {n:Int} {x:Option α} (h0:0≤n) (h1:n≤1099511627776) (hb:b≤128) (h:nW x P):nW (xG b n x) P:=by rw [xE h0 h1 hb];exact h
theorem JU {k:Nat} (hk:2 ^ 50≤k) {c:ng} (h:CI c):nW (kE.f k c) (fun r=>CI r.1):=by
 unfold kE.f kE.t
 repeat' first
  | exact fB (by assumption)
  | refine cY (yS k (by assumption) (by omega) (by omega)) fun _ _=>?_
  | refine cY (LV k (by assumption)) fun _ _=>?_
  | refine cY (Mw hk (by assumption) (by omega) (by omega)) fun _ _=>?_
  | refine cY (th k (by assumption) (by decide) (by decide)) fun _ _=>?_
  | refine cY (Mz k (by assumption) (by decide) (by decide)) fun _ _=>?_
  | refine ib (fun _=>?_) (fun _=>?_)
theorem J2 {k:Nat} (hk:2 ^ 50≤k):∀ (m n:Nat) (c:ng) (out:List (Ty.d aZ)) (rows:List Bool),m<n→CI c→out.length+2*m≤1000→rows.length=3 →
 nW (fR.l0 k n (m:Int) c.1 c.2.1 c.2.2.1 out rows) (fun r=>CI r.1∧r.2.1.length≤1000):=by
 intro m
 induction m with
 | zero =>intro n c out rows hn hc ho hr;obtain ⟨n,rfl⟩:∃ q,n=q+1:=⟨n-1,by omega⟩;simp only [fR.l0,fR.b0];exact nS (aN (by omega)) (fB ⟨hc,by show out.length≤1000;omega⟩)
 | succ m ih =>
  intro n c out rows hn hc ho hr;obtain ⟨n,rfl⟩:∃ q,n=q+1:=⟨n-1,by omega⟩;have hw:aH (((m+1:Nat):Int)-1)=(m:Int):=by rw [aC (by omega) (by omega)];omega
  simp only [fR.l0,fR.b0,hw];refine ow (aK (by omega)) (cY (JU hk hc) fun r2 q2=>?_)
  repeat' first
   | exact ih n _ _ _ (by omega) (by assumption) (by simp only [sF,List.length_singleton];omega) (by first | exact hr | rfl | (simp only [List.length_set];exact hr))
   | refine cY (yv k (by assumption) (by omega) (by omega)) fun _ _=>?_
   | refine wz (by first | omega | (simp only [sF,List.length_singleton];omega)) (by decide) ?_
   | refine I7 (by omega) (by omega) (by decide) ?_
   | refine mo (fC k _ _ _) (ib (fun hq=>?_) (fun _=>?_))
   | refine yQ (by have hq':=of_decide_eq_true hq;exact hq'.1) (by have hq':=of_decide_eq_true hq;exact Int.lt_of_le_of_lt hq'.2 (by rw [hr];decide)) ?_
   | refine ib (fun _=>?_) (fun _=>?_)
theorem GM {k:Nat} (hk:2 ^ 50≤k) {c:ng} (h:CI c):nW (fR.f k c 40) (fun r=>CI r.1∧r.2.1.length≤1000):=by unfold fR.f fR.t;rw [show aH (40+1)=41 from by decide];refine I7 (by omega) (by omega) (by decide) (cY (mw k h (by omega) (by omega)) fun r q=>?_);obtain ⟨hc,a,b⟩:=q;have:=J2 hk r.2.1.toNat k r.1 [] (List.replicate (Int.toNat 3) (Ty.z .bool)) (by omega) hc (by simp only [List.length_nil];omega) rfl;rw [show ((r.2.1.toNat:Nat):Int)=r.2.1 by omega] at this;exact this
theorem Ew {k:Nat} (hk:2 ^ 50≤k) {c:ng} (h:CI c):nW (im.f k c 40) (fun r=>CI r.1∧r.2.1.2.2.1.length≤1001):=by
 unfold im.f im.t;refine cY (GM hk h) fun r1 q1=>?_
 obtain ⟨c1,z1⟩:=q1;refine cY (mw k c1 (by omega) (by omega)) fun r2 q2=>ib (fun _=>?_) (fun _=>ib (fun _=>?_) (fun _=>fB ⟨q2.1,by show r1.2.1.length≤1001;omega⟩))
 · exact cY (zJ k q2.1 (by omega)) fun r3 q3=>fB ⟨q3.1,by show r1.2.1.length≤1001;omega⟩
 · rw [aC (n:=(r1.2.1.length:Int)+1) (by omega) (by omega)];refine cY (zJ k q2.1 (by omega)) fun r4 q4=>?_
   obtain ⟨c4,a4,b4⟩:=q4;have e1:(List.take (Int.toNat r4.2.1) r1.2.1).length≤1000:=by rw [List.length_take];omega
   have e2:(List.take (Int.toNat r4.2.1) r1.2.1).length+(List.drop (Int.toNat r4.2.1) r1.2.1).length=r1.2.1.length:=by rw [← sF,List.take_append_drop]
   refine Cj a4 (by omega) (wz (by omega) (by decide) (cY (yS k c4 (by omega) (by omega)) fun r5 q5=>?_));simp only [List.nil_append];refine wz (by omega) (by decide) (Cj a4 (by omega) (wz (by rw [bK];omega) (by decide) (fB ⟨q5,?_⟩)));show ((_++[_])++_).length≤1001;rw [sF,bK];omega
theorem OU {k:Nat} {code:List Int} (hl:code.length≤1048576) (hb:∀ x ∈ code,(0:Int)≤x∧x≤255) {i:Int} (h0:0≤i) (h1:i≤1000):nW (qI.f k code i) (fun r=>0≤r.1∧r.1≤255):=by
 unfold qI.f qI.t;refine ib (fun hd=>?_) (fun hd=>?_)
 · have hd:=of_decide_eq_true hd;have hx:=hb (code.getD i.toNat (Ty.z (.int .u8))) (fv (by omega));refine yQ h0 hd (fB ?_);show 0≤aH _∧aH _≤255;rw [aC (by omega) (by omega)];exact hx
 · have hd:=of_decide_eq_false hd;refine fB ?_;show 0≤Int.tmod _ 256∧Int.tmod _ 256≤255;rw [aC (n:=i*37) (by omega) (by omega),aC (n:=(code.length:Int)*11) (by omega) (by omega),aC (n:=i*37+(code.length:Int)*11) (by omega) (by omega),Int.tmod_eq_emod_of_nonneg (by omega)];omega
def jw (d:Ty.d aA) (n:Int):Ty.d aA:=bif gP d then (d.1,(d.2.1,(n,(false,())))) else d
theorem FX {k:Nat} (hk:2 ^ 50≤k) {d:Ty.d aA} (hd:uN d) {n:Int} (h0 : -1≤n) (h1:n≤100000):jS.f k d n=some (jw d n,()):=by
 have hl:=hd.l;have hu:=hd.u;have hn:=hd.n;unfold jS.f jS.t jw;rw [iA k hd.l,aJ,iI hk (by omega) (by omega),aJ];simp only [];cases gP d with
 | false=>rfl
 | true =>simp only [aU];rw [iq,aJ,aK ⟨h0,h1⟩];rfl
theorem LX {d:Ty.d aA} (h:DR d) {n:Int} (h0 : -1≤n) (h1:n≤100000):DR ((d.1,(d.2.1,(n,(false,())))):Ty.d aA):=⟨h.len,h.cap0,h.cap1,h0,h1,h.use,h.all,h.keys⟩
theorem AR {d:Ty.d aA} (h:DR d) {n:Int} (h0 : -1≤n) (h1:n≤100000):DR (jw d n):=by
 unfold jw;cases gP d with
 | false=>exact h
 | true=>exact LX h h0 h1
theorem Ec {k:Nat} (hk:2 ^ 50≤k) {d:Ty.d aA} (hd:uN d) {n:Int} (h0 : -1≤n) (h1:n≤100000):jN.f k d n=some (jw d n,()):=by
 have hl:=hd.l;have hu:=hd.u;have hn:=hd.n;unfold jN.f jN.t jw;rw [ju k hd,aJ,kB hk (by omega) (by omega),aJ];simp only [];cases gP d with
 | false=>rfl
 | true =>simp only [aU];rw [fC,aJ,aK ⟨h0,h1⟩];rfl
abbrev Lu:Prop × Prop:=(False,False)
theorem Hw {F:Prop × Prop} {e:Ty.d af} (h:EV F e) (hu:UE e):EW e :=
 ⟨fun _=>by have:=h.ids;omega,fun _=>h.dir,h.disk.sz,h.len,h.txn,hu⟩
theorem Ch {F:Prop × Prop} {k:Nat} (hk:2 ^ 50≤k) {R:Ty.d d6} (h:EV F R.1) (hu:UE R.1) {s:Ty.d aZ}:bC.f k R s=Ib R (dM R.1 s):=by
 cases h11:s.1==11 with
 | false=>exact Dz hk (Hw h hu) h11
 | true =>
  have hd:=h.disk;have hsz:=hd.sz;have z1:=hsz.l;have z2:=hsz.u;have z3:=hsz.n;have hc:=hd.cap1;have hus:=hd.use;have hu':LE.le (α:=Int) (dS R.1.2.2.1.1:Int) 100000:=Int.le_trans hus hc;unfold bC.f bC.t dM;have e11:s.1=11:=Aw h11;rw [h11,show (s.1==10)=false by rw [e11];rfl];simp only [aU,aI];rw [vS hk (by omega) (by omega),aJ,iI hk (by omega) (by omega),aJ,lH.2 hd];simp only [eQ,aI];rw [iq,aJ,aC (n:=100000-(dS R.1.2.2.1.1:Int)) (by omega) (by omega)];unfold y8;by_cases c:0≤s.2.2.2.2.1∧s.2.2.2.2.1≤100000-(dS R.1.2.2.1.1:Int)
  · rw [aK c];simp only [eQ,aI];have c1:LE.le (α:=Int) s.2.2.2.2.1 (100000-(dS R.1.2.2.1.1:Int)):=c.2;have c0:LE.le (α:=Int) 0 s.2.2.2.2.1:=c.1;obtain ⟨N,hN⟩:∃ N:Int,N=s.2.2.2.2.1:=⟨_,rfl⟩;rw [← hN] at c0 c1 ⊢;rw [aC (n:=(dS R.1.2.2.1.1:Int)+N) (by omega) (by omega)];rfl
  · rw [aN c];rfl
def oa (R:Ty.d d6) (s:Ty.d aZ) (c:Int):List (Ty.d na) :=
 bif c==0 then (bif decide (((pq R.1 s).length:Int) > 0) then R.2.2.1++[(R.1.2.1.2.2.1,(pq R.1 s,()))] else R.2.2.1) else R.2.2.1
noncomputable def lR:Ty.d d6→List (Ty.d aZ)→Ty.d d6
 | R,[]=>R
 | R,s::l=>bif (dM R.1 s).2.1==1 then ((dM R.1 s).1,(R.2.1++[(dM R.1 s).2],(R.2.2.1,(pq R.1 s,())))) else
  lR ((dM R.1 s).1,(R.2.1++[(dM R.1 s).2],(oa R s (dM R.1 s).2.1,R.2.2.2))) l
theorem Hr {R:Ty.d d6} {s:Ty.d aZ} {c:Int} {i:Nat} (h:R.2.2.1.length≤i):(oa R s c).length≤i+1:=by
 unfold oa;cases c==0 with
 | false=>exact Nat.le_succ_of_le h
 | true =>
  cases decide (((pq R.1 s).length:Int) > 0) with
  | false=>exact Nat.le_succ_of_le h
  | true=>rw [aU,aU,bK];omega
theorem C_ {α:Type} {l r:List α} {s:α} {i:Nat} (d:α) (hd:l.drop i=s::r):l.getD i d=s∧l.drop (i+1)=r∧i<l.length:=by
 have hlen:=congrArg List.length hd;rw [List.length_drop,lq] at hlen;refine ⟨?_,?_,by omega⟩
 · have:=congrArg (fun q=>q.getD 0 d) hd;simp only [List.getD,List.getElem?_drop,Nat.add_zero,List.getElem?_cons_zero,Option.getD_some] at this;exact this
 · have:=congrArg (List.drop 1) hd;rw [List.drop_drop] at this;exact this
theorem Ai {k:Nat} (hk:2 ^ 50≤k) (l:List (Ty.d aZ)) (hl:l.length≤1000000) (x3:List Int) (x4:List (Ty.d a_)) (x5:List (Ty.d uI)) (x6:List (Ty.d ai)) (x7:List (Ty.d ac)) (x8:List (Ty.d na)) (x9:List (Ty.d aW)) (x10:Bool) (x11 x12 x13 x14 x15 x16:Int) (x17:Bool) :
 ∀ (r:List (Ty.d aZ)) (n:Nat) (i:Nat) (R:Ty.d d6),l.drop i=r→i≤l.length→r.length<n→EV Lu R.1→UE R.1→R.2.1.length≤i→R.2.2.1.length≤i →
 jf.l1 k n l (l.length:Int) (i:Int) x3 x4 x5 x6 x7 x8 x9 x10 x11 x12 x13 x14 x15 x16 x17 R.1.2.1.1.2.1 R.1.2.1.2.1 R.1.2.2.1.1 R.1.2.2.2.1 R.2.1 R.2.2.1 R.2.2.2.1 R.1.1 R.1.2.1.1.1 R.1.2.1.2.2.1 R.1.2.1.2.2.2.1 R.1.2.1.2.2.2.2.1 R.1.2.2.1.2.1 R.1.2.2.1.2.2.1 R.1.2.2.1.2.2.2.1=some (lR R (r.take (300-i)),())
 | r,0,i,R,hd,hi,hn,he,hu,ha,hc=>absurd hn (Nat.not_lt_zero _)
 | [],n+1,i,R,hd,hi,hn,he,hu,ha,hc=>by have hlen:=congrArg List.length hd;rw [List.length_drop,List.length_nil] at hlen;simp only [jf.l1,jf.b1];rw [aN (by omega),aI,List.take_nil];rfl
 | s::r,n+1,i,R,hd,hi,hn,he,hu,ha,hc=>by
  obtain ⟨hget,hd2,hlt⟩:=C_ (Ty.z aZ) hd;have hEw:=Hw he hu;have he2:=Du he s;have hu2:=LA hu s;have hnet:=Jo hEw s;have ih:=fun (ak:List (Ty.d na)) (hak:ak.length≤i+1)=>Ai hk l hl x3 x4 x5 x6 x7 x8 x9 x10 x11 x12 x13 x14 x15 x16 x17 r n (i+1) ((dM R.1 s).1,(R.2.1++[(dM R.1 s).2],(ak,R.2.2.2))) hd2 hlt (by rw [lq] at hn;omega) he2 hu2 (by show (_++[_]).length≤_;rw [bK];omega) hak
  have hak:=Hr (s:=s) (c:=(dM R.1 s).2.1) hc;simp only [jf.l1,jf.b1];rw [aK (by omega),aU,aF (by omega) (by omega)];by_cases c300:i<300
  · rw [aN (by omega),aI,Int.toNat_natCast,hget,show 300-i=(300-(i+1))+1 by omega,List.take_succ_cons];rw [show ((R.1.1,(((R.1.2.1.1.1,(R.1.2.1.1.2.1,())),(R.1.2.1.2.1,(R.1.2.1.2.2.1,(R.1.2.1.2.2.2.1,(R.1.2.1.2.2.2.2.1,()))))),((R.1.2.2.1.1,(R.1.2.2.1.2.1,(R.1.2.2.1.2.2.1,(R.1.2.2.1.2.2.2.1,())))),(R.1.2.2.2.1,())))):Ty.d af)=R.1 from rfl,Eu hk hEw s,aJ];rw [show ((R.1,(R.2.1,(R.2.2.1,(R.2.2.2.1,())))):Ty.d d6)=R from rfl,Ch hk he hu];unfold Ib;rw [aJ];simp only [];rw [b7 (by omega) (by decide),aC (n:=(i:Int)+1) (by omega) (by omega)];rw [show ((i:Int)+1)=((i+1:Nat):Int) from rfl];unfold lR;cases c1:(dM R.1 s).2.1==1 with
    | true=>rfl
    | false =>
     have ih:=ih (oa R s (dM R.1 s).2.1) hak;unfold oa at ih ⊢;simp only [aI];rw [b7 (by omega) (by decide)];cases c0:(dM R.1 s).2.1==0 with
     | false=>rw [c0] at ih;exact ih
     | true =>
      rw [c0] at ih;cases cl:decide (((pq R.1 s).length:Int) > 0) with
      | false=>rw [cl] at ih;exact ih
      | true=>rw [cl] at ih;exact ih
  · rw [aK (by omega),aU,show 300-i=0 by omega,List.take_zero];rfl
theorem GX {k:Nat} (hk:2 ^ 50≤k) {e:Ty.d af} (he:EV Lu e) (hu:UE e) {l:List (Ty.d aZ)} (hl:l.length≤1000000) (hcopy:gA.f k e=some (e,())) :
 jf.f k e l=some (lR (e,([],([],([],())))) (l.take 300),()):=by
 obtain ⟨k',hk'⟩:∃ k',k=k'+1:=⟨k-1,by omega⟩;unfold jf.f jf.t;rw [hcopy,aJ];have key:=Ai hk l hl [] [] [] [] [] [] [] false 0 0 0 0 0 0 false l (k'+1) 0 (e,([],([],([],())))) rfl (Nat.zero_le _) (by omega) he hu (Nat.le_refl _) (Nat.le_refl _);rw [show jf.l0 k k=jf.l0 k (k'+1) by rw [← hk']];exact key
theorem Lt {F:Prop × Prop} {k:Nat} (hk:2 ^ 50≤k) {e:Ty.d af} (he:EV F e) (hu:UE e) (up:e.1=true):gA.f k e=some (e,()):=KH hk (Hw he hu) up
def j_ (e:Ty.d af):Ty.d af:=(e.1,(e.2.1,(lp e.2.2.1,e.2.2.2)))
def LM (q q':um):Prop:=(q'.2=q.2∧q.2.1≠1∧q'.1=j_ q.1∧rR q.1.2.2.1)∨(q.2.1=1∧q.1.2.2.1.2.2.2.1=true)
theorem lE {e:Ty.d af} (h:rR e.2.2.1) {a:Ty.d ac} (ha:a.1≠1):LM (e,a) (j_ e,a) := .inl ⟨rfl,ha,rfl,h⟩
theorem vf {e:Ty.d af} (h:rR e.2.2.1) (i:Int) (t:Ty.d ai) {a:Ty.d ac} (ha:a.1≠1):LM (wT e i t,a) (wT (j_ e) i t,a) := .inl ⟨rfl,ha,rfl,h⟩
theorem LZ (t:Ty.d ai) (key:ByteArray) (b:Int):(lS t key b).2≠1:=by
 unfold lS;cases !t.1 with
 | true=>exact (by omega:(4:Int)≠1)
 | false =>
  cases !iJ key with
  | true=>exact (by omega:(4:Int)≠1)
  | false =>
   simp only [aI];cases lT t.2.1 key with
   | some b' =>
    simp only [];cases b' != b with
    | true=>exact (by omega:(7:Int)≠1)
    | false=>exact (by omega:(0:Int)≠1)
   | none =>
    simp only [];cases decide ((t.2.1.length:Int)≥20) with
    | true=>exact (by omega:(5:Int)≠1)
    | false=>exact (by omega:(0:Int)≠1)
theorem NH (l:aX) (d:Ty.d aA) (key:ByteArray):(lU l d key).2≠1:=by
 unfold lU;cases sj l key with
 | none=>exact (by omega:(8:Int)≠1)
 | some e =>
  simp only [];cases (iW d e).2&&(seq (iW d e).1.2.2.1 key&&(((iW d e).1.1==1)||((iW d e).1.1==4))) with
  | true=>exact (by omega:(0:Int)≠1)
  | false=>exact (by omega:(3:Int)≠1)
theorem N9 {e:Ty.d af} (h:rR e.2.2.1) (s:Ty.d aZ):LM (dM e s) (dM (j_ e) s):=by
 have hu:=qs h;unfold dM;rw [show (j_ e).1=e.1 from rfl];cases s.1==10 with
 | true =>
  cases e.1 with
  | true=>exact lE h (by exact (by omega:(4:Int)≠1))
  | false =>
   have ho:=Ht h;show LM (kD (eM e.2.2.1),mM (eM e.2.2.1).2.2) (kD (eM (lp e.2.2.1)),mM (eM (lp e.2.2.1)).2.2);rcases ho with ⟨a,b,c,d,u⟩ | ⟨a,b⟩
   · refine .inl ⟨by show mM _=mM _;rw [b],c,?_,u⟩;show kD (eM (lp e.2.2.1))=j_ (kD (eM e.2.2.1));unfold kD j_;rw [a,b,d]
   · exact .inr ⟨a,b⟩
 | false =>
  cases s.1==11 with
  | true =>
   show LM (y8 e s) (y8 (j_ e) s);unfold y8;rw [show (j_ e).2.2.1.1=e.2.2.1.1 from rfl];cases !decide (0≤s.2.2.2.2.1∧s.2.2.2.2.1≤100000-(dS e.2.2.1.1:Int)) with
   | true=>exact lE h (by exact (by omega:(4:Int)≠1))
   | false=>exact .inl ⟨rfl,by exact (by omega:(0:Int)≠1),rfl,⟨h.up,h.f0,h.f1⟩⟩
  | false =>
   cases !e.1 with
   | true=>exact lE h (by exact (by omega:(6:Int)≠1))
   | false =>
    cases s.1==7 with
    | true =>
     show LM (ua e) (ua (j_ e));have hm:=KQ e.2.1 h;unfold ua;rw [show (j_ e).2.1=e.2.1 from rfl,show (j_ e).2.2.1=lp e.2.2.1 from rfl];rcases hm with ⟨a,b,c,d,u⟩ | ⟨a,b⟩
     · refine .inl ⟨by show mM _=mM _;rw [b],c,?_,u⟩;show _=j_ _;unfold j_;rw [a,d]
     · exact .inr ⟨a,b⟩
    | false =>
     cases s.1==8 with
     | true=>exact lE h (by exact (by omega:(0:Int)≠1))
     | false =>
      cases s.1==9 with
      | true=>exact .inl ⟨rfl,by exact (by omega:(0:Int)≠1),rfl,h⟩
      | false =>
       rw [show BH (j_ e) s=BH e s from rfl];cases !BH e s with
       | true=>exact lE h (by exact (by omega:(4:Int)≠1))
       | false =>
        show LM (q_ e s) (q_ (j_ e) s);unfold q_;cases s.1==1 with
        | true=>exact vf h _ _ (by exact (by omega:(0:Int)≠1))
        | false =>
         cases s.1==6 with
         | true=>exact vf h _ _ (by exact (by omega:(0:Int)≠1))
         | false =>
          cases s.1==2 with
          | true =>
           show LM (w7 e s) (w7 (j_ e) s);unfold w7;rw [show e_ (j_ e) s.2.1=e_ e s.2.1 from rfl,show (j_ e).2.1=e.2.1 from rfl,show (j_ e).2.2.1=lp e.2.2.1 from rfl,HV h];cases !iJ s.2.2.1 with
           | true=>exact lE h (by exact (by omega:(4:Int)≠1))
           | false =>
            simp only [aI];cases nn (e_ e s.2.1).2.2.1 s.2.2.1 with
            | some p =>
             simp only [];cases p.2.1 with
             | true=>exact lE h (by exact (by omega:(8:Int)≠1))
             | false=>exact lE h (by exact (by omega:(0:Int)≠1))
            | none =>
             simp only [];have hg:=NH e.2.1.2.1 e.2.2.1 s.2.2.1;generalize lU e.2.1.2.1 e.2.2.1 s.2.2.1=p at hg ⊢;have hr:=LZ (e_ e s.2.1) s.2.2.1 p.1.2.2.1;unfold BA;cases p.2==3 with
             | true=>exact lE h hg
             | false =>
              simp only [aI];cases (lS (e_ e s.2.1) s.2.2.1 p.1.2.2.1).2 != 0 with
              | true=>exact lE h hr
              | false=>exact vf h _ _ hg
          | false =>
           cases s.1==5 with
           | true =>
            show LM (lz e s) (lz (j_ e) s);unfold lz;rw [show e_ (j_ e) s.2.1=e_ e s.2.1 from rfl,show (j_ e).2.1=e.2.1 from rfl,show (j_ e).2.2.1=lp e.2.2.1 from rfl];cases !pJ (e_ e s.2.1).2.1 e.2.1.2.1 with
            | true=>exact vf h _ _ (by exact (by omega:(7:Int)≠1))
            | false =>
             simp only [aI];have hm:=JD e.2.1 h (n7 (e_ e s.2.1).2.2.1);rcases hm with ⟨a,b,c,d,u⟩ | ⟨a,b⟩
             · refine .inl ⟨by show mM _=mM _;rw [b],c,?_,u⟩;show _=j_ _;unfold j_;rw [a,d];rfl
             · exact .inr ⟨a,b⟩
           | false =>
            show LM (wl e s) (wl (j_ e) s);unfold wl;rw [show e_ (j_ e) s.2.1=e_ e s.2.1 from rfl];cases !gQ [rM s] with
            | true=>exact lE h (by exact (by omega:(4:Int)≠1))
            | false =>
             simp only [aI];cases !(jq (e_ e s.2.1) (rM s)).2 with
             | true=>exact lE h (by exact (by omega:(5:Int)≠1))
             | false=>exact vf h _ _ (by exact (by omega:(0:Int)≠1))
theorem tH:∀ (l:List (Ty.d aZ)) (R:Ty.d d6),∃ x y,(lR R l).2.1=R.2.1++x∧(lR R l).2.2.1=R.2.2.1++y∧y.length≤x.length
 | [],R=>⟨[],[],(List.append_nil _).symm,(List.append_nil _).symm,Nat.le_refl _⟩
 | s::l,R=>by
  unfold lR;cases (dM R.1 s).2.1==1 with
  | true=>exact ⟨[(dM R.1 s).2],[],rfl,(List.append_nil _).symm,Nat.zero_le _⟩
  | false =>
   obtain ⟨x,y,a,b,c⟩:=tH l ((dM R.1 s).1,(R.2.1++[(dM R.1 s).2],(oa R s (dM R.1 s).2.1,R.2.2.2)));have hk:∃ z,oa R s (dM R.1 s).2.1=R.2.2.1++z∧z.length≤1:=by
    unfold oa;cases (dM R.1 s).2.1==0 with
    | false=>exact ⟨[],(List.append_nil _).symm,Nat.zero_le _⟩
    | true =>
     cases decide (((pq R.1 s).length:Int) > 0) with
     | false=>exact ⟨[],(List.append_nil _).symm,Nat.zero_le _⟩
     | true=>exact ⟨[(R.1.2.1.2.2.1,(pq R.1 s,()))],rfl,Nat.le_refl _⟩
   obtain ⟨z,hz,hz1⟩:=hk;simp only [aI];refine ⟨[(dM R.1 s).2]++x,z++y,?_,?_,?_⟩
   · rw [a];show (R.2.1++[(dM R.1 s).2])++x=_;rw [py]
   · rw [b];show oa R s (dM R.1 s).2.1++y=_;rw [hz,py]
   · rw [sF,sF,List.length_singleton];omega
def Od (R A B:Ty.d d6):Prop :=
 (B=(j_ A.1,A.2)∧rR A.1.2.2.1∧∃ x,A.2.1=R.2.1++x∧∀ a ∈ x,a.1≠1) ∨
 (∃ p a q y,A.2.1=R.2.1++p++[a]∧a.1=1∧B.2.1=R.2.1++p++q∧1≤q.length∧B.2.2.1=A.2.2.1++y∧A.1.2.2.1.2.2.2.1=true)
theorem Jk:∀ (l:List (Ty.d aZ)) (R:Ty.d d6),rR R.1.2.2.1→Od R (lR R l) (lR (j_ R.1,R.2) l)
 | [],R,h => .inl ⟨rfl,h,[],(List.append_nil _).symm,fun a ha=>by cases ha⟩
 | s::l,R,h=>by
  have hs:=N9 h s;rcases hs with ⟨a,b,c,u⟩ | ⟨a,b⟩
  · have e1:((dM R.1 s).2.1==1)=false:=n_ b;have ih:=Jk l ((dM R.1 s).1,(R.2.1++[(dM R.1 s).2],(oa R s (dM R.1 s).2.1,R.2.2.2))) u;have eA:lR R (s::l)=lR ((dM R.1 s).1,(R.2.1++[(dM R.1 s).2],(oa R s (dM R.1 s).2.1,R.2.2.2))) l:=by
     conv=>lhs;unfold lR
     rw [e1,aI]
    have emB:lR (j_ R.1,R.2) (s::l)=lR (j_ (dM R.1 s).1,(R.2.1++[(dM R.1 s).2],(oa R s (dM R.1 s).2.1,R.2.2.2))) l:=by
     conv=>lhs;unfold lR
     show (bif (dM (j_ R.1) s).2.1==1 then _ else _)=_;rw [a,e1,aI,c];rfl
    rw [eA,emB];rcases ih with ⟨i1,i2,x,i3,i4⟩ | ⟨p,a',q,y,i1,i2,i3,i4,i5,i6⟩
    · refine .inl ⟨i1,i2,[(dM R.1 s).2]++x,?_,?_⟩
      · rw [i3];show (R.2.1++[(dM R.1 s).2])++x=_;rw [py]
      · intro z hz;rcases List.mem_append.1 hz with hz | hz
        · rw [List.mem_singleton.1 hz];exact b
        · exact i4 z hz
    · refine .inr ⟨[(dM R.1 s).2]++p,a',q,y,?_,i2,?_,i4,i5,i6⟩
      · rw [i1];show (R.2.1++[(dM R.1 s).2])++p++[a']=_;simp only [py]
      · rw [i3];show (R.2.1++[(dM R.1 s).2])++p++q=_;simp only [py]
  · have e1:((dM R.1 s).2.1==1)=true:=by rw [a];rfl
    have eA:lR R (s::l)=((dM R.1 s).1,(R.2.1++[(dM R.1 s).2],(R.2.2.1,(pq R.1 s,())))):=by
     conv=>lhs;unfold lR
     rw [e1,aU]
    obtain ⟨x,y,h1,h2,_⟩:=tH (s::l) (j_ R.1,R.2);have h3:1≤x.length:=by
     have hx:∃ z,(lR (j_ R.1,R.2) (s::l)).2.1=(R.2.1++[(dM (j_ R.1) s).2])++z:=by
      conv=>enter [1,z,1];unfold lR
      show ∃ z,(bif (dM (j_ R.1) s).2.1==1 then _ else _:Ty.d d6).2.1=_;cases (dM (j_ R.1) s).2.1==1 with
      | true=>exact ⟨[],(List.append_nil _).symm⟩
      | false =>obtain ⟨z,_,hz,_⟩:=tH l ((dM (j_ R.1) s).1,((j_ R.1,R.2).2.1++[(dM (j_ R.1) s).2],(oa (j_ R.1,R.2) s (dM (j_ R.1) s).2.1,(j_ R.1,R.2).2.2.2)));exact ⟨z,hz⟩
     obtain ⟨z,hz⟩:=hx;rw [hz] at h1;have:=congrArg List.length h1;simp only [sF,List.length_singleton] at this;have hR:(j_ R.1,R.2).2.1=R.2.1:=rfl;rw [hR] at this;omega
    rw [eA];refine .inr ⟨[],(dM R.1 s).2,x,y,?_,a,?_,h3,h2,b⟩
    · show R.2.1++[(dM R.1 s).2]=_;rw [List.append_nil]
    · rw [h1,List.append_nil]
theorem Kw:∀ (l:List (Ty.d aZ)) (R:Ty.d d6),(lR R l).2.1.length≤R.2.1.length+l.length:=by
 intro l
 induction l with
 | nil=>exact fun R=>Nat.le_refl _
 | cons s l ih =>
  intro R;unfold lR;cases (dM R.1 s).2.1==1 with
  | true =>show (R.2.1++[(dM R.1 s).2]).length≤_;rw [bK,lq];omega
  | false =>have:=ih ((dM R.1 s).1,(R.2.1++[(dM R.1 s).2],(oa R s (dM R.1 s).2.1,R.2.2.2)));have e:(R.2.1++[(dM R.1 s).2]).length=R.2.1.length+1:=bK ..;rw [lq];simp only [aI];have this:_≤(R.2.1++[(dM R.1 s).2]).length+l.length:=this;omega
theorem Gu {k:Nat} (hk:2 ^ 50≤k) {code:List Int} (hl:code.length≤1048576):nW (jQ.f k code) (fun r=>r.1.2.2.1.length≤100000):=by
 unfold jQ.f jQ.t;refine cY (Ld hk hl) fun r1 q1=>?_
 refine cY (Ew hk q1) fun r2 q2=>?_
 obtain ⟨c2,z2⟩:=q2;have hz:r2.2.1.2.2.1.length≤100000:=by omega
 refine cY (yS k c2 (by omega) (by omega)) fun r3 c3=>?_
 have A:∀ (cap fu:Int) (c:ng),CI c→nW ((cy.f k c 20).bind fun r5=>(bif r5.2.1 then ((aQ.f k r5.1 [(-1),100001,0,9]).bind fun r6=>(some ((r6.2.1,(fu,r2.2.1.2.2)),()))) else (some ((cap,(fu,r2.2.1.2.2)),())))) (fun r:Ty.d kQ × Unit=>r.1.2.2.1.length≤100000):=fun cap fu c hc =>
  cY (yv k hc (by omega) (by omega)) fun r5 c5=>ib (fun _=>cY (th k c5 (by decide) (by decide)) fun r6 _=>fB hz) (fun _=>fB hz)
 have B:nW ((aj.f k r3.1 60).bind fun r4=>((cy.f k r4.1 20).bind fun r5=>(bif r5.2.1 then ((aQ.f k r5.1 [(-1),100001,0,9]).bind fun r6=>(some ((r6.2.1,(r4.2.1,r2.2.1.2.2)),()))) else (some ((r2.2.1.1,(r4.2.1,r2.2.1.2.2)),()))))) (fun r:Ty.d kQ × Unit=>r.1.2.2.1.length≤100000) :=
  cY (yS k c3 (by omega) (by omega)) fun r4 c4=>A _ _ _ c4
 have C:nW ((aQ.f k r3.1 [(-2),(-1),0,100001]).bind fun r4=>((cy.f k r4.1 20).bind fun r5=>(bif r5.2.1 then ((aQ.f k r5.1 [(-1),100001,0,9]).bind fun r6=>(some ((r6.2.1,(r4.2.1,r2.2.1.2.2)),()))) else (some ((r2.2.1.1,(r4.2.1,r2.2.1.2.2)),()))))) (fun r:Ty.d kQ × Unit=>r.1.2.2.1.length≤100000) :=
  cY (th k c3 (by decide) (by decide)) fun r4 c4=>A _ _ _ c4
 have D:nW ((cy.f k r3.1 20).bind fun r10=>(bif r10.2.1 then ((aQ.f k r10.1 [(-1),100001,0,9]).bind fun r11=>(some ((r11.2.1,r2.2.1.2),()))) else (some r2.2))) (fun r:Ty.d kQ × Unit=>r.1.2.2.1.length≤100000) :=
  cY (yv k c3 (by omega) (by omega)) fun r5 c5=>ib (fun _=>cY (th k c5 (by decide) (by decide)) fun r6 _=>fB hz) (fun _=>fB hz)
 exact ib (fun _=>ib (fun _=>B) (fun _=>ib (fun _=>C) (fun _=>D))) (fun _=>ib (fun _=>B) (fun _=>ib (fun _=>C) (fun _=>D)))
end Go.Proofs.YtijlgdoiofdmhaaGreatDoor.G

/- Plain laws, merged; what is proved here is told ahead of each part. -/
import Derived.Test.YteejjngdagmofaaGreatDoorZK1
set_option linter.unusedVariables false
set_option linter.unusedSimpArgs false
namespace Go.Proofs.YteejjngdagmofaaGreatDoor.G
open Go.V
theorem GY (s:ByteArray):ByteArray.extract s s.size s.size=⟨#[]⟩:=jt (by rw [j7,List.drop_eq_nil_of_le (by rw [dD];omega)];rfl)
theorem Lg (s:ByteArray):∀ (d d':Nat) (i:Int),0≤i→i≤s.size→(s.size:Int)-i<d→(fU s d i).2-i<d'→fU (ByteArray.extract s 0 (fU s d i).2.toNat) d' i=fU s d i:=by
 intro d
 induction d with
 | zero=>intro d' i h0 h1 h2;omega
 | succ d ih =>
  intro d' i h0 h1 h2 h3;have hu:=oB (ByteArray.extract s i.toNat s.size);have hz:=tH s i.toNat;have stop:∀ d':Nat,0<d'→fU (ByteArray.extract s 0 i.toNat) d' i=([],i):=fun d' hd=>by
   obtain ⟨n,rfl⟩:∃ q,d'=q+1:=⟨d'-1,by omega⟩;have hs:(ByteArray.extract s 0 i.toNat).size=i.toNat:=qN s (by omega);have e:ByteArray.extract (ByteArray.extract s 0 i.toNat) i.toNat (ByteArray.extract s 0 i.toNat).size=⟨#[]⟩:=by have:=GY (ByteArray.extract s 0 i.toNat);rw [hs] at this ⊢;exact this
   rw [fU,e,yk,if_pos rfl]
  by_cases c1:(i_ (ByteArray.extract s i.toNat s.size)).2=0
  · have e:fU s (d+1) i=([],i):=by rw [fU,if_pos c1]
    rw [e] at h3 ⊢;exact stop d' (by simp only [] at h3;omega)
  · cases c2:(gq (i_ (ByteArray.extract s i.toNat s.size)).1).2 with
    | false =>
     have e:fU s (d+1) i=([],i):=by rw [fU,if_neg c1,if_pos c2]
     rw [e] at h3 ⊢;exact stop d' (by simp only [] at h3;omega)
    | true =>
     have e:fU s (d+1) i=(((i,((i_ (ByteArray.extract s i.toNat s.size)).2,((gq (i_ (ByteArray.extract s i.toNat s.size)).1).1,()))):Ty.d cX)::(fU s d (i+(i_ (ByteArray.extract s i.toNat s.size)).2)).1,(fU s d (i+(i_ (ByteArray.extract s i.toNat s.size)).2)).2):=by rw [fU,if_neg c1,if_neg (by rw [c2];decide)]
     rw [e] at h3 ⊢;simp only [] at h3 ⊢;have hl:=xc s d (i+(i_ (ByteArray.extract s i.toNat s.size)).2) (by omega) (by omega);obtain ⟨n,rfl⟩:∃ q,d'=q+1:=⟨d'-1,by omega⟩;have ih:=ih n (i+(i_ (ByteArray.extract s i.toNat s.size)).2) (by omega) (by omega) (by omega) (by omega);have key:i_ (ByteArray.extract (ByteArray.extract s 0 (fU s d (i+(i_ (ByteArray.extract s i.toNat s.size)).2)).2.toNat) i.toNat (ByteArray.extract s 0 (fU s d (i+(i_ (ByteArray.extract s i.toNat s.size)).2)).2.toNat).size)=i_ (ByteArray.extract s i.toNat s.size):=by
      generalize (fU s d (i+(i_ (ByteArray.extract s i.toNat s.size)).2)).2=x at hl ⊢;rcases n7 (ByteArray.extract s i.toNat s.size) with ⟨t,r,ht,e1,e2⟩ | ⟨e2,_⟩
      · rw [e2] at hl ⊢;simp only [] at hl;have e3:ByteArray.extract (ByteArray.extract s 0 x.toNat) i.toNat (ByteArray.extract s 0 x.toNat).size=aM t++ByteArray.extract r 0 (x.toNat-i.toNat-(aM t).size):=by
         apply jt;have hnb:=congrArg nb e1;rw [j7,gS] at hnb;rw [j7,lC,gS,lC,List.drop_take,hnb,List.take_append,dD,List.take_of_length_le (by rw [dD];omega)]
        rw [e3,oA _ ht]
      · exact absurd (by rw [e2]) c1
     rw [fU,key,if_neg c1,if_neg (by rw [c2];decide),ih]
theorem Ci (s:ByteArray):b9 (ByteArray.extract s 0 (b9 s).2.toNat)=b9 s:=by have hl:=lW s;have:=Lg s (s.size+1) ((b9 s).2.toNat+1) 0 (by omega) (by omega) (by omega) (by show (b9 s).2-0<_;omega);have hz:=qN s (n:=(b9 s).2.toNat) (by omega);unfold b9 at hz ⊢;rw [hz];exact this
theorem rM {h:Ty.d aF→Ty.d aF} (hh:∀ f,(h f).1=f.1):∀ (l:ao) (s t:ByteArray),b8 (iT h l s) t=bif seq t s then (b8 l s).map h else b8 l t
 | [],s,t=>by cases seq t s <;> rfl
 | g::l,s,t=>by
  unfold iT;cases c:seq g.1 s with
  | true =>
   have e:=cF.1 c;rw [ae,b8.eq_2,hh,b8.eq_2,c,ae];by_cases q:t=s
   · rw [e,q,bB];rfl
   · rw [jr q,aH,b8.eq_2];rw [e,jr (fun w=>q w.symm)];rfl
  | false =>
   rw [aH,b8.eq_2,b8.eq_2,c,aH,rM hh l s t,b8.eq_2];by_cases q:t=s
   · rw [q,bB,c];rfl
   · rw [jr q];rfl
theorem nB {d:Ty.d aA} {g:ao→Int→ao × Int} (h:(fA d g).2=0):(g d.1 d.2.1).2=0∧(fA d g).1.1=(g d.1 d.2.1).1:=by
 unfold fA at h ⊢;cases c:(jC d).2 != 0 with
 | true =>rw [c,ae] at h;rw [h] at c;cases c
 | false=>rw [c] at h;exact ⟨h,rfl⟩
theorem jc {d:Ty.d aA} (h:DR d) (s:ByteArray):aW d s=match b8 d.1 s with | none=>(⟨#[]⟩,false) | some f=>(f.2.1,true):=by unfold aW;rw [dH.2 h];rfl
theorem sM {d:Ty.d aA} (h:DR d) {n:ByteArray} (c:(cQ d n).2=0) (s:ByteArray):aW (cQ d n).1 s=aW d s:=by
 obtain ⟨c1,c2⟩:=nB c;rw [jc (m9 h n),jc h];unfold cQ;rw [c2];unfold qV at c1 ⊢;cases hg:(b8 d.1 n).isNone with
 | true=>rfl
 | false =>
  rw [aH];show (match b8 (iT _ d.1 n) s with | none=>_ | some f=>_)=_;rw [rM (by intro f;rfl)];by_cases q:s=n
  · rw [q,bB,ae];cases b8 d.1 n <;> rfl
  · rw [jr q,aH]
theorem B4 {d:Ty.d aA} (h:DR d) {n:ByteArray} {m:Int} (c:(qG d n m).2=0) (s:ByteArray):aW (qG d n m).1 s=bif seq s n then (ByteArray.extract (aW d n).1 0 m.toNat,true) else aW d s:=by
 obtain ⟨c1,c2⟩:=nB c;rw [jc (AO h n m),jc h,jc h];unfold qG;rw [c2];unfold Hg at c1 ⊢;cases hg:b8 d.1 n with
 | none=>rw [hg] at c1;cases c1
 | some f =>
  rw [hg] at c1;simp only [] at c1 ⊢;cases hm:decide (0≤m∧m≤(f.2.1.size:Int)) with
  | false=>rw [hm] at c1;cases c1
  | true =>
   simp only [g9,aH];rw [rM (by intro f;rfl)];by_cases q:s=n
   · rw [q,bB,ae,hg];rfl
   · rw [jr q,aH,aH]
theorem iw {r:RD} {f:Ty.d aA→RD} (h:(dz r f).2=0):r.2=0∧dz r f=f r.1∧(f r.1).2=0:=by
 unfold dz at h ⊢;cases c:r.2==0 with
 | true=>rw [c] at h;exact ⟨BU c,rfl,h⟩
 | false =>rw [c] at h;rw [aH] at h;rw [h] at c;cases c
noncomputable def dJ (d:Ty.d aA) (x:Int):ByteArray:=(aW d (a_ aD x)).1
def aQ (ids:List Int):Int:=ids.getD (ids.length-1) 0
noncomputable def eT (x:Int) (d:Ty.d aA):RD :=
 dz (bif decide ((b9 (dJ d x)).2<((dJ d x).size:Int)) then qG d (a_ aD x) (b9 (dJ d x)).2 else (d,0)) fun y=>cQ y (a_ aD x)
theorem Hl (x:Int) {d:Ty.d aA} (h:DR d):DR (eT x d).1:=by
 unfold eT;refine iI ?_ fun y hy=>m9 hy _
 cases decide ((b9 (dJ d x)).2<((dJ d x).size:Int))
 · exact h
 · exact AO h _ _
theorem H3 {d:Ty.d aA} (h:DR d) {x:Int} (c:(eT x d).2=0) (s:ByteArray):(aW (eT x d).1 s).2=(aW d s).2∧b9 (aW (eT x d).1 s).1=b9 (aW d s).1:=by
 obtain ⟨c1,c2,c3⟩:=iw c;have e:eT x d=_:=c2;rw [e];by_cases hb:(b9 (dJ d x)).2<((dJ d x).size:Int)
 · simp only [aX hb,ae] at c1 c3 ⊢;rw [sM (AO h _ _) c3,B4 h c1];by_cases q:s=a_ aD x
   · rw [q,bB,ae];refine ⟨?_,Ci (dJ d x)⟩;cases hq:(aW d (a_ aD x)).2 with
     | true=>rfl
     | false =>exfalso;unfold dJ at hb;have hl:=lW (aW d (a_ aD x)).1;rw [PG hq] at hb hl;rw [e0] at hb;omega
   · rw [jr q];exact ⟨rfl,rfl⟩
 · simp only [aZ hb,aH] at c1 c3 ⊢;rw [sM h c3];exact ⟨rfl,rfl⟩
theorem Kk {pre rest:ByteArray} {r:Ty.d bQ} (h:bN r=true) (d:Nat) :
 fU (pre++(aM (aE r)++rest)) (d+1) (pre.size:Int)=(((pre.size:Int),(((aM (aE r)).size:Int),(r,())))::(fU (pre++(aM (aE r)++rest)) d ((pre.size+(aM (aE r)).size:Nat):Int)).1,(fU (pre++(aM (aE r)++rest)) d ((pre.size+(aM (aE r)).size:Nat):Int)).2):=by
 have hz:=lO r;have hp:=lE (s:=aE r) (by omega);rw [fU,qX,gO,oA rest (by omega)];simp only [];rw [wY h,if_neg (by omega)];simp only [];rw [if_neg (show ¬ ((true:Bool)=false) by decide)];rfl
theorem y7:∀ (rs:ij) (pre:ByteArray) (d:Nat),(∀ r ∈ rs,bN r=true)→(aR rs).size<d→(fU (pre++aR rs) d (pre.size:Int)).1.map (·.2.2.1)=rs∧(fU (pre++aR rs) d (pre.size:Int)).2=((pre++aR rs).size:Int)
 | [],pre,d,_,hd=>by
  obtain ⟨d,rfl⟩:∃ q,d=q+1:=⟨d-1,by omega⟩;have:i_ (ByteArray.extract (pre++aR []) (Int.toNat (pre.size:Int)) (pre++aR []).size)=(⟨#[]⟩,0):=by rw [qX,gO,aR,yk]
  rw [fU,this,if_pos rfl,aR,aV,e0];exact ⟨rfl,rfl⟩
 | r::rs,pre,d,h,hd=>by rw [aR,aV] at hd;have hz:=lO r;have hp:=lE (s:=aE r) (by omega);obtain ⟨d,rfl⟩:∃ q,d=q+1:=⟨d-1,by omega⟩;have ih:=y7 rs (pre++aM (aE r)) d (fun x hx=>h x (jF _ hx)) (by omega);rw [bY,aV pre] at ih;rw [aR,Kk (h r (iF ..))];simp only [List.map_cons];exact ⟨by rw [ih.1],ih.2⟩
theorem qm {rs:ij} (h:∀ r ∈ rs,bN r=true):(b9 (aR rs)).1.map (·.2.2.1)=rs∧(b9 (aR rs)).2=((aR rs).size:Int):=by have:=y7 rs ⟨#[]⟩ ((aR rs).size+1) h (by omega);rw [nr,e0] at this;exact this
abbrev dX:=List (Ty.d bF)
def k_ (x:Ty.d bF):Bool:=fg x.1&&(decide ((x.2.2.1.size:Int)≤24)&&(!x.2.1||seq x.2.2.1 ⟨#[]⟩))
def bw (l:dX):Bool:=pB (fun _=>k_) none l&&decide (l.length≤8)
theorem Bo {k:Nat} (hk:2 ^ 50≤k) {l:dX} (hl:l.length≤1099511627776):fJ.f k l=some (bw l,()):=by
 unfold fJ.f fJ.t bw;have st:∀ (n:Nat) (i:Int) x,0≤i→i<l.length→l.getD i.toNat (Ty.z bF)=x→fJ.l0 k (n+1) l l l.length i=bif k_ x then fJ.l0 k n l l l.length (i+1) else some (false,()):=fun n i x h0 h1 hx=>by
  have e:fX.f k x=some (k_ x,()):=by unfold fX.f fX.t k_ fg;rw [kO,ac];cases decide (1≤(x.1.size:Int)∧(x.1.size:Int)≤8) <;> cases decide ((x.2.2.1.size:Int)≤24) <;> cases x.2.1 <;> rfl
  simp (disch:=omega) only [fJ.l0,fJ.b0,aX h1,ae,aY,hx,e,ac,aG];cases k_ x <;> rfl
 exact (BM (L:=fun n i=>fJ.l0 k n l l l.length i) (Ty.z bF) l (fun _=>k_) (some (decide ((l.length:Int)≤8),())) (some (false,())) (fun n=>by simp (disch:=omega) only [fJ.l0,fJ.b0,aZ,aH])
  (fun n x h hx=>st n 0 x (by omega) (by omega) hx) (fun n i x y h0 h1 hx hy=>st n i x (by omega) h1 hx) (n:=k) (by omega)).trans (by rw [show decide ((l.length:Int)≤8)=decide (l.length≤8) from decide_eq_decide.2 (by omega)];cases pB (fun _=>k_) none l <;> rfl)
theorem mA {l:dX} (h:bw l=true):l.length≤8:=by unfold bw at h;rw [gY,decide_eq_true_eq] at h;exact h.2
theorem vC {l:dX} (h:bw l=true) {x:Ty.d bF} (hx:x ∈ l):k_ x=true:=by
 unfold bw at h;rw [gY] at h;exact (vt h.1 hx).elim fun _ q=>q
def g7 (b:Int) (p:Ty.d bF):Ty.d bQ:=bif p.2.1 then (2,(b,(p.1,(ByteArray.empty,(0,(0,())))))) else (1,(b,(p.1,(p.2.2.1,(0,(0,()))))))
def bf (l:dX) (b:Int):ij:=l.map (g7 b)++[gB 3 b (l.map (g7 b))]
theorem wx {k:Nat} (hk:2 ^ 50≤k) {l:dX} (hl:l.length≤1073741823) (b:Int):dj.f k l b=some (bf l b,()):=by
 unfold dj.f dj.t;refine (iZ (L:=fun n i s=>dj.l0 k n l b l l.length i s) (R:=fun r s=>some (s++r.map (g7 b)++[gB 3 b (s++r.map (g7 b))],())) (Ty.z bF) l (fun i s=>(s.length:Int)=i) (fun n s hs=>?_) (fun n i s x rest h0 h1 hx hr hp ih=>?_) (n:=k) (s:=[]) (by omega) (by decide)).trans (by rw [List.nil_append];rfl)
 · simp (disch:=first | omega | decide) only [dj.l0,dj.b0,aZ,aH,rF hk,ac,dT,List.map_nil,List.append_nil,gB,hs]
 · have ih:=ih (s++[g7 b x]) (by rw [rt];show ((s.length+1:Nat):Int)=_;omega);have e:g7 b x=bif x.2.1 then (2,(b,(x.1,(ByteArray.empty,(0,(0,())))))) else (1,(b,(x.1,(x.2.2.1,(0,(0,())))))):=rfl;simp (disch:=first | omega | decide) only [dj.l0,dj.b0,aX,ae,aY,hx,dT,aG];cases c:x.2.1 <;> rw [c] at e <;> simp only [ae,aH] at e ⊢ <;> rw [← e] <;> refine ih.trans ?_ <;> simp only [List.map_cons,qY,List.cons_append,List.nil_append]
def aS (r:Ty.d bQ):Int:=((aM (aE r)).size:Int)
theorem kj (r:Ty.d bQ):0≤aS r∧aS r≤211:=by have:=mL (aE r);unfold aS;omega
def lH (l:aO) (key:ByteArray):aO:=l.filter fun x=>!(seq x.1 key)
def Q1 (key:ByteArray) (x:Ty.d aB):Bool:=nS x.1 key||seq x.1 key
def uG (l:aO) (e:Ty.d aB):aO:=l.takeWhile (Q1 e.1)++e::l.dropWhile (Q1 e.1)
def pb (l:aO) (e:Ty.d aB):aO:=uG (lH l e.1) e
theorem qW (l:aO) (key:ByteArray):(lH l key).length≤l.length:=List.length_filter_le ..
theorem HT (l:aO) (e:Ty.d aB):(uG l e).length=l.length+1:=by unfold uG;rw [rt,kM];have:=congrArg List.length (List.takeWhile_append_dropWhile (p:=Q1 e.1) (l:=l));rw [rt] at this;omega
theorem N_ (l:aO) (e:Ty.d aB):(pb l e).length≤l.length+1:=by unfold pb;have:=qW l e.1;rw [HT];omega
abbrev aT:=List (Ty.d aI)
def eS (b:Int) (acc:aT) (p:Ty.d aI):aT :=
 bif p.2.2.2.1.2.1==b then (bif p.2.2.2.1.1==3 then [] else bif p.2.2.2.1.1==1||p.2.2.2.1.1==2 then acc++[p] else acc) else acc
def fv (acc:aT) (p:Ty.d aI):aT:=bif p.2.2.2.1.1==5 then [] else bif p.2.2.2.1.1==4 then acc++[p] else acc
def eH (b:Int) (l:aT):aT:=l.foldl (eS b) []
def bU (l:aT):aT:=l.foldl fv []
theorem wZ (b:Int) (acc:aT) (p:Ty.d aI):(eS b acc p).length≤acc.length+1:=by unfold eS;cases p.2.2.2.1.2.1==b <;> cases p.2.2.2.1.1==3 <;> cases p.2.2.2.1.1==1 <;> cases p.2.2.2.1.1==2 <;> simp
theorem vK (acc:aT) (p:Ty.d aI):(fv acc p).length≤acc.length+1:=by unfold fv;cases p.2.2.2.1.1==5 <;> cases p.2.2.2.1.1==4 <;> simp
theorem xa {f:aT→Ty.d aI→aT} (h:∀ a p,(f a p).length≤a.length+1):∀ (l acc:aT),(l.foldl f acc).length≤acc.length+l.length
 | [],acc=>by simp
 | p::l,acc=>by have:=xa h l (f acc p);have:=h acc p;rw [List.foldl_cons,kM];omega
theorem xq (b:Int) (l:aT):(eH b l).length≤l.length:=by have:=xa (wZ b) l [];simpa [eH] using this
theorem xl (l:aT):(bU l).length≤l.length:=by have:=xa vK l [];simpa [bU] using this
theorem Em {k:Nat} (hk:2 ^ 50≤k) {l:aT} {r:Ty.d bQ} (hr:r.1=3) (hl:l.length≤1099511627775):dC.f k l r=some (eH r.2.1 l,()):=by
 unfold dC.f dC.t;rw [hr];refine iZ (L:=fun n i s=>dC.l0 k n l l.length i 3 r.2.1 r.2.2.1 r.2.2.2.1 r.2.2.2.2.1 r.2.2.2.2.2.1 s) (R:=fun q s=>some (q.foldl (eS r.2.1) s,())) (Ty.z aI) l (fun i s=>(s.length:Int)≤i) (fun n s hs=>?_) (fun n i s x rest h0 h1 hx hr hp ih=>?_) (n:=k) (s:=[]) (by omega) (by decide)
 · simp (disch:=omega) only [dC.l0,dC.b0,aZ,aH,List.foldl_nil]
 · simp (disch:=omega) only [dC.l0,dC.b0,aX h1,ae,aH,aY,hx,aG,show ((3:Int)==3)=true from rfl,show ((3:Int)==5)=false from rfl];rw [List.foldl_cons];have hs1:=wZ r.2.1 s x;have ih1:=ih (eS r.2.1 s x) (by omega);rw [← ih1];unfold eS bne;have r1:∀ {R:Type} (q:Option R),rm (Ty.bytes aI) (s.length+1) q=q:=fun q=>dT (by omega) (by decide)
   simp only [r1];cases c1:(x.2.2.2.1.2.1==r.2.1) <;> cases c2:(x.2.2.2.1.1==3) <;> cases c3:(x.2.2.2.1.1==1) <;> cases c4:(x.2.2.2.1.1==2) <;> rfl
theorem vM {k:Nat} (hk:2 ^ 50≤k) {l:aT} {r:Ty.d bQ} (hr:r.1=5) (hl:l.length≤1099511627775):dC.f k l r=some (bU l,()):=by
 unfold dC.f dC.t;rw [hr];refine iZ (L:=fun n i s=>dC.l0 k n l l.length i 5 r.2.1 r.2.2.1 r.2.2.2.1 r.2.2.2.2.1 r.2.2.2.2.2.1 s) (R:=fun q s=>some (q.foldl fv s,())) (Ty.z aI) l (fun i s=>(s.length:Int)≤i) (fun n s hs=>?_) (fun n i s x rest h0 h1 hx hr hp ih=>?_) (n:=k) (s:=[]) (by omega) (by decide)
 · simp (disch:=omega) only [dC.l0,dC.b0,aZ,aH,List.foldl_nil]
 · simp (disch:=omega) only [dC.l0,dC.b0,aX h1,ae,aH,aY,hx,aG,show ((5:Int)==3)=false from rfl,show ((5:Int)==5)=true from rfl];rw [List.foldl_cons];have hs1:=vK s x;have ih1:=ih (fv s x) (by omega);rw [← ih1];unfold fv;have r1:∀ {R:Type} (q:Option R),rm (Ty.bytes aI) (s.length+1) q=q:=fun q=>dT (by omega) (by decide)
   simp only [r1];cases c1:(x.2.2.2.1.1==5) <;> cases c2:(x.2.2.2.1.1==4) <;> rfl
def Ai (p:Ty.d aI):Ty.d bQ:=p.2.2.2.1
def im (r:Ty.d bQ) (own:aT):Bool:=(r.2.2.2.2.1==(own.length:Int))&&(r.2.2.2.2.2.1==Gi (own.map Ai))
theorem sV {k:Nat} (hk:2 ^ 50≤k) (r:Ty.d bQ) {l:aT} (hl:l.length≤1073741823):gw.f k r l=some (im r l,()):=by
 unfold gw.f gw.t;refine (iZ (L:=fun n i s=>gw.l0 k n l l.length i r.1 r.2.1 r.2.2.1 r.2.2.2.1 r.2.2.2.2.1 r.2.2.2.2.2.1 s) (R:=fun q s=>some ((r.2.2.2.2.1==((s++q.map Ai).length:Int))&&(r.2.2.2.2.2.1==Gi (s++q.map Ai)),())) (Ty.z aI) l (fun i s=>(s.length:Int)=i) (fun n s hs=>?_) (fun n i s x rest h0 h1 hx hr hp ih=>?_) (n:=k) (s:=[]) (by omega) (by decide)).trans (by rw [List.nil_append,List.length_map];rfl)
 · simp (disch:=omega) only [gw.l0,gw.b0,aZ,aH,List.map_nil,List.append_nil,rF hk,ac];cases (r.2.2.2.2.1==(s.length:Int)) <;> rfl
 · simp (disch:=first | omega | decide) only [gw.l0,gw.b0,aX,ae,aY,hx,dT,aG];refine (ih (s++[Ai x]) (by rw [fq];omega)).trans ?_;simp only [List.map_cons,qY,List.cons_append,List.nil_append]
theorem oM {k:Nat} (hk:2 ^ 50≤k) {l:aO} (key:ByteArray) (hl:l.length≤1099511627775):br.f k l key=some (lH l key,()):=by
 unfold br.f br.t;refine (iZ (L:=fun n i s=>br.l0 k n key l l.length i s) (R:=fun r s=>some (s++lH r key,())) (Ty.z aB) l (fun i s=>(s.length:Int)≤i) (fun n s hs=>?_) (fun n i s x rest h0 h1 hx hr hp ih=>?_) (n:=k) (s:=[]) (by omega) (by decide)).trans (by rw [List.nil_append])
 · simp (disch:=omega) only [br.l0,br.b0,aZ,aH,lH,List.filter_nil,List.append_nil]
 · cases c:seq x.1 key with
   | true =>simp (disch:=first | omega | decide) only [br.l0,br.b0,aX,ae,aH,aY,hx,c,g9,aG];refine (ih s (by omega)).trans ?_;simp only [lH,List.filter_cons,c,g9,Bool.false_eq_true,if_false]
   | false =>simp (disch:=first | omega | decide) only [br.l0,br.b0,aX,ae,aY,hx,c,yO,dT,aG];refine (ih (s++[x]) (by rw [fq];omega)).trans ?_;simp only [lH,List.filter_cons,c,yO,if_true,qY,List.cons_append,List.nil_append]
theorem uQ {k:Nat} (hk:2 ^ 50≤k) {l:aO} (e:Ty.d aB) (hl:l.length≤1099511627775):cr.f k l e=some (pb l e,()):=by
 unfold cr.f cr.t pb;rw [oM hk e.1 hl,ac];have hd:=qW l e.1;simp only [];generalize lH l e.1=r at *;have cp:∀ q:aO,q.length≤1099511627775→cS.f k q=some (q,()):=fun q hq=>by unfold cS.f cS.t;rw [dT (by omega) (by decide)]
 have key:∀ (d j n:Nat),r.length-j=d→j≤r.length→d<n→cr.l0 k n (j:Int) e.1 e.2.1 e.2.2.1 e.2.2.2.1 e.2.2.2.2.1 r=some (r.take j++uG (r.drop j) e,()):=by
  intro d
  induction d with
  | zero =>
   intro j n hd hj hn;obtain ⟨n,rfl⟩:∃ q,n=q+1:=⟨n-1,by omega⟩;have:j=r.length:=by omega
   subst this;simp (disch:=first | omega | (simp only [fq,List.length_take,List.length_drop];omega) | decide) only [cr.l0,cr.b0,aZ,aH,d7,qX,cp,ac,dT];rw [List.drop_length,uG];simp
  | succ d ih =>
   intro j n hd hj hn;obtain ⟨n,rfl⟩:∃ q,n=q+1:=⟨n-1,by omega⟩;have hlt:j<r.length:=by omega
   have e1:r.drop j=r.getD j (Ty.z aB)::r.drop (j+1):=by rw [List.drop_eq_getElem_cons hlt];simp [List.getD,hlt]
   cases c:Q1 e.1 (r.getD j (Ty.z aB)) with
   | true =>have c':=c;unfold Q1 at c';have ih:=ih (j+1) n (by omega) (by omega) (by omega);simp (disch:=omega) only [cr.l0,cr.b0,aX,ae,aY,qX,c',aG];rw [show ((j:Int)+1)=((j+1:Nat):Int) by omega,ih,e1,kv (z:=Ty.z aB) hlt];unfold uG;simp only [List.takeWhile_cons,List.dropWhile_cons,c,if_true,qY,List.cons_append,List.nil_append]
   | false =>have c':=c;unfold Q1 at c';simp (disch:=first | omega | (simp only [fq,List.length_take,List.length_drop];omega) | decide) only [cr.l0,cr.b0,aX,ae,aH,aY,qX,c',d7,cp,ac,dT];rw [e1];unfold uG;simp only [List.takeWhile_cons,List.dropWhile_cons,c,Bool.false_eq_true,if_false,qY,List.cons_append,List.nil_append]
 exact (key r.length 0 k (by omega) (by omega) (by omega)).trans (by rw [List.take_zero,List.drop_zero,List.nil_append])
def dI (p:Ty.d aI):Ty.d aB:=(p.2.2.2.1.2.2.1,(p.1,(p.2.1,(p.2.2.1,(p.2.2.2.1.2.1,())))))
def f8 (d:aO) (p:Ty.d aI):aO:=bif p.2.2.2.1.1==2 then lH d p.2.2.2.1.2.2.1 else pb d (dI p)
def bq (d:aO) (own:aT):aO:=own.foldl f8 d
theorem y_ (d:aO) (p:Ty.d aI):(f8 d p).length≤d.length+1:=by
 unfold f8;have h1:=qW d p.2.2.2.1.2.2.1;have h2:=N_ d (dI p);cases p.2.2.2.1.1==2
 · rw [aH];omega
 · rw [ae];omega
theorem ul:∀ (own:aT) (d:aO),(bq d own).length≤d.length+own.length
 | [],d=>Nat.le_refl _
 | p::own,d=>by have:=ul own (f8 d p);have:=y_ d p;rw [bq,List.foldl_cons,kM];unfold bq at this;simp only [bq] at *;omega
def nL (d:aO) (code:Int):Int:=if d.length > 20 then 2 else code
theorem vx {k:Nat} (hk:2 ^ 50≤k) (g:Ty.d jY) {own:aT} (ho:own.length≤268435456) (hd:g.1.length≤268435456):cG.f k g own=some ((bq g.1 own,(g.2.1,(nL (bq g.1 own) g.2.2.1,()))),()):=by
 unfold cG.f cG.t;refine iZ (L:=fun n i (d:aO)=>cG.l0 k n own own.length i d g.2.1 g.2.2.1) (R:=fun q d=>some ((bq d q,(g.2.1,(nL (bq d q) g.2.2.1,()))),())) (Ty.z aI) own (fun i d=>(d.length:Int)≤268435456+i) (fun n d hs=>?_) (fun n i d x rest h0 h1 hx hr hp ih=>?_) (n:=k) (s:=g.1) (by omega) (by omega)
 · change _=some ((d,(g.2.1,(nL d g.2.2.1,()))),());simp (disch:=omega) only [cG.l0,cG.b0,aZ (show ¬ ((own.length:Int)<(own.length:Int)) by omega),aH,nL];by_cases c:d.length > 20
   · rw [aX (by omega),if_pos c];rfl
   · rw [aZ (by omega),if_neg c];rfl
 · have hsd:=y_ d x;have ih:=ih (f8 d x) (by omega);have e:f8 d x=bif x.2.2.2.1.1==2 then lH d x.2.2.2.1.2.2.1 else pb d (dI x):=rfl;simp (disch:=omega) only [cG.l0,cG.b0,aX h1,ae,aY,hx,oM hk,uQ hk,ac,aG];rw [show bq d (x::rest)=bq (f8 d x) rest from rfl,← ih,e];cases x.2.2.2.1.1==2 <;> rfl
def nq (a b:Int):Int:=if a > b then a else b
def iL (all:aT):aT→Nat→aO→Int→Int→Ty.d jY
 | [],_,d,last,code=>bif code==0&&decide ((bU all).length > 0) then (d,(last,(1,()))) else (d,(last,(code,())))
 | p::rest,i,d,last,code =>
  bif code != 0 then (d,(last,(code,()))) else
  bif p.2.2.2.1.1==3 then (bif im p.2.2.2.1 (eH p.2.2.2.1.2.1 (all.take i)) then iL all rest (i+1) (bq d (eH p.2.2.2.1.2.1 (all.take i))) (nq p.2.2.2.1.2.1 last) (nL (bq d (eH p.2.2.2.1.2.1 (all.take i))) code)
   else iL all rest (i+1) d (nq p.2.2.2.1.2.1 last) code) else
  bif p.2.2.2.1.1==5 then (bif im p.2.2.2.1 (bU (all.take i)) then iL all rest (i+1) (bq d (bU (all.take i))) (nq p.2.2.2.1.2.1 last) (nL (bq d (bU (all.take i))) code)
   else iL all rest (i+1) d (nq p.2.2.2.1.2.1 last) 1) else
  iL all rest (i+1) d (nq p.2.2.2.1.2.1 last) code
def i7 (g:Ty.d jY) (l:aT):Ty.d jY:=iL l l 0 g.1 g.2.1 g.2.2.1
def MC (d:aO) (code:Int):Prop:=d.length≤268435456∧(code=0→d.length≤134217728)
theorem rE {d:aO} {own:aT} {code:Int} (h:MC d 0) (ho:own.length≤134217728):MC (bq d own) (nL (bq d own) code):=by
 have h1:=ul own d;have h2:=h.2 rfl;refine ⟨by omega,fun q=>?_⟩;unfold nL at q;split at q
 · cases q
 · omega
theorem GX {d:aO} (h:MC d 0):MC d 1:=⟨h.1,fun q=>by cases q⟩
theorem zG {k:Nat} (hk:2 ^ 50≤k) (g:Ty.d jY) {l:aT} (hl:l.length≤134217728) (hd:g.1.length≤134217728):dO.f k g l=some (i7 g l,()):=by
 unfold dO.f dO.t;have cp:cS.f k g.1=some (g.1,()):=by unfold cS.f cS.t;rw [dT (by omega) (by decide)]
 rw [cp,ac];simp only [];have key:=Rp (L:=fun n i (s:aO × Int × Int)=>dO.l0 k n l l l.length i [] 0 0 s.1 s.2.1 s.2.2) (R:=fun (q:aT) s=>some (iL l q (l.length-q.length) s.1 s.2.1 s.2.2,())) (Ty.z aI) l (fun i s=>MC s.1 s.2.2) (fun n s hs=>?_) (fun n i s x rest h0 h1 hx hr hp ih=>?_) k 0 (g.1,(g.2.1,g.2.2.1)) (by omega) (by omega) (by omega) ⟨by simp only [];omega,fun _=>by simp only [];omega⟩
 · have e:l.drop (Int.toNat 0)=l:=rfl;rw [e,Nat.sub_self] at key;exact key
 · obtain ⟨d,last,code⟩:=s;have hm:=vM hk (l:=l) (r:=(5,(0,(ByteArray.empty,(ByteArray.empty,(0,(0,()))))))) rfl (by omega);simp (disch:=omega) only [dO.l0,dO.b0,aZ,aH,iL,hm,ac];cases c1:(code==0)
   · rfl
   · by_cases c2:(bU l).length > 0
     · rw [aX (show ((bU l).length:Int) > 0 by omega),aX c2];rfl
     · rw [aZ (show ¬ ((bU l).length:Int) > 0 by omega),aZ c2];rfl
 · obtain ⟨d,last,code⟩:=s;simp only [] at hp ih;have hi:l.length-(x::rest).length=i.toNat:=by
    have:=congrArg List.length hr;rw [List.length_drop] at this;omega
   have hi2:l.length-rest.length=i.toNat+1:=by rw [kM] at hi;have:=congrArg List.length hr;rw [List.length_drop,kM] at this;omega
   have htk:(l.take i.toNat).length≤134217728:=by rw [List.length_take];omega
   have ih:=fun a b c h=>ih (a,(b,c)) h
   simp only [hi2] at ih;rw [hi];simp (disch:=omega) only [dO.l0,dO.b0,aX h1,ae,aY,hx,aG,iL];by_cases c0:code=0
   case neg =>rw [show (code != 0)=true from bne_iff_ne.2 c0];rfl
   subst c0;simp only [show ((0:Int) != 0)=false from rfl,aH];by_cases c3:x.2.2.2.1.1=3
   · have b3:(x.2.2.2.1.1==3)=true:=by rw [c3];rfl
     have b3':(x.2.2.2.1.1 != 3)=false:=by rw [c3];rfl
     have b5:(x.2.2.2.1.1==5)=false:=by rw [c3];rfl
     have hlen:=xq x.2.2.2.1.2.1 (l.take i.toNat);simp only [b3,b3',b5,ae,aH];rw [d7 (by omega) (by omega),Em hk c3 (by omega),ac];simp only [];rw [sV hk _ (by omega),ac];cases c:im x.2.2.2.1 (eH x.2.2.2.1.2.1 (l.take i.toNat)) with
     | true =>simp only [ae];rw [vx hk _ (by omega) (by simp only [];exact hp.1),ac];exact ih _ _ _ (rE hp (by omega))
     | false =>simp only [aH];exact ih _ _ _ hp
   · have b3:(x.2.2.2.1.1==3)=false:=pG c3;have b3':(x.2.2.2.1.1 != 3)=true:=bne_iff_ne.2 c3;by_cases c5:x.2.2.2.1.1=5
     · have b5:(x.2.2.2.1.1==5)=true:=by rw [c5];rfl
       have b5':(x.2.2.2.1.1 != 5)=false:=by rw [c5];rfl
       have hlen:=xl (l.take i.toNat);simp only [b3,b3',b5,b5',ae,aH];rw [d7 (by omega) (by omega),vM hk c5 (by omega),ac];simp only [];rw [sV hk _ (by omega),ac];cases c:im x.2.2.2.1 (bU (l.take i.toNat)) with
       | true =>simp only [ae];rw [vx hk _ (by omega) (by simp only [];exact hp.1),ac];exact ih _ _ _ (rE hp (by omega))
       | false =>simp only [aH];exact ih _ _ _ (GX hp)
     · have b5:(x.2.2.2.1.1==5)=false:=pG c5;have b5':(x.2.2.2.1.1 != 5)=true:=bne_iff_ne.2 c5;simp only [b3,b3',b5,b5',ae,aH];exact ih _ _ _ hp
theorem lP (all:aT) (ha:all.length≤134217728):∀ (q:aT) (i:Nat) (d:aO) (last code:Int),MC d code→(iL all q i d last code).1.length≤268435456
 | [],i,d,last,code,h=>by unfold iL;cases code==0&&decide ((bU all).length > 0) <;> exact h.1
 | p::q,i,d,last,code,h=>by
  have hs:=xq p.2.2.2.1.2.1 (all.take i);have hm:=xl (all.take i);have htk:(all.take i).length≤134217728:=by rw [List.length_take];omega
  unfold iL;by_cases c0:code=0
  case neg=>rw [show (code != 0)=true from bne_iff_ne.2 c0];exact h.1
  subst c0;simp only [show ((0:Int) != 0)=false from rfl,aH];cases p.2.2.2.1.1==3
  · cases p.2.2.2.1.1==5
    · exact lP all ha q _ _ _ _ h
    · cases im p.2.2.2.1 (bU (all.take i))
      · exact lP all ha q _ _ _ _ (GX h)
      · exact lP all ha q _ _ _ _ (rE h (by omega))
  · cases im p.2.2.2.1 (eH p.2.2.2.1.2.1 (all.take i))
    · exact lP all ha q _ _ _ _ h
    · exact lP all ha q _ _ _ _ (rE h (by omega))
theorem wA {g:Ty.d jY} {l:aT} (hl:l.length≤134217728) (hd:g.1.length≤134217728):(i7 g l).1.length≤268435456:=lP l hl l 0 _ _ _ ⟨by omega,fun _=>hd⟩
theorem Gk {lim lim':Int} (h:lim≤lim'):∀ (l:List Int) (p:Option Int),pB (qO lim) p l=true→pB (qO lim') p l=true
 | [],_,_=>rfl
 | x::l,p,q=>by simp only [pB,gY] at q ⊢;refine ⟨?_,Gk h l _ q.2⟩;have q1:=q.1;unfold qO at q1 ⊢;rw [gY,decide_eq_true_eq] at q1 ⊢;exact ⟨⟨q1.1.1,Int.le_trans q1.1.2 h⟩,q1.2⟩
theorem HN {lim n:Int} (h1:1≤n) (h:lim<n):∀ (l:List Int) (p:Option Int),(∀ y,p=some y→y<n)→pB (qO lim) p l=true→pB (qO n) p (l++[n])=true
 | [],p,hp,_=>by
  simp only [List.nil_append,pB,Bool.and_true];unfold qO;rw [gY,decide_eq_true_eq];refine ⟨⟨h1,Int.le_refl _⟩,?_⟩;cases p with
  | none=>rfl
  | some y=>exact decide_eq_true (hp y rfl)
 | x::l,p,hp,q=>by simp only [pB,gY,List.cons_append] at q ⊢;have q1:=q.1;unfold qO at q1;rw [gY,decide_eq_true_eq] at q1;refine ⟨?_,HN h1 h l _ (fun y e=>by cases e;exact Int.lt_of_le_of_lt q1.1.2 h) q.2⟩;unfold qO;rw [gY,decide_eq_true_eq];exact ⟨⟨q1.1.1,Int.le_of_lt (Int.lt_of_le_of_lt q1.1.2 h)⟩,q1.2⟩
theorem Lr {n:Int} {ids:List Int} (h:dK (n,(ids,()))=true) (hn:n<100000):dK (n+1,(ids,()))=true:=by obtain ⟨g1,g2,_⟩:=bD h;unfold dK at h ⊢;simp only [gY,decide_eq_true_eq] at h ⊢;rw [aG (n:=n+1-1) (by omega) (by omega)];rw [aG (n:=n-1) (by omega) (by omega)] at h;exact ⟨⟨show (1:Int)≤n+1 by omega,show n+1≤(100000:Int) by omega⟩,h.2.1,Gk (by omega) _ _ h.2.2⟩
theorem D5 {n:Int} {ids:List Int} (h:dK (n,(ids,()))=true) (hn:n<100000) (hl:ids.length<60):dK (n+1,(ids++[n],()))=true:=by
 obtain ⟨g1,g2,_⟩:=bD h;unfold dK at h ⊢;simp only [gY,decide_eq_true_eq] at h ⊢;rw [aG (n:=n+1-1) (by omega) (by omega)];rw [aG (n:=n-1) (by omega) (by omega)] at h;refine ⟨⟨show (1:Int)≤n+1 by omega,show n+1≤(100000:Int) by omega⟩,⟨?_,?_⟩,?_⟩
 · rw [rt,List.length_singleton];omega
 · rw [rt,List.length_singleton];omega
 · rw [show n+1-1=n by omega];exact HN g1 (by omega) _ _ (fun y e=>by cases e) h.2.2
def au (st:Ty.d aC):ByteArray:=a_ aD (aQ st.1.2.1)
theorem BL {st:Ty.d aC} (h:dK st.1=true):0≤aU ((st.1.2.1.length:Int)-1)∧aU ((st.1.2.1.length:Int)-1)<(st.1.2.1.length:Int)∧st.1.2.1.getD (aU ((st.1.2.1.length:Int)-1)).toNat (Ty.z (.int .i64))=aQ st.1.2.1:=by obtain ⟨_,_,h1,h2,_⟩:=bD (nx:=st.1.1) (ids:=st.1.2.1) h;rw [aG (n:=(st.1.2.1.length:Int)-1) (by omega) (by omega)];refine ⟨by omega,by omega,?_⟩;unfold aQ;rw [show ((st.1.2.1.length:Int)-1).toNat=st.1.2.1.length-1 by omega];rfl
theorem pf {k:Nat} {st:Ty.d aC} (h:dK st.1=true):ba.f k st=some (st,(au st,())):=by obtain ⟨h1,h2,h3⟩:=BL h;unfold ba.f ba.t au;rw [aY h1 h2,h3,cP,ac]
def tl (r:RD):RD:=(r.1,fj r.2)
theorem ny (f:Ty.d aA→RD) (d:Ty.d aA):wk f (d,0)=tl (f d):=rfl
theorem pI {r:RD} (h:(r.2==0)=true):tl r=(r.1,0):=by unfold tl;rw [BU h];rfl
theorem kq (r:RD):((tl r).2 != 0)=(r.2 != 0):=by unfold tl bne;rw [fV]
def Mn (st:Ty.d aC):Ty.d aC:=((st.1.1+1,st.1.2),st.2)
def jq (st:Ty.d aC):Ty.d cC:=(st.1.1+1,(st.1.2.1++[st.1.1],()))
def uu (st:Ty.d aC):Ty.d aC:=(jq st,(st.2.1,(st.2.2.1,(0,st.2.2.2.2))))
def oG (nm:ByteArray) (r:RD):RD:=bif r.2==2 then ((bX [gT,nm] r.1).1,bif (bX [gT,nm] r.1).2==0 then 2 else fj (bX [gT,nm] r.1).2) else r
def gV (st:Ty.d aC) (d:Ty.d aA):Ty.d aC × RD :=
 bif decide ((st.1.2.1.length:Int)≥60) then (st,(d,5)) else bif decide (st.1.1≥100000) then (st,(d,5)) else
 bif (cQ d (au st)).2 != 0 then (st,tl (cQ d (au st))) else
 bif (ak (a_ aD st.1.1) (cQ d (au st)).1).2 != 0 then (Mn st,tl (ak (a_ aD st.1.1) (cQ d (au st)).1)) else
 bif (an (jq st) (ak (a_ aD st.1.1) (cQ d (au st)).1).1).2 != 0 then (Mn st,oG (a_ aD st.1.1) (tl (an (jq st) (ak (a_ aD st.1.1) (cQ d (au st)).1).1)))
 else (uu st,((an (jq st) (ak (a_ aD st.1.1) (cQ d (au st)).1).1).1,0))
structure SR (st:Ty.d aC) (r:RD) (B:Int):Prop where
 live:dK st.1=true
 disk:DR r.1
 lo:LE.le (α:=Int) 0 st.2.2.2.1
 hi:LE.le (α:=Int) st.2.2.2.1 B
theorem JS (n:Int):(a_ aD n).size≤1000:=by
 unfold a_;by_cases h:(1:Int)≤n∧n≤100000
 · rw [aX h,ae,ByteArray.size_append];have:=m0 (n:=n) (by omega) (by omega);have:aD.size=3:=rfl;omega
 · rw [aZ h];exact Nat.zero_le _
theorem IE {k:Nat} (hk:2 ^ 50≤k) {st:Ty.d aC} {d:Ty.d aA} (hl:dK st.1=true) (hd:DR d):fE.f k st (wO (d,0))=some ((gV st d).1,(wO (gV st d).2,())):=by
 obtain ⟨g1,g2,g3,g4,_⟩:=bD (nx:=st.1.1) (ids:=st.1.2.1) hl;have hsz:=JS st.1.1;unfold fE.f fE.t gV;by_cases c1:(st.1.2.1.length:Int)≥60
 · rw [aX c1];rfl
 by_cases c2:st.1.1≥(100000:Int)
 · rw [aZ c1,aX c2];rfl
 have c2':LT.lt (α:=Int) st.1.1 100000:=Int.not_le.1 c2;rw [aZ c1,aZ c2];simp only [aH];rw [pf hl,ac];simp only [];rw [o7 hk _ hd,ac,ny];simp only [];have h1:=m9 hd (au st);generalize cQ d (au st)=r1 at h1 ⊢;rw [show (wO (tl r1)).2.1=(tl r1).2 from rfl,kq];cases c3:r1.2 != 0 with
 | true=>rfl
 | false =>
  simp only [aH];rw [pI (r:=r1) (by unfold bne at c3;simpa using c3),cP,ac];simp only [];rw [qx hk (r1.1,0) h1 (by omega),ac,ny];simp only [];have h2:=j8 (a_ aD st.1.1) _ h1;generalize ak (a_ aD st.1.1) r1.1=r2 at h2 ⊢;have ew:aU (st.1.1+1)=st.1.1+1:=aG (by omega) (by omega);rw [show (wO (tl r2)).2.1=(tl r2).2 from rfl,kq,ew];cases c4:r2.2 != 0 with
  | true=>rfl
  | false =>
   simp only [aH];rw [pI (r:=r2) (by unfold bne at c4;simpa using c4)];have ec:dm.f k ((st.1.1+1,st.1.2):Ty.d cC)=some (((st.1.1+1,st.1.2):Ty.d cC),()):=by unfold dm.f dm.t;rw [dT (by show st.1.2.1.length≤_;omega) (by decide)]
   rw [ec,ac];simp only [];have hlen:(st.1.2.1++[st.1.1]).length≤1073741824:=by rw [rt,List.length_singleton];omega
   rw [dT (by omega) (by decide),q7 hk (r2.1,0) h2 (v:=(st.1.1+1,(st.1.2.1++[st.1.1],()))) hlen,ac,ny];simp only [];have h3:=kR (jq st) _ h2;rw [show ((st.1.1+1,(st.1.2.1++[st.1.1],())):Ty.d cC)=jq st from rfl];generalize an (jq st) r2.1=r3 at h3 ⊢;rw [show (wO (tl r3)).2.1=(tl r3).2 from rfl,kq];cases c5:r3.2 != 0 with
   | true =>simp only [ae];rw [ac,show (⟨#[116,101,109,112]⟩:ByteArray)=gT from rfl];simp only [];rw [yI hk (tl r3) h3 (by simp),ac];rfl
   | false =>simp only [aH];rw [pI (r:=r3) (by unfold bne at c5;simpa using c5)];rfl
theorem tR {st:Ty.d aC} {d:Ty.d aA} (hl:dK st.1=true) (hd:DR d):dK (gV st d).1.1=true∧DR (gV st d).2.1∧(gV st d).1.2.1=st.2.1∧((gV st d).1.2.2.2.1=st.2.2.2.1∨(gV st d).1.2.2.2.1=0):=by
 unfold gV;by_cases c1:(st.1.2.1.length:Int)≥60
 · rw [aX c1];exact ⟨hl,hd,rfl,.inl rfl⟩
 by_cases c2:st.1.1≥(100000:Int)
 · rw [aZ c1,aX c2];exact ⟨hl,hd,rfl,.inl rfl⟩
 have c1':st.1.2.1.length<60:=by omega
 have c2':LT.lt (α:=Int) st.1.1 100000:=Int.not_le.1 c2;have hn:dK (Mn st).1=true:=Lr (ids:=st.1.2.1) hl c2';have hg:dK (uu st).1=true:=D5 hl c2' c1';have h1:=m9 hd (au st);have h2:=j8 (a_ aD st.1.1) _ h1;have h3:=kR (jq st) _ h2;rw [aZ c1,aZ c2];simp only [aH];generalize cQ d (au st)=r1 at h1 h2 h3 ⊢;generalize ak (a_ aD st.1.1) r1.1=r2 at h2 h3 ⊢;generalize an (jq st) r2.1=r3 at h3 ⊢;cases r1.2 != 0 with
 | true=>exact ⟨hl,h1,rfl,.inl rfl⟩
 | false =>
  cases r2.2 != 0 with
  | true=>exact ⟨hn,h2,rfl,.inl rfl⟩
  | false =>
   cases r3.2 != 0 with
   | true =>
    refine ⟨hn,?_,rfl,.inl rfl⟩;simp only [ae,aH];unfold oG;cases (tl r3).2==2 with
    | true=>exact jy _ _ h3
    | false=>exact h3
   | false=>exact ⟨hg,h3,rfl,.inr rfl⟩
def EN:Ty.d aI:=(0,(0,(0,((0,(0,(ByteArray.empty,(ByteArray.empty,(0,(0,())))))),()))))
def AN (st:Ty.d aC) (n:Int):Ty.d aC:=(st.1,(st.2.1,(st.2.2.1,(n,st.2.2.2.2))))
def gh (st:Ty.d aC) (d:Ty.d aA) (r:Ty.d bQ):(Ty.d aC × RD) × Ty.d aI :=
 bif (h_ d (au st) (aM (aE r))).2 != 0 then ((st,tl (h_ d (au st) (aM (aE r)))),EN)
 else ((AN st (st.2.2.2.1+aS r),((h_ d (au st) (aM (aE r))).1,0)),(aQ st.1.2.1,(st.2.2.2.1,(aS r,(r,())))))
def da (st:Ty.d aC) (d:Ty.d aA) (r:Ty.d bQ):(Ty.d aC × RD) × Ty.d aI :=
 bif decide (st.2.2.2.1 > 0)&&decide (st.2.2.2.1+aS r > 200) then
  (bif (gV st d).2.2 != 0 then (gV st d,EN) else gh (gV st d).1 (gV st d).2.1 r)
 else gh st d r
def fb (p:Ty.d aI):Ty.d bQ:=p.2.2.2.1
theorem DO {st:Ty.d aC} {d:Ty.d aA} (hl:dK st.1=true) (hd:DR d) {B:Int} (h0:LE.le (α:=Int) 0 st.2.2.2.1) (h1:LE.le (α:=Int) st.2.2.2.1 B) (r:Ty.d bQ) :
 SR (gh st d r).1.1 (gh st d r).1.2 (B+211)∧(gh st d r).1.1.2.1=st.2.1∧((gh st d r).1.2.2=0→fb (gh st d r).2=r):=by
 have hr:=kj r;have ha:=oP hd (au st) (aM (aE r));unfold gh;generalize h_ d (au st) (aM (aE r))=a at ha ⊢;cases c:a.2 != 0 with
 | true =>
  refine ⟨⟨hl,ha,h0,?_⟩,rfl,fun e=>?_⟩
  · show LE.le (α:=Int) st.2.2.2.1 (B+211);omega
  · have e:(tl a).2=0:=e;have q:=kq a;rw [e,c] at q;cases q
 | false =>
  refine ⟨⟨hl,ha,?_,?_⟩,rfl,fun e=>rfl⟩
  · show LE.le (α:=Int) 0 (st.2.2.2.1+aS r);omega
  · show LE.le (α:=Int) (st.2.2.2.1+aS r) (B+211);omega
theorem ww {st:Ty.d aC} {d:Ty.d aA} {B:Int} (h:SR st (d,0) B) (hB:0≤B) (r:Ty.d bQ) :
 SR (da st d r).1.1 (da st d r).1.2 (B+211)∧(da st d r).1.1.2.1=st.2.1∧((da st d r).1.2.2=0→fb (da st d r).2=r):=by
 obtain ⟨hl,hd,h0,h1⟩:=h;unfold da;cases decide (st.2.2.2.1 > 0)&&decide (st.2.2.2.1+aS r > 200) with
 | false=>exact DO hl hd h0 h1 r
 | true =>
  obtain ⟨g1,g2,g3,g4⟩:=tR hl hd;generalize gV st d=q at g1 g2 g3 g4 ⊢;have s0:LE.le (α:=Int) 0 q.1.2.2.2.1:=by rcases g4 with e | e <;> rw [e];exact h0;exact Int.le_refl _
  have s1:LE.le (α:=Int) q.1.2.2.2.1 B:=by rcases g4 with e | e <;> rw [e];exact h1;exact hB
  cases c:q.2.2 != 0 with
  | true =>
   refine ⟨⟨g1,g2,s0,?_⟩,g3,fun e=>?_⟩
   · show LE.le (α:=Int) q.1.2.2.2.1 (B+211);omega
   · have e:q.2.2=0:=e;rw [e] at c;cases c
  | false =>obtain ⟨k1,k2,k3⟩:=DO g1 g2 s0 s1 r;exact ⟨k1,k2.trans g3,k3⟩
theorem B2 {k:Nat} (hk:2 ^ 50≤k) {st:Ty.d aC} {d:Ty.d aA} (hl:dK st.1=true) (hd:DR d) (r:Ty.d bQ) (h0:LE.le (α:=Int) 0 st.2.2.2.1) (h1:LE.le (α:=Int) st.2.2.2.1 1099511627776) :
 ∃ e,((fW (aU ((List.length st.1.2.1:Int)-1)) (List.length st.1.2.1:Int) ((ba.f k st).bind fun r4=>((cJ.f k (wO (d,0)) r4.2.1 (aM (aE r))).bind fun r5=>(bif (r5.1.2.1==0) then
  (some ((r4.1.1,(r4.1.2.1,(r4.1.2.2.1,((aU (r4.1.2.2.2.1+(ByteArray.size (aM (aE r)):Int))),r4.1.2.2.2.2)))),(r5.1,((r.2.2.1,((List.getD st.1.2.1 (Int.toNat (aU ((List.length st.1.2.1:Int)-1))) (Ty.z (.int .i64))),(st.2.2.2.1,((ByteArray.size (aM (aE r)):Int),(r.2.1,()))))),()))))
  else (some (r4.1,(r5.1,((r.2.2.1,((List.getD st.1.2.1 (Int.toNat (aU ((List.length st.1.2.1:Int)-1))) (Ty.z (.int .i64))),(st.2.2.2.1,((ByteArray.size (aM (aE r)):Int),(r.2.1,()))))),())))))))):g_.Rs) =
 some ((gh st d r).1.1,(wO (gh st d r).1.2,(e,())))∧((gh st d r).1.2.2=0→e=dI (gh st d r).2):=by
 obtain ⟨g1,g2,g3⟩:=BL hl;have hr:=kj r;have hz:((aM (aE r)).size:Int)=aS r:=rfl;refine ⟨(r.2.2.1,(aQ st.1.2.1,(st.2.2.2.1,(aS r,(r.2.1,()))))),?_,?_⟩
 · rw [aY g1 g2,pf hl,ac];simp only [];rw [wu hk (d,0) hd (au st) (t:=aM (aE r)) (by omega),ac,ny];unfold gh;simp only [];generalize h_ d (au st) (aM (aE r))=a;rw [show (wO (tl a)).2.1=(tl a).2 from rfl,g3,hz];have q:=kq a;unfold bne at q ⊢;cases c:a.2==0 with
   | true =>
    rw [c] at q;have q:((tl a).2==0)=true:=by simpa using q
    rw [q,pI c];simp only [ae,aH,g9];rw [aG (by omega) (by omega)];rfl
   | false =>
    rw [c] at q;have q:((tl a).2==0)=false:=by simpa using q
    rw [q];rfl
 · unfold gh;generalize h_ d (au st) (aM (aE r))=a;cases c:a.2 != 0 with
   | true =>intro e;have e:(tl a).2=0:=e;have q:=kq a;rw [e,c] at q;cases q
   | false=>exact fun _=>rfl
theorem J3 {k:Nat} (hk:2 ^ 50≤k) {st:Ty.d aC} {d:Ty.d aA} {B:Int} (h:SR st (d,0) B) (hB:0≤B) (hB':B≤1000000000) (r:Ty.d bQ) :
 ∃ e,g_.f k st (wO (d,0)) r=some ((da st d r).1.1,(wO (da st d r).1.2,(e,())))∧((da st d r).1.2.2=0→e=dI (da st d r).2):=by
 obtain ⟨hl,hd,h0,h1⟩:=h;have hr:=kj r;have hz:((aM (aE r)).size:Int)=aS r:=rfl;have own:=B2 (d:=d) hk hl hd r h0 (by omega);have e1:aU (st.2.2.2.1+((aM (aE r)).size:Int))=st.2.2.2.1+aS r:=aG (by omega) (by omega);have hw:((wO (d,0)).2.1 != 0)=false:=rfl;unfold g_.f g_.t;rw [oH hk,ac];simp only [];rw [o5 hk,ac];simp only [];rw [hw];simp only [aH];unfold da;rw [e1];by_cases c1:LT.lt (α:=Int) 0 st.2.2.2.1
 · rw [aX (show st.2.2.2.1 > 0 from c1)];simp only [Bool.true_and,ae];by_cases c2:LT.lt (α:=Int) 200 (st.2.2.2.1+aS r)
   · rw [aX (show st.2.2.2.1+aS r > 200 from c2)];simp only [ae];rw [IE hk hl hd,ac];simp only [];obtain ⟨g1,g2,g3,g4⟩:=tR hl hd;generalize gV st d=q at g1 g2 g3 g4 ⊢;rw [show (wO q.2).2.1=q.2.2 from rfl];cases c:q.2.2 != 0 with
     | true =>refine ⟨_,rfl,fun e=>?_⟩;have e:q.2.2=0:=e;rw [e] at c;cases c
     | false =>
      have s0:LE.le (α:=Int) 0 q.1.2.2.2.1:=by rcases g4 with e | e <;> rw [e];exact h0;exact Int.le_refl _
      have s1:LE.le (α:=Int) q.1.2.2.2.1 B:=by rcases g4 with e | e <;> rw [e];exact h1;exact hB
      have e2:wO q.2=wO (q.2.1,0):=by
       have:q.2.2=0:=by unfold bne at c;simpa using c
       show (q.2.1,(q.2.2,()))=(q.2.1,((0:Int),()));rw [this]
      simp only [aH];rw [e2];exact B2 hk g1 g2 r s0 (by omega)
   · rw [aZ (show ¬ st.2.2.2.1+aS r > 200 from c2)];simp only [aH];exact own
 · rw [aZ (show ¬ st.2.2.2.1 > 0 from c1)];simp only [Bool.false_and,aH];exact own
def fT (d:Ty.d aA) (s:ByteArray):Option ByteArray:=(b8 d.1 s).map (·.2.1)
theorem gm {d:Ty.d aA} (h:DR d) (s:ByteArray):(aW d s).1=(fT d s).getD ⟨#[]⟩:=by rw [jc h];unfold fT;cases b8 d.1 s <;> rfl
theorem yj:∀ {l:ao} {f:Ty.d aF} {t:ByteArray},b8 l f.1=none→b8 (kD l f) t=bif seq f.1 t then some f else b8 l t
 | [],f,t,_=>rfl
 | g::l,f,t,h=>by
  unfold b8 at h;cases c:seq g.1 f.1 with
  | true=>rw [c] at h;cases h
  | false =>
   rw [c,aH] at h;unfold kD;cases nS f.1 g.1 with
   | true=>rfl
   | false =>
    simp only [aH];rw [b8.eq_2,yj h,b8.eq_2];by_cases q:f.1=t
    · rw [q] at c ⊢;rw [c,bB];rfl
    · rw [jr q];rfl
theorem zq {l:ao} {f:Ty.d aF} {t:ByteArray} (h:f.1≠t):b8 (kD l f) t=b8 l t:=by
 induction l with
 | nil=>unfold kD;rw [b8.eq_2,jr h];rfl
 | cons g l ih =>
  unfold kD;cases nS f.1 g.1 with
  | true=>rw [ae,b8.eq_2,jr h,aH]
  | false=>rw [aH,b8.eq_2,ih,b8.eq_2]
theorem vR {d:Ty.d aA} {g:ao→Int→ao × Int} {t:ByteArray} (h:∀ l c,(b8 (g l c).1 t).map (·.2.1)=(b8 l t).map (·.2.1)):fT (fA d g).1 t=fT d t:=by
 unfold fA fT;cases (jC d).2 != 0 with
 | true=>rw [ae,vD]
 | false=>exact h d.1 d.2.1
theorem Mg {d:Ty.d aA} {s t:ByteArray} (h:s≠t):fT (nh d s).1 t=fT d t:=vR fun l c=>by
 unfold qK;cases !ib s with
 | true=>rfl
 | false =>
  cases (b8 l s).isSome with
  | true=>rfl
  | false =>
   cases decide ((l.length:Int)≥130) with
   | true=>rfl
   | false =>show (b8 (kD l (s,(ByteArray.empty,(0,())))) t).map _=_;rw [zq (f:=(s,(ByteArray.empty,(0,())))) h]
theorem v8 {d:Ty.d aA} {s t x:ByteArray} (h:s≠t):fT (h_ d s x).1 t=fT d t:=vR fun l c=>by
 unfold rl;cases (b8 l s).isNone with
 | true=>rfl
 | false =>
  cases decide ((x.size:Int) > aU (c-(bv l:Int))) with
  | true=>rfl
  | false =>show (b8 (iT (fun f=>(f.1,(f.2.1++x,f.2.2))) l s) t).map _=_;rw [rM (h:=fun f:Ty.d aF=>(f.1,(f.2.1++x,f.2.2))) (fun f=>rfl),jr (fun q=>h q.symm)];rfl
theorem jv {d:Ty.d aA} {s t:ByteArray}:fT (cQ d s).1 t=fT d t:=vR fun l c=>by
 unfold qV;cases (b8 l s).isNone with
 | true=>rfl
 | false =>
  show (b8 (iT (fun f=>(f.1,(f.2.1,((f.2.1.size:Int),f.2.2.2)))) l s) t).map _=_;rw [rM (h:=fun f:Ty.d aF=>(f.1,(f.2.1,((f.2.1.size:Int),f.2.2.2)))) (fun f=>rfl)];by_cases q:t=s
  · rw [q,bB];cases b8 l s <;> rfl
  · rw [jr q];rfl
theorem S9 {d:Ty.d aA} {s t:ByteArray} (h:s≠t):fT (ui d s).1 t=fT d t:=vR fun l c=>by
 unfold rr;cases (b8 l s).isNone with
 | true=>rfl
 | false =>show (b8 (gP l s) t).map _=_;rw [yf (fun q=>h q.symm)]
theorem Rm {d:Ty.d aA} {a b t:ByteArray} (h1:a≠t) (h2:b≠t):fT (uC d a b).1 t=fT d t:=vR fun l c=>by
 unfold sA;cases !ib b with
 | true=>rfl
 | false =>
  simp only [aH];cases b8 l a with
  | none=>rfl
  | some f =>
   cases seq a b with
   | true=>rfl
   | false =>show (b8 (kD (gP (gP l a) b) (b,f.2)) t).map _=_;rw [zq (f:=(b,f.2)) h2,yf (fun q=>h2 q.symm),yf (fun q=>h1 q.symm)]
theorem qt {d:Ty.d aA} {s x:ByteArray}:fT (h_ d s x).1 s=bif (h_ d s x).2==0 then (fT d s).map (·++x) else fT d s:=by
 unfold h_ fA fT;cases c:(jC d).2 != 0 with
 | true =>
  rw [ae,vD];have:((jC d).2==0)=false:=by unfold bne at c;simpa using c
  rw [this];rfl
 | false =>
  simp only [aH];unfold rl;cases c1:b8 d.1 s with
  | none=>simp only [Option.isNone_none,ae];rw [c1];rfl
  | some f =>
   simp only [Option.isNone_some,aH];cases decide ((x.size:Int) > aU (d.2.1-(bv d.1:Int))) with
   | true=>simp only [ae];rw [c1];rfl
   | false =>simp only [aH];rw [rM (h:=fun f:Ty.d aF=>(f.1,(f.2.1++x,f.2.2))) (fun f=>rfl),bB,c1];rfl
theorem pR {r:RD} {f:Ty.d aA→RD} {t:ByteArray} {x:Option ByteArray} (h1:fT r.1 t=x) (h2:∀ y,fT (f y).1 t=fT y t):fT (dz r f).1 t=x:=by
 unfold dz;cases r.2==0 with
 | true=>exact (h2 _).trans h1
 | false=>exact h1
theorem Er {d:Ty.d aA} {s t:ByteArray} (h:s≠t):fT (fG s d).1 t=fT d t:=by
 unfold fG;cases (b8 d.1 s).isSome with
 | true=>exact S9 h
 | false=>rfl
theorem lD {d:Ty.d aA} {s t:ByteArray} (h:s≠t):fT (ak s d).1 t=fT d t:=pR (Er h) fun y=>Mg h
theorem Eh {d:Ty.d aA} {s t x:ByteArray} (h:s≠t):fT (jw s x d).1 t=fT d t:=pR (pR (lD h) fun y=>v8 h) fun y=>jv
theorem fB {d:Ty.d aA} {v:Ty.d cC} {t:ByteArray} (h1:gT≠t) (h2:c_≠t):fT (an v d).1 t=fT d t:=pR (Eh h1) fun y=>Rm h1 h2
theorem nP {t:ByteArray}:∀ (l:List ByteArray) (d:Ty.d aA),(∀ s ∈ l,s≠t)→fT (bX l d).1 t=fT d t
 | [],_,_=>rfl
 | s::l,d,h=>by
  show fT (dz (fG s d) (bX l)).1 t=_;exact pR (Er (h s iF)) fun y=>nP l y fun q hq=>h q (jF _ hq)
def bR:ij→Ty.d aC→Ty.d aA→aT→(Ty.d aC × RD) × aT
 | [],st,d,ps=>((st,(d,0)),ps)
 | r::l,st,d,ps=>bif (da st d r).1.2.2 != 0 then ((da st d r).1,ps) else bR l (da st d r).1.1 (da st d r).1.2.1 (ps++[(da st d r).2])
def Tk (st:Ty.d aC) (dir:aO):Ty.d aC:=(st.1,(dir,st.2.2))
def rH (n:Nat) (q:(Ty.d aC × RD) × aT):Ty.d aC × RD :=
 bif q.1.2.2 != 0 then q.1 else bif (cQ q.1.2.1 (au q.1.1)).2 != 0 then (q.1.1,tl (cQ q.1.2.1 (au q.1.1))) else (Tk q.1.1 (bq q.1.1.2.1 (q.2.take n)),((cQ q.1.2.1 (au q.1.1)).1,0))
def iV (st:Ty.d aC):Ty.d aC:=(st.1,(st.2.1,(st.2.2.1+1,st.2.2.2)))
def bS (st:Ty.d aC) (d:Ty.d aA) (l:dX):Ty.d aC × RD:=rH l.length (bR (bf l st.2.2.1) (iV st) d [])
theorem nC:∀ (l:ij) (st:Ty.d aC) (d:Ty.d aA) (ps:aT) (B:Int),SR st (d,0) B→0≤B →
 SR (bR l st d ps).1.1 (bR l st d ps).1.2 (B+211*(l.length:Int))∧(bR l st d ps).1.1.2.1=st.2.1∧((bR l st d ps).1.2.2=0→(bR l st d ps).2.map fb=ps.map fb++l)
 | [],st,d,ps,B,h,_=>⟨⟨h.live,h.disk,h.lo,by have:=h.hi;show LE.le (α:=Int) st.2.2.2.1 _;rw [List.length_nil];omega⟩,rfl,fun _=>(List.append_nil _).symm⟩
 | r::l,st,d,ps,B,h,hB=>by
  obtain ⟨g1,g2,g3⟩:=ww h hB r;unfold bR;have el:((r::l).length:Int)=(l.length:Int)+1:=by rw [kM];omega
  cases c:(da st d r).1.2.2 != 0 with
  | true =>
   refine ⟨⟨g1.live,g1.disk,g1.lo,?_⟩,g2,fun e=>?_⟩
   · have:=g1.hi;show LE.le (α:=Int) (da st d r).1.1.2.2.2.1 _;omega
   · have e:(da st d r).1.2.2=0:=e;rw [e] at c;cases c
  | false =>
   have e0:(da st d r).1.2.2=0:=by unfold bne at c;simpa using c
   obtain ⟨k1,k2,k3⟩:=nC l (da st d r).1.1 (da st d r).1.2.1 (ps++[(da st d r).2]) (B+211) ⟨g1.live,g1.disk,g1.lo,g1.hi⟩ (by omega);refine ⟨⟨k1.live,k1.disk,k1.lo,?_⟩,k2.trans g2,fun e=>?_⟩
   · have:=k1.hi;show LE.le (α:=Int) (bR l (da st d r).1.1 (da st d r).1.2.1 (ps++[(da st d r).2])).1.1.2.2.2.1 _;omega
   · have:=k3 e;show (bR l (da st d r).1.1 (da st d r).1.2.1 (ps++[(da st d r).2])).2.map fb=_;rw [this,List.map_append,List.map_singleton,g3 e0,qY];rfl
def o6:aO→dX→aO→aO
 | dir,[],_=>dir
 | dir,_::_,[]=>dir
 | dir,p::l,e::es=>o6 (bif p.2.1 then lH dir p.1 else pb dir e) l es
theorem oi (dir:aO) (es:aO):o6 dir [] es=dir:=by cases es <;> rfl
theorem vA (b:Int):∀ (l:dX) (ps:aT) (q:ij) (dir:aO),ps.map fb=l.map (g7 b)++q→o6 dir l (ps.map dI)=bq dir (ps.take l.length)
 | [],ps,q,dir,h=>by rw [List.length_nil,List.take_zero,oi];rfl
 | x::l,[],q,dir,h=>by cases h
 | x::l,p::ps,q,dir,h=>by
  rw [List.map_cons,List.map_cons,List.cons_append] at h;injection h with h1 h2;rw [List.map_cons,kM,List.take_succ_cons];unfold o6 bq;rw [List.foldl_cons,vA b l ps q _ h2];unfold bq;congr 1;unfold f8;rw [show p.2.2.2.1=g7 b x from h1];unfold g7;cases x.2.1 <;> rfl
def xR (p:Ty.d bF):Ty.d aB:=(p.1,(0,(0,(0,(0,())))))
def jL (dir:aO) (l:dX):Int:=((o6 dir l (l.map xR)).length:Int)
theorem PN (l:aO) (e:Ty.d aB):(pb l e).length≤l.length+1:=by unfold pb;rw [HT];have:=qW l e.1;omega
theorem DV {k:Nat} (hk:2 ^ 50≤k) {l:dX} (hl:l.length≤1000) {es:aO} (he:l.length≤es.length) {L:Nat→Int→aO→gA.Rs}
 (hL:∀ n i s,L (n+1) i s=bif decide (i<(l.length:Int)) then fW i (l.length:Int) (bif (l.getD i.toNat (Ty.z bF)).2.1 then ((br.f k s (l.getD i.toNat (Ty.z bF)).1).bind fun r=>L n (aU (i+1)) r.1) else
  (fW i (es.length:Int) ((cr.f k s (es.getD i.toNat (Ty.z aB))).bind fun r=>L n (aU (i+1)) r.1))) else some (s,()))
 (n:Nat) (i:Int) (s:aO) (h0:0≤i) (h1:i≤(l.length:Int)) (h2:(l.length:Int)-i<n) (hs:(s.length:Int)≤536870912+i):L n i s=some (o6 s (l.drop i.toNat) (es.drop i.toNat),()):=by
 refine M_ (L:=L) (R:=fun i s=>some (o6 s (l.drop i.toNat) (es.drop i.toNat),())) (l.length:Int) (fun i s=>(s.length:Int)≤536870912+i) (fun n s hs=>?_) (fun n i s h0 h1 hp ih=>?_) n i s h0 h1 h2 hs
 · rw [hL,aZ (by omega),aH,Int.toNat_natCast,List.drop_length,oi]
 · have hi:i.toNat<l.length:=by omega
   have hj:i.toNat<es.length:=by omega
   have e1:l.drop i.toNat=l.getD i.toNat (Ty.z bF)::l.drop (i+1).toNat:=by rw [List.drop_eq_getElem_cons hi,show (i+1).toNat=i.toNat+1 by omega];simp [List.getD,hi]
   have e2:es.drop i.toNat=es.getD i.toNat (Ty.z aB)::es.drop (i+1).toNat:=by rw [List.drop_eq_getElem_cons hj,show (i+1).toNat=i.toNat+1 by omega];simp [List.getD,hj]
   rw [hL,aX h1,ae,aY h0 h1,e1,e2];simp only [o6];generalize l.getD i.toNat (Ty.z bF)=x;generalize es.getD i.toNat (Ty.z aB)=e;rw [aG (n:=i+1) (by omega) (by omega),aY h0 (by omega)];cases c:x.2.1 with
   | true =>have:=qW s x.1;simp only [ae];rw [oM hk x.1 (by omega),ac];exact ih (lH s x.1) (by omega)
   | false =>have:=PN s e;simp only [aH];rw [uQ hk e (by omega),ac];exact ih (pb s e) (by omega)
theorem GW {k:Nat} (hk:2 ^ 50≤k) {dir:aO} (hd:dir.length≤536870912) {l:dX} (hl:l.length≤1000) {es:aO} (he:l.length≤es.length):ga.f k dir l es=some (o6 dir l es,()):=by unfold ga.f ga.t;exact DV hk hl he (L:=fun n i s=>ga.l0 k n es l l.length i s) (fun n i s=>rfl) k 0 dir (by omega) (by omega) (by omega) (by omega)
theorem Gu {k:Nat} (hk:2 ^ 50≤k) {dir:aO} (hd:dir.length≤536870912) {l:dX} (hl:l.length≤1000) {es:aO} (he:l.length≤es.length):gA.f k dir l es=some (o6 dir l es,()):=by obtain ⟨q,hq⟩:∃ q,k=q+1:=⟨k-1,by omega⟩;have k1:=DV hk hl he (L:=fun n i s=>gA.l1 k n es l l.length i s) (fun n i s=>rfl) (q+1) 0 dir (by omega) (by omega) (by omega) (by omega);unfold gA.f gA.t;refine Eq.trans ?_ k1;rw [show gA.l0 k k=gA.l0 k (q+1) by rw [← hq]];rfl
theorem EG {k:Nat} (hk:2 ^ 50≤k) {dir:aO} (hd:dir.length≤536870912) {l:dX} (hl:l.length≤1000):eI.f k dir l=some (jL dir l,()):=by
 unfold eI.f eI.t jL;refine (iZ (L:=fun n i (s:aO)=>eI.l0 k n dir l l l.length i s) (R:=fun r s=>if (s++r.map xR).length=l.length then some (((o6 dir l (s++r.map xR)).length:Int),()) else none) (Ty.z bF) l (fun i s=>(s.length:Int)=i) (fun n s hs=>?_) (fun n i s x rest h0 h1 hx hr hp ih=>?_) (n:=k) (s:=[]) (by omega) rfl).trans ?_
 · simp (disch:=omega) only [eI.l0,eI.b0,aZ,aH];rw [Gu hk hd hl (by omega),ac,List.map_nil,List.append_nil,if_pos (by omega)]
 · simp (disch:=first | omega | decide) only [eI.l0,eI.b0,aX,ae,aY,hx,dT,aG];refine (ih (s++[xR x]) (by rw [rt,List.length_singleton];omega)).trans ?_;rw [qY];rfl
 · rw [List.nil_append,if_pos (List.length_map ..)]
theorem dY {c:Int} (h:(c != 0)=false):c=0:=by unfold bne at h;simpa using h
theorem Kz (l:dX) (b:Int):(bf l b).length=l.length+1:=by unfold bf;rw [rt,List.length_map];rfl
theorem E8 {k:Nat} (hk:2 ^ 50≤k) {st:Ty.d aC} {d:Ty.d aA} {l:dX} (h:SR st (d,0) 100000) (hb0:LE.le (α:=Int) 0 st.2.2.1) (hb:LE.le (α:=Int) st.2.2.1 1000000) (hp:bw l=true) (hd:st.2.1.length≤20) :
 bp.f k st (wO (d,0)) l=some ((bS st d l).1,(wO (bS st d l).2,())):=by
 have hl:=mA hp;unfold bp.f bp.t bS;rw [wx hk (by omega),ac];simp only [];rw [aG (n:=st.2.2.1+1) (by omega) (by omega)];have hrl:=Kz l st.2.2.1;have hre:bf l st.2.2.1=l.map (g7 st.2.2.1)++[gB 3 st.2.2.1 (l.map (g7 st.2.2.1))]:=rfl;generalize bf l st.2.2.1=rs at hrl hre ⊢;refine iZ (L:=fun n i (s:(Ty.d aC × Ty.d aA) × aT)=>bp.l0 k n l rs.length i s.1.1.1.2.1 s.1.1.2.1 s.1.1.1.1 s.1.1.2.2.1 s.1.1.2.2.2.1 s.1.1.2.2.2.2.1 s.1.2.1 s.1.2.2.1 s.1.2.2.2.1 s.1.2.2.2.2.1 0 (s.2.map dI) rs)
  (R:=fun r s=>(some ((rH l.length (bR r s.1.1 s.1.2 s.2)).1,(wO (rH l.length (bR r s.1.1 s.1.2 s.2)).2,())):bp.Rs))
  (Ty.z bQ) rs (fun i s=>SR s.1.1 (s.1.2,0) (100000+211*i)∧s.2.map fb=rs.take i.toNat∧s.1.1.2.1.length≤20) (fun n s hs=>?_) (fun n i s x rest h0 h1 hx hr hs ih=>?_) (n:=k) (s:=((iV st,d),[])) (by omega) ⟨⟨h.live,h.disk,h.lo,Int.le_trans h.hi (by decide)⟩,rfl,hd⟩
 · obtain ⟨⟨st',d'⟩,ps⟩:=s;obtain ⟨g1,g2,g3⟩:=hs;simp only [] at g1 g2 g3 ⊢;rw [Int.toNat_natCast,List.take_length] at g2;have hps:ps.length=rs.length:=by simpa using congrArg List.length g2
   simp only [bp.l0,bp.b0];rw [aZ (by omega),aH,show ((st'.1.1,(st'.1.2.1,())),(st'.2.1,(st'.2.2.1,(st'.2.2.2.1,(st'.2.2.2.2.1,())))))=st' from rfl,pf g1.live,ac];simp only [];rw [show ((d'.1,(d'.2.1,(d'.2.2.1,(d'.2.2.2.1,())))),((0:Int),()))=wO (d',0) from rfl,o7 hk (d',0) g1.disk,ac,ny];unfold rH bR;simp only [show ((0:Int) != 0)=false from rfl,aH];generalize cQ d' (au st')=y;have q:=kq y;rw [show (wO (tl y)).2.1=(tl y).2 from rfl];cases c:y.2 != 0 with
   | true =>
    rw [c] at q;have q:((tl y).2==0)=false:=by unfold bne at q;simpa using q
    rw [q];rfl
   | false =>
    rw [c] at q;have q:((tl y).2==0)=true:=by unfold bne at q;simpa using q
    rw [q];simp only [ae,aH];rw [GW hk (by omega) (by omega) (by rw [List.length_map];omega),ac,vA st.2.2.1 l ps [gB 3 st.2.2.1 (l.map (g7 st.2.2.1))] st'.2.1 (g2.trans hre),pI (r:=y) (by unfold bne at c;simpa using c)];rfl
 · obtain ⟨⟨st',d'⟩,ps⟩:=s;obtain ⟨g1,g2,g3⟩:=hs;simp only [] at g1 g2 g3 ih ⊢;have hi:i.toNat<rs.length:=by omega
   have et:rs.take (i+1).toNat=rs.take i.toNat++[x]:=by rw [show (i+1).toNat=i.toNat+1 by omega,List.take_succ_eq_append_getElem hi];congr 2;rw [← hx];simp [List.getD,hi]
   have hps:ps.length≤rs.length:=by have:=congrArg List.length g2;rw [List.length_map,List.length_take] at this;omega
   obtain ⟨k1,k2,k3⟩:=ww g1 (by omega) x;obtain ⟨e,he1,he2⟩:=J3 hk g1 (by omega) (by omega) x;simp only [bp.l0,bp.b0,bR];rw [aX h1,ae,aY h0 h1,hx,show ((st'.1.1,(st'.1.2.1,())),(st'.2.1,(st'.2.2.1,(st'.2.2.2.1,(st'.2.2.2.2.1,())))))=st' from rfl,show ((d'.1,(d'.2.1,(d'.2.2.1,(d'.2.2.2.1,())))),((0:Int),()))=wO (d',0) from rfl,he1,ac];simp only [];have hk1:=k1.hi;generalize da st' d' x=q at k1 k2 k3 hk1 he2 ⊢;rw [show (wO q.1.2).2.1=q.1.2.2 from rfl];cases c:q.1.2.2 != 0 with
   | true =>simp only [ae];unfold rH;simp only [c,ae]
   | false =>
    simp only [aH];have z:=dY c;have q3:=k3 z;rw [dT (by rw [List.length_map];omega) (by decide),aG (n:=i+1) (by omega) (by omega),he2 z];have e1:(ps++[q.2]).map dI=ps.map dI++[dI q.2]:=by rw [List.map_append,List.map_singleton]
    have ih:=ih ((q.1.1,q.1.2.1),ps++[q.2]) ⟨⟨k1.live,k1.disk,k1.lo,by show LE.le (α:=Int) q.1.1.2.2.2.1 _;omega⟩,by simp only [];rw [List.map_append,List.map_singleton,q3,g2,et],by simp only [];rw [k2];exact g3⟩;simp only [] at ih;rw [e1] at ih;rw [show (wO q.1.2).1=q.1.2.1 from rfl,z];exact ih
noncomputable def bm (st:Ty.d aC) (d:Ty.d aA) (l:dX):Ty.d aC × RD :=
 bif !bo st d then (st,(d,4)) else bif !bw l then (st,(d,4)) else bif (l.length:Int)==0 then (st,(d,0)) else bif decide (jL st.2.1 l > 20) then (st,(d,5)) else
 bif decide (st.2.2.1 > 1000000) then (st,(d,5)) else bS st d l
theorem Dg {d:Ty.d aA} {tail:Int}:∀ {l:List Int},l≠[]→lx d tail l=true→∃ x,tail=((aW d (a_ aD x)).1.size:Int)
 | [],h,_=>absurd rfl h
 | [x],_,h=>by unfold lx DY at h;simp only [gY,List.isEmpty_nil,g9,Bool.false_or] at h;exact ⟨x,BU h.1.2.2⟩
 | x::y::l,_,h=>by unfold lx at h;rw [gY] at h;exact Dg (by intro q;cases q) h.2
theorem bn {st:Ty.d aC} {d:Ty.d aA} (h:bo st d=true):SR st (d,0) 100000∧st.2.1.length≤20∧LE.le (α:=Int) 1 st.2.2.1:=by
 unfold bo rp at h;simp only [gY,decide_eq_true_eq] at h;obtain ⟨h1,h2,⟨h3,_⟩,h4,h5,_⟩:=h;obtain ⟨_,_,g1,_,_⟩:=bD (nx:=st.1.1) (ids:=st.1.2.1) h2;have hd:=dH.1 h1;obtain ⟨x,hx⟩:=Dg (by intro q;rw [q] at g1;simp at g1) h5;have hs:=kz d (a_ aD x);have hu:=hd.use;have hc:=hd.cap1;refine ⟨⟨h2,hd,?_,?_⟩,by omega,h4.1⟩
 · show LE.le (α:=Int) 0 st.2.2.2.1;rw [hx];omega
 · show LE.le (α:=Int) st.2.2.2.1 100000;rw [hx];have:LE.le (α:=Int) (bv d.1) 100000:=Int.le_trans hu hc;omega
theorem Bb {k:Nat} (hk:2 ^ 50≤k) {st:Ty.d aC} {d:Ty.d aA} (hd:Ey d) (h1:st.1.2.1.length≤1073741824) (h2:st.2.1.length≤536870912) {l:dX} (hl:l.length≤1073741824) :
 jQ.f k st d l=some ((bm st d l).1,((bm st d l).2.1,((bm st d l).2.2,()))):=by
 have ec:df.f k st=some (st,()):=by unfold df.f df.t dm.f dm.t;rw [dT (by omega) (by decide),ac];unfold cS.f cS.t;rw [dT (by omega) (by decide),ac]
 unfold jQ.f jQ.t bm;rw [ec,ac];simp only [];rw [gi k hd.l,ac];simp only [];rw [vr hk hd (by omega) (by omega),ac];simp only [];cases c1:bo st d with
 | false=>rfl
 | true =>
  simp only [g9,aH];rw [Bo hk (by omega),ac];simp only [];cases c2:bw l with
  | false=>rfl
  | true =>
   have h8:=mA c2;obtain ⟨g1,g2,g3⟩:=bn c1;simp only [g9,aH];cases c3:(l.length:Int)==0 with
   | true=>rfl
   | false =>
    simp only [aH];rw [EG hk (by omega) (by omega),ac];simp only [];cases c4:decide (jL st.2.1 l > 20) with
    | true=>rfl
    | false =>
     simp only [aH];by_cases c5:st.2.2.1 > (1000000:Int)
     · rw [aX c5];rfl
     · rw [aZ c5];simp only [aH];rw [show ((d,((0:Int),())):Ty.d aj)=wO (d,0) from rfl,E8 hk g1 (Int.le_trans (by decide) g3) (Int.not_lt.1 c5) c2 g2,ac];rfl
theorem FB {a b:Ty.d cC} (ha:dK a=true) (hb:dK b=true) (h:bZ a=bZ b):a=b:=by have h1:=oY (k:=2 ^ 50) (Nat.le_refl _) (nx:=a.1) (ids:=a.2.1) ha;have h2:=oY (k:=2 ^ 50) (Nat.le_refl _) (nx:=b.1) (ids:=b.2.1) hb;have e:bZ (a.1,(a.2.1,()))=bZ (b.1,(b.2.1,())):=h;rw [e,h2] at h1;have h3:=Option.some.inj h1;exact ((Prod.mk.inj h3).1).symm
theorem Bh {v:Ty.d cC} (h:dK v=true):dW (bZ v)=(v,true):=F7 (fun a b ha hb=>FB ha hb) h
theorem sg {p:ByteArray} (hp:p=aD∨p=bG) {n:Int} (h0:1≤n) (h1:n≤100000):Kh (a_ p n)=(n,true):=by
 have e:a_ p n=p++dp n:=by unfold a_;rw [aX ⟨h0,h1⟩];rfl
 have hn:SK (p++dp n) n:=⟨h0,h1,by rcases hp with q | q <;> rw [q] <;> simp⟩;rw [e];rcases j6 (SK (p++dp n)) (fun _=>p++dp n) (0:Int) (p++dp n) with ⟨r,g1,_,g3⟩ | g
 · unfold Kh;rw [g3,QA g1 hn]
 · exfalso;unfold pg at g;rw [dif_pos ⟨n,hn,rfl⟩] at g;cases (Prod.mk.inj g).2
theorem HJ (ids:List Int):∀ (l:ao) (acc:List ByteArray) (x:ByteArray),x ∈ qP ids l acc→x ∈ acc∨(((Kh x).2&&!uF ids (Kh x).1)||seq x gT)=true
 | [],acc,x,h => .inl h
 | f::l,acc,x,h=>by
  unfold qP at h;rcases HJ ids l _ x h with q | q
  · cases c:na ids f with
    | false=>rw [c] at q;exact .inl q
    | true =>
     rw [c,ae] at q;rcases List.mem_append.1 q with q | q
     · exact .inl q
     · rw [List.mem_singleton] at q;subst q;exact .inr c
  · exact .inr q
theorem Nq {d:Ty.d aA} {ids:List Int} {x:ByteArray} (h:x ∈ rW d ids):(((Kh x).2&&!uF ids (Kh x).1)||seq x gT)=true:=by
 unfold rW at h;cases c:fZ d with
 | false=>rw [c] at h;cases h
 | true =>
  rw [c,ae] at h;rcases HJ ids d.1 [] x h with q | q
  · cases q
  · exact q
def SS (d:Ty.d aA) (s:ByteArray):Nat:=((fT d s).getD ⟨#[]⟩).size
def uD (d:Ty.d aA) (ids:List Int):Nat:=(ids.map fun x=>SS d (a_ aD x)).sum
def uW:aO→Int
 | []=>0
 | e::l=>e.2.2.2.1+uW l
theorem ob {x y:Int} (hx:1≤x∧x≤100000) (hy:1≤y∧y≤100000) (h:x≠y):a_ aD x≠a_ aD y:=fun q=>by
 have e1:=sg (.inl rfl) hx.1 hx.2;have e2:=sg (.inl rfl) hy.1 hy.2;rw [q,e2] at e1;injection e1 with e1 _;exact h e1.symm
theorem vj {x:Int} (hx:1≤x∧x≤100000):a_ aD x=aD++dp x:=by unfold a_;rw [aX hx];rfl
theorem gk {x:Int} (hx:1≤x∧x≤100000):gT≠a_ aD x:=fun q=>by rw [vj hx] at q;have:=congrArg nb q;rw [gS] at this;cases this
theorem ia {x:Int} (hx:1≤x∧x≤100000):c_≠a_ aD x:=fun q=>by rw [vj hx] at q;have:=congrArg nb q;rw [gS] at this;cases this
theorem fk {n:Int} {ids:List Int} (h:dK (n,(ids,()))=true):1≤n∧n≤100000∧(∀ x ∈ ids,1≤x∧x<n)∧ids.Pairwise (· < ·):=by
 obtain ⟨g1,g2,_⟩:=bD h;unfold dK at h;simp only [gY,decide_eq_true_eq] at h;have h3:=h.2.2;rw [aG (n:=n-1) (by omega) (by omega)] at h3;have key:∀ (l:List Int) (p:Option Int),pB (qO (n-1)) p l=true→(∀ x ∈ l,1≤x∧x<n∧∀ y,p=some y→y<x)∧l.Pairwise (· < ·):=by
  intro l
  induction l with
  | nil=>exact fun p _=>⟨fun x hx=>(by cases hx),List.Pairwise.nil⟩
  | cons a l ih =>
   intro p hp;simp only [pB,gY] at hp;obtain ⟨q1,q2⟩:=hp;unfold qO at q1;rw [gY,decide_eq_true_eq] at q1;obtain ⟨⟨b1,b2⟩,b3⟩:=q1;have b1:1≤a:=b1;have b2:a≤n-1:=b2;obtain ⟨i1,i2⟩:=ih (some a) q2;have ha:∀ y,p=some y→y<a:=fun y e=>by rw [e] at b3;exact of_decide_eq_true b3
   refine ⟨fun x hx=>?_,?_⟩
   · rcases List.mem_cons.1 hx with e | e
     · rw [e];exact ⟨b1,by omega,ha⟩
     · obtain ⟨c1,c2,c3⟩:=i1 x e;have:=c3 a rfl;exact ⟨c1,c2,fun y ey=>Int.lt_trans (ha y ey) this⟩
   · exact List.Pairwise.cons (fun x hx=>(i1 x hx).2.2 a rfl) i2
 obtain ⟨k1,k2⟩:=key ids none h3;exact ⟨g1,g2,fun x hx=>⟨(k1 x hx).1,(k1 x hx).2.1⟩,k2⟩
theorem Cm {d d':Ty.d aA}:∀ {ids:List Int},(∀ x ∈ ids,fT d' (a_ aD x)=fT d (a_ aD x))→uD d' ids=uD d ids
 | [],_=>rfl
 | x::l,h=>by
  unfold uD at *;rw [List.map_cons,List.map_cons,List.sum_cons,List.sum_cons];have e1:SS d' (a_ aD x)=SS d (a_ aD x):=by unfold SS;rw [h x iF]
  have e2:=Cm (ids:=l) fun y hy=>h y (jF _ hy)
  unfold uD at e2;rw [e1,e2]
theorem jA {ids:List Int} (h:1≤ids.length):ids=ids.dropLast++[aQ ids]:=by
 have hne:ids≠[]:=by intro q;rw [q] at h;simp at h
 have e:aQ ids=ids.getLast hne:=by unfold aQ;rw [List.getLast_eq_getElem];simp [List.getD,show ids.length-1<ids.length by omega]
 rw [e];exact (List.dropLast_concat_getLast hne).symm
abbrev DK:=List (Ty.d cX)
def bP (id:Int) (l:DK):aT:=l.map fun x=>(id,x)
theorem xg (id:Int) (l:DK):(bP id l).length=l.length:=by unfold bP;rw [List.length_map]
theorem uS {k:Nat} (hk:2 ^ 50≤k) (id:Int) {l:DK} (hl:l.length≤1099511627775):eO.f k id l=some (bP id l,()):=by
 unfold eO.f eO.t;refine (iZ (L:=fun n i s=>eO.l0 k n id l l.length i s) (R:=fun r s=>some (s++bP id r,())) (Ty.z cX) l (fun i s=>(s.length:Int)=i) (fun n s hs=>?_) (fun n i s x rest h0 h1 hx hr hp ih=>?_) (n:=k) (s:=[]) (by omega) (by decide)).trans (by rw [List.nil_append])
 · simp (disch:=omega) only [eO.l0,eO.b0,aZ,aH,bP,List.map_nil,List.append_nil]
 · have ih:=ih (s++[(id,x)]) (by rw [fq];omega);simp (disch:=first | omega | decide) only [eO.l0,eO.b0,aX,ae,aY,hx,dT,aG];refine ih.trans ?_;simp only [bP,List.map_cons,qY,List.cons_append,List.nil_append]
def oz:Ty.d ic:=(0,(0,([],())))
def K3 (s0:Int) (e:Ty.d aB):Bool:=(e.2.1==s0)&&!decide ((e.2.2.1:Int) > 100000)
def F1 (l:aO):Bool:=l.all (K3 (l.getD 0 (Ty.z aB)).2.1)
def lZ (h:Ty.d ic):Bool:=decide ((0:Int)≤h.1∧h.1≤100000)&&(decide ((0:Int)≤h.2.1∧h.2.1≤1000000)&&(rp h.2.2.1&&F1 h.2.2.1))
def kX (e:Ty.d aB):ByteArray:=jG e.1++(jK e.2.1++(jK e.2.2.1++(jK e.2.2.2.1++jK e.2.2.2.2.1)))
def nU:aO→ByteArray
 | []=>⟨#[]⟩
 | e::l=>kX e++nU l
def uX (h:Ty.d ic):ByteArray:=jK h.1++(jK h.2.1++(jK (h.2.2.1.length:Int)++nU h.2.2.1))
def eN (h:Ty.d ic):ByteArray:=if lZ h=true then vh (sw (uX h))++uX h else ⟨#[]⟩
theorem pY {k:Nat} (hk:2 ^ 50≤k) {h:Ty.d ic} (hl:h.2.2.1.length≤1073741824):dw.f k h=some (lZ h,()):=by
 unfold dw.f dw.t lZ F1;have fin:∀ b:Bool,(bif b then (Option.bind (aa.f k h.1 0 100000) fun r1=>(bif r1.1 then (Option.bind (aa.f k h.2.1 0 1000000) fun r2=>(bif r2.1 then (Option.bind (dy.f k h.2.2.1) fun r3=>(some r3)) else (some (false,())))) else (some (false,())))) else (some (false,())))=some (decide ((0:Int)≤h.1∧h.1≤100000)&&(decide ((0:Int)≤h.2.1∧h.2.1≤1000000)&&(rp h.2.2.1&&b)),()):=fun b=>by rw [iU,ac,iU,ac,zL hk (by omega),ac];simp only [];cases decide ((0:Int)≤h.1∧h.1≤100000) <;> cases decide ((0:Int)≤h.2.1∧h.2.1≤1000000) <;> cases rp h.2.2.1 <;> cases b <;> rfl
 rw [← fin];refine iZ (L:=fun n i (_:Unit)=>dw.l0 k n h.2.2.1 h.2.2.1.length i h.1 h.2.1 h.2.2.1) (R:=fun r _=>bif r.all (K3 (h.2.2.1.getD 0 (Ty.z aB)).2.1) then (Option.bind (aa.f k h.1 0 100000) fun r1=>(bif r1.1 then (Option.bind (aa.f k h.2.1 0 1000000) fun r2=>(bif r2.1 then (Option.bind (dy.f k h.2.2.1) fun r3=>(some r3)) else (some (false,())))) else (some (false,())))) else (some (false,()))) (Ty.z aB) h.2.2.1 (fun _ _=>True) (fun n _ _=>?_) (fun n i _ x rest h0 h1 hx hr hp ih=>?_) (n:=k) (s:=()) (by omega) trivial
 · simp only [dw.l0,dw.b0];rw [aZ (by omega),aH];rfl
 · have ih:=ih () trivial;simp only [dw.l0,dw.b0];rw [aX h1,ae,aY h0 h1,aY (by omega) (by omega),hx,aG (n:=i+1) (by omega) (by omega),ih,List.all_cons];unfold K3 bne;cases x.2.1==(h.2.2.1.getD 0 (Ty.z aB)).2.1 <;> cases decide ((x.2.2.1:Int) > 100000) <;> rfl
theorem kA {l:aO} (h:rp l=true):l.length≤20∧∀ e ∈ l,(1≤e.1.size∧e.1.size≤8)∧(LE.le (α:=Int) 1 e.2.1∧LE.le (α:=Int) e.2.1 100000)∧LE.le (α:=Int) 0 e.2.2.1∧(LE.le (α:=Int) 1 e.2.2.2.1∧LE.le (α:=Int) e.2.2.2.1 210)∧(LE.le (α:=Int) 1 e.2.2.2.2.1∧LE.le (α:=Int) e.2.2.2.2.1 1000000):=by
 unfold rp at h;rw [gY,decide_eq_true_eq] at h;refine ⟨by have:=h.1;omega,fun e he=>?_⟩;obtain ⟨q,hq⟩:=vt h.2 he;unfold uR fg at hq;rw [gY,gY,gY,gY,gY,decide_eq_true_eq,decide_eq_true_eq,decide_eq_true_eq,decide_eq_true_eq] at hq;obtain ⟨g1,g2,g3,g4,g5,_⟩:=hq;have g3':¬ LT.lt (α:=Int) e.2.2.1 0:=by
  intro q;have:(!decide (e.2.2.1<(0:Int)))=false:=by rw [aX q];rfl
  rw [this] at g3;cases g3
 exact ⟨by omega,g2,Int.not_lt.1 g3',g4,g5⟩
theorem nX {h:Ty.d ic} (q:lZ h=true):rp h.2.2.1=true:=by unfold lZ at q;rw [gY,gY,gY] at q;exact q.2.2.1
theorem wy {e:Ty.d aB}:(kX e).size≤35+e.1.size:=by have a:=bL (e.1.size:Int);have b:=bL e.2.1;have c:=bL e.2.2.1;have d:=bL e.2.2.2.1;have f:=bL e.2.2.2.2.1;unfold kX jG;simp only [aV];omega
theorem rS:∀ {l:aO},(∀ e ∈ l,e.1.size≤8)→(nU l).size≤43*l.length
 | [],_=>Nat.zero_le _
 | e::l,h=>by
  have h1:=h e (iF ..);have h2:=rS (l:=l) fun x hx=>h x (jF _ hx)
  have h3:=wy (e:=e);unfold nU;rw [aV,kM];omega
theorem JH {h:Ty.d ic} (q:lZ h=true):(uX h).size≤900:=by
 obtain ⟨h1,h2⟩:=kA (nX q);have:=rS (l:=h.2.2.1) fun e he=>(h2 e he).1.2
 have a:=bL h.1;have b:=bL h.2.1;have c:=bL (h.2.2.1.length:Int);unfold uX;simp only [aV];omega
theorem pq (h:Ty.d ic):(eN h).size≤904:=by
 unfold eN;by_cases q:lZ h=true
 · have:=JH q;rw [if_pos q,aV,show (vh (sw (uX h))).size=4 from rfl];omega
 · rw [if_neg q];decide
theorem nZ {k:Nat} (hk:2 ^ 50≤k) {h:Ty.d ic} (hl:h.2.2.1.length≤1073741824):cv.f k h=some (eN h,()):=by
 unfold cv.f cv.t eN;rw [pY hk hl,ac];cases q:lZ h with
 | false=>rfl
 | true =>
  obtain ⟨h1,h2⟩:=kA (nX q);have a:=bL h.1;have b:=bL h.2.1;have c:=bL (h.2.2.1.length:Int);rw [g9,aH,sQ hk (by simp),ac,if_pos rfl];simp only [];refine (iZ (L:=fun n i s=>cv.l0 k n s h.2.2.1 h.2.2.1.length i) (R:=fun r s=>some (vh (sw (s++nU r))++(s++nU r),())) (Ty.z aB) h.2.2.1 (fun i s=>(s.size:Int)≤21+43*i) (fun n s hs=>?_) (fun n i s x rest g0 g1 hx hr hs ih=>?_) (n:=k) (s:=jV [h.1,h.2.1,(h.2.2.1.length:Int)]) (by omega) (by simp only [jV,aV];rw [show (⟨#[]⟩:ByteArray).size=0 from rfl];omega)).trans (by unfold uX;simp only [jV,bY,iR,nr])
  · have hc:=vu s;simp only [cv.l0,cv.b0];rw [aZ (by omega),aH,ux hk (by omega),ac];simp only [];rw [qw hk hc.1 hc.2,ac];simp only [];rw [eZ (by rw [show (vh (sw s)).size=4 from rfl];omega),show nU []=⟨#[]⟩ from rfl,iR]
  · have hm:x ∈ h.2.2.1:=by rw [← hx];exact eE (by omega)
    have hz:=(h2 x hm).1.2;have ht:=wy (e:=x);have v1:=bL (x.1.size:Int);have v2:=bL x.2.1;have v3:=bL x.2.2.1;have v4:=bL x.2.2.2.1;have v5:=bL x.2.2.2.2.1;have ih:=ih (s++kX x) (by have:=wy (e:=x);rw [aV];omega);have e:jG x.1++jV [x.2.1,x.2.2.1,x.2.2.2.1,x.2.2.2.2.1]=kX x:=by unfold kX;simp only [jV,iR]
    simp only [cv.l0,cv.b0];rw [aX g1,ae,aY g0 g1,hx,lj hk (by omega),ac,sQ hk (by simp),ac];simp only [];have hts:(jG x.1).size+(jV [x.2.1,x.2.2.1,x.2.2.2.1,x.2.2.2.2.1]).size≤100:=by rw [← aV,e];omega
    rw [eZ (by omega),e,eZ (by omega),aG (n:=i+1) (by omega) (by omega),ih,show nU (x::rest)=kX x++nU rest from rfl,bY]
def tJ (x y:Ty.d aB):Bool:=(seq x.1 y.1)&&((x.2.1==y.2.1)&&((x.2.2.1==y.2.2.1)&&((x.2.2.2.1==y.2.2.2.1)&&(x.2.2.2.2.1==y.2.2.2.2.1))))
def wn:aO→aO→Bool
 | [],[]=>true
 | x::l,y::m=>tJ x y&&wn l m
 | _,_=>false
theorem Fb {x y:Ty.d aB}:tJ x y=true↔x=y:=by
 unfold tJ;simp only [gY,beq_iff_eq,cF];constructor
 · rintro ⟨h1,h2,h3,h4,h5⟩
   obtain ⟨a,b,c,d,e,_⟩:=x;obtain ⟨a',b',c',d',e',_⟩:=y;simp only at h1 h2 h3 h4 h5;subst h1 h2 h3 h4 h5;rfl
 · rintro rfl;exact ⟨rfl,rfl,rfl,rfl,rfl⟩
theorem tP:∀ {l m:aO},wn l m=true↔l=m
 | [],[]=>⟨fun _=>rfl,fun _=>rfl⟩
 | [],y::m=>⟨fun h=>(by cases h),fun h=>(by cases h)⟩
 | x::l,[]=>⟨fun h=>(by cases h),fun h=>(by cases h)⟩
 | x::l,y::m=>by unfold wn;rw [gY,Fb,tP,List.cons.injEq]
theorem LI:∀ {l m:aO},l.length≠m.length→wn l m=false:=fun {l m} h=>by
 cases c:wn l m with
 | false=>rfl
 | true=>rw [tP.1 c] at h;exact absurd rfl h
theorem xH {α:Type} {l:List α} {i:Nat} (z:α) (h:i<l.length):l.drop i=l.getD i z::l.drop (i+1):=by rw [List.drop_eq_getElem_cons h];simp [List.getD,h]
theorem Aa {k:Nat} (hk:2 ^ 50≤k) {l m:aO} (hl:l.length≤1073741824):fR.f k l m=some (wn l m,()):=by
 unfold fR.f fR.t;by_cases hne:l.length=m.length
 · rw [show ((l.length:Int) != (m.length:Int))=false by rw [hne];simp,aH];refine (M_ (L:=fun n i (_:Unit)=>fR.l0 k n l m l.length i) (R:=fun i _=>some (wn (l.drop i.toNat) (m.drop i.toNat),())) l.length (fun _ _=>True) (fun n _ _=>?_) (fun n i _ h0 h1 _ ih=>?_) k 0 () (by omega) (by omega) (by omega) trivial).trans (by simp)
   · simp only [fR.l0,fR.b0];rw [aZ (by omega),aH,qX,List.drop_length,hne,List.drop_length];rfl
   · have ih:=ih () trivial;have c1:i.toNat<l.length:=by omega
     simp only [fR.l0,fR.b0];rw [aX h1,ae,aY h0 h1,aY h0 (by omega),aG (n:=i+1) (by omega) (by omega),ih,xH (Ty.z aB) c1,xH (Ty.z aB) (l:=m) (i:=i.toNat) (by omega),show (i+1).toNat=i.toNat+1 by omega];show _=some (tJ _ _&&wn _ _,());show (bif !(tJ (l.getD i.toNat (Ty.z aB)) (m.getD i.toNat (Ty.z aB))) then _ else _)=_;cases tJ (l.getD i.toNat (Ty.z aB)) (m.getD i.toNat (Ty.z aB)) <;> rfl
 · rw [show ((l.length:Int) != (m.length:Int))=true from bne_iff_ne.2 (by omega),ae,LI hne]
def ng (mark:Int) (p:Option (Ty.d cX)) (x:Ty.d cX):Bool :=
 (x.2.2.1.1==4)&&(!decide ((x.2.2.1.2.1:Int) > mark)&&(match p with | none=>true | some y=>nS y.2.2.1.2.2.1 x.2.2.1.2.2.1))
def H7 (id:Int) (x:Ty.d cX):Ty.d aB:=(x.2.2.1.2.2.1,(id,(x.1,(x.2.1,(x.2.2.1.2.1,())))))
noncomputable def g8 (id:Int) (s:ByteArray):Ty.d ic × Bool :=
 bif (b9 s).2 != (s.size:Int) then (oz,false) else bif (b9 s).1.length==0 then (oz,false) else
 bif ((b9 s).1.getD ((b9 s).1.length-1) (Ty.z cX)).2.2.1.1 != 5 then (oz,false) else
 bif !decide ((1:Int)≤id∧id≤100000) then (oz,false) else
 bif !pB (ng ((b9 s).1.getD ((b9 s).1.length-1) (Ty.z cX)).2.2.1.2.1) none ((b9 s).1.take ((b9 s).1.length-1)) then (oz,false) else
 bif !im ((b9 s).1.getD ((b9 s).1.length-1) (Ty.z cX)).2.2.1 (bP id ((b9 s).1.take ((b9 s).1.length-1))) then (oz,false) else
 (((s.size:Int),(((b9 s).1.getD ((b9 s).1.length-1) (Ty.z cX)).2.2.1.2.1,(((b9 s).1.take ((b9 s).1.length-1)).map (H7 id),()))),true)
theorem uV {k:Nat} (hk:2 ^ 50≤k) (id:Int) {s:ByteArray} (hs:s.size≤1073741823):dq.f k id s=some ((g8 id s).1,((g8 id s).2,())):=by
 have hln:=lW s;unfold dq.f dq.t g8;rw [sH hk (by omega),ac];simp only [];generalize b9 s=sc at hln ⊢;obtain ⟨l,en⟩:=sc;simp only at hln ⊢;have w0:aU ((l.length:Int)-1)=(l.length:Int)-1:=aG (by omega) (by omega);by_cases h0:l.length=0
 · rw [w0,aX (by omega),ae,show (l.length==0)=true by rw [h0];rfl];cases en != (s.size:Int) <;> rfl
 · rw [w0,aZ (by omega),aH,show (l.length==0)=false from pG h0];cases he:en != (s.size:Int) with
   | true=>rfl
   | false =>
    have hen:en=(s.size:Int):=by
     cases q:en==(s.size:Int) with
     | true=>exact BU q
     | false=>unfold bne at he;rw [q] at he;cases he
    simp only [aH];have w1:(l.length:Int)-1=((l.length-1:Nat):Int):=by omega
    rw [iU,ac];simp only [];rw [w1,qX,aY (by omega) (by omega),aY (by omega) (by omega),d7 (by omega) (by omega),aY (by omega) (by omega),d7 (by omega) (by omega)];generalize hm:l.getD (l.length-1) (Ty.z cX)=m;have hpl:(l.take (l.length-1)).length=l.length-1:=by rw [List.length_take];omega
    rw [uS hk id (by omega),ac];simp only [];rw [sV hk _ (by unfold bP;rw [List.length_map];omega),ac];simp only [];cases decide ((1:Int)≤id∧id≤100000) with
    | false=>cases m.2.2.1.1 != 5 <;> rfl
    | true =>
     cases m.2.2.1.1 != 5 with
     | true=>rfl
     | false =>
      simp only [g9,aH];cases im m.2.2.1 (bP id (l.take (l.length-1))) with
      | false=>cases pB (ng m.2.2.1.2.1) none (l.take (l.length-1)) <;> rfl
      | true =>
       simp only [g9,aH];refine (BM (L:=fun n i=>dq.l0 k n id l (l.take (l.length-1)) (l.take (l.length-1)).length i [] 0 0 ((l.take i.toNat).map (H7 id)) en m.2.2.1.2.1) (Ty.z cX) (l.take (l.length-1)) (ng m.2.2.1.2.1)
        (some (((s.size:Int),(m.2.2.1.2.1,((l.take (l.length-1)).map (H7 id),()))),(true,()))) (some (oz,(false,()))) (fun n=>?_) (fun n x h hx=>?_) (fun n i x y h0 h1 hx hy=>?_) (n:=k) (by omega)).trans (by
         cases pB (ng m.2.2.1.2.1) none (l.take (l.length-1)) <;> rfl)
       · simp only [dq.l0,dq.b0];rw [hpl,qX,aZ (by omega),aH,hen]
       · have h':=h;rw [hpl] at h';have hx':l.getD 0 (Ty.z cX)=x:=by rw [← hx,show Int.toNat 0=0 from rfl,xL (by omega)]
         simp only [dq.l0,dq.b0];rw [aX (by omega),ae,aY (by omega) (by omega),hx,aZ (show ¬ (0:Int) > 0 by omega),aH,dT (by simp) (by decide),aG (n:=(0:Int)+1) (by omega) (by omega),show Int.toNat 1=0+1 from rfl,kv (z:=Ty.z cX) (show 0<l.length by omega),hx'];simp only [ng,bne];cases x.2.2.1.1==4 <;> cases decide ((x.2.2.1.2.1:Int) > m.2.2.1.2.1) <;> rfl
       · have h1':=h1;rw [hpl] at h1';have hx':l.getD i.toNat (Ty.z cX)=x:=by rw [← hx,xL (by omega)]
         have hy':l.getD (i-1).toNat (Ty.z cX)=y:=by rw [← hy,xL (by omega)]
         simp only [dq.l0,dq.b0];rw [aX h1,ae,aY (by omega) (by omega),hx,aX (show i > 0 by omega),aG (n:=i-1) (by omega) (by omega),aY (by omega) (by omega),hy',dT (by rw [List.length_map,List.length_take];omega) (by decide),aG (n:=i+1) (by omega) (by omega),show (i+1).toNat=i.toNat+1 by omega,kv (z:=Ty.z cX) (show i.toNat<l.length by omega),hx',List.map_append];simp only [ng,bne];cases x.2.2.1.1==4 <;> cases decide ((x.2.2.1.2.1:Int) > m.2.2.1.2.1) <;> cases nS y.2.2.1.2.2.1 x.2.2.1.2.2.1 <;> rfl
noncomputable def o_ (id:Int) (s:ByteArray) (h:Ty.d ic):Bool:=(g8 id s).2&&(((g8 id s).1.1==h.1)&&(((g8 id s).1.2.1==h.2.1)&&wn (g8 id s).1.2.2.1 h.2.2.1))
theorem As (id:Int) {s:ByteArray} (hs:s.size≤1073741823):(g8 id s).1.2.2.1.length≤1073741824:=by
 have hln:=lW s;unfold g8;generalize b9 s=sc at hln ⊢;obtain ⟨l,en⟩:=sc;simp only at hln ⊢;cases en != (s.size:Int)
 · cases l.length==0
   · cases (l.getD (l.length-1) (Ty.z cX)).2.2.1.1 != 5
     · cases !decide ((1:Int)≤id∧id≤100000)
       · cases !pB (ng (l.getD (l.length-1) (Ty.z cX)).2.2.1.2.1) none (l.take (l.length-1))
         · cases !im (l.getD (l.length-1) (Ty.z cX)).2.2.1 (bP id (l.take (l.length-1)))
           · show ((l.take (l.length-1)).map (H7 id)).length≤1073741824;rw [List.length_map,List.length_take];omega
           · exact Nat.zero_le _
         · exact Nat.zero_le _
       · exact Nat.zero_le _
     · exact Nat.zero_le _
   · exact Nat.zero_le _
 · exact Nat.zero_le _
theorem yV {k:Nat} (hk:2 ^ 50≤k) (id:Int) {s:ByteArray} (hs:s.size≤1073741823) (h:Ty.d ic):iv.f k id s h=some (o_ id s h,()):=by have hl:=As id hs;unfold iv.f iv.t o_;rw [uV hk id hs,ac];simp only [];rw [Aa hk hl,ac];cases (g8 id s).2 <;> cases (g8 id s).1.1==h.1 <;> cases (g8 id s).1.2.1==h.2.1 <;> rfl
end Go.Proofs.YteejjngdagmofaaGreatDoor.G
namespace Go.V
def EA {α:Type} (o:Option α) (P:α→Prop):Prop:=∃ r,o=some r∧P r
section
variable {α β:Type} {P P':α→Prop} {Q:β→Prop}
theorem sZ {r:α} (h:P r):EA (some r) P:=⟨r,rfl,h⟩
theorem x_ {o:Option α} {r:α} (e:o=some r) (h:P r):EA o P:=⟨r,e,h⟩
theorem Rr {o:Option α} {r:α} (h:EA o (fun x=>x=r)):o=some r:=by obtain ⟨x,e,rfl⟩:=h;exact e
theorem vv {o:Option α} {g:α→Option β} (h:EA o P) (hg:∀ r,P r→EA (g r) Q):EA (Option.bind o g) Q:=by obtain ⟨r,e,hr⟩:=h;rw [e];exact hg r hr
theorem u9 {o:Option α} {r:α} {g:α→Option β} (e:o=some r) (hg:EA (g r) Q):EA (Option.bind o g) Q:=by rw [e];exact hg
theorem KT {b:Bool} {x y:Option α} (h1:b=true→EA x P) (h2:b=false→EA y P):EA (bif b then x else y) P:=by
 cases b
 · exact h2 rfl
 · exact h1 rfl
theorem PH {i n:Int} {x:Option α} (h0:0≤i) (h1:i<n) (h:EA x P):EA (fW i n x) P:=by rw [aY h0 h1];exact h
theorem mS {a b:ByteArray} {x:Option α} (h0:a.size+b.size≤4611686018427387904) (h:EA x P):EA (jm a b x) P:=by rw [eZ h0];exact h
end
end Go.V
namespace Go.Proofs.YteejjngdagmofaaGreatDoor.G
open Go.V
noncomputable def jM (s:ByteArray):Ty.d ic × Bool:=pg (fun h=>lZ h=true) eN oz s
def RH (s:ByteArray) (o:Option (Ty.d ic × Bool × Unit)):Prop:=(∃ h,lZ h=true∧eN h=s∧o=some (h,(true,())))∨o=some (oz,(false,()))
theorem Qq (s:ByteArray):RH s (some (oz,(false,()))) := .inr rfl
theorem S_ {s:ByteArray} (hs:4≤s.size) (h:Ty.d ic):RH s (bif !seq (eN h) s then some (oz,(false,())) else some (h,(true,()))):=by
 cases c:seq (eN h) s with
 | false=>exact .inr rfl
 | true =>
  have e:=cF.1 c;refine .inl ⟨h,?_,e,rfl⟩;cases q:lZ h with
  | true=>rfl
  | false =>unfold eN at e;rw [if_neg (by rw [q];decide)] at e;rw [← e] at hs;exact absurd hs (by decide)
def Nz (x:Int):Prop:=0≤x∧x≤1000000
theorem rC {x:Int} (h:Nz x):∃ n:Nat,n<562949953421312∧x=(n:Int)∧jK x=bg n:=by obtain ⟨n,rfl⟩:=Int.eq_ofNat_of_zero_le h.1;have:=h.2;exact ⟨n,by omega,rfl,dN (by omega)⟩
theorem Mm {e:Ty.d aB} {l:aO} (hl:rp l=true) (ho:F1 l=true) (he:e ∈ l):∀ x ∈ [(e.2.1:Int),e.2.2.1,e.2.2.2.1,e.2.2.2.2.1],Nz x:=by
 obtain ⟨_,q⟩:=kA hl;obtain ⟨_,⟨a1,a2⟩,b1,⟨c1,c2⟩,⟨d1,d2⟩⟩:=q e he;have h2:=List.all_eq_true.1 ho e he;unfold K3 at h2;rw [gY] at h2;have b2:LE.le (α:=Int) e.2.2.1 100000:=by
  refine Int.not_lt.1 fun w=>?_
  have:(!decide ((e.2.2.1:Int) > 100000))=false:=by rw [aX w];rfl
  rw [this] at h2;cases h2.2
 intro x hx;simp only [List.mem_cons,List.not_mem_nil,or_false] at hx;rcases hx with rfl | rfl | rfl | rfl
 · exact ⟨by omega,by omega⟩
 · exact ⟨b1,by omega⟩
 · exact ⟨by omega,by omega⟩
 · exact ⟨by omega,d2⟩
theorem L4 (e:Ty.d aB) (h:e.1.size≤8) (t:ByteArray):kX e++t=bg e.1.size++(e.1++(jV [(e.2.1:Int),e.2.2.1,e.2.2.2.1,e.2.2.2.2.1]++t)):=by unfold kX jG;rw [dN (by omega)];simp only [jV,iR,bY]
theorem Lo {h:Ty.d ic} (q:lZ h=true):∀ x ∈ [(h.1:Int),h.2.1,(h.2.2.1.length:Int)],Nz x:=by
 have h20:=(kA (nX q)).1;unfold lZ at q;rw [gY,gY,decide_eq_true_eq,decide_eq_true_eq] at q;obtain ⟨⟨a1,a2⟩,⟨b1,b2⟩,_⟩:=q;intro x hx;simp only [List.mem_cons,List.not_mem_nil,or_false] at hx;rcases hx with rfl | rfl | rfl
 · exact ⟨a1,by have:LE.le (α:=Int) h.1 100000:=a2;omega⟩
 · exact ⟨b1,b2⟩
 · exact ⟨by omega,by omega⟩
theorem Bm {h:Ty.d ic} (q:lZ h=true):eN h=vh (sw (uX h))++(jV [(h.1:Int),h.2.1,(h.2.2.1.length:Int)]++nU h.2.2.1):=by unfold eN;rw [if_pos q];unfold uX;simp only [jV,iR,bY]
theorem Pv (x:Int):(vh x).size=4:=rfl
theorem yB {k:Nat} (hk:2 ^ 50≤k) {r:ByteArray} (b:Bool) (hs:r.size≤1073741824):EA (aJ.f k (r,(b,()))) (fun x=>x.1.1.size≤r.size∧(b=true→x.1.2.1=true)∧(x.1.2.1=false→x.1.1.size<r.size)∧0≤x.2.1∧x.2.1<562949953421312):=by
 cases b with
 | true=>exact x_ (y6 hk (by omega)) ⟨Nat.le_refl _,fun _=>rfl,fun h=>(by cases h),Int.le_refl _,by show (0:Int)<562949953421312;omega⟩
 | false =>
  rcases kc r with ⟨a,t,ha,rfl⟩ | h
  · have:=ap a;rw [aV] at hs;exact x_ (fF hk ha (by omega)) ⟨by show t.size≤_;rw [aV];omega,fun h=>(by cases h),fun _=>by show t.size<_;rw [aV];omega,by show (0:Int)≤(a:Int);omega,by show (a:Int)<_;omega⟩
  · exact x_ (mg hk h (by omega)) ⟨Nat.le_refl _,fun h=>(by cases h),fun h=>(by cases h),Int.le_refl _,by show (0:Int)<562949953421312;omega⟩
theorem Km (k:Nat) (r:ByteArray) (b:Bool) {n:Int} (h0:0≤n):EA (ar.f k (r,(b,())) n) (fun x=>x.1.1.size≤r.size∧(b=true→x.1.2.1=true)):=by
 cases b with
 | true=>exact x_ (tN k r n) ⟨Nat.le_refl _,fun _=>rfl⟩
 | false =>
  by_cases h:n > (r.size:Int)
  · exact x_ (tW k h) ⟨Nat.le_refl _,fun _=>rfl⟩
  · have e:=vX r (n:=n.toNat) (by omega);have hz:(ByteArray.extract r 0 n.toNat).size=n.toNat:=by rw [← dD,lC,List.length_take,dD];omega
    have:=tI k (ByteArray.extract r 0 n.toNat) (ByteArray.extract r n.toNat r.size);rw [← e,hz,show ((n.toNat:Nat):Int)=n by omega] at this;exact x_ this ⟨by show (ByteArray.extract r n.toNat r.size).size≤_;rw [tH];omega,fun h=>(by cases h)⟩
theorem R4 {k:Nat} (hk:2 ^ 50≤k) {r:ByteArray} (b:Bool) (hs:r.size≤1073741824):EA (ah.f k (r,(b,()))) (fun x=>x.1.1.size≤r.size∧(b=true→x.1.2.1=true)∧(x.1.2.1=false→x.1.1.size<r.size)):=by
 unfold ah.f ah.t;refine vv (yB hk b hs) fun r1 q1=>?_
 obtain ⟨a1,a2,a3,a4,_⟩:=q1;refine vv (Km k r1.1.1 r1.1.2.1 a4) fun r2 q2=>sZ ⟨by omega,fun h=>q2.2 (a2 h),fun h=>?_⟩
 cases c:r1.1.2.1 with
 | true=>rw [q2.2 c] at h;cases h
 | false=>have:=a3 c;omega
theorem sU {k:Nat} (n:Nat) (s:ByteArray) (c j:Int) (z:aO) (z1 z2:Int) (rest:ByteArray) (out:aO) (a b:Int):ay.l0 k (n+1) s c j z z1 z2 rest true out a b=some (oz,(false,())):=by simp only [ay.l0,ay.b0];cases decide (j<c) <;> rfl
theorem JC {k:Nat} (hk:2 ^ 50≤k) {s:ByteArray} (h4:4≤s.size) {h:Ty.d ic} (hl:h.2.2.1.length≤1073741824):RH s (Option.bind (dw.f k h) fun r12=>(bif (!r12.1) then (some ((0,(0,([],()))),(false,()))) else (Option.bind (cv.f k h) fun r13=>(bif (!(seq r13.1 s)) then (some ((0,(0,([],()))),(false,()))) else (some (h,(true,()))))))):=by
 rw [pY hk hl,ac,nZ hk hl,ac];cases lZ h with
 | false=>exact Qq s
 | true=>exact S_ h4 h
theorem H0 {k:Nat} (hk:2 ^ 50≤k) {s:ByteArray} (h4:4≤s.size) (c:Int) (hc:c<562949953421312) (z:aO) (z1 z2 a b:Int):∀ (n:Nat) (rest:ByteArray) (j:Int) (out:aO),rest.size+2≤n→0≤j→out.length+rest.size≤1073741824 →
 RH s (ay.l0 k n s c j z z1 z2 rest false out a b):=by
 intro n
 induction n with
 | zero=>intro rest j out h1;omega
 | succ n ih =>
  intro rest j out h1 h2 h5;obtain ⟨n,rfl⟩:∃ q,n=q+1:=⟨n-1,by omega⟩;simp only [ay.l0];unfold ay.b0;by_cases cj:j<c
  · rw [aX cj,ae,yO,ae];obtain ⟨r5,e5,p1,p2,p3⟩:=R4 hk false (r:=rest) (by omega);rw [e5,ac];obtain ⟨r6,e6,s1,s2,s3,_⟩:=yB hk r5.1.2.1 (r:=r5.1.1) (by omega);rw [show aJ.f k r5.1=_ from e6,ac];obtain ⟨r7,e7,t1,t2,t3,_⟩:=yB hk r6.1.2.1 (r:=r6.1.1) (by omega);rw [show aJ.f k r6.1=_ from e7,ac];obtain ⟨r8,e8,u1,u2,u3,_⟩:=yB hk r7.1.2.1 (r:=r7.1.1) (by omega);rw [show aJ.f k r7.1=_ from e8,ac];obtain ⟨r9,e9,v1,v2,v3,_⟩:=yB hk r8.1.2.1 (r:=r8.1.1) (by omega);rw [show aJ.f k r8.1=_ from e9,ac,dT (by omega) (by decide),aG (n:=j+1) (by omega) (by omega)];cases hb:r9.1.2.1 with
    | true=>exact .inr (sU n s c (j+1) z z1 z2 _ _ a b)
    | false =>have:=v3 hb;exact ih r9.1.1 (j+1) _ (by omega) (by omega) (by rw [fq];omega)
  · rw [aZ cj,aH];simp only [aH];exact JC hk h4 (h:=(a,(b,(out,())))) (by show out.length≤_;omega)
theorem E4 {k:Nat} (hk:2 ^ 50≤k) {s:ByteArray} (h:s.size<4):ay.f k s=some (oz,(false,())):=by unfold ay.f ay.t;rw [tW k (by omega),ac];simp only [];rw [y6 hk (by omega),ac];simp only [];rw [y6 hk (by omega),ac];simp only [];rw [y6 hk (by omega),ac];obtain ⟨q,hq⟩:∃ q,k=q+1:=⟨k-1,by omega⟩;exact (congrArg (fun z=>ay.l0 k z s 0 0 [] 0 0 s true [] 0 0) hq).trans (sU q s 0 0 [] 0 0 s [] 0 0)
theorem Hj {k:Nat} (hk:2 ^ 50≤k) {s:ByteArray} (hs:s.size≤1073741824):RH s (ay.f k s):=by
 by_cases h4:s.size<4
 · rw [E4 hk h4];exact Qq s
 unfold ay.f ay.t;obtain ⟨r1,e1,p1,_⟩:=Km k s false (n:=4) (by omega);rw [e1,ac];obtain ⟨r2,e2,s1,_,_,_⟩:=yB hk r1.1.2.1 (r:=r1.1.1) (by omega);rw [show aJ.f k r1.1=_ from e2,ac];obtain ⟨r3,e3,t1,_,_,_⟩:=yB hk r2.1.2.1 (r:=r2.1.1) (by omega);rw [show aJ.f k r2.1=_ from e3,ac];obtain ⟨r4,e4,u1,_,_,u4,u5⟩:=yB hk r3.1.2.1 (r:=r3.1.1) (by omega);rw [show aJ.f k r3.1=_ from e4,ac];cases r4.1.2.1 with
 | true =>obtain ⟨q,hq⟩:∃ q,k=q+1:=⟨k-1,by omega⟩;exact .inr ((congrArg (fun z=>ay.l0 k z s r4.2.1 0 [] 0 0 r4.1.1 true [] r2.2.1 r3.2.1) hq).trans (sU q s _ 0 [] 0 0 _ [] _ _))
 | false=>exact H0 hk (by omega) r4.2.1 u5 [] 0 0 _ _ k r4.1.1 0 [] (by omega) (by omega) (by simp only [List.length_nil];omega)
theorem AL {k:Nat} (hk:2 ^ 50≤k) {h:Ty.d ic} (q:lZ h=true) (z:aO) (z1 z2:Int):∀ (r:aO) (n:Nat) (j:Int) (out:aO),(∀ e ∈ r,e ∈ h.2.2.1)→out++r=h.2.2.1→(out.length:Int)=j→r.length<n →
 ay.l0 k n (eN h) (h.2.2.1.length:Int) j z z1 z2 (nU r) false out h.1 h.2.1=some (h,(true,()))
 | [],n,j,out,hr,ho,hj,hn=>by obtain ⟨n,rfl⟩:∃ q,n=q+1:=⟨n-1,by omega⟩;have h20:=(kA (nX q)).1;rw [List.append_nil] at ho;simp only [ay.l0,ay.b0];rw [aZ (by rw [← hj,ho];omega),aH,aH,ho,show (h.1,(h.2.1,(h.2.2.1,())))=h from rfl,pY hk (by omega),ac,q];simp only [g9,aH];rw [nZ hk (by omega),ac];simp only [bB];rfl
 | e::r,n,j,out,hr,ho,hj,hn=>by
  obtain ⟨n,rfl⟩:∃ q,n=q+1:=⟨n-1,by omega⟩;have hlen:h.2.2.1.length=out.length+(r.length+1):=by rw [← ho,rt,kM]
  have he:=hr e (iF ..);have hd:=nX q;have h1:F1 h.2.2.1=true:=by unfold lZ at q;rw [gY,gY,gY] at q;exact q.2.2.2
  have hk8:=((kA hd).2 e he).1.2;have h20:=(kA hd).1;have hnum:=Mm hd h1 he;have hes:=rS (l:=r) fun x hx=>((kA hd).2 x (hr x (jF _ hx))).1.2
  obtain ⟨n1,b1,f1,g1⟩:=rC (hnum e.2.1 (by simp));obtain ⟨n2,b2,f2,g2⟩:=rC (hnum e.2.2.1 (by simp));obtain ⟨n3,b3,f3,g3⟩:=rC (hnum e.2.2.2.1 (by simp));obtain ⟨n4,b4,f4,g4⟩:=rC (hnum e.2.2.2.2.1 (by simp));have v1:=ap n1;have v2:=ap n2;have v3:=ap n3;have v4:=ap n4;have hform:nU (e::r)=bg e.1.size++(e.1++(bg n1++(bg n2++(bg n3++(bg n4++nU r))))):=by rw [show nU (e::r)=kX e++nU r from rfl,L4 e hk8];simp only [jV,iR,bY,g1,g2,g3,g4]
  have ih:=AL hk q z z1 z2 r n (j+1) (out++[e]) (fun x hx=>hr x (jF _ hx)) (by rw [qY];exact ho) (by rw [fq];omega) (by rw [kM] at hn;omega);have hl20:r.length≤20:=by omega
  rw [hform];simp only [ay.l0,ay.b0];rw [aX (by omega),ae,yO,ae,nv hk (by omega) (by simp only [aV];omega),ac];simp only [];rw [fF hk b1 (by simp only [aV];omega),ac];simp only [];rw [fF hk b2 (by simp only [aV];omega),ac];simp only [];rw [fF hk b3 (by simp only [aV];omega),ac];simp only [];rw [fF hk b4 (by omega),ac];simp only [];rw [dT (by omega) (by decide),aG (n:=j+1) (by omega) (by omega),← f1,← f2,← f3,← f4];exact ih
theorem M6 {k:Nat} (hk:2 ^ 50≤k) {h:Ty.d ic} (q:lZ h=true):ay.f k (eN h)=some (h,(true,())):=by
 have h20:=(kA (nX q)).1;have hes:=rS (l:=h.2.2.1) fun x hx=>((kA (nX q)).2 x hx).1.2
 have hnum:=Lo q;obtain ⟨n1,b1,f1,g1⟩:=rC (hnum h.1 (by simp));obtain ⟨n2,b2,f2,g2⟩:=rC (hnum h.2.1 (by simp));obtain ⟨n3,b3,f3,g3⟩:=rC (hnum (h.2.2.1.length:Int) (by simp));have v1:=ap n1;have v2:=ap n2;have v3:=ap n3;have hform:eN h=vh (sw (uX h))++(bg n1++(bg n2++(bg n3++nU h.2.2.1))):=by rw [Bm q];simp only [jV,iR,bY,g1,g2,g3]
 have hl:=AL hk q [] 0 0 h.2.2.1 k 0 [] (fun e he=>he) rfl rfl (by omega);unfold ay.f ay.t;have eb:=tI k (vh (sw (uX h))) (bg n1++(bg n2++(bg n3++nU h.2.2.1)));rw [← hform,Pv] at eb;rw [show ar.f k (eN h,(false,())) 4=_ from eb,ac];simp only [];rw [fF hk b1 (by simp only [aV];omega),ac];simp only [];rw [fF hk b2 (by simp only [aV];omega),ac];simp only [];rw [fF hk b3 (by omega),ac];simp only [];rw [← f1,← f2,← f3];exact hl
theorem yb {k:Nat} (hk:2 ^ 50≤k) {s:ByteArray} (hs:s.size≤1073741824):ay.f k s=some ((jM s).1,((jM s).2,())) :=
 u6 (fun h h1 h2=>by rw [← h2];exact M6 hk h1) (Hj hk hs)
theorem vi {s:ByteArray}:(jM s).1.2.2.1.length≤20:=by
 rcases j6 (fun h=>lZ h=true) eN oz s with ⟨r,h1,_,e⟩ | e
 · unfold jM;rw [e];exact (kA (nX h1)).1
 · unfold jM;rw [e];exact Nat.zero_le _
def ju:Ty.d aC:=((0,([],())),([],(0,(0,(0,())))))
noncomputable def rL (d:Ty.d aA) (x:Int) (last:Bool):Bool:=(aW d (a_ aD x)).2&&(last||!decide ((b9 (dJ d x)).2<((dJ d x).size:Int)))
noncomputable def gp (d:Ty.d aA):List Int→Bool
 | []=>true
 | x::l=>rL d x l.isEmpty&&gp d l
noncomputable def mN (d:Ty.d aA) (x:Int):aT:=bP x (b9 (dJ d x)).1
noncomputable def kJ (d:Ty.d aA):List Int→aT
 | []=>[]
 | x::l=>mN d x++kJ d l
noncomputable def dP (d:Ty.d aA) (x:Int):Ty.d ic:=(jM (aW d (a_ bG x)).1).1
noncomputable def lw (d:Ty.d aA) (x:Int):Bool:=(aW d (a_ bG x)).2&&((jM (aW d (a_ bG x)).1).2&&o_ x (dJ d x) (dP d x))
noncomputable def iA (d:Ty.d aA) (ids:List Int):Ty.d jY :=
 bif lw d (ids.getD 0 0) then i7 ((dP d (ids.getD 0 0)).2.2.1,((dP d (ids.getD 0 0)).2.1,(0,()))) (kJ d (ids.drop 1)) else i7 ([],(0,(0,()))) (kJ d ids)
noncomputable def Eu (v:Ty.d cC) (en:Int) (g:Ty.d jY) (hi:Int):Ty.d aC:=(v,(g.1,(aU (g.2.1+1),(en,(hi,())))))
noncomputable def yN (v:Ty.d cC) (en:Int) (x:Ty.d aA) (g:Ty.d jY) (hi:Int):Ty.d aC × RD :=
 bif g.2.2.1 != 0 then (ju,(x,3)) else bif (fw v.2.1 x).2 != 0 then (ju,((fw v.2.1 x).1,fj (fw v.2.1 x).2)) else
 (Eu v en g hi,((fw v.2.1 x).1,0))
noncomputable def pr (v:Ty.d cC) (d:Ty.d aA):Ty.d aC × RD :=
 bif !gp d v.2.1 then (ju,(d,3)) else
 bif (eT (aQ v.2.1) d).2 != 0 then (ju,((eT (aQ v.2.1) d).1,fj (eT (aQ v.2.1) d).2)) else
 yN v (b9 (dJ d (aQ v.2.1))).2 (eT (aQ v.2.1) d).1 (iA (eT (aQ v.2.1) d).1 v.2.1) (bif lw (eT (aQ v.2.1) d).1 (v.2.1.getD 0 0) then v.2.1.getD 0 0 else 0)
def mc:Ty.d cC:=(2,([1],()))
noncomputable def hO (d:Ty.d aA):RD:=dz (dz (fw [] d) fun x=>nh x (a_ aD 1)) (an mc)
noncomputable def mB (d:Ty.d aA):Ty.d aC × RD :=
 bif (hO d).2==0 then ((mc,([],(1,(0,(0,()))))),((hO d).1,0)) else (ju,((hO d).1,fj (hO d).2))
noncomputable def cZ (d:Ty.d aA):Ty.d aC × RD :=
 bif !fZ d then (ju,(d,4)) else bif d.2.2.2.1 then (ju,(d,1)) else
 bif !(aW d c_).2 then mB d else
 bif !(dW (aW d c_).1).2 then (ju,(d,3)) else pr (dW (aW d c_).1).1 d
def oS (q:Ty.d aC × RD):Ty.d aC × Ty.d aA × Int × Unit:=(q.1,(q.2.1,(q.2.2,())))
theorem tO {d:Ty.d aA} (h:DR d) (x:Int):(dJ d x).size≤100000:=by have:=kz d (a_ aD x);have h2:=h.use;have h3:=h.cap1;unfold dJ;omega
theorem zi {d:Ty.d aA} (h:DR d) (x:Int):(mN d x).length≤100000:=by have h1:=tO h x;have h2:=lW (dJ d x);unfold mN;rw [xg];omega
theorem qT {d:Ty.d aA} (h:DR d):∀ l:List Int,(kJ d l).length≤100000*l.length
 | []=>Nat.zero_le _
 | x::l=>by have h1:=zi h x;have h2:=qT h l;unfold kJ;rw [rt,kM];omega
noncomputable def vd (d:Ty.d aA):Int→List Int→Int
 | e,[]=>e
 | _,x::l=>vd d (b9 (dJ d x)).2 l
theorem zC (d:Ty.d aA):∀ (l:List Int) (e:Int),l≠[]→vd d e l=(b9 (dJ d (l.getD (l.length-1) 0))).2
 | [],e,h=>absurd rfl h
 | [x],e,_=>rfl
 | x::y::l,e,_=>by show vd d (b9 (dJ d x)).2 (y::l)=_;rw [zC d (y::l) _ (by simp)];rfl
def ve:List aT→aT
 | []=>[]
 | a::l=>a++ve l
theorem s_ (d:Ty.d aA):∀ l:List Int,ve (l.map (mN d))=kJ d l
 | []=>rfl
 | x::l=>by show mN d x++ve (l.map (mN d))=mN d x++kJ d l;rw [s_ d l]
theorem oF {d x:Ty.d aA} (h:∀ s,b9 (aW x s).1=b9 (aW d s).1):∀ l:List Int,kJ x l=kJ d l
 | []=>rfl
 | y::l=>by unfold kJ mN dJ;rw [h,oF h l]
theorem sB {k:Nat} (hk:2 ^ 50≤k) (r:RD) (h:DR r.1) {v:Ty.d cC} (hv:v.2.1.length≤60):bJ.f k (wO r) v =
 some (wO r,(bif gp r.1 v.2.1 then (v.2.1.map (mN r.1),(vd r.1 0 v.2.1,(true,()))) else ([],(0,(false,()))))):=by
 have hl:=h.sz.l;have hu:=h.sz.u;have hn:=h.sz.n;unfold bJ.f bJ.t;refine (iZ (L:=fun n i (s:Int × List aT)=>bJ.l0 k n s.1 v.2.1 v.2.1.length i r.1.1 r.1.2.1 r.1.2.2.1 r.1.2.2.2.1 r.2 v.1 v.2.1 s.2) (R:=fun q s=>some (wO r,(bif gp r.1 q then (s.2++q.map (mN r.1),(vd r.1 s.1 q,(true,()))) else ([],(0,(false,())))))) (Ty.z (.int .i64)) v.2.1 (fun i s=>(s.2.length:Int)≤i) (fun n s hs=>?_) (fun n i s y rest h0 h1 hy hr hs ih=>?_) (n:=k) (s:=(0,[])) (by omega) (by simp)).trans (by rw [List.nil_append])
 · simp only [bJ.l0,bJ.b0];rw [aZ (by omega),aH,show gp r.1 []=true from rfl,List.map_nil,List.append_nil];rfl
 · have hsy:=tO h y;have hsc:=lW (dJ r.1 y);have hlast:=FR h0 hr;have ih:=ih ((b9 (dJ r.1 y)).2,s.2++[mN r.1 y]) (by simp only [fq];omega);simp only [] at ih hs;simp only [bJ.l0,bJ.b0];rw [aX h1,ae,aY h0 h1,hy,cP k,ac];simp only [];rw [show (r.1.1,(r.1.2.1,(r.1.2.2.1,(r.1.2.2.2.1,()))))=r.1 from rfl,jR hk (by omega) (by omega) (by omega),ac];simp only [show (aW r.1 (a_ aD y)).1=dJ r.1 y from rfl];rw [sH hk (by omega),ac];simp only [];rw [uS hk y (by omega),ac];simp only [];rw [dT (by omega) (by decide),aG (n:=i+1) (by omega) (by omega),aG (n:=(v.2.1.length:Int)-1) (by omega) (by omega)];rw [show bP y (b9 (dJ r.1 y)).1=mN r.1 y from rfl,ih];rw [show gp r.1 (y::rest)=(rL r.1 y rest.isEmpty&&gp r.1 rest) from rfl];unfold rL;rw [hlast];have e1:((b9 (dJ r.1 y)).2 != ((dJ r.1 y).size:Int))=decide ((b9 (dJ r.1 y)).2<((dJ r.1 y).size:Int)):=by
    by_cases q:(b9 (dJ r.1 y)).2<((dJ r.1 y).size:Int)
    · rw [aX q];exact bne_iff_ne.2 (by omega)
    · rw [aZ q];have:(b9 (dJ r.1 y)).2=((dJ r.1 y).size:Int):=by omega
      rw [this];simp
   rw [e1];have e2:decide (i<(v.2.1.length:Int)-1)=!decide (i+1=(v.2.1.length:Int)):=by
    by_cases q:i+1=(v.2.1.length:Int)
    · rw [aX q,aZ (by omega)];rfl
    · rw [aZ q,aX (by omega)];rfl
   rw [e2];have e3:s.2++[mN r.1 y]++rest.map (mN r.1)=s.2++(y::rest).map (mN r.1):=by rw [qY];rfl
   rw [e3];cases (aW r.1 (a_ aD y)).2 with
   | false=>rfl
   | true =>
    cases decide (i+1=(v.2.1.length:Int)) with
    | true=>rfl
    | false=>cases decide ((b9 (dJ r.1 y)).2<((dJ r.1 y).size:Int)) <;> rfl
theorem Bw {k:Nat} (hk:2 ^ 50≤k) (r:RD) (h:DR r.1) (id:Int):ch.f k (wO r) id =
 some (wO r,((bif lw r.1 id then ((dP r.1 id).2.2.1,((dP r.1 id).2.1,(0,()))) else ([],(0,(0,())))),(lw r.1 id,()))):=by
 have hl:=h.sz.l;have hu:=h.sz.u;have hn:=h.sz.n;have ht:=kz r.1 (a_ bG id);have hs:=tO h id;unfold ch.f ch.t lw dP;rw [lk,ac];simp only [show (wO r).1=r.1 from rfl];rw [jR hk (by omega) (by omega) (by omega),ac];simp only [];rw [yb hk (by omega),ac,cP,ac];simp only [];rw [jR hk (by omega) (by omega) (by omega),ac];simp only [show (aW r.1 (a_ aD id)).1=dJ r.1 id from rfl];rw [yV hk _ (by omega),ac];simp only [];cases (aW r.1 (a_ bG id)).2 with
 | false=>rfl
 | true =>
  cases (jM (aW r.1 (a_ bG id)).1).2 with
  | false=>rfl
  | true=>cases o_ id (dJ r.1 id) (jM (aW r.1 (a_ bG id)).1).1 <;> rfl
def L6 (k:Nat) (v:Ty.d cC) (en:Int) (x:Ty.d aA) (hi:Int) (dir:aO) (la:Int) (pl:aT):Option (Ty.d aj × Ty.d aC × Unit) :=
 (Option.bind (dO.f k (dir,(la,(0,()))) pl) fun r9=>(bif (r9.1.2.2.1 != 0) then (some ((x,(3,())),(ju,()))) else
 (Option.bind (ag.f k (x,(0,())) v) fun pQ=>(some (pQ.1,((v,(r9.1.1,((aU (r9.1.2.1+1)),(en,(hi,()))))),()))))))
def TA (q:Ty.d aC × RD) (o:Option (Ty.d aj × Ty.d aC × Unit)):Prop:=∃ st,o=some (wO q.2,(st,()))∧(q.2.2=0→st=q.1)∧(q.2.2≠0→q.1=ju)
theorem vY {c:Int} (h:(c==0)=false):fj c≠0:=fun q=>by have:=fV c;rw [q,h] at this;cases this
theorem KJ {k:Nat} (hk:2 ^ 50≤k) {v:Ty.d cC} (hv:v.2.1.length≤60) (en:Int) {x:Ty.d aA} (h:DR x) (hi:Int) {dir:aO} (hd:dir.length≤1000) (la:Int) {pl:aT} (hp:pl.length≤100000000) :
 TA (yN v en x (i7 (dir,(la,(0,()))) pl) hi) (L6 k v en x hi dir la pl):=by
 unfold L6 yN;rw [zG hk _ (by omega) (by show dir.length≤_;omega),ac];simp only [bne];cases (i7 (dir,(la,(0,()))) pl).2.2.1==0 with
 | false=>exact ⟨ju,rfl,fun q=>(by cases q),fun _=>rfl⟩
 | true =>
  simp only [g9,aH];rw [show ag.f k (x,(0,())) v=_ from Al hk (x,0) h (by omega),ac];cases c:(fw v.2.1 x).2==0 with
  | true =>refine ⟨Eu v en (i7 (dir,(la,(0,()))) pl) hi,?_,fun _=>rfl,fun q=>absurd rfl q⟩;show some (wO (wk (fw v.2.1) (x,0)),_)=some (wO ((fw v.2.1 x).1,0),_);unfold wk;simp only [beq_self_eq_true,ae];rw [BU c];rfl
  | false=>exact ⟨_,rfl,fun q=>absurd q (vY c),fun _=>rfl⟩
theorem RX {k:Nat} (hk:2 ^ 50≤k) {v:Ty.d cC} (en:Int) (x:Ty.d aA) (hi:Int) (dir:aO) (la:Int) {al:List aT} (hal:∀ a ∈ al,a.length≤100000) (hz:al.length≤60) :
 aN.l0 k k al al.length 0 x.1 x.2.1 x.2.2.1 x.2.2.2.1 0 [] [] 0 0 0 0 v.2.1 v.1 [] v.1 0 en hi dir la 0 []=L6 k v en x hi dir la (ve al):=by
 refine (iZ (L:=fun n i pl=>aN.l0 k n al al.length i x.1 x.2.1 x.2.2.1 x.2.2.2.1 0 [] [] 0 0 0 0 v.2.1 v.1 [] v.1 0 en hi dir la 0 pl) (R:=fun r pl=>L6 k v en x hi dir la (pl++ve r)) (Ty.z (.slice aI)) al (fun i pl=>(pl.length:Int)≤100000*i) (fun n pl hp=>?_) (fun n i pl y rest h0 h1 hy hr hp ih=>?_) (n:=k) (s:=[]) (by omega) (by simp)).trans (by rw [List.nil_append])
 · simp only [aN.l0,aN.b0];rw [aZ (by omega),aH,show ve []=[] from rfl,List.append_nil];rfl
 · have hy2:y.length≤100000:=hal y (by rw [← hy];exact eE (by omega));have ih:=ih (pl++y) (by rw [rt];omega);simp only [aN.l0,aN.b0];rw [aX h1,ae,aY h0 h1,hy,dT (by omega) (by decide),aG (n:=i+1) (by omega) (by omega)];refine ih.trans ?_;rw [qY];rfl
theorem RE {k:Nat} (hk:2 ^ 50≤k) {v:Ty.d cC} (en:Int) (x:Ty.d aA) (hi:Int) (dir:aO) (la:Int) {al:List aT} (hal:∀ a ∈ al,a.length≤100000) (hz:al.length≤60) :
 aN.l1 k k al.length 0 x.1 x.2.1 x.2.2.1 x.2.2.2.1 0 [] [] 0 0 0 0 v.2.1 v.1 [] v.1 0 en hi dir la 0 [] al=L6 k v en x hi dir la (ve al):=by
 refine (iZ (L:=fun n i pl=>aN.l1 k n al.length i x.1 x.2.1 x.2.2.1 x.2.2.2.1 0 [] [] 0 0 0 0 v.2.1 v.1 [] v.1 0 en hi dir la 0 pl al) (R:=fun r pl=>L6 k v en x hi dir la (pl++ve r)) (Ty.z (.slice aI)) al (fun i pl=>(pl.length:Int)≤100000*i) (fun n pl hp=>?_) (fun n i pl y rest h0 h1 hy hr hp ih=>?_) (n:=k) (s:=[]) (by omega) (by simp)).trans (by rw [List.nil_append])
 · simp only [aN.l1,aN.b1];rw [aZ (by omega),aH,show ve []=[] from rfl,List.append_nil];rfl
 · have hy2:y.length≤100000:=hal y (by rw [← hy];exact eE (by omega));have ih:=ih (pl++y) (by rw [rt];omega);simp only [aN.l1,aN.b1];rw [aX h1,ae,aY h0 h1,hy,dT (by omega) (by decide),aG (n:=i+1) (by omega) (by omega)];refine ih.trans ?_;rw [qY];rfl
theorem Kf (k:Nat):∀ n,aN.l2 k n=aN.l0 k n
 | 0=>rfl
 | n+1=>by show aN.b2 k (aN.l2 k n)=aN.b0 k (aN.l0 k n);rw [Kf k n];rfl
theorem K4 (k:Nat):∀ n,aN.l3 k n=aN.l1 k n
 | 0=>rfl
 | n+1=>by show aN.b3 k (aN.l3 k n)=aN.b1 k (aN.l1 k n);rw [K4 k n];rfl
theorem GD {k:Nat} (hk:2 ^ 50≤k) {v:Ty.d cC} (hv:dK v=true) {d:Ty.d aA} (h:DR d) (en:Int) {x:Ty.d aA} (hx:DR x) (hsame:∀ s,b9 (aW x s).1=b9 (aW d s).1) :
 TA (yN v en x (iA x v.2.1) (bif lw x (v.2.1.getD 0 0) then v.2.1.getD 0 0 else 0))
  (fW 0 (List.length v.2.1:Int) (Option.bind (ch.f k (x,(0,())) (List.getD v.2.1 0 (Ty.z (.int .i64)))) fun r8 =>
   (bif r8.2.2.1 then (fW 0 (List.length v.2.1:Int) (qn 1 (List.length (v.2.1.map (mN d)):Int)
    (aN.l0 k k (List.drop 1 (v.2.1.map (mN d))) (List.length (List.drop 1 (v.2.1.map (mN d))):Int) 0 r8.1.1.1 r8.1.1.2.1 r8.1.1.2.2.1 r8.1.1.2.2.2.1 r8.1.2.1 [] [] 0 0 0 0 v.2.1 v.1 [] v.1 0 en (List.getD v.2.1 0 (Ty.z (.int .i64))) r8.2.1.1 r8.2.1.2.1 r8.2.1.2.2.1 [])))
   else (aN.l1 k k (List.length (v.2.1.map (mN d)):Int) 0 r8.1.1.1 r8.1.1.2.1 r8.1.1.2.2.1 r8.1.1.2.2.2.1 r8.1.2.1 [] [] 0 0 0 0 v.2.1 v.1 [] v.1 0 en 0 r8.2.1.1 r8.2.1.2.1 r8.2.1.2.2.1 [] (v.2.1.map (mN d)))))):=by
 obtain ⟨_,_,hv1,hv2,_⟩:=bD (nx:=v.1) (ids:=v.2.1) hv;have hpa:=qT hx (v.2.1.drop 1);have hpb:=qT hx v.2.1;rw [List.length_drop] at hpa;have hh:=vi (s:=(aW x (a_ bG (v.2.1.getD 0 0))).1);have hal:∀ a ∈ v.2.1.map (mN d),a.length≤100000:=fun a ha=>by obtain ⟨y,_,rfl⟩:=List.mem_map.1 ha;exact zi h y
 rw [aY (by omega) (by omega),show List.getD v.2.1 0 (Ty.z (.int .i64))=v.2.1.getD 0 0 from rfl,show ch.f k (x,(0,())) (v.2.1.getD 0 0)=_ from Bw hk (x,0) hx (v.2.1.getD 0 0),ac];unfold iA;cases lw x (v.2.1.getD 0 0) with
 | true =>
  simp only [ae];rw [aY (by omega) (by omega),d7 (by omega) (by rw [List.length_map];omega)];have:=KJ hk hv2 en hx (v.2.1.getD 0 0) (dir:=(dP x (v.2.1.getD 0 0)).2.2.1) (by show (jM _).1.2.2.1.length≤_;omega) (dP x (v.2.1.getD 0 0)).2.1 (pl:=kJ x (v.2.1.drop 1)) (by omega);rw [← List.map_drop];rw [oF hsame,← s_] at this;have e:=RX hk (v:=v) en x (v.2.1.getD 0 0) (dP x (v.2.1.getD 0 0)).2.2.1 (dP x (v.2.1.getD 0 0)).2.1 (al:=(v.2.1.drop 1).map (mN d)) (fun a ha=>by
   obtain ⟨y,_,rfl⟩:=List.mem_map.1 ha;exact zi h y) (by rw [List.length_map,List.length_drop];omega)
  rw [← e] at this;rw [oF hsame,← s_];exact this
 | false =>simp only [aH];have:=KJ hk hv2 en hx 0 (dir:=[]) (by simp) 0 (pl:=kJ x v.2.1) (by omega);rw [oF hsame,← s_] at this;have e:=RE hk (v:=v) en x 0 [] 0 (al:=v.2.1.map (mN d)) hal (by rw [List.length_map];omega);rw [← e] at this;rw [oF hsame,← s_];exact this
theorem EB {k:Nat} (hk:2 ^ 50≤k) {d:Ty.d aA} (h:DR d) {t:ByteArray} (ht:t.size≤1099511627776) :
 TA (bif !(dW t).2 then (ju,(d,3)) else pr (dW t).1 d) (aN.f k (d,(0,())) t):=by
 have hl:=h.sz.l;have hu:=h.sz.u;have hn:=h.sz.n;unfold aN.f aN.t;rw [yR hk ht,ac];rcases j6 (fun v=>dK v=true) bZ ((0,([],())):Ty.d cC) t with ⟨v,h1,_,e⟩ | e
 · rw [show dW t=(v,true) from e];obtain ⟨_,_,hv1,hv2,_⟩:=bD (nx:=v.1) (ids:=v.2.1) h1;simp only [g9,aH];rw [show bJ.f k (d,(0,())) v=_ from sB hk (d,0) h hv2,ac];simp only [];unfold pr;cases gp d v.2.1 with
   | false=>exact ⟨ju,rfl,fun q=>(by cases q),fun _=>rfl⟩
   | true =>
    have hs:=tO h (aQ v.2.1);have hsc:=lW (dJ d (aQ v.2.1));have w:aU ((v.2.1.length:Int)-1)=((v.2.1.length-1:Nat):Int):=by rw [aG (by omega) (by omega)];omega
    simp only [g9,aH,ae];rw [zC d v.2.1 0 (by intro q;rw [q] at hv1;exact absurd hv1 (by decide)),w,qX,aY (by omega) (by omega),show List.getD v.2.1 (v.2.1.length-1) (Ty.z (.int .i64))=aQ v.2.1 from rfl,show v.2.1.getD (v.2.1.length-1) 0=aQ v.2.1 from rfl,cP,ac];simp only [show (wO (d,0)).1=d from rfl];rw [jR hk (by omega) (by omega) (by omega),ac,Kf,K4];simp only [show (aW d (a_ aD (aQ v.2.1))).1=dJ d (aQ v.2.1) from rfl];have fx:=Hl (aQ v.2.1) h;have ft:=fun c s=>(H3 h (x:=aQ v.2.1) c s).2
    generalize hen:(b9 (dJ d (aQ v.2.1))).2=en at *;by_cases q:en<((dJ d (aQ v.2.1)).size:Int)
    · have ef:eT (aQ v.2.1) d=dz (qG d (a_ aD (aQ v.2.1)) en) fun y=>cQ y (a_ aD (aQ v.2.1)):=by
       unfold eT;rw [hen,aX q];rfl
      rw [show (((dJ d (aQ v.2.1)).size:Int) != en)=true from bne_iff_ne.2 (by omega),ae,Hs hk h.sz,ac];simp only [];rw [tq,ac];simp only [];have h2:=AO h (a_ aD (aQ v.2.1)) en;rw [show bM.f k ((qG d (a_ aD (aQ v.2.1)) en).1,(fj (qG d (a_ aD (aQ v.2.1)) en).2,())) (a_ aD (aQ v.2.1))=_ from o7 hk ((qG d (a_ aD (aQ v.2.1)) en).1,fj (qG d (a_ aD (aQ v.2.1)) en).2) h2 _,ac];have e2:wk (fun x=>cQ x (a_ aD (aQ v.2.1))) ((qG d (a_ aD (aQ v.2.1)) en).1,fj (qG d (a_ aD (aQ v.2.1)) en).2)=((eT (aQ v.2.1) d).1,fj (eT (aQ v.2.1) d).2):=by have:=rG (fun x=>qG x (a_ aD (aQ v.2.1)) en) (fun x=>cQ x (a_ aD (aQ v.2.1))) (d,0);rw [show wk (fun x=>qG x (a_ aD (aQ v.2.1)) en) (d,0)=((qG d (a_ aD (aQ v.2.1)) en).1,fj (qG d (a_ aD (aQ v.2.1)) en).2) from rfl] at this;rw [← this,ef];rfl
      rw [e2];simp only [bne,show (wO ((eT (aQ v.2.1) d).1,fj (eT (aQ v.2.1) d).2)).2.1=fj (eT (aQ v.2.1) d).2 from rfl,fV];cases c:(eT (aQ v.2.1) d).2==0 with
      | false=>exact ⟨ju,rfl,fun q=>absurd q (vY c),fun _=>rfl⟩
      | true =>simp only [g9,aH];have c0:=BU c;rw [c0];exact GD hk h1 h en fx (ft c0)
    · have ef:eT (aQ v.2.1) d=cQ d (a_ aD (aQ v.2.1)):=by
       unfold eT;rw [hen,aZ q];rfl
      rw [show (((dJ d (aQ v.2.1)).size:Int) != en)=false by rw [show ((dJ d (aQ v.2.1)).size:Int)=en by omega];simp,aH,o7 hk (d,0) h,ac];have e2:wk (fun x=>cQ x (a_ aD (aQ v.2.1))) (d,0)=((eT (aQ v.2.1) d).1,fj (eT (aQ v.2.1) d).2):=by rw [ef];rfl
      rw [e2];simp only [bne,show (wO ((eT (aQ v.2.1) d).1,fj (eT (aQ v.2.1) d).2)).2.1=fj (eT (aQ v.2.1) d).2 from rfl,fV];cases c:(eT (aQ v.2.1) d).2==0 with
      | false=>exact ⟨ju,rfl,fun q=>absurd q (vY c),fun _=>rfl⟩
      | true =>simp only [g9,aH];have c0:=BU c;rw [c0];exact GD hk h1 h en fx (ft c0)
 · rw [show dW t=((0,([],())),false) from e];simp only [yO,ae];rw [show bJ.f k (d,(0,())) ((0,([],())):Ty.d cC)=_ from sB hk (d,0) h (by decide),ac];exact ⟨ju,rfl,fun q=>(by cases q),fun _=>rfl⟩
theorem Dr {k:Nat} (hk:2 ^ 50≤k) {d:Ty.d aA} (h:DR d):TA (mB d) (fC.f k (d,(0,()))):=by
 have h1:=rZ (r:=((d,0):RD)) h (t_ []);have hn:=FX (.inl rfl:aD=aD∨aD=bG) 1;have h2:=rZ h1 fun x hx=>xY hx (a_ aD 1)
 unfold fC.f fC.t;rw [show ag.f k (d,(0,())) ((0,([],())):Ty.d cC)=_ from Al hk (d,0) h (v:=(0,([],()))) (by decide),ac,cP,ac];simp only [show ((0,(([]:List Int),())):Ty.d cC).2.1=[] from rfl];rw [DF hk _ h1 (by omega),ac];simp only [];rw [show ((2,([1],())):Ty.d cC)=mc from rfl,q7 hk _ h2 (by decide),ac,← rG (fw []) (fun x=>nh x (a_ aD 1)),← rG];unfold mB;refine ⟨(mc,([],(1,(0,(0,()))))),?_,?_,?_⟩
 · cases c:(hO d).2==0 with
   | true =>show some (wO ((hO d).1,fj (hO d).2),_)=some (wO ((hO d).1,0),_);rw [BU c];rfl
   | false=>rfl
 · cases c:(hO d).2==0 with
   | true=>intro _;rfl
   | false=>intro q;exact absurd q (vY c)
 · cases c:(hO d).2==0 with
   | true=>intro q;exact absurd rfl q
   | false=>intro _;rfl
theorem Gn {k:Nat} (hk:2 ^ 50≤k) {d:Ty.d aA} (hd:Ey d):mF.f k d=some (oS (cZ d)):=by
 have hl:=hd.l;have hu:=hd.u;have hn:=hd.n;unfold mF.f mF.t cZ;rw [gi k hl,ac,fa hk (by omega) (by omega),ac];cases c:fZ d with
 | false=>rfl
 | true =>
  have h:=dH.1 c;have fin:∀ (q:Ty.d aC × RD) (o:Option (Ty.d aj × Ty.d aC × Unit)),TA q o→(Option.bind o fun r4=>(bif (r4.1.2.1 != 0) then (some (ju,r4.1)) else (some (r4.2.1,(r4.1.1,(0,()))))))=some (oS q):=fun q o hq=>by
   obtain ⟨st,e,a,b⟩:=hq;rw [e,ac];simp only [bne,show (wO q.2).2.1=q.2.2 from rfl];cases cq:q.2.2==0 with
   | true =>have z:=BU cq;rw [a z];show some (q.1,(q.2.1,(0,())))=some (q.1,(q.2.1,(q.2.2,())));rw [z]
   | false =>rw [yO,ae];show some (ju,(q.2.1,(q.2.2,())))=some (q.1,(q.2.1,(q.2.2,())));rw [b (fun z=>by rw [z] at cq;cases cq)]
  simp only [g9,aH];cases cdn:d.2.2.2.1 with
  | true=>rfl
  | false =>
   simp only [aH];rw [show (⟨#[108,105,118,101]⟩:ByteArray)=c_ from rfl,jR hk (by omega) (by omega) (by omega),ac];simp only [];cases (aW d c_).2 with
   | false =>simp only [yO,ae,aH];exact fin _ _ (Dr hk h)
   | true =>have hz:=kz d c_;simp only [g9,aH,ae];exact fin _ _ (EB hk h (by omega))
def pK (tears:List Int) (i:Nat) (room:Int):Int :=
 bif decide (tears.length=0) then 0 else bif decide (0≤tears.getD (i % tears.length) 0) then (tears.getD (i % tears.length) 0) % (room+1) else 0
def Bl (tears:List Int) (i:Nat) (f:Ty.d aF):Ty.d aF :=
 (f.1,(ByteArray.extract f.2.1 0 (f.2.2.1+pK tears i ((f.2.1.size:Int)-f.2.2.1)).toNat,(f.2.2.1+pK tears i ((f.2.1.size:Int)-f.2.2.1),())))
def po (tears:List Int):ao→Nat→ao
 | [],_=>[]
 | f::l,i=>Bl tears i f::po tears l (i+1)
def lz (d:Ty.d aA) (tears:List Int):Ty.d aA:=bif !fZ d then d else (po tears d.1 0,(d.2.1,(-1,(false,()))))
theorem Jv (tears:List Int) (i:Nat) {room:Int} (h:0≤room):0≤pK tears i room∧pK tears i room≤room:=by
 unfold pK;cases decide (tears.length=0) with
 | true=>exact ⟨Int.le_refl _,h⟩
 | false =>
  cases decide (0≤tears.getD (i % tears.length) 0) with
  | false=>exact ⟨Int.le_refl _,h⟩
  | true =>have h1:=Int.emod_nonneg (tears.getD (i % tears.length) 0) (show room+1≠0 by omega);have h2:=Int.emod_lt_of_pos (tears.getD (i % tears.length) 0) (show 0<room+1 by omega);exact ⟨h1,by show _ % _≤room;omega⟩
theorem Fi (tears:List Int):∀ (l:ao) (i:Nat),(po tears l i).length=l.length
 | [],i=>rfl
 | f::l,i=>by unfold po;rw [kM,kM,Fi tears l]
theorem GQ (tears:List Int):∀ (l:ao) (i:Nat),je (po tears l i)=je l
 | [],i=>rfl
 | f::l,i=>by show f.1::je (po tears l (i+1))=f.1::je l;rw [GQ tears l]
theorem Nr (tears:List Int) (i:Nat) {f:Ty.d aF} (h:FO f):FO (Bl tears i f)∧(Bl tears i f).2.1.size≤f.2.1.size∧((Bl tears i f).2.1.size:Int)=(Bl tears i f).2.2.1:=by
 obtain ⟨h1,h2,h3⟩:=h;have hl:=Jv tears i (room:=(f.2.1.size:Int)-f.2.2.1) (by omega);have hz:=qN f.2.1 (n:=(f.2.2.1+pK tears i ((f.2.1.size:Int)-f.2.2.1)).toNat) (by omega);refine ⟨⟨h1,?_,?_⟩,?_,?_⟩
 · show (0:Int)≤f.2.2.1+pK tears i ((f.2.1.size:Int)-f.2.2.1);omega
 · show LE.le (α:=Int) (f.2.2.1+pK tears i ((f.2.1.size:Int)-f.2.2.1)) ((ByteArray.extract f.2.1 0 _).size:Int);rw [hz];omega
 · show (ByteArray.extract f.2.1 0 _).size≤f.2.1.size;rw [hz];omega
 · show ((ByteArray.extract f.2.1 0 _).size:Int)=f.2.2.1+pK tears i ((f.2.1.size:Int)-f.2.2.1);rw [hz];omega
theorem GF (tears:List Int):∀ (l:ao) (i:Nat),(∀ f ∈ l,FO f)→(∀ f ∈ po tears l i,FO f)∧bv (po tears l i)≤bv l
 | [],i,h=>⟨fun f hf=>(by cases hf),Nat.le_refl _⟩
 | f::l,i,h=>by
  have h1:=Nr tears i (h f (iF ..));have h2:=GF tears l (i+1) fun g hg=>h g (jF _ hg)
  refine ⟨fun g hg=>?_,?_⟩
  · rcases List.mem_cons.1 hg with e | e
    · rw [e];exact h1.1
    · exact h2.1 g e
  · show bv (Bl tears i f::po tears l (i+1))≤_;rw [eh,eh];have:=h1.2.1;omega
theorem HP (tears:List Int) {d:Ty.d aA} (h:DR d):DR (lz d tears):=by
 have h1:=GF tears d.1 0 h.all;have h2:=h.use;unfold lz;rw [dH.2 h];refine ⟨?_,h.cap0,h.cap1,by show (-1:Int) ≤ -1;omega,by show (-1:Int)≤100000;omega,?_,h1.1,?_⟩
 · show (po tears d.1 0).length≤130;rw [Fi];exact h.len
 · show ((bv (po tears d.1 0):Nat):Int)≤d.2.1;omega
 · show cB (je (po tears d.1 0));rw [GQ];exact h.keys
theorem O0 {l:ao} {i:Nat} (h:i<l.length) (x:Ty.d aF):(l.set i x).take (i+1)=l.take i++[x]:=by
 rw [kv (z:=Ty.z aF) (by rw [List.length_set];exact h)];congr 1
 · rw [List.take_set_of_le (by omega)]
 · simp [List.getD,h]
theorem Oh {l:ao} {i:Nat} (x:Ty.d aF):(l.set i x).drop (i+1)=l.drop (i+1):=by rw [List.drop_set_of_lt (by omega)]
theorem Ms {tears:List Int} (i:Nat) (room:Int) (h:0<tears.length):pK tears i room=bif decide (0≤tears.getD (i % tears.length) 0) then (tears.getD (i % tears.length) 0) % (room+1) else 0:=by unfold pK;rw [aZ (by omega)];rfl
theorem rK {l:ao} {i:Nat} (h:i<l.length):l.drop i=l.getD i (Ty.z aF)::l.drop (i+1):=by rw [List.drop_eq_getElem_cons h];simp [List.getD,h]
theorem Hr {tears:List Int} {l:ao} {i:Nat} (h:i<l.length):po tears (l.drop i) i=Bl tears i (l.getD i (Ty.z aF))::po tears (l.drop (i+1)) (i+1):=by rw [rK h];rfl
theorem Pk {i m:Nat} (hm:0<m):0≤Int.tmod (i:Int) (m:Int)∧Int.tmod (i:Int) (m:Int)<(m:Int)∧(Int.tmod (i:Int) (m:Int)).toNat=i % m:=by have e:Int.tmod (i:Int) (m:Int)=((i % m:Nat):Int):=rfl;have:=Nat.mod_lt i hm;rw [e,qX];exact ⟨by omega,by omega,rfl⟩
theorem Eg {k:Nat} (hk:2 ^ 50≤k) {d:Ty.d aA} (hd:Ey d) {tears:List Int} (ht:tears.length≤1073741824):gF.f k d tears=some (lz d tears,()):=by
 have hl:=hd.l;have hu:=hd.u;have hn:=hd.n;unfold gF.f gF.t lz;rw [gi k hl,ac,fa hk (by omega) (by omega),ac];cases c:fZ d with
 | false=>rfl
 | true =>
  have h:=dH.1 c;have hlen:=h.len;simp only [g9,aH];have key:=M_ (L:=fun n i (s:ao)=>gF.l0 k n tears d.1.length i [] 0 0 false s d.2.1 d.2.2.1 d.2.2.2.1) (R:=fun i s=>some ((s.take i.toNat++po tears (d.1.drop i.toNat) i.toNat,(d.2.1,(-1,(false,())))),())) d.1.length (fun i s=>s.length=d.1.length∧s.drop i.toNat=d.1.drop i.toNat) (fun n s hs=>?_) (fun n i s h0 h1 hs ih=>?_) k 0 d.1 (by omega) (by omega) (by omega) ⟨rfl,rfl⟩
  · rw [show (0:Int).toNat=0 from rfl,List.take_zero,List.nil_append,List.drop_zero] at key;exact key
  · obtain ⟨hs1,hs2⟩:=hs;simp only [gF.l0,gF.b0];rw [aZ (by omega),aH,qX,← hs1,List.take_length,hs1,List.drop_length];rw [show po tears [] d.1.length=[] from rfl,List.append_nil]
  · obtain ⟨hs1,hs2⟩:=hs;have c1:i.toNat<d.1.length:=by omega
    have hg:s.getD i.toNat (Ty.z aF)=d.1.getD i.toNat (Ty.z aF):=by have a:=rK (l:=s) (i:=i.toNat) (by omega);have b:=rK (l:=d.1) (i:=i.toNat) c1;rw [hs2,b] at a;exact (List.cons.inj a).1.symm
    have hf:=h.all _ (eE (z:=Ty.z aF) c1);have hu1:=s5 (eE (z:=Ty.z aF) c1);have hcut:=Nr tears i.toNat hf;have hli:=Jv tears i.toNat (room:=((d.1.getD i.toNat (Ty.z aF)).2.1.size:Int)-(d.1.getD i.toNat (Ty.z aF)).2.2.1) (by have:=hf.2.2;omega);have gs:∀ x z:Ty.d aF,(s.set i.toNat x).getD i.toNat z=x:=fun x z=>by simp [List.getD,show i.toNat<s.length by omega]
    have fin:∀ z:Ty.d aF,z=Bl tears i.toNat (d.1.getD i.toNat (Ty.z aF))→gF.l0 k n tears d.1.length (i+1) [] 0 0 false (s.set i.toNat z) d.2.1 d.2.2.1 d.2.2.2.1=some ((s.take i.toNat++po tears (d.1.drop i.toNat) i.toNat,(d.2.1,(-1,(false,())))),()):=fun z hz=>by
     have:=ih (s.set i.toNat z) ⟨by rw [List.length_set];exact hs1,by
      rw [show (i+1).toNat=i.toNat+1 by omega,Oh];have:=congrArg (List.drop 1) hs2;rw [List.drop_drop,List.drop_drop] at this;exact this⟩
     rw [show (i+1).toNat=i.toNat+1 by omega] at this;rw [this,O0 (by omega),Hr c1,hz,qY];rfl
    simp only [gF.l0,gF.b0];rw [aX h1,ae,aY h0 (by omega),hg,aG (n:=i+1) (by omega) (by omega)];simp only [gs,List.set_set];generalize d.1.getD i.toNat (Ty.z aF)=f at *;obtain ⟨hf1,hf2,hf3⟩:=hf;have w1:aU ((f.2.1.size:Int)-f.2.2.1)=(f.2.1.size:Int)-f.2.2.1:=aG (by omega) (by omega);have w2:aU ((f.2.1.size:Int)-f.2.2.1+1)=(f.2.1.size:Int)-f.2.2.1+1:=aG (by omega) (by omega);have fin2:∀ x:Int,x=pK tears i.toNat ((f.2.1.size:Int)-f.2.2.1)→qn (aU (f.2.2.1+x)) (f.2.1.size:Int) (gF.l0 k n tears d.1.length (i+1) [] 0 0 false (s.set i.toNat (f.1,(ByteArray.extract f.2.1 0 (aU (f.2.2.1+x)).toNat,(aU (f.2.2.1+x),f.2.2.2)))) d.2.1 d.2.2.1 d.2.2.2.1)=some ((s.take i.toNat++po tears (d.1.drop i.toNat) i.toNat,(d.2.1,(-1,(false,())))),()):=fun x hx=>by rw [hx,aG (n:=f.2.2.1+_) (by omega) (by omega),d7 (by omega) (by omega)];exact fin _ rfl
    by_cases ct:(tears.length:Int) > 0
    · obtain ⟨t1,t2,t3⟩:=Pk (i:=i.toNat) (m:=tears.length) (by omega);rw [show ((i.toNat:Nat):Int)=i by omega] at t1 t2 t3;rw [aX ct,ae,aZ (by omega),aH,aY t1 t2,t3,w1,w2];rw [show List.getD tears (i.toNat % tears.length) (Ty.z (.int .i64))=tears.getD (i.toNat % tears.length) 0 from rfl];have hlf:=Ms (tears:=tears) i.toNat ((f.2.1.size:Int)-f.2.2.1) (by omega);rw [aZ (by omega),aH];by_cases cg:0≤tears.getD (i.toNat % tears.length) 0
      · rw [aX cg,ae] at hlf;rw [if_neg (by omega),Int.tmod_eq_emod_of_nonneg cg];exact fin2 _ hlf.symm
      · rw [aZ cg,aH] at hlf;rw [if_pos (by omega),Int.zero_tmod];exact fin2 0 hlf.symm
    · rw [aZ ct,aH];have:tears=[]:=by cases tears with
       | nil=>rfl
       | cons a b=>rw [kM] at ct;omega
      exact fin2 0 (by rw [this];rfl)
theorem Lq (v:Ty.d cC) (en:Int) {x:Ty.d aA} (h:DR x) {g:Ty.d jY} (hg:g.1.length≤268435456) (hi:Int):DR (yN v en x g hi).2.1∧(yN v en x g hi).1.2.1.length≤268435456:=by
 have hs:=t_ v.2.1 x h;unfold yN;cases g.2.2.1 != 0 with
 | true=>exact ⟨h,Nat.zero_le _⟩
 | false =>
  cases (fw v.2.1 x).2 != 0 with
  | true=>exact ⟨hs,Nat.zero_le _⟩
  | false=>exact ⟨hs,hg⟩
theorem LF {x:Ty.d aA} (h:DR x) {ids:List Int} (hl:ids.length≤60):(iA x ids).1.length≤268435456:=by
 have hpa:=qT h (ids.drop 1);have hpb:=qT h ids;rw [List.length_drop] at hpa;have hh:=vi (s:=(aW x (a_ bG (ids.getD 0 0))).1);unfold iA;cases lw x (ids.getD 0 0)
 · exact wA (by omega) (by simp)
 · exact wA (by omega) (by show (dP x (ids.getD 0 0)).2.2.1.length≤_;unfold dP;omega)
theorem Hm {d:Ty.d aA} (h:DR d):DR (cZ d).2.1∧(cZ d).1.2.1.length≤268435456:=by
 unfold cZ;rw [dH.2 h];simp only [g9,aH];cases d.2.2.2.1 with
 | true=>exact ⟨h,Nat.zero_le _⟩
 | false =>
  simp only [aH];cases (aW d c_).2 with
  | false =>
   simp only [yO,ae];have hf:DR (hO d).1:=iI (iI (t_ [] d h) fun x hx=>xY hx _) (kR mc);unfold mB;cases (hO d).2==0 with
   | true=>exact ⟨hf,Nat.zero_le _⟩
   | false=>exact ⟨hf,Nat.zero_le _⟩
  | true =>
   simp only [g9,aH];rcases j6 (fun v=>dK v=true) bZ ((0,([],())):Ty.d cC) (aW d c_).1 with ⟨v,h1,_,e⟩ | e
   · rw [show dW (aW d c_).1=(v,true) from e];obtain ⟨_,_,hv1,hv2,_⟩:=bD (nx:=v.1) (ids:=v.2.1) h1;simp only [g9,aH];have fx:=Hl (aQ v.2.1) h;unfold pr;cases gp d v.2.1 with
     | false=>exact ⟨h,Nat.zero_le _⟩
     | true =>
      simp only [g9,aH];cases (eT (aQ v.2.1) d).2 != 0 with
      | true=>exact ⟨fx,Nat.zero_le _⟩
      | false=>exact Lq v _ fx (LF fx hv2) _
   · rw [show dW (aW d c_).1=((0,([],())),false) from e];exact ⟨h,Nat.zero_le _⟩
theorem Nm {d:Ty.d aA} (h:fZ d=false):cZ d=(ju,(d,4)):=by unfold cZ;rw [h];rfl
noncomputable def jE (q:Ty.d aC × RD):Ty.d aP:=((q.2.2==0),(q.1,(q.2.1,(List.replicate 3 (Ty.z bO),()))))
theorem pe {k:Nat} (hk:2 ^ 50≤k) {d:Ty.d aA} (hd:Ey d):dh.f k d=some (jE (cZ d),((cZ d).2.2,())):=by unfold dh.f dh.t;rw [Gn hk hd,ac,MZ (by omega) (by omega) (by decide)];rfl
def iP (n:Int):Ty.d aA:=([],(n,(-1,(false,()))))
theorem KD {n:Int} (h0:0≤n) (h1:n≤100000):DR (iP n) :=
 ⟨Nat.zero_le _,h0,h1,show LE.le (α:=Int) (-1) (-1) from Int.le_refl _,show LE.le (α:=Int) (-1) 100000 by decide,h0,fun f hf=>(by cases hf),List.Pairwise.nil⟩
theorem Ie {st:Ty.d aC} {d:Ty.d aA} {l:dX} (h:SR st (d,0) 100000) (hp:bw l=true) (hd:st.2.1.length≤20) :
 DR (bS st d l).2.1∧(bS st d l).1.1.2.1.length≤60∧(bS st d l).1.2.1.length≤268435456:=by
 have h8:=mA hp;obtain ⟨g1,g2,g3⟩:=nC (bf l st.2.2.1) (iV st) d [] 100000 ⟨h.live,h.disk,h.lo,h.hi⟩ (by decide);unfold bS;generalize bR (bf l st.2.2.1) (iV st) d []=q at g1 g2 g3 ⊢;have e2:q.1.1.2.1=st.2.1:=g2;obtain ⟨_,_,_,hi,_⟩:=bD (nx:=q.1.1.1.1) (ids:=q.1.1.1.2.1) g1.live;have hs:=m9 g1.disk (au q.1.1);unfold rH;cases q.1.2.2 != 0 with
 | true=>exact ⟨g1.disk,hi,by show q.1.1.2.1.length≤_;rw [e2];omega⟩
 | false =>
  simp only [aH];generalize cQ q.1.2.1 (au q.1.1)=y at hs ⊢;cases y.2 != 0 with
  | true=>exact ⟨hs,hi,by show q.1.1.2.1.length≤_;rw [e2];omega⟩
  | false =>refine ⟨hs,hi,?_⟩;show (bq q.1.1.2.1 (q.2.take l.length)).length≤_;have:=ul (q.2.take l.length) q.1.1.2.1;rw [e2] at this ⊢;rw [List.length_take] at this;omega
theorem Fp {st:Ty.d aC} {d:Ty.d aA} (l:dX) (hd:DR d) (h1:st.1.2.1.length≤60) (h2:st.2.1.length≤268435456) :
 DR (bm st d l).2.1∧(bm st d l).1.1.2.1.length≤60∧(bm st d l).1.2.1.length≤268435456:=by
 unfold bm;cases c1:bo st d with
 | false=>exact ⟨hd,h1,h2⟩
 | true =>
  simp only [g9,aH];cases c2:bw l with
  | false=>exact ⟨hd,h1,h2⟩
  | true =>
   simp only [g9,aH];cases (l.length:Int)==0 with
   | true=>exact ⟨hd,h1,h2⟩
   | false =>
    cases decide (jL st.2.1 l > 20) with
    | true=>exact ⟨hd,h1,h2⟩
    | false =>
     cases decide (st.2.2.1 > (1000000:Int)) with
     | true=>exact ⟨hd,h1,h2⟩
     | false=>exact Ie (bn c1).1 c2 (bn c1).2.1
def TO (l:aO):Prop:=∀ e ∈ l,LE.le (α:=Int) 0 e.2.2.2.1
theorem KY {l:aO} {e x:Ty.d aB} (h:x ∈ uG l e):x=e∨x ∈ l:=by
 unfold uG at h;rcases List.mem_append.1 h with w | w
 · exact .inr (List.takeWhile_subset _ w)
 · rcases List.mem_cons.1 w with w | w
   · exact .inl w
   · exact .inr (List.dropWhile_subset _ w)
structure IV (q:Ty.d aC × RD):Prop where
 disk:DR q.2.1
 ids:q.1.1.2.1.length≤60
 dir:q.1.2.1.length≤268435456
 non:TO q.1.2.1
 sum:uW q.1.2.1≤(uD q.2.1 q.1.1.2.1:Int)
def EX (n:Int) (d d':Ty.d aA):Prop:=∀ x:Int,1≤x→x<n→x≤100000→∀ t,fT d (a_ aD x)=some t→∃ u,fT d' (a_ aD x)=some (t++u)
theorem Lz (t:ByteArray):t++(⟨#[]⟩:ByteArray)=t:=JE t
theorem qy {n:Int} {d d':Ty.d aA} (h:∀ x:Int,1≤x→x<n→x≤100000→fT d' (a_ aD x)=fT d (a_ aD x)):EX n d d':=fun x h0 h1 h2 t e=>⟨⟨#[]⟩,by rw [h x h0 h1 h2,e,Lz]⟩
theorem FJ (n:Int) (d:Ty.d aA):EX n d d:=qy fun _ _ _ _=>rfl
theorem zD {n:Int} {d d' d'':Ty.d aA} (h:EX n d d') (g:EX n d' d''):EX n d d'':=fun x h0 h1 h2 t e=>by obtain ⟨u,hu⟩:=h x h0 h1 h2 t e;obtain ⟨v,hv⟩:=g x h0 h1 h2 _ hu;exact ⟨u++v,by rw [hv,nT]⟩
theorem PV {n m:Int} {d d':Ty.d aA} (h:EX m d d') (q:n≤m):EX n d d':=fun x h0 h1 h2 t e=>h x h0 (by omega) h2 t e
theorem Ru (n:Int) (d:Ty.d aA) (s x:ByteArray):EX n d (h_ d s x).1:=fun y h0 h1 h2 t e=>by
 by_cases q:s=a_ aD y
 · subst q;have:=qt (d:=d) (s:=a_ aD y) (x:=x);rw [e] at this;cases c:(h_ d (a_ aD y) x).2==0 with
   | true=>rw [c] at this;exact ⟨x,this⟩
   | false=>rw [c] at this;exact ⟨⟨#[]⟩,by rw [this,Lz];rfl⟩
 · exact ⟨⟨#[]⟩,by rw [v8 q,e,Lz]⟩
theorem RB (n:Int) (d:Ty.d aA) (s:ByteArray):EX n d (cQ d s).1:=qy fun x _ _ _=>jv
theorem Ps {st:Ty.d aC} {d:Ty.d aA} (hl:dK st.1=true) :
 EX st.1.1 d (gV st d).2.1∧LE.le (α:=Int) st.1.1 (gV st d).1.1.1∧(gV st d).1.2.2.1=st.2.2.1:=by
 obtain ⟨n1,n2,n3,_⟩:=fk (n:=st.1.1) (ids:=st.1.2.1) hl;have hnew:∀ x:Int,1≤x→x<st.1.1→x≤100000→a_ aD st.1.1≠a_ aD x:=fun x h0 h1 h2=>ob ⟨n1,n2⟩ ⟨h0,h2⟩ (by omega)
 have k1:∀ x:Int,1≤x→x<st.1.1→x≤100000→fT (cQ d (au st)).1 (a_ aD x)=fT d (a_ aD x):=fun x _ _ _=>jv
 have k2:∀ x:Int,1≤x→x<st.1.1→x≤100000→fT (ak (a_ aD st.1.1) (cQ d (au st)).1).1 (a_ aD x)=fT d (a_ aD x):=fun x h0 h1 h2=>(lD (hnew x h0 h1 h2)).trans (k1 x h0 h1 h2)
 have k3:∀ x:Int,1≤x→x<st.1.1→x≤100000→fT (an (jq st) (ak (a_ aD st.1.1) (cQ d (au st)).1).1).1 (a_ aD x)=fT d (a_ aD x):=fun x h0 h1 h2=>(fB (gk ⟨h0,h2⟩) (ia ⟨h0,h2⟩)).trans (k2 x h0 h1 h2)
 unfold gV;cases decide ((st.1.2.1.length:Int)≥60) with
 | true=>exact ⟨FJ _ _,Int.le_refl _,rfl⟩
 | false =>
  cases decide (st.1.1≥(100000:Int)) with
  | true=>exact ⟨FJ _ _,Int.le_refl _,rfl⟩
  | false =>
   have up:LE.le (α:=Int) st.1.1 (st.1.1+1):=by omega
   simp only [aH];generalize cQ d (au st)=r1 at k1 k2 k3 ⊢;generalize ak (a_ aD st.1.1) r1.1=r2 at k2 k3 ⊢;generalize an (jq st) r2.1=r3 at k3 ⊢;cases r1.2 != 0 with
   | true=>exact ⟨qy k1,Int.le_refl _,rfl⟩
   | false =>
    cases r2.2 != 0 with
    | true=>exact ⟨qy k2,up,rfl⟩
    | false =>
     cases r3.2 != 0 with
     | true =>
      refine ⟨?_,up,rfl⟩;simp only [ae,aH];unfold oG;cases (tl r3).2==2 with
      | false=>exact qy k3
      | true =>
       refine qy fun x h0 h1 h2=>?_
       refine (nP [gT,a_ aD st.1.1] r3.1 fun s hs=>?_).trans (k3 x h0 h1 h2);rcases List.mem_cons.1 hs with e | e
       · rw [e];exact gk ⟨h0,h2⟩
       · rw [List.mem_singleton.1 e];exact hnew x h0 h1 h2
     | false=>exact ⟨qy k3,up,rfl⟩
theorem Ka {st:Ty.d aC} (hl:dK st.1=true):LE.le (α:=Int) 1 (aQ st.1.2.1)∧LT.lt (α:=Int) (aQ st.1.2.1) st.1.1:=by
 obtain ⟨n1,n2,n3,n4⟩:=fk (n:=st.1.1) (ids:=st.1.2.1) hl;obtain ⟨_,_,g1,_,_⟩:=bD (nx:=st.1.1) (ids:=st.1.2.1) hl;have hs:=jA g1;have hlast:aQ st.1.2.1 ∈ st.1.2.1:=by rw [hs];exact List.mem_append_right _ (List.mem_singleton.2 (by rw [← hs]))
 exact n3 _ hlast
theorem Jl {st:Ty.d aC} {d:Ty.d aA} (hl:dK st.1=true) (r:Ty.d bQ) (n:Int) :
 EX n d (gh st d r).1.2.1∧(gh st d r).1.1.1=st.1∧(gh st d r).1.1.2.2.1=st.2.2.1∧((gh st d r).1.2.2=0→LE.le (α:=Int) 1 (gh st d r).2.1∧LT.lt (α:=Int) (gh st d r).2.1 st.1.1):=by
 have hE:=Ru n d (au st) (aM (aE r));unfold gh;generalize h_ d (au st) (aM (aE r))=a at hE ⊢;cases c:a.2 != 0 with
 | true =>refine ⟨hE,rfl,rfl,fun e=>?_⟩;have e:(tl a).2=0:=e;have q:=kq a;rw [e,c] at q;cases q
 | false=>exact ⟨hE,rfl,rfl,fun _=>Ka hl⟩
theorem Jt {st:Ty.d aC} {d:Ty.d aA} (hl:dK st.1=true) (hd:DR d) (r:Ty.d bQ) :
 EX st.1.1 d (da st d r).1.2.1∧LE.le (α:=Int) st.1.1 (da st d r).1.1.1.1∧(da st d r).1.1.2.2.1=st.2.2.1∧((da st d r).1.2.2=0→LE.le (α:=Int) 1 (da st d r).2.1∧LT.lt (α:=Int) (da st d r).2.1 (da st d r).1.1.1.1):=by
 unfold da;cases decide (st.2.2.2.1 > 0)&&decide (st.2.2.2.1+aS r > 200) with
 | false =>obtain ⟨s1,s2,s3,s4⟩:=Jl (d:=d) hl r st.1.1;simp only [aH];rw [s2];exact ⟨s1,Int.le_refl _,s3,s4⟩
 | true =>
  obtain ⟨g1,g2,g3,g4⟩:=tR hl hd;obtain ⟨t1,t2,t3⟩:=Ps (d:=d) hl;simp only [ae];generalize gV st d=q at g1 g2 g3 g4 t1 t2 t3 ⊢;cases c:q.2.2 != 0 with
  | true =>refine ⟨t1,t2,t3,fun e=>?_⟩;have e:q.2.2=0:=e;rw [e] at c;cases c
  | false =>obtain ⟨s1,s2,s3,s4⟩:=Jl (d:=q.2.1) g1 r st.1.1;simp only [aH];rw [s2];exact ⟨zD t1 s1,t2,s3.trans t3,s4⟩
theorem Hb:∀ (l:ij) (st:Ty.d aC) (d:Ty.d aA) (ps:aT) (B:Int),SR st (d,0) B→0≤B→(∀ p ∈ ps,LE.le (α:=Int) 1 p.1∧LT.lt (α:=Int) p.1 st.1.1) →
 EX st.1.1 d (bR l st d ps).1.2.1∧LE.le (α:=Int) st.1.1 (bR l st d ps).1.1.1.1∧(bR l st d ps).1.1.2.2.1=st.2.2.1∧∀ p ∈ (bR l st d ps).2,LE.le (α:=Int) 1 p.1∧LT.lt (α:=Int) p.1 (bR l st d ps).1.1.1.1
 | [],st,d,ps,B,_,_,hp=>⟨FJ _ _,Int.le_refl _,rfl,hp⟩
 | r::l,st,d,ps,B,h,hB,hp=>by
  obtain ⟨g1,g2,g3⟩:=ww h hB r;obtain ⟨s1,s2,s3,s4⟩:=Jt (d:=d) h.live h.disk r;unfold bR;generalize da st d r=q at g1 g2 g3 s1 s2 s3 s4 ⊢;have up:∀ p ∈ ps,LE.le (α:=Int) 1 p.1∧LT.lt (α:=Int) p.1 q.1.1.1.1:=fun p hq=>⟨(hp p hq).1,Int.lt_of_lt_of_le (hp p hq).2 s2⟩
  cases c:q.1.2.2 != 0 with
  | true=>exact ⟨s1,s2,s3,up⟩
  | false =>
   have e0:=dY c;obtain ⟨i1,i2,i3,i4⟩:=Hb l q.1.1 q.1.2.1 (ps++[q.2]) (B+211) ⟨g1.live,g1.disk,g1.lo,g1.hi⟩ (by omega) fun p hq=>by
    rcases List.mem_append.1 hq with w | w
    · exact up p w
    · rw [List.mem_singleton.1 w];exact s4 e0
   simp only [aH];exact ⟨zD s1 (PV i1 s2),Int.le_trans s2 i2,i3.trans s3,i4⟩
theorem ND {d:aO} {p:Ty.d aI} {e:Ty.d aB} (h:e ∈ f8 d p):(e=dI p∧(p.2.2.2.1.1==2)=false)∨e ∈ d:=by
 unfold f8 at h;cases c:p.2.2.2.1.1==2 with
 | true=>rw [c,ae] at h;exact .inr ((List.mem_filter.1 h).1)
 | false =>
  rw [c,aH] at h;rcases KY h with w | w
  · exact .inl ⟨w,rfl⟩
  · exact .inr ((List.mem_filter.1 w).1)
theorem o8 {e:Ty.d aB}:∀ (ps:aT) {d:aO},e ∈ bq d ps→(∃ p ∈ ps,e=dI p∧(p.2.2.2.1.1==2)=false)∨e ∈ d
 | [],d,h => .inr h
 | p::ps,d,h=>by
  rcases o8 ps (d:=f8 d p) h with ⟨q,hq,w⟩ | w
  · exact .inl ⟨q,jF _ hq,w⟩
  · rcases ND w with w | w
    · exact .inl ⟨p,iF,w⟩
    · exact .inr w
def yt (l:fL) (mark:Int):Int:=((aR (fK l mark)).size:Int)
theorem y5 (r:Ty.d bQ) (l:ij):(aR (r::l)).size=(aM (aE r)).size+(aR l).size:=by rw [aR,ByteArray.size_append]
theorem rT {st:Ty.d aC} {d:Ty.d aA} (c:bo st d=true):st.2.1.length≤20:=by unfold bo rp at c;simp only [gY,decide_eq_true_eq] at c;omega
def Aj (nm:ByteArray):ij→RD→RD
 | [],r=>r
 | x::l,r=>Aj nm l (dz r fun y=>h_ y nm (aM (aE x)))
def cR (m:Int) (l:fL) (mark:Int) (d:Ty.d aA):RD:=dz (Aj (a_ aD m) (fK l mark) (ak (a_ aD m) d)) fun y=>cQ y (a_ aD m)
def gy (m:Int):fL→Int→aO
 | [],_=>[]
 | p::l,at_=>(p.1,(m,(at_,(aS (bz p),(p.2.2.1,())))))::gy m l (at_+aS (bz p))
def lY (ns:List ByteArray) (r:RD):RD:=bif r.2==2 then ((bX ns r.1).1,bif (bX ns r.1).2==0 then 2 else fj (bX ns r.1).2) else r
def km (m:Int):List ByteArray:=[gT,a_ aD m,a_ aD (m+1),a_ bG m]
def mM:List Int→Ty.d aA→RD
 | [],d=>(d,0)
 | x::l,d=>dz (bX [a_ aD x,a_ bG x] d) (mM l)
def pV (st:Ty.d aC):Ty.d aC:=((st.1.1+2,st.1.2),st.2)
def ez (m:Int):Ty.d cC:=(m+2,([m,m+1],()))
def fy (hb:ByteArray→ByteArray) (m:Int) (d:Ty.d aA):RD :=
 bif (jw (a_ bG m) (hb (aW d (a_ aD m)).1) d).2==2 then bX [a_ bG m] (jw (a_ bG m) (hb (aW d (a_ aD m)).1) d).1 else jw (a_ bG m) (hb (aW d (a_ aD m)).1) d
def bT (hb:ByteArray→ByteArray) (st:Ty.d aC) (d:Ty.d aA) (l:fL):Ty.d aC × RD :=
 bif (cR st.1.1 l (st.2.2.1-1) d).2 != 0 then (pV st,lY (km st.1.1) (tl (cR st.1.1 l (st.2.2.1-1) d))) else
 bif (ak (a_ aD (st.1.1+1)) (cR st.1.1 l (st.2.2.1-1) d).1).2 != 0 then (pV st,lY (km st.1.1) (tl (ak (a_ aD (st.1.1+1)) (cR st.1.1 l (st.2.2.1-1) d).1))) else
 bif (fy hb st.1.1 (ak (a_ aD (st.1.1+1)) (cR st.1.1 l (st.2.2.1-1) d).1).1).2 != 0 then (pV st,tl (fy hb st.1.1 (ak (a_ aD (st.1.1+1)) (cR st.1.1 l (st.2.2.1-1) d).1).1)) else
 bif (an (ez st.1.1) (fy hb st.1.1 (ak (a_ aD (st.1.1+1)) (cR st.1.1 l (st.2.2.1-1) d).1).1).1).2 != 0 then
  (pV st,lY (km st.1.1) (tl (an (ez st.1.1) (fy hb st.1.1 (ak (a_ aD (st.1.1+1)) (cR st.1.1 l (st.2.2.1-1) d).1).1).1))) else
 ((ez st.1.1,(gy st.1.1 l 0,(st.2.2.1,(0,(0,()))))),tl (mM st.1.2.1 (an (ez st.1.1) (fy hb st.1.1 (ak (a_ aD (st.1.1+1)) (cR st.1.1 l (st.2.2.1-1) d).1).1).1).1))
theorem lJ {s:ByteArray} {d:Ty.d aA} (h:(ak s d).2=0):fT (ak s d).1 s=some ByteArray.empty:=by
 unfold ak at h ⊢;unfold dz at h ⊢;cases c:(fG s d).2==0 with
 | false =>rw [c,aH] at h;rw [h] at c;cases c
 | true =>
  rw [c,ae] at h;rw [ae];obtain ⟨c1,c2⟩:=nB (d:=(fG s d).1) (g:=qK s) h;unfold fT;show (b8 (fA (fG s d).1 (qK s)).1.1 s).map _=_;rw [c2];unfold qK at c1 ⊢;cases c3:ib s with
  | false=>rw [c3] at c1;cases c1
  | true =>
   rw [c3] at c1;simp only [g9,aH] at c1 ⊢;cases c4:(b8 (fG s d).1.1 s) with
   | some f=>rw [c4] at c1;cases c1
   | none =>
    rw [c4] at c1;simp only [Option.isSome_none,aH] at c1 ⊢;cases c5:decide (((fG s d).1.1.length:Int)≥130) with
    | true=>rw [c5] at c1;cases c1
    | false =>simp only [aH];rw [yj (f:=(s,(ByteArray.empty,(0,())))) c4,bB];rfl
theorem EQ (nm:ByteArray):∀ (l:ij) (r:RD),r.2≠0→Aj nm l r=r
 | [],_,_=>rfl
 | x::l,r,h=>by
  unfold Aj;have e:dz r (fun y=>h_ y nm (aM (aE x)))=r:=by unfold dz;rw [pG h];rfl
  rw [e];exact EQ nm l r h
theorem Iy (nm:ByteArray):∀ (l:ij) (r:RD) (x:ByteArray),fT r.1 nm=some x→(Aj nm l r).2=0→fT (Aj nm l r).1 nm=some (x++aR l)
 | [],r,x,h,_=>by show fT r.1 nm=some (x++⟨#[]⟩);rw [h,show x++(⟨#[]⟩:ByteArray)=x from JE x]
 | a::l,r,x,h,z=>by
  unfold Aj at z ⊢;by_cases c:(dz r (fun y=>h_ y nm (aM (aE a)))).2=0
  · obtain ⟨c1,c2,c3⟩:=iw c;have c3:(h_ r.1 nm (aM (aE a))).2=0:=c3;have e:fT (dz r (fun y=>h_ y nm (aM (aE a)))).1 nm=some (x++aM (aE a)):=by
     rw [c2];have:=qt (d:=r.1) (s:=nm) (x:=aM (aE a));rw [c3,h] at this;exact this
    rw [Iy nm l _ _ e z];show some (x++aM (aE a)++aR l)=some (x++(aM (aE a)++aR l));rw [nT]
  · rw [EQ nm l _ c] at z;exact absurd z c
theorem Qv {nm t:ByteArray} (h:nm≠t):∀ (l:ij) (r:RD),fT (Aj nm l r).1 t=fT r.1 t
 | [],_=>rfl
 | a::l,r=>by
  show fT (Aj nm l (dz r fun y=>h_ y nm (aM (aE a)))).1 t=_;rw [Qv h l];exact pR rfl fun y=>v8 h
theorem zN {m:Int} {l:fL} {mark:Int} {d:Ty.d aA} {t:ByteArray} (h:a_ aD m≠t):fT (cR m l mark d).1 t=fT d t :=
 pR ((Qv h _ _).trans (lD h)) fun y=>jv
theorem qj {hb:ByteArray→ByteArray} {m:Int} {d:Ty.d aA} {t:ByteArray} (h:a_ bG m≠t):fT (fy hb m d).1 t=fT d t:=by
 unfold fy;cases (jw (a_ bG m) (hb (aW d (a_ aD m)).1) d).2==2 with
 | false=>exact Eh h
 | true =>refine (nP _ _ fun s hs=>?_).trans (Eh h);rw [List.mem_singleton.1 hs];exact h
theorem ud {t:ByteArray}:∀ (l:List Int) (d:Ty.d aA),(∀ x ∈ l,a_ aD x≠t∧a_ bG x≠t)→fT (mM l d).1 t=fT d t
 | [],_,_=>rfl
 | x::l,d,h=>by
  show fT (dz (bX [a_ aD x,a_ bG x] d) (mM l)).1 t=_;refine pR (nP _ _ fun s hs=>?_) fun y=>ud l y fun z hz=>h z (jF _ hz)
  have:=h x iF;rcases List.mem_cons.1 hs with e | e
  · rw [e];exact this.1
  · rw [List.mem_singleton.1 e];exact this.2
theorem C4 (m:Int):∀ (l:fL) (a:Int),uW (gy m l a)=((aR (l.map bz)).size:Int)∧TO (gy m l a)
 | [],_=>⟨rfl,fun x hx=>by cases hx⟩
 | p::l,a=>by
  obtain ⟨i1,i2⟩:=C4 m l (a+aS (bz p));have hr:=kj (bz p);refine ⟨?_,fun x hx=>?_⟩
  · show aS (bz p)+uW (gy m l (a+aS (bz p)))=_;rw [i1,List.map_cons,y5];unfold aS;omega
  · rcases List.mem_cons.1 hx with e | e
    · rw [e];exact hr.1
    · exact i2 x e
theorem li {x y:Int} (hx:1≤x∧x≤100000) (hy:1≤y∧y≤100000):a_ bG x≠a_ aD y:=fun q=>by
 have e:a_ bG x=bG++dp x:=by unfold a_;rw [aX hx];rfl
 rw [vj hy,e] at q;have:=congrArg nb q;rw [gS,gS] at this;cases this
theorem CX {x:Int} (hx:1≤x∧x≤100000):a_ bG x≠c_:=fun q=>by
 have e:a_ bG x=bG++dp x:=by unfold a_;rw [aX hx];rfl
 rw [e] at q;have:=congrArg nb q;rw [gS] at this;cases this
theorem Gc {s t:ByteArray} {d:Ty.d aA} (z:(jw s t d).2=0):fT (jw s t d).1 s=some t:=by unfold jw at z ⊢;obtain ⟨z1,e1,z2⟩:=iw z;obtain ⟨z3,e2,z4⟩:=iw z1;rw [e1,jv,e2];have:=qt (d:=(ak s d).1) (s:=s) (x:=t);rw [z4,lJ z3] at this;have this:fT (h_ (ak s d).1 s t).1 s=some (ByteArray.empty++t):=this;rw [this,show (ByteArray.empty:ByteArray)=dB [] from rfl,ut]
theorem QJ {d:Ty.d aA} {a b:ByteArray} (hd:DR d) (hab:a≠b) (z:(uC d a b).2=0):fT (uC d a b).1 b=fT d a:=by
 obtain ⟨c1,c2⟩:=nB z;unfold fT;show (b8 (fA d (sA a b)).1.1 b).map _=_;rw [c2];unfold sA at c1 ⊢;cases c3:ib b with
 | false=>rw [c3] at c1;exact absurd c1 (by show (5:Int)≠0;decide)
 | true =>
  rw [c3] at c1;simp only [g9,aH] at c1 ⊢;cases c4:b8 d.1 a with
  | none=>rw [c4] at c1;exact absurd c1 (by show (3:Int)≠0;decide)
  | some f =>simp only [];rw [jr hab,aH];have hk:cB (je (gP d.1 a)):=tE (qv _ _) hd.keys;show (b8 (kD (gP (gP d.1 a) b) (b,f.2)) b).map _=_;rw [yj (f:=(b,f.2)) (oh hk b),bB];rfl
theorem qb {v:Ty.d cC} {d:Ty.d aA} (hd:DR d) (z:(an v d).2=0):fT (an v d).1 c_=some (bZ v):=by unfold an at z ⊢;obtain ⟨z1,e1,z2⟩:=iw z;rw [e1,QJ (jj _ _ _ hd) (by decide) z2,Gc z1]
theorem zY {n:Int} (h0:0≤n) (h1:n≤127):(jK n).size=1:=by unfold jK;rw [if_pos ⟨h0,by omega⟩,← tB (by omega)];unfold vl;rw [if_neg (by omega)];rfl
theorem J0 {n:Int} (h0:0≤n) (h1:n≤2097151):(jK n).size≤3:=by
 unfold jK;rw [if_pos ⟨h0,by omega⟩,← tB (by omega)];unfold vl;split
 · rw [kM];unfold vl;split
   · rw [kM];unfold vl;rw [if_neg (by omega)];exact Nat.le_refl _
   · show 1+1≤3
     decide
 · show 1≤3
   decide
theorem O9 (mark:Int) (l:ij):aS (gB 5 mark l)≤20:=by
 have key:(aE (gB 5 mark l)).size≤9:=by
  unfold aE;by_cases c:bN (gB 5 mark l)=true
  · rw [if_pos c];rcases nR c with ⟨q,_⟩ | ⟨q,_⟩ | ⟨_,_,_,h1,h2,_,_,h3,h4⟩
    · exact absurd q (by show ¬ ((5:Int)=1∨(5:Int)=4);decide)
    · exact absurd q (by show ¬ ((5:Int)=2);decide)
    · rw [if_neg (by show ¬ ((5:Int)=1∨(5:Int)=4);decide),if_neg (by show ¬ ((5:Int)=2);decide),ByteArray.size_append,ByteArray.size_append,ByteArray.size_append,gu];have e1:(jK (gB 5 mark l).1).size=1:=zY (n:=5) (by decide) (by decide);have e2:=J0 (n:=(gB 5 mark l).2.1) h3 (Int.le_trans h4 (by decide));have e3:=zY (n:=(gB 5 mark l).2.2.2.2.1) h1 (Int.le_trans h2 (by decide));omega
  · rw [if_neg c];exact Nat.zero_le _
 unfold aS aM;rw [if_neg (by omega),ByteArray.size_append,gu];unfold jG;rw [ByteArray.size_append,zY (by omega) (by omega)];omega
theorem vc (m:Int):∀ (l:fL) (a:Int),(gy m l a).length=l.length
 | [],_=>rfl
 | p::l,a=>by show (gy m l (a+aS (bz p))).length+1=_;rw [vc m l];rfl
theorem Ch {hb:ByteArray→ByteArray} {st:Ty.d aC} {d:Ty.d aA} {c:Int} {l:fL} (h:IV (st,(d,c))) (hl:dK st.1=true) (hn:LE.le (α:=Int) (st.1.1+2) 100000) (hlen:l.length≤268435456) :
 IV (bT hb st d l)∧((bT hb st d l).2.2=0→(uD (bT hb st d l).2.1 (bT hb st d l).1.1.2.1:Int)=yt l (st.2.2.1-1)∧(uD (bT hb st d l).2.1 (bT hb st d l).1.1.2.1:Int)-uW (bT hb st d l).1.2.1≤20 ∧
  fT (bT hb st d l).2.1 (a_ aD st.1.1)=some (aR (fK l (st.2.2.1-1)))∧fT (bT hb st d l).2.1 (a_ aD (st.1.1+1))=some ByteArray.empty∧(bT hb st d l).1=(ez st.1.1,(gy st.1.1 l 0,(st.2.2.1,(0,(0,()))))) ∧
  fT (bT hb st d l).2.1 c_=some (bZ (ez st.1.1))):=by
 obtain ⟨n1,n2,n3,_⟩:=fk (n:=st.1.1) (ids:=st.1.2.1) hl;have hd:DR d:=h.disk;have hsum:uW st.2.1≤(uD d st.1.2.1:Int):=h.sum;have hm:(1:Int)≤st.1.1∧st.1.1≤(100000:Int):=⟨n1,n2⟩;have hm1:LE.le (α:=Int) 1 (st.1.1+1)∧LE.le (α:=Int) (st.1.1+1) 100000:=⟨by omega,by omega⟩;have hseg:∀ x:Int,x ∈ st.1.2.1→1≤x∧x≤100000:=fun x hx=>⟨(n3 x hx).1,by have:=(n3 x hx).2;omega⟩
 have no1:∀ x ∈ st.1.2.1,a_ aD st.1.1≠a_ aD x:=fun x hx=>ob hm (hseg x hx) (by have:=(n3 x hx).2;omega)
 have no2:∀ x ∈ st.1.2.1,a_ aD (st.1.1+1)≠a_ aD x:=fun x hx=>ob hm1 (hseg x hx) (by have:=(n3 x hx).2;omega)
 have no3:∀ x ∈ st.1.2.1,a_ bG st.1.1≠a_ aD x:=fun x hx=>li hm (hseg x hx)
 have no4:a_ aD (st.1.1+1)≠a_ aD st.1.1:=ob hm1 hm (by omega);have jump:∀ r:RD,DR r.1→(∀ x ∈ st.1.2.1,fT r.1 (a_ aD x)=fT d (a_ aD x))→IV (pV st,r):=fun r hr k=>⟨hr,h.ids,h.dir,h.non,by
  show uW st.2.1≤(uD r.1 st.1.2.1:Int);rw [Cm k];exact hsum⟩
 have dropK:∀ (r:RD),DR r.1→(∀ x ∈ st.1.2.1,fT r.1 (a_ aD x)=fT d (a_ aD x))→r.2≠0→IV (pV st,lY (km st.1.1) r)∧(lY (km st.1.1) r).2≠0:=fun r hr k hz=>by
  unfold lY;cases r.2==2 with
  | false=>exact ⟨jump r hr k,hz⟩
  | true =>
   refine ⟨jump _ (jy _ _ hr) fun x hx=>(nP _ _ fun s hs=>?_).trans (k x hx),?_⟩
   · unfold km at hs;rcases List.mem_cons.1 hs with e | e
     · rw [e];exact gk (hseg x hx)
     rcases List.mem_cons.1 e with e | e
     · rw [e];exact no1 x hx
     rcases List.mem_cons.1 e with e | e
     · rw [e];exact no2 x hx
     · rw [List.mem_singleton.1 e];exact no3 x hx
   · show (bif (bX (km st.1.1) r.1).2==0 then (2:Int) else fj (bX (km st.1.1) r.1).2)≠0;cases q:(bX (km st.1.1) r.1).2==0 with
     | true =>
      show (2:Int)≠0
      decide
     | false =>intro e;have:=fV (bX (km st.1.1) r.1).2;rw [q] at this;simp only [aH] at e;rw [e] at this;cases this
 have tlnz:∀ r:RD,(r.2 != 0)=true→(tl r).2≠0:=fun r q e=>by have:=kq r;rw [e,q] at this;cases this
 have a0:DR (cR st.1.1 l (st.2.2.1-1) d).1:=by
  refine iI ?_ fun x hx=>m9 hx _
  have:∀ (rs:ij) (r:RD),DR r.1→DR (Aj (a_ aD st.1.1) rs r).1:=by
   intro rs
   induction rs with
   | nil=>exact fun r hr=>hr
   | cons x rs ih=>exact fun r hr=>ih _ (iI hr fun y hy=>oP hy _ _)
  exact this _ _ (j8 _ _ hd)
 have a1:∀ x ∈ st.1.2.1,fT (cR st.1.1 l (st.2.2.1-1) d).1 (a_ aD x)=fT d (a_ aD x):=fun x hx=>zN (no1 x hx)
 have a2:(cR st.1.1 l (st.2.2.1-1) d).2=0→fT (cR st.1.1 l (st.2.2.1-1) d).1 (a_ aD st.1.1)=some (aR (fK l (st.2.2.1-1))):=fun z=>by
  unfold cR at z ⊢;obtain ⟨z1,z2,_⟩:=iw z;rw [z2];rw [jv];have z0:(ak (a_ aD st.1.1) d).2=0:=by
   by_cases w:(ak (a_ aD st.1.1) d).2=0
   · exact w
   · rw [EQ _ _ _ w] at z1;exact absurd z1 w
  have:=Iy (a_ aD st.1.1) (fK l (st.2.2.1-1)) (ak (a_ aD st.1.1) d) ByteArray.empty (lJ z0) z1;rw [this,show (ByteArray.empty:ByteArray)=dB [] from rfl,ut]
 unfold bT;generalize cR st.1.1 l (st.2.2.1-1) d=a at a0 a1 a2 ⊢;cases ca:a.2 != 0 with
 | true =>obtain ⟨g1,g2⟩:=dropK (tl a) a0 a1 (tlnz a ca);exact ⟨g1,fun e=>absurd e g2⟩
 | false =>
  have b0:=j8 (a_ aD (st.1.1+1)) a.1 a0;have b1:∀ x ∈ st.1.2.1,fT (ak (a_ aD (st.1.1+1)) a.1).1 (a_ aD x)=fT d (a_ aD x):=fun x hx=>(lD (no2 x hx)).trans (a1 x hx)
  have b2:=(lD (d:=a.1) no4).trans (a2 (dY ca));have b3:=lJ (s:=a_ aD (st.1.1+1)) (d:=a.1);simp only [aH];generalize ak (a_ aD (st.1.1+1)) a.1=b at b0 b1 b2 b3 ⊢;cases cb:b.2 != 0 with
  | true =>obtain ⟨g1,g2⟩:=dropK (tl b) b0 b1 (tlnz b cb);exact ⟨g1,fun e=>absurd e g2⟩
  | false =>
   have b3:=b3 (dY cb);have c0:DR (fy hb st.1.1 b.1).1:=by
    unfold fy;cases (jw (a_ bG st.1.1) (hb (aW b.1 (a_ aD st.1.1)).1) b.1).2==2 with
    | true=>exact jy _ _ (jj _ _ _ b0)
    | false=>exact jj _ _ _ b0
   have c1:∀ x ∈ st.1.2.1,fT (fy hb st.1.1 b.1).1 (a_ aD x)=fT d (a_ aD x):=fun x hx=>(qj (no3 x hx)).trans (b1 x hx)
   have c2:=(qj (hb:=hb) (d:=b.1) (li hm hm)).trans b2;have c3:=(qj (hb:=hb) (d:=b.1) (li hm hm1)).trans b3;simp only [aH];generalize fy hb st.1.1 b.1=e at c0 c1 c2 c3 ⊢;cases ce:e.2 != 0 with
   | true=>exact ⟨jump (tl e) c0 c1,fun z=>absurd z (tlnz e ce)⟩
   | false =>
    have d0:=kR (ez st.1.1) _ c0;have d1:∀ x ∈ st.1.2.1,fT (an (ez st.1.1) e.1).1 (a_ aD x)=fT d (a_ aD x):=fun x hx=>(fB (gk (hseg x hx)) (ia (hseg x hx))).trans (c1 x hx)
    have d2:=(fB (d:=e.1) (v:=ez st.1.1) (gk hm) (ia hm)).trans c2;have d3:=(fB (d:=e.1) (v:=ez st.1.1) (gk hm1) (ia hm1)).trans c3;have d4:=qb (v:=ez st.1.1) c0;simp only [aH];generalize an (ez st.1.1) e.1=f at d0 d1 d2 d3 d4 ⊢;cases cf:f.2 != 0 with
    | true =>obtain ⟨g1,g2⟩:=dropK (tl f) d0 d1 (tlnz f cf);exact ⟨g1,fun z=>absurd z g2⟩
    | false =>
     simp only [aH];have o0:∀ (ids:List Int) (x:Ty.d aA),DR x→DR (mM ids x).1:=by
      intro ids
      induction ids with
      | nil=>exact fun x hx=>hx
      | cons y ids ih=>exact fun x hx=>iI (jy _ _ hx) fun z hz=>ih z hz
     have o2:=(ud st.1.2.1 f.1 fun x hx=>⟨fun q=>no1 x hx q.symm,li (hseg x hx) hm⟩).trans d2;have o3:=(ud st.1.2.1 f.1 fun x hx=>⟨fun q=>no2 x hx q.symm,li (hseg x hx) hm1⟩).trans d3;have o4:=(ud st.1.2.1 f.1 fun x hx=>⟨fun q=>ia (hseg x hx) q.symm,CX (hseg x hx)⟩).trans (d4 (dY cf));have o1:=o0 st.1.2.1 f.1 d0;generalize mM st.1.2.1 f.1=o at o1 o2 o3 o4 ⊢;obtain ⟨l1,l2⟩:=C4 st.1.1 l 0;have hk:=O9 (st.2.2.1-1) (l.map bz);have hk0:=(kj (gB 5 (st.2.2.1-1) (l.map bz))).1;have tot:(uD o.1 [st.1.1,st.1.1+1]:Int)=uW (gy st.1.1 l 0)+aS (gB 5 (st.2.2.1-1) (l.map bz)):=by
      unfold uD SS;rw [List.map_cons,List.map_singleton,List.sum_cons,List.sum_singleton,o2,o3,l1];simp only [Option.getD_some];unfold fK;rw [nH,ByteArray.size_append];have e1:(aR [gB 5 (st.2.2.1-1) (l.map bz)]).size=(aM (aE (gB 5 (st.2.2.1-1) (l.map bz)))).size:=by rw [y5];rfl
      have e2:(ByteArray.empty:ByteArray).size=0:=rfl;rw [e1,e2];unfold aS;omega
     have tot0:(uD o.1 [st.1.1,st.1.1+1]:Int)=yt l (st.2.2.1-1):=by unfold uD SS yt;rw [List.map_cons,List.map_singleton,List.sum_cons,List.sum_singleton,o2,o3];rfl
     refine ⟨⟨o1,(show 2≤60 by decide),?_,l2,?_⟩,fun _=>⟨tot0,?_,o2,o3,by trivial,o4⟩⟩
     · show (gy st.1.1 l 0).length≤_;rw [vc];exact hlen
     · show uW (gy st.1.1 l 0)≤(uD o.1 [st.1.1,st.1.1+1]:Int);omega
     · show (uD o.1 [st.1.1,st.1.1+1]:Int)-uW (gy st.1.1 l 0)≤20;omega
noncomputable def qZ (m:Int) (s:ByteArray):ByteArray:=eN (g8 m s).1
theorem R0 (nm:ByteArray):∀ (rs:ij) (r:RD),DR r.1→DR (Aj nm rs r).1
 | [],_,h=>h
 | x::rs,r,h=>R0 nm rs _ (iI h fun y hy=>oP hy _ _)
theorem sD (m:Int) (l:fL) (mark:Int) {d:Ty.d aA} (hd:DR d):DR (cR m l mark d).1 :=
 iI (R0 _ _ _ (j8 _ _ hd)) fun x hx=>m9 hx _
theorem Mf {m:Int} (h0:1≤m) (h1:m+2≤100000):dK (ez m)=true:=by
 have e:aU (m+2-1)=m+1:=by rw [aG (n:=m+2-1) (by omega) (by omega)];omega
 unfold dK ez;simp only [];rw [aX (show (1:Int)≤m+2∧m+2≤100000 from ⟨by omega,h1⟩),e];simp only [pB,qO,kM,List.length_nil];rw [aX (show (1:Int)≤m∧m≤m+1 from ⟨h0,by omega⟩),aX (show (1:Int)≤m+1∧m+1≤m+1 from ⟨by omega,by omega⟩),aX (show m<m+1 by omega)];rfl
noncomputable def bI (st:Ty.d aC) (d:Ty.d aA):Ty.d aC × RD :=
 bif !bo st d then (st,(d,4)) else bif decide (st.1.1+2 > 100000) then (st,(d,5)) else
 bif (bH st.2.1 d).2 != 0 then (st,(d,(bH st.2.1 d).2)) else bT (qZ st.1.1) st d (bH st.2.1 d).1
theorem BS {st:Ty.d aC} {d:Ty.d aA} (h:bo st d=true):LE.le (α:=Int) 1 st.2.2.1∧LE.le (α:=Int) st.2.2.1 1000001:=by unfold bo at h;simp only [gY,decide_eq_true_eq] at h;exact h.2.2.2.1
theorem xI {s t:ByteArray} {i n:Int} (h:(iE s i n).2=true):iE (s++t) i n=iE s i n:=by
 unfold iE at h ⊢;by_cases c:0≤i∧i≤s.size∧1≤n∧n≤s.size-i
 · have hz:(s++t).size=s.size+t.size:=ByteArray.size_append ..;have e:ByteArray.extract (s++t) i.toNat (i+n).toNat=ByteArray.extract s i.toNat (i+n).toNat:=by
    refine jt ?_;rw [ss,ss,gS,List.take_append_of_le_length (by rw [dD];omega)]
   rw [if_pos c,if_pos (show 0≤i∧i≤(s++t).size∧1≤n∧n≤(s++t).size-i from ⟨c.1,by omega,c.2.2.1,by omega⟩),e]
 · rw [if_neg c] at h;cases h
theorem zo {n:Int} {d d':Ty.d aA} {e:Ty.d aB} (hd:DR d) (hd':DR d') (hx:EX n d d') (h1:LE.le (α:=Int) 1 e.2.1) (h2:LT.lt (α:=Int) e.2.1 n) (h3:LE.le (α:=Int) e.2.1 100000) (h:(d6 d e).2=true):d6 d' e=d6 d e:=by
 unfold d6 at h ⊢;rw [gm hd] at h;rw [gm hd,gm hd'];cases c:fT d (a_ aD e.2.1) with
 | none =>rw [c] at h;have h:(iE ⟨#[]⟩ e.2.2.1 e.2.2.2.1).2=true:=h;rw [FY] at h;cases h
 | some t =>obtain ⟨u,hu⟩:=hx e.2.1 h1 h2 h3 t c;rw [c] at h;rw [hu];exact xI h
def EI (st:Ty.d aC):Prop:=∀ e ∈ st.2.1,LE.le (α:=Int) 1 e.2.1∧LT.lt (α:=Int) e.2.1 st.1.1
def FL (s:ByteArray):Prop:=∃ rs:ij,(∀ r ∈ rs,bN r=true)∧s=aR rs
theorem PF (s:ByteArray):∀ (d:Nat) (i:Int),0≤i→i≤s.size→(s.size:Int)-i<d→(fU s d i).2=(s.size:Int)→FL (ByteArray.extract s i.toNat s.size):=by
 intro d
 induction d with
 | zero=>intro i h0 h1 h2 _;omega
 | succ d ih =>
  intro i h0 h1 h2 h;have stop:i=(s.size:Int)→FL (ByteArray.extract s i.toNat s.size):=fun e=>by rw [e,Int.toNat_natCast,GY];exact ⟨[],fun r hr=>(by cases hr),rfl⟩
  rw [fU] at h;by_cases c1:(i_ (ByteArray.extract s i.toNat s.size)).2=0
  · rw [if_pos c1] at h;exact stop h
  · rw [if_neg c1] at h;cases c2:(gq (i_ (ByteArray.extract s i.toNat s.size)).1).2 with
    | false =>rw [if_pos c2] at h;exact stop h
    | true =>
     rw [if_neg (by rw [c2];decide)] at h;have hu:=oB (ByteArray.extract s i.toNat s.size);have hz:=tH s i.toNat;have ih:=ih (i+(i_ (ByteArray.extract s i.toNat s.size)).2) (by omega) (by omega) (by omega) h;rcases n7 (ByteArray.extract s i.toNat s.size) with ⟨t,r,ht,e1,e2⟩ | ⟨e2,_⟩
     · rw [e2] at ih c2;simp only [] at ih c2;have e3:ByteArray.extract s (i+((aM t).size:Int)).toNat s.size=r:=by
        apply jt;have hnb:=congrArg nb e1;rw [j7,gS] at hnb;rw [j7,show (i+((aM t).size:Int)).toNat=i.toNat+(aM t).size by omega,← List.drop_drop,hnb,List.drop_left' (dD _)]
       rw [e3] at ih;obtain ⟨rs,k1,k2⟩:=ih;obtain ⟨g1,g2⟩:=zV (s:=t) (r:=(gq t).1) (Prod.ext rfl c2);refine ⟨(gq t).1::rs,fun x hx=>?_,?_⟩
       · rcases List.mem_cons.1 hx with e | e
         · rw [e];exact g1
         · exact k1 x e
       · rw [e1,k2,aR,g2]
     · exact absurd (by rw [e2]) c1
theorem Lv (s:ByteArray):ByteArray.extract s 0 s.size=s:=jt (by rw [j7,List.drop_zero])
theorem K7 {s:ByteArray} (h:(b9 s).2=(s.size:Int)):FL s:=by have:=PF s (s.size+1) 0 (by omega) (by omega) (by omega) h;rw [show (0:Int).toNat=0 from rfl,Lv] at this;exact this
theorem CG {s:ByteArray} (h:FL s):(b9 s).2=(s.size:Int):=by obtain ⟨rs,h1,h2⟩:=h;rw [h2];exact (qm h1).2
theorem zA (r:Ty.d bQ):aR [r]=aM (aE r):=Lz _
theorem OZ {s:ByteArray} {r:Ty.d bQ} (h:FL s) (hr:bN r=true):FL (s++aM (aE r)):=by
 obtain ⟨rs,h1,h2⟩:=h;refine ⟨rs++[r],fun x hx=>?_,?_⟩
 · rcases List.mem_append.1 hx with e | e
   · exact h1 x e
   · rw [List.mem_singleton.1 e];exact hr
 · rw [nH,zA,h2]
theorem Ln:FL ⟨#[]⟩:=⟨[],fun r hr=>(by cases hr),rfl⟩
theorem tL (r:Ty.d bQ):5≤aS r∧aS r≤210:=by
 have h1:=lO r;have h2:=lE (s:=aE r) (by omega);have h3:(aM (aE r)).size≤74:=by unfold aM;rw [if_neg (by omega)];have h4:=gu (sw (jG (aE r)));have h5:=bL ((aE r).size:Int);rw [ByteArray.size_append];unfold jG at h4 ⊢;rw [ByteArray.size_append];omega
 unfold aS;omega
theorem tY (t:ByteArray) {r:Ty.d bQ} (h:bN r=true):iE (t++aM (aE r)) (t.size:Int) (aS r)=(r,true):=by
 have hz:=lO r;have hp:=tL r;have hl:((aM (aE r)).size:Int)=aS r:=rfl;have hs:(t++aM (aE r)).size=t.size+(aM (aE r)).size:=ByteArray.size_append ..;have e:ByteArray.extract (t++aM (aE r)) (t.size:Int).toNat ((t.size:Int)+aS r).toNat=aM (aE r):=by rw [Int.toNat_natCast,show ((t.size:Int)+aS r).toNat=(t++aM (aE r)).size by omega];exact gO _ _
 have e2:i_ (aM (aE r))=(aE r,((aM (aE r)).size:Int)):=by have:=oA ⟨#[]⟩ (t:=aE r) (by omega);rw [Lz] at this;exact this
 unfold iE;rw [if_pos ⟨by omega,by omega,by omega,by omega⟩,e,e2];simp only [];rw [if_pos hl,wY h]
def Qt (x:Ty.d aB):Bool:=fg x.1&&(decide ((1:Int)≤x.2.1∧x.2.1≤100000)&&(!decide (x.2.2.1<(0:Int))&&(decide ((1:Int)≤x.2.2.2.1∧x.2.2.2.1≤210)&&decide ((1:Int)≤x.2.2.2.2.1∧x.2.2.2.2.1≤1000000))))
theorem MQ (p:Option (Ty.d aB)) (x:Ty.d aB):uR p x=true↔(Qt x=true∧∀ q,p=some q→nS q.1 x.1=true):=by
 unfold uR Qt;simp only [gY];cases p with
 | none=>exact ⟨fun h=>⟨⟨h.1,h.2.1,h.2.2.1,h.2.2.2.1,h.2.2.2.2.1⟩,fun q hq=>(by cases hq)⟩,fun h=>⟨h.1.1,h.1.2.1,h.1.2.2.1,h.1.2.2.2.1,h.1.2.2.2.2,rfl⟩⟩
 | some y=>exact ⟨fun h=>⟨⟨h.1,h.2.1,h.2.2.1,h.2.2.2.1,h.2.2.2.2.1⟩,fun q hq=>(by cases hq;exact h.2.2.2.2.2)⟩,fun h=>⟨h.1.1,h.1.2.1,h.1.2.2.1,h.1.2.2.2.1,h.1.2.2.2.2,h.2 y rfl⟩⟩
def hZ (l:aO):List ByteArray:=l.map (·.1)
theorem KX:∀ (l:aO) (p:Option (Ty.d aB)),pB uR p l=true↔((∀ f ∈ l,Qt f=true)∧cB (hZ l)∧(∀ q,p=some q→∀ f ∈ l,nS q.1 f.1=true))
 | [],p=>by
  constructor
  · intro _;exact ⟨fun f h=>(by cases h),List.Pairwise.nil,fun q _ f h=>(by cases h)⟩
  · intro _;rfl
 | g::l,p=>by
  have ih:=KX l (some g);unfold pB;rw [gY,ih,MQ];constructor
  · rintro ⟨⟨h1,h2⟩,h3,h4,h5⟩
    refine ⟨fun f hf=>?_,?_,fun q hq f hf=>?_⟩
    · rcases List.mem_cons.1 hf with e | e
      · rw [e];exact h1
      · exact h3 f e
    · unfold cB hZ;rw [List.map_cons,List.pairwise_cons];refine ⟨fun x hx=>?_,h4⟩;obtain ⟨f,hf,rfl⟩:=List.mem_map.1 hx;exact h5 g rfl f hf
    · rcases List.mem_cons.1 hf with e | e
      · rw [e];exact h2 q hq
      · exact o9 (h2 q hq) (h5 g rfl f e)
  · rintro ⟨h1,h2,h3⟩
    unfold cB hZ at h2;rw [List.map_cons,List.pairwise_cons] at h2;refine ⟨⟨h1 g (iF ..),fun q hq=>h3 q hq g (iF ..)⟩,fun f hf=>h1 f (jF _ hf),h2.2,fun q hq f hf=>?_⟩;cases hq;exact h2.1 f.1 (List.mem_map.2 ⟨f,hf,rfl⟩)
theorem wE {l:aO}:rp l=true↔(l.length≤20∧(∀ f ∈ l,Qt f=true)∧cB (hZ l)):=by unfold rp;rw [gY,decide_eq_true_eq,KX];exact ⟨fun h=>⟨by omega,h.2.1,h.2.2.1⟩,fun h=>⟨by omega,h.2.1,h.2.2,fun q hq=>(by cases hq)⟩⟩
theorem Cg (key:ByteArray) {l:aO} (h:cB (hZ l)):cB (hZ (lH l key)):=List.Pairwise.sublist (List.Sublist.map _ List.filter_sublist) h
theorem C6 {α:Type} (key:α→ByteArray) {e:α}:∀ {l:List α},cB (l.map key)→(∀ g ∈ l,key g≠key e)→cB ((l.takeWhile (fun x=>nS (key x) (key e)||seq (key x) (key e))++e::l.dropWhile (fun x=>nS (key x) (key e)||seq (key x) (key e))).map key)
 | [],_,_=>List.pairwise_singleton ..
 | g::l,h,hn=>by
  have h':=h;unfold cB at h';rw [List.map_cons,List.pairwise_cons] at h';have ih:=C6 key (e:=e) (l:=l) h'.2 fun x hx=>hn x (jF _ hx)
  rw [List.takeWhile_cons,List.dropWhile_cons];have hne:=hn g iF;cases c:(nS (key g) (key e)||seq (key g) (key e)) with
  | true =>
   rw [if_pos rfl,if_pos rfl];unfold cB at ih ⊢;rw [List.cons_append,List.map_cons,List.pairwise_cons];refine ⟨fun x hx=>?_,ih⟩;have hge:nS (key g) (key e)=true:=by rw [jr hne,Bool.or_false] at c;exact c
   obtain ⟨y,hy,rfl⟩:=List.mem_map.1 hx;rcases List.mem_append.1 hy with w | w
   · exact h'.1 (key y) (List.mem_map.2 ⟨y,List.takeWhile_subset _ w,rfl⟩)
   · rcases List.mem_cons.1 w with w | w
     · rw [w];exact hge
     · exact h'.1 (key y) (List.mem_map.2 ⟨y,List.dropWhile_subset _ w,rfl⟩)
  | false =>
   rw [if_neg (by decide),if_neg (by decide),List.nil_append];rw [jr hne,Bool.or_false] at c;have hlt:nS (key e) (key g)=true:=by have:=tu (key e) (key g);rw [jr (fun q=>hne q.symm),c] at this;simpa using this
   unfold cB;rw [List.map_cons,List.pairwise_cons];refine ⟨fun x hx=>?_,h⟩;obtain ⟨y,hy,rfl⟩:=List.mem_map.1 hx;rcases List.mem_cons.1 hy with w | w
   · rw [w];exact hlt
   · exact o9 hlt (h'.1 (key y) (List.mem_map.2 ⟨y,w,rfl⟩))
theorem N5 {e:Ty.d aB} {l:aO} (h:cB (hZ l)) (hn:∀ g ∈ l,g.1≠e.1):cB (hZ (uG l e)):=C6 (fun x:Ty.d aB=>x.1) h hn
theorem Pr {l:aO} {key:ByteArray}:∀ g ∈ lH l key,g.1≠key:=fun g hg q=>by unfold lH at hg;rw [List.mem_filter] at hg;have:=hg.2;rw [q,bB] at this;cases this
theorem MH {d:aO} (p:Ty.d aI) (h:cB (hZ d)):cB (hZ (f8 d p)):=by
 unfold f8;cases p.2.2.2.1.1==2 with
 | true=>exact Cg _ h
 | false=>exact N5 (Cg _ h) Pr
theorem rU:∀ (ps:aT) {d:aO},cB (hZ d)→cB (hZ (bq d ps))
 | [],_,h=>h
 | p::ps,d,h=>rU ps (d:=f8 d p) (MH p h)
structure BT (st:Ty.d aC) (d:Ty.d aA):Prop where
 live:dK st.1=true
 disk:DR d
 full:∀ x ∈ st.1.2.1,∃ t,fT d (a_ aD x)=some t∧FL t
 tail:∀ t,fT d (au st)=some t→st.2.2.2.1=(t.size:Int)
theorem oD {d:Ty.d aA} (hd:DR d) (s:ByteArray):(aW d s).2=(fT d s).isSome:=by rw [jc hd];unfold fT;cases b8 d.1 s <;> rfl
theorem vq {d:Ty.d aA} (hd:DR d) {tail:Int}:∀ {l:List Int},lx d tail l=true↔((∀ x ∈ l,∃ t,fT d (a_ aD x)=some t∧FL t)∧(l≠[]→∀ t,fT d (a_ aD (aQ l))=some t→tail=(t.size:Int)))
 | []=>⟨fun _=>⟨fun x hx=>(by cases hx),fun h=>absurd rfl h⟩,fun _=>rfl⟩
 | x::l=>by
  have ih:=vq hd (tail:=tail) (l:=l);have hl:l≠[]→aQ (x::l)=aQ l:=fun h=>by
   unfold aQ;cases l with
   | nil=>exact absurd rfl h
   | cons y r=>simp [List.getD]
  unfold lx DY;simp only [gY];rw [ih,oD hd,gm hd];constructor
  · rintro ⟨⟨h1,h2,h3⟩,h4,h5⟩
    obtain ⟨t,ht⟩:=Option.isSome_iff_exists.1 h1;rw [ht] at h2 h3;simp only [Option.getD_some,decide_eq_true_eq] at h2;refine ⟨fun y hy=>?_,fun _ u hu=>?_⟩
    · rcases List.mem_cons.1 hy with e | e
      · rw [e];exact ⟨t,ht,K7 h2⟩
      · exact h4 y e
    · by_cases c:l=[]
      · subst c;have e:aQ [x]=x:=rfl;rw [e,ht] at hu;have hu:=Option.some.inj hu;rw [← hu];simp only [List.isEmpty_nil,g9,Bool.false_or,Option.getD_some] at h3;exact BU h3
      · rw [hl c] at hu;exact h5 c u hu
  · rintro ⟨h1,h2⟩
    obtain ⟨t,ht,hf⟩:=h1 x iF;rw [ht];simp only [Option.isSome_some,Option.getD_some,decide_eq_true_eq];refine ⟨⟨by trivial,CG hf,?_⟩,fun y hy=>h1 y (jF _ hy),fun c u hu=>h2 (by simp) u (by rw [hl c];exact hu)⟩;cases l with
    | nil =>have:=h2 (by simp) t (by rw [show aQ [x]=x from rfl];exact ht);rw [this];simp
    | cons y r=>rfl
theorem sv {st:Ty.d aC} {d:Ty.d aA} (h:bo st d=true):BT st d:=by obtain ⟨g1,g2,g3⟩:=bn h;unfold bo at h;simp only [gY] at h;obtain ⟨_,_,k1,_,_⟩:=bD (nx:=st.1.1) (ids:=st.1.2.1) g1.live;obtain ⟨q1,q2⟩:=(vq g1.disk).1 h.2.2.2.2.1;exact ⟨g1.live,g1.disk,q1,q2 (by intro e;rw [e] at k1;simp at k1)⟩
def PK (d:Ty.d aA) (p:Ty.d aI):Prop:=d6 d (dI p)=(fb p,true)
def PE (p:Ty.d aI):Prop:=(LE.le (α:=Int) 1 p.1∧LE.le (α:=Int) p.1 100000)∧LE.le (α:=Int) 0 p.2.1∧LE.le (α:=Int) 1 p.2.2.1∧LE.le (α:=Int) p.2.2.1 210
theorem Mq {st:Ty.d aC} {d:Ty.d aA} (h:BT st d) {r:Ty.d bQ} (hr:bN r=true) (z:(gh st d r).1.2.2=0):BT (gh st d r).1.1 (gh st d r).1.2.1∧PK (gh st d r).1.2.1 (gh st d r).2∧PE (gh st d r).2:=by
 obtain ⟨b1,b2⟩:=Ka h.live;obtain ⟨n1,n2,n3,n4⟩:=fk (n:=st.1.1) (ids:=st.1.2.1) h.live;obtain ⟨_,_,g1,_,_⟩:=bD (nx:=st.1.1) (ids:=st.1.2.1) h.live;have hlast:aQ st.1.2.1 ∈ st.1.2.1:=by have hs:=jA g1;rw [hs];exact List.mem_append_right _ (List.mem_singleton.2 (by rw [← hs]))
 have hz:=tL r;have hl:((aM (aE r)).size:Int)=aS r:=rfl;obtain ⟨t,ht,hf⟩:=h.full _ hlast;have ht:fT d (au st)=some t:=ht;have htl:=h.tail t ht;have ha:=oP h.disk (au st) (aM (aE r));have ko:∀ s,au st≠s→fT (h_ d (au st) (aM (aE r))).1 s=fT d s:=fun s q=>v8 q
 have kl:=qt (d:=d) (s:=au st) (x:=aM (aE r));unfold gh at z ⊢;generalize h_ d (au st) (aM (aE r))=a at ha ko kl z ⊢;cases c:a.2 != 0 with
 | true =>rw [c] at z;have z:(tl a).2=0:=z;have q:=kq a;rw [z,c] at q;cases q
 | false =>
  have c0:(a.2==0)=true:=beq_iff_eq.2 (dY c);rw [c0,ae,ht] at kl;have kl:fT a.1 (au st)=some (t++aM (aE r)):=kl;simp only [aH];refine ⟨⟨h.live,ha,fun x hx=>?_,fun u hu=>?_⟩,?_,?_⟩
  · by_cases q:au st=a_ aD x
    · rw [← q];exact ⟨_,kl,OZ hf hr⟩
    · show ∃ t,fT a.1 (a_ aD x)=some t∧FL t;rw [ko _ q];exact h.full x hx
  · have hu:fT a.1 (au st)=some u:=hu;rw [kl] at hu;rw [← Option.some.inj hu,ByteArray.size_append];show @Eq Int (st.2.2.2.1+aS r) ((t.size+(aM (aE r)).size:Nat):Int);rw [htl];omega
  · show iE (aW a.1 (au st)).1 st.2.2.2.1 (aS r)=(r,true);rw [gm ha,kl,htl];exact tY t hr
  · refine ⟨⟨b1,by show LE.le (α:=Int) (aQ st.1.2.1) 100000;omega⟩,?_,?_,?_⟩
    · show LE.le (α:=Int) 0 st.2.2.2.1;rw [htl];omega
    · show LE.le (α:=Int) 1 (aS r);omega
    · show LE.le (α:=Int) (aS r) 210;omega
theorem vF (l:List Int) (n:Int):aQ (l++[n])=n:=by unfold aQ;simp [List.getD]
theorem I0 {st:Ty.d aC} {d:Ty.d aA} (h:BT st d) (z:(gV st d).2.2=0):BT (gV st d).1 (gV st d).2.1:=by
 obtain ⟨n1,n2,n3,_⟩:=fk (n:=st.1.1) (ids:=st.1.2.1) h.live;have hseg:∀ x:Int,x ∈ st.1.2.1→1≤x∧x≤100000:=fun x hx=>⟨(n3 x hx).1,by have:=(n3 x hx).2;omega⟩
 have hnew:∀ x ∈ st.1.2.1,a_ aD st.1.1≠a_ aD x:=fun x hx=>ob ⟨n1,n2⟩ (hseg x hx) (by have:=(n3 x hx).2;omega)
 have k2:∀ x ∈ st.1.2.1,fT (ak (a_ aD st.1.1) (cQ d (au st)).1).1 (a_ aD x)=fT d (a_ aD x):=fun x hx=>(lD (hnew x hx)).trans jv
 have k3:∀ x ∈ st.1.2.1,fT (an (jq st) (ak (a_ aD st.1.1) (cQ d (au st)).1).1).1 (a_ aD x)=fT d (a_ aD x):=fun x hx=>(fB (gk (hseg x hx)) (ia (hseg x hx))).trans (k2 x hx)
 have o2:=lJ (s:=a_ aD st.1.1) (d:=(cQ d (au st)).1);have o3:fT (an (jq st) (ak (a_ aD st.1.1) (cQ d (au st)).1).1).1 (a_ aD st.1.1)=fT (ak (a_ aD st.1.1) (cQ d (au st)).1).1 (a_ aD st.1.1):=fB (gk ⟨n1,n2⟩) (ia ⟨n1,n2⟩);have h1:=m9 h.disk (au st);have h2:=j8 (a_ aD st.1.1) _ h1;have h3:=kR (jq st) _ h2;unfold gV at z ⊢;by_cases c1:(st.1.2.1.length:Int)≥60
 · rw [aX c1] at z;exact absurd z (by show (5:Int)≠0;decide)
 by_cases c2:st.1.1≥(100000:Int)
 · rw [aZ c1,aX c2] at z;exact absurd z (by show (5:Int)≠0;decide)
 have c1':st.1.2.1.length<60:=by omega
 have c2':LT.lt (α:=Int) st.1.1 100000:=Int.not_le.1 c2;have hg:dK (uu st).1=true:=D5 h.live c2' c1';rw [aZ c1,aZ c2] at z ⊢;simp only [aH] at z ⊢;generalize cQ d (au st)=r1 at h1 h2 h3 k2 k3 o2 o3 z ⊢;generalize ak (a_ aD st.1.1) r1.1=r2 at h2 h3 k2 k3 o2 o3 z ⊢;generalize an (jq st) r2.1=r3 at h3 k3 o3 z ⊢;have tlz:∀ r:RD,(r.2 != 0)=true→(tl r).2≠0:=fun r q e=>by have:=kq r;rw [e,q] at this;cases this
 cases e1:r1.2 != 0 with
 | true=>rw [e1] at z;exact absurd z (tlz r1 e1)
 | false =>
  rw [e1] at z;simp only [aH] at z ⊢;cases e2:r2.2 != 0 with
  | true=>rw [e2] at z;exact absurd z (tlz r2 e2)
  | false =>
   rw [e2] at z;simp only [aH] at z ⊢;have o2:=o2 (dY e2);cases e3:r3.2 != 0 with
   | true =>
    rw [e3] at z;simp only [ae] at z;refine absurd z ?_;unfold oG;cases q:(tl r3).2==2 with
    | false=>exact tlz r3 e3
    | true =>
     show (bif (bX [gT,a_ aD st.1.1] (tl r3).1).2==0 then (2:Int) else fj (bX [gT,a_ aD st.1.1] (tl r3).1).2)≠0;cases w:(bX [gT,a_ aD st.1.1] (tl r3).1).2==0 with
     | true=>show (2:Int)≠0;decide
     | false =>intro e;have:=fV (bX [gT,a_ aD st.1.1] (tl r3).1).2;rw [w] at this;simp only [aH] at e;rw [e] at this;cases this
   | false =>
    simp only [aH];refine ⟨hg,h3,fun x hx=>?_,fun u hu=>?_⟩
    · have hx:x ∈ st.1.2.1++[st.1.1]:=hx;rcases List.mem_append.1 hx with w | w
      · show ∃ t,fT r3.1 (a_ aD x)=some t∧FL t;rw [k3 x w];exact h.full x w
      · rw [List.mem_singleton.1 w];exact ⟨_,o3.trans o2,Ln⟩
    · have hu:fT r3.1 (a_ aD (aQ (st.1.2.1++[st.1.1])))=some u:=hu;rw [vF,o3,o2] at hu;rw [← Option.some.inj hu];rfl
theorem Im {st:Ty.d aC} {d:Ty.d aA} (h:BT st d) {r:Ty.d bQ} (hr:bN r=true) (z:(da st d r).1.2.2=0):BT (da st d r).1.1 (da st d r).1.2.1∧PK (da st d r).1.2.1 (da st d r).2∧PE (da st d r).2:=by
 have hq:=I0 h;unfold da at z ⊢;cases c:decide (st.2.2.2.1 > 0)&&decide (st.2.2.2.1+aS r > 200) with
 | false =>rw [c] at z;exact Mq h hr z
 | true =>
  rw [c] at z;simp only [ae] at z ⊢;generalize gV st d=q at hq z ⊢;cases c2:q.2.2 != 0 with
  | true =>rw [c2] at z;have z:q.2.2=0:=z;rw [z] at c2;cases c2
  | false =>rw [c2] at z;exact Mq (hq (dY c2)) hr z
theorem yx:∀ (l:ij) (st:Ty.d aC) (d:Ty.d aA) (ps:aT),BT st d→(∀ r ∈ l,bN r=true)→(∀ p ∈ ps,PK d p∧PE p∧LT.lt (α:=Int) p.1 st.1.1)→(bR l st d ps).1.2.2=0 →
 BT (bR l st d ps).1.1 (bR l st d ps).1.2.1∧∀ p ∈ (bR l st d ps).2,PK (bR l st d ps).1.2.1 p∧PE p∧LT.lt (α:=Int) p.1 (bR l st d ps).1.1.1.1
 | [],st,d,ps,h,_,hp,_=>⟨h,hp⟩
 | r::l,st,d,ps,h,hr,hp,z=>by
  have hb:=Im h (hr r iF);obtain ⟨s1,s2,s3,s4⟩:=Jt (d:=d) h.live h.disk r;unfold bR at z ⊢;generalize da st d r=q at hb s1 s2 s3 s4 z ⊢;cases c:q.1.2.2 != 0 with
  | true =>rw [c] at z;have z:q.1.2.2=0:=z;rw [z] at c;cases c
  | false =>
   have e0:=dY c;obtain ⟨k1,k2,k3⟩:=hb e0;rw [c] at z;simp only [aH] at z ⊢;refine yx l q.1.1 q.1.2.1 (ps++[q.2]) k1 (fun x hx=>hr x (jF _ hx)) (fun p hq=>?_) z;rcases List.mem_append.1 hq with w | w
   · obtain ⟨p1,p2,p3⟩:=hp p w;refine ⟨?_,p2,Int.lt_of_lt_of_le p3 s2⟩;have p1':d6 d (dI p)=(fb p,true):=p1;show d6 q.1.2.1 (dI p)=(fb p,true);rw [zo h.disk k1.disk s1 p2.1.1 p3 p2.1.2 (by rw [p1']),p1']
   · rw [List.mem_singleton.1 w];exact ⟨k2,k3,(s4 e0).2⟩
theorem nu {l:dX} {b:Int} (h:bw l=true) (h0:1≤b) (h1:b≤1000000):∀ r ∈ bf l b,bN r=true:=by
 intro r hr;unfold bf at hr;rcases List.mem_append.1 hr with w | w
 · obtain ⟨x,hx,e⟩:=List.mem_map.1 w;have hp:=vC h hx;unfold k_ fg at hp;simp only [gY] at hp;rw [← e];unfold g7 bN;cases c:x.2.1 with
   | true =>simp only [ae];rw [show ((2:Int)==1||(2:Int)==4)=false from rfl,show ((2:Int)==2)=true from rfl];simp only [aH,ae];rw [hp.1,aX (show 1≤b∧b≤1000000 from ⟨h0,h1⟩),show seq ByteArray.empty ⟨#[]⟩=true from bB _];rfl
   | false =>simp only [aH];rw [show ((1:Int)==1||(1:Int)==4)=true from rfl];simp only [ae];rw [hp.1,hp.2.1,aX (show 1≤b∧b≤1000000 from ⟨h0,h1⟩)];rfl
 · have hl:=mA h;have hs:=Jx (l.map (g7 b));rw [List.mem_singleton.1 w];unfold gB bN;rw [show ((3:Int)==1||(3:Int)==4)=false from rfl,show ((3:Int)==2)=false from rfl,show ((3:Int)==3)=true from rfl];simp only [aH,ae];rw [aX (show (0:Int)≤((l.map (g7 b)).length:Int)∧((l.map (g7 b)).length:Int)≤8 by rw [List.length_map];omega),aX (show 0≤Gi (l.map (g7 b))∧Gi (l.map (g7 b))≤4294967295 from hs),aX (show 1≤b∧b≤1000000 from ⟨h0,h1⟩),show seq ByteArray.empty ⟨#[]⟩=true from bB _];rfl
def Tx (key x:ByteArray):Bool:=nS x key||seq x key
def PW (K:List ByteArray) (key:ByteArray):List ByteArray:=K.takeWhile (Tx key)++key::K.dropWhile (Tx key)
theorem oC (l:aO) (key:ByteArray):hZ (lH l key)=(hZ l).filter fun x=>!(seq x key):=by unfold hZ lH;rw [List.filter_map];rfl
theorem A5 (l:aO) (e:Ty.d aB):hZ (uG l e)=PW (hZ l) e.1:=by unfold hZ uG PW;rw [List.map_append,List.map_cons,List.takeWhile_map,List.dropWhile_map];rfl
theorem CJ:∀ (l:dX) (d d' es fs:aO),hZ d=hZ d'→hZ es=hZ fs→hZ (o6 d l es)=hZ (o6 d' l fs)
 | [],d,d',es,fs,h,_=>by rw [oi,oi];exact h
 | x::l,d,d',[],[],h,_=>by unfold o6;exact h
 | x::l,d,d',e::es,[],_,g=>by cases g
 | x::l,d,d',[],f::fs,_,g=>by cases g
 | x::l,d,d',e::es,f::fs,h,g=>by
  unfold hZ at g;rw [List.map_cons,List.map_cons] at g;injection g with g1 g2;unfold o6;refine CJ l _ _ es fs ?_ g2;cases x.2.1 with
  | true=>simp only [ae];rw [oC,oC,h]
  | false =>simp only [aH];unfold pb;rw [A5,A5,oC,oC,h,g1]
theorem TD {a:Int} (h:1≤a) (g:a≤1000000):1≤a+1∧a+1≤1000001:=by omega
theorem Ti (a:Int):¬ a≥a+1:=by omega
theorem TB {a b:Int} (h:¬ b≥a):¬ b≥a+1:=by omega
theorem yJ {st:Ty.d aC} {d:Ty.d aA} {l:dX} (hs:bo st d=true) (he:EI st) (hp:bw l=true) (hb:LE.le (α:=Int) st.2.2.1 1000000) (ha:jL st.2.1 l≤20) (z:(bS st d l).2.2=0):bo (bS st d l).1 (bS st d l).2.1=true ∧
 (∀ e ∈ (bS st d l).1.2.1,(e ∈ st.2.1∧d6 (bS st d l).2.1 e=d6 d e)∨∃ x ∈ l,x.2.1=false∧e.1=x.1∧d6 (bS st d l).2.1 e=(g7 st.2.2.1 x,true)) ∧
 hZ (bS st d l).1.2.1=hZ (o6 st.2.1 l (l.map xR)) ∧
 ∃ ps:aT,(bS st d l).1.2.1=bq st.2.1 ps∧ps.map fb=l.map (g7 st.2.2.1)∧(∀ p ∈ ps,d6 (bS st d l).2.1 (dI p)=(fb p,true))∧∀ e ∈ st.2.1,d6 (bS st d l).2.1 e=d6 d e:=by
 obtain ⟨g1,g2,g3⟩:=bn hs;have hBT:=sv hs;have hs':=hs;unfold bo at hs';simp only [gY] at hs';obtain ⟨_,_,hdir,_,_,hent⟩:=hs';obtain ⟨d1,d2,d3⟩:=wE.1 hdir;have hl8:=mA hp;have hbat:SR (iV st) (d,0) 100000:=⟨g1.live,g1.disk,g1.lo,g1.hi⟩;obtain ⟨f1,f2,f3⟩:=nC (bf l st.2.2.1) (iV st) d [] 100000 hbat (by decide);obtain ⟨s1,s2,s3,s4⟩:=Hb (bf l st.2.2.1) (iV st) d [] 100000 hbat (by decide) (fun x hx=>by cases hx);have hB:=yx (bf l st.2.2.1) (iV st) d [] ⟨hBT.live,hBT.disk,hBT.full,hBT.tail⟩ (nu hp g3 hb) (fun x hx=>by cases hx);unfold bS at z ⊢;generalize bR (bf l st.2.2.1) (iV st) d []=q at f1 f2 f3 s1 s2 s3 s4 hB z ⊢;have e2:q.1.1.2.1=st.2.1:=f2;have s1:EX st.1.1 d q.1.2.1:=s1;have s3:q.1.1.2.2.1=st.2.2.1+1:=s3;unfold rH at z ⊢;cases c:q.1.2.2 != 0 with
 | true =>rw [c] at z;have z:q.1.2.2=0:=z;rw [z] at c;cases c
 | false =>
  rw [c] at z;simp only [aH] at z ⊢;have c0:=dY c;have f3:=f3 c0;rw [List.map_nil,List.nil_append] at f3;obtain ⟨hB1,hB2⟩:=hB c0;have y0:=zD s1 (RB st.1.1 q.1.2.1 (au q.1.1));have y1:=m9 hB1.disk (au q.1.1);have y2:∀ s,fT (cQ q.1.2.1 (au q.1.1)).1 s=fT q.1.2.1 s:=fun s=>jv
  generalize cQ q.1.2.1 (au q.1.1)=y at y0 y1 y2 z ⊢;cases cy:y.2 != 0 with
  | true =>rw [cy] at z;have z:(tl y).2=0:=z;have q:=kq y;rw [z,cy] at q;cases q
  | false =>
   simp only [aH];have hrp:∀ p ∈ q.2.take l.length,fb p ∈ l.map (g7 st.2.2.1):=fun p hp=>by
    have h1:(q.2.take l.length).map fb=l.map (g7 st.2.2.1):=by rw [List.map_take,f3];unfold bf;rw [List.take_append_of_le_length (by rw [List.length_map];omega),List.take_of_length_le (by rw [List.length_map];omega)]
    rw [← h1];exact List.mem_map.2 ⟨p,hp,rfl⟩
   have hPK:∀ p ∈ q.2.take l.length,d6 y.1 (dI p)=(fb p,true):=fun p hp=>by obtain ⟨p1,_,_⟩:=hB2 p (List.mem_of_mem_take hp);have p1:d6 q.1.2.1 (dI p)=(fb p,true):=p1;rw [← p1];unfold d6;rw [gm y1,gm hB1.disk,y2]
   have newE:∀ e ∈ bq q.1.1.2.1 (q.2.take l.length),(∃ p ∈ q.2.take l.length,e=dI p∧(p.2.2.2.1.1==2)=false)∨e ∈ st.2.1:=fun e hq=>by rw [e2] at hq;exact o8 _ hq
   have hput:∀ p ∈ q.2.take l.length,fg (dI p).1=true∧(fb p).2.1=st.2.2.1∧((fb p).1=1∨(fb p).1=2):=fun p hq=>by
    obtain ⟨x,hx,e⟩:=List.mem_map.1 (hrp p hq);have hk:=vC hp hx;unfold k_ at hk;simp only [gY] at hk;refine ⟨?_,?_,?_⟩
    · show fg (fb p).2.2.1=true;rw [← e];unfold g7;cases x.2.1 <;> exact hk.1
    · rw [← e];unfold g7;cases x.2.1 <;> rfl
    · rw [← e];unfold g7;cases x.2.1
      · exact .inl rfl
      · exact .inr rfl
   have hkeys:hZ (bq st.2.1 (q.2.take l.length))=hZ (o6 st.2.1 l (l.map xR)):=by
    have k1:hZ (o6 st.2.1 l (q.2.map dI))=hZ (o6 st.2.1 l (l.map xR++[xR (ByteArray.empty,(false,(ByteArray.empty,())))])):=by
     refine CJ l _ _ _ _ rfl ?_;unfold hZ;rw [List.map_map,show q.2.map ((fun x:Ty.d aB=>x.1) ∘ dI)=(q.2.map fb).map (fun r:Ty.d bQ=>r.2.2.1) from by rw [List.map_map];rfl,f3];unfold bf;rw [List.map_append,List.map_append,List.map_map,List.map_map];congr 1;refine List.map_congr_left fun x _=>?_
     show (g7 st.2.2.1 x).2.2.1=x.1;unfold g7;cases x.2.1 <;> rfl
    have k2:∀ (l:dX) (d:aO) (m:aO),o6 d l (l.map xR++m)=o6 d l (l.map xR):=by
     intro l
     induction l with
     | nil=>intro d m;rw [oi,oi]
     | cons x l ih =>intro d m;rw [List.map_cons,List.cons_append];unfold o6;exact ih _ m
    rw [k2,vA st.2.2.1 l q.2 [gB 3 st.2.2.1 (l.map (g7 st.2.2.1))] st.2.1 f3] at k1;exact k1
   have oldE:∀ e ∈ st.2.1,d6 y.1 e=d6 d e:=fun e w=>by
    have hin:=List.all_eq_true.1 hent e w;obtain ⟨i1,i2⟩:=he e w;have i3:LE.le (α:=Int) e.2.1 100000:=by have:=d2 e w;unfold Qt at this;simp only [gY,decide_eq_true_eq] at this;exact this.2.1.2
    unfold nV at hin;simp only [gY] at hin;exact zo g1.disk y1 y0 i1 i2 i3 hin.1
   refine ⟨?_,fun e hq=>?_,by show hZ (bq q.1.1.2.1 (q.2.take l.length))=_;rw [e2];exact hkeys,q.2.take l.length,by show bq q.1.1.2.1 (q.2.take l.length)=_;rw [e2],?_,hPK,oldE⟩
   rotate_left
   rotate_left
   · rw [List.map_take,f3];unfold bf;rw [List.take_append_of_le_length (by rw [List.length_map];omega),List.take_of_length_le (by rw [List.length_map];omega)]
   rotate_left
   · show (e ∈ st.2.1∧d6 y.1 e=d6 d e)∨∃ x ∈ l,x.2.1=false∧e.1=x.1∧d6 y.1 e=(g7 st.2.2.1 x,true);rcases newE e hq with ⟨p,hq',w,kd⟩ | w
     · obtain ⟨x,hx,ex⟩:=List.mem_map.1 (hrp p hq');have kd:((fb p).1==2)=false:=kd;have cx:x.2.1=false:=by
        cases c:x.2.1 with
        | false=>rfl
        | true =>rw [← ex] at kd;unfold g7 at kd;rw [c] at kd;cases kd
       refine .inr ⟨x,hx,cx,?_,?_⟩
       · rw [w];show (fb p).2.2.1=x.1;rw [← ex];unfold g7;rw [cx];rfl
       · rw [w,hPK p hq',ex]
     · exact .inl ⟨w,oldE e w⟩
   unfold bo;simp only [gY];refine ⟨dH.2 y1,hB1.live,wE.2 ⟨?_,fun e hq=>?_,?_⟩,decide_eq_true ?_,(vq y1).2 ⟨fun x hx=>?_,fun _ u hu=>?_⟩,List.all_eq_true.2 fun e hq=>?_⟩
   · have k3:=congrArg List.length hkeys;unfold hZ at k3;rw [List.length_map,List.length_map] at k3;show (bq q.1.1.2.1 (q.2.take l.length)).length≤20;rw [e2,k3];unfold jL at ha;omega
   · rcases newE e hq with ⟨p,hq',w,_⟩ | w
     · obtain ⟨_,p2,_⟩:=hB2 p (List.mem_of_mem_take hq');obtain ⟨u1,u2,u3⟩:=hput p hq';rw [w];unfold Qt;rw [u1,aX (show (1:Int)≤(dI p).2.1∧(dI p).2.1≤100000 from p2.1),aZ (show ¬ (dI p).2.2.1<(0:Int) from Int.not_lt.2 p2.2.1),aX (show (1:Int)≤(dI p).2.2.2.1∧(dI p).2.2.2.1≤210 from p2.2.2),
        aX (show (1:Int)≤(dI p).2.2.2.2.1∧(dI p).2.2.2.2.1≤1000000 from by show (1:Int)≤(fb p).2.1∧(fb p).2.1≤1000000;rw [u2];exact ⟨g3,hb⟩)]
       rfl
     · exact d2 e w
   · show cB (hZ (bq q.1.1.2.1 (q.2.take l.length)));rw [e2];exact rU _ d3
   · show (1:Int)≤q.1.1.2.2.1∧q.1.1.2.2.1≤1000001;rw [s3];exact TD g3 hb
   · show ∃ t,fT y.1 (a_ aD x)=some t∧FL t;rw [y2];exact hB1.full x hx
   · have hu:fT y.1 (au q.1.1)=some u:=hu;rw [y2] at hu;exact hB1.tail u hu
   · show nV y.1 q.1.1.2.2.1 e=true;rw [s3];rcases newE e hq with ⟨p,hq',w,kd⟩ | w
     · obtain ⟨u1,u2,u3⟩:=hput p hq';have hr:=hPK p hq';have kd:((fb p).1==2)=false:=kd;have k1:(fb p).1=1:=by
        rcases u3 with v | v
        · exact v
        · rw [v] at kd;cases kd
       unfold nV;rw [w,hr];simp only [];rw [show (dI p).1=(fb p).2.2.1 from rfl,bB,show (dI p).2.2.2.2.1=(fb p).2.1 from rfl,beq_self_eq_true,k1,u2,aZ (Ti st.2.2.1)];rfl
     · have hin:=List.all_eq_true.1 hent e w;obtain ⟨i1,i2⟩:=he e w;have i3:LE.le (α:=Int) e.2.1 100000:=by
        have:=d2 e w;unfold Qt at this;simp only [gY,decide_eq_true_eq] at this;exact this.2.1.2
       unfold nV at hin ⊢;simp only [gY] at hin ⊢;rw [zo g1.disk y1 y0 i1 i2 i3 hin.1];refine ⟨hin.1,hin.2.1,hin.2.2.1,hin.2.2.2.1,?_⟩;have hlt:=hin.2.2.2.2;simp only [Bool.not_eq_true',decide_eq_false_iff_not] at hlt ⊢;exact TB hlt
theorem xG:∀ l:List Nat,(∀ b ∈ l,48≤b∧b≤57)→lU l=true
 | [],_=>rfl
 | b::l,h=>by unfold lU;rw [xG l fun x hx=>h x (jF _ hx),aX (h b iF),Bool.or_true];rfl
theorem sL {n:Int} (h:1≤n∧n≤100000):ib (a_ aD n)=true:=by
 have hz:=m0 (n:=n) (by omega) (by omega);have h3:aD.size=3:=rfl;rw [vj h];have hs:(aD++dp n).size=3+(dp n).size:=by rw [ByteArray.size_append,h3]
 have hl:(dp n).size≤6:=by rw [← dD,pX,if_neg (by omega),List.length_map];have:=jf 5 n.toNat (by omega);omega
 unfold ib;rw [aX (show 1≤(aD++dp n).size∧(aD++dp n).size≤12 from ⟨by omega,by omega⟩),Bool.and_true,gS,pX,if_neg (by omega)];show lU (115::101::103::(Lib.decDigits n.toNat).map UInt8.toNat)=true;simp only [lU];rw [xG _ fun b hb=>?_]
 · decide
 · obtain ⟨x,hx,rfl⟩:=List.mem_map.1 hb;exact kY _ x hx
structure RM (d:Ty.d aA) (F U:Nat):Prop where
 disk:DR d
 fuel:d.2.2.1=(-1:Int)
 up:d.2.2.2.1=false
 cap:d.2.1=(100000:Int)
 files:d.1.length≤F
 use:bv d.1≤U
theorem RM.mono {d:Ty.d aA} {F U F' U':Nat} (h:RM d F U) (h1:F≤F') (h2:U≤U'):RM d F' U':=⟨h.disk,h.fuel,h.up,h.cap,Nat.le_trans h.files h1,Nat.le_trans h.use h2⟩
theorem OI {d:Ty.d aA} {F U:Nat} (h:RM d F U):jC d=(d,0):=by unfold jC;rw [dH.2 h.disk,h.up,h.fuel];rfl
theorem wP {d:Ty.d aA} {F U F' U':Nat} (h:RM d F U) {g:ao→Int→ao × Int} (hd:DR (fA d g).1) (h1:(g d.1 d.2.1).1.length≤F') (h2:bv (g d.1 d.2.1).1≤U'):RM (fA d g).1 F' U'∧(fA d g).2=(g d.1 d.2.1).2:=by
 have e:fA d g=(((g d.1 d.2.1).1,d.2),(g d.1 d.2.1).2):=by unfold fA;rw [OI h];rfl
 rw [e] at hd ⊢;exact ⟨⟨hd,h.fuel,h.up,h.cap,h1,h2⟩,rfl⟩
theorem Ea {d:Ty.d aA} {s:ByteArray}:b8 d.1 s=none↔fT d s=none:=by unfold fT;cases b8 d.1 s <;> simp
theorem It {d:Ty.d aA} {F U:Nat} (h:RM d F U) (hF:F<130) {s:ByteArray} (hn:ib s=true) (hx:b8 d.1 s=none):RM (nh d s).1 (F+1) U∧(nh d s).2=0:=by
 have hg:qK s d.1 d.2.1=(kD d.1 (s,(ByteArray.empty,(0,()))),0):=by unfold qK;rw [hn,hx,aZ (by have:=h.files;omega)];rfl
 have:=wP h (g:=qK s) (xY h.disk s) (F':=F+1) (U':=U) (by rw [hg];show (kD _ _).length≤_;rw [wV];have:=h.files;omega) (by rw [hg];show bv (kD _ _)≤_;rw [ru];exact h.use);rw [hg] at this;exact this
theorem SG {d:Ty.d aA} {F U:Nat} (h:RM d F U) {s:ByteArray} (hx:(b8 d.1 s).isSome=true):RM (ui d s).1 F U∧(ui d s).2=0∧b8 (ui d s).1.1 s=none:=by
 have hn:(b8 d.1 s).isNone=false:=by cases q:b8 d.1 s with
  | none=>rw [q] at hx;cases hx
  | some f=>rfl
 have hg:rr s d.1 d.2.1=(gP d.1 s,0):=by unfold rr;rw [hn];rfl
 have hl:∀ (l:ao),(gP l s).length≤l.length:=by
  intro l
  induction l with
  | nil=>exact Nat.le_refl _
  | cons g l ih =>
   unfold gP;cases seq g.1 s with
   | true=>exact Nat.le_succ _
   | false=>show (gP l s).length+1≤l.length+1;omega
 have:=wP h (g:=rr s) (IJ h.disk s) (F':=F) (U':=U) (by rw [hg];exact Nat.le_trans (hl _) h.files) (by rw [hg];exact Nat.le_trans (pW _ _) h.use);rw [hg] at this;refine ⟨this.1,this.2,?_⟩;have e:(ui d s).1.1=gP d.1 s:=by show (fA d (rr s)).1.1=_;unfold fA;rw [OI h,hg];rfl
 rw [e];exact oh h.disk.keys s
theorem Kc {d:Ty.d aA} {F U:Nat} (h:RM d F U) (s:ByteArray):RM (fG s d).1 F U∧(fG s d).2=0∧b8 (fG s d).1.1 s=none:=by
 unfold fG;cases c:(b8 d.1 s).isSome with
 | true=>exact SG h c
 | false =>
  refine ⟨h,rfl,?_⟩;cases q:b8 d.1 s with
  | none=>exact q
  | some f=>rw [q] at c;cases c
theorem mX {r:RD} {f:Ty.d aA→RD} (h:r.2=0):dz r f=f r.1:=by unfold dz;rw [h];rfl
theorem wg {d:Ty.d aA} {F U:Nat} (h:RM d F U) (hF:F<130) {s:ByteArray} (hn:ib s=true):RM (ak s d).1 (F+1) U∧(ak s d).2=0:=by obtain ⟨g1,g2,g3⟩:=Kc h s;unfold ak;rw [mX g2];exact It g1 hF hn g3
theorem IQ {d:Ty.d aA} {F U:Nat} (h:RM d F U) {s x:ByteArray} {n:Nat} (hx:(fT d s).isSome=true) (hn:x.size≤n) (hU:U+n≤100000):RM (h_ d s x).1 F (U+n)∧(h_ d s x).2=0:=by
 unfold fT at hx;have hu:=h.use;cases q:b8 d.1 s with
 | none=>rw [q] at hx;cases hx
 | some f =>
  have hg:rl s x d.1 d.2.1=(iT (fun f=>(f.1,(f.2.1++x,f.2.2))) d.1 s,0):=by unfold rl;rw [q,h.cap,aG (n:=100000-(bv d.1:Int)) (by omega) (by omega),aZ (by omega)];rfl
  have hz:=ox (h:=fun f:Ty.d aF=>(f.1,(f.2.1++x,f.2.2))) q;have hs:(f.2.1++x).size=f.2.1.size+x.size:=ByteArray.size_append ..;simp only [] at hz;have:=wP h (g:=rl s x) (oP h.disk s x) (F':=F) (U':=U+n) (by rw [hg];show (iT _ _ _).length≤_;rw [tp];exact h.files) (by rw [hg];show bv (iT _ _ _)≤_;omega);rw [hg] at this;exact this
theorem xN {d:Ty.d aA} {F U:Nat} (h:RM d F U) {s:ByteArray} (hx:(fT d s).isSome=true):RM (cQ d s).1 F U∧(cQ d s).2=0:=by
 unfold fT at hx;have hu:=h.use;cases q:b8 d.1 s with
 | none=>rw [q] at hx;cases hx
 | some f =>
  have hg:qV s d.1 d.2.1=(iT (fun f=>(f.1,(f.2.1,((f.2.1.size:Int),f.2.2.2)))) d.1 s,0):=by unfold qV;rw [q];rfl
  have hz:=ox (h:=fun f:Ty.d aF=>(f.1,(f.2.1,((f.2.1.size:Int),f.2.2.2)))) q;simp only [] at hz;have:=wP h (g:=qV s) (m9 h.disk s) (F':=F) (U':=U) (by rw [hg];show (iT _ _ _).length≤_;rw [tp];exact h.files) (by rw [hg];show bv (iT _ _ _)≤_;omega);rw [hg] at this;exact this
theorem SB {d:Ty.d aA} {F U:Nat} (h:RM d F U) {a b:ByteArray} (hn:ib b=true) (hab:a≠b) (hx:(fT d a).isSome=true):RM (uC d a b).1 F U∧(uC d a b).2=0:=by
 unfold fT at hx;have hu:=h.use;cases q:b8 d.1 a with
 | none=>rw [q] at hx;cases hx
 | some f =>
  have hg:sA a b d.1 d.2.1=(kD (gP (gP d.1 a) b) (b,f.2),0):=by unfold sA;rw [hn,q,jr hab];rfl
  have hz:=vQ q;have hz2:=pW (gP d.1 a) b;have hl:∀ (s:ByteArray) (l:ao),(gP l s).length≤l.length:=by
   intro s l
   induction l with
   | nil=>exact Nat.le_refl _
   | cons g l ih =>
    unfold gP;cases seq g.1 s with
    | true=>exact Nat.le_succ _
    | false=>show (gP l s).length+1≤l.length+1;omega
  have hl1:∀ l:ao,∀ f,b8 l a=some f→(gP l a).length+1=l.length:=by
   intro l
   induction l with
   | nil=>intro f q;cases q
   | cons g l ih =>
    intro f q;unfold b8 at q;unfold gP;cases c:seq g.1 a with
    | true=>rfl
    | false =>rw [c] at q;have:=ih f q;show (gP l a).length+1+1=l.length+1;omega
  have hl2:=hl b (gP d.1 a);have hl3:=hl1 d.1 f q;have hf:=h.files;have:=wP h (g:=sA a b) (O7 h.disk a b) (F':=F) (U':=U) (by rw [hg];show (kD _ _).length≤_;rw [wV];omega) (by rw [hg];show bv (kD _ _)≤_;rw [ru];show bv _+f.2.1.size≤_;omega);rw [hg] at this;exact this
theorem Jm {d:Ty.d aA} {F U:Nat} (h:RM d F U) (hF:F<130) {s t:ByteArray} {n:Nat} (hn:ib s=true) (ht:t.size≤n) (hU:U+n≤100000):RM (jw s t d).1 (F+1) (U+n)∧(jw s t d).2=0∧(fT (jw s t d).1 s).isSome=true:=by obtain ⟨a1,a2⟩:=wg h hF hn;have a3:=lJ (s:=s) (d:=d) a2;obtain ⟨b1,b2⟩:=IQ a1 (s:=s) (x:=t) (n:=n) (by rw [a3];rfl) ht hU;have b3:=qt (d:=(ak s d).1) (s:=s) (x:=t);rw [b2,a3] at b3;have b3:fT (h_ (ak s d).1 s t).1 s=some (ByteArray.empty++t):=b3;obtain ⟨c1,c2⟩:=xN b1 (s:=s) (by rw [b3];rfl);unfold jw;rw [mX a2,mX b2];exact ⟨c1,c2,by rw [jv,b3];rfl⟩
theorem sd (v:Ty.d cC):(bZ v).size≤211:=by
 unfold bZ;split
 · exact mL (rY v)
 · decide
theorem rQ {d:Ty.d aA} {F U:Nat} (h:RM d F U) (hF:F<130) (hU:U+211≤100000) (v:Ty.d cC):RM (an v d).1 (F+1) (U+211)∧(an v d).2=0:=by obtain ⟨a1,a2,a3⟩:=Jm h hF (s:=gT) (t:=bZ v) (n:=211) (by decide) (sd v) hU;unfold an;rw [mX a2];exact SB a1 (by decide) (by decide) a3
theorem RL {st:Ty.d aC} {d:Ty.d aA} {F U:Nat} (h:RM d F U) (hb:BT st d) (hF:F+1<130) (hU:U+211≤100000) (hi:st.1.2.1.length<60) (hn:LT.lt (α:=Int) st.1.1 100000) :
 RM (gV st d).2.1 (F+2) (U+211)∧(gV st d).2.2=0∧(gV st d).1.1.2.1.length=st.1.2.1.length+1∧(gV st d).1.1.1=st.1.1+1:=by
 obtain ⟨n1,n2,n3,_⟩:=fk (n:=st.1.1) (ids:=st.1.2.1) hb.live;obtain ⟨_,_,g1,_,_⟩:=bD (nx:=st.1.1) (ids:=st.1.2.1) hb.live;have hlast:aQ st.1.2.1 ∈ st.1.2.1:=by have hs:=jA g1;rw [hs];exact List.mem_append_right _ (List.mem_singleton.2 (by rw [← hs]))
 obtain ⟨t,ht,_⟩:=hb.full _ hlast;obtain ⟨a1,a2⟩:=xN h (s:=au st) (by rw [show fT d (au st)=some t from ht];rfl);obtain ⟨b1,b2⟩:=wg a1 (by omega) (sL ⟨n1,n2⟩);obtain ⟨c1,c2⟩:=rQ b1 (by omega) hU (jq st);unfold gV;rw [aZ (show ¬ (st.1.2.1.length:Int)≥60 by omega),aZ (show ¬ st.1.1≥(100000:Int) from Int.not_le.2 hn),a2,b2,c2];refine ⟨c1,rfl,?_,rfl⟩;show (st.1.2.1++[st.1.1]).length=_;rw [rt,List.length_singleton]
theorem vP (r:Ty.d bQ):(aM (aE r)).size≤210:=by have:=tL r;unfold aS at this;omega
theorem N8 {st:Ty.d aC} {d:Ty.d aA} {F U:Nat} (h:RM d F U) (hb:BT st d) (hU:U+210≤100000) (r:Ty.d bQ) :
 RM (gh st d r).1.2.1 F (U+210)∧(gh st d r).1.2.2=0∧(gh st d r).1.1.1=st.1:=by
 obtain ⟨_,_,g1,_,_⟩:=bD (nx:=st.1.1) (ids:=st.1.2.1) hb.live;have hlast:aQ st.1.2.1 ∈ st.1.2.1:=by have hs:=jA g1;rw [hs];exact List.mem_append_right _ (List.mem_singleton.2 (by rw [← hs]))
 obtain ⟨t,ht,_⟩:=hb.full _ hlast;obtain ⟨a1,a2⟩:=IQ h (s:=au st) (x:=aM (aE r)) (n:=210) (by rw [show fT d (au st)=some t from ht];rfl) (vP r) hU;unfold gh;rw [a2];exact ⟨a1,rfl,rfl⟩
theorem R3 {st:Ty.d aC} {d:Ty.d aA} {F U:Nat} (h:RM d F U) (hb:BT st d) (hF:F+1<130) (hU:U+421≤100000) (hi:st.1.2.1.length<60) (hn:LT.lt (α:=Int) st.1.1 100000) (r:Ty.d bQ) :
 RM (da st d r).1.2.1 (F+2) (U+421)∧(da st d r).1.2.2=0∧(da st d r).1.1.1.2.1.length≤st.1.2.1.length+1∧LE.le (α:=Int) (da st d r).1.1.1.1 (st.1.1+1):=by
 obtain ⟨a1,a2,a3,a4⟩:=RL h hb hF (by omega) hi hn;have ab:=I0 hb a2;unfold da;cases decide (st.2.2.2.1 > 0)&&decide (st.2.2.2.1+aS r > 200) with
 | false =>obtain ⟨s1,s2,s3⟩:=N8 h hb (by omega) r;simp only [aH];rw [s3];exact ⟨s1.mono (by omega) (by omega),s2,by omega,by omega⟩
 | true =>simp only [ae];generalize gV st d=q at a1 a2 a3 a4 ab ⊢;rw [show (q.2.2 != 0)=false by rw [a2];rfl];obtain ⟨s1,s2,s3⟩:=N8 a1 ab (by omega) r;simp only [aH];rw [s3];exact ⟨s1.mono (by omega) (by omega),s2,by omega,Int.le_of_eq a4⟩
theorem EC:∀ (l:ij) (st:Ty.d aC) (d:Ty.d aA) (ps:aT) (F U:Nat),RM d F U→BT st d→(∀ r ∈ l,bN r=true)→F+2*l.length<130→U+421*l.length≤100000→st.1.2.1.length+l.length≤60→LE.le (α:=Int) (st.1.1+(l.length:Int)) 100000 →
 RM (bR l st d ps).1.2.1 (F+2*l.length) (U+421*l.length)∧(bR l st d ps).1.2.2=0∧(bR l st d ps).1.1.1.2.1.length≤st.1.2.1.length+l.length∧LE.le (α:=Int) (bR l st d ps).1.1.1.1 (st.1.1+(l.length:Int))
 | [],st,d,ps,F,U,h,_,_,_,_,_,_=>⟨h.mono (by omega) (by omega),rfl,Nat.le_refl _,by rw [List.length_nil];exact Int.le_of_eq (Int.add_zero _).symm⟩
 | r::l,st,d,ps,F,U,h,hb,hr,hF,hU,hi,hn=>by
  have el:(r::l).length=l.length+1:=kM;rw [el] at hF hU hi hn ⊢;have e3:421*(l.length+1)=421*l.length+421:=Nat.mul_succ 421 l.length;rw [e3] at hU ⊢;generalize hm:421*l.length=m at hU ⊢;have u0:F+1<130:=by omega
  have u1:U+421≤100000:=Nat.le_trans (Nat.add_le_add_left (Nat.le_add_left 421 m) U) hU;have u2:st.1.2.1.length<60:=by omega
  have u3:LT.lt (α:=Int) st.1.1 100000:=by omega
  obtain ⟨a1,a2,a3,a4⟩:=R3 h hb u0 u1 u2 u3 r;obtain ⟨b1,_,_⟩:=Im hb (hr r iF) a2;unfold bR;generalize da st d r=q at a1 a2 a3 a4 b1 ⊢;rw [show (q.1.2.2 != 0)=false by rw [a2];rfl];simp only [aH];obtain ⟨i1,i2,i3,i4⟩:=EC l q.1.1 q.1.2.1 (ps++[q.2]) (F+2) (U+421) a1 b1 (fun x hx=>hr x (jF _ hx)) (by omega) (by rw [hm,Nat.add_assoc,Nat.add_comm 421 m];exact hU) (by omega) (by omega);rw [hm] at i1;exact ⟨i1.mono (by omega) (Nat.le_of_eq (by rw [Nat.add_assoc,Nat.add_comm 421 m])),i2,by omega,by omega⟩
theorem Od {st:Ty.d aC} {d:Ty.d aA} {l:dX} {F U:Nat} (h:RM d F U) (hs:bo st d=true) (hp:bw l=true) (hb:LE.le (α:=Int) st.2.2.1 1000000) (hF:F+20<130) (hU:U+4000≤100000) (hi:st.1.2.1.length≤50) (hn:LE.le (α:=Int) st.1.1 99000) :
 RM (bS st d l).2.1 (F+18) (U+3789)∧(bS st d l).2.2=0∧(bS st d l).1.1.2.1.length≤st.1.2.1.length+9∧LE.le (α:=Int) (bS st d l).1.1.1 (st.1.1+9):=by
 obtain ⟨g1,g2,g3⟩:=bn hs;have hBT:=sv hs;have hl8:=mA hp;have hlen:(bf l st.2.2.1).length≤9:=by unfold bf;rw [rt,List.length_map,List.length_singleton];omega
 obtain ⟨a1,a2,a3,a4⟩:=EC (bf l st.2.2.1) (iV st) d [] F U h ⟨hBT.live,hBT.disk,hBT.full,hBT.tail⟩ (nu hp g3 hb) (by omega) (by omega) (by show st.1.2.1.length+_≤60;omega) (by show LE.le (α:=Int) (st.1.1+_) 100000;omega);obtain ⟨hB,_⟩:=yx (bf l st.2.2.1) (iV st) d [] ⟨hBT.live,hBT.disk,hBT.full,hBT.tail⟩ (nu hp g3 hb) (fun x hx=>by cases hx) a2;have a3:(bR (bf l st.2.2.1) (iV st) d []).1.1.1.2.1.length≤st.1.2.1.length+(bf l st.2.2.1).length:=a3;have a4:LE.le (α:=Int) (bR (bf l st.2.2.1) (iV st) d []).1.1.1.1 (st.1.1+((bf l st.2.2.1).length:Int)):=a4;unfold bS;generalize bR (bf l st.2.2.1) (iV st) d []=q at a1 a2 a3 a4 hB ⊢;obtain ⟨_,_,k1,_,_⟩:=bD (nx:=q.1.1.1.1) (ids:=q.1.1.1.2.1) hB.live;have hlast:aQ q.1.1.1.2.1 ∈ q.1.1.1.2.1:=by have hs:=jA k1;rw [hs];exact List.mem_append_right _ (List.mem_singleton.2 (by rw [← hs]))
 obtain ⟨t,ht,_⟩:=hB.full _ hlast;obtain ⟨y1,y2⟩:=xN a1 (s:=au q.1.1) (by rw [show fT q.1.2.1 (au q.1.1)=some t from ht];rfl);unfold rH;rw [show (q.1.2.2 != 0)=false by rw [a2];rfl,y2];exact ⟨y1.mono (by omega) (by omega),rfl,by show q.1.1.1.2.1.length≤_;omega,by show LE.le (α:=Int) q.1.1.1.1 _;omega⟩
theorem Me:RM (iP 100000) 0 0:=⟨KD (by omega) (by omega),rfl,rfl,rfl,Nat.le_refl _,Nat.le_refl _⟩
theorem D1 {α:Type} {p:α→Bool}:∀ {l:List α},(∀ x ∈ l,p x=true)→l.takeWhile p=l∧l.dropWhile p=[]
 | [],_=>⟨rfl,rfl⟩
 | x::l,h=>by
  have ih:=D1 (p:=p) (l:=l) fun y hy=>h y (jF _ hy)
  rw [List.takeWhile_cons,List.dropWhile_cons,h x iF,if_pos rfl,if_pos rfl,ih.1];exact ⟨rfl,ih.2⟩
theorem xO:∀ {l:aO},cB (hZ l)→∀ e ∈ l,uI l e.1=some e
 | [],_,e,h=>by cases h
 | x::l,hk,e,h=>by
  unfold cB hZ at hk;rw [List.map_cons,List.pairwise_cons] at hk;rw [uI.eq_2];rcases List.mem_cons.1 h with w | w
  · rw [w,bB];rfl
  · have hlt:=hk.1 e.1 (List.mem_map.2 ⟨e,w,rfl⟩);rw [jr (fun q=>by rw [q,ly] at hlt;cases hlt),aH];exact xO hk.2 e w
theorem Q6 {st:Ty.d aC} {d:Ty.d aA} (h:bo st d=true) {e:Ty.d aB} (he:e ∈ st.2.1):kT st.2.1 d e.1=((e.1,((d6 d e).1.2.2.2.1,((d6 d e).1.2.1,()))),0):=by unfold bo at h;simp only [gY] at h;obtain ⟨_,_,hdir,_,_,hent⟩:=h;obtain ⟨_,_,hk⟩:=wE.1 hdir;have hin:=List.all_eq_true.1 hent e he;unfold nV at hin;simp only [gY] at hin;unfold kT;rw [xO hk e he];simp only [];rw [hin.1,hin.2.1,hin.2.2.2.1];rfl
theorem lN {st:Ty.d aC} {d:Ty.d aA} (h:bo st d=true):bH st.2.1 d=(st.2.1.map fun e=>(e.1,((d6 d e).1.2.2.2.1,((d6 d e).1.2.1,()))),0):=by
 have key:∀ (r:aO) (acc:fL),(∀ e ∈ r,e ∈ st.2.1)→nn st.2.1 d (r.map (·.1)) acc=(acc++r.map fun e=>(e.1,((d6 d e).1.2.2.2.1,((d6 d e).1.2.1,()))),0):=by
  intro r
  induction r with
  | nil=>intro acc _;rw [List.map_nil,List.map_nil,List.append_nil];rfl
  | cons e r ih =>intro acc hr;rw [List.map_cons,nn,Q6 h (hr e iF)];show nn st.2.1 d (r.map (·.1)) (acc++[_])=_;rw [ih _ fun x hx=>hr x (jF _ hx),qY];rfl
 unfold bH;rw [key st.2.1 [] fun e he=>he,List.nil_append]
def Tg (key:ByteArray) (x:Ty.d ml):Bool:=nS x.1 key||seq x.1 key
def qR (l:fL) (key:ByteArray):fL:=l.filter fun x=>!(seq x.1 key)
def N0 (l:fL) (p:Ty.d ml):fL:=l.takeWhile (Tg p.1)++p::l.dropWhile (Tg p.1)
def Nh (l:fL) (p:Ty.d ml) (del:Bool):fL:=bif del then qR l p.1 else N0 (qR l p.1) p
def uM (l:fL) (puts:dX) (b:Int):fL:=puts.foldl (fun l q=>Nh l (q.1,(q.2.2.1,(b,()))) q.2.1) l
theorem y8 {v:Ty.d aB→Ty.d ml} (hv:∀ e,(v e).1=e.1) (l:aO) (key:ByteArray):(lH l key).map v=qR (l.map v) key:=by
 unfold lH qR;rw [List.filter_map];congr 1;refine List.filter_congr fun x _=>?_
 show (!(seq x.1 key))=!(seq (v x).1 key);rw [hv]
theorem Pw {v:Ty.d aB→Ty.d ml} (hv:∀ e,(v e).1=e.1) (l:aO) (e:Ty.d aB):(uG l e).map v=N0 (l.map v) (v e):=by
 have h:((Tg (v e).1) ∘ v)=Q1 e.1:=by funext x;show (nS (v x).1 (v e).1||seq (v x).1 (v e).1)=_;rw [hv,hv];rfl
 unfold uG N0;rw [List.map_append,List.map_cons,List.takeWhile_map,List.dropWhile_map,h]
theorem DT {v:Ty.d aB→Ty.d ml} (hv:∀ e,(v e).1=e.1) (b:Int):∀ (l:dX) (ps:aT) (dir:aO),ps.map fb=l.map (g7 b)→(∀ p ∈ ps,v (dI p)=((fb p).2.2.1,((fb p).2.2.2.1,((fb p).2.1,()))))→(bq dir ps).map v=uM (dir.map v) l b
 | [],[],dir,_,_=>rfl
 | [],p::ps,dir,h,_=>by cases h
 | x::l,[],dir,h,_=>by cases h
 | x::l,p::ps,dir,h,hp=>by
  rw [List.map_cons,List.map_cons] at h;injection h with h1 h2;have ih:=DT hv b l ps (f8 dir p) h2 fun q hq=>hp q (jF _ hq)
  show (bq (f8 dir p) ps).map v=uM (Nh (dir.map v) (x.1,(x.2.2.1,(b,()))) x.2.1) l b;rw [ih];congr 1;have hpp:=hp p iF;have h1:p.2.2.2.1=g7 b x:=h1;unfold f8 Nh;rw [h1];cases c:x.2.1 with
  | true =>rw [show ((g7 b x).1==2)=true by unfold g7;rw [c];rfl,show (g7 b x).2.2.1=x.1 by unfold g7;rw [c];rfl];exact y8 hv dir x.1
  | false =>
   rw [show ((g7 b x).1==2)=false by unfold g7;rw [c];rfl];simp only [aH];unfold pb;have ek:(dI p).1=x.1:=by show p.2.2.2.1.2.2.1=x.1;rw [h1];unfold g7;rw [c];rfl
   have ev:v (dI p)=(x.1,(x.2.2.1,(b,()))):=by rw [hpp];show (p.2.2.2.1.2.2.1,(p.2.2.2.1.2.2.2.1,(p.2.2.2.1.2.1,())))=_;rw [h1];unfold g7;rw [c];rfl
   rw [Pw hv,y8 hv,ev,ek]
theorem JV {st:Ty.d aC} {d:Ty.d aA} {l:dX} (hs:bo st d=true) (he:EI st) (hp:bw l=true) (hb:LE.le (α:=Int) st.2.2.1 1000000) (ha:jL st.2.1 l≤20) (z:(bS st d l).2.2=0) :
 bH (bS st d l).1.2.1 (bS st d l).2.1=(uM (bH st.2.1 d).1 l st.2.2.1,0):=by
 obtain ⟨s1,_,_,ps,p1,p2,p3,p4⟩:=yJ hs he hp hb ha z;rw [lN s1,lN hs,p1];simp only [];rw [DT (v:=fun e=>(e.1,((d6 (bS st d l).2.1 e).1.2.2.2.1,((d6 (bS st d l).2.1 e).1.2.1,())))) (fun _=>rfl) st.2.2.1 l ps st.2.1 p2 fun p hq=>?_]
 · congr 2;refine List.map_congr_left fun e he=>?_
   rw [p4 e he]
 · rw [p3 p hq];rfl
theorem Q7 {d:Ty.d aA} {a b:ByteArray} (hd:DR d) (hab:a≠b) (z:(uC d a b).2=0):fT (uC d a b).1 a=none:=by
 obtain ⟨c1,c2⟩:=nB z;unfold fT;show (b8 (fA d (sA a b)).1.1 a).map _=_;rw [c2];unfold sA at c1 ⊢;cases c3:ib b with
 | false=>rw [c3] at c1;exact absurd c1 (by show (5:Int)≠0;decide)
 | true =>
  rw [c3] at c1;simp only [g9,aH] at c1 ⊢;cases c4:b8 d.1 a with
  | none=>rw [c4] at c1;exact absurd c1 (by show (3:Int)≠0;decide)
  | some f =>simp only [];rw [jr hab,aH];show (b8 (kD (gP (gP d.1 a) b) (b,f.2)) a).map _=_;rw [zq (f:=(b,f.2)) (fun q=>hab q.symm),yf hab,oh hd.keys a];rfl
structure DS (d:Ty.d aA):Prop where
 l:d.1.length≤131
 u:bv d.1≤200000
 n:uN d.1≤10000
theorem DS.sz {d:Ty.d aA} (h:DS d):Ey d:=⟨by have:=h.l;omega,by have:=h.u;omega,by have:=h.n;omega⟩
theorem C8 (ids:List Int):∀ (l:ao) (acc:List ByteArray),qP ids l acc=acc++(l.filter (na ids)).map (·.1)
 | [],acc=>(List.append_nil acc).symm
 | f::l,acc=>by
  unfold qP;rw [C8 ids l,List.filter_cons];cases na ids f with
  | true=>rw [ae,if_pos rfl,List.map_cons,qY];rfl
  | false=>rw [aH,if_neg (by decide)]
inductive CE (st:Ty.d aC) (d:Ty.d aA) (l:dX):Prop
 | no (c:Int) (hc:c=4∨c=5) (e:bm st d l=(st,(d,c)))
 | none (hs:bo st d=true) (hl:l.length=0) (e:bm st d l=(st,(d,0)))
 | done (hs:bo st d=true) (hp:bw l=true) (hl:l.length≠0) (ha:jL st.2.1 l≤20) (hb:LE.le (α:=Int) st.2.2.1 1000000) (e:bm st d l=bS st d l)
theorem Hq (st:Ty.d aC) (d:Ty.d aA) (l:dX):CE st d l:=by
 cases c1:bo st d with
 | false=>exact .no 4 (.inl rfl) (by unfold bm;rw [c1];rfl)
 | true =>
  cases c2:bw l with
  | false=>exact .no 4 (.inl rfl) (by unfold bm;rw [c1,c2];rfl)
  | true =>
   by_cases c3:l.length=0
   · exact .none c1 c3 (by unfold bm;rw [c1,c2,c3];rfl)
   · have c3':((l.length:Int)==0)=false:=pG (by omega);by_cases c4:jL st.2.1 l > 20
     · exact .no 5 (.inr rfl) (by unfold bm;rw [c1,c2,c3',aX c4];rfl)
     · by_cases c5:st.2.2.1 > (1000000:Int)
       · exact .no 5 (.inr rfl) (by unfold bm;rw [c1,c2,c3',aZ c4,aX c5];rfl)
       · exact .done c1 c2 c3 (by omega) (Int.not_lt.1 c5) (by unfold bm;rw [c1,c2,c3',aZ c4,aZ c5];rfl)
def Qg:ByteArray:=⟨#[108,105,118,101]⟩
end Go.Proofs.YteejjngdagmofaaGreatDoor.G

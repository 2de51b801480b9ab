/- Plain laws, merged; what is proved here is told ahead of each part. -/
import Derived.Test.YtaaincbnjkmapaaGreatDoorZS1
set_option linter.unusedVariables false
set_option linter.unusedSimpArgs false
namespace Go.Proofs.YtaaincbnjkmapaaGreatDoor.G
open Go.V
theorem JU {pre rest:ByteArray} {r:Ty.d bf} (h:bg r=true) (d:Nat) :
 gH (pre++(aS (aI r)++rest)) (d+1) (pre.size:Int)=(((pre.size:Int),(((aS (aI r)).size:Int),(r,())))::(gH (pre++(aS (aI r)++rest)) d ((pre.size+(aS (aI r)).size:Nat):Int)).1,(gH (pre++(aS (aI r)++rest)) d ((pre.size+(aS (aI r)).size:Nat):Int)).2):=by
 have hz:=lm r;have hp:=li (s:=aI r) (by omega);rw [gH,s5,gS,oe rest (by omega)];simp only [];rw [vh h,if_neg (by omega)];simp only [];rw [if_neg (show ¬ ((true:Bool)=false) by decide)];rfl
theorem y6:∀ (rs:ja) (pre:ByteArray) (d:Nat),(∀ r ∈ rs,bg r=true)→(aU rs).size<d→(gH (pre++aU rs) d (pre.size:Int)).1.map (·.2.2.1)=rs∧(gH (pre++aU rs) d (pre.size:Int)).2=((pre++aU rs).size:Int)
 | [],pre,d,_,hd=>by
  obtain ⟨d,rfl⟩:∃ q,d=q+1:=⟨d-1,by omega⟩;have:iG (ByteArray.extract (pre++aU []) (Int.toNat (pre.size:Int)) (pre++aU []).size)=(⟨#[]⟩,0):=by rw [s5,gS,aU,yq]
  rw [gH,this,if_pos rfl,aU,aX,e0];exact ⟨rfl,rfl⟩
 | r::rs,pre,d,h,hd=>by rw [aU,aX] at hd;have hz:=lm r;have hp:=li (s:=aI r) (by omega);obtain ⟨d,rfl⟩:∃ q,d=q+1:=⟨d-1,by omega⟩;have ih:=y6 rs (pre++aS (aI r)) d (fun x hx=>h x (kS _ hx)) (by omega);rw [bh,aX pre] at ih;rw [aU,JU (h r (il ..))];simp only [List.map_cons];exact ⟨by rw [ih.1],ih.2⟩
theorem rH {rs:ja} (h:∀ r ∈ rs,bg r=true):(c_ (aU rs)).1.map (·.2.2.1)=rs∧(c_ (aU rs)).2=((aU rs).size:Int):=by have:=y6 rs ⟨#[]⟩ ((aU rs).size+1) h (by omega);rw [oX,e0] at this;exact this
abbrev eU:=List (Ty.d aM)
def lF (x:Ty.d aM):Bool:=gB x.1&&(decide ((x.2.2.1.size:Int)≤24)&&(!x.2.1||seq x.2.2.1 ⟨#[]⟩))
def eF (l:eU):Bool:=qM (fun _=>lF) none l&&decide (l.length≤8)
theorem BX {k:Nat} (hk:2 ^ 50≤k) {l:eU} (hl:l.length≤1099511627776):fN.f k l=some (eF l,()):=by
 unfold fN.f fN.t eF;have st:∀ (n:Nat) (i:Int) x,0≤i→i<l.length→l.getD i.toNat (Ty.z aM)=x→fN.l0 k (n+1) l l l.length i=bif lF x then fN.l0 k n l l l.length (i+1) else some (false,()):=fun n i x h0 h1 hx=>by
  have e:fq.f k x=some (lF x,()):=by unfold fq.f fq.t lF gB;rw [kf,ac];cases decide (1≤(x.1.size:Int)∧(x.1.size:Int)≤8) <;> cases decide ((x.2.2.1.size:Int)≤24) <;> cases x.2.1 <;> rfl
  simp (disch:=omega) only [fN.l0,fN.b0,aW h1,aa,aT,hx,e,ac,aF];cases lF x <;> rfl
 exact (Aj (L:=fun n i=>fN.l0 k n l l l.length i) (Ty.z aM) l (fun _=>lF) (some (decide ((l.length:Int)≤8),())) (some (false,())) (fun n=>by simp (disch:=omega) only [fN.l0,fN.b0,aY,aJ])
  (fun n x h hx=>st n 0 x (by omega) (by omega) hx) (fun n i x y h0 h1 hx hy=>st n i x (by omega) h1 hx) (n:=k) (by omega)).trans (by rw [show decide ((l.length:Int)≤8)=decide (l.length≤8) from decide_eq_decide.2 (by omega)];cases qM (fun _=>lF) none l <;> rfl)
theorem nU {l:eU} (h:eF l=true):l.length≤8:=by unfold eF at h;rw [iE,decide_eq_true_eq] at h;exact h.2
theorem uc {l:eU} (h:eF l=true) {x:Ty.d aM} (hx:x ∈ l):lF x=true:=by
 unfold eF at h;rw [iE] at h;exact (Dx h.1 hx).elim fun _ q=>q
def gx (b:Int) (p:Ty.d aM):Ty.d bf:=bif p.2.1 then (2,(b,(p.1,(ByteArray.empty,(0,(0,())))))) else (1,(b,(p.1,(p.2.2.1,(0,(0,()))))))
def da (l:eU) (b:Int):ja:=l.map (gx b)++[i_ 3 b (l.map (gx b))]
theorem xN {k:Nat} (hk:2 ^ 50≤k) {l:eU} (hl:l.length≤1073741823) (b:Int):eE.f k l b=some (da l b,()):=by
 unfold eE.f eE.t;refine (fj (L:=fun n i s=>eE.l0 k n l b l l.length i s) (R:=fun r s=>some (s++r.map (gx b)++[i_ 3 b (s++r.map (gx b))],())) (Ty.z aM) l (fun i s=>(s.length:Int)=i) (fun n s hs=>?_) (fun n i s x rest h0 h1 hx hr hp ih=>?_) (n:=k) (s:=[]) (by omega) (by decide)).trans (by rw [List.nil_append];rfl)
 · simp (disch:=first | omega | decide) only [eE.l0,eE.b0,aY,aJ,qu hk,ac,bn,List.map_nil,List.append_nil,i_,hs]
 · have ih:=ih (s++[gx b x]) (by rw [nE];show ((s.length+1:Nat):Int)=_;omega);have e:gx b x=bif x.2.1 then (2,(b,(x.1,(ByteArray.empty,(0,(0,())))))) else (1,(b,(x.1,(x.2.2.1,(0,(0,())))))):=rfl;simp (disch:=first | omega | decide) only [eE.l0,eE.b0,aW,aa,aT,hx,bn,aF];cases c:x.2.1 <;> rw [c] at e <;> simp only [aa,aJ] at e ⊢ <;> rw [← e] <;> refine ih.trans ?_ <;> simp only [List.map_cons,oK,List.cons_append,List.nil_append]
def ar (r:Ty.d bf):Int:=((aS (aI r)).size:Int)
theorem mV (r:Ty.d bf):0≤ar r∧ar r≤211:=by have:=mT (aI r);unfold ar;omega
def m0 (l:aR) (key:ByteArray):aR:=l.filter fun x=>!(seq x.1 key)
def OR (key:ByteArray) (x:Ty.d aC):Bool:=nd x.1 key||seq x.1 key
def vE (l:aR) (e:Ty.d aC):aR:=l.takeWhile (OR e.1)++e::l.dropWhile (OR e.1)
def rA (l:aR) (e:Ty.d aC):aR:=vE (m0 l e.1) e
theorem qP (l:aR) (key:ByteArray):(m0 l key).length≤l.length:=List.length_filter_le ..
theorem GD (l:aR) (e:Ty.d aC):(vE l e).length=l.length+1:=by unfold vE;rw [nE,j7];have:=congrArg List.length (List.takeWhile_append_dropWhile (p:=OR e.1) (l:=l));rw [nE] at this;omega
theorem MG (l:aR) (e:Ty.d aC):(rA l e).length≤l.length+1:=by unfold rA;have:=qP l e.1;rw [GD];omega
abbrev ag:=List (Ty.d aL)
def fk (b:Int) (acc:ag) (p:Ty.d aL):ag :=
 bif p.2.2.2.1.2.1==b then (bif p.2.2.2.1.1==3 then [] else bif p.2.2.2.1.1==1||p.2.2.2.1.1==2 then acc++[p] else acc) else acc
def gq (acc:ag) (p:Ty.d aL):ag:=bif p.2.2.2.1.1==5 then [] else bif p.2.2.2.1.1==4 then acc++[p] else acc
def fh (b:Int) (l:ag):ag:=l.foldl (fk b) []
def cB (l:ag):ag:=l.foldl gq []
theorem wZ (b:Int) (acc:ag) (p:Ty.d aL):(fk b acc p).length≤acc.length+1:=by unfold fk;cases p.2.2.2.1.2.1==b <;> cases p.2.2.2.1.1==3 <;> cases p.2.2.2.1.1==1 <;> cases p.2.2.2.1.1==2 <;> simp
theorem vn (acc:ag) (p:Ty.d aL):(gq acc p).length≤acc.length+1:=by unfold gq;cases p.2.2.2.1.1==5 <;> cases p.2.2.2.1.1==4 <;> simp
theorem xZ {f:ag→Ty.d aL→ag} (h:∀ a p,(f a p).length≤a.length+1):∀ (l acc:ag),(l.foldl f acc).length≤acc.length+l.length
 | [],acc=>by simp
 | p::l,acc=>by have:=xZ h l (f acc p);have:=h acc p;rw [List.foldl_cons,j7];omega
theorem G7 (b:Int) (l:ag):(fh b l).length≤l.length:=by have:=xZ (wZ b) l [];simpa [fh] using this
theorem G4 (l:ag):(cB l).length≤l.length:=by have:=xZ vn l [];simpa [cB] using this
theorem Eb {k:Nat} (hk:2 ^ 50≤k) {l:ag} {r:Ty.d bf} (hr:r.1=3) (hl:l.length≤1099511627775):dO.f k l r=some (fh r.2.1 l,()):=by
 unfold dO.f dO.t;rw [hr];refine fj (L:=fun n i s=>dO.l0 k n l l.length i 3 r.2.1 r.2.2.1 r.2.2.2.1 r.2.2.2.2.1 r.2.2.2.2.2.1 s) (R:=fun q s=>some (q.foldl (fk r.2.1) s,())) (Ty.z aL) l (fun i s=>(s.length:Int)≤i) (fun n s hs=>?_) (fun n i s x rest h0 h1 hx hr hp ih=>?_) (n:=k) (s:=[]) (by omega) (by decide)
 · simp (disch:=omega) only [dO.l0,dO.b0,aY,aJ,List.foldl_nil]
 · simp (disch:=omega) only [dO.l0,dO.b0,aW h1,aa,aJ,aT,hx,aF,show ((3:Int)==3)=true from rfl,show ((3:Int)==5)=false from rfl];rw [List.foldl_cons];have hs1:=wZ r.2.1 s x;have ih1:=ih (fk r.2.1 s x) (by omega);rw [← ih1];unfold fk bne;have r1:∀ {R:Type} (q:Option R),rm (Ty.bytes aL) (s.length+1) q=q:=fun q=>bn (by omega) (by decide)
   simp only [r1];cases c1:(x.2.2.2.1.2.1==r.2.1) <;> cases c2:(x.2.2.2.1.1==3) <;> cases c3:(x.2.2.2.1.1==1) <;> cases c4:(x.2.2.2.1.1==2) <;> rfl
theorem vX {k:Nat} (hk:2 ^ 50≤k) {l:ag} {r:Ty.d bf} (hr:r.1=5) (hl:l.length≤1099511627775):dO.f k l r=some (cB l,()):=by
 unfold dO.f dO.t;rw [hr];refine fj (L:=fun n i s=>dO.l0 k n l l.length i 5 r.2.1 r.2.2.1 r.2.2.2.1 r.2.2.2.2.1 r.2.2.2.2.2.1 s) (R:=fun q s=>some (q.foldl gq s,())) (Ty.z aL) l (fun i s=>(s.length:Int)≤i) (fun n s hs=>?_) (fun n i s x rest h0 h1 hx hr hp ih=>?_) (n:=k) (s:=[]) (by omega) (by decide)
 · simp (disch:=omega) only [dO.l0,dO.b0,aY,aJ,List.foldl_nil]
 · simp (disch:=omega) only [dO.l0,dO.b0,aW h1,aa,aJ,aT,hx,aF,show ((5:Int)==3)=false from rfl,show ((5:Int)==5)=true from rfl];rw [List.foldl_cons];have hs1:=vn s x;have ih1:=ih (gq s x) (by omega);rw [← ih1];unfold gq;have r1:∀ {R:Type} (q:Option R),rm (Ty.bytes aL) (s.length+1) q=q:=fun q=>bn (by omega) (by decide)
   simp only [r1];cases c1:(x.2.2.2.1.1==5) <;> cases c2:(x.2.2.2.1.1==4) <;> rfl
def BP (p:Ty.d aL):Ty.d bf:=p.2.2.2.1
def jr (r:Ty.d bf) (own:ag):Bool:=(r.2.2.2.2.1==(own.length:Int))&&(r.2.2.2.2.2.1==FY (own.map BP))
theorem sr {k:Nat} (hk:2 ^ 50≤k) (r:Ty.d bf) {l:ag} (hl:l.length≤1073741823):h_.f k r l=some (jr r l,()):=by
 unfold h_.f h_.t;refine (fj (L:=fun n i s=>h_.l0 k n l l.length i r.1 r.2.1 r.2.2.1 r.2.2.2.1 r.2.2.2.2.1 r.2.2.2.2.2.1 s) (R:=fun q s=>some ((r.2.2.2.2.1==((s++q.map BP).length:Int))&&(r.2.2.2.2.2.1==FY (s++q.map BP)),())) (Ty.z aL) l (fun i s=>(s.length:Int)=i) (fun n s hs=>?_) (fun n i s x rest h0 h1 hx hr hp ih=>?_) (n:=k) (s:=[]) (by omega) (by decide)).trans (by rw [List.nil_append,List.length_map];rfl)
 · simp (disch:=omega) only [h_.l0,h_.b0,aY,aJ,List.map_nil,List.append_nil,qu hk,ac];cases (r.2.2.2.2.1==(s.length:Int)) <;> rfl
 · simp (disch:=first | omega | decide) only [h_.l0,h_.b0,aW,aa,aT,hx,bn,aF];refine (ih (s++[BP x]) (by rw [dt];omega)).trans ?_;simp only [List.map_cons,oK,List.cons_append,List.nil_append]
theorem p5 {k:Nat} (hk:2 ^ 50≤k) {l:aR} (key:ByteArray) (hl:l.length≤1099511627775):cE.f k l key=some (m0 l key,()):=by
 unfold cE.f cE.t;refine (fj (L:=fun n i s=>cE.l0 k n key l l.length i s) (R:=fun r s=>some (s++m0 r key,())) (Ty.z aC) l (fun i s=>(s.length:Int)≤i) (fun n s hs=>?_) (fun n i s x rest h0 h1 hx hr hp ih=>?_) (n:=k) (s:=[]) (by omega) (by decide)).trans (by rw [List.nil_append])
 · simp (disch:=omega) only [cE.l0,cE.b0,aY,aJ,m0,List.filter_nil,List.append_nil]
 · cases c:seq x.1 key with
   | true =>simp (disch:=first | omega | decide) only [cE.l0,cE.b0,aW,aa,aJ,aT,hx,c,fw,aF];refine (ih s (by omega)).trans ?_;simp only [m0,List.filter_cons,c,fw,Bool.false_eq_true,if_false]
   | false =>simp (disch:=first | omega | decide) only [cE.l0,cE.b0,aW,aa,aT,hx,c,ue,bn,aF];refine (ih (s++[x]) (by rw [dt];omega)).trans ?_;simp only [m0,List.filter_cons,c,ue,if_true,oK,List.cons_append,List.nil_append]
theorem uI {k:Nat} (hk:2 ^ 50≤k) {l:aR} (e:Ty.d aC) (hl:l.length≤1099511627775):dG.f k l e=some (rA l e,()):=by
 unfold dG.f dG.t rA;rw [p5 hk e.1 hl,ac];have hd:=qP l e.1;simp only [];generalize m0 l e.1=r at *;have cp:∀ q:aR,q.length≤1099511627775→cL.f k q=some (q,()):=fun q hq=>by unfold cL.f cL.t;rw [bn (by omega) (by decide)]
 have key:∀ (d j n:Nat),r.length-j=d→j≤r.length→d<n→dG.l0 k n (j:Int) e.1 e.2.1 e.2.2.1 e.2.2.2.1 e.2.2.2.2.1 r=some (r.take j++vE (r.drop j) e,()):=by
  intro d
  induction d with
  | zero =>
   intro j n hd hj hn;obtain ⟨n,rfl⟩:∃ q,n=q+1:=⟨n-1,by omega⟩;have:j=r.length:=by omega
   subst this;simp (disch:=first | omega | (simp only [dt,List.length_take,List.length_drop];omega) | decide) only [dG.l0,dG.b0,aY,aJ,d7,s5,cp,ac,bn];rw [List.drop_length,vE];simp
  | succ d ih =>
   intro j n hd hj hn;obtain ⟨n,rfl⟩:∃ q,n=q+1:=⟨n-1,by omega⟩;have hlt:j<r.length:=by omega
   have e1:r.drop j=r.getD j (Ty.z aC)::r.drop (j+1):=by rw [List.drop_eq_getElem_cons hlt];simp [List.getD,hlt]
   cases c:OR e.1 (r.getD j (Ty.z aC)) with
   | true =>have c':=c;unfold OR at c';have ih:=ih (j+1) n (by omega) (by omega) (by omega);simp (disch:=omega) only [dG.l0,dG.b0,aW,aa,aT,s5,c',aF];rw [show ((j:Int)+1)=((j+1:Nat):Int) by omega,ih,e1,mh (z:=Ty.z aC) hlt];unfold vE;simp only [List.takeWhile_cons,List.dropWhile_cons,c,if_true,oK,List.cons_append,List.nil_append]
   | false =>have c':=c;unfold OR at c';simp (disch:=first | omega | (simp only [dt,List.length_take,List.length_drop];omega) | decide) only [dG.l0,dG.b0,aW,aa,aJ,aT,s5,c',d7,cp,ac,bn];rw [e1];unfold vE;simp only [List.takeWhile_cons,List.dropWhile_cons,c,Bool.false_eq_true,if_false,oK,List.cons_append,List.nil_append]
 exact (key r.length 0 k (by omega) (by omega) (by omega)).trans (by rw [List.take_zero,List.drop_zero,List.nil_append])
def dc (p:Ty.d aL):Ty.d aC:=(p.2.2.2.1.2.2.1,(p.1,(p.2.1,(p.2.2.1,(p.2.2.2.1.2.1,())))))
def gF (d:aR) (p:Ty.d aL):aR:=bif p.2.2.2.1.1==2 then m0 d p.2.2.2.1.2.2.1 else rA d (dc p)
def cZ (d:aR) (own:ag):aR:=own.foldl gF d
theorem yC (d:aR) (p:Ty.d aL):(gF d p).length≤d.length+1:=by
 unfold gF;have h1:=qP d p.2.2.2.1.2.2.1;have h2:=MG d (dc p);cases p.2.2.2.1.1==2
 · rw [aJ];omega
 · rw [aa];omega
theorem Az:∀ (own:ag) (d:aR),(cZ d own).length≤d.length+own.length
 | [],d=>Nat.le_refl _
 | p::own,d=>by have:=Az own (gF d p);have:=yC d p;rw [cZ,List.foldl_cons,j7];unfold cZ at this;simp only [cZ] at *;omega
def o8 (d:aR) (code:Int):Int:=if d.length > 20 then 2 else code
theorem vu {k:Nat} (hk:2 ^ 50≤k) (g:Ty.d kR) {own:ag} (ho:own.length≤268435456) (hd:g.1.length≤268435456):cQ.f k g own=some ((cZ g.1 own,(g.2.1,(o8 (cZ g.1 own) g.2.2.1,()))),()):=by
 unfold cQ.f cQ.t;refine fj (L:=fun n i (d:aR)=>cQ.l0 k n own own.length i d g.2.1 g.2.2.1) (R:=fun q d=>some ((cZ d q,(g.2.1,(o8 (cZ d q) g.2.2.1,()))),())) (Ty.z aL) own (fun i d=>(d.length:Int)≤268435456+i) (fun n d hs=>?_) (fun n i d x rest h0 h1 hx hr hp ih=>?_) (n:=k) (s:=g.1) (by omega) (by omega)
 · change _=some ((d,(g.2.1,(o8 d g.2.2.1,()))),());simp (disch:=omega) only [cQ.l0,cQ.b0,aY (show ¬ ((own.length:Int)<(own.length:Int)) by omega),aJ,o8];by_cases c:d.length > 20
   · rw [aW (by omega),if_pos c];rfl
   · rw [aY (by omega),if_neg c];rfl
 · have hsd:=yC d x;have ih:=ih (gF d x) (by omega);have e:gF d x=bif x.2.2.2.1.1==2 then m0 d x.2.2.2.1.2.2.1 else rA d (dc x):=rfl;simp (disch:=omega) only [cQ.l0,cQ.b0,aW h1,aa,aT,hx,p5 hk,uI hk,ac,aF];rw [show cZ d (x::rest)=cZ (gF d x) rest from rfl,← ih,e];cases x.2.2.2.1.1==2 <;> rfl
def oP (a b:Int):Int:=if a > b then a else b
def lW (all:ag):ag→Nat→aR→Int→Int→Ty.d kR
 | [],_,d,last,code=>bif code==0&&decide ((cB all).length > 0) then (d,(last,(1,()))) else (d,(last,(code,())))
 | p::rest,i,d,last,code =>
  bif code != 0 then (d,(last,(code,()))) else
  bif p.2.2.2.1.1==3 then (bif jr p.2.2.2.1 (fh p.2.2.2.1.2.1 (all.take i)) then lW all rest (i+1) (cZ d (fh p.2.2.2.1.2.1 (all.take i))) (oP p.2.2.2.1.2.1 last) (o8 (cZ d (fh p.2.2.2.1.2.1 (all.take i))) code)
   else lW all rest (i+1) d (oP p.2.2.2.1.2.1 last) code) else
  bif p.2.2.2.1.1==5 then (bif jr p.2.2.2.1 (cB (all.take i)) then lW all rest (i+1) (cZ d (cB (all.take i))) (oP p.2.2.2.1.2.1 last) (o8 (cZ d (cB (all.take i))) code)
   else lW all rest (i+1) d (oP p.2.2.2.1.2.1 last) 1) else
  lW all rest (i+1) d (oP p.2.2.2.1.2.1 last) code
def ia (g:Ty.d kR) (l:ag):Ty.d kR:=lW l l 0 g.1 g.2.1 g.2.2.1
def M2 (d:aR) (code:Int):Prop:=d.length≤268435456∧(code=0→d.length≤134217728)
theorem AA {d:aR} {own:ag} {code:Int} (h:M2 d 0) (ho:own.length≤134217728):M2 (cZ d own) (o8 (cZ d own) code):=by
 have h1:=Az own d;have h2:=h.2 rfl;refine ⟨by omega,fun q=>?_⟩;unfold o8 at q;split at q
 · cases q
 · omega
theorem LG {d:aR} (h:M2 d 0):M2 d 1:=⟨h.1,fun q=>by cases q⟩
theorem zI {k:Nat} (hk:2 ^ 50≤k) (g:Ty.d kR) {l:ag} (hl:l.length≤134217728) (hd:g.1.length≤134217728):dl.f k g l=some (ia g l,()):=by
 unfold dl.f dl.t;have cp:cL.f k g.1=some (g.1,()):=by unfold cL.f cL.t;rw [bn (by omega) (by decide)]
 rw [cp,ac];simp only [];have key:=Py (L:=fun n i (s:aR × Int × Int)=>dl.l0 k n l l l.length i [] 0 0 s.1 s.2.1 s.2.2) (R:=fun (q:ag) s=>some (lW l q (l.length-q.length) s.1 s.2.1 s.2.2,())) (Ty.z aL) l (fun i s=>M2 s.1 s.2.2) (fun n s hs=>?_) (fun n i s x rest h0 h1 hx hr hp ih=>?_) k 0 (g.1,(g.2.1,g.2.2.1)) (by omega) (by omega) (by omega) ⟨by simp only [];omega,fun _=>by simp only [];omega⟩
 · have e:l.drop (Int.toNat 0)=l:=rfl;rw [e,Nat.sub_self] at key;exact key
 · obtain ⟨d,last,code⟩:=s;have hm:=vX hk (l:=l) (r:=(5,(0,(ByteArray.empty,(ByteArray.empty,(0,(0,()))))))) rfl (by omega);simp (disch:=omega) only [dl.l0,dl.b0,aY,aJ,lW,hm,ac];cases c1:(code==0)
   · rfl
   · by_cases c2:(cB l).length > 0
     · rw [aW (show ((cB l).length:Int) > 0 by omega),aW c2];rfl
     · rw [aY (show ¬ ((cB l).length:Int) > 0 by omega),aY c2];rfl
 · obtain ⟨d,last,code⟩:=s;simp only [] at hp ih;have hi:l.length-(x::rest).length=i.toNat:=by
    have:=congrArg List.length hr;rw [List.length_drop] at this;omega
   have hi2:l.length-rest.length=i.toNat+1:=by rw [j7] at hi;have:=congrArg List.length hr;rw [List.length_drop,j7] at this;omega
   have htk:(l.take i.toNat).length≤134217728:=by rw [List.length_take];omega
   have ih:=fun a b c h=>ih (a,(b,c)) h
   simp only [hi2] at ih;rw [hi];simp (disch:=omega) only [dl.l0,dl.b0,aW h1,aa,aT,hx,aF,lW];by_cases c0:code=0
   case neg =>rw [show (code != 0)=true from bne_iff_ne.2 c0];rfl
   subst c0;simp only [show ((0:Int) != 0)=false from rfl,aJ];by_cases c3:x.2.2.2.1.1=3
   · have b3:(x.2.2.2.1.1==3)=true:=by rw [c3];rfl
     have b3':(x.2.2.2.1.1 != 3)=false:=by rw [c3];rfl
     have b5:(x.2.2.2.1.1==5)=false:=by rw [c3];rfl
     have hlen:=G7 x.2.2.2.1.2.1 (l.take i.toNat);simp only [b3,b3',b5,aa,aJ];rw [d7 (by omega) (by omega),Eb hk c3 (by omega),ac];simp only [];rw [sr hk _ (by omega),ac];cases c:jr x.2.2.2.1 (fh x.2.2.2.1.2.1 (l.take i.toNat)) with
     | true =>simp only [aa];rw [vu hk _ (by omega) (by simp only [];exact hp.1),ac];exact ih _ _ _ (AA hp (by omega))
     | false =>simp only [aJ];exact ih _ _ _ hp
   · have b3:(x.2.2.2.1.1==3)=false:=qi c3;have b3':(x.2.2.2.1.1 != 3)=true:=bne_iff_ne.2 c3;by_cases c5:x.2.2.2.1.1=5
     · have b5:(x.2.2.2.1.1==5)=true:=by rw [c5];rfl
       have b5':(x.2.2.2.1.1 != 5)=false:=by rw [c5];rfl
       have hlen:=G4 (l.take i.toNat);simp only [b3,b3',b5,b5',aa,aJ];rw [d7 (by omega) (by omega),vX hk c5 (by omega),ac];simp only [];rw [sr hk _ (by omega),ac];cases c:jr x.2.2.2.1 (cB (l.take i.toNat)) with
       | true =>simp only [aa];rw [vu hk _ (by omega) (by simp only [];exact hp.1),ac];exact ih _ _ _ (AA hp (by omega))
       | false =>simp only [aJ];exact ih _ _ _ (LG hp)
     · have b5:(x.2.2.2.1.1==5)=false:=qi c5;have b5':(x.2.2.2.1.1 != 5)=true:=bne_iff_ne.2 c5;simp only [b3,b3',b5,b5',aa,aJ];exact ih _ _ _ hp
theorem FM {lim lim':Int} (h:lim≤lim'):∀ (l:List Int) (p:Option Int),qM (qd lim) p l=true→qM (qd lim') p l=true
 | [],_,_=>rfl
 | x::l,p,q=>by simp only [qM,iE] at q ⊢;refine ⟨?_,FM h l _ q.2⟩;have q1:=q.1;unfold qd at q1 ⊢;rw [iE,decide_eq_true_eq] at q1 ⊢;exact ⟨⟨q1.1.1,Int.le_trans q1.1.2 h⟩,q1.2⟩
theorem H1 {lim n:Int} (h1:1≤n) (h:lim<n):∀ (l:List Int) (p:Option Int),(∀ y,p=some y→y<n)→qM (qd lim) p l=true→qM (qd n) p (l++[n])=true
 | [],p,hp,_=>by
  simp only [List.nil_append,qM,Bool.and_true];unfold qd;rw [iE,decide_eq_true_eq];refine ⟨⟨h1,Int.le_refl _⟩,?_⟩;cases p with
  | none=>rfl
  | some y=>exact decide_eq_true (hp y rfl)
 | x::l,p,hp,q=>by simp only [qM,iE,List.cons_append] at q ⊢;have q1:=q.1;unfold qd at q1;rw [iE,decide_eq_true_eq] at q1;refine ⟨?_,H1 h1 h l _ (fun y e=>by cases e;exact Int.lt_of_le_of_lt q1.1.2 h) q.2⟩;unfold qd;rw [iE,decide_eq_true_eq];exact ⟨⟨q1.1.1,Int.le_of_lt (Int.lt_of_le_of_lt q1.1.2 h)⟩,q1.2⟩
theorem Jm {n:Int} {ids:List Int} (h:dz (n,(ids,()))=true) (hn:n<100000):dz (n+1,(ids,()))=true:=by obtain ⟨g1,g2,_⟩:=bo h;unfold dz at h ⊢;simp only [iE,decide_eq_true_eq] at h ⊢;rw [aF (n:=n+1-1) (by omega) (by omega)];rw [aF (n:=n-1) (by omega) (by omega)] at h;exact ⟨⟨show (1:Int)≤n+1 by omega,show n+1≤(100000:Int) by omega⟩,h.2.1,FM (by omega) _ _ h.2.2⟩
theorem Cf {n:Int} {ids:List Int} (h:dz (n,(ids,()))=true) (hn:n<100000) (hl:ids.length<60):dz (n+1,(ids++[n],()))=true:=by
 obtain ⟨g1,g2,_⟩:=bo h;unfold dz at h ⊢;simp only [iE,decide_eq_true_eq] at h ⊢;rw [aF (n:=n+1-1) (by omega) (by omega)];rw [aF (n:=n-1) (by omega) (by omega)] at h;refine ⟨⟨show (1:Int)≤n+1 by omega,show n+1≤(100000:Int) by omega⟩,⟨?_,?_⟩,?_⟩
 · rw [nE,List.length_singleton];omega
 · rw [nE,List.length_singleton];omega
 · rw [show n+1-1=n by omega];exact H1 g1 (by omega) _ _ (fun y e=>by cases e) h.2.2
def bT (st:Ty.d aE):ByteArray:=a_ aG (bi st.1.2.1)
theorem BL {st:Ty.d aE} (h:dz st.1=true):0≤aQ ((st.1.2.1.length:Int)-1)∧aQ ((st.1.2.1.length:Int)-1)<(st.1.2.1.length:Int)∧st.1.2.1.getD (aQ ((st.1.2.1.length:Int)-1)).toNat (Ty.z (.int .i64))=bi st.1.2.1:=by obtain ⟨_,_,h1,h2,_⟩:=bo (nx:=st.1.1) (ids:=st.1.2.1) h;rw [aF (n:=(st.1.2.1.length:Int)-1) (by omega) (by omega)];refine ⟨by omega,by omega,?_⟩;unfold bi;rw [show ((st.1.2.1.length:Int)-1).toNat=st.1.2.1.length-1 by omega];rfl
theorem qI {k:Nat} {st:Ty.d aE} (h:dz st.1=true):bp.f k st=some (st,(bT st,())):=by obtain ⟨h1,h2,h3⟩:=BL h;unfold bp.f bp.t bT;rw [aT h1 h2,h3,ch,ac]
def tl (r:RD):RD:=(r.1,gh r.2)
theorem oJ (f:Ty.d aA→RD) (d:Ty.d aA):wk f (d,0)=tl (f d):=rfl
theorem pa {r:RD} (h:(r.2==0)=true):tl r=(r.1,0):=by unfold tl;rw [yd h];rfl
theorem m4 (r:RD):((tl r).2 != 0)=(r.2 != 0):=by unfold tl bne;rw [iO]
def LP (st:Ty.d aE):Ty.d aE:=((st.1.1+1,st.1.2),st.2)
def kw (st:Ty.d aE):Ty.d cv:=(st.1.1+1,(st.1.2.1++[st.1.1],()))
def uv (st:Ty.d aE):Ty.d aE:=(kw st,(st.2.1,(st.2.2.1,(0,st.2.2.2.2))))
def qt (nm:ByteArray) (r:RD):RD:=bif r.2==2 then ((bj [ib,nm] r.1).1,bif (bj [ib,nm] r.1).2==0 then 2 else gh (bj [ib,nm] r.1).2) else r
def iC (st:Ty.d aE) (d:Ty.d aA):Ty.d aE × RD :=
 bif decide ((st.1.2.1.length:Int)≥60) then (st,(d,5)) else bif decide (st.1.1≥100000) then (st,(d,5)) else
 bif (dY d (bT st)).2 != 0 then (st,tl (dY d (bT st))) else
 bif (ax (a_ aG st.1.1) (dY d (bT st)).1).2 != 0 then (LP st,tl (ax (a_ aG st.1.1) (dY d (bT st)).1)) else
 bif (bE (kw st) (ax (a_ aG st.1.1) (dY d (bT st)).1).1).2 != 0 then (LP st,qt (a_ aG st.1.1) (tl (bE (kw st) (ax (a_ aG st.1.1) (dY d (bT st)).1).1)))
 else (uv st,((bE (kw st) (ax (a_ aG st.1.1) (dY d (bT st)).1).1).1,0))
structure SR (st:Ty.d aE) (r:RD) (B:Int):Prop where
 live:dz st.1=true
 disk:DR r.1
 lo:LE.le (α:=Int) 0 st.2.2.2.1
 hi:LE.le (α:=Int) st.2.2.2.1 B
theorem H8 (n:Int):(a_ aG n).size≤1000:=by
 unfold a_;by_cases h:(1:Int)≤n∧n≤100000
 · rw [aW h,aa,ByteArray.size_append];have:=nT (n:=n) (by omega) (by omega);have:aG.size=3:=rfl;omega
 · rw [aY h];exact Nat.zero_le _
theorem HS {k:Nat} (hk:2 ^ 50≤k) {st:Ty.d aE} {d:Ty.d aA} (hl:dz st.1=true) (hd:DR d):fX.f k st (wO (d,0))=some ((iC st d).1,(wO (iC st d).2,())):=by
 obtain ⟨g1,g2,g3,g4,_⟩:=bo (nx:=st.1.1) (ids:=st.1.2.1) hl;have hsz:=H8 st.1.1;unfold fX.f fX.t iC;by_cases c1:(st.1.2.1.length:Int)≥60
 · rw [aW c1];rfl
 by_cases c2:st.1.1≥(100000:Int)
 · rw [aY c1,aW c2];rfl
 have c2':LT.lt (α:=Int) st.1.1 100000:=Int.not_le.1 c2;rw [aY c1,aY c2];simp only [aJ];rw [qI hl,ac];simp only [];rw [ob hk _ hd,ac,oJ];simp only [];have h1:=mj hd (bT st);generalize dY d (bT st)=r1 at h1 ⊢;rw [show (wO (tl r1)).2.1=(tl r1).2 from rfl,m4];cases c3:r1.2 != 0 with
 | true=>rfl
 | false =>
  simp only [aJ];rw [pa (r:=r1) (by unfold bne at c3;simpa using c3),ch,ac];simp only [];rw [rN hk (r1.1,0) h1 (by omega),ac,oJ];simp only [];have h2:=jF (a_ aG st.1.1) _ h1;generalize ax (a_ aG st.1.1) r1.1=r2 at h2 ⊢;have ew:aQ (st.1.1+1)=st.1.1+1:=aF (by omega) (by omega);rw [show (wO (tl r2)).2.1=(tl r2).2 from rfl,m4,ew];cases c4:r2.2 != 0 with
  | true=>rfl
  | false =>
   simp only [aJ];rw [pa (r:=r2) (by unfold bne at c4;simpa using c4)];have ec:dX.f k ((st.1.1+1,st.1.2):Ty.d cv)=some (((st.1.1+1,st.1.2):Ty.d cv),()):=by unfold dX.f dX.t;rw [bn (by show st.1.2.1.length≤_;omega) (by decide)]
   rw [ec,ac];simp only [];have hlen:(st.1.2.1++[st.1.1]).length≤1073741824:=by rw [nE,List.length_singleton];omega
   rw [bn (by omega) (by decide),qA hk (r2.1,0) h2 (v:=(st.1.1+1,(st.1.2.1++[st.1.1],()))) hlen,ac,oJ];simp only [];have h3:=mP (kw st) _ h2;rw [show ((st.1.1+1,(st.1.2.1++[st.1.1],())):Ty.d cv)=kw st from rfl];generalize bE (kw st) r2.1=r3 at h3 ⊢;rw [show (wO (tl r3)).2.1=(tl r3).2 from rfl,m4];cases c5:r3.2 != 0 with
   | true =>simp only [aa];rw [ac,show (⟨#[116,101,109,112]⟩:ByteArray)=ib from rfl];simp only [];rw [xd hk (tl r3) h3 (by simp),ac];rfl
   | false =>simp only [aJ];rw [pa (r:=r3) (by unfold bne at c5;simpa using c5)];rfl
theorem tu {st:Ty.d aE} {d:Ty.d aA} (hl:dz st.1=true) (hd:DR d):dz (iC st d).1.1=true∧DR (iC st d).2.1∧(iC st d).1.2.1=st.2.1∧((iC st d).1.2.2.2.1=st.2.2.2.1∨(iC st d).1.2.2.2.1=0):=by
 unfold iC;by_cases c1:(st.1.2.1.length:Int)≥60
 · rw [aW c1];exact ⟨hl,hd,rfl,.inl rfl⟩
 by_cases c2:st.1.1≥(100000:Int)
 · rw [aY c1,aW c2];exact ⟨hl,hd,rfl,.inl rfl⟩
 have c1':st.1.2.1.length<60:=by omega
 have c2':LT.lt (α:=Int) st.1.1 100000:=Int.not_le.1 c2;have hn:dz (LP st).1=true:=Jm (ids:=st.1.2.1) hl c2';have hg:dz (uv st).1=true:=Cf hl c2' c1';have h1:=mj hd (bT st);have h2:=jF (a_ aG st.1.1) _ h1;have h3:=mP (kw st) _ h2;rw [aY c1,aY c2];simp only [aJ];generalize dY d (bT st)=r1 at h1 h2 h3 ⊢;generalize ax (a_ aG st.1.1) r1.1=r2 at h2 h3 ⊢;generalize bE (kw st) r2.1=r3 at h3 ⊢;cases r1.2 != 0 with
 | true=>exact ⟨hl,h1,rfl,.inl rfl⟩
 | false =>
  cases r2.2 != 0 with
  | true=>exact ⟨hn,h2,rfl,.inl rfl⟩
  | false =>
   cases r3.2 != 0 with
   | true =>
    refine ⟨hn,?_,rfl,.inl rfl⟩;simp only [aa,aJ];unfold qt;cases (tl r3).2==2 with
    | true=>exact k9 _ _ h3
    | false=>exact h3
   | false=>exact ⟨hg,h3,rfl,.inr rfl⟩
def J8:Ty.d aL:=(0,(0,(0,((0,(0,(ByteArray.empty,(ByteArray.empty,(0,(0,())))))),()))))
def QL (st:Ty.d aE) (n:Int):Ty.d aE:=(st.1,(st.2.1,(st.2.2.1,(n,st.2.2.2.2))))
def ip (st:Ty.d aE) (d:Ty.d aA) (r:Ty.d bf):(Ty.d aE × RD) × Ty.d aL :=
 bif (jS d (bT st) (aS (aI r))).2 != 0 then ((st,tl (jS d (bT st) (aS (aI r)))),J8)
 else ((QL st (st.2.2.2.1+ar r),((jS d (bT st) (aS (aI r))).1,0)),(bi st.1.2.1,(st.2.2.2.1,(ar r,(r,())))))
def eW (st:Ty.d aE) (d:Ty.d aA) (r:Ty.d bf):(Ty.d aE × RD) × Ty.d aL :=
 bif decide (st.2.2.2.1 > 0)&&decide (st.2.2.2.1+ar r > 200) then
  (bif (iC st d).2.2 != 0 then (iC st d,J8) else ip (iC st d).1 (iC st d).2.1 r)
 else ip st d r
def gO (p:Ty.d aL):Ty.d bf:=p.2.2.2.1
theorem CO {st:Ty.d aE} {d:Ty.d aA} (hl:dz st.1=true) (hd:DR d) {B:Int} (h0:LE.le (α:=Int) 0 st.2.2.2.1) (h1:LE.le (α:=Int) st.2.2.2.1 B) (r:Ty.d bf) :
 SR (ip st d r).1.1 (ip st d r).1.2 (B+211)∧(ip st d r).1.1.2.1=st.2.1∧((ip st d r).1.2.2=0→gO (ip st d r).2=r):=by
 have hr:=mV r;have ha:=qs hd (bT st) (aS (aI r));unfold ip;generalize jS d (bT st) (aS (aI r))=a at ha ⊢;cases c:a.2 != 0 with
 | true =>
  refine ⟨⟨hl,ha,h0,?_⟩,rfl,fun e=>?_⟩
  · show LE.le (α:=Int) st.2.2.2.1 (B+211);omega
  · have e:(tl a).2=0:=e;have q:=m4 a;rw [e,c] at q;cases q
 | false =>
  refine ⟨⟨hl,ha,?_,?_⟩,rfl,fun e=>rfl⟩
  · show LE.le (α:=Int) 0 (st.2.2.2.1+ar r);omega
  · show LE.le (α:=Int) (st.2.2.2.1+ar r) (B+211);omega
theorem xJ {st:Ty.d aE} {d:Ty.d aA} {B:Int} (h:SR st (d,0) B) (hB:0≤B) (r:Ty.d bf) :
 SR (eW st d r).1.1 (eW st d r).1.2 (B+211)∧(eW st d r).1.1.2.1=st.2.1∧((eW st d r).1.2.2=0→gO (eW st d r).2=r):=by
 obtain ⟨hl,hd,h0,h1⟩:=h;unfold eW;cases decide (st.2.2.2.1 > 0)&&decide (st.2.2.2.1+ar r > 200) with
 | false=>exact CO hl hd h0 h1 r
 | true =>
  obtain ⟨g1,g2,g3,g4⟩:=tu hl hd;generalize iC st d=q at g1 g2 g3 g4 ⊢;have s0:LE.le (α:=Int) 0 q.1.2.2.2.1:=by rcases g4 with e | e <;> rw [e];exact h0;exact Int.le_refl _
  have s1:LE.le (α:=Int) q.1.2.2.2.1 B:=by rcases g4 with e | e <;> rw [e];exact h1;exact hB
  cases c:q.2.2 != 0 with
  | true =>
   refine ⟨⟨g1,g2,s0,?_⟩,g3,fun e=>?_⟩
   · show LE.le (α:=Int) q.1.2.2.2.1 (B+211);omega
   · have e:q.2.2=0:=e;rw [e] at c;cases c
  | false =>obtain ⟨k1,k2,k3⟩:=CO g1 g2 s0 s1 r;exact ⟨k1,k2.trans g3,k3⟩
theorem zw {k:Nat} (hk:2 ^ 50≤k) {st:Ty.d aE} {d:Ty.d aA} (hl:dz st.1=true) (hd:DR d) (r:Ty.d bf) (h0:LE.le (α:=Int) 0 st.2.2.2.1) (h1:LE.le (α:=Int) st.2.2.2.1 1099511627776) :
 ∃ e,((dR (aQ ((List.length st.1.2.1:Int)-1)) (List.length st.1.2.1:Int) ((bp.f k st).bind fun r4=>((cU.f k (wO (d,0)) r4.2.1 (aS (aI r))).bind fun r5=>(bif (r5.1.2.1==0) then
  (some ((r4.1.1,(r4.1.2.1,(r4.1.2.2.1,((aQ (r4.1.2.2.2.1+(ByteArray.size (aS (aI r)):Int))),r4.1.2.2.2.2)))),(r5.1,((r.2.2.1,((List.getD st.1.2.1 (Int.toNat (aQ ((List.length st.1.2.1:Int)-1))) (Ty.z (.int .i64))),(st.2.2.2.1,((ByteArray.size (aS (aI r)):Int),(r.2.1,()))))),()))))
  else (some (r4.1,(r5.1,((r.2.2.1,((List.getD st.1.2.1 (Int.toNat (aQ ((List.length st.1.2.1:Int)-1))) (Ty.z (.int .i64))),(st.2.2.2.1,((ByteArray.size (aS (aI r)):Int),(r.2.1,()))))),())))))))):gC.Rs) =
 some ((ip st d r).1.1,(wO (ip st d r).1.2,(e,())))∧((ip st d r).1.2.2=0→e=dc (ip st d r).2):=by
 obtain ⟨g1,g2,g3⟩:=BL hl;have hr:=mV r;have hz:((aS (aI r)).size:Int)=ar r:=rfl;refine ⟨(r.2.2.1,(bi st.1.2.1,(st.2.2.2.1,(ar r,(r.2.1,()))))),?_,?_⟩
 · rw [aT g1 g2,qI hl,ac];simp only [];rw [xP hk (d,0) hd (bT st) (t:=aS (aI r)) (by omega),ac,oJ];unfold ip;simp only [];generalize jS d (bT st) (aS (aI r))=a;rw [show (wO (tl a)).2.1=(tl a).2 from rfl,g3,hz];have q:=m4 a;unfold bne at q ⊢;cases c:a.2==0 with
   | true =>
    rw [c] at q;have q:((tl a).2==0)=true:=by simpa using q
    rw [q,pa c];simp only [aa,aJ,fw];rw [aF (by omega) (by omega)];rfl
   | false =>
    rw [c] at q;have q:((tl a).2==0)=false:=by simpa using q
    rw [q];rfl
 · unfold ip;generalize jS d (bT st) (aS (aI r))=a;cases c:a.2 != 0 with
   | true =>intro e;have e:(tl a).2=0:=e;have q:=m4 a;rw [e,c] at q;cases q
   | false=>exact fun _=>rfl
theorem Hu {k:Nat} (hk:2 ^ 50≤k) {st:Ty.d aE} {d:Ty.d aA} {B:Int} (h:SR st (d,0) B) (hB:0≤B) (hB':B≤1000000000) (r:Ty.d bf) :
 ∃ e,gC.f k st (wO (d,0)) r=some ((eW st d r).1.1,(wO (eW st d r).1.2,(e,())))∧((eW st d r).1.2.2=0→e=dc (eW st d r).2):=by
 obtain ⟨hl,hd,h0,h1⟩:=h;have hr:=mV r;have hz:((aS (aI r)).size:Int)=ar r:=rfl;have own:=zw (d:=d) hk hl hd r h0 (by omega);have e1:aQ (st.2.2.2.1+((aS (aI r)).size:Int))=st.2.2.2.1+ar r:=aF (by omega) (by omega);have hw:((wO (d,0)).2.1 != 0)=false:=rfl;unfold gC.f gC.t;rw [oq hk,ac];simp only [];rw [oL hk,ac];simp only [];rw [hw];simp only [aJ];unfold eW;rw [e1];by_cases c1:LT.lt (α:=Int) 0 st.2.2.2.1
 · rw [aW (show st.2.2.2.1 > 0 from c1)];simp only [Bool.true_and,aa];by_cases c2:LT.lt (α:=Int) 200 (st.2.2.2.1+ar r)
   · rw [aW (show st.2.2.2.1+ar r > 200 from c2)];simp only [aa];rw [HS hk hl hd,ac];simp only [];obtain ⟨g1,g2,g3,g4⟩:=tu hl hd;generalize iC st d=q at g1 g2 g3 g4 ⊢;rw [show (wO q.2).2.1=q.2.2 from rfl];cases c:q.2.2 != 0 with
     | true =>refine ⟨_,rfl,fun e=>?_⟩;have e:q.2.2=0:=e;rw [e] at c;cases c
     | false =>
      have s0:LE.le (α:=Int) 0 q.1.2.2.2.1:=by rcases g4 with e | e <;> rw [e];exact h0;exact Int.le_refl _
      have s1:LE.le (α:=Int) q.1.2.2.2.1 B:=by rcases g4 with e | e <;> rw [e];exact h1;exact hB
      have e2:wO q.2=wO (q.2.1,0):=by
       have:q.2.2=0:=by unfold bne at c;simpa using c
       show (q.2.1,(q.2.2,()))=(q.2.1,((0:Int),()));rw [this]
      simp only [aJ];rw [e2];exact zw hk g1 g2 r s0 (by omega)
   · rw [aY (show ¬ st.2.2.2.1+ar r > 200 from c2)];simp only [aJ];exact own
 · rw [aY (show ¬ st.2.2.2.1 > 0 from c1)];simp only [Bool.false_and,aJ];exact own
def fT (d:Ty.d aA) (s:ByteArray):Option ByteArray:=(bU d.1 s).map (·.2.1)
theorem iv {d:Ty.d aA} (h:DR d) (s:ByteArray):(bJ d s).1=(fT d s).getD ⟨#[]⟩:=by rw [mO h];unfold fT;cases bU d.1 s <;> rfl
theorem zB:∀ {l:bq} {f:Ty.d cI} {t:ByteArray},bU l f.1=none→bU (kv l f) t=bif seq f.1 t then some f else bU l t
 | [],f,t,_=>rfl
 | g::l,f,t,h=>by
  unfold bU at h;cases c:seq g.1 f.1 with
  | true=>rw [c] at h;cases h
  | false =>
   rw [c,aJ] at h;unfold kv;cases nd f.1 g.1 with
   | true=>rfl
   | false =>
    simp only [aJ];rw [bU.eq_2,zB h,bU.eq_2];by_cases q:f.1=t
    · rw [q] at c ⊢;rw [c,bQ];rfl
    · rw [kZ q];rfl
theorem AG {l:bq} {f:Ty.d cI} {t:ByteArray} (h:f.1≠t):bU (kv l f) t=bU l t:=by
 induction l with
 | nil=>unfold kv;rw [bU.eq_2,kZ h];rfl
 | cons g l ih =>
  unfold kv;cases nd f.1 g.1 with
  | true=>rw [aa,bU.eq_2,kZ h,aJ]
  | false=>rw [aJ,bU.eq_2,ih,bU.eq_2]
theorem vx {d:Ty.d aA} {g:bq→Int→bq × Int} {t:ByteArray} (h:∀ l c,(bU (g l c).1 t).map (·.2.1)=(bU l t).map (·.2.1)):fT (iQ d g).1 t=fT d t:=by
 unfold iQ fT;cases (m6 d).2 != 0 with
 | true=>rw [aa,zE]
 | false=>exact h d.1 d.2.1
theorem NM {d:Ty.d aA} {s t:ByteArray} (h:s≠t):fT (rk d s).1 t=fT d t:=vx fun l c=>by
 unfold uE;cases !jQ s with
 | true=>rfl
 | false =>
  cases (bU l s).isSome with
  | true=>rfl
  | false =>
   cases decide ((l.length:Int)≥130) with
   | true=>rfl
   | false =>show (bU (kv l (s,(ByteArray.empty,(0,())))) t).map _=_;rw [AG (f:=(s,(ByteArray.empty,(0,())))) h]
theorem uz {d:Ty.d aA} {s t x:ByteArray} (h:s≠t):fT (jS d s x).1 t=fT d t:=vx fun l c=>by
 unfold An;cases (bU l s).isNone with
 | true=>rfl
 | false =>
  cases decide ((x.size:Int) > aQ (c-(du l:Int))) with
  | true=>rfl
  | false =>show (bU (lQ (fun f=>(f.1,(f.2.1++x,f.2.2))) l s) t).map _=_;rw [tn (h:=fun f:Ty.d cI=>(f.1,(f.2.1++x,f.2.2))) (fun f=>rfl),kZ (fun q=>h q.symm)];rfl
theorem lH {d:Ty.d aA} {s t:ByteArray}:fT (dY d s).1 t=fT d t:=vx fun l c=>by
 unfold wC;cases (bU l s).isNone with
 | true=>rfl
 | false =>
  show (bU (lQ (fun f=>(f.1,(f.2.1,((f.2.1.size:Int),f.2.2.2)))) l s) t).map _=_;rw [tn (h:=fun f:Ty.d cI=>(f.1,(f.2.1,((f.2.1.size:Int),f.2.2.2)))) (fun f=>rfl)];by_cases q:t=s
  · rw [q,bQ];cases bU l s <;> rfl
  · rw [kZ q];rfl
theorem Pf {d:Ty.d aA} {s t:ByteArray} (h:s≠t):fT (yU d s).1 t=fT d t:=vx fun l c=>by
 unfold v7;cases (bU l s).isNone with
 | true=>rfl
 | false =>show (bU (gi l s) t).map _=_;rw [ym (fun q=>h q.symm)]
theorem QV {d:Ty.d aA} {a b t:ByteArray} (h1:a≠t) (h2:b≠t):fT (xS d a b).1 t=fT d t:=vx fun l c=>by
 unfold wB;cases !jQ b with
 | true=>rfl
 | false =>
  simp only [aJ];cases bU l a with
  | none=>rfl
  | some f =>
   cases seq a b with
   | true=>rfl
   | false =>show (bU (kv (gi (gi l a) b) (b,f.2)) t).map _=_;rw [AG (f:=(b,f.2)) h2,ym (fun q=>h2 q.symm),ym (fun q=>h1 q.symm)]
theorem rR {d:Ty.d aA} {s x:ByteArray}:fT (jS d s x).1 s=bif (jS d s x).2==0 then (fT d s).map (·++x) else fT d s:=by
 unfold jS iQ fT;cases c:(m6 d).2 != 0 with
 | true =>
  rw [aa,zE];have:((m6 d).2==0)=false:=by unfold bne at c;simpa using c
  rw [this];rfl
 | false =>
  simp only [aJ];unfold An;cases c1:bU d.1 s with
  | none=>simp only [Option.isNone_none,aa];rw [c1];rfl
  | some f =>
   simp only [Option.isNone_some,aJ];cases decide ((x.size:Int) > aQ (d.2.1-(du d.1:Int))) with
   | true=>simp only [aa];rw [c1];rfl
   | false =>simp only [aJ];rw [tn (h:=fun f:Ty.d cI=>(f.1,(f.2.1++x,f.2.2))) (fun f=>rfl),bQ,c1];rfl
theorem pe {r:RD} {f:Ty.d aA→RD} {t:ByteArray} {x:Option ByteArray} (h1:fT r.1 t=x) (h2:∀ y,fT (f y).1 t=fT y t):fT (fD r f).1 t=x:=by
 unfold fD;cases r.2==0 with
 | true=>exact (h2 _).trans h1
 | false=>exact h1
theorem EF {d:Ty.d aA} {s t:ByteArray} (h:s≠t):fT (gU s d).1 t=fT d t:=by
 unfold gU;cases (bU d.1 s).isSome with
 | true=>exact Pf h
 | false=>rfl
theorem lf {d:Ty.d aA} {s t:ByteArray} (h:s≠t):fT (ax s d).1 t=fT d t:=pe (EF h) fun y=>NM h
theorem Dt {d:Ty.d aA} {s t x:ByteArray} (h:s≠t):fT (lM s x d).1 t=fT d t:=pe (pe (lf h) fun y=>uz h) fun y=>lH
theorem fo {d:Ty.d aA} {v:Ty.d cv} {t:ByteArray} (h1:ib≠t) (h2:gg≠t):fT (bE v d).1 t=fT d t:=pe (Dt h1) fun y=>QV h1 h2
theorem oo {t:ByteArray}:∀ (l:List ByteArray) (d:Ty.d aA),(∀ s ∈ l,s≠t)→fT (bj l d).1 t=fT d t
 | [],_,_=>rfl
 | s::l,d,h=>by
  show fT (fD (gU s d) (bj l)).1 t=_;exact pe (EF (h s il)) fun y=>oo l y fun q hq=>h q (kS _ hq)
def dC:ja→Ty.d aE→Ty.d aA→ag→(Ty.d aE × RD) × ag
 | [],st,d,ps=>((st,(d,0)),ps)
 | r::l,st,d,ps=>bif (eW st d r).1.2.2 != 0 then ((eW st d r).1,ps) else dC l (eW st d r).1.1 (eW st d r).1.2.1 (ps++[(eW st d r).2])
def Rj (st:Ty.d aE) (dir:aR):Ty.d aE:=(st.1,(dir,st.2.2))
def yP (n:Nat) (q:(Ty.d aE × RD) × ag):Ty.d aE × RD :=
 bif q.1.2.2 != 0 then q.1 else bif (dY q.1.2.1 (bT q.1.1)).2 != 0 then (q.1.1,tl (dY q.1.2.1 (bT q.1.1))) else (Rj q.1.1 (cZ q.1.1.2.1 (q.2.take n)),((dY q.1.2.1 (bT q.1.1)).1,0))
def lP (st:Ty.d aE):Ty.d aE:=(st.1,(st.2.1,(st.2.2.1+1,st.2.2.2)))
def cN (st:Ty.d aE) (d:Ty.d aA) (l:eU):Ty.d aE × RD:=yP l.length (dC (da l st.2.2.1) (lP st) d [])
theorem uo:∀ (l:ja) (st:Ty.d aE) (d:Ty.d aA) (ps:ag) (B:Int),SR st (d,0) B→0≤B →
 SR (dC l st d ps).1.1 (dC l st d ps).1.2 (B+211*(l.length:Int))∧(dC l st d ps).1.1.2.1=st.2.1∧((dC l st d ps).1.2.2=0→(dC l st d ps).2.map gO=ps.map gO++l)
 | [],st,d,ps,B,h,_=>⟨⟨h.live,h.disk,h.lo,by have:=h.hi;show LE.le (α:=Int) st.2.2.2.1 _;rw [List.length_nil];omega⟩,rfl,fun _=>(List.append_nil _).symm⟩
 | r::l,st,d,ps,B,h,hB=>by
  obtain ⟨g1,g2,g3⟩:=xJ h hB r;unfold dC;have el:((r::l).length:Int)=(l.length:Int)+1:=by rw [j7];omega
  cases c:(eW st d r).1.2.2 != 0 with
  | true =>
   refine ⟨⟨g1.live,g1.disk,g1.lo,?_⟩,g2,fun e=>?_⟩
   · have:=g1.hi;show LE.le (α:=Int) (eW st d r).1.1.2.2.2.1 _;omega
   · have e:(eW st d r).1.2.2=0:=e;rw [e] at c;cases c
  | false =>
   have e0:(eW st d r).1.2.2=0:=by unfold bne at c;simpa using c
   obtain ⟨k1,k2,k3⟩:=uo l (eW st d r).1.1 (eW st d r).1.2.1 (ps++[(eW st d r).2]) (B+211) ⟨g1.live,g1.disk,g1.lo,g1.hi⟩ (by omega);refine ⟨⟨k1.live,k1.disk,k1.lo,?_⟩,k2.trans g2,fun e=>?_⟩
   · have:=k1.hi;show LE.le (α:=Int) (dC l (eW st d r).1.1 (eW st d r).1.2.1 (ps++[(eW st d r).2])).1.1.2.2.2.1 _;omega
   · have:=k3 e;show (dC l (eW st d r).1.1 (eW st d r).1.2.1 (ps++[(eW st d r).2])).2.map gO=_;rw [this,List.map_append,List.map_singleton,g3 e0,oK];rfl
def oR:aR→eU→aR→aR
 | dir,[],_=>dir
 | dir,_::_,[]=>dir
 | dir,p::l,e::es=>oR (bif p.2.1 then m0 dir p.1 else rA dir e) l es
theorem pC (dir:aR) (es:aR):oR dir [] es=dir:=by cases es <;> rfl
theorem ux (b:Int):∀ (l:eU) (ps:ag) (q:ja) (dir:aR),ps.map gO=l.map (gx b)++q→oR dir l (ps.map dc)=cZ dir (ps.take l.length)
 | [],ps,q,dir,h=>by rw [List.length_nil,List.take_zero,pC];rfl
 | x::l,[],q,dir,h=>by cases h
 | x::l,p::ps,q,dir,h=>by
  rw [List.map_cons,List.map_cons,List.cons_append] at h;injection h with h1 h2;rw [List.map_cons,j7,List.take_succ_cons];unfold oR cZ;rw [List.foldl_cons,ux b l ps q _ h2];unfold cZ;congr 1;unfold gF;rw [show p.2.2.2.1=gx b x from h1];unfold gx;cases x.2.1 <;> rfl
def xQ (p:Ty.d aM):Ty.d aC:=(p.1,(0,(0,(0,(0,())))))
def oC (dir:aR) (l:eU):Int:=((oR dir l (l.map xQ)).length:Int)
theorem Nn (l:aR) (e:Ty.d aC):(rA l e).length≤l.length+1:=by unfold rA;rw [GD];have:=qP l e.1;omega
theorem CR {k:Nat} (hk:2 ^ 50≤k) {l:eU} (hl:l.length≤1000) {es:aR} (he:l.length≤es.length) {L:Nat→Int→aR→gG.Rs}
 (hL:∀ n i s,L (n+1) i s=bif decide (i<(l.length:Int)) then dR i (l.length:Int) (bif (l.getD i.toNat (Ty.z aM)).2.1 then ((cE.f k s (l.getD i.toNat (Ty.z aM)).1).bind fun r=>L n (aQ (i+1)) r.1) else
  (dR i (es.length:Int) ((dG.f k s (es.getD i.toNat (Ty.z aC))).bind fun r=>L n (aQ (i+1)) r.1))) else some (s,()))
 (n:Nat) (i:Int) (s:aR) (h0:0≤i) (h1:i≤(l.length:Int)) (h2:(l.length:Int)-i<n) (hs:(s.length:Int)≤536870912+i):L n i s=some (oR s (l.drop i.toNat) (es.drop i.toNat),()):=by
 refine M7 (L:=L) (R:=fun i s=>some (oR s (l.drop i.toNat) (es.drop i.toNat),())) (l.length:Int) (fun i s=>(s.length:Int)≤536870912+i) (fun n s hs=>?_) (fun n i s h0 h1 hp ih=>?_) n i s h0 h1 h2 hs
 · rw [hL,aY (by omega),aJ,Int.toNat_natCast,List.drop_length,pC]
 · have hi:i.toNat<l.length:=by omega
   have hj:i.toNat<es.length:=by omega
   have e1:l.drop i.toNat=l.getD i.toNat (Ty.z aM)::l.drop (i+1).toNat:=by rw [List.drop_eq_getElem_cons hi,show (i+1).toNat=i.toNat+1 by omega];simp [List.getD,hi]
   have e2:es.drop i.toNat=es.getD i.toNat (Ty.z aC)::es.drop (i+1).toNat:=by rw [List.drop_eq_getElem_cons hj,show (i+1).toNat=i.toNat+1 by omega];simp [List.getD,hj]
   rw [hL,aW h1,aa,aT h0 h1,e1,e2];simp only [oR];generalize l.getD i.toNat (Ty.z aM)=x;generalize es.getD i.toNat (Ty.z aC)=e;rw [aF (n:=i+1) (by omega) (by omega),aT h0 (by omega)];cases c:x.2.1 with
   | true =>have:=qP s x.1;simp only [aa];rw [p5 hk x.1 (by omega),ac];exact ih (m0 s x.1) (by omega)
   | false =>have:=Nn s e;simp only [aJ];rw [uI hk e (by omega),ac];exact ih (rA s e) (by omega)
theorem F4 {k:Nat} (hk:2 ^ 50≤k) {dir:aR} (hd:dir.length≤536870912) {l:eU} (hl:l.length≤1000) {es:aR} (he:l.length≤es.length):gy.f k dir l es=some (oR dir l es,()):=by unfold gy.f gy.t;exact CR hk hl he (L:=fun n i s=>gy.l0 k n es l l.length i s) (fun n i s=>rfl) k 0 dir (by omega) (by omega) (by omega) (by omega)
theorem FP {k:Nat} (hk:2 ^ 50≤k) {dir:aR} (hd:dir.length≤536870912) {l:eU} (hl:l.length≤1000) {es:aR} (he:l.length≤es.length):gG.f k dir l es=some (oR dir l es,()):=by obtain ⟨q,hq⟩:∃ q,k=q+1:=⟨k-1,by omega⟩;have k1:=CR hk hl he (L:=fun n i s=>gG.l1 k n es l l.length i s) (fun n i s=>rfl) (q+1) 0 dir (by omega) (by omega) (by omega) (by omega);unfold gG.f gG.t;refine Eq.trans ?_ k1;rw [show gG.l0 k k=gG.l0 k (q+1) by rw [← hq]];rfl
theorem Ef {k:Nat} (hk:2 ^ 50≤k) {dir:aR} (hd:dir.length≤536870912) {l:eU} (hl:l.length≤1000):eh.f k dir l=some (oC dir l,()):=by
 unfold eh.f eh.t oC;refine (fj (L:=fun n i (s:aR)=>eh.l0 k n dir l l l.length i s) (R:=fun r s=>if (s++r.map xQ).length=l.length then some (((oR dir l (s++r.map xQ)).length:Int),()) else none) (Ty.z aM) l (fun i s=>(s.length:Int)=i) (fun n s hs=>?_) (fun n i s x rest h0 h1 hx hr hp ih=>?_) (n:=k) (s:=[]) (by omega) rfl).trans ?_
 · simp (disch:=omega) only [eh.l0,eh.b0,aY,aJ];rw [FP hk hd hl (by omega),ac,List.map_nil,List.append_nil,if_pos (by omega)]
 · simp (disch:=first | omega | decide) only [eh.l0,eh.b0,aW,aa,aT,hx,bn,aF];refine (ih (s++[xQ x]) (by rw [nE,List.length_singleton];omega)).trans ?_;rw [oK];rfl
 · rw [List.nil_append,if_pos (List.length_map ..)]
theorem fJ {c:Int} (h:(c != 0)=false):c=0:=by unfold bne at h;simpa using h
theorem KN (l:eU) (b:Int):(da l b).length=l.length+1:=by unfold da;rw [nE,List.length_map];rfl
theorem De {k:Nat} (hk:2 ^ 50≤k) {st:Ty.d aE} {d:Ty.d aA} {l:eU} (h:SR st (d,0) 100000) (hb0:LE.le (α:=Int) 0 st.2.2.1) (hb:LE.le (α:=Int) st.2.2.1 1000000) (hp:eF l=true) (hd:st.2.1.length≤20) :
 cF.f k st (wO (d,0)) l=some ((cN st d l).1,(wO (cN st d l).2,())):=by
 have hl:=nU hp;unfold cF.f cF.t cN;rw [xN hk (by omega),ac];simp only [];rw [aF (n:=st.2.2.1+1) (by omega) (by omega)];have hrl:=KN l st.2.2.1;have hre:da l st.2.2.1=l.map (gx st.2.2.1)++[i_ 3 st.2.2.1 (l.map (gx st.2.2.1))]:=rfl;generalize da l st.2.2.1=rs at hrl hre ⊢;refine fj (L:=fun n i (s:(Ty.d aE × Ty.d aA) × ag)=>cF.l0 k n l rs.length i s.1.1.1.2.1 s.1.1.2.1 s.1.1.1.1 s.1.1.2.2.1 s.1.1.2.2.2.1 s.1.1.2.2.2.2.1 s.1.2.1 s.1.2.2.1 s.1.2.2.2.1 s.1.2.2.2.2.1 0 (s.2.map dc) rs)
  (R:=fun r s=>(some ((yP l.length (dC r s.1.1 s.1.2 s.2)).1,(wO (yP l.length (dC r s.1.1 s.1.2 s.2)).2,())):cF.Rs))
  (Ty.z bf) rs (fun i s=>SR s.1.1 (s.1.2,0) (100000+211*i)∧s.2.map gO=rs.take i.toNat∧s.1.1.2.1.length≤20) (fun n s hs=>?_) (fun n i s x rest h0 h1 hx hr hs ih=>?_) (n:=k) (s:=((lP st,d),[])) (by omega) ⟨⟨h.live,h.disk,h.lo,Int.le_trans h.hi (by decide)⟩,rfl,hd⟩
 · obtain ⟨⟨st',d'⟩,ps⟩:=s;obtain ⟨g1,g2,g3⟩:=hs;simp only [] at g1 g2 g3 ⊢;rw [Int.toNat_natCast,List.take_length] at g2;have hps:ps.length=rs.length:=by simpa using congrArg List.length g2
   simp only [cF.l0,cF.b0];rw [aY (by omega),aJ,show ((st'.1.1,(st'.1.2.1,())),(st'.2.1,(st'.2.2.1,(st'.2.2.2.1,(st'.2.2.2.2.1,())))))=st' from rfl,qI g1.live,ac];simp only [];rw [show ((d'.1,(d'.2.1,(d'.2.2.1,(d'.2.2.2.1,())))),((0:Int),()))=wO (d',0) from rfl,ob hk (d',0) g1.disk,ac,oJ];unfold yP dC;simp only [show ((0:Int) != 0)=false from rfl,aJ];generalize dY d' (bT st')=y;have q:=m4 y;rw [show (wO (tl y)).2.1=(tl y).2 from rfl];cases c:y.2 != 0 with
   | true =>
    rw [c] at q;have q:((tl y).2==0)=false:=by unfold bne at q;simpa using q
    rw [q];rfl
   | false =>
    rw [c] at q;have q:((tl y).2==0)=true:=by unfold bne at q;simpa using q
    rw [q];simp only [aa,aJ];rw [F4 hk (by omega) (by omega) (by rw [List.length_map];omega),ac,ux st.2.2.1 l ps [i_ 3 st.2.2.1 (l.map (gx st.2.2.1))] st'.2.1 (g2.trans hre),pa (r:=y) (by unfold bne at c;simpa using c)];rfl
 · obtain ⟨⟨st',d'⟩,ps⟩:=s;obtain ⟨g1,g2,g3⟩:=hs;simp only [] at g1 g2 g3 ih ⊢;have hi:i.toNat<rs.length:=by omega
   have et:rs.take (i+1).toNat=rs.take i.toNat++[x]:=by rw [show (i+1).toNat=i.toNat+1 by omega,List.take_succ_eq_append_getElem hi];congr 2;rw [← hx];simp [List.getD,hi]
   have hps:ps.length≤rs.length:=by have:=congrArg List.length g2;rw [List.length_map,List.length_take] at this;omega
   obtain ⟨k1,k2,k3⟩:=xJ g1 (by omega) x;obtain ⟨e,he1,he2⟩:=Hu hk g1 (by omega) (by omega) x;simp only [cF.l0,cF.b0,dC];rw [aW h1,aa,aT h0 h1,hx,show ((st'.1.1,(st'.1.2.1,())),(st'.2.1,(st'.2.2.1,(st'.2.2.2.1,(st'.2.2.2.2.1,())))))=st' from rfl,show ((d'.1,(d'.2.1,(d'.2.2.1,(d'.2.2.2.1,())))),((0:Int),()))=wO (d',0) from rfl,he1,ac];simp only [];have hk1:=k1.hi;generalize eW st' d' x=q at k1 k2 k3 hk1 he2 ⊢;rw [show (wO q.1.2).2.1=q.1.2.2 from rfl];cases c:q.1.2.2 != 0 with
   | true =>simp only [aa];unfold yP;simp only [c,aa]
   | false =>
    simp only [aJ];have z:=fJ c;have q3:=k3 z;rw [bn (by rw [List.length_map];omega) (by decide),aF (n:=i+1) (by omega) (by omega),he2 z];have e1:(ps++[q.2]).map dc=ps.map dc++[dc q.2]:=by rw [List.map_append,List.map_singleton]
    have ih:=ih ((q.1.1,q.1.2.1),ps++[q.2]) ⟨⟨k1.live,k1.disk,k1.lo,by show LE.le (α:=Int) q.1.1.2.2.2.1 _;omega⟩,by simp only [];rw [List.map_append,List.map_singleton,q3,g2,et],by simp only [];rw [k2];exact g3⟩;simp only [] at ih;rw [e1] at ih;rw [show (wO q.1.2).1=q.1.2.1 from rfl,z];exact ih
noncomputable def pX (st:Ty.d aE) (d:Ty.d aA) (l:eU):Ty.d aE × RD :=
 bif !dw st d then (st,(d,4)) else bif !eF l then (st,(d,4)) else bif (l.length:Int)==0 then (st,(d,0)) else bif decide (oC st.2.1 l > 20) then (st,(d,5)) else
 bif decide (st.2.2.1 > 1000000) then (st,(d,5)) else cN st d l
theorem DC {d:Ty.d aA} {tail:Int}:∀ {l:List Int},l≠[]→qB d tail l=true→∃ x,tail=((bJ d (a_ aG x)).1.size:Int)
 | [],h,_=>absurd rfl h
 | [x],_,h=>by unfold qB JN at h;simp only [iE,List.isEmpty_nil,fw,Bool.false_or] at h;exact ⟨x,yd h.1.2.2⟩
 | x::y::l,_,h=>by unfold qB at h;rw [iE] at h;exact DC (by intro q;cases q) h.2
theorem dT {st:Ty.d aE} {d:Ty.d aA} (h:dw st d=true):SR st (d,0) 100000∧st.2.1.length≤20∧LE.le (α:=Int) 1 st.2.2.1:=by
 unfold dw uG at h;simp only [iE,decide_eq_true_eq] at h;obtain ⟨h1,h2,⟨h3,_⟩,h4,h5,_⟩:=h;obtain ⟨_,_,g1,_,_⟩:=bo (nx:=st.1.1) (ids:=st.1.2.1) h2;have hd:=jX.1 h1;obtain ⟨x,hx⟩:=DC (by intro q;rw [q] at g1;simp at g1) h5;have hs:=lS d (a_ aG x);have hu:=hd.use;have hc:=hd.cap1;refine ⟨⟨h2,hd,?_,?_⟩,by omega,h4.1⟩
 · show LE.le (α:=Int) 0 st.2.2.2.1;rw [hx];omega
 · show LE.le (α:=Int) st.2.2.2.1 100000;rw [hx];have:LE.le (α:=Int) (du d.1) 100000:=Int.le_trans hu hc;omega
theorem Bg {k:Nat} (hk:2 ^ 50≤k) {st:Ty.d aE} {d:Ty.d aA} (hd:F3 d) (h1:st.1.2.1.length≤1073741824) (h2:st.2.1.length≤536870912) {l:eU} (hl:l.length≤1073741824) :
 je.f k st d l=some ((pX st d l).1,((pX st d l).2.1,((pX st d l).2.2,()))):=by
 have ec:cO.f k st=some (st,()):=by unfold cO.f cO.t dX.f dX.t;rw [bn (by omega) (by decide),ac];unfold cL.f cL.t;rw [bn (by omega) (by decide),ac]
 unfold je.f je.t pX;rw [ec,ac];simp only [];rw [gm k hd.l,ac];simp only [];rw [wc hk hd (by omega) (by omega),ac];simp only [];cases c1:dw st d with
 | false=>rfl
 | true =>
  simp only [fw,aJ];rw [BX hk (by omega),ac];simp only [];cases c2:eF l with
  | false=>rfl
  | true =>
   have h8:=nU c2;obtain ⟨g1,g2,g3⟩:=dT c1;simp only [fw,aJ];cases c3:(l.length:Int)==0 with
   | true=>rfl
   | false =>
    simp only [aJ];rw [Ef hk (by omega) (by omega),ac];simp only [];cases c4:decide (oC st.2.1 l > 20) with
    | true=>rfl
    | false =>
     simp only [aJ];by_cases c5:st.2.2.1 > (1000000:Int)
     · rw [aW c5];rfl
     · rw [aY c5];simp only [aJ];rw [show ((d,((0:Int),())):Ty.d am)=wO (d,0) from rfl,De hk g1 (Int.le_trans (by decide) g3) (Int.not_lt.1 c5) c2 g2,ac];rfl
theorem Dc {a b:Ty.d cv} (ha:dz a=true) (hb:dz b=true) (h:cA a=cA b):a=b:=by have h1:=p_ (k:=2 ^ 50) (Nat.le_refl _) (nx:=a.1) (ids:=a.2.1) ha;have h2:=p_ (k:=2 ^ 50) (Nat.le_refl _) (nx:=b.1) (ids:=b.2.1) hb;have e:cA (a.1,(a.2.1,()))=cA (b.1,(b.2.1,())):=h;rw [e,h2] at h1;have h3:=Option.some.inj h1;exact ((Prod.mk.inj h3).1).symm
theorem BW {v:Ty.d cv} (h:dz v=true):lp (cA v)=(v,true):=EO (fun a b ha hb=>Dc ha hb) h
theorem vj {p:ByteArray} (hp:p=aG∨p=bO) {n:Int} (h0:1≤n) (h1:n≤100000):NY (a_ p n)=(n,true):=by
 have e:a_ p n=p++kA n:=by unfold a_;rw [aW ⟨h0,h1⟩];rfl
 have hn:Qg (p++kA n) n:=⟨h0,h1,by rcases hp with q | q <;> rw [q] <;> simp⟩;rw [e];rcases nI (Qg (p++kA n)) (fun _=>p++kA n) (0:Int) (p++kA n) with ⟨r,g1,_,g3⟩ | g
 · unfold NY;rw [g3,OT g1 hn]
 · exfalso;unfold qC at g;rw [dif_pos ⟨n,hn,rfl⟩] at g;cases (Prod.mk.inj g).2
def Qe (d:Ty.d aA) (s:ByteArray):Nat:=((fT d s).getD ⟨#[]⟩).size
def uH (d:Ty.d aA) (ids:List Int):Nat:=(ids.map fun x=>Qe d (a_ aG x)).sum
def uU:aR→Int
 | []=>0
 | e::l=>e.2.2.2.1+uU l
theorem q9 {x y:Int} (hx:1≤x∧x≤100000) (hy:1≤y∧y≤100000) (h:x≠y):a_ aG x≠a_ aG y:=fun q=>by
 have e1:=vj (.inl rfl) hx.1 hx.2;have e2:=vj (.inl rfl) hy.1 hy.2;rw [q,e2] at e1;injection e1 with e1 _;exact h e1.symm
theorem vJ {x:Int} (hx:1≤x∧x≤100000):a_ aG x=aG++kA x:=by unfold a_;rw [aW hx];rfl
theorem ig {x:Int} (hx:1≤x∧x≤100000):ib≠a_ aG x:=fun q=>by rw [vJ hx] at q;have:=congrArg nb q;rw [gw] at this;cases this
theorem jW {x:Int} (hx:1≤x∧x≤100000):gg≠a_ aG x:=fun q=>by rw [vJ hx] at q;have:=congrArg nb q;rw [gw] at this;cases this
theorem gY {n:Int} {ids:List Int} (h:dz (n,(ids,()))=true):1≤n∧n≤100000∧(∀ x ∈ ids,1≤x∧x<n)∧ids.Pairwise (· < ·):=by
 obtain ⟨g1,g2,_⟩:=bo h;unfold dz at h;simp only [iE,decide_eq_true_eq] at h;have h3:=h.2.2;rw [aF (n:=n-1) (by omega) (by omega)] at h3;have key:∀ (l:List Int) (p:Option Int),qM (qd (n-1)) p l=true→(∀ x ∈ l,1≤x∧x<n∧∀ y,p=some y→y<x)∧l.Pairwise (· < ·):=by
  intro l
  induction l with
  | nil=>exact fun p _=>⟨fun x hx=>(by cases hx),List.Pairwise.nil⟩
  | cons a l ih =>
   intro p hp;simp only [qM,iE] at hp;obtain ⟨q1,q2⟩:=hp;unfold qd at q1;rw [iE,decide_eq_true_eq] at q1;obtain ⟨⟨b1,b2⟩,b3⟩:=q1;have b1:1≤a:=b1;have b2:a≤n-1:=b2;obtain ⟨i1,i2⟩:=ih (some a) q2;have ha:∀ y,p=some y→y<a:=fun y e=>by rw [e] at b3;exact of_decide_eq_true b3
   refine ⟨fun x hx=>?_,?_⟩
   · rcases List.mem_cons.1 hx with e | e
     · rw [e];exact ⟨b1,by omega,ha⟩
     · obtain ⟨c1,c2,c3⟩:=i1 x e;have:=c3 a rfl;exact ⟨c1,c2,fun y ey=>Int.lt_trans (ha y ey) this⟩
   · exact List.Pairwise.cons (fun x hx=>(i1 x hx).2.2 a rfl) i2
 obtain ⟨k1,k2⟩:=key ids none h3;exact ⟨g1,g2,fun x hx=>⟨(k1 x hx).1,(k1 x hx).2.1⟩,k2⟩
theorem Cl {d d':Ty.d aA}:∀ {ids:List Int},(∀ x ∈ ids,fT d' (a_ aG x)=fT d (a_ aG x))→uH d' ids=uH d ids
 | [],_=>rfl
 | x::l,h=>by
  unfold uH at *;rw [List.map_cons,List.map_cons,List.sum_cons,List.sum_cons];have e1:Qe d' (a_ aG x)=Qe d (a_ aG x):=by unfold Qe;rw [h x il]
  have e2:=Cl (ids:=l) fun y hy=>h y (kS _ hy)
  unfold uH at e2;rw [e1,e2]
theorem mM {ids:List Int} (h:1≤ids.length):ids=ids.dropLast++[bi ids]:=by
 have hne:ids≠[]:=by intro q;rw [q] at h;simp at h
 have e:bi ids=ids.getLast hne:=by unfold bi;rw [List.getLast_eq_getElem];simp [List.getD,show ids.length-1<ids.length by omega]
 rw [e];exact (List.dropLast_concat_getLast hne).symm
abbrev DK:=List (Ty.d d_)
def bZ (id:Int) (l:DK):ag:=l.map fun x=>(id,x)
theorem xw (id:Int) (l:DK):(bZ id l).length=l.length:=by unfold bZ;rw [List.length_map]
theorem uL {k:Nat} (hk:2 ^ 50≤k) (id:Int) {l:DK} (hl:l.length≤1099511627775):fA.f k id l=some (bZ id l,()):=by
 unfold fA.f fA.t;refine (fj (L:=fun n i s=>fA.l0 k n id l l.length i s) (R:=fun r s=>some (s++bZ id r,())) (Ty.z d_) l (fun i s=>(s.length:Int)=i) (fun n s hs=>?_) (fun n i s x rest h0 h1 hx hr hp ih=>?_) (n:=k) (s:=[]) (by omega) (by decide)).trans (by rw [List.nil_append])
 · simp (disch:=omega) only [fA.l0,fA.b0,aY,aJ,bZ,List.map_nil,List.append_nil]
 · have ih:=ih (s++[(id,x)]) (by rw [dt];omega);simp (disch:=first | omega | decide) only [fA.l0,fA.b0,aW,aa,aT,hx,bn,aF];refine ih.trans ?_;simp only [bZ,List.map_cons,oK,List.cons_append,List.nil_append]
def pr:Ty.d iq:=(0,(0,([],())))
def JP (s0:Int) (e:Ty.d aC):Bool:=(e.2.1==s0)&&!decide ((e.2.2.1:Int) > 100000)
def ED (l:aR):Bool:=l.all (JP (l.getD 0 (Ty.z aC)).2.1)
def n7 (h:Ty.d iq):Bool:=decide ((0:Int)≤h.1∧h.1≤100000)&&(decide ((0:Int)≤h.2.1∧h.2.1≤1000000)&&(uG h.2.2.1&&ED h.2.2.1))
def km (e:Ty.d aC):ByteArray:=js e.1++(jo e.2.1++(jo e.2.2.1++(jo e.2.2.2.1++jo e.2.2.2.2.1)))
def o7:aR→ByteArray
 | []=>⟨#[]⟩
 | e::l=>km e++o7 l
def uV (h:Ty.d iq):ByteArray:=jo h.1++(jo h.2.1++(jo (h.2.2.1.length:Int)++o7 h.2.2.1))
def fH (h:Ty.d iq):ByteArray:=if n7 h=true then vY (tB (uV h))++uV h else ⟨#[]⟩
theorem qG {k:Nat} (hk:2 ^ 50≤k) {h:Ty.d iq} (hl:h.2.2.1.length≤1073741824):eO.f k h=some (n7 h,()):=by
 unfold eO.f eO.t n7 ED;have fin:∀ b:Bool,(bif b then (Option.bind (aZ.f k h.1 0 100000) fun r1=>(bif r1.1 then (Option.bind (aZ.f k h.2.1 0 1000000) fun r2=>(bif r2.1 then (Option.bind (eS.f k h.2.2.1) fun r3=>(some r3)) else (some (false,())))) else (some (false,())))) else (some (false,())))=some (decide ((0:Int)≤h.1∧h.1≤100000)&&(decide ((0:Int)≤h.2.1∧h.2.1≤1000000)&&(uG h.2.2.1&&b)),()):=fun b=>by rw [iL,ac,iL,ac,za hk (by omega),ac];simp only [];cases decide ((0:Int)≤h.1∧h.1≤100000) <;> cases decide ((0:Int)≤h.2.1∧h.2.1≤1000000) <;> cases uG h.2.2.1 <;> cases b <;> rfl
 rw [← fin];refine fj (L:=fun n i (_:Unit)=>eO.l0 k n h.2.2.1 h.2.2.1.length i h.1 h.2.1 h.2.2.1) (R:=fun r _=>bif r.all (JP (h.2.2.1.getD 0 (Ty.z aC)).2.1) then (Option.bind (aZ.f k h.1 0 100000) fun r1=>(bif r1.1 then (Option.bind (aZ.f k h.2.1 0 1000000) fun r2=>(bif r2.1 then (Option.bind (eS.f k h.2.2.1) fun r3=>(some r3)) else (some (false,())))) else (some (false,())))) else (some (false,()))) (Ty.z aC) h.2.2.1 (fun _ _=>True) (fun n _ _=>?_) (fun n i _ x rest h0 h1 hx hr hp ih=>?_) (n:=k) (s:=()) (by omega) trivial
 · simp only [eO.l0,eO.b0];rw [aY (by omega),aJ];rfl
 · have ih:=ih () trivial;simp only [eO.l0,eO.b0];rw [aW h1,aa,aT h0 h1,aT (by omega) (by omega),hx,aF (n:=i+1) (by omega) (by omega),ih,List.all_cons];unfold JP bne;cases x.2.1==(h.2.2.1.getD 0 (Ty.z aC)).2.1 <;> cases decide ((x.2.2.1:Int) > 100000) <;> rfl
theorem k8 {l:aR} (h:uG l=true):l.length≤20∧∀ e ∈ l,(1≤e.1.size∧e.1.size≤8)∧(LE.le (α:=Int) 1 e.2.1∧LE.le (α:=Int) e.2.1 100000)∧LE.le (α:=Int) 0 e.2.2.1∧(LE.le (α:=Int) 1 e.2.2.2.1∧LE.le (α:=Int) e.2.2.2.1 210)∧(LE.le (α:=Int) 1 e.2.2.2.2.1∧LE.le (α:=Int) e.2.2.2.2.1 1000000):=by
 unfold uG at h;rw [iE,decide_eq_true_eq] at h;refine ⟨by have:=h.1;omega,fun e he=>?_⟩;obtain ⟨q,hq⟩:=Dx h.2 he;unfold vy gB at hq;rw [iE,iE,iE,iE,iE,decide_eq_true_eq,decide_eq_true_eq,decide_eq_true_eq,decide_eq_true_eq] at hq;obtain ⟨g1,g2,g3,g4,g5,_⟩:=hq;have g3':¬ LT.lt (α:=Int) e.2.2.1 0:=by
  intro q;have:(!decide (e.2.2.1<(0:Int)))=false:=by rw [aW q];rfl
  rw [this] at g3;cases g3
 exact ⟨by omega,g2,Int.not_lt.1 g3',g4,g5⟩
theorem nq {h:Ty.d iq} (q:n7 h=true):uG h.2.2.1=true:=by unfold n7 at q;rw [iE,iE,iE] at q;exact q.2.2.1
theorem xH {e:Ty.d aC}:(km e).size≤35+e.1.size:=by have a:=bN (e.1.size:Int);have b:=bN e.2.1;have c:=bN e.2.2.1;have d:=bN e.2.2.2.1;have f:=bN e.2.2.2.2.1;unfold km js;simp only [aX];omega
theorem rC:∀ {l:aR},(∀ e ∈ l,e.1.size≤8)→(o7 l).size≤43*l.length
 | [],_=>Nat.zero_le _
 | e::l,h=>by
  have h1:=h e (il ..);have h2:=rC (l:=l) fun x hx=>h x (kS _ hx)
  have h3:=xH (e:=e);unfold o7;rw [aX,j7];omega
theorem H9 {h:Ty.d iq} (q:n7 h=true):(uV h).size≤900:=by
 obtain ⟨h1,h2⟩:=k8 (nq q);have:=rC (l:=h.2.2.1) fun e he=>(h2 e he).1.2
 have a:=bN h.1;have b:=bN h.2.1;have c:=bN (h.2.2.1.length:Int);unfold uV;simp only [aX];omega
theorem qE (h:Ty.d iq):(fH h).size≤904:=by
 unfold fH;by_cases q:n7 h=true
 · have:=H9 q;rw [if_pos q,aX,show (vY (tB (uV h))).size=4 from rfl];omega
 · rw [if_neg q];decide
theorem oA {k:Nat} (hk:2 ^ 50≤k) {h:Ty.d iq} (hl:h.2.2.1.length≤1073741824):dH.f k h=some (fH h,()):=by
 unfold dH.f dH.t fH;rw [qG hk hl,ac];cases q:n7 h with
 | false=>rfl
 | true =>
  obtain ⟨h1,h2⟩:=k8 (nq q);have a:=bN h.1;have b:=bN h.2.1;have c:=bN (h.2.2.1.length:Int);rw [fw,aJ,sJ hk (by simp),ac,if_pos rfl];simp only [];refine (fj (L:=fun n i s=>dH.l0 k n s h.2.2.1 h.2.2.1.length i) (R:=fun r s=>some (vY (tB (s++o7 r))++(s++o7 r),())) (Ty.z aC) h.2.2.1 (fun i s=>(s.size:Int)≤21+43*i) (fun n s hs=>?_) (fun n i s x rest g0 g1 hx hr hs ih=>?_) (n:=k) (s:=jg [h.1,h.2.1,(h.2.2.1.length:Int)]) (by omega) (by simp only [jg,aX];rw [show (⟨#[]⟩:ByteArray).size=0 from rfl];omega)).trans (by unfold uV;simp only [jg,bh,ii,oX])
  · have hc:=vZ s;simp only [dH.l0,dH.b0];rw [aY (by omega),aJ,uk hk (by omega),ac];simp only [];rw [rO hk hc.1 hc.2,ac];simp only [];rw [jI (by rw [show (vY (tB s)).size=4 from rfl];omega),show o7 []=⟨#[]⟩ from rfl,ii]
  · have hm:x ∈ h.2.2.1:=by rw [← hx];exact gR (by omega)
    have hz:=(h2 x hm).1.2;have ht:=xH (e:=x);have v1:=bN (x.1.size:Int);have v2:=bN x.2.1;have v3:=bN x.2.2.1;have v4:=bN x.2.2.2.1;have v5:=bN x.2.2.2.2.1;have ih:=ih (s++km x) (by have:=xH (e:=x);rw [aX];omega);have e:js x.1++jg [x.2.1,x.2.2.1,x.2.2.2.1,x.2.2.2.2.1]=km x:=by unfold km;simp only [jg,ii]
    simp only [dH.l0,dH.b0];rw [aW g1,aa,aT g0 g1,hx,mD hk (by omega),ac,sJ hk (by simp),ac];simp only [];have hts:(js x.1).size+(jg [x.2.1,x.2.2.1,x.2.2.2.1,x.2.2.2.2.1]).size≤100:=by rw [← aX,e];omega
    rw [jI (by omega),e,jI (by omega),aF (n:=i+1) (by omega) (by omega),ih,show o7 (x::rest)=km x++o7 rest from rfl,bh]
def tL (x y:Ty.d aC):Bool:=(seq x.1 y.1)&&((x.2.1==y.2.1)&&((x.2.2.1==y.2.2.1)&&((x.2.2.2.1==y.2.2.2.1)&&(x.2.2.2.2.1==y.2.2.2.2.1))))
def wP:aR→aR→Bool
 | [],[]=>true
 | x::l,y::m=>tL x y&&wP l m
 | _,_=>false
theorem GV {x y:Ty.d aC}:tL x y=true↔x=y:=by
 unfold tL;simp only [iE,beq_iff_eq,db];constructor
 · rintro ⟨h1,h2,h3,h4,h5⟩
   obtain ⟨a,b,c,d,e,_⟩:=x;obtain ⟨a',b',c',d',e',_⟩:=y;simp only at h1 h2 h3 h4 h5;subst h1 h2 h3 h4 h5;rfl
 · rintro rfl;exact ⟨rfl,rfl,rfl,rfl,rfl⟩
theorem uA:∀ {l m:aR},wP l m=true↔l=m
 | [],[]=>⟨fun _=>rfl,fun _=>rfl⟩
 | [],y::m=>⟨fun h=>(by cases h),fun h=>(by cases h)⟩
 | x::l,[]=>⟨fun h=>(by cases h),fun h=>(by cases h)⟩
 | x::l,y::m=>by unfold wP;rw [iE,GV,uA,List.cons.injEq]
theorem Jk:∀ {l m:aR},l.length≠m.length→wP l m=false:=fun {l m} h=>by
 cases c:wP l m with
 | false=>rfl
 | true=>rw [uA.1 c] at h;exact absurd rfl h
theorem xL {α:Type} {l:List α} {i:Nat} (z:α) (h:i<l.length):l.drop i=l.getD i z::l.drop (i+1):=by rw [List.drop_eq_getElem_cons h];simp [List.getD,h]
theorem zy {k:Nat} (hk:2 ^ 50≤k) {l m:aR} (hl:l.length≤1073741824):fe.f k l m=some (wP l m,()):=by
 unfold fe.f fe.t;by_cases hne:l.length=m.length
 · rw [show ((l.length:Int) != (m.length:Int))=false by rw [hne];simp,aJ];refine (M7 (L:=fun n i (_:Unit)=>fe.l0 k n l m l.length i) (R:=fun i _=>some (wP (l.drop i.toNat) (m.drop i.toNat),())) l.length (fun _ _=>True) (fun n _ _=>?_) (fun n i _ h0 h1 _ ih=>?_) k 0 () (by omega) (by omega) (by omega) trivial).trans (by simp)
   · simp only [fe.l0,fe.b0];rw [aY (by omega),aJ,s5,List.drop_length,hne,List.drop_length];rfl
   · have ih:=ih () trivial;have c1:i.toNat<l.length:=by omega
     simp only [fe.l0,fe.b0];rw [aW h1,aa,aT h0 h1,aT h0 (by omega),aF (n:=i+1) (by omega) (by omega),ih,xL (Ty.z aC) c1,xL (Ty.z aC) (l:=m) (i:=i.toNat) (by omega),show (i+1).toNat=i.toNat+1 by omega];show _=some (tL _ _&&wP _ _,());show (bif !(tL (l.getD i.toNat (Ty.z aC)) (m.getD i.toNat (Ty.z aC))) then _ else _)=_;cases tL (l.getD i.toNat (Ty.z aC)) (m.getD i.toNat (Ty.z aC)) <;> rfl
 · rw [show ((l.length:Int) != (m.length:Int))=true from bne_iff_ne.2 (by omega),aa,Jk hne]
def oF (mark:Int) (p:Option (Ty.d d_)) (x:Ty.d d_):Bool :=
 (x.2.2.1.1==4)&&(!decide ((x.2.2.1.2.1:Int) > mark)&&(match p with | none=>true | some y=>nd y.2.2.1.2.2.1 x.2.2.1.2.2.1))
def GZ (id:Int) (x:Ty.d d_):Ty.d aC:=(x.2.2.1.2.2.1,(id,(x.1,(x.2.1,(x.2.2.1.2.1,())))))
noncomputable def gE (id:Int) (s:ByteArray):Ty.d iq × Bool :=
 bif (c_ s).2 != (s.size:Int) then (pr,false) else bif (c_ s).1.length==0 then (pr,false) else
 bif ((c_ s).1.getD ((c_ s).1.length-1) (Ty.z d_)).2.2.1.1 != 5 then (pr,false) else
 bif !decide ((1:Int)≤id∧id≤100000) then (pr,false) else
 bif !qM (oF ((c_ s).1.getD ((c_ s).1.length-1) (Ty.z d_)).2.2.1.2.1) none ((c_ s).1.take ((c_ s).1.length-1)) then (pr,false) else
 bif !jr ((c_ s).1.getD ((c_ s).1.length-1) (Ty.z d_)).2.2.1 (bZ id ((c_ s).1.take ((c_ s).1.length-1))) then (pr,false) else
 (((s.size:Int),(((c_ s).1.getD ((c_ s).1.length-1) (Ty.z d_)).2.2.1.2.1,(((c_ s).1.take ((c_ s).1.length-1)).map (GZ id),()))),true)
theorem uN {k:Nat} (hk:2 ^ 50≤k) (id:Int) {s:ByteArray} (hs:s.size≤1073741823):eQ.f k id s=some ((gE id s).1,((gE id s).2,())):=by
 have hln:=na s;unfold eQ.f eQ.t gE;rw [sx hk (by omega),ac];simp only [];generalize c_ s=sc at hln ⊢;obtain ⟨l,en⟩:=sc;simp only at hln ⊢;have w0:aQ ((l.length:Int)-1)=(l.length:Int)-1:=aF (by omega) (by omega);by_cases h0:l.length=0
 · rw [w0,aW (by omega),aa,show (l.length==0)=true by rw [h0];rfl];cases en != (s.size:Int) <;> rfl
 · rw [w0,aY (by omega),aJ,show (l.length==0)=false from qi h0];cases he:en != (s.size:Int) with
   | true=>rfl
   | false =>
    have hen:en=(s.size:Int):=by
     cases q:en==(s.size:Int) with
     | true=>exact yd q
     | false=>unfold bne at he;rw [q] at he;cases he
    simp only [aJ];have w1:(l.length:Int)-1=((l.length-1:Nat):Int):=by omega
    rw [iL,ac];simp only [];rw [w1,s5,aT (by omega) (by omega),aT (by omega) (by omega),d7 (by omega) (by omega),aT (by omega) (by omega),d7 (by omega) (by omega)];generalize hm:l.getD (l.length-1) (Ty.z d_)=m;have hpl:(l.take (l.length-1)).length=l.length-1:=by rw [List.length_take];omega
    rw [uL hk id (by omega),ac];simp only [];rw [sr hk _ (by unfold bZ;rw [List.length_map];omega),ac];simp only [];cases decide ((1:Int)≤id∧id≤100000) with
    | false=>cases m.2.2.1.1 != 5 <;> rfl
    | true =>
     cases m.2.2.1.1 != 5 with
     | true=>rfl
     | false =>
      simp only [fw,aJ];cases jr m.2.2.1 (bZ id (l.take (l.length-1))) with
      | false=>cases qM (oF m.2.2.1.2.1) none (l.take (l.length-1)) <;> rfl
      | true =>
       simp only [fw,aJ];refine (Aj (L:=fun n i=>eQ.l0 k n id l (l.take (l.length-1)) (l.take (l.length-1)).length i [] 0 0 ((l.take i.toNat).map (GZ id)) en m.2.2.1.2.1) (Ty.z d_) (l.take (l.length-1)) (oF m.2.2.1.2.1)
        (some (((s.size:Int),(m.2.2.1.2.1,((l.take (l.length-1)).map (GZ id),()))),(true,()))) (some (pr,(false,()))) (fun n=>?_) (fun n x h hx=>?_) (fun n i x y h0 h1 hx hy=>?_) (n:=k) (by omega)).trans (by
         cases qM (oF m.2.2.1.2.1) none (l.take (l.length-1)) <;> rfl)
       · simp only [eQ.l0,eQ.b0];rw [hpl,s5,aY (by omega),aJ,hen]
       · have h':=h;rw [hpl] at h';have hx':l.getD 0 (Ty.z d_)=x:=by rw [← hx,show Int.toNat 0=0 from rfl,xF (by omega)]
         simp only [eQ.l0,eQ.b0];rw [aW (by omega),aa,aT (by omega) (by omega),hx,aY (show ¬ (0:Int) > 0 by omega),aJ,bn (by simp) (by decide),aF (n:=(0:Int)+1) (by omega) (by omega),show Int.toNat 1=0+1 from rfl,mh (z:=Ty.z d_) (show 0<l.length by omega),hx'];simp only [oF,bne];cases x.2.2.1.1==4 <;> cases decide ((x.2.2.1.2.1:Int) > m.2.2.1.2.1) <;> rfl
       · have h1':=h1;rw [hpl] at h1';have hx':l.getD i.toNat (Ty.z d_)=x:=by rw [← hx,xF (by omega)]
         have hy':l.getD (i-1).toNat (Ty.z d_)=y:=by rw [← hy,xF (by omega)]
         simp only [eQ.l0,eQ.b0];rw [aW h1,aa,aT (by omega) (by omega),hx,aW (show i > 0 by omega),aF (n:=i-1) (by omega) (by omega),aT (by omega) (by omega),hy',bn (by rw [List.length_map,List.length_take];omega) (by decide),aF (n:=i+1) (by omega) (by omega),show (i+1).toNat=i.toNat+1 by omega,mh (z:=Ty.z d_) (show i.toNat<l.length by omega),hx',List.map_append];simp only [oF,bne];cases x.2.2.1.1==4 <;> cases decide ((x.2.2.1.2.1:Int) > m.2.2.1.2.1) <;> cases nd y.2.2.1.2.2.1 x.2.2.1.2.2.1 <;> rfl
noncomputable def og (id:Int) (s:ByteArray) (h:Ty.d iq):Bool:=(gE id s).2&&(((gE id s).1.1==h.1)&&(((gE id s).1.2.1==h.2.1)&&wP (gE id s).1.2.2.1 h.2.2.1))
theorem BN (id:Int) {s:ByteArray} (hs:s.size≤1073741823):(gE id s).1.2.2.1.length≤1073741824:=by
 have hln:=na s;unfold gE;generalize c_ s=sc at hln ⊢;obtain ⟨l,en⟩:=sc;simp only at hln ⊢;cases en != (s.size:Int)
 · cases l.length==0
   · cases (l.getD (l.length-1) (Ty.z d_)).2.2.1.1 != 5
     · cases !decide ((1:Int)≤id∧id≤100000)
       · cases !qM (oF (l.getD (l.length-1) (Ty.z d_)).2.2.1.2.1) none (l.take (l.length-1))
         · cases !jr (l.getD (l.length-1) (Ty.z d_)).2.2.1 (bZ id (l.take (l.length-1)))
           · show ((l.take (l.length-1)).map (GZ id)).length≤1073741824;rw [List.length_map,List.length_take];omega
           · exact Nat.zero_le _
         · exact Nat.zero_le _
       · exact Nat.zero_le _
     · exact Nat.zero_le _
   · exact Nat.zero_le _
 · exact Nat.zero_le _
theorem ya {k:Nat} (hk:2 ^ 50≤k) (id:Int) {s:ByteArray} (hs:s.size≤1073741823) (h:Ty.d iq):j6.f k id s h=some (og id s h,()):=by have hl:=BN id hs;unfold j6.f j6.t og;rw [uN hk id hs,ac];simp only [];rw [zy hk hl,ac];cases (gE id s).2 <;> cases (gE id s).1.1==h.1 <;> cases (gE id s).1.2.1==h.2.1 <;> rfl
end Go.Proofs.YtaaincbnjkmapaaGreatDoor.G
namespace Go.V
def pO {α:Type} (o:Option α) (P:α→Prop):Prop:=∃ r,o=some r∧P r
section
variable {α β:Type} {P P':α→Prop} {Q:β→Prop}
theorem lT {r:α} (h:P r):pO (some r) P:=⟨r,rfl,h⟩
theorem xM {o:Option α} {r:α} (e:o=some r) (h:P r):pO o P:=⟨r,e,h⟩
theorem QE {o:Option α} {r:α} (h:pO o (fun x=>x=r)):o=some r:=by obtain ⟨x,e,rfl⟩:=h;exact e
theorem su {o:Option α} (h:pO o P) (hp:∀ r,P r→P' r):pO o P':=by obtain ⟨r,e,hr⟩:=h;exact ⟨r,e,hp r hr⟩
theorem gV {o:Option α} {g:α→Option β} (h:pO o P) (hg:∀ r,P r→pO (g r) Q):pO (Option.bind o g) Q:=by obtain ⟨r,e,hr⟩:=h;rw [e];exact hg r hr
theorem oj {o:Option α} {r:α} {g:α→Option β} (e:o=some r) (hg:pO (g r) Q):pO (Option.bind o g) Q:=by rw [e];exact hg
theorem q7 {b:Bool} {x y:Option α} (h1:b=true→pO x P) (h2:b=false→pO y P):pO (bif b then x else y) P:=by
 cases b
 · exact h2 rfl
 · exact h1 rfl
theorem Iw {b:Bool} {x y:Option α} (hb:b=true) (h:pO x P):pO (bif b then x else y) P:=by rw [hb];exact h
theorem Ls {b:Bool} {x y:Option α} (hb:b=false) (h:pO y P):pO (bif b then x else y) P:=by rw [hb];exact h
theorem DU {i n:Int} {x:Option α} (h0:0≤i) (h1:i<n) (h:pO x P):pO (dR i n x) P:=by rw [aT h0 h1];exact h
theorem Oi {i n:Int} {x:Option α} (h0:0≤i) (h1:i≤n) (h:pO x P):pO (pS i n x) P:=by rw [d7 h0 h1];exact h
theorem Lp {b n:Nat} {x:Option α} (h0:n≤1099511627776) (hb:b≤128) (h:pO x P):pO (rm b n x) P:=by rw [bn h0 hb];exact h
end
end Go.V
namespace Go.Proofs.YtaaincbnjkmapaaGreatDoor.G
open Go.V
noncomputable def l_ (s:ByteArray):Ty.d iq × Bool:=qC (fun h=>n7 h=true) fH pr s
def RH (s:ByteArray) (o:Option (Ty.d iq × Bool × Unit)):Prop:=(∃ h,n7 h=true∧fH h=s∧o=some (h,(true,())))∨o=some (pr,(false,()))
theorem Ov (s:ByteArray):RH s (some (pr,(false,()))) := .inr rfl
theorem Pn {s:ByteArray} (hs:4≤s.size) (h:Ty.d iq):RH s (bif !seq (fH h) s then some (pr,(false,())) else some (h,(true,()))):=by
 cases c:seq (fH h) s with
 | false=>exact .inr rfl
 | true =>
  have e:=db.1 c;refine .inl ⟨h,?_,e,rfl⟩;cases q:n7 h with
  | true=>rfl
  | false =>unfold fH at e;rw [if_neg (by rw [q];decide)] at e;rw [← e] at hs;exact absurd hs (by decide)
def MF (x:Int):Prop:=0≤x∧x≤1000000
theorem rQ {x:Int} (h:MF x):∃ n:Nat,n<562949953421312∧x=(n:Int)∧jo x=br n:=by obtain ⟨n,rfl⟩:=Int.eq_ofNat_of_zero_le h.1;have:=h.2;exact ⟨n,by omega,rfl,dj (by omega)⟩
theorem MA {e:Ty.d aC} {l:aR} (hl:uG l=true) (ho:ED l=true) (he:e ∈ l):∀ x ∈ [(e.2.1:Int),e.2.2.1,e.2.2.2.1,e.2.2.2.2.1],MF x:=by
 obtain ⟨_,q⟩:=k8 hl;obtain ⟨_,⟨a1,a2⟩,b1,⟨c1,c2⟩,⟨d1,d2⟩⟩:=q e he;have h2:=List.all_eq_true.1 ho e he;unfold JP at h2;rw [iE] at h2;have b2:LE.le (α:=Int) e.2.2.1 100000:=by
  refine Int.not_lt.1 fun w=>?_
  have:(!decide ((e.2.2.1:Int) > 100000))=false:=by rw [aW w];rfl
  rw [this] at h2;cases h2.2
 intro x hx;simp only [List.mem_cons,List.not_mem_nil,or_false] at hx;rcases hx with rfl | rfl | rfl | rfl
 · exact ⟨by omega,by omega⟩
 · exact ⟨b1,by omega⟩
 · exact ⟨by omega,by omega⟩
 · exact ⟨by omega,d2⟩
theorem KA (e:Ty.d aC) (h:e.1.size≤8) (t:ByteArray):km e++t=br e.1.size++(e.1++(jg [(e.2.1:Int),e.2.2.1,e.2.2.2.1,e.2.2.2.2.1]++t)):=by unfold km js;rw [dj (by omega)];simp only [jg,ii,bh]
theorem KW {h:Ty.d iq} (q:n7 h=true):∀ x ∈ [(h.1:Int),h.2.1,(h.2.2.1.length:Int)],MF x:=by
 have h20:=(k8 (nq q)).1;unfold n7 at q;rw [iE,iE,decide_eq_true_eq,decide_eq_true_eq] at q;obtain ⟨⟨a1,a2⟩,⟨b1,b2⟩,_⟩:=q;intro x hx;simp only [List.mem_cons,List.not_mem_nil,or_false] at hx;rcases hx with rfl | rfl | rfl
 · exact ⟨a1,by have:LE.le (α:=Int) h.1 100000:=a2;omega⟩
 · exact ⟨b1,b2⟩
 · exact ⟨by omega,by omega⟩
theorem Br {h:Ty.d iq} (q:n7 h=true):fH h=vY (tB (uV h))++(jg [(h.1:Int),h.2.1,(h.2.2.1.length:Int)]++o7 h.2.2.1):=by unfold fH;rw [if_pos q];unfold uV;simp only [jg,ii,bh]
theorem O_ (x:Int):(vY x).size=4:=rfl
theorem y4 {k:Nat} (hk:2 ^ 50≤k) {r:ByteArray} (b:Bool) (hs:r.size≤1073741824):pO (aN.f k (r,(b,()))) (fun x=>x.1.1.size≤r.size∧(b=true→x.1.2.1=true)∧(x.1.2.1=false→x.1.1.size<r.size)∧0≤x.2.1∧x.2.1<562949953421312):=by
 cases b with
 | true=>exact xM (xx hk (by omega)) ⟨Nat.le_refl _,fun _=>rfl,fun h=>(by cases h),Int.le_refl _,by show (0:Int)<562949953421312;omega⟩
 | false =>
  rcases kx r with ⟨a,t,ha,rfl⟩ | h
  · have:=ao a;rw [aX] at hs;exact xM (fY hk ha (by omega)) ⟨by show t.size≤_;rw [aX];omega,fun h=>(by cases h),fun _=>by show t.size<_;rw [aX];omega,by show (0:Int)≤(a:Int);omega,by show (a:Int)<_;omega⟩
  · exact xM (mq hk h (by omega)) ⟨Nat.le_refl _,fun h=>(by cases h),fun h=>(by cases h),Int.le_refl _,by show (0:Int)<562949953421312;omega⟩
theorem J0 (k:Nat) (r:ByteArray) (b:Bool) {n:Int} (h0:0≤n):pO (aq.f k (r,(b,())) n) (fun x=>x.1.1.size≤r.size∧(b=true→x.1.2.1=true)):=by
 cases b with
 | true=>exact xM (tT k r n) ⟨Nat.le_refl _,fun _=>rfl⟩
 | false =>
  by_cases h:n > (r.size:Int)
  · exact xM (tR k h) ⟨Nat.le_refl _,fun _=>rfl⟩
  · have e:=wH r (n:=n.toNat) (by omega);have hz:(ByteArray.extract r 0 n.toNat).size=n.toNat:=by rw [← df,lY,List.length_take,df];omega
    have:=t6 k (ByteArray.extract r 0 n.toNat) (ByteArray.extract r n.toNat r.size);rw [← e,hz,show ((n.toNat:Nat):Int)=n by omega] at this;exact xM this ⟨by show (ByteArray.extract r n.toNat r.size).size≤_;rw [sZ];omega,fun h=>(by cases h)⟩
theorem Pp {k:Nat} (hk:2 ^ 50≤k) {r:ByteArray} (b:Bool) (hs:r.size≤1073741824):pO (aj.f k (r,(b,()))) (fun x=>x.1.1.size≤r.size∧(b=true→x.1.2.1=true)∧(x.1.2.1=false→x.1.1.size<r.size)):=by
 unfold aj.f aj.t;refine gV (y4 hk b hs) fun r1 q1=>?_
 obtain ⟨a1,a2,a3,a4,_⟩:=q1;refine gV (J0 k r1.1.1 r1.1.2.1 a4) fun r2 q2=>lT ⟨by omega,fun h=>q2.2 (a2 h),fun h=>?_⟩
 cases c:r1.1.2.1 with
 | true=>rw [q2.2 c] at h;cases h
 | false=>have:=a3 c;omega
theorem tA {k:Nat} (n:Nat) (s:ByteArray) (c j:Int) (z:aR) (z1 z2:Int) (rest:ByteArray) (out:aR) (a b:Int):bC.l0 k (n+1) s c j z z1 z2 rest true out a b=some (pr,(false,())):=by simp only [bC.l0,bC.b0];cases decide (j<c) <;> rfl
theorem HV {k:Nat} (hk:2 ^ 50≤k) {s:ByteArray} (h4:4≤s.size) {h:Ty.d iq} (hl:h.2.2.1.length≤1073741824):RH s (Option.bind (eO.f k h) fun r12=>(bif (!r12.1) then (some ((0,(0,([],()))),(false,()))) else (Option.bind (dH.f k h) fun r13=>(bif (!(seq r13.1 s)) then (some ((0,(0,([],()))),(false,()))) else (some (h,(true,()))))))):=by
 rw [qG hk hl,ac,oA hk hl,ac];cases n7 h with
 | false=>exact Ov s
 | true=>exact Pn h4 h
theorem FJ {k:Nat} (hk:2 ^ 50≤k) {s:ByteArray} (h4:4≤s.size) (c:Int) (hc:c<562949953421312) (z:aR) (z1 z2 a b:Int):∀ (n:Nat) (rest:ByteArray) (j:Int) (out:aR),rest.size+2≤n→0≤j→out.length+rest.size≤1073741824 →
 RH s (bC.l0 k n s c j z z1 z2 rest false out a b):=by
 intro n
 induction n with
 | zero=>intro rest j out h1;omega
 | succ n ih =>
  intro rest j out h1 h2 h5;obtain ⟨n,rfl⟩:∃ q,n=q+1:=⟨n-1,by omega⟩;simp only [bC.l0];unfold bC.b0;by_cases cj:j<c
  · rw [aW cj,aa,ue,aa];obtain ⟨r5,e5,p1,p2,p3⟩:=Pp hk false (r:=rest) (by omega);rw [e5,ac];obtain ⟨r6,e6,s1,s2,s3,_⟩:=y4 hk r5.1.2.1 (r:=r5.1.1) (by omega);rw [show aN.f k r5.1=_ from e6,ac];obtain ⟨r7,e7,t1,t2,t3,_⟩:=y4 hk r6.1.2.1 (r:=r6.1.1) (by omega);rw [show aN.f k r6.1=_ from e7,ac];obtain ⟨r8,e8,u1,u2,u3,_⟩:=y4 hk r7.1.2.1 (r:=r7.1.1) (by omega);rw [show aN.f k r7.1=_ from e8,ac];obtain ⟨r9,e9,v1,v2,v3,_⟩:=y4 hk r8.1.2.1 (r:=r8.1.1) (by omega);rw [show aN.f k r8.1=_ from e9,ac,bn (by omega) (by decide),aF (n:=j+1) (by omega) (by omega)];cases hb:r9.1.2.1 with
    | true=>exact .inr (tA n s c (j+1) z z1 z2 _ _ a b)
    | false =>have:=v3 hb;exact ih r9.1.1 (j+1) _ (by omega) (by omega) (by rw [dt];omega)
  · rw [aY cj,aJ];simp only [aJ];exact HV hk h4 (h:=(a,(b,(out,())))) (by show out.length≤_;omega)
theorem Er {k:Nat} (hk:2 ^ 50≤k) {s:ByteArray} (h:s.size<4):bC.f k s=some (pr,(false,())):=by unfold bC.f bC.t;rw [tR k (by omega),ac];simp only [];rw [xx hk (by omega),ac];simp only [];rw [xx hk (by omega),ac];simp only [];rw [xx hk (by omega),ac];obtain ⟨q,hq⟩:∃ q,k=q+1:=⟨k-1,by omega⟩;exact (congrArg (fun z=>bC.l0 k z s 0 0 [] 0 0 s true [] 0 0) hq).trans (tA q s 0 0 [] 0 0 s [] 0 0)
theorem IL {k:Nat} (hk:2 ^ 50≤k) {s:ByteArray} (hs:s.size≤1073741824):RH s (bC.f k s):=by
 by_cases h4:s.size<4
 · rw [Er hk h4];exact Ov s
 unfold bC.f bC.t;obtain ⟨r1,e1,p1,_⟩:=J0 k s false (n:=4) (by omega);rw [e1,ac];obtain ⟨r2,e2,s1,_,_,_⟩:=y4 hk r1.1.2.1 (r:=r1.1.1) (by omega);rw [show aN.f k r1.1=_ from e2,ac];obtain ⟨r3,e3,t1,_,_,_⟩:=y4 hk r2.1.2.1 (r:=r2.1.1) (by omega);rw [show aN.f k r2.1=_ from e3,ac];obtain ⟨r4,e4,u1,_,_,u4,u5⟩:=y4 hk r3.1.2.1 (r:=r3.1.1) (by omega);rw [show aN.f k r3.1=_ from e4,ac];cases r4.1.2.1 with
 | true =>obtain ⟨q,hq⟩:∃ q,k=q+1:=⟨k-1,by omega⟩;exact .inr ((congrArg (fun z=>bC.l0 k z s r4.2.1 0 [] 0 0 r4.1.1 true [] r2.2.1 r3.2.1) hq).trans (tA q s _ 0 [] 0 0 _ [] _ _))
 | false=>exact FJ hk (by omega) r4.2.1 u5 [] 0 0 _ _ k r4.1.1 0 [] (by omega) (by omega) (by simp only [List.length_nil];omega)
theorem BB {k:Nat} (hk:2 ^ 50≤k) {h:Ty.d iq} (q:n7 h=true) (z:aR) (z1 z2:Int):∀ (r:aR) (n:Nat) (j:Int) (out:aR),(∀ e ∈ r,e ∈ h.2.2.1)→out++r=h.2.2.1→(out.length:Int)=j→r.length<n →
 bC.l0 k n (fH h) (h.2.2.1.length:Int) j z z1 z2 (o7 r) false out h.1 h.2.1=some (h,(true,()))
 | [],n,j,out,hr,ho,hj,hn=>by obtain ⟨n,rfl⟩:∃ q,n=q+1:=⟨n-1,by omega⟩;have h20:=(k8 (nq q)).1;rw [List.append_nil] at ho;simp only [bC.l0,bC.b0];rw [aY (by rw [← hj,ho];omega),aJ,aJ,ho,show (h.1,(h.2.1,(h.2.2.1,())))=h from rfl,qG hk (by omega),ac,q];simp only [fw,aJ];rw [oA hk (by omega),ac];simp only [bQ];rfl
 | e::r,n,j,out,hr,ho,hj,hn=>by
  obtain ⟨n,rfl⟩:∃ q,n=q+1:=⟨n-1,by omega⟩;have hlen:h.2.2.1.length=out.length+(r.length+1):=by rw [← ho,nE,j7]
  have he:=hr e (il ..);have hd:=nq q;have h1:ED h.2.2.1=true:=by unfold n7 at q;rw [iE,iE,iE] at q;exact q.2.2.2
  have hk8:=((k8 hd).2 e he).1.2;have h20:=(k8 hd).1;have hnum:=MA hd h1 he;have hes:=rC (l:=r) fun x hx=>((k8 hd).2 x (hr x (kS _ hx))).1.2
  obtain ⟨n1,b1,f1,g1⟩:=rQ (hnum e.2.1 (by simp));obtain ⟨n2,b2,f2,g2⟩:=rQ (hnum e.2.2.1 (by simp));obtain ⟨n3,b3,f3,g3⟩:=rQ (hnum e.2.2.2.1 (by simp));obtain ⟨n4,b4,f4,g4⟩:=rQ (hnum e.2.2.2.2.1 (by simp));have v1:=ao n1;have v2:=ao n2;have v3:=ao n3;have v4:=ao n4;have hform:o7 (e::r)=br e.1.size++(e.1++(br n1++(br n2++(br n3++(br n4++o7 r))))):=by rw [show o7 (e::r)=km e++o7 r from rfl,KA e hk8];simp only [jg,ii,bh,g1,g2,g3,g4]
  have ih:=BB hk q z z1 z2 r n (j+1) (out++[e]) (fun x hx=>hr x (kS _ hx)) (by rw [oK];exact ho) (by rw [dt];omega) (by rw [j7] at hn;omega);have hl20:r.length≤20:=by omega
  rw [hform];simp only [bC.l0,bC.b0];rw [aW (by omega),aa,ue,aa,oQ hk (by omega) (by simp only [aX];omega),ac];simp only [];rw [fY hk b1 (by simp only [aX];omega),ac];simp only [];rw [fY hk b2 (by simp only [aX];omega),ac];simp only [];rw [fY hk b3 (by simp only [aX];omega),ac];simp only [];rw [fY hk b4 (by omega),ac];simp only [];rw [bn (by omega) (by decide),aF (n:=j+1) (by omega) (by omega),← f1,← f2,← f3,← f4];exact ih
theorem Kn {k:Nat} (hk:2 ^ 50≤k) {h:Ty.d iq} (q:n7 h=true):bC.f k (fH h)=some (h,(true,())):=by
 have h20:=(k8 (nq q)).1;have hes:=rC (l:=h.2.2.1) fun x hx=>((k8 (nq q)).2 x hx).1.2
 have hnum:=KW q;obtain ⟨n1,b1,f1,g1⟩:=rQ (hnum h.1 (by simp));obtain ⟨n2,b2,f2,g2⟩:=rQ (hnum h.2.1 (by simp));obtain ⟨n3,b3,f3,g3⟩:=rQ (hnum (h.2.2.1.length:Int) (by simp));have v1:=ao n1;have v2:=ao n2;have v3:=ao n3;have hform:fH h=vY (tB (uV h))++(br n1++(br n2++(br n3++o7 h.2.2.1))):=by rw [Br q];simp only [jg,ii,bh,g1,g2,g3]
 have hl:=BB hk q [] 0 0 h.2.2.1 k 0 [] (fun e he=>he) rfl rfl (by omega);unfold bC.f bC.t;have eb:=t6 k (vY (tB (uV h))) (br n1++(br n2++(br n3++o7 h.2.2.1)));rw [← hform,O_] at eb;rw [show aq.f k (fH h,(false,())) 4=_ from eb,ac];simp only [];rw [fY hk b1 (by simp only [aX];omega),ac];simp only [];rw [fY hk b2 (by simp only [aX];omega),ac];simp only [];rw [fY hk b3 (by omega),ac];simp only [];rw [← f1,← f2,← f3];exact hl
theorem yY {k:Nat} (hk:2 ^ 50≤k) {s:ByteArray} (hs:s.size≤1073741824):bC.f k s=some ((l_ s).1,((l_ s).2,())) :=
 uC (fun h h1 h2=>by rw [← h2];exact Kn hk h1) (IL hk hs)
theorem DW {s:ByteArray}:(l_ s).1.2.2.1.length≤20:=by
 rcases nI (fun h=>n7 h=true) fH pr s with ⟨r,h1,_,e⟩ | e
 · unfold l_;rw [e];exact (k8 (nq h1)).1
 · unfold l_;rw [e];exact Nat.zero_le _
def kX:Ty.d aE:=((0,([],())),([],(0,(0,(0,())))))
noncomputable def wN (d:Ty.d aA) (x:Int) (last:Bool):Bool:=(bJ d (a_ aG x)).2&&(last||!decide ((c_ (gf d x)).2<((gf d x).size:Int)))
noncomputable def mC (d:Ty.d aA):List Int→Bool
 | []=>true
 | x::l=>wN d x l.isEmpty&&mC d l
noncomputable def nC (d:Ty.d aA) (x:Int):ag:=bZ x (c_ (gf d x)).1
noncomputable def lO (d:Ty.d aA):List Int→ag
 | []=>[]
 | x::l=>nC d x++lO d l
noncomputable def eG (d:Ty.d aA) (x:Int):Ty.d iq:=(l_ (bJ d (a_ bO x)).1).1
noncomputable def o_ (d:Ty.d aA) (x:Int):Bool:=(bJ d (a_ bO x)).2&&((l_ (bJ d (a_ bO x)).1).2&&og x (gf d x) (eG d x))
noncomputable def m5 (d:Ty.d aA) (ids:List Int):Ty.d kR :=
 bif o_ d (ids.getD 0 0) then ia ((eG d (ids.getD 0 0)).2.2.1,((eG d (ids.getD 0 0)).2.1,(0,()))) (lO d (ids.drop 1)) else ia ([],(0,(0,()))) (lO d ids)
noncomputable def DY (v:Ty.d cv) (en:Int) (g:Ty.d kR) (hi:Int):Ty.d aE:=(v,(g.1,(aQ (g.2.1+1),(en,(hi,())))))
noncomputable def NK (v:Ty.d cv) (en:Int) (x:Ty.d aA) (g:Ty.d kR) (hi:Int):Ty.d aE × RD :=
 bif g.2.2.1 != 0 then (kX,(x,3)) else bif (m7 v.2.1 x).2 != 0 then (kX,((m7 v.2.1 x).1,gh (m7 v.2.1 x).2)) else
 (DY v en g hi,((m7 v.2.1 x).1,0))
noncomputable def EK (v:Ty.d cv) (d:Ty.d aA):Ty.d aE × RD :=
 bif !mC d v.2.1 then (kX,(d,3)) else
 bif (mf (bi v.2.1) d).2 != 0 then (kX,((mf (bi v.2.1) d).1,gh (mf (bi v.2.1) d).2)) else
 NK v (c_ (gf d (bi v.2.1))).2 (mf (bi v.2.1) d).1 (m5 (mf (bi v.2.1) d).1 v.2.1) (bif o_ (mf (bi v.2.1) d).1 (v.2.1.getD 0 0) then v.2.1.getD 0 0 else 0)
def sK:Ty.d cv:=(2,([1],()))
noncomputable def oD (d:Ty.d aA):RD:=fD (fD (m7 [] d) fun x=>rk x (a_ aG 1)) (bE sK)
noncomputable def AC (d:Ty.d aA):Ty.d aE × RD :=
 bif (oD d).2==0 then ((sK,([],(1,(0,(0,()))))),((oD d).1,0)) else (kX,((oD d).1,gh (oD d).2))
noncomputable def g6 (d:Ty.d aA):Ty.d aE × RD :=
 bif !jO d then (kX,(d,4)) else bif d.2.2.2.1 then (kX,(d,1)) else
 bif !(bJ d gg).2 then AC d else
 bif !(lp (bJ d gg).1).2 then (kX,(d,3)) else EK (lp (bJ d gg).1).1 d
def oS (q:Ty.d aE × RD):Ty.d aE × Ty.d aA × Int × Unit:=(q.1,(q.2.1,(q.2.2,())))
theorem uB {d:Ty.d aA} (h:DR d) (x:Int):(gf d x).size≤100000:=by have:=lS d (a_ aG x);have h2:=h.use;have h3:=h.cap1;unfold gf;omega
theorem AB {d:Ty.d aA} (h:DR d) (x:Int):(nC d x).length≤100000:=by have h1:=uB h x;have h2:=na (gf d x);unfold nC;rw [xw];omega
theorem wq {d:Ty.d aA} (h:DR d):∀ l:List Int,(lO d l).length≤100000*l.length
 | []=>Nat.zero_le _
 | x::l=>by have h1:=AB h x;have h2:=wq h l;unfold lO;rw [nE,j7];omega
noncomputable def vT (d:Ty.d aA):Int→List Int→Int
 | e,[]=>e
 | _,x::l=>vT d (c_ (gf d x)).2 l
theorem AH (d:Ty.d aA):∀ (l:List Int) (e:Int),l≠[]→vT d e l=(c_ (gf d (l.getD (l.length-1) 0))).2
 | [],e,h=>absurd rfl h
 | [x],e,_=>rfl
 | x::y::l,e,_=>by show vT d (c_ (gf d x)).2 (y::l)=_;rw [AH d (y::l) _ (by simp)];rfl
def wA:List ag→ag
 | []=>[]
 | a::l=>a++wA l
theorem sH (d:Ty.d aA):∀ l:List Int,wA (l.map (nC d))=lO d l
 | []=>rfl
 | x::l=>by show nC d x++wA (l.map (nC d))=nC d x++lO d l;rw [sH d l]
theorem pB {d x:Ty.d aA} (h:∀ s,c_ (bJ x s).1=c_ (bJ d s).1):∀ l:List Int,lO x l=lO d l
 | []=>rfl
 | y::l=>by unfold lO nC gf;rw [h,pB h l]
theorem sV {k:Nat} (hk:2 ^ 50≤k) (r:RD) (h:DR r.1) {v:Ty.d cv} (hv:v.2.1.length≤60):bM.f k (wO r) v =
 some (wO r,(bif mC r.1 v.2.1 then (v.2.1.map (nC r.1),(vT r.1 0 v.2.1,(true,()))) else ([],(0,(false,()))))):=by
 have hl:=h.sz.l;have hu:=h.sz.u;have hn:=h.sz.n;unfold bM.f bM.t;refine (fj (L:=fun n i (s:Int × List ag)=>bM.l0 k n s.1 v.2.1 v.2.1.length i r.1.1 r.1.2.1 r.1.2.2.1 r.1.2.2.2.1 r.2 v.1 v.2.1 s.2) (R:=fun q s=>some (wO r,(bif mC r.1 q then (s.2++q.map (nC r.1),(vT r.1 s.1 q,(true,()))) else ([],(0,(false,())))))) (Ty.z (.int .i64)) v.2.1 (fun i s=>(s.2.length:Int)≤i) (fun n s hs=>?_) (fun n i s y rest h0 h1 hy hr hs ih=>?_) (n:=k) (s:=(0,[])) (by omega) (by simp)).trans (by rw [List.nil_append])
 · simp only [bM.l0,bM.b0];rw [aY (by omega),aJ,show mC r.1 []=true from rfl,List.map_nil,List.append_nil];rfl
 · have hsy:=uB h y;have hsc:=na (gf r.1 y);have hlast:=Fv h0 hr;have ih:=ih ((c_ (gf r.1 y)).2,s.2++[nC r.1 y]) (by simp only [dt];omega);simp only [] at ih hs;simp only [bM.l0,bM.b0];rw [aW h1,aa,aT h0 h1,hy,ch k,ac];simp only [];rw [show (r.1.1,(r.1.2.1,(r.1.2.2.1,(r.1.2.2.2.1,()))))=r.1 from rfl,jY hk (by omega) (by omega) (by omega),ac];simp only [show (bJ r.1 (a_ aG y)).1=gf r.1 y from rfl];rw [sx hk (by omega),ac];simp only [];rw [uL hk y (by omega),ac];simp only [];rw [bn (by omega) (by decide),aF (n:=i+1) (by omega) (by omega),aF (n:=(v.2.1.length:Int)-1) (by omega) (by omega)];rw [show bZ y (c_ (gf r.1 y)).1=nC r.1 y from rfl,ih];rw [show mC r.1 (y::rest)=(wN r.1 y rest.isEmpty&&mC r.1 rest) from rfl];unfold wN;rw [hlast];have e1:((c_ (gf r.1 y)).2 != ((gf r.1 y).size:Int))=decide ((c_ (gf r.1 y)).2<((gf r.1 y).size:Int)):=by
    by_cases q:(c_ (gf r.1 y)).2<((gf r.1 y).size:Int)
    · rw [aW q];exact bne_iff_ne.2 (by omega)
    · rw [aY q];have:(c_ (gf r.1 y)).2=((gf r.1 y).size:Int):=by omega
      rw [this];simp
   rw [e1];have e2:decide (i<(v.2.1.length:Int)-1)=!decide (i+1=(v.2.1.length:Int)):=by
    by_cases q:i+1=(v.2.1.length:Int)
    · rw [aW q,aY (by omega)];rfl
    · rw [aY q,aW (by omega)];rfl
   rw [e2];have e3:s.2++[nC r.1 y]++rest.map (nC r.1)=s.2++(y::rest).map (nC r.1):=by rw [oK];rfl
   rw [e3];cases (bJ r.1 (a_ aG y)).2 with
   | false=>rfl
   | true =>
    cases decide (i+1=(v.2.1.length:Int)) with
    | true=>rfl
    | false=>cases decide ((c_ (gf r.1 y)).2<((gf r.1 y).size:Int)) <;> rfl
theorem Bc {k:Nat} (hk:2 ^ 50≤k) (r:RD) (h:DR r.1) (id:Int):dA.f k (wO r) id =
 some (wO r,((bif o_ r.1 id then ((eG r.1 id).2.2.1,((eG r.1 id).2.1,(0,()))) else ([],(0,(0,())))),(o_ r.1 id,()))):=by
 have hl:=h.sz.l;have hu:=h.sz.u;have hn:=h.sz.n;have ht:=lS r.1 (a_ bO id);have hs:=uB h id;unfold dA.f dA.t o_ eG;rw [mH,ac];simp only [show (wO r).1=r.1 from rfl];rw [jY hk (by omega) (by omega) (by omega),ac];simp only [];rw [yY hk (by omega),ac,ch,ac];simp only [];rw [jY hk (by omega) (by omega) (by omega),ac];simp only [show (bJ r.1 (a_ aG id)).1=gf r.1 id from rfl];rw [ya hk _ (by omega),ac];simp only [];cases (bJ r.1 (a_ bO id)).2 with
 | false=>rfl
 | true =>
  cases (l_ (bJ r.1 (a_ bO id)).1).2 with
  | false=>rfl
  | true=>cases og id (gf r.1 id) (l_ (bJ r.1 (a_ bO id)).1).1 <;> rfl
def K9 (k:Nat) (v:Ty.d cv) (en:Int) (x:Ty.d aA) (hi:Int) (dir:aR) (la:Int) (pl:ag):Option (Ty.d am × Ty.d aE × Unit) :=
 (Option.bind (dl.f k (dir,(la,(0,()))) pl) fun r9=>(bif (r9.1.2.2.1 != 0) then (some ((x,(3,())),(kX,()))) else
 (Option.bind (af.f k (x,(0,())) v) fun r10=>(some (r10.1,((v,(r9.1.1,((aQ (r9.1.2.1+1)),(en,(hi,()))))),()))))))
def R6 (q:Ty.d aE × RD) (o:Option (Ty.d am × Ty.d aE × Unit)):Prop:=∃ st,o=some (wO q.2,(st,()))∧(q.2.2=0→st=q.1)∧(q.2.2≠0→q.1=kX)
theorem vR {c:Int} (h:(c==0)=false):gh c≠0:=fun q=>by have:=iO c;rw [q,h] at this;cases this
theorem JL {k:Nat} (hk:2 ^ 50≤k) {v:Ty.d cv} (hv:v.2.1.length≤60) (en:Int) {x:Ty.d aA} (h:DR x) (hi:Int) {dir:aR} (hd:dir.length≤1000) (la:Int) {pl:ag} (hp:pl.length≤100000000) :
 R6 (NK v en x (ia (dir,(la,(0,()))) pl) hi) (K9 k v en x hi dir la pl):=by
 unfold K9 NK;rw [zI hk _ (by omega) (by show dir.length≤_;omega),ac];simp only [bne];cases (ia (dir,(la,(0,()))) pl).2.2.1==0 with
 | false=>exact ⟨kX,rfl,fun q=>(by cases q),fun _=>rfl⟩
 | true =>
  simp only [fw,aJ];rw [show af.f k (x,(0,())) v=_ from Aq hk (x,0) h (by omega),ac];cases c:(m7 v.2.1 x).2==0 with
  | true =>refine ⟨DY v en (ia (dir,(la,(0,()))) pl) hi,?_,fun _=>rfl,fun q=>absurd rfl q⟩;show some (wO (wk (m7 v.2.1) (x,0)),_)=some (wO ((m7 v.2.1 x).1,0),_);unfold wk;simp only [beq_self_eq_true,aa];rw [yd c];rfl
  | false=>exact ⟨_,rfl,fun q=>absurd q (vR c),fun _=>rfl⟩
theorem QR {k:Nat} (hk:2 ^ 50≤k) {v:Ty.d cv} (en:Int) (x:Ty.d aA) (hi:Int) (dir:aR) (la:Int) {al:List ag} (hal:∀ a ∈ al,a.length≤100000) (hz:al.length≤60) :
 aP.l0 k k al al.length 0 x.1 x.2.1 x.2.2.1 x.2.2.2.1 0 [] [] 0 0 0 0 v.2.1 v.1 [] v.1 0 en hi dir la 0 []=K9 k v en x hi dir la (wA al):=by
 refine (fj (L:=fun n i pl=>aP.l0 k n al al.length i x.1 x.2.1 x.2.2.1 x.2.2.2.1 0 [] [] 0 0 0 0 v.2.1 v.1 [] v.1 0 en hi dir la 0 pl) (R:=fun r pl=>K9 k v en x hi dir la (pl++wA r)) (Ty.z (.slice aL)) al (fun i pl=>(pl.length:Int)≤100000*i) (fun n pl hp=>?_) (fun n i pl y rest h0 h1 hy hr hp ih=>?_) (n:=k) (s:=[]) (by omega) (by simp)).trans (by rw [List.nil_append])
 · simp only [aP.l0,aP.b0];rw [aY (by omega),aJ,show wA []=[] from rfl,List.append_nil];rfl
 · have hy2:y.length≤100000:=hal y (by rw [← hy];exact gR (by omega));have ih:=ih (pl++y) (by rw [nE];omega);simp only [aP.l0,aP.b0];rw [aW h1,aa,aT h0 h1,hy,bn (by omega) (by decide),aF (n:=i+1) (by omega) (by omega)];refine ih.trans ?_;rw [oK];rfl
theorem Q6 {k:Nat} (hk:2 ^ 50≤k) {v:Ty.d cv} (en:Int) (x:Ty.d aA) (hi:Int) (dir:aR) (la:Int) {al:List ag} (hal:∀ a ∈ al,a.length≤100000) (hz:al.length≤60) :
 aP.l1 k k al.length 0 x.1 x.2.1 x.2.2.1 x.2.2.2.1 0 [] [] 0 0 0 0 v.2.1 v.1 [] v.1 0 en hi dir la 0 [] al=K9 k v en x hi dir la (wA al):=by
 refine (fj (L:=fun n i pl=>aP.l1 k n al.length i x.1 x.2.1 x.2.2.1 x.2.2.2.1 0 [] [] 0 0 0 0 v.2.1 v.1 [] v.1 0 en hi dir la 0 pl al) (R:=fun r pl=>K9 k v en x hi dir la (pl++wA r)) (Ty.z (.slice aL)) al (fun i pl=>(pl.length:Int)≤100000*i) (fun n pl hp=>?_) (fun n i pl y rest h0 h1 hy hr hp ih=>?_) (n:=k) (s:=[]) (by omega) (by simp)).trans (by rw [List.nil_append])
 · simp only [aP.l1,aP.b1];rw [aY (by omega),aJ,show wA []=[] from rfl,List.append_nil];rfl
 · have hy2:y.length≤100000:=hal y (by rw [← hy];exact gR (by omega));have ih:=ih (pl++y) (by rw [nE];omega);simp only [aP.l1,aP.b1];rw [aW h1,aa,aT h0 h1,hy,bn (by omega) (by decide),aF (n:=i+1) (by omega) (by omega)];refine ih.trans ?_;rw [oK];rfl
theorem Iq (k:Nat):∀ n,aP.l2 k n=aP.l0 k n
 | 0=>rfl
 | n+1=>by show aP.b2 k (aP.l2 k n)=aP.b0 k (aP.l0 k n);rw [Iq k n];rfl
theorem Ja (k:Nat):∀ n,aP.l3 k n=aP.l1 k n
 | 0=>rfl
 | n+1=>by show aP.b3 k (aP.l3 k n)=aP.b1 k (aP.l1 k n);rw [Ja k n];rfl
theorem GO {k:Nat} (hk:2 ^ 50≤k) {v:Ty.d cv} (hv:dz v=true) {d:Ty.d aA} (h:DR d) (en:Int) {x:Ty.d aA} (hx:DR x) (hsame:∀ s,c_ (bJ x s).1=c_ (bJ d s).1) :
 R6 (NK v en x (m5 x v.2.1) (bif o_ x (v.2.1.getD 0 0) then v.2.1.getD 0 0 else 0))
  (dR 0 (List.length v.2.1:Int) (Option.bind (dA.f k (x,(0,())) (List.getD v.2.1 0 (Ty.z (.int .i64)))) fun r8 =>
   (bif r8.2.2.1 then (dR 0 (List.length v.2.1:Int) (pS 1 (List.length (v.2.1.map (nC d)):Int)
    (aP.l0 k k (List.drop 1 (v.2.1.map (nC d))) (List.length (List.drop 1 (v.2.1.map (nC d))):Int) 0 r8.1.1.1 r8.1.1.2.1 r8.1.1.2.2.1 r8.1.1.2.2.2.1 r8.1.2.1 [] [] 0 0 0 0 v.2.1 v.1 [] v.1 0 en (List.getD v.2.1 0 (Ty.z (.int .i64))) r8.2.1.1 r8.2.1.2.1 r8.2.1.2.2.1 [])))
   else (aP.l1 k k (List.length (v.2.1.map (nC d)):Int) 0 r8.1.1.1 r8.1.1.2.1 r8.1.1.2.2.1 r8.1.1.2.2.2.1 r8.1.2.1 [] [] 0 0 0 0 v.2.1 v.1 [] v.1 0 en 0 r8.2.1.1 r8.2.1.2.1 r8.2.1.2.2.1 [] (v.2.1.map (nC d)))))):=by
 obtain ⟨_,_,hv1,hv2,_⟩:=bo (nx:=v.1) (ids:=v.2.1) hv;have hpa:=wq hx (v.2.1.drop 1);have hpb:=wq hx v.2.1;rw [List.length_drop] at hpa;have hh:=DW (s:=(bJ x (a_ bO (v.2.1.getD 0 0))).1);have hal:∀ a ∈ v.2.1.map (nC d),a.length≤100000:=fun a ha=>by obtain ⟨y,_,rfl⟩:=List.mem_map.1 ha;exact AB h y
 rw [aT (by omega) (by omega),show List.getD v.2.1 0 (Ty.z (.int .i64))=v.2.1.getD 0 0 from rfl,show dA.f k (x,(0,())) (v.2.1.getD 0 0)=_ from Bc hk (x,0) hx (v.2.1.getD 0 0),ac];unfold m5;cases o_ x (v.2.1.getD 0 0) with
 | true =>
  simp only [aa];rw [aT (by omega) (by omega),d7 (by omega) (by rw [List.length_map];omega)];have:=JL hk hv2 en hx (v.2.1.getD 0 0) (dir:=(eG x (v.2.1.getD 0 0)).2.2.1) (by show (l_ _).1.2.2.1.length≤_;omega) (eG x (v.2.1.getD 0 0)).2.1 (pl:=lO x (v.2.1.drop 1)) (by omega);rw [← List.map_drop];rw [pB hsame,← sH] at this;have e:=QR hk (v:=v) en x (v.2.1.getD 0 0) (eG x (v.2.1.getD 0 0)).2.2.1 (eG x (v.2.1.getD 0 0)).2.1 (al:=(v.2.1.drop 1).map (nC d)) (fun a ha=>by
   obtain ⟨y,_,rfl⟩:=List.mem_map.1 ha;exact AB h y) (by rw [List.length_map,List.length_drop];omega)
  rw [← e] at this;rw [pB hsame,← sH];exact this
 | false =>simp only [aJ];have:=JL hk hv2 en hx 0 (dir:=[]) (by simp) 0 (pl:=lO x v.2.1) (by omega);rw [pB hsame,← sH] at this;have e:=Q6 hk (v:=v) en x 0 [] 0 (al:=v.2.1.map (nC d)) hal (by rw [List.length_map];omega);rw [← e] at this;rw [pB hsame,← sH];exact this
theorem El {k:Nat} (hk:2 ^ 50≤k) {d:Ty.d aA} (h:DR d) {t:ByteArray} (ht:t.size≤1099511627776) :
 R6 (bif !(lp t).2 then (kX,(d,3)) else EK (lp t).1 d) (aP.f k (d,(0,())) t):=by
 have hl:=h.sz.l;have hu:=h.sz.u;have hn:=h.sz.n;unfold aP.f aP.t;rw [yO hk ht,ac];rcases nI (fun v=>dz v=true) cA ((0,([],())):Ty.d cv) t with ⟨v,h1,_,e⟩ | e
 · rw [show lp t=(v,true) from e];obtain ⟨_,_,hv1,hv2,_⟩:=bo (nx:=v.1) (ids:=v.2.1) h1;simp only [fw,aJ];rw [show bM.f k (d,(0,())) v=_ from sV hk (d,0) h hv2,ac];simp only [];unfold EK;cases mC d v.2.1 with
   | false=>exact ⟨kX,rfl,fun q=>(by cases q),fun _=>rfl⟩
   | true =>
    have hs:=uB h (bi v.2.1);have hsc:=na (gf d (bi v.2.1));have w:aQ ((v.2.1.length:Int)-1)=((v.2.1.length-1:Nat):Int):=by rw [aF (by omega) (by omega)];omega
    simp only [fw,aJ,aa];rw [AH d v.2.1 0 (by intro q;rw [q] at hv1;exact absurd hv1 (by decide)),w,s5,aT (by omega) (by omega),show List.getD v.2.1 (v.2.1.length-1) (Ty.z (.int .i64))=bi v.2.1 from rfl,show v.2.1.getD (v.2.1.length-1) 0=bi v.2.1 from rfl,ch,ac];simp only [show (wO (d,0)).1=d from rfl];rw [jY hk (by omega) (by omega) (by omega),ac,Iq,Ja];simp only [show (bJ d (a_ aG (bi v.2.1))).1=gf d (bi v.2.1) from rfl];have fx:=Q8 (bi v.2.1) h;have ft:=fun c s=>(Lf h (x:=bi v.2.1) c s).2
    generalize hen:(c_ (gf d (bi v.2.1))).2=en at *;by_cases q:en<((gf d (bi v.2.1)).size:Int)
    · have ef:mf (bi v.2.1) d=fD (rK d (a_ aG (bi v.2.1)) en) fun y=>dY y (a_ aG (bi v.2.1)):=by
       unfold mf;rw [hen,aW q];rfl
      rw [show (((gf d (bi v.2.1)).size:Int) != en)=true from bne_iff_ne.2 (by omega),aa,HY hk h.sz,ac];simp only [];rw [tU,ac];simp only [];have h2:=Df h (a_ aG (bi v.2.1)) en;rw [show bP.f k ((rK d (a_ aG (bi v.2.1)) en).1,(gh (rK d (a_ aG (bi v.2.1)) en).2,())) (a_ aG (bi v.2.1))=_ from ob hk ((rK d (a_ aG (bi v.2.1)) en).1,gh (rK d (a_ aG (bi v.2.1)) en).2) h2 _,ac];have e2:wk (fun x=>dY x (a_ aG (bi v.2.1))) ((rK d (a_ aG (bi v.2.1)) en).1,gh (rK d (a_ aG (bi v.2.1)) en).2)=((mf (bi v.2.1) d).1,gh (mf (bi v.2.1) d).2):=by have:=rU (fun x=>rK x (a_ aG (bi v.2.1)) en) (fun x=>dY x (a_ aG (bi v.2.1))) (d,0);rw [show wk (fun x=>rK x (a_ aG (bi v.2.1)) en) (d,0)=((rK d (a_ aG (bi v.2.1)) en).1,gh (rK d (a_ aG (bi v.2.1)) en).2) from rfl] at this;rw [← this,ef];rfl
      rw [e2];simp only [bne,show (wO ((mf (bi v.2.1) d).1,gh (mf (bi v.2.1) d).2)).2.1=gh (mf (bi v.2.1) d).2 from rfl,iO];cases c:(mf (bi v.2.1) d).2==0 with
      | false=>exact ⟨kX,rfl,fun q=>absurd q (vR c),fun _=>rfl⟩
      | true =>simp only [fw,aJ];have c0:=yd c;rw [c0];exact GO hk h1 h en fx (ft c0)
    · have ef:mf (bi v.2.1) d=dY d (a_ aG (bi v.2.1)):=by
       unfold mf;rw [hen,aY q];rfl
      rw [show (((gf d (bi v.2.1)).size:Int) != en)=false by rw [show ((gf d (bi v.2.1)).size:Int)=en by omega];simp,aJ,ob hk (d,0) h,ac];have e2:wk (fun x=>dY x (a_ aG (bi v.2.1))) (d,0)=((mf (bi v.2.1) d).1,gh (mf (bi v.2.1) d).2):=by rw [ef];rfl
      rw [e2];simp only [bne,show (wO ((mf (bi v.2.1) d).1,gh (mf (bi v.2.1) d).2)).2.1=gh (mf (bi v.2.1) d).2 from rfl,iO];cases c:(mf (bi v.2.1) d).2==0 with
      | false=>exact ⟨kX,rfl,fun q=>absurd q (vR c),fun _=>rfl⟩
      | true =>simp only [fw,aJ];have c0:=yd c;rw [c0];exact GO hk h1 h en fx (ft c0)
 · rw [show lp t=((0,([],())),false) from e];simp only [ue,aa];rw [show bM.f k (d,(0,())) ((0,([],())):Ty.d cv)=_ from sV hk (d,0) h (by decide),ac];exact ⟨kX,rfl,fun q=>(by cases q),fun _=>rfl⟩
theorem Ed {k:Nat} (hk:2 ^ 50≤k) {d:Ty.d aA} (h:DR d):R6 (AC d) (fW.f k (d,(0,()))):=by
 have h1:=ru (r:=((d,0):RD)) h (Mz []);have hn:=GC (.inl rfl:aG=aG∨aG=bO) 1;have h2:=ru h1 fun x hx=>I2 hx (a_ aG 1)
 unfold fW.f fW.t;rw [show af.f k (d,(0,())) ((0,([],())):Ty.d cv)=_ from Aq hk (d,0) h (v:=(0,([],()))) (by decide),ac,ch,ac];simp only [show ((0,(([]:List Int),())):Ty.d cv).2.1=[] from rfl];rw [CH hk _ h1 (by omega),ac];simp only [];rw [show ((2,([1],())):Ty.d cv)=sK from rfl,qA hk _ h2 (by decide),ac,← rU (m7 []) (fun x=>rk x (a_ aG 1)),← rU];unfold AC;refine ⟨(sK,([],(1,(0,(0,()))))),?_,?_,?_⟩
 · cases c:(oD d).2==0 with
   | true =>show some (wO ((oD d).1,gh (oD d).2),_)=some (wO ((oD d).1,0),_);rw [yd c];rfl
   | false=>rfl
 · cases c:(oD d).2==0 with
   | true=>intro _;rfl
   | false=>intro q;exact absurd q (vR c)
 · cases c:(oD d).2==0 with
   | true=>intro q;exact absurd rfl q
   | false=>intro _;rfl
theorem Gj {k:Nat} (hk:2 ^ 50≤k) {d:Ty.d aA} (hd:F3 d):mX.f k d=some (oS (g6 d)):=by
 have hl:=hd.l;have hu:=hd.u;have hn:=hd.n;unfold mX.f mX.t g6;rw [gm k hl,ac,iV hk (by omega) (by omega),ac];cases c:jO d with
 | false=>rfl
 | true =>
  have h:=jX.1 c;have fin:∀ (q:Ty.d aE × RD) (o:Option (Ty.d am × Ty.d aE × Unit)),R6 q o→(Option.bind o fun r4=>(bif (r4.1.2.1 != 0) then (some (kX,r4.1)) else (some (r4.2.1,(r4.1.1,(0,()))))))=some (oS q):=fun q o hq=>by
   obtain ⟨st,e,a,b⟩:=hq;rw [e,ac];simp only [bne,show (wO q.2).2.1=q.2.2 from rfl];cases cq:q.2.2==0 with
   | true =>have z:=yd cq;rw [a z];show some (q.1,(q.2.1,(0,())))=some (q.1,(q.2.1,(q.2.2,())));rw [z]
   | false =>rw [ue,aa];show some (kX,(q.2.1,(q.2.2,())))=some (q.1,(q.2.1,(q.2.2,())));rw [b (fun z=>by rw [z] at cq;cases cq)]
  simp only [fw,aJ];cases cdn:d.2.2.2.1 with
  | true=>rfl
  | false =>
   simp only [aJ];rw [show (⟨#[108,105,118,101]⟩:ByteArray)=gg from rfl,jY hk (by omega) (by omega) (by omega),ac];simp only [];cases (bJ d gg).2 with
   | false =>simp only [ue,aa,aJ];exact fin _ _ (Ed hk h)
   | true =>have hz:=lS d gg;simp only [fw,aJ,aa];exact fin _ _ (El hk h (by omega))
noncomputable def j_ (q:Ty.d aE × RD):Ty.d bF:=((q.2.2==0),(q.1,(q.2.1,(List.replicate 3 (Ty.z aV),()))))
theorem uK {k:Nat} (hk:2 ^ 50≤k) {d:Ty.d aA} (hd:F3 d):fQ.f k d=some (j_ (g6 d),((g6 d).2.2,())):=by unfold fQ.f fQ.t;rw [Gj hk hd,ac,IQ (by omega) (by omega) (by decide)];rfl
def ik (n:Int):Ty.d aA:=([],(n,(-1,(false,()))))
theorem Im {n:Int} (h0:0≤n) (h1:n≤100000):DR (ik n) :=
 ⟨Nat.zero_le _,h0,h1,show LE.le (α:=Int) (-1) (-1) from Int.le_refl _,show LE.le (α:=Int) (-1) 100000 by decide,h0,fun f hf=>(by cases hf),List.Pairwise.nil⟩
def Qk (l:aR):Prop:=∀ e ∈ l,LE.le (α:=Int) 0 e.2.2.2.1
theorem JD {l:aR} {e x:Ty.d aC} (h:x ∈ vE l e):x=e∨x ∈ l:=by
 unfold vE at h;rcases List.mem_append.1 h with w | w
 · exact .inr (List.takeWhile_subset _ w)
 · rcases List.mem_cons.1 w with w | w
   · exact .inl w
   · exact .inr (List.dropWhile_subset _ w)
structure IV (q:Ty.d aE × RD):Prop where
 disk:DR q.2.1
 ids:q.1.1.2.1.length≤60
 dir:q.1.2.1.length≤268435456
 non:Qk q.1.2.1
 sum:uU q.1.2.1≤(uH q.2.1 q.1.1.2.1:Int)
def yw (l:bV) (mark:Int):Int:=((aU (fV l mark)).size:Int)
theorem yD (r:Ty.d bf) (l:ja):(aU (r::l)).size=(aS (aI r)).size+(aU l).size:=by rw [aU,ByteArray.size_append]
theorem qo {st:Ty.d aE} {d:Ty.d aA} (c:dw st d=true):st.2.1.length≤20:=by unfold dw uG at c;simp only [iE,decide_eq_true_eq] at c;omega
def BR (nm:ByteArray):ja→RD→RD
 | [],r=>r
 | x::l,r=>BR nm l (fD r fun y=>jS y nm (aS (aI x)))
def dQ (m:Int) (l:bV) (mark:Int) (d:Ty.d aA):RD:=fD (BR (a_ aG m) (fV l mark) (ax (a_ aG m) d)) fun y=>dY y (a_ aG m)
def ic (m:Int):bV→Int→aR
 | [],_=>[]
 | p::l,at_=>(p.1,(m,(at_,(ar (cJ p),(p.2.2.1,())))))::ic m l (at_+ar (cJ p))
def n_ (ns:List ByteArray) (r:RD):RD:=bif r.2==2 then ((bj ns r.1).1,bif (bj ns r.1).2==0 then 2 else gh (bj ns r.1).2) else r
def lI (m:Int):List ByteArray:=[ib,a_ aG m,a_ aG (m+1),a_ bO m]
def nA:List Int→Ty.d aA→RD
 | [],d=>(d,0)
 | x::l,d=>fD (bj [a_ aG x,a_ bO x] d) (nA l)
def pY (st:Ty.d aE):Ty.d aE:=((st.1.1+2,st.1.2),st.2)
def fu (m:Int):Ty.d cv:=(m+2,([m,m+1],()))
def i8 (hb:ByteArray→ByteArray) (m:Int) (d:Ty.d aA):RD :=
 bif (lM (a_ bO m) (hb (bJ d (a_ aG m)).1) d).2==2 then bj [a_ bO m] (lM (a_ bO m) (hb (bJ d (a_ aG m)).1) d).1 else lM (a_ bO m) (hb (bJ d (a_ aG m)).1) d
def cS (hb:ByteArray→ByteArray) (st:Ty.d aE) (d:Ty.d aA) (l:bV):Ty.d aE × RD :=
 bif (dQ st.1.1 l (st.2.2.1-1) d).2 != 0 then (pY st,n_ (lI st.1.1) (tl (dQ st.1.1 l (st.2.2.1-1) d))) else
 bif (ax (a_ aG (st.1.1+1)) (dQ st.1.1 l (st.2.2.1-1) d).1).2 != 0 then (pY st,n_ (lI st.1.1) (tl (ax (a_ aG (st.1.1+1)) (dQ st.1.1 l (st.2.2.1-1) d).1))) else
 bif (i8 hb st.1.1 (ax (a_ aG (st.1.1+1)) (dQ st.1.1 l (st.2.2.1-1) d).1).1).2 != 0 then (pY st,tl (i8 hb st.1.1 (ax (a_ aG (st.1.1+1)) (dQ st.1.1 l (st.2.2.1-1) d).1).1)) else
 bif (bE (fu st.1.1) (i8 hb st.1.1 (ax (a_ aG (st.1.1+1)) (dQ st.1.1 l (st.2.2.1-1) d).1).1).1).2 != 0 then
  (pY st,n_ (lI st.1.1) (tl (bE (fu st.1.1) (i8 hb st.1.1 (ax (a_ aG (st.1.1+1)) (dQ st.1.1 l (st.2.2.1-1) d).1).1).1))) else
 ((fu st.1.1,(ic st.1.1 l 0,(st.2.2.1,(0,(0,()))))),tl (nA st.1.2.1 (bE (fu st.1.1) (i8 hb st.1.1 (ax (a_ aG (st.1.1+1)) (dQ st.1.1 l (st.2.2.1-1) d).1).1).1).1))
theorem lw {s:ByteArray} {d:Ty.d aA} (h:(ax s d).2=0):fT (ax s d).1 s=some ByteArray.empty:=by
 unfold ax at h ⊢;unfold fD at h ⊢;cases c:(gU s d).2==0 with
 | false =>rw [c,aJ] at h;rw [h] at c;cases c
 | true =>
  rw [c,aa] at h;rw [aa];obtain ⟨c1,c2⟩:=nL (d:=(gU s d).1) (g:=uE s) h;unfold fT;show (bU (iQ (gU s d).1 (uE s)).1.1 s).map _=_;rw [c2];unfold uE at c1 ⊢;cases c3:jQ s with
  | false=>rw [c3] at c1;cases c1
  | true =>
   rw [c3] at c1;simp only [fw,aJ] at c1 ⊢;cases c4:(bU (gU s d).1.1 s) with
   | some f=>rw [c4] at c1;cases c1
   | none =>
    rw [c4] at c1;simp only [Option.isSome_none,aJ] at c1 ⊢;cases c5:decide (((gU s d).1.1.length:Int)≥130) with
    | true=>rw [c5] at c1;cases c1
    | false =>simp only [aJ];rw [zB (f:=(s,(ByteArray.empty,(0,())))) c4,bQ];rfl
theorem EG (nm:ByteArray):∀ (l:ja) (r:RD),r.2≠0→BR nm l r=r
 | [],_,_=>rfl
 | x::l,r,h=>by
  unfold BR;have e:fD r (fun y=>jS y nm (aS (aI x)))=r:=by unfold fD;rw [qi h];rfl
  rw [e];exact EG nm l r h
theorem IG (nm:ByteArray):∀ (l:ja) (r:RD) (x:ByteArray),fT r.1 nm=some x→(BR nm l r).2=0→fT (BR nm l r).1 nm=some (x++aU l)
 | [],r,x,h,_=>by show fT r.1 nm=some (x++⟨#[]⟩);rw [h,show x++(⟨#[]⟩:ByteArray)=x from Mf x]
 | a::l,r,x,h,z=>by
  unfold BR at z ⊢;by_cases c:(fD r (fun y=>jS y nm (aS (aI a)))).2=0
  · obtain ⟨c1,c2,c3⟩:=lD c;have c3:(jS r.1 nm (aS (aI a))).2=0:=c3;have e:fT (fD r (fun y=>jS y nm (aS (aI a)))).1 nm=some (x++aS (aI a)):=by
     rw [c2];have:=rR (d:=r.1) (s:=nm) (x:=aS (aI a));rw [c3,h] at this;exact this
    rw [IG nm l _ _ e z];show some (x++aS (aI a)++aU l)=some (x++(aS (aI a)++aU l));rw [pK]
  · rw [EG nm l _ c] at z;exact absurd z c
theorem P7 {nm t:ByteArray} (h:nm≠t):∀ (l:ja) (r:RD),fT (BR nm l r).1 t=fT r.1 t
 | [],_=>rfl
 | a::l,r=>by
  show fT (BR nm l (fD r fun y=>jS y nm (aS (aI a)))).1 t=_;rw [P7 h l];exact pe rfl fun y=>uz h
theorem zt {m:Int} {l:bV} {mark:Int} {d:Ty.d aA} {t:ByteArray} (h:a_ aG m≠t):fT (dQ m l mark d).1 t=fT d t :=
 pe ((P7 h _ _).trans (lf h)) fun y=>lH
theorem qv {hb:ByteArray→ByteArray} {m:Int} {d:Ty.d aA} {t:ByteArray} (h:a_ bO m≠t):fT (i8 hb m d).1 t=fT d t:=by
 unfold i8;cases (lM (a_ bO m) (hb (bJ d (a_ aG m)).1) d).2==2 with
 | false=>exact Dt h
 | true =>refine (oo _ _ fun s hs=>?_).trans (Dt h);rw [List.mem_singleton.1 hs];exact h
theorem uu {t:ByteArray}:∀ (l:List Int) (d:Ty.d aA),(∀ x ∈ l,a_ aG x≠t∧a_ bO x≠t)→fT (nA l d).1 t=fT d t
 | [],_,_=>rfl
 | x::l,d,h=>by
  show fT (fD (bj [a_ aG x,a_ bO x] d) (nA l)).1 t=_;refine pe (oo _ _ fun s hs=>?_) fun y=>uu l y fun z hz=>h z (kS _ hz)
  have:=h x il;rcases List.mem_cons.1 hs with e | e
  · rw [e];exact this.1
  · rw [List.mem_singleton.1 e];exact this.2
theorem Cg (m:Int):∀ (l:bV) (a:Int),uU (ic m l a)=((aU (l.map cJ)).size:Int)∧Qk (ic m l a)
 | [],_=>⟨rfl,fun x hx=>by cases hx⟩
 | p::l,a=>by
  obtain ⟨i1,i2⟩:=Cg m l (a+ar (cJ p));have hr:=mV (cJ p);refine ⟨?_,fun x hx=>?_⟩
  · show ar (cJ p)+uU (ic m l (a+ar (cJ p)))=_;rw [i1,List.map_cons,yD];unfold ar;omega
  · rcases List.mem_cons.1 hx with e | e
    · rw [e];exact hr.1
    · exact i2 x e
theorem m9 {x y:Int} (hx:1≤x∧x≤100000) (hy:1≤y∧y≤100000):a_ bO x≠a_ aG y:=fun q=>by
 have e:a_ bO x=bO++kA x:=by unfold a_;rw [aW hx];rfl
 rw [vJ hy,e] at q;have:=congrArg nb q;rw [gw,gw] at this;cases this
theorem Cj {x:Int} (hx:1≤x∧x≤100000):a_ bO x≠gg:=fun q=>by
 have e:a_ bO x=bO++kA x:=by unfold a_;rw [aW hx];rfl
 rw [e] at q;have:=congrArg nb q;rw [gw] at this;cases this
theorem Fi {s t:ByteArray} {d:Ty.d aA} (z:(lM s t d).2=0):fT (lM s t d).1 s=some t:=by unfold lM at z ⊢;obtain ⟨z1,e1,z2⟩:=lD z;obtain ⟨z3,e2,z4⟩:=lD z1;rw [e1,lH,e2];have:=rR (d:=(ax s d).1) (s:=s) (x:=t);rw [z4,lw z3] at this;have this:fT (jS (ax s d).1 s t).1 s=some (ByteArray.empty++t):=this;rw [this,show (ByteArray.empty:ByteArray)=dB [] from rfl,Ew]
theorem OV {d:Ty.d aA} {a b:ByteArray} (hd:DR d) (hab:a≠b) (z:(xS d a b).2=0):fT (xS d a b).1 b=fT d a:=by
 obtain ⟨c1,c2⟩:=nL z;unfold fT;show (bU (iQ d (wB a b)).1.1 b).map _=_;rw [c2];unfold wB at c1 ⊢;cases c3:jQ b with
 | false=>rw [c3] at c1;exact absurd c1 (by show (5:Int)≠0;decide)
 | true =>
  rw [c3] at c1;simp only [fw,aJ] at c1 ⊢;cases c4:bU d.1 a with
  | none=>rw [c4] at c1;exact absurd c1 (by show (3:Int)≠0;decide)
  | some f =>simp only [];rw [kZ hab,aJ];have hk:cW (lU (gi d.1 a)):=sR (qw _ _) hd.keys;show (bU (kv (gi (gi d.1 a) b) (b,f.2)) b).map _=_;rw [zB (f:=(b,f.2)) (pA hk b),bQ];rfl
theorem rJ {v:Ty.d cv} {d:Ty.d aA} (hd:DR d) (z:(bE v d).2=0):fT (bE v d).1 gg=some (cA v):=by unfold bE at z ⊢;obtain ⟨z1,e1,z2⟩:=lD z;rw [e1,OV (jv _ _ _ hd) (by decide) z2,Fi z1]
theorem zp {n:Int} (h0:0≤n) (h1:n≤127):(jo n).size=1:=by unfold jo;rw [if_pos ⟨h0,by omega⟩,← sb (by omega)];unfold vl;rw [if_neg (by omega)];rfl
theorem Hn {n:Int} (h0:0≤n) (h1:n≤2097151):(jo n).size≤3:=by
 unfold jo;rw [if_pos ⟨h0,by omega⟩,← sb (by omega)];unfold vl;split
 · rw [j7];unfold vl;split
   · rw [j7];unfold vl;rw [if_neg (by omega)];exact Nat.le_refl _
   · show 1+1≤3
     decide
 · show 1≤3
   decide
theorem MR (mark:Int) (l:ja):ar (i_ 5 mark l)≤20:=by
 have key:(aI (i_ 5 mark l)).size≤9:=by
  unfold aI;by_cases c:bg (i_ 5 mark l)=true
  · rw [if_pos c];rcases ni c with ⟨q,_⟩ | ⟨q,_⟩ | ⟨_,_,_,h1,h2,_,_,h3,h4⟩
    · exact absurd q (by show ¬ ((5:Int)=1∨(5:Int)=4);decide)
    · exact absurd q (by show ¬ ((5:Int)=2);decide)
    · rw [if_neg (by show ¬ ((5:Int)=1∨(5:Int)=4);decide),if_neg (by show ¬ ((5:Int)=2);decide),ByteArray.size_append,ByteArray.size_append,ByteArray.size_append,jB];have e1:(jo (i_ 5 mark l).1).size=1:=zp (n:=5) (by decide) (by decide);have e2:=Hn (n:=(i_ 5 mark l).2.1) h3 (Int.le_trans h4 (by decide));have e3:=zp (n:=(i_ 5 mark l).2.2.2.2.1) h1 (Int.le_trans h2 (by decide));omega
  · rw [if_neg c];exact Nat.zero_le _
 unfold ar aS;rw [if_neg (by omega),ByteArray.size_append,jB];unfold js;rw [ByteArray.size_append,zp (by omega) (by omega)];omega
theorem A5 (m:Int):∀ (l:bV) (a:Int),(ic m l a).length=l.length
 | [],_=>rfl
 | p::l,a=>by show (ic m l (a+ar (cJ p))).length+1=_;rw [A5 m l];rfl
theorem Kq {hb:ByteArray→ByteArray} {st:Ty.d aE} {d:Ty.d aA} {c:Int} {l:bV} (h:IV (st,(d,c))) (hl:dz st.1=true) (hn:LE.le (α:=Int) (st.1.1+2) 100000) (hlen:l.length≤268435456) :
 IV (cS hb st d l)∧((cS hb st d l).2.2=0→(uH (cS hb st d l).2.1 (cS hb st d l).1.1.2.1:Int)=yw l (st.2.2.1-1)∧(uH (cS hb st d l).2.1 (cS hb st d l).1.1.2.1:Int)-uU (cS hb st d l).1.2.1≤20 ∧
  fT (cS hb st d l).2.1 (a_ aG st.1.1)=some (aU (fV l (st.2.2.1-1)))∧fT (cS hb st d l).2.1 (a_ aG (st.1.1+1))=some ByteArray.empty∧(cS hb st d l).1=(fu st.1.1,(ic st.1.1 l 0,(st.2.2.1,(0,(0,()))))) ∧
  fT (cS hb st d l).2.1 gg=some (cA (fu st.1.1))):=by
 obtain ⟨n1,n2,n3,_⟩:=gY (n:=st.1.1) (ids:=st.1.2.1) hl;have hd:DR d:=h.disk;have hsum:uU st.2.1≤(uH d st.1.2.1:Int):=h.sum;have hm:(1:Int)≤st.1.1∧st.1.1≤(100000:Int):=⟨n1,n2⟩;have hm1:LE.le (α:=Int) 1 (st.1.1+1)∧LE.le (α:=Int) (st.1.1+1) 100000:=⟨by omega,by omega⟩;have hseg:∀ x:Int,x ∈ st.1.2.1→1≤x∧x≤100000:=fun x hx=>⟨(n3 x hx).1,by have:=(n3 x hx).2;omega⟩
 have no1:∀ x ∈ st.1.2.1,a_ aG st.1.1≠a_ aG x:=fun x hx=>q9 hm (hseg x hx) (by have:=(n3 x hx).2;omega)
 have no2:∀ x ∈ st.1.2.1,a_ aG (st.1.1+1)≠a_ aG x:=fun x hx=>q9 hm1 (hseg x hx) (by have:=(n3 x hx).2;omega)
 have no3:∀ x ∈ st.1.2.1,a_ bO st.1.1≠a_ aG x:=fun x hx=>m9 hm (hseg x hx)
 have no4:a_ aG (st.1.1+1)≠a_ aG st.1.1:=q9 hm1 hm (by omega);have jump:∀ r:RD,DR r.1→(∀ x ∈ st.1.2.1,fT r.1 (a_ aG x)=fT d (a_ aG x))→IV (pY st,r):=fun r hr k=>⟨hr,h.ids,h.dir,h.non,by
  show uU st.2.1≤(uH r.1 st.1.2.1:Int);rw [Cl k];exact hsum⟩
 have dropK:∀ (r:RD),DR r.1→(∀ x ∈ st.1.2.1,fT r.1 (a_ aG x)=fT d (a_ aG x))→r.2≠0→IV (pY st,n_ (lI st.1.1) r)∧(n_ (lI st.1.1) r).2≠0:=fun r hr k hz=>by
  unfold n_;cases r.2==2 with
  | false=>exact ⟨jump r hr k,hz⟩
  | true =>
   refine ⟨jump _ (k9 _ _ hr) fun x hx=>(oo _ _ fun s hs=>?_).trans (k x hx),?_⟩
   · unfold lI at hs;rcases List.mem_cons.1 hs with e | e
     · rw [e];exact ig (hseg x hx)
     rcases List.mem_cons.1 e with e | e
     · rw [e];exact no1 x hx
     rcases List.mem_cons.1 e with e | e
     · rw [e];exact no2 x hx
     · rw [List.mem_singleton.1 e];exact no3 x hx
   · show (bif (bj (lI st.1.1) r.1).2==0 then (2:Int) else gh (bj (lI st.1.1) r.1).2)≠0;cases q:(bj (lI st.1.1) r.1).2==0 with
     | true =>
      show (2:Int)≠0
      decide
     | false =>intro e;have:=iO (bj (lI st.1.1) r.1).2;rw [q] at this;simp only [aJ] at e;rw [e] at this;cases this
 have tlnz:∀ r:RD,(r.2 != 0)=true→(tl r).2≠0:=fun r q e=>by have:=m4 r;rw [e,q] at this;cases this
 have a0:DR (dQ st.1.1 l (st.2.2.1-1) d).1:=by
  refine jc ?_ fun x hx=>mj hx _
  have:∀ (rs:ja) (r:RD),DR r.1→DR (BR (a_ aG st.1.1) rs r).1:=by
   intro rs
   induction rs with
   | nil=>exact fun r hr=>hr
   | cons x rs ih=>exact fun r hr=>ih _ (jc hr fun y hy=>qs hy _ _)
  exact this _ _ (jF _ _ hd)
 have a1:∀ x ∈ st.1.2.1,fT (dQ st.1.1 l (st.2.2.1-1) d).1 (a_ aG x)=fT d (a_ aG x):=fun x hx=>zt (no1 x hx)
 have a2:(dQ st.1.1 l (st.2.2.1-1) d).2=0→fT (dQ st.1.1 l (st.2.2.1-1) d).1 (a_ aG st.1.1)=some (aU (fV l (st.2.2.1-1))):=fun z=>by
  unfold dQ at z ⊢;obtain ⟨z1,z2,_⟩:=lD z;rw [z2];rw [lH];have z0:(ax (a_ aG st.1.1) d).2=0:=by
   by_cases w:(ax (a_ aG st.1.1) d).2=0
   · exact w
   · rw [EG _ _ _ w] at z1;exact absurd z1 w
  have:=IG (a_ aG st.1.1) (fV l (st.2.2.1-1)) (ax (a_ aG st.1.1) d) ByteArray.empty (lw z0) z1;rw [this,show (ByteArray.empty:ByteArray)=dB [] from rfl,Ew]
 unfold cS;generalize dQ st.1.1 l (st.2.2.1-1) d=a at a0 a1 a2 ⊢;cases ca:a.2 != 0 with
 | true =>obtain ⟨g1,g2⟩:=dropK (tl a) a0 a1 (tlnz a ca);exact ⟨g1,fun e=>absurd e g2⟩
 | false =>
  have b0:=jF (a_ aG (st.1.1+1)) a.1 a0;have b1:∀ x ∈ st.1.2.1,fT (ax (a_ aG (st.1.1+1)) a.1).1 (a_ aG x)=fT d (a_ aG x):=fun x hx=>(lf (no2 x hx)).trans (a1 x hx)
  have b2:=(lf (d:=a.1) no4).trans (a2 (fJ ca));have b3:=lw (s:=a_ aG (st.1.1+1)) (d:=a.1);simp only [aJ];generalize ax (a_ aG (st.1.1+1)) a.1=b at b0 b1 b2 b3 ⊢;cases cb:b.2 != 0 with
  | true =>obtain ⟨g1,g2⟩:=dropK (tl b) b0 b1 (tlnz b cb);exact ⟨g1,fun e=>absurd e g2⟩
  | false =>
   have b3:=b3 (fJ cb);have c0:DR (i8 hb st.1.1 b.1).1:=by
    unfold i8;cases (lM (a_ bO st.1.1) (hb (bJ b.1 (a_ aG st.1.1)).1) b.1).2==2 with
    | true=>exact k9 _ _ (jv _ _ _ b0)
    | false=>exact jv _ _ _ b0
   have c1:∀ x ∈ st.1.2.1,fT (i8 hb st.1.1 b.1).1 (a_ aG x)=fT d (a_ aG x):=fun x hx=>(qv (no3 x hx)).trans (b1 x hx)
   have c2:=(qv (hb:=hb) (d:=b.1) (m9 hm hm)).trans b2;have c3:=(qv (hb:=hb) (d:=b.1) (m9 hm hm1)).trans b3;simp only [aJ];generalize i8 hb st.1.1 b.1=e at c0 c1 c2 c3 ⊢;cases ce:e.2 != 0 with
   | true=>exact ⟨jump (tl e) c0 c1,fun z=>absurd z (tlnz e ce)⟩
   | false =>
    have d0:=mP (fu st.1.1) _ c0;have d1:∀ x ∈ st.1.2.1,fT (bE (fu st.1.1) e.1).1 (a_ aG x)=fT d (a_ aG x):=fun x hx=>(fo (ig (hseg x hx)) (jW (hseg x hx))).trans (c1 x hx)
    have d2:=(fo (d:=e.1) (v:=fu st.1.1) (ig hm) (jW hm)).trans c2;have d3:=(fo (d:=e.1) (v:=fu st.1.1) (ig hm1) (jW hm1)).trans c3;have d4:=rJ (v:=fu st.1.1) c0;simp only [aJ];generalize bE (fu st.1.1) e.1=f at d0 d1 d2 d3 d4 ⊢;cases cf:f.2 != 0 with
    | true =>obtain ⟨g1,g2⟩:=dropK (tl f) d0 d1 (tlnz f cf);exact ⟨g1,fun z=>absurd z g2⟩
    | false =>
     simp only [aJ];have o0:∀ (ids:List Int) (x:Ty.d aA),DR x→DR (nA ids x).1:=by
      intro ids
      induction ids with
      | nil=>exact fun x hx=>hx
      | cons y ids ih=>exact fun x hx=>jc (k9 _ _ hx) fun z hz=>ih z hz
     have o2:=(uu st.1.2.1 f.1 fun x hx=>⟨fun q=>no1 x hx q.symm,m9 (hseg x hx) hm⟩).trans d2;have o3:=(uu st.1.2.1 f.1 fun x hx=>⟨fun q=>no2 x hx q.symm,m9 (hseg x hx) hm1⟩).trans d3;have o4:=(uu st.1.2.1 f.1 fun x hx=>⟨fun q=>jW (hseg x hx) q.symm,Cj (hseg x hx)⟩).trans (d4 (fJ cf));have o1:=o0 st.1.2.1 f.1 d0;generalize nA st.1.2.1 f.1=o at o1 o2 o3 o4 ⊢;obtain ⟨l1,l2⟩:=Cg st.1.1 l 0;have hk:=MR (st.2.2.1-1) (l.map cJ);have hk0:=(mV (i_ 5 (st.2.2.1-1) (l.map cJ))).1;have tot:(uH o.1 [st.1.1,st.1.1+1]:Int)=uU (ic st.1.1 l 0)+ar (i_ 5 (st.2.2.1-1) (l.map cJ)):=by
      unfold uH Qe;rw [List.map_cons,List.map_singleton,List.sum_cons,List.sum_singleton,o2,o3,l1];simp only [Option.getD_some];unfold fV;rw [nn,ByteArray.size_append];have e1:(aU [i_ 5 (st.2.2.1-1) (l.map cJ)]).size=(aS (aI (i_ 5 (st.2.2.1-1) (l.map cJ)))).size:=by rw [yD];rfl
      have e2:(ByteArray.empty:ByteArray).size=0:=rfl;rw [e1,e2];unfold ar;omega
     have tot0:(uH o.1 [st.1.1,st.1.1+1]:Int)=yw l (st.2.2.1-1):=by unfold uH Qe yw;rw [List.map_cons,List.map_singleton,List.sum_cons,List.sum_singleton,o2,o3];rfl
     refine ⟨⟨o1,(show 2≤60 by decide),?_,l2,?_⟩,fun _=>⟨tot0,?_,o2,o3,by trivial,o4⟩⟩
     · show (ic st.1.1 l 0).length≤_;rw [A5];exact hlen
     · show uU (ic st.1.1 l 0)≤(uH o.1 [st.1.1,st.1.1+1]:Int);omega
     · show (uH o.1 [st.1.1,st.1.1+1]:Int)-uU (ic st.1.1 l 0)≤20;omega
noncomputable def se (m:Int) (s:ByteArray):ByteArray:=fH (gE m s).1
theorem PG (nm:ByteArray):∀ (rs:ja) (r:RD),DR r.1→DR (BR nm rs r).1
 | [],_,h=>h
 | x::rs,r,h=>PG nm rs _ (jc h fun y hy=>qs hy _ _)
theorem sM (m:Int) (l:bV) (mark:Int) {d:Ty.d aA} (hd:DR d):DR (dQ m l mark d).1 :=
 jc (PG _ _ _ (jF _ _ hd)) fun x hx=>mj hx _
theorem Lj {m:Int} (h0:1≤m) (h1:m+2≤100000):dz (fu m)=true:=by
 have e:aQ (m+2-1)=m+1:=by rw [aF (n:=m+2-1) (by omega) (by omega)];omega
 unfold dz fu;simp only [];rw [aW (show (1:Int)≤m+2∧m+2≤100000 from ⟨by omega,h1⟩),e];simp only [qM,qd,j7,List.length_nil];rw [aW (show (1:Int)≤m∧m≤m+1 from ⟨h0,by omega⟩),aW (show (1:Int)≤m+1∧m+1≤m+1 from ⟨by omega,by omega⟩),aW (show m<m+1 by omega)];rfl
noncomputable def bv (st:Ty.d aE) (d:Ty.d aA):Ty.d aE × RD :=
 bif !dw st d then (st,(d,4)) else bif decide (st.1.1+2 > 100000) then (st,(d,5)) else
 bif (bY st.2.1 d).2 != 0 then (st,(d,(bY st.2.1 d).2)) else cS (se st.1.1) st d (bY st.2.1 d).1
theorem A7 {st:Ty.d aE} {d:Ty.d aA} (h:dw st d=true):LE.le (α:=Int) 1 st.2.2.1∧LE.le (α:=Int) st.2.2.1 1000001:=by unfold dw at h;simp only [iE,decide_eq_true_eq] at h;exact h.2.2.2.1
abbrev oM:=Ty.d fz
def CI (c:oM):Prop:=(0:Int)≤c.2.1∧c.2.1≤(c.1.length:Int)∧c.1.length≤1048576
theorem Dg (y:Int):0≤aQ (((BitVec.ofInt (IntKind.bits .i64) y &&& BitVec.ofInt (IntKind.bits .i64) 255).toNat:Int))∧aQ (((BitVec.ofInt (IntKind.bits .i64) y &&& BitVec.ofInt (IntKind.bits .i64) 255).toNat:Int))≤255:=by
 have h:(BitVec.ofInt (IntKind.bits .i64) y &&& BitVec.ofInt (IntKind.bits .i64) 255).toNat≤255:=by rw [BitVec.toNat_and];exact Nat.le_trans Nat.and_le_right (by decide)
 rw [aF (by omega) (by omega)];omega
theorem Ln {k:Nat} (hk:2 ^ 50≤k) {l:List Int} (hl:l.length≤1048576):∃ c:oM,gu.f k l=some ((),(c,()))∧CI c:=by
 unfold gu.f gu.t;have key:∀ (d n:Nat) (i h:Int),(l.length:Int)-i=d→0≤i→d<n→∃ c:oM,gu.l0 k n l h i=some ((),(c,()))∧CI c:=by
  intro d
  induction d with
  | zero =>intro n i h h1 h2 hn;obtain ⟨n,rfl⟩:∃ q,n=q+1:=⟨n-1,by omega⟩;simp only [gu.l0,gu.b0];rw [aY (show ¬ i<(l.length:Int) by omega),aJ];exact ⟨_,rfl,Int.le_refl _,by show (0:Int)≤(l.length:Int);omega,hl⟩
  | succ d ih =>
   intro n i h h1 h2 hn;obtain ⟨n,rfl⟩:∃ q,n=q+1:=⟨n-1,by omega⟩;simp only [gu.l0,gu.b0];rw [aW (show i<(l.length:Int) by omega),aa];by_cases c:i<4000
   · rw [aW c,aa,aT h2 (by omega),aF (n:=i+1) (by omega) (by omega)];exact ih n (i+1) _ (by omega) (by omega) (by omega)
   · rw [aY c,aJ];exact ⟨_,rfl,Int.le_refl _,by show (0:Int)≤(l.length:Int);omega,hl⟩
 exact key l.length k 0 _ (by omega) (by omega) (by omega)
theorem D2 (k:Nat) {c:oM} (h:CI c):∃ (c':oM) (x:Int),fM.f k c=some (c',(x,()))∧CI c'∧0≤x∧x≤255:=by
 obtain ⟨b,i,hh,_⟩:=c;change Int at i;change Int at hh;obtain ⟨h1,h2,h3⟩:=h;have h1:0≤i:=h1;have h2:i≤(b.length:Int):=h2;have h3:b.length≤1048576:=h3;unfold fM.f fM.t;simp only [];by_cases q:i<(b.length:Int)
 · rw [aW q,aa,aT h1 q,aF (n:=i+1) (by omega) (by omega)];refine ⟨_,_,rfl,⟨by show (0:Int)≤i+1;omega,by show i+1≤(b.length:Int);omega,h3⟩,(Dg _).1,(Dg _).2⟩
 · rw [aY q,aJ];exact ⟨_,_,rfl,⟨h1,h2,h3⟩,(Dg _).1,(Dg _).2⟩
theorem AD (k:Nat) {c:oM} (h:CI c) {n:Int} (h0:0<n) (h1:n≤256):∃ (c':oM) (x:Int),bS.f k c n=some (c',(x,()))∧CI c'∧0≤x∧x<n:=by
 obtain ⟨c',x,e,hc,hx0,hx1⟩:=D2 k h;unfold bS.f bS.t;rw [aY (show ¬ n≤0 by omega),aJ,aW h1,aa,e,ac];simp only [];rw [aY (show ¬ n=0 by omega),aJ];have e2:Int.tmod x n=x % n:=Int.tmod_eq_emod_of_nonneg hx0;refine ⟨_,_,rfl,hc,?_,?_⟩
 · rw [e2];exact Int.emod_nonneg _ (by omega)
 · rw [e2];exact Int.emod_lt_of_pos _ h0
theorem Jw (k:Nat) {c:oM} (h:CI c) {n:Int} (h0:0<n) (h1:n≤256):∃ (c':oM) (x:Bool),iA.f k c n=some (c',(x,()))∧CI c':=by obtain ⟨c',x,e,hc,_,_⟩:=AD k h h0 h1;unfold iA.f iA.t;rw [e,ac];exact ⟨_,_,rfl,hc⟩
theorem Na {k:Nat} (hk:2 ^ 50≤k) {l:List Int} (hl:l.length≤1048576):pO (gu.f k l) (fun r=>CI r.2.1):=by obtain ⟨c,e,h⟩:=Ln hk hl;exact ⟨_,e,h⟩
theorem Ms (k:Nat) {c:oM} (h:CI c):pO (fM.f k c) (fun r=>CI r.1∧0≤r.2.1∧r.2.1≤255):=by obtain ⟨c',x,e,h1,h2,h3⟩:=D2 k h;exact ⟨_,e,h1,h2,h3⟩
theorem oa (k:Nat) {c:oM} (h:CI c) {n:Int} (h0:0<n) (h1:n≤256):pO (bS.f k c n) (fun r=>CI r.1∧0≤r.2.1∧r.2.1<n):=by obtain ⟨c',x,e,q1,q2,q3⟩:=AD k h h0 h1;exact ⟨_,e,q1,q2,q3⟩
theorem LL (k:Nat) {c:oM} (h:CI c) {n:Int} (h0:0<n) (h1:n≤256):pO (iA.f k c n) (fun r=>CI r.1):=by obtain ⟨c',x,e,q1⟩:=Jw k h h0 h1;exact ⟨_,e,q1⟩
theorem FA (k:Nat) {c:oM} (h:CI c) {l:List ByteArray} (h0:0<l.length) (h1:l.length≤256):pO (d8.f k c l) (fun r=>CI r.1∧r.2.1 ∈ l):=by
 unfold d8.f d8.t;refine gV (oa k h (by omega) (by omega)) fun r q=>?_
 refine DU q.2.1 q.2.2 (lT ⟨q.1,gR ?_⟩);have:=q.2.1;have:=q.2.2;omega
theorem GX (k:Nat) {c:oM} (h:CI c) {l:List Int} (h0:0<l.length) (h1:l.length≤256):pO (ah.f k c l) (fun r=>CI r.1∧r.2.1 ∈ l):=by
 unfold ah.f ah.t;refine gV (oa k h (by omega) (by omega)) fun r q=>?_
 refine DU q.2.1 q.2.2 (lT ⟨q.1,gR ?_⟩);have:=q.2.1;have:=q.2.2;omega
theorem Jt (l:List Int):(bytesOf l).size=l.length:=by simp [bytesOf,ByteArray.size]
theorem OZ {k:Nat} (hk:2 ^ 50≤k) (st:Int) (m:Nat) (hm:m≤200):∀ (d n:Nat) (c:oM) (out:List Int),d<n→CI c→out.length+d≤m→pO (fR.l0 k n st (d:Int) c.1 c.2.1 c.2.2.1 out) (fun r=>CI r.1∧r.2.1.size≤m):=by
 intro d
 induction d with
 | zero =>intro n c out hn hc ho;obtain ⟨n,rfl⟩:∃ q,n=q+1:=⟨n-1,by omega⟩;simp only [fR.l0,fR.b0];refine Ls (aY (by omega)) (lT ⟨hc,?_⟩);show (bytesOf out).size≤m;rw [Jt];omega
 | succ d ih =>
  intro n c out hn hc ho;obtain ⟨n,rfl⟩:∃ q,n=q+1:=⟨n-1,by omega⟩;have hw:aQ (((d+1:Nat):Int)-1)=(d:Int):=by rw [aF (by omega) (by omega)];omega
  simp only [fR.l0,fR.b0,hw];refine Iw (aW (by omega)) ?_;refine gV (Ms k hc) fun r hr=>?_
  refine q7 (fun _=>q7 (fun _=>?_) (fun _=>?_)) (fun _=>q7 (fun _=>?_) (fun _=>?_))
  all_goals exact Lp (by omega) (by decide) (ih n r.1 _ (by omega) hr.1 (by rw [dt];omega))
theorem MS {k:Nat} (hk:2 ^ 50≤k) {c:oM} (h:CI c) {m:Int} (h0:0≤m) (h1:m≤200):pO (fR.f k c m) (fun r=>CI r.1∧(r.2.1.size:Int)≤m):=by
 unfold fR.f fR.t;rw [aF (n:=m+1) (by omega) (by omega)];refine gV (oa k h (by omega) (by omega)) fun r1 q1=>?_
 refine gV (oa k q1.1 (by omega) (by omega)) fun r2 q2=>?_
 obtain ⟨c2,a,b⟩:=q2;have:=OZ hk r1.2.1 m.toNat (by omega) r2.2.1.toNat k r2.1 [] (by omega) c2 (by simp only [List.length_nil];omega);rw [show ((r2.2.1.toNat:Nat):Int)=r2.2.1 by omega] at this;exact su this fun r hr=>⟨hr.1,by have:=hr.2;omega⟩
theorem OQ (k:Nat) {c:oM} (h:CI c):pO (jE.f k c) (fun r=>CI r.1):=by
 unfold jE.f jE.t;exact gV (FA k h (by decide) (by decide)) fun r q=>lT q.1
theorem Ge (hb:ByteArray→ByteArray) (st:Ty.d aE) (d:Ty.d aA) (l:bV) :
 (cS hb st d l).2=(cS hb (st.1,([],st.2.2)) d l).2∧(cS hb st d l).1.1=(cS hb (st.1,([],st.2.2)) d l).1.1:=by
 unfold cS;simp only [];generalize dQ st.1.1 l (st.2.2.1-1) d=a;cases a.2 != 0 with
 | true=>exact ⟨rfl,rfl⟩
 | false =>
  simp only [aJ];generalize ax (a_ aG (st.1.1+1)) a.1=b;cases b.2 != 0 with
  | true=>exact ⟨rfl,rfl⟩
  | false =>
   simp only [aJ];generalize i8 hb st.1.1 b.1=e;cases e.2 != 0 with
   | true=>exact ⟨rfl,rfl⟩
   | false =>
    simp only [aJ];generalize bE (fu st.1.1) e.1=f;cases f.2 != 0 with
    | true=>exact ⟨rfl,rfl⟩
    | false=>exact ⟨rfl,rfl⟩
def EX (n:Int) (d d':Ty.d aA):Prop:=∀ x:Int,1≤x→x<n→x≤100000→∀ t,fT d (a_ aG x)=some t→∃ u,fT d' (a_ aG x)=some (t++u)
theorem Jv (t:ByteArray):t++(⟨#[]⟩:ByteArray)=t:=Mf t
theorem qy {n:Int} {d d':Ty.d aA} (h:∀ x:Int,1≤x→x<n→x≤100000→fT d' (a_ aG x)=fT d (a_ aG x)):EX n d d':=fun x h0 h1 h2 t e=>⟨⟨#[]⟩,by rw [h x h0 h1 h2,e,Jv]⟩
theorem Dw (n:Int) (d:Ty.d aA):EX n d d:=qy fun _ _ _ _=>rfl
theorem Ag {n:Int} {d d' d'':Ty.d aA} (h:EX n d d') (g:EX n d' d''):EX n d d'':=fun x h0 h1 h2 t e=>by obtain ⟨u,hu⟩:=h x h0 h1 h2 t e;obtain ⟨v,hv⟩:=g x h0 h1 h2 _ hu;exact ⟨u++v,by rw [hv,pK]⟩
theorem Nc {n m:Int} {d d':Ty.d aA} (h:EX m d d') (q:n≤m):EX n d d':=fun x h0 h1 h2 t e=>h x h0 (by omega) h2 t e
theorem PZ (n:Int) (d:Ty.d aA) (s x:ByteArray):EX n d (jS d s x).1:=fun y h0 h1 h2 t e=>by
 by_cases q:s=a_ aG y
 · subst q;have:=rR (d:=d) (s:=a_ aG y) (x:=x);rw [e] at this;cases c:(jS d (a_ aG y) x).2==0 with
   | true=>rw [c] at this;exact ⟨x,this⟩
   | false=>rw [c] at this;exact ⟨⟨#[]⟩,by rw [this,Jv];rfl⟩
 · exact ⟨⟨#[]⟩,by rw [uz q,e,Jv]⟩
theorem Pg (n:Int) (d:Ty.d aA) (s:ByteArray):EX n d (dY d s).1:=qy fun x _ _ _=>lH
theorem OL {st:Ty.d aE} {d:Ty.d aA} (hl:dz st.1=true) :
 EX st.1.1 d (iC st d).2.1∧LE.le (α:=Int) st.1.1 (iC st d).1.1.1∧(iC st d).1.2.2.1=st.2.2.1:=by
 obtain ⟨n1,n2,n3,_⟩:=gY (n:=st.1.1) (ids:=st.1.2.1) hl;have hnew:∀ x:Int,1≤x→x<st.1.1→x≤100000→a_ aG st.1.1≠a_ aG x:=fun x h0 h1 h2=>q9 ⟨n1,n2⟩ ⟨h0,h2⟩ (by omega)
 have k1:∀ x:Int,1≤x→x<st.1.1→x≤100000→fT (dY d (bT st)).1 (a_ aG x)=fT d (a_ aG x):=fun x _ _ _=>lH
 have k2:∀ x:Int,1≤x→x<st.1.1→x≤100000→fT (ax (a_ aG st.1.1) (dY d (bT st)).1).1 (a_ aG x)=fT d (a_ aG x):=fun x h0 h1 h2=>(lf (hnew x h0 h1 h2)).trans (k1 x h0 h1 h2)
 have k3:∀ x:Int,1≤x→x<st.1.1→x≤100000→fT (bE (kw st) (ax (a_ aG st.1.1) (dY d (bT st)).1).1).1 (a_ aG x)=fT d (a_ aG x):=fun x h0 h1 h2=>(fo (ig ⟨h0,h2⟩) (jW ⟨h0,h2⟩)).trans (k2 x h0 h1 h2)
 unfold iC;cases decide ((st.1.2.1.length:Int)≥60) with
 | true=>exact ⟨Dw _ _,Int.le_refl _,rfl⟩
 | false =>
  cases decide (st.1.1≥(100000:Int)) with
  | true=>exact ⟨Dw _ _,Int.le_refl _,rfl⟩
  | false =>
   have up:LE.le (α:=Int) st.1.1 (st.1.1+1):=by omega
   simp only [aJ];generalize dY d (bT st)=r1 at k1 k2 k3 ⊢;generalize ax (a_ aG st.1.1) r1.1=r2 at k2 k3 ⊢;generalize bE (kw st) r2.1=r3 at k3 ⊢;cases r1.2 != 0 with
   | true=>exact ⟨qy k1,Int.le_refl _,rfl⟩
   | false =>
    cases r2.2 != 0 with
    | true=>exact ⟨qy k2,up,rfl⟩
    | false =>
     cases r3.2 != 0 with
     | true =>
      refine ⟨?_,up,rfl⟩;simp only [aa,aJ];unfold qt;cases (tl r3).2==2 with
      | false=>exact qy k3
      | true =>
       refine qy fun x h0 h1 h2=>?_
       refine (oo [ib,a_ aG st.1.1] r3.1 fun s hs=>?_).trans (k3 x h0 h1 h2);rcases List.mem_cons.1 hs with e | e
       · rw [e];exact ig ⟨h0,h2⟩
       · rw [List.mem_singleton.1 e];exact hnew x h0 h1 h2
     | false=>exact ⟨qy k3,up,rfl⟩
theorem J1 {st:Ty.d aE} (hl:dz st.1=true):LE.le (α:=Int) 1 (bi st.1.2.1)∧LT.lt (α:=Int) (bi st.1.2.1) st.1.1:=by
 obtain ⟨n1,n2,n3,n4⟩:=gY (n:=st.1.1) (ids:=st.1.2.1) hl;obtain ⟨_,_,g1,_,_⟩:=bo (nx:=st.1.1) (ids:=st.1.2.1) hl;have hs:=mM g1;have hlast:bi st.1.2.1 ∈ st.1.2.1:=by rw [hs];exact List.mem_append_right _ (List.mem_singleton.2 (by rw [← hs]))
 exact n3 _ hlast
theorem JC {st:Ty.d aE} {d:Ty.d aA} (hl:dz st.1=true) (r:Ty.d bf) (n:Int) :
 EX n d (ip st d r).1.2.1∧(ip st d r).1.1.1=st.1∧(ip st d r).1.1.2.2.1=st.2.2.1∧((ip st d r).1.2.2=0→LE.le (α:=Int) 1 (ip st d r).2.1∧LT.lt (α:=Int) (ip st d r).2.1 st.1.1):=by
 have hE:=PZ n d (bT st) (aS (aI r));unfold ip;generalize jS d (bT st) (aS (aI r))=a at hE ⊢;cases c:a.2 != 0 with
 | true =>refine ⟨hE,rfl,rfl,fun e=>?_⟩;have e:(tl a).2=0:=e;have q:=m4 a;rw [e,c] at q;cases q
 | false=>exact ⟨hE,rfl,rfl,fun _=>J1 hl⟩
theorem Ib {st:Ty.d aE} {d:Ty.d aA} (hl:dz st.1=true) (hd:DR d) (r:Ty.d bf) :
 EX st.1.1 d (eW st d r).1.2.1∧LE.le (α:=Int) st.1.1 (eW st d r).1.1.1.1∧(eW st d r).1.1.2.2.1=st.2.2.1∧((eW st d r).1.2.2=0→LE.le (α:=Int) 1 (eW st d r).2.1∧LT.lt (α:=Int) (eW st d r).2.1 (eW st d r).1.1.1.1):=by
 unfold eW;cases decide (st.2.2.2.1 > 0)&&decide (st.2.2.2.1+ar r > 200) with
 | false =>obtain ⟨s1,s2,s3,s4⟩:=JC (d:=d) hl r st.1.1;simp only [aJ];rw [s2];exact ⟨s1,Int.le_refl _,s3,s4⟩
 | true =>
  obtain ⟨g1,g2,g3,g4⟩:=tu hl hd;obtain ⟨t1,t2,t3⟩:=OL (d:=d) hl;simp only [aa];generalize iC st d=q at g1 g2 g3 g4 t1 t2 t3 ⊢;cases c:q.2.2 != 0 with
  | true =>refine ⟨t1,t2,t3,fun e=>?_⟩;have e:q.2.2=0:=e;rw [e] at c;cases c
  | false =>obtain ⟨s1,s2,s3,s4⟩:=JC (d:=q.2.1) g1 r st.1.1;simp only [aJ];rw [s2];exact ⟨Ag t1 s1,t2,s3.trans t3,s4⟩
theorem Gv:∀ (l:ja) (st:Ty.d aE) (d:Ty.d aA) (ps:ag) (B:Int),SR st (d,0) B→0≤B→(∀ p ∈ ps,LE.le (α:=Int) 1 p.1∧LT.lt (α:=Int) p.1 st.1.1) →
 EX st.1.1 d (dC l st d ps).1.2.1∧LE.le (α:=Int) st.1.1 (dC l st d ps).1.1.1.1∧(dC l st d ps).1.1.2.2.1=st.2.2.1∧∀ p ∈ (dC l st d ps).2,LE.le (α:=Int) 1 p.1∧LT.lt (α:=Int) p.1 (dC l st d ps).1.1.1.1
 | [],st,d,ps,B,_,_,hp=>⟨Dw _ _,Int.le_refl _,rfl,hp⟩
 | r::l,st,d,ps,B,h,hB,hp=>by
  obtain ⟨g1,g2,g3⟩:=xJ h hB r;obtain ⟨s1,s2,s3,s4⟩:=Ib (d:=d) h.live h.disk r;unfold dC;generalize eW st d r=q at g1 g2 g3 s1 s2 s3 s4 ⊢;have up:∀ p ∈ ps,LE.le (α:=Int) 1 p.1∧LT.lt (α:=Int) p.1 q.1.1.1.1:=fun p hq=>⟨(hp p hq).1,Int.lt_of_lt_of_le (hp p hq).2 s2⟩
  cases c:q.1.2.2 != 0 with
  | true=>exact ⟨s1,s2,s3,up⟩
  | false =>
   have e0:=fJ c;obtain ⟨i1,i2,i3,i4⟩:=Gv l q.1.1 q.1.2.1 (ps++[q.2]) (B+211) ⟨g1.live,g1.disk,g1.lo,g1.hi⟩ (by omega) fun p hq=>by
    rcases List.mem_append.1 hq with w | w
    · exact up p w
    · rw [List.mem_singleton.1 w];exact s4 e0
   simp only [aJ];exact ⟨Ag s1 (Nc i1 s2),Int.le_trans s2 i2,i3.trans s3,i4⟩
theorem Lr {d:aR} {p:Ty.d aL} {e:Ty.d aC} (h:e ∈ gF d p):(e=dc p∧(p.2.2.2.1.1==2)=false)∨e ∈ d:=by
 unfold gF at h;cases c:p.2.2.2.1.1==2 with
 | true=>rw [c,aa] at h;exact .inr ((List.mem_filter.1 h).1)
 | false =>
  rw [c,aJ] at h;rcases JD h with w | w
  · exact .inl ⟨w,rfl⟩
  · exact .inr ((List.mem_filter.1 w).1)
theorem oi {e:Ty.d aC}:∀ (ps:ag) {d:aR},e ∈ cZ d ps→(∃ p ∈ ps,e=dc p∧(p.2.2.2.1.1==2)=false)∨e ∈ d
 | [],d,h => .inr h
 | p::ps,d,h=>by
  rcases oi ps (d:=gF d p) h with ⟨q,hq,w⟩ | w
  · exact .inl ⟨q,kS _ hq,w⟩
  · rcases Lr w with w | w
    · exact .inl ⟨p,il,w⟩
    · exact .inr w
theorem xR {s t:ByteArray} {i n:Int} (h:(iw s i n).2=true):iw (s++t) i n=iw s i n:=by
 unfold iw at h ⊢;by_cases c:0≤i∧i≤s.size∧1≤n∧n≤s.size-i
 · have hz:(s++t).size=s.size+t.size:=ByteArray.size_append ..;have e:ByteArray.extract (s++t) i.toNat (i+n).toNat=ByteArray.extract s i.toNat (i+n).toNat:=by
    refine kh ?_;rw [vB,vB,gw,List.take_append_of_le_length (by rw [df];omega)]
   rw [if_pos c,if_pos (show 0≤i∧i≤(s++t).size∧1≤n∧n≤(s++t).size-i from ⟨c.1,by omega,c.2.2.1,by omega⟩),e]
 · rw [if_neg c] at h;cases h
theorem zl {n:Int} {d d':Ty.d aA} {e:Ty.d aC} (hd:DR d) (hd':DR d') (hx:EX n d d') (h1:LE.le (α:=Int) 1 e.2.1) (h2:LT.lt (α:=Int) e.2.1 n) (h3:LE.le (α:=Int) e.2.1 100000) (h:(dq d e).2=true):dq d' e=dq d e:=by
 unfold dq at h ⊢;rw [iv hd] at h;rw [iv hd,iv hd'];cases c:fT d (a_ aG e.2.1) with
 | none =>rw [c] at h;have h:(iw ⟨#[]⟩ e.2.2.1 e.2.2.2.1).2=true:=h;rw [Fo] at h;cases h
 | some t =>obtain ⟨u,hu⟩:=hx e.2.1 h1 h2 h3 t c;rw [c] at h;rw [hu];exact xR h
def EI (st:Ty.d aE):Prop:=∀ e ∈ st.2.1,LE.le (α:=Int) 1 e.2.1∧LT.lt (α:=Int) e.2.1 st.1.1
def FL (s:ByteArray):Prop:=∃ rs:ja,(∀ r ∈ rs,bg r=true)∧s=aU rs
theorem Oa (s:ByteArray):∀ (d:Nat) (i:Int),0≤i→i≤s.size→(s.size:Int)-i<d→(gH s d i).2=(s.size:Int)→FL (ByteArray.extract s i.toNat s.size):=by
 intro d
 induction d with
 | zero=>intro i h0 h1 h2 _;omega
 | succ d ih =>
  intro i h0 h1 h2 h;have stop:i=(s.size:Int)→FL (ByteArray.extract s i.toNat s.size):=fun e=>by rw [e,Int.toNat_natCast,G2];exact ⟨[],fun r hr=>(by cases hr),rfl⟩
  rw [gH] at h;by_cases c1:(iG (ByteArray.extract s i.toNat s.size)).2=0
  · rw [if_pos c1] at h;exact stop h
  · rw [if_neg c1] at h;cases c2:(jL (iG (ByteArray.extract s i.toNat s.size)).1).2 with
    | false =>rw [if_pos c2] at h;exact stop h
    | true =>
     rw [if_neg (by rw [c2];decide)] at h;have hu:=oh (ByteArray.extract s i.toNat s.size);have hz:=sZ s i.toNat;have ih:=ih (i+(iG (ByteArray.extract s i.toNat s.size)).2) (by omega) (by omega) (by omega) h;rcases nR (ByteArray.extract s i.toNat s.size) with ⟨t,r,ht,e1,e2⟩ | ⟨e2,_⟩
     · rw [e2] at ih c2;simp only [] at ih c2;have e3:ByteArray.extract s (i+((aS t).size:Int)).toNat s.size=r:=by
        apply kh;have hnb:=congrArg nb e1;rw [jK,gw] at hnb;rw [jK,show (i+((aS t).size:Int)).toNat=i.toNat+(aS t).size by omega,← List.drop_drop,hnb,List.drop_left' (df _)]
       rw [e3] at ih;obtain ⟨rs,k1,k2⟩:=ih;obtain ⟨g1,g2⟩:=zW (s:=t) (r:=(jL t).1) (Prod.ext rfl c2);refine ⟨(jL t).1::rs,fun x hx=>?_,?_⟩
       · rcases List.mem_cons.1 hx with e | e
         · rw [e];exact g1
         · exact k1 x e
       · rw [e1,k2,aU,g2]
     · exact absurd (by rw [e2]) c1
theorem KH (s:ByteArray):ByteArray.extract s 0 s.size=s:=kh (by rw [jK,List.drop_zero])
theorem O3 {s:ByteArray} (h:(c_ s).2=(s.size:Int)):FL s:=by have:=Oa s (s.size+1) 0 (by omega) (by omega) (by omega) h;rw [show (0:Int).toNat=0 from rfl,KH] at this;exact this
theorem D6 {s:ByteArray} (h:FL s):(c_ s).2=(s.size:Int):=by obtain ⟨rs,h1,h2⟩:=h;rw [h2];exact (rH h1).2
theorem zM (r:Ty.d bf):aU [r]=aS (aI r):=Jv _
theorem LR {s:ByteArray} {r:Ty.d bf} (h:FL s) (hr:bg r=true):FL (s++aS (aI r)):=by
 obtain ⟨rs,h1,h2⟩:=h;refine ⟨rs++[r],fun x hx=>?_,?_⟩
 · rcases List.mem_append.1 hx with e | e
   · exact h1 x e
   · rw [List.mem_singleton.1 e];exact hr
 · rw [nn,zM,h2]
theorem Kr:FL ⟨#[]⟩:=⟨[],fun r hr=>(by cases hr),rfl⟩
theorem tN (r:Ty.d bf):5≤ar r∧ar r≤210:=by
 have h1:=lm r;have h2:=li (s:=aI r) (by omega);have h3:(aS (aI r)).size≤74:=by unfold aS;rw [if_neg (by omega)];have h4:=jB (tB (js (aI r)));have h5:=bN ((aI r).size:Int);rw [ByteArray.size_append];unfold js at h4 ⊢;rw [ByteArray.size_append];omega
 unfold ar;omega
theorem tO (t:ByteArray) {r:Ty.d bf} (h:bg r=true):iw (t++aS (aI r)) (t.size:Int) (ar r)=(r,true):=by
 have hz:=lm r;have hp:=tN r;have hl:((aS (aI r)).size:Int)=ar r:=rfl;have hs:(t++aS (aI r)).size=t.size+(aS (aI r)).size:=ByteArray.size_append ..;have e:ByteArray.extract (t++aS (aI r)) (t.size:Int).toNat ((t.size:Int)+ar r).toNat=aS (aI r):=by rw [Int.toNat_natCast,show ((t.size:Int)+ar r).toNat=(t++aS (aI r)).size by omega];exact gS _ _
 have e2:iG (aS (aI r))=(aI r,((aS (aI r)).size:Int)):=by have:=oe ⟨#[]⟩ (t:=aI r) (by omega);rw [Jv] at this;exact this
 unfold iw;rw [if_pos ⟨by omega,by omega,by omega,by omega⟩,e,e2];simp only [];rw [if_pos hl,vh h]
def P4 (x:Ty.d aC):Bool:=gB x.1&&(decide ((1:Int)≤x.2.1∧x.2.1≤100000)&&(!decide (x.2.2.1<(0:Int))&&(decide ((1:Int)≤x.2.2.2.1∧x.2.2.2.1≤210)&&decide ((1:Int)≤x.2.2.2.2.1∧x.2.2.2.2.1≤1000000))))
theorem KD (p:Option (Ty.d aC)) (x:Ty.d aC):vy p x=true↔(P4 x=true∧∀ q,p=some q→nd q.1 x.1=true):=by
 unfold vy P4;simp only [iE];cases p with
 | none=>exact ⟨fun h=>⟨⟨h.1,h.2.1,h.2.2.1,h.2.2.2.1,h.2.2.2.2.1⟩,fun q hq=>(by cases hq)⟩,fun h=>⟨h.1.1,h.1.2.1,h.1.2.2.1,h.1.2.2.2.1,h.1.2.2.2.2,rfl⟩⟩
 | some y=>exact ⟨fun h=>⟨⟨h.1,h.2.1,h.2.2.1,h.2.2.2.1,h.2.2.2.2.1⟩,fun q hq=>(by cases hq;exact h.2.2.2.2.2)⟩,fun h=>⟨h.1.1,h.1.2.1,h.1.2.2.1,h.1.2.2.2.1,h.1.2.2.2.2,h.2 y rfl⟩⟩
def iD (l:aR):List ByteArray:=l.map (·.1)
theorem J9:∀ (l:aR) (p:Option (Ty.d aC)),qM vy p l=true↔((∀ f ∈ l,P4 f=true)∧cW (iD l)∧(∀ q,p=some q→∀ f ∈ l,nd q.1 f.1=true))
 | [],p=>by
  constructor
  · intro _;exact ⟨fun f h=>(by cases h),List.Pairwise.nil,fun q _ f h=>(by cases h)⟩
  · intro _;rfl
 | g::l,p=>by
  have ih:=J9 l (some g);unfold qM;rw [iE,ih,KD];constructor
  · rintro ⟨⟨h1,h2⟩,h3,h4,h5⟩
    refine ⟨fun f hf=>?_,?_,fun q hq f hf=>?_⟩
    · rcases List.mem_cons.1 hf with e | e
      · rw [e];exact h1
      · exact h3 f e
    · unfold cW iD;rw [List.map_cons,List.pairwise_cons];refine ⟨fun x hx=>?_,h4⟩;obtain ⟨f,hf,rfl⟩:=List.mem_map.1 hx;exact h5 g rfl f hf
    · rcases List.mem_cons.1 hf with e | e
      · rw [e];exact h2 q hq
      · exact od (h2 q hq) (h5 g rfl f e)
  · rintro ⟨h1,h2,h3⟩
    unfold cW iD at h2;rw [List.map_cons,List.pairwise_cons] at h2;refine ⟨⟨h1 g (il ..),fun q hq=>h3 q hq g (il ..)⟩,fun f hf=>h1 f (kS _ hf),h2.2,fun q hq f hf=>?_⟩;cases hq;exact h2.1 f.1 (List.mem_map.2 ⟨f,hf,rfl⟩)
theorem vp {l:aR}:uG l=true↔(l.length≤20∧(∀ f ∈ l,P4 f=true)∧cW (iD l)):=by unfold uG;rw [iE,decide_eq_true_eq,J9];exact ⟨fun h=>⟨by omega,h.2.1,h.2.2.1⟩,fun h=>⟨by omega,h.2.1,h.2.2,fun q hq=>(by cases hq)⟩⟩
theorem Cr (key:ByteArray) {l:aR} (h:cW (iD l)):cW (iD (m0 l key)):=List.Pairwise.sublist (List.Sublist.map _ List.filter_sublist) h
theorem D7 {α:Type} (key:α→ByteArray) {e:α}:∀ {l:List α},cW (l.map key)→(∀ g ∈ l,key g≠key e)→cW ((l.takeWhile (fun x=>nd (key x) (key e)||seq (key x) (key e))++e::l.dropWhile (fun x=>nd (key x) (key e)||seq (key x) (key e))).map key)
 | [],_,_=>List.pairwise_singleton ..
 | g::l,h,hn=>by
  have h':=h;unfold cW at h';rw [List.map_cons,List.pairwise_cons] at h';have ih:=D7 key (e:=e) (l:=l) h'.2 fun x hx=>hn x (kS _ hx)
  rw [List.takeWhile_cons,List.dropWhile_cons];have hne:=hn g il;cases c:(nd (key g) (key e)||seq (key g) (key e)) with
  | true =>
   rw [if_pos rfl,if_pos rfl];unfold cW at ih ⊢;rw [List.cons_append,List.map_cons,List.pairwise_cons];refine ⟨fun x hx=>?_,ih⟩;have hge:nd (key g) (key e)=true:=by rw [kZ hne,Bool.or_false] at c;exact c
   obtain ⟨y,hy,rfl⟩:=List.mem_map.1 hx;rcases List.mem_append.1 hy with w | w
   · exact h'.1 (key y) (List.mem_map.2 ⟨y,List.takeWhile_subset _ w,rfl⟩)
   · rcases List.mem_cons.1 w with w | w
     · rw [w];exact hge
     · exact h'.1 (key y) (List.mem_map.2 ⟨y,List.dropWhile_subset _ w,rfl⟩)
  | false =>
   rw [if_neg (by decide),if_neg (by decide),List.nil_append];rw [kZ hne,Bool.or_false] at c;have hlt:nd (key e) (key g)=true:=by have:=tY (key e) (key g);rw [kZ (fun q=>hne q.symm),c] at this;simpa using this
   unfold cW;rw [List.map_cons,List.pairwise_cons];refine ⟨fun x hx=>?_,h⟩;obtain ⟨y,hy,rfl⟩:=List.mem_map.1 hx;rcases List.mem_cons.1 hy with w | w
   · rw [w];exact hlt
   · exact od hlt (h'.1 (key y) (List.mem_map.2 ⟨y,w,rfl⟩))
theorem LV {e:Ty.d aC} {l:aR} (h:cW (iD l)) (hn:∀ g ∈ l,g.1≠e.1):cW (iD (vE l e)):=D7 (fun x:Ty.d aC=>x.1) h hn
theorem Nf {l:aR} {key:ByteArray}:∀ g ∈ m0 l key,g.1≠key:=fun g hg q=>by unfold m0 at hg;rw [List.mem_filter] at hg;have:=hg.2;rw [q,bQ] at this;cases this
theorem Js {d:aR} (p:Ty.d aL) (h:cW (iD d)):cW (iD (gF d p)):=by
 unfold gF;cases p.2.2.2.1.1==2 with
 | true=>exact Cr _ h
 | false=>exact LV (Cr _ h) Nf
theorem rX:∀ (ps:ag) {d:aR},cW (iD d)→cW (iD (cZ d ps))
 | [],_,h=>h
 | p::ps,d,h=>rX ps (d:=gF d p) (Js p h)
structure BT (st:Ty.d aE) (d:Ty.d aA):Prop where
 live:dz st.1=true
 disk:DR d
 full:∀ x ∈ st.1.2.1,∃ t,fT d (a_ aG x)=some t∧FL t
 tail:∀ t,fT d (bT st)=some t→st.2.2.2.1=(t.size:Int)
theorem xT {d:Ty.d aA} (hd:DR d) (s:ByteArray):(bJ d s).2=(fT d s).isSome:=by rw [mO hd];unfold fT;cases bU d.1 s <;> rfl
theorem wQ {d:Ty.d aA} (hd:DR d) {tail:Int}:∀ {l:List Int},qB d tail l=true↔((∀ x ∈ l,∃ t,fT d (a_ aG x)=some t∧FL t)∧(l≠[]→∀ t,fT d (a_ aG (bi l))=some t→tail=(t.size:Int)))
 | []=>⟨fun _=>⟨fun x hx=>(by cases hx),fun h=>absurd rfl h⟩,fun _=>rfl⟩
 | x::l=>by
  have ih:=wQ hd (tail:=tail) (l:=l);have hl:l≠[]→bi (x::l)=bi l:=fun h=>by
   unfold bi;cases l with
   | nil=>exact absurd rfl h
   | cons y r=>simp [List.getD]
  unfold qB JN;simp only [iE];rw [ih,xT hd,iv hd];constructor
  · rintro ⟨⟨h1,h2,h3⟩,h4,h5⟩
    obtain ⟨t,ht⟩:=Option.isSome_iff_exists.1 h1;rw [ht] at h2 h3;simp only [Option.getD_some,decide_eq_true_eq] at h2;refine ⟨fun y hy=>?_,fun _ u hu=>?_⟩
    · rcases List.mem_cons.1 hy with e | e
      · rw [e];exact ⟨t,ht,O3 h2⟩
      · exact h4 y e
    · by_cases c:l=[]
      · subst c;have e:bi [x]=x:=rfl;rw [e,ht] at hu;have hu:=Option.some.inj hu;rw [← hu];simp only [List.isEmpty_nil,fw,Bool.false_or,Option.getD_some] at h3;exact yd h3
      · rw [hl c] at hu;exact h5 c u hu
  · rintro ⟨h1,h2⟩
    obtain ⟨t,ht,hf⟩:=h1 x il;rw [ht];simp only [Option.isSome_some,Option.getD_some,decide_eq_true_eq];refine ⟨⟨by trivial,D6 hf,?_⟩,fun y hy=>h1 y (kS _ hy),fun c u hu=>h2 (by simp) u (by rw [hl c];exact hu)⟩;cases l with
    | nil =>have:=h2 (by simp) t (by rw [show bi [x]=x from rfl];exact ht);rw [this];simp
    | cons y r=>rfl
theorem tJ {st:Ty.d aE} {d:Ty.d aA} (h:dw st d=true):BT st d:=by obtain ⟨g1,g2,g3⟩:=dT h;unfold dw at h;simp only [iE] at h;obtain ⟨_,_,k1,_,_⟩:=bo (nx:=st.1.1) (ids:=st.1.2.1) g1.live;obtain ⟨q1,q2⟩:=(wQ g1.disk).1 h.2.2.2.2.1;exact ⟨g1.live,g1.disk,q1,q2 (by intro e;rw [e] at k1;simp at k1)⟩
def PK (d:Ty.d aA) (p:Ty.d aL):Prop:=dq d (dc p)=(gO p,true)
def PE (p:Ty.d aL):Prop:=(LE.le (α:=Int) 1 p.1∧LE.le (α:=Int) p.1 100000)∧LE.le (α:=Int) 0 p.2.1∧LE.le (α:=Int) 1 p.2.2.1∧LE.le (α:=Int) p.2.2.1 210
theorem N5 {st:Ty.d aE} {d:Ty.d aA} (h:BT st d) {r:Ty.d bf} (hr:bg r=true) (z:(ip st d r).1.2.2=0):BT (ip st d r).1.1 (ip st d r).1.2.1∧PK (ip st d r).1.2.1 (ip st d r).2∧PE (ip st d r).2:=by
 obtain ⟨b1,b2⟩:=J1 h.live;obtain ⟨n1,n2,n3,n4⟩:=gY (n:=st.1.1) (ids:=st.1.2.1) h.live;obtain ⟨_,_,g1,_,_⟩:=bo (nx:=st.1.1) (ids:=st.1.2.1) h.live;have hlast:bi st.1.2.1 ∈ st.1.2.1:=by have hs:=mM g1;rw [hs];exact List.mem_append_right _ (List.mem_singleton.2 (by rw [← hs]))
 have hz:=tN r;have hl:((aS (aI r)).size:Int)=ar r:=rfl;obtain ⟨t,ht,hf⟩:=h.full _ hlast;have ht:fT d (bT st)=some t:=ht;have htl:=h.tail t ht;have ha:=qs h.disk (bT st) (aS (aI r));have ko:∀ s,bT st≠s→fT (jS d (bT st) (aS (aI r))).1 s=fT d s:=fun s q=>uz q
 have kl:=rR (d:=d) (s:=bT st) (x:=aS (aI r));unfold ip at z ⊢;generalize jS d (bT st) (aS (aI r))=a at ha ko kl z ⊢;cases c:a.2 != 0 with
 | true =>rw [c] at z;have z:(tl a).2=0:=z;have q:=m4 a;rw [z,c] at q;cases q
 | false =>
  have c0:(a.2==0)=true:=beq_iff_eq.2 (fJ c);rw [c0,aa,ht] at kl;have kl:fT a.1 (bT st)=some (t++aS (aI r)):=kl;simp only [aJ];refine ⟨⟨h.live,ha,fun x hx=>?_,fun u hu=>?_⟩,?_,?_⟩
  · by_cases q:bT st=a_ aG x
    · rw [← q];exact ⟨_,kl,LR hf hr⟩
    · show ∃ t,fT a.1 (a_ aG x)=some t∧FL t;rw [ko _ q];exact h.full x hx
  · have hu:fT a.1 (bT st)=some u:=hu;rw [kl] at hu;rw [← Option.some.inj hu,ByteArray.size_append];show @Eq Int (st.2.2.2.1+ar r) ((t.size+(aS (aI r)).size:Nat):Int);rw [htl];omega
  · show iw (bJ a.1 (bT st)).1 st.2.2.2.1 (ar r)=(r,true);rw [iv ha,kl,htl];exact tO t hr
  · refine ⟨⟨b1,by show LE.le (α:=Int) (bi st.1.2.1) 100000;omega⟩,?_,?_,?_⟩
    · show LE.le (α:=Int) 0 st.2.2.2.1;rw [htl];omega
    · show LE.le (α:=Int) 1 (ar r);omega
    · show LE.le (α:=Int) (ar r) 210;omega
theorem ug (l:List Int) (n:Int):bi (l++[n])=n:=by unfold bi;simp [List.getD]
theorem HZ {st:Ty.d aE} {d:Ty.d aA} (h:BT st d) (z:(iC st d).2.2=0):BT (iC st d).1 (iC st d).2.1:=by
 obtain ⟨n1,n2,n3,_⟩:=gY (n:=st.1.1) (ids:=st.1.2.1) h.live;have hseg:∀ x:Int,x ∈ st.1.2.1→1≤x∧x≤100000:=fun x hx=>⟨(n3 x hx).1,by have:=(n3 x hx).2;omega⟩
 have hnew:∀ x ∈ st.1.2.1,a_ aG st.1.1≠a_ aG x:=fun x hx=>q9 ⟨n1,n2⟩ (hseg x hx) (by have:=(n3 x hx).2;omega)
 have k2:∀ x ∈ st.1.2.1,fT (ax (a_ aG st.1.1) (dY d (bT st)).1).1 (a_ aG x)=fT d (a_ aG x):=fun x hx=>(lf (hnew x hx)).trans lH
 have k3:∀ x ∈ st.1.2.1,fT (bE (kw st) (ax (a_ aG st.1.1) (dY d (bT st)).1).1).1 (a_ aG x)=fT d (a_ aG x):=fun x hx=>(fo (ig (hseg x hx)) (jW (hseg x hx))).trans (k2 x hx)
 have o2:=lw (s:=a_ aG st.1.1) (d:=(dY d (bT st)).1);have o3:fT (bE (kw st) (ax (a_ aG st.1.1) (dY d (bT st)).1).1).1 (a_ aG st.1.1)=fT (ax (a_ aG st.1.1) (dY d (bT st)).1).1 (a_ aG st.1.1):=fo (ig ⟨n1,n2⟩) (jW ⟨n1,n2⟩);have h1:=mj h.disk (bT st);have h2:=jF (a_ aG st.1.1) _ h1;have h3:=mP (kw st) _ h2;unfold iC at z ⊢;by_cases c1:(st.1.2.1.length:Int)≥60
 · rw [aW c1] at z;exact absurd z (by show (5:Int)≠0;decide)
 by_cases c2:st.1.1≥(100000:Int)
 · rw [aY c1,aW c2] at z;exact absurd z (by show (5:Int)≠0;decide)
 have c1':st.1.2.1.length<60:=by omega
 have c2':LT.lt (α:=Int) st.1.1 100000:=Int.not_le.1 c2;have hg:dz (uv st).1=true:=Cf h.live c2' c1';rw [aY c1,aY c2] at z ⊢;simp only [aJ] at z ⊢;generalize dY d (bT st)=r1 at h1 h2 h3 k2 k3 o2 o3 z ⊢;generalize ax (a_ aG st.1.1) r1.1=r2 at h2 h3 k2 k3 o2 o3 z ⊢;generalize bE (kw st) r2.1=r3 at h3 k3 o3 z ⊢;have tlz:∀ r:RD,(r.2 != 0)=true→(tl r).2≠0:=fun r q e=>by have:=m4 r;rw [e,q] at this;cases this
 cases e1:r1.2 != 0 with
 | true=>rw [e1] at z;exact absurd z (tlz r1 e1)
 | false =>
  rw [e1] at z;simp only [aJ] at z ⊢;cases e2:r2.2 != 0 with
  | true=>rw [e2] at z;exact absurd z (tlz r2 e2)
  | false =>
   rw [e2] at z;simp only [aJ] at z ⊢;have o2:=o2 (fJ e2);cases e3:r3.2 != 0 with
   | true =>
    rw [e3] at z;simp only [aa] at z;refine absurd z ?_;unfold qt;cases q:(tl r3).2==2 with
    | false=>exact tlz r3 e3
    | true =>
     show (bif (bj [ib,a_ aG st.1.1] (tl r3).1).2==0 then (2:Int) else gh (bj [ib,a_ aG st.1.1] (tl r3).1).2)≠0;cases w:(bj [ib,a_ aG st.1.1] (tl r3).1).2==0 with
     | true=>show (2:Int)≠0;decide
     | false =>intro e;have:=iO (bj [ib,a_ aG st.1.1] (tl r3).1).2;rw [w] at this;simp only [aJ] at e;rw [e] at this;cases this
   | false =>
    simp only [aJ];refine ⟨hg,h3,fun x hx=>?_,fun u hu=>?_⟩
    · have hx:x ∈ st.1.2.1++[st.1.1]:=hx;rcases List.mem_append.1 hx with w | w
      · show ∃ t,fT r3.1 (a_ aG x)=some t∧FL t;rw [k3 x w];exact h.full x w
      · rw [List.mem_singleton.1 w];exact ⟨_,o3.trans o2,Kr⟩
    · have hu:fT r3.1 (a_ aG (bi (st.1.2.1++[st.1.1])))=some u:=hu;rw [ug,o3,o2] at hu;rw [← Option.some.inj hu];rfl
theorem IU {st:Ty.d aE} {d:Ty.d aA} (h:BT st d) {r:Ty.d bf} (hr:bg r=true) (z:(eW st d r).1.2.2=0):BT (eW st d r).1.1 (eW st d r).1.2.1∧PK (eW st d r).1.2.1 (eW st d r).2∧PE (eW st d r).2:=by
 have hq:=HZ h;unfold eW at z ⊢;cases c:decide (st.2.2.2.1 > 0)&&decide (st.2.2.2.1+ar r > 200) with
 | false =>rw [c] at z;exact N5 h hr z
 | true =>
  rw [c] at z;simp only [aa] at z ⊢;generalize iC st d=q at hq z ⊢;cases c2:q.2.2 != 0 with
  | true =>rw [c2] at z;have z:q.2.2=0:=z;rw [z] at c2;cases c2
  | false =>rw [c2] at z;exact N5 (hq (fJ c2)) hr z
theorem yk:∀ (l:ja) (st:Ty.d aE) (d:Ty.d aA) (ps:ag),BT st d→(∀ r ∈ l,bg r=true)→(∀ p ∈ ps,PK d p∧PE p∧LT.lt (α:=Int) p.1 st.1.1)→(dC l st d ps).1.2.2=0 →
 BT (dC l st d ps).1.1 (dC l st d ps).1.2.1∧∀ p ∈ (dC l st d ps).2,PK (dC l st d ps).1.2.1 p∧PE p∧LT.lt (α:=Int) p.1 (dC l st d ps).1.1.1.1
 | [],st,d,ps,h,_,hp,_=>⟨h,hp⟩
 | r::l,st,d,ps,h,hr,hp,z=>by
  have hb:=IU h (hr r il);obtain ⟨s1,s2,s3,s4⟩:=Ib (d:=d) h.live h.disk r;unfold dC at z ⊢;generalize eW st d r=q at hb s1 s2 s3 s4 z ⊢;cases c:q.1.2.2 != 0 with
  | true =>rw [c] at z;have z:q.1.2.2=0:=z;rw [z] at c;cases c
  | false =>
   have e0:=fJ c;obtain ⟨k1,k2,k3⟩:=hb e0;rw [c] at z;simp only [aJ] at z ⊢;refine yk l q.1.1 q.1.2.1 (ps++[q.2]) k1 (fun x hx=>hr x (kS _ hx)) (fun p hq=>?_) z;rcases List.mem_append.1 hq with w | w
   · obtain ⟨p1,p2,p3⟩:=hp p w;refine ⟨?_,p2,Int.lt_of_lt_of_le p3 s2⟩;have p1':dq d (dc p)=(gO p,true):=p1;show dq q.1.2.1 (dc p)=(gO p,true);rw [zl h.disk k1.disk s1 p2.1.1 p3 p2.1.2 (by rw [p1']),p1']
   · rw [List.mem_singleton.1 w];exact ⟨k2,k3,(s4 e0).2⟩
theorem oO {l:eU} {b:Int} (h:eF l=true) (h0:1≤b) (h1:b≤1000000):∀ r ∈ da l b,bg r=true:=by
 intro r hr;unfold da at hr;rcases List.mem_append.1 hr with w | w
 · obtain ⟨x,hx,e⟩:=List.mem_map.1 w;have hp:=uc h hx;unfold lF gB at hp;simp only [iE] at hp;rw [← e];unfold gx bg;cases c:x.2.1 with
   | true =>simp only [aa];rw [show ((2:Int)==1||(2:Int)==4)=false from rfl,show ((2:Int)==2)=true from rfl];simp only [aJ,aa];rw [hp.1,aW (show 1≤b∧b≤1000000 from ⟨h0,h1⟩),show seq ByteArray.empty ⟨#[]⟩=true from bQ _];rfl
   | false =>simp only [aJ];rw [show ((1:Int)==1||(1:Int)==4)=true from rfl];simp only [aa];rw [hp.1,hp.2.1,aW (show 1≤b∧b≤1000000 from ⟨h0,h1⟩)];rfl
 · have hl:=nU h;have hs:=JB (l.map (gx b));rw [List.mem_singleton.1 w];unfold i_ bg;rw [show ((3:Int)==1||(3:Int)==4)=false from rfl,show ((3:Int)==2)=false from rfl,show ((3:Int)==3)=true from rfl];simp only [aJ,aa];rw [aW (show (0:Int)≤((l.map (gx b)).length:Int)∧((l.map (gx b)).length:Int)≤8 by rw [List.length_map];omega),aW (show 0≤FY (l.map (gx b))∧FY (l.map (gx b))≤4294967295 from hs),aW (show 1≤b∧b≤1000000 from ⟨h0,h1⟩),show seq ByteArray.empty ⟨#[]⟩=true from bQ _];rfl
def Rm (key x:ByteArray):Bool:=nd x key||seq x key
def Oh (K:List ByteArray) (key:ByteArray):List ByteArray:=K.takeWhile (Rm key)++key::K.dropWhile (Rm key)
theorem oc (l:aR) (key:ByteArray):iD (m0 l key)=(iD l).filter fun x=>!(seq x key):=by unfold iD m0;rw [List.filter_map];rfl
theorem zD (l:aR) (e:Ty.d aC):iD (vE l e)=Oh (iD l) e.1:=by unfold iD vE Oh;rw [List.map_append,List.map_cons,List.takeWhile_map,List.dropWhile_map];rfl
theorem CM:∀ (l:eU) (d d' es fs:aR),iD d=iD d'→iD es=iD fs→iD (oR d l es)=iD (oR d' l fs)
 | [],d,d',es,fs,h,_=>by rw [pC,pC];exact h
 | x::l,d,d',[],[],h,_=>by unfold oR;exact h
 | x::l,d,d',e::es,[],_,g=>by cases g
 | x::l,d,d',[],f::fs,_,g=>by cases g
 | x::l,d,d',e::es,f::fs,h,g=>by
  unfold iD at g;rw [List.map_cons,List.map_cons] at g;injection g with g1 g2;unfold oR;refine CM l _ _ es fs ?_ g2;cases x.2.1 with
  | true=>simp only [aa];rw [oc,oc,h]
  | false =>simp only [aJ];unfold rA;rw [zD,zD,oc,oc,h,g1]
theorem Qm {a:Int} (h:1≤a) (g:a≤1000000):1≤a+1∧a+1≤1000001:=by omega
theorem Ri (a:Int):¬ a≥a+1:=by omega
theorem Qs {a b:Int} (h:¬ b≥a):¬ b≥a+1:=by omega
theorem xm {st:Ty.d aE} {d:Ty.d aA} {l:eU} (hs:dw st d=true) (he:EI st) (hp:eF l=true) (hb:LE.le (α:=Int) st.2.2.1 1000000) (ha:oC st.2.1 l≤20) (z:(cN st d l).2.2=0):dw (cN st d l).1 (cN st d l).2.1=true ∧
 (∀ e ∈ (cN st d l).1.2.1,(e ∈ st.2.1∧dq (cN st d l).2.1 e=dq d e)∨∃ x ∈ l,x.2.1=false∧e.1=x.1∧dq (cN st d l).2.1 e=(gx st.2.2.1 x,true)) ∧
 iD (cN st d l).1.2.1=iD (oR st.2.1 l (l.map xQ)) ∧
 ∃ ps:ag,(cN st d l).1.2.1=cZ st.2.1 ps∧ps.map gO=l.map (gx st.2.2.1)∧(∀ p ∈ ps,dq (cN st d l).2.1 (dc p)=(gO p,true))∧∀ e ∈ st.2.1,dq (cN st d l).2.1 e=dq d e:=by
 obtain ⟨g1,g2,g3⟩:=dT hs;have hBT:=tJ hs;have hs':=hs;unfold dw at hs';simp only [iE] at hs';obtain ⟨_,_,hdir,_,_,hent⟩:=hs';obtain ⟨d1,d2,d3⟩:=vp.1 hdir;have hl8:=nU hp;have hbat:SR (lP st) (d,0) 100000:=⟨g1.live,g1.disk,g1.lo,g1.hi⟩;obtain ⟨f1,f2,f3⟩:=uo (da l st.2.2.1) (lP st) d [] 100000 hbat (by decide);obtain ⟨s1,s2,s3,s4⟩:=Gv (da l st.2.2.1) (lP st) d [] 100000 hbat (by decide) (fun x hx=>by cases hx);have hB:=yk (da l st.2.2.1) (lP st) d [] ⟨hBT.live,hBT.disk,hBT.full,hBT.tail⟩ (oO hp g3 hb) (fun x hx=>by cases hx);unfold cN at z ⊢;generalize dC (da l st.2.2.1) (lP st) d []=q at f1 f2 f3 s1 s2 s3 s4 hB z ⊢;have e2:q.1.1.2.1=st.2.1:=f2;have s1:EX st.1.1 d q.1.2.1:=s1;have s3:q.1.1.2.2.1=st.2.2.1+1:=s3;unfold yP at z ⊢;cases c:q.1.2.2 != 0 with
 | true =>rw [c] at z;have z:q.1.2.2=0:=z;rw [z] at c;cases c
 | false =>
  rw [c] at z;simp only [aJ] at z ⊢;have c0:=fJ c;have f3:=f3 c0;rw [List.map_nil,List.nil_append] at f3;obtain ⟨hB1,hB2⟩:=hB c0;have y0:=Ag s1 (Pg st.1.1 q.1.2.1 (bT q.1.1));have y1:=mj hB1.disk (bT q.1.1);have y2:∀ s,fT (dY q.1.2.1 (bT q.1.1)).1 s=fT q.1.2.1 s:=fun s=>lH
  generalize dY q.1.2.1 (bT q.1.1)=y at y0 y1 y2 z ⊢;cases cy:y.2 != 0 with
  | true =>rw [cy] at z;have z:(tl y).2=0:=z;have q:=m4 y;rw [z,cy] at q;cases q
  | false =>
   simp only [aJ];have hrp:∀ p ∈ q.2.take l.length,gO p ∈ l.map (gx st.2.2.1):=fun p hp=>by
    have h1:(q.2.take l.length).map gO=l.map (gx st.2.2.1):=by rw [List.map_take,f3];unfold da;rw [List.take_append_of_le_length (by rw [List.length_map];omega),List.take_of_length_le (by rw [List.length_map];omega)]
    rw [← h1];exact List.mem_map.2 ⟨p,hp,rfl⟩
   have hPK:∀ p ∈ q.2.take l.length,dq y.1 (dc p)=(gO p,true):=fun p hp=>by obtain ⟨p1,_,_⟩:=hB2 p (List.mem_of_mem_take hp);have p1:dq q.1.2.1 (dc p)=(gO p,true):=p1;rw [← p1];unfold dq;rw [iv y1,iv hB1.disk,y2]
   have newE:∀ e ∈ cZ q.1.1.2.1 (q.2.take l.length),(∃ p ∈ q.2.take l.length,e=dc p∧(p.2.2.2.1.1==2)=false)∨e ∈ st.2.1:=fun e hq=>by rw [e2] at hq;exact oi _ hq
   have hput:∀ p ∈ q.2.take l.length,gB (dc p).1=true∧(gO p).2.1=st.2.2.1∧((gO p).1=1∨(gO p).1=2):=fun p hq=>by
    obtain ⟨x,hx,e⟩:=List.mem_map.1 (hrp p hq);have hk:=uc hp hx;unfold lF at hk;simp only [iE] at hk;refine ⟨?_,?_,?_⟩
    · show gB (gO p).2.2.1=true;rw [← e];unfold gx;cases x.2.1 <;> exact hk.1
    · rw [← e];unfold gx;cases x.2.1 <;> rfl
    · rw [← e];unfold gx;cases x.2.1
      · exact .inl rfl
      · exact .inr rfl
   have hkeys:iD (cZ st.2.1 (q.2.take l.length))=iD (oR st.2.1 l (l.map xQ)):=by
    have k1:iD (oR st.2.1 l (q.2.map dc))=iD (oR st.2.1 l (l.map xQ++[xQ (ByteArray.empty,(false,(ByteArray.empty,())))])):=by
     refine CM l _ _ _ _ rfl ?_;unfold iD;rw [List.map_map,show q.2.map ((fun x:Ty.d aC=>x.1) ∘ dc)=(q.2.map gO).map (fun r:Ty.d bf=>r.2.2.1) from by rw [List.map_map];rfl,f3];unfold da;rw [List.map_append,List.map_append,List.map_map,List.map_map];congr 1;refine List.map_congr_left fun x _=>?_
     show (gx st.2.2.1 x).2.2.1=x.1;unfold gx;cases x.2.1 <;> rfl
    have k2:∀ (l:eU) (d:aR) (m:aR),oR d l (l.map xQ++m)=oR d l (l.map xQ):=by
     intro l
     induction l with
     | nil=>intro d m;rw [pC,pC]
     | cons x l ih =>intro d m;rw [List.map_cons,List.cons_append];unfold oR;exact ih _ m
    rw [k2,ux st.2.2.1 l q.2 [i_ 3 st.2.2.1 (l.map (gx st.2.2.1))] st.2.1 f3] at k1;exact k1
   have oldE:∀ e ∈ st.2.1,dq y.1 e=dq d e:=fun e w=>by
    have hin:=List.all_eq_true.1 hent e w;obtain ⟨i1,i2⟩:=he e w;have i3:LE.le (α:=Int) e.2.1 100000:=by have:=d2 e w;unfold P4 at this;simp only [iE,decide_eq_true_eq] at this;exact this.2.1.2
    unfold pc at hin;simp only [iE] at hin;exact zl g1.disk y1 y0 i1 i2 i3 hin.1
   refine ⟨?_,fun e hq=>?_,by show iD (cZ q.1.1.2.1 (q.2.take l.length))=_;rw [e2];exact hkeys,q.2.take l.length,by show cZ q.1.1.2.1 (q.2.take l.length)=_;rw [e2],?_,hPK,oldE⟩
   rotate_left
   rotate_left
   · rw [List.map_take,f3];unfold da;rw [List.take_append_of_le_length (by rw [List.length_map];omega),List.take_of_length_le (by rw [List.length_map];omega)]
   rotate_left
   · show (e ∈ st.2.1∧dq y.1 e=dq d e)∨∃ x ∈ l,x.2.1=false∧e.1=x.1∧dq y.1 e=(gx st.2.2.1 x,true);rcases newE e hq with ⟨p,hq',w,kd⟩ | w
     · obtain ⟨x,hx,ex⟩:=List.mem_map.1 (hrp p hq');have kd:((gO p).1==2)=false:=kd;have cx:x.2.1=false:=by
        cases c:x.2.1 with
        | false=>rfl
        | true =>rw [← ex] at kd;unfold gx at kd;rw [c] at kd;cases kd
       refine .inr ⟨x,hx,cx,?_,?_⟩
       · rw [w];show (gO p).2.2.1=x.1;rw [← ex];unfold gx;rw [cx];rfl
       · rw [w,hPK p hq',ex]
     · exact .inl ⟨w,oldE e w⟩
   unfold dw;simp only [iE];refine ⟨jX.2 y1,hB1.live,vp.2 ⟨?_,fun e hq=>?_,?_⟩,decide_eq_true ?_,(wQ y1).2 ⟨fun x hx=>?_,fun _ u hu=>?_⟩,List.all_eq_true.2 fun e hq=>?_⟩
   · have k3:=congrArg List.length hkeys;unfold iD at k3;rw [List.length_map,List.length_map] at k3;show (cZ q.1.1.2.1 (q.2.take l.length)).length≤20;rw [e2,k3];unfold oC at ha;omega
   · rcases newE e hq with ⟨p,hq',w,_⟩ | w
     · obtain ⟨_,p2,_⟩:=hB2 p (List.mem_of_mem_take hq');obtain ⟨u1,u2,u3⟩:=hput p hq';rw [w];unfold P4;rw [u1,aW (show (1:Int)≤(dc p).2.1∧(dc p).2.1≤100000 from p2.1),aY (show ¬ (dc p).2.2.1<(0:Int) from Int.not_lt.2 p2.2.1),aW (show (1:Int)≤(dc p).2.2.2.1∧(dc p).2.2.2.1≤210 from p2.2.2),
        aW (show (1:Int)≤(dc p).2.2.2.2.1∧(dc p).2.2.2.2.1≤1000000 from by show (1:Int)≤(gO p).2.1∧(gO p).2.1≤1000000;rw [u2];exact ⟨g3,hb⟩)]
       rfl
     · exact d2 e w
   · show cW (iD (cZ q.1.1.2.1 (q.2.take l.length)));rw [e2];exact rX _ d3
   · show (1:Int)≤q.1.1.2.2.1∧q.1.1.2.2.1≤1000001;rw [s3];exact Qm g3 hb
   · show ∃ t,fT y.1 (a_ aG x)=some t∧FL t;rw [y2];exact hB1.full x hx
   · have hu:fT y.1 (bT q.1.1)=some u:=hu;rw [y2] at hu;exact hB1.tail u hu
   · show pc y.1 q.1.1.2.2.1 e=true;rw [s3];rcases newE e hq with ⟨p,hq',w,kd⟩ | w
     · obtain ⟨u1,u2,u3⟩:=hput p hq';have hr:=hPK p hq';have kd:((gO p).1==2)=false:=kd;have k1:(gO p).1=1:=by
        rcases u3 with v | v
        · exact v
        · rw [v] at kd;cases kd
       unfold pc;rw [w,hr];simp only [];rw [show (dc p).1=(gO p).2.2.1 from rfl,bQ,show (dc p).2.2.2.2.1=(gO p).2.1 from rfl,beq_self_eq_true,k1,u2,aY (Ri st.2.2.1)];rfl
     · have hin:=List.all_eq_true.1 hent e w;obtain ⟨i1,i2⟩:=he e w;have i3:LE.le (α:=Int) e.2.1 100000:=by
        have:=d2 e w;unfold P4 at this;simp only [iE,decide_eq_true_eq] at this;exact this.2.1.2
       unfold pc at hin ⊢;simp only [iE] at hin ⊢;rw [zl g1.disk y1 y0 i1 i2 i3 hin.1];refine ⟨hin.1,hin.2.1,hin.2.2.1,hin.2.2.2.1,?_⟩;have hlt:=hin.2.2.2.2;simp only [Bool.not_eq_true',decide_eq_false_iff_not] at hlt ⊢;exact Qs hlt
theorem xb:∀ l:List Nat,(∀ b ∈ l,48≤b∧b≤57)→ly l=true
 | [],_=>rfl
 | b::l,h=>by unfold ly;rw [xb l fun x hx=>h x (kS _ hx),aW (h b il),Bool.or_true];rfl
theorem wI {n:Int} (h:1≤n∧n≤100000):jQ (a_ aG n)=true:=by
 have hz:=nT (n:=n) (by omega) (by omega);have h3:aG.size=3:=rfl;rw [vJ h];have hs:(aG++kA n).size=3+(kA n).size:=by rw [ByteArray.size_append,h3]
 have hl:(kA n).size≤6:=by rw [← df,pu,if_neg (by omega),List.length_map];have:=kz 5 n.toNat (by omega);omega
 unfold jQ;rw [aW (show 1≤(aG++kA n).size∧(aG++kA n).size≤12 from ⟨by omega,by omega⟩),Bool.and_true,gw,pu,if_neg (by omega)];show ly (115::101::103::(Lib.decDigits n.toNat).map UInt8.toNat)=true;simp only [ly];rw [xb _ fun b hb=>?_]
 · decide
 · obtain ⟨x,hx,rfl⟩:=List.mem_map.1 hb;exact ku _ x hx
structure RM (d:Ty.d aA) (F U:Nat):Prop where
 disk:DR d
 fuel:d.2.2.1=(-1:Int)
 up:d.2.2.2.1=false
 cap:d.2.1=(100000:Int)
 files:d.1.length≤F
 use:du d.1≤U
theorem RM.mono {d:Ty.d aA} {F U F' U':Nat} (h:RM d F U) (h1:F≤F') (h2:U≤U'):RM d F' U':=⟨h.disk,h.fuel,h.up,h.cap,Nat.le_trans h.files h1,Nat.le_trans h.use h2⟩
theorem M4 {d:Ty.d aA} {F U:Nat} (h:RM d F U):m6 d=(d,0):=by unfold m6;rw [jX.2 h.disk,h.up,h.fuel];rfl
theorem vL {d:Ty.d aA} {F U F' U':Nat} (h:RM d F U) {g:bq→Int→bq × Int} (hd:DR (iQ d g).1) (h1:(g d.1 d.2.1).1.length≤F') (h2:du (g d.1 d.2.1).1≤U'):RM (iQ d g).1 F' U'∧(iQ d g).2=(g d.1 d.2.1).2:=by
 have e:iQ d g=(((g d.1 d.2.1).1,d.2),(g d.1 d.2.1).2):=by unfold iQ;rw [M4 h];rfl
 rw [e] at hd ⊢;exact ⟨⟨hd,h.fuel,h.up,h.cap,h1,h2⟩,rfl⟩
theorem En {d:Ty.d aA} {s:ByteArray}:bU d.1 s=none↔fT d s=none:=by unfold fT;cases bU d.1 s <;> simp
theorem LZ {d:Ty.d aA} {F U:Nat} (h:RM d F U) (hF:F<130) {s:ByteArray} (hn:jQ s=true) (hx:bU d.1 s=none):RM (rk d s).1 (F+1) U∧(rk d s).2=0:=by
 have hg:uE s d.1 d.2.1=(kv d.1 (s,(ByteArray.empty,(0,()))),0):=by unfold uE;rw [hn,hx,aY (by have:=h.files;omega)];rfl
 have:=vL h (g:=uE s) (I2 h.disk s) (F':=F+1) (U':=U) (by rw [hg];show (kv _ _).length≤_;rw [vO];have:=h.files;omega) (by rw [hg];show du (kv _ _)≤_;rw [sL];exact h.use);rw [hg] at this;exact this
theorem Q5 {d:Ty.d aA} {F U:Nat} (h:RM d F U) {s:ByteArray} (hx:(bU d.1 s).isSome=true):RM (yU d s).1 F U∧(yU d s).2=0∧bU (yU d s).1.1 s=none:=by
 have hn:(bU d.1 s).isNone=false:=by cases q:bU d.1 s with
  | none=>rw [q] at hx;cases hx
  | some f=>rfl
 have hg:v7 s d.1 d.2.1=(gi d.1 s,0):=by unfold v7;rw [hn];rfl
 have hl:∀ (l:bq),(gi l s).length≤l.length:=by
  intro l
  induction l with
  | nil=>exact Nat.le_refl _
  | cons g l ih =>
   unfold gi;cases seq g.1 s with
   | true=>exact Nat.le_succ _
   | false=>show (gi l s).length+1≤l.length+1;omega
 have:=vL h (g:=v7 s) (Lx h.disk s) (F':=F) (U':=U) (by rw [hg];exact Nat.le_trans (hl _) h.files) (by rw [hg];exact Nat.le_trans (py _ _) h.use);rw [hg] at this;refine ⟨this.1,this.2,?_⟩;have e:(yU d s).1.1=gi d.1 s:=by show (iQ d (v7 s)).1.1=_;unfold iQ;rw [M4 h,hg];rfl
 rw [e];exact pA h.disk.keys s
theorem Iu {d:Ty.d aA} {F U:Nat} (h:RM d F U) (s:ByteArray):RM (gU s d).1 F U∧(gU s d).2=0∧bU (gU s d).1.1 s=none:=by
 unfold gU;cases c:(bU d.1 s).isSome with
 | true=>exact Q5 h c
 | false =>
  refine ⟨h,rfl,?_⟩;cases q:bU d.1 s with
  | none=>exact q
  | some f=>rw [q] at c;cases c
theorem oZ {r:RD} {f:Ty.d aA→RD} (h:r.2=0):fD r f=f r.1:=by unfold fD;rw [h];rfl
theorem vb {d:Ty.d aA} {F U:Nat} (h:RM d F U) (hF:F<130) {s:ByteArray} (hn:jQ s=true):RM (ax s d).1 (F+1) U∧(ax s d).2=0:=by obtain ⟨g1,g2,g3⟩:=Iu h s;unfold ax;rw [oZ g2];exact LZ g1 hF hn g3
theorem Hl {d:Ty.d aA} {F U:Nat} (h:RM d F U) {s x:ByteArray} {n:Nat} (hx:(fT d s).isSome=true) (hn:x.size≤n) (hU:U+n≤100000):RM (jS d s x).1 F (U+n)∧(jS d s x).2=0:=by
 unfold fT at hx;have hu:=h.use;cases q:bU d.1 s with
 | none=>rw [q] at hx;cases hx
 | some f =>
  have hg:An s x d.1 d.2.1=(lQ (fun f=>(f.1,(f.2.1++x,f.2.2))) d.1 s,0):=by unfold An;rw [q,h.cap,aF (n:=100000-(du d.1:Int)) (by omega) (by omega),aY (by omega)];rfl
  have hz:=qZ (h:=fun f:Ty.d cI=>(f.1,(f.2.1++x,f.2.2))) q;have hs:(f.2.1++x).size=f.2.1.size+x.size:=ByteArray.size_append ..;simp only [] at hz;have:=vL h (g:=An s x) (qs h.disk s x) (F':=F) (U':=U+n) (by rw [hg];show (lQ _ _ _).length≤_;rw [tw];exact h.files) (by rw [hg];show du (lQ _ _ _)≤_;omega);rw [hg] at this;exact this
theorem xG {d:Ty.d aA} {F U:Nat} (h:RM d F U) {s:ByteArray} (hx:(fT d s).isSome=true):RM (dY d s).1 F U∧(dY d s).2=0:=by
 unfold fT at hx;have hu:=h.use;cases q:bU d.1 s with
 | none=>rw [q] at hx;cases hx
 | some f =>
  have hg:wC s d.1 d.2.1=(lQ (fun f=>(f.1,(f.2.1,((f.2.1.size:Int),f.2.2.2)))) d.1 s,0):=by unfold wC;rw [q];rfl
  have hz:=qZ (h:=fun f:Ty.d cI=>(f.1,(f.2.1,((f.2.1.size:Int),f.2.2.2)))) q;simp only [] at hz;have:=vL h (g:=wC s) (mj h.disk s) (F':=F) (U':=U) (by rw [hg];show (lQ _ _ _).length≤_;rw [tw];exact h.files) (by rw [hg];show du (lQ _ _ _)≤_;omega);rw [hg] at this;exact this
theorem QT {d:Ty.d aA} {F U:Nat} (h:RM d F U) {a b:ByteArray} (hn:jQ b=true) (hab:a≠b) (hx:(fT d a).isSome=true):RM (xS d a b).1 F U∧(xS d a b).2=0:=by
 unfold fT at hx;have hu:=h.use;cases q:bU d.1 a with
 | none=>rw [q] at hx;cases hx
 | some f =>
  have hg:wB a b d.1 d.2.1=(kv (gi (gi d.1 a) b) (b,f.2),0):=by unfold wB;rw [hn,q,kZ hab];rfl
  have hz:=vI q;have hz2:=py (gi d.1 a) b;have hl:∀ (s:ByteArray) (l:bq),(gi l s).length≤l.length:=by
   intro s l
   induction l with
   | nil=>exact Nat.le_refl _
   | cons g l ih =>
    unfold gi;cases seq g.1 s with
    | true=>exact Nat.le_succ _
    | false=>show (gi l s).length+1≤l.length+1;omega
  have hl1:∀ l:bq,∀ f,bU l a=some f→(gi l a).length+1=l.length:=by
   intro l
   induction l with
   | nil=>intro f q;cases q
   | cons g l ih =>
    intro f q;unfold bU at q;unfold gi;cases c:seq g.1 a with
    | true=>rfl
    | false =>rw [c] at q;have:=ih f q;show (gi l a).length+1+1=l.length+1;omega
  have hl2:=hl b (gi d.1 a);have hl3:=hl1 d.1 f q;have hf:=h.files;have:=vL h (g:=wB a b) (NG h.disk a b) (F':=F) (U':=U) (by rw [hg];show (kv _ _).length≤_;rw [vO];omega) (by rw [hg];show du (kv _ _)≤_;rw [sL];show du _+f.2.1.size≤_;omega);rw [hg] at this;exact this
theorem Ie {d:Ty.d aA} {F U:Nat} (h:RM d F U) (hF:F<130) {s t:ByteArray} {n:Nat} (hn:jQ s=true) (ht:t.size≤n) (hU:U+n≤100000):RM (lM s t d).1 (F+1) (U+n)∧(lM s t d).2=0∧(fT (lM s t d).1 s).isSome=true:=by obtain ⟨a1,a2⟩:=vb h hF hn;have a3:=lw (s:=s) (d:=d) a2;obtain ⟨b1,b2⟩:=Hl a1 (s:=s) (x:=t) (n:=n) (by rw [a3];rfl) ht hU;have b3:=rR (d:=(ax s d).1) (s:=s) (x:=t);rw [b2,a3] at b3;have b3:fT (jS (ax s d).1 s t).1 s=some (ByteArray.empty++t):=b3;obtain ⟨c1,c2⟩:=xG b1 (s:=s) (by rw [b3];rfl);unfold lM;rw [oZ a2,oZ b2];exact ⟨c1,c2,by rw [lH,b3];rfl⟩
theorem sW (v:Ty.d cv):(cA v).size≤211:=by
 unfold cA;split
 · exact mT (rp v)
 · decide
theorem uZ {d:Ty.d aA} {F U:Nat} (h:RM d F U) (hF:F<130) (hU:U+211≤100000) (v:Ty.d cv):RM (bE v d).1 (F+1) (U+211)∧(bE v d).2=0:=by obtain ⟨a1,a2,a3⟩:=Ie h hF (s:=ib) (t:=cA v) (n:=211) (by decide) (sW v) hU;unfold bE;rw [oZ a2];exact QT a1 (by decide) (by decide) a3
theorem Qa {st:Ty.d aE} {d:Ty.d aA} {F U:Nat} (h:RM d F U) (hb:BT st d) (hF:F+1<130) (hU:U+211≤100000) (hi:st.1.2.1.length<60) (hn:LT.lt (α:=Int) st.1.1 100000) :
 RM (iC st d).2.1 (F+2) (U+211)∧(iC st d).2.2=0∧(iC st d).1.1.2.1.length=st.1.2.1.length+1∧(iC st d).1.1.1=st.1.1+1:=by
 obtain ⟨n1,n2,n3,_⟩:=gY (n:=st.1.1) (ids:=st.1.2.1) hb.live;obtain ⟨_,_,g1,_,_⟩:=bo (nx:=st.1.1) (ids:=st.1.2.1) hb.live;have hlast:bi st.1.2.1 ∈ st.1.2.1:=by have hs:=mM g1;rw [hs];exact List.mem_append_right _ (List.mem_singleton.2 (by rw [← hs]))
 obtain ⟨t,ht,_⟩:=hb.full _ hlast;obtain ⟨a1,a2⟩:=xG h (s:=bT st) (by rw [show fT d (bT st)=some t from ht];rfl);obtain ⟨b1,b2⟩:=vb a1 (by omega) (wI ⟨n1,n2⟩);obtain ⟨c1,c2⟩:=uZ b1 (by omega) hU (kw st);unfold iC;rw [aY (show ¬ (st.1.2.1.length:Int)≥60 by omega),aY (show ¬ st.1.1≥(100000:Int) from Int.not_le.2 hn),a2,b2,c2];refine ⟨c1,rfl,?_,rfl⟩;show (st.1.2.1++[st.1.1]).length=_;rw [nE,List.length_singleton]
theorem wF (r:Ty.d bf):(aS (aI r)).size≤210:=by have:=tN r;unfold ar at this;omega
theorem Mg {st:Ty.d aE} {d:Ty.d aA} {F U:Nat} (h:RM d F U) (hb:BT st d) (hU:U+210≤100000) (r:Ty.d bf) :
 RM (ip st d r).1.2.1 F (U+210)∧(ip st d r).1.2.2=0∧(ip st d r).1.1.1=st.1:=by
 obtain ⟨_,_,g1,_,_⟩:=bo (nx:=st.1.1) (ids:=st.1.2.1) hb.live;have hlast:bi st.1.2.1 ∈ st.1.2.1:=by have hs:=mM g1;rw [hs];exact List.mem_append_right _ (List.mem_singleton.2 (by rw [← hs]))
 obtain ⟨t,ht,_⟩:=hb.full _ hlast;obtain ⟨a1,a2⟩:=Hl h (s:=bT st) (x:=aS (aI r)) (n:=210) (by rw [show fT d (bT st)=some t from ht];rfl) (wF r) hU;unfold ip;rw [a2];exact ⟨a1,rfl,rfl⟩
theorem QU {st:Ty.d aE} {d:Ty.d aA} {F U:Nat} (h:RM d F U) (hb:BT st d) (hF:F+1<130) (hU:U+421≤100000) (hi:st.1.2.1.length<60) (hn:LT.lt (α:=Int) st.1.1 100000) (r:Ty.d bf) :
 RM (eW st d r).1.2.1 (F+2) (U+421)∧(eW st d r).1.2.2=0∧(eW st d r).1.1.1.2.1.length≤st.1.2.1.length+1∧LE.le (α:=Int) (eW st d r).1.1.1.1 (st.1.1+1):=by
 obtain ⟨a1,a2,a3,a4⟩:=Qa h hb hF (by omega) hi hn;have ab:=HZ hb a2;unfold eW;cases decide (st.2.2.2.1 > 0)&&decide (st.2.2.2.1+ar r > 200) with
 | false =>obtain ⟨s1,s2,s3⟩:=Mg h hb (by omega) r;simp only [aJ];rw [s3];exact ⟨s1.mono (by omega) (by omega),s2,by omega,by omega⟩
 | true =>simp only [aa];generalize iC st d=q at a1 a2 a3 a4 ab ⊢;rw [show (q.2.2 != 0)=false by rw [a2];rfl];obtain ⟨s1,s2,s3⟩:=Mg a1 ab (by omega) r;simp only [aJ];rw [s3];exact ⟨s1.mono (by omega) (by omega),s2,by omega,Int.le_of_eq a4⟩
theorem F1:∀ (l:ja) (st:Ty.d aE) (d:Ty.d aA) (ps:ag) (F U:Nat),RM d F U→BT st d→(∀ r ∈ l,bg r=true)→F+2*l.length<130→U+421*l.length≤100000→st.1.2.1.length+l.length≤60→LE.le (α:=Int) (st.1.1+(l.length:Int)) 100000 →
 RM (dC l st d ps).1.2.1 (F+2*l.length) (U+421*l.length)∧(dC l st d ps).1.2.2=0∧(dC l st d ps).1.1.1.2.1.length≤st.1.2.1.length+l.length∧LE.le (α:=Int) (dC l st d ps).1.1.1.1 (st.1.1+(l.length:Int))
 | [],st,d,ps,F,U,h,_,_,_,_,_,_=>⟨h.mono (by omega) (by omega),rfl,Nat.le_refl _,by rw [List.length_nil];exact Int.le_of_eq (Int.add_zero _).symm⟩
 | r::l,st,d,ps,F,U,h,hb,hr,hF,hU,hi,hn=>by
  have el:(r::l).length=l.length+1:=j7;rw [el] at hF hU hi hn ⊢;have e3:421*(l.length+1)=421*l.length+421:=Nat.mul_succ 421 l.length;rw [e3] at hU ⊢;generalize hm:421*l.length=m at hU ⊢;have u0:F+1<130:=by omega
  have u1:U+421≤100000:=Nat.le_trans (Nat.add_le_add_left (Nat.le_add_left 421 m) U) hU;have u2:st.1.2.1.length<60:=by omega
  have u3:LT.lt (α:=Int) st.1.1 100000:=by omega
  obtain ⟨a1,a2,a3,a4⟩:=QU h hb u0 u1 u2 u3 r;obtain ⟨b1,_,_⟩:=IU hb (hr r il) a2;unfold dC;generalize eW st d r=q at a1 a2 a3 a4 b1 ⊢;rw [show (q.1.2.2 != 0)=false by rw [a2];rfl];simp only [aJ];obtain ⟨i1,i2,i3,i4⟩:=F1 l q.1.1 q.1.2.1 (ps++[q.2]) (F+2) (U+421) a1 b1 (fun x hx=>hr x (kS _ hx)) (by omega) (by rw [hm,Nat.add_assoc,Nat.add_comm 421 m];exact hU) (by omega) (by omega);rw [hm] at i1;exact ⟨i1.mono (by omega) (Nat.le_of_eq (by rw [Nat.add_assoc,Nat.add_comm 421 m])),i2,by omega,by omega⟩
theorem M8 {st:Ty.d aE} {d:Ty.d aA} {l:eU} {F U:Nat} (h:RM d F U) (hs:dw st d=true) (hp:eF l=true) (hb:LE.le (α:=Int) st.2.2.1 1000000) (hF:F+20<130) (hU:U+4000≤100000) (hi:st.1.2.1.length≤50) (hn:LE.le (α:=Int) st.1.1 99000) :
 RM (cN st d l).2.1 (F+18) (U+3789)∧(cN st d l).2.2=0∧(cN st d l).1.1.2.1.length≤st.1.2.1.length+9∧LE.le (α:=Int) (cN st d l).1.1.1 (st.1.1+9):=by
 obtain ⟨g1,g2,g3⟩:=dT hs;have hBT:=tJ hs;have hl8:=nU hp;have hlen:(da l st.2.2.1).length≤9:=by unfold da;rw [nE,List.length_map,List.length_singleton];omega
 obtain ⟨a1,a2,a3,a4⟩:=F1 (da l st.2.2.1) (lP st) d [] F U h ⟨hBT.live,hBT.disk,hBT.full,hBT.tail⟩ (oO hp g3 hb) (by omega) (by omega) (by show st.1.2.1.length+_≤60;omega) (by show LE.le (α:=Int) (st.1.1+_) 100000;omega);obtain ⟨hB,_⟩:=yk (da l st.2.2.1) (lP st) d [] ⟨hBT.live,hBT.disk,hBT.full,hBT.tail⟩ (oO hp g3 hb) (fun x hx=>by cases hx) a2;have a3:(dC (da l st.2.2.1) (lP st) d []).1.1.1.2.1.length≤st.1.2.1.length+(da l st.2.2.1).length:=a3;have a4:LE.le (α:=Int) (dC (da l st.2.2.1) (lP st) d []).1.1.1.1 (st.1.1+((da l st.2.2.1).length:Int)):=a4;unfold cN;generalize dC (da l st.2.2.1) (lP st) d []=q at a1 a2 a3 a4 hB ⊢;obtain ⟨_,_,k1,_,_⟩:=bo (nx:=q.1.1.1.1) (ids:=q.1.1.1.2.1) hB.live;have hlast:bi q.1.1.1.2.1 ∈ q.1.1.1.2.1:=by have hs:=mM k1;rw [hs];exact List.mem_append_right _ (List.mem_singleton.2 (by rw [← hs]))
 obtain ⟨t,ht,_⟩:=hB.full _ hlast;obtain ⟨y1,y2⟩:=xG a1 (s:=bT q.1.1) (by rw [show fT q.1.2.1 (bT q.1.1)=some t from ht];rfl);unfold yP;rw [show (q.1.2.2 != 0)=false by rw [a2];rfl,y2];exact ⟨y1.mono (by omega) (by omega),rfl,by show q.1.1.1.2.1.length≤_;omega,by show LE.le (α:=Int) q.1.1.1.1 _;omega⟩
theorem PV:RM (ik 100000) 0 0:=⟨Im (by omega) (by omega),rfl,rfl,rfl,Nat.le_refl _,Nat.le_refl _⟩
theorem Bv {α:Type} {p:α→Bool}:∀ {l:List α},(∀ x ∈ l,p x=true)→l.takeWhile p=l∧l.dropWhile p=[]
 | [],_=>⟨rfl,rfl⟩
 | x::l,h=>by
  have ih:=Bv (p:=p) (l:=l) fun y hy=>h y (kS _ hy)
  rw [List.takeWhile_cons,List.dropWhile_cons,h x il,if_pos rfl,if_pos rfl,ih.1];exact ⟨rfl,ih.2⟩
theorem wt:∀ {l:aR},cW (iD l)→∀ e ∈ l,ui l e.1=some e
 | [],_,e,h=>by cases h
 | x::l,hk,e,h=>by
  unfold cW iD at hk;rw [List.map_cons,List.pairwise_cons] at hk;rw [ui.eq_2];rcases List.mem_cons.1 h with w | w
  · rw [w,bQ];rfl
  · have hlt:=hk.1 e.1 (List.mem_map.2 ⟨e,w,rfl⟩);rw [kZ (fun q=>by rw [q,nM] at hlt;cases hlt),aJ];exact wt hk.2 e w
theorem OM {st:Ty.d aE} {d:Ty.d aA} (h:dw st d=true) {e:Ty.d aC} (he:e ∈ st.2.1):rB st.2.1 d e.1=((e.1,((dq d e).1.2.2.2.1,((dq d e).1.2.1,()))),0):=by unfold dw at h;simp only [iE] at h;obtain ⟨_,_,hdir,_,_,hent⟩:=h;obtain ⟨_,_,hk⟩:=vp.1 hdir;have hin:=List.all_eq_true.1 hent e he;unfold pc at hin;simp only [iE] at hin;unfold rB;rw [wt hk e he];simp only [];rw [hin.1,hin.2.1,hin.2.2.2.1];rfl
theorem lK {st:Ty.d aE} {d:Ty.d aA} (h:dw st d=true):bY st.2.1 d=(st.2.1.map fun e=>(e.1,((dq d e).1.2.2.2.1,((dq d e).1.2.1,()))),0):=by
 have key:∀ (r:aR) (acc:bV),(∀ e ∈ r,e ∈ st.2.1)→pk st.2.1 d (r.map (·.1)) acc=(acc++r.map fun e=>(e.1,((dq d e).1.2.2.2.1,((dq d e).1.2.1,()))),0):=by
  intro r
  induction r with
  | nil=>intro acc _;rw [List.map_nil,List.map_nil,List.append_nil];rfl
  | cons e r ih =>intro acc hr;rw [List.map_cons,pk,OM h (hr e il)];show pk st.2.1 d (r.map (·.1)) (acc++[_])=_;rw [ih _ fun x hx=>hr x (kS _ hx),oK];rfl
 unfold bY;rw [key st.2.1 [] fun e he=>he,List.nil_append]
def LS (p:Ty.d aB):Ty.d aB:=(p.1,(p.2.1,(0,())))
def BS (key:ByteArray) (x:Ty.d aB):Bool:=nd x.1 key||seq x.1 key
def dr (l:bV) (key:ByteArray):bV:=l.filter fun x=>!(seq x.1 key)
def s_ (l:bV) (p:Ty.d aB):bV:=l.takeWhile (BS p.1)++p::l.dropWhile (BS p.1)
def pP (l:bV) (p:Ty.d aB) (del:Bool):bV:=bif del then dr l p.1 else s_ (dr l p.1) p
def gI (l:bV) (puts:eU) (b:Int):bV:=puts.foldl (fun l q=>pP l (q.1,(q.2.2.1,(b,()))) q.2.1) l
theorem NP (l:bV) (p:Ty.d aB):(s_ l p).length=l.length+1:=by unfold s_;rw [nE,j7];have:=congrArg List.length (List.takeWhile_append_dropWhile (p:=BS p.1) (l:=l));rw [nE] at this;omega
theorem wK (l:bV) (key:ByteArray):(dr l key).length≤l.length:=List.length_filter_le ..
theorem GA (l:bV) (p:Ty.d aB) (del:Bool):(pP l p del).length≤l.length+1:=by
 unfold pP;have:=wK l p.1;cases del
 · rw [aJ,NP];omega
 · rw [aa];omega
theorem xq {v:Ty.d aC→Ty.d aB} (hv:∀ e,(v e).1=e.1) (l:aR) (key:ByteArray):(m0 l key).map v=dr (l.map v) key:=by
 unfold m0 dr;rw [List.filter_map];congr 1;refine List.filter_congr fun x _=>?_
 show (!(seq x.1 key))=!(seq (v x).1 key);rw [hv]
theorem OO {v:Ty.d aC→Ty.d aB} (hv:∀ e,(v e).1=e.1) (l:aR) (e:Ty.d aC):(vE l e).map v=s_ (l.map v) (v e):=by
 have h:((BS (v e).1) ∘ v)=OR e.1:=by funext x;show (nd (v x).1 (v e).1||seq (v x).1 (v e).1)=_;rw [hv,hv];rfl
 unfold vE s_;rw [List.map_append,List.map_cons,List.takeWhile_map,List.dropWhile_map,h]
theorem Co {v:Ty.d aC→Ty.d aB} (hv:∀ e,(v e).1=e.1) (b:Int):∀ (l:eU) (ps:ag) (dir:aR),ps.map gO=l.map (gx b)→(∀ p ∈ ps,v (dc p)=((gO p).2.2.1,((gO p).2.2.2.1,((gO p).2.1,()))))→(cZ dir ps).map v=gI (dir.map v) l b
 | [],[],dir,_,_=>rfl
 | [],p::ps,dir,h,_=>by cases h
 | x::l,[],dir,h,_=>by cases h
 | x::l,p::ps,dir,h,hp=>by
  rw [List.map_cons,List.map_cons] at h;injection h with h1 h2;have ih:=Co hv b l ps (gF dir p) h2 fun q hq=>hp q (kS _ hq)
  show (cZ (gF dir p) ps).map v=gI (pP (dir.map v) (x.1,(x.2.2.1,(b,()))) x.2.1) l b;rw [ih];congr 1;have hpp:=hp p il;have h1:p.2.2.2.1=gx b x:=h1;unfold gF pP;rw [h1];cases c:x.2.1 with
  | true =>rw [show ((gx b x).1==2)=true by unfold gx;rw [c];rfl,show (gx b x).2.2.1=x.1 by unfold gx;rw [c];rfl];exact xq hv dir x.1
  | false =>
   rw [show ((gx b x).1==2)=false by unfold gx;rw [c];rfl];simp only [aJ];unfold rA;have ek:(dc p).1=x.1:=by show p.2.2.2.1.2.2.1=x.1;rw [h1];unfold gx;rw [c];rfl
   have ev:v (dc p)=(x.1,(x.2.2.1,(b,()))):=by rw [hpp];show (p.2.2.2.1.2.2.1,(p.2.2.2.1.2.2.2.1,(p.2.2.2.1.2.1,())))=_;rw [h1];unfold gx;rw [c];rfl
   rw [OO hv,xq hv,ev,ek]
theorem IM {st:Ty.d aE} {d:Ty.d aA} {l:eU} (hs:dw st d=true) (he:EI st) (hp:eF l=true) (hb:LE.le (α:=Int) st.2.2.1 1000000) (ha:oC st.2.1 l≤20) (z:(cN st d l).2.2=0) :
 bY (cN st d l).1.2.1 (cN st d l).2.1=(gI (bY st.2.1 d).1 l st.2.2.1,0):=by
 obtain ⟨s1,_,_,ps,p1,p2,p3,p4⟩:=xm hs he hp hb ha z;rw [lK s1,lK hs,p1];simp only [];rw [Co (v:=fun e=>(e.1,((dq (cN st d l).2.1 e).1.2.2.2.1,((dq (cN st d l).2.1 e).1.2.1,())))) (fun _=>rfl) st.2.2.1 l ps st.2.1 p2 fun p hq=>?_]
 · congr 2;refine List.map_congr_left fun e he=>?_
   rw [p4 e he]
 · rw [p3 p hq];rfl
noncomputable def Hd (d:Ty.d aA) (e:Ty.d aC):Ty.d aB:=(e.1,((dq d e).1.2.2.2.1,((dq d e).1.2.1,())))
theorem N9 {dir:aR} {d:Ty.d aA} (h:∀ e ∈ dir,rB dir d e.1=(Hd d e,0)):bY dir d=(dir.map (Hd d),0):=by
 have key:∀ (r:aR) (acc:bV),(∀ e ∈ r,e ∈ dir)→pk dir d (r.map (·.1)) acc=(acc++r.map (Hd d),0):=by
  intro r
  induction r with
  | nil=>intro acc _;rw [List.map_nil,List.map_nil,List.append_nil];rfl
  | cons e r ih =>intro acc hr;rw [List.map_cons,pk,h e (hr e il)];show pk dir d (r.map (·.1)) (acc++[_])=_;rw [ih _ fun x hx=>hr x (kS _ hx),oK];rfl
 unfold bY;rw [key dir [] fun e he=>he,List.nil_append]
theorem C4 (m:Int):∀ (l:bV) (a:Int),iD (ic m l a)=l.map (·.1)
 | [],_=>rfl
 | p::l,a=>by have:=C4 m l (a+ar (cJ p));unfold iD at this ⊢;unfold ic;rw [List.map_cons,List.map_cons,this]
theorem GN {d:Ty.d aA} {m:Int}:∀ (l:bV) (pre post:ByteArray),(bJ d (a_ aG m)).1=pre++(aU (l.map cJ)++post)→(∀ p ∈ l,bg (cJ p)=true) →
 (∀ e ∈ ic m l (pre.size:Int),∃ p,dq d e=(cJ p,true)∧e.1=p.1)∧(ic m l (pre.size:Int)).map (Hd d)=l
 | [],_,_,_,_=>⟨fun e he=>(by cases he),rfl⟩
 | p::l,pre,post,ht,hr=>by
  have hp:=hr p il;have ht2:(bJ d (a_ aG m)).1=(pre++aS (aI (cJ p)))++(aU (l.map cJ)++post):=by rw [ht,List.map_cons,aU,pK,pK]
  obtain ⟨i1,i2⟩:=GN l (pre++aS (aI (cJ p))) post ht2 fun q hq=>hr q (kS _ hq)
  have hz:((pre++aS (aI (cJ p))).size:Int)=(pre.size:Int)+ar (cJ p):=by rw [ByteArray.size_append];unfold ar;omega
  rw [hz] at i1 i2;have h0:dq d (p.1,(m,((pre.size:Int),(ar (cJ p),(p.2.2.1,())))))=(cJ p,true):=by unfold dq;simp only [];rw [ht2,xR (by rw [tO pre hp]),tO pre hp]
  unfold ic;refine ⟨fun e he=>?_,?_⟩
  · rcases List.mem_cons.1 he with w | w
    · rw [w];exact ⟨p,h0,rfl⟩
    · exact i1 e w
  · rw [List.map_cons,i2];unfold Hd;rw [h0];rfl
theorem Kb {d:Ty.d aA} {m mark:Int} {l:bV} (ht:(bJ d (a_ aG m)).1=aU (fV l mark)) (hr:∀ p ∈ l,bg (cJ p)=true) (hk:cW (l.map (·.1))):bY (ic m l 0) d=(l,0):=by
 have ht2:(bJ d (a_ aG m)).1=(⟨#[]⟩:ByteArray)++(aU (l.map cJ)++aU [i_ 5 mark (l.map cJ)]):=by rw [ht,show (⟨#[]⟩:ByteArray)=dB [] from rfl,Ew];unfold fV;rw [nn]
 obtain ⟨h1,h2⟩:=GN l ⟨#[]⟩ _ ht2 hr;have h1:∀ e ∈ ic m l 0,∃ p,dq d e=(cJ p,true)∧e.1=p.1:=h1;have h2:(ic m l 0).map (Hd d)=l:=h2;rw [N9 fun e he=>?_,h2];obtain ⟨p,p1,p2⟩:=h1 e he;unfold rB;rw [wt (by rw [C4];exact hk) e he];simp only [];unfold Hd;rw [p1];simp only [];rw [show seq (cJ p).2.2.1 e.1=true by rw [p2];exact bQ _];rfl
theorem NZ {d:Ty.d aA} {e:Ty.d aC} (h:(dq d e).2=true):bg (dq d e).1=true:=by
 unfold dq iw at h ⊢;by_cases c1:0≤e.2.2.1∧e.2.2.1≤((bJ d (a_ aG e.2.1)).1.size:Int)∧1≤e.2.2.2.1∧e.2.2.2.1≤((bJ d (a_ aG e.2.1)).1.size:Int)-e.2.2.1
 · rw [if_pos c1] at h ⊢;by_cases c2:(iG (ByteArray.extract (bJ d (a_ aG e.2.1)).1 (Int.toNat e.2.2.1) (Int.toNat (e.2.2.1+e.2.2.2.1)))).2=e.2.2.2.1
   · rw [if_pos c2] at h ⊢;exact (zW (Prod.ext rfl h)).1
   · rw [if_neg c2] at h;cases h
 · rw [if_neg c1] at h;cases h
theorem yf {r:Ty.d bf} (h:bg r=true) (hk:r.1=1∨r.1=4):bg (cJ (r.2.2.1,(r.2.2.2.1,(r.2.1,()))))=true:=by
 have hb:(r.1==1||r.1==4)=true:=by rcases hk with q | q <;> rw [q] <;> rfl
 unfold bg at h;rw [hb,aa] at h;simp only [iE] at h;unfold bg cJ;rw [show ((4:Int)==1||(4:Int)==4)=true from rfl];simp only [aa];rw [h.1,h.2.1,h.2.2.2.2];rfl
theorem xB {st:Ty.d aE} {d:Ty.d aA} (h:dw st d=true):(∀ p ∈ (bY st.2.1 d).1,bg (cJ p)=true)∧cW ((bY st.2.1 d).1.map (·.1)):=by
 rw [lK h];have h':=h;unfold dw at h';simp only [iE] at h';obtain ⟨_,_,hdir,_,_,hent⟩:=h';obtain ⟨_,_,hk⟩:=vp.1 hdir;refine ⟨fun p hp=>?_,?_⟩
 · obtain ⟨e,he,rfl⟩:=List.mem_map.1 hp;have hin:=List.all_eq_true.1 hent e he;unfold pc at hin;simp only [iE,Bool.or_eq_true,beq_iff_eq] at hin;have:=yf (NZ hin.1) hin.2.2.2.1;rw [db.1 hin.2.1] at this;exact this
 · rw [List.map_map];exact hk
theorem FD (hb:ByteArray→ByteArray) (st:Ty.d aE) (d:Ty.d aA) (l:bV):(cS hb st d l).1=pY st∨(cS hb st d l).1=(fu st.1.1,(ic st.1.1 l 0,(st.2.2.1,(0,(0,()))))):=by
 unfold cS;generalize dQ st.1.1 l (st.2.2.1-1) d=a;cases a.2 != 0 with
 | true=>exact .inl rfl
 | false =>
  simp only [aJ];generalize ax (a_ aG (st.1.1+1)) a.1=b;cases b.2 != 0 with
  | true=>exact .inl rfl
  | false =>
   simp only [aJ];generalize i8 hb st.1.1 b.1=e;cases e.2 != 0 with
   | true=>exact .inl rfl
   | false =>
    simp only [aJ];generalize bE (fu st.1.1) e.1=f;cases f.2 != 0 with
    | true=>exact .inl rfl
    | false=>exact .inr rfl
structure MD (st:Ty.d aE) (d:Ty.d aA):Prop where
 store:dw st d=true
 dump:(bY st.2.1 d).2=0
 disk:DR (bv st d).2.1
 form:(bv st d).1=(fu st.1.1,(ic st.1.1 (bY st.2.1 d).1 0,(st.2.2.1,(0,(0,())))))
 segs:(uH (bv st d).2.1 [st.1.1,st.1.1+1]:Int)=yw (bY st.2.1 d).1 (st.2.2.1-1)
 text:fT (bv st d).2.1 (a_ aG st.1.1)=some (aU (fV (bY st.2.1 d).1 (st.2.2.1-1)))
 next:fT (bv st d).2.1 (a_ aG (st.1.1+1))=some ByteArray.empty
 live:fT (bv st d).2.1 gg=some (cA (fu st.1.1))
 lo:LE.le (α:=Int) 1 st.1.1
 hi:LE.le (α:=Int) (st.1.1+2) 100000
theorem nH {st:Ty.d aE} {d:Ty.d aA} (h:(bv st d).2.2=0):MD st d:=by
 have h0:=h;unfold bv at h;cases c1:dw st d with
 | false =>rw [c1] at h;exact absurd h (by show (4:Int)≠0;decide)
 | true =>
  rw [c1] at h;obtain ⟨g1,g2,g3⟩:=dT c1;obtain ⟨n1,n2,n3,_⟩:=gY (n:=st.1.1) (ids:=st.1.2.1) g1.live;have h60:st.1.2.1.length≤60:=(bo (nx:=st.1.1) (ids:=st.1.2.1) g1.live).2.2.2.1;simp only [fw,aJ] at h;by_cases c2:st.1.1+2 > (100000:Int)
  · rw [aW c2] at h;exact absurd h (by show (5:Int)≠0;decide)
  · rw [aY c2] at h;simp only [aJ] at h;have hz:=tW st.2.1 d;cases c3:(bY st.2.1 d).2 != 0 with
    | true =>rw [c3] at h;exact absurd h (by intro q;rw [show (bY st.2.1 d).2=0 from q] at c3;cases c3)
    | false =>
     rw [c3] at h;simp only [aJ] at h;have e:bv st d=cS (se st.1.1) st d (bY st.2.1 d).1:=by unfold bv;rw [c1,aY c2,c3];rfl
     obtain ⟨e1,e2⟩:=Ge (se st.1.1) st d (bY st.2.1 d).1;have hIV:IV ((st.1,([],st.2.2)),(d,0)):=⟨g1.disk,h60,Nat.zero_le _,fun x hx=>(by cases hx),Int.natCast_nonneg _⟩;obtain ⟨q1,q2⟩:=Kq (hb:=se st.1.1) hIV g1.live (Int.not_lt.1 c2) (l:=(bY st.2.1 d).1) (by omega);have hc:(cS (se st.1.1) (st.1,([],st.2.2)) d (bY st.2.1 d).1).2.2=0:=by rw [← e1];exact h
     obtain ⟨w1,_,w3,w4,w5,w6⟩:=q2 hc;have hf:(cS (se st.1.1) st d (bY st.2.1 d).1).1.1=fu st.1.1:=by rw [e2,w5]
     refine ⟨c1,fJ c3,?_,?_,?_,?_,?_,?_,n1,Int.not_lt.1 c2⟩
     · rw [e,e1];exact q1.disk
     · rw [e];rcases FD (se st.1.1) st d (bY st.2.1 d).1 with w | w
       · exfalso;rw [w] at hf;have hf:(st.1.1+2,st.1.2)=fu st.1.1:=hf;have h3:st.1.2.1=[st.1.1,st.1.1+1]:=by
          have:=congrArg (fun v:Ty.d cv=>v.2.1) hf;exact this
         have:=(n3 st.1.1 (by rw [h3];exact il)).2;exact absurd this (Int.lt_irrefl _)
       · exact w
     · rw [w5] at w1;rw [e,e1];exact w1
     · rw [e,e1];exact w3
     · rw [e,e1];exact w4
     · rw [e,e1];exact w6
theorem H7 {st:Ty.d aE} {d:Ty.d aA} (h:MD st d):bY (bv st d).1.2.1 (bv st d).2.1=((bY st.2.1 d).1,0):=by obtain ⟨k1,k2⟩:=xB h.store;rw [h.form];refine Kb (mark:=st.2.2.1-1) ?_ k1 k2;rw [iv h.disk,h.text];rfl
theorem OY {b:Int} (h:1≤b) (g:b≤1000001):0≤b-1∧b-1≤1000000:=by omega
theorem FE {a b:Int} (h:a<b) (g:b≤100000):a≤100000:=by omega
def fG:ja→Int→DK
 | [],_=>[]
 | r::l,a=>(a,(ar r,(r,())))::fG l (a+ar r)
theorem AK:∀ (rs:ja) (pre:ByteArray) (d:Nat),(∀ r ∈ rs,bg r=true)→(aU rs).size<d→(gH (pre++aU rs) d (pre.size:Int)).1=fG rs (pre.size:Int)
 | [],pre,d,_,hd=>by
  obtain ⟨d,rfl⟩:∃ q,d=q+1:=⟨d-1,by omega⟩;have:iG (ByteArray.extract (pre++aU []) (Int.toNat (pre.size:Int)) (pre++aU []).size)=(⟨#[]⟩,0):=by rw [s5,gS,aU,yq]
  rw [gH,this,if_pos rfl];rfl
 | r::rs,pre,d,h,hd=>by rw [aU,aX] at hd;have hz:=lm r;have hp:=li (s:=aI r) (by omega);obtain ⟨d,rfl⟩:∃ q,d=q+1:=⟨d-1,by omega⟩;have ih:=AK rs (pre++aS (aI r)) d (fun x hx=>h x (kS _ hx)) (by omega);rw [bh,aX pre] at ih;rw [aU,JU (h r (il ..)),fG];simp only [];rw [ih,show ((pre.size+(aS (aI r)).size:Nat):Int)=(pre.size:Int)+ar r by unfold ar;omega];rfl
theorem vA {rs:ja} (h:∀ r ∈ rs,bg r=true):(c_ (aU rs)).1=fG rs 0:=by have:=AK rs ⟨#[]⟩ ((aU rs).size+1) h (by omega);rw [oX] at this;exact this
theorem DD:∀ (l m:ja) (a:Int),fG (l++m) a=fG l a++fG m (a+((aU l).size:Int))
 | [],m,a=>by show fG m a=fG m (a+((⟨#[]⟩:ByteArray).size:Int));rw [show ((⟨#[]⟩:ByteArray).size:Int)=0 from rfl,Int.add_zero]
 | r::l,m,a=>by rw [List.cons_append,fG,fG,DD l m,aU,aX,List.cons_append];rw [show a+ar r+((aU l).size:Int)=a+(((aS (aI r)).size+(aU l).size:Nat):Int) by unfold ar;omega]
abbrev s9:=List (Int × ja)
def uD (x:Int × ja):ag:=bZ x.1 (fG x.2 0)
def jV:s9→ag
 | []=>[]
 | x::l=>uD x++jV l
theorem J2:∀ (l m:s9),jV (l++m)=jV l++jV m
 | [],_=>rfl
 | x::l,m=>by show uD x++jV (l++m)=uD x++jV l++jV m;rw [J2 l m,oK]
structure TX (st:Ty.d aE) (d:Ty.d aA) (L:s9):Prop where
 live:dz st.1=true
 disk:DR d
 ids:st.1.2.1=L.map (·.1)
 text:∀ x ∈ L,fT d (a_ aG x.1)=some (aU x.2)∧∀ r ∈ x.2,bg r=true
 tail:∀ t,fT d (bT st)=some t→st.2.2.2.1=(t.size:Int)
theorem TX.bt {st:Ty.d aE} {d:Ty.d aA} {L:s9} (h:TX st d L):BT st d:=⟨h.live,h.disk,fun x hx=>by
 rw [h.ids] at hx;obtain ⟨y,hy,rfl⟩:=List.mem_map.1 hx;exact ⟨_,(h.text y hy).1,y.2,(h.text y hy).2,rfl⟩,h.tail⟩
theorem Iz {d:Ty.d aA}:∀ {ids:List Int},(∀ x ∈ ids,∃ t,fT d (a_ aG x)=some t∧FL t)→∃ L:s9,ids=L.map (·.1)∧∀ x ∈ L,fT d (a_ aG x.1)=some (aU x.2)∧∀ r ∈ x.2,bg r=true
 | [],_=>⟨[],rfl,fun x hx=>(by cases hx)⟩
 | x::l,h=>by
  obtain ⟨L,h1,h2⟩:=Iz (ids:=l) fun y hy=>h y (kS _ hy)
  obtain ⟨t,ht,rs,hr,e⟩:=h x il;refine ⟨(x,rs)::L,by rw [List.map_cons,← h1],fun y hy=>?_⟩;rcases List.mem_cons.1 hy with w | w
  · rw [w];exact ⟨by rw [ht,e],hr⟩
  · exact h2 y w
theorem BT.tx {st:Ty.d aE} {d:Ty.d aA} (h:BT st d):∃ L,TX st d L:=by obtain ⟨L,h1,h2⟩:=Iz h.full;exact ⟨L,h.live,h.disk,h1,h2,h.tail⟩
theorem J4 {d:Ty.d aA} (hd:DR d) {x:Int × ja} (h:fT d (a_ aG x.1)=some (aU x.2)∧∀ r ∈ x.2,bg r=true):nC d x.1=uD x:=by unfold nC uD gf;rw [iv hd,h.1];show bZ x.1 (c_ (aU x.2)).1=_;rw [vA h.2]
theorem qW {d:Ty.d aA} (hd:DR d):∀ {L:s9},(∀ x ∈ L,fT d (a_ aG x.1)=some (aU x.2)∧∀ r ∈ x.2,bg r=true)→lO d (L.map (·.1))=jV L
 | [],_=>rfl
 | x::L,h=>by rw [List.map_cons];show nC d x.1++lO d (L.map (·.1))=uD x++jV L;rw [qW hd fun y hy=>h y (kS _ hy),J4 hd (h x il)]
theorem qp:∀ (rs:ja) (pre post:ByteArray),(∀ r ∈ rs,bg r=true)→∀ x ∈ fG rs (pre.size:Int),iw (pre++(aU rs++post)) x.1 x.2.1=(x.2.2.1,true)∧bg x.2.2.1=true∧LE.le (α:=Int) 0 x.1∧LE.le (α:=Int) 1 x.2.1∧LE.le (α:=Int) x.2.1 210∧x.2.2.1 ∈ rs
 | [],_,_,_,x,hx=>(by cases hx)
 | r::rs,pre,post,h,x,hx=>by
  have hr:=h r il;rw [aU,pK];rw [fG] at hx;rcases List.mem_cons.1 hx with w | w
  · rw [w];have hz:=tN r;have e:=tO pre hr;refine ⟨?_,hr,Int.natCast_nonneg _,show LE.le (α:=Int) 1 (ar r) by omega,hz.2,il⟩;show iw (pre++(aS (aI r)++(aU rs++post))) (pre.size:Int) (ar r)=(r,true);rw [← pK,xR (by rw [e]),e]
  · have hz:((pre++aS (aI r)).size:Int)=(pre.size:Int)+ar r:=by
     rw [ByteArray.size_append];unfold ar;omega
    rw [← hz] at w;obtain ⟨i1,i2,i3,i4,i5,i6⟩:=qp rs (pre++aS (aI r)) post (fun q hq=>h q (kS _ hq)) x w;rw [pK] at i1;exact ⟨i1,i2,i3,i4,i5,kS _ i6⟩
theorem xY {L:s9} {p:Ty.d aL} (h:p ∈ jV L):∃ x ∈ L,∃ s ∈ fG x.2 0,p=(x.1,s):=by
 induction L with
 | nil=>cases h
 | cons x L ih =>
  have h:p ∈ uD x++jV L:=h;rcases List.mem_append.1 h with w | w
  · unfold uD bZ at w;obtain ⟨s,hs,e⟩:=List.mem_map.1 w;exact ⟨x,il,s,hs,e.symm⟩
  · obtain ⟨y,hy,q⟩:=ih w;exact ⟨y,kS _ hy,q⟩
structure PL (d:Ty.d aA) (nx:Int) (p:Ty.d aL):Prop where
 lo:LE.le (α:=Int) 1 p.1
 hi:LT.lt (α:=Int) p.1 nx
 at0:LE.le (α:=Int) 0 p.2.1
 len0:LE.le (α:=Int) 1 p.2.2.1
 len1:LE.le (α:=Int) p.2.2.1 210
 ok:bg (gO p)=true
 read:dq d (dc p)=(gO p,true)
theorem zj {st:Ty.d aE} {d:Ty.d aA} {L:s9} (h:TX st d L) {p:Ty.d aL} (hp:p ∈ jV L):PL d st.1.1 p:=by
 obtain ⟨x,hx,s,hs,e⟩:=xY hp;obtain ⟨n1,n2,n3,_⟩:=gY (n:=st.1.1) (ids:=st.1.2.1) h.live;have hi:x.1 ∈ st.1.2.1:=by rw [h.ids];exact List.mem_map.2 ⟨x,hx,rfl⟩
 obtain ⟨t1,t2⟩:=h.text x hx;obtain ⟨i1,i2,i3,i4,i5,_⟩:=qp x.2 ⟨#[]⟩ ⟨#[]⟩ t2 s hs;rw [e];refine ⟨(n3 _ hi).1,(n3 _ hi).2,i3,i4,i5,i2,?_⟩;unfold dq;show iw (bJ d (a_ aG x.1)).1 s.1 s.2.1=(s.2.2.1,true);rw [iv h.disk,t1];show iw (aU x.2) s.1 s.2.1=_;rw [Jv,oX] at i1;exact i1
end Go.Proofs.YtaaincbnjkmapaaGreatDoor.G

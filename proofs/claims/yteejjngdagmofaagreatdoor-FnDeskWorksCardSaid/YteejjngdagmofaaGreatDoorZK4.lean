/- Plain laws, merged; what is proved here is told ahead of each part. -/
import Derived.Test.YteejjngdagmofaaGreatDoorZK3
set_option linter.unusedVariables false
set_option linter.unusedSimpArgs false
namespace Go.Proofs.YteejjngdagmofaaGreatDoor.G
open Go.V
def BW:Ty.d aC:=(mc,([],(1,(0,(0,())))))
theorem Fj:∃ d,cZ (iP 100000)=(BW,(d,0))∧OP BW d∧bv d.1≤211:=by
 have hr:=Me;have hn:ib (a_ aD 1)=true:=sL ⟨by omega,by omega⟩;have e0:fw [] (iP 100000)=(iP 100000,0):=by unfold fw rW;rw [dH.2 hr.disk];rfl
 have hx:b8 (iP 100000).1 (a_ aD 1)=none:=rfl;obtain ⟨a1,a2⟩:=It hr (by omega) hn hx;obtain ⟨b1,b2⟩:=rQ a1 (by omega) (by omega) mc;have a3:fT (nh (iP 100000) (a_ aD 1)).1 (a_ aD 1)=some ByteArray.empty:=Jf a2;have b3:fT (an mc (nh (iP 100000) (a_ aD 1)).1).1 (a_ aD 1)=some ByteArray.empty:=(fB (gk ⟨by omega,by omega⟩) (ia ⟨by omega,by omega⟩)).trans a3;have b4:=qb a1.disk b2;have b5:=rR a1.disk b2;have e1:hO (iP 100000)=an mc (nh (iP 100000) (a_ aD 1)).1:=by unfold hO;rw [e0,mX (r:=(iP 100000,0)) rfl,mX a2]
 have on:∀ s,(fT (an mc (nh (iP 100000) (a_ aD 1)).1).1 s).isSome=true→s=c_∨(∃ x ∈ [(1:Int)],s=a_ aD x)∨s=a_ bG 1:=fun s hs=>by
  by_cases q1:s=c_
  · exact .inl q1
  by_cases q2:s=a_ aD 1
  · exact .inr (.inl ⟨1,iF,q2⟩)
  exfalso;by_cases q3:s=gT
  · rw [q3,b5] at hs;cases hs
  rw [fB (fun q=>q3 q.symm) (fun q=>q1 q.symm),Mg (fun q=>q2 q.symm)] at hs;cases hs
 have e2:cZ (iP 100000)=mB (iP 100000):=by
  unfold cZ;have e:(aW (iP 100000) c_).2=false:=by unfold aW;rw [dH.2 hr.disk];rfl
  rw [dH.2 hr.disk,e];rfl
 refine ⟨(an mc (nh (iP 100000) (a_ aD 1)).1).1,?_,?_,b1.use⟩
 · rw [e2];unfold mB;rw [e1,b2];rfl
 · refine OP.of ⟨[(1,[])],⟨by decide,b1.disk,rfl,fun x hx=>?_,fun t q=>?_⟩,⟨⟨0,rfl⟩,rfl,fun p hp=>(by cases hp),show (1:Int)≤1 by decide,show (1:Int)≤1000001 by decide⟩,.inl rfl⟩ ⟨on,b4⟩ (E6 b1)
   · rw [List.mem_singleton.1 hx];exact ⟨b3,fun r hr=>by cases hr⟩
   · have q:fT (an mc (nh (iP 100000) (a_ aD 1)).1).1 (a_ aD 1)=some t:=q;rw [b3] at q;rw [← Option.some.inj q];rfl
def Sd:Ty.d eD:=(true,([],(1,(List.replicate 3 (Ty.z bO),()))))
theorem Q9:(cZ (iP 100000)).2.2=0∧vJ 0 (jE (cZ (iP 100000))) Sd:=by
 obtain ⟨d,e,o,u⟩:=Fj;have hs:=o.MI.store.1;rw [e];refine ⟨rfl,rfl,rfl,rfl,Ip,BW,⟨o,show pot BW+71*0≤258+71*0 by decide,by decide,?_,show (2:Int)+0≤2+2*0 by decide,by decide,Int.le_refl _⟩,?_,rfl,fun _=>rfl⟩
 · show (bv d.1:Int)+421*0≤18000+421*0;omega
 · show bH BW.2.1 d=([],0);rw [lN hs];rfl
def SX (s:ByteArray) (l:ao):Prop:=∀ f ∈ l,f.1=s∨SF f
def SA (l:ao):Prop:=∀ f ∈ l,SF f
theorem Do {f x:Ty.d aF}:∀ {l:ao},x ∈ kD l f→x=f∨x ∈ l
 | [],h => .inl (List.mem_singleton.1 h)
 | g::l,h=>by
  unfold kD at h;cases c:nS f.1 g.1 with
  | true =>
   rw [c,ae] at h;rcases List.mem_cons.1 h with q | q
   · exact .inl q
   · exact .inr q
  | false =>
   rw [c,aH] at h;rcases List.mem_cons.1 h with q | q
   · exact .inr (by rw [q];exact iF)
   · rcases Do q with w | w
     · exact .inl w
     · exact .inr (jF _ w)
theorem yq {s:ByteArray} {x:Ty.d aF}:∀ {l:ao},x ∈ gP l s→x ∈ l
 | [],h=>h
 | g::l,h=>by
  unfold gP at h;cases c:seq g.1 s with
  | true=>rw [c,ae] at h;exact jF _ h
  | false =>
   rw [c,aH] at h;rcases List.mem_cons.1 h with q | q
   · rw [q];exact iF
   · exact jF _ (yq q)
theorem SA.sx {l:ao} (h:SA l) (s:ByteArray):SX s l:=fun f hf => .inr (h f hf)
theorem N4 {d:Ty.d aA} (h:SA d.1) (s:ByteArray):SA (nh d s).1.1:=by
 rcases r_ d (qK s) with e | e
 · unfold nh;rw [e];exact h
 · unfold nh;rw [e];unfold qK;cases !ib s with
   | true=>exact h
   | false =>
    cases (b8 d.1 s).isSome with
    | true=>exact h
    | false =>
     simp only [aH];cases decide ((d.1.length:Int)≥130) with
     | true=>exact h
     | false =>
      intro f hf;rcases Do hf with q | q
      · rw [q];exact (rfl:(0:Int)=0)
      · exact h f q
theorem Rb {d:Ty.d aA} (h:SA d.1) (s:ByteArray):SA (ui d s).1.1:=by
 rcases r_ d (rr s) with e | e
 · unfold ui;rw [e];exact h
 · unfold ui;rw [e];unfold rr;cases (b8 d.1 s).isNone with
   | true=>exact h
   | false=>exact fun f hf=>h f (yq hf)
theorem Rc {d:Ty.d aA} (h:SA d.1) (a b:ByteArray):SA (uC d a b).1.1:=by
 rcases r_ d (sA a b) with e | e
 · unfold uC;rw [e];exact h
 · unfold uC;rw [e];unfold sA;cases !ib b with
   | true=>exact h
   | false =>
    simp only [aH];cases c:b8 d.1 a with
    | none=>exact h
    | some f =>
     simp only [];cases seq a b with
     | true=>exact h
     | false =>
      intro x hx;rcases Do hx with q | q
      · rw [q];exact h f (lS c).1
      · exact h x (yq (yq q))
theorem Mj {d:Ty.d aA} {s:ByteArray} (h:SX s d.1) (t:ByteArray):SX s (h_ d s t).1.1:=by
 rcases r_ d (rl s t) with e | e
 · unfold h_;rw [e];exact h
 · unfold h_;rw [e];unfold rl;cases (b8 d.1 s).isNone with
   | true=>exact h
   | false =>
    simp only [aH];cases decide ((t.size:Int) > aU (d.2.1-(bv d.1:Int))) with
    | true=>exact h
    | false =>
     intro x hx;rcases rD hx with q | ⟨g,q1,q2⟩
     · exact h x q
     · refine .inl ?_;rw [q2];exact (lS q1).2
theorem Ni {d:Ty.d aA} (hd:DR d) {s:ByteArray} (h:SX s d.1) (hc:(cQ d s).2=0):SA (cQ d s).1.1:=by
 unfold cQ fA at hc ⊢;cases c:(jC d).2 != 0 with
 | true =>rw [c,ae] at hc;rw [hc] at c;cases c
 | false =>
  rw [c,aH] at hc;simp only [aH] at hc ⊢;unfold qV at hc ⊢;cases c2:b8 d.1 s with
  | none=>rw [c2] at hc;cases hc
  | some f =>
   rw [c2] at hc;show SA (iT _ d.1 s);intro x hx;rcases rD hx with q | ⟨g,q1,q2⟩
   · rcases h x q with w | w
     · have hg:=v_ hd.keys q;rw [w] at hg;have e:∀ (l:ao),(∀ y ∈ l,y.1=s→y=x)→x.1=s→x ∈ iT (fun f=>(f.1,(f.2.1,((f.2.1.size:Int),f.2.2.2)))) l s→(je l).Pairwise (fun a b=>nS a b=true)→SF x:=by
        intro l
        induction l with
        | nil=>intro _ _ hm;cases hm
        | cons y l ih =>
         intro hy hxs hm hk;unfold iT at hm;cases c3:seq y.1 s with
         | true =>
          rw [c3,ae] at hm;have ey:=hy y iF (cF.1 c3);rcases List.mem_cons.1 hm with q | q
          · rw [q];exact rfl
          · exfalso;unfold je at hk;rw [List.map_cons,List.pairwise_cons] at hk;have:=hk.1 x.1 (List.mem_map_of_mem q);rw [ey,ly] at this;cases this
         | false =>
          rw [c3,aH] at hm;rcases List.mem_cons.1 hm with q | q
          · exfalso;rw [← q] at c3;rw [hxs,bB] at c3;cases c3
          · unfold je at hk;rw [List.map_cons,List.pairwise_cons] at hk;exact ih (fun z hz=>hy z (jF _ hz)) hxs q hk.2
       exact e d.1 (fun y hy hys=>by
        have:=v_ hd.keys hy;rw [hys,hg] at this;exact (Option.some.inj this).symm) w hx hd.keys
     · exact w
   · rw [q2];exact rfl
open Go.V Go.Lib
def ja (a:UInt8):ByteArray:=⟨#[a]⟩
def ri (a:UInt8) (s:ByteArray):Nat→Nat→Nat→List ByteArray
 | 0,f,i=>[s.extract f s.size]
 | m+1,f,i=>bif s.data.toList.getD i 0==a then s.extract f i::ri a s m (i+1) (i+1) else ri a s m f (i+1)
theorem xP:∀ {l:List UInt8} {i:Nat},i<l.length→l.drop i=l.getD i 0::l.drop (i+1)
 | x::l,0,_=>rfl
 | x::l,i+1,h=>by have:=xP (l:=l) (i:=i) (by simpa using h);simpa using this
theorem Si {l:List UInt8} {a:UInt8} {i:Nat} (h:i<l.length):occAt l [a] i=(l.getD i 0==a):=by unfold occAt;rw [xP h];simp only [List.isPrefixOf,Bool.and_true];exact Bool.beq_comm
theorem kw (s:ByteArray) (f:Nat):(s.extract f s.size).data.toList=s.data.toList.drop f:=by rw [extract_data,List.take_of_length_le (by rw [List.length_drop,size_eq];exact Nat.le_refl _)]
theorem xZ {a:UInt8} {s:ByteArray}:∀ (m f i:Nat),i+m=s.size→f≤i→NoOcc (s.data.toList.drop f) [a] (i-f) →
 splitB (ja a) 0 (countB (s.extract f s.size) (ja a)) (s.extract f s.size)=ri a s m f i
 | 0,f,i,hi,hf,hn=>by
  have hl:(s.extract f s.size).data.toList.length=s.size-f:=by rw [kw,List.length_drop,← size_eq]
  have e:indexB (s.extract f s.size) (ja a) = -1:=by
   refine index_past (i:=i-f) (List.cons_ne_nil _ _) ?_ ?_
   · rw [kw];exact hn
   · rw [hl];show s.size-f<i-f+1;omega
  rw [splitB_miss _ _ _ _ e];rfl
 | m+1,f,i,hi,hf,hn=>by
  have hl:s.data.toList.length=s.size:=(size_eq s).symm;have hlt:i-f<(s.data.toList.drop f).length:=by rw [List.length_drop,hl];omega
  have hg:(s.data.toList.drop f).getD (i-f) 0=s.data.toList.getD i 0:=by simp only [List.getD,List.getElem?_drop,Nat.add_sub_cancel' hf]
  unfold ri;cases c:s.data.toList.getD i 0==a with
  | false =>
   exact xZ m f (i+1) (by omega) (by omega) (by
    rw [show i+1-f=(i-f)+1 by omega];exact hn.succ (by rw [Si hlt,hg];exact c))
  | true =>
   have e:indexB (s.extract f s.size) (ja a)=((i-f:Nat):Int):=by
    refine index_hit (i:=i-f) ?_ ?_ ?_
    · rw [kw];exact hn
    · rw [kw];omega
    · rw [kw];show occAt _ [a] _=true;rw [Si hlt,hg];exact c
   have x1:(s.extract f s.size).extract (i-f+(ja a).size) (s.extract f s.size).size=s.extract (i+1) s.size:=by
    refine ByteArray.ext (Array.ext' ?_);rw [extract_data,kw,kw,List.drop_drop,List.take_of_length_le]
    · show List.drop (f+(i-f+1)) _=_;rw [show f+(i-f+1)=i+1 by omega]
    · have z:(s.extract f s.size).size=s.size-f:=by rw [size_eq,kw,List.length_drop,← size_eq]
      rw [z,List.length_drop,hl];show s.size-(f+(i-f+1))≤s.size-f-(i-f+1);omega
   have x2:(s.extract f s.size).extract 0 (i-f+0)=s.extract f i:=by refine ByteArray.ext (Array.ext' ?_);rw [extract_data,kw,extract_data];simp only [Nat.add_zero,Nat.sub_zero,List.drop_zero]
   rw [countB_hit _ (ja a) _ (Nat.le_refl 1) e,Nat.add_comm 1,splitB_hit _ _ _ _ _ e,x1,x2,ae];rw [xZ m (i+1) (i+1) (by omega) (Nat.le_refl _) (by rw [Nat.sub_self];exact NoOcc.zero _ _)]
theorem ML (a:UInt8) (s:ByteArray):splitB (ja a) 0 (countB s (ja a)) s=ri a s s.size 0 0:=by have e:s.extract 0 s.size=s:=ByteArray.ext (Array.ext' (by rw [kw];rfl));have:=xZ (a:=a) (s:=s) s.size 0 0 (by omega) (Nat.le_refl _) (NoOcc.zero _ _);rw [e] at this;exact this
theorem KU (a:UInt8) (s:ByteArray):∀ m f i,ri a s m f i≠[]
 | 0,_,_=>by unfold ri;simp
 | m+1,f,i=>by
  unfold ri;cases s.data.toList.getD i 0==a
  · exact KU a s m f (i+1)
  · simp
theorem AU (a:UInt8) (s:ByteArray):∀ m f i,(ri a s m f i).length≤m+1
 | 0,_,_=>by unfold ri;simp
 | m+1,f,i=>by
  unfold ri;cases s.data.toList.getD i 0==a
  · exact Nat.le_trans (AU a s m f (i+1)) (by omega)
  · rw [ae,kM];have:=AU a s m (i+1) (i+1);omega
open Go.V Go.Lib
def bC (a:UInt8) (s:ByteArray):List ByteArray:=ri a s s.size 0 0
def yY (a:UInt8):List UInt8→List UInt8→List (List UInt8)
 | cur,[]=>[cur]
 | cur,c::l=>bif c==a then cur::yY a [] l else yY a (cur++[c]) l
theorem Ph (s:ByteArray) (f i:Nat):(s.extract f i).data.toList=(s.data.toList.take i).drop f:=by rw [extract_data,List.drop_take]
theorem Dk {a:UInt8} {s:ByteArray}:∀ (m f i:Nat),i+m=s.size→f≤i→(ri a s m f i).map (·.data.toList)=yY a ((s.data.toList.take i).drop f) (s.data.toList.drop i)
 | 0,f,i,hi,hf=>by have hl:s.data.toList.length=s.size:=(size_eq s).symm;unfold ri;rw [List.map_singleton,kw,List.drop_of_length_le (l:=s.data.toList) (i:=i) (by omega),List.take_of_length_le (by omega)];rfl
 | m+1,f,i,hi,hf=>by
  have hl:s.data.toList.length=s.size:=(size_eq s).symm;have hd:=xP (l:=s.data.toList) (i:=i) (by omega);unfold ri;rw [hd];unfold yY;cases c:s.data.toList.getD i 0==a with
  | true =>rw [ae,ae,List.map_cons,Ph,Dk m (i+1) (i+1) (by omega) (Nat.le_refl _)];rw [List.drop_of_length_le (l:=s.data.toList.take (i+1)) (i:=i+1) (by rw [List.length_take];omega)]
  | false =>
   rw [aH,aH,Dk m f (i+1) (by omega) (by omega)];have ht:s.data.toList.take (i+1)=s.data.toList.take i++[s.data.toList.getD i 0]:=by
    have hg:s.data.toList.getD i 0=s.data.toList[i]'(by omega):=by rw [List.getD,List.getElem?_eq_getElem (by omega)];rfl
    rw [hg,List.take_succ_eq_append_getElem (by omega)]
   rw [ht,List.drop_append_of_le_length (by rw [List.length_take];omega)]
theorem s6 (a:UInt8) (s:ByteArray):(bC a s).map (·.data.toList)=yY a [] s.data.toList:=Dk s.size 0 0 (by omega) (Nat.le_refl _)
theorem zS:∀ {x y:List ByteArray},x.map (·.data.toList)=y.map (·.data.toList)→x=y
 | [],[],_=>rfl
 | [],_::_,h=>by cases h
 | _::_,[],h=>by cases h
 | a::x,b::y,h=>by simp only [List.map_cons,List.cons.injEq] at h;rw [ByteArray.ext (Array.ext' h.1),zS h.2]
theorem Hc {a:UInt8}:∀ {l cur:List UInt8},(∀ b ∈ l,(b==a)=false)→yY a cur l=[cur++l]
 | [],cur,_=>by unfold yY;rw [List.append_nil]
 | c::l,cur,h=>by unfold yY;rw [h c iF,aH,Hc fun b hb=>h b (jF _ hb),qY];rfl
theorem Kt {a:UInt8} {r:List UInt8}:∀ {l cur:List UInt8},(∀ b ∈ l,(b==a)=false)→yY a cur (l++a::r)=(cur++l)::yY a [] r
 | [],cur,_=>by
  rw [List.nil_append,List.append_nil]
  conv=>lhs;unfold yY
  rw [beq_self_eq_true,ae]
 | c::l,cur,h=>by
  rw [List.cons_append]
  conv=>lhs;unfold yY
  rw [h c iF,aH,Kt fun b hb=>h b (jF _ hb),qY];rfl
def gG (a:UInt8) (s:ByteArray):Prop:=∀ b ∈ s.data.toList,(b==a)=false
theorem BB (x y:ByteArray):(x++y).data.toList=x.data.toList++y.data.toList:=by rw [ByteArray.data_append,Array.toList_append]
theorem sF {a:UInt8} {s:ByteArray} (h:gG a s):bC a s=[s]:=zS (by rw [s6,Hc h];rfl)
theorem oX {a:UInt8} {x y:ByteArray} (h:gG a x):bC a (x++(ja a++y))=x::bC a y:=zS (by
 rw [s6,BB,BB,List.map_cons,s6];exact Kt (cur:=[]) h)
theorem Dv (a:UInt8) (s:ByteArray):splitB (ja a) 0 (countB s (ja a)) s=bC a s:=ML a s
theorem CP (a:UInt8) (s:ByteArray):bC a s≠[]:=KU a s s.size 0 0
theorem Av (a:UInt8) (s:ByteArray):(bC a s).length≤s.size+1:=AU a s s.size 0 0
theorem Td {s:ByteArray} (h:decide (1≤(s.size:Int)∧(s.size:Int)≤8)=true):s.size≤8:=by have:=of_decide_eq_true h;omega
theorem Sf {s:ByteArray} (h:decide ((s.size:Int)≤24)=true):s.size≤24:=by have:=of_decide_eq_true h;omega
theorem sR {s:ByteArray} (h:seq s ⟨#[]⟩=true):s.size≤0:=by rw [cF.1 h];exact Nat.le_refl _
theorem Gw {r:Ty.d bQ} (h:bN r=true):r.2.2.1.size≤8∧r.2.2.2.1.size≤24:=by
 unfold bN at h;cases c1:r.1==1||r.1==4 with
 | true =>rw [c1,ae] at h;simp only [gY] at h;exact ⟨Td h.1,Sf h.2.1⟩
 | false =>
  rw [c1,aH] at h;cases c2:r.1==2 with
  | true =>rw [c2,ae] at h;simp only [gY] at h;exact ⟨Td h.1,Nat.le_trans (sR h.2.1) (by decide)⟩
  | false =>
   rw [c2,aH] at h;cases c3:r.1==3 with
   | true =>rw [c3,ae] at h;simp only [gY] at h;exact ⟨Nat.le_trans (sR h.1) (by decide),Nat.le_trans (sR h.2.1) (by decide)⟩
   | false =>
    rw [c3,aH] at h;cases c5:r.1==5 with
    | true =>rw [c5,ae] at h;simp only [gY] at h;exact ⟨Nat.le_trans (sR h.1) (by decide),Nat.le_trans (sR h.2.1) (by decide)⟩
    | false=>rw [c5] at h;cases h
theorem xu (s:ByteArray) (h:(gq s).2=true):bN (gq s).1=true:=by
 rcases j6 (fun r=>bN r=true) aE uh s with ⟨r,h1,_,h3⟩ | q
 · unfold gq;rw [h3];exact h1
 · unfold gq at h;rw [q] at h;cases h
theorem FZ (s:ByteArray):∀ (n:Nat) (a:Int),∀ x ∈ (fU s n a).1,x.2.2.1.2.2.1.size≤8
 | 0,a=>fun x hx=>by unfold fU at hx;cases hx
 | n+1,a=>fun x hx=>by
  unfold fU at hx;split at hx
  · cases hx
  · split at hx
    · cases hx
    · rename_i _ c;rcases List.mem_cons.1 hx with e | e
      · rw [e];exact (Gw (xu _ (by simpa using c))).1
      · exact FZ s n _ x e
def KB (l:aO):Prop:=∀ x ∈ l,x.1.size≤8
def ub (l:aT):Prop:=∀ p ∈ l,p.2.2.2.1.2.2.1.size≤8
theorem ov:KB []:=fun x h=>by cases h
theorem KM {l:aO} (h:KB l) (s:ByteArray):KB (lH l s):=fun x hx=>h x (List.mem_filter.1 hx).1
theorem Rj {l:aO} (h:KB l) {e:Ty.d aB} (he:e.1.size≤8):KB (pb l e):=fun x hx=>by
 have hd:=KM h e.1;unfold pb uG at hx;rcases List.mem_append.1 hx with q | q
 · exact hd x ((List.takeWhile_sublist _).subset q)
 · rcases List.mem_cons.1 q with q | q
   · rw [q];exact he
   · exact hd x ((List.dropWhile_sublist _).subset q)
theorem PC {d:aO} (h:KB d) {p:Ty.d aI} (hp:p.2.2.2.1.2.2.1.size≤8):KB (f8 d p):=by
 unfold f8;cases p.2.2.2.1.1==2
 · exact Rj h hp
 · exact KM h _
theorem wl:∀ {own:aT} {d:aO},KB d→ub own→KB (bq d own)
 | [],d,h,_=>h
 | p::own,d,h,ho=>by
  show KB (bq (f8 d p) own);exact wl (PC h (ho p iF)) fun x hx=>ho x (jF _ hx)
theorem D_ {l:aT} (h:ub l) {p:Ty.d aI} (hp:p.2.2.2.1.2.2.1.size≤8):ub (l++[p]):=fun x hx=>by
 rcases List.mem_append.1 hx with q | q
 · exact h x q
 · rw [List.mem_singleton.1 q];exact hp
theorem tF:ub []:=fun x h=>by cases h
theorem D7 (b:Int):∀ (l acc:aT),ub acc→ub l→ub (l.foldl (eS b) acc)
 | [],acc,h,_=>h
 | p::l,acc,h,hl=>by
  refine D7 b l _ ?_ fun x hx=>hl x (jF _ hx)
  have hp:=hl p iF;unfold eS;cases p.2.2.2.1.2.1==b with
  | false=>exact h
  | true =>
   cases p.2.2.2.1.1==3 with
   | true=>exact tF
   | false =>
    cases p.2.2.2.1.1==1||p.2.2.2.1.1==2 with
    | true=>exact D_ h hp
    | false=>exact h
theorem DU:∀ (l acc:aT),ub acc→ub l→ub (l.foldl fv acc)
 | [],acc,h,_=>h
 | p::l,acc,h,hl=>by
  refine DU l _ ?_ fun x hx=>hl x (jF _ hx)
  have hp:=hl p iF;unfold fv;cases p.2.2.2.1.1==5 with
  | true=>exact tF
  | false =>
   cases p.2.2.2.1.1==4 with
   | true=>exact D_ h hp
   | false=>exact h
theorem C3 {l:aT} (h:ub l) (n:Nat):ub (l.take n):=fun x hx=>h x (List.mem_of_mem_take hx)
theorem ow {all:aT} (ha:ub all):∀ (r:aT) (i:Nat) (d:aO) (la c:Int),KB d→KB (iL all r i d la c).1
 | [],i,d,la,c,h=>by unfold iL;cases c==0&&decide ((bU all).length > 0) <;> exact h
 | p::r,i,d,la,c,h=>by
  have s1:KB (bq d (eH p.2.2.2.1.2.1 (all.take i))):=wl h (D7 _ _ _ tF (C3 ha i));have s2:KB (bq d (bU (all.take i))):=wl h (DU _ _ tF (C3 ha i));unfold iL;cases c != 0 with
  | true=>exact h
  | false =>
   simp only [aH];cases p.2.2.2.1.1==3 with
   | true =>
    simp only [ae];cases im p.2.2.2.1 (eH p.2.2.2.1.2.1 (all.take i)) with
    | true=>exact ow ha r _ _ _ _ s1
    | false=>exact ow ha r _ _ _ _ h
   | false =>
    simp only [aH];cases p.2.2.2.1.1==5 with
    | true =>
     simp only [ae];cases im p.2.2.2.1 (bU (all.take i)) with
     | true=>exact ow ha r _ _ _ _ s2
     | false=>exact ow ha r _ _ _ _ h
    | false=>exact ow ha r _ _ _ _ h
theorem P7 (d:Ty.d aA) (x:Int):ub (mN d x):=fun p hp=>by unfold mN bP at hp;obtain ⟨q,hq,rfl⟩:=List.mem_map.1 hp;exact FZ _ _ _ q hq
theorem Af (d:Ty.d aA):∀ l,ub (kJ d l)
 | []=>tF
 | x::l=>fun p hp=>by
  unfold kJ at hp;rcases List.mem_append.1 hp with q | q
  · exact P7 d x p q
  · exact Af d l p q
theorem Re {l:aO} (h:rp l=true):KB l:=fun x hx=>by unfold rp at h;rw [gY] at h;obtain ⟨p,hp⟩:=vt h.2 hx;unfold uR at hp;rw [gY] at hp;exact Td hp.1
theorem Ll (d:Ty.d aA) (ids:List Int):KB (iA d ids).1:=by
 unfold iA;cases c:lw d (ids.getD 0 0) with
 | false=>exact ow (Af d ids) _ _ _ _ _ ov
 | true =>
  refine ow (Af d _) _ _ _ _ _ ?_;unfold lw at c;simp only [gY] at c;have h1:=c.2.1;unfold dP;generalize (aW d (a_ bG (ids.getD 0 0))).1=s at h1 ⊢;rcases j6 (fun h=>lZ h=true) eN oz s with ⟨r,g1,_,g3⟩ | q
  · unfold jM;rw [g3];unfold lZ at g1;simp only [gY] at g1;exact Re g1.2.2.1
  · unfold jM at h1;rw [q] at h1;cases h1
theorem QB (d:Ty.d aA):KB (cZ d).1.2.1:=by
 unfold cZ;cases fZ d with
 | false=>exact ov
 | true =>
  cases d.2.2.2.1 with
  | true=>exact ov
  | false =>
   cases (aW d c_).2 with
   | false =>show KB (mB d).1.2.1;unfold mB;cases (hO d).2==0 <;> exact ov
   | true =>
    simp only [g9,aH];cases (dW (aW d c_).1).2 with
    | false=>exact ov
    | true =>
     simp only [g9,aH];generalize (dW (aW d c_).1).1=v;unfold pr;cases gp d v.2.1 with
     | false=>exact ov
     | true =>
      simp only [g9,aH];cases (eT (aQ v.2.1) d).2 != 0 with
      | true=>exact ov
      | false =>
       simp only [aH];have hg:=Ll (eT (aQ v.2.1) d).1 v.2.1;generalize iA (eT (aQ v.2.1) d).1 v.2.1=g at hg ⊢;unfold yN;cases g.2.2.1 != 0 with
       | true=>exact ov
       | false =>
        simp only [aH];cases (fw v.2.1 (eT (aQ v.2.1) d).1).2 != 0 with
        | true=>exact ov
        | false=>exact hg
theorem H4 {l:dX} (h:bw l=true) {p:Ty.d bF} (hp:p ∈ l):p.1.size≤8∧p.2.2.1.size≤24:=by unfold bw at h;rw [gY] at h;obtain ⟨q,hq⟩:=vt h.1 hp;unfold k_ at hq;simp only [gY] at hq;exact ⟨Td hq.1,Sf hq.2.1⟩
theorem MF {st:Ty.d aC} (h:KB st.2.1) (d:Ty.d aA) (l:dX):KB (bm st d l).1.2.1:=by
 unfold bm;cases c1:bo st d with
 | false=>exact h
 | true =>
  cases c2:bw l with
  | false=>exact h
  | true =>
   simp only [g9,aH];cases (l.length:Int)==0 with
   | true=>exact h
   | false =>
    simp only [aH];cases decide (jL st.2.1 l > 20) with
    | true=>exact h
    | false =>
     simp only [aH];cases decide (st.2.2.1 > 1000000) with
     | true=>exact h
     | false =>
      simp only [aH];obtain ⟨g1,_,_⟩:=bn c1;have g1':SR (iV st) (d,0) 100000:=⟨g1.live,g1.disk,g1.lo,g1.hi⟩;obtain ⟨_,a2,a3⟩:=nC (bf l st.2.2.1) (iV st) d [] 100000 g1' (by decide);unfold bS;generalize bR (bf l st.2.2.1) (iV st) d []=q at a2 a3 ⊢;have hq:KB q.1.1.2.1:=by rw [a2];exact h
      unfold rH;cases c:q.1.2.2 != 0 with
      | true=>exact hq
      | false =>
       simp only [aH];cases (cQ q.1.2.1 (au q.1.1)).2 != 0 with
       | true=>exact hq
       | false =>
        have a3:=a3 (dY c);refine wl hq fun p hp=>?_
        have hm:fb p ∈ (q.2.map fb).take l.length:=by rw [← List.map_take];exact List.mem_map_of_mem hp
        rw [a3] at hm;unfold bf at hm;simp only [List.map_nil,List.nil_append] at hm;rw [List.take_append_of_le_length (by rw [List.length_map];exact Nat.le_refl _)] at hm;obtain ⟨x,hx,e⟩:=List.mem_map.1 (List.mem_of_mem_take hm);have hx:=(H4 c2 hx).1;show (fb p).2.2.1.size≤8;rw [← e];unfold g7;cases x.2.1 <;> exact hx
theorem Fu {l:aO} {d:Ty.d aA}:∀ (r:List ByteArray) (acc:fL),(∀ x ∈ r,x.size≤8)→(∀ p ∈ acc,p.1.size≤8)→∀ p ∈ (nn l d r acc).1,p.1.size≤8
 | [],acc,_,h=>h
 | key::r,acc,hr,h=>by
  unfold nn;cases c:(kT l d key).2 != 0 with
  | true=>exact fun p hp=>by cases hp
  | false =>
   refine Fu r _ (fun x hx=>hr x (jF _ hx)) fun p hp=>?_
   rcases List.mem_append.1 hp with q | q
   · exact h p q
   · rw [List.mem_singleton.1 q];have c:=dY c;unfold kT at c ⊢;cases e:uI l key with
     | none=>rw [e] at c;cases c
     | some x =>
      rw [e] at c;simp only [] at c ⊢;cases z:(d6 d x).2&&(seq (d6 d x).1.2.2.1 key&&(((d6 d x).1.1==1)||((d6 d x).1.1==4))) with
      | false=>rw [z] at c;cases c
      | true=>exact hr key iF
theorem Ks (m:Int):∀ (l:fL) (a:Int),(∀ p ∈ l,p.1.size≤8)→KB (gy m l a)
 | [],a,_=>ov
 | p::l,a,h=>fun x hx=>by
  unfold gy at hx;rcases List.mem_cons.1 hx with e | e
  · rw [e];exact h p iF
  · exact Ks m l _ (fun p hp=>h p (jF _ hp)) x e
theorem Oo {st:Ty.d aC} (h:KB st.2.1) (d:Ty.d aA):KB (bI st d).1.2.1:=by
 unfold bI;cases bo st d with
 | false=>exact h
 | true =>
  simp only [g9,aH];cases decide (st.1.1+2 > (100000:Int)) with
  | true=>exact h
  | false =>
   simp only [aH];cases (bH st.2.1 d).2 != 0 with
   | true=>exact h
   | false =>
    simp only [aH];have hd:∀ p ∈ (bH st.2.1 d).1,p.1.size≤8:=Fu _ _ (fun x hx=>by
     obtain ⟨y,hy,rfl⟩:=List.mem_map.1 hx;exact h y hy) (fun p hp=>by cases hp)
    generalize (bH st.2.1 d).1=l at hd ⊢;generalize qZ st.1.1=hb;unfold bT;cases (cR st.1.1 l (st.2.2.1-1) d).2 != 0 with
    | true=>exact h
    | false =>
     simp only [aH];generalize ak (a_ aD (st.1.1+1)) (cR st.1.1 l (st.2.2.1-1) d).1=a;cases a.2 != 0 with
     | true=>exact h
     | false =>
      simp only [aH];generalize fy hb st.1.1 a.1=b;cases b.2 != 0 with
      | true=>exact h
      | false =>
       simp only [aH];cases (an (ez st.1.1) b.1).2 != 0 with
       | true=>exact h
       | false=>exact Ks _ _ _ hd
def WB (t:Ty.d bO):Prop:=∀ p ∈ t.2.2.1,p.2.2.1.size≤24
def KE (e:Ty.d aP):Prop:=KB e.2.1.2.1∧∀ t ∈ e.2.2.2.1,WB t
def MY (a:Ty.d f9):Prop:=a.2.1.size≤24∧∀ x ∈ a.2.2.1,x.size≤8
theorem jB (c:Int):MY (eX c):=⟨Nat.zero_le _,fun x h=>by cases h⟩
theorem FK:WB rk:=fun p h=>by cases h
theorem N9:∀ t ∈ List.replicate 3 (Ty.z bO),WB t:=fun t ht=>by
 rw [List.eq_of_mem_replicate ht];exact fun p h=>by cases h
theorem FE {e:Ty.d aP} (h:KE e) (i:Int):WB (dS e i):=by
 unfold dS;by_cases c:i.toNat<e.2.2.2.1.length
 · exact h.2 _ (eE c)
 · have:e.2.2.2.1.getD i.toNat (Ty.z bO)=Ty.z bO:=by simp [List.getD,c]
   rw [this];exact fun p h=>by cases h
theorem OU {l:List (Ty.d bO)} (h:∀ t ∈ l,WB t) (i:Nat) {t:Ty.d bO} (ht:WB t):∀ x ∈ l.set i t,WB x:=fun x hx=>by
 rcases List.mem_or_eq_of_mem_set hx with q | q
 · exact h x q
 · rw [q];exact ht
theorem zW {e:Ty.d aP} (h:KE e) (i:Int) {t:Ty.d bO} (ht:WB t):KE (uE e i t):=⟨h.1,OU h.2 _ ht⟩
theorem Nx {t:Ty.d bO} (h:WB t) (key:ByteArray) (b:Int):WB (jH t key b).1:=by
 unfold jH;cases !t.1 with
 | true=>exact h
 | false =>
  cases !fg key with
  | true=>exact h
  | false =>
   simp only [aH];cases mI t.2.1 key with
   | some b'=>exact h
   | none =>simp only [];cases decide ((t.2.1.length:Int)≥20) <;> exact h
theorem LC {t:Ty.d bO} (h:WB t) (p:Ty.d bF):WB (gZ t p).1:=by
 unfold gZ;cases !t.1 with
 | true=>exact h
 | false =>
  cases c:bw [p] with
  | false=>exact h
  | true =>
   simp only [g9,aH];cases decide (((jd (t.2.2.1++[p])).length:Int) > 8) with
   | true=>exact h
   | false =>
    simp only [aH];cases decide (((t.2.2.1++[p]).length:Int) > 50) with
    | true=>exact h
    | false =>
     intro q hq;rcases List.mem_append.1 (show q ∈ t.2.2.1++[p] from hq) with z | z
     · exact h q z
     · rw [List.mem_singleton.1 z];exact (H4 c iF).2
theorem HY {key:ByteArray} {p:Ty.d bF}:∀ {l:dX},lr l key=some p→p ∈ l
 | [],h=>by cases h
 | q::l,h=>by
  unfold lr at h;cases c:lr l key with
  | some x =>rw [c] at h;cases h;exact jF _ (HY c)
  | none =>
   rw [c] at h;simp only [] at h;cases z:seq q.1 key with
   | false=>rw [z] at h;cases h
   | true =>rw [z] at h;cases h;exact iF
theorem NP (s:ByteArray) (i n:Int) (h:(iE s i n).2=true):bN (iE s i n).1=true:=by
 unfold iE at h ⊢;split at h
 · rename_i c;rw [if_pos c];split at h
   · rename_i c';rw [if_pos c'];exact xu _ h
   · cases h
 · cases h
theorem Mc (l:aO) (d:Ty.d aA) (key:ByteArray):(kT l d key).1.2.1.size≤24:=by
 unfold kT;cases uI l key with
 | none=>exact Nat.zero_le _
 | some x =>
  simp only [];cases z:(d6 d x).2&&(seq (d6 d x).1.2.2.1 key&&(((d6 d x).1.1==1)||((d6 d x).1.1==4))) with
  | false=>exact Nat.zero_le _
  | true =>rw [gY] at z;unfold d6 at z ⊢;exact (Gw (NP _ _ _ z.1)).2
theorem Pj {e:Ty.d aP} (h:KE e) (s:Ty.d d5):KE (tG e s).1∧MY (tG e s).2:=by
 unfold tG;cases !fg s.2.2.1 with
 | true=>exact ⟨h,jB _⟩
 | false =>
  rw [aH];cases c:lr (dS e s.2.1).2.2.1 s.2.2.1 with
  | some p =>
   show KE (bif p.2.1 then (e,eX 8) else (e,(0,(p.2.2.1,([],())))):uB).1∧MY (bif p.2.1 then (e,eX 8) else (e,(0,(p.2.2.1,([],())))):uB).2;cases p.2.1 with
   | true=>exact ⟨h,jB _⟩
   | false=>exact ⟨h,FE h _ p (HY c),fun x hx=>by cases hx⟩
  | none =>
   show KE (vo e s (dS e s.2.1) (kT e.2.1.2.1 e.2.2.1 s.2.2.1)).1∧MY (vo e s (dS e s.2.1) (kT e.2.1.2.1 e.2.2.1 s.2.2.1)).2;have hv:=Mc e.2.1.2.1 e.2.2.1 s.2.2.1;unfold vo;cases (kT e.2.1.2.1 e.2.2.1 s.2.2.1).2==3 with
   | true=>exact ⟨h,jB _⟩
   | false =>
    rw [aH];cases (jH (dS e s.2.1) s.2.2.1 (kT e.2.1.2.1 e.2.2.1 s.2.2.1).1.2.2.1).2 != 0 with
    | true=>exact ⟨h,jB _⟩
    | false=>exact ⟨zW h _ (Nx (FE h _) _ _),hv,fun x hx=>by cases hx⟩
theorem QO {e:Ty.d aP} (h:KE e) (s:Ty.d d5):KE (nM e s).1∧MY (nM e s).2:=by
 unfold nM;cases s.1==1 with
 | true=>exact ⟨zW h _ (fun p h=>by cases h),jB _⟩
 | false =>
  cases s.1==6 with
  | true=>exact ⟨zW h _ FK,jB _⟩
  | false =>
   cases s.1==2 with
   | true=>exact Pj h s
   | false =>
    cases s.1==5 with
    | true =>
     show KE (iQ e s).1∧MY (iQ e s).2;unfold iQ;cases !l9 (dS e s.2.1).2.1 e.2.1.2.1 with
     | true=>exact ⟨zW h s.2.1 FK,jB _⟩
     | false=>exact ⟨⟨MF h.1 _ _,OU h.2 _ FK⟩,jB _⟩
    | false =>
     show KE (sf e s).1∧MY (sf e s).2;unfold sf;cases !bw [nO s] with
     | true=>exact ⟨h,jB _⟩
     | false =>
      rw [aH];cases !(gZ (dS e s.2.1) (nO s)).2 with
      | true=>exact ⟨h,jB _⟩
      | false=>exact ⟨zW h _ (LC (FE h _) _),jB _⟩
theorem KR (d:Ty.d aA):KE (jE (cZ d)):=⟨QB d,N9⟩
theorem S0 {e:Ty.d aP} (h:KE e) (s:Ty.d d5):KE (dA e s).1∧MY (dA e s).2:=by
 unfold dA;cases s.1==10 with
 | true =>
  cases e.1 with
  | true=>exact ⟨h,jB _⟩
  | false=>exact ⟨KR _,jB _⟩
 | false =>
  cases s.1==11 with
  | true =>show KE (AR e s).1∧MY (AR e s).2;unfold AR;cases !decide (0≤s.2.2.2.2.1∧s.2.2.2.2.1≤100000-(bv e.2.2.1.1:Int)) <;> exact ⟨h,jB _⟩
  | false =>
   cases !e.1 with
   | true=>exact ⟨h,jB _⟩
   | false =>
    cases s.1==7 with
    | true=>exact ⟨⟨Oo h.1 _,h.2⟩,jB _⟩
    | false =>
     cases s.1==8 with
     | true =>refine ⟨h,Nat.zero_le _,fun x hx=>?_⟩;obtain ⟨y,hy,rfl⟩:=List.mem_map.1 hx;exact h.1 y hy
     | false =>
      cases s.1==9 with
      | true=>exact ⟨⟨ov,N9⟩,jB _⟩
      | false =>
       cases !qp e s with
       | true=>exact ⟨h,jB _⟩
       | false=>exact QO h s
theorem zr {l:List (Ty.d bO)} {i:Nat} (h:i<l.length):l.set i (l.getD i (Ty.z bO))=l:=by
 have e:l.getD i (Ty.z bO)=l[i]:=by simp [List.getD,h]
 rw [e,List.set_getElem_self]
theorem CK {e:Ty.d aP} {i:Int} (h0:LE.le (α:=Int) 0 i) (h1:LT.lt (α:=Int) i (e.2.2.2.1.length:Int)):uE e i (dS e i)=e:=by unfold uE dS;rw [zr (by omega)]
theorem M2 {t:Ty.d bO} {key:ByteArray} {b:Int} (h:((jH t key b).2 != 0)=true):(jH t key b).1=t:=by
 unfold jH at h ⊢;cases c1:!t.1 with
 | true=>rfl
 | false =>
  cases c2:!fg key with
  | true=>rfl
  | false =>
   rw [c1,c2] at h;simp only [aH] at h ⊢;cases c:mI t.2.1 key with
   | some b'=>rfl
   | none =>
    rw [c] at h;simp only [] at h ⊢;cases d:decide ((t.2.1.length:Int)≥20) with
    | true=>rfl
    | false=>rw [d] at h;cases h
theorem Hn {t:Ty.d bO} {p:Ty.d bF} (h:(gZ t p).2=false):(gZ t p).1=t:=by
 unfold gZ at h ⊢;cases c1:!t.1 with
 | true=>rfl
 | false =>
  cases c2:!bw [p] with
  | true=>rfl
  | false =>
   cases c3:decide (((jd (t.2.2.1++[p])).length:Int) > 8) with
   | true=>rfl
   | false =>
    cases c4:decide (((t.2.2.1++[p]).length:Int) > 50) with
    | true=>rfl
    | false=>rw [c1,c2,c3,c4] at h;cases h
theorem Fc {F:Prop × Prop} {k:Nat} (hk:2 ^ 50≤k) {e:Ty.d aP} (h:EV F e) (hu:UE e) {s:Ty.d d5} (h0:LE.le (α:=Int) 0 s.2.1) (h1:LT.lt (α:=Int) s.2.1 (e.2.2.2.1.length:Int)):gR.f k e s=oE (tG e s):=by
 have ht:TV (dS e s.2.1):=Ez h.txn (Int.toNat s.2.1);have hq:UQ (dS e s.2.1):=FH hu _;have hdir:=h.dir;have hko:dU.f k s.2.2.1=some (fg s.2.2.1,()):=kO k s.2.2.1;unfold gR.f gR.t tG;rw [aY h0 h1,hko,ac];simp only [];cases fg s.2.2.1 with
 | false=>rfl
 | true =>
  simp only [g9,aH];rw [show List.getD e.2.2.2.1 (Int.toNat s.2.1) (Ty.z bO)=dS e s.2.1 from rfl];unfold oK.f oK.t;rw [J_ hk (by have:=ht.2;omega),ac];cases lr (dS e s.2.1).2.2.1 s.2.2.1 with
  | some p =>simp only [GB,g9,aH];cases hp:p.2.1 <;> rfl
  | none =>
   simp only [GB,yO,ae,ac,aH];unfold vo;rw [zv hk h.disk.sz (by omega),ac];simp only [];generalize kT e.2.1.2.1 e.2.2.1 s.2.2.1=p;cases p.2==3 with
   | true=>rfl
   | false =>
    simp only [aH];unfold my.f my.t;rw [Dn hk ht hq,ac];simp only [];cases c:(jH (dS e s.2.1) s.2.2.1 p.1.2.2.1).2 != 0 with
    | true =>simp only [ae,ac];rw [M2 c];have e1:=CK h0 h1;unfold uE at e1;exact congrArg (fun x=>some (x,_)) e1
    | false=>rfl
theorem Fy {F:Prop × Prop} {k:Nat} (hk:2 ^ 50≤k) {e:Ty.d aP} (h:EV F e) {s:Ty.d d5} (h0:LE.le (α:=Int) 0 s.2.1) (h1:LT.lt (α:=Int) s.2.1 (e.2.2.2.1.length:Int)) :
 ((kQ.f k (List.getD e.2.2.2.1 (Int.toNat s.2.1) (Ty.z bO)) s).bind fun r5=>(let l6:=(List.set e.2.2.2.1 (Int.toNat s.2.1) r5.1);(some ((e.1,(e.2.1,(e.2.2.1,(l6,())))),r5.2))):Option (Ty.d aP × Ty.d f9 × Unit))=oE (sf e s):=by
 have ht:TV (dS e s.2.1):=Ez h.txn (Int.toNat s.2.1);have e1:=CK h0 h1;unfold uE at e1;unfold kQ.f kQ.t sf;rw [show List.getD e.2.2.2.1 (Int.toNat s.2.1) (Ty.z bO)=dS e s.2.1 from rfl,show ((s.2.2.1,((s.1==4),(s.2.2.2.1,()))):Ty.d bF)=nO s from rfl,Bd hk ht,ac,uP,ac];simp only [];cases c:(gZ (dS e s.2.1) (nO s)).2 with
 | false =>
  rw [Hn c];cases bw [nO s] with
  | false=>exact congrArg (fun x=>some (x,_)) e1
  | true=>exact congrArg (fun x=>some (x,_)) e1
 | true =>
  have hp:bw [nO s]=true:=by
   unfold gZ at c;cases c1:!(dS e s.2.1).1 with
   | true=>rw [c1] at c;cases c
   | false =>
    rw [c1] at c;cases c2:bw [nO s] with
    | true=>rfl
    | false=>rw [c2] at c;cases c
  rw [hp];rfl
theorem Jj (g:Ty.d aA→RD) (q:RD):wk g (tl q)=tl (dz q g):=by
 have e:=fV q.2;unfold wk dz tl;simp only [];rw [e];cases c:q.2==0 with
 | true=>rfl
 | false=>rfl
theorem Fx (c:Int):(fj c==2)=(c==2):=by
 unfold fj;by_cases c0:c=0
 · subst c0;rfl
 by_cases c1:c=1
 · subst c1;rfl
 by_cases c2:c=2
 · subst c2;rfl
 rw [pG c0,pG c1,pG c2];rfl
def Ar (m:Int):ij→Int→aO
 | [],_=>[]
 | r::l,a=>(bif r.1==4 then [(r.2.2.1,(m,(a,(aS r,(r.2.1,())))))] else [])++Ar m l (a+aS r)
theorem xi (m:Int) (mk:Ty.d bQ) (hm:mk.1=5):∀ (l:fL) (a:Int),Ar m (l.map bz++[mk]) a=gy m l a
 | [],a=>by show (bif mk.1==4 then [_] else [])++[]=_;rw [hm];rfl
 | p::l,a=>by show [_]++Ar m (l.map bz++[mk]) (a+aS (bz p))=_;rw [xi m mk hm l];rfl
theorem BX {k:Nat} (hk:2 ^ 50≤k) {d:Ty.d aA} (hd:DR d) (m:Int) (hm0:1≤m) (hm1:m≤99999) {rs:ij} (hr:rs.length≤1000):b7.f k (wO (d,0)) m rs =
 some (wO (tl (dz (dz (Aj (a_ aD m) rs (ak (a_ aD m) d)) fun y=>cQ y (a_ aD m)) (ak (a_ aD (m+1))))),(Ar m rs 0,())):=by
 have hz:=JS m;have hz1:=JS (m+1);unfold b7.f b7.t;rw [cP,ac];simp only [];rw [qx hk (d,0) hd (by omega),ac,ny];simp only [];refine iZ (L:=fun n i (s:RD × Int × aO)=>b7.l0 k n m s.2.1 rs rs.length i s.1.1.1 s.1.1.2.1 s.1.1.2.2.1 s.1.1.2.2.2.1 (fj s.1.2) s.2.2)
  (R:=fun r s=>some (wO (tl (dz (dz (Aj (a_ aD m) r s.1) fun y=>cQ y (a_ aD m)) (ak (a_ aD (m+1))))),(s.2.2++Ar m r s.2.1,()))) (Ty.z bQ) rs (fun i s=>DR s.1.1∧0≤s.2.1∧s.2.1≤211*i∧(s.2.2.length:Int)≤i) (fun n s hs=>?_) (fun n i s x rest h0 h1 hx hr' hs ih=>?_) (n:=k) (s:=(ak (a_ aD m) d,0,[])) (by omega) ⟨j8 _ _ hd,Int.le_refl _,by show (0:Int)≤211*0;omega,by show (0:Int)≤0;omega⟩
 · obtain ⟨q,a,o⟩:=s;obtain ⟨g1,g2,g3,g4⟩:=hs;simp only [b7.l0,b7.b0];rw [aZ (by omega),aH,cP,ac];simp only [];rw [show ((q.1.1,(q.1.2.1,(q.1.2.2.1,(q.1.2.2.2.1,())))),(fj q.2,()))=wO (tl q) from rfl,o7 hk (tl q) g1,ac,Jj];simp only [];rw [cP,ac,aG (n:=m+1) (by omega) (by omega)];simp only [];rw [qx hk (tl (dz q fun y=>cQ y (a_ aD m))) (iI g1 fun x hx=>m9 hx _) (by omega),ac,Jj];show _=some (_,(o++[],()));rw [List.append_nil];rfl
 · obtain ⟨q,a,o⟩:=s;obtain ⟨g1,g2,g3,g4⟩:=hs;simp only [] at g1 g2 g3 g4 ih ⊢;have hrl:=kj x;have hln:((aM (aE x)).size:Int)=aS x:=rfl;simp only [b7.l0,b7.b0];rw [aX h1,ae,aY h0 h1,hx,oH hk,ac];simp only [];rw [o5 hk,ac];simp only [];rw [cP,ac];simp only [];rw [show ((q.1.1,(q.1.2.1,(q.1.2.2.1,(q.1.2.2.2.1,())))),(fj q.2,()))=wO (tl q) from rfl,wu hk (tl q) g1 _ (by omega),ac,Jj];simp only [];have hD:DR (dz q fun y=>h_ y (a_ aD m) (aM (aE x))).1:=iI g1 fun y hy=>oP hy _ _
   rw [hln,aG (n:=a+aS x) (by omega) (by omega),aG (n:=i+1) (by omega) (by omega),dT (by omega) (by decide)];have ihT:=ih ((dz q fun y=>h_ y (a_ aD m) (aM (aE x))),a+aS x,o++[(x.2.2.1,(m,(a,(aS x,(x.2.1,())))))]) ⟨hD,by simp only [];omega,by simp only [];omega,by simp only [];rw [fq];omega⟩;have ihF:=ih ((dz q fun y=>h_ y (a_ aD m) (aM (aE x))),a+aS x,o) ⟨hD,by simp only [];omega,by simp only [];omega,by simp only [];omega⟩;show (bif x.1==4 then _ else _)=some (wO (tl (dz (dz (Aj (a_ aD m) rest (dz q fun y=>h_ y (a_ aD m) (aM (aE x)))) fun y=>cQ y (a_ aD m)) (ak (a_ aD (m+1))))),(o++((bif x.1==4 then [(x.2.2.1,(m,(a,(aS x,(x.2.1,())))))] else [])++Ar m rest (a+aS x)),()));cases x.1==4 with
   | true =>rw [ae,ae,← qY];exact ihT
   | false =>rw [aH,aH,List.nil_append];exact ihF
theorem MR (s:ByteArray) (x:Ty.d aA):tl (bX [s] x)=tl (fG s x):=by
 show tl (dz (fG s x) (bX []))=_;unfold dz;cases c:(fG s x).2==0 with
 | true =>rw [pI c];rfl
 | false=>rfl
theorem En {k:Nat} (hk:2 ^ 50≤k) {q:RD} (hq:DR q.1) (m:Int):dQ.f k (wO (tl q)) m=some (wO (tl (dz q (fy (qZ m) m))),()):=by
 unfold dQ.f dQ.t;rw [show (wO (tl q)).2.1=(tl q).2 from rfl,kq];cases c:q.2 != 0 with
 | true =>rw [ae];unfold dz;rw [show (q.2==0)=false by unfold bne at c;simpa using c];rfl
 | false =>
  have c0:=dY c;have hu:LE.le (α:=Int) (bv q.1.1) 100000:=Int.le_trans hq.use hq.cap1;have hn:=hq.sz.n;have hl:=hq.sz.l;have hz:=kz q.1 (a_ aD m);have hb:(q.2==0)=true:=beq_iff_eq.2 c0;rw [aH,cP,ac,pI hb];simp only [];rw [show (wO (q.1,0)).1=q.1 from rfl,jR hk (by omega) (by omega) (by omega),ac];simp only [];rw [uV hk m (by omega),ac];simp only [];rw [lk,ac];have hhl:=As m (s:=(aW q.1 (a_ aD m)).1) (by omega);rw [nZ hk hhl,ac];simp only [];have hsz:=pq (g8 m (aW q.1 (a_ aD m)).1).1;have hhz:(a_ bG m).size≤1099511627776:=by
   unfold a_;by_cases h:(1:Int)≤m∧m≤100000
   · rw [aX h,ae,ByteArray.size_append];have:=m0 (n:=m) (by omega) (by omega);have:bG.size=4:=rfl;omega
   · rw [aZ h];exact Nat.zero_le _
  rw [B1 hk (q.1,0) hq hhz (by omega),ac,ny];simp only [];unfold dz fy;rw [hb,ae,show qZ m (aW q.1 (a_ aD m)).1=eN (g8 m (aW q.1 (a_ aD m)).1).1 from rfl];have hD:=jj (a_ bG m) (eN (g8 m (aW q.1 (a_ aD m)).1).1) q.1 hq;generalize jw (a_ bG m) (eN (g8 m (aW q.1 (a_ aD m)).1).1) q.1=f at hD ⊢;rw [show (wO (tl f)).2.1=fj f.2 from rfl,Fx];cases c2:f.2==2 with
  | false=>rfl
  | true =>rw [ae,ae,ac];simp only [];rw [show ((wO (tl f)).1,((0:Int),()))=wO (f.1,0) from rfl,m_ hk (f.1,0) hD,ac,ny,MR]
theorem PU (d:Ty.d aA) (s:ByteArray):(ui d s).2≠2:=by
 unfold ui fA;have hb:(jC d).2≠2:=by
  unfold jC;cases !fZ d with
  | true=>show (5:Int)≠2;decide
  | false =>
   cases d.2.2.2.1 with
   | true=>show (1:Int)≠2;decide
   | false =>
    cases d.2.2.1==0 with
    | true=>show (1:Int)≠2;decide
    | false=>cases decide ((d.2.2.1:Int) > 0) <;> (show (0:Int)≠2;decide)
 cases (jC d).2 != 0 with
 | true=>exact hb
 | false =>
  show (rr s d.1 d.2.1).2≠2;unfold rr;cases (b8 d.1 s).isNone with
  | true=>show (3:Int)≠2;decide
  | false=>show (0:Int)≠2;decide
theorem Oc (hb:ByteArray→ByteArray) (m:Int) (d:Ty.d aA):(fy hb m d).2≠2:=by
 unfold fy;generalize jw (a_ bG m) (hb (aW d (a_ aD m)).1) d=f;cases c:f.2==2 with
 | false=>exact beq_eq_false_iff_ne.1 c
 | true =>
  show (dz (fG (a_ bG m) f.1) (bX [])).2≠2;have hg:(fG (a_ bG m) f.1).2≠2:=by
   unfold fG;cases (b8 f.1.1 (a_ bG m)).isSome with
   | true=>exact PU _ _
   | false=>show (0:Int)≠2;decide
  unfold dz;cases (fG (a_ bG m) f.1).2==0 with
  | true=>show (0:Int)≠2;decide
  | false=>exact hg
theorem Iv {ns:List ByteArray} {r:RD} (h:(r.2==2)=false):lY ns r=r:=by unfold lY;rw [h];rfl
theorem G9 (hb:ByteArray→ByteArray) (st:Ty.d aC) (d:Ty.d aA) (l:fL) {a q3 q4:RD} (ea:a=cR st.1.1 l (st.2.2.1-1) d) (e3:q3=dz (dz a (ak (a_ aD (st.1.1+1)))) (fy hb st.1.1)) (e4:q4=dz q3 (an (ez st.1.1))) :
 bT hb st d l=bif q3.2==0 then (bif q4.2 != 0 then (pV st,lY (km st.1.1) (tl q4)) else ((ez st.1.1,(gy st.1.1 l 0,(st.2.2.1,(0,(0,()))))),tl (mM st.1.2.1 q4.1))) else (pV st,lY (km st.1.1) (tl q3)):=by
 have sz:∀ (r:RD) (f:Ty.d aA→RD),(r.2 != 0)=false→dz r f=f r.1:=fun r f h=>by unfold dz;rw [dY h];rfl
 have sn:∀ (r:RD) (f:Ty.d aA→RD),(r.2 != 0)=true→dz r f=r:=fun r f h=>by unfold dz;rw [show (r.2==0)=false by unfold bne at h;simpa using h];rfl
 have nz:∀ r:RD,(r.2 != 0)=true→(r.2==0)=false:=fun r h=>by unfold bne at h;simpa using h
 unfold bT;rw [← ea];cases ca:a.2 != 0 with
 | true =>rw [sn a _ ca,sn a _ ca] at e3;rw [e3,nz a ca];rfl
 | false =>
  rw [sz a _ ca] at e3;simp only [aH];generalize ak (a_ aD (st.1.1+1)) a.1=b at e3 ⊢;cases cb:b.2 != 0 with
  | true =>rw [sn b _ cb] at e3;rw [e3,nz b cb];rfl
  | false =>
   rw [sz b _ cb] at e3;simp only [aH];have h2:=Oc hb st.1.1 b.1;rw [← e3] at h2 ⊢;cases ce:q3.2 != 0 with
   | true =>rw [nz q3 ce];simp only [ae,aH];rw [Iv];show (fj q3.2==2)=false;rw [Fx];exact pG h2
   | false =>rw [sz q3 _ ce] at e4;rw [← e4,dY ce];rfl
theorem Bi {k:Nat} (hk:2 ^ 50≤k) {st:Ty.d aC} {d:Ty.d aA} (hl:dK st.1=true) (hd:DR d) (hn:LE.le (α:=Int) (st.1.1+2) 100000) (hb0:LE.le (α:=Int) 1 st.2.2.1) (hb1:LE.le (α:=Int) st.2.2.1 1000001) {l:fL} (hlen:l.length≤900) :
 cH.f k st (d,(0,())) l=some ((bT (qZ st.1.1) st d l).1,(wO (bT (qZ st.1.1) st d l).2,())):=by
 obtain ⟨n1,n2,n3,_⟩:=fk (n:=st.1.1) (ids:=st.1.2.1) hl;have h60:st.1.2.1.length≤60:=(bD (nx:=st.1.1) (ids:=st.1.2.1) hl).2.2.2.1;unfold cH.f cH.t;rw [Dj hk (by omega),ac,aG (n:=st.2.2.1-1) (by omega) (by omega),aG (n:=st.1.1+2) (by omega) (by omega),aG (n:=st.1.1+1) (by omega) (by omega)];simp only [];have hkl:(fK l (st.2.2.1-1)).length≤1000:=by unfold fK;rw [rt,List.length_map];show l.length+1≤1000;omega
 have em:Ar st.1.1 (fK l (st.2.2.1-1)) 0=gy st.1.1 l 0:=xi st.1.1 _ rfl l 0;rw [show ((d,((0:Int),())):Ty.d aj)=wO (d,0) from rfl,BX hk hd st.1.1 n1 (by omega) hkl,ac,em];simp only [];have ea:(dz (Aj (a_ aD st.1.1) (fK l (st.2.2.1-1)) (ak (a_ aD st.1.1) d)) fun y=>cQ y (a_ aD st.1.1))=cR st.1.1 l (st.2.2.1-1) d:=rfl;rw [ea];have a0:DR (cR st.1.1 l (st.2.2.1-1) d).1:=sD _ _ _ hd;have hq2:DR (dz (cR st.1.1 l (st.2.2.1-1) d) (ak (a_ aD (st.1.1+1)))).1:=iI a0 fun x hx=>j8 _ _ hx
 rw [En hk hq2,ac];simp only [];have hq3:DR (dz (dz (cR st.1.1 l (st.2.2.1-1) d) (ak (a_ aD (st.1.1+1)))) (fy (qZ st.1.1) st.1.1)).1:=iI hq2 fun x hx=>by
  unfold fy;cases (jw (a_ bG st.1.1) (qZ st.1.1 (aW x (a_ aD st.1.1)).1) x).2==2 with
  | true=>exact jy _ _ (jj _ _ _ hx)
  | false=>exact jj _ _ _ hx
 rw [G9 (qZ st.1.1) st d l rfl rfl rfl];generalize dz (dz (cR st.1.1 l (st.2.2.1-1) d) (ak (a_ aD (st.1.1+1)))) (fy (qZ st.1.1) st.1.1)=q3 at hq3 ⊢;rw [show (wO (tl q3)).2.1=fj q3.2 from rfl,fV];have clean:∀ q:RD,DR q.1→((ai.f k st.1.1).bind fun r5=>((ai.f k (st.1.1+1)).bind fun r6=>((dF.f k st.1.1).bind fun r7=>((af.f k (wO (tl q)) [(⟨#[116,101,109,112]⟩:ByteArray),r5.1,r6.1,r7.1]).bind fun r8=>(some (((st.1.1+2,st.1.2),st.2),r8))))))=(some (pV st,(wO (lY (km st.1.1) (tl q)),())):Option (Ty.d aC × Ty.d aj × Unit)):=fun q hq=>by rw [cP,ac,cP,ac,lk,ac];simp only [];rw [show [(⟨#[116,101,109,112]⟩:ByteArray),a_ aD st.1.1,a_ aD (st.1.1+1),a_ bG st.1.1]=km st.1.1 from rfl,yI hk (tl q) hq (l:=km st.1.1) (show 4≤1000 by decide),ac];rfl
 cases c3:q3.2==0 with
 | false =>
  have c3':(fj q3.2 != 0)=true:=by unfold bne;rw [fV,c3];rfl
  simp only [aH];rw [c3',ae];exact clean q3 hq3
 | true =>
  simp only [ae];rw [show (((st.1.1+2:Int),([st.1.1,st.1.1+1],())):Ty.d cC)=ez st.1.1 from rfl,q7 hk (tl q3) hq3 (v:=ez st.1.1) (show 2≤1073741824 by decide),ac,Jj];simp only [];have hq4:DR (dz q3 (an (ez st.1.1))).1:=iI hq3 fun x hx=>kR _ _ hx
  generalize dz q3 (an (ez st.1.1))=q4 at hq4 ⊢;rw [show (wO (tl q4)).2.1=(tl q4).2 from rfl,kq];cases c4:q4.2 != 0 with
  | true =>rw [ae,ae];exact clean q4 hq4
  | false =>
   rw [aH,aH,pI (beq_iff_eq.2 (dY c4))];have key:∀ r:RD,DR r.1→cH.l0 k k st.1.2.1.length 0 [st.1.1,st.1.1+1] (gy st.1.1 l 0) (st.1.1+2) st.2.2.1 0 0 r.1.1 r.1.2.1 r.1.2.2.1 r.1.2.2.2.1 r.2 st.1.2.1=some ((ez st.1.1,(gy st.1.1 l 0,(st.2.2.1,(0,(0,()))))),(wO (wk (mM st.1.2.1) r),())):=fun r hr=>by
    refine iZ (L:=fun n i (x:RD)=>cH.l0 k n st.1.2.1.length i [st.1.1,st.1.1+1] (gy st.1.1 l 0) (st.1.1+2) st.2.2.1 0 0 x.1.1 x.1.2.1 x.1.2.2.1 x.1.2.2.2.1 x.2 st.1.2.1) (R:=fun q x=>some ((ez st.1.1,(gy st.1.1 l 0,(st.2.2.1,(0,(0,()))))),(wO (wk (mM q) x),()))) (Ty.z (.int .i64)) st.1.2.1 (fun i x=>DR x.1) (fun n x hx=>?_) (fun n i x y rest h0 h1 hy hr' hx ih=>?_) (n:=k) (s:=r) (by omega) hr
    · simp only [cH.l0,cH.b0];rw [aZ (by omega),aH,show mM []=fun d=>(d,0) from rfl,Ej];rfl
    · simp only [cH.l0,cH.b0];rw [aX h1,ae,aY h0 h1,hy,cP,ac];simp only [];rw [show ((x.1.1,(x.1.2.1,(x.1.2.2.1,(x.1.2.2.2.1,())))),(x.2,()))=wO x from rfl,m_ hk x hx,ac,lk,ac];simp only [];rw [m_ hk _ (rZ hx (nF _)),ac,aG (n:=i+1) (by omega) (by omega)];have e:wk (mM (y::rest)) x=wk (mM rest) (wk (fG (a_ bG y)) (wk (fG (a_ aD y)) x)):=by
       have e1:mM (y::rest)=fun d=>dz (bX [a_ aD y,a_ bG y] d) (mM rest):=rfl
       rw [e1,rG,z_,z_,show bX []=fun d=>(d,0) from rfl,Ej]
      rw [e];exact ih _ (rZ (rZ hx (nF _)) (nF _))
   have:=key (q4.1,0) hq4;rw [ny] at this;exact this
theorem EY {k:Nat} (hk:2 ^ 50≤k) {st:Ty.d aC} {d:Ty.d aA} (hd:Ey d) (h1:st.1.2.1.length≤1073741824) (h2:st.2.1.length≤536870912):kS.f k st d=some (oS (bI st d)):=by
 have ec:df.f k st=some (st,()):=by unfold df.f df.t dm.f dm.t;rw [dT (by omega) (by decide),ac];unfold cS.f cS.t;rw [dT (by omega) (by decide),ac]
 unfold kS.f kS.t bI;rw [ec,ac];simp only [];rw [gi k hd.l,ac];simp only [];rw [G8 hk hd (by omega),ac];simp only [];rw [vr hk hd (by omega) (by omega),ac];simp only [];cases c1:bo st d with
 | false=>rfl
 | true =>
  obtain ⟨g1,g2,g3⟩:=bn c1;obtain ⟨n1,n2,_,_⟩:=fk (n:=st.1.1) (ids:=st.1.2.1) g1.live;simp only [g9,aH];rw [aG (n:=st.1.1+2) (by omega) (by omega)];by_cases c2:st.1.1+2 > (100000:Int)
  · rw [aX c2];rfl
  · rw [aZ c2];simp only [aH];have hz:=qQ st.2.1 d;obtain ⟨b1,b2⟩:=BS c1;cases c3:(bH st.2.1 d).2 != 0 with
    | true=>rfl
    | false =>simp only [aH];rw [Bi hk g1.live g1.disk (Int.not_lt.1 c2) b1 b2 (by omega),ac];rfl
theorem F9 {F:Prop × Prop} {k:Nat} (hk:2 ^ 50≤k) {e:Ty.d aP} (h:EV F e) (hu:UE e) {s:Ty.d d5}:dR.f k e s=oE (bif !qp e s then (e,eX 4) else nM e s):=by
 have hlen:=h.len;have hids:=h.ids;have hdir:=h.dir;unfold dR.f dR.t kU.f kU.t qp;rw [iU,ac];simp only [];by_cases r:(1:Int)≤s.1∧s.1≤6
 · rw [aX r];simp only [ae,Bool.true_and];rw [iU,ac];simp only [];rw [aG (n:=(e.2.2.2.1.length:Int)-1) (by omega) (by omega)];by_cases q:0≤s.2.1∧s.2.1≤(e.2.2.2.1.length:Int)-1
   · have h0:LE.le (α:=Int) 0 s.2.1:=q.1;have h1:LT.lt (α:=Int) s.2.1 (e.2.2.2.1.length:Int):=by have q2:LE.le (α:=Int) s.2.1 ((e.2.2.2.1.length:Int)-1):=q.2;omega
     have ht:TV (dS e s.2.1):=Ez h.txn (Int.toNat s.2.1);rw [aX q];simp only [ae,Bool.true_and];rw [aY h0 h1,ac,aY h0 h1];simp only [];have hf:((List.getD e.2.2.2.1 (Int.toNat s.2.1) (Ty.z bO)).1==(s.1 != 1))=!((dS e s.2.1).1==(s.1==1)):=by show ((dS e s.2.1).1==!(s.1==1))=_;cases (dS e s.2.1).1 <;> cases s.1==1 <;> rfl
     rw [hf];cases (dS e s.2.1).1==(s.1==1) with
     | true=>rfl
     | false =>
      simp only [yO,g9,aH];unfold nM;rw [Fc hk h hu h0 h1];cases c1:s.1==1 with
      | true=>rfl
      | false =>
       cases c6:s.1==6 with
       | true=>rfl
       | false =>
        cases c2:s.1==2 with
        | true=>rfl
        | false =>
         simp only [aH];have hput:=Fy hk h h0 h1;cases c5:s.1==5 with
         | true =>
          have e5:s.1=5:=BU c5;have hn:=Au (dS e s.2.1).2.2.1;have ht2:=ht.2;rw [show (s.1==3)=false by rw [e5];rfl,show (s.1==4)=false by rw [e5];rfl];simp only [ae,aH];rw [show List.getD e.2.2.2.1 (Int.toNat s.2.1) (Ty.z bO)=dS e s.2.1 from rfl,Et hk (by have:=ht.1;omega) hdir,ac];simp only [];unfold iQ;cases l9 (dS e s.2.1).2.1 e.2.1.2.1 with
          | false=>rfl
          | true =>simp only [g9,aH];rw [xe hk (by omega),ac];simp only [];rw [Bb hk h.disk.sz (by omega) (by omega) (by omega)];rfl
         | false =>
          simp only [aH];cases c3:s.1==3 with
          | true =>simp only [ae];exact hput
          | false =>
           simp only [aH];cases c4:s.1==4 with
           | true =>simp only [ae];exact hput
           | false =>
            exfalso;have n1:=beq_eq_false_iff_ne.1 c1;have n2:=beq_eq_false_iff_ne.1 c2;have n3:=beq_eq_false_iff_ne.1 c3;have n4:=beq_eq_false_iff_ne.1 c4;have n5:=beq_eq_false_iff_ne.1 c5;have n6:=beq_eq_false_iff_ne.1 c6;have key:∀ S:Int,1≤S→S≤6→S≠1→S≠2→S≠3→S≠4→S≠5→S≠6→False:=by omega
            exact key s.1 r.1 r.2 n1 n2 n3 n4 n5 n6
   · rw [aZ q];rfl
 · rw [aZ r];simp only [aH,ac,yO,ae,Bool.false_and,Bool.and_false];rfl
theorem Dq {F:Prop × Prop} {k:Nat} (hk:2 ^ 50≤k) {e:Ty.d aP} (h:EV F e) (hu:UE e) {s:Ty.d d5} (h11:(s.1==11)=false):d8.f k e s=oE (dA e s):=by
 have hdir:=h.dir;have hids:=h.ids;unfold d8.f d8.t dA;rw [h11];cases c10:s.1==10 with
 | true =>
  simp only [ae];cases e.1 with
  | true=>rfl
  | false =>simp only [aH];rw [pe hk h.disk.sz,ac];rfl
 | false =>
  simp only [aH];cases up:e.1 with
  | false=>rfl
  | true =>
   simp only [g9,aH];cases c7:s.1==7 with
   | true =>simp only [ae];rw [EY hk (st:=e.2.1) (d:=e.2.2.1) h.disk.sz (by omega) (by omega)];unfold EL;rw [up];rfl
   | false =>
    simp only [aH];cases s.1==8 with
    | true =>simp only [ae];rw [y9 hk (by omega)];rfl
    | false =>
     simp only [aH];cases c9:s.1==9 with
     | true =>simp only [ae];rw [MZ (by omega) (by omega) (by decide)];rfl
     | false =>simp only [aH];rw [F9 hk h hu];rfl
theorem Ed {F:Prop × Prop} {k:Nat} (hk:2 ^ 50≤k) {e:Ty.d aP} (h:EV F e) (hu:UE e) {s:Ty.d d5}:d8.f k e s=oE (dA e s):=by
 cases h11:s.1==11 with
 | false=>exact Dq hk h hu h11
 | true =>
  have hd:=h.disk;have hsz:=hd.sz;have z1:=hsz.l;have z2:=hsz.u;have z3:=hsz.n;have hc:=hd.cap1;have hus:=hd.use;have hu':LE.le (α:=Int) (bv e.2.2.1.1:Int) 100000:=Int.le_trans hus hc;unfold d8.f d8.t dA;have e11:s.1=11:=BU h11;rw [h11,show (s.1==10)=false by rw [e11];rfl];simp only [ae,aH];rw [rJ hk (by omega) (by omega),ac,fa hk (by omega) (by omega),ac,dH.2 hd];simp only [g9,aH];rw [iU,ac,aG (n:=100000-(bv e.2.2.1.1:Int)) (by omega) (by omega)];unfold AR;by_cases c:0≤s.2.2.2.2.1∧s.2.2.2.2.1≤100000-(bv e.2.2.1.1:Int)
  · rw [aX c];simp only [g9,aH];have c1:LE.le (α:=Int) s.2.2.2.2.1 (100000-(bv e.2.2.1.1:Int)):=c.2;have c0:LE.le (α:=Int) 0 s.2.2.2.2.1:=c.1;obtain ⟨N,hN⟩:∃ N:Int,N=s.2.2.2.2.1:=⟨_,rfl⟩;rw [← hN] at c0 c1 ⊢;rw [aG (n:=(bv e.2.2.1.1:Int)+N) (by omega) (by omega)];rfl
  · rw [aZ c];rfl
theorem NC {t:Ty.d bO} (h:TV t) (key:ByteArray) (b:Int):TV (jH t key b).1:=by
 unfold jH;cases !t.1 with
 | true=>exact h
 | false =>
  cases !fg key with
  | true=>exact h
  | false =>
   simp only [aH];cases mI t.2.1 key with
   | some b'=>exact h
   | none =>
    simp only [];cases c:decide ((t.2.1.length:Int)≥20) with
    | true=>exact h
    | false =>have c:=of_decide_eq_false c;refine ⟨?_,h.2⟩;show (t.2.1++[_]).length≤20;rw [fq];omega
theorem LG {t:Ty.d bO} (h:TV t) (p:Ty.d bF):TV (gZ t p).1:=by
 unfold gZ;cases !t.1 with
 | true=>exact h
 | false =>
  cases !bw [p] with
  | true=>exact h
  | false =>
   cases decide (((jd (t.2.2.1++[p])).length:Int) > 8) with
   | true=>exact h
   | false =>
    cases c:decide (((t.2.2.1++[p]).length:Int) > 50) with
    | true=>exact h
    | false =>have c:¬ ((t.2.2.1++[p]).length:Int) > 50:=of_decide_eq_false c;refine ⟨h.1,?_⟩;show (t.2.2.1++[p]).length≤50;omega
theorem tn {F:Prop × Prop} {e:Ty.d aP} (h:EV F e) (i:Int) {t:Ty.d bO} (ht:TV t):EV F (uE e i t):=RZ h i.toNat ht
theorem OD:TV rk:=⟨Nat.zero_le _,Nat.zero_le _⟩
theorem RJ {F:Prop × Prop} {e:Ty.d aP} (h:EV F e) (s:Ty.d d5):EV F (dA e s).1:=by
 have hd:=h.disk;have hdir:=h.dir;have hids:=h.ids;have hlen:=h.len;have ht:=Ez h.txn (Int.toNat s.2.1);unfold dA;cases s.1==10 with
 | true =>
  cases e.1 with
  | true=>exact h
  | false=>exact Kj hd h.fu
 | false =>
  cases s.1==11 with
  | true =>
   show EV F (AR e s).1;unfold AR;cases c:decide (0≤s.2.2.2.2.1∧s.2.2.2.2.1≤100000-(bv e.2.2.1.1:Int)) with
   | false=>exact h
   | true =>have hb:=of_decide_eq_true c;obtain ⟨N,hN⟩:∃ N:Int,N=s.2.2.2.2.1:=⟨_,rfl⟩;rw [← hN] at hb ⊢;have hb0:LE.le (α:=Int) 0 N:=hb.1;have hb1:LE.le (α:=Int) N (100000-(bv e.2.2.1.1:Int)):=hb.2;show EV F (e.1,(e.2.1,((e.2.2.1.1,((bv e.2.2.1.1:Int)+N,e.2.2.1.2.2)),e.2.2.2)));have hz:DR (e.2.2.1.1,((bv e.2.2.1.1:Int)+N,e.2.2.1.2.2)):=⟨hd.len,by show LE.le (α:=Int) 0 ((bv e.2.2.1.1:Int)+N);omega,by show LE.le (α:=Int) ((bv e.2.2.1.1:Int)+N) 100000;omega,hd.fu0,hd.fu1,by show LE.le (α:=Int) (bv e.2.2.1.1:Int) ((bv e.2.2.1.1:Int)+N);omega,hd.all,hd.keys⟩;exact ⟨hids,hdir,hz,hlen,h.txn,fun m up nd=>S8 (h.mi m up nd) hz rfl,h.fu⟩
  | false =>
   cases !e.1 with
   | true=>exact h
   | false =>
    cases s.1==7 with
    | true =>show EV F (EL e).1;obtain ⟨c1,c2,c3⟩:=IZ hd hids hdir;exact ⟨c2,c3,c1,hlen,h.txn,fun m up nd=>GV (h.mi m up (Mu nd)),fun q=>Fw E3 _ (h.fu q)⟩
    | false =>
     cases s.1==8 with
     | true=>exact h
     | false =>
      cases s.1==9 with
      | true=>exact ⟨Nat.zero_le _,Nat.zero_le _,hd,Nat.le_refl _,Nl,fun _ up _=>(by cases up),h.fu⟩
      | false =>
       cases !qp e s with
       | true=>exact h
       | false =>
        show EV F (nM e s).1;unfold nM;cases s.1==1 with
        | true=>exact tn h s.2.1 ⟨Nat.zero_le _,Nat.zero_le _⟩
        | false =>
         cases s.1==6 with
         | true=>exact tn h s.2.1 OD
         | false =>
          cases s.1==2 with
          | true =>
           show EV F (tG e s).1;unfold tG;cases !fg s.2.2.1 with
           | true=>exact h
           | false =>
            rw [aH];cases lr (dS e s.2.1).2.2.1 s.2.2.1 with
            | some p =>show EV F (bif p.2.1 then (e,eX 8) else (e,(0,(p.2.2.1,([],())))):uB).1;cases p.2.1 <;> exact h
            | none =>
             show EV F (vo e s (dS e s.2.1) (kT e.2.1.2.1 e.2.2.1 s.2.2.1)).1;unfold vo;cases (kT e.2.1.2.1 e.2.2.1 s.2.2.1).2==3 with
             | true=>exact h
             | false =>
              rw [aH];cases (jH (dS e s.2.1) s.2.2.1 (kT e.2.1.2.1 e.2.2.1 s.2.2.1).1.2.2.1).2 != 0 with
              | true=>exact h
              | false=>exact tn h s.2.1 (NC ht _ _)
          | false =>
           cases s.1==5 with
           | true =>
            show EV F (iQ e s).1;unfold iQ;cases !l9 (dS e s.2.1).2.1 e.2.1.2.1 with
            | true=>exact tn h s.2.1 OD
            | false =>obtain ⟨c1,c2,c3⟩:=Fp (jd (dS e s.2.1).2.2.1) hd hids hdir;have hs:=tn h s.2.1 OD;exact ⟨c2,c3,c1,hs.len,hs.txn,fun m up nd=>LJ (jd (dS e s.2.1).2.2.1) (h.mi m up (LS nd)) nd,fun q=>C9 E3 _ _ (h.fu q)⟩
           | false =>
            show EV F (sf e s).1;unfold sf;cases !bw [nO s] with
            | true=>exact h
            | false =>
             rw [aH];cases !(gZ (dS e s.2.1) (nO s)).2 with
             | true=>exact h
             | false=>exact tn h s.2.1 (LG ht _)
theorem Sp {k:Nat} {code:List Int} (hl:code.length≤1048576) (hb:∀ x ∈ code,(0:Int)≤x∧x≤255) {i:Int} (h0:0≤i) (h1:i≤1000):EA (mQ.f k code i) (fun r=>0≤r.1∧r.1≤255):=by
 unfold mQ.f mQ.t;refine KT (fun hd=>?_) (fun hd=>?_)
 · have hd:=of_decide_eq_true hd;have hx:=hb (code.getD i.toNat (Ty.z (.int .u8))) (eE (by omega));refine PH h0 hd (sZ ?_);show 0≤aU _∧aU _≤255;rw [aG (by omega) (by omega)];exact hx
 · have hd:=of_decide_eq_false hd;refine sZ ?_;show 0≤Int.tmod _ 256∧Int.tmod _ 256≤255;rw [aG (n:=i*37) (by omega) (by omega),aG (n:=(code.length:Int)*11) (by omega) (by omega),aG (n:=i*37+(code.length:Int)*11) (by omega) (by omega),Int.tmod_eq_emod_of_nonneg (by omega)];omega
def nj (d:Ty.d aA) (n:Int):Ty.d aA:=bif fZ d then (d.1,(d.2.1,(n,(false,())))) else d
theorem Ha {k:Nat} (hk:2 ^ 50≤k) {d:Ty.d aA} (hd:Ey d) {n:Int} (h0 : -1≤n) (h1:n≤100000):iu.f k d n=some (nj d n,()):=by
 have hl:=hd.l;have hu:=hd.u;have hn:=hd.n;unfold iu.f iu.t nj;rw [gi k hd.l,ac,fa hk (by omega) (by omega),ac];simp only [];cases fZ d with
 | false=>rfl
 | true =>simp only [ae];rw [iU,ac,aX ⟨h0,h1⟩];rfl
theorem Pi {d:Ty.d aA} (h:DR d) {n:Int} (h0 : -1≤n) (h1:n≤100000):DR ((d.1,(d.2.1,(n,(false,())))):Ty.d aA):=⟨h.len,h.cap0,h.cap1,h0,h1,h.use,h.all,h.keys⟩
def Tv (x0 x:Ty.d aA):Prop:=(fZ x0=false∧x=x0)∨∃ l c l',x0=dk l c∧x=dk l' c∧PR (Sw (dk l c)) c l l'
theorem Tv.sz {x0 x:Ty.d aA} (h:Tv x0 x) (hz:Ey x0):Ey x:=by
 rcases h with ⟨_,e⟩ | ⟨l,c,l',_,e,p⟩
 · rw [e];exact hz
 · rw [e];exact p.d'.sz
structure DE (e:Ty.d aP):Prop where
 ev:EV (False,False) e
 ue:UE e
 ke:KE e
theorem DZ {d:Ty.d aA} (h:DR d):DE (jE (cZ d)):=⟨Kj h fun q=>q.elim,I8,KR d⟩
theorem CB {k:Nat} (hk:2 ^ 50≤k) {e:Ty.d aP} (h:DE e) (s:Ty.d d5) :
 d8.f k e s=oE (dA e s)∧DE (dA e s).1∧MY (dA e s).2:=by
 obtain ⟨h4,h5⟩:=S0 h.ke s;exact ⟨Ed hk h.ev h.ue,⟨RJ h.ev s,RR h.ue s,h4⟩,h5⟩
def sr (e:Ty.d aP) (d:Ty.d aA):Ty.d aP:=(e.1,(e.2.1,(d,e.2.2.2)))
theorem Lj {e:Ty.d aP} (h:DE e) {d:Ty.d aA} (hd:DR d):DE (sr e d) :=
 ⟨⟨h.ev.ids,h.ev.dir,hd,h.ev.len,h.ev.txn,fun q=>q.elim,fun q=>q.elim⟩,h.ue,h.ke⟩
theorem OM {d:Ty.d aA} (h:DR d) {n:Int} (h0 : -1≤n) (h1:n≤100000):DR (nj d n):=by
 unfold nj;cases fZ d with
 | false=>exact h
 | true=>exact Pi h h0 h1
theorem LH {e:Ty.d aP} (h:DE e) {n:Int} (h0 : -1≤n) (h1:n≤100000):DE (sr e (nj e.2.2.1 n)):=Lj h (OM h.ev.disk h0 h1)
theorem Hz {e:Ty.d aP} (h:DE e) (tears:List Int):DE (jE (cZ (lz e.2.2.1 tears))):=DZ (HP tears h.ev.disk)
open Go.V Go.Lib
def qU (w:List ByteArray):Int :=
 bif seq (w.getD 0 ByteArray.empty) "begin".toUTF8&&w.length==2 then 1 else
 bif seq (w.getD 0 ByteArray.empty) "get".toUTF8&&w.length==3 then 2 else
 bif seq (w.getD 0 ByteArray.empty) "put".toUTF8&&w.length==4 then 3 else
 bif seq (w.getD 0 ByteArray.empty) "del".toUTF8&&w.length==3 then 4 else
 bif seq (w.getD 0 ByteArray.empty) "commit".toUTF8&&w.length==2 then 5 else
 bif seq (w.getD 0 ByteArray.empty) "abort".toUTF8&&w.length==2 then 6 else
 bif seq (w.getD 0 ByteArray.empty) "merge".toUTF8&&w.length==1 then 7 else
 bif seq (w.getD 0 ByteArray.empty) "list".toUTF8&&w.length==1 then 8 else
 bif seq (w.getD 0 ByteArray.empty) "close".toUTF8&&w.length==1 then 9 else
 bif seq (w.getD 0 ByteArray.empty) "open".toUTF8&&w.length==1 then 10 else
 bif seq (w.getD 0 ByteArray.empty) "room".toUTF8&&w.length==2 then 11 else 0
def xQ:List ByteArray:=["ok".toUTF8, "down".toUTF8, "space".toUTF8, "corrupt".toUTF8, "args".toUTF8, "many".toUTF8, "closed".toUTF8, "conflict".toUTF8, "none".toUTF8]
def Am (c:Int):ByteArray:=bif decide (0≤c∧c≤8) then xQ.getD c.toNat ByteArray.empty else ByteArray.empty
theorem G6 (c:Int):(Am c).size≤8:=by
 unfold Am;cases h:decide (0≤c∧c≤8) with
 | false=>exact Nat.zero_le _
 | true =>
  have h:=of_decide_eq_true h;obtain ⟨n,rfl⟩:∃ n:Nat,c=n:=⟨c.toNat,by omega⟩;have hn:n≤8:=by omega
  rw [ae,Int.toNat_natCast];have:∀ n:Nat,n≤8→(xQ.getD n ByteArray.empty).size≤8:=by decide
  exact this n hn
open Go.V Go.Lib
abbrev iX:ByteArray:=ByteArray.empty
noncomputable def Ag (w:List ByteArray):Int:=bif decide ((w.length:Int) > 1) then (cY (w.getD 1 iX)).1 else 0
noncomputable def wq (w:List ByteArray):Bool:=qU w != 0&&(!decide ((w.length:Int) > 1)||(cY (w.getD 1 iX)).2)
noncomputable def jS (w:List ByteArray):Ty.d d5 :=
 (qU w,(bif qU w==11 then 0 else Ag w,(bif decide ((w.length:Int) > 2) then w.getD 2 iX else iX,(bif decide ((w.length:Int) > 3) then w.getD 3 iX else iX,(bif qU w==11 then Ag w else 0,())))))
def Gs:ByteArray := " ".toUTF8
def Bj:ByteArray := "\n".toUTF8
def HD (acc:ByteArray) (l:List ByteArray):ByteArray:=l.foldl (fun s x=>s++(Gs++x)) acc
def CY (s:Ty.d d5) (a:Ty.d f9):ByteArray :=
 bif a.1 != 0 then Am a.1 else HD (bif s.1==2 then "ok".toUTF8++(Gs++a.2.1) else "ok".toUTF8) a.2.2.1
noncomputable def B5 (e:Ty.d aP) (w:List ByteArray):Ty.d aP × ByteArray :=
 bif !(cY (w.getD 1 iX)).2 then (e, "what".toUTF8) else
 bif seq (w.getD 0 iX) "fuel".toUTF8 then (bif decide (-1≤(cY (w.getD 1 iX)).1∧(cY (w.getD 1 iX)).1≤100000) then (sr e (nj e.2.2.1 (cY (w.getD 1 iX)).1), "ok".toUTF8) else (e, "no".toUTF8)) else
 bif seq (w.getD 0 iX) "power".toUTF8 then (jE (cZ (lz e.2.2.1 [(cY (w.getD 1 iX)).1])),Am (cZ (lz e.2.2.1 [(cY (w.getD 1 iX)).1])).2.2) else (e, "what".toUTF8)
noncomputable def mj (e:Ty.d aP) (line:ByteArray):Ty.d aP × ByteArray :=
 bif wq (bC 32 line) then ((dA e (jS (bC 32 line))).1,CY (jS (bC 32 line)) (dA e (jS (bC 32 line))).2) else
 bif seq line "used".toUTF8 then (e,dp (bv e.2.2.1.1:Int)) else
 bif (bC 32 line).length != 2 then (e, "what".toUTF8) else B5 e (bC 32 line)
noncomputable def ma:List ByteArray→Ty.d aP→ByteArray→ByteArray
 | [],_,out=>out
 | x::l,e,out=>bif seq x iX then ma l e out else ma l (mj e x).1 (out++((mj e x).2++Bj))
def oI (s:ByteArray):List ByteArray:=bif seq ((bC 10 s).getLastD iX) iX then (bC 10 s).dropLast else bC 10 s
noncomputable def JZ (s:ByteArray):ByteArray :=
 bif decide ((s.size:Int) > 4000)||decide (((oI s).length:Int) > 60) then iX else ma (oI s) (jE (cZ (iP 100000))) iX
theorem gj (a b:ByteArray):(a++b).size=a.size+b.size:=aV a b
theorem GI:∀ (l:List ByteArray) (acc:ByteArray),(∀ x ∈ l,x.size≤8)→(HD acc l).size≤acc.size+9*l.length
 | [],acc,_=>by show acc.size≤_;omega
 | x::l,acc,h=>by
  have h1:=GI l (acc++(Gs++x)) fun y hy=>h y (jF _ hy)
  have h2:=h x iF;have h3:Gs.size=1:=by decide
  rw [gj,gj] at h1;rw [kM];show (HD (acc++(Gs++x)) l).size≤_;omega
theorem Se : "ok".toUTF8.size=2:=by decide
theorem QM {s:Ty.d d5} {a:Ty.d f9} (h:MY a) (hl:a.2.2.1.length≤268435456):(CY s a).size≤2500000000:=by
 unfold CY;have hc:=G6 a.1;cases a.1 != 0 with
 | true=>rw [ae];omega
 | false =>
  rw [aH];have hk:=fun acc=>GI a.2.2.1 acc h.2
  have h3:Gs.size=1:=by decide
  have h4:=Se;have h5:=h.1;cases s.1==2 with
  | true =>have:=hk ("ok".toUTF8++(Gs++a.2.1));rw [gj,gj] at this;rw [ae];omega
  | false =>have:=hk "ok".toUTF8;rw [aH];omega
theorem HG {e:Ty.d aP} (h:DE e) (s:Ty.d d5):(dA e s).2.2.2.1.length≤268435456:=by
 have hd:=h.ev.dir;have z:∀ c:Int,(eX c).2.2.1.length≤268435456:=fun c=>Nat.zero_le _
 unfold dA;cases s.1==10 with
 | true=>cases e.1 <;> exact z _
 | false =>
  cases s.1==11 with
  | true =>show (AR e s).2.2.2.1.length≤_;unfold AR;cases !decide (0≤s.2.2.2.2.1∧s.2.2.2.2.1≤100000-(bv e.2.2.1.1:Int)) <;> exact z _
  | false =>
   cases !e.1 with
   | true=>exact z _
   | false =>
    cases s.1==7 with
    | true=>exact z _
    | false =>
     cases s.1==8 with
     | true =>show (e.2.1.2.1.map (·.1)).length≤_;rw [List.length_map];exact hd
     | false =>
      cases s.1==9 with
      | true=>exact z _
      | false =>
       cases !qp e s with
       | true=>exact z _
       | false =>
        show (nM e s).2.2.2.1.length≤_;unfold nM;cases s.1==1 with
        | true=>exact z _
        | false =>
         cases s.1==6 with
         | true=>exact z _
         | false =>
          cases s.1==2 with
          | true =>
           show (tG e s).2.2.2.1.length≤_;unfold tG;cases !fg s.2.2.1 with
           | true=>exact z _
           | false =>
            rw [aH];cases lr (dS e s.2.1).2.2.1 s.2.2.1 with
            | some p =>show (bif p.2.1 then (e,eX 8) else (e,(0,(p.2.2.1,([],())))):uB).2.2.2.1.length≤_;cases p.2.1 <;> exact Nat.zero_le _
            | none =>
             show (vo e s (dS e s.2.1) (kT e.2.1.2.1 e.2.2.1 s.2.2.1)).2.2.2.1.length≤_;unfold vo;cases (kT e.2.1.2.1 e.2.2.1 s.2.2.1).2==3 with
             | true=>exact z _
             | false =>rw [aH];cases (jH (dS e s.2.1) s.2.2.1 (kT e.2.1.2.1 e.2.2.1 s.2.2.1).1.2.2.1).2 != 0 <;> exact Nat.zero_le _
          | false =>
           cases s.1==5 with
           | true =>show (iQ e s).2.2.2.1.length≤_;unfold iQ;cases !l9 (dS e s.2.1).2.1 e.2.1.2.1 <;> exact z _
           | false =>
            show (sf e s).2.2.2.1.length≤_;unfold sf;cases !bw [nO s] with
            | true=>exact z _
            | false =>rw [aH];cases !(gZ (dS e s.2.1) (nO s)).2 <;> exact z _
theorem Pb {e:Ty.d aP} (h:DE e) (line:ByteArray):DE (mj e line).1∧(mj e line).2.size≤2500000000:=by
 obtain ⟨_,h3,h4⟩:=CB (k:=2 ^ 50) (Nat.le_refl _) h (jS (bC 32 line));have hw : "what".toUTF8.size≤2500000000:=by decide
 unfold mj;cases wq (bC 32 line) with
 | true=>exact ⟨h3,QM h4 (HG h _)⟩
 | false =>
  rw [aH];cases seq line "used".toUTF8 with
  | true =>have hu:=h.ev.disk.use;have hc:=h.ev.disk.cap1;have hu':LE.le (α:=Int) (bv e.2.2.1.1:Int) 100000:=Int.le_trans hu hc;exact ⟨h,Nat.le_trans (m0 (n:=(bv e.2.2.1.1:Int)) (by omega) (by omega)) (by decide)⟩
  | false =>
   rw [aH];cases (bC 32 line).length != 2 with
   | true=>exact ⟨h,hw⟩
   | false =>
    show DE (B5 e (bC 32 line)).1∧(B5 e (bC 32 line)).2.size≤_;unfold B5;cases !(cY ((bC 32 line).getD 1 iX)).2 with
    | true=>exact ⟨h,hw⟩
    | false =>
     rw [aH];cases seq ((bC 32 line).getD 0 iX) "fuel".toUTF8 with
     | true =>
      rw [ae];cases c:decide (-1≤(cY ((bC 32 line).getD 1 iX)).1∧(cY ((bC 32 line).getD 1 iX)).1≤100000) with
      | true =>have c:=of_decide_eq_true c;exact ⟨LH h c.1 c.2,(by decide : "ok".toUTF8.size≤2500000000)⟩
      | false=>exact ⟨h,(by decide : "no".toUTF8.size≤2500000000)⟩
     | false =>
      rw [aH];cases seq ((bC 32 line).getD 0 iX) "power".toUTF8 with
      | true=>exact ⟨Hz h _,Nat.le_trans (G6 _) (by decide)⟩
      | false=>exact ⟨h,hw⟩
theorem vV {r:RD} {f:Ty.d aA→RD} (h:(dz r f).2=0):r.2=0∧dz r f=f r.1:=by
 unfold dz at h ⊢;cases c:r.2==0 with
 | true=>exact ⟨BU c,rfl⟩
 | false =>rw [c,aH] at h;rw [h] at c;cases c
theorem Pt {d:Ty.d aA} (h:SA d.1) (s:ByteArray):SA (fG s d).1.1:=by
 unfold fG;cases (b8 d.1 s).isSome with
 | true=>exact Rb h s
 | false=>exact h
theorem Ns {d:Ty.d aA} (h:DR d) (s:ByteArray):DR (fG s d).1:=by
 unfold fG;cases (b8 d.1 s).isSome with
 | true=>exact IJ h s
 | false=>exact h
theorem Ho {d:Ty.d aA} (hd:DR d) (h:SA d.1) {v:Ty.d cC} (hc:(an v d).2=0):SA (an v d).1.1:=by unfold an at hc ⊢;obtain ⟨c1,e1⟩:=vV hc;rw [e1];refine Rc ?_ _ _;unfold jw at c1 ⊢;obtain ⟨c2,e2⟩:=vV c1;rw [e2] at c1 ⊢;obtain ⟨c3,e3⟩:=vV c2;rw [e3] at c1 c2 ⊢;unfold ak at c3 c1 c2 ⊢;obtain ⟨c4,e4⟩:=vV c3;rw [e4] at c1 c2 c3 ⊢;have g1:=Pt h gT;have g2:=Ns hd gT;exact Ni (oP (xY g2 _) _ _) (Mj ((N4 g1 _).sx _) _) c1
theorem Ix:∃ d,cZ (iP 100000)=(BW,(d,0))∧SA d.1:=by
 obtain ⟨d,e,_⟩:=Fj;refine ⟨d,e,?_⟩;have hr:=Me;have hn:ib (a_ aD 1)=true:=sL ⟨by omega,by omega⟩;have e0:fw [] (iP 100000)=(iP 100000,0):=by unfold fw rW;rw [dH.2 hr.disk];rfl
 have hx:b8 (iP 100000).1 (a_ aD 1)=none:=rfl;obtain ⟨a1,a2⟩:=It hr (by omega) hn hx;obtain ⟨b1,b2⟩:=rQ a1 (by omega) (by omega) mc;have e1:hO (iP 100000)=an mc (nh (iP 100000) (a_ aD 1)).1:=by unfold hO;rw [e0,mX (r:=(iP 100000,0)) rfl,mX a2]
 have e2:cZ (iP 100000)=mB (iP 100000):=by
  unfold cZ;have e:(aW (iP 100000) c_).2=false:=by unfold aW;rw [dH.2 hr.disk];rfl
  rw [dH.2 hr.disk,e];rfl
 have e3:cZ (iP 100000)=((mc,([],(1,(0,(0,()))))),((an mc (nh (iP 100000) (a_ aD 1)).1).1,0)):=by rw [e2];unfold mB;rw [e1,b2];rfl
 rw [e3] at e;have:d=(an mc (nh (iP 100000) (a_ aD 1)).1).1:=((congrArg (fun q:Ty.d aC × RD=>q.2.1) e)).symm;rw [this];exact Ho a1.disk (N4 (fun f hf=>by cases hf) _) b2
theorem Kd:∀ (rs:ij) (st:Ty.d aC) (d:Ty.d aA) (ps:aT),SX (au st) d.1→LE.le (α:=Int) 0 st.2.2.2.1→(∀ r ∈ rs,aS r≤30)→LE.le (α:=Int) (st.2.2.2.1+30*(rs.length:Int)) 200 →
 SX (au st) (bR rs st d ps).1.2.1.1∧(bR rs st d ps).1.1.1=st.1∧LE.le (α:=Int) 0 (bR rs st d ps).1.1.2.2.2.1∧LE.le (α:=Int) (bR rs st d ps).1.1.2.2.2.1 (st.2.2.2.1+30*(rs.length:Int))
 | [],st,d,ps,h,hs,hr,hl=>⟨h,rfl,hs,by unfold bR;rw [List.length_nil];show LE.le (α:=Int) st.2.2.2.1 _;omega⟩
 | r::rs,st,d,ps,h,hs,hr,hl=>by
  have hlen:((r::rs).length:Int)=(rs.length:Int)+1:=by rw [kM];omega
  have hr1:=hr r iF;obtain ⟨w0,w1⟩:=kj r;rw [hlen] at hl ⊢;have hrot:¬ (st.2.2.2.1+aS r > (200:Int)):=by
   have key:∀ E R L:Int,E+30*(L+1)≤200→R≤30→0≤L→¬ (E+R > 200):=by omega
   exact key _ _ _ hl hr1 (Int.natCast_nonneg _)
  have ea:da st d r=gh st d r:=by unfold da;rw [aZ hrot,Bool.and_false];rfl
  have ha:=Mj h (aM (aE r));unfold bR;rw [ea];unfold gh;cases c:(h_ d (au st) (aM (aE r))).2 != 0 with
  | true =>simp only [ae];rw [kq,c];refine ⟨ha,rfl,hs,?_⟩;show LE.le (α:=Int) st.2.2.2.1 _;have:=Int.natCast_nonneg rs.length;omega
  | false =>
   simp only [aH];have key:∀ E R L:Int,E+30*(L+1)≤200→R≤30→E+R+30*L≤200:=by omega
   obtain ⟨b1,b2,b3,b4⟩:=Kd rs (AN st (st.2.2.2.1+aS r)) (h_ d (au st) (aM (aE r))).1 (ps++[(aQ st.1.2.1,(st.2.2.2.1,(aS r,(r,()))))]) ha
    (by show LE.le (α:=Int) 0 (st.2.2.2.1+aS r);omega) (fun x hx=>hr x (jF _ hx)) (key _ _ _ hl hr1)
   refine ⟨b1,b2,b3,?_⟩;have b4:LE.le (α:=Int) (bR rs (AN st (st.2.2.2.1+aS r)) (h_ d (au st) (aM (aE r))).1 (ps++[(aQ st.1.2.1,(st.2.2.2.1,(aS r,(r,()))))])).1.1.2.2.2.1 (st.2.2.2.1+aS r+30*(rs.length:Int)):=b4;have key2:∀ X E R L:Int,X≤E+R+30*L→R≤30→X≤E+30*(L+1):=by omega
   exact key2 _ _ _ _ b4 hr1
theorem LA {st:Ty.d aC} {d:Ty.d aA} {l:dX} (h:SA d.1) (hs:bo st d=true) (h0:LE.le (α:=Int) 0 st.2.2.2.1) (hr:∀ r ∈ bf l st.2.2.1,aS r≤30) (hl:LE.le (α:=Int) (st.2.2.2.1+30*((l.length:Int)+1)) 200) (hc:(bm st d l).2.2=0) :
 SA (bm st d l).2.1.1∧LE.le (α:=Int) 0 (bm st d l).1.2.2.2.1∧LE.le (α:=Int) (bm st d l).1.2.2.2.1 (st.2.2.2.1+30*((l.length:Int)+1)):=by
 have hn:=Int.natCast_nonneg l.length;have same:LE.le (α:=Int) st.2.2.2.1 (st.2.2.2.1+30*((l.length:Int)+1)):=by omega
 unfold bm at hc ⊢;rw [hs] at hc ⊢;simp only [g9,aH] at hc ⊢;cases c1:!bw l with
 | true=>exact ⟨h,h0,same⟩
 | false =>
  rw [c1] at hc;simp only [aH] at hc ⊢;cases c2:(l.length:Int)==0 with
  | true=>exact ⟨h,h0,same⟩
  | false =>
   rw [c2] at hc;simp only [aH] at hc ⊢;cases c3:decide (jL st.2.1 l > 20) with
   | true=>exact ⟨h,h0,same⟩
   | false =>
    rw [c3] at hc;simp only [aH] at hc ⊢;cases c4:decide (st.2.2.1 > 1000000) with
    | true=>exact ⟨h,h0,same⟩
    | false =>
     rw [c4] at hc;simp only [aH] at hc ⊢;have hlen:((bf l st.2.2.1).length:Int)=(l.length:Int)+1:=by unfold bf;rw [fq,List.length_map];omega
     obtain ⟨g1,_,_⟩:=bn hs;have g1':SR (iV st) (d,0) 100000:=⟨g1.live,g1.disk,g1.lo,g1.hi⟩;obtain ⟨a1,_,_⟩:=nC (bf l st.2.2.1) (iV st) d [] 100000 g1' (by decide);obtain ⟨b1,b2,b3,b4⟩:=Kd (bf l st.2.2.1) (iV st) d [] (h.sx _) h0 hr (by rw [hlen];exact hl);rw [hlen] at b4;unfold bS at hc ⊢;generalize bR (bf l st.2.2.1) (iV st) d []=q at a1 b1 b2 b3 b4 hc ⊢;have ea:au q.1.1=au (iV st):=by unfold au;rw [b2]
     unfold rH at hc ⊢;cases c5:q.1.2.2 != 0 with
     | true =>rw [c5] at hc;simp only [ae] at hc;rw [hc] at c5;cases c5
     | false =>
      rw [c5] at hc;simp only [aH] at hc ⊢;cases c6:(cQ q.1.2.1 (au q.1.1)).2 != 0 with
      | true =>
       rw [c6] at hc;simp only [ae] at hc;have:((tl (cQ q.1.2.1 (au q.1.1))).2 != 0)=true:=by rw [kq];exact c6
       rw [hc] at this;cases this
      | false =>exact ⟨Ni a1.disk (by rw [ea];exact b1) (dY c6),b3,b4⟩
theorem CH {d y:Ty.d aA} (h:aW d=aW y) (tail:Int):∀ l:List Int,lx d tail l=lx y tail l
 | []=>rfl
 | x::l=>by unfold lx DY;rw [h,CH h tail l]
theorem Ot {d y:Ty.d aA} (h:aW d=aW y) (n:Int):nV d n=nV y n:=by funext e;unfold nV d6;rw [h]
theorem JY {l:ao} {a b:Int} (h:DR (fd l a)) (g:DR (fd l b)):aW (fd l a)=aW (fd l b):=by funext s;rw [jc h,jc g];rfl
theorem NE {st:Ty.d aC} {l:ao} {a b:Int} (h:DR (fd l a)) (g:DR (fd l b)):bo st (fd l a)=bo st (fd l b):=by unfold bo;rw [dH.2 h,dH.2 g,CH (JY h g),Ot (JY h g)]
theorem Sv {l l':ao} {n:Int} {b:Bool} (hd:DR ((l',(100000,(n,(b,())))):Ty.d aA)) (h:SA l) (ha:Mw l l'):lz ((l',(100000,(n,(b,())))):Ty.d aA) [0]=fd l (-1):=by unfold lz;rw [dH.2 hd];show (po [0] l' 0,_)=_;rw [Jr 0 h ha];rfl
theorem E0 {st:Ty.d aC} {l:ao} {n:Int} (hs:bo st (fd l (-1))=true) (h:SA l) (n0:LE.le (α:=Int) 0 n) (n3:LE.le (α:=Int) n 3) {ps:dX} (hp:bw ps=true) (hlen:ps.length=2) (haf:jL st.2.1 ps≤20)
 (hb:LE.le (α:=Int) st.2.2.1 1000000) (h0:LE.le (α:=Int) 0 st.2.2.2.1) (hr:∀ r ∈ bf ps st.2.2.1,aS r≤30) (hl:LE.le (α:=Int) (st.2.2.2.1+90) 200) (hf:(b8 l (au st)).isSome=true) (hu:bv l+700≤100000) :
 (bm st (fd l n) ps).2.2=1∧lz (bm st (fd l n) ps).2.1 [0]=fd l (-1):=by
 have hd:DR (fd l (-1)):=(bn hs).1.disk;have hdn:DR (fd l n):=Qn hd (by omega) (by omega);have hrl:(bf ps st.2.2.1).length=3:=by unfold bf;rw [fq,List.length_map,hlen]
 have e:bm st (fd l n) ps=rH ps.length (bR (bf ps st.2.2.1) (iV st) (fd l n) []):=by unfold bm;rw [NE hdn hd,hs,hp,aZ (show ¬ jL st.2.1 ps > 20 by omega),aZ (show ¬ st.2.2.1 > (1000000:Int) from fun q=>absurd (show LT.lt (α:=Int) 1000000 st.2.2.1 from q) (by omega)),hlen];show bS st (fd l n) ps=_;unfold bS;rw [hlen]
 rw [e];obtain ⟨l',a1,a2,a3⟩:=Cr (bf ps st.2.2.1) (iV st) l n [] hdn n0 hf (by rw [hrl];omega) h0 hr (by rw [hrl];exact hl);rw [hrl] at a3;generalize bR (bf ps st.2.2.1) (iV st) (fd l n) []=q at a3 ⊢;have dd:DR (D4 l'):=⟨a2.len,a2.cap0,a2.cap1,a2.fu0,a2.fu1,a2.use,a2.all,a2.keys⟩;rcases a3 with ⟨c1,c2⟩ | ⟨c1,c2,c3⟩
 · unfold rH;have cc:(q.1.2.2 != 0)=true:=by rw [c2];rfl
   rw [cc];show q.1.2.2=1∧lz q.1.2.1 [0]=_;rw [c2];exact ⟨rfl,Sv dd h a1⟩
 · have e0:n-((3:Nat):Int)=0:=by omega
   rw [e0] at c2;have es:cQ (fd l' 0) (au q.1.1)=(D4 l',1):=by unfold cQ;exact CQ a2 _
   unfold rH;rw [c2];show (bif (cQ (fd l' 0) (au q.1.1)).2 != 0 then _ else _:Ty.d aC × RD).2.2=1∧lz (bif (cQ (fd l' 0) (au q.1.1)).2 != 0 then _ else _:Ty.d aC × RD).2.1 [0]=_;rw [es];exact ⟨rfl,Sv dd h a1⟩
theorem oJ {x:Int} (h0:0≤x) (h1:x<128):(jK x).size=1:=by
 have key:∀ n:Nat,n<128→(jK (n:Int)).size=1:=by decide +kernel
 obtain ⟨n,rfl⟩:∃ n:Nat,x=n:=⟨x.toNat,by omega⟩;exact key n (by omega)
theorem C_ {s:ByteArray} (h:s.size<128):(jG s).size=1+s.size:=by unfold jG;rw [ByteArray.size_append,oJ (by omega) (by omega)]
theorem L9 {b:Int} (hb0:0≤b) (hb:b<128) {p:Ty.d bF} (hk:p.1.size≤4) (hv:p.2.2.1.size≤4):aS (g7 b p)≤30:=by
 have hs:(aE (g7 b p)).size≤15:=by
  unfold aE g7;have e0:=C_ (s:=p.1) (by omega);have e1:=C_ (s:=p.2.2.1) (by omega);have v1:=oJ (x:=1) (by decide) (by decide);have v2:=oJ (x:=2) (by decide) (by decide);have vb:=oJ hb0 hb;cases p.2.1 with
  | true =>
   simp only [ae];split
   · rw [if_neg (by decide),if_pos trivial,ByteArray.size_append,ByteArray.size_append,e0,v2,vb];omega
   · exact Nat.zero_le _
  | false =>
   simp only [aH];split
   · rw [if_pos (.inl trivial),ByteArray.size_append,ByteArray.size_append,ByteArray.size_append,e0,e1,v1,vb];omega
   · exact Nat.zero_le _
 unfold aS aM;split
 · decide
 · have:=j9 (aE (g7 b p));rw [ByteArray.size_append,gu];omega
theorem IB {b:Int} (hb0:0≤b) (hb:b<128) {l:ij} (hl:l.length<128):aS (gB 3 b l)≤30:=by
 have hs:(aE (gB 3 b l)).size≤15:=by
  unfold aE gB;have v3:=oJ (x:=3) (by decide) (by decide);have vb:=oJ hb0 hb;have vl:=oJ (x:=(l.length:Int)) (by omega) (by omega);split
  · dsimp only;rw [if_neg (show ¬ ((3:Int)=1∨(3:Int)=4) by decide),if_neg (show ¬ ((3:Int)=2) by decide),ByteArray.size_append,ByteArray.size_append,ByteArray.size_append,v3,vb,vl,gu];omega
  · exact Nat.zero_le _
 unfold aS aM;split
 · decide
 · have:=j9 (aE (gB 3 b l));rw [ByteArray.size_append,gu];omega
theorem BQ {b:Int} (hb0:0≤b) (hb:b<128) {l:dX} (h:∀ p ∈ l,p.1.size≤4∧p.2.2.1.size≤4) (hl:l.length<128):∀ r ∈ bf l b,aS r≤30:=fun r hr=>by
 unfold bf at hr;rcases List.mem_append.1 hr with q | q
 · obtain ⟨p,hp,rfl⟩:=List.mem_map.1 q;exact L9 hb0 hb (h p hp).1 (h p hp).2
 · rw [List.mem_singleton.1 q];exact IB hb0 hb (by rw [List.length_map];exact hl)
def aK:ByteArray:=⟨#[97]⟩
def bK:ByteArray:=⟨#[98]⟩
def cK:ByteArray:=⟨#[99]⟩
def IW:ByteArray:=⟨#[110,111]⟩
def mP (k i:Int):Ty.d d5:=(k,(i,(ByteArray.empty,(ByteArray.empty,(0,())))))
def oy (i:Int) (key v:ByteArray):Ty.d d5:=(3,(i,(key,(v,(0,())))))
def Ee (i:Int) (key:ByteArray):Ty.d d5:=(2,(i,(key,(ByteArray.empty,(0,())))))
def pA (v:ByteArray):dX:=[(aK,(false,(v,()))),(bK,(false,(v,())))]
def pN:dX:=[(aK,(false,(IW,()))),(cK,(false,(IW,())))]
def t0:Ty.d bO:=(false,([],([],())))
def N7 (v:ByteArray):fL:=[(aK,(v,(1,()))),(bK,(v,(1,())))]
def m1:Ty.d eD:=(true,([],(1,([(true,([],([],()))),t0,t0],()))))
def m2 (v:ByteArray):Ty.d eD:=(true,([],(1,([(true,([],([(aK,(false,(v,())))],()))),t0,t0],()))))
def m3 (v:ByteArray):Ty.d eD:=(true,([],(1,([(true,([],(pA v,()))),t0,t0],()))))
def m4 (v:ByteArray):Ty.d eD:=(true,(N7 v,(2,([t0,t0,t0],()))))
def m5 (v:ByteArray):Ty.d eD:=(true,(N7 v,(2,([t0,(true,([],([],()))),t0],()))))
def m6 (v:ByteArray):Ty.d eD:=(true,(N7 v,(2,([t0,(true,([],([(aK,(false,(IW,())))],()))),t0],()))))
def m7 (v:ByteArray):Ty.d eD:=(true,(N7 v,(2,([t0,(true,([],(pN,()))),t0],()))))
theorem QW {key v:ByteArray} (hk:fg key=true) (hv:v.size≤24):bw [(key,(false,(v,())))]=true:=by unfold bw pB pB k_;simp only [hk,aX (show ((v.size:Int)≤24) by omega),yO,Bool.true_or,Bool.and_true,List.length_singleton];rfl
theorem QX {m:Ty.d eD} {i:Int} {key v:ByteArray} (hp:bw [(key,(false,(v,())))]=true) (hu:m.1=true) (hf:Ow m (oy i key v)=true) (ht:(FP m i).1=true)
 (hn:(jd ((FP m i).2.2.1++[(key,(false,(v,())))])).length≤8) (hl:((FP m i).2.2.1++[(key,(false,(v,())))]).length≤50) :
 ot m (oy i key v)=(yM m i (true,((FP m i).2.1,((FP m i).2.2.1++[(key,(false,(v,())))],()))),eX 0):=by
 have hp':bw [nO (oy i key v)]=true:=hp;have e:ot m (oy i key v)=bif !m.1 then (m,eX 6) else bif !Ow m (oy i key v) then (m,eX 4) else MN m (oy i key v):=rfl;have hw:gZ (FP m i) (nO (oy i key v))=((true,((FP m i).2.1,((FP m i).2.2.1++[(key,(false,(v,())))],()))),true):=by unfold gZ;rw [hp',show nO (oy i key v)=((key,(false,(v,()))):Ty.d bF) from rfl,ht,aZ (by omega),aZ (by omega)];rfl
 rw [e,hu,hf];unfold MN;rw [hp',show (oy i key v).2.1=i from rfl,hw];rfl
section
variable {v:ByteArray} (hv:v.size≤4)
theorem w1:ot Sd (mP 1 0)=(m1,eX 0):=by kernel_rfl
theorem w2 (hv:v.size≤4):ot m1 (oy 0 aK v)=(m2 v,eX 0) :=
 (QX (m:=m1) (i:=0) (key:=aK) (v:=v) (QW (by decide +kernel) (by omega)) rfl (by kernel_rfl) rfl (show (jd [(aK,(false,(v,())))]).length≤8 from (show (jd [(aK,(false,(v,())))]).length=1 by kernel_rfl)▸(by decide)) (show ([(aK,(false,(v,())))]:dX).length≤50 by simp)).trans (by kernel_rfl)
theorem w3 (hv:v.size≤4):ot (m2 v) (oy 0 bK v)=(m3 v,eX 0) :=
 (QX (m:=m2 v) (i:=0) (key:=bK) (v:=v) (QW (by decide +kernel) (by omega)) rfl (by kernel_rfl) rfl (show (jd (pA v)).length≤8 from (show (jd (pA v)).length=2 by kernel_rfl)▸(by decide)) (show (pA v).length≤50 by simp [pA])).trans (by kernel_rfl)
theorem w4:ot (m3 v) (mP 5 0)=(m4 v,eX 0):=by kernel_rfl
theorem w5:ot (m4 v) (mP 1 1)=(m5 v,eX 0):=by kernel_rfl
theorem w6:ot (m5 v) (oy 1 aK IW)=(m6 v,eX 0):=by kernel_rfl
theorem w7:ot (m6 v) (oy 1 cK IW)=(m7 v,eX 0):=by kernel_rfl
theorem w8:(ot (m7 v) (mP 5 1)).2=eX 0:=by kernel_rfl
def m8 (v:ByteArray):Ty.d eD:=(true,(N7 v,(2,(List.replicate 3 (Ty.z bO),()))))
theorem w9:(ot (m8 v) (mP 1 0)).2=eX 0:=by kernel_rfl
def r8 (v:ByteArray):Ty.d eD:=(ot (m8 v) (mP 1 0)).1
theorem UH:(ot (r8 v) (Ee 0 aK)).2=(0,(v,([],()))):=by kernel_rfl
def r9 (v:ByteArray):Ty.d eD:=(ot (r8 v) (Ee 0 aK)).1
theorem U2:(ot (r9 v) (Ee 0 bK)).2=(0,(v,([],()))):=by kernel_rfl
def pQ (v:ByteArray):Ty.d eD:=(ot (r9 v) (Ee 0 bK)).1
theorem U_:(ot (pQ v) (Ee 0 cK)).2=(8,(ByteArray.empty,([],()))):=by kernel_rfl
def s7 (v:ByteArray):Ty.d eD:=(ot (pQ v) (Ee 0 cK)).1
theorem UG:(ot (s7 v) (mP 8 0)).2=(0,(ByteArray.empty,([aK,bK],()))):=by kernel_rfl
theorem T4:jd (pA v)=pA v:=by kernel_rfl
theorem Qp:jd pN=pN:=by kernel_rfl
end
theorem ug {n:Int} {e:Ty.d aP} {m m':Ty.d eD} {a:Ty.d f9} (h:vJ n e m) (hn:n≤82) {s:Ty.d d5} (h11:(s.1==11)=false) (w:ot m s=(m',a)):(dA e s).2=a∧vJ (n+1) (dA e s).1 m':=by obtain ⟨h1,h2⟩:=oc h hn h11;rw [w] at h1 h2;exact ⟨h1,h2⟩
theorem Gg {d:Ty.d aA} {t:Int}:∀ {l:List Int},lx d t l=true→∀ x ∈ l,(aW d (a_ aD x)).2=true
 | [],_,x,hx=>by cases hx
 | y::l,h,x,hx=>by
  unfold lx DY at h;simp only [gY] at h;rcases List.mem_cons.1 hx with q | q
  · rw [q];exact h.1.1
  · exact Gg h.2 x q
theorem OQ {l:List Int} (h:1≤l.length):aQ l ∈ l:=by unfold aQ;rw [List.getD,List.getElem?_eq_getElem (by omega)];exact List.getElem_mem ..
theorem O_ {st:Ty.d aC} {d:Ty.d aA} (h:bo st d=true):(b8 d.1 (au st)).isSome=true:=by
 have hd:=(bn h).1.disk;have h':=h;unfold bo at h';simp only [gY] at h';obtain ⟨_,h2,_,_,h5,_⟩:=h';obtain ⟨_,_,g1,_,_⟩:=bD (nx:=st.1.1) (ids:=st.1.2.1) h2;have:=Gg h5 _ (OQ g1);rw [jc hd] at this;unfold au;cases c:b8 d.1 (a_ aD (aQ st.1.2.1)) with
 | none=>rw [c] at this;cases this
 | some f=>rfl
theorem F6 {e:Ty.d aP} {i:Int} (hu:e.1=true) (hf:qp e (mP 5 i)=true):dA e (mP 5 i)=iQ e (mP 5 i):=by have e1:dA e (mP 5 i)=bif !e.1 then (e,eX 6) else bif !qp e (mP 5 i) then (e,eX 4) else iQ e (mP 5 i):=rfl;rw [e1,hu,hf];rfl
theorem Is {e:Ty.d aP} {i:Int} {ps:dX} (ht:dS e i=(true,([],(ps,())))) (hn:jd ps=ps) :
 iQ e (mP 5 i)=((e.1,((bm e.2.1 e.2.2.1 ps).1,((bm e.2.1 e.2.2.1 ps).2.1,(uE e i rk).2.2.2))),eX (bm e.2.1 e.2.2.1 ps).2.2):=by
 unfold iQ;rw [show (mP 5 i).2.1=i from rfl,ht,show l9 ([]:List (Ty.d dt)) e.2.1.2.1=true from rfl,hn];rfl
noncomputable def eA (v:ByteArray):Ty.d aP:=(dA (dA (dA (dA (jE (cZ (iP 100000))) (mP 1 0)).1 (oy 0 aK v)).1 (oy 0 bK v)).1 (mP 5 0)).1
noncomputable def oa (v:ByteArray):Ty.d aP:=(dA (dA (dA (eA v) (mP 1 1)).1 (oy 1 aK IW)).1 (oy 1 cK IW)).1
theorem tD {v:ByteArray} (hv:v.size≤4) :
 (dA (jE (cZ (iP 100000))) (mP 1 0)).2=eX 0∧(dA (dA (jE (cZ (iP 100000))) (mP 1 0)).1 (oy 0 aK v)).2=eX 0 ∧
 (dA (dA (dA (jE (cZ (iP 100000))) (mP 1 0)).1 (oy 0 aK v)).1 (oy 0 bK v)).2=eX 0∧(dA (dA (dA (dA (jE (cZ (iP 100000))) (mP 1 0)).1 (oy 0 aK v)).1 (oy 0 bK v)).1 (mP 5 0)).2=eX 0 ∧
 (dA (eA v) (mP 1 1)).2=eX 0∧(dA (dA (eA v) (mP 1 1)).1 (oy 1 aK IW)).2=eX 0∧(dA (dA (dA (eA v) (mP 1 1)).1 (oy 1 aK IW)).1 (oy 1 cK IW)).2=eX 0 ∧
 vJ 7 (oa v) (m7 v)∧SA (oa v).2.2.1.1∧LE.le (α:=Int) 0 (oa v).2.1.2.2.2.1∧LE.le (α:=Int) (oa v).2.1.2.2.2.1 90:=by
 obtain ⟨d,ed,hsa⟩:=Ix;have h0:=Q9.2;obtain ⟨a1,h1⟩:=ug h0 (by decide) rfl w1;obtain ⟨a2,h2⟩:=ug h1 (by decide) rfl (w2 hv);obtain ⟨a3,h3⟩:=ug h2 (by decide) rfl (w3 hv);obtain ⟨a4,h4⟩:=ug h3 (by decide) rfl w4;obtain ⟨a5,h5⟩:=ug h4 (by decide) rfl w5;obtain ⟨a6,h6⟩:=ug h5 (by decide) rfl w6;obtain ⟨a7,h7⟩:=ug h6 (by decide) rfl w7;refine ⟨a1,a2,a3,a4,a5,a6,a7,h7,?_⟩;have no:∀ {e:Ty.d aP} {s:Ty.d d5},s.1≠5→s.1≠7→s.1≠9→s.1≠10→s.1≠11→QS e (dA e s).1:=fun h5 h7 h9 h10 h11=>R7 (fun q=>absurd q h5) h7 h9 h10 h11
 have k5:(3:Int)≠5:=by decide
 have k7:(3:Int)≠7:=by decide
 have k9:(3:Int)≠9:=by decide
 have k10:(3:Int)≠10:=by decide
 have P0:(3:Int)≠11:=by decide
 have p1:=no (e:=jE (cZ (iP 100000))) (s:=mP 1 0) (by decide) (by decide) (by decide) (by decide) (by decide);have p2:=no (e:=(dA (jE (cZ (iP 100000))) (mP 1 0)).1) (s:=oy 0 aK v) k5 k7 k9 k10 P0;have p3:=no (e:=(dA (dA (jE (cZ (iP 100000))) (mP 1 0)).1 (oy 0 aK v)).1) (s:=oy 0 bK v) k5 k7 k9 k10 P0;have p5:=no (e:=eA v) (s:=mP 1 1) (by decide) (by decide) (by decide) (by decide) (by decide);have p6:=no (e:=(dA (eA v) (mP 1 1)).1) (s:=oy 1 aK IW) (by decide) (by decide) (by decide) (by decide) (by decide);have p7:=no (e:=(dA (dA (eA v) (mP 1 1)).1 (oy 1 aK IW)).1) (s:=oy 1 cK IW) (by decide) (by decide) (by decide) (by decide) (by decide);have ed0:(jE (cZ (iP 100000))).2.1=BW∧(jE (cZ (iP 100000))).2.2.1=d:=by rw [ed];exact ⟨rfl,rfl⟩
 have hst:=(h3.store (by rw [h3.up];rfl)).2.2.2;have ht:dS (dA (dA (dA (jE (cZ (iP 100000))) (mP 1 0)).1 (oy 0 aK v)).1 (oy 0 bK v)).1 0=(true,([],(pA v,()))):=by unfold dS;rw [h3.txn];rfl
 have hf:qp (dA (dA (dA (jE (cZ (iP 100000))) (mP 1 0)).1 (oy 0 aK v)).1 (oy 0 bK v)).1 (mP 5 0)=true:=by unfold qp dS;rw [h3.txn];kernel_rfl
 have hup:(dA (dA (dA (jE (cZ (iP 100000))) (mP 1 0)).1 (oy 0 aK v)).1 (oy 0 bK v)).1.1=true:=by rw [h3.up];rfl
 have es:(dA (dA (dA (jE (cZ (iP 100000))) (mP 1 0)).1 (oy 0 aK v)).1 (oy 0 bK v)).1.2.1=BW:=(p3.2.1.trans (p2.2.1.trans p1.2.1)).trans ed0.1;have edk:(dA (dA (dA (jE (cZ (iP 100000))) (mP 1 0)).1 (oy 0 aK v)).1 (oy 0 bK v)).1.2.2.1=d:=(p3.2.2.trans (p2.2.2.trans p1.2.2)).trans ed0.2;have eA':eA v=(dA (dA (dA (dA (jE (cZ (iP 100000))) (mP 1 0)).1 (oy 0 aK v)).1 (oy 0 bK v)).1 (mP 5 0)).1:=rfl;have e7s:(oa v).2.1=(eA v).2.1:=p7.2.1.trans (p6.2.1.trans p5.2.1);have e7d:(oa v).2.2.1=(eA v).2.2.1:=p7.2.2.trans (p6.2.2.trans p5.2.2);rw [e7s,e7d,eA'];rw [F6 hup hf,Is ht T4] at a4 ⊢;rw [es,edk] at a4 hst ⊢;have hc:(bm BW d (pA v)).2.2=0:=congrArg (fun q:Ty.d f9=>q.1) a4;have hr:∀ r ∈ bf (pA v) BW.2.2.1,aS r≤30:=BQ (b:=1) (by decide) (by decide) (fun p hp=>by
  rcases List.mem_cons.1 hp with q | q
  · rw [q];exact ⟨(by decide:aK.size≤4),hv⟩
  · rw [List.mem_singleton.1 q];exact ⟨(by decide:bK.size≤4),hv⟩) (show (pA v).length<128 by simp [pA])
 obtain ⟨c1,c2,c3⟩:=LA hsa hst (Int.le_refl _) hr (show LE.le (α:=Int) ((0:Int)+30*(((pA v).length:Int)+1)) 200 from by simp [pA]) hc;exact ⟨c1,c2,c3⟩
theorem Dm {v:ByteArray} (hv:v.size≤4) {n:Int} (n0:LE.le (α:=Int) 0 n) (n3:LE.le (α:=Int) n 3) :
 (dA (sr (oa v) (nj (oa v).2.2.1 n)) (mP 5 1)).2=eX 1∧lz (dA (sr (oa v) (nj (oa v).2.2.1 n)) (mP 5 1)).1.2.2.1 [0]=(oa v).2.2.1:=by
 obtain ⟨_,_,_,_,_,_,_,h7,hsa,hz0,hz1⟩:=tD hv;have hu:(oa v).1=true:=h7.up;obtain ⟨bd,hdump,hbat,hst⟩:=h7.store hu;have hrest:=bd.op.rest;have huse:=bd.use;have hp:=bd.p0;have hdr:=bd.op.mi;have h8:=(oc h7 (by decide) (s:=mP 5 1) rfl).1;rw [w8] at h8;have ht:dS (oa v) 1=(true,([],(pN,()))):=by unfold dS;rw [h7.txn];rfl
 have hf:qp (oa v) (mP 5 1)=true:=by unfold qp dS;rw [h7.txn];kernel_rfl
 rw [F6 hu hf,Is ht Qp] at h8;have hc:(bm (oa v).2.1 (oa v).2.2.1 pN).2.2=0:=congrArg (fun q:Ty.d f9=>q.1) h8;have hbat2:(oa v).2.1.2.2.1=(2:Int):=hbat;have hact:=O_ hst;have hN:bw pN=true:=by kernel_rfl
 have haf:jL (oa v).2.1.2.1 pN≤20:=by
  by_cases c:jL (oa v).2.1.2.1 pN > 20
  · exfalso;unfold bm at hc;rw [hst,hN,aX c] at hc;cases hc
  · omega
 have edk:(oa v).2.2.1=fd (oa v).2.2.1.1 (-1):=Prod.ext rfl hrest;have hdr:DR (oa v).2.2.1:=(bn hst).1.disk;have efu:nj (oa v).2.2.1 n=fd (oa v).2.2.1.1 n:=by unfold nj;rw [dH.2 hdr];show ((oa v).2.2.1.1,((oa v).2.2.1.2.1,(n,(false,()))))=_;rw [show (oa v).2.2.1.2.1=(100000:Int) from congrArg (fun q:Int × Int × Bool × Unit=>q.1) hrest];rfl
 have hst':bo (oa v).2.1 (fd (oa v).2.2.1.1 (-1))=true:=by rw [← edk];exact hst
 have hr:∀ r ∈ bf pN (oa v).2.1.2.2.1,aS r≤30:=by
  rw [hbat2];exact BQ (by decide) (by decide) (fun p hp=>by
   rcases List.mem_cons.1 hp with q | q
   · rw [q];decide
   · rw [List.mem_singleton.1 q];decide) (show pN.length<128 by decide)
 obtain ⟨c1,c2⟩:=E0 hst' hsa n0 n3 hN rfl haf (by rw [hbat2];decide) hz0 hr (by omega) hact (by omega);have eup:(sr (oa v) (nj (oa v).2.2.1 n)).1=true:=hu;have ht':dS (sr (oa v) (nj (oa v).2.2.1 n)) 1=(true,([],(pN,()))):=ht;have hf':qp (sr (oa v) (nj (oa v).2.2.1 n)) (mP 5 1)=true:=hf;rw [F6 eup hf',Is ht' Qp];have es:(sr (oa v) (nj (oa v).2.2.1 n)).2.1=(oa v).2.1:=rfl;have ed:(sr (oa v) (nj (oa v).2.2.1 n)).2.2.1=fd (oa v).2.2.1.1 n:=efu;rw [es,ed];exact ⟨by show eX (bm (oa v).2.1 (fd (oa v).2.2.1.1 n) pN).2.2=_;rw [c1],c2.trans edk.symm⟩
noncomputable def eC (v:ByteArray):Ty.d aP:=jE (cZ (oa v).2.2.1)
theorem IM {v:ByteArray} (hv:v.size≤4):(cZ (oa v).2.2.1).2.2=0∧(dA (eC v) (mP 1 0)).2=eX 0∧(dA (dA (eC v) (mP 1 0)).1 (Ee 0 aK)).2=(0,(v,([],()))) ∧
 (dA (dA (dA (eC v) (mP 1 0)).1 (Ee 0 aK)).1 (Ee 0 bK)).2=(0,(v,([],())))∧(dA (dA (dA (dA (eC v) (mP 1 0)).1 (Ee 0 aK)).1 (Ee 0 bK)).1 (Ee 0 cK)).2=(8,(ByteArray.empty,([],()))) ∧
 (dA (dA (dA (dA (dA (eC v) (mP 1 0)).1 (Ee 0 aK)).1 (Ee 0 bK)).1 (Ee 0 cK)).1 (mP 8 0)).2=(0,(ByteArray.empty,([aK,bK],()))):=by
 obtain ⟨_,_,_,_,_,_,_,h7,_⟩:=tD hv;obtain ⟨o,h8⟩:=He h7;have h8:vJ 8 (eC v) (m8 v):=h8;obtain ⟨b1,g1⟩:=oc h8 (by decide) (s:=mP 1 0) rfl;obtain ⟨b2,g2⟩:=oc g1 (by decide) (s:=Ee 0 aK) rfl;obtain ⟨b3,g3⟩:=oc g2 (by decide) (s:=Ee 0 bK) rfl;obtain ⟨b4,g4⟩:=oc g3 (by decide) (s:=Ee 0 cK) rfl;obtain ⟨b5,g5⟩:=oc g4 (by decide) (s:=mP 8 0) rfl;exact ⟨o,b1.trans w9,b2.trans UH,b3.trans U2,b4.trans U_,b5.trans UG⟩
def su:List ByteArray→ByteArray
 | []=>iX
 | x::l=>x++(ja 10++su l)
theorem O6 (a:UInt8):gG a iX:=fun b h=>by cases h
theorem vZ {a:UInt8} {x y:ByteArray} (hx:gG a x) (hy:gG a y):gG a (x++y):=fun b h=>by
 rw [BB] at h;rcases List.mem_append.1 h with q | q
 · exact hx b q
 · exact hy b q
theorem xw:∀ {l:List ByteArray},(∀ x ∈ l,gG 10 x)→bC 10 (su l)=l++[iX]
 | [],_=>sF (O6 10)
 | x::l,h=>by show bC 10 (x++(ja 10++su l))=_;rw [oX (h x iF),xw fun y hy=>h y (jF _ hy)];rfl
theorem IC {l:List ByteArray} (h:∀ x ∈ l,gG 10 x):oI (su l)=l:=by
 unfold oI;rw [xw h];have e:(l++[iX]).getLastD iX=iX:=by simp
 rw [e,bB,ae,List.dropLast_concat]
theorem Nn {x y z v:ByteArray} (hx:gG 32 x) (hy:gG 32 y) (hz:gG 32 z) (hv:gG 32 v):bC 32 (x++(ja 32++(y++(ja 32++(z++(ja 32++v))))))=[x,y,z,v]:=by rw [oX hx,oX hy,oX hz,sF hv]
theorem q_:∀ n:Nat,n<256→(dp (n:Int)).size≤3∧1≤(dp (n:Int)).size∧∀ b ∈ (dp (n:Int)).data.toList,(b==10)=false∧(b==32)=false:=by decide +kernel
def wB (s:String):ByteArray:=s.toUTF8
theorem SZ:cY (wB "0")=(0,true):=by rw [show wB "0" = dp 0 by decide +kernel];exact pU ⟨by decide,by decide⟩
theorem TY:cY (wB "1")=(1,true):=by rw [show wB "1" = dp 1 by decide +kernel];exact pU ⟨by decide,by decide⟩
theorem Sb {line k:ByteArray} {K:Int} (hp:bC 32 line=[k]) (hk:qU [k]=K) (h0:(K != 0)=true) (h11:(K==11)=false):wq (bC 32 line)=true∧jS (bC 32 line)=mP K 0:=by rw [hp];unfold wq jS;rw [hk,h0,h11];exact ⟨rfl,rfl⟩
theorem KV {line k d:ByteArray} {K n:Int} (hp:bC 32 line=[k,d]) (hk:qU [k,d]=K) (h0:(K != 0)=true) (hd:cY d=(n,true)) (h11:(K==11)=false):wq (bC 32 line)=true∧jS (bC 32 line)=mP K n:=by rw [hp];unfold wq jS Ag;rw [hk,h0,h11,show ([k,d]:List ByteArray).getD 1 iX=d from rfl,hd];exact ⟨rfl,rfl⟩
theorem TH {line k d key:ByteArray} {K n:Int} (hp:bC 32 line=[k,d,key]) (hk:qU [k,d,key]=K) (h0:(K != 0)=true) (hd:cY d=(n,true)) (h11:(K==11)=false):wq (bC 32 line)=true∧jS (bC 32 line)=(K,(n,(key,(iX,(0,()))))):=by rw [hp];unfold wq jS Ag;rw [hk,h0,h11,show ([k,d,key]:List ByteArray).getD 1 iX=d from rfl,hd];exact ⟨rfl,rfl⟩
theorem K6 {line k d key v:ByteArray} {K n:Int} (hp:bC 32 line=[k,d,key,v]) (hk:qU [k,d,key,v]=K) (h0:(K != 0)=true) (hd:cY d=(n,true)) (h11:(K==11)=false):wq (bC 32 line)=true∧jS (bC 32 line)=(K,(n,(key,(v,(0,()))))):=by rw [hp];unfold wq jS Ag;rw [hk,h0,h11,show ([k,d,key,v]:List ByteArray).getD 1 iX=d from rfl,hd];exact ⟨rfl,rfl⟩
theorem lL {e:Ty.d aP} {line:ByteArray} {s:Ty.d d5} {a:Ty.d f9} (h:wq (bC 32 line)=true∧jS (bC 32 line)=s) (ha:(dA e s).2=a):mj e line=((dA e s).1,CY s a):=by unfold mj;rw [h.1,h.2,ha];rfl
theorem gL {x:ByteArray} {l:List ByteArray} {e e':Ty.d aP} {out t:ByteArray} (hx:seq x iX=false) (h:mj e x=(e',t)):ma (x::l) e out=ma l e' (out++(t++Bj)):=by show (bif seq x iX then _ else ma l (mj e x).1 (out++((mj e x).2++Bj)))=_;rw [hx,h];rfl
theorem HC {x:ByteArray} (h:1≤x.size):seq x iX=false:=by
 cases c:seq x iX with
 | false=>rfl
 | true =>rw [cF.1 c] at h;exact absurd h (by decide)
theorem M4 {e:Ty.d aP} {n:Nat} (hn:n<4):mj e (wB "fuel " ++ dp (n:Int))=(sr e (nj e.2.2.1 (n:Int)),wB "ok"):=by
 obtain ⟨d1,d2,d3⟩:=q_ n (by omega);have hp:bC 32 (wB "fuel " ++ dp (n:Int))=[wB "fuel",dp (n:Int)]:=by rw [show wB "fuel " = wB "fuel" ++ ja 32 by decide +kernel,ByteArray.append_assoc,oX (by unfold gG;decide +kernel),sF fun b hb=>(d3 b hb).2]
 have hk:qU [wB "fuel",dp (n:Int)]=0:=by kernel_rfl
 have hr:cY (dp (n:Int))=((n:Int),true):=pU ⟨by omega,by omega⟩;have hs:seq (wB "fuel " ++ dp (n:Int)) "used".toUTF8=false:=by
  cases c:seq (wB "fuel " ++ dp (n:Int)) "used".toUTF8 with
  | false=>rfl
  | true =>have:=congrArg ByteArray.size (cF.1 c);rw [gj,show (wB "fuel ").size=5 by decide,show "used".toUTF8.size=4 by decide] at this;omega
 unfold mj;rw [hp,hs];unfold wq;rw [hk];unfold B5;rw [show ([wB "fuel",dp (n:Int)]:List ByteArray).getD 1 iX=dp (n:Int) from rfl,hr,show seq (([wB "fuel",dp (n:Int)]:List ByteArray).getD 0 iX) "fuel".toUTF8=true from bB _,aX (show (-1:Int)≤(n:Int)∧(n:Int)≤100000 by omega)];rfl
theorem JG {e:Ty.d aP}:mj e (wB "power 0")=(jE (cZ (lz e.2.2.1 [0])),Am (cZ (lz e.2.2.1 [0])).2.2):=by
 have hp:bC 32 (wB "power 0")=[wB "power",wB "0"]:=by decide +kernel
 have hk:qU [wB "power",wB "0"]=0:=by kernel_rfl
 have hs:seq (wB "power 0") "used".toUTF8=false:=by kernel_rfl
 unfold mj;rw [hp,hs];unfold wq;rw [hk];unfold B5;rw [show ([wB "power",wB "0"]:List ByteArray).getD 1 iX=wB "0" from rfl,SZ,show seq (([wB "power",wB "0"]:List ByteArray).getD 0 iX) "fuel".toUTF8=false by kernel_rfl,show seq (([wB "power",wB "0"]:List ByteArray).getD 0 iX) "power".toUTF8=true from bB _];rfl
def nY (v d:ByteArray):List ByteArray :=
 [wB "begin 0",wB "put 0 a " ++ v,wB "put 0 b " ++ v,wB "commit 0",wB "begin 1",wB "put 1 a no",wB "put 1 c no",wB "fuel " ++ d,wB "commit 1",wB "power 0",wB "begin 0",wB "get 0 a",wB "get 0 b",wB "get 0 c",wB "list"]
def wN (v:ByteArray):List ByteArray :=
 [wB "ok",wB "ok",wB "ok",wB "ok",wB "ok",wB "ok",wB "ok",wB "ok",wB "down",wB "ok",wB "ok",wB "ok" ++ (Gs++v),wB "ok" ++ (Gs++v),wB "none",(wB "ok" ++ (Gs++aK))++(Gs++bK)]
def P8 (acc:ByteArray) (l:List ByteArray):ByteArray:=l.foldl (fun s x=>s++(x++Bj)) acc
theorem Cu:wq (bC 32 (wB "begin 0"))=true∧jS (bC 32 (wB "begin 0"))=mP 1 0:=KV (k:=wB "begin") (d:=wB "0") (by decide +kernel) (by kernel_rfl) rfl SZ rfl
theorem LQ:wq (bC 32 (wB "begin 1"))=true∧jS (bC 32 (wB "begin 1"))=mP 1 1:=KV (k:=wB "begin") (d:=wB "1") (by decide +kernel) (by kernel_rfl) rfl TY rfl
theorem Hy:wq (bC 32 (wB "commit 0"))=true∧jS (bC 32 (wB "commit 0"))=mP 5 0:=KV (k:=wB "commit") (d:=wB "0") (by decide +kernel) (by kernel_rfl) rfl SZ rfl
theorem JL:wq (bC 32 (wB "commit 1"))=true∧jS (bC 32 (wB "commit 1"))=mP 5 1:=KV (k:=wB "commit") (d:=wB "1") (by decide +kernel) (by kernel_rfl) rfl TY rfl
theorem Px:wq (bC 32 (wB "list"))=true∧jS (bC 32 (wB "list"))=mP 8 0:=Sb (k:=wB "list") (by decide +kernel) (by kernel_rfl) rfl rfl
theorem Ht (key:ByteArray) (line:ByteArray) (hp:bC 32 line=[wB "get",wB "0",key]) (hk:qU [wB "get",wB "0",key]=2):wq (bC 32 line)=true∧jS (bC 32 line)=Ee 0 key:=TH hp hk rfl SZ rfl
theorem Pd:wq (bC 32 (wB "put 1 a no"))=true∧jS (bC 32 (wB "put 1 a no"))=oy 1 aK IW:=K6 (k:=wB "put") (d:=wB "1") (by decide +kernel) (by kernel_rfl) rfl TY rfl
theorem P3:wq (bC 32 (wB "put 1 c no"))=true∧jS (bC 32 (wB "put 1 c no"))=oy 1 cK IW:=K6 (k:=wB "put") (d:=wB "1") (by decide +kernel) (by kernel_rfl) rfl TY rfl
theorem RY {v:ByteArray} (hv:gG 32 v):wq (bC 32 (wB "put 0 a " ++ v))=true∧jS (bC 32 (wB "put 0 a " ++ v))=oy 0 aK v:=by refine K6 (k:=wB "put") (d:=wB "0") (key:=aK) (v:=v) ?_ (by kernel_rfl) rfl SZ rfl;rw [show wB "put 0 a " = wB "put" ++ (ja 32++(wB "0" ++ (ja 32++(aK++ja 32)))) by decide +kernel];simp only [ByteArray.append_assoc];exact Nn (by unfold gG;decide +kernel) (by unfold gG;decide +kernel) (by unfold gG;decide +kernel) hv
theorem Pg {v:ByteArray} (hv:gG 32 v):wq (bC 32 (wB "put 0 b " ++ v))=true∧jS (bC 32 (wB "put 0 b " ++ v))=oy 0 bK v:=by refine K6 (k:=wB "put") (d:=wB "0") (key:=bK) (v:=v) ?_ (by kernel_rfl) rfl SZ rfl;rw [show wB "put 0 b " = wB "put" ++ (ja 32++(wB "0" ++ (ja 32++(bK++ja 32)))) by decide +kernel];simp only [ByteArray.append_assoc];exact Nn (by unfold gG;decide +kernel) (by unfold gG;decide +kernel) (by unfold gG;decide +kernel) hv
theorem JR {x:ByteArray} (v:ByteArray) (h:1≤x.size):seq (x++v) iX=false:=HC (by rw [gj];omega)
theorem JP {v:ByteArray} (hv:v.size≤4) (hf:gG 32 v) {n:Nat} (hn:n<4):ma (nY v (dp (n:Int))) (jE (cZ (iP 100000))) iX=P8 iX (wN v):=by
 obtain ⟨a1,a2,a3,a4,a5,a6,a7,_⟩:=tD hv;obtain ⟨b1,b2⟩:=Dm hv (n:=(n:Int)) (by omega) (by omega);obtain ⟨c0,c1,c2,c3,c4,c5⟩:=IM hv;have hE:∀ (x:ByteArray),1≤x.size→seq x iX=false:=fun x h=>HC h
 unfold nY;rw [gL (hE _ (by decide)) (lL Cu a1),gL (JR v (by decide)) (lL (RY hf) a2),gL (JR v (by decide)) (lL (Pg hf) a3),gL (hE _ (by decide)) (lL Hy a4)];change ma _ (eA v) _=_;rw [gL (hE _ (by decide)) (lL LQ a5),gL (hE _ (by decide)) (lL Pd a6),gL (hE _ (by decide)) (lL P3 a7)];change ma _ (oa v) _=_;rw [gL (JR _ (by decide)) (M4 hn),gL (hE _ (by decide)) (lL JL b1),gL (hE _ (by decide)) JG];rw [b2,c0];change ma _ (eC v) _=_;rw [gL (hE _ (by decide)) (lL Cu c1),gL (hE _ (by decide)) (lL (Ht aK (wB "get 0 a") (by decide +kernel) (by kernel_rfl)) c2),gL (hE _ (by decide)) (lL (Ht bK (wB "get 0 b") (by decide +kernel) (by kernel_rfl)) c3),
  gL (hE _ (by decide)) (lL (Ht cK (wB "get 0 c") (by decide +kernel) (by kernel_rfl)) c4),gL (hE _ (by decide)) (lL Px c5)]
 rfl
theorem tk (s:String) (h:(wB s).data.toList.all (fun b=>!(b==10))=true):gG 10 (wB s):=fun b hb=>by have:=List.all_eq_true.1 h b hb;simpa using this
theorem GZ {B:Nat}:∀ {l:List ByteArray},(∀ x ∈ l,x.size≤B)→(su l).size≤(B+1)*l.length
 | [],_=>Nat.zero_le _
 | x::l,h=>by
  have h1:=h x iF;have h2:=GZ fun y hy=>h y (jF _ hy)
  have e1:(ja 10).size=1:=rfl;show (x++(ja 10++su l)).size≤_;rw [gj,gj,e1,kM,Nat.mul_succ];omega
theorem U7 {s:String} (h:decide ((wB s).size≤20)=true):(wB s).size≤30:=Nat.le_trans (of_decide_eq_true h) (by decide)
theorem K_ {s:String} {v:ByteArray} (h:decide ((wB s).size≤20)=true) (hv:v.size≤10):(wB s++v).size≤30:=by have:=of_decide_eq_true h;rw [gj];omega
theorem L8 {v:ByteArray} (hv:v.size≤4) (h10:gG 10 v) (h32:gG 32 v) {n:Nat} (hn:n<4):JZ (su (nY v (dp (n:Int))))=P8 iX (wN v):=by
 obtain ⟨d1,d2,d3⟩:=q_ n (by omega);have hl:∀ x ∈ nY v (dp (n:Int)),gG 10 x:=fun x hx=>by
  unfold nY at hx;simp only [List.mem_cons,List.not_mem_nil,or_false] at hx;rcases hx with q | q | q | q | q | q | q | q | q | q | q | q | q | q | q <;> rw [q] <;>
   first
    | exact vZ (tk _ (by decide +kernel)) h10
    | exact vZ (tk _ (by decide +kernel)) fun b hb=>(d3 b hb).1
    | exact tk _ (by decide +kernel)
 have hz:(su (nY v (dp (n:Int)))).size≤31*15:=GZ (l:=nY v (dp (n:Int))) fun x hx=>by
  unfold nY at hx;simp only [List.mem_cons,List.not_mem_nil,or_false] at hx;rcases hx with q | q | q | q | q | q | q | q | q | q | q | q | q | q | q <;> rw [q] <;>
   first
    | exact K_ (by decide +kernel) (Nat.le_trans hv (by decide))
    | exact K_ (by decide +kernel) (Nat.le_trans d1 (by decide))
    | exact U7 (by decide +kernel)
 generalize hs:su (nY v (dp (n:Int)))=s at hz;have hlen:(nY v (dp (n:Int))).length=15:=rfl;have hlj:=IC hl;rw [hs] at hlj;unfold JZ;rw [hlj,hlen,aZ (by omega),aZ (by omega),Bool.false_or,aH];exact JP hv h32 hn
def Hi:ByteArray:=wB "begin 0\nput 0 a "
def Jw:ByteArray:=wB "\nput 0 b "
def Ox:ByteArray:=wB "\ncommit 0\nbegin 1\nput 1 a no\nput 1 c no\nfuel "
def SN:ByteArray:=wB "\ncommit 1\npower 0\nbegin 0\nget 0 a\nget 0 b\nget 0 c\nlist\n"
def NT:ByteArray:=wB "ok\nok\nok\nok\nok\nok\nok\nok\ndown\nok\nok\nok "
def PM:ByteArray:=wB "\nok "
def TI:ByteArray:=wB "\nnone\nok a b\n"
theorem MU (v d:ByteArray):(((((Hi++v)++Jw)++v)++Ox)++d)++SN=su (nY v d):=by
 rw [show Hi=wB "begin 0" ++ (ja 10++wB "put 0 a ") by decide +kernel,show Jw=ja 10++wB "put 0 b " by decide +kernel,
  show Ox=ja 10++(wB "commit 0" ++ (ja 10++(wB "begin 1" ++ (ja 10++(wB "put 1 a no" ++ (ja 10++(wB "put 1 c no" ++ (ja 10++wB "fuel ")))))))) by decide +kernel,
  show SN=ja 10++(wB "commit 1" ++ (ja 10++(wB "power 0" ++ (ja 10++(wB "begin 0" ++ (ja 10++(wB "get 0 a" ++ (ja 10++(wB "get 0 b" ++ (ja 10++(wB "get 0 c" ++ (ja 10++(wB "list" ++ (ja 10++iX)))))))))))))) by decide +kernel]
 unfold nY;simp only [su,ByteArray.append_assoc]
theorem HI (v:ByteArray):(((NT++v)++PM)++v)++TI=P8 iX (wN v):=by
 have e:iX++(wB "ok" ++ Bj)=wB "ok\n" := by decide +kernel
 unfold wN P8;simp only [List.foldl_cons,List.foldl_nil];rw [e];rw [show NT=wB "ok\n" ++ ((wB "ok" ++ Bj)++((wB "ok" ++ Bj)++((wB "ok" ++ Bj)++((wB "ok" ++ Bj)++((wB "ok" ++ Bj)++((wB "ok" ++ Bj)++((wB "ok" ++ Bj)++((wB "down" ++ Bj)++((wB "ok" ++ Bj)++((wB "ok" ++ Bj)++(wB "ok" ++ Gs))))))))))) by decide +kernel,
  show PM=Bj++(wB "ok" ++ Gs) by decide +kernel,show TI=Bj++(wB "none" ++ (Bj++(wB "ok" ++ (Gs++(aK++(Gs++(bK++Bj))))))) by decide +kernel]
 simp only [ByteArray.append_assoc]
theorem Oq {x:Nat} (h:x<256):(wB "v" ++ dp (x:Int)).size≤4∧gG 10 (wB "v" ++ dp (x:Int))∧gG 32 (wB "v" ++ dp (x:Int)):=by
 obtain ⟨d1,d2,d3⟩:=q_ x h;refine ⟨?_,vZ (tk _ (by decide +kernel)) fun b hb=>(d3 b hb).1,vZ (by unfold gG;decide +kernel) fun b hb=>(d3 b hb).2⟩;have e:(wB "v").size=1:=by decide +kernel
 rw [gj,e];omega
open Go.V Go.Lib
theorem sI (k:Nat) {s:ByteArray} (hs:s.size≤4294967000) (a:UInt8):iD.f k s (ja a)=some (bC a s,()):=by unfold iD.f;rw [aX ⟨by omega,Nat.le_refl 1⟩,ae,Dv]
theorem GK:∀ {l:List ByteArray},l≠[]→l.getD (l.length-1) (Ty.z .str)=l.getLastD iX
 | [],h=>absurd rfl h
 | [x],_=>rfl
 | x::y::l,_=>by have:=GK (l:=y::l) (by simp);simpa [List.getLastD,List.getD] using this
theorem FD (k:Nat) {s:ByteArray} (hs:s.size≤4294967000):jU.f k s=some (oI s,()):=by
 unfold jU.f jU.t oI;rw [show (⟨#[10]⟩:ByteArray)=ja 10 from rfl,sI k hs,ac];have hn:=CP 10 s;have hl:=Av 10 s;generalize bC 10 s=l at hn hl ⊢;have h1:1≤l.length:=by
  cases l with
  | nil=>exact absurd rfl hn
  | cons x l=>rw [kM];omega
 simp only [];rw [aG (n:=(l.length:Int)-1) (by omega) (by omega),aY (by omega) (by omega),d7 (by omega) (by omega),show ((l.length:Int)-1).toNat=l.length-1 by omega,GK hn,List.dropLast_eq_take];show (bif seq (l.getLastD iX) iX then _ else _)=some ((bif seq (l.getLastD iX) iX then _ else _),());cases seq (l.getLastD iX) iX <;> rfl
def JX:ByteArray:=⟨#[111,107,32,100,111,119,110,32,115,112,97,99,101,32,99,111,114,114,117,112,116,32,97,114,103,115,32,109,97,110,121,32,99,108,111,115,101,100,32,99,111,110,102,108,105,99,116,32,110,111,110,101]⟩
theorem G2:bC 32 JX=xQ:=by decide +kernel
theorem xx (k:Nat) (c:Int):gW.f k c=some (Am c,()):=by
 unfold gW.f gW.t Am;rw [iU,ac];simp only [];cases h:decide (0≤c∧c≤8) with
 | false=>rfl
 | true =>have h:=of_decide_eq_true h;simp only [g9,aH,ae];have es:=sI k (s:=JX) (by decide) 32;rw [G2] at es;refine (congrArg (fun o:Option (List ByteArray × Unit)=>o.bind _) es).trans ?_;rw [ac];simp only [];rw [aY h.1 (by show c<((9:Nat):Int);omega)];rfl
def SI:ByteArray:=⟨#[98,101,103,105,110]⟩
def Sa:ByteArray:=⟨#[99,111,109,109,105,116]⟩
def SP:ByteArray:=⟨#[97,98,111,114,116]⟩
def SO:ByteArray:=⟨#[114,111,111,109]⟩
def SV:ByteArray:=⟨#[103,101,116]⟩
def SQ:ByteArray:=⟨#[100,101,108]⟩
def SJ:ByteArray:=⟨#[112,117,116]⟩
def TL:ByteArray:=⟨#[109,101,114,103,101]⟩
def T7:ByteArray:=⟨#[108,105,115,116]⟩
def Sq:ByteArray:=⟨#[99,108,111,115,101]⟩
def TM:ByteArray:=⟨#[111,112,101,110]⟩
def q8 (s:ByteArray) (n:Nat):Int :=
 bif seq s SI&&n==2 then 1 else bif seq s SV&&n==3 then 2 else bif seq s SJ&&n==4 then 3 else bif seq s SQ&&n==3 then 4 else
 bif seq s Sa&&n==2 then 5 else bif seq s SP&&n==2 then 6 else bif seq s TL&&n==1 then 7 else bif seq s T7&&n==1 then 8 else
 bif seq s Sq&&n==1 then 9 else bif seq s TM&&n==1 then 10 else bif seq s SO&&n==2 then 11 else 0
theorem NH (w:List ByteArray):qU w=q8 (w.getD 0 iX) w.length:=by
 have e1 : "begin".toUTF8=SI:=by kernel_rfl
 have e2 : "get".toUTF8=SV:=by kernel_rfl
 have e3 : "put".toUTF8=SJ:=by kernel_rfl
 have e4 : "del".toUTF8=SQ:=by kernel_rfl
 have e5 : "commit".toUTF8=Sa:=by kernel_rfl
 have e6 : "abort".toUTF8=SP:=by kernel_rfl
 have e7 : "merge".toUTF8=TL:=by kernel_rfl
 have e8 : "list".toUTF8=T7:=by kernel_rfl
 have e9 : "close".toUTF8=Sq:=by kernel_rfl
 have e10 : "open".toUTF8=TM:=by kernel_rfl
 have e11 : "room".toUTF8=SO:=by kernel_rfl
 unfold qU q8;rw [e1,e2,e3,e4,e5,e6,e7,e8,e9,e10,e11]
theorem U5 (n:Nat):q8 SI n=bif n==2 then 1 else 0:=by kernel_rfl
theorem U9 (n:Nat):q8 SV n=bif n==3 then 2 else 0:=by kernel_rfl
theorem U1 (n:Nat):q8 SJ n=bif n==4 then 3 else 0:=by kernel_rfl
theorem UC (n:Nat):q8 SQ n=bif n==3 then 4 else 0:=by kernel_rfl
theorem UF (n:Nat):q8 Sa n=bif n==2 then 5 else 0:=by kernel_rfl
theorem UA (n:Nat):q8 SP n=bif n==2 then 6 else 0:=by kernel_rfl
theorem UB (n:Nat):q8 SO n=bif n==2 then 11 else 0:=by kernel_rfl
theorem Tj (s:ByteArray):q8 s 1=bif seq s TL then 7 else bif seq s T7 then 8 else bif seq s Sq then 9 else bif seq s TM then 10 else 0:=by unfold q8;have e2:((1:Nat)==2)=false:=rfl;have e3:((1:Nat)==3)=false:=rfl;have e4:((1:Nat)==4)=false:=rfl;have e1:((1:Nat)==1)=true:=rfl;simp only [e1,e2,e3,e4,Bool.and_false,Bool.and_true,aH]
theorem T8 {s:ByteArray} {n:Nat} (hn:n≠1) (h1:seq s SI=false) (h2:seq s SV=false) (h3:seq s SJ=false) (h4:seq s SQ=false) (h5:seq s Sa=false) (h6:seq s SP=false) (h7:seq s SO=false):q8 s n=0:=by
 unfold q8;have e1:(n==1)=false:=by rw [beq_eq_false_iff_ne];exact hn
 simp only [h1,h2,h3,h4,h5,h6,h7,e1,Bool.false_and,Bool.and_false,aH]
def Js:Ty.d d5:=(0,(0,(iX,(iX,(0,())))))
theorem Bv (k:Nat) {w:List ByteArray} (hn:w≠[]) (hl:w.length≤1099511627776) (hs:∀ x ∈ w,x.size≤281474976710656):kF.f k w=some (bif wq w then jS w else Js,(wq w,())):=by
 have h1:1≤w.length:=by
  cases w with
  | nil=>exact absurd rfl hn
  | cons x l=>rw [kM];omega
 unfold kF.f kF.t;rw [aY (i:=0) (by omega) (by omega)];by_cases c:w.length=1
 · rw [show ((w.length:Int)==1)=true by rw [c];rfl,ae];unfold j4.f j4.t wq jS Ag;rw [NH,c,Tj,aZ (by omega:¬ ((1:Nat):Int) > 1),aZ (by omega:¬ ((1:Nat):Int) > 2),aZ (by omega:¬ ((1:Nat):Int) > 3)];show (Option.bind (bif seq (w.getD 0 iX) TL then _ else bif seq (w.getD 0 iX) T7 then _ else bif seq (w.getD 0 iX) Sq then _ else bif seq (w.getD 0 iX) TM then _ else _) _)=_;cases seq (w.getD 0 iX) TL with
   | true=>rfl
   | false =>
    cases seq (w.getD 0 iX) T7 with
    | true=>rfl
    | false =>
     cases seq (w.getD 0 iX) Sq with
     | true=>rfl
     | false=>cases seq (w.getD 0 iX) TM <;> rfl
 · have h2:2≤w.length:=by omega
   have hw1:(w.getD 1 (Ty.z .str)).size≤281474976710656:=hs _ (eE (by omega));rw [show ((w.length:Int)==1)=false by rw [beq_eq_false_iff_ne];omega,aH,aY (i:=1) (by omega) (by omega),l_ k hw1,ac];simp only [];unfold wq jS Ag;rw [NH,aX (show (w.length:Int) > 1 by omega),aY (i:=0) (by omega) (by omega)];show (bif seq (w.getD 0 iX) SI then _ else bif seq (w.getD 0 iX) Sa then _ else bif seq (w.getD 0 iX) SP then _ else bif seq (w.getD 0 iX) SO then _ else bif seq (w.getD 0 iX) SV then _ else bif seq (w.getD 0 iX) SQ then _ else bif seq (w.getD 0 iX) SJ then _ else _)=_;have e1:w.getD 1 (Ty.z .str)=w.getD 1 iX:=rfl;have n2:((w.length:Int) != 2)=!(w.length==2):=by
    by_cases q:w.length=2
    · rw [q];rfl
    · rw [show ((w.length:Int) != 2)=true by rw [bne_iff_ne];omega,show (w.length==2)=false by rw [beq_eq_false_iff_ne];exact q];rfl
   have n3:((w.length:Int) != 3)=!(w.length==3):=by
    by_cases q:w.length=3
    · rw [q];rfl
    · rw [show ((w.length:Int) != 3)=true by rw [bne_iff_ne];omega,show (w.length==3)=false by rw [beq_eq_false_iff_ne];exact q];rfl
   have n4:((w.length:Int) != 4)=!(w.length==4):=by
    by_cases q:w.length=4
    · rw [q];rfl
    · rw [show ((w.length:Int) != 4)=true by rw [bne_iff_ne];omega,show (w.length==4)=false by rw [beq_eq_false_iff_ne];exact q];rfl
   rw [n2,n3,n4,e1];generalize cY (w.getD 1 iX)=q;have TWO:∀ kd:Int,(kd=1∨kd=5∨kd=6)→((bif !q.2 then some (Js,(false,())) else bif !(w.length==2) then some (Js,(false,())) else some ((kd,(q.1,(iX,(iX,(0,()))))),(true,()))):Option (Ty.d d5 × Bool × Unit)) =
    some (bif ((bif w.length==2 then kd else 0) != 0&&(!true||q.2)) then ((bif w.length==2 then kd else 0),(bif (bif w.length==2 then kd else 0)==11 then 0 else bif true then q.1 else 0,(bif decide ((w.length:Int) > 2) then w.getD 2 iX else iX,(bif decide ((w.length:Int) > 3) then w.getD 3 iX else iX,(bif (bif w.length==2 then kd else 0)==11 then bif true then q.1 else 0 else 0,()))))) else Js,
     ((bif w.length==2 then kd else 0) != 0&&(!true||q.2),())):=fun kd hk=>by
    by_cases c2:w.length=2
    · rw [c2];rcases hk with rfl | rfl | rfl <;> (cases q.2 <;> rfl)
    · rw [show (w.length==2)=false by rw [beq_eq_false_iff_ne];exact c2];cases q.2 <;> rfl
   cases c1:seq (w.getD 0 iX) SI with
   | true =>rw [cF.1 c1,U5];exact TWO 1 (.inl rfl)
   | false =>
    cases c2:seq (w.getD 0 iX) Sa with
    | true =>rw [cF.1 c2,UF];exact TWO 5 (.inr (.inl rfl))
    | false =>
     cases c3:seq (w.getD 0 iX) SP with
     | true =>rw [cF.1 c3,UA];exact TWO 6 (.inr (.inr rfl))
     | false =>
      cases c4:seq (w.getD 0 iX) SO with
      | true =>
       rw [cF.1 c4,UB];simp only [aH,ae];by_cases c2:w.length=2
       · rw [c2];cases q.2 <;> rfl
       · rw [show (w.length==2)=false by rw [beq_eq_false_iff_ne];exact c2];cases q.2 <;> rfl
      | false =>
       cases c5:seq (w.getD 0 iX) SV with
       | true =>
        rw [cF.1 c5,U9];simp only [aH,ae];by_cases c2:w.length=3
        · rw [aY (i:=2) (by omega) (by omega),c2];cases q.2 <;> rfl
        · rw [show (w.length==3)=false by rw [beq_eq_false_iff_ne];exact c2];cases q.2 <;> rfl
       | false =>
        cases c6:seq (w.getD 0 iX) SQ with
        | true =>
         rw [cF.1 c6,UC];simp only [aH,ae];by_cases c2:w.length=3
         · rw [aY (i:=2) (by omega) (by omega),c2];cases q.2 <;> rfl
         · rw [show (w.length==3)=false by rw [beq_eq_false_iff_ne];exact c2];cases q.2 <;> rfl
        | false =>
         cases c7:seq (w.getD 0 iX) SJ with
         | true =>
          rw [cF.1 c7,U1];simp only [aH,ae];by_cases c2:w.length=4
          · rw [aY (i:=2) (by omega) (by omega),aY (i:=3) (by omega) (by omega),c2];cases q.2 <;> rfl
          · rw [show (w.length==4)=false by rw [beq_eq_false_iff_ne];exact c2];cases q.2 <;> rfl
         | false =>rw [T8 c c1 c5 c7 c6 c2 c3 c4];rfl
theorem Gj {k:Nat} (hk:2 ^ 50≤k) (s:Ty.d d5) {a:Ty.d f9} (h:MY a) (hl:a.2.2.1.length≤268435456):dl.f k s a=some (CY s a,()):=by
 have hv:=h.1;have hk8:=h.2;unfold dl.f dl.t CY;cases a.1 != 0 with
 | true =>rw [ae,ae,xx,ac]
 | false =>
  simp only [aH];have hsp:Gs=(⟨#[32]⟩:ByteArray):=by kernel_rfl
  have hok : "ok".toUTF8=(⟨#[111,107]⟩:ByteArray):=by kernel_rfl
  have h3:(⟨#[32]⟩:ByteArray).size=1:=rfl;have h2:(⟨#[111,107]⟩:ByteArray).size=2:=rfl;have key:∀ acc:ByteArray,acc.size≤100→dl.l0 k k acc a.2.2.1 (a.2.2.1.length:Int) 0=some (HD acc a.2.2.1,()):=fun acc hacc=>by
   refine iZ (L:=fun n i (s:ByteArray)=>dl.l0 k n s a.2.2.1 (a.2.2.1.length:Int) i) (R:=fun r s=>some (HD s r,())) (Ty.z .str) a.2.2.1 (fun i s=>(s.size:Int)≤100+9*i) (fun n s hs=>?_) (fun n i s x rest g0 g1 hx hr hp ih=>?_) (n:=k) (s:=acc) (by omega) (by omega)
   · simp only [dl.l0,dl.b0];rw [aZ (by omega),aH];rfl
   · have hx8:x.size≤8:=by rw [← hx];exact hk8 _ (eE (by omega))
     simp only [dl.l0,dl.b0];rw [aX g1,ae,aY g0 g1,hx,eZ (by omega),eZ (by rw [gj];omega),aG (n:=i+1) (by omega) (by omega)];rw [← hsp];refine (ih (s++(Gs++x)) (by rw [gj,gj,hsp];omega)).trans ?_;rfl
  rw [hok,hsp];cases s.1==2 with
  | true =>simp only [ae];rw [eZ (by omega),eZ (by rw [gj];omega)];exact key _ (by rw [gj,gj];omega)
  | false=>exact key _ (by omega)
theorem E7 {k:Nat} (hk:2 ^ 50≤k) {d:Ty.d aA} (h:DR d):mG.f k d=some ((bv d.1:Int),()):=by have hsz:=h.sz;have z1:=hsz.l;have z2:=hsz.u;have z3:=hsz.n;unfold mG.f mG.t;rw [fa hk (by omega) (by omega),ac,dH.2 h];simp only [g9,aH];rw [rJ hk (by omega) (by omega)];rfl
theorem zX {a:UInt8} {s:ByteArray}:∀ (m f i:Nat),∀ x ∈ ri a s m f i,x.size≤s.size
 | 0,f,i,x,hx=>by unfold ri at hx;rw [List.mem_singleton.1 hx];exact IA s f s.size
 | m+1,f,i,x,hx=>by
  unfold ri at hx;cases c:s.data.toList.getD i 0==a with
  | true =>
   rw [c,ae] at hx;rcases List.mem_cons.1 hx with rfl | hx
   · exact IA s f i
   · exact zX m (i+1) (i+1) x hx
  | false =>rw [c,aH] at hx;exact zX m f (i+1) x hx
theorem sb {a:UInt8} {s x:ByteArray} (h:x ∈ bC a s):x.size≤s.size:=zX s.size 0 0 x h
def oL (q:Ty.d aP × ByteArray):Option (Ty.d aP × ByteArray × Unit):=some (q.1,(q.2,()))
theorem uK {k:Nat} (hk:2 ^ 50≤k) {e:Ty.d aP} (h:DE e) {line:ByteArray} (hs:line.size≤4294967000):db.f k e line=oL (mj e line):=by
 have hne:=CP 32 line;have hlen:=Av 32 line;have hps:∀ x ∈ bC 32 line,x.size≤281474976710656:=fun x hx=>Nat.le_trans (sb hx) (by omega)
 unfold db.f db.t mj;rw [show (⟨#[32]⟩:ByteArray)=ja 32 from rfl,sI k hs,ac];generalize bC 32 line=w at hne hlen hps ⊢;simp only [];rw [Bv k hne (by omega) hps,ac];simp only [];cases ok:wq w with
 | true =>obtain ⟨h2,h3,h4⟩:=CB hk h (jS w);simp only [ae];rw [h2];unfold oE;rw [ac];simp only [];rw [Gj hk (jS w) h4 (HG h (jS w)),ac];rfl
 | false =>
  simp only [aH];have eu : "used".toUTF8=(⟨#[117,115,101,100]⟩:ByteArray):=by kernel_rfl
  have ew : "what".toUTF8=(⟨#[119,104,97,116]⟩:ByteArray):=by kernel_rfl
  have ef : "fuel".toUTF8=(⟨#[102,117,101,108]⟩:ByteArray):=by kernel_rfl
  have en : "no".toUTF8=(⟨#[110,111]⟩:ByteArray):=by kernel_rfl
  have eo : "ok".toUTF8=(⟨#[111,107]⟩:ByteArray):=by kernel_rfl
  have ep : "power".toUTF8=(⟨#[112,111,119,101,114]⟩:ByteArray):=by kernel_rfl
  rw [eu];cases seq line ⟨#[117,115,101,100]⟩ with
  | true =>have hu:=h.ev.disk.use;have hc:=h.ev.disk.cap1;have hu':LE.le (α:=Int) (bv e.2.2.1.1:Int) 100000:=Int.le_trans hu hc;simp only [ae];rw [E7 hk h.ev.disk,ac];simp only [];rw [AX k (by omega) (by omega),ac];rfl
  | false =>
   simp only [aH];rw [ew];by_cases c2:w.length=2
   · rw [show ((w.length:Int) != 2)=false by rw [c2];rfl,show (w.length != 2)=false by rw [c2];rfl];simp only [aH];have hw1:(w.getD 1 (Ty.z .str)).size≤281474976710656:=hps _ (eE (by omega));unfold B5;rw [ew,ef,en,eo,ep,aY (i:=1) (by omega) (by omega),l_ k hw1,ac,aY (i:=0) (by omega) (by omega),aY (i:=0) (by omega) (by omega)];simp only [];rw [show w.getD 1 (Ty.z .str)=w.getD 1 iX from rfl,show w.getD 0 (Ty.z .str)=w.getD 0 iX from rfl];generalize cY (w.getD 1 iX)=q;cases q.2 with
     | false=>rfl
     | true =>
      simp only [g9,aH];cases seq (w.getD 0 iX) ⟨#[102,117,101,108]⟩ with
      | true =>
       simp only [ae];rw [iU,ac];simp only [];by_cases c : -1≤q.1∧q.1≤100000
       · rw [aX c];simp only [g9,aH,ae];rw [Ha hk h.ev.disk.sz c.1 c.2,ac];rfl
       · rw [aZ c];rfl
      | false =>
       simp only [aH];cases seq (w.getD 0 iX) ⟨#[112,111,119,101,114]⟩ with
       | true =>simp only [ae];have hp:=HP [q.1] h.ev.disk;rw [Eg hk h.ev.disk.sz (show [q.1].length≤1073741824 by rw [List.length_singleton];omega),ac];simp only [];rw [pe hk hp.sz,ac];simp only [];rw [xx,ac];rfl
       | false=>rfl
   · rw [show ((w.length:Int) != 2)=true by rw [bne_iff_ne];omega,show (w.length != 2)=true by rw [bne_iff_ne];exact c2];rfl
theorem OK (x:ByteArray):seq x (⟨#[]⟩:ByteArray)=seq x iX:=rfl
theorem J4 {α:Type} {l r:List α} {s:α} {i:Nat} (d:α) (hd:l.drop i=s::r):l.getD i d=s∧l.drop (i+1)=r∧i<l.length:=by
 have hlen:=congrArg List.length hd;rw [List.length_drop,kM] at hlen;refine ⟨?_,?_,by omega⟩
 · have:=congrArg (fun q=>q.getD 0 d) hd;simp only [List.getD,List.getElem?_drop,Nat.add_zero,List.getElem?_cons_zero,Option.getD_some] at this;exact this
 · have:=congrArg (List.drop 1) hd;rw [List.drop_drop] at this;exact this
theorem tC {k:Nat} (hk:2 ^ 50≤k) (l:List ByteArray) (hl:l.length≤60) (hs:∀ x ∈ l,x.size≤4294967000):∀ (r:List ByteArray) (n i:Nat) (e:Ty.d aP) (out:ByteArray),l.drop i=r→i≤l.length→r.length<n→DE e→out.size≤2500000001*i →
 fO.l1 k n out l (l.length:Int) (i:Int) e.2.1.1.2.1 e.2.1.2.1 e.2.2.1.1 e.2.2.2.1 e.1 e.2.1.1.1 e.2.1.2.2.1 e.2.1.2.2.2.1 e.2.1.2.2.2.2.1 e.2.2.1.2.1 e.2.2.1.2.2.1 e.2.2.1.2.2.2.1=some (ma r e out,()) ∧
 fO.l0 k n out l (l.length:Int) (i:Int) e.2.1.1.2.1 e.2.1.2.1 e.2.2.1.1 e.2.2.2.1 e.1 e.2.1.1.1 e.2.1.2.2.1 e.2.1.2.2.2.1 e.2.1.2.2.2.2.1 e.2.2.1.2.1 e.2.2.1.2.2.1 e.2.2.1.2.2.2.1=some (ma r e out,())
 | r,0,i,e,out,hd,hi,hn,he,ho=>absurd hn (Nat.not_lt_zero _)
 | [],n+1,i,e,out,hd,hi,hn,he,ho=>by
  have hlen:=congrArg List.length hd;rw [List.length_drop,List.length_nil] at hlen;constructor
  · simp only [fO.l1,fO.b1];rw [aZ (by omega),aH];rfl
  · simp only [fO.l0,fO.b0];rw [aZ (by omega),aH];rfl
 | x::r,n+1,i,e,out,hd,hi,hn,he,ho=>by
  obtain ⟨hget,hd2,hlt⟩:=J4 (Ty.z .str) hd;have hx:x.size≤4294967000:=hs x (by rw [← hget];exact eE hlt);obtain ⟨g1,g2⟩:=Pb he x;have hnl:Bj=(⟨#[10]⟩:ByteArray):=by kernel_rfl
  have h10:(⟨#[10]⟩:ByteArray).size=1:=rfl;have hl1:(x::r).length=r.length+1:=kM;obtain ⟨s1,s0⟩:=tC hk l hl hs r n (i+1) e out hd2 hlt (by omega) he (by omega);obtain ⟨t1,t0⟩:=tC hk l hl hs r n (i+1) (mj e x).1 (out++((mj e x).2++Bj)) hd2 hlt (by omega) g1 (by rw [gj,gj,hnl];omega);rw [show ((i+1:Nat):Int)=(i:Int)+1 from rfl] at s1 s0 t1 t0;constructor
  · simp only [fO.l1,fO.b1];rw [aX (by omega),ae,aY (by omega) (by omega),Int.toNat_natCast,hget,OK,aG (n:=(i:Int)+1) (by omega) (by omega)];unfold ma;cases seq x iX with
    | true=>exact s1
    | false =>simp only [yO,ae,aH];have ha:=uK hk he hx;unfold oL at ha;rw [show ((e.1,(((e.2.1.1.1,(e.2.1.1.2.1,())),(e.2.1.2.1,(e.2.1.2.2.1,(e.2.1.2.2.2.1,(e.2.1.2.2.2.2.1,()))))),((e.2.2.1.1,(e.2.2.1.2.1,(e.2.2.1.2.2.1,(e.2.2.1.2.2.2.1,())))),(e.2.2.2.1,())))):Ty.d aP)=e from rfl,ha,ac];simp only [];rw [eZ (by omega),eZ (by rw [gj];omega),← hnl];exact t1
  · simp only [fO.l0,fO.b0];rw [aX (by omega),ae,aY (by omega) (by omega),Int.toNat_natCast,hget,OK,aG (n:=(i:Int)+1) (by omega) (by omega)];unfold ma;cases seq x iX with
    | true=>exact s0
    | false =>simp only [yO,ae,aH];have ha:=uK hk he hx;unfold oL at ha;rw [show ((e.1,(((e.2.1.1.1,(e.2.1.1.2.1,())),(e.2.1.2.1,(e.2.1.2.2.1,(e.2.1.2.2.2.1,(e.2.1.2.2.2.2.1,()))))),((e.2.2.1.1,(e.2.2.1.2.1,(e.2.2.1.2.2.1,(e.2.2.1.2.2.2.1,())))),(e.2.2.2.1,())))):Ty.d aP)=e from rfl,ha,ac];simp only [];rw [eZ (by omega),eZ (by rw [gj];omega),← hnl];exact t1
theorem G1 {s x:ByteArray} (h:x ∈ oI s):x.size≤s.size:=by
 unfold oI at h;cases c:seq ((bC 10 s).getLastD iX) iX with
 | true=>rw [c,ae] at h;exact sb (List.dropLast_subset _ h)
 | false=>rw [c,aH] at h;exact sb h
theorem Gd {k:Nat} (hk:2 ^ 50≤k) {s:ByteArray} (hs:s.size≤4294967000):fO.f k s=some (JZ s,()):=by
 unfold fO.f fO.t JZ;rw [FD k hs,ac];simp only [];cases decide ((s.size:Int) > 4000) with
 | true=>rfl
 | false =>
  cases c60:decide (((oI s).length:Int) > 60) with
  | true=>rfl
  | false =>have c60:=of_decide_eq_false c60;simp only [Bool.or_self,aH];rw [Ig k (by decide) (by decide),ac];simp only [];have hD:=KD (n:=100000) (by decide) (by decide);rw [show (([],((100000:Int),(-1,(false,())))):Ty.d aA)=iP 100000 from rfl,pe hk hD.sz,ac];simp only [];exact (tC hk (oI s) (by omega) (fun x hx=>Nat.le_trans (G1 hx) hs) (oI s) k 0 (jE (cZ (iP 100000))) iX rfl (Nat.zero_le _) (by omega) (DZ hD) (Nat.zero_le _)).2
def vW:ByteArray:=wB "v"
def Oe (k:Nat) (code:List Int):Option (Bool × Unit) :=
 (og.f k code).bind fun r1=>bif r1.1 then some (true,()) else
 (mQ.f k code 0).bind fun r2=>(iM.f k r2.1).bind fun r3=>jm vW r3.1 <|
 (mQ.f k code 1).bind fun r4=>jm Hi (vW++r3.1) <| jm (Hi++(vW++r3.1)) Jw <| jm ((Hi++(vW++r3.1))++Jw) (vW++r3.1) <| jm (((Hi++(vW++r3.1))++Jw)++(vW++r3.1)) Ox <|
 (iM.f k (Int.tmod r4.1 4)).bind fun r5=>jm ((((Hi++(vW++r3.1))++Jw)++(vW++r3.1))++Ox) r5.1 <| jm (((((Hi++(vW++r3.1))++Jw)++(vW++r3.1))++Ox)++r5.1) SN <|
 (fO.f k ((((((Hi++(vW++r3.1))++Jw)++(vW++r3.1))++Ox)++r5.1)++SN)).bind fun r6 =>
 jm NT (vW++r3.1) <| jm (NT++(vW++r3.1)) PM <| jm ((NT++(vW++r3.1))++PM) (vW++r3.1) <| jm (((NT++(vW++r3.1))++PM)++(vW++r3.1)) TI <|
 some (seq r6.1 ((((NT++(vW++r3.1))++PM)++(vW++r3.1))++TI),())
theorem QL (k:Nat) (code:List Int):fP.f k code=Oe k code:=by kernel_rfl
theorem MS {k:Nat} (hk:2 ^ 50≤k) {code:List Int} (hb:∀ x ∈ code,(0:Int)≤x∧x≤255):fP.f k code=some (true,()):=by
 rw [QL];refine Rr ?_;unfold Oe;have hbig:og.f k code=some (decide ((code.length:Int) > 1048576),()):=rfl;refine u9 hbig ?_;refine KT (fun _=>sZ rfl) fun hbg=>?_
 have hl:code.length≤1048576:=by have:=of_decide_eq_false hbg;omega
 refine vv (Sp hl hb (i:=0) (by omega) (by omega)) fun r2 q2=>?_
 obtain ⟨X,hX⟩:∃ X:Int,X=r2.1:=⟨_,rfl⟩;rw [← hX] at q2 ⊢;obtain ⟨x,rfl⟩:∃ x:Nat,X=(x:Int):=⟨X.toNat,by omega⟩;have hx:x<256:=by omega
 obtain ⟨v1,v2,v3⟩:(vW++dp (x:Int)).size≤4∧gG 10 (vW++dp (x:Int))∧gG 32 (vW++dp (x:Int)):=Oq hx;refine u9 (B8 hk (by omega) (by omega)) ?_;simp only [];have hv:(vW++dp (x:Int)).size≤4:=v1;have hd:(dp (x:Int)).size≤3:=(q_ x hx).1;have s0:vW.size=1:=by decide +kernel
 have s1:Hi.size≤100:=by decide +kernel
 have s2:Jw.size≤100:=by decide +kernel
 have s3:Ox.size≤100:=by decide +kernel
 have s4:SN.size≤100:=by decide +kernel
 have a1:NT.size≤100:=by decide +kernel
 have a2:PM.size≤100:=by decide +kernel
 have a3:TI.size≤100:=by decide +kernel
 refine mS (by omega) ?_;refine vv (Sp hl hb (i:=1) (by omega) (by omega)) fun r4 q4=>?_
 obtain ⟨Y,hY⟩:∃ Y:Int,Y=r4.1:=⟨_,rfl⟩;rw [← hY] at q4 ⊢;have hn0:0≤Int.tmod Y 4:=Int.tmod_nonneg _ q4.1;have hn1:Int.tmod Y 4<4:=Int.tmod_lt_of_pos _ (by omega);obtain ⟨n,hn⟩:∃ n:Nat,Int.tmod Y 4=(n:Int):=⟨(Int.tmod Y 4).toNat,by omega⟩;have hn4:n<4:=by omega
 rw [hn];have hdn:(dp (n:Int)).size≤3:=(q_ n (by omega)).1;generalize vW++dp (x:Int)=v at v1 v2 v3 hv ⊢;have z1:(Hi++v).size≤104:=by rw [gj];omega
 have z2:((Hi++v)++Jw).size≤204:=by rw [gj];omega
 have z3:(((Hi++v)++Jw)++v).size≤208:=by rw [gj];omega
 have z4:((((Hi++v)++Jw)++v)++Ox).size≤308:=by rw [gj];omega
 have z5:(((((Hi++v)++Jw)++v)++Ox)++dp (n:Int)).size≤311:=by rw [gj];omega
 have z6:((((((Hi++v)++Jw)++v)++Ox)++dp (n:Int))++SN).size≤411:=by rw [gj];omega
 have y1:(NT++v).size≤104:=by rw [gj];omega
 have y2:((NT++v)++PM).size≤204:=by rw [gj];omega
 have y3:(((NT++v)++PM)++v).size≤208:=by rw [gj];omega
 refine mS (by omega) (mS (by omega) (mS (by omega) (mS (by omega) ?_)));refine u9 (B8 hk (by omega) (by omega)) ?_;simp only [];refine mS (by omega) (mS (by omega) ?_);refine u9 (Gd hk (by omega)) ?_;simp only [];refine mS (by omega) (mS (by omega) (mS (by omega) (mS (by omega) ?_)));rw [MU,L8 hv v2 v3 hn4,HI,bB];exact sZ rfl
theorem fnDeskWorks_pure:∀ x,Wf (tup [.slice (.int .u8)]) x→∃ k r,fP.f k x.1=some r∧od (B:=[.bool]) (gx ([.val (.slice (.int .u8))])) r=(true,()):=by
 rintro ⟨a0,_⟩ ⟨f0,_⟩
 suffices Ev (fun k=>fP.f k a0) (true,()) by obtain ⟨k,h⟩:=this.some;exact ⟨k,(true,()),h,rfl⟩
 have hb:∀ x ∈ a0,(0:Int)≤x∧x≤255:=fun x hx=>by
  have h1:(Lit.int .u8 x).wf=true:=f0.2 x hx;have h2:(0:Int)≤x∧x≤(255:Int):=by simpa [Lit.wf,IntKind.min,IntKind.max,IntKind.bits,IntKind.signed] using h1
  exact h2
 exact S5 fun k hk=>MS hk hb
end Go.Proofs.YteejjngdagmofaaGreatDoor.G

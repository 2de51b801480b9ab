/- Plain laws, merged; what is proved here is told ahead of each part. -/
import Derived.Test.YteejjngdagmofaaGreatDoorZK2
set_option linter.unusedVariables false
set_option linter.unusedSimpArgs false
namespace Go.Proofs.YteejjngdagmofaaGreatDoor.G
open Go.V
theorem Jd {a b:Int} (h:a<b) (g:b≤100000):a≤100000:=by omega
theorem On {d:Ty.d aA} {s:ByteArray} (hd:DR d) (z:(fG s d).2=0):fT (fG s d).1 s=none:=by
 unfold fG at z ⊢;cases c:(b8 d.1 s).isSome with
 | false =>
  rw [aH];refine Ea.1 ?_;cases q:b8 d.1 s with
  | none=>rfl
  | some f=>rw [q] at c;cases c
 | true =>
  rw [c] at z;simp only [ae] at z ⊢;obtain ⟨c1,c2⟩:=nB z;refine Ea.1 ?_;show b8 (fA d (rr s)).1.1 s=none;rw [c2];unfold rr at c1 ⊢;cases q:(b8 d.1 s).isNone with
  | true=>rw [q] at c1;exact absurd c1 (by show (3:Int)≠0;decide)
  | false=>exact oh hd.keys s
theorem qs {t:ByteArray}:∀ (l:List ByteArray) (d:Ty.d aA),DR d→(bX l d).2=0→(t ∈ l∨fT d t=none)→fT (bX l d).1 t=none
 | [],d,_,_,h=>by
  rcases h with h | h
  · cases h
  · exact h
 | s::l,d,hd,z,h=>by
  obtain ⟨z1,e,z2⟩:=iw (r:=fG s d) (f:=bX l) z;have hx:=nF s d hd;show fT (dz (fG s d) (bX l)).1 t=none;rw [e];refine qs l (fG s d).1 hx z2 ?_;by_cases q:s=t
  · rw [← q];exact .inr (On hd z1)
  · rcases h with h | h
    · rcases List.mem_cons.1 h with w | w
      · exact absurd w.symm q
      · exact .inl w
    · exact .inr ((Er q).trans h)
theorem GU {f:Ty.d aF}:∀ {l:ao},f ∈ l→b8 l f.1≠none
 | [],h,_=>(by cases h)
 | g::l,h,q=>by
  unfold b8 at q;cases c:seq g.1 f.1 with
  | true=>rw [c] at q;cases q
  | false =>
   rw [c,aH] at q;rcases List.mem_cons.1 h with w | w
   · rw [w,bB] at c;cases c
   · exact GU w q
theorem Jy:(Kh c_).2=false:=by
 unfold Kh;rcases j6 (SK c_) (fun _=>c_) (0:Int) c_ with ⟨r,h1,_,_⟩ | h
 · exfalso;obtain ⟨h0,h2,h3⟩:=h1;have hp:=OS r;rcases h3 with q | q
   · have:=congrArg nb q;rw [gS] at this;cases this
   · have:=congrArg nb q;rw [gS] at this;cases this
 · rw [h]
theorem IY {ids:List Int} {d:Ty.d aA} {t:ByteArray} (ht:t=c_∨∃ x ∈ ids,1≤x∧x≤100000∧t=a_ aD x):fT (fw ids d).1 t=fT d t:=by
 refine nP _ d fun s hs q=>?_
 have h:=Nq hs;rw [q] at h;rcases ht with w | ⟨x,hx,h0,h1,w⟩
 · rw [w,Jy,Bool.false_and,Bool.false_or] at h;have:=congrArg nb (cF.1 h);cases this
 · have hh:uF ids x=true:=by unfold uF;rw [List.any_eq_true];exact ⟨x,hx,beq_self_eq_true _⟩
   rw [w,sg (.inl rfl) h0 h1,hh] at h;simp only [g9,Bool.and_false,Bool.false_or] at h;exact gk ⟨h0,h1⟩ (cF.1 h).symm
noncomputable def Dd (d:Ty.d aA):List Int→Int
 | []=>0
 | x::l=>(bif decide ((b9 (dJ d x)).2<((dJ d x).size:Int)) then 1 else 0)+Dd d l
theorem Ap {d:Ty.d aA}:∀ {l:List Int},gp d l=true→(∀ x ∈ l,(aW d (a_ aD x)).2=true)∧0≤Dd d l∧Dd d l≤1
 | [],_=>⟨fun x hx=>(by cases hx),Int.le_refl _,by unfold Dd;decide⟩
 | x::l,h=>by
  unfold gp rL at h;simp only [gY,Bool.or_eq_true,Bool.not_eq_true'] at h;obtain ⟨⟨h1,h2⟩,h3⟩:=h;obtain ⟨i1,i2,i3⟩:=Ap h3;refine ⟨fun y hy=>?_,?_⟩
  · rcases List.mem_cons.1 hy with w | w
    · rw [w];exact h1
    · exact i1 y w
  · have e1:Dd d (x::l)=(bif decide ((b9 (dJ d x)).2<((dJ d x).size:Int)) then 1 else 0)+Dd d l:=rfl;rw [e1];rcases h2 with q | q
    · have:l=[]:=List.isEmpty_iff.1 q;subst this;show 0≤(bif _ then (1:Int) else 0)+0∧(bif _ then (1:Int) else 0)+0≤1;cases decide ((b9 (dJ d x)).2<((dJ d x).size:Int)) <;> exact ⟨by decide,by decide⟩
    · rw [q,aH];exact ⟨by omega,by omega⟩
theorem Cq {d:Ty.d aA}:∀ {l:List Int},gp d l=true→∀ x ∈ l,x≠aQ l→(b9 (dJ d x)).2=((dJ d x).size:Int)
 | [],_,x,hx,_=>(by cases hx)
 | y::l,h,x,hx,hn=>by
  unfold gp rL at h;simp only [gY,Bool.or_eq_true,Bool.not_eq_true'] at h;obtain ⟨⟨h1,h2⟩,h3⟩:=h;have hl:l≠[]→aQ (y::l)=aQ l:=fun q=>by
   cases l with
   | nil=>exact absurd rfl q
   | cons z l=>rfl
  rcases List.mem_cons.1 hx with w | w
  · rw [w] at hn ⊢;rcases h2 with q | q
    · have:l=[]:=List.isEmpty_iff.1 q;subst this;exact absurd rfl hn
    · have:=of_decide_eq_false q;have:=(lW (dJ d y)).2;omega
  · have hne:l≠[]:=fun q=>by rw [q] at w;cases w
    exact Cq h3 x w (by rw [← hl hne];exact hn)
theorem DG {d d':Ty.d aA}:∀ {l:List Int},(∀ x ∈ l,b9 (dJ d' x)=b9 (dJ d x))→kJ d' l=kJ d l
 | [],_=>rfl
 | x::l,h=>by show bP x (b9 (dJ d' x)).1++kJ d' l=bP x (b9 (dJ d x)).1++kJ d l;rw [DG fun y hy=>h y (jF _ hy),h x iF]
def SF (f:Ty.d aF):Prop:=@Eq Int f.2.2.1 (f.2.1.size:Int)
noncomputable def oT (ids:List Int) (f:Ty.d aF):Bool:=!na ids f
noncomputable def Nv (ids:List Int) (l:ao):ao:=l.filter (oT ids)
noncomputable def Tq (f:Ty.d aF):Ty.d aF:=(f.1,(ByteArray.extract f.2.1 0 (b9 f.2.1).2.toNat,(((ByteArray.extract f.2.1 0 (b9 f.2.1).2.toNat).size:Int),())))
noncomputable def U0 (ids:List Int) (l:ao):ao:=bif ids.isEmpty then Nv ids l else iT Tq (Nv ids l) (a_ aD (aQ ids))
theorem r_ (d:Ty.d aA) (g:ao→Int→ao × Int):(fA d g).1.1=d.1∨(fA d g).1.1=(g d.1 d.2.1).1:=by
 unfold fA;cases (jC d).2 != 0 with
 | true=>exact .inl (vD d)
 | false=>exact .inr rfl
def dk (l:ao) (c:Int):Ty.d aA:=(l,(c,(-1,(false,()))))
theorem Lt {l:ao} {c:Int} (h:DR (dk l c)) (g:ao→Int→ao × Int):fA (dk l c) g=(dk (g l c).1 c,(g l c).2):=by
 unfold fA;have e:jC (dk l c)=(dk l c,0):=by unfold jC;rw [dH.2 h];rfl
 rw [e];rfl
theorem MJ {ids:List Int} {x:Int} (hx:x ∈ ids) (h:1≤x∧x≤100000):∀ g:Ty.d aF,g.1=a_ aD x→oT ids g=true:=fun g hg=>by
 have hh:uF ids x=true:=by unfold uF;rw [List.any_eq_true];exact ⟨x,hx,beq_self_eq_true _⟩
 unfold oT na;rw [hg,sg (.inl rfl) h.1 h.2,jr (fun q=>gk h q.symm)];show (!((true&&!uF ids x)||false))=true;rw [hh];rfl
theorem CM {x:Int} (hx:1≤x∧x≤100000):a_ bG x≠gT:=fun q=>by
 have e:a_ bG x=bG++dp x:=by unfold a_;rw [aX hx];rfl
 rw [e] at q;have:=congrArg nb q;rw [gS] at this;cases this
theorem Hw {ids:List Int} {x:Int} (hx:x ∈ ids) (h:1≤x∧x≤100000):∀ g:Ty.d aF,g.1=a_ bG x→oT ids g=true:=fun g hg=>by
 have hh:uF ids x=true:=by unfold uF;rw [List.any_eq_true];exact ⟨x,hx,beq_self_eq_true _⟩
 unfold oT na;rw [hg,sg (.inr rfl) h.1 h.2,jr (CM h)];show (!((true&&!uF ids x)||false))=true;rw [hh];rfl
theorem JO (ids:List Int):∀ g:Ty.d aF,g.1=c_→oT ids g=true:=fun g hg=>by unfold oT na;rw [hg,Jy,jr (fun q=>by have:=congrArg nb q;cases this)];rfl
structure PR (ids:List Int) (c:Int) (l l':ao):Prop where
 d:DR (dk l c)
 d':DR (dk l' c)
 s:∀ f ∈ l,SF f
 s':∀ f ∈ l',SF f
 nf:U0 ids l=U0 ids l'
theorem H2 {ids:List Int} (h:1≤ids.length):aQ ids ∈ ids:=by unfold aQ;exact eE (by omega)
noncomputable def Sw (d:Ty.d aA):List Int:=bif (aW d c_).2 then (dW (aW d c_).1).1.2.1 else []
def pD (t:ByteArray) (f:Ty.d aF):Ty.d aF:=(f.1,(f.2.1++t,f.2.2))
def Mw:ao→ao→Prop
 | [],l'=>l'=[]
 | f::l,l'=>∃ t r,l'=pD t f::r∧Mw l r
theorem Lm (s:ByteArray):s++ByteArray.empty=s:=ByteArray.append_empty
theorem va:∀ l,Mw l l
 | []=>rfl
 | f::l=>⟨ByteArray.empty,l,by show _=(f.1,(f.2.1++ByteArray.empty,f.2.2))::l;rw [Lm],va l⟩
theorem Jb {s t:ByteArray}:∀ {l l':ao},Mw l l'→Mw l (iT (pD t) l' s)
 | [],l',h=>by have h:l'=[]:=h;rw [h];rfl
 | f::l,l',h=>by
  obtain ⟨u,r,rfl,hr⟩:=h;unfold iT;cases seq (pD u f).1 s with
  | true =>refine ⟨u++t,r,?_,hr⟩;show pD t (pD u f)::r=_;unfold pD;simp only [ByteArray.append_assoc]
  | false=>exact ⟨u,iT (pD t) r s,rfl,Jb hr⟩
theorem TN (i:Nat) (room:Int):pK [0] i room=0:=by
 unfold pK;have e:([0]:List Int).getD (i % ([0]:List Int).length) 0=0:=by rw [show i % ([0]:List Int).length=0 from Nat.mod_one i];rfl
 rw [e,Int.zero_emod];rfl
theorem P_ {f:Ty.d aF} (h:SF f) (i:Nat) (t:ByteArray):Bl [0] i (pD t f)=f:=by have hs:f.2.2.1=(f.2.1.size:Int):=h;unfold Bl;rw [TN];have e1:((pD t f).2.2.1:Int)=(f.2.1.size:Int):=hs;have e2:(pD t f).2.1=f.2.1++t:=rfl;rw [e1,Int.add_zero,Int.toNat_natCast,e2];have e3:ByteArray.extract (f.2.1++t) 0 f.2.1.size=f.2.1:=jt (by rw [ss,gS,List.drop_zero,← dD,List.take_left]);rw [e3,← hs];rfl
theorem Jr:∀ {l l':ao} (i:Nat),(∀ f ∈ l,SF f)→Mw l l'→po [0] l' i=l
 | [],l',i,_,h=>by have h:l'=[]:=h;rw [h];rfl
 | f::l,l',i,hs,h=>by obtain ⟨t,r,rfl,hr⟩:=h;unfold po;rw [P_ (hs f iF),Jr (i+1) (fun x hx=>hs x (jF _ hx)) hr]
def fd (l:ao) (n:Int):Ty.d aA:=(l,(100000,(n,(false,()))))
def D4 (l:ao):Ty.d aA:=(l,(100000,(0,(true,()))))
theorem Qn {l:ao} {a b:Int} (h:DR (fd l a)) (h0:LE.le (α:=Int) (-1) b) (h1:LE.le (α:=Int) b 100000):DR (fd l b):=⟨h.len,h.cap0,h.cap1,h0,h1,h.use,h.all,h.keys⟩
theorem CQ {l:ao} (h:DR (fd l 0)) (g:ao→Int→ao × Int):fA (fd l 0) g=(D4 l,1):=by
 have e:jC (fd l 0)=(D4 l,1):=by unfold jC;rw [dH.2 h];rfl
 unfold fA;rw [e];rfl
theorem Ov {l:ao} {n:Int} (h:DR (fd l n)) (h0:LE.le (α:=Int) 1 n) (g:ao→Int→ao × Int):fA (fd l n) g=(fd (g l 100000).1 (n-1),(g l 100000).2):=by
 have h1:LE.le (α:=Int) n 100000:=h.fu1;have e:jC (fd l n)=(fd l (n-1),0):=by
  unfold jC;rw [dH.2 h];have z:(n==0)=false:=by rw [beq_eq_false_iff_ne];omega
  show (bif (n==0) then _ else bif decide ((n:Int) > 0) then ((l,(100000,(aU (n-1),(false,())))),0) else (fd l n,0))=_;rw [z,aH,aX (show n > 0 by omega),ae,aG (n:=n-1) (by omega) (by omega)];rfl
 unfold fA;rw [e];rfl
theorem PD {l:ao} {n:Int} (h:DR (fd l n)) (h0:LE.le (α:=Int) 1 n) {s t:ByteArray} {f:Ty.d aF} (hf:b8 l s=some f) (hr:bv l+t.size≤100000) :
 h_ (fd l n) s t=(fd (iT (pD t) l s) (n-1),0)∧DR (fd (iT (pD t) l s) (n-1))∧bv (iT (pD t) l s)=bv l+t.size∧(b8 (iT (pD t) l s) s).isSome=true:=by
 have hz:=ox (h:=pD t) hf;have hq:(pD t f).2.1.size=f.2.1.size+t.size:=ByteArray.size_append ..;have hg:rl s t l 100000=(iT (pD t) l s,0):=by unfold rl;rw [hf,aG (n:=100000-(bv l:Int)) (by omega) (by omega),aZ (by omega)];rfl
 have e:h_ (fd l n) s t=(fd (iT (pD t) l s) (n-1),0):=by unfold h_;rw [Ov h h0,hg]
 have hd:=oP h s t;rw [e] at hd;refine ⟨e,hd,by omega,?_⟩;rw [rM (h:=pD t) (fun _=>rfl),bB,ae,hf];rfl
theorem Cr:∀ (rs:ij) (st:Ty.d aC) (l:ao) (n:Int) (ps:aT),DR (fd l n)→LE.le (α:=Int) 0 n→(b8 l (au st)).isSome=true→bv l+211*rs.length≤100000 →
 LE.le (α:=Int) 0 st.2.2.2.1→(∀ r ∈ rs,aS r≤30)→LE.le (α:=Int) (st.2.2.2.1+30*(rs.length:Int)) 200 →
 ∃ l',Mw l l'∧DR (fd l' 0)∧((n<(rs.length:Int)∧(bR rs st (fd l n) ps).1.2=(D4 l',1)) ∨
  ((rs.length:Int)≤n∧(bR rs st (fd l n) ps).1.2=(fd l' (n-(rs.length:Int)),0)∧au (bR rs st (fd l n) ps).1.1=au st))
 | [],st,l,n,ps,h,h0,hf,hu,hs,hr,hl=>⟨l,va l,Qn h (by decide) (by decide),.inr ⟨by rw [List.length_nil];omega,by
  unfold bR;rw [List.length_nil];show (fd l n,(0:Int))=(fd l (n-((0:Nat):Int)),0);rw [show n-((0:Nat):Int)=n by omega],rfl⟩⟩
 | r::rs,st,l,n,ps,h,h0,hf,hu,hs,hr,hl=>by
  have hlen:((r::rs).length:Int)=(rs.length:Int)+1:=by rw [kM];omega
  have hlen':(r::rs).length=rs.length+1:=kM;have hr1:=hr r iF;obtain ⟨w0,w1⟩:=kj r;have hl':LE.le (α:=Int) (st.2.2.2.1+30*((rs.length:Int)+1)) 200:=by rw [← hlen];exact hl
  have hrot:¬ (st.2.2.2.1+aS r > (200:Int)):=by
   have key:∀ E R L:Int,E+30*(L+1)≤200→R≤30→0≤L→¬ (E+R > 200):=by omega
   exact key _ _ _ hl' hr1 (Int.natCast_nonneg _)
  have ea:da st (fd l n) r=gh st (fd l n) r:=by unfold da;rw [aZ (show ¬ (st.2.2.2.1+aS r > (200:Int)) from hrot),Bool.and_false];rfl
  unfold bR;rw [ea];by_cases c:n=0
  · subst c;have e:gh st (fd l 0) r=((st,(D4 l,1)),EN):=by
     unfold gh h_;rw [CQ h];rfl
    rw [e];refine ⟨l,va l,h,.inl ⟨by omega,rfl⟩⟩
  · obtain ⟨f,hf'⟩:=Option.isSome_iff_exists.1 hf;have hsz:(aM (aE r)).size≤211:=by unfold aS at w1;omega
    obtain ⟨a1,a2,a3,a4⟩:=PD h (s:=au st) (t:=aM (aE r)) (by omega) hf' (by omega);have e:gh st (fd l n) r=((AN st (st.2.2.2.1+aS r),(fd (iT (pD (aM (aE r))) l (au st)) (n-1),0)),(aQ st.1.2.1,(st.2.2.2.1,(aS r,(r,()))))):=by unfold gh;rw [a1];rfl
    rw [e];show ∃ l',Mw l l'∧_∧((_∧(bR rs _ _ _).1.2=_)∨(_∧(bR rs _ _ _).1.2=_∧au (bR rs _ _ _).1.1=_));obtain ⟨l',b1,b2,b3⟩:=Cr rs (AN st (st.2.2.2.1+aS r)) (iT (pD (aM (aE r))) l (au st)) (n-1) (ps++[(aQ st.1.2.1,(st.2.2.2.1,(aS r,(r,()))))]) a2 (by omega) a4 (by omega)
     (by show LE.le (α:=Int) 0 (st.2.2.2.1+aS r);omega) (fun x hx=>hr x (jF _ hx)) (by show LE.le (α:=Int) (st.2.2.2.1+aS r+30*(rs.length:Int)) 200;omega)
    refine ⟨l',?_,b2,?_⟩
    · exact APd_trans (Jb (va l)) b1
    · rcases b3 with ⟨c1,c2⟩ | ⟨c1,c2,c3⟩
      · exact .inl ⟨by omega,c2⟩
      · refine .inr ⟨by omega,?_,c3⟩;rw [c2,hlen,show n-1-(rs.length:Int)=n-((rs.length:Int)+1) by omega]
where APd_trans:∀ {a b c:ao},Mw a b→Mw b c→Mw a c
 | [],b,c,h,g=>by have h:b=[]:=h;rw [h] at g;exact g
 | f::a,b,c,h,g=>by obtain ⟨t,r,rfl,hr⟩:=h;obtain ⟨u,q,rfl,hq⟩:=g;refine ⟨t++u,q,?_,APd_trans hr hq⟩;unfold pD;simp only [ByteArray.append_assoc]
theorem HB (hb:ByteArray→ByteArray) (st:Ty.d aC) (d:Ty.d aA) (l:fL) :
 (bT hb st d l).2=(bT hb (st.1,([],st.2.2)) d l).2∧(bT hb st d l).1.1=(bT hb (st.1,([],st.2.2)) d l).1.1:=by
 unfold bT;simp only [];generalize cR st.1.1 l (st.2.2.1-1) d=a;cases a.2 != 0 with
 | true=>exact ⟨rfl,rfl⟩
 | false =>
  simp only [aH];generalize ak (a_ aD (st.1.1+1)) a.1=b;cases b.2 != 0 with
  | true=>exact ⟨rfl,rfl⟩
  | false =>
   simp only [aH];generalize fy hb st.1.1 b.1=e;cases e.2 != 0 with
   | true=>exact ⟨rfl,rfl⟩
   | false =>
    simp only [aH];generalize an (ez st.1.1) e.1=f;cases f.2 != 0 with
    | true=>exact ⟨rfl,rfl⟩
    | false=>exact ⟨rfl,rfl⟩
noncomputable def J5 (d:Ty.d aA) (e:Ty.d aB):Ty.d ml:=(e.1,((d6 d e).1.2.2.2.1,((d6 d e).1.2.1,())))
theorem O4 {dir:aO} {d:Ty.d aA} (h:∀ e ∈ dir,kT dir d e.1=(J5 d e,0)):bH dir d=(dir.map (J5 d),0):=by
 have key:∀ (r:aO) (acc:fL),(∀ e ∈ r,e ∈ dir)→nn dir d (r.map (·.1)) acc=(acc++r.map (J5 d),0):=by
  intro r
  induction r with
  | nil=>intro acc _;rw [List.map_nil,List.map_nil,List.append_nil];rfl
  | cons e r ih =>intro acc hr;rw [List.map_cons,nn,h e (hr e iF)];show nn dir d (r.map (·.1)) (acc++[_])=_;rw [ih _ fun x hx=>hr x (jF _ hx),qY];rfl
 unfold bH;rw [key dir [] fun e he=>he,List.nil_append]
theorem DI (m:Int):∀ (l:fL) (a:Int),hZ (gy m l a)=l.map (·.1)
 | [],_=>rfl
 | p::l,a=>by have:=DI m l (a+aS (bz p));unfold hZ at this ⊢;unfold gy;rw [List.map_cons,List.map_cons,this]
theorem Fv {d:Ty.d aA} {m:Int}:∀ (l:fL) (pre post:ByteArray),(aW d (a_ aD m)).1=pre++(aR (l.map bz)++post)→(∀ p ∈ l,bN (bz p)=true) →
 (∀ e ∈ gy m l (pre.size:Int),∃ p,d6 d e=(bz p,true)∧e.1=p.1)∧(gy m l (pre.size:Int)).map (J5 d)=l
 | [],_,_,_,_=>⟨fun e he=>(by cases he),rfl⟩
 | p::l,pre,post,ht,hr=>by
  have hp:=hr p iF;have ht2:(aW d (a_ aD m)).1=(pre++aM (aE (bz p)))++(aR (l.map bz)++post):=by rw [ht,List.map_cons,aR,nT,nT]
  obtain ⟨i1,i2⟩:=Fv l (pre++aM (aE (bz p))) post ht2 fun q hq=>hr q (jF _ hq)
  have hz:((pre++aM (aE (bz p))).size:Int)=(pre.size:Int)+aS (bz p):=by rw [ByteArray.size_append];unfold aS;omega
  rw [hz] at i1 i2;have h0:d6 d (p.1,(m,((pre.size:Int),(aS (bz p),(p.2.2.1,())))))=(bz p,true):=by unfold d6;simp only [];rw [ht2,xI (by rw [tY pre hp]),tY pre hp]
  unfold gy;refine ⟨fun e he=>?_,?_⟩
  · rcases List.mem_cons.1 he with w | w
    · rw [w];exact ⟨p,h0,rfl⟩
    · exact i1 e w
  · rw [List.map_cons,i2];unfold J5;rw [h0];rfl
theorem La {d:Ty.d aA} {m mark:Int} {l:fL} (ht:(aW d (a_ aD m)).1=aR (fK l mark)) (hr:∀ p ∈ l,bN (bz p)=true) (hk:cB (l.map (·.1))):bH (gy m l 0) d=(l,0):=by
 have ht2:(aW d (a_ aD m)).1=(⟨#[]⟩:ByteArray)++(aR (l.map bz)++aR [gB 5 mark (l.map bz)]):=by rw [ht,show (⟨#[]⟩:ByteArray)=dB [] from rfl,ut];unfold fK;rw [nH]
 obtain ⟨h1,h2⟩:=Fv l ⟨#[]⟩ _ ht2 hr;have h1:∀ e ∈ gy m l 0,∃ p,d6 d e=(bz p,true)∧e.1=p.1:=h1;have h2:(gy m l 0).map (J5 d)=l:=h2;rw [O4 fun e he=>?_,h2];obtain ⟨p,p1,p2⟩:=h1 e he;unfold kT;rw [xO (by rw [DI];exact hk) e he];simp only [];unfold J5;rw [p1];simp only [];rw [show seq (bz p).2.2.1 e.1=true by rw [p2];exact bB _];rfl
theorem Q4 {d:Ty.d aA} {e:Ty.d aB} (h:(d6 d e).2=true):bN (d6 d e).1=true:=by
 unfold d6 iE at h ⊢;by_cases c1:0≤e.2.2.1∧e.2.2.1≤((aW d (a_ aD e.2.1)).1.size:Int)∧1≤e.2.2.2.1∧e.2.2.2.1≤((aW d (a_ aD e.2.1)).1.size:Int)-e.2.2.1
 · rw [if_pos c1] at h ⊢;by_cases c2:(i_ (ByteArray.extract (aW d (a_ aD e.2.1)).1 (Int.toNat e.2.2.1) (Int.toNat (e.2.2.1+e.2.2.2.1)))).2=e.2.2.2.1
   · rw [if_pos c2] at h ⊢;exact (zV (Prod.ext rfl h)).1
   · rw [if_neg c2] at h;cases h
 · rw [if_neg c1] at h;cases h
theorem yu {r:Ty.d bQ} (h:bN r=true) (hk:r.1=1∨r.1=4):bN (bz (r.2.2.1,(r.2.2.2.1,(r.2.1,()))))=true:=by
 have hb:(r.1==1||r.1==4)=true:=by rcases hk with q | q <;> rw [q] <;> rfl
 unfold bN at h;rw [hb,ae] at h;simp only [gY] at h;unfold bN bz;rw [show ((4:Int)==1||(4:Int)==4)=true from rfl];simp only [ae];rw [h.1,h.2.1,h.2.2.2.2];rfl
theorem xU {st:Ty.d aC} {d:Ty.d aA} (h:bo st d=true):(∀ p ∈ (bH st.2.1 d).1,bN (bz p)=true)∧cB ((bH st.2.1 d).1.map (·.1)):=by
 rw [lN h];have h':=h;unfold bo at h';simp only [gY] at h';obtain ⟨_,_,hdir,_,_,hent⟩:=h';obtain ⟨_,_,hk⟩:=wE.1 hdir;refine ⟨fun p hp=>?_,?_⟩
 · obtain ⟨e,he,rfl⟩:=List.mem_map.1 hp;have hin:=List.all_eq_true.1 hent e he;unfold nV at hin;simp only [gY,Bool.or_eq_true,beq_iff_eq] at hin;have:=yu (Q4 hin.1) hin.2.2.2.1;rw [cF.1 hin.2.1] at this;exact this
 · rw [List.map_map];exact hk
theorem FV (hb:ByteArray→ByteArray) (st:Ty.d aC) (d:Ty.d aA) (l:fL):(bT hb st d l).1=pV st∨(bT hb st d l).1=(ez st.1.1,(gy st.1.1 l 0,(st.2.2.1,(0,(0,()))))):=by
 unfold bT;generalize cR st.1.1 l (st.2.2.1-1) d=a;cases a.2 != 0 with
 | true=>exact .inl rfl
 | false =>
  simp only [aH];generalize ak (a_ aD (st.1.1+1)) a.1=b;cases b.2 != 0 with
  | true=>exact .inl rfl
  | false =>
   simp only [aH];generalize fy hb st.1.1 b.1=e;cases e.2 != 0 with
   | true=>exact .inl rfl
   | false =>
    simp only [aH];generalize an (ez st.1.1) e.1=f;cases f.2 != 0 with
    | true=>exact .inl rfl
    | false=>exact .inr rfl
structure MD (st:Ty.d aC) (d:Ty.d aA):Prop where
 store:bo st d=true
 dump:(bH st.2.1 d).2=0
 disk:DR (bI st d).2.1
 form:(bI st d).1=(ez st.1.1,(gy st.1.1 (bH st.2.1 d).1 0,(st.2.2.1,(0,(0,())))))
 segs:(uD (bI st d).2.1 [st.1.1,st.1.1+1]:Int)=yt (bH st.2.1 d).1 (st.2.2.1-1)
 text:fT (bI st d).2.1 (a_ aD st.1.1)=some (aR (fK (bH st.2.1 d).1 (st.2.2.1-1)))
 next:fT (bI st d).2.1 (a_ aD (st.1.1+1))=some ByteArray.empty
 live:fT (bI st d).2.1 c_=some (bZ (ez st.1.1))
 lo:LE.le (α:=Int) 1 st.1.1
 hi:LE.le (α:=Int) (st.1.1+2) 100000
theorem n8 {st:Ty.d aC} {d:Ty.d aA} (h:(bI st d).2.2=0):MD st d:=by
 have h0:=h;unfold bI at h;cases c1:bo st d with
 | false =>rw [c1] at h;exact absurd h (by show (4:Int)≠0;decide)
 | true =>
  rw [c1] at h;obtain ⟨g1,g2,g3⟩:=bn c1;obtain ⟨n1,n2,n3,_⟩:=fk (n:=st.1.1) (ids:=st.1.2.1) g1.live;have h60:st.1.2.1.length≤60:=(bD (nx:=st.1.1) (ids:=st.1.2.1) g1.live).2.2.2.1;simp only [g9,aH] at h;by_cases c2:st.1.1+2 > (100000:Int)
  · rw [aX c2] at h;exact absurd h (by show (5:Int)≠0;decide)
  · rw [aZ c2] at h;simp only [aH] at h;have hz:=qQ st.2.1 d;cases c3:(bH st.2.1 d).2 != 0 with
    | true =>rw [c3] at h;exact absurd h (by intro q;rw [show (bH st.2.1 d).2=0 from q] at c3;cases c3)
    | false =>
     rw [c3] at h;simp only [aH] at h;have e:bI st d=bT (qZ st.1.1) st d (bH st.2.1 d).1:=by unfold bI;rw [c1,aZ c2,c3];rfl
     obtain ⟨e1,e2⟩:=HB (qZ st.1.1) st d (bH st.2.1 d).1;have hIV:IV ((st.1,([],st.2.2)),(d,0)):=⟨g1.disk,h60,Nat.zero_le _,fun x hx=>(by cases hx),Int.natCast_nonneg _⟩;obtain ⟨q1,q2⟩:=Ch (hb:=qZ st.1.1) hIV g1.live (Int.not_lt.1 c2) (l:=(bH st.2.1 d).1) (by omega);have hc:(bT (qZ st.1.1) (st.1,([],st.2.2)) d (bH st.2.1 d).1).2.2=0:=by rw [← e1];exact h
     obtain ⟨w1,_,w3,w4,w5,w6⟩:=q2 hc;have hf:(bT (qZ st.1.1) st d (bH st.2.1 d).1).1.1=ez st.1.1:=by rw [e2,w5]
     refine ⟨c1,dY c3,?_,?_,?_,?_,?_,?_,n1,Int.not_lt.1 c2⟩
     · rw [e,e1];exact q1.disk
     · rw [e];rcases FV (qZ st.1.1) st d (bH st.2.1 d).1 with w | w
       · exfalso;rw [w] at hf;have hf:(st.1.1+2,st.1.2)=ez st.1.1:=hf;have h3:st.1.2.1=[st.1.1,st.1.1+1]:=by
          have:=congrArg (fun v:Ty.d cC=>v.2.1) hf;exact this
         have:=(n3 st.1.1 (by rw [h3];exact iF)).2;exact absurd this (Int.lt_irrefl _)
       · exact w
     · rw [w5] at w1;rw [e,e1];exact w1
     · rw [e,e1];exact w3
     · rw [e,e1];exact w4
     · rw [e,e1];exact w6
theorem I3 {st:Ty.d aC} {d:Ty.d aA} (h:MD st d):bH (bI st d).1.2.1 (bI st d).2.1=((bH st.2.1 d).1,0):=by obtain ⟨k1,k2⟩:=xU h.store;rw [h.form];refine La (mark:=st.2.2.1-1) ?_ k1 k2;rw [gm h.disk,h.text];rfl
theorem PO {b:Int} (h:1≤b) (g:b≤1000001):0≤b-1∧b-1≤1000000:=by omega
theorem HS {a b:Int} (h:a<b) (g:b≤100000):a≤100000:=by omega
def eY:ij→Int→DK
 | [],_=>[]
 | r::l,a=>(a,(aS r,(r,())))::eY l (a+aS r)
theorem B6:∀ (rs:ij) (pre:ByteArray) (d:Nat),(∀ r ∈ rs,bN r=true)→(aR rs).size<d→(fU (pre++aR rs) d (pre.size:Int)).1=eY rs (pre.size:Int)
 | [],pre,d,_,hd=>by
  obtain ⟨d,rfl⟩:∃ q,d=q+1:=⟨d-1,by omega⟩;have:i_ (ByteArray.extract (pre++aR []) (Int.toNat (pre.size:Int)) (pre++aR []).size)=(⟨#[]⟩,0):=by rw [qX,gO,aR,yk]
  rw [fU,this,if_pos rfl];rfl
 | r::rs,pre,d,h,hd=>by rw [aR,aV] at hd;have hz:=lO r;have hp:=lE (s:=aE r) (by omega);obtain ⟨d,rfl⟩:∃ q,d=q+1:=⟨d-1,by omega⟩;have ih:=B6 rs (pre++aM (aE r)) d (fun x hx=>h x (jF _ hx)) (by omega);rw [bY,aV pre] at ih;rw [aR,Kk (h r (iF ..)),eY];simp only [];rw [ih,show ((pre.size+(aM (aE r)).size:Nat):Int)=(pre.size:Int)+aS r by unfold aS;omega];rfl
theorem uw {rs:ij} (h:∀ r ∈ rs,bN r=true):(b9 (aR rs)).1=eY rs 0:=by have:=B6 rs ⟨#[]⟩ ((aR rs).size+1) h (by omega);rw [nr] at this;exact this
theorem Cz:∀ (l m:ij) (a:Int),eY (l++m) a=eY l a++eY m (a+((aR l).size:Int))
 | [],m,a=>by show eY m a=eY m (a+((⟨#[]⟩:ByteArray).size:Int));rw [show ((⟨#[]⟩:ByteArray).size:Int)=0 from rfl,Int.add_zero]
 | r::l,m,a=>by rw [List.cons_append,eY,eY,Cz l m,aR,aV,List.cons_append];rw [show a+aS r+((aR l).size:Int)=a+(((aM (aE r)).size+(aR l).size:Nat):Int) by unfold aS;omega]
abbrev rP:=List (Int × ij)
def uA (x:Int × ij):aT:=bP x.1 (eY x.2 0)
def jI:rP→aT
 | []=>[]
 | x::l=>uA x++jI l
theorem KI:∀ (l m:rP),jI (l++m)=jI l++jI m
 | [],_=>rfl
 | x::l,m=>by show uA x++jI (l++m)=uA x++jI l++jI m;rw [KI l m,qY]
structure TX (st:Ty.d aC) (d:Ty.d aA) (L:rP):Prop where
 live:dK st.1=true
 disk:DR d
 ids:st.1.2.1=L.map (·.1)
 text:∀ x ∈ L,fT d (a_ aD x.1)=some (aR x.2)∧∀ r ∈ x.2,bN r=true
 tail:∀ t,fT d (au st)=some t→st.2.2.2.1=(t.size:Int)
theorem TX.bt {st:Ty.d aC} {d:Ty.d aA} {L:rP} (h:TX st d L):BT st d:=⟨h.live,h.disk,fun x hx=>by
 rw [h.ids] at hx;obtain ⟨y,hy,rfl⟩:=List.mem_map.1 hx;exact ⟨_,(h.text y hy).1,y.2,(h.text y hy).2,rfl⟩,h.tail⟩
theorem Ds {d:Ty.d aA}:∀ {ids:List Int},(∀ x ∈ ids,∃ t,fT d (a_ aD x)=some t∧FL t)→∃ L:rP,ids=L.map (·.1)∧∀ x ∈ L,fT d (a_ aD x.1)=some (aR x.2)∧∀ r ∈ x.2,bN r=true
 | [],_=>⟨[],rfl,fun x hx=>(by cases hx)⟩
 | x::l,h=>by
  obtain ⟨L,h1,h2⟩:=Ds (ids:=l) fun y hy=>h y (jF _ hy)
  obtain ⟨t,ht,rs,hr,e⟩:=h x iF;refine ⟨(x,rs)::L,by rw [List.map_cons,← h1],fun y hy=>?_⟩;rcases List.mem_cons.1 hy with w | w
  · rw [w];exact ⟨by rw [ht,e],hr⟩
  · exact h2 y w
theorem BT.tx {st:Ty.d aC} {d:Ty.d aA} (h:BT st d):∃ L,TX st d L:=by obtain ⟨L,h1,h2⟩:=Ds h.full;exact ⟨L,h.live,h.disk,h1,h2,h.tail⟩
theorem Kb {d:Ty.d aA} (hd:DR d) {x:Int × ij} (h:fT d (a_ aD x.1)=some (aR x.2)∧∀ r ∈ x.2,bN r=true):mN d x.1=uA x:=by unfold mN uA dJ;rw [gm hd,h.1];show bP x.1 (b9 (aR x.2)).1=_;rw [uw h.2]
theorem qF {d:Ty.d aA} (hd:DR d):∀ {L:rP},(∀ x ∈ L,fT d (a_ aD x.1)=some (aR x.2)∧∀ r ∈ x.2,bN r=true)→kJ d (L.map (·.1))=jI L
 | [],_=>rfl
 | x::L,h=>by rw [List.map_cons];show mN d x.1++kJ d (L.map (·.1))=uA x++jI L;rw [qF hd fun y hy=>h y (jF _ hy),Kb hd (h x iF)]
theorem qk:∀ (rs:ij) (pre post:ByteArray),(∀ r ∈ rs,bN r=true)→∀ x ∈ eY rs (pre.size:Int),iE (pre++(aR rs++post)) x.1 x.2.1=(x.2.2.1,true)∧bN x.2.2.1=true∧LE.le (α:=Int) 0 x.1∧LE.le (α:=Int) 1 x.2.1∧LE.le (α:=Int) x.2.1 210∧x.2.2.1 ∈ rs
 | [],_,_,_,x,hx=>(by cases hx)
 | r::rs,pre,post,h,x,hx=>by
  have hr:=h r iF;rw [aR,nT];rw [eY] at hx;rcases List.mem_cons.1 hx with w | w
  · rw [w];have hz:=tL r;have e:=tY pre hr;refine ⟨?_,hr,Int.natCast_nonneg _,show LE.le (α:=Int) 1 (aS r) by omega,hz.2,iF⟩;show iE (pre++(aM (aE r)++(aR rs++post))) (pre.size:Int) (aS r)=(r,true);rw [← nT,xI (by rw [e]),e]
  · have hz:((pre++aM (aE r)).size:Int)=(pre.size:Int)+aS r:=by
     rw [ByteArray.size_append];unfold aS;omega
    rw [← hz] at w;obtain ⟨i1,i2,i3,i4,i5,i6⟩:=qk rs (pre++aM (aE r)) post (fun q hq=>h q (jF _ hq)) x w;rw [nT] at i1;exact ⟨i1,i2,i3,i4,i5,jF _ i6⟩
theorem xW {L:rP} {p:Ty.d aI} (h:p ∈ jI L):∃ x ∈ L,∃ s ∈ eY x.2 0,p=(x.1,s):=by
 induction L with
 | nil=>cases h
 | cons x L ih =>
  have h:p ∈ uA x++jI L:=h;rcases List.mem_append.1 h with w | w
  · unfold uA bP at w;obtain ⟨s,hs,e⟩:=List.mem_map.1 w;exact ⟨x,iF,s,hs,e.symm⟩
  · obtain ⟨y,hy,q⟩:=ih w;exact ⟨y,jF _ hy,q⟩
structure PL (d:Ty.d aA) (nx:Int) (p:Ty.d aI):Prop where
 lo:LE.le (α:=Int) 1 p.1
 hi:LT.lt (α:=Int) p.1 nx
 at0:LE.le (α:=Int) 0 p.2.1
 len0:LE.le (α:=Int) 1 p.2.2.1
 len1:LE.le (α:=Int) p.2.2.1 210
 ok:bN (fb p)=true
 read:d6 d (dI p)=(fb p,true)
theorem AQ {st:Ty.d aC} {d:Ty.d aA} {L:rP} (h:TX st d L) {p:Ty.d aI} (hp:p ∈ jI L):PL d st.1.1 p:=by
 obtain ⟨x,hx,s,hs,e⟩:=xW hp;obtain ⟨n1,n2,n3,_⟩:=fk (n:=st.1.1) (ids:=st.1.2.1) h.live;have hi:x.1 ∈ st.1.2.1:=by rw [h.ids];exact List.mem_map.2 ⟨x,hx,rfl⟩
 obtain ⟨t1,t2⟩:=h.text x hx;obtain ⟨i1,i2,i3,i4,i5,_⟩:=qk x.2 ⟨#[]⟩ ⟨#[]⟩ t2 s hs;rw [e];refine ⟨(n3 _ hi).1,(n3 _ hi).2,i3,i4,i5,i2,?_⟩;unfold d6;show iE (aW d (a_ aD x.1)).1 s.1 s.2.1=(s.2.2.1,true);rw [gm h.disk,t1];show iE (aR x.2) s.1 s.2.1=_;rw [Lz,nr] at i1;exact i1
abbrev Oj:=aO × Int × Int
def j5 (pre:aT) (p:Ty.d aI) (s:Oj):Oj :=
 bif p.2.2.2.1.1==3 then (bif im p.2.2.2.1 (eH p.2.2.2.1.2.1 pre) then (bq s.1 (eH p.2.2.2.1.2.1 pre),nq p.2.2.2.1.2.1 s.2.1,nL (bq s.1 (eH p.2.2.2.1.2.1 pre)) s.2.2) else (s.1,nq p.2.2.2.1.2.1 s.2.1,s.2.2)) else
 bif p.2.2.2.1.1==5 then (bif im p.2.2.2.1 (bU pre) then (bq s.1 (bU pre),nq p.2.2.2.1.2.1 s.2.1,nL (bq s.1 (bU pre)) s.2.2) else (s.1,nq p.2.2.2.1.2.1 s.2.1,1)) else
 (s.1,nq p.2.2.2.1.2.1 s.2.1,s.2.2)
def gr (pre:aT):aT→Oj→Oj
 | [],s=>s
 | p::r,s=>bif s.2.2 != 0 then s else gr (pre++[p]) r (j5 pre p s)
theorem F0 {pre:aT} {s:Oj} (h:s.2.2≠0):∀ r:aT,gr pre r s=s
 | []=>rfl
 | p::r=>by unfold gr;rw [show (s.2.2 != 0)=true from bne_iff_ne.2 h];rfl
theorem K9 (pre:aT) (p:Ty.d aI) (r:aT) (s:Oj):gr pre (p::r) s=bif s.2.2 != 0 then s else gr (pre++[p]) r (j5 pre p s):=rfl
theorem sE:∀ (a b pre:aT) (s:Oj),gr pre (a++b) s=gr (pre++a) b (gr pre a s)
 | [],b,pre,s=>by rw [List.append_nil];rfl
 | p::a,b,pre,s=>by
  rw [List.cons_append,K9,K9 pre p a];by_cases c:s.2.2=0
  · rw [show (s.2.2 != 0)=false by rw [c];rfl,aH,aH,sE a b,qY];rfl
  · rw [show (s.2.2 != 0)=true from bne_iff_ne.2 c,ae,ae];exact (F0 c _).symm
theorem rA (all:aT):∀ (r:aT) (i:Nat) (d:aO) (la c:Int),all.drop i=r→i≤all.length →
 iL all r i d la c=(let s:=gr (all.take i) r (d,la,c);bif s.2.2==0&&decide ((bU all).length > 0) then (s.1,(s.2.1,(1,()))) else (s.1,(s.2.1,(s.2.2,()))))
 | [],i,d,la,c,_,_=>rfl
 | p::r,i,d,la,c,h,hi=>by
  have hlt:i<all.length:=by have:=congrArg List.length h;rw [List.length_drop,kM] at this;omega
  have ht:all.take (i+1)=all.take i++[p]:=by
   have e:all[i]=p:=by
    have:=List.drop_eq_getElem_cons hlt;rw [h] at this;injection this with w _;exact w.symm
   rw [List.take_succ_eq_append_getElem hlt,e]
  have hd:all.drop (i+1)=r:=by rw [← List.drop_drop,h];rfl
  have ih:=fun d' la' c'=>rA all r (i+1) d' la' c' hd hlt
  unfold iL gr;by_cases c0:c=0
  · subst c0;simp only [bne_self_eq_false,aH];rw [← ht];unfold j5;cases p.2.2.2.1.1==3 with
    | true =>simp only [ae];cases im p.2.2.2.1 (eH p.2.2.2.1.2.1 (all.take i)) <;> exact ih _ _ _
    | false =>
     simp only [aH];cases p.2.2.2.1.1==5 with
     | true =>simp only [ae];cases im p.2.2.2.1 (bU (all.take i)) <;> exact ih _ _ _
     | false=>exact ih _ _ _
  · have e1:(c != 0)=true:=bne_iff_ne.2 c0;have e2:(c==0)=false:=pG c0;simp only [e1,ae,e2,Bool.false_and,aH]
theorem Hk {pl:aT} {d:aO} {la:Int} (h:gr [] pl ([],0,0)=(d,la,0)) (hm:bU pl=[]):i7 ([],(0,(0,()))) pl=(d,(la,(0,()))):=by have e:i7 ([],(0,(0,()))) pl=(bif (gr [] pl ([],0,0)).2.2==0&&decide ((bU pl).length > 0) then ((gr [] pl ([],0,0)).1,((gr [] pl ([],0,0)).2.1,(1,()))) else ((gr [] pl ([],0,0)).1,((gr [] pl ([],0,0)).2.1,((gr [] pl ([],0,0)).2.2,())))):=rA pl pl 0 [] 0 0 rfl (Nat.zero_le _);rw [e,h,hm];rfl
theorem BI {g:aO} {la0:Int} {pl:aT} (h:(i7 (g,(la0,(0,()))) pl).2.2.1=0):gr [] pl (g,la0,0)=((i7 (g,(la0,(0,()))) pl).1,(i7 (g,(la0,(0,()))) pl).2.1,0)∧bU pl=[]:=by
 have e:=rA pl pl 0 g la0 0 rfl (Nat.zero_le _);have e:i7 (g,(la0,(0,()))) pl=(let s:=gr [] pl (g,la0,0);bif s.2.2==0&&decide ((bU pl).length > 0) then (s.1,(s.2.1,(1,()))) else (s.1,(s.2.1,(s.2.2,())))):=e;rw [e] at h ⊢;generalize gr [] pl (g,la0,0)=s at h ⊢;obtain ⟨a,b,c⟩:=s;simp only [] at h ⊢;cases q:(c==0&&decide ((bU pl).length > 0)) with
 | true=>rw [q] at h;exact absurd h (by show (1:Int)≠0;decide)
 | false =>rw [q] at h;simp only [aH] at h ⊢;subst h;refine ⟨rfl,?_⟩;simp only [beq_self_eq_true,Bool.true_and,decide_eq_false_iff_not] at q;exact List.length_eq_zero_iff.1 (by omega)
theorem mJ (l m:aT):bU (l++m)=m.foldl fv (bU l):=by unfold bU;rw [List.foldl_append]
theorem yD (b:Int) (l m:aT):eH b (l++m)=m.foldl (eS b) (eH b l):=by unfold eH;rw [List.foldl_append]
def plain (p:Ty.d aI):Prop:=p.2.2.2.1.1=1∨p.2.2.2.1.1=2
theorem HQ {p:Ty.d aI} (h:plain p):(p.2.2.2.1.1==3)=false∧(p.2.2.2.1.1==4)=false∧(p.2.2.2.1.1==5)=false∧(p.2.2.2.1.1==1||p.2.2.2.1.1==2)=true:=by
 rcases h with q | q <;> rw [q] <;> exact ⟨rfl,rfl,rfl,rfl⟩
theorem zB:∀ (q pre:aT) (d:aO) (la:Int),(∀ p ∈ q,plain p)→∃ la',gr pre q (d,la,0)=(d,la',0)
 | [],_,d,la,_=>⟨la,rfl⟩
 | p::q,pre,d,la,h=>by
  obtain ⟨h3,h4,h5,_⟩:=HQ (h p iF);obtain ⟨la',e⟩:=zB q (pre++[p]) d (nq p.2.2.2.1.2.1 la) fun x hx=>h x (jF _ hx)
  refine ⟨la',?_⟩;unfold gr j5;rw [h3,h5];exact e
theorem A0:∀ (q:aT) (acc:aT),(∀ p ∈ q,p.2.2.2.1.1≠4∧p.2.2.2.1.1≠5)→q.foldl fv acc=acc
 | [],_,_=>rfl
 | p::q,acc,h=>by
  obtain ⟨h4,h5⟩:=h p iF;rw [List.foldl_cons,show fv acc p=acc by unfold fv;rw [pG h4,pG h5];rfl];exact A0 q acc fun x hx=>h x (jF _ hx)
theorem Ao {b:Int}:∀ (q:aT) (acc:aT),(∀ p ∈ q,p.2.2.2.1.2.1≠b)→q.foldl (eS b) acc=acc
 | [],_,_=>rfl
 | p::q,acc,h=>by
  rw [List.foldl_cons,show eS b acc p=acc by unfold eS;rw [pG (h p iF)];rfl];exact Ao q acc fun x hx=>h x (jF _ hx)
theorem GG {b:Int}:∀ (q:aT) (acc:aT),(∀ p ∈ q,plain p∧p.2.2.2.1.2.1=b)→q.foldl (eS b) acc=acc++q
 | [],acc,_=>(List.append_nil acc).symm
 | p::q,acc,h=>by obtain ⟨h1,h2⟩:=h p iF;obtain ⟨h3,h4,h5,h6⟩:=HQ h1;rw [List.foldl_cons,show eS b acc p=acc++[p] by unfold eS;rw [h2,beq_self_eq_true,h3,h6];rfl];rw [GG q (acc++[p]) fun x hx=>h x (jF _ hx),qY];rfl
theorem xy {b:Int}:∀ (l:aT) (acc:aT),(∀ p ∈ acc,plain p)→∀ p ∈ l.foldl (eS b) acc,plain p∧(p ∈ acc∨p ∈ l)
 | [],acc,h,p,hp=>⟨h p hp,.inl hp⟩
 | x::l,acc,h,p,hp=>by
  rw [List.foldl_cons] at hp;have hs:∀ q ∈ eS b acc x,plain q∧(q ∈ acc∨q=x):=fun q hq=>by
   unfold eS at hq;cases c1:x.2.2.2.1.2.1==b with
   | false=>rw [c1] at hq;exact ⟨h q hq,.inl hq⟩
   | true =>
    rw [c1,ae] at hq;cases c2:x.2.2.2.1.1==3 with
    | true=>rw [c2] at hq;cases hq
    | false =>
     rw [c2,aH] at hq;cases c3:x.2.2.2.1.1==1||x.2.2.2.1.1==2 with
     | false=>rw [c3] at hq;exact ⟨h q hq,.inl hq⟩
     | true =>
      rw [c3,ae] at hq;rcases List.mem_append.1 hq with w | w
      · exact ⟨h q w,.inl w⟩
      · rw [List.mem_singleton.1 w];simp only [Bool.or_eq_true,beq_iff_eq] at c3;exact ⟨c3,.inr rfl⟩
  obtain ⟨g1,g2⟩:=xy l (eS b acc x) (fun q hq=>(hs q hq).1) p hp;refine ⟨g1,?_⟩;rcases g2 with w | w
  · rcases (hs p w).2 with v | v
    · exact .inl v
    · rw [v];exact .inr iF
  · exact .inr (jF _ w)
theorem y4:∀ (l:aT) (acc:aT),(∀ p ∈ acc,p.2.2.2.1.1=4)→∀ p ∈ l.foldl fv acc,p.2.2.2.1.1=4∧(p ∈ acc∨p ∈ l)
 | [],acc,h,p,hp=>⟨h p hp,.inl hp⟩
 | x::l,acc,h,p,hp=>by
  rw [List.foldl_cons] at hp;have hs:∀ q ∈ fv acc x,q.2.2.2.1.1=4∧(q ∈ acc∨q=x):=fun q hq=>by
   unfold fv at hq;cases c2:x.2.2.2.1.1==5 with
   | true=>rw [c2] at hq;cases hq
   | false =>
    rw [c2,aH] at hq;cases c3:x.2.2.2.1.1==4 with
    | false=>rw [c3] at hq;exact ⟨h q hq,.inl hq⟩
    | true =>
     rw [c3,ae] at hq;rcases List.mem_append.1 hq with w | w
     · exact ⟨h q w,.inl w⟩
     · rw [List.mem_singleton.1 w];exact ⟨BU c3,.inr rfl⟩
  obtain ⟨g1,g2⟩:=y4 l (fv acc x) (fun q hq=>(hs q hq).1) p hp;refine ⟨g1,?_⟩;rcases g2 with w | w
  · rcases (hs p w).2 with v | v
    · exact .inl v
    · rw [v];exact .inr iF
  · exact .inr (jF _ w)
def EP (pl:aT) (d:aO):Prop:=∀ e ∈ d,∃ p ∈ pl,e=dI p∧(p.2.2.2.1.1=1∨p.2.2.2.1.1=4)
theorem Az {pl:aT}:∀ (own:aT) {d:aO},EP pl d→(∀ p ∈ own,p ∈ pl∧(p.2.2.2.1.1=1∨p.2.2.2.1.1=2∨p.2.2.2.1.1=4))→EP pl (bq d own)
 | [],d,h,_=>h
 | p::own,d,h,ho=>by
  refine Az own (d:=f8 d p) (fun e he=>?_) fun q hq=>ho q (jF _ hq)
  obtain ⟨k1,k2⟩:=ho p iF;unfold f8 at he;cases c:p.2.2.2.1.1==2 with
  | true=>rw [c,ae] at he;exact h e (List.mem_filter.1 he).1
  | false =>
   rw [c,aH] at he;unfold pb at he;rcases KY he with w | w
   · refine ⟨p,k1,w,?_⟩;rcases k2 with q | q | q
     · exact .inl q
     · rw [q] at c;cases c
     · exact .inr q
   · exact h e (List.mem_filter.1 w).1
theorem Qe (all:aT):∀ (r pre:aT) (s:Oj),(∀ p ∈ pre,p ∈ all)→(∀ p ∈ r,p ∈ all)→EP all s.1→cB (hZ s.1)→s.1.length≤20→(gr pre r s).2.2=0→EP all (gr pre r s).1∧cB (hZ (gr pre r s).1)∧(gr pre r s).1.length≤20
 | [],pre,s,_,_,h1,h2,h3,_=>⟨h1,h2,h3⟩
 | p::r,pre,s,hp,hr,h1,h2,h3,z=>by
  by_cases c:s.2.2=0
  · have e:gr pre (p::r) s=gr (pre++[p]) r (j5 pre p s):=by
     show (bif s.2.2 != 0 then _ else _)=_;rw [c];rfl
    rw [e] at z ⊢;have z0:(j5 pre p s).2.2=0:=by
     by_cases w:(j5 pre p s).2.2=0
     · exact w
     · rw [F0 w] at z;exact absurd z w
    have hs:EP all (j5 pre p s).1∧cB (hZ (j5 pre p s).1)∧(j5 pre p s).1.length≤20:=by
     have hc:∀ {x:aO},nL x s.2.2=0→x.length≤20:=fun {x} q=>by
      unfold nL at q;split at q
      · cases q
      · omega
     unfold j5 at z0 ⊢;cases c3:p.2.2.2.1.1==3 with
     | true =>
      rw [c3] at z0;simp only [ae] at z0 ⊢;cases c4:im p.2.2.2.1 (eH p.2.2.2.1.2.1 pre) with
      | true =>
       rw [c4] at z0;exact ⟨Az _ h1 fun q hq=>by
        obtain ⟨g1,g2⟩:=xy pre [] (fun _ w=>by cases w) q hq;refine ⟨hp q (g2.resolve_left fun w=>by cases w),?_⟩;rcases g1 with w | w
        · exact .inl w
        · exact .inr (.inl w),rU _ h2,hc z0⟩
      | false=>exact ⟨h1,h2,h3⟩
     | false =>
      rw [c3] at z0;simp only [aH] at z0 ⊢;cases c5:p.2.2.2.1.1==5 with
      | true =>
       rw [c5] at z0;simp only [ae] at z0 ⊢;cases c4:im p.2.2.2.1 (bU pre) with
       | true =>
        rw [c4] at z0;exact ⟨Az _ h1 fun q hq=>by
         obtain ⟨g1,g2⟩:=y4 pre [] (fun _ w=>by cases w) q hq;exact ⟨hp q (g2.resolve_left fun w=>by cases w),.inr (.inr g1)⟩,rU _ h2,hc z0⟩
       | false=>exact ⟨h1,h2,h3⟩
      | false=>exact ⟨h1,h2,h3⟩
    exact Qe all r (pre++[p]) (j5 pre p s) (fun q hq=>by
     rcases List.mem_append.1 hq with w | w
     · exact hp q w
     · rw [List.mem_singleton.1 w];exact hr p iF) (fun q hq=>hr q (jF _ hq)) hs.1 hs.2.1 hs.2.2 z
  · rw [F0 c] at z;exact absurd z c
theorem SD (a b:Int):a≤nq a b∧b≤nq a b:=by unfold nq;split <;> omega
theorem LU (pre:aT) (p:Ty.d aI) (s:Oj):(j5 pre p s).2.1=nq p.2.2.2.1.2.1 s.2.1:=by
 unfold j5;cases p.2.2.2.1.1==3
 · cases p.2.2.2.1.1==5
   · rfl
   · cases im p.2.2.2.1 (bU pre) <;> rfl
 · cases im p.2.2.2.1 (eH p.2.2.2.1.2.1 pre) <;> rfl
theorem vy:∀ (r pre:aT) (s:Oj),(gr pre r s).2.2=0→s.2.1≤(gr pre r s).2.1∧(∀ p ∈ r,LE.le (α:=Int) p.2.2.2.1.2.1 (gr pre r s).2.1)∧∀ b:Int,s.2.1≤b→(∀ p ∈ r,LE.le (α:=Int) p.2.2.2.1.2.1 b)→(gr pre r s).2.1≤b
 | [],pre,s,_=>⟨Int.le_refl _,fun p hp=>(by cases hp),fun b h _=>h⟩
 | p::r,pre,s,z=>by
  by_cases c:s.2.2=0
  · have e:gr pre (p::r) s=gr (pre++[p]) r (j5 pre p s):=by
     show (bif s.2.2 != 0 then _ else _)=_;rw [c];rfl
    rw [e] at z ⊢;obtain ⟨i1,i2,i3⟩:=vy r (pre++[p]) (j5 pre p s) z;rw [LU] at i1 i3;have hm:=SD p.2.2.2.1.2.1 s.2.1;refine ⟨by omega,fun q hq=>?_,fun b h0 hb=>i3 b ?_ fun q hq=>hb q (jF _ hq)⟩
    · rcases List.mem_cons.1 hq with w | w
      · rw [w];exact Int.le_trans hm.1 i1
      · exact i2 q w
    · have:=hb p iF;unfold nq;split
      · exact this
      · exact h0
  · rw [F0 c] at z;exact absurd z c
structure JT (pl:aT) (dir:aO) (b:Int):Prop where
 gr:∃ la,gr [] pl ([],0,0)=(dir,la,0)
 mark:bU pl=[]
 bat:∀ p ∈ pl,LT.lt (α:=Int) p.2.2.2.1.2.1 b
 lo:LE.le (α:=Int) 1 b
 hi:LE.le (α:=Int) b 1000001
def MI (st:Ty.d aC) (d:Ty.d aA):Prop:=∃ L,TX st d L∧JT (jI L) st.2.1 st.2.2.1
theorem Q3 {r:Ty.d bQ} (h:bN r=true) (hk:r.1=1∨r.1=4):fg r.2.2.1=true∧decide ((1:Int)≤r.2.1∧r.2.1≤1000000)=true:=by
 have hb:(r.1==1||r.1==4)=true:=by rcases hk with q | q <;> rw [q] <;> rfl
 unfold bN at h;rw [hb,ae] at h;simp only [gY] at h;exact ⟨h.1,h.2.2.2.2⟩
theorem MI.store {st:Ty.d aC} {d:Ty.d aA} (h:MI st d):bo st d=true∧EI st:=by
 obtain ⟨L,t,j⟩:=h;obtain ⟨la,hg⟩:=j.gr;obtain ⟨n1,n2,n3,_⟩:=fk (n:=st.1.1) (ids:=st.1.2.1) t.live;obtain ⟨_,_,g1,_,_⟩:=bD (nx:=st.1.1) (ids:=st.1.2.1) t.live;obtain ⟨e1,e2,e3⟩:=Qe (jI L) (jI L) [] ([],0,0) (fun p hp=>by cases hp) (fun p hp=>hp) (fun e he=>by cases he) List.Pairwise.nil (by decide) (by rw [hg]);rw [hg] at e1 e2 e3;have e1:EP (jI L) st.2.1:=e1;have e2:cB (hZ st.2.1):=e2;have e3:st.2.1.length≤20:=e3;have hb:=t.bt;refine ⟨?_,fun e he=>?_⟩
 · unfold bo;rw [dH.2 t.disk,t.live,wE.2 ⟨e3,fun e he=>?_,e2⟩,aX ⟨j.lo,j.hi⟩,(vq t.disk).2 ⟨hb.full,fun _=>hb.tail⟩]
   · simp only [Bool.true_and];rw [List.all_eq_true];intro e he;obtain ⟨p,hp,q,hk⟩:=e1 e he;have pi:=AQ t hp;unfold nV;rw [q,pi.read];have hbt:=j.bat p hp;show (true&&(seq (fb p).2.2.1 (fb p).2.2.1&&(((fb p).2.1==(fb p).2.1)&&((((fb p).1==1)||((fb p).1==4))&&!decide ((fb p).2.1≥st.2.2.1)))))=true;rw [bB,beq_self_eq_true,aZ (show ¬ (fb p).2.1≥st.2.2.1 from Int.not_le.2 hbt)];rcases hk with w | w
     · rw [show (fb p).1=1 from w];rfl
     · rw [show (fb p).1=4 from w];rfl
   · obtain ⟨p,hp,q,hk⟩:=e1 e he;have pi:=AQ t hp;obtain ⟨k1,k2⟩:=Q3 pi.ok hk;rw [q];unfold Qt;show (fg (fb p).2.2.1&&(decide ((1:Int)≤p.1∧p.1≤100000)&&(!decide (p.2.1<(0:Int))&&(decide ((1:Int)≤p.2.2.1∧p.2.2.1≤210)&&decide ((1:Int)≤(fb p).2.1∧(fb p).2.1≤1000000)))))=true;rw [k1,k2,aX ⟨pi.lo,HS pi.hi n2⟩,aZ (Int.not_lt.2 pi.at0),aX ⟨pi.len0,pi.len1⟩];rfl
 · obtain ⟨p,hp,q,_⟩:=e1 e he;have pi:=AQ t hp;rw [q];exact ⟨pi.lo,pi.hi⟩
theorem yr {ids:List Int} {L:rP} (h:ids=L.map (·.1)) (h1:1≤ids.length):∃ L0 x,L=L0++[x]∧aQ ids=x.1:=by
 rcases List.eq_nil_or_concat L with e | ⟨L0,x,e⟩
 · rw [h,e] at h1;cases h1
 · rw [List.concat_eq_append] at e;refine ⟨L0,x,e,?_⟩;rw [h,e,List.map_append,List.map_singleton,vF]
theorem FQ (x:Int) (rs:ij) (r:Ty.d bQ):uA (x,rs++[r])=uA (x,rs)++[(x,(((aR rs).size:Int),(aS r,(r,()))))]:=by unfold uA bP;show List.map _ (eY (rs++[r]) 0)=List.map _ (eY rs 0)++_;rw [Cz,List.map_append,Int.zero_add];rfl
theorem zQ (L:rP) (x:Int × ij):jI (L++[x])=jI L++uA x:=by rw [KI];show jI L++(uA x++[])=_;rw [List.append_nil]
theorem NQ {st:Ty.d aC} {d:Ty.d aA} {L:rP} (h:TX st d L) {r:Ty.d bQ} (hr:bN r=true) :
 ∃ L',TX (gh st d r).1.1 (gh st d r).1.2.1 L'∧jI L'=jI L++(bif (gh st d r).1.2.2==0 then [(gh st d r).2] else [])∧((gh st d r).1.2.2=0→fb (gh st d r).2=r):=by
 obtain ⟨n1,n2,n3,n4⟩:=fk (n:=st.1.1) (ids:=st.1.2.1) h.live;obtain ⟨_,_,g1,_,_⟩:=bD (nx:=st.1.1) (ids:=st.1.2.1) h.live;obtain ⟨L0,x,eL,el⟩:=yr h.ids g1;have ha:=oP h.disk (au st) (aM (aE r));have ko:∀ s,au st≠s→fT (h_ d (au st) (aM (aE r))).1 s=fT d s:=fun s q=>v8 q
 have kl:=qt (d:=d) (s:=au st) (x:=aM (aE r));have hact:au st=a_ aD x.1:=by unfold au;rw [el]
 unfold gh;generalize h_ d (au st) (aM (aE r))=a at ha ko kl ⊢;cases c:a.2 != 0 with
 | true =>
  have c0:(a.2==0)=false:=by unfold bne at c;simpa using c
  rw [c0,aH] at kl;have all:∀ s,fT a.1 s=fT d s:=fun s=>by
   by_cases q:au st=s
   · rw [← q];exact kl
   · exact ko s q
  have ht:((tl a).2==0)=false:=by have:=kq a;rw [c] at this;unfold bne at this;simpa using this
  refine ⟨L,⟨h.live,ha,h.ids,fun y hy=>⟨(all _).trans (h.text y hy).1,(h.text y hy).2⟩,fun t q=>h.tail t ((all _).symm.trans q)⟩,?_,fun q=>?_⟩
  · show jI L=jI L++(bif (tl a).2==0 then _ else []);rw [ht,aH,List.append_nil]
  · have q:(tl a).2=0:=q;rw [q] at ht;cases ht
 | false =>
  have c0:(a.2==0)=true:=beq_iff_eq.2 (dY c);have hx:x ∈ L:=by rw [eL];exact List.mem_append_right _ iF
  obtain ⟨x1,x2⟩:=h.text x hx;rw [c0,ae,hact,x1] at kl;have kl:fT a.1 (a_ aD x.1)=some (aR x.2++aM (aE r)):=kl;have e2:aR (x.2++[r])=aR x.2++aM (aE r):=by rw [nH,zA]
  have hsz:st.2.2.2.1=((aR x.2).size:Int):=h.tail _ (by rw [hact];exact x1);have hm:x.1 ∈ st.1.2.1:=by rw [h.ids];exact List.mem_map.2 ⟨x,hx,rfl⟩
  simp only [aH];refine ⟨L0++[(x.1,x.2++[r])],⟨h.live,ha,?_,fun y hy=>?_,fun t q=>?_⟩,?_,fun _=>rfl⟩
  · show st.1.2.1=_;rw [h.ids,eL,List.map_append,List.map_append];rfl
  · rcases List.mem_append.1 hy with w | w
    · have hyL:y ∈ L:=by rw [eL];exact List.mem_append_left _ w
      have hym:y.1 ∈ st.1.2.1:=by rw [h.ids];exact List.mem_map.2 ⟨y,hyL,rfl⟩
      have hne:y.1≠x.1:=by have hp:=n4;rw [h.ids,eL,List.map_append] at hp;have:=(List.pairwise_append.1 hp).2.2 y.1 (List.mem_map.2 ⟨y,w,rfl⟩) x.1 iF;omega
      refine ⟨?_,(h.text y hyL).2⟩;show fT a.1 (a_ aD y.1)=_;rw [ko _ (by rw [hact];exact ob ⟨(n3 _ hm).1,HS (n3 _ hm).2 n2⟩ ⟨(n3 _ hym).1,HS (n3 _ hym).2 n2⟩ fun q=>hne q.symm)];exact (h.text y hyL).1
    · rw [List.mem_singleton.1 w];refine ⟨by show fT a.1 (a_ aD x.1)=some (aR (x.2++[r]));rw [kl,e2],fun q hq=>?_⟩;rcases List.mem_append.1 hq with v | v
      · exact x2 q v
      · rw [List.mem_singleton.1 v];exact hr
  · have q:fT a.1 (au st)=some t:=q;rw [hact,kl] at q;rw [← Option.some.inj q,ByteArray.size_append];show @Eq Int (st.2.2.2.1+aS r) (((aR x.2).size+(aM (aE r)).size:Nat):Int);rw [hsz];unfold aS;omega
  · show jI (L0++[(x.1,x.2++[r])])=jI L++[(aQ st.1.2.1,(st.2.2.2.1,(aS r,(r,()))))];rw [zQ,FQ,eL,zQ,qY,el,hsz]
theorem Ry {st:Ty.d aC} {d:Ty.d aA} {L:rP} (h:TX st d L):∃ L',TX (gV st d).1 (gV st d).2.1 L'∧jI L'=jI L:=by
 obtain ⟨n1,n2,n3,n4⟩:=fk (n:=st.1.1) (ids:=st.1.2.1) h.live;obtain ⟨f1,f2,_,_⟩:=tR h.live h.disk;have hseg:∀ x:Int,x ∈ st.1.2.1→1≤x∧x≤100000:=fun x hx=>⟨(n3 x hx).1,HS (n3 x hx).2 n2⟩
 have hnew:∀ x ∈ st.1.2.1,a_ aD st.1.1≠a_ aD x:=fun x hx=>ob ⟨n1,n2⟩ (hseg x hx) (by have:=(n3 x hx).2;omega)
 have k1:∀ x ∈ st.1.2.1,fT (cQ d (au st)).1 (a_ aD x)=fT d (a_ aD x):=fun x hx=>jv
 have k2:∀ x ∈ st.1.2.1,fT (ak (a_ aD st.1.1) (cQ d (au st)).1).1 (a_ aD x)=fT d (a_ aD x):=fun x hx=>(lD (hnew x hx)).trans jv
 have k3:∀ x ∈ st.1.2.1,fT (an (jq st) (ak (a_ aD st.1.1) (cQ d (au st)).1).1).1 (a_ aD x)=fT d (a_ aD x):=fun x hx=>(fB (gk (hseg x hx)) (ia (hseg x hx))).trans (k2 x hx)
 have o2:=lJ (s:=a_ aD st.1.1) (d:=(cQ d (au st)).1);have o3:fT (an (jq st) (ak (a_ aD st.1.1) (cQ d (au st)).1).1).1 (a_ aD st.1.1)=fT (ak (a_ aD st.1.1) (cQ d (au st)).1).1 (a_ aD st.1.1):=fB (gk ⟨n1,n2⟩) (ia ⟨n1,n2⟩);obtain ⟨_,_,g1,_,_⟩:=bD (nx:=st.1.1) (ids:=st.1.2.1) h.live;obtain ⟨L0,x,eL,el⟩:=yr h.ids g1;have hmem:∀ y ∈ L,y.1 ∈ st.1.2.1:=fun y hy=>by rw [h.ids];exact List.mem_map.2 ⟨y,hy,rfl⟩
 have hx:x ∈ L:=by rw [eL];exact List.mem_append_right _ iF
 have same:∀ (st':Ty.d aC) (y:Ty.d aA),dK st'.1=true→DR y→st'.1.2.1=st.1.2.1→st'.2.2.2.1=st.2.2.2.1→(∀ x ∈ st.1.2.1,fT y (a_ aD x)=fT d (a_ aD x))→∃ L',TX st' y L'∧jI L'=jI L:=fun st' y hl hd hi hs hk =>
  ⟨L,⟨hl,hd,hi.trans h.ids,fun z hz=>⟨(hk _ (hmem z hz)).trans (h.text z hz).1,(h.text z hz).2⟩,fun t q=>by
   rw [hs];refine h.tail t ?_;have e:au st'=a_ aD x.1:=by unfold au;rw [hi,el]
   have e':au st=a_ aD x.1:=by unfold au;rw [el]
   rw [e,hk _ (hmem x hx)] at q;rw [e'];exact q⟩,rfl⟩
 unfold gV at f1 f2 ⊢;by_cases c1:(st.1.2.1.length:Int)≥60
 · rw [aX c1];exact ⟨L,h,rfl⟩
 by_cases c2:st.1.1≥(100000:Int)
 · rw [aZ c1,aX c2];exact ⟨L,h,rfl⟩
 rw [aZ c1,aZ c2] at f1 f2 ⊢;simp only [aH] at f1 f2 ⊢;generalize cQ d (au st)=r1 at k1 k2 k3 o2 o3 f1 f2 ⊢;generalize ak (a_ aD st.1.1) r1.1=r2 at k2 k3 o2 o3 f1 f2 ⊢;generalize an (jq st) r2.1=r3 at k3 o3 f1 f2 ⊢;cases e1:r1.2 != 0 with
 | true=>rw [e1] at f1 f2;exact same _ _ f1 f2 rfl rfl k1
 | false =>
  rw [e1] at f1 f2;simp only [aH] at f1 f2 ⊢;cases e2:r2.2 != 0 with
  | true=>rw [e2] at f1 f2;exact same _ _ f1 f2 rfl rfl k2
  | false =>
   rw [e2] at f1 f2;simp only [aH] at f1 f2 ⊢;cases e3:r3.2 != 0 with
   | true =>
    rw [e3] at f1 f2;refine same _ _ f1 f2 rfl rfl fun y hy=>?_
    show fT (oG (a_ aD st.1.1) (tl r3)).1 _=_;unfold oG;cases (tl r3).2==2 with
    | false=>exact k3 y hy
    | true =>
     refine (nP [gT,a_ aD st.1.1] r3.1 fun s hs=>?_).trans (k3 y hy);rcases List.mem_cons.1 hs with e | e
     · rw [e];exact gk (hseg y hy)
     · rw [List.mem_singleton.1 e];exact hnew y hy
   | false =>
    rw [e3] at f1 f2;have o2:=o2 (dY e2);refine ⟨L++[(st.1.1,[])],⟨f1,f2,?_,fun y hy=>?_,fun u hu=>?_⟩,?_⟩
    · show st.1.2.1++[st.1.1]=_;rw [List.map_append,← h.ids];rfl
    · rcases List.mem_append.1 hy with w | w
      · exact ⟨(k3 _ (hmem y w)).trans (h.text y w).1,(h.text y w).2⟩
      · rw [List.mem_singleton.1 w];exact ⟨o3.trans o2,fun q hq=>by cases hq⟩
    · have hu:fT r3.1 (a_ aD (aQ (st.1.2.1++[st.1.1])))=some u:=hu;rw [vF,o3,o2] at hu;rw [← Option.some.inj hu];rfl
    · rw [zQ];exact List.append_nil _
theorem R_ {st:Ty.d aC} {d:Ty.d aA} {L:rP} (h:TX st d L) {r:Ty.d bQ} (hr:bN r=true) :
 ∃ L',TX (da st d r).1.1 (da st d r).1.2.1 L'∧jI L'=jI L++(bif (da st d r).1.2.2==0 then [(da st d r).2] else [])∧((da st d r).1.2.2=0→fb (da st d r).2=r):=by
 unfold da;cases decide (st.2.2.2.1 > 0)&&decide (st.2.2.2.1+aS r > 200) with
 | false=>exact NQ h hr
 | true =>
  simp only [ae];obtain ⟨L1,t1,e1⟩:=Ry h;generalize gV st d=q at t1 ⊢;cases c:q.2.2 != 0 with
  | true =>
   have c0:(q.2.2==0)=false:=by unfold bne at c;simpa using c
   refine ⟨L1,t1,?_,fun z=>?_⟩
   · show jI L1=jI L++(bif q.2.2==0 then _ else []);rw [c0,aH,List.append_nil,e1]
   · have z:q.2.2=0:=z;rw [z] at c0;cases c0
  | false =>simp only [aH];obtain ⟨L2,t2,e2,e3⟩:=NQ t1 hr;exact ⟨L2,t2,by rw [e2,e1],e3⟩
theorem EU:∀ (l:ij) (st:Ty.d aC) (d:Ty.d aA) (ps:aT) (L:rP),TX st d L→(∀ r ∈ l,bN r=true) →
 ∃ L' q,TX (bR l st d ps).1.1 (bR l st d ps).1.2.1 L'∧jI L'=jI L++q∧q.map fb=l.take q.length∧((bR l st d ps).1.2.2=0→(bR l st d ps).2=ps++q∧q.length=l.length)∧((bR l st d ps).1.2.2≠0→q.length<l.length)
 | [],st,d,ps,L,h,_=>⟨L,[],h,(List.append_nil _).symm,rfl,fun _=>⟨(List.append_nil _).symm,rfl⟩,fun z=>absurd rfl z⟩
 | r::l,st,d,ps,L,h,hr=>by
  obtain ⟨L1,t1,e1,e2⟩:=R_ h (hr r iF);unfold bR;generalize da st d r=a at t1 e1 e2 ⊢;cases c:a.1.2.2 != 0 with
  | true =>
   have c0:(a.1.2.2==0)=false:=by unfold bne at c;simpa using c
   rw [c0,aH] at e1;refine ⟨L1,[],t1,e1,rfl,fun z=>?_,fun _=>Nat.zero_lt_succ _⟩;have z:a.1.2.2=0:=z;rw [z] at c0;cases c0
  | false =>
   have c0:=dY c;rw [show (a.1.2.2==0)=true from beq_iff_eq.2 c0,ae] at e1;obtain ⟨L2,q,t2,f1,f2,f3,f4⟩:=EU l a.1.1 a.1.2.1 (ps++[a.2]) L1 t1 fun x hx=>hr x (jF _ hx)
   simp only [aH];refine ⟨L2,a.2::q,t2,by rw [f1,e1,qY];rfl,?_,fun z=>?_,fun z=>?_⟩
   · rw [List.map_cons,kM,List.take_succ_cons,f2,e2 c0]
   · obtain ⟨g1,g2⟩:=f3 z;exact ⟨by rw [g1,qY];rfl,by rw [kM,kM,g2]⟩
   · have:=f4 z;rw [kM,kM];omega
theorem MX (st:Ty.d aC) (d:Ty.d aA):(gV st d).1.2.2.1=st.2.2.1:=by
 unfold gV;cases decide ((st.1.2.1.length:Int)≥60) with
 | true=>rfl
 | false =>
  cases decide (st.1.1≥(100000:Int)) with
  | true=>rfl
  | false =>
   simp only [aH];generalize cQ d (au st)=r1;generalize ak (a_ aD st.1.1) r1.1=r2;generalize an (jq st) r2.1=r3;cases r1.2 != 0 with
   | true=>rfl
   | false =>
    cases r2.2 != 0 with
    | true=>rfl
    | false =>
     cases r3.2 != 0 with
     | true=>rfl
     | false=>rfl
theorem D6 (st:Ty.d aC) (d:Ty.d aA) (r:Ty.d bQ):(gh st d r).1.1.2.2.1=st.2.2.1:=by unfold gh;generalize h_ d (au st) (aM (aE r))=a;cases a.2 != 0 <;> rfl
theorem ME (st:Ty.d aC) (d:Ty.d aA) (r:Ty.d bQ):(da st d r).1.1.2.2.1=st.2.2.1:=by
 have h:=MX st d;unfold da;cases decide (st.2.2.2.1 > 0)&&decide (st.2.2.2.1+aS r > 200) with
 | false=>exact D6 st d r
 | true =>
  simp only [ae];generalize gV st d=q at h ⊢;cases q.2.2 != 0 with
  | true=>exact h
  | false=>exact (D6 q.1 q.2.1 r).trans h
theorem uk:∀ (l:ij) (st:Ty.d aC) (d:Ty.d aA) (ps:aT),(bR l st d ps).1.1.2.2.1=st.2.2.1
 | [],_,_,_=>rfl
 | r::l,st,d,ps=>by
  have h:=ME st d r;unfold bR;generalize da st d r=q at h ⊢;cases q.1.2.2 != 0 with
  | true=>exact h
  | false=>exact (uk l _ _ _).trans h
theorem Mh (l:dX) (b:Int):(bf l b).length=l.length+1:=by unfold bf;rw [rt,List.length_map];rfl
def dn (d:Ty.d aA):Bool:=d.2.2.2.1
theorem NF {d:Ty.d aA} {n t:ByteArray} (hd:DR d) (ht:fT d n=some t) (z:(cQ d n).2≠0):dn (cQ d n).1=true:=by
 have hn:(b8 d.1 n).isNone=false:=by
  cases q:b8 d.1 n with
  | none=>rw [Ea.1 q] at ht;cases ht
  | some f=>rfl
 unfold cQ fA at z ⊢;have hb:(jC d).2≠0→dn (jC d).1=true:=fun q=>by
  unfold jC at q ⊢;rw [dH.2 hd] at q ⊢;simp only [g9,aH] at q ⊢;cases c1:d.2.2.2.1 with
  | true=>rfl
  | false =>
   rw [c1] at q;simp only [aH] at q ⊢;cases c2:(d.2.2.1==0) with
   | true=>rfl
   | false =>
    rw [c2] at q;simp only [aH] at q;cases c3:decide ((d.2.2.1:Int) > 0) with
    | true=>rw [c3] at q;exact absurd rfl q
    | false=>rw [c3] at q;exact absurd rfl q
 cases c:(jC d).2 != 0 with
 | true =>rw [ae];exact hb (bne_iff_ne.1 c)
 | false =>rw [c,aH] at z;exfalso;unfold qV at z;rw [hn] at z;exact z rfl
theorem Np {st:Ty.d aC} {d:Ty.d aA} {L:rP} (h:TX st d L):∃ t,fT d (au st)=some t:=by obtain ⟨_,_,g1,_,_⟩:=bD (nx:=st.1.1) (ids:=st.1.2.1) h.live;obtain ⟨L0,x,eL,el⟩:=yr h.ids g1;exact ⟨_,by unfold au;rw [el];exact (h.text x (by rw [eL];exact List.mem_append_right _ iF)).1⟩
theorem xV (b:Int) (x:Ty.d bF):((g7 b x).1=1∨(g7 b x).1=2)∧(g7 b x).2.1=b:=by
 unfold g7;cases x.2.1 with
 | true=>exact ⟨.inr rfl,rfl⟩
 | false=>exact ⟨.inl rfl,rfl⟩
theorem uZ {q:aT} {l:dX} {b:Int} {n:Nat} (h:q.map fb=(l.map (g7 b)).take n):∀ p ∈ q,plain p∧p.2.2.2.1.2.1=b:=fun p hp=>by
 have hm:fb p ∈ (l.map (g7 b)).take n:=by rw [← h];exact List.mem_map.2 ⟨p,hp,rfl⟩
 obtain ⟨x,_,e⟩:=List.mem_map.1 (List.mem_of_mem_take hm);obtain ⟨h1,h2⟩:=xV b x;rw [e] at h1 h2;exact ⟨h1,h2⟩
theorem M7 {pre own:aT} {s:Ty.d aI} {l:dX} {b:Int} {dir:aO} {la:Int} (hp:∀ p ∈ pre,p.2.2.2.1.2.1≠b) (ho:own.map fb=l.map (g7 b)) (hs:fb s=gB 3 b (l.map (g7 b))) (h20:(bq dir own).length≤20) :
 ∃ la',j5 (pre++own) s (dir,la,0)=(bq dir own,la',0):=by
 have hown:∀ p ∈ own,plain p∧p.2.2.2.1.2.1=b:=uZ (n:=(l.map (g7 b)).length) (by rw [List.take_length];exact ho);have hk:s.2.2.2.1=gB 3 b (l.map (g7 b)):=hs;have e:eH b (pre++own)=own:=by rw [yD];show own.foldl (eS b) (pre.foldl (eS b) [])=_;rw [Ao pre [] hp,GG own [] hown,List.nil_append]
 have hf:im (gB 3 b (l.map (g7 b))) own=true:=by unfold im gB;have:own.map Ai=l.map (g7 b):=ho;rw [this,beq_self_eq_true,← ho,List.length_map,beq_self_eq_true];rfl
 refine ⟨nq b la,?_⟩;unfold j5;rw [hk];show (bif (3:Int)==3 then (bif im (gB 3 b (l.map (g7 b))) (eH b (pre++own)) then (bq dir (eH b (pre++own)),nq b la,nL (bq dir (eH b (pre++own))) 0) else _) else _)=_;rw [e,hf];show (bq dir own,nq b la,nL (bq dir own) 0)=_;unfold nL;rw [if_neg (by omega)]
theorem Gy {st:Ty.d aC} {d:Ty.d aA} {l:dX} (h:MI st d) (hp:bw l=true) (hb:LE.le (α:=Int) st.2.2.1 1000000) (ha:jL st.2.1 l≤20) (hn:dn (bS st d l).2.1=false):MI (bS st d l).1 (bS st d l).2.1:=by
 obtain ⟨hs,he⟩:=h.store;have hw:=yJ hs he hp hb ha;obtain ⟨L,t,j⟩:=h;obtain ⟨la,hg⟩:=j.gr;have t0:TX (iV st) d L:=⟨t.live,t.disk,t.ids,t.text,t.tail⟩;obtain ⟨L',q,t1,e1,e2,e3,e4⟩:=EU (bf l st.2.2.1) (iV st) d [] L t0 (nu hp j.lo hb);have hdir:(bR (bf l st.2.2.1) (iV st) d []).1.1.2.1=st.2.1:=by obtain ⟨g1,_,_⟩:=bn hs;exact (nC (bf l st.2.2.1) (iV st) d [] 100000 ⟨g1.live,g1.disk,g1.lo,g1.hi⟩ (by decide)).2.1
 have hbat:(bR (bf l st.2.2.1) (iV st) d []).1.1.2.2.1=(st.2.2.1+1:Int):=uk _ _ _ _;have hlen:=Mh l st.2.2.1;obtain ⟨b1,b2⟩:=TD j.lo hb;have hbq:∀ p ∈ q,p.2.2.2.1.2.1=st.2.2.1:=fun p hp=>by
  have hm:fb p ∈ bf l st.2.2.1:=List.mem_of_mem_take (by rw [← e2];exact List.mem_map.2 ⟨p,hp,rfl⟩);unfold bf at hm;rcases List.mem_append.1 hm with w | w
  · obtain ⟨x,_,e⟩:=List.mem_map.1 w;have:=(xV st.2.2.1 x).2;rw [e] at this;exact this
  · have:=List.mem_singleton.1 w;show (fb p).2.1=_;rw [this];rfl
 have hbat2:∀ p ∈ jI L',LT.lt (α:=Int) p.2.2.2.1.2.1 (st.2.2.1+1):=fun p hp=>by
  rw [e1] at hp;rcases List.mem_append.1 hp with w | w
  · exact Int.lt_trans (j.bat p w) (Int.lt_succ _)
  · rw [hbq p w];exact Int.lt_succ _
 have hmark:∀ q':aT,(∀ p ∈ q',p ∈ q)→bU (jI L++q')=[]:=fun q' hq=>by
  rw [mJ,j.mark];refine A0 q' [] fun p hp=>?_
  have hm:fb p ∈ bf l st.2.2.1:=List.mem_of_mem_take (by rw [← e2];exact List.mem_map.2 ⟨p,hq p hp,rfl⟩);unfold bf at hm;rcases List.mem_append.1 hm with w | w
  · obtain ⟨x,_,e⟩:=List.mem_map.1 w;have:=(xV st.2.2.1 x).1;rw [e] at this;have this:p.2.2.2.1.1=1∨p.2.2.2.1.1=2:=this;rcases this with v | v <;> rw [v] <;> exact ⟨by decide,by decide⟩
  · have:=List.mem_singleton.1 w;have e:p.2.2.2.1.1=3:=by
     show (fb p).1=3;rw [this];rfl
    rw [e];exact ⟨by decide,by decide⟩
 have some:q.length≤l.length→JT (jI L') st.2.1 (st.2.2.1+1):=fun hq=>by
  have e2':q.map fb=(l.map (g7 st.2.2.1)).take q.length:=by rw [e2];unfold bf;rw [List.take_append_of_le_length (by rw [List.length_map];exact hq)]
  obtain ⟨la',hla⟩:=zB q (jI L) st.2.1 la fun p hp=>(uZ e2' p hp).1
  refine ⟨⟨la',?_⟩,by rw [e1];exact hmark q fun p hp=>hp,hbat2,b1,b2⟩;rw [e1,sE,hg];exact hla
 unfold bS at hn hw ⊢;generalize bR (bf l st.2.2.1) (iV st) d []=a at t1 e3 e4 hdir hbat hn hw ⊢;unfold rH at hn hw ⊢;cases c:a.1.2.2 != 0 with
 | true =>have hlt:=e4 (bne_iff_ne.1 c);refine ⟨L',t1,?_⟩;show JT (jI L') a.1.1.2.1 a.1.1.2.2.1;rw [hdir,hbat];exact some (by omega)
 | false =>
  rw [c] at hn hw;simp only [aH] at hn hw ⊢;obtain ⟨f1,f2⟩:=e3 (dY c);obtain ⟨tt,ht⟩:=Np t1;have hsd:=fun z=>NF t1.disk ht z
  have hsf:∀ s,fT (cQ a.1.2.1 (au a.1.1)).1 s=fT a.1.2.1 s:=fun s=>jv
  have hsD:=m9 t1.disk (au a.1.1);generalize cQ a.1.2.1 (au a.1.1)=y at hn hw hsd hsf hsD ⊢;cases c2:y.2 != 0 with
  | true =>rw [c2] at hn;have hn:dn y.1=false:=hn;rw [hsd (bne_iff_ne.1 c2)] at hn;cases hn
  | false =>
   rw [c2] at hw;simp only [aH] at hw ⊢;obtain ⟨s1,_⟩:=hw trivial;have h20:=rT s1;refine ⟨L',⟨t1.live,hsD,t1.ids,fun x hx=>⟨(hsf _).trans (t1.text x hx).1,(t1.text x hx).2⟩,fun t q=>t1.tail t ((hsf _).symm.trans q)⟩,?_⟩;show JT (jI L') (bq a.1.1.2.1 (a.2.take l.length)) a.1.1.2.2.1;have h20:(bq a.1.1.2.1 (a.2.take l.length)).length≤20:=h20;rw [hdir,f1,List.nil_append] at h20;rw [hdir,hbat,f1,List.nil_append];have hq1:q.length=l.length+1:=by omega
   obtain ⟨own,s,eq⟩:∃ own s,q=own++[s]:=by
    rcases List.eq_nil_or_concat q with w | ⟨a',b',w⟩
    · rw [w] at hq1;cases hq1
    · exact ⟨a',b',by rw [w,List.concat_eq_append]⟩
   subst eq;have ho1:own.length=l.length:=by rw [rt,List.length_singleton] at hq1;omega
   have et:(own++[s]).take l.length=own:=by rw [← ho1];exact List.take_left
   rw [et] at h20 ⊢;have e2f:(own++[s]).map fb=bf l st.2.2.1:=by rw [e2,f2,List.take_length]
   rw [List.map_append] at e2f;unfold bf at e2f;obtain ⟨m1,m2⟩:=List.append_inj e2f (by rw [List.length_map,List.length_map];exact ho1);have m2:fb s=gB 3 st.2.2.1 (l.map (g7 st.2.2.1)):=(List.cons.inj m2).1;have hown:∀ p ∈ own,plain p∧p.2.2.2.1.2.1=st.2.2.1:=uZ (n:=(l.map (g7 st.2.2.1)).length) (by rw [List.take_length];exact m1);obtain ⟨la1,hla1⟩:=zB own (jI L) st.2.1 la fun p hp=>(hown p hp).1
   obtain ⟨la2,hla2⟩:=M7 (pre:=jI L) (own:=own) (s:=s) (dir:=st.2.1) (la:=la1) (fun p hp=>Int.ne_of_lt (j.bat p hp)) m1 m2 h20;refine ⟨⟨la2,?_⟩,by rw [e1];exact hmark _ fun p hp=>hp,hbat2,b1,b2⟩;rw [e1,sE,hg];show gr (jI L) (own++[s]) (st.2.1,la,0)=_;rw [sE,hla1];exact hla2
theorem LJ {st:Ty.d aC} {d:Ty.d aA} (l:dX) (h:MI st d) (hn:dn (bm st d l).2.1=false):MI (bm st d l).1 (bm st d l).2.1:=by
 rcases Hq st d l with ⟨c,hc,e⟩ | ⟨hs,hl,e⟩ | ⟨hs,hp,hl,ha,hb,e⟩
 · rw [e];exact h
 · rw [e];exact h
 · rw [e] at hn ⊢;exact Gy h hp hb ha hn
theorem HA {a b:Int} (h:a≤b):∀ (l:List Int) (p:Option Int),pB (qO a) p l=true→pB (qO b) p l=true
 | [],_,_=>rfl
 | x::l,p,q=>by unfold pB at q ⊢;rw [gY] at q ⊢;refine ⟨?_,HA h l (some x) q.2⟩;have q1:=q.1;unfold qO at q1 ⊢;rw [gY,decide_eq_true_eq] at q1 ⊢;exact ⟨⟨q1.1.1,Int.le_trans q1.1.2 h⟩,q1.2⟩
theorem M5 {n:Int} {ids:List Int} (h:dK (n,(ids,()))=true) (hn:n+2≤100000):dK (n+2,(ids,()))=true:=by obtain ⟨g1,g2,_⟩:=bD h;unfold dK at h ⊢;simp only [gY,decide_eq_true_eq] at h ⊢;rw [aG (n:=n+2-1) (by omega) (by omega)];rw [aG (n:=n-1) (by omega) (by omega)] at h;exact ⟨⟨show (1:Int)≤n+2 by omega,show n+2≤(100000:Int) from hn⟩,h.2.1,HA (by omega) _ _ h.2.2⟩
theorem A_:∀ (q pre:aT) (d:aO) (la:Int),(∀ p ∈ q,p.2.2.2.1.1≠3∧p.2.2.2.1.1≠5)→∃ la',gr pre q (d,la,0)=(d,la',0)
 | [],_,d,la,_=>⟨la,rfl⟩
 | p::q,pre,d,la,h=>by
  obtain ⟨h3,h5⟩:=h p iF;obtain ⟨la',e⟩:=A_ q (pre++[p]) d (nq p.2.2.2.1.2.1 la) fun x hx=>h x (jF _ hx)
  refine ⟨la',?_⟩;unfold gr j5;rw [pG h3,pG h5];exact e
theorem uj:∀ (q acc:aT),(∀ p ∈ q,p.2.2.2.1.1=4)→q.foldl fv acc=acc++q
 | [],acc,_=>(List.append_nil acc).symm
 | p::q,acc,h=>by
  have e:fv acc p=acc++[p]:=by unfold fv;rw [h p iF];rfl
  rw [List.foldl_cons,e,uj q (acc++[p]) fun x hx=>h x (jF _ hx),qY];rfl
theorem Ju {dir:aO} {e:Ty.d aB} (h:∀ x ∈ dir,nS x.1 e.1=true):pb dir e=dir++[e]:=by
 have h1:lH dir e.1=dir:=by
  unfold lH;refine List.filter_eq_self.2 fun x hx=>?_
  have hs:=h x hx;cases c:seq x.1 e.1 with
  | false=>rfl
  | true =>rw [cF.1 c] at hs;exact absurd hs (by rw [ly];decide)
 unfold pb uG;rw [h1];obtain ⟨w1,w2⟩:=D1 (p:=Q1 e.1) (l:=dir) fun x hx=>by unfold Q1;rw [h x hx];rfl
 rw [w1,w2]
theorem xp (m:Int):∀ (l:fL) (a:Int) (dir:aO),cB (hZ dir++l.map (·.1))→bq dir (bP m (eY (l.map bz) a))=dir++gy m l a
 | [],a,dir,_=>(List.append_nil dir).symm
 | p::l,a,dir,h=>by
  have e0:f8 dir (m,(a,(aS (bz p),(bz p,()))))=dir++[(p.1,(m,(a,(aS (bz p),(p.2.2.1,())))))]:=by
   unfold f8;show pb dir (p.1,(m,(a,(aS (bz p),(p.2.2.1,())))))=_;refine Ju fun x hx=>?_
   rw [List.map_cons] at h;exact (List.pairwise_append.1 h).2.2 x.1 (List.mem_map.2 ⟨x,hx,rfl⟩) p.1 iF
  show bq (f8 dir (m,(a,(aS (bz p),(bz p,()))))) (bP m (eY (l.map bz) (a+aS (bz p))))=_;rw [e0,xp m l (a+aS (bz p)) _ (by
   unfold hZ;rw [List.map_append,qY];exact h),qY]
  rfl
theorem DJ {st:Ty.d aC} {d:Ty.d aA} (h:bo st d=true):(∀ r ∈ fK (bH st.2.1 d).1 (st.2.2.1-1),bN r=true)∧∀ p ∈ (bH st.2.1 d).1,LT.lt (α:=Int) p.2.2.1 st.2.2.1:=by
 obtain ⟨k1,k2⟩:=xU h;obtain ⟨b1,b2⟩:=BS h;have h20:=rT h;have hz:=qQ st.2.1 d;refine ⟨fun r hr=>?_,fun p hp=>?_⟩
 · unfold fK at hr;rcases List.mem_append.1 hr with q | q
   · obtain ⟨p,hp,rfl⟩:=List.mem_map.1 q;exact k1 p hp
   · rw [List.mem_singleton.1 q];have hs:=Jx ((bH st.2.1 d).1.map bz);unfold bN gB;rw [show ((5:Int)==1||(5:Int)==4)=false from rfl,show ((5:Int)==2)=false from rfl,show ((5:Int)==3)=false from rfl,show ((5:Int)==5)=true from rfl];simp only [aH,ae];rw [aX (show (0:Int)≤(((bH st.2.1 d).1.map bz).length:Int)∧(((bH st.2.1 d).1.map bz).length:Int)≤20 by rw [List.length_map];omega),aX hs,aX (PO b1 b2),show seq ByteArray.empty ⟨#[]⟩=true from bB _];rfl
 · rw [lN h] at hp;obtain ⟨e,he,rfl⟩:=List.mem_map.1 hp;unfold bo at h;simp only [gY] at h;have hin:=List.all_eq_true.1 h.2.2.2.2.2 e he;unfold nV at hin;simp only [gY,beq_iff_eq,Bool.not_eq_true',decide_eq_false_iff_not] at hin;show LT.lt (α:=Int) (d6 d e).1.2.1 st.2.2.1;rw [hin.2.2.1];exact Int.not_le.1 hin.2.2.2.2
theorem C7 {pre:aT} {p:Ty.d aI} {dir:aO} {la:Int} (hk:p.2.2.2.1.1=5) (hf:im p.2.2.2.1 (bU pre)=true) (h20:(bq dir (bU pre)).length≤20):j5 pre p (dir,la,0)=(bq dir (bU pre),nq p.2.2.2.1.2.1 la,0):=by unfold j5;rw [hk,show ((5:Int)==3)=false from rfl,aH,show ((5:Int)==5)=true from rfl,ae,hf,ae];show (bq dir (bU pre),nq p.2.2.2.1.2.1 la,nL (bq dir (bU pre)) 0)=_;unfold nL;rw [if_neg (by omega)]
theorem QI {m b:Int} {l:fL} (hk:cB (l.map (·.1))) (h20:l.length≤20) (hb:∀ p ∈ l,LT.lt (α:=Int) p.2.2.1 b) (b1:LE.le (α:=Int) 1 b) (b2:LE.le (α:=Int) b 1000001):JT (jI [(m,fK l (b-1)),(m+1,[])]) (gy m l 0) b:=by
 have e0:jI [(m,fK l (b-1)),(m+1,[])]=bP m (eY (l.map bz) 0)++[(m,(((aR (l.map bz)).size:Int),(aS (gB 5 (b-1) (l.map bz)),(gB 5 (b-1) (l.map bz),()))))]:=by show uA (m,fK l (b-1))++([]++[])=_;rw [List.append_nil,List.append_nil];unfold fK;exact FQ m (l.map bz) _
 have hq:∀ p ∈ bP m (eY (l.map bz) 0),p.2.2.2.1 ∈ l.map bz:=fun p hp=>by
  have:∀ (rs:ij) (a:Int),∀ x ∈ eY rs a,x.2.2.1 ∈ rs:=by
   intro rs
   induction rs with
   | nil=>exact fun a x hx=>by cases hx
   | cons r rs ih =>
    intro a x hx;rw [eY] at hx;rcases List.mem_cons.1 hx with w | w
    · rw [w];exact iF
    · exact jF _ (ih _ x w)
  unfold bP at hp;obtain ⟨x,hx,rfl⟩:=List.mem_map.1 hp;exact this _ _ x hx
 have h4:∀ p ∈ bP m (eY (l.map bz) 0),p.2.2.2.1.1=4∧LT.lt (α:=Int) p.2.2.2.1.2.1 b:=fun p hp=>by obtain ⟨x,hx,e⟩:=List.mem_map.1 (hq p hp);rw [← e];exact ⟨rfl,hb x hx⟩
 have hrec:∀ (rs:ij) (a:Int),(bP m (eY rs a)).map Ai=rs:=by
  intro rs
  induction rs with
  | nil=>exact fun _=>rfl
  | cons r rs ih =>intro a;show r::(bP m (eY rs (a+aS r))).map Ai=_;rw [ih]
 have hown:bU (bP m (eY (l.map bz) 0))=bP m (eY (l.map bz) 0):=by unfold bU;rw [uj _ _ fun p hp=>(h4 p hp).1,List.nil_append]
 have hf:im (gB 5 (b-1) (l.map bz)) (bP m (eY (l.map bz) 0))=true:=by
  have hl:(bP m (eY (l.map bz) 0)).length=(l.map bz).length:=by have:=congrArg List.length (hrec (l.map bz) 0);rw [List.length_map] at this;exact this
  unfold im gB;rw [hrec,hl,beq_self_eq_true,beq_self_eq_true];rfl
 have ha:bq [] (bP m (eY (l.map bz) 0))=gy m l 0:=by rw [xp m l 0 [] hk,List.nil_append]
 rw [e0];obtain ⟨la,hla⟩:=A_ (bP m (eY (l.map bz) 0)) [] [] 0 fun p hp=>by rw [(h4 p hp).1];exact ⟨by decide,by decide⟩
 generalize bP m (eY (l.map bz) 0)=pl at h4 hown hf ha hla ⊢;refine ⟨⟨nq (b-1) la,?_⟩,?_,fun p hp=>?_,b1,b2⟩
 · rw [sE,hla,List.nil_append];have e:=C7 (pre:=pl) (p:=(m,(((aR (l.map bz)).size:Int),(aS (gB 5 (b-1) (l.map bz)),(gB 5 (b-1) (l.map bz),()))))) (dir:=[]) (la:=la) rfl (by rw [hown];exact hf) (by rw [hown,ha,vc];exact h20);rw [hown,ha] at e;exact e
 · rw [mJ];rfl
 · rcases List.mem_append.1 hp with w | w
   · exact (h4 p w).2
   · rw [List.mem_singleton.1 w];show LT.lt (α:=Int) (b-1) b;exact Int.sub_lt_self b (by decide)
theorem Ic {hb:ByteArray→ByteArray} {st:Ty.d aC} {d:Ty.d aA} {l:fL} (hl:dK st.1=true) (hd:DR d) (hn:LE.le (α:=Int) (st.1.1+2) 100000) :
 ((bT hb st d l).1=pV st∧DR (bT hb st d l).2.1∧∀ x ∈ st.1.2.1,fT (bT hb st d l).2.1 (a_ aD x)=fT d (a_ aD x)) ∨
 ((bT hb st d l).1=(ez st.1.1,(gy st.1.1 l 0,(st.2.2.1,(0,(0,())))))∧DR (bT hb st d l).2.1∧fT (bT hb st d l).2.1 (a_ aD st.1.1)=some (aR (fK l (st.2.2.1-1)))∧fT (bT hb st d l).2.1 (a_ aD (st.1.1+1))=some ByteArray.empty):=by
 obtain ⟨n1,n2,n3,_⟩:=fk (n:=st.1.1) (ids:=st.1.2.1) hl;have hm:(1:Int)≤st.1.1∧st.1.1≤(100000:Int):=⟨n1,n2⟩;have hm1:LE.le (α:=Int) 1 (st.1.1+1)∧LE.le (α:=Int) (st.1.1+1) 100000:=⟨by omega,by omega⟩;have hseg:∀ x:Int,x ∈ st.1.2.1→1≤x∧x≤100000:=fun x hx=>⟨(n3 x hx).1,HS (n3 x hx).2 n2⟩
 have no1:∀ x ∈ st.1.2.1,a_ aD st.1.1≠a_ aD x:=fun x hx=>ob hm (hseg x hx) (by have:=(n3 x hx).2;omega)
 have no2:∀ x ∈ st.1.2.1,a_ aD (st.1.1+1)≠a_ aD x:=fun x hx=>ob hm1 (hseg x hx) (by have:=(n3 x hx).2;omega)
 have no3:∀ x ∈ st.1.2.1,a_ bG st.1.1≠a_ aD x:=fun x hx=>li hm (hseg x hx)
 have no4:a_ aD (st.1.1+1)≠a_ aD st.1.1:=ob hm1 hm (by omega);have dropK:∀ (r:RD),DR r.1→(∀ x ∈ st.1.2.1,fT r.1 (a_ aD x)=fT d (a_ aD x))→DR (lY (km st.1.1) r).1∧∀ x ∈ st.1.2.1,fT (lY (km st.1.1) r).1 (a_ aD x)=fT d (a_ aD x):=fun r hr k=>by
  unfold lY;cases r.2==2 with
  | false=>exact ⟨hr,k⟩
  | true =>
   refine ⟨jy _ _ hr,fun x hx=>(nP _ _ fun s hs=>?_).trans (k x hx)⟩;unfold km at hs;rcases List.mem_cons.1 hs with e | e
   · rw [e];exact gk (hseg x hx)
   rcases List.mem_cons.1 e with e | e
   · rw [e];exact no1 x hx
   rcases List.mem_cons.1 e with e | e
   · rw [e];exact no2 x hx
   · rw [List.mem_singleton.1 e];exact no3 x hx
 have a0:DR (cR st.1.1 l (st.2.2.1-1) d).1:=sD _ _ _ hd;have a1:∀ x ∈ st.1.2.1,fT (cR st.1.1 l (st.2.2.1-1) d).1 (a_ aD x)=fT d (a_ aD x):=fun x hx=>zN (no1 x hx)
 have a2:(cR st.1.1 l (st.2.2.1-1) d).2=0→fT (cR st.1.1 l (st.2.2.1-1) d).1 (a_ aD st.1.1)=some (aR (fK l (st.2.2.1-1))):=fun z=>by
  unfold cR at z ⊢;obtain ⟨z1,z2,_⟩:=iw z;rw [z2];rw [jv];have z0:(ak (a_ aD st.1.1) d).2=0:=by
   by_cases w:(ak (a_ aD st.1.1) d).2=0
   · exact w
   · rw [EQ _ _ _ w] at z1;exact absurd z1 w
  have:=Iy (a_ aD st.1.1) (fK l (st.2.2.1-1)) (ak (a_ aD st.1.1) d) ByteArray.empty (lJ z0) z1;rw [this,show (ByteArray.empty:ByteArray)=dB [] from rfl,ut]
 unfold bT;generalize cR st.1.1 l (st.2.2.1-1) d=a at a0 a1 a2 ⊢;cases ca:a.2 != 0 with
 | true=>exact .inl ⟨rfl,dropK (tl a) a0 a1⟩
 | false =>
  have b0:=j8 (a_ aD (st.1.1+1)) a.1 a0;have b1:∀ x ∈ st.1.2.1,fT (ak (a_ aD (st.1.1+1)) a.1).1 (a_ aD x)=fT d (a_ aD x):=fun x hx=>(lD (no2 x hx)).trans (a1 x hx)
  have b2:=(lD (d:=a.1) no4).trans (a2 (dY ca));have b3:=lJ (s:=a_ aD (st.1.1+1)) (d:=a.1);simp only [aH];generalize ak (a_ aD (st.1.1+1)) a.1=b at b0 b1 b2 b3 ⊢;cases cb:b.2 != 0 with
  | true=>exact .inl ⟨rfl,dropK (tl b) b0 b1⟩
  | false =>
   have b3:=b3 (dY cb);have c0:DR (fy hb st.1.1 b.1).1:=by
    unfold fy;cases (jw (a_ bG st.1.1) (hb (aW b.1 (a_ aD st.1.1)).1) b.1).2==2 with
    | true=>exact jy _ _ (jj _ _ _ b0)
    | false=>exact jj _ _ _ b0
   have c1:∀ x ∈ st.1.2.1,fT (fy hb st.1.1 b.1).1 (a_ aD x)=fT d (a_ aD x):=fun x hx=>(qj (no3 x hx)).trans (b1 x hx)
   have c2:=(qj (hb:=hb) (d:=b.1) (li hm hm)).trans b2;have c3:=(qj (hb:=hb) (d:=b.1) (li hm hm1)).trans b3;simp only [aH];generalize fy hb st.1.1 b.1=e at c0 c1 c2 c3 ⊢;cases ce:e.2 != 0 with
   | true=>exact .inl ⟨rfl,c0,c1⟩
   | false =>
    have d0:=kR (ez st.1.1) _ c0;have d1:∀ x ∈ st.1.2.1,fT (an (ez st.1.1) e.1).1 (a_ aD x)=fT d (a_ aD x):=fun x hx=>(fB (gk (hseg x hx)) (ia (hseg x hx))).trans (c1 x hx)
    have d2:=(fB (d:=e.1) (v:=ez st.1.1) (gk hm) (ia hm)).trans c2;have d3:=(fB (d:=e.1) (v:=ez st.1.1) (gk hm1) (ia hm1)).trans c3;simp only [aH];generalize an (ez st.1.1) e.1=f at d0 d1 d2 d3 ⊢;cases cf:f.2 != 0 with
    | true=>exact .inl ⟨rfl,dropK (tl f) d0 d1⟩
    | false =>
     simp only [aH];have o0:∀ (ids:List Int) (x:Ty.d aA),DR x→DR (mM ids x).1:=by
      intro ids
      induction ids with
      | nil=>exact fun x hx=>hx
      | cons y ids ih=>exact fun x hx=>iI (jy _ _ hx) fun z hz=>ih z hz
     exact .inr ⟨by trivial,o0 _ _ d0,(ud st.1.2.1 f.1 fun x hx=>⟨fun q=>no1 x hx q.symm,li (hseg x hx) hm⟩).trans d2,(ud st.1.2.1 f.1 fun x hx=>⟨fun q=>no2 x hx q.symm,li (hseg x hx) hm1⟩).trans d3⟩
theorem GV {st:Ty.d aC} {d:Ty.d aA} (h:MI st d):MI (bI st d).1 (bI st d).2.1:=by
 obtain ⟨hs,he⟩:=h.store;unfold bI;rw [hs];simp only [g9,aH];by_cases c2:st.1.1+2 > (100000:Int)
 · rw [aX c2];exact h
 · rw [aZ c2];simp only [aH];cases c3:(bH st.2.1 d).2 != 0 with
   | true=>exact h
   | false =>
    simp only [aH];have hn:LE.le (α:=Int) (st.1.1+2) 100000:=Int.not_lt.1 c2;obtain ⟨k1,k2⟩:=xU hs;obtain ⟨k3,k4⟩:=DJ hs;have h20:=rT hs;have hz:=qQ st.2.1 d;obtain ⟨L,t,j⟩:=h;obtain ⟨n1,n2,n3,_⟩:=fk (n:=st.1.1) (ids:=st.1.2.1) t.live;obtain ⟨_,_,g1,_,_⟩:=bD (nx:=st.1.1) (ids:=st.1.2.1) t.live;rcases Ic (hb:=qZ st.1.1) (l:=(bH st.2.1 d).1) t.live t.disk hn with ⟨e1,e2,e3⟩ | ⟨e1,e2,e3,e4⟩
    · generalize bT (qZ st.1.1) st d (bH st.2.1 d).1=q at e1 e2 e3 ⊢;rw [e1];obtain ⟨L0,x,eL,el⟩:=yr t.ids g1;have hmem:∀ y ∈ L,y.1 ∈ st.1.2.1:=fun y hy=>by rw [t.ids];exact List.mem_map.2 ⟨y,hy,rfl⟩
      have hx:x ∈ L:=by rw [eL];exact List.mem_append_right _ iF
      have ea:au st=a_ aD x.1:=by unfold au;rw [el]
      have ea2:au (pV st)=a_ aD x.1:=ea;refine ⟨L,⟨M5 (n:=st.1.1) (ids:=st.1.2.1) t.live hn,e2,t.ids,fun y hy=>⟨(e3 _ (hmem y hy)).trans (t.text y hy).1,(t.text y hy).2⟩,fun s q=>t.tail s ?_⟩,j⟩;rw [ea2,e3 _ (hmem x hx)] at q;rw [ea];exact q
    · generalize bT (qZ st.1.1) st d (bH st.2.1 d).1=q at e1 e2 e3 e4 ⊢;rw [e1];refine ⟨[(st.1.1,fK (bH st.2.1 d).1 (st.2.2.1-1)),(st.1.1+1,[])],⟨Mf n1 hn,e2,rfl,fun x hx=>?_,fun s w=>?_⟩,QI k2 (by omega) k4 j.lo j.hi⟩
      · rcases List.mem_cons.1 hx with w | w
        · rw [w];exact ⟨e3,k3⟩
        · rw [List.mem_singleton.1 w];exact ⟨e4,fun r hr=>by cases hr⟩
      · have w:fT q.2.1 (a_ aD (st.1.1+1))=some s:=w;rw [e4] at w;rw [← Option.some.inj w];rfl
theorem JJ {A:aT} (h1:∀ b,eH b A=[]) (h2:bU A=[]):∀ (r pre:aT) (s:Oj),gr (A++pre) r s=gr pre r s
 | [],_,_=>rfl
 | p::r,pre,s=>by
  have e1:∀ b,eH b (A++pre)=eH b pre:=fun b=>by rw [yD,h1];rfl
  have e2:bU (A++pre)=bU pre:=by rw [mJ,h2];rfl
  unfold gr j5;rw [e1,e2,qY,JJ h1 h2 r]
theorem FT:∀ (r pre:aT) (d:aO) (la la' c:Int),(gr pre r (d,la,c)).1=(gr pre r (d,la',c)).1∧(gr pre r (d,la,c)).2.2=(gr pre r (d,la',c)).2.2
 | [],_,_,_,_,_=>⟨rfl,rfl⟩
 | p::r,pre,d,la,la',c=>by
  unfold gr;simp only [];cases c != 0 with
  | true=>exact ⟨rfl,rfl⟩
  | false =>
   simp only [aH];unfold j5;simp only [];cases p.2.2.2.1.1==3 with
   | true =>simp only [ae];cases im p.2.2.2.1 (eH p.2.2.2.1.2.1 pre) <;> exact FT r _ _ _ _ _
   | false =>
    simp only [aH];cases p.2.2.2.1.1==5 with
    | true =>simp only [ae];cases im p.2.2.2.1 (bU pre) <;> exact FT r _ _ _ _ _
    | false=>exact FT r _ _ _ _ _
theorem G5 {m:Int}:∀ (l:DK) (p:Option (Ty.d cX)),pB (ng m) p l=true→(∀ x ∈ l,x.2.2.1.1=4∧LE.le (α:=Int) x.2.2.1.2.1 m)∧cB (l.map fun x=>x.2.2.1.2.2.1)∧(∀ q,p=some q→∀ x ∈ l,nS q.2.2.1.2.2.1 x.2.2.1.2.2.1=true)
 | [],p,_=>⟨fun x h=>(by cases h),List.Pairwise.nil,fun q _ x h=>(by cases h)⟩
 | g::l,p,h=>by
  unfold pB at h;rw [gY] at h;obtain ⟨h1,h2⟩:=h;obtain ⟨i1,i2,i3⟩:=G5 l (some g) h2;unfold ng at h1;simp only [gY,beq_iff_eq,Bool.not_eq_true',decide_eq_false_iff_not] at h1;obtain ⟨g1,g2,g3⟩:=h1;refine ⟨fun x hx=>?_,?_,fun q hq x hx=>?_⟩
  · rcases List.mem_cons.1 hx with e | e
    · rw [e];exact ⟨g1,Int.not_lt.1 g2⟩
    · exact i1 x e
  · rw [List.map_cons];unfold cB;rw [List.pairwise_cons];refine ⟨fun x hx=>?_,i2⟩;obtain ⟨f,hf,rfl⟩:=List.mem_map.1 hx;exact i3 g rfl f hf
  · subst hq;rcases List.mem_cons.1 hx with e | e
    · rw [e];exact g3
    · exact o9 g3 (i3 g rfl x e)
theorem xh (m:Int):∀ (l:DK) (dir:aO),(∀ x ∈ l,x.2.2.1.1=4)→cB (hZ dir++l.map fun x=>x.2.2.1.2.2.1)→bq dir (bP m l)=dir++l.map (H7 m)
 | [],dir,_,_=>(List.append_nil dir).symm
 | x::l,dir,h4,h=>by
  have e0:f8 dir (m,x)=dir++[H7 m x]:=by
   unfold f8;rw [show ((m,x):Ty.d aI).2.2.2.1.1=4 from h4 x iF];show pb dir (H7 m x)=_;refine Ju fun y hy=>?_
   rw [List.map_cons] at h;exact (List.pairwise_append.1 h).2.2 y.1 (List.mem_map.2 ⟨y,hy,rfl⟩) x.2.2.1.2.2.1 iF
  show bq (f8 dir (m,x)) (bP m l)=_;rw [e0,xh m l _ (fun y hy=>h4 y (jF _ hy)) (by
   unfold hZ;rw [List.map_append,qY];exact h),qY]
  rfl
theorem Kq {id:Int} {rs:ij} (hr:∀ r ∈ rs,bN r=true) (h:(g8 id (aR rs)).2=true) :
 (∃ la,gr [] (uA (id,rs)) ([],0,0)=((g8 id (aR rs)).1.2.2.1,la,0))∧(∀ b,eH b (uA (id,rs))=[])∧bU (uA (id,rs))=[]∧∀ p ∈ uA (id,rs),LE.le (α:=Int) p.2.2.2.1.2.1 (g8 id (aR rs)).1.2.1:=by
 have hsp:uA (id,rs)=bP id (b9 (aR rs)).1:=by unfold uA;rw [uw hr]
 have hok:∀ x ∈ (b9 (aR rs)).1,bN x.2.2.1=true:=fun x hx=>by refine hr _ ?_;rw [← (qm hr).1];exact List.mem_map.2 ⟨x,hx,rfl⟩
 rw [hsp];unfold g8 at h ⊢;cases c1:(b9 (aR rs)).2 != ((aR rs).size:Int) with
 | true=>rw [c1] at h;cases h
 | false =>
  rw [c1] at h;simp only [aH] at h ⊢;generalize (b9 (aR rs)).1=l at h hok ⊢;cases c2:l.length==0 with
  | true=>rw [c2] at h;cases h
  | false =>
   rw [c2] at h;simp only [aH] at h ⊢;have hne:l.length≠0:=by simpa using c2
   obtain ⟨k,mk,el⟩:∃ k mk,l=k++[mk]:=by
    rcases List.eq_nil_or_concat l with w | ⟨a,b,w⟩
    · rw [w] at hne;exact absurd rfl hne
    · exact ⟨a,b,by rw [w,List.concat_eq_append]⟩
   subst el;have et:(k++[mk]).take ((k++[mk]).length-1)=k:=by rw [rt,List.length_singleton,Nat.add_sub_cancel];exact List.take_left
   have eg:(k++[mk]).getD ((k++[mk]).length-1) (Ty.z cX)=mk:=by rw [rt,List.length_singleton,Nat.add_sub_cancel];simp [List.getD]
   rw [et,eg] at h ⊢;cases c3:mk.2.2.1.1 != 5 with
   | true=>rw [c3] at h;cases h
   | false =>
    rw [c3] at h;simp only [aH] at h ⊢;cases c4:!decide ((1:Int)≤id∧id≤100000) with
    | true=>rw [c4] at h;cases h
    | false =>
     rw [c4] at h;simp only [aH] at h ⊢;cases c5:pB (ng mk.2.2.1.2.1) none k with
     | false=>rw [c5] at h;cases h
     | true =>
      rw [c5] at h;simp only [g9,aH] at h ⊢;cases c6:im mk.2.2.1 (bP id k) with
      | false=>rw [c6] at h;cases h
      | true =>
       simp only [g9,aH];obtain ⟨a1,a2,_⟩:=G5 k none c5;have c3:mk.2.2.1.1=5:=by simpa using c3
       have h4:∀ p ∈ bP id k,p.2.2.2.1.1=4∧LE.le (α:=Int) p.2.2.2.1.2.1 mk.2.2.1.2.1:=fun p hp=>by unfold bP at hp;obtain ⟨x,hx,rfl⟩:=List.mem_map.1 hp;exact a1 x hx
       have hmk:=hok mk (List.mem_append_right _ iF);have h20:(bP id k).length≤20:=by
        unfold im at c6;rw [gY,beq_iff_eq] at c6;unfold bN at hmk;rw [c3] at hmk;rw [show ((5:Int)==1||(5:Int)==4)=false from rfl,show ((5:Int)==2)=false from rfl,show ((5:Int)==3)=false from rfl,show ((5:Int)==5)=true from rfl] at hmk;simp only [aH,ae,gY,decide_eq_true_eq] at hmk;have hc:LE.le (α:=Int) (((bP id k).length:Nat):Int) 20:=by rw [← c6.1];exact hmk.2.2.1.2
        omega
       have hown:bU (bP id k)=bP id k:=by unfold bU;rw [uj _ _ fun p hp=>(h4 p hp).1,List.nil_append]
       have ha:bq [] (bP id k)=k.map (H7 id):=by rw [xh id k [] (fun x hx=>(a1 x hx).1) a2,List.nil_append]
       have epl:bP id (k++[mk])=bP id k++[(id,mk)]:=by unfold bP;rw [List.map_append];rfl
       obtain ⟨la,hla⟩:=A_ (bP id k) [] [] 0 fun p hp=>by rw [(h4 p hp).1];exact ⟨by decide,by decide⟩
       rw [epl];have hlen:(bP id k).length=k.length:=xg id k;refine ⟨⟨nq mk.2.2.1.2.1 la,?_⟩,fun b=>?_,?_,fun p hp=>?_⟩
       · rw [sE,hla,List.nil_append];have e:=C7 (pre:=bP id k) (p:=(id,mk)) (dir:=[]) (la:=la) c3 (by rw [hown];exact c6) (by rw [hown,ha,List.length_map];omega);rw [hown,ha] at e;exact e
       · have:∀ (q:aT),(∀ p ∈ q,p.2.2.2.1.1=4∨p.2.2.2.1.1=5)→q.foldl (eS b) []=[]:=by
          intro q
          induction q with
          | nil=>exact fun _=>rfl
          | cons p q ih =>
           intro hq;have e:eS b [] p=[]:=by
            unfold eS;rcases hq p iF with w | w <;> rw [w] <;> cases p.2.2.2.1.2.1==b <;> rfl
           rw [List.foldl_cons,e];exact ih fun x hx=>hq x (jF _ hx)
         refine this _ fun p hp=>?_
         rcases List.mem_append.1 hp with w | w
         · exact .inl (h4 p w).1
         · rw [List.mem_singleton.1 w];exact .inr c3
       · rw [mJ];show fv _ (id,mk)=[];unfold fv;rw [show ((id,mk):Ty.d aI).2.2.2.1.1=5 from c3];rfl
       · rcases List.mem_append.1 hp with w | w
         · exact (h4 p w).2
         · rw [List.mem_singleton.1 w];exact Int.le_refl _
theorem u7 {r:Ty.d bQ} (h:bN r=true):LE.le (α:=Int) 0 r.2.1∧LE.le (α:=Int) r.2.1 1000000:=by
 unfold bN at h;cases c1:(r.1==1||r.1==4) with
 | true =>rw [c1] at h;simp only [ae,gY,decide_eq_true_eq] at h;have:=h.2.2.2.2;exact ⟨Int.le_trans (by decide) this.1,this.2⟩
 | false =>
  rw [c1] at h;cases c2:(r.1==2) with
  | true =>rw [c2] at h;simp only [ae,aH,gY,decide_eq_true_eq] at h;have:=h.2.2.2.2;exact ⟨Int.le_trans (by decide) this.1,this.2⟩
  | false =>
   rw [c2] at h;cases c3:(r.1==3) with
   | true =>rw [c3] at h;simp only [ae,aH,gY,decide_eq_true_eq] at h;have:=h.2.2.2.2;exact ⟨Int.le_trans (by decide) this.1,this.2⟩
   | false =>
    rw [c3] at h;cases c4:(r.1==5) with
    | true =>rw [c4] at h;simp only [ae,aH,gY,decide_eq_true_eq] at h;exact h.2.2.2.2
    | false=>rw [c4] at h;cases h
theorem Kr {y:Ty.d aA} (hy:DR y) {L:rP} (hL:1≤L.length) (ht:∀ x ∈ L,fT y (a_ aD x.1)=some (aR x.2)∧∀ r ∈ x.2,bN r=true) (z:(iA y (L.map (·.1))).2.2.1=0) :
 JT (jI L) (iA y (L.map (·.1))).1 (aU ((iA y (L.map (·.1))).2.1+1)):=by
 have hok:∀ p ∈ jI L,bN p.2.2.2.1=true:=fun p hp=>by obtain ⟨x,hx,s,hs,e⟩:=xW hp;obtain ⟨_,i2,_⟩:=qk x.2 ⟨#[]⟩ ⟨#[]⟩ (ht x hx).2 s hs;rw [e];exact i2
 have fin:∀ (dir:aO) (la:Int),(∃ la',gr [] (jI L) ([],0,0)=(dir,la',0))→bU (jI L)=[]→LE.le (α:=Int) 0 la→LE.le (α:=Int) la 1000000→(∀ p ∈ jI L,LE.le (α:=Int) p.2.2.2.1.2.1 la)→JT (jI L) dir (aU (la+1)):=fun dir la h1 h2 h3 h4 h5=>by rw [aG (n:=la+1) (by omega) (by omega)];exact ⟨h1,h2,fun p hp=>Int.lt_add_one_of_le (h5 p hp),show (1:Int)≤la+1 by omega,show la+1≤(1000001:Int) by omega⟩
 obtain ⟨x0,L',rfl⟩:∃ x L',L=x::L':=by
  cases L with
  | nil=>cases hL
  | cons x L'=>exact ⟨x,L',rfl⟩
 have epl:jI (x0::L')=uA x0++jI L':=rfl;have e1:kJ y ((x0::L').map (·.1))=jI (x0::L'):=qF hy ht;have e2:kJ y (L'.map (·.1))=jI L':=qF hy fun x hx=>ht x (jF _ hx)
 unfold iA at z ⊢;cases c:lw y (((x0::L').map (·.1)).getD 0 0) with
 | false =>
  rw [c] at z;simp only [aH] at z ⊢;rw [e1] at z ⊢;obtain ⟨g1,g2⟩:=BI z;have hz:(gr [] (jI (x0::L')) ([],0,0)).2.2=0:=by rw [g1]
  obtain ⟨l1,l2,l3⟩:=vy (jI (x0::L')) [] ([],0,0) hz;have ela:(gr [] (jI (x0::L')) ([],0,0)).2.1=(i7 ([],(0,(0,()))) (jI (x0::L'))).2.1:=by rw [g1]
  have l3:=l3 1000000 (by decide) fun p hp=>(u7 (hok p hp)).2
  rw [ela] at l1 l2 l3;exact fin _ _ ⟨_,g1⟩ g2 l1 l3 l2
 | true =>
  rw [c] at z;simp only [ae] at z ⊢;have ed:((x0::L').map (·.1)).drop 1=L'.map (·.1):=rfl;have ex:((x0::L').map (·.1)).getD 0 0=x0.1:=rfl;rw [ed,ex,e2] at z ⊢;rw [ex] at c;obtain ⟨t1,t2⟩:=ht x0 iF;unfold lw at c;simp only [gY] at c;obtain ⟨_,_,c⟩:=c;have es:dJ y x0.1=aR x0.2:=by unfold dJ;rw [gm hy,t1];rfl
  rw [es] at c;unfold o_ at c;simp only [gY,beq_iff_eq] at c;obtain ⟨f1,_,f3,f4⟩:=c;obtain ⟨⟨la0,k1⟩,k2,k3,k4⟩:=Kq (id:=x0.1) t2 f1;rw [f3] at k4;rw [tP.1 f4] at k1;have k1:gr [] (uA x0) ([],0,0)=((dP y x0.1).2.2.1,la0,0):=k1;have k2:∀ b,eH b (uA x0)=[]:=k2;have k3:bU (uA x0)=[]:=k3;have k4:∀ p ∈ uA x0,LE.le (α:=Int) p.2.2.2.1.2.1 (dP y x0.1).2.1:=k4;obtain ⟨g1,g2⟩:=BI z;have hz:(gr [] (jI L') ((dP y x0.1).2.2.1,(dP y x0.1).2.1,0)).2.2=0:=by rw [g1]
  obtain ⟨l1,l2,l3⟩:=vy (jI L') [] ((dP y x0.1).2.2.1,(dP y x0.1).2.1,0) hz;have ela:(gr [] (jI L') ((dP y x0.1).2.2.1,(dP y x0.1).2.1,0)).2.1=(i7 ((dP y x0.1).2.2.1,((dP y x0.1).2.1,(0,()))) (jI L')).2.1:=by rw [g1]
  have hmark:∃ mk:Ty.d bQ,bN mk=true∧mk.2.1=(dP y x0.1).2.1:=by
   rw [← f3];have hb:(g8 x0.1 (aR x0.2)).2=true:=f1;have hok2:∀ x ∈ (b9 (aR x0.2)).1,bN x.2.2.1=true:=fun x hx=>by refine t2 _ ?_;rw [← (qm t2).1];exact List.mem_map.2 ⟨x,hx,rfl⟩
   unfold g8 at hb ⊢;cases w1:(b9 (aR x0.2)).2 != ((aR x0.2).size:Int) with
   | true=>rw [w1] at hb;cases hb
   | false =>
    rw [w1] at hb;simp only [aH] at hb ⊢;generalize (b9 (aR x0.2)).1=l at hb hok2 ⊢;cases w2:l.length==0 with
    | true=>rw [w2] at hb;cases hb
    | false =>
     rw [w2] at hb;simp only [aH] at hb ⊢;have hne:l.length≠0:=by simpa using w2
     have hm:l.getD (l.length-1) (Ty.z cX) ∈ l:=by show (l[l.length-1]?).getD _ ∈ l;rw [List.getElem?_eq_getElem (by omega)];exact List.getElem_mem _
     generalize l.getD (l.length-1) (Ty.z cX)=mk at hb hm ⊢;refine ⟨mk.2.2.1,hok2 _ hm,?_⟩;revert hb;cases mk.2.2.1.1 != 5 <;> cases !decide ((1:Int)≤x0.1∧x0.1≤100000) <;> cases pB (ng mk.2.2.1.2.1) none (l.take (l.length-1)) <;> cases im mk.2.2.1 (bP x0.1 (l.take (l.length-1))) <;> intro hb <;> first | rfl | cases hb
  obtain ⟨mk,m1,m2⟩:=hmark;have mb:=u7 m1;rw [m2] at mb;have l3:=l3 1000000 mb.2 fun p hp=>(u7 (hok p (by rw [epl];exact List.mem_append_right _ hp))).2
  rw [ela] at l1 l2 l3;have l1:LE.le (α:=Int) (dP y x0.1).2.1 (i7 ((dP y x0.1).2.2.1,((dP y x0.1).2.1,(0,()))) (jI L')).2.1:=l1;refine fin _ _ ?_ ?_ (Int.le_trans mb.1 l1) l3 fun p hp=>?_
  · rw [epl,sE,k1];have q:=JJ k2 k3 (jI L') [] ((dP y x0.1).2.2.1,la0,0);rw [List.append_nil] at q;rw [List.nil_append,q];obtain ⟨v1,v2⟩:=FT (jI L') [] (dP y x0.1).2.2.1 la0 (dP y x0.1).2.1 0;rw [g1] at v1 v2;exact ⟨(gr [] (jI L') ((dP y x0.1).2.2.1,la0,0)).2.1,Prod.ext v1 (Prod.ext rfl v2)⟩
  · rw [epl,mJ,k3];exact g2
  · rw [epl] at hp;rcases List.mem_append.1 hp with w | w
    · exact Int.le_trans (k4 p w) l1
    · exact l2 p w
theorem NB {d:Ty.d aA} (ht:(aW d Qg).2=true) (z:(cZ d).2.2=0):MI (cZ d).1 (cZ d).2.1:=by
 have ht:(aW d c_).2=true:=ht;have hdk:fZ d=true:=by
  unfold aW at ht;cases c:fZ d with
  | true=>rfl
  | false=>rw [c] at ht;cases ht
 have hd:=dH.1 hdk;unfold cZ at z ⊢;rw [hdk] at z ⊢;simp only [g9,aH] at z ⊢;cases c1:d.2.2.2.1 with
 | true=>rw [c1] at z;exact absurd z (by show (1:Int)≠0;decide)
 | false =>
  rw [c1,ht] at z;rw [ht];simp only [g9,aH] at z ⊢;rcases j6 (fun v=>dK v=true) bZ ((0,([],())):Ty.d cC) (aW d c_).1 with ⟨v,h1,h2,e⟩ | e
  · have e:dW (aW d c_).1=(v,true):=e;rw [e] at z ⊢;simp only [g9,aH] at z ⊢;obtain ⟨_,_,hv1,hv2,_⟩:=bD (nx:=v.1) (ids:=v.2.1) h1;obtain ⟨n1,n2,n3,n4⟩:=fk (n:=v.1) (ids:=v.2.1) h1;unfold pr at z ⊢;cases cg:gp d v.2.1 with
    | false=>rw [cg] at z;exact absurd z (by show (3:Int)≠0;decide)
    | true =>
     rw [cg] at z;simp only [g9,aH] at z ⊢;cases cf:(eT (aQ v.2.1) d).2 != 0 with
     | true =>rw [cf] at z;have z:fj (eT (aQ v.2.1) d).2=0:=z;have:=fV (eT (aQ v.2.1) d).2;rw [z] at this;rw [show ((eT (aQ v.2.1) d).2 != 0)=!((eT (aQ v.2.1) d).2==0) from rfl,← this] at cf;cases cf
     | false =>
      rw [cf] at z;simp only [aH] at z ⊢;have fz:=dY cf;have fx:=Hl (aQ v.2.1) hd;have ftx:=fun s=>H3 hd (x:=aQ v.2.1) fz s
      have flive:fT (eT (aQ v.2.1) d).1 c_=fT d c_∧((b9 (dJ (eT (aQ v.2.1) d).1 (aQ v.2.1))).2=((dJ (eT (aQ v.2.1) d).1 (aQ v.2.1)).size:Int))∧∀ x ∈ v.2.1,x≠aQ v.2.1→aW (eT (aQ v.2.1) d).1 (a_ aD x)=aW d (a_ aD x):=by
       have hlast:aQ v.2.1 ∈ v.2.1:=by rw [jA hv1];exact List.mem_append_right _ (by rw [← jA hv1];exact List.mem_singleton.2 rfl)
       obtain ⟨b1,b2⟩:=n3 _ hlast;obtain ⟨c1',c2',c3'⟩:=iw fz;have hs:=lW (dJ d (aQ v.2.1));rw [show eT (aQ v.2.1) d=_ from c2'];by_cases hb:(b9 (dJ d (aQ v.2.1))).2<((dJ d (aQ v.2.1)).size:Int)
       · simp only [aX hb,ae] at c1' c3' ⊢;have hy:=AO hd (a_ aD (aQ v.2.1)) (b9 (dJ d (aQ v.2.1))).2;have et:=fun s=>(sM hy c3' s).trans (B4 hd c1' s)
         refine ⟨jv.trans ?_,?_,fun x hx hn=>?_⟩
         · have h1:=B4 hd c1' c_;rw [jr (ia ⟨b1,by omega⟩),aH] at h1;have q1:=gm hy c_;have q2:=oD hy c_;have q3:=gm hd c_;have q4:=oD hd c_;rw [h1] at q1 q2;rw [q1] at q3;rw [q2] at q4;cases w1:fT (qG d (a_ aD (aQ v.2.1)) (b9 (dJ d (aQ v.2.1))).2).1 c_ with
           | none =>
            cases w2:fT d c_ with
            | none=>rfl
            | some t=>rw [w1,w2] at q4;cases q4
           | some s =>
            cases w2:fT d c_ with
            | none=>rw [w1,w2] at q4;cases q4
            | some t=>rw [w1,w2] at q3;exact congrArg some q3
         · have ew:=et (a_ aD (aQ v.2.1));rw [bB,ae] at ew;show (b9 (aW _ _).1).2=((aW _ _).1.size:Int);rw [ew];show (b9 (ByteArray.extract (dJ d (aQ v.2.1)) 0 _)).2=((ByteArray.extract (dJ d (aQ v.2.1)) 0 _).size:Int);rw [Ci,qN _ (by omega)];omega
         · rw [et,jr fun q=>hn ?_]
           · rfl
           · by_cases w:x=aQ v.2.1
             · exact w
             · exact absurd q (ob ⟨(n3 x hx).1,Jd (n3 x hx).2 n2⟩ ⟨b1,by omega⟩ w)
       · simp only [aZ hb,aH] at c1' c3' ⊢;refine ⟨jv,?_,fun x hx hn=>sM hd c3' _⟩;show (b9 (aW _ _).1).2=((aW _ _).1.size:Int);rw [sM hd c3'];show (b9 (dJ d (aQ v.2.1))).2=((dJ d (aQ v.2.1)).size:Int);omega
      obtain ⟨f1,f2,f3⟩:=flive;have gJ:∀ (L:rP),v.2.1=L.map (·.1)→(∀ x ∈ L,fT (eT (aQ v.2.1) d).1 (a_ aD x.1)=some (aR x.2)∧∀ r ∈ x.2,bN r=true)→(iA (eT (aQ v.2.1) d).1 v.2.1).2.2.1=0→JT (jI L) (iA (eT (aQ v.2.1) d).1 v.2.1).1 (aU ((iA (eT (aQ v.2.1) d).1 v.2.1).2.1+1)):=fun L e1 e2 e3=>by
       have hL:1≤L.length:=by rw [e1,List.length_map] at hv1;exact hv1
       rw [e1] at fx e2 e3 ⊢;exact Kr fx hL e2 e3
      unfold yN at z ⊢;generalize iA (eT (aQ v.2.1) d).1 v.2.1=g at z gJ ⊢;cases cq:g.2.2.1 != 0 with
      | true=>rw [cq] at z;exact absurd z (by show (3:Int)≠0;decide)
      | false =>
       rw [cq] at z;simp only [aH] at z ⊢;cases cs:(fw v.2.1 (eT (aQ v.2.1) d).1).2 != 0 with
       | true =>rw [cs] at z;have z:fj (fw v.2.1 (eT (aQ v.2.1) d).1).2=0:=z;have:=fV (fw v.2.1 (eT (aQ v.2.1) d).1).2;rw [z] at this;rw [show ((fw v.2.1 (eT (aQ v.2.1) d).1).2 != 0)=!((fw v.2.1 (eT (aQ v.2.1) d).1).2==0) from rfl,← this] at cs;cases cs
       | false =>
        simp only [aH];have hx:=t_ v.2.1 _ fx;have sk:∀ t:ByteArray,(t=c_∨∃ x ∈ v.2.1,1≤x∧x≤100000∧t=a_ aD x)→fT (fw v.2.1 (eT (aQ v.2.1) d).1).1 t=fT (eT (aQ v.2.1) d).1 t:=fun t=>IY
        have sS:∀ i ∈ v.2.1,fT (fw v.2.1 (eT (aQ v.2.1) d).1).1 (a_ aD i)=fT (eT (aQ v.2.1) d).1 (a_ aD i):=fun i hi=>sk _ (.inr ⟨i,hi,(n3 i hi).1,Jd (n3 i hi).2 n2,rfl⟩)
        obtain ⟨t1,_,_⟩:=Ap cg;have hfull:∀ i ∈ v.2.1,∃ t,fT (eT (aQ v.2.1) d).1 (a_ aD i)=some t∧FL t:=fun i hi=>by
         have h1:(aW (eT (aQ v.2.1) d).1 (a_ aD i)).2=true:=by rw [(ftx _).1];exact t1 i hi
         rw [oD fx] at h1;obtain ⟨t,ht⟩:=Option.isSome_iff_exists.1 h1;refine ⟨t,ht,K7 ?_⟩;have h2:(b9 (dJ (eT (aQ v.2.1) d).1 i)).2=((dJ (eT (aQ v.2.1) d).1 i).size:Int):=by
          by_cases w:i=aQ v.2.1
          · rw [w];exact f2
          · have:=Cq cg i hi w;unfold dJ at this ⊢;rw [f3 i hi w];exact this
         unfold dJ at h2;rw [gm fx,ht] at h2;exact h2
        obtain ⟨L,l1,l2⟩:=Ds hfull;have hlast:aQ v.2.1 ∈ v.2.1:=by rw [jA hv1];exact List.mem_append_right _ (by rw [← jA hv1];exact List.mem_singleton.2 rfl)
        refine ⟨L,⟨h1,hx,l1,fun x hx'=>⟨?_,(l2 x hx').2⟩,fun t q=>?_⟩,gJ L l1 l2 (dY cq)⟩
        · rw [sS x.1 (by rw [l1];exact List.mem_map.2 ⟨x,hx',rfl⟩)];exact (l2 x hx').1
        · have q:fT (fw v.2.1 (eT (aQ v.2.1) d).1).1 (a_ aD (aQ v.2.1))=some t:=q;rw [sS _ hlast] at q;show (b9 (dJ d (aQ v.2.1))).2=(t.size:Int);have e3:b9 (dJ (eT (aQ v.2.1) d).1 (aQ v.2.1))=b9 (dJ d (aQ v.2.1)):=(ftx _).2;rw [← e3,f2];unfold dJ;rw [gm fx,q];rfl
  · rw [show dW (aW d c_).1=((0,([],())),false) from e] at z;exact absurd z (by show (3:Int)≠0;decide)
theorem Jf {d:Ty.d aA} {s:ByteArray} (z:(nh d s).2=0):fT (nh d s).1 s=some ByteArray.empty:=by
 obtain ⟨c1,c2⟩:=nB (d:=d) (g:=qK s) z;unfold fT;show (b8 (fA d (qK s)).1.1 s).map _=_;rw [c2];unfold qK at c1 ⊢;cases c3:ib s with
 | false=>rw [c3] at c1;cases c1
 | true =>
  rw [c3] at c1;simp only [g9,aH] at c1 ⊢;cases c4:(b8 d.1 s) with
  | some f=>rw [c4] at c1;cases c1
  | none =>
   rw [c4] at c1;simp only [Option.isSome_none,aH] at c1 ⊢;cases c5:decide ((d.1.length:Int)≥130) with
   | true=>rw [c5] at c1;cases c1
   | false =>simp only [aH];rw [yj (f:=(s,(ByteArray.empty,(0,())))) c4,bB];rfl
theorem P6 {d:Ty.d aA} (z:(cZ d).2.2=0):MI (cZ d).1 (cZ d).2.1:=by
 cases ht:(aW d Qg).2 with
 | true=>exact NB ht z
 | false =>
  have ht:(aW d c_).2=false:=ht;cases hdk:fZ d with
  | false =>rw [Nm hdk] at z;exact absurd z (by show (4:Int)≠0;decide)
  | true =>
   have hd:=dH.1 hdk;unfold cZ at z ⊢;rw [hdk] at z ⊢;simp only [g9,aH] at z ⊢;cases c1:d.2.2.2.1 with
   | true=>rw [c1] at z;exact absurd z (by show (1:Int)≠0;decide)
   | false =>
    rw [c1,ht] at z;rw [ht];simp only [yO,ae,aH] at z ⊢;unfold mB at z ⊢;cases c2:(hO d).2==0 with
    | false =>rw [c2] at z;have z:fj (hO d).2=0:=z;have:=fV (hO d).2;rw [z,c2] at this;cases this
    | true =>
     simp only [ae];have c2:(hO d).2=0:=BU c2;have hD:DR (hO d).1:=iI (iI (t_ [] d hd) fun x hx=>xY hx _) (kR mc);have ht1:fT (hO d).1 (a_ aD 1)=some ByteArray.empty:=by unfold hO at c2 ⊢;obtain ⟨z1,z2,_⟩:=iw c2;rw [z2,fB (gk (by decide)) (ia (by decide))];obtain ⟨z3,z4,z5⟩:=iw z1;rw [z4];exact Jf z5
     refine ⟨[(1,[])],⟨by decide,hD,rfl,fun x hx=>?_,fun t q=>?_⟩,⟨0,rfl⟩,rfl,fun p hp=>(by cases hp),show (1:Int)≤1 by decide,show (1:Int)≤1000001 by decide⟩
     · rw [List.mem_singleton.1 hx];exact ⟨ht1,fun r hr=>by cases hr⟩
     · have q:fT (hO d).1 (a_ aD 1)=some t:=q;rw [ht1] at q;rw [← Option.some.inj q];rfl
def CL (Q:Ty.d aA→Prop):Prop:=∀ d g,Q d→Q (fA d g).1
theorem oe {Q:Ty.d aA→Prop} {r:RD} {f:Ty.d aA→RD} (h:Q r.1) (hf:∀ x,Q x→Q (f x).1):Q (dz r f).1:=by
 unfold dz;cases r.2==0 with
 | true=>exact hf _ h
 | false=>exact h
section
variable {Q:Ty.d aA→Prop} (hQ:CL Q)
include hQ
theorem KZ (s:ByteArray) (d:Ty.d aA) (h:Q d):Q (fG s d).1:=by
 unfold fG;cases (b8 d.1 s).isSome with
 | true=>exact hQ d (rr s) h
 | false=>exact h
theorem wD (s:ByteArray) (d:Ty.d aA) (h:Q d):Q (ak s d).1:=oe (KZ hQ s d h) fun x hx=>hQ x (qK s) hx
theorem FI (s t:ByteArray) (d:Ty.d aA) (h:Q d):Q (jw s t d).1:=oe (oe (wD hQ s d h) fun x hx=>hQ x (rl s t) hx) fun x hx=>hQ x (qV s) hx
theorem ur (v:Ty.d cC) (d:Ty.d aA) (h:Q d):Q (an v d).1:=oe (FI hQ _ _ d h) fun x hx=>hQ x (sA gT c_) hx
theorem oo:∀ (l:List ByteArray) (d:Ty.d aA),Q d→Q (bX l d).1
 | [],d,h=>h
 | s::l,d,h=>oe (KZ hQ s d h) (oo l)
theorem SH (st:Ty.d aC) {d:Ty.d aA} (h:Q d):Q (gV st d).2.1:=by
 have h1:Q (cQ d (au st)).1:=hQ d (qV (au st)) h;have h2:=wD hQ (a_ aD st.1.1) _ h1;have h3:=ur hQ (jq st) _ h2;unfold gV;cases decide ((st.1.2.1.length:Int)≥60) with
 | true=>exact h
 | false =>
  cases decide (st.1.1≥(100000:Int)) with
  | true=>exact h
  | false =>
   simp only [aH];generalize cQ d (au st)=r1 at h1 h2 h3 ⊢;generalize ak (a_ aD st.1.1) r1.1=r2 at h2 h3 ⊢;generalize an (jq st) r2.1=r3 at h3 ⊢;cases r1.2 != 0 with
   | true=>exact h1
   | false =>
    cases r2.2 != 0 with
    | true=>exact h2
    | false =>
     cases r3.2 != 0 with
     | true =>
      show Q (oG (a_ aD st.1.1) (tl r3)).1;unfold oG;cases (tl r3).2==2 with
      | false=>exact h3
      | true=>exact oo hQ _ r3.1 h3
     | false=>exact h3
theorem Nt (st:Ty.d aC) {d:Ty.d aA} (h:Q d) (r:Ty.d bQ):Q (gh st d r).1.2.1:=by have ha:Q (h_ d (au st) (aM (aE r))).1:=hQ d (rl (au st) (aM (aE r))) h;unfold gh;generalize h_ d (au st) (aM (aE r))=a at ha ⊢;cases a.2 != 0 <;> exact ha
theorem Rw (st:Ty.d aC) {d:Ty.d aA} (h:Q d) (r:Ty.d bQ):Q (da st d r).1.2.1:=by
 have h1:=SH hQ st h;unfold da;cases decide (st.2.2.2.1 > 0)&&decide (st.2.2.2.1+aS r > 200) with
 | false=>exact Nt hQ st h r
 | true =>
  simp only [ae];generalize gV st d=q at h1 ⊢;cases q.2.2 != 0 with
  | true=>exact h1
  | false=>exact Nt hQ q.1 h1 r
theorem KP:∀ (l:ij) (st:Ty.d aC) (d:Ty.d aA) (ps:aT),Q d→Q (bR l st d ps).1.2.1
 | [],_,_,_,h=>h
 | r::l,st,d,ps,h=>by
  have h1:=Rw hQ st h r;unfold bR;generalize da st d r=q at h1 ⊢;cases q.1.2.2 != 0 with
  | true=>exact h1
  | false=>exact KP l _ _ _ h1
theorem C9 (st:Ty.d aC) {d:Ty.d aA} (l:dX) (h:Q d):Q (bm st d l).2.1:=by
 unfold bm;cases !bo st d with
 | true=>exact h
 | false =>
  cases !bw l with
  | true=>exact h
  | false =>
   cases (l.length:Int)==0 with
   | true=>exact h
   | false =>
    cases decide (jL st.2.1 l > 20) with
    | true=>exact h
    | false =>
     cases decide (st.2.2.1 > (1000000:Int)) with
     | true=>exact h
     | false =>
      show Q (bS st d l).2.1;have h1:=KP hQ (bf l st.2.2.1) (iV st) d [] h;unfold bS;generalize bR (bf l st.2.2.1) (iV st) d []=q at h1 ⊢;have h2:Q (cQ q.1.2.1 (au q.1.1)).1:=hQ _ (qV (au q.1.1)) h1;unfold rH;cases q.1.2.2 != 0 with
      | true=>exact h1
      | false =>simp only [aH];generalize cQ q.1.2.1 (au q.1.1)=y at h2 ⊢;cases y.2 != 0 <;> exact h2
theorem Qo (nm:ByteArray):∀ (rs:ij) (r:RD),Q r.1→Q (Aj nm rs r).1
 | [],_,h=>h
 | x::rs,r,h=>Qo nm rs _ (oe h fun y hy=>hQ y (rl nm (aM (aE x))) hy)
theorem xT (ns:List ByteArray) {r:RD} (h:Q r.1):Q (lY ns r).1:=by
 unfold lY;cases r.2==2 with
 | true=>exact oo hQ _ _ h
 | false=>exact h
theorem Fw (st:Ty.d aC) {d:Ty.d aA} (h:Q d):Q (bI st d).2.1:=by
 unfold bI;cases !bo st d with
 | true=>exact h
 | false =>
  cases decide (st.1.1+2 > (100000:Int)) with
  | true=>exact h
  | false =>
   cases (bH st.2.1 d).2 != 0 with
   | true=>exact h
   | false =>
    show Q (bT (qZ st.1.1) st d (bH st.2.1 d).1).2.1;generalize (bH st.2.1 d).1=l;have a1:Q (cR st.1.1 l (st.2.2.1-1) d).1:=oe (Qo hQ _ _ _ (wD hQ _ d h)) fun x hx=>hQ x (qV _) hx
    unfold bT;generalize cR st.1.1 l (st.2.2.1-1) d=a at a1 ⊢;cases a.2 != 0 with
    | true=>exact xT hQ _ (r:=tl a) a1
    | false =>
     have b1:=wD hQ (a_ aD (st.1.1+1)) a.1 a1;simp only [aH];generalize ak (a_ aD (st.1.1+1)) a.1=b at b1 ⊢;cases b.2 != 0 with
     | true=>exact xT hQ _ (r:=tl b) b1
     | false =>
      have c1:Q (fy (qZ st.1.1) st.1.1 b.1).1:=by
       unfold fy;cases (jw (a_ bG st.1.1) (qZ st.1.1 (aW b.1 (a_ aD st.1.1)).1) b.1).2==2 with
       | true=>exact oo hQ _ _ (FI hQ _ _ _ b1)
       | false=>exact FI hQ _ _ _ b1
      simp only [aH];generalize fy (qZ st.1.1) st.1.1 b.1=e at c1 ⊢;cases e.2 != 0 with
      | true=>exact c1
      | false =>
       have d1:=ur hQ (ez st.1.1) e.1 c1;simp only [aH];generalize an (ez st.1.1) e.1=f at d1 ⊢;cases f.2 != 0 with
       | true=>exact xT hQ _ (r:=tl f) d1
       | false =>
        have o:∀ (ids:List Int) (x:Ty.d aA),Q x→Q (mM ids x).1:=by
         intro ids
         induction ids with
         | nil=>exact fun x hx=>hx
         | cons y ids ih=>exact fun x hx=>oe (oo hQ _ _ hx) fun z hz=>ih z hz
        exact o _ _ d1
theorem Py {d:Ty.d aA} (h:Q d):Q (cZ d).2.1:=by
 unfold cZ;cases !fZ d with
 | true=>exact h
 | false =>
  cases d.2.2.2.1 with
  | true=>exact h
  | false =>
   cases !(aW d c_).2 with
   | true =>
    have h1:Q (hO d).1:=oe (oe (oo hQ _ d h) fun x hx=>hQ x (qK _) hx) fun x hx=>ur hQ mc x hx
    show Q (mB d).2.1;unfold mB;cases (hO d).2==0 <;> exact h1
   | false =>
    cases !(dW (aW d c_).1).2 with
    | true=>exact h
    | false =>
     show Q (pr (dW (aW d c_).1).1 d).2.1;generalize (dW (aW d c_).1).1=v;unfold pr;cases !gp d v.2.1 with
     | true=>exact h
     | false =>
      have h1:Q (eT (aQ v.2.1) d).1:=by
       unfold eT;refine oe ?_ fun x hx=>hQ x (qV _) hx
       cases decide ((b9 (dJ d (aQ v.2.1))).2<((dJ d (aQ v.2.1)).size:Int)) with
       | true=>exact hQ d (Hg _ _) h
       | false=>exact h
      simp only [aH];cases (eT (aQ v.2.1) d).2 != 0 with
      | true=>exact h1
      | false =>
       simp only [aH];generalize iA (eT (aQ v.2.1) d).1 v.2.1=g;have h2:Q (fw v.2.1 (eT (aQ v.2.1) d).1).1:=oo hQ _ _ h1;unfold yN;cases g.2.2.1 != 0 with
       | true=>exact h1
       | false =>simp only [aH];cases (fw v.2.1 (eT (aQ v.2.1) d).1).2 != 0 <;> exact h2
end
theorem C5 (d:Ty.d aA):(jC d).1.1=d.1∧(dn d=true→dn (jC d).1=true∧(jC d).2≠0)∧(LT.lt (α:=Int) d.2.2.1 0→dn d=false→jC d=(d,0)∨jC d=(d,5)):=by
 unfold jC dn;cases c0:!fZ d with
 | true=>exact ⟨rfl,fun h=>⟨h,by show (5:Int)≠0;decide⟩,fun _ _ => .inr rfl⟩
 | false =>
  simp only [aH];cases c1:d.2.2.2.1 with
  | true=>exact ⟨rfl,fun h=>⟨rfl,by show (1:Int)≠0;decide⟩,fun _ h=>by cases h⟩
  | false =>
   simp only [aH];cases c2:d.2.2.1==0 with
   | true=>exact ⟨rfl,fun h=>(by cases h),fun h _=>by rw [BU c2] at h;exact absurd h (by decide)⟩
   | false =>
    cases c3:decide ((d.2.2.1:Int) > 0) with
    | true=>exact ⟨rfl,fun h=>(by cases h),fun h _=>absurd (of_decide_eq_true c3) (Int.not_lt.2 (Int.le_of_lt h))⟩
    | false=>exact ⟨rfl,fun h=>(by cases h),fun _ _ => .inl rfl⟩
theorem Je:CL fun d=>dn d=true:=fun d g h=>by obtain ⟨h1,h2⟩:=(C5 d).2.1 h;unfold fA;rw [show ((jC d).2 != 0)=true from bne_iff_ne.2 h2];exact h1
def FU (d:Ty.d aA):Prop:=LT.lt (α:=Int) d.2.2.1 0∧dn d=false
theorem E3:CL FU:=fun d g h=>by
 unfold fA;rcases (C5 d).2.2 h.1 h.2 with e | e
 · rw [e];exact h
 · rw [e];exact h
theorem LS {st:Ty.d aC} {d:Ty.d aA} {l:dX} (h:dn (bm st d l).2.1=false):dn d=false:=by
 cases c:dn d with
 | false=>rfl
 | true=>rw [C9 Je st l c] at h;cases h
theorem Mu {st:Ty.d aC} {d:Ty.d aA} (h:dn (bI st d).2.1=false):dn d=false:=by
 cases c:dn d with
 | false=>rfl
 | true=>rw [Fw Je st c] at h;cases h
theorem S8 {st:Ty.d aC} {d d':Ty.d aA} (h:MI st d) (hd:DR d') (e:d'.1=d.1):MI st d':=by
 obtain ⟨L,t,j⟩:=h;have k:∀ s,fT d' s=fT d s:=fun s=>by unfold fT;rw [e]
 exact ⟨L,⟨t.live,hd,t.ids,fun x hx=>⟨(k _).trans (t.text x hx).1,(t.text x hx).2⟩,fun s q=>t.tail s ((k _).symm.trans q)⟩,j⟩
theorem Gv {hb:ByteArray→ByteArray} {st:Ty.d aC} {d:Ty.d aA} {l:fL} (hd:DR d) (hl:dK st.1=true) (hn:LE.le (α:=Int) (st.1.1+2) 100000) (hdir:st.2.1.length≤268435456) (hlen:l.length≤268435456) :
 DR (bT hb st d l).2.1∧(bT hb st d l).1.1.2.1.length≤60∧(bT hb st d l).1.2.1.length≤268435456:=by
 have h60:st.1.2.1.length≤60:=(bD (nx:=st.1.1) (ids:=st.1.2.1) hl).2.2.2.1;have hs:DR (bT hb (st.1,([],st.2.2)) d l).2.1∧(bT hb (st.1,([],st.2.2)) d l).1.1.2.1.length≤60:=by have hIV:IV ((st.1,([],st.2.2)),(d,0)):=⟨hd,h60,Nat.zero_le _,fun x hx=>(by cases hx),Int.natCast_nonneg _⟩;obtain ⟨q1,_⟩:=Ch (hb:=hb) hIV hl hn (l:=l) hlen;exact ⟨q1.disk,q1.ids⟩
 have he:=vc st.1.1 l 0;unfold bT at hs ⊢;simp only [] at hs;generalize cR st.1.1 l (st.2.2.1-1) d=a at hs ⊢;cases ca:a.2 != 0 with
 | true=>rw [ca] at hs;exact ⟨hs.1,hs.2,hdir⟩
 | false =>
  rw [ca] at hs;simp only [aH] at hs ⊢;generalize ak (a_ aD (st.1.1+1)) a.1=b at hs ⊢;cases cb:b.2 != 0 with
  | true=>rw [cb] at hs;exact ⟨hs.1,hs.2,hdir⟩
  | false =>
   rw [cb] at hs;simp only [aH] at hs ⊢;generalize fy hb st.1.1 b.1=e at hs ⊢;cases ce:e.2 != 0 with
   | true=>rw [ce] at hs;exact ⟨hs.1,hs.2,hdir⟩
   | false =>
    rw [ce] at hs;simp only [aH] at hs ⊢;generalize an (ez st.1.1) e.1=f at hs ⊢;cases cf:f.2 != 0 with
    | true=>rw [cf] at hs;exact ⟨hs.1,hs.2,hdir⟩
    | false =>rw [cf] at hs;exact ⟨hs.1,hs.2,by show (gy st.1.1 l 0).length≤_;rw [he];exact hlen⟩
theorem IZ {st:Ty.d aC} {d:Ty.d aA} (hd:DR d) (h1:st.1.2.1.length≤60) (h2:st.2.1.length≤268435456) :
 DR (bI st d).2.1∧(bI st d).1.1.2.1.length≤60∧(bI st d).1.2.1.length≤268435456:=by
 unfold bI;cases c1:bo st d with
 | false=>exact ⟨hd,h1,h2⟩
 | true =>
  obtain ⟨g1,g2,g3⟩:=bn c1;simp only [g9,aH];by_cases c2:st.1.1+2 > (100000:Int)
  · rw [aX c2];exact ⟨hd,h1,h2⟩
  · rw [aZ c2];simp only [aH];have hz:=qQ st.2.1 d;cases (bH st.2.1 d).2 != 0 with
    | true=>exact ⟨hd,h1,h2⟩
    | false=>exact Gv hd g1.live (Int.not_lt.1 c2) h2 (by omega)
theorem J1 (s:ByteArray):(dW s).1.2.1.length≤60:=by
 rcases j6 (fun v=>dK v=true) bZ ((0,([],())):Ty.d cC) s with ⟨r,h1,h2,h3⟩ | h
 · unfold dW;rw [h3];exact (bD (nx:=r.1) (ids:=r.2.1) h1).2.2.2.1
 · unfold dW;rw [h];exact Nat.zero_le _
theorem Nw {d:Ty.d aA}:(cZ d).1.1.2.1.length≤60:=by
 have hv:=J1 (aW d c_).1;unfold cZ;cases fZ d with
 | false=>exact Nat.zero_le _
 | true =>
  cases d.2.2.2.1 with
  | true=>exact Nat.zero_le _
  | false =>
   cases (aW d c_).2 with
   | false =>
    show (mB d).1.1.2.1.length≤60;unfold mB;cases (hO d).2==0
    · exact Nat.zero_le _
    · show 1≤60
      decide
   | true =>
    simp only [g9,aH];cases (dW (aW d c_).1).2 with
    | false=>exact Nat.zero_le _
    | true =>
     simp only [g9,aH];generalize (dW (aW d c_).1).1=v at hv ⊢;unfold pr;cases gp d v.2.1 with
     | false=>exact Nat.zero_le _
     | true =>
      simp only [g9,aH];cases (eT (aQ v.2.1) d).2 != 0 with
      | true=>exact Nat.zero_le _
      | false =>
       simp only [aH];generalize iA (eT (aQ v.2.1) d).1 v.2.1=g;unfold yN;cases g.2.2.1 != 0 with
       | true=>exact Nat.zero_le _
       | false =>
        simp only [aH];cases (fw v.2.1 (eT (aQ v.2.1) d).1).2 != 0 with
        | true=>exact Nat.zero_le _
        | false=>exact hv
def TV (t:Ty.d bO):Prop:=t.2.1.length≤20∧t.2.2.1.length≤50
structure EV (F:Prop × Prop) (e:Ty.d aP):Prop where
 ids:e.2.1.1.2.1.length≤60
 dir:e.2.1.2.1.length≤268435456
 disk:DR e.2.2.1
 len:e.2.2.2.1.length≤3
 txn:∀ t ∈ e.2.2.2.1,TV t
 mi:F.1→e.1=true→dn e.2.2.1=false→MI e.2.1 e.2.2.1
 fu:F.2→FU e.2.2.1
theorem KH:TV (Ty.z bO):=⟨Nat.zero_le _,Nat.zero_le _⟩
theorem Nl:∀ t ∈ List.replicate 3 (Ty.z bO),TV t:=fun t ht=>by rw [List.eq_of_mem_replicate ht];exact KH
theorem Kj {F:Prop × Prop} {d:Ty.d aA} (h:DR d) (hf:F.2→FU d):EV F (jE (cZ d)):=by obtain ⟨h1,h2⟩:=Hm h;exact ⟨Nw,h2,h1,Nat.le_refl _,Nl,fun _ z _=>P6 (BU z),fun q=>Py E3 (hf q)⟩
theorem Ez {l:List (Ty.d bO)} (h:∀ t ∈ l,TV t) (i:Nat):TV (l.getD i (Ty.z bO)):=by
 by_cases c:i<l.length
 · exact h _ (eE c)
 · have:l.getD i (Ty.z bO)=Ty.z bO:=by simp [List.getD,c]
   rw [this];exact KH
theorem Rt {l:List (Ty.d bO)} (h:∀ t ∈ l,TV t) (i:Nat) {t:Ty.d bO} (ht:TV t):∀ x ∈ l.set i t,TV x:=fun x hx=>by
 rcases List.mem_or_eq_of_mem_set hx with q | q
 · exact h x q
 · rw [q];exact ht
theorem RZ {F:Prop × Prop} {e:Ty.d aP} (h:EV F e) (i:Nat) {t:Ty.d bO} (ht:TV t):EV F (e.1,(e.2.1,(e.2.2.1,(e.2.2.2.1.set i t,())))) :=
 ⟨h.ids,h.dir,h.disk,by show (List.set _ _ _).length≤3;rw [List.length_set];exact h.len,Rt h.txn i ht,h.mi,h.fu⟩
def lr:dX→ByteArray→Option (Ty.d bF)
 | [],_=>none
 | p::l,key=>match lr l key with
  | some q=>some q
  | none=>bif seq p.1 key then some p else none
def Tm:Ty.d bF:=(ByteArray.empty,(false,(ByteArray.empty,())))
def GB (o:Option (Ty.d bF)):Ty.d bF × Bool × Unit:=match o with
 | none=>(Tm,(false,()))
 | some p=>(p,(true,()))
theorem Aq (key:ByteArray) (x:Ty.d bF):∀ l:dX,lr (l++[x]) key=bif seq x.1 key then some x else lr l key
 | []=>by show (match lr [] key with | some q=>some q | none=>bif seq x.1 key then some x else none)=_;rfl
 | p::l=>by
  show (match lr (l++[x]) key with | some q=>some q | none=>bif seq p.1 key then some p else none)=_;rw [Aq key x l];cases seq x.1 key with
  | true=>rfl
  | false=>rfl
theorem CV {α:Type} {l:List α} {n:Nat} (z:α) (h:n<l.length):l.take (n+1)=l.take n++[l.getD n z]:=by rw [List.take_add_one];simp [List.getD,h]
def pF (ks:List ByteArray) (key:ByteArray):Bool:=ks.any fun s=>seq s key
def qL (w:dX):List ByteArray:=w.foldl (fun ks p=>bif pF ks p.1 then ks else ks++[p.1]) []
def jd (w:dX):dX:=(qL w).map fun s=>(GB (lr w s)).1
theorem I4 (w:dX) (p:Ty.d bF):qL (w++[p])=bif pF (qL w) p.1 then qL w else qL w++[p.1]:=by unfold qL;rw [List.foldl_append];rfl
theorem O1 (a b:List ByteArray) (s:ByteArray):pF (a++b) s=(pF a s||pF b s):=List.any_append
theorem Cb (s:ByteArray):∀ w:dX,pF (qL w) s=w.any fun p=>seq p.1 s:=by
 intro w;have key:∀ (w:dX) (ks:List ByteArray),pF (w.foldl (fun ks p=>bif pF ks p.1 then ks else ks++[p.1]) ks) s=(pF ks s||w.any fun p=>seq p.1 s):=by
  intro w
  induction w with
  | nil=>intro ks;exact (Bool.or_false _).symm
  | cons p w ih =>
   intro ks;rw [List.foldl_cons,ih,List.any_cons];cases c:pF ks p.1 with
   | false =>rw [aH,O1,Bool.or_assoc];congr 2;show (seq p.1 s||false)=_;rw [Bool.or_false]
   | true =>
    rw [ae];cases q:seq p.1 s with
    | false=>rw [Bool.false_or]
    | true=>rw [cF.1 q] at c;rw [c];rfl
 exact key w []
theorem Lk:∀ w:dX,(qL w).length≤w.length:=by
 intro w;have key:∀ (w:dX) (ks:List ByteArray),(w.foldl (fun ks p=>bif pF ks p.1 then ks else ks++[p.1]) ks).length≤ks.length+w.length:=by
  intro w
  induction w with
  | nil=>intro ks;exact Nat.le_refl _
  | cons p w ih =>
   intro ks;have:=ih (bif pF ks p.1 then ks else ks++[p.1]);rw [List.foldl_cons,kM];cases c:pF ks p.1 with
   | true=>rw [c,ae] at this;rw [ae];omega
   | false=>rw [c,aH,fq] at this;rw [aH];omega
 have:=key w [];rw [List.length_nil,Nat.zero_add] at this;exact this
theorem Au (w:dX):(jd w).length≤w.length:=by unfold jd;rw [List.length_map];exact Lk w
def BG (dir:aO) (key:ByteArray):Int:=match uI dir key with
 | none=>0
 | some e=>e.2.2.2.2.1
def l9 (rows:List (Ty.d dt)) (dir:aO):Bool:=rows.all fun r=>BG dir r.1==r.2.1
theorem OG (o:Option (Ty.d aB)):∃ q:Ty.d aB × Bool × Unit,QG o=some q∧q.1.2.2.2.2.1=(match o with | none=>(0:Int) | some e=>e.2.2.2.2.1):=by cases o <;> exact ⟨_,rfl,rfl⟩
def mI (rows:List (Ty.d dt)) (key:ByteArray):Option Int:=(rows.find? fun r=>seq r.1 key).map (·.2.1)
def jH (t:Ty.d bO) (key:ByteArray) (b:Int):Ty.d bO × Int :=
 bif !t.1 then (t,4) else bif !fg key then (t,4) else match mI t.2.1 key with
 | some b'=>(t,bif b' != b then 7 else 0)
 | none=>bif decide ((t.2.1.length:Int)≥20) then (t,5) else ((t.1,(t.2.1++[(key,(b,()))],t.2.2)),0)
def gZ (t:Ty.d bO) (p:Ty.d bF):Ty.d bO × Bool :=
 bif !t.1 then (t,false) else bif !bw [p] then (t,false) else bif decide (((jd (t.2.2.1++[p])).length:Int) > 8) then (t,false) else
 bif decide (((t.2.2.1++[p]).length:Int) > 50) then (t,false) else ((t.1,(t.2.1,(t.2.2.1++[p],()))),true)
def eX (c:Int):Ty.d f9:=(c,(ByteArray.empty,([],())))
def uE (e:Ty.d aP) (i:Int) (t:Ty.d bO):Ty.d aP:=(e.1,(e.2.1,(e.2.2.1,(e.2.2.2.1.set i.toNat t,()))))
def dS (e:Ty.d aP) (i:Int):Ty.d bO:=e.2.2.2.1.getD i.toNat (Ty.z bO)
abbrev uB:=Ty.d aP × Ty.d f9
noncomputable def vo (e:Ty.d aP) (s:Ty.d d5) (t:Ty.d bO) (p:Ty.d ml × Int):uB :=
 bif p.2==3 then (e,eX p.2) else bif (jH t s.2.2.1 p.1.2.2.1).2 != 0 then (e,eX (jH t s.2.2.1 p.1.2.2.1).2) else
 (uE e s.2.1 (jH t s.2.2.1 p.1.2.2.1).1,(p.2,(p.1.2.1,([],()))))
noncomputable def tG (e:Ty.d aP) (s:Ty.d d5):uB :=
 bif !fg s.2.2.1 then (e,eX 4) else match lr (dS e s.2.1).2.2.1 s.2.2.1 with
 | some p=>bif p.2.1 then (e,eX 8) else (e,(0,(p.2.2.1,([],()))))
 | none=>vo e s (dS e s.2.1) (kT e.2.1.2.1 e.2.2.1 s.2.2.1)
def rk:Ty.d bO:=(false,([],([],())))
noncomputable def iQ (e:Ty.d aP) (s:Ty.d d5):uB :=
 bif !l9 (dS e s.2.1).2.1 e.2.1.2.1 then (uE e s.2.1 rk,eX 7) else
 ((e.1,((bm e.2.1 e.2.2.1 (jd (dS e s.2.1).2.2.1)).1,((bm e.2.1 e.2.2.1 (jd (dS e s.2.1).2.2.1)).2.1,(uE e s.2.1 rk).2.2.2))),eX (bm e.2.1 e.2.2.1 (jd (dS e s.2.1).2.2.1)).2.2)
def nO (s:Ty.d d5):Ty.d bF:=(s.2.2.1,((s.1==4),(s.2.2.2.1,())))
def sf (e:Ty.d aP) (s:Ty.d d5):uB :=
 bif !bw [nO s] then (e,eX 4) else bif !(gZ (dS e s.2.1) (nO s)).2 then (e,eX 5) else (uE e s.2.1 (gZ (dS e s.2.1) (nO s)).1,eX 0)
noncomputable def nM (e:Ty.d aP) (s:Ty.d d5):uB :=
 bif s.1==1 then (uE e s.2.1 (true,([],([],()))),eX 0) else bif s.1==6 then (uE e s.2.1 rk,eX 0) else
 bif s.1==2 then tG e s else bif s.1==5 then iQ e s else sf e s
def AR (e:Ty.d aP) (s:Ty.d d5):uB :=
 bif !decide (0≤s.2.2.2.2.1∧s.2.2.2.2.1≤100000-(bv e.2.2.1.1:Int)) then (e,eX 4) else ((e.1,(e.2.1,((e.2.2.1.1,((bv e.2.2.1.1:Int)+s.2.2.2.2.1,e.2.2.1.2.2)),e.2.2.2))),eX 0)
noncomputable def EL (e:Ty.d aP):uB:=((e.1,((bI e.2.1 e.2.2.1).1,((bI e.2.1 e.2.2.1).2.1,e.2.2.2))),eX (bI e.2.1 e.2.2.1).2.2)
def S2 (e:Ty.d aP):uB:=((false,(ju,(e.2.2.1,(List.replicate 3 (Ty.z bO),())))),eX 0)
def qp (e:Ty.d aP) (s:Ty.d d5):Bool:=decide (0≤s.2.1∧s.2.1≤(e.2.2.2.1.length:Int)-1)&&(decide (1≤s.1∧s.1≤6)&&!((dS e s.2.1).1==(s.1==1)))
noncomputable def dA (e:Ty.d aP) (s:Ty.d d5):uB :=
 bif s.1==10 then (bif e.1 then (e,eX 4) else (jE (cZ e.2.2.1),eX (cZ e.2.2.1).2.2)) else
 bif s.1==11 then AR e s else bif !e.1 then (e,eX 6) else bif s.1==7 then EL e else
 bif s.1==8 then (e,(0,(ByteArray.empty,(e.2.1.2.1.map (·.1),())))) else bif s.1==9 then S2 e else
 bif !qp e s then (e,eX 4) else nM e s
def oE (q:uB):Option (Ty.d aP × Ty.d f9 × Unit):=some (q.1,(q.2,()))
abbrev L_:=Ty.d eD × Ty.d f9
def MA (l:fL):aO:=l.map fun p=>(p.1,(0,(0,(0,p.2.2))))
def U6:Ty.d ml:=(ByteArray.empty,(ByteArray.empty,(0,())))
def rh:fL→ByteArray→Ty.d ml × Int
 | [],_=>(U6,8)
 | x::l,key=>bif seq x.1 key then (x,0) else rh l key
def FP (m:Ty.d eD) (i:Int):Ty.d bO:=m.2.2.2.1.getD i.toNat (Ty.z bO)
def yM (m:Ty.d eD) (i:Int) (t:Ty.d bO):Ty.d eD:=(m.1,(m.2.1,(m.2.2.1,(m.2.2.2.1.set i.toNat t,()))))
def Ql (m:Ty.d eD) (s:Ty.d d5) (t:Ty.d bO) (p:Ty.d ml × Int):L_ :=
 bif (jH t s.2.2.1 p.1.2.2.1).2 != 0 then (m,eX (jH t s.2.2.1 p.1.2.2.1).2) else
 (yM m s.2.1 (jH t s.2.2.1 p.1.2.2.1).1,(p.2,(p.1.2.1,([],()))))
def QP (m:Ty.d eD) (s:Ty.d d5):L_ :=
 bif !fg s.2.2.1 then (m,eX 4) else match lr (FP m s.2.1).2.2.1 s.2.2.1 with
 | some p=>bif p.2.1 then (m,eX 8) else (m,(0,(p.2.2.1,([],()))))
 | none=>Ql m s (FP m s.2.1) (rh m.2.1 s.2.2.1)
def QN (m:Ty.d eD) (t:Ty.d bO):L_ :=
 bif !l9 t.2.1 (MA m.2.1) then (m,eX 7) else bif ((jd t.2.2.1).length:Int)==0 then (m,eX 0) else
 bif decide (((uM m.2.1 (jd t.2.2.1) m.2.2.1).length:Int) > 20) then (m,eX 5) else bif decide (m.2.2.1 > 1000000) then (m,eX 5) else
 ((m.1,(uM m.2.1 (jd t.2.2.1) m.2.2.1,(aU (m.2.2.1+1),m.2.2.2))),eX 0)
def MN (m:Ty.d eD) (s:Ty.d d5):L_ :=
 bif !bw [nO s] then (m,eX 4) else bif !(gZ (FP m s.2.1) (nO s)).2 then (m,eX 5) else (yM m s.2.1 (gZ (FP m s.2.1) (nO s)).1,eX 0)
def Q8 (m:Ty.d eD) (s:Ty.d d5):L_ :=
 bif s.1==1 then (yM m s.2.1 (true,([],([],()))),eX 0) else bif s.1==6 then (yM m s.2.1 rk,eX 0) else
 bif s.1==5 then QN (yM m s.2.1 rk) (FP m s.2.1) else bif s.1==2 then QP m s else MN m s
def Ow (m:Ty.d eD) (s:Ty.d d5):Bool:=decide (0≤s.2.1∧s.2.1≤(m.2.2.2.1.length:Int)-1)&&(decide (1≤s.1∧s.1≤6)&&!((FP m s.2.1).1==(s.1==1)))
def ot (m:Ty.d eD) (s:Ty.d d5):L_ :=
 bif s.1==10 then (bif m.1 then (m,eX 4) else ((true,(m.2.1,(m.2.2.1,(List.replicate 3 (Ty.z bO),())))),eX 0)) else
 bif s.1==11 then (m,eX 0) else bif !m.1 then (m,eX 6) else bif s.1==7 then (m,eX 0) else
 bif s.1==8 then (m,(0,(ByteArray.empty,(m.2.1.map (·.1),())))) else
 bif s.1==9 then ((false,(m.2.1,(m.2.2.1,(List.replicate 3 (Ty.z bO),())))),eX 0) else
 bif !Ow m s then (m,eX 4) else Q8 m s
def LB (pl:aT) (b:Int):Prop:=b=1∨∃ p ∈ pl,@Eq Int p.2.2.2.1.2.1 (b-1)
theorem Dw {pl:aT} {d0 d:aO} {l0 la:Int} (h:gr [] pl (d0,l0,0)=(d,la,0)) (hm:bU pl=[]):i7 (d0,(l0,(0,()))) pl=(d,(la,(0,()))):=by have e:i7 (d0,(l0,(0,()))) pl=(bif (gr [] pl (d0,l0,0)).2.2==0&&decide ((bU pl).length > 0) then ((gr [] pl (d0,l0,0)).1,((gr [] pl (d0,l0,0)).2.1,(1,()))) else ((gr [] pl (d0,l0,0)).1,((gr [] pl (d0,l0,0)).2.1,((gr [] pl (d0,l0,0)).2.2,())))):=rA pl pl 0 d0 l0 0 rfl (Nat.zero_le _);rw [e,h,hm];rfl
theorem Na {y:Ty.d aA} (hy:DR y) {L:rP} (hL:1≤L.length) (ht:∀ x ∈ L,fT y (a_ aD x.1)=some (aR x.2)∧∀ r ∈ x.2,bN r=true) {dir:aO} {b:Int} (j:JT (jI L) dir b) (hb:LB (jI L) b) :
 (iA y (L.map (·.1))).1=dir∧(iA y (L.map (·.1))).2.2.1=0∧aU ((iA y (L.map (·.1))).2.1+1)=b:=by
 obtain ⟨la,hg⟩:=j.gr;have key:(iA y (L.map (·.1))).2.2.1=0∧LE.le (α:=Int) (iA y (L.map (·.1))).2.1 (b-1)∧LE.le (α:=Int) 0 (iA y (L.map (·.1))).2.1:=by
  obtain ⟨x0,L',rfl⟩:∃ x L',L=x::L':=by
   cases L with
   | nil=>cases hL
   | cons x L'=>exact ⟨x,L',rfl⟩
  have epl:jI (x0::L')=uA x0++jI L':=rfl;have e1:kJ y ((x0::L').map (·.1))=jI (x0::L'):=qF hy ht;have e2:kJ y (L'.map (·.1))=jI L':=qF hy fun x hx=>ht x (jF _ hx)
  have lo:=j.lo;have bat:∀ p ∈ jI (x0::L'),LE.le (α:=Int) p.2.2.2.1.2.1 (b-1):=fun p hp=>by have:=j.bat p hp;exact Int.le_sub_one_of_lt this
  have b0:LE.le (α:=Int) 0 (b-1):=by omega
  unfold iA;cases c:lw y (((x0::L').map (·.1)).getD 0 0) with
  | false =>simp only [aH];rw [e1,Hk hg j.mark];obtain ⟨l1,_,l3⟩:=vy (jI (x0::L')) [] ([],0,0) (by rw [hg]);have l3:=l3 (b-1) b0 bat;rw [hg] at l1 l3;exact ⟨rfl,l3,l1⟩
  | true =>
   simp only [ae];have ed:((x0::L').map (·.1)).drop 1=L'.map (·.1):=rfl;have ex:((x0::L').map (·.1)).getD 0 0=x0.1:=rfl;rw [ed,ex,e2];rw [ex] at c;obtain ⟨t1,t2⟩:=ht x0 iF;unfold lw at c;simp only [gY] at c;obtain ⟨_,_,c⟩:=c;have es:dJ y x0.1=aR x0.2:=by unfold dJ;rw [gm hy,t1];rfl
   rw [es] at c;unfold o_ at c;simp only [gY,beq_iff_eq] at c;obtain ⟨f1,_,f3,f4⟩:=c;obtain ⟨⟨la0,k1⟩,k2,k3,k4⟩:=Kq (id:=x0.1) t2 f1;rw [f3] at k4;rw [tP.1 f4] at k1;have k1:gr [] (uA x0) ([],0,0)=((dP y x0.1).2.2.1,la0,0):=k1;have k2:∀ b,eH b (uA x0)=[]:=k2;have k3:bU (uA x0)=[]:=k3;have q1:gr [] (jI L') ((dP y x0.1).2.2.1,la0,0)=(dir,la,0):=by have:=hg;rw [epl,sE,k1,List.nil_append] at this;have q:=JJ k2 k3 (jI L') [] ((dP y x0.1).2.2.1,la0,0);rw [List.append_nil] at q;rw [← q];exact this
   obtain ⟨v1,v2⟩:=FT (jI L') [] (dP y x0.1).2.2.1 (dP y x0.1).2.1 la0 0;rw [q1] at v1 v2;have q2:gr [] (jI L') ((dP y x0.1).2.2.1,(dP y x0.1).2.1,0)=(dir,(gr [] (jI L') ((dP y x0.1).2.2.1,(dP y x0.1).2.1,0)).2.1,0):=Prod.ext v1 (Prod.ext rfl v2);have hm:bU (jI L')=[]:=by have:=j.mark;rw [epl,mJ,k3] at this;exact this
   rw [Dw q2 hm];refine ⟨rfl,?_⟩;have hmark:∃ p ∈ uA x0,@Eq Int p.2.2.2.1.2.1 (dP y x0.1).2.1:=by
    rw [← f3];have hb:(g8 x0.1 (aR x0.2)).2=true:=f1;have hsp:uA x0=bP x0.1 (b9 (aR x0.2)).1:=by unfold uA;rw [uw t2]
    rw [hsp];unfold g8 at hb ⊢;cases w1:(b9 (aR x0.2)).2 != ((aR x0.2).size:Int) with
    | true=>rw [w1] at hb;cases hb
    | false =>
     rw [w1] at hb;simp only [aH] at hb ⊢;generalize (b9 (aR x0.2)).1=l at hb ⊢;cases w2:l.length==0 with
     | true=>rw [w2] at hb;cases hb
     | false =>
      rw [w2] at hb;simp only [aH] at hb ⊢;have hne:l.length≠0:=by simpa using w2
      have hm:l.getD (l.length-1) (Ty.z cX) ∈ l:=by show (l[l.length-1]?).getD _ ∈ l;rw [List.getElem?_eq_getElem (by omega)];exact List.getElem_mem _
      generalize l.getD (l.length-1) (Ty.z cX)=mk at hb hm ⊢;refine ⟨(x0.1,mk),List.mem_map.2 ⟨mk,hm,rfl⟩,?_⟩;revert hb;cases mk.2.2.1.1 != 5 <;> cases !decide ((1:Int)≤x0.1∧x0.1≤100000) <;> cases pB (ng mk.2.2.1.2.1) none (l.take (l.length-1)) <;> cases im mk.2.2.1 (bP x0.1 (l.take (l.length-1))) <;> intro hb <;> first | rfl | cases hb
   obtain ⟨pm,m1,m2⟩:=hmark;have mb:LE.le (α:=Int) (dP y x0.1).2.1 (b-1):=by have:=bat pm (by rw [epl];exact List.mem_append_left _ m1);rw [m2] at this;exact this
   obtain ⟨l1,_,l3⟩:=vy (jI L') [] ((dP y x0.1).2.2.1,(dP y x0.1).2.1,0) (by rw [q2]);refine ⟨l3 (b-1) mb fun p hp=>bat p (by rw [epl];exact List.mem_append_right _ hp),Int.le_trans ?_ l1⟩;obtain ⟨x,hx,s,hs,e⟩:=xW (L:=x0::L') (p:=pm) (by rw [epl];exact List.mem_append_left _ m1);obtain ⟨_,i2,_⟩:=qk x.2 ⟨#[]⟩ ⟨#[]⟩ (ht x hx).2 s hs;have mr:bN pm.2.2.2.1=true:=by rw [e];exact i2
   have:=(u7 mr).1;rw [m2] at this;exact this
 obtain ⟨z,up,dn⟩:=key;have j2:=Kr hy hL ht z;obtain ⟨la2,hg2⟩:=j2.gr;rw [hg] at hg2;refine ⟨(congrArg (·.1) hg2).symm,z,?_⟩;have lo:=j.lo;have hi:=j.hi;have e:aU ((iA y (L.map (·.1))).2.1+1)=(iA y (L.map (·.1))).2.1+1:=aG (by omega) (by omega);rw [e] at j2 ⊢;have lo2:=j2.lo;rcases hb with q | ⟨p,hp,q⟩
 · omega
 · have:=j2.bat p hp;rw [q] at this;omega
structure OP (st:Ty.d aC) (d:Ty.d aA):Prop where
 mi:∃ L,TX st d L∧JT (jI L) st.2.1 st.2.2.1∧LB (jI L) st.2.2.1
 live:fT d c_=some (bZ st.1)
 only:∀ f ∈ d.1,f.1=c_∨(∃ x ∈ st.1.2.1,f.1=a_ aD x)∨f.1=a_ bG (st.1.2.1.getD 0 0)
 rest:d.2=(100000,(-1,(false,())))
theorem OP.MI {st:Ty.d aC} {d:Ty.d aA} (h:OP st d):MI st d:=by obtain ⟨L,t,j,_⟩:=h.mi;exact ⟨L,t,j⟩
theorem wo {d:Ty.d aA}:∀ l:List Int,(∀ x ∈ l,(aW d (a_ aD x)).2=true∧(b9 (dJ d x)).2=((dJ d x).size:Int))→gp d l=true
 | [],_=>rfl
 | x::l,h=>by obtain ⟨h1,h2⟩:=h x iF;show (rL d x l.isEmpty&&gp d l)=true;rw [wo l fun y hy=>h y (jF _ hy)];unfold rL;rw [h1,aZ (by omega)];cases l.isEmpty <;> rfl
theorem LZ {ids:List Int} {d:Ty.d aA} (h:∀ f ∈ d.1,oT ids f=true):rW d ids=[]:=by
 unfold rW;cases fZ d with
 | false=>rfl
 | true =>rw [ae,C8,List.nil_append,List.map_eq_nil_iff,List.filter_eq_nil_iff];intro f hf c;have:=h f hf;unfold oT at this;rw [c] at this;cases this
theorem Mv {ids:List Int} {d:Ty.d aA} (h:∀ f ∈ d.1,oT ids f=true):fw ids d=(d,0):=by unfold fw;rw [LZ h];rfl
theorem Rz {st:Ty.d aC} {d:Ty.d aA} (h:OP st d) :
 ∃ hi,cZ d=((st.1,(st.2.1,(st.2.2.1,(st.2.2.2.1,(hi,()))))),((cQ d (au st)).1,0))∧OP (st.1,(st.2.1,(st.2.2.1,(st.2.2.2.1,(hi,()))))) (cQ d (au st)).1∧∀ s,fT (cQ d (au st)).1 s=fT d s:=by
 obtain ⟨L,t,j,lb⟩:=h.mi;have hd:DR d:=t.disk;have hl:dK st.1=true:=t.live;obtain ⟨n1,n2,n3,n4⟩:=fk (n:=st.1.1) (ids:=st.1.2.1) hl;obtain ⟨_,_,g1,_,_⟩:=bD (nx:=st.1.1) (ids:=st.1.2.1) hl;have hin:∀ i ∈ st.1.2.1,1≤i∧i≤100000:=fun i hi=>⟨(n3 i hi).1,Jd (n3 i hi).2 n2⟩
 have hlast:=H2 g1;have hfull:∀ x ∈ st.1.2.1,(aW d (a_ aD x)).2=true∧(b9 (dJ d x)).2=((dJ d x).size:Int):=fun x hx=>by obtain ⟨s,h1,h2⟩:=t.bt.full x hx;refine ⟨by rw [oD hd,h1];rfl,?_⟩;unfold dJ;rw [gm hd,h1];exact CG h2
 have hone:d=dk d.1 100000:=Prod.ext rfl h.rest;have hact:∃ a,fT d (au st)=some a∧FL a:=t.bt.full _ hlast;obtain ⟨a,ha,_⟩:=hact;have hsome:∃ f,b8 d.1 (au st)=some f:=by
  unfold fT at ha;cases q:b8 d.1 (au st) with
  | none=>rw [q] at ha;cases ha
  | some f=>exact ⟨f,rfl⟩
 obtain ⟨f,hf⟩:=hsome;have hsyn:cQ d (au st)=(dk (iT (fun f=>(f.1,(f.2.1,((f.2.1.size:Int),f.2.2.2)))) d.1 (au st)) 100000,0):=by have e:=Lt (l:=d.1) (c:=100000) (hone▸hd) (qV (au st));rw [← hone] at e;refine Eq.trans e ?_;unfold qV;rw [hf];rfl
 have hy:=m9 hd (au st);have kt:∀ s,fT (cQ d (au st)).1 s=fT d s:=fun s=>jv
 have hsz:(b9 (dJ d (aQ st.1.2.1))).2=st.2.2.2.1:=by rw [(hfull _ hlast).2];have:=t.tail a ha;rw [this];unfold dJ;rw [gm hd,show a_ aD (aQ st.1.2.1)=au st from rfl,ha];rfl
 have hfix:eT (aQ st.1.2.1) d=cQ d (au st):=by unfold eT;rw [aZ (by have:=(hfull _ hlast).2;omega)];rfl
 have ht2:∀ x ∈ L,fT (cQ d (au st)).1 (a_ aD x.1)=some (aR x.2)∧∀ r ∈ x.2,bN r=true:=fun x hx=>by rw [kt];exact t.text x hx
 have hL:1≤L.length:=by have:=congrArg List.length t.ids;rw [List.length_map] at this;omega
 obtain ⟨gd,gc,gb⟩:=Na hy hL ht2 j lb;rw [← t.ids] at gd gc gb;have hnames:∀ g ∈ (cQ d (au st)).1.1,∃ g' ∈ d.1,g.1=g'.1:=fun g hg=>by
  have e:(cQ d (au st)).1.1=iT (fun f=>(f.1,(f.2.1,((f.2.1.size:Int),f.2.2.2)))) d.1 (au st):=by rw [hsyn];rfl
  rw [e] at hg;rcases rD hg with w | ⟨g',h1,h2⟩
  · exact ⟨g,w,rfl⟩
  · exact ⟨g',(lS h1).1,by rw [h2]⟩
 have honly:∀ g ∈ (cQ d (au st)).1.1,g.1=c_∨(∃ x ∈ st.1.2.1,g.1=a_ aD x)∨g.1=a_ bG (st.1.2.1.getD 0 0):=fun g hg=>by obtain ⟨g',h1,h2⟩:=hnames g hg;rw [h2];exact h.only g' h1
 have hkeep:∀ g ∈ (cQ d (au st)).1.1,oT st.1.2.1 g=true:=fun g hg=>by
  rcases honly g hg with w | ⟨x,hx,w⟩ | w
  · exact JO _ g w
  · exact MJ hx (hin x hx) g w
  · exact Hw (eE (by omega)) (hin _ (eE (by omega))) g w
 have htext:aW d c_=(bZ st.1,true):=by have e1:=gm hd c_;have e2:=oD hd c_;rw [h.live] at e1 e2;exact Prod.ext e1 e2
 refine ⟨bif lw (cQ d (au st)).1 (st.1.2.1.getD 0 0) then st.1.2.1.getD 0 0 else 0,?_,?_,kt⟩
 · unfold cZ;rw [dH.2 hd,htext];have e3:d.2.2.2.1=false:=by rw [h.rest]
   rw [e3];simp only [g9,aH];rw [Bh hl];simp only [g9,aH];unfold pr;rw [wo st.1.2.1 hfull,hfix,hsz];have e4:(cQ d (au st)).2=0:=by rw [hsyn]
   rw [e4];simp only [g9,aH,bne_self_eq_false];unfold yN;rw [gc,Mv hkeep];simp only [bne_self_eq_false,aH];unfold Eu;rw [gd,gb]
 · exact ⟨⟨L,⟨t.live,hy,t.ids,ht2,fun s q=>t.tail s ((kt _).symm.trans q)⟩,j,lb⟩,(kt _).trans h.live,honly,by rw [hsyn];rfl⟩
theorem Qb (nm:ByteArray):∀ (rs:ij) (d:Ty.d aA) (F U:Nat),RM d F U→(fT d nm).isSome=true→U+210*rs.length≤100000→RM (Aj nm rs (d,0)).1 F (U+210*rs.length)∧(Aj nm rs (d,0)).2=0∧(fT (Aj nm rs (d,0)).1 nm).isSome=true
 | [],d,F,U,h,hx,_=>⟨h.mono (Nat.le_refl _) (by simp),rfl,hx⟩
 | x::rs,d,F,U,h,hx,hU=>by
  rw [kM] at hU;obtain ⟨a1,a2⟩:=IQ h hx (vP x) (by omega);have a3:=qt (d:=d) (s:=nm) (x:=aM (aE x));rw [a2] at a3;have a4:(fT (h_ d nm (aM (aE x))).1 nm).isSome=true:=by
   rw [a3];cases q:fT d nm with
   | none=>rw [q] at hx;cases hx
   | some t=>rfl
  have e:Aj nm (x::rs) (d,0)=Aj nm rs ((h_ d nm (aM (aE x))).1,0):=by show Aj nm rs (dz (d,0) fun y=>h_ y nm (aM (aE x)))=_;congr 1;exact Prod.ext rfl a2
  obtain ⟨b1,b2,b3⟩:=Qb nm rs _ F (U+210) a1 a4 (by omega);rw [e];exact ⟨b1.mono (Nat.le_refl _) (by rw [kM];omega),b2,b3⟩
theorem GP {F U:Nat}:∀ (l:List ByteArray) (d:Ty.d aA),RM d F U→RM (bX l d).1 F U∧(bX l d).2=0
 | [],d,h=>⟨h,rfl⟩
 | s::l,d,h=>by obtain ⟨a1,a2,_⟩:=Kc h s;show RM (dz (fG s d) (bX l)).1 F U∧(dz (fG s d) (bX l)).2=0;rw [mX a2];exact GP l _ a1
theorem OR {F U:Nat}:∀ (l:List Int) (d:Ty.d aA),RM d F U→RM (mM l d).1 F U∧(mM l d).2=0
 | [],d,h=>⟨h,rfl⟩
 | x::l,d,h=>by obtain ⟨a1,a2⟩:=GP [a_ aD x,a_ bG x] d h;show RM (dz (bX [a_ aD x,a_ bG x] d) (mM l)).1 F U∧(dz (bX [a_ aD x,a_ bG x] d) (mM l)).2=0;rw [mX a2];exact OR l _ a1
theorem M1 {n:Int} (h:1≤n∧n≤100000):ib (a_ bG n)=true:=by
 have hz:=m0 (n:=n) (by omega) (by omega);have h3:bG.size=4:=rfl;have e:a_ bG n=bG++dp n:=by unfold a_;rw [aX h];rfl
 rw [e];have hs:(bG++dp n).size=4+(dp n).size:=by rw [ByteArray.size_append,h3]
 have hl:(dp n).size≤6:=by rw [← dD,pX,if_neg (by omega),List.length_map];have:=jf 5 n.toNat (by omega);omega
 unfold ib;rw [aX (show 1≤(bG++dp n).size∧(bG++dp n).size≤12 from ⟨by omega,by omega⟩),Bool.and_true,gS,pX,if_neg (by omega)];show lU (104::105::110::116::(Lib.decDigits n.toNat).map UInt8.toNat)=true;simp only [lU];rw [xG _ fun b hb=>?_]
 · decide
 · obtain ⟨x,hx,rfl⟩:=List.mem_map.1 hb;exact kY _ x hx
theorem G4 {st:Ty.d aC} {d:Ty.d aA} {F U:Nat} (h:RM d F U) (hs:bo st d=true) (hd:(bH st.2.1 d).2=0) (h20:(bH st.2.1 d).1.length≤20) (hF:F+5<130) (hU:U+6000≤100000) (hn:LE.le (α:=Int) (st.1.1+2) 100000) :
 (bI st d).2.2=0∧RM (bI st d).2.1 (F+5) (U+6000):=by
 obtain ⟨g1,_,_⟩:=bn hs;obtain ⟨n1,n2,n3,_⟩:=fk (n:=st.1.1) (ids:=st.1.2.1) g1.live;have e:bI st d=bT (qZ st.1.1) st d (bH st.2.1 d).1:=by unfold bI;rw [hs,aZ (show ¬ st.1.1+2 > (100000:Int) from Int.not_lt.2 hn),hd];rfl
 rw [e];generalize (bH st.2.1 d).1=l at h20;have key:∀ n:Int,1≤n→n+2≤100000→(1≤n∧n≤100000)∧(1≤n+1∧n+1≤100000):=by omega
 obtain ⟨m1,m2⟩:=key st.1.1 n1 hn;have hk:(fK l (st.2.2.1-1)).length≤21:=by unfold fK;rw [rt,List.length_map,List.length_singleton];omega
 obtain ⟨a1,a2⟩:=wg h (by omega) (sL m1);have a3:=lJ a2;have ea:ak (a_ aD st.1.1) d=((ak (a_ aD st.1.1) d).1,0):=Prod.ext rfl a2;obtain ⟨b1,b2,b3⟩:=Qb (a_ aD st.1.1) (fK l (st.2.2.1-1)) _ _ _ a1 (by rw [a3];rfl) (by omega);rw [← ea] at b1 b2 b3;obtain ⟨c1,c2⟩:=xN b1 b3;have w1:cR st.1.1 l (st.2.2.1-1) d=cQ (Aj (a_ aD st.1.1) (fK l (st.2.2.1-1)) (ak (a_ aD st.1.1) d)).1 (a_ aD st.1.1):=by unfold cR;rw [mX b2]
 rw [← w1] at c1 c2;obtain ⟨f1,f2⟩:=wg c1 (by omega) (sL m2);obtain ⟨i1,i2,_⟩:=Jm f1 (by omega) (M1 m1) (pq _) (t:=qZ st.1.1 (aW (ak (a_ aD (st.1.1+1)) (cR st.1.1 l (st.2.2.1-1) d).1).1 (a_ aD st.1.1)).1) (by omega);have w2:fy (qZ st.1.1) st.1.1 (ak (a_ aD (st.1.1+1)) (cR st.1.1 l (st.2.2.1-1) d).1).1=jw (a_ bG st.1.1) (qZ st.1.1 (aW (ak (a_ aD (st.1.1+1)) (cR st.1.1 l (st.2.2.1-1) d).1).1 (a_ aD st.1.1)).1) (ak (a_ aD (st.1.1+1)) (cR st.1.1 l (st.2.2.1-1) d).1).1:=by unfold fy;rw [i2];rfl
 rw [← w2] at i1 i2;obtain ⟨p1,p2⟩:=rQ i1 (by omega) (by omega) (ez st.1.1);obtain ⟨o1,o2⟩:=OR st.1.2.1 _ p1;unfold bT;rw [c2,f2,i2,p2];simp only [bne_self_eq_false,aH];refine ⟨?_,?_⟩
 · show fj (mM st.1.2.1 (an (ez st.1.1) (fy (qZ st.1.1) st.1.1 (ak (a_ aD (st.1.1+1)) (cR st.1.1 l (st.2.2.1-1) d).1).1).1).1).2=0;rw [o2];rfl
 · exact RM.mono o1 (by omega) (by omega)
structure WK (st:Ty.d aC) (d:Ty.d aA):Prop where
 on:∀ s,(fT d s).isSome=true→s=c_∨(∃ x ∈ st.1.2.1,s=a_ aD x)∨s=a_ bG (st.1.2.1.getD 0 0)
 live:fT d c_=some (bZ st.1)
theorem rR {v:Ty.d cC} {d:Ty.d aA} (hd:DR d) (z:(an v d).2=0):fT (an v d).1 gT=none:=by have hx:=jj gT (bZ v) d hd;unfold an at z ⊢;obtain ⟨z1,e,z2⟩:=iw z;rw [e];exact Q7 hx (by decide) z2
theorem Md {st:Ty.d aC} {d:Ty.d aA} (z:(gV st d).2.2=0) :
 (an (jq st) (ak (a_ aD st.1.1) (cQ d (au st)).1).1).2=0∧gV st d=(uu st,((an (jq st) (ak (a_ aD st.1.1) (cQ d (au st)).1).1).1,0)):=by
 unfold gV at z ⊢;by_cases c1:(st.1.2.1.length:Int)≥60
 · rw [aX c1] at z;exact absurd z (by show (5:Int)≠0;decide)
 by_cases c2:st.1.1≥(100000:Int)
 · rw [aZ c1,aX c2] at z;exact absurd z (by show (5:Int)≠0;decide)
 rw [aZ c1,aZ c2] at z ⊢;simp only [aH] at z ⊢;generalize cQ d (au st)=r1 at z ⊢;generalize ak (a_ aD st.1.1) r1.1=r2 at z ⊢;generalize an (jq st) r2.1=r3 at z ⊢;have tlz:∀ r:RD,(r.2 != 0)=true→(tl r).2≠0:=fun r q e=>by have:=kq r;rw [e,q] at this;cases this
 cases e1:r1.2 != 0 with
 | true=>rw [e1] at z;exact absurd z (tlz r1 e1)
 | false =>
  rw [e1] at z;simp only [aH] at z ⊢;cases e2:r2.2 != 0 with
  | true=>rw [e2] at z;exact absurd z (tlz r2 e2)
  | false =>
   rw [e2] at z;simp only [aH] at z ⊢;cases e3:r3.2 != 0 with
   | true =>
    rw [e3] at z;simp only [ae] at z;refine absurd z ?_;unfold oG;cases q:(tl r3).2==2 with
    | false=>exact tlz r3 e3
    | true =>
     show (bif (bX [gT,a_ aD st.1.1] (tl r3).1).2==0 then (2:Int) else fj (bX [gT,a_ aD st.1.1] (tl r3).1).2)≠0;cases q2:(bX [gT,a_ aD st.1.1] (tl r3).1).2==0 with
     | true=>show (2:Int)≠0;decide
     | false =>have:=fV (bX [gT,a_ aD st.1.1] (tl r3).1).2;rw [q2] at this;exact beq_eq_false_iff_ne.1 this
   | false=>exact ⟨dY e3,rfl⟩
theorem MO {ids:List Int} (h:1≤ids.length) (l:List Int):(ids++l).getD 0 0=ids.getD 0 0:=by
 cases ids with
 | nil=>cases h
 | cons _ _=>rfl
theorem Ri {st:Ty.d aC} {d:Ty.d aA} (hl:dK st.1=true) (hd:DR d) (w:WK st d) (z:(gV st d).2.2=0):WK (gV st d).1 (gV st d).2.1:=by
 obtain ⟨_,_,g1,_,_⟩:=bD (nx:=st.1.1) (ids:=st.1.2.1) hl;obtain ⟨z3,e⟩:=Md z;have h1:=m9 hd (au st);have h2:=j8 (a_ aD st.1.1) _ h1;rw [e];refine ⟨fun s hs=>?_,qb h2 z3⟩;have hs:(fT (an (jq st) (ak (a_ aD st.1.1) (cQ d (au st)).1).1).1 s).isSome=true:=hs;by_cases q1:s=c_
 · exact .inl q1
 by_cases q2:s=gT
 · rw [q2,rR h2 z3] at hs;cases hs
 rw [fB (fun q=>q2 q.symm) (fun q=>q1 q.symm)] at hs;show s=c_∨(∃ x ∈ st.1.2.1++[st.1.1],s=a_ aD x)∨s=a_ bG ((st.1.2.1++[st.1.1]).getD 0 0);by_cases q3:s=a_ aD st.1.1
 · exact .inr (.inl ⟨st.1.1,List.mem_append_right _ (List.mem_singleton.2 rfl),q3⟩)
 rw [lD (fun q=>q3 q.symm),jv] at hs;rw [MO g1];rcases w.on s hs with v | ⟨x,hx,v⟩ | v
 · exact .inl v
 · exact .inr (.inl ⟨x,List.mem_append_left _ hx,v⟩)
 · exact .inr (.inr v)
theorem ON {st:Ty.d aC} {d:Ty.d aA} (hl:dK st.1=true) (w:WK st d) (r:Ty.d bQ):WK (gh st d r).1.1 (gh st d r).1.2.1∧(gh st d r).1.1.1=st.1:=by
 obtain ⟨n1,n2,n3,_⟩:=fk (n:=st.1.1) (ids:=st.1.2.1) hl;obtain ⟨_,_,g1,_,_⟩:=bD (nx:=st.1.1) (ids:=st.1.2.1) hl;have hlast:=H2 g1;have hv:c_≠au st:=ia ⟨(n3 _ hlast).1,Jd (n3 _ hlast).2 n2⟩;have key:WK st (h_ d (au st) (aM (aE r))).1:=by
  refine ⟨fun s hs=>?_,(v8 fun q=>hv q.symm).trans w.live⟩;by_cases q:s=au st
  · exact .inr (.inl ⟨_,hlast,q⟩)
  · rw [v8 fun v=>q v.symm] at hs;exact w.on s hs
 unfold gh;cases (h_ d (au st) (aM (aE r))).2 != 0 <;> exact ⟨⟨key.on,key.live⟩,rfl⟩
theorem RV {st:Ty.d aC} {d:Ty.d aA} (hb:BT st d) (w:WK st d) (r:Ty.d bQ) (z:(da st d r).1.2.2=0):WK (da st d r).1.1 (da st d r).1.2.1:=by
 unfold da at z ⊢;cases c:decide (st.2.2.2.1 > 0)&&decide (st.2.2.2.1+aS r > 200) with
 | false=>exact (ON hb.live w r).1
 | true =>
  rw [c] at z;simp only [ae] at z ⊢;cases c2:(gV st d).2.2 != 0 with
  | true =>rw [c2] at z;have:(gV st d).2.2=0:=z;rw [this] at c2;cases c2
  | false =>have z2:=dY c2;exact (ON (I0 hb z2).live (Ri hb.live hb.disk w z2) r).1
theorem Jz:∀ (l:ij) (st:Ty.d aC) (d:Ty.d aA) (ps:aT),BT st d→(∀ r ∈ l,bN r=true)→WK st d→(bR l st d ps).1.2.2=0→WK (bR l st d ps).1.1 (bR l st d ps).1.2.1
 | [],_,_,_,_,_,w,_=>w
 | r::l,st,d,ps,hb,hr,w,z=>by
  unfold bR at z ⊢;cases c:(da st d r).1.2.2 != 0 with
  | true =>rw [c] at z;have:(da st d r).1.2.2=0:=z;rw [this] at c;cases c
  | false =>rw [c] at z;have z2:=dY c;obtain ⟨b1,_,_⟩:=Im hb (hr r iF) z2;exact Jz l _ _ _ b1 (fun x hx=>hr x (jF _ hx)) (RV hb w r z2) z
theorem NR {st:Ty.d aC} {d:Ty.d aA} {l:dX} (hs:bo st d=true) (hp:bw l=true) (hb:LE.le (α:=Int) st.2.2.1 1000000) (w:WK st d) (z:(bS st d l).2.2=0):WK (bS st d l).1 (bS st d l).2.1:=by
 obtain ⟨g1,g2,g3⟩:=bn hs;have hBT:=sv hs;unfold bS at z ⊢;have key:=Jz (bf l st.2.2.1) (iV st) d [] ⟨hBT.live,hBT.disk,hBT.full,hBT.tail⟩ (nu hp g3 hb) ⟨w.on,w.live⟩;generalize bR (bf l st.2.2.1) (iV st) d []=q at z key ⊢;unfold rH at z ⊢;cases c:q.1.2.2 != 0 with
 | true =>rw [c] at z;have:q.1.2.2=0:=z;rw [this] at c;cases c
 | false =>
  rw [c] at z;simp only [aH] at z ⊢;have k:=key (dY c);cases c2:(cQ q.1.2.1 (au q.1.1)).2 != 0 with
  | true =>rw [c2] at z;exfalso;have:=kq (cQ q.1.2.1 (au q.1.1));rw [show (tl (cQ q.1.2.1 (au q.1.1))).2=0 from z,c2] at this;cases this
  | false=>exact ⟨fun s hs=>k.on s (by rw [← jv (d:=q.1.2.1) (s:=au q.1.1)];exact hs),jv.trans k.live⟩
theorem BJ {st:Ty.d aC} {d:Ty.d aA} {L:rP} (h:TX st d L):kJ d st.1.2.1=jI L:=by rw [h.ids];exact qF h.disk h.text
theorem OP.WK {st:Ty.d aC} {d:Ty.d aA} (h:OP st d):WK st d:=⟨fun s hs=>by
 unfold fT at hs;cases q:b8 d.1 s with
 | none=>rw [q] at hs;cases hs
 | some f =>
  obtain ⟨m1,m2⟩:=lS q;rw [← m2];exact h.only f m1,h.live⟩
theorem OP.of {st:Ty.d aC} {d:Ty.d aA} (hm:∃ L,TX st d L∧JT (jI L) st.2.1 st.2.2.1∧LB (jI L) st.2.2.1) (w:G.WK st d) (hr:d.2=(100000,(-1,(false,())))):OP st d :=
 ⟨hm,w.live,fun f hf=>w.on f.1 (by
  unfold fT;cases q:b8 d.1 f.1 with
  | none=>exact absurd q (GU hf)
  | some g=>rfl),hr⟩
theorem OP.disk {st:Ty.d aC} {d:Ty.d aA} (h:OP st d):DR d:=by obtain ⟨L,t,_⟩:=h.mi;exact t.disk
theorem OP.rm {st:Ty.d aC} {d:Ty.d aA} (h:OP st d):RM d d.1.length (bv d.1) :=
 ⟨h.disk,by rw [h.rest],by rw [h.rest],by rw [h.rest],Nat.le_refl _,Nat.le_refl _⟩
theorem E6 {d:Ty.d aA} {F U:Nat} (h:RM d F U):d.2=(100000,(-1,(false,()))):=Prod.ext h.cap (Prod.ext h.fuel (Prod.ext h.up rfl))
theorem NA {st:Ty.d aC} {d:Ty.d aA} {l:dX} (h:OP st d) (hp:bw l=true) (hb:LE.le (α:=Int) st.2.2.1 1000000) (ha:jL st.2.1 l≤20) (hF:d.1.length+20<130) (hU:bv d.1+4000≤100000) (hi:st.1.2.1.length≤50) (hn:LE.le (α:=Int) st.1.1 99000) :
 (bS st d l).2.2=0∧OP (bS st d l).1 (bS st d l).2.1∧(bS st d l).1.2.2.1=st.2.2.1+1:=by
 obtain ⟨L,t,j,lb⟩:=h.mi;have hmi:MI st d:=⟨L,t,j⟩;obtain ⟨hs,hei⟩:=hmi.store;obtain ⟨g1,g2,g3⟩:=bn hs;obtain ⟨a1,a2,_,_⟩:=Od h.rm hs hp hb hF hU hi hn;have hw:=NR hs hp hb h.WK a2;have hm2:=Gy hmi hp hb ha (show dn (bS st d l).2.1=false from a1.up);obtain ⟨L2,t2,j2⟩:=hm2;have t0:TX (iV st) d L:=⟨t.live,t.disk,t.ids,t.text,t.tail⟩;obtain ⟨L',q,t',e1,e2,e3,_⟩:=EU (bf l st.2.2.1) (iV st) d [] L t0 (nu hp g3 hb);have form:(bR (bf l st.2.2.1) (iV st) d []).1.2.2=0∧(bS st d l).1.1=(bR (bf l st.2.2.1) (iV st) d []).1.1.1∧(∀ s,fT (bS st d l).2.1 s=fT (bR (bf l st.2.2.1) (iV st) d []).1.2.1 s)∧(bS st d l).1.2.2.1=(bR (bf l st.2.2.1) (iV st) d []).1.1.2.2.1:=by
  have z:=a2;unfold bS at z ⊢;generalize bR (bf l st.2.2.1) (iV st) d []=q at z ⊢;unfold rH at z ⊢;cases c:q.1.2.2 != 0 with
  | true =>rw [c] at z;have:q.1.2.2=0:=z;rw [this] at c;cases c
  | false =>
   rw [c] at z;simp only [aH] at z ⊢;cases c2:(cQ q.1.2.1 (au q.1.1)).2 != 0 with
   | true =>rw [c2] at z;exfalso;have:=kq (cQ q.1.2.1 (au q.1.1));rw [show (tl (cQ q.1.2.1 (au q.1.1))).2=0 from z,c2] at this;cases this
   | false=>exact ⟨dY c,rfl,fun s=>jv,rfl⟩
 obtain ⟨z1,f1,f2,f3⟩:=form;obtain ⟨_,e4⟩:=e3 z1;have hbat:(bS st d l).1.2.2.1=st.2.2.1+1:=by rw [f3];exact uk _ _ _ _
 refine ⟨a2,OP.of ⟨L2,t2,j2,?_⟩ hw (E6 a1),hbat⟩;have epl:jI L2=jI L':=by
  rw [← BJ t2,← BJ t',f1];exact DG fun x hx=>by unfold dJ;rw [gm t2.disk,gm t'.disk,f2]
 right;have hseal:gB 3 st.2.2.1 (l.map (g7 st.2.2.1)) ∈ q.map fb:=by rw [e2,e4,List.take_length];unfold bf;exact List.mem_append_right _ (List.mem_singleton.2 rfl)
 obtain ⟨p,hp1,hp2⟩:=List.mem_map.1 hseal;refine ⟨p,by rw [epl,e1];exact List.mem_append_right _ hp1,?_⟩;have e5:p.2.2.2.1=gB 3 st.2.2.1 (l.map (g7 st.2.2.1)):=hp2;rw [e5,hbat];exact (Int.add_sub_cancel st.2.2.1 1).symm
noncomputable def Ba (st:Ty.d aC) (d:Ty.d aA):RD:=an (ez st.1.1) (fy (qZ st.1.1) st.1.1 (ak (a_ aD (st.1.1+1)) (cR st.1.1 (bH st.2.1 d).1 (st.2.2.1-1) d).1).1).1
theorem AG {st:Ty.d aC} {d:Ty.d aA} (z:(bI st d).2.2=0):(Ba st d).2=0∧(bI st d).2.1=(mM st.1.2.1 (Ba st d).1).1∧(mM st.1.2.1 (Ba st d).1).2=0:=by
 have hm:=n8 z;obtain ⟨g1,_,_⟩:=bn hm.store;obtain ⟨n1,n2,n3,_⟩:=fk (n:=st.1.1) (ids:=st.1.2.1) g1.live;have e:bI st d=bT (qZ st.1.1) st d (bH st.2.1 d).1:=by unfold bI;rw [hm.store,aZ (show ¬ st.1.1+2 > (100000:Int) from Int.not_lt.2 hm.hi),hm.dump];rfl
 have hf:=hm.form;rw [e] at hf z ⊢;have hne:pV st≠(ez st.1.1,(gy st.1.1 (bH st.2.1 d).1 0,(st.2.2.1,(0,(0,()))))):=fun w=>by have w2:(st.1.1+2,st.1.2)=ez st.1.1:=congrArg (fun s:Ty.d aC=>s.1) w;have h3:st.1.2.1=[st.1.1,st.1.1+1]:=congrArg (fun v:Ty.d cC=>v.2.1) w2;have:=(n3 st.1.1 (by rw [h3];exact iF)).2;exact absurd this (Int.lt_irrefl _)
 unfold Ba;unfold bT at hf z ⊢;generalize cR st.1.1 (bH st.2.1 d).1 (st.2.2.1-1) d=a at hf z ⊢;generalize ak (a_ aD (st.1.1+1)) a.1=b at hf z ⊢;generalize fy (qZ st.1.1) st.1.1 b.1=c at hf z ⊢;generalize an (ez st.1.1) c.1=p at hf z ⊢;cases c1:a.2 != 0 with
 | true=>rw [c1] at hf;exact absurd hf hne
 | false =>
  rw [c1] at hf z;simp only [aH] at hf z ⊢;cases c2:b.2 != 0 with
  | true=>rw [c2] at hf;exact absurd hf hne
  | false =>
   rw [c2] at hf z;simp only [aH] at hf z ⊢;cases c3:c.2 != 0 with
   | true=>rw [c3] at hf;exact absurd hf hne
   | false =>
    rw [c3] at hf z;simp only [aH] at hf z ⊢;cases c4:p.2 != 0 with
    | true=>rw [c4] at hf;exact absurd hf hne
    | false =>rw [c4] at z;simp only [aH] at z ⊢;refine ⟨dY c4,rfl,?_⟩;have h1:fj (mM st.1.2.1 p.1).2=0:=z;have h2:=fV (mM st.1.2.1 p.1).2;rw [h1] at h2;exact BU h2.symm
theorem A8 {t:ByteArray}:∀ (l:List Int) (d:Ty.d aA),DR d→(mM l d).2=0→((∃ x ∈ l,t=a_ aD x∨t=a_ bG x)∨fT d t=none)→fT (mM l d).1 t=none
 | [],d,_,_,h=>by
  rcases h with ⟨x,hx,_⟩ | h
  · cases hx
  · exact h
 | x::l,d,hd,z,h=>by
  obtain ⟨z1,e,z2⟩:=iw (r:=bX [a_ aD x,a_ bG x] d) (f:=mM l) z;have hy:=jy [a_ aD x,a_ bG x] d hd;show fT (dz (bX [a_ aD x,a_ bG x] d) (mM l)).1 t=none;rw [e];refine A8 l _ hy z2 ?_;by_cases q:t=a_ aD x∨t=a_ bG x
  · refine .inr (qs _ d hd z1 (.inl ?_));rcases q with q | q <;> rw [q] <;> simp
  · rcases h with ⟨y,hy2,w⟩ | h
    · rcases List.mem_cons.1 hy2 with v | v
      · rw [v] at w;exact absurd w q
      · exact .inl ⟨y,v,w⟩
    · exact .inr (qs _ d hd z1 (.inr h))
theorem Kx {st:Ty.d aC} {d:Ty.d aA} (hd:DR d):DR (Ba st d).1:=by
 unfold Ba;refine kR _ _ ?_;have h1:=j8 (a_ aD (st.1.1+1)) _ (sD st.1.1 (bH st.2.1 d).1 (st.2.2.1-1) hd);unfold fy;cases (jw (a_ bG st.1.1) (qZ st.1.1 (aW (ak (a_ aD (st.1.1+1)) (cR st.1.1 (bH st.2.1 d).1 (st.2.2.1-1) d).1).1 (a_ aD st.1.1)).1) (ak (a_ aD (st.1.1+1)) (cR st.1.1 (bH st.2.1 d).1 (st.2.2.1-1) d).1).1).2==2 with
 | true=>exact jy _ _ (jj _ _ _ h1)
 | false=>exact jj _ _ _ h1
theorem Ge {st:Ty.d aC} {d:Ty.d aA} (hd:DR d) (w:WK st d) (z:(bI st d).2.2=0):WK (bI st d).1 (bI st d).2.1:=by
 have hm:=n8 z;obtain ⟨g1,_,_⟩:=bn hm.store;obtain ⟨_,_,g5,_,_⟩:=bD (nx:=st.1.1) (ids:=st.1.2.1) g1.live;obtain ⟨z1,e,z2⟩:=AG z;have hn:=Kx (st:=st) hd;refine ⟨fun s hs=>?_,by rw [hm.form];exact hm.live⟩;rw [hm.form];show s=c_∨(∃ x ∈ [st.1.1,st.1.1+1],s=a_ aD x)∨s=a_ bG st.1.1;rw [e] at hs;by_cases q1:s=c_
 · exact .inl q1
 by_cases q2:s=a_ aD st.1.1
 · exact .inr (.inl ⟨_,iF,q2⟩)
 by_cases q3:s=a_ aD (st.1.1+1)
 · exact .inr (.inl ⟨_,jF _ iF,q3⟩)
 by_cases q4:s=a_ bG st.1.1
 · exact .inr (.inr q4)
 exfalso;have hno:fT (mM st.1.2.1 (Ba st d).1).1 s=none:=by
  refine A8 _ _ hn z2 ?_;by_cases q5:s=gT
  · right;rw [q5];have h1:=j8 (a_ aD (st.1.1+1)) _ (sD st.1.1 (bH st.2.1 d).1 (st.2.2.1-1) hd);have h2:DR (fy (qZ st.1.1) st.1.1 (ak (a_ aD (st.1.1+1)) (cR st.1.1 (bH st.2.1 d).1 (st.2.2.1-1) d).1).1).1:=by
     unfold fy;cases (jw (a_ bG st.1.1) (qZ st.1.1 (aW (ak (a_ aD (st.1.1+1)) (cR st.1.1 (bH st.2.1 d).1 (st.2.2.1-1) d).1).1 (a_ aD st.1.1)).1) (ak (a_ aD (st.1.1+1)) (cR st.1.1 (bH st.2.1 d).1 (st.2.2.1-1) d).1).1).2==2 with
     | true=>exact jy _ _ (jj _ _ _ h1)
     | false=>exact jj _ _ _ h1
    exact rR h2 z1
  · have same:fT (Ba st d).1 s=fT d s:=by
     unfold Ba;rw [fB (fun q=>q5 q.symm) (fun q=>q1 q.symm),qj (fun q=>q4 q.symm),lD (fun q=>q3 q.symm),zN (fun q=>q2 q.symm)]
    cases c:fT d s with
    | none=>exact .inr (same.trans c)
    | some t =>
     left;rcases w.on s (by rw [c];rfl) with v | ⟨x,hx,v⟩ | v
     · exact absurd v q1
     · exact ⟨x,hx,.inl v⟩
     · exact ⟨_,eE (by omega),.inr v⟩
 rw [hno] at hs;cases hs
theorem zZ:∀ (rs:ij) (a:Int),(eY rs a).map (·.2.2.1)=rs
 | [],_=>rfl
 | r::rs,a=>by show r::(eY rs _).map (·.2.2.1)=r::rs;rw [zZ rs]
theorem Ny {st:Ty.d aC} {d:Ty.d aA} (h:OP st d) (hF:d.1.length+5<130) (hU:bv d.1+6000≤100000) (hn:LE.le (α:=Int) (st.1.1+2) 100000) :
 (bI st d).2.2=0∧OP (bI st d).1 (bI st d).2.1∧(bI st d).1.2.2.1=st.2.2.1∧bH (bI st d).1.2.1 (bI st d).2.1=bH st.2.1 d:=by
 obtain ⟨L,t,j,lb⟩:=h.mi;have hmi:MI st d:=⟨L,t,j⟩;obtain ⟨hs,hei⟩:=hmi.store;obtain ⟨g1,g2,g3⟩:=bn hs;have hdz:(bH st.2.1 d).2=0:=by rw [lN hs]
 have h20:(bH st.2.1 d).1.length≤20:=by rw [lN hs];show (st.2.1.map _).length≤20;rw [List.length_map];exact g2
 obtain ⟨z,r⟩:=G4 h.rm hs hdz h20 hF hU hn;have hm:=n8 z;have hw:=Ge h.disk h.WK z;obtain ⟨L2,t2,j2⟩:=GV hmi;have hdump:=I3 hm;refine ⟨z,OP.of ⟨L2,t2,j2,?_⟩ hw (E6 r),by rw [hm.form],by rw [hdump,← hdz]⟩;right;have hids:(bI st d).1.1.2.1=[st.1.1,st.1.1+1]:=by rw [hm.form];rfl
 have hbat:(bI st d).1.2.2.1=st.2.2.1:=by rw [hm.form]
 obtain ⟨kr,_⟩:=DJ hs;have e1:=BJ t2;rw [hids] at e1;have e2:mN (bI st d).2.1 st.1.1=uA (st.1.1,fK (bH st.2.1 d).1 (st.2.2.1-1)):=Kb t2.disk (x:=(st.1.1,fK (bH st.2.1 d).1 (st.2.2.1-1))) ⟨hm.text,kr⟩;have hmark:gB 5 (st.2.2.1-1) ((bH st.2.1 d).1.map bz) ∈ (eY (fK (bH st.2.1 d).1 (st.2.2.1-1)) 0).map (·.2.2.1):=by rw [zZ];unfold fK;exact List.mem_append_right _ (List.mem_singleton.2 rfl)
 obtain ⟨s,hs1,hs2⟩:=List.mem_map.1 hmark;refine ⟨(st.1.1,s),?_,?_⟩
 · rw [← e1];show _ ∈ mN (bI st d).2.1 st.1.1++kJ (bI st d).2.1 [st.1.1+1];rw [e2];exact List.mem_append_left _ (List.mem_map.2 ⟨s,hs1,rfl⟩)
 · rw [hbat];have e5:s.2.2.1=gB 5 (st.2.2.1-1) ((bH st.2.1 d).1.map bz):=hs2;show s.2.2.1.2.1=st.2.2.1-1;rw [e5];rfl
theorem yK (l:fL) (key:ByteArray):(qR l key).map (·.1)=(l.map (·.1)).filter fun x=>!(seq x key):=by unfold qR;rw [List.filter_map];rfl
theorem Pe (l:fL) (p:Ty.d ml):(N0 l p).map (·.1)=PW (l.map (·.1)) p.1:=by unfold N0 PW;rw [List.map_append,List.map_cons,List.takeWhile_map,List.dropWhile_map];rfl
theorem Da (b:Int):∀ (puts:dX) (dir:aO) (l:fL),hZ dir=l.map (·.1)→hZ (o6 dir puts (puts.map xR))=(uM l puts b).map (·.1)
 | [],dir,l,h=>by rw [oi];exact h
 | p::puts,dir,l,h=>by
  show hZ (o6 (bif p.2.1 then lH dir p.1 else pb dir (xR p)) puts (puts.map xR))=(uM (Nh l (p.1,(p.2.2.1,(b,()))) p.2.1) puts b).map (·.1);refine Da b puts _ _ ?_;unfold Nh;cases p.2.1 with
  | true=>rw [ae,ae,oC,yK,h]
  | false =>rw [aH,aH];unfold pb;rw [A5,Pe,oC,yK,h];rfl
theorem Ia {dir:aO} {l:fL} (h:hZ dir=l.map (·.1)) (puts:dX) (b:Int):jL dir puts=((uM l puts b).length:Int):=by have:=congrArg List.length (Da b puts dir l h);unfold hZ at this;rw [List.length_map,List.length_map] at this;unfold jL;rw [this]
noncomputable def zw (d:Ty.d aA) (e:Ty.d aB):Ty.d ml:=(e.1,((d6 d e).1.2.2.2.1,((d6 d e).1.2.1,())))
theorem Cc {st:Ty.d aC} {d:Ty.d aA} (h:bo st d=true):hZ st.2.1=(bH st.2.1 d).1.map (·.1):=by rw [lN h];unfold hZ;rw [List.map_map];rfl
theorem Cj {st:Ty.d aC} {d:Ty.d aA} (h:bo st d=true):∀ e ∈ st.2.1,(d6 d e).2=true∧seq (d6 d e).1.2.2.1 e.1=true∧(((d6 d e).1.1==1)||((d6 d e).1.1==4))=true∧@Eq Int (d6 d e).1.2.1 e.2.2.2.2.1:=fun e he=>by unfold bo at h;simp only [gY] at h;obtain ⟨_,_,hdir,_,_,hent⟩:=h;have hin:=List.all_eq_true.1 hent e he;unfold nV at hin;simp only [gY,beq_iff_eq] at hin;exact ⟨hin.1,hin.2.1,hin.2.2.2.1,hin.2.2.1⟩
theorem CZ {d:Ty.d aA} (key:ByteArray):∀ dir:aO,(∀ e ∈ dir,@Eq Int (d6 d e).1.2.1 e.2.2.2.2.1)→BG (MA (dir.map (zw d))) key=BG dir key
 | [],_=>rfl
 | e::dir,h=>by
  have ih:=CZ key dir fun f hf=>h f (jF _ hf)
  unfold BG at ih ⊢;rw [show MA ((e::dir).map (zw d))=(e.1,(0,(0,(0,((d6 d e).1.2.1,())))))::MA (dir.map (zw d)) from rfl,uI.eq_2,uI.eq_2];cases seq e.1 key with
  | true=>exact h e iF
  | false=>exact ih
theorem IU {st:Ty.d aC} {d:Ty.d aA} (h:bo st d=true) (rows:List (Ty.d dt)):l9 rows (MA (bH st.2.1 d).1)=l9 rows st.2.1:=by
 have e:(bH st.2.1 d).1=st.2.1.map (zw d):=by rw [lN h];rfl
 unfold l9;rw [e];congr 1;funext r;rw [CZ r.1 st.2.1 fun e he=>(Cj h e he).2.2.2]
theorem Di {d:Ty.d aA} (key:ByteArray):∀ dir:aO,(∀ e ∈ dir,(d6 d e).2=true∧seq (d6 d e).1.2.2.1 e.1=true∧(((d6 d e).1.1==1)||((d6 d e).1.1==4))=true∧@Eq Int (d6 d e).1.2.1 e.2.2.2.2.1)→kT dir d key=rh (dir.map (zw d)) key
 | [],_=>rfl
 | e::dir,h=>by
  have ih:=Di key dir fun f hf=>h f (jF _ hf)
  unfold kT at ih ⊢;rw [List.map_cons,rh,uI.eq_2,show (zw d e).1=e.1 from rfl];cases c:seq e.1 key with
  | true =>obtain ⟨h1,h2,h3,_⟩:=h e iF;have ek:e.1=key:=cF.1 c;simp only [ae];rw [← ek,h1,h2,h3];rfl
  | false =>simp only [aH];exact ih
theorem Om {st:Ty.d aC} {d:Ty.d aA} (h:bo st d=true) (key:ByteArray):kT st.2.1 d key=rh (bH st.2.1 d).1 key:=by
 have e:(bH st.2.1 d).1=st.2.1.map (zw d):=by rw [lN h];rfl
 rw [e];exact Di key st.2.1 (Cj h)
theorem Nk {a:Ty.d bQ} (h:bN a=true):(aE a).size≤60:=by
 have v1:=bL a.1;have v2:=bL a.2.1;have v3:=bL a.2.2.2.2.1;have t1:=j9 a.2.2.1;have t2:=j9 a.2.2.2.1;unfold aE;rw [if_pos h];split
 · rename_i c;have e:(a.1==1||a.1==4)=true:=by simpa using c
   unfold bN at h;rw [e] at h;simp only [ae,gY,decide_eq_true_eq] at h;have k1:=h.1.2;have k2:=h.2.1;simp only [ByteArray.size_append];omega
 · rename_i c;split
   · rename_i c2;have e:(a.1==1||a.1==4)=false:=by
      cases q:(a.1==1||a.1==4) with
      | false=>rfl
      | true=>exact absurd (by simpa using q) c
     unfold bN at h;rw [e,c2] at h;simp only [aH,beq_self_eq_true,ae,gY,decide_eq_true_eq] at h;have k1:=h.1.2;simp only [ByteArray.size_append];omega
   · simp only [ByteArray.size_append,gu];omega
theorem Lp {a:Ty.d bQ} (h:bN a=true):LE.le (α:=Int) (aS a) 71:=by have h1:=Nk h;have h2:=j9 (aE a);unfold aS aM;rw [if_neg (by omega),ByteArray.size_append,gu];omega
def pot (st:Ty.d aC):Int:=129*max (st.1.2.1.length:Int) 2+st.2.2.2.1
theorem LO {nm:ByteArray} {r:RD} (h:(r.2 != 0)=true):((oG nm r).2 != 0)=true:=by
 unfold oG;cases r.2==2 with
 | false=>exact h
 | true =>
  simp only [ae];cases c:(bX [gT,nm] r.1).2==0 with
  | true=>rfl
  | false=>exact (kq (bX [gT,nm] r.1)).trans (by rw [bne,c];rfl)
theorem Pf (st:Ty.d aC) (d:Ty.d aA):(((gV st d).2.2 != 0)=true∧(gV st d).1.1.2.1=st.1.2.1∧(gV st d).1.2=st.2)∨(((gV st d).2.2 != 0)=false∧(gV st d).1=uu st):=by
 unfold gV;cases decide ((st.1.2.1.length:Int)≥60) with
 | true=>exact .inl ⟨rfl,rfl,rfl⟩
 | false =>
  simp only [aH];cases decide (st.1.1≥100000) with
  | true=>exact .inl ⟨rfl,rfl,rfl⟩
  | false =>
   simp only [aH];cases c1:(cQ d (au st)).2 != 0 with
   | true=>exact .inl ⟨(kq _).trans c1,rfl,rfl⟩
   | false =>
    simp only [aH];cases c2:(ak (a_ aD st.1.1) (cQ d (au st)).1).2 != 0 with
    | true=>exact .inl ⟨(kq _).trans c2,rfl,rfl⟩
    | false =>
     simp only [aH];cases c3:(an (jq st) (ak (a_ aD st.1.1) (cQ d (au st)).1).1).2 != 0 with
     | true=>exact .inl ⟨LO ((kq _).trans c3),rfl,rfl⟩
     | false=>exact .inr ⟨by first | rfl | trivial,rfl⟩
theorem Kp (st:Ty.d aC) (d:Ty.d aA) (r:Ty.d bQ):pot (gh st d r).1.1≤pot st+aS r∧((gh st d r).1.1.1=st.1)∧(st.2.2.2.1≤(gh st d r).1.1.2.2.2.1):=by
 have hr:=kj r;unfold gh;cases (h_ d (au st) (aM (aE r))).2 != 0 with
 | true =>simp only [ae];refine ⟨?_,by first | rfl | trivial,Int.le_refl _⟩;show pot st≤pot st+aS r;have:=hr.1;omega
 | false =>
  simp only [aH];refine ⟨?_,rfl,?_⟩
  · show 129*max (st.1.2.1.length:Int) 2+(st.2.2.2.1+aS r)≤129*max (st.1.2.1.length:Int) 2+st.2.2.2.1+aS r;omega
  · show LE.le (α:=Int) st.2.2.2.1 (st.2.2.2.1+aS r);have:=hr.1;omega
theorem P2 (st:Ty.d aC) (d:Ty.d aA) {r:Ty.d bQ} (h:bN r=true) (h0:LE.le (α:=Int) 0 st.2.2.2.1):pot (da st d r).1.1≤pot st+71∧LE.le (α:=Int) 0 (da st d r).1.1.2.2.2.1:=by
 have hs:=Lp h;have hr:=kj r;unfold da;cases c:decide (st.2.2.2.1 > 0)&&decide (st.2.2.2.1+aS r > 200) with
 | false =>simp only [aH];obtain ⟨a,_,b⟩:=Kp st d r;exact ⟨by omega,Int.le_trans h0 b⟩
 | true =>
  simp only [gY,decide_eq_true_eq] at c;have c2:LT.lt (α:=Int) 200 (st.2.2.2.1+aS r):=c.2;simp only [ae];rcases Pf st d with ⟨z,e1,e2⟩ | ⟨z,e⟩
  · rw [z];simp only [ae];refine ⟨?_,?_⟩
    · show 129*max ((gV st d).1.1.2.1.length:Int) 2+(gV st d).1.2.2.2.1≤_;rw [e1,e2];unfold pot;omega
    · rw [e2];exact h0
  · rw [z];simp only [aH];obtain ⟨a,_,b⟩:=Kp (gV st d).1 (gV st d).2.1 r;rw [e] at a b;have e0:pot (uu st)=129*max ((st.1.2.1.length:Int)+1) 2+0:=by
     show 129*max ((st.1.2.1++[st.1.1]).length:Int) 2+0=_;rw [rt,List.length_singleton];rfl
    have b:LE.le (α:=Int) 0 (gh (uu st) (gV st d).2.1 r).1.1.2.2.2.1:=b;rw [e];refine ⟨Int.le_trans a ?_,b⟩;rw [e0];unfold pot;omega
theorem Hh:∀ (l:ij) (st:Ty.d aC) (d:Ty.d aA) (ps:aT),(∀ r ∈ l,bN r=true)→LE.le (α:=Int) 0 st.2.2.2.1→pot (bR l st d ps).1.1≤pot st+71*(l.length:Int)∧LE.le (α:=Int) 0 (bR l st d ps).1.1.2.2.2.1
 | [],st,d,ps,_,h0=>⟨by simp [bR],h0⟩
 | r::l,st,d,ps,h,h0=>by
  obtain ⟨a,b⟩:=P2 st d (h r iF) h0;rw [bR,kM];cases (da st d r).1.2.2 != 0 with
  | true =>simp only [ae];exact ⟨by omega,b⟩
  | false =>simp only [aH];obtain ⟨x,y⟩:=Hh l (da st d r).1.1 (da st d r).1.2.1 (ps++[(da st d r).2]) (fun q hq=>h q (jF _ hq)) b;exact ⟨by omega,y⟩
theorem MM {st:Ty.d aC} {d:Ty.d aA} {l:dX} (hp:bw l=true) (h0:LE.le (α:=Int) 1 st.2.2.1) (hb:LE.le (α:=Int) st.2.2.1 1000000) (hz:LE.le (α:=Int) 0 st.2.2.2.1):pot (bS st d l).1≤pot st+71*((l.length:Int)+1)∧LE.le (α:=Int) 0 (bS st d l).1.2.2.2.1:=by
 obtain ⟨a,b⟩:=Hh (bf l st.2.2.1) (iV st) d [] (nu hp h0 hb) hz;have e:((bf l st.2.2.1).length:Int)=(l.length:Int)+1:=by unfold bf;rw [rt,List.length_map,List.length_singleton];rfl
 rw [e] at a;have a:pot (bR (bf l st.2.2.1) (iV st) d []).1.1≤pot st+71*((l.length:Int)+1):=a;unfold bS rH;cases (bR (bf l st.2.2.1) (iV st) d []).1.2.2 != 0 with
 | true=>exact ⟨a,b⟩
 | false =>
  simp only [aH];cases (cQ (bR (bf l st.2.2.1) (iV st) d []).1.2.1 (au (bR (bf l st.2.2.1) (iV st) d []).1.1)).2 != 0 with
  | true=>exact ⟨a,b⟩
  | false=>exact ⟨a,b⟩
theorem QE {st:Ty.d aC} {n:Int} (h:pot st≤258+71*n) (hz:LE.le (α:=Int) 0 st.2.2.2.1) (hn:n≤82):st.1.2.1.length≤48:=by unfold pot at h;omega
theorem CO:∀ (l N:List ByteArray),l.Pairwise (·≠·)→(∀ x ∈ l,x ∈ N)→l.length≤N.length
 | [],_,_,_=>Nat.zero_le _
 | x::l,N,h,hs=>by
  obtain ⟨a,b,rfl⟩:=List.append_of_mem (hs x iF);rw [List.pairwise_cons] at h;have:=CO l (a++b) h.2 fun y hy=>by
   have hy2:=hs y (jF _ hy);rw [List.mem_append,List.mem_cons] at hy2;rw [List.mem_append];rcases hy2 with q | q | q
   · exact .inl q
   · exact absurd q.symm (h.1 y hy)
   · exact .inr q
  rw [rt] at this;rw [rt,kM,kM];omega
theorem AB {d:Ty.d aA} (h:DR d) {N:List ByteArray} (hs:∀ f ∈ d.1,f.1 ∈ N):d.1.length≤N.length:=by
 have:=CO (je d.1) N (List.Pairwise.imp (fun {a b} q e=>by rw [e,ly] at q;cases q) h.keys) fun x hx=>by obtain ⟨f,hf,e⟩:=List.mem_map.1 hx;rw [← e];exact hs f hf
 unfold je at this
 rwa [List.length_map] at this
theorem OP.files {st:Ty.d aC} {d:Ty.d aA} (h:OP st d):d.1.length≤st.1.2.1.length+2:=by
 have:=AB h.disk (N:=c_::a_ bG (st.1.2.1.getD 0 0)::st.1.2.1.map (a_ aD)) fun f hf=>by
  rcases h.only f hf with q | ⟨x,hx,q⟩ | q
  · rw [q];exact iF
  · rw [q];exact jF _ (jF _ (List.mem_map_of_mem hx))
  · rw [q];exact jF _ iF
 rw [kM,kM,List.length_map] at this;omega
theorem KO {B:Nat}:∀ l:ao,(∀ f ∈ l,f.2.1.size≤B)→bv l≤B*l.length
 | [],_=>Nat.zero_le _
 | f::l,h=>by
  have ih:=KO l fun g hg=>h g (jF _ hg)
  have h1:=h f iF;rw [kM,Nat.mul_succ];show f.2.1.size+bv l≤_;omega
theorem LR {st:Ty.d aC} {d:Ty.d aA} {l:dX} (h:OP st d) (hp:bw l=true) (hb:LE.le (α:=Int) st.2.2.1 1000000) (hF:d.1.length+20<130) (hU:bv d.1+4000≤100000) (hi:st.1.2.1.length≤50) (hn:LE.le (α:=Int) st.1.1 99000) :
 bv (bS st d l).2.1.1≤bv d.1+421*(l.length+1)∧LE.le (α:=Int) (bS st d l).1.1.1 (st.1.1+((l.length:Int)+1)):=by
 obtain ⟨L,t,j,lb⟩:=h.mi;have hmi:MI st d:=⟨L,t,j⟩;obtain ⟨hs,hei⟩:=hmi.store;obtain ⟨g1,g2,g3⟩:=bn hs;have hBT:=sv hs;have hl8:=mA hp;have hlen:(bf l st.2.2.1).length=l.length+1:=by unfold bf;rw [rt,List.length_map,List.length_singleton]
 obtain ⟨a1,a2,a3,a4⟩:=EC (bf l st.2.2.1) (iV st) d [] d.1.length (bv d.1) h.rm ⟨hBT.live,hBT.disk,hBT.full,hBT.tail⟩ (nu hp g3 hb) (by omega) (by omega) (by show st.1.2.1.length+_≤60;omega) (by show LE.le (α:=Int) (st.1.1+_) 100000;omega);obtain ⟨hB,_⟩:=yx (bf l st.2.2.1) (iV st) d [] ⟨hBT.live,hBT.disk,hBT.full,hBT.tail⟩ (nu hp g3 hb) (fun x hx=>by cases hx) a2;have a4:LE.le (α:=Int) (bR (bf l st.2.2.1) (iV st) d []).1.1.1.1 (st.1.1+((bf l st.2.2.1).length:Int)):=a4;unfold bS;generalize bR (bf l st.2.2.1) (iV st) d []=q at a1 a2 a3 a4 hB ⊢;obtain ⟨_,_,k1,_,_⟩:=bD (nx:=q.1.1.1.1) (ids:=q.1.1.1.2.1) hB.live;have hlast:aQ q.1.1.1.2.1 ∈ q.1.1.1.2.1:=by have hs:=jA k1;rw [hs];exact List.mem_append_right _ (List.mem_singleton.2 (by rw [← hs]))
 obtain ⟨t,ht,_⟩:=hB.full _ hlast;obtain ⟨y1,y2⟩:=xN a1 (s:=au q.1.1) (by rw [show fT q.1.2.1 (au q.1.1)=some t from ht];rfl);unfold rH;rw [show (q.1.2.2 != 0)=false by rw [a2];rfl,y2];rw [hlen] at y1 a4;refine ⟨y1.use,?_⟩;show LE.le (α:=Int) q.1.1.1.1 (st.1.1+((l.length:Int)+1));refine Int.le_trans a4 (Int.le_of_eq ?_);rw [Int.natCast_add];rfl
theorem Iu {m:Int} {b:Ty.d aA} (hd:DR b) (z:(fy (qZ m) m b).2=0) {t:ByteArray} (h:fT (fy (qZ m) m b).1 (a_ bG m)=some t):t.size≤904:=by
 unfold fy at z h;cases c:(jw (a_ bG m) (qZ m (aW b (a_ aD m)).1) b).2==2 with
 | true =>rw [c] at z h;simp only [ae] at z h;rw [qs _ _ (jj _ _ _ hd) z (.inl iF)] at h;cases h
 | false =>
  rw [c] at z h;simp only [aH] at z h;rw [Gc z] at h;injection h with h;rw [← h];exact pq _
theorem Fa {st:Ty.d aC} {d:Ty.d aA} (z:(bI st d).2.2=0):(fy (qZ st.1.1) st.1.1 (ak (a_ aD (st.1.1+1)) (cR st.1.1 (bH st.2.1 d).1 (st.2.2.1-1) d).1).1).2=0:=by
 have hm:=n8 z;obtain ⟨g1,_,_⟩:=bn hm.store;obtain ⟨n1,n2,n3,_⟩:=fk (n:=st.1.1) (ids:=st.1.2.1) g1.live;have e:bI st d=bT (qZ st.1.1) st d (bH st.2.1 d).1:=by unfold bI;rw [hm.store,aZ (show ¬ st.1.1+2 > (100000:Int) from Int.not_lt.2 hm.hi),hm.dump];rfl
 have hf:=hm.form;rw [e] at hf z;have hne:pV st≠(ez st.1.1,(gy st.1.1 (bH st.2.1 d).1 0,(st.2.2.1,(0,(0,()))))):=fun w=>by have w2:(st.1.1+2,st.1.2)=ez st.1.1:=congrArg (fun s:Ty.d aC=>s.1) w;have h3:st.1.2.1=[st.1.1,st.1.1+1]:=congrArg (fun v:Ty.d cC=>v.2.1) w2;have:=(n3 st.1.1 (by rw [h3];exact iF)).2;exact absurd this (Int.lt_irrefl _)
 unfold bT at hf;generalize cR st.1.1 (bH st.2.1 d).1 (st.2.2.1-1) d=a at hf ⊢;generalize ak (a_ aD (st.1.1+1)) a.1=b at hf ⊢;generalize fy (qZ st.1.1) st.1.1 b.1=c at hf ⊢;cases c1:a.2 != 0 with
 | true=>rw [c1] at hf;exact absurd hf hne
 | false =>
  rw [c1] at hf;simp only [aH] at hf;cases c2:b.2 != 0 with
  | true=>rw [c2] at hf;exact absurd hf hne
  | false =>
   rw [c2] at hf;simp only [aH] at hf;cases c3:c.2 != 0 with
   | true=>rw [c3] at hf;exact absurd hf hne
   | false=>exact dY c3
theorem Lx {st:Ty.d aC} {d:Ty.d aA} (hd:DR d) (w:WK st d) (h20:(bH st.2.1 d).1.length≤20) (z:(bI st d).2.2=0):bv (bI st d).2.1.1≤18000:=by
 have hm:=n8 z;have hw:=Ge hd w z;obtain ⟨z1,e,z2⟩:=AG z;have zh:=Fa z;have hn:=Kx (st:=st) hd;have hids:(bI st d).1.1.2.1=[st.1.1,st.1.1+1]:=by rw [hm.form];rfl
 have on:∀ f ∈ (bI st d).2.1.1,fT (bI st d).2.1 f.1=some f.2.1:=fun f hf=>by unfold fT;rw [v_ hm.disk.keys hf];rfl
 have cls:∀ f ∈ (bI st d).2.1.1,f.1=c_∨(∃ x ∈ [st.1.1,st.1.1+1],f.1=a_ aD x)∨f.1=a_ bG st.1.1:=fun f hf=>by have:=hw.on f.1 (by rw [on f hf];rfl);rw [hids] at this;exact this
 have len:(bI st d).2.1.1.length≤4:=AB hm.disk (N:=[c_,a_ aD st.1.1,a_ aD (st.1.1+1),a_ bG st.1.1]) fun f hf=>by
  rcases cls f hf with q | ⟨x,hx,q⟩ | q
  · rw [q];simp
  · rw [q];rcases List.mem_cons.1 hx with v | v
    · rw [v];simp
    · rw [List.mem_singleton.1 v];simp
  · rw [q];simp
 have small:∀ f ∈ (bI st d).2.1.1,f.2.1.size≤4500:=fun f hf=>by
  have ho:=on f hf;rcases cls f hf with q | ⟨x,hx,q⟩ | q
  · rw [q,hm.live] at ho;injection ho with ho;rw [← ho];have:=sd (ez st.1.1);omega
  · rcases List.mem_cons.1 hx with v | v
    · rw [q,v,hm.text] at ho;injection ho with ho;rw [← ho];have h1:=wM (fK (bH st.2.1 d).1 (st.2.2.1-1));have h2:(fK (bH st.2.1 d).1 (st.2.2.1-1)).length=(bH st.2.1 d).1.length+1:=by
       unfold fK;rw [rt,List.length_map,List.length_singleton]
      omega
    · rw [q,List.mem_singleton.1 v,hm.next] at ho;injection ho with ho;rw [← ho];exact Nat.zero_le _
  · rw [q,e] at ho;have hold:¬ ∃ x ∈ st.1.2.1,a_ bG st.1.1=a_ aD x∨a_ bG st.1.1=a_ bG x:=fun hx=>by
     rw [A8 _ _ hn z2 (.inl hx)] at ho;cases ho
    rw [ud st.1.2.1 _ fun x hx=>⟨fun v=>hold ⟨x,hx,.inl v.symm⟩,fun v=>hold ⟨x,hx,.inr v.symm⟩⟩] at ho;have hb:=j8 (a_ aD (st.1.1+1)) _ (sD st.1.1 (bH st.2.1 d).1 (st.2.2.1-1) hd);have hin:∀ n:Int,1≤n→n+2≤100000→1≤n∧n≤100000:=by omega
    have m1:=hin st.1.1 hm.lo hm.hi;have q5:gT≠a_ bG st.1.1:=fun v=>CM m1 v.symm
    have q6:c_≠a_ bG st.1.1:=fun v=>CX m1 v.symm
    unfold Ba at ho;rw [fB q5 q6] at ho;have:=Iu hb zh ho;omega
 have:=KO _ small;have h4:=Nat.mul_le_mul_left 4500 len;omega
structure BD (n p:Int) (st:Ty.d aC) (d:Ty.d aA):Prop where
 op:OP st d
 pot:pot st+71*p≤258+71*n
 size:LE.le (α:=Int) 0 st.2.2.2.1
 use:(bv d.1:Int)+421*p≤18000+421*n
 next:LE.le (α:=Int) (st.1.1+p) (2+2*n)
 bat:LE.le (α:=Int) st.2.2.1 (1+n)
 p0:0≤p
theorem QC {st:Ty.d aC} (h:LE.le (α:=Int) 0 st.2.2.2.1):258≤pot st:=by unfold pot;omega
theorem BD.pn {n p:Int} {st:Ty.d aC} {d:Ty.d aA} (h:BD n p st d):p≤n:=by have h1:=QC h.size;have h2:=h.pot;omega
theorem BD.mono {n p n' p':Int} {st:Ty.d aC} {d:Ty.d aA} (h:BD n p st d) (hp:p'-p≤n'-n) (hn:n≤n') (h0:0≤p'):BD n' p' st d:=by
 obtain ⟨h1,h2,h3,h4,h5,h6,h7⟩:=h;have h5':LE.le (α:=Int) st.1.1 (2+2*n-p):=by omega
 refine ⟨h1,by omega,h3,by omega,?_,?_,h0⟩
 · have:2+2*n-p≤2+2*n'-p':=by omega
   have:=Int.le_trans h5' this;omega
 · exact Int.le_trans h6 (by omega)
theorem BD.room {n p:Int} {st:Ty.d aC} {d:Ty.d aA} (h:BD n p st d) (hn:n≤82):d.1.length+20<130∧bv d.1+6000≤100000∧st.1.2.1.length≤48∧LE.le (α:=Int) st.1.1 99000∧LE.le (α:=Int) st.2.2.1 1000000:=by have hp:=h.p0;have hi:=QE (st:=st) (n:=n-p) (by have:=h.pot;omega) h.size (by omega);have hf:=h.op.files;have hu:=h.use;have hx:=h.next;have hb:=h.bat;exact ⟨by omega,by omega,hi,by omega,by omega⟩
theorem BD.write {n p:Int} {st:Ty.d aC} {d:Ty.d aA} {l:dX} (h:BD n p st d) (hn:n≤82) (hp:bw l=true) (ha:jL st.2.1 l≤20) (hl:(l.length:Int)≤p) :
 (bS st d l).2.2=0∧BD (n+1) (p-l.length) (bS st d l).1 (bS st d l).2.1∧(bS st d l).1.2.2.1=st.2.2.1+1:=by
 obtain ⟨r1,r2,r3,r4,r5⟩:=h.room hn;obtain ⟨z,o,b⟩:=NA h.op hp r5 ha r1 (by omega) (by omega) r4;obtain ⟨u1,u2⟩:=LR h.op hp r5 r1 (by omega) (by omega) r4;obtain ⟨hs,_⟩:=h.op.MI.store;obtain ⟨_,_,g3⟩:=bn hs;obtain ⟨w1,w2⟩:=MM (d:=d) hp g3 r5 h.size;have h2:=h.pot;have h4:=h.use;have h5:=h.next;have h6:=h.bat;refine ⟨z,⟨o,by omega,w2,by omega,?_,?_,by omega⟩,b⟩
 · have h5':LE.le (α:=Int) st.1.1 (2+2*n-p):=by omega
   have key:∀ x y q:Int,x≤y+(q+1)→y≤2+2*n-p→x+(p-q)≤2+2*(n+1):=by omega
   exact key _ _ _ u2 h5'
 · rw [b];have key:∀ x:Int,x≤1+n→x+1≤1+(n+1):=by omega
   exact key _ h6
theorem BD.merge {n p:Int} {st:Ty.d aC} {d:Ty.d aA} (h:BD n p st d) (hn:n≤82) :
 (bI st d).2.2=0∧BD (n+1) p (bI st d).1 (bI st d).2.1∧(bI st d).1.2.2.1=st.2.2.1∧bH (bI st d).1.2.1 (bI st d).2.1=bH st.2.1 d:=by
 obtain ⟨r1,r2,r3,r4,r5⟩:=h.room hn;have hpn:=h.pn;have hp0:=h.p0;have nk:∀ x:Int,x≤99000→x+2≤100000:=by omega
 obtain ⟨z,o,b,e⟩:=Ny h.op (by omega) r2 (nk _ r4);obtain ⟨hs,_⟩:=h.op.MI.store;obtain ⟨g1,g2,g3⟩:=bn hs;have h20:(bH st.2.1 d).1.length≤20:=by rw [lN hs];show (st.2.1.map _).length≤20;rw [List.length_map];exact g2
 have hu:=Lx h.op.disk h.op.WK h20 z;have hm:=n8 z;have ep:G.pot (bI st d).1=258:=by rw [hm.form];rfl
 have e1:(bI st d).1.1.1=st.1.1+2:=by rw [hm.form];rfl
 have e2:(bI st d).1.2.2.2.1=(0:Int):=by rw [hm.form]
 have h5:=h.next;have h6:=h.bat;refine ⟨z,⟨o,by rw [ep];omega,by rw [e2];exact Int.le_refl _,by omega,?_,?_,hp0⟩,b,e⟩
 · rw [e1];have key:∀ x:Int,x+p≤2+2*n→x+2+p≤2+2*(n+1):=by omega
   exact key _ h5
 · rw [b];exact Int.le_trans h6 (by omega)
def QS (e x:Ty.d aP):Prop:=x.1=e.1∧x.2.1=e.2.1∧x.2.2.1=e.2.2.1
theorem qd (e:Ty.d aP):QS e e:=⟨rfl,rfl,rfl⟩
theorem QK (e:Ty.d aP) (s:Ty.d d5):QS e (tG e s).1:=by
 unfold tG;cases !fg s.2.2.1 with
 | true=>exact qd e
 | false =>
  rw [aH];cases lr (dS e s.2.1).2.2.1 s.2.2.1 with
  | some p =>show QS e (bif p.2.1 then (e,eX 8) else (e,(0,(p.2.2.1,([],())))):uB).1;cases p.2.1 <;> exact qd e
  | none =>
   show QS e (vo e s (dS e s.2.1) (kT e.2.1.2.1 e.2.2.1 s.2.2.1)).1;unfold vo;cases (kT e.2.1.2.1 e.2.2.1 s.2.2.1).2==3 with
   | true=>exact qd e
   | false =>rw [aH];cases (jH (dS e s.2.1) s.2.2.1 (kT e.2.1.2.1 e.2.2.1 s.2.2.1).1.2.2.1).2 != 0 <;> exact ⟨rfl,rfl,rfl⟩
theorem PX (e:Ty.d aP) (s:Ty.d d5):QS e (sf e s).1:=by
 unfold sf;cases !bw [nO s] with
 | true=>exact qd e
 | false =>rw [aH];cases !(gZ (dS e s.2.1) (nO s)).2 <;> exact ⟨rfl,rfl,rfl⟩
theorem I2 (st:Ty.d aC) (d:Ty.d aA):(bm st d []).1=st∧(bm st d []).2.1=d:=by
 unfold bm;cases !bo st d with
 | true=>exact ⟨rfl,rfl⟩
 | false =>rw [aH];cases !bw [] <;> exact ⟨rfl,rfl⟩
theorem Ij {e:Ty.d aP} {s:Ty.d d5} (h:(dS e s.2.1).2.2.1=[]):QS e (iQ e s).1:=by
 unfold iQ;rw [h,show jd []=[] from rfl];obtain ⟨h1,h2⟩:=I2 e.2.1 e.2.2.1;cases !l9 (dS e s.2.1).2.1 e.2.1.2.1 with
 | true=>exact ⟨rfl,rfl,rfl⟩
 | false=>exact ⟨rfl,h1,h2⟩
theorem Pn {e:Ty.d aP} {s:Ty.d d5} (h:s.1=5→(dS e s.2.1).2.2.1=[]):QS e (nM e s).1:=by
 unfold nM;cases s.1==1 with
 | true=>exact ⟨rfl,rfl,rfl⟩
 | false =>
  cases s.1==6 with
  | true=>exact ⟨rfl,rfl,rfl⟩
  | false =>
   cases s.1==2 with
   | true=>exact QK e s
   | false =>
    cases c:s.1==5 with
    | true=>exact Ij (h (BU c))
    | false=>exact PX e s
theorem R7 {e:Ty.d aP} {s:Ty.d d5} (h:s.1=5→(dS e s.2.1).2.2.1=[]) (h7:s.1≠7) (h9:s.1≠9) (h10:s.1≠10) (h11:s.1≠11):QS e (dA e s).1:=by
 unfold dA;rw [pG h7,pG h9,pG h10,pG h11];simp only [aH];cases !e.1 with
 | true=>exact qd e
 | false =>
  cases s.1==8 with
  | true=>exact qd e
  | false =>
   cases !qp e s with
   | true=>exact qd e
   | false=>exact Pn h
def UQ (t:Ty.d bO):Prop:=t.2.1.Pairwise fun a b=>a.1≠b.1
theorem Jg:UQ rk:=List.Pairwise.nil
theorem OV {key:ByteArray}:∀ {l:List (Ty.d dt)},mI l key=none→∀ r ∈ l,r.1≠key:=by intro l h r hr q;unfold mI at h;rw [Option.map_eq_none_iff] at h;have:=List.find?_eq_none.1 h r hr;rw [H9 q] at this;exact this rfl
theorem Hd {t:Ty.d bO} (h:UQ t) (key:ByteArray) (b:Int):UQ (jH t key b).1:=by
 unfold jH;cases !t.1 with
 | true=>exact h
 | false =>
  cases !fg key with
  | true=>exact h
  | false =>
   simp only [aH];cases c:mI t.2.1 key with
   | some b'=>exact h
   | none =>
    show UQ (bif decide ((t.2.1.length:Int)≥20) then (t,5) else ((t.1,(t.2.1++[(key,(b,()))],t.2.2)),0):Ty.d bO × Int).1;cases decide ((t.2.1.length:Int)≥20) with
    | true=>exact h
    | false =>
     show (t.2.1++[(key,(b,()))]).Pairwise fun a b=>a.1≠b.1
     refine List.pairwise_append.2 ⟨h,List.pairwise_singleton _ _,fun x hx y hy=>?_⟩;rw [List.mem_singleton.1 hy];exact OV c x hx
theorem Dh {t:Ty.d bO} (h:UQ t) (p:Ty.d bF):UQ (gZ t p).1:=by
 unfold gZ;cases !t.1 with
 | true=>exact h
 | false =>
  cases !bw [p] with
  | true=>exact h
  | false =>
   cases decide (((jd (t.2.2.1++[p])).length:Int) > 8) with
   | true=>exact h
   | false=>cases decide (((t.2.2.1++[p]).length:Int) > 50) <;> exact h
def UE (e:Ty.d aP):Prop:=∀ t ∈ e.2.2.2.1,UQ t
theorem FH {e:Ty.d aP} (h:UE e) (i:Int):UQ (dS e i):=by
 unfold dS;by_cases c:i.toNat<e.2.2.2.1.length
 · exact h _ (eE c)
 · have:e.2.2.2.1.getD i.toNat (Ty.z bO)=Ty.z bO:=by simp [List.getD,c]
   rw [this];exact List.Pairwise.nil
theorem zu {e:Ty.d aP} (h:UE e) (i:Int) {t:Ty.d bO} (ht:UQ t):UE (uE e i t):=fun x hx=>by
 rcases List.mem_or_eq_of_mem_set (show x ∈ e.2.2.2.1.set i.toNat t from hx) with q | q
 · exact h x q
 · rw [q];exact ht
theorem I8:∀ t ∈ List.replicate 3 (Ty.z bO),UQ t:=fun t ht=>by rw [List.eq_of_mem_replicate ht];exact List.Pairwise.nil
theorem PP {e:Ty.d aP} (h:UE e) (s:Ty.d d5):UE (nM e s).1:=by
 unfold nM;cases s.1==1 with
 | true=>exact zu h _ List.Pairwise.nil
 | false =>
  cases s.1==6 with
  | true=>exact zu h _ Jg
  | false =>
   cases s.1==2 with
   | true =>
    show UE (tG e s).1;unfold tG;cases !fg s.2.2.1 with
    | true=>exact h
    | false =>
     rw [aH];cases lr (dS e s.2.1).2.2.1 s.2.2.1 with
     | some p =>show UE (bif p.2.1 then (e,eX 8) else (e,(0,(p.2.2.1,([],())))):uB).1;cases p.2.1 <;> exact h
     | none =>
      show UE (vo e s (dS e s.2.1) (kT e.2.1.2.1 e.2.2.1 s.2.2.1)).1;unfold vo;cases (kT e.2.1.2.1 e.2.2.1 s.2.2.1).2==3 with
      | true=>exact h
      | false =>
       rw [aH];cases (jH (dS e s.2.1) s.2.2.1 (kT e.2.1.2.1 e.2.2.1 s.2.2.1).1.2.2.1).2 != 0 with
       | true=>exact h
       | false=>exact zu h _ (Hd (FH h _) _ _)
   | false =>
    cases s.1==5 with
    | true =>show UE (iQ e s).1;unfold iQ;cases !l9 (dS e s.2.1).2.1 e.2.1.2.1 <;> exact zu h s.2.1 Jg
    | false =>
     show UE (sf e s).1;unfold sf;cases !bw [nO s] with
     | true=>exact h
     | false =>
      rw [aH];cases !(gZ (dS e s.2.1) (nO s)).2 with
      | true=>exact h
      | false=>exact zu h _ (Dh (FH h _) _)
theorem RR {e:Ty.d aP} (h:UE e) (s:Ty.d d5):UE (dA e s).1:=by
 unfold dA;cases s.1==10 with
 | true =>
  cases e.1 with
  | true=>exact h
  | false=>exact I8
 | false =>
  cases s.1==11 with
  | true =>show UE (AR e s).1;unfold AR;cases !decide (0≤s.2.2.2.2.1∧s.2.2.2.2.1≤100000-(bv e.2.2.1.1:Int)) <;> exact h
  | false =>
   cases !e.1 with
   | true=>exact h
   | false =>
    cases s.1==7 with
    | true=>exact h
    | false =>
     cases s.1==8 with
     | true=>exact h
     | false =>
      cases s.1==9 with
      | true=>exact I8
      | false =>
       cases !qp e s with
       | true=>exact h
       | false=>exact PP h s
theorem wL (k:Nat) {t:Ty.d bO} (h:TV t):eU.f k t=some (t,()):=by obtain ⟨h1,h2⟩:=h;unfold eU.f eU.t jZ.f jZ.t;rw [dT (by omega) (by decide),dT (by omega) (by decide)];rfl
theorem J_ {k:Nat} (hk:2 ^ 50≤k) {t:Ty.d bO} (h:t.2.2.1.length≤1000) (key:ByteArray):eM.f k t key=some (GB (lr t.2.2.1 key)):=by
 have loop:∀ (m n:Nat) (i:Int),i+1=(m:Int)→m<n→m≤t.2.2.1.length→eM.l0 k n key i t.1 t.2.1 t.2.2.1 ByteArray.empty false ByteArray.empty=some (GB (lr (t.2.2.1.take m) key)):=by
  intro m
  induction m with
  | zero =>intro n i hi hn hm;obtain ⟨n,rfl⟩:∃ q,n=q+1:=⟨n-1,by omega⟩;simp only [eM.l0,eM.b0];rw [aZ (by omega),aH];rfl
  | succ m ih =>
   intro n i hi hn hm;obtain ⟨n,rfl⟩:∃ q,n=q+1:=⟨n-1,by omega⟩;have hw:aU (i-1)=i-1:=aG (by omega) (by omega);have hi2:i.toNat=m:=by omega
   simp only [eM.l0,eM.b0,hw];rw [aX (by omega),ae,aY (by omega) (by omega),aY (by omega) (by omega),ih n (i-1) (by omega) (by omega) (by omega),CV (Ty.z bF) (by omega),Aq,hi2];cases seq (List.getD t.2.2.1 m (Ty.z bF)).1 key <;> rfl
 unfold eM.f eM.t;rw [aG (n:=(t.2.2.1.length:Int)-1) (by omega) (by omega),loop t.2.2.1.length k _ (by omega) (by omega) (Nat.le_refl _),List.take_length]
def xn:dX→Ty.d bF→dX
 | [],p=>[p]
 | q::l,p=>bif seq q.1 p.1 then p::l else q::xn l p
def s9 (key:ByteArray):dX→Int→Int→Int
 | [],_,at_=>at_
 | q::l,j,at_=>s9 key l (j+1) (bif seq q.1 key then j else at_)
theorem wt {key:ByteArray}:∀ (l:dX) (j at_:Int),(∀ q ∈ l,q.1≠key)→s9 key l j at_=at_
 | [],_,_,_=>rfl
 | q::l,j,at_,h=>by unfold s9;rw [jr (h q iF),aH,wt l _ _ fun x hx=>h x (jF _ hx)]
theorem zK (p:Ty.d bF):∀ l:dX,l.Pairwise (fun a b=>a.1≠b.1)→((∀ q ∈ l,q.1≠p.1)∧xn l p=l++[p])∨∃ a q c,l=a++q::c∧xn l p=a++p::c∧∀ j at_:Int,s9 p.1 l j at_=j+(a.length:Int)
 | [],_ => .inl ⟨fun q h=>(by cases h),rfl⟩
 | q::l,h=>by
  obtain ⟨h1,h2⟩:=List.pairwise_cons.1 h;unfold xn;cases c:seq q.1 p.1 with
  | true =>refine .inr ⟨[],q,l,rfl,rfl,fun j at_=>?_⟩;unfold s9;rw [c,ae,wt l _ _ fun x hx w=>h1 x hx (by rw [w];exact cF.1 c)];show j=j+((0:Nat):Int);omega
  | false =>
   have hq:q.1≠p.1:=fun w=>by rw [H9 w] at c;cases c
   rcases zK p l h2 with ⟨g1,g2⟩ | ⟨a,x,y,g1,g2,g3⟩
   · refine .inl ⟨fun x hx=>?_,by rw [aH,g2];rfl⟩;rcases List.mem_cons.1 hx with w | w
     · rw [w];exact hq
     · exact g1 x w
   · refine .inr ⟨q::a,x,y,by rw [g1];rfl,by rw [aH,g2];rfl,fun j at_=>?_⟩;unfold s9;rw [c,aH,g3,kM];omega
theorem Pp {a c:dX} {q p:Ty.d bF}:(a++q::c).set a.length p=a++p::c:=by simp
theorem Mt (p:Ty.d bF) {l:dX} (h:l.Pairwise fun a b=>a.1≠b.1):(bif decide (s9 p.1 l 0 (-1)≥0) then l.set (s9 p.1 l 0 (-1)).toNat p else l++[p])=xn l p:=by
 rcases zK p l h with ⟨g1,g2⟩ | ⟨a,x,y,g1,g2,g3⟩
 · rw [wt l 0 (-1) g1,g2];rfl
 · rw [g3,g2,aX (by omega),ae,Int.zero_add,Int.toNat_natCast,g1,Pp]
theorem yC:∀ w:dX,(qL w).Pairwise (·≠·):=by
 have key:∀ (w:dX) (ks:List ByteArray),ks.Pairwise (·≠·)→(w.foldl (fun ks p=>bif pF ks p.1 then ks else ks++[p.1]) ks).Pairwise (·≠·):=by
  intro w
  induction w with
  | nil=>exact fun ks h=>h
  | cons p w ih =>
   intro ks h;rw [List.foldl_cons];refine ih _ ?_;cases c:pF ks p.1 with
   | true=>exact h
   | false =>rw [aH];refine List.pairwise_append.2 ⟨h,List.pairwise_singleton _ _,fun x hx y hy q=>?_⟩;rw [List.mem_singleton.1 hy] at q;unfold pF at c;rw [List.any_eq_false] at c;exact c x hx (H9 q)
 exact fun w=>key w [] List.Pairwise.nil
theorem Ki {w:dX} {s:ByteArray}:(w.any fun p=>seq p.1 s)=true→∃ q,lr w s=some q∧q.1=s:=by
 induction w with
 | nil=>intro h;cases h
 | cons p w ih =>
  intro h;rw [List.any_cons] at h;unfold lr;cases c:lr w s with
  | some q =>
   cases d:w.any fun p=>seq p.1 s with
   | true =>obtain ⟨q',e1,e2⟩:=ih d;rw [c] at e1;cases e1;exact ⟨q,rfl,e2⟩
   | false =>
    exfalso;have:∀ w:dX,(w.any fun p=>seq p.1 s)=false→lr w s=none:=by
     intro w
     induction w with
     | nil=>intro _;rfl
     | cons x w ih2 =>intro hx;rw [List.any_cons,Bool.or_eq_false_iff] at hx;unfold lr;rw [ih2 hx.2,hx.1];rfl
    rw [this w d] at c;cases c
  | none =>
   cases d:seq p.1 s with
   | true=>exact ⟨p,rfl,cF.1 d⟩
   | false =>rw [d,Bool.false_or] at h;obtain ⟨q',e1,_⟩:=ih h;rw [c] at e1;cases e1
theorem Ax {w:dX} {s:ByteArray} (h:s ∈ qL w):(GB (lr w s)).1.1=s:=by
 have hh:pF (qL w) s=true:=by unfold pF;rw [List.any_eq_true];exact ⟨s,h,bB s⟩
 rw [Cb] at hh;obtain ⟨q,e1,e2⟩:=Ki hh;rw [e1];exact e2
theorem I_ (w:dX):(jd w).Pairwise fun a b=>a.1≠b.1:=by
 unfold jd;rw [List.pairwise_map];refine (yC w).imp_of_mem fun ha hb q=>?_
 rw [Ax ha,Ax hb];exact q
theorem GA {g:ByteArray→Ty.d bF} (p:Ty.d bF):∀ ks:List ByteArray,(∀ s ∈ ks,(g s).1=s)→ks.Pairwise (·≠·)→xn (ks.map g) p=ks.map (fun s=>bif seq p.1 s then p else g s)++bif pF ks p.1 then [] else [p]
 | [],_,_=>rfl
 | s::ks,h,hn=>by
  obtain ⟨n1,n2⟩:=List.pairwise_cons.1 hn;have ih:=GA p ks (fun x hx=>h x (jF _ hx)) n2;rw [List.map_cons,List.map_cons];have e:pF (s::ks) p.1=(seq s p.1||pF ks p.1):=List.any_cons;rw [e];unfold xn;rw [h s iF];cases c:seq s p.1 with
  | true =>
   have es:s=p.1:=cF.1 c;rw [ae,← es,bB,ae,Bool.true_or,ae,List.append_nil];congr 1;refine List.map_congr_left fun x hx=>?_
   rw [jr (n1 x hx),aH]
  | false =>
   have es:p.1≠s:=fun w=>by rw [H9 w.symm] at c;cases c
   rw [aH,ih,jr es,aH,Bool.false_or];rfl
theorem LL (w:dX) (p:Ty.d bF):jd (w++[p])=xn (jd w) p:=by
 unfold jd;rw [GA p (qL w) (fun s hs=>Ax hs) (yC w),I4];have e:(fun s=>(GB (lr (w++[p]) s)).1)=fun s=>bif seq p.1 s then p else (GB (lr w s)).1:=by funext s;rw [Aq];cases seq p.1 s <;> rfl
 rw [e];cases pF (qL w) p.1 with
 | true=>rw [ae,ae,List.append_nil]
 | false =>rw [aH,aH,List.map_append];congr 1;show [bif seq p.1 p.1 then p else _]=[p];rw [bB];rfl
theorem Il {k:Nat} (hk:2 ^ 50≤k) {w:dX} (h:w.length≤1000):fi.f k w=some (jd w,()):=by
 have loop:∀ (m n:Nat) (i:Int),0≤i→i+(m:Int)=(w.length:Int)→m<n→fi.l0 k n w (w.length:Int) i (jd (w.take i.toNat))=some (jd w,()):=by
  intro m
  induction m with
  | zero =>intro n i h0 h1 hn;obtain ⟨n,rfl⟩:∃ q,n=q+1:=⟨n-1,by omega⟩;simp only [fi.l0,fi.b0];rw [aZ (by omega),aH,show i.toNat=w.length by omega,List.take_length]
  | succ m ih =>
   intro n i h0 h1 hn;obtain ⟨n,rfl⟩:∃ q,n=q+1:=⟨n-1,by omega⟩;have hw:aU (i+1)=i+1:=aG (by omega) (by omega);have hnext:=ih n (i+1) (by omega) (by omega) (by omega);rw [show (i+1).toNat=i.toNat+1 by omega,CV (Ty.z bF) (by omega),LL] at hnext;have hlen:=Au (w.take i.toNat);rw [List.length_take] at hlen;obtain ⟨out,ho⟩:∃ out,out=jd (w.take i.toNat):=⟨_,rfl⟩;have hnd:out.Pairwise fun a b=>a.1≠b.1:=by rw [ho];exact I_ _
   rw [← ho] at hnext hlen ⊢;obtain ⟨p,hp⟩:∃ p,p=List.getD w i.toNat (Ty.z bF):=⟨_,rfl⟩;rw [← hp] at hnext;simp only [fi.l0,fi.b0];rw [aX (by omega),ae,aY h0 (by omega),← hp];have inner:∀ (d n':Nat) (at_ j:Int),0≤j→j+(d:Int)=(out.length:Int)→d<n' → -1≤at_→at_<(out.length:Int) →
    fi.l1 k (fi.l0 k n) n' at_ w (w.length:Int) i (out.length:Int) j out p.1 p.2.1 p.2.2.1=fi.l0 k n w (w.length:Int) (i+1) (bif decide (s9 p.1 (out.drop j.toNat) j at_≥0) then out.set (s9 p.1 (out.drop j.toNat) j at_).toNat p else out++[p]):=by
    intro d
    induction d with
    | zero =>
     intro n' at_ j j0 j1 hn' a0 a1;obtain ⟨n',rfl⟩:∃ q,n'=q+1:=⟨n'-1,by omega⟩;simp only [fi.l1,fi.b1,hw];rw [aZ (by omega),aH,List.drop_eq_nil_of_le (show out.length≤j.toNat by omega)];show _=fi.l0 k n w (w.length:Int) (i+1) (bif decide (at_≥0) then out.set at_.toNat p else out++[p]);by_cases c:at_≥0
     · rw [aX c,ae,ae,aY c a1]
     · rw [aZ c,aH,aH,dT (by omega) (by decide)]
    | succ d ih2 =>
     intro n' at_ j j0 j1 hn' a0 a1;obtain ⟨n',rfl⟩:∃ q,n'=q+1:=⟨n'-1,by omega⟩;have hj:aU (j+1)=j+1:=aG (by omega) (by omega);have hd:out.drop j.toNat=List.getD out j.toNat (Ty.z bF)::out.drop (j+1).toNat:=by have:=xH (Ty.z bF) (l:=out) (i:=j.toNat) (by omega);rw [show (j+1).toNat=j.toNat+1 by omega];exact this
     simp only [fi.l1,fi.b1,hj];rw [aX (by omega),ae,aY j0 (by omega),hd];unfold s9;cases seq (List.getD out j.toNat (Ty.z bF)).1 p.1 with
     | true=>exact ih2 n' j (j+1) (by omega) (by omega) (by omega) (by omega) (by omega)
     | false=>exact ih2 n' at_ (j+1) (by omega) (by omega) (by omega) a0 a1
   rw [inner out.length k (-1) 0 (by omega) (by omega) (by omega) (by omega) (by omega),show (0:Int).toNat=0 from rfl,List.drop_zero,Mt p hnd];exact hnext
 unfold fi.f fi.t;exact loop w.length k 0 (by omega) (by omega) (by omega)
theorem xe {k:Nat} (hk:2 ^ 50≤k) {t:Ty.d bO} (h:t.2.2.1.length≤1000):fD.f k t=some (jd t.2.2.1,()):=by unfold fD.f fD.t;rw [Il hk h];rfl
theorem Et {k:Nat} (hk:2 ^ 50≤k) {t:Ty.d bO} (h:t.2.1.length≤1000) {dir:aO} (hd:dir.length≤268435456):gg.f k t dir=some (l9 t.2.1 dir,()):=by
 unfold gg.f gg.t l9;refine iZ (L:=fun n i (_:Unit)=>gg.l0 k n dir t.2.1 (t.2.1.length:Int) i) (R:=fun r _=>some (r.all fun r=>BG dir r.1==r.2.1,())) (Ty.z dt) t.2.1 (fun _ _=>True) (fun n _ _=>?_) (fun n i _ x rest h0 h1 hx hr hp ih=>?_) (n:=k) (s:=()) (by omega) trivial
 · simp only [gg.l0,gg.b0];rw [aZ (by omega),aH];rfl
 · have ih:=ih () trivial;obtain ⟨q,e1,e2⟩:=OG (uI dir x.1);simp only [gg.l0,gg.b0];rw [aX h1,ae,aY h0 h1,hx,uT hk (by omega),e1,ac,aG (n:=i+1) (by omega) (by omega),ih,List.all_cons];unfold bne;rw [show (q.1.2.2.2.2.1==x.2.1)=(BG dir x.1==x.2.1) by rw [e2];rfl];cases BG dir x.1==x.2.1 <;> rfl
theorem Dn {k:Nat} (hk:2 ^ 50≤k) {t:Ty.d bO} (h:TV t) (hu:UQ t) (key:ByteArray) (b:Int):fN.f k t key b=some ((jH t key b).1,((jH t key b).2,())):=by
 have h1:=h.1;unfold fN.f fN.t jH;rw [wL k h,ac];cases c1:t.1 with
 | false=>rfl
 | true =>
  simp only [g9,aH];have hko:dU.f k key=some (fg key,()):=kO k key;rw [hko,ac];simp only [];cases fg key with
  | false=>rfl
  | true =>
   simp only [g9,aH];rw [← c1];refine iZ (L:=fun n i (kn:Bool)=>fN.l0 k n key b kn t.2.1 (t.2.1.length:Int) i t.1 t.2.1 t.2.2.1 [] [] false t.2.1 t.2.2.1 t.1) (R:=fun r kn=>bif kn then some (t,((0:Int),())) else some ((match mI r key with | some b'=>(t,bif b' != b then 7 else 0) | none=>bif decide ((t.2.1.length:Int)≥20) then (t,5) else ((t.1,(t.2.1++[(key,(b,()))],t.2.2)),0):Ty.d bO × Int).1,((match mI r key with | some b'=>(t,bif b' != b then 7 else 0) | none=>bif decide ((t.2.1.length:Int)≥20) then (t,5) else ((t.1,(t.2.1++[(key,(b,()))],t.2.2)),0):Ty.d bO × Int).2,()))) (Ty.z dt) t.2.1 (fun i kn=>kn=true→∀ x ∈ t.2.1.drop i.toNat,x.1≠key) (fun n kn _=>?_) (fun n i kn x rest g0 g1 hx hr hp ih=>?_) (n:=k) (s:=false) (by omega) (fun q=>by cases q)
   · simp only [fN.l0,fN.b0];rw [aZ (by omega),aH];cases kn with
     | true=>rfl
     | false =>
      show _=some ((bif decide ((t.2.1.length:Int)≥20) then (t,5) else ((t.1,(t.2.1++[(key,(b,()))],t.2.2)),0):Ty.d bO × Int).1,((bif decide ((t.2.1.length:Int)≥20) then (t,5) else ((t.1,(t.2.1++[(key,(b,()))],t.2.2)),0):Ty.d bO × Int).2,()));rw [aH];cases decide ((t.2.1.length:Int)≥20) with
      | true=>rfl
      | false =>rw [aH,aH,dT (by omega) (by decide)]
   · have er:mI (x::rest) key=bif seq x.1 key then some x.2.1 else mI rest key:=by
      unfold mI;rw [List.find?_cons];cases seq x.1 key <;> rfl
     have hrest:t.2.1.drop (i+1).toNat=rest:=by have:=congrArg (List.drop 1) hr;rw [List.drop_drop] at this;rw [show (i+1).toNat=i.toNat+1 by omega];exact this
     simp only [fN.l0,fN.b0];rw [aX g1,ae,aY g0 g1,hx,aG (n:=i+1) (by omega) (by omega),er];cases c:seq x.1 key with
     | false =>
      simp only [yO,ae,aH];refine ih kn fun q y hy=>hp q y ?_
      rw [hr];rw [hrest] at hy;exact jF _ hy
     | true =>
      simp only [g9,aH,ae];cases kn with
      | true=>exact absurd (cF.1 c) (hp rfl x (by rw [hr];exact iF))
      | false =>
       show (bif x.2.1 != b then _ else _)=some ((t,bif x.2.1 != b then 7 else 0).1,((t,bif x.2.1 != b then 7 else 0).2,()));cases x.2.1 != b with
       | true=>rfl
       | false =>
        refine (ih true fun _ y hy q=>?_).trans rfl;rw [hrest] at hy;have hpw:(t.2.1.drop i.toNat).Pairwise fun a b=>a.1≠b.1:=List.Pairwise.sublist (List.drop_sublist _ _) hu
        rw [hr] at hpw;exact (List.pairwise_cons.1 hpw).1 y hy ((cF.1 c).trans q.symm)
theorem uP (k:Nat) (x:Ty.d bF):fX.f k x=some (bw [x],()):=by
 have e:fX.f k x=some (k_ x,()):=by unfold fX.f fX.t k_ fg;rw [kO,ac];cases decide (1≤(x.1.size:Int)∧(x.1.size:Int)≤8) <;> cases decide ((x.2.2.1.size:Int)≤24) <;> cases x.2.1 <;> rfl
 rw [e];unfold bw;show some (k_ x,())=some ((k_ x&&true)&&decide _,());rw [Bool.and_true,aX (by show (1:Nat)≤8;decide),Bool.and_true]
theorem Bd {k:Nat} (hk:2 ^ 50≤k) {t:Ty.d bO} (h:TV t) (p:Ty.d bF):iq.f k t p=some ((gZ t p).1,((gZ t p).2,())):=by
 have h2:=h.2;have hz:(t.2.2.1++[p]).length=t.2.2.1.length+1:=fq ..;unfold iq.f iq.t gZ;rw [wL k h,ac];simp only [];rw [dT (by omega) (by decide)];cases t.1 with
 | false=>rfl
 | true =>
  simp only [g9,aH];rw [uP,ac];simp only [];cases bw [p] with
  | false=>rfl
  | true =>
   simp only [g9,aH];rw [xe hk (t:=(true,(t.2.1,((t.2.2.1++[p]),())))) (by show (t.2.2.1++[p]).length≤1000;omega),ac];simp only [];cases decide (((jd (t.2.2.1++[p])).length:Int) > 8) with
   | true=>rfl
   | false =>simp only [aH];cases decide (((t.2.2.1++[p]).length:Int) > 50) <;> rfl
theorem K2 {s:ByteArray}:∀ {w:dX} {q:Ty.d bF},lr w s=some q→q ∈ w
 | [],q,h=>by cases h
 | p::w,q,h=>by
  unfold lr at h;cases c:lr w s with
  | some r =>
   rw [c] at h;simp only [] at h;injection h with h;rw [← h];exact jF _ (K2 c)
  | none =>
   rw [c] at h;simp only [] at h;cases c2:seq p.1 s with
   | true =>
    rw [c2] at h;injection h with h;rw [← h];exact iF
   | false=>rw [c2] at h;cases h
theorem O3 {w:dX} {q:Ty.d bF} (h:q ∈ jd w):q ∈ w:=by
 unfold jd at h;obtain ⟨s,hs,e⟩:=List.mem_map.1 h;have hk:(w.any fun p=>seq p.1 s)=true:=by rw [← Cb s w];exact List.any_eq_true.2 ⟨s,hs,bB s⟩
 obtain ⟨r,h1,_⟩:=Ki hk;rw [h1] at e;rw [← e];exact K2 h1
theorem JB {l:dX} (h:∀ w ∈ l,k_ w=true) (hl:l.length≤8):bw l=true:=by
 unfold bw;rw [aX hl,Bool.and_true];have key:∀ (l:dX) (p:Option (Ty.d bF)),(∀ x ∈ l,k_ x=true)→pB (fun _=>k_) p l=true:=by
  intro l
  induction l with
  | nil=>exact fun _ _=>rfl
  | cons a l ih =>intro p h;rw [pB,ih _ fun x hx=>h x (jF _ hx),Bool.and_true];exact h a iF
 exact key l none h
structure TG (t:Ty.d bO):Prop where
 tv:TV t
 uq:UQ t
 put:∀ w ∈ t.2.2.1,k_ w=true
 net:(jd t.2.2.1).length≤8
theorem TG.puts {t:Ty.d bO} (h:TG t):bw (jd t.2.2.1)=true:=JB (fun w hw=>h.put w (O3 hw)) h.net
theorem Ae (b:Bool):TG (b,([],([],()))):=by refine ⟨⟨Nat.zero_le _,Nat.zero_le _⟩,List.Pairwise.nil,fun w hw=>?_,Nat.zero_le _⟩;exact absurd (show w ∈ ([]:dX) from hw) List.not_mem_nil
theorem NN {t:Ty.d bO} (h:TG t) (key:ByteArray) (b:Int):TG (jH t key b).1∧(jH t key b).1.2.2.1=t.2.2.1:=by
 have hu:=Hd h.uq key b;have e:(jH t key b).1.2.2.1=t.2.2.1∧(jH t key b).1.2.1.length≤20:=by
  have h1:=h.tv.1;unfold jH;cases t.1 with
  | false=>exact ⟨rfl,h1⟩
  | true =>
   simp only [g9,aH];cases fg key with
   | false=>exact ⟨rfl,h1⟩
   | true =>
    simp only [g9,aH];cases mI t.2.1 key with
    | some b'=>exact ⟨rfl,h1⟩
    | none =>
     simp only [];cases c:decide ((t.2.1.length:Int)≥20) with
     | true=>exact ⟨rfl,h1⟩
     | false =>have c:=of_decide_eq_false c;refine ⟨rfl,?_⟩;show (t.2.1++[(key,(b,()))]).length≤20;rw [rt,List.length_singleton];omega
 refine ⟨⟨⟨e.2,by rw [e.1];exact h.tv.2⟩,hu,by rw [e.1];exact h.put,by rw [e.1];exact h.net⟩,e.1⟩
theorem L5 {t:Ty.d bO} (h:TG t) {p:Ty.d bF} (hp:bw [p]=true):TG (gZ t p).1∧(gZ t p).1.2.2.1.length≤t.2.2.1.length+1:=by
 have hu:=Dh h.uq p;revert hu;unfold gZ;cases t.1 with
 | false=>exact fun _=>⟨h,Nat.le_succ _⟩
 | true =>
  simp only [g9,aH,hp];cases c1:decide (((jd (t.2.2.1++[p])).length:Int) > 8) with
  | true=>exact fun _=>⟨h,Nat.le_succ _⟩
  | false =>
   simp only [aH];cases c2:decide (((t.2.2.1++[p]).length:Int) > 50) with
   | true=>exact fun _=>⟨h,Nat.le_succ _⟩
   | false =>
    simp only [aH];intro hu;have c1:=of_decide_eq_false c1;have c2:=of_decide_eq_false c2;refine ⟨⟨⟨h.tv.1,?_⟩,hu,fun w hw=>?_,?_⟩,?_⟩
    · show (t.2.2.1++[p]).length≤50;omega
    · have hw:w ∈ t.2.2.1++[p]:=hw;rcases List.mem_append.1 hw with q | q
      · exact h.put w q
      · rw [List.mem_singleton.1 q];exact vC hp iF
    · show (jd (t.2.2.1++[p])).length≤8;omega
    · show (t.2.2.1++[p]).length≤t.2.2.1.length+1;rw [rt,List.length_singleton];exact Nat.le_refl _
def s8:List (Ty.d bO)→Nat
 | []=>0
 | t::l=>t.2.2.1.length+s8 l
theorem BA:∀ {l:List (Ty.d bO)} {i:Nat} (t:Ty.d bO),i<l.length→s8 (l.set i t)+(l.getD i (Ty.z bO)).2.2.1.length=s8 l+t.2.2.1.length
 | [],i,t,h=>by cases h
 | x::l,0,t,h=>by show t.2.2.1.length+s8 l+x.2.2.1.length=x.2.2.1.length+s8 l+t.2.2.1.length;omega
 | x::l,i+1,t,h=>by have ih:=BA (l:=l) (i:=i) t (by rw [kM] at h;omega);show x.2.2.1.length+s8 (l.set i t)+(l.getD i (Ty.z bO)).2.2.1.length=x.2.2.1.length+s8 l+t.2.2.1.length;omega
structure vJ (n:Int) (e:Ty.d aP) (m:Ty.d eD):Prop where
 up:e.1=m.1
 txn:e.2.2.2.1=m.2.2.2.1
 len:e.2.2.2.1.length=3
 tg:∀ t ∈ e.2.2.2.1,TG t
 st:∃ st,BD n (s8 e.2.2.2.1:Int) st e.2.2.1∧bH st.2.1 e.2.2.1=(m.2.1,0)∧@Eq Int st.2.2.1 m.2.2.1∧(e.1=true→e.2.1=st)
theorem vJ.later {n:Int} {e:Ty.d aP} {m:Ty.d eD} (h:vJ n e m):vJ (n+1) e m:=by obtain ⟨st,b,r⟩:=h.st;exact ⟨h.up,h.txn,h.len,h.tg,st,b.mono (by omega) (by omega) (by omega),r⟩
theorem vJ.at_ {n:Int} {e:Ty.d aP} {m:Ty.d eD} (h:vJ n e m) (i:Int):dS e i=FP m i:=by unfold dS FP;rw [h.txn]
theorem vJ.good {n:Int} {e:Ty.d aP} {m:Ty.d eD} (h:vJ n e m) (i:Int):TG (dS e i):=by
 unfold dS;by_cases c:i.toNat<e.2.2.2.1.length
 · exact h.tg _ (eE c)
 · have q:e.2.2.2.1.getD i.toNat (Ty.z bO)=Ty.z bO:=by
    rw [List.getD,List.getElem?_eq_none (by omega)];rfl
   rw [q];exact Ae false
theorem vJ.put {n:Int} {e:Ty.d aP} {m:Ty.d eD} (h:vJ n e m) {i:Int} (h0:0≤i) (h1:i<(e.2.2.2.1.length:Int)) {t:Ty.d bO} (ht:TG t) (hl:t.2.2.1.length≤(dS e i).2.2.1.length+1):vJ (n+1) (uE e i t) (yM m i t):=by
 obtain ⟨st,b,r⟩:=h.st;have hp:=BA (l:=e.2.2.2.1) (i:=i.toNat) t (by omega);unfold dS at hl;refine ⟨h.up,?_,?_,?_,st,?_,r⟩
 · show e.2.2.2.1.set i.toNat t=m.2.2.2.1.set i.toNat t;rw [h.txn]
 · show (e.2.2.2.1.set i.toNat t).length=3;rw [List.length_set];exact h.len
 · intro x hx;rcases List.mem_or_eq_of_mem_set hx with q | q
   · exact h.tg x q
   · rw [q];exact ht
 · show BD (n+1) (s8 (e.2.2.2.1.set i.toNat t):Int) st e.2.2.1;exact b.mono (by omega) (by omega) (by omega)
theorem Ip:∀ t ∈ List.replicate 3 (Ty.z bO),TG t:=fun t ht=>by rw [List.eq_of_mem_replicate ht];exact Ae false
theorem Mz {d y:Ty.d aA} (hd:DR d) (hy:DR y) (h:∀ s,fT y s=fT d s) (e:Ty.d aB):d6 y e=d6 d e:=by unfold d6;rw [gm hd,gm hy,h]
theorem LY {st st':Ty.d aC} {d y:Ty.d aA} (hd:DR d) (hy:DR y) (h:∀ s,fT y s=fT d s) (s1:bo st d=true) (s2:bo st' y=true) (e:st'.2.1=st.2.1):bH st'.2.1 y=bH st.2.1 d:=by
 rw [lN s1,lN s2,e];congr 1;refine List.map_congr_left fun f _=>?_
 rw [Mz hd hy h]
theorem D3:∀ (l:fL) (key:ByteArray),(rh l key).2=0∨(rh l key).2=8
 | [],_ => .inr rfl
 | x::l,key=>by
  rw [show rh (x::l) key=bif seq x.1 key then (x,0) else rh l key from rfl];cases seq x.1 key with
  | true=>exact .inl rfl
  | false=>exact D3 l key
theorem vJ.store {n:Int} {e:Ty.d aP} {m:Ty.d eD} (h:vJ n e m) (hu:e.1=true):BD n (s8 e.2.2.2.1:Int) e.2.1 e.2.2.1∧bH e.2.1.2.1 e.2.2.1=(m.2.1,0)∧@Eq Int e.2.1.2.2.1 m.2.2.1∧bo e.2.1 e.2.2.1=true:=by obtain ⟨st,b,r1,r2,r3⟩:=h.st;rw [← r3 hu] at b r1 r2;exact ⟨b,r1,r2,b.op.MI.store.1⟩
theorem Pq {n:Int} {e:Ty.d aP} {m:Ty.d eD} (h:vJ n e m) (hu:e.1=true) {s:Ty.d d5} (h0:LE.le (α:=Int) 0 s.2.1) (h1:LT.lt (α:=Int) s.2.1 (e.2.2.2.1.length:Int)):(tG e s).2=(QP m s).2∧vJ (n+1) (tG e s).1 (QP m s).1:=by
 obtain ⟨b,r1,r2,hs⟩:=h.store hu;have hg:=Om hs s.2.2.1;rw [r1] at hg;have hc:=D3 m.2.1 s.2.2.1;have ht:=h.good s.2.1;unfold tG QP;rw [hg,← h.at_];cases fg s.2.2.1 with
 | false=>exact ⟨rfl,h.later⟩
 | true =>
  simp only [g9,aH];cases lr (dS e s.2.1).2.2.1 s.2.2.1 with
  | some p =>
   simp only [];cases p.2.1 with
   | true=>exact ⟨rfl,h.later⟩
   | false=>exact ⟨rfl,h.later⟩
  | none =>
   simp only [];unfold vo Ql;have c3:((rh m.2.1 s.2.2.1).2==3)=false:=by rcases hc with q | q <;> rw [q] <;> rfl
   rw [c3];simp only [aH];obtain ⟨t1,t2⟩:=NN ht s.2.2.1 (rh m.2.1 s.2.2.1).1.2.2.1;cases (jH (dS e s.2.1) s.2.2.1 (rh m.2.1 s.2.2.1).1.2.2.1).2 != 0 with
   | true=>exact ⟨rfl,h.later⟩
   | false=>exact ⟨rfl,h.put h0 h1 t1 (by rw [t2];omega)⟩
theorem PT {n:Int} {e:Ty.d aP} {m:Ty.d eD} (h:vJ n e m) {s:Ty.d d5} (h0:LE.le (α:=Int) 0 s.2.1) (h1:LT.lt (α:=Int) s.2.1 (e.2.2.2.1.length:Int)):(sf e s).2=(MN m s).2∧vJ (n+1) (sf e s).1 (MN m s).1:=by
 have ht:=h.good s.2.1;unfold sf MN;rw [← h.at_];cases c:bw [nO s] with
 | false=>exact ⟨rfl,h.later⟩
 | true =>
  simp only [g9,aH];obtain ⟨t1,t2⟩:=L5 ht c;cases (gZ (dS e s.2.1) (nO s)).2 with
  | false=>exact ⟨rfl,h.later⟩
  | true=>exact ⟨rfl,h.put h0 h1 t1 t2⟩
theorem Iz {n:Int} {e:Ty.d aP} {m:Ty.d eD} (h:vJ n e m) (hn:n≤82) (hu:e.1=true) {s:Ty.d d5} (h0:LE.le (α:=Int) 0 s.2.1) (h1:LT.lt (α:=Int) s.2.1 (e.2.2.2.1.length:Int)):(iQ e s).2=(QN (yM m s.2.1 rk) (FP m s.2.1)).2∧vJ (n+1) (iQ e s).1 (QN (yM m s.2.1 rk) (FP m s.2.1)).1:=by
 obtain ⟨b,r1,r2,hs⟩:=h.store hu;have ht:=h.good s.2.1;have hz:vJ (n+1) (uE e s.2.1 rk) (yM m s.2.1 rk):=h.put h0 h1 (Ae false) (Nat.zero_le _);have hv:l9 (dS e s.2.1).2.1 (MA m.2.1)=l9 (dS e s.2.1).2.1 e.2.1.2.1:=by have q:=IU hs (dS e s.2.1).2.1;rw [r1] at q;exact q
 have hk:hZ e.2.1.2.1=m.2.1.map (·.1):=by have q:=Cc hs;rw [r1] at q;exact q
 have hb:=b.bat;have hpend:=BA (l:=e.2.2.2.1) (i:=s.2.1.toNat) rk (by omega);rw [show e.2.2.2.1.getD s.2.1.toNat (Ty.z bO)=dS e s.2.1 from rfl,show rk.2.2.1.length=0 from rfl] at hpend;have hnl:=Au (dS e s.2.1).2.2.1;have hp:=ht.puts;unfold iQ QN;rw [← h.at_,show (yM m s.2.1 rk).2.1=m.2.1 from rfl,show (yM m s.2.1 rk).2.2.1=m.2.2.1 from rfl,hv];cases l9 (dS e s.2.1).2.1 e.2.1.2.1 with
 | false=>exact ⟨rfl,hz⟩
 | true =>
  simp only [g9,aH];have ha:=Ia hk (jd (dS e s.2.1).2.2.1) m.2.2.1;unfold bm;rw [hs,hp,ha];simp only [g9,aH];generalize jd (dS e s.2.1).2.2.1=l at hp hnl ha ⊢;cases c0:((l.length:Int)==0) with
  | true=>exact ⟨rfl,hz⟩
  | false =>
   simp only [aH];cases c1:decide (((uM m.2.1 l m.2.2.1).length:Int) > 20) with
   | true=>exact ⟨rfl,hz⟩
   | false =>
    simp only [aH];have nk:∀ x:Int,x≤1+n→¬ x > 1000000:=by omega
    rw [aZ (nk _ hb),← r2,aZ (nk _ hb)];simp only [aH];have c1:=of_decide_eq_false c1;obtain ⟨z,b2,e2⟩:=b.write hn hp (by rw [ha];omega) (by omega);have hdump:=JV hs b.op.MI.store.2 hp (by have:=(b.room hn).2.2.2.2;exact this) (by rw [ha];omega) z;rw [r1] at hdump;rw [z];refine ⟨rfl,?_⟩;refine ⟨h.up,hz.txn,hz.len,hz.tg,(bS e.2.1 e.2.2.1 l).1,?_,?_,?_,fun _=>rfl⟩
    · show BD (n+1) (s8 (e.2.2.2.1.set s.2.1.toNat rk):Int) _ _;exact b2.mono (by omega) (by omega) (by omega)
    · show bH (bS e.2.1 e.2.2.1 l).1.2.1 (bS e.2.1 e.2.2.1 l).2.1=(uM m.2.1 l e.2.1.2.2.1,0);exact hdump
    · rw [e2];show e.2.1.2.2.1+1=aU (e.2.1.2.2.1+1);have nk2:∀ x:Int,x≤1+n→0≤x→aU (x+1)=x+1:=fun x p q=>aG (by omega) (by omega)
      obtain ⟨_,_,g3⟩:=bn hs;exact (nk2 _ hb (Int.le_trans (by decide) g3)).symm
theorem He {n:Int} {e:Ty.d aP} {m:Ty.d eD} (h:vJ n e m):(cZ e.2.2.1).2.2=0∧vJ (n+1) (jE (cZ e.2.2.1)) (true,(m.2.1,(m.2.2.1,(List.replicate 3 (Ty.z bO),())))):=by
 obtain ⟨st,b,r1,r2,r3⟩:=h.st;obtain ⟨hi,eo,o2,same⟩:=Rz b.op;have hs:=b.op.MI.store.1;have hs2:=o2.MI.store.1;have hd:=LY b.op.disk o2.disk same hs hs2 rfl;obtain ⟨L,t,j,lb⟩:=b.op.mi;have hl:(fT e.2.2.1 (au st)).isSome=true:=by
  obtain ⟨_,_,k1,_,_⟩:=bD (nx:=st.1.1) (ids:=st.1.2.1) t.live;have hlast:aQ st.1.2.1 ∈ st.1.2.1:=by have hs:=jA k1;rw [hs];exact List.mem_append_right _ (List.mem_singleton.2 (by rw [← hs]))
  obtain ⟨x,hx,_⟩:=(sv hs).full _ hlast;rw [show fT e.2.2.1 (au st)=some x from hx];rfl
 have hu:=(xN b.op.rm hl).1.use;rw [eo];refine ⟨rfl,rfl,rfl,rfl,Ip,_,⟨o2,?_,b.size,?_,?_,?_,Int.le_refl _⟩,hd.trans r1,r2,fun _=>rfl⟩
 · have h1:=b.pot;have h0:=b.p0;show pot st+71*0≤258+71*(n+1);omega
 · have h1:=b.use;have h0:=b.p0;show (bv (cQ e.2.2.1 (au st)).1.1:Int)+421*0≤18000+421*(n+1);omega
 · have h1:=b.next;have h0:=b.p0;have key:∀ x q:Int,0≤q→x+q≤2+2*n→x+0≤2+2*(n+1):=by omega
   exact key _ _ h0 h1
 · have h1:=b.bat;have key:∀ x:Int,x≤1+n→x≤1+(n+1):=by omega
   exact key _ h1
theorem QD {n:Int} {e:Ty.d aP} {m:Ty.d eD} (h:vJ n e m) (hn:n≤82) (hu:e.1=true) {s:Ty.d d5} (h0:LE.le (α:=Int) 0 s.2.1) (h1:LT.lt (α:=Int) s.2.1 (e.2.2.2.1.length:Int)):(nM e s).2=(Q8 m s).2∧vJ (n+1) (nM e s).1 (Q8 m s).1:=by
 unfold nM Q8;cases c1:s.1==1 with
 | true=>exact ⟨rfl,h.put h0 h1 (Ae true) (Nat.zero_le _)⟩
 | false =>
  simp only [aH];cases c6:s.1==6 with
  | true=>exact ⟨rfl,h.put h0 h1 (Ae false) (Nat.zero_le _)⟩
  | false =>
   simp only [aH];cases c2:s.1==2 with
   | true =>
    have c5:(s.1==5)=false:=by rw [show s.1=(2:Int) from by simpa using c2];rfl
    rw [c5];exact Pq h hu h0 h1
   | false =>
    cases c5:s.1==5 with
    | true=>exact Iz h hn hu h0 h1
    | false=>exact PT h h0 h1
theorem oc {n:Int} {e:Ty.d aP} {m:Ty.d eD} (h:vJ n e m) (hn:n≤82) {s:Ty.d d5} (h11:(s.1==11)=false):(dA e s).2=(ot m s).2∧vJ (n+1) (dA e s).1 (ot m s).1:=by
 unfold dA ot;rw [h11,← h.up];cases c10:s.1==10 with
 | true =>
  cases up:e.1 with
  | true=>exact ⟨rfl,h.later⟩
  | false =>obtain ⟨z,q⟩:=He h;simp only [ae,aH];rw [z];exact ⟨rfl,q⟩
 | false =>
  simp only [aH];cases up:e.1 with
  | false=>exact ⟨rfl,h.later⟩
  | true =>
   simp only [g9,aH];obtain ⟨b,r1,r2,hs⟩:=h.store up;cases c7:s.1==7 with
   | true =>simp only [ae];obtain ⟨z,b2,e2,e3⟩:=b.merge hn;unfold EL;rw [z];exact ⟨rfl,h.up,h.txn,h.len,h.tg,_,b2,e3.trans r1,(show @Eq Int _ _ from e2).trans r2,fun _=>rfl⟩
   | false =>
    simp only [aH];cases c8:s.1==8 with
    | true =>
     simp only [ae];have hk:hZ e.2.1.2.1=m.2.1.map (·.1):=by have q:=Cc hs;rw [r1] at q;exact q
     refine ⟨?_,h.later⟩;show ((0:Int),(ByteArray.empty,(hZ e.2.1.2.1,())))=(0,(ByteArray.empty,(m.2.1.map (·.1),())));rw [hk]
    | false =>
     simp only [aH];cases c9:s.1==9 with
     | true =>simp only [ae];refine ⟨rfl,rfl,rfl,rfl,Ip,e.2.1,?_,r1,r2,fun q=>by cases q⟩;have hp:=b.p0;exact b.mono (by show (0:Int)-_≤_;omega) (by omega) (Int.le_refl _)
     | false =>
      simp only [aH];have ef:qp e s=Ow m s:=by unfold qp Ow;rw [h.at_,h.txn]
      rw [← ef];cases c:qp e s with
      | false=>exact ⟨rfl,h.later⟩
      | true =>simp only [g9,aH];unfold qp at c;rw [gY,decide_eq_true_eq] at c;have k0:LE.le (α:=Int) 0 s.2.1:=c.1.1;have k1:LE.le (α:=Int) s.2.1 ((e.2.2.2.1.length:Int)-1):=c.1.2;exact QD h hn up k0 (by omega)
end Go.Proofs.YteejjngdagmofaaGreatDoor.G

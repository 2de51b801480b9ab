/- Plain laws, merged; what is proved here is told ahead of each part. -/
import Derived.Test.YtbgnhoggngbhhaaGreatDoorZU2
set_option linter.unusedVariables false
set_option linter.unusedSimpArgs false
namespace Go.Proofs.YtbgnhoggngbhhaaGreatDoor.G
open Go.V
abbrev Lt:=aS × Int × Int
def j4 (pre:ah) (p:Ty.d aM) (s:Lt):Lt :=
 bif p.2.2.2.1.1==3 then (bif jd p.2.2.2.1 (fO p.2.2.2.1.2.1 pre) then (cV s.1 (fO p.2.2.2.1.2.1 pre),o_ p.2.2.2.1.2.1 s.2.1,nf (cV s.1 (fO p.2.2.2.1.2.1 pre)) s.2.2) else (s.1,o_ p.2.2.2.1.2.1 s.2.1,s.2.2)) else
 bif p.2.2.2.1.1==5 then (bif jd p.2.2.2.1 (bz pre) then (cV s.1 (bz pre),o_ p.2.2.2.1.2.1 s.2.1,nf (cV s.1 (bz pre)) s.2.2) else (s.1,o_ p.2.2.2.1.2.1 s.2.1,1)) else
 (s.1,o_ p.2.2.2.1.2.1 s.2.1,s.2.2)
def gr (pre:ah):ah→Lt→Lt
 | [],s=>s
 | p::r,s=>bif s.2.2 != 0 then s else gr (pre++[p]) r (j4 pre p s)
theorem E5 {pre:ah} {s:Lt} (h:s.2.2≠0):∀ r:ah,gr pre r s=s
 | []=>rfl
 | p::r=>by unfold gr;rw [show (s.2.2 != 0)=true from bne_iff_ne.2 h];rfl
theorem IG (pre:ah) (p:Ty.d aM) (r:ah) (s:Lt):gr pre (p::r) s=bif s.2.2 != 0 then s else gr (pre++[p]) r (j4 pre p s):=rfl
theorem sS:∀ (a b pre:ah) (s:Lt),gr pre (a++b) s=gr (pre++a) b (gr pre a s)
 | [],b,pre,s=>by rw [List.append_nil];rfl
 | p::a,b,pre,s=>by
  rw [List.cons_append,IG,IG pre p a]
  by_cases c:s.2.2=0
  · rw [show (s.2.2 != 0)=false by rw [c];rfl,aJ,aJ,sS a b,nw]
    rfl
  · rw [show (s.2.2 != 0)=true from bne_iff_ne.2 c,aa,aa]
    exact (E5 c _).symm
theorem qw (all:ah):∀ (r:ah) (i:Nat) (d:aS) (la c:Int),all.drop i=r→i≤all.length →
 l_ all r i d la c=(let s:=gr (all.take i) r (d,la,c);bif s.2.2==0&&decide ((bz all).length > 0) then (s.1,(s.2.1,(1,()))) else (s.1,(s.2.1,(s.2.2,()))))
 | [],i,d,la,c,_,_=>rfl
 | p::r,i,d,la,c,h,hi=>by
  have hlt:i<all.length:=by
   have:=congrArg List.length h
   rw [List.length_drop,jj] at this
   omega
  have ht:all.take (i+1)=all.take i++[p]:=by
   have e:all[i]=p:=by
    have:=List.drop_eq_getElem_cons hlt
    rw [h] at this
    injection this with w _
    exact w.symm
   rw [List.take_succ_eq_append_getElem hlt,e]
  have hd:all.drop (i+1)=r:=by rw [← List.drop_drop,h];rfl
  have ih:=fun d' la' c'=>qw all r (i+1) d' la' c' hd hlt
  unfold l_ gr
  by_cases c0:c=0
  · subst c0
    simp only [bne_self_eq_false,aJ]
    rw [← ht]
    unfold j4
    cases p.2.2.2.1.1==3 with
    | true =>
     simp only [aa]
     cases jd p.2.2.2.1 (fO p.2.2.2.1.2.1 (all.take i)) <;> exact ih _ _ _
    | false =>
     simp only [aJ]
     cases p.2.2.2.1.1==5 with
     | true =>
      simp only [aa]
      cases jd p.2.2.2.1 (bz (all.take i)) <;> exact ih _ _ _
     | false=>exact ih _ _ _
  · have e1:(c != 0)=true:=bne_iff_ne.2 c0
    have e2:(c==0)=false:=pz c0
    simp only [e1,aa,e2,Bool.false_and,aJ]
theorem Gs {pl:ah} {d:aS} {la:Int} (h:gr [] pl ([],0,0)=(d,la,0)) (hm:bz pl=[]):iK ([],(0,(0,()))) pl=(d,(la,(0,()))):=by
 have e:iK ([],(0,(0,()))) pl=(bif (gr [] pl ([],0,0)).2.2==0&&decide ((bz pl).length > 0) then ((gr [] pl ([],0,0)).1,((gr [] pl ([],0,0)).2.1,(1,()))) else ((gr [] pl ([],0,0)).1,((gr [] pl ([],0,0)).2.1,((gr [] pl ([],0,0)).2.2,())))):=qw pl pl 0 [] 0 0 rfl (Nat.zero_le _)
 rw [e,h,hm]
 rfl
theorem zU {g:aS} {la0:Int} {pl:ah} (h:(iK (g,(la0,(0,()))) pl).2.2.1=0):gr [] pl (g,la0,0)=((iK (g,(la0,(0,()))) pl).1,(iK (g,(la0,(0,()))) pl).2.1,0)∧bz pl=[]:=by
 have e:=qw pl pl 0 g la0 0 rfl (Nat.zero_le _)
 have e:iK (g,(la0,(0,()))) pl=(let s:=gr [] pl (g,la0,0);bif s.2.2==0&&decide ((bz pl).length > 0) then (s.1,(s.2.1,(1,()))) else (s.1,(s.2.1,(s.2.2,())))):=e
 rw [e] at h ⊢
 generalize gr [] pl (g,la0,0)=s at h ⊢
 obtain ⟨a,b,c⟩:=s
 simp only [] at h ⊢
 cases q:(c==0&&decide ((bz pl).length > 0)) with
 | true=>rw [q] at h;exact absurd h (by show (1:Int)≠0;decide)
 | false =>
  rw [q] at h
  simp only [aJ] at h ⊢
  subst h
  refine ⟨rfl,?_⟩
  simp only [beq_self_eq_true,Bool.true_and,decide_eq_false_iff_not] at q
  exact List.length_eq_zero_iff.1 (by omega)
theorem mH (l m:ah):bz (l++m)=m.foldl gg (bz l):=by unfold bz;rw [List.foldl_append]
theorem xE (b:Int) (l m:ah):fO b (l++m)=m.foldl (fY b) (fO b l):=by unfold fO;rw [List.foldl_append]
def plain (p:Ty.d aM):Prop:=p.2.2.2.1.1=1∨p.2.2.2.1.1=2
theorem F3 {p:Ty.d aM} (h:plain p):(p.2.2.2.1.1==3)=false∧(p.2.2.2.1.1==4)=false∧(p.2.2.2.1.1==5)=false∧(p.2.2.2.1.1==1||p.2.2.2.1.1==2)=true:=by
 rcases h with q | q <;> rw [q] <;> exact ⟨rfl,rfl,rfl,rfl⟩
theorem yw:∀ (q pre:ah) (d:aS) (la:Int),(∀ p ∈ q,plain p)→∃ la',gr pre q (d,la,0)=(d,la',0)
 | [],_,d,la,_=>⟨la,rfl⟩
 | p::q,pre,d,la,h=>by
  obtain ⟨h3,h4,h5,_⟩:=F3 (h p ii)
  obtain ⟨la',e⟩:=yw q (pre++[p]) d (o_ p.2.2.2.1.2.1 la) fun x hx=>h x (kR _ hx)
  refine ⟨la',?_⟩
  unfold gr j4
  rw [h3,h5]
  exact e
theorem A4:∀ (q:ah) (acc:ah),(∀ p ∈ q,p.2.2.2.1.1≠4∧p.2.2.2.1.1≠5)→q.foldl gg acc=acc
 | [],_,_=>rfl
 | p::q,acc,h=>by
  obtain ⟨h4,h5⟩:=h p ii
  rw [List.foldl_cons,show gg acc p=acc by unfold gg;rw [pz h4,pz h5];rfl]
  exact A4 q acc fun x hx=>h x (kR _ hx)
theorem zt {b:Int}:∀ (q:ah) (acc:ah),(∀ p ∈ q,p.2.2.2.1.2.1≠b)→q.foldl (fY b) acc=acc
 | [],_,_=>rfl
 | p::q,acc,h=>by
  rw [List.foldl_cons,show fY b acc p=acc by unfold fY;rw [pz (h p ii)];rfl]
  exact zt q acc fun x hx=>h x (kR _ hx)
theorem EK {b:Int}:∀ (q:ah) (acc:ah),(∀ p ∈ q,plain p∧p.2.2.2.1.2.1=b)→q.foldl (fY b) acc=acc++q
 | [],acc,_=>(List.append_nil acc).symm
 | p::q,acc,h=>by
  obtain ⟨h1,h2⟩:=h p ii
  obtain ⟨h3,h4,h5,h6⟩:=F3 h1
  rw [List.foldl_cons,show fY b acc p=acc++[p] by unfold fY;rw [h2,beq_self_eq_true,h3,h6];rfl]
  rw [EK q (acc++[p]) fun x hx=>h x (kR _ hx),nw]
  rfl
theorem xW {b:Int}:∀ (l:ah) (acc:ah),(∀ p ∈ acc,plain p)→∀ p ∈ l.foldl (fY b) acc,plain p∧(p ∈ acc∨p ∈ l)
 | [],acc,h,p,hp=>⟨h p hp,.inl hp⟩
 | x::l,acc,h,p,hp=>by
  rw [List.foldl_cons] at hp
  have hs:∀ q ∈ fY b acc x,plain q∧(q ∈ acc∨q=x):=fun q hq=>by
   unfold fY at hq
   cases c1:x.2.2.2.1.2.1==b with
   | false=>rw [c1] at hq;exact ⟨h q hq,.inl hq⟩
   | true =>
    rw [c1,aa] at hq
    cases c2:x.2.2.2.1.1==3 with
    | true=>rw [c2] at hq;cases hq
    | false =>
     rw [c2,aJ] at hq
     cases c3:x.2.2.2.1.1==1||x.2.2.2.1.1==2 with
     | false=>rw [c3] at hq;exact ⟨h q hq,.inl hq⟩
     | true =>
      rw [c3,aa] at hq
      rcases List.mem_append.1 hq with w | w
      · exact ⟨h q w,.inl w⟩
      · rw [List.mem_singleton.1 w]
        simp only [Bool.or_eq_true,beq_iff_eq] at c3
        exact ⟨c3,.inr rfl⟩
  obtain ⟨g1,g2⟩:=xW l (fY b acc x) (fun q hq=>(hs q hq).1) p hp
  refine ⟨g1,?_⟩
  rcases g2 with w | w
  · rcases (hs p w).2 with v | v
    · exact .inl v
    · rw [v];exact .inr ii
  · exact .inr (kR _ w)
theorem xV:∀ (l:ah) (acc:ah),(∀ p ∈ acc,p.2.2.2.1.1=4)→∀ p ∈ l.foldl gg acc,p.2.2.2.1.1=4∧(p ∈ acc∨p ∈ l)
 | [],acc,h,p,hp=>⟨h p hp,.inl hp⟩
 | x::l,acc,h,p,hp=>by
  rw [List.foldl_cons] at hp
  have hs:∀ q ∈ gg acc x,q.2.2.2.1.1=4∧(q ∈ acc∨q=x):=fun q hq=>by
   unfold gg at hq
   cases c2:x.2.2.2.1.1==5 with
   | true=>rw [c2] at hq;cases hq
   | false =>
    rw [c2,aJ] at hq
    cases c3:x.2.2.2.1.1==4 with
    | false=>rw [c3] at hq;exact ⟨h q hq,.inl hq⟩
    | true =>
     rw [c3,aa] at hq
     rcases List.mem_append.1 hq with w | w
     · exact ⟨h q w,.inl w⟩
     · rw [List.mem_singleton.1 w]
       exact ⟨C9 c3,.inr rfl⟩
  obtain ⟨g1,g2⟩:=xV l (gg acc x) (fun q hq=>(hs q hq).1) p hp
  refine ⟨g1,?_⟩
  rcases g2 with w | w
  · rcases (hs p w).2 with v | v
    · exact .inl v
    · rw [v];exact .inr ii
  · exact .inr (kR _ w)
def EP (pl:ah) (d:aS):Prop:=∀ e ∈ d,∃ p ∈ pl,e=dV p∧(p.2.2.2.1.1=1∨p.2.2.2.1.1=4)
theorem zM {pl:ah}:∀ (own:ah) {d:aS},EP pl d→(∀ p ∈ own,p ∈ pl∧(p.2.2.2.1.1=1∨p.2.2.2.1.1=2∨p.2.2.2.1.1=4))→EP pl (cV d own)
 | [],d,h,_=>h
 | p::own,d,h,ho=>by
  refine zM own (d:=fy d p) (fun e he=>?_) fun q hq=>ho q (kR _ hq)
  obtain ⟨k1,k2⟩:=ho p ii
  unfold fy at he
  cases c:p.2.2.2.1.1==2 with
  | true=>rw [c,aa] at he;exact h e (List.mem_filter.1 he).1
  | false =>
   rw [c,aJ] at he
   unfold rB at he
   rcases Hq he with w | w
   · refine ⟨p,k1,w,?_⟩
     rcases k2 with q | q | q
     · exact .inl q
     · rw [q] at c;cases c
     · exact .inr q
   · exact h e (List.mem_filter.1 w).1
theorem Nw (all:ah):∀ (r pre:ah) (s:Lt),(∀ p ∈ pre,p ∈ all)→(∀ p ∈ r,p ∈ all)→EP all s.1→cU (gw s.1)→s.1.length≤20→(gr pre r s).2.2=0→EP all (gr pre r s).1∧cU (gw (gr pre r s).1)∧(gr pre r s).1.length≤20
 | [],pre,s,_,_,h1,h2,h3,_=>⟨h1,h2,h3⟩
 | p::r,pre,s,hp,hr,h1,h2,h3,z=>by
  by_cases c:s.2.2=0
  · have e:gr pre (p::r) s=gr (pre++[p]) r (j4 pre p s):=by
     show (bif s.2.2 != 0 then _ else _)=_
     rw [c];rfl
    rw [e] at z ⊢
    have z0:(j4 pre p s).2.2=0:=by
     by_cases w:(j4 pre p s).2.2=0
     · exact w
     · rw [E5 w] at z
       exact absurd z w
    have hs:EP all (j4 pre p s).1∧cU (gw (j4 pre p s).1)∧(j4 pre p s).1.length≤20:=by
     have hc:∀ {x:aS},nf x s.2.2=0→x.length≤20:=fun {x} q=>by
      unfold nf at q
      split at q
      · cases q
      · omega
     unfold j4 at z0 ⊢
     cases c3:p.2.2.2.1.1==3 with
     | true =>
      rw [c3] at z0
      simp only [aa] at z0 ⊢
      cases c4:jd p.2.2.2.1 (fO p.2.2.2.1.2.1 pre) with
      | true =>
       rw [c4] at z0
       exact ⟨zM _ h1 fun q hq=>by
        obtain ⟨g1,g2⟩:=xW pre [] (fun _ w=>by cases w) q hq
        refine ⟨hp q (g2.resolve_left fun w=>by cases w),?_⟩
        rcases g1 with w | w
        · exact .inl w
        · exact .inr (.inl w),qi _ h2,hc z0⟩
      | false=>exact ⟨h1,h2,h3⟩
     | false =>
      rw [c3] at z0
      simp only [aJ] at z0 ⊢
      cases c5:p.2.2.2.1.1==5 with
      | true =>
       rw [c5] at z0
       simp only [aa] at z0 ⊢
       cases c4:jd p.2.2.2.1 (bz pre) with
       | true =>
        rw [c4] at z0
        exact ⟨zM _ h1 fun q hq=>by
         obtain ⟨g1,g2⟩:=xV pre [] (fun _ w=>by cases w) q hq
         exact ⟨hp q (g2.resolve_left fun w=>by cases w),.inr (.inr g1)⟩,qi _ h2,hc z0⟩
       | false=>exact ⟨h1,h2,h3⟩
      | false=>exact ⟨h1,h2,h3⟩
    exact Nw all r (pre++[p]) (j4 pre p s) (fun q hq=>by
     rcases List.mem_append.1 hq with w | w
     · exact hp q w
     · rw [List.mem_singleton.1 w];exact hr p ii) (fun q hq=>hr q (kR _ hq)) hs.1 hs.2.1 hs.2.2 z
  · rw [E5 c] at z
    exact absurd z c
theorem PY (a b:Int):a≤o_ a b∧b≤o_ a b:=by unfold o_;split <;> omega
theorem JB (pre:ah) (p:Ty.d aM) (s:Lt):(j4 pre p s).2.1=o_ p.2.2.2.1.2.1 s.2.1:=by
 unfold j4
 cases p.2.2.2.1.1==3
 · cases p.2.2.2.1.1==5
   · rfl
   · cases jd p.2.2.2.1 (bz pre) <;> rfl
 · cases jd p.2.2.2.1 (fO p.2.2.2.1.2.1 pre) <;> rfl
theorem vG:∀ (r pre:ah) (s:Lt),(gr pre r s).2.2=0→s.2.1≤(gr pre r s).2.1∧(∀ p ∈ r,LE.le (α:=Int) p.2.2.2.1.2.1 (gr pre r s).2.1)∧∀ b:Int,s.2.1≤b→(∀ p ∈ r,LE.le (α:=Int) p.2.2.2.1.2.1 b)→(gr pre r s).2.1≤b
 | [],pre,s,_=>⟨Int.le_refl _,fun p hp=>(by cases hp),fun b h _=>h⟩
 | p::r,pre,s,z=>by
  by_cases c:s.2.2=0
  · have e:gr pre (p::r) s=gr (pre++[p]) r (j4 pre p s):=by
     show (bif s.2.2 != 0 then _ else _)=_
     rw [c];rfl
    rw [e] at z ⊢
    obtain ⟨i1,i2,i3⟩:=vG r (pre++[p]) (j4 pre p s) z
    rw [JB] at i1 i3
    have hm:=PY p.2.2.2.1.2.1 s.2.1
    refine ⟨by omega,fun q hq=>?_,fun b h0 hb=>i3 b ?_ fun q hq=>hb q (kR _ hq)⟩
    · rcases List.mem_cons.1 hq with w | w
      · rw [w];exact Int.le_trans hm.1 i1
      · exact i2 q w
    · have:=hb p ii
      unfold o_
      split
      · exact this
      · exact h0
  · rw [E5 c] at z
    exact absurd z c
structure JT (pl:ah) (dir:aS) (b:Int):Prop where
 gr:∃ la,gr [] pl ([],0,0)=(dir,la,0)
 mark:bz pl=[]
 bat:∀ p ∈ pl,LT.lt (α:=Int) p.2.2.2.1.2.1 b
 lo:LE.le (α:=Int) 1 b
 hi:LE.le (α:=Int) b 1000001
def MI (st:Ty.d aD) (d:Ty.d aA):Prop:=∃ L,TX st d L∧JT (jE L) st.2.1 st.2.2.1
theorem Nl {r:Ty.d ba} (h:bd r=true) (hk:r.1=1∨r.1=4):eT r.2.2.1=true∧decide ((1:Int)≤r.2.1∧r.2.1≤1000000)=true:=by
 have hb:(r.1==1||r.1==4)=true:=by rcases hk with q | q <;> rw [q] <;> rfl
 unfold bd at h
 rw [hb,aa] at h
 simp only [iA] at h
 exact ⟨h.1,h.2.2.2.2⟩
theorem MI.store {st:Ty.d aD} {d:Ty.d aA} (h:MI st d):dj st d=true∧EI st:=by
 obtain ⟨L,t,j⟩:=h
 obtain ⟨la,hg⟩:=j.gr
 obtain ⟨n1,n2,n3,_⟩:=gH (n:=st.1.1) (ids:=st.1.2.1) t.live
 obtain ⟨_,_,g1,_,_⟩:=bm (nx:=st.1.1) (ids:=st.1.2.1) t.live
 obtain ⟨e1,e2,e3⟩:=Nw (jE L) (jE L) [] ([],0,0) (fun p hp=>by cases hp) (fun p hp=>hp) (fun e he=>by cases he) List.Pairwise.nil (by decide) (by rw [hg])
 rw [hg] at e1 e2 e3
 have e1:EP (jE L) st.2.1:=e1
 have e2:cU (gw st.2.1):=e2
 have e3:st.2.1.length≤20:=e3
 have hb:=t.bt
 refine ⟨?_,fun e he=>?_⟩
 · unfold dj
   rw [jL.2 t.disk,t.live,ur.2 ⟨e3,fun e he=>?_,e2⟩,aV ⟨j.lo,j.hi⟩,(ud t.disk).2 ⟨hb.full,fun _=>hb.tail⟩]
   · simp only [Bool.true_and]
     rw [List.all_eq_true]
     intro e he
     obtain ⟨p,hp,q,hk⟩:=e1 e he
     have pi:=zF t hp
     unfold pI
     rw [q,pi.read]
     have hbt:=j.bat p hp
     show (true&&(seq (gA p).2.2.1 (gA p).2.2.1&&(((gA p).2.1==(gA p).2.1)&&((((gA p).1==1)||((gA p).1==4))&&!decide ((gA p).2.1≥st.2.2.1)))))=true
     rw [bZ,beq_self_eq_true,aY (show ¬ (gA p).2.1≥st.2.2.1 from Int.not_le.2 hbt)]
     rcases hk with w | w
     · rw [show (gA p).1=1 from w];rfl
     · rw [show (gA p).1=4 from w];rfl
   · obtain ⟨p,hp,q,hk⟩:=e1 e he
     have pi:=zF t hp
     obtain ⟨k1,k2⟩:=Nl pi.ok hk
     rw [q]
     unfold OC
     show (eT (gA p).2.2.1&&(decide ((1:Int)≤p.1∧p.1≤100000)&&(!decide (p.2.1<(0:Int))&&(decide ((1:Int)≤p.2.2.1∧p.2.2.1≤210)&&decide ((1:Int)≤(gA p).2.1∧(gA p).2.1≤1000000)))))=true
     rw [k1,k2,aV ⟨pi.lo,FP pi.hi n2⟩,aY (Int.not_lt.2 pi.at0),aV ⟨pi.len0,pi.len1⟩]
     rfl
 · obtain ⟨p,hp,q,_⟩:=e1 e he
   have pi:=zF t hp
   rw [q]
   exact ⟨pi.lo,pi.hi⟩
theorem yA {ids:List Int} {L:rS} (h:ids=L.map (·.1)) (h1:1≤ids.length):∃ L0 x,L=L0++[x]∧bj ids=x.1:=by
 rcases List.eq_nil_or_concat L with e | ⟨L0,x,e⟩
 · rw [h,e] at h1
   cases h1
 · rw [List.concat_eq_append] at e
   refine ⟨L0,x,e,?_⟩
   rw [h,e,List.map_append,List.map_singleton,uV]
theorem G8 (x:Int) (rs:jM) (r:Ty.d ba):tK (x,rs++[r])=tK (x,rs)++[(x,(((aU rs).size:Int),(ar r,(r,()))))]:=by
 unfold tK bY
 show List.map _ (eh (rs++[r]) 0)=List.map _ (eh rs 0)++_
 rw [Bc,List.map_append,Int.zero_add]
 rfl
theorem A5 (L:rS) (x:Int × jM):jE (L++[x])=jE L++tK x:=by
 rw [I9]
 show jE L++(tK x++[])=_
 rw [List.append_nil]
theorem Ki {st:Ty.d aD} {d:Ty.d aA} {L:rS} (h:TX st d L) {r:Ty.d ba} (hr:bd r=true) :
 ∃ L',TX (iT st d r).1.1 (iT st d r).1.2.1 L'∧jE L'=jE L++(bif (iT st d r).1.2.2==0 then [(iT st d r).2] else [])∧((iT st d r).1.2.2=0→gA (iT st d r).2=r):=by
 obtain ⟨n1,n2,n3,n4⟩:=gH (n:=st.1.1) (ids:=st.1.2.1) h.live
 obtain ⟨_,_,g1,_,_⟩:=bm (nx:=st.1.1) (ids:=st.1.2.1) h.live
 obtain ⟨L0,x,eL,el⟩:=yA h.ids g1
 have ha:=qm h.disk (bR st) (aT (aI r))
 have ko:∀ s,bR st≠s→fT (jA d (bR st) (aT (aI r))).1 s=fT d s:=fun s q=>uA q
 have kl:=qk (d:=d) (s:=bR st) (x:=aT (aI r))
 have hact:bR st=a_ aF x.1:=by unfold bR;rw [el]
 unfold iT
 generalize jA d (bR st) (aT (aI r))=a at ha ko kl ⊢
 cases c:a.2 != 0 with
 | true =>
  have c0:(a.2==0)=false:=by unfold bne at c;simpa using c
  rw [c0,aJ] at kl
  have all:∀ s,fT a.1 s=fT d s:=fun s=>by
   by_cases q:bR st=s
   · rw [← q];exact kl
   · exact ko s q
  have ht:((tl a).2==0)=false:=by
   have:=lf a
   rw [c] at this
   unfold bne at this
   simpa using this
  refine ⟨L,⟨h.live,ha,h.ids,fun y hy=>⟨(all _).trans (h.text y hy).1,(h.text y hy).2⟩,fun t q=>h.tail t ((all _).symm.trans q)⟩,?_,fun q=>?_⟩
  · show jE L=jE L++(bif (tl a).2==0 then _ else [])
    rw [ht,aJ,List.append_nil]
  · have q:(tl a).2=0:=q
    rw [q] at ht
    cases ht
 | false =>
  have c0:(a.2==0)=true:=beq_iff_eq.2 (f8 c)
  have hx:x ∈ L:=by rw [eL];exact List.mem_append_right _ ii
  obtain ⟨x1,x2⟩:=h.text x hx
  rw [c0,aa,hact,x1] at kl
  have kl:fT a.1 (a_ aF x.1)=some (aU x.2++aT (aI r)):=kl
  have e2:aU (x.2++[r])=aU x.2++aT (aI r):=by rw [nU,AF]
  have hsz:st.2.2.2.1=((aU x.2).size:Int):=h.tail _ (by rw [hact];exact x1)
  have hm:x.1 ∈ st.1.2.1:=by rw [h.ids];exact List.mem_map.2 ⟨x,hx,rfl⟩
  simp only [aJ]
  refine ⟨L0++[(x.1,x.2++[r])],⟨h.live,ha,?_,fun y hy=>?_,fun t q=>?_⟩,?_,fun _=>rfl⟩
  · show st.1.2.1=_
    rw [h.ids,eL,List.map_append,List.map_append]
    rfl
  · rcases List.mem_append.1 hy with w | w
    · have hyL:y ∈ L:=by rw [eL];exact List.mem_append_left _ w
      have hym:y.1 ∈ st.1.2.1:=by rw [h.ids];exact List.mem_map.2 ⟨y,hyL,rfl⟩
      have hne:y.1≠x.1:=by
       have hp:=n4
       rw [h.ids,eL,List.map_append] at hp
       have:=(List.pairwise_append.1 hp).2.2 y.1 (List.mem_map.2 ⟨y,w,rfl⟩) x.1 ii
       omega
      refine ⟨?_,(h.text y hyL).2⟩
      show fT a.1 (a_ aF y.1)=_
      rw [ko _ (by rw [hact];exact pq ⟨(n3 _ hm).1,FP (n3 _ hm).2 n2⟩ ⟨(n3 _ hym).1,FP (n3 _ hym).2 n2⟩ fun q=>hne q.symm)]
      exact (h.text y hyL).1
    · rw [List.mem_singleton.1 w]
      refine ⟨by show fT a.1 (a_ aF x.1)=some (aU (x.2++[r]));rw [kl,e2],fun q hq=>?_⟩
      rcases List.mem_append.1 hq with v | v
      · exact x2 q v
      · rw [List.mem_singleton.1 v];exact hr
  · have q:fT a.1 (bR st)=some t:=q
    rw [hact,kl] at q
    rw [← Option.some.inj q,ByteArray.size_append]
    show @Eq Int (st.2.2.2.1+ar r) (((aU x.2).size+(aT (aI r)).size:Nat):Int)
    rw [hsz]
    unfold ar
    omega
  · show jE (L0++[(x.1,x.2++[r])])=jE L++[(bj st.1.2.1,(st.2.2.2.1,(ar r,(r,()))))]
    rw [A5,G8,eL,A5,nw,el,hsz]
theorem OZ {st:Ty.d aD} {d:Ty.d aA} {L:rS} (h:TX st d L):∃ L',TX (gu st d).1 (gu st d).2.1 L'∧jE L'=jE L:=by
 obtain ⟨n1,n2,n3,n4⟩:=gH (n:=st.1.1) (ids:=st.1.2.1) h.live
 obtain ⟨f1,f2,_,_⟩:=se h.live h.disk
 have hseg:∀ x:Int,x ∈ st.1.2.1→1≤x∧x≤100000:=fun x hx=>⟨(n3 x hx).1,FP (n3 x hx).2 n2⟩
 have hnew:∀ x ∈ st.1.2.1,a_ aF st.1.1≠a_ aF x:=fun x hx=>pq ⟨n1,n2⟩ (hseg x hx) (by have:=(n3 x hx).2;omega)
 have k1:∀ x ∈ st.1.2.1,fT (dS d (bR st)).1 (a_ aF x)=fT d (a_ aF x):=fun x hx=>kp
 have k2:∀ x ∈ st.1.2.1,fT (aw (a_ aF st.1.1) (dS d (bR st)).1).1 (a_ aF x)=fT d (a_ aF x):=fun x hx=>(lI (hnew x hx)).trans kp
 have k3:∀ x ∈ st.1.2.1,fT (bB (kZ st) (aw (a_ aF st.1.1) (dS d (bR st)).1).1).1 (a_ aF x)=fT d (a_ aF x):=fun x hx=>(fb (iJ (hseg x hx)) (jG (hseg x hx))).trans (k2 x hx)
 have o2:=lT (s:=a_ aF st.1.1) (d:=(dS d (bR st)).1)
 have o3:fT (bB (kZ st) (aw (a_ aF st.1.1) (dS d (bR st)).1).1).1 (a_ aF st.1.1)=fT (aw (a_ aF st.1.1) (dS d (bR st)).1).1 (a_ aF st.1.1):=fb (iJ ⟨n1,n2⟩) (jG ⟨n1,n2⟩)
 obtain ⟨_,_,g1,_,_⟩:=bm (nx:=st.1.1) (ids:=st.1.2.1) h.live
 obtain ⟨L0,x,eL,el⟩:=yA h.ids g1
 have hmem:∀ y ∈ L,y.1 ∈ st.1.2.1:=fun y hy=>by rw [h.ids];exact List.mem_map.2 ⟨y,hy,rfl⟩
 have hx:x ∈ L:=by rw [eL];exact List.mem_append_right _ ii
 have same:∀ (st':Ty.d aD) (y:Ty.d aA),dl st'.1=true→DR y→st'.1.2.1=st.1.2.1→st'.2.2.2.1=st.2.2.2.1→(∀ x ∈ st.1.2.1,fT y (a_ aF x)=fT d (a_ aF x))→∃ L',TX st' y L'∧jE L'=jE L:=fun st' y hl hd hi hs hk =>
  ⟨L,⟨hl,hd,hi.trans h.ids,fun z hz=>⟨(hk _ (hmem z hz)).trans (h.text z hz).1,(h.text z hz).2⟩,fun t q=>by
   rw [hs]
   refine h.tail t ?_
   have e:bR st'=a_ aF x.1:=by unfold bR;rw [hi,el]
   have e':bR st=a_ aF x.1:=by unfold bR;rw [el]
   rw [e,hk _ (hmem x hx)] at q
   rw [e']
   exact q⟩,rfl⟩
 unfold gu at f1 f2 ⊢
 by_cases c1:(st.1.2.1.length:Int)≥60
 · rw [aV c1]
   exact ⟨L,h,rfl⟩
 by_cases c2:st.1.1≥(100000:Int)
 · rw [aY c1,aV c2]
   exact ⟨L,h,rfl⟩
 rw [aY c1,aY c2] at f1 f2 ⊢
 simp only [aJ] at f1 f2 ⊢
 generalize dS d (bR st)=r1 at k1 k2 k3 o2 o3 f1 f2 ⊢
 generalize aw (a_ aF st.1.1) r1.1=r2 at k2 k3 o2 o3 f1 f2 ⊢
 generalize bB (kZ st) r2.1=r3 at k3 o3 f1 f2 ⊢
 cases e1:r1.2 != 0 with
 | true=>rw [e1] at f1 f2;exact same _ _ f1 f2 rfl rfl k1
 | false =>
  rw [e1] at f1 f2
  simp only [aJ] at f1 f2 ⊢
  cases e2:r2.2 != 0 with
  | true=>rw [e2] at f1 f2;exact same _ _ f1 f2 rfl rfl k2
  | false =>
   rw [e2] at f1 f2
   simp only [aJ] at f1 f2 ⊢
   cases e3:r3.2 != 0 with
   | true =>
    rw [e3] at f1 f2
    refine same _ _ f1 f2 rfl rfl fun y hy=>?_
    show fT (qY (a_ aF st.1.1) (tl r3)).1 _=_
    unfold qY
    cases (tl r3).2==2 with
    | false=>exact k3 y hy
    | true =>
     refine (oi [iH,a_ aF st.1.1] r3.1 fun s hs=>?_).trans (k3 y hy)
     rcases List.mem_cons.1 hs with e | e
     · rw [e];exact iJ (hseg y hy)
     · rw [List.mem_singleton.1 e];exact hnew y hy
   | false =>
    rw [e3] at f1 f2
    have o2:=o2 (f8 e2)
    refine ⟨L++[(st.1.1,[])],⟨f1,f2,?_,fun y hy=>?_,fun u hu=>?_⟩,?_⟩
    · show st.1.2.1++[st.1.1]=_
      rw [List.map_append,← h.ids]
      rfl
    · rcases List.mem_append.1 hy with w | w
      · exact ⟨(k3 _ (hmem y w)).trans (h.text y w).1,(h.text y w).2⟩
      · rw [List.mem_singleton.1 w]
        exact ⟨o3.trans o2,fun q hq=>by cases hq⟩
    · have hu:fT r3.1 (a_ aF (bj (st.1.2.1++[st.1.1])))=some u:=hu
      rw [uV,o3,o2] at hu
      rw [← Option.some.inj hu]
      rfl
    · rw [A5]
      exact List.append_nil _
theorem Pi {st:Ty.d aD} {d:Ty.d aA} {L:rS} (h:TX st d L) {r:Ty.d ba} (hr:bd r=true) :
 ∃ L',TX (eI st d r).1.1 (eI st d r).1.2.1 L'∧jE L'=jE L++(bif (eI st d r).1.2.2==0 then [(eI st d r).2] else [])∧((eI st d r).1.2.2=0→gA (eI st d r).2=r):=by
 unfold eI
 cases decide (st.2.2.2.1 > 0)&&decide (st.2.2.2.1+ar r > 200) with
 | false=>exact Ki h hr
 | true =>
  simp only [aa]
  obtain ⟨L1,t1,e1⟩:=OZ h
  generalize gu st d=q at t1 ⊢
  cases c:q.2.2 != 0 with
  | true =>
   have c0:(q.2.2==0)=false:=by unfold bne at c;simpa using c
   refine ⟨L1,t1,?_,fun z=>?_⟩
   · show jE L1=jE L++(bif q.2.2==0 then _ else [])
     rw [c0,aJ,List.append_nil,e1]
   · have z:q.2.2=0:=z
     rw [z] at c0
     cases c0
  | false =>
   simp only [aJ]
   obtain ⟨L2,t2,e2,e3⟩:=Ki t1 hr
   exact ⟨L2,t2,by rw [e2,e1],e3⟩
theorem DU:∀ (l:jM) (st:Ty.d aD) (d:Ty.d aA) (ps:ah) (L:rS),TX st d L→(∀ r ∈ l,bd r=true) →
 ∃ L' q,TX (d5 l st d ps).1.1 (d5 l st d ps).1.2.1 L'∧jE L'=jE L++q∧q.map gA=l.take q.length∧((d5 l st d ps).1.2.2=0→(d5 l st d ps).2=ps++q∧q.length=l.length)∧((d5 l st d ps).1.2.2≠0→q.length<l.length)
 | [],st,d,ps,L,h,_=>⟨L,[],h,(List.append_nil _).symm,rfl,fun _=>⟨(List.append_nil _).symm,rfl⟩,fun z=>absurd rfl z⟩
 | r::l,st,d,ps,L,h,hr=>by
  obtain ⟨L1,t1,e1,e2⟩:=Pi h (hr r ii)
  unfold d5
  generalize eI st d r=a at t1 e1 e2 ⊢
  cases c:a.1.2.2 != 0 with
  | true =>
   have c0:(a.1.2.2==0)=false:=by unfold bne at c;simpa using c
   rw [c0,aJ] at e1
   refine ⟨L1,[],t1,e1,rfl,fun z=>?_,fun _=>Nat.zero_lt_succ _⟩
   have z:a.1.2.2=0:=z
   rw [z] at c0
   cases c0
  | false =>
   have c0:=f8 c
   rw [show (a.1.2.2==0)=true from beq_iff_eq.2 c0,aa] at e1
   obtain ⟨L2,q,t2,f1,f2,f3,f4⟩:=DU l a.1.1 a.1.2.1 (ps++[a.2]) L1 t1 fun x hx=>hr x (kR _ hx)
   simp only [aJ]
   refine ⟨L2,a.2::q,t2,by rw [f1,e1,nw];rfl,?_,fun z=>?_,fun z=>?_⟩
   · rw [List.map_cons,jj,List.take_succ_cons,f2,e2 c0]
   · obtain ⟨g1,g2⟩:=f3 z
     exact ⟨by rw [g1,nw];rfl,by rw [jj,jj,g2]⟩
   · have:=f4 z
     rw [jj,jj]
     omega
theorem Nc {d:Ty.d aA} {a b:ByteArray} (hd:DR d) (hab:a≠b) (z:(wB d a b).2=0):fT (wB d a b).1 a=none:=by
 obtain ⟨c1,c2⟩:=nL z
 unfold fT
 show (bS (i_ d (uf a b)).1.1 a).map _=_
 rw [c2]
 unfold uf at c1 ⊢
 cases c3:j9 b with
 | false=>rw [c3] at c1;exact absurd c1 (by show (5:Int)≠0;decide)
 | true =>
  rw [c3] at c1
  simp only [fN,aJ] at c1 ⊢
  cases c4:bS d.1 a with
  | none=>rw [c4] at c1;exact absurd c1 (by show (3:Int)≠0;decide)
  | some f =>
   simp only []
   rw [kE hab,aJ]
   show (bS (kc (gR (gR d.1 a) b) (b,f.2)) a).map _=_
   rw [yt (f:=(b,f.2)) (fun q=>hab q.symm),yP hab,p8 hd.keys a]
   rfl
structure DS (d:Ty.d aA):Prop where
 l:d.1.length≤131
 u:di d.1≤200000
 n:tY d.1≤10000
theorem DS.sz {d:Ty.d aA} (h:DS d):ED d:=⟨by have:=h.l;omega,by have:=h.u;omega,by have:=h.n;omega⟩
theorem BE (ids:List Int):∀ (l:bo) (acc:List ByteArray),s5 ids l acc=acc++(l.filter (p7 ids)).map (·.1)
 | [],acc=>(List.append_nil acc).symm
 | f::l,acc=>by
  unfold s5
  rw [BE ids l,List.filter_cons]
  cases p7 ids f with
  | true=>rw [aa,if_pos rfl,List.map_cons,nw];rfl
  | false=>rw [aJ,if_neg (by decide)]
theorem Jb (st:Ty.d aD) (d:Ty.d aA):(gu st d).1.2.2.1=st.2.2.1:=by
 unfold gu
 cases decide ((st.1.2.1.length:Int)≥60) with
 | true=>rfl
 | false =>
  cases decide (st.1.1≥(100000:Int)) with
  | true=>rfl
  | false =>
   simp only [aJ]
   generalize dS d (bR st)=r1
   generalize aw (a_ aF st.1.1) r1.1=r2
   generalize bB (kZ st) r2.1=r3
   cases r1.2 != 0 with
   | true=>rfl
   | false =>
    cases r2.2 != 0 with
    | true=>rfl
    | false =>
     cases r3.2 != 0 with
     | true=>rfl
     | false=>rfl
theorem CM (st:Ty.d aD) (d:Ty.d aA) (r:Ty.d ba):(iT st d r).1.1.2.2.1=st.2.2.1:=by
 unfold iT
 generalize jA d (bR st) (aT (aI r))=a
 cases a.2 != 0 <;> rfl
theorem JA (st:Ty.d aD) (d:Ty.d aA) (r:Ty.d ba):(eI st d r).1.1.2.2.1=st.2.2.1:=by
 have h:=Jb st d
 unfold eI
 cases decide (st.2.2.2.1 > 0)&&decide (st.2.2.2.1+ar r > 200) with
 | false=>exact CM st d r
 | true =>
  simp only [aa]
  generalize gu st d=q at h ⊢
  cases q.2.2 != 0 with
  | true=>exact h
  | false=>exact (CM q.1 q.2.1 r).trans h
theorem uF:∀ (l:jM) (st:Ty.d aD) (d:Ty.d aA) (ps:ah),(d5 l st d ps).1.1.2.2.1=st.2.2.1
 | [],_,_,_=>rfl
 | r::l,st,d,ps=>by
  have h:=JA st d r
  unfold d5
  generalize eI st d r=q at h ⊢
  cases q.1.2.2 != 0 with
  | true=>exact h
  | false=>exact (uF l _ _ _).trans h
theorem MA (l:fC) (b:Int):(dT l b).length=l.length+1:=by
 unfold dT
 rw [py,List.length_map]
 rfl
def dn (d:Ty.d aA):Bool:=d.2.2.2.1
theorem Ka {d:Ty.d aA} {n t:ByteArray} (hd:DR d) (ht:fT d n=some t) (z:(dS d n).2≠0):dn (dS d n).1=true:=by
 have hn:(bS d.1 n).isNone=false:=by
  cases q:bS d.1 n with
  | none=>rw [Cq.1 q] at ht;cases ht
  | some f=>rfl
 unfold dS i_ at z ⊢
 have hb:(li d).2≠0→dn (li d).1=true:=fun q=>by
  unfold li at q ⊢
  rw [jL.2 hd] at q ⊢
  simp only [fN,aJ] at q ⊢
  cases c1:d.2.2.2.1 with
  | true=>rfl
  | false =>
   rw [c1] at q
   simp only [aJ] at q ⊢
   cases c2:(d.2.2.1==0) with
   | true=>rfl
   | false =>
    rw [c2] at q
    simp only [aJ] at q
    cases c3:decide ((d.2.2.1:Int) > 0) with
    | true=>rw [c3] at q;exact absurd rfl q
    | false=>rw [c3] at q;exact absurd rfl q
 cases c:(li d).2 != 0 with
 | true =>
  rw [aa]
  exact hb (bne_iff_ne.1 c)
 | false =>
  rw [c,aJ] at z
  exfalso
  unfold va at z
  rw [hn] at z
  exact z rfl
theorem KQ {st:Ty.d aD} {d:Ty.d aA} {L:rS} (h:TX st d L):∃ t,fT d (bR st)=some t:=by
 obtain ⟨_,_,g1,_,_⟩:=bm (nx:=st.1.1) (ids:=st.1.2.1) h.live
 obtain ⟨L0,x,eL,el⟩:=yA h.ids g1
 exact ⟨_,by unfold bR;rw [el];exact (h.text x (by rw [eL];exact List.mem_append_right _ ii)).1⟩
theorem wX (b:Int) (x:Ty.d aW):((gW b x).1=1∨(gW b x).1=2)∧(gW b x).2.1=b:=by
 unfold gW
 cases x.2.1 with
 | true=>exact ⟨.inr rfl,rfl⟩
 | false=>exact ⟨.inl rfl,rfl⟩
theorem uL {q:ah} {l:fC} {b:Int} {n:Nat} (h:q.map gA=(l.map (gW b)).take n):∀ p ∈ q,plain p∧p.2.2.2.1.2.1=b:=fun p hp=>by
 have hm:gA p ∈ (l.map (gW b)).take n:=by rw [← h];exact List.mem_map.2 ⟨p,hp,rfl⟩
 obtain ⟨x,_,e⟩:=List.mem_map.1 (List.mem_of_mem_take hm)
 obtain ⟨h1,h2⟩:=wX b x
 rw [e] at h1 h2
 exact ⟨h1,h2⟩
theorem JF {pre own:ah} {s:Ty.d aM} {l:fC} {b:Int} {dir:aS} {la:Int} (hp:∀ p ∈ pre,p.2.2.2.1.2.1≠b) (ho:own.map gA=l.map (gW b)) (hs:gA s=gp 3 b (l.map (gW b))) (h20:(cV dir own).length≤20) :
 ∃ la',j4 (pre++own) s (dir,la,0)=(cV dir own,la',0):=by
 have hown:∀ p ∈ own,plain p∧p.2.2.2.1.2.1=b:=uL (n:=(l.map (gW b)).length) (by rw [List.take_length];exact ho)
 have hk:s.2.2.2.1=gp 3 b (l.map (gW b)):=hs
 have e:fO b (pre++own)=own:=by
  rw [xE]
  show own.foldl (fY b) (pre.foldl (fY b) [])=_
  rw [zt pre [] hp,EK own [] hown,List.nil_append]
 have hf:jd (gp 3 b (l.map (gW b))) own=true:=by
  unfold jd gp
  have:own.map AQ=l.map (gW b):=ho
  rw [this,beq_self_eq_true,← ho,List.length_map,beq_self_eq_true]
  rfl
 refine ⟨o_ b la,?_⟩
 unfold j4
 rw [hk]
 show (bif (3:Int)==3 then (bif jd (gp 3 b (l.map (gW b))) (fO b (pre++own)) then (cV dir (fO b (pre++own)),o_ b la,nf (cV dir (fO b (pre++own))) 0) else _) else _)=_
 rw [e,hf]
 show (cV dir own,o_ b la,nf (cV dir own) 0)=_
 unfold nf
 rw [if_neg (by omega)]
theorem Lq {st:Ty.d aD} {d:Ty.d aA} {l:fC} (h:MI st d) (hp:dN l=true) (hb:LE.le (α:=Int) st.2.2.1 1000000) (ha:nn st.2.1 l≤20) (hn:dn (cN st d l).2.1=false):MI (cN st d l).1 (cN st d l).2.1:=by
 obtain ⟨hs,he⟩:=h.store
 have hw:=xU hs he hp hb ha
 obtain ⟨L,t,j⟩:=h
 obtain ⟨la,hg⟩:=j.gr
 have t0:TX (kz st) d L:=⟨t.live,t.disk,t.ids,t.text,t.tail⟩
 obtain ⟨L',q,t1,e1,e2,e3,e4⟩:=DU (dT l st.2.2.1) (kz st) d [] L t0 (oC hp j.lo hb)
 have hdir:(d5 (dT l st.2.2.1) (kz st) d []).1.1.2.1=st.2.1:=by
  obtain ⟨g1,_,_⟩:=dM hs
  exact (uX (dT l st.2.2.1) (kz st) d [] 100000 ⟨g1.live,g1.disk,g1.lo,g1.hi⟩ (by decide)).2.1
 have hbat:(d5 (dT l st.2.2.1) (kz st) d []).1.1.2.2.1=(st.2.2.1+1:Int):=uF _ _ _ _
 have hlen:=MA l st.2.2.1
 obtain ⟨b1,b2⟩:=Pv j.lo hb
 have hbq:∀ p ∈ q,p.2.2.2.1.2.1=st.2.2.1:=fun p hp=>by
  have hm:gA p ∈ dT l st.2.2.1:=List.mem_of_mem_take (by rw [← e2];exact List.mem_map.2 ⟨p,hp,rfl⟩)
  unfold dT at hm
  rcases List.mem_append.1 hm with w | w
  · obtain ⟨x,_,e⟩:=List.mem_map.1 w
    have:=(wX st.2.2.1 x).2
    rw [e] at this
    exact this
  · have:=List.mem_singleton.1 w
    show (gA p).2.1=_
    rw [this]
    rfl
 have hbat2:∀ p ∈ jE L',LT.lt (α:=Int) p.2.2.2.1.2.1 (st.2.2.1+1):=fun p hp=>by
  rw [e1] at hp
  rcases List.mem_append.1 hp with w | w
  · exact Int.lt_trans (j.bat p w) (Int.lt_succ _)
  · rw [hbq p w];exact Int.lt_succ _
 have hmark:∀ q':ah,(∀ p ∈ q',p ∈ q)→bz (jE L++q')=[]:=fun q' hq=>by
  rw [mH,j.mark]
  refine A4 q' [] fun p hp=>?_
  have hm:gA p ∈ dT l st.2.2.1:=List.mem_of_mem_take (by rw [← e2];exact List.mem_map.2 ⟨p,hq p hp,rfl⟩)
  unfold dT at hm
  rcases List.mem_append.1 hm with w | w
  · obtain ⟨x,_,e⟩:=List.mem_map.1 w
    have:=(wX st.2.2.1 x).1
    rw [e] at this
    have this:p.2.2.2.1.1=1∨p.2.2.2.1.1=2:=this
    rcases this with v | v <;> rw [v] <;> exact ⟨by decide,by decide⟩
  · have:=List.mem_singleton.1 w
    have e:p.2.2.2.1.1=3:=by
     show (gA p).1=3
     rw [this]
     rfl
    rw [e]
    exact ⟨by decide,by decide⟩
 have some:q.length≤l.length→JT (jE L') st.2.1 (st.2.2.1+1):=fun hq=>by
  have e2':q.map gA=(l.map (gW st.2.2.1)).take q.length:=by
   rw [e2]
   unfold dT
   rw [List.take_append_of_le_length (by rw [List.length_map];exact hq)]
  obtain ⟨la',hla⟩:=yw q (jE L) st.2.1 la fun p hp=>(uL e2' p hp).1
  refine ⟨⟨la',?_⟩,by rw [e1];exact hmark q fun p hp=>hp,hbat2,b1,b2⟩
  rw [e1,sS,hg]
  exact hla
 unfold cN at hn hw ⊢
 generalize d5 (dT l st.2.2.1) (kz st) d []=a at t1 e3 e4 hdir hbat hn hw ⊢
 unfold xx at hn hw ⊢
 cases c:a.1.2.2 != 0 with
 | true =>
  have hlt:=e4 (bne_iff_ne.1 c)
  refine ⟨L',t1,?_⟩
  show JT (jE L') a.1.1.2.1 a.1.1.2.2.1
  rw [hdir,hbat]
  exact some (by omega)
 | false =>
  rw [c] at hn hw
  simp only [aJ] at hn hw ⊢
  obtain ⟨f1,f2⟩:=e3 (f8 c)
  obtain ⟨tt,ht⟩:=KQ t1
  have hsd:=fun z=>Ka t1.disk ht z
  have hsf:∀ s,fT (dS a.1.2.1 (bR a.1.1)).1 s=fT a.1.2.1 s:=fun s=>kp
  have hsD:=md t1.disk (bR a.1.1)
  generalize dS a.1.2.1 (bR a.1.1)=y at hn hw hsd hsf hsD ⊢
  cases c2:y.2 != 0 with
  | true =>
   rw [c2] at hn
   have hn:dn y.1=false:=hn
   rw [hsd (bne_iff_ne.1 c2)] at hn
   cases hn
  | false =>
   rw [c2] at hw
   simp only [aJ] at hw ⊢
   obtain ⟨s1,_⟩:=hw trivial
   have h20:=qy s1
   refine ⟨L',⟨t1.live,hsD,t1.ids,fun x hx=>⟨(hsf _).trans (t1.text x hx).1,(t1.text x hx).2⟩,fun t q=>t1.tail t ((hsf _).symm.trans q)⟩,?_⟩
   show JT (jE L') (cV a.1.1.2.1 (a.2.take l.length)) a.1.1.2.2.1
   have h20:(cV a.1.1.2.1 (a.2.take l.length)).length≤20:=h20
   rw [hdir,f1,List.nil_append] at h20
   rw [hdir,hbat,f1,List.nil_append]
   have hq1:q.length=l.length+1:=by omega
   obtain ⟨own,s,eq⟩:∃ own s,q=own++[s]:=by
    rcases List.eq_nil_or_concat q with w | ⟨a',b',w⟩
    · rw [w] at hq1;cases hq1
    · exact ⟨a',b',by rw [w,List.concat_eq_append]⟩
   subst eq
   have ho1:own.length=l.length:=by
    rw [py,List.length_singleton] at hq1
    omega
   have et:(own++[s]).take l.length=own:=by rw [← ho1];exact List.take_left
   rw [et] at h20 ⊢
   have e2f:(own++[s]).map gA=dT l st.2.2.1:=by rw [e2,f2,List.take_length]
   rw [List.map_append] at e2f
   unfold dT at e2f
   obtain ⟨m1,m2⟩:=List.append_inj e2f (by rw [List.length_map,List.length_map];exact ho1)
   have m2:gA s=gp 3 st.2.2.1 (l.map (gW st.2.2.1)):=(List.cons.inj m2).1
   have hown:∀ p ∈ own,plain p∧p.2.2.2.1.2.1=st.2.2.1:=uL (n:=(l.map (gW st.2.2.1)).length) (by rw [List.take_length];exact m1)
   obtain ⟨la1,hla1⟩:=yw own (jE L) st.2.1 la fun p hp=>(hown p hp).1
   obtain ⟨la2,hla2⟩:=JF (pre:=jE L) (own:=own) (s:=s) (dir:=st.2.1) (la:=la1) (fun p hp=>Int.ne_of_lt (j.bat p hp)) m1 m2 h20
   refine ⟨⟨la2,?_⟩,by rw [e1];exact hmark _ fun p hp=>hp,hbat2,b1,b2⟩
   rw [e1,sS,hg]
   show gr (jE L) (own++[s]) (st.2.1,la,0)=_
   rw [sS,hla1]
   exact hla2
theorem ER {a b:Int} (h:a≤b):∀ (l:List Int) (p:Option Int),pR (qA a) p l=true→pR (qA b) p l=true
 | [],_,_=>rfl
 | x::l,p,q=>by
  unfold pR at q ⊢
  rw [iA] at q ⊢
  refine ⟨?_,ER h l (some x) q.2⟩
  have q1:=q.1
  unfold qA at q1 ⊢
  rw [iA,decide_eq_true_eq] at q1 ⊢
  exact ⟨⟨q1.1.1,Int.le_trans q1.1.2 h⟩,q1.2⟩
theorem Ji {n:Int} {ids:List Int} (h:dl (n,(ids,()))=true) (hn:n+2≤100000):dl (n+2,(ids,()))=true:=by
 obtain ⟨g1,g2,_⟩:=bm h
 unfold dl at h ⊢
 simp only [iA,decide_eq_true_eq] at h ⊢
 rw [aE (n:=n+2-1) (by omega) (by omega)]
 rw [aE (n:=n-1) (by omega) (by omega)] at h
 exact ⟨⟨show (1:Int)≤n+2 by omega,show n+2≤(100000:Int) from hn⟩,h.2.1,ER (by omega) _ _ h.2.2⟩
theorem zX:∀ (q pre:ah) (d:aS) (la:Int),(∀ p ∈ q,p.2.2.2.1.1≠3∧p.2.2.2.1.1≠5)→∃ la',gr pre q (d,la,0)=(d,la',0)
 | [],_,d,la,_=>⟨la,rfl⟩
 | p::q,pre,d,la,h=>by
  obtain ⟨h3,h5⟩:=h p ii
  obtain ⟨la',e⟩:=zX q (pre++[p]) d (o_ p.2.2.2.1.2.1 la) fun x hx=>h x (kR _ hx)
  refine ⟨la',?_⟩
  unfold gr j4
  rw [pz h3,pz h5]
  exact e
theorem uJ:∀ (q acc:ah),(∀ p ∈ q,p.2.2.2.1.1=4)→q.foldl gg acc=acc++q
 | [],acc,_=>(List.append_nil acc).symm
 | p::q,acc,h=>by
  have e:gg acc p=acc++[p]:=by
   unfold gg
   rw [h p ii]
   rfl
  rw [List.foldl_cons,e,uJ q (acc++[p]) fun x hx=>h x (kR _ hx),nw]
  rfl
theorem Ih {dir:aS} {e:Ty.d aB} (h:∀ x ∈ dir,nT x.1 e.1=true):rB dir e=dir++[e]:=by
 have h1:lY dir e.1=dir:=by
  unfold lY
  refine List.filter_eq_self.2 fun x hx=>?_
  have hs:=h x hx
  cases c:seq x.1 e.1 with
  | false=>rfl
  | true =>
   rw [eE.1 c] at hs
   exact absurd hs (by rw [nM];decide)
 unfold rB uE
 rw [h1]
 obtain ⟨w1,w2⟩:=C1 (p:=Nf e.1) (l:=dir) fun x hx=>by
  unfold Nf
  rw [h x hx]
  rfl
 rw [w1,w2]
theorem wx (m:Int):∀ (l:du) (a:Int) (dir:aS),cU (gw dir++l.map (·.1))→cV dir (bY m (eh (l.map cI) a))=dir++iI m l a
 | [],a,dir,_=>(List.append_nil dir).symm
 | p::l,a,dir,h=>by
  have e0:fy dir (m,(a,(ar (cI p),(cI p,()))))=dir++[(p.1,(m,(a,(ar (cI p),(p.2.2.1,())))))]:=by
   unfold fy
   show rB dir (p.1,(m,(a,(ar (cI p),(p.2.2.1,())))))=_
   refine Ih fun x hx=>?_
   rw [List.map_cons] at h
   exact (List.pairwise_append.1 h).2.2 x.1 (List.mem_map.2 ⟨x,hx,rfl⟩) p.1 ii
  show cV (fy dir (m,(a,(ar (cI p),(cI p,()))))) (bY m (eh (l.map cI) (a+ar (cI p))))=_
  rw [e0,wx m l (a+ar (cI p)) _ (by
   unfold gw
   rw [List.map_append,nw]
   exact h),nw]
  rfl
theorem Bv {st:Ty.d aD} {d:Ty.d aA} (h:dj st d=true):(∀ r ∈ fI (bX st.2.1 d).1 (st.2.2.1-1),bd r=true)∧∀ p ∈ (bX st.2.1 d).1,LT.lt (α:=Int) p.2.2.1 st.2.2.1:=by
 obtain ⟨k1,k2⟩:=wS h
 obtain ⟨b1,b2⟩:=AM h
 have h20:=qy h
 have hz:=sk st.2.1 d
 refine ⟨fun r hr=>?_,fun p hp=>?_⟩
 · unfold fI at hr
   rcases List.mem_append.1 hr with q | q
   · obtain ⟨p,hp,rfl⟩:=List.mem_map.1 q
     exact k1 p hp
   · rw [List.mem_singleton.1 q]
     have hs:=I3 ((bX st.2.1 d).1.map cI)
     unfold bd gp
     rw [show ((5:Int)==1||(5:Int)==4)=false from rfl,show ((5:Int)==2)=false from rfl,show ((5:Int)==3)=false from rfl,show ((5:Int)==5)=true from rfl]
     simp only [aJ,aa]
     rw [aV (show (0:Int)≤(((bX st.2.1 d).1.map cI).length:Int)∧(((bX st.2.1 d).1.map cI).length:Int)≤20 by rw [List.length_map];omega),aV hs,aV (Mo b1 b2),show seq ByteArray.empty ⟨#[]⟩=true from bZ _]
     rfl
 · rw [ku h] at hp
   obtain ⟨e,he,rfl⟩:=List.mem_map.1 hp
   unfold dj at h
   simp only [iA] at h
   have hin:=List.all_eq_true.1 h.2.2.2.2.2 e he
   unfold pI at hin
   simp only [iA,beq_iff_eq,Bool.not_eq_true',decide_eq_false_iff_not] at hin
   show LT.lt (α:=Int) (dc d e).1.2.1 st.2.2.1
   rw [hin.2.2.1]
   exact Int.not_le.1 hin.2.2.2.2
theorem CK {pre:ah} {p:Ty.d aM} {dir:aS} {la:Int} (hk:p.2.2.2.1.1=5) (hf:jd p.2.2.2.1 (bz pre)=true) (h20:(cV dir (bz pre)).length≤20):j4 pre p (dir,la,0)=(cV dir (bz pre),o_ p.2.2.2.1.2.1 la,0):=by
 unfold j4
 rw [hk,show ((5:Int)==3)=false from rfl,aJ,show ((5:Int)==5)=true from rfl,aa,hf,aa]
 show (cV dir (bz pre),o_ p.2.2.2.1.2.1 la,nf (cV dir (bz pre)) 0)=_
 unfold nf
 rw [if_neg (by omega)]
theorem N5 {m b:Int} {l:du} (hk:cU (l.map (·.1))) (h20:l.length≤20) (hb:∀ p ∈ l,LT.lt (α:=Int) p.2.2.1 b) (b1:LE.le (α:=Int) 1 b) (b2:LE.le (α:=Int) b 1000001):JT (jE [(m,fI l (b-1)),(m+1,[])]) (iI m l 0) b:=by
 have e0:jE [(m,fI l (b-1)),(m+1,[])]=bY m (eh (l.map cI) 0)++[(m,(((aU (l.map cI)).size:Int),(ar (gp 5 (b-1) (l.map cI)),(gp 5 (b-1) (l.map cI),()))))]:=by
  show tK (m,fI l (b-1))++([]++[])=_
  rw [List.append_nil,List.append_nil]
  unfold fI
  exact G8 m (l.map cI) _
 have hq:∀ p ∈ bY m (eh (l.map cI) 0),p.2.2.2.1 ∈ l.map cI:=fun p hp=>by
  have:∀ (rs:jM) (a:Int),∀ x ∈ eh rs a,x.2.2.1 ∈ rs:=by
   intro rs
   induction rs with
   | nil=>exact fun a x hx=>by cases hx
   | cons r rs ih =>
    intro a x hx
    rw [eh] at hx
    rcases List.mem_cons.1 hx with w | w
    · rw [w];exact ii
    · exact kR _ (ih _ x w)
  unfold bY at hp
  obtain ⟨x,hx,rfl⟩:=List.mem_map.1 hp
  exact this _ _ x hx
 have h4:∀ p ∈ bY m (eh (l.map cI) 0),p.2.2.2.1.1=4∧LT.lt (α:=Int) p.2.2.2.1.2.1 b:=fun p hp=>by
  obtain ⟨x,hx,e⟩:=List.mem_map.1 (hq p hp)
  rw [← e]
  exact ⟨rfl,hb x hx⟩
 have hrec:∀ (rs:jM) (a:Int),(bY m (eh rs a)).map AQ=rs:=by
  intro rs
  induction rs with
  | nil=>exact fun _=>rfl
  | cons r rs ih =>
   intro a
   show r::(bY m (eh rs (a+ar r))).map AQ=_
   rw [ih]
 have hown:bz (bY m (eh (l.map cI) 0))=bY m (eh (l.map cI) 0):=by
  unfold bz
  rw [uJ _ _ fun p hp=>(h4 p hp).1,List.nil_append]
 have hf:jd (gp 5 (b-1) (l.map cI)) (bY m (eh (l.map cI) 0))=true:=by
  have hl:(bY m (eh (l.map cI) 0)).length=(l.map cI).length:=by
   have:=congrArg List.length (hrec (l.map cI) 0)
   rw [List.length_map] at this
   exact this
  unfold jd gp
  rw [hrec,hl,beq_self_eq_true,beq_self_eq_true]
  rfl
 have ha:cV [] (bY m (eh (l.map cI) 0))=iI m l 0:=by
  rw [wx m l 0 [] hk,List.nil_append]
 rw [e0]
 obtain ⟨la,hla⟩:=zX (bY m (eh (l.map cI) 0)) [] [] 0 fun p hp=>by
  rw [(h4 p hp).1]
  exact ⟨by decide,by decide⟩
 generalize bY m (eh (l.map cI) 0)=pl at h4 hown hf ha hla ⊢
 refine ⟨⟨o_ (b-1) la,?_⟩,?_,fun p hp=>?_,b1,b2⟩
 · rw [sS,hla,List.nil_append]
   have e:=CK (pre:=pl) (p:=(m,(((aU (l.map cI)).size:Int),(ar (gp 5 (b-1) (l.map cI)),(gp 5 (b-1) (l.map cI),()))))) (dir:=[]) (la:=la) rfl (by rw [hown];exact hf) (by rw [hown,ha,zZ];exact h20)
   rw [hown,ha] at e
   exact e
 · rw [mH]
   rfl
 · rcases List.mem_append.1 hp with w | w
   · exact (h4 p w).2
   · rw [List.mem_singleton.1 w]
     show LT.lt (α:=Int) (b-1) b
     exact Int.sub_lt_self b (by decide)
theorem Gk {hb:ByteArray→ByteArray} {st:Ty.d aD} {d:Ty.d aA} {l:du} (hl:dl st.1=true) (hd:DR d) (hn:LE.le (α:=Int) (st.1.1+2) 100000) :
 ((cP hb st d l).1=pO st∧DR (cP hb st d l).2.1∧∀ x ∈ st.1.2.1,fT (cP hb st d l).2.1 (a_ aF x)=fT d (a_ aF x)) ∨
 ((cP hb st d l).1=(fc st.1.1,(iI st.1.1 l 0,(st.2.2.1,(0,(0,())))))∧DR (cP hb st d l).2.1∧fT (cP hb st d l).2.1 (a_ aF st.1.1)=some (aU (fI l (st.2.2.1-1)))∧fT (cP hb st d l).2.1 (a_ aF (st.1.1+1))=some ByteArray.empty):=by
 obtain ⟨n1,n2,n3,_⟩:=gH (n:=st.1.1) (ids:=st.1.2.1) hl
 have hm:(1:Int)≤st.1.1∧st.1.1≤(100000:Int):=⟨n1,n2⟩
 have hm1:LE.le (α:=Int) 1 (st.1.1+1)∧LE.le (α:=Int) (st.1.1+1) 100000:=⟨by omega,by omega⟩
 have hseg:∀ x:Int,x ∈ st.1.2.1→1≤x∧x≤100000:=fun x hx=>⟨(n3 x hx).1,FP (n3 x hx).2 n2⟩
 have no1:∀ x ∈ st.1.2.1,a_ aF st.1.1≠a_ aF x:=fun x hx=>pq hm (hseg x hx) (by have:=(n3 x hx).2;omega)
 have no2:∀ x ∈ st.1.2.1,a_ aF (st.1.1+1)≠a_ aF x:=fun x hx=>pq hm1 (hseg x hx) (by have:=(n3 x hx).2;omega)
 have no3:∀ x ∈ st.1.2.1,a_ bM st.1.1≠a_ aF x:=fun x hx=>ln hm (hseg x hx)
 have no4:a_ aF (st.1.1+1)≠a_ aF st.1.1:=pq hm1 hm (by omega)
 have dropK:∀ (r:RD),DR r.1→(∀ x ∈ st.1.2.1,fT r.1 (a_ aF x)=fT d (a_ aF x))→DR (mS (kq st.1.1) r).1∧∀ x ∈ st.1.2.1,fT (mS (kq st.1.1) r).1 (a_ aF x)=fT d (a_ aF x):=fun r hr k=>by
  unfold mS
  cases r.2==2 with
  | false=>exact ⟨hr,k⟩
  | true =>
   refine ⟨jv _ _ hr,fun x hx=>(oi _ _ fun s hs=>?_).trans (k x hx)⟩
   unfold kq at hs
   rcases List.mem_cons.1 hs with e | e
   · rw [e];exact iJ (hseg x hx)
   rcases List.mem_cons.1 e with e | e
   · rw [e];exact no1 x hx
   rcases List.mem_cons.1 e with e | e
   · rw [e];exact no2 x hx
   · rw [List.mem_singleton.1 e];exact no3 x hx
 have a0:DR (dH st.1.1 l (st.2.2.1-1) d).1:=sL _ _ _ hd
 have a1:∀ x ∈ st.1.2.1,fT (dH st.1.1 l (st.2.2.1-1) d).1 (a_ aF x)=fT d (a_ aF x):=fun x hx=>Aa (no1 x hx)
 have a2:(dH st.1.1 l (st.2.2.1-1) d).2=0→fT (dH st.1.1 l (st.2.2.1-1) d).1 (a_ aF st.1.1)=some (aU (fI l (st.2.2.1-1))):=fun z=>by
  unfold dH at z ⊢
  obtain ⟨z1,z2,_⟩:=kf z
  rw [z2]
  rw [kp]
  have z0:(aw (a_ aF st.1.1) d).2=0:=by
   by_cases w:(aw (a_ aF st.1.1) d).2=0
   · exact w
   · rw [Dj _ _ _ w] at z1
     exact absurd z1 w
  have:=Gw (a_ aF st.1.1) (fI l (st.2.2.1-1)) (aw (a_ aF st.1.1) d) ByteArray.empty (lT z0) z1
  rw [this,show (ByteArray.empty:ByteArray)=dB [] from rfl,Df]
 unfold cP
 generalize dH st.1.1 l (st.2.2.1-1) d=a at a0 a1 a2 ⊢
 cases ca:a.2 != 0 with
 | true=>exact .inl ⟨rfl,dropK (tl a) a0 a1⟩
 | false =>
  have b0:=j3 (a_ aF (st.1.1+1)) a.1 a0
  have b1:∀ x ∈ st.1.2.1,fT (aw (a_ aF (st.1.1+1)) a.1).1 (a_ aF x)=fT d (a_ aF x):=fun x hx=>(lI (no2 x hx)).trans (a1 x hx)
  have b2:=(lI (d:=a.1) no4).trans (a2 (f8 ca))
  have b3:=lT (s:=a_ aF (st.1.1+1)) (d:=a.1)
  simp only [aJ]
  generalize aw (a_ aF (st.1.1+1)) a.1=b at b0 b1 b2 b3 ⊢
  cases cb:b.2 != 0 with
  | true=>exact .inl ⟨rfl,dropK (tl b) b0 b1⟩
  | false =>
   have b3:=b3 (f8 cb)
   have c0:DR (gq hb st.1.1 b.1).1:=by
    unfold gq
    cases (kv (a_ bM st.1.1) (hb (bG b.1 (a_ aF st.1.1)).1) b.1).2==2 with
    | true=>exact jv _ _ (jh _ _ _ b0)
    | false=>exact jh _ _ _ b0
   have c1:∀ x ∈ st.1.2.1,fT (gq hb st.1.1 b.1).1 (a_ aF x)=fT d (a_ aF x):=fun x hx=>(qg (no3 x hx)).trans (b1 x hx)
   have c2:=(qg (hb:=hb) (d:=b.1) (ln hm hm)).trans b2
   have c3:=(qg (hb:=hb) (d:=b.1) (ln hm hm1)).trans b3
   simp only [aJ]
   generalize gq hb st.1.1 b.1=e at c0 c1 c2 c3 ⊢
   cases ce:e.2 != 0 with
   | true=>exact .inl ⟨rfl,c0,c1⟩
   | false =>
    have d0:=m3 (fc st.1.1) _ c0
    have d1:∀ x ∈ st.1.2.1,fT (bB (fc st.1.1) e.1).1 (a_ aF x)=fT d (a_ aF x):=fun x hx=>(fb (iJ (hseg x hx)) (jG (hseg x hx))).trans (c1 x hx)
    have d2:=(fb (d:=e.1) (v:=fc st.1.1) (iJ hm) (jG hm)).trans c2
    have d3:=(fb (d:=e.1) (v:=fc st.1.1) (iJ hm1) (jG hm1)).trans c3
    simp only [aJ]
    generalize bB (fc st.1.1) e.1=f at d0 d1 d2 d3 ⊢
    cases cf:f.2 != 0 with
    | true=>exact .inl ⟨rfl,dropK (tl f) d0 d1⟩
    | false =>
     simp only [aJ]
     have o0:∀ (ids:List Int) (x:Ty.d aA),DR x→DR (mR ids x).1:=by
      intro ids
      induction ids with
      | nil=>exact fun x hx=>hx
      | cons y ids ih=>exact fun x hx=>jN (jv _ _ hx) fun z hz=>ih z hz
     exact .inr ⟨by trivial,o0 _ _ d0,(u6 st.1.2.1 f.1 fun x hx=>⟨fun q=>no1 x hx q.symm,ln (hseg x hx) hm⟩).trans d2,(u6 st.1.2.1 f.1 fun x hx=>⟨fun q=>no2 x hx q.symm,ln (hseg x hx) hm1⟩).trans d3⟩
theorem LL {st:Ty.d aD} {d:Ty.d aA} (h:MI st d):MI (br st d).1 (br st d).2.1:=by
 obtain ⟨hs,he⟩:=h.store
 unfold br
 rw [hs]
 simp only [fN,aJ]
 by_cases c2:st.1.1+2 > (100000:Int)
 · rw [aV c2];exact h
 · rw [aY c2]
   simp only [aJ]
   cases c3:(bX st.2.1 d).2 != 0 with
   | true=>exact h
   | false =>
    simp only [aJ]
    have hn:LE.le (α:=Int) (st.1.1+2) 100000:=Int.not_lt.1 c2
    obtain ⟨k1,k2⟩:=wS hs
    obtain ⟨k3,k4⟩:=Bv hs
    have h20:=qy hs
    have hz:=sk st.2.1 d
    obtain ⟨L,t,j⟩:=h
    obtain ⟨n1,n2,n3,_⟩:=gH (n:=st.1.1) (ids:=st.1.2.1) t.live
    obtain ⟨_,_,g1,_,_⟩:=bm (nx:=st.1.1) (ids:=st.1.2.1) t.live
    rcases Gk (hb:=s_ st.1.1) (l:=(bX st.2.1 d).1) t.live t.disk hn with ⟨e1,e2,e3⟩ | ⟨e1,e2,e3,e4⟩
    · generalize cP (s_ st.1.1) st d (bX st.2.1 d).1=q at e1 e2 e3 ⊢
      rw [e1]
      obtain ⟨L0,x,eL,el⟩:=yA t.ids g1
      have hmem:∀ y ∈ L,y.1 ∈ st.1.2.1:=fun y hy=>by rw [t.ids];exact List.mem_map.2 ⟨y,hy,rfl⟩
      have hx:x ∈ L:=by rw [eL];exact List.mem_append_right _ ii
      have ea:bR st=a_ aF x.1:=by unfold bR;rw [el]
      have ea2:bR (pO st)=a_ aF x.1:=ea
      refine ⟨L,⟨Ji (n:=st.1.1) (ids:=st.1.2.1) t.live hn,e2,t.ids,fun y hy=>⟨(e3 _ (hmem y hy)).trans (t.text y hy).1,(t.text y hy).2⟩,fun s q=>t.tail s ?_⟩,j⟩
      rw [ea2,e3 _ (hmem x hx)] at q
      rw [ea]
      exact q
    · generalize cP (s_ st.1.1) st d (bX st.2.1 d).1=q at e1 e2 e3 e4 ⊢
      rw [e1]
      refine ⟨[(st.1.1,fI (bX st.2.1 d).1 (st.2.2.1-1)),(st.1.1+1,[])],⟨LS n1 hn,e2,rfl,fun x hx=>?_,fun s w=>?_⟩,N5 k2 (by omega) k4 j.lo j.hi⟩
      · rcases List.mem_cons.1 hx with w | w
        · rw [w];exact ⟨e3,k3⟩
        · rw [List.mem_singleton.1 w]
          exact ⟨e4,fun r hr=>by cases hr⟩
      · have w:fT q.2.1 (a_ aF (st.1.1+1))=some s:=w
        rw [e4] at w
        rw [← Option.some.inj w]
        rfl
theorem O4 {a b:Int} (h:a<b) (g:b≤100000):a≤100000:=by omega
theorem Kd {d:Ty.d aA} {s:ByteArray} (hd:DR d) (z:(gF s d).2=0):fT (gF s d).1 s=none:=by
 unfold gF at z ⊢
 cases c:(bS d.1 s).isSome with
 | false =>
  rw [aJ]
  refine Cq.1 ?_
  cases q:bS d.1 s with
  | none=>rfl
  | some f=>rw [q] at c;cases c
 | true =>
  rw [c] at z
  simp only [aa] at z ⊢
  obtain ⟨c1,c2⟩:=nL z
  refine Cq.1 ?_
  show bS (i_ d (uN s)).1.1 s=none
  rw [c2]
  unfold uN at c1 ⊢
  cases q:(bS d.1 s).isNone with
  | true=>rw [q] at c1;exact absurd c1 (by show (3:Int)≠0;decide)
  | false=>exact p8 hd.keys s
theorem qR {t:ByteArray}:∀ (l:List ByteArray) (d:Ty.d aA),DR d→(bi l d).2=0→(t ∈ l∨fT d t=none)→fT (bi l d).1 t=none
 | [],d,_,_,h=>by
  rcases h with h | h
  · cases h
  · exact h
 | s::l,d,hd,z,h=>by
  obtain ⟨z1,e,z2⟩:=kf (r:=gF s d) (f:=bi l) z
  have hx:=nP s d hd
  show fT (eW (gF s d) (bi l)).1 t=none
  rw [e]
  refine qR l (gF s d).1 hx z2 ?_
  by_cases q:s=t
  · rw [← q]
    exact .inr (Kd hd z1)
  · rcases h with h | h
    · rcases List.mem_cons.1 h with w | w
      · exact absurd w.symm q
      · exact .inl w
    · exact .inr ((Dn q).trans h)
theorem FE {f:Ty.d cE}:∀ {l:bo},f ∈ l→bS l f.1≠none
 | [],h,_=>(by cases h)
 | g::l,h,q=>by
  unfold bS at q
  cases c:seq g.1 f.1 with
  | true=>rw [c] at q;cases q
  | false =>
   rw [c,aJ] at q
   rcases List.mem_cons.1 h with w | w
   · rw [w,bZ] at c;cases c
   · exact FE w q
theorem Nh:(Mi gP).2=false:=by
 unfold Mi
 rcases nF (Po gP) (fun _=>gP) (0:Int) gP with ⟨r,h1,_,_⟩ | h
 · exfalso
   obtain ⟨h0,h2,h3⟩:=h1
   have hp:=MS r
   rcases h3 with q | q
   · have:=congrArg nb q
     rw [gX] at this
     cases this
   · have:=congrArg nb q
     rw [gX] at this
     cases this
 · rw [h]
theorem Bw {d d':Ty.d aA}:∀ {l:List Int},(∀ x ∈ l,bx (gO d' x)=bx (gO d x))→kx d' l=kx d l
 | [],_=>rfl
 | x::l,h=>by
  show bY x (bx (gO d' x)).1++kx d' l=bY x (bx (gO d x)).1++kx d l
  rw [Bw fun y hy=>h y (kR _ hy),h x ii]
theorem Gg {A:ah} (h1:∀ b,fO b A=[]) (h2:bz A=[]):∀ (r pre:ah) (s:Lt),gr (A++pre) r s=gr pre r s
 | [],_,_=>rfl
 | p::r,pre,s=>by
  have e1:∀ b,fO b (A++pre)=fO b pre:=fun b=>by rw [xE,h1];rfl
  have e2:bz (A++pre)=bz pre:=by rw [mH,h2];rfl
  unfold gr j4
  rw [e1,e2,nw,Gg h1 h2 r]
theorem EU:∀ (r pre:ah) (d:aS) (la la' c:Int),(gr pre r (d,la,c)).1=(gr pre r (d,la',c)).1∧(gr pre r (d,la,c)).2.2=(gr pre r (d,la',c)).2.2
 | [],_,_,_,_,_=>⟨rfl,rfl⟩
 | p::r,pre,d,la,la',c=>by
  unfold gr
  simp only []
  cases c != 0 with
  | true=>exact ⟨rfl,rfl⟩
  | false =>
   simp only [aJ]
   unfold j4
   simp only []
   cases p.2.2.2.1.1==3 with
   | true =>
    simp only [aa]
    cases jd p.2.2.2.1 (fO p.2.2.2.1.2.1 pre) <;> exact EU r _ _ _ _ _
   | false =>
    simp only [aJ]
    cases p.2.2.2.1.1==5 with
    | true =>
     simp only [aa]
     cases jd p.2.2.2.1 (bz pre) <;> exact EU r _ _ _ _ _
    | false=>exact EU r _ _ _ _ _
theorem FY {m:Int}:∀ (l:Bz) (p:Option (Ty.d cz)),pR (nq m) p l=true→(∀ x ∈ l,x.2.2.1.1=4∧LE.le (α:=Int) x.2.2.1.2.1 m)∧cU (l.map fun x=>x.2.2.1.2.2.1)∧(∀ q,p=some q→∀ x ∈ l,nT q.2.2.1.2.2.1 x.2.2.1.2.2.1=true)
 | [],p,_=>⟨fun x h=>(by cases h),List.Pairwise.nil,fun q _ x h=>(by cases h)⟩
 | g::l,p,h=>by
  unfold pR at h
  rw [iA] at h
  obtain ⟨h1,h2⟩:=h
  obtain ⟨i1,i2,i3⟩:=FY l (some g) h2
  unfold nq at h1
  simp only [iA,beq_iff_eq,Bool.not_eq_true',decide_eq_false_iff_not] at h1
  obtain ⟨g1,g2,g3⟩:=h1
  refine ⟨fun x hx=>?_,?_,fun q hq x hx=>?_⟩
  · rcases List.mem_cons.1 hx with e | e
    · rw [e];exact ⟨g1,Int.not_lt.1 g2⟩
    · exact i1 x e
  · rw [List.map_cons]
    unfold cU
    rw [List.pairwise_cons]
    refine ⟨fun x hx=>?_,i2⟩
    obtain ⟨f,hf,rfl⟩:=List.mem_map.1 hx
    exact i3 g rfl f hf
  · subst hq
    rcases List.mem_cons.1 hx with e | e
    · rw [e];exact g3
    · exact oL g3 (i3 g rfl x e)
theorem xG (m:Int):∀ (l:Bz) (dir:aS),(∀ x ∈ l,x.2.2.1.1=4)→cU (gw dir++l.map fun x=>x.2.2.1.2.2.1)→cV dir (bY m l)=dir++l.map (G_ m)
 | [],dir,_,_=>(List.append_nil dir).symm
 | x::l,dir,h4,h=>by
  have e0:fy dir (m,x)=dir++[G_ m x]:=by
   unfold fy
   rw [show ((m,x):Ty.d aM).2.2.2.1.1=4 from h4 x ii]
   show rB dir (G_ m x)=_
   refine Ih fun y hy=>?_
   rw [List.map_cons] at h
   exact (List.pairwise_append.1 h).2.2 y.1 (List.mem_map.2 ⟨y,hy,rfl⟩) x.2.2.1.2.2.1 ii
  show cV (fy dir (m,x)) (bY m l)=_
  rw [e0,xG m l _ (fun y hy=>h4 y (kR _ hy)) (by
   unfold gw
   rw [List.map_append,nw]
   exact h),nw]
  rfl
theorem IR {id:Int} {rs:jM} (hr:∀ r ∈ rs,bd r=true) (h:(g6 id (aU rs)).2=true) :
 (∃ la,gr [] (tK (id,rs)) ([],0,0)=((g6 id (aU rs)).1.2.2.1,la,0))∧(∀ b,fO b (tK (id,rs))=[])∧bz (tK (id,rs))=[]∧∀ p ∈ tK (id,rs),LE.le (α:=Int) p.2.2.2.1.2.1 (g6 id (aU rs)).1.2.1:=by
 have hsp:tK (id,rs)=bY id (bx (aU rs)).1:=by
  unfold tK
  rw [tq hr]
 have hok:∀ x ∈ (bx (aU rs)).1,bd x.2.2.1=true:=fun x hx=>by
  refine hr _ ?_
  rw [← (rC hr).1]
  exact List.mem_map.2 ⟨x,hx,rfl⟩
 rw [hsp]
 unfold g6 at h ⊢
 cases c1:(bx (aU rs)).2 != ((aU rs).size:Int) with
 | true=>rw [c1] at h;cases h
 | false =>
  rw [c1] at h
  simp only [aJ] at h ⊢
  generalize (bx (aU rs)).1=l at h hok ⊢
  cases c2:l.length==0 with
  | true=>rw [c2] at h;cases h
  | false =>
   rw [c2] at h
   simp only [aJ] at h ⊢
   have hne:l.length≠0:=by simpa using c2
   obtain ⟨k,mk,el⟩:∃ k mk,l=k++[mk]:=by
    rcases List.eq_nil_or_concat l with w | ⟨a,b,w⟩
    · rw [w] at hne;exact absurd rfl hne
    · exact ⟨a,b,by rw [w,List.concat_eq_append]⟩
   subst el
   have et:(k++[mk]).take ((k++[mk]).length-1)=k:=by
    rw [py,List.length_singleton,Nat.add_sub_cancel]
    exact List.take_left
   have eg:(k++[mk]).getD ((k++[mk]).length-1) (Ty.z cz)=mk:=by
    rw [py,List.length_singleton,Nat.add_sub_cancel]
    simp [List.getD]
   rw [et,eg] at h ⊢
   cases c3:mk.2.2.1.1 != 5 with
   | true=>rw [c3] at h;cases h
   | false =>
    rw [c3] at h
    simp only [aJ] at h ⊢
    cases c4:!decide ((1:Int)≤id∧id≤100000) with
    | true=>rw [c4] at h;cases h
    | false =>
     rw [c4] at h
     simp only [aJ] at h ⊢
     cases c5:pR (nq mk.2.2.1.2.1) none k with
     | false=>rw [c5] at h;cases h
     | true =>
      rw [c5] at h
      simp only [fN,aJ] at h ⊢
      cases c6:jd mk.2.2.1 (bY id k) with
      | false=>rw [c6] at h;cases h
      | true =>
       simp only [fN,aJ]
       obtain ⟨a1,a2,_⟩:=FY k none c5
       have c3:mk.2.2.1.1=5:=by simpa using c3
       have h4:∀ p ∈ bY id k,p.2.2.2.1.1=4∧LE.le (α:=Int) p.2.2.2.1.2.1 mk.2.2.1.2.1:=fun p hp=>by
        unfold bY at hp
        obtain ⟨x,hx,rfl⟩:=List.mem_map.1 hp
        exact a1 x hx
       have hmk:=hok mk (List.mem_append_right _ ii)
       have h20:(bY id k).length≤20:=by
        unfold jd at c6
        rw [iA,beq_iff_eq] at c6
        unfold bd at hmk
        rw [c3] at hmk
        rw [show ((5:Int)==1||(5:Int)==4)=false from rfl,show ((5:Int)==2)=false from rfl,show ((5:Int)==3)=false from rfl,show ((5:Int)==5)=true from rfl] at hmk
        simp only [aJ,aa,iA,decide_eq_true_eq] at hmk
        have hc:LE.le (α:=Int) (((bY id k).length:Nat):Int) 20:=by
         rw [← c6.1]
         exact hmk.2.2.1.2
        omega
       have hown:bz (bY id k)=bY id k:=by
        unfold bz
        rw [uJ _ _ fun p hp=>(h4 p hp).1,List.nil_append]
       have ha:cV [] (bY id k)=k.map (G_ id):=by rw [xG id k [] (fun x hx=>(a1 x hx).1) a2,List.nil_append]
       have epl:bY id (k++[mk])=bY id k++[(id,mk)]:=by
        unfold bY
        rw [List.map_append]
        rfl
       obtain ⟨la,hla⟩:=zX (bY id k) [] [] 0 fun p hp=>by
        rw [(h4 p hp).1]
        exact ⟨by decide,by decide⟩
       rw [epl]
       have hlen:(bY id k).length=k.length:=xe id k
       refine ⟨⟨o_ mk.2.2.1.2.1 la,?_⟩,fun b=>?_,?_,fun p hp=>?_⟩
       · rw [sS,hla,List.nil_append]
         have e:=CK (pre:=bY id k) (p:=(id,mk)) (dir:=[]) (la:=la) c3 (by rw [hown];exact c6) (by rw [hown,ha,List.length_map];omega)
         rw [hown,ha] at e
         exact e
       · have:∀ (q:ah),(∀ p ∈ q,p.2.2.2.1.1=4∨p.2.2.2.1.1=5)→q.foldl (fY b) []=[]:=by
          intro q
          induction q with
          | nil=>exact fun _=>rfl
          | cons p q ih =>
           intro hq
           have e:fY b [] p=[]:=by
            unfold fY
            rcases hq p ii with w | w <;> rw [w] <;> cases p.2.2.2.1.2.1==b <;> rfl
           rw [List.foldl_cons,e]
           exact ih fun x hx=>hq x (kR _ hx)
         refine this _ fun p hp=>?_
         rcases List.mem_append.1 hp with w | w
         · exact .inl (h4 p w).1
         · rw [List.mem_singleton.1 w];exact .inr c3
       · rw [mH]
         show gg _ (id,mk)=[]
         unfold gg
         rw [show ((id,mk):Ty.d aM).2.2.2.1.1=5 from c3]
         rfl
       · rcases List.mem_append.1 hp with w | w
         · exact (h4 p w).2
         · rw [List.mem_singleton.1 w];exact Int.le_refl _
theorem tH {r:Ty.d ba} (h:bd r=true):LE.le (α:=Int) 0 r.2.1∧LE.le (α:=Int) r.2.1 1000000:=by
 unfold bd at h
 cases c1:(r.1==1||r.1==4) with
 | true =>
  rw [c1] at h
  simp only [aa,iA,decide_eq_true_eq] at h
  have:=h.2.2.2.2
  exact ⟨Int.le_trans (by decide) this.1,this.2⟩
 | false =>
  rw [c1] at h
  cases c2:(r.1==2) with
  | true =>
   rw [c2] at h
   simp only [aa,aJ,iA,decide_eq_true_eq] at h
   have:=h.2.2.2.2
   exact ⟨Int.le_trans (by decide) this.1,this.2⟩
  | false =>
   rw [c2] at h
   cases c3:(r.1==3) with
   | true =>
    rw [c3] at h
    simp only [aa,aJ,iA,decide_eq_true_eq] at h
    have:=h.2.2.2.2
    exact ⟨Int.le_trans (by decide) this.1,this.2⟩
   | false =>
    rw [c3] at h
    cases c4:(r.1==5) with
    | true =>
     rw [c4] at h
     simp only [aa,aJ,iA,decide_eq_true_eq] at h
     exact h.2.2.2.2
    | false=>rw [c4] at h;cases h
theorem Mv {y:Ty.d aA} (hy:DR y) {L:rS} (hL:1≤L.length) (ht:∀ x ∈ L,fT y (a_ aF x.1)=some (aU x.2)∧∀ r ∈ x.2,bd r=true) (z:(lj y (L.map (·.1))).2.2.1=0) :
 JT (jE L) (lj y (L.map (·.1))).1 (aQ ((lj y (L.map (·.1))).2.1+1)):=by
 have hok:∀ p ∈ jE L,bd p.2.2.2.1=true:=fun p hp=>by
  obtain ⟨x,hx,s,hs,e⟩:=wb hp
  obtain ⟨_,i2,_⟩:=qn x.2 ⟨#[]⟩ ⟨#[]⟩ (ht x hx).2 s hs
  rw [e]
  exact i2
 have fin:∀ (dir:aS) (la:Int),(∃ la',gr [] (jE L) ([],0,0)=(dir,la',0))→bz (jE L)=[]→LE.le (α:=Int) 0 la→LE.le (α:=Int) la 1000000→(∀ p ∈ jE L,LE.le (α:=Int) p.2.2.2.1.2.1 la)→JT (jE L) dir (aQ (la+1)):=fun dir la h1 h2 h3 h4 h5=>by
  rw [aE (n:=la+1) (by omega) (by omega)]
  exact ⟨h1,h2,fun p hp=>Int.lt_add_one_of_le (h5 p hp),show (1:Int)≤la+1 by omega,show la+1≤(1000001:Int) by omega⟩
 obtain ⟨x0,L',rfl⟩:∃ x L',L=x::L':=by
  cases L with
  | nil=>cases hL
  | cons x L'=>exact ⟨x,L',rfl⟩
 have epl:jE (x0::L')=tK x0++jE L':=rfl
 have e1:kx y ((x0::L').map (·.1))=jE (x0::L'):=qN hy ht
 have e2:kx y (L'.map (·.1))=jE L':=qN hy fun x hx=>ht x (kR _ hx)
 unfold lj at z ⊢
 cases c:nj y (((x0::L').map (·.1)).getD 0 0) with
 | false =>
  rw [c] at z
  simp only [aJ] at z ⊢
  rw [e1] at z ⊢
  obtain ⟨g1,g2⟩:=zU z
  have hz:(gr [] (jE (x0::L')) ([],0,0)).2.2=0:=by rw [g1]
  obtain ⟨l1,l2,l3⟩:=vG (jE (x0::L')) [] ([],0,0) hz
  have ela:(gr [] (jE (x0::L')) ([],0,0)).2.1=(iK ([],(0,(0,()))) (jE (x0::L'))).2.1:=by rw [g1]
  have l3:=l3 1000000 (by decide) fun p hp=>(tH (hok p hp)).2
  rw [ela] at l1 l2 l3
  exact fin _ _ ⟨_,g1⟩ g2 l1 l3 l2
 | true =>
  rw [c] at z
  simp only [aa] at z ⊢
  have ed:((x0::L').map (·.1)).drop 1=L'.map (·.1):=rfl
  have ex:((x0::L').map (·.1)).getD 0 0=x0.1:=rfl
  rw [ed,ex,e2] at z ⊢
  rw [ex] at c
  obtain ⟨t1,t2⟩:=ht x0 ii
  unfold nj at c
  simp only [iA] at c
  obtain ⟨_,_,c⟩:=c
  have es:gO y x0.1=aU x0.2:=by
   unfold gO
   rw [iV hy,t1]
   rfl
  rw [es] at c
  unfold oJ at c
  simp only [iA,beq_iff_eq] at c
  obtain ⟨f1,_,f3,f4⟩:=c
  obtain ⟨⟨la0,k1⟩,k2,k3,k4⟩:=IR (id:=x0.1) t2 f1
  rw [f3] at k4
  rw [tG.1 f4] at k1
  have k1:gr [] (tK x0) ([],0,0)=((dt y x0.1).2.2.1,la0,0):=k1
  have k2:∀ b,fO b (tK x0)=[]:=k2
  have k3:bz (tK x0)=[]:=k3
  have k4:∀ p ∈ tK x0,LE.le (α:=Int) p.2.2.2.1.2.1 (dt y x0.1).2.1:=k4
  obtain ⟨g1,g2⟩:=zU z
  have hz:(gr [] (jE L') ((dt y x0.1).2.2.1,(dt y x0.1).2.1,0)).2.2=0:=by rw [g1]
  obtain ⟨l1,l2,l3⟩:=vG (jE L') [] ((dt y x0.1).2.2.1,(dt y x0.1).2.1,0) hz
  have ela:(gr [] (jE L') ((dt y x0.1).2.2.1,(dt y x0.1).2.1,0)).2.1=(iK ((dt y x0.1).2.2.1,((dt y x0.1).2.1,(0,()))) (jE L')).2.1:=by rw [g1]
  have hmark:∃ mk:Ty.d ba,bd mk=true∧mk.2.1=(dt y x0.1).2.1:=by
   rw [← f3]
   have hb:(g6 x0.1 (aU x0.2)).2=true:=f1
   have hok2:∀ x ∈ (bx (aU x0.2)).1,bd x.2.2.1=true:=fun x hx=>by
    refine t2 _ ?_
    rw [← (rC t2).1]
    exact List.mem_map.2 ⟨x,hx,rfl⟩
   unfold g6 at hb ⊢
   cases w1:(bx (aU x0.2)).2 != ((aU x0.2).size:Int) with
   | true=>rw [w1] at hb;cases hb
   | false =>
    rw [w1] at hb
    simp only [aJ] at hb ⊢
    generalize (bx (aU x0.2)).1=l at hb hok2 ⊢
    cases w2:l.length==0 with
    | true=>rw [w2] at hb;cases hb
    | false =>
     rw [w2] at hb
     simp only [aJ] at hb ⊢
     have hne:l.length≠0:=by simpa using w2
     have hm:l.getD (l.length-1) (Ty.z cz) ∈ l:=by
      show (l[l.length-1]?).getD _ ∈ l
      rw [List.getElem?_eq_getElem (by omega)]
      exact List.getElem_mem _
     generalize l.getD (l.length-1) (Ty.z cz)=mk at hb hm ⊢
     refine ⟨mk.2.2.1,hok2 _ hm,?_⟩
     revert hb
     cases mk.2.2.1.1 != 5 <;> cases !decide ((1:Int)≤x0.1∧x0.1≤100000) <;> cases pR (nq mk.2.2.1.2.1) none (l.take (l.length-1)) <;> cases jd mk.2.2.1 (bY x0.1 (l.take (l.length-1))) <;> intro hb <;> first | rfl | cases hb
  obtain ⟨mk,m1,m2⟩:=hmark
  have mb:=tH m1
  rw [m2] at mb
  have l3:=l3 1000000 mb.2 fun p hp=>(tH (hok p (by rw [epl];exact List.mem_append_right _ hp))).2
  rw [ela] at l1 l2 l3
  have l1:LE.le (α:=Int) (dt y x0.1).2.1 (iK ((dt y x0.1).2.2.1,((dt y x0.1).2.1,(0,()))) (jE L')).2.1:=l1
  refine fin _ _ ?_ ?_ (Int.le_trans mb.1 l1) l3 fun p hp=>?_
  · rw [epl,sS,k1]
    have q:=Gg k2 k3 (jE L') [] ((dt y x0.1).2.2.1,la0,0)
    rw [List.append_nil] at q
    rw [List.nil_append,q]
    obtain ⟨v1,v2⟩:=EU (jE L') [] (dt y x0.1).2.2.1 la0 (dt y x0.1).2.1 0
    rw [g1] at v1 v2
    exact ⟨(gr [] (jE L') ((dt y x0.1).2.2.1,la0,0)).2.1,Prod.ext v1 (Prod.ext rfl v2)⟩
  · rw [epl,mH,k3]
    exact g2
  · rw [epl] at hp
    rcases List.mem_append.1 hp with w | w
    · exact Int.le_trans (k4 p w) l1
    · exact l2 p w
theorem Nt {d:Ty.d aA} {s:ByteArray} (z:(qX d s).2=0):fT (qX d s).1 s=some ByteArray.empty:=by
 obtain ⟨c1,c2⟩:=nL (d:=d) (g:=tN s) z
 unfold fT
 show (bS (i_ d (tN s)).1.1 s).map _=_
 rw [c2]
 unfold tN at c1 ⊢
 cases c3:j9 s with
 | false=>rw [c3] at c1;cases c1
 | true =>
  rw [c3] at c1
  simp only [fN,aJ] at c1 ⊢
  cases c4:(bS d.1 s) with
  | some f=>rw [c4] at c1;cases c1
  | none =>
   rw [c4] at c1
   simp only [Option.isSome_none,aJ] at c1 ⊢
   cases c5:decide ((d.1.length:Int)≥130) with
   | true=>rw [c5] at c1;cases c1
   | false =>
    simp only [aJ]
    rw [yD (f:=(s,(ByteArray.empty,(0,())))) c4,bZ]
    rfl
def TV (t:Ty.d aK):Prop:=t.2.1.length≤20∧t.2.2.1.length≤50
theorem N_:TV (Ty.z aK):=⟨Nat.zero_le _,Nat.zero_le _⟩
theorem uZ {l:List (Ty.d aK)} (h:∀ t ∈ l,TV t) (i:Nat):TV (l.getD i (Ty.z aK)):=by
 by_cases c:i<l.length
 · exact h _ (fX c)
 · have:l.getD i (Ty.z aK)=Ty.z aK:=by simp [List.getD,c]
   rw [this]
   exact N_
theorem yv (k:Nat) {t:Ty.d aK} (h:TV t):eZ.f k t=some (t,()):=by
 obtain ⟨h1,h2⟩:=h
 unfold eZ.f eZ.t
 rw [bf (by omega) (by decide),bf (by omega) (by decide),List.nil_append,List.nil_append]
def lL:fC→ByteArray→Option (Ty.d aW)
 | [],_=>none
 | p::l,key=>match lL l key with
  | some q=>some q
  | none=>bif seq p.1 key then some p else none
def QZ:Ty.d aW:=(ByteArray.empty,(false,(ByteArray.empty,())))
def vm (o:Option (Ty.d aW)):Ty.d aW × Bool × Unit:=match o with
 | none=>(QZ,(false,()))
 | some p=>(p,(true,()))
theorem ul (key:ByteArray) (x:Ty.d aW):∀ l:fC,lL (l++[x]) key=bif seq x.1 key then some x else lL l key
 | []=>by show (match lL [] key with | some q=>some q | none=>bif seq x.1 key then some x else none)=_;rfl
 | p::l=>by
  show (match lL (l++[x]) key with | some q=>some q | none=>bif seq p.1 key then some p else none)=_
  rw [ul key x l]
  cases seq x.1 key with
  | true=>rfl
  | false=>rfl
theorem nB {α:Type} {l:List α} {n:Nat} (z:α) (h:n<l.length):l.take (n+1)=l.take n++[l.getD n z]:=by
 rw [List.take_add_one]
 simp [List.getD,h]
theorem uP {k:Nat} (hk:2 ^ 50≤k) {t:Ty.d aK} (h:t.2.2.1.length≤1000) (key:ByteArray):dF.f k t key=some (vm (lL t.2.2.1 key)):=by
 have loop:∀ (m n:Nat) (i:Int),i+1=(m:Int)→m<n→m≤t.2.2.1.length→dF.l0 k n key i t.1 t.2.1 t.2.2.1 ByteArray.empty false ByteArray.empty=some (vm (lL (t.2.2.1.take m) key)):=by
  intro m
  induction m with
  | zero =>
   intro n i hi hn hm
   obtain ⟨n,rfl⟩:∃ q,n=q+1:=⟨n-1,by omega⟩
   simp only [dF.l0,dF.b0]
   rw [aY (by omega),aJ]
   rfl
  | succ m ih =>
   intro n i hi hn hm
   obtain ⟨n,rfl⟩:∃ q,n=q+1:=⟨n-1,by omega⟩
   have hw:aQ (i-1)=i-1:=aE (by omega) (by omega)
   have hi2:i.toNat=m:=by omega
   simp only [dF.l0,dF.b0,hw]
   rw [aV (by omega),aa,aN (by omega) (by omega),aN (by omega) (by omega),ih n (i-1) (by omega) (by omega) (by omega),nB (Ty.z aW) (by omega),ul,hi2]
   cases seq (List.getD t.2.2.1 m (Ty.z aW)).1 key <;> rfl
 unfold dF.f dF.t
 rw [aE (n:=(t.2.2.1.length:Int)-1) (by omega) (by omega),loop t.2.2.1.length k _ (by omega) (by omega) (Nat.le_refl _),List.take_length]
def oo (ks:List ByteArray) (key:ByteArray):Bool:=ks.any fun s=>seq s key
def nv (w:fC):List ByteArray:=w.foldl (fun ks p=>bif oo ks p.1 then ks else ks++[p.1]) []
def gj (w:fC):fC:=(nv w).map fun s=>(vm (lL w s)).1
theorem yW (w:fC) (p:Ty.d aW):nv (w++[p])=bif oo (nv w) p.1 then nv w else nv w++[p.1]:=by
 unfold nv
 rw [List.foldl_append]
 rfl
theorem KO (a b:List ByteArray) (s:ByteArray):oo (a++b) s=(oo a s||oo b s):=List.any_append
theorem wT (s:ByteArray):∀ w:fC,oo (nv w) s=w.any fun p=>seq p.1 s:=by
 intro w
 have key:∀ (w:fC) (ks:List ByteArray),oo (w.foldl (fun ks p=>bif oo ks p.1 then ks else ks++[p.1]) ks) s=(oo ks s||w.any fun p=>seq p.1 s):=by
  intro w
  induction w with
  | nil=>intro ks;exact (Bool.or_false _).symm
  | cons p w ih =>
   intro ks
   rw [List.foldl_cons,ih,List.any_cons]
   cases c:oo ks p.1 with
   | false =>
    rw [aJ,KO,Bool.or_assoc]
    congr 2
    show (seq p.1 s||false)=_
    rw [Bool.or_false]
   | true =>
    rw [aa]
    cases q:seq p.1 s with
    | false=>rw [Bool.false_or]
    | true=>rw [eE.1 q] at c;rw [c];rfl
 exact key w []
theorem CS:∀ w:fC,(nv w).length≤w.length:=by
 intro w
 have key:∀ (w:fC) (ks:List ByteArray),(w.foldl (fun ks p=>bif oo ks p.1 then ks else ks++[p.1]) ks).length≤ks.length+w.length:=by
  intro w
  induction w with
  | nil=>intro ks;exact Nat.le_refl _
  | cons p w ih =>
   intro ks
   have:=ih (bif oo ks p.1 then ks else ks++[p.1])
   rw [List.foldl_cons,jj]
   cases c:oo ks p.1 with
   | true=>rw [c,aa] at this;rw [aa];omega
   | false=>rw [c,aJ,d8] at this;rw [aJ];omega
 have:=key w []
 rw [List.length_nil,Nat.zero_add] at this
 exact this
theorem ru (w:fC):(gj w).length≤w.length:=by unfold gj;rw [List.length_map];exact CS w
theorem tw {k:Nat} (hk:2 ^ 50≤k) {t:Ty.d aK} (h:t.2.2.1.length≤1000):bI.f k t=some (gj t.2.2.1,()):=by
 have loop:∀ (m n:Nat) (i:Int),0≤i→i+(m:Int)=(t.2.2.1.length:Int)→m<n →
  bI.l0 k n i t.1 t.2.1 t.2.2.1 ((nv (t.2.2.1.take i.toNat)).map fun s=>(vm (lL t.2.2.1 s)).1)=some (gj t.2.2.1,()):=by
  intro m
  induction m with
  | zero =>
   intro n i h0 h1 hn
   obtain ⟨n,rfl⟩:∃ q,n=q+1:=⟨n-1,by omega⟩
   simp only [bI.l0,bI.b0]
   rw [aY (by omega),aJ,show i.toNat=t.2.2.1.length by omega,List.take_length]
   rfl
  | succ m ih =>
   intro n i h0 h1 hn
   obtain ⟨n,rfl⟩:∃ q,n=q+1:=⟨n-1,by omega⟩
   have hw:aQ (i+1)=i+1:=aE (by omega) (by omega)
   have hnext:=ih n (i+1) (by omega) (by omega) (by omega)
   rw [show (i+1).toNat=i.toNat+1 by omega,nB (Ty.z aW) (by omega),yW] at hnext
   have hlen:=CS (t.2.2.1.take i.toNat)
   rw [List.length_take] at hlen
   have inner:∀ (d n':Nat) (b:Bool) (j:Int),0≤j→j+(d:Int)=i→d<n'→b=!(t.2.2.1.take j.toNat).any (fun p=>seq p.1 (List.getD t.2.2.1 i.toNat (Ty.z aW)).1) →
    bI.l1 k (bI.l0 k n) n' i b j t.1 t.2.1 t.2.2.1 ((nv (t.2.2.1.take i.toNat)).map fun s=>(vm (lL t.2.2.1 s)).1)=some (gj t.2.2.1,()):=by
    intro d
    induction d with
    | zero =>
     intro n' b j j0 j1 hn' hb
     obtain ⟨n',rfl⟩:∃ q,n'=q+1:=⟨n'-1,by omega⟩
     rw [show j.toNat=i.toNat by omega,← wT] at hb
     simp only [bI.l1,bI.b1,hw]
     rw [aY (by omega),aJ,hb]
     cases c:oo (nv (t.2.2.1.take i.toNat)) (List.getD t.2.2.1 i.toNat (Ty.z aW)).1 with
     | true =>
      rw [c,aa] at hnext
      exact hnext
     | false =>
      rw [c,aJ,List.map_append] at hnext
      simp only [tR,aa]
      rw [aN h0 (by omega),show (t.1,(t.2.1,(t.2.2.1,())))=t from rfl,uP hk h,aX,bf (by rw [List.length_map];omega) (by decide)]
      exact hnext
    | succ d ih2 =>
     intro n' b j j0 j1 hn' hb
     obtain ⟨n',rfl⟩:∃ q,n'=q+1:=⟨n'-1,by omega⟩
     have hj:aQ (j+1)=j+1:=aE (by omega) (by omega)
     have ha:(t.2.2.1.take (j+1).toNat).any (fun p=>seq p.1 (List.getD t.2.2.1 i.toNat (Ty.z aW)).1)=((t.2.2.1.take j.toNat).any (fun p=>seq p.1 (List.getD t.2.2.1 i.toNat (Ty.z aW)).1)||seq (List.getD t.2.2.1 j.toNat (Ty.z aW)).1 (List.getD t.2.2.1 i.toNat (Ty.z aW)).1):=by
      rw [show (j+1).toNat=j.toNat+1 by omega,nB (Ty.z aW) (by omega),List.any_append]
      congr 1
      show (_||false)=_
      rw [Bool.or_false]
     simp only [bI.l1,bI.b1,hj]
     rw [aV (by omega),aa]
     cases b with
     | true =>
      rw [aa,aN j0 (by omega),aN h0 (by omega)]
      refine ih2 n' _ (j+1) (by omega) (by omega) (by omega) ?_
      rw [ha,Bool.not_or,← hb,Bool.true_and]
     | false =>
      rw [aJ]
      refine ih2 n' _ (j+1) (by omega) (by omega) (by omega) ?_
      rw [ha,Bool.not_or,← hb,Bool.false_and]
   simp only [bI.l0,bI.b0]
   rw [aV (by omega),aa]
   exact inner i.toNat k true 0 (by omega) (by omega) (by omega) rfl
 unfold bI.f bI.t
 exact loop t.2.2.1.length k 0 (by omega) (by omega) (by omega)
def tW (dir:aS) (key:ByteArray):Int:=match qp dir key with
 | none=>0
 | some e=>e.2.2.2.2.1
def jY (rows:List (Ty.d bF)) (dir:aS):Bool:=rows.all fun r=>tW dir r.1==r.2.1
theorem Fc (o:Option (Ty.d aB)):∃ q:Ty.d aB × Bool × Unit,JJ o=some q∧q.1.2.2.2.2.1=(match o with | none=>(0:Int) | some e=>e.2.2.2.2.1):=by
 cases o <;> exact ⟨_,rfl,rfl⟩
theorem Db {k:Nat} (hk:2 ^ 50≤k) {t:Ty.d aK} (h:t.2.1.length≤1000) {dir:aS} (hd:dir.length≤268435456):hO.f k t dir=some (jY t.2.1 dir,()):=by
 unfold hO.f hO.t jY
 refine fe (L:=fun n i (_:Unit)=>hO.l0 k n dir i t.1 t.2.1 t.2.2.1) (R:=fun r _=>some (r.all fun r=>tW dir r.1==r.2.1,())) (Ty.z bF) t.2.1 (fun _ _=>True) (fun n _ _=>?_) (fun n i _ x rest h0 h1 hx hr hp ih=>?_) (n:=k) (s:=()) (by omega) trivial
 · simp only [hO.l0,hO.b0]
   rw [aY (by omega),aJ]
   rfl
 · have ih:=ih () trivial
   obtain ⟨q,e1,e2⟩:=Fc (qp dir x.1)
   simp only [hO.l0,hO.b0]
   rw [aV h1,aa,aN h0 h1,hx,Ao hk (by omega),e1,aX,aN h0 h1,aE (n:=i+1) (by omega) (by omega),ih,List.all_cons]
   unfold bne
   rw [show (q.1.2.2.2.2.1==x.2.1)=(tW dir x.1==x.2.1) by rw [e2];rfl]
   cases tW dir x.1==x.2.1 <;> rfl
def kW (rows:List (Ty.d bF)) (key:ByteArray):Option Int:=(rows.find? fun r=>seq r.1 key).map (·.2.1)
def iM (t:Ty.d aK) (key:ByteArray) (b:Int):Ty.d aK × Int :=
 bif !t.1 then (t,4) else bif !eT key then (t,4) else match kW t.2.1 key with
 | some b'=>(t,bif b' != b then 7 else 0)
 | none=>bif decide ((t.2.1.length:Int)≥20) then (t,5) else ((t.1,(t.2.1++[(key,(b,()))],t.2.2)),0)
theorem CX {k:Nat} (hk:2 ^ 50≤k) {t:Ty.d aK} (h:TV t) (key:ByteArray) (b:Int):eY.f k t key b=some ((iM t key b).1,((iM t key b).2,())):=by
 have h1:=h.1
 unfold eY.f eY.t iM
 rw [yv k h,aX]
 cases c1:t.1 with
 | false=>rfl
 | true =>
  simp only [fN,aJ]
  have hko:dX.f k key=some (eT key,()):=o7 k key
  rw [hko,aX]
  simp only []
  cases eT key with
  | false=>rfl
  | true =>
   simp only [fN,aJ]
   rw [← c1]
   refine fe (L:=fun n i (_:Unit)=>eY.l0 k n key b i t.1 t.2.1 t.2.2.1 [] [] false t.2.1 t.2.2.1 t.1) (R:=fun r _=>some ((match kW r key with | some b'=>(t,bif b' != b then 7 else 0) | none=>bif decide ((t.2.1.length:Int)≥20) then (t,5) else ((t.1,(t.2.1++[(key,(b,()))],t.2.2)),0):Ty.d aK × Int).1,((match kW r key with | some b'=>(t,bif b' != b then 7 else 0) | none=>bif decide ((t.2.1.length:Int)≥20) then (t,5) else ((t.1,(t.2.1++[(key,(b,()))],t.2.2)),0):Ty.d aK × Int).2,()))) (Ty.z bF) t.2.1 (fun _ _=>True) (fun n _ _=>?_) (fun n i _ x rest g0 g1 hx hr hp ih=>?_) (n:=k) (s:=()) (by omega) trivial
   · simp only [eY.l0,eY.b0]
     rw [aY (by omega),aJ]
     show _=some ((bif decide ((t.2.1.length:Int)≥20) then (t,5) else ((t.1,(t.2.1++[(key,(b,()))],t.2.2)),0):Ty.d aK × Int).1,((bif decide ((t.2.1.length:Int)≥20) then (t,5) else ((t.1,(t.2.1++[(key,(b,()))],t.2.2)),0):Ty.d aK × Int).2,()))
     cases decide ((t.2.1.length:Int)≥20) with
     | true=>rfl
     | false =>
      rw [aJ,aJ,bf (by omega) (by decide)]
   · have ih:=ih () trivial
     simp only [eY.l0,eY.b0]
     rw [aV g1,aa,aN g0 g1,hx,aE (n:=i+1) (by omega) (by omega),ih,aN g0 g1]
     have er:kW (x::rest) key=bif seq x.1 key then some x.2.1 else kW rest key:=by
      unfold kW
      rw [List.find?_cons]
      cases seq x.1 key <;> rfl
     rw [er]
     cases seq x.1 key with
     | false=>rfl
     | true =>
      show (bif x.2.1 != b then _ else _)=some ((t,bif x.2.1 != b then 7 else 0).1,((t,bif x.2.1 != b then 7 else 0).2,()))
      cases x.2.1 != b <;> rfl
def fq (t:Ty.d aK) (p:Ty.d aW):Ty.d aK × Bool :=
 bif !t.1 then (t,false) else bif !dN [p] then (t,false) else bif decide (((gj (t.2.2.1++[p])).length:Int) > 8) then (t,false) else
 bif decide (((t.2.2.1++[p]).length:Int) > 50) then (t,false) else ((t.1,(t.2.1,(t.2.2.1++[p],()))),true)
theorem Aq {k:Nat} (hk:2 ^ 50≤k) {t:Ty.d aK} (h:TV t) (p:Ty.d aW):ik.f k t p=some ((fq t p).1,((fq t p).2,())):=by
 have h2:=h.2
 have hz:(t.2.2.1++[p]).length=t.2.2.1.length+1:=d8 ..
 unfold ik.f ik.t fq
 rw [yv k h,aX]
 cases t.1 with
 | false=>rfl
 | true =>
  simp only [fN,aJ]
  rw [tV hk _,aX]
  simp only []
  cases dN [p] with
  | false=>rfl
  | true =>
   simp only [fN,aJ]
   rw [bf (by omega) (by decide),tw hk (t:=(true,(t.2.1,((t.2.2.1++[p]),())))) (by show (t.2.2.1++[p]).length≤1000;omega),aX]
   simp only []
   cases decide (((gj (t.2.2.1++[p])).length:Int) > 8) with
   | true=>rfl
   | false =>
    simp only [aJ]
    cases decide (((t.2.2.1++[p]).length:Int) > 50) <;> rfl
def jb (c:Int):Ty.d aG:=(c,(ByteArray.empty,([],())))
def xp (e:Ty.d bO) (i:Int) (t:Ty.d aK):Ty.d bO:=(e.1,(e.2.1,(e.2.2.1,(e.2.2.2.1.set i.toNat t,()))))
def gy (e:Ty.d bO) (i:Int):Ty.d aK:=e.2.2.2.1.getD i.toNat (Ty.z aK)
abbrev Aw:=Ty.d bO × Ty.d aG
noncomputable def Ol (e:Ty.d bO) (s:Ty.d aC) (t:Ty.d aK) (p:Ty.d aL × Int):Aw :=
 bif p.2==3 then (e,jb p.2) else bif (iM t s.2.2.1 p.1.2.2.1).2 != 0 then (e,jb (iM t s.2.2.1 p.1.2.2.1).2) else
 (xp e s.2.1 (iM t s.2.2.1 p.1.2.2.1).1,(p.2,(p.1.2.1,([],()))))
noncomputable def Jt (e:Ty.d bO) (s:Ty.d aC):Aw :=
 bif !eT s.2.2.1 then (e,jb 4) else match lL (gy e s.2.1).2.2.1 s.2.2.1 with
 | some p=>bif p.2.1 then (e,jb 8) else (e,(0,(p.2.2.1,([],()))))
 | none=>Ol e s (gy e s.2.1) (rG e.2.1.2.1 e.2.2.1 s.2.2.1)
def lp:Ty.d aK:=(false,([],([],())))
noncomputable def ue (e:Ty.d bO) (s:Ty.d aC):Aw :=
 bif !jY (gy e s.2.1).2.1 e.2.1.2.1 then (xp e s.2.1 lp,jb 7) else
 ((e.1,((pG e.2.1 e.2.2.1 (gj (gy e s.2.1).2.2.1)).1,((pG e.2.1 e.2.2.1 (gj (gy e s.2.1).2.2.1)).2.1,(xp e s.2.1 lp).2.2.2))),jb (pG e.2.1 e.2.2.1 (gj (gy e s.2.1).2.2.1)).2.2)
def lr (s:Ty.d aC):Ty.d aW:=(s.2.2.1,((s.1==4),(s.2.2.2.1,())))
def Jz (e:Ty.d bO) (s:Ty.d aC):Aw :=
 bif !dN [lr s] then (e,jb 4) else bif !(fq (gy e s.2.1) (lr s)).2 then (e,jb 5) else (xp e s.2.1 (fq (gy e s.2.1) (lr s)).1,jb 0)
noncomputable def C8 (e:Ty.d bO) (s:Ty.d aC):Aw :=
 bif s.1==1 then (xp e s.2.1 (true,([],([],()))),jb 0) else bif s.1==6 then (xp e s.2.1 lp,jb 0) else
 bif s.1==2 then Jt e s else bif s.1==5 then ue e s else Jz e s
def Qb (e:Ty.d bO) (s:Ty.d aC):Aw :=
 bif !decide (0≤s.2.2.2.2.1∧s.2.2.2.2.1≤100000-(di e.2.2.1.1:Int)) then (e,jb 4) else ((e.1,(e.2.1,((e.2.2.1.1,((di e.2.2.1.1:Int)+s.2.2.2.2.1,e.2.2.1.2.2)),e.2.2.2))),jb 0)
noncomputable def HC (e:Ty.d bO):Aw:=((e.1,((br e.2.1 e.2.2.1).1,((br e.2.1 e.2.2.1).2.1,e.2.2.2))),jb (br e.2.1 e.2.2.1).2.2)
def PT (e:Ty.d bO):Aw:=((false,(kO,(e.2.2.1,(List.replicate 3 (Ty.z aK),())))),jb 0)
def Gx (e:Ty.d bO) (s:Ty.d aC):Bool:=decide (0≤s.2.1∧s.2.1≤(e.2.2.2.1.length:Int)-1)&&(decide (1≤s.1∧s.1≤6)&&!((gy e s.2.1).1==(s.1==1)))
noncomputable def mL (e:Ty.d bO) (s:Ty.d aC):Aw :=
 bif s.1==10 then (bif e.1 then (e,jb 4) else (vg (m8 e.2.2.1),jb (m8 e.2.2.1).2.2)) else
 bif s.1==11 then Qb e s else bif !e.1 then (e,jb 6) else bif s.1==7 then HC e else
 bif s.1==8 then (e,(0,(ByteArray.empty,(e.2.1.2.1.map (·.1),())))) else bif s.1==9 then PT e else
 bif !Gx e s then (e,jb 4) else C8 e s
theorem DL {k:Nat} (hk:2 ^ 50≤k) {l:aS} (hl:l.length≤268435456):fU.f k l=some (l.map (·.1),()):=by
 unfold fU.f fU.t
 refine (fe (L:=fun n i s=>fU.l0 k n l i s) (R:=fun r s=>some (s++r.map (·.1),())) (Ty.z aB) l (fun i s=>(s.length:Int)=i) (fun n s hs=>?_) (fun n i s x rest h0 h1 hx hr hp ih=>?_) (n:=k) (s:=[]) (by omega) rfl).trans (by rw [List.nil_append])
 · simp (disch:=omega) only [fU.l0,fU.b0,aY,aJ,List.map_nil,List.append_nil]
 · have ih:=ih (s++[x.1]) (by rw [d8];omega)
   simp (disch:=first | omega | decide) only [fU.l0,fU.b0,aV h1,aa,aN,hx,bf,aE,ih,List.map_cons]
   rw [nw]
   rfl
def UQ (t:Ty.d aK):Prop:=t.2.1.Pairwise fun a b=>a.1≠b.1
theorem Lw {key:ByteArray}:∀ {l:List (Ty.d bF)},kW l key=none→∀ r ∈ l,r.1≠key:=by
 intro l h r hr q
 unfold kW at h
 rw [Option.map_eq_none_iff] at h
 have:=List.find?_eq_none.1 h r hr
 rw [FV q] at this
 exact this rfl
theorem M4 {t:Ty.d aK} (h:UQ t) (key:ByteArray) (b:Int):UQ (iM t key b).1:=by
 unfold iM
 cases !t.1 with
 | true=>exact h
 | false =>
  cases !eT key with
  | true=>exact h
  | false =>
   simp only [aJ]
   cases c:kW t.2.1 key with
   | some b'=>exact h
   | none =>
    show UQ (bif decide ((t.2.1.length:Int)≥20) then (t,5) else ((t.1,(t.2.1++[(key,(b,()))],t.2.2)),0):Ty.d aK × Int).1
    cases decide ((t.2.1.length:Int)≥20) with
    | true=>exact h
    | false =>
     show (t.2.1++[(key,(b,()))]).Pairwise fun a b=>a.1≠b.1
     refine List.pairwise_append.2 ⟨h,List.pairwise_singleton _ _,fun x hx y hy=>?_⟩
     rw [List.mem_singleton.1 hy]
     exact Lw c x hx
theorem Jx {t:Ty.d aK} (h:UQ t) (p:Ty.d aW):UQ (fq t p).1:=by
 unfold fq
 cases !t.1 with
 | true=>exact h
 | false =>
  cases !dN [p] with
  | true=>exact h
  | false =>
   cases decide (((gj (t.2.2.1++[p])).length:Int) > 8) with
   | true=>exact h
   | false=>cases decide (((t.2.2.1++[p]).length:Int) > 50) <;> exact h
def UE (e:Ty.d bO):Prop:=∀ t ∈ e.2.2.2.1,UQ t
theorem NI {e:Ty.d bO} (h:UE e) (i:Int):UQ (gy e i):=by
 unfold gy
 by_cases c:i.toNat<e.2.2.2.1.length
 · exact h _ (fX c)
 · have:e.2.2.2.1.getD i.toNat (Ty.z aK)=Ty.z aK:=by simp [List.getD,c]
   rw [this]
   exact List.Pairwise.nil
theorem qt (k:Nat) {t:Ty.d aK} (h:TV t):dp.f k t=some (t,()):=by
 obtain ⟨h1,h2⟩:=h
 unfold dp.f dp.t ja.f ja.t
 rw [bf (by omega) (by decide),bf (by omega) (by decide)]
 rfl
theorem Hg {k:Nat} (hk:2 ^ 50≤k) {t:Ty.d aK} (h:t.2.2.1.length≤1000) (key:ByteArray):eM.f k t key=some (vm (lL t.2.2.1 key)):=by
 have loop:∀ (m n:Nat) (i:Int),i+1=(m:Int)→m<n→m≤t.2.2.1.length→eM.l0 k n key i t.1 t.2.1 t.2.2.1 ByteArray.empty false ByteArray.empty=some (vm (lL (t.2.2.1.take m) key)):=by
  intro m
  induction m with
  | zero =>
   intro n i hi hn hm
   obtain ⟨n,rfl⟩:∃ q,n=q+1:=⟨n-1,by omega⟩
   simp only [eM.l0,eM.b0]
   rw [aY (by omega),aJ]
   rfl
  | succ m ih =>
   intro n i hi hn hm
   obtain ⟨n,rfl⟩:∃ q,n=q+1:=⟨n-1,by omega⟩
   have hw:aQ (i-1)=i-1:=aE (by omega) (by omega)
   have hi2:i.toNat=m:=by omega
   simp only [eM.l0,eM.b0,hw]
   rw [aV (by omega),aa,aN (by omega) (by omega),aN (by omega) (by omega),ih n (i-1) (by omega) (by omega) (by omega),nB (Ty.z aW) (by omega),ul,hi2]
   cases seq (List.getD t.2.2.1 m (Ty.z aW)).1 key <;> rfl
 unfold eM.f eM.t
 rw [aE (n:=(t.2.2.1.length:Int)-1) (by omega) (by omega),loop t.2.2.1.length k _ (by omega) (by omega) (Nat.le_refl _),List.take_length]
def xM:fC→Ty.d aW→fC
 | [],p=>[p]
 | q::l,p=>bif seq q.1 p.1 then p::l else q::xM l p
def ra (key:ByteArray):fC→Int→Int→Int
 | [],_,at_=>at_
 | q::l,j,at_=>ra key l (j+1) (bif seq q.1 key then j else at_)
theorem wY {key:ByteArray}:∀ (l:fC) (j at_:Int),(∀ q ∈ l,q.1≠key)→ra key l j at_=at_
 | [],_,_,_=>rfl
 | q::l,j,at_,h=>by
  unfold ra
  rw [kE (h q ii),aJ,wY l _ _ fun x hx=>h x (kR _ hx)]
theorem yS (p:Ty.d aW):∀ l:fC,l.Pairwise (fun a b=>a.1≠b.1)→((∀ q ∈ l,q.1≠p.1)∧xM l p=l++[p])∨∃ a q c,l=a++q::c∧xM l p=a++p::c∧∀ j at_:Int,ra p.1 l j at_=j+(a.length:Int)
 | [],_ => .inl ⟨fun q h=>(by cases h),rfl⟩
 | q::l,h=>by
  obtain ⟨h1,h2⟩:=List.pairwise_cons.1 h
  unfold xM
  cases c:seq q.1 p.1 with
  | true =>
   refine .inr ⟨[],q,l,rfl,rfl,fun j at_=>?_⟩
   unfold ra
   rw [c,aa,wY l _ _ fun x hx w=>h1 x hx (by rw [w];exact eE.1 c)]
   show j=j+((0:Nat):Int)
   omega
  | false =>
   have hq:q.1≠p.1:=fun w=>by rw [FV w] at c;cases c
   rcases yS p l h2 with ⟨g1,g2⟩ | ⟨a,x,y,g1,g2,g3⟩
   · refine .inl ⟨fun x hx=>?_,by rw [aJ,g2];rfl⟩
     rcases List.mem_cons.1 hx with w | w
     · rw [w];exact hq
     · exact g1 x w
   · refine .inr ⟨q::a,x,y,by rw [g1];rfl,by rw [aJ,g2];rfl,fun j at_=>?_⟩
     unfold ra
     rw [c,aJ,g3,jj]
     omega
theorem Nm {a c:fC} {q p:Ty.d aW}:(a++q::c).set a.length p=a++p::c:=by simp
theorem MF (p:Ty.d aW) {l:fC} (h:l.Pairwise fun a b=>a.1≠b.1):(bif decide (ra p.1 l 0 (-1)≥0) then l.set (ra p.1 l 0 (-1)).toNat p else l++[p])=xM l p:=by
 rcases yS p l h with ⟨g1,g2⟩ | ⟨a,x,y,g1,g2,g3⟩
 · rw [wY l 0 (-1) g1,g2]
   rfl
 · rw [g3,g2,aV (by omega),aa,Int.zero_add,Int.toNat_natCast,g1,Nm]
theorem xg:∀ w:fC,(nv w).Pairwise (·≠·):=by
 have key:∀ (w:fC) (ks:List ByteArray),ks.Pairwise (·≠·)→(w.foldl (fun ks p=>bif oo ks p.1 then ks else ks++[p.1]) ks).Pairwise (·≠·):=by
  intro w
  induction w with
  | nil=>exact fun ks h=>h
  | cons p w ih =>
   intro ks h
   rw [List.foldl_cons]
   refine ih _ ?_
   cases c:oo ks p.1 with
   | true=>exact h
   | false =>
    rw [aJ]
    refine List.pairwise_append.2 ⟨h,List.pairwise_singleton _ _,fun x hx y hy q=>?_⟩
    rw [List.mem_singleton.1 hy] at q
    unfold oo at c
    rw [List.any_eq_false] at c
    exact c x hx (FV q)
 exact fun w=>key w [] List.Pairwise.nil
theorem I4 {w:fC} {s:ByteArray}:(w.any fun p=>seq p.1 s)=true→∃ q,lL w s=some q∧q.1=s:=by
 induction w with
 | nil=>intro h;cases h
 | cons p w ih =>
  intro h
  rw [List.any_cons] at h
  unfold lL
  cases c:lL w s with
  | some q =>
   cases d:w.any fun p=>seq p.1 s with
   | true =>
    obtain ⟨q',e1,e2⟩:=ih d
    rw [c] at e1
    cases e1
    exact ⟨q,rfl,e2⟩
   | false =>
    exfalso
    have:∀ w:fC,(w.any fun p=>seq p.1 s)=false→lL w s=none:=by
     intro w
     induction w with
     | nil=>intro _;rfl
     | cons x w ih2 =>
      intro hx
      rw [List.any_cons,Bool.or_eq_false_iff] at hx
      unfold lL
      rw [ih2 hx.2,hx.1]
      rfl
    rw [this w d] at c
    cases c
  | none =>
   cases d:seq p.1 s with
   | true=>exact ⟨p,rfl,eE.1 d⟩
   | false =>
    rw [d,Bool.false_or] at h
    obtain ⟨q',e1,_⟩:=ih h
    rw [c] at e1
    cases e1
theorem yu {w:fC} {s:ByteArray} (h:s ∈ nv w):(vm (lL w s)).1.1=s:=by
 have hh:oo (nv w) s=true:=by unfold oo;rw [List.any_eq_true];exact ⟨s,h,bZ s⟩
 rw [wT] at hh
 obtain ⟨q,e1,e2⟩:=I4 hh
 rw [e1]
 exact e2
theorem HE (w:fC):(gj w).Pairwise fun a b=>a.1≠b.1:=by
 unfold gj
 rw [List.pairwise_map]
 refine (xg w).imp_of_mem fun ha hb q=>?_
 rw [yu ha,yu hb]
 exact q
theorem EN {g:ByteArray→Ty.d aW} (p:Ty.d aW):∀ ks:List ByteArray,(∀ s ∈ ks,(g s).1=s)→ks.Pairwise (·≠·)→xM (ks.map g) p=ks.map (fun s=>bif seq p.1 s then p else g s)++bif oo ks p.1 then [] else [p]
 | [],_,_=>rfl
 | s::ks,h,hn=>by
  obtain ⟨n1,n2⟩:=List.pairwise_cons.1 hn
  have ih:=EN p ks (fun x hx=>h x (kR _ hx)) n2
  rw [List.map_cons,List.map_cons]
  have e:oo (s::ks) p.1=(seq s p.1||oo ks p.1):=List.any_cons
  rw [e]
  unfold xM
  rw [h s ii]
  cases c:seq s p.1 with
  | true =>
   have es:s=p.1:=eE.1 c
   rw [aa,← es,bZ,aa,Bool.true_or,aa,List.append_nil]
   congr 1
   refine List.map_congr_left fun x hx=>?_
   rw [kE (n1 x hx),aJ]
  | false =>
   have es:p.1≠s:=fun w=>by rw [FV w.symm] at c;cases c
   rw [aJ,ih,kE es,aJ,Bool.false_or]
   rfl
theorem KD (w:fC) (p:Ty.d aW):gj (w++[p])=xM (gj w) p:=by
 unfold gj
 rw [EN p (nv w) (fun s hs=>yu hs) (xg w),yW]
 have e:(fun s=>(vm (lL (w++[p]) s)).1)=fun s=>bif seq p.1 s then p else (vm (lL w s)).1:=by
  funext s
  rw [ul]
  cases seq p.1 s <;> rfl
 rw [e]
 cases oo (nv w) p.1 with
 | true=>rw [aa,aa,List.append_nil]
 | false =>
  rw [aJ,aJ,List.map_append]
  congr 1
  show [bif seq p.1 p.1 then p else _]=[p]
  rw [bZ]
  rfl
theorem Gh {k:Nat} (hk:2 ^ 50≤k) {w:fC} (h:w.length≤1000):fm.f k w=some (gj w,()):=by
 have loop:∀ (m n:Nat) (i:Int),0≤i→i+(m:Int)=(w.length:Int)→m<n→fm.l0 k n w (w.length:Int) i (gj (w.take i.toNat))=some (gj w,()):=by
  intro m
  induction m with
  | zero =>
   intro n i h0 h1 hn
   obtain ⟨n,rfl⟩:∃ q,n=q+1:=⟨n-1,by omega⟩
   simp only [fm.l0,fm.b0]
   rw [aY (by omega),aJ,show i.toNat=w.length by omega,List.take_length]
  | succ m ih =>
   intro n i h0 h1 hn
   obtain ⟨n,rfl⟩:∃ q,n=q+1:=⟨n-1,by omega⟩
   have hw:aQ (i+1)=i+1:=aE (by omega) (by omega)
   have hnext:=ih n (i+1) (by omega) (by omega) (by omega)
   rw [show (i+1).toNat=i.toNat+1 by omega,nB (Ty.z aW) (by omega),KD] at hnext
   have hlen:=ru (w.take i.toNat)
   rw [List.length_take] at hlen
   obtain ⟨out,ho⟩:∃ out,out=gj (w.take i.toNat):=⟨_,rfl⟩
   have hnd:out.Pairwise fun a b=>a.1≠b.1:=by rw [ho];exact HE _
   rw [← ho] at hnext hlen ⊢
   obtain ⟨p,hp⟩:∃ p,p=List.getD w i.toNat (Ty.z aW):=⟨_,rfl⟩
   rw [← hp] at hnext
   simp only [fm.l0,fm.b0]
   rw [aV (by omega),aa,aN h0 (by omega),← hp]
   have inner:∀ (d n':Nat) (at_ j:Int),0≤j→j+(d:Int)=(out.length:Int)→d<n' → -1≤at_→at_<(out.length:Int) →
    fm.l1 k (fm.l0 k n) n' at_ w (w.length:Int) i (out.length:Int) j out p.1 p.2.1 p.2.2.1=fm.l0 k n w (w.length:Int) (i+1) (bif decide (ra p.1 (out.drop j.toNat) j at_≥0) then out.set (ra p.1 (out.drop j.toNat) j at_).toNat p else out++[p]):=by
    intro d
    induction d with
    | zero =>
     intro n' at_ j j0 j1 hn' a0 a1
     obtain ⟨n',rfl⟩:∃ q,n'=q+1:=⟨n'-1,by omega⟩
     simp only [fm.l1,fm.b1,hw]
     rw [aY (by omega),aJ,List.drop_eq_nil_of_le (show out.length≤j.toNat by omega)]
     show _=fm.l0 k n w (w.length:Int) (i+1) (bif decide (at_≥0) then out.set at_.toNat p else out++[p])
     by_cases c:at_≥0
     · rw [aV c,aa,aa,aN c a1]
     · rw [aY c,aJ,aJ,bf (by omega) (by decide)]
    | succ d ih2 =>
     intro n' at_ j j0 j1 hn' a0 a1
     obtain ⟨n',rfl⟩:∃ q,n'=q+1:=⟨n'-1,by omega⟩
     have hj:aQ (j+1)=j+1:=aE (by omega) (by omega)
     have hd:out.drop j.toNat=List.getD out j.toNat (Ty.z aW)::out.drop (j+1).toNat:=by
      have:=wu (Ty.z aW) (l:=out) (i:=j.toNat) (by omega)
      rw [show (j+1).toNat=j.toNat+1 by omega]
      exact this
     simp only [fm.l1,fm.b1,hj]
     rw [aV (by omega),aa,aN j0 (by omega),hd]
     unfold ra
     cases seq (List.getD out j.toNat (Ty.z aW)).1 p.1 with
     | true=>exact ih2 n' j (j+1) (by omega) (by omega) (by omega) (by omega) (by omega)
     | false=>exact ih2 n' at_ (j+1) (by omega) (by omega) (by omega) a0 a1
   rw [inner out.length k (-1) 0 (by omega) (by omega) (by omega) (by omega) (by omega),show (0:Int).toNat=0 from rfl,List.drop_zero,MF p hnd]
   exact hnext
 unfold fm.f fm.t
 exact loop w.length k 0 (by omega) (by omega) (by omega)
theorem sK {k:Nat} (hk:2 ^ 50≤k) {t:Ty.d aK} (h:t.2.2.1.length≤1000):dr.f k t=some (gj t.2.2.1,()):=by
 unfold dr.f dr.t
 rw [Gh hk h]
 rfl
theorem DO {k:Nat} (hk:2 ^ 50≤k) {t:Ty.d aK} (h:t.2.1.length≤1000) {dir:aS} (hd:dir.length≤268435456):gf.f k t dir=some (jY t.2.1 dir,()):=by
 unfold gf.f gf.t jY
 refine fe (L:=fun n i (_:Unit)=>gf.l0 k n dir t.2.1 (t.2.1.length:Int) i) (R:=fun r _=>some (r.all fun r=>tW dir r.1==r.2.1,())) (Ty.z bF) t.2.1 (fun _ _=>True) (fun n _ _=>?_) (fun n i _ x rest h0 h1 hx hr hp ih=>?_) (n:=k) (s:=()) (by omega) trivial
 · simp only [gf.l0,gf.b0]
   rw [aY (by omega),aJ]
   rfl
 · have ih:=ih () trivial
   obtain ⟨q,e1,e2⟩:=Fc (qp dir x.1)
   simp only [gf.l0,gf.b0]
   rw [aV h1,aa,aN h0 h1,hx,tZ hk (by omega),e1,aX,aE (n:=i+1) (by omega) (by omega),ih,List.all_cons]
   unfold bne
   rw [show (q.1.2.2.2.2.1==x.2.1)=(tW dir x.1==x.2.1) by rw [e2];rfl]
   cases tW dir x.1==x.2.1 <;> rfl
theorem Dz {k:Nat} (hk:2 ^ 50≤k) {t:Ty.d aK} (h:TV t) (hu:UQ t) (key:ByteArray) (b:Int):fS.f k t key b=some ((iM t key b).1,((iM t key b).2,())):=by
 have h1:=h.1
 unfold fS.f fS.t iM
 rw [qt k h,aX]
 cases c1:t.1 with
 | false=>rfl
 | true =>
  simp only [fN,aJ]
  have hko:df.f k key=some (eT key,()):=kN k key
  rw [hko,aX]
  simp only []
  cases eT key with
  | false=>rfl
  | true =>
   simp only [fN,aJ]
   rw [← c1]
   refine fe (L:=fun n i (kn:Bool)=>fS.l0 k n key b kn t.2.1 (t.2.1.length:Int) i t.1 t.2.1 t.2.2.1 [] [] false t.2.1 t.2.2.1 t.1) (R:=fun r kn=>bif kn then some (t,((0:Int),())) else some ((match kW r key with | some b'=>(t,bif b' != b then 7 else 0) | none=>bif decide ((t.2.1.length:Int)≥20) then (t,5) else ((t.1,(t.2.1++[(key,(b,()))],t.2.2)),0):Ty.d aK × Int).1,((match kW r key with | some b'=>(t,bif b' != b then 7 else 0) | none=>bif decide ((t.2.1.length:Int)≥20) then (t,5) else ((t.1,(t.2.1++[(key,(b,()))],t.2.2)),0):Ty.d aK × Int).2,()))) (Ty.z bF) t.2.1 (fun i kn=>kn=true→∀ x ∈ t.2.1.drop i.toNat,x.1≠key) (fun n kn _=>?_) (fun n i kn x rest g0 g1 hx hr hp ih=>?_) (n:=k) (s:=false) (by omega) (fun q=>by cases q)
   · simp only [fS.l0,fS.b0]
     rw [aY (by omega),aJ]
     cases kn with
     | true=>rfl
     | false =>
      show _=some ((bif decide ((t.2.1.length:Int)≥20) then (t,5) else ((t.1,(t.2.1++[(key,(b,()))],t.2.2)),0):Ty.d aK × Int).1,((bif decide ((t.2.1.length:Int)≥20) then (t,5) else ((t.1,(t.2.1++[(key,(b,()))],t.2.2)),0):Ty.d aK × Int).2,()))
      rw [aJ]
      cases decide ((t.2.1.length:Int)≥20) with
      | true=>rfl
      | false =>
       rw [aJ,aJ,bf (by omega) (by decide)]
   · have er:kW (x::rest) key=bif seq x.1 key then some x.2.1 else kW rest key:=by
      unfold kW
      rw [List.find?_cons]
      cases seq x.1 key <;> rfl
     have hrest:t.2.1.drop (i+1).toNat=rest:=by
      have:=congrArg (List.drop 1) hr
      rw [List.drop_drop] at this
      rw [show (i+1).toNat=i.toNat+1 by omega]
      exact this
     simp only [fS.l0,fS.b0]
     rw [aV g1,aa,aN g0 g1,hx,aE (n:=i+1) (by omega) (by omega),er]
     cases c:seq x.1 key with
     | false =>
      simp only [tR,aa,aJ]
      refine ih kn fun q y hy=>hp q y ?_
      rw [hr]
      rw [hrest] at hy
      exact kR _ hy
     | true =>
      simp only [fN,aJ,aa]
      cases kn with
      | true=>exact absurd (eE.1 c) (hp rfl x (by rw [hr];exact ii))
      | false =>
       show (bif x.2.1 != b then _ else _)=some ((t,bif x.2.1 != b then 7 else 0).1,((t,bif x.2.1 != b then 7 else 0).2,()))
       cases x.2.1 != b with
       | true=>rfl
       | false =>
        refine (ih true fun _ y hy q=>?_).trans rfl
        rw [hrest] at hy
        have hpw:(t.2.1.drop i.toNat).Pairwise fun a b=>a.1≠b.1:=List.Pairwise.sublist (List.drop_sublist _ _) hu
        rw [hr] at hpw
        exact (List.pairwise_cons.1 hpw).1 y hy ((eE.1 c).trans q.symm)
theorem ta (k:Nat) (x:Ty.d aW):fa.f k x=some (dN [x],()):=by
 have e:fa.f k x=some (jB x,()):=by
  unfold fa.f fa.t jB eT
  rw [kN,aX]
  cases decide (1≤(x.1.size:Int)∧(x.1.size:Int)≤8) <;> cases decide ((x.2.2.1.size:Int)≤24) <;> cases x.2.1 <;> rfl
 rw [e]
 unfold dN
 show some (jB x,())=some ((jB x&&true)&&decide _,())
 rw [Bool.and_true,aV (by show (1:Nat)≤8;decide),Bool.and_true]
theorem An {k:Nat} (hk:2 ^ 50≤k) {t:Ty.d aK} (h:TV t) (p:Ty.d aW):ig.f k t p=some ((fq t p).1,((fq t p).2,())):=by
 have h2:=h.2
 have hz:(t.2.2.1++[p]).length=t.2.2.1.length+1:=d8 ..
 unfold ig.f ig.t fq
 rw [qt k h,aX]
 simp only []
 rw [bf (by omega) (by decide)]
 cases t.1 with
 | false=>rfl
 | true =>
  simp only [fN,aJ]
  rw [ta,aX]
  simp only []
  cases dN [p] with
  | false=>rfl
  | true =>
   simp only [fN,aJ]
   rw [sK hk (t:=(true,(t.2.1,((t.2.2.1++[p]),())))) (by show (t.2.2.1++[p]).length≤1000;omega),aX]
   simp only []
   cases decide (((gj (t.2.2.1++[p])).length:Int) > 8) with
   | true=>rfl
   | false =>
    simp only [aJ]
    cases decide (((t.2.2.1++[p]).length:Int) > 50) <;> rfl
theorem zr {l:List (Ty.d aK)} {i:Nat} (h:i<l.length):l.set i (l.getD i (Ty.z aK))=l:=by
 have e:l.getD i (Ty.z aK)=l[i]:=by simp [List.getD,h]
 rw [e,List.set_getElem_self]
theorem Bi {e:Ty.d bO} {i:Int} (h0:LE.le (α:=Int) 0 i) (h1:LT.lt (α:=Int) i (e.2.2.2.1.length:Int)):xp e i (gy e i)=e:=by
 unfold xp gy
 rw [zr (by omega)]
theorem JX {t:Ty.d aK} {key:ByteArray} {b:Int} (h:((iM t key b).2 != 0)=true):(iM t key b).1=t:=by
 unfold iM at h ⊢
 cases c1:!t.1 with
 | true=>rfl
 | false =>
  cases c2:!eT key with
  | true=>rfl
  | false =>
   rw [c1,c2] at h
   simp only [aJ] at h ⊢
   cases c:kW t.2.1 key with
   | some b'=>rfl
   | none =>
    rw [c] at h
    simp only [] at h ⊢
    cases d:decide ((t.2.1.length:Int)≥20) with
    | true=>rfl
    | false=>rw [d] at h;cases h
theorem HU {t:Ty.d aK} {p:Ty.d aW} (h:(fq t p).2=false):(fq t p).1=t:=by
 unfold fq at h ⊢
 cases c1:!t.1 with
 | true=>rfl
 | false =>
  cases c2:!dN [p] with
  | true=>rfl
  | false =>
   cases c3:decide (((gj (t.2.2.1++[p])).length:Int) > 8) with
   | true=>rfl
   | false =>
    cases c4:decide (((t.2.2.1++[p]).length:Int) > 50) with
    | true=>rfl
    | false=>rw [c1,c2,c3,c4] at h;cases h
theorem Is (g:Ty.d aA→RD) (q:RD):wk g (tl q)=tl (eW q g):=by
 have e:=hZ q.2
 unfold wk eW tl
 simp only []
 rw [e]
 cases c:q.2==0 with
 | true=>rfl
 | false=>rfl
theorem Fj (c:Int):(gQ c==2)=(c==2):=by
 unfold gQ
 by_cases c0:c=0
 · subst c0;rfl
 by_cases c1:c=1
 · subst c1;rfl
 by_cases c2:c=2
 · subst c2;rfl
 rw [pz c0,pz c1,pz c2]
 rfl
def yk (m:Int):jM→Int→aS
 | [],_=>[]
 | r::l,a=>(bif r.1==4 then [(r.2.2.1,(m,(a,(ar r,(r.2.1,())))))] else [])++yk m l (a+ar r)
theorem wz (m:Int) (mk:Ty.d ba) (hm:mk.1=5):∀ (l:du) (a:Int),yk m (l.map cI++[mk]) a=iI m l a
 | [],a=>by
  show (bif mk.1==4 then [_] else [])++[]=_
  rw [hm]
  rfl
 | p::l,a=>by
  show [_]++yk m (l.map cI++[mk]) (a+ar (cI p))=_
  rw [wz m mk hm l]
  rfl
theorem B2 {k:Nat} (hk:2 ^ 50≤k) {d:Ty.d aA} (hd:DR d) (m:Int) (hm0:1≤m) (hm1:m≤99999) {rs:jM} (hr:rs.length≤1000):bC.f k (wO (d,0)) m rs =
 some (wO (tl (eW (eW (Ak (a_ aF m) rs (aw (a_ aF m) d)) fun y=>dS y (a_ aF m)) (aw (a_ aF (m+1))))),(yk m rs 0,())):=by
 have hz:=HG m
 have hz1:=HG (m+1)
 unfold bC.f bC.t
 rw [cX,aX]
 simp only []
 rw [qa hk (d,0) hd (by omega),aX,oH]
 simp only []
 refine fe (L:=fun n i (s:RD × Int × aS)=>bC.l0 k n m s.2.1 rs rs.length i s.1.1.1 s.1.1.2.1 s.1.1.2.2.1 s.1.1.2.2.2.1 (gQ s.1.2) s.2.2)
  (R:=fun r s=>some (wO (tl (eW (eW (Ak (a_ aF m) r s.1) fun y=>dS y (a_ aF m)) (aw (a_ aF (m+1))))),(s.2.2++yk m r s.2.1,()))) (Ty.z ba) rs (fun i s=>DR s.1.1∧0≤s.2.1∧s.2.1≤211*i∧(s.2.2.length:Int)≤i) (fun n s hs=>?_) (fun n i s x rest h0 h1 hx hr' hs ih=>?_) (n:=k) (s:=(aw (a_ aF m) d,0,[])) (by omega) ⟨j3 _ _ hd,Int.le_refl _,by show (0:Int)≤211*0;omega,by show (0:Int)≤0;omega⟩
 · obtain ⟨q,a,o⟩:=s
   obtain ⟨g1,g2,g3,g4⟩:=hs
   simp only [bC.l0,bC.b0]
   rw [aY (by omega),aJ,cX,aX]
   simp only []
   rw [show ((q.1.1,(q.1.2.1,(q.1.2.2.1,(q.1.2.2.2.1,())))),(gQ q.2,()))=wO (tl q) from rfl,oK hk (tl q) g1,aX,Is]
   simp only []
   rw [cX,aX,aE (n:=m+1) (by omega) (by omega)]
   simp only []
   rw [qa hk (tl (eW q fun y=>dS y (a_ aF m))) (jN g1 fun x hx=>md hx _) (by omega),aX,Is]
   show _=some (_,(o++[],()))
   rw [List.append_nil]
   rfl
 · obtain ⟨q,a,o⟩:=s
   obtain ⟨g1,g2,g3,g4⟩:=hs
   simp only [] at g1 g2 g3 g4 ih ⊢
   have hrl:=mD x
   have hln:((aT (aI x)).size:Int)=ar x:=rfl
   simp only [bC.l0,bC.b0]
   rw [aV h1,aa,aN h0 h1,hx,p5 hk,aX]
   simp only []
   rw [oG hk,aX]
   simp only []
   rw [cX,aX]
   simp only []
   rw [show ((q.1.1,(q.1.2.1,(q.1.2.2.1,(q.1.2.2.2.1,())))),(gQ q.2,()))=wO (tl q) from rfl,wv hk (tl q) g1 _ (by omega),aX,Is]
   simp only []
   have hD:DR (eW q fun y=>jA y (a_ aF m) (aT (aI x))).1:=jN g1 fun y hy=>qm hy _ _
   rw [hln,aE (n:=a+ar x) (by omega) (by omega),aE (n:=i+1) (by omega) (by omega),bf (by omega) (by decide)]
   have ihT:=ih ((eW q fun y=>jA y (a_ aF m) (aT (aI x))),a+ar x,o++[(x.2.2.1,(m,(a,(ar x,(x.2.1,())))))]) ⟨hD,by simp only [];omega,by simp only [];omega,by simp only [];rw [d8];omega⟩
   have ihF:=ih ((eW q fun y=>jA y (a_ aF m) (aT (aI x))),a+ar x,o) ⟨hD,by simp only [];omega,by simp only [];omega,by simp only [];omega⟩
   show (bif x.1==4 then _ else _)=some (wO (tl (eW (eW (Ak (a_ aF m) rest (eW q fun y=>jA y (a_ aF m) (aT (aI x)))) fun y=>dS y (a_ aF m)) (aw (a_ aF (m+1))))),(o++((bif x.1==4 then [(x.2.2.1,(m,(a,(ar x,(x.2.1,())))))] else [])++yk m rest (a+ar x)),()))
   cases x.1==4 with
   | true =>
    rw [aa,aa,← nw]
    exact ihT
   | false =>
    rw [aJ,aJ,List.nil_append]
    exact ihF
theorem Iu (s:ByteArray) (x:Ty.d aA):tl (bi [s] x)=tl (gF s x):=by
 show tl (eW (gF s x) (bi []))=_
 unfold eW
 cases c:(gF s x).2==0 with
 | true =>
  rw [pD c]
  rfl
 | false=>rfl
theorem D2 {k:Nat} (hk:2 ^ 50≤k) {q:RD} (hq:DR q.1) (m:Int):dZ.f k (wO (tl q)) m=some (wO (tl (eW q (gq (s_ m) m))),()):=by
 unfold dZ.f dZ.t
 rw [show (wO (tl q)).2.1=(tl q).2 from rfl,lf]
 cases c:q.2 != 0 with
 | true =>
  rw [aa]
  unfold eW
  rw [show (q.2==0)=false by unfold bne at c;simpa using c]
  rfl
 | false =>
  have c0:=f8 c
  have hu:LE.le (α:=Int) (di q.1.1) 100000:=Int.le_trans hq.use hq.cap1
  have hn:=hq.sz.n
  have hl:=hq.sz.l
  have hz:=lA q.1 (a_ aF m)
  have hb:(q.2==0)=true:=beq_iff_eq.2 c0
  rw [aJ,cX,aX,pD hb]
  simp only []
  rw [show (wO (q.1,0)).1=q.1 from rfl,jQ hk (by omega) (by omega) (by omega),aX]
  simp only []
  rw [tS hk m (by omega),aX]
  simp only []
  rw [lz,aX]
  have hhl:=zW m (s:=(bG q.1 (a_ aF m)).1) (by omega)
  rw [np hk hhl,aX]
  simp only []
  have hsz:=po (g6 m (bG q.1 (a_ aF m)).1).1
  have hhz:(a_ bM m).size≤1099511627776:=by
   unfold a_
   by_cases h:(1:Int)≤m∧m≤100000
   · rw [aV h,aa,ByteArray.size_append]
     have:=mw (n:=m) (by omega) (by omega)
     have:bM.size=4:=rfl
     omega
   · rw [aY h]
     exact Nat.zero_le _
  rw [AD hk (q.1,0) hq hhz (by omega),aX,oH]
  simp only []
  unfold eW gq
  rw [hb,aa,show s_ m (bG q.1 (a_ aF m)).1=ez (g6 m (bG q.1 (a_ aF m)).1).1 from rfl]
  have hD:=jh (a_ bM m) (ez (g6 m (bG q.1 (a_ aF m)).1).1) q.1 hq
  generalize kv (a_ bM m) (ez (g6 m (bG q.1 (a_ aF m)).1).1) q.1=f at hD ⊢
  rw [show (wO (tl f)).2.1=gQ f.2 from rfl,Fj]
  cases c2:f.2==2 with
  | false=>rfl
  | true =>
   rw [aa,aa,aX]
   simp only []
   rw [show ((wO (tl f)).1,((0:Int),()))=wO (f.1,0) from rfl,m4 hk (f.1,0) hD,aX,oH,Iu]
theorem N3 (d:Ty.d aA) (s:ByteArray):(xw d s).2≠2:=by
 unfold xw i_
 have hb:(li d).2≠2:=by
  unfold li
  cases !j6 d with
  | true=>show (5:Int)≠2;decide
  | false =>
   cases d.2.2.2.1 with
   | true=>show (1:Int)≠2;decide
   | false =>
    cases d.2.2.1==0 with
    | true=>show (1:Int)≠2;decide
    | false=>cases decide ((d.2.2.1:Int) > 0) <;> (show (0:Int)≠2;decide)
 cases (li d).2 != 0 with
 | true=>exact hb
 | false =>
  show (uN s d.1 d.2.1).2≠2
  unfold uN
  cases (bS d.1 s).isNone with
  | true=>show (3:Int)≠2;decide
  | false=>show (0:Int)≠2;decide
theorem Ll (hb:ByteArray→ByteArray) (m:Int) (d:Ty.d aA):(gq hb m d).2≠2:=by
 unfold gq
 generalize kv (a_ bM m) (hb (bG d (a_ aF m)).1) d=f
 cases c:f.2==2 with
 | false=>exact beq_eq_false_iff_ne.1 c
 | true =>
  show (eW (gF (a_ bM m) f.1) (bi [])).2≠2
  have hg:(gF (a_ bM m) f.1).2≠2:=by
   unfold gF
   cases (bS f.1.1 (a_ bM m)).isSome with
   | true=>exact N3 _ _
   | false=>show (0:Int)≠2;decide
  unfold eW
  cases (gF (a_ bM m) f.1).2==0 with
  | true=>show (0:Int)≠2;decide
  | false=>exact hg
theorem HV {ns:List ByteArray} {r:RD} (h:(r.2==2)=false):mS ns r=r:=by
 unfold mS
 rw [h]
 rfl
theorem Fg (hb:ByteArray→ByteArray) (st:Ty.d aD) (d:Ty.d aA) (l:du) {a q3 q4:RD} (ea:a=dH st.1.1 l (st.2.2.1-1) d) (e3:q3=eW (eW a (aw (a_ aF (st.1.1+1)))) (gq hb st.1.1)) (e4:q4=eW q3 (bB (fc st.1.1))) :
 cP hb st d l=bif q3.2==0 then (bif q4.2 != 0 then (pO st,mS (kq st.1.1) (tl q4)) else ((fc st.1.1,(iI st.1.1 l 0,(st.2.2.1,(0,(0,()))))),tl (mR st.1.2.1 q4.1))) else (pO st,mS (kq st.1.1) (tl q3)):=by
 have sz:∀ (r:RD) (f:Ty.d aA→RD),(r.2 != 0)=false→eW r f=f r.1:=fun r f h=>by unfold eW;rw [f8 h];rfl
 have sn:∀ (r:RD) (f:Ty.d aA→RD),(r.2 != 0)=true→eW r f=r:=fun r f h=>by
  unfold eW
  rw [show (r.2==0)=false by unfold bne at h;simpa using h]
  rfl
 have nz:∀ r:RD,(r.2 != 0)=true→(r.2==0)=false:=fun r h=>by unfold bne at h;simpa using h
 unfold cP
 rw [← ea]
 cases ca:a.2 != 0 with
 | true =>
  rw [sn a _ ca,sn a _ ca] at e3
  rw [e3,nz a ca]
  rfl
 | false =>
  rw [sz a _ ca] at e3
  simp only [aJ]
  generalize aw (a_ aF (st.1.1+1)) a.1=b at e3 ⊢
  cases cb:b.2 != 0 with
  | true =>
   rw [sn b _ cb] at e3
   rw [e3,nz b cb]
   rfl
  | false =>
   rw [sz b _ cb] at e3
   simp only [aJ]
   have h2:=Ll hb st.1.1 b.1
   rw [← e3] at h2 ⊢
   cases ce:q3.2 != 0 with
   | true =>
    rw [nz q3 ce]
    simp only [aa,aJ]
    rw [HV]
    show (gQ q3.2==2)=false
    rw [Fj]
    exact pz h2
   | false =>
    rw [sz q3 _ ce] at e4
    rw [← e4,f8 ce]
    rfl
theorem B9 {k:Nat} (hk:2 ^ 50≤k) {st:Ty.d aD} {d:Ty.d aA} (hl:dl st.1=true) (hd:DR d) (hn:LE.le (α:=Int) (st.1.1+2) 100000) (hb0:LE.le (α:=Int) 1 st.2.2.1) (hb1:LE.le (α:=Int) st.2.2.1 1000001) {l:du} (hlen:l.length≤900) :
 cQ.f k st (d,(0,())) l=some ((cP (s_ st.1.1) st d l).1,(wO (cP (s_ st.1.1) st d l).2,())):=by
 obtain ⟨n1,n2,n3,_⟩:=gH (n:=st.1.1) (ids:=st.1.2.1) hl
 have h60:st.1.2.1.length≤60:=(bm (nx:=st.1.1) (ids:=st.1.2.1) hl).2.2.2.1
 unfold cQ.f cQ.t
 rw [Dk hk (by omega),aX,aE (n:=st.2.2.1-1) (by omega) (by omega),aE (n:=st.1.1+2) (by omega) (by omega),aE (n:=st.1.1+1) (by omega) (by omega)]
 simp only []
 have hkl:(fI l (st.2.2.1-1)).length≤1000:=by
  unfold fI
  rw [py,List.length_map]
  show l.length+1≤1000
  omega
 have em:yk st.1.1 (fI l (st.2.2.1-1)) 0=iI st.1.1 l 0:=wz st.1.1 _ rfl l 0
 rw [show ((d,((0:Int),())):Ty.d an)=wO (d,0) from rfl,B2 hk hd st.1.1 n1 (by omega) hkl,aX,em]
 simp only []
 have ea:(eW (Ak (a_ aF st.1.1) (fI l (st.2.2.1-1)) (aw (a_ aF st.1.1) d)) fun y=>dS y (a_ aF st.1.1))=dH st.1.1 l (st.2.2.1-1) d:=rfl
 rw [ea]
 have a0:DR (dH st.1.1 l (st.2.2.1-1) d).1:=sL _ _ _ hd
 have hq2:DR (eW (dH st.1.1 l (st.2.2.1-1) d) (aw (a_ aF (st.1.1+1)))).1:=jN a0 fun x hx=>j3 _ _ hx
 rw [D2 hk hq2,aX]
 simp only []
 have hq3:DR (eW (eW (dH st.1.1 l (st.2.2.1-1) d) (aw (a_ aF (st.1.1+1)))) (gq (s_ st.1.1) st.1.1)).1:=jN hq2 fun x hx=>by
  unfold gq
  cases (kv (a_ bM st.1.1) (s_ st.1.1 (bG x (a_ aF st.1.1)).1) x).2==2 with
  | true=>exact jv _ _ (jh _ _ _ hx)
  | false=>exact jh _ _ _ hx
 rw [Fg (s_ st.1.1) st d l rfl rfl rfl]
 generalize eW (eW (dH st.1.1 l (st.2.2.1-1) d) (aw (a_ aF (st.1.1+1)))) (gq (s_ st.1.1) st.1.1)=q3 at hq3 ⊢
 rw [show (wO (tl q3)).2.1=gQ q3.2 from rfl,hZ]
 have clean:∀ q:RD,DR q.1→((aj.f k st.1.1).bind fun r5=>((aj.f k (st.1.1+1)).bind fun r6=>((dP.f k st.1.1).bind fun r7=>((ae.f k (wO (tl q)) [(⟨#[116,101,109,112]⟩:ByteArray),r5.1,r6.1,r7.1]).bind fun r8=>(some (((st.1.1+2,st.1.2),st.2),r8))))))=(some (pO st,(wO (mS (kq st.1.1) (tl q)),())):Option (Ty.d aD × Ty.d an × Unit)):=fun q hq=>by
  rw [cX,aX,cX,aX,lz,aX]
  simp only []
  rw [show [(⟨#[116,101,109,112]⟩:ByteArray),a_ aF st.1.1,a_ aF (st.1.1+1),a_ bM st.1.1]=kq st.1.1 from rfl,xh hk (tl q) hq (l:=kq st.1.1) (show 4≤1000 by decide),aX]
  rfl
 cases c3:q3.2==0 with
 | false =>
  have c3':(gQ q3.2 != 0)=true:=by unfold bne;rw [hZ,c3];rfl
  simp only [aJ]
  rw [c3',aa]
  exact clean q3 hq3
 | true =>
  simp only [aa]
  rw [show (((st.1.1+2:Int),([st.1.1,st.1.1+1],())):Ty.d ch)=fc st.1.1 from rfl,pc hk (tl q3) hq3 (v:=fc st.1.1) (show 2≤1073741824 by decide),aX,Is]
  simp only []
  have hq4:DR (eW q3 (bB (fc st.1.1))).1:=jN hq3 fun x hx=>m3 _ _ hx
  generalize eW q3 (bB (fc st.1.1))=q4 at hq4 ⊢
  rw [show (wO (tl q4)).2.1=(tl q4).2 from rfl,lf]
  cases c4:q4.2 != 0 with
  | true =>
   rw [aa,aa]
   exact clean q4 hq4
  | false =>
   rw [aJ,aJ,pD (beq_iff_eq.2 (f8 c4))]
   have key:∀ r:RD,DR r.1→cQ.l0 k k st.1.2.1.length 0 [st.1.1,st.1.1+1] (iI st.1.1 l 0) (st.1.1+2) st.2.2.1 0 0 r.1.1 r.1.2.1 r.1.2.2.1 r.1.2.2.2.1 r.2 st.1.2.1=some ((fc st.1.1,(iI st.1.1 l 0,(st.2.2.1,(0,(0,()))))),(wO (wk (mR st.1.2.1) r),())):=fun r hr=>by
    refine fe (L:=fun n i (x:RD)=>cQ.l0 k n st.1.2.1.length i [st.1.1,st.1.1+1] (iI st.1.1 l 0) (st.1.1+2) st.2.2.1 0 0 x.1.1 x.1.2.1 x.1.2.2.1 x.1.2.2.2.1 x.2 st.1.2.1) (R:=fun q x=>some ((fc st.1.1,(iI st.1.1 l 0,(st.2.2.1,(0,(0,()))))),(wO (wk (mR q) x),()))) (Ty.z (.int .i64)) st.1.2.1 (fun i x=>DR x.1) (fun n x hx=>?_) (fun n i x y rest h0 h1 hy hr' hx ih=>?_) (n:=k) (s:=r) (by omega) hr
    · simp only [cQ.l0,cQ.b0]
      rw [aY (by omega),aJ,show mR []=fun d=>(d,0) from rfl,Cd]
      rfl
    · simp only [cQ.l0,cQ.b0]
      rw [aV h1,aa,aN h0 h1,hy,cX,aX]
      simp only []
      rw [show ((x.1.1,(x.1.2.1,(x.1.2.2.1,(x.1.2.2.2.1,())))),(x.2,()))=wO x from rfl,m4 hk x hx,aX,lz,aX]
      simp only []
      rw [m4 hk _ (rM hx (nP _)),aX,aE (n:=i+1) (by omega) (by omega)]
      have e:wk (mR (y::rest)) x=wk (mR rest) (wk (gF (a_ bM y)) (wk (gF (a_ aF y)) x)):=by
       have e1:mR (y::rest)=fun d=>eW (bi [a_ aF y,a_ bM y] d) (mR rest):=rfl
       rw [e1,ql,y9,y9,show bi []=fun d=>(d,0) from rfl,Cd]
      rw [e]
      exact ih _ (rM (rM hx (nP _)) (nP _))
   have:=key (q4.1,0) hq4
   rw [oH] at this
   exact this
theorem Da {k:Nat} (hk:2 ^ 50≤k) {st:Ty.d aD} {d:Ty.d aA} (hd:ED d) (h1:st.1.2.1.length≤1073741824) (h2:st.2.1.length≤536870912):kF.f k st d=some (oS (br st d)):=by
 have ec:cM.f k st=some (st,()):=by
  unfold cM.f cM.t dR.f dR.t
  rw [bf (by omega) (by decide),aX]
  unfold cJ.f cJ.t
  rw [bf (by omega) (by decide),aX]
 unfold kF.f kF.t br
 rw [ec,aX]
 simp only []
 rw [gV k hd.l,aX]
 simp only []
 rw [F2 hk hd (by omega),aX]
 simp only []
 rw [ub hk hd (by omega) (by omega),aX]
 simp only []
 cases c1:dj st d with
 | false=>rfl
 | true =>
  obtain ⟨g1,g2,g3⟩:=dM c1
  obtain ⟨n1,n2,_,_⟩:=gH (n:=st.1.1) (ids:=st.1.2.1) g1.live
  simp only [fN,aJ]
  rw [aE (n:=st.1.1+2) (by omega) (by omega)]
  by_cases c2:st.1.1+2 > (100000:Int)
  · rw [aV c2];rfl
  · rw [aY c2]
    simp only [aJ]
    have hz:=sk st.2.1 d
    obtain ⟨b1,b2⟩:=AM c1
    cases c3:(bX st.2.1 d).2 != 0 with
    | true=>rfl
    | false =>
     simp only [aJ]
     rw [B9 hk g1.live g1.disk (Int.not_lt.1 c2) b1 b2 (by omega),aX]
     rfl
structure EW (e:Ty.d bO):Prop where
 ids:e.1=true→e.2.1.1.2.1.length≤1048576
 dir:e.1=true→e.2.1.2.1.length≤268435456
 sz:ED e.2.2.1
 len:e.2.2.2.1.length≤3
 txn:∀ t ∈ e.2.2.2.1,TV t
 uq:UE e
def Kc (R:Ty.d gN) (q:Aw):Option (Ty.d gN × Ty.d aG × Unit):=some ((q.1,R.2),(q.2,()))
theorem Ei {k:Nat} (hk:2 ^ 50≤k) {R:Ty.d gN} (h:EW R.1) (up:R.1.1=true) {s:Ty.d aC} (h0:LE.le (α:=Int) 0 s.2.1) (h1:LT.lt (α:=Int) s.2.1 (R.1.2.2.2.1.length:Int)):cY.f k R s=Kc R (Jt R.1 s):=by
 have ht:TV (gy R.1 s.2.1):=uZ h.txn (Int.toNat s.2.1)
 have hq:UQ (gy R.1 s.2.1):=NI h.uq _
 have hdir:=h.dir up
 have hko:df.f k s.2.2.1=some (eT s.2.2.1,()):=kN k s.2.2.1
 unfold cY.f cY.t Jt
 rw [aN h0 h1,hko,aX]
 simp only []
 cases eT s.2.2.1 with
 | false=>rfl
 | true =>
  simp only [fN,aJ]
  rw [show List.getD R.1.2.2.2.1 (Int.toNat s.2.1) (Ty.z aK)=gy R.1 s.2.1 from rfl]
  unfold oz.f oz.t
  rw [Hg hk (by have:=ht.2;omega),aX]
  cases lL (gy R.1 s.2.1).2.2.1 s.2.2.1 with
  | some p =>
   simp only [vm,fN,aJ]
   cases hp:p.2.1 <;> rfl
  | none =>
   simp only [vm,tR,aa,aX,aJ]
   unfold Ol
   rw [yU hk h.sz (by omega),aX]
   simp only []
   generalize rG R.1.2.1.2.1 R.1.2.2.1 s.2.2.1=p
   cases p.2==3 with
   | true=>rfl
   | false =>
    simp only [aJ]
    unfold n9.f n9.t
    rw [Dz hk ht hq,aX]
    simp only []
    cases c:(iM (gy R.1 s.2.1) s.2.2.1 p.1.2.2.1).2 != 0 with
    | true =>
     simp only [aa,aX]
     rw [JX c]
     have e1:=Bi h0 h1
     unfold xp at e1
     exact congrArg (fun x=>some ((x,R.2),_)) e1
    | false=>rfl
theorem G7 {k:Nat} (hk:2 ^ 50≤k) {R:Ty.d gN} (h:EW R.1) {s:Ty.d aC} (h0:LE.le (α:=Int) 0 s.2.1) (h1:LT.lt (α:=Int) s.2.1 (R.1.2.2.2.1.length:Int)) :
 ((kL.f k (List.getD R.1.2.2.2.1 (Int.toNat s.2.1) (Ty.z aK)) s).bind fun r5=>(let l6:=(List.set R.1.2.2.2.1 (Int.toNat s.2.1) r5.1);(some (((R.1.1,(R.1.2.1,(R.1.2.2.1,(l6,())))),R.2),r5.2))):Option (Ty.d gN × Ty.d aG × Unit))=Kc R (Jz R.1 s):=by
 have ht:TV (gy R.1 s.2.1):=uZ h.txn (Int.toNat s.2.1)
 have e1:=Bi h0 h1
 unfold xp at e1
 unfold kL.f kL.t Jz
 rw [show List.getD R.1.2.2.2.1 (Int.toNat s.2.1) (Ty.z aK)=gy R.1 s.2.1 from rfl,show ((s.2.2.1,((s.1==4),(s.2.2.2.1,()))):Ty.d aW)=lr s from rfl,An hk ht,aX,ta,aX]
 simp only []
 cases c:(fq (gy R.1 s.2.1) (lr s)).2 with
 | false =>
  rw [HU c]
  cases dN [lr s] with
  | false=>exact congrArg (fun x=>some ((x,R.2),_)) e1
  | true=>exact congrArg (fun x=>some ((x,R.2),_)) e1
 | true =>
  have hp:dN [lr s]=true:=by
   unfold fq at c
   cases c1:!(gy R.1 s.2.1).1 with
   | true=>rw [c1] at c;cases c
   | false =>
    rw [c1] at c
    cases c2:dN [lr s] with
    | true=>rfl
    | false=>rw [c2] at c;cases c
  rw [hp]
  rfl
theorem E3 {k:Nat} (hk:2 ^ 50≤k) {R:Ty.d gN} (h:EW R.1) (up:R.1.1=true) {s:Ty.d aC}:bQ.f k R s=Kc R (bif !Gx R.1 s then (R.1,jb 4) else C8 R.1 s):=by
 have hlen:=h.len
 have hids:=h.ids up
 have hdir:=h.dir up
 unfold bQ.f bQ.t kK.f kK.t Gx
 rw [iQ,aX]
 simp only []
 by_cases r:(1:Int)≤s.1∧s.1≤6
 · rw [aV r]
   simp only [aa,Bool.true_and]
   rw [iQ,aX]
   simp only []
   rw [aE (n:=(R.1.2.2.2.1.length:Int)-1) (by omega) (by omega)]
   by_cases q:0≤s.2.1∧s.2.1≤(R.1.2.2.2.1.length:Int)-1
   · have h0:LE.le (α:=Int) 0 s.2.1:=q.1
     have h1:LT.lt (α:=Int) s.2.1 (R.1.2.2.2.1.length:Int):=by have q2:LE.le (α:=Int) s.2.1 ((R.1.2.2.2.1.length:Int)-1):=q.2;omega
     have ht:TV (gy R.1 s.2.1):=uZ h.txn (Int.toNat s.2.1)
     rw [aV q]
     simp only [aa,Bool.true_and]
     rw [aN h0 h1,aX,aN h0 h1]
     simp only []
     have hf:((List.getD R.1.2.2.2.1 (Int.toNat s.2.1) (Ty.z aK)).1==(s.1 != 1))=!((gy R.1 s.2.1).1==(s.1==1)):=by
      show ((gy R.1 s.2.1).1==!(s.1==1))=_
      cases (gy R.1 s.2.1).1 <;> cases s.1==1 <;> rfl
     rw [hf]
     cases (gy R.1 s.2.1).1==(s.1==1) with
     | true=>rfl
     | false =>
      simp only [tR,fN,aJ]
      unfold C8
      rw [Ei hk h up h0 h1]
      cases c1:s.1==1 with
      | true=>rfl
      | false =>
       cases c6:s.1==6 with
       | true=>rfl
       | false =>
        cases c2:s.1==2 with
        | true=>rfl
        | false =>
         simp only [aJ]
         have hput:=G7 hk h h0 h1
         cases c5:s.1==5 with
         | true =>
          have e5:s.1=5:=C9 c5
          have hn:=ru (gy R.1 s.2.1).2.2.1
          have ht2:=ht.2
          rw [show (s.1==3)=false by rw [e5];rfl,show (s.1==4)=false by rw [e5];rfl]
          simp only [aa,aJ]
          rw [show List.getD R.1.2.2.2.1 (Int.toNat s.2.1) (Ty.z aK)=gy R.1 s.2.1 from rfl,DO hk (by have:=ht.1;omega) hdir,aX]
          simp only []
          unfold ue
          cases jY (gy R.1 s.2.1).2.1 R.1.2.1.2.1 with
          | false=>rfl
          | true =>
           simp only [fN,aJ]
           rw [sK hk (by omega),aX]
           simp only []
           rw [Ap hk h.sz (by omega) (by omega) (by omega)]
           rfl
         | false =>
          simp only [aJ]
          cases c3:s.1==3 with
          | true =>
           simp only [aa]
           exact hput
          | false =>
           simp only [aJ]
           cases c4:s.1==4 with
           | true =>
            simp only [aa]
            exact hput
           | false =>
            exfalso
            have n1:=beq_eq_false_iff_ne.1 c1
            have n2:=beq_eq_false_iff_ne.1 c2
            have n3:=beq_eq_false_iff_ne.1 c3
            have n4:=beq_eq_false_iff_ne.1 c4
            have n5:=beq_eq_false_iff_ne.1 c5
            have n6:=beq_eq_false_iff_ne.1 c6
            have key:∀ S:Int,1≤S→S≤6→S≠1→S≠2→S≠3→S≠4→S≠5→S≠6→False:=by omega
            exact key s.1 r.1 r.2 n1 n2 n3 n4 n5 n6
   · rw [aY q]
     rfl
 · rw [aY r]
   simp only [aJ,aX,tR,aa,Bool.false_and,Bool.and_false]
   rfl
theorem Ds {k:Nat} (hk:2 ^ 50≤k) {R:Ty.d gN} (h:EW R.1) {s:Ty.d aC} (h11:(s.1==11)=false):bv.f k R s=Kc R (mL R.1 s):=by
 unfold bv.f bv.t mL
 rw [h11]
 cases c10:s.1==10 with
 | true =>
  simp only [aa]
  cases R.1.1 with
  | true=>rfl
  | false =>
   simp only [aJ]
   rw [tU hk h.sz,aX]
   rfl
 | false =>
  simp only [aJ]
  cases up:R.1.1 with
  | false=>rfl
  | true =>
   have hdir:=h.dir up
   have hids:=h.ids up
   simp only [fN,aJ]
   cases c7:s.1==7 with
   | true =>
    simp only [aa]
    rw [Da hk (st:=R.1.2.1) (d:=R.1.2.2.1) h.sz (by omega) (by omega)]
    unfold HC
    rw [up]
    rfl
   | false =>
    simp only [aJ]
    cases s.1==8 with
    | true =>
     simp only [aa]
     rw [xN hk (by omega)]
     rfl
    | false =>
     simp only [aJ]
     cases c9:s.1==9 with
     | true =>
      simp only [aa]
      rw [pV (by omega) (by omega) (by decide)]
      rfl
     | false =>
      simp only [aJ]
      rw [E3 hk h up]
      rfl
theorem Dw (x:Ty.d aL) (l:du) (key:ByteArray):jK (x::l) key=bif seq x.1 key then jK l key else x::jK l key:=by
 unfold jK
 rw [List.filter_cons]
 cases seq x.1 key <;> rfl
theorem LX (x:Ty.d aL) (l:du) (p:Ty.d aL):Ah (x::l) p=bif Oy p.1 x then x::Ah l p else p::x::l:=by
 unfold Ah
 rw [List.takeWhile_cons,List.dropWhile_cons]
 cases Oy p.1 x <;> rfl
theorem Ef {k:Nat} (hk:2 ^ 50≤k) {l:du} (hl:l.length≤1048576) (p:Ty.d aL) (del:Bool):gL.f k l p del=some (Cf l p del,()):=by
 unfold gL.f gL.t
 refine (fe (L:=fun n i (s:Bool × du)=>gL.l0 k n l s.1 i p.1 p.2.1 p.2.2.1 s.2) (R:=fun r s=>some (s.2++(bif s.1 then jK r p.1 else Ah (jK r p.1) (p.1,(p.2.1,(p.2.2.1,())))),())) (Ty.z aL) l (fun i s=>(s.2.length:Int)≤2*i+1) (fun n s hs=>?_) (fun n i s x rest h0 h1 hx hr hp ih=>?_) (n:=k) (s:=(del,[])) (by omega) (by show ((0:Nat):Int)≤2*0+1;decide)).trans (by rw [List.nil_append];rfl)
 · obtain ⟨dn,out⟩:=s
   simp only [] at hs ⊢
   simp only [gL.l0,gL.b0]
   rw [aY (by omega),aJ,bf (by omega) (by decide)]
   cases dn with
   | true=>rw [show jK [] p.1=[] from rfl,aa,List.append_nil];rfl
   | false=>rfl
 · obtain ⟨dn,out⟩:=s
   simp only [] at hp ih ⊢
   have hz:(out++[((p.1,(p.2.1,(p.2.2.1,()))):Ty.d aL)]).length=out.length+1:=d8 ..
   simp (disch:=first | omega | decide) only [gL.l0,gL.b0,aV h1,aa,aN,hx,bf,aE]
   have i1:=ih (dn,out) (by simp only [];omega)
   have i2:=ih (dn,out++[x]) (by simp only [];rw [py,List.length_singleton];omega)
   have i3:=ih (true,(out++[(p.1,(p.2.1,(p.2.2.1,())))])++[x]) (by simp only [];rw [py,py,List.length_singleton,List.length_singleton];omega)
   simp only [] at i1 i2 i3
   rw [Dw]
   cases c1:seq x.1 p.1 with
   | true=>simp only [aa];exact i1
   | false =>
    simp only [aJ]
    cases dn with
    | true =>
     simp only [fN,aJ,aa] at i2 ⊢
     rw [i2,nw]
     rfl
    | false =>
     simp only [tR,aJ,aa] at i2 i3 ⊢
     rw [LX]
     unfold Oy
     rw [c1,Bool.or_false]
     cases nT x.1 p.1 with
     | true =>
      simp only [fN,aJ,aa]
      rw [i2,nw]
      rfl
     | false =>
      simp only [tR,aJ,aa]
      rw [i3,nw,nw]
      rfl
theorem EA {k:Nat} (hk:2 ^ 50≤k) {l:du} (hl:l.length≤1000) {puts:fC} (hp:puts.length≤1000) (b:Int):iv.f k l puts b=some (m_ l puts b,()):=by
 unfold iv.f iv.t
 rw [bf (by omega) (by decide),List.nil_append]
 refine fe (L:=fun n i (s:du)=>iv.l0 k n puts b i s) (R:=fun r s=>some (m_ s r b,())) (Ty.z aW) puts (fun i s=>(s.length:Int)≤1000+i) (fun n s hs=>?_) (fun n i s x rest h0 h1 hx hr hp' ih=>?_) (n:=k) (s:=l) (by omega) (by omega)
 · simp only [iv.l0,iv.b0]
   rw [aY (by omega),aJ]
   rfl
 · have hz:=MY s (x.1,(x.2.2.1,(b,()))) x.2.1
   simp only [iv.l0,iv.b0]
   rw [aV h1,aa]
   repeat rw [aN h0 h1]
   rw [hx,Ef hk (by omega),aX,aE (n:=i+1) (by omega) (by omega)]
   exact ih (Cf s (x.1,(x.2.2.1,(b,()))) x.2.1) (by omega)
abbrev Gd:=Ty.d af × Ty.d aG
def oM (q:Gd):Option (Ty.d af × Ty.d aG × Unit):=some (q.1,(q.2,()))
def pW (l:du):aS:=l.map fun p=>(p.1,(0,(0,(0,p.2.2))))
def Qm:Ty.d aL:=(ByteArray.empty,(ByteArray.empty,(0,())))
def jq:du→ByteArray→Ty.d aL × Int
 | [],_=>(Qm,8)
 | x::l,key=>bif seq x.1 key then (x,0) else jq l key
structure MV (m:Ty.d af):Prop where
 map:m.2.1.length≤900
 len:m.2.2.2.1.length≤1000
 txn:∀ t ∈ m.2.2.2.1,TV t
def kQ (m:Ty.d af) (i:Int):Ty.d aK:=m.2.2.2.1.getD i.toNat (Ty.z aK)
def lD (m:Ty.d af) (i:Int) (t:Ty.d aK):Ty.d af:=(m.1,(m.2.1,(m.2.2.1,(m.2.2.2.1.set i.toNat t,()))))
def w7 (m:Ty.d af) (s:Ty.d aC) (t:Ty.d aK) (p:Ty.d aL × Int):Gd :=
 bif (iM t s.2.2.1 p.1.2.2.1).2 != 0 then (m,jb (iM t s.2.2.1 p.1.2.2.1).2) else
 (lD m s.2.1 (iM t s.2.2.1 p.1.2.2.1).1,(p.2,(p.1.2.1,([],()))))
def pA (m:Ty.d af) (s:Ty.d aC):Gd :=
 bif !eT s.2.2.1 then (m,jb 4) else match lL (kQ m s.2.1).2.2.1 s.2.2.1 with
 | some p=>bif p.2.1 then (m,jb 8) else (m,(0,(p.2.2.1,([],()))))
 | none=>w7 m s (kQ m s.2.1) (jq m.2.1 s.2.2.1)
def mh (m:Ty.d af) (t:Ty.d aK):Gd :=
 bif !jY t.2.1 (pW m.2.1) then (m,jb 7) else bif ((gj t.2.2.1).length:Int)==0 then (m,jb 0) else
 bif decide (((m_ m.2.1 (gj t.2.2.1) m.2.2.1).length:Int) > 20) then (m,jb 5) else bif decide (m.2.2.1 > 1000000) then (m,jb 5) else
 ((m.1,(m_ m.2.1 (gj t.2.2.1) m.2.2.1,(aQ (m.2.2.1+1),m.2.2.2))),jb 0)
def qU (m:Ty.d af) (s:Ty.d aC):Gd :=
 bif !dN [lr s] then (m,jb 4) else bif !(fq (kQ m s.2.1) (lr s)).2 then (m,jb 5) else (lD m s.2.1 (fq (kQ m s.2.1) (lr s)).1,jb 0)
def q7 (m:Ty.d af) (s:Ty.d aC):Gd :=
 bif s.1==1 then (lD m s.2.1 (true,([],([],()))),jb 0) else bif s.1==6 then (lD m s.2.1 lp,jb 0) else
 bif s.1==5 then mh (lD m s.2.1 lp) (kQ m s.2.1) else bif s.1==2 then pA m s else qU m s
def tI (m:Ty.d af) (s:Ty.d aC):Bool:=decide (0≤s.2.1∧s.2.1≤(m.2.2.2.1.length:Int)-1)&&(decide (1≤s.1∧s.1≤6)&&!((kQ m s.2.1).1==(s.1==1)))
def iF (m:Ty.d af) (s:Ty.d aC):Gd :=
 bif s.1==10 then (bif m.1 then (m,jb 4) else ((true,(m.2.1,(m.2.2.1,(List.replicate 3 (Ty.z aK),())))),jb 0)) else
 bif s.1==11 then (m,jb 0) else bif !m.1 then (m,jb 6) else bif s.1==7 then (m,jb 0) else
 bif s.1==8 then (m,(0,(ByteArray.empty,(m.2.1.map (·.1),())))) else
 bif s.1==9 then ((false,(m.2.1,(m.2.2.1,(List.replicate 3 (Ty.z aK),())))),jb 0) else
 bif !tI m s then (m,jb 4) else q7 m s
theorem xJ {k:Nat} (hk:2 ^ 50≤k) {l:du} (hl:l.length≤1048576):fM.f k l=some (pW l,()):=by
 unfold fM.f fM.t
 refine (fe (L:=fun n i s=>fM.l0 k n l i s) (R:=fun r s=>some (s++pW r,())) (Ty.z aL) l (fun i s=>(s.length:Int)=i) (fun n s hs=>?_) (fun n i s x rest h0 h1 hx hr hp ih=>?_) (n:=k) (s:=[]) (by omega) rfl).trans (by rw [List.nil_append])
 · simp (disch:=omega) only [fM.l0,fM.b0,aY,aJ,pW,List.map_nil,List.append_nil]
 · have ih:=ih (s++[(x.1,(0,(0,(0,x.2.2))))]) (by rw [d8];omega)
   simp (disch:=first | omega | decide) only [fM.l0,fM.b0,aV h1,aa,aN,hx,bf,aE,ih]
   rw [nw]
   rfl
theorem Dx {k:Nat} (hk:2 ^ 50≤k) {l:du} (hl:l.length≤1048576) (key:ByteArray):eX.f k l key=some ((jq l key).1,((jq l key).2,())):=by
 unfold eX.f eX.t
 refine (fe (L:=fun n i (_:Unit)=>eX.l0 k n l key i ByteArray.empty ByteArray.empty 0) (R:=fun r _=>some ((jq r key).1,((jq r key).2,()))) (Ty.z aL) l (fun _ _=>True) (fun n s hs=>?_) (fun n i s x rest h0 h1 hx hr hp ih=>?_) (n:=k) (s:=()) (by omega) trivial)
 · simp (disch:=omega) only [eX.l0,eX.b0,aY,aJ]
   rfl
 · have ih:=ih () trivial
   simp (disch:=first | omega | decide) only [eX.l0,eX.b0,aV h1,aa,aN,hx,aE,ih]
   rw [show jq (x::rest) key=bif seq x.1 key then (x,0) else jq rest key from rfl]
   cases seq x.1 key <;> rfl
theorem Ek {k:Nat} (hk:2 ^ 50≤k) {m:Ty.d af} (h:MV m) {s:Ty.d aC} (h0:LE.le (α:=Int) 0 s.2.1) (h1:LT.lt (α:=Int) s.2.1 (m.2.2.2.1.length:Int)):ij.f k m s (kQ m s.2.1)=oM (pA m s):=by
 have ht:TV (kQ m s.2.1):=uZ h.txn (Int.toNat s.2.1)
 have hmap:=h.map
 have hko:dX.f k s.2.2.1=some (eT s.2.2.1,()):=o7 k s.2.2.1
 unfold ij.f ij.t pA
 rw [hko,aX]
 simp only []
 cases eT s.2.2.1 with
 | false=>rfl
 | true =>
  simp only [fN,aJ]
  rw [uP hk (by have:=ht.2;omega),aX]
  cases lL (kQ m s.2.1).2.2.1 s.2.2.1 with
  | some p =>
   show (bif p.2.1 then _ else _)=_
   cases hp:p.2.1 <;> simp only [hp] <;> rfl
  | none =>
   simp only [vm,aJ]
   unfold w7
   rw [Dx hk (by omega),aX]
   simp only []
   generalize jq m.2.1 s.2.2.1=p
   rw [CX hk ht,aX]
   simp only []
   cases (iM (kQ m s.2.1) s.2.2.1 p.1.2.2.1).2 != 0 with
   | true=>rfl
   | false =>
    simp only [aJ]
    rw [aN h0 h1]
    rfl
theorem G3 {k:Nat} (hk:2 ^ 50≤k) {m:Ty.d af} (h:m.2.1.length≤900) {t:Ty.d aK} (ht:TV t):gG.f k m t=oM (mh m t):=by
 have hn:=ru t.2.2.1
 have h2:=ht.2
 have hd:(pW m.2.1).length=m.2.1.length:=List.length_map ..
 unfold gG.f gG.t mh
 rw [xJ hk (by omega),aX]
 simp only []
 rw [Db hk (by have:=ht.1;omega) (by omega),aX]
 simp only []
 cases jY t.2.1 (pW m.2.1) with
 | false=>rfl
 | true =>
  simp only [fN,aJ]
  rw [tw hk (by omega),aX]
  simp only []
  cases ((gj t.2.2.1).length:Int)==0 with
  | true=>rfl
  | false =>
   simp only [aJ]
   rw [EA hk (by omega) (by omega),aX]
   simp only []
   cases decide (((m_ m.2.1 (gj t.2.2.1) m.2.2.1).length:Int) > 20) with
   | true=>rfl
   | false =>
    simp only [aJ]
    cases decide (m.2.2.1 > 1000000) <;> rfl
theorem GD {k:Nat} (hk:2 ^ 50≤k) {m:Ty.d af} (h:MV m) {s:Ty.d aC} (h0:LE.le (α:=Int) 0 s.2.1) (h1:LT.lt (α:=Int) s.2.1 (m.2.2.2.1.length:Int)) (a:List (Ty.d cE)) (x:List (Ty.d aK)) (y:Bool) (z:Int) (u:List ByteArray) (v:Int) (w:ByteArray) {n:Nat} :
 bT.b1 k (bT.l2 k (n+1)) s.1 s.2.1 s.2.2.1 s.2.2.2.1 s.2.2.2.2.1 a x y z u v w m.2.1 m.2.2.2.1 m.1 m.2.2.1=oM (q7 m s):=by
 have ht:TV (kQ m s.2.1):=uZ h.txn (Int.toNat s.2.1)
 have hg:=Ek hk h h0 h1
 have hc:=G3 hk (m:=lD m s.2.1 lp) h.map ht
 unfold bT.b1 q7
 rw [aN h0 h1,aN h0 h1,aN h0 h1]
 cases s.1==1 with
 | true=>rfl
 | false =>
  cases c6:s.1==6 with
  | true=>rfl
  | false =>
   cases c5:s.1==5 with
   | true =>
    simp only [aa,aJ]
    rw [aN h0 h1,show List.getD m.2.2.2.1 (Int.toNat s.2.1) (Ty.z aK)=kQ m s.2.1 from rfl]
    refine (congrArg (fun r=>Option.bind r _) hc).trans ?_
    rfl
   | false =>
    cases c2:s.1==2 with
    | true =>
     simp only [aa,aJ]
     refine (congrArg (fun r=>Option.bind r _) hg).trans ?_
     rfl
    | false =>
     simp only [aJ]
     show bT.b2 k s.1 s.2.1 s.2.2.1 s.2.2.2.1 s.2.2.2.2.1 a x y z u v w m.2.1 m.2.2.2.1 m.1 m.2.2.1 (kQ m s.2.1).1 (kQ m s.2.1).2.1 (kQ m s.2.1).2.2.1=_
     unfold bT.b2 qU
     rw [show ((s.2.2.1,((s.1==4),(s.2.2.2.1,()))):Ty.d aW)=lr s from rfl,show (((kQ m s.2.1).1,((kQ m s.2.1).2.1,((kQ m s.2.1).2.2.1,()))):Ty.d aK)=kQ m s.2.1 from rfl,Aq hk ht,aX,tV hk,aX]
     simp only []
     cases dN [lr s] with
     | false=>rfl
     | true =>
      simp only [fN,aJ]
      cases (fq (kQ m s.2.1) (lr s)).2 with
      | false=>rfl
      | true =>
       simp only [fN,aJ]
       rw [aN h0 h1]
       rfl
theorem Gf {k:Nat} (hk:2 ^ 50≤k) {m:Ty.d af} (h:MV m) (s:Ty.d aC) (L0:bT.T0) {i:Int} (hi:¬ LT.lt (α:=Int) i (m.2.2.2.1.length:Int)) (a:List (Ty.d cE)) (x:List (Ty.d aK)) (y:Bool) (z:Int) (u:List ByteArray) (v:Int) (w:ByteArray) :
 bT.b0 k (bT.l1 k k) L0 i m.1 m.2.1 m.2.2.1 m.2.2.2.1 s.1 s.2.1 s.2.2.1 s.2.2.2.1 s.2.2.2.2.1 a x y z u v w m.2.1 m.2.2.2.1 m.1 m.2.2.1=oM (iF m s):=by
 have hlen:=h.len
 have hmap:=h.map
 have hd:(pW m.2.1).length=m.2.1.length:=List.length_map ..
 obtain ⟨k',rfl⟩:∃ k',k=k'+1:=⟨k-1,by omega⟩
 have em:∀ b,m.1=b→((b,(m.2.1,(m.2.2.1,(m.2.2.2.1,())))):Ty.d af)=m:=fun b q=>by rw [← q]
 unfold bT.b0 iF
 rw [aY hi]
 simp only [aJ]
 cases s.1==10 with
 | true =>
  cases up:m.1 with
  | true =>
   simp only [aa,em _ up]
   rfl
  | false =>
   simp only [aa,aJ]
   rw [pV (by omega) (by omega) (by decide)]
   rfl
 | false =>
  cases s.1==11 with
  | true=>rfl
  | false =>
   simp only [aJ]
   cases up:m.1 with
   | false =>
    simp only [tR,aa,em _ up]
    rfl
   | true =>
    simp only [fN,aJ,em _ up]
    cases s.1==7 with
    | true=>rfl
    | false =>
     simp only [aJ]
     cases s.1==8 with
     | true =>
      simp only [aa]
      rw [xJ hk (by omega),aX]
      simp only []
      rw [DL hk (by omega),aX]
      have e:(pW m.2.1).map (·.1)=m.2.1.map (·.1):=by unfold pW;rw [List.map_map];rfl
      rw [e]
      rfl
     | false =>
      simp only [aJ]
      cases s.1==9 with
      | true =>
       simp only [aa]
       rw [pV (by omega) (by omega) (by decide)]
       rfl
      | false =>
       simp only [aJ]
       rw [ot,aX]
       simp only []
       rw [aE (n:=(m.2.2.2.1.length:Int)-1) (by omega) (by omega)]
       unfold tI
       by_cases q:0≤s.2.1∧s.2.1≤(m.2.2.2.1.length:Int)-1
       · have h0:LE.le (α:=Int) 0 s.2.1:=q.1
         have h1:LT.lt (α:=Int) s.2.1 (m.2.2.2.1.length:Int):=by have q2:LE.le (α:=Int) s.2.1 ((m.2.2.2.1.length:Int)-1):=q.2;omega
         have hs:=GD hk h h0 h1 a x y z u v w (n:=k')
         rw [aV q]
         simp only [fN,aJ,Bool.true_and]
         rw [ot,aX]
         simp only []
         cases decide ((1:Int)≤s.1∧s.1≤6) with
         | false =>
          simp only [tR,aa,Bool.false_and]
          rfl
         | true =>
          simp only [fN,aJ,Bool.true_and,Bool.not_not,bne]
          rw [aN h0 h1,aN h0 h1,show List.getD m.2.2.2.1 (Int.toNat s.2.1) (Ty.z aK)=kQ m s.2.1 from rfl]
          rw [up] at hs
          have hs1:bT.l1 (k'+1) (k'+1) s.1 s.2.1 s.2.2.1 s.2.2.2.1 s.2.2.2.2.1 a x y z u v w m.2.1 m.2.2.2.1 true m.2.2.1=oM (q7 m s):=hs
          cases c1:s.1==1 with
          | true =>
           simp only [aa,fN,aJ]
           cases (kQ m s.2.1).1 with
           | true =>
            simp only [aa]
            rfl
           | false=>exact hs1
          | false =>
           simp only [aJ,tR,aa]
           cases (kQ m s.2.1).1 with
           | false =>
            simp only [tR,aa]
            rfl
           | true=>exact hs1
       · rw [aY q]
         simp only [tR,aa,Bool.false_and]
         rfl
theorem HK {k:Nat} (hk:2 ^ 50≤k) {m:Ty.d af} (h:MV m) (s:Ty.d aC):bT.f k m s=oM (iF m s):=by
 have hlen:=h.len
 have hmap:=h.map
 unfold bT.f bT.t
 rw [bf (by omega) (by decide),List.nil_append]
 refine (fe (L:=fun n i t=>bT.l0 k n i m.1 m.2.1 m.2.2.1 m.2.2.2.1 s.1 s.2.1 s.2.2.1 s.2.2.2.1 s.2.2.2.2.1 [] [] false 0 [] 0 ByteArray.empty m.2.1 t m.1 m.2.2.1)
  (R:=fun _ _=>oM (iF m s)) (Ty.z aK) m.2.2.2.1 (fun i t=>t=m.2.2.2.1.take i.toNat) (fun n t hs=>?_) (fun n i t x rest g0 g1 hx hr hp ih=>?_) (n:=k) (s:=[]) (by omega) rfl)
 · have e:t=m.2.2.2.1:=by rw [hs];exact List.take_of_length_le (by omega)
   rw [e]
   exact Gf hk h s _ (by omega) ..
 · have hm:x ∈ m.2.2.2.1:=by rw [← hx];exact fX (by omega)
   have hl:t.length≤1000:=by rw [hp,List.length_take];omega
   simp only [bT.l0,bT.b0]
   rw [aV g1,aa,aN g0 g1,hx,yv k (h.txn x hm),aX,aE (n:=i+1) (by omega) (by omega),bf (by omega) (by decide)]
   refine ih (t++[x]) ?_
   rw [hp,show (i+1).toNat=i.toNat+1 by omega,nB (Ty.z aK) (by omega),hx]
noncomputable def oV (ids:List Int) (f:Ty.d cE):Bool:=!p7 ids f
section
variable {ids:List Int} {s:ByteArray} (hs:∀ g:Ty.d cE,g.1=s→oV ids g=false)
include hs
variable {Z:bo} {c:Int}
end
def dk (l:bo) (c:Int):Ty.d aA:=(l,(c,(-1,(false,()))))
theorem Iw {l:bo} {c:Int} (h:DR (dk l c)) (g:bo→Int→bo × Int):i_ (dk l c) g=(dk (g l c).1 c,(g l c).2):=by
 unfold i_
 have e:li (dk l c)=(dk l c,0):=by
  unfold li
  rw [jL.2 h]
  rfl
 rw [e]
 rfl
theorem J1 {ids:List Int} {x:Int} (hx:x ∈ ids) (h:1≤x∧x≤100000):∀ g:Ty.d cE,g.1=a_ aF x→oV ids g=true:=fun g hg=>by
 have hh:xj ids x=true:=by unfold xj;rw [List.any_eq_true];exact ⟨x,hx,beq_self_eq_true _⟩
 unfold oV p7
 rw [hg,vw (.inl rfl) h.1 h.2,kE (fun q=>iJ h q.symm)]
 show (!((true&&!xj ids x)||false))=true
 rw [hh]
 rfl
theorem BQ {x:Int} (hx:1≤x∧x≤100000):a_ bM x≠iH:=fun q=>by
 have e:a_ bM x=bM++jl x:=by unfold a_;rw [aV hx];rfl
 rw [e] at q
 have:=congrArg nb q
 rw [gX] at this
 cases this
theorem GP {ids:List Int} {x:Int} (hx:x ∈ ids) (h:1≤x∧x≤100000):∀ g:Ty.d cE,g.1=a_ bM x→oV ids g=true:=fun g hg=>by
 have hh:xj ids x=true:=by unfold xj;rw [List.any_eq_true];exact ⟨x,hx,beq_self_eq_true _⟩
 unfold oV p7
 rw [hg,vw (.inr rfl) h.1 h.2,kE (BQ h)]
 show (!((true&&!xj ids x)||false))=true
 rw [hh]
 rfl
theorem Gz (ids:List Int):∀ g:Ty.d cE,g.1=gP→oV ids g=true:=fun g hg=>by
 unfold oV p7
 rw [hg,Nh,kE (fun q=>by have:=congrArg nb q;cases this)]
 rfl
theorem EF {ids:List Int} (h:1≤ids.length):bj ids ∈ ids:=by unfold bj;exact fX (by omega)
def LB (pl:ah) (b:Int):Prop:=b=1∨∃ p ∈ pl,@Eq Int p.2.2.2.1.2.1 (b-1)
theorem DX {pl:ah} {d0 d:aS} {l0 la:Int} (h:gr [] pl (d0,l0,0)=(d,la,0)) (hm:bz pl=[]):iK (d0,(l0,(0,()))) pl=(d,(la,(0,()))):=by
 have e:iK (d0,(l0,(0,()))) pl=(bif (gr [] pl (d0,l0,0)).2.2==0&&decide ((bz pl).length > 0) then ((gr [] pl (d0,l0,0)).1,((gr [] pl (d0,l0,0)).2.1,(1,()))) else ((gr [] pl (d0,l0,0)).1,((gr [] pl (d0,l0,0)).2.1,((gr [] pl (d0,l0,0)).2.2,())))):=qw pl pl 0 d0 l0 0 rfl (Nat.zero_le _)
 rw [e,h,hm]
 rfl
theorem LU {y:Ty.d aA} (hy:DR y) {L:rS} (hL:1≤L.length) (ht:∀ x ∈ L,fT y (a_ aF x.1)=some (aU x.2)∧∀ r ∈ x.2,bd r=true) {dir:aS} {b:Int} (j:JT (jE L) dir b) (hb:LB (jE L) b) :
 (lj y (L.map (·.1))).1=dir∧(lj y (L.map (·.1))).2.2.1=0∧aQ ((lj y (L.map (·.1))).2.1+1)=b:=by
 obtain ⟨la,hg⟩:=j.gr
 have key:(lj y (L.map (·.1))).2.2.1=0∧LE.le (α:=Int) (lj y (L.map (·.1))).2.1 (b-1)∧LE.le (α:=Int) 0 (lj y (L.map (·.1))).2.1:=by
  obtain ⟨x0,L',rfl⟩:∃ x L',L=x::L':=by
   cases L with
   | nil=>cases hL
   | cons x L'=>exact ⟨x,L',rfl⟩
  have epl:jE (x0::L')=tK x0++jE L':=rfl
  have e1:kx y ((x0::L').map (·.1))=jE (x0::L'):=qN hy ht
  have e2:kx y (L'.map (·.1))=jE L':=qN hy fun x hx=>ht x (kR _ hx)
  have lo:=j.lo
  have bat:∀ p ∈ jE (x0::L'),LE.le (α:=Int) p.2.2.2.1.2.1 (b-1):=fun p hp=>by
   have:=j.bat p hp
   exact Int.le_sub_one_of_lt this
  have b0:LE.le (α:=Int) 0 (b-1):=by omega
  unfold lj
  cases c:nj y (((x0::L').map (·.1)).getD 0 0) with
  | false =>
   simp only [aJ]
   rw [e1,Gs hg j.mark]
   obtain ⟨l1,_,l3⟩:=vG (jE (x0::L')) [] ([],0,0) (by rw [hg])
   have l3:=l3 (b-1) b0 bat
   rw [hg] at l1 l3
   exact ⟨rfl,l3,l1⟩
  | true =>
   simp only [aa]
   have ed:((x0::L').map (·.1)).drop 1=L'.map (·.1):=rfl
   have ex:((x0::L').map (·.1)).getD 0 0=x0.1:=rfl
   rw [ed,ex,e2]
   rw [ex] at c
   obtain ⟨t1,t2⟩:=ht x0 ii
   unfold nj at c
   simp only [iA] at c
   obtain ⟨_,_,c⟩:=c
   have es:gO y x0.1=aU x0.2:=by
    unfold gO
    rw [iV hy,t1]
    rfl
   rw [es] at c
   unfold oJ at c
   simp only [iA,beq_iff_eq] at c
   obtain ⟨f1,_,f3,f4⟩:=c
   obtain ⟨⟨la0,k1⟩,k2,k3,k4⟩:=IR (id:=x0.1) t2 f1
   rw [f3] at k4
   rw [tG.1 f4] at k1
   have k1:gr [] (tK x0) ([],0,0)=((dt y x0.1).2.2.1,la0,0):=k1
   have k2:∀ b,fO b (tK x0)=[]:=k2
   have k3:bz (tK x0)=[]:=k3
   have q1:gr [] (jE L') ((dt y x0.1).2.2.1,la0,0)=(dir,la,0):=by
    have:=hg
    rw [epl,sS,k1,List.nil_append] at this
    have q:=Gg k2 k3 (jE L') [] ((dt y x0.1).2.2.1,la0,0)
    rw [List.append_nil] at q
    rw [← q]
    exact this
   obtain ⟨v1,v2⟩:=EU (jE L') [] (dt y x0.1).2.2.1 (dt y x0.1).2.1 la0 0
   rw [q1] at v1 v2
   have q2:gr [] (jE L') ((dt y x0.1).2.2.1,(dt y x0.1).2.1,0)=(dir,(gr [] (jE L') ((dt y x0.1).2.2.1,(dt y x0.1).2.1,0)).2.1,0):=Prod.ext v1 (Prod.ext rfl v2)
   have hm:bz (jE L')=[]:=by
    have:=j.mark
    rw [epl,mH,k3] at this
    exact this
   rw [DX q2 hm]
   refine ⟨rfl,?_⟩
   have hmark:∃ p ∈ tK x0,@Eq Int p.2.2.2.1.2.1 (dt y x0.1).2.1:=by
    rw [← f3]
    have hb:(g6 x0.1 (aU x0.2)).2=true:=f1
    have hsp:tK x0=bY x0.1 (bx (aU x0.2)).1:=by
     unfold tK
     rw [tq t2]
    rw [hsp]
    unfold g6 at hb ⊢
    cases w1:(bx (aU x0.2)).2 != ((aU x0.2).size:Int) with
    | true=>rw [w1] at hb;cases hb
    | false =>
     rw [w1] at hb
     simp only [aJ] at hb ⊢
     generalize (bx (aU x0.2)).1=l at hb ⊢
     cases w2:l.length==0 with
     | true=>rw [w2] at hb;cases hb
     | false =>
      rw [w2] at hb
      simp only [aJ] at hb ⊢
      have hne:l.length≠0:=by simpa using w2
      have hm:l.getD (l.length-1) (Ty.z cz) ∈ l:=by
       show (l[l.length-1]?).getD _ ∈ l
       rw [List.getElem?_eq_getElem (by omega)]
       exact List.getElem_mem _
      generalize l.getD (l.length-1) (Ty.z cz)=mk at hb hm ⊢
      refine ⟨(x0.1,mk),List.mem_map.2 ⟨mk,hm,rfl⟩,?_⟩
      revert hb
      cases mk.2.2.1.1 != 5 <;> cases !decide ((1:Int)≤x0.1∧x0.1≤100000) <;> cases pR (nq mk.2.2.1.2.1) none (l.take (l.length-1)) <;> cases jd mk.2.2.1 (bY x0.1 (l.take (l.length-1))) <;> intro hb <;> first | rfl | cases hb
   obtain ⟨pm,m1,m2⟩:=hmark
   have mb:LE.le (α:=Int) (dt y x0.1).2.1 (b-1):=by
    have:=bat pm (by rw [epl];exact List.mem_append_left _ m1)
    rw [m2] at this
    exact this
   obtain ⟨l1,_,l3⟩:=vG (jE L') [] ((dt y x0.1).2.2.1,(dt y x0.1).2.1,0) (by rw [q2])
   refine ⟨l3 (b-1) mb fun p hp=>bat p (by rw [epl];exact List.mem_append_right _ hp),Int.le_trans ?_ l1⟩
   obtain ⟨x,hx,s,hs,e⟩:=wb (L:=x0::L') (p:=pm) (by rw [epl];exact List.mem_append_left _ m1)
   obtain ⟨_,i2,_⟩:=qn x.2 ⟨#[]⟩ ⟨#[]⟩ (ht x hx).2 s hs
   have mr:bd pm.2.2.2.1=true:=by rw [e];exact i2
   have:=(tH mr).1
   rw [m2] at this
   exact this
 obtain ⟨z,up,dn⟩:=key
 have j2:=Mv hy hL ht z
 obtain ⟨la2,hg2⟩:=j2.gr
 rw [hg] at hg2
 refine ⟨(congrArg (·.1) hg2).symm,z,?_⟩
 have lo:=j.lo
 have hi:=j.hi
 have e:aQ ((lj y (L.map (·.1))).2.1+1)=(lj y (L.map (·.1))).2.1+1:=aE (by omega) (by omega)
 rw [e] at j2 ⊢
 have lo2:=j2.lo
 rcases hb with q | ⟨p,hp,q⟩
 · omega
 · have:=j2.bat p hp
   rw [q] at this
   omega
structure OP (st:Ty.d aD) (d:Ty.d aA):Prop where
 mi:∃ L,TX st d L∧JT (jE L) st.2.1 st.2.2.1∧LB (jE L) st.2.2.1
 live:fT d gP=some (c_ st.1)
 only:∀ f ∈ d.1,f.1=gP∨(∃ x ∈ st.1.2.1,f.1=a_ aF x)∨f.1=a_ bM (st.1.2.1.getD 0 0)
 rest:d.2=(100000,(-1,(false,())))
theorem OP.MI {st:Ty.d aD} {d:Ty.d aA} (h:OP st d):MI st d:=by
 obtain ⟨L,t,j,_⟩:=h.mi
 exact ⟨L,t,j⟩
theorem vF {d:Ty.d aA}:∀ l:List Int,(∀ x ∈ l,(bG d (a_ aF x)).2=true∧(bx (gO d x)).2=((gO d x).size:Int))→lm d l=true
 | [],_=>rfl
 | x::l,h=>by
  obtain ⟨h1,h2⟩:=h x ii
  show (vv d x l.isEmpty&&lm d l)=true
  rw [vF l fun y hy=>h y (kR _ hy)]
  unfold vv
  rw [h1,aY (by omega)]
  cases l.isEmpty <;> rfl
theorem KE {ids:List Int} {d:Ty.d aA} (h:∀ f ∈ d.1,oV ids f=true):vP d ids=[]:=by
 unfold vP
 cases j6 d with
 | false=>rfl
 | true =>
  rw [aa,BE,List.nil_append,List.map_eq_nil_iff,List.filter_eq_nil_iff]
  intro f hf c
  have:=h f hf
  unfold oV at this
  rw [c] at this
  cases this
theorem LN {ids:List Int} {d:Ty.d aA} (h:∀ f ∈ d.1,oV ids f=true):lk ids d=(d,0):=by
 unfold lk
 rw [KE h]
 rfl
theorem P7 {st:Ty.d aD} {d:Ty.d aA} (h:OP st d) :
 ∃ hi,m8 d=((st.1,(st.2.1,(st.2.2.1,(st.2.2.2.1,(hi,()))))),((dS d (bR st)).1,0))∧OP (st.1,(st.2.1,(st.2.2.1,(st.2.2.2.1,(hi,()))))) (dS d (bR st)).1∧∀ s,fT (dS d (bR st)).1 s=fT d s:=by
 obtain ⟨L,t,j,lb⟩:=h.mi
 have hd:DR d:=t.disk
 have hl:dl st.1=true:=t.live
 obtain ⟨n1,n2,n3,n4⟩:=gH (n:=st.1.1) (ids:=st.1.2.1) hl
 obtain ⟨_,_,g1,_,_⟩:=bm (nx:=st.1.1) (ids:=st.1.2.1) hl
 have hin:∀ i ∈ st.1.2.1,1≤i∧i≤100000:=fun i hi=>⟨(n3 i hi).1,O4 (n3 i hi).2 n2⟩
 have hlast:=EF g1
 have hfull:∀ x ∈ st.1.2.1,(bG d (a_ aF x)).2=true∧(bx (gO d x)).2=((gO d x).size:Int):=fun x hx=>by
  obtain ⟨s,h1,h2⟩:=t.bt.full x hx
  refine ⟨by rw [ww hd,h1];rfl,?_⟩
  unfold gO
  rw [iV hd,h1]
  exact Ba h2
 have hone:d=dk d.1 100000:=Prod.ext rfl h.rest
 have hact:∃ a,fT d (bR st)=some a∧FL a:=t.bt.full _ hlast
 obtain ⟨a,ha,_⟩:=hact
 have hsome:∃ f,bS d.1 (bR st)=some f:=by
  unfold fT at ha
  cases q:bS d.1 (bR st) with
  | none=>rw [q] at ha;cases ha
  | some f=>exact ⟨f,rfl⟩
 obtain ⟨f,hf⟩:=hsome
 have hsyn:dS d (bR st)=(dk (ky (fun f=>(f.1,(f.2.1,((f.2.1.size:Int),f.2.2.2)))) d.1 (bR st)) 100000,0):=by
  have e:=Iw (l:=d.1) (c:=100000) (hone▸hd) (va (bR st))
  rw [← hone] at e
  refine Eq.trans e ?_
  unfold va
  rw [hf]
  rfl
 have hy:=md hd (bR st)
 have kt:∀ s,fT (dS d (bR st)).1 s=fT d s:=fun s=>kp
 have hsz:(bx (gO d (bj st.1.2.1))).2=st.2.2.2.1:=by
  rw [(hfull _ hlast).2]
  have:=t.tail a ha
  rw [this]
  unfold gO
  rw [iV hd,show a_ aF (bj st.1.2.1)=bR st from rfl,ha]
  rfl
 have hfix:mK (bj st.1.2.1) d=dS d (bR st):=by
  unfold mK
  rw [aY (by have:=(hfull _ hlast).2;omega)]
  rfl
 have ht2:∀ x ∈ L,fT (dS d (bR st)).1 (a_ aF x.1)=some (aU x.2)∧∀ r ∈ x.2,bd r=true:=fun x hx=>by
  rw [kt]
  exact t.text x hx
 have hL:1≤L.length:=by
  have:=congrArg List.length t.ids
  rw [List.length_map] at this
  omega
 obtain ⟨gd,gc,gb⟩:=LU hy hL ht2 j lb
 rw [← t.ids] at gd gc gb
 have hnames:∀ g ∈ (dS d (bR st)).1.1,∃ g' ∈ d.1,g.1=g'.1:=fun g hg=>by
  have e:(dS d (bR st)).1.1=ky (fun f=>(f.1,(f.2.1,((f.2.1.size:Int),f.2.2.2)))) d.1 (bR st):=by rw [hsyn];rfl
  rw [e] at hg
  rcases uz hg with w | ⟨g',h1,h2⟩
  · exact ⟨g,w,rfl⟩
  · exact ⟨g',(mT h1).1,by rw [h2]⟩
 have honly:∀ g ∈ (dS d (bR st)).1.1,g.1=gP∨(∃ x ∈ st.1.2.1,g.1=a_ aF x)∨g.1=a_ bM (st.1.2.1.getD 0 0):=fun g hg=>by
  obtain ⟨g',h1,h2⟩:=hnames g hg
  rw [h2]
  exact h.only g' h1
 have hkeep:∀ g ∈ (dS d (bR st)).1.1,oV st.1.2.1 g=true:=fun g hg=>by
  rcases honly g hg with w | ⟨x,hx,w⟩ | w
  · exact Gz _ g w
  · exact J1 hx (hin x hx) g w
  · exact GP (fX (by omega)) (hin _ (fX (by omega))) g w
 have htext:bG d gP=(c_ st.1,true):=by
  have e1:=iV hd gP
  have e2:=ww hd gP
  rw [h.live] at e1 e2
  exact Prod.ext e1 e2
 refine ⟨bif nj (dS d (bR st)).1 (st.1.2.1.getD 0 0) then st.1.2.1.getD 0 0 else 0,?_,?_,kt⟩
 · unfold m8
   rw [jL.2 hd,htext]
   have e3:d.2.2.2.1=false:=by rw [h.rest]
   rw [e3]
   simp only [fN,aJ]
   rw [B4 hl]
   simp only [fN,aJ]
   unfold D7
   rw [vF st.1.2.1 hfull,hfix,hsz]
   have e4:(dS d (bR st)).2=0:=by rw [hsyn]
   rw [e4]
   simp only [fN,aJ,bne_self_eq_false]
   unfold Kf
   rw [gc,LN hkeep]
   simp only [bne_self_eq_false,aJ]
   unfold E7
   rw [gd,gb]
 · exact ⟨⟨L,⟨t.live,hy,t.ids,ht2,fun s q=>t.tail s ((kt _).symm.trans q)⟩,j,lb⟩,(kt _).trans h.live,honly,by rw [hsyn];rfl⟩
theorem OH (nm:ByteArray):∀ (rs:jM) (d:Ty.d aA) (F U:Nat),RM d F U→(fT d nm).isSome=true→U+210*rs.length≤100000→RM (Ak nm rs (d,0)).1 F (U+210*rs.length)∧(Ak nm rs (d,0)).2=0∧(fT (Ak nm rs (d,0)).1 nm).isSome=true
 | [],d,F,U,h,hx,_=>⟨h.mono (Nat.le_refl _) (by simp),rfl,hx⟩
 | x::rs,d,F,U,h,hx,hU=>by
  rw [jj] at hU
  obtain ⟨a1,a2⟩:=Hc h hx (vU x) (by omega)
  have a3:=qk (d:=d) (s:=nm) (x:=aT (aI x))
  rw [a2] at a3
  have a4:(fT (jA d nm (aT (aI x))).1 nm).isSome=true:=by
   rw [a3]
   cases q:fT d nm with
   | none=>rw [q] at hx;cases hx
   | some t=>rfl
  have e:Ak nm (x::rs) (d,0)=Ak nm rs ((jA d nm (aT (aI x))).1,0):=by
   show Ak nm rs (eW (d,0) fun y=>jA y nm (aT (aI x)))=_
   congr 1
   exact Prod.ext rfl a2
  obtain ⟨b1,b2,b3⟩:=OH nm rs _ F (U+210) a1 a4 (by omega)
  rw [e]
  exact ⟨b1.mono (Nat.le_refl _) (by rw [jj];omega),b2,b3⟩
theorem FX {F U:Nat}:∀ (l:List ByteArray) (d:Ty.d aA),RM d F U→RM (bi l d).1 F U∧(bi l d).2=0
 | [],d,h=>⟨h,rfl⟩
 | s::l,d,h=>by
  obtain ⟨a1,a2,_⟩:=Io h s
  show RM (eW (gF s d) (bi l)).1 F U∧(eW (gF s d) (bi l)).2=0
  rw [oF a2]
  exact FX l _ a1
theorem Ly {F U:Nat}:∀ (l:List Int) (d:Ty.d aA),RM d F U→RM (mR l d).1 F U∧(mR l d).2=0
 | [],d,h=>⟨h,rfl⟩
 | x::l,d,h=>by
  obtain ⟨a1,a2⟩:=FX [a_ aF x,a_ bM x] d h
  show RM (eW (bi [a_ aF x,a_ bM x] d) (mR l)).1 F U∧(eW (bi [a_ aF x,a_ bM x] d) (mR l)).2=0
  rw [oF a2]
  exact Ly l _ a1
theorem Jd {n:Int} (h:1≤n∧n≤100000):j9 (a_ bM n)=true:=by
 have hz:=mw (n:=n) (by omega) (by omega)
 have h3:bM.size=4:=rfl
 have e:a_ bM n=bM++jl n:=by unfold a_;rw [aV h];rfl
 rw [e]
 have hs:(bM++jl n).size=4+(jl n).size:=by rw [ByteArray.size_append,h3]
 have hl:(jl n).size≤6:=by
  rw [← dW,pF,if_neg (by omega),List.length_map]
  have:=kh 5 n.toNat (by omega)
  omega
 unfold j9
 rw [aV (show 1≤(bM++jl n).size∧(bM++jl n).size≤12 from ⟨by omega,by omega⟩),Bool.and_true,gX,pF,if_neg (by omega)]
 show lV (104::105::110::116::(Lib.decDigits n.toNat).map UInt8.toNat)=true
 simp only [lV]
 rw [wW _ fun b hb=>?_]
 · decide
 · obtain ⟨x,hx,rfl⟩:=List.mem_map.1 hb
   exact kX _ x hx
theorem Ft {st:Ty.d aD} {d:Ty.d aA} {F U:Nat} (h:RM d F U) (hs:dj st d=true) (hd:(bX st.2.1 d).2=0) (h20:(bX st.2.1 d).1.length≤20) (hF:F+5<130) (hU:U+6000≤100000) (hn:LE.le (α:=Int) (st.1.1+2) 100000) :
 (br st d).2.2=0∧RM (br st d).2.1 (F+5) (U+6000):=by
 obtain ⟨g1,_,_⟩:=dM hs
 obtain ⟨n1,n2,n3,_⟩:=gH (n:=st.1.1) (ids:=st.1.2.1) g1.live
 have e:br st d=cP (s_ st.1.1) st d (bX st.2.1 d).1:=by
  unfold br
  rw [hs,aY (show ¬ st.1.1+2 > (100000:Int) from Int.not_lt.2 hn),hd]
  rfl
 rw [e]
 generalize (bX st.2.1 d).1=l at h20
 have key:∀ n:Int,1≤n→n+2≤100000→(1≤n∧n≤100000)∧(1≤n+1∧n+1≤100000):=by omega
 obtain ⟨m1,m2⟩:=key st.1.1 n1 hn
 have hk:(fI l (st.2.2.1-1)).length≤21:=by
  unfold fI
  rw [py,List.length_map,List.length_singleton]
  omega
 obtain ⟨a1,a2⟩:=vB h (by omega) (vp m1)
 have a3:=lT a2
 have ea:aw (a_ aF st.1.1) d=((aw (a_ aF st.1.1) d).1,0):=Prod.ext rfl a2
 obtain ⟨b1,b2,b3⟩:=OH (a_ aF st.1.1) (fI l (st.2.2.1-1)) _ _ _ a1 (by rw [a3];rfl) (by omega)
 rw [← ea] at b1 b2 b3
 obtain ⟨c1,c2⟩:=wa b1 b3
 have w1:dH st.1.1 l (st.2.2.1-1) d=dS (Ak (a_ aF st.1.1) (fI l (st.2.2.1-1)) (aw (a_ aF st.1.1) d)).1 (a_ aF st.1.1):=by
  unfold dH
  rw [oF b2]
 rw [← w1] at c1 c2
 obtain ⟨f1,f2⟩:=vB c1 (by omega) (vp m2)
 obtain ⟨i1,i2,_⟩:=IY f1 (by omega) (Jd m1) (po _) (t:=s_ st.1.1 (bG (aw (a_ aF (st.1.1+1)) (dH st.1.1 l (st.2.2.1-1) d).1).1 (a_ aF st.1.1)).1) (by omega)
 have w2:gq (s_ st.1.1) st.1.1 (aw (a_ aF (st.1.1+1)) (dH st.1.1 l (st.2.2.1-1) d).1).1=kv (a_ bM st.1.1) (s_ st.1.1 (bG (aw (a_ aF (st.1.1+1)) (dH st.1.1 l (st.2.2.1-1) d).1).1 (a_ aF st.1.1)).1) (aw (a_ aF (st.1.1+1)) (dH st.1.1 l (st.2.2.1-1) d).1).1:=by
  unfold gq
  rw [i2]
  rfl
 rw [← w2] at i1 i2
 obtain ⟨p1,p2⟩:=uO i1 (by omega) (by omega) (fc st.1.1)
 obtain ⟨o1,o2⟩:=Ly st.1.2.1 _ p1
 unfold cP
 rw [c2,f2,i2,p2]
 simp only [bne_self_eq_false,aJ]
 refine ⟨?_,?_⟩
 · show gQ (mR st.1.2.1 (bB (fc st.1.1) (gq (s_ st.1.1) st.1.1 (aw (a_ aF (st.1.1+1)) (dH st.1.1 l (st.2.2.1-1) d).1).1).1).1).2=0
   rw [o2]
   rfl
 · exact RM.mono o1 (by omega) (by omega)
structure WK (st:Ty.d aD) (d:Ty.d aA):Prop where
 on:∀ s,(fT d s).isSome=true→s=gP∨(∃ x ∈ st.1.2.1,s=a_ aF x)∨s=a_ bM (st.1.2.1.getD 0 0)
 live:fT d gP=some (c_ st.1)
theorem qv {v:Ty.d ch} {d:Ty.d aA} (hd:DR d) (z:(bB v d).2=0):fT (bB v d).1 iH=none:=by
 have hx:=jh iH (c_ v) d hd
 unfold bB at z ⊢
 obtain ⟨z1,e,z2⟩:=kf z
 rw [e]
 exact Nc hx (by decide) z2
theorem KV {st:Ty.d aD} {d:Ty.d aA} (z:(gu st d).2.2=0) :
 (bB (kZ st) (aw (a_ aF st.1.1) (dS d (bR st)).1).1).2=0∧gu st d=(uC st,((bB (kZ st) (aw (a_ aF st.1.1) (dS d (bR st)).1).1).1,0)):=by
 unfold gu at z ⊢
 by_cases c1:(st.1.2.1.length:Int)≥60
 · rw [aV c1] at z
   exact absurd z (by show (5:Int)≠0;decide)
 by_cases c2:st.1.1≥(100000:Int)
 · rw [aY c1,aV c2] at z
   exact absurd z (by show (5:Int)≠0;decide)
 rw [aY c1,aY c2] at z ⊢
 simp only [aJ] at z ⊢
 generalize dS d (bR st)=r1 at z ⊢
 generalize aw (a_ aF st.1.1) r1.1=r2 at z ⊢
 generalize bB (kZ st) r2.1=r3 at z ⊢
 have tlz:∀ r:RD,(r.2 != 0)=true→(tl r).2≠0:=fun r q e=>by
  have:=lf r
  rw [e,q] at this
  cases this
 cases e1:r1.2 != 0 with
 | true=>rw [e1] at z;exact absurd z (tlz r1 e1)
 | false =>
  rw [e1] at z
  simp only [aJ] at z ⊢
  cases e2:r2.2 != 0 with
  | true=>rw [e2] at z;exact absurd z (tlz r2 e2)
  | false =>
   rw [e2] at z
   simp only [aJ] at z ⊢
   cases e3:r3.2 != 0 with
   | true =>
    rw [e3] at z
    simp only [aa] at z
    refine absurd z ?_
    unfold qY
    cases q:(tl r3).2==2 with
    | false=>exact tlz r3 e3
    | true =>
     show (bif (bi [iH,a_ aF st.1.1] (tl r3).1).2==0 then (2:Int) else gQ (bi [iH,a_ aF st.1.1] (tl r3).1).2)≠0
     cases q2:(bi [iH,a_ aF st.1.1] (tl r3).1).2==0 with
     | true=>show (2:Int)≠0;decide
     | false =>
      have:=hZ (bi [iH,a_ aF st.1.1] (tl r3).1).2
      rw [q2] at this
      exact beq_eq_false_iff_ne.1 this
   | false=>exact ⟨f8 e3,rfl⟩
theorem JD {ids:List Int} (h:1≤ids.length) (l:List Int):(ids++l).getD 0 0=ids.getD 0 0:=by
 cases ids with
 | nil=>cases h
 | cons _ _=>rfl
theorem PH {st:Ty.d aD} {d:Ty.d aA} (hl:dl st.1=true) (hd:DR d) (w:WK st d) (z:(gu st d).2.2=0):WK (gu st d).1 (gu st d).2.1:=by
 obtain ⟨_,_,g1,_,_⟩:=bm (nx:=st.1.1) (ids:=st.1.2.1) hl
 obtain ⟨z3,e⟩:=KV z
 have h1:=md hd (bR st)
 have h2:=j3 (a_ aF st.1.1) _ h1
 rw [e]
 refine ⟨fun s hs=>?_,qj h2 z3⟩
 have hs:(fT (bB (kZ st) (aw (a_ aF st.1.1) (dS d (bR st)).1).1).1 s).isSome=true:=hs
 by_cases q1:s=gP
 · exact .inl q1
 by_cases q2:s=iH
 · rw [q2,qv h2 z3] at hs
   cases hs
 rw [fb (fun q=>q2 q.symm) (fun q=>q1 q.symm)] at hs
 show s=gP∨(∃ x ∈ st.1.2.1++[st.1.1],s=a_ aF x)∨s=a_ bM ((st.1.2.1++[st.1.1]).getD 0 0)
 by_cases q3:s=a_ aF st.1.1
 · exact .inr (.inl ⟨st.1.1,List.mem_append_right _ (List.mem_singleton.2 rfl),q3⟩)
 rw [lI (fun q=>q3 q.symm),kp] at hs
 rw [JD g1]
 rcases w.on s hs with v | ⟨x,hx,v⟩ | v
 · exact .inl v
 · exact .inr (.inl ⟨x,List.mem_append_left _ hx,v⟩)
 · exact .inr (.inr v)
theorem LF {st:Ty.d aD} {d:Ty.d aA} (hl:dl st.1=true) (w:WK st d) (r:Ty.d ba):WK (iT st d r).1.1 (iT st d r).1.2.1∧(iT st d r).1.1.1=st.1:=by
 obtain ⟨n1,n2,n3,_⟩:=gH (n:=st.1.1) (ids:=st.1.2.1) hl
 obtain ⟨_,_,g1,_,_⟩:=bm (nx:=st.1.1) (ids:=st.1.2.1) hl
 have hlast:=EF g1
 have hv:gP≠bR st:=jG ⟨(n3 _ hlast).1,O4 (n3 _ hlast).2 n2⟩
 have key:WK st (jA d (bR st) (aT (aI r))).1:=by
  refine ⟨fun s hs=>?_,(uA fun q=>hv q.symm).trans w.live⟩
  by_cases q:s=bR st
  · exact .inr (.inl ⟨_,hlast,q⟩)
  · rw [uA fun v=>q v.symm] at hs
    exact w.on s hs
 unfold iT
 cases (jA d (bR st) (aT (aI r))).2 != 0 <;> exact ⟨⟨key.on,key.live⟩,rfl⟩
theorem PP {st:Ty.d aD} {d:Ty.d aA} (hb:BT st d) (w:WK st d) (r:Ty.d ba) (z:(eI st d r).1.2.2=0):WK (eI st d r).1.1 (eI st d r).1.2.1:=by
 unfold eI at z ⊢
 cases c:decide (st.2.2.2.1 > 0)&&decide (st.2.2.2.1+ar r > 200) with
 | false=>exact (LF hb.live w r).1
 | true =>
  rw [c] at z
  simp only [aa] at z ⊢
  cases c2:(gu st d).2.2 != 0 with
  | true =>
   rw [c2] at z
   have:(gu st d).2.2=0:=z
   rw [this] at c2
   cases c2
  | false =>
   have z2:=f8 c2
   exact (LF (GG hb z2).live (PH hb.live hb.disk w z2) r).1
theorem IA:∀ (l:jM) (st:Ty.d aD) (d:Ty.d aA) (ps:ah),BT st d→(∀ r ∈ l,bd r=true)→WK st d→(d5 l st d ps).1.2.2=0→WK (d5 l st d ps).1.1 (d5 l st d ps).1.2.1
 | [],_,_,_,_,_,w,_=>w
 | r::l,st,d,ps,hb,hr,w,z=>by
  unfold d5 at z ⊢
  cases c:(eI st d r).1.2.2 != 0 with
  | true =>
   rw [c] at z
   have:(eI st d r).1.2.2=0:=z
   rw [this] at c
   cases c
  | false =>
   rw [c] at z
   have z2:=f8 c
   obtain ⟨b1,_,_⟩:=Ga hb (hr r ii) z2
   exact IA l _ _ _ b1 (fun x hx=>hr x (kR _ hx)) (PP hb w r z2) z
theorem Kh {st:Ty.d aD} {d:Ty.d aA} {l:fC} (hs:dj st d=true) (hp:dN l=true) (hb:LE.le (α:=Int) st.2.2.1 1000000) (w:WK st d) (z:(cN st d l).2.2=0):WK (cN st d l).1 (cN st d l).2.1:=by
 obtain ⟨g1,g2,g3⟩:=dM hs
 have hBT:=s7 hs
 unfold cN at z ⊢
 have key:=IA (dT l st.2.2.1) (kz st) d [] ⟨hBT.live,hBT.disk,hBT.full,hBT.tail⟩ (oC hp g3 hb) ⟨w.on,w.live⟩
 generalize d5 (dT l st.2.2.1) (kz st) d []=q at z key ⊢
 unfold xx at z ⊢
 cases c:q.1.2.2 != 0 with
 | true =>
  rw [c] at z
  have:q.1.2.2=0:=z
  rw [this] at c
  cases c
 | false =>
  rw [c] at z
  simp only [aJ] at z ⊢
  have k:=key (f8 c)
  cases c2:(dS q.1.2.1 (bR q.1.1)).2 != 0 with
  | true =>
   rw [c2] at z
   exfalso
   have:=lf (dS q.1.2.1 (bR q.1.1))
   rw [show (tl (dS q.1.2.1 (bR q.1.1))).2=0 from z,c2] at this
   cases this
  | false=>exact ⟨fun s hs=>k.on s (by rw [← kp (d:=q.1.2.1) (s:=bR q.1.1)];exact hs),kp.trans k.live⟩
theorem Ab {st:Ty.d aD} {d:Ty.d aA} {L:rS} (h:TX st d L):kx d st.1.2.1=jE L:=by
 rw [h.ids]
 exact qN h.disk h.text
theorem OP.WK {st:Ty.d aD} {d:Ty.d aA} (h:OP st d):WK st d:=⟨fun s hs=>by
 unfold fT at hs
 cases q:bS d.1 s with
 | none=>rw [q] at hs;cases hs
 | some f =>
  obtain ⟨m1,m2⟩:=mT q
  rw [← m2]
  exact h.only f m1,h.live⟩
theorem OP.of {st:Ty.d aD} {d:Ty.d aA} (hm:∃ L,TX st d L∧JT (jE L) st.2.1 st.2.2.1∧LB (jE L) st.2.2.1) (w:G.WK st d) (hr:d.2=(100000,(-1,(false,())))):OP st d :=
 ⟨hm,w.live,fun f hf=>w.on f.1 (by
  unfold fT
  cases q:bS d.1 f.1 with
  | none=>exact absurd q (FE hf)
  | some g=>rfl),hr⟩
theorem OP.disk {st:Ty.d aD} {d:Ty.d aA} (h:OP st d):DR d:=by
 obtain ⟨L,t,_⟩:=h.mi
 exact t.disk
theorem OP.rm {st:Ty.d aD} {d:Ty.d aA} (h:OP st d):RM d d.1.length (di d.1) :=
 ⟨h.disk,by rw [h.rest],by rw [h.rest],by rw [h.rest],Nat.le_refl _,Nat.le_refl _⟩
theorem E9 {d:Ty.d aA} {F U:Nat} (h:RM d F U):d.2=(100000,(-1,(false,()))):=Prod.ext h.cap (Prod.ext h.fuel (Prod.ext h.up rfl))
theorem M6 {st:Ty.d aD} {d:Ty.d aA} {l:fC} (h:OP st d) (hp:dN l=true) (hb:LE.le (α:=Int) st.2.2.1 1000000) (ha:nn st.2.1 l≤20) (hF:d.1.length+20<130) (hU:di d.1+4000≤100000) (hi:st.1.2.1.length≤50) (hn:LE.le (α:=Int) st.1.1 99000) :
 (cN st d l).2.2=0∧OP (cN st d l).1 (cN st d l).2.1∧(cN st d l).1.2.2.1=st.2.2.1+1:=by
 obtain ⟨L,t,j,lb⟩:=h.mi
 have hmi:MI st d:=⟨L,t,j⟩
 obtain ⟨hs,hei⟩:=hmi.store
 obtain ⟨g1,g2,g3⟩:=dM hs
 obtain ⟨a1,a2,_,_⟩:=Me h.rm hs hp hb hF hU hi hn
 have hw:=Kh hs hp hb h.WK a2
 have hm2:=Lq hmi hp hb ha (show dn (cN st d l).2.1=false from a1.up)
 obtain ⟨L2,t2,j2⟩:=hm2
 have t0:TX (kz st) d L:=⟨t.live,t.disk,t.ids,t.text,t.tail⟩
 obtain ⟨L',q,t',e1,e2,e3,_⟩:=DU (dT l st.2.2.1) (kz st) d [] L t0 (oC hp g3 hb)
 have form:(d5 (dT l st.2.2.1) (kz st) d []).1.2.2=0∧(cN st d l).1.1=(d5 (dT l st.2.2.1) (kz st) d []).1.1.1∧(∀ s,fT (cN st d l).2.1 s=fT (d5 (dT l st.2.2.1) (kz st) d []).1.2.1 s)∧(cN st d l).1.2.2.1=(d5 (dT l st.2.2.1) (kz st) d []).1.1.2.2.1:=by
  have z:=a2
  unfold cN at z ⊢
  generalize d5 (dT l st.2.2.1) (kz st) d []=q at z ⊢
  unfold xx at z ⊢
  cases c:q.1.2.2 != 0 with
  | true =>
   rw [c] at z
   have:q.1.2.2=0:=z
   rw [this] at c
   cases c
  | false =>
   rw [c] at z
   simp only [aJ] at z ⊢
   cases c2:(dS q.1.2.1 (bR q.1.1)).2 != 0 with
   | true =>
    rw [c2] at z
    exfalso
    have:=lf (dS q.1.2.1 (bR q.1.1))
    rw [show (tl (dS q.1.2.1 (bR q.1.1))).2=0 from z,c2] at this
    cases this
   | false=>exact ⟨f8 c,rfl,fun s=>kp,rfl⟩
 obtain ⟨z1,f1,f2,f3⟩:=form
 obtain ⟨_,e4⟩:=e3 z1
 have hbat:(cN st d l).1.2.2.1=st.2.2.1+1:=by
  rw [f3]
  exact uF _ _ _ _
 refine ⟨a2,OP.of ⟨L2,t2,j2,?_⟩ hw (E9 a1),hbat⟩
 have epl:jE L2=jE L':=by
  rw [← Ab t2,← Ab t',f1]
  exact Bw fun x hx=>by
   unfold gO
   rw [iV t2.disk,iV t'.disk,f2]
 right
 have hseal:gp 3 st.2.2.1 (l.map (gW st.2.2.1)) ∈ q.map gA:=by
  rw [e2,e4,List.take_length]
  unfold dT
  exact List.mem_append_right _ (List.mem_singleton.2 rfl)
 obtain ⟨p,hp1,hp2⟩:=List.mem_map.1 hseal
 refine ⟨p,by rw [epl,e1];exact List.mem_append_right _ hp1,?_⟩
 have e5:p.2.2.2.1=gp 3 st.2.2.1 (l.map (gW st.2.2.1)):=hp2
 rw [e5,hbat]
 exact (Int.add_sub_cancel st.2.2.1 1).symm
noncomputable def Au (st:Ty.d aD) (d:Ty.d aA):RD:=bB (fc st.1.1) (gq (s_ st.1.1) st.1.1 (aw (a_ aF (st.1.1+1)) (dH st.1.1 (bX st.2.1 d).1 (st.2.2.1-1) d).1).1).1
theorem yq {st:Ty.d aD} {d:Ty.d aA} (z:(br st d).2.2=0):(Au st d).2=0∧(br st d).2.1=(mR st.1.2.1 (Au st d).1).1∧(mR st.1.2.1 (Au st d).1).2=0:=by
 have hm:=mz z
 obtain ⟨g1,_,_⟩:=dM hm.store
 obtain ⟨n1,n2,n3,_⟩:=gH (n:=st.1.1) (ids:=st.1.2.1) g1.live
 have e:br st d=cP (s_ st.1.1) st d (bX st.2.1 d).1:=by
  unfold br
  rw [hm.store,aY (show ¬ st.1.1+2 > (100000:Int) from Int.not_lt.2 hm.hi),hm.dump]
  rfl
 have hf:=hm.form
 rw [e] at hf z ⊢
 have hne:pO st≠(fc st.1.1,(iI st.1.1 (bX st.2.1 d).1 0,(st.2.2.1,(0,(0,()))))):=fun w=>by
  have w2:(st.1.1+2,st.1.2)=fc st.1.1:=congrArg (fun s:Ty.d aD=>s.1) w
  have h3:st.1.2.1=[st.1.1,st.1.1+1]:=congrArg (fun v:Ty.d ch=>v.2.1) w2
  have:=(n3 st.1.1 (by rw [h3];exact ii)).2
  exact absurd this (Int.lt_irrefl _)
 unfold Au
 unfold cP at hf z ⊢
 generalize dH st.1.1 (bX st.2.1 d).1 (st.2.2.1-1) d=a at hf z ⊢
 generalize aw (a_ aF (st.1.1+1)) a.1=b at hf z ⊢
 generalize gq (s_ st.1.1) st.1.1 b.1=c at hf z ⊢
 generalize bB (fc st.1.1) c.1=p at hf z ⊢
 cases c1:a.2 != 0 with
 | true=>rw [c1] at hf;exact absurd hf hne
 | false =>
  rw [c1] at hf z
  simp only [aJ] at hf z ⊢
  cases c2:b.2 != 0 with
  | true=>rw [c2] at hf;exact absurd hf hne
  | false =>
   rw [c2] at hf z
   simp only [aJ] at hf z ⊢
   cases c3:c.2 != 0 with
   | true=>rw [c3] at hf;exact absurd hf hne
   | false =>
    rw [c3] at hf z
    simp only [aJ] at hf z ⊢
    cases c4:p.2 != 0 with
    | true=>rw [c4] at hf;exact absurd hf hne
    | false =>
     rw [c4] at z
     simp only [aJ] at z ⊢
     refine ⟨f8 c4,rfl,?_⟩
     have h1:gQ (mR st.1.2.1 p.1).2=0:=z
     have h2:=hZ (mR st.1.2.1 p.1).2
     rw [h1] at h2
     exact C9 h2.symm
theorem yT {t:ByteArray}:∀ (l:List Int) (d:Ty.d aA),DR d→(mR l d).2=0→((∃ x ∈ l,t=a_ aF x∨t=a_ bM x)∨fT d t=none)→fT (mR l d).1 t=none
 | [],d,_,_,h=>by
  rcases h with ⟨x,hx,_⟩ | h
  · cases hx
  · exact h
 | x::l,d,hd,z,h=>by
  obtain ⟨z1,e,z2⟩:=kf (r:=bi [a_ aF x,a_ bM x] d) (f:=mR l) z
  have hy:=jv [a_ aF x,a_ bM x] d hd
  show fT (eW (bi [a_ aF x,a_ bM x] d) (mR l)).1 t=none
  rw [e]
  refine yT l _ hy z2 ?_
  by_cases q:t=a_ aF x∨t=a_ bM x
  · refine .inr (qR _ d hd z1 (.inl ?_))
    rcases q with q | q <;> rw [q] <;> simp
  · rcases h with ⟨y,hy2,w⟩ | h
    · rcases List.mem_cons.1 hy2 with v | v
      · rw [v] at w;exact absurd w q
      · exact .inl ⟨y,v,w⟩
    · exact .inr (qR _ d hd z1 (.inr h))
theorem I6 {st:Ty.d aD} {d:Ty.d aA} (hd:DR d):DR (Au st d).1:=by
 unfold Au
 refine m3 _ _ ?_
 have h1:=j3 (a_ aF (st.1.1+1)) _ (sL st.1.1 (bX st.2.1 d).1 (st.2.2.1-1) hd)
 unfold gq
 cases (kv (a_ bM st.1.1) (s_ st.1.1 (bG (aw (a_ aF (st.1.1+1)) (dH st.1.1 (bX st.2.1 d).1 (st.2.2.1-1) d).1).1 (a_ aF st.1.1)).1) (aw (a_ aF (st.1.1+1)) (dH st.1.1 (bX st.2.1 d).1 (st.2.2.1-1) d).1).1).2==2 with
 | true=>exact jv _ _ (jh _ _ _ h1)
 | false=>exact jh _ _ _ h1
theorem FH {st:Ty.d aD} {d:Ty.d aA} (hd:DR d) (w:WK st d) (z:(br st d).2.2=0):WK (br st d).1 (br st d).2.1:=by
 have hm:=mz z
 obtain ⟨g1,_,_⟩:=dM hm.store
 obtain ⟨_,_,g5,_,_⟩:=bm (nx:=st.1.1) (ids:=st.1.2.1) g1.live
 obtain ⟨z1,e,z2⟩:=yq z
 have hn:=I6 (st:=st) hd
 refine ⟨fun s hs=>?_,by rw [hm.form];exact hm.live⟩
 rw [hm.form]
 show s=gP∨(∃ x ∈ [st.1.1,st.1.1+1],s=a_ aF x)∨s=a_ bM st.1.1
 rw [e] at hs
 by_cases q1:s=gP
 · exact .inl q1
 by_cases q2:s=a_ aF st.1.1
 · exact .inr (.inl ⟨_,ii,q2⟩)
 by_cases q3:s=a_ aF (st.1.1+1)
 · exact .inr (.inl ⟨_,kR _ ii,q3⟩)
 by_cases q4:s=a_ bM st.1.1
 · exact .inr (.inr q4)
 exfalso
 have hno:fT (mR st.1.2.1 (Au st d).1).1 s=none:=by
  refine yT _ _ hn z2 ?_
  by_cases q5:s=iH
  · right
    rw [q5]
    have h1:=j3 (a_ aF (st.1.1+1)) _ (sL st.1.1 (bX st.2.1 d).1 (st.2.2.1-1) hd)
    have h2:DR (gq (s_ st.1.1) st.1.1 (aw (a_ aF (st.1.1+1)) (dH st.1.1 (bX st.2.1 d).1 (st.2.2.1-1) d).1).1).1:=by
     unfold gq
     cases (kv (a_ bM st.1.1) (s_ st.1.1 (bG (aw (a_ aF (st.1.1+1)) (dH st.1.1 (bX st.2.1 d).1 (st.2.2.1-1) d).1).1 (a_ aF st.1.1)).1) (aw (a_ aF (st.1.1+1)) (dH st.1.1 (bX st.2.1 d).1 (st.2.2.1-1) d).1).1).2==2 with
     | true=>exact jv _ _ (jh _ _ _ h1)
     | false=>exact jh _ _ _ h1
    exact qv h2 z1
  · have same:fT (Au st d).1 s=fT d s:=by
     unfold Au
     rw [fb (fun q=>q5 q.symm) (fun q=>q1 q.symm),qg (fun q=>q4 q.symm),lI (fun q=>q3 q.symm),Aa (fun q=>q2 q.symm)]
    cases c:fT d s with
    | none=>exact .inr (same.trans c)
    | some t =>
     left
     rcases w.on s (by rw [c];rfl) with v | ⟨x,hx,v⟩ | v
     · exact absurd v q1
     · exact ⟨x,hx,.inl v⟩
     · exact ⟨_,fX (by omega),.inr v⟩
 rw [hno] at hs
 cases hs
theorem AX:∀ (rs:jM) (a:Int),(eh rs a).map (·.2.2.1)=rs
 | [],_=>rfl
 | r::rs,a=>by
  show r::(eh rs _).map (·.2.2.1)=r::rs
  rw [AX rs]
theorem LD {st:Ty.d aD} {d:Ty.d aA} (h:OP st d) (hF:d.1.length+5<130) (hU:di d.1+6000≤100000) (hn:LE.le (α:=Int) (st.1.1+2) 100000) :
 (br st d).2.2=0∧OP (br st d).1 (br st d).2.1∧(br st d).1.2.2.1=st.2.2.1∧bX (br st d).1.2.1 (br st d).2.1=bX st.2.1 d:=by
 obtain ⟨L,t,j,lb⟩:=h.mi
 have hmi:MI st d:=⟨L,t,j⟩
 obtain ⟨hs,hei⟩:=hmi.store
 obtain ⟨g1,g2,g3⟩:=dM hs
 have hdz:(bX st.2.1 d).2=0:=by rw [ku hs]
 have h20:(bX st.2.1 d).1.length≤20:=by
  rw [ku hs]
  show (st.2.1.map _).length≤20
  rw [List.length_map]
  exact g2
 obtain ⟨z,r⟩:=Ft h.rm hs hdz h20 hF hU hn
 have hm:=mz z
 have hw:=FH h.disk h.WK z
 obtain ⟨L2,t2,j2⟩:=LL hmi
 have hdump:=Gu hm
 refine ⟨z,OP.of ⟨L2,t2,j2,?_⟩ hw (E9 r),by rw [hm.form],by rw [hdump,← hdz]⟩
 right
 have hids:(br st d).1.1.2.1=[st.1.1,st.1.1+1]:=by rw [hm.form];rfl
 have hbat:(br st d).1.2.2.1=st.2.2.1:=by rw [hm.form]
 obtain ⟨kr,_⟩:=Bv hs
 have e1:=Ab t2
 rw [hids] at e1
 have e2:mm (br st d).2.1 st.1.1=tK (st.1.1,fI (bX st.2.1 d).1 (st.2.2.1-1)):=It t2.disk (x:=(st.1.1,fI (bX st.2.1 d).1 (st.2.2.1-1))) ⟨hm.text,kr⟩
 have hmark:gp 5 (st.2.2.1-1) ((bX st.2.1 d).1.map cI) ∈ (eh (fI (bX st.2.1 d).1 (st.2.2.1-1)) 0).map (·.2.2.1):=by
  rw [AX]
  unfold fI
  exact List.mem_append_right _ (List.mem_singleton.2 rfl)
 obtain ⟨s,hs1,hs2⟩:=List.mem_map.1 hmark
 refine ⟨(st.1.1,s),?_,?_⟩
 · rw [← e1]
   show _ ∈ mm (br st d).2.1 st.1.1++kx (br st d).2.1 [st.1.1+1]
   rw [e2]
   exact List.mem_append_left _ (List.mem_map.2 ⟨s,hs1,rfl⟩)
 · rw [hbat]
   have e5:s.2.2.1=gp 5 (st.2.2.1-1) ((bX st.2.1 d).1.map cI):=hs2
   show s.2.2.1.2.1=st.2.2.1-1
   rw [e5]
   rfl
theorem xL (l:du) (key:ByteArray):(jK l key).map (·.1)=(l.map (·.1)).filter fun x=>!(seq x key):=by
 unfold jK
 rw [List.filter_map]
 rfl
theorem N7 (l:du) (p:Ty.d aL):(Ah l p).map (·.1)=NS (l.map (·.1)) p.1:=by
 unfold Ah NS
 rw [List.map_append,List.map_cons,List.takeWhile_map,List.dropWhile_map]
 rfl
theorem BN (b:Int):∀ (puts:fC) (dir:aS) (l:du),gw dir=l.map (·.1)→gw (ny dir puts (puts.map wQ))=(m_ l puts b).map (·.1)
 | [],dir,l,h=>by rw [og];exact h
 | p::puts,dir,l,h=>by
  show gw (ny (bif p.2.1 then lY dir p.1 else rB dir (wQ p)) puts (puts.map wQ))=(m_ (Cf l (p.1,(p.2.2.1,(b,()))) p.2.1) puts b).map (·.1)
  refine BN b puts _ _ ?_
  unfold Cf
  cases p.2.1 with
  | true=>rw [aa,aa,oN,xL,h]
  | false =>
   rw [aJ,aJ]
   unfold rB
   rw [ze,N7,oN,xL,h]
   rfl
theorem HF {dir:aS} {l:du} (h:gw dir=l.map (·.1)) (puts:fC) (b:Int):nn dir puts=((m_ l puts b).length:Int):=by
 have:=congrArg List.length (BN b puts dir l h)
 unfold gw at this
 rw [List.length_map,List.length_map] at this
 unfold nn
 rw [this]
noncomputable def A9 (d:Ty.d aA) (e:Ty.d aB):Ty.d aL:=(e.1,((dc d e).1.2.2.2.1,((dc d e).1.2.1,())))
theorem C5 {st:Ty.d aD} {d:Ty.d aA} (h:dj st d=true):gw st.2.1=(bX st.2.1 d).1.map (·.1):=by
 rw [ku h]
 unfold gw
 rw [List.map_map]
 rfl
theorem CP {st:Ty.d aD} {d:Ty.d aA} (h:dj st d=true):∀ e ∈ st.2.1,(dc d e).2=true∧seq (dc d e).1.2.2.1 e.1=true∧(((dc d e).1.1==1)||((dc d e).1.1==4))=true∧@Eq Int (dc d e).1.2.1 e.2.2.2.2.1:=fun e he=>by
 unfold dj at h
 simp only [iA] at h
 obtain ⟨_,_,hdir,_,_,hent⟩:=h
 have hin:=List.all_eq_true.1 hent e he
 unfold pI at hin
 simp only [iA,beq_iff_eq] at hin
 exact ⟨hin.1,hin.2.1,hin.2.2.2.1,hin.2.2.1⟩
theorem Bl {d:Ty.d aA} (key:ByteArray):∀ dir:aS,(∀ e ∈ dir,@Eq Int (dc d e).1.2.1 e.2.2.2.2.1)→tW (pW (dir.map (A9 d))) key=tW dir key
 | [],_=>rfl
 | e::dir,h=>by
  have ih:=Bl key dir fun f hf=>h f (kR _ hf)
  unfold tW at ih ⊢
  rw [show pW ((e::dir).map (A9 d))=(e.1,(0,(0,(0,((dc d e).1.2.1,())))))::pW (dir.map (A9 d)) from rfl,qp.eq_2,qp.eq_2]
  cases seq e.1 key with
  | true=>exact h e ii
  | false=>exact ih
theorem GO {st:Ty.d aD} {d:Ty.d aA} (h:dj st d=true) (rows:List (Ty.d bF)):jY rows (pW (bX st.2.1 d).1)=jY rows st.2.1:=by
 have e:(bX st.2.1 d).1=st.2.1.map (A9 d):=by rw [ku h];rfl
 unfold jY
 rw [e]
 congr 1
 funext r
 rw [Bl r.1 st.2.1 fun e he=>(CP h e he).2.2.2]
theorem C6 {d:Ty.d aA} (key:ByteArray):∀ dir:aS,(∀ e ∈ dir,(dc d e).2=true∧seq (dc d e).1.2.2.1 e.1=true∧(((dc d e).1.1==1)||((dc d e).1.1==4))=true∧@Eq Int (dc d e).1.2.1 e.2.2.2.2.1)→rG dir d key=jq (dir.map (A9 d)) key
 | [],_=>rfl
 | e::dir,h=>by
  have ih:=C6 key dir fun f hf=>h f (kR _ hf)
  unfold rG at ih ⊢
  rw [List.map_cons,jq,qp.eq_2,show (A9 d e).1=e.1 from rfl]
  cases c:seq e.1 key with
  | true =>
   obtain ⟨h1,h2,h3,_⟩:=h e ii
   have ek:e.1=key:=eE.1 c
   simp only [aa]
   rw [← ek,h1,h2,h3]
   rfl
  | false =>
   simp only [aJ]
   exact ih
theorem Md {st:Ty.d aD} {d:Ty.d aA} (h:dj st d=true) (key:ByteArray):rG st.2.1 d key=jq (bX st.2.1 d).1 key:=by
 have e:(bX st.2.1 d).1=st.2.1.map (A9 d):=by rw [ku h];rfl
 rw [e]
 exact C6 key st.2.1 (CP h)
theorem Lb {a:Ty.d ba} (h:bd a=true):(aI a).size≤60:=by
 have v1:=bK a.1
 have v2:=bK a.2.1
 have v3:=bK a.2.2.2.2.1
 have t1:=kG a.2.2.1
 have t2:=kG a.2.2.2.1
 unfold aI
 rw [if_pos h]
 split
 · rename_i c
   have e:(a.1==1||a.1==4)=true:=by simpa using c
   unfold bd at h
   rw [e] at h
   simp only [aa,iA,decide_eq_true_eq] at h
   have k1:=h.1.2
   have k2:=h.2.1
   simp only [ByteArray.size_append]
   omega
 · rename_i c
   split
   · rename_i c2
     have e:(a.1==1||a.1==4)=false:=by
      cases q:(a.1==1||a.1==4) with
      | false=>rfl
      | true=>exact absurd (by simpa using q) c
     unfold bd at h
     rw [e,c2] at h
     simp only [aJ,beq_self_eq_true,aa,iA,decide_eq_true_eq] at h
     have k1:=h.1.2
     simp only [ByteArray.size_append]
     omega
   · simp only [ByteArray.size_append,im]
     omega
theorem JQ {a:Ty.d ba} (h:bd a=true):LE.le (α:=Int) (ar a) 71:=by
 have h1:=Lb h
 have h2:=kG (aI a)
 unfold ar aT
 rw [if_neg (by omega),ByteArray.size_append,im]
 omega
def pot (st:Ty.d aD):Int:=129*max (st.1.2.1.length:Int) 2+st.2.2.2.1
theorem Jl {nm:ByteArray} {r:RD} (h:(r.2 != 0)=true):((qY nm r).2 != 0)=true:=by
 unfold qY
 cases r.2==2 with
 | false=>exact h
 | true =>
  simp only [aa]
  cases c:(bi [iH,nm] r.1).2==0 with
  | true=>rfl
  | false=>exact (lf (bi [iH,nm] r.1)).trans (by rw [bne,c];rfl)
theorem Mx (st:Ty.d aD) (d:Ty.d aA):(((gu st d).2.2 != 0)=true∧(gu st d).1.1.2.1=st.1.2.1∧(gu st d).1.2=st.2)∨(((gu st d).2.2 != 0)=false∧(gu st d).1=uC st):=by
 unfold gu
 cases decide ((st.1.2.1.length:Int)≥60) with
 | true=>exact .inl ⟨rfl,rfl,rfl⟩
 | false =>
  simp only [aJ]
  cases decide (st.1.1≥100000) with
  | true=>exact .inl ⟨rfl,rfl,rfl⟩
  | false =>
   simp only [aJ]
   cases c1:(dS d (bR st)).2 != 0 with
   | true=>exact .inl ⟨(lf _).trans c1,rfl,rfl⟩
   | false =>
    simp only [aJ]
    cases c2:(aw (a_ aF st.1.1) (dS d (bR st)).1).2 != 0 with
    | true=>exact .inl ⟨(lf _).trans c2,rfl,rfl⟩
    | false =>
     simp only [aJ]
     cases c3:(bB (kZ st) (aw (a_ aF st.1.1) (dS d (bR st)).1).1).2 != 0 with
     | true=>exact .inl ⟨Jl ((lf _).trans c3),rfl,rfl⟩
     | false=>exact .inr ⟨by first | rfl | trivial,rfl⟩
theorem IM (st:Ty.d aD) (d:Ty.d aA) (r:Ty.d ba):pot (iT st d r).1.1≤pot st+ar r∧((iT st d r).1.1.1=st.1)∧(st.2.2.2.1≤(iT st d r).1.1.2.2.2.1):=by
 have hr:=mD r
 unfold iT
 cases (jA d (bR st) (aT (aI r))).2 != 0 with
 | true =>
  simp only [aa]
  refine ⟨?_,by first | rfl | trivial,Int.le_refl _⟩
  show pot st≤pot st+ar r
  have:=hr.1
  omega
 | false =>
  simp only [aJ]
  refine ⟨?_,rfl,?_⟩
  · show 129*max (st.1.2.1.length:Int) 2+(st.2.2.2.1+ar r)≤129*max (st.1.2.1.length:Int) 2+st.2.2.2.1+ar r
    omega
  · show LE.le (α:=Int) st.2.2.2.1 (st.2.2.2.1+ar r)
    have:=hr.1
    omega
theorem Nu (st:Ty.d aD) (d:Ty.d aA) {r:Ty.d ba} (h:bd r=true) (h0:LE.le (α:=Int) 0 st.2.2.2.1):pot (eI st d r).1.1≤pot st+71∧LE.le (α:=Int) 0 (eI st d r).1.1.2.2.2.1:=by
 have hs:=JQ h
 have hr:=mD r
 unfold eI
 cases c:decide (st.2.2.2.1 > 0)&&decide (st.2.2.2.1+ar r > 200) with
 | false =>
  simp only [aJ]
  obtain ⟨a,_,b⟩:=IM st d r
  exact ⟨by omega,Int.le_trans h0 b⟩
 | true =>
  simp only [iA,decide_eq_true_eq] at c
  have c2:LT.lt (α:=Int) 200 (st.2.2.2.1+ar r):=c.2
  simp only [aa]
  rcases Mx st d with ⟨z,e1,e2⟩ | ⟨z,e⟩
  · rw [z]
    simp only [aa]
    refine ⟨?_,?_⟩
    · show 129*max ((gu st d).1.1.2.1.length:Int) 2+(gu st d).1.2.2.2.1≤_
      rw [e1,e2]
      unfold pot
      omega
    · rw [e2]
      exact h0
  · rw [z]
    simp only [aJ]
    obtain ⟨a,_,b⟩:=IM (gu st d).1 (gu st d).2.1 r
    rw [e] at a b
    have e0:pot (uC st)=129*max ((st.1.2.1.length:Int)+1) 2+0:=by
     show 129*max ((st.1.2.1++[st.1.1]).length:Int) 2+0=_
     rw [py,List.length_singleton]
     rfl
    have b:LE.le (α:=Int) 0 (iT (uC st) (gu st d).2.1 r).1.1.2.2.2.1:=b
    rw [e]
    refine ⟨Int.le_trans a ?_,b⟩
    rw [e0]
    unfold pot
    omega
theorem En:∀ (l:jM) (st:Ty.d aD) (d:Ty.d aA) (ps:ah),(∀ r ∈ l,bd r=true)→LE.le (α:=Int) 0 st.2.2.2.1→pot (d5 l st d ps).1.1≤pot st+71*(l.length:Int)∧LE.le (α:=Int) 0 (d5 l st d ps).1.1.2.2.2.1
 | [],st,d,ps,_,h0=>⟨by simp [d5],h0⟩
 | r::l,st,d,ps,h,h0=>by
  obtain ⟨a,b⟩:=Nu st d (h r ii) h0
  rw [d5,jj]
  cases (eI st d r).1.2.2 != 0 with
  | true =>
   simp only [aa]
   exact ⟨by omega,b⟩
  | false =>
   simp only [aJ]
   obtain ⟨x,y⟩:=En l (eI st d r).1.1 (eI st d r).1.2.1 (ps++[(eI st d r).2]) (fun q hq=>h q (kR _ hq)) b
   exact ⟨by omega,y⟩
theorem KC {st:Ty.d aD} {d:Ty.d aA} {l:fC} (hp:dN l=true) (h0:LE.le (α:=Int) 1 st.2.2.1) (hb:LE.le (α:=Int) st.2.2.1 1000000) (hz:LE.le (α:=Int) 0 st.2.2.2.1):pot (cN st d l).1≤pot st+71*((l.length:Int)+1)∧LE.le (α:=Int) 0 (cN st d l).1.2.2.2.1:=by
 obtain ⟨a,b⟩:=En (dT l st.2.2.1) (kz st) d [] (oC hp h0 hb) hz
 have e:((dT l st.2.2.1).length:Int)=(l.length:Int)+1:=by unfold dT;rw [py,List.length_map,List.length_singleton];rfl
 rw [e] at a
 have a:pot (d5 (dT l st.2.2.1) (kz st) d []).1.1≤pot st+71*((l.length:Int)+1):=a
 unfold cN xx
 cases (d5 (dT l st.2.2.1) (kz st) d []).1.2.2 != 0 with
 | true=>exact ⟨a,b⟩
 | false =>
  simp only [aJ]
  cases (dS (d5 (dT l st.2.2.1) (kz st) d []).1.2.1 (bR (d5 (dT l st.2.2.1) (kz st) d []).1.1)).2 != 0 with
  | true=>exact ⟨a,b⟩
  | false=>exact ⟨a,b⟩
theorem NO {st:Ty.d aD} {n:Int} (h:pot st≤258+71*n) (hz:LE.le (α:=Int) 0 st.2.2.2.1) (hn:n≤82):st.1.2.1.length≤48:=by
 unfold pot at h
 omega
theorem CC:∀ (l N:List ByteArray),l.Pairwise (·≠·)→(∀ x ∈ l,x ∈ N)→l.length≤N.length
 | [],_,_,_=>Nat.zero_le _
 | x::l,N,h,hs=>by
  obtain ⟨a,b,rfl⟩:=List.append_of_mem (hs x ii)
  rw [List.pairwise_cons] at h
  have:=CC l (a++b) h.2 fun y hy=>by
   have hy2:=hs y (kR _ hy)
   rw [List.mem_append,List.mem_cons] at hy2
   rw [List.mem_append]
   rcases hy2 with q | q | q
   · exact .inl q
   · exact absurd q.symm (h.1 y hy)
   · exact .inr q
  rw [py] at this
  rw [py,jj,jj]
  omega
theorem Ae {d:Ty.d aA} (h:DR d) {N:List ByteArray} (hs:∀ f ∈ d.1,f.1 ∈ N):d.1.length≤N.length:=by
 have:=CC (lH d.1) N (List.Pairwise.imp (fun {a b} q e=>by rw [e,nM] at q;cases q) h.keys) fun x hx=>by
  obtain ⟨f,hf,e⟩:=List.mem_map.1 hx
  rw [← e]
  exact hs f hf
 unfold lH at this
 rwa [List.length_map] at this
theorem OP.files {st:Ty.d aD} {d:Ty.d aA} (h:OP st d):d.1.length≤st.1.2.1.length+2:=by
 have:=Ae h.disk (N:=gP::a_ bM (st.1.2.1.getD 0 0)::st.1.2.1.map (a_ aF)) fun f hf=>by
  rcases h.only f hf with q | ⟨x,hx,q⟩ | q
  · rw [q];exact ii
  · rw [q];exact kR _ (kR _ (List.mem_map_of_mem hx))
  · rw [q];exact kR _ ii
 rw [jj,jj,List.length_map] at this
 omega
theorem IU {B:Nat}:∀ l:bo,(∀ f ∈ l,f.2.1.size≤B)→di l≤B*l.length
 | [],_=>Nat.zero_le _
 | f::l,h=>by
  have ih:=IU l fun g hg=>h g (kR _ hg)
  have h1:=h f ii
  rw [jj,Nat.mul_succ]
  show f.2.1.size+di l≤_
  omega
theorem JH {st:Ty.d aD} {d:Ty.d aA} {l:fC} (h:OP st d) (hp:dN l=true) (hb:LE.le (α:=Int) st.2.2.1 1000000) (hF:d.1.length+20<130) (hU:di d.1+4000≤100000) (hi:st.1.2.1.length≤50) (hn:LE.le (α:=Int) st.1.1 99000) :
 di (cN st d l).2.1.1≤di d.1+421*(l.length+1)∧LE.le (α:=Int) (cN st d l).1.1.1 (st.1.1+((l.length:Int)+1)):=by
 obtain ⟨L,t,j,lb⟩:=h.mi
 have hmi:MI st d:=⟨L,t,j⟩
 obtain ⟨hs,hei⟩:=hmi.store
 obtain ⟨g1,g2,g3⟩:=dM hs
 have hBT:=s7 hs
 have hl8:=nI hp
 have hlen:(dT l st.2.2.1).length=l.length+1:=by unfold dT;rw [py,List.length_map,List.length_singleton]
 obtain ⟨a1,a2,a3,a4⟩:=D1 (dT l st.2.2.1) (kz st) d [] d.1.length (di d.1) h.rm ⟨hBT.live,hBT.disk,hBT.full,hBT.tail⟩ (oC hp g3 hb) (by omega) (by omega) (by show st.1.2.1.length+_≤60;omega) (by show LE.le (α:=Int) (st.1.1+_) 100000;omega)
 obtain ⟨hB,_⟩:=yL (dT l st.2.2.1) (kz st) d [] ⟨hBT.live,hBT.disk,hBT.full,hBT.tail⟩ (oC hp g3 hb) (fun x hx=>by cases hx) a2
 have a4:LE.le (α:=Int) (d5 (dT l st.2.2.1) (kz st) d []).1.1.1.1 (st.1.1+((dT l st.2.2.1).length:Int)):=a4
 unfold cN
 generalize d5 (dT l st.2.2.1) (kz st) d []=q at a1 a2 a3 a4 hB ⊢
 obtain ⟨_,_,k1,_,_⟩:=bm (nx:=q.1.1.1.1) (ids:=q.1.1.1.2.1) hB.live
 have hlast:bj q.1.1.1.2.1 ∈ q.1.1.1.2.1:=by
  have hs:=m5 k1
  rw [hs]
  exact List.mem_append_right _ (List.mem_singleton.2 (by rw [← hs]))
 obtain ⟨t,ht,_⟩:=hB.full _ hlast
 obtain ⟨y1,y2⟩:=wa a1 (s:=bR q.1.1) (by rw [show fT q.1.2.1 (bR q.1.1)=some t from ht];rfl)
 unfold xx
 rw [show (q.1.2.2 != 0)=false by rw [a2];rfl,y2]
 rw [hlen] at y1 a4
 refine ⟨y1.use,?_⟩
 show LE.le (α:=Int) q.1.1.1.1 (st.1.1+((l.length:Int)+1))
 refine Int.le_trans a4 (Int.le_of_eq ?_)
 rw [Int.natCast_add]
 rfl
theorem Gn {m:Int} {b:Ty.d aA} (hd:DR b) (z:(gq (s_ m) m b).2=0) {t:ByteArray} (h:fT (gq (s_ m) m b).1 (a_ bM m)=some t):t.size≤904:=by
 unfold gq at z h
 cases c:(kv (a_ bM m) (s_ m (bG b (a_ aF m)).1) b).2==2 with
 | true =>
  rw [c] at z h
  simp only [aa] at z h
  rw [qR _ _ (jh _ _ _ hd) z (.inl ii)] at h
  cases h
 | false =>
  rw [c] at z h
  simp only [aJ] at z h
  rw [FC z] at h
  injection h with h
  rw [← h]
  exact po _
theorem GC {st:Ty.d aD} {d:Ty.d aA} (z:(br st d).2.2=0):(gq (s_ st.1.1) st.1.1 (aw (a_ aF (st.1.1+1)) (dH st.1.1 (bX st.2.1 d).1 (st.2.2.1-1) d).1).1).2=0:=by
 have hm:=mz z
 obtain ⟨g1,_,_⟩:=dM hm.store
 obtain ⟨n1,n2,n3,_⟩:=gH (n:=st.1.1) (ids:=st.1.2.1) g1.live
 have e:br st d=cP (s_ st.1.1) st d (bX st.2.1 d).1:=by
  unfold br
  rw [hm.store,aY (show ¬ st.1.1+2 > (100000:Int) from Int.not_lt.2 hm.hi),hm.dump]
  rfl
 have hf:=hm.form
 rw [e] at hf z
 have hne:pO st≠(fc st.1.1,(iI st.1.1 (bX st.2.1 d).1 0,(st.2.2.1,(0,(0,()))))):=fun w=>by
  have w2:(st.1.1+2,st.1.2)=fc st.1.1:=congrArg (fun s:Ty.d aD=>s.1) w
  have h3:st.1.2.1=[st.1.1,st.1.1+1]:=congrArg (fun v:Ty.d ch=>v.2.1) w2
  have:=(n3 st.1.1 (by rw [h3];exact ii)).2
  exact absurd this (Int.lt_irrefl _)
 unfold cP at hf
 generalize dH st.1.1 (bX st.2.1 d).1 (st.2.2.1-1) d=a at hf ⊢
 generalize aw (a_ aF (st.1.1+1)) a.1=b at hf ⊢
 generalize gq (s_ st.1.1) st.1.1 b.1=c at hf ⊢
 cases c1:a.2 != 0 with
 | true=>rw [c1] at hf;exact absurd hf hne
 | false =>
  rw [c1] at hf
  simp only [aJ] at hf
  cases c2:b.2 != 0 with
  | true=>rw [c2] at hf;exact absurd hf hne
  | false =>
   rw [c2] at hf
   simp only [aJ] at hf
   cases c3:c.2 != 0 with
   | true=>rw [c3] at hf;exact absurd hf hne
   | false=>exact f8 c3
theorem J4 {st:Ty.d aD} {d:Ty.d aA} (hd:DR d) (w:WK st d) (h20:(bX st.2.1 d).1.length≤20) (z:(br st d).2.2=0):di (br st d).2.1.1≤18000:=by
 have hm:=mz z
 have hw:=FH hd w z
 obtain ⟨z1,e,z2⟩:=yq z
 have zh:=GC z
 have hn:=I6 (st:=st) hd
 have hids:(br st d).1.1.2.1=[st.1.1,st.1.1+1]:=by rw [hm.form];rfl
 have on:∀ f ∈ (br st d).2.1.1,fT (br st d).2.1 f.1=some f.2.1:=fun f hf=>by
  unfold fT
  rw [HD hm.disk.keys hf]
  rfl
 have cls:∀ f ∈ (br st d).2.1.1,f.1=gP∨(∃ x ∈ [st.1.1,st.1.1+1],f.1=a_ aF x)∨f.1=a_ bM st.1.1:=fun f hf=>by
  have:=hw.on f.1 (by rw [on f hf];rfl)
  rw [hids] at this
  exact this
 have len:(br st d).2.1.1.length≤4:=Ae hm.disk (N:=[gP,a_ aF st.1.1,a_ aF (st.1.1+1),a_ bM st.1.1]) fun f hf=>by
  rcases cls f hf with q | ⟨x,hx,q⟩ | q
  · rw [q];simp
  · rw [q]
    rcases List.mem_cons.1 hx with v | v
    · rw [v];simp
    · rw [List.mem_singleton.1 v];simp
  · rw [q];simp
 have small:∀ f ∈ (br st d).2.1.1,f.2.1.size≤4500:=fun f hf=>by
  have ho:=on f hf
  rcases cls f hf with q | ⟨x,hx,q⟩ | q
  · rw [q,hm.live] at ho
    injection ho with ho
    rw [← ho]
    have:=rY (fc st.1.1)
    omega
  · rcases List.mem_cons.1 hx with v | v
    · rw [q,v,hm.text] at ho
      injection ho with ho
      rw [← ho]
      have h1:=uy (fI (bX st.2.1 d).1 (st.2.2.1-1))
      have h2:(fI (bX st.2.1 d).1 (st.2.2.1-1)).length=(bX st.2.1 d).1.length+1:=by
       unfold fI
       rw [py,List.length_map,List.length_singleton]
      omega
    · rw [q,List.mem_singleton.1 v,hm.next] at ho
      injection ho with ho
      rw [← ho]
      exact Nat.zero_le _
  · rw [q,e] at ho
    have hold:¬ ∃ x ∈ st.1.2.1,a_ bM st.1.1=a_ aF x∨a_ bM st.1.1=a_ bM x:=fun hx=>by
     rw [yT _ _ hn z2 (.inl hx)] at ho
     cases ho
    rw [u6 st.1.2.1 _ fun x hx=>⟨fun v=>hold ⟨x,hx,.inl v.symm⟩,fun v=>hold ⟨x,hx,.inr v.symm⟩⟩] at ho
    have hb:=j3 (a_ aF (st.1.1+1)) _ (sL st.1.1 (bX st.2.1 d).1 (st.2.2.1-1) hd)
    have hin:∀ n:Int,1≤n→n+2≤100000→1≤n∧n≤100000:=by omega
    have m1:=hin st.1.1 hm.lo hm.hi
    have q5:iH≠a_ bM st.1.1:=fun v=>BQ m1 v.symm
    have q6:gP≠a_ bM st.1.1:=fun v=>Be m1 v.symm
    unfold Au at ho
    rw [fb q5 q6] at ho
    have:=Gn hb zh ho
    omega
 have:=IU _ small
 have h4:=Nat.mul_le_mul_left 4500 len
 omega
structure BD (n p:Int) (st:Ty.d aD) (d:Ty.d aA):Prop where
 op:OP st d
 pot:pot st+71*p≤258+71*n
 size:LE.le (α:=Int) 0 st.2.2.2.1
 use:(di d.1:Int)+421*p≤18000+421*n
 next:LE.le (α:=Int) (st.1.1+p) (2+2*n)
 bat:LE.le (α:=Int) st.2.2.1 (1+n)
 p0:0≤p
theorem Mq {st:Ty.d aD} (h:LE.le (α:=Int) 0 st.2.2.2.1):258≤pot st:=by
 unfold pot
 omega
theorem BD.pn {n p:Int} {st:Ty.d aD} {d:Ty.d aA} (h:BD n p st d):p≤n:=by
 have h1:=Mq h.size
 have h2:=h.pot
 omega
theorem BD.mono {n p n' p':Int} {st:Ty.d aD} {d:Ty.d aA} (h:BD n p st d) (hp:p'-p≤n'-n) (hn:n≤n') (h0:0≤p'):BD n' p' st d:=by
 obtain ⟨h1,h2,h3,h4,h5,h6,h7⟩:=h
 have h5':LE.le (α:=Int) st.1.1 (2+2*n-p):=by omega
 refine ⟨h1,by omega,h3,by omega,?_,?_,h0⟩
 · have:2+2*n-p≤2+2*n'-p':=by omega
   have:=Int.le_trans h5' this
   omega
 · exact Int.le_trans h6 (by omega)
theorem BD.room {n p:Int} {st:Ty.d aD} {d:Ty.d aA} (h:BD n p st d) (hn:n≤82):d.1.length+20<130∧di d.1+6000≤100000∧st.1.2.1.length≤48∧LE.le (α:=Int) st.1.1 99000∧LE.le (α:=Int) st.2.2.1 1000000:=by
 have hp:=h.p0
 have hi:=NO (st:=st) (n:=n-p) (by have:=h.pot;omega) h.size (by omega)
 have hf:=h.op.files
 have hu:=h.use
 have hx:=h.next
 have hb:=h.bat
 exact ⟨by omega,by omega,hi,by omega,by omega⟩
theorem BD.write {n p:Int} {st:Ty.d aD} {d:Ty.d aA} {l:fC} (h:BD n p st d) (hn:n≤82) (hp:dN l=true) (ha:nn st.2.1 l≤20) (hl:(l.length:Int)≤p) :
 (cN st d l).2.2=0∧BD (n+1) (p-l.length) (cN st d l).1 (cN st d l).2.1∧(cN st d l).1.2.2.1=st.2.2.1+1:=by
 obtain ⟨r1,r2,r3,r4,r5⟩:=h.room hn
 obtain ⟨z,o,b⟩:=M6 h.op hp r5 ha r1 (by omega) (by omega) r4
 obtain ⟨u1,u2⟩:=JH h.op hp r5 r1 (by omega) (by omega) r4
 obtain ⟨hs,_⟩:=h.op.MI.store
 obtain ⟨_,_,g3⟩:=dM hs
 obtain ⟨w1,w2⟩:=KC (d:=d) hp g3 r5 h.size
 have h2:=h.pot
 have h4:=h.use
 have h5:=h.next
 have h6:=h.bat
 refine ⟨z,⟨o,by omega,w2,by omega,?_,?_,by omega⟩,b⟩
 · have h5':LE.le (α:=Int) st.1.1 (2+2*n-p):=by omega
   have key:∀ x y q:Int,x≤y+(q+1)→y≤2+2*n-p→x+(p-q)≤2+2*(n+1):=by omega
   exact key _ _ _ u2 h5'
 · rw [b]
   have key:∀ x:Int,x≤1+n→x+1≤1+(n+1):=by omega
   exact key _ h6
theorem BD.merge {n p:Int} {st:Ty.d aD} {d:Ty.d aA} (h:BD n p st d) (hn:n≤82) :
 (br st d).2.2=0∧BD (n+1) p (br st d).1 (br st d).2.1∧(br st d).1.2.2.1=st.2.2.1∧bX (br st d).1.2.1 (br st d).2.1=bX st.2.1 d:=by
 obtain ⟨r1,r2,r3,r4,r5⟩:=h.room hn
 have hpn:=h.pn
 have hp0:=h.p0
 have nk:∀ x:Int,x≤99000→x+2≤100000:=by omega
 obtain ⟨z,o,b,e⟩:=LD h.op (by omega) r2 (nk _ r4)
 obtain ⟨hs,_⟩:=h.op.MI.store
 obtain ⟨g1,g2,g3⟩:=dM hs
 have h20:(bX st.2.1 d).1.length≤20:=by
  rw [ku hs]
  show (st.2.1.map _).length≤20
  rw [List.length_map]
  exact g2
 have hu:=J4 h.op.disk h.op.WK h20 z
 have hm:=mz z
 have ep:G.pot (br st d).1=258:=by rw [hm.form];rfl
 have e1:(br st d).1.1.1=st.1.1+2:=by rw [hm.form];rfl
 have e2:(br st d).1.2.2.2.1=(0:Int):=by rw [hm.form]
 have h5:=h.next
 have h6:=h.bat
 refine ⟨z,⟨o,by rw [ep];omega,by rw [e2];exact Int.le_refl _,by omega,?_,?_,hp0⟩,b,e⟩
 · rw [e1]
   have key:∀ x:Int,x+p≤2+2*n→x+2+p≤2+2*(n+1):=by omega
   exact key _ h5
 · rw [b]
   exact Int.le_trans h6 (by omega)
theorem Hk {s:ByteArray}:∀ {w:fC} {q:Ty.d aW},lL w s=some q→q ∈ w
 | [],q,h=>by cases h
 | p::w,q,h=>by
  unfold lL at h
  cases c:lL w s with
  | some r =>
   rw [c] at h
   simp only [] at h
   injection h with h
   rw [← h]
   exact kR _ (Hk c)
  | none =>
   rw [c] at h
   simp only [] at h
   cases c2:seq p.1 s with
   | true =>
    rw [c2] at h
    injection h with h
    rw [← h]
    exact ii
   | false=>rw [c2] at h;cases h
theorem MX {w:fC} {q:Ty.d aW} (h:q ∈ gj w):q ∈ w:=by
 unfold gj at h
 obtain ⟨s,hs,e⟩:=List.mem_map.1 h
 have hk:(w.any fun p=>seq p.1 s)=true:=by
  rw [← wT s w]
  exact List.any_eq_true.2 ⟨s,hs,bZ s⟩
 obtain ⟨r,h1,_⟩:=I4 hk
 rw [h1] at e
 rw [← e]
 exact Hk h1
theorem HA {l:fC} (h:∀ w ∈ l,jB w=true) (hl:l.length≤8):dN l=true:=by
 unfold dN
 rw [aV hl,Bool.and_true]
 have key:∀ (l:fC) (p:Option (Ty.d aW)),(∀ x ∈ l,jB x=true)→pR (fun _=>jB) p l=true:=by
  intro l
  induction l with
  | nil=>exact fun _ _=>rfl
  | cons a l ih =>
   intro p h
   rw [pR,ih _ fun x hx=>h x (kR _ hx),Bool.and_true]
   exact h a ii
 exact key l none h
structure TG (t:Ty.d aK):Prop where
 tv:TV t
 uq:UQ t
 put:∀ w ∈ t.2.2.1,jB w=true
 net:(gj t.2.2.1).length≤8
theorem TG.puts {t:Ty.d aK} (h:TG t):dN (gj t.2.2.1)=true:=HA (fun w hw=>h.put w (MX hw)) h.net
theorem A6 (b:Bool):TG (b,([],([],()))):=by
 refine ⟨⟨Nat.zero_le _,Nat.zero_le _⟩,List.Pairwise.nil,fun w hw=>?_,Nat.zero_le _⟩
 exact absurd (show w ∈ ([]:fC) from hw) List.not_mem_nil
theorem LV {t:Ty.d aK} (h:TG t) (key:ByteArray) (b:Int):TG (iM t key b).1∧(iM t key b).1.2.2.1=t.2.2.1:=by
 have hu:=M4 h.uq key b
 have e:(iM t key b).1.2.2.1=t.2.2.1∧(iM t key b).1.2.1.length≤20:=by
  have h1:=h.tv.1
  unfold iM
  cases t.1 with
  | false=>exact ⟨rfl,h1⟩
  | true =>
   simp only [fN,aJ]
   cases eT key with
   | false=>exact ⟨rfl,h1⟩
   | true =>
    simp only [fN,aJ]
    cases kW t.2.1 key with
    | some b'=>exact ⟨rfl,h1⟩
    | none =>
     simp only []
     cases c:decide ((t.2.1.length:Int)≥20) with
     | true=>exact ⟨rfl,h1⟩
     | false =>
      have c:=of_decide_eq_false c
      refine ⟨rfl,?_⟩
      show (t.2.1++[(key,(b,()))]).length≤20
      rw [py,List.length_singleton]
      omega
 refine ⟨⟨⟨e.2,by rw [e.1];exact h.tv.2⟩,hu,by rw [e.1];exact h.put,by rw [e.1];exact h.net⟩,e.1⟩
theorem Jm {t:Ty.d aK} (h:TG t) {p:Ty.d aW} (hp:dN [p]=true):TG (fq t p).1∧(fq t p).1.2.2.1.length≤t.2.2.1.length+1:=by
 have hu:=Jx h.uq p
 revert hu
 unfold fq
 cases t.1 with
 | false=>exact fun _=>⟨h,Nat.le_succ _⟩
 | true =>
  simp only [fN,aJ,hp]
  cases c1:decide (((gj (t.2.2.1++[p])).length:Int) > 8) with
  | true=>exact fun _=>⟨h,Nat.le_succ _⟩
  | false =>
   simp only [aJ]
   cases c2:decide (((t.2.2.1++[p]).length:Int) > 50) with
   | true=>exact fun _=>⟨h,Nat.le_succ _⟩
   | false =>
    simp only [aJ]
    intro hu
    have c1:=of_decide_eq_false c1
    have c2:=of_decide_eq_false c2
    refine ⟨⟨⟨h.tv.1,?_⟩,hu,fun w hw=>?_,?_⟩,?_⟩
    · show (t.2.2.1++[p]).length≤50
      omega
    · have hw:w ∈ t.2.2.1++[p]:=hw
      rcases List.mem_append.1 hw with q | q
      · exact h.put w q
      · rw [List.mem_singleton.1 q]
        exact uY hp ii
    · show (gj (t.2.2.1++[p])).length≤8
      omega
    · show (t.2.2.1++[p]).length≤t.2.2.1.length+1
      rw [py,List.length_singleton]
      exact Nat.le_refl _
def rx:List (Ty.d aK)→Nat
 | []=>0
 | t::l=>t.2.2.1.length+rx l
theorem zl:∀ {l:List (Ty.d aK)} {i:Nat} (t:Ty.d aK),i<l.length→rx (l.set i t)+(l.getD i (Ty.z aK)).2.2.1.length=rx l+t.2.2.1.length
 | [],i,t,h=>by cases h
 | x::l,0,t,h=>by
  show t.2.2.1.length+rx l+x.2.2.1.length=x.2.2.1.length+rx l+t.2.2.1.length
  omega
 | x::l,i+1,t,h=>by
  have ih:=zl (l:=l) (i:=i) t (by rw [jj] at h;omega)
  show x.2.2.1.length+rx (l.set i t)+(l.getD i (Ty.z aK)).2.2.1.length=x.2.2.1.length+rx l+t.2.2.1.length
  omega
structure sR (n:Int) (e:Ty.d bO) (m:Ty.d af):Prop where
 up:e.1=m.1
 txn:e.2.2.2.1=m.2.2.2.1
 len:e.2.2.2.1.length=3
 tg:∀ t ∈ e.2.2.2.1,TG t
 st:∃ st,BD n (rx e.2.2.2.1:Int) st e.2.2.1∧bX st.2.1 e.2.2.1=(m.2.1,0)∧@Eq Int st.2.2.1 m.2.2.1∧(e.1=true→e.2.1=st)
theorem sR.later {n:Int} {e:Ty.d bO} {m:Ty.d af} (h:sR n e m):sR (n+1) e m:=by
 obtain ⟨st,b,r⟩:=h.st
 exact ⟨h.up,h.txn,h.len,h.tg,st,b.mono (by omega) (by omega) (by omega),r⟩
theorem sR.at_ {n:Int} {e:Ty.d bO} {m:Ty.d af} (h:sR n e m) (i:Int):gy e i=kQ m i:=by
 unfold gy kQ
 rw [h.txn]
theorem sR.good {n:Int} {e:Ty.d bO} {m:Ty.d af} (h:sR n e m) (i:Int):TG (gy e i):=by
 unfold gy
 by_cases c:i.toNat<e.2.2.2.1.length
 · exact h.tg _ (fX c)
 · have q:e.2.2.2.1.getD i.toNat (Ty.z aK)=Ty.z aK:=by
    rw [List.getD,List.getElem?_eq_none (by omega)]
    rfl
   rw [q]
   exact A6 false
theorem sR.put {n:Int} {e:Ty.d bO} {m:Ty.d af} (h:sR n e m) {i:Int} (h0:0≤i) (h1:i<(e.2.2.2.1.length:Int)) {t:Ty.d aK} (ht:TG t) (hl:t.2.2.1.length≤(gy e i).2.2.1.length+1):sR (n+1) (xp e i t) (lD m i t):=by
 obtain ⟨st,b,r⟩:=h.st
 have hp:=zl (l:=e.2.2.2.1) (i:=i.toNat) t (by omega)
 unfold gy at hl
 refine ⟨h.up,?_,?_,?_,st,?_,r⟩
 · show e.2.2.2.1.set i.toNat t=m.2.2.2.1.set i.toNat t
   rw [h.txn]
 · show (e.2.2.2.1.set i.toNat t).length=3
   rw [List.length_set]
   exact h.len
 · intro x hx
   rcases List.mem_or_eq_of_mem_set hx with q | q
   · exact h.tg x q
   · rw [q];exact ht
 · show BD (n+1) (rx (e.2.2.2.1.set i.toNat t):Int) st e.2.2.1
   exact b.mono (by omega) (by omega) (by omega)
theorem HM:∀ t ∈ List.replicate 3 (Ty.z aK),TG t:=fun t ht=>by
 rw [List.eq_of_mem_replicate ht]
 exact A6 false
theorem Ke {d y:Ty.d aA} (hd:DR d) (hy:DR y) (h:∀ s,fT y s=fT d s) (e:Ty.d aB):dc y e=dc d e:=by
 unfold dc
 rw [iV hd,iV hy,h]
theorem J2 {st st':Ty.d aD} {d y:Ty.d aA} (hd:DR d) (hy:DR y) (h:∀ s,fT y s=fT d s) (s1:dj st d=true) (s2:dj st' y=true) (e:st'.2.1=st.2.1):bX st'.2.1 y=bX st.2.1 d:=by
 rw [ku s1,ku s2,e]
 congr 1
 refine List.map_congr_left fun f _=>?_
 rw [Ke hd hy h]
theorem wg:∀ (l:du) (key:ByteArray),(jq l key).2=0∨(jq l key).2=8
 | [],_ => .inr rfl
 | x::l,key=>by
  rw [show jq (x::l) key=bif seq x.1 key then (x,0) else jq l key from rfl]
  cases seq x.1 key with
  | true=>exact .inl rfl
  | false=>exact wg l key
theorem sR.store {n:Int} {e:Ty.d bO} {m:Ty.d af} (h:sR n e m) (hu:e.1=true):BD n (rx e.2.2.2.1:Int) e.2.1 e.2.2.1∧bX e.2.1.2.1 e.2.2.1=(m.2.1,0)∧@Eq Int e.2.1.2.2.1 m.2.2.1∧dj e.2.1 e.2.2.1=true:=by
 obtain ⟨st,b,r1,r2,r3⟩:=h.st
 rw [← r3 hu] at b r1 r2
 exact ⟨b,r1,r2,b.op.MI.store.1⟩
theorem NU {n:Int} {e:Ty.d bO} {m:Ty.d af} (h:sR n e m) (hu:e.1=true) {s:Ty.d aC} (h0:LE.le (α:=Int) 0 s.2.1) (h1:LT.lt (α:=Int) s.2.1 (e.2.2.2.1.length:Int)):(Jt e s).2=(pA m s).2∧sR (n+1) (Jt e s).1 (pA m s).1:=by
 obtain ⟨b,r1,r2,hs⟩:=h.store hu
 have hg:=Md hs s.2.2.1
 rw [r1] at hg
 have hc:=wg m.2.1 s.2.2.1
 have ht:=h.good s.2.1
 unfold Jt pA
 rw [hg,← h.at_]
 cases eT s.2.2.1 with
 | false=>exact ⟨rfl,h.later⟩
 | true =>
  simp only [fN,aJ]
  cases lL (gy e s.2.1).2.2.1 s.2.2.1 with
  | some p =>
   simp only []
   cases p.2.1 with
   | true=>exact ⟨rfl,h.later⟩
   | false=>exact ⟨rfl,h.later⟩
  | none =>
   simp only []
   unfold Ol w7
   have c3:((jq m.2.1 s.2.2.1).2==3)=false:=by rcases hc with q | q <;> rw [q] <;> rfl
   rw [c3]
   simp only [aJ]
   obtain ⟨t1,t2⟩:=LV ht s.2.2.1 (jq m.2.1 s.2.2.1).1.2.2.1
   cases (iM (gy e s.2.1) s.2.2.1 (jq m.2.1 s.2.2.1).1.2.2.1).2 != 0 with
   | true=>exact ⟨rfl,h.later⟩
   | false=>exact ⟨rfl,h.put h0 h1 t1 (by rw [t2];omega)⟩
theorem NL {n:Int} {e:Ty.d bO} {m:Ty.d af} (h:sR n e m) {s:Ty.d aC} (h0:LE.le (α:=Int) 0 s.2.1) (h1:LT.lt (α:=Int) s.2.1 (e.2.2.2.1.length:Int)):(Jz e s).2=(qU m s).2∧sR (n+1) (Jz e s).1 (qU m s).1:=by
 have ht:=h.good s.2.1
 unfold Jz qU
 rw [← h.at_]
 cases c:dN [lr s] with
 | false=>exact ⟨rfl,h.later⟩
 | true =>
  simp only [fN,aJ]
  obtain ⟨t1,t2⟩:=Jm ht c
  cases (fq (gy e s.2.1) (lr s)).2 with
  | false=>exact ⟨rfl,h.later⟩
  | true=>exact ⟨rfl,h.put h0 h1 t1 t2⟩
theorem H0 {n:Int} {e:Ty.d bO} {m:Ty.d af} (h:sR n e m) (hn:n≤82) (hu:e.1=true) {s:Ty.d aC} (h0:LE.le (α:=Int) 0 s.2.1) (h1:LT.lt (α:=Int) s.2.1 (e.2.2.2.1.length:Int)):(ue e s).2=(mh (lD m s.2.1 lp) (kQ m s.2.1)).2∧sR (n+1) (ue e s).1 (mh (lD m s.2.1 lp) (kQ m s.2.1)).1:=by
 obtain ⟨b,r1,r2,hs⟩:=h.store hu
 have ht:=h.good s.2.1
 have hz:sR (n+1) (xp e s.2.1 lp) (lD m s.2.1 lp):=h.put h0 h1 (A6 false) (Nat.zero_le _)
 have hv:jY (gy e s.2.1).2.1 (pW m.2.1)=jY (gy e s.2.1).2.1 e.2.1.2.1:=by
  have q:=GO hs (gy e s.2.1).2.1
  rw [r1] at q
  exact q
 have hk:gw e.2.1.2.1=m.2.1.map (·.1):=by
  have q:=C5 hs
  rw [r1] at q
  exact q
 have hb:=b.bat
 have hpend:=zl (l:=e.2.2.2.1) (i:=s.2.1.toNat) lp (by omega)
 rw [show e.2.2.2.1.getD s.2.1.toNat (Ty.z aK)=gy e s.2.1 from rfl,show lp.2.2.1.length=0 from rfl] at hpend
 have hnl:=ru (gy e s.2.1).2.2.1
 have hp:=ht.puts
 unfold ue mh
 rw [← h.at_,show (lD m s.2.1 lp).2.1=m.2.1 from rfl,show (lD m s.2.1 lp).2.2.1=m.2.2.1 from rfl,hv]
 cases jY (gy e s.2.1).2.1 e.2.1.2.1 with
 | false=>exact ⟨rfl,hz⟩
 | true =>
  simp only [fN,aJ]
  have ha:=HF hk (gj (gy e s.2.1).2.2.1) m.2.2.1
  unfold pG
  rw [hs,hp,ha]
  simp only [fN,aJ]
  generalize gj (gy e s.2.1).2.2.1=l at hp hnl ha ⊢
  cases c0:((l.length:Int)==0) with
  | true=>exact ⟨rfl,hz⟩
  | false =>
   simp only [aJ]
   cases c1:decide (((m_ m.2.1 l m.2.2.1).length:Int) > 20) with
   | true=>exact ⟨rfl,hz⟩
   | false =>
    simp only [aJ]
    have nk:∀ x:Int,x≤1+n→¬ x > 1000000:=by omega
    rw [aY (nk _ hb),← r2,aY (nk _ hb)]
    simp only [aJ]
    have c1:=of_decide_eq_false c1
    obtain ⟨z,b2,e2⟩:=b.write hn hp (by rw [ha];omega) (by omega)
    have hdump:=GI hs b.op.MI.store.2 hp (by have:=(b.room hn).2.2.2.2;exact this) (by rw [ha];omega) z
    rw [r1] at hdump
    rw [z]
    refine ⟨rfl,?_⟩
    refine ⟨h.up,hz.txn,hz.len,hz.tg,(cN e.2.1 e.2.2.1 l).1,?_,?_,?_,fun _=>rfl⟩
    · show BD (n+1) (rx (e.2.2.2.1.set s.2.1.toNat lp):Int) _ _
      exact b2.mono (by omega) (by omega) (by omega)
    · show bX (cN e.2.1 e.2.2.1 l).1.2.1 (cN e.2.1 e.2.2.1 l).2.1=(m_ m.2.1 l e.2.1.2.2.1,0)
      exact hdump
    · rw [e2]
      show e.2.1.2.2.1+1=aQ (e.2.1.2.2.1+1)
      have nk2:∀ x:Int,x≤1+n→0≤x→aQ (x+1)=x+1:=fun x p q=>aE (by omega) (by omega)
      obtain ⟨_,_,g3⟩:=dM hs
      exact (nk2 _ hb (Int.le_trans (by decide) g3)).symm
theorem LH {n:Int} {e:Ty.d bO} {m:Ty.d af} (h:sR n e m):(m8 e.2.2.1).2.2=0∧sR (n+1) (vg (m8 e.2.2.1)) (true,(m.2.1,(m.2.2.1,(List.replicate 3 (Ty.z aK),())))):=by
 obtain ⟨st,b,r1,r2,r3⟩:=h.st
 obtain ⟨hi,eo,o2,same⟩:=P7 b.op
 have hs:=b.op.MI.store.1
 have hs2:=o2.MI.store.1
 have hd:=J2 b.op.disk o2.disk same hs hs2 rfl
 obtain ⟨L,t,j,lb⟩:=b.op.mi
 have hl:(fT e.2.2.1 (bR st)).isSome=true:=by
  obtain ⟨_,_,k1,_,_⟩:=bm (nx:=st.1.1) (ids:=st.1.2.1) t.live
  have hlast:bj st.1.2.1 ∈ st.1.2.1:=by
   have hs:=m5 k1
   rw [hs]
   exact List.mem_append_right _ (List.mem_singleton.2 (by rw [← hs]))
  obtain ⟨x,hx,_⟩:=(s7 hs).full _ hlast
  rw [show fT e.2.2.1 (bR st)=some x from hx]
  rfl
 have hu:=(wa b.op.rm hl).1.use
 rw [eo]
 refine ⟨rfl,rfl,rfl,rfl,HM,_,⟨o2,?_,b.size,?_,?_,?_,Int.le_refl _⟩,hd.trans r1,r2,fun _=>rfl⟩
 · have h1:=b.pot
   have h0:=b.p0
   show pot st+71*0≤258+71*(n+1)
   omega
 · have h1:=b.use
   have h0:=b.p0
   show (di (dS e.2.2.1 (bR st)).1.1:Int)+421*0≤18000+421*(n+1)
   omega
 · have h1:=b.next
   have h0:=b.p0
   have key:∀ x q:Int,0≤q→x+q≤2+2*n→x+0≤2+2*(n+1):=by omega
   exact key _ _ h0 h1
 · have h1:=b.bat
   have key:∀ x:Int,x≤1+n→x≤1+(n+1):=by omega
   exact key _ h1
theorem Ni {n:Int} {e:Ty.d bO} {m:Ty.d af} (h:sR n e m) (hn:n≤82) (hu:e.1=true) {s:Ty.d aC} (h0:LE.le (α:=Int) 0 s.2.1) (h1:LT.lt (α:=Int) s.2.1 (e.2.2.2.1.length:Int)):(C8 e s).2=(q7 m s).2∧sR (n+1) (C8 e s).1 (q7 m s).1:=by
 unfold C8 q7
 cases c1:s.1==1 with
 | true=>exact ⟨rfl,h.put h0 h1 (A6 true) (Nat.zero_le _)⟩
 | false =>
  simp only [aJ]
  cases c6:s.1==6 with
  | true=>exact ⟨rfl,h.put h0 h1 (A6 false) (Nat.zero_le _)⟩
  | false =>
   simp only [aJ]
   cases c2:s.1==2 with
   | true =>
    have c5:(s.1==5)=false:=by rw [show s.1=(2:Int) from by simpa using c2];rfl
    rw [c5]
    exact NU h hu h0 h1
   | false =>
    cases c5:s.1==5 with
    | true=>exact H0 h hn hu h0 h1
    | false=>exact NL h h0 h1
theorem yc {n:Int} {e:Ty.d bO} {m:Ty.d af} (h:sR n e m) (hn:n≤82) {s:Ty.d aC} (h11:(s.1==11)=false):(mL e s).2=(iF m s).2∧sR (n+1) (mL e s).1 (iF m s).1:=by
 unfold mL iF
 rw [h11,← h.up]
 cases c10:s.1==10 with
 | true =>
  cases up:e.1 with
  | true=>exact ⟨rfl,h.later⟩
  | false =>
   obtain ⟨z,q⟩:=LH h
   simp only [aa,aJ]
   rw [z]
   exact ⟨rfl,q⟩
 | false =>
  simp only [aJ]
  cases up:e.1 with
  | false=>exact ⟨rfl,h.later⟩
  | true =>
   simp only [fN,aJ]
   obtain ⟨b,r1,r2,hs⟩:=h.store up
   cases c7:s.1==7 with
   | true =>
    simp only [aa]
    obtain ⟨z,b2,e2,e3⟩:=b.merge hn
    unfold HC
    rw [z]
    exact ⟨rfl,h.up,h.txn,h.len,h.tg,_,b2,e3.trans r1,(show @Eq Int _ _ from e2).trans r2,fun _=>rfl⟩
   | false =>
    simp only [aJ]
    cases c8:s.1==8 with
    | true =>
     simp only [aa]
     have hk:gw e.2.1.2.1=m.2.1.map (·.1):=by
      have q:=C5 hs
      rw [r1] at q
      exact q
     refine ⟨?_,h.later⟩
     show ((0:Int),(ByteArray.empty,(gw e.2.1.2.1,())))=(0,(ByteArray.empty,(m.2.1.map (·.1),())))
     rw [hk]
    | false =>
     simp only [aJ]
     cases c9:s.1==9 with
     | true =>
      simp only [aa]
      refine ⟨rfl,rfl,rfl,rfl,HM,e.2.1,?_,r1,r2,fun q=>by cases q⟩
      have hp:=b.p0
      exact b.mono (by show (0:Int)-_≤_;omega) (by omega) (Int.le_refl _)
     | false =>
      simp only [aJ]
      have ef:Gx e s=tI m s:=by
       unfold Gx tI
       rw [h.at_,h.txn]
      rw [← ef]
      cases c:Gx e s with
      | false=>exact ⟨rfl,h.later⟩
      | true =>
       simp only [fN,aJ]
       unfold Gx at c
       rw [iA,decide_eq_true_eq] at c
       have k0:LE.le (α:=Int) 0 s.2.1:=c.1.1
       have k1:LE.le (α:=Int) s.2.1 ((e.2.2.2.1.length:Int)-1):=c.1.2
       exact Ni h hn up k0 (by omega)
def Mg:Ty.d aD:=(rZ,([],(1,(0,(0,())))))
theorem Lu:∃ d,m8 (ml 100000)=(Mg,(d,0))∧OP Mg d∧di d.1≤211:=by
 have hr:=PO
 have hn:j9 (a_ aF 1)=true:=vp ⟨by omega,by omega⟩
 have e0:lk [] (ml 100000)=(ml 100000,0):=by
  unfold lk vP
  rw [jL.2 hr.disk]
  rfl
 have hx:bS (ml 100000).1 (a_ aF 1)=none:=rfl
 obtain ⟨a1,a2⟩:=M7 hr (by omega) hn hx
 obtain ⟨b1,b2⟩:=uO a1 (by omega) (by omega) rZ
 have a3:fT (qX (ml 100000) (a_ aF 1)).1 (a_ aF 1)=some ByteArray.empty:=Nt a2
 have b3:fT (bB rZ (qX (ml 100000) (a_ aF 1)).1).1 (a_ aF 1)=some ByteArray.empty:=(fb (iJ ⟨by omega,by omega⟩) (jG ⟨by omega,by omega⟩)).trans a3
 have b4:=qj a1.disk b2
 have b5:=qv a1.disk b2
 have e1:ni (ml 100000)=bB rZ (qX (ml 100000) (a_ aF 1)).1:=by
  unfold ni
  rw [e0,oF (r:=(ml 100000,0)) rfl,oF a2]
 have on:∀ s,(fT (bB rZ (qX (ml 100000) (a_ aF 1)).1).1 s).isSome=true→s=gP∨(∃ x ∈ [(1:Int)],s=a_ aF x)∨s=a_ bM 1:=fun s hs=>by
  by_cases q1:s=gP
  · exact .inl q1
  by_cases q2:s=a_ aF 1
  · exact .inr (.inl ⟨1,ii,q2⟩)
  exfalso
  by_cases q3:s=iH
  · rw [q3,b5] at hs
    cases hs
  rw [fb (fun q=>q3 q.symm) (fun q=>q1 q.symm),Lv (fun q=>q2 q.symm)] at hs
  cases hs
 have e2:m8 (ml 100000)=yr (ml 100000):=by
  unfold m8
  have e:(bG (ml 100000) gP).2=false:=by unfold bG;rw [jL.2 hr.disk];rfl
  rw [jL.2 hr.disk,e]
  rfl
 refine ⟨(bB rZ (qX (ml 100000) (a_ aF 1)).1).1,?_,?_,b1.use⟩
 · rw [e2]
   unfold yr
   rw [e1,b2]
   rfl
 · refine OP.of ⟨[(1,[])],⟨by decide,b1.disk,rfl,fun x hx=>?_,fun t q=>?_⟩,⟨⟨0,rfl⟩,rfl,fun p hp=>(by cases hp),show (1:Int)≤1 by decide,show (1:Int)≤1000001 by decide⟩,.inl rfl⟩ ⟨on,b4⟩ (E9 b1)
   · rw [List.mem_singleton.1 hx]
     exact ⟨b3,fun r hr=>by cases hr⟩
   · have q:fT (bB rZ (qX (ml 100000) (a_ aF 1)).1).1 (a_ aF 1)=some t:=q
     rw [b3] at q
     rw [← Option.some.inj q]
     rfl
def pb:Ty.d af:=(true,([],(1,(List.replicate 3 (Ty.z aK),()))))
theorem y7:(m8 (ml 100000)).2.2=0∧sR 0 (vg (m8 (ml 100000))) pb:=by
 obtain ⟨d,e,o,u⟩:=Lu
 have hs:=o.MI.store.1
 rw [e]
 refine ⟨rfl,rfl,rfl,rfl,HM,Mg,⟨o,show pot Mg+71*0≤258+71*0 by decide,by decide,?_,show (2:Int)+0≤2+2*0 by decide,by decide,Int.le_refl _⟩,?_,rfl,fun _=>rfl⟩
 · show (di d.1:Int)+421*0≤18000+421*0
   omega
 · show bX Mg.2.1 d=([],0)
   rw [ku hs]
   rfl
theorem sR.mv {n:Int} {e:Ty.d bO} {m:Ty.d af} (h:sR n e m):MV m:=by
 obtain ⟨st,b,r1,_⟩:=h.st
 have hs:=b.op.MI.store.1
 obtain ⟨_,g2,_⟩:=dM hs
 have e1:m.2.1.length=st.2.1.length:=by
  rw [ku hs] at r1
  have:=congrArg (fun q:du × Int=>q.1.length) r1
  simp only [List.length_map] at this
  exact this.symm
 refine ⟨by omega,?_,?_⟩
 · rw [← h.txn,h.len]
   omega
 · rw [← h.txn]
   exact fun t ht=>(h.tg t ht).tv
def gZ:Ty.d af→List (Ty.d aC)→Ty.d af × List (Ty.d aG)
 | m,[]=>(m,[])
 | m,s::l=>((gZ (iF m s).1 l).1,(iF m s).2::(gZ (iF m s).1 l).2)
noncomputable def lg:Ty.d bO→List (Ty.d aC)→Ty.d bO × List (Ty.d aG)
 | e,[]=>(e,[])
 | e,s::l=>((lg (mL e s).1 l).1,(mL e s).2::(lg (mL e s).1 l).2)
theorem Hu:∀ (l:List (Ty.d aC)) {n:Int} {e:Ty.d bO} {m:Ty.d af},sR n e m→n+(l.length:Int)≤82→(∀ s ∈ l,(s.1==11)=false)→(lg e l).2=(gZ m l).2∧sR (n+(l.length:Int)) (lg e l).1 (gZ m l).1
 | [],n,e,m,h,_,_=>⟨rfl,by rw [List.length_nil,Int.natCast_zero,Int.add_zero];exact h⟩
 | s::l,n,e,m,h,hn,h11=>by
  rw [jj,Int.natCast_succ] at hn ⊢
  obtain ⟨a,b⟩:=yc h (by omega) (h11 s ii)
  obtain ⟨x,y⟩:=Hu l b (by omega) fun q hq=>h11 q (kR _ hq)
  refine ⟨?_,?_⟩
  · show (mL e s).2::(lg (mL e s).1 l).2=(iF m s).2::(gZ (iF m s).1 l).2
    rw [a,x]
  · show sR _ (lg (mL e s).1 l).1 (gZ (iF m s).1 l).1
    rw [show n+((l.length:Int)+1)=n+1+(l.length:Int) by omega]
    exact y
end Go.Proofs.YtbgnhoggngbhhaaGreatDoor.G

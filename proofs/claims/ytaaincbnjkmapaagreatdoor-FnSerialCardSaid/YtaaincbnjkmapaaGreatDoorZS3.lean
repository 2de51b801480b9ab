/- Plain laws, merged; what is proved here is told ahead of each part. -/
import Derived.Test.YtaaincbnjkmapaaGreatDoorZS2
set_option linter.unusedVariables false
set_option linter.unusedSimpArgs false
namespace Go.Proofs.YtaaincbnjkmapaaGreatDoor.G
open Go.V
abbrev LI:=aR × Int × Int
def jM (pre:ag) (p:Ty.d aL) (s:LI):LI :=
 bif p.2.2.2.1.1==3 then (bif jr p.2.2.2.1 (fh p.2.2.2.1.2.1 pre) then (cZ s.1 (fh p.2.2.2.1.2.1 pre),oP p.2.2.2.1.2.1 s.2.1,o8 (cZ s.1 (fh p.2.2.2.1.2.1 pre)) s.2.2) else (s.1,oP p.2.2.2.1.2.1 s.2.1,s.2.2)) else
 bif p.2.2.2.1.1==5 then (bif jr p.2.2.2.1 (cB pre) then (cZ s.1 (cB pre),oP p.2.2.2.1.2.1 s.2.1,o8 (cZ s.1 (cB pre)) s.2.2) else (s.1,oP p.2.2.2.1.2.1 s.2.1,1)) else
 (s.1,oP p.2.2.2.1.2.1 s.2.1,s.2.2)
def gr (pre:ag):ag→LI→LI
 | [],s=>s
 | p::r,s=>bif s.2.2 != 0 then s else gr (pre++[p]) r (jM pre p s)
theorem DZ {pre:ag} {s:LI} (h:s.2.2≠0):∀ r:ag,gr pre r s=s
 | []=>rfl
 | p::r=>by unfold gr;rw [show (s.2.2 != 0)=true from bne_iff_ne.2 h];rfl
theorem JE (pre:ag) (p:Ty.d aL) (r:ag) (s:LI):gr pre (p::r) s=bif s.2.2 != 0 then s else gr (pre++[p]) r (jM pre p s):=rfl
theorem sw:∀ (a b pre:ag) (s:LI),gr pre (a++b) s=gr (pre++a) b (gr pre a s)
 | [],b,pre,s=>by rw [List.append_nil];rfl
 | p::a,b,pre,s=>by
  rw [List.cons_append,JE,JE pre p a];by_cases c:s.2.2=0
  · rw [show (s.2.2 != 0)=false by rw [c];rfl,aJ,aJ,sw a b,oK];rfl
  · rw [show (s.2.2 != 0)=true from bne_iff_ne.2 c,aa,aa];exact (DZ c _).symm
theorem rZ (all:ag):∀ (r:ag) (i:Nat) (d:aR) (la c:Int),all.drop i=r→i≤all.length →
 lW all r i d la c=(let s:=gr (all.take i) r (d,la,c);bif s.2.2==0&&decide ((cB all).length > 0) then (s.1,(s.2.1,(1,()))) else (s.1,(s.2.1,(s.2.2,()))))
 | [],i,d,la,c,_,_=>rfl
 | p::r,i,d,la,c,h,hi=>by
  have hlt:i<all.length:=by have:=congrArg List.length h;rw [List.length_drop,j7] at this;omega
  have ht:all.take (i+1)=all.take i++[p]:=by
   have e:all[i]=p:=by
    have:=List.drop_eq_getElem_cons hlt;rw [h] at this;injection this with w _;exact w.symm
   rw [List.take_succ_eq_append_getElem hlt,e]
  have hd:all.drop (i+1)=r:=by rw [← List.drop_drop,h];rfl
  have ih:=fun d' la' c'=>rZ all r (i+1) d' la' c' hd hlt
  unfold lW gr;by_cases c0:c=0
  · subst c0;simp only [bne_self_eq_false,aJ];rw [← ht];unfold jM;cases p.2.2.2.1.1==3 with
    | true =>simp only [aa];cases jr p.2.2.2.1 (fh p.2.2.2.1.2.1 (all.take i)) <;> exact ih _ _ _
    | false =>
     simp only [aJ];cases p.2.2.2.1.1==5 with
     | true =>simp only [aa];cases jr p.2.2.2.1 (cB (all.take i)) <;> exact ih _ _ _
     | false=>exact ih _ _ _
  · have e1:(c != 0)=true:=bne_iff_ne.2 c0;have e2:(c==0)=false:=qi c0;simp only [e1,aa,e2,Bool.false_and,aJ]
theorem Hz {pl:ag} {d:aR} {la:Int} (h:gr [] pl ([],0,0)=(d,la,0)) (hm:cB pl=[]):ia ([],(0,(0,()))) pl=(d,(la,(0,()))):=by have e:ia ([],(0,(0,()))) pl=(bif (gr [] pl ([],0,0)).2.2==0&&decide ((cB pl).length > 0) then ((gr [] pl ([],0,0)).1,((gr [] pl ([],0,0)).2.1,(1,()))) else ((gr [] pl ([],0,0)).1,((gr [] pl ([],0,0)).2.1,((gr [] pl ([],0,0)).2.2,())))):=rZ pl pl 0 [] 0 0 rfl (Nat.zero_le _);rw [e,h,hm];rfl
theorem A8 {g:aR} {la0:Int} {pl:ag} (h:(ia (g,(la0,(0,()))) pl).2.2.1=0):gr [] pl (g,la0,0)=((ia (g,(la0,(0,()))) pl).1,(ia (g,(la0,(0,()))) pl).2.1,0)∧cB pl=[]:=by
 have e:=rZ pl pl 0 g la0 0 rfl (Nat.zero_le _);have e:ia (g,(la0,(0,()))) pl=(let s:=gr [] pl (g,la0,0);bif s.2.2==0&&decide ((cB pl).length > 0) then (s.1,(s.2.1,(1,()))) else (s.1,(s.2.1,(s.2.2,())))):=e;rw [e] at h ⊢;generalize gr [] pl (g,la0,0)=s at h ⊢;obtain ⟨a,b,c⟩:=s;simp only [] at h ⊢;cases q:(c==0&&decide ((cB pl).length > 0)) with
 | true=>rw [q] at h;exact absurd h (by show (1:Int)≠0;decide)
 | false =>rw [q] at h;simp only [aJ] at h ⊢;subst h;refine ⟨rfl,?_⟩;simp only [beq_self_eq_true,Bool.true_and,decide_eq_false_iff_not] at q;exact List.length_eq_zero_iff.1 (by omega)
theorem mZ (l m:ag):cB (l++m)=m.foldl gq (cB l):=by unfold cB;rw [List.foldl_append]
theorem yG (b:Int) (l m:ag):fh b (l++m)=m.foldl (fk b) (fh b l):=by unfold fh;rw [List.foldl_append]
def plain (p:Ty.d aL):Prop:=p.2.2.2.1.1=1∨p.2.2.2.1.1=2
theorem FX {p:Ty.d aL} (h:plain p):(p.2.2.2.1.1==3)=false∧(p.2.2.2.1.1==4)=false∧(p.2.2.2.1.1==5)=false∧(p.2.2.2.1.1==1||p.2.2.2.1.1==2)=true:=by
 rcases h with q | q <;> rw [q] <;> exact ⟨rfl,rfl,rfl,rfl⟩
theorem zo:∀ (q pre:ag) (d:aR) (la:Int),(∀ p ∈ q,plain p)→∃ la',gr pre q (d,la,0)=(d,la',0)
 | [],_,d,la,_=>⟨la,rfl⟩
 | p::q,pre,d,la,h=>by
  obtain ⟨h3,h4,h5,_⟩:=FX (h p il);obtain ⟨la',e⟩:=zo q (pre++[p]) d (oP p.2.2.2.1.2.1 la) fun x hx=>h x (kS _ hx)
  refine ⟨la',?_⟩;unfold gr jM;rw [h3,h5];exact e
theorem zR:∀ (q:ag) (acc:ag),(∀ p ∈ q,p.2.2.2.1.1≠4∧p.2.2.2.1.1≠5)→q.foldl gq acc=acc
 | [],_,_=>rfl
 | p::q,acc,h=>by
  obtain ⟨h4,h5⟩:=h p il;rw [List.foldl_cons,show gq acc p=acc by unfold gq;rw [qi h4,qi h5];rfl];exact zR q acc fun x hx=>h x (kS _ hx)
theorem A0 {b:Int}:∀ (q:ag) (acc:ag),(∀ p ∈ q,p.2.2.2.1.2.1≠b)→q.foldl (fk b) acc=acc
 | [],_,_=>rfl
 | p::q,acc,h=>by
  rw [List.foldl_cons,show fk b acc p=acc by unfold fk;rw [qi (h p il)];rfl];exact A0 q acc fun x hx=>h x (kS _ hx)
theorem FB {b:Int}:∀ (q:ag) (acc:ag),(∀ p ∈ q,plain p∧p.2.2.2.1.2.1=b)→q.foldl (fk b) acc=acc++q
 | [],acc,_=>(List.append_nil acc).symm
 | p::q,acc,h=>by obtain ⟨h1,h2⟩:=h p il;obtain ⟨h3,h4,h5,h6⟩:=FX h1;rw [List.foldl_cons,show fk b acc p=acc++[p] by unfold fk;rw [h2,beq_self_eq_true,h3,h6];rfl];rw [FB q (acc++[p]) fun x hx=>h x (kS _ hx),oK];rfl
theorem xn {b:Int}:∀ (l:ag) (acc:ag),(∀ p ∈ acc,plain p)→∀ p ∈ l.foldl (fk b) acc,plain p∧(p ∈ acc∨p ∈ l)
 | [],acc,h,p,hp=>⟨h p hp,.inl hp⟩
 | x::l,acc,h,p,hp=>by
  rw [List.foldl_cons] at hp;have hs:∀ q ∈ fk b acc x,plain q∧(q ∈ acc∨q=x):=fun q hq=>by
   unfold fk at hq;cases c1:x.2.2.2.1.2.1==b with
   | false=>rw [c1] at hq;exact ⟨h q hq,.inl hq⟩
   | true =>
    rw [c1,aa] at hq;cases c2:x.2.2.2.1.1==3 with
    | true=>rw [c2] at hq;cases hq
    | false =>
     rw [c2,aJ] at hq;cases c3:x.2.2.2.1.1==1||x.2.2.2.1.1==2 with
     | false=>rw [c3] at hq;exact ⟨h q hq,.inl hq⟩
     | true =>
      rw [c3,aa] at hq;rcases List.mem_append.1 hq with w | w
      · exact ⟨h q w,.inl w⟩
      · rw [List.mem_singleton.1 w];simp only [Bool.or_eq_true,beq_iff_eq] at c3;exact ⟨c3,.inr rfl⟩
  obtain ⟨g1,g2⟩:=xn l (fk b acc x) (fun q hq=>(hs q hq).1) p hp;refine ⟨g1,?_⟩;rcases g2 with w | w
  · rcases (hs p w).2 with v | v
    · exact .inl v
    · rw [v];exact .inr il
  · exact .inr (kS _ w)
theorem yF:∀ (l:ag) (acc:ag),(∀ p ∈ acc,p.2.2.2.1.1=4)→∀ p ∈ l.foldl gq acc,p.2.2.2.1.1=4∧(p ∈ acc∨p ∈ l)
 | [],acc,h,p,hp=>⟨h p hp,.inl hp⟩
 | x::l,acc,h,p,hp=>by
  rw [List.foldl_cons] at hp;have hs:∀ q ∈ gq acc x,q.2.2.2.1.1=4∧(q ∈ acc∨q=x):=fun q hq=>by
   unfold gq at hq;cases c2:x.2.2.2.1.1==5 with
   | true=>rw [c2] at hq;cases hq
   | false =>
    rw [c2,aJ] at hq;cases c3:x.2.2.2.1.1==4 with
    | false=>rw [c3] at hq;exact ⟨h q hq,.inl hq⟩
    | true =>
     rw [c3,aa] at hq;rcases List.mem_append.1 hq with w | w
     · exact ⟨h q w,.inl w⟩
     · rw [List.mem_singleton.1 w];exact ⟨yd c3,.inr rfl⟩
  obtain ⟨g1,g2⟩:=yF l (gq acc x) (fun q hq=>(hs q hq).1) p hp;refine ⟨g1,?_⟩;rcases g2 with w | w
  · rcases (hs p w).2 with v | v
    · exact .inl v
    · rw [v];exact .inr il
  · exact .inr (kS _ w)
def EP (pl:ag) (d:aR):Prop:=∀ e ∈ d,∃ p ∈ pl,e=dc p∧(p.2.2.2.1.1=1∨p.2.2.2.1.1=4)
theorem Ar {pl:ag}:∀ (own:ag) {d:aR},EP pl d→(∀ p ∈ own,p ∈ pl∧(p.2.2.2.1.1=1∨p.2.2.2.1.1=2∨p.2.2.2.1.1=4))→EP pl (cZ d own)
 | [],d,h,_=>h
 | p::own,d,h,ho=>by
  refine Ar own (d:=gF d p) (fun e he=>?_) fun q hq=>ho q (kS _ hq)
  obtain ⟨k1,k2⟩:=ho p il;unfold gF at he;cases c:p.2.2.2.1.1==2 with
  | true=>rw [c,aa] at he;exact h e (List.mem_filter.1 he).1
  | false =>
   rw [c,aJ] at he;unfold rA at he;rcases JD he with w | w
   · refine ⟨p,k1,w,?_⟩;rcases k2 with q | q | q
     · exact .inl q
     · rw [q] at c;cases c
     · exact .inr q
   · exact h e (List.mem_filter.1 w).1
theorem P3 (all:ag):∀ (r pre:ag) (s:LI),(∀ p ∈ pre,p ∈ all)→(∀ p ∈ r,p ∈ all)→EP all s.1→cW (iD s.1)→s.1.length≤20→(gr pre r s).2.2=0→EP all (gr pre r s).1∧cW (iD (gr pre r s).1)∧(gr pre r s).1.length≤20
 | [],pre,s,_,_,h1,h2,h3,_=>⟨h1,h2,h3⟩
 | p::r,pre,s,hp,hr,h1,h2,h3,z=>by
  by_cases c:s.2.2=0
  · have e:gr pre (p::r) s=gr (pre++[p]) r (jM pre p s):=by
     show (bif s.2.2 != 0 then _ else _)=_;rw [c];rfl
    rw [e] at z ⊢;have z0:(jM pre p s).2.2=0:=by
     by_cases w:(jM pre p s).2.2=0
     · exact w
     · rw [DZ w] at z;exact absurd z w
    have hs:EP all (jM pre p s).1∧cW (iD (jM pre p s).1)∧(jM pre p s).1.length≤20:=by
     have hc:∀ {x:aR},o8 x s.2.2=0→x.length≤20:=fun {x} q=>by
      unfold o8 at q;split at q
      · cases q
      · omega
     unfold jM at z0 ⊢;cases c3:p.2.2.2.1.1==3 with
     | true =>
      rw [c3] at z0;simp only [aa] at z0 ⊢;cases c4:jr p.2.2.2.1 (fh p.2.2.2.1.2.1 pre) with
      | true =>
       rw [c4] at z0;exact ⟨Ar _ h1 fun q hq=>by
        obtain ⟨g1,g2⟩:=xn pre [] (fun _ w=>by cases w) q hq;refine ⟨hp q (g2.resolve_left fun w=>by cases w),?_⟩;rcases g1 with w | w
        · exact .inl w
        · exact .inr (.inl w),rX _ h2,hc z0⟩
      | false=>exact ⟨h1,h2,h3⟩
     | false =>
      rw [c3] at z0;simp only [aJ] at z0 ⊢;cases c5:p.2.2.2.1.1==5 with
      | true =>
       rw [c5] at z0;simp only [aa] at z0 ⊢;cases c4:jr p.2.2.2.1 (cB pre) with
       | true =>
        rw [c4] at z0;exact ⟨Ar _ h1 fun q hq=>by
         obtain ⟨g1,g2⟩:=yF pre [] (fun _ w=>by cases w) q hq;exact ⟨hp q (g2.resolve_left fun w=>by cases w),.inr (.inr g1)⟩,rX _ h2,hc z0⟩
       | false=>exact ⟨h1,h2,h3⟩
      | false=>exact ⟨h1,h2,h3⟩
    exact P3 all r (pre++[p]) (jM pre p s) (fun q hq=>by
     rcases List.mem_append.1 hq with w | w
     · exact hp q w
     · rw [List.mem_singleton.1 w];exact hr p il) (fun q hq=>hr q (kS _ hq)) hs.1 hs.2.1 hs.2.2 z
  · rw [DZ c] at z;exact absurd z c
theorem Q3 (a b:Int):a≤oP a b∧b≤oP a b:=by unfold oP;split <;> omega
theorem KB (pre:ag) (p:Ty.d aL) (s:LI):(jM pre p s).2.1=oP p.2.2.2.1.2.1 s.2.1:=by
 unfold jM;cases p.2.2.2.1.1==3
 · cases p.2.2.2.1.1==5
   · rfl
   · cases jr p.2.2.2.1 (cB pre) <;> rfl
 · cases jr p.2.2.2.1 (fh p.2.2.2.1.2.1 pre) <;> rfl
theorem wJ:∀ (r pre:ag) (s:LI),(gr pre r s).2.2=0→s.2.1≤(gr pre r s).2.1∧(∀ p ∈ r,LE.le (α:=Int) p.2.2.2.1.2.1 (gr pre r s).2.1)∧∀ b:Int,s.2.1≤b→(∀ p ∈ r,LE.le (α:=Int) p.2.2.2.1.2.1 b)→(gr pre r s).2.1≤b
 | [],pre,s,_=>⟨Int.le_refl _,fun p hp=>(by cases hp),fun b h _=>h⟩
 | p::r,pre,s,z=>by
  by_cases c:s.2.2=0
  · have e:gr pre (p::r) s=gr (pre++[p]) r (jM pre p s):=by
     show (bif s.2.2 != 0 then _ else _)=_;rw [c];rfl
    rw [e] at z ⊢;obtain ⟨i1,i2,i3⟩:=wJ r (pre++[p]) (jM pre p s) z;rw [KB] at i1 i3;have hm:=Q3 p.2.2.2.1.2.1 s.2.1;refine ⟨by omega,fun q hq=>?_,fun b h0 hb=>i3 b ?_ fun q hq=>hb q (kS _ hq)⟩
    · rcases List.mem_cons.1 hq with w | w
      · rw [w];exact Int.le_trans hm.1 i1
      · exact i2 q w
    · have:=hb p il;unfold oP;split
      · exact this
      · exact h0
  · rw [DZ c] at z;exact absurd z c
structure JT (pl:ag) (dir:aR) (b:Int):Prop where
 gr:∃ la,gr [] pl ([],0,0)=(dir,la,0)
 mark:cB pl=[]
 bat:∀ p ∈ pl,LT.lt (α:=Int) p.2.2.2.1.2.1 b
 lo:LE.le (α:=Int) 1 b
 hi:LE.le (α:=Int) b 1000001
def MI (st:Ty.d aE) (d:Ty.d aA):Prop:=∃ L,TX st d L∧JT (jV L) st.2.1 st.2.2.1
theorem O9 {r:Ty.d bf} (h:bg r=true) (hk:r.1=1∨r.1=4):gB r.2.2.1=true∧decide ((1:Int)≤r.2.1∧r.2.1≤1000000)=true:=by
 have hb:(r.1==1||r.1==4)=true:=by rcases hk with q | q <;> rw [q] <;> rfl
 unfold bg at h;rw [hb,aa] at h;simp only [iE] at h;exact ⟨h.1,h.2.2.2.2⟩
theorem MI.store {st:Ty.d aE} {d:Ty.d aA} (h:MI st d):dw st d=true∧EI st:=by
 obtain ⟨L,t,j⟩:=h;obtain ⟨la,hg⟩:=j.gr;obtain ⟨n1,n2,n3,_⟩:=gY (n:=st.1.1) (ids:=st.1.2.1) t.live;obtain ⟨_,_,g1,_,_⟩:=bo (nx:=st.1.1) (ids:=st.1.2.1) t.live;obtain ⟨e1,e2,e3⟩:=P3 (jV L) (jV L) [] ([],0,0) (fun p hp=>by cases hp) (fun p hp=>hp) (fun e he=>by cases he) List.Pairwise.nil (by decide) (by rw [hg]);rw [hg] at e1 e2 e3;have e1:EP (jV L) st.2.1:=e1;have e2:cW (iD st.2.1):=e2;have e3:st.2.1.length≤20:=e3;have hb:=t.bt;refine ⟨?_,fun e he=>?_⟩
 · unfold dw;rw [jX.2 t.disk,t.live,vp.2 ⟨e3,fun e he=>?_,e2⟩,aW ⟨j.lo,j.hi⟩,(wQ t.disk).2 ⟨hb.full,fun _=>hb.tail⟩]
   · simp only [Bool.true_and];rw [List.all_eq_true];intro e he;obtain ⟨p,hp,q,hk⟩:=e1 e he;have pi:=zj t hp;unfold pc;rw [q,pi.read];have hbt:=j.bat p hp;show (true&&(seq (gO p).2.2.1 (gO p).2.2.1&&(((gO p).2.1==(gO p).2.1)&&((((gO p).1==1)||((gO p).1==4))&&!decide ((gO p).2.1≥st.2.2.1)))))=true;rw [bQ,beq_self_eq_true,aY (show ¬ (gO p).2.1≥st.2.2.1 from Int.not_le.2 hbt)];rcases hk with w | w
     · rw [show (gO p).1=1 from w];rfl
     · rw [show (gO p).1=4 from w];rfl
   · obtain ⟨p,hp,q,hk⟩:=e1 e he;have pi:=zj t hp;obtain ⟨k1,k2⟩:=O9 pi.ok hk;rw [q];unfold P4;show (gB (gO p).2.2.1&&(decide ((1:Int)≤p.1∧p.1≤100000)&&(!decide (p.2.1<(0:Int))&&(decide ((1:Int)≤p.2.2.1∧p.2.2.1≤210)&&decide ((1:Int)≤(gO p).2.1∧(gO p).2.1≤1000000)))))=true;rw [k1,k2,aW ⟨pi.lo,FE pi.hi n2⟩,aY (Int.not_lt.2 pi.at0),aW ⟨pi.len0,pi.len1⟩];rfl
 · obtain ⟨p,hp,q,_⟩:=e1 e he;have pi:=zj t hp;rw [q];exact ⟨pi.lo,pi.hi⟩
theorem yh {ids:List Int} {L:s9} (h:ids=L.map (·.1)) (h1:1≤ids.length):∃ L0 x,L=L0++[x]∧bi ids=x.1:=by
 rcases List.eq_nil_or_concat L with e | ⟨L0,x,e⟩
 · rw [h,e] at h1;cases h1
 · rw [List.concat_eq_append] at e;refine ⟨L0,x,e,?_⟩;rw [h,e,List.map_append,List.map_singleton,ug]
theorem Fy (x:Int) (rs:ja) (r:Ty.d bf):uD (x,rs++[r])=uD (x,rs)++[(x,(((aU rs).size:Int),(ar r,(r,()))))]:=by unfold uD bZ;show List.map _ (fG (rs++[r]) 0)=List.map _ (fG rs 0)++_;rw [DD,List.map_append,Int.zero_add];rfl
theorem AW (L:s9) (x:Int × ja):jV (L++[x])=jV L++uD x:=by rw [J2];show jV L++(uD x++[])=_;rw [List.append_nil]
theorem NA {st:Ty.d aE} {d:Ty.d aA} {L:s9} (h:TX st d L) {r:Ty.d bf} (hr:bg r=true) :
 ∃ L',TX (ip st d r).1.1 (ip st d r).1.2.1 L'∧jV L'=jV L++(bif (ip st d r).1.2.2==0 then [(ip st d r).2] else [])∧((ip st d r).1.2.2=0→gO (ip st d r).2=r):=by
 obtain ⟨n1,n2,n3,n4⟩:=gY (n:=st.1.1) (ids:=st.1.2.1) h.live;obtain ⟨_,_,g1,_,_⟩:=bo (nx:=st.1.1) (ids:=st.1.2.1) h.live;obtain ⟨L0,x,eL,el⟩:=yh h.ids g1;have ha:=qs h.disk (bT st) (aS (aI r));have ko:∀ s,bT st≠s→fT (jS d (bT st) (aS (aI r))).1 s=fT d s:=fun s q=>uz q
 have kl:=rR (d:=d) (s:=bT st) (x:=aS (aI r));have hact:bT st=a_ aG x.1:=by unfold bT;rw [el]
 unfold ip;generalize jS d (bT st) (aS (aI r))=a at ha ko kl ⊢;cases c:a.2 != 0 with
 | true =>
  have c0:(a.2==0)=false:=by unfold bne at c;simpa using c
  rw [c0,aJ] at kl;have all:∀ s,fT a.1 s=fT d s:=fun s=>by
   by_cases q:bT st=s
   · rw [← q];exact kl
   · exact ko s q
  have ht:((tl a).2==0)=false:=by have:=m4 a;rw [c] at this;unfold bne at this;simpa using this
  refine ⟨L,⟨h.live,ha,h.ids,fun y hy=>⟨(all _).trans (h.text y hy).1,(h.text y hy).2⟩,fun t q=>h.tail t ((all _).symm.trans q)⟩,?_,fun q=>?_⟩
  · show jV L=jV L++(bif (tl a).2==0 then _ else []);rw [ht,aJ,List.append_nil]
  · have q:(tl a).2=0:=q;rw [q] at ht;cases ht
 | false =>
  have c0:(a.2==0)=true:=beq_iff_eq.2 (fJ c);have hx:x ∈ L:=by rw [eL];exact List.mem_append_right _ il
  obtain ⟨x1,x2⟩:=h.text x hx;rw [c0,aa,hact,x1] at kl;have kl:fT a.1 (a_ aG x.1)=some (aU x.2++aS (aI r)):=kl;have e2:aU (x.2++[r])=aU x.2++aS (aI r):=by rw [nn,zM]
  have hsz:st.2.2.2.1=((aU x.2).size:Int):=h.tail _ (by rw [hact];exact x1);have hm:x.1 ∈ st.1.2.1:=by rw [h.ids];exact List.mem_map.2 ⟨x,hx,rfl⟩
  simp only [aJ];refine ⟨L0++[(x.1,x.2++[r])],⟨h.live,ha,?_,fun y hy=>?_,fun t q=>?_⟩,?_,fun _=>rfl⟩
  · show st.1.2.1=_;rw [h.ids,eL,List.map_append,List.map_append];rfl
  · rcases List.mem_append.1 hy with w | w
    · have hyL:y ∈ L:=by rw [eL];exact List.mem_append_left _ w
      have hym:y.1 ∈ st.1.2.1:=by rw [h.ids];exact List.mem_map.2 ⟨y,hyL,rfl⟩
      have hne:y.1≠x.1:=by have hp:=n4;rw [h.ids,eL,List.map_append] at hp;have:=(List.pairwise_append.1 hp).2.2 y.1 (List.mem_map.2 ⟨y,w,rfl⟩) x.1 il;omega
      refine ⟨?_,(h.text y hyL).2⟩;show fT a.1 (a_ aG y.1)=_;rw [ko _ (by rw [hact];exact q9 ⟨(n3 _ hm).1,FE (n3 _ hm).2 n2⟩ ⟨(n3 _ hym).1,FE (n3 _ hym).2 n2⟩ fun q=>hne q.symm)];exact (h.text y hyL).1
    · rw [List.mem_singleton.1 w];refine ⟨by show fT a.1 (a_ aG x.1)=some (aU (x.2++[r]));rw [kl,e2],fun q hq=>?_⟩;rcases List.mem_append.1 hq with v | v
      · exact x2 q v
      · rw [List.mem_singleton.1 v];exact hr
  · have q:fT a.1 (bT st)=some t:=q;rw [hact,kl] at q;rw [← Option.some.inj q,ByteArray.size_append];show @Eq Int (st.2.2.2.1+ar r) (((aU x.2).size+(aS (aI r)).size:Nat):Int);rw [hsz];unfold ar;omega
  · show jV (L0++[(x.1,x.2++[r])])=jV L++[(bi st.1.2.1,(st.2.2.2.1,(ar r,(r,()))))];rw [AW,Fy,eL,AW,oK,el,hsz]
theorem QN {st:Ty.d aE} {d:Ty.d aA} {L:s9} (h:TX st d L):∃ L',TX (iC st d).1 (iC st d).2.1 L'∧jV L'=jV L:=by
 obtain ⟨n1,n2,n3,n4⟩:=gY (n:=st.1.1) (ids:=st.1.2.1) h.live;obtain ⟨f1,f2,_,_⟩:=tu h.live h.disk;have hseg:∀ x:Int,x ∈ st.1.2.1→1≤x∧x≤100000:=fun x hx=>⟨(n3 x hx).1,FE (n3 x hx).2 n2⟩
 have hnew:∀ x ∈ st.1.2.1,a_ aG st.1.1≠a_ aG x:=fun x hx=>q9 ⟨n1,n2⟩ (hseg x hx) (by have:=(n3 x hx).2;omega)
 have k1:∀ x ∈ st.1.2.1,fT (dY d (bT st)).1 (a_ aG x)=fT d (a_ aG x):=fun x hx=>lH
 have k2:∀ x ∈ st.1.2.1,fT (ax (a_ aG st.1.1) (dY d (bT st)).1).1 (a_ aG x)=fT d (a_ aG x):=fun x hx=>(lf (hnew x hx)).trans lH
 have k3:∀ x ∈ st.1.2.1,fT (bE (kw st) (ax (a_ aG st.1.1) (dY d (bT st)).1).1).1 (a_ aG x)=fT d (a_ aG x):=fun x hx=>(fo (ig (hseg x hx)) (jW (hseg x hx))).trans (k2 x hx)
 have o2:=lw (s:=a_ aG st.1.1) (d:=(dY d (bT st)).1);have o3:fT (bE (kw st) (ax (a_ aG st.1.1) (dY d (bT st)).1).1).1 (a_ aG st.1.1)=fT (ax (a_ aG st.1.1) (dY d (bT st)).1).1 (a_ aG st.1.1):=fo (ig ⟨n1,n2⟩) (jW ⟨n1,n2⟩);obtain ⟨_,_,g1,_,_⟩:=bo (nx:=st.1.1) (ids:=st.1.2.1) h.live;obtain ⟨L0,x,eL,el⟩:=yh h.ids g1;have hmem:∀ y ∈ L,y.1 ∈ st.1.2.1:=fun y hy=>by rw [h.ids];exact List.mem_map.2 ⟨y,hy,rfl⟩
 have hx:x ∈ L:=by rw [eL];exact List.mem_append_right _ il
 have same:∀ (st':Ty.d aE) (y:Ty.d aA),dz st'.1=true→DR y→st'.1.2.1=st.1.2.1→st'.2.2.2.1=st.2.2.2.1→(∀ x ∈ st.1.2.1,fT y (a_ aG x)=fT d (a_ aG x))→∃ L',TX st' y L'∧jV L'=jV L:=fun st' y hl hd hi hs hk =>
  ⟨L,⟨hl,hd,hi.trans h.ids,fun z hz=>⟨(hk _ (hmem z hz)).trans (h.text z hz).1,(h.text z hz).2⟩,fun t q=>by
   rw [hs];refine h.tail t ?_;have e:bT st'=a_ aG x.1:=by unfold bT;rw [hi,el]
   have e':bT st=a_ aG x.1:=by unfold bT;rw [el]
   rw [e,hk _ (hmem x hx)] at q;rw [e'];exact q⟩,rfl⟩
 unfold iC at f1 f2 ⊢;by_cases c1:(st.1.2.1.length:Int)≥60
 · rw [aW c1];exact ⟨L,h,rfl⟩
 by_cases c2:st.1.1≥(100000:Int)
 · rw [aY c1,aW c2];exact ⟨L,h,rfl⟩
 rw [aY c1,aY c2] at f1 f2 ⊢;simp only [aJ] at f1 f2 ⊢;generalize dY d (bT st)=r1 at k1 k2 k3 o2 o3 f1 f2 ⊢;generalize ax (a_ aG st.1.1) r1.1=r2 at k2 k3 o2 o3 f1 f2 ⊢;generalize bE (kw st) r2.1=r3 at k3 o3 f1 f2 ⊢;cases e1:r1.2 != 0 with
 | true=>rw [e1] at f1 f2;exact same _ _ f1 f2 rfl rfl k1
 | false =>
  rw [e1] at f1 f2;simp only [aJ] at f1 f2 ⊢;cases e2:r2.2 != 0 with
  | true=>rw [e2] at f1 f2;exact same _ _ f1 f2 rfl rfl k2
  | false =>
   rw [e2] at f1 f2;simp only [aJ] at f1 f2 ⊢;cases e3:r3.2 != 0 with
   | true =>
    rw [e3] at f1 f2;refine same _ _ f1 f2 rfl rfl fun y hy=>?_
    show fT (qt (a_ aG st.1.1) (tl r3)).1 _=_;unfold qt;cases (tl r3).2==2 with
    | false=>exact k3 y hy
    | true =>
     refine (oo [ib,a_ aG st.1.1] r3.1 fun s hs=>?_).trans (k3 y hy);rcases List.mem_cons.1 hs with e | e
     · rw [e];exact ig (hseg y hy)
     · rw [List.mem_singleton.1 e];exact hnew y hy
   | false =>
    rw [e3] at f1 f2;have o2:=o2 (fJ e2);refine ⟨L++[(st.1.1,[])],⟨f1,f2,?_,fun y hy=>?_,fun u hu=>?_⟩,?_⟩
    · show st.1.2.1++[st.1.1]=_;rw [List.map_append,← h.ids];rfl
    · rcases List.mem_append.1 hy with w | w
      · exact ⟨(k3 _ (hmem y w)).trans (h.text y w).1,(h.text y w).2⟩
      · rw [List.mem_singleton.1 w];exact ⟨o3.trans o2,fun q hq=>by cases hq⟩
    · have hu:fT r3.1 (a_ aG (bi (st.1.2.1++[st.1.1])))=some u:=hu;rw [ug,o3,o2] at hu;rw [← Option.some.inj hu];rfl
    · rw [AW];exact List.append_nil _
theorem Ps {st:Ty.d aE} {d:Ty.d aA} {L:s9} (h:TX st d L) {r:Ty.d bf} (hr:bg r=true) :
 ∃ L',TX (eW st d r).1.1 (eW st d r).1.2.1 L'∧jV L'=jV L++(bif (eW st d r).1.2.2==0 then [(eW st d r).2] else [])∧((eW st d r).1.2.2=0→gO (eW st d r).2=r):=by
 unfold eW;cases decide (st.2.2.2.1 > 0)&&decide (st.2.2.2.1+ar r > 200) with
 | false=>exact NA h hr
 | true =>
  simp only [aa];obtain ⟨L1,t1,e1⟩:=QN h;generalize iC st d=q at t1 ⊢;cases c:q.2.2 != 0 with
  | true =>
   have c0:(q.2.2==0)=false:=by unfold bne at c;simpa using c
   refine ⟨L1,t1,?_,fun z=>?_⟩
   · show jV L1=jV L++(bif q.2.2==0 then _ else []);rw [c0,aJ,List.append_nil,e1]
   · have z:q.2.2=0:=z;rw [z] at c0;cases c0
  | false =>simp only [aJ];obtain ⟨L2,t2,e2,e3⟩:=NA t1 hr;exact ⟨L2,t2,by rw [e2,e1],e3⟩
theorem EY:∀ (l:ja) (st:Ty.d aE) (d:Ty.d aA) (ps:ag) (L:s9),TX st d L→(∀ r ∈ l,bg r=true) →
 ∃ L' q,TX (dC l st d ps).1.1 (dC l st d ps).1.2.1 L'∧jV L'=jV L++q∧q.map gO=l.take q.length∧((dC l st d ps).1.2.2=0→(dC l st d ps).2=ps++q∧q.length=l.length)∧((dC l st d ps).1.2.2≠0→q.length<l.length)
 | [],st,d,ps,L,h,_=>⟨L,[],h,(List.append_nil _).symm,rfl,fun _=>⟨(List.append_nil _).symm,rfl⟩,fun z=>absurd rfl z⟩
 | r::l,st,d,ps,L,h,hr=>by
  obtain ⟨L1,t1,e1,e2⟩:=Ps h (hr r il);unfold dC;generalize eW st d r=a at t1 e1 e2 ⊢;cases c:a.1.2.2 != 0 with
  | true =>
   have c0:(a.1.2.2==0)=false:=by unfold bne at c;simpa using c
   rw [c0,aJ] at e1;refine ⟨L1,[],t1,e1,rfl,fun z=>?_,fun _=>Nat.zero_lt_succ _⟩;have z:a.1.2.2=0:=z;rw [z] at c0;cases c0
  | false =>
   have c0:=fJ c;rw [show (a.1.2.2==0)=true from beq_iff_eq.2 c0,aa] at e1;obtain ⟨L2,q,t2,f1,f2,f3,f4⟩:=EY l a.1.1 a.1.2.1 (ps++[a.2]) L1 t1 fun x hx=>hr x (kS _ hx)
   simp only [aJ];refine ⟨L2,a.2::q,t2,by rw [f1,e1,oK];rfl,?_,fun z=>?_,fun z=>?_⟩
   · rw [List.map_cons,j7,List.take_succ_cons,f2,e2 c0]
   · obtain ⟨g1,g2⟩:=f3 z;exact ⟨by rw [g1,oK];rfl,by rw [j7,j7,g2]⟩
   · have:=f4 z;rw [j7,j7];omega
theorem OJ {d:Ty.d aA} {a b:ByteArray} (hd:DR d) (hab:a≠b) (z:(xS d a b).2=0):fT (xS d a b).1 a=none:=by
 obtain ⟨c1,c2⟩:=nL z;unfold fT;show (bU (iQ d (wB a b)).1.1 a).map _=_;rw [c2];unfold wB at c1 ⊢;cases c3:jQ b with
 | false=>rw [c3] at c1;exact absurd c1 (by show (5:Int)≠0;decide)
 | true =>
  rw [c3] at c1;simp only [fw,aJ] at c1 ⊢;cases c4:bU d.1 a with
  | none=>rw [c4] at c1;exact absurd c1 (by show (3:Int)≠0;decide)
  | some f =>simp only [];rw [kZ hab,aJ];show (bU (kv (gi (gi d.1 a) b) (b,f.2)) a).map _=_;rw [AG (f:=(b,f.2)) (fun q=>hab q.symm),ym hab,pA hd.keys a];rfl
structure DS (d:Ty.d aA):Prop where
 l:d.1.length≤131
 u:du d.1≤200000
 n:uO d.1≤10000
theorem DS.sz {d:Ty.d aA} (h:DS d):F3 d:=⟨by have:=h.l;omega,by have:=h.u;omega,by have:=h.n;omega⟩
theorem D5 (ids:List Int):∀ (l:bq) (acc:List ByteArray),sy ids l acc=acc++(l.filter (ou ids)).map (·.1)
 | [],acc=>(List.append_nil acc).symm
 | f::l,acc=>by
  unfold sy;rw [D5 ids l,List.filter_cons];cases ou ids f with
  | true=>rw [aa,if_pos rfl,List.map_cons,oK];rfl
  | false=>rw [aJ,if_neg (by decide)]
theorem Kh (st:Ty.d aE) (d:Ty.d aA):(iC st d).1.2.2.1=st.2.2.1:=by
 unfold iC;cases decide ((st.1.2.1.length:Int)≥60) with
 | true=>rfl
 | false =>
  cases decide (st.1.1≥(100000:Int)) with
  | true=>rfl
  | false =>
   simp only [aJ];generalize dY d (bT st)=r1;generalize ax (a_ aG st.1.1) r1.1=r2;generalize bE (kw st) r2.1=r3;cases r1.2 != 0 with
   | true=>rfl
   | false =>
    cases r2.2 != 0 with
    | true=>rfl
    | false =>
     cases r3.2 != 0 with
     | true=>rfl
     | false=>rfl
theorem Cv (st:Ty.d aE) (d:Ty.d aA) (r:Ty.d bf):(ip st d r).1.1.2.2.1=st.2.2.1:=by unfold ip;generalize jS d (bT st) (aS (aI r))=a;cases a.2 != 0 <;> rfl
theorem Ku (st:Ty.d aE) (d:Ty.d aA) (r:Ty.d bf):(eW st d r).1.1.2.2.1=st.2.2.1:=by
 have h:=Kh st d;unfold eW;cases decide (st.2.2.2.1 > 0)&&decide (st.2.2.2.1+ar r > 200) with
 | false=>exact Cv st d r
 | true =>
  simp only [aa];generalize iC st d=q at h ⊢;cases q.2.2 != 0 with
  | true=>exact h
  | false=>exact (Cv q.1 q.2.1 r).trans h
theorem ut:∀ (l:ja) (st:Ty.d aE) (d:Ty.d aA) (ps:ag),(dC l st d ps).1.1.2.2.1=st.2.2.1
 | [],_,_,_=>rfl
 | r::l,st,d,ps=>by
  have h:=Ku st d r;unfold dC;generalize eW st d r=q at h ⊢;cases q.1.2.2 != 0 with
  | true=>exact h
  | false=>exact (ut l _ _ _).trans h
theorem MB (l:eU) (b:Int):(da l b).length=l.length+1:=by unfold da;rw [nE,List.length_map];rfl
def dn (d:Ty.d aA):Bool:=d.2.2.2.1
theorem Kw {d:Ty.d aA} {n t:ByteArray} (hd:DR d) (ht:fT d n=some t) (z:(dY d n).2≠0):dn (dY d n).1=true:=by
 have hn:(bU d.1 n).isNone=false:=by
  cases q:bU d.1 n with
  | none=>rw [En.1 q] at ht;cases ht
  | some f=>rfl
 unfold dY iQ at z ⊢;have hb:(m6 d).2≠0→dn (m6 d).1=true:=fun q=>by
  unfold m6 at q ⊢;rw [jX.2 hd] at q ⊢;simp only [fw,aJ] at q ⊢;cases c1:d.2.2.2.1 with
  | true=>rfl
  | false =>
   rw [c1] at q;simp only [aJ] at q ⊢;cases c2:(d.2.2.1==0) with
   | true=>rfl
   | false =>
    rw [c2] at q;simp only [aJ] at q;cases c3:decide ((d.2.2.1:Int) > 0) with
    | true=>rw [c3] at q;exact absurd rfl q
    | false=>rw [c3] at q;exact absurd rfl q
 cases c:(m6 d).2 != 0 with
 | true =>rw [aa];exact hb (bne_iff_ne.1 c)
 | false =>rw [c,aJ] at z;exfalso;unfold wC at z;rw [hn] at z;exact z rfl
theorem LO {st:Ty.d aE} {d:Ty.d aA} {L:s9} (h:TX st d L):∃ t,fT d (bT st)=some t:=by obtain ⟨_,_,g1,_,_⟩:=bo (nx:=st.1.1) (ids:=st.1.2.1) h.live;obtain ⟨L0,x,eL,el⟩:=yh h.ids g1;exact ⟨_,by unfold bT;rw [el];exact (h.text x (by rw [eL];exact List.mem_append_right _ il)).1⟩
theorem xa (b:Int) (x:Ty.d aM):((gx b x).1=1∨(gx b x).1=2)∧(gx b x).2.1=b:=by
 unfold gx;cases x.2.1 with
 | true=>exact ⟨.inr rfl,rfl⟩
 | false=>exact ⟨.inl rfl,rfl⟩
theorem ub {q:ag} {l:eU} {b:Int} {n:Nat} (h:q.map gO=(l.map (gx b)).take n):∀ p ∈ q,plain p∧p.2.2.2.1.2.1=b:=fun p hp=>by
 have hm:gO p ∈ (l.map (gx b)).take n:=by rw [← h];exact List.mem_map.2 ⟨p,hp,rfl⟩
 obtain ⟨x,_,e⟩:=List.mem_map.1 (List.mem_of_mem_take hm);obtain ⟨h1,h2⟩:=xa b x;rw [e] at h1 h2;exact ⟨h1,h2⟩
theorem Kj {pre own:ag} {s:Ty.d aL} {l:eU} {b:Int} {dir:aR} {la:Int} (hp:∀ p ∈ pre,p.2.2.2.1.2.1≠b) (ho:own.map gO=l.map (gx b)) (hs:gO s=i_ 3 b (l.map (gx b))) (h20:(cZ dir own).length≤20) :
 ∃ la',jM (pre++own) s (dir,la,0)=(cZ dir own,la',0):=by
 have hown:∀ p ∈ own,plain p∧p.2.2.2.1.2.1=b:=ub (n:=(l.map (gx b)).length) (by rw [List.take_length];exact ho);have hk:s.2.2.2.1=i_ 3 b (l.map (gx b)):=hs;have e:fh b (pre++own)=own:=by rw [yG];show own.foldl (fk b) (pre.foldl (fk b) [])=_;rw [A0 pre [] hp,FB own [] hown,List.nil_append]
 have hf:jr (i_ 3 b (l.map (gx b))) own=true:=by unfold jr i_;have:own.map BP=l.map (gx b):=ho;rw [this,beq_self_eq_true,← ho,List.length_map,beq_self_eq_true];rfl
 refine ⟨oP b la,?_⟩;unfold jM;rw [hk];show (bif (3:Int)==3 then (bif jr (i_ 3 b (l.map (gx b))) (fh b (pre++own)) then (cZ dir (fh b (pre++own)),oP b la,o8 (cZ dir (fh b (pre++own))) 0) else _) else _)=_;rw [e,hf];show (cZ dir own,oP b la,o8 (cZ dir own) 0)=_;unfold o8;rw [if_neg (by omega)]
theorem N4 {st:Ty.d aE} {d:Ty.d aA} {l:eU} (h:MI st d) (hp:eF l=true) (hb:LE.le (α:=Int) st.2.2.1 1000000) (ha:oC st.2.1 l≤20) (hn:dn (cN st d l).2.1=false):MI (cN st d l).1 (cN st d l).2.1:=by
 obtain ⟨hs,he⟩:=h.store;have hw:=xm hs he hp hb ha;obtain ⟨L,t,j⟩:=h;obtain ⟨la,hg⟩:=j.gr;have t0:TX (lP st) d L:=⟨t.live,t.disk,t.ids,t.text,t.tail⟩;obtain ⟨L',q,t1,e1,e2,e3,e4⟩:=EY (da l st.2.2.1) (lP st) d [] L t0 (oO hp j.lo hb);have hdir:(dC (da l st.2.2.1) (lP st) d []).1.1.2.1=st.2.1:=by obtain ⟨g1,_,_⟩:=dT hs;exact (uo (da l st.2.2.1) (lP st) d [] 100000 ⟨g1.live,g1.disk,g1.lo,g1.hi⟩ (by decide)).2.1
 have hbat:(dC (da l st.2.2.1) (lP st) d []).1.1.2.2.1=(st.2.2.1+1:Int):=ut _ _ _ _;have hlen:=MB l st.2.2.1;obtain ⟨b1,b2⟩:=Qm j.lo hb;have hbq:∀ p ∈ q,p.2.2.2.1.2.1=st.2.2.1:=fun p hp=>by
  have hm:gO p ∈ da l st.2.2.1:=List.mem_of_mem_take (by rw [← e2];exact List.mem_map.2 ⟨p,hp,rfl⟩);unfold da at hm;rcases List.mem_append.1 hm with w | w
  · obtain ⟨x,_,e⟩:=List.mem_map.1 w;have:=(xa st.2.2.1 x).2;rw [e] at this;exact this
  · have:=List.mem_singleton.1 w;show (gO p).2.1=_;rw [this];rfl
 have hbat2:∀ p ∈ jV L',LT.lt (α:=Int) p.2.2.2.1.2.1 (st.2.2.1+1):=fun p hp=>by
  rw [e1] at hp;rcases List.mem_append.1 hp with w | w
  · exact Int.lt_trans (j.bat p w) (Int.lt_succ _)
  · rw [hbq p w];exact Int.lt_succ _
 have hmark:∀ q':ag,(∀ p ∈ q',p ∈ q)→cB (jV L++q')=[]:=fun q' hq=>by
  rw [mZ,j.mark];refine zR q' [] fun p hp=>?_
  have hm:gO p ∈ da l st.2.2.1:=List.mem_of_mem_take (by rw [← e2];exact List.mem_map.2 ⟨p,hq p hp,rfl⟩);unfold da at hm;rcases List.mem_append.1 hm with w | w
  · obtain ⟨x,_,e⟩:=List.mem_map.1 w;have:=(xa st.2.2.1 x).1;rw [e] at this;have this:p.2.2.2.1.1=1∨p.2.2.2.1.1=2:=this;rcases this with v | v <;> rw [v] <;> exact ⟨by decide,by decide⟩
  · have:=List.mem_singleton.1 w;have e:p.2.2.2.1.1=3:=by
     show (gO p).1=3;rw [this];rfl
    rw [e];exact ⟨by decide,by decide⟩
 have some:q.length≤l.length→JT (jV L') st.2.1 (st.2.2.1+1):=fun hq=>by
  have e2':q.map gO=(l.map (gx st.2.2.1)).take q.length:=by rw [e2];unfold da;rw [List.take_append_of_le_length (by rw [List.length_map];exact hq)]
  obtain ⟨la',hla⟩:=zo q (jV L) st.2.1 la fun p hp=>(ub e2' p hp).1
  refine ⟨⟨la',?_⟩,by rw [e1];exact hmark q fun p hp=>hp,hbat2,b1,b2⟩;rw [e1,sw,hg];exact hla
 unfold cN at hn hw ⊢;generalize dC (da l st.2.2.1) (lP st) d []=a at t1 e3 e4 hdir hbat hn hw ⊢;unfold yP at hn hw ⊢;cases c:a.1.2.2 != 0 with
 | true =>have hlt:=e4 (bne_iff_ne.1 c);refine ⟨L',t1,?_⟩;show JT (jV L') a.1.1.2.1 a.1.1.2.2.1;rw [hdir,hbat];exact some (by omega)
 | false =>
  rw [c] at hn hw;simp only [aJ] at hn hw ⊢;obtain ⟨f1,f2⟩:=e3 (fJ c);obtain ⟨tt,ht⟩:=LO t1;have hsd:=fun z=>Kw t1.disk ht z
  have hsf:∀ s,fT (dY a.1.2.1 (bT a.1.1)).1 s=fT a.1.2.1 s:=fun s=>lH
  have hsD:=mj t1.disk (bT a.1.1);generalize dY a.1.2.1 (bT a.1.1)=y at hn hw hsd hsf hsD ⊢;cases c2:y.2 != 0 with
  | true =>rw [c2] at hn;have hn:dn y.1=false:=hn;rw [hsd (bne_iff_ne.1 c2)] at hn;cases hn
  | false =>
   rw [c2] at hw;simp only [aJ] at hw ⊢;obtain ⟨s1,_⟩:=hw trivial;have h20:=qo s1;refine ⟨L',⟨t1.live,hsD,t1.ids,fun x hx=>⟨(hsf _).trans (t1.text x hx).1,(t1.text x hx).2⟩,fun t q=>t1.tail t ((hsf _).symm.trans q)⟩,?_⟩;show JT (jV L') (cZ a.1.1.2.1 (a.2.take l.length)) a.1.1.2.2.1;have h20:(cZ a.1.1.2.1 (a.2.take l.length)).length≤20:=h20;rw [hdir,f1,List.nil_append] at h20;rw [hdir,hbat,f1,List.nil_append];have hq1:q.length=l.length+1:=by omega
   obtain ⟨own,s,eq⟩:∃ own s,q=own++[s]:=by
    rcases List.eq_nil_or_concat q with w | ⟨a',b',w⟩
    · rw [w] at hq1;cases hq1
    · exact ⟨a',b',by rw [w,List.concat_eq_append]⟩
   subst eq;have ho1:own.length=l.length:=by rw [nE,List.length_singleton] at hq1;omega
   have et:(own++[s]).take l.length=own:=by rw [← ho1];exact List.take_left
   rw [et] at h20 ⊢;have e2f:(own++[s]).map gO=da l st.2.2.1:=by rw [e2,f2,List.take_length]
   rw [List.map_append] at e2f;unfold da at e2f;obtain ⟨m1,m2⟩:=List.append_inj e2f (by rw [List.length_map,List.length_map];exact ho1);have m2:gO s=i_ 3 st.2.2.1 (l.map (gx st.2.2.1)):=(List.cons.inj m2).1;have hown:∀ p ∈ own,plain p∧p.2.2.2.1.2.1=st.2.2.1:=ub (n:=(l.map (gx st.2.2.1)).length) (by rw [List.take_length];exact m1);obtain ⟨la1,hla1⟩:=zo own (jV L) st.2.1 la fun p hp=>(hown p hp).1
   obtain ⟨la2,hla2⟩:=Kj (pre:=jV L) (own:=own) (s:=s) (dir:=st.2.1) (la:=la1) (fun p hp=>Int.ne_of_lt (j.bat p hp)) m1 m2 h20;refine ⟨⟨la2,?_⟩,by rw [e1];exact hmark _ fun p hp=>hp,hbat2,b1,b2⟩;rw [e1,sw,hg];show gr (jV L) (own++[s]) (st.2.1,la,0)=_;rw [sw,hla1];exact hla2
theorem Gn {a b:Int} (h:a≤b):∀ (l:List Int) (p:Option Int),qM (qd a) p l=true→qM (qd b) p l=true
 | [],_,_=>rfl
 | x::l,p,q=>by unfold qM at q ⊢;rw [iE] at q ⊢;refine ⟨?_,Gn h l (some x) q.2⟩;have q1:=q.1;unfold qd at q1 ⊢;rw [iE,decide_eq_true_eq] at q1 ⊢;exact ⟨⟨q1.1.1,Int.le_trans q1.1.2 h⟩,q1.2⟩
theorem Je {n:Int} {ids:List Int} (h:dz (n,(ids,()))=true) (hn:n+2≤100000):dz (n+2,(ids,()))=true:=by obtain ⟨g1,g2,_⟩:=bo h;unfold dz at h ⊢;simp only [iE,decide_eq_true_eq] at h ⊢;rw [aF (n:=n+2-1) (by omega) (by omega)];rw [aF (n:=n-1) (by omega) (by omega)] at h;exact ⟨⟨show (1:Int)≤n+2 by omega,show n+2≤(100000:Int) from hn⟩,h.2.1,Gn (by omega) _ _ h.2.2⟩
theorem zV:∀ (q pre:ag) (d:aR) (la:Int),(∀ p ∈ q,p.2.2.2.1.1≠3∧p.2.2.2.1.1≠5)→∃ la',gr pre q (d,la,0)=(d,la',0)
 | [],_,d,la,_=>⟨la,rfl⟩
 | p::q,pre,d,la,h=>by
  obtain ⟨h3,h5⟩:=h p il;obtain ⟨la',e⟩:=zV q (pre++[p]) d (oP p.2.2.2.1.2.1 la) fun x hx=>h x (kS _ hx)
  refine ⟨la',?_⟩;unfold gr jM;rw [qi h3,qi h5];exact e
theorem uw:∀ (q acc:ag),(∀ p ∈ q,p.2.2.2.1.1=4)→q.foldl gq acc=acc++q
 | [],acc,_=>(List.append_nil acc).symm
 | p::q,acc,h=>by
  have e:gq acc p=acc++[p]:=by unfold gq;rw [h p il];rfl
  rw [List.foldl_cons,e,uw q (acc++[p]) fun x hx=>h x (kS _ hx),oK];rfl
theorem J6 {dir:aR} {e:Ty.d aC} (h:∀ x ∈ dir,nd x.1 e.1=true):rA dir e=dir++[e]:=by
 have h1:m0 dir e.1=dir:=by
  unfold m0;refine List.filter_eq_self.2 fun x hx=>?_
  have hs:=h x hx;cases c:seq x.1 e.1 with
  | false=>rfl
  | true =>rw [db.1 c] at hs;exact absurd hs (by rw [nM];decide)
 unfold rA vE;rw [h1];obtain ⟨w1,w2⟩:=Bv (p:=OR e.1) (l:=dir) fun x hx=>by unfold OR;rw [h x hx];rfl
 rw [w1,w2]
theorem xp (m:Int):∀ (l:bV) (a:Int) (dir:aR),cW (iD dir++l.map (·.1))→cZ dir (bZ m (fG (l.map cJ) a))=dir++ic m l a
 | [],a,dir,_=>(List.append_nil dir).symm
 | p::l,a,dir,h=>by
  have e0:gF dir (m,(a,(ar (cJ p),(cJ p,()))))=dir++[(p.1,(m,(a,(ar (cJ p),(p.2.2.1,())))))]:=by
   unfold gF;show rA dir (p.1,(m,(a,(ar (cJ p),(p.2.2.1,())))))=_;refine J6 fun x hx=>?_
   rw [List.map_cons] at h;exact (List.pairwise_append.1 h).2.2 x.1 (List.mem_map.2 ⟨x,hx,rfl⟩) p.1 il
  show cZ (gF dir (m,(a,(ar (cJ p),(cJ p,()))))) (bZ m (fG (l.map cJ) (a+ar (cJ p))))=_;rw [e0,xp m l (a+ar (cJ p)) _ (by
   unfold iD;rw [List.map_append,oK];exact h),oK]
  rfl
theorem DO {st:Ty.d aE} {d:Ty.d aA} (h:dw st d=true):(∀ r ∈ fV (bY st.2.1 d).1 (st.2.2.1-1),bg r=true)∧∀ p ∈ (bY st.2.1 d).1,LT.lt (α:=Int) p.2.2.1 st.2.2.1:=by
 obtain ⟨k1,k2⟩:=xB h;obtain ⟨b1,b2⟩:=A7 h;have h20:=qo h;have hz:=tW st.2.1 d;refine ⟨fun r hr=>?_,fun p hp=>?_⟩
 · unfold fV at hr;rcases List.mem_append.1 hr with q | q
   · obtain ⟨p,hp,rfl⟩:=List.mem_map.1 q;exact k1 p hp
   · rw [List.mem_singleton.1 q];have hs:=JB ((bY st.2.1 d).1.map cJ);unfold bg i_;rw [show ((5:Int)==1||(5:Int)==4)=false from rfl,show ((5:Int)==2)=false from rfl,show ((5:Int)==3)=false from rfl,show ((5:Int)==5)=true from rfl];simp only [aJ,aa];rw [aW (show (0:Int)≤(((bY st.2.1 d).1.map cJ).length:Int)∧(((bY st.2.1 d).1.map cJ).length:Int)≤20 by rw [List.length_map];omega),aW hs,aW (OY b1 b2),show seq ByteArray.empty ⟨#[]⟩=true from bQ _];rfl
 · rw [lK h] at hp;obtain ⟨e,he,rfl⟩:=List.mem_map.1 hp;unfold dw at h;simp only [iE] at h;have hin:=List.all_eq_true.1 h.2.2.2.2.2 e he;unfold pc at hin;simp only [iE,beq_iff_eq,Bool.not_eq_true',decide_eq_false_iff_not] at hin;show LT.lt (α:=Int) (dq d e).1.2.1 st.2.2.1;rw [hin.2.2.1];exact Int.not_le.1 hin.2.2.2.2
theorem CB {pre:ag} {p:Ty.d aL} {dir:aR} {la:Int} (hk:p.2.2.2.1.1=5) (hf:jr p.2.2.2.1 (cB pre)=true) (h20:(cZ dir (cB pre)).length≤20):jM pre p (dir,la,0)=(cZ dir (cB pre),oP p.2.2.2.1.2.1 la,0):=by unfold jM;rw [hk,show ((5:Int)==3)=false from rfl,aJ,show ((5:Int)==5)=true from rfl,aa,hf,aa];show (cZ dir (cB pre),oP p.2.2.2.1.2.1 la,o8 (cZ dir (cB pre)) 0)=_;unfold o8;rw [if_neg (by omega)]
theorem OB {m b:Int} {l:bV} (hk:cW (l.map (·.1))) (h20:l.length≤20) (hb:∀ p ∈ l,LT.lt (α:=Int) p.2.2.1 b) (b1:LE.le (α:=Int) 1 b) (b2:LE.le (α:=Int) b 1000001):JT (jV [(m,fV l (b-1)),(m+1,[])]) (ic m l 0) b:=by
 have e0:jV [(m,fV l (b-1)),(m+1,[])]=bZ m (fG (l.map cJ) 0)++[(m,(((aU (l.map cJ)).size:Int),(ar (i_ 5 (b-1) (l.map cJ)),(i_ 5 (b-1) (l.map cJ),()))))]:=by show uD (m,fV l (b-1))++([]++[])=_;rw [List.append_nil,List.append_nil];unfold fV;exact Fy m (l.map cJ) _
 have hq:∀ p ∈ bZ m (fG (l.map cJ) 0),p.2.2.2.1 ∈ l.map cJ:=fun p hp=>by
  have:∀ (rs:ja) (a:Int),∀ x ∈ fG rs a,x.2.2.1 ∈ rs:=by
   intro rs
   induction rs with
   | nil=>exact fun a x hx=>by cases hx
   | cons r rs ih =>
    intro a x hx;rw [fG] at hx;rcases List.mem_cons.1 hx with w | w
    · rw [w];exact il
    · exact kS _ (ih _ x w)
  unfold bZ at hp;obtain ⟨x,hx,rfl⟩:=List.mem_map.1 hp;exact this _ _ x hx
 have h4:∀ p ∈ bZ m (fG (l.map cJ) 0),p.2.2.2.1.1=4∧LT.lt (α:=Int) p.2.2.2.1.2.1 b:=fun p hp=>by obtain ⟨x,hx,e⟩:=List.mem_map.1 (hq p hp);rw [← e];exact ⟨rfl,hb x hx⟩
 have hrec:∀ (rs:ja) (a:Int),(bZ m (fG rs a)).map BP=rs:=by
  intro rs
  induction rs with
  | nil=>exact fun _=>rfl
  | cons r rs ih =>intro a;show r::(bZ m (fG rs (a+ar r))).map BP=_;rw [ih]
 have hown:cB (bZ m (fG (l.map cJ) 0))=bZ m (fG (l.map cJ) 0):=by unfold cB;rw [uw _ _ fun p hp=>(h4 p hp).1,List.nil_append]
 have hf:jr (i_ 5 (b-1) (l.map cJ)) (bZ m (fG (l.map cJ) 0))=true:=by
  have hl:(bZ m (fG (l.map cJ) 0)).length=(l.map cJ).length:=by have:=congrArg List.length (hrec (l.map cJ) 0);rw [List.length_map] at this;exact this
  unfold jr i_;rw [hrec,hl,beq_self_eq_true,beq_self_eq_true];rfl
 have ha:cZ [] (bZ m (fG (l.map cJ) 0))=ic m l 0:=by rw [xp m l 0 [] hk,List.nil_append]
 rw [e0];obtain ⟨la,hla⟩:=zV (bZ m (fG (l.map cJ) 0)) [] [] 0 fun p hp=>by rw [(h4 p hp).1];exact ⟨by decide,by decide⟩
 generalize bZ m (fG (l.map cJ) 0)=pl at h4 hown hf ha hla ⊢;refine ⟨⟨oP (b-1) la,?_⟩,?_,fun p hp=>?_,b1,b2⟩
 · rw [sw,hla,List.nil_append];have e:=CB (pre:=pl) (p:=(m,(((aU (l.map cJ)).size:Int),(ar (i_ 5 (b-1) (l.map cJ)),(i_ 5 (b-1) (l.map cJ),()))))) (dir:=[]) (la:=la) rfl (by rw [hown];exact hf) (by rw [hown,ha,A5];exact h20);rw [hown,ha] at e;exact e
 · rw [mZ];rfl
 · rcases List.mem_append.1 hp with w | w
   · exact (h4 p w).2
   · rw [List.mem_singleton.1 w];show LT.lt (α:=Int) (b-1) b;exact Int.sub_lt_self b (by decide)
theorem HX {hb:ByteArray→ByteArray} {st:Ty.d aE} {d:Ty.d aA} {l:bV} (hl:dz st.1=true) (hd:DR d) (hn:LE.le (α:=Int) (st.1.1+2) 100000) :
 ((cS hb st d l).1=pY st∧DR (cS hb st d l).2.1∧∀ x ∈ st.1.2.1,fT (cS hb st d l).2.1 (a_ aG x)=fT d (a_ aG x)) ∨
 ((cS hb st d l).1=(fu st.1.1,(ic st.1.1 l 0,(st.2.2.1,(0,(0,())))))∧DR (cS hb st d l).2.1∧fT (cS hb st d l).2.1 (a_ aG st.1.1)=some (aU (fV l (st.2.2.1-1)))∧fT (cS hb st d l).2.1 (a_ aG (st.1.1+1))=some ByteArray.empty):=by
 obtain ⟨n1,n2,n3,_⟩:=gY (n:=st.1.1) (ids:=st.1.2.1) hl;have hm:(1:Int)≤st.1.1∧st.1.1≤(100000:Int):=⟨n1,n2⟩;have hm1:LE.le (α:=Int) 1 (st.1.1+1)∧LE.le (α:=Int) (st.1.1+1) 100000:=⟨by omega,by omega⟩;have hseg:∀ x:Int,x ∈ st.1.2.1→1≤x∧x≤100000:=fun x hx=>⟨(n3 x hx).1,FE (n3 x hx).2 n2⟩
 have no1:∀ x ∈ st.1.2.1,a_ aG st.1.1≠a_ aG x:=fun x hx=>q9 hm (hseg x hx) (by have:=(n3 x hx).2;omega)
 have no2:∀ x ∈ st.1.2.1,a_ aG (st.1.1+1)≠a_ aG x:=fun x hx=>q9 hm1 (hseg x hx) (by have:=(n3 x hx).2;omega)
 have no3:∀ x ∈ st.1.2.1,a_ bO st.1.1≠a_ aG x:=fun x hx=>m9 hm (hseg x hx)
 have no4:a_ aG (st.1.1+1)≠a_ aG st.1.1:=q9 hm1 hm (by omega);have dropK:∀ (r:RD),DR r.1→(∀ x ∈ st.1.2.1,fT r.1 (a_ aG x)=fT d (a_ aG x))→DR (n_ (lI st.1.1) r).1∧∀ x ∈ st.1.2.1,fT (n_ (lI st.1.1) r).1 (a_ aG x)=fT d (a_ aG x):=fun r hr k=>by
  unfold n_;cases r.2==2 with
  | false=>exact ⟨hr,k⟩
  | true =>
   refine ⟨k9 _ _ hr,fun x hx=>(oo _ _ fun s hs=>?_).trans (k x hx)⟩;unfold lI at hs;rcases List.mem_cons.1 hs with e | e
   · rw [e];exact ig (hseg x hx)
   rcases List.mem_cons.1 e with e | e
   · rw [e];exact no1 x hx
   rcases List.mem_cons.1 e with e | e
   · rw [e];exact no2 x hx
   · rw [List.mem_singleton.1 e];exact no3 x hx
 have a0:DR (dQ st.1.1 l (st.2.2.1-1) d).1:=sM _ _ _ hd;have a1:∀ x ∈ st.1.2.1,fT (dQ st.1.1 l (st.2.2.1-1) d).1 (a_ aG x)=fT d (a_ aG x):=fun x hx=>zt (no1 x hx)
 have a2:(dQ st.1.1 l (st.2.2.1-1) d).2=0→fT (dQ st.1.1 l (st.2.2.1-1) d).1 (a_ aG st.1.1)=some (aU (fV l (st.2.2.1-1))):=fun z=>by
  unfold dQ at z ⊢;obtain ⟨z1,z2,_⟩:=lD z;rw [z2];rw [lH];have z0:(ax (a_ aG st.1.1) d).2=0:=by
   by_cases w:(ax (a_ aG st.1.1) d).2=0
   · exact w
   · rw [EG _ _ _ w] at z1;exact absurd z1 w
  have:=IG (a_ aG st.1.1) (fV l (st.2.2.1-1)) (ax (a_ aG st.1.1) d) ByteArray.empty (lw z0) z1;rw [this,show (ByteArray.empty:ByteArray)=dB [] from rfl,Ew]
 unfold cS;generalize dQ st.1.1 l (st.2.2.1-1) d=a at a0 a1 a2 ⊢;cases ca:a.2 != 0 with
 | true=>exact .inl ⟨rfl,dropK (tl a) a0 a1⟩
 | false =>
  have b0:=jF (a_ aG (st.1.1+1)) a.1 a0;have b1:∀ x ∈ st.1.2.1,fT (ax (a_ aG (st.1.1+1)) a.1).1 (a_ aG x)=fT d (a_ aG x):=fun x hx=>(lf (no2 x hx)).trans (a1 x hx)
  have b2:=(lf (d:=a.1) no4).trans (a2 (fJ ca));have b3:=lw (s:=a_ aG (st.1.1+1)) (d:=a.1);simp only [aJ];generalize ax (a_ aG (st.1.1+1)) a.1=b at b0 b1 b2 b3 ⊢;cases cb:b.2 != 0 with
  | true=>exact .inl ⟨rfl,dropK (tl b) b0 b1⟩
  | false =>
   have b3:=b3 (fJ cb);have c0:DR (i8 hb st.1.1 b.1).1:=by
    unfold i8;cases (lM (a_ bO st.1.1) (hb (bJ b.1 (a_ aG st.1.1)).1) b.1).2==2 with
    | true=>exact k9 _ _ (jv _ _ _ b0)
    | false=>exact jv _ _ _ b0
   have c1:∀ x ∈ st.1.2.1,fT (i8 hb st.1.1 b.1).1 (a_ aG x)=fT d (a_ aG x):=fun x hx=>(qv (no3 x hx)).trans (b1 x hx)
   have c2:=(qv (hb:=hb) (d:=b.1) (m9 hm hm)).trans b2;have c3:=(qv (hb:=hb) (d:=b.1) (m9 hm hm1)).trans b3;simp only [aJ];generalize i8 hb st.1.1 b.1=e at c0 c1 c2 c3 ⊢;cases ce:e.2 != 0 with
   | true=>exact .inl ⟨rfl,c0,c1⟩
   | false =>
    have d0:=mP (fu st.1.1) _ c0;have d1:∀ x ∈ st.1.2.1,fT (bE (fu st.1.1) e.1).1 (a_ aG x)=fT d (a_ aG x):=fun x hx=>(fo (ig (hseg x hx)) (jW (hseg x hx))).trans (c1 x hx)
    have d2:=(fo (d:=e.1) (v:=fu st.1.1) (ig hm) (jW hm)).trans c2;have d3:=(fo (d:=e.1) (v:=fu st.1.1) (ig hm1) (jW hm1)).trans c3;simp only [aJ];generalize bE (fu st.1.1) e.1=f at d0 d1 d2 d3 ⊢;cases cf:f.2 != 0 with
    | true=>exact .inl ⟨rfl,dropK (tl f) d0 d1⟩
    | false =>
     simp only [aJ];have o0:∀ (ids:List Int) (x:Ty.d aA),DR x→DR (nA ids x).1:=by
      intro ids
      induction ids with
      | nil=>exact fun x hx=>hx
      | cons y ids ih=>exact fun x hx=>jc (k9 _ _ hx) fun z hz=>ih z hz
     exact .inr ⟨by trivial,o0 _ _ d0,(uu st.1.2.1 f.1 fun x hx=>⟨fun q=>no1 x hx q.symm,m9 (hseg x hx) hm⟩).trans d2,(uu st.1.2.1 f.1 fun x hx=>⟨fun q=>no2 x hx q.symm,m9 (hseg x hx) hm1⟩).trans d3⟩
theorem M5 {st:Ty.d aE} {d:Ty.d aA} (h:MI st d):MI (bv st d).1 (bv st d).2.1:=by
 obtain ⟨hs,he⟩:=h.store;unfold bv;rw [hs];simp only [fw,aJ];by_cases c2:st.1.1+2 > (100000:Int)
 · rw [aW c2];exact h
 · rw [aY c2];simp only [aJ];cases c3:(bY st.2.1 d).2 != 0 with
   | true=>exact h
   | false =>
    simp only [aJ];have hn:LE.le (α:=Int) (st.1.1+2) 100000:=Int.not_lt.1 c2;obtain ⟨k1,k2⟩:=xB hs;obtain ⟨k3,k4⟩:=DO hs;have h20:=qo hs;have hz:=tW st.2.1 d;obtain ⟨L,t,j⟩:=h;obtain ⟨n1,n2,n3,_⟩:=gY (n:=st.1.1) (ids:=st.1.2.1) t.live;obtain ⟨_,_,g1,_,_⟩:=bo (nx:=st.1.1) (ids:=st.1.2.1) t.live;rcases HX (hb:=se st.1.1) (l:=(bY st.2.1 d).1) t.live t.disk hn with ⟨e1,e2,e3⟩ | ⟨e1,e2,e3,e4⟩
    · generalize cS (se st.1.1) st d (bY st.2.1 d).1=q at e1 e2 e3 ⊢;rw [e1];obtain ⟨L0,x,eL,el⟩:=yh t.ids g1;have hmem:∀ y ∈ L,y.1 ∈ st.1.2.1:=fun y hy=>by rw [t.ids];exact List.mem_map.2 ⟨y,hy,rfl⟩
      have hx:x ∈ L:=by rw [eL];exact List.mem_append_right _ il
      have ea:bT st=a_ aG x.1:=by unfold bT;rw [el]
      have ea2:bT (pY st)=a_ aG x.1:=ea;refine ⟨L,⟨Je (n:=st.1.1) (ids:=st.1.2.1) t.live hn,e2,t.ids,fun y hy=>⟨(e3 _ (hmem y hy)).trans (t.text y hy).1,(t.text y hy).2⟩,fun s q=>t.tail s ?_⟩,j⟩;rw [ea2,e3 _ (hmem x hx)] at q;rw [ea];exact q
    · generalize cS (se st.1.1) st d (bY st.2.1 d).1=q at e1 e2 e3 e4 ⊢;rw [e1];refine ⟨[(st.1.1,fV (bY st.2.1 d).1 (st.2.2.1-1)),(st.1.1+1,[])],⟨Lj n1 hn,e2,rfl,fun x hx=>?_,fun s w=>?_⟩,OB k2 (by omega) k4 j.lo j.hi⟩
      · rcases List.mem_cons.1 hx with w | w
        · rw [w];exact ⟨e3,k3⟩
        · rw [List.mem_singleton.1 w];exact ⟨e4,fun r hr=>by cases hr⟩
      · have w:fT q.2.1 (a_ aG (st.1.1+1))=some s:=w;rw [e4] at w;rw [← Option.some.inj w];rfl
theorem Oy {a b:Int} (h:a<b) (g:b≤100000):a≤100000:=by omega
theorem MM {d:Ty.d aA} {s:ByteArray} (hd:DR d) (z:(gU s d).2=0):fT (gU s d).1 s=none:=by
 unfold gU at z ⊢;cases c:(bU d.1 s).isSome with
 | false =>
  rw [aJ];refine En.1 ?_;cases q:bU d.1 s with
  | none=>rfl
  | some f=>rw [q] at c;cases c
 | true =>
  rw [c] at z;simp only [aa] at z ⊢;obtain ⟨c1,c2⟩:=nL z;refine En.1 ?_;show bU (iQ d (v7 s)).1.1 s=none;rw [c2];unfold v7 at c1 ⊢;cases q:(bU d.1 s).isNone with
  | true=>rw [q] at c1;exact absurd c1 (by show (3:Int)≠0;decide)
  | false=>exact pA hd.keys s
theorem rV {t:ByteArray}:∀ (l:List ByteArray) (d:Ty.d aA),DR d→(bj l d).2=0→(t ∈ l∨fT d t=none)→fT (bj l d).1 t=none
 | [],d,_,_,h=>by
  rcases h with h | h
  · cases h
  · exact h
 | s::l,d,hd,z,h=>by
  obtain ⟨z1,e,z2⟩:=lD (r:=gU s d) (f:=bj l) z;have hx:=nf s d hd;show fT (fD (gU s d) (bj l)).1 t=none;rw [e];refine rV l (gU s d).1 hx z2 ?_;by_cases q:s=t
  · rw [← q];exact .inr (MM hd z1)
  · rcases h with h | h
    · rcases List.mem_cons.1 h with w | w
      · exact absurd w.symm q
      · exact .inl w
    · exact .inr ((EF q).trans h)
theorem GQ {f:Ty.d cI}:∀ {l:bq},f ∈ l→bU l f.1≠none
 | [],h,_=>(by cases h)
 | g::l,h,q=>by
  unfold bU at q;cases c:seq g.1 f.1 with
  | true=>rw [c] at q;cases q
  | false =>
   rw [c,aJ] at q;rcases List.mem_cons.1 h with w | w
   · rw [w,bQ] at c;cases c
   · exact GQ w q
theorem OU:(NY gg).2=false:=by
 unfold NY;rcases nI (Qg gg) (fun _=>gg) (0:Int) gg with ⟨r,h1,_,_⟩ | h
 · exfalso;obtain ⟨h0,h2,h3⟩:=h1;have hp:=Mw r;rcases h3 with q | q
   · have:=congrArg nb q;rw [gw] at this;cases this
   · have:=congrArg nb q;rw [gw] at this;cases this
 · rw [h]
theorem Ch {d d':Ty.d aA}:∀ {l:List Int},(∀ x ∈ l,c_ (gf d' x)=c_ (gf d x))→lO d' l=lO d l
 | [],_=>rfl
 | x::l,h=>by show bZ x (c_ (gf d' x)).1++lO d' l=bZ x (c_ (gf d x)).1++lO d l;rw [Ch fun y hy=>h y (kS _ hy),h x il]
theorem IJ {A:ag} (h1:∀ b,fh b A=[]) (h2:cB A=[]):∀ (r pre:ag) (s:LI),gr (A++pre) r s=gr pre r s
 | [],_,_=>rfl
 | p::r,pre,s=>by
  have e1:∀ b,fh b (A++pre)=fh b pre:=fun b=>by rw [yG,h1];rfl
  have e2:cB (A++pre)=cB pre:=by rw [mZ,h2];rfl
  unfold gr jM;rw [e1,e2,oK,IJ h1 h2 r]
theorem G6:∀ (r pre:ag) (d:aR) (la la' c:Int),(gr pre r (d,la,c)).1=(gr pre r (d,la',c)).1∧(gr pre r (d,la,c)).2.2=(gr pre r (d,la',c)).2.2
 | [],_,_,_,_,_=>⟨rfl,rfl⟩
 | p::r,pre,d,la,la',c=>by
  unfold gr;simp only [];cases c != 0 with
  | true=>exact ⟨rfl,rfl⟩
  | false =>
   simp only [aJ];unfold jM;simp only [];cases p.2.2.2.1.1==3 with
   | true =>simp only [aa];cases jr p.2.2.2.1 (fh p.2.2.2.1.2.1 pre) <;> exact G6 r _ _ _ _ _
   | false =>
    simp only [aJ];cases p.2.2.2.1.1==5 with
    | true =>simp only [aa];cases jr p.2.2.2.1 (cB pre) <;> exact G6 r _ _ _ _ _
    | false=>exact G6 r _ _ _ _ _
theorem Fb {m:Int}:∀ (l:DK) (p:Option (Ty.d d_)),qM (oF m) p l=true→(∀ x ∈ l,x.2.2.1.1=4∧LE.le (α:=Int) x.2.2.1.2.1 m)∧cW (l.map fun x=>x.2.2.1.2.2.1)∧(∀ q,p=some q→∀ x ∈ l,nd q.2.2.1.2.2.1 x.2.2.1.2.2.1=true)
 | [],p,_=>⟨fun x h=>(by cases h),List.Pairwise.nil,fun q _ x h=>(by cases h)⟩
 | g::l,p,h=>by
  unfold qM at h;rw [iE] at h;obtain ⟨h1,h2⟩:=h;obtain ⟨i1,i2,i3⟩:=Fb l (some g) h2;unfold oF at h1;simp only [iE,beq_iff_eq,Bool.not_eq_true',decide_eq_false_iff_not] at h1;obtain ⟨g1,g2,g3⟩:=h1;refine ⟨fun x hx=>?_,?_,fun q hq x hx=>?_⟩
  · rcases List.mem_cons.1 hx with e | e
    · rw [e];exact ⟨g1,Int.not_lt.1 g2⟩
    · exact i1 x e
  · rw [List.map_cons];unfold cW;rw [List.pairwise_cons];refine ⟨fun x hx=>?_,i2⟩;obtain ⟨f,hf,rfl⟩:=List.mem_map.1 hx;exact i3 g rfl f hf
  · subst hq;rcases List.mem_cons.1 hx with e | e
    · rw [e];exact g3
    · exact od g3 (i3 g rfl x e)
theorem y9 (m:Int):∀ (l:DK) (dir:aR),(∀ x ∈ l,x.2.2.1.1=4)→cW (iD dir++l.map fun x=>x.2.2.1.2.2.1)→cZ dir (bZ m l)=dir++l.map (GZ m)
 | [],dir,_,_=>(List.append_nil dir).symm
 | x::l,dir,h4,h=>by
  have e0:gF dir (m,x)=dir++[GZ m x]:=by
   unfold gF;rw [show ((m,x):Ty.d aL).2.2.2.1.1=4 from h4 x il];show rA dir (GZ m x)=_;refine J6 fun y hy=>?_
   rw [List.map_cons] at h;exact (List.pairwise_append.1 h).2.2 y.1 (List.mem_map.2 ⟨y,hy,rfl⟩) x.2.2.1.2.2.1 il
  show cZ (gF dir (m,x)) (bZ m l)=_;rw [e0,y9 m l _ (fun y hy=>h4 y (kS _ hy)) (by
   unfold iD;rw [List.map_append,oK];exact h),oK]
  rfl
theorem JA {id:Int} {rs:ja} (hr:∀ r ∈ rs,bg r=true) (h:(gE id (aU rs)).2=true) :
 (∃ la,gr [] (uD (id,rs)) ([],0,0)=((gE id (aU rs)).1.2.2.1,la,0))∧(∀ b,fh b (uD (id,rs))=[])∧cB (uD (id,rs))=[]∧∀ p ∈ uD (id,rs),LE.le (α:=Int) p.2.2.2.1.2.1 (gE id (aU rs)).1.2.1:=by
 have hsp:uD (id,rs)=bZ id (c_ (aU rs)).1:=by unfold uD;rw [vA hr]
 have hok:∀ x ∈ (c_ (aU rs)).1,bg x.2.2.1=true:=fun x hx=>by refine hr _ ?_;rw [← (rH hr).1];exact List.mem_map.2 ⟨x,hx,rfl⟩
 rw [hsp];unfold gE at h ⊢;cases c1:(c_ (aU rs)).2 != ((aU rs).size:Int) with
 | true=>rw [c1] at h;cases h
 | false =>
  rw [c1] at h;simp only [aJ] at h ⊢;generalize (c_ (aU rs)).1=l at h hok ⊢;cases c2:l.length==0 with
  | true=>rw [c2] at h;cases h
  | false =>
   rw [c2] at h;simp only [aJ] at h ⊢;have hne:l.length≠0:=by simpa using c2
   obtain ⟨k,mk,el⟩:∃ k mk,l=k++[mk]:=by
    rcases List.eq_nil_or_concat l with w | ⟨a,b,w⟩
    · rw [w] at hne;exact absurd rfl hne
    · exact ⟨a,b,by rw [w,List.concat_eq_append]⟩
   subst el;have et:(k++[mk]).take ((k++[mk]).length-1)=k:=by rw [nE,List.length_singleton,Nat.add_sub_cancel];exact List.take_left
   have eg:(k++[mk]).getD ((k++[mk]).length-1) (Ty.z d_)=mk:=by rw [nE,List.length_singleton,Nat.add_sub_cancel];simp [List.getD]
   rw [et,eg] at h ⊢;cases c3:mk.2.2.1.1 != 5 with
   | true=>rw [c3] at h;cases h
   | false =>
    rw [c3] at h;simp only [aJ] at h ⊢;cases c4:!decide ((1:Int)≤id∧id≤100000) with
    | true=>rw [c4] at h;cases h
    | false =>
     rw [c4] at h;simp only [aJ] at h ⊢;cases c5:qM (oF mk.2.2.1.2.1) none k with
     | false=>rw [c5] at h;cases h
     | true =>
      rw [c5] at h;simp only [fw,aJ] at h ⊢;cases c6:jr mk.2.2.1 (bZ id k) with
      | false=>rw [c6] at h;cases h
      | true =>
       simp only [fw,aJ];obtain ⟨a1,a2,_⟩:=Fb k none c5;have c3:mk.2.2.1.1=5:=by simpa using c3
       have h4:∀ p ∈ bZ id k,p.2.2.2.1.1=4∧LE.le (α:=Int) p.2.2.2.1.2.1 mk.2.2.1.2.1:=fun p hp=>by unfold bZ at hp;obtain ⟨x,hx,rfl⟩:=List.mem_map.1 hp;exact a1 x hx
       have hmk:=hok mk (List.mem_append_right _ il);have h20:(bZ id k).length≤20:=by
        unfold jr at c6;rw [iE,beq_iff_eq] at c6;unfold bg at hmk;rw [c3] at hmk;rw [show ((5:Int)==1||(5:Int)==4)=false from rfl,show ((5:Int)==2)=false from rfl,show ((5:Int)==3)=false from rfl,show ((5:Int)==5)=true from rfl] at hmk;simp only [aJ,aa,iE,decide_eq_true_eq] at hmk;have hc:LE.le (α:=Int) (((bZ id k).length:Nat):Int) 20:=by rw [← c6.1];exact hmk.2.2.1.2
        omega
       have hown:cB (bZ id k)=bZ id k:=by unfold cB;rw [uw _ _ fun p hp=>(h4 p hp).1,List.nil_append]
       have ha:cZ [] (bZ id k)=k.map (GZ id):=by rw [y9 id k [] (fun x hx=>(a1 x hx).1) a2,List.nil_append]
       have epl:bZ id (k++[mk])=bZ id k++[(id,mk)]:=by unfold bZ;rw [List.map_append];rfl
       obtain ⟨la,hla⟩:=zV (bZ id k) [] [] 0 fun p hp=>by rw [(h4 p hp).1];exact ⟨by decide,by decide⟩
       rw [epl];have hlen:(bZ id k).length=k.length:=xw id k;refine ⟨⟨oP mk.2.2.1.2.1 la,?_⟩,fun b=>?_,?_,fun p hp=>?_⟩
       · rw [sw,hla,List.nil_append];have e:=CB (pre:=bZ id k) (p:=(id,mk)) (dir:=[]) (la:=la) c3 (by rw [hown];exact c6) (by rw [hown,ha,List.length_map];omega);rw [hown,ha] at e;exact e
       · have:∀ (q:ag),(∀ p ∈ q,p.2.2.2.1.1=4∨p.2.2.2.1.1=5)→q.foldl (fk b) []=[]:=by
          intro q
          induction q with
          | nil=>exact fun _=>rfl
          | cons p q ih =>
           intro hq;have e:fk b [] p=[]:=by
            unfold fk;rcases hq p il with w | w <;> rw [w] <;> cases p.2.2.2.1.2.1==b <;> rfl
           rw [List.foldl_cons,e];exact ih fun x hx=>hq x (kS _ hx)
         refine this _ fun p hp=>?_
         rcases List.mem_append.1 hp with w | w
         · exact .inl (h4 p w).1
         · rw [List.mem_singleton.1 w];exact .inr c3
       · rw [mZ];show gq _ (id,mk)=[];unfold gq;rw [show ((id,mk):Ty.d aL).2.2.2.1.1=5 from c3];rfl
       · rcases List.mem_append.1 hp with w | w
         · exact (h4 p w).2
         · rw [List.mem_singleton.1 w];exact Int.le_refl _
theorem tK {r:Ty.d bf} (h:bg r=true):LE.le (α:=Int) 0 r.2.1∧LE.le (α:=Int) r.2.1 1000000:=by
 unfold bg at h;cases c1:(r.1==1||r.1==4) with
 | true =>rw [c1] at h;simp only [aa,iE,decide_eq_true_eq] at h;have:=h.2.2.2.2;exact ⟨Int.le_trans (by decide) this.1,this.2⟩
 | false =>
  rw [c1] at h;cases c2:(r.1==2) with
  | true =>rw [c2] at h;simp only [aa,aJ,iE,decide_eq_true_eq] at h;have:=h.2.2.2.2;exact ⟨Int.le_trans (by decide) this.1,this.2⟩
  | false =>
   rw [c2] at h;cases c3:(r.1==3) with
   | true =>rw [c3] at h;simp only [aa,aJ,iE,decide_eq_true_eq] at h;have:=h.2.2.2.2;exact ⟨Int.le_trans (by decide) this.1,this.2⟩
   | false =>
    rw [c3] at h;cases c4:(r.1==5) with
    | true =>rw [c4] at h;simp only [aa,aJ,iE,decide_eq_true_eq] at h;exact h.2.2.2.2
    | false=>rw [c4] at h;cases h
theorem OC {y:Ty.d aA} (hy:DR y) {L:s9} (hL:1≤L.length) (ht:∀ x ∈ L,fT y (a_ aG x.1)=some (aU x.2)∧∀ r ∈ x.2,bg r=true) (z:(m5 y (L.map (·.1))).2.2.1=0) :
 JT (jV L) (m5 y (L.map (·.1))).1 (aQ ((m5 y (L.map (·.1))).2.1+1)):=by
 have hok:∀ p ∈ jV L,bg p.2.2.2.1=true:=fun p hp=>by obtain ⟨x,hx,s,hs,e⟩:=xY hp;obtain ⟨_,i2,_⟩:=qp x.2 ⟨#[]⟩ ⟨#[]⟩ (ht x hx).2 s hs;rw [e];exact i2
 have fin:∀ (dir:aR) (la:Int),(∃ la',gr [] (jV L) ([],0,0)=(dir,la',0))→cB (jV L)=[]→LE.le (α:=Int) 0 la→LE.le (α:=Int) la 1000000→(∀ p ∈ jV L,LE.le (α:=Int) p.2.2.2.1.2.1 la)→JT (jV L) dir (aQ (la+1)):=fun dir la h1 h2 h3 h4 h5=>by rw [aF (n:=la+1) (by omega) (by omega)];exact ⟨h1,h2,fun p hp=>Int.lt_add_one_of_le (h5 p hp),show (1:Int)≤la+1 by omega,show la+1≤(1000001:Int) by omega⟩
 obtain ⟨x0,L',rfl⟩:∃ x L',L=x::L':=by
  cases L with
  | nil=>cases hL
  | cons x L'=>exact ⟨x,L',rfl⟩
 have epl:jV (x0::L')=uD x0++jV L':=rfl;have e1:lO y ((x0::L').map (·.1))=jV (x0::L'):=qW hy ht;have e2:lO y (L'.map (·.1))=jV L':=qW hy fun x hx=>ht x (kS _ hx)
 unfold m5 at z ⊢;cases c:o_ y (((x0::L').map (·.1)).getD 0 0) with
 | false =>
  rw [c] at z;simp only [aJ] at z ⊢;rw [e1] at z ⊢;obtain ⟨g1,g2⟩:=A8 z;have hz:(gr [] (jV (x0::L')) ([],0,0)).2.2=0:=by rw [g1]
  obtain ⟨l1,l2,l3⟩:=wJ (jV (x0::L')) [] ([],0,0) hz;have ela:(gr [] (jV (x0::L')) ([],0,0)).2.1=(ia ([],(0,(0,()))) (jV (x0::L'))).2.1:=by rw [g1]
  have l3:=l3 1000000 (by decide) fun p hp=>(tK (hok p hp)).2
  rw [ela] at l1 l2 l3;exact fin _ _ ⟨_,g1⟩ g2 l1 l3 l2
 | true =>
  rw [c] at z;simp only [aa] at z ⊢;have ed:((x0::L').map (·.1)).drop 1=L'.map (·.1):=rfl;have ex:((x0::L').map (·.1)).getD 0 0=x0.1:=rfl;rw [ed,ex,e2] at z ⊢;rw [ex] at c;obtain ⟨t1,t2⟩:=ht x0 il;unfold o_ at c;simp only [iE] at c;obtain ⟨_,_,c⟩:=c;have es:gf y x0.1=aU x0.2:=by unfold gf;rw [iv hy,t1];rfl
  rw [es] at c;unfold og at c;simp only [iE,beq_iff_eq] at c;obtain ⟨f1,_,f3,f4⟩:=c;obtain ⟨⟨la0,k1⟩,k2,k3,k4⟩:=JA (id:=x0.1) t2 f1;rw [f3] at k4;rw [uA.1 f4] at k1;have k1:gr [] (uD x0) ([],0,0)=((eG y x0.1).2.2.1,la0,0):=k1;have k2:∀ b,fh b (uD x0)=[]:=k2;have k3:cB (uD x0)=[]:=k3;have k4:∀ p ∈ uD x0,LE.le (α:=Int) p.2.2.2.1.2.1 (eG y x0.1).2.1:=k4;obtain ⟨g1,g2⟩:=A8 z;have hz:(gr [] (jV L') ((eG y x0.1).2.2.1,(eG y x0.1).2.1,0)).2.2=0:=by rw [g1]
  obtain ⟨l1,l2,l3⟩:=wJ (jV L') [] ((eG y x0.1).2.2.1,(eG y x0.1).2.1,0) hz;have ela:(gr [] (jV L') ((eG y x0.1).2.2.1,(eG y x0.1).2.1,0)).2.1=(ia ((eG y x0.1).2.2.1,((eG y x0.1).2.1,(0,()))) (jV L')).2.1:=by rw [g1]
  have hmark:∃ mk:Ty.d bf,bg mk=true∧mk.2.1=(eG y x0.1).2.1:=by
   rw [← f3];have hb:(gE x0.1 (aU x0.2)).2=true:=f1;have hok2:∀ x ∈ (c_ (aU x0.2)).1,bg x.2.2.1=true:=fun x hx=>by refine t2 _ ?_;rw [← (rH t2).1];exact List.mem_map.2 ⟨x,hx,rfl⟩
   unfold gE at hb ⊢;cases w1:(c_ (aU x0.2)).2 != ((aU x0.2).size:Int) with
   | true=>rw [w1] at hb;cases hb
   | false =>
    rw [w1] at hb;simp only [aJ] at hb ⊢;generalize (c_ (aU x0.2)).1=l at hb hok2 ⊢;cases w2:l.length==0 with
    | true=>rw [w2] at hb;cases hb
    | false =>
     rw [w2] at hb;simp only [aJ] at hb ⊢;have hne:l.length≠0:=by simpa using w2
     have hm:l.getD (l.length-1) (Ty.z d_) ∈ l:=by show (l[l.length-1]?).getD _ ∈ l;rw [List.getElem?_eq_getElem (by omega)];exact List.getElem_mem _
     generalize l.getD (l.length-1) (Ty.z d_)=mk at hb hm ⊢;refine ⟨mk.2.2.1,hok2 _ hm,?_⟩;revert hb;cases mk.2.2.1.1 != 5 <;> cases !decide ((1:Int)≤x0.1∧x0.1≤100000) <;> cases qM (oF mk.2.2.1.2.1) none (l.take (l.length-1)) <;> cases jr mk.2.2.1 (bZ x0.1 (l.take (l.length-1))) <;> intro hb <;> first | rfl | cases hb
  obtain ⟨mk,m1,m2⟩:=hmark;have mb:=tK m1;rw [m2] at mb;have l3:=l3 1000000 mb.2 fun p hp=>(tK (hok p (by rw [epl];exact List.mem_append_right _ hp))).2
  rw [ela] at l1 l2 l3;have l1:LE.le (α:=Int) (eG y x0.1).2.1 (ia ((eG y x0.1).2.2.1,((eG y x0.1).2.1,(0,()))) (jV L')).2.1:=l1;refine fin _ _ ?_ ?_ (Int.le_trans mb.1 l1) l3 fun p hp=>?_
  · rw [epl,sw,k1];have q:=IJ k2 k3 (jV L') [] ((eG y x0.1).2.2.1,la0,0);rw [List.append_nil] at q;rw [List.nil_append,q];obtain ⟨v1,v2⟩:=G6 (jV L') [] (eG y x0.1).2.2.1 la0 (eG y x0.1).2.1 0;rw [g1] at v1 v2;exact ⟨(gr [] (jV L') ((eG y x0.1).2.2.1,la0,0)).2.1,Prod.ext v1 (Prod.ext rfl v2)⟩
  · rw [epl,mZ,k3];exact g2
  · rw [epl] at hp;rcases List.mem_append.1 hp with w | w
    · exact Int.le_trans (k4 p w) l1
    · exact l2 p w
theorem O5 {d:Ty.d aA} {s:ByteArray} (z:(rk d s).2=0):fT (rk d s).1 s=some ByteArray.empty:=by
 obtain ⟨c1,c2⟩:=nL (d:=d) (g:=uE s) z;unfold fT;show (bU (iQ d (uE s)).1.1 s).map _=_;rw [c2];unfold uE at c1 ⊢;cases c3:jQ s with
 | false=>rw [c3] at c1;cases c1
 | true =>
  rw [c3] at c1;simp only [fw,aJ] at c1 ⊢;cases c4:(bU d.1 s) with
  | some f=>rw [c4] at c1;cases c1
  | none =>
   rw [c4] at c1;simp only [Option.isSome_none,aJ] at c1 ⊢;cases c5:decide ((d.1.length:Int)≥130) with
   | true=>rw [c5] at c1;cases c1
   | false =>simp only [aJ];rw [zB (f:=(s,(ByteArray.empty,(0,())))) c4,bQ];rfl
def TV (t:Ty.d aV):Prop:=t.2.1.length≤20∧t.2.2.1.length≤50
theorem Nt:TV (Ty.z aV):=⟨Nat.zero_le _,Nat.zero_le _⟩
theorem wz {l:List (Ty.d aV)} (h:∀ t ∈ l,TV t) (i:Nat):TV (l.getD i (Ty.z aV)):=by
 by_cases c:i<l.length
 · exact h _ (gR c)
 · have:l.getD i (Ty.z aV)=Ty.z aV:=by simp [List.getD,c]
   rw [this];exact Nt
def ll:eU→ByteArray→Option (Ty.d aM)
 | [],_=>none
 | p::l,key=>match ll l key with
  | some q=>some q
  | none=>bif seq p.1 key then some p else none
def Re:Ty.d aM:=(ByteArray.empty,(false,(ByteArray.empty,())))
def uY (o:Option (Ty.d aM)):Ty.d aM × Bool × Unit:=match o with
 | none=>(Re,(false,()))
 | some p=>(p,(true,()))
theorem A6 (key:ByteArray) (x:Ty.d aM):∀ l:eU,ll (l++[x]) key=bif seq x.1 key then some x else ll l key
 | []=>by show (match ll [] key with | some q=>some q | none=>bif seq x.1 key then some x else none)=_;rfl
 | p::l=>by
  show (match ll (l++[x]) key with | some q=>some q | none=>bif seq p.1 key then some p else none)=_;rw [A6 key x l];cases seq x.1 key with
  | true=>rfl
  | false=>rfl
theorem CE {α:Type} {l:List α} {n:Nat} (z:α) (h:n<l.length):l.take (n+1)=l.take n++[l.getD n z]:=by rw [List.take_add_one];simp [List.getD,h]
def pU (ks:List ByteArray) (key:ByteArray):Bool:=ks.any fun s=>seq s key
def qT (w:eU):List ByteArray:=w.foldl (fun ks p=>bif pU ks p.1 then ks else ks++[p.1]) []
def fZ (w:eU):eU:=(qT w).map fun s=>(uY (ll w s)).1
theorem H6 (w:eU) (p:Ty.d aM):qT (w++[p])=bif pU (qT w) p.1 then qT w else qT w++[p.1]:=by unfold qT;rw [List.foldl_append];rfl
theorem NS (a b:List ByteArray) (s:ByteArray):pU (a++b) s=(pU a s||pU b s):=List.any_append
theorem Cx (s:ByteArray):∀ w:eU,pU (qT w) s=w.any fun p=>seq p.1 s:=by
 intro w;have key:∀ (w:eU) (ks:List ByteArray),pU (w.foldl (fun ks p=>bif pU ks p.1 then ks else ks++[p.1]) ks) s=(pU ks s||w.any fun p=>seq p.1 s):=by
  intro w
  induction w with
  | nil=>intro ks;exact (Bool.or_false _).symm
  | cons p w ih =>
   intro ks;rw [List.foldl_cons,ih,List.any_cons];cases c:pU ks p.1 with
   | false =>rw [aJ,NS,Bool.or_assoc];congr 2;show (seq p.1 s||false)=_;rw [Bool.or_false]
   | true =>
    rw [aa];cases q:seq p.1 s with
    | false=>rw [Bool.false_or]
    | true=>rw [db.1 q] at c;rw [c];rfl
 exact key w []
theorem KO:∀ w:eU,(qT w).length≤w.length:=by
 intro w;have key:∀ (w:eU) (ks:List ByteArray),(w.foldl (fun ks p=>bif pU ks p.1 then ks else ks++[p.1]) ks).length≤ks.length+w.length:=by
  intro w
  induction w with
  | nil=>intro ks;exact Nat.le_refl _
  | cons p w ih =>
   intro ks;have:=ih (bif pU ks p.1 then ks else ks++[p.1]);rw [List.foldl_cons,j7];cases c:pU ks p.1 with
   | true=>rw [c,aa] at this;rw [aa];omega
   | false=>rw [c,aJ,dt] at this;rw [aJ];omega
 have:=key w [];rw [List.length_nil,Nat.zero_add] at this;exact this
theorem sv (w:eU):(fZ w).length≤w.length:=by unfold fZ;rw [List.length_map];exact KO w
def w7 (dir:aR) (key:ByteArray):Int:=match ui dir key with
 | none=>0
 | some e=>e.2.2.2.2.1
def lG (rows:List (Ty.d dK)) (dir:aR):Bool:=rows.all fun r=>w7 dir r.1==r.2.1
theorem Md (o:Option (Ty.d aC)):∃ q:Ty.d aC × Bool × Unit,Nx o=some q∧q.1.2.2.2.2.1=(match o with | none=>(0:Int) | some e=>e.2.2.2.2.1):=by cases o <;> exact ⟨_,rfl,rfl⟩
def lN (rows:List (Ty.d dK)) (key:ByteArray):Option Int:=(rows.find? fun r=>seq r.1 key).map (·.2.1)
def gZ (t:Ty.d aV) (key:ByteArray) (b:Int):Ty.d aV × Int :=
 bif !t.1 then (t,4) else bif !gB key then (t,4) else match lN t.2.1 key with
 | some b'=>(t,bif b' != b then 7 else 0)
 | none=>bif decide ((t.2.1.length:Int)≥20) then (t,5) else ((t.1,(t.2.1++[(key,(b,()))],t.2.2)),0)
def iJ (t:Ty.d aV) (p:Ty.d aM):Ty.d aV × Bool :=
 bif !t.1 then (t,false) else bif !eF [p] then (t,false) else bif decide (((fZ (t.2.2.1++[p])).length:Int) > 8) then (t,false) else
 bif decide (((t.2.2.1++[p]).length:Int) > 50) then (t,false) else ((t.1,(t.2.1,(t.2.2.1++[p],()))),true)
def jH (c:Int):Ty.d aK:=(c,(ByteArray.empty,([],())))
def ye (e:Ty.d bF) (i:Int) (t:Ty.d aV):Ty.d bF:=(e.1,(e.2.1,(e.2.2.1,(e.2.2.2.1.set i.toNat t,()))))
def iF (e:Ty.d bF) (i:Int):Ty.d aV:=e.2.2.2.1.getD i.toNat (Ty.z aV)
abbrev Bo:=Ty.d bF × Ty.d aK
noncomputable def QM (e:Ty.d bF) (s:Ty.d aH) (t:Ty.d aV) (p:Ty.d aB × Int):Bo :=
 bif p.2==3 then (e,jH p.2) else bif (gZ t s.2.2.1 p.1.2.2.1).2 != 0 then (e,jH (gZ t s.2.2.1 p.1.2.2.1).2) else
 (ye e s.2.1 (gZ t s.2.2.1 p.1.2.2.1).1,(p.2,(p.1.2.1,([],()))))
noncomputable def Kc (e:Ty.d bF) (s:Ty.d aH):Bo :=
 bif !gB s.2.2.1 then (e,jH 4) else match ll (iF e s.2.1).2.2.1 s.2.2.1 with
 | some p=>bif p.2.1 then (e,jH 8) else (e,(0,(p.2.2.1,([],()))))
 | none=>QM e s (iF e s.2.1) (rB e.2.1.2.1 e.2.2.1 s.2.2.1)
def jZ:Ty.d aV:=(false,([],([],())))
noncomputable def vt (e:Ty.d bF) (s:Ty.d aH):Bo :=
 bif !lG (iF e s.2.1).2.1 e.2.1.2.1 then (ye e s.2.1 jZ,jH 7) else
 ((e.1,((pX e.2.1 e.2.2.1 (fZ (iF e s.2.1).2.2.1)).1,((pX e.2.1 e.2.2.1 (fZ (iF e s.2.1).2.2.1)).2.1,(ye e s.2.1 jZ).2.2.2))),jH (pX e.2.1 e.2.2.1 (fZ (iF e s.2.1).2.2.1)).2.2)
def mA (s:Ty.d aH):Ty.d aM:=(s.2.2.1,((s.1==4),(s.2.2.2.1,())))
def Jd (e:Ty.d bF) (s:Ty.d aH):Bo :=
 bif !eF [mA s] then (e,jH 4) else bif !(iJ (iF e s.2.1) (mA s)).2 then (e,jH 5) else (ye e s.2.1 (iJ (iF e s.2.1) (mA s)).1,jH 0)
noncomputable def CN (e:Ty.d bF) (s:Ty.d aH):Bo :=
 bif s.1==1 then (ye e s.2.1 (true,([],([],()))),jH 0) else bif s.1==6 then (ye e s.2.1 jZ,jH 0) else
 bif s.1==2 then Kc e s else bif s.1==5 then vt e s else Jd e s
def Rl (e:Ty.d bF) (s:Ty.d aH):Bo :=
 bif !decide (0≤s.2.2.2.2.1∧s.2.2.2.2.1≤100000-(du e.2.2.1.1:Int)) then (e,jH 4) else ((e.1,(e.2.1,((e.2.2.1.1,((du e.2.2.1.1:Int)+s.2.2.2.2.1,e.2.2.1.2.2)),e.2.2.2))),jH 0)
noncomputable def HU (e:Ty.d bF):Bo:=((e.1,((bv e.2.1 e.2.2.1).1,((bv e.2.1 e.2.2.1).2.1,e.2.2.2))),jH (bv e.2.1 e.2.2.1).2.2)
def Q0 (e:Ty.d bF):Bo:=((false,(kX,(e.2.2.1,(List.replicate 3 (Ty.z aV),())))),jH 0)
def HN (e:Ty.d bF) (s:Ty.d aH):Bool:=decide (0≤s.2.1∧s.2.1≤(e.2.2.2.1.length:Int)-1)&&(decide (1≤s.1∧s.1≤6)&&!((iF e s.2.1).1==(s.1==1)))
noncomputable def jG (e:Ty.d bF) (s:Ty.d aH):Bo :=
 bif s.1==10 then (bif e.1 then (e,jH 4) else (j_ (g6 e.2.2.1),jH (g6 e.2.2.1).2.2)) else
 bif s.1==11 then Rl e s else bif !e.1 then (e,jH 6) else bif s.1==7 then HU e else
 bif s.1==8 then (e,(0,(ByteArray.empty,(e.2.1.2.1.map (·.1),())))) else bif s.1==9 then Q0 e else
 bif !HN e s then (e,jH 4) else CN e s
theorem oY (x:Ty.d aB) (l:bV) (key:ByteArray):dr (x::l) key=bif seq x.1 key then dr l key else x::dr l key:=by unfold dr;rw [List.filter_cons];cases seq x.1 key <;> rfl
theorem zx (x:Ty.d aB) (l:bV) (p:Ty.d aB):s_ (x::l) p=bif BS p.1 x then x::s_ l p else p::x::l:=by unfold s_;rw [List.takeWhile_cons,List.dropWhile_cons];cases BS p.1 x <;> rfl
theorem H3 {k:Nat} (hk:2 ^ 50≤k) {l:bV} (hl:l.length≤1048576) (p:Ty.d aB) (del:Bool):gW.f k l p del=some (pP l p del,()):=by
 unfold gW.f gW.t;refine (fj (L:=fun n i (s:Bool × bV)=>gW.l0 k n l s.1 i p.1 p.2.1 p.2.2.1 s.2) (R:=fun r s=>some (s.2++(bif s.1 then dr r p.1 else s_ (dr r p.1) (p.1,(p.2.1,(p.2.2.1,())))),())) (Ty.z aB) l (fun i s=>(s.2.length:Int)≤2*i+1) (fun n s hs=>?_) (fun n i s x rest h0 h1 hx hr hp ih=>?_) (n:=k) (s:=(del,[])) (by omega) (by show ((0:Nat):Int)≤2*0+1;decide)).trans (by rw [List.nil_append];rfl)
 · obtain ⟨dn,out⟩:=s;simp only [] at hs ⊢;simp only [gW.l0,gW.b0];rw [aY (by omega),aJ,bn (by omega) (by decide)];cases dn with
   | true=>rw [show dr [] p.1=[] from rfl,aa,List.append_nil];rfl
   | false=>rfl
 · obtain ⟨dn,out⟩:=s;simp only [] at hp ih ⊢;have hz:(out++[((p.1,(p.2.1,(p.2.2.1,()))):Ty.d aB)]).length=out.length+1:=dt ..;simp (disch:=first | omega | decide) only [gW.l0,gW.b0,aW h1,aa,aT,hx,bn,aF];have i1:=ih (dn,out) (by simp only [];omega);have i2:=ih (dn,out++[x]) (by simp only [];rw [nE,List.length_singleton];omega);have i3:=ih (true,(out++[(p.1,(p.2.1,(p.2.2.1,())))])++[x]) (by simp only [];rw [nE,nE,List.length_singleton,List.length_singleton];omega);simp only [] at i1 i2 i3;rw [oY];cases c1:seq x.1 p.1 with
   | true=>simp only [aa];exact i1
   | false =>
    simp only [aJ];cases dn with
    | true =>simp only [fw,aJ,aa] at i2 ⊢;rw [i2,oK];rfl
    | false =>
     simp only [ue,aJ,aa] at i2 i3 ⊢;rw [zx];unfold BS;rw [c1,Bool.or_false];cases nd x.1 p.1 with
     | true =>simp only [fw,aJ,aa];rw [i2,oK];rfl
     | false =>simp only [ue,aJ,aa];rw [i3,oK,oK];rfl
theorem vv {k:Nat} (hk:2 ^ 50≤k) {l:bV} (hl:l.length≤1000) {puts:eU} (hp:puts.length≤1000) (b:Int):iP.f k l puts b=some (gI l puts b,()):=by
 unfold iP.f iP.t;rw [bn (by omega) (by decide),List.nil_append];refine fj (L:=fun n i (s:bV)=>iP.l0 k n puts b i s) (R:=fun r s=>some (gI s r b,())) (Ty.z aM) puts (fun i s=>(s.length:Int)≤1000+i) (fun n s hs=>?_) (fun n i s x rest h0 h1 hx hr hp' ih=>?_) (n:=k) (s:=l) (by omega) (by omega)
 · simp only [iP.l0,iP.b0];rw [aY (by omega),aJ];rfl
 · have hz:=GA s (x.1,(x.2.2.1,(b,()))) x.2.1;simp only [iP.l0,iP.b0];rw [aW h1,aa]
   repeat rw [aT h0 h1]
   rw [hx,H3 hk (by omega),ac,aF (n:=i+1) (by omega) (by omega)];exact ih (pP s (x.1,(x.2.2.1,(b,()))) x.2.1) (by omega)
theorem yV {k:Nat} (hk:2 ^ 50≤k) {l:bV} (hl:l.length≤1048576) (key:ByteArray):fc.f k l key=some (dr l key,()):=by
 unfold fc.f fc.t;refine (fj (L:=fun n i (s:bV)=>fc.l0 k n key l l.length i s) (R:=fun r s=>some (s++dr r key,())) (Ty.z aB) l (fun i s=>(s.length:Int)≤i) (fun n s hs=>?_) (fun n i s x rest h0 h1 hx hr hp ih=>?_) (n:=k) (s:=[]) (by omega) (by decide)).trans (by rw [List.nil_append])
 · simp only [fc.l0,fc.b0];rw [aY (by omega),aJ,show dr [] key=[] from rfl,List.append_nil]
 · simp only [fc.l0,fc.b0];rw [aW h1,aa,aT h0 h1,hx,aF (n:=i+1) (by omega) (by omega),bn (by omega) (by decide),oY];cases seq x.1 key with
   | true=>exact ih s (by omega)
   | false =>simp only [ue,aa,aJ];rw [ih (s++[x]) (by rw [nE,List.length_singleton];omega),oK];rfl
theorem wW (k:Nat) {l:bV} (hl:l.length≤1048576):fL.f k l=some (l,()):=by unfold fL.f fL.t;rw [bn (by omega) (by decide)]
theorem Dl {p:Ty.d aB}:∀ {l:bV} (i:Nat),i≤l.length→(∀ j,j<i→BS p.1 (l.getD j (Ty.z aB))=true)→(i<l.length→BS p.1 (l.getD i (Ty.z aB))=false)→s_ l p=l.take i++p::l.drop i
 | [],i,hi,_,_=>by
  have:i=0:=by simpa using hi
  subst this;rfl
 | x::l,0,hi,_,h2=>by have:=h2 (by simp);rw [zx,show BS p.1 x=false from this];rfl
 | x::l,i+1,hi,h1,h2=>by have hx:=h1 0 (by omega);have:=Dl (l:=l) i (by rw [j7] at hi;omega) (fun j hj=>h1 (j+1) (by omega)) (fun h=>h2 (by rw [j7];omega));rw [zx,show BS p.1 x=true from hx,aa,this];rfl
theorem Mq {k:Nat} {L0:fI.T0} {l:bV} {puts:eU} {n i:Int} {key val:ByteArray} {del:Bool} {b:Int} (hl:l.length≤1000000) (hi:0≤i) (hi':i≤1000000) :
 ∀ (d j m:Nat),l.length-j=d→j≤l.length→d<m→(∀ q,q<j→BS key (l.getD q (Ty.z aB))=true) →
 fI.l1 k L0 m b (j:Int) puts n i l key del val=L0 b puts n (i+1) (s_ l (key,(val,(b,())))):=by
 have fin:∀ j:Nat,j≤l.length→(pS (j:Int) (l.length:Int) ((fL.f k (List.take (Int.toNat (j:Int)) l)).bind fun r3=>(rm (Ty.bytes aB) (List.length r3.1+1) (pS (j:Int) (l.length:Int) (rm (Ty.bytes aB) (List.length (r3.1++[(key,(val,(b,())))])+List.length (List.drop (Int.toNat (j:Int)) l)) (L0 b puts n (aQ (i+1)) ((r3.1++[(key,(val,(b,())))])++(List.drop (Int.toNat (j:Int)) l))))))):fI.Rs) =
  L0 b puts n (i+1) (l.take j++(key,(val,(b,())))::l.drop j):=fun j hj=>by
  have e1:(l.take j).length=j:=List.length_take_of_le hj;have e2:(l.drop j).length=l.length-j:=List.length_drop;rw [d7 (by omega) (by omega),Int.toNat_natCast,wW k (by omega),ac];simp only [];rw [bn (by omega) (by decide),d7 (by omega) (by omega),bn (by rw [nE,List.length_singleton];omega) (by decide),aF (n:=i+1) (by omega) (by omega),oK];rfl
 intro d
 induction d with
 | zero =>intro j m hd hj hm hq;obtain ⟨m,rfl⟩:∃ q,m=q+1:=⟨m-1,by omega⟩;simp only [fI.l1,fI.b1];rw [aY (by omega),aJ,Dl (p:=(key,(val,(b,())))) j hj hq (fun h=>by omega)];exact fin j hj
 | succ d ih =>
  intro j m hd hj hm hq;obtain ⟨m,rfl⟩:∃ q,m=q+1:=⟨m-1,by omega⟩;simp only [fI.l1,fI.b1];rw [aW (by omega),aa,aT (by omega) (by omega),Int.toNat_natCast];cases c:BS key (l.getD j (Ty.z aB)) with
  | false =>rw [Dl (p:=(key,(val,(b,())))) j hj hq (fun h=>c)];unfold BS at c;rw [c,aJ];exact fin j hj
  | true =>
   have ih:=ih (j+1) m (by omega) (by omega) (by omega) (fun q h=>by
    rcases Nat.lt_or_ge q j with h3 | h3
    · exact hq q h3
    · rw [show q=j by omega];exact c)
   unfold BS at c;rw [c,aa,aF (n:=(j:Int)+1) (by omega) (by omega)];exact ih
theorem EM {k:Nat} (hk:2 ^ 50≤k) {l:bV} (hl:l.length≤1000) {puts:eU} (hp:puts.length≤1000) (b:Int):fI.f k l puts b=some (gI l puts b,()):=by
 unfold fI.f fI.t;rw [wW k (by omega),ac];refine fj (L:=fun n i (s:bV)=>fI.l0 k n b puts puts.length i s) (R:=fun r s=>some (gI s r b,())) (Ty.z aM) puts (fun i s=>(s.length:Int)≤1000+i) (fun n s hs=>?_) (fun n i s x rest h0 h1 hx hr hp' ih=>?_) (n:=k) (s:=l) (by omega) (by omega)
 · simp only [fI.l0,fI.b0];rw [aY (by omega),aJ];rfl
 · have hz:=GA s (x.1,(x.2.2.1,(b,()))) x.2.1;have hw:=wK s x.1;have ih:=ih (pP s (x.1,(x.2.2.1,(b,()))) x.2.1) (by omega);simp only [fI.l0,fI.b0];rw [aW h1,aa,aT h0 h1,hx,yV hk (by omega),ac];simp only [];show _=some (gI (pP s (x.1,(x.2.2.1,(b,()))) x.2.1) rest b,());rw [← ih];unfold pP;cases x.2.1 with
   | true=>rw [aF (n:=i+1) (by omega) (by omega)];rfl
   | false=>exact Mq (by omega) h0 (by omega) (dr s x.1).length 0 k (by omega) (by omega) (by omega) (fun q h=>by omega)
abbrev I7:=Ty.d bB × Ty.d aK
def uX (l:bV):aR:=l.map fun p=>(p.1,(0,(0,(0,p.2.2))))
def Ql:Ty.d aB:=(ByteArray.empty,(ByteArray.empty,(0,())))
def bK:bV→ByteArray→Ty.d aB × Int
 | [],_=>(Ql,8)
 | x::l,key=>bif seq x.1 key then (x,0) else bK l key
structure MV (m:Ty.d bB):Prop where
 map:m.2.1.length≤900
 len:m.2.2.2.1.length≤1000
 txn:∀ t ∈ m.2.2.2.1,TV t
def lJ (m:Ty.d bB) (i:Int):Ty.d aV:=m.2.2.2.1.getD i.toNat (Ty.z aV)
def iZ (m:Ty.d bB) (i:Int) (t:Ty.d aV):Ty.d bB:=(m.1,(m.2.1,(m.2.2.1,(m.2.2.2.1.set i.toNat t,()))))
def DJ (m:Ty.d bB) (s:Ty.d aH) (t:Ty.d aV) (p:Ty.d aB × Int):I7 :=
 bif (gZ t s.2.2.1 p.1.2.2.1).2 != 0 then (m,jH (gZ t s.2.2.1 p.1.2.2.1).2) else
 (iZ m s.2.1 (gZ t s.2.2.1 p.1.2.2.1).1,(p.2,(p.1.2.1,([],()))))
def yJ (m:Ty.d bB) (s:Ty.d aH):I7 :=
 bif !gB s.2.2.1 then (m,jH 4) else match ll (lJ m s.2.1).2.2.1 s.2.2.1 with
 | some p=>bif p.2.1 then (m,jH 8) else (m,(0,(p.2.2.1,([],()))))
 | none=>DJ m s (lJ m s.2.1) (bK m.2.1 s.2.2.1)
def tC (m:Ty.d bB) (t:Ty.d aV):I7 :=
 bif !lG t.2.1 (uX m.2.1) then (m,jH 7) else bif ((fZ t.2.2.1).length:Int)==0 then (m,jH 0) else
 bif decide (((gI m.2.1 (fZ t.2.2.1) m.2.2.1).length:Int) > 20) then (m,jH 5) else bif decide (m.2.2.1 > 1000000) then (m,jH 5) else
 ((m.1,(gI m.2.1 (fZ t.2.2.1) m.2.2.1,(aQ (m.2.2.1+1),m.2.2.2))),jH 0)
def Bj (m:Ty.d bB) (s:Ty.d aH):I7 :=
 bif !eF [mA s] then (m,jH 4) else bif !(iJ (lJ m s.2.1) (mA s)).2 then (m,jH 5) else (iZ m s.2.1 (iJ (lJ m s.2.1) (mA s)).1,jH 0)
def zQ (m:Ty.d bB) (s:Ty.d aH):I7 :=
 bif s.1==1 then (iZ m s.2.1 (true,([],([],()))),jH 0) else bif s.1==6 then (iZ m s.2.1 jZ,jH 0) else
 bif s.1==5 then tC (iZ m s.2.1 jZ) (lJ m s.2.1) else bif s.1==2 then yJ m s else Bj m s
def wu (m:Ty.d bB) (s:Ty.d aH):Bool:=decide (0≤s.2.1∧s.2.1≤(m.2.2.2.1.length:Int)-1)&&(decide (1≤s.1∧s.1≤6)&&!((lJ m s.2.1).1==(s.1==1)))
def jP (m:Ty.d bB) (s:Ty.d aH):I7 :=
 bif s.1==10 then (bif m.1 then (m,jH 4) else ((true,(m.2.1,(m.2.2.1,(List.replicate 3 (Ty.z aV),())))),jH 0)) else
 bif s.1==11 then (m,jH 0) else bif !m.1 then (m,jH 6) else bif s.1==7 then (m,jH 0) else
 bif s.1==8 then (m,(0,(ByteArray.empty,(m.2.1.map (·.1),())))) else
 bif s.1==9 then ((false,(m.2.1,(m.2.2.1,(List.replicate 3 (Ty.z aV),())))),jH 0) else
 bif !wu m s then (m,jH 4) else zQ m s
theorem vV {k:Nat} (hk:2 ^ 50≤k) {l:bV} (hl:l.length≤1048576) (key:ByteArray):fE.f k l key=some ((bK l key).1,((bK l key).2,())):=by
 unfold fE.f fE.t;refine (fj (L:=fun n i (_:Unit)=>fE.l0 k n l key i ByteArray.empty ByteArray.empty 0) (R:=fun r _=>some ((bK r key).1,((bK r key).2,()))) (Ty.z aB) l (fun _ _=>True) (fun n s hs=>?_) (fun n i s x rest h0 h1 hx hr hp ih=>?_) (n:=k) (s:=()) (by omega) trivial)
 · simp (disch:=omega) only [fE.l0,fE.b0,aY,aJ];rfl
 · have ih:=ih () trivial;simp (disch:=first | omega | decide) only [fE.l0,fE.b0,aW h1,aa,aT,hx,aF,ih];rw [show bK (x::rest) key=bif seq x.1 key then (x,0) else bK rest key from rfl];cases seq x.1 key <;> rfl
structure R1 (k:Nat) (m m':Ty.d bB):Prop where
 up:m.1=m'.1
 map:m.2.1=m'.2.1
 bat:@Eq Int m.2.2.1 m'.2.2.1
 len:m.2.2.2.1.length=m'.2.2.2.1.length
 oth:∀ j,j≠k→m.2.2.2.1.getD j (Ty.z aV)=m'.2.2.2.1.getD j (Ty.z aV)
theorem iW {l:List (Ty.d aV)} {i j:Nat} (h:j≠i) (t:Ty.d aV):(l.set i t).getD j (Ty.z aV)=l.getD j (Ty.z aV):=by simp only [List.getD];rw [List.getElem?_set_ne (Ne.symm h)]
def KP (k:Nat) (m x:Ty.d bB):Prop:=x.1=m.1∧x.2.2.2.1.length=m.2.2.2.1.length∧∀ j,j≠k→x.2.2.2.1.getD j (Ty.z aV)=m.2.2.2.1.getD j (Ty.z aV)
theorem KP.refl (k:Nat) (m:Ty.d bB):KP k m m:=⟨rfl,rfl,fun _ _=>rfl⟩
theorem KP.set {k:Nat} (m:Ty.d bB) (t:Ty.d aV):KP k m (iZ m (k:Int) t):=⟨rfl,List.length_set ..,fun j hj=>iW hj t⟩
theorem R1.set {k:Nat} {m m':Ty.d bB} (h:R1 k m m') (i:Int) (t:Ty.d aV):R1 k (iZ m i t) (iZ m' i t):=by
 refine ⟨h.up,h.map,h.bat,?_,fun j hj=>?_⟩
 · show (m.2.2.2.1.set _ _).length=(m'.2.2.2.1.set _ _).length;rw [List.length_set,List.length_set];exact h.len
 · show (m.2.2.2.1.set i.toNat t).getD j _=(m'.2.2.2.1.set i.toNat t).getD j _;by_cases q:j=i.toNat
   · rw [q];simp only [List.getD,List.getElem?_set_self'];have hl:=h.len;by_cases c:i.toNat<m.2.2.2.1.length
     · rw [List.getElem?_eq_getElem c,List.getElem?_eq_getElem (by omega)];rfl
     · rw [List.getElem?_eq_none (by omega),List.getElem?_eq_none (by omega)]
   · rw [iW q,iW q];exact h.oth j hj
noncomputable def oy (ids:List Int) (f:Ty.d cI):Bool:=!ou ids f
section
variable {ids:List Int} {s:ByteArray} (hs:∀ g:Ty.d cI,g.1=s→oy ids g=false)
include hs
variable {Z:bq} {c:Int}
end
def dk (l:bq) (c:Int):Ty.d aA:=(l,(c,(-1,(false,()))))
theorem KL {l:bq} {c:Int} (h:DR (dk l c)) (g:bq→Int→bq × Int):iQ (dk l c) g=(dk (g l c).1 c,(g l c).2):=by
 unfold iQ;have e:m6 (dk l c)=(dk l c,0):=by unfold m6;rw [jX.2 h];rfl
 rw [e];rfl
theorem Kg {ids:List Int} {x:Int} (hx:x ∈ ids) (h:1≤x∧x≤100000):∀ g:Ty.d cI,g.1=a_ aG x→oy ids g=true:=fun g hg=>by
 have hh:yM ids x=true:=by unfold yM;rw [List.any_eq_true];exact ⟨x,hx,beq_self_eq_true _⟩
 unfold oy ou;rw [hg,vj (.inl rfl) h.1 h.2,kZ (fun q=>ig h q.symm)];show (!((true&&!yM ids x)||false))=true;rw [hh];rfl
theorem C9 {x:Int} (hx:1≤x∧x≤100000):a_ bO x≠ib:=fun q=>by
 have e:a_ bO x=bO++kA x:=by unfold a_;rw [aW hx];rfl
 rw [e] at q;have:=congrArg nb q;rw [gw] at this;cases this
theorem HJ {ids:List Int} {x:Int} (hx:x ∈ ids) (h:1≤x∧x≤100000):∀ g:Ty.d cI,g.1=a_ bO x→oy ids g=true:=fun g hg=>by
 have hh:yM ids x=true:=by unfold yM;rw [List.any_eq_true];exact ⟨x,hx,beq_self_eq_true _⟩
 unfold oy ou;rw [hg,vj (.inr rfl) h.1 h.2,kZ (C9 h)];show (!((true&&!yM ids x)||false))=true;rw [hh];rfl
theorem HD (ids:List Int):∀ g:Ty.d cI,g.1=gg→oy ids g=true:=fun g hg=>by unfold oy ou;rw [hg,OU,kZ (fun q=>by have:=congrArg nb q;cases this)];rfl
theorem G0 {ids:List Int} (h:1≤ids.length):bi ids ∈ ids:=by unfold bi;exact gR (by omega)
def LB (pl:ag) (b:Int):Prop:=b=1∨∃ p ∈ pl,@Eq Int p.2.2.2.1.2.1 (b-1)
theorem EN {pl:ag} {d0 d:aR} {l0 la:Int} (h:gr [] pl (d0,l0,0)=(d,la,0)) (hm:cB pl=[]):ia (d0,(l0,(0,()))) pl=(d,(la,(0,()))):=by have e:ia (d0,(l0,(0,()))) pl=(bif (gr [] pl (d0,l0,0)).2.2==0&&decide ((cB pl).length > 0) then ((gr [] pl (d0,l0,0)).1,((gr [] pl (d0,l0,0)).2.1,(1,()))) else ((gr [] pl (d0,l0,0)).1,((gr [] pl (d0,l0,0)).2.1,((gr [] pl (d0,l0,0)).2.2,())))):=rZ pl pl 0 d0 l0 0 rfl (Nat.zero_le _);rw [e,h,hm];rfl
theorem Ky {y:Ty.d aA} (hy:DR y) {L:s9} (hL:1≤L.length) (ht:∀ x ∈ L,fT y (a_ aG x.1)=some (aU x.2)∧∀ r ∈ x.2,bg r=true) {dir:aR} {b:Int} (j:JT (jV L) dir b) (hb:LB (jV L) b) :
 (m5 y (L.map (·.1))).1=dir∧(m5 y (L.map (·.1))).2.2.1=0∧aQ ((m5 y (L.map (·.1))).2.1+1)=b:=by
 obtain ⟨la,hg⟩:=j.gr;have key:(m5 y (L.map (·.1))).2.2.1=0∧LE.le (α:=Int) (m5 y (L.map (·.1))).2.1 (b-1)∧LE.le (α:=Int) 0 (m5 y (L.map (·.1))).2.1:=by
  obtain ⟨x0,L',rfl⟩:∃ x L',L=x::L':=by
   cases L with
   | nil=>cases hL
   | cons x L'=>exact ⟨x,L',rfl⟩
  have epl:jV (x0::L')=uD x0++jV L':=rfl;have e1:lO y ((x0::L').map (·.1))=jV (x0::L'):=qW hy ht;have e2:lO y (L'.map (·.1))=jV L':=qW hy fun x hx=>ht x (kS _ hx)
  have lo:=j.lo;have bat:∀ p ∈ jV (x0::L'),LE.le (α:=Int) p.2.2.2.1.2.1 (b-1):=fun p hp=>by have:=j.bat p hp;exact Int.le_sub_one_of_lt this
  have b0:LE.le (α:=Int) 0 (b-1):=by omega
  unfold m5;cases c:o_ y (((x0::L').map (·.1)).getD 0 0) with
  | false =>simp only [aJ];rw [e1,Hz hg j.mark];obtain ⟨l1,_,l3⟩:=wJ (jV (x0::L')) [] ([],0,0) (by rw [hg]);have l3:=l3 (b-1) b0 bat;rw [hg] at l1 l3;exact ⟨rfl,l3,l1⟩
  | true =>
   simp only [aa];have ed:((x0::L').map (·.1)).drop 1=L'.map (·.1):=rfl;have ex:((x0::L').map (·.1)).getD 0 0=x0.1:=rfl;rw [ed,ex,e2];rw [ex] at c;obtain ⟨t1,t2⟩:=ht x0 il;unfold o_ at c;simp only [iE] at c;obtain ⟨_,_,c⟩:=c;have es:gf y x0.1=aU x0.2:=by unfold gf;rw [iv hy,t1];rfl
   rw [es] at c;unfold og at c;simp only [iE,beq_iff_eq] at c;obtain ⟨f1,_,f3,f4⟩:=c;obtain ⟨⟨la0,k1⟩,k2,k3,k4⟩:=JA (id:=x0.1) t2 f1;rw [f3] at k4;rw [uA.1 f4] at k1;have k1:gr [] (uD x0) ([],0,0)=((eG y x0.1).2.2.1,la0,0):=k1;have k2:∀ b,fh b (uD x0)=[]:=k2;have k3:cB (uD x0)=[]:=k3;have q1:gr [] (jV L') ((eG y x0.1).2.2.1,la0,0)=(dir,la,0):=by have:=hg;rw [epl,sw,k1,List.nil_append] at this;have q:=IJ k2 k3 (jV L') [] ((eG y x0.1).2.2.1,la0,0);rw [List.append_nil] at q;rw [← q];exact this
   obtain ⟨v1,v2⟩:=G6 (jV L') [] (eG y x0.1).2.2.1 (eG y x0.1).2.1 la0 0;rw [q1] at v1 v2;have q2:gr [] (jV L') ((eG y x0.1).2.2.1,(eG y x0.1).2.1,0)=(dir,(gr [] (jV L') ((eG y x0.1).2.2.1,(eG y x0.1).2.1,0)).2.1,0):=Prod.ext v1 (Prod.ext rfl v2);have hm:cB (jV L')=[]:=by have:=j.mark;rw [epl,mZ,k3] at this;exact this
   rw [EN q2 hm];refine ⟨rfl,?_⟩;have hmark:∃ p ∈ uD x0,@Eq Int p.2.2.2.1.2.1 (eG y x0.1).2.1:=by
    rw [← f3];have hb:(gE x0.1 (aU x0.2)).2=true:=f1;have hsp:uD x0=bZ x0.1 (c_ (aU x0.2)).1:=by unfold uD;rw [vA t2]
    rw [hsp];unfold gE at hb ⊢;cases w1:(c_ (aU x0.2)).2 != ((aU x0.2).size:Int) with
    | true=>rw [w1] at hb;cases hb
    | false =>
     rw [w1] at hb;simp only [aJ] at hb ⊢;generalize (c_ (aU x0.2)).1=l at hb ⊢;cases w2:l.length==0 with
     | true=>rw [w2] at hb;cases hb
     | false =>
      rw [w2] at hb;simp only [aJ] at hb ⊢;have hne:l.length≠0:=by simpa using w2
      have hm:l.getD (l.length-1) (Ty.z d_) ∈ l:=by show (l[l.length-1]?).getD _ ∈ l;rw [List.getElem?_eq_getElem (by omega)];exact List.getElem_mem _
      generalize l.getD (l.length-1) (Ty.z d_)=mk at hb hm ⊢;refine ⟨(x0.1,mk),List.mem_map.2 ⟨mk,hm,rfl⟩,?_⟩;revert hb;cases mk.2.2.1.1 != 5 <;> cases !decide ((1:Int)≤x0.1∧x0.1≤100000) <;> cases qM (oF mk.2.2.1.2.1) none (l.take (l.length-1)) <;> cases jr mk.2.2.1 (bZ x0.1 (l.take (l.length-1))) <;> intro hb <;> first | rfl | cases hb
   obtain ⟨pm,m1,m2⟩:=hmark;have mb:LE.le (α:=Int) (eG y x0.1).2.1 (b-1):=by have:=bat pm (by rw [epl];exact List.mem_append_left _ m1);rw [m2] at this;exact this
   obtain ⟨l1,_,l3⟩:=wJ (jV L') [] ((eG y x0.1).2.2.1,(eG y x0.1).2.1,0) (by rw [q2]);refine ⟨l3 (b-1) mb fun p hp=>bat p (by rw [epl];exact List.mem_append_right _ hp),Int.le_trans ?_ l1⟩;obtain ⟨x,hx,s,hs,e⟩:=xY (L:=x0::L') (p:=pm) (by rw [epl];exact List.mem_append_left _ m1);obtain ⟨_,i2,_⟩:=qp x.2 ⟨#[]⟩ ⟨#[]⟩ (ht x hx).2 s hs;have mr:bg pm.2.2.2.1=true:=by rw [e];exact i2
   have:=(tK mr).1;rw [m2] at this;exact this
 obtain ⟨z,up,dn⟩:=key;have j2:=OC hy hL ht z;obtain ⟨la2,hg2⟩:=j2.gr;rw [hg] at hg2;refine ⟨(congrArg (·.1) hg2).symm,z,?_⟩;have lo:=j.lo;have hi:=j.hi;have e:aQ ((m5 y (L.map (·.1))).2.1+1)=(m5 y (L.map (·.1))).2.1+1:=aF (by omega) (by omega);rw [e] at j2 ⊢;have lo2:=j2.lo;rcases hb with q | ⟨p,hp,q⟩
 · omega
 · have:=j2.bat p hp;rw [q] at this;omega
structure OP (st:Ty.d aE) (d:Ty.d aA):Prop where
 mi:∃ L,TX st d L∧JT (jV L) st.2.1 st.2.2.1∧LB (jV L) st.2.2.1
 live:fT d gg=some (cA st.1)
 only:∀ f ∈ d.1,f.1=gg∨(∃ x ∈ st.1.2.1,f.1=a_ aG x)∨f.1=a_ bO (st.1.2.1.getD 0 0)
 rest:d.2=(100000,(-1,(false,())))
theorem OP.MI {st:Ty.d aE} {d:Ty.d aA} (h:OP st d):MI st d:=by obtain ⟨L,t,j,_⟩:=h.mi;exact ⟨L,t,j⟩
theorem wh {d:Ty.d aA}:∀ l:List Int,(∀ x ∈ l,(bJ d (a_ aG x)).2=true∧(c_ (gf d x)).2=((gf d x).size:Int))→mC d l=true
 | [],_=>rfl
 | x::l,h=>by obtain ⟨h1,h2⟩:=h x il;show (wN d x l.isEmpty&&mC d l)=true;rw [wh l fun y hy=>h y (kS _ hy)];unfold wN;rw [h1,aY (by omega)];cases l.isEmpty <;> rfl
theorem KQ {ids:List Int} {d:Ty.d aA} (h:∀ f ∈ d.1,oy ids f=true):va d ids=[]:=by
 unfold va;cases jO d with
 | false=>rfl
 | true =>rw [aa,D5,List.nil_append,List.map_eq_nil_iff,List.filter_eq_nil_iff];intro f hf c;have:=h f hf;unfold oy at this;rw [c] at this;cases this
theorem LA {ids:List Int} {d:Ty.d aA} (h:∀ f ∈ d.1,oy ids f=true):m7 ids d=(d,0):=by unfold m7;rw [KQ h];rfl
theorem Pj {st:Ty.d aE} {d:Ty.d aA} (h:OP st d) :
 ∃ hi,g6 d=((st.1,(st.2.1,(st.2.2.1,(st.2.2.2.1,(hi,()))))),((dY d (bT st)).1,0))∧OP (st.1,(st.2.1,(st.2.2.1,(st.2.2.2.1,(hi,()))))) (dY d (bT st)).1∧∀ s,fT (dY d (bT st)).1 s=fT d s:=by
 obtain ⟨L,t,j,lb⟩:=h.mi;have hd:DR d:=t.disk;have hl:dz st.1=true:=t.live;obtain ⟨n1,n2,n3,n4⟩:=gY (n:=st.1.1) (ids:=st.1.2.1) hl;obtain ⟨_,_,g1,_,_⟩:=bo (nx:=st.1.1) (ids:=st.1.2.1) hl;have hin:∀ i ∈ st.1.2.1,1≤i∧i≤100000:=fun i hi=>⟨(n3 i hi).1,Oy (n3 i hi).2 n2⟩
 have hlast:=G0 g1;have hfull:∀ x ∈ st.1.2.1,(bJ d (a_ aG x)).2=true∧(c_ (gf d x)).2=((gf d x).size:Int):=fun x hx=>by obtain ⟨s,h1,h2⟩:=t.bt.full x hx;refine ⟨by rw [xT hd,h1];rfl,?_⟩;unfold gf;rw [iv hd,h1];exact D6 h2
 have hone:d=dk d.1 100000:=Prod.ext rfl h.rest;have hact:∃ a,fT d (bT st)=some a∧FL a:=t.bt.full _ hlast;obtain ⟨a,ha,_⟩:=hact;have hsome:∃ f,bU d.1 (bT st)=some f:=by
  unfold fT at ha;cases q:bU d.1 (bT st) with
  | none=>rw [q] at ha;cases ha
  | some f=>exact ⟨f,rfl⟩
 obtain ⟨f,hf⟩:=hsome;have hsyn:dY d (bT st)=(dk (lQ (fun f=>(f.1,(f.2.1,((f.2.1.size:Int),f.2.2.2)))) d.1 (bT st)) 100000,0):=by have e:=KL (l:=d.1) (c:=100000) (hone▸hd) (wC (bT st));rw [← hone] at e;refine Eq.trans e ?_;unfold wC;rw [hf];rfl
 have hy:=mj hd (bT st);have kt:∀ s,fT (dY d (bT st)).1 s=fT d s:=fun s=>lH
 have hsz:(c_ (gf d (bi st.1.2.1))).2=st.2.2.2.1:=by rw [(hfull _ hlast).2];have:=t.tail a ha;rw [this];unfold gf;rw [iv hd,show a_ aG (bi st.1.2.1)=bT st from rfl,ha];rfl
 have hfix:mf (bi st.1.2.1) d=dY d (bT st):=by unfold mf;rw [aY (by have:=(hfull _ hlast).2;omega)];rfl
 have ht2:∀ x ∈ L,fT (dY d (bT st)).1 (a_ aG x.1)=some (aU x.2)∧∀ r ∈ x.2,bg r=true:=fun x hx=>by rw [kt];exact t.text x hx
 have hL:1≤L.length:=by have:=congrArg List.length t.ids;rw [List.length_map] at this;omega
 obtain ⟨gd,gc,gb⟩:=Ky hy hL ht2 j lb;rw [← t.ids] at gd gc gb;have hnames:∀ g ∈ (dY d (bT st)).1.1,∃ g' ∈ d.1,g.1=g'.1:=fun g hg=>by
  have e:(dY d (bT st)).1.1=lQ (fun f=>(f.1,(f.2.1,((f.2.1.size:Int),f.2.2.2)))) d.1 (bT st):=by rw [hsyn];rfl
  rw [e] at hg;rcases wD hg with w | ⟨g',h1,h2⟩
  · exact ⟨g,w,rfl⟩
  · exact ⟨g',(nB h1).1,by rw [h2]⟩
 have honly:∀ g ∈ (dY d (bT st)).1.1,g.1=gg∨(∃ x ∈ st.1.2.1,g.1=a_ aG x)∨g.1=a_ bO (st.1.2.1.getD 0 0):=fun g hg=>by obtain ⟨g',h1,h2⟩:=hnames g hg;rw [h2];exact h.only g' h1
 have hkeep:∀ g ∈ (dY d (bT st)).1.1,oy st.1.2.1 g=true:=fun g hg=>by
  rcases honly g hg with w | ⟨x,hx,w⟩ | w
  · exact HD _ g w
  · exact Kg hx (hin x hx) g w
  · exact HJ (gR (by omega)) (hin _ (gR (by omega))) g w
 have htext:bJ d gg=(cA st.1,true):=by have e1:=iv hd gg;have e2:=xT hd gg;rw [h.live] at e1 e2;exact Prod.ext e1 e2
 refine ⟨bif o_ (dY d (bT st)).1 (st.1.2.1.getD 0 0) then st.1.2.1.getD 0 0 else 0,?_,?_,kt⟩
 · unfold g6;rw [jX.2 hd,htext];have e3:d.2.2.2.1=false:=by rw [h.rest]
   rw [e3];simp only [fw,aJ];rw [BW hl];simp only [fw,aJ];unfold EK;rw [wh st.1.2.1 hfull,hfix,hsz];have e4:(dY d (bT st)).2=0:=by rw [hsyn]
   rw [e4];simp only [fw,aJ,bne_self_eq_false];unfold NK;rw [gc,LA hkeep];simp only [bne_self_eq_false,aJ];unfold DY;rw [gd,gb]
 · exact ⟨⟨L,⟨t.live,hy,t.ids,ht2,fun s q=>t.tail s ((kt _).symm.trans q)⟩,j,lb⟩,(kt _).trans h.live,honly,by rw [hsyn];rfl⟩
theorem Oz (nm:ByteArray):∀ (rs:ja) (d:Ty.d aA) (F U:Nat),RM d F U→(fT d nm).isSome=true→U+210*rs.length≤100000→RM (BR nm rs (d,0)).1 F (U+210*rs.length)∧(BR nm rs (d,0)).2=0∧(fT (BR nm rs (d,0)).1 nm).isSome=true
 | [],d,F,U,h,hx,_=>⟨h.mono (Nat.le_refl _) (by simp),rfl,hx⟩
 | x::rs,d,F,U,h,hx,hU=>by
  rw [j7] at hU;obtain ⟨a1,a2⟩:=Hl h hx (wF x) (by omega);have a3:=rR (d:=d) (s:=nm) (x:=aS (aI x));rw [a2] at a3;have a4:(fT (jS d nm (aS (aI x))).1 nm).isSome=true:=by
   rw [a3];cases q:fT d nm with
   | none=>rw [q] at hx;cases hx
   | some t=>rfl
  have e:BR nm (x::rs) (d,0)=BR nm rs ((jS d nm (aS (aI x))).1,0):=by show BR nm rs (fD (d,0) fun y=>jS y nm (aS (aI x)))=_;congr 1;exact Prod.ext rfl a2
  obtain ⟨b1,b2,b3⟩:=Oz nm rs _ F (U+210) a1 a4 (by omega);rw [e];exact ⟨b1.mono (Nat.le_refl _) (by rw [j7];omega),b2,b3⟩
theorem GG {F U:Nat}:∀ (l:List ByteArray) (d:Ty.d aA),RM d F U→RM (bj l d).1 F U∧(bj l d).2=0
 | [],d,h=>⟨h,rfl⟩
 | s::l,d,h=>by obtain ⟨a1,a2,_⟩:=Iu h s;show RM (fD (gU s d) (bj l)).1 F U∧(fD (gU s d) (bj l)).2=0;rw [oZ a2];exact GG l _ a1
theorem Mv {F U:Nat}:∀ (l:List Int) (d:Ty.d aA),RM d F U→RM (nA l d).1 F U∧(nA l d).2=0
 | [],d,h=>⟨h,rfl⟩
 | x::l,d,h=>by obtain ⟨a1,a2⟩:=GG [a_ aG x,a_ bO x] d h;show RM (fD (bj [a_ aG x,a_ bO x] d) (nA l)).1 F U∧(fD (bj [a_ aG x,a_ bO x] d) (nA l)).2=0;rw [oZ a2];exact Mv l _ a1
theorem Jb {n:Int} (h:1≤n∧n≤100000):jQ (a_ bO n)=true:=by
 have hz:=nT (n:=n) (by omega) (by omega);have h3:bO.size=4:=rfl;have e:a_ bO n=bO++kA n:=by unfold a_;rw [aW h];rfl
 rw [e];have hs:(bO++kA n).size=4+(kA n).size:=by rw [ByteArray.size_append,h3]
 have hl:(kA n).size≤6:=by rw [← df,pu,if_neg (by omega),List.length_map];have:=kz 5 n.toNat (by omega);omega
 unfold jQ;rw [aW (show 1≤(bO++kA n).size∧(bO++kA n).size≤12 from ⟨by omega,by omega⟩),Bool.and_true,gw,pu,if_neg (by omega)];show ly (104::105::110::116::(Lib.decDigits n.toNat).map UInt8.toNat)=true;simp only [ly];rw [xb _ fun b hb=>?_]
 · decide
 · obtain ⟨x,hx,rfl⟩:=List.mem_map.1 hb;exact ku _ x hx
theorem H4 {st:Ty.d aE} {d:Ty.d aA} {F U:Nat} (h:RM d F U) (hs:dw st d=true) (hd:(bY st.2.1 d).2=0) (h20:(bY st.2.1 d).1.length≤20) (hF:F+5<130) (hU:U+6000≤100000) (hn:LE.le (α:=Int) (st.1.1+2) 100000) :
 (bv st d).2.2=0∧RM (bv st d).2.1 (F+5) (U+6000):=by
 obtain ⟨g1,_,_⟩:=dT hs;obtain ⟨n1,n2,n3,_⟩:=gY (n:=st.1.1) (ids:=st.1.2.1) g1.live;have e:bv st d=cS (se st.1.1) st d (bY st.2.1 d).1:=by unfold bv;rw [hs,aY (show ¬ st.1.1+2 > (100000:Int) from Int.not_lt.2 hn),hd];rfl
 rw [e];generalize (bY st.2.1 d).1=l at h20;have key:∀ n:Int,1≤n→n+2≤100000→(1≤n∧n≤100000)∧(1≤n+1∧n+1≤100000):=by omega
 obtain ⟨m1,m2⟩:=key st.1.1 n1 hn;have hk:(fV l (st.2.2.1-1)).length≤21:=by unfold fV;rw [nE,List.length_map,List.length_singleton];omega
 obtain ⟨a1,a2⟩:=vb h (by omega) (wI m1);have a3:=lw a2;have ea:ax (a_ aG st.1.1) d=((ax (a_ aG st.1.1) d).1,0):=Prod.ext rfl a2;obtain ⟨b1,b2,b3⟩:=Oz (a_ aG st.1.1) (fV l (st.2.2.1-1)) _ _ _ a1 (by rw [a3];rfl) (by omega);rw [← ea] at b1 b2 b3;obtain ⟨c1,c2⟩:=xG b1 b3;have w1:dQ st.1.1 l (st.2.2.1-1) d=dY (BR (a_ aG st.1.1) (fV l (st.2.2.1-1)) (ax (a_ aG st.1.1) d)).1 (a_ aG st.1.1):=by unfold dQ;rw [oZ b2]
 rw [← w1] at c1 c2;obtain ⟨f1,f2⟩:=vb c1 (by omega) (wI m2);obtain ⟨i1,i2,_⟩:=Ie f1 (by omega) (Jb m1) (qE _) (t:=se st.1.1 (bJ (ax (a_ aG (st.1.1+1)) (dQ st.1.1 l (st.2.2.1-1) d).1).1 (a_ aG st.1.1)).1) (by omega);have w2:i8 (se st.1.1) st.1.1 (ax (a_ aG (st.1.1+1)) (dQ st.1.1 l (st.2.2.1-1) d).1).1=lM (a_ bO st.1.1) (se st.1.1 (bJ (ax (a_ aG (st.1.1+1)) (dQ st.1.1 l (st.2.2.1-1) d).1).1 (a_ aG st.1.1)).1) (ax (a_ aG (st.1.1+1)) (dQ st.1.1 l (st.2.2.1-1) d).1).1:=by unfold i8;rw [i2];rfl
 rw [← w2] at i1 i2;obtain ⟨p1,p2⟩:=uZ i1 (by omega) (by omega) (fu st.1.1);obtain ⟨o1,o2⟩:=Mv st.1.2.1 _ p1;unfold cS;rw [c2,f2,i2,p2];simp only [bne_self_eq_false,aJ];refine ⟨?_,?_⟩
 · show gh (nA st.1.2.1 (bE (fu st.1.1) (i8 (se st.1.1) st.1.1 (ax (a_ aG (st.1.1+1)) (dQ st.1.1 l (st.2.2.1-1) d).1).1).1).1).2=0;rw [o2];rfl
 · exact RM.mono o1 (by omega) (by omega)
structure WK (st:Ty.d aE) (d:Ty.d aA):Prop where
 on:∀ s,(fT d s).isSome=true→s=gg∨(∃ x ∈ st.1.2.1,s=a_ aG x)∨s=a_ bO (st.1.2.1.getD 0 0)
 live:fT d gg=some (cA st.1)
theorem r_ {v:Ty.d cv} {d:Ty.d aA} (hd:DR d) (z:(bE v d).2=0):fT (bE v d).1 ib=none:=by have hx:=jv ib (cA v) d hd;unfold bE at z ⊢;obtain ⟨z1,e,z2⟩:=lD z;rw [e];exact OJ hx (by decide) z2
theorem NJ {st:Ty.d aE} {d:Ty.d aA} (z:(iC st d).2.2=0) :
 (bE (kw st) (ax (a_ aG st.1.1) (dY d (bT st)).1).1).2=0∧iC st d=(uv st,((bE (kw st) (ax (a_ aG st.1.1) (dY d (bT st)).1).1).1,0)):=by
 unfold iC at z ⊢;by_cases c1:(st.1.2.1.length:Int)≥60
 · rw [aW c1] at z;exact absurd z (by show (5:Int)≠0;decide)
 by_cases c2:st.1.1≥(100000:Int)
 · rw [aY c1,aW c2] at z;exact absurd z (by show (5:Int)≠0;decide)
 rw [aY c1,aY c2] at z ⊢;simp only [aJ] at z ⊢;generalize dY d (bT st)=r1 at z ⊢;generalize ax (a_ aG st.1.1) r1.1=r2 at z ⊢;generalize bE (kw st) r2.1=r3 at z ⊢;have tlz:∀ r:RD,(r.2 != 0)=true→(tl r).2≠0:=fun r q e=>by have:=m4 r;rw [e,q] at this;cases this
 cases e1:r1.2 != 0 with
 | true=>rw [e1] at z;exact absurd z (tlz r1 e1)
 | false =>
  rw [e1] at z;simp only [aJ] at z ⊢;cases e2:r2.2 != 0 with
  | true=>rw [e2] at z;exact absurd z (tlz r2 e2)
  | false =>
   rw [e2] at z;simp only [aJ] at z ⊢;cases e3:r3.2 != 0 with
   | true =>
    rw [e3] at z;simp only [aa] at z;refine absurd z ?_;unfold qt;cases q:(tl r3).2==2 with
    | false=>exact tlz r3 e3
    | true =>
     show (bif (bj [ib,a_ aG st.1.1] (tl r3).1).2==0 then (2:Int) else gh (bj [ib,a_ aG st.1.1] (tl r3).1).2)≠0;cases q2:(bj [ib,a_ aG st.1.1] (tl r3).1).2==0 with
     | true=>show (2:Int)≠0;decide
     | false =>have:=iO (bj [ib,a_ aG st.1.1] (tl r3).1).2;rw [q2] at this;exact beq_eq_false_iff_ne.1 this
   | false=>exact ⟨fJ e3,rfl⟩
theorem Jz {ids:List Int} (h:1≤ids.length) (l:List Int):(ids++l).getD 0 0=ids.getD 0 0:=by
 cases ids with
 | nil=>cases h
 | cons _ _=>rfl
theorem Pd {st:Ty.d aE} {d:Ty.d aA} (hl:dz st.1=true) (hd:DR d) (w:WK st d) (z:(iC st d).2.2=0):WK (iC st d).1 (iC st d).2.1:=by
 obtain ⟨_,_,g1,_,_⟩:=bo (nx:=st.1.1) (ids:=st.1.2.1) hl;obtain ⟨z3,e⟩:=NJ z;have h1:=mj hd (bT st);have h2:=jF (a_ aG st.1.1) _ h1;rw [e];refine ⟨fun s hs=>?_,rJ h2 z3⟩;have hs:(fT (bE (kw st) (ax (a_ aG st.1.1) (dY d (bT st)).1).1).1 s).isSome=true:=hs;by_cases q1:s=gg
 · exact .inl q1
 by_cases q2:s=ib
 · rw [q2,r_ h2 z3] at hs;cases hs
 rw [fo (fun q=>q2 q.symm) (fun q=>q1 q.symm)] at hs;show s=gg∨(∃ x ∈ st.1.2.1++[st.1.1],s=a_ aG x)∨s=a_ bO ((st.1.2.1++[st.1.1]).getD 0 0);by_cases q3:s=a_ aG st.1.1
 · exact .inr (.inl ⟨st.1.1,List.mem_append_right _ (List.mem_singleton.2 rfl),q3⟩)
 rw [lf (fun q=>q3 q.symm),lH] at hs;rw [Jz g1];rcases w.on s hs with v | ⟨x,hx,v⟩ | v
 · exact .inl v
 · exact .inr (.inl ⟨x,List.mem_append_left _ hx,v⟩)
 · exact .inr (.inr v)
theorem Ma {st:Ty.d aE} {d:Ty.d aA} (hl:dz st.1=true) (w:WK st d) (r:Ty.d bf):WK (ip st d r).1.1 (ip st d r).1.2.1∧(ip st d r).1.1.1=st.1:=by
 obtain ⟨n1,n2,n3,_⟩:=gY (n:=st.1.1) (ids:=st.1.2.1) hl;obtain ⟨_,_,g1,_,_⟩:=bo (nx:=st.1.1) (ids:=st.1.2.1) hl;have hlast:=G0 g1;have hv:gg≠bT st:=jW ⟨(n3 _ hlast).1,Oy (n3 _ hlast).2 n2⟩;have key:WK st (jS d (bT st) (aS (aI r))).1:=by
  refine ⟨fun s hs=>?_,(uz fun q=>hv q.symm).trans w.live⟩;by_cases q:s=bT st
  · exact .inr (.inl ⟨_,hlast,q⟩)
  · rw [uz fun v=>q v.symm] at hs;exact w.on s hs
 unfold ip;cases (jS d (bT st) (aS (aI r))).2 != 0 <;> exact ⟨⟨key.on,key.live⟩,rfl⟩
theorem Pk {st:Ty.d aE} {d:Ty.d aA} (hb:BT st d) (w:WK st d) (r:Ty.d bf) (z:(eW st d r).1.2.2=0):WK (eW st d r).1.1 (eW st d r).1.2.1:=by
 unfold eW at z ⊢;cases c:decide (st.2.2.2.1 > 0)&&decide (st.2.2.2.1+ar r > 200) with
 | false=>exact (Ma hb.live w r).1
 | true =>
  rw [c] at z;simp only [aa] at z ⊢;cases c2:(iC st d).2.2 != 0 with
  | true =>rw [c2] at z;have:(iC st d).2.2=0:=z;rw [this] at c2;cases c2
  | false =>have z2:=fJ c2;exact (Ma (HZ hb z2).live (Pd hb.live hb.disk w z2) r).1
theorem IY:∀ (l:ja) (st:Ty.d aE) (d:Ty.d aA) (ps:ag),BT st d→(∀ r ∈ l,bg r=true)→WK st d→(dC l st d ps).1.2.2=0→WK (dC l st d ps).1.1 (dC l st d ps).1.2.1
 | [],_,_,_,_,_,w,_=>w
 | r::l,st,d,ps,hb,hr,w,z=>by
  unfold dC at z ⊢;cases c:(eW st d r).1.2.2 != 0 with
  | true =>rw [c] at z;have:(eW st d r).1.2.2=0:=z;rw [this] at c;cases c
  | false =>rw [c] at z;have z2:=fJ c;obtain ⟨b1,_,_⟩:=IU hb (hr r il) z2;exact IY l _ _ _ b1 (fun x hx=>hr x (kS _ hx)) (Pk hb w r z2) z
theorem MY {st:Ty.d aE} {d:Ty.d aA} {l:eU} (hs:dw st d=true) (hp:eF l=true) (hb:LE.le (α:=Int) st.2.2.1 1000000) (w:WK st d) (z:(cN st d l).2.2=0):WK (cN st d l).1 (cN st d l).2.1:=by
 obtain ⟨g1,g2,g3⟩:=dT hs;have hBT:=tJ hs;unfold cN at z ⊢;have key:=IY (da l st.2.2.1) (lP st) d [] ⟨hBT.live,hBT.disk,hBT.full,hBT.tail⟩ (oO hp g3 hb) ⟨w.on,w.live⟩;generalize dC (da l st.2.2.1) (lP st) d []=q at z key ⊢;unfold yP at z ⊢;cases c:q.1.2.2 != 0 with
 | true =>rw [c] at z;have:q.1.2.2=0:=z;rw [this] at c;cases c
 | false =>
  rw [c] at z;simp only [aJ] at z ⊢;have k:=key (fJ c);cases c2:(dY q.1.2.1 (bT q.1.1)).2 != 0 with
  | true =>rw [c2] at z;exfalso;have:=m4 (dY q.1.2.1 (bT q.1.1));rw [show (tl (dY q.1.2.1 (bT q.1.1))).2=0 from z,c2] at this;cases this
  | false=>exact ⟨fun s hs=>k.on s (by rw [← lH (d:=q.1.2.1) (s:=bT q.1.1)];exact hs),lH.trans k.live⟩
theorem AX {st:Ty.d aE} {d:Ty.d aA} {L:s9} (h:TX st d L):lO d st.1.2.1=jV L:=by rw [h.ids];exact qW h.disk h.text
theorem OP.WK {st:Ty.d aE} {d:Ty.d aA} (h:OP st d):WK st d:=⟨fun s hs=>by
 unfold fT at hs;cases q:bU d.1 s with
 | none=>rw [q] at hs;cases hs
 | some f =>
  obtain ⟨m1,m2⟩:=nB q;rw [← m2];exact h.only f m1,h.live⟩
theorem OP.of {st:Ty.d aE} {d:Ty.d aA} (hm:∃ L,TX st d L∧JT (jV L) st.2.1 st.2.2.1∧LB (jV L) st.2.2.1) (w:G.WK st d) (hr:d.2=(100000,(-1,(false,())))):OP st d :=
 ⟨hm,w.live,fun f hf=>w.on f.1 (by
  unfold fT;cases q:bU d.1 f.1 with
  | none=>exact absurd q (GQ hf)
  | some g=>rfl),hr⟩
theorem OP.disk {st:Ty.d aE} {d:Ty.d aA} (h:OP st d):DR d:=by obtain ⟨L,t,_⟩:=h.mi;exact t.disk
theorem OP.rm {st:Ty.d aE} {d:Ty.d aA} (h:OP st d):RM d d.1.length (du d.1) :=
 ⟨h.disk,by rw [h.rest],by rw [h.rest],by rw [h.rest],Nat.le_refl _,Nat.le_refl _⟩
theorem Dr {d:Ty.d aA} {F U:Nat} (h:RM d F U):d.2=(100000,(-1,(false,()))):=Prod.ext h.cap (Prod.ext h.fuel (Prod.ext h.up rfl))
theorem NT {st:Ty.d aE} {d:Ty.d aA} {l:eU} (h:OP st d) (hp:eF l=true) (hb:LE.le (α:=Int) st.2.2.1 1000000) (ha:oC st.2.1 l≤20) (hF:d.1.length+20<130) (hU:du d.1+4000≤100000) (hi:st.1.2.1.length≤50) (hn:LE.le (α:=Int) st.1.1 99000) :
 (cN st d l).2.2=0∧OP (cN st d l).1 (cN st d l).2.1∧(cN st d l).1.2.2.1=st.2.2.1+1:=by
 obtain ⟨L,t,j,lb⟩:=h.mi;have hmi:MI st d:=⟨L,t,j⟩;obtain ⟨hs,hei⟩:=hmi.store;obtain ⟨g1,g2,g3⟩:=dT hs;obtain ⟨a1,a2,_,_⟩:=M8 h.rm hs hp hb hF hU hi hn;have hw:=MY hs hp hb h.WK a2;have hm2:=N4 hmi hp hb ha (show dn (cN st d l).2.1=false from a1.up);obtain ⟨L2,t2,j2⟩:=hm2;have t0:TX (lP st) d L:=⟨t.live,t.disk,t.ids,t.text,t.tail⟩;obtain ⟨L',q,t',e1,e2,e3,_⟩:=EY (da l st.2.2.1) (lP st) d [] L t0 (oO hp g3 hb);have form:(dC (da l st.2.2.1) (lP st) d []).1.2.2=0∧(cN st d l).1.1=(dC (da l st.2.2.1) (lP st) d []).1.1.1∧(∀ s,fT (cN st d l).2.1 s=fT (dC (da l st.2.2.1) (lP st) d []).1.2.1 s)∧(cN st d l).1.2.2.1=(dC (da l st.2.2.1) (lP st) d []).1.1.2.2.1:=by
  have z:=a2;unfold cN at z ⊢;generalize dC (da l st.2.2.1) (lP st) d []=q at z ⊢;unfold yP at z ⊢;cases c:q.1.2.2 != 0 with
  | true =>rw [c] at z;have:q.1.2.2=0:=z;rw [this] at c;cases c
  | false =>
   rw [c] at z;simp only [aJ] at z ⊢;cases c2:(dY q.1.2.1 (bT q.1.1)).2 != 0 with
   | true =>rw [c2] at z;exfalso;have:=m4 (dY q.1.2.1 (bT q.1.1));rw [show (tl (dY q.1.2.1 (bT q.1.1))).2=0 from z,c2] at this;cases this
   | false=>exact ⟨fJ c,rfl,fun s=>lH,rfl⟩
 obtain ⟨z1,f1,f2,f3⟩:=form;obtain ⟨_,e4⟩:=e3 z1;have hbat:(cN st d l).1.2.2.1=st.2.2.1+1:=by rw [f3];exact ut _ _ _ _
 refine ⟨a2,OP.of ⟨L2,t2,j2,?_⟩ hw (Dr a1),hbat⟩;have epl:jV L2=jV L':=by
  rw [← AX t2,← AX t',f1];exact Ch fun x hx=>by unfold gf;rw [iv t2.disk,iv t'.disk,f2]
 right;have hseal:i_ 3 st.2.2.1 (l.map (gx st.2.2.1)) ∈ q.map gO:=by rw [e2,e4,List.take_length];unfold da;exact List.mem_append_right _ (List.mem_singleton.2 rfl)
 obtain ⟨p,hp1,hp2⟩:=List.mem_map.1 hseal;refine ⟨p,by rw [epl,e1];exact List.mem_append_right _ hp1,?_⟩;have e5:p.2.2.2.1=i_ 3 st.2.2.1 (l.map (gx st.2.2.1)):=hp2;rw [e5,hbat];exact (Int.add_sub_cancel st.2.2.1 1).symm
noncomputable def Bm (st:Ty.d aE) (d:Ty.d aA):RD:=bE (fu st.1.1) (i8 (se st.1.1) st.1.1 (ax (a_ aG (st.1.1+1)) (dQ st.1.1 (bY st.2.1 d).1 (st.2.2.1-1) d).1).1).1
theorem A9 {st:Ty.d aE} {d:Ty.d aA} (z:(bv st d).2.2=0):(Bm st d).2=0∧(bv st d).2.1=(nA st.1.2.1 (Bm st d).1).1∧(nA st.1.2.1 (Bm st d).1).2=0:=by
 have hm:=nH z;obtain ⟨g1,_,_⟩:=dT hm.store;obtain ⟨n1,n2,n3,_⟩:=gY (n:=st.1.1) (ids:=st.1.2.1) g1.live;have e:bv st d=cS (se st.1.1) st d (bY st.2.1 d).1:=by unfold bv;rw [hm.store,aY (show ¬ st.1.1+2 > (100000:Int) from Int.not_lt.2 hm.hi),hm.dump];rfl
 have hf:=hm.form;rw [e] at hf z ⊢;have hne:pY st≠(fu st.1.1,(ic st.1.1 (bY st.2.1 d).1 0,(st.2.2.1,(0,(0,()))))):=fun w=>by have w2:(st.1.1+2,st.1.2)=fu st.1.1:=congrArg (fun s:Ty.d aE=>s.1) w;have h3:st.1.2.1=[st.1.1,st.1.1+1]:=congrArg (fun v:Ty.d cv=>v.2.1) w2;have:=(n3 st.1.1 (by rw [h3];exact il)).2;exact absurd this (Int.lt_irrefl _)
 unfold Bm;unfold cS at hf z ⊢;generalize dQ st.1.1 (bY st.2.1 d).1 (st.2.2.1-1) d=a at hf z ⊢;generalize ax (a_ aG (st.1.1+1)) a.1=b at hf z ⊢;generalize i8 (se st.1.1) st.1.1 b.1=c at hf z ⊢;generalize bE (fu st.1.1) c.1=p at hf z ⊢;cases c1:a.2 != 0 with
 | true=>rw [c1] at hf;exact absurd hf hne
 | false =>
  rw [c1] at hf z;simp only [aJ] at hf z ⊢;cases c2:b.2 != 0 with
  | true=>rw [c2] at hf;exact absurd hf hne
  | false =>
   rw [c2] at hf z;simp only [aJ] at hf z ⊢;cases c3:c.2 != 0 with
   | true=>rw [c3] at hf;exact absurd hf hne
   | false =>
    rw [c3] at hf z;simp only [aJ] at hf z ⊢;cases c4:p.2 != 0 with
    | true=>rw [c4] at hf;exact absurd hf hne
    | false =>rw [c4] at z;simp only [aJ] at z ⊢;refine ⟨fJ c4,rfl,?_⟩;have h1:gh (nA st.1.2.1 p.1).2=0:=z;have h2:=iO (nA st.1.2.1 p.1).2;rw [h1] at h2;exact yd h2.symm
theorem zq {t:ByteArray}:∀ (l:List Int) (d:Ty.d aA),DR d→(nA l d).2=0→((∃ x ∈ l,t=a_ aG x∨t=a_ bO x)∨fT d t=none)→fT (nA l d).1 t=none
 | [],d,_,_,h=>by
  rcases h with ⟨x,hx,_⟩ | h
  · cases hx
  · exact h
 | x::l,d,hd,z,h=>by
  obtain ⟨z1,e,z2⟩:=lD (r:=bj [a_ aG x,a_ bO x] d) (f:=nA l) z;have hy:=k9 [a_ aG x,a_ bO x] d hd;show fT (fD (bj [a_ aG x,a_ bO x] d) (nA l)).1 t=none;rw [e];refine zq l _ hy z2 ?_;by_cases q:t=a_ aG x∨t=a_ bO x
  · refine .inr (rV _ d hd z1 (.inl ?_));rcases q with q | q <;> rw [q] <;> simp
  · rcases h with ⟨y,hy2,w⟩ | h
    · rcases List.mem_cons.1 hy2 with v | v
      · rw [v] at w;exact absurd w q
      · exact .inl ⟨y,v,w⟩
    · exact .inr (rV _ d hd z1 (.inr h))
theorem Ii {st:Ty.d aE} {d:Ty.d aA} (hd:DR d):DR (Bm st d).1:=by
 unfold Bm;refine mP _ _ ?_;have h1:=jF (a_ aG (st.1.1+1)) _ (sM st.1.1 (bY st.2.1 d).1 (st.2.2.1-1) hd);unfold i8;cases (lM (a_ bO st.1.1) (se st.1.1 (bJ (ax (a_ aG (st.1.1+1)) (dQ st.1.1 (bY st.2.1 d).1 (st.2.2.1-1) d).1).1 (a_ aG st.1.1)).1) (ax (a_ aG (st.1.1+1)) (dQ st.1.1 (bY st.2.1 d).1 (st.2.2.1-1) d).1).1).2==2 with
 | true=>exact k9 _ _ (jv _ _ _ h1)
 | false=>exact jv _ _ _ h1
theorem GF {st:Ty.d aE} {d:Ty.d aA} (hd:DR d) (w:WK st d) (z:(bv st d).2.2=0):WK (bv st d).1 (bv st d).2.1:=by
 have hm:=nH z;obtain ⟨g1,_,_⟩:=dT hm.store;obtain ⟨_,_,g5,_,_⟩:=bo (nx:=st.1.1) (ids:=st.1.2.1) g1.live;obtain ⟨z1,e,z2⟩:=A9 z;have hn:=Ii (st:=st) hd;refine ⟨fun s hs=>?_,by rw [hm.form];exact hm.live⟩;rw [hm.form];show s=gg∨(∃ x ∈ [st.1.1,st.1.1+1],s=a_ aG x)∨s=a_ bO st.1.1;rw [e] at hs;by_cases q1:s=gg
 · exact .inl q1
 by_cases q2:s=a_ aG st.1.1
 · exact .inr (.inl ⟨_,il,q2⟩)
 by_cases q3:s=a_ aG (st.1.1+1)
 · exact .inr (.inl ⟨_,kS _ il,q3⟩)
 by_cases q4:s=a_ bO st.1.1
 · exact .inr (.inr q4)
 exfalso;have hno:fT (nA st.1.2.1 (Bm st d).1).1 s=none:=by
  refine zq _ _ hn z2 ?_;by_cases q5:s=ib
  · right;rw [q5];have h1:=jF (a_ aG (st.1.1+1)) _ (sM st.1.1 (bY st.2.1 d).1 (st.2.2.1-1) hd);have h2:DR (i8 (se st.1.1) st.1.1 (ax (a_ aG (st.1.1+1)) (dQ st.1.1 (bY st.2.1 d).1 (st.2.2.1-1) d).1).1).1:=by
     unfold i8;cases (lM (a_ bO st.1.1) (se st.1.1 (bJ (ax (a_ aG (st.1.1+1)) (dQ st.1.1 (bY st.2.1 d).1 (st.2.2.1-1) d).1).1 (a_ aG st.1.1)).1) (ax (a_ aG (st.1.1+1)) (dQ st.1.1 (bY st.2.1 d).1 (st.2.2.1-1) d).1).1).2==2 with
     | true=>exact k9 _ _ (jv _ _ _ h1)
     | false=>exact jv _ _ _ h1
    exact r_ h2 z1
  · have same:fT (Bm st d).1 s=fT d s:=by
     unfold Bm;rw [fo (fun q=>q5 q.symm) (fun q=>q1 q.symm),qv (fun q=>q4 q.symm),lf (fun q=>q3 q.symm),zt (fun q=>q2 q.symm)]
    cases c:fT d s with
    | none=>exact .inr (same.trans c)
    | some t =>
     left;rcases w.on s (by rw [c];rfl) with v | ⟨x,hx,v⟩ | v
     · exact absurd v q1
     · exact ⟨x,hx,.inl v⟩
     · exact ⟨_,gR (by omega),.inr v⟩
 rw [hno] at hs;cases hs
theorem Am:∀ (rs:ja) (a:Int),(fG rs a).map (·.2.2.1)=rs
 | [],_=>rfl
 | r::rs,a=>by show r::(fG rs _).map (·.2.2.1)=r::rs;rw [Am rs]
theorem NR {st:Ty.d aE} {d:Ty.d aA} (h:OP st d) (hF:d.1.length+5<130) (hU:du d.1+6000≤100000) (hn:LE.le (α:=Int) (st.1.1+2) 100000) :
 (bv st d).2.2=0∧OP (bv st d).1 (bv st d).2.1∧(bv st d).1.2.2.1=st.2.2.1∧bY (bv st d).1.2.1 (bv st d).2.1=bY st.2.1 d:=by
 obtain ⟨L,t,j,lb⟩:=h.mi;have hmi:MI st d:=⟨L,t,j⟩;obtain ⟨hs,hei⟩:=hmi.store;obtain ⟨g1,g2,g3⟩:=dT hs;have hdz:(bY st.2.1 d).2=0:=by rw [lK hs]
 have h20:(bY st.2.1 d).1.length≤20:=by rw [lK hs];show (st.2.1.map _).length≤20;rw [List.length_map];exact g2
 obtain ⟨z,r⟩:=H4 h.rm hs hdz h20 hF hU hn;have hm:=nH z;have hw:=GF h.disk h.WK z;obtain ⟨L2,t2,j2⟩:=M5 hmi;have hdump:=H7 hm;refine ⟨z,OP.of ⟨L2,t2,j2,?_⟩ hw (Dr r),by rw [hm.form],by rw [hdump,← hdz]⟩;right;have hids:(bv st d).1.1.2.1=[st.1.1,st.1.1+1]:=by rw [hm.form];rfl
 have hbat:(bv st d).1.2.2.1=st.2.2.1:=by rw [hm.form]
 obtain ⟨kr,_⟩:=DO hs;have e1:=AX t2;rw [hids] at e1;have e2:nC (bv st d).2.1 st.1.1=uD (st.1.1,fV (bY st.2.1 d).1 (st.2.2.1-1)):=J4 t2.disk (x:=(st.1.1,fV (bY st.2.1 d).1 (st.2.2.1-1))) ⟨hm.text,kr⟩;have hmark:i_ 5 (st.2.2.1-1) ((bY st.2.1 d).1.map cJ) ∈ (fG (fV (bY st.2.1 d).1 (st.2.2.1-1)) 0).map (·.2.2.1):=by rw [Am];unfold fV;exact List.mem_append_right _ (List.mem_singleton.2 rfl)
 obtain ⟨s,hs1,hs2⟩:=List.mem_map.1 hmark;refine ⟨(st.1.1,s),?_,?_⟩
 · rw [← e1];show _ ∈ nC (bv st d).2.1 st.1.1++lO (bv st d).2.1 [st.1.1+1];rw [e2];exact List.mem_append_left _ (List.mem_map.2 ⟨s,hs1,rfl⟩)
 · rw [hbat];have e5:s.2.2.1=i_ 5 (st.2.2.1-1) ((bY st.2.1 d).1.map cJ):=hs2;show s.2.2.1.2.1=st.2.2.1-1;rw [e5];rfl
theorem y_ (l:bV) (key:ByteArray):(dr l key).map (·.1)=(l.map (·.1)).filter fun x=>!(seq x key):=by unfold dr;rw [List.filter_map];rfl
theorem O8 (l:bV) (p:Ty.d aB):(s_ l p).map (·.1)=Oh (l.map (·.1)) p.1:=by unfold s_ Oh;rw [List.map_append,List.map_cons,List.takeWhile_map,List.dropWhile_map];rfl
theorem Cm (b:Int):∀ (puts:eU) (dir:aR) (l:bV),iD dir=l.map (·.1)→iD (oR dir puts (puts.map xQ))=(gI l puts b).map (·.1)
 | [],dir,l,h=>by rw [pC];exact h
 | p::puts,dir,l,h=>by
  show iD (oR (bif p.2.1 then m0 dir p.1 else rA dir (xQ p)) puts (puts.map xQ))=(gI (pP l (p.1,(p.2.2.1,(b,()))) p.2.1) puts b).map (·.1);refine Cm b puts _ _ ?_;unfold pP;cases p.2.1 with
  | true=>rw [aa,aa,oc,y_,h]
  | false =>rw [aJ,aJ];unfold rA;rw [zD,O8,oc,y_,h];rfl
theorem Hs {dir:aR} {l:bV} (h:iD dir=l.map (·.1)) (puts:eU) (b:Int):oC dir puts=((gI l puts b).length:Int):=by have:=congrArg List.length (Cm b puts dir l h);unfold iD at this;rw [List.length_map,List.length_map] at this;unfold oC;rw [this]
noncomputable def Ae (d:Ty.d aA) (e:Ty.d aC):Ty.d aB:=(e.1,((dq d e).1.2.2.2.1,((dq d e).1.2.1,())))
theorem CX {st:Ty.d aE} {d:Ty.d aA} (h:dw st d=true):iD st.2.1=(bY st.2.1 d).1.map (·.1):=by rw [lK h];unfold iD;rw [List.map_map];rfl
theorem CJ {st:Ty.d aE} {d:Ty.d aA} (h:dw st d=true):∀ e ∈ st.2.1,(dq d e).2=true∧seq (dq d e).1.2.2.1 e.1=true∧(((dq d e).1.1==1)||((dq d e).1.1==4))=true∧@Eq Int (dq d e).1.2.1 e.2.2.2.2.1:=fun e he=>by unfold dw at h;simp only [iE] at h;obtain ⟨_,_,hdir,_,_,hent⟩:=h;have hin:=List.all_eq_true.1 hent e he;unfold pc at hin;simp only [iE,beq_iff_eq] at hin;exact ⟨hin.1,hin.2.1,hin.2.2.2.1,hin.2.2.1⟩
theorem Cc {d:Ty.d aA} (key:ByteArray):∀ dir:aR,(∀ e ∈ dir,@Eq Int (dq d e).1.2.1 e.2.2.2.2.1)→w7 (uX (dir.map (Ae d))) key=w7 dir key
 | [],_=>rfl
 | e::dir,h=>by
  have ih:=Cc key dir fun f hf=>h f (kS _ hf)
  unfold w7 at ih ⊢;rw [show uX ((e::dir).map (Ae d))=(e.1,(0,(0,(0,((dq d e).1.2.1,())))))::uX (dir.map (Ae d)) from rfl,ui.eq_2,ui.eq_2];cases seq e.1 key with
  | true=>exact h e il
  | false=>exact ih
theorem I6 {st:Ty.d aE} {d:Ty.d aA} (h:dw st d=true) (rows:List (Ty.d dK)):lG rows (uX (bY st.2.1 d).1)=lG rows st.2.1:=by
 have e:(bY st.2.1 d).1=st.2.1.map (Ae d):=by rw [lK h];rfl
 unfold lG;rw [e];congr 1;funext r;rw [Cc r.1 st.2.1 fun e he=>(CJ h e he).2.2.2]
theorem DG {d:Ty.d aA} (key:ByteArray):∀ dir:aR,(∀ e ∈ dir,(dq d e).2=true∧seq (dq d e).1.2.2.1 e.1=true∧(((dq d e).1.1==1)||((dq d e).1.1==4))=true∧@Eq Int (dq d e).1.2.1 e.2.2.2.2.1)→rB dir d key=bK (dir.map (Ae d)) key
 | [],_=>rfl
 | e::dir,h=>by
  have ih:=DG key dir fun f hf=>h f (kS _ hf)
  unfold rB at ih ⊢;rw [List.map_cons,bK,ui.eq_2,show (Ae d e).1=e.1 from rfl];cases c:seq e.1 key with
  | true =>obtain ⟨h1,h2,h3,_⟩:=h e il;have ek:e.1=key:=db.1 c;simp only [aa];rw [← ek,h1,h2,h3];rfl
  | false =>simp only [aJ];exact ih
theorem MN {st:Ty.d aE} {d:Ty.d aA} (h:dw st d=true) (key:ByteArray):rB st.2.1 d key=bK (bY st.2.1 d).1 key:=by
 have e:(bY st.2.1 d).1=st.2.1.map (Ae d):=by rw [lK h];rfl
 rw [e];exact DG key st.2.1 (CJ h)
theorem Mh {a:Ty.d bf} (h:bg a=true):(aI a).size≤60:=by
 have v1:=bN a.1;have v2:=bN a.2.1;have v3:=bN a.2.2.2.2.1;have t1:=kY a.2.2.1;have t2:=kY a.2.2.2.1;unfold aI;rw [if_pos h];split
 · rename_i c;have e:(a.1==1||a.1==4)=true:=by simpa using c
   unfold bg at h;rw [e] at h;simp only [aa,iE,decide_eq_true_eq] at h;have k1:=h.1.2;have k2:=h.2.1;simp only [ByteArray.size_append];omega
 · rename_i c;split
   · rename_i c2;have e:(a.1==1||a.1==4)=false:=by
      cases q:(a.1==1||a.1==4) with
      | false=>rfl
      | true=>exact absurd (by simpa using q) c
     unfold bg at h;rw [e,c2] at h;simp only [aJ,beq_self_eq_true,aa,iE,decide_eq_true_eq] at h;have k1:=h.1.2;simp only [ByteArray.size_append];omega
   · simp only [ByteArray.size_append,jB];omega
theorem K6 {a:Ty.d bf} (h:bg a=true):LE.le (α:=Int) (ar a) 71:=by have h1:=Mh h;have h2:=kY (aI a);unfold ar aS;rw [if_neg (by omega),ByteArray.size_append,jB];omega
def pot (st:Ty.d aE):Int:=129*max (st.1.2.1.length:Int) 2+st.2.2.2.1
theorem Kp {nm:ByteArray} {r:RD} (h:(r.2 != 0)=true):((qt nm r).2 != 0)=true:=by
 unfold qt;cases r.2==2 with
 | false=>exact h
 | true =>
  simp only [aa];cases c:(bj [ib,nm] r.1).2==0 with
  | true=>rfl
  | false=>exact (m4 (bj [ib,nm] r.1)).trans (by rw [bne,c];rfl)
theorem Np (st:Ty.d aE) (d:Ty.d aA):(((iC st d).2.2 != 0)=true∧(iC st d).1.1.2.1=st.1.2.1∧(iC st d).1.2=st.2)∨(((iC st d).2.2 != 0)=false∧(iC st d).1=uv st):=by
 unfold iC;cases decide ((st.1.2.1.length:Int)≥60) with
 | true=>exact .inl ⟨rfl,rfl,rfl⟩
 | false =>
  simp only [aJ];cases decide (st.1.1≥100000) with
  | true=>exact .inl ⟨rfl,rfl,rfl⟩
  | false =>
   simp only [aJ];cases c1:(dY d (bT st)).2 != 0 with
   | true=>exact .inl ⟨(m4 _).trans c1,rfl,rfl⟩
   | false =>
    simp only [aJ];cases c2:(ax (a_ aG st.1.1) (dY d (bT st)).1).2 != 0 with
    | true=>exact .inl ⟨(m4 _).trans c2,rfl,rfl⟩
    | false =>
     simp only [aJ];cases c3:(bE (kw st) (ax (a_ aG st.1.1) (dY d (bT st)).1).1).2 != 0 with
     | true=>exact .inl ⟨Kp ((m4 _).trans c3),rfl,rfl⟩
     | false=>exact .inr ⟨by first | rfl | trivial,rfl⟩
theorem Ih (st:Ty.d aE) (d:Ty.d aA) (r:Ty.d bf):pot (ip st d r).1.1≤pot st+ar r∧((ip st d r).1.1.1=st.1)∧(st.2.2.2.1≤(ip st d r).1.1.2.2.2.1):=by
 have hr:=mV r;unfold ip;cases (jS d (bT st) (aS (aI r))).2 != 0 with
 | true =>simp only [aa];refine ⟨?_,by first | rfl | trivial,Int.le_refl _⟩;show pot st≤pot st+ar r;have:=hr.1;omega
 | false =>
  simp only [aJ];refine ⟨?_,rfl,?_⟩
  · show 129*max (st.1.2.1.length:Int) 2+(st.2.2.2.1+ar r)≤129*max (st.1.2.1.length:Int) 2+st.2.2.2.1+ar r;omega
  · show LE.le (α:=Int) st.2.2.2.1 (st.2.2.2.1+ar r);have:=hr.1;omega
theorem Nu (st:Ty.d aE) (d:Ty.d aA) {r:Ty.d bf} (h:bg r=true) (h0:LE.le (α:=Int) 0 st.2.2.2.1):pot (eW st d r).1.1≤pot st+71∧LE.le (α:=Int) 0 (eW st d r).1.1.2.2.2.1:=by
 have hs:=K6 h;have hr:=mV r;unfold eW;cases c:decide (st.2.2.2.1 > 0)&&decide (st.2.2.2.1+ar r > 200) with
 | false =>simp only [aJ];obtain ⟨a,_,b⟩:=Ih st d r;exact ⟨by omega,Int.le_trans h0 b⟩
 | true =>
  simp only [iE,decide_eq_true_eq] at c;have c2:LT.lt (α:=Int) 200 (st.2.2.2.1+ar r):=c.2;simp only [aa];rcases Np st d with ⟨z,e1,e2⟩ | ⟨z,e⟩
  · rw [z];simp only [aa];refine ⟨?_,?_⟩
    · show 129*max ((iC st d).1.1.2.1.length:Int) 2+(iC st d).1.2.2.2.1≤_;rw [e1,e2];unfold pot;omega
    · rw [e2];exact h0
  · rw [z];simp only [aJ];obtain ⟨a,_,b⟩:=Ih (iC st d).1 (iC st d).2.1 r;rw [e] at a b;have e0:pot (uv st)=129*max ((st.1.2.1.length:Int)+1) 2+0:=by
     show 129*max ((st.1.2.1++[st.1.1]).length:Int) 2+0=_;rw [nE,List.length_singleton];rfl
    have b:LE.le (α:=Int) 0 (ip (uv st) (iC st d).2.1 r).1.1.2.2.2.1:=b;rw [e];refine ⟨Int.le_trans a ?_,b⟩;rw [e0];unfold pot;omega
theorem Fe:∀ (l:ja) (st:Ty.d aE) (d:Ty.d aA) (ps:ag),(∀ r ∈ l,bg r=true)→LE.le (α:=Int) 0 st.2.2.2.1→pot (dC l st d ps).1.1≤pot st+71*(l.length:Int)∧LE.le (α:=Int) 0 (dC l st d ps).1.1.2.2.2.1
 | [],st,d,ps,_,h0=>⟨by simp [dC],h0⟩
 | r::l,st,d,ps,h,h0=>by
  obtain ⟨a,b⟩:=Nu st d (h r il) h0;rw [dC,j7];cases (eW st d r).1.2.2 != 0 with
  | true =>simp only [aa];exact ⟨by omega,b⟩
  | false =>simp only [aJ];obtain ⟨x,y⟩:=Fe l (eW st d r).1.1 (eW st d r).1.2.1 (ps++[(eW st d r).2]) (fun q hq=>h q (kS _ hq)) b;exact ⟨by omega,y⟩
theorem KX {st:Ty.d aE} {d:Ty.d aA} {l:eU} (hp:eF l=true) (h0:LE.le (α:=Int) 1 st.2.2.1) (hb:LE.le (α:=Int) st.2.2.1 1000000) (hz:LE.le (α:=Int) 0 st.2.2.2.1):pot (cN st d l).1≤pot st+71*((l.length:Int)+1)∧LE.le (α:=Int) 0 (cN st d l).1.2.2.2.1:=by
 obtain ⟨a,b⟩:=Fe (da l st.2.2.1) (lP st) d [] (oO hp h0 hb) hz;have e:((da l st.2.2.1).length:Int)=(l.length:Int)+1:=by unfold da;rw [nE,List.length_map,List.length_singleton];rfl
 rw [e] at a;have a:pot (dC (da l st.2.2.1) (lP st) d []).1.1≤pot st+71*((l.length:Int)+1):=a;unfold cN yP;cases (dC (da l st.2.2.1) (lP st) d []).1.2.2 != 0 with
 | true=>exact ⟨a,b⟩
 | false =>
  simp only [aJ];cases (dY (dC (da l st.2.2.1) (lP st) d []).1.2.1 (bT (dC (da l st.2.2.1) (lP st) d []).1.1)).2 != 0 with
  | true=>exact ⟨a,b⟩
  | false=>exact ⟨a,b⟩
theorem O0 {st:Ty.d aE} {n:Int} (h:pot st≤258+71*n) (hz:LE.le (α:=Int) 0 st.2.2.2.1) (hn:n≤82):st.1.2.1.length≤48:=by unfold pot at h;omega
theorem CK:∀ (l N:List ByteArray),l.Pairwise (·≠·)→(∀ x ∈ l,x ∈ N)→l.length≤N.length
 | [],_,_,_=>Nat.zero_le _
 | x::l,N,h,hs=>by
  obtain ⟨a,b,rfl⟩:=List.append_of_mem (hs x il);rw [List.pairwise_cons] at h;have:=CK l (a++b) h.2 fun y hy=>by
   have hy2:=hs y (kS _ hy);rw [List.mem_append,List.mem_cons] at hy2;rw [List.mem_append];rcases hy2 with q | q | q
   · exact .inl q
   · exact absurd q.symm (h.1 y hy)
   · exact .inr q
  rw [nE] at this;rw [nE,j7,j7];omega
theorem zu {d:Ty.d aA} (h:DR d) {N:List ByteArray} (hs:∀ f ∈ d.1,f.1 ∈ N):d.1.length≤N.length:=by
 have:=CK (lU d.1) N (List.Pairwise.imp (fun {a b} q e=>by rw [e,nM] at q;cases q) h.keys) fun x hx=>by obtain ⟨f,hf,e⟩:=List.mem_map.1 hx;rw [← e];exact hs f hf
 unfold lU at this
 rwa [List.length_map] at this
theorem OP.files {st:Ty.d aE} {d:Ty.d aA} (h:OP st d):d.1.length≤st.1.2.1.length+2:=by
 have:=zu h.disk (N:=gg::a_ bO (st.1.2.1.getD 0 0)::st.1.2.1.map (a_ aG)) fun f hf=>by
  rcases h.only f hf with q | ⟨x,hx,q⟩ | q
  · rw [q];exact il
  · rw [q];exact kS _ (kS _ (List.mem_map_of_mem hx))
  · rw [q];exact kS _ il
 rw [j7,j7,List.length_map] at this;omega
theorem JX {B:Nat}:∀ l:bq,(∀ f ∈ l,f.2.1.size≤B)→du l≤B*l.length
 | [],_=>Nat.zero_le _
 | f::l,h=>by
  have ih:=JX l fun g hg=>h g (kS _ hg)
  have h1:=h f il;rw [j7,Nat.mul_succ];show f.2.1.size+du l≤_;omega
theorem Jp {st:Ty.d aE} {d:Ty.d aA} {l:eU} (h:OP st d) (hp:eF l=true) (hb:LE.le (α:=Int) st.2.2.1 1000000) (hF:d.1.length+20<130) (hU:du d.1+4000≤100000) (hi:st.1.2.1.length≤50) (hn:LE.le (α:=Int) st.1.1 99000) :
 du (cN st d l).2.1.1≤du d.1+421*(l.length+1)∧LE.le (α:=Int) (cN st d l).1.1.1 (st.1.1+((l.length:Int)+1)):=by
 obtain ⟨L,t,j,lb⟩:=h.mi;have hmi:MI st d:=⟨L,t,j⟩;obtain ⟨hs,hei⟩:=hmi.store;obtain ⟨g1,g2,g3⟩:=dT hs;have hBT:=tJ hs;have hl8:=nU hp;have hlen:(da l st.2.2.1).length=l.length+1:=by unfold da;rw [nE,List.length_map,List.length_singleton]
 obtain ⟨a1,a2,a3,a4⟩:=F1 (da l st.2.2.1) (lP st) d [] d.1.length (du d.1) h.rm ⟨hBT.live,hBT.disk,hBT.full,hBT.tail⟩ (oO hp g3 hb) (by omega) (by omega) (by show st.1.2.1.length+_≤60;omega) (by show LE.le (α:=Int) (st.1.1+_) 100000;omega);obtain ⟨hB,_⟩:=yk (da l st.2.2.1) (lP st) d [] ⟨hBT.live,hBT.disk,hBT.full,hBT.tail⟩ (oO hp g3 hb) (fun x hx=>by cases hx) a2;have a4:LE.le (α:=Int) (dC (da l st.2.2.1) (lP st) d []).1.1.1.1 (st.1.1+((da l st.2.2.1).length:Int)):=a4;unfold cN;generalize dC (da l st.2.2.1) (lP st) d []=q at a1 a2 a3 a4 hB ⊢;obtain ⟨_,_,k1,_,_⟩:=bo (nx:=q.1.1.1.1) (ids:=q.1.1.1.2.1) hB.live;have hlast:bi q.1.1.1.2.1 ∈ q.1.1.1.2.1:=by have hs:=mM k1;rw [hs];exact List.mem_append_right _ (List.mem_singleton.2 (by rw [← hs]))
 obtain ⟨t,ht,_⟩:=hB.full _ hlast;obtain ⟨y1,y2⟩:=xG a1 (s:=bT q.1.1) (by rw [show fT q.1.2.1 (bT q.1.1)=some t from ht];rfl);unfold yP;rw [show (q.1.2.2 != 0)=false by rw [a2];rfl,y2];rw [hlen] at y1 a4;refine ⟨y1.use,?_⟩;show LE.le (α:=Int) q.1.1.1.1 (st.1.1+((l.length:Int)+1));refine Int.le_trans a4 (Int.le_of_eq ?_);rw [Int.natCast_add];rfl
theorem Hi {m:Int} {b:Ty.d aA} (hd:DR b) (z:(i8 (se m) m b).2=0) {t:ByteArray} (h:fT (i8 (se m) m b).1 (a_ bO m)=some t):t.size≤904:=by
 unfold i8 at z h;cases c:(lM (a_ bO m) (se m (bJ b (a_ aG m)).1) b).2==2 with
 | true =>rw [c] at z h;simp only [aa] at z h;rw [rV _ _ (jv _ _ _ hd) z (.inl il)] at h;cases h
 | false =>
  rw [c] at z h;simp only [aJ] at z h;rw [Fi z] at h;injection h with h;rw [← h];exact qE _
theorem Gy {st:Ty.d aE} {d:Ty.d aA} (z:(bv st d).2.2=0):(i8 (se st.1.1) st.1.1 (ax (a_ aG (st.1.1+1)) (dQ st.1.1 (bY st.2.1 d).1 (st.2.2.1-1) d).1).1).2=0:=by
 have hm:=nH z;obtain ⟨g1,_,_⟩:=dT hm.store;obtain ⟨n1,n2,n3,_⟩:=gY (n:=st.1.1) (ids:=st.1.2.1) g1.live;have e:bv st d=cS (se st.1.1) st d (bY st.2.1 d).1:=by unfold bv;rw [hm.store,aY (show ¬ st.1.1+2 > (100000:Int) from Int.not_lt.2 hm.hi),hm.dump];rfl
 have hf:=hm.form;rw [e] at hf z;have hne:pY st≠(fu st.1.1,(ic st.1.1 (bY st.2.1 d).1 0,(st.2.2.1,(0,(0,()))))):=fun w=>by have w2:(st.1.1+2,st.1.2)=fu st.1.1:=congrArg (fun s:Ty.d aE=>s.1) w;have h3:st.1.2.1=[st.1.1,st.1.1+1]:=congrArg (fun v:Ty.d cv=>v.2.1) w2;have:=(n3 st.1.1 (by rw [h3];exact il)).2;exact absurd this (Int.lt_irrefl _)
 unfold cS at hf;generalize dQ st.1.1 (bY st.2.1 d).1 (st.2.2.1-1) d=a at hf ⊢;generalize ax (a_ aG (st.1.1+1)) a.1=b at hf ⊢;generalize i8 (se st.1.1) st.1.1 b.1=c at hf ⊢;cases c1:a.2 != 0 with
 | true=>rw [c1] at hf;exact absurd hf hne
 | false =>
  rw [c1] at hf;simp only [aJ] at hf;cases c2:b.2 != 0 with
  | true=>rw [c2] at hf;exact absurd hf hne
  | false =>
   rw [c2] at hf;simp only [aJ] at hf;cases c3:c.2 != 0 with
   | true=>rw [c3] at hf;exact absurd hf hne
   | false=>exact fJ c3
theorem KI {st:Ty.d aE} {d:Ty.d aA} (hd:DR d) (w:WK st d) (h20:(bY st.2.1 d).1.length≤20) (z:(bv st d).2.2=0):du (bv st d).2.1.1≤18000:=by
 have hm:=nH z;have hw:=GF hd w z;obtain ⟨z1,e,z2⟩:=A9 z;have zh:=Gy z;have hn:=Ii (st:=st) hd;have hids:(bv st d).1.1.2.1=[st.1.1,st.1.1+1]:=by rw [hm.form];rfl
 have on:∀ f ∈ (bv st d).2.1.1,fT (bv st d).2.1 f.1=some f.2.1:=fun f hf=>by unfold fT;rw [I1 hm.disk.keys hf];rfl
 have cls:∀ f ∈ (bv st d).2.1.1,f.1=gg∨(∃ x ∈ [st.1.1,st.1.1+1],f.1=a_ aG x)∨f.1=a_ bO st.1.1:=fun f hf=>by have:=hw.on f.1 (by rw [on f hf];rfl);rw [hids] at this;exact this
 have len:(bv st d).2.1.1.length≤4:=zu hm.disk (N:=[gg,a_ aG st.1.1,a_ aG (st.1.1+1),a_ bO st.1.1]) fun f hf=>by
  rcases cls f hf with q | ⟨x,hx,q⟩ | q
  · rw [q];simp
  · rw [q];rcases List.mem_cons.1 hx with v | v
    · rw [v];simp
    · rw [List.mem_singleton.1 v];simp
  · rw [q];simp
 have small:∀ f ∈ (bv st d).2.1.1,f.2.1.size≤4500:=fun f hf=>by
  have ho:=on f hf;rcases cls f hf with q | ⟨x,hx,q⟩ | q
  · rw [q,hm.live] at ho;injection ho with ho;rw [← ho];have:=sW (fu st.1.1);omega
  · rcases List.mem_cons.1 hx with v | v
    · rw [q,v,hm.text] at ho;injection ho with ho;rw [← ho];have h1:=wV (fV (bY st.2.1 d).1 (st.2.2.1-1));have h2:(fV (bY st.2.1 d).1 (st.2.2.1-1)).length=(bY st.2.1 d).1.length+1:=by
       unfold fV;rw [nE,List.length_map,List.length_singleton]
      omega
    · rw [q,List.mem_singleton.1 v,hm.next] at ho;injection ho with ho;rw [← ho];exact Nat.zero_le _
  · rw [q,e] at ho;have hold:¬ ∃ x ∈ st.1.2.1,a_ bO st.1.1=a_ aG x∨a_ bO st.1.1=a_ bO x:=fun hx=>by
     rw [zq _ _ hn z2 (.inl hx)] at ho;cases ho
    rw [uu st.1.2.1 _ fun x hx=>⟨fun v=>hold ⟨x,hx,.inl v.symm⟩,fun v=>hold ⟨x,hx,.inr v.symm⟩⟩] at ho;have hb:=jF (a_ aG (st.1.1+1)) _ (sM st.1.1 (bY st.2.1 d).1 (st.2.2.1-1) hd);have hin:∀ n:Int,1≤n→n+2≤100000→1≤n∧n≤100000:=by omega
    have m1:=hin st.1.1 hm.lo hm.hi;have q5:ib≠a_ bO st.1.1:=fun v=>C9 m1 v.symm
    have q6:gg≠a_ bO st.1.1:=fun v=>Cj m1 v.symm
    unfold Bm at ho;rw [fo q5 q6] at ho;have:=Hi hb zh ho;omega
 have:=JX _ small;have h4:=Nat.mul_le_mul_left 4500 len;omega
structure BD (n p:Int) (st:Ty.d aE) (d:Ty.d aA):Prop where
 op:OP st d
 pot:pot st+71*p≤258+71*n
 size:LE.le (α:=Int) 0 st.2.2.2.1
 use:(du d.1:Int)+421*p≤18000+421*n
 next:LE.le (α:=Int) (st.1.1+p) (2+2*n)
 bat:LE.le (α:=Int) st.2.2.1 (1+n)
 p0:0≤p
theorem Oc {st:Ty.d aE} (h:LE.le (α:=Int) 0 st.2.2.2.1):258≤pot st:=by unfold pot;omega
theorem BD.pn {n p:Int} {st:Ty.d aE} {d:Ty.d aA} (h:BD n p st d):p≤n:=by have h1:=Oc h.size;have h2:=h.pot;omega
theorem BD.mono {n p n' p':Int} {st:Ty.d aE} {d:Ty.d aA} (h:BD n p st d) (hp:p'-p≤n'-n) (hn:n≤n') (h0:0≤p'):BD n' p' st d:=by
 obtain ⟨h1,h2,h3,h4,h5,h6,h7⟩:=h;have h5':LE.le (α:=Int) st.1.1 (2+2*n-p):=by omega
 refine ⟨h1,by omega,h3,by omega,?_,?_,h0⟩
 · have:2+2*n-p≤2+2*n'-p':=by omega
   have:=Int.le_trans h5' this;omega
 · exact Int.le_trans h6 (by omega)
theorem BD.room {n p:Int} {st:Ty.d aE} {d:Ty.d aA} (h:BD n p st d) (hn:n≤82):d.1.length+20<130∧du d.1+6000≤100000∧st.1.2.1.length≤48∧LE.le (α:=Int) st.1.1 99000∧LE.le (α:=Int) st.2.2.1 1000000:=by have hp:=h.p0;have hi:=O0 (st:=st) (n:=n-p) (by have:=h.pot;omega) h.size (by omega);have hf:=h.op.files;have hu:=h.use;have hx:=h.next;have hb:=h.bat;exact ⟨by omega,by omega,hi,by omega,by omega⟩
theorem BD.write {n p:Int} {st:Ty.d aE} {d:Ty.d aA} {l:eU} (h:BD n p st d) (hn:n≤82) (hp:eF l=true) (ha:oC st.2.1 l≤20) (hl:(l.length:Int)≤p) :
 (cN st d l).2.2=0∧BD (n+1) (p-l.length) (cN st d l).1 (cN st d l).2.1∧(cN st d l).1.2.2.1=st.2.2.1+1:=by
 obtain ⟨r1,r2,r3,r4,r5⟩:=h.room hn;obtain ⟨z,o,b⟩:=NT h.op hp r5 ha r1 (by omega) (by omega) r4;obtain ⟨u1,u2⟩:=Jp h.op hp r5 r1 (by omega) (by omega) r4;obtain ⟨hs,_⟩:=h.op.MI.store;obtain ⟨_,_,g3⟩:=dT hs;obtain ⟨w1,w2⟩:=KX (d:=d) hp g3 r5 h.size;have h2:=h.pot;have h4:=h.use;have h5:=h.next;have h6:=h.bat;refine ⟨z,⟨o,by omega,w2,by omega,?_,?_,by omega⟩,b⟩
 · have h5':LE.le (α:=Int) st.1.1 (2+2*n-p):=by omega
   have key:∀ x y q:Int,x≤y+(q+1)→y≤2+2*n-p→x+(p-q)≤2+2*(n+1):=by omega
   exact key _ _ _ u2 h5'
 · rw [b];have key:∀ x:Int,x≤1+n→x+1≤1+(n+1):=by omega
   exact key _ h6
theorem BD.merge {n p:Int} {st:Ty.d aE} {d:Ty.d aA} (h:BD n p st d) (hn:n≤82) :
 (bv st d).2.2=0∧BD (n+1) p (bv st d).1 (bv st d).2.1∧(bv st d).1.2.2.1=st.2.2.1∧bY (bv st d).1.2.1 (bv st d).2.1=bY st.2.1 d:=by
 obtain ⟨r1,r2,r3,r4,r5⟩:=h.room hn;have hpn:=h.pn;have hp0:=h.p0;have nk:∀ x:Int,x≤99000→x+2≤100000:=by omega
 obtain ⟨z,o,b,e⟩:=NR h.op (by omega) r2 (nk _ r4);obtain ⟨hs,_⟩:=h.op.MI.store;obtain ⟨g1,g2,g3⟩:=dT hs;have h20:(bY st.2.1 d).1.length≤20:=by rw [lK hs];show (st.2.1.map _).length≤20;rw [List.length_map];exact g2
 have hu:=KI h.op.disk h.op.WK h20 z;have hm:=nH z;have ep:G.pot (bv st d).1=258:=by rw [hm.form];rfl
 have e1:(bv st d).1.1.1=st.1.1+2:=by rw [hm.form];rfl
 have e2:(bv st d).1.2.2.2.1=(0:Int):=by rw [hm.form]
 have h5:=h.next;have h6:=h.bat;refine ⟨z,⟨o,by rw [ep];omega,by rw [e2];exact Int.le_refl _,by omega,?_,?_,hp0⟩,b,e⟩
 · rw [e1];have key:∀ x:Int,x+p≤2+2*n→x+2+p≤2+2*(n+1):=by omega
   exact key _ h5
 · rw [b];exact Int.le_trans h6 (by omega)
def UQ (t:Ty.d aV):Prop:=t.2.1.Pairwise fun a b=>a.1≠b.1
theorem Lw {key:ByteArray}:∀ {l:List (Ty.d dK)},lN l key=none→∀ r ∈ l,r.1≠key:=by intro l h r hr q;unfold lN at h;rw [Option.map_eq_none_iff] at h;have:=List.find?_eq_none.1 h r hr;rw [Gp q] at this;exact this rfl
theorem Mk {t:Ty.d aV} (h:UQ t) (key:ByteArray) (b:Int):UQ (gZ t key b).1:=by
 unfold gZ;cases !t.1 with
 | true=>exact h
 | false =>
  cases !gB key with
  | true=>exact h
  | false =>
   simp only [aJ];cases c:lN t.2.1 key with
   | some b'=>exact h
   | none =>
    show UQ (bif decide ((t.2.1.length:Int)≥20) then (t,5) else ((t.1,(t.2.1++[(key,(b,()))],t.2.2)),0):Ty.d aV × Int).1;cases decide ((t.2.1.length:Int)≥20) with
    | true=>exact h
    | false =>
     show (t.2.1++[(key,(b,()))]).Pairwise fun a b=>a.1≠b.1
     refine List.pairwise_append.2 ⟨h,List.pairwise_singleton _ _,fun x hx y hy=>?_⟩;rw [List.mem_singleton.1 hy];exact Lw c x hx
theorem Ki {t:Ty.d aV} (h:UQ t) (p:Ty.d aM):UQ (iJ t p).1:=by
 unfold iJ;cases !t.1 with
 | true=>exact h
 | false =>
  cases !eF [p] with
  | true=>exact h
  | false =>
   cases decide (((fZ (t.2.2.1++[p])).length:Int) > 8) with
   | true=>exact h
   | false=>cases decide (((t.2.2.1++[p]).length:Int) > 50) <;> exact h
def UE (e:Ty.d bF):Prop:=∀ t ∈ e.2.2.2.1,UQ t
theorem Nz {e:Ty.d bF} (h:UE e) (i:Int):UQ (iF e i):=by
 unfold iF;by_cases c:i.toNat<e.2.2.2.1.length
 · exact h _ (gR c)
 · have:e.2.2.2.1.getD i.toNat (Ty.z aV)=Ty.z aV:=by simp [List.getD,c]
   rw [this];exact List.Pairwise.nil
theorem rD (k:Nat) {t:Ty.d aV} (h:TV t):eA.f k t=some (t,()):=by obtain ⟨h1,h2⟩:=h;unfold eA.f eA.t jp.f jp.t;rw [bn (by omega) (by decide),bn (by omega) (by decide)];rfl
theorem rh {k:Nat} (hk:2 ^ 50≤k) {t:Ty.d aV} (h:t.2.2.1.length≤1000) (key:ByteArray):cY.f k t key=some (uY (ll t.2.2.1 key)):=by
 have loop:∀ (m n:Nat) (i:Int),i+1=(m:Int)→m<n→m≤t.2.2.1.length→cY.l0 k n key i t.1 t.2.1 t.2.2.1 ByteArray.empty false ByteArray.empty=some (uY (ll (t.2.2.1.take m) key)):=by
  intro m
  induction m with
  | zero =>intro n i hi hn hm;obtain ⟨n,rfl⟩:∃ q,n=q+1:=⟨n-1,by omega⟩;simp only [cY.l0,cY.b0];rw [aY (by omega),aJ];rfl
  | succ m ih =>
   intro n i hi hn hm;obtain ⟨n,rfl⟩:∃ q,n=q+1:=⟨n-1,by omega⟩;have hw:aQ (i-1)=i-1:=aF (by omega) (by omega);have hi2:i.toNat=m:=by omega
   simp only [cY.l0,cY.b0,hw];rw [aW (by omega),aa,aT (by omega) (by omega),aT (by omega) (by omega),ih n (i-1) (by omega) (by omega) (by omega),CE (Ty.z aM) (by omega),A6,hi2];cases seq (List.getD t.2.2.1 m (Ty.z aM)).1 key <;> rfl
 unfold cY.f cY.t;rw [aF (n:=(t.2.2.1.length:Int)-1) (by omega) (by omega),loop t.2.2.1.length k _ (by omega) (by omega) (Nat.le_refl _),List.take_length]
def xg:eU→Ty.d aM→eU
 | [],p=>[p]
 | q::l,p=>bif seq q.1 p.1 then p::l else q::xg l p
def sF (key:ByteArray):eU→Int→Int→Int
 | [],_,at_=>at_
 | q::l,j,at_=>sF key l (j+1) (bif seq q.1 key then j else at_)
theorem xV {key:ByteArray}:∀ (l:eU) (j at_:Int),(∀ q ∈ l,q.1≠key)→sF key l j at_=at_
 | [],_,_,_=>rfl
 | q::l,j,at_,h=>by unfold sF;rw [kZ (h q il),aJ,xV l _ _ fun x hx=>h x (kS _ hx)]
theorem Ad (p:Ty.d aM):∀ l:eU,l.Pairwise (fun a b=>a.1≠b.1)→((∀ q ∈ l,q.1≠p.1)∧xg l p=l++[p])∨∃ a q c,l=a++q::c∧xg l p=a++p::c∧∀ j at_:Int,sF p.1 l j at_=j+(a.length:Int)
 | [],_ => .inl ⟨fun q h=>(by cases h),rfl⟩
 | q::l,h=>by
  obtain ⟨h1,h2⟩:=List.pairwise_cons.1 h;unfold xg;cases c:seq q.1 p.1 with
  | true =>refine .inr ⟨[],q,l,rfl,rfl,fun j at_=>?_⟩;unfold sF;rw [c,aa,xV l _ _ fun x hx w=>h1 x hx (by rw [w];exact db.1 c)];show j=j+((0:Nat):Int);omega
  | false =>
   have hq:q.1≠p.1:=fun w=>by rw [Gp w] at c;cases c
   rcases Ad p l h2 with ⟨g1,g2⟩ | ⟨a,x,y,g1,g2,g3⟩
   · refine .inl ⟨fun x hx=>?_,by rw [aJ,g2];rfl⟩;rcases List.mem_cons.1 hx with w | w
     · rw [w];exact hq
     · exact g1 x w
   · refine .inr ⟨q::a,x,y,by rw [g1];rfl,by rw [aJ,g2];rfl,fun j at_=>?_⟩;unfold sF;rw [c,aJ,g3,j7];omega
theorem Om {a c:eU} {q p:Ty.d aM}:(a++q::c).set a.length p=a++p::c:=by simp
theorem NE (p:Ty.d aM) {l:eU} (h:l.Pairwise fun a b=>a.1≠b.1):(bif decide (sF p.1 l 0 (-1)≥0) then l.set (sF p.1 l 0 (-1)).toNat p else l++[p])=xg l p:=by
 rcases Ad p l h with ⟨g1,g2⟩ | ⟨a,x,y,g1,g2,g3⟩
 · rw [xV l 0 (-1) g1,g2];rfl
 · rw [g3,g2,aW (by omega),aa,Int.zero_add,Int.toNat_natCast,g1,Om]
theorem yE:∀ w:eU,(qT w).Pairwise (·≠·):=by
 have key:∀ (w:eU) (ks:List ByteArray),ks.Pairwise (·≠·)→(w.foldl (fun ks p=>bif pU ks p.1 then ks else ks++[p.1]) ks).Pairwise (·≠·):=by
  intro w
  induction w with
  | nil=>exact fun ks h=>h
  | cons p w ih =>
   intro ks h;rw [List.foldl_cons];refine ih _ ?_;cases c:pU ks p.1 with
   | true=>exact h
   | false =>rw [aJ];refine List.pairwise_append.2 ⟨h,List.pairwise_singleton _ _,fun x hx y hy q=>?_⟩;rw [List.mem_singleton.1 hy] at q;unfold pU at c;rw [List.any_eq_false] at c;exact c x hx (Gp q)
 exact fun w=>key w [] List.Pairwise.nil
theorem Ip {w:eU} {s:ByteArray}:(w.any fun p=>seq p.1 s)=true→∃ q,ll w s=some q∧q.1=s:=by
 induction w with
 | nil=>intro h;cases h
 | cons p w ih =>
  intro h;rw [List.any_cons] at h;unfold ll;cases c:ll w s with
  | some q =>
   cases d:w.any fun p=>seq p.1 s with
   | true =>obtain ⟨q',e1,e2⟩:=ih d;rw [c] at e1;cases e1;exact ⟨q,rfl,e2⟩
   | false =>
    exfalso;have:∀ w:eU,(w.any fun p=>seq p.1 s)=false→ll w s=none:=by
     intro w
     induction w with
     | nil=>intro _;rfl
     | cons x w ih2 =>intro hx;rw [List.any_cons,Bool.or_eq_false_iff] at hx;unfold ll;rw [ih2 hx.2,hx.1];rfl
    rw [this w d] at c;cases c
  | none =>
   cases d:seq p.1 s with
   | true=>exact ⟨p,rfl,db.1 d⟩
   | false =>rw [d,Bool.false_or] at h;obtain ⟨q',e1,_⟩:=ih h;rw [c] at e1;cases e1
theorem zK {w:eU} {s:ByteArray} (h:s ∈ qT w):(uY (ll w s)).1.1=s:=by
 have hh:pU (qT w) s=true:=by unfold pU;rw [List.any_eq_true];exact ⟨s,h,bQ s⟩
 rw [Cx] at hh;obtain ⟨q,e1,e2⟩:=Ip hh;rw [e1];exact e2
theorem IF (w:eU):(fZ w).Pairwise fun a b=>a.1≠b.1:=by
 unfold fZ;rw [List.pairwise_map];refine (yE w).imp_of_mem fun ha hb q=>?_
 rw [zK ha,zK hb];exact q
theorem F8 {g:ByteArray→Ty.d aM} (p:Ty.d aM):∀ ks:List ByteArray,(∀ s ∈ ks,(g s).1=s)→ks.Pairwise (·≠·)→xg (ks.map g) p=ks.map (fun s=>bif seq p.1 s then p else g s)++bif pU ks p.1 then [] else [p]
 | [],_,_=>rfl
 | s::ks,h,hn=>by
  obtain ⟨n1,n2⟩:=List.pairwise_cons.1 hn;have ih:=F8 p ks (fun x hx=>h x (kS _ hx)) n2;rw [List.map_cons,List.map_cons];have e:pU (s::ks) p.1=(seq s p.1||pU ks p.1):=List.any_cons;rw [e];unfold xg;rw [h s il];cases c:seq s p.1 with
  | true =>
   have es:s=p.1:=db.1 c;rw [aa,← es,bQ,aa,Bool.true_or,aa,List.append_nil];congr 1;refine List.map_congr_left fun x hx=>?_
   rw [kZ (n1 x hx),aJ]
  | false =>
   have es:p.1≠s:=fun w=>by rw [Gp w.symm] at c;cases c
   rw [aJ,ih,kZ es,aJ,Bool.false_or];rfl
theorem Jx (w:eU) (p:Ty.d aM):fZ (w++[p])=xg (fZ w) p:=by
 unfold fZ;rw [F8 p (qT w) (fun s hs=>zK hs) (yE w),H6];have e:(fun s=>(uY (ll (w++[p]) s)).1)=fun s=>bif seq p.1 s then p else (uY (ll w s)).1:=by funext s;rw [A6];cases seq p.1 s <;> rfl
 rw [e];cases pU (qT w) p.1 with
 | true=>rw [aa,aa,List.append_nil]
 | false =>rw [aJ,aJ,List.map_append];congr 1;show [bif seq p.1 p.1 then p else _]=[p];rw [bQ];rfl
theorem rE {k:Nat} (hk:2 ^ 50≤k) {w:eU} (h:w.length≤1000):eZ.f k w=some (fZ w,()):=by
 have loop:∀ (m n:Nat) (i:Int),0≤i→i+(m:Int)=(w.length:Int)→m<n→eZ.l0 k n w (w.length:Int) i (fZ (w.take i.toNat))=some (fZ w,()):=by
  intro m
  induction m with
  | zero =>intro n i h0 h1 hn;obtain ⟨n,rfl⟩:∃ q,n=q+1:=⟨n-1,by omega⟩;simp only [eZ.l0,eZ.b0];rw [aY (by omega),aJ,show i.toNat=w.length by omega,List.take_length]
  | succ m ih =>
   intro n i h0 h1 hn;obtain ⟨n,rfl⟩:∃ q,n=q+1:=⟨n-1,by omega⟩;have hw:aQ (i+1)=i+1:=aF (by omega) (by omega);have hnext:=ih n (i+1) (by omega) (by omega) (by omega);rw [show (i+1).toNat=i.toNat+1 by omega,CE (Ty.z aM) (by omega),Jx] at hnext;have hlen:=sv (w.take i.toNat);rw [List.length_take] at hlen;obtain ⟨out,ho⟩:∃ out,out=fZ (w.take i.toNat):=⟨_,rfl⟩;have hnd:out.Pairwise fun a b=>a.1≠b.1:=by rw [ho];exact IF _
   rw [← ho] at hnext hlen ⊢;obtain ⟨p,hp⟩:∃ p,p=List.getD w i.toNat (Ty.z aM):=⟨_,rfl⟩;rw [← hp] at hnext;simp only [eZ.l0,eZ.b0];rw [aW (by omega),aa,aT h0 (by omega),← hp];have inner:∀ (d n':Nat) (at_ j:Int),0≤j→j+(d:Int)=(out.length:Int)→d<n' → -1≤at_→at_<(out.length:Int) →
    eZ.l1 k (eZ.l0 k n) n' at_ w (w.length:Int) i (out.length:Int) j out p.1 p.2.1 p.2.2.1=eZ.l0 k n w (w.length:Int) (i+1) (bif decide (sF p.1 (out.drop j.toNat) j at_≥0) then out.set (sF p.1 (out.drop j.toNat) j at_).toNat p else out++[p]):=by
    intro d
    induction d with
    | zero =>
     intro n' at_ j j0 j1 hn' a0 a1;obtain ⟨n',rfl⟩:∃ q,n'=q+1:=⟨n'-1,by omega⟩;simp only [eZ.l1,eZ.b1,hw];rw [aY (by omega),aJ,List.drop_eq_nil_of_le (show out.length≤j.toNat by omega)];show _=eZ.l0 k n w (w.length:Int) (i+1) (bif decide (at_≥0) then out.set at_.toNat p else out++[p]);by_cases c:at_≥0
     · rw [aW c,aa,aa,aT c a1]
     · rw [aY c,aJ,aJ,bn (by omega) (by decide)]
    | succ d ih2 =>
     intro n' at_ j j0 j1 hn' a0 a1;obtain ⟨n',rfl⟩:∃ q,n'=q+1:=⟨n'-1,by omega⟩;have hj:aQ (j+1)=j+1:=aF (by omega) (by omega);have hd:out.drop j.toNat=List.getD out j.toNat (Ty.z aM)::out.drop (j+1).toNat:=by have:=xL (Ty.z aM) (l:=out) (i:=j.toNat) (by omega);rw [show (j+1).toNat=j.toNat+1 by omega];exact this
     simp only [eZ.l1,eZ.b1,hj];rw [aW (by omega),aa,aT j0 (by omega),hd];unfold sF;cases seq (List.getD out j.toNat (Ty.z aM)).1 p.1 with
     | true=>exact ih2 n' j (j+1) (by omega) (by omega) (by omega) (by omega) (by omega)
     | false=>exact ih2 n' at_ (j+1) (by omega) (by omega) (by omega) a0 a1
   rw [inner out.length k (-1) 0 (by omega) (by omega) (by omega) (by omega) (by omega),show (0:Int).toNat=0 from rfl,List.drop_zero,NE p hnd];exact hnext
 unfold eZ.f eZ.t;exact loop w.length k 0 (by omega) (by omega) (by omega)
theorem sj {k:Nat} (hk:2 ^ 50≤k) {t:Ty.d aV} (h:t.2.2.1.length≤1000):eD.f k t=some (fZ t.2.2.1,()):=by unfold eD.f eD.t;rw [rE hk h];rfl
theorem EC {k:Nat} (hk:2 ^ 50≤k) {t:Ty.d aV} (h:t.2.1.length≤1000) {dir:aR} (hd:dir.length≤268435456):gp.f k t dir=some (lG t.2.1 dir,()):=by
 unfold gp.f gp.t lG;refine fj (L:=fun n i (_:Unit)=>gp.l0 k n dir t.2.1 (t.2.1.length:Int) i) (R:=fun r _=>some (r.all fun r=>w7 dir r.1==r.2.1,())) (Ty.z dK) t.2.1 (fun _ _=>True) (fun n _ _=>?_) (fun n i _ x rest h0 h1 hx hr hp ih=>?_) (n:=k) (s:=()) (by omega) trivial
 · simp only [gp.l0,gp.b0];rw [aY (by omega),aJ];rfl
 · have ih:=ih () trivial;obtain ⟨q,e1,e2⟩:=Md (ui dir x.1);simp only [gp.l0,gp.b0];rw [aW h1,aa,aT h0 h1,hx,uS hk (by omega),e1,ac,aF (n:=i+1) (by omega) (by omega),ih,List.all_cons];unfold bne;rw [show (q.1.2.2.2.2.1==x.2.1)=(w7 dir x.1==x.2.1) by rw [e2];rfl];cases w7 dir x.1==x.2.1 <;> rfl
theorem Eh {k:Nat} (hk:2 ^ 50≤k) {t:Ty.d aV} (h:TV t) (hu:UQ t) (key:ByteArray) (b:Int):fb.f k t key b=some ((gZ t key b).1,((gZ t key b).2,())):=by
 have h1:=h.1;unfold fb.f fb.t gZ;rw [rD k h,ac];cases c1:t.1 with
 | false=>rfl
 | true =>
  simp only [fw,aJ];have hko:dp.f k key=some (gB key,()):=kf k key;rw [hko,ac];simp only [];cases gB key with
  | false=>rfl
  | true =>
   simp only [fw,aJ];rw [← c1];refine fj (L:=fun n i (kn:Bool)=>fb.l0 k n key b kn t.2.1 (t.2.1.length:Int) i t.1 t.2.1 t.2.2.1 [] [] false t.2.1 t.2.2.1 t.1) (R:=fun r kn=>bif kn then some (t,((0:Int),())) else some ((match lN r key with | some b'=>(t,bif b' != b then 7 else 0) | none=>bif decide ((t.2.1.length:Int)≥20) then (t,5) else ((t.1,(t.2.1++[(key,(b,()))],t.2.2)),0):Ty.d aV × Int).1,((match lN r key with | some b'=>(t,bif b' != b then 7 else 0) | none=>bif decide ((t.2.1.length:Int)≥20) then (t,5) else ((t.1,(t.2.1++[(key,(b,()))],t.2.2)),0):Ty.d aV × Int).2,()))) (Ty.z dK) t.2.1 (fun i kn=>kn=true→∀ x ∈ t.2.1.drop i.toNat,x.1≠key) (fun n kn _=>?_) (fun n i kn x rest g0 g1 hx hr hp ih=>?_) (n:=k) (s:=false) (by omega) (fun q=>by cases q)
   · simp only [fb.l0,fb.b0];rw [aY (by omega),aJ];cases kn with
     | true=>rfl
     | false =>
      show _=some ((bif decide ((t.2.1.length:Int)≥20) then (t,5) else ((t.1,(t.2.1++[(key,(b,()))],t.2.2)),0):Ty.d aV × Int).1,((bif decide ((t.2.1.length:Int)≥20) then (t,5) else ((t.1,(t.2.1++[(key,(b,()))],t.2.2)),0):Ty.d aV × Int).2,()));rw [aJ];cases decide ((t.2.1.length:Int)≥20) with
      | true=>rfl
      | false =>rw [aJ,aJ,bn (by omega) (by decide)]
   · have er:lN (x::rest) key=bif seq x.1 key then some x.2.1 else lN rest key:=by
      unfold lN;rw [List.find?_cons];cases seq x.1 key <;> rfl
     have hrest:t.2.1.drop (i+1).toNat=rest:=by have:=congrArg (List.drop 1) hr;rw [List.drop_drop] at this;rw [show (i+1).toNat=i.toNat+1 by omega];exact this
     simp only [fb.l0,fb.b0];rw [aW g1,aa,aT g0 g1,hx,aF (n:=i+1) (by omega) (by omega),er];cases c:seq x.1 key with
     | false =>
      simp only [ue,aa,aJ];refine ih kn fun q y hy=>hp q y ?_
      rw [hr];rw [hrest] at hy;exact kS _ hy
     | true =>
      simp only [fw,aJ,aa];cases kn with
      | true=>exact absurd (db.1 c) (hp rfl x (by rw [hr];exact il))
      | false =>
       show (bif x.2.1 != b then _ else _)=some ((t,bif x.2.1 != b then 7 else 0).1,((t,bif x.2.1 != b then 7 else 0).2,()));cases x.2.1 != b with
       | true=>rfl
       | false =>
        refine (ih true fun _ y hy q=>?_).trans rfl;rw [hrest] at hy;have hpw:(t.2.1.drop i.toNat).Pairwise fun a b=>a.1≠b.1:=List.Pairwise.sublist (List.drop_sublist _ _) hu
        rw [hr] at hpw;exact (List.pairwise_cons.1 hpw).1 y hy ((db.1 c).trans q.symm)
theorem uP (k:Nat) (x:Ty.d aM):fq.f k x=some (eF [x],()):=by
 have e:fq.f k x=some (lF x,()):=by unfold fq.f fq.t lF gB;rw [kf,ac];cases decide (1≤(x.1.size:Int)∧(x.1.size:Int)≤8) <;> cases decide ((x.2.2.1.size:Int)≤24) <;> cases x.2.1 <;> rfl
 rw [e];unfold eF;show some (lF x,())=some ((lF x&&true)&&decide _,());rw [Bool.and_true,aW (by show (1:Nat)≤8;decide),Bool.and_true]
theorem Bi {k:Nat} (hk:2 ^ 50≤k) {t:Ty.d aV} (h:TV t) (p:Ty.d aM):j4.f k t p=some ((iJ t p).1,((iJ t p).2,())):=by
 have h2:=h.2;have hz:(t.2.2.1++[p]).length=t.2.2.1.length+1:=dt ..;unfold j4.f j4.t iJ;rw [rD k h,ac];simp only [];rw [bn (by omega) (by decide)];cases t.1 with
 | false=>rfl
 | true =>
  simp only [fw,aJ];rw [uP,ac];simp only [];cases eF [p] with
  | false=>rfl
  | true =>
   simp only [fw,aJ];rw [sj hk (t:=(true,(t.2.1,((t.2.2.1++[p]),())))) (by show (t.2.2.1++[p]).length≤1000;omega),ac];simp only [];cases decide (((fZ (t.2.2.1++[p])).length:Int) > 8) with
   | true=>rfl
   | false =>simp only [aJ];cases decide (((t.2.2.1++[p]).length:Int) > 50) <;> rfl
theorem Il {s:ByteArray}:∀ {w:eU} {q:Ty.d aM},ll w s=some q→q ∈ w
 | [],q,h=>by cases h
 | p::w,q,h=>by
  unfold ll at h;cases c:ll w s with
  | some r =>
   rw [c] at h;simp only [] at h;injection h with h;rw [← h];exact kS _ (Il c)
  | none =>
   rw [c] at h;simp only [] at h;cases c2:seq p.1 s with
   | true =>
    rw [c2] at h;injection h with h;rw [← h];exact il
   | false=>rw [c2] at h;cases h
theorem LJ {w:eU} {q:Ty.d aM} (h:q ∈ fZ w):q ∈ w:=by
 unfold fZ at h;obtain ⟨s,hs,e⟩:=List.mem_map.1 h;have hk:(w.any fun p=>seq p.1 s)=true:=by rw [← Cx s w];exact List.any_eq_true.2 ⟨s,hs,bQ s⟩
 obtain ⟨r,h1,_⟩:=Ip hk;rw [h1] at e;rw [← e];exact Il h1
theorem HO {l:eU} (h:∀ w ∈ l,lF w=true) (hl:l.length≤8):eF l=true:=by
 unfold eF;rw [aW hl,Bool.and_true];have key:∀ (l:eU) (p:Option (Ty.d aM)),(∀ x ∈ l,lF x=true)→qM (fun _=>lF) p l=true:=by
  intro l
  induction l with
  | nil=>exact fun _ _=>rfl
  | cons a l ih =>intro p h;rw [qM,ih _ fun x hx=>h x (kS _ hx),Bool.and_true];exact h a il
 exact key l none h
structure TG (t:Ty.d aV):Prop where
 tv:TV t
 uq:UQ t
 put:∀ w ∈ t.2.2.1,lF w=true
 net:(fZ t.2.2.1).length≤8
theorem TG.puts {t:Ty.d aV} (h:TG t):eF (fZ t.2.2.1)=true:=HO (fun w hw=>h.put w (LJ hw)) h.net
theorem BJ (b:Bool):TG (b,([],([],()))):=by refine ⟨⟨Nat.zero_le _,Nat.zero_le _⟩,List.Pairwise.nil,fun w hw=>?_,Nat.zero_le _⟩;exact absurd (show w ∈ ([]:eU) from hw) List.not_mem_nil
theorem Lg {t:Ty.d aV} (h:TG t) (key:ByteArray) (b:Int):TG (gZ t key b).1∧(gZ t key b).1.2.2.1=t.2.2.1:=by
 have hu:=Mk h.uq key b;have e:(gZ t key b).1.2.2.1=t.2.2.1∧(gZ t key b).1.2.1.length≤20:=by
  have h1:=h.tv.1;unfold gZ;cases t.1 with
  | false=>exact ⟨rfl,h1⟩
  | true =>
   simp only [fw,aJ];cases gB key with
   | false=>exact ⟨rfl,h1⟩
   | true =>
    simp only [fw,aJ];cases lN t.2.1 key with
    | some b'=>exact ⟨rfl,h1⟩
    | none =>
     simp only [];cases c:decide ((t.2.1.length:Int)≥20) with
     | true=>exact ⟨rfl,h1⟩
     | false =>have c:=of_decide_eq_false c;refine ⟨rfl,?_⟩;show (t.2.1++[(key,(b,()))]).length≤20;rw [nE,List.length_singleton];omega
 refine ⟨⟨⟨e.2,by rw [e.1];exact h.tv.2⟩,hu,by rw [e.1];exact h.put,by rw [e.1];exact h.net⟩,e.1⟩
theorem KG {t:Ty.d aV} (h:TG t) {p:Ty.d aM} (hp:eF [p]=true):TG (iJ t p).1∧(iJ t p).1.2.2.1.length≤t.2.2.1.length+1:=by
 have hu:=Ki h.uq p;revert hu;unfold iJ;cases t.1 with
 | false=>exact fun _=>⟨h,Nat.le_succ _⟩
 | true =>
  simp only [fw,aJ,hp];cases c1:decide (((fZ (t.2.2.1++[p])).length:Int) > 8) with
  | true=>exact fun _=>⟨h,Nat.le_succ _⟩
  | false =>
   simp only [aJ];cases c2:decide (((t.2.2.1++[p]).length:Int) > 50) with
   | true=>exact fun _=>⟨h,Nat.le_succ _⟩
   | false =>
    simp only [aJ];intro hu;have c1:=of_decide_eq_false c1;have c2:=of_decide_eq_false c2;refine ⟨⟨⟨h.tv.1,?_⟩,hu,fun w hw=>?_,?_⟩,?_⟩
    · show (t.2.2.1++[p]).length≤50;omega
    · have hw:w ∈ t.2.2.1++[p]:=hw;rcases List.mem_append.1 hw with q | q
      · exact h.put w q
      · rw [List.mem_singleton.1 q];exact uc hp il
    · show (fZ (t.2.2.1++[p])).length≤8;omega
    · show (t.2.2.1++[p]).length≤t.2.2.1.length+1;rw [nE,List.length_singleton];exact Nat.le_refl _
def sX:List (Ty.d aV)→Nat
 | []=>0
 | t::l=>t.2.2.1.length+sX l
theorem zF:∀ {l:List (Ty.d aV)} {i:Nat} (t:Ty.d aV),i<l.length→sX (l.set i t)+(l.getD i (Ty.z aV)).2.2.1.length=sX l+t.2.2.1.length
 | [],i,t,h=>by cases h
 | x::l,0,t,h=>by show t.2.2.1.length+sX l+x.2.2.1.length=x.2.2.1.length+sX l+t.2.2.1.length;omega
 | x::l,i+1,t,h=>by have ih:=zF (l:=l) (i:=i) t (by rw [j7] at h;omega);show x.2.2.1.length+sX (l.set i t)+(l.getD i (Ty.z aV)).2.2.1.length=x.2.2.1.length+sX l+t.2.2.1.length;omega
structure ro (n:Int) (e:Ty.d bF) (m:Ty.d bB):Prop where
 up:e.1=m.1
 txn:e.2.2.2.1=m.2.2.2.1
 len:e.2.2.2.1.length=3
 tg:∀ t ∈ e.2.2.2.1,TG t
 st:∃ st,BD n (sX e.2.2.2.1:Int) st e.2.2.1∧bY st.2.1 e.2.2.1=(m.2.1,0)∧@Eq Int st.2.2.1 m.2.2.1∧(e.1=true→e.2.1=st)
theorem ro.later {n:Int} {e:Ty.d bF} {m:Ty.d bB} (h:ro n e m):ro (n+1) e m:=by obtain ⟨st,b,r⟩:=h.st;exact ⟨h.up,h.txn,h.len,h.tg,st,b.mono (by omega) (by omega) (by omega),r⟩
theorem ro.at_ {n:Int} {e:Ty.d bF} {m:Ty.d bB} (h:ro n e m) (i:Int):iF e i=lJ m i:=by unfold iF lJ;rw [h.txn]
theorem ro.good {n:Int} {e:Ty.d bF} {m:Ty.d bB} (h:ro n e m) (i:Int):TG (iF e i):=by
 unfold iF;by_cases c:i.toNat<e.2.2.2.1.length
 · exact h.tg _ (gR c)
 · have q:e.2.2.2.1.getD i.toNat (Ty.z aV)=Ty.z aV:=by
    rw [List.getD,List.getElem?_eq_none (by omega)];rfl
   rw [q];exact BJ false
theorem ro.put {n:Int} {e:Ty.d bF} {m:Ty.d bB} (h:ro n e m) {i:Int} (h0:0≤i) (h1:i<(e.2.2.2.1.length:Int)) {t:Ty.d aV} (ht:TG t) (hl:t.2.2.1.length≤(iF e i).2.2.1.length+1):ro (n+1) (ye e i t) (iZ m i t):=by
 obtain ⟨st,b,r⟩:=h.st;have hp:=zF (l:=e.2.2.2.1) (i:=i.toNat) t (by omega);unfold iF at hl;refine ⟨h.up,?_,?_,?_,st,?_,r⟩
 · show e.2.2.2.1.set i.toNat t=m.2.2.2.1.set i.toNat t;rw [h.txn]
 · show (e.2.2.2.1.set i.toNat t).length=3;rw [List.length_set];exact h.len
 · intro x hx;rcases List.mem_or_eq_of_mem_set hx with q | q
   · exact h.tg x q
   · rw [q];exact ht
 · show BD (n+1) (sX (e.2.2.2.1.set i.toNat t):Int) st e.2.2.1;exact b.mono (by omega) (by omega) (by omega)
theorem HG:∀ t ∈ List.replicate 3 (Ty.z aV),TG t:=fun t ht=>by rw [List.eq_of_mem_replicate ht];exact BJ false
theorem Lm {d y:Ty.d aA} (hd:DR d) (hy:DR y) (h:∀ s,fT y s=fT d s) (e:Ty.d aC):dq y e=dq d e:=by unfold dq;rw [iv hd,iv hy,h]
theorem KF {st st':Ty.d aE} {d y:Ty.d aA} (hd:DR d) (hy:DR y) (h:∀ s,fT y s=fT d s) (s1:dw st d=true) (s2:dw st' y=true) (e:st'.2.1=st.2.1):bY st'.2.1 y=bY st.2.1 d:=by
 rw [lK s1,lK s2,e];congr 1;refine List.map_congr_left fun f _=>?_
 rw [Lm hd hy h]
theorem xE:∀ (l:bV) (key:ByteArray),(bK l key).2=0∨(bK l key).2=8
 | [],_ => .inr rfl
 | x::l,key=>by
  rw [show bK (x::l) key=bif seq x.1 key then (x,0) else bK l key from rfl];cases seq x.1 key with
  | true=>exact .inl rfl
  | false=>exact xE l key
theorem ro.store {n:Int} {e:Ty.d bF} {m:Ty.d bB} (h:ro n e m) (hu:e.1=true):BD n (sX e.2.2.2.1:Int) e.2.1 e.2.2.1∧bY e.2.1.2.1 e.2.2.1=(m.2.1,0)∧@Eq Int e.2.1.2.2.1 m.2.2.1∧dw e.2.1 e.2.2.1=true:=by obtain ⟨st,b,r1,r2,r3⟩:=h.st;rw [← r3 hu] at b r1 r2;exact ⟨b,r1,r2,b.op.MI.store.1⟩
theorem O2 {n:Int} {e:Ty.d bF} {m:Ty.d bB} (h:ro n e m) (hu:e.1=true) {s:Ty.d aH} (h0:LE.le (α:=Int) 0 s.2.1) (h1:LT.lt (α:=Int) s.2.1 (e.2.2.2.1.length:Int)):(Kc e s).2=(yJ m s).2∧ro (n+1) (Kc e s).1 (yJ m s).1:=by
 obtain ⟨b,r1,r2,hs⟩:=h.store hu;have hg:=MN hs s.2.2.1;rw [r1] at hg;have hc:=xE m.2.1 s.2.2.1;have ht:=h.good s.2.1;unfold Kc yJ;rw [hg,← h.at_];cases gB s.2.2.1 with
 | false=>exact ⟨rfl,h.later⟩
 | true =>
  simp only [fw,aJ];cases ll (iF e s.2.1).2.2.1 s.2.2.1 with
  | some p =>
   simp only [];cases p.2.1 with
   | true=>exact ⟨rfl,h.later⟩
   | false=>exact ⟨rfl,h.later⟩
  | none =>
   simp only [];unfold QM DJ;have c3:((bK m.2.1 s.2.2.1).2==3)=false:=by rcases hc with q | q <;> rw [q] <;> rfl
   rw [c3];simp only [aJ];obtain ⟨t1,t2⟩:=Lg ht s.2.2.1 (bK m.2.1 s.2.2.1).1.2.2.1;cases (gZ (iF e s.2.1) s.2.2.1 (bK m.2.1 s.2.2.1).1.2.2.1).2 != 0 with
   | true=>exact ⟨rfl,h.later⟩
   | false=>exact ⟨rfl,h.put h0 h1 t1 (by rw [t2];omega)⟩
theorem Of {n:Int} {e:Ty.d bF} {m:Ty.d bB} (h:ro n e m) {s:Ty.d aH} (h0:LE.le (α:=Int) 0 s.2.1) (h1:LT.lt (α:=Int) s.2.1 (e.2.2.2.1.length:Int)):(Jd e s).2=(Bj m s).2∧ro (n+1) (Jd e s).1 (Bj m s).1:=by
 have ht:=h.good s.2.1;unfold Jd Bj;rw [← h.at_];cases c:eF [mA s] with
 | false=>exact ⟨rfl,h.later⟩
 | true =>
  simp only [fw,aJ];obtain ⟨t1,t2⟩:=KG ht c;cases (iJ (iF e s.2.1) (mA s)).2 with
  | false=>exact ⟨rfl,h.later⟩
  | true=>exact ⟨rfl,h.put h0 h1 t1 t2⟩
theorem I9 {n:Int} {e:Ty.d bF} {m:Ty.d bB} (h:ro n e m) (hn:n≤82) (hu:e.1=true) {s:Ty.d aH} (h0:LE.le (α:=Int) 0 s.2.1) (h1:LT.lt (α:=Int) s.2.1 (e.2.2.2.1.length:Int)):(vt e s).2=(tC (iZ m s.2.1 jZ) (lJ m s.2.1)).2∧ro (n+1) (vt e s).1 (tC (iZ m s.2.1 jZ) (lJ m s.2.1)).1:=by
 obtain ⟨b,r1,r2,hs⟩:=h.store hu;have ht:=h.good s.2.1;have hz:ro (n+1) (ye e s.2.1 jZ) (iZ m s.2.1 jZ):=h.put h0 h1 (BJ false) (Nat.zero_le _);have hv:lG (iF e s.2.1).2.1 (uX m.2.1)=lG (iF e s.2.1).2.1 e.2.1.2.1:=by have q:=I6 hs (iF e s.2.1).2.1;rw [r1] at q;exact q
 have hk:iD e.2.1.2.1=m.2.1.map (·.1):=by have q:=CX hs;rw [r1] at q;exact q
 have hb:=b.bat;have hpend:=zF (l:=e.2.2.2.1) (i:=s.2.1.toNat) jZ (by omega);rw [show e.2.2.2.1.getD s.2.1.toNat (Ty.z aV)=iF e s.2.1 from rfl,show jZ.2.2.1.length=0 from rfl] at hpend;have hnl:=sv (iF e s.2.1).2.2.1;have hp:=ht.puts;unfold vt tC;rw [← h.at_,show (iZ m s.2.1 jZ).2.1=m.2.1 from rfl,show (iZ m s.2.1 jZ).2.2.1=m.2.2.1 from rfl,hv];cases lG (iF e s.2.1).2.1 e.2.1.2.1 with
 | false=>exact ⟨rfl,hz⟩
 | true =>
  simp only [fw,aJ];have ha:=Hs hk (fZ (iF e s.2.1).2.2.1) m.2.2.1;unfold pX;rw [hs,hp,ha];simp only [fw,aJ];generalize fZ (iF e s.2.1).2.2.1=l at hp hnl ha ⊢;cases c0:((l.length:Int)==0) with
  | true=>exact ⟨rfl,hz⟩
  | false =>
   simp only [aJ];cases c1:decide (((gI m.2.1 l m.2.2.1).length:Int) > 20) with
   | true=>exact ⟨rfl,hz⟩
   | false =>
    simp only [aJ];have nk:∀ x:Int,x≤1+n→¬ x > 1000000:=by omega
    rw [aY (nk _ hb),← r2,aY (nk _ hb)];simp only [aJ];have c1:=of_decide_eq_false c1;obtain ⟨z,b2,e2⟩:=b.write hn hp (by rw [ha];omega) (by omega);have hdump:=IM hs b.op.MI.store.2 hp (by have:=(b.room hn).2.2.2.2;exact this) (by rw [ha];omega) z;rw [r1] at hdump;rw [z];refine ⟨rfl,?_⟩;refine ⟨h.up,hz.txn,hz.len,hz.tg,(cN e.2.1 e.2.2.1 l).1,?_,?_,?_,fun _=>rfl⟩
    · show BD (n+1) (sX (e.2.2.2.1.set s.2.1.toNat jZ):Int) _ _;exact b2.mono (by omega) (by omega) (by omega)
    · show bY (cN e.2.1 e.2.2.1 l).1.2.1 (cN e.2.1 e.2.2.1 l).2.1=(gI m.2.1 l e.2.1.2.2.1,0);exact hdump
    · rw [e2];show e.2.1.2.2.1+1=aQ (e.2.1.2.2.1+1);have nk2:∀ x:Int,x≤1+n→0≤x→aQ (x+1)=x+1:=fun x p q=>aF (by omega) (by omega)
      obtain ⟨_,_,g3⟩:=dT hs;exact (nk2 _ hb (Int.le_trans (by decide) g3)).symm
theorem MX {n:Int} {e:Ty.d bF} {m:Ty.d bB} (h:ro n e m):(g6 e.2.2.1).2.2=0∧ro (n+1) (j_ (g6 e.2.2.1)) (true,(m.2.1,(m.2.2.1,(List.replicate 3 (Ty.z aV),())))):=by
 obtain ⟨st,b,r1,r2,r3⟩:=h.st;obtain ⟨hi,eo,o2,same⟩:=Pj b.op;have hs:=b.op.MI.store.1;have hs2:=o2.MI.store.1;have hd:=KF b.op.disk o2.disk same hs hs2 rfl;obtain ⟨L,t,j,lb⟩:=b.op.mi;have hl:(fT e.2.2.1 (bT st)).isSome=true:=by
  obtain ⟨_,_,k1,_,_⟩:=bo (nx:=st.1.1) (ids:=st.1.2.1) t.live;have hlast:bi st.1.2.1 ∈ st.1.2.1:=by have hs:=mM k1;rw [hs];exact List.mem_append_right _ (List.mem_singleton.2 (by rw [← hs]))
  obtain ⟨x,hx,_⟩:=(tJ hs).full _ hlast;rw [show fT e.2.2.1 (bT st)=some x from hx];rfl
 have hu:=(xG b.op.rm hl).1.use;rw [eo];refine ⟨rfl,rfl,rfl,rfl,HG,_,⟨o2,?_,b.size,?_,?_,?_,Int.le_refl _⟩,hd.trans r1,r2,fun _=>rfl⟩
 · have h1:=b.pot;have h0:=b.p0;show pot st+71*0≤258+71*(n+1);omega
 · have h1:=b.use;have h0:=b.p0;show (du (dY e.2.2.1 (bT st)).1.1:Int)+421*0≤18000+421*(n+1);omega
 · have h1:=b.next;have h0:=b.p0;have key:∀ x q:Int,0≤q→x+q≤2+2*n→x+0≤2+2*(n+1):=by omega
   exact key _ _ h0 h1
 · have h1:=b.bat;have key:∀ x:Int,x≤1+n→x≤1+(n+1):=by omega
   exact key _ h1
theorem OG {n:Int} {e:Ty.d bF} {m:Ty.d bB} (h:ro n e m) (hn:n≤82) (hu:e.1=true) {s:Ty.d aH} (h0:LE.le (α:=Int) 0 s.2.1) (h1:LT.lt (α:=Int) s.2.1 (e.2.2.2.1.length:Int)):(CN e s).2=(zQ m s).2∧ro (n+1) (CN e s).1 (zQ m s).1:=by
 unfold CN zQ;cases c1:s.1==1 with
 | true=>exact ⟨rfl,h.put h0 h1 (BJ true) (Nat.zero_le _)⟩
 | false =>
  simp only [aJ];cases c6:s.1==6 with
  | true=>exact ⟨rfl,h.put h0 h1 (BJ false) (Nat.zero_le _)⟩
  | false =>
   simp only [aJ];cases c2:s.1==2 with
   | true =>
    have c5:(s.1==5)=false:=by rw [show s.1=(2:Int) from by simpa using c2];rfl
    rw [c5];exact O2 h hu h0 h1
   | false =>
    cases c5:s.1==5 with
    | true=>exact I9 h hn hu h0 h1
    | false=>exact Of h h0 h1
theorem sO {n:Int} {e:Ty.d bF} {m:Ty.d bB} (h:ro n e m) (hn:n≤82) {s:Ty.d aH} (h11:(s.1==11)=false):(jG e s).2=(jP m s).2∧ro (n+1) (jG e s).1 (jP m s).1:=by
 unfold jG jP;rw [h11,← h.up];cases c10:s.1==10 with
 | true =>
  cases up:e.1 with
  | true=>exact ⟨rfl,h.later⟩
  | false =>obtain ⟨z,q⟩:=MX h;simp only [aa,aJ];rw [z];exact ⟨rfl,q⟩
 | false =>
  simp only [aJ];cases up:e.1 with
  | false=>exact ⟨rfl,h.later⟩
  | true =>
   simp only [fw,aJ];obtain ⟨b,r1,r2,hs⟩:=h.store up;cases c7:s.1==7 with
   | true =>simp only [aa];obtain ⟨z,b2,e2,e3⟩:=b.merge hn;unfold HU;rw [z];exact ⟨rfl,h.up,h.txn,h.len,h.tg,_,b2,e3.trans r1,(show @Eq Int _ _ from e2).trans r2,fun _=>rfl⟩
   | false =>
    simp only [aJ];cases c8:s.1==8 with
    | true =>
     simp only [aa];have hk:iD e.2.1.2.1=m.2.1.map (·.1):=by have q:=CX hs;rw [r1] at q;exact q
     refine ⟨?_,h.later⟩;show ((0:Int),(ByteArray.empty,(iD e.2.1.2.1,())))=(0,(ByteArray.empty,(m.2.1.map (·.1),())));rw [hk]
    | false =>
     simp only [aJ];cases c9:s.1==9 with
     | true =>simp only [aa];refine ⟨rfl,rfl,rfl,rfl,HG,e.2.1,?_,r1,r2,fun q=>by cases q⟩;have hp:=b.p0;exact b.mono (by show (0:Int)-_≤_;omega) (by omega) (Int.le_refl _)
     | false =>
      simp only [aJ];have ef:HN e s=wu m s:=by unfold HN wu;rw [h.at_,h.txn]
      rw [← ef];cases c:HN e s with
      | false=>exact ⟨rfl,h.later⟩
      | true =>simp only [fw,aJ];unfold HN at c;rw [iE,decide_eq_true_eq] at c;have k0:LE.le (α:=Int) 0 s.2.1:=c.1.1;have k1:LE.le (α:=Int) s.2.1 ((e.2.2.2.1.length:Int)-1):=c.1.2;exact OG h hn up k0 (by omega)
def Mi:Ty.d aE:=(sK,([],(1,(0,(0,())))))
theorem LC:∃ d,g6 (ik 100000)=(Mi,(d,0))∧OP Mi d∧du d.1≤211:=by
 have hr:=PV;have hn:jQ (a_ aG 1)=true:=wI ⟨by omega,by omega⟩;have e0:m7 [] (ik 100000)=(ik 100000,0):=by unfold m7 va;rw [jX.2 hr.disk];rfl
 have hx:bU (ik 100000).1 (a_ aG 1)=none:=rfl;obtain ⟨a1,a2⟩:=LZ hr (by omega) hn hx;obtain ⟨b1,b2⟩:=uZ a1 (by omega) (by omega) sK;have a3:fT (rk (ik 100000) (a_ aG 1)).1 (a_ aG 1)=some ByteArray.empty:=O5 a2;have b3:fT (bE sK (rk (ik 100000) (a_ aG 1)).1).1 (a_ aG 1)=some ByteArray.empty:=(fo (ig ⟨by omega,by omega⟩) (jW ⟨by omega,by omega⟩)).trans a3;have b4:=rJ a1.disk b2;have b5:=r_ a1.disk b2;have e1:oD (ik 100000)=bE sK (rk (ik 100000) (a_ aG 1)).1:=by unfold oD;rw [e0,oZ (r:=(ik 100000,0)) rfl,oZ a2]
 have on:∀ s,(fT (bE sK (rk (ik 100000) (a_ aG 1)).1).1 s).isSome=true→s=gg∨(∃ x ∈ [(1:Int)],s=a_ aG x)∨s=a_ bO 1:=fun s hs=>by
  by_cases q1:s=gg
  · exact .inl q1
  by_cases q2:s=a_ aG 1
  · exact .inr (.inl ⟨1,il,q2⟩)
  exfalso;by_cases q3:s=ib
  · rw [q3,b5] at hs;cases hs
  rw [fo (fun q=>q3 q.symm) (fun q=>q1 q.symm),NM (fun q=>q2 q.symm)] at hs;cases hs
 have e2:g6 (ik 100000)=AC (ik 100000):=by
  unfold g6;have e:(bJ (ik 100000) gg).2=false:=by unfold bJ;rw [jX.2 hr.disk];rfl
  rw [jX.2 hr.disk,e];rfl
 refine ⟨(bE sK (rk (ik 100000) (a_ aG 1)).1).1,?_,?_,b1.use⟩
 · rw [e2];unfold AC;rw [e1,b2];rfl
 · refine OP.of ⟨[(1,[])],⟨by decide,b1.disk,rfl,fun x hx=>?_,fun t q=>?_⟩,⟨⟨0,rfl⟩,rfl,fun p hp=>(by cases hp),show (1:Int)≤1 by decide,show (1:Int)≤1000001 by decide⟩,.inl rfl⟩ ⟨on,b4⟩ (Dr b1)
   · rw [List.mem_singleton.1 hx];exact ⟨b3,fun r hr=>by cases hr⟩
   · have q:fT (bE sK (rk (ik 100000) (a_ aG 1)).1).1 (a_ aG 1)=some t:=q;rw [b3] at q;rw [← Option.some.inj q];rfl
def nw:Ty.d bB:=(true,([],(1,(List.replicate 3 (Ty.z aV),()))))
theorem rI:(g6 (ik 100000)).2.2=0∧ro 0 (j_ (g6 (ik 100000))) nw:=by
 obtain ⟨d,e,o,u⟩:=LC;have hs:=o.MI.store.1;rw [e];refine ⟨rfl,rfl,rfl,rfl,HG,Mi,⟨o,show pot Mi+71*0≤258+71*0 by decide,by decide,?_,show (2:Int)+0≤2+2*0 by decide,by decide,Int.le_refl _⟩,?_,rfl,fun _=>rfl⟩
 · show (du d.1:Int)+421*0≤18000+421*0;omega
 · show bY Mi.2.1 d=([],0);rw [lK hs];rfl
theorem ro.mv {n:Int} {e:Ty.d bF} {m:Ty.d bB} (h:ro n e m):MV m:=by
 obtain ⟨st,b,r1,_⟩:=h.st;have hs:=b.op.MI.store.1;obtain ⟨_,g2,_⟩:=dT hs;have e1:m.2.1.length=st.2.1.length:=by rw [lK hs] at r1;have:=congrArg (fun q:bV × Int=>q.1.length) r1;simp only [List.length_map] at this;exact this.symm
 refine ⟨by omega,?_,?_⟩
 · rw [← h.txn,h.len];omega
 · rw [← h.txn];exact fun t ht=>(h.tg t ht).tv
def fm:Ty.d bB→List (Ty.d aH)→Ty.d bB × List (Ty.d aK)
 | m,[]=>(m,[])
 | m,s::l=>((fm (jP m s).1 l).1,(jP m s).2::(fm (jP m s).1 l).2)
noncomputable def lE:Ty.d bF→List (Ty.d aH)→Ty.d bF × List (Ty.d aK)
 | e,[]=>(e,[])
 | e,s::l=>((lE (jG e s).1 l).1,(jG e s).2::(lE (jG e s).1 l).2)
theorem zC:∀ (l:List (Ty.d aH)) {n:Int} {e:Ty.d bF} {m:Ty.d bB},ro n e m→n+(l.length:Int)≤82→(∀ s ∈ l,(s.1==11)=false)→(lE e l).2=(fm m l).2∧ro (n+(l.length:Int)) (lE e l).1 (fm m l).1
 | [],n,e,m,h,_,_=>⟨rfl,by rw [List.length_nil,Int.natCast_zero,Int.add_zero];exact h⟩
 | s::l,n,e,m,h,hn,h11=>by
  rw [j7,Int.natCast_succ] at hn ⊢;obtain ⟨a,b⟩:=sO h (by omega) (h11 s il);obtain ⟨x,y⟩:=zC l b (by omega) fun q hq=>h11 q (kS _ hq)
  refine ⟨?_,?_⟩
  · show (jG e s).2::(lE (jG e s).1 l).2=(jP m s).2::(fm (jP m s).1 l).2;rw [a,x]
  · show ro _ (lE (jG e s).1 l).1 (fm (jP m s).1 l).1;rw [show n+((l.length:Int)+1)=n+1+(l.length:Int) by omega];exact y
def AL (P:Ty.d bB→Prop):Ty.d bB→List (Ty.d aH)→Prop
 | m,[]=>P m
 | m,s::l=>P m∧AL P (jP m s).1 l
theorem CS:∀ (l:List (Ty.d aH)) {n:Int} {e:Ty.d bF} {m:Ty.d bB},ro n e m→n+(l.length:Int)≤82→(∀ s ∈ l,(s.1==11)=false)→AL MV m l
 | [],n,e,m,h,_,_=>h.mv
 | s::l,n,e,m,h,hn,h11=>by rw [j7,Int.natCast_succ] at hn;obtain ⟨a,b⟩:=sO h (by omega) (h11 s il);exact ⟨h.mv,CS l b (by omega) fun q hq=>h11 q (kS _ hq)⟩
theorem R1.refl (k:Nat) (m:Ty.d bB):R1 k m m:=⟨rfl,rfl,rfl,rfl,fun _ _=>rfl⟩
structure BK (m:Ty.d bB) (b:List (Ty.d aV)):Prop where
 len:b.length=m.2.2.2.1.length
 open_:∀ j,(b.getD j (Ty.z aV)).1=(m.2.2.2.1.getD j (Ty.z aV)).1
 wr:∀ j,(b.getD j (Ty.z aV)).2.2.1=(m.2.2.2.1.getD j (Ty.z aV)).2.2.1
def s6 (b:List (Ty.d aV)) (s:Ty.d aH) (c:Int):List (Ty.d aV) :=
 bif s.1==9&&c==0 then List.replicate 3 (Ty.z aV) else
 bif !(decide ((0:Int)≤s.2.1∧s.2.1≤2)&&decide ((1:Int)≤s.1∧s.1≤6)) then b else
 bif (s.1==1&&c==0)||((s.1==6&&c==0)||(s.1==5&&(c != 4&&c != 6))) then b.set s.2.1.toNat ((s.1==1),([],([],()))) else
 bif !(b.getD s.2.1.toNat (Ty.z aV)).1 then b else
 bif (s.1==3||s.1==4)&&c==0 then b.set s.2.1.toNat ((b.getD s.2.1.toNat (Ty.z aV)).1,((b.getD s.2.1.toNat (Ty.z aV)).2.1,((b.getD s.2.1.toNat (Ty.z aV)).2.2.1++[mA s],()))) else b
theorem kQ {l:List (Ty.d aV)} {i:Nat} (h:i<l.length) (t:Ty.d aV):(l.set i t).getD i (Ty.z aV)=t:=by simp only [List.getD];rw [List.getElem?_set_self h];rfl
theorem BK.set {m:Ty.d bB} {b:List (Ty.d aV)} (h:BK m b) (i:Int) (hi:i.toNat<b.length) {t u:Ty.d aV} (h1:u.1=t.1) (h2:u.2.2.1=t.2.2.1):BK (iZ m i t) (b.set i.toNat u):=by
 have hl:=h.len;refine ⟨?_,fun j=>?_,fun j=>?_⟩
 · show (b.set _ _).length=(m.2.2.2.1.set _ _).length;rw [List.length_set,List.length_set];exact hl
 · show ((b.set i.toNat u).getD j _).1=((m.2.2.2.1.set i.toNat t).getD j _).1;by_cases q:j=i.toNat
   · rw [q,kQ hi,kQ (by omega),h1]
   · rw [iW q,iW q];exact h.open_ j
 · show ((b.set i.toNat u).getD j _).2.2.1=((m.2.2.2.1.set i.toNat t).getD j _).2.2.1;by_cases q:j=i.toNat
   · rw [q,kQ hi,kQ (by omega),h2]
   · rw [iW q,iW q];exact h.wr j
theorem BK.keep {m:Ty.d bB} {b:List (Ty.d aV)} (h:BK m b) (i:Int) {t:Ty.d aV} (h1:t.1=(lJ m i).1) (h2:t.2.2.1=(lJ m i).2.2.1):BK (iZ m i t) b:=by
 have hl:=h.len;refine ⟨?_,fun j=>?_,fun j=>?_⟩
 · show b.length=(m.2.2.2.1.set _ _).length;rw [List.length_set];exact hl
 · show _=((m.2.2.2.1.set i.toNat t).getD j _).1;by_cases q:j=i.toNat
   · by_cases c:i.toNat<m.2.2.2.1.length
     · rw [q,kQ c,h1];exact h.open_ _
     · rw [List.set_eq_of_length_le (by omega)];exact h.open_ j
   · rw [iW q];exact h.open_ j
 · show _=((m.2.2.2.1.set i.toNat t).getD j _).2.2.1;by_cases q:j=i.toNat
   · by_cases c:i.toNat<m.2.2.2.1.length
     · rw [q,kQ c,h2];exact h.wr _
     · rw [List.set_eq_of_length_le (by omega)];exact h.wr j
   · rw [iW q];exact h.wr j
theorem BK.new:BK nw (List.replicate 3 (Ty.z aV)):=⟨rfl,fun _=>rfl,fun _=>rfl⟩
abbrev ir:=List (Ty.d au)
abbrev pf:=ir × ir × List (Ty.d aV)
def FT (j:Int):Ty.d au:=(j,([],([],([],()))))
def o9 (n:ir) (s:Ty.d aH):Ty.d au:=n.getD s.2.1.toNat (Ty.z au)
def kI (b:List (Ty.d aV)) (s:Ty.d aH):Ty.d aV:=b.getD s.2.1.toNat (Ty.z aV)
def kE (b:List (Ty.d aV)) (s:Ty.d aH):Bool:=(uY (ll (kI b s).2.2.1 s.2.2.1)).2.1
def jz (s:Ty.d aH) (c:Int):Bool:=(s.1==1&&c==0)||((s.1==6&&c==0)||(s.1==5&&(!(c==0)&&(!(c==4)&&!(c==6)))))
def s8 (f:Bool) (st:pf) (s:Ty.d aH):pf:=bif f then
 (st.1,(st.2.1,st.2.2.set s.2.1.toNat ((kI st.2.2 s).1,((kI st.2.2 s).2.1,((kI st.2.2 s).2.2.1++[(s.2.2.1,((s.1==4),(s.2.2.2.1,())))],(kI st.2.2 s).2.2.2))))) else st
def qU (f:Bool) (c:Int) (st:pf) (s:Ty.d aH):pf:=bif f then
 (st.1,(st.2.1.set s.2.1.toNat ((o9 st.2.1 s).1,((o9 st.2.1 s).2.1,((o9 st.2.1 s).2.2.1++[s.2.2.1],(o9 st.2.1 s).2.2.2))),st.2.2)) else
 s8 ((s.1==3||s.1==4)&&c==0) st s
def oH (f:Bool) (st:pf) (s:Ty.d aH) (a:Ty.d aK):pf:=bif f then
 (st.1,(st.2.1.set s.2.1.toNat ((o9 st.2.1 s).1,((o9 st.2.1 s).2.1++[(s.2.2.1,(a.2.1,(0,())))],(o9 st.2.1 s).2.2)),st.2.2)) else
 qU (s.1==2&&(!(kE st.2.2 s)&&a.1==8)) a.1 st s
def mc (f:Bool) (st:pf) (s:Ty.d aH) (a:Ty.d aK):pf:=bif f then
 (st.1,(st.2.1.set s.2.1.toNat (FT s.2.1),st.2.2.set s.2.1.toNat ((s.1==1),([],([],()))))) else
 bif s.1==5&&a.1==0 then
 (st.1++[(s.2.1,((o9 st.2.1 s).2.1,((o9 st.2.1 s).2.2.1,(fZ (kI st.2.2 s).2.2.1,()))))],(st.2.1.set s.2.1.toNat (FT s.2.1),st.2.2.set s.2.1.toNat (false,([],([],()))))) else
 bif !(kI st.2.2 s).1 then st else
 oH (s.1==2&&(!(kE st.2.2 s)&&a.1==0)) st s a
def eT (st:pf) (s:Ty.d aH) (a:Ty.d aK):pf :=
 bif s.1==9&&a.1==0 then (st.1,(List.replicate 3 (Ty.z au),List.replicate 3 (Ty.z aV))) else
 bif decide ((0:Int)≤s.2.1∧s.2.1≤2)&&decide ((1:Int)≤s.1∧s.1≤6) then mc (jz s a.1) st s a else st
def rl:pf→List (Ty.d aH)→List (Ty.d aK)→pf
 | st,s::l,a::q=>rl (eT st s a) l q
 | st,_,_=>st
structure HB (i:Nat) (st:pf):Prop where
 ol:st.1.length≤i
 nl:st.2.1.length=3
 bl:st.2.2.length=3
 nr:∀ h ∈ st.2.1,h.2.1.length≤i∧h.2.2.1.length≤i
 bw:∀ t ∈ st.2.2,t.2.2.1.length≤i
theorem o6 {α:Type} {P:α→Prop} {l:List α} {d:α} (h:∀ x ∈ l,P x) (hd:P d) (i:Nat):P (l.getD i d):=by
 simp only [List.getD];cases q:l[i]? with
 | none=>exact hd
 | some y=>exact h y (List.mem_of_getElem? q)
theorem yv {α:Type} {P:α→Prop} {l:List α} {y:α} (h:∀ x ∈ l,P x) (hy:P y) (i:Nat):∀ x ∈ l.set i y,P x:=fun x hx=>by
 rcases List.mem_or_eq_of_mem_set hx with q | q
 · exact h x q
 · rw [q];exact hy
theorem HB.now {i:Nat} {st:pf} (h:HB i st) (s:Ty.d aH):(o9 st.2.1 s).2.1.length≤i∧(o9 st.2.1 s).2.2.1.length≤i:=o6 (P:=fun x:Ty.d au=>x.2.1.length≤i∧x.2.2.1.length≤i) h.nr ⟨Nat.zero_le _,Nat.zero_le _⟩ _
theorem HB.book {i:Nat} {st:pf} (h:HB i st) (s:Ty.d aH):(kI st.2.2 s).2.2.1.length≤i:=o6 (P:=fun x:Ty.d aV=>x.2.2.1.length≤i) h.bw (Nat.zero_le _) _
theorem HB.mono {i j:Nat} {st:pf} (h:HB i st) (hij:i≤j):HB j st :=
 ⟨Nat.le_trans h.ol hij,h.nl,h.bl,fun x hx=>⟨Nat.le_trans (h.nr x hx).1 hij,Nat.le_trans (h.nr x hx).2 hij⟩,fun x hx=>Nat.le_trans (h.bw x hx) hij⟩
theorem HB.put {i:Nat} {st:pf} (h:HB i st) {o:ir} (ho:o.length≤i) {j j':Nat} {x:Ty.d au} {t:Ty.d aV} (hx:x.2.1.length≤i∧x.2.2.1.length≤i) (ht:t.2.2.1.length≤i):HB i (o,(st.2.1.set j x,st.2.2.set j' t)) :=
 ⟨ho,(List.length_set ..).trans h.nl,(List.length_set ..).trans h.bl,yv h.nr hx _,yv h.bw ht _⟩
theorem HB.putN {i:Nat} {st:pf} (h:HB i st) {j:Nat} {x:Ty.d au} (hx:x.2.1.length≤i∧x.2.2.1.length≤i):HB i (st.1,(st.2.1.set j x,st.2.2)) :=
 ⟨h.ol,(List.length_set ..).trans h.nl,h.bl,yv h.nr hx _,h.bw⟩
theorem HB.putB {i:Nat} {st:pf} (h:HB i st) {j:Nat} {t:Ty.d aV} (ht:t.2.2.1.length≤i):HB i (st.1,(st.2.1,st.2.2.set j t)) :=
 ⟨h.ol,h.nl,(List.length_set ..).trans h.bl,h.nr,yv h.bw ht _⟩
theorem Gz {i:Nat} {st:pf} (h:HB i st) (s:Ty.d aH) (a:Ty.d aK):HB (i+1) (eT st s a):=by
 have h':=h.mono (Nat.le_succ i);have hn:=h.now s;have hb:=h.book s;have ho:=h.ol;unfold eT;cases s.1==9&&a.1==0 with
 | true =>
  refine ⟨h'.ol,rfl,rfl,fun x hx=>?_,fun x hx=>?_⟩
  · rw [List.eq_of_mem_replicate hx];exact ⟨Nat.zero_le _,Nat.zero_le _⟩
  · rw [List.eq_of_mem_replicate hx];exact Nat.zero_le _
 | false =>
  cases decide ((0:Int)≤s.2.1∧s.2.1≤2)&&decide ((1:Int)≤s.1∧s.1≤6) with
  | false=>exact h'
  | true =>
   simp only [aa,aJ];unfold mc;cases jz s a.1 with
   | true=>exact h'.put h'.ol ⟨Nat.zero_le _,Nat.zero_le _⟩ (Nat.zero_le _)
   | false =>
    cases s.1==5&&a.1==0 with
    | true=>exact h'.put (by rw [dt];omega) ⟨Nat.zero_le _,Nat.zero_le _⟩ (Nat.zero_le _)
    | false =>
     cases !(kI st.2.2 s).1 with
     | true=>exact h'
     | false =>
      simp only [aJ];unfold oH;cases s.1==2&&(!(kE st.2.2 s)&&a.1==0) with
      | true=>exact h'.putN ⟨by show (_++[_]).length≤_;rw [dt];omega,by show (o9 st.2.1 s).2.2.1.length≤_;omega⟩
      | false =>
       simp only [aJ];unfold qU;cases s.1==2&&(!(kE st.2.2 s)&&a.1==8) with
       | true=>exact h'.putN ⟨by show (o9 st.2.1 s).2.1.length≤_;omega,by show (_++[_]).length≤_;rw [dt];omega⟩
       | false =>
        simp only [aJ];unfold s8;cases (s.1==3||s.1==4)&&a.1==0 with
        | true=>exact h'.putB (by show (_++[_]).length≤_;rw [dt];omega)
        | false=>exact h'
def rq:pf:=([],(List.replicate 3 (Ty.z au),List.replicate 3 (Ty.z aV)))
theorem G9:HB 0 rq:=⟨Nat.le_refl _,rfl,rfl,fun x hx=>by rw [List.eq_of_mem_replicate hx];exact ⟨Nat.le_refl _,Nat.le_refl _⟩,fun x hx=>by rw [List.eq_of_mem_replicate hx];exact Nat.le_refl _⟩
theorem b_ {a b c:Int} (h:(a==b)=true) (n:b≠c):(a==c)=false:=by rw [yd h];exact qi n
def LD (b:List (Ty.d aV)) (s:Ty.d aH):List (Ty.d aV):=b.set s.2.1.toNat ((kI b s).1,((kI b s).2.1,((kI b s).2.2.1++[mA s],())))
theorem HR (st:pf) (s:Ty.d aH) (a:Ty.d aK):(oH (s.1==2&&(!(kE st.2.2 s)&&a.1==0)) st s a).2.2=bif (s.1==3||s.1==4)&&a.1==0 then LD st.2.2 s else st.2.2:=by
 unfold oH qU s8;cases c2:s.1==2 with
 | false =>simp only [Bool.false_and,aJ];cases (s.1==3||s.1==4)&&a.1==0 <;> rfl
 | true =>rw [b_ c2 (c:=3) (by decide),b_ c2 (c:=4) (by decide)];cases kE st.2.2 s <;> cases a.1==0 <;> cases a.1==8 <;> rfl
theorem CY (st:pf) (s:Ty.d aH) (a:Ty.d aK):(eT st s a).2.2=s6 st.2.2 s a.1:=by
 unfold eT s6;cases s.1==9&&a.1==0 with
 | true=>rfl
 | false =>
  cases decide ((0:Int)≤s.2.1∧s.2.1≤2)&&decide ((1:Int)≤s.1∧s.1≤6) with
  | false=>rfl
  | true =>
   have h6:=HR st s a;simp only [aa,aJ,fw];unfold mc jz;simp only [bne];show _=bif _ then _ else bif !(kI st.2.2 s).1 then _ else bif _ then LD st.2.2 s else _;cases c0:a.1==0 with
   | true =>
    rw [b_ c0 (c:=4) (by decide),b_ c0 (c:=6) (by decide)];rw [c0] at h6;cases c5:s.1==5 with
    | true =>rw [b_ c5 (c:=1) (by decide),b_ c5 (c:=6) (by decide)];rfl
    | false =>
     cases s.1==1 with
     | true=>rfl
     | false =>
      cases s.1==6 with
      | true=>rfl
      | false =>
       simp only [Bool.and_true,Bool.or_false,Bool.false_and,Bool.and_false,aJ];cases (kI st.2.2 s).1 with
       | false=>rfl
       | true =>simp only [fw,aJ];simp only [Bool.and_true] at h6;exact h6
   | false =>
    rw [c0] at h6;simp only [Bool.and_false,Bool.false_or,ue,Bool.true_and,aJ] at h6 ⊢;cases c5:s.1==5&&(!(a.1==4)&&!(a.1==6)) with
    | true=>rfl
    | false =>
     simp only [aJ];cases (kI st.2.2 s).1 with
     | false=>rfl
     | true =>simp only [fw,aJ];exact h6
structure MW (m:Ty.d bB):Prop where
 len:m.2.2.2.1.length=3
 dn:m.1=false→m.2.2.2.1=List.replicate 3 (Ty.z aV)
theorem BK.of {m m':Ty.d bB} {b:List (Ty.d aV)} (h:BK m b) (e:m'.2.2.2.1=m.2.2.2.1):BK m' b:=⟨by rw [e];exact h.len,fun j=>by rw [e];exact h.open_ j,fun j=>by rw [e];exact h.wr j⟩
theorem ON (m:Ty.d bB) (t:Ty.d aV):(tC m t).1.2.2.2.1=m.2.2.2.1∧(tC m t).1.1=m.1:=by
 unfold tC;cases lG t.2.1 (uX m.2.1) with
 | false=>exact ⟨rfl,rfl⟩
 | true =>
  simp only [fw,aJ];cases ((fZ t.2.2.1).length:Int)==0 with
  | true=>exact ⟨rfl,rfl⟩
  | false =>
   simp only [aJ];cases decide (((gI m.2.1 (fZ t.2.2.1) m.2.2.1).length:Int) > 20) with
   | true=>exact ⟨rfl,rfl⟩
   | false =>
    simp only [aJ];cases decide (m.2.2.1 > 1000000) with
    | true=>exact ⟨rfl,rfl⟩
    | false=>exact ⟨rfl,rfl⟩
theorem Fs (m:Ty.d bB) (t:Ty.d aV):((tC m t).2.1==(4:Int))=false∧((tC m t).2.1==(6:Int))=false:=by
 unfold tC;cases lG t.2.1 (uX m.2.1) with
 | false=>exact ⟨rfl,rfl⟩
 | true =>
  simp only [fw,aJ];cases ((fZ t.2.2.1).length:Int)==0 with
  | true=>exact ⟨rfl,rfl⟩
  | false =>
   simp only [aJ];cases decide (((gI m.2.1 (fZ t.2.2.1) m.2.2.1).length:Int) > 20) with
   | true=>exact ⟨rfl,rfl⟩
   | false =>
    simp only [aJ];cases decide (m.2.2.1 > 1000000) with
    | true=>exact ⟨rfl,rfl⟩
    | false=>exact ⟨rfl,rfl⟩
theorem Ht (t:Ty.d aV) (key:ByteArray) (b:Int):(gZ t key b).1.1=t.1∧(gZ t key b).1.2.2.1=t.2.2.1:=by
 unfold gZ;cases !t.1 with
 | true=>exact ⟨rfl,rfl⟩
 | false =>
  cases !gB key with
  | true=>exact ⟨rfl,rfl⟩
  | false =>
   simp only [aJ];cases lN t.2.1 key with
   | some b'=>exact ⟨rfl,rfl⟩
   | none =>simp only [];cases decide ((t.2.1.length:Int)≥20) <;> exact ⟨rfl,rfl⟩
theorem G5 {t:Ty.d aV} {p:Ty.d aM} (h:(iJ t p).2=true):(iJ t p).1.1=t.1∧(iJ t p).1.2.2.1=t.2.2.1++[p]:=by
 revert h;unfold iJ;cases !t.1 with
 | true=>exact fun h=>absurd h Bool.false_ne_true
 | false =>
  cases !eF [p] with
  | true=>exact fun h=>absurd h Bool.false_ne_true
  | false =>
   simp only [aJ];cases decide (((fZ (t.2.2.1++[p])).length:Int) > 8) with
   | true=>exact fun h=>absurd h Bool.false_ne_true
   | false =>
    simp only [aJ];cases decide (((t.2.2.1++[p]).length:Int) > 50) with
    | true=>exact fun h=>absurd h Bool.false_ne_true
    | false=>exact fun _=>⟨rfl,rfl⟩
theorem tG (b:List (Ty.d aV)) {s:Ty.d aH} {c:Int} (h9:(s.1==9&&c==0)=false) (hr:decide ((1:Int)≤s.1∧s.1≤6)=false):s6 b s c=b:=by unfold s6;rw [h9,hr,Bool.and_false];rfl
theorem JG (b:List (Ty.d aV)) (s:Ty.d aH) {c:Int} (h:c=4∨c=6):s6 b s c=b:=by
 have c0:(c==0)=false:=by rcases h with q | q <;> rw [q] <;> rfl
 have c46:(c != 4&&c != 6)=false:=by rcases h with q | q <;> rw [q] <;> rfl
 unfold s6;rw [c0,c46];simp only [Bool.and_false,Bool.or_false,aJ];cases decide ((0:Int)≤s.2.1∧s.2.1≤2)&&decide ((1:Int)≤s.1∧s.1≤6) with
 | false=>rfl
 | true=>cases (b.getD s.2.1.toNat (Ty.z aV)).1 <;> rfl
theorem nv {s:Ty.d aH} {c:Int} (h:(s.1==c)=true) (hc:6<c):decide ((1:Int)≤s.1∧s.1≤6)=false:=by
 have e:s.1=c:=yd h;refine aY fun q=>?_
 have key:∀ x:Int,x=c→x≤6→False:=by omega
 exact key s.1 e q.2
theorem Cu {m:Ty.d bB} (hw:MW m) {b:List (Ty.d aV)} (h:BK m b) (s:Ty.d aH):BK (jP m s).1 (s6 b s (jP m s).2.1)∧MW (jP m s).1:=by
 have hbl:b.length=3:=h.len.trans hw.len;unfold jP;cases c10:s.1==10 with
 | true =>
  have ho:=nv c10 (by decide);have h9:=b_ c10 (c:=9) (by decide);simp only [aa];cases up:m.1 with
  | true =>rw [aa,tG b (by rw [h9];rfl) ho];exact ⟨h,hw⟩
  | false =>rw [aJ,tG b (by rw [h9];rfl) ho];refine ⟨h.of (hw.dn up).symm,rfl,fun q=>by cases q⟩
 | false =>
  simp only [aJ];cases c11:s.1==11 with
  | true =>simp only [aa];rw [tG b (by rw [b_ c11 (c:=9) (by decide)];rfl) (nv c11 (by decide))];exact ⟨h,hw⟩
  | false =>
   simp only [aJ];cases up:m.1 with
   | false =>simp only [ue,aa];rw [show (jH 6).1=6 from rfl,JG b s (.inr rfl)];exact ⟨h,hw⟩
   | true =>
    simp only [fw,aJ];cases c7:s.1==7 with
    | true =>simp only [aa];rw [tG b (by rw [b_ c7 (c:=9) (by decide)];rfl) (nv c7 (by decide))];exact ⟨h,hw⟩
    | false =>
     simp only [aJ];cases c8:s.1==8 with
     | true =>simp only [aa];rw [tG b (by rw [b_ c8 (c:=9) (by decide)];rfl) (nv c8 (by decide))];exact ⟨h,hw⟩
     | false =>
      simp only [aJ];cases c9:s.1==9 with
      | true =>
       simp only [aa];have e:s6 b s (jH 0).1=List.replicate 3 (Ty.z aV):=by unfold s6;rw [c9];rfl
       rw [e];exact ⟨⟨rfl,fun _=>rfl,fun _=>rfl⟩,rfl,fun _=>rfl⟩
      | false =>
       simp only [aJ];cases hf:wu m s with
       | false =>simp only [ue,aa];rw [show (jH 4).1=4 from rfl,JG b s (.inl rfl)];exact ⟨h,hw⟩
       | true =>
        simp only [fw,aJ];unfold wu at hf;rw [iE,iE,decide_eq_true_eq,decide_eq_true_eq] at hf;obtain ⟨⟨r0,r1⟩,hk,hop⟩:=hf;have hlen:=hw.len;have r1':LE.le (α:=Int) s.2.1 2:=by have r1:LE.le (α:=Int) s.2.1 ((m.2.2.2.1.length:Int)-1):=r1;rw [hlen] at r1;omega
        have r0':LE.le (α:=Int) 0 s.2.1:=r0;have hi:s.2.1.toNat<b.length:=by omega
        have hrg:(decide ((0:Int)≤s.2.1∧s.2.1≤2)&&decide ((1:Int)≤s.1∧s.1≤6))=true:=by rw [aW ⟨r0,r1'⟩,aW hk];rfl
        have hb:∀ c:Int,s6 b s c=bif (s.1==1&&c==0)||((s.1==6&&c==0)||(s.1==5&&(c != 4&&c != 6))) then b.set s.2.1.toNat ((s.1==1),([],([],()))) else bif !(b.getD s.2.1.toNat (Ty.z aV)).1 then b else
         bif (s.1==3||s.1==4)&&c==0 then b.set s.2.1.toNat ((b.getD s.2.1.toNat (Ty.z aV)).1,((b.getD s.2.1.toNat (Ty.z aV)).2.1,((b.getD s.2.1.toNat (Ty.z aV)).2.2.1++[mA s],()))) else b:=fun c=>by
         unfold s6;rw [c9,hrg];rfl
        have mwS:∀ t:Ty.d aV,MW (iZ m s.2.1 t):=fun t=>⟨(List.length_set ..).trans hlen,fun q=>by rw [show (iZ m s.2.1 t).1=m.1 from rfl,up] at q;cases q⟩
        unfold zQ;cases c1:s.1==1 with
        | true =>simp only [aa];rw [hb,c1];exact ⟨h.set s.2.1 hi rfl rfl,mwS _⟩
        | false =>
         simp only [aJ];cases c6:s.1==6 with
         | true =>simp only [aa];rw [hb,c1,c6];exact ⟨h.set s.2.1 hi rfl rfl,mwS _⟩
         | false =>
          simp only [aJ];cases c5:s.1==5 with
          | true =>
           simp only [aa];obtain ⟨k4,k6⟩:=Fs (iZ m s.2.1 jZ) (lJ m s.2.1);obtain ⟨t1,t2⟩:=ON (iZ m s.2.1 jZ) (lJ m s.2.1);rw [hb,c1,c6,c5];simp only [bne];rw [k4,k6];refine ⟨(h.set (t:=jZ) s.2.1 hi rfl rfl).of t1,?_,fun q=>?_⟩
           · rw [t1];exact (mwS jZ).len
           · rw [t2,show (iZ m s.2.1 jZ).1=m.1 from rfl,up] at q;cases q
          | false =>
           have hop':(lJ m s.2.1).1=true:=by
            rw [c1] at hop;cases q:(lJ m s.2.1).1 with
            | true=>rfl
            | false=>rw [q] at hop;cases hop
           have hbo:(b.getD s.2.1.toNat (Ty.z aV)).1=true:=(h.open_ _).trans hop';have hbw:(b.getD s.2.1.toNat (Ty.z aV)).2.2.1=(lJ m s.2.1).2.2.1:=h.wr _;have hb2:∀ c:Int,s6 b s c=bif (s.1==3||s.1==4)&&c==0 then b.set s.2.1.toNat ((b.getD s.2.1.toNat (Ty.z aV)).1,((b.getD s.2.1.toNat (Ty.z aV)).2.1,((b.getD s.2.1.toNat (Ty.z aV)).2.2.1++[mA s],()))) else b:=fun c=>by rw [hb,c1,c6,c5,hbo];rfl
           simp only [aJ];cases c2:s.1==2 with
           | true =>
            simp only [aa];rw [hb2,b_ c2 (c:=3) (by decide),b_ c2 (c:=4) (by decide)];show BK (yJ m s).1 b∧MW (yJ m s).1;unfold yJ;cases gB s.2.2.1 with
            | false=>exact ⟨h,hw⟩
            | true =>
             simp only [fw,aJ];cases ll (lJ m s.2.1).2.2.1 s.2.2.1 with
             | some p =>simp only [];cases p.2.1 <;> exact ⟨h,hw⟩
             | none =>
              simp only [];unfold DJ;obtain ⟨g1,g2⟩:=Ht (lJ m s.2.1) s.2.2.1 (bK m.2.1 s.2.2.1).1.2.2.1;cases (gZ (lJ m s.2.1) s.2.2.1 (bK m.2.1 s.2.2.1).1.2.2.1).2 != 0 with
              | true=>exact ⟨h,hw⟩
              | false=>exact ⟨h.keep s.2.1 g1 g2,mwS _⟩
           | false =>
            simp only [aJ];have c34:(s.1==3||s.1==4)=true:=by
             have n1:=beq_eq_false_iff_ne.1 c1;have n2:=beq_eq_false_iff_ne.1 c2;have n5:=beq_eq_false_iff_ne.1 c5;have n6:=beq_eq_false_iff_ne.1 c6;have key:∀ x:Int,1≤x→x≤6→x≠1→x≠2→x≠5→x≠6→x=3∨x=4:=by omega
             rcases key s.1 hk.1 hk.2 n1 n2 n5 n6 with q | q <;> rw [q] <;> rfl
            rw [hb2,c34];unfold Bj;cases eF [mA s] with
            | false=>exact ⟨h,hw⟩
            | true =>
             simp only [fw,aJ];cases cw:(iJ (lJ m s.2.1) (mA s)).2 with
             | false=>exact ⟨h,hw⟩
             | true =>obtain ⟨w1,w2⟩:=G5 cw;exact ⟨h.set s.2.1 hi (by rw [w1,hop'];exact hbo) (by rw [w2,← hbw]),mwS _⟩
theorem JO:MW nw:=⟨rfl,fun q=>by cases q⟩
def MQ (m x:Ty.d bB):Prop:=x.2.1=m.2.1∧@Eq Int x.2.2.1 m.2.2.1
theorem MQ.refl (m:Ty.d bB):MQ m m:=⟨rfl,rfl⟩
theorem MQ.set (m:Ty.d bB) (i:Int) (t:Ty.d aV):MQ m (iZ m i t):=⟨rfl,rfl⟩
theorem Qb (m:Ty.d bB) (s:Ty.d aH):MQ m (yJ m s).1:=by
 unfold yJ;cases gB s.2.2.1 with
 | false=>exact MQ.refl m
 | true =>
  simp only [fw,aJ];cases ll (lJ m s.2.1).2.2.1 s.2.2.1 with
  | some p =>simp only [];cases p.2.1 <;> exact MQ.refl m
  | none =>
   simp only [];unfold DJ;cases (gZ (lJ m s.2.1) s.2.2.1 (bK m.2.1 s.2.2.1).1.2.2.1).2 != 0 with
   | true=>exact MQ.refl m
   | false=>exact MQ.set m _ _
theorem QB (m:Ty.d bB) (s:Ty.d aH):MQ m (Bj m s).1:=by
 unfold Bj;cases eF [mA s] with
 | false=>exact MQ.refl m
 | true =>
  simp only [fw,aJ];cases (iJ (lJ m s.2.1) (mA s)).2 with
  | false=>exact MQ.refl m
  | true=>exact MQ.set m _ _
def Mo (p:Ty.d aB):Ty.d aB:=(p.1,(p.2.1,(0,())))
def nF (l:bV):bV:=l.map Mo
def nS (o:ir):bV:=o.foldl (fun l h=>gI l h.2.2.2.1 0) []
def Fc (l:bV) (h:Ty.d au):Prop:=(∀ q ∈ h.2.1,(bK l q.1).2=(0:Int)∧(bK l q.1).1.2.1=q.2.1)∧∀ x ∈ h.2.2.1,(bK l x).2=(8:Int)
def Q2 (l:bV) (h:Ty.d au):Prop:=l.length≤900∧h.2.1.length≤1000∧h.2.2.1.length≤1000∧h.2.2.2.1.length≤50
def tV (o:ir):Prop:=∀ o1 h o2,o=o1++h::o2→Fc (nS o1) h∧Q2 (nS o1) h
theorem tf (o:ir) (h:Ty.d au):nS (o++[h])=gI (nS o) h.2.2.2.1 0:=by unfold nS;rw [List.foldl_append];rfl
theorem HE {α:Type} {a o1 o2:List α} {x h:α} (e:a++[x]=o1++h::o2):(o2=[]∧o1=a∧h=x)∨∃ o3,o2=o3++[x]∧a=o1++h::o3:=by
 rcases List.eq_nil_or_concat o2 with q | ⟨o3,y,q⟩
 · subst q;have e:a++[x]=o1++[h]:=e;obtain ⟨e1,e2⟩:=List.append_inj' e rfl;exact .inl ⟨rfl,e1.symm,(List.cons.inj e2).1.symm⟩
 · rw [List.concat_eq_append] at q;subst q;rw [← List.cons_append,← oK] at e;obtain ⟨e1,e2⟩:=List.append_inj' e rfl;exact .inr ⟨o3,by rw [(List.cons.inj e2).1],e1⟩
theorem yI {o:ir} (h:tV o) {x:Ty.d au} (hx:Fc (nS o) x∧Q2 (nS o) x):tV (o++[x]):=fun o1 y o2 e=>by
 rcases HE e with ⟨_,q1,q2⟩ | ⟨o3,_,q⟩
 · rw [q1,q2];exact hx
 · exact h o1 y o3 q
theorem vG (l:bV) (key:ByteArray):nF (dr l key)=dr (nF l) key:=by unfold nF dr;rw [List.filter_map];rfl
theorem N6 (l:bV) (p:Ty.d aB):nF (s_ l p)=s_ (nF l) (Mo p):=by unfold nF s_;rw [List.map_append,List.map_cons,List.takeWhile_map,List.dropWhile_map];rfl
theorem C7 (b:Int):∀ (w:eU) (l:bV),nF (gI l w b)=gI (nF l) w 0
 | [],l=>rfl
 | q::w,l=>by
  show nF (gI (pP l (q.1,(q.2.2.1,(b,()))) q.2.1) w b)=gI (pP (nF l) (q.1,(q.2.2.1,(0,()))) q.2.1) w 0;rw [C7 b w];congr 1;unfold pP;cases q.2.1 with
  | true=>exact vG l q.1
  | false =>simp only [aJ];rw [N6,vG];rfl
theorem xX (key:ByteArray):∀ l:bV,bK (nF l) key=(Mo (bK l key).1,(bK l key).2)
 | []=>rfl
 | x::l=>by show (bif seq x.1 key then (Mo x,0) else bK (nF l) key)=(Mo (bif seq x.1 key then (x,0) else bK l key:Ty.d aB × Int).1,(bif seq x.1 key then (x,0) else bK l key:Ty.d aB × Int).2);rw [xX key l];cases seq x.1 key <;> rfl
theorem vP {key:ByteArray}:∀ {l:bV},(bK l key).2=(0:Int)→(bK l key).1 ∈ l∧(bK l key).1.1=key
 | [],h=>by have h:(8:Int)=0:=h;omega
 | x::l,h=>by
  revert h;rw [show bK (x::l) key=bif seq x.1 key then (x,0) else bK l key from rfl];cases c:seq x.1 key with
  | true=>exact fun _=>⟨il,db.1 c⟩
  | false =>intro h;obtain ⟨a,b⟩:=vP (l:=l) h;exact ⟨kS _ a,b⟩
theorem mW {key:ByteArray}:∀ {l:bV},(bK l key).2≠(0:Int)→bK l key=(Ql,8)
 | [],_=>rfl
 | x::l,h=>by
  revert h;rw [show bK (x::l) key=bif seq x.1 key then (x,0) else bK l key from rfl];cases c:seq x.1 key with
  | true=>exact fun h=>absurd rfl h
  | false=>exact fun h=>mW (l:=l) h
theorem wa (key:ByteArray):∀ a b:bV,bK (a++b) key=bif (bK a key).2==0 then bK a key else bK b key
 | [],b=>rfl
 | x::a,b=>by show (bif seq x.1 key then (x,0) else bK (a++b) key)=_;rw [wa key a b];show _=bif (bif seq x.1 key then (x,0) else bK a key:Ty.d aB × Int).2==0 then (bif seq x.1 key then (x,0) else bK a key) else bK b key;cases seq x.1 key <;> rfl
theorem oT {key k:ByteArray} (h:seq key k=false):∀ l:bV,bK (dr l key) k=bK l k
 | []=>rfl
 | x::l=>by
  rw [oY];show _=bif seq x.1 k then (x,0) else bK l k;cases c:seq x.1 key with
  | true =>
   have e:seq x.1 k=false:=by rw [db.1 c];exact h
   rw [e,aa,aJ];exact oT h l
  | false =>rw [aJ];show (bif seq x.1 k then (x,0) else bK (dr l key) k)=_;rw [oT h l]
theorem u7 (key:ByteArray):∀ l:bV,bK (dr l key) key=(Ql,8)
 | []=>rfl
 | x::l=>by
  rw [oY];cases c:seq x.1 key with
  | true=>exact u7 key l
  | false =>rw [aJ];show (bif seq x.1 key then (x,0) else bK (dr l key) key)=_;rw [c];exact u7 key l
theorem Lb {l:bV} {p:Ty.d aB} {k:ByteArray} (h:bK l p.1=(Ql,8)):bK (s_ l p) k=bif seq p.1 k then (p,0) else bK l k:=by
 have e:bK l k=bK (l.takeWhile (BS p.1)++l.dropWhile (BS p.1)) k:=by rw [List.takeWhile_append_dropWhile]
 rw [e];unfold s_;rw [wa,wa];show (bif (bK (l.takeWhile (BS p.1)) k).2==0 then _ else (bif seq p.1 k then (p,0) else bK (l.dropWhile (BS p.1)) k))=_;cases c:seq p.1 k with
 | false=>rfl
 | true =>
  rw [← db.1 c] at e ⊢;rw [h,wa] at e;cases q:(bK (l.takeWhile (BS p.1)) p.1).2==0 with
  | false=>rfl
  | true =>rw [q,aa] at e;rw [← e] at q;cases q
theorem Cw (b:Int):∀ (w:eU) (l:bV) (k:ByteArray),bK (gI l w b) k=bK l k∨(bK (gI l w b) k=(Ql,8))∨@Eq Int (bK (gI l w b) k).1.2.2.1 b
 | [],l,k => .inl rfl
 | q::w,l,k=>by
  show bK (gI (pP l (q.1,(q.2.2.1,(b,()))) q.2.1) w b) k=_∨(bK (gI (pP l (q.1,(q.2.2.1,(b,()))) q.2.1) w b) k=_)∨@Eq Int (bK (gI (pP l (q.1,(q.2.2.1,(b,()))) q.2.1) w b) k).1.2.2.1 b;rcases Cw b w (pP l (q.1,(q.2.2.1,(b,()))) q.2.1) k with h | h
  · rw [h];unfold pP;cases q.2.1 with
    | true =>
     simp only [aa];cases c:seq q.1 k with
     | true=>rw [← db.1 c];exact .inr (.inl (u7 q.1 l))
     | false=>exact .inl (oT c l)
    | false =>
     simp only [aJ];rw [Lb (p:=(q.1,(q.2.2.1,(b,())))) (u7 q.1 l)];show (bif seq q.1 k then _ else _)=_∨(bif seq q.1 k then _ else _)=_∨_;cases c:seq q.1 k with
     | true=>exact .inr (.inr rfl)
     | false=>exact .inl (oT c l)
  · exact .inr h
theorem Cd {b lo:Int} (hb:lo≤b):∀ (w:eU) {l:bV},(∀ p ∈ l,LE.le (α:=Int) lo p.2.2.1∧LE.le (α:=Int) p.2.2.1 b)→∀ p ∈ gI l w b,LE.le (α:=Int) lo p.2.2.1∧LE.le (α:=Int) p.2.2.1 b
 | [],l,h=>h
 | q::w,l,h=>by
  refine Cd hb w (l:=pP l (q.1,(q.2.2.1,(b,()))) q.2.1) fun p hp=>?_
  have hw:∀ x ∈ dr l q.1,x ∈ l:=fun x hx=>(List.mem_filter.1 hx).1
  revert hp;unfold pP;cases q.2.1 with
  | true=>exact fun hp=>h p (hw p hp)
  | false =>
   intro hp;have hp:p ∈ (dr l q.1).takeWhile (BS q.1)++(q.1,(q.2.2.1,(b,())))::(dr l q.1).dropWhile (BS q.1):=hp;rcases List.mem_append.1 hp with z | z
   · exact h p (hw p ((List.takeWhile_prefix _).subset z))
   · rcases List.mem_cons.1 z with z | z
     · rw [z];exact ⟨hb,Int.le_refl _⟩
     · exact h p (hw p ((List.dropWhile_suffix _).subset z))
theorem Ab (key:ByteArray):∀ l:bV,w7 (uX l) key=(bK l key).1.2.2.1
 | []=>rfl
 | x::l=>by
  have ih:=Ab key l;unfold w7 at ih ⊢;rw [show uX (x::l)=(x.1,(0,(0,(0,x.2.2))))::uX l from rfl,ui.eq_2];show _=(bif seq x.1 key then (x,0) else bK l key:Ty.d aB × Int).1.2.2.1;cases seq x.1 key with
  | true=>rfl
  | false=>exact ih
def si (m:Ty.d bB) (j:Nat):List (Ty.d dK):=(m.2.2.2.1.getD j (Ty.z aV)).2.1
def sA (n:ir) (j:Nat):Ty.d au:=n.getD j (Ty.z au)
structure RJ (m:Ty.d bB) (rows:List (Ty.d dK)) (h:Ty.d au):Prop where
 lt:∀ r ∈ rows,LT.lt (α:=Int) r.2.1 m.2.2.1
 rd:∀ q ∈ h.2.1,∃ r ∈ rows,r.1=q.1∧LE.le (α:=Int) 1 r.2.1∧((bK m.2.1 q.1).2=(0:Int)→@Eq Int (bK m.2.1 q.1).1.2.2.1 r.2.1→(bK m.2.1 q.1).1.2.1=q.2.1)
 ms:∀ x ∈ h.2.2.1,∃ r ∈ rows,r.1=x∧@Eq Int r.2.1 0
structure SE (m:Ty.d bB) (st:pf):Prop where
 nl:st.2.1.length=3
 mp:nS st.1=nF m.2.1
 ok:tV st.1
 b1:LE.le (α:=Int) 1 m.2.2.1
 bt:∀ p ∈ m.2.1,LE.le (α:=Int) 1 p.2.2.1∧LT.lt (α:=Int) p.2.2.1 m.2.2.1
 rj:∀ j,RJ m (si m j) (sA st.2.1 j)
theorem RJ.none {m:Ty.d bB} (rows:List (Ty.d dK)) (h:∀ r ∈ rows,LT.lt (α:=Int) r.2.1 m.2.2.1) (j:Int):RJ m rows (FT j):=⟨h,fun q hq=>(by cases hq),fun x hx=>(by cases hx)⟩
theorem RJ.empty {m:Ty.d bB} (j:Int):RJ m [] (FT j):=RJ.none [] (fun r hr=>(by cases hr)) j
theorem RJ.z {m:Ty.d bB}:RJ m [] (Ty.z au):=⟨fun r hr=>(by cases hr),fun q hq=>(by cases hq),fun x hx=>(by cases hx)⟩
theorem RJ.sees {m:Ty.d bB} (hb:∀ p ∈ m.2.1,LE.le (α:=Int) 1 p.2.2.1∧LT.lt (α:=Int) p.2.2.1 m.2.2.1) {rows:List (Ty.d dK)} {h:Ty.d au} (hr:RJ m rows h) (hv:lG rows (uX m.2.1)=true):Fc (nF m.2.1) h:=by
 unfold lG at hv;have hv:=List.all_eq_true.1 hv;refine ⟨fun q hq=>?_,fun x hx=>?_⟩
 · obtain ⟨r,hr1,hr2,hr3,hr4⟩:=hr.rd q hq;have e:=yd (hv r hr1);rw [Ab,hr2] at e;have e:@Eq Int (bK m.2.1 q.1).1.2.2.1 r.2.1:=e;by_cases c:(bK m.2.1 q.1).2=(0:Int)
   · rw [xX];exact ⟨c,hr4 c e⟩
   · rw [mW c] at e;have e:(0:Int)=r.2.1:=e;omega
 · obtain ⟨r,hr1,hr2,hr3⟩:=hr.ms x hx;have e:=yd (hv r hr1);rw [Ab,hr2] at e;have e:@Eq Int (bK m.2.1 x).1.2.2.1 r.2.1:=e;by_cases c:(bK m.2.1 x).2=(0:Int)
   · have:=(hb _ (vP c).1).1;omega
   · rw [xX,mW c]
theorem RJ.fold {m m':Ty.d bB} {w:eU} {b:Int} (hm:m'.2.1=gI m.2.1 w b) (hb:@Eq Int b m.2.2.1) (hb2:LT.lt (α:=Int) m.2.2.1 m'.2.2.1) {rows:List (Ty.d dK)} {h:Ty.d au} (hr:RJ m rows h):RJ m' rows h:=by
 refine ⟨fun r q=>?_,fun q hq=>?_,hr.ms⟩
 · have:=hr.lt r q;omega
 · obtain ⟨r,r1,r2,r3,r4⟩:=hr.rd q hq;refine ⟨r,r1,r2,r3,?_⟩;rw [hm];rcases Cw b w m.2.1 q.1 with e | e | e
   · rw [e];exact r4
   · rw [e];intro q1;have q1:(8:Int)=0:=q1;omega
   · intro _ q2;have:=hr.lt r r1;omega
theorem RJ.same {m m':Ty.d bB} (h1:m'.2.1=m.2.1) (h2:@Eq Int m'.2.2.1 m.2.2.1) {rows:List (Ty.d dK)} {h:Ty.d au} (hr:RJ m rows h):RJ m' rows h :=
 ⟨fun r q=>by have:=hr.lt r q;omega,fun q hq=>by rw [h1];exact hr.rd q hq,hr.ms⟩
end Go.Proofs.YtaaincbnjkmapaaGreatDoor.G

/- Plain laws, merged; what is proved here is told ahead of each part. -/
import Derived.Test.YtbgnhoggngbhhaaGreatDoorZU3
set_option linter.unusedVariables false
set_option linter.unusedSimpArgs false
namespace Go.Proofs.YtbgnhoggngbhhaaGreatDoor.G
open Go.V
def AL (P:Ty.d af→Prop):Ty.d af→List (Ty.d aC)→Prop
 | m,[]=>P m
 | m,s::l=>P m∧AL P (iF m s).1 l
theorem wc:∀ (l:List (Ty.d aC)) {n:Int} {e:Ty.d bO} {m:Ty.d af},sR n e m→n+(l.length:Int)≤82→(∀ s ∈ l,(s.1==11)=false)→AL MV m l
 | [],n,e,m,h,_,_=>h.mv
 | s::l,n,e,m,h,hn,h11=>by
  rw [jj,Int.natCast_succ] at hn
  obtain ⟨a,b⟩:=yc h (by omega) (h11 s ii)
  exact ⟨h.mv,wc l b (by omega) fun q hq=>h11 q (kR _ hq)⟩
def oR (acc:List (Ty.d aG)) (q:Ty.d af × List (Ty.d aG)):Option (Ty.d af × List (Ty.d aG) × Unit):=some (q.1,(acc++q.2,()))
theorem IJ {k:Nat} (hk:2 ^ 50≤k) (l:List (Ty.d aC)) (hl:l.length≤300) (x2:List (Ty.d cE)) (x3:List (Ty.d aK)) (x4:Bool) (x5:Int):∀ (r:List (Ty.d aC)) (n:Nat) (i:Nat) (m:Ty.d af) (acc:List (Ty.d aG)),l.drop i=r→i≤l.length→r.length<n→acc.length=i→AL MV m r →
 d6.l1 k n l (i:Int) x2 x3 x4 x5 m.2.1 m.2.2.2.1 m.1 m.2.2.1 acc=oR acc (gZ m r)
 | [],n+1,i,m,acc,hd,hi,hn,ha,hv=>by
  have hlen:=congrArg List.length hd
  rw [List.length_drop,List.length_nil] at hlen
  simp only [d6.l1,d6.b1]
  rw [aY (by omega),aJ]
  unfold oR gZ
  rw [List.append_nil]
 | s::r,n+1,i,m,acc,hd,hi,hn,ha,hv=>by
  have hlen:=congrArg List.length hd
  rw [List.length_drop,jj] at hlen
  have hget:List.getD l (Int.toNat (i:Int)) (Ty.z aC)=s:=by
   have:=congrArg (fun q=>q.getD 0 (Ty.z aC)) hd
   simp only [List.getD,List.getElem?_drop,Nat.add_zero,List.getElem?_cons_zero,Option.getD_some] at this
   show l.getD i _=s
   exact this
  have hd2:l.drop (i+1)=r:=by
   have:=congrArg (List.drop 1) hd
   rw [List.drop_drop] at this
   exact this
  have ih:=IJ hk l hl x2 x3 x4 x5 r n (i+1) (iF m s).1 (acc++[(iF m s).2]) hd2 (by omega) (by rw [jj] at hn;omega) (by rw [d8];omega) hv.2
  simp only [d6.l1,d6.b1]
  rw [aV (by omega),aa,aV (by omega),aa,aN (by omega) (by omega),hget,show ((m.1,(m.2.1,(m.2.2.1,(m.2.2.2.1,())))):Ty.d af)=m from rfl,HK hk hv.1 s]
  unfold oM
  rw [aX,bf (by omega) (by decide),aE (by omega) (by omega)]
  rw [show ((i:Int)+1)=((i+1:Nat):Int) from rfl]
  refine ih.trans ?_
  unfold oR
  rw [nw]
  rfl
 | [],0,_,_,_,_,_,hn,_,_=>absurd hn (Nat.not_lt_zero _)
 | s::r,0,_,_,_,_,_,hn,_,_=>absurd hn (Nat.not_lt_zero _)
theorem Cy {k:Nat} (hk:2 ^ 50≤k) {l:List (Ty.d aC)} (hl:l.length≤82) (h11:∀ s ∈ l,(s.1==11)=false):d6.f k l=oR [] (gZ pb l):=by
 have hal:=wc l y7.2 (by omega) h11
 obtain ⟨k',rfl⟩:∃ k',k=k'+1:=⟨k-1,by omega⟩
 unfold d6.f d6.t jV.f jV.t
 rw [pV (by omega) (by omega) (by decide),aX]
 have key:=IJ hk l (by omega) [] [] false 0 l (k'+1) 0 pb [] rfl (Nat.zero_le _) (by omega) rfl hal
 refine Eq.trans ?_ key
 rfl
theorem sR.ew {n:Int} {e:Ty.d bO} {m:Ty.d af} (h:sR n e m):EW e:=by
 obtain ⟨st,b,r1,r2,r3⟩:=h.st
 have hs:=b.op.MI.store.1
 obtain ⟨g1,g2,_⟩:=dM hs
 obtain ⟨L,t,_⟩:=b.op.mi
 have hz:ED e.2.2.1:=t.disk.sz
 have hi:st.1.2.1.length≤60:=by
  unfold dj at hs
  simp only [iA] at hs
  obtain ⟨_,h2,_⟩:=hs
  exact (bm (nx:=st.1.1) (ids:=st.1.2.1) h2).2.2.2.1
 refine ⟨fun q=>?_,fun q=>?_,hz,Nat.le_of_eq h.len,fun t ht=>(h.tg t ht).tv,fun t ht=>(h.tg t ht).uq⟩
 · rw [r3 q];omega
 · rw [r3 q];omega
def B3 (e:Ty.d bO) (s:Ty.d aC):fC :=
 bif s.1 != 5 then [] else bif !e.1 then [] else bif !decide (0≤s.2.1∧s.2.1≤(e.2.2.2.1.length:Int)-1) then [] else bif !(gy e s.2.1).1 then [] else gj (gy e s.2.1).2.2.1
theorem FZ {k:Nat} (hk:2 ^ 50≤k) {e:Ty.d bO} (h:EW e) (s:Ty.d aC):kI.f k e s=some (B3 e s,()):=by
 have hlen:=h.len
 have ht:TV (gy e s.2.1):=uZ h.txn (Int.toNat s.2.1)
 have h2:=ht.2
 unfold kI.f kI.t B3
 cases s.1 != 5 with
 | true=>rfl
 | false =>
  cases !e.1 with
  | true=>rfl
  | false =>
   simp only [aJ]
   rw [iQ,aX,aE (n:=(e.2.2.2.1.length:Int)-1) (by omega) (by omega)]
   simp only []
   by_cases q:0≤s.2.1∧s.2.1≤(e.2.2.2.1.length:Int)-1
   · have h0:LE.le (α:=Int) 0 s.2.1:=q.1
     have h1:LT.lt (α:=Int) s.2.1 (e.2.2.2.1.length:Int):=by have q2:LE.le (α:=Int) s.2.1 ((e.2.2.2.1.length:Int)-1):=q.2;omega
     rw [aV q]
     simp only [fN,aJ]
     rw [aN h0 h1,aN h0 h1,show List.getD e.2.2.2.1 (Int.toNat s.2.1) (Ty.z aK)=gy e s.2.1 from rfl,sK hk (by omega)]
     cases (gy e s.2.1).1 <;> rfl
   · rw [aY q]
     rfl
theorem Kw {e:Ty.d bO} (h:EW e) (s:Ty.d aC):(B3 e s).length≤1000:=by
 have ht:TV (gy e s.2.1):=uZ h.txn (Int.toNat s.2.1)
 have h2:=ht.2
 have h3:=ru (gy e s.2.1).2.2.1
 unfold B3
 cases s.1 != 5 with
 | true=>exact Nat.zero_le _
 | false =>
  cases !e.1 with
  | true=>exact Nat.zero_le _
  | false =>
   cases !decide (0≤s.2.1∧s.2.1≤(e.2.2.2.1.length:Int)-1) with
   | true=>exact Nat.zero_le _
   | false =>
    cases !(gy e s.2.1).1 with
    | true=>exact Nat.zero_le _
    | false=>show (gj (gy e s.2.1).2.2.1).length≤1000;omega
theorem Ld {k:Nat} (hk:2 ^ 50≤k) {e:Ty.d bO} (h:EW e) (up:e.1=true):gm.f k e=some (e,()):=by
 have h1:=h.ids up
 have h2:=h.dir up
 have h3:=h.len
 have ec:cM.f k e.2.1=some (e.2.1,()):=by
  unfold cM.f cM.t dR.f dR.t
  rw [bf (by omega) (by decide),aX]
  unfold cJ.f cJ.t
  rw [bf (by omega) (by decide)]
  rfl
 have et:dx.f k e.2.2.2.1=some (e.2.2.2.1,()):=by
  unfold dx.f dx.t
  refine (fe (L:=fun n i (s:List (Ty.d aK))=>dx.l0 k n e.2.2.2.1 (e.2.2.2.1.length:Int) i s) (R:=fun r s=>(some (s++r,()):dx.Rs)) (Ty.z aK) e.2.2.2.1 (fun i s=>(s.length:Int)=i) (fun n s hs=>?_) (fun n i s x rest g0 g1 hx hr hp ih=>?_) (n:=k) (s:=[]) (by omega) rfl).trans (by rw [List.nil_append])
  · simp only [dx.l0,dx.b0]
    rw [aY (by omega),aJ,List.append_nil]
  · have hm:x ∈ e.2.2.2.1:=by rw [← hx];exact fX (by omega)
    simp only [dx.l0,dx.b0]
    rw [aV g1,aa,aN g0 g1,hx,qt k (h.txn x hm),aX,aE (n:=i+1) (by omega) (by omega),bf (by omega) (by decide)]
    refine (ih (s++[x]) (by rw [d8];omega)).trans ?_
    rw [nw]
    rfl
 unfold gm.f gm.t
 rw [ec,aX,gV k h.sz.l,aX,et]
 rfl
theorem Kg {m:Ty.d af} (s:Ty.d aC):((iF m s).2.1==1)=false:=by
 unfold iF
 cases s.1==10 with
 | true=>cases m.1 <;> rfl
 | false =>
  cases s.1==11 with
  | true=>rfl
  | false =>
   cases !m.1 with
   | true=>rfl
   | false =>
    cases s.1==7 with
    | true=>rfl
    | false =>
     cases s.1==8 with
     | true=>rfl
     | false =>
      cases s.1==9 with
      | true=>rfl
      | false =>
       cases !tI m s with
       | true=>rfl
       | false =>
        show ((q7 m s).2.1==1)=false
        unfold q7
        cases s.1==1 with
        | true=>rfl
        | false =>
         cases s.1==6 with
         | true=>rfl
         | false =>
          cases s.1==5 with
          | true =>
           show ((mh (lD m s.2.1 lp) (kQ m s.2.1)).2.1==1)=false
           unfold mh
           cases !jY (kQ m s.2.1).2.1 (pW (lD m s.2.1 lp).2.1) with
           | true=>rfl
           | false =>
            simp only [aJ]
            cases ((gj (kQ m s.2.1).2.2.1).length:Int)==0 with
            | true=>rfl
            | false =>
             simp only [aJ]
             cases decide (((m_ (lD m s.2.1 lp).2.1 (gj (kQ m s.2.1).2.2.1) (lD m s.2.1 lp).2.2.1).length:Int) > 20) with
             | true=>rfl
             | false =>
              simp only [aJ]
              cases decide ((lD m s.2.1 lp).2.2.1 > 1000000) <;> rfl
          | false =>
           cases s.1==2 with
           | true =>
            show ((pA m s).2.1==1)=false
            unfold pA
            cases !eT s.2.2.1 with
            | true=>rfl
            | false =>
             simp only [aJ]
             cases lL (kQ m s.2.1).2.2.1 s.2.2.1 with
             | some p =>
              simp only []
              cases p.2.1 <;> rfl
             | none =>
              simp only []
              unfold w7 iM
              have hf:=wg m.2.1 s.2.2.1
              have hf1:((jq m.2.1 s.2.2.1).2==1)=false:=by rcases hf with q | q <;> rw [q] <;> rfl
              cases !(kQ m s.2.1).1 with
              | true=>rfl
              | false =>
               cases !eT s.2.2.1 with
               | true=>rfl
               | false =>
                simp only [aJ]
                cases kW (kQ m s.2.1).2.1 s.2.2.1 with
                | some b' =>
                 simp only []
                 cases b' != (jq m.2.1 s.2.2.1).1.2.2.1 with
                 | true=>rfl
                 | false=>exact hf1
                | none =>
                 simp only []
                 cases decide (((kQ m s.2.1).2.1.length:Int)≥20) with
                 | true=>rfl
                 | false=>exact hf1
           | false =>
            show ((qU m s).2.1==1)=false
            unfold qU
            cases !dN [lr s] with
            | true=>rfl
            | false =>
             simp only [aJ]
             cases !(fq (kQ m s.2.1) (lr s)).2 <;> rfl
noncomputable def B5:Ty.d bO→List (Ty.d aC)→List (Ty.d u_)
 | _,[]=>[]
 | e,s::l=>bif (mL e s).2.1==0 then (bif decide (((B3 e s).length:Int) > 0) then (e.2.1.2.2.1,(B3 e s,()))::B5 (mL e s).1 l else B5 (mL e s).1 l) else B5 (mL e s).1 l
noncomputable def HQ (R:Ty.d gN) (l:List (Ty.d aC)):Ty.d gN:=((lg R.1 l).1,(R.2.1++(lg R.1 l).2,(R.2.2.1++B5 R.1 l,R.2.2.2)))
theorem Kv {k:Nat} (hk:2 ^ 50≤k) (l:List (Ty.d aC)) (hl:l.length≤82) (x3:List Int) (x4:List (Ty.d aB)) (x5:List (Ty.d aL)) (x6:List (Ty.d aK)) (x7:List (Ty.d aG)) (x8:List (Ty.d u_)) (x9:List (Ty.d aW)) (x10:Bool) (x11 x12 x13 x14 x15 x16:Int) (x17:Bool) :
 ∀ (r:List (Ty.d aC)) (n:Nat) (i:Nat) (b:Int) (R:Ty.d gN) (m:Ty.d af),l.drop i=r→i≤l.length→r.length<n→sR b R.1 m→b+(r.length:Int)≤82→(∀ s ∈ r,(s.1==11)=false)→R.2.1.length≤i→R.2.2.1.length≤i →
 jm.l1 k n l (l.length:Int) (i:Int) x3 x4 x5 x6 x7 x8 x9 x10 x11 x12 x13 x14 x15 x16 x17 R.1.2.1.1.2.1 R.1.2.1.2.1 R.1.2.2.1.1 R.1.2.2.2.1 R.2.1 R.2.2.1 R.2.2.2.1 R.1.1 R.1.2.1.1.1 R.1.2.1.2.2.1 R.1.2.1.2.2.2.1 R.1.2.1.2.2.2.2.1 R.1.2.2.1.2.1 R.1.2.2.1.2.2.1 R.1.2.2.1.2.2.2.1=some (HQ R r,())
 | r,0,i,b,R,m,hd,hi,hn,hS,hb,h11,ha,hc=>absurd hn (Nat.not_lt_zero _)
 | [],n+1,i,b,R,m,hd,hi,hn,hS,hb,h11,ha,hc=>by
  have hlen:=congrArg List.length hd
  rw [List.length_drop,List.length_nil] at hlen
  simp only [jm.l1,jm.b1]
  rw [aY (by omega),aJ]
  unfold HQ lg B5
  rw [List.append_nil,List.append_nil]
 | s::r,n+1,i,b,R,m,hd,hi,hn,hS,hb,h11,ha,hc=>by
  have hlen:=congrArg List.length hd
  rw [List.length_drop,jj] at hlen
  have hget:List.getD l (Int.toNat (i:Int)) (Ty.z aC)=s:=by
   have:=congrArg (fun q=>q.getD 0 (Ty.z aC)) hd
   simp only [List.getD,List.getElem?_drop,Nat.add_zero,List.getElem?_cons_zero,Option.getD_some] at this
   show l.getD i _=s
   exact this
  have hd2:l.drop (i+1)=r:=by
   have:=congrArg (List.drop 1) hd
   rw [List.drop_drop] at this
   exact this
  rw [jj,Int.natCast_succ] at hb
  have s11:=h11 s ii
  have ew:=hS.ew
  obtain ⟨q1,q2⟩:=yc hS (by omega) s11
  have hcode:((mL R.1 s).2.1==1)=false:=by rw [q1];exact Kg s
  have hnet:=Kw ew s
  have ih:=fun (ak:List (Ty.d u_)) (hak:ak.length≤i+1)=>Kv hk l hl x3 x4 x5 x6 x7 x8 x9 x10 x11 x12 x13 x14 x15 x16 x17 r n (i+1) (b+1) ((mL R.1 s).1,(R.2.1++[(mL R.1 s).2],(ak,R.2.2.2))) (iF m s).1 hd2 (by omega) (by rw [jj] at hn;omega) q2 (by omega) (fun s hs=>h11 s (kR _ hs)) (by show (_++[_]).length≤_;rw [d8];omega) hak
  simp only [jm.l1,jm.b1]
  rw [aV (by omega),aa,aN (by omega) (by omega),aY (by omega),aJ,hget]
  rw [show ((R.1.1,(((R.1.2.1.1.1,(R.1.2.1.1.2.1,())),(R.1.2.1.2.1,(R.1.2.1.2.2.1,(R.1.2.1.2.2.2.1,(R.1.2.1.2.2.2.2.1,()))))),((R.1.2.2.1.1,(R.1.2.2.1.2.1,(R.1.2.2.1.2.2.1,(R.1.2.2.1.2.2.2.1,())))),(R.1.2.2.2.1,())))):Ty.d bO)=R.1 from rfl,FZ hk ew s,aX]
  rw [show ((R.1,(R.2.1,(R.2.2.1,(R.2.2.2.1,())))):Ty.d gN)=R from rfl,Ds hk ew s11]
  unfold Kc
  rw [aX]
  simp only []
  rw [bf (by omega) (by decide),hcode,aJ,aE (n:=(i:Int)+1) (by omega) (by omega),bf (by omega) (by decide)]
  rw [show ((i:Int)+1)=((i+1:Nat):Int) from rfl]
  have e1:=ih R.2.2.1 (by omega)
  have e2:=ih (R.2.2.1++[(R.1.2.1.2.2.1,(B3 R.1 s,()))]) (by rw [d8];omega)
  have er:∀ z:List (Ty.d u_),HQ ((mL R.1 s).1,(R.2.1++[(mL R.1 s).2],(z,R.2.2.2))) r=((lg R.1 (s::r)).1,(R.2.1++(lg R.1 (s::r)).2,(z++B5 (mL R.1 s).1 r,R.2.2.2))):=fun z=>by
   unfold HQ
   show ((lg (mL R.1 s).1 r).1,((R.2.1++[(mL R.1 s).2])++(lg (mL R.1 s).1 r).2,(z++B5 (mL R.1 s).1 r,R.2.2.2)))=_
   rw [nw]
   rfl
  rw [er] at e1 e2
  unfold HQ
  show _=some (((lg R.1 (s::r)).1,(R.2.1++(lg R.1 (s::r)).2,(R.2.2.1++(bif (mL R.1 s).2.1==0 then (bif decide (((B3 R.1 s).length:Int) > 0) then (R.1.2.1.2.2.1,(B3 R.1 s,()))::B5 (mL R.1 s).1 r else B5 (mL R.1 s).1 r) else B5 (mL R.1 s).1 r),R.2.2.2))),())
  cases (mL R.1 s).2.1==0 with
  | false=>exact e1
  | true =>
   cases decide (((B3 R.1 s).length:Int) > 0) with
   | false=>exact e1
   | true =>
    refine Eq.trans e2 ?_
    rw [nw]
    rfl
theorem x_ {k:Nat} (hk:2 ^ 50≤k) {l:List (Ty.d aC)} (hl:l.length≤82) (h11:∀ s ∈ l,(s.1==11)=false):ip.f k (100000,((-1),(l,())))=some (HQ (vg (m8 (ml 100000)),([],([],([],())))) l,()):=by
 obtain ⟨hc,hS⟩:=y7
 have up:(vg (m8 (ml 100000))).1=true:=hS.up
 obtain ⟨k',rfl⟩:∃ k',k=k'+1:=⟨k-1,by omega⟩
 have hD:ED (ml 100000):=(Ho (n:=100000) (by decide) (by decide)).sz
 unfold ip.f ip.t
 rw [iQ,aX]
 simp only []
 rw [aV (by decide),fN,aJ,iQ,aX]
 simp only []
 rw [aV (by decide),fN,aJ,GH _ (by decide) (by decide),aX]
 simp only []
 have ew:ie.f (k'+1) (([],((100000:Int),(-1,(false,())))):Ty.d aA) (-1)=some (ml 100000,()):=by
  unfold ie.f ie.t
  have ed:ay.f (k'+1) (([],((100000:Int),(-1,(false,())))):Ty.d aA)=some (j6 (ml 100000),()):=iG hk (Nat.le_trans hD.u (by decide)) (Nat.le_trans hD.n (by decide))
  rw [gV _ (Nat.zero_le _),aX,ed,aX]
  simp only []
  cases j6 (ml 100000) with
  | false=>rfl
  | true =>
   simp only [aa]
   rw [iQ,aX]
   rfl
 rw [ew,aX]
 simp only []
 rw [tU hk hD,aX]
 simp only []
 rw [hc]
 simp only [bne_self_eq_false,aJ]
 unfold jm.f jm.t
 rw [Ld hk hS.ew up,aX]
 have key:=Kv hk l hl [] [] [] [] [] [] [] false 0 0 0 0 0 0 false l (k'+1) 0 0 (vg (m8 (ml 100000)),([],([],([],())))) pb rfl (Nat.zero_le _) (by omega) hS (by omega) h11 (Nat.le_refl _) (Nat.le_refl _)
 refine (congrArg (fun r:jm.Rs=>r.bind fun r6=>some r6) (Eq.trans ?_ key)).trans rfl
 rfl
def w8 (k:Nat) (s:Ty.d aC):Bool:=decide ((1:Int)≤s.1∧s.1≤6)&&s.2.1==(k:Int)
structure DF (k:Nat) (m m':Ty.d af):Prop where
 up:m.1=m'.1
 map:m.2.1=m'.2.1
 bat:@Eq Int m.2.2.1 m'.2.2.1
 len:m.2.2.2.1.length=m'.2.2.2.1.length
 oth:∀ j,j≠k→m.2.2.2.1.getD j (Ty.z aK)=m'.2.2.2.1.getD j (Ty.z aK)
theorem jR {l:List (Ty.d aK)} {i j:Nat} (h:j≠i) (t:Ty.d aK):(l.set i t).getD j (Ty.z aK)=l.getD j (Ty.z aK):=by
 simp only [List.getD]
 rw [List.getElem?_set_ne (Ne.symm h)]
def KP (k:Nat) (m x:Ty.d af):Prop:=x.1=m.1∧x.2.2.2.1.length=m.2.2.2.1.length∧∀ j,j≠k→x.2.2.2.1.getD j (Ty.z aK)=m.2.2.2.1.getD j (Ty.z aK)
theorem KP.refl (k:Nat) (m:Ty.d af):KP k m m:=⟨rfl,rfl,fun _ _=>rfl⟩
theorem KP.set {k:Nat} (m:Ty.d af) (t:Ty.d aK):KP k m (lD m (k:Int) t):=⟨rfl,List.length_set ..,fun j hj=>jR hj t⟩
theorem OO {k:Nat} {m x:Ty.d af} (h:KP k m x) (t:Ty.d aK):KP k m (mh x t).1:=by
 unfold mh
 cases jY t.2.1 (pW x.2.1) with
 | false=>exact h
 | true =>
  simp only [fN,aJ]
  cases ((gj t.2.2.1).length:Int)==0 with
  | true=>exact h
  | false =>
   simp only [aJ]
   cases decide (((m_ x.2.1 (gj t.2.2.1) x.2.2.1).length:Int) > 20) with
   | true=>exact h
   | false =>
    simp only [aJ]
    cases decide (x.2.2.1 > 1000000) with
    | true=>exact h
    | false=>exact h
theorem OQ {k:Nat} (m:Ty.d af) {s:Ty.d aC} (hk:s.2.1=(k:Int)):KP k m (pA m s).1:=by
 unfold pA
 cases eT s.2.2.1 with
 | false=>exact KP.refl k m
 | true =>
  simp only [fN,aJ]
  cases lL (kQ m s.2.1).2.2.1 s.2.2.1 with
  | some p =>
   simp only []
   cases p.2.1 with
   | true=>exact KP.refl k m
   | false=>exact KP.refl k m
  | none =>
   simp only []
   unfold w7
   cases (iM (kQ m s.2.1) s.2.2.1 (jq m.2.1 s.2.2.1).1.2.2.1).2 != 0 with
   | true=>exact KP.refl k m
   | false =>
    simp only [aJ]
    rw [hk]
    exact KP.set m _
theorem OY {k:Nat} (m:Ty.d af) {s:Ty.d aC} (hk:s.2.1=(k:Int)):KP k m (qU m s).1:=by
 unfold qU
 cases dN [lr s] with
 | false=>exact KP.refl k m
 | true =>
  simp only [fN,aJ]
  cases (fq (kQ m s.2.1) (lr s)).2 with
  | false=>exact KP.refl k m
  | true =>
   simp only [fN,aJ]
   rw [hk]
   exact KP.set m _
theorem Oj {k:Nat} (m:Ty.d af) {s:Ty.d aC} (hk:s.2.1=(k:Int)):KP k m (q7 m s).1:=by
 unfold q7
 cases s.1==1 with
 | true=>simp only [aa];rw [hk];exact KP.set m _
 | false =>
  simp only [aJ]
  cases s.1==6 with
  | true=>simp only [aa];rw [hk];exact KP.set m _
  | false =>
   simp only [aJ]
   cases s.1==5 with
   | true=>simp only [aa];rw [hk];exact OO (KP.set m _) _
   | false =>
    simp only [aJ]
    cases s.1==2 with
    | true=>exact OQ m hk
    | false=>exact OY m hk
theorem PU {k:Nat} (m:Ty.d af) {s:Ty.d aC} (h:w8 k s=true):KP k m (iF m s).1:=by
 unfold w8 at h
 rw [iA,decide_eq_true_eq,beq_iff_eq] at h
 obtain ⟨⟨h1,h6⟩,hk⟩:=h
 have ne:∀ c:Int,7≤c→(s.1==c)=false:=fun c hc=>pz fun q=>by
  have key:∀ x:Int,x≤6→x=c→False:=by omega
  exact key s.1 h6 q
 unfold iF
 rw [ne 10 (by decide),ne 11 (by decide),ne 7 (by decide),ne 8 (by decide),ne 9 (by decide)]
 simp only [aJ]
 cases m.1 with
 | false=>exact KP.refl k m
 | true =>
  simp only [fN,aJ]
  cases tI m s with
  | false=>exact KP.refl k m
  | true=>exact Oj m hk
theorem K_ {k:Nat} {m m':Ty.d af} (h:DF k m m') {s:Ty.d aC} (hs:w8 k s=true) (h1:(iF m s).1.2.1=m.2.1) (h2:@Eq Int (iF m s).1.2.2.1 m.2.2.1):DF k (iF m s).1 m':=by
 obtain ⟨a,b,c⟩:=PU m hs
 exact ⟨a.trans h.up,h1.trans h.map,h2.trans h.bat,b.trans h.len,fun j hj=>(c j hj).trans (h.oth j hj)⟩
theorem DF.set {k:Nat} {m m':Ty.d af} (h:DF k m m') (i:Int) (t:Ty.d aK):DF k (lD m i t) (lD m' i t):=by
 refine ⟨h.up,h.map,h.bat,?_,fun j hj=>?_⟩
 · show (m.2.2.2.1.set _ _).length=(m'.2.2.2.1.set _ _).length
   rw [List.length_set,List.length_set]
   exact h.len
 · show (m.2.2.2.1.set i.toNat t).getD j _=(m'.2.2.2.1.set i.toNat t).getD j _
   by_cases q:j=i.toNat
   · rw [q]
     simp only [List.getD,List.getElem?_set_self']
     have hl:=h.len
     by_cases c:i.toNat<m.2.2.2.1.length
     · rw [List.getElem?_eq_getElem c,List.getElem?_eq_getElem (by omega)]
       rfl
     · rw [List.getElem?_eq_none (by omega),List.getElem?_eq_none (by omega)]
   · rw [jR q,jR q]
     exact h.oth j hj
theorem MM {k:Nat} {m m':Ty.d af} (h:DF k m m') (t:Ty.d aK):(mh m t).2=(mh m' t).2∧DF k (mh m t).1 (mh m' t).1:=by
 unfold mh
 rw [← h.map,← h.bat]
 cases jY t.2.1 (pW m.2.1) with
 | false=>exact ⟨rfl,h⟩
 | true =>
  simp only [fN,aJ]
  cases ((gj t.2.2.1).length:Int)==0 with
  | true=>exact ⟨rfl,h⟩
  | false =>
   simp only [aJ]
   cases decide (((m_ m.2.1 (gj t.2.2.1) m.2.2.1).length:Int) > 20) with
   | true=>exact ⟨rfl,h⟩
   | false =>
    simp only [aJ]
    cases decide (m.2.2.1 > 1000000) with
    | true=>exact ⟨rfl,h⟩
    | false=>exact ⟨rfl,⟨h.up,rfl,rfl,h.len,h.oth⟩⟩
theorem LK {k:Nat} {m m':Ty.d af} (h:DF k m m') {s:Ty.d aC} (ht:kQ m s.2.1=kQ m' s.2.1):(pA m s).2=(pA m' s).2∧DF k (pA m s).1 (pA m' s).1:=by
 unfold pA
 rw [← ht,← h.map]
 cases eT s.2.2.1 with
 | false=>exact ⟨rfl,h⟩
 | true =>
  simp only [fN,aJ]
  cases lL (kQ m s.2.1).2.2.1 s.2.2.1 with
  | some p =>
   simp only []
   cases p.2.1 with
   | true=>exact ⟨rfl,h⟩
   | false=>exact ⟨rfl,h⟩
  | none =>
   simp only []
   unfold w7
   cases (iM (kQ m s.2.1) s.2.2.1 (jq m.2.1 s.2.2.1).1.2.2.1).2 != 0 with
   | true=>exact ⟨rfl,h⟩
   | false=>exact ⟨rfl,h.set _ _⟩
theorem LQ {k:Nat} {m m':Ty.d af} (h:DF k m m') {s:Ty.d aC} (ht:kQ m s.2.1=kQ m' s.2.1):(qU m s).2=(qU m' s).2∧DF k (qU m s).1 (qU m' s).1:=by
 unfold qU
 rw [← ht]
 cases dN [lr s] with
 | false=>exact ⟨rfl,h⟩
 | true =>
  simp only [fN,aJ]
  cases (fq (kQ m s.2.1) (lr s)).2 with
  | false=>exact ⟨rfl,h⟩
  | true=>exact ⟨rfl,h.set _ _⟩
theorem Lp {k:Nat} {m m':Ty.d af} (h:DF k m m') {s:Ty.d aC} (ht:kQ m s.2.1=kQ m' s.2.1):(q7 m s).2=(q7 m' s).2∧DF k (q7 m s).1 (q7 m' s).1:=by
 unfold q7
 rw [← ht]
 cases s.1==1 with
 | true=>exact ⟨rfl,h.set _ _⟩
 | false =>
  simp only [aJ]
  cases s.1==6 with
  | true=>exact ⟨rfl,h.set _ _⟩
  | false =>
   simp only [aJ]
   cases s.1==5 with
   | true=>exact MM (h.set _ _) _
   | false =>
    simp only [aJ]
    cases s.1==2 with
    | true=>exact LK h ht
    | false=>exact LQ h ht
theorem KB {k:Nat} {m m':Ty.d af} (h:DF k m m') {s:Ty.d aC} (hs:w8 k s=false):(iF m s).2=(iF m' s).2∧DF k (iF m s).1 (iF m' s).1:=by
 unfold iF
 rw [← h.up,← h.map,← h.bat]
 cases s.1==10 with
 | true =>
  cases up:m.1 with
  | true=>exact ⟨rfl,h⟩
  | false=>exact ⟨rfl,rfl,rfl,rfl,rfl,fun _ _=>rfl⟩
 | false =>
  simp only [aJ]
  cases s.1==11 with
  | true=>exact ⟨rfl,h⟩
  | false =>
   simp only [aJ]
   cases up:m.1 with
   | false=>exact ⟨rfl,h⟩
   | true =>
    simp only [fN,aJ]
    cases s.1==7 with
    | true=>exact ⟨rfl,h⟩
    | false =>
     simp only [aJ]
     cases s.1==8 with
     | true=>exact ⟨rfl,h⟩
     | false =>
      simp only [aJ]
      cases s.1==9 with
      | true=>exact ⟨rfl,rfl,rfl,rfl,rfl,fun _ _=>rfl⟩
      | false =>
       simp only [aJ]
       have key:tI m s=tI m' s∧(tI m s=true→kQ m s.2.1=kQ m' s.2.1):=by
        unfold tI
        rw [← h.len]
        by_cases q:decide (0≤s.2.1∧s.2.1≤(m.2.2.2.1.length:Int)-1)=true
        · by_cases r:decide ((1:Int)≤s.1∧s.1≤6)=true
          · have hne:¬ s.2.1=(k:Int):=fun w=>by
             unfold w8 at hs
             rw [r,Bool.true_and] at hs
             exact beq_eq_false_iff_ne.1 hs w
            have q0:LE.le (α:=Int) 0 s.2.1:=(of_decide_eq_true q).1
            have ht:kQ m s.2.1=kQ m' s.2.1:=h.oth _ fun w=>hne (by
             have nk:∀ x:Int,0≤x→x.toNat=k→x=(k:Int):=by omega
             exact nk _ q0 w)
            exact ⟨by rw [ht],fun _=>ht⟩
          · have r:decide ((1:Int)≤s.1∧s.1≤6)=false:=by simpa using r
            rw [r]
            simp
        · have q:decide (0≤s.2.1∧s.2.1≤(m.2.2.2.1.length:Int)-1)=false:=by
           cases w:decide (0≤s.2.1∧s.2.1≤(m.2.2.2.1.length:Int)-1) with
           | true=>exact absurd w q
           | false=>rfl
          rw [q]
          simp
       rw [← key.1]
       cases c:tI m s with
       | false=>exact ⟨rfl,h⟩
       | true=>exact Lp h (key.2 c)
def QK (k:Nat):Ty.d af→List (Ty.d aC)→Prop
 | _,[]=>True
 | m,s::l=>(w8 k s=true→(iF m s).1.2.1=m.2.1∧@Eq Int (iF m s).1.2.2.1 m.2.2.1)∧QK k (iF m s).1 l
def GB (k:Nat):Ty.d af→List (Ty.d aC)→List (Ty.d aG)
 | _,[]=>[]
 | m,s::l=>bif w8 k s then GB k (iF m s).1 l else (iF m s).2::GB k (iF m s).1 l
theorem DF.refl (k:Nat) (m:Ty.d af):DF k m m:=⟨rfl,rfl,rfl,rfl,fun _ _=>rfl⟩
theorem yb {k:Nat}:∀ (l:List (Ty.d aC)) {m m':Ty.d af},DF k m m'→QK k m l→(gZ m' (l.filter fun s=>!w8 k s)).2=GB k m l
 | [],_,_,_,_=>rfl
 | s::l,m,m',h,hq=>by
  rw [List.filter_cons,GB]
  cases c:w8 k s with
  | true =>
   obtain ⟨h1,h2⟩:=hq.1 c
   rw [fN,if_neg (by decide),aa]
   exact yb l (K_ h c h1 h2) hq.2
  | false =>
   obtain ⟨a,b⟩:=KB h c
   rw [tR,if_pos rfl,aJ]
   show (iF m' s).2::(gZ (iF m' s).1 _).2=_
   rw [← a,yb l b hq.2]
theorem J8 {m:Ty.d af} {t:Ty.d aK} (h:gj t.2.2.1=[]∨(mh m t).2.1≠(0:Int)):(mh m t).1=m:=by
 revert h
 unfold mh
 cases jY t.2.1 (pW m.2.1) with
 | false=>exact fun _=>rfl
 | true =>
  simp only [fN,aJ]
  cases c0:((gj t.2.2.1).length:Int)==0 with
  | true=>exact fun _=>rfl
  | false =>
   simp only [aJ]
   cases decide (((m_ m.2.1 (gj t.2.2.1) m.2.2.1).length:Int) > 20) with
   | true=>exact fun _=>rfl
   | false =>
    simp only [aJ]
    cases decide (m.2.2.1 > 1000000) with
    | true=>exact fun _=>rfl
    | false =>
     simp only [aJ]
     intro h
     rcases h with q | q
     · rw [q] at c0
       cases c0
     · exact absurd rfl q
structure BK (m:Ty.d af) (b:List (Ty.d aK)):Prop where
 len:b.length=m.2.2.2.1.length
 open_:∀ j,(b.getD j (Ty.z aK)).1=(m.2.2.2.1.getD j (Ty.z aK)).1
 wr:∀ j,(b.getD j (Ty.z aK)).2.2.1=(m.2.2.2.1.getD j (Ty.z aK)).2.2.1
def rK (b:List (Ty.d aK)) (s:Ty.d aC) (c:Int):List (Ty.d aK) :=
 bif s.1==9&&c==0 then List.replicate 3 (Ty.z aK) else
 bif !(decide ((0:Int)≤s.2.1∧s.2.1≤2)&&decide ((1:Int)≤s.1∧s.1≤6)) then b else
 bif (s.1==1&&c==0)||((s.1==6&&c==0)||(s.1==5&&(c != 4&&c != 6))) then b.set s.2.1.toNat ((s.1==1),([],([],()))) else
 bif !(b.getD s.2.1.toNat (Ty.z aK)).1 then b else
 bif (s.1==3||s.1==4)&&c==0 then b.set s.2.1.toNat ((b.getD s.2.1.toNat (Ty.z aK)).1,((b.getD s.2.1.toNat (Ty.z aK)).2.1,((b.getD s.2.1.toNat (Ty.z aK)).2.2.1++[lr s],()))) else b
theorem mF {l:List (Ty.d aK)} {i:Nat} (h:i<l.length) (t:Ty.d aK):(l.set i t).getD i (Ty.z aK)=t:=by
 simp only [List.getD]
 rw [List.getElem?_set_self h]
 rfl
theorem BK.set {m:Ty.d af} {b:List (Ty.d aK)} (h:BK m b) (i:Int) (hi:i.toNat<b.length) {t u:Ty.d aK} (h1:u.1=t.1) (h2:u.2.2.1=t.2.2.1):BK (lD m i t) (b.set i.toNat u):=by
 have hl:=h.len
 refine ⟨?_,fun j=>?_,fun j=>?_⟩
 · show (b.set _ _).length=(m.2.2.2.1.set _ _).length
   rw [List.length_set,List.length_set]
   exact hl
 · show ((b.set i.toNat u).getD j _).1=((m.2.2.2.1.set i.toNat t).getD j _).1
   by_cases q:j=i.toNat
   · rw [q,mF hi,mF (by omega),h1]
   · rw [jR q,jR q]
     exact h.open_ j
 · show ((b.set i.toNat u).getD j _).2.2.1=((m.2.2.2.1.set i.toNat t).getD j _).2.2.1
   by_cases q:j=i.toNat
   · rw [q,mF hi,mF (by omega),h2]
   · rw [jR q,jR q]
     exact h.wr j
theorem BK.keep {m:Ty.d af} {b:List (Ty.d aK)} (h:BK m b) (i:Int) {t:Ty.d aK} (h1:t.1=(kQ m i).1) (h2:t.2.2.1=(kQ m i).2.2.1):BK (lD m i t) b:=by
 have hl:=h.len
 refine ⟨?_,fun j=>?_,fun j=>?_⟩
 · show b.length=(m.2.2.2.1.set _ _).length
   rw [List.length_set]
   exact hl
 · show _=((m.2.2.2.1.set i.toNat t).getD j _).1
   by_cases q:j=i.toNat
   · by_cases c:i.toNat<m.2.2.2.1.length
     · rw [q,mF c,h1]
       exact h.open_ _
     · rw [List.set_eq_of_length_le (by omega)]
       exact h.open_ j
   · rw [jR q]
     exact h.open_ j
 · show _=((m.2.2.2.1.set i.toNat t).getD j _).2.2.1
   by_cases q:j=i.toNat
   · by_cases c:i.toNat<m.2.2.2.1.length
     · rw [q,mF c,h2]
       exact h.wr _
     · rw [List.set_eq_of_length_le (by omega)]
       exact h.wr j
   · rw [jR q]
     exact h.wr j
theorem BK.new:BK pb (List.replicate 3 (Ty.z aK)):=⟨rfl,fun _=>rfl,fun _=>rfl⟩
abbrev Bj:=List (Ty.d cF)
abbrev tP:=Bj × Bj × List (Ty.d aK)
def Py (j:Int):Ty.d cF:=(j,([],([],([],()))))
def qf (n:Bj) (s:Ty.d aC):Ty.d cF:=n.getD s.2.1.toNat (Ty.z cF)
def js (b:List (Ty.d aK)) (s:Ty.d aC):Ty.d aK:=b.getD s.2.1.toNat (Ty.z aK)
def mO (b:List (Ty.d aK)) (s:Ty.d aC):Bool:=(vm (lL (js b s).2.2.1 s.2.2.1)).2.1
def rk (s:Ty.d aC) (c:Int):Bool:=(s.1==1&&c==0)||((s.1==6&&c==0)||(s.1==5&&(!(c==0)&&(!(c==4)&&!(c==6)))))
def Bq (f:Bool) (st:tP) (s:Ty.d aC):tP:=bif f then
 (st.1,(st.2.1,st.2.2.set s.2.1.toNat ((js st.2.2 s).1,((js st.2.2 s).2.1,((js st.2.2 s).2.2.1++[(s.2.2.1,((s.1==4),(s.2.2.2.1,())))],(js st.2.2 s).2.2.2))))) else st
def Bp (f:Bool) (c:Int) (st:tP) (s:Ty.d aC):tP:=bif f then
 (st.1,(st.2.1.set s.2.1.toNat ((qf st.2.1 s).1,((qf st.2.1 s).2.1,((qf st.2.1 s).2.2.1++[s.2.2.1],(qf st.2.1 s).2.2.2))),st.2.2)) else
 Bq ((s.1==3||s.1==4)&&c==0) st s
def tc (f:Bool) (st:tP) (s:Ty.d aC) (a:Ty.d aG):tP:=bif f then
 (st.1,(st.2.1.set s.2.1.toNat ((qf st.2.1 s).1,((qf st.2.1 s).2.1++[(s.2.2.1,(a.2.1,(0,())))],(qf st.2.1 s).2.2)),st.2.2)) else
 Bp (s.1==2&&(!(mO st.2.2 s)&&a.1==8)) a.1 st s
def xQ (f:Bool) (st:tP) (s:Ty.d aC) (a:Ty.d aG):tP:=bif f then
 (st.1,(st.2.1.set s.2.1.toNat (Py s.2.1),st.2.2.set s.2.1.toNat ((s.1==1),([],([],()))))) else
 bif s.1==5&&a.1==0 then
 (st.1++[(s.2.1,((qf st.2.1 s).2.1,((qf st.2.1 s).2.2.1,(gj (js st.2.2 s).2.2.1,()))))],(st.2.1.set s.2.1.toNat (Py s.2.1),st.2.2.set s.2.1.toNat (false,([],([],()))))) else
 bif !(js st.2.2 s).1 then st else
 tc (s.1==2&&(!(mO st.2.2 s)&&a.1==0)) st s a
def mP (st:tP) (s:Ty.d aC) (a:Ty.d aG):tP :=
 bif s.1==9&&a.1==0 then (st.1,(List.replicate 3 (Ty.z cF),List.replicate 3 (Ty.z aK))) else
 bif decide ((0:Int)≤s.2.1∧s.2.1≤2)&&decide ((1:Int)≤s.1∧s.1≤6) then xQ (rk s a.1) st s a else st
def th:tP→List (Ty.d aC)→List (Ty.d aG)→tP
 | st,s::l,a::q=>th (mP st s a) l q
 | st,_,_=>st
structure HB (i:Nat) (st:tP):Prop where
 ol:st.1.length≤i
 nl:st.2.1.length=3
 bl:st.2.2.length=3
 nr:∀ h ∈ st.2.1,h.2.1.length≤i∧h.2.2.1.length≤i
 bw:∀ t ∈ st.2.2,t.2.2.1.length≤i
theorem FG {α:Type} {P:α→Prop} {l:List α} {d:α} (h:∀ x ∈ l,P x) (hd:P d) (i:Nat):P (l.getD i d):=by
 simp only [List.getD]
 cases q:l[i]? with
 | none=>exact hd
 | some y=>exact h y (List.mem_of_getElem? q)
theorem yO {α:Type} {P:α→Prop} {l:List α} {y:α} (h:∀ x ∈ l,P x) (hy:P y) (i:Nat):∀ x ∈ l.set i y,P x:=fun x hx=>by
 rcases List.mem_or_eq_of_mem_set hx with q | q
 · exact h x q
 · rw [q];exact hy
theorem HB.now {i:Nat} {st:tP} (h:HB i st) (s:Ty.d aC):(qf st.2.1 s).2.1.length≤i∧(qf st.2.1 s).2.2.1.length≤i:=FG (P:=fun x:Ty.d cF=>x.2.1.length≤i∧x.2.2.1.length≤i) h.nr ⟨Nat.zero_le _,Nat.zero_le _⟩ _
theorem HB.book {i:Nat} {st:tP} (h:HB i st) (s:Ty.d aC):(js st.2.2 s).2.2.1.length≤i:=FG (P:=fun x:Ty.d aK=>x.2.2.1.length≤i) h.bw (Nat.zero_le _) _
theorem HB.mono {i j:Nat} {st:tP} (h:HB i st) (hij:i≤j):HB j st :=
 ⟨Nat.le_trans h.ol hij,h.nl,h.bl,fun x hx=>⟨Nat.le_trans (h.nr x hx).1 hij,Nat.le_trans (h.nr x hx).2 hij⟩,fun x hx=>Nat.le_trans (h.bw x hx) hij⟩
theorem HB.put {i:Nat} {st:tP} (h:HB i st) {o:Bj} (ho:o.length≤i) {j j':Nat} {x:Ty.d cF} {t:Ty.d aK} (hx:x.2.1.length≤i∧x.2.2.1.length≤i) (ht:t.2.2.1.length≤i):HB i (o,(st.2.1.set j x,st.2.2.set j' t)) :=
 ⟨ho,(List.length_set ..).trans h.nl,(List.length_set ..).trans h.bl,yO h.nr hx _,yO h.bw ht _⟩
theorem HB.putN {i:Nat} {st:tP} (h:HB i st) {j:Nat} {x:Ty.d cF} (hx:x.2.1.length≤i∧x.2.2.1.length≤i):HB i (st.1,(st.2.1.set j x,st.2.2)) :=
 ⟨h.ol,(List.length_set ..).trans h.nl,h.bl,yO h.nr hx _,h.bw⟩
theorem HB.putB {i:Nat} {st:tP} (h:HB i st) {j:Nat} {t:Ty.d aK} (ht:t.2.2.1.length≤i):HB i (st.1,(st.2.1,st.2.2.set j t)) :=
 ⟨h.ol,h.nl,(List.length_set ..).trans h.bl,h.nr,yO h.bw ht _⟩
theorem F7 {i:Nat} {st:tP} (h:HB i st) (s:Ty.d aC) (a:Ty.d aG):HB (i+1) (mP st s a):=by
 have h':=h.mono (Nat.le_succ i)
 have hn:=h.now s
 have hb:=h.book s
 have ho:=h.ol
 unfold mP
 cases s.1==9&&a.1==0 with
 | true =>
  refine ⟨h'.ol,rfl,rfl,fun x hx=>?_,fun x hx=>?_⟩
  · rw [List.eq_of_mem_replicate hx];exact ⟨Nat.zero_le _,Nat.zero_le _⟩
  · rw [List.eq_of_mem_replicate hx];exact Nat.zero_le _
 | false =>
  cases decide ((0:Int)≤s.2.1∧s.2.1≤2)&&decide ((1:Int)≤s.1∧s.1≤6) with
  | false=>exact h'
  | true =>
   simp only [aa,aJ]
   unfold xQ
   cases rk s a.1 with
   | true=>exact h'.put h'.ol ⟨Nat.zero_le _,Nat.zero_le _⟩ (Nat.zero_le _)
   | false =>
    cases s.1==5&&a.1==0 with
    | true=>exact h'.put (by rw [d8];omega) ⟨Nat.zero_le _,Nat.zero_le _⟩ (Nat.zero_le _)
    | false =>
     cases !(js st.2.2 s).1 with
     | true=>exact h'
     | false =>
      simp only [aJ]
      unfold tc
      cases s.1==2&&(!(mO st.2.2 s)&&a.1==0) with
      | true=>exact h'.putN ⟨by show (_++[_]).length≤_;rw [d8];omega,by show (qf st.2.1 s).2.2.1.length≤_;omega⟩
      | false =>
       simp only [aJ]
       unfold Bp
       cases s.1==2&&(!(mO st.2.2 s)&&a.1==8) with
       | true=>exact h'.putN ⟨by show (qf st.2.1 s).2.1.length≤_;omega,by show (_++[_]).length≤_;rw [d8];omega⟩
       | false =>
        simp only [aJ]
        unfold Bq
        cases (s.1==3||s.1==4)&&a.1==0 with
        | true=>exact h'.putB (by show (_++[_]).length≤_;rw [d8];omega)
        | false=>exact h'
section
variable {k:Nat} (hk:2 ^ 50≤k) {l:List (Ty.d aC)} {q:List (Ty.d aG)} {i:Nat} (hi:i≤1000) {st:tP} (h:HB i st) {s:Ty.d aC} {a:Ty.d aG} {L0:aH.T0}
def IX (L0:aH.T0) (l:List (Ty.d aC)) (q:List (Ty.d aG)) (i:Nat) (st:tP):aH.Rs:=L0 l q ((i+1:Nat):Int) st.1 st.2.1 st.2.2
include hk hi h
theorem OA (h0:LE.le (α:=Int) 0 s.2.1) (h2:LE.le (α:=Int) s.2.1 2) (f:Bool):aH.l8 k L0 k l q (i:Int) s.2.1 f st.1 st.2.1 st.2.2 s.1 s.2.1 s.2.2.1 s.2.2.2.1 s.2.2.2.2.1=IX L0 l q i (Bq f st s):=by
 obtain ⟨k',e⟩:∃ k',k=k'+1:=⟨k-1,by omega⟩
 have hb:=h.book s
 have hl:=h.bl
 have e1:aH.l8 k L0 k=aH.b8 k L0:=by rw [show aH.l8 k L0 k=aH.l8 k L0 (k'+1) from by rw [← e]];rfl
 rw [e1]
 unfold aH.b8 Bq IX
 cases f with
 | false =>
  simp only [aJ]
  rw [aE (by omega) (by omega)]
  rfl
 | true =>
  simp only [aa]
  rw [aN h0 (by omega),bf (by show 0+(js st.2.2 s).2.2.1.length≤_;omega) (by decide),List.nil_append,bf (by show (js st.2.2 s).2.2.1.length+1≤_;omega) (by decide),aN h0 (by omega),aE (by omega) (by omega)]
  rfl
theorem KT (h0:LE.le (α:=Int) 0 s.2.1) (h2:LE.le (α:=Int) s.2.1 2) (f:Bool) (c:Int):aH.l7 k L0 k l q (i:Int) c s.2.1 f st.1 st.2.1 st.2.2 s.1 s.2.1 s.2.2.1 s.2.2.2.1 s.2.2.2.2.1=IX L0 l q i (Bp f c st s):=by
 obtain ⟨k',e⟩:∃ k',k=k'+1:=⟨k-1,by omega⟩
 have hn:=(h.now s).2
 have hl:=h.nl
 have e1:aH.l7 k L0 k=aH.b7 k (aH.l8 k L0 k) L0:=by rw [show aH.l7 k L0 k=aH.l7 k L0 (k'+1) from by rw [← e]];rfl
 rw [e1]
 unfold aH.b7 Bp
 cases f with
 | false =>
  simp only [aJ]
  rw [OA hk hi h h0 h2,OA hk hi h h0 h2]
  cases s.1==3 <;> cases s.1==4 <;> cases c==0 <;> rfl
 | true =>
  simp only [aa]
  unfold IX
  rw [aN h0 (by omega),bf (by show 0+(qf st.2.1 s).2.2.1.length≤_;omega) (by decide),List.nil_append,bf (by show (qf st.2.1 s).2.2.1.length+1≤_;omega) (by decide),aN h0 (by omega),aE (by omega) (by omega)]
  rfl
theorem Er:fj.f k (js st.2.2 s) s.2.2.1=some (mO st.2.2 s,()):=by
 have hb:=h.book s
 unfold fj.f fj.t
 rw [uP hk (by omega),aX]
 rfl
theorem OI (h0:LE.le (α:=Int) 0 s.2.1) (h2:LE.le (α:=Int) s.2.1 2) (f:Bool) (hq:i<q.length) (ha:List.getD q i (Ty.z aG)=a):aH.l6 k L0 k l q (i:Int) a.1 s.2.1 f st.1 st.2.1 st.2.2 s.1 s.2.1 s.2.2.1 s.2.2.2.1 s.2.2.2.2.1=IX L0 l q i (tc f st s a):=by
 obtain ⟨k',e⟩:∃ k',k=k'+1:=⟨k-1,by omega⟩
 have hn:=(h.now s).1
 have hl:=h.nl
 have hbl:=h.bl
 have e1:aH.l6 k L0 k=aH.b6 k (aH.l7 k L0 k) L0:=by rw [show aH.l6 k L0 k=aH.l6 k L0 (k'+1) from by rw [← e]];rfl
 rw [e1]
 unfold aH.b6 tc
 cases f with
 | false =>
  simp only [aJ]
  cases s.1==2 with
  | false =>
   simp only [aJ,Bool.false_and]
   exact KT hk hi h h0 h2 _ _
  | true =>
   simp only [aa,Bool.true_and]
   rw [aN h0 (by omega),show List.getD st.2.2 (Int.toNat s.2.1) (Ty.z aK)=js st.2.2 s from rfl,Er hk hi h,aX]
   simp only []
   rw [KT hk hi h h0 h2,KT hk hi h h0 h2]
   cases mO st.2.2 s <;> rfl
 | true =>
  simp only [aa]
  unfold IX
  rw [aN h0 (by omega),bf (by show 0+(qf st.2.1 s).2.1.length≤_;omega) (by decide),aN (by omega) (by omega),List.nil_append,bf (by show (qf st.2.1 s).2.1.length+1≤_;omega) (by decide),aN h0 (by omega),aE (by omega) (by omega),Int.toNat_natCast,ha]
  rfl
theorem M8 (h0:LE.le (α:=Int) 0 s.2.1) (h2:LE.le (α:=Int) s.2.1 2) (f:Bool) (hq:i<q.length) (ha:List.getD q i (Ty.z aG)=a):aH.l4 k L0 k l q (i:Int) a.1 s.2.1 f st.1 st.2.1 st.2.2 s.1 s.2.1 s.2.2.1 s.2.2.2.1 s.2.2.2.2.1=IX L0 l q i (xQ f st s a):=by
 obtain ⟨k',e⟩:∃ k',k=k'+1:=⟨k-1,by omega⟩
 have hb:=h.book s
 have ho:=h.ol
 have hl:=h.nl
 have hbl:=h.bl
 have e1:aH.l4 k L0 k=aH.b4 k (aH.l5 k L0 k) (aH.l6 k L0 k) L0:=by rw [show aH.l4 k L0 k=aH.l4 k L0 (k'+1) from by rw [← e]];rfl
 have e5:aH.l5 k L0 k=aH.b5 k L0:=by rw [show aH.l5 k L0 k=aH.l5 k L0 (k'+1) from by rw [← e]];rfl
 have e6:(bif s.1==2 then (cD s.2.1 (List.length st.2.2:Int) ((fj.f k (List.getD st.2.2 (Int.toNat s.2.1) (Ty.z aK)) s.2.2.1).bind fun r=>(bif (!r.1) then (aH.l6 k L0 k l q (i:Int) a.1 s.2.1 (a.1==0) st.1 st.2.1 st.2.2 s.1 s.2.1 s.2.2.1 s.2.2.2.1 s.2.2.2.2.1) else (aH.l6 k L0 k l q (i:Int) a.1 s.2.1 false st.1 st.2.1 st.2.2 s.1 s.2.1 s.2.2.1 s.2.2.2.1 s.2.2.2.2.1))))
  else (aH.l6 k L0 k l q (i:Int) a.1 s.2.1 false st.1 st.2.1 st.2.2 s.1 s.2.1 s.2.2.1 s.2.2.2.1 s.2.2.2.2.1))=IX L0 l q i (tc (s.1==2&&(!(mO st.2.2 s)&&a.1==0)) st s a):=by
  rw [OI hk hi h h0 h2 _ hq ha,OI hk hi h h0 h2 _ hq ha]
  cases s.1==2 with
  | false=>rfl
  | true =>
   simp only [aa,Bool.true_and]
   rw [aN h0 (by omega),show List.getD st.2.2 (Int.toNat s.2.1) (Ty.z aK)=js st.2.2 s from rfl,Er hk hi h,aX]
   simp only []
   cases mO st.2.2 s <;> rfl
 rw [e1]
 unfold aH.b4 xQ
 rw [e6]
 cases f with
 | true =>
  simp only [aa]
  unfold IX
  rw [aN h0 (by omega),aN h0 (by omega),aE (by omega) (by omega)]
  rfl
 | false =>
  simp only [aJ]
  have tail:(cD s.2.1 (List.length st.2.2:Int) (bif (!(List.getD st.2.2 (Int.toNat s.2.1) (Ty.z aK)).1) then (L0 l q (aQ ((i:Int)+1)) st.1 st.2.1 st.2.2) else IX L0 l q i (tc (s.1==2&&(!(mO st.2.2 s)&&a.1==0)) st s a)))
   = IX L0 l q i (bif !(js st.2.2 s).1 then st else tc (s.1==2&&(!(mO st.2.2 s)&&a.1==0)) st s a):=by
   rw [aN h0 (by omega),show List.getD st.2.2 (Int.toNat s.2.1) (Ty.z aK)=js st.2.2 s from rfl,aE (by omega) (by omega)]
   cases (js st.2.2 s).1 <;> rfl
  rw [tail]
  cases s.1==5 with
  | false=>rfl
  | true =>
   cases a.1==0 with
   | false=>rfl
   | true =>
    simp only [aa,Bool.true_and]
    have hj:s.2.1.toNat<st.2.1.length:=by omega
    have g1:∀ x:Ty.d cF,List.getD (st.2.1.set s.2.1.toNat x) s.2.1.toNat (Ty.z cF)=x:=fun x=>by
     simp only [List.getD]
     rw [List.getElem?_set_self hj]
     rfl
    rw [aN h0 (by omega),aN h0 (by omega),show List.getD st.2.2 (Int.toNat s.2.1) (Ty.z aK)=js st.2.2 s from rfl,tw hk (by omega),aX]
    rw [aN h0 (by rw [List.length_set];omega),e5]
    unfold aH.b5
    rw [g1,List.set_set,aN h0 (by rw [List.length_set];omega),bf (by omega) (by decide),aN h0 (by rw [List.length_set];omega),aN h0 (by omega),aE (by omega) (by omega),List.set_set,g1]
    rfl
theorem Pw (h0:LE.le (α:=Int) 0 s.2.1) (h2:LE.le (α:=Int) s.2.1 2) (hq:i<q.length) (ha:List.getD q i (Ty.z aG)=a):aH.l3 k L0 k l q (i:Int) a.1 st.1 st.2.1 st.2.2 s.1 s.2.1 s.2.2.1 s.2.2.2.1 s.2.2.2.2.1=IX L0 l q i (xQ (rk s a.1) st s a):=by
 obtain ⟨k',e⟩:∃ k',k=k'+1:=⟨k-1,by omega⟩
 have e1:aH.l3 k L0 k=aH.b3 k (aH.l4 k L0 k) L0:=by rw [show aH.l3 k L0 k=aH.l3 k L0 (k'+1) from by rw [← e]];rfl
 rw [e1]
 unfold aH.b3
 rw [M8 hk hi h h0 h2 _ hq ha,M8 hk hi h h0 h2 _ hq ha,M8 hk hi h h0 h2 _ hq ha]
 unfold rk
 simp only [bne]
 cases s.1==1 <;> cases a.1==0 <;> cases s.1==6 <;> cases s.1==5 <;> cases a.1==4 <;> rfl
theorem O1 (h9:(s.1==9&&a.1==0)=false) (hq:i<q.length) (ha:List.getD q i (Ty.z aG)=a):aH.l2 k L0 k l q (i:Int) a.1 st.1 st.2.1 st.2.2 s.1 s.2.1 s.2.2.1 s.2.2.2.1 s.2.2.2.2.1=IX L0 l q i (mP st s a):=by
 obtain ⟨k',e⟩:∃ k',k=k'+1:=⟨k-1,by omega⟩
 have e1:aH.l2 k L0 k=aH.b2 k (aH.l3 k L0 k) L0:=by rw [show aH.l2 k L0 k=aH.l2 k L0 (k'+1) from by rw [← e]];rfl
 rw [e1]
 unfold aH.b2 mP
 rw [h9,aJ,ot,aX,ot,aX,aE (n:=(i:Int)+1) (by omega) (by omega)]
 simp only []
 by_cases r:(0:Int)≤s.2.1∧s.2.1≤2
 · rw [aV r]
   cases decide ((1:Int)≤s.1∧s.1≤6) with
   | false=>rfl
   | true=>exact Pw hk hi h r.1 r.2 hq ha
 · rw [aY r]
   rfl
theorem QB (hl:i<l.length) (hs:List.getD l i (Ty.z aC)=s) (hq:i<q.length) (ha:List.getD q i (Ty.z aG)=a):aH.b0 k (aH.l1 k L0 k) L0 l q (i:Int) st.1 st.2.1 st.2.2=IX L0 l q i (mP st s a):=by
 obtain ⟨k',e⟩:∃ k',k=k'+1:=⟨k-1,by omega⟩
 have e1:aH.l1 k L0 k=aH.b1 k (aH.l2 k L0 k) L0:=by rw [show aH.l1 k L0 k=aH.l1 k L0 (k'+1) from by rw [← e]];rfl
 unfold aH.b0
 rw [aV (by omega),aV (by omega),aa,aa,e1]
 unfold aH.b1
 rw [aN (by omega) (by omega),aN (by omega) (by omega),Int.toNat_natCast,hs,ha]
 cases c9:s.1==9 with
 | false =>
  simp only [aJ]
  exact O1 hk hi h (by rw [c9];rfl) hq ha
 | true =>
  cases c0:a.1==0 with
  | false =>
   simp only [aa,aJ]
   exact O1 hk hi h (by rw [c0,Bool.and_false]) hq ha
  | true =>
   simp only [aa]
   rw [pV (by omega) (by omega) (by decide),pV (by omega) (by omega) (by decide)]
   have e2:aH.l2 k L0 k=aH.b2 k (aH.l3 k L0 k) L0:=by rw [show aH.l2 k L0 k=aH.l2 k L0 (k'+1) from by rw [← e]];rfl
   have e9:s.1=9:=C9 c9
   rw [e2]
   unfold aH.b2 mP
   rw [c9,c0,Bool.true_and,aa,ot,aX,ot,aX,aE (n:=(i:Int)+1) (by omega) (by omega),e9]
   simp only []
   cases decide ((0:Int)≤s.2.1∧s.2.1≤2) <;> rfl
end
theorem I1 {k:Nat} (hk:2 ^ 50≤k) {l:List (Ty.d aC)} {q:List (Ty.d aG)} (hl:l.length≤1000) (hlq:q.length=l.length):∀ (r:List (Ty.d aC)) (t:List (Ty.d aG)) (n i:Nat) (st:tP),l.drop i=r→q.drop i=t→i≤l.length→r.length<n→HB i st →
 aH.l0 k n l q (i:Int) st.1 st.2.1 st.2.2=some ((th st r t).1,())
 | r,t,0,i,st,hd,hd2,hi,hn,h=>absurd hn (Nat.not_lt_zero _)
 | [],t,n+1,i,st,hd,hd2,hi,hn,h=>by
  have hlen:=congrArg List.length hd
  rw [List.length_drop,List.length_nil] at hlen
  show aH.b0 k _ _ l q (i:Int) st.1 st.2.1 st.2.2=_
  unfold aH.b0
  rw [aY (by omega),aJ]
  rfl
 | s::r,[],n+1,i,st,hd,hd2,hi,hn,h=>by
  have hlen:=congrArg List.length hd
  rw [List.length_drop,jj] at hlen
  have hlen2:=congrArg List.length hd2
  rw [List.length_drop,List.length_nil] at hlen2
  omega
 | s::r,a::t,n+1,i,st,hd,hd2,hi,hn,h=>by
  have hlen:=congrArg List.length hd
  rw [List.length_drop,jj] at hlen
  have hget:List.getD l i (Ty.z aC)=s:=by
   have:=congrArg (fun q=>q.getD 0 (Ty.z aC)) hd
   simpa only [List.getD,List.getElem?_drop,Nat.add_zero,List.getElem?_cons_zero,Option.getD_some] using this
  have hget2:List.getD q i (Ty.z aG)=a:=by
   have:=congrArg (fun q=>q.getD 0 (Ty.z aG)) hd2
   simpa only [List.getD,List.getElem?_drop,Nat.add_zero,List.getElem?_cons_zero,Option.getD_some] using this
  have hd3:l.drop (i+1)=r:=by
   have:=congrArg (List.drop 1) hd
   rw [List.drop_drop] at this
   exact this
  have hd4:q.drop (i+1)=t:=by
   have:=congrArg (List.drop 1) hd2
   rw [List.drop_drop] at this
   exact this
  show aH.b0 k (aH.l1 k (aH.l0 k n) k) (aH.l0 k n) l q (i:Int) st.1 st.2.1 st.2.2=_
  rw [QB hk (by omega) h (by omega) hget (by omega) hget2]
  exact I1 hk hl hlq r t n (i+1) (mP st s a) hd3 hd4 (by omega) (by rw [jj] at hn;omega) (F7 h s a)
def BZ:tP:=([],(List.replicate 3 (Ty.z cF),List.replicate 3 (Ty.z aK)))
theorem Et:HB 0 BZ:=⟨Nat.le_refl _,rfl,rfl,fun x hx=>by rw [List.eq_of_mem_replicate hx];exact ⟨Nat.le_refl _,Nat.le_refl _⟩,fun x hx=>by rw [List.eq_of_mem_replicate hx];exact Nat.le_refl _⟩
theorem Fh {k:Nat} (hk:2 ^ 50≤k) {l:List (Ty.d aC)} {q:List (Ty.d aG)} (hl:l.length≤1000) (hlq:q.length=l.length):aH.f k l q=some ((th BZ l q).1,()):=by
 unfold aH.f aH.t
 rw [pV (by omega) (by omega) (by decide),pV (by omega) (by omega) (by decide)]
 exact I1 hk hl hlq l q k 0 BZ rfl rfl (Nat.zero_le _) (by omega) Et
theorem iy {a b c:Int} (h:(a==b)=true) (n:b≠c):(a==c)=false:=by
 rw [C9 h]
 exact pz n
def Ku (b:List (Ty.d aK)) (s:Ty.d aC):List (Ty.d aK):=b.set s.2.1.toNat ((js b s).1,((js b s).2.1,((js b s).2.2.1++[lr s],())))
theorem GK (st:tP) (s:Ty.d aC) (a:Ty.d aG):(tc (s.1==2&&(!(mO st.2.2 s)&&a.1==0)) st s a).2.2=bif (s.1==3||s.1==4)&&a.1==0 then Ku st.2.2 s else st.2.2:=by
 unfold tc Bp Bq
 cases c2:s.1==2 with
 | false =>
  simp only [Bool.false_and,aJ]
  cases (s.1==3||s.1==4)&&a.1==0 <;> rfl
 | true =>
  rw [iy c2 (c:=3) (by decide),iy c2 (c:=4) (by decide)]
  cases mO st.2.2 s <;> cases a.1==0 <;> cases a.1==8 <;> rfl
theorem J0 (st:tP) (s:Ty.d aC) (a:Ty.d aG):(mP st s a).2.2=rK st.2.2 s a.1:=by
 unfold mP rK
 cases s.1==9&&a.1==0 with
 | true=>rfl
 | false =>
  cases decide ((0:Int)≤s.2.1∧s.2.1≤2)&&decide ((1:Int)≤s.1∧s.1≤6) with
  | false=>rfl
  | true =>
   have h6:=GK st s a
   simp only [aa,aJ,fN]
   unfold xQ rk
   simp only [bne]
   show _=bif _ then _ else bif !(js st.2.2 s).1 then _ else bif _ then Ku st.2.2 s else _
   cases c0:a.1==0 with
   | true =>
    rw [iy c0 (c:=4) (by decide),iy c0 (c:=6) (by decide)]
    rw [c0] at h6
    cases c5:s.1==5 with
    | true =>
     rw [iy c5 (c:=1) (by decide),iy c5 (c:=6) (by decide)]
     rfl
    | false =>
     cases s.1==1 with
     | true=>rfl
     | false =>
      cases s.1==6 with
      | true=>rfl
      | false =>
       simp only [Bool.and_true,Bool.or_false,Bool.false_and,Bool.and_false,aJ]
       cases (js st.2.2 s).1 with
       | false=>rfl
       | true =>
        simp only [fN,aJ]
        simp only [Bool.and_true] at h6
        exact h6
   | false =>
    rw [c0] at h6
    simp only [Bool.and_false,Bool.false_or,tR,Bool.true_and,aJ] at h6 ⊢
    cases c5:s.1==5&&(!(a.1==4)&&!(a.1==6)) with
    | true=>rfl
    | false =>
     simp only [aJ]
     cases (js st.2.2 s).1 with
     | false=>rfl
     | true =>
      simp only [fN,aJ]
      exact h6
structure MW (m:Ty.d af):Prop where
 len:m.2.2.2.1.length=3
 dn:m.1=false→m.2.2.2.1=List.replicate 3 (Ty.z aK)
theorem BK.of {m m':Ty.d af} {b:List (Ty.d aK)} (h:BK m b) (e:m'.2.2.2.1=m.2.2.2.1):BK m' b:=⟨by rw [e];exact h.len,fun j=>by rw [e];exact h.open_ j,fun j=>by rw [e];exact h.wr j⟩
theorem NE (m:Ty.d af) (t:Ty.d aK):(mh m t).1.2.2.2.1=m.2.2.2.1∧(mh m t).1.1=m.1:=by
 unfold mh
 cases jY t.2.1 (pW m.2.1) with
 | false=>exact ⟨rfl,rfl⟩
 | true =>
  simp only [fN,aJ]
  cases ((gj t.2.2.1).length:Int)==0 with
  | true=>exact ⟨rfl,rfl⟩
  | false =>
   simp only [aJ]
   cases decide (((m_ m.2.1 (gj t.2.2.1) m.2.2.1).length:Int) > 20) with
   | true=>exact ⟨rfl,rfl⟩
   | false =>
    simp only [aJ]
    cases decide (m.2.2.1 > 1000000) with
    | true=>exact ⟨rfl,rfl⟩
    | false=>exact ⟨rfl,rfl⟩
theorem MN (m:Ty.d af) (t:Ty.d aK):((mh m t).2.1==(4:Int))=false∧((mh m t).2.1==(6:Int))=false:=by
 unfold mh
 cases jY t.2.1 (pW m.2.1) with
 | false=>exact ⟨rfl,rfl⟩
 | true =>
  simp only [fN,aJ]
  cases ((gj t.2.2.1).length:Int)==0 with
  | true=>exact ⟨rfl,rfl⟩
  | false =>
   simp only [aJ]
   cases decide (((m_ m.2.1 (gj t.2.2.1) m.2.2.1).length:Int) > 20) with
   | true=>exact ⟨rfl,rfl⟩
   | false =>
    simp only [aJ]
    cases decide (m.2.2.1 > 1000000) with
    | true=>exact ⟨rfl,rfl⟩
    | false=>exact ⟨rfl,rfl⟩
theorem H_ (t:Ty.d aK) (key:ByteArray) (b:Int):(iM t key b).1.1=t.1∧(iM t key b).1.2.2.1=t.2.2.1:=by
 unfold iM
 cases !t.1 with
 | true=>exact ⟨rfl,rfl⟩
 | false =>
  cases !eT key with
  | true=>exact ⟨rfl,rfl⟩
  | false =>
   simp only [aJ]
   cases kW t.2.1 key with
   | some b'=>exact ⟨rfl,rfl⟩
   | none =>
    simp only []
    cases decide ((t.2.1.length:Int)≥20) <;> exact ⟨rfl,rfl⟩
theorem Fw {t:Ty.d aK} {p:Ty.d aW} (h:(fq t p).2=true):(fq t p).1.1=t.1∧(fq t p).1.2.2.1=t.2.2.1++[p]:=by
 revert h
 unfold fq
 cases !t.1 with
 | true=>exact fun h=>absurd h Bool.false_ne_true
 | false =>
  cases !dN [p] with
  | true=>exact fun h=>absurd h Bool.false_ne_true
  | false =>
   simp only [aJ]
   cases decide (((gj (t.2.2.1++[p])).length:Int) > 8) with
   | true=>exact fun h=>absurd h Bool.false_ne_true
   | false =>
    simp only [aJ]
    cases decide (((t.2.2.1++[p]).length:Int) > 50) with
    | true=>exact fun h=>absurd h Bool.false_ne_true
    | false=>exact fun _=>⟨rfl,rfl⟩
theorem s8 (b:List (Ty.d aK)) {s:Ty.d aC} {c:Int} (h9:(s.1==9&&c==0)=false) (hr:decide ((1:Int)≤s.1∧s.1≤6)=false):rK b s c=b:=by
 unfold rK
 rw [h9,hr,Bool.and_false]
 rfl
theorem IC (b:List (Ty.d aK)) (s:Ty.d aC) {c:Int} (h:c=4∨c=6):rK b s c=b:=by
 have c0:(c==0)=false:=by rcases h with q | q <;> rw [q] <;> rfl
 have c46:(c != 4&&c != 6)=false:=by rcases h with q | q <;> rw [q] <;> rfl
 unfold rK
 rw [c0,c46]
 simp only [Bool.and_false,Bool.or_false,aJ]
 cases decide ((0:Int)≤s.2.1∧s.2.1≤2)&&decide ((1:Int)≤s.1∧s.1≤6) with
 | false=>rfl
 | true=>cases (b.getD s.2.1.toNat (Ty.z aK)).1 <;> rfl
theorem vq {s:Ty.d aC} {c:Int} (h:(s.1==c)=true) (hc:6<c):decide ((1:Int)≤s.1∧s.1≤6)=false:=by
 have e:s.1=c:=C9 h
 refine aY fun q=>?_
 have key:∀ x:Int,x=c→x≤6→False:=by omega
 exact key s.1 e q.2
theorem KF {m:Ty.d af} (hw:MW m) {b:List (Ty.d aK)} (h:BK m b) (s:Ty.d aC):BK (iF m s).1 (rK b s (iF m s).2.1)∧MW (iF m s).1:=by
 have hbl:b.length=3:=h.len.trans hw.len
 unfold iF
 cases c10:s.1==10 with
 | true =>
  have ho:=vq c10 (by decide)
  have h9:=iy c10 (c:=9) (by decide)
  simp only [aa]
  cases up:m.1 with
  | true =>
   rw [aa,s8 b (by rw [h9];rfl) ho]
   exact ⟨h,hw⟩
  | false =>
   rw [aJ,s8 b (by rw [h9];rfl) ho]
   refine ⟨h.of (hw.dn up).symm,rfl,fun q=>by cases q⟩
 | false =>
  simp only [aJ]
  cases c11:s.1==11 with
  | true =>
   simp only [aa]
   rw [s8 b (by rw [iy c11 (c:=9) (by decide)];rfl) (vq c11 (by decide))]
   exact ⟨h,hw⟩
  | false =>
   simp only [aJ]
   cases up:m.1 with
   | false =>
    simp only [tR,aa]
    rw [show (jb 6).1=6 from rfl,IC b s (.inr rfl)]
    exact ⟨h,hw⟩
   | true =>
    simp only [fN,aJ]
    cases c7:s.1==7 with
    | true =>
     simp only [aa]
     rw [s8 b (by rw [iy c7 (c:=9) (by decide)];rfl) (vq c7 (by decide))]
     exact ⟨h,hw⟩
    | false =>
     simp only [aJ]
     cases c8:s.1==8 with
     | true =>
      simp only [aa]
      rw [s8 b (by rw [iy c8 (c:=9) (by decide)];rfl) (vq c8 (by decide))]
      exact ⟨h,hw⟩
     | false =>
      simp only [aJ]
      cases c9:s.1==9 with
      | true =>
       simp only [aa]
       have e:rK b s (jb 0).1=List.replicate 3 (Ty.z aK):=by
        unfold rK
        rw [c9]
        rfl
       rw [e]
       exact ⟨⟨rfl,fun _=>rfl,fun _=>rfl⟩,rfl,fun _=>rfl⟩
      | false =>
       simp only [aJ]
       cases hf:tI m s with
       | false =>
        simp only [tR,aa]
        rw [show (jb 4).1=4 from rfl,IC b s (.inl rfl)]
        exact ⟨h,hw⟩
       | true =>
        simp only [fN,aJ]
        unfold tI at hf
        rw [iA,iA,decide_eq_true_eq,decide_eq_true_eq] at hf
        obtain ⟨⟨r0,r1⟩,hk,hop⟩:=hf
        have hlen:=hw.len
        have r1':LE.le (α:=Int) s.2.1 2:=by
         have r1:LE.le (α:=Int) s.2.1 ((m.2.2.2.1.length:Int)-1):=r1
         rw [hlen] at r1
         omega
        have r0':LE.le (α:=Int) 0 s.2.1:=r0
        have hi:s.2.1.toNat<b.length:=by omega
        have hrg:(decide ((0:Int)≤s.2.1∧s.2.1≤2)&&decide ((1:Int)≤s.1∧s.1≤6))=true:=by rw [aV ⟨r0,r1'⟩,aV hk];rfl
        have hb:∀ c:Int,rK b s c=bif (s.1==1&&c==0)||((s.1==6&&c==0)||(s.1==5&&(c != 4&&c != 6))) then b.set s.2.1.toNat ((s.1==1),([],([],()))) else bif !(b.getD s.2.1.toNat (Ty.z aK)).1 then b else
         bif (s.1==3||s.1==4)&&c==0 then b.set s.2.1.toNat ((b.getD s.2.1.toNat (Ty.z aK)).1,((b.getD s.2.1.toNat (Ty.z aK)).2.1,((b.getD s.2.1.toNat (Ty.z aK)).2.2.1++[lr s],()))) else b:=fun c=>by
         unfold rK
         rw [c9,hrg]
         rfl
        have mwS:∀ t:Ty.d aK,MW (lD m s.2.1 t):=fun t=>⟨(List.length_set ..).trans hlen,fun q=>by rw [show (lD m s.2.1 t).1=m.1 from rfl,up] at q;cases q⟩
        unfold q7
        cases c1:s.1==1 with
        | true =>
         simp only [aa]
         rw [hb,c1]
         exact ⟨h.set s.2.1 hi rfl rfl,mwS _⟩
        | false =>
         simp only [aJ]
         cases c6:s.1==6 with
         | true =>
          simp only [aa]
          rw [hb,c1,c6]
          exact ⟨h.set s.2.1 hi rfl rfl,mwS _⟩
         | false =>
          simp only [aJ]
          cases c5:s.1==5 with
          | true =>
           simp only [aa]
           obtain ⟨k4,k6⟩:=MN (lD m s.2.1 lp) (kQ m s.2.1)
           obtain ⟨t1,t2⟩:=NE (lD m s.2.1 lp) (kQ m s.2.1)
           rw [hb,c1,c6,c5]
           simp only [bne]
           rw [k4,k6]
           refine ⟨(h.set (t:=lp) s.2.1 hi rfl rfl).of t1,?_,fun q=>?_⟩
           · rw [t1];exact (mwS lp).len
           · rw [t2,show (lD m s.2.1 lp).1=m.1 from rfl,up] at q;cases q
          | false =>
           have hop':(kQ m s.2.1).1=true:=by
            rw [c1] at hop
            cases q:(kQ m s.2.1).1 with
            | true=>rfl
            | false=>rw [q] at hop;cases hop
           have hbo:(b.getD s.2.1.toNat (Ty.z aK)).1=true:=(h.open_ _).trans hop'
           have hbw:(b.getD s.2.1.toNat (Ty.z aK)).2.2.1=(kQ m s.2.1).2.2.1:=h.wr _
           have hb2:∀ c:Int,rK b s c=bif (s.1==3||s.1==4)&&c==0 then b.set s.2.1.toNat ((b.getD s.2.1.toNat (Ty.z aK)).1,((b.getD s.2.1.toNat (Ty.z aK)).2.1,((b.getD s.2.1.toNat (Ty.z aK)).2.2.1++[lr s],()))) else b:=fun c=>by
            rw [hb,c1,c6,c5,hbo]
            rfl
           simp only [aJ]
           cases c2:s.1==2 with
           | true =>
            simp only [aa]
            rw [hb2,iy c2 (c:=3) (by decide),iy c2 (c:=4) (by decide)]
            show BK (pA m s).1 b∧MW (pA m s).1
            unfold pA
            cases eT s.2.2.1 with
            | false=>exact ⟨h,hw⟩
            | true =>
             simp only [fN,aJ]
             cases lL (kQ m s.2.1).2.2.1 s.2.2.1 with
             | some p =>
              simp only []
              cases p.2.1 <;> exact ⟨h,hw⟩
             | none =>
              simp only []
              unfold w7
              obtain ⟨g1,g2⟩:=H_ (kQ m s.2.1) s.2.2.1 (jq m.2.1 s.2.2.1).1.2.2.1
              cases (iM (kQ m s.2.1) s.2.2.1 (jq m.2.1 s.2.2.1).1.2.2.1).2 != 0 with
              | true=>exact ⟨h,hw⟩
              | false=>exact ⟨h.keep s.2.1 g1 g2,mwS _⟩
           | false =>
            simp only [aJ]
            have c34:(s.1==3||s.1==4)=true:=by
             have n1:=beq_eq_false_iff_ne.1 c1
             have n2:=beq_eq_false_iff_ne.1 c2
             have n5:=beq_eq_false_iff_ne.1 c5
             have n6:=beq_eq_false_iff_ne.1 c6
             have key:∀ x:Int,1≤x→x≤6→x≠1→x≠2→x≠5→x≠6→x=3∨x=4:=by omega
             rcases key s.1 hk.1 hk.2 n1 n2 n5 n6 with q | q <;> rw [q] <;> rfl
            rw [hb2,c34]
            unfold qU
            cases dN [lr s] with
            | false=>exact ⟨h,hw⟩
            | true =>
             simp only [fN,aJ]
             cases cw:(fq (kQ m s.2.1) (lr s)).2 with
             | false=>exact ⟨h,hw⟩
             | true =>
              obtain ⟨w1,w2⟩:=Fw cw
              exact ⟨h.set s.2.1 hi (by rw [w1,hop'];exact hbo) (by rw [w2,← hbw]),mwS _⟩
theorem Mr:MW pb:=⟨rfl,fun q=>by cases q⟩
theorem JZ (st:tP) (s:Ty.d aC) (a:Ty.d aG):∀ x ∈ st.1,x ∈ (mP st s a).1:=fun x hx=>by
 unfold mP
 cases s.1==9&&a.1==0 with
 | true=>exact hx
 | false =>
  cases decide ((0:Int)≤s.2.1∧s.2.1≤2)&&decide ((1:Int)≤s.1∧s.1≤6) with
  | false=>exact hx
  | true =>
   simp only [aa,aJ]
   unfold xQ
   cases rk s a.1 with
   | true=>exact hx
   | false =>
    cases s.1==5&&a.1==0 with
    | true=>exact List.mem_append_left _ hx
    | false =>
     cases !(js st.2.2 s).1 with
     | true=>exact hx
     | false =>
      simp only [aJ]
      unfold tc
      cases s.1==2&&(!(mO st.2.2 s)&&a.1==0) with
      | true=>exact hx
      | false =>
       simp only [aJ]
       unfold Bp
       cases s.1==2&&(!(mO st.2.2 s)&&a.1==8) with
       | true=>exact hx
       | false =>
        simp only [aJ]
        unfold Bq
        cases (s.1==3||s.1==4)&&a.1==0 <;> exact hx
theorem AO:∀ (l:List (Ty.d aC)) (q:List (Ty.d aG)) (st:tP),∀ x ∈ st.1,x ∈ (th st l q).1
 | [],_,st,x,hx=>hx
 | s::l,[],st,x,hx=>hx
 | s::l,a::q,st,x,hx=>AO l q (mP st s a) x (JZ st s a x hx)
theorem M1 (st:tP) {s:Ty.d aC} {a:Ty.d aG} (h5:(s.1==5)=true) (h0:LE.le (α:=Int) 0 s.2.1) (h2:LE.le (α:=Int) s.2.1 2) (ha:(a.1==0)=true) :
 (s.2.1,((qf st.2.1 s).2.1,((qf st.2.1 s).2.2.1,(gj (js st.2.2 s).2.2.1,())))) ∈ (mP st s a).1:=by
 have e5:s.1=5:=C9 h5
 have hr:(decide ((0:Int)≤s.2.1∧s.2.1≤2)&&decide ((1:Int)≤s.1∧s.1≤6))=true:=by rw [aV ⟨h0,h2⟩,e5];rfl
 have hrs:rk s a.1=false:=by
  unfold rk
  rw [iy h5 (c:=1) (by decide),iy h5 (c:=6) (by decide),ha]
  cases s.1==5 <;> rfl
 unfold mP
 rw [iy h5 (c:=9) (by decide),hr,Bool.false_and,aJ,aa]
 unfold xQ
 rw [hrs,h5,ha]
 exact List.mem_append_right _ ii
def MQ (m x:Ty.d af):Prop:=x.2.1=m.2.1∧@Eq Int x.2.2.1 m.2.2.1
theorem MQ.refl (m:Ty.d af):MQ m m:=⟨rfl,rfl⟩
theorem MQ.set (m:Ty.d af) (i:Int) (t:Ty.d aK):MQ m (lD m i t):=⟨rfl,rfl⟩
theorem Of (m:Ty.d af) (s:Ty.d aC):MQ m (pA m s).1:=by
 unfold pA
 cases eT s.2.2.1 with
 | false=>exact MQ.refl m
 | true =>
  simp only [fN,aJ]
  cases lL (kQ m s.2.1).2.2.1 s.2.2.1 with
  | some p =>
   simp only []
   cases p.2.1 <;> exact MQ.refl m
  | none =>
   simp only []
   unfold w7
   cases (iM (kQ m s.2.1) s.2.2.1 (jq m.2.1 s.2.2.1).1.2.2.1).2 != 0 with
   | true=>exact MQ.refl m
   | false=>exact MQ.set m _ _
theorem Ox (m:Ty.d af) (s:Ty.d aC):MQ m (qU m s).1:=by
 unfold qU
 cases dN [lr s] with
 | false=>exact MQ.refl m
 | true =>
  simp only [fN,aJ]
  cases (fq (kQ m s.2.1) (lr s)).2 with
  | false=>exact MQ.refl m
  | true=>exact MQ.set m _ _
theorem NC {kk:Nat} {m:Ty.d af} (hw:MW m) {st:tP} (hb:BK m st.2.2) {s:Ty.d aC} (hs:w8 kk s=true)
 (hr:∀ x ∈ (mP st s (iF m s).2).1,¬ (x.1=(kk:Int)∧0<x.2.2.2.1.length)):MQ m (iF m s).1:=by
 unfold w8 at hs
 rw [iA,decide_eq_true_eq,beq_iff_eq] at hs
 obtain ⟨⟨h1,h6⟩,hk⟩:=hs
 have ne:∀ c:Int,7≤c→(s.1==c)=false:=fun c hc=>pz fun q=>by
  have key:∀ x:Int,x≤6→x=c→False:=by omega
  exact key s.1 h6 q
 revert hr
 unfold iF
 rw [ne 10 (by decide),ne 11 (by decide),ne 7 (by decide),ne 8 (by decide),ne 9 (by decide)]
 simp only [aJ]
 cases m.1 with
 | false=>exact fun _=>MQ.refl m
 | true =>
  simp only [fN,aJ]
  cases hf:tI m s with
  | false=>exact fun _=>MQ.refl m
  | true =>
   simp only [fN,aJ]
   unfold q7
   cases s.1==1 with
   | true=>exact fun _=>MQ.set m _ _
   | false =>
    cases s.1==6 with
    | true=>exact fun _=>MQ.set m _ _
    | false =>
     cases c5:s.1==5 with
     | true =>
      simp only [aa,aJ]
      intro hr
      unfold tI at hf
      rw [iA,decide_eq_true_eq] at hf
      have hlen:=hw.len
      have r0:LE.le (α:=Int) 0 s.2.1:=hf.1.1
      have r1:LE.le (α:=Int) s.2.1 ((m.2.2.2.1.length:Int)-1):=hf.1.2
      have q:gj (kQ m s.2.1).2.2.1=[]∨(mh (lD m s.2.1 lp) (kQ m s.2.1)).2.1≠(0:Int):=by
       cases ca:(mh (lD m s.2.1 lp) (kQ m s.2.1)).2.1==0 with
       | false=>exact .inr (beq_eq_false_iff_ne.1 ca)
       | true =>
        refine .inl ?_
        have:=hr _ (M1 st c5 r0 (by rw [hlen] at r1;omega) ca)
        have e:(js st.2.2 s).2.2.1=(kQ m s.2.1).2.2.1:=hb.wr _
        rw [e] at this
        cases w:gj (kQ m s.2.1).2.2.1 with
        | nil=>rfl
        | cons x r=>exact absurd ⟨hk,by rw [w];exact Nat.zero_lt_succ _⟩ this
      rw [J8 q]
      exact MQ.set m _ _
     | false =>
      cases s.1==2 with
      | true=>exact fun _=>Of m s
      | false=>exact fun _=>Ox m s
theorem Hw {kk:Nat}:∀ (l:List (Ty.d aC)) {m:Ty.d af} {st:tP},MW m→BK m st.2.2 →
 (∀ x ∈ (th st l (gZ m l).2).1,¬ (x.1=(kk:Int)∧0<x.2.2.2.1.length))→QK kk m l
 | [],m,st,hw,hb,hr=>trivial
 | s::l,m,st,hw,hb,hr=>by
  have hr':∀ x ∈ (th (mP st s (iF m s).2) l (gZ (iF m s).1 l).2).1,¬ (x.1=(kk:Int)∧0<x.2.2.2.1.length):=hr
  obtain ⟨b1,b2⟩:=KF hw hb s
  have hbl:st.2.2.length=3:=hb.len.trans hw.len
  refine ⟨fun c=>NC hw hb c fun x hx=>hr' x (AO _ _ _ x hx),Hw l b2 (by rw [J0];exact b1) hr'⟩
theorem Ms {k:Nat} (hk:2 ^ 50≤k) {a:Ty.d aG} (ha:a.2.2.1.length≤1000):fQ.f k a a=some (true,()):=by
 unfold fQ.f fQ.t
 rw [bne_self_eq_false,aJ,bZ]
 simp only [fN,aJ,bne_self_eq_false]
 refine fe (L:=fun n i (_:Unit)=>fQ.l0 k n i a.1 a.2.1 a.2.2.1 a.1 a.2.1 a.2.2.1) (R:=fun _ _=>some (true,())) (Ty.z .str) a.2.2.1 (fun _ _=>True) (fun n _ _=>?_) (fun n i _ x rest h0 h1 hx hr hp ih=>?_) (n:=k) (s:=()) (by omega) trivial
 · simp only [fQ.l0,fQ.b0]
   rw [aY (by omega),aJ]
 · simp only [fQ.l0,fQ.b0]
   rw [aV h1,aa,aN h0 h1,aN h0 h1,hx,bZ,aE (n:=i+1) (by omega) (by omega)]
   exact ih () trivial
theorem Ht {k:Nat} (hk:2 ^ 50≤k) {l:List (Ty.d aG)} (hl:l.length≤1000) (ha:∀ a ∈ l,a.2.2.1.length≤1000):bh.f k l l=some (true,()):=by
 unfold bh.f bh.t
 rw [bne_self_eq_false,aJ]
 refine fe (L:=fun n i (_:Unit)=>bh.l0 k n l l i) (R:=fun _ _=>some (true,())) (Ty.z aG) l (fun _ _=>True) (fun n _ _=>?_) (fun n i _ x rest h0 h1 hx hr hp ih=>?_) (n:=k) (s:=()) (by omega) trivial
 · simp only [bh.l0,bh.b0]
   rw [aY (by omega),aJ]
 · have hx2:x ∈ l:=List.mem_of_mem_drop (by rw [hr];exact ii)
   simp only [bh.l0,bh.b0]
   rw [aV h1,aa,aN h0 h1,aN h0 h1,hx,Ms hk (ha x hx2),aX]
   simp only [fN,aJ]
   rw [aE (n:=i+1) (by omega) (by omega)]
   exact ih () trivial
theorem Gm {m:Ty.d af} (h:MV m) (s:Ty.d aC):(iF m s).2.2.2.1.length≤1000:=by
 have hm:=h.map
 unfold iF
 cases s.1==10 with
 | true=>cases m.1 <;> exact Nat.zero_le _
 | false =>
  cases s.1==11 with
  | true=>exact Nat.zero_le _
  | false =>
   cases !m.1 with
   | true=>exact Nat.zero_le _
   | false =>
    cases s.1==7 with
    | true=>exact Nat.zero_le _
    | false =>
     cases s.1==8 with
     | true =>
      show (m.2.1.map (·.1)).length≤1000
      rw [List.length_map]
      omega
     | false =>
      cases s.1==9 with
      | true=>exact Nat.zero_le _
      | false =>
       cases !tI m s with
       | true=>exact Nat.zero_le _
       | false =>
        show (q7 m s).2.2.2.1.length≤1000
        unfold q7
        cases s.1==1 with
        | true=>exact Nat.zero_le _
        | false =>
         cases s.1==6 with
         | true=>exact Nat.zero_le _
         | false =>
          cases s.1==5 with
          | true =>
           show (mh (lD m s.2.1 lp) (kQ m s.2.1)).2.2.2.1.length≤1000
           unfold mh
           cases !jY (kQ m s.2.1).2.1 (pW (lD m s.2.1 lp).2.1) with
           | true=>exact Nat.zero_le _
           | false =>
            simp only [aJ]
            cases ((gj (kQ m s.2.1).2.2.1).length:Int)==0 with
            | true=>exact Nat.zero_le _
            | false =>
             simp only [aJ]
             cases decide (((m_ (lD m s.2.1 lp).2.1 (gj (kQ m s.2.1).2.2.1) (lD m s.2.1 lp).2.2.1).length:Int) > 20) with
             | true=>exact Nat.zero_le _
             | false =>
              simp only [aJ]
              cases decide ((lD m s.2.1 lp).2.2.1 > 1000000) <;> exact Nat.zero_le _
          | false =>
           cases s.1==2 with
           | true =>
            show (pA m s).2.2.2.1.length≤1000
            unfold pA
            cases !eT s.2.2.1 with
            | true=>exact Nat.zero_le _
            | false =>
             simp only [aJ]
             cases lL (kQ m s.2.1).2.2.1 s.2.2.1 with
             | some p =>
              simp only []
              cases p.2.1 <;> exact Nat.zero_le _
             | none =>
              simp only []
              unfold w7
              cases (iM (kQ m s.2.1) s.2.2.1 (jq m.2.1 s.2.2.1).1.2.2.1).2 != 0 <;> exact Nat.zero_le _
           | false =>
            show (qU m s).2.2.2.1.length≤1000
            unfold qU
            cases !dN [lr s] with
            | true=>exact Nat.zero_le _
            | false =>
             simp only [aJ]
             cases !(fq (kQ m s.2.1) (lr s)).2 <;> exact Nat.zero_le _
theorem qh:∀ (l:List (Ty.d aC)) (m:Ty.d af),(gZ m l).2.length=l.length
 | [],_=>rfl
 | s::l,m=>congrArg (·+1) (qh l (iF m s).1)
theorem xR:∀ (l:List (Ty.d aC)) {m:Ty.d af},AL MV m l→∀ a ∈ (gZ m l).2,a.2.2.1.length≤1000
 | [],_,_,a,ha=>by cases ha
 | s::l,m,h,a,ha=>by
  have h:MV m∧AL MV (iF m s).1 l:=h
  rcases List.mem_cons.1 ha with q | q
  · rw [q];exact Gm h.1 s
  · exact xR l h.2 a q
def mE (kk:Nat):List (Ty.d aC)→List (Ty.d aG)→List (Ty.d aG)
 | s::l,a::q=>bif w8 kk s then mE kk l q else a::mE kk l q
 | _,_=>[]
theorem Ml (k:Nat) {c:oB} (h:CI c) {n:Int} (h0:0<n) (h1:n≤256):oU (bN.f k c n) (fun r=>CI r.1):=sV (oP k h h0 h1) fun _ q=>q.1
theorem P1 {k:Nat} (hk:2 ^ 50≤k) {c:oB} (h:CI c) {m:Int} (h0:0≤m) (h1:m≤200):oU (fH.f k c m) (fun r=>CI r.1):=sV (Lc hk h h0 h1) fun _ q=>q.1
theorem OU (k:Nat) {c:oB} (h:CI c) {l:List ByteArray} (h0:0<l.length) (h1:l.length≤256):oU (cr.f k c l) (fun r=>CI r.1):=sV (ET k h h0 h1) fun _ q=>q.1
theorem IK {α:Type} {P:α→Prop} {b:Nat} {n:Int} {x:Option α} (h0:0≤n) (h1:n≤1099511627776) (hb:b≤128) (h:oU x P):oU (u7 b n x) P:=by rw [pV h0 h1 hb];exact h
abbrev ND (s:Ty.d aC):Prop:=(s.1==11)=false
theorem L_ (k:Nat) {c:oB} (h:CI c) {l:List Int} (h0:0<l.length) (h1:l.length≤256) (hl:∀ y ∈ l,(y==11)=false):oU (ai.f k c l) (fun r=>CI r.1∧(r.2.1==11)=false):=sV (Fi k h h0 h1) fun r q=>⟨q.1,hl _ q.2⟩
theorem Jj {k:Nat} (hk:2 ^ 50≤k) {c:oB} (h:CI c):oU (jO.f k c) (fun r=>CI r.1∧ND r.2.1):=by
 unfold jO.f jO.t
 refine fi (L_ k h (by decide) (by decide) (by decide)) fun r1 q1=>?_
 obtain ⟨c1,n1⟩:=q1
 repeat' first
  | exact jz ⟨by assumption,rfl⟩
  | exact jz ⟨by assumption,n1⟩
  | exact jz ⟨by assumption,by assumption⟩
  | refine fi (Ml k (by assumption) (by omega) (by omega)) fun _ _=>?_
  | refine fi (N6 k (by assumption)) fun _ _=>?_
  | refine fi (P1 hk (by assumption) (by omega) (by omega)) fun _ _=>?_
  | (refine fi (L_ k (by assumption) (by decide) (by decide) (by decide)) fun _ q=>?_;obtain ⟨_,_⟩:=q)
  | refine fi (OU k (by assumption) (by decide) (by decide)) fun _ _=>?_
  | refine o9 (fun _=>?_) (fun _=>?_)
theorem uh {α:Type} {P:α→Prop} {l:List α} {x:α} (h:∀ s ∈ l,P s) (hx:P x):∀ s ∈ l++[x],P s:=fun s hs=>by
 rcases List.mem_append.1 hs with q | q
 · exact h s q
 · rw [List.mem_singleton.1 q];exact hx
theorem Jr {k:Nat} (hk:2 ^ 50≤k):∀ (m n:Nat) (c:oB) (out:List (Ty.d aC)) (rows:List Bool),m<n→CI c→out.length+2*m≤1000→rows.length=3→(∀ s ∈ out,ND s) →
 oU (eO.l0 k n (m:Int) c.1 c.2.1 c.2.2.1 out rows) (fun r=>CI r.1∧r.2.1.length≤1000∧∀ s ∈ r.2.1,ND s):=by
 intro m
 induction m with
 | zero =>
  intro n c out rows hn hc ho hr ha
  obtain ⟨n,rfl⟩:∃ q,n=q+1:=⟨n-1,by omega⟩
  simp only [eO.l0,eO.b0]
  exact KI (aY (by omega)) (jz ⟨hc,by show out.length≤1000;omega,ha⟩)
 | succ m ih =>
  intro n c out rows hn hc ho hr ha
  obtain ⟨n,rfl⟩:∃ q,n=q+1:=⟨n-1,by omega⟩
  have hw:aQ (((m+1:Nat):Int)-1)=(m:Int):=by rw [aE (by omega) (by omega)];omega
  simp only [eO.l0,eO.b0,hw]
  refine I5 (aV (by omega)) (fi (Jj hk hc) fun r2 q2=>?_)
  obtain ⟨q2,n2⟩:=q2
  repeat' first
   | exact ih n _ _ _ (by omega) (by assumption) (by simp only [py,List.length_singleton];omega) (by first | exact hr | rfl | (simp only [List.length_set];exact hr)) (by first | exact uh ha n2 | exact uh ha rfl | exact uh (uh ha n2) rfl)
   | refine fi (Kk k (by assumption) (by omega) (by omega)) fun _ _=>?_
   | refine Ks (by first | omega | (simp only [py,List.length_singleton];omega)) (by decide) ?_
   | refine IK (by omega) (by omega) (by decide) ?_
   | refine sq (ot k _ _ _) (o9 (fun hq=>?_) (fun _=>?_))
   | refine yG (by have hq':=of_decide_eq_true hq;exact hq'.1) (by have hq':=of_decide_eq_true hq;exact Int.lt_of_le_of_lt hq'.2 (by rw [hr];decide)) ?_
   | refine o9 (fun _=>?_) (fun _=>?_)
theorem De {k:Nat} (hk:2 ^ 50≤k) {c:oB} (h:CI c):oU (eO.f k c 60) (fun r=>CI r.1∧r.2.1.length≤1000∧∀ s ∈ r.2.1,ND s):=by
 unfold eO.f eO.t
 rw [show aQ (60+1)=61 from by decide]
 refine IK (by omega) (by omega) (by decide) (fi (oP k h (by omega) (by omega)) fun r q=>?_)
 obtain ⟨hc,a,b⟩:=q
 have:=Jr hk r.2.1.toNat k r.1 [] (List.replicate (Int.toNat 3) (Ty.z .bool)) (by omega) hc (by simp only [List.length_nil];omega) rfl (fun s hs=>by cases hs)
 rw [show ((r.2.1.toNat:Nat):Int)=r.2.1 by omega] at this
 exact this
theorem Qa {k:Nat} {code:List Int} (hl:code.length≤1048576) (hb:∀ x ∈ code,(0:Int)≤x∧x≤255) {i:Int} (h0:0≤i) (h1:i≤1000):oU (nO.f k code i) (fun r=>0≤r.1∧r.1≤255):=by
 unfold nO.f nO.t
 refine o9 (fun hd=>?_) (fun hd=>?_)
 · have hd:=of_decide_eq_true hd
   have hx:=hb (code.getD i.toNat (Ty.z (.int .u8))) (fX (by omega))
   refine yG h0 hd (jz ?_)
   show 0≤aQ _∧aQ _≤255
   rw [aE (by omega) (by omega)]
   exact hx
 · have hd:=of_decide_eq_false hd
   refine jz ?_
   show 0≤Int.tmod _ 256∧Int.tmod _ 256≤255
   rw [aE (n:=i*37) (by omega) (by omega),aE (n:=(code.length:Int)*11) (by omega) (by omega),aE (n:=i*37+(code.length:Int)*11) (by omega) (by omega),Int.tmod_eq_emod_of_nonneg (by omega)]
   omega
theorem PF {a n:Int} (h0:0≤a) (hn:0<n):0≤Int.tmod a n∧Int.tmod a n<n:=by
 rw [Int.tmod_eq_emod_of_nonneg h0]
 exact ⟨Int.emod_nonneg _ (by omega),Int.emod_lt_of_pos _ hn⟩
theorem KM {k:Nat} (hk:2 ^ 50≤k) {code:List Int} (hl:code.length≤1048576):oU (f_.f k code) (fun r=>r.1.length≤1000∧∀ s ∈ r.1,ND s):=by
 unfold f_.f f_.t
 refine fi (My hk hl) fun r1 q1=>?_
 refine fi (De hk q1) fun r2 q2=>?_
 exact jz q2.2
def Hn (k:Nat) (l:List (Ty.d aC)) (nD:List (Ty.d aG)) (M:List (Ty.d aC)) (W:List (Ty.d aG)):ax.Rs :=
 (iR.f k M).bind fun r6=>(ip.f k r6.1).bind fun r7=>(bh.f k r7.1.2.1 W).bind fun r8=>bif r8.1 then ((iR.f k l).bind fun r9=>(ip.f k r9.1).bind fun r10=>(bh.f k r10.1.2.1 nD).bind fun r11=>some r11) else some (false,())
section
variable {k:Nat} {l:List (Ty.d aC)} (hl:l.length≤82) {nD:List (Ty.d aG)} (ht:nD.length=l.length) (kk:Nat)
include hl ht
theorem Q4:∀ (r:List (Ty.d aC)) (t:List (Ty.d aG)) (n i:Nat) (M:List (Ty.d aC)) (W:List (Ty.d aG)),l.drop i=r→nD.drop i=t→i≤l.length→r.length<n→M.length≤i→W.length≤i →
 ax.l2 k n l (kk:Int) (i:Int) nD M W=Hn k l nD (M++r.filter fun s=>!w8 kk s) (W++mE kk r t):=by
 intro r
 induction r with
 | nil =>
  intro t n i M W hd hd2 hi hn hM hW
  obtain ⟨n,rfl⟩:∃ q,n=q+1:=⟨n-1,by omega⟩
  have hlen:=congrArg List.length hd
  rw [List.length_drop,List.length_nil] at hlen
  simp only [ax.l2,ax.b2]
  rw [aY (by omega),aJ,List.filter_nil,List.append_nil,show mE kk [] t=[] from rfl,List.append_nil]
  rfl
 | cons s r ih =>
  intro t n i M W hd hd2 hi hn hM hW
  obtain ⟨n,rfl⟩:∃ q,n=q+1:=⟨n-1,by omega⟩
  have hlen:=congrArg List.length hd
  rw [List.length_drop,jj] at hlen
  cases t with
  | nil =>
   have hlen2:=congrArg List.length hd2
   rw [List.length_drop,List.length_nil] at hlen2
   omega
  | cons a t =>
   have hget:List.getD l i (Ty.z aC)=s:=by
    have:=congrArg (fun q=>q.getD 0 (Ty.z aC)) hd
    simpa only [List.getD,List.getElem?_drop,Nat.add_zero,List.getElem?_cons_zero,Option.getD_some] using this
   have hget2:List.getD nD i (Ty.z aG)=a:=by
    have:=congrArg (fun q=>q.getD 0 (Ty.z aG)) hd2
    simpa only [List.getD,List.getElem?_drop,Nat.add_zero,List.getElem?_cons_zero,Option.getD_some] using this
   have hd3:l.drop (i+1)=r:=by
    have:=congrArg (List.drop 1) hd
    rw [List.drop_drop] at this
    exact this
   have hd4:nD.drop (i+1)=t:=by
    have:=congrArg (List.drop 1) hd2
    rw [List.drop_drop] at this
    exact this
   rw [jj] at hn
   have e1:=ih t n (i+1) M W hd3 hd4 (by omega) (by omega) (by omega) (by omega)
   have e2:=ih t n (i+1) (M++[s]) (W++[a]) hd3 hd4 (by omega) (by omega) (by rw [d8];omega) (by rw [d8];omega)
   simp only [ax.l2,ax.b2]
   rw [aV (by omega),aa,aN (by omega) (by omega),aN (by omega) (by omega),aN (by omega) (by omega),aN (by omega) (by omega),bf (by omega) (by decide),aN (by omega) (by omega),bf (by omega) (by decide),Int.toNat_natCast,hget,hget2,aE (n:=(i:Int)+1) (by omega) (by omega)]
   rw [show ((i:Int)+1)=((i+1:Nat):Int) from rfl,e1,e2,nw,nw,List.filter_cons,show mE kk (s::r) (a::t)=bif w8 kk s then mE kk r t else a::mE kk r t from rfl]
   have ek:w8 kk s=(decide (s.1≥1)&&(decide (s.1≤6)&&s.2.1==(kk:Int))):=by
    unfold w8
    rw [show decide ((1:Int)≤s.1∧s.1≤6)=(decide ((1:Int)≤s.1)&&decide (s.1≤6)) from Bool.decide_and ..,Bool.and_assoc]
   rw [ek]
   cases decide (s.1≥1) <;> cases decide (s.1≤6) <;> cases s.2.1==(kk:Int) <;> rfl
theorem Ps:∀ (r:List (Ty.d aC)) (t:List (Ty.d aG)) (n i:Nat),l.drop i=r→nD.drop i=t→i≤l.length→r.length<n →
 ax.l1 k n l (kk:Int) (i:Int) nD [] []=Hn k l nD (r.filter fun s=>!w8 kk s) (mE kk r t):=by
 intro r
 induction r with
 | nil =>
  intro t n i hd hd2 hi hn
  obtain ⟨n,rfl⟩:∃ q,n=q+1:=⟨n-1,by omega⟩
  have hlen:=congrArg List.length hd
  rw [List.length_drop,List.length_nil] at hlen
  simp only [ax.l1,ax.b1]
  rw [aY (by omega),aJ,List.filter_nil,show mE kk [] t=[] from rfl]
  rfl
 | cons s r ih =>
  intro t n i hd hd2 hi hn
  obtain ⟨n,rfl⟩:∃ q,n=q+1:=⟨n-1,by omega⟩
  have hlen:=congrArg List.length hd
  rw [List.length_drop,jj] at hlen
  cases t with
  | nil =>
   have hlen2:=congrArg List.length hd2
   rw [List.length_drop,List.length_nil] at hlen2
   omega
  | cons a t =>
   have hget:List.getD l i (Ty.z aC)=s:=by
    have:=congrArg (fun q=>q.getD 0 (Ty.z aC)) hd
    simpa only [List.getD,List.getElem?_drop,Nat.add_zero,List.getElem?_cons_zero,Option.getD_some] using this
   have hget2:List.getD nD i (Ty.z aG)=a:=by
    have:=congrArg (fun q=>q.getD 0 (Ty.z aG)) hd2
    simpa only [List.getD,List.getElem?_drop,Nat.add_zero,List.getElem?_cons_zero,Option.getD_some] using this
   have hd3:l.drop (i+1)=r:=by
    have:=congrArg (List.drop 1) hd
    rw [List.drop_drop] at this
    exact this
   have hd4:nD.drop (i+1)=t:=by
    have:=congrArg (List.drop 1) hd2
    rw [List.drop_drop] at this
    exact this
   rw [jj] at hn
   have e1:=ih t n (i+1) hd3 hd4 (by omega) (by omega)
   have e2:=Q4 (k:=k) hl ht kk r t n (i+1) [s] [a] hd3 hd4 (by omega) (by omega) (Nat.le_add_left ..) (Nat.le_add_left ..)
   simp only [ax.l1,ax.b1]
   rw [aV (by omega),aa,aN (by omega) (by omega),aN (by omega) (by omega),aN (by omega) (by omega),aN (by omega) (by omega),bf (by rw [List.length_nil];omega) (by decide),aN (by omega) (by omega),bf (by rw [List.length_nil];omega) (by decide),Int.toNat_natCast,hget,hget2,aE (n:=(i:Int)+1) (by omega) (by omega)]
   rw [show ((i:Int)+1)=((i+1:Nat):Int) from rfl,e1,List.nil_append,List.nil_append,e2,List.filter_cons,show mE kk (s::r) (a::t)=bif w8 kk s then mE kk r t else a::mE kk r t from rfl]
   have ek:w8 kk s=(decide (s.1≥1)&&(decide (s.1≤6)&&s.2.1==(kk:Int))):=by
    unfold w8
    rw [show decide ((1:Int)≤s.1∧s.1≤6)=(decide ((1:Int)≤s.1)&&decide (s.1≤6)) from Bool.decide_and ..,Bool.and_assoc]
   rw [ek]
   cases decide (s.1≥1) <;> cases decide (s.1≤6) <;> cases s.2.1==(kk:Int) <;> rfl
end
theorem Cl (kk:Nat):∀ (l:List (Ty.d aC)) (m:Ty.d af),mE kk l (gZ m l).2=GB kk m l
 | [],m=>rfl
 | s::l,m=>by
  show (bif w8 kk s then mE kk l (gZ (iF m s).1 l).2 else (iF m s).2::mE kk l (gZ (iF m s).1 l).2)=_
  rw [Cl kk l (iF m s).1]
  rfl
theorem wF {kk:Nat}:∀ {l:List (Ty.d aC)} {t:List (Ty.d aG)},∀ a ∈ mE kk l t,a ∈ t
 | [],t,a,ha=>by cases t <;> cases ha
 | s::l,[],a,ha=>by cases ha
 | s::l,b::t,a,ha=>by
  have ha:a ∈ (bif w8 kk s then mE kk l t else b::mE kk l t):=ha
  cases c:w8 kk s with
  | true=>rw [c] at ha;exact kR _ (wF a ha)
  | false =>
   rw [c] at ha
   rcases List.mem_cons.1 ha with q | q
   · rw [q];exact ii
   · exact kR _ (wF a q)
theorem FT {l:List (Ty.d aC)} (hl:l.length≤82) (h11:∀ s ∈ l,ND s):(HQ (vg (m8 (ml 100000)),([],([],([],())))) l).2.1=(gZ pb l).2:=by
 have:=(Hu l y7.2 (by omega) h11).1
 show []++(lg (vg (m8 (ml 100000))) l).2=_
 rw [List.nil_append,this]
theorem M9 {k:Nat} (hk:2 ^ 50≤k) {l:List (Ty.d aC)} (hl:l.length≤80) (h11:∀ s ∈ l,ND s) {kk:Nat} (hq:QK kk pb l):Hn k l (gZ pb l).2 (l.filter fun s=>!w8 kk s) (mE kk l (gZ pb l).2)=some (true,()):=by
 have hf:(l.filter fun s=>!w8 kk s).length≤l.length:=List.length_filter_le ..
 have hf11:∀ s ∈ l.filter fun s=>!w8 kk s,ND s:=fun s hs=>h11 s ((List.mem_filter.1 hs).1)
 have hkeys:=xR l (wc l y7.2 (by omega) h11)
 have hlen:=qh l pb
 have hW:=yb l (DF.refl kk pb) hq
 have hWl:(mE kk l (gZ pb l).2).length≤1000:=by
  rw [Cl,← hW,qh]
  omega
 unfold Hn
 rw [show iR.f k (l.filter fun s=>!w8 kk s)=some ((100000,((-1),((l.filter fun s=>!w8 kk s),()))),()) from rfl,aX]
 simp only []
 rw [x_ hk (by omega) hf11,aX]
 simp only []
 rw [FT (by omega) hf11,hW,← Cl,Ht hk hWl (fun a ha=>hkeys a (wF a ha)),aX]
 simp only [aa]
 rw [show iR.f k l=some ((100000,((-1),(l,()))),()) from rfl,aX]
 simp only []
 rw [x_ hk (by omega) h11,aX]
 simp only []
 rw [FT (by omega) h11,Ht hk (by omega) hkeys]
 rfl
theorem Pz {k:Nat} {l:List (Ty.d aC)} {nD:List (Ty.d aG)} {kk:Nat} {h:Bj} (hh:h.length≤1000) (he:(∀ x ∈ h,¬ (x.1=(kk:Int)∧0<x.2.2.2.1.length))→ax.l1 k k l (kk:Int) 0 nD [] []=some (true,())) :
 ∀ (r:Bj) (n i:Nat),h.drop i=r→i≤h.length→r.length<n→(∀ x ∈ h.take i,¬ (x.1=(kk:Int)∧0<x.2.2.2.1.length))→ax.l0 k n l (kk:Int) (i:Int) nD h=some (true,()):=by
 intro r
 induction r with
 | nil =>
  intro n i hd hi hn hx
  obtain ⟨n,rfl⟩:∃ q,n=q+1:=⟨n-1,by omega⟩
  have hlen:=congrArg List.length hd
  rw [List.length_drop,List.length_nil] at hlen
  simp only [ax.l0,ax.b0]
  rw [aY (by omega),aJ]
  refine he fun x q=>hx x ?_
  rw [List.take_of_length_le (by omega)]
  exact q
 | cons x r ih =>
  intro n i hd hi hn hx
  obtain ⟨n,rfl⟩:∃ q,n=q+1:=⟨n-1,by omega⟩
  have hlen:=congrArg List.length hd
  rw [List.length_drop,jj] at hlen
  have hget:List.getD h i (Ty.z cF)=x:=by
   have:=congrArg (fun q=>q.getD 0 (Ty.z cF)) hd
   simpa only [List.getD,List.getElem?_drop,Nat.add_zero,List.getElem?_cons_zero,Option.getD_some] using this
  have hd3:h.drop (i+1)=r:=by
   have:=congrArg (List.drop 1) hd
   rw [List.drop_drop] at this
   exact this
  rw [jj] at hn
  have go:¬ (x.1=(kk:Int)∧0<x.2.2.2.1.length)→ax.l0 k n l (kk:Int) ((i:Int)+1) nD h=some (true,()):=fun nb=>by
   refine ih n (i+1) hd3 (by omega) (by omega) fun y hy=>?_
   rw [nB (Ty.z cF) (by omega),hget] at hy
   rcases List.mem_append.1 hy with q | q
   · exact hx y q
   · rw [List.mem_singleton.1 q];exact nb
  simp only [ax.l0,ax.b0]
  rw [aV (by omega),aa,aN (by omega) (by omega),aN (by omega) (by omega),Int.toNat_natCast,hget,aE (n:=(i:Int)+1) (by omega) (by omega)]
  cases c1:x.1==(kk:Int) with
  | false=>exact go fun q=>absurd q.1 (beq_eq_false_iff_ne.1 c1)
  | true =>
   cases c2:decide ((x.2.2.2.1.length:Int) > 0) with
   | true=>rfl
   | false =>
    have c2:=of_decide_eq_false c2
    exact go fun q=>by omega
theorem Il {k:Nat} (hk:2 ^ 50≤k) {code:List Int} (hc:code.length≤1048576) (hb:∀ x ∈ code,(0:Int)≤x∧x≤255) {l:List (Ty.d aC)} (hl:l.length≤80) (h11:∀ s ∈ l,ND s) :
 oU ((d6.f k l).bind fun r3=>(aH.f k l r3.2.1).bind fun r4=>(nO.f k code 0).bind fun r5=>ax.l0 k k l (Int.tmod r5.1 3) 0 r3.2.1 r4.1) (fun r=>r=(true,())):=by
 have hm:d6.f k l=some ((gZ pb l).1,((gZ pb l).2,())):=(Cy hk (by omega) h11).trans rfl
 have hlen:=qh l pb
 refine sq hm ?_
 refine sq (Fh hk (by omega) hlen) ?_
 refine fi (Qa hc hb (Int.le_refl 0) (by omega)) fun r5 q5=>?_
 obtain ⟨g0,g1⟩:=PF (a:=r5.1) (n:=3) q5.1 (by omega)
 obtain ⟨kk,hkk⟩:∃ kk:Nat,Int.tmod r5.1 3=(kk:Int):=⟨(Int.tmod r5.1 3).toNat,by omega⟩
 rw [hkk]
 have hol:(th BZ l (gZ pb l).2).1.length≤1000:=by
  have key:∀ (l:List (Ty.d aC)) (q:List (Ty.d aG)) (st:tP) (i:Nat),HB i st→(th st l q).1.length≤i+l.length:=by
   intro l
   induction l with
   | nil=>intro q st i h;exact h.ol
   | cons s l ih =>
    intro q st i h
    cases q with
    | nil =>
     have:=h.ol
     show st.1.length≤_
     omega
    | cons a q =>
     have:=ih q (mP st s a) (i+1) (F7 h s a)
     rw [jj]
     show (th (mP st s a) l q).1.length≤_
     omega
  have:=key l (gZ pb l).2 BZ 0 Et
  omega
 have e:=Pz (k:=k) (l:=l) (nD:=(gZ pb l).2) (kk:=kk) hol (fun hr=>by
  rw [show (0:Int)=((0:Nat):Int) from rfl,Ps (by omega) hlen kk l (gZ pb l).2 k 0 rfl rfl (Nat.zero_le _) (by omega)]
  exact M9 hk hl h11 (Hw l Mr BK.new hr)) (th BZ l (gZ pb l).2).1 k 0 rfl (Nat.zero_le _) (by omega) (fun x hx=>by cases hx)
 exact ⟨_,e,rfl⟩
theorem F6 {k:Nat} (hk:2 ^ 50≤k) {code:List Int} (hb:∀ x ∈ code,(0:Int)≤x∧x≤255):ax.f k code=some (true,()):=by
 refine P_ ?_
 unfold ax.f ax.t
 have hbig:qJ.f k code=some (decide ((code.length:Int) > 1048576),()):=rfl
 refine sq hbig ?_
 refine o9 (fun _=>jz rfl) fun hbg=>?_
 have hl:code.length≤1048576:=by have:=of_decide_eq_false hbg;omega
 refine fi (KM hk hl) fun r2 q2=>?_
 obtain ⟨z1,z2⟩:=q2
 refine o9 (fun c=>?_) fun c=>?_
 · have c:=of_decide_eq_true c
   refine NW (by omega) (by omega) ?_
   have ht:(List.take 80 r2.1).length≤80:=by rw [List.length_take];omega
   exact Il hk hl hb ht fun s hs=>z2 s (List.mem_of_mem_take hs)
 · have c:=of_decide_eq_false c
   exact Il hk hl hb (by omega) z2
theorem fnUnheard_pure:∀ x,Wf (tup [.slice (.int .u8)]) x→∃ k r,ax.f k x.1=some r∧oj (B:=[.bool]) (gk ([.val (.slice (.int .u8))])) r=(true,()):=by
 rintro ⟨a0,_⟩ ⟨f0,_⟩
 suffices Ev (fun k=>ax.f k a0) (true,()) by
  obtain ⟨k,h⟩:=this.some
  exact ⟨k,(true,()),h,rfl⟩
 have hb:∀ x ∈ a0,(0:Int)≤x∧x≤255:=fun x hx=>by
  have h1:(Lit.int .u8 x).wf=true:=f0.2 x hx
  have h2:(0:Int)≤x∧x≤(255:Int):=by simpa [Lit.wf,IntKind.min,IntKind.max,IntKind.bits,IntKind.signed] using h1
  exact h2
 exact Og fun k hk=>F6 hk hb
end Go.Proofs.YtbgnhoggngbhhaaGreatDoor.G

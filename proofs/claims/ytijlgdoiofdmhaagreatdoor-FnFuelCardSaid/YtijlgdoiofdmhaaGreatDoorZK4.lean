/- Plain laws, merged; what is proved here is told ahead of each part. -/
import Derived.Test.YtijlgdoiofdmhaaGreatDoorZK3
set_option linter.unusedVariables false
set_option linter.unusedSimpArgs false
namespace Go.Proofs.YtijlgdoiofdmhaaGreatDoor.G
open Go.V
theorem ya {k:Nat} (hk:2 ^ 50≤k) (l:List (Ty.d aZ)) (hl:l.length≤1000000) (x3:List Int) (x4:List (Ty.d a_)) (x5:List (Ty.d uI)) (x6:List (Ty.d ai)) (x7:List (Ty.d ac)) (x8:List (Ty.d na)) (x9:List (Ty.d aW)) (x10:Bool) (x11 x12 x13 x14 x15 x16:Int) (x17:Bool) :
 ∀ (r:List (Ty.d aZ)) (n:Nat) (i:Nat) (R:Ty.d d6),l.drop i=r→i≤l.length→r.length<n→EV Lu R.1→UE R.1→R.2.1.length≤i→R.2.2.1.length≤i →
 jh.l1 k n l (i:Int) x3 x4 x5 x6 x7 x8 x9 x10 x11 x12 x13 x14 x15 x16 x17 R.2.1 R.2.2.1 R.2.2.2.1 R.1.1 R.1.2.1.1.1 R.1.2.1.1.2.1 R.1.2.1.2.1 R.1.2.1.2.2.1 R.1.2.1.2.2.2.1 R.1.2.1.2.2.2.2.1 R.1.2.2.1.1 R.1.2.2.1.2.1 R.1.2.2.1.2.2.1 R.1.2.2.1.2.2.2.1 R.1.2.2.2.1=some (lR R (r.take (300-i)),())
 | r,0,i,R,hd,hi,hn,he,hu,ha,hc=>absurd hn (Nat.not_lt_zero _)
 | [],n+1,i,R,hd,hi,hn,he,hu,ha,hc=>by have hlen:=congrArg List.length hd;rw [List.length_drop,List.length_nil] at hlen;simp only [jh.l1,jh.b1];rw [aN (by omega),aI,List.take_nil];rfl
 | s::r,n+1,i,R,hd,hi,hn,he,hu,ha,hc=>by
  obtain ⟨hget,hd2,hlt⟩:=C_ (Ty.z aZ) hd;have hEw:=Hw he hu;have hst:=FD hk he s;have he2:=Du he s;have hu2:=LA hu s;have hlen:=he.len;have ht:TV (e_ R.1 s.2.1):=qL he.txn (Int.toNat s.2.1);have h2:=ht.2;have ih:=fun (ak:List (Ty.d na)) (hak:ak.length≤i+1)=>ya hk l hl x3 x4 x5 x6 x7 x8 x9 x10 x11 x12 x13 x14 x15 x16 x17 r n (i+1) ((dM R.1 s).1,(R.2.1++[(dM R.1 s).2],(ak,R.2.2.2))) hd2 hlt (by rw [lq] at hn;omega) he2 hu2 (by show (_++[_]).length≤_;rw [bK];omega) hak
  have hak:=Hr (s:=s) (c:=(dM R.1 s).2.1) hc;rw [show ((i+1:Nat):Int)=(i:Int)+1 from rfl] at ih;simp only [jh.l1,jh.b1];rw [aK (by omega),aU];by_cases c300:i<300
  · rw [aK (by omega),aU,aF (by omega) (by omega),Int.toNat_natCast,hget,show 300-i=(300-(i+1))+1 by omega,List.take_succ_cons,aC (n:=(i:Int)+1) (by omega) (by omega)];rw [show ((R.1.1,(((R.1.2.1.1.1,(R.1.2.1.1.2.1,())),(R.1.2.1.2.1,(R.1.2.1.2.2.1,(R.1.2.1.2.2.2.1,(R.1.2.1.2.2.2.2.1,()))))),((R.1.2.2.1.1,(R.1.2.2.1.2.1,(R.1.2.2.1.2.2.1,(R.1.2.2.1.2.2.2.1,())))),(R.1.2.2.2.1,())))):Ty.d af)=R.1 from rfl];cases c5:s.1==5 with
    | false =>
     have hN:pq R.1 s=[]:=by unfold pq bne;rw [c5];rfl
     simp only [aI];have ih:=ih (oa R s (dM R.1 s).2.1) hak;unfold lR;unfold oa at ih ⊢;rw [hN] at ih ⊢;rw [hst];unfold oE;rw [aJ];simp only [];rw [b7 (by omega) (by decide)];cases c0:(dM R.1 s).2.1==0 with
     | true =>
      have c1:((dM R.1 s).2.1==1)=false:=by rw [Aw c0];rfl
      rw [c0] at ih;simp only [aU];rw [c1,aI,aI];exact ih
     | false =>
      rw [c0] at ih;simp only [aI];cases c1:(dM R.1 s).2.1==1 with
      | true=>rfl
      | false=>exact ih
    | true =>
     simp only [aU];cases up:R.1.1 with
     | false =>
      have hN:pq R.1 s=[]:=by unfold pq bne;rw [c5,up];rfl
      simp only [aI];have ih:=ih (oa R s (dM R.1 s).2.1) hak;unfold lR;unfold oa at ih ⊢;rw [hN] at ih ⊢;rw [hst];unfold oE;rw [aJ];simp only [];rw [b7 (by omega) (by decide)];cases c0:(dM R.1 s).2.1==0 with
      | true =>
       have c1:((dM R.1 s).2.1==1)=false:=by rw [Aw c0];rfl
       rw [c0] at ih;simp only [aU];rw [c1,aI,aI];exact ih
      | false =>
       rw [c0] at ih;simp only [aI];cases c1:(dM R.1 s).2.1==1 with
       | true=>rfl
       | false=>exact ih
     | true =>
      simp only [aU];rw [fC,aJ,aC (n:=(R.1.2.2.2.1.length:Int)-1) (by omega) (by omega)];simp only [];cases cb:decide (0≤s.2.1∧s.2.1≤(R.1.2.2.2.1.length:Int)-1) with
      | false =>
       have hN:pq R.1 s=[]:=by unfold pq bne;rw [c5,up,cb];rfl
       simp only [aI];have ih:=ih (oa R s (dM R.1 s).2.1) hak;unfold lR;unfold oa at ih ⊢;rw [hN] at ih ⊢;rw [hst];unfold oE;rw [aJ];simp only [];rw [b7 (by omega) (by decide)];cases c0:(dM R.1 s).2.1==0 with
       | true =>
        have c1:((dM R.1 s).2.1==1)=false:=by rw [Aw c0];rfl
        rw [c0] at ih;simp only [aU];rw [c1,aI,aI];exact ih
       | false =>
        rw [c0] at ih;simp only [aI];cases c1:(dM R.1 s).2.1==1 with
        | true=>rfl
        | false=>exact ih
      | true =>
       have hq:=of_decide_eq_true cb;have i0:LE.le (α:=Int) 0 s.2.1:=hq.1;have i1:LT.lt (α:=Int) s.2.1 (R.1.2.2.2.1.length:Int):=by have q2:LE.le (α:=Int) s.2.1 ((R.1.2.2.2.1.length:Int)-1):=hq.2;omega
       simp only [aU];rw [aF i0 i1,aF i0 i1,show List.getD R.1.2.2.2.1 (Int.toNat s.2.1) (Ty.z ai)=e_ R.1 s.2.1 from rfl];cases ct:(e_ R.1 s.2.1).1 with
       | false =>
        have hN:pq R.1 s=[]:=by unfold pq bne;rw [c5,up,cb,ct];rfl
        simp only [aI];have ih:=ih (oa R s (dM R.1 s).2.1) hak;unfold lR;unfold oa at ih ⊢;rw [hN] at ih ⊢;rw [hst];unfold oE;rw [aJ];simp only [];rw [b7 (by omega) (by decide)];cases c0:(dM R.1 s).2.1==0 with
        | true =>
         have c1:((dM R.1 s).2.1==1)=false:=by rw [Aw c0];rfl
         rw [c0] at ih;simp only [aU];rw [c1,aI,aI];exact ih
        | false =>
         rw [c0] at ih;simp only [aI];cases c1:(dM R.1 s).2.1==1 with
         | true=>rfl
         | false=>exact ih
       | true =>
        have hN:pq R.1 s=n7 (e_ R.1 s.2.1).2.2.1:=by unfold pq bne;rw [c5,up,cb,ct];rfl
        have hnl:=sf (e_ R.1 s.2.1).2.2.1;simp only [aU];have ih:=ih (oa R s (dM R.1 s).2.1) hak;unfold lR;unfold oa at ih ⊢;rw [hN] at ih ⊢;rw [uu hk (by omega),aJ];rw [hst];unfold oE;rw [aJ];simp only [];rw [b7 (by omega) (by decide)];cases c0:(dM R.1 s).2.1==0 with
        | true =>
         have c1:((dM R.1 s).2.1==1)=false:=by rw [Aw c0];rfl
         rw [c0] at ih;cases cl:decide (((n7 (e_ R.1 s.2.1).2.2.1).length:Int) > 0) with
         | true =>rw [cl] at ih;simp only [aU];rw [b7 (by omega) (by decide),c1,aI,aI];exact ih
         | false =>rw [cl] at ih;simp only [aU,aI];rw [c1,aI,aI];exact ih
        | false =>
         rw [c0] at ih;simp only [aI];cases c1:(dM R.1 s).2.1==1 with
         | true=>rfl
         | false=>exact ih
  · rw [aN (by omega),aI,show 300-i=0 by omega,List.take_zero];rfl
theorem Gv {k:Nat} (hk:2 ^ 50≤k) {e:Ty.d af} (he:EV Lu e) (hu:UE e) {l:List (Ty.d aZ)} (hl:l.length≤1000000) :
 jh.f k e l=some (lR (e,([],([],([],())))) (l.take 300),()):=by
 obtain ⟨k',hk'⟩:∃ k',k=k'+1:=⟨k-1,by omega⟩;unfold jh.f jh.t;rw [Fs hk he,aJ];have key:=ya hk l hl [] [] [] [] [] [] [] false 0 0 0 0 0 0 false l (k'+1) 0 (e,([],([],([],())))) rfl (Nat.zero_le _) (by omega) he hu (Nat.le_refl _) (Nat.le_refl _);rw [show jh.l0 k k=jh.l0 k (k'+1) by rw [← hk']];exact key
def Dq:Ty.d d6:=((false,(((0,([],())),([],(0,(0,(0,()))))),(([],(0,(0,(false,())))),([],())))),([],([],([],()))))
noncomputable def jc (q:Ty.d aG × RD) (l:List (Ty.d aZ)):Ty.d d6:=bif q.2.2 != 0 then (kD q,([],([],([],())))) else lR (kD q,([],([],([],())))) (l.take 300)
noncomputable def oe (s:Ty.d kQ):Ty.d d6 :=
 bif !decide (0≤s.1∧s.1≤100000) then Dq else bif !decide (-1≤s.2.1∧s.2.1≤100000) then Dq else jc (eM (jw (oZ s.1) s.2.1)) s.2.2.1
theorem wP {k:Nat} (hk:2 ^ 50≤k) {s:Ty.d kQ} (hl:s.2.2.1.length≤1000000):m3.f k s=some (oe s,()):=by
 unfold m3.f m3.t oe;rw [iq,aJ];simp only [];cases c1:decide (0≤s.1∧s.1≤100000) with
 | false=>rfl
 | true =>
  have c1:=of_decide_eq_true c1;rw [eQ,aI,aI,iq,aJ];simp only [];cases c2:decide (-1≤s.2.1∧s.2.1≤100000) with
  | false=>rfl
  | true =>
   have c2:=of_decide_eq_true c2;have hD:=yP c1.1 c1.2;have hF:=AR hD c2.1 c2.2;rw [eQ,aI,aI,Gn k c1.1 c1.2,aJ];simp only [];rw [show (([],(s.1,(-1,(false,())))):Ty.d aA)=oZ s.1 from rfl,FX hk hD.sz c2.1 c2.2,aJ];simp only [];rw [uH hk hF.sz,aJ];simp only [];unfold jc;cases c3:(eM (jw (oZ s.1) s.2.1)).2.2 != 0 with
   | true=>rfl
   | false =>
    have he:EV Lu (kD (eM (jw (oZ s.1) s.2.1))):=wA hF;have up:(kD (eM (jw (oZ s.1) s.2.1))).1=true:=by
     show ((eM (jw (oZ s.1) s.2.1)).2.2==0)=true;unfold bne at c3;cases z:(eM (jw (oZ s.1) s.2.1)).2.2==0 with
     | true=>rfl
     | false=>rw [z] at c3;cases c3
    simp only [aI];rw [GX hk he AG hl (Lt hk he AG up)];rfl
theorem Cv {k:Nat} (hk:2 ^ 50≤k) {s:Ty.d kQ} (hl:s.2.2.1.length≤1000000):my.f k s=some (oe s,()):=by
 unfold my.f my.t oe;rw [fC,aJ];simp only [];cases c1:decide (0≤s.1∧s.1≤100000) with
 | false=>rfl
 | true =>
  have c1:=of_decide_eq_true c1;rw [eQ,aI,aI,fC,aJ];simp only [];cases c2:decide (-1≤s.2.1∧s.2.1≤100000) with
  | false=>rfl
  | true =>
   have c2:=of_decide_eq_true c2;have hD:=yP c1.1 c1.2;have hF:=AR hD c2.1 c2.2;rw [eQ,aI,aI,Gk k c1.1 c1.2,aJ];simp only [];rw [show (([],(s.1,(-1,(false,())))):Ty.d aA)=oZ s.1 from rfl,Ec hk hD.sz c2.1 c2.2,aJ];simp only [];rw [uX hk hF.sz,aJ];simp only [];unfold jc;cases c3:(eM (jw (oZ s.1) s.2.1)).2.2 != 0 with
   | true=>rfl
   | false =>have he:EV Lu (kD (eM (jw (oZ s.1) s.2.1))):=wA hF;simp only [aI];rw [Gv hk he AG hl];rfl
theorem Kx {k:Nat} (hk:2 ^ 50≤k) {a:Ty.d ac} (ha:a.2.2.1.length≤268435456):gE.f k a a=some (true,()):=by
 unfold gE.f gE.t;rw [bne_self_eq_false,aI,cZ];simp only [eQ,aI,bne_self_eq_false];refine dG (L:=fun n i (_:Unit)=>gE.l0 k n i a.1 a.2.1 a.2.2.1 a.1 a.2.1 a.2.2.1) (R:=fun _ _=>some (true,())) (Ty.z .str) a.2.2.1 (fun _ _=>True) (fun n _ _=>?_) (fun n i _ x rest h0 h1 hx hr hp ih=>?_) (n:=k) (s:=()) (by omega) trivial
 · simp only [gE.l0,gE.b0];rw [aN (by omega),aI]
 · simp only [gE.l0,gE.b0];rw [aK h1,aU,aF h0 h1,aF h0 h1,hx,cZ,aC (n:=i+1) (by omega) (by omega)];exact ih () trivial
theorem Fl {k:Nat} (hk:2 ^ 50≤k) {l:List (Ty.d ac)} (hl:l.length≤1000000) (ha:∀ a ∈ l,a.2.2.1.length≤268435456):d9.f k l l=some (true,()):=by
 unfold d9.f d9.t;rw [bne_self_eq_false,aI];refine dG (L:=fun n i (_:Unit)=>d9.l0 k n l l i) (R:=fun _ _=>some (true,())) (Ty.z ac) l (fun _ _=>True) (fun n _ _=>?_) (fun n i _ x rest h0 h1 hx hr hp ih=>?_) (n:=k) (s:=()) (by omega) trivial
 · simp only [d9.l0,d9.b0];rw [aN (by omega),aI]
 · have hx2:x ∈ l:=List.mem_of_mem_drop (by rw [hr];exact sM);simp only [d9.l0,d9.b0];rw [aK h1,aU,aF h0 h1,aF h0 h1,hx,Kx hk (ha x hx2),aJ];simp only [eQ,aI];rw [aC (n:=i+1) (by omega) (by omega)];exact ih () trivial
theorem JC {e:Ty.d af} (hd:e.2.1.2.1.length≤268435456) (s:Ty.d aZ):(dM e s).2.2.2.1.length≤268435456:=by
 have z:∀ c:Int,(mM c).2.2.1.length≤268435456:=fun c=>Nat.zero_le _
 unfold dM;cases s.1==10 with
 | true=>cases e.1 <;> exact z _
 | false =>
  cases s.1==11 with
  | true =>show (y8 e s).2.2.2.1.length≤_;unfold y8;cases !decide (0≤s.2.2.2.2.1∧s.2.2.2.2.1≤100000-(dS e.2.2.1.1:Int)) <;> exact z _
  | false =>
   cases !e.1 with
   | true=>exact z _
   | false =>
    cases s.1==7 with
    | true=>exact z _
    | false =>
     cases s.1==8 with
     | true =>show (e.2.1.2.1.map (·.1)).length≤_;rw [List.length_map];exact hd
     | false =>
      cases s.1==9 with
      | true=>exact z _
      | false =>
       cases !BH e s with
       | true=>exact z _
       | false =>
        show (q_ e s).2.2.2.1.length≤_;unfold q_;cases s.1==1 with
        | true=>exact z _
        | false =>
         cases s.1==6 with
         | true=>exact z _
         | false =>
          cases s.1==2 with
          | true =>
           show (w7 e s).2.2.2.1.length≤_;unfold w7;cases !iJ s.2.2.1 with
           | true=>exact z _
           | false =>
            rw [aI];cases nn (e_ e s.2.1).2.2.1 s.2.2.1 with
            | some p =>show (bif p.2.1 then (e,mM 8) else (e,(0,(p.2.2.1,([],())))):um).2.2.2.1.length≤_;cases p.2.1 <;> exact Nat.zero_le _
            | none =>
             show (BA e s (e_ e s.2.1) (lU e.2.1.2.1 e.2.2.1 s.2.2.1)).2.2.2.1.length≤_;unfold BA;cases (lU e.2.1.2.1 e.2.2.1 s.2.2.1).2==3 with
             | true=>exact z _
             | false =>rw [aI];cases (lS (e_ e s.2.1) s.2.2.1 (lU e.2.1.2.1 e.2.2.1 s.2.2.1).1.2.2.1).2 != 0 <;> exact Nat.zero_le _
          | false =>
           cases s.1==5 with
           | true =>show (lz e s).2.2.2.1.length≤_;unfold lz;cases !pJ (e_ e s.2.1).2.1 e.2.1.2.1 <;> exact z _
           | false =>
            show (wl e s).2.2.2.1.length≤_;unfold wl;cases !gQ [rM s] with
            | true=>exact z _
            | false =>rw [aI];cases !(jq (e_ e s.2.1) (rM s)).2 <;> exact z _
theorem Bf:∀ (l:List (Ty.d aZ)) {R:Ty.d d6},EV Lu R.1→(∀ a ∈ R.2.1,a.2.2.1.length≤268435456)→EV Lu (lR R l).1∧∀ a ∈ (lR R l).2.1,a.2.2.1.length≤268435456
 | [],R,h,ha=>⟨h,ha⟩
 | s::l,R,h,ha=>by
  have h2:=Du h s;have ha2:∀ a ∈ R.2.1++[(dM R.1 s).2],a.2.2.1.length≤268435456:=fun a hm=>by
   rcases List.mem_append.1 hm with hm | hm
   · exact ha a hm
   · rw [List.mem_singleton.1 hm];exact JC h.dir s
  unfold lR;cases (dM R.1 s).2.1==1 with
  | true=>exact ⟨h2,ha2⟩
  | false=>exact Bf l (R:=((dM R.1 s).1,(R.2.1++[(dM R.1 s).2],(oa R s (dM R.1 s).2.1,R.2.2.2)))) h2 ha2
inductive FC (a b:Ty.d d6):Prop where
 | no (h1:a.2.1=[]) (h2:a.2.2.1=[])
 | same (h1:b.2.1=a.2.1) (h2:b.2.2.1=a.2.2.1) (h3:∀ x ∈ a.2.1,x.1≠1) (h4:a.1.2.2.1.2.2.2.1=false) (h5:a.2.2.1.length≤a.2.1.length)
 | down (p:List (Ty.d ac)) (x:Ty.d ac) (q:List (Ty.d ac)) (y:List (Ty.d na)) (h1:a.2.1=p++[x]) (h2:x.1=1) (h3:b.2.1=p++q) (h4:1≤q.length) (h5:b.2.2.1=a.2.2.1++y) (h6:a.1.2.2.1.2.2.2.1=true)
theorem Km {n f:Int} {l:List (Ty.d aZ)} (h0:0≤n) (h1:n≤100000) (f0:0≤f) (f1:f≤100000):FC (oe (n,(f,(l,())))) (oe (n,(-1,(l,())))):=by
 have ea:oe (n,(f,(l,())))=jc (eM (jw (oZ n) f)) l:=by unfold oe;show (bif !decide (0≤n∧n≤100000) then Dq else bif !decide (-1≤f∧f≤100000) then Dq else jc (eM (jw (oZ n) f)) l)=_;rw [aK ⟨h0,h1⟩,aK (show -1≤f∧f≤100000 from ⟨by omega,f1⟩)];rfl
 have eb:oe (n,(-1,(l,())))=jc (eM (jw (oZ n) (-1))) l:=by unfold oe;show (bif !decide (0≤n∧n≤100000) then Dq else bif !decide (-1≤(-1:Int)∧(-1:Int)≤100000) then Dq else jc (eM (jw (oZ n) (-1))) l)=_;rw [aK ⟨h0,h1⟩,aK (show -1≤(-1:Int)∧(-1:Int)≤100000 from ⟨by omega,by omega⟩)];rfl
 have en:∀ g:Int,jw (oZ n) g=([],(n,(g,(false,())))):=fun g=>by unfold jw;rw [lH.2 (yP h0 h1)];rfl
 have hu:rR (jw (oZ n) f):=by rw [en];exact ⟨rfl,show (-1:Int)≤f by omega,f1⟩
 have ef:jw (oZ n) (-1)=lp (jw (oZ n) f):=by rw [en,en];rfl
 rw [ea,eb,ef];generalize jw (oZ n) f=d at hu ⊢;have ho:=Ht hu;have down:∀ q:Ty.d aG × RD,(q.2.2 != 0)=true→FC (jc q l) (jc (eM (lp d)) l):=fun q c=>by
  refine .no ?_ ?_ <;>
   unfold jc <;> rw [c] <;> rfl
 rcases ho with ⟨a,b,c,e,u⟩ | ⟨a,_⟩
 · cases z:(eM d).2.2 != 0 with
   | true=>exact down _ z
   | false =>
    have eE:kD (eM (lp d))=j_ (kD (eM d)):=by unfold kD j_;rw [a,b,e]
    have eA:jc (eM d) l=lR (kD (eM d),([],([],([],())))) (l.take 300):=by unfold jc;rw [z];rfl
    have eB:jc (eM (lp d)) l=lR (j_ (kD (eM d)),([],([],([],())))) (l.take 300):=by unfold jc;rw [b,z,eE];rfl
    have hr:=Jk (l.take 300) (kD (eM d),([],([],([],())))) u;obtain ⟨x1,y1,x2,y2,x3⟩:=tH (l.take 300) (kD (eM d),([],([],([],()))));rw [eA,eB];generalize lR (kD (eM d),([],([],([],())))) (l.take 300)=A at hr x2 y2 ⊢;have hr:Od (kD (eM d),([],([],([],())))) A (lR (j_ (kD (eM d)),([],([],([],())))) (l.take 300)):=hr;generalize lR (j_ (kD (eM d)),([],([],([],())))) (l.take 300)=B at hr ⊢;rcases hr with ⟨r1,r2,x,r3,r4⟩ | ⟨p,w,q,y,r1,r2,r3,r4,r5,r6⟩
    · refine .same (by rw [r1]) (by rw [r1]) (fun z hz=>?_) r2.up ?_
      · rw [r3] at hz;exact r4 z hz
      · rw [x2,y2];show ([]++y1).length≤([]++x1).length;rw [List.nil_append,List.nil_append];exact x3
    · exact .down p w q y (by rw [r1];rfl) r2 (by rw [r3];rfl) r4 r5 r6
 · refine down _ ?_;rw [a];rfl
theorem EQ (s:Ty.d kQ):(oe s).2.1.length≤300∧(∀ a ∈ (oe s).2.1,a.2.2.1.length≤268435456)∧(oe s).2.2.1.length≤300:=by
 have zz:Dq.2.1.length≤300∧(∀ a ∈ Dq.2.1,a.2.2.1.length≤268435456)∧Dq.2.2.1.length≤300:=⟨Nat.zero_le _,fun a ha=>(by cases ha),Nat.zero_le _⟩;unfold oe;cases c1:decide (0≤s.1∧s.1≤100000) with
 | false=>exact zz
 | true =>
  have c1:=of_decide_eq_true c1;cases c2:decide (-1≤s.2.1∧s.2.1≤100000) with
  | false=>exact zz
  | true =>
   have c2:=of_decide_eq_true c2;have hF:=AR (yP c1.1 c1.2) c2.1 c2.2;have he:EV Lu (kD (eM (jw (oZ s.1) s.2.1))):=wA hF;simp only [eQ,aI];unfold jc;cases (eM (jw (oZ s.1) s.2.1)).2.2 != 0 with
   | true=>exact ⟨Nat.zero_le _,fun a ha=>(by cases ha),Nat.zero_le _⟩
   | false =>
    simp only [aI];have hl:=Kw (s.2.2.1.take 300) (kD (eM (jw (oZ s.1) s.2.1)),([],([],([],()))));have h3:(s.2.2.1.take 300).length≤300:=by rw [List.length_take];omega
    obtain ⟨x1,y1,x2,y2,x3⟩:=tH (s.2.2.1.take 300) (kD (eM (jw (oZ s.1) s.2.1)),([],([],([],()))));obtain ⟨_,hk⟩:=Bf (s.2.2.1.take 300) (R:=(kD (eM (jw (oZ s.1) s.2.1)),([],([],([],()))))) he fun a ha=>by cases ha
    have hl:_≤0+(s.2.2.1.take 300).length:=hl;refine ⟨by omega,hk,?_⟩;rw [y2];have e2:=congrArg List.length x2;show ([]++y1).length≤300;rw [List.nil_append];have e2:_=([]++x1).length:=e2;rw [List.nil_append] at e2;omega
theorem JF {α:Type} (l:List α) (x d:α):(l++[x]).getD l.length d=x:=by rw [List.getD_eq_getElem?_getD,List.getElem?_append_right (Nat.le_refl _),Nat.sub_self];rfl
theorem fnFuel_all {k:Nat} (hk:2 ^ 50≤k) {code:List Int} (hb:∀ x ∈ code,(0:Int)≤x∧x≤255):jI.f k code=some (true,()):=by
 refine NN ?_;unfold jI.f jI.t;have hbig:qz.f k code=some (decide ((code.length:Int) > 1048576),()):=rfl;refine mo hbig ?_;refine ib (fun _=>fB rfl) fun hbg=>?_
 have hl:code.length≤1048576:=by have:=of_decide_eq_false hbg;omega
 refine cY (Gu hk hl) fun r2 q2=>?_
 obtain ⟨⟨c,fu,l,u⟩,u2⟩:=r2;have q2:l.length≤100000:=q2;refine ib (fun _=>fB rfl) fun h1=>ib (fun _=>fB rfl) fun h2=>?_
 have h1:¬ LT.lt (α:=Int) c 100:=of_decide_eq_false h1;have h2:¬ LT.lt (α:=Int) 100000 c:=of_decide_eq_false h2;refine cY (OU hl hb (Int.le_refl _) (by omega)) fun r3 q3=>?_
 obtain ⟨f,u3⟩:=r3;have q3:0≤f∧f≤255:=q3;refine mo (wP hk (s:=(c,(f,(l,())))) (by show l.length≤_;omega)) ?_;refine mo (wP hk (s:=(c,(-1,(l,())))) (by show l.length≤_;omega)) ?_;refine mo (Cv hk (s:=(c,(-1,(l,())))) (by show l.length≤_;omega)) ?_;have hc:=Km (n:=c) (f:=f) (l:=l) (by omega) (by omega) (by omega) (by omega);obtain ⟨a1,a2,a3⟩:=EQ (c,(f,(l,())));obtain ⟨b1,b2,b3⟩:=EQ (c,(-1,(l,())));generalize oe (c,(f,(l,())))=a at hc a1 a2 a3 ⊢;generalize oe (c,(-1,(l,())))=b at hc b1 b2 b3 ⊢;dsimp only;refine nS (bne_self_eq_false _) ?_;cases hc with
 | no e1 e2 =>refine ow (by show ((a.2.1.length:Int)==0)=true;rw [e1];rfl) ?_;refine fB ?_;show (((a.2.2.1.length:Int)==0),())=(true,());rw [e2];rfl
 | same e1 e2 e3 e4 e5 =>
  refine ib (fun z=>?_) fun z=>?_
  · have z:(a.2.1.length:Int)=0:=Aw z;refine fB ?_;show (((a.2.2.1.length:Int)==0),())=(true,());rw [show a.2.2.1.length=0 by omega];rfl
  · have z:(a.2.1.length:Int)≠0:=beq_eq_false_iff_ne.1 z;have hp:0<a.2.1.length:=by omega
    obtain ⟨N,hN⟩:∃ N:Nat,a.2.1.length=N+1:=⟨a.2.1.length-1,by omega⟩;refine nS (aN (by show ¬ ((a.2.1.length:Int) > (b.2.1.length:Int));rw [e1];exact Int.lt_irrefl _)) ?_;refine nS (aN (by show ¬ ((a.2.2.1.length:Int) > (b.2.2.1.length:Int));rw [e2];exact Int.lt_irrefl _)) ?_;have hw:aH ((a.2.1.length:Int)-1)=(N:Int):=by rw [aC (by omega) (by omega)];omega
    show nW (b9 (aH ((a.2.1.length:Int)-1)) (a.2.1.length:Int) _) _;rw [hw,aF (by omega) (by omega),Int.toNat_natCast];have hm:a.2.1.getD N (Ty.z ac) ∈ a.2.1:=fv (by omega);refine nS (n_ (e3 _ hm)) ?_;rw [bv (by omega) (by omega),bv (by omega) (by rw [e1];omega),Int.toNat_natCast,List.take_length,e1,List.take_length];refine mo (Fl hk (by omega) a2) ?_;refine ow rfl ?_;refine nS (aN (by omega)) ?_;refine ow (beq_self_eq_true _) ?_;refine fB ?_;rw [e4,aN (by omega)];rfl
 | down p x q y e1 e2 e3 e4 e5 e6 =>
  have hN:a.2.1.length=p.length+1:=by rw [e1,sF,List.length_singleton]
  have hM:b.2.1.length=p.length+q.length:=by rw [e3,sF]
  have hY:b.2.2.1.length=a.2.2.1.length+y.length:=by rw [e5,sF]
  refine nS (n_ (by show ¬ ((a.2.1.length:Int)=0);omega)) ?_;refine nS (aN (by show ¬ ((a.2.1.length:Int) > (b.2.1.length:Int));omega)) ?_;refine nS (aN (by show ¬ ((a.2.2.1.length:Int) > (b.2.2.1.length:Int));omega)) ?_;have hw:aH ((a.2.1.length:Int)-1)=(p.length:Int):=by rw [aC (by omega) (by omega)];omega
  show nW (b9 (aH ((a.2.1.length:Int)-1)) (a.2.1.length:Int) _) _;rw [hw,aF (by omega) (by omega),Int.toNat_natCast];have hx:a.2.1.getD p.length (Ty.z ac)=x:=by rw [e1];exact JF ..
  rw [hx];refine ow (beq_iff_eq.2 e2) ?_;rw [bv (by omega) (by omega),bv (by omega) (by omega)];have t1:a.2.1.take p.length=p:=by rw [e1];exact List.take_left
  have t2:b.2.1.take p.length=p:=by rw [e3];exact List.take_left
  rw [t1,t2];refine mo (Fl hk (by omega) fun z hz=>a2 z (by rw [e1];exact List.mem_append_left _ hz)) ?_;refine ow rfl ?_;refine ow (aK (by omega)) ?_;refine fB ?_;rw [e6,aK (by omega)];rfl
theorem fnFuel_pure:∀ x,Wf (tup [.slice (.int .u8)]) x→∃ k r,jI.f k x.1=some r∧pg (B:=[.bool]) (iG ([.val (.slice (.int .u8))])) r=(true,()):=by
 rintro ⟨a0,_⟩ ⟨f0,_⟩
 suffices Ev (fun k=>jI.f k a0) (true,()) by obtain ⟨k,h⟩:=this.some;exact ⟨k,(true,()),h,rfl⟩
 have hb:∀ x ∈ a0,(0:Int)≤x∧x≤255:=fun x hx=>by
  have h1:(Lit.int .u8 x).wf=true:=f0.2 x hx;have h2:(0:Int)≤x∧x≤(255:Int):=by simpa [Lit.wf,IntKind.min,IntKind.max,IntKind.bits,IntKind.signed] using h1
  exact h2
 exact N6 fun k hk=>fnFuel_all hk hb
end Go.Proofs.YtijlgdoiofdmhaaGreatDoor.G

/- Plain laws, merged; what is proved here is told ahead of each part. -/
import Derived.Test.YthjppgafienaoabGreatDoorZW1
set_option linter.unusedVariables false
set_option linter.unusedSimpArgs false
namespace Go.Proofs.YthjppgafienaoabGreatDoor.G
open Go.V
def oR (p:Option (Ty.d aB)) (x:Ty.d aB):Bool :=
 lU x.1&&(decide ((1:Int)≤x.2.1∧x.2.1≤100000)&&(!decide (x.2.2.1<(0:Int))&&(decide ((1:Int)≤x.2.2.2.1∧x.2.2.2.1≤210)&&(decide ((1:Int)≤x.2.2.2.2.1∧x.2.2.2.2.1≤1000000)&&(match p with | none=>true | some y=>mw y.1 x.1)))))
def oW (l:aT):Bool:=decide ((l.length:Int)≤20)&&nS oR none l
theorem vf {k:Nat} (hk:2 ^ 50≤k) (l:aT):eh.f k l=some (oW l,()):=by
 unfold eh.f eh.t oW
 by_cases c:l.length > 20
 · rw [aP (by omega),af,aQ (by omega),Bool.false_and]
 · rw [aQ (by omega),aL,aP (by omega),Bool.true_and]
   refine (qX (L:=fun n i=>eh.l0 k n l i) (Ty.z aB) l oR (some (true,())) (some (false,())) (fun n=>?_) (fun n x h hx=>?_) (fun n i x y h0 h1 hx hy=>?_) (n:=k) (by omega)).trans (by cases nS oR none l <;> rfl)
   · simp (disch:=omega) only [eh.l0,eh.b0,aQ,aL]
   · simp (disch:=omega) only [eh.l0,eh.b0,aP (show (0:Int)<(l.length:Int) by omega),af,aI,hx,kH k,dT k,ae,aQ (show ¬ (0:Int) > 0 by omega),aL,aD,oR,lU]
     cases decide (1≤(x.1.size:Int)∧(x.1.size:Int)≤8) <;> cases decide ((1:Int)≤x.2.1∧x.2.1≤100000) <;> cases decide (x.2.2.1<(0:Int)) <;> cases decide ((1:Int)≤x.2.2.2.1∧x.2.2.2.1≤210) <;> cases decide ((1:Int)≤x.2.2.2.2.1∧x.2.2.2.2.1≤1000000) <;> rfl
   · simp (disch:=omega) only [eh.l0,eh.b0,aP h1,af,aI,hx,hy,kH k,dT k,ae,aP (show i > 0 by omega),aL,aD,oR,lU,m4]
     cases decide (1≤(x.1.size:Int)∧(x.1.size:Int)≤8) <;> cases decide ((1:Int)≤x.2.1∧x.2.1≤100000) <;> cases decide (x.2.2.1<(0:Int)) <;> cases decide ((1:Int)≤x.2.2.2.1∧x.2.2.2.1≤210) <;> cases decide ((1:Int)≤x.2.2.2.2.1∧x.2.2.2.2.1≤1000000) <;> cases mw y.1 x.1 <;> rfl
theorem Dz {k:Nat} (hk:2 ^ 50≤k) {l:aT} (hl:l.length≤1099511627776):fe.f k l=some (oW l,()):=by
 unfold fe.f fe.t oW
 refine (qX (L:=fun n i=>fe.l0 k n l l l.length i) (Ty.z aB) l oR (some (decide ((l.length:Int)≤20),())) (some (false,())) (fun n=>?_) (fun n x h hx=>?_) (fun n i x y h0 h1 hx hy=>?_) (n:=k) (by omega)).trans (by cases nS oR none l <;> cases decide ((l.length:Int)≤20) <;> rfl)
 · simp (disch:=omega) only [fe.l0,fe.b0,aQ (show ¬ (l.length:Int)<(l.length:Int) by omega),aL]
 · simp (disch:=omega) only [fe.l0,fe.b0,aP (show (0:Int)<(l.length:Int) by omega),af,aI,hx,pH k,ll k,ae,aQ (show ¬ (0:Int) > 0 by omega),aL,aD,oR,lU]
   cases decide (1≤(x.1.size:Int)∧(x.1.size:Int)≤8) <;> cases decide ((1:Int)≤x.2.1∧x.2.1≤100000) <;> cases decide (x.2.2.1<(0:Int)) <;> cases decide ((1:Int)≤x.2.2.2.1∧x.2.2.2.1≤210) <;> cases decide ((1:Int)≤x.2.2.2.2.1∧x.2.2.2.2.1≤1000000) <;> rfl
 · simp (disch:=omega) only [fe.l0,fe.b0,aP h1,af,aI,hx,hy,pH k,ll k,ae,aP (show i > 0 by omega),aL,aD,oR,lU]
   cases decide (1≤(x.1.size:Int)∧(x.1.size:Int)≤8) <;> cases decide ((1:Int)≤x.2.1∧x.2.1≤100000) <;> cases decide (x.2.2.1<(0:Int)) <;> cases decide ((1:Int)≤x.2.2.2.1∧x.2.2.2.1≤210) <;> cases decide ((1:Int)≤x.2.2.2.2.1∧x.2.2.2.2.1≤1000000) <;> cases mw y.1 x.1 <;> rfl
def w_:aT→ByteArray→Option (Ty.d aB)
 | [],_=>none
 | e::l,s=>bif seq e.1 s then some e else w_ l s
def Jz:Ty.d aB:=(ByteArray.empty,(0,(0,(0,(0,())))))
def Io:Option (Ty.d aB)→Option (Ty.d aB × Bool × Unit)
 | none=>some (Jz,(false,()))
 | some e=>some (e,(true,()))
theorem rO {k:Nat} (hk:2 ^ 50≤k) {l:aT} (hl:l.length≤1099511627776) (s:ByteArray):eU.f k l s=Io (w_ l s):=by
 unfold eU.f eU.t
 refine dp (L:=fun n i (_:Unit)=>eU.l0 k n l s i ByteArray.empty 0 0 0 0) (R:=fun r _=>Io (w_ r s)) (Ty.z aB) l (fun _ _=>True) (fun n _ _=>?_) (fun n i _ x rest h0 h1 hx hr hp ih=>?_) (n:=k) (s:=()) (by omega) trivial
 · simp (disch:=omega) only [eU.l0,eU.b0,aQ,aL,w_]
   rfl
 · have ih:=ih () trivial
   simp (disch:=omega) only [eU.l0,eU.b0,aP h1,af,aI,hx,aD,ih,w_]
   cases seq x.1 s <;> rfl
def Jh:Ty.d aK:=(ByteArray.empty,(ByteArray.empty,(0,())))
noncomputable def fQ (d:Ty.d aA) (e:Ty.d aB):Ty.d bB × Bool:=du (aR d (a_ aF e.2.1)).1 e.2.2.1 e.2.2.2.1
noncomputable def vI (l:aT) (d:Ty.d aA) (key:ByteArray):Ty.d aK × Int :=
 match w_ l key with
 | none=>(Jh,8)
 | some e=>bif (fQ d e).2&&(seq (fQ d e).1.2.2.1 key&&(((fQ d e).1.1==1)||((fQ d e).1.1==4))) then ((key,((fQ d e).1.2.2.2.1,((fQ d e).1.2.1,()))),0) else (Jh,3)
theorem uH (i n:Int):du ⟨#[]⟩ i n=(rr,false):=by
 unfold du
 rw [if_neg]
 rintro ⟨h1,h2,h3,h4⟩
 have:((⟨#[]⟩:ByteArray).size:Int)=0:=rfl
 omega
theorem F_ {d:Ty.d aA} {s:ByteArray} (h:(aR d s).2=false):(aR d s).1=⟨#[]⟩:=by
 unfold aR at h ⊢
 generalize gg d=b at h ⊢
 generalize bm d.1 s=o at h ⊢
 cases b <;> cases o <;> first | rfl | cases h
theorem FN {d:Ty.d aA} {e:Ty.d aB} (h:(fQ d e).2=true):(aR d (a_ aF e.2.1)).2=true:=by
 cases c:(aR d (a_ aF e.2.1)).2 with
 | true=>rfl
 | false =>
  unfold fQ at h
  rw [F_ c,uH] at h
  cases h
theorem wP {k:Nat} (hk:2 ^ 50≤k) {st:Ty.d aE} {d:Ty.d aA} (hd:xd d) (hl:st.2.1.length≤1099511627776) (key:ByteArray):kc.f k st d key=some ((vI st.2.1 d key).1,((vI st.2.1 d key).2,())):=by
 have:=hd.l;have:=hd.u;have:=hd.n
 unfold kc.f kc.t vI
 rw [rO hk hl]
 cases w_ st.2.1 key with
 | none=>rfl
 | some e =>
  unfold Io
  have hz:=fc d (a_ aF e.2.1)
  simp only [ae,fa,aL,bJ hk]
  rw [gG hk (by omega) (by omega) (by omega),ae]
  simp only []
  rw [tE hk _ _ (by omega),ae]
  change (bif !(aR d (a_ aF e.2.1)).2 then _ else bif !(fQ d e).2 then _ else bif !seq (fQ d e).1.2.2.1 key then _ else bif !((fQ d e).1.1==1) then bif !((fQ d e).1.1==4) then _ else some ((key,((fQ d e).1.2.2.2.1,((fQ d e).1.2.1,()))),(0,())) else some ((key,((fQ d e).1.2.2.2.1,((fQ d e).1.2.1,()))),(0,())))=_
  cases c:(fQ d e).2 with
  | false=>cases (aR d (a_ aF e.2.1)).2 <;> rfl
  | true =>
   rw [FN c]
   cases seq (fQ d e).1.2.2.1 key <;> cases ((fQ d e).1.1==1) <;> cases ((fQ d e).1.1==4) <;> rfl
noncomputable def qL (l:aT) (d:Ty.d aA):List ByteArray→i7→i7 × Int
 | [],acc=>(acc,0)
 | key::r,acc=>bif (vI l d key).2 != 0 then ([],(vI l d key).2) else qL l d r (acc++[(vI l d key).1])
noncomputable def gp (l:aT) (d:Ty.d aA):i7 × Int:=qL l d (l.map (·.1)) []
theorem zU (l:aT) (d:Ty.d aA):∀ (r:List ByteArray) (acc:i7),(qL l d r acc).1.length≤acc.length+r.length
 | [],acc=>Nat.le_refl _
 | key::r,acc=>by
  unfold qL
  cases (vI l d key).2 != 0 with
  | true=>exact Nat.zero_le _
  | false =>
   have:=zU l d r (acc++[(vI l d key).1])
   rw [bN] at this
   rw [aL,kU]
   omega
theorem ob (l:aT) (d:Ty.d aA):(gp l d).1.length≤l.length:=by
 have:=zU l d (l.map (·.1)) []
 rw [List.length_map,List.length_nil] at this
 unfold gp
 omega
theorem uu {k:Nat} (hk:2 ^ 50≤k) {st:Ty.d aE} {d:Ty.d aA} (hd:xd d) (hl:st.2.1.length≤1099511627775):gB.f k st d=some ((gp st.2.1 d).1,((gp st.2.1 d).2,())):=by
 unfold gB.f gB.t gp
 refine dp (L:=fun n i s=>gB.l0 k n i st.1.1 st.1.2.1 st.2.1 st.2.2.1 st.2.2.2.1 st.2.2.2.2.1 d.1 d.2.1 d.2.2.1 d.2.2.2.1 s) (R:=fun r s=>some ((qL st.2.1 d (r.map (·.1)) s).1,((qL st.2.1 d (r.map (·.1)) s).2,()))) (Ty.z aB) st.2.1 (fun i s=>(s.length:Int)=i) (fun n s hs=>?_) (fun n i s x rest h0 h1 hx hr hp ih=>?_) (n:=k) (s:=[]) (by omega) rfl
 · simp (disch:=omega) only [gB.l0,gB.b0,aQ,aL,List.map_nil,qL]
 · have hg:=wP hk (st:=st) (d:=d) hd (by omega) x.1
   have ih:=ih (s++[(vI st.2.1 d x.1).1]) (by rw [bN];omega)
   simp (disch:=first | omega | decide) only [gB.l0,gB.b0,aP h1,af,aI,hx,hg,ae,br,aD,ih,List.map_cons,qL]
   cases (vI st.2.1 d x.1).2 != 0 <;> rfl
noncomputable def Bh (d:Ty.d aA) (tail:Int) (x:Int) (last:Bool):Bool :=
 (aR d (a_ aF x)).2&&(decide ((b_ (aR d (a_ aF x)).1).2=((aR d (a_ aF x)).1.size:Int))&&(!last||(tail==((aR d (a_ aF x)).1.size:Int))))
noncomputable def lh (d:Ty.d aA) (tail:Int):List Int→Bool
 | []=>true
 | x::l=>Bh d tail x l.isEmpty&&lh d tail l
noncomputable def mS (d:Ty.d aA) (next:Int) (e:Ty.d aB):Bool :=
 (fQ d e).2&&(seq (fQ d e).1.2.2.1 e.1&&(((fQ d e).1.2.1==e.2.2.2.2.1)&&((((fQ d e).1.1==1)||((fQ d e).1.1==4))&&!decide (e.2.2.2.2.1≥next))))
noncomputable def cS (st:Ty.d aE) (d:Ty.d aA):Bool :=
 gg d&&(cH st.1&&(oW st.2.1&&(decide ((1:Int)≤st.2.2.1∧st.2.2.1≤1000001)&&(lh d st.2.2.2.1 st.1.2.1&&st.2.1.all (mS d st.2.2.1)))))
theorem Cb {α:Type} {l:List α} {i:Int} {x:α} {rest:List α} (h0:0≤i) (h:l.drop i.toNat=x::rest):rest.isEmpty=decide (i+1=(l.length:Int)):=by
 have:=congrArg List.length h
 rw [List.length_drop,kU] at this
 cases rest with
 | nil=>rw [aP (by rw [List.length_nil] at this;omega)];rfl
 | cons y r=>rw [aQ (by rw [kU] at this;omega)];rfl
theorem ma {k:Nat} (hk:2 ^ 50≤k) {st:Ty.d aE} {d:Ty.d aA} (hd:xd d):bS.f k st d=some (cS st d,()):=by
 have:=hd.l;have:=hd.u;have:=hd.n
 unfold bS.f bS.t cS
 rw [ir hk (by omega) (by omega),ae]
 cases gg d with
 | false=>rfl
 | true =>
  rw [fa,aL,nn hk,ae,Bool.true_and]
  cases cl:cH st.1 with
  | false=>rfl
  | true =>
   rw [fa,aL,vf hk,ae,Bool.true_and]
   cases cd:oW st.2.1 with
   | false=>rfl
   | true =>
    rw [fa,aL,dT,ae,Bool.true_and]
    cases decide ((1:Int)≤st.2.2.1∧st.2.2.1≤1000001) with
    | false=>rfl
    | true =>
     rw [fa,aL,Bool.true_and]
     have hl:st.1.2.1.length≤60:=by
      unfold cH at cl
      rw [gX,gX,decide_eq_true_eq,decide_eq_true_eq] at cl
      omega
     have he:st.2.1.length≤20:=by
      unfold oW at cd
      rw [gX,decide_eq_true_eq] at cd
      omega
     have l1:bS.l1 k k 0 st.1.1 st.1.2.1 st.2.1 st.2.2.1 st.2.2.2.1 st.2.2.2.2.1 d.1 d.2.1 d.2.2.1 d.2.2.2.1=some (st.2.1.all (mS d st.2.2.1),()):=by
      refine dp (L:=fun n i (_:Unit)=>bS.l1 k n i st.1.1 st.1.2.1 st.2.1 st.2.2.1 st.2.2.2.1 st.2.2.2.2.1 d.1 d.2.1 d.2.2.1 d.2.2.2.1) (R:=fun r _=>some (r.all (mS d st.2.2.1),())) (Ty.z aB) st.2.1 (fun _ _=>True) (fun n _ _=>?_) (fun n i _ x rest h0 h1 hx hr hp ih=>?_) (n:=k) (s:=()) (by omega) trivial
      · simp (disch:=omega) only [bS.l1,bS.b1,aQ,aL,List.all_nil]
      · have ih:=ih () trivial
        have hz:=fc d (a_ aF x.2.1)
        have ht:=gG hk (d:=d) (by omega) (by omega) (by omega) (a_ aF x.2.1)
        have hr:=tE hk (s:=(aR d (a_ aF x.2.1)).1) x.2.2.1 x.2.2.2.1 (by omega)
        simp (disch:=omega) only [bS.l1,bS.b1,aP h1,af,aI,hx,bJ hk,ae,ht,hr,aD,ih,List.all_cons,mS,fQ,bne]
        cases (du (aR d (a_ aF x.2.1)).1 x.2.2.1 x.2.2.2.1).2 <;> cases seq (du (aR d (a_ aF x.2.1)).1 x.2.2.1 x.2.2.2.1).1.2.2.1 x.1 <;> cases ((du (aR d (a_ aF x.2.1)).1 x.2.2.1 x.2.2.2.1).1.2.1==x.2.2.2.2.1) <;>
         cases ((du (aR d (a_ aF x.2.1)).1 x.2.2.1 x.2.2.2.1).1.1==1) <;> cases ((du (aR d (a_ aF x.2.1)).1 x.2.2.1 x.2.2.2.1).1.1==4) <;> cases decide (x.2.2.2.2.1≥st.2.2.1) <;> rfl
     refine (dp (L:=fun n i (_:Unit)=>bS.l0 k n i st.1.1 st.1.2.1 st.2.1 st.2.2.1 st.2.2.2.1 st.2.2.2.2.1 d.1 d.2.1 d.2.2.1 d.2.2.2.1) (R:=fun r _=>some (lh d st.2.2.2.1 r&&st.2.1.all (mS d st.2.2.1),())) (Ty.z (.int .i64)) st.1.2.1 (fun _ _=>True) (fun n _ _=>?_) (fun n i _ x rest h0 h1 hx hr hp ih=>?_) (n:=k) (s:=()) (by omega) trivial)
     · simp (disch:=omega) only [bS.l0,bS.b0,aQ,aL,lh,l1,Bool.true_and]
     · have ih:=ih () trivial
       have hz:=fc d (a_ aF x)
       have ht:=gG hk (d:=d) (by omega) (by omega) (by omega) (a_ aF x)
       have hs:=mD hk (s:=(aR d (a_ aF x)).1) (by omega)
       have hle:=(jM (aR d (a_ aF x)).1).2.2
       have hlast:=Cb h0 hr
       simp (disch:=omega) only [bS.l0,bS.b0,aP h1,af,aI,hx,bJ hk,ae,ht,hs,aD,ih,lh,Bh,bne,hlast]
       rw [show ((i+1:Int)==(st.1.2.1.length:Int))=decide (i+1=(st.1.2.1.length:Int)) from rfl]
       cases (aR d (a_ aF x)).2 with
       | false=>rfl
       | true =>
        by_cases q:(b_ (aR d (a_ aF x)).1).2=((aR d (a_ aF x)).1.size:Int)
        · rw [aP q,aQ (by omega)]
          cases decide (i+1=(st.1.2.1.length:Int)) <;> cases (st.2.2.2.1==((aR d (a_ aF x)).1.size:Int)) <;> rfl
        · rw [aQ q,aP (by omega)]
          rfl
theorem AB {k:Nat} (hk:2 ^ 50≤k) {st:Ty.d aE} {d:Ty.d aA} (hd:xd d) (hv:st.1.2.1.length≤1099511627776) (hw:st.2.1.length≤1099511627776):cW.f k st d=some (cS st d,()):=by
 have:=hd.l;have:=hd.u;have:=hd.n
 unfold cW.f cW.t cS
 rw [ua hk (by omega) (by omega),ae]
 cases gg d with
 | false=>rfl
 | true =>
  rw [fa,aL,ud hk hv,ae,Bool.true_and]
  cases cl:cH st.1 with
  | false=>rfl
  | true =>
   rw [fa,aL,Dz hk hw,ae,Bool.true_and]
   cases cd:oW st.2.1 with
   | false=>rfl
   | true =>
    rw [fa,aL,ll,ae,Bool.true_and]
    cases decide ((1:Int)≤st.2.2.1∧st.2.2.1≤1000001) with
    | false=>rfl
    | true =>
     rw [fa,aL,Bool.true_and]
     have hl:st.1.2.1.length≤60:=by
      unfold cH at cl
      rw [gX,gX,decide_eq_true_eq,decide_eq_true_eq] at cl
      omega
     have he:st.2.1.length≤20:=by
      unfold oW at cd
      rw [gX,decide_eq_true_eq] at cd
      omega
     have l1:cW.l1 k k st.2.1 st.2.1.length 0 st.1.1 st.1.2.1 st.2.1 st.2.2.1 st.2.2.2.1 st.2.2.2.2.1 d.1 d.2.1 d.2.2.1 d.2.2.2.1=some (st.2.1.all (mS d st.2.2.1),()):=by
      refine dp (L:=fun n i (_:Unit)=>cW.l1 k n st.2.1 st.2.1.length i st.1.1 st.1.2.1 st.2.1 st.2.2.1 st.2.2.2.1 st.2.2.2.2.1 d.1 d.2.1 d.2.2.1 d.2.2.2.1) (R:=fun r _=>some (r.all (mS d st.2.2.1),())) (Ty.z aB) st.2.1 (fun _ _=>True) (fun n _ _=>?_) (fun n i _ x rest h0 h1 hx hr hp ih=>?_) (n:=k) (s:=()) (by omega) trivial
      · simp (disch:=omega) only [cW.l1,cW.b1,aQ,aL,List.all_nil]
      · have ih:=ih () trivial
        have hz:=fc d (a_ aF x.2.1)
        have ht:=pj hk (d:=d) (by omega) (by omega) (by omega) (a_ aF x.2.1)
        have hr:=sj hk (s:=(aR d (a_ aF x.2.1)).1) x.2.2.1 x.2.2.2.1 (by omega)
        simp (disch:=omega) only [cW.l1,cW.b1,aP h1,af,aI,hx,nE k,ae,ht,hr,aD,ih,List.all_cons,mS,fQ,bne]
        cases (du (aR d (a_ aF x.2.1)).1 x.2.2.1 x.2.2.2.1).2 <;> cases seq (du (aR d (a_ aF x.2.1)).1 x.2.2.1 x.2.2.2.1).1.2.2.1 x.1 <;> cases ((du (aR d (a_ aF x.2.1)).1 x.2.2.1 x.2.2.2.1).1.2.1==x.2.2.2.2.1) <;>
         cases ((du (aR d (a_ aF x.2.1)).1 x.2.2.1 x.2.2.2.1).1.1==1) <;> cases ((du (aR d (a_ aF x.2.1)).1 x.2.2.1 x.2.2.2.1).1.1==4) <;> cases decide (x.2.2.2.2.1≥st.2.2.1) <;> rfl
     refine (dp (L:=fun n i (_:Unit)=>cW.l0 k n st.1.2.1 st.1.2.1.length i st.1.1 st.1.2.1 st.2.1 st.2.2.1 st.2.2.2.1 st.2.2.2.2.1 d.1 d.2.1 d.2.2.1 d.2.2.2.1) (R:=fun r _=>some (lh d st.2.2.2.1 r&&st.2.1.all (mS d st.2.2.1),())) (Ty.z (.int .i64)) st.1.2.1 (fun _ _=>True) (fun n _ _=>?_) (fun n i _ x rest h0 h1 hx hr hp ih=>?_) (n:=k) (s:=()) (by omega) trivial)
     · simp (disch:=omega) only [cW.l0,cW.b0,aQ,aL,lh,l1,Bool.true_and]
     · have ih:=ih () trivial
       have hz:=fc d (a_ aF x)
       have ht:=pj hk (d:=d) (by omega) (by omega) (by omega) (a_ aF x)
       have hs:=uf hk (s:=(aR d (a_ aF x)).1) (by omega)
       have hlast:=Cb h0 hr
       simp (disch:=omega) only [cW.l0,cW.b0,aP h1,af,aI,hx,nE k,ae,ht,hs,aD,ih,lh,Bh,bne,hlast]
       rw [show (i==(st.1.2.1.length:Int)-1)=decide (i+1=(st.1.2.1.length:Int)) from (show decide (i=(st.1.2.1.length:Int)-1)=_ from decide_eq_decide.2 (by omega))]
       cases (aR d (a_ aF x)).2 with
       | false=>rfl
       | true =>
        by_cases q:(b_ (aR d (a_ aF x)).1).2=((aR d (a_ aF x)).1.size:Int)
        · rw [aP q,show ((b_ (aR d (a_ aF x)).1).2==((aR d (a_ aF x)).1.size:Int))=true from beq_iff_eq.2 q,q]
          cases decide (i+1=(st.1.2.1.length:Int)) <;> cases (st.2.2.2.1==((aR d (a_ aF x)).1.size:Int)) <;> rfl
        · rw [aQ q,show ((b_ (aR d (a_ aF x)).1).2==((aR d (a_ aF x)).1.size:Int))=false from mP q]
          rfl
theorem xk (s:ByteArray):ByteArray.extract s s.size s.size=⟨#[]⟩:=jW (by rw [gf,List.drop_eq_nil_of_le (by rw [cO];omega)];rfl)
theorem Gg (s:ByteArray):∀ (d d':Nat) (i:Int),0≤i→i≤s.size→(s.size:Int)-i<d→(fY s d i).2-i<d'→fY (ByteArray.extract s 0 (fY s d i).2.toNat) d' i=fY s d i:=by
 intro d
 induction d with
 | zero=>intro d' i h0 h1 h2;omega
 | succ d ih =>
  intro d' i h0 h1 h2 h3
  have hu:=lm (ByteArray.extract s i.toNat s.size)
  have hz:=oO s i.toNat
  have stop:∀ d':Nat,0<d'→fY (ByteArray.extract s 0 i.toNat) d' i=([],i):=fun d' hd=>by
   obtain ⟨n,rfl⟩:∃ q,d'=q+1:=⟨d'-1,by omega⟩
   have hs:(ByteArray.extract s 0 i.toNat).size=i.toNat:=qu s (by omega)
   have e:ByteArray.extract (ByteArray.extract s 0 i.toNat) i.toNat (ByteArray.extract s 0 i.toNat).size=⟨#[]⟩:=by
    have:=xk (ByteArray.extract s 0 i.toNat)
    rw [hs] at this ⊢
    exact this
   rw [fY,e,vY,if_pos rfl]
  by_cases c1:(fv (ByteArray.extract s i.toNat s.size)).2=0
  · have e:fY s (d+1) i=([],i):=by rw [fY,if_pos c1]
    rw [e] at h3 ⊢
    exact stop d' (by simp only [] at h3;omega)
  · cases c2:(gM (fv (ByteArray.extract s i.toNat s.size)).1).2 with
    | false =>
     have e:fY s (d+1) i=([],i):=by rw [fY,if_neg c1,if_pos c2]
     rw [e] at h3 ⊢
     exact stop d' (by simp only [] at h3;omega)
    | true =>
     have e:fY s (d+1) i=(((i,((fv (ByteArray.extract s i.toNat s.size)).2,((gM (fv (ByteArray.extract s i.toNat s.size)).1).1,()))):Ty.d cA)::(fY s d (i+(fv (ByteArray.extract s i.toNat s.size)).2)).1,(fY s d (i+(fv (ByteArray.extract s i.toNat s.size)).2)).2):=by
      rw [fY,if_neg c1,if_neg (by rw [c2];decide)]
     rw [e] at h3 ⊢
     simp only [] at h3 ⊢
     have hl:=tq s d (i+(fv (ByteArray.extract s i.toNat s.size)).2) (by omega) (by omega)
     obtain ⟨n,rfl⟩:∃ q,d'=q+1:=⟨d'-1,by omega⟩
     have ih:=ih n (i+(fv (ByteArray.extract s i.toNat s.size)).2) (by omega) (by omega) (by omega) (by omega)
     have key:fv (ByteArray.extract (ByteArray.extract s 0 (fY s d (i+(fv (ByteArray.extract s i.toNat s.size)).2)).2.toNat) i.toNat (ByteArray.extract s 0 (fY s d (i+(fv (ByteArray.extract s i.toNat s.size)).2)).2.toNat).size)=fv (ByteArray.extract s i.toNat s.size):=by
      generalize (fY s d (i+(fv (ByteArray.extract s i.toNat s.size)).2)).2=x at hl ⊢
      rcases mm (ByteArray.extract s i.toNat s.size) with ⟨t,r,ht,e1,e2⟩ | ⟨e2,_⟩
      · rw [e2] at hl ⊢
        simp only [] at hl
        have e3:ByteArray.extract (ByteArray.extract s 0 x.toNat) i.toNat (ByteArray.extract s 0 x.toNat).size=aS t++ByteArray.extract r 0 (x.toNat-i.toNat-(aS t).size):=by
         apply jW
         have hnb:=congrArg nb e1
         rw [gf,gk] at hnb
         rw [gf,jw,gk,jw,List.drop_take,hnb,List.take_append,cO,List.take_of_length_le (by rw [cO];omega)]
        rw [e3,mo _ ht]
      · exact absurd (by rw [e2]) c1
     rw [fY,key,if_neg c1,if_neg (by rw [c2];decide),ih]
theorem yh (s:ByteArray):b_ (ByteArray.extract s 0 (b_ s).2.toNat)=b_ s:=by
 have hl:=jM s
 have:=Gg s (s.size+1) ((b_ s).2.toNat+1) 0 (by omega) (by omega) (by omega) (by show (b_ s).2-0<_;omega)
 have hz:=qu s (n:=(b_ s).2.toNat) (by omega)
 unfold b_ at hz ⊢
 rw [hz]
 exact this
theorem qx {h:Ty.d dJ→Ty.d dJ} (hh:∀ f,(h f).1=f.1):∀ (l:bu) (s t:ByteArray),bm (lZ h l s) t=bif seq t s then (bm l s).map h else bm l t
 | [],s,t=>by cases seq t s <;> rfl
 | g::l,s,t=>by
  unfold lZ
  cases c:seq g.1 s with
  | true =>
   have e:=dy.1 c
   rw [af,bm.eq_2,hh,bm.eq_2,c,af]
   by_cases q:t=s
   · rw [e,q,bT];rfl
   · rw [kZ q,aL,bm.eq_2]
     rw [e,kZ (fun w=>q w.symm)]
     rfl
  | false =>
   rw [aL,bm.eq_2,bm.eq_2,c,aL,qx hh l s t,bm.eq_2]
   by_cases q:t=s
   · rw [q,bT,c];rfl
   · rw [kZ q];rfl
theorem oX {d:Ty.d aA} {g:bu→Int→bu × Int} (h:(j4 d g).2=0):(g d.1 d.2.1).2=0∧(j4 d g).1.1=(g d.1 d.2.1).1:=by
 unfold j4 at h ⊢
 cases c:(jZ d).2 != 0 with
 | true =>
  rw [c,af] at h
  rw [h] at c
  cases c
 | false=>rw [c] at h;exact ⟨h,rfl⟩
theorem kv {d:Ty.d aA} (h:DR d) (s:ByteArray):aR d s=match bm d.1 s with | none=>(⟨#[]⟩,false) | some f=>(f.2.1,true):=by
 unfold aR
 rw [j9.2 h]
 rfl
theorem po {d:Ty.d aA} (h:DR d) {n:ByteArray} (c:(g8 d n).2=0) (s:ByteArray):aR (g8 d n).1 s=aR d s:=by
 obtain ⟨c1,c2⟩:=oX c
 rw [kv (m6 h n),kv h]
 unfold g8
 rw [c2]
 unfold uz at c1 ⊢
 cases hg:(bm d.1 n).isNone with
 | true=>rfl
 | false =>
  rw [aL]
  show (match bm (lZ _ d.1 n) s with | none=>_ | some f=>_)=_
  rw [qx (by intro f;rfl)]
  by_cases q:s=n
  · rw [q,bT,af]
    cases bm d.1 n <;> rfl
  · rw [kZ q,aL]
theorem vw {d:Ty.d aA} (h:DR d) {n:ByteArray} {m:Int} (c:(xw d n m).2=0) (s:ByteArray):aR (xw d n m).1 s=bif seq s n then (ByteArray.extract (aR d n).1 0 m.toNat,true) else aR d s:=by
 obtain ⟨c1,c2⟩:=oX c
 rw [kv (wR h n m),kv h,kv h]
 unfold xw
 rw [c2]
 unfold GY at c1 ⊢
 cases hg:bm d.1 n with
 | none=>rw [hg] at c1;cases c1
 | some f =>
  rw [hg] at c1
  simp only [] at c1 ⊢
  cases hm:decide (0≤m∧m≤(f.2.1.size:Int)) with
  | false=>rw [hm] at c1;cases c1
  | true =>
   simp only [fa,aL]
   rw [qx (by intro f;rfl)]
   by_cases q:s=n
   · rw [q,bT,af,hg];rfl
   · rw [kZ q,aL,aL]
theorem jL {r:RD} {f:Ty.d aA→RD} (h:(gV r f).2=0):r.2=0∧gV r f=f r.1∧(f r.1).2=0:=by
 unfold gV at h ⊢
 cases c:r.2==0 with
 | true=>rw [c] at h;exact ⟨IB c,rfl,h⟩
 | false =>
  rw [c] at h
  rw [aL] at h
  rw [h] at c
  cases c
noncomputable def dt (d:Ty.d aA) (x:Int):ByteArray:=(aR d (a_ aF x)).1
def ac (ids:List Int):Int:=ids.getD (ids.length-1) 0
noncomputable def fU (x:Int) (d:Ty.d aA):RD :=
 gV (bif decide ((b_ (dt d x)).2<((dt d x).size:Int)) then xw d (a_ aF x) (b_ (dt d x)).2 else (d,0)) fun y=>g8 y (a_ aF x)
theorem He (x:Int) {d:Ty.d aA} (h:DR d):DR (fU x d).1:=by
 unfold fU
 refine j8 ?_ fun y hy=>m6 hy _
 cases decide ((b_ (dt d x)).2<((dt d x).size:Int))
 · exact h
 · exact wR h _ _
theorem Gj {d:Ty.d aA} (h:DR d) {x:Int} (c:(fU x d).2=0) (s:ByteArray):(aR (fU x d).1 s).2=(aR d s).2∧b_ (aR (fU x d).1 s).1=b_ (aR d s).1:=by
 obtain ⟨c1,c2,c3⟩:=jL c
 have e:fU x d=_:=c2
 rw [e]
 by_cases hb:(b_ (dt d x)).2<((dt d x).size:Int)
 · simp only [aP hb,af] at c1 c3 ⊢
   rw [po (wR h _ _) c3,vw h c1]
   by_cases q:s=a_ aF x
   · rw [q,bT,af]
     refine ⟨?_,yh (dt d x)⟩
     cases hq:(aR d (a_ aF x)).2 with
     | true=>rfl
     | false =>
      exfalso
      unfold dt at hb
      have hl:=jM (aR d (a_ aF x)).1
      rw [F_ hq] at hb hl
      rw [e0] at hb
      omega
   · rw [kZ q];exact ⟨rfl,rfl⟩
 · simp only [aQ hb,aL] at c1 c3 ⊢
   rw [po h c3]
   exact ⟨rfl,rfl⟩
theorem Ey {pre rest:ByteArray} {r:Ty.d bB} (h:bv r=true) (d:Nat) :
 fY (pre++(aS (aG r)++rest)) (d+1) (pre.size:Int)=(((pre.size:Int),(((aS (aG r)).size:Int),(r,())))::(fY (pre++(aS (aG r)++rest)) d ((pre.size+(aS (aG r)).size:Nat):Int)).1,(fY (pre++(aS (aG r)++rest)) d ((pre.size+(aS (aG r)).size:Nat):Int)).2):=by
 have hz:=ja r
 have hp:=jt (s:=aG r) (by omega)
 rw [fY,nr,dw,mo rest (by omega)]
 simp only []
 rw [tK h,if_neg (by omega)]
 simp only []
 rw [if_neg (show ¬ ((true:Bool)=false) by decide)]
 rfl
theorem uW:∀ (rs:jH) (pre:ByteArray) (d:Nat),(∀ r ∈ rs,bv r=true)→(ab rs).size<d→(fY (pre++ab rs) d (pre.size:Int)).1.map (·.2.2.1)=rs∧(fY (pre++ab rs) d (pre.size:Int)).2=((pre++ab rs).size:Int)
 | [],pre,d,_,hd=>by
  obtain ⟨d,rfl⟩:∃ q,d=q+1:=⟨d-1,by omega⟩
  have:fv (ByteArray.extract (pre++ab []) (Int.toNat (pre.size:Int)) (pre++ab []).size)=(⟨#[]⟩,0):=by
   rw [nr,dw,ab,vY]
  rw [fY,this,if_pos rfl,ab,aO,e0]
  exact ⟨rfl,rfl⟩
 | r::rs,pre,d,h,hd=>by
  rw [ab,aO] at hd
  have hz:=ja r
  have hp:=jt (s:=aG r) (by omega)
  obtain ⟨d,rfl⟩:∃ q,d=q+1:=⟨d-1,by omega⟩
  have ih:=uW rs (pre++aS (aG r)) d (fun x hx=>h x (lV _ hx)) (by omega)
  rw [am,aO pre] at ih
  rw [ab,Ey (h r (jo ..))]
  simp only [List.map_cons]
  exact ⟨by rw [ih.1],ih.2⟩
theorem om {rs:jH} (h:∀ r ∈ rs,bv r=true):(b_ (ab rs)).1.map (·.2.2.1)=rs∧(b_ (ab rs)).2=((ab rs).size:Int):=by
 have:=uW rs ⟨#[]⟩ ((ab rs).size+1) h (by omega)
 rw [ng,e0] at this
 exact this
abbrev kw:=List (Ty.d ch)
def o_ (x:Ty.d ch):Bool:=lU x.1&&(decide ((x.2.2.1.size:Int)≤24)&&(!x.2.1||seq x.2.2.1 ⟨#[]⟩))
def kE (l:kw):Bool:=nS (fun _=>o_) none l&&decide (l.length≤8)
theorem nt {k:Nat} (hk:2 ^ 50≤k) (l:kw):cF.f k l=some (kE l,()):=by
 unfold cF.f cF.t kE
 by_cases c:l.length > 8
 · rw [aP (by omega),af,aQ (by omega),Bool.and_false]
 · rw [aQ (by omega),aL,aP (by omega),Bool.and_true]
   have st:∀ (n:Nat) (i:Int) x,0≤i→i<l.length→l.getD i.toNat (Ty.z ch)=x→cF.l0 k (n+1) l i=bif o_ x then cF.l0 k n l (i+1) else some (false,()):=fun n i x h0 h1 hx=>by
    simp (disch:=omega) only [cF.l0,cF.b0,aP h1,af,aI,hx,kH k,ae,aD,o_,lU]
    by_cases c2:(x.2.2.1.size:Int) > 24
    · rw [aP c2,aQ (show ¬ (x.2.2.1.size:Int)≤24 by omega)]
      cases decide (1≤(x.1.size:Int)∧(x.1.size:Int)≤8) <;> rfl
    · rw [aQ c2,aP (show (x.2.2.1.size:Int)≤24 by omega)]
      cases decide (1≤(x.1.size:Int)∧(x.1.size:Int)≤8) <;> cases x.2.1 <;> cases seq x.2.2.1 ⟨#[]⟩ <;> rfl
   exact (qX (L:=fun n i=>cF.l0 k n l i) (Ty.z ch) l (fun _=>o_) (some (true,())) (some (false,())) (fun n=>by simp (disch:=omega) only [cF.l0,cF.b0,aQ,aL])
    (fun n x h hx=>st n 0 x (by omega) (by omega) hx) (fun n i x y h0 h1 hx hy=>st n i x (by omega) h1 hx) (n:=k) (by omega)).trans (by cases nS (fun _=>o_) none l <;> rfl)
theorem ms {l:kw} (h:kE l=true):l.length≤8:=by
 unfold kE at h
 rw [gX,decide_eq_true_eq] at h
 exact h.2
theorem rt {l:kw} (h:kE l=true) {x:Ty.d ch} (hx:x ∈ l):o_ x=true:=by
 unfold kE at h
 rw [gX] at h
 exact (Ae h.1 hx).elim fun _ q=>q
def fh (b:Int) (p:Ty.d ch):Ty.d bB:=bif p.2.1 then (2,(b,(p.1,(ByteArray.empty,(0,(0,())))))) else (1,(b,(p.1,(p.2.2.1,(0,(0,()))))))
def il (l:kw) (b:Int):jH:=l.map (fh b)++[fM 3 b (l.map (fh b))]
def b8 (r:Ty.d bB):Int:=((aS (aG r)).size:Int)
theorem mr (r:Ty.d bB):0≤b8 r∧b8 r≤211:=by
 have:=lC (aG r)
 unfold b8
 omega
theorem G6 {x:Ty.d ch} (b:Int) (h:o_ x=true):fh b x=bif x.2.1 then (2,(b,(x.1,(x.2.2.1,(0,(0,())))))) else (1,(b,(x.1,(x.2.2.1,(0,(0,())))))):=by
 unfold fh
 unfold o_ at h
 rw [gX,gX] at h
 cases c:x.2.1 with
 | false=>rfl
 | true =>
  rw [c] at h
  have:x.2.2.1=⟨#[]⟩:=dy.1 h.2.2
  rw [this]
  rfl
def iF (l:aT) (key:ByteArray):aT:=l.filter fun x=>!(seq x.1 key)
def IG (key:ByteArray) (x:Ty.d aB):Bool:=mw x.1 key||seq x.1 key
def qK (l:aT) (e:Ty.d aB):aT:=l.takeWhile (IG e.1)++e::l.dropWhile (IG e.1)
def qJ (l:aT) (e:Ty.d aB):aT:=qK (iF l e.1) e
theorem oP (l:aT) (key:ByteArray):(iF l key).length≤l.length:=List.length_filter_le ..
theorem B_ (l:aT) (e:Ty.d aB):(qK l e).length=l.length+1:=by
 unfold qK
 rw [uo,kU]
 have:=congrArg List.length (List.takeWhile_append_dropWhile (p:=IG e.1) (l:=l))
 rw [uo] at this
 omega
theorem HU (l:aT) (e:Ty.d aB):(qJ l e).length≤l.length+1:=by
 unfold qJ
 have:=oP l e.1
 rw [B_]
 omega
theorem rR {k:Nat} (hk:2 ^ 50≤k) {l:aT} (e:Ty.d aB) (hl:l.length≤1073741823):c8.f k l e=some (qJ l e,()):=by
 unfold c8.f c8.t
 refine (dp (L:=fun n i (s:Bool × aT)=>c8.l0 k n l s.1 i e.1 e.2.1 e.2.2.1 e.2.2.2.1 e.2.2.2.2.1 s.2) (R:=fun r s=>some (s.2++bif s.1 then iF r e.1 else qK (iF r e.1) e,())) (Ty.z aB) l (fun i s=>(s.2.length:Int)≤2*i+1) (fun n s hs=>?_) (fun n i s x rest h0 h1 hx hr hp ih=>?_) (n:=k) (s:=(false,[])) (by omega) (by simp)).trans (by rw [List.nil_append];rfl)
 · obtain ⟨dn,out⟩:=s
   simp only [] at hs
   cases dn with
   | true=>simp (disch:=first | omega | decide) only [c8.l0,c8.b0,aQ,aL,af,fa,iF,List.filter_nil,List.append_nil]
   | false=>simp (disch:=first | omega | decide) only [c8.l0,c8.b0,aQ,aL,af,ul,br,iF,List.filter_nil,qK,List.takeWhile_nil,List.dropWhile_nil,List.nil_append]
 · obtain ⟨dn,out⟩:=s
   simp only [] at hp
   cases c:seq x.1 e.1 with
   | true =>
    simp (disch:=omega) only [c8.l0,c8.b0,aP,af,aI,hx,c,aD]
    refine (ih (dn,out) (by simp only [];omega)).trans ?_
    simp only [iF,List.filter_cons,c,fa,Bool.false_eq_true,if_false]
   | false =>
    have ef:iF (x::rest) e.1=x::iF rest e.1:=by simp only [iF,List.filter_cons,c,ul,if_true]
    cases dn with
    | true =>
     simp (disch:=first | omega | decide) only [c8.l0,c8.b0,aP,af,aL,aI,hx,c,aD,fa,br]
     refine (ih (true,out++[x]) (by simp only [bN];omega)).trans ?_
     rw [ef]
     simp only [af,nQ,List.cons_append,List.nil_append]
    | false =>
     cases c2:mw x.1 e.1 with
     | true =>
      simp (disch:=first | omega | decide) only [c8.l0,c8.b0,aP,af,aL,aI,hx,c,c2,aD,ul,fa,Bool.true_or,br]
      refine (ih (false,out++[x]) (by simp only [bN];omega)).trans ?_
      rw [ef]
      simp only [aL,qK,IG,List.takeWhile_cons,List.dropWhile_cons,c2,Bool.true_or,if_true,nQ,List.cons_append,List.nil_append]
     | false =>
      have hx2:(out++[(e.1,(e.2.1,(e.2.2.1,(e.2.2.2.1,(e.2.2.2.2.1,())))))]:aT).length+1≤1099511627776:=by rw [bN];omega
      simp (disch:=first | omega | decide) only [c8.l0,c8.b0,aP,af,aL,aI,hx,c,c2,aD,ul,Bool.or_false,br]
      refine (ih (true,(out++[e])++[x]) (by simp only [bN];omega)).trans ?_
      rw [ef]
      simp only [af,aL,qK,IG,List.takeWhile_cons,List.dropWhile_cons,c,c2,Bool.or_false,Bool.false_eq_true,if_false,nQ,List.cons_append,List.nil_append]
abbrev aY:=List (Ty.d aC)
def eN (b:Int) (acc:aY) (p:Ty.d aC):aY :=
 bif p.2.2.2.1.2.1==b then (bif p.2.2.2.1.1==3 then [] else bif p.2.2.2.1.1==1||p.2.2.2.1.1==2 then acc++[p] else acc) else acc
def fF (acc:aY) (p:Ty.d aC):aY:=bif p.2.2.2.1.1==5 then [] else bif p.2.2.2.1.1==4 then acc++[p] else acc
def eO (b:Int) (l:aY):aY:=l.foldl (eN b) []
def bP (l:aY):aY:=l.foldl fF []
theorem ox (b:Int) (acc:aY) (p:Ty.d aC):(eN b acc p).length≤acc.length+1:=by
 unfold eN
 cases p.2.2.2.1.2.1==b <;> cases p.2.2.2.1.1==3 <;> cases p.2.2.2.1.1==1 <;> cases p.2.2.2.1.1==2 <;> simp
theorem oy (acc:aY) (p:Ty.d aC):(fF acc p).length≤acc.length+1:=by
 unfold fF
 cases p.2.2.2.1.1==5 <;> cases p.2.2.2.1.1==4 <;> simp
theorem uD {f:aY→Ty.d aC→aY} (h:∀ a p,(f a p).length≤a.length+1):∀ (l acc:aY),(l.foldl f acc).length≤acc.length+l.length
 | [],acc=>by simp
 | p::l,acc=>by
  have:=uD h l (f acc p)
  have:=h acc p
  rw [List.foldl_cons,kU]
  omega
theorem qQ (b:Int) (l:aY):(eO b l).length≤l.length:=by
 have:=uD (ox b) l []
 simpa [eO] using this
theorem qV (l:aY):(bP l).length≤l.length:=by
 have:=uD oy l []
 simpa [bP] using this
theorem FZ {k:Nat} (hk:2 ^ 50≤k) {l:aY} {e:Int} (b:Int) (h0:0≤e) (he:e≤l.length) (hl:l.length≤1099511627775):iJ.f k l e b=some (eO b (l.take e.toNat),()):=by
 unfold iJ.f iJ.t
 have hlen:(l.take e.toNat).length=e.toNat:=by rw [List.length_take];omega
 have he':e=((l.take e.toNat).length:Int):=by omega
 conv=>lhs;rw [he']
 refine dp (L:=fun n i s=>iJ.l0 k n l ((l.take e.toNat).length:Int) b i s) (R:=fun r s=>some (r.foldl (eN b) s,())) (Ty.z aC) (l.take e.toNat) (fun i s=>(s.length:Int)≤i) (fun n s hs=>?_) (fun n i s x rest h0 h1 hx hr hp ih=>?_) (n:=k) (s:=[]) (by omega) (by decide)
 · simp (disch:=omega) only [iJ.l0,iJ.b0,aQ,aL,List.foldl_nil]
 · rw [mq (by omega)] at hx
   have ih:=fun s' (h:s'.length≤s.length+1)=>ih s' (by omega)
   simp (disch:=omega) only [iJ.l0,iJ.b0,aP h1,af,aI,hx,aD]
   rw [List.foldl_cons]
   have hs1:=ox b s x
   have ih1:=ih _ hs1
   rw [← ih1]
   unfold eN
   have r1:∀ {R:Type} (q:Option R),rm (Ty.bytes aC) (s.length+1) q=q:=fun q=>br (by omega) (by decide)
   have r2:∀ {R:Type} (q:Option R),rm (Ty.bytes aC) (0+1) q=q:=fun q=>br (by omega) (by decide)
   simp only [r1,r2]
   cases c1:(x.2.2.2.1.2.1==b) <;> cases c2:(x.2.2.2.1.1==3) <;> cases c3:(x.2.2.2.1.1==1) <;> cases c4:(x.2.2.2.1.1==2) <;> first | rfl | skip
   all_goals (exfalso;have e2:=eq_of_beq c2;first | (rw [e2] at c3;revert c3;decide) | (rw [e2] at c4;revert c4;decide))
theorem AF {k:Nat} (hk:2 ^ 50≤k) {l:aY} {r:Ty.d bB} (hr:r.1=3) (hl:l.length≤1099511627775):cr.f k l r=some (eO r.2.1 l,()):=by
 unfold cr.f cr.t
 rw [hr]
 refine dp (L:=fun n i s=>cr.l0 k n l l.length i 3 r.2.1 r.2.2.1 r.2.2.2.1 r.2.2.2.2.1 r.2.2.2.2.2.1 s) (R:=fun q s=>some (q.foldl (eN r.2.1) s,())) (Ty.z aC) l (fun i s=>(s.length:Int)≤i) (fun n s hs=>?_) (fun n i s x rest h0 h1 hx hr hp ih=>?_) (n:=k) (s:=[]) (by omega) (by decide)
 · simp (disch:=omega) only [cr.l0,cr.b0,aQ,aL,List.foldl_nil]
 · simp (disch:=omega) only [cr.l0,cr.b0,aP h1,af,aL,aI,hx,aD,show ((3:Int)==3)=true from rfl,show ((3:Int)==5)=false from rfl]
   rw [List.foldl_cons]
   have hs1:=ox r.2.1 s x
   have ih1:=ih (eN r.2.1 s x) (by omega)
   rw [← ih1]
   unfold eN bne
   have r1:∀ {R:Type} (q:Option R),rm (Ty.bytes aC) (s.length+1) q=q:=fun q=>br (by omega) (by decide)
   simp only [r1]
   cases c1:(x.2.2.2.1.2.1==r.2.1) <;> cases c2:(x.2.2.2.1.1==3) <;> cases c3:(x.2.2.2.1.1==1) <;> cases c4:(x.2.2.2.1.1==2) <;> rfl
theorem sK {k:Nat} (hk:2 ^ 50≤k) {l:aY} {r:Ty.d bB} (hr:r.1=5) (hl:l.length≤1099511627775):cr.f k l r=some (bP l,()):=by
 unfold cr.f cr.t
 rw [hr]
 refine dp (L:=fun n i s=>cr.l0 k n l l.length i 5 r.2.1 r.2.2.1 r.2.2.2.1 r.2.2.2.2.1 r.2.2.2.2.2.1 s) (R:=fun q s=>some (q.foldl fF s,())) (Ty.z aC) l (fun i s=>(s.length:Int)≤i) (fun n s hs=>?_) (fun n i s x rest h0 h1 hx hr hp ih=>?_) (n:=k) (s:=[]) (by omega) (by decide)
 · simp (disch:=omega) only [cr.l0,cr.b0,aQ,aL,List.foldl_nil]
 · simp (disch:=omega) only [cr.l0,cr.b0,aP h1,af,aL,aI,hx,aD,show ((5:Int)==3)=false from rfl,show ((5:Int)==5)=true from rfl]
   rw [List.foldl_cons]
   have hs1:=oy s x
   have ih1:=ih (fF s x) (by omega)
   rw [← ih1]
   unfold fF
   have r1:∀ {R:Type} (q:Option R),rm (Ty.bytes aC) (s.length+1) q=q:=fun q=>br (by omega) (by decide)
   simp only [r1]
   cases c1:(x.2.2.2.1.1==5) <;> cases c2:(x.2.2.2.1.1==4) <;> rfl
def rP (p:Ty.d aC):Ty.d bB:=p.2.2.2.1
def gd (r:Ty.d bB) (own:aY):Bool:=(r.2.2.2.2.1==(own.length:Int))&&(r.2.2.2.2.2.1==v7 (own.map rP))
theorem un {k:Nat} (hk:2 ^ 50≤k) (r:Ty.d bB) {l:aY} (hl:l.length≤1073741823):gn.f k r l=some (gd r l,()):=by
 unfold gn.f gn.t
 refine (dp (L:=fun n i s=>gn.l0 k n l l.length i r.1 r.2.1 r.2.2.1 r.2.2.2.1 r.2.2.2.2.1 r.2.2.2.2.2.1 s) (R:=fun q s=>some ((r.2.2.2.2.1==((s++q.map rP).length:Int))&&(r.2.2.2.2.2.1==v7 (s++q.map rP)),())) (Ty.z aC) l (fun i s=>(s.length:Int)=i) (fun n s hs=>?_) (fun n i s x rest h0 h1 hx hr hp ih=>?_) (n:=k) (s:=[]) (by omega) (by decide)).trans (by rw [List.nil_append,List.length_map];rfl)
 · simp (disch:=omega) only [gn.l0,gn.b0,aQ,aL,List.map_nil,List.append_nil,Av hk,ae]
   cases (r.2.2.2.2.1==(s.length:Int)) <;> rfl
 · simp (disch:=first | omega | decide) only [gn.l0,gn.b0,aP,af,aI,hx,br,aD]
   refine (ih (s++[rP x]) (by rw [bN];omega)).trans ?_
   simp only [List.map_cons,nQ,List.cons_append,List.nil_append]
theorem uQ {k:Nat} (hk:2 ^ 50≤k) (r:Ty.d bB) {l:aY} (hl:l.length≤1073741823):ij.f k r l=some (gd r l,()):=by
 have e:fg.f k l=some (l.map rP,()):=by
  unfold fg.f fg.t
  refine (dp (L:=fun n i s=>fg.l0 k n l i s) (R:=fun q s=>some (s++q.map rP,())) (Ty.z aC) l (fun i s=>(s.length:Int)=i) (fun n s hs=>?_) (fun n i s x rest h0 h1 hx hr hp ih=>?_) (n:=k) (s:=[]) (by omega) (by decide)).trans (by rw [List.nil_append])
  · simp (disch:=omega) only [fg.l0,fg.b0,aQ,aL,List.map_nil,List.append_nil]
  · simp (disch:=first | omega | decide) only [fg.l0,fg.b0,aP,af,aI,hx,br,aD]
    refine (ih (s++[rP x]) (by rw [bN];omega)).trans ?_
    simp only [List.map_cons,nQ,List.cons_append,List.nil_append]
 unfold ij.f ij.t gd
 rw [e,ae]
 simp only []
 rw [pF hk (by rw [List.length_map];omega),ae]
 cases (r.2.2.2.2.1==(l.length:Int)) <;> rfl
theorem qI {k:Nat} (hk:2 ^ 50≤k) {l:aT} (key:ByteArray) (hl:l.length≤1099511627775):cw.f k l key=some (iF l key,()):=by
 unfold cw.f cw.t
 refine (dp (L:=fun n i s=>cw.l0 k n l key i s) (R:=fun r s=>some (s++iF r key,())) (Ty.z aB) l (fun i s=>(s.length:Int)≤i) (fun n s hs=>?_) (fun n i s x rest h0 h1 hx hr hp ih=>?_) (n:=k) (s:=[]) (by omega) (by decide)).trans (by rw [List.nil_append])
 · simp (disch:=omega) only [cw.l0,cw.b0,aQ,aL,iF,List.filter_nil,List.append_nil]
 · cases c:seq x.1 key with
   | true =>
    simp (disch:=first | omega | decide) only [cw.l0,cw.b0,aP,af,aL,aI,hx,c,fa,aD]
    refine (ih s (by omega)).trans ?_
    simp only [iF,List.filter_cons,c,fa,Bool.false_eq_true,if_false]
   | false =>
    simp (disch:=first | omega | decide) only [cw.l0,cw.b0,aP,af,aI,hx,c,ul,br,aD]
    refine (ih (s++[x]) (by rw [bN];omega)).trans ?_
    simp only [iF,List.filter_cons,c,ul,if_true,nQ,List.cons_append,List.nil_append]
theorem qM {k:Nat} (hk:2 ^ 50≤k) {l:aT} (key:ByteArray) (hl:l.length≤1099511627775):dE.f k l key=some (iF l key,()):=by
 unfold dE.f dE.t
 refine (dp (L:=fun n i s=>dE.l0 k n key l l.length i s) (R:=fun r s=>some (s++iF r key,())) (Ty.z aB) l (fun i s=>(s.length:Int)≤i) (fun n s hs=>?_) (fun n i s x rest h0 h1 hx hr hp ih=>?_) (n:=k) (s:=[]) (by omega) (by decide)).trans (by rw [List.nil_append])
 · simp (disch:=omega) only [dE.l0,dE.b0,aQ,aL,iF,List.filter_nil,List.append_nil]
 · cases c:seq x.1 key with
   | true =>
    simp (disch:=first | omega | decide) only [dE.l0,dE.b0,aP,af,aL,aI,hx,c,fa,aD]
    refine (ih s (by omega)).trans ?_
    simp only [iF,List.filter_cons,c,fa,Bool.false_eq_true,if_false]
   | false =>
    simp (disch:=first | omega | decide) only [dE.l0,dE.b0,aP,af,aI,hx,c,ul,br,aD]
    refine (ih (s++[x]) (by rw [bN];omega)).trans ?_
    simp only [iF,List.filter_cons,c,ul,if_true,nQ,List.cons_append,List.nil_append]
theorem yX {k:Nat} (hk:2 ^ 50≤k) {l:aT} (e:Ty.d aB) (hl:l.length≤1099511627775):eo.f k l e=some (qJ l e,()):=by
 unfold eo.f eo.t qJ
 rw [qM hk e.1 hl,ae]
 have hd:=oP l e.1
 simp only []
 generalize iF l e.1=r at *
 have cp:∀ q:aT,q.length≤1099511627775→eM.f k q=some (q,()):=fun q hq=>by
  unfold eM.f eM.t
  rw [br (by omega) (by decide)]
 have key:∀ (d j n:Nat),r.length-j=d→j≤r.length→d<n→eo.l0 k n (j:Int) e.1 e.2.1 e.2.2.1 e.2.2.2.1 e.2.2.2.2.1 r=some (r.take j++qK (r.drop j) e,()):=by
  intro d
  induction d with
  | zero =>
   intro j n hd hj hn
   obtain ⟨n,rfl⟩:∃ q,n=q+1:=⟨n-1,by omega⟩
   have:j=r.length:=by omega
   subst this
   simp (disch:=first | omega | (simp only [bN,List.length_take,List.length_drop];omega) | decide) only [eo.l0,eo.b0,aQ,aL,cC,nr,cp,ae,br]
   rw [List.drop_length,qK]
   simp
  | succ d ih =>
   intro j n hd hj hn
   obtain ⟨n,rfl⟩:∃ q,n=q+1:=⟨n-1,by omega⟩
   have hlt:j<r.length:=by omega
   have e1:r.drop j=r.getD j (Ty.z aB)::r.drop (j+1):=by
    rw [List.drop_eq_getElem_cons hlt]
    simp [List.getD,hlt]
   cases c:IG e.1 (r.getD j (Ty.z aB)) with
   | true =>
    have c':=c
    unfold IG at c'
    have ih:=ih (j+1) n (by omega) (by omega) (by omega)
    simp (disch:=omega) only [eo.l0,eo.b0,aP,af,aI,nr,c',aD]
    rw [show ((j:Int)+1)=((j+1:Nat):Int) by omega,ih,e1,n6 (z:=Ty.z aB) hlt]
    unfold qK
    simp only [List.takeWhile_cons,List.dropWhile_cons,c,if_true,nQ,List.cons_append,List.nil_append]
   | false =>
    have c':=c
    unfold IG at c'
    simp (disch:=first | omega | (simp only [bN,List.length_take,List.length_drop];omega) | decide) only [eo.l0,eo.b0,aP,af,aL,aI,nr,c',cC,cp,ae,br]
    rw [e1]
    unfold qK
    simp only [List.takeWhile_cons,List.dropWhile_cons,c,Bool.false_eq_true,if_false,nQ,List.cons_append,List.nil_append]
 exact (key r.length 0 k (by omega) (by omega) (by omega)).trans (by rw [List.take_zero,List.drop_zero,List.nil_append])
theorem uc {k:Nat} (hk:2 ^ 50≤k) {l:aY} {e:Int} (h0:0≤e) (he:e≤l.length) (hl:l.length≤1099511627775):eX.f k l e=some (bP (l.take e.toNat),()):=by
 unfold eX.f eX.t
 have hlen:(l.take e.toNat).length=e.toNat:=by rw [List.length_take];omega
 have he':e=((l.take e.toNat).length:Int):=by omega
 conv=>lhs;rw [he']
 refine dp (L:=fun n i s=>eX.l0 k n l ((l.take e.toNat).length:Int) i s) (R:=fun r s=>some (r.foldl fF s,())) (Ty.z aC) (l.take e.toNat) (fun i s=>(s.length:Int)≤i) (fun n s hs=>?_) (fun n i s x rest h0 h1 hx hr hp ih=>?_) (n:=k) (s:=[]) (by omega) (by decide)
 · simp (disch:=omega) only [eX.l0,eX.b0,aQ,aL,List.foldl_nil]
 · rw [mq (by omega)] at hx
   simp (disch:=omega) only [eX.l0,eX.b0,aP h1,af,aI,hx,aD]
   rw [List.foldl_cons]
   have hs1:=oy s x
   have ih1:=ih (fF s x) (by omega)
   rw [← ih1]
   unfold fF
   have r1:∀ {R:Type} (q:Option R),rm (Ty.bytes aC) (s.length+1) q=q:=fun q=>br (by omega) (by decide)
   have r2:∀ {R:Type} (q:Option R),rm (Ty.bytes aC) (0+1) q=q:=fun q=>br (by omega) (by decide)
   simp only [r1,r2]
   cases c1:(x.2.2.2.1.1==5) <;> cases c2:(x.2.2.2.1.1==4) <;> first | rfl | skip
   all_goals (exfalso;have e2:=eq_of_beq c1;rw [e2] at c2;revert c2;decide)
def eQ (p:Ty.d aC):Ty.d aB:=(p.2.2.2.1.2.2.1,(p.1,(p.2.1,(p.2.2.1,(p.2.2.2.1.2.1,())))))
def fN (d:aT) (p:Ty.d aC):aT:=bif p.2.2.2.1.1==2 then iF d p.2.2.2.1.2.2.1 else qJ d (eQ p)
def bQ (d:aT) (own:aY):aT:=own.foldl fN d
theorem qR (d:aT) (p:Ty.d aC):(fN d p).length≤d.length+1:=by
 unfold fN
 have h1:=oP d p.2.2.2.1.2.2.1
 have h2:=HU d (eQ p)
 cases p.2.2.2.1.1==2
 · rw [aL];omega
 · rw [af];omega
theorem pC:∀ (own:aY) (d:aT),(bQ d own).length≤d.length+own.length
 | [],d=>Nat.le_refl _
 | p::own,d=>by
  have:=pC own (fN d p)
  have:=qR d p
  rw [bQ,List.foldl_cons,kU]
  unfold bQ at this
  simp only [bQ] at *
  omega
def kf (d:aT) (code:Int):Int:=if d.length > 20 then 2 else code
theorem sw {k:Nat} (hk:2 ^ 50≤k) (g:Ty.d fw) {own:aY} (ho:own.length≤268435456) (hd:g.1.length≤268435456):c9.f k g own=some ((bQ g.1 own,(g.2.1,(kf (bQ g.1 own) g.2.2.1,()))),()):=by
 unfold c9.f c9.t
 refine dp (L:=fun n i (d:aT)=>c9.l0 k n own own.length i d g.2.1 g.2.2.1) (R:=fun q d=>some ((bQ d q,(g.2.1,(kf (bQ d q) g.2.2.1,()))),())) (Ty.z aC) own (fun i d=>(d.length:Int)≤268435456+i) (fun n d hs=>?_) (fun n i d x rest h0 h1 hx hr hp ih=>?_) (n:=k) (s:=g.1) (by omega) (by omega)
 · change _=some ((d,(g.2.1,(kf d g.2.2.1,()))),())
   simp (disch:=omega) only [c9.l0,c9.b0,aQ (show ¬ ((own.length:Int)<(own.length:Int)) by omega),aL,kf]
   by_cases c:d.length > 20
   · rw [aP (by omega),if_pos c];rfl
   · rw [aQ (by omega),if_neg c];rfl
 · have hsd:=qR d x
   have ih:=ih (fN d x) (by omega)
   have e:fN d x=bif x.2.2.2.1.1==2 then iF d x.2.2.2.1.2.2.1 else qJ d (eQ x):=rfl
   simp (disch:=omega) only [c9.l0,c9.b0,aP h1,af,aI,hx,qM hk,yX hk,ae,aD]
   rw [show bQ d (x::rest)=bQ (fN d x) rest from rfl,← ih,e]
   cases x.2.2.2.1.1==2 <;> rfl
theorem xB {k:Nat} (hk:2 ^ 50≤k) {d:aT} (p:Ty.d aC) (hd:d.length≤1073741823):gw.f k d p=some (fN d p,()):=by
 unfold gw.f gw.t fN
 rw [qI hk _ (by omega),rR hk _ hd]
 cases p.2.2.2.1.1==2 <;> rfl
def mg (a b:Int):Int:=if a > b then a else b
def gb (all:aY):aY→Nat→aT→Int→Int→Ty.d fw
 | [],_,d,last,code=>bif code==0&&decide ((bP all).length > 0) then (d,(last,(1,()))) else (d,(last,(code,())))
 | p::rest,i,d,last,code =>
  bif code != 0 then (d,(last,(code,()))) else
  bif p.2.2.2.1.1==3 then (bif gd p.2.2.2.1 (eO p.2.2.2.1.2.1 (all.take i)) then gb all rest (i+1) (bQ d (eO p.2.2.2.1.2.1 (all.take i))) (mg p.2.2.2.1.2.1 last) (kf (bQ d (eO p.2.2.2.1.2.1 (all.take i))) code)
   else gb all rest (i+1) d (mg p.2.2.2.1.2.1 last) code) else
  bif p.2.2.2.1.1==5 then (bif gd p.2.2.2.1 (bP (all.take i)) then gb all rest (i+1) (bQ d (bP (all.take i))) (mg p.2.2.2.1.2.1 last) (kf (bQ d (bP (all.take i))) code)
   else gb all rest (i+1) d (mg p.2.2.2.1.2.1 last) 1) else
  gb all rest (i+1) d (mg p.2.2.2.1.2.1 last) code
def eE (g:Ty.d fw) (l:aY):Ty.d fw:=gb l l 0 g.1 g.2.1 g.2.2.1
def Dx (d:aT) (code:Int):Prop:=d.length≤268435456∧(code=0→d.length≤134217728)
theorem lr {d:aT} {own:aY} {code:Int} (h:Dx d 0) (ho:own.length≤134217728):Dx (bQ d own) (kf (bQ d own) code):=by
 have h1:=pC own d
 have h2:=h.2 rfl
 refine ⟨by omega,fun q=>?_⟩
 unfold kf at q
 split at q
 · cases q
 · omega
theorem xL {d:aT} (h:Dx d 0):Dx d 1:=⟨h.1,fun q=>by cases q⟩
theorem w5 {k:Nat} (hk:2 ^ 50≤k) (g:Ty.d fw) {l:aY} (hl:l.length≤134217728) (hd:g.1.length≤134217728):ez.f k g l=some (eE g l,()):=by
 unfold ez.f ez.t
 have cp:eM.f k g.1=some (g.1,()):=by
  unfold eM.f eM.t
  rw [br (by omega) (by decide)]
 rw [cp,ae]
 simp only []
 have key:=HE (L:=fun n i (s:aT × Int × Int)=>ez.l0 k n l l l.length i [] 0 0 s.1 s.2.1 s.2.2) (R:=fun (q:aY) s=>some (gb l q (l.length-q.length) s.1 s.2.1 s.2.2,())) (Ty.z aC) l (fun i s=>Dx s.1 s.2.2) (fun n s hs=>?_) (fun n i s x rest h0 h1 hx hr hp ih=>?_) k 0 (g.1,(g.2.1,g.2.2.1)) (by omega) (by omega) (by omega) ⟨by simp only [];omega,fun _=>by simp only [];omega⟩
 · have e:l.drop (Int.toNat 0)=l:=rfl
   rw [e,Nat.sub_self] at key
   exact key
 · obtain ⟨d,last,code⟩:=s
   have hm:=sK hk (l:=l) (r:=(5,(0,(ByteArray.empty,(ByteArray.empty,(0,(0,()))))))) rfl (by omega)
   simp (disch:=omega) only [ez.l0,ez.b0,aQ,aL,gb,hm,ae]
   cases c1:(code==0)
   · rfl
   · by_cases c2:(bP l).length > 0
     · rw [aP (show ((bP l).length:Int) > 0 by omega),aP c2];rfl
     · rw [aQ (show ¬ ((bP l).length:Int) > 0 by omega),aQ c2];rfl
 · obtain ⟨d,last,code⟩:=s
   simp only [] at hp ih
   have hi:l.length-(x::rest).length=i.toNat:=by
    have:=congrArg List.length hr
    rw [List.length_drop] at this
    omega
   have hi2:l.length-rest.length=i.toNat+1:=by rw [kU] at hi;have:=congrArg List.length hr;rw [List.length_drop,kU] at this;omega
   have htk:(l.take i.toNat).length≤134217728:=by rw [List.length_take];omega
   have ih:=fun a b c h=>ih (a,(b,c)) h
   simp only [hi2] at ih
   rw [hi]
   simp (disch:=omega) only [ez.l0,ez.b0,aP h1,af,aI,hx,aD,gb]
   by_cases c0:code=0
   case neg =>
    rw [show (code != 0)=true from bne_iff_ne.2 c0]
    rfl
   subst c0
   simp only [show ((0:Int) != 0)=false from rfl,aL]
   by_cases c3:x.2.2.2.1.1=3
   · have b3:(x.2.2.2.1.1==3)=true:=by rw [c3];rfl
     have b3':(x.2.2.2.1.1 != 3)=false:=by rw [c3];rfl
     have b5:(x.2.2.2.1.1==5)=false:=by rw [c3];rfl
     have hlen:=qQ x.2.2.2.1.2.1 (l.take i.toNat)
     simp only [b3,b3',b5,af,aL]
     rw [cC (by omega) (by omega),AF hk c3 (by omega),ae]
     simp only []
     rw [un hk _ (by omega),ae]
     cases c:gd x.2.2.2.1 (eO x.2.2.2.1.2.1 (l.take i.toNat)) with
     | true =>
      simp only [af]
      rw [sw hk _ (by omega) (by simp only [];exact hp.1),ae]
      exact ih _ _ _ (lr hp (by omega))
     | false =>
      simp only [aL]
      exact ih _ _ _ hp
   · have b3:(x.2.2.2.1.1==3)=false:=mP c3
     have b3':(x.2.2.2.1.1 != 3)=true:=bne_iff_ne.2 c3
     by_cases c5:x.2.2.2.1.1=5
     · have b5:(x.2.2.2.1.1==5)=true:=by rw [c5];rfl
       have b5':(x.2.2.2.1.1 != 5)=false:=by rw [c5];rfl
       have hlen:=qV (l.take i.toNat)
       simp only [b3,b3',b5,b5',af,aL]
       rw [cC (by omega) (by omega),sK hk c5 (by omega),ae]
       simp only []
       rw [un hk _ (by omega),ae]
       cases c:gd x.2.2.2.1 (bP (l.take i.toNat)) with
       | true =>
        simp only [af]
        rw [sw hk _ (by omega) (by simp only [];exact hp.1),ae]
        exact ih _ _ _ (lr hp (by omega))
       | false =>
        simp only [aL]
        exact ih _ _ _ (xL hp)
     · have b5:(x.2.2.2.1.1==5)=false:=mP c5
       have b5':(x.2.2.2.1.1 != 5)=true:=bne_iff_ne.2 c5
       simp only [b3,b3',b5,b5',af,aL]
       exact ih _ _ _ hp
theorem w8 {k:Nat} (hk:2 ^ 50≤k) (g:Ty.d fw) {l:aY} (hl:l.length≤134217728) (hd:g.1.length≤134217728):cB.f k g l=some (eE g l,()):=by
 unfold cB.f cB.t
 rw [br (by omega) (by decide),List.nil_append]
 have inner:∀ {own:aY} {d:aT} (L0:aY→Int→aT→Int→Int→aT→Int→Int→Option (Ty.d fw × Unit)) (i last code:Int),own.length≤134217728→d.length≤268435456→0≤i→i≤134217728 →
  cB.l1 k L0 k l i 0 [] 0 0 d last code own=L0 l (i+1) [] 0 0 (bQ d own) last (kf (bQ d own) code):=fun {own d} L0 i last code ho hd2 hi0 hi1=>by
  refine dp (L:=fun n j (d:aT)=>cB.l1 k L0 n l i j [] 0 0 d last code own) (R:=fun q d=>L0 l (i+1) [] 0 0 (bQ d q) last (kf (bQ d q) code)) (Ty.z aC) own (fun j d=>(d.length:Int)≤268435456+j) (fun n d hs=>?_) (fun n j d x rest h0 h1 hx hr hp ih=>?_) (n:=k) (s:=d) (by omega) (by omega)
  · change _=L0 l (i+1) [] 0 0 d last (kf d code)
    simp (disch:=omega) only [cB.l1,cB.b1,aQ (show ¬ ((own.length:Int)<(own.length:Int)) by omega),aL,kf,aD]
    by_cases c:d.length > 20
    · rw [aP (by omega),if_pos c];rfl
    · rw [aQ (by omega),if_neg c];rfl
  · have hsd:=qR d x
    simp (disch:=omega) only [cB.l1,cB.b1,aP h1,af,aI,hx,xB hk,ae,aD]
    exact ih _ (by omega)
 have hmk:=uc hk (l:=l) (e:=l.length) (by omega) (by omega) (by omega)
 rw [Int.toNat_natCast,List.take_length] at hmk
 have key:=HE (L:=fun n i (s:aT × Int × Int)=>cB.l0 k n l i [] 0 0 s.1 s.2.1 s.2.2) (R:=fun (q:aY) s=>some (gb l q (l.length-q.length) s.1 s.2.1 s.2.2,())) (Ty.z aC) l (fun i s=>Dx s.1 s.2.2) (fun n s hs=>?_) (fun n i s x rest h0 h1 hx hr hp ih=>?_) k 0 (g.1,(g.2.1,g.2.2.1)) (by omega) (by omega) (by omega) ⟨by simp only [];omega,fun _=>by simp only [];omega⟩
 · have e:l.drop (Int.toNat 0)=l:=rfl
   rw [e,Nat.sub_self] at key
   exact key
 · obtain ⟨d,last,code⟩:=s
   simp (disch:=omega) only [cB.l0,cB.b0,aQ,aL,gb,hmk,ae]
   cases c1:(code==0)
   · rfl
   · by_cases c2:(bP l).length > 0
     · rw [aP (show ((bP l).length:Int) > 0 by omega),aP c2];rfl
     · rw [aQ (show ¬ ((bP l).length:Int) > 0 by omega),aQ c2];rfl
 · obtain ⟨d,last,code⟩:=s
   simp only [] at hp ih
   have hi:l.length-(x::rest).length=i.toNat:=by
    have:=congrArg List.length hr
    rw [List.length_drop] at this
    omega
   have hi2:l.length-rest.length=i.toNat+1:=by rw [kU] at hi;have:=congrArg List.length hr;rw [List.length_drop,kU] at this;omega
   have htk:(l.take i.toNat).length≤134217728:=by rw [List.length_take];omega
   have ih:=fun a b c h=>ih (a,(b,c)) h
   simp only [hi2] at ih
   rw [hi]
   simp (disch:=omega) only [cB.l0,cB.b0,aP h1,af,aI,hx,aD,gb,hmk,ae]
   by_cases c0:code=0
   case neg =>
    rw [show (code != 0)=true from bne_iff_ne.2 c0,show (code==0)=false from mP c0]
    rfl
   subst c0
   simp only [show ((0:Int) != 0)=false from rfl,show ((0:Int)==0)=true from rfl,aL,af]
   by_cases c3:x.2.2.2.1.1=3
   · have b3:(x.2.2.2.1.1==3)=true:=by rw [c3];rfl
     have hlen:=qQ x.2.2.2.1.2.1 (l.take i.toNat)
     simp only [b3,af]
     rw [FZ hk _ h0 (by omega) (by omega),ae]
     simp only []
     rw [uQ hk _ (by omega),ae]
     cases c:gd x.2.2.2.1 (eO x.2.2.2.1.2.1 (l.take i.toNat)) with
     | true =>
      simp only [fa,af,aL]
      rw [inner _ i _ _ (by omega) hp.1 h0 (by omega)]
      exact ih _ _ _ (lr hp (by omega))
     | false =>
      simp only [ul,af,aL]
      exact ih _ _ _ hp
   · have b3:(x.2.2.2.1.1==3)=false:=mP c3
     by_cases c5:x.2.2.2.1.1=5
     · have b5:(x.2.2.2.1.1==5)=true:=by rw [c5];rfl
       have hlen:=qV (l.take i.toNat)
       simp only [b3,b5,af,aL]
       rw [uc hk h0 (by omega) (by omega),ae]
       simp only []
       rw [uQ hk _ (by omega),ae]
       cases c:gd x.2.2.2.1 (bP (l.take i.toNat)) with
       | true =>
        simp only [fa,af,aL]
        rw [inner _ i _ _ (by omega) hp.1 h0 (by omega)]
        exact ih _ _ _ (lr hp (by omega))
       | false =>
        simp only [ul,af,aL]
        exact ih _ _ _ (xL hp)
     · have b5:(x.2.2.2.1.1==5)=false:=mP c5
       simp only [b3,b5,af,aL]
       exact ih _ _ _ hp
theorem kN (all:aY) (ha:all.length≤134217728):∀ (q:aY) (i:Nat) (d:aT) (last code:Int),Dx d code→(gb all q i d last code).1.length≤268435456
 | [],i,d,last,code,h=>by
  unfold gb
  cases code==0&&decide ((bP all).length > 0) <;> exact h.1
 | p::q,i,d,last,code,h=>by
  have hs:=qQ p.2.2.2.1.2.1 (all.take i)
  have hm:=qV (all.take i)
  have htk:(all.take i).length≤134217728:=by rw [List.length_take];omega
  unfold gb
  by_cases c0:code=0
  case neg=>rw [show (code != 0)=true from bne_iff_ne.2 c0];exact h.1
  subst c0
  simp only [show ((0:Int) != 0)=false from rfl,aL]
  cases p.2.2.2.1.1==3
  · cases p.2.2.2.1.1==5
    · exact kN all ha q _ _ _ _ h
    · cases gd p.2.2.2.1 (bP (all.take i))
      · exact kN all ha q _ _ _ _ (xL h)
      · exact kN all ha q _ _ _ _ (lr h (by omega))
  · cases gd p.2.2.2.1 (eO p.2.2.2.1.2.1 (all.take i))
    · exact kN all ha q _ _ _ _ h
    · exact kN all ha q _ _ _ _ (lr h (by omega))
theorem ov {g:Ty.d fw} {l:aY} (hl:l.length≤134217728) (hd:g.1.length≤134217728):(eE g l).1.length≤268435456:=kN l hl l 0 _ _ _ ⟨by omega,fun _=>hd⟩
theorem C4 {lim lim':Int} (h:lim≤lim'):∀ (l:List Int) (p:Option Int),nS (mF lim) p l=true→nS (mF lim') p l=true
 | [],_,_=>rfl
 | x::l,p,q=>by
  simp only [nS,gX] at q ⊢
  refine ⟨?_,C4 h l _ q.2⟩
  have q1:=q.1
  unfold mF at q1 ⊢
  rw [gX,decide_eq_true_eq] at q1 ⊢
  exact ⟨⟨q1.1.1,Int.le_trans q1.1.2 h⟩,q1.2⟩
theorem BQ {lim n:Int} (h1:1≤n) (h:lim<n):∀ (l:List Int) (p:Option Int),(∀ y,p=some y→y<n)→nS (mF lim) p l=true→nS (mF n) p (l++[n])=true
 | [],p,hp,_=>by
  simp only [List.nil_append,nS,Bool.and_true]
  unfold mF
  rw [gX,decide_eq_true_eq]
  refine ⟨⟨h1,Int.le_refl _⟩,?_⟩
  cases p with
  | none=>rfl
  | some y=>exact decide_eq_true (hp y rfl)
 | x::l,p,hp,q=>by
  simp only [nS,gX,List.cons_append] at q ⊢
  have q1:=q.1
  unfold mF at q1
  rw [gX,decide_eq_true_eq] at q1
  refine ⟨?_,BQ h1 h l _ (fun y e=>by cases e;exact Int.lt_of_le_of_lt q1.1.2 h) q.2⟩
  unfold mF
  rw [gX,decide_eq_true_eq]
  exact ⟨⟨q1.1.1,Int.le_of_lt (Int.lt_of_le_of_lt q1.1.2 h)⟩,q1.2⟩
theorem Fh {n:Int} {ids:List Int} (h:cH (n,(ids,()))=true) (hn:n<100000):cH (n+1,(ids,()))=true:=by
 obtain ⟨g1,g2,_⟩:=bV h
 unfold cH at h ⊢
 simp only [gX,decide_eq_true_eq] at h ⊢
 rw [aD (n:=n+1-1) (by omega) (by omega)]
 rw [aD (n:=n-1) (by omega) (by omega)] at h
 exact ⟨⟨show (1:Int)≤n+1 by omega,show n+1≤(100000:Int) by omega⟩,h.2.1,C4 (by omega) _ _ h.2.2⟩
theorem u0 {n:Int} {ids:List Int} (h:cH (n,(ids,()))=true) (hn:n<100000) (hl:ids.length<60):cH (n+1,(ids++[n],()))=true:=by
 obtain ⟨g1,g2,_⟩:=bV h
 unfold cH at h ⊢
 simp only [gX,decide_eq_true_eq] at h ⊢
 rw [aD (n:=n+1-1) (by omega) (by omega)]
 rw [aD (n:=n-1) (by omega) (by omega)] at h
 refine ⟨⟨show (1:Int)≤n+1 by omega,show n+1≤(100000:Int) by omega⟩,⟨?_,?_⟩,?_⟩
 · rw [uo,List.length_singleton];omega
 · rw [uo,List.length_singleton];omega
 · rw [show n+1-1=n by omega]
   exact BQ g1 (by omega) _ _ (fun y e=>by cases e) h.2.2
def cv (st:Ty.d aE):ByteArray:=a_ aF (ac st.1.2.1)
theorem xn {st:Ty.d aE} (h:cH st.1=true):0≤aH ((st.1.2.1.length:Int)-1)∧aH ((st.1.2.1.length:Int)-1)<(st.1.2.1.length:Int)∧st.1.2.1.getD (aH ((st.1.2.1.length:Int)-1)).toNat (Ty.z (.int .i64))=ac st.1.2.1:=by
 obtain ⟨_,_,h1,h2,_⟩:=bV (nx:=st.1.1) (ids:=st.1.2.1) h
 rw [aD (n:=(st.1.2.1.length:Int)-1) (by omega) (by omega)]
 refine ⟨by omega,by omega,?_⟩
 unfold ac
 rw [show ((st.1.2.1.length:Int)-1).toNat=st.1.2.1.length-1 by omega]
 rfl
theorem nw {k:Nat} (hk:2 ^ 50≤k) {st:Ty.d aE} (h:cH st.1=true):co.f k st=some (cv st,()):=by
 obtain ⟨h1,h2,h3⟩:=xn h
 unfold co.f co.t cv
 rw [aI h1 h2,h3,bJ hk,ae]
def tl (r:RD):RD:=(r.1,iP r.2)
theorem xR (r:RD):((tl r).2 != 0)=(r.2 != 0):=by
 unfold tl bne
 rw [iL]
def Gn (st:Ty.d aE):Ty.d aE:=((st.1.1+1,st.1.2),st.2)
def kg (st:Ty.d aE):Ty.d cZ:=(st.1.1+1,(st.1.2.1++[st.1.1],()))
def D2 (st:Ty.d aE):Ty.d aE:=(kg st,(st.2.1,(st.2.2.1,(0,st.2.2.2.2))))
def nz (nm:ByteArray) (r:RD):RD:=bif r.2==2 then ((eS [iW,nm] r.1).1,bif (eS [iW,nm] r.1).2==0 then 2 else iP (eS [iW,nm] r.1).2) else r
def jr (st:Ty.d aE) (d:Ty.d aA):Ty.d aE × RD :=
 bif decide ((st.1.2.1.length:Int)≥60) then (st,(d,5)) else bif decide (st.1.1≥100000) then (st,(d,5)) else
 bif (g8 d (cv st)).2 != 0 then (st,tl (g8 d (cv st))) else
 bif (bO (a_ aF st.1.1) (g8 d (cv st)).1).2 != 0 then (Gn st,tl (bO (a_ aF st.1.1) (g8 d (cv st)).1)) else
 bif (bi (kg st) (bO (a_ aF st.1.1) (g8 d (cv st)).1).1).2 != 0 then (Gn st,nz (a_ aF st.1.1) (tl (bi (kg st) (bO (a_ aF st.1.1) (g8 d (cv st)).1).1)))
 else (D2 st,((bi (kg st) (bO (a_ aF st.1.1) (g8 d (cv st)).1).1).1,0))
structure SR (st:Ty.d aE) (r:RD) (B:Int):Prop where
 live:cH st.1=true
 disk:DR r.1
 lo:LE.le (α:=Int) 0 st.2.2.2.1
 hi:LE.le (α:=Int) st.2.2.2.1 B
theorem Ay (n:Int):(a_ aF n).size≤1000:=by
 unfold a_
 by_cases h:(1:Int)≤n∧n≤100000
 · rw [aP h,af,ByteArray.size_append]
   have:=nL (n:=n) (by omega) (by omega)
   have:aF.size=3:=rfl
   omega
 · rw [aQ h]
   exact Nat.zero_le _
theorem Do {k:Nat} (hk:2 ^ 50≤k) {st:Ty.d aE} {d:Ty.d aA} (hl:cH st.1=true) (hd:DR d):fL.f k st d=some ((jr st d).1,((jr st d).2.1,((jr st d).2.2,()))):=by
 obtain ⟨g1,g2,g3,g4,_⟩:=bV (nx:=st.1.1) (ids:=st.1.2.1) hl
 have hsz:=Ay st.1.1
 unfold fL.f fL.t jr
 by_cases c1:(st.1.2.1.length:Int)≥60
 · rw [aP c1];rfl
 by_cases c2:st.1.1≥(100000:Int)
 · rw [aQ c1,aP c2];rfl
 have c1':st.1.2.1.length<60:=by omega
 have c2':LT.lt (α:=Int) st.1.1 100000:=Int.not_le.1 c2
 rw [aQ c1,aQ c2]
 simp only [aL]
 rw [nw hk hl,ae]
 simp only []
 rw [lq hk hd.sz,ae]
 simp only []
 have h1:=m6 hd (cv st)
 generalize g8 d (cv st)=r1 at h1 ⊢
 cases c3:r1.2 != 0 with
 | true=>simp only [af,d7,ae,tl]
 | false =>
  simp only [aL]
  rw [bJ hk,ae]
  simp only []
  rw [mc hk h1 (by omega),ae]
  simp only []
  have h2:=kC (a_ aF st.1.1) _ h1
  generalize bO (a_ aF st.1.1) r1.1=r2 at h2 ⊢
  have ew:aH (st.1.1+1)=st.1.1+1:=aD (by omega) (by omega)
  cases c4:r2.2 != 0 with
  | true=>simp only [af,d7,ae,tl,ew];rfl
  | false =>
   simp only [aL]
   rw [List.nil_append,br (by omega) (by decide),br (by omega) (by decide),ew,mu hk h2 (v:=(st.1.1+1,(st.1.2.1++[st.1.1],()))) (u0 hl c2' c1'),ae]
   simp only []
   have h3:=kD (kg st) _ h2
   rw [show ((st.1.1+1,(st.1.2.1++[st.1.1],())):Ty.d cZ)=kg st from rfl]
   generalize bi (kg st) r2.1=r3 at h3 ⊢
   have et:(iP r3.2 != 0)=(r3.2 != 0):=by unfold bne;rw [iL]
   cases c5:iP r3.2==2 with
   | true =>
    have e2:iP r3.2=2:=IB c5
    have c6:(r3.2 != 0)=true:=by rw [← et,e2];rfl
    rw [c6]
    simp only [af]
    rw [ae,show (⟨#[116,101,109,112]⟩:ByteArray)=iW from rfl]
    simp only []
    rw [mf hk h3 (by simp),ae]
    unfold nz
    rw [show (tl r3).2=iP r3.2 from rfl,c5,show (tl r3).1=r3.1 from rfl]
    simp only [af,bne]
    generalize eS [iW,a_ aF st.1.1] r3.1=r4
    cases c7:r4.2==0 with
    | true=>rw [e2];rfl
    | false=>simp only [ul,af,aL,d7,ae];rfl
   | false =>
    simp only [aL]
    rw [et]
    cases c6:r3.2 != 0 with
    | true =>
     simp only [af]
     unfold nz
     rw [show (tl r3).2=iP r3.2 from rfl,c5]
     rfl
    | false=>rfl
theorem rF {st:Ty.d aE} {d:Ty.d aA} (hl:cH st.1=true) (hd:DR d):cH (jr st d).1.1=true∧DR (jr st d).2.1∧(jr st d).1.2.1=st.2.1∧((jr st d).1.2.2.2.1=st.2.2.2.1∨(jr st d).1.2.2.2.1=0):=by
 unfold jr
 by_cases c1:(st.1.2.1.length:Int)≥60
 · rw [aP c1];exact ⟨hl,hd,rfl,.inl rfl⟩
 by_cases c2:st.1.1≥(100000:Int)
 · rw [aQ c1,aP c2];exact ⟨hl,hd,rfl,.inl rfl⟩
 have c1':st.1.2.1.length<60:=by omega
 have c2':LT.lt (α:=Int) st.1.1 100000:=Int.not_le.1 c2
 have hn:cH (Gn st).1=true:=Fh (ids:=st.1.2.1) hl c2'
 have hg:cH (D2 st).1=true:=u0 hl c2' c1'
 have h1:=m6 hd (cv st)
 have h2:=kC (a_ aF st.1.1) _ h1
 have h3:=kD (kg st) _ h2
 rw [aQ c1,aQ c2]
 simp only [aL]
 generalize g8 d (cv st)=r1 at h1 h2 h3 ⊢
 generalize bO (a_ aF st.1.1) r1.1=r2 at h2 h3 ⊢
 generalize bi (kg st) r2.1=r3 at h3 ⊢
 cases r1.2 != 0 with
 | true=>exact ⟨hl,h1,rfl,.inl rfl⟩
 | false =>
  cases r2.2 != 0 with
  | true=>exact ⟨hn,h2,rfl,.inl rfl⟩
  | false =>
   cases r3.2 != 0 with
   | true =>
    refine ⟨hn,?_,rfl,.inl rfl⟩
    simp only [af,aL]
    unfold nz
    cases (tl r3).2==2 with
    | true=>exact kG _ _ h3
    | false=>exact h3
   | false=>exact ⟨hg,h3,rfl,.inr rfl⟩
def Ap:Ty.d aC:=(0,(0,(0,((0,(0,(ByteArray.empty,(ByteArray.empty,(0,(0,())))))),()))))
def KI (st:Ty.d aE) (n:Int):Ty.d aE:=(st.1,(st.2.1,(st.2.2.1,(n,st.2.2.2.2))))
def jc (st:Ty.d aE) (d:Ty.d aA) (r:Ty.d bB):(Ty.d aE × RD) × Ty.d aC :=
 bif (iS d (cv st) (aS (aG r))).2 != 0 then ((st,tl (iS d (cv st) (aS (aG r)))),Ap)
 else ((KI st (st.2.2.2.1+b8 r),((iS d (cv st) (aS (aG r))).1,0)),(ac st.1.2.1,(st.2.2.2.1,(b8 r,(r,())))))
def fm (st:Ty.d aE) (d:Ty.d aA) (r:Ty.d bB):(Ty.d aE × RD) × Ty.d aC :=
 bif decide (st.2.2.2.1 > 0)&&decide (st.2.2.2.1+b8 r > 200) then
  (bif (jr st d).2.2 != 0 then (jr st d,Ap) else jc (jr st d).1 (jr st d).2.1 r)
 else jc st d r
def fZ (p:Ty.d aC):Ty.d bB:=p.2.2.2.1
theorem zP {st:Ty.d aE} {d:Ty.d aA} (hl:cH st.1=true) (hd:DR d) {B:Int} (h0:LE.le (α:=Int) 0 st.2.2.2.1) (h1:LE.le (α:=Int) st.2.2.2.1 B) (r:Ty.d bB) :
 SR (jc st d r).1.1 (jc st d r).1.2 (B+211)∧(jc st d r).1.1.2.1=st.2.1∧((jc st d r).1.2.2=0→fZ (jc st d r).2=r):=by
 have hr:=mr r
 have ha:=pK hd (cv st) (aS (aG r))
 unfold jc
 generalize iS d (cv st) (aS (aG r))=a at ha ⊢
 cases c:a.2 != 0 with
 | true =>
  refine ⟨⟨hl,ha,h0,?_⟩,rfl,fun e=>?_⟩
  · show LE.le (α:=Int) st.2.2.2.1 (B+211)
    omega
  · have e:(tl a).2=0:=e
    have q:=xR a
    rw [e,c] at q
    cases q
 | false =>
  refine ⟨⟨hl,ha,?_,?_⟩,rfl,fun e=>rfl⟩
  · show LE.le (α:=Int) 0 (st.2.2.2.1+b8 r)
    omega
  · show LE.le (α:=Int) (st.2.2.2.1+b8 r) (B+211)
    omega
theorem qf {st:Ty.d aE} {d:Ty.d aA} {B:Int} (h:SR st (d,0) B) (hB:0≤B) (r:Ty.d bB) :
 SR (fm st d r).1.1 (fm st d r).1.2 (B+211)∧(fm st d r).1.1.2.1=st.2.1∧((fm st d r).1.2.2=0→fZ (fm st d r).2=r):=by
 obtain ⟨hl,hd,h0,h1⟩:=h
 unfold fm
 cases decide (st.2.2.2.1 > 0)&&decide (st.2.2.2.1+b8 r > 200) with
 | false=>exact zP hl hd h0 h1 r
 | true =>
  obtain ⟨g1,g2,g3,g4⟩:=rF hl hd
  generalize jr st d=q at g1 g2 g3 g4 ⊢
  have s0:LE.le (α:=Int) 0 q.1.2.2.2.1:=by rcases g4 with e | e <;> rw [e];exact h0;exact Int.le_refl _
  have s1:LE.le (α:=Int) q.1.2.2.2.1 B:=by rcases g4 with e | e <;> rw [e];exact h1;exact hB
  cases c:q.2.2 != 0 with
  | true =>
   refine ⟨⟨g1,g2,s0,?_⟩,g3,fun e=>?_⟩
   · show LE.le (α:=Int) q.1.2.2.2.1 (B+211)
     omega
   · have e:q.2.2=0:=e
     rw [e] at c
     cases c
  | false =>
   obtain ⟨k1,k2,k3⟩:=zP g1 g2 s0 s1 r
   exact ⟨k1,k2.trans g3,k3⟩
theorem yC {k:Nat} (hk:2 ^ 50≤k) {st:Ty.d aE} {d:Ty.d aA} (hl:cH st.1=true) (hd:DR d) (r:Ty.d bB) (h0:LE.le (α:=Int) 0 st.2.2.2.1) (h1:LE.le (α:=Int) st.2.2.2.1 1099511627776) :
 (((co.f k st).bind fun r4=>((dX.f k d r4.1 (aS (aG r))).bind fun r5=>(bif (r5.2.1 != 0) then ((aW.f k r5.2.1).bind fun r6=>(some (st,(r5.1,(Ap,r6)))))
  else (bF (aH ((List.length st.1.2.1:Int)-1)) (List.length st.1.2.1:Int) (some ((st.1,(st.2.1,(st.2.2.1,((aH (st.2.2.2.1+(ByteArray.size (aS (aG r)):Int))),st.2.2.2.2)))),(r5.1,(((List.getD st.1.2.1 (Int.toNat (aH ((List.length st.1.2.1:Int)-1))) (Ty.z (.int .i64))),(st.2.2.2.1,((ByteArray.size (aS (aG r)):Int),(r,())))),(0,()))))))))):dr.Rs) =
 some ((jc st d r).1.1,((jc st d r).1.2.1,((jc st d r).2,((jc st d r).1.2.2,())))):=by
 obtain ⟨g1,g2,g3⟩:=xn hl
 have hr:=mr r
 have hz:((aS (aG r)).size:Int)=b8 r:=rfl
 rw [nw hk hl,ae]
 simp only []
 rw [pP hk hd.sz (cv st) (t:=aS (aG r)) (by omega),ae]
 unfold jc
 simp only []
 generalize iS d (cv st) (aS (aG r))=a
 cases c:a.2 != 0 with
 | true=>simp only [af,d7,ae];rfl
 | false =>
  simp only [aL]
  rw [aI g1 g2,g3,hz,aD (by omega) (by omega)]
  rfl
theorem vv {k:Nat} (hk:2 ^ 50≤k) {st:Ty.d aE} {d:Ty.d aA} {B:Int} (h:SR st (d,0) B) (hB:0≤B) (hB':B≤1000000000) (r:Ty.d bB) :
 dr.f k st d r=some ((fm st d r).1.1,((fm st d r).1.2.1,((fm st d r).2,((fm st d r).1.2.2,())))):=by
 obtain ⟨hl,hd,h0,h1⟩:=h
 have hr:=mr r
 have hz:((aS (aG r)).size:Int)=b8 r:=rfl
 have own:=yC (d:=d) hk hl hd r h0 (by omega)
 rw [hz,aD (n:=st.2.2.2.1+b8 r) (by omega) (by omega)] at own
 unfold dr.f dr.t
 rw [dG hk,ae]
 simp only []
 rw [lH hk,ae]
 simp only []
 rw [hz,aD (n:=st.2.2.2.1+b8 r) (by omega) (by omega)]
 unfold fm
 by_cases c1:LT.lt (α:=Int) 0 st.2.2.2.1
 · rw [aP (show st.2.2.2.1 > 0 from c1),Bool.true_and,af]
   by_cases c2:LT.lt (α:=Int) 200 (st.2.2.2.1+b8 r)
   · rw [aP (show st.2.2.2.1+b8 r > 200 from c2),af,af,Do hk hl hd,ae]
     simp only []
     obtain ⟨g1,g2,g3,g4⟩:=rF hl hd
     generalize jr st d=q at g1 g2 g3 g4 ⊢
     cases c:q.2.2 != 0 with
     | true=>rfl
     | false =>
      have s0:LE.le (α:=Int) 0 q.1.2.2.2.1:=by rcases g4 with e | e <;> rw [e];exact h0;exact Int.le_refl _
      have s1:LE.le (α:=Int) q.1.2.2.2.1 B:=by rcases g4 with e | e <;> rw [e];exact h1;exact hB
      exact yC hk g1 g2 r s0 (by omega)
   · rw [aQ (show ¬ st.2.2.2.1+b8 r > 200 from c2),aL,aL]
     exact own
 · rw [aQ (show ¬ st.2.2.2.1 > 0 from c1),Bool.false_and,aL]
   exact own
def fT (d:Ty.d aA) (s:ByteArray):Option ByteArray:=(bm d.1 s).map (·.2.1)
theorem jY {d:Ty.d aA} (h:DR d) (s:ByteArray):(aR d s).1=(fT d s).getD ⟨#[]⟩:=by
 rw [kv h]
 unfold fT
 cases bm d.1 s <;> rfl
theorem vU:∀ {l:bu} {f:Ty.d dJ} {t:ByteArray},bm l f.1=none→bm (lu l f) t=bif seq f.1 t then some f else bm l t
 | [],f,t,_=>rfl
 | g::l,f,t,h=>by
  unfold bm at h
  cases c:seq g.1 f.1 with
  | true=>rw [c] at h;cases h
  | false =>
   rw [c,aL] at h
   unfold lu
   cases mw f.1 g.1 with
   | true=>rfl
   | false =>
    simp only [aL]
    rw [bm.eq_2,vU h,bm.eq_2]
    by_cases q:f.1=t
    · rw [q] at c ⊢
      rw [c,bT]
      rfl
    · rw [kZ q]
      rfl
theorem BX {l:bu} {f:Ty.d dJ} {t:ByteArray} (h:f.1≠t):bm (lu l f) t=bm l t:=by
 induction l with
 | nil=>unfold lu;rw [bm.eq_2,kZ h];rfl
 | cons g l ih =>
  unfold lu
  cases mw f.1 g.1 with
  | true=>rw [af,bm.eq_2,kZ h,aL]
  | false=>rw [aL,bm.eq_2,ih,bm.eq_2]
theorem sx {d:Ty.d aA} {g:bu→Int→bu × Int} {t:ByteArray} (h:∀ l c,(bm (g l c).1 t).map (·.2.1)=(bm l t).map (·.2.1)):fT (j4 d g).1 t=fT d t:=by
 unfold j4 fT
 cases (jZ d).2 != 0 with
 | true=>rw [af,p9]
 | false=>exact h d.1 d.2.1
theorem KC {d:Ty.d aA} {s t:ByteArray} (h:s≠t):fT (wS d s).1 t=fT d t:=sx fun l c=>by
 unfold tc
 cases !k0 s with
 | true=>rfl
 | false =>
  cases (bm l s).isSome with
  | true=>rfl
  | false =>
   cases decide ((l.length:Int)≥130) with
   | true=>rfl
   | false =>
    show (bm (lu l (s,(ByteArray.empty,(0,())))) t).map _=_
    rw [BX (f:=(s,(ByteArray.empty,(0,())))) h]
theorem vy {d:Ty.d aA} {s t x:ByteArray} (h:s≠t):fT (iS d s x).1 t=fT d t:=sx fun l c=>by
 unfold zo
 cases (bm l s).isNone with
 | true=>rfl
 | false =>
  cases decide ((x.size:Int) > aH (c-(e9 l:Int))) with
  | true=>rfl
  | false =>
   show (bm (lZ (fun f=>(f.1,(f.2.1++x,f.2.2))) l s) t).map _=_
   rw [qx (h:=fun f:Ty.d dJ=>(f.1,(f.2.1++x,f.2.2))) (fun f=>rfl),kZ (fun q=>h q.symm)]
   rfl
theorem lQ {d:Ty.d aA} {s t:ByteArray}:fT (g8 d s).1 t=fT d t:=sx fun l c=>by
 unfold uz
 cases (bm l s).isNone with
 | true=>rfl
 | false =>
  show (bm (lZ (fun f=>(f.1,(f.2.1,((f.2.1.size:Int),f.2.2.2)))) l s) t).map _=_
  rw [qx (h:=fun f:Ty.d dJ=>(f.1,(f.2.1,((f.2.1.size:Int),f.2.2.2)))) (fun f=>rfl)]
  by_cases q:t=s
  · rw [q,bT]
    cases bm l s <;> rfl
  · rw [kZ q]
    rfl
theorem Kn {d:Ty.d aA} {s t:ByteArray} (h:s≠t):fT (vF d s).1 t=fT d t:=sx fun l c=>by
 unfold CU
 cases (bm l s).isNone with
 | true=>rfl
 | false =>
  show (bm (kO l s) t).map _=_
  rw [vZ (fun q=>h q.symm)]
theorem Jx {d:Ty.d aA} {a b t:ByteArray} (h1:a≠t) (h2:b≠t):fT (Bd d a b).1 t=fT d t:=sx fun l c=>by
 unfold Ck
 cases !k0 b with
 | true=>rfl
 | false =>
  simp only [aL]
  cases bm l a with
  | none=>rfl
  | some f =>
   cases seq a b with
   | true=>rfl
   | false =>
    show (bm (lu (kO (kO l a) b) (b,f.2)) t).map _=_
    rw [BX (f:=(b,f.2)) h2,vZ (fun q=>h2 q.symm),vZ (fun q=>h1 q.symm)]
theorem sL {d:Ty.d aA} {s x:ByteArray}:fT (iS d s x).1 s=bif (iS d s x).2==0 then (fT d s).map (·++x) else fT d s:=by
 unfold iS j4 fT
 cases c:(jZ d).2 != 0 with
 | true =>
  rw [af,p9]
  have:((jZ d).2==0)=false:=by unfold bne at c;simpa using c
  rw [this]
  rfl
 | false =>
  simp only [aL]
  unfold zo
  cases c1:bm d.1 s with
  | none=>simp only [Option.isNone_none,af];rw [c1];rfl
  | some f =>
   simp only [Option.isNone_some,aL]
   cases decide ((x.size:Int) > aH (d.2.1-(e9 d.1:Int))) with
   | true=>simp only [af];rw [c1];rfl
   | false =>
    simp only [aL]
    rw [qx (h:=fun f:Ty.d dJ=>(f.1,(f.2.1++x,f.2.2))) (fun f=>rfl),bT,c1]
    rfl
theorem nV {r:RD} {f:Ty.d aA→RD} {t:ByteArray} {x:Option ByteArray} (h1:fT r.1 t=x) (h2:∀ y,fT (f y).1 t=fT y t):fT (gV r f).1 t=x:=by
 unfold gV
 cases r.2==0 with
 | true=>exact (h2 _).trans h1
 | false=>exact h1
theorem En {d:Ty.d aA} {s t:ByteArray} (h:s≠t):fT (mN s d).1 t=fT d t:=by
 unfold mN
 cases (bm d.1 s).isSome with
 | true=>exact Kn h
 | false=>rfl
theorem lF {d:Ty.d aA} {s t:ByteArray} (h:s≠t):fT (bO s d).1 t=fT d t:=nV (En h) fun y=>KC h
theorem A0 {d:Ty.d aA} {s t x:ByteArray} (h:s≠t):fT (lR s x d).1 t=fT d t:=nV (nV (lF h) fun y=>vy h) fun y=>lQ
theorem gz {d:Ty.d aA} {v:Ty.d cZ} {t:ByteArray} (h1:iW≠t) (h2:dq≠t):fT (bi v d).1 t=fT d t:=nV (A0 h1) fun y=>Jx h1 h2
theorem mO {t:ByteArray}:∀ (l:List ByteArray) (d:Ty.d aA),(∀ s ∈ l,s≠t)→fT (eS l d).1 t=fT d t
 | [],_,_=>rfl
 | s::l,d,h=>by
  show fT (gV (mN s d) (eS l)).1 t=_
  exact nV (En (h s jo)) fun y=>mO l y fun q hq=>h q (lV _ hq)
def eR:jH→Ty.d aE→Ty.d aA→aY→(Ty.d aE × RD) × aY
 | [],st,d,ps=>((st,(d,0)),ps)
 | r::l,st,d,ps=>bif (fm st d r).1.2.2 != 0 then ((fm st d r).1,ps) else eR l (fm st d r).1.1 (fm st d r).1.2.1 (ps++[(fm st d r).2])
def Le (st:Ty.d aE) (dir:aT):Ty.d aE:=(st.1,(dir,st.2.2))
def sa (n:Nat) (q:(Ty.d aE × RD) × aY):Ty.d aE × RD :=
 bif q.1.2.2 != 0 then q.1 else bif (g8 q.1.2.1 (cv q.1.1)).2 != 0 then (q.1.1,tl (g8 q.1.2.1 (cv q.1.1))) else (Le q.1.1 (bQ q.1.1.2.1 (q.2.take n)),((g8 q.1.2.1 (cv q.1.1)).1,0))
def pX (st:Ty.d aE):Ty.d aE:=(st.1,(st.2.1,(st.2.2.1+1,st.2.2.2)))
def gP (st:Ty.d aE) (d:Ty.d aA) (l:kw):Ty.d aE × RD:=sa l.length (eR (il l st.2.2.1) (pX st) d [])
theorem pL:∀ (l:jH) (st:Ty.d aE) (d:Ty.d aA) (ps:aY) (B:Int),SR st (d,0) B→0≤B →
 SR (eR l st d ps).1.1 (eR l st d ps).1.2 (B+211*(l.length:Int))∧(eR l st d ps).1.1.2.1=st.2.1∧((eR l st d ps).1.2.2=0→(eR l st d ps).2.map fZ=ps.map fZ++l)
 | [],st,d,ps,B,h,_=>⟨⟨h.live,h.disk,h.lo,by have:=h.hi;show LE.le (α:=Int) st.2.2.2.1 _;rw [List.length_nil];omega⟩,rfl,fun _=>(List.append_nil _).symm⟩
 | r::l,st,d,ps,B,h,hB=>by
  obtain ⟨g1,g2,g3⟩:=qf h hB r
  unfold eR
  have el:((r::l).length:Int)=(l.length:Int)+1:=by rw [kU];omega
  cases c:(fm st d r).1.2.2 != 0 with
  | true =>
   refine ⟨⟨g1.live,g1.disk,g1.lo,?_⟩,g2,fun e=>?_⟩
   · have:=g1.hi
     show LE.le (α:=Int) (fm st d r).1.1.2.2.2.1 _
     omega
   · have e:(fm st d r).1.2.2=0:=e
     rw [e] at c
     cases c
  | false =>
   have e0:(fm st d r).1.2.2=0:=by unfold bne at c;simpa using c
   obtain ⟨k1,k2,k3⟩:=pL l (fm st d r).1.1 (fm st d r).1.2.1 (ps++[(fm st d r).2]) (B+211) ⟨g1.live,g1.disk,g1.lo,g1.hi⟩ (by omega)
   refine ⟨⟨k1.live,k1.disk,k1.lo,?_⟩,k2.trans g2,fun e=>?_⟩
   · have:=k1.hi
     show LE.le (α:=Int) (eR l (fm st d r).1.1 (fm st d r).1.2.1 (ps++[(fm st d r).2])).1.1.2.2.2.1 _
     omega
   · have:=k3 e
     show (eR l (fm st d r).1.1 (fm st d r).1.2.1 (ps++[(fm st d r).2])).2.map fZ=_
     rw [this,List.map_append,List.map_singleton,g3 e0,nQ]
     rfl
def qW:aT→kw→aT→aT
 | dir,[],_=>dir
 | dir,_::_,[]=>dir
 | dir,p::l,e::es=>qW (bif p.2.1 then iF dir p.1 else qJ dir e) l es
theorem pz (dir:aT) (es:aT):qW dir [] es=dir:=by cases es <;> rfl
theorem ww (b:Int):∀ (l:kw) (ps:aY) (q:jH) (dir:aT),ps.map fZ=l.map (fh b)++q→qW dir l (ps.map eQ)=bQ dir (ps.take l.length)
 | [],ps,q,dir,h=>by rw [List.length_nil,List.take_zero,pz];rfl
 | x::l,[],q,dir,h=>by cases h
 | x::l,p::ps,q,dir,h=>by
  rw [List.map_cons,List.map_cons,List.cons_append] at h
  injection h with h1 h2
  rw [List.map_cons,kU,List.take_succ_cons]
  unfold qW bQ
  rw [List.foldl_cons,ww b l ps q _ h2]
  unfold bQ
  congr 1
  unfold fN
  rw [show p.2.2.2.1=fh b x from h1]
  unfold fh
  cases x.2.1 <;> rfl
def wy (p:Ty.d ch):Ty.d aB:=(p.1,(0,(0,(0,(0,())))))
def ln (dir:aT) (l:kw):Int:=((qW dir l (l.map wy)).length:Int)
theorem IJ (l:aT) (e:Ty.d aB):(qJ l e).length≤l.length+1:=by
 unfold qJ
 rw [B_]
 have:=oP l e.1
 omega
theorem Aj {k:Nat} (hk:2 ^ 50≤k) {dir:aT} (hd:dir.length≤536870912) {l:kw} (hl:l.length≤1000):d_.f k dir l=some (ln dir l,()):=by
 have key:∀ (n:Nat) (i:Int) (s:aT),0≤i→i≤(l.length:Int)→(l.length:Int)-i<n→(s.length:Int)≤536870912+i→d_.l1 k n l i s=some (ln s (l.drop i.toNat),()):=fun n i s h0 h1 h2 hs=>by
  refine HE (L:=fun n i (s:aT)=>d_.l1 k n l i s) (R:=fun r s=>some (ln s r,())) (Ty.z ch) l (fun i s=>(s.length:Int)≤536870912+i) (fun n s hs=>?_) (fun n i s x rest h0 h1 hx hr hp ih=>?_) n i s h0 h1 h2 hs
  · simp (disch:=omega) only [d_.l1,d_.b1,aQ,aL]
    rfl
  · simp only [d_.l1,d_.b1]
    rw [aP h1,af,aI h0 h1,hx,aD (n:=i+1) (by omega) (by omega)]
    unfold ln
    simp only [List.map_cons,qW]
    cases c:x.2.1 with
    | true =>
     have:=oP s x.1
     simp only [af]
     rw [aI h0 h1,qI hk x.1 (by omega),ae]
     exact ih (iF s x.1) (by omega)
    | false =>
     have:=IJ s (wy x)
     have e:=rR hk (l:=s) (wy x) (by omega)
     unfold wy at e
     simp only [aL]
     rw [aI h0 h1,e,ae]
     exact ih (qJ s (wy x)) (by omega)
 obtain ⟨q,hq⟩:∃ q,k=q+1:=⟨k-1,by omega⟩
 have k1:=key (q+1) 0 dir (by omega) (by omega) (by omega) (by omega)
 unfold d_.f d_.t
 rw [show l.drop (0:Int).toNat=l from rfl] at k1
 refine Eq.trans ?_ k1
 rw [show d_.l0 k k=d_.l0 k (q+1) by rw [← hq]]
 rfl
theorem Dp (dir:aT) (ps:aY) (p:Ty.d aC):bQ dir (ps++[p])=fN (bQ dir ps) p:=by
 unfold bQ
 rw [List.foldl_append]
 rfl
theorem hF {c:Int} (h:(c != 0)=false):c=0:=by unfold bne at h;simpa using h
theorem AZ {k:Nat} (hk:2 ^ 50≤k) {st:Ty.d aE} {d:Ty.d aA} {l:kw} (h:SR st (d,0) 100000) (hb0:LE.le (α:=Int) 0 st.2.2.1) (hb:LE.le (α:=Int) st.2.2.1 1000000) (hp:kE l=true) (hd:st.2.1.length≤20) :
 bW.f k st d l=some ((gP st d l).1,((gP st d l).2.1,((gP st d l).2.2,()))):=by
 have hl:=ms hp
 unfold bW.f bW.t gP il
 rw [br (by omega) (by decide),List.nil_append,aD (n:=st.2.2.1+1) (by omega) (by omega)]
 generalize hbe:st.2.2.1=b at *
 rw [show pX st=((st.1,(st.2.1,(b+1,st.2.2.2))):Ty.d aE) from by unfold pX;rw [hbe]]
 refine dp (L:=fun n i (s:(Ty.d aE × Ty.d aA) × aY)=>bW.l0 k n b i l s.1.1.1.2.1 s.1.1.2.1 s.1.1.1.1 s.1.1.2.2.1 s.1.1.2.2.2.1 s.1.1.2.2.2.2.1 s.1.2.1 s.1.2.2.1 s.1.2.2.2.1 s.1.2.2.2.2.1 [] [] 0 0 0 0 [] 0 0 false (s.2.map fZ) (bQ s.1.1.2.1 s.2))
  (R:=fun r s=>(some ((sa l.length (eR (r.map (fh b)++[fM 3 b (l.map (fh b))]) s.1.1 s.1.2 s.2)).1,((sa l.length (eR (r.map (fh b)++[fM 3 b (l.map (fh b))]) s.1.1 s.1.2 s.2)).2.1,((sa l.length (eR (r.map (fh b)++[fM 3 b (l.map (fh b))]) s.1.1 s.1.2 s.2)).2.2,()))):bW.Rs))
  (Ty.z ch) l (fun i s=>SR s.1.1 (s.1.2,0) (100000+211*i)∧s.2.map fZ=(l.take i.toNat).map (fh b)∧s.1.1.2.1.length≤20) (fun n s hs=>?_) (fun n i s x rest h0 h1 hx hr hs ih=>?_) (n:=k) (s:=(((((st.1,(st.2.1,(b+1,st.2.2.2))):Ty.d aE)),d),[])) (by omega) ⟨⟨h.live,h.disk,h.lo,Int.le_trans h.hi (by decide)⟩,rfl,hd⟩
 · obtain ⟨⟨st',d'⟩,ps⟩:=s
   obtain ⟨g1,g2,g3⟩:=hs
   simp only [] at g1 g2 g3 ⊢
   rw [Int.toNat_natCast,List.take_length] at g2
   have hps:ps.length=l.length:=by simpa using congrArg List.length g2
   simp only [bW.l0,bW.b0]
   rw [aQ (by omega),aL,g2,uO hk (by rw [List.length_map];omega),ae]
   simp only []
   rw [show ((st'.1.1,(st'.1.2.1,())),(st'.2.1,(st'.2.2.1,(st'.2.2.2.1,(st'.2.2.2.2.1,())))))=st' from rfl,show (d'.1,(d'.2.1,(d'.2.2.1,(d'.2.2.2.1,()))))=d' from rfl,
    vv hk g1 (by omega) (by omega),ae]
   simp only [List.map_nil,List.nil_append,eR]
   obtain ⟨k1,k2,_⟩:=qf g1 (by omega) (fM 3 b (l.map (fh b)))
   generalize fm st' d' (fM 3 b (l.map (fh b)))=q at k1 k2 ⊢
   cases c:q.1.2.2 != 0 with
   | true =>
    simp only [af]
    unfold sa
    simp only [c,af]
   | false =>
    simp only [aL]
    rw [nw hk k1.live,ae]
    simp only []
    rw [lq hk (DR.sz k1.disk),ae]
    unfold sa
    simp only [show ((0:Int) != 0)=false from rfl,aL]
    generalize g8 q.1.2.1 (cv q.1.1)=y
    cases c2:y.2 != 0 with
    | true=>simp only [af,d7,ae];rfl
    | false =>
     simp only [aL]
     rw [k2,List.take_append_of_le_length (by omega),List.take_of_length_le (by omega)]
     rfl
 · obtain ⟨⟨st',d'⟩,ps⟩:=s
   obtain ⟨g1,g2,g3⟩:=hs
   simp only [] at g1 g2 g3 ih ⊢
   have hi:i.toNat<l.length:=by omega
   have hm:x ∈ l:=List.mem_of_mem_drop (i:=i.toNat) (by rw [hr];exact jo)
   have e:=G6 b (rt hp hm)
   have et:l.take (i+1).toNat=l.take i.toNat++[x]:=by
    rw [show (i+1).toNat=i.toNat+1 by omega,List.take_succ_eq_append_getElem hi]
    congr 2
    rw [← hx]
    simp [List.getD,hi]
   have hps:ps.length≤l.length:=by
    have:=congrArg List.length g2
    rw [List.length_map,List.length_map,List.length_take] at this
    omega
   obtain ⟨k1,k2,k3⟩:=qf g1 (by omega) (fh b x)
   have body:((dr.f k st' d' (fh b x)).bind fun r1=>(bif (r1.2.2.2.1 != 0) then (some (r1.1,(r1.2.1,r1.2.2.2))) else ((gw.f k (bQ st'.2.1 ps) r1.2.2.1).bind fun r2=>(rm (Ty.bytes bB) (List.length (ps.map fZ)+1)
    (bW.l0 k n b (aH (i+1)) l r1.1.1.2.1 r1.1.2.1 r1.1.1.1 r1.1.2.2.1 r1.1.2.2.2.1 r1.1.2.2.2.2.1 r1.2.1.1 r1.2.1.2.1 r1.2.1.2.2.1 r1.2.1.2.2.2.1 [] [] 0 0 0 0 [] 0 0 false (ps.map fZ++[fh b x]) r2.1))))) =
    (some ((sa l.length (eR ((x::rest).map (fh b)++[fM 3 b (l.map (fh b))]) st' d' ps)).1,((sa l.length (eR ((x::rest).map (fh b)++[fM 3 b (l.map (fh b))]) st' d' ps)).2.1,((sa l.length (eR ((x::rest).map (fh b)++[fM 3 b (l.map (fh b))]) st' d' ps)).2.2,()))):bW.Rs):=by
    rw [vv hk g1 (by omega) (by omega),ae]
    simp only [List.map_cons,List.cons_append,eR]
    have hk1:=k1.hi
    generalize fm st' d' (fh b x)=q at k1 k2 k3 hk1 ⊢
    cases c:q.1.2.2 != 0 with
    | true =>
     simp only [af]
     unfold sa
     simp only [c,af]
    | false =>
     simp only [aL]
     have hal:=pC ps st'.2.1
     rw [xB hk q.2 (by omega),ae,br (by rw [List.length_map];omega) (by decide),aD (n:=i+1) (by omega) (by omega)]
     have q3:=k3 (hF c)
     have e1:(ps++[q.2]).map fZ=ps.map fZ++[fh b x]:=by rw [List.map_append,List.map_singleton,q3]
     have e2:bQ q.1.1.2.1 (ps++[q.2])=fN (bQ st'.2.1 ps) q.2:=by rw [k2,Dp]
     have ih:=ih ((q.1.1,q.1.2.1),ps++[q.2]) ⟨⟨k1.live,k1.disk,k1.lo,by show LE.le (α:=Int) q.1.1.2.2.2.1 _;omega⟩,by simp only [];rw [e1,g2,et,List.map_append];rfl,by simp only [];rw [k2];exact g3⟩
     simp only [] at ih
     rw [e1,e2] at ih
     exact ih
   simp only [bW.l0,bW.b0]
   rw [aP h1,af,aI h0 h1,aI h0 h1,aI h0 h1,hx]
   rw [show ((st'.1.1,(st'.1.2.1,())),(st'.2.1,(st'.2.2.1,(st'.2.2.2.1,(st'.2.2.2.2.1,())))))=st' from rfl,show (d'.1,(d'.2.1,(d'.2.2.1,(d'.2.2.2.1,()))))=d' from rfl]
   cases c:x.2.1 with
   | true =>
    rw [c,af] at e
    simp only [af]
    rw [← e]
    exact body
   | false =>
    rw [c,aL] at e
    simp only [aL]
    rw [← e]
    exact body
noncomputable def g7 (st:Ty.d aE) (d:Ty.d aA) (l:kw):Ty.d aE × RD :=
 bif !cS st d then (st,(d,4)) else bif !kE l then (st,(d,4)) else bif (l.length:Int)==0 then (st,(d,0)) else bif decide (ln st.2.1 l > 20) then (st,(d,5)) else
 bif decide (st.2.2.1 > 1000000) then (st,(d,5)) else gP st d l
theorem yx {d:Ty.d aA} {tail:Int}:∀ {l:List Int},l≠[]→lh d tail l=true→∃ x,tail=((aR d (a_ aF x)).1.size:Int)
 | [],h,_=>absurd rfl h
 | [x],_,h=>by
  unfold lh Bh at h
  simp only [gX,List.isEmpty_nil,fa,Bool.false_or] at h
  exact ⟨x,IB h.1.2.2⟩
 | x::y::l,_,h=>by
  unfold lh at h
  rw [gX] at h
  exact yx (by intro q;cases q) h.2
theorem eT {st:Ty.d aE} {d:Ty.d aA} (h:cS st d=true):SR st (d,0) 100000∧st.2.1.length≤20∧LE.le (α:=Int) 1 st.2.2.1:=by
 unfold cS oW at h
 simp only [gX,decide_eq_true_eq] at h
 obtain ⟨h1,h2,⟨h3,_⟩,h4,h5,_⟩:=h
 obtain ⟨_,_,g1,_,_⟩:=bV (nx:=st.1.1) (ids:=st.1.2.1) h2
 have hd:=j9.1 h1
 obtain ⟨x,hx⟩:=yx (by intro q;rw [q] at g1;simp at g1) h5
 have hs:=fc d (a_ aF x)
 have hu:=hd.use
 have hc:=hd.cap1
 refine ⟨⟨h2,hd,?_,?_⟩,by omega,h4.1⟩
 · show LE.le (α:=Int) 0 st.2.2.2.1
   rw [hx]
   omega
 · show LE.le (α:=Int) st.2.2.2.1 100000
   rw [hx]
   have:LE.le (α:=Int) (e9 d.1) 100000:=Int.le_trans hu hc
   omega
theorem yJ {k:Nat} (hk:2 ^ 50≤k) {st:Ty.d aE} {d:Ty.d aA} (hd:xd d) (h1:st.1.2.1.length≤1073741824) (h2:st.2.1.length≤536870912) {l:kw} (hl:l.length≤1073741824) :
 gj.f k st d l=some ((g7 st d l).1,((g7 st d l).2.1,((g7 st d l).2.2,()))):=by
 have ec:d6.f k st=some (st,()):=by
  unfold d6.f d6.t
  rw [br (by omega) (by decide),br (by omega) (by decide),List.nil_append,List.nil_append]
 unfold gj.f gj.t g7
 rw [ec,ae]
 simp only []
 rw [im k hd,ae]
 simp only []
 rw [ma hk hd,ae]
 simp only []
 cases c1:cS st d with
 | false=>rfl
 | true =>
  simp only [fa,aL]
  rw [nt hk,ae]
  simp only []
  cases c2:kE l with
  | false=>rfl
  | true =>
   have h8:=ms c2
   obtain ⟨g1,g2,g3⟩:=eT c1
   simp only [fa,aL]
   cases c3:(l.length:Int)==0 with
   | true=>rfl
   | false =>
    simp only [aL]
    rw [Aj hk (by omega) (by omega),ae]
    simp only []
    cases c4:decide (ln st.2.1 l > 20) with
    | true=>rfl
    | false =>
     simp only [aL]
     by_cases c5:st.2.2.1 > (1000000:Int)
     · rw [aP c5];rfl
     · rw [aQ c5]
       simp only [aL]
       rw [AZ hk g1 (Int.le_trans (by decide) g3) (Int.not_lt.1 c5) c2 g2,ae]
theorem wq {p:ByteArray} (hp:p=aF∨p=dH) {n:Int} (h0:1≤n) (h1:n≤100000):F3 (a_ p n)=(n,true):=by
 have e:a_ p n=p++ga n:=by unfold a_;rw [aP ⟨h0,h1⟩];rfl
 have hn:IF (p++ga n) n:=⟨h0,h1,by rcases hp with q | q <;> rw [q] <;> simp⟩
 rw [e]
 rcases jU (IF (p++ga n)) (fun _=>p++ga n) (0:Int) (p++ga n) with ⟨r,g1,_,g3⟩ | g
 · unfold F3
   rw [g3,F7 g1 hn]
 · exfalso
   unfold nv at g
   rw [dif_pos ⟨n,hn,rfl⟩] at g
   cases (Prod.mk.inj g).2
theorem Cc (ids:List Int):∀ (l:bu) (acc:List ByteArray) (x:ByteArray),x ∈ qE ids l acc→x ∈ acc∨(((F3 x).2&&!wt ids (F3 x).1)||seq x iW)=true
 | [],acc,x,h => .inl h
 | f::l,acc,x,h=>by
  unfold qE at h
  rcases Cc ids l _ x h with q | q
  · cases c:tg ids f with
    | false=>rw [c] at q;exact .inl q
    | true =>
     rw [c,af] at q
     rcases List.mem_append.1 q with q | q
     · exact .inl q
     · rw [List.mem_singleton] at q
       subst q
       exact .inr c
  · exact .inr q
theorem Hy {d:Ty.d aA} {ids:List Int} {x:ByteArray} (h:x ∈ rS d ids):(((F3 x).2&&!wt ids (F3 x).1)||seq x iW)=true:=by
 unfold rS at h
 cases c:gg d with
 | false=>rw [c] at h;cases h
 | true =>
  rw [c,af] at h
  rcases Cc ids d.1 [] x h with q | q
  · cases q
  · exact q
def Ku (d:Ty.d aA) (s:ByteArray):Nat:=((fT d s).getD ⟨#[]⟩).size
def s6 (d:Ty.d aA) (ids:List Int):Nat:=(ids.map fun x=>Ku d (a_ aF x)).sum
def rN:aT→Int
 | []=>0
 | e::l=>e.2.2.2.1+rN l
theorem nB {x y:Int} (hx:1≤x∧x≤100000) (hy:1≤y∧y≤100000) (h:x≠y):a_ aF x≠a_ aF y:=fun q=>by
 have e1:=wq (.inl rfl) hx.1 hx.2
 have e2:=wq (.inl rfl) hy.1 hy.2
 rw [q,e2] at e1
 injection e1 with e1 _
 exact h e1.symm
theorem wi {x:Int} (hx:1≤x∧x≤100000):a_ aF x=aF++ga x:=by
 unfold a_
 rw [aP hx]
 rfl
theorem gh {x:Int} (hx:1≤x∧x≤100000):iW≠a_ aF x:=fun q=>by
 rw [wi hx] at q
 have:=congrArg nb q
 rw [gk] at this
 cases this
theorem ie {x:Int} (hx:1≤x∧x≤100000):dq≠a_ aF x:=fun q=>by
 rw [wi hx] at q
 have:=congrArg nb q
 rw [gk] at this
 cases this
theorem iQ {n:Int} {ids:List Int} (h:cH (n,(ids,()))=true):1≤n∧n≤100000∧(∀ x ∈ ids,1≤x∧x<n)∧ids.Pairwise (· < ·):=by
 obtain ⟨g1,g2,_⟩:=bV h
 unfold cH at h
 simp only [gX,decide_eq_true_eq] at h
 have h3:=h.2.2
 rw [aD (n:=n-1) (by omega) (by omega)] at h3
 have key:∀ (l:List Int) (p:Option Int),nS (mF (n-1)) p l=true→(∀ x ∈ l,1≤x∧x<n∧∀ y,p=some y→y<x)∧l.Pairwise (· < ·):=by
  intro l
  induction l with
  | nil=>exact fun p _=>⟨fun x hx=>(by cases hx),List.Pairwise.nil⟩
  | cons a l ih =>
   intro p hp
   simp only [nS,gX] at hp
   obtain ⟨q1,q2⟩:=hp
   unfold mF at q1
   rw [gX,decide_eq_true_eq] at q1
   obtain ⟨⟨b1,b2⟩,b3⟩:=q1
   have b1:1≤a:=b1
   have b2:a≤n-1:=b2
   obtain ⟨i1,i2⟩:=ih (some a) q2
   have ha:∀ y,p=some y→y<a:=fun y e=>by
    rw [e] at b3
    exact of_decide_eq_true b3
   refine ⟨fun x hx=>?_,?_⟩
   · rcases List.mem_cons.1 hx with e | e
     · rw [e]
       exact ⟨b1,by omega,ha⟩
     · obtain ⟨c1,c2,c3⟩:=i1 x e
       have:=c3 a rfl
       exact ⟨c1,c2,fun y ey=>Int.lt_trans (ha y ey) this⟩
   · exact List.Pairwise.cons (fun x hx=>(i1 x hx).2.2 a rfl) i2
 obtain ⟨k1,k2⟩:=key ids none h3
 exact ⟨g1,g2,fun x hx=>⟨(k1 x hx).1,(k1 x hx).2.1⟩,k2⟩
theorem yu {d d':Ty.d aA}:∀ {ids:List Int},(∀ x ∈ ids,fT d' (a_ aF x)=fT d (a_ aF x))→s6 d' ids=s6 d ids
 | [],_=>rfl
 | x::l,h=>by
  unfold s6 at *
  rw [List.map_cons,List.map_cons,List.sum_cons,List.sum_cons]
  have e1:Ku d' (a_ aF x)=Ku d (a_ aF x):=by unfold Ku;rw [h x jo]
  have e2:=yu (ids:=l) fun y hy=>h y (lV _ hy)
  unfold s6 at e2
  rw [e1,e2]
theorem lx {ids:List Int} (h:1≤ids.length):ids=ids.dropLast++[ac ids]:=by
 have hne:ids≠[]:=by intro q;rw [q] at h;simp at h
 have e:ac ids=ids.getLast hne:=by
  unfold ac
  rw [List.getLast_eq_getElem]
  simp [List.getD,show ids.length-1<ids.length by omega]
 rw [e]
 exact (List.dropLast_concat_getLast hne).symm
abbrev zM:=List (Ty.d cA)
def bD (id:Int) (l:zM):aY:=l.map fun x=>(id,x)
theorem pf (id:Int) (l:zM):(bD id l).length=l.length:=by unfold bD;rw [List.length_map]
theorem yV {k:Nat} (hk:2 ^ 50≤k) (id:Int) {l:zM} (hl:l.length≤1099511627775):fi.f k id l=some (bD id l,()):=by
 unfold fi.f fi.t
 refine (dp (L:=fun n i s=>fi.l0 k n id l l.length i s) (R:=fun r s=>some (s++bD id r,())) (Ty.z cA) l (fun i s=>(s.length:Int)=i) (fun n s hs=>?_) (fun n i s x rest h0 h1 hx hr hp ih=>?_) (n:=k) (s:=[]) (by omega) (by decide)).trans (by rw [List.nil_append])
 · simp (disch:=omega) only [fi.l0,fi.b0,aQ,aL,bD,List.map_nil,List.append_nil]
 · have ih:=ih (s++[(id,x)]) (by rw [bN];omega)
   simp (disch:=first | omega | decide) only [fi.l0,fi.b0,aP,af,aI,hx,br,aD]
   refine ih.trans ?_
   simp only [bD,List.map_cons,nQ,List.cons_append,List.nil_append]
theorem rU {k:Nat} (hk:2 ^ 50≤k) (id:Int) {s:ByteArray} (hs:s.size≤1099511627775):ba.f k id s=some (bD id (b_ s).1,()):=by
 unfold ba.f ba.t
 rw [mD hk hs,ae]
 have hl:=(jM s).1
 simp only []
 generalize (b_ s).1=l at *
 refine (dp (L:=fun n i s=>ba.l0 k n id i s l) (R:=fun r s=>some (s++bD id r,())) (Ty.z cA) l (fun i s=>(s.length:Int)=i) (fun n s hs=>?_) (fun n i s x rest h0 h1 hx hr hp ih=>?_) (n:=k) (s:=[]) (by omega) (by decide)).trans (by rw [List.nil_append])
 · simp (disch:=omega) only [ba.l0,ba.b0,aQ,aL,bD,List.map_nil,List.append_nil]
 · have ih:=ih (s++[(id,x)]) (by rw [bN];omega)
   simp (disch:=first | omega | decide) only [ba.l0,ba.b0,aP,af,aI,hx,br,aD]
   refine ih.trans ?_
   simp only [bD,List.map_cons,nQ,List.cons_append,List.nil_append]
def oT:Ty.d gZ:=(0,(0,([],())))
def FH (s0:Int) (e:Ty.d aB):Bool:=(e.2.1==s0)&&!decide ((e.2.2.1:Int) > 100000)
def B3 (l:aT):Bool:=l.all (FH (l.getD 0 (Ty.z aB)).2.1)
def lf (h:Ty.d gZ):Bool:=decide ((0:Int)≤h.1∧h.1≤100000)&&(decide ((0:Int)≤h.2.1∧h.2.1≤1000000)&&(oW h.2.2.1&&B3 h.2.2.1))
def jO (e:Ty.d aB):ByteArray:=jB e.1++(gu e.2.1++(gu e.2.2.1++(gu e.2.2.2.1++gu e.2.2.2.2.1)))
def ke:aT→ByteArray
 | []=>⟨#[]⟩
 | e::l=>jO e++ke l
def rQ (h:Ty.d gZ):ByteArray:=gu h.1++(gu h.2.1++(gu (h.2.2.1.length:Int)++ke h.2.2.1))
def d8 (h:Ty.d gZ):ByteArray:=if lf h=true then sy (pZ (rQ h))++rQ h else ⟨#[]⟩
theorem yR {k:Nat} (hk:2 ^ 50≤k) (h:Ty.d gZ):gR.f k h=some (lf h,()):=by
 unfold gR.f gR.t lf
 rw [dT,ae]
 cases decide ((0:Int)≤h.1∧h.1≤100000) with
 | false=>rfl
 | true =>
  simp only [fa,aL,Bool.true_and]
  rw [dT,ae]
  cases decide ((0:Int)≤h.2.1∧h.2.1≤1000000) with
  | false=>rfl
  | true =>
   simp only [fa,aL,Bool.true_and]
   rw [vf hk,ae]
   cases cd:oW h.2.2.1 with
   | false=>rfl
   | true =>
    simp only [fa,aL,Bool.true_and]
    have hl:h.2.2.1.length≤20:=by
     unfold oW at cd
     rw [gX,decide_eq_true_eq] at cd
     have:=cd.1
     omega
    unfold B3
    refine dp (L:=fun n i (_:Unit)=>gR.l0 k n i h.1 h.2.1 h.2.2.1) (R:=fun r _=>some (r.all (FH (h.2.2.1.getD 0 (Ty.z aB)).2.1),())) (Ty.z aB) h.2.2.1 (fun _ _=>True) (fun n _ _=>?_) (fun n i _ x rest h0 h1 hx hr hp ih=>?_) (n:=k) (s:=()) (by omega) trivial
    · simp only [gR.l0,gR.b0]
      rw [aQ (by omega),aL]
      rfl
    · have ih:=ih () trivial
      simp only [gR.l0,gR.b0]
      rw [aP h1,af,aI h0 h1,aI (by omega) (by omega),hx,aI h0 h1,aD (n:=i+1) (by omega) (by omega),ih,List.all_cons]
      unfold FH bne
      cases x.2.1==(h.2.2.1.getD 0 (Ty.z aB)).2.1 <;> cases decide ((x.2.2.1:Int) > 100000) <;> rfl
theorem ky {l:aT} (h:oW l=true):l.length≤20∧∀ e ∈ l,(1≤e.1.size∧e.1.size≤8)∧(LE.le (α:=Int) 1 e.2.1∧LE.le (α:=Int) e.2.1 100000)∧LE.le (α:=Int) 0 e.2.2.1∧(LE.le (α:=Int) 1 e.2.2.2.1∧LE.le (α:=Int) e.2.2.2.1 210)∧(LE.le (α:=Int) 1 e.2.2.2.2.1∧LE.le (α:=Int) e.2.2.2.2.1 1000000):=by
 unfold oW at h
 rw [gX,decide_eq_true_eq] at h
 refine ⟨by have:=h.1;omega,fun e he=>?_⟩
 obtain ⟨q,hq⟩:=Ae h.2 he
 unfold oR lU at hq
 rw [gX,gX,gX,gX,gX,decide_eq_true_eq,decide_eq_true_eq,decide_eq_true_eq,decide_eq_true_eq] at hq
 obtain ⟨g1,g2,g3,g4,g5,_⟩:=hq
 have g3':¬ LT.lt (α:=Int) e.2.2.1 0:=by
  intro q
  have:(!decide (e.2.2.1<(0:Int)))=false:=by rw [aP q];rfl
  rw [this] at g3
  cases g3
 exact ⟨by omega,g2,Int.not_lt.1 g3',g4,g5⟩
theorem oU {h:Ty.d gZ} (q:lf h=true):oW h.2.2.1=true:=by
 unfold lf at q
 rw [gX,gX,gX] at q
 exact q.2.2.1
theorem zI {e:Ty.d aB}:(jO e).size≤35+e.1.size:=by
 have a:=bI (e.1.size:Int)
 have b:=bI e.2.1
 have c:=bI e.2.2.1
 have d:=bI e.2.2.2.1
 have f:=bI e.2.2.2.2.1
 unfold jO jB
 simp only [aO]
 omega
theorem xY:∀ {l:aT},(∀ e ∈ l,e.1.size≤8)→(ke l).size≤43*l.length
 | [],_=>Nat.zero_le _
 | e::l,h=>by
  have h1:=h e (jo ..)
  have h2:=xY (l:=l) fun x hx=>h x (lV _ hx)
  have h3:=zI (e:=e)
  unfold ke
  rw [aO,kU]
  omega
theorem D7 {h:Ty.d gZ} (q:lf h=true):(rQ h).size≤900:=by
 obtain ⟨h1,h2⟩:=ky (oU q)
 have:=xY (l:=h.2.2.1) fun e he=>(h2 e he).1.2
 have a:=bI h.1
 have b:=bI h.2.1
 have c:=bI (h.2.2.1.length:Int)
 unfold rQ
 simp only [aO]
 omega
theorem o9 (h:Ty.d gZ):(d8 h).size≤904:=by
 unfold d8
 by_cases q:lf h=true
 · have:=D7 q
   rw [if_pos q,aO,show (sy (pZ (rQ h))).size=4 from rfl]
   omega
 · rw [if_neg q];decide
theorem ki {k:Nat} (hk:2 ^ 50≤k) (h:Ty.d gZ):dL.f k h=some (d8 h,()):=by
 unfold dL.f dL.t d8
 rw [yR hk,ae]
 cases q:lf h with
 | false=>rfl
 | true =>
  obtain ⟨h1,h2⟩:=ky (oU q)
  have a:=bI h.1
  have b:=bI h.2.1
  have c:=bI (h.2.2.1.length:Int)
  rw [fa,aL,gO hk,ae,gO hk,ae,if_pos rfl]
  simp only []
  rw [dm (by omega),gO hk,ae]
  simp only []
  rw [dm (by rw [aO];omega)]
  refine (dp (L:=fun n i s=>dL.l0 k n s i h.1 h.2.1 h.2.2.1) (R:=fun r s=>some (sy (pZ (s++ke r))++(s++ke r),())) (Ty.z aB) h.2.2.1 (fun i s=>(s.size:Int)≤21+43*i) (fun n s hs=>?_) (fun n i s x rest g0 g1 hx hr hs ih=>?_) (n:=k) (s:=gu h.1++gu h.2.1++gu (h.2.2.1.length:Int)) (by omega) (by rw [aO,aO];omega)).trans (by unfold rQ;rw [am,am])
  · have hc:=t8 s
    simp only [dL.l0,dL.b0]
    rw [aQ (by omega),aL,sG hk (by omega),ae]
    simp only []
    rw [pJ hk hc.1 hc.2,ae]
    simp only []
    rw [dm (by rw [show (sy (pZ s)).size=4 from rfl];omega),show ke []=⟨#[]⟩ from rfl,jS]
  · have hm:x ∈ h.2.2.1:=by rw [← hx];exact gl (by omega)
    have hz:=(h2 x hm).1.2
    have v1:=bI (x.1.size:Int)
    have v2:=bI x.2.1
    have v3:=bI x.2.2.1
    have v4:=bI x.2.2.2.1
    have v5:=bI x.2.2.2.2.1
    have ih:=ih (s++jO x) (by have:=zI (e:=x);rw [aO];omega)
    simp only [dL.l0,dL.b0]
    rw [aP g1,af,aI g0 g1,hx]
    simp only [gO hk,ae]
    rw [dm (by omega),dm (by rw [aO];omega),dm (by rw [aO,aO];omega),dm (by rw [aO,aO,aO];omega),dm (by rw [aO,aO,aO,aO];omega),dm (by rw [aO,aO,aO,aO,aO];omega),aD (n:=i+1) (by omega) (by omega)]
    have e:s++gu (x.1.size:Int)++x.1++gu x.2.1++gu x.2.2.1++gu x.2.2.2.1++gu x.2.2.2.2.1=s++jO x:=by
     unfold jO jB
     simp only [am]
    rw [e,ih]
    rw [show ke (x::rest)=jO x++ke rest from rfl,am]
def rE (x y:Ty.d aB):Bool:=(seq x.1 y.1)&&((x.2.1==y.2.1)&&((x.2.2.1==y.2.2.1)&&((x.2.2.2.1==y.2.2.2.1)&&(x.2.2.2.2.1==y.2.2.2.2.1))))
def tP:aT→aT→Bool
 | [],[]=>true
 | x::l,y::m=>rE x y&&tP l m
 | _,_=>false
theorem Bt {x y:Ty.d aB}:rE x y=true↔x=y:=by
 unfold rE
 simp only [gX,beq_iff_eq,dy]
 constructor
 · rintro ⟨h1,h2,h3,h4,h5⟩
   obtain ⟨a,b,c,d,e,_⟩:=x
   obtain ⟨a',b',c',d',e',_⟩:=y
   simp only at h1 h2 h3 h4 h5
   subst h1 h2 h3 h4 h5
   rfl
 · rintro rfl;exact ⟨rfl,rfl,rfl,rfl,rfl⟩
theorem uC:∀ {l m:aT},tP l m=true↔l=m
 | [],[]=>⟨fun _=>rfl,fun _=>rfl⟩
 | [],y::m=>⟨fun h=>(by cases h),fun h=>(by cases h)⟩
 | x::l,[]=>⟨fun h=>(by cases h),fun h=>(by cases h)⟩
 | x::l,y::m=>by
  unfold tP
  rw [gX,Bt,uC,List.cons.injEq]
theorem Gh:∀ {l m:aT},l.length≠m.length→tP l m=false:=fun {l m} h=>by
 cases c:tP l m with
 | false=>rfl
 | true=>rw [uC.1 c] at h;exact absurd rfl h
theorem tn {α:Type} {l:List α} {i:Nat} (z:α) (h:i<l.length):l.drop i=l.getD i z::l.drop (i+1):=by
 rw [List.drop_eq_getElem_cons h]
 simp [List.getD,h]
theorem xT {k:Nat} (hk:2 ^ 50≤k) {l m:aT} (hl:l.length≤1073741824):fD.f k l m=some (tP l m,()):=by
 unfold fD.f fD.t
 by_cases hne:l.length=m.length
 · rw [show ((l.length:Int) != (m.length:Int))=false by rw [hne];simp,aL]
   refine (KV (L:=fun n i (_:Unit)=>fD.l0 k n l m i) (R:=fun i _=>some (tP (l.drop i.toNat) (m.drop i.toNat),())) l.length (fun _ _=>True) (fun n _ _=>?_) (fun n i _ h0 h1 _ ih=>?_) k 0 () (by omega) (by omega) (by omega) trivial).trans (by simp)
   · simp only [fD.l0,fD.b0]
     rw [aQ (by omega),aL,nr,List.drop_length,hne,List.drop_length]
     rfl
   · have ih:=ih () trivial
     have c1:i.toNat<l.length:=by omega
     simp only [fD.l0,fD.b0]
     rw [aP h1,af,aI h0 h1,aI h0 (by omega),aD (n:=i+1) (by omega) (by omega),ih,tn (Ty.z aB) c1,tn (Ty.z aB) (l:=m) (i:=i.toNat) (by omega),show (i+1).toNat=i.toNat+1 by omega]
     show _=some (rE _ _&&tP _ _,())
     show (bif !(rE (l.getD i.toNat (Ty.z aB)) (m.getD i.toNat (Ty.z aB))) then _ else _)=_
     cases rE (l.getD i.toNat (Ty.z aB)) (m.getD i.toNat (Ty.z aB)) <;> rfl
 · rw [show ((l.length:Int) != (m.length:Int))=true from bne_iff_ne.2 (by omega),af,Gh hne]
def nq (mark:Int) (p:Option (Ty.d cA)) (x:Ty.d cA):Bool :=
 (x.2.2.1.1==4)&&(!decide ((x.2.2.1.2.1:Int) > mark)&&(match p with | none=>true | some y=>mw y.2.2.1.2.2.1 x.2.2.1.2.2.1))
def Ci (id:Int) (x:Ty.d cA):Ty.d aB:=(x.2.2.1.2.2.1,(id,(x.1,(x.2.1,(x.2.2.1.2.1,())))))
noncomputable def gA (id:Int) (s:ByteArray):Ty.d gZ × Bool :=
 bif (b_ s).2 != (s.size:Int) then (oT,false) else bif (b_ s).1.length==0 then (oT,false) else
 bif ((b_ s).1.getD ((b_ s).1.length-1) (Ty.z cA)).2.2.1.1 != 5 then (oT,false) else
 bif !decide ((1:Int)≤id∧id≤100000) then (oT,false) else
 bif !nS (nq ((b_ s).1.getD ((b_ s).1.length-1) (Ty.z cA)).2.2.1.2.1) none ((b_ s).1.take ((b_ s).1.length-1)) then (oT,false) else
 bif !gd ((b_ s).1.getD ((b_ s).1.length-1) (Ty.z cA)).2.2.1 (bD id ((b_ s).1.take ((b_ s).1.length-1))) then (oT,false) else
 (((s.size:Int),(((b_ s).1.getD ((b_ s).1.length-1) (Ty.z cA)).2.2.1.2.1,(((b_ s).1.take ((b_ s).1.length-1)).map (Ci id),()))),true)
theorem vM (id:Int):seq (a_ aF id) ⟨#[]⟩=!decide ((1:Int)≤id∧id≤100000):=by
 by_cases h:(1:Int)≤id∧id≤100000
 · rw [aP h]
   have e:a_ aF id=aF++ga id:=by unfold a_;rw [aP h];rfl
   rw [e,kZ fun q=>?_]
   · rfl
   · have:=congrArg ByteArray.size q
     rw [aO] at this
     have s3:aF.size=3:=rfl
     have s0:(⟨#[]⟩:ByteArray).size=0:=rfl
     omega
 · rw [aQ h]
   have e:a_ aF id=⟨#[]⟩:=by unfold a_;rw [aQ h];rfl
   rw [e,bT]
   rfl
theorem rJ {k:Nat} (hk:2 ^ 50≤k) (id:Int) {s:ByteArray} (hs:s.size≤1073741823):dW.f k id s=some ((gA id s).1,((gA id s).2,())):=by
 have hln:=jM s
 unfold dW.f dW.t gA
 rw [mD hk (by omega),ae]
 simp only []
 generalize b_ s=sc at hln ⊢
 obtain ⟨l,en⟩:=sc
 simp only at hln ⊢
 cases en != (s.size:Int) with
 | true=>rfl
 | false =>
  simp only [aL]
  by_cases h0:l.length=0
  · rw [show ((l.length:Int)==0)=true by rw [h0];rfl,show (l.length==0)=true by rw [h0];rfl]
    rfl
  · rw [show ((l.length:Int)==0)=false from mP (by omega),show (l.length==0)=false from mP h0]
    simp only [aL]
    have w1:aH ((l.length:Int)-1)=((l.length-1:Nat):Int):=by rw [aD (by omega) (by omega)];omega
    rw [w1,nr,aI (by omega) (by omega),aI (by omega) (by omega)]
    generalize hm:l.getD (l.length-1) (Ty.z cA)=m
    cases m.2.2.1.1 != 5 with
    | true=>rfl
    | false =>
     simp only [aL]
     rw [bJ hk,ae]
     simp only [vM]
     cases decide ((1:Int)≤id∧id≤100000) with
     | false=>rfl
     | true =>
      simp only [fa,aL]
      have hpl:(l.take (l.length-1)).length=l.length-1:=by rw [List.length_take];omega
      refine (qX (L:=fun n i=>dW.l0 k n id i [] 0 0 l ((l.take i.toNat).map (Ci id)) (s.size:Int) m.2.2.1.2.1 ((l.take i.toNat).map fun x=>x.2.2.1)) (Ty.z cA) (l.take (l.length-1)) (nq m.2.2.1.2.1)
       (bif !gd m.2.2.1 (bD id (l.take (l.length-1))) then some (oT,(false,())) else some (((s.size:Int),(m.2.2.1.2.1,((l.take (l.length-1)).map (Ci id),()))),(true,()))) (some (oT,(false,()))) (fun n=>?_) (fun n x h hx=>?_) (fun n i x y h0 h1 hx hy=>?_) (n:=k) (by omega)).trans (by
        cases nS (nq m.2.2.1.2.1) none (l.take (l.length-1)) <;> cases gd m.2.2.1 (bD id (l.take (l.length-1))) <;> rfl)
      · simp only [dW.l0,dW.b0]
        rw [hpl,nr,aD (n:=((l.length-1:Nat):Int)+1) (by omega) (by omega),aQ (by omega),aL,w1,nr,aI (by omega) (by omega),hm,pF hk (by rw [List.length_map,hpl];omega),ae,List.length_map,hpl]
        unfold gd bD bne
        rw [List.length_map,hpl,List.map_map]
        show (bif !(m.2.2.1.2.2.2.2.1==((l.length-1:Nat):Int)) then _ else bif !(m.2.2.1.2.2.2.2.2.1==v7 ((l.take (l.length-1)).map fun x=>x.2.2.1)) then _ else _)=bif !((m.2.2.1.2.2.2.2.1==((l.length-1:Nat):Int))&&(m.2.2.1.2.2.2.2.2.1==v7 ((l.take (l.length-1)).map fun x=>x.2.2.1))) then _ else _
        cases m.2.2.1.2.2.2.2.1==((l.length-1:Nat):Int) <;> cases m.2.2.1.2.2.2.2.2.1==v7 ((l.take (l.length-1)).map fun x=>x.2.2.1) <;> rfl
      · rw [hpl] at h
        have hx':l.getD 0 (Ty.z cA)=x:=by rw [← hx,show Int.toNat 0=0 from rfl,mq (by omega)]
        simp only [dW.l0,dW.b0]
        rw [aD (n:=(0:Int)+1) (by omega) (by omega),aP (by omega),af,aI (by omega) (by omega),show Int.toNat 0=0 from rfl,hx',aQ (show ¬ (0:Int) > 0 by omega),aL,br (by simp) (by decide),aI (by omega) (by omega),aI (by omega) (by omega),br (by simp) (by decide),show Int.toNat 1=0+1 from rfl,n6 (z:=Ty.z cA) (show 0<l.length by omega),hx']
        simp only [nq,bne]
        cases x.2.2.1.1==4 <;> cases decide ((x.2.2.1.2.1:Int) > m.2.2.1.2.1) <;> rfl
      · rw [hpl] at h1
        have hx':l.getD i.toNat (Ty.z cA)=x:=by rw [← hx,mq (by omega)]
        have hy':l.getD (i-1).toNat (Ty.z cA)=y:=by rw [← hy,mq (by omega)]
        simp only [dW.l0,dW.b0]
        rw [aD (n:=i+1) (by omega) (by omega),aP (by omega),af,aI (by omega) (by omega),hx',aP (show i > 0 by omega),aD (n:=i-1) (by omega) (by omega),aI (by omega) (by omega),hy',m4,br (by rw [List.length_map,List.length_take];omega) (by decide),aI (by omega) (by omega),aI (by omega) (by omega),br (by rw [List.length_map,List.length_take];omega) (by decide),show (i+1).toNat=i.toNat+1 by omega,n6 (z:=Ty.z cA) (show i.toNat<l.length by omega),hx',List.map_append,List.map_append]
        simp only [nq,bne]
        cases x.2.2.1.1==4 <;> cases decide ((x.2.2.1.2.1:Int) > m.2.2.1.2.1) <;> cases mw y.2.2.1.2.2.1 x.2.2.1.2.2.1 <;> rfl
noncomputable def mj (id:Int) (s:ByteArray) (h:Ty.d gZ):Bool:=(gA id s).2&&(((gA id s).1.1==h.1)&&(((gA id s).1.2.1==h.2.1)&&tP (gA id s).1.2.2.1 h.2.2.1))
theorem D5 (id:Int) {s:ByteArray} (hs:s.size≤1073741823):(gA id s).1.2.2.1.length≤1073741824:=by
 have hln:=jM s
 unfold gA
 generalize b_ s=sc at hln ⊢
 obtain ⟨l,en⟩:=sc
 simp only at hln ⊢
 cases en != (s.size:Int)
 · cases l.length==0
   · cases (l.getD (l.length-1) (Ty.z cA)).2.2.1.1 != 5
     · cases !decide ((1:Int)≤id∧id≤100000)
       · cases !nS (nq (l.getD (l.length-1) (Ty.z cA)).2.2.1.2.1) none (l.take (l.length-1))
         · cases !gd (l.getD (l.length-1) (Ty.z cA)).2.2.1 (bD id (l.take (l.length-1)))
           · show ((l.take (l.length-1)).map (Ci id)).length≤1073741824
             rw [List.length_map,List.length_take]
             omega
           · exact Nat.zero_le _
         · exact Nat.zero_le _
       · exact Nat.zero_le _
     · exact Nat.zero_le _
   · exact Nat.zero_le _
 · exact Nat.zero_le _
theorem vH {k:Nat} (hk:2 ^ 50≤k) (id:Int) {s:ByteArray} (hs:s.size≤1073741823) (h:Ty.d gZ):gS.f k id s h=some (mj id s h,()):=by
 have hl:=D5 id hs
 unfold gS.f gS.t mj
 rw [rJ hk id hs,ae]
 simp only []
 rw [xT hk hl,ae]
 cases (gA id s).2 <;> cases (gA id s).1.1==h.1 <;> cases (gA id s).1.2.1==h.2.1 <;> rfl
end Go.Proofs.YthjppgafienaoabGreatDoor.G
namespace Go.V
def jg {α:Type} (o:Option α) (P:α→Prop):Prop:=∃ r,o=some r∧P r
section
variable {α β:Type} {P P':α→Prop} {Q:β→Prop}
theorem aX {r:α} (h:P r):jg (some r) P:=⟨r,rfl,h⟩
theorem Dw {o:Option α} {r:α} (e:o=some r) (h:P r):jg o P:=⟨r,e,h⟩
theorem KB {o:Option α} {r:α} (h:jg o (fun x=>x=r)):o=some r:=by
 obtain ⟨x,e,rfl⟩:=h
 exact e
theorem oe {o:Option α} (h:jg o P) (hp:∀ r,P r→P' r):jg o P':=by
 obtain ⟨r,e,hr⟩:=h
 exact ⟨r,e,hp r hr⟩
theorem aj {o:Option α} {g:α→Option β} (h:jg o P) (hg:∀ r,P r→jg (g r) Q):jg (Option.bind o g) Q:=by
 obtain ⟨r,e,hr⟩:=h
 rw [e]
 exact hg r hr
theorem ai {o:Option α} {r:α} {g:α→Option β} (e:o=some r) (hg:jg (g r) Q):jg (Option.bind o g) Q:=by
 rw [e]
 exact hg
theorem ap {b:Bool} {x y:Option α} (h1:b=true→jg x P) (h2:b=false→jg y P):jg (bif b then x else y) P:=by
 cases b
 · exact h2 rfl
 · exact h1 rfl
theorem iu {b:Bool} {x y:Option α} (hb:b=true) (h:jg x P):jg (bif b then x else y) P:=by rw [hb];exact h
theorem mW {b:Bool} {x y:Option α} (hb:b=false) (h:jg y P):jg (bif b then x else y) P:=by rw [hb];exact h
theorem fq {i n:Int} {x:Option α} (h0:0≤i) (h1:i<n) (h:jg x P):jg (bF i n x) P:=by rw [aI h0 h1];exact h
theorem qp {i n:Int} {x:Option α} (h0:0≤i) (h1:i≤n) (h:jg x P):jg (nR i n x) P:=by rw [cC h0 h1];exact h
theorem o8 {b n:Nat} {x:Option α} (h0:n≤1099511627776) (hb:b≤128) (h:jg x P):jg (rm b n x) P:=by rw [br h0 hb];exact h
theorem IU {a b:ByteArray} {x:Option α} (h0:a.size+b.size≤4611686018427387904) (h:jg x P):jg (kW a b x) P:=by rw [dm h0];exact h
end
end Go.V
namespace Go.Proofs.YthjppgafienaoabGreatDoor.G
open Go.V
noncomputable def iG (s:ByteArray):Ty.d gZ × Bool:=nv (fun h=>lf h=true) d8 oT s
def RH (s:ByteArray) (o:Option (Ty.d gZ × Bool × Unit)):Prop:=(∃ h,lf h=true∧d8 h=s∧o=some (h,(true,())))∨o=some (oT,(false,()))
theorem Bn (s:ByteArray):RH s (some (oT,(false,()))) := .inr rfl
theorem Gq {s:ByteArray} (hs:4≤s.size) (h:Ty.d gZ):RH s (bif !seq (d8 h) s then some (oT,(false,())) else some (h,(true,()))):=by
 cases c:seq (d8 h) s with
 | false=>exact .inr rfl
 | true =>
  have e:=dy.1 c
  refine .inl ⟨h,?_,e,rfl⟩
  cases q:lf h with
  | true=>rfl
  | false =>
   unfold d8 at e
   rw [if_neg (by rw [q];decide)] at e
   rw [← e] at hs
   exact absurd hs (by decide)
theorem Fa {k:Nat} (hk:2 ^ 50≤k) {s:ByteArray} (hs:s.size≤1073741824) {m:Int} (h0:0≤m) (hm:m≤4):∀ (d n:Nat) (pos j:Int) (out:List Int),j+(d:Int)=m→0≤j→d<n→0≤pos→pos≤s.size→(out.length:Int)=j →
 jg (bg.l0 k n s pos m j out) (fun r=>(r.2.1 = -1∨(pos≤r.2.1∧r.2.1≤(s.size:Int)))∧(r.1.length:Int)=m):=by
 intro d
 induction d with
 | zero =>
  intro n pos j out h1 h2 hn h3 h4 h5
  obtain ⟨n,rfl⟩:∃ q,n=q+1:=⟨n-1,by omega⟩
  simp only [bg.l0,bg.b0]
  exact mW (aQ (by omega)) (aX ⟨.inr ⟨Int.le_refl _,h4⟩,by show (out.length:Int)=m;omega⟩)
 | succ d ih =>
  intro n pos j out h1 h2 hn h3 h4 h5
  obtain ⟨n,rfl⟩:∃ q,n=q+1:=⟨n-1,by omega⟩
  have hr:=As (ByteArray.extract s pos.toNat s.size)
  rw [oO] at hr
  simp only [bg.l0,bg.b0]
  refine iu (aP (by omega)) (qp h3 h4 (ai (fV hk _) ?_))
  generalize Dh (rv 7 (nb (ByteArray.extract s pos.toNat s.size)))=r at hr
  refine ap (fun _=>?_) (fun _=>?_)
  · rw [Az h0 (by omega) (by decide)]
    exact aX ⟨.inl rfl,by show ((List.replicate m.toNat _).length:Int)=m;rw [List.length_replicate];omega⟩
  · rw [aD (n:=pos+r.2.1) (by omega) (by omega),aD (n:=j+1) (by omega) (by omega)]
    refine o8 (by omega) (by decide) (oe (ih n (pos+r.2.1) (j+1) (out++[r.1]) (by omega) (by omega) (by omega) (by omega) (by omega) (by rw [bN];omega)) fun x hx=>⟨?_,hx.2⟩)
    rcases hx.1 with q | q
    · exact .inl q
    · exact .inr ⟨by omega,q.2⟩
theorem BV {k:Nat} (hk:2 ^ 50≤k) {s:ByteArray} (hs:s.size≤1073741824) {m pos:Int} (h0:0≤m) (hm:m≤4) (h1:0≤pos) (h2:pos≤s.size) :
 jg (bg.f k s pos m) (fun r=>(r.2.1 = -1∨(pos≤r.2.1∧r.2.1≤(s.size:Int)))∧(r.1.length:Int)=m):=by
 unfold bg.f bg.t
 exact Fa hk hs h0 hm m.toNat k pos 0 [] (by omega) (by omega) (by omega) h1 h2 rfl
def Bl (x:Int):Prop:=0≤x∧x≤1000000
theorem Im {x:Int} (h:Bl x):∃ n:Nat,n<562949953421312∧x=(n:Int)∧gu x=bG n:=by
 obtain ⟨n,rfl⟩:=Int.eq_ofNat_of_zero_le h.1
 have:=h.2
 exact ⟨n,by omega,rfl,dZ (by omega)⟩
theorem C9 {k:Nat} (hk:2 ^ 50≤k) {m:Int} (hm:m≤4):∀ (xs:List Int) (pre t:ByteArray) (n:Nat) (j:Int) (out:List Int),(∀ x ∈ xs,Bl x)→j+(xs.length:Int)=m→0≤j→xs.length<n→(out.length:Int)≤j→pre.size+((fj xs).size+t.size)≤1073741824 →
 bg.l0 k n (pre++(fj xs++t)) (pre.size:Int) m j out=some (out++xs,(((pre.size+(fj xs).size:Nat):Int),()))
 | [],pre,t,n,j,out,hx,h1,h2,hn,h3,hz=>by
  obtain ⟨n,rfl⟩:∃ q,n=q+1:=⟨n-1,by omega⟩
  simp only [List.length_nil] at h1
  simp only [bg.l0,bg.b0]
  rw [aQ (by omega),aL,List.append_nil]
  rfl
 | x::xs,pre,t,n,j,out,hx,h1,h2,hn,h3,hz=>by
  obtain ⟨n,rfl⟩:∃ q,n=q+1:=⟨n-1,by omega⟩
  obtain ⟨a,ha,rfl,hv⟩:=Im (hx x (jo ..))
  have hva:=ak a
  rw [kU] at h1 hn
  have e1:fj ((a:Int)::xs)=bG a++fj xs:=by rw [fj,hv]
  rw [e1,aO] at hz
  rw [e1]
  have e2:pre++(bG a++fj xs++t)=pre++bG a++(fj xs++t):=by simp only [am]
  have ih:=C9 hk hm xs (pre++bG a) t n (j+1) (out++[(a:Int)]) (fun y hy=>hx y (lV _ hy)) (by omega) (by omega) (by omega) (by rw [bN];omega) (by rw [aO];omega)
  simp only [bg.l0,bg.b0]
  rw [aP (by omega),af,cC (by omega) (by rw [aO];omega),nr,dw,am,cP hk ha,ae]
  simp only []
  rw [show (((bG a).size:Int)==0)=false from mP (by omega),aL,br (by omega) (by decide),t_,aD (by omega) (by omega),aD (n:=j+1) (by omega) (by omega)]
  rw [aO] at ih
  rw [← am pre,ih,nQ,aO,Nat.add_assoc]
  rfl
theorem Eh {k:Nat} (hk:2 ^ 50≤k) {xs:List Int} (pre t:ByteArray) (hx:∀ x ∈ xs,Bl x) (hl:xs.length≤4) (hz:pre.size+((fj xs).size+t.size)≤1073741824) :
 bg.f k (pre++(fj xs++t)) (pre.size:Int) (xs.length:Int)=some (xs,(((pre.size+(fj xs).size:Nat):Int),())):=by
 unfold bg.f bg.t
 exact C9 hk (by omega) xs pre t k 0 [] hx (by omega) (by omega) (by omega) (by simp) hz
theorem LZ {k:Nat} (hk:2 ^ 50≤k) {s:ByteArray} (hs:s.size≤1073741824):jg (cL.f k s) (fun r=>r.2.1.size≤s.size):=by
 rcases n9 s with ⟨u,t,hu,rfl⟩ | h
 · rw [aO,aO] at hs
   exact Dw (ui hk hu (by rw [aO];omega)) (by show t.size≤_;rw [aO,aO];omega)
 · exact Dw (xr hk (by omega) h) (Nat.zero_le _)
theorem C_ {k:Nat} (hk:2 ^ 50≤k) {s:ByteArray} (h4:4≤s.size) (hs:s.size≤1073741824) (z:aT) (z1 z2 a b:Int) {xs:List Int} (hx:xs.length=3) (hc:xs.getD 2 (Ty.z (.int .i64))≤(20:Int)):∀ (d n:Nat) (pos j:Int) (out:aT),j+(d:Int)=20→0≤j→d<n→0≤pos→pos≤s.size→(out.length:Int)≤j →
 RH s (bL.l0 k n s pos j z z1 z2 xs out a b):=by
 intro d
 induction d with
 | zero =>
  intro n pos j out h1 h2 hn h3 h5 h6
  obtain ⟨n,rfl⟩:∃ q,n=q+1:=⟨n-1,by omega⟩
  simp only [bL.l0,bL.b0]
  rw [aI (by omega) (by omega),aQ (show ¬ j<xs.getD 2 (Ty.z (.int .i64)) by omega),aL,ki hk,ae]
  exact Gq h4 _
 | succ d ih =>
  intro n pos j out h1 h2 hn h3 h5 h6
  obtain ⟨n,rfl⟩:∃ q,n=q+1:=⟨n-1,by omega⟩
  have hz:=oO s pos.toNat
  simp only [bL.l0,bL.b0]
  rw [aI (by omega) (by omega)]
  by_cases c:j<xs.getD 2 (Ty.z (.int .i64))
  · rw [aP c,af,cC h3 h5]
    obtain ⟨r2,e2,q2⟩:=LZ hk (s:=ByteArray.extract s pos.toNat s.size) (by omega)
    rw [e2,ae]
    obtain ⟨r3,e3,q3,q4⟩:=BV hk (s:=r2.2.1) (m:=4) (pos:=0) (by omega) (by omega) (by omega) (by omega) (by omega)
    rw [e3,ae]
    cases r2.2.2.1 with
    | false=>exact Bn s
    | true =>
     simp only [fa,aL]
     by_cases c3:r3.2.1<0
     · rw [aP c3];exact Bn s
     · rw [aQ c3,aL,aI (by omega) (by omega),aI (by omega) (by omega),aI (by omega) (by omega),aI (by omega) (by omega),br (by omega) (by decide),aD (n:=(s.size:Int)-(r2.2.1.size:Int)) (by omega) (by omega),aD (n:=(s.size:Int)-(r2.2.1.size:Int)+r3.2.1) (by omega) (by omega),aD (n:=j+1) (by omega) (by omega)]
       exact ih n _ (j+1) _ (by omega) (by omega) (by omega) (by omega) (by omega) (by rw [bN];omega)
  · rw [aQ c,aL,ki hk,ae]
    exact Gq h4 _
theorem Dm {k:Nat} (hk:2 ^ 50≤k) {s:ByteArray} (hs:s.size≤1073741824):RH s (bL.f k s):=by
 unfold bL.f bL.t
 by_cases h4:(s.size:Int)<4
 · rw [aP h4];exact Bn s
 · rw [aQ h4,aL]
   obtain ⟨r,e,q1,q2⟩:=BV hk (s:=s) (m:=3) (pos:=4) hs (by omega) (by omega) (by omega) (by omega)
   rw [e,ae]
   by_cases c1:r.2.1<0
   · rw [aP c1];exact Bn s
   · rw [aQ c1,aL,aI (by omega) (by omega)]
     by_cases c2:r.1.getD 2 (Ty.z (.int .i64)) > (20:Int)
     · rw [aP c2];exact Bn s
     · rw [aQ c2,aL,aI (by omega) (by omega),aI (by omega) (by omega)]
       exact C_ hk (by omega) hs [] 0 0 _ _ (by omega) (Int.not_lt.1 c2) 20 k r.2.1 0 [] (by omega) (by omega) (by omega) (by omega) (by omega) (by simp)
theorem Hl {e:Ty.d aB} {l:aT} (hl:oW l=true) (ho:B3 l=true) (he:e ∈ l):∀ x ∈ [(e.2.1:Int),e.2.2.1,e.2.2.2.1,e.2.2.2.2.1],Bl x:=by
 obtain ⟨_,q⟩:=ky hl
 obtain ⟨_,⟨a1,a2⟩,b1,⟨c1,c2⟩,⟨d1,d2⟩⟩:=q e he
 have h2:=List.all_eq_true.1 ho e he
 unfold FH at h2
 rw [gX] at h2
 have b2:LE.le (α:=Int) e.2.2.1 100000:=by
  refine Int.not_lt.1 fun w=>?_
  have:(!decide ((e.2.2.1:Int) > 100000))=false:=by rw [aP w];rfl
  rw [this] at h2
  cases h2.2
 intro x hx
 simp only [List.mem_cons,List.not_mem_nil,or_false] at hx
 rcases hx with rfl | rfl | rfl | rfl
 · exact ⟨by omega,by omega⟩
 · exact ⟨b1,by omega⟩
 · exact ⟨by omega,by omega⟩
 · exact ⟨by omega,d2⟩
theorem G3 (e:Ty.d aB) (h:e.1.size≤8) (t:ByteArray):jO e++t=bG e.1.size++(e.1++(fj [(e.2.1:Int),e.2.2.1,e.2.2.2.1,e.2.2.2.2.1]++t)):=by
 unfold jO jB
 rw [dZ (by omega)]
 simp only [fj,jS,am]
theorem vj {k:Nat} (hk:2 ^ 50≤k) {h:Ty.d gZ} (q:lf h=true) (z:aT) (z1 z2:Int):∀ (r:aT) (pre:ByteArray) (n:Nat) (j:Int) (out:aT),(∀ e ∈ r,e ∈ h.2.2.1)→out++r=h.2.2.1→(out.length:Int)=j→r.length<n→d8 h=pre++ke r→pre.size≤1000 →
 bL.l0 k n (d8 h) (pre.size:Int) j z z1 z2 [(h.1:Int),h.2.1,(h.2.2.1.length:Int)] out h.1 h.2.1=some (h,(true,()))
 | [],pre,n,j,out,hr,ho,hj,hn,hs,hp=>by
  obtain ⟨n,rfl⟩:∃ q,n=q+1:=⟨n-1,by omega⟩
  rw [List.append_nil] at ho
  simp only [bL.l0,bL.b0]
  rw [aI (by omega) (by simp),show List.getD [(h.1:Int),h.2.1,(h.2.2.1.length:Int)] 2 (Ty.z (.int .i64))=(h.2.2.1.length:Int) from rfl,ho,aQ (by rw [← hj,ho];omega),aL,show (h.1,(h.2.1,(h.2.2.1,())))=h from rfl,ki hk,ae]
  simp only [bT]
  rfl
 | e::r,pre,n,j,out,hr,ho,hj,hn,hs,hp=>by
  obtain ⟨n,rfl⟩:∃ q,n=q+1:=⟨n-1,by omega⟩
  have hlen:h.2.2.1.length=out.length+(r.length+1):=by rw [← ho,uo,kU]
  have he:=hr e (jo ..)
  have hd:=oU q
  have h1:B3 h.2.2.1=true:=by unfold lf at q;rw [gX,gX,gX] at q;exact q.2.2.2
  have hk8:=((ky hd).2 e he).1.2
  have h20:=(ky hd).1
  have hnum:=Hl hd h1 he
  have hz:=o9 h
  have hf:=G3 e hk8 (ke r)
  have hs2:d8 h=pre++(bG e.1.size++(e.1++(fj [(e.2.1:Int),e.2.2.1,e.2.2.2.1,e.2.2.2.2.1]++ke r))):=by rw [← hf];exact hs
  have hs3:d8 h=(pre++jO e)++ke r:=by rw [am];exact hs
  have hsz:=congrArg ByteArray.size hs2
  simp only [aO] at hsz
  have hsz3:=congrArg ByteArray.size hs3
  rw [aO,aO] at hsz3
  have ih:=vj hk q z z1 z2 r (pre++jO e) n (j+1) (out++[e]) (fun x hx=>hr x (lV _ hx)) (by rw [nQ];exact ho) (by rw [bN];omega) (by rw [kU] at hn;omega) hs3 (by rw [aO];omega)
  have hv:=Eh hk (xs:=[(e.2.1:Int),e.2.2.1,e.2.2.2.1,e.2.2.2.2.1]) ⟨#[]⟩ (ke r) hnum (by simp) (by rw [e0];omega)
  rw [ng,e0] at hv
  simp only [bL.l0,bL.b0]
  rw [aI (by omega) (by simp),show List.getD [(h.1:Int),h.2.1,(h.2.2.1.length:Int)] 2 (Ty.z (.int .i64))=(h.2.2.1.length:Int) from rfl,aP (by omega),af,cC (by omega) (by omega),nr]
  have ex:ByteArray.extract (d8 h) pre.size (d8 h).size=bG e.1.size++(e.1++(fj [(e.2.1:Int),e.2.2.1,e.2.2.2.1,e.2.2.2.2.1]++ke r)):=by rw [hs2,dw]
  rw [ex,ui hk (by omega) (by simp only [aO];omega),ae]
  simp only []
  rw [show bg.f k (fj [(e.2.1:Int),e.2.2.1,e.2.2.2.1,e.2.2.2.2.1]++ke r) 0 4=_ from hv,ae]
  simp only [fa,aL]
  rw [aQ (by omega),aL,aI (by omega) (by simp),aI (by omega) (by simp),aI (by omega) (by simp),aI (by omega) (by simp),br (by omega) (by decide),aD (n:=j+1) (by omega) (by omega)]
  have hsv:(fj [(e.2.1:Int),e.2.2.1,e.2.2.2.1,e.2.2.2.2.1]++ke r).size=(fj [(e.2.1:Int),e.2.2.1,e.2.2.2.1,e.2.2.2.2.1]).size+(ke r).size:=aO _ _
  have w:aH (aH (((d8 h).size:Int)-((fj [(e.2.1:Int),e.2.2.1,e.2.2.2.1,e.2.2.2.2.1]++ke r).size:Int))+((0+(fj [(e.2.1:Int),e.2.2.1,e.2.2.2.1,e.2.2.2.2.1]).size:Nat):Int))=((pre++jO e).size:Int):=by
   have hpe:=aO pre (jO e)
   rw [aD (n:=((d8 h).size:Int)-_) (by omega) (by omega),aD (by omega) (by omega)]
   omega
  rw [w]
  exact ih
theorem FQ {h:Ty.d gZ} (q:lf h=true):∀ x ∈ [(h.1:Int),h.2.1,(h.2.2.1.length:Int)],Bl x:=by
 have h20:=(ky (oU q)).1
 unfold lf at q
 rw [gX,gX,decide_eq_true_eq,decide_eq_true_eq] at q
 obtain ⟨⟨a1,a2⟩,⟨b1,b2⟩,_⟩:=q
 intro x hx
 simp only [List.mem_cons,List.not_mem_nil,or_false] at hx
 rcases hx with rfl | rfl | rfl
 · exact ⟨a1,by have:LE.le (α:=Int) h.1 100000:=a2;omega⟩
 · exact ⟨b1,b2⟩
 · exact ⟨by omega,by omega⟩
theorem yW {h:Ty.d gZ} (q:lf h=true):d8 h=sy (pZ (rQ h))++(fj [(h.1:Int),h.2.1,(h.2.2.1.length:Int)]++ke h.2.2.1):=by
 unfold d8
 rw [if_pos q]
 unfold rQ
 simp only [fj,jS,am]
theorem tW (x:Int):(sy x).size=4:=rfl
theorem GI {k:Nat} (hk:2 ^ 50≤k) {h:Ty.d gZ} (q:lf h=true):bL.f k (d8 h)=some (h,(true,())):=by
 have h20:=(ky (oU q)).1
 have hf:=yW q
 have hz:=o9 h
 have hsz:=congrArg ByteArray.size hf
 rw [aO,aO,tW] at hsz
 have hv:=Eh hk (xs:=[(h.1:Int),h.2.1,(h.2.2.1.length:Int)]) (sy (pZ (rQ h))) (ke h.2.2.1) (FQ q) (by simp) (by rw [tW];omega)
 rw [← hf,tW] at hv
 unfold bL.f bL.t
 rw [aQ (by omega),aL,show bg.f k (d8 h) 4 3=_ from hv,ae]
 simp only []
 rw [aQ (by omega),aL,aI (by omega) (by simp),show List.getD [(h.1:Int),h.2.1,(h.2.2.1.length:Int)] 2 (Ty.z (.int .i64))=(h.2.2.1.length:Int) from rfl,aQ (by omega),aL,aI (by omega) (by simp),aI (by omega) (by simp)]
 have:=vj hk q [] 0 0 h.2.2.1 (sy (pZ (rQ h))++fj [(h.1:Int),h.2.1,(h.2.2.1.length:Int)]) k 0 [] (fun e he=>he) rfl rfl (by omega) (by rw [am];exact hf) (by rw [aO,tW];omega)
 rw [aO,tW] at this
 exact this
theorem pR {k:Nat} (hk:2 ^ 50≤k) {s:ByteArray} (hs:s.size≤1073741824):bL.f k s=some ((iG s).1,((iG s).2,())) :=
 qj (fun h h1 h2=>by rw [← h2];exact GI hk h1) (Dm hk hs)
theorem tT {s:ByteArray}:(iG s).1.2.2.1.length≤20:=by
 rcases jU (fun h=>lf h=true) d8 oT s with ⟨r,h1,_,e⟩ | e
 · unfold iG
   rw [e]
   exact (ky (oU h1)).1
 · unfold iG
   rw [e]
   exact Nat.zero_le _
def lI:Ty.d aE:=((0,([],())),([],(0,(0,(0,())))))
noncomputable def tV (d:Ty.d aA) (x:Int) (last:Bool):Bool:=(aR d (a_ aF x)).2&&(last||!decide ((b_ (dt d x)).2<((dt d x).size:Int)))
noncomputable def ig (d:Ty.d aA):List Int→Bool
 | []=>true
 | x::l=>tV d x l.isEmpty&&ig d l
noncomputable def wa (d:Ty.d aA) (x:Int):aY:=bD x (b_ (dt d x)).1
noncomputable def mE (d:Ty.d aA):List Int→aY
 | []=>[]
 | x::l=>wa d x++mE d l
noncomputable def hO (d:Ty.d aA) (x:Int):Ty.d gZ:=(iG (aR d (a_ dH x)).1).1
noncomputable def pO (d:Ty.d aA) (x:Int):Bool:=(aR d (a_ dH x)).2&&((iG (aR d (a_ dH x)).1).2&&mj x (dt d x) (hO d x))
noncomputable def ju (d:Ty.d aA) (ids:List Int):Ty.d fw :=
 bif pO d (ids.getD 0 0) then eE ((hO d (ids.getD 0 0)).2.2.1,((hO d (ids.getD 0 0)).2.1,(0,()))) (mE d (ids.drop 1)) else eE ([],(0,(0,()))) (mE d ids)
noncomputable def IQ (v:Ty.d cZ) (en:Int) (g:Ty.d fw) (hi:Int):Ty.d aE:=(v,(g.1,(aH (g.2.1+1),(en,(hi,())))))
noncomputable def tj (v:Ty.d cZ) (en:Int) (x:Ty.d aA) (g:Ty.d fw) (hi:Int):Ty.d aE × RD :=
 bif g.2.2.1 != 0 then (lI,(x,3)) else bif (h_ v.2.1 x).2 != 0 then (lI,((h_ v.2.1 x).1,iP (h_ v.2.1 x).2)) else
 (IQ v en g hi,((h_ v.2.1 x).1,0))
noncomputable def qA (v:Ty.d cZ) (d:Ty.d aA):Ty.d aE × RD :=
 bif !ig d v.2.1 then (lI,(d,3)) else
 bif (fU (ac v.2.1) d).2 != 0 then (lI,((fU (ac v.2.1) d).1,iP (fU (ac v.2.1) d).2)) else
 tj v (b_ (dt d (ac v.2.1))).2 (fU (ac v.2.1) d).1 (ju (fU (ac v.2.1) d).1 v.2.1) (bif pO (fU (ac v.2.1) d).1 (v.2.1.getD 0 0) then v.2.1.getD 0 0 else 0)
def uV:Ty.d cZ:=(2,([1],()))
noncomputable def jl (d:Ty.d aA):RD:=gV (gV (h_ [] d) fun x=>wS x (a_ aF 1)) (bi uV)
noncomputable def p_ (d:Ty.d aA):Ty.d aE × RD :=
 bif (jl d).2==0 then ((uV,([],(1,(0,(0,()))))),((jl d).1,0)) else (lI,((jl d).1,iP (jl d).2))
noncomputable def k8 (d:Ty.d aA):Ty.d aE × RD :=
 bif !gg d then (lI,(d,4)) else bif d.2.2.2.1 then (lI,(d,1)) else
 bif !(aR d dq).2 then p_ d else
 bif !(fO (aR d dq).1).2 then (lI,(d,3)) else qA (fO (aR d dq).1).1 d
def oS (q:Ty.d aE × RD):Ty.d aE × Ty.d aA × Int × Unit:=(q.1,(q.2.1,(q.2.2,())))
theorem EG {lim:Int}:∀ (l:List Int) (p:Option Int),nS (mF lim) p l=true→(∀ q,p=some q→∀ x ∈ l,q<x)∧l.Pairwise (fun a b=>a<b)
 | [],p,_=>⟨fun q _ x hx=>(by cases hx),List.Pairwise.nil⟩
 | y::l,p,h=>by
  unfold nS at h
  rw [gX] at h
  obtain ⟨h1,h2⟩:=h
  obtain ⟨a,b⟩:=EG l (some y) h2
  have hy:∀ q,p=some q→q<y:=fun q hq=>by
   subst hq
   unfold mF at h1
   rw [gX] at h1
   exact of_decide_eq_true h1.2
  refine ⟨fun q hq x hx=>?_,List.pairwise_cons.2 ⟨a y rfl,b⟩⟩
  rcases List.mem_cons.1 hx with e | e
  · rw [e];exact hy q hq
  · have:=a y rfl x e
    have:=hy q hq
    omega
theorem Fo {v:Ty.d cZ} (h:cH v=true):v.2.1.Pairwise (fun a b=>a<b):=by
 unfold cH at h
 rw [gX,gX] at h
 exact (EG _ _ h.2.2).2
theorem HR {α:Type} {l m:List α} {n:Nat} {z:α} (h:l.length≤n):(l++m).getD n z=m.getD (n-l.length) z:=by
 simp [List.getD,List.getElem?_append_right h]
theorem JO {ids:List Int} (hp:ids.Pairwise (fun a b=>a<b)) {i:Nat} {x:Int} {rest:List Int} (h:ids.drop i=x::rest):(x==ac ids)=rest.isEmpty:=by
 have hi:=Is h
 have hlen:=congrArg List.length h
 rw [List.length_drop,kU] at hlen
 have e:ids=ids.take i++(x::rest):=by rw [← h,List.take_append_drop]
 have hl:ac ids=(x::rest).getD rest.length 0:=by
  unfold ac
  have ht:(ids.take i).length=i:=by rw [List.length_take];omega
  conv=>lhs;rw [e]
  rw [HR (by rw [ht,uo,ht,kU];omega),ht,uo,ht,kU]
  congr 1
  omega
 cases rest with
 | nil=>rw [hl];exact beq_self_eq_true x
 | cons y r =>
  rw [hl]
  have hm:(x::y::r).getD (y::r).length 0 ∈ y::r:=by
   show (y::r).getD r.length 0 ∈ y::r
   exact gl (by rw [kU];omega)
  have hpd:(x::y::r).Pairwise (fun a b=>a<b):=by rw [← h];exact hp.drop
  have:=(List.pairwise_cons.1 hpd).1 _ hm
  exact mP (by omega)
theorem oh {d:Ty.d aA} (h:DR d) (x:Int):(dt d x).size≤100000:=by
 have:=fc d (a_ aF x)
 have h2:=h.use
 have h3:=h.cap1
 unfold dt
 omega
theorem wW {d:Ty.d aA} (h:DR d) (x:Int):(wa d x).length≤100000:=by
 have h1:=oh h x
 have h2:=jM (dt d x)
 unfold wa
 rw [pf]
 omega
theorem oK {d:Ty.d aA} (h:DR d):∀ l:List Int,(mE d l).length≤100000*l.length
 | []=>Nat.zero_le _
 | x::l=>by
  have h1:=wW h x
  have h2:=oK h l
  unfold mE
  rw [uo,kU]
  omega
theorem Af {k:Nat} (hk:2 ^ 50≤k) {d:Ty.d aA} (h:DR d):gE.f k d=some (oS (p_ d)):=by
 have h1:=pu [] d h
 have hv:cH uV=true:=by decide
 unfold gE.f gE.t p_ jl
 rw [tN hk h (by decide),ae]
 simp only [show ((0,(([]:List Int),())):Ty.d cZ).2.1=[] from rfl]
 generalize h_ [] d=r at h1 ⊢
 unfold gV
 simp only [bne,iL]
 cases c:r.2==0 with
 | false=>simp only [ul,af,aL,c];rfl
 | true =>
  simp only [fa,aL,af]
  rw [bJ hk,ae]
  simp only []
  have hn:=uL (.inl rfl:aF=aF∨aF=dH) 1
  rw [sC hk h1.sz (by omega),ae]
  simp only [d7,ae]
  cases c2:(wS r.1 (a_ aF 1)).2==0 with
  | false=>simp only [ul,af,aL,c2];rfl
  | true =>
   simp only [fa,aL,af]
   rw [show ((2,([1],())):Ty.d cZ)=uV from rfl,mu hk (AN h1 _) hv,ae]
   simp only [iL]
   cases c3:(bi uV (wS r.1 (a_ aF 1)).1).2==0 <;> rfl
def Ic (k:Nat) (v:Ty.d cZ) (en:Int) (x:Ty.d aA) (hi:Int) (dir:aT) (la:Int) (pl:aY):Option (Ty.d aE × Ty.d aA × Int × Unit) :=
 (Option.bind (cB.f k (dir,(la,(0,()))) pl) fun r33=>(bif (r33.1.2.2.1 != 0) then (some (lI,(x,(3,())))) else
 (Option.bind (bo.f k x v) fun r34=>(bif (r34.2.1 != 0) then (some (lI,r34)) else (some ((v,(r33.1.1,((aH (r33.1.2.1+1)),(en,(hi,()))))),(r34.1,(0,()))))))))
theorem F0 {k:Nat} (hk:2 ^ 50≤k) {v:Ty.d cZ} (hv:v.2.1.length≤60) (en:Int) {x:Ty.d aA} (h:DR x) (hi:Int) {dir:aT} (hd:dir.length≤1000) (la:Int) {pl:aY} (hp:pl.length≤100000000) :
 Ic k v en x hi dir la pl=some (oS (tj v en x (eE (dir,(la,(0,()))) pl) hi)):=by
 unfold Ic tj
 rw [w8 hk _ (by omega) (by show dir.length≤_;omega),ae]
 simp only [bne]
 cases (eE (dir,(la,(0,()))) pl).2.2.1==0 with
 | false=>rfl
 | true =>
  simp only [fa,aL]
  rw [tN hk h (by omega),ae]
  simp only [iL]
  cases (h_ v.2.1 x).2==0 <;> rfl
theorem K3 {k:Nat} (hk:2 ^ 50≤k) {v:Ty.d cZ} (hv:v.2.1.length≤60) (en:Int) {x:Ty.d aA} (h:DR x) (hi:Int) (dir:aT) (la:Int) :
 ∀ (n:Nat) (i:Int) (pl:aY),0≤i→i≤(v.2.1.length:Int)→(v.2.1.length:Int)-i<n→1≤i∧(pl.length:Int)≤100000*i →
 b7.l1 k n i [] [] 0 0 0 0 [] 0 0 false [] [] 0 0 0 0 v.2.1 v.1 x.1 x.2.1 x.2.2.1 x.2.2.2.1 [] v.1 0 en hi dir la 0 pl=Ic k v en x hi dir la (pl++mE x (v.2.1.drop i.toNat)):=by
 have hl:=h.sz.l
 have hu:=h.sz.u
 have hn:=h.sz.n
 refine HE (L:=fun n i pl=>b7.l1 k n i [] [] 0 0 0 0 [] 0 0 false [] [] 0 0 0 0 v.2.1 v.1 x.1 x.2.1 x.2.2.1 x.2.2.2.1 [] v.1 0 en hi dir la 0 pl) (R:=fun r pl=>Ic k v en x hi dir la (pl++mE x r)) (Ty.z (.int .i64)) v.2.1 (fun i pl=>1≤i∧(pl.length:Int)≤100000*i) (fun n pl hp=>?_) (fun n i pl y rest h0 h1 hy hr hp ih=>?_)
 · simp only [b7.l1,b7.b1]
   rw [aQ (by omega),aL,show mE x []=[] from rfl,List.append_nil]
   rfl
 · have hs:=oh h y
   have hpl:=wW h y
   have ht:=fc x (a_ dH y)
   have ih:=ih (pl++wa x y) ⟨by omega,by rw [uo];omega⟩
   simp only [b7.l1,b7.b1]
   rw [aP h1,af,aI h0 h1,hy,bJ hk,ae]
   simp only []
   rw [show (x.1,(x.2.1,(x.2.2.1,(x.2.2.2.1,()))))=x from rfl,gG hk (by omega) (by omega) (by omega),ae,aI h0 h1,ic hk,ae]
   simp only []
   rw [gG hk (by omega) (by omega) (by omega),ae]
   simp only []
   rw [pR hk (by omega),ae,show (i==0)=false from mP (by omega)]
   simp only [aL]
   rw [aI h0 h1,rU hk y (by show (dt x y).size≤_;omega),ae]
   simp only []
   rw [br (by show pl.length+(wa x y).length≤_;omega) (by decide),aD (n:=i+1) (by omega) (by omega)]
   refine ih.trans ?_
   rw [nQ]
   rfl
theorem vr {k:Nat} (hk:2 ^ 50≤k) {v:Ty.d cZ} (hv:v.2.1.length≤60) (hv1:1≤v.2.1.length) (en:Int) {x:Ty.d aA} (h:DR x) :
 b7.l1 k k 0 [] [] 0 0 0 0 [] 0 0 false [] [] 0 0 0 0 v.2.1 v.1 x.1 x.2.1 x.2.2.1 x.2.2.2.1 [] v.1 0 en 0 [] 0 0 []=some (oS (tj v en x (ju x v.2.1) (bif pO x (v.2.1.getD 0 0) then v.2.1.getD 0 0 else 0))):=by
 have hl:=h.sz.l
 have hu:=h.sz.u
 have hn:=h.sz.n
 obtain ⟨n,hn2⟩:∃ q,k=q+1:=⟨k-1,by omega⟩
 have hs:=oh h (v.2.1.getD 0 0)
 have hpl:=wW h (v.2.1.getD 0 0)
 have ht:=fc x (a_ dH (v.2.1.getD 0 0))
 have hpa:=oK h (v.2.1.drop 1)
 have hpb:=oK h v.2.1
 rw [List.length_drop] at hpa
 have hh:=tT (s:=(aR x (a_ dH (v.2.1.getD 0 0))).1)
 have step:=fun hi dir la pl=>K3 hk hv en h hi dir la n 1 pl (by omega) (by omega) (by omega)
 refine (congrArg (fun z=>b7.l1 k z 0 [] [] 0 0 0 0 [] 0 0 false [] [] 0 0 0 0 v.2.1 v.1 x.1 x.2.1 x.2.2.1 x.2.2.2.1 [] v.1 0 en 0 [] 0 0 []) hn2).trans ?_
 have hsplit:v.2.1=v.2.1.getD 0 0::v.2.1.drop 1:=by
  have:=tn (0:Int) (l:=v.2.1) (i:=0) (by omega)
  rw [List.drop_zero] at this
  exact this
 simp only [b7.l1,b7.b1]
 rw [aP (by omega),af,aI (by omega) (by omega),show List.getD v.2.1 (Int.toNat 0) (Ty.z (.int .i64))=v.2.1.getD 0 0 from rfl,bJ hk,ae]
 simp only []
 rw [show (x.1,(x.2.1,(x.2.2.1,(x.2.2.2.1,()))))=x from rfl,gG hk (by omega) (by omega) (by omega),ae,aI (by omega) (by omega),ic hk,ae]
 simp only []
 rw [gG hk (by omega) (by omega) (by omega),ae]
 simp only []
 rw [pR hk (by omega),ae,show ((0:Int)==0)=true from rfl]
 simp only [af]
 rw [rU hk (v.2.1.getD 0 0) (by show (dt x (v.2.1.getD 0 0)).size≤_;omega),ae]
 simp only []
 rw [br (by show ([]:aY).length+(wa x (v.2.1.getD 0 0)).length≤_;rw [List.length_nil];omega) (by decide),aD (n:=(0:Int)+1) (by omega) (by omega),aI (by omega) (by omega)]
 rw [show List.getD v.2.1 0 (Ty.z (.int .i64))=v.2.1.getD 0 0 from rfl]
 rw [vH hk _ (by show (dt x (v.2.1.getD 0 0)).size≤_;omega),ae]
 simp only []
 have no:b7.l1 k n (0+1) [] [] 0 0 0 0 [] 0 0 false [] [] 0 0 0 0 v.2.1 v.1 x.1 x.2.1 x.2.2.1 x.2.2.2.1 [] v.1 0 en 0 [] 0 0 ([]++bD (v.2.1.getD 0 0) (b_ (aR x (a_ aF (v.2.1.getD 0 0))).1).1)=some (oS (tj v en x (eE ([],(0,(0,()))) (mE x v.2.1)) 0)):=by
  refine (step 0 [] 0 (wa x (v.2.1.getD 0 0)) ⟨by omega,by omega⟩).trans ?_
  rw [show wa x (v.2.1.getD 0 0)++mE x (v.2.1.drop (Int.toNat 1))=mE x (v.2.1.getD 0 0::v.2.1.drop 1) from rfl,← hsplit]
  exact F0 hk hv en h 0 (by simp) 0 (by omega)
 unfold ju pO hO
 show (bif (aR x (a_ dH (v.2.1.getD 0 0))).2 then (bif (iG (aR x (a_ dH (v.2.1.getD 0 0))).1).2 then (bif mj (v.2.1.getD 0 0) (dt x (v.2.1.getD 0 0)) (iG (aR x (a_ dH (v.2.1.getD 0 0))).1).1 then _ else _) else _) else _)=_
 cases (aR x (a_ dH (v.2.1.getD 0 0))).2 with
 | false=>simp only [aL,Bool.false_and];rw [aI (by omega) (by omega)];exact no
 | true =>
  cases (iG (aR x (a_ dH (v.2.1.getD 0 0))).1).2 with
  | false=>simp only [aL,af,Bool.false_and,Bool.true_and];rw [aI (by omega) (by omega)];exact no
  | true =>
   cases mj (v.2.1.getD 0 0) (dt x (v.2.1.getD 0 0)) (iG (aR x (a_ dH (v.2.1.getD 0 0))).1).1 with
   | false=>simp only [aL,af,Bool.true_and];rw [aI (by omega) (by omega)];exact no
   | true =>
    simp only [af,Bool.true_and]
    rw [aI (by omega) (by omega)]
    refine (step (v.2.1.getD 0 0) (iG (aR x (a_ dH (v.2.1.getD 0 0))).1).1.2.2.1 (iG (aR x (a_ dH (v.2.1.getD 0 0))).1).1.2.1 [] ⟨by omega,by simp⟩).trans ?_
    rw [List.nil_append,show (1:Int).toNat=1 from rfl]
    exact F0 hk hv en h _ (by omega) _ (by omega)
theorem EB (k:Nat):∀ n,b7.l2 k n=b7.l1 k n
 | 0=>rfl
 | n+1=>by show b7.b2 k (b7.l2 k n)=b7.b1 k (b7.l1 k n);rw [EB k n];rfl
theorem Ko {k:Nat} (hk:2 ^ 50≤k) {v:Ty.d cZ} (hv:cH v=true) {d:Ty.d aA} (h:DR d) :
 b7.l0 k k (ac v.2.1) 0 d.1 d.2.1 d.2.2.1 d.2.2.2.1 [] [] 0 0 0 0 [] 0 0 false [] [] 0 0 0 0 v.2.1 v.1=some (oS (qA v d)):=by
 obtain ⟨_,_,hv1,hv2,_⟩:=bV (nx:=v.1) (ids:=v.2.1) hv
 have hrise:=Fo hv
 have hl:=h.sz.l
 have hu:=h.sz.u
 have hn:=h.sz.n
 have hs:=oh h (ac v.2.1)
 have hsc:=jM (dt d (ac v.2.1))
 have hfin:∀ n:Nat,b7.l0 k (n+1) (ac v.2.1) (v.2.1.length:Int) d.1 d.2.1 d.2.2.1 d.2.2.2.1 [] [] 0 0 0 0 [] 0 0 false [] [] 0 0 0 0 v.2.1 v.1 =
  some (oS (bif (fU (ac v.2.1) d).2 != 0 then (lI,((fU (ac v.2.1) d).1,iP (fU (ac v.2.1) d).2)) else tj v (b_ (dt d (ac v.2.1))).2 (fU (ac v.2.1) d).1 (ju (fU (ac v.2.1) d).1 v.2.1) (bif pO (fU (ac v.2.1) d).1 (v.2.1.getD 0 0) then v.2.1.getD 0 0 else 0))):=fun n=>by
  simp only [b7.l0,b7.b0]
  rw [aQ (by omega),aL,bJ hk,ae]
  simp only []
  rw [show (d.1,(d.2.1,(d.2.2.1,(d.2.2.2.1,()))))=d from rfl,gG hk (by omega) (by omega) (by omega),ae]
  simp only [show (aR d (a_ aF (ac v.2.1))).1=dt d (ac v.2.1) from rfl]
  rw [mD hk (by omega),ae,im k h.sz,ae,EB]
  simp only []
  show (bif decide ((b_ (dt d (ac v.2.1))).2<((dt d (ac v.2.1)).size:Int)) then _ else _)=_
  unfold fU
  cases decide ((b_ (dt d (ac v.2.1))).2<((dt d (ac v.2.1)).size:Int)) with
  | true =>
   simp only [af]
   simp only [ae]
   rw [D3 hk h.sz,ae]
   simp only [d7,ae]
   unfold gV
   simp only [bne]
   show (bif !((xw d (a_ aF (ac v.2.1)) (b_ (dt d (ac v.2.1))).2).2==0) then _ else _)=_
   have h1:=wR h (a_ aF (ac v.2.1)) (b_ (dt d (ac v.2.1))).2
   generalize xw d (a_ aF (ac v.2.1)) (b_ (dt d (ac v.2.1))).2=r at h1
   cases c:r.2==0 with
   | false=>simp only [ul,af,aL,c];rfl
   | true =>
    simp only [fa,aL,af]
    rw [lq hk h1.sz,ae]
    simp only []
    have h2:=m6 h1 (a_ aF (ac v.2.1))
    generalize g8 r.1 (a_ aF (ac v.2.1))=q at h2
    cases c2:q.2==0 with
    | false=>rfl
    | true =>
     simp only [fa,aL]
     exact vr hk hv2 hv1 _ h2
  | false =>
   simp only [aL]
   simp only [ae]
   rw [lq hk h.sz,ae]
   simp only [d7,ae]
   unfold gV
   simp only [bne,show ((0:Int)==0)=true from rfl,af]
   have h2:=m6 h (a_ aF (ac v.2.1))
   generalize g8 d (a_ aF (ac v.2.1))=q at h2
   cases c2:q.2==0 with
   | false=>rfl
   | true =>
    simp only [fa,aL]
    exact vr hk hv2 hv1 _ h2
 unfold qA
 refine (dp (L:=fun n i (_:Unit)=>b7.l0 k n (ac v.2.1) i d.1 d.2.1 d.2.2.1 d.2.2.2.1 [] [] 0 0 0 0 [] 0 0 false [] [] 0 0 0 0 v.2.1 v.1) (R:=fun r _=>bif ig d r then some (oS (bif (fU (ac v.2.1) d).2 != 0 then (lI,((fU (ac v.2.1) d).1,iP (fU (ac v.2.1) d).2)) else tj v (b_ (dt d (ac v.2.1))).2 (fU (ac v.2.1) d).1 (ju (fU (ac v.2.1) d).1 v.2.1) (bif pO (fU (ac v.2.1) d).1 (v.2.1.getD 0 0) then v.2.1.getD 0 0 else 0))) else some (oS (lI,(d,3)))) (Ty.z (.int .i64)) v.2.1 (fun _ _=>True) (fun n _ _=>hfin n) (fun n i _ y rest h0 h1 hy hr hp ih=>?_) (n:=k) (s:=()) (by omega) trivial).trans (by cases ig d v.2.1 <;> rfl)
 have ih:=ih () trivial
 have hsy:=oh h y
 have hlast:=JO hrise hr
 simp only [b7.l0,b7.b0]
 rw [aP h1,af,aI h0 h1,hy,bJ hk,ae]
 simp only []
 rw [show (d.1,(d.2.1,(d.2.2.1,(d.2.2.2.1,()))))=d from rfl,gG hk (by omega) (by omega) (by omega),ae]
 simp only []
 rw [mD hk (by show (dt d y).size≤_;omega),ae,im k h.sz,ae,aI h0 h1,aD (n:=i+1) (by omega) (by omega),ih]
 rw [show ig d (y::rest)=(tV d y rest.isEmpty&&ig d rest) from rfl]
 unfold tV bne
 rw [hlast]
 show (bif !(aR d (a_ aF y)).2 then _ else bif !rest.isEmpty then (bif decide ((b_ (dt d y)).2<((dt d y).size:Int)) then _ else _) else _)=_
 cases (aR d (a_ aF y)).2 with
 | false=>rfl
 | true =>
  cases rest.isEmpty with
  | true=>rfl
  | false=>cases decide ((b_ (dt d y)).2<((dt d y).size:Int)) <;> rfl
theorem CS {k:Nat} (hk:2 ^ 50≤k) {d:Ty.d aA} (hd:xd d):b7.f k d=some (oS (k8 d)):=by
 have hl:=hd.l
 have hu:=hd.u
 have hn:=hd.n
 unfold b7.f b7.t k8
 rw [ir hk (by omega) (by omega),ae,im k hd]
 cases c:gg d with
 | false=>rfl
 | true =>
  have h:=j9.1 c
  simp only [fa,aL,ae]
  cases cdn:d.2.2.2.1 with
  | true=>rfl
  | false =>
   simp only [aL]
   rw [show (⟨#[108,105,118,101]⟩:ByteArray)=dq from rfl,gG hk (by omega) (by omega) (by omega),ae]
   simp only []
   cases (aR d dq).2 with
   | false =>
    simp only [ul,af]
    rw [Af hk h]
    rfl
   | true =>
    have hz:=fc d dq
    simp only [fa,aL]
    rw [vC hk (by omega),ae]
    simp only []
    rcases jU (fun v=>cH v=true) cE ((0,([],())):Ty.d cZ) (aR d dq).1 with ⟨v,h1,_,e⟩ | e
    · rw [show fO (aR d dq).1=(v,true) from e]
      simp only [fa,aL]
      obtain ⟨_,_,hv1,hv2,_⟩:=bV (nx:=v.1) (ids:=v.2.1) h1
      have w:aH ((v.2.1.length:Int)-1)=((v.2.1.length-1:Nat):Int):=by rw [aD (by omega) (by omega)];omega
      rw [w,nr,aI (by omega) (by omega)]
      have:=Ko hk h1 h
      rw [cdn] at this
      exact this
    · rw [show fO (aR d dq).1=((0,([],())),false) from e]
      rfl
theorem GF (v:Ty.d cZ) (en:Int) {x:Ty.d aA} (h:DR x) {g:Ty.d fw} (hg:g.1.length≤268435456) (hi:Int):DR (tj v en x g hi).2.1∧(tj v en x g hi).1.2.1.length≤268435456:=by
 have hs:=pu v.2.1 x h
 unfold tj
 cases g.2.2.1 != 0 with
 | true=>exact ⟨h,Nat.zero_le _⟩
 | false =>
  cases (h_ v.2.1 x).2 != 0 with
  | true=>exact ⟨hs,Nat.zero_le _⟩
  | false=>exact ⟨hs,hg⟩
theorem G4 {x:Ty.d aA} (h:DR x) {ids:List Int} (hl:ids.length≤60):(ju x ids).1.length≤268435456:=by
 have hpa:=oK h (ids.drop 1)
 have hpb:=oK h ids
 rw [List.length_drop] at hpa
 have hh:=tT (s:=(aR x (a_ dH (ids.getD 0 0))).1)
 unfold ju
 cases pO x (ids.getD 0 0)
 · exact ov (by omega) (by simp)
 · exact ov (by omega) (by show (hO x (ids.getD 0 0)).2.2.1.length≤_;unfold hO;omega)
theorem Dq {d:Ty.d aA} (h:DR d):DR (k8 d).2.1∧(k8 d).1.2.1.length≤268435456:=by
 unfold k8
 rw [j9.2 h]
 simp only [fa,aL]
 cases d.2.2.2.1 with
 | true=>exact ⟨h,Nat.zero_le _⟩
 | false =>
  simp only [aL]
  cases (aR d dq).2 with
  | false =>
   simp only [ul,af]
   have hf:DR (jl d).1:=j8 (j8 (pu [] d h) fun x hx=>AN hx _) (kD uV)
   unfold p_
   cases (jl d).2==0 with
   | true=>exact ⟨hf,Nat.zero_le _⟩
   | false=>exact ⟨hf,Nat.zero_le _⟩
  | true =>
   simp only [fa,aL]
   rcases jU (fun v=>cH v=true) cE ((0,([],())):Ty.d cZ) (aR d dq).1 with ⟨v,h1,_,e⟩ | e
   · rw [show fO (aR d dq).1=(v,true) from e]
     obtain ⟨_,_,hv1,hv2,_⟩:=bV (nx:=v.1) (ids:=v.2.1) h1
     simp only [fa,aL]
     have fx:=He (ac v.2.1) h
     unfold qA
     cases ig d v.2.1 with
     | false=>exact ⟨h,Nat.zero_le _⟩
     | true =>
      simp only [fa,aL]
      cases (fU (ac v.2.1) d).2 != 0 with
      | true=>exact ⟨fx,Nat.zero_le _⟩
      | false=>exact GF v _ fx (G4 fx hv2) _
   · rw [show fO (aR d dq).1=((0,([],())),false) from e]
     exact ⟨h,Nat.zero_le _⟩
theorem Gm {d:Ty.d aA} (h:gg d=false):k8 d=(lI,(d,4)):=by
 unfold k8
 rw [h]
 rfl
noncomputable def HD (q:Ty.d aE × RD):Ty.d ck:=((q.2.2==0),(q.1,(q.2.1,(List.replicate 3 (Ty.z dO),()))))
theorem nu {k:Nat} (hk:2 ^ 50≤k) {d:Ty.d aA} (hd:xd d):dC.f k d=some (HD (k8 d),((k8 d).2.2,())):=by
 unfold dC.f dC.t
 rw [CS hk hd,ae,Az (by omega) (by omega) (by decide)]
 rfl
theorem uG (k:Nat) {n:Int} (h0:0≤n) (h1:n≤100000):gT.f k n=some (([],(n,(-1,(false,())))),()):=by
 unfold gT.f gT.t
 rw [dT,ae,aP ⟨h0,h1⟩]
 rfl
def Kc (n:Int):Ty.d aA:=([],(n,(-1,(false,()))))
theorem EQ {n:Int} (h0:0≤n) (h1:n≤100000):DR (Kc n) :=
 ⟨Nat.zero_le _,h0,h1,show LE.le (α:=Int) (-1) (-1) from Int.le_refl _,show LE.le (α:=Int) (-1) 100000 by decide,h0,fun f hf=>(by cases hf),List.Pairwise.nil⟩
theorem Df {st:Ty.d aE} {d:Ty.d aA} {l:kw} (h:SR st (d,0) 100000) (hp:kE l=true) (hd:st.2.1.length≤20) :
 DR (gP st d l).2.1∧(gP st d l).1.1.2.1.length≤60∧(gP st d l).1.2.1.length≤268435456:=by
 have h8:=ms hp
 obtain ⟨g1,g2,g3⟩:=pL (il l st.2.2.1) (pX st) d [] 100000 ⟨h.live,h.disk,h.lo,h.hi⟩ (by decide)
 unfold gP
 generalize eR (il l st.2.2.1) (pX st) d []=q at g1 g2 g3 ⊢
 have e2:q.1.1.2.1=st.2.1:=g2
 obtain ⟨_,_,_,hi,_⟩:=bV (nx:=q.1.1.1.1) (ids:=q.1.1.1.2.1) g1.live
 have hs:=m6 g1.disk (cv q.1.1)
 unfold sa
 cases q.1.2.2 != 0 with
 | true=>exact ⟨g1.disk,hi,by show q.1.1.2.1.length≤_;rw [e2];omega⟩
 | false =>
  simp only [aL]
  generalize g8 q.1.2.1 (cv q.1.1)=y at hs ⊢
  cases y.2 != 0 with
  | true=>exact ⟨hs,hi,by show q.1.1.2.1.length≤_;rw [e2];omega⟩
  | false =>
   refine ⟨hs,hi,?_⟩
   show (bQ q.1.1.2.1 (q.2.take l.length)).length≤_
   have:=pC (q.2.take l.length) q.1.1.2.1
   rw [e2] at this ⊢
   rw [List.length_take] at this
   omega
theorem B6 {st:Ty.d aE} {d:Ty.d aA} (l:kw) (hd:DR d) (h1:st.1.2.1.length≤60) (h2:st.2.1.length≤268435456) :
 DR (g7 st d l).2.1∧(g7 st d l).1.1.2.1.length≤60∧(g7 st d l).1.2.1.length≤268435456:=by
 unfold g7
 cases c1:cS st d with
 | false=>exact ⟨hd,h1,h2⟩
 | true =>
  simp only [fa,aL]
  cases c2:kE l with
  | false=>exact ⟨hd,h1,h2⟩
  | true =>
   simp only [fa,aL]
   cases (l.length:Int)==0 with
   | true=>exact ⟨hd,h1,h2⟩
   | false =>
    cases decide (ln st.2.1 l > 20) with
    | true=>exact ⟨hd,h1,h2⟩
    | false =>
     cases decide (st.2.2.1 > (1000000:Int)) with
     | true=>exact ⟨hd,h1,h2⟩
     | false=>exact Df (eT c1).1 c2 (eT c1).2.1
def LJ (l:aT):Prop:=∀ e ∈ l,LE.le (α:=Int) 0 e.2.2.2.1
theorem Ee {l:aT} {e x:Ty.d aB} (h:x ∈ qK l e):x=e∨x ∈ l:=by
 unfold qK at h
 rcases List.mem_append.1 h with w | w
 · exact .inr (List.takeWhile_subset _ w)
 · rcases List.mem_cons.1 w with w | w
   · exact .inl w
   · exact .inr (List.dropWhile_subset _ w)
structure IV (q:Ty.d aE × RD):Prop where
 disk:DR q.2.1
 ids:q.1.1.2.1.length≤60
 dir:q.1.2.1.length≤268435456
 non:LJ q.1.2.1
 sum:rN q.1.2.1≤(s6 q.2.1 q.1.1.2.1:Int)
def Ax (l:i7) (mark:Int):Int:=((ab (jm l mark)).size:Int)
theorem uY (r:Ty.d bB) (l:jH):(ab (r::l)).size=(aS (aG r)).size+(ab l).size:=by rw [ab,ByteArray.size_append]
theorem pG {st:Ty.d aE} {d:Ty.d aA} (c:cS st d=true):st.2.1.length≤20:=by
 unfold cS oW at c
 simp only [gX,decide_eq_true_eq] at c
 omega
def xU (nm:ByteArray):jH→RD→RD
 | [],r=>r
 | x::l,r=>xU nm l (gV r fun y=>iS y nm (aS (aG x)))
def fR (m:Int) (l:i7) (mark:Int) (d:Ty.d aA):RD:=gV (xU (a_ aF m) (jm l mark) (bO (a_ aF m) d)) fun y=>g8 y (a_ aF m)
def lM (m:Int):i7→Int→aT
 | [],_=>[]
 | p::l,at_=>(p.1,(m,(at_,(b8 (bH p),(p.2.2.1,())))))::lM m l (at_+b8 (bH p))
def kt (ns:List ByteArray) (r:RD):RD:=bif r.2==2 then ((eS ns r.1).1,bif (eS ns r.1).2==0 then 2 else iP (eS ns r.1).2) else r
def jT (m:Int):List ByteArray:=[iW,a_ aF m,a_ aF (m+1),a_ dH m]
def sb:List Int→Ty.d aA→RD
 | [],d=>(d,0)
 | x::l,d=>gV (eS [a_ aF x,a_ dH x] d) (sb l)
def tO (st:Ty.d aE):Ty.d aE:=((st.1.1+2,st.1.2),st.2)
def iV (m:Int):Ty.d cZ:=(m+2,([m,m+1],()))
def l9 (hb:ByteArray→ByteArray) (m:Int) (d:Ty.d aA):RD :=
 bif (lR (a_ dH m) (hb (aR d (a_ aF m)).1) d).2==2 then eS [a_ dH m] (lR (a_ dH m) (hb (aR d (a_ aF m)).1) d).1 else lR (a_ dH m) (hb (aR d (a_ aF m)).1) d
def dR (hb:ByteArray→ByteArray) (st:Ty.d aE) (d:Ty.d aA) (l:i7):Ty.d aE × RD :=
 bif (fR st.1.1 l (st.2.2.1-1) d).2 != 0 then (tO st,kt (jT st.1.1) (tl (fR st.1.1 l (st.2.2.1-1) d))) else
 bif (bO (a_ aF (st.1.1+1)) (fR st.1.1 l (st.2.2.1-1) d).1).2 != 0 then (tO st,kt (jT st.1.1) (tl (bO (a_ aF (st.1.1+1)) (fR st.1.1 l (st.2.2.1-1) d).1))) else
 bif (l9 hb st.1.1 (bO (a_ aF (st.1.1+1)) (fR st.1.1 l (st.2.2.1-1) d).1).1).2 != 0 then (tO st,tl (l9 hb st.1.1 (bO (a_ aF (st.1.1+1)) (fR st.1.1 l (st.2.2.1-1) d).1).1)) else
 bif (bi (iV st.1.1) (l9 hb st.1.1 (bO (a_ aF (st.1.1+1)) (fR st.1.1 l (st.2.2.1-1) d).1).1).1).2 != 0 then
  (tO st,kt (jT st.1.1) (tl (bi (iV st.1.1) (l9 hb st.1.1 (bO (a_ aF (st.1.1+1)) (fR st.1.1 l (st.2.2.1-1) d).1).1).1))) else
 ((iV st.1.1,(lM st.1.1 l 0,(st.2.2.1,(0,(0,()))))),tl (sb st.1.2.1 (bi (iV st.1.1) (l9 hb st.1.1 (bO (a_ aF (st.1.1+1)) (fR st.1.1 l (st.2.2.1-1) d).1).1).1).1))
theorem m7 {s:ByteArray} {d:Ty.d aA} (h:(bO s d).2=0):fT (bO s d).1 s=some ByteArray.empty:=by
 unfold bO at h ⊢
 unfold gV at h ⊢
 cases c:(mN s d).2==0 with
 | false =>
  rw [c,aL] at h
  rw [h] at c
  cases c
 | true =>
  rw [c,af] at h
  rw [af]
  obtain ⟨c1,c2⟩:=oX (d:=(mN s d).1) (g:=tc s) h
  unfold fT
  show (bm (j4 (mN s d).1 (tc s)).1.1 s).map _=_
  rw [c2]
  unfold tc at c1 ⊢
  cases c3:k0 s with
  | false=>rw [c3] at c1;cases c1
  | true =>
   rw [c3] at c1
   simp only [fa,aL] at c1 ⊢
   cases c4:(bm (mN s d).1.1 s) with
   | some f=>rw [c4] at c1;cases c1
   | none =>
    rw [c4] at c1
    simp only [Option.isSome_none,aL] at c1 ⊢
    cases c5:decide (((mN s d).1.1.length:Int)≥130) with
    | true=>rw [c5] at c1;cases c1
    | false =>
     simp only [aL]
     rw [vU (f:=(s,(ByteArray.empty,(0,())))) c4,bT]
     rfl
theorem pr (nm:ByteArray):∀ (l:jH) (r:RD),r.2≠0→xU nm l r=r
 | [],_,_=>rfl
 | x::l,r,h=>by
  unfold xU
  have e:gV r (fun y=>iS y nm (aS (aG x)))=r:=by
   unfold gV
   rw [mP h]
   rfl
  rw [e]
  exact pr nm l r h
theorem D9 (nm:ByteArray):∀ (l:jH) (r:RD) (x:ByteArray),fT r.1 nm=some x→(xU nm l r).2=0→fT (xU nm l r).1 nm=some (x++ab l)
 | [],r,x,h,_=>by
  show fT r.1 nm=some (x++⟨#[]⟩)
  rw [h,show x++(⟨#[]⟩:ByteArray)=x from E3 x]
 | a::l,r,x,h,z=>by
  unfold xU at z ⊢
  by_cases c:(gV r (fun y=>iS y nm (aS (aG a)))).2=0
  · obtain ⟨c1,c2,c3⟩:=jL c
    have c3:(iS r.1 nm (aS (aG a))).2=0:=c3
    have e:fT (gV r (fun y=>iS y nm (aS (aG a)))).1 nm=some (x++aS (aG a)):=by
     rw [c2]
     have:=sL (d:=r.1) (s:=nm) (x:=aS (aG a))
     rw [c3,h] at this
     exact this
    rw [D9 nm l _ _ e z]
    show some (x++aS (aG a)++ab l)=some (x++(aS (aG a)++ab l))
    rw [oG]
  · rw [pr nm l _ c] at z
    exact absurd z c
theorem Jo {nm t:ByteArray} (h:nm≠t):∀ (l:jH) (r:RD),fT (xU nm l r).1 t=fT r.1 t
 | [],_=>rfl
 | a::l,r=>by
  show fT (xU nm l (gV r fun y=>iS y nm (aS (aG a)))).1 t=_
  rw [Jo h l]
  exact nV rfl fun y=>vy h
theorem BW {m:Int} {l:i7} {mark:Int} {d:Ty.d aA} {t:ByteArray} (h:a_ aF m≠t):fT (fR m l mark d).1 t=fT d t :=
 nV ((Jo h _ _).trans (lF h)) fun y=>lQ
theorem qw {hb:ByteArray→ByteArray} {m:Int} {d:Ty.d aA} {t:ByteArray} (h:a_ dH m≠t):fT (l9 hb m d).1 t=fT d t:=by
 unfold l9
 cases (lR (a_ dH m) (hb (aR d (a_ aF m)).1) d).2==2 with
 | false=>exact A0 h
 | true =>
  refine (mO _ _ fun s hs=>?_).trans (A0 h)
  rw [List.mem_singleton.1 hs]
  exact h
theorem tf {t:ByteArray}:∀ (l:List Int) (d:Ty.d aA),(∀ x ∈ l,a_ aF x≠t∧a_ dH x≠t)→fT (sb l d).1 t=fT d t
 | [],_,_=>rfl
 | x::l,d,h=>by
  show fT (gV (eS [a_ aF x,a_ dH x] d) (sb l)).1 t=_
  refine nV (mO _ _ fun s hs=>?_) fun y=>tf l y fun z hz=>h z (lV _ hz)
  have:=h x jo
  rcases List.mem_cons.1 hs with e | e
  · rw [e];exact this.1
  · rw [List.mem_singleton.1 e];exact this.2
theorem yk (m:Int):∀ (l:i7) (a:Int),rN (lM m l a)=((ab (l.map bH)).size:Int)∧LJ (lM m l a)
 | [],_=>⟨rfl,fun x hx=>by cases hx⟩
 | p::l,a=>by
  obtain ⟨i1,i2⟩:=yk m l (a+b8 (bH p))
  have hr:=mr (bH p)
  refine ⟨?_,fun x hx=>?_⟩
  · show b8 (bH p)+rN (lM m l (a+b8 (bH p)))=_
    rw [i1,List.map_cons,uY]
    unfold b8
    omega
  · rcases List.mem_cons.1 hx with e | e
    · rw [e];exact hr.1
    · exact i2 x e
theorem kX {x y:Int} (hx:1≤x∧x≤100000) (hy:1≤y∧y≤100000):a_ dH x≠a_ aF y:=fun q=>by
 have e:a_ dH x=dH++ga x:=by unfold a_;rw [aP hx];rfl
 rw [wi hy,e] at q
 have:=congrArg nb q
 rw [gk,gk] at this
 cases this
theorem GZ {x:Int} (hx:1≤x∧x≤100000):a_ dH x≠dq:=fun q=>by
 have e:a_ dH x=dH++ga x:=by unfold a_;rw [aP hx];rfl
 rw [e] at q
 have:=congrArg nb q
 rw [gk] at this
 cases this
theorem I2 {s t:ByteArray} {d:Ty.d aA} (z:(lR s t d).2=0):fT (lR s t d).1 s=some t:=by
 unfold lR at z ⊢
 obtain ⟨z1,e1,z2⟩:=jL z
 obtain ⟨z3,e2,z4⟩:=jL z1
 rw [e1,lQ,e2]
 have:=sL (d:=(bO s d).1) (s:=s) (x:=t)
 rw [z4,m7 z3] at this
 have this:fT (iS (bO s d).1 s t).1 s=some (ByteArray.empty++t):=this
 rw [this,show (ByteArray.empty:ByteArray)=dB [] from rfl,s7]
theorem Ik {d:Ty.d aA} {a b:ByteArray} (hd:DR d) (hab:a≠b) (z:(Bd d a b).2=0):fT (Bd d a b).1 b=fT d a:=by
 obtain ⟨c1,c2⟩:=oX z
 unfold fT
 show (bm (j4 d (Ck a b)).1.1 b).map _=_
 rw [c2]
 unfold Ck at c1 ⊢
 cases c3:k0 b with
 | false=>rw [c3] at c1;exact absurd c1 (by show (5:Int)≠0;decide)
 | true =>
  rw [c3] at c1
  simp only [fa,aL] at c1 ⊢
  cases c4:bm d.1 a with
  | none=>rw [c4] at c1;exact absurd c1 (by show (3:Int)≠0;decide)
  | some f =>
   simp only []
   rw [kZ hab,aL]
   have hk:cX (lW (kO d.1 a)):=tX (ou _ _) hd.keys
   show (bm (lu (kO (kO d.1 a) b) (b,f.2)) b).map _=_
   rw [vU (f:=(b,f.2)) (BP hk b),bT]
   rfl
theorem B4 {v:Ty.d cZ} {d:Ty.d aA} (hd:DR d) (z:(bi v d).2=0):fT (bi v d).1 dq=some (cE v):=by
 unfold bi at z ⊢
 obtain ⟨z1,e1,z2⟩:=jL z
 rw [e1,Ik (nh _ _ _ hd) (by decide) z2,I2 z1]
theorem wb {n:Int} (h0:0≤n) (h1:n≤127):(gu n).size=1:=by
 unfold gu
 rw [if_pos ⟨h0,by omega⟩,← qD (by omega)]
 unfold vl
 rw [if_neg (by omega)]
 rfl
theorem D4 {n:Int} (h0:0≤n) (h1:n≤2097151):(gu n).size≤3:=by
 unfold gu
 rw [if_pos ⟨h0,by omega⟩,← qD (by omega)]
 unfold vl
 split
 · rw [kU]
   unfold vl
   split
   · rw [kU]
     unfold vl
     rw [if_neg (by omega)]
     exact Nat.le_refl _
   · show 1+1≤3
     decide
 · show 1≤3
   decide
theorem HL (mark:Int) (l:jH):b8 (fM 5 mark l)≤20:=by
 have key:(aG (fM 5 mark l)).size≤9:=by
  unfold aG
  by_cases c:bv (fM 5 mark l)=true
  · rw [if_pos c]
    rcases mH c with ⟨q,_⟩ | ⟨q,_⟩ | ⟨_,_,_,h1,h2,_,_,h3,h4⟩
    · exact absurd q (by show ¬ ((5:Int)=1∨(5:Int)=4);decide)
    · exact absurd q (by show ¬ ((5:Int)=2);decide)
    · rw [if_neg (by show ¬ ((5:Int)=1∨(5:Int)=4);decide),if_neg (by show ¬ ((5:Int)=2);decide),ByteArray.size_append,ByteArray.size_append,ByteArray.size_append,j_]
      have e1:(gu (fM 5 mark l).1).size=1:=wb (n:=5) (by decide) (by decide)
      have e2:=D4 (n:=(fM 5 mark l).2.1) h3 (Int.le_trans h4 (by decide))
      have e3:=wb (n:=(fM 5 mark l).2.2.2.2.1) h1 (Int.le_trans h2 (by decide))
      omega
  · rw [if_neg c]
    exact Nat.zero_le _
 unfold b8 aS
 rw [if_neg (by omega),ByteArray.size_append,j_]
 unfold jB
 rw [ByteArray.size_append,wb (by omega) (by omega)]
 omega
theorem sd (m:Int):∀ (l:i7) (a:Int),(lM m l a).length=l.length
 | [],_=>rfl
 | p::l,a=>by
  show (lM m l (a+b8 (bH p))).length+1=_
  rw [sd m l]
  rfl
theorem Fp {hb:ByteArray→ByteArray} {st:Ty.d aE} {d:Ty.d aA} {c:Int} {l:i7} (h:IV (st,(d,c))) (hl:cH st.1=true) (hn:LE.le (α:=Int) (st.1.1+2) 100000) (hlen:l.length≤268435456) :
 IV (dR hb st d l)∧((dR hb st d l).2.2=0→(s6 (dR hb st d l).2.1 (dR hb st d l).1.1.2.1:Int)=Ax l (st.2.2.1-1)∧(s6 (dR hb st d l).2.1 (dR hb st d l).1.1.2.1:Int)-rN (dR hb st d l).1.2.1≤20 ∧
  fT (dR hb st d l).2.1 (a_ aF st.1.1)=some (ab (jm l (st.2.2.1-1)))∧fT (dR hb st d l).2.1 (a_ aF (st.1.1+1))=some ByteArray.empty∧(dR hb st d l).1=(iV st.1.1,(lM st.1.1 l 0,(st.2.2.1,(0,(0,()))))) ∧
  fT (dR hb st d l).2.1 dq=some (cE (iV st.1.1))):=by
 obtain ⟨n1,n2,n3,_⟩:=iQ (n:=st.1.1) (ids:=st.1.2.1) hl
 have hd:DR d:=h.disk
 have hsum:rN st.2.1≤(s6 d st.1.2.1:Int):=h.sum
 have hm:(1:Int)≤st.1.1∧st.1.1≤(100000:Int):=⟨n1,n2⟩
 have hm1:LE.le (α:=Int) 1 (st.1.1+1)∧LE.le (α:=Int) (st.1.1+1) 100000:=⟨by omega,by omega⟩
 have hseg:∀ x:Int,x ∈ st.1.2.1→1≤x∧x≤100000:=fun x hx=>⟨(n3 x hx).1,by have:=(n3 x hx).2;omega⟩
 have no1:∀ x ∈ st.1.2.1,a_ aF st.1.1≠a_ aF x:=fun x hx=>nB hm (hseg x hx) (by have:=(n3 x hx).2;omega)
 have no2:∀ x ∈ st.1.2.1,a_ aF (st.1.1+1)≠a_ aF x:=fun x hx=>nB hm1 (hseg x hx) (by have:=(n3 x hx).2;omega)
 have no3:∀ x ∈ st.1.2.1,a_ dH st.1.1≠a_ aF x:=fun x hx=>kX hm (hseg x hx)
 have no4:a_ aF (st.1.1+1)≠a_ aF st.1.1:=nB hm1 hm (by omega)
 have jump:∀ r:RD,DR r.1→(∀ x ∈ st.1.2.1,fT r.1 (a_ aF x)=fT d (a_ aF x))→IV (tO st,r):=fun r hr k=>⟨hr,h.ids,h.dir,h.non,by
  show rN st.2.1≤(s6 r.1 st.1.2.1:Int)
  rw [yu k]
  exact hsum⟩
 have dropK:∀ (r:RD),DR r.1→(∀ x ∈ st.1.2.1,fT r.1 (a_ aF x)=fT d (a_ aF x))→r.2≠0→IV (tO st,kt (jT st.1.1) r)∧(kt (jT st.1.1) r).2≠0:=fun r hr k hz=>by
  unfold kt
  cases r.2==2 with
  | false=>exact ⟨jump r hr k,hz⟩
  | true =>
   refine ⟨jump _ (kG _ _ hr) fun x hx=>(mO _ _ fun s hs=>?_).trans (k x hx),?_⟩
   · unfold jT at hs
     rcases List.mem_cons.1 hs with e | e
     · rw [e];exact gh (hseg x hx)
     rcases List.mem_cons.1 e with e | e
     · rw [e];exact no1 x hx
     rcases List.mem_cons.1 e with e | e
     · rw [e];exact no2 x hx
     · rw [List.mem_singleton.1 e];exact no3 x hx
   · show (bif (eS (jT st.1.1) r.1).2==0 then (2:Int) else iP (eS (jT st.1.1) r.1).2)≠0
     cases q:(eS (jT st.1.1) r.1).2==0 with
     | true =>
      show (2:Int)≠0
      decide
     | false =>
      intro e
      have:=iL (eS (jT st.1.1) r.1).2
      rw [q] at this
      simp only [aL] at e
      rw [e] at this
      cases this
 have tlnz:∀ r:RD,(r.2 != 0)=true→(tl r).2≠0:=fun r q e=>by
  have:=xR r
  rw [e,q] at this
  cases this
 have a0:DR (fR st.1.1 l (st.2.2.1-1) d).1:=by
  refine j8 ?_ fun x hx=>m6 hx _
  have:∀ (rs:jH) (r:RD),DR r.1→DR (xU (a_ aF st.1.1) rs r).1:=by
   intro rs
   induction rs with
   | nil=>exact fun r hr=>hr
   | cons x rs ih=>exact fun r hr=>ih _ (j8 hr fun y hy=>pK hy _ _)
  exact this _ _ (kC _ _ hd)
 have a1:∀ x ∈ st.1.2.1,fT (fR st.1.1 l (st.2.2.1-1) d).1 (a_ aF x)=fT d (a_ aF x):=fun x hx=>BW (no1 x hx)
 have a2:(fR st.1.1 l (st.2.2.1-1) d).2=0→fT (fR st.1.1 l (st.2.2.1-1) d).1 (a_ aF st.1.1)=some (ab (jm l (st.2.2.1-1))):=fun z=>by
  unfold fR at z ⊢
  obtain ⟨z1,z2,_⟩:=jL z
  rw [z2]
  rw [lQ]
  have z0:(bO (a_ aF st.1.1) d).2=0:=by
   by_cases w:(bO (a_ aF st.1.1) d).2=0
   · exact w
   · rw [pr _ _ _ w] at z1
     exact absurd z1 w
  have:=D9 (a_ aF st.1.1) (jm l (st.2.2.1-1)) (bO (a_ aF st.1.1) d) ByteArray.empty (m7 z0) z1
  rw [this,show (ByteArray.empty:ByteArray)=dB [] from rfl,s7]
 unfold dR
 generalize fR st.1.1 l (st.2.2.1-1) d=a at a0 a1 a2 ⊢
 cases ca:a.2 != 0 with
 | true =>
  obtain ⟨g1,g2⟩:=dropK (tl a) a0 a1 (tlnz a ca)
  exact ⟨g1,fun e=>absurd e g2⟩
 | false =>
  have b0:=kC (a_ aF (st.1.1+1)) a.1 a0
  have b1:∀ x ∈ st.1.2.1,fT (bO (a_ aF (st.1.1+1)) a.1).1 (a_ aF x)=fT d (a_ aF x):=fun x hx=>(lF (no2 x hx)).trans (a1 x hx)
  have b2:=(lF (d:=a.1) no4).trans (a2 (hF ca))
  have b3:=m7 (s:=a_ aF (st.1.1+1)) (d:=a.1)
  simp only [aL]
  generalize bO (a_ aF (st.1.1+1)) a.1=b at b0 b1 b2 b3 ⊢
  cases cb:b.2 != 0 with
  | true =>
   obtain ⟨g1,g2⟩:=dropK (tl b) b0 b1 (tlnz b cb)
   exact ⟨g1,fun e=>absurd e g2⟩
  | false =>
   have b3:=b3 (hF cb)
   have c0:DR (l9 hb st.1.1 b.1).1:=by
    unfold l9
    cases (lR (a_ dH st.1.1) (hb (aR b.1 (a_ aF st.1.1)).1) b.1).2==2 with
    | true=>exact kG _ _ (nh _ _ _ b0)
    | false=>exact nh _ _ _ b0
   have c1:∀ x ∈ st.1.2.1,fT (l9 hb st.1.1 b.1).1 (a_ aF x)=fT d (a_ aF x):=fun x hx=>(qw (no3 x hx)).trans (b1 x hx)
   have c2:=(qw (hb:=hb) (d:=b.1) (kX hm hm)).trans b2
   have c3:=(qw (hb:=hb) (d:=b.1) (kX hm hm1)).trans b3
   simp only [aL]
   generalize l9 hb st.1.1 b.1=e at c0 c1 c2 c3 ⊢
   cases ce:e.2 != 0 with
   | true=>exact ⟨jump (tl e) c0 c1,fun z=>absurd z (tlnz e ce)⟩
   | false =>
    have d0:=kD (iV st.1.1) _ c0
    have d1:∀ x ∈ st.1.2.1,fT (bi (iV st.1.1) e.1).1 (a_ aF x)=fT d (a_ aF x):=fun x hx=>(gz (gh (hseg x hx)) (ie (hseg x hx))).trans (c1 x hx)
    have d2:=(gz (d:=e.1) (v:=iV st.1.1) (gh hm) (ie hm)).trans c2
    have d3:=(gz (d:=e.1) (v:=iV st.1.1) (gh hm1) (ie hm1)).trans c3
    have d4:=B4 (v:=iV st.1.1) c0
    simp only [aL]
    generalize bi (iV st.1.1) e.1=f at d0 d1 d2 d3 d4 ⊢
    cases cf:f.2 != 0 with
    | true =>
     obtain ⟨g1,g2⟩:=dropK (tl f) d0 d1 (tlnz f cf)
     exact ⟨g1,fun z=>absurd z g2⟩
    | false =>
     simp only [aL]
     have o0:∀ (ids:List Int) (x:Ty.d aA),DR x→DR (sb ids x).1:=by
      intro ids
      induction ids with
      | nil=>exact fun x hx=>hx
      | cons y ids ih=>exact fun x hx=>j8 (kG _ _ hx) fun z hz=>ih z hz
     have o2:=(tf st.1.2.1 f.1 fun x hx=>⟨fun q=>no1 x hx q.symm,kX (hseg x hx) hm⟩).trans d2
     have o3:=(tf st.1.2.1 f.1 fun x hx=>⟨fun q=>no2 x hx q.symm,kX (hseg x hx) hm1⟩).trans d3
     have o4:=(tf st.1.2.1 f.1 fun x hx=>⟨fun q=>ie (hseg x hx) q.symm,GZ (hseg x hx)⟩).trans (d4 (hF cf))
     have o1:=o0 st.1.2.1 f.1 d0
     generalize sb st.1.2.1 f.1=o at o1 o2 o3 o4 ⊢
     obtain ⟨l1,l2⟩:=yk st.1.1 l 0
     have hk:=HL (st.2.2.1-1) (l.map bH)
     have hk0:=(mr (fM 5 (st.2.2.1-1) (l.map bH))).1
     have tot:(s6 o.1 [st.1.1,st.1.1+1]:Int)=rN (lM st.1.1 l 0)+b8 (fM 5 (st.2.2.1-1) (l.map bH)):=by
      unfold s6 Ku
      rw [List.map_cons,List.map_singleton,List.sum_cons,List.sum_singleton,o2,o3,l1]
      simp only [Option.getD_some]
      unfold jm
      rw [nl,ByteArray.size_append]
      have e1:(ab [fM 5 (st.2.2.1-1) (l.map bH)]).size=(aS (aG (fM 5 (st.2.2.1-1) (l.map bH)))).size:=by rw [uY];rfl
      have e2:(ByteArray.empty:ByteArray).size=0:=rfl
      rw [e1,e2]
      unfold b8
      omega
     have tot0:(s6 o.1 [st.1.1,st.1.1+1]:Int)=Ax l (st.2.2.1-1):=by
      unfold s6 Ku Ax
      rw [List.map_cons,List.map_singleton,List.sum_cons,List.sum_singleton,o2,o3]
      rfl
     refine ⟨⟨o1,(show 2≤60 by decide),?_,l2,?_⟩,fun _=>⟨tot0,?_,o2,o3,by trivial,o4⟩⟩
     · show (lM st.1.1 l 0).length≤_
       rw [sd]
       exact hlen
     · show rN (lM st.1.1 l 0)≤(s6 o.1 [st.1.1,st.1.1+1]:Int)
       omega
     · show (s6 o.1 [st.1.1,st.1.1+1]:Int)-rN (lM st.1.1 l 0)≤20
       omega
theorem pc {k:Nat} (hk:2 ^ 50≤k) (st:Ty.d aE) {r:RD} (hd:DR r.1) {m:Int} (h0:1≤m) (h1:m≤100000):dS.f k st r.1 m r.2=some (st,((kt (jT m) r).1,((kt (jT m) r).2,()))):=by
 unfold dS.f dS.t kt
 cases c:r.2==2 with
 | false =>
  have:(r.2 != 2)=true:=by unfold bne;rw [c];rfl
  rw [this]
  rfl
 | true =>
  have:(r.2 != 2)=false:=by unfold bne;rw [c];rfl
  rw [this]
  simp only [aL,af]
  rw [aD (n:=m+1) (by omega) (by omega),bJ hk,ae,bJ hk,ae,ic hk,ae]
  simp only []
  rw [show ([(⟨#[116,101,109,112]⟩:ByteArray),a_ aF m,a_ aF (m+1),a_ dH m]:List ByteArray)=jT m from rfl,mf hk hd (by unfold jT;simp),ae]
  simp only [bne]
  cases q:(eS (jT m) r.1).2==0 with
  | true=>rw [IB c];rfl
  | false=>simp only [ul,af,aL,d7,ae]
theorem zu (k:Nat) (p:Ty.d aK):kS.f k p=some (bH p,()):=rfl
theorem Di {k:Nat} (hk:2 ^ 50≤k) (ids old:List Int) (dir:aT) (nx b s h:Int) (ho:old.length≤1073741824) {d:Ty.d aA} (hd:DR d) :
 bq.l0 k k 0 ids dir nx b s h [] [] 0 0 0 0 [] 0 0 false d.1 d.2.1 d.2.2.1 d.2.2.2.1 old=some (((nx,(ids,())),(dir,(b,(s,(h,()))))),((tl (sb old d)).1,((tl (sb old d)).2,()))):=by
 refine dp (L:=fun n i (x:Ty.d aA)=>bq.l0 k n i ids dir nx b s h [] [] 0 0 0 0 [] 0 0 false x.1 x.2.1 x.2.2.1 x.2.2.2.1 old) (R:=fun r x=>(some (((nx,(ids,())),(dir,(b,(s,(h,()))))),((tl (sb r x)).1,((tl (sb r x)).2,()))):bq.Rs))
  (Ty.z (.int .i64)) old (fun _ x=>DR x) (fun n x hx=>?_) (fun n i x y rest h0 h1 hy hr hx ih=>?_) (n:=k) (s:=d) (by omega) hd
 · simp only [bq.l0,bq.b0]
   rw [aQ (by omega),aL]
   rfl
 · simp only [bq.l0,bq.b0]
   rw [aP h1,af,aI h0 h1,hy,bJ hk,ae,aI h0 h1,ic hk,ae]
   simp only []
   rw [show (x.1,(x.2.1,(x.2.2.1,(x.2.2.2.1,()))))=x from rfl,mf hk hx (by simp),ae,aD (n:=i+1) (by omega) (by omega)]
   have hz:=kG [a_ aF y,a_ dH y] x hx
   simp only [sb]
   generalize eS [a_ aF y,a_ dH y] x=q at hz ⊢
   unfold gV
   simp only [bne]
   cases c:q.2==0 with
   | false=>simp only [ul,af,aL,d7,ae];rfl
   | true =>
    simp only [fa,af,aL]
    exact ih q.1 hz
def Ab (m:Int):i7→RD→aT→Int→aT
 | [],_,dir,_=>dir
 | p::l,r,dir,a=>bif r.2==0 then Ab m l (iS r.1 (a_ aF m) (aS (aG (bH p)))) (dir++[(p.1,(m,(a,(b8 (bH p),(p.2.2.1,())))))]) (a+b8 (bH p)) else dir
theorem Eg (m:Int):∀ (l:i7) (r:RD) (dir:aT) (a:Int),r.2=0→(xU (a_ aF m) (l.map bH) r).2=0→Ab m l r dir a=dir++lM m l a
 | [],_,dir,_,_,_=>(List.append_nil dir).symm
 | p::l,r,dir,a,h,z=>by
  have e:gV r (fun y=>iS y (a_ aF m) (aS (aG (bH p))))=iS r.1 (a_ aF m) (aS (aG (bH p))):=by
   unfold gV
   rw [h]
   rfl
  have z:(xU (a_ aF m) (l.map bH) (gV r fun y=>iS y (a_ aF m) (aS (aG (bH p))))).2=0:=z
  rw [e] at z
  have z2:(iS r.1 (a_ aF m) (aS (aG (bH p)))).2=0:=by
   by_cases w:(iS r.1 (a_ aF m) (aS (aG (bH p)))).2=0
   · exact w
   · rw [pr _ _ _ w] at z
     exact absurd z w
  unfold Ab
  rw [show (r.2==0)=true by rw [h];rfl,af,Eg m l _ _ _ z2 z,nQ]
  rfl
theorem yP {k:Nat} (hk:2 ^ 50≤k) {d:Ty.d aA} (hd:DR d) (m:Int) {l:i7} (hl:l.length≤1000000) (mark:Int) :
 dU.f k d m l mark=some ((fR m l mark d).1,(Ab m l (bO (a_ aF m) d) [] 0,(iP (fR m l mark d).2,()))):=by
 have hsz:=Ay m
 unfold dU.f dU.t
 rw [bJ hk,ae]
 simp only []
 rw [mc hk hd (by omega),ae]
 simp only []
 have hf:=kC (a_ aF m) d hd
 unfold fR jm
 generalize bO (a_ aF m) d=r0 at hf ⊢
 refine dp (L:=fun n i (s:RD × aT × Int × jH)=>dU.l0 k n m l mark s.1.2 s.2.2.1 i [] 0 0 false s.2.1 s.1.1.1 s.1.1.2.1 s.1.1.2.2.1 s.1.1.2.2.2.1 s.2.2.2)
  (R:=fun r s=>(some ((gV (xU (a_ aF m) (r.map bH++[fM 5 mark (l.map bH)]) s.1) fun y=>g8 y (a_ aF m)).1,(Ab m r s.1 s.2.1 s.2.2.1,(iP (gV (xU (a_ aF m) (r.map bH++[fM 5 mark (l.map bH)]) s.1) fun y=>g8 y (a_ aF m)).2,()))):dU.Rs))
  (Ty.z aK) l (fun i s=>DR s.1.1∧(s.1.2=0→s.2.2.2=(l.take i.toNat).map bH)∧0≤s.2.2.1∧s.2.2.1≤211*i∧(s.2.1.length:Int)≤i∧(s.2.2.2.length:Int)≤i) (fun n s hs=>?_) (fun n i s x rest h0 h1 hx hr hs ih=>?_) (n:=k) (s:=(r0,([],(0,[])))) (by omega) ⟨hf,fun _=>rfl,Int.le_refl _,by simp,by simp,by simp⟩
 · obtain ⟨r,dir,a,recs⟩:=s
   obtain ⟨g1,g2,g3,g4,g5,g6⟩:=hs
   simp only [] at g1 g2 g3 g4 g5 g6 ⊢
   simp only [dU.l0,dU.b0]
   rw [aQ (by omega),aL]
   simp only [List.map_nil,List.nil_append,xU,Ab]
   by_cases c:r.2=0
   · rw [Int.toNat_natCast,List.take_length] at g2
     rw [show (r.2==0)=true by rw [c];rfl,af,bJ hk,ae,g2 c,uO hk (by rw [List.length_map];omega),ae]
     simp only []
     rw [dG hk,ae]
     simp only []
     rw [lH hk,ae]
     simp only []
     have hfz:=lC (aG (fM 5 mark (l.map bH)))
     rw [show (r.1.1,(r.1.2.1,(r.1.2.2.1,(r.1.2.2.2.1,()))))=r.1 from rfl,pP hk g1.sz (a_ aF m) (by omega),ae]
     simp only []
     have ha:=pK g1 (a_ aF m) (aS (aG (fM 5 mark (l.map bH))))
     rw [show gV r (fun y=>iS y (a_ aF m) (aS (aG (fM 5 mark (l.map bH)))))=iS r.1 (a_ aF m) (aS (aG (fM 5 mark (l.map bH)))) by unfold gV;rw [c];rfl]
     generalize iS r.1 (a_ aF m) (aS (aG (fM 5 mark (l.map bH))))=q at ha ⊢
     unfold gV
     cases c2:q.2==0 with
     | true =>
      simp only [af]
      rw [ae]
      simp only []
      rw [lq hk ha.sz,ae,d7,ae]
     | false=>simp only [aL,d7,ae]
   · rw [mP c]
     have e:gV r (fun y=>iS y (a_ aF m) (aS (aG (fM 5 mark (l.map bH)))))=r:=by unfold gV;rw [mP c];rfl
     rw [e]
     unfold gV
     rw [mP c]
     simp only [aL,d7,ae]
 · obtain ⟨r,dir,a,recs⟩:=s
   obtain ⟨g1,g2,g3,g4,g5,g6⟩:=hs
   simp only [] at g1 g2 g3 g4 g5 g6 ih ⊢
   have hi:i.toNat<l.length:=by omega
   have et:l.take (i+1).toNat=l.take i.toNat++[x]:=by
    rw [show (i+1).toNat=i.toNat+1 by omega,List.take_succ_eq_append_getElem hi]
    congr 2
    rw [← hx]
    simp [List.getD,hi]
   simp only [dU.l0,dU.b0]
   rw [aP h1,af]
   simp only [List.map_cons,List.cons_append,xU,Ab]
   by_cases c:r.2=0
   · have hr:=mr (bH x)
     have hfz:=lC (aG (bH x))
     have hz:((aS (aG (bH x))).size:Int)=b8 (bH x):=rfl
     rw [show (r.2==0)=true by rw [c];rfl,af,aI h0 h1,hx,zu,ae]
     simp only []
     rw [dG hk,ae]
     simp only []
     rw [lH hk,ae]
     simp only []
     rw [bJ hk,ae]
     simp only []
     rw [show (r.1.1,(r.1.2.1,(r.1.2.2.1,(r.1.2.2.2.1,()))))=r.1 from rfl,pP hk g1.sz (a_ aF m) (by omega),ae]
     simp only []
     rw [br (by omega) (by decide),br (by omega) (by decide),hz,aD (n:=a+b8 (bH x)) (by omega) (by omega),aD (n:=i+1) (by omega) (by omega)]
     have ha:=pK g1 (a_ aF m) (aS (aG (bH x)))
     rw [show gV r (fun y=>iS y (a_ aF m) (aS (aG (bH x))))=iS r.1 (a_ aF m) (aS (aG (bH x))) by unfold gV;rw [c];rfl,af]
     exact ih (iS r.1 (a_ aF m) (aS (aG (bH x))),(dir++[(x.1,(m,(a,(b8 (bH x),(x.2.2.1,())))))],(a+b8 (bH x),recs++[bH x]))) ⟨ha,fun _=>by simp only [];rw [g2 c,et,List.map_append];rfl,by simp only [];omega,by simp only [];omega,by simp only [];rw [uo,List.length_singleton];omega,by simp only [];rw [uo,List.length_singleton];omega⟩
   · rw [mP c]
     have e:gV r (fun y=>iS y (a_ aF m) (aS (aG (bH x))))=r:=by unfold gV;rw [mP c];rfl
     rw [e,pr _ _ _ c]
     unfold gV
     rw [mP c]
     simp only [aL,d7,ae]
noncomputable def IC (m:Int) (s:ByteArray):ByteArray:=d8 (gA m s).1
theorem Hw (nm:ByteArray):∀ (l m:jH) (r:RD),xU nm (l++m) r=xU nm m (xU nm l r)
 | [],_,_=>rfl
 | x::l,m,r=>by
  exact Hw nm l m (gV r fun y=>iS y nm (aS (aG x)))
theorem Jj (nm:ByteArray):∀ (rs:jH) (r:RD),DR r.1→DR (xU nm rs r).1
 | [],_,h=>h
 | x::rs,r,h=>Jj nm rs _ (j8 h fun y hy=>pK hy _ _)
theorem Bj (m:Int) (l:i7) (mark:Int) {d:Ty.d aA} (hd:DR d):DR (fR m l mark d).1 :=
 j8 (Jj _ _ _ (kC _ _ hd)) fun x hx=>m6 hx _
theorem GN {m:Int} {l:i7} {mark:Int} {d:Ty.d aA} (h:(fR m l mark d).2=0):Ab m l (bO (a_ aF m) d) [] 0=lM m l 0:=by
 unfold fR at h
 obtain ⟨z1,z2,_⟩:=jL h
 unfold jm at z1
 rw [Hw] at z1
 have z3:(xU (a_ aF m) (l.map bH) (bO (a_ aF m) d)).2=0:=by
  by_cases w:(xU (a_ aF m) (l.map bH) (bO (a_ aF m) d)).2=0
  · exact w
  · rw [pr _ _ _ w] at z1
    exact absurd z1 w
 have z0:(bO (a_ aF m) d).2=0:=by
  by_cases w:(bO (a_ aF m) d).2=0
  · exact w
  · rw [pr _ _ _ w] at z3
    exact absurd z3 w
 rw [Eg m l _ [] 0 z0 z3,List.nil_append]
theorem Cg {m:Int} (h0:1≤m) (h1:m+2≤100000):cH (iV m)=true:=by
 have e:aH (m+2-1)=m+1:=by rw [aD (n:=m+2-1) (by omega) (by omega)];omega
 unfold cH iV
 simp only []
 rw [aP (show (1:Int)≤m+2∧m+2≤100000 from ⟨by omega,h1⟩),e]
 simp only [nS,mF,kU,List.length_nil]
 rw [aP (show (1:Int)≤m∧m≤m+1 from ⟨h0,by omega⟩),aP (show (1:Int)≤m+1∧m+1≤m+1 from ⟨by omega,by omega⟩),aP (show m<m+1 by omega)]
 rfl
theorem ET (c:Int):(iP c != 0)=(c != 0):=by unfold bne;rw [iL]
theorem xP {k:Nat} (hk:2 ^ 50≤k) {st:Ty.d aE} (hl:cH st.1=true) (hn:LE.le (α:=Int) (st.1.1+2) 100000) {f:Ty.d aA} (hf:DR f) (dir:aT) :
 (rm (Ty.bytes (.int .i64)) (0+List.length st.1.2.1) ((eG.f k f (st.1.1+2,([st.1.1,st.1.1+1],()))).bind fun r16=>(bif (r16.2.1 != 0) then ((dS.f k ((st.1.1+2,st.1.2),st.2) r16.1 st.1.1 r16.2.1).bind fun r17=>(some r17)) else
  (bq.l0 k k 0 [st.1.1,st.1.1+1] dir (st.1.1+2) st.2.2.1 0 0 [] [] 0 0 0 0 [] 0 0 false r16.1.1 r16.1.2.1 r16.1.2.2.1 r16.1.2.2.2.1 ([]++st.1.2.1)))):bq.Rs) =
 some (oS (bif (bi (iV st.1.1) f).2 != 0 then (tO st,kt (jT st.1.1) (tl (bi (iV st.1.1) f))) else ((iV st.1.1,(dir,(st.2.2.1,(0,(0,()))))),tl (sb st.1.2.1 (bi (iV st.1.1) f).1)))):=by
 obtain ⟨n1,n2,n3,_⟩:=iQ (n:=st.1.1) (ids:=st.1.2.1) hl
 have h60:st.1.2.1.length≤60:=(bV (nx:=st.1.1) (ids:=st.1.2.1) hl).2.2.2.1
 rw [br (by omega) (by decide),mu hk hf (v:=(st.1.1+2,([st.1.1,st.1.1+1],()))) (Cg n1 hn),ae]
 rw [show ((st.1.1+2,([st.1.1,st.1.1+1],())):Ty.d cZ)=iV st.1.1 from rfl]
 have hp:=kD (iV st.1.1) f hf
 generalize bi (iV st.1.1) f=q at hp ⊢
 simp only []
 rw [ET]
 cases c:q.2 != 0 with
 | true =>
  simp only [af]
  rw [show iP q.2=(tl q).2 from rfl,show q.1=(tl q).1 from rfl,pc hk _ (r:=tl q) hp n1 n2,ae]
  rfl
 | false =>
  simp only [aL,List.nil_append]
  rw [Di hk _ _ _ _ _ _ _ (by omega) hp]
  rfl
theorem yI {k:Nat} (hk:2 ^ 50≤k) {st:Ty.d aE} {d:Ty.d aA} (hd:DR d) (hl:cH st.1=true) (hn:LE.le (α:=Int) (st.1.1+2) 100000) (hb0:LE.le (α:=Int) 1 st.2.2.1) (hb1:LE.le (α:=Int) st.2.2.1 1000001) {l:i7} (hlen:l.length≤1000000) :
 bq.f k st d l=some (oS (dR (IC st.1.1) st d l)):=by
 obtain ⟨n1,n2,n3,_⟩:=iQ (n:=st.1.1) (ids:=st.1.2.1) hl
 have s1:=Ay st.1.1
 have s2:=Ay (st.1.1+1)
 have s3:=uL (.inr rfl:dH=aF∨dH=dH) st.1.1
 unfold bq.f bq.t
 rw [aD (n:=st.2.2.1-1) (by omega) (by omega),aD (n:=st.1.1+2) (by omega) (by omega),aD (n:=st.1.1+1) (by omega) (by omega),yP hk hd _ hlen,ae]
 simp only []
 have a0:=Bj st.1.1 l (st.2.2.1-1) hd
 have a1:=GN (m:=st.1.1) (l:=l) (mark:=st.2.2.1-1) (d:=d)
 unfold dR
 generalize Ab st.1.1 l (bO (a_ aF st.1.1) d) [] 0=dir at a1 ⊢
 generalize fR st.1.1 l (st.2.2.1-1) d=a at a0 a1 ⊢
 rw [ET]
 cases ca:a.2 != 0 with
 | true =>
  simp only [af]
  rw [show iP a.2=(tl a).2 from rfl,show a.1=(tl a).1 from rfl,pc hk _ (r:=tl a) a0 n1 n2,ae]
  rfl
 | false =>
  simp only [aL]
  rw [a1 (hF ca),bJ hk,ae]
  simp only []
  rw [mc hk a0 (by omega),ae]
  simp only []
  have b0:=kC (a_ aF (st.1.1+1)) a.1 a0
  generalize bO (a_ aF (st.1.1+1)) a.1=b at b0 ⊢
  cases cb:b.2 != 0 with
  | true =>
   simp only [af]
   rw [d7,ae]
   simp only []
   rw [show iP b.2=(tl b).2 from rfl,show b.1=(tl b).1 from rfl,pc hk _ (r:=tl b) b0 n1 n2,ae]
   rfl
  | false =>
   have hl':=b0.sz.l
   have hu':=b0.sz.u
   have hn':=b0.sz.n
   have ht:=fc b.1 (a_ aF st.1.1)
   have hcap:LE.le (α:=Int) (e9 b.1.1) 100000:=Int.le_trans b0.use b0.cap1
   simp only [aL]
   rw [bJ hk,ae]
   simp only []
   rw [gG hk (by omega) (by omega) (by omega),ae]
   simp only []
   rw [rJ hk _ (by omega),ae,ic hk,ae]
   simp only []
   rw [ki hk,ae]
   simp only []
   rw [uK hk b0 (by omega) (by have:=o9 (gA st.1.1 (aR b.1 (a_ aF st.1.1)).1).1;omega),ae]
   simp only []
   unfold l9
   rw [show IC st.1.1 (aR b.1 (a_ aF st.1.1)).1=d8 (gA st.1.1 (aR b.1 (a_ aF st.1.1)).1).1 from rfl]
   have c0:=nh (a_ dH st.1.1) (d8 (gA st.1.1 (aR b.1 (a_ aF st.1.1)).1).1) b.1 b0
   generalize lR (a_ dH st.1.1) (d8 (gA st.1.1 (aR b.1 (a_ aF st.1.1)).1).1) b.1=e at c0 ⊢
   cases ce:e.2==2 with
   | true =>
    simp only [af]
    rw [ae]
    simp only []
    rw [mf hk c0 (by simp),ae]
    simp only []
    have d0:=kG [a_ dH st.1.1] e.1 c0
    generalize eS [a_ dH st.1.1] e.1=f at d0 ⊢
    cases cf:f.2 != 0 with
    | true =>
     simp only [af]
     rw [d7,ae]
     rfl
    | false =>
     simp only [aL]
     exact xP hk hl hn d0 _
   | false =>
    simp only [aL]
    cases cf:e.2 != 0 with
    | true =>
     simp only [af]
     rw [d7,ae]
     rfl
    | false =>
     simp only [aL]
     exact xP hk hl hn c0 _
noncomputable def mT (st:Ty.d aE) (d:Ty.d aA):Ty.d aE × RD :=
 bif !cS st d then (st,(d,4)) else bif decide (st.1.1+2 > 100000) then (st,(d,5)) else
 bif (gp st.2.1 d).2 != 0 then (st,(d,(gp st.2.1 d).2)) else dR (IC st.1.1) st d (gp st.2.1 d).1
theorem vm {st:Ty.d aE} {d:Ty.d aA} (h:cS st d=true):LE.le (α:=Int) 1 st.2.2.1∧LE.le (α:=Int) st.2.2.1 1000001:=by
 unfold cS at h
 simp only [gX,decide_eq_true_eq] at h
 exact h.2.2.2.1
theorem zm {k:Nat} (hk:2 ^ 50≤k) {st:Ty.d aE} {d:Ty.d aA} (hd:xd d) (h1:st.1.2.1.length≤1073741824) (h2:st.2.1.length≤536870912):kF.f k st d=some (oS (mT st d)):=by
 have ec:d6.f k st=some (st,()):=by
  unfold d6.f d6.t
  rw [br (by omega) (by decide),br (by omega) (by decide),List.nil_append,List.nil_append]
 unfold kF.f kF.t mT
 rw [ec,ae]
 simp only []
 rw [im k hd,ae]
 simp only []
 rw [ma hk hd,ae]
 simp only []
 cases c1:cS st d with
 | false=>rfl
 | true =>
  obtain ⟨g1,g2,g3⟩:=eT c1
  obtain ⟨n1,n2,_,_⟩:=iQ (n:=st.1.1) (ids:=st.1.2.1) g1.live
  simp only [fa,aL]
  rw [aD (n:=st.1.1+2) (by omega) (by omega)]
  by_cases c2:st.1.1+2 > (100000:Int)
  · rw [aP c2];rfl
  · rw [aQ c2]
    simp only [aL]
    rw [uu hk hd (by omega),ae]
    simp only []
    have hz:=ob st.2.1 d
    obtain ⟨b1,b2⟩:=vm c1
    cases (gp st.2.1 d).2 != 0 with
    | true=>rfl
    | false =>
     simp only [aL]
     rw [yI hk g1.disk g1.live (Int.not_lt.1 c2) b1 b2 (by omega),ae]
abbrev lX:=Ty.d cT
def CI (c:lX):Prop:=(0:Int)≤c.2.1∧c.2.1≤(c.1.length:Int)∧c.1.length≤1048576
theorem AM (y:Int):0≤aH (((BitVec.ofInt (IntKind.bits .i64) y &&& BitVec.ofInt (IntKind.bits .i64) 255).toNat:Int))∧aH (((BitVec.ofInt (IntKind.bits .i64) y &&& BitVec.ofInt (IntKind.bits .i64) 255).toNat:Int))≤255:=by
 have h:(BitVec.ofInt (IntKind.bits .i64) y &&& BitVec.ofInt (IntKind.bits .i64) 255).toNat≤255:=by
  rw [BitVec.toNat_and]
  exact Nat.le_trans Nat.and_le_right (by decide)
 rw [aD (by omega) (by omega)]
 omega
theorem H2 {k:Nat} (hk:2 ^ 50≤k) {l:List Int} (hl:l.length≤1048576):∃ c:lX,fK.f k l=some ((),(c,()))∧CI c:=by
 unfold fK.f fK.t
 have key:∀ (d n:Nat) (i h:Int),(l.length:Int)-i=d→0≤i→d<n→∃ c:lX,fK.l0 k n l h i=some ((),(c,()))∧CI c:=by
  intro d
  induction d with
  | zero =>
   intro n i h h1 h2 hn
   obtain ⟨n,rfl⟩:∃ q,n=q+1:=⟨n-1,by omega⟩
   simp only [fK.l0,fK.b0]
   rw [aQ (show ¬ i<(l.length:Int) by omega),aL]
   exact ⟨_,rfl,Int.le_refl _,by show (0:Int)≤(l.length:Int);omega,hl⟩
  | succ d ih =>
   intro n i h h1 h2 hn
   obtain ⟨n,rfl⟩:∃ q,n=q+1:=⟨n-1,by omega⟩
   simp only [fK.l0,fK.b0]
   rw [aP (show i<(l.length:Int) by omega),af]
   by_cases c:i<4000
   · rw [aP c,af,aI h2 (by omega),aD (n:=i+1) (by omega) (by omega)]
     exact ih n (i+1) _ (by omega) (by omega) (by omega)
   · rw [aQ c,aL]
     exact ⟨_,rfl,Int.le_refl _,by show (0:Int)≤(l.length:Int);omega,hl⟩
 exact key l.length k 0 _ (by omega) (by omega) (by omega)
theorem zC (k:Nat) {c:lX} (h:CI c):∃ (c':lX) (x:Int),eV.f k c=some (c',(x,()))∧CI c'∧0≤x∧x≤255:=by
 obtain ⟨b,i,hh,_⟩:=c
 change Int at i
 change Int at hh
 obtain ⟨h1,h2,h3⟩:=h
 have h1:0≤i:=h1
 have h2:i≤(b.length:Int):=h2
 have h3:b.length≤1048576:=h3
 unfold eV.f eV.t
 simp only []
 by_cases q:i<(b.length:Int)
 · rw [aP q,af,aI h1 q,aD (n:=i+1) (by omega) (by omega)]
   refine ⟨_,_,rfl,⟨by show (0:Int)≤i+1;omega,by show i+1≤(b.length:Int);omega,h3⟩,(AM _).1,(AM _).2⟩
 · rw [aQ q,aL]
   exact ⟨_,_,rfl,⟨h1,h2,h3⟩,(AM _).1,(AM _).2⟩
theorem wH (k:Nat) {c:lX} (h:CI c) {n:Int} (h0:0<n) (h1:n≤256):∃ (c':lX) (x:Int),aa.f k c n=some (c',(x,()))∧CI c'∧0≤x∧x<n:=by
 obtain ⟨c',x,e,hc,hx0,hx1⟩:=zC k h
 unfold aa.f aa.t
 rw [aQ (show ¬ n≤0 by omega),aL,aP h1,af,e,ae]
 simp only []
 rw [aQ (show ¬ n=0 by omega),aL]
 have e2:Int.tmod x n=x % n:=Int.tmod_eq_emod_of_nonneg hx0
 refine ⟨_,_,rfl,hc,?_,?_⟩
 · rw [e2];exact Int.emod_nonneg _ (by omega)
 · rw [e2];exact Int.emod_lt_of_pos _ h0
theorem GP (k:Nat) {c:lX} (h:CI c) {n:Int} (h0:0<n) (h1:n≤256):∃ (c':lX) (x:Bool),bp.f k c n=some (c',(x,()))∧CI c':=by
 obtain ⟨c',x,e,hc,_,_⟩:=wH k h h0 h1
 unfold bp.f bp.t
 rw [e,ae]
 exact ⟨_,_,rfl,hc⟩
theorem FF {k:Nat} (hk:2 ^ 50≤k) {l:List Int} (hl:l.length≤1048576):jg (fK.f k l) (fun r=>CI r.2.1):=by
 obtain ⟨c,e,h⟩:=H2 hk hl
 exact ⟨_,e,h⟩
theorem qT (k:Nat) {c:lX} (h:CI c):jg (eV.f k c) (fun r=>CI r.1∧0≤r.2.1∧r.2.1≤255):=by
 obtain ⟨c',x,e,h1,h2,h3⟩:=zC k h
 exact ⟨_,e,h1,h2,h3⟩
theorem lA (k:Nat) {c:lX} (h:CI c) {n:Int} (h0:0<n) (h1:n≤256):jg (aa.f k c n) (fun r=>CI r.1∧0≤r.2.1∧r.2.1<n):=by
 obtain ⟨c',x,e,q1,q2,q3⟩:=wH k h h0 h1
 exact ⟨_,e,q1,q2,q3⟩
theorem rY (k:Nat) {c:lX} (h:CI c) {n:Int} (h0:0<n):jg (aa.f k c n) (fun r=>CI r.1∧0≤r.2.1∧r.2.1<n):=by
 by_cases h1:n≤256
 · exact lA k h h0 h1
 unfold aa.f aa.t
 refine mW (aQ (by omega)) (mW (aQ h1) ?_)
 refine aj (qT k h) fun r1 q1=>?_
 refine aj (qT k q1.1) fun r2 q2=>?_
 refine aj (qT k q2.1) fun r3 q3=>?_
 refine aj (qT k q3.1) fun r4 q4=>?_
 refine mW (aQ (by omega)) (aX ⟨q4.1,?_⟩)
 obtain ⟨_,a0,a1⟩:=q1
 obtain ⟨_,b0,b1⟩:=q2
 obtain ⟨_,c0,c1⟩:=q3
 obtain ⟨_,d0,d1⟩:=q4
 simp only []
 rw [aD (n:=r1.2.1*16777216) (by omega) (by omega),aD (n:=r2.2.1*65536) (by omega) (by omega),aD (n:=r3.2.1*256) (by omega) (by omega),aD (n:=r1.2.1*16777216+r2.2.1*65536) (by omega) (by omega),aD (n:=r1.2.1*16777216+r2.2.1*65536+r3.2.1*256) (by omega) (by omega),aD (n:=r1.2.1*16777216+r2.2.1*65536+r3.2.1*256+r4.2.1) (by omega) (by omega)]
 rw [Int.tmod_eq_emod_of_nonneg (by omega)]
 exact ⟨Int.emod_nonneg _ (by omega),Int.emod_lt_of_pos _ h0⟩
theorem si (k:Nat) {c:lX} (h:CI c) {n:Int} (h0:0<n) (h1:n≤256):jg (bp.f k c n) (fun r=>CI r.1):=by
 obtain ⟨c',x,e,q1⟩:=GP k h h0 h1
 exact ⟨_,e,q1⟩
theorem Co (k:Nat) {c:lX} (h:CI c) {l:List ByteArray} (h0:0<l.length) (h1:l.length≤256):jg (cM.f k c l) (fun r=>CI r.1∧r.2.1 ∈ l):=by
 unfold cM.f cM.t
 refine aj (lA k h (by omega) (by omega)) fun r q=>?_
 refine fq q.2.1 q.2.2 (aX ⟨q.1,gl ?_⟩)
 have:=q.2.1
 have:=q.2.2
 omega
theorem CC (k:Nat) {c:lX} (h:CI c) {l:List Int} (h0:0<l.length) (h1:l.length≤256):jg (aM.f k c l) (fun r=>CI r.1∧r.2.1 ∈ l):=by
 unfold aM.f aM.t
 refine aj (lA k h (by omega) (by omega)) fun r q=>?_
 refine fq q.2.1 q.2.2 (aX ⟨q.1,gl ?_⟩)
 have:=q.2.1
 have:=q.2.2
 omega
theorem GU (l:List Int):(bytesOf l).size=l.length:=by simp [bytesOf,ByteArray.size]
theorem Ih {k:Nat} (hk:2 ^ 50≤k) (st:Int) (m:Nat) (hm:m≤200):∀ (d n:Nat) (c:lX) (out:List Int),d<n→CI c→out.length+d≤m→jg (eY.l0 k n st (d:Int) c.1 c.2.1 c.2.2.1 out) (fun r=>CI r.1∧r.2.1.size≤m):=by
 intro d
 induction d with
 | zero =>
  intro n c out hn hc ho
  obtain ⟨n,rfl⟩:∃ q,n=q+1:=⟨n-1,by omega⟩
  simp only [eY.l0,eY.b0]
  refine mW (aQ (by omega)) (aX ⟨hc,?_⟩)
  show (bytesOf out).size≤m
  rw [GU]
  omega
 | succ d ih =>
  intro n c out hn hc ho
  obtain ⟨n,rfl⟩:∃ q,n=q+1:=⟨n-1,by omega⟩
  have hw:aH (((d+1:Nat):Int)-1)=(d:Int):=by rw [aD (by omega) (by omega)];omega
  simp only [eY.l0,eY.b0,hw]
  refine iu (aP (by omega)) ?_
  refine aj (qT k hc) fun r hr=>?_
  refine ap (fun _=>ap (fun _=>?_) (fun _=>?_)) (fun _=>ap (fun _=>?_) (fun _=>?_))
  all_goals exact o8 (by omega) (by decide) (ih n r.1 _ (by omega) hr.1 (by rw [bN];omega))
theorem Gp {k:Nat} (hk:2 ^ 50≤k) {c:lX} (h:CI c) {m:Int} (h0:0≤m) (h1:m≤200):jg (eY.f k c m) (fun r=>CI r.1∧(r.2.1.size:Int)≤m):=by
 unfold eY.f eY.t
 rw [aD (n:=m+1) (by omega) (by omega)]
 refine aj (lA k h (by omega) (by omega)) fun r1 q1=>?_
 refine aj (lA k q1.1 (by omega) (by omega)) fun r2 q2=>?_
 obtain ⟨c2,a,b⟩:=q2
 have:=Ih hk r1.2.1 m.toNat (by omega) r2.2.1.toNat k r2.1 [] (by omega) c2 (by simp only [List.length_nil];omega)
 rw [show ((r2.2.1.toNat:Nat):Int)=r2.2.1 by omega] at this
 exact oe this fun r hr=>⟨hr.1,by have:=hr.2;omega⟩
theorem IP (k:Nat) {c:lX} (h:CI c):jg (iR.f k c) (fun r=>CI r.1):=by
 unfold iR.f iR.t
 exact aj (Co k h (by decide) (by decide)) fun r q=>aX q.1
def EX (n:Int) (d d':Ty.d aA):Prop:=∀ x:Int,1≤x→x<n→x≤100000→∀ t,fT d (a_ aF x)=some t→∃ u,fT d' (a_ aF x)=some (t++u)
theorem Dn (t:ByteArray):t++(⟨#[]⟩:ByteArray)=t:=E3 t
theorem pB {n:Int} {d d':Ty.d aA} (h:∀ x:Int,1≤x→x<n→x≤100000→fT d' (a_ aF x)=fT d (a_ aF x)):EX n d d':=fun x h0 h1 h2 t e=>⟨⟨#[]⟩,by rw [h x h0 h1 h2,e,Dn]⟩
theorem AR (n:Int) (d:Ty.d aA):EX n d d:=pB fun _ _ _ _=>rfl
theorem vu {n:Int} {d d' d'':Ty.d aA} (h:EX n d d') (g:EX n d' d''):EX n d d'':=fun x h0 h1 h2 t e=>by
 obtain ⟨u,hu⟩:=h x h0 h1 h2 t e
 obtain ⟨v,hv⟩:=g x h0 h1 h2 _ hu
 exact ⟨u++v,by rw [hv,oG]⟩
theorem JN {n m:Int} {d d':Ty.d aA} (h:EX m d d') (q:n≤m):EX n d d':=fun x h0 h1 h2 t e=>h x h0 (by omega) h2 t e
theorem KJ (n:Int) (d:Ty.d aA) (s x:ByteArray):EX n d (iS d s x).1:=fun y h0 h1 h2 t e=>by
 by_cases q:s=a_ aF y
 · subst q
   have:=sL (d:=d) (s:=a_ aF y) (x:=x)
   rw [e] at this
   cases c:(iS d (a_ aF y) x).2==0 with
   | true=>rw [c] at this;exact ⟨x,this⟩
   | false=>rw [c] at this;exact ⟨⟨#[]⟩,by rw [this,Dn];rfl⟩
 · exact ⟨⟨#[]⟩,by rw [vy q,e,Dn]⟩
theorem KN (n:Int) (d:Ty.d aA) (s:ByteArray):EX n d (g8 d s).1:=pB fun x _ _ _=>lQ
theorem J1 {st:Ty.d aE} {d:Ty.d aA} (hl:cH st.1=true) :
 EX st.1.1 d (jr st d).2.1∧LE.le (α:=Int) st.1.1 (jr st d).1.1.1∧(jr st d).1.2.2.1=st.2.2.1:=by
 obtain ⟨n1,n2,n3,_⟩:=iQ (n:=st.1.1) (ids:=st.1.2.1) hl
 have hnew:∀ x:Int,1≤x→x<st.1.1→x≤100000→a_ aF st.1.1≠a_ aF x:=fun x h0 h1 h2=>nB ⟨n1,n2⟩ ⟨h0,h2⟩ (by omega)
 have k1:∀ x:Int,1≤x→x<st.1.1→x≤100000→fT (g8 d (cv st)).1 (a_ aF x)=fT d (a_ aF x):=fun x _ _ _=>lQ
 have k2:∀ x:Int,1≤x→x<st.1.1→x≤100000→fT (bO (a_ aF st.1.1) (g8 d (cv st)).1).1 (a_ aF x)=fT d (a_ aF x):=fun x h0 h1 h2=>(lF (hnew x h0 h1 h2)).trans (k1 x h0 h1 h2)
 have k3:∀ x:Int,1≤x→x<st.1.1→x≤100000→fT (bi (kg st) (bO (a_ aF st.1.1) (g8 d (cv st)).1).1).1 (a_ aF x)=fT d (a_ aF x):=fun x h0 h1 h2=>(gz (gh ⟨h0,h2⟩) (ie ⟨h0,h2⟩)).trans (k2 x h0 h1 h2)
 unfold jr
 cases decide ((st.1.2.1.length:Int)≥60) with
 | true=>exact ⟨AR _ _,Int.le_refl _,rfl⟩
 | false =>
  cases decide (st.1.1≥(100000:Int)) with
  | true=>exact ⟨AR _ _,Int.le_refl _,rfl⟩
  | false =>
   have up:LE.le (α:=Int) st.1.1 (st.1.1+1):=by omega
   simp only [aL]
   generalize g8 d (cv st)=r1 at k1 k2 k3 ⊢
   generalize bO (a_ aF st.1.1) r1.1=r2 at k2 k3 ⊢
   generalize bi (kg st) r2.1=r3 at k3 ⊢
   cases r1.2 != 0 with
   | true=>exact ⟨pB k1,Int.le_refl _,rfl⟩
   | false =>
    cases r2.2 != 0 with
    | true=>exact ⟨pB k2,up,rfl⟩
    | false =>
     cases r3.2 != 0 with
     | true =>
      refine ⟨?_,up,rfl⟩
      simp only [af,aL]
      unfold nz
      cases (tl r3).2==2 with
      | false=>exact pB k3
      | true =>
       refine pB fun x h0 h1 h2=>?_
       refine (mO [iW,a_ aF st.1.1] r3.1 fun s hs=>?_).trans (k3 x h0 h1 h2)
       rcases List.mem_cons.1 hs with e | e
       · rw [e];exact gh ⟨h0,h2⟩
       · rw [List.mem_singleton.1 e];exact hnew x h0 h1 h2
     | false=>exact ⟨pB k3,up,rfl⟩
theorem Ei {st:Ty.d aE} (hl:cH st.1=true):LE.le (α:=Int) 1 (ac st.1.2.1)∧LT.lt (α:=Int) (ac st.1.2.1) st.1.1:=by
 obtain ⟨n1,n2,n3,n4⟩:=iQ (n:=st.1.1) (ids:=st.1.2.1) hl
 obtain ⟨_,_,g1,_,_⟩:=bV (nx:=st.1.1) (ids:=st.1.2.1) hl
 have hs:=lx g1
 have hlast:ac st.1.2.1 ∈ st.1.2.1:=by rw [hs];exact List.mem_append_right _ (List.mem_singleton.2 (by rw [← hs]))
 exact n3 _ hlast
theorem Ew {st:Ty.d aE} {d:Ty.d aA} (hl:cH st.1=true) (r:Ty.d bB) (n:Int) :
 EX n d (jc st d r).1.2.1∧(jc st d r).1.1.1=st.1∧(jc st d r).1.1.2.2.1=st.2.2.1∧((jc st d r).1.2.2=0→LE.le (α:=Int) 1 (jc st d r).2.1∧LT.lt (α:=Int) (jc st d r).2.1 st.1.1):=by
 have hE:=KJ n d (cv st) (aS (aG r))
 unfold jc
 generalize iS d (cv st) (aS (aG r))=a at hE ⊢
 cases c:a.2 != 0 with
 | true =>
  refine ⟨hE,rfl,rfl,fun e=>?_⟩
  have e:(tl a).2=0:=e
  have q:=xR a
  rw [e,c] at q
  cases q
 | false=>exact ⟨hE,rfl,rfl,fun _=>Ei hl⟩
theorem Ep {st:Ty.d aE} {d:Ty.d aA} (hl:cH st.1=true) (hd:DR d) (r:Ty.d bB) :
 EX st.1.1 d (fm st d r).1.2.1∧LE.le (α:=Int) st.1.1 (fm st d r).1.1.1.1∧(fm st d r).1.1.2.2.1=st.2.2.1∧((fm st d r).1.2.2=0→LE.le (α:=Int) 1 (fm st d r).2.1∧LT.lt (α:=Int) (fm st d r).2.1 (fm st d r).1.1.1.1):=by
 unfold fm
 cases decide (st.2.2.2.1 > 0)&&decide (st.2.2.2.1+b8 r > 200) with
 | false =>
  obtain ⟨s1,s2,s3,s4⟩:=Ew (d:=d) hl r st.1.1
  simp only [aL]
  rw [s2]
  exact ⟨s1,Int.le_refl _,s3,s4⟩
 | true =>
  obtain ⟨g1,g2,g3,g4⟩:=rF hl hd
  obtain ⟨t1,t2,t3⟩:=J1 (d:=d) hl
  simp only [af]
  generalize jr st d=q at g1 g2 g3 g4 t1 t2 t3 ⊢
  cases c:q.2.2 != 0 with
  | true =>
   refine ⟨t1,t2,t3,fun e=>?_⟩
   have e:q.2.2=0:=e
   rw [e] at c
   cases c
  | false =>
   obtain ⟨s1,s2,s3,s4⟩:=Ew (d:=q.2.1) g1 r st.1.1
   simp only [aL]
   rw [s2]
   exact ⟨vu t1 s1,t2,s3.trans t3,s4⟩
theorem CF:∀ (l:jH) (st:Ty.d aE) (d:Ty.d aA) (ps:aY) (B:Int),SR st (d,0) B→0≤B→(∀ p ∈ ps,LE.le (α:=Int) 1 p.1∧LT.lt (α:=Int) p.1 st.1.1) →
 EX st.1.1 d (eR l st d ps).1.2.1∧LE.le (α:=Int) st.1.1 (eR l st d ps).1.1.1.1∧(eR l st d ps).1.1.2.2.1=st.2.2.1∧∀ p ∈ (eR l st d ps).2,LE.le (α:=Int) 1 p.1∧LT.lt (α:=Int) p.1 (eR l st d ps).1.1.1.1
 | [],st,d,ps,B,_,_,hp=>⟨AR _ _,Int.le_refl _,rfl,hp⟩
 | r::l,st,d,ps,B,h,hB,hp=>by
  obtain ⟨g1,g2,g3⟩:=qf h hB r
  obtain ⟨s1,s2,s3,s4⟩:=Ep (d:=d) h.live h.disk r
  unfold eR
  generalize fm st d r=q at g1 g2 g3 s1 s2 s3 s4 ⊢
  have up:∀ p ∈ ps,LE.le (α:=Int) 1 p.1∧LT.lt (α:=Int) p.1 q.1.1.1.1:=fun p hq=>⟨(hp p hq).1,Int.lt_of_lt_of_le (hp p hq).2 s2⟩
  cases c:q.1.2.2 != 0 with
  | true=>exact ⟨s1,s2,s3,up⟩
  | false =>
   have e0:=hF c
   obtain ⟨i1,i2,i3,i4⟩:=CF l q.1.1 q.1.2.1 (ps++[q.2]) (B+211) ⟨g1.live,g1.disk,g1.lo,g1.hi⟩ (by omega) fun p hq=>by
    rcases List.mem_append.1 hq with w | w
    · exact up p w
    · rw [List.mem_singleton.1 w]
      exact s4 e0
   simp only [aL]
   exact ⟨vu s1 (JN i1 s2),Int.le_trans s2 i2,i3.trans s3,i4⟩
theorem HA {d:aT} {p:Ty.d aC} {e:Ty.d aB} (h:e ∈ fN d p):(e=eQ p∧(p.2.2.2.1.1==2)=false)∨e ∈ d:=by
 unfold fN at h
 cases c:p.2.2.2.1.1==2 with
 | true=>rw [c,af] at h;exact .inr ((List.mem_filter.1 h).1)
 | false =>
  rw [c,aL] at h
  rcases Ee h with w | w
  · exact .inl ⟨w,rfl⟩
  · exact .inr ((List.mem_filter.1 w).1)
theorem mn {e:Ty.d aB}:∀ (ps:aY) {d:aT},e ∈ bQ d ps→(∃ p ∈ ps,e=eQ p∧(p.2.2.2.1.1==2)=false)∨e ∈ d
 | [],d,h => .inr h
 | p::ps,d,h=>by
  rcases mn ps (d:=fN d p) h with ⟨q,hq,w⟩ | w
  · exact .inl ⟨q,lV _ hq,w⟩
  · rcases HA w with w | w
    · exact .inl ⟨p,jo,w⟩
    · exact .inr w
theorem yd {s t:ByteArray} {i n:Int} (h:(du s i n).2=true):du (s++t) i n=du s i n:=by
 unfold du at h ⊢
 by_cases c:0≤i∧i≤s.size∧1≤n∧n≤s.size-i
 · have hz:(s++t).size=s.size+t.size:=ByteArray.size_append ..
   have e:ByteArray.extract (s++t) i.toNat (i+n).toNat=ByteArray.extract s i.toNat (i+n).toNat:=by
    refine jW ?_
    rw [rh,rh,gk,List.take_append_of_le_length (by rw [cO];omega)]
   rw [if_pos c,if_pos (show 0≤i∧i≤(s++t).size∧1≤n∧n≤(s++t).size-i from ⟨c.1,by omega,c.2.2.1,by omega⟩),e]
 · rw [if_neg c] at h
   cases h
theorem wN {n:Int} {d d':Ty.d aA} {e:Ty.d aB} (hd:DR d) (hd':DR d') (hx:EX n d d') (h1:LE.le (α:=Int) 1 e.2.1) (h2:LT.lt (α:=Int) e.2.1 n) (h3:LE.le (α:=Int) e.2.1 100000) (h:(fQ d e).2=true):fQ d' e=fQ d e:=by
 unfold fQ at h ⊢
 rw [jY hd] at h
 rw [jY hd,jY hd']
 cases c:fT d (a_ aF e.2.1) with
 | none =>
  rw [c] at h
  have h:(du ⟨#[]⟩ e.2.2.1 e.2.2.2.1).2=true:=h
  rw [uH] at h
  cases h
 | some t =>
  obtain ⟨u,hu⟩:=hx e.2.1 h1 h2 h3 t c
  rw [c] at h
  rw [hu]
  exact yd h
def EI (st:Ty.d aE):Prop:=∀ e ∈ st.2.1,LE.le (α:=Int) 1 e.2.1∧LT.lt (α:=Int) e.2.1 st.1.1
def FL (s:ByteArray):Prop:=∃ rs:jH,(∀ r ∈ rs,bv r=true)∧s=ab rs
theorem Ie (s:ByteArray):∀ (d:Nat) (i:Int),0≤i→i≤s.size→(s.size:Int)-i<d→(fY s d i).2=(s.size:Int)→FL (ByteArray.extract s i.toNat s.size):=by
 intro d
 induction d with
 | zero=>intro i h0 h1 h2 _;omega
 | succ d ih =>
  intro i h0 h1 h2 h
  have stop:i=(s.size:Int)→FL (ByteArray.extract s i.toNat s.size):=fun e=>by
   rw [e,Int.toNat_natCast,xk]
   exact ⟨[],fun r hr=>(by cases hr),rfl⟩
  rw [fY] at h
  by_cases c1:(fv (ByteArray.extract s i.toNat s.size)).2=0
  · rw [if_pos c1] at h
    exact stop h
  · rw [if_neg c1] at h
    cases c2:(gM (fv (ByteArray.extract s i.toNat s.size)).1).2 with
    | false =>
     rw [if_pos c2] at h
     exact stop h
    | true =>
     rw [if_neg (by rw [c2];decide)] at h
     have hu:=lm (ByteArray.extract s i.toNat s.size)
     have hz:=oO s i.toNat
     have ih:=ih (i+(fv (ByteArray.extract s i.toNat s.size)).2) (by omega) (by omega) (by omega) h
     rcases mm (ByteArray.extract s i.toNat s.size) with ⟨t,r,ht,e1,e2⟩ | ⟨e2,_⟩
     · rw [e2] at ih c2
       simp only [] at ih c2
       have e3:ByteArray.extract s (i+((aS t).size:Int)).toNat s.size=r:=by
        apply jW
        have hnb:=congrArg nb e1
        rw [gf,gk] at hnb
        rw [gf,show (i+((aS t).size:Int)).toNat=i.toNat+(aS t).size by omega,← List.drop_drop,hnb,List.drop_left' (cO _)]
       rw [e3] at ih
       obtain ⟨rs,k1,k2⟩:=ih
       obtain ⟨g1,g2⟩:=vt (s:=t) (r:=(gM t).1) (Prod.ext rfl c2)
       refine ⟨(gM t).1::rs,fun x hx=>?_,?_⟩
       · rcases List.mem_cons.1 hx with e | e
         · rw [e];exact g1
         · exact k1 x e
       · rw [e1,k2,ab,g2]
     · exact absurd (by rw [e2]) c1
theorem u4 (s:ByteArray):ByteArray.extract s 0 s.size=s:=jW (by rw [gf,List.drop_zero])
theorem EU {s:ByteArray} (h:(b_ s).2=(s.size:Int)):FL s:=by
 have:=Ie s (s.size+1) 0 (by omega) (by omega) (by omega) h
 rw [show (0:Int).toNat=0 from rfl,u4] at this
 exact this
theorem yw {s:ByteArray} (h:FL s):(b_ s).2=(s.size:Int):=by
 obtain ⟨rs,h1,h2⟩:=h
 rw [h2]
 exact (om h1).2
theorem wA (r:Ty.d bB):ab [r]=aS (aG r):=Dn _
theorem I3 {s:ByteArray} {r:Ty.d bB} (h:FL s) (hr:bv r=true):FL (s++aS (aG r)):=by
 obtain ⟨rs,h1,h2⟩:=h
 refine ⟨rs++[r],fun x hx=>?_,?_⟩
 · rcases List.mem_append.1 hx with e | e
   · exact h1 x e
   · rw [List.mem_singleton.1 e];exact hr
 · rw [nl,wA,h2]
theorem FR:FL ⟨#[]⟩:=⟨[],fun r hr=>(by cases hr),rfl⟩
theorem u7 (r:Ty.d bB):5≤b8 r∧b8 r≤210:=by
 have h1:=ja r
 have h2:=jt (s:=aG r) (by omega)
 have h3:(aS (aG r)).size≤74:=by
  unfold aS
  rw [if_neg (by omega)]
  have h4:=j_ (pZ (jB (aG r)))
  have h5:=bI ((aG r).size:Int)
  rw [ByteArray.size_append]
  unfold jB at h4 ⊢
  rw [ByteArray.size_append]
  omega
 unfold b8
 omega
theorem yq (t:ByteArray) {r:Ty.d bB} (h:bv r=true):du (t++aS (aG r)) (t.size:Int) (b8 r)=(r,true):=by
 have hz:=ja r
 have hp:=u7 r
 have hl:((aS (aG r)).size:Int)=b8 r:=rfl
 have hs:(t++aS (aG r)).size=t.size+(aS (aG r)).size:=ByteArray.size_append ..
 have e:ByteArray.extract (t++aS (aG r)) (t.size:Int).toNat ((t.size:Int)+b8 r).toNat=aS (aG r):=by
  rw [Int.toNat_natCast,show ((t.size:Int)+b8 r).toNat=(t++aS (aG r)).size by omega]
  exact dw _ _
 have e2:fv (aS (aG r))=(aG r,((aS (aG r)).size:Int)):=by
  have:=mo ⟨#[]⟩ (t:=aG r) (by omega)
  rw [Dn] at this
  exact this
 unfold du
 rw [if_pos ⟨by omega,by omega,by omega,by omega⟩,e,e2]
 simp only []
 rw [if_pos hl,tK h]
def JY (x:Ty.d aB):Bool:=lU x.1&&(decide ((1:Int)≤x.2.1∧x.2.1≤100000)&&(!decide (x.2.2.1<(0:Int))&&(decide ((1:Int)≤x.2.2.2.1∧x.2.2.2.1≤210)&&decide ((1:Int)≤x.2.2.2.2.1∧x.2.2.2.2.1≤1000000))))
theorem FP (p:Option (Ty.d aB)) (x:Ty.d aB):oR p x=true↔(JY x=true∧∀ q,p=some q→mw q.1 x.1=true):=by
 unfold oR JY
 simp only [gX]
 cases p with
 | none=>exact ⟨fun h=>⟨⟨h.1,h.2.1,h.2.2.1,h.2.2.2.1,h.2.2.2.2.1⟩,fun q hq=>(by cases hq)⟩,fun h=>⟨h.1.1,h.1.2.1,h.1.2.2.1,h.1.2.2.2.1,h.1.2.2.2.2,rfl⟩⟩
 | some y=>exact ⟨fun h=>⟨⟨h.1,h.2.1,h.2.2.1,h.2.2.2.1,h.2.2.2.2.1⟩,fun q hq=>(by cases hq;exact h.2.2.2.2.2)⟩,fun h=>⟨h.1.1,h.1.2.1,h.1.2.2.1,h.1.2.2.2.1,h.1.2.2.2.2,h.2 y rfl⟩⟩
def iZ (l:aT):List ByteArray:=l.map (·.1)
theorem F5:∀ (l:aT) (p:Option (Ty.d aB)),nS oR p l=true↔((∀ f ∈ l,JY f=true)∧cX (iZ l)∧(∀ q,p=some q→∀ f ∈ l,mw q.1 f.1=true))
 | [],p=>by
  constructor
  · intro _
    exact ⟨fun f h=>(by cases h),List.Pairwise.nil,fun q _ f h=>(by cases h)⟩
  · intro _;rfl
 | g::l,p=>by
  have ih:=F5 l (some g)
  unfold nS
  rw [gX,ih,FP]
  constructor
  · rintro ⟨⟨h1,h2⟩,h3,h4,h5⟩
    refine ⟨fun f hf=>?_,?_,fun q hq f hf=>?_⟩
    · rcases List.mem_cons.1 hf with e | e
      · rw [e];exact h1
      · exact h3 f e
    · unfold cX iZ
      rw [List.map_cons,List.pairwise_cons]
      refine ⟨fun x hx=>?_,h4⟩
      obtain ⟨f,hf,rfl⟩:=List.mem_map.1 hx
      exact h5 g rfl f hf
    · rcases List.mem_cons.1 hf with e | e
      · rw [e];exact h2 q hq
      · exact oN (h2 q hq) (h5 g rfl f e)
  · rintro ⟨h1,h2,h3⟩
    unfold cX iZ at h2
    rw [List.map_cons,List.pairwise_cons] at h2
    refine ⟨⟨h1 g (jo ..),fun q hq=>h3 q hq g (jo ..)⟩,fun f hf=>h1 f (lV _ hf),h2.2,fun q hq f hf=>?_⟩
    cases hq
    exact h2.1 f.1 (List.mem_map.2 ⟨f,hf,rfl⟩)
theorem tY {l:aT}:oW l=true↔(l.length≤20∧(∀ f ∈ l,JY f=true)∧cX (iZ l)):=by
 unfold oW
 rw [gX,decide_eq_true_eq,F5]
 exact ⟨fun h=>⟨by omega,h.2.1,h.2.2.1⟩,fun h=>⟨by omega,h.2.1,h.2.2,fun q hq=>(by cases hq)⟩⟩
theorem zQ (key:ByteArray) {l:aT} (h:cX (iZ l)):cX (iZ (iF l key)):=List.Pairwise.sublist (List.Sublist.map _ List.filter_sublist) h
theorem yZ {α:Type} (key:α→ByteArray) {e:α}:∀ {l:List α},cX (l.map key)→(∀ g ∈ l,key g≠key e)→cX ((l.takeWhile (fun x=>mw (key x) (key e)||seq (key x) (key e))++e::l.dropWhile (fun x=>mw (key x) (key e)||seq (key x) (key e))).map key)
 | [],_,_=>List.pairwise_singleton ..
 | g::l,h,hn=>by
  have h':=h
  unfold cX at h'
  rw [List.map_cons,List.pairwise_cons] at h'
  have ih:=yZ key (e:=e) (l:=l) h'.2 fun x hx=>hn x (lV _ hx)
  rw [List.takeWhile_cons,List.dropWhile_cons]
  have hne:=hn g jo
  cases c:(mw (key g) (key e)||seq (key g) (key e)) with
  | true =>
   rw [if_pos rfl,if_pos rfl]
   unfold cX at ih ⊢
   rw [List.cons_append,List.map_cons,List.pairwise_cons]
   refine ⟨fun x hx=>?_,ih⟩
   have hge:mw (key g) (key e)=true:=by
    rw [kZ hne,Bool.or_false] at c
    exact c
   obtain ⟨y,hy,rfl⟩:=List.mem_map.1 hx
   rcases List.mem_append.1 hy with w | w
   · exact h'.1 (key y) (List.mem_map.2 ⟨y,List.takeWhile_subset _ w,rfl⟩)
   · rcases List.mem_cons.1 w with w | w
     · rw [w];exact hge
     · exact h'.1 (key y) (List.mem_map.2 ⟨y,List.dropWhile_subset _ w,rfl⟩)
  | false =>
   rw [if_neg (by decide),if_neg (by decide),List.nil_append]
   rw [kZ hne,Bool.or_false] at c
   have hlt:mw (key e) (key g)=true:=by
    have:=m4 (key e) (key g)
    rw [kZ (fun q=>hne q.symm),c] at this
    simpa using this
   unfold cX
   rw [List.map_cons,List.pairwise_cons]
   refine ⟨fun x hx=>?_,h⟩
   obtain ⟨y,hy,rfl⟩:=List.mem_map.1 hx
   rcases List.mem_cons.1 hy with w | w
   · rw [w];exact hlt
   · exact oN hlt (h'.1 (key y) (List.mem_map.2 ⟨y,w,rfl⟩))
theorem Gy {e:Ty.d aB} {l:aT} (h:cX (iZ l)) (hn:∀ g ∈ l,g.1≠e.1):cX (iZ (qK l e)):=yZ (fun x:Ty.d aB=>x.1) h hn
theorem Ia {l:aT} {key:ByteArray}:∀ g ∈ iF l key,g.1≠key:=fun g hg q=>by
 unfold iF at hg
 rw [List.mem_filter] at hg
 have:=hg.2
 rw [q,bT] at this
 cases this
theorem Gd {d:aT} (p:Ty.d aC) (h:cX (iZ d)):cX (iZ (fN d p)):=by
 unfold fN
 cases p.2.2.2.1.1==2 with
 | true=>exact zQ _ h
 | false=>exact Gy (zQ _ h) Ia
theorem ow:∀ (ps:aY) {d:aT},cX (iZ d)→cX (iZ (bQ d ps))
 | [],_,h=>h
 | p::ps,d,h=>ow ps (d:=fN d p) (Gd p h)
end Go.Proofs.YthjppgafienaoabGreatDoor.G

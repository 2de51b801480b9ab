/- Plain laws, merged; what is proved here is told ahead of each part. -/
import Derived.Test.YtnpijgnfpdcjbaaGreatDoorZO1
namespace Go.Proofs.YtnpijgnfpdcjbaaGreatDoor.G
open Go.V
def oH (p:Option (Ty.d aB)) (x:Ty.d aB):Bool :=
 lH x.1&&(decide ((1:Int)≤x.2.1∧x.2.1≤100000)&&(!decide (x.2.2.1<(0:Int))&&(decide ((1:Int)≤x.2.2.2.1∧x.2.2.2.1≤210)&&(decide ((1:Int)≤x.2.2.2.2.1∧x.2.2.2.2.1≤1000000)&&(match p with | none=>true | some y=>mh y.1 x.1)))))
def oA (l:aR):Bool:=decide ((l.length:Int)≤20)&&nC oH none l
theorem xO {k:Nat} (hk:2 ^ 50≤k) (l:aR):eU.f k l=some (oA l,()):=by
 unfold eU.f eU.t oA
 by_cases c:l.length > 20
 · rw [aO (by omega),ac,aP (by omega),Bool.false_and]
 · rw [aP (by omega),aK,aO (by omega),Bool.true_and]
   refine (pn (L:=fun n i=>eU.l0 k n l i) (Ty.z aB) l oH (some (true,())) (some (false,())) (fun n=>?_) (fun n x h hx=>?_) (fun n i x y h0 h1 hx hy=>?_) (n:=k) (by omega)).trans (by cases nC oH none l <;> rfl)
   · simp (disch:=omega) only [eU.l0,eU.b0,aP,aK]
   · simp (disch:=omega) only [eU.l0,eU.b0,aO (show (0:Int)<(l.length:Int) by omega),ac,aH,hx,kB k,fE k,ab,aP (show ¬ (0:Int) > 0 by omega),aK,aD,oH,lH]
     cases decide (1≤(x.1.size:Int)∧(x.1.size:Int)≤8) <;> cases decide ((1:Int)≤x.2.1∧x.2.1≤100000) <;> cases decide (x.2.2.1<(0:Int)) <;> cases decide ((1:Int)≤x.2.2.2.1∧x.2.2.2.1≤210) <;> cases decide ((1:Int)≤x.2.2.2.2.1∧x.2.2.2.2.1≤1000000) <;> rfl
   · simp (disch:=omega) only [eU.l0,eU.b0,aO h1,ac,aH,hx,hy,kB k,fE k,ab,aO (show i > 0 by omega),aK,aD,oH,lH,lT]
     cases decide (1≤(x.1.size:Int)∧(x.1.size:Int)≤8) <;> cases decide ((1:Int)≤x.2.1∧x.2.1≤100000) <;> cases decide (x.2.2.1<(0:Int)) <;> cases decide ((1:Int)≤x.2.2.2.1∧x.2.2.2.1≤210) <;> cases decide ((1:Int)≤x.2.2.2.2.1∧x.2.2.2.2.1≤1000000) <;> cases mh y.1 x.1 <;> rfl
theorem DU {k:Nat} (hk:2 ^ 50≤k) {l:aR} (hl:l.length≤1099511627776):fV.f k l=some (oA l,()):=by
 unfold fV.f fV.t oA
 refine (pn (L:=fun n i=>fV.l0 k n l l l.length i) (Ty.z aB) l oH (some (decide ((l.length:Int)≤20),())) (some (false,())) (fun n=>?_) (fun n x h hx=>?_) (fun n i x y h0 h1 hx hy=>?_) (n:=k) (by omega)).trans (by cases nC oH none l <;> cases decide ((l.length:Int)≤20) <;> rfl)
 · simp (disch:=omega) only [fV.l0,fV.b0,aP (show ¬ (l.length:Int)<(l.length:Int) by omega),aK]
 · simp (disch:=omega) only [fV.l0,fV.b0,aO (show (0:Int)<(l.length:Int) by omega),ac,aH,hx,oT k,lm k,ab,aP (show ¬ (0:Int) > 0 by omega),aK,aD,oH,lH]
   cases decide (1≤(x.1.size:Int)∧(x.1.size:Int)≤8) <;> cases decide ((1:Int)≤x.2.1∧x.2.1≤100000) <;> cases decide (x.2.2.1<(0:Int)) <;> cases decide ((1:Int)≤x.2.2.2.1∧x.2.2.2.1≤210) <;> cases decide ((1:Int)≤x.2.2.2.2.1∧x.2.2.2.2.1≤1000000) <;> rfl
 · simp (disch:=omega) only [fV.l0,fV.b0,aO h1,ac,aH,hx,hy,oT k,lm k,ab,aO (show i > 0 by omega),aK,aD,oH,lH]
   cases decide (1≤(x.1.size:Int)∧(x.1.size:Int)≤8) <;> cases decide ((1:Int)≤x.2.1∧x.2.1≤100000) <;> cases decide (x.2.2.1<(0:Int)) <;> cases decide ((1:Int)≤x.2.2.2.1∧x.2.2.2.1≤210) <;> cases decide ((1:Int)≤x.2.2.2.2.1∧x.2.2.2.2.1≤1000000) <;> cases mh y.1 x.1 <;> rfl
def wq:aR→ByteArray→Option (Ty.d aB)
 | [],_=>none
 | e::l,s=>bif seq e.1 s then some e else wq l s
def K2:Ty.d aB:=(ByteArray.empty,(0,(0,(0,(0,())))))
def Hy:Option (Ty.d aB)→Option (Ty.d aB × Bool × Unit)
 | none=>some (K2,(false,()))
 | some e=>some (e,(true,()))
theorem qs {k:Nat} (hk:2 ^ 50≤k) {l:aR} (hl:l.length≤1099511627776) (s:ByteArray):eT.f k l s=Hy (wq l s):=by
 unfold eT.f eT.t
 refine e_ (L:=fun n i (_:Unit)=>eT.l0 k n l s i ByteArray.empty 0 0 0 0) (R:=fun r _=>Hy (wq r s)) (Ty.z aB) l (fun _ _=>True) (fun n _ _=>?_) (fun n i _ x rest h0 h1 hx hr hp ih=>?_) (n:=k) (s:=()) (by omega) trivial
 · simp (disch:=omega) only [eT.l0,eT.b0,aP,aK,wq]
   rfl
 · have ih:=ih () trivial
   simp (disch:=omega) only [eT.l0,eT.b0,aO h1,ac,aH,hx,aD,ih,wq]
   cases seq x.1 s <;> rfl
def JE:Ty.d aL:=(ByteArray.empty,(ByteArray.empty,(0,())))
noncomputable def fO (d:Ty.d aA) (e:Ty.d aB):Ty.d b7 × Bool:=dk (aT d (a_ aF e.2.1)).1 e.2.2.1 e.2.2.2.1
noncomputable def ub (l:aR) (d:Ty.d aA) (key:ByteArray):Ty.d aL × Int :=
 match wq l key with
 | none=>(JE,8)
 | some e=>bif (fO d e).2&&(seq (fO d e).1.2.2.1 key&&(((fO d e).1.1==1)||((fO d e).1.1==4))) then ((key,((fO d e).1.2.2.2.1,((fO d e).1.2.1,()))),0) else (JE,3)
theorem uI (i n:Int):dk ⟨#[]⟩ i n=(ri,false):=by
 unfold dk
 rw [if_neg]
 rintro ⟨h1,h2,h3,h4⟩
 have:((⟨#[]⟩:ByteArray).size:Int)=0:=rfl
 omega
theorem EL {d:Ty.d aA} {s:ByteArray} (h:(aT d s).2=false):(aT d s).1=⟨#[]⟩:=by
 unfold aT at h ⊢
 generalize gf d=b at h ⊢
 generalize bh d.1 s=o at h ⊢
 cases b <;> cases o <;> first | rfl | cases h
theorem Ey {d:Ty.d aA} {e:Ty.d aB} (h:(fO d e).2=true):(aT d (a_ aF e.2.1)).2=true:=by
 cases c:(aT d (a_ aF e.2.1)).2 with
 | true=>rfl
 | false =>
  unfold fO at h
  rw [EL c,uI] at h
  cases h
theorem vb {k:Nat} (hk:2 ^ 50≤k) {st:Ty.d aE} {d:Ty.d aA} (hd:AM d) (hl:st.2.1.length≤1099511627776) (key:ByteArray):kO.f k st d key=some ((ub st.2.1 d key).1,((ub st.2.1 d key).2,())):=by
 have:=hd.l;have:=hd.u;have:=hd.n
 unfold kO.f kO.t ub
 rw [qs hk hl]
 cases wq st.2.1 key with
 | none=>rfl
 | some e =>
  unfold Hy
  have hz:=fp d (a_ aF e.2.1)
  simp only [ab,fh,aK,bU hk]
  rw [gS hk (by omega) (by omega) (by omega),ab]
  simp only []
  rw [sf hk _ _ (by omega),ab]
  change (bif !(aT d (a_ aF e.2.1)).2 then _ else bif !(fO d e).2 then _ else bif !seq (fO d e).1.2.2.1 key then _ else bif !((fO d e).1.1==1) then bif !((fO d e).1.1==4) then _ else some ((key,((fO d e).1.2.2.2.1,((fO d e).1.2.1,()))),(0,())) else some ((key,((fO d e).1.2.2.2.1,((fO d e).1.2.1,()))),(0,())))=_
  cases c:(fO d e).2 with
  | false=>cases (aT d (a_ aF e.2.1)).2 <;> rfl
  | true =>
   rw [Ey c]
   cases seq (fO d e).1.2.2.1 key <;> cases ((fO d e).1.1==1) <;> cases ((fO d e).1.1==4) <;> rfl
noncomputable def pQ (l:aR) (d:Ty.d aA):List ByteArray→iE→iE × Int
 | [],acc=>(acc,0)
 | key::r,acc=>bif (ub l d key).2 != 0 then ([],(ub l d key).2) else pQ l d r (acc++[(ub l d key).1])
noncomputable def gd (l:aR) (d:Ty.d aA):iE × Int:=pQ l d (l.map (·.1)) []
theorem yZ (l:aR) (d:Ty.d aA):∀ (r:List ByteArray) (acc:iE),(pQ l d r acc).1.length≤acc.length+r.length
 | [],acc=>Nat.le_refl _
 | key::r,acc=>by
  unfold pQ
  cases (ub l d key).2 != 0 with
  | true=>exact Nat.zero_le _
  | false =>
   have:=yZ l d r (acc++[(ub l d key).1])
   rw [br] at this
   rw [aK,kJ]
   omega
theorem nz (l:aR) (d:Ty.d aA):(gd l d).1.length≤l.length:=by
 have:=yZ l d (l.map (·.1)) []
 rw [List.length_map,List.length_nil] at this
 unfold gd
 omega
theorem tu {k:Nat} (hk:2 ^ 50≤k) {st:Ty.d aE} {d:Ty.d aA} (hd:AM d) (hl:st.2.1.length≤1099511627775):eO.f k st d=some ((gd st.2.1 d).1,((gd st.2.1 d).2,())):=by
 unfold eO.f eO.t gd
 refine e_ (L:=fun n i s=>eO.l0 k n i st.1.1 st.1.2.1 st.2.1 st.2.2.1 st.2.2.2.1 st.2.2.2.2.1 d.1 d.2.1 d.2.2.1 d.2.2.2.1 s) (R:=fun r s=>some ((pQ st.2.1 d (r.map (·.1)) s).1,((pQ st.2.1 d (r.map (·.1)) s).2,()))) (Ty.z aB) st.2.1 (fun i s=>(s.length:Int)=i) (fun n s hs=>?_) (fun n i s x rest h0 h1 hx hr hp ih=>?_) (n:=k) (s:=[]) (by omega) rfl
 · simp (disch:=omega) only [eO.l0,eO.b0,aP,aK,List.map_nil,pQ]
 · have hg:=vb hk (st:=st) (d:=d) hd (by omega) x.1
   have ih:=ih (s++[(ub st.2.1 d x.1).1]) (by rw [br];omega)
   simp (disch:=first | omega | decide) only [eO.l0,eO.b0,aO h1,ac,aH,hx,hg,ab,cD,aD,ih,List.map_cons,pQ]
   cases (ub st.2.1 d x.1).2 != 0 <;> rfl
noncomputable def AX (d:Ty.d aA) (tail:Int) (x:Int) (last:Bool):Bool :=
 (aT d (a_ aF x)).2&&(decide ((az (aT d (a_ aF x)).1).2=((aT d (a_ aF x)).1.size:Int))&&(!last||(tail==((aT d (a_ aF x)).1.size:Int))))
noncomputable def lg (d:Ty.d aA) (tail:Int):List Int→Bool
 | []=>true
 | x::l=>AX d tail x l.isEmpty&&lg d tail l
noncomputable def m0 (d:Ty.d aA) (next:Int) (e:Ty.d aB):Bool :=
 (fO d e).2&&(seq (fO d e).1.2.2.1 e.1&&(((fO d e).1.2.1==e.2.2.2.2.1)&&((((fO d e).1.1==1)||((fO d e).1.1==4))&&!decide (e.2.2.2.2.1≥next))))
noncomputable def d9 (st:Ty.d aE) (d:Ty.d aA):Bool :=
 gf d&&(cS st.1&&(oA st.2.1&&(decide ((1:Int)≤st.2.2.1∧st.2.2.1≤1000001)&&(lg d st.2.2.2.1 st.1.2.1&&st.2.1.all (m0 d st.2.2.1)))))
theorem BK {α:Type} {l:List α} {i:Int} {x:α} {rest:List α} (h0:0≤i) (h:l.drop i.toNat=x::rest):rest.isEmpty=decide (i+1=(l.length:Int)):=by
 have:=congrArg List.length h
 rw [List.length_drop,kJ] at this
 cases rest with
 | nil=>rw [aO (by rw [List.length_nil] at this;omega)];rfl
 | cons y r=>rw [aP (by rw [kJ] at this;omega)];rfl
theorem sQ {k:Nat} (hk:2 ^ 50≤k) {st:Ty.d aE} {d:Ty.d aA} (hd:AM d):cA.f k st d=some (d9 st d,()):=by
 have:=hd.l;have:=hd.u;have:=hd.n
 unfold cA.f cA.t d9
 rw [j_ hk (by omega) (by omega),ab]
 cases gf d with
 | false=>rfl
 | true =>
  rw [fh,aK,pk hk,ab,Bool.true_and]
  cases cl:cS st.1 with
  | false=>rfl
  | true =>
   rw [fh,aK,xO hk,ab,Bool.true_and]
   cases cd:oA st.2.1 with
   | false=>rfl
   | true =>
    rw [fh,aK,fE,ab,Bool.true_and]
    cases decide ((1:Int)≤st.2.2.1∧st.2.2.1≤1000001) with
    | false=>rfl
    | true =>
     rw [fh,aK,Bool.true_and]
     have hl:st.1.2.1.length≤60:=by
      unfold cS at cl
      rw [gN,gN,decide_eq_true_eq,decide_eq_true_eq] at cl
      omega
     have he:st.2.1.length≤20:=by
      unfold oA at cd
      rw [gN,decide_eq_true_eq] at cd
      omega
     have l1:cA.l1 k k 0 st.1.1 st.1.2.1 st.2.1 st.2.2.1 st.2.2.2.1 st.2.2.2.2.1 d.1 d.2.1 d.2.2.1 d.2.2.2.1=some (st.2.1.all (m0 d st.2.2.1),()):=by
      refine e_ (L:=fun n i (_:Unit)=>cA.l1 k n i st.1.1 st.1.2.1 st.2.1 st.2.2.1 st.2.2.2.1 st.2.2.2.2.1 d.1 d.2.1 d.2.2.1 d.2.2.2.1) (R:=fun r _=>some (r.all (m0 d st.2.2.1),())) (Ty.z aB) st.2.1 (fun _ _=>True) (fun n _ _=>?_) (fun n i _ x rest h0 h1 hx hr hp ih=>?_) (n:=k) (s:=()) (by omega) trivial
      · simp (disch:=omega) only [cA.l1,cA.b1,aP,aK,List.all_nil]
      · have ih:=ih () trivial
        have hz:=fp d (a_ aF x.2.1)
        have ht:=gS hk (d:=d) (by omega) (by omega) (by omega) (a_ aF x.2.1)
        have hr:=sf hk (s:=(aT d (a_ aF x.2.1)).1) x.2.2.1 x.2.2.2.1 (by omega)
        simp (disch:=omega) only [cA.l1,cA.b1,aO h1,ac,aH,hx,bU hk,ab,ht,hr,aD,ih,List.all_cons,m0,fO,bne]
        cases (dk (aT d (a_ aF x.2.1)).1 x.2.2.1 x.2.2.2.1).2 <;> cases seq (dk (aT d (a_ aF x.2.1)).1 x.2.2.1 x.2.2.2.1).1.2.2.1 x.1 <;> cases ((dk (aT d (a_ aF x.2.1)).1 x.2.2.1 x.2.2.2.1).1.2.1==x.2.2.2.2.1) <;>
         cases ((dk (aT d (a_ aF x.2.1)).1 x.2.2.1 x.2.2.2.1).1.1==1) <;> cases ((dk (aT d (a_ aF x.2.1)).1 x.2.2.1 x.2.2.2.1).1.1==4) <;> cases decide (x.2.2.2.2.1≥st.2.2.1) <;> rfl
     refine (e_ (L:=fun n i (_:Unit)=>cA.l0 k n i st.1.1 st.1.2.1 st.2.1 st.2.2.1 st.2.2.2.1 st.2.2.2.2.1 d.1 d.2.1 d.2.2.1 d.2.2.2.1) (R:=fun r _=>some (lg d st.2.2.2.1 r&&st.2.1.all (m0 d st.2.2.1),())) (Ty.z (.int .i64)) st.1.2.1 (fun _ _=>True) (fun n _ _=>?_) (fun n i _ x rest h0 h1 hx hr hp ih=>?_) (n:=k) (s:=()) (by omega) trivial)
     · simp (disch:=omega) only [cA.l0,cA.b0,aP,aK,lg,l1,Bool.true_and]
     · have ih:=ih () trivial
       have hz:=fp d (a_ aF x)
       have ht:=gS hk (d:=d) (by omega) (by omega) (by omega) (a_ aF x)
       have hs:=mE hk (s:=(aT d (a_ aF x)).1) (by omega)
       have hle:=(j3 (aT d (a_ aF x)).1).2.2
       have hlast:=BK h0 hr
       simp (disch:=omega) only [cA.l0,cA.b0,aO h1,ac,aH,hx,bU hk,ab,ht,hs,aD,ih,lg,AX,bne,hlast]
       rw [show ((i+1:Int)==(st.1.2.1.length:Int))=decide (i+1=(st.1.2.1.length:Int)) from rfl]
       cases (aT d (a_ aF x)).2 with
       | false=>rfl
       | true =>
        by_cases q:(az (aT d (a_ aF x)).1).2=((aT d (a_ aF x)).1.size:Int)
        · rw [aO q,aP (by omega)]
          cases decide (i+1=(st.1.2.1.length:Int)) <;> cases (st.2.2.2.1==((aT d (a_ aF x)).1.size:Int)) <;> rfl
        · rw [aP q,aO (by omega)]
          rfl
theorem AG {k:Nat} (hk:2 ^ 50≤k) {st:Ty.d aE} {d:Ty.d aA} (hd:AM d) (hv:st.1.2.1.length≤1099511627776) (hw:st.2.1.length≤1099511627776):cU.f k st d=some (d9 st d,()):=by
 have:=hd.l;have:=hd.u;have:=hd.n
 unfold cU.f cU.t d9
 rw [tq hk (by omega) (by omega),ab]
 cases gf d with
 | false=>rfl
 | true =>
  rw [fh,aK,u5 hk hv,ab,Bool.true_and]
  cases cl:cS st.1 with
  | false=>rfl
  | true =>
   rw [fh,aK,DU hk hw,ab,Bool.true_and]
   cases cd:oA st.2.1 with
   | false=>rfl
   | true =>
    rw [fh,aK,lm,ab,Bool.true_and]
    cases decide ((1:Int)≤st.2.2.1∧st.2.2.1≤1000001) with
    | false=>rfl
    | true =>
     rw [fh,aK,Bool.true_and]
     have hl:st.1.2.1.length≤60:=by
      unfold cS at cl
      rw [gN,gN,decide_eq_true_eq,decide_eq_true_eq] at cl
      omega
     have he:st.2.1.length≤20:=by
      unfold oA at cd
      rw [gN,decide_eq_true_eq] at cd
      omega
     have l1:cU.l1 k k st.2.1 st.2.1.length 0 st.1.1 st.1.2.1 st.2.1 st.2.2.1 st.2.2.2.1 st.2.2.2.2.1 d.1 d.2.1 d.2.2.1 d.2.2.2.1=some (st.2.1.all (m0 d st.2.2.1),()):=by
      refine e_ (L:=fun n i (_:Unit)=>cU.l1 k n st.2.1 st.2.1.length i st.1.1 st.1.2.1 st.2.1 st.2.2.1 st.2.2.2.1 st.2.2.2.2.1 d.1 d.2.1 d.2.2.1 d.2.2.2.1) (R:=fun r _=>some (r.all (m0 d st.2.2.1),())) (Ty.z aB) st.2.1 (fun _ _=>True) (fun n _ _=>?_) (fun n i _ x rest h0 h1 hx hr hp ih=>?_) (n:=k) (s:=()) (by omega) trivial
      · simp (disch:=omega) only [cU.l1,cU.b1,aP,aK,List.all_nil]
      · have ih:=ih () trivial
        have hz:=fp d (a_ aF x.2.1)
        have ht:=pW hk (d:=d) (by omega) (by omega) (by omega) (a_ aF x.2.1)
        have hr:=t_ hk (s:=(aT d (a_ aF x.2.1)).1) x.2.2.1 x.2.2.2.1 (by omega)
        simp (disch:=omega) only [cU.l1,cU.b1,aO h1,ac,aH,hx,mr k,ab,ht,hr,aD,ih,List.all_cons,m0,fO,bne]
        cases (dk (aT d (a_ aF x.2.1)).1 x.2.2.1 x.2.2.2.1).2 <;> cases seq (dk (aT d (a_ aF x.2.1)).1 x.2.2.1 x.2.2.2.1).1.2.2.1 x.1 <;> cases ((dk (aT d (a_ aF x.2.1)).1 x.2.2.1 x.2.2.2.1).1.2.1==x.2.2.2.2.1) <;>
         cases ((dk (aT d (a_ aF x.2.1)).1 x.2.2.1 x.2.2.2.1).1.1==1) <;> cases ((dk (aT d (a_ aF x.2.1)).1 x.2.2.1 x.2.2.2.1).1.1==4) <;> cases decide (x.2.2.2.2.1≥st.2.2.1) <;> rfl
     refine (e_ (L:=fun n i (_:Unit)=>cU.l0 k n st.1.2.1 st.1.2.1.length i st.1.1 st.1.2.1 st.2.1 st.2.2.1 st.2.2.2.1 st.2.2.2.2.1 d.1 d.2.1 d.2.2.1 d.2.2.2.1) (R:=fun r _=>some (lg d st.2.2.2.1 r&&st.2.1.all (m0 d st.2.2.1),())) (Ty.z (.int .i64)) st.1.2.1 (fun _ _=>True) (fun n _ _=>?_) (fun n i _ x rest h0 h1 hx hr hp ih=>?_) (n:=k) (s:=()) (by omega) trivial)
     · simp (disch:=omega) only [cU.l0,cU.b0,aP,aK,lg,l1,Bool.true_and]
     · have ih:=ih () trivial
       have hz:=fp d (a_ aF x)
       have ht:=pW hk (d:=d) (by omega) (by omega) (by omega) (a_ aF x)
       have hs:=uS hk (s:=(aT d (a_ aF x)).1) (by omega)
       have hlast:=BK h0 hr
       simp (disch:=omega) only [cU.l0,cU.b0,aO h1,ac,aH,hx,mr k,ab,ht,hs,aD,ih,lg,AX,bne,hlast]
       rw [show (i==(st.1.2.1.length:Int)-1)=decide (i+1=(st.1.2.1.length:Int)) from (show decide (i=(st.1.2.1.length:Int)-1)=_ from decide_eq_decide.2 (by omega))]
       cases (aT d (a_ aF x)).2 with
       | false=>rfl
       | true =>
        by_cases q:(az (aT d (a_ aF x)).1).2=((aT d (a_ aF x)).1.size:Int)
        · rw [aO q,show ((az (aT d (a_ aF x)).1).2==((aT d (a_ aF x)).1.size:Int))=true from beq_iff_eq.2 q,q]
          cases decide (i+1=(st.1.2.1.length:Int)) <;> cases (st.2.2.2.1==((aT d (a_ aF x)).1.size:Int)) <;> rfl
        · rw [aP q,show ((az (aT d (a_ aF x)).1).2==((aT d (a_ aF x)).1.size:Int))=false from mF q]
          rfl
theorem B7 (s:ByteArray):ByteArray.extract s s.size s.size=⟨#[]⟩:=jV (by rw [gk,List.drop_eq_nil_of_le (by rw [cM];omega)];rfl)
theorem Fe (s:ByteArray):∀ (d d':Nat) (i:Int),0≤i→i≤s.size→(s.size:Int)-i<d→(fS s d i).2-i<d'→fS (ByteArray.extract s 0 (fS s d i).2.toNat) d' i=fS s d i:=by
 intro d
 induction d with
 | zero=>intro d' i h0 h1 h2;omega
 | succ d ih =>
  intro d' i h0 h1 h2 h3
  have hu:=lY (ByteArray.extract s i.toNat s.size)
  have hz:=oG s i.toNat
  have stop:∀ d':Nat,0<d'→fS (ByteArray.extract s 0 i.toNat) d' i=([],i):=fun d' hd=>by
   obtain ⟨n,rfl⟩:∃ q,d'=q+1:=⟨d'-1,by omega⟩
   have hs:(ByteArray.extract s 0 i.toNat).size=i.toNat:=qf s (by omega)
   have e:ByteArray.extract (ByteArray.extract s 0 i.toNat) i.toNat (ByteArray.extract s 0 i.toNat).size=⟨#[]⟩:=by
    have:=B7 (ByteArray.extract s 0 i.toNat)
    rw [hs] at this ⊢
    exact this
   rw [fS,e,vC,if_pos rfl]
  by_cases c1:(fi (ByteArray.extract s i.toNat s.size)).2=0
  · have e:fS s (d+1) i=([],i):=by rw [fS,if_pos c1]
    rw [e] at h3 ⊢
    exact stop d' (by simp only [] at h3;omega)
  · cases c2:(gB (fi (ByteArray.extract s i.toNat s.size)).1).2 with
    | false =>
     have e:fS s (d+1) i=([],i):=by rw [fS,if_neg c1,if_pos c2]
     rw [e] at h3 ⊢
     exact stop d' (by simp only [] at h3;omega)
    | true =>
     have e:fS s (d+1) i=(((i,((fi (ByteArray.extract s i.toNat s.size)).2,((gB (fi (ByteArray.extract s i.toNat s.size)).1).1,()))):Ty.d c_)::(fS s d (i+(fi (ByteArray.extract s i.toNat s.size)).2)).1,(fS s d (i+(fi (ByteArray.extract s i.toNat s.size)).2)).2):=by
      rw [fS,if_neg c1,if_neg (by rw [c2];decide)]
     rw [e] at h3 ⊢
     simp only [] at h3 ⊢
     have hl:=tU s d (i+(fi (ByteArray.extract s i.toNat s.size)).2) (by omega) (by omega)
     obtain ⟨n,rfl⟩:∃ q,d'=q+1:=⟨d'-1,by omega⟩
     have ih:=ih n (i+(fi (ByteArray.extract s i.toNat s.size)).2) (by omega) (by omega) (by omega) (by omega)
     have key:fi (ByteArray.extract (ByteArray.extract s 0 (fS s d (i+(fi (ByteArray.extract s i.toNat s.size)).2)).2.toNat) i.toNat (ByteArray.extract s 0 (fS s d (i+(fi (ByteArray.extract s i.toNat s.size)).2)).2.toNat).size)=fi (ByteArray.extract s i.toNat s.size):=by
      generalize (fS s d (i+(fi (ByteArray.extract s i.toNat s.size)).2)).2=x at hl ⊢
      rcases mZ (ByteArray.extract s i.toNat s.size) with ⟨t,r,ht,e1,e2⟩ | ⟨e2,_⟩
      · rw [e2] at hl ⊢
        simp only [] at hl
        have e3:ByteArray.extract (ByteArray.extract s 0 x.toNat) i.toNat (ByteArray.extract s 0 x.toNat).size=aQ t++ByteArray.extract r 0 (x.toNat-i.toNat-(aQ t).size):=by
         apply jV
         have hnb:=congrArg nb e1
         rw [gk,gP] at hnb
         rw [gk,jf,gP,jf,List.drop_take,hnb,List.take_append,cM,List.take_of_length_le (by rw [cM];omega)]
        rw [e3,mV _ ht]
      · exact absurd (by rw [e2]) c1
     rw [fS,key,if_neg c1,if_neg (by rw [c2];decide),ih]
theorem yn (s:ByteArray):az (ByteArray.extract s 0 (az s).2.toNat)=az s:=by
 have hl:=j3 s
 have:=Fe s (s.size+1) ((az s).2.toNat+1) 0 (by omega) (by omega) (by omega) (by show (az s).2-0<_;omega)
 have hz:=qf s (n:=(az s).2.toNat) (by omega)
 unfold az at hz ⊢
 rw [hz]
 exact this
theorem qk {h:Ty.d dJ→Ty.d dJ} (hh:∀ f,(h f).1=f.1):∀ (l:bn) (s t:ByteArray),bh (lJ h l s) t=bif seq t s then (bh l s).map h else bh l t
 | [],s,t=>by cases seq t s <;> rfl
 | g::l,s,t=>by
  unfold lJ
  cases c:seq g.1 s with
  | true =>
   have e:=dr.1 c
   rw [ac,bh.eq_2,hh,bh.eq_2,c,ac]
   by_cases q:t=s
   · rw [e,q,bX];rfl
   · rw [kK q,aK,bh.eq_2]
     rw [e,kK (fun w=>q w.symm)]
     rfl
  | false =>
   rw [aK,bh.eq_2,bh.eq_2,c,aK,qk hh l s t,bh.eq_2]
   by_cases q:t=s
   · rw [q,bX,c];rfl
   · rw [kK q];rfl
theorem o5 {d:Ty.d aA} {g:bn→Int→bn × Int} (h:(ij d g).2=0):(g d.1 d.2.1).2=0∧(ij d g).1.1=(g d.1 d.2.1).1:=by
 unfold ij at h ⊢
 cases c:(jF d).2 != 0 with
 | true =>
  rw [c,ac] at h
  rw [h] at c
  cases c
 | false=>rw [c] at h;exact ⟨h,rfl⟩
theorem ke {d:Ty.d aA} (h:DR d) (s:ByteArray):aT d s=match bh d.1 s with | none=>(⟨#[]⟩,false) | some f=>(f.2.1,true):=by
 unfold aT
 rw [jP.2 h]
 rfl
theorem pS {d:Ty.d aA} (h:DR d) {n:ByteArray} (c:(fj d n).2=0) (s:ByteArray):aT (fj d n).1 s=aT d s:=by
 obtain ⟨c1,c2⟩:=o5 c
 rw [ke (lk h n),ke h]
 unfold fj
 rw [c2]
 unfold uZ at c1 ⊢
 cases hg:(bh d.1 n).isNone with
 | true=>rfl
 | false =>
  rw [aK]
  show (match bh (lJ _ d.1 n) s with | none=>_ | some f=>_)=_
  rw [qk (by intro f;rfl)]
  by_cases q:s=n
  · rw [q,bX,ac]
    cases bh d.1 n <;> rfl
  · rw [kK q,aK]
theorem vY {d:Ty.d aA} (h:DR d) {n:ByteArray} {m:Int} (c:(wF d n m).2=0) (s:ByteArray):aT (wF d n m).1 s=bif seq s n then (ByteArray.extract (aT d n).1 0 m.toNat,true) else aT d s:=by
 obtain ⟨c1,c2⟩:=o5 c
 rw [ke (xV h n m),ke h,ke h]
 unfold wF
 rw [c2]
 unfold FA at c1 ⊢
 cases hg:bh d.1 n with
 | none=>rw [hg] at c1;cases c1
 | some f =>
  rw [hg] at c1
  simp only [] at c1 ⊢
  cases hm:decide (0≤m∧m≤(f.2.1.size:Int)) with
  | false=>rw [hm] at c1;cases c1
  | true =>
   simp only [fh,aK]
   rw [qk (by intro f;rfl)]
   by_cases q:s=n
   · rw [q,bX,ac,hg];rfl
   · rw [kK q,aK,aK]
theorem iz {r:RD} {f:Ty.d aA→RD} (h:(gM r f).2=0):r.2=0∧gM r f=f r.1∧(f r.1).2=0:=by
 unfold gM at h ⊢
 cases c:r.2==0 with
 | true=>rw [c] at h;exact ⟨Hi c,rfl,h⟩
 | false =>
  rw [c] at h
  rw [aK] at h
  rw [h] at c
  cases c
noncomputable def dp (d:Ty.d aA) (x:Int):ByteArray:=(aT d (a_ aF x)).1
def aZ (ids:List Int):Int:=ids.getD (ids.length-1) 0
noncomputable def fQ (x:Int) (d:Ty.d aA):RD :=
 gM (bif decide ((az (dp d x)).2<((dp d x).size:Int)) then wF d (a_ aF x) (az (dp d x)).2 else (d,0)) fun y=>fj y (a_ aF x)
theorem Gh (x:Int) {d:Ty.d aA} (h:DR d):DR (fQ x d).1:=by
 unfold fQ
 refine im ?_ fun y hy=>lk hy _
 cases decide ((az (dp d x)).2<((dp d x).size:Int))
 · exact h
 · exact xV h _ _
theorem HZ {d:Ty.d aA} (h:DR d) {x:Int} (c:(fQ x d).2=0) (s:ByteArray):(aT (fQ x d).1 s).2=(aT d s).2∧az (aT (fQ x d).1 s).1=az (aT d s).1:=by
 obtain ⟨c1,c2,c3⟩:=iz c
 have e:fQ x d=_:=c2
 rw [e]
 by_cases hb:(az (dp d x)).2<((dp d x).size:Int)
 · simp only [aO hb,ac] at c1 c3 ⊢
   rw [pS (xV h _ _) c3,vY h c1]
   by_cases q:s=a_ aF x
   · rw [q,bX,ac]
     refine ⟨?_,yn (dp d x)⟩
     cases hq:(aT d (a_ aF x)).2 with
     | true=>rfl
     | false =>
      exfalso
      unfold dp at hb
      have hl:=j3 (aT d (a_ aF x)).1
      rw [EL hq] at hb hl
      rw [e0] at hb
      omega
   · rw [kK q];exact ⟨rfl,rfl⟩
 · simp only [aP hb,aK] at c1 c3 ⊢
   rw [pS h c3]
   exact ⟨rfl,rfl⟩
theorem Dc {pre rest:ByteArray} {r:Ty.d b7} (h:bm r=true) (d:Nat) :
 fS (pre++(aQ (aG r)++rest)) (d+1) (pre.size:Int)=(((pre.size:Int),(((aQ (aG r)).size:Int),(r,())))::(fS (pre++(aQ (aG r)++rest)) d ((pre.size+(aQ (aG r)).size:Nat):Int)).1,(fS (pre++(aQ (aG r)++rest)) d ((pre.size+(aQ (aG r)).size:Nat):Int)).2):=by
 have hz:=jC r
 have hp:=jw (s:=aG r) (by omega)
 rw [fS,nt,dj,mV rest (by omega)]
 simp only []
 rw [sG h,if_neg (by omega)]
 simp only []
 rw [if_neg (show ¬ ((true:Bool)=false) by decide)]
 rfl
theorem uM:∀ (rs:j7) (pre:ByteArray) (d:Nat),(∀ r ∈ rs,bm r=true)→(aX rs).size<d→(fS (pre++aX rs) d (pre.size:Int)).1.map (·.2.2.1)=rs∧(fS (pre++aX rs) d (pre.size:Int)).2=((pre++aX rs).size:Int)
 | [],pre,d,_,hd=>by
  obtain ⟨d,rfl⟩:∃ q,d=q+1:=⟨d-1,by omega⟩
  have:fi (ByteArray.extract (pre++aX []) (Int.toNat (pre.size:Int)) (pre++aX []).size)=(⟨#[]⟩,0):=by
   rw [nt,dj,aX,vC]
  rw [fS,this,if_pos rfl,aX,aN,e0]
  exact ⟨rfl,rfl⟩
 | r::rs,pre,d,h,hd=>by
  rw [aX,aN] at hd
  have hz:=jC r
  have hp:=jw (s:=aG r) (by omega)
  obtain ⟨d,rfl⟩:∃ q,d=q+1:=⟨d-1,by omega⟩
  have ih:=uM rs (pre++aQ (aG r)) d (fun x hx=>h x (lK _ hx)) (by omega)
  rw [ai,aN pre] at ih
  rw [aX,Dc (h r (jd ..))]
  simp only [List.map_cons]
  exact ⟨by rw [ih.1],ih.2⟩
theorem oY {rs:j7} (h:∀ r ∈ rs,bm r=true):(az (aX rs)).1.map (·.2.2.1)=rs∧(az (aX rs)).2=((aX rs).size:Int):=by
 have:=uM rs ⟨#[]⟩ ((aX rs).size+1) h (by omega)
 rw [nU,e0] at this
 exact this
abbrev lA:=List (Ty.d dI)
def ni (x:Ty.d dI):Bool:=lH x.1&&(decide ((x.2.2.1.size:Int)≤24)&&(!x.2.1||seq x.2.2.1 ⟨#[]⟩))
def ju (l:lA):Bool:=nC (fun _=>ni) none l&&decide (l.length≤8)
theorem nj {k:Nat} (hk:2 ^ 50≤k) (l:lA):cG.f k l=some (ju l,()):=by
 unfold cG.f cG.t ju
 by_cases c:l.length > 8
 · rw [aO (by omega),ac,aP (by omega),Bool.and_false]
 · rw [aP (by omega),aK,aO (by omega),Bool.and_true]
   have st:∀ (n:Nat) (i:Int) x,0≤i→i<l.length→l.getD i.toNat (Ty.z dI)=x→cG.l0 k (n+1) l i=bif ni x then cG.l0 k n l (i+1) else some (false,()):=fun n i x h0 h1 hx=>by
    simp (disch:=omega) only [cG.l0,cG.b0,aO h1,ac,aH,hx,kB k,ab,aD,ni,lH]
    by_cases c2:(x.2.2.1.size:Int) > 24
    · rw [aO c2,aP (show ¬ (x.2.2.1.size:Int)≤24 by omega)]
      cases decide (1≤(x.1.size:Int)∧(x.1.size:Int)≤8) <;> rfl
    · rw [aP c2,aO (show (x.2.2.1.size:Int)≤24 by omega)]
      cases decide (1≤(x.1.size:Int)∧(x.1.size:Int)≤8) <;> cases x.2.1 <;> cases seq x.2.2.1 ⟨#[]⟩ <;> rfl
   exact (pn (L:=fun n i=>cG.l0 k n l i) (Ty.z dI) l (fun _=>ni) (some (true,())) (some (false,())) (fun n=>by simp (disch:=omega) only [cG.l0,cG.b0,aP,aK])
    (fun n x h hx=>st n 0 x (by omega) (by omega) hx) (fun n i x y h0 h1 hx hy=>st n i x (by omega) h1 hx) (n:=k) (by omega)).trans (by cases nC (fun _=>ni) none l <;> rfl)
theorem mf {l:lA} (h:ju l=true):l.length≤8:=by
 unfold ju at h
 rw [gN,decide_eq_true_eq] at h
 exact h.2
theorem rk {l:lA} (h:ju l=true) {x:Ty.d dI} (hx:x ∈ l):ni x=true:=by
 unfold ju at h
 rw [gN] at h
 exact (AA h.1 hx).elim fun _ q=>q
def fe (b:Int) (p:Ty.d dI):Ty.d b7:=bif p.2.1 then (2,(b,(p.1,(ByteArray.empty,(0,(0,())))))) else (1,(b,(p.1,(p.2.2.1,(0,(0,()))))))
def iW (l:lA) (b:Int):j7:=l.map (fe b)++[fJ 3 b (l.map (fe b))]
def aw (r:Ty.d b7):Int:=((aQ (aG r)).size:Int)
theorem ma (r:Ty.d b7):0≤aw r∧aw r≤211:=by
 have:=ki (aG r)
 unfold aw
 omega
theorem Em {x:Ty.d dI} (b:Int) (h:ni x=true):fe b x=bif x.2.1 then (2,(b,(x.1,(x.2.2.1,(0,(0,())))))) else (1,(b,(x.1,(x.2.2.1,(0,(0,())))))):=by
 unfold fe
 unfold ni at h
 rw [gN,gN] at h
 cases c:x.2.1 with
 | false=>rfl
 | true =>
  rw [c] at h
  have:x.2.2.1=⟨#[]⟩:=dr.1 h.2.2
  rw [this]
  rfl
def h9 (l:aR) (key:ByteArray):aR:=l.filter fun x=>!(seq x.1 key)
def Hk (key:ByteArray) (x:Ty.d aB):Bool:=mh x.1 key||seq x.1 key
def pZ (l:aR) (e:Ty.d aB):aR:=l.takeWhile (Hk e.1)++e::l.dropWhile (Hk e.1)
def pV (l:aR) (e:Ty.d aB):aR:=pZ (h9 l e.1) e
theorem oB (l:aR) (key:ByteArray):(h9 l key).length≤l.length:=List.length_filter_le ..
theorem Bw (l:aR) (e:Ty.d aB):(pZ l e).length=l.length+1:=by
 unfold pZ
 rw [u7,kJ]
 have:=congrArg List.length (List.takeWhile_append_dropWhile (p:=Hk e.1) (l:=l))
 rw [u7] at this
 omega
theorem H0 (l:aR) (e:Ty.d aB):(pV l e).length≤l.length+1:=by
 unfold pV
 have:=oB l e.1
 rw [Bw]
 omega
theorem rB {k:Nat} (hk:2 ^ 50≤k) {l:aR} (e:Ty.d aB) (hl:l.length≤1073741823):bx.f k l e=some (pV l e,()):=by
 unfold bx.f bx.t
 refine (e_ (L:=fun n i (s:Bool × aR)=>bx.l0 k n l s.1 i e.1 e.2.1 e.2.2.1 e.2.2.2.1 e.2.2.2.2.1 s.2) (R:=fun r s=>some (s.2++bif s.1 then h9 r e.1 else pZ (h9 r e.1) e,())) (Ty.z aB) l (fun i s=>(s.2.length:Int)≤2*i+1) (fun n s hs=>?_) (fun n i s x rest h0 h1 hx hr hp ih=>?_) (n:=k) (s:=(false,[])) (by omega) (by simp)).trans (by rw [List.nil_append];rfl)
 · obtain ⟨dn,out⟩:=s
   simp only [] at hs
   cases dn with
   | true=>simp (disch:=first | omega | decide) only [bx.l0,bx.b0,aP,aK,ac,fh,h9,List.filter_nil,List.append_nil]
   | false=>simp (disch:=first | omega | decide) only [bx.l0,bx.b0,aP,aK,ac,tn,cD,h9,List.filter_nil,pZ,List.takeWhile_nil,List.dropWhile_nil,List.nil_append]
 · obtain ⟨dn,out⟩:=s
   simp only [] at hp
   cases c:seq x.1 e.1 with
   | true =>
    simp (disch:=omega) only [bx.l0,bx.b0,aO,ac,aH,hx,c,aD]
    refine (ih (dn,out) (by simp only [];omega)).trans ?_
    simp only [h9,List.filter_cons,c,fh,Bool.false_eq_true,if_false]
   | false =>
    have ef:h9 (x::rest) e.1=x::h9 rest e.1:=by simp only [h9,List.filter_cons,c,tn,if_true]
    cases dn with
    | true =>
     simp (disch:=first | omega | decide) only [bx.l0,bx.b0,aO,ac,aK,aH,hx,c,aD,fh,cD]
     refine (ih (true,out++[x]) (by simp only [br];omega)).trans ?_
     rw [ef]
     simp only [ac,nn,List.cons_append,List.nil_append]
    | false =>
     cases c2:mh x.1 e.1 with
     | true =>
      simp (disch:=first | omega | decide) only [bx.l0,bx.b0,aO,ac,aK,aH,hx,c,c2,aD,tn,fh,Bool.true_or,cD]
      refine (ih (false,out++[x]) (by simp only [br];omega)).trans ?_
      rw [ef]
      simp only [aK,pZ,Hk,List.takeWhile_cons,List.dropWhile_cons,c2,Bool.true_or,if_true,nn,List.cons_append,List.nil_append]
     | false =>
      have hx2:(out++[(e.1,(e.2.1,(e.2.2.1,(e.2.2.2.1,(e.2.2.2.2.1,())))))]:aR).length+1≤1099511627776:=by rw [br];omega
      simp (disch:=first | omega | decide) only [bx.l0,bx.b0,aO,ac,aK,aH,hx,c,c2,aD,tn,Bool.or_false,cD]
      refine (ih (true,(out++[e])++[x]) (by simp only [br];omega)).trans ?_
      rw [ef]
      simp only [ac,aK,pZ,Hk,List.takeWhile_cons,List.dropWhile_cons,c,c2,Bool.or_false,Bool.false_eq_true,if_false,nn,List.cons_append,List.nil_append]
abbrev aW:=List (Ty.d aC)
def eA (b:Int) (acc:aW) (p:Ty.d aC):aW :=
 bif p.2.2.2.1.2.1==b then (bif p.2.2.2.1.1==3 then [] else bif p.2.2.2.1.1==1||p.2.2.2.1.1==2 then acc++[p] else acc) else acc
def fD (acc:aW) (p:Ty.d aC):aW:=bif p.2.2.2.1.1==5 then [] else bif p.2.2.2.1.1==4 then acc++[p] else acc
def eJ (b:Int) (l:aW):aW:=l.foldl (eA b) []
def bK (l:aW):aW:=l.foldl fD []
theorem oo (b:Int) (acc:aW) (p:Ty.d aC):(eA b acc p).length≤acc.length+1:=by
 unfold eA
 cases p.2.2.2.1.2.1==b <;> cases p.2.2.2.1.1==3 <;> cases p.2.2.2.1.1==1 <;> cases p.2.2.2.1.1==2 <;> simp
theorem oq (acc:aW) (p:Ty.d aC):(fD acc p).length≤acc.length+1:=by
 unfold fD
 cases p.2.2.2.1.1==5 <;> cases p.2.2.2.1.1==4 <;> simp
theorem tj {f:aW→Ty.d aC→aW} (h:∀ a p,(f a p).length≤a.length+1):∀ (l acc:aW),(l.foldl f acc).length≤acc.length+l.length
 | [],acc=>by simp
 | p::l,acc=>by
  have:=tj h l (f acc p)
  have:=h acc p
  rw [List.foldl_cons,kJ]
  omega
theorem pY (b:Int) (l:aW):(eJ b l).length≤l.length:=by
 have:=tj (oo b) l []
 simpa [eJ] using this
theorem pj (l:aW):(bK l).length≤l.length:=by
 have:=tj oq l []
 simpa [bK] using this
theorem G0 {k:Nat} (hk:2 ^ 50≤k) {l:aW} {e:Int} (b:Int) (h0:0≤e) (he:e≤l.length) (hl:l.length≤1099511627775):i8.f k l e b=some (eJ b (l.take e.toNat),()):=by
 unfold i8.f i8.t
 have hlen:(l.take e.toNat).length=e.toNat:=by rw [List.length_take];omega
 have he':e=((l.take e.toNat).length:Int):=by omega
 conv=>lhs;rw [he']
 refine e_ (L:=fun n i s=>i8.l0 k n l ((l.take e.toNat).length:Int) b i s) (R:=fun r s=>some (r.foldl (eA b) s,())) (Ty.z aC) (l.take e.toNat) (fun i s=>(s.length:Int)≤i) (fun n s hs=>?_) (fun n i s x rest h0 h1 hx hr hp ih=>?_) (n:=k) (s:=[]) (by omega) (by decide)
 · simp (disch:=omega) only [i8.l0,i8.b0,aP,aK,List.foldl_nil]
 · rw [mW (by omega)] at hx
   have ih:=fun s' (h:s'.length≤s.length+1)=>ih s' (by omega)
   simp (disch:=omega) only [i8.l0,i8.b0,aO h1,ac,aH,hx,aD]
   rw [List.foldl_cons]
   have hs1:=oo b s x
   have ih1:=ih _ hs1
   rw [← ih1]
   unfold eA
   have r1:∀ {R:Type} (q:Option R),rm (Ty.bytes aC) (s.length+1) q=q:=fun q=>cD (by omega) (by decide)
   have r2:∀ {R:Type} (q:Option R),rm (Ty.bytes aC) (0+1) q=q:=fun q=>cD (by omega) (by decide)
   simp only [r1,r2]
   cases c1:(x.2.2.2.1.2.1==b) <;> cases c2:(x.2.2.2.1.1==3) <;> cases c3:(x.2.2.2.1.1==1) <;> cases c4:(x.2.2.2.1.1==2) <;> first | rfl | skip
   all_goals (exfalso;have e2:=eq_of_beq c2;first | (rw [e2] at c3;revert c3;decide) | (rw [e2] at c4;revert c4;decide))
theorem zI {k:Nat} (hk:2 ^ 50≤k) {l:aW} {r:Ty.d b7} (hr:r.1=3) (hl:l.length≤1099511627775):ch.f k l r=some (eJ r.2.1 l,()):=by
 unfold ch.f ch.t
 rw [hr]
 refine e_ (L:=fun n i s=>ch.l0 k n l l.length i 3 r.2.1 r.2.2.1 r.2.2.2.1 r.2.2.2.2.1 r.2.2.2.2.2.1 s) (R:=fun q s=>some (q.foldl (eA r.2.1) s,())) (Ty.z aC) l (fun i s=>(s.length:Int)≤i) (fun n s hs=>?_) (fun n i s x rest h0 h1 hx hr hp ih=>?_) (n:=k) (s:=[]) (by omega) (by decide)
 · simp (disch:=omega) only [ch.l0,ch.b0,aP,aK,List.foldl_nil]
 · simp (disch:=omega) only [ch.l0,ch.b0,aO h1,ac,aK,aH,hx,aD,show ((3:Int)==3)=true from rfl,show ((3:Int)==5)=false from rfl]
   rw [List.foldl_cons]
   have hs1:=oo r.2.1 s x
   have ih1:=ih (eA r.2.1 s x) (by omega)
   rw [← ih1]
   unfold eA bne
   have r1:∀ {R:Type} (q:Option R),rm (Ty.bytes aC) (s.length+1) q=q:=fun q=>cD (by omega) (by decide)
   simp only [r1]
   cases c1:(x.2.2.2.1.2.1==r.2.1) <;> cases c2:(x.2.2.2.1.1==3) <;> cases c3:(x.2.2.2.1.1==1) <;> cases c4:(x.2.2.2.1.1==2) <;> rfl
theorem sq {k:Nat} (hk:2 ^ 50≤k) {l:aW} {r:Ty.d b7} (hr:r.1=5) (hl:l.length≤1099511627775):ch.f k l r=some (bK l,()):=by
 unfold ch.f ch.t
 rw [hr]
 refine e_ (L:=fun n i s=>ch.l0 k n l l.length i 5 r.2.1 r.2.2.1 r.2.2.2.1 r.2.2.2.2.1 r.2.2.2.2.2.1 s) (R:=fun q s=>some (q.foldl fD s,())) (Ty.z aC) l (fun i s=>(s.length:Int)≤i) (fun n s hs=>?_) (fun n i s x rest h0 h1 hx hr hp ih=>?_) (n:=k) (s:=[]) (by omega) (by decide)
 · simp (disch:=omega) only [ch.l0,ch.b0,aP,aK,List.foldl_nil]
 · simp (disch:=omega) only [ch.l0,ch.b0,aO h1,ac,aK,aH,hx,aD,show ((5:Int)==3)=false from rfl,show ((5:Int)==5)=true from rfl]
   rw [List.foldl_cons]
   have hs1:=oq s x
   have ih1:=ih (fD s x) (by omega)
   rw [← ih1]
   unfold fD
   have r1:∀ {R:Type} (q:Option R),rm (Ty.bytes aC) (s.length+1) q=q:=fun q=>cD (by omega) (by decide)
   simp only [r1]
   cases c1:(x.2.2.2.1.1==5) <;> cases c2:(x.2.2.2.1.1==4) <;> rfl
def qv (p:Ty.d aC):Ty.d b7:=p.2.2.2.1
def gO (r:Ty.d b7) (own:aW):Bool:=(r.2.2.2.2.1==(own.length:Int))&&(r.2.2.2.2.2.1==uo (own.map qv))
theorem uR {k:Nat} (hk:2 ^ 50≤k) (r:Ty.d b7) {l:aW} (hl:l.length≤1073741823):gb.f k r l=some (gO r l,()):=by
 unfold gb.f gb.t
 refine (e_ (L:=fun n i s=>gb.l0 k n l l.length i r.1 r.2.1 r.2.2.1 r.2.2.2.1 r.2.2.2.2.1 r.2.2.2.2.2.1 s) (R:=fun q s=>some ((r.2.2.2.2.1==((s++q.map qv).length:Int))&&(r.2.2.2.2.2.1==uo (s++q.map qv)),())) (Ty.z aC) l (fun i s=>(s.length:Int)=i) (fun n s hs=>?_) (fun n i s x rest h0 h1 hx hr hp ih=>?_) (n:=k) (s:=[]) (by omega) (by decide)).trans (by rw [List.nil_append,List.length_map];rfl)
 · simp (disch:=omega) only [gb.l0,gb.b0,aP,aK,List.map_nil,List.append_nil,A_ hk,ab]
   cases (r.2.2.2.2.1==(s.length:Int)) <;> rfl
 · simp (disch:=first | omega | decide) only [gb.l0,gb.b0,aO,ac,aH,hx,cD,aD]
   refine (ih (s++[qv x]) (by rw [br];omega)).trans ?_
   simp only [List.map_cons,nn,List.cons_append,List.nil_append]
theorem uK {k:Nat} (hk:2 ^ 50≤k) (r:Ty.d b7) {l:aW} (hl:l.length≤1073741823):iU.f k r l=some (gO r l,()):=by
 have e:ff.f k l=some (l.map qv,()):=by
  unfold ff.f ff.t
  refine (e_ (L:=fun n i s=>ff.l0 k n l i s) (R:=fun q s=>some (s++q.map qv,())) (Ty.z aC) l (fun i s=>(s.length:Int)=i) (fun n s hs=>?_) (fun n i s x rest h0 h1 hx hr hp ih=>?_) (n:=k) (s:=[]) (by omega) (by decide)).trans (by rw [List.nil_append])
  · simp (disch:=omega) only [ff.l0,ff.b0,aP,aK,List.map_nil,List.append_nil]
  · simp (disch:=first | omega | decide) only [ff.l0,ff.b0,aO,ac,aH,hx,cD,aD]
    refine (ih (s++[qv x]) (by rw [br];omega)).trans ?_
    simp only [List.map_cons,nn,List.cons_append,List.nil_append]
 unfold iU.f iU.t gO
 rw [e,ab]
 simp only []
 rw [oy hk (by rw [List.length_map];omega),ab]
 cases (r.2.2.2.2.1==(l.length:Int)) <;> rfl
theorem po {k:Nat} (hk:2 ^ 50≤k) {l:aR} (key:ByteArray) (hl:l.length≤1099511627775):co.f k l key=some (h9 l key,()):=by
 unfold co.f co.t
 refine (e_ (L:=fun n i s=>co.l0 k n l key i s) (R:=fun r s=>some (s++h9 r key,())) (Ty.z aB) l (fun i s=>(s.length:Int)≤i) (fun n s hs=>?_) (fun n i s x rest h0 h1 hx hr hp ih=>?_) (n:=k) (s:=[]) (by omega) (by decide)).trans (by rw [List.nil_append])
 · simp (disch:=omega) only [co.l0,co.b0,aP,aK,h9,List.filter_nil,List.append_nil]
 · cases c:seq x.1 key with
   | true =>
    simp (disch:=first | omega | decide) only [co.l0,co.b0,aO,ac,aK,aH,hx,c,fh,aD]
    refine (ih s (by omega)).trans ?_
    simp only [h9,List.filter_cons,c,fh,Bool.false_eq_true,if_false]
   | false =>
    simp (disch:=first | omega | decide) only [co.l0,co.b0,aO,ac,aH,hx,c,tn,cD,aD]
    refine (ih (s++[x]) (by rw [br];omega)).trans ?_
    simp only [h9,List.filter_cons,c,tn,if_true,nn,List.cons_append,List.nil_append]
theorem pM {k:Nat} (hk:2 ^ 50≤k) {l:aR} (key:ByteArray) (hl:l.length≤1099511627775):dC.f k l key=some (h9 l key,()):=by
 unfold dC.f dC.t
 refine (e_ (L:=fun n i s=>dC.l0 k n key l l.length i s) (R:=fun r s=>some (s++h9 r key,())) (Ty.z aB) l (fun i s=>(s.length:Int)≤i) (fun n s hs=>?_) (fun n i s x rest h0 h1 hx hr hp ih=>?_) (n:=k) (s:=[]) (by omega) (by decide)).trans (by rw [List.nil_append])
 · simp (disch:=omega) only [dC.l0,dC.b0,aP,aK,h9,List.filter_nil,List.append_nil]
 · cases c:seq x.1 key with
   | true =>
    simp (disch:=first | omega | decide) only [dC.l0,dC.b0,aO,ac,aK,aH,hx,c,fh,aD]
    refine (ih s (by omega)).trans ?_
    simp only [h9,List.filter_cons,c,fh,Bool.false_eq_true,if_false]
   | false =>
    simp (disch:=first | omega | decide) only [dC.l0,dC.b0,aO,ac,aH,hx,c,tn,cD,aD]
    refine (ih (s++[x]) (by rw [br];omega)).trans ?_
    simp only [h9,List.filter_cons,c,tn,if_true,nn,List.cons_append,List.nil_append]
theorem xt {k:Nat} (hk:2 ^ 50≤k) {l:aR} (e:Ty.d aB) (hl:l.length≤1099511627775):eV.f k l e=some (pV l e,()):=by
 unfold eV.f eV.t pV
 rw [pM hk e.1 hl,ab]
 have hd:=oB l e.1
 simp only []
 generalize h9 l e.1=r at *
 have cp:∀ q:aR,q.length≤1099511627775→eH.f k q=some (q,()):=fun q hq=>by
  unfold eH.f eH.t
  rw [cD (by omega) (by decide)]
 have key:∀ (d j n:Nat),r.length-j=d→j≤r.length→d<n→eV.l0 k n (j:Int) e.1 e.2.1 e.2.2.1 e.2.2.2.1 e.2.2.2.2.1 r=some (r.take j++pZ (r.drop j) e,()):=by
  intro d
  induction d with
  | zero =>
   intro j n hd hj hn
   obtain ⟨n,rfl⟩:∃ q,n=q+1:=⟨n-1,by omega⟩
   have:j=r.length:=by omega
   subst this
   simp (disch:=first | omega | (simp only [br,List.length_take,List.length_drop];omega) | decide) only [eV.l0,eV.b0,aP,aK,cN,nt,cp,ab,cD]
   rw [List.drop_length,pZ]
   simp
  | succ d ih =>
   intro j n hd hj hn
   obtain ⟨n,rfl⟩:∃ q,n=q+1:=⟨n-1,by omega⟩
   have hlt:j<r.length:=by omega
   have e1:r.drop j=r.getD j (Ty.z aB)::r.drop (j+1):=by
    rw [List.drop_eq_getElem_cons hlt]
    simp [List.getD,hlt]
   cases c:Hk e.1 (r.getD j (Ty.z aB)) with
   | true =>
    have c':=c
    unfold Hk at c'
    have ih:=ih (j+1) n (by omega) (by omega) (by omega)
    simp (disch:=omega) only [eV.l0,eV.b0,aO,ac,aH,nt,c',aD]
    rw [show ((j:Int)+1)=((j+1:Nat):Int) by omega,ih,e1,me (z:=Ty.z aB) hlt]
    unfold pZ
    simp only [List.takeWhile_cons,List.dropWhile_cons,c,if_true,nn,List.cons_append,List.nil_append]
   | false =>
    have c':=c
    unfold Hk at c'
    simp (disch:=first | omega | (simp only [br,List.length_take,List.length_drop];omega) | decide) only [eV.l0,eV.b0,aO,ac,aK,aH,nt,c',cN,cp,ab,cD]
    rw [e1]
    unfold pZ
    simp only [List.takeWhile_cons,List.dropWhile_cons,c,Bool.false_eq_true,if_false,nn,List.cons_append,List.nil_append]
 exact (key r.length 0 k (by omega) (by omega) (by omega)).trans (by rw [List.take_zero,List.drop_zero,List.nil_append])
theorem uA {k:Nat} (hk:2 ^ 50≤k) {l:aW} {e:Int} (h0:0≤e) (he:e≤l.length) (hl:l.length≤1099511627775):eY.f k l e=some (bK (l.take e.toNat),()):=by
 unfold eY.f eY.t
 have hlen:(l.take e.toNat).length=e.toNat:=by rw [List.length_take];omega
 have he':e=((l.take e.toNat).length:Int):=by omega
 conv=>lhs;rw [he']
 refine e_ (L:=fun n i s=>eY.l0 k n l ((l.take e.toNat).length:Int) i s) (R:=fun r s=>some (r.foldl fD s,())) (Ty.z aC) (l.take e.toNat) (fun i s=>(s.length:Int)≤i) (fun n s hs=>?_) (fun n i s x rest h0 h1 hx hr hp ih=>?_) (n:=k) (s:=[]) (by omega) (by decide)
 · simp (disch:=omega) only [eY.l0,eY.b0,aP,aK,List.foldl_nil]
 · rw [mW (by omega)] at hx
   simp (disch:=omega) only [eY.l0,eY.b0,aO h1,ac,aH,hx,aD]
   rw [List.foldl_cons]
   have hs1:=oq s x
   have ih1:=ih (fD s x) (by omega)
   rw [← ih1]
   unfold fD
   have r1:∀ {R:Type} (q:Option R),rm (Ty.bytes aC) (s.length+1) q=q:=fun q=>cD (by omega) (by decide)
   have r2:∀ {R:Type} (q:Option R),rm (Ty.bytes aC) (0+1) q=q:=fun q=>cD (by omega) (by decide)
   simp only [r1,r2]
   cases c1:(x.2.2.2.1.1==5) <;> cases c2:(x.2.2.2.1.1==4) <;> first | rfl | skip
   all_goals (exfalso;have e2:=eq_of_beq c1;rw [e2] at c2;revert c2;decide)
def eP (p:Ty.d aC):Ty.d aB:=(p.2.2.2.1.2.2.1,(p.1,(p.2.1,(p.2.2.1,(p.2.2.2.1.2.1,())))))
def fI (d:aR) (p:Ty.d aC):aR:=bif p.2.2.2.1.1==2 then h9 d p.2.2.2.1.2.2.1 else pV d (eP p)
def bL (d:aR) (own:aW):aR:=own.foldl fI d
theorem qK (d:aR) (p:Ty.d aC):(fI d p).length≤d.length+1:=by
 unfold fI
 have h1:=oB d p.2.2.2.1.2.2.1
 have h2:=H0 d (eP p)
 cases p.2.2.2.1.1==2
 · rw [aK];omega
 · rw [ac];omega
theorem oQ:∀ (own:aW) (d:aR),(bL d own).length≤d.length+own.length
 | [],d=>Nat.le_refl _
 | p::own,d=>by
  have:=oQ own (fI d p)
  have:=qK d p
  rw [bL,List.foldl_cons,kJ]
  unfold bL at this
  simp only [bL] at *
  omega
def kN (d:aR) (code:Int):Int:=if d.length > 20 then 2 else code
theorem si {k:Nat} (hk:2 ^ 50≤k) (g:Ty.d fk) {own:aW} (ho:own.length≤268435456) (hd:g.1.length≤268435456):bw.f k g own=some ((bL g.1 own,(g.2.1,(kN (bL g.1 own) g.2.2.1,()))),()):=by
 unfold bw.f bw.t
 refine e_ (L:=fun n i (d:aR)=>bw.l0 k n own own.length i d g.2.1 g.2.2.1) (R:=fun q d=>some ((bL d q,(g.2.1,(kN (bL d q) g.2.2.1,()))),())) (Ty.z aC) own (fun i d=>(d.length:Int)≤268435456+i) (fun n d hs=>?_) (fun n i d x rest h0 h1 hx hr hp ih=>?_) (n:=k) (s:=g.1) (by omega) (by omega)
 · change _=some ((d,(g.2.1,(kN d g.2.2.1,()))),())
   simp (disch:=omega) only [bw.l0,bw.b0,aP (show ¬ ((own.length:Int)<(own.length:Int)) by omega),aK,kN]
   by_cases c:d.length > 20
   · rw [aO (by omega),if_pos c];rfl
   · rw [aP (by omega),if_neg c];rfl
 · have hsd:=qK d x
   have ih:=ih (fI d x) (by omega)
   have e:fI d x=bif x.2.2.2.1.1==2 then h9 d x.2.2.2.1.2.2.1 else pV d (eP x):=rfl
   simp (disch:=omega) only [bw.l0,bw.b0,aO h1,ac,aH,hx,pM hk,xt hk,ab,aD]
   rw [show bL d (x::rest)=bL (fI d x) rest from rfl,← ih,e]
   cases x.2.2.2.1.1==2 <;> rfl
theorem ve {k:Nat} (hk:2 ^ 50≤k) {d:aR} (p:Ty.d aC) (hd:d.length≤1073741823):gg.f k d p=some (fI d p,()):=by
 unfold gg.f gg.t fI
 rw [po hk _ (by omega),rB hk _ hd]
 cases p.2.2.2.1.1==2 <;> rfl
def mP (a b:Int):Int:=if a > b then a else b
def gV (all:aW):aW→Nat→aR→Int→Int→Ty.d fk
 | [],_,d,last,code=>bif code==0&&decide ((bK all).length > 0) then (d,(last,(1,()))) else (d,(last,(code,())))
 | p::rest,i,d,last,code =>
  bif code != 0 then (d,(last,(code,()))) else
  bif p.2.2.2.1.1==3 then (bif gO p.2.2.2.1 (eJ p.2.2.2.1.2.1 (all.take i)) then gV all rest (i+1) (bL d (eJ p.2.2.2.1.2.1 (all.take i))) (mP p.2.2.2.1.2.1 last) (kN (bL d (eJ p.2.2.2.1.2.1 (all.take i))) code)
   else gV all rest (i+1) d (mP p.2.2.2.1.2.1 last) code) else
  bif p.2.2.2.1.1==5 then (bif gO p.2.2.2.1 (bK (all.take i)) then gV all rest (i+1) (bL d (bK (all.take i))) (mP p.2.2.2.1.2.1 last) (kN (bL d (bK (all.take i))) code)
   else gV all rest (i+1) d (mP p.2.2.2.1.2.1 last) 1) else
  gV all rest (i+1) d (mP p.2.2.2.1.2.1 last) code
def eD (g:Ty.d fk) (l:aW):Ty.d fk:=gV l l 0 g.1 g.2.1 g.2.2.1
def D3 (d:aR) (code:Int):Prop:=d.length≤268435456∧(code=0→d.length≤134217728)
theorem lP {d:aR} {own:aW} {code:Int} (h:D3 d 0) (ho:own.length≤134217728):D3 (bL d own) (kN (bL d own) code):=by
 have h1:=oQ own d
 have h2:=h.2 rfl
 refine ⟨by omega,fun q=>?_⟩
 unfold kN at q
 split at q
 · cases q
 · omega
theorem xJ {d:aR} (h:D3 d 0):D3 d 1:=⟨h.1,fun q=>by cases q⟩
theorem vp {k:Nat} (hk:2 ^ 50≤k) (g:Ty.d fk) {l:aW} (hl:l.length≤134217728) (hd:g.1.length≤134217728):f_.f k g l=some (eD g l,()):=by
 unfold f_.f f_.t
 have cp:eH.f k g.1=some (g.1,()):=by
  unfold eH.f eH.t
  rw [cD (by omega) (by decide)]
 rw [cp,ab]
 simp only []
 have key:=GY (L:=fun n i (s:aR × Int × Int)=>f_.l0 k n l l l.length i [] 0 0 s.1 s.2.1 s.2.2) (R:=fun (q:aW) s=>some (gV l q (l.length-q.length) s.1 s.2.1 s.2.2,())) (Ty.z aC) l (fun i s=>D3 s.1 s.2.2) (fun n s hs=>?_) (fun n i s x rest h0 h1 hx hr hp ih=>?_) k 0 (g.1,(g.2.1,g.2.2.1)) (by omega) (by omega) (by omega) ⟨by simp only [];omega,fun _=>by simp only [];omega⟩
 · have e:l.drop (Int.toNat 0)=l:=rfl
   rw [e,Nat.sub_self] at key
   exact key
 · obtain ⟨d,last,code⟩:=s
   have hm:=sq hk (l:=l) (r:=(5,(0,(ByteArray.empty,(ByteArray.empty,(0,(0,()))))))) rfl (by omega)
   simp (disch:=omega) only [f_.l0,f_.b0,aP,aK,gV,hm,ab]
   cases c1:(code==0)
   · rfl
   · by_cases c2:(bK l).length > 0
     · rw [aO (show ((bK l).length:Int) > 0 by omega),aO c2];rfl
     · rw [aP (show ¬ ((bK l).length:Int) > 0 by omega),aP c2];rfl
 · obtain ⟨d,last,code⟩:=s
   simp only [] at hp ih
   have hi:l.length-(x::rest).length=i.toNat:=by
    have:=congrArg List.length hr
    rw [List.length_drop] at this
    omega
   have hi2:l.length-rest.length=i.toNat+1:=by rw [kJ] at hi;have:=congrArg List.length hr;rw [List.length_drop,kJ] at this;omega
   have htk:(l.take i.toNat).length≤134217728:=by rw [List.length_take];omega
   have ih:=fun a b c h=>ih (a,(b,c)) h
   simp only [hi2] at ih
   rw [hi]
   simp (disch:=omega) only [f_.l0,f_.b0,aO h1,ac,aH,hx,aD,gV]
   by_cases c0:code=0
   case neg =>
    rw [show (code != 0)=true from bne_iff_ne.2 c0]
    rfl
   subst c0
   simp only [show ((0:Int) != 0)=false from rfl,aK]
   by_cases c3:x.2.2.2.1.1=3
   · have b3:(x.2.2.2.1.1==3)=true:=by rw [c3];rfl
     have b3':(x.2.2.2.1.1 != 3)=false:=by rw [c3];rfl
     have b5:(x.2.2.2.1.1==5)=false:=by rw [c3];rfl
     have hlen:=pY x.2.2.2.1.2.1 (l.take i.toNat)
     simp only [b3,b3',b5,ac,aK]
     rw [cN (by omega) (by omega),zI hk c3 (by omega),ab]
     simp only []
     rw [uR hk _ (by omega),ab]
     cases c:gO x.2.2.2.1 (eJ x.2.2.2.1.2.1 (l.take i.toNat)) with
     | true =>
      simp only [ac]
      rw [si hk _ (by omega) (by simp only [];exact hp.1),ab]
      exact ih _ _ _ (lP hp (by omega))
     | false =>
      simp only [aK]
      exact ih _ _ _ hp
   · have b3:(x.2.2.2.1.1==3)=false:=mF c3
     have b3':(x.2.2.2.1.1 != 3)=true:=bne_iff_ne.2 c3
     by_cases c5:x.2.2.2.1.1=5
     · have b5:(x.2.2.2.1.1==5)=true:=by rw [c5];rfl
       have b5':(x.2.2.2.1.1 != 5)=false:=by rw [c5];rfl
       have hlen:=pj (l.take i.toNat)
       simp only [b3,b3',b5,b5',ac,aK]
       rw [cN (by omega) (by omega),sq hk c5 (by omega),ab]
       simp only []
       rw [uR hk _ (by omega),ab]
       cases c:gO x.2.2.2.1 (bK (l.take i.toNat)) with
       | true =>
        simp only [ac]
        rw [si hk _ (by omega) (by simp only [];exact hp.1),ab]
        exact ih _ _ _ (lP hp (by omega))
       | false =>
        simp only [aK]
        exact ih _ _ _ (xJ hp)
     · have b5:(x.2.2.2.1.1==5)=false:=mF c5
       have b5':(x.2.2.2.1.1 != 5)=true:=bne_iff_ne.2 c5
       simp only [b3,b3',b5,b5',ac,aK]
       exact ih _ _ _ hp
theorem wU {k:Nat} (hk:2 ^ 50≤k) (g:Ty.d fk) {l:aW} (hl:l.length≤134217728) (hd:g.1.length≤134217728):cB.f k g l=some (eD g l,()):=by
 unfold cB.f cB.t
 rw [cD (by omega) (by decide),List.nil_append]
 have inner:∀ {own:aW} {d:aR} (L0:aW→Int→aR→Int→Int→aR→Int→Int→Option (Ty.d fk × Unit)) (i last code:Int),own.length≤134217728→d.length≤268435456→0≤i→i≤134217728 →
  cB.l1 k L0 k l i 0 [] 0 0 d last code own=L0 l (i+1) [] 0 0 (bL d own) last (kN (bL d own) code):=fun {own d} L0 i last code ho hd2 hi0 hi1=>by
  refine e_ (L:=fun n j (d:aR)=>cB.l1 k L0 n l i j [] 0 0 d last code own) (R:=fun q d=>L0 l (i+1) [] 0 0 (bL d q) last (kN (bL d q) code)) (Ty.z aC) own (fun j d=>(d.length:Int)≤268435456+j) (fun n d hs=>?_) (fun n j d x rest h0 h1 hx hr hp ih=>?_) (n:=k) (s:=d) (by omega) (by omega)
  · change _=L0 l (i+1) [] 0 0 d last (kN d code)
    simp (disch:=omega) only [cB.l1,cB.b1,aP (show ¬ ((own.length:Int)<(own.length:Int)) by omega),aK,kN,aD]
    by_cases c:d.length > 20
    · rw [aO (by omega),if_pos c];rfl
    · rw [aP (by omega),if_neg c];rfl
  · have hsd:=qK d x
    simp (disch:=omega) only [cB.l1,cB.b1,aO h1,ac,aH,hx,ve hk,ab,aD]
    exact ih _ (by omega)
 have hmk:=uA hk (l:=l) (e:=l.length) (by omega) (by omega) (by omega)
 rw [Int.toNat_natCast,List.take_length] at hmk
 have key:=GY (L:=fun n i (s:aR × Int × Int)=>cB.l0 k n l i [] 0 0 s.1 s.2.1 s.2.2) (R:=fun (q:aW) s=>some (gV l q (l.length-q.length) s.1 s.2.1 s.2.2,())) (Ty.z aC) l (fun i s=>D3 s.1 s.2.2) (fun n s hs=>?_) (fun n i s x rest h0 h1 hx hr hp ih=>?_) k 0 (g.1,(g.2.1,g.2.2.1)) (by omega) (by omega) (by omega) ⟨by simp only [];omega,fun _=>by simp only [];omega⟩
 · have e:l.drop (Int.toNat 0)=l:=rfl
   rw [e,Nat.sub_self] at key
   exact key
 · obtain ⟨d,last,code⟩:=s
   simp (disch:=omega) only [cB.l0,cB.b0,aP,aK,gV,hmk,ab]
   cases c1:(code==0)
   · rfl
   · by_cases c2:(bK l).length > 0
     · rw [aO (show ((bK l).length:Int) > 0 by omega),aO c2];rfl
     · rw [aP (show ¬ ((bK l).length:Int) > 0 by omega),aP c2];rfl
 · obtain ⟨d,last,code⟩:=s
   simp only [] at hp ih
   have hi:l.length-(x::rest).length=i.toNat:=by
    have:=congrArg List.length hr
    rw [List.length_drop] at this
    omega
   have hi2:l.length-rest.length=i.toNat+1:=by rw [kJ] at hi;have:=congrArg List.length hr;rw [List.length_drop,kJ] at this;omega
   have htk:(l.take i.toNat).length≤134217728:=by rw [List.length_take];omega
   have ih:=fun a b c h=>ih (a,(b,c)) h
   simp only [hi2] at ih
   rw [hi]
   simp (disch:=omega) only [cB.l0,cB.b0,aO h1,ac,aH,hx,aD,gV,hmk,ab]
   by_cases c0:code=0
   case neg =>
    rw [show (code != 0)=true from bne_iff_ne.2 c0,show (code==0)=false from mF c0]
    rfl
   subst c0
   simp only [show ((0:Int) != 0)=false from rfl,show ((0:Int)==0)=true from rfl,aK,ac]
   by_cases c3:x.2.2.2.1.1=3
   · have b3:(x.2.2.2.1.1==3)=true:=by rw [c3];rfl
     have hlen:=pY x.2.2.2.1.2.1 (l.take i.toNat)
     simp only [b3,ac]
     rw [G0 hk _ h0 (by omega) (by omega),ab]
     simp only []
     rw [uK hk _ (by omega),ab]
     cases c:gO x.2.2.2.1 (eJ x.2.2.2.1.2.1 (l.take i.toNat)) with
     | true =>
      simp only [fh,ac,aK]
      rw [inner _ i _ _ (by omega) hp.1 h0 (by omega)]
      exact ih _ _ _ (lP hp (by omega))
     | false =>
      simp only [tn,ac,aK]
      exact ih _ _ _ hp
   · have b3:(x.2.2.2.1.1==3)=false:=mF c3
     by_cases c5:x.2.2.2.1.1=5
     · have b5:(x.2.2.2.1.1==5)=true:=by rw [c5];rfl
       have hlen:=pj (l.take i.toNat)
       simp only [b3,b5,ac,aK]
       rw [uA hk h0 (by omega) (by omega),ab]
       simp only []
       rw [uK hk _ (by omega),ab]
       cases c:gO x.2.2.2.1 (bK (l.take i.toNat)) with
       | true =>
        simp only [fh,ac,aK]
        rw [inner _ i _ _ (by omega) hp.1 h0 (by omega)]
        exact ih _ _ _ (lP hp (by omega))
       | false =>
        simp only [tn,ac,aK]
        exact ih _ _ _ (xJ hp)
     · have b5:(x.2.2.2.1.1==5)=false:=mF c5
       simp only [b3,b5,ac,aK]
       exact ih _ _ _ hp
theorem kC (all:aW) (ha:all.length≤134217728):∀ (q:aW) (i:Nat) (d:aR) (last code:Int),D3 d code→(gV all q i d last code).1.length≤268435456
 | [],i,d,last,code,h=>by
  unfold gV
  cases code==0&&decide ((bK all).length > 0) <;> exact h.1
 | p::q,i,d,last,code,h=>by
  have hs:=pY p.2.2.2.1.2.1 (all.take i)
  have hm:=pj (all.take i)
  have htk:(all.take i).length≤134217728:=by rw [List.length_take];omega
  unfold gV
  by_cases c0:code=0
  case neg=>rw [show (code != 0)=true from bne_iff_ne.2 c0];exact h.1
  subst c0
  simp only [show ((0:Int) != 0)=false from rfl,aK]
  cases p.2.2.2.1.1==3
  · cases p.2.2.2.1.1==5
    · exact kC all ha q _ _ _ _ h
    · cases gO p.2.2.2.1 (bK (all.take i))
      · exact kC all ha q _ _ _ _ (xJ h)
      · exact kC all ha q _ _ _ _ (lP h (by omega))
  · cases gO p.2.2.2.1 (eJ p.2.2.2.1.2.1 (all.take i))
    · exact kC all ha q _ _ _ _ h
    · exact kC all ha q _ _ _ _ (lP h (by omega))
theorem ou {g:Ty.d fk} {l:aW} (hl:l.length≤134217728) (hd:g.1.length≤134217728):(eD g l).1.length≤268435456:=kC l hl l 0 _ _ _ ⟨by omega,fun _=>hd⟩
theorem BC {lim lim':Int} (h:lim≤lim'):∀ (l:List Int) (p:Option Int),nC (m7 lim) p l=true→nC (m7 lim') p l=true
 | [],_,_=>rfl
 | x::l,p,q=>by
  simp only [nC,gN] at q ⊢
  refine ⟨?_,BC h l _ q.2⟩
  have q1:=q.1
  unfold m7 at q1 ⊢
  rw [gN,decide_eq_true_eq] at q1 ⊢
  exact ⟨⟨q1.1.1,Int.le_trans q1.1.2 h⟩,q1.2⟩
theorem BO {lim n:Int} (h1:1≤n) (h:lim<n):∀ (l:List Int) (p:Option Int),(∀ y,p=some y→y<n)→nC (m7 lim) p l=true→nC (m7 n) p (l++[n])=true
 | [],p,hp,_=>by
  simp only [List.nil_append,nC,Bool.and_true]
  unfold m7
  rw [gN,decide_eq_true_eq]
  refine ⟨⟨h1,Int.le_refl _⟩,?_⟩
  cases p with
  | none=>rfl
  | some y=>exact decide_eq_true (hp y rfl)
 | x::l,p,hp,q=>by
  simp only [nC,gN,List.cons_append] at q ⊢
  have q1:=q.1
  unfold m7 at q1
  rw [gN,decide_eq_true_eq] at q1
  refine ⟨?_,BO h1 h l _ (fun y e=>by cases e;exact Int.lt_of_le_of_lt q1.1.2 h) q.2⟩
  unfold m7
  rw [gN,decide_eq_true_eq]
  exact ⟨⟨q1.1.1,Int.le_of_lt (Int.lt_of_le_of_lt q1.1.2 h)⟩,q1.2⟩
theorem En {n:Int} {ids:List Int} (h:cS (n,(ids,()))=true) (hn:n<100000):cS (n+1,(ids,()))=true:=by
 obtain ⟨g1,g2,_⟩:=bQ h
 unfold cS at h ⊢
 simp only [gN,decide_eq_true_eq] at h ⊢
 rw [aD (n:=n+1-1) (by omega) (by omega)]
 rw [aD (n:=n-1) (by omega) (by omega)] at h
 exact ⟨⟨show (1:Int)≤n+1 by omega,show n+1≤(100000:Int) by omega⟩,h.2.1,BC (by omega) _ _ h.2.2⟩
theorem tN {n:Int} {ids:List Int} (h:cS (n,(ids,()))=true) (hn:n<100000) (hl:ids.length<60):cS (n+1,(ids++[n],()))=true:=by
 obtain ⟨g1,g2,_⟩:=bQ h
 unfold cS at h ⊢
 simp only [gN,decide_eq_true_eq] at h ⊢
 rw [aD (n:=n+1-1) (by omega) (by omega)]
 rw [aD (n:=n-1) (by omega) (by omega)] at h
 refine ⟨⟨show (1:Int)≤n+1 by omega,show n+1≤(100000:Int) by omega⟩,⟨?_,?_⟩,?_⟩
 · rw [u7,List.length_singleton];omega
 · rw [u7,List.length_singleton];omega
 · rw [show n+1-1=n by omega]
   exact BO g1 (by omega) _ _ (fun y e=>by cases e) h.2.2
def cj (st:Ty.d aE):ByteArray:=a_ aF (aZ st.1.2.1)
theorem xD {st:Ty.d aE} (h:cS st.1=true):0≤aJ ((st.1.2.1.length:Int)-1)∧aJ ((st.1.2.1.length:Int)-1)<(st.1.2.1.length:Int)∧st.1.2.1.getD (aJ ((st.1.2.1.length:Int)-1)).toNat (Ty.z (.int .i64))=aZ st.1.2.1:=by
 obtain ⟨_,_,h1,h2,_⟩:=bQ (nx:=st.1.1) (ids:=st.1.2.1) h
 rw [aD (n:=(st.1.2.1.length:Int)-1) (by omega) (by omega)]
 refine ⟨by omega,by omega,?_⟩
 unfold aZ
 rw [show ((st.1.2.1.length:Int)-1).toNat=st.1.2.1.length-1 by omega]
 rfl
theorem nX {k:Nat} (hk:2 ^ 50≤k) {st:Ty.d aE} (h:cS st.1=true):ck.f k st=some (cj st,()):=by
 obtain ⟨h1,h2,h3⟩:=xD h
 unfold ck.f ck.t cj
 rw [aH h1 h2,h3,bU hk,ab]
def tl (r:RD):RD:=(r.1,iF r.2)
theorem wL (r:RD):((tl r).2 != 0)=(r.2 != 0):=by
 unfold tl bne
 rw [iD]
def Gy (st:Ty.d aE):Ty.d aE:=((st.1.1+1,st.1.2),st.2)
def kM (st:Ty.d aE):Ty.d cY:=(st.1.1+1,(st.1.2.1++[st.1.1],()))
def DT (st:Ty.d aE):Ty.d aE:=(kM st,(st.2.1,(st.2.2.1,(0,st.2.2.2.2))))
def nW (nm:ByteArray) (r:RD):RD:=bif r.2==2 then ((eh [iK,nm] r.1).1,bif (eh [iK,nm] r.1).2==0 then 2 else iF (eh [iK,nm] r.1).2) else r
def jc (st:Ty.d aE) (d:Ty.d aA):Ty.d aE × RD :=
 bif decide ((st.1.2.1.length:Int)≥60) then (st,(d,5)) else bif decide (st.1.1≥100000) then (st,(d,5)) else
 bif (fj d (cj st)).2 != 0 then (st,tl (fj d (cj st))) else
 bif (bM (a_ aF st.1.1) (fj d (cj st)).1).2 != 0 then (Gy st,tl (bM (a_ aF st.1.1) (fj d (cj st)).1)) else
 bif (bf (kM st) (bM (a_ aF st.1.1) (fj d (cj st)).1).1).2 != 0 then (Gy st,nW (a_ aF st.1.1) (tl (bf (kM st) (bM (a_ aF st.1.1) (fj d (cj st)).1).1)))
 else (DT st,((bf (kM st) (bM (a_ aF st.1.1) (fj d (cj st)).1).1).1,0))
structure SR (st:Ty.d aE) (r:RD) (B:Int):Prop where
 live:cS st.1=true
 disk:DR r.1
 lo:LE.le (α:=Int) 0 st.2.2.2.1
 hi:LE.le (α:=Int) st.2.2.2.1 B
theorem zf (n:Int):(a_ aF n).size≤1000:=by
 unfold a_
 by_cases h:(1:Int)≤n∧n≤100000
 · rw [aO h,ac,ByteArray.size_append]
   have:=md (n:=n) (by omega) (by omega)
   have:aF.size=3:=rfl
   omega
 · rw [aP h]
   exact Nat.zero_le _
theorem Cg {k:Nat} (hk:2 ^ 50≤k) {st:Ty.d aE} {d:Ty.d aA} (hl:cS st.1=true) (hd:DR d):fK.f k st d=some ((jc st d).1,((jc st d).2.1,((jc st d).2.2,()))):=by
 obtain ⟨g1,g2,g3,g4,_⟩:=bQ (nx:=st.1.1) (ids:=st.1.2.1) hl
 have hsz:=zf st.1.1
 unfold fK.f fK.t jc
 by_cases c1:(st.1.2.1.length:Int)≥60
 · rw [aO c1];rfl
 by_cases c2:st.1.1≥(100000:Int)
 · rw [aP c1,aO c2];rfl
 have c1':st.1.2.1.length<60:=by omega
 have c2':LT.lt (α:=Int) st.1.1 100000:=Int.not_le.1 c2
 rw [aP c1,aP c2]
 simp only [aK]
 rw [nX hk hl,ab]
 simp only []
 rw [lW hk hd.sz,ab]
 simp only []
 have h1:=lk hd (cj st)
 generalize fj d (cj st)=r1 at h1 ⊢
 cases c3:r1.2 != 0 with
 | true=>simp only [ac,cv,ab,tl]
 | false =>
  simp only [aK]
  rw [bU hk,ab]
  simp only []
  rw [mR hk h1 (by omega),ab]
  simp only []
  have h2:=jz (a_ aF st.1.1) _ h1
  generalize bM (a_ aF st.1.1) r1.1=r2 at h2 ⊢
  have ew:aJ (st.1.1+1)=st.1.1+1:=aD (by omega) (by omega)
  cases c4:r2.2 != 0 with
  | true=>simp only [ac,cv,ab,tl,ew];rfl
  | false =>
   simp only [aK]
   rw [List.nil_append,cD (by omega) (by decide),cD (by omega) (by decide),ew,n7 hk h2 (v:=(st.1.1+1,(st.1.2.1++[st.1.1],()))) (tN hl c2' c1'),ab]
   simp only []
   have h3:=jp (kM st) _ h2
   rw [show ((st.1.1+1,(st.1.2.1++[st.1.1],())):Ty.d cY)=kM st from rfl]
   generalize bf (kM st) r2.1=r3 at h3 ⊢
   have et:(iF r3.2 != 0)=(r3.2 != 0):=by unfold bne;rw [iD]
   cases c5:iF r3.2==2 with
   | true =>
    have e2:iF r3.2=2:=Hi c5
    have c6:(r3.2 != 0)=true:=by rw [← et,e2];rfl
    rw [c6]
    simp only [ac]
    rw [ab,show (⟨#[116,101,109,112]⟩:ByteArray)=iK from rfl]
    simp only []
    rw [mS hk h3 (by simp),ab]
    unfold nW
    rw [show (tl r3).2=iF r3.2 from rfl,c5,show (tl r3).1=r3.1 from rfl]
    simp only [ac,bne]
    generalize eh [iK,a_ aF st.1.1] r3.1=r4
    cases c7:r4.2==0 with
    | true=>rw [e2];rfl
    | false=>simp only [tn,ac,aK,cv,ab];rfl
   | false =>
    simp only [aK]
    rw [et]
    cases c6:r3.2 != 0 with
    | true =>
     simp only [ac]
     unfold nW
     rw [show (tl r3).2=iF r3.2 from rfl,c5]
     rfl
    | false=>rfl
theorem qi {st:Ty.d aE} {d:Ty.d aA} (hl:cS st.1=true) (hd:DR d):cS (jc st d).1.1=true∧DR (jc st d).2.1∧(jc st d).1.2.1=st.2.1∧((jc st d).1.2.2.2.1=st.2.2.2.1∨(jc st d).1.2.2.2.1=0):=by
 unfold jc
 by_cases c1:(st.1.2.1.length:Int)≥60
 · rw [aO c1];exact ⟨hl,hd,rfl,.inl rfl⟩
 by_cases c2:st.1.1≥(100000:Int)
 · rw [aP c1,aO c2];exact ⟨hl,hd,rfl,.inl rfl⟩
 have c1':st.1.2.1.length<60:=by omega
 have c2':LT.lt (α:=Int) st.1.1 100000:=Int.not_le.1 c2
 have hn:cS (Gy st).1=true:=En (ids:=st.1.2.1) hl c2'
 have hg:cS (DT st).1=true:=tN hl c2' c1'
 have h1:=lk hd (cj st)
 have h2:=jz (a_ aF st.1.1) _ h1
 have h3:=jp (kM st) _ h2
 rw [aP c1,aP c2]
 simp only [aK]
 generalize fj d (cj st)=r1 at h1 h2 h3 ⊢
 generalize bM (a_ aF st.1.1) r1.1=r2 at h2 h3 ⊢
 generalize bf (kM st) r2.1=r3 at h3 ⊢
 cases r1.2 != 0 with
 | true=>exact ⟨hl,h1,rfl,.inl rfl⟩
 | false =>
  cases r2.2 != 0 with
  | true=>exact ⟨hn,h2,rfl,.inl rfl⟩
  | false =>
   cases r3.2 != 0 with
   | true =>
    refine ⟨hn,?_,rfl,.inl rfl⟩
    simp only [ac,aK]
    unfold nW
    cases (tl r3).2==2 with
    | true=>exact ji _ _ h3
    | false=>exact h3
   | false=>exact ⟨hg,h3,rfl,.inr rfl⟩
def zd:Ty.d aC:=(0,(0,(0,((0,(0,(ByteArray.empty,(ByteArray.empty,(0,(0,())))))),()))))
def JO (st:Ty.d aE) (n:Int):Ty.d aE:=(st.1,(st.2.1,(st.2.2.1,(n,st.2.2.2.2))))
def jQ (st:Ty.d aE) (d:Ty.d aA) (r:Ty.d b7):(Ty.d aE × RD) × Ty.d aC :=
 bif (iH d (cj st) (aQ (aG r))).2 != 0 then ((st,tl (iH d (cj st) (aQ (aG r)))),zd)
 else ((JO st (st.2.2.2.1+aw r),((iH d (cj st) (aQ (aG r))).1,0)),(aZ st.1.2.1,(st.2.2.2.1,(aw r,(r,())))))
def fc (st:Ty.d aE) (d:Ty.d aA) (r:Ty.d b7):(Ty.d aE × RD) × Ty.d aC :=
 bif decide (st.2.2.2.1 > 0)&&decide (st.2.2.2.1+aw r > 200) then
  (bif (jc st d).2.2 != 0 then (jc st d,zd) else jQ (jc st d).1 (jc st d).2.1 r)
 else jQ st d r
def fX (p:Ty.d aC):Ty.d b7:=p.2.2.2.1
theorem yI {st:Ty.d aE} {d:Ty.d aA} (hl:cS st.1=true) (hd:DR d) {B:Int} (h0:LE.le (α:=Int) 0 st.2.2.2.1) (h1:LE.le (α:=Int) st.2.2.2.1 B) (r:Ty.d b7) :
 SR (jQ st d r).1.1 (jQ st d r).1.2 (B+211)∧(jQ st d r).1.1.2.1=st.2.1∧((jQ st d r).1.2.2=0→fX (jQ st d r).2=r):=by
 have hr:=ma r
 have ha:=oj hd (cj st) (aQ (aG r))
 unfold jQ
 generalize iH d (cj st) (aQ (aG r))=a at ha ⊢
 cases c:a.2 != 0 with
 | true =>
  refine ⟨⟨hl,ha,h0,?_⟩,rfl,fun e=>?_⟩
  · show LE.le (α:=Int) st.2.2.2.1 (B+211)
    omega
  · have e:(tl a).2=0:=e
    have q:=wL a
    rw [e,c] at q
    cases q
 | false =>
  refine ⟨⟨hl,ha,?_,?_⟩,rfl,fun e=>rfl⟩
  · show LE.le (α:=Int) 0 (st.2.2.2.1+aw r)
    omega
  · show LE.le (α:=Int) (st.2.2.2.1+aw r) (B+211)
    omega
theorem qn {st:Ty.d aE} {d:Ty.d aA} {B:Int} (h:SR st (d,0) B) (hB:0≤B) (r:Ty.d b7) :
 SR (fc st d r).1.1 (fc st d r).1.2 (B+211)∧(fc st d r).1.1.2.1=st.2.1∧((fc st d r).1.2.2=0→fX (fc st d r).2=r):=by
 obtain ⟨hl,hd,h0,h1⟩:=h
 unfold fc
 cases decide (st.2.2.2.1 > 0)&&decide (st.2.2.2.1+aw r > 200) with
 | false=>exact yI hl hd h0 h1 r
 | true =>
  obtain ⟨g1,g2,g3,g4⟩:=qi hl hd
  generalize jc st d=q at g1 g2 g3 g4 ⊢
  have s0:LE.le (α:=Int) 0 q.1.2.2.2.1:=by rcases g4 with e | e <;> rw [e];exact h0;exact Int.le_refl _
  have s1:LE.le (α:=Int) q.1.2.2.2.1 B:=by rcases g4 with e | e <;> rw [e];exact h1;exact hB
  cases c:q.2.2 != 0 with
  | true =>
   refine ⟨⟨g1,g2,s0,?_⟩,g3,fun e=>?_⟩
   · show LE.le (α:=Int) q.1.2.2.2.1 (B+211)
     omega
   · have e:q.2.2=0:=e
     rw [e] at c
     cases c
  | false =>
   obtain ⟨k1,k2,k3⟩:=yI g1 g2 s0 s1 r
   exact ⟨k1,k2.trans g3,k3⟩
theorem w_ {k:Nat} (hk:2 ^ 50≤k) {st:Ty.d aE} {d:Ty.d aA} (hl:cS st.1=true) (hd:DR d) (r:Ty.d b7) (h0:LE.le (α:=Int) 0 st.2.2.2.1) (h1:LE.le (α:=Int) st.2.2.2.1 1099511627776) :
 (((ck.f k st).bind fun r4=>((dW.f k d r4.1 (aQ (aG r))).bind fun r5=>(bif (r5.2.1 != 0) then ((aV.f k r5.2.1).bind fun r6=>(some (st,(r5.1,(zd,r6)))))
  else (bF (aJ ((List.length st.1.2.1:Int)-1)) (List.length st.1.2.1:Int) (some ((st.1,(st.2.1,(st.2.2.1,((aJ (st.2.2.2.1+(ByteArray.size (aQ (aG r)):Int))),st.2.2.2.2)))),(r5.1,(((List.getD st.1.2.1 (Int.toNat (aJ ((List.length st.1.2.1:Int)-1))) (Ty.z (.int .i64))),(st.2.2.2.1,((ByteArray.size (aQ (aG r)):Int),(r,())))),(0,()))))))))):dq.Rs) =
 some ((jQ st d r).1.1,((jQ st d r).1.2.1,((jQ st d r).2,((jQ st d r).1.2.2,())))):=by
 obtain ⟨g1,g2,g3⟩:=xD hl
 have hr:=ma r
 have hz:((aQ (aG r)).size:Int)=aw r:=rfl
 rw [nX hk hl,ab]
 simp only []
 rw [ot hk hd.sz (cj st) (t:=aQ (aG r)) (by omega),ab]
 unfold jQ
 simp only []
 generalize iH d (cj st) (aQ (aG r))=a
 cases c:a.2 != 0 with
 | true=>simp only [ac,cv,ab];rfl
 | false =>
  simp only [aK]
  rw [aH g1 g2,g3,hz,aD (by omega) (by omega)]
  rfl
theorem wi {k:Nat} (hk:2 ^ 50≤k) {st:Ty.d aE} {d:Ty.d aA} {B:Int} (h:SR st (d,0) B) (hB:0≤B) (hB':B≤1000000000) (r:Ty.d b7) :
 dq.f k st d r=some ((fc st d r).1.1,((fc st d r).1.2.1,((fc st d r).2,((fc st d r).1.2.2,())))):=by
 obtain ⟨hl,hd,h0,h1⟩:=h
 have hr:=ma r
 have hz:((aQ (aG r)).size:Int)=aw r:=rfl
 have own:=w_ (d:=d) hk hl hd r h0 (by omega)
 rw [hz,aD (n:=st.2.2.2.1+aw r) (by omega) (by omega)] at own
 unfold dq.f dq.t
 rw [dD hk,ab]
 simp only []
 rw [kr hk,ab]
 simp only []
 rw [hz,aD (n:=st.2.2.2.1+aw r) (by omega) (by omega)]
 unfold fc
 by_cases c1:LT.lt (α:=Int) 0 st.2.2.2.1
 · rw [aO (show st.2.2.2.1 > 0 from c1),Bool.true_and,ac]
   by_cases c2:LT.lt (α:=Int) 200 (st.2.2.2.1+aw r)
   · rw [aO (show st.2.2.2.1+aw r > 200 from c2),ac,ac,Cg hk hl hd,ab]
     simp only []
     obtain ⟨g1,g2,g3,g4⟩:=qi hl hd
     generalize jc st d=q at g1 g2 g3 g4 ⊢
     cases c:q.2.2 != 0 with
     | true=>rfl
     | false =>
      have s0:LE.le (α:=Int) 0 q.1.2.2.2.1:=by rcases g4 with e | e <;> rw [e];exact h0;exact Int.le_refl _
      have s1:LE.le (α:=Int) q.1.2.2.2.1 B:=by rcases g4 with e | e <;> rw [e];exact h1;exact hB
      exact w_ hk g1 g2 r s0 (by omega)
   · rw [aP (show ¬ st.2.2.2.1+aw r > 200 from c2),aK,aK]
     exact own
 · rw [aP (show ¬ st.2.2.2.1 > 0 from c1),Bool.false_and,aK]
   exact own
def fT (d:Ty.d aA) (s:ByteArray):Option ByteArray:=(bh d.1 s).map (·.2.1)
theorem jD {d:Ty.d aA} (h:DR d) (s:ByteArray):(aT d s).1=(fT d s).getD ⟨#[]⟩:=by
 rw [ke h]
 unfold fT
 cases bh d.1 s <;> rfl
theorem vA:∀ {l:bn} {f:Ty.d dJ} {t:ByteArray},bh l f.1=none→bh (ln l f) t=bif seq f.1 t then some f else bh l t
 | [],f,t,_=>rfl
 | g::l,f,t,h=>by
  unfold bh at h
  cases c:seq g.1 f.1 with
  | true=>rw [c] at h;cases h
  | false =>
   rw [c,aK] at h
   unfold ln
   cases mh f.1 g.1 with
   | true=>rfl
   | false =>
    simp only [aK]
    rw [bh.eq_2,vA h,bh.eq_2]
    by_cases q:f.1=t
    · rw [q] at c ⊢
      rw [c,bX]
      rfl
    · rw [kK q]
      rfl
theorem Bm {l:bn} {f:Ty.d dJ} {t:ByteArray} (h:f.1≠t):bh (ln l f) t=bh l t:=by
 induction l with
 | nil=>unfold ln;rw [bh.eq_2,kK h];rfl
 | cons g l ih =>
  unfold ln
  cases mh f.1 g.1 with
  | true=>rw [ac,bh.eq_2,kK h,aK]
  | false=>rw [aK,bh.eq_2,ih,bh.eq_2]
theorem sN {d:Ty.d aA} {g:bn→Int→bn × Int} {t:ByteArray} (h:∀ l c,(bh (g l c).1 t).map (·.2.1)=(bh l t).map (·.2.1)):fT (ij d g).1 t=fT d t:=by
 unfold ij fT
 cases (jF d).2 != 0 with
 | true=>rw [ac,p5]
 | false=>exact h d.1 d.2.1
theorem Ji {d:Ty.d aA} {s t:ByteArray} (h:s≠t):fT (wz d s).1 t=fT d t:=sN fun l c=>by
 unfold tf
 cases !jo s with
 | true=>rfl
 | false =>
  cases (bh l s).isSome with
  | true=>rfl
  | false =>
   cases decide ((l.length:Int)≥130) with
   | true=>rfl
   | false =>
    show (bh (ln l (s,(ByteArray.empty,(0,())))) t).map _=_
    rw [Bm (f:=(s,(ByteArray.empty,(0,())))) h]
theorem xB {d:Ty.d aA} {s t x:ByteArray} (h:s≠t):fT (iH d s x).1 t=fT d t:=sN fun l c=>by
 unfold zC
 cases (bh l s).isNone with
 | true=>rfl
 | false =>
  cases decide ((x.size:Int) > aJ (c-(dy l:Int))) with
  | true=>rfl
  | false =>
   show (bh (lJ (fun f=>(f.1,(f.2.1++x,f.2.2))) l s) t).map _=_
   rw [qk (h:=fun f:Ty.d dJ=>(f.1,(f.2.1++x,f.2.2))) (fun f=>rfl),kK (fun q=>h q.symm)]
   rfl
theorem lE {d:Ty.d aA} {s t:ByteArray}:fT (fj d s).1 t=fT d t:=sN fun l c=>by
 unfold uZ
 cases (bh l s).isNone with
 | true=>rfl
 | false =>
  show (bh (lJ (fun f=>(f.1,(f.2.1,((f.2.1.size:Int),f.2.2.2)))) l s) t).map _=_
  rw [qk (h:=fun f:Ty.d dJ=>(f.1,(f.2.1,((f.2.1.size:Int),f.2.2.2)))) (fun f=>rfl)]
  by_cases q:t=s
  · rw [q,bX]
    cases bh l s <;> rfl
  · rw [kK q]
    rfl
theorem KF {d:Ty.d aA} {s t:ByteArray} (h:s≠t):fT (ua d s).1 t=fT d t:=sN fun l c=>by
 unfold BB
 cases (bh l s).isNone with
 | true=>rfl
 | false =>
  show (bh (k6 l s) t).map _=_
  rw [vB (fun q=>h q.symm)]
theorem Ju {d:Ty.d aA} {a b t:ByteArray} (h1:a≠t) (h2:b≠t):fT (B1 d a b).1 t=fT d t:=sN fun l c=>by
 unfold Bb
 cases !jo b with
 | true=>rfl
 | false =>
  simp only [aK]
  cases bh l a with
  | none=>rfl
  | some f =>
   cases seq a b with
   | true=>rfl
   | false =>
    show (bh (ln (k6 (k6 l a) b) (b,f.2)) t).map _=_
    rw [Bm (f:=(b,f.2)) h2,vB (fun q=>h2 q.symm),vB (fun q=>h1 q.symm)]
theorem sI {d:Ty.d aA} {s x:ByteArray}:fT (iH d s x).1 s=bif (iH d s x).2==0 then (fT d s).map (·++x) else fT d s:=by
 unfold iH ij fT
 cases c:(jF d).2 != 0 with
 | true =>
  rw [ac,p5]
  have:((jF d).2==0)=false:=by unfold bne at c;simpa using c
  rw [this]
  rfl
 | false =>
  simp only [aK]
  unfold zC
  cases c1:bh d.1 s with
  | none=>simp only [Option.isNone_none,ac];rw [c1];rfl
  | some f =>
   simp only [Option.isNone_some,aK]
   cases decide ((x.size:Int) > aJ (d.2.1-(dy d.1:Int))) with
   | true=>simp only [ac];rw [c1];rfl
   | false =>
    simp only [aK]
    rw [qk (h:=fun f:Ty.d dJ=>(f.1,(f.2.1++x,f.2.2))) (fun f=>rfl),bX,c1]
    rfl
theorem nS {r:RD} {f:Ty.d aA→RD} {t:ByteArray} {x:Option ByteArray} (h1:fT r.1 t=x) (h2:∀ y,fT (f y).1 t=fT y t):fT (gM r f).1 t=x:=by
 unfold gM
 cases r.2==0 with
 | true=>exact (h2 _).trans h1
 | false=>exact h1
theorem E9 {d:Ty.d aA} {s t:ByteArray} (h:s≠t):fT (mB s d).1 t=fT d t:=by
 unfold mB
 cases (bh d.1 s).isSome with
 | true=>exact KF h
 | false=>rfl
theorem l9 {d:Ty.d aA} {s t:ByteArray} (h:s≠t):fT (bM s d).1 t=fT d t:=nS (E9 h) fun y=>Ji h
theorem za {d:Ty.d aA} {s t x:ByteArray} (h:s≠t):fT (l_ s x d).1 t=fT d t:=nS (nS (l9 h) fun y=>xB h) fun y=>lE
theorem gj {d:Ty.d aA} {v:Ty.d cY} {t:ByteArray} (h1:iK≠t) (h2:dm≠t):fT (bf v d).1 t=fT d t:=nS (za h1) fun y=>Ju h1 h2
theorem m6 {t:ByteArray}:∀ (l:List ByteArray) (d:Ty.d aA),(∀ s ∈ l,s≠t)→fT (eh l d).1 t=fT d t
 | [],_,_=>rfl
 | s::l,d,h=>by
  show fT (gM (mB s d) (eh l)).1 t=_
  exact nS (E9 (h s jd)) fun y=>m6 l y fun q hq=>h q (lK _ hq)
def ek:j7→Ty.d aE→Ty.d aA→aW→(Ty.d aE × RD) × aW
 | [],st,d,ps=>((st,(d,0)),ps)
 | r::l,st,d,ps=>bif (fc st d r).1.2.2 != 0 then ((fc st d r).1,ps) else ek l (fc st d r).1.1 (fc st d r).1.2.1 (ps++[(fc st d r).2])
def L3 (st:Ty.d aE) (dir:aR):Ty.d aE:=(st.1,(dir,st.2.2))
def t8 (n:Nat) (q:(Ty.d aE × RD) × aW):Ty.d aE × RD :=
 bif q.1.2.2 != 0 then q.1 else bif (fj q.1.2.1 (cj q.1.1)).2 != 0 then (q.1.1,tl (fj q.1.2.1 (cj q.1.1))) else (L3 q.1.1 (bL q.1.1.2.1 (q.2.take n)),((fj q.1.2.1 (cj q.1.1)).1,0))
def pF (st:Ty.d aE):Ty.d aE:=(st.1,(st.2.1,(st.2.2.1+1,st.2.2.2)))
def gD (st:Ty.d aE) (d:Ty.d aA) (l:lA):Ty.d aE × RD:=t8 l.length (ek (iW l st.2.2.1) (pF st) d [])
theorem oe:∀ (l:j7) (st:Ty.d aE) (d:Ty.d aA) (ps:aW) (B:Int),SR st (d,0) B→0≤B →
 SR (ek l st d ps).1.1 (ek l st d ps).1.2 (B+211*(l.length:Int))∧(ek l st d ps).1.1.2.1=st.2.1∧((ek l st d ps).1.2.2=0→(ek l st d ps).2.map fX=ps.map fX++l)
 | [],st,d,ps,B,h,_=>⟨⟨h.live,h.disk,h.lo,by have:=h.hi;show LE.le (α:=Int) st.2.2.2.1 _;rw [List.length_nil];omega⟩,rfl,fun _=>(List.append_nil _).symm⟩
 | r::l,st,d,ps,B,h,hB=>by
  obtain ⟨g1,g2,g3⟩:=qn h hB r
  unfold ek
  have el:((r::l).length:Int)=(l.length:Int)+1:=by rw [kJ];omega
  cases c:(fc st d r).1.2.2 != 0 with
  | true =>
   refine ⟨⟨g1.live,g1.disk,g1.lo,?_⟩,g2,fun e=>?_⟩
   · have:=g1.hi
     show LE.le (α:=Int) (fc st d r).1.1.2.2.2.1 _
     omega
   · have e:(fc st d r).1.2.2=0:=e
     rw [e] at c
     cases c
  | false =>
   have e0:(fc st d r).1.2.2=0:=by unfold bne at c;simpa using c
   obtain ⟨k1,k2,k3⟩:=oe l (fc st d r).1.1 (fc st d r).1.2.1 (ps++[(fc st d r).2]) (B+211) ⟨g1.live,g1.disk,g1.lo,g1.hi⟩ (by omega)
   refine ⟨⟨k1.live,k1.disk,k1.lo,?_⟩,k2.trans g2,fun e=>?_⟩
   · have:=k1.hi
     show LE.le (α:=Int) (ek l (fc st d r).1.1 (fc st d r).1.2.1 (ps++[(fc st d r).2])).1.1.2.2.2.1 _
     omega
   · have:=k3 e
     show (ek l (fc st d r).1.1 (fc st d r).1.2.1 (ps++[(fc st d r).2])).2.map fX=_
     rw [this,List.map_append,List.map_singleton,g3 e0,nn]
     rfl
def pc:aR→lA→aR→aR
 | dir,[],_=>dir
 | dir,_::_,[]=>dir
 | dir,p::l,e::es=>pc (bif p.2.1 then h9 dir p.1 else pV dir e) l es
theorem pf (dir:aR) (es:aR):pc dir [] es=dir:=by cases es <;> rfl
theorem wZ (b:Int):∀ (l:lA) (ps:aW) (q:j7) (dir:aR),ps.map fX=l.map (fe b)++q→pc dir l (ps.map eP)=bL dir (ps.take l.length)
 | [],ps,q,dir,h=>by rw [List.length_nil,List.take_zero,pf];rfl
 | x::l,[],q,dir,h=>by cases h
 | x::l,p::ps,q,dir,h=>by
  rw [List.map_cons,List.map_cons,List.cons_append] at h
  injection h with h1 h2
  rw [List.map_cons,kJ,List.take_succ_cons]
  unfold pc bL
  rw [List.foldl_cons,wZ b l ps q _ h2]
  unfold bL
  congr 1
  unfold fI
  rw [show p.2.2.2.1=fe b x from h1]
  unfold fe
  cases x.2.1 <;> rfl
def wO (p:Ty.d dI):Ty.d aB:=(p.1,(0,(0,(0,(0,())))))
def lX (dir:aR) (l:lA):Int:=((pc dir l (l.map wO)).length:Int)
theorem Ic (l:aR) (e:Ty.d aB):(pV l e).length≤l.length+1:=by
 unfold pV
 rw [Bw]
 have:=oB l e.1
 omega
theorem z_ {k:Nat} (hk:2 ^ 50≤k) {dir:aR} (hd:dir.length≤536870912) {l:lA} (hl:l.length≤1000):d6.f k dir l=some (lX dir l,()):=by
 have key:∀ (n:Nat) (i:Int) (s:aR),0≤i→i≤(l.length:Int)→(l.length:Int)-i<n→(s.length:Int)≤536870912+i→d6.l1 k n l i s=some (lX s (l.drop i.toNat),()):=fun n i s h0 h1 h2 hs=>by
  refine GY (L:=fun n i (s:aR)=>d6.l1 k n l i s) (R:=fun r s=>some (lX s r,())) (Ty.z dI) l (fun i s=>(s.length:Int)≤536870912+i) (fun n s hs=>?_) (fun n i s x rest h0 h1 hx hr hp ih=>?_) n i s h0 h1 h2 hs
  · simp (disch:=omega) only [d6.l1,d6.b1,aP,aK]
    rfl
  · simp only [d6.l1,d6.b1]
    rw [aO h1,ac,aH h0 h1,hx,aD (n:=i+1) (by omega) (by omega)]
    unfold lX
    simp only [List.map_cons,pc]
    cases c:x.2.1 with
    | true =>
     have:=oB s x.1
     simp only [ac]
     rw [aH h0 h1,po hk x.1 (by omega),ab]
     exact ih (h9 s x.1) (by omega)
    | false =>
     have:=Ic s (wO x)
     have e:=rB hk (l:=s) (wO x) (by omega)
     unfold wO at e
     simp only [aK]
     rw [aH h0 h1,e,ab]
     exact ih (pV s (wO x)) (by omega)
 obtain ⟨q,hq⟩:∃ q,k=q+1:=⟨k-1,by omega⟩
 have k1:=key (q+1) 0 dir (by omega) (by omega) (by omega) (by omega)
 unfold d6.f d6.t
 rw [show l.drop (0:Int).toNat=l from rfl] at k1
 refine Eq.trans ?_ k1
 rw [show d6.l0 k k=d6.l0 k (q+1) by rw [← hq]]
 rfl
theorem DI (dir:aR) (ps:aW) (p:Ty.d aC):bL dir (ps++[p])=fI (bL dir ps) p:=by
 unfold bL
 rw [List.foldl_append]
 rfl
theorem gn {c:Int} (h:(c != 0)=false):c=0:=by unfold bne at h;simpa using h
theorem AJ {k:Nat} (hk:2 ^ 50≤k) {st:Ty.d aE} {d:Ty.d aA} {l:lA} (h:SR st (d,0) 100000) (hb0:LE.le (α:=Int) 0 st.2.2.1) (hb:LE.le (α:=Int) st.2.2.1 1000000) (hp:ju l=true) (hd:st.2.1.length≤20) :
 bR.f k st d l=some ((gD st d l).1,((gD st d l).2.1,((gD st d l).2.2,()))):=by
 have hl:=mf hp
 unfold bR.f bR.t gD iW
 rw [cD (by omega) (by decide),List.nil_append,aD (n:=st.2.2.1+1) (by omega) (by omega)]
 generalize hbe:st.2.2.1=b at *
 rw [show pF st=((st.1,(st.2.1,(b+1,st.2.2.2))):Ty.d aE) from by unfold pF;rw [hbe]]
 refine e_ (L:=fun n i (s:(Ty.d aE × Ty.d aA) × aW)=>bR.l0 k n b i l s.1.1.1.2.1 s.1.1.2.1 s.1.1.1.1 s.1.1.2.2.1 s.1.1.2.2.2.1 s.1.1.2.2.2.2.1 s.1.2.1 s.1.2.2.1 s.1.2.2.2.1 s.1.2.2.2.2.1 [] [] 0 0 0 0 [] 0 0 false (s.2.map fX) (bL s.1.1.2.1 s.2))
  (R:=fun r s=>(some ((t8 l.length (ek (r.map (fe b)++[fJ 3 b (l.map (fe b))]) s.1.1 s.1.2 s.2)).1,((t8 l.length (ek (r.map (fe b)++[fJ 3 b (l.map (fe b))]) s.1.1 s.1.2 s.2)).2.1,((t8 l.length (ek (r.map (fe b)++[fJ 3 b (l.map (fe b))]) s.1.1 s.1.2 s.2)).2.2,()))):bR.Rs))
  (Ty.z dI) l (fun i s=>SR s.1.1 (s.1.2,0) (100000+211*i)∧s.2.map fX=(l.take i.toNat).map (fe b)∧s.1.1.2.1.length≤20) (fun n s hs=>?_) (fun n i s x rest h0 h1 hx hr hs ih=>?_) (n:=k) (s:=(((((st.1,(st.2.1,(b+1,st.2.2.2))):Ty.d aE)),d),[])) (by omega) ⟨⟨h.live,h.disk,h.lo,Int.le_trans h.hi (by decide)⟩,rfl,hd⟩
 · obtain ⟨⟨st',d'⟩,ps⟩:=s
   obtain ⟨g1,g2,g3⟩:=hs
   simp only [] at g1 g2 g3 ⊢
   rw [Int.toNat_natCast,List.take_length] at g2
   have hps:ps.length=l.length:=by simpa using congrArg List.length g2
   simp only [bR.l0,bR.b0]
   rw [aP (by omega),aK,g2,tw hk (by rw [List.length_map];omega),ab]
   simp only []
   rw [show ((st'.1.1,(st'.1.2.1,())),(st'.2.1,(st'.2.2.1,(st'.2.2.2.1,(st'.2.2.2.2.1,())))))=st' from rfl,show (d'.1,(d'.2.1,(d'.2.2.1,(d'.2.2.2.1,()))))=d' from rfl,
    wi hk g1 (by omega) (by omega),ab]
   simp only [List.map_nil,List.nil_append,ek]
   obtain ⟨k1,k2,_⟩:=qn g1 (by omega) (fJ 3 b (l.map (fe b)))
   generalize fc st' d' (fJ 3 b (l.map (fe b)))=q at k1 k2 ⊢
   cases c:q.1.2.2 != 0 with
   | true =>
    simp only [ac]
    unfold t8
    simp only [c,ac]
   | false =>
    simp only [aK]
    rw [nX hk k1.live,ab]
    simp only []
    rw [lW hk (DR.sz k1.disk),ab]
    unfold t8
    simp only [show ((0:Int) != 0)=false from rfl,aK]
    generalize fj q.1.2.1 (cj q.1.1)=y
    cases c2:y.2 != 0 with
    | true=>simp only [ac,cv,ab];rfl
    | false =>
     simp only [aK]
     rw [k2,List.take_append_of_le_length (by omega),List.take_of_length_le (by omega)]
     rfl
 · obtain ⟨⟨st',d'⟩,ps⟩:=s
   obtain ⟨g1,g2,g3⟩:=hs
   simp only [] at g1 g2 g3 ih ⊢
   have hi:i.toNat<l.length:=by omega
   have hm:x ∈ l:=List.mem_of_mem_drop (i:=i.toNat) (by rw [hr];exact jd)
   have e:=Em b (rk hp hm)
   have et:l.take (i+1).toNat=l.take i.toNat++[x]:=by
    rw [show (i+1).toNat=i.toNat+1 by omega,List.take_succ_eq_append_getElem hi]
    congr 2
    rw [← hx]
    simp [List.getD,hi]
   have hps:ps.length≤l.length:=by
    have:=congrArg List.length g2
    rw [List.length_map,List.length_map,List.length_take] at this
    omega
   obtain ⟨k1,k2,k3⟩:=qn g1 (by omega) (fe b x)
   have body:((dq.f k st' d' (fe b x)).bind fun r1=>(bif (r1.2.2.2.1 != 0) then (some (r1.1,(r1.2.1,r1.2.2.2))) else ((gg.f k (bL st'.2.1 ps) r1.2.2.1).bind fun r2=>(rm (Ty.bytes b7) (List.length (ps.map fX)+1)
    (bR.l0 k n b (aJ (i+1)) l r1.1.1.2.1 r1.1.2.1 r1.1.1.1 r1.1.2.2.1 r1.1.2.2.2.1 r1.1.2.2.2.2.1 r1.2.1.1 r1.2.1.2.1 r1.2.1.2.2.1 r1.2.1.2.2.2.1 [] [] 0 0 0 0 [] 0 0 false (ps.map fX++[fe b x]) r2.1))))) =
    (some ((t8 l.length (ek ((x::rest).map (fe b)++[fJ 3 b (l.map (fe b))]) st' d' ps)).1,((t8 l.length (ek ((x::rest).map (fe b)++[fJ 3 b (l.map (fe b))]) st' d' ps)).2.1,((t8 l.length (ek ((x::rest).map (fe b)++[fJ 3 b (l.map (fe b))]) st' d' ps)).2.2,()))):bR.Rs):=by
    rw [wi hk g1 (by omega) (by omega),ab]
    simp only [List.map_cons,List.cons_append,ek]
    have hk1:=k1.hi
    generalize fc st' d' (fe b x)=q at k1 k2 k3 hk1 ⊢
    cases c:q.1.2.2 != 0 with
    | true =>
     simp only [ac]
     unfold t8
     simp only [c,ac]
    | false =>
     simp only [aK]
     have hal:=oQ ps st'.2.1
     rw [ve hk q.2 (by omega),ab,cD (by rw [List.length_map];omega) (by decide),aD (n:=i+1) (by omega) (by omega)]
     have q3:=k3 (gn c)
     have e1:(ps++[q.2]).map fX=ps.map fX++[fe b x]:=by rw [List.map_append,List.map_singleton,q3]
     have e2:bL q.1.1.2.1 (ps++[q.2])=fI (bL st'.2.1 ps) q.2:=by rw [k2,DI]
     have ih:=ih ((q.1.1,q.1.2.1),ps++[q.2]) ⟨⟨k1.live,k1.disk,k1.lo,by show LE.le (α:=Int) q.1.1.2.2.2.1 _;omega⟩,by simp only [];rw [e1,g2,et,List.map_append];rfl,by simp only [];rw [k2];exact g3⟩
     simp only [] at ih
     rw [e1,e2] at ih
     exact ih
   simp only [bR.l0,bR.b0]
   rw [aO h1,ac,aH h0 h1,aH h0 h1,aH h0 h1,hx]
   rw [show ((st'.1.1,(st'.1.2.1,())),(st'.2.1,(st'.2.2.1,(st'.2.2.2.1,(st'.2.2.2.2.1,())))))=st' from rfl,show (d'.1,(d'.2.1,(d'.2.2.1,(d'.2.2.2.1,()))))=d' from rfl]
   cases c:x.2.1 with
   | true =>
    rw [c,ac] at e
    simp only [ac]
    rw [← e]
    exact body
   | false =>
    rw [c,aK] at e
    simp only [aK]
    rw [← e]
    exact body
noncomputable def fm (st:Ty.d aE) (d:Ty.d aA) (l:lA):Ty.d aE × RD :=
 bif !d9 st d then (st,(d,4)) else bif !ju l then (st,(d,4)) else bif (l.length:Int)==0 then (st,(d,0)) else bif decide (lX st.2.1 l > 20) then (st,(d,5)) else
 bif decide (st.2.2.1 > 1000000) then (st,(d,5)) else gD st d l
theorem ym {d:Ty.d aA} {tail:Int}:∀ {l:List Int},l≠[]→lg d tail l=true→∃ x,tail=((aT d (a_ aF x)).1.size:Int)
 | [],h,_=>absurd rfl h
 | [x],_,h=>by
  unfold lg AX at h
  simp only [gN,List.isEmpty_nil,fh,Bool.false_or] at h
  exact ⟨x,Hi h.1.2.2⟩
 | x::y::l,_,h=>by
  unfold lg at h
  rw [gN] at h
  exact ym (by intro q;cases q) h.2
theorem eW {st:Ty.d aE} {d:Ty.d aA} (h:d9 st d=true):SR st (d,0) 100000∧st.2.1.length≤20∧LE.le (α:=Int) 1 st.2.2.1:=by
 unfold d9 oA at h
 simp only [gN,decide_eq_true_eq] at h
 obtain ⟨h1,h2,⟨h3,_⟩,h4,h5,_⟩:=h
 obtain ⟨_,_,g1,_,_⟩:=bQ (nx:=st.1.1) (ids:=st.1.2.1) h2
 have hd:=jP.1 h1
 obtain ⟨x,hx⟩:=ym (by intro q;rw [q] at g1;simp at g1) h5
 have hs:=fp d (a_ aF x)
 have hu:=hd.use
 have hc:=hd.cap1
 refine ⟨⟨h2,hd,?_,?_⟩,by omega,h4.1⟩
 · show LE.le (α:=Int) 0 st.2.2.2.1
   rw [hx]
   omega
 · show LE.le (α:=Int) st.2.2.2.1 100000
   rw [hx]
   have:LE.le (α:=Int) (dy d.1) 100000:=Int.le_trans hu hc
   omega
theorem xj {k:Nat} (hk:2 ^ 50≤k) {st:Ty.d aE} {d:Ty.d aA} (hd:AM d) (h1:st.1.2.1.length≤1073741824) (h2:st.2.1.length≤536870912) {l:lA} (hl:l.length≤1073741824) :
 gT.f k st d l=some ((fm st d l).1,((fm st d l).2.1,((fm st d l).2.2,()))):=by
 have ec:cm.f k st=some (st,()):=by
  unfold cm.f cm.t
  rw [cD (by omega) (by decide),cD (by omega) (by decide),List.nil_append,List.nil_append]
 unfold gT.f gT.t fm
 rw [ec,ab]
 simp only []
 rw [jK k hd,ab]
 simp only []
 rw [sQ hk hd,ab]
 simp only []
 cases c1:d9 st d with
 | false=>rfl
 | true =>
  simp only [fh,aK]
  rw [nj hk,ab]
  simp only []
  cases c2:ju l with
  | false=>rfl
  | true =>
   have h8:=mf c2
   obtain ⟨g1,g2,g3⟩:=eW c1
   simp only [fh,aK]
   cases c3:(l.length:Int)==0 with
   | true=>rfl
   | false =>
    simp only [aK]
    rw [z_ hk (by omega) (by omega),ab]
    simp only []
    cases c4:decide (lX st.2.1 l > 20) with
    | true=>rfl
    | false =>
     simp only [aK]
     by_cases c5:st.2.2.1 > (1000000:Int)
     · rw [aO c5];rfl
     · rw [aP c5]
       simp only [aK]
       rw [AJ hk g1 (Int.le_trans (by decide) g3) (Int.not_lt.1 c5) c2 g2,ab]
theorem xP {p:ByteArray} (hp:p=aF∨p=dG) {n:Int} (h0:1≤n) (h1:n≤100000):Dr (a_ p n)=(n,true):=by
 have e:a_ p n=p++gQ n:=by unfold a_;rw [aO ⟨h0,h1⟩];rfl
 have hn:Hh (p++gQ n) n:=⟨h0,h1,by rcases hp with q | q <;> rw [q] <;> simp⟩
 rw [e]
 rcases jE (Hh (p++gQ n)) (fun _=>p++gQ n) (0:Int) (p++gQ n) with ⟨r,g1,_,g3⟩ | g
 · unfold Dr
   rw [g3,De g1 hn]
 · exfalso
   unfold nq at g
   rw [dif_pos ⟨n,hn,rfl⟩] at g
   cases (Prod.mk.inj g).2
theorem Aw (ids:List Int):∀ (l:bn) (acc:List ByteArray) (x:ByteArray),x ∈ pK ids l acc→x ∈ acc∨(((Dr x).2&&!wK ids (Dr x).1)||seq x iK)=true
 | [],acc,x,h => .inl h
 | f::l,acc,x,h=>by
  unfold pK at h
  rcases Aw ids l _ x h with q | q
  · cases c:tP ids f with
    | false=>rw [c] at q;exact .inl q
    | true =>
     rw [c,ac] at q
     rcases List.mem_append.1 q with q | q
     · exact .inl q
     · rw [List.mem_singleton] at q
       subst q
       exact .inr c
  · exact .inr q
theorem Hf {d:Ty.d aA} {ids:List Int} {x:ByteArray} (h:x ∈ qy d ids):(((Dr x).2&&!wK ids (Dr x).1)||seq x iK)=true:=by
 unfold qy at h
 cases c:gf d with
 | false=>rw [c] at h;cases h
 | true =>
  rw [c,ac] at h
  rcases Aw ids d.1 [] x h with q | q
  · cases q
  · exact q
def KR (d:Ty.d aA) (s:ByteArray):Nat:=((fT d s).getD ⟨#[]⟩).size
def rY (d:Ty.d aA) (ids:List Int):Nat:=(ids.map fun x=>KR d (a_ aF x)).sum
def qw:aR→Int
 | []=>0
 | e::l=>e.2.2.2.1+qw l
theorem mg {x y:Int} (hx:1≤x∧x≤100000) (hy:1≤y∧y≤100000) (h:x≠y):a_ aF x≠a_ aF y:=fun q=>by
 have e1:=xP (.inl rfl) hx.1 hx.2
 have e2:=xP (.inl rfl) hy.1 hy.2
 rw [q,e2] at e1
 injection e1 with e1 _
 exact h e1.symm
theorem xY {x:Int} (hx:1≤x∧x≤100000):a_ aF x=aF++gQ x:=by
 unfold a_
 rw [aO hx]
 rfl
theorem gZ {x:Int} (hx:1≤x∧x≤100000):iK≠a_ aF x:=fun q=>by
 rw [xY hx] at q
 have:=congrArg nb q
 rw [gP] at this
 cases this
theorem iX {x:Int} (hx:1≤x∧x≤100000):dm≠a_ aF x:=fun q=>by
 rw [xY hx] at q
 have:=congrArg nb q
 rw [gP] at this
 cases this
theorem iG {n:Int} {ids:List Int} (h:cS (n,(ids,()))=true):1≤n∧n≤100000∧(∀ x ∈ ids,1≤x∧x<n)∧ids.Pairwise (· < ·):=by
 obtain ⟨g1,g2,_⟩:=bQ h
 unfold cS at h
 simp only [gN,decide_eq_true_eq] at h
 have h3:=h.2.2
 rw [aD (n:=n-1) (by omega) (by omega)] at h3
 have key:∀ (l:List Int) (p:Option Int),nC (m7 (n-1)) p l=true→(∀ x ∈ l,1≤x∧x<n∧∀ y,p=some y→y<x)∧l.Pairwise (· < ·):=by
  intro l
  induction l with
  | nil=>exact fun p _=>⟨fun x hx=>(by cases hx),List.Pairwise.nil⟩
  | cons a l ih =>
   intro p hp
   simp only [nC,gN] at hp
   obtain ⟨q1,q2⟩:=hp
   unfold m7 at q1
   rw [gN,decide_eq_true_eq] at q1
   obtain ⟨⟨b1,b2⟩,b3⟩:=q1
   have b1:1≤a:=b1
   have b2:a≤n-1:=b2
   obtain ⟨i1,i2⟩:=ih (some a) q2
   have ha:∀ y,p=some y→y<a:=fun y e=>by
    rw [e] at b3
    exact of_decide_eq_true b3
   refine ⟨fun x hx=>?_,?_⟩
   · rcases List.mem_cons.1 hx with e | e
     · rw [e]
       exact ⟨b1,by omega,ha⟩
     · obtain ⟨c1,c2,c3⟩:=i1 x e
       have:=c3 a rfl
       exact ⟨c1,c2,fun y ey=>Int.lt_trans (ha y ey) this⟩
   · exact List.Pairwise.cons (fun x hx=>(i1 x hx).2.2 a rfl) i2
 obtain ⟨k1,k2⟩:=key ids none h3
 exact ⟨g1,g2,fun x hx=>⟨(k1 x hx).1,(k1 x hx).2.1⟩,k2⟩
theorem yp {d d':Ty.d aA}:∀ {ids:List Int},(∀ x ∈ ids,fT d' (a_ aF x)=fT d (a_ aF x))→rY d' ids=rY d ids
 | [],_=>rfl
 | x::l,h=>by
  unfold rY at *
  rw [List.map_cons,List.map_cons,List.sum_cons,List.sum_cons]
  have e1:KR d' (a_ aF x)=KR d (a_ aF x):=by unfold KR;rw [h x jd]
  have e2:=yp (ids:=l) fun y hy=>h y (lK _ hy)
  unfold rY at e2
  rw [e1,e2]
theorem lh {ids:List Int} (h:1≤ids.length):ids=ids.dropLast++[aZ ids]:=by
 have hne:ids≠[]:=by intro q;rw [q] at h;simp at h
 have e:aZ ids=ids.getLast hne:=by
  unfold aZ
  rw [List.getLast_eq_getElem]
  simp [List.getD,show ids.length-1<ids.length by omega]
 rw [e]
 exact (List.dropLast_concat_getLast hne).symm
abbrev yq:=List (Ty.d c_)
def b9 (id:Int) (l:yq):aW:=l.map fun x=>(id,x)
theorem qF (id:Int) (l:yq):(b9 id l).length=l.length:=by unfold b9;rw [List.length_map]
theorem xi {k:Nat} (hk:2 ^ 50≤k) (id:Int) {l:yq} (hl:l.length≤1099511627775):fa.f k id l=some (b9 id l,()):=by
 unfold fa.f fa.t
 refine (e_ (L:=fun n i s=>fa.l0 k n id l l.length i s) (R:=fun r s=>some (s++b9 id r,())) (Ty.z c_) l (fun i s=>(s.length:Int)=i) (fun n s hs=>?_) (fun n i s x rest h0 h1 hx hr hp ih=>?_) (n:=k) (s:=[]) (by omega) (by decide)).trans (by rw [List.nil_append])
 · simp (disch:=omega) only [fa.l0,fa.b0,aP,aK,b9,List.map_nil,List.append_nil]
 · have ih:=ih (s++[(id,x)]) (by rw [br];omega)
   simp (disch:=first | omega | decide) only [fa.l0,fa.b0,aO,ac,aH,hx,cD,aD]
   refine ih.trans ?_
   simp only [b9,List.map_cons,nn,List.cons_append,List.nil_append]
theorem qu {k:Nat} (hk:2 ^ 50≤k) (id:Int) {s:ByteArray} (hs:s.size≤1099511627775):bW.f k id s=some (b9 id (az s).1,()):=by
 unfold bW.f bW.t
 rw [mE hk hs,ab]
 have hl:=(j3 s).1
 simp only []
 generalize (az s).1=l at *
 refine (e_ (L:=fun n i s=>bW.l0 k n id i s l) (R:=fun r s=>some (s++b9 id r,())) (Ty.z c_) l (fun i s=>(s.length:Int)=i) (fun n s hs=>?_) (fun n i s x rest h0 h1 hx hr hp ih=>?_) (n:=k) (s:=[]) (by omega) (by decide)).trans (by rw [List.nil_append])
 · simp (disch:=omega) only [bW.l0,bW.b0,aP,aK,b9,List.map_nil,List.append_nil]
 · have ih:=ih (s++[(id,x)]) (by rw [br];omega)
   simp (disch:=first | omega | decide) only [bW.l0,bW.b0,aO,ac,aH,hx,cD,aD]
   refine ih.trans ?_
   simp only [b9,List.map_cons,nn,List.cons_append,List.nil_append]
def o_:Ty.d gW:=(0,(0,([],())))
def EF (s0:Int) (e:Ty.d aB):Bool:=(e.2.1==s0)&&!decide ((e.2.2.1:Int) > 100000)
def zR (l:aR):Bool:=l.all (EF (l.getD 0 (Ty.z aB)).2.1)
def lM (h:Ty.d gW):Bool:=decide ((0:Int)≤h.1∧h.1≤100000)&&(decide ((0:Int)≤h.2.1∧h.2.1≤1000000)&&(oA h.2.2.1&&zR h.2.2.1))
def iv (e:Ty.d aB):ByteArray:=iu e.1++(gh e.2.1++(gh e.2.2.1++(gh e.2.2.2.1++gh e.2.2.2.2.1)))
def kP:aR→ByteArray
 | []=>⟨#[]⟩
 | e::l=>iv e++kP l
def rD (h:Ty.d gW):ByteArray:=gh h.1++(gh h.2.1++(gh (h.2.2.1.length:Int)++kP h.2.2.1))
def cw (h:Ty.d gW):ByteArray:=if lM h=true then sY (pH (rD h))++rD h else ⟨#[]⟩
theorem xz {k:Nat} (hk:2 ^ 50≤k) (h:Ty.d gW):gF.f k h=some (lM h,()):=by
 unfold gF.f gF.t lM
 rw [fE,ab]
 cases decide ((0:Int)≤h.1∧h.1≤100000) with
 | false=>rfl
 | true =>
  simp only [fh,aK,Bool.true_and]
  rw [fE,ab]
  cases decide ((0:Int)≤h.2.1∧h.2.1≤1000000) with
  | false=>rfl
  | true =>
   simp only [fh,aK,Bool.true_and]
   rw [xO hk,ab]
   cases cd:oA h.2.2.1 with
   | false=>rfl
   | true =>
    simp only [fh,aK,Bool.true_and]
    have hl:h.2.2.1.length≤20:=by
     unfold oA at cd
     rw [gN,decide_eq_true_eq] at cd
     have:=cd.1
     omega
    unfold zR
    refine e_ (L:=fun n i (_:Unit)=>gF.l0 k n i h.1 h.2.1 h.2.2.1) (R:=fun r _=>some (r.all (EF (h.2.2.1.getD 0 (Ty.z aB)).2.1),())) (Ty.z aB) h.2.2.1 (fun _ _=>True) (fun n _ _=>?_) (fun n i _ x rest h0 h1 hx hr hp ih=>?_) (n:=k) (s:=()) (by omega) trivial
    · simp only [gF.l0,gF.b0]
      rw [aP (by omega),aK]
      rfl
    · have ih:=ih () trivial
      simp only [gF.l0,gF.b0]
      rw [aO h1,ac,aH h0 h1,aH (by omega) (by omega),hx,aH h0 h1,aD (n:=i+1) (by omega) (by omega),ih,List.all_cons]
      unfold EF bne
      cases x.2.1==(h.2.2.1.getD 0 (Ty.z aB)).2.1 <;> cases decide ((x.2.2.1:Int) > 100000) <;> rfl
theorem km {l:aR} (h:oA l=true):l.length≤20∧∀ e ∈ l,(1≤e.1.size∧e.1.size≤8)∧(LE.le (α:=Int) 1 e.2.1∧LE.le (α:=Int) e.2.1 100000)∧LE.le (α:=Int) 0 e.2.2.1∧(LE.le (α:=Int) 1 e.2.2.2.1∧LE.le (α:=Int) e.2.2.2.1 210)∧(LE.le (α:=Int) 1 e.2.2.2.2.1∧LE.le (α:=Int) e.2.2.2.2.1 1000000):=by
 unfold oA at h
 rw [gN,decide_eq_true_eq] at h
 refine ⟨by have:=h.1;omega,fun e he=>?_⟩
 obtain ⟨q,hq⟩:=AA h.2 he
 unfold oH lH at hq
 rw [gN,gN,gN,gN,gN,decide_eq_true_eq,decide_eq_true_eq,decide_eq_true_eq,decide_eq_true_eq] at hq
 obtain ⟨g1,g2,g3,g4,g5,_⟩:=hq
 have g3':¬ LT.lt (α:=Int) e.2.2.1 0:=by
  intro q
  have:(!decide (e.2.2.1<(0:Int)))=false:=by rw [aO q];rfl
  rw [this] at g3
  cases g3
 exact ⟨by omega,g2,Int.not_lt.1 g3',g4,g5⟩
theorem o6 {h:Ty.d gW} (q:lM h=true):oA h.2.2.1=true:=by
 unfold lM at q
 rw [gN,gN,gN] at q
 exact q.2.2.1
theorem ye {e:Ty.d aB}:(iv e).size≤35+e.1.size:=by
 have a:=bG (e.1.size:Int)
 have b:=bG e.2.1
 have c:=bG e.2.2.1
 have d:=bG e.2.2.2.1
 have f:=bG e.2.2.2.2.1
 unfold iv iu
 simp only [aN]
 omega
theorem wc:∀ {l:aR},(∀ e ∈ l,e.1.size≤8)→(kP l).size≤43*l.length
 | [],_=>Nat.zero_le _
 | e::l,h=>by
  have h1:=h e (jd ..)
  have h2:=wc (l:=l) fun x hx=>h x (lK _ hx)
  have h3:=ye (e:=e)
  unfold kP
  rw [aN,kJ]
  omega
theorem Cf {h:Ty.d gW} (q:lM h=true):(rD h).size≤900:=by
 obtain ⟨h1,h2⟩:=km (o6 q)
 have:=wc (l:=h.2.2.1) fun e he=>(h2 e he).1.2
 have a:=bG h.1
 have b:=bG h.2.1
 have c:=bG (h.2.2.1.length:Int)
 unfold rD
 simp only [aN]
 omega
theorem nY (h:Ty.d gW):(cw h).size≤904:=by
 unfold cw
 by_cases q:lM h=true
 · have:=Cf q
   rw [if_pos q,aN,show (sY (pH (rD h))).size=4 from rfl]
   omega
 · rw [if_neg q];decide
theorem kX {k:Nat} (hk:2 ^ 50≤k) (h:Ty.d gW):dL.f k h=some (cw h,()):=by
 unfold dL.f dL.t cw
 rw [xz hk,ab]
 cases q:lM h with
 | false=>rfl
 | true =>
  obtain ⟨h1,h2⟩:=km (o6 q)
  have a:=bG h.1
  have b:=bG h.2.1
  have c:=bG (h.2.2.1.length:Int)
  rw [fh,aK,gH hk,ab,gH hk,ab,if_pos rfl]
  simp only []
  rw [e9 (by omega),gH hk,ab]
  simp only []
  rw [e9 (by rw [aN];omega)]
  refine (e_ (L:=fun n i s=>dL.l0 k n s i h.1 h.2.1 h.2.2.1) (R:=fun r s=>some (sY (pH (s++kP r))++(s++kP r),())) (Ty.z aB) h.2.2.1 (fun i s=>(s.size:Int)≤21+43*i) (fun n s hs=>?_) (fun n i s x rest g0 g1 hx hr hs ih=>?_) (n:=k) (s:=gh h.1++gh h.2.1++gh (h.2.2.1.length:Int)) (by omega) (by rw [aN,aN];omega)).trans (by unfold rD;rw [ai,ai])
  · have hc:=sU s
    simp only [dL.l0,dL.b0]
    rw [aP (by omega),aK,rJ hk (by omega),ab]
    simp only []
    rw [p7 hk hc.1 hc.2,ab]
    simp only []
    rw [e9 (by rw [show (sY (pH s)).size=4 from rfl];omega),show kP []=⟨#[]⟩ from rfl,jI]
  · have hm:x ∈ h.2.2.1:=by rw [← hx];exact iI (by omega)
    have hz:=(h2 x hm).1.2
    have v1:=bG (x.1.size:Int)
    have v2:=bG x.2.1
    have v3:=bG x.2.2.1
    have v4:=bG x.2.2.2.1
    have v5:=bG x.2.2.2.2.1
    have ih:=ih (s++iv x) (by have:=ye (e:=x);rw [aN];omega)
    simp only [dL.l0,dL.b0]
    rw [aO g1,ac,aH g0 g1,hx]
    simp only [gH hk,ab]
    rw [e9 (by omega),e9 (by rw [aN];omega),e9 (by rw [aN,aN];omega),e9 (by rw [aN,aN,aN];omega),e9 (by rw [aN,aN,aN,aN];omega),e9 (by rw [aN,aN,aN,aN,aN];omega),aD (n:=i+1) (by omega) (by omega)]
    have e:s++gh (x.1.size:Int)++x.1++gh x.2.1++gh x.2.2.1++gh x.2.2.2.1++gh x.2.2.2.2.1=s++iv x:=by
     unfold iv iu
     simp only [ai]
    rw [e,ih]
    rw [show kP (x::rest)=iv x++kP rest from rfl,ai]
def qd (x y:Ty.d aB):Bool:=(seq x.1 y.1)&&((x.2.1==y.2.1)&&((x.2.2.1==y.2.2.1)&&((x.2.2.2.1==y.2.2.2.1)&&(x.2.2.2.2.1==y.2.2.2.2.1))))
def sy:aR→aR→Bool
 | [],[]=>true
 | x::l,y::m=>qd x y&&sy l m
 | _,_=>false
theorem Bq {x y:Ty.d aB}:qd x y=true↔x=y:=by
 unfold qd
 simp only [gN,beq_iff_eq,dr]
 constructor
 · rintro ⟨h1,h2,h3,h4,h5⟩
   obtain ⟨a,b,c,d,e,_⟩:=x
   obtain ⟨a',b',c',d',e',_⟩:=y
   simp only at h1 h2 h3 h4 h5
   subst h1 h2 h3 h4 h5
   rfl
 · rintro rfl;exact ⟨rfl,rfl,rfl,rfl,rfl⟩
theorem tT:∀ {l m:aR},sy l m=true↔l=m
 | [],[]=>⟨fun _=>rfl,fun _=>rfl⟩
 | [],y::m=>⟨fun h=>(by cases h),fun h=>(by cases h)⟩
 | x::l,[]=>⟨fun h=>(by cases h),fun h=>(by cases h)⟩
 | x::l,y::m=>by
  unfold sy
  rw [gN,Bq,tT,List.cons.injEq]
theorem FD:∀ {l m:aR},l.length≠m.length→sy l m=false:=fun {l m} h=>by
 cases c:sy l m with
 | false=>rfl
 | true=>rw [tT.1 c] at h;exact absurd rfl h
theorem tc {α:Type} {l:List α} {i:Nat} (z:α) (h:i<l.length):l.drop i=l.getD i z::l.drop (i+1):=by
 rw [List.drop_eq_getElem_cons h]
 simp [List.getD,h]
theorem wk {k:Nat} (hk:2 ^ 50≤k) {l m:aR} (hl:l.length≤1073741824):ez.f k l m=some (sy l m,()):=by
 unfold ez.f ez.t
 by_cases hne:l.length=m.length
 · rw [show ((l.length:Int) != (m.length:Int))=false by rw [hne];simp,aK]
   refine (JZ (L:=fun n i (_:Unit)=>ez.l0 k n l m i) (R:=fun i _=>some (sy (l.drop i.toNat) (m.drop i.toNat),())) l.length (fun _ _=>True) (fun n _ _=>?_) (fun n i _ h0 h1 _ ih=>?_) k 0 () (by omega) (by omega) (by omega) trivial).trans (by simp)
   · simp only [ez.l0,ez.b0]
     rw [aP (by omega),aK,nt,List.drop_length,hne,List.drop_length]
     rfl
   · have ih:=ih () trivial
     have c1:i.toNat<l.length:=by omega
     simp only [ez.l0,ez.b0]
     rw [aO h1,ac,aH h0 h1,aH h0 (by omega),aD (n:=i+1) (by omega) (by omega),ih,tc (Ty.z aB) c1,tc (Ty.z aB) (l:=m) (i:=i.toNat) (by omega),show (i+1).toNat=i.toNat+1 by omega]
     show _=some (qd _ _&&sy _ _,())
     show (bif !(qd (l.getD i.toNat (Ty.z aB)) (m.getD i.toNat (Ty.z aB))) then _ else _)=_
     cases qd (l.getD i.toNat (Ty.z aB)) (m.getD i.toNat (Ty.z aB)) <;> rfl
 · rw [show ((l.length:Int) != (m.length:Int))=true from bne_iff_ne.2 (by omega),ac,FD hne]
def nc (mark:Int) (p:Option (Ty.d c_)) (x:Ty.d c_):Bool :=
 (x.2.2.1.1==4)&&(!decide ((x.2.2.1.2.1:Int) > mark)&&(match p with | none=>true | some y=>mh y.2.2.1.2.2.1 x.2.2.1.2.2.1))
def BN (id:Int) (x:Ty.d c_):Ty.d aB:=(x.2.2.1.2.2.1,(id,(x.1,(x.2.1,(x.2.2.1.2.1,())))))
noncomputable def fq (id:Int) (s:ByteArray):Ty.d gW × Bool :=
 bif (az s).2 != (s.size:Int) then (o_,false) else bif (az s).1.length==0 then (o_,false) else
 bif ((az s).1.getD ((az s).1.length-1) (Ty.z c_)).2.2.1.1 != 5 then (o_,false) else
 bif !decide ((1:Int)≤id∧id≤100000) then (o_,false) else
 bif !nC (nc ((az s).1.getD ((az s).1.length-1) (Ty.z c_)).2.2.1.2.1) none ((az s).1.take ((az s).1.length-1)) then (o_,false) else
 bif !gO ((az s).1.getD ((az s).1.length-1) (Ty.z c_)).2.2.1 (b9 id ((az s).1.take ((az s).1.length-1))) then (o_,false) else
 (((s.size:Int),(((az s).1.getD ((az s).1.length-1) (Ty.z c_)).2.2.1.2.1,(((az s).1.take ((az s).1.length-1)).map (BN id),()))),true)
theorem uf (id:Int):seq (a_ aF id) ⟨#[]⟩=!decide ((1:Int)≤id∧id≤100000):=by
 by_cases h:(1:Int)≤id∧id≤100000
 · rw [aO h]
   have e:a_ aF id=aF++gQ id:=by unfold a_;rw [aO h];rfl
   rw [e,kK fun q=>?_]
   · rfl
   · have:=congrArg ByteArray.size q
     rw [aN] at this
     have s3:aF.size=3:=rfl
     have s0:(⟨#[]⟩:ByteArray).size=0:=rfl
     omega
 · rw [aP h]
   have e:a_ aF id=⟨#[]⟩:=by unfold a_;rw [aP h];rfl
   rw [e,bX]
   rfl
theorem r_ {k:Nat} (hk:2 ^ 50≤k) (id:Int) {s:ByteArray} (hs:s.size≤1073741823):dV.f k id s=some ((fq id s).1,((fq id s).2,())):=by
 have hln:=j3 s
 unfold dV.f dV.t fq
 rw [mE hk (by omega),ab]
 simp only []
 generalize az s=sc at hln ⊢
 obtain ⟨l,en⟩:=sc
 simp only at hln ⊢
 cases en != (s.size:Int) with
 | true=>rfl
 | false =>
  simp only [aK]
  by_cases h0:l.length=0
  · rw [show ((l.length:Int)==0)=true by rw [h0];rfl,show (l.length==0)=true by rw [h0];rfl]
    rfl
  · rw [show ((l.length:Int)==0)=false from mF (by omega),show (l.length==0)=false from mF h0]
    simp only [aK]
    have w1:aJ ((l.length:Int)-1)=((l.length-1:Nat):Int):=by rw [aD (by omega) (by omega)];omega
    rw [w1,nt,aH (by omega) (by omega),aH (by omega) (by omega)]
    generalize hm:l.getD (l.length-1) (Ty.z c_)=m
    cases m.2.2.1.1 != 5 with
    | true=>rfl
    | false =>
     simp only [aK]
     rw [bU hk,ab]
     simp only [uf]
     cases decide ((1:Int)≤id∧id≤100000) with
     | false=>rfl
     | true =>
      simp only [fh,aK]
      have hpl:(l.take (l.length-1)).length=l.length-1:=by rw [List.length_take];omega
      refine (pn (L:=fun n i=>dV.l0 k n id i [] 0 0 l ((l.take i.toNat).map (BN id)) (s.size:Int) m.2.2.1.2.1 ((l.take i.toNat).map fun x=>x.2.2.1)) (Ty.z c_) (l.take (l.length-1)) (nc m.2.2.1.2.1)
       (bif !gO m.2.2.1 (b9 id (l.take (l.length-1))) then some (o_,(false,())) else some (((s.size:Int),(m.2.2.1.2.1,((l.take (l.length-1)).map (BN id),()))),(true,()))) (some (o_,(false,()))) (fun n=>?_) (fun n x h hx=>?_) (fun n i x y h0 h1 hx hy=>?_) (n:=k) (by omega)).trans (by
        cases nC (nc m.2.2.1.2.1) none (l.take (l.length-1)) <;> cases gO m.2.2.1 (b9 id (l.take (l.length-1))) <;> rfl)
      · simp only [dV.l0,dV.b0]
        rw [hpl,nt,aD (n:=((l.length-1:Nat):Int)+1) (by omega) (by omega),aP (by omega),aK,w1,nt,aH (by omega) (by omega),hm,oy hk (by rw [List.length_map,hpl];omega),ab,List.length_map,hpl]
        unfold gO b9 bne
        rw [List.length_map,hpl,List.map_map]
        show (bif !(m.2.2.1.2.2.2.2.1==((l.length-1:Nat):Int)) then _ else bif !(m.2.2.1.2.2.2.2.2.1==uo ((l.take (l.length-1)).map fun x=>x.2.2.1)) then _ else _)=bif !((m.2.2.1.2.2.2.2.1==((l.length-1:Nat):Int))&&(m.2.2.1.2.2.2.2.2.1==uo ((l.take (l.length-1)).map fun x=>x.2.2.1))) then _ else _
        cases m.2.2.1.2.2.2.2.1==((l.length-1:Nat):Int) <;> cases m.2.2.1.2.2.2.2.2.1==uo ((l.take (l.length-1)).map fun x=>x.2.2.1) <;> rfl
      · rw [hpl] at h
        have hx':l.getD 0 (Ty.z c_)=x:=by rw [← hx,show Int.toNat 0=0 from rfl,mW (by omega)]
        simp only [dV.l0,dV.b0]
        rw [aD (n:=(0:Int)+1) (by omega) (by omega),aO (by omega),ac,aH (by omega) (by omega),show Int.toNat 0=0 from rfl,hx',aP (show ¬ (0:Int) > 0 by omega),aK,cD (by simp) (by decide),aH (by omega) (by omega),aH (by omega) (by omega),cD (by simp) (by decide),show Int.toNat 1=0+1 from rfl,me (z:=Ty.z c_) (show 0<l.length by omega),hx']
        simp only [nc,bne]
        cases x.2.2.1.1==4 <;> cases decide ((x.2.2.1.2.1:Int) > m.2.2.1.2.1) <;> rfl
      · rw [hpl] at h1
        have hx':l.getD i.toNat (Ty.z c_)=x:=by rw [← hx,mW (by omega)]
        have hy':l.getD (i-1).toNat (Ty.z c_)=y:=by rw [← hy,mW (by omega)]
        simp only [dV.l0,dV.b0]
        rw [aD (n:=i+1) (by omega) (by omega),aO (by omega),ac,aH (by omega) (by omega),hx',aO (show i > 0 by omega),aD (n:=i-1) (by omega) (by omega),aH (by omega) (by omega),hy',lT,cD (by rw [List.length_map,List.length_take];omega) (by decide),aH (by omega) (by omega),aH (by omega) (by omega),cD (by rw [List.length_map,List.length_take];omega) (by decide),show (i+1).toNat=i.toNat+1 by omega,me (z:=Ty.z c_) (show i.toNat<l.length by omega),hx',List.map_append,List.map_append]
        simp only [nc,bne]
        cases x.2.2.1.1==4 <;> cases decide ((x.2.2.1.2.1:Int) > m.2.2.1.2.1) <;> cases mh y.2.2.1.2.2.1 x.2.2.1.2.2.1 <;> rfl
noncomputable def mY (id:Int) (s:ByteArray) (h:Ty.d gW):Bool:=(fq id s).2&&(((fq id s).1.1==h.1)&&(((fq id s).1.2.1==h.2.1)&&sy (fq id s).1.2.2.1 h.2.2.1))
theorem Cz (id:Int) {s:ByteArray} (hs:s.size≤1073741823):(fq id s).1.2.2.1.length≤1073741824:=by
 have hln:=j3 s
 unfold fq
 generalize az s=sc at hln ⊢
 obtain ⟨l,en⟩:=sc
 simp only at hln ⊢
 cases en != (s.size:Int)
 · cases l.length==0
   · cases (l.getD (l.length-1) (Ty.z c_)).2.2.1.1 != 5
     · cases !decide ((1:Int)≤id∧id≤100000)
       · cases !nC (nc (l.getD (l.length-1) (Ty.z c_)).2.2.1.2.1) none (l.take (l.length-1))
         · cases !gO (l.getD (l.length-1) (Ty.z c_)).2.2.1 (b9 id (l.take (l.length-1)))
           · show ((l.take (l.length-1)).map (BN id)).length≤1073741824
             rw [List.length_map,List.length_take]
             omega
           · exact Nat.zero_le _
         · exact Nat.zero_le _
       · exact Nat.zero_le _
     · exact Nat.zero_le _
   · exact Nat.zero_le _
 · exact Nat.zero_le _
theorem ue {k:Nat} (hk:2 ^ 50≤k) (id:Int) {s:ByteArray} (hs:s.size≤1073741823) (h:Ty.d gW):gK.f k id s h=some (mY id s h,()):=by
 have hl:=Cz id hs
 unfold gK.f gK.t mY
 rw [r_ hk id hs,ab]
 simp only []
 rw [wk hk hl,ab]
 cases (fq id s).2 <;> cases (fq id s).1.1==h.1 <;> cases (fq id s).1.2.1==h.2.1 <;> rfl
end Go.Proofs.YtnpijgnfpdcjbaaGreatDoor.G
namespace Go.V
def je {α:Type} (o:Option α) (P:α→Prop):Prop:=∃ r,o=some r∧P r
section
variable {α β:Type} {P P':α→Prop} {Q:β→Prop}
theorem ae {r:α} (h:P r):je (some r) P:=⟨r,rfl,h⟩
theorem Cy {o:Option α} {r:α} (e:o=some r) (h:P r):je o P:=⟨r,e,h⟩
theorem K4 {o:Option α} {r:α} (h:je o (fun x=>x=r)):o=some r:=by
 obtain ⟨x,e,rfl⟩:=h
 exact e
theorem oN {o:Option α} (h:je o P) (hp:∀ r,P r→P' r):je o P':=by
 obtain ⟨r,e,hr⟩:=h
 exact ⟨r,e,hp r hr⟩
theorem bA {o:Option α} {g:α→Option β} (h:je o P) (hg:∀ r,P r→je (g r) Q):je (Option.bind o g) Q:=by
 obtain ⟨r,e,hr⟩:=h
 rw [e]
 exact hg r hr
theorem bP {o:Option α} {r:α} {g:α→Option β} (e:o=some r) (hg:je (g r) Q):je (Option.bind o g) Q:=by
 rw [e]
 exact hg
theorem b8 {b:Bool} {x y:Option α} (h1:b=true→je x P) (h2:b=false→je y P):je (bif b then x else y) P:=by
 cases b
 · exact h2 rfl
 · exact h1 rfl
theorem kE {b:Bool} {x y:Option α} (hb:b=true) (h:je x P):je (bif b then x else y) P:=by rw [hb];exact h
theorem ky {b:Bool} {x y:Option α} (hb:b=false) (h:je y P):je (bif b then x else y) P:=by rw [hb];exact h
theorem g9 {i n:Int} {x:Option α} (h0:0≤i) (h1:i<n) (h:je x P):je (bF i n x) P:=by rw [aH h0 h1];exact h
theorem zy {i n:Int} {x:Option α} (h0:0≤i) (h1:i≤n) (h:je x P):je (pJ i n x) P:=by rw [cN h0 h1];exact h
theorem oR {b n:Nat} {x:Option α} (h0:n≤1099511627776) (hb:b≤128) (h:je x P):je (rm b n x) P:=by rw [cD h0 hb];exact h
end
end Go.V
namespace Go.Proofs.YtnpijgnfpdcjbaaGreatDoor.G
open Go.V
noncomputable def hZ (s:ByteArray):Ty.d gW × Bool:=nq (fun h=>lM h=true) cw o_ s
def RH (s:ByteArray) (o:Option (Ty.d gW × Bool × Unit)):Prop:=(∃ h,lM h=true∧cw h=s∧o=some (h,(true,())))∨o=some (o_,(false,()))
theorem BV (s:ByteArray):RH s (some (o_,(false,()))) := .inr rfl
theorem GA {s:ByteArray} (hs:4≤s.size) (h:Ty.d gW):RH s (bif !seq (cw h) s then some (o_,(false,())) else some (h,(true,()))):=by
 cases c:seq (cw h) s with
 | false=>exact .inr rfl
 | true =>
  have e:=dr.1 c
  refine .inl ⟨h,?_,e,rfl⟩
  cases q:lM h with
  | true=>rfl
  | false =>
   unfold cw at e
   rw [if_neg (by rw [q];decide)] at e
   rw [← e] at hs
   exact absurd hs (by decide)
theorem Ff {k:Nat} (hk:2 ^ 50≤k) {s:ByteArray} (hs:s.size≤1073741824) {m:Int} (h0:0≤m) (hm:m≤4):∀ (d n:Nat) (pos j:Int) (out:List Int),j+(d:Int)=m→0≤j→d<n→0≤pos→pos≤s.size→(out.length:Int)=j →
 je (bZ.l0 k n s pos m j out) (fun r=>(r.2.1 = -1∨(pos≤r.2.1∧r.2.1≤(s.size:Int)))∧(r.1.length:Int)=m):=by
 intro d
 induction d with
 | zero =>
  intro n pos j out h1 h2 hn h3 h4 h5
  obtain ⟨n,rfl⟩:∃ q,n=q+1:=⟨n-1,by omega⟩
  simp only [bZ.l0,bZ.b0]
  exact ky (aP (by omega)) (ae ⟨.inr ⟨Int.le_refl _,h4⟩,by show (out.length:Int)=m;omega⟩)
 | succ d ih =>
  intro n pos j out h1 h2 hn h3 h4 h5
  obtain ⟨n,rfl⟩:∃ q,n=q+1:=⟨n-1,by omega⟩
  have hr:=zL (ByteArray.extract s pos.toNat s.size)
  rw [oG] at hr
  simp only [bZ.l0,bZ.b0]
  refine kE (aO (by omega)) (zy h3 h4 (bP (fR hk _) ?_))
  generalize Cv (rv 7 (nb (ByteArray.extract s pos.toNat s.size)))=r at hr
  refine b8 (fun _=>?_) (fun _=>?_)
  · rw [zx h0 (by omega) (by decide)]
    exact ae ⟨.inl rfl,by show ((List.replicate m.toNat _).length:Int)=m;rw [List.length_replicate];omega⟩
  · rw [aD (n:=pos+r.2.1) (by omega) (by omega),aD (n:=j+1) (by omega) (by omega)]
    refine oR (by omega) (by decide) (oN (ih n (pos+r.2.1) (j+1) (out++[r.1]) (by omega) (by omega) (by omega) (by omega) (by omega) (by rw [br];omega)) fun x hx=>⟨?_,hx.2⟩)
    rcases hx.1 with q | q
    · exact .inl q
    · exact .inr ⟨by omega,q.2⟩
theorem C6 {k:Nat} (hk:2 ^ 50≤k) {s:ByteArray} (hs:s.size≤1073741824) {m pos:Int} (h0:0≤m) (hm:m≤4) (h1:0≤pos) (h2:pos≤s.size) :
 je (bZ.f k s pos m) (fun r=>(r.2.1 = -1∨(pos≤r.2.1∧r.2.1≤(s.size:Int)))∧(r.1.length:Int)=m):=by
 unfold bZ.f bZ.t
 exact Ff hk hs h0 hm m.toNat k pos 0 [] (by omega) (by omega) (by omega) h1 h2 rfl
def CB (x:Int):Prop:=0≤x∧x≤1000000
theorem Hw {x:Int} (h:CB x):∃ n:Nat,n<562949953421312∧x=(n:Int)∧gh x=bB n:=by
 obtain ⟨n,rfl⟩:=Int.eq_ofNat_of_zero_le h.1
 have:=h.2
 exact ⟨n,by omega,rfl,dY (by omega)⟩
theorem Bl {k:Nat} (hk:2 ^ 50≤k) {m:Int} (hm:m≤4):∀ (xs:List Int) (pre t:ByteArray) (n:Nat) (j:Int) (out:List Int),(∀ x ∈ xs,CB x)→j+(xs.length:Int)=m→0≤j→xs.length<n→(out.length:Int)≤j→pre.size+((fY xs).size+t.size)≤1073741824 →
 bZ.l0 k n (pre++(fY xs++t)) (pre.size:Int) m j out=some (out++xs,(((pre.size+(fY xs).size:Nat):Int),()))
 | [],pre,t,n,j,out,hx,h1,h2,hn,h3,hz=>by
  obtain ⟨n,rfl⟩:∃ q,n=q+1:=⟨n-1,by omega⟩
  simp only [List.length_nil] at h1
  simp only [bZ.l0,bZ.b0]
  rw [aP (by omega),aK,List.append_nil]
  rfl
 | x::xs,pre,t,n,j,out,hx,h1,h2,hn,h3,hz=>by
  obtain ⟨n,rfl⟩:∃ q,n=q+1:=⟨n-1,by omega⟩
  obtain ⟨a,ha,rfl,hv⟩:=Hw (hx x (jd ..))
  have hva:=ah a
  rw [kJ] at h1 hn
  have e1:fY ((a:Int)::xs)=bB a++fY xs:=by rw [fY,hv]
  rw [e1,aN] at hz
  rw [e1]
  have e2:pre++(bB a++fY xs++t)=pre++bB a++(fY xs++t):=by simp only [ai]
  have ih:=Bl hk hm xs (pre++bB a) t n (j+1) (out++[(a:Int)]) (fun y hy=>hx y (lK _ hy)) (by omega) (by omega) (by omega) (by rw [br];omega) (by rw [aN];omega)
  simp only [bZ.l0,bZ.b0]
  rw [aO (by omega),ac,cN (by omega) (by rw [aN];omega),nt,dj,ai,cO hk ha,ab]
  simp only []
  rw [show (((bB a).size:Int)==0)=false from mF (by omega),aK,cD (by omega) (by decide),tC,aD (by omega) (by omega),aD (n:=j+1) (by omega) (by omega)]
  rw [aN] at ih
  rw [← ai pre,ih,nn,aN,Nat.add_assoc]
  rfl
theorem Dm {k:Nat} (hk:2 ^ 50≤k) {xs:List Int} (pre t:ByteArray) (hx:∀ x ∈ xs,CB x) (hl:xs.length≤4) (hz:pre.size+((fY xs).size+t.size)≤1073741824) :
 bZ.f k (pre++(fY xs++t)) (pre.size:Int) (xs.length:Int)=some (xs,(((pre.size+(fY xs).size:Nat):Int),())):=by
 unfold bZ.f bZ.t
 exact Bl hk (by omega) xs pre t k 0 [] hx (by omega) (by omega) (by omega) (by simp) hz
theorem Kz {k:Nat} (hk:2 ^ 50≤k) {s:ByteArray} (hs:s.size≤1073741824):je (cJ.f k s) (fun r=>r.2.1.size≤s.size):=by
 rcases mn s with ⟨u,t,hu,rfl⟩ | h
 · rw [aN,aN] at hs
   exact Cy (tr hk hu (by rw [aN];omega)) (by show t.size≤_;rw [aN,aN];omega)
 · exact Cy (wo hk (by omega) h) (Nat.zero_le _)
theorem Bu {k:Nat} (hk:2 ^ 50≤k) {s:ByteArray} (h4:4≤s.size) (hs:s.size≤1073741824) (z:aR) (z1 z2 a b:Int) {xs:List Int} (hx:xs.length=3) (hc:xs.getD 2 (Ty.z (.int .i64))≤(20:Int)):∀ (d n:Nat) (pos j:Int) (out:aR),j+(d:Int)=20→0≤j→d<n→0≤pos→pos≤s.size→(out.length:Int)≤j →
 RH s (bI.l0 k n s pos j z z1 z2 xs out a b):=by
 intro d
 induction d with
 | zero =>
  intro n pos j out h1 h2 hn h3 h5 h6
  obtain ⟨n,rfl⟩:∃ q,n=q+1:=⟨n-1,by omega⟩
  simp only [bI.l0,bI.b0]
  rw [aH (by omega) (by omega),aP (show ¬ j<xs.getD 2 (Ty.z (.int .i64)) by omega),aK,kX hk,ab]
  exact GA h4 _
 | succ d ih =>
  intro n pos j out h1 h2 hn h3 h5 h6
  obtain ⟨n,rfl⟩:∃ q,n=q+1:=⟨n-1,by omega⟩
  have hz:=oG s pos.toNat
  simp only [bI.l0,bI.b0]
  rw [aH (by omega) (by omega)]
  by_cases c:j<xs.getD 2 (Ty.z (.int .i64))
  · rw [aO c,ac,cN h3 h5]
    obtain ⟨r2,e2,q2⟩:=Kz hk (s:=ByteArray.extract s pos.toNat s.size) (by omega)
    rw [e2,ab]
    obtain ⟨r3,e3,q3,q4⟩:=C6 hk (s:=r2.2.1) (m:=4) (pos:=0) (by omega) (by omega) (by omega) (by omega) (by omega)
    rw [e3,ab]
    cases r2.2.2.1 with
    | false=>exact BV s
    | true =>
     simp only [fh,aK]
     by_cases c3:r3.2.1<0
     · rw [aO c3];exact BV s
     · rw [aP c3,aK,aH (by omega) (by omega),aH (by omega) (by omega),aH (by omega) (by omega),aH (by omega) (by omega),cD (by omega) (by decide),aD (n:=(s.size:Int)-(r2.2.1.size:Int)) (by omega) (by omega),aD (n:=(s.size:Int)-(r2.2.1.size:Int)+r3.2.1) (by omega) (by omega),aD (n:=j+1) (by omega) (by omega)]
       exact ih n _ (j+1) _ (by omega) (by omega) (by omega) (by omega) (by omega) (by rw [br];omega)
  · rw [aP c,aK,kX hk,ab]
    exact GA h4 _
theorem Cc {k:Nat} (hk:2 ^ 50≤k) {s:ByteArray} (hs:s.size≤1073741824):RH s (bI.f k s):=by
 unfold bI.f bI.t
 by_cases h4:(s.size:Int)<4
 · rw [aO h4];exact BV s
 · rw [aP h4,aK]
   obtain ⟨r,e,q1,q2⟩:=C6 hk (s:=s) (m:=3) (pos:=4) hs (by omega) (by omega) (by omega) (by omega)
   rw [e,ab]
   by_cases c1:r.2.1<0
   · rw [aO c1];exact BV s
   · rw [aP c1,aK,aH (by omega) (by omega)]
     by_cases c2:r.1.getD 2 (Ty.z (.int .i64)) > (20:Int)
     · rw [aO c2];exact BV s
     · rw [aP c2,aK,aH (by omega) (by omega),aH (by omega) (by omega)]
       exact Bu hk (by omega) hs [] 0 0 _ _ (by omega) (Int.not_lt.1 c2) 20 k r.2.1 0 [] (by omega) (by omega) (by omega) (by omega) (by omega) (by simp)
theorem HS {e:Ty.d aB} {l:aR} (hl:oA l=true) (ho:zR l=true) (he:e ∈ l):∀ x ∈ [(e.2.1:Int),e.2.2.1,e.2.2.2.1,e.2.2.2.2.1],CB x:=by
 obtain ⟨_,q⟩:=km hl
 obtain ⟨_,⟨a1,a2⟩,b1,⟨c1,c2⟩,⟨d1,d2⟩⟩:=q e he
 have h2:=List.all_eq_true.1 ho e he
 unfold EF at h2
 rw [gN] at h2
 have b2:LE.le (α:=Int) e.2.2.1 100000:=by
  refine Int.not_lt.1 fun w=>?_
  have:(!decide ((e.2.2.1:Int) > 100000))=false:=by rw [aO w];rfl
  rw [this] at h2
  cases h2.2
 intro x hx
 simp only [List.mem_cons,List.not_mem_nil,or_false] at hx
 rcases hx with rfl | rfl | rfl | rfl
 · exact ⟨by omega,by omega⟩
 · exact ⟨b1,by omega⟩
 · exact ⟨by omega,by omega⟩
 · exact ⟨by omega,d2⟩
theorem Fi (e:Ty.d aB) (h:e.1.size≤8) (t:ByteArray):iv e++t=bB e.1.size++(e.1++(fY [(e.2.1:Int),e.2.2.1,e.2.2.2.1,e.2.2.2.2.1]++t)):=by
 unfold iv iu
 rw [dY (by omega)]
 simp only [fY,jI,ai]
theorem xF {k:Nat} (hk:2 ^ 50≤k) {h:Ty.d gW} (q:lM h=true) (z:aR) (z1 z2:Int):∀ (r:aR) (pre:ByteArray) (n:Nat) (j:Int) (out:aR),(∀ e ∈ r,e ∈ h.2.2.1)→out++r=h.2.2.1→(out.length:Int)=j→r.length<n→cw h=pre++kP r→pre.size≤1000 →
 bI.l0 k n (cw h) (pre.size:Int) j z z1 z2 [(h.1:Int),h.2.1,(h.2.2.1.length:Int)] out h.1 h.2.1=some (h,(true,()))
 | [],pre,n,j,out,hr,ho,hj,hn,hs,hp=>by
  obtain ⟨n,rfl⟩:∃ q,n=q+1:=⟨n-1,by omega⟩
  rw [List.append_nil] at ho
  simp only [bI.l0,bI.b0]
  rw [aH (by omega) (by simp),show List.getD [(h.1:Int),h.2.1,(h.2.2.1.length:Int)] 2 (Ty.z (.int .i64))=(h.2.2.1.length:Int) from rfl,ho,aP (by rw [← hj,ho];omega),aK,show (h.1,(h.2.1,(h.2.2.1,())))=h from rfl,kX hk,ab]
  simp only [bX]
  rfl
 | e::r,pre,n,j,out,hr,ho,hj,hn,hs,hp=>by
  obtain ⟨n,rfl⟩:∃ q,n=q+1:=⟨n-1,by omega⟩
  have hlen:h.2.2.1.length=out.length+(r.length+1):=by rw [← ho,u7,kJ]
  have he:=hr e (jd ..)
  have hd:=o6 q
  have h1:zR h.2.2.1=true:=by unfold lM at q;rw [gN,gN,gN] at q;exact q.2.2.2
  have hk8:=((km hd).2 e he).1.2
  have h20:=(km hd).1
  have hnum:=HS hd h1 he
  have hz:=nY h
  have hf:=Fi e hk8 (kP r)
  have hs2:cw h=pre++(bB e.1.size++(e.1++(fY [(e.2.1:Int),e.2.2.1,e.2.2.2.1,e.2.2.2.2.1]++kP r))):=by rw [← hf];exact hs
  have hs3:cw h=(pre++iv e)++kP r:=by rw [ai];exact hs
  have hsz:=congrArg ByteArray.size hs2
  simp only [aN] at hsz
  have hsz3:=congrArg ByteArray.size hs3
  rw [aN,aN] at hsz3
  have ih:=xF hk q z z1 z2 r (pre++iv e) n (j+1) (out++[e]) (fun x hx=>hr x (lK _ hx)) (by rw [nn];exact ho) (by rw [br];omega) (by rw [kJ] at hn;omega) hs3 (by rw [aN];omega)
  have hv:=Dm hk (xs:=[(e.2.1:Int),e.2.2.1,e.2.2.2.1,e.2.2.2.2.1]) ⟨#[]⟩ (kP r) hnum (by simp) (by rw [e0];omega)
  rw [nU,e0] at hv
  simp only [bI.l0,bI.b0]
  rw [aH (by omega) (by simp),show List.getD [(h.1:Int),h.2.1,(h.2.2.1.length:Int)] 2 (Ty.z (.int .i64))=(h.2.2.1.length:Int) from rfl,aO (by omega),ac,cN (by omega) (by omega),nt]
  have ex:ByteArray.extract (cw h) pre.size (cw h).size=bB e.1.size++(e.1++(fY [(e.2.1:Int),e.2.2.1,e.2.2.2.1,e.2.2.2.2.1]++kP r)):=by rw [hs2,dj]
  rw [ex,tr hk (by omega) (by simp only [aN];omega),ab]
  simp only []
  rw [show bZ.f k (fY [(e.2.1:Int),e.2.2.1,e.2.2.2.1,e.2.2.2.2.1]++kP r) 0 4=_ from hv,ab]
  simp only [fh,aK]
  rw [aP (by omega),aK,aH (by omega) (by simp),aH (by omega) (by simp),aH (by omega) (by simp),aH (by omega) (by simp),cD (by omega) (by decide),aD (n:=j+1) (by omega) (by omega)]
  have hsv:(fY [(e.2.1:Int),e.2.2.1,e.2.2.2.1,e.2.2.2.2.1]++kP r).size=(fY [(e.2.1:Int),e.2.2.1,e.2.2.2.1,e.2.2.2.2.1]).size+(kP r).size:=aN _ _
  have w:aJ (aJ (((cw h).size:Int)-((fY [(e.2.1:Int),e.2.2.1,e.2.2.2.1,e.2.2.2.2.1]++kP r).size:Int))+((0+(fY [(e.2.1:Int),e.2.2.1,e.2.2.2.1,e.2.2.2.2.1]).size:Nat):Int))=((pre++iv e).size:Int):=by
   have hpe:=aN pre (iv e)
   rw [aD (n:=((cw h).size:Int)-_) (by omega) (by omega),aD (by omega) (by omega)]
   omega
  rw [w]
  exact ih
theorem FF {h:Ty.d gW} (q:lM h=true):∀ x ∈ [(h.1:Int),h.2.1,(h.2.2.1.length:Int)],CB x:=by
 have h20:=(km (o6 q)).1
 unfold lM at q
 rw [gN,gN,decide_eq_true_eq,decide_eq_true_eq] at q
 obtain ⟨⟨a1,a2⟩,⟨b1,b2⟩,_⟩:=q
 intro x hx
 simp only [List.mem_cons,List.not_mem_nil,or_false] at hx
 rcases hx with rfl | rfl | rfl
 · exact ⟨a1,by have:LE.le (α:=Int) h.1 100000:=a2;omega⟩
 · exact ⟨b1,b2⟩
 · exact ⟨by omega,by omega⟩
theorem xv {h:Ty.d gW} (q:lM h=true):cw h=sY (pH (rD h))++(fY [(h.1:Int),h.2.1,(h.2.2.1.length:Int)]++kP h.2.2.1):=by
 unfold cw
 rw [if_pos q]
 unfold rD
 simp only [fY,jI,ai]
theorem sH (x:Int):(sY x).size=4:=rfl
theorem Fl {k:Nat} (hk:2 ^ 50≤k) {h:Ty.d gW} (q:lM h=true):bI.f k (cw h)=some (h,(true,())):=by
 have h20:=(km (o6 q)).1
 have hf:=xv q
 have hz:=nY h
 have hsz:=congrArg ByteArray.size hf
 rw [aN,aN,sH] at hsz
 have hv:=Dm hk (xs:=[(h.1:Int),h.2.1,(h.2.2.1.length:Int)]) (sY (pH (rD h))) (kP h.2.2.1) (FF q) (by simp) (by rw [sH];omega)
 rw [← hf,sH] at hv
 unfold bI.f bI.t
 rw [aP (by omega),aK,show bZ.f k (cw h) 4 3=_ from hv,ab]
 simp only []
 rw [aP (by omega),aK,aH (by omega) (by simp),show List.getD [(h.1:Int),h.2.1,(h.2.2.1.length:Int)] 2 (Ty.z (.int .i64))=(h.2.2.1.length:Int) from rfl,aP (by omega),aK,aH (by omega) (by simp),aH (by omega) (by simp)]
 have:=xF hk q [] 0 0 h.2.2.1 (sY (pH (rD h))++fY [(h.1:Int),h.2.1,(h.2.2.1.length:Int)]) k 0 [] (fun e he=>he) rfl rfl (by omega) (by rw [ai];exact hf) (by rw [aN,sH];omega)
 rw [aN,sH] at this
 exact this
theorem pA {k:Nat} (hk:2 ^ 50≤k) {s:ByteArray} (hs:s.size≤1073741824):bI.f k s=some ((hZ s).1,((hZ s).2,())) :=
 qj (fun h h1 h2=>by rw [← h2];exact Fl hk h1) (Cc hk hs)
theorem tD {s:ByteArray}:(hZ s).1.2.2.1.length≤20:=by
 rcases jE (fun h=>lM h=true) cw o_ s with ⟨r,h1,_,e⟩ | e
 · unfold hZ
   rw [e]
   exact (km (o6 h1)).1
 · unfold hZ
   rw [e]
   exact Nat.zero_le _
def lG:Ty.d aE:=((0,([],())),([],(0,(0,(0,())))))
noncomputable def sw (d:Ty.d aA) (x:Int) (last:Bool):Bool:=(aT d (a_ aF x)).2&&(last||!decide ((az (dp d x)).2<((dp d x).size:Int)))
noncomputable def iV (d:Ty.d aA):List Int→Bool
 | []=>true
 | x::l=>sw d x l.isEmpty&&iV d l
noncomputable def wv (d:Ty.d aA) (x:Int):aW:=b9 x (az (dp d x)).1
noncomputable def m4 (d:Ty.d aA):List Int→aW
 | []=>[]
 | x::l=>wv d x++m4 d l
noncomputable def gl (d:Ty.d aA) (x:Int):Ty.d gW:=(hZ (aT d (a_ dG x)).1).1
noncomputable def oh (d:Ty.d aA) (x:Int):Bool:=(aT d (a_ dG x)).2&&((hZ (aT d (a_ dG x)).1).2&&mY x (dp d x) (gl d x))
noncomputable def jq (d:Ty.d aA) (ids:List Int):Ty.d fk :=
 bif oh d (ids.getD 0 0) then eD ((gl d (ids.getD 0 0)).2.2.1,((gl d (ids.getD 0 0)).2.1,(0,()))) (m4 d (ids.drop 1)) else eD ([],(0,(0,()))) (m4 d ids)
noncomputable def Ix (v:Ty.d cY) (en:Int) (g:Ty.d fk) (hi:Int):Ty.d aE:=(v,(g.1,(aJ (g.2.1+1),(en,(hi,())))))
noncomputable def ta (v:Ty.d cY) (en:Int) (x:Ty.d aA) (g:Ty.d fk) (hi:Int):Ty.d aE × RD :=
 bif g.2.2.1 != 0 then (lG,(x,3)) else bif (gm v.2.1 x).2 != 0 then (lG,((gm v.2.1 x).1,iF (gm v.2.1 x).2)) else
 (Ix v en g hi,((gm v.2.1 x).1,0))
noncomputable def qE (v:Ty.d cY) (d:Ty.d aA):Ty.d aE × RD :=
 bif !iV d v.2.1 then (lG,(d,3)) else
 bif (fQ (aZ v.2.1) d).2 != 0 then (lG,((fQ (aZ v.2.1) d).1,iF (fQ (aZ v.2.1) d).2)) else
 ta v (az (dp d (aZ v.2.1))).2 (fQ (aZ v.2.1) d).1 (jq (fQ (aZ v.2.1) d).1 v.2.1) (bif oh (fQ (aZ v.2.1) d).1 (v.2.1.getD 0 0) then v.2.1.getD 0 0 else 0)
def u9:Ty.d cY:=(2,([1],()))
noncomputable def jW (d:Ty.d aA):RD:=gM (gM (gm [] d) fun x=>wz x (a_ aF 1)) (bf u9)
noncomputable def p0 (d:Ty.d aA):Ty.d aE × RD :=
 bif (jW d).2==0 then ((u9,([],(1,(0,(0,()))))),((jW d).1,0)) else (lG,((jW d).1,iF (jW d).2))
noncomputable def ja (d:Ty.d aA):Ty.d aE × RD :=
 bif !gf d then (lG,(d,4)) else bif d.2.2.2.1 then (lG,(d,1)) else
 bif !(aT d dm).2 then p0 d else
 bif !(fM (aT d dm).1).2 then (lG,(d,3)) else qE (fM (aT d dm).1).1 d
def oS (q:Ty.d aE × RD):Ty.d aE × Ty.d aA × Int × Unit:=(q.1,(q.2.1,(q.2.2,())))
theorem Ds {lim:Int}:∀ (l:List Int) (p:Option Int),nC (m7 lim) p l=true→(∀ q,p=some q→∀ x ∈ l,q<x)∧l.Pairwise (fun a b=>a<b)
 | [],p,_=>⟨fun q _ x hx=>(by cases hx),List.Pairwise.nil⟩
 | y::l,p,h=>by
  unfold nC at h
  rw [gN] at h
  obtain ⟨h1,h2⟩:=h
  obtain ⟨a,b⟩:=Ds l (some y) h2
  have hy:∀ q,p=some q→q<y:=fun q hq=>by
   subst hq
   unfold m7 at h1
   rw [gN] at h1
   exact of_decide_eq_true h1.2
  refine ⟨fun q hq x hx=>?_,List.pairwise_cons.2 ⟨a y rfl,b⟩⟩
  rcases List.mem_cons.1 hx with e | e
  · rw [e];exact hy q hq
  · have:=a y rfl x e
    have:=hy q hq
    omega
theorem Fy {v:Ty.d cY} (h:cS v=true):v.2.1.Pairwise (fun a b=>a<b):=by
 unfold cS at h
 rw [gN,gN] at h
 exact (Ds _ _ h.2.2).2
theorem HQ {α:Type} {l m:List α} {n:Nat} {z:α} (h:l.length≤n):(l++m).getD n z=m.getD (n-l.length) z:=by
 simp [List.getD,List.getElem?_append_right h]
theorem ID {ids:List Int} (hp:ids.Pairwise (fun a b=>a<b)) {i:Nat} {x:Int} {rest:List Int} (h:ids.drop i=x::rest):(x==aZ ids)=rest.isEmpty:=by
 have hi:=IG h
 have hlen:=congrArg List.length h
 rw [List.length_drop,kJ] at hlen
 have e:ids=ids.take i++(x::rest):=by rw [← h,List.take_append_drop]
 have hl:aZ ids=(x::rest).getD rest.length 0:=by
  unfold aZ
  have ht:(ids.take i).length=i:=by rw [List.length_take];omega
  conv=>lhs;rw [e]
  rw [HQ (by rw [ht,u7,ht,kJ];omega),ht,u7,ht,kJ]
  congr 1
  omega
 cases rest with
 | nil=>rw [hl];exact beq_self_eq_true x
 | cons y r =>
  rw [hl]
  have hm:(x::y::r).getD (y::r).length 0 ∈ y::r:=by
   show (y::r).getD r.length 0 ∈ y::r
   exact iI (by rw [kJ];omega)
  have hpd:(x::y::r).Pairwise (fun a b=>a<b):=by rw [← h];exact hp.drop
  have:=(List.pairwise_cons.1 hpd).1 _ hm
  exact mF (by omega)
theorem ny {d:Ty.d aA} (h:DR d) (x:Int):(dp d x).size≤100000:=by
 have:=fp d (a_ aF x)
 have h2:=h.use
 have h3:=h.cap1
 unfold dp
 omega
theorem vw {d:Ty.d aA} (h:DR d) (x:Int):(wv d x).length≤100000:=by
 have h1:=ny h x
 have h2:=j3 (dp d x)
 unfold wv
 rw [qF]
 omega
theorem nu {d:Ty.d aA} (h:DR d):∀ l:List Int,(m4 d l).length≤100000*l.length
 | []=>Nat.zero_le _
 | x::l=>by
  have h1:=vw h x
  have h2:=nu h l
  unfold m4
  rw [u7,kJ]
  omega
theorem zr {k:Nat} (hk:2 ^ 50≤k) {d:Ty.d aA} (h:DR d):fy.f k d=some (oS (p0 d)):=by
 have h1:=q7 [] d h
 have hv:cS u9=true:=by decide
 unfold fy.f fy.t p0 jW
 rw [s7 hk h (by decide),ab]
 simp only [show ((0,(([]:List Int),())):Ty.d cY).2.1=[] from rfl]
 generalize gm [] d=r at h1 ⊢
 unfold gM
 simp only [bne,iD]
 cases c:r.2==0 with
 | false=>simp only [tn,ac,aK,c];rfl
 | true =>
  simp only [fh,aK,ac]
  rw [bU hk,ab]
  simp only []
  have hn:=uQ (.inl rfl:aF=aF∨aF=dG) 1
  rw [rj hk h1.sz (by omega),ab]
  simp only [cv,ab]
  cases c2:(wz r.1 (a_ aF 1)).2==0 with
  | false=>simp only [tn,ac,aK,c2];rfl
  | true =>
   simp only [fh,aK,ac]
   rw [show ((2,([1],())):Ty.d cY)=u9 from rfl,n7 hk (zX h1 _) hv,ab]
   simp only [iD]
   cases c3:(bf u9 (wz r.1 (a_ aF 1)).1).2==0 <;> rfl
def I4 (k:Nat) (v:Ty.d cY) (en:Int) (x:Ty.d aA) (hi:Int) (dir:aR) (la:Int) (pl:aW):Option (Ty.d aE × Ty.d aA × Int × Unit) :=
 (Option.bind (cB.f k (dir,(la,(0,()))) pl) fun r33=>(bif (r33.1.2.2.1 != 0) then (some (lG,(x,(3,())))) else
 (Option.bind (bj.f k x v) fun r34=>(bif (r34.2.1 != 0) then (some (lG,r34)) else (some ((v,(r33.1.1,((aJ (r33.1.2.1+1)),(en,(hi,()))))),(r34.1,(0,()))))))))
theorem Ef {k:Nat} (hk:2 ^ 50≤k) {v:Ty.d cY} (hv:v.2.1.length≤60) (en:Int) {x:Ty.d aA} (h:DR x) (hi:Int) {dir:aR} (hd:dir.length≤1000) (la:Int) {pl:aW} (hp:pl.length≤100000000) :
 I4 k v en x hi dir la pl=some (oS (ta v en x (eD (dir,(la,(0,()))) pl) hi)):=by
 unfold I4 ta
 rw [wU hk _ (by omega) (by show dir.length≤_;omega),ab]
 simp only [bne]
 cases (eD (dir,(la,(0,()))) pl).2.2.1==0 with
 | false=>rfl
 | true =>
  simp only [fh,aK]
  rw [s7 hk h (by omega),ab]
  simp only [iD]
  cases (gm v.2.1 x).2==0 <;> rfl
theorem JV {k:Nat} (hk:2 ^ 50≤k) {v:Ty.d cY} (hv:v.2.1.length≤60) (en:Int) {x:Ty.d aA} (h:DR x) (hi:Int) (dir:aR) (la:Int) :
 ∀ (n:Nat) (i:Int) (pl:aW),0≤i→i≤(v.2.1.length:Int)→(v.2.1.length:Int)-i<n→1≤i∧(pl.length:Int)≤100000*i →
 au.l1 k n i [] [] 0 0 0 0 [] 0 0 false [] [] 0 0 0 0 v.2.1 v.1 x.1 x.2.1 x.2.2.1 x.2.2.2.1 [] v.1 0 en hi dir la 0 pl=I4 k v en x hi dir la (pl++m4 x (v.2.1.drop i.toNat)):=by
 have hl:=h.sz.l
 have hu:=h.sz.u
 have hn:=h.sz.n
 refine GY (L:=fun n i pl=>au.l1 k n i [] [] 0 0 0 0 [] 0 0 false [] [] 0 0 0 0 v.2.1 v.1 x.1 x.2.1 x.2.2.1 x.2.2.2.1 [] v.1 0 en hi dir la 0 pl) (R:=fun r pl=>I4 k v en x hi dir la (pl++m4 x r)) (Ty.z (.int .i64)) v.2.1 (fun i pl=>1≤i∧(pl.length:Int)≤100000*i) (fun n pl hp=>?_) (fun n i pl y rest h0 h1 hy hr hp ih=>?_)
 · simp only [au.l1,au.b1]
   rw [aP (by omega),aK,show m4 x []=[] from rfl,List.append_nil]
   rfl
 · have hs:=ny h y
   have hpl:=vw h y
   have ht:=fp x (a_ dG y)
   have ih:=ih (pl++wv x y) ⟨by omega,by rw [u7];omega⟩
   simp only [au.l1,au.b1]
   rw [aO h1,ac,aH h0 h1,hy,bU hk,ab]
   simp only []
   rw [show (x.1,(x.2.1,(x.2.2.1,(x.2.2.2.1,()))))=x from rfl,gS hk (by omega) (by omega) (by omega),ab,aH h0 h1,iR hk,ab]
   simp only []
   rw [gS hk (by omega) (by omega) (by omega),ab]
   simp only []
   rw [pA hk (by omega),ab,show (i==0)=false from mF (by omega)]
   simp only [aK]
   rw [aH h0 h1,qu hk y (by show (dp x y).size≤_;omega),ab]
   simp only []
   rw [cD (by show pl.length+(wv x y).length≤_;omega) (by decide),aD (n:=i+1) (by omega) (by omega)]
   refine ih.trans ?_
   rw [nn]
   rfl
theorem vL {k:Nat} (hk:2 ^ 50≤k) {v:Ty.d cY} (hv:v.2.1.length≤60) (hv1:1≤v.2.1.length) (en:Int) {x:Ty.d aA} (h:DR x) :
 au.l1 k k 0 [] [] 0 0 0 0 [] 0 0 false [] [] 0 0 0 0 v.2.1 v.1 x.1 x.2.1 x.2.2.1 x.2.2.2.1 [] v.1 0 en 0 [] 0 0 []=some (oS (ta v en x (jq x v.2.1) (bif oh x (v.2.1.getD 0 0) then v.2.1.getD 0 0 else 0))):=by
 have hl:=h.sz.l
 have hu:=h.sz.u
 have hn:=h.sz.n
 obtain ⟨n,hn2⟩:∃ q,k=q+1:=⟨k-1,by omega⟩
 have hs:=ny h (v.2.1.getD 0 0)
 have hpl:=vw h (v.2.1.getD 0 0)
 have ht:=fp x (a_ dG (v.2.1.getD 0 0))
 have hpa:=nu h (v.2.1.drop 1)
 have hpb:=nu h v.2.1
 rw [List.length_drop] at hpa
 have hh:=tD (s:=(aT x (a_ dG (v.2.1.getD 0 0))).1)
 have step:=fun hi dir la pl=>JV hk hv en h hi dir la n 1 pl (by omega) (by omega) (by omega)
 refine (congrArg (fun z=>au.l1 k z 0 [] [] 0 0 0 0 [] 0 0 false [] [] 0 0 0 0 v.2.1 v.1 x.1 x.2.1 x.2.2.1 x.2.2.2.1 [] v.1 0 en 0 [] 0 0 []) hn2).trans ?_
 have hsplit:v.2.1=v.2.1.getD 0 0::v.2.1.drop 1:=by
  have:=tc (0:Int) (l:=v.2.1) (i:=0) (by omega)
  rw [List.drop_zero] at this
  exact this
 simp only [au.l1,au.b1]
 rw [aO (by omega),ac,aH (by omega) (by omega),show List.getD v.2.1 (Int.toNat 0) (Ty.z (.int .i64))=v.2.1.getD 0 0 from rfl,bU hk,ab]
 simp only []
 rw [show (x.1,(x.2.1,(x.2.2.1,(x.2.2.2.1,()))))=x from rfl,gS hk (by omega) (by omega) (by omega),ab,aH (by omega) (by omega),iR hk,ab]
 simp only []
 rw [gS hk (by omega) (by omega) (by omega),ab]
 simp only []
 rw [pA hk (by omega),ab,show ((0:Int)==0)=true from rfl]
 simp only [ac]
 rw [qu hk (v.2.1.getD 0 0) (by show (dp x (v.2.1.getD 0 0)).size≤_;omega),ab]
 simp only []
 rw [cD (by show ([]:aW).length+(wv x (v.2.1.getD 0 0)).length≤_;rw [List.length_nil];omega) (by decide),aD (n:=(0:Int)+1) (by omega) (by omega),aH (by omega) (by omega)]
 rw [show List.getD v.2.1 0 (Ty.z (.int .i64))=v.2.1.getD 0 0 from rfl]
 rw [ue hk _ (by show (dp x (v.2.1.getD 0 0)).size≤_;omega),ab]
 simp only []
 have no:au.l1 k n (0+1) [] [] 0 0 0 0 [] 0 0 false [] [] 0 0 0 0 v.2.1 v.1 x.1 x.2.1 x.2.2.1 x.2.2.2.1 [] v.1 0 en 0 [] 0 0 ([]++b9 (v.2.1.getD 0 0) (az (aT x (a_ aF (v.2.1.getD 0 0))).1).1)=some (oS (ta v en x (eD ([],(0,(0,()))) (m4 x v.2.1)) 0)):=by
  refine (step 0 [] 0 (wv x (v.2.1.getD 0 0)) ⟨by omega,by omega⟩).trans ?_
  rw [show wv x (v.2.1.getD 0 0)++m4 x (v.2.1.drop (Int.toNat 1))=m4 x (v.2.1.getD 0 0::v.2.1.drop 1) from rfl,← hsplit]
  exact Ef hk hv en h 0 (by simp) 0 (by omega)
 unfold jq oh gl
 show (bif (aT x (a_ dG (v.2.1.getD 0 0))).2 then (bif (hZ (aT x (a_ dG (v.2.1.getD 0 0))).1).2 then (bif mY (v.2.1.getD 0 0) (dp x (v.2.1.getD 0 0)) (hZ (aT x (a_ dG (v.2.1.getD 0 0))).1).1 then _ else _) else _) else _)=_
 cases (aT x (a_ dG (v.2.1.getD 0 0))).2 with
 | false=>simp only [aK,Bool.false_and];rw [aH (by omega) (by omega)];exact no
 | true =>
  cases (hZ (aT x (a_ dG (v.2.1.getD 0 0))).1).2 with
  | false=>simp only [aK,ac,Bool.false_and,Bool.true_and];rw [aH (by omega) (by omega)];exact no
  | true =>
   cases mY (v.2.1.getD 0 0) (dp x (v.2.1.getD 0 0)) (hZ (aT x (a_ dG (v.2.1.getD 0 0))).1).1 with
   | false=>simp only [aK,ac,Bool.true_and];rw [aH (by omega) (by omega)];exact no
   | true =>
    simp only [ac,Bool.true_and]
    rw [aH (by omega) (by omega)]
    refine (step (v.2.1.getD 0 0) (hZ (aT x (a_ dG (v.2.1.getD 0 0))).1).1.2.2.1 (hZ (aT x (a_ dG (v.2.1.getD 0 0))).1).1.2.1 [] ⟨by omega,by simp⟩).trans ?_
    rw [List.nil_append,show (1:Int).toNat=1 from rfl]
    exact Ef hk hv en h _ (by omega) _ (by omega)
theorem EY (k:Nat):∀ n,au.l2 k n=au.l1 k n
 | 0=>rfl
 | n+1=>by show au.b2 k (au.l2 k n)=au.b1 k (au.l1 k n);rw [EY k n];rfl
theorem KE {k:Nat} (hk:2 ^ 50≤k) {v:Ty.d cY} (hv:cS v=true) {d:Ty.d aA} (h:DR d) :
 au.l0 k k (aZ v.2.1) 0 d.1 d.2.1 d.2.2.1 d.2.2.2.1 [] [] 0 0 0 0 [] 0 0 false [] [] 0 0 0 0 v.2.1 v.1=some (oS (qE v d)):=by
 obtain ⟨_,_,hv1,hv2,_⟩:=bQ (nx:=v.1) (ids:=v.2.1) hv
 have hrise:=Fy hv
 have hl:=h.sz.l
 have hu:=h.sz.u
 have hn:=h.sz.n
 have hs:=ny h (aZ v.2.1)
 have hsc:=j3 (dp d (aZ v.2.1))
 have hfin:∀ n:Nat,au.l0 k (n+1) (aZ v.2.1) (v.2.1.length:Int) d.1 d.2.1 d.2.2.1 d.2.2.2.1 [] [] 0 0 0 0 [] 0 0 false [] [] 0 0 0 0 v.2.1 v.1 =
  some (oS (bif (fQ (aZ v.2.1) d).2 != 0 then (lG,((fQ (aZ v.2.1) d).1,iF (fQ (aZ v.2.1) d).2)) else ta v (az (dp d (aZ v.2.1))).2 (fQ (aZ v.2.1) d).1 (jq (fQ (aZ v.2.1) d).1 v.2.1) (bif oh (fQ (aZ v.2.1) d).1 (v.2.1.getD 0 0) then v.2.1.getD 0 0 else 0))):=fun n=>by
  simp only [au.l0,au.b0]
  rw [aP (by omega),aK,bU hk,ab]
  simp only []
  rw [show (d.1,(d.2.1,(d.2.2.1,(d.2.2.2.1,()))))=d from rfl,gS hk (by omega) (by omega) (by omega),ab]
  simp only [show (aT d (a_ aF (aZ v.2.1))).1=dp d (aZ v.2.1) from rfl]
  rw [mE hk (by omega),ab,jK k h.sz,ab,EY]
  simp only []
  show (bif decide ((az (dp d (aZ v.2.1))).2<((dp d (aZ v.2.1)).size:Int)) then _ else _)=_
  unfold fQ
  cases decide ((az (dp d (aZ v.2.1))).2<((dp d (aZ v.2.1)).size:Int)) with
  | true =>
   simp only [ac]
   simp only [ab]
   rw [Ca hk h.sz,ab]
   simp only [cv,ab]
   unfold gM
   simp only [bne]
   show (bif !((wF d (a_ aF (aZ v.2.1)) (az (dp d (aZ v.2.1))).2).2==0) then _ else _)=_
   have h1:=xV h (a_ aF (aZ v.2.1)) (az (dp d (aZ v.2.1))).2
   generalize wF d (a_ aF (aZ v.2.1)) (az (dp d (aZ v.2.1))).2=r at h1
   cases c:r.2==0 with
   | false=>simp only [tn,ac,aK,c];rfl
   | true =>
    simp only [fh,aK,ac]
    rw [lW hk h1.sz,ab]
    simp only []
    have h2:=lk h1 (a_ aF (aZ v.2.1))
    generalize fj r.1 (a_ aF (aZ v.2.1))=q at h2
    cases c2:q.2==0 with
    | false=>rfl
    | true =>
     simp only [fh,aK]
     exact vL hk hv2 hv1 _ h2
  | false =>
   simp only [aK]
   simp only [ab]
   rw [lW hk h.sz,ab]
   simp only [cv,ab]
   unfold gM
   simp only [bne,show ((0:Int)==0)=true from rfl,ac]
   have h2:=lk h (a_ aF (aZ v.2.1))
   generalize fj d (a_ aF (aZ v.2.1))=q at h2
   cases c2:q.2==0 with
   | false=>rfl
   | true =>
    simp only [fh,aK]
    exact vL hk hv2 hv1 _ h2
 unfold qE
 refine (e_ (L:=fun n i (_:Unit)=>au.l0 k n (aZ v.2.1) i d.1 d.2.1 d.2.2.1 d.2.2.2.1 [] [] 0 0 0 0 [] 0 0 false [] [] 0 0 0 0 v.2.1 v.1) (R:=fun r _=>bif iV d r then some (oS (bif (fQ (aZ v.2.1) d).2 != 0 then (lG,((fQ (aZ v.2.1) d).1,iF (fQ (aZ v.2.1) d).2)) else ta v (az (dp d (aZ v.2.1))).2 (fQ (aZ v.2.1) d).1 (jq (fQ (aZ v.2.1) d).1 v.2.1) (bif oh (fQ (aZ v.2.1) d).1 (v.2.1.getD 0 0) then v.2.1.getD 0 0 else 0))) else some (oS (lG,(d,3)))) (Ty.z (.int .i64)) v.2.1 (fun _ _=>True) (fun n _ _=>hfin n) (fun n i _ y rest h0 h1 hy hr hp ih=>?_) (n:=k) (s:=()) (by omega) trivial).trans (by cases iV d v.2.1 <;> rfl)
 have ih:=ih () trivial
 have hsy:=ny h y
 have hlast:=ID hrise hr
 simp only [au.l0,au.b0]
 rw [aO h1,ac,aH h0 h1,hy,bU hk,ab]
 simp only []
 rw [show (d.1,(d.2.1,(d.2.2.1,(d.2.2.2.1,()))))=d from rfl,gS hk (by omega) (by omega) (by omega),ab]
 simp only []
 rw [mE hk (by show (dp d y).size≤_;omega),ab,jK k h.sz,ab,aH h0 h1,aD (n:=i+1) (by omega) (by omega),ih]
 rw [show iV d (y::rest)=(sw d y rest.isEmpty&&iV d rest) from rfl]
 unfold sw bne
 rw [hlast]
 show (bif !(aT d (a_ aF y)).2 then _ else bif !rest.isEmpty then (bif decide ((az (dp d y)).2<((dp d y).size:Int)) then _ else _) else _)=_
 cases (aT d (a_ aF y)).2 with
 | false=>rfl
 | true =>
  cases rest.isEmpty with
  | true=>rfl
  | false=>cases decide ((az (dp d y)).2<((dp d y).size:Int)) <;> rfl
theorem BS {k:Nat} (hk:2 ^ 50≤k) {d:Ty.d aA} (hd:AM d):au.f k d=some (oS (ja d)):=by
 have hl:=hd.l
 have hu:=hd.u
 have hn:=hd.n
 unfold au.f au.t ja
 rw [j_ hk (by omega) (by omega),ab,jK k hd]
 cases c:gf d with
 | false=>rfl
 | true =>
  have h:=jP.1 c
  simp only [fh,aK,ab]
  cases cdn:d.2.2.2.1 with
  | true=>rfl
  | false =>
   simp only [aK]
   rw [show (⟨#[108,105,118,101]⟩:ByteArray)=dm from rfl,gS hk (by omega) (by omega) (by omega),ab]
   simp only []
   cases (aT d dm).2 with
   | false =>
    simp only [tn,ac]
    rw [zr hk h]
    rfl
   | true =>
    have hz:=fp d dm
    simp only [fh,aK]
    rw [ud hk (by omega),ab]
    simp only []
    rcases jE (fun v=>cS v=true) cE ((0,([],())):Ty.d cY) (aT d dm).1 with ⟨v,h1,_,e⟩ | e
    · rw [show fM (aT d dm).1=(v,true) from e]
      simp only [fh,aK]
      obtain ⟨_,_,hv1,hv2,_⟩:=bQ (nx:=v.1) (ids:=v.2.1) h1
      have w:aJ ((v.2.1.length:Int)-1)=((v.2.1.length-1:Nat):Int):=by rw [aD (by omega) (by omega)];omega
      rw [w,nt,aH (by omega) (by omega)]
      have:=KE hk h1 h
      rw [cdn] at this
      exact this
    · rw [show fM (aT d dm).1=((0,([],())),false) from e]
      rfl
theorem FV (v:Ty.d cY) (en:Int) {x:Ty.d aA} (h:DR x) {g:Ty.d fk} (hg:g.1.length≤268435456) (hi:Int):DR (ta v en x g hi).2.1∧(ta v en x g hi).1.2.1.length≤268435456:=by
 have hs:=q7 v.2.1 x h
 unfold ta
 cases g.2.2.1 != 0 with
 | true=>exact ⟨h,Nat.zero_le _⟩
 | false =>
  cases (gm v.2.1 x).2 != 0 with
  | true=>exact ⟨hs,Nat.zero_le _⟩
  | false=>exact ⟨hs,hg⟩
theorem F5 {x:Ty.d aA} (h:DR x) {ids:List Int} (hl:ids.length≤60):(jq x ids).1.length≤268435456:=by
 have hpa:=nu h (ids.drop 1)
 have hpb:=nu h ids
 rw [List.length_drop] at hpa
 have hh:=tD (s:=(aT x (a_ dG (ids.getD 0 0))).1)
 unfold jq
 cases oh x (ids.getD 0 0)
 · exact ou (by omega) (by simp)
 · exact ou (by omega) (by show (gl x (ids.getD 0 0)).2.2.1.length≤_;unfold gl;omega)
theorem CN {d:Ty.d aA} (h:DR d):DR (ja d).2.1∧(ja d).1.2.1.length≤268435456:=by
 unfold ja
 rw [jP.2 h]
 simp only [fh,aK]
 cases d.2.2.2.1 with
 | true=>exact ⟨h,Nat.zero_le _⟩
 | false =>
  simp only [aK]
  cases (aT d dm).2 with
  | false =>
   simp only [tn,ac]
   have hf:DR (jW d).1:=im (im (q7 [] d h) fun x hx=>zX hx _) (jp u9)
   unfold p0
   cases (jW d).2==0 with
   | true=>exact ⟨hf,Nat.zero_le _⟩
   | false=>exact ⟨hf,Nat.zero_le _⟩
  | true =>
   simp only [fh,aK]
   rcases jE (fun v=>cS v=true) cE ((0,([],())):Ty.d cY) (aT d dm).1 with ⟨v,h1,_,e⟩ | e
   · rw [show fM (aT d dm).1=(v,true) from e]
     obtain ⟨_,_,hv1,hv2,_⟩:=bQ (nx:=v.1) (ids:=v.2.1) h1
     simp only [fh,aK]
     have fx:=Gh (aZ v.2.1) h
     unfold qE
     cases iV d v.2.1 with
     | false=>exact ⟨h,Nat.zero_le _⟩
     | true =>
      simp only [fh,aK]
      cases (fQ (aZ v.2.1) d).2 != 0 with
      | true=>exact ⟨fx,Nat.zero_le _⟩
      | false=>exact FV v _ fx (F5 fx hv2) _
   · rw [show fM (aT d dm).1=((0,([],())),false) from e]
     exact ⟨h,Nat.zero_le _⟩
theorem HY {d:Ty.d aA} (h:gf d=false):ja d=(lG,(d,4)):=by
 unfold ja
 rw [h]
 rfl
noncomputable def EH (q:Ty.d aE × RD):Ty.d df:=((q.2.2==0),(q.1,(q.2.1,(List.replicate 3 (Ty.z e6),()))))
theorem qx {k:Nat} (hk:2 ^ 50≤k) {d:Ty.d aA} (hd:AM d):dw.f k d=some (EH (ja d),((ja d).2.2,())):=by
 unfold dw.f dw.t
 rw [BS hk hd,ab,zx (by omega) (by omega) (by decide)]
 rfl
theorem B8 (k:Nat) {n:Int} (h0:0≤n) (h1:n≤100000):iS.f k n=some (([],(n,(-1,(false,())))),()):=by
 unfold iS.f iS.t
 rw [fE,ab,aO ⟨h0,h1⟩]
 rfl
def IC (n:Int):Ty.d aA:=([],(n,(-1,(false,()))))
theorem IP {n:Int} (h0:0≤n) (h1:n≤100000):DR (IC n) :=
 ⟨Nat.zero_le _,h0,h1,show LE.le (α:=Int) (-1) (-1) from Int.le_refl _,show LE.le (α:=Int) (-1) 100000 by decide,h0,fun f hf=>(by cases hf),List.Pairwise.nil⟩
theorem CO {st:Ty.d aE} {d:Ty.d aA} {l:lA} (h:SR st (d,0) 100000) (hp:ju l=true) (hd:st.2.1.length≤20) :
 DR (gD st d l).2.1∧(gD st d l).1.1.2.1.length≤60∧(gD st d l).1.2.1.length≤268435456:=by
 have h8:=mf hp
 obtain ⟨g1,g2,g3⟩:=oe (iW l st.2.2.1) (pF st) d [] 100000 ⟨h.live,h.disk,h.lo,h.hi⟩ (by decide)
 unfold gD
 generalize ek (iW l st.2.2.1) (pF st) d []=q at g1 g2 g3 ⊢
 have e2:q.1.1.2.1=st.2.1:=g2
 obtain ⟨_,_,_,hi,_⟩:=bQ (nx:=q.1.1.1.1) (ids:=q.1.1.1.2.1) g1.live
 have hs:=lk g1.disk (cj q.1.1)
 unfold t8
 cases q.1.2.2 != 0 with
 | true=>exact ⟨g1.disk,hi,by show q.1.1.2.1.length≤_;rw [e2];omega⟩
 | false =>
  simp only [aK]
  generalize fj q.1.2.1 (cj q.1.1)=y at hs ⊢
  cases y.2 != 0 with
  | true=>exact ⟨hs,hi,by show q.1.1.2.1.length≤_;rw [e2];omega⟩
  | false =>
   refine ⟨hs,hi,?_⟩
   show (bL q.1.1.2.1 (q.2.take l.length)).length≤_
   have:=oQ (q.2.take l.length) q.1.1.2.1
   rw [e2] at this ⊢
   rw [List.length_take] at this
   omega
theorem As {st:Ty.d aE} {d:Ty.d aA} (l:lA) (hd:DR d) (h1:st.1.2.1.length≤60) (h2:st.2.1.length≤268435456) :
 DR (fm st d l).2.1∧(fm st d l).1.1.2.1.length≤60∧(fm st d l).1.2.1.length≤268435456:=by
 unfold fm
 cases c1:d9 st d with
 | false=>exact ⟨hd,h1,h2⟩
 | true =>
  simp only [fh,aK]
  cases c2:ju l with
  | false=>exact ⟨hd,h1,h2⟩
  | true =>
   simp only [fh,aK]
   cases (l.length:Int)==0 with
   | true=>exact ⟨hd,h1,h2⟩
   | false =>
    cases decide (lX st.2.1 l > 20) with
    | true=>exact ⟨hd,h1,h2⟩
    | false =>
     cases decide (st.2.2.1 > (1000000:Int)) with
     | true=>exact ⟨hd,h1,h2⟩
     | false=>exact CO (eW c1).1 c2 (eW c1).2.1
def Kl (l:aR):Prop:=∀ e ∈ l,LE.le (α:=Int) 0 e.2.2.2.1
theorem E7 {l:aR} {e x:Ty.d aB} (h:x ∈ pZ l e):x=e∨x ∈ l:=by
 unfold pZ at h
 rcases List.mem_append.1 h with w | w
 · exact .inr (List.takeWhile_subset _ w)
 · rcases List.mem_cons.1 w with w | w
   · exact .inl w
   · exact .inr (List.dropWhile_subset _ w)
structure IV (q:Ty.d aE × RD):Prop where
 disk:DR q.2.1
 ids:q.1.1.2.1.length≤60
 dir:q.1.2.1.length≤268435456
 non:Kl q.1.2.1
 sum:qw q.1.2.1≤(rY q.2.1 q.1.1.2.1:Int)
def zo (l:iE) (mark:Int):Int:=((aX (jX l mark)).size:Int)
theorem uD (r:Ty.d b7) (l:j7):(aX (r::l)).size=(aQ (aG r)).size+(aX l).size:=by rw [aX,ByteArray.size_append]
theorem oa {st:Ty.d aE} {d:Ty.d aA} (c:d9 st d=true):st.2.1.length≤20:=by
 unfold d9 oA at c
 simp only [gN,decide_eq_true_eq] at c
 omega
def vM (nm:ByteArray):j7→RD→RD
 | [],r=>r
 | x::l,r=>vM nm l (gM r fun y=>iH y nm (aQ (aG x)))
def fP (m:Int) (l:iE) (mark:Int) (d:Ty.d aA):RD:=gM (vM (a_ aF m) (jX l mark) (bM (a_ aF m) d)) fun y=>fj y (a_ aF m)
def kw (m:Int):iE→Int→aR
 | [],_=>[]
 | p::l,at_=>(p.1,(m,(at_,(aw (bD p),(p.2.2.1,())))))::kw m l (at_+aw (bD p))
def kf (ns:List ByteArray) (r:RD):RD:=bif r.2==2 then ((eh ns r.1).1,bif (eh ns r.1).2==0 then 2 else iF (eh ns r.1).2) else r
def jJ (m:Int):List ByteArray:=[iK,a_ aF m,a_ aF (m+1),a_ dG m]
def sA:List Int→Ty.d aA→RD
 | [],d=>(d,0)
 | x::l,d=>gM (eh [a_ aF x,a_ dG x] d) (sA l)
def s9 (st:Ty.d aE):Ty.d aE:=((st.1.1+2,st.1.2),st.2)
def iL (m:Int):Ty.d cY:=(m+2,([m,m+1],()))
def kn (hb:ByteArray→ByteArray) (m:Int) (d:Ty.d aA):RD :=
 bif (l_ (a_ dG m) (hb (aT d (a_ aF m)).1) d).2==2 then eh [a_ dG m] (l_ (a_ dG m) (hb (aT d (a_ aF m)).1) d).1 else l_ (a_ dG m) (hb (aT d (a_ aF m)).1) d
def dP (hb:ByteArray→ByteArray) (st:Ty.d aE) (d:Ty.d aA) (l:iE):Ty.d aE × RD :=
 bif (fP st.1.1 l (st.2.2.1-1) d).2 != 0 then (s9 st,kf (jJ st.1.1) (tl (fP st.1.1 l (st.2.2.1-1) d))) else
 bif (bM (a_ aF (st.1.1+1)) (fP st.1.1 l (st.2.2.1-1) d).1).2 != 0 then (s9 st,kf (jJ st.1.1) (tl (bM (a_ aF (st.1.1+1)) (fP st.1.1 l (st.2.2.1-1) d).1))) else
 bif (kn hb st.1.1 (bM (a_ aF (st.1.1+1)) (fP st.1.1 l (st.2.2.1-1) d).1).1).2 != 0 then (s9 st,tl (kn hb st.1.1 (bM (a_ aF (st.1.1+1)) (fP st.1.1 l (st.2.2.1-1) d).1).1)) else
 bif (bf (iL st.1.1) (kn hb st.1.1 (bM (a_ aF (st.1.1+1)) (fP st.1.1 l (st.2.2.1-1) d).1).1).1).2 != 0 then
  (s9 st,kf (jJ st.1.1) (tl (bf (iL st.1.1) (kn hb st.1.1 (bM (a_ aF (st.1.1+1)) (fP st.1.1 l (st.2.2.1-1) d).1).1).1))) else
 ((iL st.1.1,(kw st.1.1 l 0,(st.2.2.1,(0,(0,()))))),tl (sA st.1.2.1 (bf (iL st.1.1) (kn hb st.1.1 (bM (a_ aF (st.1.1+1)) (fP st.1.1 l (st.2.2.1-1) d).1).1).1).1))
theorem lZ {s:ByteArray} {d:Ty.d aA} (h:(bM s d).2=0):fT (bM s d).1 s=some ByteArray.empty:=by
 unfold bM at h ⊢
 unfold gM at h ⊢
 cases c:(mB s d).2==0 with
 | false =>
  rw [c,aK] at h
  rw [h] at c
  cases c
 | true =>
  rw [c,ac] at h
  rw [ac]
  obtain ⟨c1,c2⟩:=o5 (d:=(mB s d).1) (g:=tf s) h
  unfold fT
  show (bh (ij (mB s d).1 (tf s)).1.1 s).map _=_
  rw [c2]
  unfold tf at c1 ⊢
  cases c3:jo s with
  | false=>rw [c3] at c1;cases c1
  | true =>
   rw [c3] at c1
   simp only [fh,aK] at c1 ⊢
   cases c4:(bh (mB s d).1.1 s) with
   | some f=>rw [c4] at c1;cases c1
   | none =>
    rw [c4] at c1
    simp only [Option.isSome_none,aK] at c1 ⊢
    cases c5:decide (((mB s d).1.1.length:Int)≥130) with
    | true=>rw [c5] at c1;cases c1
    | false =>
     simp only [aK]
     rw [vA (f:=(s,(ByteArray.empty,(0,())))) c4,bX]
     rfl
theorem pR (nm:ByteArray):∀ (l:j7) (r:RD),r.2≠0→vM nm l r=r
 | [],_,_=>rfl
 | x::l,r,h=>by
  unfold vM
  have e:gM r (fun y=>iH y nm (aQ (aG x)))=r:=by
   unfold gM
   rw [mF h]
   rfl
  rw [e]
  exact pR nm l r h
theorem CY (nm:ByteArray):∀ (l:j7) (r:RD) (x:ByteArray),fT r.1 nm=some x→(vM nm l r).2=0→fT (vM nm l r).1 nm=some (x++aX l)
 | [],r,x,h,_=>by
  show fT r.1 nm=some (x++⟨#[]⟩)
  rw [h,show x++(⟨#[]⟩:ByteArray)=x from DF x]
 | a::l,r,x,h,z=>by
  unfold vM at z ⊢
  by_cases c:(gM r (fun y=>iH y nm (aQ (aG a)))).2=0
  · obtain ⟨c1,c2,c3⟩:=iz c
    have c3:(iH r.1 nm (aQ (aG a))).2=0:=c3
    have e:fT (gM r (fun y=>iH y nm (aQ (aG a)))).1 nm=some (x++aQ (aG a)):=by
     rw [c2]
     have:=sI (d:=r.1) (s:=nm) (x:=aQ (aG a))
     rw [c3,h] at this
     exact this
    rw [CY nm l _ _ e z]
    show some (x++aQ (aG a)++aX l)=some (x++(aQ (aG a)++aX l))
    rw [oM]
  · rw [pR nm l _ c] at z
    exact absurd z c
theorem JA {nm t:ByteArray} (h:nm≠t):∀ (l:j7) (r:RD),fT (vM nm l r).1 t=fT r.1 t
 | [],_=>rfl
 | a::l,r=>by
  show fT (vM nm l (gM r fun y=>iH y nm (aQ (aG a)))).1 t=_
  rw [JA h l]
  exact nS rfl fun y=>xB h
theorem Ak {m:Int} {l:iE} {mark:Int} {d:Ty.d aA} {t:ByteArray} (h:a_ aF m≠t):fT (fP m l mark d).1 t=fT d t :=
 nS ((JA h _ _).trans (l9 h)) fun y=>lE
theorem qV {hb:ByteArray→ByteArray} {m:Int} {d:Ty.d aA} {t:ByteArray} (h:a_ dG m≠t):fT (kn hb m d).1 t=fT d t:=by
 unfold kn
 cases (l_ (a_ dG m) (hb (aT d (a_ aF m)).1) d).2==2 with
 | false=>exact za h
 | true =>
  refine (m6 _ _ fun s hs=>?_).trans (za h)
  rw [List.mem_singleton.1 hs]
  exact h
theorem tF {t:ByteArray}:∀ (l:List Int) (d:Ty.d aA),(∀ x ∈ l,a_ aF x≠t∧a_ dG x≠t)→fT (sA l d).1 t=fT d t
 | [],_,_=>rfl
 | x::l,d,h=>by
  show fT (gM (eh [a_ aF x,a_ dG x] d) (sA l)).1 t=_
  refine nS (m6 _ _ fun s hs=>?_) fun y=>tF l y fun z hz=>h z (lK _ hz)
  have:=h x jd
  rcases List.mem_cons.1 hs with e | e
  · rw [e];exact this.1
  · rw [List.mem_singleton.1 e];exact this.2
theorem yd (m:Int):∀ (l:iE) (a:Int),qw (kw m l a)=((aX (l.map bD)).size:Int)∧Kl (kw m l a)
 | [],_=>⟨rfl,fun x hx=>by cases hx⟩
 | p::l,a=>by
  obtain ⟨i1,i2⟩:=yd m l (a+aw (bD p))
  have hr:=ma (bD p)
  refine ⟨?_,fun x hx=>?_⟩
  · show aw (bD p)+qw (kw m l (a+aw (bD p)))=_
    rw [i1,List.map_cons,uD]
    unfold aw
    omega
  · rcases List.mem_cons.1 hx with e | e
    · rw [e];exact hr.1
    · exact i2 x e
theorem kL {x y:Int} (hx:1≤x∧x≤100000) (hy:1≤y∧y≤100000):a_ dG x≠a_ aF y:=fun q=>by
 have e:a_ dG x=dG++gQ x:=by unfold a_;rw [aO hx];rfl
 rw [xY hy,e] at q
 have:=congrArg nb q
 rw [gP,gP] at this
 cases this
theorem FQ {x:Int} (hx:1≤x∧x≤100000):a_ dG x≠dm:=fun q=>by
 have e:a_ dG x=dG++gQ x:=by unfold a_;rw [aO hx];rfl
 rw [e] at q
 have:=congrArg nb q
 rw [gP] at this
 cases this
theorem Hb {s t:ByteArray} {d:Ty.d aA} (z:(l_ s t d).2=0):fT (l_ s t d).1 s=some t:=by
 unfold l_ at z ⊢
 obtain ⟨z1,e1,z2⟩:=iz z
 obtain ⟨z3,e2,z4⟩:=iz z1
 rw [e1,lE,e2]
 have:=sI (d:=(bM s d).1) (s:=s) (x:=t)
 rw [z4,lZ z3] at this
 have this:fT (iH (bM s d).1 s t).1 s=some (ByteArray.empty++t):=this
 rw [this,show (ByteArray.empty:ByteArray)=dB [] from rfl,rQ]
theorem I7 {d:Ty.d aA} {a b:ByteArray} (hd:DR d) (hab:a≠b) (z:(B1 d a b).2=0):fT (B1 d a b).1 b=fT d a:=by
 obtain ⟨c1,c2⟩:=o5 z
 unfold fT
 show (bh (ij d (Bb a b)).1.1 b).map _=_
 rw [c2]
 unfold Bb at c1 ⊢
 cases c3:jo b with
 | false=>rw [c3] at c1;exact absurd c1 (by show (5:Int)≠0;decide)
 | true =>
  rw [c3] at c1
  simp only [fh,aK] at c1 ⊢
  cases c4:bh d.1 a with
  | none=>rw [c4] at c1;exact absurd c1 (by show (3:Int)≠0;decide)
  | some f =>
   simp only []
   rw [kK hab,aK]
   have hk:cW (lL (k6 d.1 a)):=tE (oV _ _) hd.keys
   show (bh (ln (k6 (k6 d.1 a) b) (b,f.2)) b).map _=_
   rw [vA (f:=(b,f.2)) (Ba hk b),bX]
   rfl
theorem zZ {v:Ty.d cY} {d:Ty.d aA} (hd:DR d) (z:(bf v d).2=0):fT (bf v d).1 dm=some (cE v):=by
 unfold bf at z ⊢
 obtain ⟨z1,e1,z2⟩:=iz z
 rw [e1,I7 (nR _ _ _ hd) (by decide) z2,Hb z1]
theorem wB {n:Int} (h0:0≤n) (h1:n≤127):(gh n).size=1:=by
 unfold gh
 rw [if_pos ⟨h0,by omega⟩,← qC (by omega)]
 unfold vl
 rw [if_neg (by omega)]
 rfl
theorem CQ {n:Int} (h0:0≤n) (h1:n≤2097151):(gh n).size≤3:=by
 unfold gh
 rw [if_pos ⟨h0,by omega⟩,← qC (by omega)]
 unfold vl
 split
 · rw [kJ]
   unfold vl
   split
   · rw [kJ]
     unfold vl
     rw [if_neg (by omega)]
     exact Nat.le_refl _
   · show 1+1≤3
     decide
 · show 1≤3
   decide
theorem GH (mark:Int) (l:j7):aw (fJ 5 mark l)≤20:=by
 have key:(aG (fJ 5 mark l)).size≤9:=by
  unfold aG
  by_cases c:bm (fJ 5 mark l)=true
  · rw [if_pos c]
    rcases ly c with ⟨q,_⟩ | ⟨q,_⟩ | ⟨_,_,_,h1,h2,_,_,h3,h4⟩
    · exact absurd q (by show ¬ ((5:Int)=1∨(5:Int)=4);decide)
    · exact absurd q (by show ¬ ((5:Int)=2);decide)
    · rw [if_neg (by show ¬ ((5:Int)=1∨(5:Int)=4);decide),if_neg (by show ¬ ((5:Int)=2);decide),ByteArray.size_append,ByteArray.size_append,ByteArray.size_append,j4]
      have e1:(gh (fJ 5 mark l).1).size=1:=wB (n:=5) (by decide) (by decide)
      have e2:=CQ (n:=(fJ 5 mark l).2.1) h3 (Int.le_trans h4 (by decide))
      have e3:=wB (n:=(fJ 5 mark l).2.2.2.2.1) h1 (Int.le_trans h2 (by decide))
      omega
  · rw [if_neg c]
    exact Nat.zero_le _
 unfold aw aQ
 rw [if_neg (by omega),ByteArray.size_append,j4]
 unfold iu
 rw [ByteArray.size_append,wB (by omega) (by omega)]
 omega
theorem sP (m:Int):∀ (l:iE) (a:Int),(kw m l a).length=l.length
 | [],_=>rfl
 | p::l,a=>by
  show (kw m l (a+aw (bD p))).length+1=_
  rw [sP m l]
  rfl
theorem FK {hb:ByteArray→ByteArray} {st:Ty.d aE} {d:Ty.d aA} {c:Int} {l:iE} (h:IV (st,(d,c))) (hl:cS st.1=true) (hn:LE.le (α:=Int) (st.1.1+2) 100000) (hlen:l.length≤268435456) :
 IV (dP hb st d l)∧((dP hb st d l).2.2=0→(rY (dP hb st d l).2.1 (dP hb st d l).1.1.2.1:Int)=zo l (st.2.2.1-1)∧(rY (dP hb st d l).2.1 (dP hb st d l).1.1.2.1:Int)-qw (dP hb st d l).1.2.1≤20 ∧
  fT (dP hb st d l).2.1 (a_ aF st.1.1)=some (aX (jX l (st.2.2.1-1)))∧fT (dP hb st d l).2.1 (a_ aF (st.1.1+1))=some ByteArray.empty∧(dP hb st d l).1=(iL st.1.1,(kw st.1.1 l 0,(st.2.2.1,(0,(0,()))))) ∧
  fT (dP hb st d l).2.1 dm=some (cE (iL st.1.1))):=by
 obtain ⟨n1,n2,n3,_⟩:=iG (n:=st.1.1) (ids:=st.1.2.1) hl
 have hd:DR d:=h.disk
 have hsum:qw st.2.1≤(rY d st.1.2.1:Int):=h.sum
 have hm:(1:Int)≤st.1.1∧st.1.1≤(100000:Int):=⟨n1,n2⟩
 have hm1:LE.le (α:=Int) 1 (st.1.1+1)∧LE.le (α:=Int) (st.1.1+1) 100000:=⟨by omega,by omega⟩
 have hseg:∀ x:Int,x ∈ st.1.2.1→1≤x∧x≤100000:=fun x hx=>⟨(n3 x hx).1,by have:=(n3 x hx).2;omega⟩
 have no1:∀ x ∈ st.1.2.1,a_ aF st.1.1≠a_ aF x:=fun x hx=>mg hm (hseg x hx) (by have:=(n3 x hx).2;omega)
 have no2:∀ x ∈ st.1.2.1,a_ aF (st.1.1+1)≠a_ aF x:=fun x hx=>mg hm1 (hseg x hx) (by have:=(n3 x hx).2;omega)
 have no3:∀ x ∈ st.1.2.1,a_ dG st.1.1≠a_ aF x:=fun x hx=>kL hm (hseg x hx)
 have no4:a_ aF (st.1.1+1)≠a_ aF st.1.1:=mg hm1 hm (by omega)
 have jump:∀ r:RD,DR r.1→(∀ x ∈ st.1.2.1,fT r.1 (a_ aF x)=fT d (a_ aF x))→IV (s9 st,r):=fun r hr k=>⟨hr,h.ids,h.dir,h.non,by
  show qw st.2.1≤(rY r.1 st.1.2.1:Int)
  rw [yp k]
  exact hsum⟩
 have dropK:∀ (r:RD),DR r.1→(∀ x ∈ st.1.2.1,fT r.1 (a_ aF x)=fT d (a_ aF x))→r.2≠0→IV (s9 st,kf (jJ st.1.1) r)∧(kf (jJ st.1.1) r).2≠0:=fun r hr k hz=>by
  unfold kf
  cases r.2==2 with
  | false=>exact ⟨jump r hr k,hz⟩
  | true =>
   refine ⟨jump _ (ji _ _ hr) fun x hx=>(m6 _ _ fun s hs=>?_).trans (k x hx),?_⟩
   · unfold jJ at hs
     rcases List.mem_cons.1 hs with e | e
     · rw [e];exact gZ (hseg x hx)
     rcases List.mem_cons.1 e with e | e
     · rw [e];exact no1 x hx
     rcases List.mem_cons.1 e with e | e
     · rw [e];exact no2 x hx
     · rw [List.mem_singleton.1 e];exact no3 x hx
   · show (bif (eh (jJ st.1.1) r.1).2==0 then (2:Int) else iF (eh (jJ st.1.1) r.1).2)≠0
     cases q:(eh (jJ st.1.1) r.1).2==0 with
     | true =>
      show (2:Int)≠0
      decide
     | false =>
      intro e
      have:=iD (eh (jJ st.1.1) r.1).2
      rw [q] at this
      simp only [aK] at e
      rw [e] at this
      cases this
 have tlnz:∀ r:RD,(r.2 != 0)=true→(tl r).2≠0:=fun r q e=>by
  have:=wL r
  rw [e,q] at this
  cases this
 have a0:DR (fP st.1.1 l (st.2.2.1-1) d).1:=by
  refine im ?_ fun x hx=>lk hx _
  have:∀ (rs:j7) (r:RD),DR r.1→DR (vM (a_ aF st.1.1) rs r).1:=by
   intro rs
   induction rs with
   | nil=>exact fun r hr=>hr
   | cons x rs ih=>exact fun r hr=>ih _ (im hr fun y hy=>oj hy _ _)
  exact this _ _ (jz _ _ hd)
 have a1:∀ x ∈ st.1.2.1,fT (fP st.1.1 l (st.2.2.1-1) d).1 (a_ aF x)=fT d (a_ aF x):=fun x hx=>Ak (no1 x hx)
 have a2:(fP st.1.1 l (st.2.2.1-1) d).2=0→fT (fP st.1.1 l (st.2.2.1-1) d).1 (a_ aF st.1.1)=some (aX (jX l (st.2.2.1-1))):=fun z=>by
  unfold fP at z ⊢
  obtain ⟨z1,z2,_⟩:=iz z
  rw [z2]
  rw [lE]
  have z0:(bM (a_ aF st.1.1) d).2=0:=by
   by_cases w:(bM (a_ aF st.1.1) d).2=0
   · exact w
   · rw [pR _ _ _ w] at z1
     exact absurd z1 w
  have:=CY (a_ aF st.1.1) (jX l (st.2.2.1-1)) (bM (a_ aF st.1.1) d) ByteArray.empty (lZ z0) z1
  rw [this,show (ByteArray.empty:ByteArray)=dB [] from rfl,rQ]
 unfold dP
 generalize fP st.1.1 l (st.2.2.1-1) d=a at a0 a1 a2 ⊢
 cases ca:a.2 != 0 with
 | true =>
  obtain ⟨g1,g2⟩:=dropK (tl a) a0 a1 (tlnz a ca)
  exact ⟨g1,fun e=>absurd e g2⟩
 | false =>
  have b0:=jz (a_ aF (st.1.1+1)) a.1 a0
  have b1:∀ x ∈ st.1.2.1,fT (bM (a_ aF (st.1.1+1)) a.1).1 (a_ aF x)=fT d (a_ aF x):=fun x hx=>(l9 (no2 x hx)).trans (a1 x hx)
  have b2:=(l9 (d:=a.1) no4).trans (a2 (gn ca))
  have b3:=lZ (s:=a_ aF (st.1.1+1)) (d:=a.1)
  simp only [aK]
  generalize bM (a_ aF (st.1.1+1)) a.1=b at b0 b1 b2 b3 ⊢
  cases cb:b.2 != 0 with
  | true =>
   obtain ⟨g1,g2⟩:=dropK (tl b) b0 b1 (tlnz b cb)
   exact ⟨g1,fun e=>absurd e g2⟩
  | false =>
   have b3:=b3 (gn cb)
   have c0:DR (kn hb st.1.1 b.1).1:=by
    unfold kn
    cases (l_ (a_ dG st.1.1) (hb (aT b.1 (a_ aF st.1.1)).1) b.1).2==2 with
    | true=>exact ji _ _ (nR _ _ _ b0)
    | false=>exact nR _ _ _ b0
   have c1:∀ x ∈ st.1.2.1,fT (kn hb st.1.1 b.1).1 (a_ aF x)=fT d (a_ aF x):=fun x hx=>(qV (no3 x hx)).trans (b1 x hx)
   have c2:=(qV (hb:=hb) (d:=b.1) (kL hm hm)).trans b2
   have c3:=(qV (hb:=hb) (d:=b.1) (kL hm hm1)).trans b3
   simp only [aK]
   generalize kn hb st.1.1 b.1=e at c0 c1 c2 c3 ⊢
   cases ce:e.2 != 0 with
   | true=>exact ⟨jump (tl e) c0 c1,fun z=>absurd z (tlnz e ce)⟩
   | false =>
    have d0:=jp (iL st.1.1) _ c0
    have d1:∀ x ∈ st.1.2.1,fT (bf (iL st.1.1) e.1).1 (a_ aF x)=fT d (a_ aF x):=fun x hx=>(gj (gZ (hseg x hx)) (iX (hseg x hx))).trans (c1 x hx)
    have d2:=(gj (d:=e.1) (v:=iL st.1.1) (gZ hm) (iX hm)).trans c2
    have d3:=(gj (d:=e.1) (v:=iL st.1.1) (gZ hm1) (iX hm1)).trans c3
    have d4:=zZ (v:=iL st.1.1) c0
    simp only [aK]
    generalize bf (iL st.1.1) e.1=f at d0 d1 d2 d3 d4 ⊢
    cases cf:f.2 != 0 with
    | true =>
     obtain ⟨g1,g2⟩:=dropK (tl f) d0 d1 (tlnz f cf)
     exact ⟨g1,fun z=>absurd z g2⟩
    | false =>
     simp only [aK]
     have o0:∀ (ids:List Int) (x:Ty.d aA),DR x→DR (sA ids x).1:=by
      intro ids
      induction ids with
      | nil=>exact fun x hx=>hx
      | cons y ids ih=>exact fun x hx=>im (ji _ _ hx) fun z hz=>ih z hz
     have o2:=(tF st.1.2.1 f.1 fun x hx=>⟨fun q=>no1 x hx q.symm,kL (hseg x hx) hm⟩).trans d2
     have o3:=(tF st.1.2.1 f.1 fun x hx=>⟨fun q=>no2 x hx q.symm,kL (hseg x hx) hm1⟩).trans d3
     have o4:=(tF st.1.2.1 f.1 fun x hx=>⟨fun q=>iX (hseg x hx) q.symm,FQ (hseg x hx)⟩).trans (d4 (gn cf))
     have o1:=o0 st.1.2.1 f.1 d0
     generalize sA st.1.2.1 f.1=o at o1 o2 o3 o4 ⊢
     obtain ⟨l1,l2⟩:=yd st.1.1 l 0
     have hk:=GH (st.2.2.1-1) (l.map bD)
     have hk0:=(ma (fJ 5 (st.2.2.1-1) (l.map bD))).1
     have tot:(rY o.1 [st.1.1,st.1.1+1]:Int)=qw (kw st.1.1 l 0)+aw (fJ 5 (st.2.2.1-1) (l.map bD)):=by
      unfold rY KR
      rw [List.map_cons,List.map_singleton,List.sum_cons,List.sum_singleton,o2,o3,l1]
      simp only [Option.getD_some]
      unfold jX
      rw [nJ,ByteArray.size_append]
      have e1:(aX [fJ 5 (st.2.2.1-1) (l.map bD)]).size=(aQ (aG (fJ 5 (st.2.2.1-1) (l.map bD)))).size:=by rw [uD];rfl
      have e2:(ByteArray.empty:ByteArray).size=0:=rfl
      rw [e1,e2]
      unfold aw
      omega
     have tot0:(rY o.1 [st.1.1,st.1.1+1]:Int)=zo l (st.2.2.1-1):=by
      unfold rY KR zo
      rw [List.map_cons,List.map_singleton,List.sum_cons,List.sum_singleton,o2,o3]
      rfl
     refine ⟨⟨o1,(show 2≤60 by decide),?_,l2,?_⟩,fun _=>⟨tot0,?_,o2,o3,by trivial,o4⟩⟩
     · show (kw st.1.1 l 0).length≤_
       rw [sP]
       exact hlen
     · show qw (kw st.1.1 l 0)≤(rY o.1 [st.1.1,st.1.1+1]:Int)
       omega
     · show (rY o.1 [st.1.1,st.1.1+1]:Int)-qw (kw st.1.1 l 0)≤20
       omega
theorem pq {k:Nat} (hk:2 ^ 50≤k) (st:Ty.d aE) {r:RD} (hd:DR r.1) {m:Int} (h0:1≤m) (h1:m≤100000):dR.f k st r.1 m r.2=some (st,((kf (jJ m) r).1,((kf (jJ m) r).2,()))):=by
 unfold dR.f dR.t kf
 cases c:r.2==2 with
 | false =>
  have:(r.2 != 2)=true:=by unfold bne;rw [c];rfl
  rw [this]
  rfl
 | true =>
  have:(r.2 != 2)=false:=by unfold bne;rw [c];rfl
  rw [this]
  simp only [aK,ac]
  rw [aD (n:=m+1) (by omega) (by omega),bU hk,ab,bU hk,ab,iR hk,ab]
  simp only []
  rw [show ([(⟨#[116,101,109,112]⟩:ByteArray),a_ aF m,a_ aF (m+1),a_ dG m]:List ByteArray)=jJ m from rfl,mS hk hd (by unfold jJ;simp),ab]
  simp only [bne]
  cases q:(eh (jJ m) r.1).2==0 with
  | true=>rw [Hi c];rfl
  | false=>simp only [tn,ac,aK,cv,ab]
theorem zj (k:Nat) (p:Ty.d aL):kA.f k p=some (bD p,()):=rfl
theorem Ct {k:Nat} (hk:2 ^ 50≤k) (ids old:List Int) (dir:aR) (nx b s h:Int) (ho:old.length≤1073741824) {d:Ty.d aA} (hd:DR d) :
 bi.l0 k k 0 ids dir nx b s h [] [] 0 0 0 0 [] 0 0 false d.1 d.2.1 d.2.2.1 d.2.2.2.1 old=some (((nx,(ids,())),(dir,(b,(s,(h,()))))),((tl (sA old d)).1,((tl (sA old d)).2,()))):=by
 refine e_ (L:=fun n i (x:Ty.d aA)=>bi.l0 k n i ids dir nx b s h [] [] 0 0 0 0 [] 0 0 false x.1 x.2.1 x.2.2.1 x.2.2.2.1 old) (R:=fun r x=>(some (((nx,(ids,())),(dir,(b,(s,(h,()))))),((tl (sA r x)).1,((tl (sA r x)).2,()))):bi.Rs))
  (Ty.z (.int .i64)) old (fun _ x=>DR x) (fun n x hx=>?_) (fun n i x y rest h0 h1 hy hr hx ih=>?_) (n:=k) (s:=d) (by omega) hd
 · simp only [bi.l0,bi.b0]
   rw [aP (by omega),aK]
   rfl
 · simp only [bi.l0,bi.b0]
   rw [aO h1,ac,aH h0 h1,hy,bU hk,ab,aH h0 h1,iR hk,ab]
   simp only []
   rw [show (x.1,(x.2.1,(x.2.2.1,(x.2.2.2.1,()))))=x from rfl,mS hk hx (by simp),ab,aD (n:=i+1) (by omega) (by omega)]
   have hz:=ji [a_ aF y,a_ dG y] x hx
   simp only [sA]
   generalize eh [a_ aF y,a_ dG y] x=q at hz ⊢
   unfold gM
   simp only [bne]
   cases c:q.2==0 with
   | false=>simp only [tn,ac,aK,cv,ab];rfl
   | true =>
    simp only [fh,ac,aK]
    exact ih q.1 hz
def zQ (m:Int):iE→RD→aR→Int→aR
 | [],_,dir,_=>dir
 | p::l,r,dir,a=>bif r.2==0 then zQ m l (iH r.1 (a_ aF m) (aQ (aG (bD p)))) (dir++[(p.1,(m,(a,(aw (bD p),(p.2.2.1,())))))]) (a+aw (bD p)) else dir
theorem Df (m:Int):∀ (l:iE) (r:RD) (dir:aR) (a:Int),r.2=0→(vM (a_ aF m) (l.map bD) r).2=0→zQ m l r dir a=dir++kw m l a
 | [],_,dir,_,_,_=>(List.append_nil dir).symm
 | p::l,r,dir,a,h,z=>by
  have e:gM r (fun y=>iH y (a_ aF m) (aQ (aG (bD p))))=iH r.1 (a_ aF m) (aQ (aG (bD p))):=by
   unfold gM
   rw [h]
   rfl
  have z:(vM (a_ aF m) (l.map bD) (gM r fun y=>iH y (a_ aF m) (aQ (aG (bD p))))).2=0:=z
  rw [e] at z
  have z2:(iH r.1 (a_ aF m) (aQ (aG (bD p)))).2=0:=by
   by_cases w:(iH r.1 (a_ aF m) (aQ (aG (bD p)))).2=0
   · exact w
   · rw [pR _ _ _ w] at z
     exact absurd z w
  unfold zQ
  rw [show (r.2==0)=true by rw [h];rfl,ac,Df m l _ _ _ z2 z,nn]
  rfl
theorem xf {k:Nat} (hk:2 ^ 50≤k) {d:Ty.d aA} (hd:DR d) (m:Int) {l:iE} (hl:l.length≤1000000) (mark:Int) :
 dS.f k d m l mark=some ((fP m l mark d).1,(zQ m l (bM (a_ aF m) d) [] 0,(iF (fP m l mark d).2,()))):=by
 have hsz:=zf m
 unfold dS.f dS.t
 rw [bU hk,ab]
 simp only []
 rw [mR hk hd (by omega),ab]
 simp only []
 have hf:=jz (a_ aF m) d hd
 unfold fP jX
 generalize bM (a_ aF m) d=r0 at hf ⊢
 refine e_ (L:=fun n i (s:RD × aR × Int × j7)=>dS.l0 k n m l mark s.1.2 s.2.2.1 i [] 0 0 false s.2.1 s.1.1.1 s.1.1.2.1 s.1.1.2.2.1 s.1.1.2.2.2.1 s.2.2.2)
  (R:=fun r s=>(some ((gM (vM (a_ aF m) (r.map bD++[fJ 5 mark (l.map bD)]) s.1) fun y=>fj y (a_ aF m)).1,(zQ m r s.1 s.2.1 s.2.2.1,(iF (gM (vM (a_ aF m) (r.map bD++[fJ 5 mark (l.map bD)]) s.1) fun y=>fj y (a_ aF m)).2,()))):dS.Rs))
  (Ty.z aL) l (fun i s=>DR s.1.1∧(s.1.2=0→s.2.2.2=(l.take i.toNat).map bD)∧0≤s.2.2.1∧s.2.2.1≤211*i∧(s.2.1.length:Int)≤i∧(s.2.2.2.length:Int)≤i) (fun n s hs=>?_) (fun n i s x rest h0 h1 hx hr hs ih=>?_) (n:=k) (s:=(r0,([],(0,[])))) (by omega) ⟨hf,fun _=>rfl,Int.le_refl _,by simp,by simp,by simp⟩
 · obtain ⟨r,dir,a,recs⟩:=s
   obtain ⟨g1,g2,g3,g4,g5,g6⟩:=hs
   simp only [] at g1 g2 g3 g4 g5 g6 ⊢
   simp only [dS.l0,dS.b0]
   rw [aP (by omega),aK]
   simp only [List.map_nil,List.nil_append,vM,zQ]
   by_cases c:r.2=0
   · rw [Int.toNat_natCast,List.take_length] at g2
     rw [show (r.2==0)=true by rw [c];rfl,ac,bU hk,ab,g2 c,tw hk (by rw [List.length_map];omega),ab]
     simp only []
     rw [dD hk,ab]
     simp only []
     rw [kr hk,ab]
     simp only []
     have hfz:=ki (aG (fJ 5 mark (l.map bD)))
     rw [show (r.1.1,(r.1.2.1,(r.1.2.2.1,(r.1.2.2.2.1,()))))=r.1 from rfl,ot hk g1.sz (a_ aF m) (by omega),ab]
     simp only []
     have ha:=oj g1 (a_ aF m) (aQ (aG (fJ 5 mark (l.map bD))))
     rw [show gM r (fun y=>iH y (a_ aF m) (aQ (aG (fJ 5 mark (l.map bD)))))=iH r.1 (a_ aF m) (aQ (aG (fJ 5 mark (l.map bD)))) by unfold gM;rw [c];rfl]
     generalize iH r.1 (a_ aF m) (aQ (aG (fJ 5 mark (l.map bD))))=q at ha ⊢
     unfold gM
     cases c2:q.2==0 with
     | true =>
      simp only [ac]
      rw [ab]
      simp only []
      rw [lW hk ha.sz,ab,cv,ab]
     | false=>simp only [aK,cv,ab]
   · rw [mF c]
     have e:gM r (fun y=>iH y (a_ aF m) (aQ (aG (fJ 5 mark (l.map bD)))))=r:=by unfold gM;rw [mF c];rfl
     rw [e]
     unfold gM
     rw [mF c]
     simp only [aK,cv,ab]
 · obtain ⟨r,dir,a,recs⟩:=s
   obtain ⟨g1,g2,g3,g4,g5,g6⟩:=hs
   simp only [] at g1 g2 g3 g4 g5 g6 ih ⊢
   have hi:i.toNat<l.length:=by omega
   have et:l.take (i+1).toNat=l.take i.toNat++[x]:=by
    rw [show (i+1).toNat=i.toNat+1 by omega,List.take_succ_eq_append_getElem hi]
    congr 2
    rw [← hx]
    simp [List.getD,hi]
   simp only [dS.l0,dS.b0]
   rw [aO h1,ac]
   simp only [List.map_cons,List.cons_append,vM,zQ]
   by_cases c:r.2=0
   · have hr:=ma (bD x)
     have hfz:=ki (aG (bD x))
     have hz:((aQ (aG (bD x))).size:Int)=aw (bD x):=rfl
     rw [show (r.2==0)=true by rw [c];rfl,ac,aH h0 h1,hx,zj,ab]
     simp only []
     rw [dD hk,ab]
     simp only []
     rw [kr hk,ab]
     simp only []
     rw [bU hk,ab]
     simp only []
     rw [show (r.1.1,(r.1.2.1,(r.1.2.2.1,(r.1.2.2.2.1,()))))=r.1 from rfl,ot hk g1.sz (a_ aF m) (by omega),ab]
     simp only []
     rw [cD (by omega) (by decide),cD (by omega) (by decide),hz,aD (n:=a+aw (bD x)) (by omega) (by omega),aD (n:=i+1) (by omega) (by omega)]
     have ha:=oj g1 (a_ aF m) (aQ (aG (bD x)))
     rw [show gM r (fun y=>iH y (a_ aF m) (aQ (aG (bD x))))=iH r.1 (a_ aF m) (aQ (aG (bD x))) by unfold gM;rw [c];rfl,ac]
     exact ih (iH r.1 (a_ aF m) (aQ (aG (bD x))),(dir++[(x.1,(m,(a,(aw (bD x),(x.2.2.1,())))))],(a+aw (bD x),recs++[bD x]))) ⟨ha,fun _=>by simp only [];rw [g2 c,et,List.map_append];rfl,by simp only [];omega,by simp only [];omega,by simp only [];rw [u7,List.length_singleton];omega,by simp only [];rw [u7,List.length_singleton];omega⟩
   · rw [mF c]
     have e:gM r (fun y=>iH y (a_ aF m) (aQ (aG (bD x))))=r:=by unfold gM;rw [mF c];rfl
     rw [e,pR _ _ _ c]
     unfold gM
     rw [mF c]
     simp only [aK,cv,ab]
noncomputable def Hj (m:Int) (s:ByteArray):ByteArray:=cw (fq m s).1
theorem H5 (nm:ByteArray):∀ (l m:j7) (r:RD),vM nm (l++m) r=vM nm m (vM nm l r)
 | [],_,_=>rfl
 | x::l,m,r=>by
  exact H5 nm l m (gM r fun y=>iH y nm (aQ (aG x)))
theorem J6 (nm:ByteArray):∀ (rs:j7) (r:RD),DR r.1→DR (vM nm rs r).1
 | [],_,h=>h
 | x::rs,r,h=>J6 nm rs _ (im h fun y hy=>oj hy _ _)
theorem C8 (m:Int) (l:iE) (mark:Int) {d:Ty.d aA} (hd:DR d):DR (fP m l mark d).1 :=
 im (J6 _ _ _ (jz _ _ hd)) fun x hx=>lk hx _
theorem Fx {m:Int} {l:iE} {mark:Int} {d:Ty.d aA} (h:(fP m l mark d).2=0):zQ m l (bM (a_ aF m) d) [] 0=kw m l 0:=by
 unfold fP at h
 obtain ⟨z1,z2,_⟩:=iz h
 unfold jX at z1
 rw [H5] at z1
 have z3:(vM (a_ aF m) (l.map bD) (bM (a_ aF m) d)).2=0:=by
  by_cases w:(vM (a_ aF m) (l.map bD) (bM (a_ aF m) d)).2=0
  · exact w
  · rw [pR _ _ _ w] at z1
    exact absurd z1 w
 have z0:(bM (a_ aF m) d).2=0:=by
  by_cases w:(bM (a_ aF m) d).2=0
  · exact w
  · rw [pR _ _ _ w] at z3
    exact absurd z3 w
 rw [Df m l _ [] 0 z0 z3,List.nil_append]
theorem BA {m:Int} (h0:1≤m) (h1:m+2≤100000):cS (iL m)=true:=by
 have e:aJ (m+2-1)=m+1:=by rw [aD (n:=m+2-1) (by omega) (by omega)];omega
 unfold cS iL
 simp only []
 rw [aO (show (1:Int)≤m+2∧m+2≤100000 from ⟨by omega,h1⟩),e]
 simp only [nC,m7,kJ,List.length_nil]
 rw [aO (show (1:Int)≤m∧m≤m+1 from ⟨h0,by omega⟩),aO (show (1:Int)≤m+1∧m+1≤m+1 from ⟨by omega,by omega⟩),aO (show m<m+1 by omega)]
 rfl
theorem Dh (c:Int):(iF c != 0)=(c != 0):=by unfold bne;rw [iD]
theorem wg {k:Nat} (hk:2 ^ 50≤k) {st:Ty.d aE} (hl:cS st.1=true) (hn:LE.le (α:=Int) (st.1.1+2) 100000) {f:Ty.d aA} (hf:DR f) (dir:aR) :
 (rm (Ty.bytes (.int .i64)) (0+List.length st.1.2.1) ((eM.f k f (st.1.1+2,([st.1.1,st.1.1+1],()))).bind fun r16=>(bif (r16.2.1 != 0) then ((dR.f k ((st.1.1+2,st.1.2),st.2) r16.1 st.1.1 r16.2.1).bind fun r17=>(some r17)) else
  (bi.l0 k k 0 [st.1.1,st.1.1+1] dir (st.1.1+2) st.2.2.1 0 0 [] [] 0 0 0 0 [] 0 0 false r16.1.1 r16.1.2.1 r16.1.2.2.1 r16.1.2.2.2.1 ([]++st.1.2.1)))):bi.Rs) =
 some (oS (bif (bf (iL st.1.1) f).2 != 0 then (s9 st,kf (jJ st.1.1) (tl (bf (iL st.1.1) f))) else ((iL st.1.1,(dir,(st.2.2.1,(0,(0,()))))),tl (sA st.1.2.1 (bf (iL st.1.1) f).1)))):=by
 obtain ⟨n1,n2,n3,_⟩:=iG (n:=st.1.1) (ids:=st.1.2.1) hl
 have h60:st.1.2.1.length≤60:=(bQ (nx:=st.1.1) (ids:=st.1.2.1) hl).2.2.2.1
 rw [cD (by omega) (by decide),n7 hk hf (v:=(st.1.1+2,([st.1.1,st.1.1+1],()))) (BA n1 hn),ab]
 rw [show ((st.1.1+2,([st.1.1,st.1.1+1],())):Ty.d cY)=iL st.1.1 from rfl]
 have hp:=jp (iL st.1.1) f hf
 generalize bf (iL st.1.1) f=q at hp ⊢
 simp only []
 rw [Dh]
 cases c:q.2 != 0 with
 | true =>
  simp only [ac]
  rw [show iF q.2=(tl q).2 from rfl,show q.1=(tl q).1 from rfl,pq hk _ (r:=tl q) hp n1 n2,ab]
  rfl
 | false =>
  simp only [aK,List.nil_append]
  rw [Ct hk _ _ _ _ _ _ _ (by omega) hp]
  rfl
theorem xw {k:Nat} (hk:2 ^ 50≤k) {st:Ty.d aE} {d:Ty.d aA} (hd:DR d) (hl:cS st.1=true) (hn:LE.le (α:=Int) (st.1.1+2) 100000) (hb0:LE.le (α:=Int) 1 st.2.2.1) (hb1:LE.le (α:=Int) st.2.2.1 1000001) {l:iE} (hlen:l.length≤1000000) :
 bi.f k st d l=some (oS (dP (Hj st.1.1) st d l)):=by
 obtain ⟨n1,n2,n3,_⟩:=iG (n:=st.1.1) (ids:=st.1.2.1) hl
 have s1:=zf st.1.1
 have s2:=zf (st.1.1+1)
 have s3:=uQ (.inr rfl:dG=aF∨dG=dG) st.1.1
 unfold bi.f bi.t
 rw [aD (n:=st.2.2.1-1) (by omega) (by omega),aD (n:=st.1.1+2) (by omega) (by omega),aD (n:=st.1.1+1) (by omega) (by omega),xf hk hd _ hlen,ab]
 simp only []
 have a0:=C8 st.1.1 l (st.2.2.1-1) hd
 have a1:=Fx (m:=st.1.1) (l:=l) (mark:=st.2.2.1-1) (d:=d)
 unfold dP
 generalize zQ st.1.1 l (bM (a_ aF st.1.1) d) [] 0=dir at a1 ⊢
 generalize fP st.1.1 l (st.2.2.1-1) d=a at a0 a1 ⊢
 rw [Dh]
 cases ca:a.2 != 0 with
 | true =>
  simp only [ac]
  rw [show iF a.2=(tl a).2 from rfl,show a.1=(tl a).1 from rfl,pq hk _ (r:=tl a) a0 n1 n2,ab]
  rfl
 | false =>
  simp only [aK]
  rw [a1 (gn ca),bU hk,ab]
  simp only []
  rw [mR hk a0 (by omega),ab]
  simp only []
  have b0:=jz (a_ aF (st.1.1+1)) a.1 a0
  generalize bM (a_ aF (st.1.1+1)) a.1=b at b0 ⊢
  cases cb:b.2 != 0 with
  | true =>
   simp only [ac]
   rw [cv,ab]
   simp only []
   rw [show iF b.2=(tl b).2 from rfl,show b.1=(tl b).1 from rfl,pq hk _ (r:=tl b) b0 n1 n2,ab]
   rfl
  | false =>
   have hl':=b0.sz.l
   have hu':=b0.sz.u
   have hn':=b0.sz.n
   have ht:=fp b.1 (a_ aF st.1.1)
   have hcap:LE.le (α:=Int) (dy b.1.1) 100000:=Int.le_trans b0.use b0.cap1
   simp only [aK]
   rw [bU hk,ab]
   simp only []
   rw [gS hk (by omega) (by omega) (by omega),ab]
   simp only []
   rw [r_ hk _ (by omega),ab,iR hk,ab]
   simp only []
   rw [kX hk,ab]
   simp only []
   rw [uJ hk b0 (by omega) (by have:=nY (fq st.1.1 (aT b.1 (a_ aF st.1.1)).1).1;omega),ab]
   simp only []
   unfold kn
   rw [show Hj st.1.1 (aT b.1 (a_ aF st.1.1)).1=cw (fq st.1.1 (aT b.1 (a_ aF st.1.1)).1).1 from rfl]
   have c0:=nR (a_ dG st.1.1) (cw (fq st.1.1 (aT b.1 (a_ aF st.1.1)).1).1) b.1 b0
   generalize l_ (a_ dG st.1.1) (cw (fq st.1.1 (aT b.1 (a_ aF st.1.1)).1).1) b.1=e at c0 ⊢
   cases ce:e.2==2 with
   | true =>
    simp only [ac]
    rw [ab]
    simp only []
    rw [mS hk c0 (by simp),ab]
    simp only []
    have d0:=ji [a_ dG st.1.1] e.1 c0
    generalize eh [a_ dG st.1.1] e.1=f at d0 ⊢
    cases cf:f.2 != 0 with
    | true =>
     simp only [ac]
     rw [cv,ab]
     rfl
    | false =>
     simp only [aK]
     exact wg hk hl hn d0 _
   | false =>
    simp only [aK]
    cases cf:e.2 != 0 with
    | true =>
     simp only [ac]
     rw [cv,ab]
     rfl
    | false =>
     simp only [aK]
     exact wg hk hl hn c0 _
noncomputable def mI (st:Ty.d aE) (d:Ty.d aA):Ty.d aE × RD :=
 bif !d9 st d then (st,(d,4)) else bif decide (st.1.1+2 > 100000) then (st,(d,5)) else
 bif (gd st.2.1 d).2 != 0 then (st,(d,(gd st.2.1 d).2)) else dP (Hj st.1.1) st d (gd st.2.1 d).1
theorem xd {st:Ty.d aE} {d:Ty.d aA} (h:d9 st d=true):LE.le (α:=Int) 1 st.2.2.1∧LE.le (α:=Int) st.2.2.1 1000001:=by
 unfold d9 at h
 simp only [gN,decide_eq_true_eq] at h
 exact h.2.2.2.1
theorem zu {k:Nat} (hk:2 ^ 50≤k) {st:Ty.d aE} {d:Ty.d aA} (hd:AM d) (h1:st.1.2.1.length≤1073741824) (h2:st.2.1.length≤536870912):jy.f k st d=some (oS (mI st d)):=by
 have ec:cm.f k st=some (st,()):=by
  unfold cm.f cm.t
  rw [cD (by omega) (by decide),cD (by omega) (by decide),List.nil_append,List.nil_append]
 unfold jy.f jy.t mI
 rw [ec,ab]
 simp only []
 rw [jK k hd,ab]
 simp only []
 rw [sQ hk hd,ab]
 simp only []
 cases c1:d9 st d with
 | false=>rfl
 | true =>
  obtain ⟨g1,g2,g3⟩:=eW c1
  obtain ⟨n1,n2,_,_⟩:=iG (n:=st.1.1) (ids:=st.1.2.1) g1.live
  simp only [fh,aK]
  rw [aD (n:=st.1.1+2) (by omega) (by omega)]
  by_cases c2:st.1.1+2 > (100000:Int)
  · rw [aO c2];rfl
  · rw [aP c2]
    simp only [aK]
    rw [tu hk hd (by omega),ab]
    simp only []
    have hz:=nz st.2.1 d
    obtain ⟨b1,b2⟩:=xd c1
    cases (gd st.2.1 d).2 != 0 with
    | true=>rfl
    | false =>
     simp only [aK]
     rw [xw hk g1.disk g1.live (Int.not_lt.1 c2) b1 b2 (by omega),ab]
abbrev lR:=Ty.d d8
def CI (c:lR):Prop:=(0:Int)≤c.2.1∧c.2.1≤(c.1.length:Int)∧c.1.length≤1048576
theorem zA (y:Int):0≤aJ (((BitVec.ofInt (IntKind.bits .i64) y &&& BitVec.ofInt (IntKind.bits .i64) 255).toNat:Int))∧aJ (((BitVec.ofInt (IntKind.bits .i64) y &&& BitVec.ofInt (IntKind.bits .i64) 255).toNat:Int))≤255:=by
 have h:(BitVec.ofInt (IntKind.bits .i64) y &&& BitVec.ofInt (IntKind.bits .i64) 255).toNat≤255:=by
  rw [BitVec.toNat_and]
  exact Nat.le_trans Nat.and_le_right (by decide)
 rw [aD (by omega) (by omega)]
 omega
theorem GB {k:Nat} (hk:2 ^ 50≤k) {l:List Int} (hl:l.length≤1048576):∃ c:lR,ft.f k l=some ((),(c,()))∧CI c:=by
 unfold ft.f ft.t
 have key:∀ (d n:Nat) (i h:Int),(l.length:Int)-i=d→0≤i→d<n→∃ c:lR,ft.l0 k n l h i=some ((),(c,()))∧CI c:=by
  intro d
  induction d with
  | zero =>
   intro n i h h1 h2 hn
   obtain ⟨n,rfl⟩:∃ q,n=q+1:=⟨n-1,by omega⟩
   simp only [ft.l0,ft.b0]
   rw [aP (show ¬ i<(l.length:Int) by omega),aK]
   exact ⟨_,rfl,Int.le_refl _,by show (0:Int)≤(l.length:Int);omega,hl⟩
  | succ d ih =>
   intro n i h h1 h2 hn
   obtain ⟨n,rfl⟩:∃ q,n=q+1:=⟨n-1,by omega⟩
   simp only [ft.l0,ft.b0]
   rw [aO (show i<(l.length:Int) by omega),ac]
   by_cases c:i<4000
   · rw [aO c,ac,aH h2 (by omega),aD (n:=i+1) (by omega) (by omega)]
     exact ih n (i+1) _ (by omega) (by omega) (by omega)
   · rw [aP c,aK]
     exact ⟨_,rfl,Int.le_refl _,by show (0:Int)≤(l.length:Int);omega,hl⟩
 exact key l.length k 0 _ (by omega) (by omega) (by omega)
theorem y9 (k:Nat) {c:lR} (h:CI c):∃ (c':lR) (x:Int),eZ.f k c=some (c',(x,()))∧CI c'∧0≤x∧x≤255:=by
 obtain ⟨b,i,hh,_⟩:=c
 change Int at i
 change Int at hh
 obtain ⟨h1,h2,h3⟩:=h
 have h1:0≤i:=h1
 have h2:i≤(b.length:Int):=h2
 have h3:b.length≤1048576:=h3
 unfold eZ.f eZ.t
 simp only []
 by_cases q:i<(b.length:Int)
 · rw [aO q,ac,aH h1 q,aD (n:=i+1) (by omega) (by omega)]
   refine ⟨_,_,rfl,⟨by show (0:Int)≤i+1;omega,by show i+1≤(b.length:Int);omega,h3⟩,(zA _).1,(zA _).2⟩
 · rw [aP q,aK]
   exact ⟨_,_,rfl,⟨h1,h2,h3⟩,(zA _).1,(zA _).2⟩
theorem wy (k:Nat) {c:lR} (h:CI c) {n:Int} (h0:0<n) (h1:n≤256):∃ (c':lR) (x:Int),aa.f k c n=some (c',(x,()))∧CI c'∧0≤x∧x<n:=by
 obtain ⟨c',x,e,hc,hx0,hx1⟩:=y9 k h
 unfold aa.f aa.t
 rw [aP (show ¬ n≤0 by omega),aK,aO h1,ac,e,ab]
 simp only []
 rw [aP (show ¬ n=0 by omega),aK]
 have e2:Int.tmod x n=x % n:=Int.tmod_eq_emod_of_nonneg hx0
 refine ⟨_,_,rfl,hc,?_,?_⟩
 · rw [e2];exact Int.emod_nonneg _ (by omega)
 · rw [e2];exact Int.emod_lt_of_pos _ h0
theorem Fz (k:Nat) {c:lR} (h:CI c) {n:Int} (h0:0<n) (h1:n≤256):∃ (c':lR) (x:Bool),cF.f k c n=some (c',(x,()))∧CI c':=by
 obtain ⟨c',x,e,hc,_,_⟩:=wy k h h0 h1
 unfold cF.f cF.t
 rw [e,ab]
 exact ⟨_,_,rfl,hc⟩
theorem Ir {k:Nat} (hk:2 ^ 50≤k) {l:List Int} (hl:l.length≤1048576):je (ft.f k l) (fun r=>CI r.2.1):=by
 obtain ⟨c,e,h⟩:=GB hk hl
 exact ⟨_,e,h⟩
theorem q8 (k:Nat) {c:lR} (h:CI c):je (eZ.f k c) (fun r=>CI r.1∧0≤r.2.1∧r.2.1≤255):=by
 obtain ⟨c',x,e,h1,h2,h3⟩:=y9 k h
 exact ⟨_,e,h1,h2,h3⟩
theorem kh (k:Nat) {c:lR} (h:CI c) {n:Int} (h0:0<n) (h1:n≤256):je (aa.f k c n) (fun r=>CI r.1∧0≤r.2.1∧r.2.1<n):=by
 obtain ⟨c',x,e,q1,q2,q3⟩:=wy k h h0 h1
 exact ⟨_,e,q1,q2,q3⟩
theorem vo (k:Nat) {c:lR} (h:CI c) {n:Int} (h0:0<n):je (aa.f k c n) (fun r=>CI r.1∧0≤r.2.1∧r.2.1<n):=by
 by_cases h1:n≤256
 · exact kh k h h0 h1
 unfold aa.f aa.t
 refine ky (aP (by omega)) (ky (aP h1) ?_)
 refine bA (q8 k h) fun r1 q1=>?_
 refine bA (q8 k q1.1) fun r2 q2=>?_
 refine bA (q8 k q2.1) fun r3 q3=>?_
 refine bA (q8 k q3.1) fun r4 q4=>?_
 refine ky (aP (by omega)) (ae ⟨q4.1,?_⟩)
 obtain ⟨_,a0,a1⟩:=q1
 obtain ⟨_,b0,b1⟩:=q2
 obtain ⟨_,c0,c1⟩:=q3
 obtain ⟨_,d0,d1⟩:=q4
 simp only []
 rw [aD (n:=r1.2.1*16777216) (by omega) (by omega),aD (n:=r2.2.1*65536) (by omega) (by omega),aD (n:=r3.2.1*256) (by omega) (by omega),aD (n:=r1.2.1*16777216+r2.2.1*65536) (by omega) (by omega),aD (n:=r1.2.1*16777216+r2.2.1*65536+r3.2.1*256) (by omega) (by omega),aD (n:=r1.2.1*16777216+r2.2.1*65536+r3.2.1*256+r4.2.1) (by omega) (by omega)]
 rw [Int.tmod_eq_emod_of_nonneg (by omega)]
 exact ⟨Int.emod_nonneg _ (by omega),Int.emod_lt_of_pos _ h0⟩
theorem vy (k:Nat) {c:lR} (h:CI c) {n:Int} (h0:0<n) (h1:n≤256):je (cF.f k c n) (fun r=>CI r.1):=by
 obtain ⟨c',x,e,q1⟩:=Fz k h h0 h1
 exact ⟨_,e,q1⟩
theorem CC (k:Nat) {c:lR} (h:CI c) {l:List ByteArray} (h0:0<l.length) (h1:l.length≤256):je (cI.f k c l) (fun r=>CI r.1∧r.2.1 ∈ l):=by
 unfold cI.f cI.t
 refine bA (kh k h (by omega) (by omega)) fun r q=>?_
 refine g9 q.2.1 q.2.2 (ae ⟨q.1,iI ?_⟩)
 have:=q.2.1
 have:=q.2.2
 omega
theorem Ad (k:Nat) {c:lR} (h:CI c) {l:List Int} (h0:0<l.length) (h1:l.length≤256):je (aM.f k c l) (fun r=>CI r.1∧r.2.1 ∈ l):=by
 unfold aM.f aM.t
 refine bA (kh k h (by omega) (by omega)) fun r q=>?_
 refine g9 q.2.1 q.2.2 (ae ⟨q.1,iI ?_⟩)
 have:=q.2.1
 have:=q.2.2
 omega
theorem FP (l:List Int):(bytesOf l).size=l.length:=by simp [bytesOf,ByteArray.size]
theorem Ia {k:Nat} (hk:2 ^ 50≤k) (st:Int) (m:Nat) (hm:m≤200):∀ (d n:Nat) (c:lR) (out:List Int),d<n→CI c→out.length+d≤m→je (eR.l0 k n st (d:Int) c.1 c.2.1 c.2.2.1 out) (fun r=>CI r.1∧r.2.1.size≤m):=by
 intro d
 induction d with
 | zero =>
  intro n c out hn hc ho
  obtain ⟨n,rfl⟩:∃ q,n=q+1:=⟨n-1,by omega⟩
  simp only [eR.l0,eR.b0]
  refine ky (aP (by omega)) (ae ⟨hc,?_⟩)
  show (bytesOf out).size≤m
  rw [FP]
  omega
 | succ d ih =>
  intro n c out hn hc ho
  obtain ⟨n,rfl⟩:∃ q,n=q+1:=⟨n-1,by omega⟩
  have hw:aJ (((d+1:Nat):Int)-1)=(d:Int):=by rw [aD (by omega) (by omega)];omega
  simp only [eR.l0,eR.b0,hw]
  refine kE (aO (by omega)) ?_
  refine bA (q8 k hc) fun r hr=>?_
  refine b8 (fun _=>b8 (fun _=>?_) (fun _=>?_)) (fun _=>b8 (fun _=>?_) (fun _=>?_))
  all_goals exact oR (by omega) (by decide) (ih n r.1 _ (by omega) hr.1 (by rw [br];omega))
theorem HR {k:Nat} (hk:2 ^ 50≤k) {c:lR} (h:CI c) {m:Int} (h0:0≤m) (h1:m≤200):je (eR.f k c m) (fun r=>CI r.1∧(r.2.1.size:Int)≤m):=by
 unfold eR.f eR.t
 rw [aD (n:=m+1) (by omega) (by omega)]
 refine bA (kh k h (by omega) (by omega)) fun r1 q1=>?_
 refine bA (kh k q1.1 (by omega) (by omega)) fun r2 q2=>?_
 obtain ⟨c2,a,b⟩:=q2
 have:=Ia hk r1.2.1 m.toNat (by omega) r2.2.1.toNat k r2.1 [] (by omega) c2 (by simp only [List.length_nil];omega)
 rw [show ((r2.2.1.toNat:Nat):Int)=r2.2.1 by omega] at this
 exact oN this fun r hr=>⟨hr.1,by have:=hr.2;omega⟩
theorem IM (k:Nat) {c:lR} (h:CI c):je (iJ.f k c) (fun r=>CI r.1):=by
 unfold iJ.f iJ.t
 exact bA (CC k h (by decide) (by decide)) fun r q=>ae q.1
def EX (n:Int) (d d':Ty.d aA):Prop:=∀ x:Int,1≤x→x<n→x≤100000→∀ t,fT d (a_ aF x)=some t→∃ u,fT d' (a_ aF x)=some (t++u)
theorem Ft (t:ByteArray):t++(⟨#[]⟩:ByteArray)=t:=DF t
theorem ow {n:Int} {d d':Ty.d aA} (h:∀ x:Int,1≤x→x<n→x≤100000→fT d' (a_ aF x)=fT d (a_ aF x)):EX n d d':=fun x h0 h1 h2 t e=>⟨⟨#[]⟩,by rw [h x h0 h1 h2,e,Ft]⟩
theorem AE (n:Int) (d:Ty.d aA):EX n d d:=ow fun _ _ _ _=>rfl
theorem wS {n:Int} {d d' d'':Ty.d aA} (h:EX n d d') (g:EX n d' d''):EX n d d'':=fun x h0 h1 h2 t e=>by
 obtain ⟨u,hu⟩:=h x h0 h1 h2 t e
 obtain ⟨v,hv⟩:=g x h0 h1 h2 _ hu
 exact ⟨u++v,by rw [hv,oM]⟩
theorem II {n m:Int} {d d':Ty.d aA} (h:EX m d d') (q:n≤m):EX n d d':=fun x h0 h1 h2 t e=>h x h0 (by omega) h2 t e
theorem K5 (n:Int) (d:Ty.d aA) (s x:ByteArray):EX n d (iH d s x).1:=fun y h0 h1 h2 t e=>by
 by_cases q:s=a_ aF y
 · subst q
   have:=sI (d:=d) (s:=a_ aF y) (x:=x)
   rw [e] at this
   cases c:(iH d (a_ aF y) x).2==0 with
   | true=>rw [c] at this;exact ⟨x,this⟩
   | false=>rw [c] at this;exact ⟨⟨#[]⟩,by rw [this,Ft];rfl⟩
 · exact ⟨⟨#[]⟩,by rw [xB q,e,Ft]⟩
theorem KB (n:Int) (d:Ty.d aA) (s:ByteArray):EX n d (fj d s).1:=ow fun x _ _ _=>lE
theorem IK {st:Ty.d aE} {d:Ty.d aA} (hl:cS st.1=true) :
 EX st.1.1 d (jc st d).2.1∧LE.le (α:=Int) st.1.1 (jc st d).1.1.1∧(jc st d).1.2.2.1=st.2.2.1:=by
 obtain ⟨n1,n2,n3,_⟩:=iG (n:=st.1.1) (ids:=st.1.2.1) hl
 have hnew:∀ x:Int,1≤x→x<st.1.1→x≤100000→a_ aF st.1.1≠a_ aF x:=fun x h0 h1 h2=>mg ⟨n1,n2⟩ ⟨h0,h2⟩ (by omega)
 have k1:∀ x:Int,1≤x→x<st.1.1→x≤100000→fT (fj d (cj st)).1 (a_ aF x)=fT d (a_ aF x):=fun x _ _ _=>lE
 have k2:∀ x:Int,1≤x→x<st.1.1→x≤100000→fT (bM (a_ aF st.1.1) (fj d (cj st)).1).1 (a_ aF x)=fT d (a_ aF x):=fun x h0 h1 h2=>(l9 (hnew x h0 h1 h2)).trans (k1 x h0 h1 h2)
 have k3:∀ x:Int,1≤x→x<st.1.1→x≤100000→fT (bf (kM st) (bM (a_ aF st.1.1) (fj d (cj st)).1).1).1 (a_ aF x)=fT d (a_ aF x):=fun x h0 h1 h2=>(gj (gZ ⟨h0,h2⟩) (iX ⟨h0,h2⟩)).trans (k2 x h0 h1 h2)
 unfold jc
 cases decide ((st.1.2.1.length:Int)≥60) with
 | true=>exact ⟨AE _ _,Int.le_refl _,rfl⟩
 | false =>
  cases decide (st.1.1≥(100000:Int)) with
  | true=>exact ⟨AE _ _,Int.le_refl _,rfl⟩
  | false =>
   have up:LE.le (α:=Int) st.1.1 (st.1.1+1):=by omega
   simp only [aK]
   generalize fj d (cj st)=r1 at k1 k2 k3 ⊢
   generalize bM (a_ aF st.1.1) r1.1=r2 at k2 k3 ⊢
   generalize bf (kM st) r2.1=r3 at k3 ⊢
   cases r1.2 != 0 with
   | true=>exact ⟨ow k1,Int.le_refl _,rfl⟩
   | false =>
    cases r2.2 != 0 with
    | true=>exact ⟨ow k2,up,rfl⟩
    | false =>
     cases r3.2 != 0 with
     | true =>
      refine ⟨?_,up,rfl⟩
      simp only [ac,aK]
      unfold nW
      cases (tl r3).2==2 with
      | false=>exact ow k3
      | true =>
       refine ow fun x h0 h1 h2=>?_
       refine (m6 [iK,a_ aF st.1.1] r3.1 fun s hs=>?_).trans (k3 x h0 h1 h2)
       rcases List.mem_cons.1 hs with e | e
       · rw [e];exact gZ ⟨h0,h2⟩
       · rw [List.mem_singleton.1 e];exact hnew x h0 h1 h2
     | false=>exact ⟨ow k3,up,rfl⟩
theorem Ea {st:Ty.d aE} (hl:cS st.1=true):LE.le (α:=Int) 1 (aZ st.1.2.1)∧LT.lt (α:=Int) (aZ st.1.2.1) st.1.1:=by
 obtain ⟨n1,n2,n3,n4⟩:=iG (n:=st.1.1) (ids:=st.1.2.1) hl
 obtain ⟨_,_,g1,_,_⟩:=bQ (nx:=st.1.1) (ids:=st.1.2.1) hl
 have hs:=lh g1
 have hlast:aZ st.1.2.1 ∈ st.1.2.1:=by rw [hs];exact List.mem_append_right _ (List.mem_singleton.2 (by rw [← hs]))
 exact n3 _ hlast
theorem Dd {st:Ty.d aE} {d:Ty.d aA} (hl:cS st.1=true) (r:Ty.d b7) (n:Int) :
 EX n d (jQ st d r).1.2.1∧(jQ st d r).1.1.1=st.1∧(jQ st d r).1.1.2.2.1=st.2.2.1∧((jQ st d r).1.2.2=0→LE.le (α:=Int) 1 (jQ st d r).2.1∧LT.lt (α:=Int) (jQ st d r).2.1 st.1.1):=by
 have hE:=K5 n d (cj st) (aQ (aG r))
 unfold jQ
 generalize iH d (cj st) (aQ (aG r))=a at hE ⊢
 cases c:a.2 != 0 with
 | true =>
  refine ⟨hE,rfl,rfl,fun e=>?_⟩
  have e:(tl a).2=0:=e
  have q:=wL a
  rw [e,c] at q
  cases q
 | false=>exact ⟨hE,rfl,rfl,fun _=>Ea hl⟩
theorem E0 {st:Ty.d aE} {d:Ty.d aA} (hl:cS st.1=true) (hd:DR d) (r:Ty.d b7) :
 EX st.1.1 d (fc st d r).1.2.1∧LE.le (α:=Int) st.1.1 (fc st d r).1.1.1.1∧(fc st d r).1.1.2.2.1=st.2.2.1∧((fc st d r).1.2.2=0→LE.le (α:=Int) 1 (fc st d r).2.1∧LT.lt (α:=Int) (fc st d r).2.1 (fc st d r).1.1.1.1):=by
 unfold fc
 cases decide (st.2.2.2.1 > 0)&&decide (st.2.2.2.1+aw r > 200) with
 | false =>
  obtain ⟨s1,s2,s3,s4⟩:=Dd (d:=d) hl r st.1.1
  simp only [aK]
  rw [s2]
  exact ⟨s1,Int.le_refl _,s3,s4⟩
 | true =>
  obtain ⟨g1,g2,g3,g4⟩:=qi hl hd
  obtain ⟨t1,t2,t3⟩:=IK (d:=d) hl
  simp only [ac]
  generalize jc st d=q at g1 g2 g3 g4 t1 t2 t3 ⊢
  cases c:q.2.2 != 0 with
  | true =>
   refine ⟨t1,t2,t3,fun e=>?_⟩
   have e:q.2.2=0:=e
   rw [e] at c
   cases c
  | false =>
   obtain ⟨s1,s2,s3,s4⟩:=Dd (d:=q.2.1) g1 r st.1.1
   simp only [aK]
   rw [s2]
   exact ⟨wS t1 s1,t2,s3.trans t3,s4⟩
theorem B2:∀ (l:j7) (st:Ty.d aE) (d:Ty.d aA) (ps:aW) (B:Int),SR st (d,0) B→0≤B→(∀ p ∈ ps,LE.le (α:=Int) 1 p.1∧LT.lt (α:=Int) p.1 st.1.1) →
 EX st.1.1 d (ek l st d ps).1.2.1∧LE.le (α:=Int) st.1.1 (ek l st d ps).1.1.1.1∧(ek l st d ps).1.1.2.2.1=st.2.2.1∧∀ p ∈ (ek l st d ps).2,LE.le (α:=Int) 1 p.1∧LT.lt (α:=Int) p.1 (ek l st d ps).1.1.1.1
 | [],st,d,ps,B,_,_,hp=>⟨AE _ _,Int.le_refl _,rfl,hp⟩
 | r::l,st,d,ps,B,h,hB,hp=>by
  obtain ⟨g1,g2,g3⟩:=qn h hB r
  obtain ⟨s1,s2,s3,s4⟩:=E0 (d:=d) h.live h.disk r
  unfold ek
  generalize fc st d r=q at g1 g2 g3 s1 s2 s3 s4 ⊢
  have up:∀ p ∈ ps,LE.le (α:=Int) 1 p.1∧LT.lt (α:=Int) p.1 q.1.1.1.1:=fun p hq=>⟨(hp p hq).1,Int.lt_of_lt_of_le (hp p hq).2 s2⟩
  cases c:q.1.2.2 != 0 with
  | true=>exact ⟨s1,s2,s3,up⟩
  | false =>
   have e0:=gn c
   obtain ⟨i1,i2,i3,i4⟩:=B2 l q.1.1 q.1.2.1 (ps++[q.2]) (B+211) ⟨g1.live,g1.disk,g1.lo,g1.hi⟩ (by omega) fun p hq=>by
    rcases List.mem_append.1 hq with w | w
    · exact up p w
    · rw [List.mem_singleton.1 w]
      exact s4 e0
   simp only [aK]
   exact ⟨wS s1 (II i1 s2),Int.le_trans s2 i2,i3.trans s3,i4⟩
theorem Gz {d:aR} {p:Ty.d aC} {e:Ty.d aB} (h:e ∈ fI d p):(e=eP p∧(p.2.2.2.1.1==2)=false)∨e ∈ d:=by
 unfold fI at h
 cases c:p.2.2.2.1.1==2 with
 | true=>rw [c,ac] at h;exact .inr ((List.mem_filter.1 h).1)
 | false =>
  rw [c,aK] at h
  rcases E7 h with w | w
  · exact .inl ⟨w,rfl⟩
  · exact .inr ((List.mem_filter.1 w).1)
theorem mX {e:Ty.d aB}:∀ (ps:aW) {d:aR},e ∈ bL d ps→(∃ p ∈ ps,e=eP p∧(p.2.2.2.1.1==2)=false)∨e ∈ d
 | [],d,h => .inr h
 | p::ps,d,h=>by
  rcases mX ps (d:=fI d p) h with ⟨q,hq,w⟩ | w
  · exact .inl ⟨q,lK _ hq,w⟩
  · rcases Gz w with w | w
    · exact .inl ⟨p,jd,w⟩
    · exact .inr w
theorem yi {s t:ByteArray} {i n:Int} (h:(dk s i n).2=true):dk (s++t) i n=dk s i n:=by
 unfold dk at h ⊢
 by_cases c:0≤i∧i≤s.size∧1≤n∧n≤s.size-i
 · have hz:(s++t).size=s.size+t.size:=ByteArray.size_append ..
   have e:ByteArray.extract (s++t) i.toNat (i+n).toNat=ByteArray.extract s i.toNat (i+n).toNat:=by
    refine jV ?_
    rw [rP,rP,gP,List.take_append_of_le_length (by rw [cM];omega)]
   rw [if_pos c,if_pos (show 0≤i∧i≤(s++t).size∧1≤n∧n≤(s++t).size-i from ⟨c.1,by omega,c.2.2.1,by omega⟩),e]
 · rw [if_neg c] at h
   cases h
theorem wY {n:Int} {d d':Ty.d aA} {e:Ty.d aB} (hd:DR d) (hd':DR d') (hx:EX n d d') (h1:LE.le (α:=Int) 1 e.2.1) (h2:LT.lt (α:=Int) e.2.1 n) (h3:LE.le (α:=Int) e.2.1 100000) (h:(fO d e).2=true):fO d' e=fO d e:=by
 unfold fO at h ⊢
 rw [jD hd] at h
 rw [jD hd,jD hd']
 cases c:fT d (a_ aF e.2.1) with
 | none =>
  rw [c] at h
  have h:(dk ⟨#[]⟩ e.2.2.1 e.2.2.2.1).2=true:=h
  rw [uI] at h
  cases h
 | some t =>
  obtain ⟨u,hu⟩:=hx e.2.1 h1 h2 h3 t c
  rw [c] at h
  rw [hu]
  exact yi h
def EI (st:Ty.d aE):Prop:=∀ e ∈ st.2.1,LE.le (α:=Int) 1 e.2.1∧LT.lt (α:=Int) e.2.1 st.1.1
def FL (s:ByteArray):Prop:=∃ rs:j7,(∀ r ∈ rs,bm r=true)∧s=aX rs
theorem I2 (s:ByteArray):∀ (d:Nat) (i:Int),0≤i→i≤s.size→(s.size:Int)-i<d→(fS s d i).2=(s.size:Int)→FL (ByteArray.extract s i.toNat s.size):=by
 intro d
 induction d with
 | zero=>intro i h0 h1 h2 _;omega
 | succ d ih =>
  intro i h0 h1 h2 h
  have stop:i=(s.size:Int)→FL (ByteArray.extract s i.toNat s.size):=fun e=>by
   rw [e,Int.toNat_natCast,B7]
   exact ⟨[],fun r hr=>(by cases hr),rfl⟩
  rw [fS] at h
  by_cases c1:(fi (ByteArray.extract s i.toNat s.size)).2=0
  · rw [if_pos c1] at h
    exact stop h
  · rw [if_neg c1] at h
    cases c2:(gB (fi (ByteArray.extract s i.toNat s.size)).1).2 with
    | false =>
     rw [if_pos c2] at h
     exact stop h
    | true =>
     rw [if_neg (by rw [c2];decide)] at h
     have hu:=lY (ByteArray.extract s i.toNat s.size)
     have hz:=oG s i.toNat
     have ih:=ih (i+(fi (ByteArray.extract s i.toNat s.size)).2) (by omega) (by omega) (by omega) h
     rcases mZ (ByteArray.extract s i.toNat s.size) with ⟨t,r,ht,e1,e2⟩ | ⟨e2,_⟩
     · rw [e2] at ih c2
       simp only [] at ih c2
       have e3:ByteArray.extract s (i+((aQ t).size:Int)).toNat s.size=r:=by
        apply jV
        have hnb:=congrArg nb e1
        rw [gk,gP] at hnb
        rw [gk,show (i+((aQ t).size:Int)).toNat=i.toNat+(aQ t).size by omega,← List.drop_drop,hnb,List.drop_left' (cM _)]
       rw [e3] at ih
       obtain ⟨rs,k1,k2⟩:=ih
       obtain ⟨g1,g2⟩:=vN (s:=t) (r:=(gB t).1) (Prod.ext rfl c2)
       refine ⟨(gB t).1::rs,fun x hx=>?_,?_⟩
       · rcases List.mem_cons.1 hx with e | e
         · rw [e];exact g1
         · exact k1 x e
       · rw [e1,k2,aX,g2]
     · exact absurd (by rw [e2]) c1
theorem tM (s:ByteArray):ByteArray.extract s 0 s.size=s:=jV (by rw [gk,List.drop_zero])
theorem EU {s:ByteArray} (h:(az s).2=(s.size:Int)):FL s:=by
 have:=I2 s (s.size+1) 0 (by omega) (by omega) (by omega) h
 rw [show (0:Int).toNat=0 from rfl,tM] at this
 exact this
theorem yG {s:ByteArray} (h:FL s):(az s).2=(s.size:Int):=by
 obtain ⟨rs,h1,h2⟩:=h
 rw [h2]
 exact (oY h1).2
theorem xK (r:Ty.d b7):aX [r]=aQ (aG r):=Ft _
theorem Hd {s:ByteArray} {r:Ty.d b7} (h:FL s) (hr:bm r=true):FL (s++aQ (aG r)):=by
 obtain ⟨rs,h1,h2⟩:=h
 refine ⟨rs++[r],fun x hx=>?_,?_⟩
 · rcases List.mem_append.1 hx with e | e
   · exact h1 x e
   · rw [List.mem_singleton.1 e];exact hr
 · rw [nJ,xK,h2]
theorem G7:FL ⟨#[]⟩:=⟨[],fun r hr=>(by cases hr),rfl⟩
theorem tQ (r:Ty.d b7):5≤aw r∧aw r≤210:=by
 have h1:=jC r
 have h2:=jw (s:=aG r) (by omega)
 have h3:(aQ (aG r)).size≤74:=by
  unfold aQ
  rw [if_neg (by omega)]
  have h4:=j4 (pH (iu (aG r)))
  have h5:=bG ((aG r).size:Int)
  rw [ByteArray.size_append]
  unfold iu at h4 ⊢
  rw [ByteArray.size_append]
  omega
 unfold aw
 omega
theorem yr (t:ByteArray) {r:Ty.d b7} (h:bm r=true):dk (t++aQ (aG r)) (t.size:Int) (aw r)=(r,true):=by
 have hz:=jC r
 have hp:=tQ r
 have hl:((aQ (aG r)).size:Int)=aw r:=rfl
 have hs:(t++aQ (aG r)).size=t.size+(aQ (aG r)).size:=ByteArray.size_append ..
 have e:ByteArray.extract (t++aQ (aG r)) (t.size:Int).toNat ((t.size:Int)+aw r).toNat=aQ (aG r):=by
  rw [Int.toNat_natCast,show ((t.size:Int)+aw r).toNat=(t++aQ (aG r)).size by omega]
  exact dj _ _
 have e2:fi (aQ (aG r))=(aG r,((aQ (aG r)).size:Int)):=by
  have:=mV ⟨#[]⟩ (t:=aG r) (by omega)
  rw [Ft] at this
  exact this
 unfold dk
 rw [if_pos ⟨by omega,by omega,by omega,by omega⟩,e,e2]
 simp only []
 rw [if_pos hl,sG h]
def J2 (x:Ty.d aB):Bool:=lH x.1&&(decide ((1:Int)≤x.2.1∧x.2.1≤100000)&&(!decide (x.2.2.1<(0:Int))&&(decide ((1:Int)≤x.2.2.2.1∧x.2.2.2.1≤210)&&decide ((1:Int)≤x.2.2.2.2.1∧x.2.2.2.2.1≤1000000))))
theorem F6 (p:Option (Ty.d aB)) (x:Ty.d aB):oH p x=true↔(J2 x=true∧∀ q,p=some q→mh q.1 x.1=true):=by
 unfold oH J2
 simp only [gN]
 cases p with
 | none=>exact ⟨fun h=>⟨⟨h.1,h.2.1,h.2.2.1,h.2.2.2.1,h.2.2.2.2.1⟩,fun q hq=>(by cases hq)⟩,fun h=>⟨h.1.1,h.1.2.1,h.1.2.2.1,h.1.2.2.2.1,h.1.2.2.2.2,rfl⟩⟩
 | some y=>exact ⟨fun h=>⟨⟨h.1,h.2.1,h.2.2.1,h.2.2.2.1,h.2.2.2.2.1⟩,fun q hq=>(by cases hq;exact h.2.2.2.2.2)⟩,fun h=>⟨h.1.1,h.1.2.1,h.1.2.2.1,h.1.2.2.2.1,h.1.2.2.2.2,h.2 y rfl⟩⟩
def iO (l:aR):List ByteArray:=l.map (·.1)
theorem Dn:∀ (l:aR) (p:Option (Ty.d aB)),nC oH p l=true↔((∀ f ∈ l,J2 f=true)∧cW (iO l)∧(∀ q,p=some q→∀ f ∈ l,mh q.1 f.1=true))
 | [],p=>by
  constructor
  · intro _
    exact ⟨fun f h=>(by cases h),List.Pairwise.nil,fun q _ f h=>(by cases h)⟩
  · intro _;rfl
 | g::l,p=>by
  have ih:=Dn l (some g)
  unfold nC
  rw [gN,ih,F6]
  constructor
  · rintro ⟨⟨h1,h2⟩,h3,h4,h5⟩
    refine ⟨fun f hf=>?_,?_,fun q hq f hf=>?_⟩
    · rcases List.mem_cons.1 hf with e | e
      · rw [e];exact h1
      · exact h3 f e
    · unfold cW iO
      rw [List.map_cons,List.pairwise_cons]
      refine ⟨fun x hx=>?_,h4⟩
      obtain ⟨f,hf,rfl⟩:=List.mem_map.1 hx
      exact h5 g rfl f hf
    · rcases List.mem_cons.1 hf with e | e
      · rw [e];exact h2 q hq
      · exact oF (h2 q hq) (h5 g rfl f e)
  · rintro ⟨h1,h2,h3⟩
    unfold cW iO at h2
    rw [List.map_cons,List.pairwise_cons] at h2
    refine ⟨⟨h1 g (jd ..),fun q hq=>h3 q hq g (jd ..)⟩,fun f hf=>h1 f (lK _ hf),h2.2,fun q hq f hf=>?_⟩
    cases hq
    exact h2.1 f.1 (List.mem_map.2 ⟨f,hf,rfl⟩)
theorem rt {l:aR}:oA l=true↔(l.length≤20∧(∀ f ∈ l,J2 f=true)∧cW (iO l)):=by
 unfold oA
 rw [gN,decide_eq_true_eq,Dn]
 exact ⟨fun h=>⟨by omega,h.2.1,h.2.2.1⟩,fun h=>⟨by omega,h.2.1,h.2.2,fun q hq=>(by cases hq)⟩⟩
theorem yl (key:ByteArray) {l:aR} (h:cW (iO l)):cW (iO (h9 l key)):=List.Pairwise.sublist (List.Sublist.map _ List.filter_sublist) h
theorem yw {α:Type} (key:α→ByteArray) {e:α}:∀ {l:List α},cW (l.map key)→(∀ g ∈ l,key g≠key e)→cW ((l.takeWhile (fun x=>mh (key x) (key e)||seq (key x) (key e))++e::l.dropWhile (fun x=>mh (key x) (key e)||seq (key x) (key e))).map key)
 | [],_,_=>List.pairwise_singleton ..
 | g::l,h,hn=>by
  have h':=h
  unfold cW at h'
  rw [List.map_cons,List.pairwise_cons] at h'
  have ih:=yw key (e:=e) (l:=l) h'.2 fun x hx=>hn x (lK _ hx)
  rw [List.takeWhile_cons,List.dropWhile_cons]
  have hne:=hn g jd
  cases c:(mh (key g) (key e)||seq (key g) (key e)) with
  | true =>
   rw [if_pos rfl,if_pos rfl]
   unfold cW at ih ⊢
   rw [List.cons_append,List.map_cons,List.pairwise_cons]
   refine ⟨fun x hx=>?_,ih⟩
   have hge:mh (key g) (key e)=true:=by
    rw [kK hne,Bool.or_false] at c
    exact c
   obtain ⟨y,hy,rfl⟩:=List.mem_map.1 hx
   rcases List.mem_append.1 hy with w | w
   · exact h'.1 (key y) (List.mem_map.2 ⟨y,List.takeWhile_subset _ w,rfl⟩)
   · rcases List.mem_cons.1 w with w | w
     · rw [w];exact hge
     · exact h'.1 (key y) (List.mem_map.2 ⟨y,List.dropWhile_subset _ w,rfl⟩)
  | false =>
   rw [if_neg (by decide),if_neg (by decide),List.nil_append]
   rw [kK hne,Bool.or_false] at c
   have hlt:mh (key e) (key g)=true:=by
    have:=lT (key e) (key g)
    rw [kK (fun q=>hne q.symm),c] at this
    simpa using this
   unfold cW
   rw [List.map_cons,List.pairwise_cons]
   refine ⟨fun x hx=>?_,h⟩
   obtain ⟨y,hy,rfl⟩:=List.mem_map.1 hx
   rcases List.mem_cons.1 hy with w | w
   · rw [w];exact hlt
   · exact oF hlt (h'.1 (key y) (List.mem_map.2 ⟨y,w,rfl⟩))
theorem GK {e:Ty.d aB} {l:aR} (h:cW (iO l)) (hn:∀ g ∈ l,g.1≠e.1):cW (iO (pZ l e)):=yw (fun x:Ty.d aB=>x.1) h hn
theorem I9 {l:aR} {key:ByteArray}:∀ g ∈ h9 l key,g.1≠key:=fun g hg q=>by
 unfold h9 at hg
 rw [List.mem_filter] at hg
 have:=hg.2
 rw [q,bX] at this
 cases this
theorem Eo {d:aR} (p:Ty.d aC) (h:cW (iO d)):cW (iO (fI d p)):=by
 unfold fI
 cases p.2.2.2.1.1==2 with
 | true=>exact yl _ h
 | false=>exact GK (yl _ h) I9
theorem oW:∀ (ps:aW) {d:aR},cW (iO d)→cW (iO (bL d ps))
 | [],_,h=>h
 | p::ps,d,h=>oW ps (d:=fI d p) (Eo p h)
end Go.Proofs.YtnpijgnfpdcjbaaGreatDoor.G

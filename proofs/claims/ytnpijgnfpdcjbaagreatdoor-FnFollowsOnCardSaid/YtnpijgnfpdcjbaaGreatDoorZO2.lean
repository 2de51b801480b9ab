/- Plain laws, merged; what is proved here is told ahead of each part. -/
import Derived.Test.YtnpijgnfpdcjbaaGreatDoorZO1
set_option linter.unusedVariables false
set_option linter.unusedSimpArgs false
namespace Go.Proofs.YtnpijgnfpdcjbaaGreatDoor.G
open Go.V
def o7 (p:Option (Ty.d aB)) (x:Ty.d aB):Bool :=
 ku x.1&&(decide ((1:Int)≤x.2.1∧x.2.1≤100000)&&(!decide (x.2.2.1<(0:Int))&&(decide ((1:Int)≤x.2.2.2.1∧x.2.2.2.1≤210)&&(decide ((1:Int)≤x.2.2.2.2.1∧x.2.2.2.2.1≤1000000)&&(match p with | none=>true | some y=>mo y.1 x.1)))))
def oJ (l:aR):Bool:=decide ((l.length:Int)≤20)&&nJ o7 none l
theorem vf {k:Nat} (hk:2 ^ 50≤k) (l:aR):eR.f k l=some (oJ l,()):=by
 unfold eR.f eR.t oJ
 by_cases c:l.length > 20
 · rw [aO (by omega),ac,aP (by omega),Bool.false_and]
 · rw [aP (by omega),aK,aO (by omega),Bool.true_and]
   refine (pk (L:=fun n i=>eR.l0 k n l i) (Ty.z aB) l o7 (some (true,())) (some (false,())) (fun n=>?_) (fun n x h hx=>?_) (fun n i x y h0 h1 hx hy=>?_) (n:=k) (by omega)).trans (by cases nJ o7 none l <;> rfl)
   · simp (disch:=omega) only [eR.l0,eR.b0,aP,aK]
   · simp (disch:=omega) only [eR.l0,eR.b0,aO (show (0:Int)<(l.length:Int) by omega),ac,aH,hx,kF k,fE k,ab,aP (show ¬ (0:Int) > 0 by omega),aK,aD,o7,ku]
     cases decide (1≤(x.1.size:Int)∧(x.1.size:Int)≤8) <;> cases decide ((1:Int)≤x.2.1∧x.2.1≤100000) <;> cases decide (x.2.2.1<(0:Int)) <;> cases decide ((1:Int)≤x.2.2.2.1∧x.2.2.2.1≤210) <;> cases decide ((1:Int)≤x.2.2.2.2.1∧x.2.2.2.2.1≤1000000) <;> rfl
   · simp (disch:=omega) only [eR.l0,eR.b0,aO h1,ac,aH,hx,hy,kF k,fE k,ab,aO (show i > 0 by omega),aK,aD,o7,ku,li]
     cases decide (1≤(x.1.size:Int)∧(x.1.size:Int)≤8) <;> cases decide ((1:Int)≤x.2.1∧x.2.1≤100000) <;> cases decide (x.2.2.1<(0:Int)) <;> cases decide ((1:Int)≤x.2.2.2.1∧x.2.2.2.1≤210) <;> cases decide ((1:Int)≤x.2.2.2.2.1∧x.2.2.2.2.1≤1000000) <;> cases mo y.1 x.1 <;> rfl
theorem Da {k:Nat} (hk:2 ^ 50≤k) {l:aR} (hl:l.length≤1099511627776):fU.f k l=some (oJ l,()):=by
 unfold fU.f fU.t oJ
 refine (pk (L:=fun n i=>fU.l0 k n l l l.length i) (Ty.z aB) l o7 (some (decide ((l.length:Int)≤20),())) (some (false,())) (fun n=>?_) (fun n x h hx=>?_) (fun n i x y h0 h1 hx hy=>?_) (n:=k) (by omega)).trans (by cases nJ o7 none l <;> cases decide ((l.length:Int)≤20) <;> rfl)
 · simp (disch:=omega) only [fU.l0,fU.b0,aP (show ¬ (l.length:Int)<(l.length:Int) by omega),aK]
 · simp (disch:=omega) only [fU.l0,fU.b0,aO (show (0:Int)<(l.length:Int) by omega),ac,aH,hx,oq k,lf k,ab,aP (show ¬ (0:Int) > 0 by omega),aK,aD,o7,ku]
   cases decide (1≤(x.1.size:Int)∧(x.1.size:Int)≤8) <;> cases decide ((1:Int)≤x.2.1∧x.2.1≤100000) <;> cases decide (x.2.2.1<(0:Int)) <;> cases decide ((1:Int)≤x.2.2.2.1∧x.2.2.2.1≤210) <;> cases decide ((1:Int)≤x.2.2.2.2.1∧x.2.2.2.2.1≤1000000) <;> rfl
 · simp (disch:=omega) only [fU.l0,fU.b0,aO h1,ac,aH,hx,hy,oq k,lf k,ab,aO (show i > 0 by omega),aK,aD,o7,ku]
   cases decide (1≤(x.1.size:Int)∧(x.1.size:Int)≤8) <;> cases decide ((1:Int)≤x.2.1∧x.2.1≤100000) <;> cases decide (x.2.2.1<(0:Int)) <;> cases decide ((1:Int)≤x.2.2.2.1∧x.2.2.2.1≤210) <;> cases decide ((1:Int)≤x.2.2.2.2.1∧x.2.2.2.2.1≤1000000) <;> cases mo y.1 x.1 <;> rfl
def vL:aR→ByteArray→Option (Ty.d aB)
 | [],_=>none
 | e::l,s=>bif seq e.1 s then some e else vL l s
def Jt:Ty.d aB:=(ByteArray.empty,(0,(0,(0,(0,())))))
def Hm:Option (Ty.d aB)→Option (Ty.d aB × Bool × Unit)
 | none=>some (Jt,(false,()))
 | some e=>some (e,(true,()))
theorem qs {k:Nat} (hk:2 ^ 50≤k) {l:aR} (hl:l.length≤1099511627776) (s:ByteArray):eU.f k l s=Hm (vL l s):=by
 unfold eU.f eU.t
 refine eG (L:=fun n i (_:Unit)=>eU.l0 k n l s i ByteArray.empty 0 0 0 0) (R:=fun r _=>Hm (vL r s)) (Ty.z aB) l (fun _ _=>True) (fun n _ _=>?_) (fun n i _ x rest h0 h1 hx hr hp ih=>?_) (n:=k) (s:=()) (by omega) trivial
 · simp (disch:=omega) only [eU.l0,eU.b0,aP,aK,vL]
   rfl
 · have ih:=ih () trivial
   simp (disch:=omega) only [eU.l0,eU.b0,aO h1,ac,aH,hx,aD,ih,vL]
   cases seq x.1 s <;> rfl
def J5:Ty.d aL:=(ByteArray.empty,(ByteArray.empty,(0,())))
noncomputable def fR (d:Ty.d aA) (e:Ty.d aB):Ty.d b7 × Bool:=dp (aT d (a_ aF e.2.1)).1 e.2.2.1 e.2.2.2.1
noncomputable def uk (l:aR) (d:Ty.d aA) (key:ByteArray):Ty.d aL × Int :=
 match vL l key with
 | none=>(J5,8)
 | some e=>bif (fR d e).2&&(seq (fR d e).1.2.2.1 key&&(((fR d e).1.1==1)||((fR d e).1.1==4))) then ((key,((fR d e).1.2.2.2.1,((fR d e).1.2.1,()))),0) else (J5,3)
theorem uO (i n:Int):dp ⟨#[]⟩ i n=(rZ,false):=by
 unfold dp
 rw [if_neg]
 rintro ⟨h1,h2,h3,h4⟩
 have:((⟨#[]⟩:ByteArray).size:Int)=0:=rfl
 omega
theorem EO {d:Ty.d aA} {s:ByteArray} (h:(aT d s).2=false):(aT d s).1=⟨#[]⟩:=by
 unfold aT at h ⊢
 generalize gd d=b at h ⊢
 generalize bh d.1 s=o at h ⊢
 cases b <;> cases o <;> first | rfl | cases h
theorem Fp {d:Ty.d aA} {e:Ty.d aB} (h:(fR d e).2=true):(aT d (a_ aF e.2.1)).2=true:=by
 cases c:(aT d (a_ aF e.2.1)).2 with
 | true=>rfl
 | false =>
  unfold fR at h
  rw [EO c,uO] at h
  cases h
theorem xK {k:Nat} (hk:2 ^ 50≤k) {st:Ty.d aE} {d:Ty.d aA} (hd:zE d) (hl:st.2.1.length≤1099511627776) (key:ByteArray):kQ.f k st d key=some ((uk st.2.1 d key).1,((uk st.2.1 d key).2,())):=by
 have:=hd.l;have:=hd.u;have:=hd.n
 unfold kQ.f kQ.t uk
 rw [qs hk hl]
 cases vL st.2.1 key with
 | none=>rfl
 | some e =>
  unfold Hm
  have hz:=fo d (a_ aF e.2.1)
  simp only [ab,fh,aK,bU hk]
  rw [gS hk (by omega) (by omega) (by omega),ab]
  simp only []
  rw [sy hk _ _ (by omega),ab]
  change (bif !(aT d (a_ aF e.2.1)).2 then _ else bif !(fR d e).2 then _ else bif !seq (fR d e).1.2.2.1 key then _ else bif !((fR d e).1.1==1) then bif !((fR d e).1.1==4) then _ else some ((key,((fR d e).1.2.2.2.1,((fR d e).1.2.1,()))),(0,())) else some ((key,((fR d e).1.2.2.2.1,((fR d e).1.2.1,()))),(0,())))=_
  cases c:(fR d e).2 with
  | false=>cases (aT d (a_ aF e.2.1)).2 <;> rfl
  | true =>
   rw [Fp c]
   cases seq (fR d e).1.2.2.1 key <;> cases ((fR d e).1.1==1) <;> cases ((fR d e).1.1==4) <;> rfl
noncomputable def pP (l:aR) (d:Ty.d aA):List ByteArray→iA→iA × Int
 | [],acc=>(acc,0)
 | key::r,acc=>bif (uk l d key).2 != 0 then ([],(uk l d key).2) else pP l d r (acc++[(uk l d key).1])
noncomputable def gf (l:aR) (d:Ty.d aA):iA × Int:=pP l d (l.map (·.1)) []
theorem yI (l:aR) (d:Ty.d aA):∀ (r:List ByteArray) (acc:iA),(pP l d r acc).1.length≤acc.length+r.length
 | [],acc=>Nat.le_refl _
 | key::r,acc=>by
  unfold pP
  cases (uk l d key).2 != 0 with
  | true=>exact Nat.zero_le _
  | false =>
   have:=yI l d r (acc++[(uk l d key).1])
   rw [bv] at this
   rw [aK,kJ]
   omega
theorem ny (l:aR) (d:Ty.d aA):(gf l d).1.length≤l.length:=by
 have:=yI l d (l.map (·.1)) []
 rw [List.length_map,List.length_nil] at this
 unfold gf
 omega
theorem uK {k:Nat} (hk:2 ^ 50≤k) {st:Ty.d aE} {d:Ty.d aA} (hd:zE d) (hl:st.2.1.length≤1099511627775):eO.f k st d=some ((gf st.2.1 d).1,((gf st.2.1 d).2,())):=by
 unfold eO.f eO.t gf
 refine eG (L:=fun n i s=>eO.l0 k n i st.1.1 st.1.2.1 st.2.1 st.2.2.1 st.2.2.2.1 st.2.2.2.2.1 d.1 d.2.1 d.2.2.1 d.2.2.2.1 s) (R:=fun r s=>some ((pP st.2.1 d (r.map (·.1)) s).1,((pP st.2.1 d (r.map (·.1)) s).2,()))) (Ty.z aB) st.2.1 (fun i s=>(s.length:Int)=i) (fun n s hs=>?_) (fun n i s x rest h0 h1 hx hr hp ih=>?_) (n:=k) (s:=[]) (by omega) rfl
 · simp (disch:=omega) only [eO.l0,eO.b0,aP,aK,List.map_nil,pP]
 · have hg:=xK hk (st:=st) (d:=d) hd (by omega) x.1
   have ih:=ih (s++[(uk st.2.1 d x.1).1]) (by rw [bv];omega)
   simp (disch:=first | omega | decide) only [eO.l0,eO.b0,aO h1,ac,aH,hx,hg,ab,cD,aD,ih,List.map_cons,pP]
   cases (uk st.2.1 d x.1).2 != 0 <;> rfl
noncomputable def Ax (d:Ty.d aA) (tail:Int) (x:Int) (last:Bool):Bool :=
 (aT d (a_ aF x)).2&&(decide ((az (aT d (a_ aF x)).1).2=((aT d (a_ aF x)).1.size:Int))&&(!last||(tail==((aT d (a_ aF x)).1.size:Int))))
noncomputable def lk (d:Ty.d aA) (tail:Int):List Int→Bool
 | []=>true
 | x::l=>Ax d tail x l.isEmpty&&lk d tail l
noncomputable def ly (d:Ty.d aA) (next:Int) (e:Ty.d aB):Bool :=
 (fR d e).2&&(seq (fR d e).1.2.2.1 e.1&&(((fR d e).1.2.1==e.2.2.2.2.1)&&((((fR d e).1.1==1)||((fR d e).1.1==4))&&!decide (e.2.2.2.2.1≥next))))
noncomputable def d9 (st:Ty.d aE) (d:Ty.d aA):Bool :=
 gd d&&(cS st.1&&(oJ st.2.1&&(decide ((1:Int)≤st.2.2.1∧st.2.2.1≤1000001)&&(lk d st.2.2.2.1 st.1.2.1&&st.2.1.all (ly d st.2.2.1)))))
theorem C0 {α:Type} {l:List α} {i:Int} {x:α} {rest:List α} (h0:0≤i) (h:l.drop i.toNat=x::rest):rest.isEmpty=decide (i+1=(l.length:Int)):=by
 have:=congrArg List.length h
 rw [List.length_drop,kJ] at this
 cases rest with
 | nil=>rw [aO (by rw [List.length_nil] at this;omega)];rfl
 | cons y r=>rw [aP (by rw [kJ] at this;omega)];rfl
theorem ru {k:Nat} (hk:2 ^ 50≤k) {st:Ty.d aE} {d:Ty.d aA} (hd:zE d):cB.f k st d=some (d9 st d,()):=by
 have:=hd.l;have:=hd.u;have:=hd.n
 unfold cB.f cB.t d9
 rw [j_ hk (by omega) (by omega),ab]
 cases gd d with
 | false=>rfl
 | true =>
  rw [fh,aK,q_ hk,ab,Bool.true_and]
  cases cl:cS st.1 with
  | false=>rfl
  | true =>
   rw [fh,aK,vf hk,ab,Bool.true_and]
   cases cd:oJ st.2.1 with
   | false=>rfl
   | true =>
    rw [fh,aK,fE,ab,Bool.true_and]
    cases decide ((1:Int)≤st.2.2.1∧st.2.2.1≤1000001) with
    | false=>rfl
    | true =>
     rw [fh,aK,Bool.true_and]
     have hl:st.1.2.1.length≤60:=by
      unfold cS at cl
      rw [gN,gN,decide_eq_true_eq,decide_eq_true_eq] at cl
      omega
     have he:st.2.1.length≤20:=by
      unfold oJ at cd
      rw [gN,decide_eq_true_eq] at cd
      omega
     have l1:cB.l1 k k 0 st.1.1 st.1.2.1 st.2.1 st.2.2.1 st.2.2.2.1 st.2.2.2.2.1 d.1 d.2.1 d.2.2.1 d.2.2.2.1=some (st.2.1.all (ly d st.2.2.1),()):=by
      refine eG (L:=fun n i (_:Unit)=>cB.l1 k n i st.1.1 st.1.2.1 st.2.1 st.2.2.1 st.2.2.2.1 st.2.2.2.2.1 d.1 d.2.1 d.2.2.1 d.2.2.2.1) (R:=fun r _=>some (r.all (ly d st.2.2.1),())) (Ty.z aB) st.2.1 (fun _ _=>True) (fun n _ _=>?_) (fun n i _ x rest h0 h1 hx hr hp ih=>?_) (n:=k) (s:=()) (by omega) trivial
      · simp (disch:=omega) only [cB.l1,cB.b1,aP,aK,List.all_nil]
      · have ih:=ih () trivial
        have hz:=fo d (a_ aF x.2.1)
        have ht:=gS hk (d:=d) (by omega) (by omega) (by omega) (a_ aF x.2.1)
        have hr:=sy hk (s:=(aT d (a_ aF x.2.1)).1) x.2.2.1 x.2.2.2.1 (by omega)
        simp (disch:=omega) only [cB.l1,cB.b1,aO h1,ac,aH,hx,bU hk,ab,ht,hr,aD,ih,List.all_cons,ly,fR,bne]
        cases (dp (aT d (a_ aF x.2.1)).1 x.2.2.1 x.2.2.2.1).2 <;> cases seq (dp (aT d (a_ aF x.2.1)).1 x.2.2.1 x.2.2.2.1).1.2.2.1 x.1 <;> cases ((dp (aT d (a_ aF x.2.1)).1 x.2.2.1 x.2.2.2.1).1.2.1==x.2.2.2.2.1) <;>
         cases ((dp (aT d (a_ aF x.2.1)).1 x.2.2.1 x.2.2.2.1).1.1==1) <;> cases ((dp (aT d (a_ aF x.2.1)).1 x.2.2.1 x.2.2.2.1).1.1==4) <;> cases decide (x.2.2.2.2.1≥st.2.2.1) <;> rfl
     refine (eG (L:=fun n i (_:Unit)=>cB.l0 k n i st.1.1 st.1.2.1 st.2.1 st.2.2.1 st.2.2.2.1 st.2.2.2.2.1 d.1 d.2.1 d.2.2.1 d.2.2.2.1) (R:=fun r _=>some (lk d st.2.2.2.1 r&&st.2.1.all (ly d st.2.2.1),())) (Ty.z (.int .i64)) st.1.2.1 (fun _ _=>True) (fun n _ _=>?_) (fun n i _ x rest h0 h1 hx hr hp ih=>?_) (n:=k) (s:=()) (by omega) trivial)
     · simp (disch:=omega) only [cB.l0,cB.b0,aP,aK,lk,l1,Bool.true_and]
     · have ih:=ih () trivial
       have hz:=fo d (a_ aF x)
       have ht:=gS hk (d:=d) (by omega) (by omega) (by omega) (a_ aF x)
       have hs:=m4 hk (s:=(aT d (a_ aF x)).1) (by omega)
       have hle:=(iw (aT d (a_ aF x)).1).2.2
       have hlast:=C0 h0 hr
       simp (disch:=omega) only [cB.l0,cB.b0,aO h1,ac,aH,hx,bU hk,ab,ht,hs,aD,ih,lk,Ax,bne,hlast]
       rw [show ((i+1:Int)==(st.1.2.1.length:Int))=decide (i+1=(st.1.2.1.length:Int)) from rfl]
       cases (aT d (a_ aF x)).2 with
       | false=>rfl
       | true =>
        by_cases q:(az (aT d (a_ aF x)).1).2=((aT d (a_ aF x)).1.size:Int)
        · rw [aO q,aP (by omega)]
          cases decide (i+1=(st.1.2.1.length:Int)) <;> cases (st.2.2.2.1==((aT d (a_ aF x)).1.size:Int)) <;> rfl
        · rw [aP q,aO (by omega)]
          rfl
theorem zC {k:Nat} (hk:2 ^ 50≤k) {st:Ty.d aE} {d:Ty.d aA} (hd:zE d) (hv:st.1.2.1.length≤1099511627776) (hw:st.2.1.length≤1099511627776):cU.f k st d=some (d9 st d,()):=by
 have:=hd.l;have:=hd.u;have:=hd.n
 unfold cU.f cU.t d9
 rw [u9 hk (by omega) (by omega),ab]
 cases gd d with
 | false=>rfl
 | true =>
  rw [fh,aK,uD hk hv,ab,Bool.true_and]
  cases cl:cS st.1 with
  | false=>rfl
  | true =>
   rw [fh,aK,Da hk hw,ab,Bool.true_and]
   cases cd:oJ st.2.1 with
   | false=>rfl
   | true =>
    rw [fh,aK,lf,ab,Bool.true_and]
    cases decide ((1:Int)≤st.2.2.1∧st.2.2.1≤1000001) with
    | false=>rfl
    | true =>
     rw [fh,aK,Bool.true_and]
     have hl:st.1.2.1.length≤60:=by
      unfold cS at cl
      rw [gN,gN,decide_eq_true_eq,decide_eq_true_eq] at cl
      omega
     have he:st.2.1.length≤20:=by
      unfold oJ at cd
      rw [gN,decide_eq_true_eq] at cd
      omega
     have l1:cU.l1 k k st.2.1 st.2.1.length 0 st.1.1 st.1.2.1 st.2.1 st.2.2.1 st.2.2.2.1 st.2.2.2.2.1 d.1 d.2.1 d.2.2.1 d.2.2.2.1=some (st.2.1.all (ly d st.2.2.1),()):=by
      refine eG (L:=fun n i (_:Unit)=>cU.l1 k n st.2.1 st.2.1.length i st.1.1 st.1.2.1 st.2.1 st.2.2.1 st.2.2.2.1 st.2.2.2.2.1 d.1 d.2.1 d.2.2.1 d.2.2.2.1) (R:=fun r _=>some (r.all (ly d st.2.2.1),())) (Ty.z aB) st.2.1 (fun _ _=>True) (fun n _ _=>?_) (fun n i _ x rest h0 h1 hx hr hp ih=>?_) (n:=k) (s:=()) (by omega) trivial
      · simp (disch:=omega) only [cU.l1,cU.b1,aP,aK,List.all_nil]
      · have ih:=ih () trivial
        have hz:=fo d (a_ aF x.2.1)
        have ht:=pa hk (d:=d) (by omega) (by omega) (by omega) (a_ aF x.2.1)
        have hr:=t6 hk (s:=(aT d (a_ aF x.2.1)).1) x.2.2.1 x.2.2.2.1 (by omega)
        simp (disch:=omega) only [cU.l1,cU.b1,aO h1,ac,aH,hx,md k,ab,ht,hr,aD,ih,List.all_cons,ly,fR,bne]
        cases (dp (aT d (a_ aF x.2.1)).1 x.2.2.1 x.2.2.2.1).2 <;> cases seq (dp (aT d (a_ aF x.2.1)).1 x.2.2.1 x.2.2.2.1).1.2.2.1 x.1 <;> cases ((dp (aT d (a_ aF x.2.1)).1 x.2.2.1 x.2.2.2.1).1.2.1==x.2.2.2.2.1) <;>
         cases ((dp (aT d (a_ aF x.2.1)).1 x.2.2.1 x.2.2.2.1).1.1==1) <;> cases ((dp (aT d (a_ aF x.2.1)).1 x.2.2.1 x.2.2.2.1).1.1==4) <;> cases decide (x.2.2.2.2.1≥st.2.2.1) <;> rfl
     refine (eG (L:=fun n i (_:Unit)=>cU.l0 k n st.1.2.1 st.1.2.1.length i st.1.1 st.1.2.1 st.2.1 st.2.2.1 st.2.2.2.1 st.2.2.2.2.1 d.1 d.2.1 d.2.2.1 d.2.2.2.1) (R:=fun r _=>some (lk d st.2.2.2.1 r&&st.2.1.all (ly d st.2.2.1),())) (Ty.z (.int .i64)) st.1.2.1 (fun _ _=>True) (fun n _ _=>?_) (fun n i _ x rest h0 h1 hx hr hp ih=>?_) (n:=k) (s:=()) (by omega) trivial)
     · simp (disch:=omega) only [cU.l0,cU.b0,aP,aK,lk,l1,Bool.true_and]
     · have ih:=ih () trivial
       have hz:=fo d (a_ aF x)
       have ht:=pa hk (d:=d) (by omega) (by omega) (by omega) (a_ aF x)
       have hs:=uC hk (s:=(aT d (a_ aF x)).1) (by omega)
       have hlast:=C0 h0 hr
       simp (disch:=omega) only [cU.l0,cU.b0,aO h1,ac,aH,hx,md k,ab,ht,hs,aD,ih,lk,Ax,bne,hlast]
       rw [show (i==(st.1.2.1.length:Int)-1)=decide (i+1=(st.1.2.1.length:Int)) from (show decide (i=(st.1.2.1.length:Int)-1)=_ from decide_eq_decide.2 (by omega))]
       cases (aT d (a_ aF x)).2 with
       | false=>rfl
       | true =>
        by_cases q:(az (aT d (a_ aF x)).1).2=((aT d (a_ aF x)).1.size:Int)
        · rw [aO q,show ((az (aT d (a_ aF x)).1).2==((aT d (a_ aF x)).1.size:Int))=true from beq_iff_eq.2 q,q]
          cases decide (i+1=(st.1.2.1.length:Int)) <;> cases (st.2.2.2.1==((aT d (a_ aF x)).1.size:Int)) <;> rfl
        · rw [aP q,show ((az (aT d (a_ aF x)).1).2==((aT d (a_ aF x)).1.size:Int))=false from mC q]
          rfl
theorem B7 (s:ByteArray):ByteArray.extract s s.size s.size=⟨#[]⟩:=jV (by rw [gk,List.drop_eq_nil_of_le (by rw [cP];omega)];rfl)
theorem Fy (s:ByteArray):∀ (d d':Nat) (i:Int),0≤i→i≤s.size→(s.size:Int)-i<d→(fS s d i).2-i<d'→fS (ByteArray.extract s 0 (fS s d i).2.toNat) d' i=fS s d i:=by
 intro d
 induction d with
 | zero=>intro d' i h0 h1 h2;omega
 | succ d ih =>
  intro d' i h0 h1 h2 h3
  have hu:=lU (ByteArray.extract s i.toNat s.size)
  have hz:=o9 s i.toNat
  have stop:∀ d':Nat,0<d'→fS (ByteArray.extract s 0 i.toNat) d' i=([],i):=fun d' hd=>by
   obtain ⟨n,rfl⟩:∃ q,d'=q+1:=⟨d'-1,by omega⟩
   have hs:(ByteArray.extract s 0 i.toNat).size=i.toNat:=qQ s (by omega)
   have e:ByteArray.extract (ByteArray.extract s 0 i.toNat) i.toNat (ByteArray.extract s 0 i.toNat).size=⟨#[]⟩:=by
    have:=B7 (ByteArray.extract s 0 i.toNat)
    rw [hs] at this ⊢
    exact this
   rw [fS,e,v7,if_pos rfl]
  by_cases c1:(fi (ByteArray.extract s i.toNat s.size)).2=0
  · have e:fS s (d+1) i=([],i):=by rw [fS,if_pos c1]
    rw [e] at h3 ⊢
    exact stop d' (by simp only [] at h3;omega)
  · cases c2:(gB (fi (ByteArray.extract s i.toNat s.size)).1).2 with
    | false =>
     have e:fS s (d+1) i=([],i):=by rw [fS,if_neg c1,if_pos c2]
     rw [e] at h3 ⊢
     exact stop d' (by simp only [] at h3;omega)
    | true =>
     have e:fS s (d+1) i=(((i,((fi (ByteArray.extract s i.toNat s.size)).2,((gB (fi (ByteArray.extract s i.toNat s.size)).1).1,()))):Ty.d c_)::(fS s d (i+(fi (ByteArray.extract s i.toNat s.size)).2)).1,(fS s d (i+(fi (ByteArray.extract s i.toNat s.size)).2)).2):=by
      rw [fS,if_neg c1,if_neg (by rw [c2];decide)]
     rw [e] at h3 ⊢
     simp only [] at h3 ⊢
     have hl:=tW s d (i+(fi (ByteArray.extract s i.toNat s.size)).2) (by omega) (by omega)
     obtain ⟨n,rfl⟩:∃ q,d'=q+1:=⟨d'-1,by omega⟩
     have ih:=ih n (i+(fi (ByteArray.extract s i.toNat s.size)).2) (by omega) (by omega) (by omega) (by omega)
     have key:fi (ByteArray.extract (ByteArray.extract s 0 (fS s d (i+(fi (ByteArray.extract s i.toNat s.size)).2)).2.toNat) i.toNat (ByteArray.extract s 0 (fS s d (i+(fi (ByteArray.extract s i.toNat s.size)).2)).2.toNat).size)=fi (ByteArray.extract s i.toNat s.size):=by
      generalize (fS s d (i+(fi (ByteArray.extract s i.toNat s.size)).2)).2=x at hl ⊢
      rcases mc (ByteArray.extract s i.toNat s.size) with ⟨t,r,ht,e1,e2⟩ | ⟨e2,_⟩
      · rw [e2] at hl ⊢
        simp only [] at hl
        have e3:ByteArray.extract (ByteArray.extract s 0 x.toNat) i.toNat (ByteArray.extract s 0 x.toNat).size=aQ t++ByteArray.extract r 0 (x.toNat-i.toNat-(aQ t).size):=by
         apply jV
         have hnb:=congrArg nb e1
         rw [gk,gQ] at hnb
         rw [gk,jw,gQ,jw,List.drop_take,hnb,List.take_append,cP,List.take_of_length_le (by rw [cP];omega)]
        rw [e3,mX _ ht]
      · exact absurd (by rw [e2]) c1
     rw [fS,key,if_neg c1,if_neg (by rw [c2];decide),ih]
theorem yV (s:ByteArray):az (ByteArray.extract s 0 (az s).2.toNat)=az s:=by
 have hl:=iw s
 have:=Fy s (s.size+1) ((az s).2.toNat+1) 0 (by omega) (by omega) (by omega) (by show (az s).2-0<_;omega)
 have hz:=qQ s (n:=(az s).2.toNat) (by omega)
 unfold az at hz ⊢
 rw [hz]
 exact this
theorem qn {h:Ty.d dJ→Ty.d dJ} (hh:∀ f,(h f).1=f.1):∀ (l:bn) (s t:ByteArray),bh (lI h l s) t=bif seq t s then (bh l s).map h else bh l t
 | [],s,t=>by cases seq t s <;> rfl
 | g::l,s,t=>by
  unfold lI
  cases c:seq g.1 s with
  | true =>
   have e:=dr.1 c
   rw [ac,bh.eq_2,hh,bh.eq_2,c,ac]
   by_cases q:t=s
   · rw [e,q,bV];rfl
   · rw [kP q,aK,bh.eq_2]
     rw [e,kP (fun w=>q w.symm)]
     rfl
  | false =>
   rw [aK,bh.eq_2,bh.eq_2,c,aK,qn hh l s t,bh.eq_2]
   by_cases q:t=s
   · rw [q,bV,c];rfl
   · rw [kP q];rfl
theorem oH {d:Ty.d aA} {g:bn→Int→bn × Int} (h:(ik d g).2=0):(g d.1 d.2.1).2=0∧(ik d g).1.1=(g d.1 d.2.1).1:=by
 unfold ik at h ⊢
 cases c:(jF d).2 != 0 with
 | true =>
  rw [c,ac] at h
  rw [h] at c
  cases c
 | false=>rw [c] at h;exact ⟨h,rfl⟩
theorem kf {d:Ty.d aA} (h:DR d) (s:ByteArray):aT d s=match bh d.1 s with | none=>(⟨#[]⟩,false) | some f=>(f.2.1,true):=by
 unfold aT
 rw [jQ.2 h]
 rfl
theorem q8 {d:Ty.d aA} (h:DR d) {n:ByteArray} (c:(fm d n).2=0) (s:ByteArray):aT (fm d n).1 s=aT d s:=by
 obtain ⟨c1,c2⟩:=oH c
 rw [kf (lR h n),kf h]
 unfold fm
 rw [c2]
 unfold uf at c1 ⊢
 cases hg:(bh d.1 n).isNone with
 | true=>rfl
 | false =>
  rw [aK]
  show (match bh (lI _ d.1 n) s with | none=>_ | some f=>_)=_
  rw [qn (by intro f;rfl)]
  by_cases q:s=n
  · rw [q,bV,ac]
    cases bh d.1 n <;> rfl
  · rw [kP q,aK]
theorem wD {d:Ty.d aA} (h:DR d) {n:ByteArray} {m:Int} (c:(xF d n m).2=0) (s:ByteArray):aT (xF d n m).1 s=bif seq s n then (ByteArray.extract (aT d n).1 0 m.toNat,true) else aT d s:=by
 obtain ⟨c1,c2⟩:=oH c
 rw [kf (wM h n m),kf h,kf h]
 unfold xF
 rw [c2]
 unfold FY at c1 ⊢
 cases hg:bh d.1 n with
 | none=>rw [hg] at c1;cases c1
 | some f =>
  rw [hg] at c1
  simp only [] at c1 ⊢
  cases hm:decide (0≤m∧m≤(f.2.1.size:Int)) with
  | false=>rw [hm] at c1;cases c1
  | true =>
   simp only [fh,aK]
   rw [qn (by intro f;rfl)]
   by_cases q:s=n
   · rw [q,bV,ac,hg];rfl
   · rw [kP q,aK,aK]
theorem iv {r:RD} {f:Ty.d aA→RD} (h:(gM r f).2=0):r.2=0∧gM r f=f r.1∧(f r.1).2=0:=by
 unfold gM at h ⊢
 cases c:r.2==0 with
 | true=>rw [c] at h;exact ⟨Hi c,rfl,h⟩
 | false =>
  rw [c] at h
  rw [aK] at h
  rw [h] at c
  cases c
noncomputable def dq (d:Ty.d aA) (x:Int):ByteArray:=(aT d (a_ aF x)).1
def aZ (ids:List Int):Int:=ids.getD (ids.length-1) 0
noncomputable def fN (x:Int) (d:Ty.d aA):RD :=
 gM (bif decide ((az (dq d x)).2<((dq d x).size:Int)) then xF d (a_ aF x) (az (dq d x)).2 else (d,0)) fun y=>fm y (a_ aF x)
theorem Gy (x:Int) {d:Ty.d aA} (h:DR d):DR (fN x d).1:=by
 unfold fN
 refine im ?_ fun y hy=>lR hy _
 cases decide ((az (dq d x)).2<((dq d x).size:Int))
 · exact h
 · exact wM h _ _
theorem Gs {d:Ty.d aA} (h:DR d) {x:Int} (c:(fN x d).2=0) (s:ByteArray):(aT (fN x d).1 s).2=(aT d s).2∧az (aT (fN x d).1 s).1=az (aT d s).1:=by
 obtain ⟨c1,c2,c3⟩:=iv c
 have e:fN x d=_:=c2
 rw [e]
 by_cases hb:(az (dq d x)).2<((dq d x).size:Int)
 · simp only [aO hb,ac] at c1 c3 ⊢
   rw [q8 (wM h _ _) c3,wD h c1]
   by_cases q:s=a_ aF x
   · rw [q,bV,ac]
     refine ⟨?_,yV (dq d x)⟩
     cases hq:(aT d (a_ aF x)).2 with
     | true=>rfl
     | false =>
      exfalso
      unfold dq at hb
      have hl:=iw (aT d (a_ aF x)).1
      rw [EO hq] at hb hl
      rw [e0] at hb
      omega
   · rw [kP q];exact ⟨rfl,rfl⟩
 · simp only [aP hb,aK] at c1 c3 ⊢
   rw [q8 h c3]
   exact ⟨rfl,rfl⟩
theorem EN {pre rest:ByteArray} {r:Ty.d b7} (h:bm r=true) (d:Nat) :
 fS (pre++(aQ (aG r)++rest)) (d+1) (pre.size:Int)=(((pre.size:Int),(((aQ (aG r)).size:Int),(r,())))::(fS (pre++(aQ (aG r)++rest)) d ((pre.size+(aQ (aG r)).size:Nat):Int)).1,(fS (pre++(aQ (aG r)++rest)) d ((pre.size+(aQ (aG r)).size:Nat):Int)).2):=by
 have hz:=jJ r
 have hp:=jq (s:=aG r) (by omega)
 rw [fS,nt,dk,mX rest (by omega)]
 simp only []
 rw [sT h,if_neg (by omega)]
 simp only []
 rw [if_neg (show ¬ ((true:Bool)=false) by decide)]
 rfl
theorem uN:∀ (rs:j2) (pre:ByteArray) (d:Nat),(∀ r ∈ rs,bm r=true)→(aX rs).size<d→(fS (pre++aX rs) d (pre.size:Int)).1.map (·.2.2.1)=rs∧(fS (pre++aX rs) d (pre.size:Int)).2=((pre++aX rs).size:Int)
 | [],pre,d,_,hd=>by
  obtain ⟨d,rfl⟩:∃ q,d=q+1:=⟨d-1,by omega⟩
  have:fi (ByteArray.extract (pre++aX []) (Int.toNat (pre.size:Int)) (pre++aX []).size)=(⟨#[]⟩,0):=by
   rw [nt,dk,aX,v7]
  rw [fS,this,if_pos rfl,aX,aN,e0]
  exact ⟨rfl,rfl⟩
 | r::rs,pre,d,h,hd=>by
  rw [aX,aN] at hd
  have hz:=jJ r
  have hp:=jq (s:=aG r) (by omega)
  obtain ⟨d,rfl⟩:∃ q,d=q+1:=⟨d-1,by omega⟩
  have ih:=uN rs (pre++aQ (aG r)) d (fun x hx=>h x (lL _ hx)) (by omega)
  rw [ai,aN pre] at ih
  rw [aX,EN (h r (jd ..))]
  simp only [List.map_cons]
  exact ⟨by rw [ih.1],ih.2⟩
theorem p0 {rs:j2} (h:∀ r ∈ rs,bm r=true):(az (aX rs)).1.map (·.2.2.1)=rs∧(az (aX rs)).2=((aX rs).size:Int):=by
 have:=uN rs ⟨#[]⟩ ((aX rs).size+1) h (by omega)
 rw [nL,e0] at this
 exact this
abbrev lD:=List (Ty.d dI)
def nl (x:Ty.d dI):Bool:=ku x.1&&(decide ((x.2.2.1.size:Int)≤24)&&(!x.2.1||seq x.2.2.1 ⟨#[]⟩))
def jz (l:lD):Bool:=nJ (fun _=>nl) none l&&decide (l.length≤8)
theorem nr {k:Nat} (hk:2 ^ 50≤k) (l:lD):cF.f k l=some (jz l,()):=by
 unfold cF.f cF.t jz
 by_cases c:l.length > 8
 · rw [aO (by omega),ac,aP (by omega),Bool.and_false]
 · rw [aP (by omega),aK,aO (by omega),Bool.and_true]
   have st:∀ (n:Nat) (i:Int) x,0≤i→i<l.length→l.getD i.toNat (Ty.z dI)=x→cF.l0 k (n+1) l i=bif nl x then cF.l0 k n l (i+1) else some (false,()):=fun n i x h0 h1 hx=>by
    simp (disch:=omega) only [cF.l0,cF.b0,aO h1,ac,aH,hx,kF k,ab,aD,nl,ku]
    by_cases c2:(x.2.2.1.size:Int) > 24
    · rw [aO c2,aP (show ¬ (x.2.2.1.size:Int)≤24 by omega)]
      cases decide (1≤(x.1.size:Int)∧(x.1.size:Int)≤8) <;> rfl
    · rw [aP c2,aO (show (x.2.2.1.size:Int)≤24 by omega)]
      cases decide (1≤(x.1.size:Int)∧(x.1.size:Int)≤8) <;> cases x.2.1 <;> cases seq x.2.2.1 ⟨#[]⟩ <;> rfl
   exact (pk (L:=fun n i=>cF.l0 k n l i) (Ty.z dI) l (fun _=>nl) (some (true,())) (some (false,())) (fun n=>by simp (disch:=omega) only [cF.l0,cF.b0,aP,aK])
    (fun n x h hx=>st n 0 x (by omega) (by omega) hx) (fun n i x y h0 h1 hx hy=>st n i x (by omega) h1 hx) (n:=k) (by omega)).trans (by cases nJ (fun _=>nl) none l <;> rfl)
theorem n8 {l:lD} (h:jz l=true):l.length≤8:=by
 unfold jz at h
 rw [gN,decide_eq_true_eq] at h
 exact h.2
theorem rF {l:lD} (h:jz l=true) {x:Ty.d dI} (hx:x ∈ l):nl x=true:=by
 unfold jz at h
 rw [gN] at h
 exact (AJ h.1 hx).elim fun _ q=>q
def fg (b:Int) (p:Ty.d dI):Ty.d b7:=bif p.2.1 then (2,(b,(p.1,(ByteArray.empty,(0,(0,())))))) else (1,(b,(p.1,(p.2.2.1,(0,(0,()))))))
def iT (l:lD) (b:Int):j2:=l.map (fg b)++[fI 3 b (l.map (fg b))]
def aw (r:Ty.d b7):Int:=((aQ (aG r)).size:Int)
theorem mW (r:Ty.d b7):0≤aw r∧aw r≤211:=by
 have:=kg (aG r)
 unfold aw
 omega
theorem FA {x:Ty.d dI} (b:Int) (h:nl x=true):fg b x=bif x.2.1 then (2,(b,(x.1,(x.2.2.1,(0,(0,())))))) else (1,(b,(x.1,(x.2.2.1,(0,(0,())))))):=by
 unfold fg
 unfold nl at h
 rw [gN,gN] at h
 cases c:x.2.1 with
 | false=>rfl
 | true =>
  rw [c] at h
  have:x.2.2.1=⟨#[]⟩:=dr.1 h.2.2
  rw [this]
  rfl
def gz (l:aR) (key:ByteArray):aR:=l.filter fun x=>!(seq x.1 key)
def Hg (key:ByteArray) (x:Ty.d aB):Bool:=mo x.1 key||seq x.1 key
def qB (l:aR) (e:Ty.d aB):aR:=l.takeWhile (Hg e.1)++e::l.dropWhile (Hg e.1)
def qA (l:aR) (e:Ty.d aB):aR:=qB (gz l e.1) e
theorem o5 (l:aR) (key:ByteArray):(gz l key).length≤l.length:=List.length_filter_le ..
theorem BB (l:aR) (e:Ty.d aB):(qB l e).length=l.length+1:=by
 unfold qB
 rw [uH,kJ]
 have:=congrArg List.length (List.takeWhile_append_dropWhile (p:=Hg e.1) (l:=l))
 rw [uH] at this
 omega
theorem H3 (l:aR) (e:Ty.d aB):(qA l e).length≤l.length+1:=by
 unfold qA
 have:=o5 l e.1
 rw [BB]
 omega
theorem qw {k:Nat} (hk:2 ^ 50≤k) {l:aR} (e:Ty.d aB) (hl:l.length≤1073741823):bz.f k l e=some (qA l e,()):=by
 unfold bz.f bz.t
 refine (eG (L:=fun n i (s:Bool × aR)=>bz.l0 k n l s.1 i e.1 e.2.1 e.2.2.1 e.2.2.2.1 e.2.2.2.2.1 s.2) (R:=fun r s=>some (s.2++bif s.1 then gz r e.1 else qB (gz r e.1) e,())) (Ty.z aB) l (fun i s=>(s.2.length:Int)≤2*i+1) (fun n s hs=>?_) (fun n i s x rest h0 h1 hx hr hp ih=>?_) (n:=k) (s:=(false,[])) (by omega) (by simp)).trans (by rw [List.nil_append];rfl)
 · obtain ⟨dn,out⟩:=s
   simp only [] at hs
   cases dn with
   | true=>simp (disch:=first | omega | decide) only [bz.l0,bz.b0,aP,aK,ac,fh,gz,List.filter_nil,List.append_nil]
   | false=>simp (disch:=first | omega | decide) only [bz.l0,bz.b0,aP,aK,ac,uV,cD,gz,List.filter_nil,qB,List.takeWhile_nil,List.dropWhile_nil,List.nil_append]
 · obtain ⟨dn,out⟩:=s
   simp only [] at hp
   cases c:seq x.1 e.1 with
   | true =>
    simp (disch:=omega) only [bz.l0,bz.b0,aO,ac,aH,hx,c,aD]
    refine (ih (dn,out) (by simp only [];omega)).trans ?_
    simp only [gz,List.filter_cons,c,fh,Bool.false_eq_true,if_false]
   | false =>
    have ef:gz (x::rest) e.1=x::gz rest e.1:=by simp only [gz,List.filter_cons,c,uV,if_true]
    cases dn with
    | true =>
     simp (disch:=first | omega | decide) only [bz.l0,bz.b0,aO,ac,aK,aH,hx,c,aD,fh,cD]
     refine (ih (true,out++[x]) (by simp only [bv];omega)).trans ?_
     rw [ef]
     simp only [ac,nn,List.cons_append,List.nil_append]
    | false =>
     cases c2:mo x.1 e.1 with
     | true =>
      simp (disch:=first | omega | decide) only [bz.l0,bz.b0,aO,ac,aK,aH,hx,c,c2,aD,uV,fh,Bool.true_or,cD]
      refine (ih (false,out++[x]) (by simp only [bv];omega)).trans ?_
      rw [ef]
      simp only [aK,qB,Hg,List.takeWhile_cons,List.dropWhile_cons,c2,Bool.true_or,if_true,nn,List.cons_append,List.nil_append]
     | false =>
      have hx2:(out++[(e.1,(e.2.1,(e.2.2.1,(e.2.2.2.1,(e.2.2.2.2.1,())))))]:aR).length+1≤1099511627776:=by rw [bv];omega
      simp (disch:=first | omega | decide) only [bz.l0,bz.b0,aO,ac,aK,aH,hx,c,c2,aD,uV,Bool.or_false,cD]
      refine (ih (true,(out++[e])++[x]) (by simp only [bv];omega)).trans ?_
      rw [ef]
      simp only [ac,aK,qB,Hg,List.takeWhile_cons,List.dropWhile_cons,c,c2,Bool.or_false,Bool.false_eq_true,if_false,nn,List.cons_append,List.nil_append]
abbrev aW:=List (Ty.d aC)
def eA (b:Int) (acc:aW) (p:Ty.d aC):aW :=
 bif p.2.2.2.1.2.1==b then (bif p.2.2.2.1.1==3 then [] else bif p.2.2.2.1.1==1||p.2.2.2.1.1==2 then acc++[p] else acc) else acc
def fD (acc:aW) (p:Ty.d aC):aW:=bif p.2.2.2.1.1==5 then [] else bif p.2.2.2.1.1==4 then acc++[p] else acc
def eF (b:Int) (l:aW):aW:=l.foldl (eA b) []
def bM (l:aW):aW:=l.foldl fD []
theorem p7 (b:Int) (acc:aW) (p:Ty.d aC):(eA b acc p).length≤acc.length+1:=by
 unfold eA
 cases p.2.2.2.1.2.1==b <;> cases p.2.2.2.1.1==3 <;> cases p.2.2.2.1.1==1 <;> cases p.2.2.2.1.1==2 <;> simp
theorem oh (acc:aW) (p:Ty.d aC):(fD acc p).length≤acc.length+1:=by
 unfold fD
 cases p.2.2.2.1.1==5 <;> cases p.2.2.2.1.1==4 <;> simp
theorem tU {f:aW→Ty.d aC→aW} (h:∀ a p,(f a p).length≤a.length+1):∀ (l acc:aW),(l.foldl f acc).length≤acc.length+l.length
 | [],acc=>by simp
 | p::l,acc=>by
  have:=tU h l (f acc p)
  have:=h acc p
  rw [List.foldl_cons,kJ]
  omega
theorem pX (b:Int) (l:aW):(eF b l).length≤l.length:=by
 have:=tU (p7 b) l []
 simpa [eF] using this
theorem pe (l:aW):(bM l).length≤l.length:=by
 have:=tU oh l []
 simpa [bM] using this
theorem FN {k:Nat} (hk:2 ^ 50≤k) {l:aW} {e:Int} (b:Int) (h0:0≤e) (he:e≤l.length) (hl:l.length≤1099511627775):i7.f k l e b=some (eF b (l.take e.toNat),()):=by
 unfold i7.f i7.t
 have hlen:(l.take e.toNat).length=e.toNat:=by rw [List.length_take];omega
 have he':e=((l.take e.toNat).length:Int):=by omega
 conv=>lhs;rw [he']
 refine eG (L:=fun n i s=>i7.l0 k n l ((l.take e.toNat).length:Int) b i s) (R:=fun r s=>some (r.foldl (eA b) s,())) (Ty.z aC) (l.take e.toNat) (fun i s=>(s.length:Int)≤i) (fun n s hs=>?_) (fun n i s x rest h0 h1 hx hr hp ih=>?_) (n:=k) (s:=[]) (by omega) (by decide)
 · simp (disch:=omega) only [i7.l0,i7.b0,aP,aK,List.foldl_nil]
 · rw [mZ (by omega)] at hx
   have ih:=fun s' (h:s'.length≤s.length+1)=>ih s' (by omega)
   simp (disch:=omega) only [i7.l0,i7.b0,aO h1,ac,aH,hx,aD]
   rw [List.foldl_cons]
   have hs1:=p7 b s x
   have ih1:=ih _ hs1
   rw [← ih1]
   unfold eA
   have r1:∀ {R:Type} (q:Option R),rm (Ty.bytes aC) (s.length+1) q=q:=fun q=>cD (by omega) (by decide)
   have r2:∀ {R:Type} (q:Option R),rm (Ty.bytes aC) (0+1) q=q:=fun q=>cD (by omega) (by decide)
   simp only [r1,r2]
   cases c1:(x.2.2.2.1.2.1==b) <;> cases c2:(x.2.2.2.1.1==3) <;> cases c3:(x.2.2.2.1.1==1) <;> cases c4:(x.2.2.2.1.1==2) <;> first | rfl | skip
   all_goals (exfalso;have e2:=eq_of_beq c2;first | (rw [e2] at c3;revert c3;decide) | (rw [e2] at c4;revert c4;decide))
theorem AF {k:Nat} (hk:2 ^ 50≤k) {l:aW} {r:Ty.d b7} (hr:r.1=3) (hl:l.length≤1099511627775):ch.f k l r=some (eF r.2.1 l,()):=by
 unfold ch.f ch.t
 rw [hr]
 refine eG (L:=fun n i s=>ch.l0 k n l l.length i 3 r.2.1 r.2.2.1 r.2.2.2.1 r.2.2.2.2.1 r.2.2.2.2.2.1 s) (R:=fun q s=>some (q.foldl (eA r.2.1) s,())) (Ty.z aC) l (fun i s=>(s.length:Int)≤i) (fun n s hs=>?_) (fun n i s x rest h0 h1 hx hr hp ih=>?_) (n:=k) (s:=[]) (by omega) (by decide)
 · simp (disch:=omega) only [ch.l0,ch.b0,aP,aK,List.foldl_nil]
 · simp (disch:=omega) only [ch.l0,ch.b0,aO h1,ac,aK,aH,hx,aD,show ((3:Int)==3)=true from rfl,show ((3:Int)==5)=false from rfl]
   rw [List.foldl_cons]
   have hs1:=p7 r.2.1 s x
   have ih1:=ih (eA r.2.1 s x) (by omega)
   rw [← ih1]
   unfold eA bne
   have r1:∀ {R:Type} (q:Option R),rm (Ty.bytes aC) (s.length+1) q=q:=fun q=>cD (by omega) (by decide)
   simp only [r1]
   cases c1:(x.2.2.2.1.2.1==r.2.1) <;> cases c2:(x.2.2.2.1.1==3) <;> cases c3:(x.2.2.2.1.1==1) <;> cases c4:(x.2.2.2.1.1==2) <;> rfl
theorem rt {k:Nat} (hk:2 ^ 50≤k) {l:aW} {r:Ty.d b7} (hr:r.1=5) (hl:l.length≤1099511627775):ch.f k l r=some (bM l,()):=by
 unfold ch.f ch.t
 rw [hr]
 refine eG (L:=fun n i s=>ch.l0 k n l l.length i 5 r.2.1 r.2.2.1 r.2.2.2.1 r.2.2.2.2.1 r.2.2.2.2.2.1 s) (R:=fun q s=>some (q.foldl fD s,())) (Ty.z aC) l (fun i s=>(s.length:Int)≤i) (fun n s hs=>?_) (fun n i s x rest h0 h1 hx hr hp ih=>?_) (n:=k) (s:=[]) (by omega) (by decide)
 · simp (disch:=omega) only [ch.l0,ch.b0,aP,aK,List.foldl_nil]
 · simp (disch:=omega) only [ch.l0,ch.b0,aO h1,ac,aK,aH,hx,aD,show ((5:Int)==3)=false from rfl,show ((5:Int)==5)=true from rfl]
   rw [List.foldl_cons]
   have hs1:=oh s x
   have ih1:=ih (fD s x) (by omega)
   rw [← ih1]
   unfold fD
   have r1:∀ {R:Type} (q:Option R),rm (Ty.bytes aC) (s.length+1) q=q:=fun q=>cD (by omega) (by decide)
   simp only [r1]
   cases c1:(x.2.2.2.1.1==5) <;> cases c2:(x.2.2.2.1.1==4) <;> rfl
def qu (p:Ty.d aC):Ty.d b7:=p.2.2.2.1
def gV (r:Ty.d b7) (own:aW):Bool:=(r.2.2.2.2.1==(own.length:Int))&&(r.2.2.2.2.2.1==ul (own.map qu))
theorem uP {k:Nat} (hk:2 ^ 50≤k) (r:Ty.d b7) {l:aW} (hl:l.length≤1073741823):ga.f k r l=some (gV r l,()):=by
 unfold ga.f ga.t
 refine (eG (L:=fun n i s=>ga.l0 k n l l.length i r.1 r.2.1 r.2.2.1 r.2.2.2.1 r.2.2.2.2.1 r.2.2.2.2.2.1 s) (R:=fun q s=>some ((r.2.2.2.2.1==((s++q.map qu).length:Int))&&(r.2.2.2.2.2.1==ul (s++q.map qu)),())) (Ty.z aC) l (fun i s=>(s.length:Int)=i) (fun n s hs=>?_) (fun n i s x rest h0 h1 hx hr hp ih=>?_) (n:=k) (s:=[]) (by omega) (by decide)).trans (by rw [List.nil_append,List.length_map];rfl)
 · simp (disch:=omega) only [ga.l0,ga.b0,aP,aK,List.map_nil,List.append_nil,zl hk,ab]
   cases (r.2.2.2.2.1==(s.length:Int)) <;> rfl
 · simp (disch:=first | omega | decide) only [ga.l0,ga.b0,aO,ac,aH,hx,cD,aD]
   refine (ih (s++[qu x]) (by rw [bv];omega)).trans ?_
   simp only [List.map_cons,nn,List.cons_append,List.nil_append]
theorem tn {k:Nat} (hk:2 ^ 50≤k) (r:Ty.d b7) {l:aW} (hl:l.length≤1073741823):iX.f k r l=some (gV r l,()):=by
 have e:fZ.f k l=some (l.map qu,()):=by
  unfold fZ.f fZ.t
  refine (eG (L:=fun n i s=>fZ.l0 k n l i s) (R:=fun q s=>some (s++q.map qu,())) (Ty.z aC) l (fun i s=>(s.length:Int)=i) (fun n s hs=>?_) (fun n i s x rest h0 h1 hx hr hp ih=>?_) (n:=k) (s:=[]) (by omega) (by decide)).trans (by rw [List.nil_append])
  · simp (disch:=omega) only [fZ.l0,fZ.b0,aP,aK,List.map_nil,List.append_nil]
  · simp (disch:=first | omega | decide) only [fZ.l0,fZ.b0,aO,ac,aH,hx,cD,aD]
    refine (ih (s++[qu x]) (by rw [bv];omega)).trans ?_
    simp only [List.map_cons,nn,List.cons_append,List.nil_append]
 unfold iX.f iX.t gV
 rw [e,ab]
 simp only []
 rw [oy hk (by rw [List.length_map];omega),ab]
 cases (r.2.2.2.2.1==(l.length:Int)) <;> rfl
theorem pu {k:Nat} (hk:2 ^ 50≤k) {l:aR} (key:ByteArray) (hl:l.length≤1099511627775):cm.f k l key=some (gz l key,()):=by
 unfold cm.f cm.t
 refine (eG (L:=fun n i s=>cm.l0 k n l key i s) (R:=fun r s=>some (s++gz r key,())) (Ty.z aB) l (fun i s=>(s.length:Int)≤i) (fun n s hs=>?_) (fun n i s x rest h0 h1 hx hr hp ih=>?_) (n:=k) (s:=[]) (by omega) (by decide)).trans (by rw [List.nil_append])
 · simp (disch:=omega) only [cm.l0,cm.b0,aP,aK,gz,List.filter_nil,List.append_nil]
 · cases c:seq x.1 key with
   | true =>
    simp (disch:=first | omega | decide) only [cm.l0,cm.b0,aO,ac,aK,aH,hx,c,fh,aD]
    refine (ih s (by omega)).trans ?_
    simp only [gz,List.filter_cons,c,fh,Bool.false_eq_true,if_false]
   | false =>
    simp (disch:=first | omega | decide) only [cm.l0,cm.b0,aO,ac,aH,hx,c,uV,cD,aD]
    refine (ih (s++[x]) (by rw [bv];omega)).trans ?_
    simp only [gz,List.filter_cons,c,uV,if_true,nn,List.cons_append,List.nil_append]
theorem q9 {k:Nat} (hk:2 ^ 50≤k) {l:aR} (key:ByteArray) (hl:l.length≤1099511627775):dD.f k l key=some (gz l key,()):=by
 unfold dD.f dD.t
 refine (eG (L:=fun n i s=>dD.l0 k n key l l.length i s) (R:=fun r s=>some (s++gz r key,())) (Ty.z aB) l (fun i s=>(s.length:Int)≤i) (fun n s hs=>?_) (fun n i s x rest h0 h1 hx hr hp ih=>?_) (n:=k) (s:=[]) (by omega) (by decide)).trans (by rw [List.nil_append])
 · simp (disch:=omega) only [dD.l0,dD.b0,aP,aK,gz,List.filter_nil,List.append_nil]
 · cases c:seq x.1 key with
   | true =>
    simp (disch:=first | omega | decide) only [dD.l0,dD.b0,aO,ac,aK,aH,hx,c,fh,aD]
    refine (ih s (by omega)).trans ?_
    simp only [gz,List.filter_cons,c,fh,Bool.false_eq_true,if_false]
   | false =>
    simp (disch:=first | omega | decide) only [dD.l0,dD.b0,aO,ac,aH,hx,c,uV,cD,aD]
    refine (ih (s++[x]) (by rw [bv];omega)).trans ?_
    simp only [gz,List.filter_cons,c,uV,if_true,nn,List.cons_append,List.nil_append]
theorem xn {k:Nat} (hk:2 ^ 50≤k) {l:aR} (e:Ty.d aB) (hl:l.length≤1099511627775):ek.f k l e=some (qA l e,()):=by
 unfold ek.f ek.t qA
 rw [q9 hk e.1 hl,ab]
 have hd:=o5 l e.1
 simp only []
 generalize gz l e.1=r at *
 have cp:∀ q:aR,q.length≤1099511627775→eE.f k q=some (q,()):=fun q hq=>by
  unfold eE.f eE.t
  rw [cD (by omega) (by decide)]
 have key:∀ (d j n:Nat),r.length-j=d→j≤r.length→d<n→ek.l0 k n (j:Int) e.1 e.2.1 e.2.2.1 e.2.2.2.1 e.2.2.2.2.1 r=some (r.take j++qB (r.drop j) e,()):=by
  intro d
  induction d with
  | zero =>
   intro j n hd hj hn
   obtain ⟨n,rfl⟩:∃ q,n=q+1:=⟨n-1,by omega⟩
   have:j=r.length:=by omega
   subst this
   simp (disch:=first | omega | (simp only [bv,List.length_take,List.length_drop];omega) | decide) only [ek.l0,ek.b0,aP,aK,cM,nt,cp,ab,cD]
   rw [List.drop_length,qB]
   simp
  | succ d ih =>
   intro j n hd hj hn
   obtain ⟨n,rfl⟩:∃ q,n=q+1:=⟨n-1,by omega⟩
   have hlt:j<r.length:=by omega
   have e1:r.drop j=r.getD j (Ty.z aB)::r.drop (j+1):=by
    rw [List.drop_eq_getElem_cons hlt]
    simp [List.getD,hlt]
   cases c:Hg e.1 (r.getD j (Ty.z aB)) with
   | true =>
    have c':=c
    unfold Hg at c'
    have ih:=ih (j+1) n (by omega) (by omega) (by omega)
    simp (disch:=omega) only [ek.l0,ek.b0,aO,ac,aH,nt,c',aD]
    rw [show ((j:Int)+1)=((j+1:Nat):Int) by omega,ih,e1,mh (z:=Ty.z aB) hlt]
    unfold qB
    simp only [List.takeWhile_cons,List.dropWhile_cons,c,if_true,nn,List.cons_append,List.nil_append]
   | false =>
    have c':=c
    unfold Hg at c'
    simp (disch:=first | omega | (simp only [bv,List.length_take,List.length_drop];omega) | decide) only [ek.l0,ek.b0,aO,ac,aK,aH,nt,c',cM,cp,ab,cD]
    rw [e1]
    unfold qB
    simp only [List.takeWhile_cons,List.dropWhile_cons,c,Bool.false_eq_true,if_false,nn,List.cons_append,List.nil_append]
 exact (key r.length 0 k (by omega) (by omega) (by omega)).trans (by rw [List.take_zero,List.drop_zero,List.nil_append])
theorem uQ {k:Nat} (hk:2 ^ 50≤k) {l:aW} {e:Int} (h0:0≤e) (he:e≤l.length) (hl:l.length≤1099511627775):eT.f k l e=some (bM (l.take e.toNat),()):=by
 unfold eT.f eT.t
 have hlen:(l.take e.toNat).length=e.toNat:=by rw [List.length_take];omega
 have he':e=((l.take e.toNat).length:Int):=by omega
 conv=>lhs;rw [he']
 refine eG (L:=fun n i s=>eT.l0 k n l ((l.take e.toNat).length:Int) i s) (R:=fun r s=>some (r.foldl fD s,())) (Ty.z aC) (l.take e.toNat) (fun i s=>(s.length:Int)≤i) (fun n s hs=>?_) (fun n i s x rest h0 h1 hx hr hp ih=>?_) (n:=k) (s:=[]) (by omega) (by decide)
 · simp (disch:=omega) only [eT.l0,eT.b0,aP,aK,List.foldl_nil]
 · rw [mZ (by omega)] at hx
   simp (disch:=omega) only [eT.l0,eT.b0,aO h1,ac,aH,hx,aD]
   rw [List.foldl_cons]
   have hs1:=oh s x
   have ih1:=ih (fD s x) (by omega)
   rw [← ih1]
   unfold fD
   have r1:∀ {R:Type} (q:Option R),rm (Ty.bytes aC) (s.length+1) q=q:=fun q=>cD (by omega) (by decide)
   have r2:∀ {R:Type} (q:Option R),rm (Ty.bytes aC) (0+1) q=q:=fun q=>cD (by omega) (by decide)
   simp only [r1,r2]
   cases c1:(x.2.2.2.1.1==5) <;> cases c2:(x.2.2.2.1.1==4) <;> first | rfl | skip
   all_goals (exfalso;have e2:=eq_of_beq c1;rw [e2] at c2;revert c2;decide)
def eP (p:Ty.d aC):Ty.d aB:=(p.2.2.2.1.2.2.1,(p.1,(p.2.1,(p.2.2.1,(p.2.2.2.1.2.1,())))))
def fJ (d:aR) (p:Ty.d aC):aR:=bif p.2.2.2.1.1==2 then gz d p.2.2.2.1.2.2.1 else qA d (eP p)
def bN (d:aR) (own:aW):aR:=own.foldl fJ d
theorem qD (d:aR) (p:Ty.d aC):(fJ d p).length≤d.length+1:=by
 unfold fJ
 have h1:=o5 d p.2.2.2.1.2.2.1
 have h2:=H3 d (eP p)
 cases p.2.2.2.1.1==2
 · rw [aK];omega
 · rw [ac];omega
theorem ob:∀ (own:aW) (d:aR),(bN d own).length≤d.length+own.length
 | [],d=>Nat.le_refl _
 | p::own,d=>by
  have:=ob own (fJ d p)
  have:=qD d p
  rw [bN,List.foldl_cons,kJ]
  unfold bN at this
  simp only [bN] at *
  omega
def kL (d:aR) (code:Int):Int:=if d.length > 20 then 2 else code
theorem sr {k:Nat} (hk:2 ^ 50≤k) (g:Ty.d fj) {own:aW} (ho:own.length≤268435456) (hd:g.1.length≤268435456):bx.f k g own=some ((bN g.1 own,(g.2.1,(kL (bN g.1 own) g.2.2.1,()))),()):=by
 unfold bx.f bx.t
 refine eG (L:=fun n i (d:aR)=>bx.l0 k n own own.length i d g.2.1 g.2.2.1) (R:=fun q d=>some ((bN d q,(g.2.1,(kL (bN d q) g.2.2.1,()))),())) (Ty.z aC) own (fun i d=>(d.length:Int)≤268435456+i) (fun n d hs=>?_) (fun n i d x rest h0 h1 hx hr hp ih=>?_) (n:=k) (s:=g.1) (by omega) (by omega)
 · change _=some ((d,(g.2.1,(kL d g.2.2.1,()))),())
   simp (disch:=omega) only [bx.l0,bx.b0,aP (show ¬ ((own.length:Int)<(own.length:Int)) by omega),aK,kL]
   by_cases c:d.length > 20
   · rw [aO (by omega),if_pos c];rfl
   · rw [aP (by omega),if_neg c];rfl
 · have hsd:=qD d x
   have ih:=ih (fJ d x) (by omega)
   have e:fJ d x=bif x.2.2.2.1.1==2 then gz d x.2.2.2.1.2.2.1 else qA d (eP x):=rfl
   simp (disch:=omega) only [bx.l0,bx.b0,aO h1,ac,aH,hx,q9 hk,xn hk,ab,aD]
   rw [show bN d (x::rest)=bN (fJ d x) rest from rfl,← ih,e]
   cases x.2.2.2.1.1==2 <;> rfl
theorem wU {k:Nat} (hk:2 ^ 50≤k) {d:aR} (p:Ty.d aC) (hd:d.length≤1073741823):gj.f k d p=some (fJ d p,()):=by
 unfold gj.f gj.t fJ
 rw [pu hk _ (by omega),qw hk _ hd]
 cases p.2.2.2.1.1==2 <;> rfl
def mQ (a b:Int):Int:=if a > b then a else b
def gO (all:aW):aW→Nat→aR→Int→Int→Ty.d fj
 | [],_,d,last,code=>bif code==0&&decide ((bM all).length > 0) then (d,(last,(1,()))) else (d,(last,(code,())))
 | p::rest,i,d,last,code =>
  bif code != 0 then (d,(last,(code,()))) else
  bif p.2.2.2.1.1==3 then (bif gV p.2.2.2.1 (eF p.2.2.2.1.2.1 (all.take i)) then gO all rest (i+1) (bN d (eF p.2.2.2.1.2.1 (all.take i))) (mQ p.2.2.2.1.2.1 last) (kL (bN d (eF p.2.2.2.1.2.1 (all.take i))) code)
   else gO all rest (i+1) d (mQ p.2.2.2.1.2.1 last) code) else
  bif p.2.2.2.1.1==5 then (bif gV p.2.2.2.1 (bM (all.take i)) then gO all rest (i+1) (bN d (bM (all.take i))) (mQ p.2.2.2.1.2.1 last) (kL (bN d (bM (all.take i))) code)
   else gO all rest (i+1) d (mQ p.2.2.2.1.2.1 last) 1) else
  gO all rest (i+1) d (mQ p.2.2.2.1.2.1 last) code
def eH (g:Ty.d fj) (l:aW):Ty.d fj:=gO l l 0 g.1 g.2.1 g.2.2.1
def CH (d:aR) (code:Int):Prop:=d.length≤268435456∧(code=0→d.length≤134217728)
theorem lS {d:aR} {own:aW} {code:Int} (h:CH d 0) (ho:own.length≤134217728):CH (bN d own) (kL (bN d own) code):=by
 have h1:=ob own d
 have h2:=h.2 rfl
 refine ⟨by omega,fun q=>?_⟩
 unfold kL at q
 split at q
 · cases q
 · omega
theorem vI {d:aR} (h:CH d 0):CH d 1:=⟨h.1,fun q=>by cases q⟩
theorem x_ {k:Nat} (hk:2 ^ 50≤k) (g:Ty.d fj) {l:aW} (hl:l.length≤134217728) (hd:g.1.length≤134217728):f_.f k g l=some (eH g l,()):=by
 unfold f_.f f_.t
 have cp:eE.f k g.1=some (g.1,()):=by
  unfold eE.f eE.t
  rw [cD (by omega) (by decide)]
 rw [cp,ab]
 simp only []
 have key:=H6 (L:=fun n i (s:aR × Int × Int)=>f_.l0 k n l l l.length i [] 0 0 s.1 s.2.1 s.2.2) (R:=fun (q:aW) s=>some (gO l q (l.length-q.length) s.1 s.2.1 s.2.2,())) (Ty.z aC) l (fun i s=>CH s.1 s.2.2) (fun n s hs=>?_) (fun n i s x rest h0 h1 hx hr hp ih=>?_) k 0 (g.1,(g.2.1,g.2.2.1)) (by omega) (by omega) (by omega) ⟨by simp only [];omega,fun _=>by simp only [];omega⟩
 · have e:l.drop (Int.toNat 0)=l:=rfl
   rw [e,Nat.sub_self] at key
   exact key
 · obtain ⟨d,last,code⟩:=s
   have hm:=rt hk (l:=l) (r:=(5,(0,(ByteArray.empty,(ByteArray.empty,(0,(0,()))))))) rfl (by omega)
   simp (disch:=omega) only [f_.l0,f_.b0,aP,aK,gO,hm,ab]
   cases c1:(code==0)
   · rfl
   · by_cases c2:(bM l).length > 0
     · rw [aO (show ((bM l).length:Int) > 0 by omega),aO c2];rfl
     · rw [aP (show ¬ ((bM l).length:Int) > 0 by omega),aP c2];rfl
 · obtain ⟨d,last,code⟩:=s
   simp only [] at hp ih
   have hi:l.length-(x::rest).length=i.toNat:=by
    have:=congrArg List.length hr
    rw [List.length_drop] at this
    omega
   have hi2:l.length-rest.length=i.toNat+1:=by rw [kJ] at hi;have:=congrArg List.length hr;rw [List.length_drop,kJ] at this;omega
   have htk:(l.take i.toNat).length≤134217728:=by rw [List.length_take];omega
   have ih:=fun a b c h=>ih (a,(b,c)) h
   simp only [hi2] at ih
   rw [hi]
   simp (disch:=omega) only [f_.l0,f_.b0,aO h1,ac,aH,hx,aD,gO]
   by_cases c0:code=0
   case neg =>
    rw [show (code != 0)=true from bne_iff_ne.2 c0]
    rfl
   subst c0
   simp only [show ((0:Int) != 0)=false from rfl,aK]
   by_cases c3:x.2.2.2.1.1=3
   · have b3:(x.2.2.2.1.1==3)=true:=by rw [c3];rfl
     have b3':(x.2.2.2.1.1 != 3)=false:=by rw [c3];rfl
     have b5:(x.2.2.2.1.1==5)=false:=by rw [c3];rfl
     have hlen:=pX x.2.2.2.1.2.1 (l.take i.toNat)
     simp only [b3,b3',b5,ac,aK]
     rw [cM (by omega) (by omega),AF hk c3 (by omega),ab]
     simp only []
     rw [uP hk _ (by omega),ab]
     cases c:gV x.2.2.2.1 (eF x.2.2.2.1.2.1 (l.take i.toNat)) with
     | true =>
      simp only [ac]
      rw [sr hk _ (by omega) (by simp only [];exact hp.1),ab]
      exact ih _ _ _ (lS hp (by omega))
     | false =>
      simp only [aK]
      exact ih _ _ _ hp
   · have b3:(x.2.2.2.1.1==3)=false:=mC c3
     have b3':(x.2.2.2.1.1 != 3)=true:=bne_iff_ne.2 c3
     by_cases c5:x.2.2.2.1.1=5
     · have b5:(x.2.2.2.1.1==5)=true:=by rw [c5];rfl
       have b5':(x.2.2.2.1.1 != 5)=false:=by rw [c5];rfl
       have hlen:=pe (l.take i.toNat)
       simp only [b3,b3',b5,b5',ac,aK]
       rw [cM (by omega) (by omega),rt hk c5 (by omega),ab]
       simp only []
       rw [uP hk _ (by omega),ab]
       cases c:gV x.2.2.2.1 (bM (l.take i.toNat)) with
       | true =>
        simp only [ac]
        rw [sr hk _ (by omega) (by simp only [];exact hp.1),ab]
        exact ih _ _ _ (lS hp (by omega))
       | false =>
        simp only [aK]
        exact ih _ _ _ (vI hp)
     · have b5:(x.2.2.2.1.1==5)=false:=mC c5
       have b5':(x.2.2.2.1.1 != 5)=true:=bne_iff_ne.2 c5
       simp only [b3,b3',b5,b5',ac,aK]
       exact ih _ _ _ hp
theorem wy {k:Nat} (hk:2 ^ 50≤k) (g:Ty.d fj) {l:aW} (hl:l.length≤134217728) (hd:g.1.length≤134217728):cA.f k g l=some (eH g l,()):=by
 unfold cA.f cA.t
 rw [cD (by omega) (by decide),List.nil_append]
 have inner:∀ {own:aW} {d:aR} (L0:aW→Int→aR→Int→Int→aR→Int→Int→Option (Ty.d fj × Unit)) (i last code:Int),own.length≤134217728→d.length≤268435456→0≤i→i≤134217728 →
  cA.l1 k L0 k l i 0 [] 0 0 d last code own=L0 l (i+1) [] 0 0 (bN d own) last (kL (bN d own) code):=fun {own d} L0 i last code ho hd2 hi0 hi1=>by
  refine eG (L:=fun n j (d:aR)=>cA.l1 k L0 n l i j [] 0 0 d last code own) (R:=fun q d=>L0 l (i+1) [] 0 0 (bN d q) last (kL (bN d q) code)) (Ty.z aC) own (fun j d=>(d.length:Int)≤268435456+j) (fun n d hs=>?_) (fun n j d x rest h0 h1 hx hr hp ih=>?_) (n:=k) (s:=d) (by omega) (by omega)
  · change _=L0 l (i+1) [] 0 0 d last (kL d code)
    simp (disch:=omega) only [cA.l1,cA.b1,aP (show ¬ ((own.length:Int)<(own.length:Int)) by omega),aK,kL,aD]
    by_cases c:d.length > 20
    · rw [aO (by omega),if_pos c];rfl
    · rw [aP (by omega),if_neg c];rfl
  · have hsd:=qD d x
    simp (disch:=omega) only [cA.l1,cA.b1,aO h1,ac,aH,hx,wU hk,ab,aD]
    exact ih _ (by omega)
 have hmk:=uQ hk (l:=l) (e:=l.length) (by omega) (by omega) (by omega)
 rw [Int.toNat_natCast,List.take_length] at hmk
 have key:=H6 (L:=fun n i (s:aR × Int × Int)=>cA.l0 k n l i [] 0 0 s.1 s.2.1 s.2.2) (R:=fun (q:aW) s=>some (gO l q (l.length-q.length) s.1 s.2.1 s.2.2,())) (Ty.z aC) l (fun i s=>CH s.1 s.2.2) (fun n s hs=>?_) (fun n i s x rest h0 h1 hx hr hp ih=>?_) k 0 (g.1,(g.2.1,g.2.2.1)) (by omega) (by omega) (by omega) ⟨by simp only [];omega,fun _=>by simp only [];omega⟩
 · have e:l.drop (Int.toNat 0)=l:=rfl
   rw [e,Nat.sub_self] at key
   exact key
 · obtain ⟨d,last,code⟩:=s
   simp (disch:=omega) only [cA.l0,cA.b0,aP,aK,gO,hmk,ab]
   cases c1:(code==0)
   · rfl
   · by_cases c2:(bM l).length > 0
     · rw [aO (show ((bM l).length:Int) > 0 by omega),aO c2];rfl
     · rw [aP (show ¬ ((bM l).length:Int) > 0 by omega),aP c2];rfl
 · obtain ⟨d,last,code⟩:=s
   simp only [] at hp ih
   have hi:l.length-(x::rest).length=i.toNat:=by
    have:=congrArg List.length hr
    rw [List.length_drop] at this
    omega
   have hi2:l.length-rest.length=i.toNat+1:=by rw [kJ] at hi;have:=congrArg List.length hr;rw [List.length_drop,kJ] at this;omega
   have htk:(l.take i.toNat).length≤134217728:=by rw [List.length_take];omega
   have ih:=fun a b c h=>ih (a,(b,c)) h
   simp only [hi2] at ih
   rw [hi]
   simp (disch:=omega) only [cA.l0,cA.b0,aO h1,ac,aH,hx,aD,gO,hmk,ab]
   by_cases c0:code=0
   case neg =>
    rw [show (code != 0)=true from bne_iff_ne.2 c0,show (code==0)=false from mC c0]
    rfl
   subst c0
   simp only [show ((0:Int) != 0)=false from rfl,show ((0:Int)==0)=true from rfl,aK,ac]
   by_cases c3:x.2.2.2.1.1=3
   · have b3:(x.2.2.2.1.1==3)=true:=by rw [c3];rfl
     have hlen:=pX x.2.2.2.1.2.1 (l.take i.toNat)
     simp only [b3,ac]
     rw [FN hk _ h0 (by omega) (by omega),ab]
     simp only []
     rw [tn hk _ (by omega),ab]
     cases c:gV x.2.2.2.1 (eF x.2.2.2.1.2.1 (l.take i.toNat)) with
     | true =>
      simp only [fh,ac,aK]
      rw [inner _ i _ _ (by omega) hp.1 h0 (by omega)]
      exact ih _ _ _ (lS hp (by omega))
     | false =>
      simp only [uV,ac,aK]
      exact ih _ _ _ hp
   · have b3:(x.2.2.2.1.1==3)=false:=mC c3
     by_cases c5:x.2.2.2.1.1=5
     · have b5:(x.2.2.2.1.1==5)=true:=by rw [c5];rfl
       have hlen:=pe (l.take i.toNat)
       simp only [b3,b5,ac,aK]
       rw [uQ hk h0 (by omega) (by omega),ab]
       simp only []
       rw [tn hk _ (by omega),ab]
       cases c:gV x.2.2.2.1 (bM (l.take i.toNat)) with
       | true =>
        simp only [fh,ac,aK]
        rw [inner _ i _ _ (by omega) hp.1 h0 (by omega)]
        exact ih _ _ _ (lS hp (by omega))
       | false =>
        simp only [uV,ac,aK]
        exact ih _ _ _ (vI hp)
     · have b5:(x.2.2.2.1.1==5)=false:=mC c5
       simp only [b3,b5,ac,aK]
       exact ih _ _ _ hp
theorem kD (all:aW) (ha:all.length≤134217728):∀ (q:aW) (i:Nat) (d:aR) (last code:Int),CH d code→(gO all q i d last code).1.length≤268435456
 | [],i,d,last,code,h=>by
  unfold gO
  cases code==0&&decide ((bM all).length > 0) <;> exact h.1
 | p::q,i,d,last,code,h=>by
  have hs:=pX p.2.2.2.1.2.1 (all.take i)
  have hm:=pe (all.take i)
  have htk:(all.take i).length≤134217728:=by rw [List.length_take];omega
  unfold gO
  by_cases c0:code=0
  case neg=>rw [show (code != 0)=true from bne_iff_ne.2 c0];exact h.1
  subst c0
  simp only [show ((0:Int) != 0)=false from rfl,aK]
  cases p.2.2.2.1.1==3
  · cases p.2.2.2.1.1==5
    · exact kD all ha q _ _ _ _ h
    · cases gV p.2.2.2.1 (bM (all.take i))
      · exact kD all ha q _ _ _ _ (vI h)
      · exact kD all ha q _ _ _ _ (lS h (by omega))
  · cases gV p.2.2.2.1 (eF p.2.2.2.1.2.1 (all.take i))
    · exact kD all ha q _ _ _ _ h
    · exact kD all ha q _ _ _ _ (lS h (by omega))
theorem oT {g:Ty.d fj} {l:aW} (hl:l.length≤134217728) (hd:g.1.length≤134217728):(eH g l).1.length≤268435456:=kD l hl l 0 _ _ _ ⟨by omega,fun _=>hd⟩
theorem Bq {lim lim':Int} (h:lim≤lim'):∀ (l:List Int) (p:Option Int),nJ (mF lim) p l=true→nJ (mF lim') p l=true
 | [],_,_=>rfl
 | x::l,p,q=>by
  simp only [nJ,gN] at q ⊢
  refine ⟨?_,Bq h l _ q.2⟩
  have q1:=q.1
  unfold mF at q1 ⊢
  rw [gN,decide_eq_true_eq] at q1 ⊢
  exact ⟨⟨q1.1.1,Int.le_trans q1.1.2 h⟩,q1.2⟩
theorem Ad {lim n:Int} (h1:1≤n) (h:lim<n):∀ (l:List Int) (p:Option Int),(∀ y,p=some y→y<n)→nJ (mF lim) p l=true→nJ (mF n) p (l++[n])=true
 | [],p,hp,_=>by
  simp only [List.nil_append,nJ,Bool.and_true]
  unfold mF
  rw [gN,decide_eq_true_eq]
  refine ⟨⟨h1,Int.le_refl _⟩,?_⟩
  cases p with
  | none=>rfl
  | some y=>exact decide_eq_true (hp y rfl)
 | x::l,p,hp,q=>by
  simp only [nJ,gN,List.cons_append] at q ⊢
  have q1:=q.1
  unfold mF at q1
  rw [gN,decide_eq_true_eq] at q1
  refine ⟨?_,Ad h1 h l _ (fun y e=>by cases e;exact Int.lt_of_le_of_lt q1.1.2 h) q.2⟩
  unfold mF
  rw [gN,decide_eq_true_eq]
  exact ⟨⟨q1.1.1,Int.le_of_lt (Int.lt_of_le_of_lt q1.1.2 h)⟩,q1.2⟩
theorem Fc {n:Int} {ids:List Int} (h:cS (n,(ids,()))=true) (hn:n<100000):cS (n+1,(ids,()))=true:=by
 obtain ⟨g1,g2,_⟩:=bQ h
 unfold cS at h ⊢
 simp only [gN,decide_eq_true_eq] at h ⊢
 rw [aD (n:=n+1-1) (by omega) (by omega)]
 rw [aD (n:=n-1) (by omega) (by omega)] at h
 exact ⟨⟨show (1:Int)≤n+1 by omega,show n+1≤(100000:Int) by omega⟩,h.2.1,Bq (by omega) _ _ h.2.2⟩
theorem tM {n:Int} {ids:List Int} (h:cS (n,(ids,()))=true) (hn:n<100000) (hl:ids.length<60):cS (n+1,(ids++[n],()))=true:=by
 obtain ⟨g1,g2,_⟩:=bQ h
 unfold cS at h ⊢
 simp only [gN,decide_eq_true_eq] at h ⊢
 rw [aD (n:=n+1-1) (by omega) (by omega)]
 rw [aD (n:=n-1) (by omega) (by omega)] at h
 refine ⟨⟨show (1:Int)≤n+1 by omega,show n+1≤(100000:Int) by omega⟩,⟨?_,?_⟩,?_⟩
 · rw [uH,List.length_singleton];omega
 · rw [uH,List.length_singleton];omega
 · rw [show n+1-1=n by omega]
   exact Ad g1 (by omega) _ _ (fun y e=>by cases e) h.2.2
def cj (st:Ty.d aE):ByteArray:=a_ aF (aZ st.1.2.1)
theorem wt {st:Ty.d aE} (h:cS st.1=true):0≤aJ ((st.1.2.1.length:Int)-1)∧aJ ((st.1.2.1.length:Int)-1)<(st.1.2.1.length:Int)∧st.1.2.1.getD (aJ ((st.1.2.1.length:Int)-1)).toNat (Ty.z (.int .i64))=aZ st.1.2.1:=by
 obtain ⟨_,_,h1,h2,_⟩:=bQ (nx:=st.1.1) (ids:=st.1.2.1) h
 rw [aD (n:=(st.1.2.1.length:Int)-1) (by omega) (by omega)]
 refine ⟨by omega,by omega,?_⟩
 unfold aZ
 rw [show ((st.1.2.1.length:Int)-1).toNat=st.1.2.1.length-1 by omega]
 rfl
theorem nW {k:Nat} (hk:2 ^ 50≤k) {st:Ty.d aE} (h:cS st.1=true):ck.f k st=some (cj st,()):=by
 obtain ⟨h1,h2,h3⟩:=wt h
 unfold ck.f ck.t cj
 rw [aH h1 h2,h3,bU hk,ab]
def tl (r:RD):RD:=(r.1,iH r.2)
theorem wI (r:RD):((tl r).2 != 0)=(r.2 != 0):=by
 unfold tl bne
 rw [iF]
def H0 (st:Ty.d aE):Ty.d aE:=((st.1.1+1,st.1.2),st.2)
def kK (st:Ty.d aE):Ty.d cY:=(st.1.1+1,(st.1.2.1++[st.1.1],()))
def Cd (st:Ty.d aE):Ty.d aE:=(kK st,(st.2.1,(st.2.2.1,(0,st.2.2.2.2))))
def np (nm:ByteArray) (r:RD):RD:=bif r.2==2 then ((eX [iL,nm] r.1).1,bif (eX [iL,nm] r.1).2==0 then 2 else iH (eX [iL,nm] r.1).2) else r
def jb (st:Ty.d aE) (d:Ty.d aA):Ty.d aE × RD :=
 bif decide ((st.1.2.1.length:Int)≥60) then (st,(d,5)) else bif decide (st.1.1≥100000) then (st,(d,5)) else
 bif (fm d (cj st)).2 != 0 then (st,tl (fm d (cj st))) else
 bif (bO (a_ aF st.1.1) (fm d (cj st)).1).2 != 0 then (H0 st,tl (bO (a_ aF st.1.1) (fm d (cj st)).1)) else
 bif (bf (kK st) (bO (a_ aF st.1.1) (fm d (cj st)).1).1).2 != 0 then (H0 st,np (a_ aF st.1.1) (tl (bf (kK st) (bO (a_ aF st.1.1) (fm d (cj st)).1).1)))
 else (Cd st,((bf (kK st) (bO (a_ aF st.1.1) (fm d (cj st)).1).1).1,0))
structure SR (st:Ty.d aE) (r:RD) (B:Int):Prop where
 live:cS st.1=true
 disk:DR r.1
 lo:LE.le (α:=Int) 0 st.2.2.2.1
 hi:LE.le (α:=Int) st.2.2.2.1 B
theorem AQ (n:Int):(a_ aF n).size≤1000:=by
 unfold a_
 by_cases h:(1:Int)≤n∧n≤100000
 · rw [aO h,ac,ByteArray.size_append]
   have:=my (n:=n) (by omega) (by omega)
   have:aF.size=3:=rfl
   omega
 · rw [aP h]
   exact Nat.zero_le _
theorem DI {k:Nat} (hk:2 ^ 50≤k) {st:Ty.d aE} {d:Ty.d aA} (hl:cS st.1=true) (hd:DR d):fK.f k st d=some ((jb st d).1,((jb st d).2.1,((jb st d).2.2,()))):=by
 obtain ⟨g1,g2,g3,g4,_⟩:=bQ (nx:=st.1.1) (ids:=st.1.2.1) hl
 have hsz:=AQ st.1.1
 unfold fK.f fK.t jb
 by_cases c1:(st.1.2.1.length:Int)≥60
 · rw [aO c1];rfl
 by_cases c2:st.1.1≥(100000:Int)
 · rw [aP c1,aO c2];rfl
 have c1':st.1.2.1.length<60:=by omega
 have c2':LT.lt (α:=Int) st.1.1 100000:=Int.not_le.1 c2
 rw [aP c1,aP c2]
 simp only [aK]
 rw [nW hk hl,ab]
 simp only []
 rw [lm hk hd.sz,ab]
 simp only []
 have h1:=lR hd (cj st)
 generalize fm d (cj st)=r1 at h1 ⊢
 cases c3:r1.2 != 0 with
 | true=>simp only [ac,cw,ab,tl]
 | false =>
  simp only [aK]
  rw [bU hk,ab]
  simp only []
  rw [mR hk h1 (by omega),ab]
  simp only []
  have h2:=jx (a_ aF st.1.1) _ h1
  generalize bO (a_ aF st.1.1) r1.1=r2 at h2 ⊢
  have ew:aJ (st.1.1+1)=st.1.1+1:=aD (by omega) (by omega)
  cases c4:r2.2 != 0 with
  | true=>simp only [ac,cw,ab,tl,ew];rfl
  | false =>
   simp only [aK]
   rw [List.nil_append,cD (by omega) (by decide),cD (by omega) (by decide),ew,ml hk h2 (v:=(st.1.1+1,(st.1.2.1++[st.1.1],()))) (tM hl c2' c1'),ab]
   simp only []
   have h3:=jf (kK st) _ h2
   rw [show ((st.1.1+1,(st.1.2.1++[st.1.1],())):Ty.d cY)=kK st from rfl]
   generalize bf (kK st) r2.1=r3 at h3 ⊢
   have et:(iH r3.2 != 0)=(r3.2 != 0):=by unfold bne;rw [iF]
   cases c5:iH r3.2==2 with
   | true =>
    have e2:iH r3.2=2:=Hi c5
    have c6:(r3.2 != 0)=true:=by rw [← et,e2];rfl
    rw [c6]
    simp only [ac]
    rw [ab,show (⟨#[116,101,109,112]⟩:ByteArray)=iL from rfl]
    simp only []
    rw [mU hk h3 (by simp),ab]
    unfold np
    rw [show (tl r3).2=iH r3.2 from rfl,c5,show (tl r3).1=r3.1 from rfl]
    simp only [ac,bne]
    generalize eX [iL,a_ aF st.1.1] r3.1=r4
    cases c7:r4.2==0 with
    | true=>rw [e2];rfl
    | false=>simp only [uV,ac,aK,cw,ab];rfl
   | false =>
    simp only [aK]
    rw [et]
    cases c6:r3.2 != 0 with
    | true =>
     simp only [ac]
     unfold np
     rw [show (tl r3).2=iH r3.2 from rfl,c5]
     rfl
    | false=>rfl
theorem qg {st:Ty.d aE} {d:Ty.d aA} (hl:cS st.1=true) (hd:DR d):cS (jb st d).1.1=true∧DR (jb st d).2.1∧(jb st d).1.2.1=st.2.1∧((jb st d).1.2.2.2.1=st.2.2.2.1∨(jb st d).1.2.2.2.1=0):=by
 unfold jb
 by_cases c1:(st.1.2.1.length:Int)≥60
 · rw [aO c1];exact ⟨hl,hd,rfl,.inl rfl⟩
 by_cases c2:st.1.1≥(100000:Int)
 · rw [aP c1,aO c2];exact ⟨hl,hd,rfl,.inl rfl⟩
 have c1':st.1.2.1.length<60:=by omega
 have c2':LT.lt (α:=Int) st.1.1 100000:=Int.not_le.1 c2
 have hn:cS (H0 st).1=true:=Fc (ids:=st.1.2.1) hl c2'
 have hg:cS (Cd st).1=true:=tM hl c2' c1'
 have h1:=lR hd (cj st)
 have h2:=jx (a_ aF st.1.1) _ h1
 have h3:=jf (kK st) _ h2
 rw [aP c1,aP c2]
 simp only [aK]
 generalize fm d (cj st)=r1 at h1 h2 h3 ⊢
 generalize bO (a_ aF st.1.1) r1.1=r2 at h2 h3 ⊢
 generalize bf (kK st) r2.1=r3 at h3 ⊢
 cases r1.2 != 0 with
 | true=>exact ⟨hl,h1,rfl,.inl rfl⟩
 | false =>
  cases r2.2 != 0 with
  | true=>exact ⟨hn,h2,rfl,.inl rfl⟩
  | false =>
   cases r3.2 != 0 with
   | true =>
    refine ⟨hn,?_,rfl,.inl rfl⟩
    simp only [ac,aK]
    unfold np
    cases (tl r3).2==2 with
    | true=>exact ju _ _ h3
    | false=>exact h3
   | false=>exact ⟨hg,h3,rfl,.inr rfl⟩
def AG:Ty.d aC:=(0,(0,(0,((0,(0,(ByteArray.empty,(ByteArray.empty,(0,(0,())))))),()))))
def K_ (st:Ty.d aE) (n:Int):Ty.d aE:=(st.1,(st.2.1,(st.2.2.1,(n,st.2.2.2.2))))
def jN (st:Ty.d aE) (d:Ty.d aA) (r:Ty.d b7):(Ty.d aE × RD) × Ty.d aC :=
 bif (iD d (cj st) (aQ (aG r))).2 != 0 then ((st,tl (iD d (cj st) (aQ (aG r)))),AG)
 else ((K_ st (st.2.2.2.1+aw r),((iD d (cj st) (aQ (aG r))).1,0)),(aZ st.1.2.1,(st.2.2.2.1,(aw r,(r,())))))
def fb (st:Ty.d aE) (d:Ty.d aA) (r:Ty.d b7):(Ty.d aE × RD) × Ty.d aC :=
 bif decide (st.2.2.2.1 > 0)&&decide (st.2.2.2.1+aw r > 200) then
  (bif (jb st d).2.2 != 0 then (jb st d,AG) else jN (jb st d).1 (jb st d).2.1 r)
 else jN st d r
def fW (p:Ty.d aC):Ty.d b7:=p.2.2.2.1
theorem yh {st:Ty.d aE} {d:Ty.d aA} (hl:cS st.1=true) (hd:DR d) {B:Int} (h0:LE.le (α:=Int) 0 st.2.2.2.1) (h1:LE.le (α:=Int) st.2.2.2.1 B) (r:Ty.d b7) :
 SR (jN st d r).1.1 (jN st d r).1.2 (B+211)∧(jN st d r).1.1.2.1=st.2.1∧((jN st d r).1.2.2=0→fW (jN st d r).2=r):=by
 have hr:=mW r
 have ha:=oc hd (cj st) (aQ (aG r))
 unfold jN
 generalize iD d (cj st) (aQ (aG r))=a at ha ⊢
 cases c:a.2 != 0 with
 | true =>
  refine ⟨⟨hl,ha,h0,?_⟩,rfl,fun e=>?_⟩
  · show LE.le (α:=Int) st.2.2.2.1 (B+211)
    omega
  · have e:(tl a).2=0:=e
    have q:=wI a
    rw [e,c] at q
    cases q
 | false =>
  refine ⟨⟨hl,ha,?_,?_⟩,rfl,fun e=>rfl⟩
  · show LE.le (α:=Int) 0 (st.2.2.2.1+aw r)
    omega
  · show LE.le (α:=Int) (st.2.2.2.1+aw r) (B+211)
    omega
theorem qL {st:Ty.d aE} {d:Ty.d aA} {B:Int} (h:SR st (d,0) B) (hB:0≤B) (r:Ty.d b7) :
 SR (fb st d r).1.1 (fb st d r).1.2 (B+211)∧(fb st d r).1.1.2.1=st.2.1∧((fb st d r).1.2.2=0→fW (fb st d r).2=r):=by
 obtain ⟨hl,hd,h0,h1⟩:=h
 unfold fb
 cases decide (st.2.2.2.1 > 0)&&decide (st.2.2.2.1+aw r > 200) with
 | false=>exact yh hl hd h0 h1 r
 | true =>
  obtain ⟨g1,g2,g3,g4⟩:=qg hl hd
  generalize jb st d=q at g1 g2 g3 g4 ⊢
  have s0:LE.le (α:=Int) 0 q.1.2.2.2.1:=by rcases g4 with e | e <;> rw [e];exact h0;exact Int.le_refl _
  have s1:LE.le (α:=Int) q.1.2.2.2.1 B:=by rcases g4 with e | e <;> rw [e];exact h1;exact hB
  cases c:q.2.2 != 0 with
  | true =>
   refine ⟨⟨g1,g2,s0,?_⟩,g3,fun e=>?_⟩
   · show LE.le (α:=Int) q.1.2.2.2.1 (B+211)
     omega
   · have e:q.2.2=0:=e
     rw [e] at c
     cases c
  | false =>
   obtain ⟨k1,k2,k3⟩:=yh g1 g2 s0 s1 r
   exact ⟨k1,k2.trans g3,k3⟩
theorem wX {k:Nat} (hk:2 ^ 50≤k) {st:Ty.d aE} {d:Ty.d aA} (hl:cS st.1=true) (hd:DR d) (r:Ty.d b7) (h0:LE.le (α:=Int) 0 st.2.2.2.1) (h1:LE.le (α:=Int) st.2.2.2.1 1099511627776) :
 (((ck.f k st).bind fun r4=>((dZ.f k d r4.1 (aQ (aG r))).bind fun r5=>(bif (r5.2.1 != 0) then ((aV.f k r5.2.1).bind fun r6=>(some (st,(r5.1,(AG,r6)))))
  else (bF (aJ ((List.length st.1.2.1:Int)-1)) (List.length st.1.2.1:Int) (some ((st.1,(st.2.1,(st.2.2.1,((aJ (st.2.2.2.1+(ByteArray.size (aQ (aG r)):Int))),st.2.2.2.2)))),(r5.1,(((List.getD st.1.2.1 (Int.toNat (aJ ((List.length st.1.2.1:Int)-1))) (Ty.z (.int .i64))),(st.2.2.2.1,((ByteArray.size (aQ (aG r)):Int),(r,())))),(0,()))))))))):dl.Rs) =
 some ((jN st d r).1.1,((jN st d r).1.2.1,((jN st d r).2,((jN st d r).1.2.2,())))):=by
 obtain ⟨g1,g2,g3⟩:=wt hl
 have hr:=mW r
 have hz:((aQ (aG r)).size:Int)=aw r:=rfl
 rw [nW hk hl,ab]
 simp only []
 rw [og hk hd.sz (cj st) (t:=aQ (aG r)) (by omega),ab]
 unfold jN
 simp only []
 generalize iD d (cj st) (aQ (aG r))=a
 cases c:a.2 != 0 with
 | true=>simp only [ac,cw,ab];rfl
 | false =>
  simp only [aK]
  rw [aH g1 g2,g3,hz,aD (by omega) (by omega)]
  rfl
theorem xC {k:Nat} (hk:2 ^ 50≤k) {st:Ty.d aE} {d:Ty.d aA} {B:Int} (h:SR st (d,0) B) (hB:0≤B) (hB':B≤1000000000) (r:Ty.d b7) :
 dl.f k st d r=some ((fb st d r).1.1,((fb st d r).1.2.1,((fb st d r).2,((fb st d r).1.2.2,())))):=by
 obtain ⟨hl,hd,h0,h1⟩:=h
 have hr:=mW r
 have hz:((aQ (aG r)).size:Int)=aw r:=rfl
 have own:=wX (d:=d) hk hl hd r h0 (by omega)
 rw [hz,aD (n:=st.2.2.2.1+aw r) (by omega) (by omega)] at own
 unfold dl.f dl.t
 rw [dH hk,ab]
 simp only []
 rw [lH hk,ab]
 simp only []
 rw [hz,aD (n:=st.2.2.2.1+aw r) (by omega) (by omega)]
 unfold fb
 by_cases c1:LT.lt (α:=Int) 0 st.2.2.2.1
 · rw [aO (show st.2.2.2.1 > 0 from c1),Bool.true_and,ac]
   by_cases c2:LT.lt (α:=Int) 200 (st.2.2.2.1+aw r)
   · rw [aO (show st.2.2.2.1+aw r > 200 from c2),ac,ac,DI hk hl hd,ab]
     simp only []
     obtain ⟨g1,g2,g3,g4⟩:=qg hl hd
     generalize jb st d=q at g1 g2 g3 g4 ⊢
     cases c:q.2.2 != 0 with
     | true=>rfl
     | false =>
      have s0:LE.le (α:=Int) 0 q.1.2.2.2.1:=by rcases g4 with e | e <;> rw [e];exact h0;exact Int.le_refl _
      have s1:LE.le (α:=Int) q.1.2.2.2.1 B:=by rcases g4 with e | e <;> rw [e];exact h1;exact hB
      exact wX hk g1 g2 r s0 (by omega)
   · rw [aP (show ¬ st.2.2.2.1+aw r > 200 from c2),aK,aK]
     exact own
 · rw [aP (show ¬ st.2.2.2.1 > 0 from c1),Bool.false_and,aK]
   exact own
def fT (d:Ty.d aA) (s:ByteArray):Option ByteArray:=(bh d.1 s).map (·.2.1)
theorem jH {d:Ty.d aA} (h:DR d) (s:ByteArray):(aT d s).1=(fT d s).getD ⟨#[]⟩:=by
 rw [kf h]
 unfold fT
 cases bh d.1 s <;> rfl
theorem vA:∀ {l:bn} {f:Ty.d dJ} {t:ByteArray},bh l f.1=none→bh (lY l f) t=bif seq f.1 t then some f else bh l t
 | [],f,t,_=>rfl
 | g::l,f,t,h=>by
  unfold bh at h
  cases c:seq g.1 f.1 with
  | true=>rw [c] at h;cases h
  | false =>
   rw [c,aK] at h
   unfold lY
   cases mo f.1 g.1 with
   | true=>rfl
   | false =>
    simp only [aK]
    rw [bh.eq_2,vA h,bh.eq_2]
    by_cases q:f.1=t
    · rw [q] at c ⊢
      rw [c,bV]
      rfl
    · rw [kP q]
      rfl
theorem BQ {l:bn} {f:Ty.d dJ} {t:ByteArray} (h:f.1≠t):bh (lY l f) t=bh l t:=by
 induction l with
 | nil=>unfold lY;rw [bh.eq_2,kP h];rfl
 | cons g l ih =>
  unfold lY
  cases mo f.1 g.1 with
  | true=>rw [ac,bh.eq_2,kP h,aK]
  | false=>rw [aK,bh.eq_2,ih,bh.eq_2]
theorem sJ {d:Ty.d aA} {g:bn→Int→bn × Int} {t:ByteArray} (h:∀ l c,(bh (g l c).1 t).map (·.2.1)=(bh l t).map (·.2.1)):fT (ik d g).1 t=fT d t:=by
 unfold ik fT
 cases (jF d).2 != 0 with
 | true=>rw [ac,ox]
 | false=>exact h d.1 d.2.1
theorem Jw {d:Ty.d aA} {s t:ByteArray} (h:s≠t):fT (vQ d s).1 t=fT d t:=sJ fun l c=>by
 unfold th
 cases !jr s with
 | true=>rfl
 | false =>
  cases (bh l s).isSome with
  | true=>rfl
  | false =>
   cases decide ((l.length:Int)≥130) with
   | true=>rfl
   | false =>
    show (bh (lY l (s,(ByteArray.empty,(0,())))) t).map _=_
    rw [BQ (f:=(s,(ByteArray.empty,(0,())))) h]
theorem wP {d:Ty.d aA} {s t x:ByteArray} (h:s≠t):fT (iD d s x).1 t=fT d t:=sJ fun l c=>by
 unfold AM
 cases (bh l s).isNone with
 | true=>rfl
 | false =>
  cases decide ((x.size:Int) > aJ (c-(e6 l:Int))) with
  | true=>rfl
  | false =>
   show (bh (lI (fun f=>(f.1,(f.2.1++x,f.2.2))) l s) t).map _=_
   rw [qn (h:=fun f:Ty.d dJ=>(f.1,(f.2.1++x,f.2.2))) (fun f=>rfl),kP (fun q=>h q.symm)]
   rfl
theorem kw {d:Ty.d aA} {s t:ByteArray}:fT (fm d s).1 t=fT d t:=sJ fun l c=>by
 unfold uf
 cases (bh l s).isNone with
 | true=>rfl
 | false =>
  show (bh (lI (fun f=>(f.1,(f.2.1,((f.2.1.size:Int),f.2.2.2)))) l s) t).map _=_
  rw [qn (h:=fun f:Ty.d dJ=>(f.1,(f.2.1,((f.2.1.size:Int),f.2.2.2)))) (fun f=>rfl)]
  by_cases q:t=s
  · rw [q,bV]
    cases bh l s <;> rfl
  · rw [kP q]
    rfl
theorem Jb {d:Ty.d aA} {s t:ByteArray} (h:s≠t):fT (ur d s).1 t=fT d t:=sJ fun l c=>by
 unfold B5
 cases (bh l s).isNone with
 | true=>rfl
 | false =>
  show (bh (kG l s) t).map _=_
  rw [vC (fun q=>h q.symm)]
theorem KI {d:Ty.d aA} {a b t:ByteArray} (h1:a≠t) (h2:b≠t):fT (Ae d a b).1 t=fT d t:=sJ fun l c=>by
 unfold BZ
 cases !jr b with
 | true=>rfl
 | false =>
  simp only [aK]
  cases bh l a with
  | none=>rfl
  | some f =>
   cases seq a b with
   | true=>rfl
   | false =>
    show (bh (lY (kG (kG l a) b) (b,f.2)) t).map _=_
    rw [BQ (f:=(b,f.2)) h2,vC (fun q=>h2 q.symm),vC (fun q=>h1 q.symm)]
theorem sF {d:Ty.d aA} {s x:ByteArray}:fT (iD d s x).1 s=bif (iD d s x).2==0 then (fT d s).map (·++x) else fT d s:=by
 unfold iD ik fT
 cases c:(jF d).2 != 0 with
 | true =>
  rw [ac,ox]
  have:((jF d).2==0)=false:=by unfold bne at c;simpa using c
  rw [this]
  rfl
 | false =>
  simp only [aK]
  unfold AM
  cases c1:bh d.1 s with
  | none=>simp only [Option.isNone_none,ac];rw [c1];rfl
  | some f =>
   simp only [Option.isNone_some,aK]
   cases decide ((x.size:Int) > aJ (d.2.1-(e6 d.1:Int))) with
   | true=>simp only [ac];rw [c1];rfl
   | false =>
    simp only [aK]
    rw [qn (h:=fun f:Ty.d dJ=>(f.1,(f.2.1++x,f.2.2))) (fun f=>rfl),bV,c1]
    rfl
theorem nT {r:RD} {f:Ty.d aA→RD} {t:ByteArray} {x:Option ByteArray} (h1:fT r.1 t=x) (h2:∀ y,fT (f y).1 t=fT y t):fT (gM r f).1 t=x:=by
 unfold gM
 cases r.2==0 with
 | true=>exact (h2 _).trans h1
 | false=>exact h1
theorem Dv {d:Ty.d aA} {s t:ByteArray} (h:s≠t):fT (mD s d).1 t=fT d t:=by
 unfold mD
 cases (bh d.1 s).isSome with
 | true=>exact Jb h
 | false=>rfl
theorem l9 {d:Ty.d aA} {s t:ByteArray} (h:s≠t):fT (bO s d).1 t=fT d t:=nT (Dv h) fun y=>Jw h
theorem zP {d:Ty.d aA} {s t x:ByteArray} (h:s≠t):fT (lB s x d).1 t=fT d t:=nT (nT (l9 h) fun y=>wP h) fun y=>kw
theorem gg {d:Ty.d aA} {v:Ty.d cY} {t:ByteArray} (h1:iL≠t) (h2:dm≠t):fT (bf v d).1 t=fT d t:=nT (zP h1) fun y=>KI h1 h2
theorem mH {t:ByteArray}:∀ (l:List ByteArray) (d:Ty.d aA),(∀ s ∈ l,s≠t)→fT (eX l d).1 t=fT d t
 | [],_,_=>rfl
 | s::l,d,h=>by
  show fT (gM (mD s d) (eX l)).1 t=_
  exact nT (Dv (h s jd)) fun y=>mH l y fun q hq=>h q (lL _ hq)
def eW:j2→Ty.d aE→Ty.d aA→aW→(Ty.d aE × RD) × aW
 | [],st,d,ps=>((st,(d,0)),ps)
 | r::l,st,d,ps=>bif (fb st d r).1.2.2 != 0 then ((fb st d r).1,ps) else eW l (fb st d r).1.1 (fb st d r).1.2.1 (ps++[(fb st d r).2])
def L6 (st:Ty.d aE) (dir:aR):Ty.d aE:=(st.1,(dir,st.2.2))
def sG (n:Nat) (q:(Ty.d aE × RD) × aW):Ty.d aE × RD :=
 bif q.1.2.2 != 0 then q.1 else bif (fm q.1.2.1 (cj q.1.1)).2 != 0 then (q.1.1,tl (fm q.1.2.1 (cj q.1.1))) else (L6 q.1.1 (bN q.1.1.2.1 (q.2.take n)),((fm q.1.2.1 (cj q.1.1)).1,0))
def pG (st:Ty.d aE):Ty.d aE:=(st.1,(st.2.1,(st.2.2.1+1,st.2.2.2)))
def gD (st:Ty.d aE) (d:Ty.d aA) (l:lD):Ty.d aE × RD:=sG l.length (eW (iT l st.2.2.1) (pG st) d [])
theorem oX:∀ (l:j2) (st:Ty.d aE) (d:Ty.d aA) (ps:aW) (B:Int),SR st (d,0) B→0≤B →
 SR (eW l st d ps).1.1 (eW l st d ps).1.2 (B+211*(l.length:Int))∧(eW l st d ps).1.1.2.1=st.2.1∧((eW l st d ps).1.2.2=0→(eW l st d ps).2.map fW=ps.map fW++l)
 | [],st,d,ps,B,h,_=>⟨⟨h.live,h.disk,h.lo,by have:=h.hi;show LE.le (α:=Int) st.2.2.2.1 _;rw [List.length_nil];omega⟩,rfl,fun _=>(List.append_nil _).symm⟩
 | r::l,st,d,ps,B,h,hB=>by
  obtain ⟨g1,g2,g3⟩:=qL h hB r
  unfold eW
  have el:((r::l).length:Int)=(l.length:Int)+1:=by rw [kJ];omega
  cases c:(fb st d r).1.2.2 != 0 with
  | true =>
   refine ⟨⟨g1.live,g1.disk,g1.lo,?_⟩,g2,fun e=>?_⟩
   · have:=g1.hi
     show LE.le (α:=Int) (fb st d r).1.1.2.2.2.1 _
     omega
   · have e:(fb st d r).1.2.2=0:=e
     rw [e] at c
     cases c
  | false =>
   have e0:(fb st d r).1.2.2=0:=by unfold bne at c;simpa using c
   obtain ⟨k1,k2,k3⟩:=oX l (fb st d r).1.1 (fb st d r).1.2.1 (ps++[(fb st d r).2]) (B+211) ⟨g1.live,g1.disk,g1.lo,g1.hi⟩ (by omega)
   refine ⟨⟨k1.live,k1.disk,k1.lo,?_⟩,k2.trans g2,fun e=>?_⟩
   · have:=k1.hi
     show LE.le (α:=Int) (eW l (fb st d r).1.1 (fb st d r).1.2.1 (ps++[(fb st d r).2])).1.1.2.2.2.1 _
     omega
   · have:=k3 e
     show (eW l (fb st d r).1.1 (fb st d r).1.2.1 (ps++[(fb st d r).2])).2.map fW=_
     rw [this,List.map_append,List.map_singleton,g3 e0,nn]
     rfl
def pZ:aR→lD→aR→aR
 | dir,[],_=>dir
 | dir,_::_,[]=>dir
 | dir,p::l,e::es=>pZ (bif p.2.1 then gz dir p.1 else qA dir e) l es
theorem py (dir:aR) (es:aR):pZ dir [] es=dir:=by cases es <;> rfl
theorem wv (b:Int):∀ (l:lD) (ps:aW) (q:j2) (dir:aR),ps.map fW=l.map (fg b)++q→pZ dir l (ps.map eP)=bN dir (ps.take l.length)
 | [],ps,q,dir,h=>by rw [List.length_nil,List.take_zero,py];rfl
 | x::l,[],q,dir,h=>by cases h
 | x::l,p::ps,q,dir,h=>by
  rw [List.map_cons,List.map_cons,List.cons_append] at h
  injection h with h1 h2
  rw [List.map_cons,kJ,List.take_succ_cons]
  unfold pZ bN
  rw [List.foldl_cons,wv b l ps q _ h2]
  unfold bN
  congr 1
  unfold fJ
  rw [show p.2.2.2.1=fg b x from h1]
  unfold fg
  cases x.2.1 <;> rfl
def wx (p:Ty.d dI):Ty.d aB:=(p.1,(0,(0,(0,(0,())))))
def lh (dir:aR) (l:lD):Int:=((pZ dir l (l.map wx)).length:Int)
theorem Ix (l:aR) (e:Ty.d aB):(qA l e).length≤l.length+1:=by
 unfold qA
 rw [BB]
 have:=o5 l e.1
 omega
theorem zu {k:Nat} (hk:2 ^ 50≤k) {dir:aR} (hd:dir.length≤536870912) {l:lD} (hl:l.length≤1000):d6.f k dir l=some (lh dir l,()):=by
 have key:∀ (n:Nat) (i:Int) (s:aR),0≤i→i≤(l.length:Int)→(l.length:Int)-i<n→(s.length:Int)≤536870912+i→d6.l1 k n l i s=some (lh s (l.drop i.toNat),()):=fun n i s h0 h1 h2 hs=>by
  refine H6 (L:=fun n i (s:aR)=>d6.l1 k n l i s) (R:=fun r s=>some (lh s r,())) (Ty.z dI) l (fun i s=>(s.length:Int)≤536870912+i) (fun n s hs=>?_) (fun n i s x rest h0 h1 hx hr hp ih=>?_) n i s h0 h1 h2 hs
  · simp (disch:=omega) only [d6.l1,d6.b1,aP,aK]
    rfl
  · simp only [d6.l1,d6.b1]
    rw [aO h1,ac,aH h0 h1,hx,aD (n:=i+1) (by omega) (by omega)]
    unfold lh
    simp only [List.map_cons,pZ]
    cases c:x.2.1 with
    | true =>
     have:=o5 s x.1
     simp only [ac]
     rw [aH h0 h1,pu hk x.1 (by omega),ab]
     exact ih (gz s x.1) (by omega)
    | false =>
     have:=Ix s (wx x)
     have e:=qw hk (l:=s) (wx x) (by omega)
     unfold wx at e
     simp only [aK]
     rw [aH h0 h1,e,ab]
     exact ih (qA s (wx x)) (by omega)
 obtain ⟨q,hq⟩:∃ q,k=q+1:=⟨k-1,by omega⟩
 have k1:=key (q+1) 0 dir (by omega) (by omega) (by omega) (by omega)
 unfold d6.f d6.t
 rw [show l.drop (0:Int).toNat=l from rfl] at k1
 refine Eq.trans ?_ k1
 rw [show d6.l0 k k=d6.l0 k (q+1) by rw [← hq]]
 rfl
theorem Ca (dir:aR) (ps:aW) (p:Ty.d aC):bN dir (ps++[p])=fJ (bN dir ps) p:=by
 unfold bN
 rw [List.foldl_append]
 rfl
theorem gu {c:Int} (h:(c != 0)=false):c=0:=by unfold bne at h;simpa using h
theorem zj {k:Nat} (hk:2 ^ 50≤k) {st:Ty.d aE} {d:Ty.d aA} {l:lD} (h:SR st (d,0) 100000) (hb0:LE.le (α:=Int) 0 st.2.2.1) (hb:LE.le (α:=Int) st.2.2.1 1000000) (hp:jz l=true) (hd:st.2.1.length≤20) :
 bR.f k st d l=some ((gD st d l).1,((gD st d l).2.1,((gD st d l).2.2,()))):=by
 have hl:=n8 hp
 unfold bR.f bR.t gD iT
 rw [cD (by omega) (by decide),List.nil_append,aD (n:=st.2.2.1+1) (by omega) (by omega)]
 generalize hbe:st.2.2.1=b at *
 rw [show pG st=((st.1,(st.2.1,(b+1,st.2.2.2))):Ty.d aE) from by unfold pG;rw [hbe]]
 refine eG (L:=fun n i (s:(Ty.d aE × Ty.d aA) × aW)=>bR.l0 k n b i l s.1.1.1.2.1 s.1.1.2.1 s.1.1.1.1 s.1.1.2.2.1 s.1.1.2.2.2.1 s.1.1.2.2.2.2.1 s.1.2.1 s.1.2.2.1 s.1.2.2.2.1 s.1.2.2.2.2.1 [] [] 0 0 0 0 [] 0 0 false (s.2.map fW) (bN s.1.1.2.1 s.2))
  (R:=fun r s=>(some ((sG l.length (eW (r.map (fg b)++[fI 3 b (l.map (fg b))]) s.1.1 s.1.2 s.2)).1,((sG l.length (eW (r.map (fg b)++[fI 3 b (l.map (fg b))]) s.1.1 s.1.2 s.2)).2.1,((sG l.length (eW (r.map (fg b)++[fI 3 b (l.map (fg b))]) s.1.1 s.1.2 s.2)).2.2,()))):bR.Rs))
  (Ty.z dI) l (fun i s=>SR s.1.1 (s.1.2,0) (100000+211*i)∧s.2.map fW=(l.take i.toNat).map (fg b)∧s.1.1.2.1.length≤20) (fun n s hs=>?_) (fun n i s x rest h0 h1 hx hr hs ih=>?_) (n:=k) (s:=(((((st.1,(st.2.1,(b+1,st.2.2.2))):Ty.d aE)),d),[])) (by omega) ⟨⟨h.live,h.disk,h.lo,Int.le_trans h.hi (by decide)⟩,rfl,hd⟩
 · obtain ⟨⟨st',d'⟩,ps⟩:=s
   obtain ⟨g1,g2,g3⟩:=hs
   simp only [] at g1 g2 g3 ⊢
   rw [Int.toNat_natCast,List.take_length] at g2
   have hps:ps.length=l.length:=by simpa using congrArg List.length g2
   simp only [bR.l0,bR.b0]
   rw [aP (by omega),aK,g2,u4 hk (by rw [List.length_map];omega),ab]
   simp only []
   rw [show ((st'.1.1,(st'.1.2.1,())),(st'.2.1,(st'.2.2.1,(st'.2.2.2.1,(st'.2.2.2.2.1,())))))=st' from rfl,show (d'.1,(d'.2.1,(d'.2.2.1,(d'.2.2.2.1,()))))=d' from rfl,
    xC hk g1 (by omega) (by omega),ab]
   simp only [List.map_nil,List.nil_append,eW]
   obtain ⟨k1,k2,_⟩:=qL g1 (by omega) (fI 3 b (l.map (fg b)))
   generalize fb st' d' (fI 3 b (l.map (fg b)))=q at k1 k2 ⊢
   cases c:q.1.2.2 != 0 with
   | true =>
    simp only [ac]
    unfold sG
    simp only [c,ac]
   | false =>
    simp only [aK]
    rw [nW hk k1.live,ab]
    simp only []
    rw [lm hk (DR.sz k1.disk),ab]
    unfold sG
    simp only [show ((0:Int) != 0)=false from rfl,aK]
    generalize fm q.1.2.1 (cj q.1.1)=y
    cases c2:y.2 != 0 with
    | true=>simp only [ac,cw,ab];rfl
    | false =>
     simp only [aK]
     rw [k2,List.take_append_of_le_length (by omega),List.take_of_length_le (by omega)]
     rfl
 · obtain ⟨⟨st',d'⟩,ps⟩:=s
   obtain ⟨g1,g2,g3⟩:=hs
   simp only [] at g1 g2 g3 ih ⊢
   have hi:i.toNat<l.length:=by omega
   have hm:x ∈ l:=List.mem_of_mem_drop (i:=i.toNat) (by rw [hr];exact jd)
   have e:=FA b (rF hp hm)
   have et:l.take (i+1).toNat=l.take i.toNat++[x]:=by
    rw [show (i+1).toNat=i.toNat+1 by omega,List.take_succ_eq_append_getElem hi]
    congr 2
    rw [← hx]
    simp [List.getD,hi]
   have hps:ps.length≤l.length:=by
    have:=congrArg List.length g2
    rw [List.length_map,List.length_map,List.length_take] at this
    omega
   obtain ⟨k1,k2,k3⟩:=qL g1 (by omega) (fg b x)
   have body:((dl.f k st' d' (fg b x)).bind fun r1=>(bif (r1.2.2.2.1 != 0) then (some (r1.1,(r1.2.1,r1.2.2.2))) else ((gj.f k (bN st'.2.1 ps) r1.2.2.1).bind fun r2=>(rm (Ty.bytes b7) (List.length (ps.map fW)+1)
    (bR.l0 k n b (aJ (i+1)) l r1.1.1.2.1 r1.1.2.1 r1.1.1.1 r1.1.2.2.1 r1.1.2.2.2.1 r1.1.2.2.2.2.1 r1.2.1.1 r1.2.1.2.1 r1.2.1.2.2.1 r1.2.1.2.2.2.1 [] [] 0 0 0 0 [] 0 0 false (ps.map fW++[fg b x]) r2.1))))) =
    (some ((sG l.length (eW ((x::rest).map (fg b)++[fI 3 b (l.map (fg b))]) st' d' ps)).1,((sG l.length (eW ((x::rest).map (fg b)++[fI 3 b (l.map (fg b))]) st' d' ps)).2.1,((sG l.length (eW ((x::rest).map (fg b)++[fI 3 b (l.map (fg b))]) st' d' ps)).2.2,()))):bR.Rs):=by
    rw [xC hk g1 (by omega) (by omega),ab]
    simp only [List.map_cons,List.cons_append,eW]
    have hk1:=k1.hi
    generalize fb st' d' (fg b x)=q at k1 k2 k3 hk1 ⊢
    cases c:q.1.2.2 != 0 with
    | true =>
     simp only [ac]
     unfold sG
     simp only [c,ac]
    | false =>
     simp only [aK]
     have hal:=ob ps st'.2.1
     rw [wU hk q.2 (by omega),ab,cD (by rw [List.length_map];omega) (by decide),aD (n:=i+1) (by omega) (by omega)]
     have q3:=k3 (gu c)
     have e1:(ps++[q.2]).map fW=ps.map fW++[fg b x]:=by rw [List.map_append,List.map_singleton,q3]
     have e2:bN q.1.1.2.1 (ps++[q.2])=fJ (bN st'.2.1 ps) q.2:=by rw [k2,Ca]
     have ih:=ih ((q.1.1,q.1.2.1),ps++[q.2]) ⟨⟨k1.live,k1.disk,k1.lo,by show LE.le (α:=Int) q.1.1.2.2.2.1 _;omega⟩,by simp only [];rw [e1,g2,et,List.map_append];rfl,by simp only [];rw [k2];exact g3⟩
     simp only [] at ih
     rw [e1,e2] at ih
     exact ih
   simp only [bR.l0,bR.b0]
   rw [aO h1,ac,aH h0 h1,aH h0 h1,aH h0 h1,hx]
   rw [show ((st'.1.1,(st'.1.2.1,())),(st'.2.1,(st'.2.2.1,(st'.2.2.2.1,(st'.2.2.2.2.1,())))))=st' from rfl,show (d'.1,(d'.2.1,(d'.2.2.1,(d'.2.2.2.1,()))))=d' from rfl]
   cases c:x.2.1 with
   | true =>
    rw [c,ac] at e
    simp only [ac]
    rw [← e]
    exact body
   | false =>
    rw [c,aK] at e
    simp only [aK]
    rw [← e]
    exact body
noncomputable def fp (st:Ty.d aE) (d:Ty.d aA) (l:lD):Ty.d aE × RD :=
 bif !d9 st d then (st,(d,4)) else bif !jz l then (st,(d,4)) else bif (l.length:Int)==0 then (st,(d,0)) else bif decide (lh st.2.1 l > 20) then (st,(d,5)) else
 bif decide (st.2.2.1 > 1000000) then (st,(d,5)) else gD st d l
theorem yv {d:Ty.d aA} {tail:Int}:∀ {l:List Int},l≠[]→lk d tail l=true→∃ x,tail=((aT d (a_ aF x)).1.size:Int)
 | [],h,_=>absurd rfl h
 | [x],_,h=>by
  unfold lk Ax at h
  simp only [gN,List.isEmpty_nil,fh,Bool.false_or] at h
  exact ⟨x,Hi h.1.2.2⟩
 | x::y::l,_,h=>by
  unfold lk at h
  rw [gN] at h
  exact yv (by intro q;cases q) h.2
theorem eS {st:Ty.d aE} {d:Ty.d aA} (h:d9 st d=true):SR st (d,0) 100000∧st.2.1.length≤20∧LE.le (α:=Int) 1 st.2.2.1:=by
 unfold d9 oJ at h
 simp only [gN,decide_eq_true_eq] at h
 obtain ⟨h1,h2,⟨h3,_⟩,h4,h5,_⟩:=h
 obtain ⟨_,_,g1,_,_⟩:=bQ (nx:=st.1.1) (ids:=st.1.2.1) h2
 have hd:=jQ.1 h1
 obtain ⟨x,hx⟩:=yv (by intro q;rw [q] at g1;simp at g1) h5
 have hs:=fo d (a_ aF x)
 have hu:=hd.use
 have hc:=hd.cap1
 refine ⟨⟨h2,hd,?_,?_⟩,by omega,h4.1⟩
 · show LE.le (α:=Int) 0 st.2.2.2.1
   rw [hx]
   omega
 · show LE.le (α:=Int) st.2.2.2.1 100000
   rw [hx]
   have:LE.le (α:=Int) (e6 d.1) 100000:=Int.le_trans hu hc
   omega
theorem xw {k:Nat} (hk:2 ^ 50≤k) {st:Ty.d aE} {d:Ty.d aA} (hd:zE d) (h1:st.1.2.1.length≤1073741824) (h2:st.2.1.length≤536870912) {l:lD} (hl:l.length≤1073741824) :
 gW.f k st d l=some ((fp st d l).1,((fp st d l).2.1,((fp st d l).2.2,()))):=by
 have ec:co.f k st=some (st,()):=by
  unfold co.f co.t
  rw [cD (by omega) (by decide),cD (by omega) (by decide),List.nil_append,List.nil_append]
 unfold gW.f gW.t fp
 rw [ec,ab]
 simp only []
 rw [jK k hd,ab]
 simp only []
 rw [ru hk hd,ab]
 simp only []
 cases c1:d9 st d with
 | false=>rfl
 | true =>
  simp only [fh,aK]
  rw [nr hk,ab]
  simp only []
  cases c2:jz l with
  | false=>rfl
  | true =>
   have h8:=n8 c2
   obtain ⟨g1,g2,g3⟩:=eS c1
   simp only [fh,aK]
   cases c3:(l.length:Int)==0 with
   | true=>rfl
   | false =>
    simp only [aK]
    rw [zu hk (by omega) (by omega),ab]
    simp only []
    cases c4:decide (lh st.2.1 l > 20) with
    | true=>rfl
    | false =>
     simp only [aK]
     by_cases c5:st.2.2.1 > (1000000:Int)
     · rw [aO c5];rfl
     · rw [aP c5]
       simp only [aK]
       rw [zj hk g1 (Int.le_trans (by decide) g3) (Int.not_lt.1 c5) c2 g2,ab]
theorem wF {p:ByteArray} (hp:p=aF∨p=dC) {n:Int} (h0:1≤n) (h1:n≤100000):De (a_ p n)=(n,true):=by
 have e:a_ p n=p++gX n:=by unfold a_;rw [aO ⟨h0,h1⟩];rfl
 have hn:Hj (p++gX n) n:=⟨h0,h1,by rcases hp with q | q <;> rw [q] <;> simp⟩
 rw [e]
 rcases jD (Hj (p++gX n)) (fun _=>p++gX n) (0:Int) (p++gX n) with ⟨r,g1,_,g3⟩ | g
 · unfold De
   rw [g3,Db g1 hn]
 · exfalso
   unfold nX at g
   rw [dif_pos ⟨n,hn,rfl⟩] at g
   cases (Prod.mk.inj g).2
theorem CB (ids:List Int):∀ (l:bn) (acc:List ByteArray) (x:ByteArray),x ∈ pO ids l acc→x ∈ acc∨(((De x).2&&!vm ids (De x).1)||seq x iL)=true
 | [],acc,x,h => .inl h
 | f::l,acc,x,h=>by
  unfold pO at h
  rcases CB ids l _ x h with q | q
  · cases c:tg ids f with
    | false=>rw [c] at q;exact .inl q
    | true =>
     rw [c,ac] at q
     rcases List.mem_append.1 q with q | q
     · exact .inl q
     · rw [List.mem_singleton] at q
       subst q
       exact .inr c
  · exact .inr q
theorem Hb {d:Ty.d aA} {ids:List Int} {x:ByteArray} (h:x ∈ rD d ids):(((De x).2&&!vm ids (De x).1)||seq x iL)=true:=by
 unfold rD at h
 cases c:gd d with
 | false=>rw [c] at h;cases h
 | true =>
  rw [c,ac] at h
  rcases CB ids d.1 [] x h with q | q
  · cases q
  · exact q
def KN (d:Ty.d aA) (s:ByteArray):Nat:=((fT d s).getD ⟨#[]⟩).size
def rQ (d:Ty.d aA) (ids:List Int):Nat:=(ids.map fun x=>KN d (a_ aF x)).sum
def rB:aR→Int
 | []=>0
 | e::l=>e.2.2.2.1+rB l
theorem mn {x y:Int} (hx:1≤x∧x≤100000) (hy:1≤y∧y≤100000) (h:x≠y):a_ aF x≠a_ aF y:=fun q=>by
 have e1:=wF (.inl rfl) hx.1 hx.2
 have e2:=wF (.inl rfl) hy.1 hy.2
 rw [q,e2] at e1
 injection e1 with e1 _
 exact h e1.symm
theorem xN {x:Int} (hx:1≤x∧x≤100000):a_ aF x=aF++gX x:=by
 unfold a_
 rw [aO hx]
 rfl
theorem gT {x:Int} (hx:1≤x∧x≤100000):iL≠a_ aF x:=fun q=>by
 rw [xN hx] at q
 have:=congrArg nb q
 rw [gQ] at this
 cases this
theorem iS {x:Int} (hx:1≤x∧x≤100000):dm≠a_ aF x:=fun q=>by
 rw [xN hx] at q
 have:=congrArg nb q
 rw [gQ] at this
 cases this
theorem iE {n:Int} {ids:List Int} (h:cS (n,(ids,()))=true):1≤n∧n≤100000∧(∀ x ∈ ids,1≤x∧x<n)∧ids.Pairwise (· < ·):=by
 obtain ⟨g1,g2,_⟩:=bQ h
 unfold cS at h
 simp only [gN,decide_eq_true_eq] at h
 have h3:=h.2.2
 rw [aD (n:=n-1) (by omega) (by omega)] at h3
 have key:∀ (l:List Int) (p:Option Int),nJ (mF (n-1)) p l=true→(∀ x ∈ l,1≤x∧x<n∧∀ y,p=some y→y<x)∧l.Pairwise (· < ·):=by
  intro l
  induction l with
  | nil=>exact fun p _=>⟨fun x hx=>(by cases hx),List.Pairwise.nil⟩
  | cons a l ih =>
   intro p hp
   simp only [nJ,gN] at hp
   obtain ⟨q1,q2⟩:=hp
   unfold mF at q1
   rw [gN,decide_eq_true_eq] at q1
   obtain ⟨⟨b1,b2⟩,b3⟩:=q1
   have b1:1≤a:=b1
   have b2:a≤n-1:=b2
   obtain ⟨i1,i2⟩:=ih (some a) q2
   have ha:∀ y,p=some y→y<a:=fun y e=>by
    rw [e] at b3
    exact of_decide_eq_true b3
   refine ⟨fun x hx=>?_,?_⟩
   · rcases List.mem_cons.1 hx with e | e
     · rw [e]
       exact ⟨b1,by omega,ha⟩
     · obtain ⟨c1,c2,c3⟩:=i1 x e
       have:=c3 a rfl
       exact ⟨c1,c2,fun y ey=>Int.lt_trans (ha y ey) this⟩
   · exact List.Pairwise.cons (fun x hx=>(i1 x hx).2.2 a rfl) i2
 obtain ⟨k1,k2⟩:=key ids none h3
 exact ⟨g1,g2,fun x hx=>⟨(k1 x hx).1,(k1 x hx).2.1⟩,k2⟩
theorem yw {d d':Ty.d aA}:∀ {ids:List Int},(∀ x ∈ ids,fT d' (a_ aF x)=fT d (a_ aF x))→rQ d' ids=rQ d ids
 | [],_=>rfl
 | x::l,h=>by
  unfold rQ at *
  rw [List.map_cons,List.map_cons,List.sum_cons,List.sum_cons]
  have e1:KN d' (a_ aF x)=KN d (a_ aF x):=by unfold KN;rw [h x jd]
  have e2:=yw (ids:=l) fun y hy=>h y (lL _ hy)
  unfold rQ at e2
  rw [e1,e2]
theorem lT {ids:List Int} (h:1≤ids.length):ids=ids.dropLast++[aZ ids]:=by
 have hne:ids≠[]:=by intro q;rw [q] at h;simp at h
 have e:aZ ids=ids.getLast hne:=by
  unfold aZ
  rw [List.getLast_eq_getElem]
  simp [List.getD,show ids.length-1<ids.length by omega]
 rw [e]
 exact (List.dropLast_concat_getLast hne).symm
abbrev yK:=List (Ty.d c_)
def b8 (id:Int) (l:yK):aW:=l.map fun x=>(id,x)
theorem pW (id:Int) (l:yK):(b8 id l).length=l.length:=by unfold b8;rw [List.length_map]
theorem xf {k:Nat} (hk:2 ^ 50≤k) (id:Int) {l:yK} (hl:l.length≤1099511627775):fY.f k id l=some (b8 id l,()):=by
 unfold fY.f fY.t
 refine (eG (L:=fun n i s=>fY.l0 k n id l l.length i s) (R:=fun r s=>some (s++b8 id r,())) (Ty.z c_) l (fun i s=>(s.length:Int)=i) (fun n s hs=>?_) (fun n i s x rest h0 h1 hx hr hp ih=>?_) (n:=k) (s:=[]) (by omega) (by decide)).trans (by rw [List.nil_append])
 · simp (disch:=omega) only [fY.l0,fY.b0,aP,aK,b8,List.map_nil,List.append_nil]
 · have ih:=ih (s++[(id,x)]) (by rw [bv];omega)
   simp (disch:=first | omega | decide) only [fY.l0,fY.b0,aO,ac,aH,hx,cD,aD]
   refine ih.trans ?_
   simp only [b8,List.map_cons,nn,List.cons_append,List.nil_append]
theorem rA {k:Nat} (hk:2 ^ 50≤k) (id:Int) {s:ByteArray} (hs:s.size≤1099511627775):bX.f k id s=some (b8 id (az s).1,()):=by
 unfold bX.f bX.t
 rw [m4 hk hs,ab]
 have hl:=(iw s).1
 simp only []
 generalize (az s).1=l at *
 refine (eG (L:=fun n i s=>bX.l0 k n id i s l) (R:=fun r s=>some (s++b8 id r,())) (Ty.z c_) l (fun i s=>(s.length:Int)=i) (fun n s hs=>?_) (fun n i s x rest h0 h1 hx hr hp ih=>?_) (n:=k) (s:=[]) (by omega) (by decide)).trans (by rw [List.nil_append])
 · simp (disch:=omega) only [bX.l0,bX.b0,aP,aK,b8,List.map_nil,List.append_nil]
 · have ih:=ih (s++[(id,x)]) (by rw [bv];omega)
   simp (disch:=first | omega | decide) only [bX.l0,bX.b0,aO,ac,aH,hx,cD,aD]
   refine ih.trans ?_
   simp only [b8,List.map_cons,nn,List.cons_append,List.nil_append]
def o_:Ty.d gP:=(0,(0,([],())))
def Ec (s0:Int) (e:Ty.d aB):Bool:=(e.2.1==s0)&&!decide ((e.2.2.1:Int) > 100000)
def AC (l:aR):Bool:=l.all (Ec (l.getD 0 (Ty.z aB)).2.1)
def lN (h:Ty.d gP):Bool:=decide ((0:Int)≤h.1∧h.1≤100000)&&(decide ((0:Int)≤h.2.1∧h.2.1≤1000000)&&(oJ h.2.2.1&&AC h.2.2.1))
def j5 (e:Ty.d aB):ByteArray:=iu e.1++(gh e.2.1++(gh e.2.2.1++(gh e.2.2.2.1++gh e.2.2.2.2.1)))
def kO:aR→ByteArray
 | []=>⟨#[]⟩
 | e::l=>j5 e++kO l
def qz (h:Ty.d gP):ByteArray:=gh h.1++(gh h.2.1++(gh (h.2.2.1.length:Int)++kO h.2.2.1))
def cv (h:Ty.d gP):ByteArray:=if lN h=true then sg (pI (qz h))++qz h else ⟨#[]⟩
theorem xz {k:Nat} (hk:2 ^ 50≤k) (h:Ty.d gP):gG.f k h=some (lN h,()):=by
 unfold gG.f gG.t lN
 rw [fE,ab]
 cases decide ((0:Int)≤h.1∧h.1≤100000) with
 | false=>rfl
 | true =>
  simp only [fh,aK,Bool.true_and]
  rw [fE,ab]
  cases decide ((0:Int)≤h.2.1∧h.2.1≤1000000) with
  | false=>rfl
  | true =>
   simp only [fh,aK,Bool.true_and]
   rw [vf hk,ab]
   cases cd:oJ h.2.2.1 with
   | false=>rfl
   | true =>
    simp only [fh,aK,Bool.true_and]
    have hl:h.2.2.1.length≤20:=by
     unfold oJ at cd
     rw [gN,decide_eq_true_eq] at cd
     have:=cd.1
     omega
    unfold AC
    refine eG (L:=fun n i (_:Unit)=>gG.l0 k n i h.1 h.2.1 h.2.2.1) (R:=fun r _=>some (r.all (Ec (h.2.2.1.getD 0 (Ty.z aB)).2.1),())) (Ty.z aB) h.2.2.1 (fun _ _=>True) (fun n _ _=>?_) (fun n i _ x rest h0 h1 hx hr hp ih=>?_) (n:=k) (s:=()) (by omega) trivial
    · simp only [gG.l0,gG.b0]
      rw [aP (by omega),aK]
      rfl
    · have ih:=ih () trivial
      simp only [gG.l0,gG.b0]
      rw [aO h1,ac,aH h0 h1,aH (by omega) (by omega),hx,aH h0 h1,aD (n:=i+1) (by omega) (by omega),ih,List.all_cons]
      unfold Ec bne
      cases x.2.1==(h.2.2.1.getD 0 (Ty.z aB)).2.1 <;> cases decide ((x.2.2.1:Int) > 100000) <;> rfl
theorem ki {l:aR} (h:oJ l=true):l.length≤20∧∀ e ∈ l,(1≤e.1.size∧e.1.size≤8)∧(LE.le (α:=Int) 1 e.2.1∧LE.le (α:=Int) e.2.1 100000)∧LE.le (α:=Int) 0 e.2.2.1∧(LE.le (α:=Int) 1 e.2.2.2.1∧LE.le (α:=Int) e.2.2.2.1 210)∧(LE.le (α:=Int) 1 e.2.2.2.2.1∧LE.le (α:=Int) e.2.2.2.2.1 1000000):=by
 unfold oJ at h
 rw [gN,decide_eq_true_eq] at h
 refine ⟨by have:=h.1;omega,fun e he=>?_⟩
 obtain ⟨q,hq⟩:=AJ h.2 he
 unfold o7 ku at hq
 rw [gN,gN,gN,gN,gN,decide_eq_true_eq,decide_eq_true_eq,decide_eq_true_eq,decide_eq_true_eq] at hq
 obtain ⟨g1,g2,g3,g4,g5,_⟩:=hq
 have g3':¬ LT.lt (α:=Int) e.2.2.1 0:=by
  intro q
  have:(!decide (e.2.2.1<(0:Int)))=false:=by rw [aO q];rfl
  rw [this] at g3
  cases g3
 exact ⟨by omega,g2,Int.not_lt.1 g3',g4,g5⟩
theorem oB {h:Ty.d gP} (q:lN h=true):oJ h.2.2.1=true:=by
 unfold lN at q
 rw [gN,gN,gN] at q
 exact q.2.2.1
theorem yT {e:Ty.d aB}:(j5 e).size≤35+e.1.size:=by
 have a:=bG (e.1.size:Int)
 have b:=bG e.2.1
 have c:=bG e.2.2.1
 have d:=bG e.2.2.2.1
 have f:=bG e.2.2.2.2.1
 unfold j5 iu
 simp only [aN]
 omega
theorem xS:∀ {l:aR},(∀ e ∈ l,e.1.size≤8)→(kO l).size≤43*l.length
 | [],_=>Nat.zero_le _
 | e::l,h=>by
  have h1:=h e (jd ..)
  have h2:=xS (l:=l) fun x hx=>h x (lL _ hx)
  have h3:=yT (e:=e)
  unfold kO
  rw [aN,kJ]
  omega
theorem D8 {h:Ty.d gP} (q:lN h=true):(qz h).size≤900:=by
 obtain ⟨h1,h2⟩:=ki (oB q)
 have:=xS (l:=h.2.2.1) fun e he=>(h2 e he).1.2
 have a:=bG h.1
 have b:=bG h.2.1
 have c:=bG (h.2.2.1.length:Int)
 unfold qz
 simp only [aN]
 omega
theorem nh (h:Ty.d gP):(cv h).size≤904:=by
 unfold cv
 by_cases q:lN h=true
 · have:=D8 q
   rw [if_pos q,aN,show (sg (pI (qz h))).size=4 from rfl]
   omega
 · rw [if_neg q];decide
theorem kS {k:Nat} (hk:2 ^ 50≤k) (h:Ty.d gP):dM.f k h=some (cv h,()):=by
 unfold dM.f dM.t cv
 rw [xz hk,ab]
 cases q:lN h with
 | false=>rfl
 | true =>
  obtain ⟨h1,h2⟩:=ki (oB q)
  have a:=bG h.1
  have b:=bG h.2.1
  have c:=bG (h.2.2.1.length:Int)
  rw [fh,aK,gF hk,ab,gF hk,ab,if_pos rfl]
  simp only []
  rw [e7 (by omega),gF hk,ab]
  simp only []
  rw [e7 (by rw [aN];omega)]
  refine (eG (L:=fun n i s=>dM.l0 k n s i h.1 h.2.1 h.2.2.1) (R:=fun r s=>some (sg (pI (s++kO r))++(s++kO r),())) (Ty.z aB) h.2.2.1 (fun i s=>(s.size:Int)≤21+43*i) (fun n s hs=>?_) (fun n i s x rest g0 g1 hx hr hs ih=>?_) (n:=k) (s:=gh h.1++gh h.2.1++gh (h.2.2.1.length:Int)) (by omega) (by rw [aN,aN];omega)).trans (by unfold qz;rw [ai,ai])
  · have hc:=tD s
    simp only [dM.l0,dM.b0]
    rw [aP (by omega),aK,rH hk (by omega),ab]
    simp only []
    rw [p_ hk hc.1 hc.2,ab]
    simp only []
    rw [e7 (by rw [show (sg (pI s)).size=4 from rfl];omega),show kO []=⟨#[]⟩ from rfl,jE]
  · have hm:x ∈ h.2.2.1:=by rw [← hx];exact iJ (by omega)
    have hz:=(h2 x hm).1.2
    have v1:=bG (x.1.size:Int)
    have v2:=bG x.2.1
    have v3:=bG x.2.2.1
    have v4:=bG x.2.2.2.1
    have v5:=bG x.2.2.2.2.1
    have ih:=ih (s++j5 x) (by have:=yT (e:=x);rw [aN];omega)
    simp only [dM.l0,dM.b0]
    rw [aO g1,ac,aH g0 g1,hx]
    simp only [gF hk,ab]
    rw [e7 (by omega),e7 (by rw [aN];omega),e7 (by rw [aN,aN];omega),e7 (by rw [aN,aN,aN];omega),e7 (by rw [aN,aN,aN,aN];omega),e7 (by rw [aN,aN,aN,aN,aN];omega),aD (n:=i+1) (by omega) (by omega)]
    have e:s++gh (x.1.size:Int)++x.1++gh x.2.1++gh x.2.2.1++gh x.2.2.2.1++gh x.2.2.2.2.1=s++j5 x:=by
     unfold j5 iu
     simp only [ai]
    rw [e,ih]
    rw [show kO (x::rest)=j5 x++kO rest from rfl,ai]
def qT (x y:Ty.d aB):Bool:=(seq x.1 y.1)&&((x.2.1==y.2.1)&&((x.2.2.1==y.2.2.1)&&((x.2.2.2.1==y.2.2.2.1)&&(x.2.2.2.2.1==y.2.2.2.2.1))))
def ss:aR→aR→Bool
 | [],[]=>true
 | x::l,y::m=>qT x y&&ss l m
 | _,_=>false
theorem Bu {x y:Ty.d aB}:qT x y=true↔x=y:=by
 unfold qT
 simp only [gN,beq_iff_eq,dr]
 constructor
 · rintro ⟨h1,h2,h3,h4,h5⟩
   obtain ⟨a,b,c,d,e,_⟩:=x
   obtain ⟨a',b',c',d',e',_⟩:=y
   simp only at h1 h2 h3 h4 h5
   subst h1 h2 h3 h4 h5
   rfl
 · rintro rfl;exact ⟨rfl,rfl,rfl,rfl,rfl⟩
theorem tK:∀ {l m:aR},ss l m=true↔l=m
 | [],[]=>⟨fun _=>rfl,fun _=>rfl⟩
 | [],y::m=>⟨fun h=>(by cases h),fun h=>(by cases h)⟩
 | x::l,[]=>⟨fun h=>(by cases h),fun h=>(by cases h)⟩
 | x::l,y::m=>by
  unfold ss
  rw [gN,Bu,tK,List.cons.injEq]
theorem Fh:∀ {l m:aR},l.length≠m.length→ss l m=false:=fun {l m} h=>by
 cases c:ss l m with
 | false=>rfl
 | true=>rw [tK.1 c] at h;exact absurd rfl h
theorem tR {α:Type} {l:List α} {i:Nat} (z:α) (h:i<l.length):l.drop i=l.getD i z::l.drop (i+1):=by
 rw [List.drop_eq_getElem_cons h]
 simp [List.getD,h]
theorem wT {k:Nat} (hk:2 ^ 50≤k) {l m:aR} (hl:l.length≤1073741824):eu.f k l m=some (ss l m,()):=by
 unfold eu.f eu.t
 by_cases hne:l.length=m.length
 · rw [show ((l.length:Int) != (m.length:Int))=false by rw [hne];simp,aK]
   refine (Jf (L:=fun n i (_:Unit)=>eu.l0 k n l m i) (R:=fun i _=>some (ss (l.drop i.toNat) (m.drop i.toNat),())) l.length (fun _ _=>True) (fun n _ _=>?_) (fun n i _ h0 h1 _ ih=>?_) k 0 () (by omega) (by omega) (by omega) trivial).trans (by simp)
   · simp only [eu.l0,eu.b0]
     rw [aP (by omega),aK,nt,List.drop_length,hne,List.drop_length]
     rfl
   · have ih:=ih () trivial
     have c1:i.toNat<l.length:=by omega
     simp only [eu.l0,eu.b0]
     rw [aO h1,ac,aH h0 h1,aH h0 (by omega),aD (n:=i+1) (by omega) (by omega),ih,tR (Ty.z aB) c1,tR (Ty.z aB) (l:=m) (i:=i.toNat) (by omega),show (i+1).toNat=i.toNat+1 by omega]
     show _=some (qT _ _&&ss _ _,())
     show (bif !(qT (l.getD i.toNat (Ty.z aB)) (m.getD i.toNat (Ty.z aB))) then _ else _)=_
     cases qT (l.getD i.toNat (Ty.z aB)) (m.getD i.toNat (Ty.z aB)) <;> rfl
 · rw [show ((l.length:Int) != (m.length:Int))=true from bne_iff_ne.2 (by omega),ac,Fh hne]
def nZ (mark:Int) (p:Option (Ty.d c_)) (x:Ty.d c_):Bool :=
 (x.2.2.1.1==4)&&(!decide ((x.2.2.1.2.1:Int) > mark)&&(match p with | none=>true | some y=>mo y.2.2.1.2.2.1 x.2.2.1.2.2.1))
def Ah (id:Int) (x:Ty.d c_):Ty.d aB:=(x.2.2.1.2.2.1,(id,(x.1,(x.2.1,(x.2.2.1.2.1,())))))
noncomputable def fv (id:Int) (s:ByteArray):Ty.d gP × Bool :=
 bif (az s).2 != (s.size:Int) then (o_,false) else bif (az s).1.length==0 then (o_,false) else
 bif ((az s).1.getD ((az s).1.length-1) (Ty.z c_)).2.2.1.1 != 5 then (o_,false) else
 bif !decide ((1:Int)≤id∧id≤100000) then (o_,false) else
 bif !nJ (nZ ((az s).1.getD ((az s).1.length-1) (Ty.z c_)).2.2.1.2.1) none ((az s).1.take ((az s).1.length-1)) then (o_,false) else
 bif !gV ((az s).1.getD ((az s).1.length-1) (Ty.z c_)).2.2.1 (b8 id ((az s).1.take ((az s).1.length-1))) then (o_,false) else
 (((s.size:Int),(((az s).1.getD ((az s).1.length-1) (Ty.z c_)).2.2.1.2.1,(((az s).1.take ((az s).1.length-1)).map (Ah id),()))),true)
theorem um (id:Int):seq (a_ aF id) ⟨#[]⟩=!decide ((1:Int)≤id∧id≤100000):=by
 by_cases h:(1:Int)≤id∧id≤100000
 · rw [aO h]
   have e:a_ aF id=aF++gX id:=by unfold a_;rw [aO h];rfl
   rw [e,kP fun q=>?_]
   · rfl
   · have:=congrArg ByteArray.size q
     rw [aN] at this
     have s3:aF.size=3:=rfl
     have s0:(⟨#[]⟩:ByteArray).size=0:=rfl
     omega
 · rw [aP h]
   have e:a_ aF id=⟨#[]⟩:=by unfold a_;rw [aP h];rfl
   rw [e,bV]
   rfl
theorem qx {k:Nat} (hk:2 ^ 50≤k) (id:Int) {s:ByteArray} (hs:s.size≤1073741823):dU.f k id s=some ((fv id s).1,((fv id s).2,())):=by
 have hln:=iw s
 unfold dU.f dU.t fv
 rw [m4 hk (by omega),ab]
 simp only []
 generalize az s=sc at hln ⊢
 obtain ⟨l,en⟩:=sc
 simp only at hln ⊢
 cases en != (s.size:Int) with
 | true=>rfl
 | false =>
  simp only [aK]
  by_cases h0:l.length=0
  · rw [show ((l.length:Int)==0)=true by rw [h0];rfl,show (l.length==0)=true by rw [h0];rfl]
    rfl
  · rw [show ((l.length:Int)==0)=false from mC (by omega),show (l.length==0)=false from mC h0]
    simp only [aK]
    have w1:aJ ((l.length:Int)-1)=((l.length-1:Nat):Int):=by rw [aD (by omega) (by omega)];omega
    rw [w1,nt,aH (by omega) (by omega),aH (by omega) (by omega)]
    generalize hm:l.getD (l.length-1) (Ty.z c_)=m
    cases m.2.2.1.1 != 5 with
    | true=>rfl
    | false =>
     simp only [aK]
     rw [bU hk,ab]
     simp only [um]
     cases decide ((1:Int)≤id∧id≤100000) with
     | false=>rfl
     | true =>
      simp only [fh,aK]
      have hpl:(l.take (l.length-1)).length=l.length-1:=by rw [List.length_take];omega
      refine (pk (L:=fun n i=>dU.l0 k n id i [] 0 0 l ((l.take i.toNat).map (Ah id)) (s.size:Int) m.2.2.1.2.1 ((l.take i.toNat).map fun x=>x.2.2.1)) (Ty.z c_) (l.take (l.length-1)) (nZ m.2.2.1.2.1)
       (bif !gV m.2.2.1 (b8 id (l.take (l.length-1))) then some (o_,(false,())) else some (((s.size:Int),(m.2.2.1.2.1,((l.take (l.length-1)).map (Ah id),()))),(true,()))) (some (o_,(false,()))) (fun n=>?_) (fun n x h hx=>?_) (fun n i x y h0 h1 hx hy=>?_) (n:=k) (by omega)).trans (by
        cases nJ (nZ m.2.2.1.2.1) none (l.take (l.length-1)) <;> cases gV m.2.2.1 (b8 id (l.take (l.length-1))) <;> rfl)
      · simp only [dU.l0,dU.b0]
        rw [hpl,nt,aD (n:=((l.length-1:Nat):Int)+1) (by omega) (by omega),aP (by omega),aK,w1,nt,aH (by omega) (by omega),hm,oy hk (by rw [List.length_map,hpl];omega),ab,List.length_map,hpl]
        unfold gV b8 bne
        rw [List.length_map,hpl,List.map_map]
        show (bif !(m.2.2.1.2.2.2.2.1==((l.length-1:Nat):Int)) then _ else bif !(m.2.2.1.2.2.2.2.2.1==ul ((l.take (l.length-1)).map fun x=>x.2.2.1)) then _ else _)=bif !((m.2.2.1.2.2.2.2.1==((l.length-1:Nat):Int))&&(m.2.2.1.2.2.2.2.2.1==ul ((l.take (l.length-1)).map fun x=>x.2.2.1))) then _ else _
        cases m.2.2.1.2.2.2.2.1==((l.length-1:Nat):Int) <;> cases m.2.2.1.2.2.2.2.2.1==ul ((l.take (l.length-1)).map fun x=>x.2.2.1) <;> rfl
      · rw [hpl] at h
        have hx':l.getD 0 (Ty.z c_)=x:=by rw [← hx,show Int.toNat 0=0 from rfl,mZ (by omega)]
        simp only [dU.l0,dU.b0]
        rw [aD (n:=(0:Int)+1) (by omega) (by omega),aO (by omega),ac,aH (by omega) (by omega),show Int.toNat 0=0 from rfl,hx',aP (show ¬ (0:Int) > 0 by omega),aK,cD (by simp) (by decide),aH (by omega) (by omega),aH (by omega) (by omega),cD (by simp) (by decide),show Int.toNat 1=0+1 from rfl,mh (z:=Ty.z c_) (show 0<l.length by omega),hx']
        simp only [nZ,bne]
        cases x.2.2.1.1==4 <;> cases decide ((x.2.2.1.2.1:Int) > m.2.2.1.2.1) <;> rfl
      · rw [hpl] at h1
        have hx':l.getD i.toNat (Ty.z c_)=x:=by rw [← hx,mZ (by omega)]
        have hy':l.getD (i-1).toNat (Ty.z c_)=y:=by rw [← hy,mZ (by omega)]
        simp only [dU.l0,dU.b0]
        rw [aD (n:=i+1) (by omega) (by omega),aO (by omega),ac,aH (by omega) (by omega),hx',aO (show i > 0 by omega),aD (n:=i-1) (by omega) (by omega),aH (by omega) (by omega),hy',li,cD (by rw [List.length_map,List.length_take];omega) (by decide),aH (by omega) (by omega),aH (by omega) (by omega),cD (by rw [List.length_map,List.length_take];omega) (by decide),show (i+1).toNat=i.toNat+1 by omega,mh (z:=Ty.z c_) (show i.toNat<l.length by omega),hx',List.map_append,List.map_append]
        simp only [nZ,bne]
        cases x.2.2.1.1==4 <;> cases decide ((x.2.2.1.2.1:Int) > m.2.2.1.2.1) <;> cases mo y.2.2.1.2.2.1 x.2.2.1.2.2.1 <;> rfl
noncomputable def mY (id:Int) (s:ByteArray) (h:Ty.d gP):Bool:=(fv id s).2&&(((fv id s).1.1==h.1)&&(((fv id s).1.2.1==h.2.1)&&ss (fv id s).1.2.2.1 h.2.2.1))
theorem D9 (id:Int) {s:ByteArray} (hs:s.size≤1073741823):(fv id s).1.2.2.1.length≤1073741824:=by
 have hln:=iw s
 unfold fv
 generalize az s=sc at hln ⊢
 obtain ⟨l,en⟩:=sc
 simp only at hln ⊢
 cases en != (s.size:Int)
 · cases l.length==0
   · cases (l.getD (l.length-1) (Ty.z c_)).2.2.1.1 != 5
     · cases !decide ((1:Int)≤id∧id≤100000)
       · cases !nJ (nZ (l.getD (l.length-1) (Ty.z c_)).2.2.1.2.1) none (l.take (l.length-1))
         · cases !gV (l.getD (l.length-1) (Ty.z c_)).2.2.1 (b8 id (l.take (l.length-1)))
           · show ((l.take (l.length-1)).map (Ah id)).length≤1073741824
             rw [List.length_map,List.length_take]
             omega
           · exact Nat.zero_le _
         · exact Nat.zero_le _
       · exact Nat.zero_le _
     · exact Nat.zero_le _
   · exact Nat.zero_le _
 · exact Nat.zero_le _
theorem uo {k:Nat} (hk:2 ^ 50≤k) (id:Int) {s:ByteArray} (hs:s.size≤1073741823) (h:Ty.d gP):gK.f k id s h=some (mY id s h,()):=by
 have hl:=D9 id hs
 unfold gK.f gK.t mY
 rw [qx hk id hs,ab]
 simp only []
 rw [wT hk hl,ab]
 cases (fv id s).2 <;> cases (fv id s).1.1==h.1 <;> cases (fv id s).1.2.1==h.2.1 <;> rfl
end Go.Proofs.YtnpijgnfpdcjbaaGreatDoor.G
namespace Go.V
def je {α:Type} (o:Option α) (P:α→Prop):Prop:=∃ r,o=some r∧P r
section
variable {α β:Type} {P P':α→Prop} {Q:β→Prop}
theorem ae {r:α} (h:P r):je (some r) P:=⟨r,rfl,h⟩
theorem CZ {o:Option α} {r:α} (e:o=some r) (h:P r):je o P:=⟨r,e,h⟩
theorem Jx {o:Option α} {r:α} (h:je o (fun x=>x=r)):o=some r:=by
 obtain ⟨x,e,rfl⟩:=h
 exact e
theorem oE {o:Option α} (h:je o P) (hp:∀ r,P r→P' r):je o P':=by
 obtain ⟨r,e,hr⟩:=h
 exact ⟨r,e,hp r hr⟩
theorem bA {o:Option α} {g:α→Option β} (h:je o P) (hg:∀ r,P r→je (g r) Q):je (Option.bind o g) Q:=by
 obtain ⟨r,e,hr⟩:=h
 rw [e]
 exact hg r hr
theorem bP {o:Option α} {r:α} {g:α→Option β} (e:o=some r) (hg:je (g r) Q):je (Option.bind o g) Q:=by
 rw [e]
 exact hg
theorem b9 {b:Bool} {x y:Option α} (h1:b=true→je x P) (h2:b=false→je y P):je (bif b then x else y) P:=by
 cases b
 · exact h2 rfl
 · exact h1 rfl
theorem kE {b:Bool} {x y:Option α} (hb:b=true) (h:je x P):je (bif b then x else y) P:=by rw [hb];exact h
theorem kz {b:Bool} {x y:Option α} (hb:b=false) (h:je y P):je (bif b then x else y) P:=by rw [hb];exact h
theorem g_ {i n:Int} {x:Option α} (h0:0≤i) (h1:i<n) (h:je x P):je (bF i n x) P:=by rw [aH h0 h1];exact h
theorem A6 {i n:Int} {x:Option α} (h0:0≤i) (h1:i≤n) (h:je x P):je (pJ i n x) P:=by rw [cM h0 h1];exact h
theorem oj {b n:Nat} {x:Option α} (h0:n≤1099511627776) (hb:b≤128) (h:je x P):je (rm b n x) P:=by rw [cD h0 hb];exact h
end
end Go.V
namespace Go.Proofs.YtnpijgnfpdcjbaaGreatDoor.G
open Go.V
noncomputable def i_ (s:ByteArray):Ty.d gP × Bool:=nX (fun h=>lN h=true) cv o_ s
def RH (s:ByteArray) (o:Option (Ty.d gP × Bool × Unit)):Prop:=(∃ h,lN h=true∧cv h=s∧o=some (h,(true,())))∨o=some (o_,(false,()))
theorem B6 (s:ByteArray):RH s (some (o_,(false,()))) := .inr rfl
theorem GH {s:ByteArray} (hs:4≤s.size) (h:Ty.d gP):RH s (bif !seq (cv h) s then some (o_,(false,())) else some (h,(true,()))):=by
 cases c:seq (cv h) s with
 | false=>exact .inr rfl
 | true =>
  have e:=dr.1 c
  refine .inl ⟨h,?_,e,rfl⟩
  cases q:lN h with
  | true=>rfl
  | false =>
   unfold cv at e
   rw [if_neg (by rw [q];decide)] at e
   rw [← e] at hs
   exact absurd hs (by decide)
theorem G7 {k:Nat} (hk:2 ^ 50≤k) {s:ByteArray} (hs:s.size≤1073741824) {m:Int} (h0:0≤m) (hm:m≤4):∀ (d n:Nat) (pos j:Int) (out:List Int),j+(d:Int)=m→0≤j→d<n→0≤pos→pos≤s.size→(out.length:Int)=j →
 je (bZ.l0 k n s pos m j out) (fun r=>(r.2.1 = -1∨(pos≤r.2.1∧r.2.1≤(s.size:Int)))∧(r.1.length:Int)=m):=by
 intro d
 induction d with
 | zero =>
  intro n pos j out h1 h2 hn h3 h4 h5
  obtain ⟨n,rfl⟩:∃ q,n=q+1:=⟨n-1,by omega⟩
  simp only [bZ.l0,bZ.b0]
  exact kz (aP (by omega)) (ae ⟨.inr ⟨Int.le_refl _,h4⟩,by show (out.length:Int)=m;omega⟩)
 | succ d ih =>
  intro n pos j out h1 h2 hn h3 h4 h5
  obtain ⟨n,rfl⟩:∃ q,n=q+1:=⟨n-1,by omega⟩
  have hr:=zT (ByteArray.extract s pos.toNat s.size)
  rw [o9] at hr
  simp only [bZ.l0,bZ.b0]
  refine kE (aO (by omega)) (A6 h3 h4 (bP (fP hk _) ?_))
  generalize DN (rv 7 (nb (ByteArray.extract s pos.toNat s.size)))=r at hr
  refine b9 (fun _=>?_) (fun _=>?_)
  · rw [zf h0 (by omega) (by decide)]
    exact ae ⟨.inl rfl,by show ((List.replicate m.toNat _).length:Int)=m;rw [List.length_replicate];omega⟩
  · rw [aD (n:=pos+r.2.1) (by omega) (by omega),aD (n:=j+1) (by omega) (by omega)]
    refine oj (by omega) (by decide) (oE (ih n (pos+r.2.1) (j+1) (out++[r.1]) (by omega) (by omega) (by omega) (by omega) (by omega) (by rw [bv];omega)) fun x hx=>⟨?_,hx.2⟩)
    rcases hx.1 with q | q
    · exact .inl q
    · exact .inr ⟨by omega,q.2⟩
theorem C5 {k:Nat} (hk:2 ^ 50≤k) {s:ByteArray} (hs:s.size≤1073741824) {m pos:Int} (h0:0≤m) (hm:m≤4) (h1:0≤pos) (h2:pos≤s.size) :
 je (bZ.f k s pos m) (fun r=>(r.2.1 = -1∨(pos≤r.2.1∧r.2.1≤(s.size:Int)))∧(r.1.length:Int)=m):=by
 unfold bZ.f bZ.t
 exact G7 hk hs h0 hm m.toNat k pos 0 [] (by omega) (by omega) (by omega) h1 h2 rfl
def B3 (x:Int):Prop:=0≤x∧x≤1000000
theorem I4 {x:Int} (h:B3 x):∃ n:Nat,n<562949953421312∧x=(n:Int)∧gh x=bB n:=by
 obtain ⟨n,rfl⟩:=Int.eq_ofNat_of_zero_le h.1
 have:=h.2
 exact ⟨n,by omega,rfl,dX (by omega)⟩
theorem Bl {k:Nat} (hk:2 ^ 50≤k) {m:Int} (hm:m≤4):∀ (xs:List Int) (pre t:ByteArray) (n:Nat) (j:Int) (out:List Int),(∀ x ∈ xs,B3 x)→j+(xs.length:Int)=m→0≤j→xs.length<n→(out.length:Int)≤j→pre.size+((ff xs).size+t.size)≤1073741824 →
 bZ.l0 k n (pre++(ff xs++t)) (pre.size:Int) m j out=some (out++xs,(((pre.size+(ff xs).size:Nat):Int),()))
 | [],pre,t,n,j,out,hx,h1,h2,hn,h3,hz=>by
  obtain ⟨n,rfl⟩:∃ q,n=q+1:=⟨n-1,by omega⟩
  simp only [List.length_nil] at h1
  simp only [bZ.l0,bZ.b0]
  rw [aP (by omega),aK,List.append_nil]
  rfl
 | x::xs,pre,t,n,j,out,hx,h1,h2,hn,h3,hz=>by
  obtain ⟨n,rfl⟩:∃ q,n=q+1:=⟨n-1,by omega⟩
  obtain ⟨a,ha,rfl,hv⟩:=I4 (hx x (jd ..))
  have hva:=ah a
  rw [kJ] at h1 hn
  have e1:ff ((a:Int)::xs)=bB a++ff xs:=by rw [ff,hv]
  rw [e1,aN] at hz
  rw [e1]
  have e2:pre++(bB a++ff xs++t)=pre++bB a++(ff xs++t):=by simp only [ai]
  have ih:=Bl hk hm xs (pre++bB a) t n (j+1) (out++[(a:Int)]) (fun y hy=>hx y (lL _ hy)) (by omega) (by omega) (by omega) (by rw [bv];omega) (by rw [aN];omega)
  simp only [bZ.l0,bZ.b0]
  rw [aO (by omega),ac,cM (by omega) (by rw [aN];omega),nt,dk,ai,cQ hk ha,ab]
  simp only []
  rw [show (((bB a).size:Int)==0)=false from mC (by omega),aK,cD (by omega) (by decide),si,aD (by omega) (by omega),aD (n:=j+1) (by omega) (by omega)]
  rw [aN] at ih
  rw [← ai pre,ih,nn,aN,Nat.add_assoc]
  rfl
theorem EJ {k:Nat} (hk:2 ^ 50≤k) {xs:List Int} (pre t:ByteArray) (hx:∀ x ∈ xs,B3 x) (hl:xs.length≤4) (hz:pre.size+((ff xs).size+t.size)≤1073741824) :
 bZ.f k (pre++(ff xs++t)) (pre.size:Int) (xs.length:Int)=some (xs,(((pre.size+(ff xs).size:Nat):Int),())):=by
 unfold bZ.f bZ.t
 exact Bl hk (by omega) xs pre t k 0 [] hx (by omega) (by omega) (by omega) (by simp) hz
theorem L_ {k:Nat} (hk:2 ^ 50≤k) {s:ByteArray} (hs:s.size≤1073741824):je (cJ.f k s) (fun r=>r.2.1.size≤s.size):=by
 rcases mr s with ⟨u,t,hu,rfl⟩ | h
 · rw [aN,aN] at hs
   exact CZ (u0 hk hu (by rw [aN];omega)) (by show t.size≤_;rw [aN,aN];omega)
 · exact CZ (wu hk (by omega) h) (Nat.zero_le _)
theorem AX {k:Nat} (hk:2 ^ 50≤k) {s:ByteArray} (h4:4≤s.size) (hs:s.size≤1073741824) (z:aR) (z1 z2 a b:Int) {xs:List Int} (hx:xs.length=3) (hc:xs.getD 2 (Ty.z (.int .i64))≤(20:Int)):∀ (d n:Nat) (pos j:Int) (out:aR),j+(d:Int)=20→0≤j→d<n→0≤pos→pos≤s.size→(out.length:Int)≤j →
 RH s (bJ.l0 k n s pos j z z1 z2 xs out a b):=by
 intro d
 induction d with
 | zero =>
  intro n pos j out h1 h2 hn h3 h5 h6
  obtain ⟨n,rfl⟩:∃ q,n=q+1:=⟨n-1,by omega⟩
  simp only [bJ.l0,bJ.b0]
  rw [aH (by omega) (by omega),aP (show ¬ j<xs.getD 2 (Ty.z (.int .i64)) by omega),aK,kS hk,ab]
  exact GH h4 _
 | succ d ih =>
  intro n pos j out h1 h2 hn h3 h5 h6
  obtain ⟨n,rfl⟩:∃ q,n=q+1:=⟨n-1,by omega⟩
  have hz:=o9 s pos.toNat
  simp only [bJ.l0,bJ.b0]
  rw [aH (by omega) (by omega)]
  by_cases c:j<xs.getD 2 (Ty.z (.int .i64))
  · rw [aO c,ac,cM h3 h5]
    obtain ⟨r2,e2,q2⟩:=L_ hk (s:=ByteArray.extract s pos.toNat s.size) (by omega)
    rw [e2,ab]
    obtain ⟨r3,e3,q3,q4⟩:=C5 hk (s:=r2.2.1) (m:=4) (pos:=0) (by omega) (by omega) (by omega) (by omega) (by omega)
    rw [e3,ab]
    cases r2.2.2.1 with
    | false=>exact B6 s
    | true =>
     simp only [fh,aK]
     by_cases c3:r3.2.1<0
     · rw [aO c3];exact B6 s
     · rw [aP c3,aK,aH (by omega) (by omega),aH (by omega) (by omega),aH (by omega) (by omega),aH (by omega) (by omega),cD (by omega) (by decide),aD (n:=(s.size:Int)-(r2.2.1.size:Int)) (by omega) (by omega),aD (n:=(s.size:Int)-(r2.2.1.size:Int)+r3.2.1) (by omega) (by omega),aD (n:=j+1) (by omega) (by omega)]
       exact ih n _ (j+1) _ (by omega) (by omega) (by omega) (by omega) (by omega) (by rw [bv];omega)
  · rw [aP c,aK,kS hk,ab]
    exact GH h4 _
theorem D2 {k:Nat} (hk:2 ^ 50≤k) {s:ByteArray} (hs:s.size≤1073741824):RH s (bJ.f k s):=by
 unfold bJ.f bJ.t
 by_cases h4:(s.size:Int)<4
 · rw [aO h4];exact B6 s
 · rw [aP h4,aK]
   obtain ⟨r,e,q1,q2⟩:=C5 hk (s:=s) (m:=3) (pos:=4) hs (by omega) (by omega) (by omega) (by omega)
   rw [e,ab]
   by_cases c1:r.2.1<0
   · rw [aO c1];exact B6 s
   · rw [aP c1,aK,aH (by omega) (by omega)]
     by_cases c2:r.1.getD 2 (Ty.z (.int .i64)) > (20:Int)
     · rw [aO c2];exact B6 s
     · rw [aP c2,aK,aH (by omega) (by omega),aH (by omega) (by omega)]
       exact AX hk (by omega) hs [] 0 0 _ _ (by omega) (Int.not_lt.1 c2) 20 k r.2.1 0 [] (by omega) (by omega) (by omega) (by omega) (by omega) (by simp)
theorem H8 {e:Ty.d aB} {l:aR} (hl:oJ l=true) (ho:AC l=true) (he:e ∈ l):∀ x ∈ [(e.2.1:Int),e.2.2.1,e.2.2.2.1,e.2.2.2.2.1],B3 x:=by
 obtain ⟨_,q⟩:=ki hl
 obtain ⟨_,⟨a1,a2⟩,b1,⟨c1,c2⟩,⟨d1,d2⟩⟩:=q e he
 have h2:=List.all_eq_true.1 ho e he
 unfold Ec at h2
 rw [gN] at h2
 have b2:LE.le (α:=Int) e.2.2.1 100000:=by
  refine Int.not_lt.1 fun w=>?_
  have:(!decide ((e.2.2.1:Int) > 100000))=false:=by rw [aO w];rfl
  rw [this] at h2
  cases h2.2
 intro x hx
 simp only [List.mem_cons,List.not_mem_nil,or_false] at hx
 rcases hx with rfl | rfl | rfl | rfl
 · exact ⟨by omega,by omega⟩
 · exact ⟨b1,by omega⟩
 · exact ⟨by omega,by omega⟩
 · exact ⟨by omega,d2⟩
theorem Eo (e:Ty.d aB) (h:e.1.size≤8) (t:ByteArray):j5 e++t=bB e.1.size++(e.1++(ff [(e.2.1:Int),e.2.2.1,e.2.2.2.1,e.2.2.2.2.1]++t)):=by
 unfold j5 iu
 rw [dX (by omega)]
 simp only [ff,jE,ai]
theorem wN {k:Nat} (hk:2 ^ 50≤k) {h:Ty.d gP} (q:lN h=true) (z:aR) (z1 z2:Int):∀ (r:aR) (pre:ByteArray) (n:Nat) (j:Int) (out:aR),(∀ e ∈ r,e ∈ h.2.2.1)→out++r=h.2.2.1→(out.length:Int)=j→r.length<n→cv h=pre++kO r→pre.size≤1000 →
 bJ.l0 k n (cv h) (pre.size:Int) j z z1 z2 [(h.1:Int),h.2.1,(h.2.2.1.length:Int)] out h.1 h.2.1=some (h,(true,()))
 | [],pre,n,j,out,hr,ho,hj,hn,hs,hp=>by
  obtain ⟨n,rfl⟩:∃ q,n=q+1:=⟨n-1,by omega⟩
  rw [List.append_nil] at ho
  simp only [bJ.l0,bJ.b0]
  rw [aH (by omega) (by simp),show List.getD [(h.1:Int),h.2.1,(h.2.2.1.length:Int)] 2 (Ty.z (.int .i64))=(h.2.2.1.length:Int) from rfl,ho,aP (by rw [← hj,ho];omega),aK,show (h.1,(h.2.1,(h.2.2.1,())))=h from rfl,kS hk,ab]
  simp only [bV]
  rfl
 | e::r,pre,n,j,out,hr,ho,hj,hn,hs,hp=>by
  obtain ⟨n,rfl⟩:∃ q,n=q+1:=⟨n-1,by omega⟩
  have hlen:h.2.2.1.length=out.length+(r.length+1):=by rw [← ho,uH,kJ]
  have he:=hr e (jd ..)
  have hd:=oB q
  have h1:AC h.2.2.1=true:=by unfold lN at q;rw [gN,gN,gN] at q;exact q.2.2.2
  have hk8:=((ki hd).2 e he).1.2
  have h20:=(ki hd).1
  have hnum:=H8 hd h1 he
  have hz:=nh h
  have hf:=Eo e hk8 (kO r)
  have hs2:cv h=pre++(bB e.1.size++(e.1++(ff [(e.2.1:Int),e.2.2.1,e.2.2.2.1,e.2.2.2.2.1]++kO r))):=by rw [← hf];exact hs
  have hs3:cv h=(pre++j5 e)++kO r:=by rw [ai];exact hs
  have hsz:=congrArg ByteArray.size hs2
  simp only [aN] at hsz
  have hsz3:=congrArg ByteArray.size hs3
  rw [aN,aN] at hsz3
  have ih:=wN hk q z z1 z2 r (pre++j5 e) n (j+1) (out++[e]) (fun x hx=>hr x (lL _ hx)) (by rw [nn];exact ho) (by rw [bv];omega) (by rw [kJ] at hn;omega) hs3 (by rw [aN];omega)
  have hv:=EJ hk (xs:=[(e.2.1:Int),e.2.2.1,e.2.2.2.1,e.2.2.2.2.1]) ⟨#[]⟩ (kO r) hnum (by simp) (by rw [e0];omega)
  rw [nL,e0] at hv
  simp only [bJ.l0,bJ.b0]
  rw [aH (by omega) (by simp),show List.getD [(h.1:Int),h.2.1,(h.2.2.1.length:Int)] 2 (Ty.z (.int .i64))=(h.2.2.1.length:Int) from rfl,aO (by omega),ac,cM (by omega) (by omega),nt]
  have ex:ByteArray.extract (cv h) pre.size (cv h).size=bB e.1.size++(e.1++(ff [(e.2.1:Int),e.2.2.1,e.2.2.2.1,e.2.2.2.2.1]++kO r)):=by rw [hs2,dk]
  rw [ex,u0 hk (by omega) (by simp only [aN];omega),ab]
  simp only []
  rw [show bZ.f k (ff [(e.2.1:Int),e.2.2.1,e.2.2.2.1,e.2.2.2.2.1]++kO r) 0 4=_ from hv,ab]
  simp only [fh,aK]
  rw [aP (by omega),aK,aH (by omega) (by simp),aH (by omega) (by simp),aH (by omega) (by simp),aH (by omega) (by simp),cD (by omega) (by decide),aD (n:=j+1) (by omega) (by omega)]
  have hsv:(ff [(e.2.1:Int),e.2.2.1,e.2.2.2.1,e.2.2.2.2.1]++kO r).size=(ff [(e.2.1:Int),e.2.2.1,e.2.2.2.1,e.2.2.2.2.1]).size+(kO r).size:=aN _ _
  have w:aJ (aJ (((cv h).size:Int)-((ff [(e.2.1:Int),e.2.2.1,e.2.2.2.1,e.2.2.2.2.1]++kO r).size:Int))+((0+(ff [(e.2.1:Int),e.2.2.1,e.2.2.2.1,e.2.2.2.2.1]).size:Nat):Int))=((pre++j5 e).size:Int):=by
   have hpe:=aN pre (j5 e)
   rw [aD (n:=((cv h).size:Int)-_) (by omega) (by omega),aD (by omega) (by omega)]
   omega
  rw [w]
  exact ih
theorem G8 {h:Ty.d gP} (q:lN h=true):∀ x ∈ [(h.1:Int),h.2.1,(h.2.2.1.length:Int)],B3 x:=by
 have h20:=(ki (oB q)).1
 unfold lN at q
 rw [gN,gN,decide_eq_true_eq,decide_eq_true_eq] at q
 obtain ⟨⟨a1,a2⟩,⟨b1,b2⟩,_⟩:=q
 intro x hx
 simp only [List.mem_cons,List.not_mem_nil,or_false] at hx
 rcases hx with rfl | rfl | rfl
 · exact ⟨a1,by have:LE.le (α:=Int) h.1 100000:=a2;omega⟩
 · exact ⟨b1,b2⟩
 · exact ⟨by omega,by omega⟩
theorem xm {h:Ty.d gP} (q:lN h=true):cv h=sg (pI (qz h))++(ff [(h.1:Int),h.2.1,(h.2.2.1.length:Int)]++kO h.2.2.1):=by
 unfold cv
 rw [if_pos q]
 unfold qz
 simp only [ff,jE,ai]
theorem rx (x:Int):(sg x).size=4:=rfl
theorem Em {k:Nat} (hk:2 ^ 50≤k) {h:Ty.d gP} (q:lN h=true):bJ.f k (cv h)=some (h,(true,())):=by
 have h20:=(ki (oB q)).1
 have hf:=xm q
 have hz:=nh h
 have hsz:=congrArg ByteArray.size hf
 rw [aN,aN,rx] at hsz
 have hv:=EJ hk (xs:=[(h.1:Int),h.2.1,(h.2.2.1.length:Int)]) (sg (pI (qz h))) (kO h.2.2.1) (G8 q) (by simp) (by rw [rx];omega)
 rw [← hf,rx] at hv
 unfold bJ.f bJ.t
 rw [aP (by omega),aK,show bZ.f k (cv h) 4 3=_ from hv,ab]
 simp only []
 rw [aP (by omega),aK,aH (by omega) (by simp),show List.getD [(h.1:Int),h.2.1,(h.2.2.1.length:Int)] 2 (Ty.z (.int .i64))=(h.2.2.1.length:Int) from rfl,aP (by omega),aK,aH (by omega) (by simp),aH (by omega) (by simp)]
 have:=wN hk q [] 0 0 h.2.2.1 (sg (pI (qz h))++ff [(h.1:Int),h.2.1,(h.2.2.1.length:Int)]) k 0 [] (fun e he=>he) rfl rfl (by omega) (by rw [ai];exact hf) (by rw [aN,rx];omega)
 rw [aN,rx] at this
 exact this
theorem pE {k:Nat} (hk:2 ^ 50≤k) {s:ByteArray} (hs:s.size≤1073741824):bJ.f k s=some ((i_ s).1,((i_ s).2,())) :=
 qW (fun h h1 h2=>by rw [← h2];exact Em hk h1) (D2 hk hs)
theorem sC {s:ByteArray}:(i_ s).1.2.2.1.length≤20:=by
 rcases jD (fun h=>lN h=true) cv o_ s with ⟨r,h1,_,e⟩ | e
 · unfold i_
   rw [e]
   exact (ki (oB h1)).1
 · unfold i_
   rw [e]
   exact Nat.zero_le _
def l_:Ty.d aE:=((0,([],())),([],(0,(0,(0,())))))
noncomputable def rz (d:Ty.d aA) (x:Int) (last:Bool):Bool:=(aT d (a_ aF x)).2&&(last||!decide ((az (dq d x)).2<((dq d x).size:Int)))
noncomputable def iW (d:Ty.d aA):List Int→Bool
 | []=>true
 | x::l=>rz d x l.isEmpty&&iW d l
noncomputable def vZ (d:Ty.d aA) (x:Int):aW:=b8 x (az (dq d x)).1
noncomputable def mE (d:Ty.d aA):List Int→aW
 | []=>[]
 | x::l=>vZ d x++mE d l
noncomputable def gp (d:Ty.d aA) (x:Int):Ty.d gP:=(i_ (aT d (a_ dC x)).1).1
noncomputable def ol (d:Ty.d aA) (x:Int):Bool:=(aT d (a_ dC x)).2&&((i_ (aT d (a_ dC x)).1).2&&mY x (dq d x) (gp d x))
noncomputable def ji (d:Ty.d aA) (ids:List Int):Ty.d fj :=
 bif ol d (ids.getD 0 0) then eH ((gp d (ids.getD 0 0)).2.2.1,((gp d (ids.getD 0 0)).2.1,(0,()))) (mE d (ids.drop 1)) else eH ([],(0,(0,()))) (mE d ids)
noncomputable def IP (v:Ty.d cY) (en:Int) (g:Ty.d fj) (hi:Int):Ty.d aE:=(v,(g.1,(aJ (g.2.1+1),(en,(hi,())))))
noncomputable def tF (v:Ty.d cY) (en:Int) (x:Ty.d aA) (g:Ty.d fj) (hi:Int):Ty.d aE × RD :=
 bif g.2.2.1 != 0 then (l_,(x,3)) else bif (gm v.2.1 x).2 != 0 then (l_,((gm v.2.1 x).1,iH (gm v.2.1 x).2)) else
 (IP v en g hi,((gm v.2.1 x).1,0))
noncomputable def pR (v:Ty.d cY) (d:Ty.d aA):Ty.d aE × RD :=
 bif !iW d v.2.1 then (l_,(d,3)) else
 bif (fN (aZ v.2.1) d).2 != 0 then (l_,((fN (aZ v.2.1) d).1,iH (fN (aZ v.2.1) d).2)) else
 tF v (az (dq d (aZ v.2.1))).2 (fN (aZ v.2.1) d).1 (ji (fN (aZ v.2.1) d).1 v.2.1) (bif ol (fN (aZ v.2.1) d).1 (v.2.1.getD 0 0) then v.2.1.getD 0 0 else 0)
def uI:Ty.d cY:=(2,([1],()))
noncomputable def jW (d:Ty.d aA):RD:=gM (gM (gm [] d) fun x=>vQ x (a_ aF 1)) (bf uI)
noncomputable def oU (d:Ty.d aA):Ty.d aE × RD :=
 bif (jW d).2==0 then ((uI,([],(1,(0,(0,()))))),((jW d).1,0)) else (l_,((jW d).1,iH (jW d).2))
noncomputable def jZ (d:Ty.d aA):Ty.d aE × RD :=
 bif !gd d then (l_,(d,4)) else bif d.2.2.2.1 then (l_,(d,1)) else
 bif !(aT d dm).2 then oU d else
 bif !(fM (aT d dm).1).2 then (l_,(d,3)) else pR (fM (aT d dm).1).1 d
def oS (q:Ty.d aE × RD):Ty.d aE × Ty.d aA × Int × Unit:=(q.1,(q.2.1,(q.2.2,())))
theorem E8 {lim:Int}:∀ (l:List Int) (p:Option Int),nJ (mF lim) p l=true→(∀ q,p=some q→∀ x ∈ l,q<x)∧l.Pairwise (fun a b=>a<b)
 | [],p,_=>⟨fun q _ x hx=>(by cases hx),List.Pairwise.nil⟩
 | y::l,p,h=>by
  unfold nJ at h
  rw [gN] at h
  obtain ⟨h1,h2⟩:=h
  obtain ⟨a,b⟩:=E8 l (some y) h2
  have hy:∀ q,p=some q→q<y:=fun q hq=>by
   subst hq
   unfold mF at h1
   rw [gN] at h1
   exact of_decide_eq_true h1.2
  refine ⟨fun q hq x hx=>?_,List.pairwise_cons.2 ⟨a y rfl,b⟩⟩
  rcases List.mem_cons.1 hx with e | e
  · rw [e];exact hy q hq
  · have:=a y rfl x e
    have:=hy q hq
    omega
theorem Fv {v:Ty.d cY} (h:cS v=true):v.2.1.Pairwise (fun a b=>a<b):=by
 unfold cS at h
 rw [gN,gN] at h
 exact (E8 _ _ h.2.2).2
theorem H2 {α:Type} {l m:List α} {n:Nat} {z:α} (h:l.length≤n):(l++m).getD n z=m.getD (n-l.length) z:=by
 simp [List.getD,List.getElem?_append_right h]
theorem Im {ids:List Int} (hp:ids.Pairwise (fun a b=>a<b)) {i:Nat} {x:Int} {rest:List Int} (h:ids.drop i=x::rest):(x==aZ ids)=rest.isEmpty:=by
 have hi:=Ho h
 have hlen:=congrArg List.length h
 rw [List.length_drop,kJ] at hlen
 have e:ids=ids.take i++(x::rest):=by rw [← h,List.take_append_drop]
 have hl:aZ ids=(x::rest).getD rest.length 0:=by
  unfold aZ
  have ht:(ids.take i).length=i:=by rw [List.length_take];omega
  conv=>lhs;rw [e]
  rw [H2 (by rw [ht,uH,ht,kJ];omega),ht,uH,ht,kJ]
  congr 1
  omega
 cases rest with
 | nil=>rw [hl];exact beq_self_eq_true x
 | cons y r =>
  rw [hl]
  have hm:(x::y::r).getD (y::r).length 0 ∈ y::r:=by
   show (y::r).getD r.length 0 ∈ y::r
   exact iJ (by rw [kJ];omega)
  have hpd:(x::y::r).Pairwise (fun a b=>a<b):=by rw [← h];exact hp.drop
  have:=(List.pairwise_cons.1 hpd).1 _ hm
  exact mC (by omega)
theorem oM {d:Ty.d aA} (h:DR d) (x:Int):(dq d x).size≤100000:=by
 have:=fo d (a_ aF x)
 have h2:=h.use
 have h3:=h.cap1
 unfold dq
 omega
theorem ww {d:Ty.d aA} (h:DR d) (x:Int):(vZ d x).length≤100000:=by
 have h1:=oM h x
 have h2:=iw (dq d x)
 unfold vZ
 rw [pW]
 omega
theorem oN {d:Ty.d aA} (h:DR d):∀ l:List Int,(mE d l).length≤100000*l.length
 | []=>Nat.zero_le _
 | x::l=>by
  have h1:=ww h x
  have h2:=oN h l
  unfold mE
  rw [uH,kJ]
  omega
theorem AE {k:Nat} (hk:2 ^ 50≤k) {d:Ty.d aA} (h:DR d):fy.f k d=some (oS (oU d)):=by
 have h1:=pN [] d h
 have hv:cS uI=true:=by decide
 unfold fy.f fy.t oU jW
 rw [sO hk h (by decide),ab]
 simp only [show ((0,(([]:List Int),())):Ty.d cY).2.1=[] from rfl]
 generalize gm [] d=r at h1 ⊢
 unfold gM
 simp only [bne,iF]
 cases c:r.2==0 with
 | false=>simp only [uV,ac,aK,c];rfl
 | true =>
  simp only [fh,aK,ac]
  rw [bU hk,ab]
  simp only []
  have hn:=u6 (.inl rfl:aF=aF∨aF=dC) 1
  rw [rU hk h1.sz (by omega),ab]
  simp only [cw,ab]
  cases c2:(vQ r.1 (a_ aF 1)).2==0 with
  | false=>simp only [uV,ac,aK,c2];rfl
  | true =>
   simp only [fh,aK,ac]
   rw [show ((2,([1],())):Ty.d cY)=uI from rfl,ml hk (za h1 _) hv,ab]
   simp only [iF]
   cases c3:(bf uI (vQ r.1 (a_ aF 1)).1).2==0 <;> rfl
def IJ (k:Nat) (v:Ty.d cY) (en:Int) (x:Ty.d aA) (hi:Int) (dir:aR) (la:Int) (pl:aW):Option (Ty.d aE × Ty.d aA × Int × Unit) :=
 (Option.bind (cA.f k (dir,(la,(0,()))) pl) fun r33=>(bif (r33.1.2.2.1 != 0) then (some (l_,(x,(3,())))) else
 (Option.bind (bi.f k x v) fun r34=>(bif (r34.2.1 != 0) then (some (l_,r34)) else (some ((v,(r33.1.1,((aJ (r33.1.2.1+1)),(en,(hi,()))))),(r34.1,(0,()))))))))
theorem EM {k:Nat} (hk:2 ^ 50≤k) {v:Ty.d cY} (hv:v.2.1.length≤60) (en:Int) {x:Ty.d aA} (h:DR x) (hi:Int) {dir:aR} (hd:dir.length≤1000) (la:Int) {pl:aW} (hp:pl.length≤100000000) :
 IJ k v en x hi dir la pl=some (oS (tF v en x (eH (dir,(la,(0,()))) pl) hi)):=by
 unfold IJ tF
 rw [wy hk _ (by omega) (by show dir.length≤_;omega),ab]
 simp only [bne]
 cases (eH (dir,(la,(0,()))) pl).2.2.1==0 with
 | false=>rfl
 | true =>
  simp only [fh,aK]
  rw [sO hk h (by omega),ab]
  simp only [iF]
  cases (gm v.2.1 x).2==0 <;> rfl
theorem Jn {k:Nat} (hk:2 ^ 50≤k) {v:Ty.d cY} (hv:v.2.1.length≤60) (en:Int) {x:Ty.d aA} (h:DR x) (hi:Int) (dir:aR) (la:Int) :
 ∀ (n:Nat) (i:Int) (pl:aW),0≤i→i≤(v.2.1.length:Int)→(v.2.1.length:Int)-i<n→1≤i∧(pl.length:Int)≤100000*i →
 au.l1 k n i [] [] 0 0 0 0 [] 0 0 false [] [] 0 0 0 0 v.2.1 v.1 x.1 x.2.1 x.2.2.1 x.2.2.2.1 [] v.1 0 en hi dir la 0 pl=IJ k v en x hi dir la (pl++mE x (v.2.1.drop i.toNat)):=by
 have hl:=h.sz.l
 have hu:=h.sz.u
 have hn:=h.sz.n
 refine H6 (L:=fun n i pl=>au.l1 k n i [] [] 0 0 0 0 [] 0 0 false [] [] 0 0 0 0 v.2.1 v.1 x.1 x.2.1 x.2.2.1 x.2.2.2.1 [] v.1 0 en hi dir la 0 pl) (R:=fun r pl=>IJ k v en x hi dir la (pl++mE x r)) (Ty.z (.int .i64)) v.2.1 (fun i pl=>1≤i∧(pl.length:Int)≤100000*i) (fun n pl hp=>?_) (fun n i pl y rest h0 h1 hy hr hp ih=>?_)
 · simp only [au.l1,au.b1]
   rw [aP (by omega),aK,show mE x []=[] from rfl,List.append_nil]
   rfl
 · have hs:=oM h y
   have hpl:=ww h y
   have ht:=fo x (a_ dC y)
   have ih:=ih (pl++vZ x y) ⟨by omega,by rw [uH];omega⟩
   simp only [au.l1,au.b1]
   rw [aO h1,ac,aH h0 h1,hy,bU hk,ab]
   simp only []
   rw [show (x.1,(x.2.1,(x.2.2.1,(x.2.2.2.1,()))))=x from rfl,gS hk (by omega) (by omega) (by omega),ab,aH h0 h1,iQ hk,ab]
   simp only []
   rw [gS hk (by omega) (by omega) (by omega),ab]
   simp only []
   rw [pE hk (by omega),ab,show (i==0)=false from mC (by omega)]
   simp only [aK]
   rw [aH h0 h1,rA hk y (by show (dq x y).size≤_;omega),ab]
   simp only []
   rw [cD (by show pl.length+(vZ x y).length≤_;omega) (by decide),aD (n:=i+1) (by omega) (by omega)]
   refine ih.trans ?_
   rw [nn]
   rfl
theorem w_ {k:Nat} (hk:2 ^ 50≤k) {v:Ty.d cY} (hv:v.2.1.length≤60) (hv1:1≤v.2.1.length) (en:Int) {x:Ty.d aA} (h:DR x) :
 au.l1 k k 0 [] [] 0 0 0 0 [] 0 0 false [] [] 0 0 0 0 v.2.1 v.1 x.1 x.2.1 x.2.2.1 x.2.2.2.1 [] v.1 0 en 0 [] 0 0 []=some (oS (tF v en x (ji x v.2.1) (bif ol x (v.2.1.getD 0 0) then v.2.1.getD 0 0 else 0))):=by
 have hl:=h.sz.l
 have hu:=h.sz.u
 have hn:=h.sz.n
 obtain ⟨n,hn2⟩:∃ q,k=q+1:=⟨k-1,by omega⟩
 have hs:=oM h (v.2.1.getD 0 0)
 have hpl:=ww h (v.2.1.getD 0 0)
 have ht:=fo x (a_ dC (v.2.1.getD 0 0))
 have hpa:=oN h (v.2.1.drop 1)
 have hpb:=oN h v.2.1
 rw [List.length_drop] at hpa
 have hh:=sC (s:=(aT x (a_ dC (v.2.1.getD 0 0))).1)
 have step:=fun hi dir la pl=>Jn hk hv en h hi dir la n 1 pl (by omega) (by omega) (by omega)
 refine (congrArg (fun z=>au.l1 k z 0 [] [] 0 0 0 0 [] 0 0 false [] [] 0 0 0 0 v.2.1 v.1 x.1 x.2.1 x.2.2.1 x.2.2.2.1 [] v.1 0 en 0 [] 0 0 []) hn2).trans ?_
 have hsplit:v.2.1=v.2.1.getD 0 0::v.2.1.drop 1:=by
  have:=tR (0:Int) (l:=v.2.1) (i:=0) (by omega)
  rw [List.drop_zero] at this
  exact this
 simp only [au.l1,au.b1]
 rw [aO (by omega),ac,aH (by omega) (by omega),show List.getD v.2.1 (Int.toNat 0) (Ty.z (.int .i64))=v.2.1.getD 0 0 from rfl,bU hk,ab]
 simp only []
 rw [show (x.1,(x.2.1,(x.2.2.1,(x.2.2.2.1,()))))=x from rfl,gS hk (by omega) (by omega) (by omega),ab,aH (by omega) (by omega),iQ hk,ab]
 simp only []
 rw [gS hk (by omega) (by omega) (by omega),ab]
 simp only []
 rw [pE hk (by omega),ab,show ((0:Int)==0)=true from rfl]
 simp only [ac]
 rw [rA hk (v.2.1.getD 0 0) (by show (dq x (v.2.1.getD 0 0)).size≤_;omega),ab]
 simp only []
 rw [cD (by show ([]:aW).length+(vZ x (v.2.1.getD 0 0)).length≤_;rw [List.length_nil];omega) (by decide),aD (n:=(0:Int)+1) (by omega) (by omega),aH (by omega) (by omega)]
 rw [show List.getD v.2.1 0 (Ty.z (.int .i64))=v.2.1.getD 0 0 from rfl]
 rw [uo hk _ (by show (dq x (v.2.1.getD 0 0)).size≤_;omega),ab]
 simp only []
 have no:au.l1 k n (0+1) [] [] 0 0 0 0 [] 0 0 false [] [] 0 0 0 0 v.2.1 v.1 x.1 x.2.1 x.2.2.1 x.2.2.2.1 [] v.1 0 en 0 [] 0 0 ([]++b8 (v.2.1.getD 0 0) (az (aT x (a_ aF (v.2.1.getD 0 0))).1).1)=some (oS (tF v en x (eH ([],(0,(0,()))) (mE x v.2.1)) 0)):=by
  refine (step 0 [] 0 (vZ x (v.2.1.getD 0 0)) ⟨by omega,by omega⟩).trans ?_
  rw [show vZ x (v.2.1.getD 0 0)++mE x (v.2.1.drop (Int.toNat 1))=mE x (v.2.1.getD 0 0::v.2.1.drop 1) from rfl,← hsplit]
  exact EM hk hv en h 0 (by simp) 0 (by omega)
 unfold ji ol gp
 show (bif (aT x (a_ dC (v.2.1.getD 0 0))).2 then (bif (i_ (aT x (a_ dC (v.2.1.getD 0 0))).1).2 then (bif mY (v.2.1.getD 0 0) (dq x (v.2.1.getD 0 0)) (i_ (aT x (a_ dC (v.2.1.getD 0 0))).1).1 then _ else _) else _) else _)=_
 cases (aT x (a_ dC (v.2.1.getD 0 0))).2 with
 | false=>simp only [aK,Bool.false_and];rw [aH (by omega) (by omega)];exact no
 | true =>
  cases (i_ (aT x (a_ dC (v.2.1.getD 0 0))).1).2 with
  | false=>simp only [aK,ac,Bool.false_and,Bool.true_and];rw [aH (by omega) (by omega)];exact no
  | true =>
   cases mY (v.2.1.getD 0 0) (dq x (v.2.1.getD 0 0)) (i_ (aT x (a_ dC (v.2.1.getD 0 0))).1).1 with
   | false=>simp only [aK,ac,Bool.true_and];rw [aH (by omega) (by omega)];exact no
   | true =>
    simp only [ac,Bool.true_and]
    rw [aH (by omega) (by omega)]
    refine (step (v.2.1.getD 0 0) (i_ (aT x (a_ dC (v.2.1.getD 0 0))).1).1.2.2.1 (i_ (aT x (a_ dC (v.2.1.getD 0 0))).1).1.2.1 [] ⟨by omega,by simp⟩).trans ?_
    rw [List.nil_append,show (1:Int).toNat=1 from rfl]
    exact EM hk hv en h _ (by omega) _ (by omega)
theorem EA (k:Nat):∀ n,au.l2 k n=au.l1 k n
 | 0=>rfl
 | n+1=>by show au.b2 k (au.l2 k n)=au.b1 k (au.l1 k n);rw [EA k n];rfl
theorem KA {k:Nat} (hk:2 ^ 50≤k) {v:Ty.d cY} (hv:cS v=true) {d:Ty.d aA} (h:DR d) :
 au.l0 k k (aZ v.2.1) 0 d.1 d.2.1 d.2.2.1 d.2.2.2.1 [] [] 0 0 0 0 [] 0 0 false [] [] 0 0 0 0 v.2.1 v.1=some (oS (pR v d)):=by
 obtain ⟨_,_,hv1,hv2,_⟩:=bQ (nx:=v.1) (ids:=v.2.1) hv
 have hrise:=Fv hv
 have hl:=h.sz.l
 have hu:=h.sz.u
 have hn:=h.sz.n
 have hs:=oM h (aZ v.2.1)
 have hsc:=iw (dq d (aZ v.2.1))
 have hfin:∀ n:Nat,au.l0 k (n+1) (aZ v.2.1) (v.2.1.length:Int) d.1 d.2.1 d.2.2.1 d.2.2.2.1 [] [] 0 0 0 0 [] 0 0 false [] [] 0 0 0 0 v.2.1 v.1 =
  some (oS (bif (fN (aZ v.2.1) d).2 != 0 then (l_,((fN (aZ v.2.1) d).1,iH (fN (aZ v.2.1) d).2)) else tF v (az (dq d (aZ v.2.1))).2 (fN (aZ v.2.1) d).1 (ji (fN (aZ v.2.1) d).1 v.2.1) (bif ol (fN (aZ v.2.1) d).1 (v.2.1.getD 0 0) then v.2.1.getD 0 0 else 0))):=fun n=>by
  simp only [au.l0,au.b0]
  rw [aP (by omega),aK,bU hk,ab]
  simp only []
  rw [show (d.1,(d.2.1,(d.2.2.1,(d.2.2.2.1,()))))=d from rfl,gS hk (by omega) (by omega) (by omega),ab]
  simp only [show (aT d (a_ aF (aZ v.2.1))).1=dq d (aZ v.2.1) from rfl]
  rw [m4 hk (by omega),ab,jK k h.sz,ab,EA]
  simp only []
  show (bif decide ((az (dq d (aZ v.2.1))).2<((dq d (aZ v.2.1)).size:Int)) then _ else _)=_
  unfold fN
  cases decide ((az (dq d (aZ v.2.1))).2<((dq d (aZ v.2.1)).size:Int)) with
  | true =>
   simp only [ac]
   simp only [ab]
   rw [CN hk h.sz,ab]
   simp only [cw,ab]
   unfold gM
   simp only [bne]
   show (bif !((xF d (a_ aF (aZ v.2.1)) (az (dq d (aZ v.2.1))).2).2==0) then _ else _)=_
   have h1:=wM h (a_ aF (aZ v.2.1)) (az (dq d (aZ v.2.1))).2
   generalize xF d (a_ aF (aZ v.2.1)) (az (dq d (aZ v.2.1))).2=r at h1
   cases c:r.2==0 with
   | false=>simp only [uV,ac,aK,c];rfl
   | true =>
    simp only [fh,aK,ac]
    rw [lm hk h1.sz,ab]
    simp only []
    have h2:=lR h1 (a_ aF (aZ v.2.1))
    generalize fm r.1 (a_ aF (aZ v.2.1))=q at h2
    cases c2:q.2==0 with
    | false=>rfl
    | true =>
     simp only [fh,aK]
     exact w_ hk hv2 hv1 _ h2
  | false =>
   simp only [aK]
   simp only [ab]
   rw [lm hk h.sz,ab]
   simp only [cw,ab]
   unfold gM
   simp only [bne,show ((0:Int)==0)=true from rfl,ac]
   have h2:=lR h (a_ aF (aZ v.2.1))
   generalize fm d (a_ aF (aZ v.2.1))=q at h2
   cases c2:q.2==0 with
   | false=>rfl
   | true =>
    simp only [fh,aK]
    exact w_ hk hv2 hv1 _ h2
 unfold pR
 refine (eG (L:=fun n i (_:Unit)=>au.l0 k n (aZ v.2.1) i d.1 d.2.1 d.2.2.1 d.2.2.2.1 [] [] 0 0 0 0 [] 0 0 false [] [] 0 0 0 0 v.2.1 v.1) (R:=fun r _=>bif iW d r then some (oS (bif (fN (aZ v.2.1) d).2 != 0 then (l_,((fN (aZ v.2.1) d).1,iH (fN (aZ v.2.1) d).2)) else tF v (az (dq d (aZ v.2.1))).2 (fN (aZ v.2.1) d).1 (ji (fN (aZ v.2.1) d).1 v.2.1) (bif ol (fN (aZ v.2.1) d).1 (v.2.1.getD 0 0) then v.2.1.getD 0 0 else 0))) else some (oS (l_,(d,3)))) (Ty.z (.int .i64)) v.2.1 (fun _ _=>True) (fun n _ _=>hfin n) (fun n i _ y rest h0 h1 hy hr hp ih=>?_) (n:=k) (s:=()) (by omega) trivial).trans (by cases iW d v.2.1 <;> rfl)
 have ih:=ih () trivial
 have hsy:=oM h y
 have hlast:=Im hrise hr
 simp only [au.l0,au.b0]
 rw [aO h1,ac,aH h0 h1,hy,bU hk,ab]
 simp only []
 rw [show (d.1,(d.2.1,(d.2.2.1,(d.2.2.2.1,()))))=d from rfl,gS hk (by omega) (by omega) (by omega),ab]
 simp only []
 rw [m4 hk (by show (dq d y).size≤_;omega),ab,jK k h.sz,ab,aH h0 h1,aD (n:=i+1) (by omega) (by omega),ih]
 rw [show iW d (y::rest)=(rz d y rest.isEmpty&&iW d rest) from rfl]
 unfold rz bne
 rw [hlast]
 show (bif !(aT d (a_ aF y)).2 then _ else bif !rest.isEmpty then (bif decide ((az (dq d y)).2<((dq d y).size:Int)) then _ else _) else _)=_
 cases (aT d (a_ aF y)).2 with
 | false=>rfl
 | true =>
  cases rest.isEmpty with
  | true=>rfl
  | false=>cases decide ((az (dq d y)).2<((dq d y).size:Int)) <;> rfl
theorem C9 {k:Nat} (hk:2 ^ 50≤k) {d:Ty.d aA} (hd:zE d):au.f k d=some (oS (jZ d)):=by
 have hl:=hd.l
 have hu:=hd.u
 have hn:=hd.n
 unfold au.f au.t jZ
 rw [j_ hk (by omega) (by omega),ab,jK k hd]
 cases c:gd d with
 | false=>rfl
 | true =>
  have h:=jQ.1 c
  simp only [fh,aK,ab]
  cases cdn:d.2.2.2.1 with
  | true=>rfl
  | false =>
   simp only [aK]
   rw [show (⟨#[108,105,118,101]⟩:ByteArray)=dm from rfl,gS hk (by omega) (by omega) (by omega),ab]
   simp only []
   cases (aT d dm).2 with
   | false =>
    simp only [uV,ac]
    rw [AE hk h]
    rfl
   | true =>
    have hz:=fo d dm
    simp only [fh,aK]
    rw [ub hk (by omega),ab]
    simp only []
    rcases jD (fun v=>cS v=true) cE ((0,([],())):Ty.d cY) (aT d dm).1 with ⟨v,h1,_,e⟩ | e
    · rw [show fM (aT d dm).1=(v,true) from e]
      simp only [fh,aK]
      obtain ⟨_,_,hv1,hv2,_⟩:=bQ (nx:=v.1) (ids:=v.2.1) h1
      have w:aJ ((v.2.1.length:Int)-1)=((v.2.1.length-1:Nat):Int):=by rw [aD (by omega) (by omega)];omega
      rw [w,nt,aH (by omega) (by omega)]
      have:=KA hk h1 h
      rw [cdn] at this
      exact this
    · rw [show fM (aT d dm).1=((0,([],())),false) from e]
      rfl
theorem En (v:Ty.d cY) (en:Int) {x:Ty.d aA} (h:DR x) {g:Ty.d fj} (hg:g.1.length≤268435456) (hi:Int):DR (tF v en x g hi).2.1∧(tF v en x g hi).1.2.1.length≤268435456:=by
 have hs:=pN v.2.1 x h
 unfold tF
 cases g.2.2.1 != 0 with
 | true=>exact ⟨h,Nat.zero_le _⟩
 | false =>
  cases (gm v.2.1 x).2 != 0 with
  | true=>exact ⟨hs,Nat.zero_le _⟩
  | false=>exact ⟨hs,hg⟩
theorem Fg {x:Ty.d aA} (h:DR x) {ids:List Int} (hl:ids.length≤60):(ji x ids).1.length≤268435456:=by
 have hpa:=oN h (ids.drop 1)
 have hpb:=oN h ids
 rw [List.length_drop] at hpa
 have hh:=sC (s:=(aT x (a_ dC (ids.getD 0 0))).1)
 unfold ji
 cases ol x (ids.getD 0 0)
 · exact oT (by omega) (by simp)
 · exact oT (by omega) (by show (gp x (ids.getD 0 0)).2.2.1.length≤_;unfold gp;omega)
theorem Cl {d:Ty.d aA} (h:DR d):DR (jZ d).2.1∧(jZ d).1.2.1.length≤268435456:=by
 unfold jZ
 rw [jQ.2 h]
 simp only [fh,aK]
 cases d.2.2.2.1 with
 | true=>exact ⟨h,Nat.zero_le _⟩
 | false =>
  simp only [aK]
  cases (aT d dm).2 with
  | false =>
   simp only [uV,ac]
   have hf:DR (jW d).1:=im (im (pN [] d h) fun x hx=>za hx _) (jf uI)
   unfold oU
   cases (jW d).2==0 with
   | true=>exact ⟨hf,Nat.zero_le _⟩
   | false=>exact ⟨hf,Nat.zero_le _⟩
  | true =>
   simp only [fh,aK]
   rcases jD (fun v=>cS v=true) cE ((0,([],())):Ty.d cY) (aT d dm).1 with ⟨v,h1,_,e⟩ | e
   · rw [show fM (aT d dm).1=(v,true) from e]
     obtain ⟨_,_,hv1,hv2,_⟩:=bQ (nx:=v.1) (ids:=v.2.1) h1
     simp only [fh,aK]
     have fx:=Gy (aZ v.2.1) h
     unfold pR
     cases iW d v.2.1 with
     | false=>exact ⟨h,Nat.zero_le _⟩
     | true =>
      simp only [fh,aK]
      cases (fN (aZ v.2.1) d).2 != 0 with
      | true=>exact ⟨fx,Nat.zero_le _⟩
      | false=>exact En v _ fx (Fg fx hv2) _
   · rw [show fM (aT d dm).1=((0,([],())),false) from e]
     exact ⟨h,Nat.zero_le _⟩
theorem Gi {d:Ty.d aA} (h:gd d=false):jZ d=(l_,(d,4)):=by
 unfold jZ
 rw [h]
 rfl
noncomputable def EW (q:Ty.d aE × RD):Ty.d dc:=((q.2.2==0),(q.1,(q.2.1,(List.replicate 3 (Ty.z du),()))))
theorem qy {k:Nat} (hk:2 ^ 50≤k) {d:Ty.d aA} (hd:zE d):dt.f k d=some (EW (jZ d),((jZ d).2.2,())):=by
 unfold dt.f dt.t
 rw [C9 hk hd,ab,zf (by omega) (by omega) (by decide)]
 rfl
theorem C6 (k:Nat) {n:Int} (h0:0≤n) (h1:n≤100000):iZ.f k n=some (([],(n,(-1,(false,())))),()):=by
 unfold iZ.f iZ.t
 rw [fE,ab,aO ⟨h0,h1⟩]
 rfl
def Iw (n:Int):Ty.d aA:=([],(n,(-1,(false,()))))
theorem Ik {n:Int} (h0:0≤n) (h1:n≤100000):DR (Iw n) :=
 ⟨Nat.zero_le _,h0,h1,show LE.le (α:=Int) (-1) (-1) from Int.le_refl _,show LE.le (α:=Int) (-1) 100000 by decide,h0,fun f hf=>(by cases hf),List.Pairwise.nil⟩
theorem CU {st:Ty.d aE} {d:Ty.d aA} {l:lD} (h:SR st (d,0) 100000) (hp:jz l=true) (hd:st.2.1.length≤20) :
 DR (gD st d l).2.1∧(gD st d l).1.1.2.1.length≤60∧(gD st d l).1.2.1.length≤268435456:=by
 have h8:=n8 hp
 obtain ⟨g1,g2,g3⟩:=oX (iT l st.2.2.1) (pG st) d [] 100000 ⟨h.live,h.disk,h.lo,h.hi⟩ (by decide)
 unfold gD
 generalize eW (iT l st.2.2.1) (pG st) d []=q at g1 g2 g3 ⊢
 have e2:q.1.1.2.1=st.2.1:=g2
 obtain ⟨_,_,_,hi,_⟩:=bQ (nx:=q.1.1.1.1) (ids:=q.1.1.1.2.1) g1.live
 have hs:=lR g1.disk (cj q.1.1)
 unfold sG
 cases q.1.2.2 != 0 with
 | true=>exact ⟨g1.disk,hi,by show q.1.1.2.1.length≤_;rw [e2];omega⟩
 | false =>
  simp only [aK]
  generalize fm q.1.2.1 (cj q.1.1)=y at hs ⊢
  cases y.2 != 0 with
  | true=>exact ⟨hs,hi,by show q.1.1.2.1.length≤_;rw [e2];omega⟩
  | false =>
   refine ⟨hs,hi,?_⟩
   show (bN q.1.1.2.1 (q.2.take l.length)).length≤_
   have:=ob (q.2.take l.length) q.1.1.2.1
   rw [e2] at this ⊢
   rw [List.length_take] at this
   omega
theorem Bc {st:Ty.d aE} {d:Ty.d aA} (l:lD) (hd:DR d) (h1:st.1.2.1.length≤60) (h2:st.2.1.length≤268435456) :
 DR (fp st d l).2.1∧(fp st d l).1.1.2.1.length≤60∧(fp st d l).1.2.1.length≤268435456:=by
 unfold fp
 cases c1:d9 st d with
 | false=>exact ⟨hd,h1,h2⟩
 | true =>
  simp only [fh,aK]
  cases c2:jz l with
  | false=>exact ⟨hd,h1,h2⟩
  | true =>
   simp only [fh,aK]
   cases (l.length:Int)==0 with
   | true=>exact ⟨hd,h1,h2⟩
   | false =>
    cases decide (lh st.2.1 l > 20) with
    | true=>exact ⟨hd,h1,h2⟩
    | false =>
     cases decide (st.2.2.1 > (1000000:Int)) with
     | true=>exact ⟨hd,h1,h2⟩
     | false=>exact CU (eS c1).1 c2 (eS c1).2.1
def Kb (l:aR):Prop:=∀ e ∈ l,LE.le (α:=Int) 0 e.2.2.2.1
theorem EU {l:aR} {e x:Ty.d aB} (h:x ∈ qB l e):x=e∨x ∈ l:=by
 unfold qB at h
 rcases List.mem_append.1 h with w | w
 · exact .inr (List.takeWhile_subset _ w)
 · rcases List.mem_cons.1 w with w | w
   · exact .inl w
   · exact .inr (List.dropWhile_subset _ w)
structure IV (q:Ty.d aE × RD):Prop where
 disk:DR q.2.1
 ids:q.1.1.2.1.length≤60
 dir:q.1.2.1.length≤268435456
 non:Kb q.1.2.1
 sum:rB q.1.2.1≤(rQ q.2.1 q.1.1.2.1:Int)
def AA (l:iA) (mark:Int):Int:=((aX (jX l mark)).size:Int)
theorem u7 (r:Ty.d b7) (l:j2):(aX (r::l)).size=(aQ (aG r)).size+(aX l).size:=by rw [aX,ByteArray.size_append]
theorem oo {st:Ty.d aE} {d:Ty.d aA} (c:d9 st d=true):st.2.1.length≤20:=by
 unfold d9 oJ at c
 simp only [gN,decide_eq_true_eq] at c
 omega
def w5 (nm:ByteArray):j2→RD→RD
 | [],r=>r
 | x::l,r=>w5 nm l (gM r fun y=>iD y nm (aQ (aG x)))
def fQ (m:Int) (l:iA) (mark:Int) (d:Ty.d aA):RD:=gM (w5 (a_ aF m) (jX l mark) (bO (a_ aF m) d)) fun y=>fm y (a_ aF m)
def lF (m:Int):iA→Int→aR
 | [],_=>[]
 | p::l,at_=>(p.1,(m,(at_,(aw (bD p),(p.2.2.1,())))))::lF m l (at_+aw (bD p))
def kY (ns:List ByteArray) (r:RD):RD:=bif r.2==2 then ((eX ns r.1).1,bif (eX ns r.1).2==0 then 2 else iH (eX ns r.1).2) else r
def jG (m:Int):List ByteArray:=[iL,a_ aF m,a_ aF (m+1),a_ dC m]
def ry:List Int→Ty.d aA→RD
 | [],d=>(d,0)
 | x::l,d=>gM (eX [a_ aF x,a_ dC x] d) (ry l)
def s5 (st:Ty.d aE):Ty.d aE:=((st.1.1+2,st.1.2),st.2)
def iM (m:Int):Ty.d cY:=(m+2,([m,m+1],()))
def kn (hb:ByteArray→ByteArray) (m:Int) (d:Ty.d aA):RD :=
 bif (lB (a_ dC m) (hb (aT d (a_ aF m)).1) d).2==2 then eX [a_ dC m] (lB (a_ dC m) (hb (aT d (a_ aF m)).1) d).1 else lB (a_ dC m) (hb (aT d (a_ aF m)).1) d
def dQ (hb:ByteArray→ByteArray) (st:Ty.d aE) (d:Ty.d aA) (l:iA):Ty.d aE × RD :=
 bif (fQ st.1.1 l (st.2.2.1-1) d).2 != 0 then (s5 st,kY (jG st.1.1) (tl (fQ st.1.1 l (st.2.2.1-1) d))) else
 bif (bO (a_ aF (st.1.1+1)) (fQ st.1.1 l (st.2.2.1-1) d).1).2 != 0 then (s5 st,kY (jG st.1.1) (tl (bO (a_ aF (st.1.1+1)) (fQ st.1.1 l (st.2.2.1-1) d).1))) else
 bif (kn hb st.1.1 (bO (a_ aF (st.1.1+1)) (fQ st.1.1 l (st.2.2.1-1) d).1).1).2 != 0 then (s5 st,tl (kn hb st.1.1 (bO (a_ aF (st.1.1+1)) (fQ st.1.1 l (st.2.2.1-1) d).1).1)) else
 bif (bf (iM st.1.1) (kn hb st.1.1 (bO (a_ aF (st.1.1+1)) (fQ st.1.1 l (st.2.2.1-1) d).1).1).1).2 != 0 then
  (s5 st,kY (jG st.1.1) (tl (bf (iM st.1.1) (kn hb st.1.1 (bO (a_ aF (st.1.1+1)) (fQ st.1.1 l (st.2.2.1-1) d).1).1).1))) else
 ((iM st.1.1,(lF st.1.1 l 0,(st.2.2.1,(0,(0,()))))),tl (ry st.1.2.1 (bf (iM st.1.1) (kn hb st.1.1 (bO (a_ aF (st.1.1+1)) (fQ st.1.1 l (st.2.2.1-1) d).1).1).1).1))
theorem lP {s:ByteArray} {d:Ty.d aA} (h:(bO s d).2=0):fT (bO s d).1 s=some ByteArray.empty:=by
 unfold bO at h ⊢
 unfold gM at h ⊢
 cases c:(mD s d).2==0 with
 | false =>
  rw [c,aK] at h
  rw [h] at c
  cases c
 | true =>
  rw [c,ac] at h
  rw [ac]
  obtain ⟨c1,c2⟩:=oH (d:=(mD s d).1) (g:=th s) h
  unfold fT
  show (bh (ik (mD s d).1 (th s)).1.1 s).map _=_
  rw [c2]
  unfold th at c1 ⊢
  cases c3:jr s with
  | false=>rw [c3] at c1;cases c1
  | true =>
   rw [c3] at c1
   simp only [fh,aK] at c1 ⊢
   cases c4:(bh (mD s d).1.1 s) with
   | some f=>rw [c4] at c1;cases c1
   | none =>
    rw [c4] at c1
    simp only [Option.isSome_none,aK] at c1 ⊢
    cases c5:decide (((mD s d).1.1.length:Int)≥130) with
    | true=>rw [c5] at c1;cases c1
    | false =>
     simp only [aK]
     rw [vA (f:=(s,(ByteArray.empty,(0,())))) c4,bV]
     rfl
theorem pf (nm:ByteArray):∀ (l:j2) (r:RD),r.2≠0→w5 nm l r=r
 | [],_,_=>rfl
 | x::l,r,h=>by
  unfold w5
  have e:gM r (fun y=>iD y nm (aQ (aG x)))=r:=by
   unfold gM
   rw [mC h]
   rfl
  rw [e]
  exact pf nm l r h
theorem DZ (nm:ByteArray):∀ (l:j2) (r:RD) (x:ByteArray),fT r.1 nm=some x→(w5 nm l r).2=0→fT (w5 nm l r).1 nm=some (x++aX l)
 | [],r,x,h,_=>by
  show fT r.1 nm=some (x++⟨#[]⟩)
  rw [h,show x++(⟨#[]⟩:ByteArray)=x from Cx x]
 | a::l,r,x,h,z=>by
  unfold w5 at z ⊢
  by_cases c:(gM r (fun y=>iD y nm (aQ (aG a)))).2=0
  · obtain ⟨c1,c2,c3⟩:=iv c
    have c3:(iD r.1 nm (aQ (aG a))).2=0:=c3
    have e:fT (gM r (fun y=>iD y nm (aQ (aG a)))).1 nm=some (x++aQ (aG a)):=by
     rw [c2]
     have:=sF (d:=r.1) (s:=nm) (x:=aQ (aG a))
     rw [c3,h] at this
     exact this
    rw [DZ nm l _ _ e z]
    show some (x++aQ (aG a)++aX l)=some (x++(aQ (aG a)++aX l))
    rw [oG]
  · rw [pf nm l _ c] at z
    exact absurd z c
theorem J4 {nm t:ByteArray} (h:nm≠t):∀ (l:j2) (r:RD),fT (w5 nm l r).1 t=fT r.1 t
 | [],_=>rfl
 | a::l,r=>by
  show fT (w5 nm l (gM r fun y=>iD y nm (aQ (aG a)))).1 t=_
  rw [J4 h l]
  exact nT rfl fun y=>wP h
theorem Ac {m:Int} {l:iA} {mark:Int} {d:Ty.d aA} {t:ByteArray} (h:a_ aF m≠t):fT (fQ m l mark d).1 t=fT d t :=
 nT ((J4 h _ _).trans (l9 h)) fun y=>kw
theorem qb {hb:ByteArray→ByteArray} {m:Int} {d:Ty.d aA} {t:ByteArray} (h:a_ dC m≠t):fT (kn hb m d).1 t=fT d t:=by
 unfold kn
 cases (lB (a_ dC m) (hb (aT d (a_ aF m)).1) d).2==2 with
 | false=>exact zP h
 | true =>
  refine (mH _ _ fun s hs=>?_).trans (zP h)
  rw [List.mem_singleton.1 hs]
  exact h
theorem tk {t:ByteArray}:∀ (l:List Int) (d:Ty.d aA),(∀ x ∈ l,a_ aF x≠t∧a_ dC x≠t)→fT (ry l d).1 t=fT d t
 | [],_,_=>rfl
 | x::l,d,h=>by
  show fT (gM (eX [a_ aF x,a_ dC x] d) (ry l)).1 t=_
  refine nT (mH _ _ fun s hs=>?_) fun y=>tk l y fun z hz=>h z (lL _ hz)
  have:=h x jd
  rcases List.mem_cons.1 hs with e | e
  · rw [e];exact this.1
  · rw [List.mem_singleton.1 e];exact this.2
theorem yC (m:Int):∀ (l:iA) (a:Int),rB (lF m l a)=((aX (l.map bD)).size:Int)∧Kb (lF m l a)
 | [],_=>⟨rfl,fun x hx=>by cases hx⟩
 | p::l,a=>by
  obtain ⟨i1,i2⟩:=yC m l (a+aw (bD p))
  have hr:=mW (bD p)
  refine ⟨?_,fun x hx=>?_⟩
  · show aw (bD p)+rB (lF m l (a+aw (bD p)))=_
    rw [i1,List.map_cons,u7]
    unfold aw
    omega
  · rcases List.mem_cons.1 hx with e | e
    · rw [e];exact hr.1
    · exact i2 x e
theorem kM {x y:Int} (hx:1≤x∧x≤100000) (hy:1≤y∧y≤100000):a_ dC x≠a_ aF y:=fun q=>by
 have e:a_ dC x=dC++gX x:=by unfold a_;rw [aO hx];rfl
 rw [xN hy,e] at q
 have:=congrArg nb q
 rw [gQ,gQ] at this
 cases this
theorem FQ {x:Int} (hx:1≤x∧x≤100000):a_ dC x≠dm:=fun q=>by
 have e:a_ dC x=dC++gX x:=by unfold a_;rw [aO hx];rfl
 rw [e] at q
 have:=congrArg nb q
 rw [gQ] at this
 cases this
theorem Gu {s t:ByteArray} {d:Ty.d aA} (z:(lB s t d).2=0):fT (lB s t d).1 s=some t:=by
 unfold lB at z ⊢
 obtain ⟨z1,e1,z2⟩:=iv z
 obtain ⟨z3,e2,z4⟩:=iv z1
 rw [e1,kw,e2]
 have:=sF (d:=(bO s d).1) (s:=s) (x:=t)
 rw [z4,lP z3] at this
 have this:fT (iD (bO s d).1 s t).1 s=some (ByteArray.empty++t):=this
 rw [this,show (ByteArray.empty:ByteArray)=dB [] from rfl,rG]
theorem IL {d:Ty.d aA} {a b:ByteArray} (hd:DR d) (hab:a≠b) (z:(Ae d a b).2=0):fT (Ae d a b).1 b=fT d a:=by
 obtain ⟨c1,c2⟩:=oH z
 unfold fT
 show (bh (ik d (BZ a b)).1.1 b).map _=_
 rw [c2]
 unfold BZ at c1 ⊢
 cases c3:jr b with
 | false=>rw [c3] at c1;exact absurd c1 (by show (5:Int)≠0;decide)
 | true =>
  rw [c3] at c1
  simp only [fh,aK] at c1 ⊢
  cases c4:bh d.1 a with
  | none=>rw [c4] at c1;exact absurd c1 (by show (3:Int)≠0;decide)
  | some f =>
   simp only []
   rw [kP hab,aK]
   have hk:cW (lJ (kG d.1 a)):=sE (oi _ _) hd.keys
   show (bh (lY (kG (kG d.1 a) b) (b,f.2)) b).map _=_
   rw [vA (f:=(b,f.2)) (Ap hk b),bV]
   rfl
theorem zW {v:Ty.d cY} {d:Ty.d aA} (hd:DR d) (z:(bf v d).2=0):fT (bf v d).1 dm=some (cE v):=by
 unfold bf at z ⊢
 obtain ⟨z1,e1,z2⟩:=iv z
 rw [e1,IL (nN _ _ _ hd) (by decide) z2,Gu z1]
theorem vP {n:Int} (h0:0≤n) (h1:n≤127):(gh n).size=1:=by
 unfold gh
 rw [if_pos ⟨h0,by omega⟩,← qG (by omega)]
 unfold vl
 rw [if_neg (by omega)]
 rfl
theorem CV {n:Int} (h0:0≤n) (h1:n≤2097151):(gh n).size≤3:=by
 unfold gh
 rw [if_pos ⟨h0,by omega⟩,← qG (by omega)]
 unfold vl
 split
 · rw [kJ]
   unfold vl
   split
   · rw [kJ]
     unfold vl
     rw [if_neg (by omega)]
     exact Nat.le_refl _
   · show 1+1≤3
     decide
 · show 1≤3
   decide
theorem Hd (mark:Int) (l:j2):aw (fI 5 mark l)≤20:=by
 have key:(aG (fI 5 mark l)).size≤9:=by
  unfold aG
  by_cases c:bm (fI 5 mark l)=true
  · rw [if_pos c]
    rcases m8 c with ⟨q,_⟩ | ⟨q,_⟩ | ⟨_,_,_,h1,h2,_,_,h3,h4⟩
    · exact absurd q (by show ¬ ((5:Int)=1∨(5:Int)=4);decide)
    · exact absurd q (by show ¬ ((5:Int)=2);decide)
    · rw [if_neg (by show ¬ ((5:Int)=1∨(5:Int)=4);decide),if_neg (by show ¬ ((5:Int)=2);decide),ByteArray.size_append,ByteArray.size_append,ByteArray.size_append,ix]
      have e1:(gh (fI 5 mark l).1).size=1:=vP (n:=5) (by decide) (by decide)
      have e2:=CV (n:=(fI 5 mark l).2.1) h3 (Int.le_trans h4 (by decide))
      have e3:=vP (n:=(fI 5 mark l).2.2.2.2.1) h1 (Int.le_trans h2 (by decide))
      omega
  · rw [if_neg c]
    exact Nat.zero_le _
 unfold aw aQ
 rw [if_neg (by omega),ByteArray.size_append,ix]
 unfold iu
 rw [ByteArray.size_append,vP (by omega) (by omega)]
 omega
theorem sQ (m:Int):∀ (l:iA) (a:Int),(lF m l a).length=l.length
 | [],_=>rfl
 | p::l,a=>by
  show (lF m l (a+aw (bD p))).length+1=_
  rw [sQ m l]
  rfl
theorem Ek {hb:ByteArray→ByteArray} {st:Ty.d aE} {d:Ty.d aA} {c:Int} {l:iA} (h:IV (st,(d,c))) (hl:cS st.1=true) (hn:LE.le (α:=Int) (st.1.1+2) 100000) (hlen:l.length≤268435456) :
 IV (dQ hb st d l)∧((dQ hb st d l).2.2=0→(rQ (dQ hb st d l).2.1 (dQ hb st d l).1.1.2.1:Int)=AA l (st.2.2.1-1)∧(rQ (dQ hb st d l).2.1 (dQ hb st d l).1.1.2.1:Int)-rB (dQ hb st d l).1.2.1≤20 ∧
  fT (dQ hb st d l).2.1 (a_ aF st.1.1)=some (aX (jX l (st.2.2.1-1)))∧fT (dQ hb st d l).2.1 (a_ aF (st.1.1+1))=some ByteArray.empty∧(dQ hb st d l).1=(iM st.1.1,(lF st.1.1 l 0,(st.2.2.1,(0,(0,()))))) ∧
  fT (dQ hb st d l).2.1 dm=some (cE (iM st.1.1))):=by
 obtain ⟨n1,n2,n3,_⟩:=iE (n:=st.1.1) (ids:=st.1.2.1) hl
 have hd:DR d:=h.disk
 have hsum:rB st.2.1≤(rQ d st.1.2.1:Int):=h.sum
 have hm:(1:Int)≤st.1.1∧st.1.1≤(100000:Int):=⟨n1,n2⟩
 have hm1:LE.le (α:=Int) 1 (st.1.1+1)∧LE.le (α:=Int) (st.1.1+1) 100000:=⟨by omega,by omega⟩
 have hseg:∀ x:Int,x ∈ st.1.2.1→1≤x∧x≤100000:=fun x hx=>⟨(n3 x hx).1,by have:=(n3 x hx).2;omega⟩
 have no1:∀ x ∈ st.1.2.1,a_ aF st.1.1≠a_ aF x:=fun x hx=>mn hm (hseg x hx) (by have:=(n3 x hx).2;omega)
 have no2:∀ x ∈ st.1.2.1,a_ aF (st.1.1+1)≠a_ aF x:=fun x hx=>mn hm1 (hseg x hx) (by have:=(n3 x hx).2;omega)
 have no3:∀ x ∈ st.1.2.1,a_ dC st.1.1≠a_ aF x:=fun x hx=>kM hm (hseg x hx)
 have no4:a_ aF (st.1.1+1)≠a_ aF st.1.1:=mn hm1 hm (by omega)
 have jump:∀ r:RD,DR r.1→(∀ x ∈ st.1.2.1,fT r.1 (a_ aF x)=fT d (a_ aF x))→IV (s5 st,r):=fun r hr k=>⟨hr,h.ids,h.dir,h.non,by
  show rB st.2.1≤(rQ r.1 st.1.2.1:Int)
  rw [yw k]
  exact hsum⟩
 have dropK:∀ (r:RD),DR r.1→(∀ x ∈ st.1.2.1,fT r.1 (a_ aF x)=fT d (a_ aF x))→r.2≠0→IV (s5 st,kY (jG st.1.1) r)∧(kY (jG st.1.1) r).2≠0:=fun r hr k hz=>by
  unfold kY
  cases r.2==2 with
  | false=>exact ⟨jump r hr k,hz⟩
  | true =>
   refine ⟨jump _ (ju _ _ hr) fun x hx=>(mH _ _ fun s hs=>?_).trans (k x hx),?_⟩
   · unfold jG at hs
     rcases List.mem_cons.1 hs with e | e
     · rw [e];exact gT (hseg x hx)
     rcases List.mem_cons.1 e with e | e
     · rw [e];exact no1 x hx
     rcases List.mem_cons.1 e with e | e
     · rw [e];exact no2 x hx
     · rw [List.mem_singleton.1 e];exact no3 x hx
   · show (bif (eX (jG st.1.1) r.1).2==0 then (2:Int) else iH (eX (jG st.1.1) r.1).2)≠0
     cases q:(eX (jG st.1.1) r.1).2==0 with
     | true =>
      show (2:Int)≠0
      decide
     | false =>
      intro e
      have:=iF (eX (jG st.1.1) r.1).2
      rw [q] at this
      simp only [aK] at e
      rw [e] at this
      cases this
 have tlnz:∀ r:RD,(r.2 != 0)=true→(tl r).2≠0:=fun r q e=>by
  have:=wI r
  rw [e,q] at this
  cases this
 have a0:DR (fQ st.1.1 l (st.2.2.1-1) d).1:=by
  refine im ?_ fun x hx=>lR hx _
  have:∀ (rs:j2) (r:RD),DR r.1→DR (w5 (a_ aF st.1.1) rs r).1:=by
   intro rs
   induction rs with
   | nil=>exact fun r hr=>hr
   | cons x rs ih=>exact fun r hr=>ih _ (im hr fun y hy=>oc hy _ _)
  exact this _ _ (jx _ _ hd)
 have a1:∀ x ∈ st.1.2.1,fT (fQ st.1.1 l (st.2.2.1-1) d).1 (a_ aF x)=fT d (a_ aF x):=fun x hx=>Ac (no1 x hx)
 have a2:(fQ st.1.1 l (st.2.2.1-1) d).2=0→fT (fQ st.1.1 l (st.2.2.1-1) d).1 (a_ aF st.1.1)=some (aX (jX l (st.2.2.1-1))):=fun z=>by
  unfold fQ at z ⊢
  obtain ⟨z1,z2,_⟩:=iv z
  rw [z2]
  rw [kw]
  have z0:(bO (a_ aF st.1.1) d).2=0:=by
   by_cases w:(bO (a_ aF st.1.1) d).2=0
   · exact w
   · rw [pf _ _ _ w] at z1
     exact absurd z1 w
  have:=DZ (a_ aF st.1.1) (jX l (st.2.2.1-1)) (bO (a_ aF st.1.1) d) ByteArray.empty (lP z0) z1
  rw [this,show (ByteArray.empty:ByteArray)=dB [] from rfl,rG]
 unfold dQ
 generalize fQ st.1.1 l (st.2.2.1-1) d=a at a0 a1 a2 ⊢
 cases ca:a.2 != 0 with
 | true =>
  obtain ⟨g1,g2⟩:=dropK (tl a) a0 a1 (tlnz a ca)
  exact ⟨g1,fun e=>absurd e g2⟩
 | false =>
  have b0:=jx (a_ aF (st.1.1+1)) a.1 a0
  have b1:∀ x ∈ st.1.2.1,fT (bO (a_ aF (st.1.1+1)) a.1).1 (a_ aF x)=fT d (a_ aF x):=fun x hx=>(l9 (no2 x hx)).trans (a1 x hx)
  have b2:=(l9 (d:=a.1) no4).trans (a2 (gu ca))
  have b3:=lP (s:=a_ aF (st.1.1+1)) (d:=a.1)
  simp only [aK]
  generalize bO (a_ aF (st.1.1+1)) a.1=b at b0 b1 b2 b3 ⊢
  cases cb:b.2 != 0 with
  | true =>
   obtain ⟨g1,g2⟩:=dropK (tl b) b0 b1 (tlnz b cb)
   exact ⟨g1,fun e=>absurd e g2⟩
  | false =>
   have b3:=b3 (gu cb)
   have c0:DR (kn hb st.1.1 b.1).1:=by
    unfold kn
    cases (lB (a_ dC st.1.1) (hb (aT b.1 (a_ aF st.1.1)).1) b.1).2==2 with
    | true=>exact ju _ _ (nN _ _ _ b0)
    | false=>exact nN _ _ _ b0
   have c1:∀ x ∈ st.1.2.1,fT (kn hb st.1.1 b.1).1 (a_ aF x)=fT d (a_ aF x):=fun x hx=>(qb (no3 x hx)).trans (b1 x hx)
   have c2:=(qb (hb:=hb) (d:=b.1) (kM hm hm)).trans b2
   have c3:=(qb (hb:=hb) (d:=b.1) (kM hm hm1)).trans b3
   simp only [aK]
   generalize kn hb st.1.1 b.1=e at c0 c1 c2 c3 ⊢
   cases ce:e.2 != 0 with
   | true=>exact ⟨jump (tl e) c0 c1,fun z=>absurd z (tlnz e ce)⟩
   | false =>
    have d0:=jf (iM st.1.1) _ c0
    have d1:∀ x ∈ st.1.2.1,fT (bf (iM st.1.1) e.1).1 (a_ aF x)=fT d (a_ aF x):=fun x hx=>(gg (gT (hseg x hx)) (iS (hseg x hx))).trans (c1 x hx)
    have d2:=(gg (d:=e.1) (v:=iM st.1.1) (gT hm) (iS hm)).trans c2
    have d3:=(gg (d:=e.1) (v:=iM st.1.1) (gT hm1) (iS hm1)).trans c3
    have d4:=zW (v:=iM st.1.1) c0
    simp only [aK]
    generalize bf (iM st.1.1) e.1=f at d0 d1 d2 d3 d4 ⊢
    cases cf:f.2 != 0 with
    | true =>
     obtain ⟨g1,g2⟩:=dropK (tl f) d0 d1 (tlnz f cf)
     exact ⟨g1,fun z=>absurd z g2⟩
    | false =>
     simp only [aK]
     have o0:∀ (ids:List Int) (x:Ty.d aA),DR x→DR (ry ids x).1:=by
      intro ids
      induction ids with
      | nil=>exact fun x hx=>hx
      | cons y ids ih=>exact fun x hx=>im (ju _ _ hx) fun z hz=>ih z hz
     have o2:=(tk st.1.2.1 f.1 fun x hx=>⟨fun q=>no1 x hx q.symm,kM (hseg x hx) hm⟩).trans d2
     have o3:=(tk st.1.2.1 f.1 fun x hx=>⟨fun q=>no2 x hx q.symm,kM (hseg x hx) hm1⟩).trans d3
     have o4:=(tk st.1.2.1 f.1 fun x hx=>⟨fun q=>iS (hseg x hx) q.symm,FQ (hseg x hx)⟩).trans (d4 (gu cf))
     have o1:=o0 st.1.2.1 f.1 d0
     generalize ry st.1.2.1 f.1=o at o1 o2 o3 o4 ⊢
     obtain ⟨l1,l2⟩:=yC st.1.1 l 0
     have hk:=Hd (st.2.2.1-1) (l.map bD)
     have hk0:=(mW (fI 5 (st.2.2.1-1) (l.map bD))).1
     have tot:(rQ o.1 [st.1.1,st.1.1+1]:Int)=rB (lF st.1.1 l 0)+aw (fI 5 (st.2.2.1-1) (l.map bD)):=by
      unfold rQ KN
      rw [List.map_cons,List.map_singleton,List.sum_cons,List.sum_singleton,o2,o3,l1]
      simp only [Option.getD_some]
      unfold jX
      rw [nP,ByteArray.size_append]
      have e1:(aX [fI 5 (st.2.2.1-1) (l.map bD)]).size=(aQ (aG (fI 5 (st.2.2.1-1) (l.map bD)))).size:=by rw [u7];rfl
      have e2:(ByteArray.empty:ByteArray).size=0:=rfl
      rw [e1,e2]
      unfold aw
      omega
     have tot0:(rQ o.1 [st.1.1,st.1.1+1]:Int)=AA l (st.2.2.1-1):=by
      unfold rQ KN AA
      rw [List.map_cons,List.map_singleton,List.sum_cons,List.sum_singleton,o2,o3]
      rfl
     refine ⟨⟨o1,(show 2≤60 by decide),?_,l2,?_⟩,fun _=>⟨tot0,?_,o2,o3,by trivial,o4⟩⟩
     · show (lF st.1.1 l 0).length≤_
       rw [sQ]
       exact hlen
     · show rB (lF st.1.1 l 0)≤(rQ o.1 [st.1.1,st.1.1+1]:Int)
       omega
     · show (rQ o.1 [st.1.1,st.1.1+1]:Int)-rB (lF st.1.1 l 0)≤20
       omega
theorem pb {k:Nat} (hk:2 ^ 50≤k) (st:Ty.d aE) {r:RD} (hd:DR r.1) {m:Int} (h0:1≤m) (h1:m≤100000):dR.f k st r.1 m r.2=some (st,((kY (jG m) r).1,((kY (jG m) r).2,()))):=by
 unfold dR.f dR.t kY
 cases c:r.2==2 with
 | false =>
  have:(r.2 != 2)=true:=by unfold bne;rw [c];rfl
  rw [this]
  rfl
 | true =>
  have:(r.2 != 2)=false:=by unfold bne;rw [c];rfl
  rw [this]
  simp only [aK,ac]
  rw [aD (n:=m+1) (by omega) (by omega),bU hk,ab,bU hk,ab,iQ hk,ab]
  simp only []
  rw [show ([(⟨#[116,101,109,112]⟩:ByteArray),a_ aF m,a_ aF (m+1),a_ dC m]:List ByteArray)=jG m from rfl,mU hk hd (by unfold jG;simp),ab]
  simp only [bne]
  cases q:(eX (jG m) r.1).2==0 with
  | true=>rw [Hi c];rfl
  | false=>simp only [uV,ac,aK,cw,ab]
theorem A_ (k:Nat) (p:Ty.d aL):k9.f k p=some (bD p,()):=rfl
theorem D4 {k:Nat} (hk:2 ^ 50≤k) (ids old:List Int) (dir:aR) (nx b s h:Int) (ho:old.length≤1073741824) {d:Ty.d aA} (hd:DR d) :
 bj.l0 k k 0 ids dir nx b s h [] [] 0 0 0 0 [] 0 0 false d.1 d.2.1 d.2.2.1 d.2.2.2.1 old=some (((nx,(ids,())),(dir,(b,(s,(h,()))))),((tl (ry old d)).1,((tl (ry old d)).2,()))):=by
 refine eG (L:=fun n i (x:Ty.d aA)=>bj.l0 k n i ids dir nx b s h [] [] 0 0 0 0 [] 0 0 false x.1 x.2.1 x.2.2.1 x.2.2.2.1 old) (R:=fun r x=>(some (((nx,(ids,())),(dir,(b,(s,(h,()))))),((tl (ry r x)).1,((tl (ry r x)).2,()))):bj.Rs))
  (Ty.z (.int .i64)) old (fun _ x=>DR x) (fun n x hx=>?_) (fun n i x y rest h0 h1 hy hr hx ih=>?_) (n:=k) (s:=d) (by omega) hd
 · simp only [bj.l0,bj.b0]
   rw [aP (by omega),aK]
   rfl
 · simp only [bj.l0,bj.b0]
   rw [aO h1,ac,aH h0 h1,hy,bU hk,ab,aH h0 h1,iQ hk,ab]
   simp only []
   rw [show (x.1,(x.2.1,(x.2.2.1,(x.2.2.2.1,()))))=x from rfl,mU hk hx (by simp),ab,aD (n:=i+1) (by omega) (by omega)]
   have hz:=ju [a_ aF y,a_ dC y] x hx
   simp only [ry]
   generalize eX [a_ aF y,a_ dC y] x=q at hz ⊢
   unfold gM
   simp only [bne]
   cases c:q.2==0 with
   | false=>simp only [uV,ac,aK,cw,ab];rfl
   | true =>
    simp only [fh,ac,aK]
    exact ih q.1 hz
def zp (m:Int):iA→RD→aR→Int→aR
 | [],_,dir,_=>dir
 | p::l,r,dir,a=>bif r.2==0 then zp m l (iD r.1 (a_ aF m) (aQ (aG (bD p)))) (dir++[(p.1,(m,(a,(aw (bD p),(p.2.2.1,())))))]) (a+aw (bD p)) else dir
theorem Eb (m:Int):∀ (l:iA) (r:RD) (dir:aR) (a:Int),r.2=0→(w5 (a_ aF m) (l.map bD) r).2=0→zp m l r dir a=dir++lF m l a
 | [],_,dir,_,_,_=>(List.append_nil dir).symm
 | p::l,r,dir,a,h,z=>by
  have e:gM r (fun y=>iD y (a_ aF m) (aQ (aG (bD p))))=iD r.1 (a_ aF m) (aQ (aG (bD p))):=by
   unfold gM
   rw [h]
   rfl
  have z:(w5 (a_ aF m) (l.map bD) (gM r fun y=>iD y (a_ aF m) (aQ (aG (bD p))))).2=0:=z
  rw [e] at z
  have z2:(iD r.1 (a_ aF m) (aQ (aG (bD p)))).2=0:=by
   by_cases w:(iD r.1 (a_ aF m) (aQ (aG (bD p)))).2=0
   · exact w
   · rw [pf _ _ _ w] at z
     exact absurd z w
  unfold zp
  rw [show (r.2==0)=true by rw [h];rfl,ac,Eb m l _ _ _ z2 z,nn]
  rfl
theorem xr {k:Nat} (hk:2 ^ 50≤k) {d:Ty.d aA} (hd:DR d) (m:Int) {l:iA} (hl:l.length≤1000000) (mark:Int) :
 dT.f k d m l mark=some ((fQ m l mark d).1,(zp m l (bO (a_ aF m) d) [] 0,(iH (fQ m l mark d).2,()))):=by
 have hsz:=AQ m
 unfold dT.f dT.t
 rw [bU hk,ab]
 simp only []
 rw [mR hk hd (by omega),ab]
 simp only []
 have hf:=jx (a_ aF m) d hd
 unfold fQ jX
 generalize bO (a_ aF m) d=r0 at hf ⊢
 refine eG (L:=fun n i (s:RD × aR × Int × j2)=>dT.l0 k n m l mark s.1.2 s.2.2.1 i [] 0 0 false s.2.1 s.1.1.1 s.1.1.2.1 s.1.1.2.2.1 s.1.1.2.2.2.1 s.2.2.2)
  (R:=fun r s=>(some ((gM (w5 (a_ aF m) (r.map bD++[fI 5 mark (l.map bD)]) s.1) fun y=>fm y (a_ aF m)).1,(zp m r s.1 s.2.1 s.2.2.1,(iH (gM (w5 (a_ aF m) (r.map bD++[fI 5 mark (l.map bD)]) s.1) fun y=>fm y (a_ aF m)).2,()))):dT.Rs))
  (Ty.z aL) l (fun i s=>DR s.1.1∧(s.1.2=0→s.2.2.2=(l.take i.toNat).map bD)∧0≤s.2.2.1∧s.2.2.1≤211*i∧(s.2.1.length:Int)≤i∧(s.2.2.2.length:Int)≤i) (fun n s hs=>?_) (fun n i s x rest h0 h1 hx hr hs ih=>?_) (n:=k) (s:=(r0,([],(0,[])))) (by omega) ⟨hf,fun _=>rfl,Int.le_refl _,by simp,by simp,by simp⟩
 · obtain ⟨r,dir,a,recs⟩:=s
   obtain ⟨g1,g2,g3,g4,g5,g6⟩:=hs
   simp only [] at g1 g2 g3 g4 g5 g6 ⊢
   simp only [dT.l0,dT.b0]
   rw [aP (by omega),aK]
   simp only [List.map_nil,List.nil_append,w5,zp]
   by_cases c:r.2=0
   · rw [Int.toNat_natCast,List.take_length] at g2
     rw [show (r.2==0)=true by rw [c];rfl,ac,bU hk,ab,g2 c,u4 hk (by rw [List.length_map];omega),ab]
     simp only []
     rw [dH hk,ab]
     simp only []
     rw [lH hk,ab]
     simp only []
     have hfz:=kg (aG (fI 5 mark (l.map bD)))
     rw [show (r.1.1,(r.1.2.1,(r.1.2.2.1,(r.1.2.2.2.1,()))))=r.1 from rfl,og hk g1.sz (a_ aF m) (by omega),ab]
     simp only []
     have ha:=oc g1 (a_ aF m) (aQ (aG (fI 5 mark (l.map bD))))
     rw [show gM r (fun y=>iD y (a_ aF m) (aQ (aG (fI 5 mark (l.map bD)))))=iD r.1 (a_ aF m) (aQ (aG (fI 5 mark (l.map bD)))) by unfold gM;rw [c];rfl]
     generalize iD r.1 (a_ aF m) (aQ (aG (fI 5 mark (l.map bD))))=q at ha ⊢
     unfold gM
     cases c2:q.2==0 with
     | true =>
      simp only [ac]
      rw [ab]
      simp only []
      rw [lm hk ha.sz,ab,cw,ab]
     | false=>simp only [aK,cw,ab]
   · rw [mC c]
     have e:gM r (fun y=>iD y (a_ aF m) (aQ (aG (fI 5 mark (l.map bD)))))=r:=by unfold gM;rw [mC c];rfl
     rw [e]
     unfold gM
     rw [mC c]
     simp only [aK,cw,ab]
 · obtain ⟨r,dir,a,recs⟩:=s
   obtain ⟨g1,g2,g3,g4,g5,g6⟩:=hs
   simp only [] at g1 g2 g3 g4 g5 g6 ih ⊢
   have hi:i.toNat<l.length:=by omega
   have et:l.take (i+1).toNat=l.take i.toNat++[x]:=by
    rw [show (i+1).toNat=i.toNat+1 by omega,List.take_succ_eq_append_getElem hi]
    congr 2
    rw [← hx]
    simp [List.getD,hi]
   simp only [dT.l0,dT.b0]
   rw [aO h1,ac]
   simp only [List.map_cons,List.cons_append,w5,zp]
   by_cases c:r.2=0
   · have hr:=mW (bD x)
     have hfz:=kg (aG (bD x))
     have hz:((aQ (aG (bD x))).size:Int)=aw (bD x):=rfl
     rw [show (r.2==0)=true by rw [c];rfl,ac,aH h0 h1,hx,A_,ab]
     simp only []
     rw [dH hk,ab]
     simp only []
     rw [lH hk,ab]
     simp only []
     rw [bU hk,ab]
     simp only []
     rw [show (r.1.1,(r.1.2.1,(r.1.2.2.1,(r.1.2.2.2.1,()))))=r.1 from rfl,og hk g1.sz (a_ aF m) (by omega),ab]
     simp only []
     rw [cD (by omega) (by decide),cD (by omega) (by decide),hz,aD (n:=a+aw (bD x)) (by omega) (by omega),aD (n:=i+1) (by omega) (by omega)]
     have ha:=oc g1 (a_ aF m) (aQ (aG (bD x)))
     rw [show gM r (fun y=>iD y (a_ aF m) (aQ (aG (bD x))))=iD r.1 (a_ aF m) (aQ (aG (bD x))) by unfold gM;rw [c];rfl,ac]
     exact ih (iD r.1 (a_ aF m) (aQ (aG (bD x))),(dir++[(x.1,(m,(a,(aw (bD x),(x.2.2.1,())))))],(a+aw (bD x),recs++[bD x]))) ⟨ha,fun _=>by simp only [];rw [g2 c,et,List.map_append];rfl,by simp only [];omega,by simp only [];omega,by simp only [];rw [uH,List.length_singleton];omega,by simp only [];rw [uH,List.length_singleton];omega⟩
   · rw [mC c]
     have e:gM r (fun y=>iD y (a_ aF m) (aQ (aG (bD x))))=r:=by unfold gM;rw [mC c];rfl
     rw [e,pf _ _ _ c]
     unfold gM
     rw [mC c]
     simp only [aK,cw,ab]
noncomputable def Hh (m:Int) (s:ByteArray):ByteArray:=cv (fv m s).1
theorem GY (nm:ByteArray):∀ (l m:j2) (r:RD),w5 nm (l++m) r=w5 nm m (w5 nm l r)
 | [],_,_=>rfl
 | x::l,m,r=>by
  exact GY nm l m (gM r fun y=>iD y nm (aQ (aG x)))
theorem JA (nm:ByteArray):∀ (rs:j2) (r:RD),DR r.1→DR (w5 nm rs r).1
 | [],_,h=>h
 | x::rs,r,h=>JA nm rs _ (im h fun y hy=>oc hy _ _)
theorem Af (m:Int) (l:iA) (mark:Int) {d:Ty.d aA} (hd:DR d):DR (fQ m l mark d).1 :=
 im (JA _ _ _ (jx _ _ hd)) fun x hx=>lR hx _
theorem G3 {m:Int} {l:iA} {mark:Int} {d:Ty.d aA} (h:(fQ m l mark d).2=0):zp m l (bO (a_ aF m) d) [] 0=lF m l 0:=by
 unfold fQ at h
 obtain ⟨z1,z2,_⟩:=iv h
 unfold jX at z1
 rw [GY] at z1
 have z3:(w5 (a_ aF m) (l.map bD) (bO (a_ aF m) d)).2=0:=by
  by_cases w:(w5 (a_ aF m) (l.map bD) (bO (a_ aF m) d)).2=0
  · exact w
  · rw [pf _ _ _ w] at z1
    exact absurd z1 w
 have z0:(bO (a_ aF m) d).2=0:=by
  by_cases w:(bO (a_ aF m) d).2=0
  · exact w
  · rw [pf _ _ _ w] at z3
    exact absurd z3 w
 rw [Eb m l _ [] 0 z0 z3,List.nil_append]
theorem Bb {m:Int} (h0:1≤m) (h1:m+2≤100000):cS (iM m)=true:=by
 have e:aJ (m+2-1)=m+1:=by rw [aD (n:=m+2-1) (by omega) (by omega)];omega
 unfold cS iM
 simp only []
 rw [aO (show (1:Int)≤m+2∧m+2≤100000 from ⟨by omega,h1⟩),e]
 simp only [nJ,mF,kJ,List.length_nil]
 rw [aO (show (1:Int)≤m∧m≤m+1 from ⟨h0,by omega⟩),aO (show (1:Int)≤m+1∧m+1≤m+1 from ⟨by omega,by omega⟩),aO (show m<m+1 by omega)]
 rfl
theorem Dz (c:Int):(iH c != 0)=(c != 0):=by unfold bne;rw [iF]
theorem vb {k:Nat} (hk:2 ^ 50≤k) {st:Ty.d aE} (hl:cS st.1=true) (hn:LE.le (α:=Int) (st.1.1+2) 100000) {f:Ty.d aA} (hf:DR f) (dir:aR) :
 (rm (Ty.bytes (.int .i64)) (0+List.length st.1.2.1) ((eC.f k f (st.1.1+2,([st.1.1,st.1.1+1],()))).bind fun r16=>(bif (r16.2.1 != 0) then ((dR.f k ((st.1.1+2,st.1.2),st.2) r16.1 st.1.1 r16.2.1).bind fun r17=>(some r17)) else
  (bj.l0 k k 0 [st.1.1,st.1.1+1] dir (st.1.1+2) st.2.2.1 0 0 [] [] 0 0 0 0 [] 0 0 false r16.1.1 r16.1.2.1 r16.1.2.2.1 r16.1.2.2.2.1 ([]++st.1.2.1)))):bj.Rs) =
 some (oS (bif (bf (iM st.1.1) f).2 != 0 then (s5 st,kY (jG st.1.1) (tl (bf (iM st.1.1) f))) else ((iM st.1.1,(dir,(st.2.2.1,(0,(0,()))))),tl (ry st.1.2.1 (bf (iM st.1.1) f).1)))):=by
 obtain ⟨n1,n2,n3,_⟩:=iE (n:=st.1.1) (ids:=st.1.2.1) hl
 have h60:st.1.2.1.length≤60:=(bQ (nx:=st.1.1) (ids:=st.1.2.1) hl).2.2.2.1
 rw [cD (by omega) (by decide),ml hk hf (v:=(st.1.1+2,([st.1.1,st.1.1+1],()))) (Bb n1 hn),ab]
 rw [show ((st.1.1+2,([st.1.1,st.1.1+1],())):Ty.d cY)=iM st.1.1 from rfl]
 have hp:=jf (iM st.1.1) f hf
 generalize bf (iM st.1.1) f=q at hp ⊢
 simp only []
 rw [Dz]
 cases c:q.2 != 0 with
 | true =>
  simp only [ac]
  rw [show iH q.2=(tl q).2 from rfl,show q.1=(tl q).1 from rfl,pb hk _ (r:=tl q) hp n1 n2,ab]
  rfl
 | false =>
  simp only [aK,List.nil_append]
  rw [D4 hk _ _ _ _ _ _ _ (by omega) hp]
  rfl
theorem xh {k:Nat} (hk:2 ^ 50≤k) {st:Ty.d aE} {d:Ty.d aA} (hd:DR d) (hl:cS st.1=true) (hn:LE.le (α:=Int) (st.1.1+2) 100000) (hb0:LE.le (α:=Int) 1 st.2.2.1) (hb1:LE.le (α:=Int) st.2.2.1 1000001) {l:iA} (hlen:l.length≤1000000) :
 bj.f k st d l=some (oS (dQ (Hh st.1.1) st d l)):=by
 obtain ⟨n1,n2,n3,_⟩:=iE (n:=st.1.1) (ids:=st.1.2.1) hl
 have s1:=AQ st.1.1
 have s2:=AQ (st.1.1+1)
 have s3:=u6 (.inr rfl:dC=aF∨dC=dC) st.1.1
 unfold bj.f bj.t
 rw [aD (n:=st.2.2.1-1) (by omega) (by omega),aD (n:=st.1.1+2) (by omega) (by omega),aD (n:=st.1.1+1) (by omega) (by omega),xr hk hd _ hlen,ab]
 simp only []
 have a0:=Af st.1.1 l (st.2.2.1-1) hd
 have a1:=G3 (m:=st.1.1) (l:=l) (mark:=st.2.2.1-1) (d:=d)
 unfold dQ
 generalize zp st.1.1 l (bO (a_ aF st.1.1) d) [] 0=dir at a1 ⊢
 generalize fQ st.1.1 l (st.2.2.1-1) d=a at a0 a1 ⊢
 rw [Dz]
 cases ca:a.2 != 0 with
 | true =>
  simp only [ac]
  rw [show iH a.2=(tl a).2 from rfl,show a.1=(tl a).1 from rfl,pb hk _ (r:=tl a) a0 n1 n2,ab]
  rfl
 | false =>
  simp only [aK]
  rw [a1 (gu ca),bU hk,ab]
  simp only []
  rw [mR hk a0 (by omega),ab]
  simp only []
  have b0:=jx (a_ aF (st.1.1+1)) a.1 a0
  generalize bO (a_ aF (st.1.1+1)) a.1=b at b0 ⊢
  cases cb:b.2 != 0 with
  | true =>
   simp only [ac]
   rw [cw,ab]
   simp only []
   rw [show iH b.2=(tl b).2 from rfl,show b.1=(tl b).1 from rfl,pb hk _ (r:=tl b) b0 n1 n2,ab]
   rfl
  | false =>
   have hl':=b0.sz.l
   have hu':=b0.sz.u
   have hn':=b0.sz.n
   have ht:=fo b.1 (a_ aF st.1.1)
   have hcap:LE.le (α:=Int) (e6 b.1.1) 100000:=Int.le_trans b0.use b0.cap1
   simp only [aK]
   rw [bU hk,ab]
   simp only []
   rw [gS hk (by omega) (by omega) (by omega),ab]
   simp only []
   rw [qx hk _ (by omega),ab,iQ hk,ab]
   simp only []
   rw [kS hk,ab]
   simp only []
   rw [uA hk b0 (by omega) (by have:=nh (fv st.1.1 (aT b.1 (a_ aF st.1.1)).1).1;omega),ab]
   simp only []
   unfold kn
   rw [show Hh st.1.1 (aT b.1 (a_ aF st.1.1)).1=cv (fv st.1.1 (aT b.1 (a_ aF st.1.1)).1).1 from rfl]
   have c0:=nN (a_ dC st.1.1) (cv (fv st.1.1 (aT b.1 (a_ aF st.1.1)).1).1) b.1 b0
   generalize lB (a_ dC st.1.1) (cv (fv st.1.1 (aT b.1 (a_ aF st.1.1)).1).1) b.1=e at c0 ⊢
   cases ce:e.2==2 with
   | true =>
    simp only [ac]
    rw [ab]
    simp only []
    rw [mU hk c0 (by simp),ab]
    simp only []
    have d0:=ju [a_ dC st.1.1] e.1 c0
    generalize eX [a_ dC st.1.1] e.1=f at d0 ⊢
    cases cf:f.2 != 0 with
    | true =>
     simp only [ac]
     rw [cw,ab]
     rfl
    | false =>
     simp only [aK]
     exact vb hk hl hn d0 _
   | false =>
    simp only [aK]
    cases cf:e.2 != 0 with
    | true =>
     simp only [ac]
     rw [cw,ab]
     rfl
    | false =>
     simp only [aK]
     exact vb hk hl hn c0 _
noncomputable def mJ (st:Ty.d aE) (d:Ty.d aA):Ty.d aE × RD :=
 bif !d9 st d then (st,(d,4)) else bif decide (st.1.1+2 > 100000) then (st,(d,5)) else
 bif (gf st.2.1 d).2 != 0 then (st,(d,(gf st.2.1 d).2)) else dQ (Hh st.1.1) st d (gf st.2.1 d).1
theorem vn {st:Ty.d aE} {d:Ty.d aA} (h:d9 st d=true):LE.le (α:=Int) 1 st.2.2.1∧LE.le (α:=Int) st.2.2.1 1000001:=by
 unfold d9 at h
 simp only [gN,decide_eq_true_eq] at h
 exact h.2.2.2.1
theorem AH {k:Nat} (hk:2 ^ 50≤k) {st:Ty.d aE} {d:Ty.d aA} (hd:zE d) (h1:st.1.2.1.length≤1073741824) (h2:st.2.1.length≤536870912):jm.f k st d=some (oS (mJ st d)):=by
 have ec:co.f k st=some (st,()):=by
  unfold co.f co.t
  rw [cD (by omega) (by decide),cD (by omega) (by decide),List.nil_append,List.nil_append]
 unfold jm.f jm.t mJ
 rw [ec,ab]
 simp only []
 rw [jK k hd,ab]
 simp only []
 rw [ru hk hd,ab]
 simp only []
 cases c1:d9 st d with
 | false=>rfl
 | true =>
  obtain ⟨g1,g2,g3⟩:=eS c1
  obtain ⟨n1,n2,_,_⟩:=iE (n:=st.1.1) (ids:=st.1.2.1) g1.live
  simp only [fh,aK]
  rw [aD (n:=st.1.1+2) (by omega) (by omega)]
  by_cases c2:st.1.1+2 > (100000:Int)
  · rw [aO c2];rfl
  · rw [aP c2]
    simp only [aK]
    rw [uK hk hd (by omega),ab]
    simp only []
    have hz:=ny st.2.1 d
    obtain ⟨b1,b2⟩:=vn c1
    cases (gf st.2.1 d).2 != 0 with
    | true=>rfl
    | false =>
     simp only [aK]
     rw [xh hk g1.disk g1.live (Int.not_lt.1 c2) b1 b2 (by omega),ab]
abbrev ll:=Ty.d d8
def CI (c:ll):Prop:=(0:Int)≤c.2.1∧c.2.1≤(c.1.length:Int)∧c.1.length≤1048576
theorem AN (y:Int):0≤aJ (((BitVec.ofInt (IntKind.bits .i64) y &&& BitVec.ofInt (IntKind.bits .i64) 255).toNat:Int))∧aJ (((BitVec.ofInt (IntKind.bits .i64) y &&& BitVec.ofInt (IntKind.bits .i64) 255).toNat:Int))≤255:=by
 have h:(BitVec.ofInt (IntKind.bits .i64) y &&& BitVec.ofInt (IntKind.bits .i64) 255).toNat≤255:=by
  rw [BitVec.toNat_and]
  exact Nat.le_trans Nat.and_le_right (by decide)
 rw [aD (by omega) (by omega)]
 omega
theorem Gz {k:Nat} (hk:2 ^ 50≤k) {l:List Int} (hl:l.length≤1048576):∃ c:ll,ft.f k l=some ((),(c,()))∧CI c:=by
 unfold ft.f ft.t
 have key:∀ (d n:Nat) (i h:Int),(l.length:Int)-i=d→0≤i→d<n→∃ c:ll,ft.l0 k n l h i=some ((),(c,()))∧CI c:=by
  intro d
  induction d with
  | zero =>
   intro n i h h1 h2 hn
   obtain ⟨n,rfl⟩:∃ q,n=q+1:=⟨n-1,by omega⟩
   simp only [ft.l0,ft.b0]
   rw [aP (show ¬ i<(l.length:Int) by omega),aK]
   exact ⟨_,rfl,Int.le_refl _,by show (0:Int)≤(l.length:Int);omega,hl⟩
  | succ d ih =>
   intro n i h h1 h2 hn
   obtain ⟨n,rfl⟩:∃ q,n=q+1:=⟨n-1,by omega⟩
   simp only [ft.l0,ft.b0]
   rw [aO (show i<(l.length:Int) by omega),ac]
   by_cases c:i<4000
   · rw [aO c,ac,aH h2 (by omega),aD (n:=i+1) (by omega) (by omega)]
     exact ih n (i+1) _ (by omega) (by omega) (by omega)
   · rw [aP c,aK]
     exact ⟨_,rfl,Int.le_refl _,by show (0:Int)≤(l.length:Int);omega,hl⟩
 exact key l.length k 0 _ (by omega) (by omega) (by omega)
theorem yc (k:Nat) {c:ll} (h:CI c):∃ (c':ll) (x:Int),eZ.f k c=some (c',(x,()))∧CI c'∧0≤x∧x≤255:=by
 obtain ⟨b,i,hh,_⟩:=c
 change Int at i
 change Int at hh
 obtain ⟨h1,h2,h3⟩:=h
 have h1:0≤i:=h1
 have h2:i≤(b.length:Int):=h2
 have h3:b.length≤1048576:=h3
 unfold eZ.f eZ.t
 simp only []
 by_cases q:i<(b.length:Int)
 · rw [aO q,ac,aH h1 q,aD (n:=i+1) (by omega) (by omega)]
   refine ⟨_,_,rfl,⟨by show (0:Int)≤i+1;omega,by show i+1≤(b.length:Int);omega,h3⟩,(AN _).1,(AN _).2⟩
 · rw [aP q,aK]
   exact ⟨_,_,rfl,⟨h1,h2,h3⟩,(AN _).1,(AN _).2⟩
theorem w9 (k:Nat) {c:ll} (h:CI c) {n:Int} (h0:0<n) (h1:n≤256):∃ (c':ll) (x:Int),aa.f k c n=some (c',(x,()))∧CI c'∧0≤x∧x<n:=by
 obtain ⟨c',x,e,hc,hx0,hx1⟩:=yc k h
 unfold aa.f aa.t
 rw [aP (show ¬ n≤0 by omega),aK,aO h1,ac,e,ab]
 simp only []
 rw [aP (show ¬ n=0 by omega),aK]
 have e2:Int.tmod x n=x % n:=Int.tmod_eq_emod_of_nonneg hx0
 refine ⟨_,_,rfl,hc,?_,?_⟩
 · rw [e2];exact Int.emod_nonneg _ (by omega)
 · rw [e2];exact Int.emod_lt_of_pos _ h0
theorem F4 (k:Nat) {c:ll} (h:CI c) {n:Int} (h0:0<n) (h1:n≤256):∃ (c':ll) (x:Bool),cG.f k c n=some (c',(x,()))∧CI c':=by
 obtain ⟨c',x,e,hc,_,_⟩:=w9 k h h0 h1
 unfold cG.f cG.t
 rw [e,ab]
 exact ⟨_,_,rfl,hc⟩
theorem Hw {k:Nat} (hk:2 ^ 50≤k) {l:List Int} (hl:l.length≤1048576):je (ft.f k l) (fun r=>CI r.2.1):=by
 obtain ⟨c,e,h⟩:=Gz hk hl
 exact ⟨_,e,h⟩
theorem pt (k:Nat) {c:ll} (h:CI c):je (eZ.f k c) (fun r=>CI r.1∧0≤r.2.1∧r.2.1≤255):=by
 obtain ⟨c',x,e,h1,h2,h3⟩:=yc k h
 exact ⟨_,e,h1,h2,h3⟩
theorem kh (k:Nat) {c:ll} (h:CI c) {n:Int} (h0:0<n) (h1:n≤256):je (aa.f k c n) (fun r=>CI r.1∧0≤r.2.1∧r.2.1<n):=by
 obtain ⟨c',x,e,q1,q2,q3⟩:=w9 k h h0 h1
 exact ⟨_,e,q1,q2,q3⟩
theorem xX (k:Nat) {c:ll} (h:CI c) {n:Int} (h0:0<n):je (aa.f k c n) (fun r=>CI r.1∧0≤r.2.1∧r.2.1<n):=by
 by_cases h1:n≤256
 · exact kh k h h0 h1
 unfold aa.f aa.t
 refine kz (aP (by omega)) (kz (aP h1) ?_)
 refine bA (pt k h) fun r1 q1=>?_
 refine bA (pt k q1.1) fun r2 q2=>?_
 refine bA (pt k q2.1) fun r3 q3=>?_
 refine bA (pt k q3.1) fun r4 q4=>?_
 refine kz (aP (by omega)) (ae ⟨q4.1,?_⟩)
 obtain ⟨_,a0,a1⟩:=q1
 obtain ⟨_,b0,b1⟩:=q2
 obtain ⟨_,c0,c1⟩:=q3
 obtain ⟨_,d0,d1⟩:=q4
 simp only []
 rw [aD (n:=r1.2.1*16777216) (by omega) (by omega),aD (n:=r2.2.1*65536) (by omega) (by omega),aD (n:=r3.2.1*256) (by omega) (by omega),aD (n:=r1.2.1*16777216+r2.2.1*65536) (by omega) (by omega),aD (n:=r1.2.1*16777216+r2.2.1*65536+r3.2.1*256) (by omega) (by omega),aD (n:=r1.2.1*16777216+r2.2.1*65536+r3.2.1*256+r4.2.1) (by omega) (by omega)]
 rw [Int.tmod_eq_emod_of_nonneg (by omega)]
 exact ⟨Int.emod_nonneg _ (by omega),Int.emod_lt_of_pos _ h0⟩
theorem wQ (k:Nat) {c:ll} (h:CI c) {n:Int} (h0:0<n) (h1:n≤256):je (cG.f k c n) (fun r=>CI r.1):=by
 obtain ⟨c',x,e,q1⟩:=F4 k h h0 h1
 exact ⟨_,e,q1⟩
theorem BU (k:Nat) {c:ll} (h:CI c) {l:List ByteArray} (h0:0<l.length) (h1:l.length≤256):je (cK.f k c l) (fun r=>CI r.1∧r.2.1 ∈ l):=by
 unfold cK.f cK.t
 refine bA (kh k h (by omega) (by omega)) fun r q=>?_
 refine g_ q.2.1 q.2.2 (ae ⟨q.1,iJ ?_⟩)
 have:=q.2.1
 have:=q.2.2
 omega
theorem BI (k:Nat) {c:ll} (h:CI c) {l:List Int} (h0:0<l.length) (h1:l.length≤256):je (aM.f k c l) (fun r=>CI r.1∧r.2.1 ∈ l):=by
 unfold aM.f aM.t
 refine bA (kh k h (by omega) (by omega)) fun r q=>?_
 refine g_ q.2.1 q.2.2 (ae ⟨q.1,iJ ?_⟩)
 have:=q.2.1
 have:=q.2.2
 omega
theorem Fs (l:List Int):(bytesOf l).size=l.length:=by simp [bytesOf,ByteArray.size]
theorem IU {k:Nat} (hk:2 ^ 50≤k) (st:Int) (m:Nat) (hm:m≤200):∀ (d n:Nat) (c:ll) (out:List Int),d<n→CI c→out.length+d≤m→je (eV.l0 k n st (d:Int) c.1 c.2.1 c.2.2.1 out) (fun r=>CI r.1∧r.2.1.size≤m):=by
 intro d
 induction d with
 | zero =>
  intro n c out hn hc ho
  obtain ⟨n,rfl⟩:∃ q,n=q+1:=⟨n-1,by omega⟩
  simp only [eV.l0,eV.b0]
  refine kz (aP (by omega)) (ae ⟨hc,?_⟩)
  show (bytesOf out).size≤m
  rw [Fs]
  omega
 | succ d ih =>
  intro n c out hn hc ho
  obtain ⟨n,rfl⟩:∃ q,n=q+1:=⟨n-1,by omega⟩
  have hw:aJ (((d+1:Nat):Int)-1)=(d:Int):=by rw [aD (by omega) (by omega)];omega
  simp only [eV.l0,eV.b0,hw]
  refine kE (aO (by omega)) ?_
  refine bA (pt k hc) fun r hr=>?_
  refine b9 (fun _=>b9 (fun _=>?_) (fun _=>?_)) (fun _=>b9 (fun _=>?_) (fun _=>?_))
  all_goals exact oj (by omega) (by decide) (ih n r.1 _ (by omega) hr.1 (by rw [bv];omega))
theorem GV {k:Nat} (hk:2 ^ 50≤k) {c:ll} (h:CI c) {m:Int} (h0:0≤m) (h1:m≤200):je (eV.f k c m) (fun r=>CI r.1∧(r.2.1.size:Int)≤m):=by
 unfold eV.f eV.t
 rw [aD (n:=m+1) (by omega) (by omega)]
 refine bA (kh k h (by omega) (by omega)) fun r1 q1=>?_
 refine bA (kh k q1.1 (by omega) (by omega)) fun r2 q2=>?_
 obtain ⟨c2,a,b⟩:=q2
 have:=IU hk r1.2.1 m.toNat (by omega) r2.2.1.toNat k r2.1 [] (by omega) c2 (by simp only [List.length_nil];omega)
 rw [show ((r2.2.1.toNat:Nat):Int)=r2.2.1 by omega] at this
 exact oE this fun r hr=>⟨hr.1,by have:=hr.2;omega⟩
theorem IZ (k:Nat) {c:ll} (h:CI c):je (iG.f k c) (fun r=>CI r.1):=by
 unfold iG.f iG.t
 exact bA (BU k h (by decide) (by decide)) fun r q=>ae q.1
def EX (n:Int) (d d':Ty.d aA):Prop:=∀ x:Int,1≤x→x<n→x≤100000→∀ t,fT d (a_ aF x)=some t→∃ u,fT d' (a_ aF x)=some (t++u)
theorem FZ (t:ByteArray):t++(⟨#[]⟩:ByteArray)=t:=Cx t
theorem om {n:Int} {d d':Ty.d aA} (h:∀ x:Int,1≤x→x<n→x≤100000→fT d' (a_ aF x)=fT d (a_ aF x)):EX n d d':=fun x h0 h1 h2 t e=>⟨⟨#[]⟩,by rw [h x h0 h1 h2,e,FZ]⟩
theorem zh (n:Int) (d:Ty.d aA):EX n d d:=om fun _ _ _ _=>rfl
theorem xL {n:Int} {d d' d'':Ty.d aA} (h:EX n d d') (g:EX n d' d''):EX n d d'':=fun x h0 h1 h2 t e=>by
 obtain ⟨u,hu⟩:=h x h0 h1 h2 t e
 obtain ⟨v,hv⟩:=g x h0 h1 h2 _ hu
 exact ⟨u++v,by rw [hv,oG]⟩
theorem Ip {n m:Int} {d d':Ty.d aA} (h:EX m d d') (q:n≤m):EX n d d':=fun x h0 h1 h2 t e=>h x h0 (by omega) h2 t e
theorem JN (n:Int) (d:Ty.d aA) (s x:ByteArray):EX n d (iD d s x).1:=fun y h0 h1 h2 t e=>by
 by_cases q:s=a_ aF y
 · subst q
   have:=sF (d:=d) (s:=a_ aF y) (x:=x)
   rw [e] at this
   cases c:(iD d (a_ aF y) x).2==0 with
   | true=>rw [c] at this;exact ⟨x,this⟩
   | false=>rw [c] at this;exact ⟨⟨#[]⟩,by rw [this,FZ];rfl⟩
 · exact ⟨⟨#[]⟩,by rw [wP q,e,FZ]⟩
theorem Jg (n:Int) (d:Ty.d aA) (s:ByteArray):EX n d (fm d s).1:=om fun x _ _ _=>kw
theorem Ie {st:Ty.d aE} {d:Ty.d aA} (hl:cS st.1=true) :
 EX st.1.1 d (jb st d).2.1∧LE.le (α:=Int) st.1.1 (jb st d).1.1.1∧(jb st d).1.2.2.1=st.2.2.1:=by
 obtain ⟨n1,n2,n3,_⟩:=iE (n:=st.1.1) (ids:=st.1.2.1) hl
 have hnew:∀ x:Int,1≤x→x<st.1.1→x≤100000→a_ aF st.1.1≠a_ aF x:=fun x h0 h1 h2=>mn ⟨n1,n2⟩ ⟨h0,h2⟩ (by omega)
 have k1:∀ x:Int,1≤x→x<st.1.1→x≤100000→fT (fm d (cj st)).1 (a_ aF x)=fT d (a_ aF x):=fun x _ _ _=>kw
 have k2:∀ x:Int,1≤x→x<st.1.1→x≤100000→fT (bO (a_ aF st.1.1) (fm d (cj st)).1).1 (a_ aF x)=fT d (a_ aF x):=fun x h0 h1 h2=>(l9 (hnew x h0 h1 h2)).trans (k1 x h0 h1 h2)
 have k3:∀ x:Int,1≤x→x<st.1.1→x≤100000→fT (bf (kK st) (bO (a_ aF st.1.1) (fm d (cj st)).1).1).1 (a_ aF x)=fT d (a_ aF x):=fun x h0 h1 h2=>(gg (gT ⟨h0,h2⟩) (iS ⟨h0,h2⟩)).trans (k2 x h0 h1 h2)
 unfold jb
 cases decide ((st.1.2.1.length:Int)≥60) with
 | true=>exact ⟨zh _ _,Int.le_refl _,rfl⟩
 | false =>
  cases decide (st.1.1≥(100000:Int)) with
  | true=>exact ⟨zh _ _,Int.le_refl _,rfl⟩
  | false =>
   have up:LE.le (α:=Int) st.1.1 (st.1.1+1):=by omega
   simp only [aK]
   generalize fm d (cj st)=r1 at k1 k2 k3 ⊢
   generalize bO (a_ aF st.1.1) r1.1=r2 at k2 k3 ⊢
   generalize bf (kK st) r2.1=r3 at k3 ⊢
   cases r1.2 != 0 with
   | true=>exact ⟨om k1,Int.le_refl _,rfl⟩
   | false =>
    cases r2.2 != 0 with
    | true=>exact ⟨om k2,up,rfl⟩
    | false =>
     cases r3.2 != 0 with
     | true =>
      refine ⟨?_,up,rfl⟩
      simp only [ac,aK]
      unfold np
      cases (tl r3).2==2 with
      | false=>exact om k3
      | true =>
       refine om fun x h0 h1 h2=>?_
       refine (mH [iL,a_ aF st.1.1] r3.1 fun s hs=>?_).trans (k3 x h0 h1 h2)
       rcases List.mem_cons.1 hs with e | e
       · rw [e];exact gT ⟨h0,h2⟩
       · rw [List.mem_singleton.1 e];exact hnew x h0 h1 h2
     | false=>exact ⟨om k3,up,rfl⟩
theorem Di {st:Ty.d aE} (hl:cS st.1=true):LE.le (α:=Int) 1 (aZ st.1.2.1)∧LT.lt (α:=Int) (aZ st.1.2.1) st.1.1:=by
 obtain ⟨n1,n2,n3,n4⟩:=iE (n:=st.1.1) (ids:=st.1.2.1) hl
 obtain ⟨_,_,g1,_,_⟩:=bQ (nx:=st.1.1) (ids:=st.1.2.1) hl
 have hs:=lT g1
 have hlast:aZ st.1.2.1 ∈ st.1.2.1:=by rw [hs];exact List.mem_append_right _ (List.mem_singleton.2 (by rw [← hs]))
 exact n3 _ hlast
theorem EH {st:Ty.d aE} {d:Ty.d aA} (hl:cS st.1=true) (r:Ty.d b7) (n:Int) :
 EX n d (jN st d r).1.2.1∧(jN st d r).1.1.1=st.1∧(jN st d r).1.1.2.2.1=st.2.2.1∧((jN st d r).1.2.2=0→LE.le (α:=Int) 1 (jN st d r).2.1∧LT.lt (α:=Int) (jN st d r).2.1 st.1.1):=by
 have hE:=JN n d (cj st) (aQ (aG r))
 unfold jN
 generalize iD d (cj st) (aQ (aG r))=a at hE ⊢
 cases c:a.2 != 0 with
 | true =>
  refine ⟨hE,rfl,rfl,fun e=>?_⟩
  have e:(tl a).2=0:=e
  have q:=wI a
  rw [e,c] at q
  cases q
 | false=>exact ⟨hE,rfl,rfl,fun _=>Di hl⟩
theorem Df {st:Ty.d aE} {d:Ty.d aA} (hl:cS st.1=true) (hd:DR d) (r:Ty.d b7) :
 EX st.1.1 d (fb st d r).1.2.1∧LE.le (α:=Int) st.1.1 (fb st d r).1.1.1.1∧(fb st d r).1.1.2.2.1=st.2.2.1∧((fb st d r).1.2.2=0→LE.le (α:=Int) 1 (fb st d r).2.1∧LT.lt (α:=Int) (fb st d r).2.1 (fb st d r).1.1.1.1):=by
 unfold fb
 cases decide (st.2.2.2.1 > 0)&&decide (st.2.2.2.1+aw r > 200) with
 | false =>
  obtain ⟨s1,s2,s3,s4⟩:=EH (d:=d) hl r st.1.1
  simp only [aK]
  rw [s2]
  exact ⟨s1,Int.le_refl _,s3,s4⟩
 | true =>
  obtain ⟨g1,g2,g3,g4⟩:=qg hl hd
  obtain ⟨t1,t2,t3⟩:=Ie (d:=d) hl
  simp only [ac]
  generalize jb st d=q at g1 g2 g3 g4 t1 t2 t3 ⊢
  cases c:q.2.2 != 0 with
  | true =>
   refine ⟨t1,t2,t3,fun e=>?_⟩
   have e:q.2.2=0:=e
   rw [e] at c
   cases c
  | false =>
   obtain ⟨s1,s2,s3,s4⟩:=EH (d:=q.2.1) g1 r st.1.1
   simp only [aK]
   rw [s2]
   exact ⟨xL t1 s1,t2,s3.trans t3,s4⟩
theorem Bg:∀ (l:j2) (st:Ty.d aE) (d:Ty.d aA) (ps:aW) (B:Int),SR st (d,0) B→0≤B→(∀ p ∈ ps,LE.le (α:=Int) 1 p.1∧LT.lt (α:=Int) p.1 st.1.1) →
 EX st.1.1 d (eW l st d ps).1.2.1∧LE.le (α:=Int) st.1.1 (eW l st d ps).1.1.1.1∧(eW l st d ps).1.1.2.2.1=st.2.2.1∧∀ p ∈ (eW l st d ps).2,LE.le (α:=Int) 1 p.1∧LT.lt (α:=Int) p.1 (eW l st d ps).1.1.1.1
 | [],st,d,ps,B,_,_,hp=>⟨zh _ _,Int.le_refl _,rfl,hp⟩
 | r::l,st,d,ps,B,h,hB,hp=>by
  obtain ⟨g1,g2,g3⟩:=qL h hB r
  obtain ⟨s1,s2,s3,s4⟩:=Df (d:=d) h.live h.disk r
  unfold eW
  generalize fb st d r=q at g1 g2 g3 s1 s2 s3 s4 ⊢
  have up:∀ p ∈ ps,LE.le (α:=Int) 1 p.1∧LT.lt (α:=Int) p.1 q.1.1.1.1:=fun p hq=>⟨(hp p hq).1,Int.lt_of_lt_of_le (hp p hq).2 s2⟩
  cases c:q.1.2.2 != 0 with
  | true=>exact ⟨s1,s2,s3,up⟩
  | false =>
   have e0:=gu c
   obtain ⟨i1,i2,i3,i4⟩:=Bg l q.1.1 q.1.2.1 (ps++[q.2]) (B+211) ⟨g1.live,g1.disk,g1.lo,g1.hi⟩ (by omega) fun p hq=>by
    rcases List.mem_append.1 hq with w | w
    · exact up p w
    · rw [List.mem_singleton.1 w]
      exact s4 e0
   simp only [aK]
   exact ⟨xL s1 (Ip i1 s2),Int.le_trans s2 i2,i3.trans s3,i4⟩
theorem G_ {d:aR} {p:Ty.d aC} {e:Ty.d aB} (h:e ∈ fJ d p):(e=eP p∧(p.2.2.2.1.1==2)=false)∨e ∈ d:=by
 unfold fJ at h
 cases c:p.2.2.2.1.1==2 with
 | true=>rw [c,ac] at h;exact .inr ((List.mem_filter.1 h).1)
 | false =>
  rw [c,aK] at h
  rcases EU h with w | w
  · exact .inl ⟨w,rfl⟩
  · exact .inr ((List.mem_filter.1 w).1)
theorem ma {e:Ty.d aB}:∀ (ps:aW) {d:aR},e ∈ bN d ps→(∃ p ∈ ps,e=eP p∧(p.2.2.2.1.1==2)=false)∨e ∈ d
 | [],d,h => .inr h
 | p::ps,d,h=>by
  rcases ma ps (d:=fJ d p) h with ⟨q,hq,w⟩ | w
  · exact .inl ⟨q,lL _ hq,w⟩
  · rcases G_ w with w | w
    · exact .inl ⟨p,jd,w⟩
    · exact .inr w
theorem yb {s t:ByteArray} {i n:Int} (h:(dp s i n).2=true):dp (s++t) i n=dp s i n:=by
 unfold dp at h ⊢
 by_cases c:0≤i∧i≤s.size∧1≤n∧n≤s.size-i
 · have hz:(s++t).size=s.size+t.size:=ByteArray.size_append ..
   have e:ByteArray.extract (s++t) i.toNat (i+n).toNat=ByteArray.extract s i.toNat (i+n).toNat:=by
    refine jV ?_
    rw [rW,rW,gQ,List.take_append_of_le_length (by rw [cP];omega)]
   rw [if_pos c,if_pos (show 0≤i∧i≤(s++t).size∧1≤n∧n≤(s++t).size-i from ⟨c.1,by omega,c.2.2.1,by omega⟩),e]
 · rw [if_neg c] at h
   cases h
theorem vt {n:Int} {d d':Ty.d aA} {e:Ty.d aB} (hd:DR d) (hd':DR d') (hx:EX n d d') (h1:LE.le (α:=Int) 1 e.2.1) (h2:LT.lt (α:=Int) e.2.1 n) (h3:LE.le (α:=Int) e.2.1 100000) (h:(fR d e).2=true):fR d' e=fR d e:=by
 unfold fR at h ⊢
 rw [jH hd] at h
 rw [jH hd,jH hd']
 cases c:fT d (a_ aF e.2.1) with
 | none =>
  rw [c] at h
  have h:(dp ⟨#[]⟩ e.2.2.1 e.2.2.2.1).2=true:=h
  rw [uO] at h
  cases h
 | some t =>
  obtain ⟨u,hu⟩:=hx e.2.1 h1 h2 h3 t c
  rw [c] at h
  rw [hu]
  exact yb h
def EI (st:Ty.d aE):Prop:=∀ e ∈ st.2.1,LE.le (α:=Int) 1 e.2.1∧LT.lt (α:=Int) e.2.1 st.1.1
def FL (s:ByteArray):Prop:=∃ rs:j2,(∀ r ∈ rs,bm r=true)∧s=aX rs
theorem IE (s:ByteArray):∀ (d:Nat) (i:Int),0≤i→i≤s.size→(s.size:Int)-i<d→(fS s d i).2=(s.size:Int)→FL (ByteArray.extract s i.toNat s.size):=by
 intro d
 induction d with
 | zero=>intro i h0 h1 h2 _;omega
 | succ d ih =>
  intro i h0 h1 h2 h
  have stop:i=(s.size:Int)→FL (ByteArray.extract s i.toNat s.size):=fun e=>by
   rw [e,Int.toNat_natCast,B7]
   exact ⟨[],fun r hr=>(by cases hr),rfl⟩
  rw [fS] at h
  by_cases c1:(fi (ByteArray.extract s i.toNat s.size)).2=0
  · rw [if_pos c1] at h
    exact stop h
  · rw [if_neg c1] at h
    cases c2:(gB (fi (ByteArray.extract s i.toNat s.size)).1).2 with
    | false =>
     rw [if_pos c2] at h
     exact stop h
    | true =>
     rw [if_neg (by rw [c2];decide)] at h
     have hu:=lU (ByteArray.extract s i.toNat s.size)
     have hz:=o9 s i.toNat
     have ih:=ih (i+(fi (ByteArray.extract s i.toNat s.size)).2) (by omega) (by omega) (by omega) h
     rcases mc (ByteArray.extract s i.toNat s.size) with ⟨t,r,ht,e1,e2⟩ | ⟨e2,_⟩
     · rw [e2] at ih c2
       simp only [] at ih c2
       have e3:ByteArray.extract s (i+((aQ t).size:Int)).toNat s.size=r:=by
        apply jV
        have hnb:=congrArg nb e1
        rw [gk,gQ] at hnb
        rw [gk,show (i+((aQ t).size:Int)).toNat=i.toNat+(aQ t).size by omega,← List.drop_drop,hnb,List.drop_left' (cP _)]
       rw [e3] at ih
       obtain ⟨rs,k1,k2⟩:=ih
       obtain ⟨g1,g2⟩:=vM (s:=t) (r:=(gB t).1) (Prod.ext rfl c2)
       refine ⟨(gB t).1::rs,fun x hx=>?_,?_⟩
       · rcases List.mem_cons.1 hx with e | e
         · rw [e];exact g1
         · exact k1 x e
       · rw [e1,k2,aX,g2]
     · exact absurd (by rw [e2]) c1
theorem tN (s:ByteArray):ByteArray.extract s 0 s.size=s:=jV (by rw [gk,List.drop_zero])
theorem EF {s:ByteArray} (h:(az s).2=(s.size:Int)):FL s:=by
 have:=IE s (s.size+1) 0 (by omega) (by omega) (by omega) h
 rw [show (0:Int).toNat=0 from rfl,tN] at this
 exact this
theorem yq {s:ByteArray} (h:FL s):(az s).2=(s.size:Int):=by
 obtain ⟨rs,h1,h2⟩:=h
 rw [h2]
 exact (p0 h1).2
theorem vR (r:Ty.d b7):aX [r]=aQ (aG r):=FZ _
theorem HP {s:ByteArray} {r:Ty.d b7} (h:FL s) (hr:bm r=true):FL (s++aQ (aG r)):=by
 obtain ⟨rs,h1,h2⟩:=h
 refine ⟨rs++[r],fun x hx=>?_,?_⟩
 · rcases List.mem_append.1 hx with e | e
   · exact h1 x e
   · rw [List.mem_singleton.1 e];exact hr
 · rw [nP,vR,h2]
theorem F9:FL ⟨#[]⟩:=⟨[],fun r hr=>(by cases hr),rfl⟩
theorem tQ (r:Ty.d b7):5≤aw r∧aw r≤210:=by
 have h1:=jJ r
 have h2:=jq (s:=aG r) (by omega)
 have h3:(aQ (aG r)).size≤74:=by
  unfold aQ
  rw [if_neg (by omega)]
  have h4:=ix (pI (iu (aG r)))
  have h5:=bG ((aG r).size:Int)
  rw [ByteArray.size_append]
  unfold iu at h4 ⊢
  rw [ByteArray.size_append]
  omega
 unfold aw
 omega
theorem yJ (t:ByteArray) {r:Ty.d b7} (h:bm r=true):dp (t++aQ (aG r)) (t.size:Int) (aw r)=(r,true):=by
 have hz:=jJ r
 have hp:=tQ r
 have hl:((aQ (aG r)).size:Int)=aw r:=rfl
 have hs:(t++aQ (aG r)).size=t.size+(aQ (aG r)).size:=ByteArray.size_append ..
 have e:ByteArray.extract (t++aQ (aG r)) (t.size:Int).toNat ((t.size:Int)+aw r).toNat=aQ (aG r):=by
  rw [Int.toNat_natCast,show ((t.size:Int)+aw r).toNat=(t++aQ (aG r)).size by omega]
  exact dk _ _
 have e2:fi (aQ (aG r))=(aG r,((aQ (aG r)).size:Int)):=by
  have:=mX ⟨#[]⟩ (t:=aG r) (by omega)
  rw [FZ] at this
  exact this
 unfold dp
 rw [if_pos ⟨by omega,by omega,by omega,by omega⟩,e,e2]
 simp only []
 rw [if_pos hl,sT h]
def JB (x:Ty.d aB):Bool:=ku x.1&&(decide ((1:Int)≤x.2.1∧x.2.1≤100000)&&(!decide (x.2.2.1<(0:Int))&&(decide ((1:Int)≤x.2.2.2.1∧x.2.2.2.1≤210)&&decide ((1:Int)≤x.2.2.2.2.1∧x.2.2.2.2.1≤1000000))))
theorem El (p:Option (Ty.d aB)) (x:Ty.d aB):o7 p x=true↔(JB x=true∧∀ q,p=some q→mo q.1 x.1=true):=by
 unfold o7 JB
 simp only [gN]
 cases p with
 | none=>exact ⟨fun h=>⟨⟨h.1,h.2.1,h.2.2.1,h.2.2.2.1,h.2.2.2.2.1⟩,fun q hq=>(by cases hq)⟩,fun h=>⟨h.1.1,h.1.2.1,h.1.2.2.1,h.1.2.2.2.1,h.1.2.2.2.2,rfl⟩⟩
 | some y=>exact ⟨fun h=>⟨⟨h.1,h.2.1,h.2.2.1,h.2.2.2.1,h.2.2.2.2.1⟩,fun q hq=>(by cases hq;exact h.2.2.2.2.2)⟩,fun h=>⟨h.1.1,h.1.2.1,h.1.2.2.1,h.1.2.2.2.1,h.1.2.2.2.2,h.2 y rfl⟩⟩
def iP (l:aR):List ByteArray:=l.map (·.1)
theorem Dt:∀ (l:aR) (p:Option (Ty.d aB)),nJ o7 p l=true↔((∀ f ∈ l,JB f=true)∧cW (iP l)∧(∀ q,p=some q→∀ f ∈ l,mo q.1 f.1=true))
 | [],p=>by
  constructor
  · intro _
    exact ⟨fun f h=>(by cases h),List.Pairwise.nil,fun q _ f h=>(by cases h)⟩
  · intro _;rfl
 | g::l,p=>by
  have ih:=Dt l (some g)
  unfold nJ
  rw [gN,ih,El]
  constructor
  · rintro ⟨⟨h1,h2⟩,h3,h4,h5⟩
    refine ⟨fun f hf=>?_,?_,fun q hq f hf=>?_⟩
    · rcases List.mem_cons.1 hf with e | e
      · rw [e];exact h1
      · exact h3 f e
    · unfold cW iP
      rw [List.map_cons,List.pairwise_cons]
      refine ⟨fun x hx=>?_,h4⟩
      obtain ⟨f,hf,rfl⟩:=List.mem_map.1 hx
      exact h5 g rfl f hf
    · rcases List.mem_cons.1 hf with e | e
      · rw [e];exact h2 q hq
      · exact oO (h2 q hq) (h5 g rfl f e)
  · rintro ⟨h1,h2,h3⟩
    unfold cW iP at h2
    rw [List.map_cons,List.pairwise_cons] at h2
    refine ⟨⟨h1 g (jd ..),fun q hq=>h3 q hq g (jd ..)⟩,fun f hf=>h1 f (lL _ hf),h2.2,fun q hq f hf=>?_⟩
    cases hq
    exact h2.1 f.1 (List.mem_map.2 ⟨f,hf,rfl⟩)
theorem sP {l:aR}:oJ l=true↔(l.length≤20∧(∀ f ∈ l,JB f=true)∧cW (iP l)):=by
 unfold oJ
 rw [gN,decide_eq_true_eq,Dt]
 exact ⟨fun h=>⟨by omega,h.2.1,h.2.2.1⟩,fun h=>⟨by omega,h.2.1,h.2.2,fun q hq=>(by cases hq)⟩⟩
theorem yY (key:ByteArray) {l:aR} (h:cW (iP l)):cW (iP (gz l key)):=List.Pairwise.sublist (List.Sublist.map _ List.filter_sublist) h
theorem yB {α:Type} (key:α→ByteArray) {e:α}:∀ {l:List α},cW (l.map key)→(∀ g ∈ l,key g≠key e)→cW ((l.takeWhile (fun x=>mo (key x) (key e)||seq (key x) (key e))++e::l.dropWhile (fun x=>mo (key x) (key e)||seq (key x) (key e))).map key)
 | [],_,_=>List.pairwise_singleton ..
 | g::l,h,hn=>by
  have h':=h
  unfold cW at h'
  rw [List.map_cons,List.pairwise_cons] at h'
  have ih:=yB key (e:=e) (l:=l) h'.2 fun x hx=>hn x (lL _ hx)
  rw [List.takeWhile_cons,List.dropWhile_cons]
  have hne:=hn g jd
  cases c:(mo (key g) (key e)||seq (key g) (key e)) with
  | true =>
   rw [if_pos rfl,if_pos rfl]
   unfold cW at ih ⊢
   rw [List.cons_append,List.map_cons,List.pairwise_cons]
   refine ⟨fun x hx=>?_,ih⟩
   have hge:mo (key g) (key e)=true:=by
    rw [kP hne,Bool.or_false] at c
    exact c
   obtain ⟨y,hy,rfl⟩:=List.mem_map.1 hx
   rcases List.mem_append.1 hy with w | w
   · exact h'.1 (key y) (List.mem_map.2 ⟨y,List.takeWhile_subset _ w,rfl⟩)
   · rcases List.mem_cons.1 w with w | w
     · rw [w];exact hge
     · exact h'.1 (key y) (List.mem_map.2 ⟨y,List.dropWhile_subset _ w,rfl⟩)
  | false =>
   rw [if_neg (by decide),if_neg (by decide),List.nil_append]
   rw [kP hne,Bool.or_false] at c
   have hlt:mo (key e) (key g)=true:=by
    have:=li (key e) (key g)
    rw [kP (fun q=>hne q.symm),c] at this
    simpa using this
   unfold cW
   rw [List.map_cons,List.pairwise_cons]
   refine ⟨fun x hx=>?_,h⟩
   obtain ⟨y,hy,rfl⟩:=List.mem_map.1 hx
   rcases List.mem_cons.1 hy with w | w
   · rw [w];exact hlt
   · exact oO hlt (h'.1 (key y) (List.mem_map.2 ⟨y,w,rfl⟩))
theorem Gq {e:Ty.d aB} {l:aR} (h:cW (iP l)) (hn:∀ g ∈ l,g.1≠e.1):cW (iP (qB l e)):=yB (fun x:Ty.d aB=>x.1) h hn
theorem Hv {l:aR} {key:ByteArray}:∀ g ∈ gz l key,g.1≠key:=fun g hg q=>by
 unfold gz at hg
 rw [List.mem_filter] at hg
 have:=hg.2
 rw [q,bV] at this
 cases this
theorem Fq {d:aR} (p:Ty.d aC) (h:cW (iP d)):cW (iP (fJ d p)):=by
 unfold fJ
 cases p.2.2.2.1.1==2 with
 | true=>exact yY _ h
 | false=>exact Gq (yY _ h) Hv
theorem p9:∀ (ps:aW) {d:aR},cW (iP d)→cW (iP (bN d ps))
 | [],_,h=>h
 | p::ps,d,h=>p9 ps (d:=fJ d p) (Fq p h)
end Go.Proofs.YtnpijgnfpdcjbaaGreatDoor.G

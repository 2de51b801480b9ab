/- Plain laws, merged; what is proved here is told ahead of each part. -/
import Derived.Test.YthjppgafienaoaaGreatDoorZN1
set_option linter.unusedVariables false
set_option linter.unusedSimpArgs false
namespace Go.Proofs.YthjppgafienaoaaGreatDoor.G
open Go.V
def qD (p:Option (Ty.d a_)) (x:Ty.d a_):Bool :=
 gF x.1&&(decide ((1:Int)≤x.2.1∧x.2.1≤100000)&&(!decide (x.2.2.1<(0:Int))&&(decide ((1:Int)≤x.2.2.2.1∧x.2.2.2.1≤210)&&(decide ((1:Int)≤x.2.2.2.2.1∧x.2.2.2.2.1≤1000000)&&(match p with | none=>true | some y=>oG y.1 x.1)))))
def pq (l:aS):Bool:=decide ((l.length:Int)≤20)&&p8 qD none l
theorem yB {k:Nat} (hk:2 ^ 50≤k) (l:aS):fE.f k l=some (pq l,()):=by
 unfold fE.f fE.t pq
 by_cases c:l.length > 20
 · rw [aO (by omega),ac,aQ (by omega),Bool.false_and]
 · rw [aQ (by omega),aK,aO (by omega),Bool.true_and]
   refine (qT (L:=fun n i=>fE.l0 k n l i) (Ty.z a_) l qD (some (true,())) (some (false,())) (fun n=>?_) (fun n x h hx=>?_) (fun n i x y h0 h1 hx hy=>?_) (n:=k) (by omega)).trans (by cases p8 qD none l <;> rfl)
   · simp (disch:=omega) only [fE.l0,fE.b0,aQ,aK]
   · simp (disch:=omega) only [fE.l0,fE.b0,aO (show (0:Int)<(l.length:Int) by omega),ac,aI,hx,jU k,eM k,aZ,aQ (show ¬ (0:Int) > 0 by omega),aK,aE,qD,gF]
     cases decide (1≤(x.1.size:Int)∧(x.1.size:Int)≤8) <;> cases decide ((1:Int)≤x.2.1∧x.2.1≤100000) <;> cases decide (x.2.2.1<(0:Int)) <;> cases decide ((1:Int)≤x.2.2.2.1∧x.2.2.2.1≤210) <;> cases decide ((1:Int)≤x.2.2.2.2.1∧x.2.2.2.2.1≤1000000) <;> rfl
   · simp (disch:=omega) only [fE.l0,fE.b0,aO h1,ac,aI,hx,hy,jU k,eM k,aZ,aO (show i > 0 by omega),aK,aE,qD,gF,nI]
     cases decide (1≤(x.1.size:Int)∧(x.1.size:Int)≤8) <;> cases decide ((1:Int)≤x.2.1∧x.2.1≤100000) <;> cases decide (x.2.2.1<(0:Int)) <;> cases decide ((1:Int)≤x.2.2.2.1∧x.2.2.2.1≤210) <;> cases decide ((1:Int)≤x.2.2.2.2.1∧x.2.2.2.2.1≤1000000) <;> cases oG y.1 x.1 <;> rfl
theorem FT {k:Nat} (hk:2 ^ 50≤k) {l:aS} (hl:l.length≤1099511627776):fF.f k l=some (pq l,()):=by
 unfold fF.f fF.t pq
 refine (qT (L:=fun n i=>fF.l0 k n l l l.length i) (Ty.z a_) l qD (some (decide ((l.length:Int)≤20),())) (some (false,())) (fun n=>?_) (fun n x h hx=>?_) (fun n i x y h0 h1 hx hy=>?_) (n:=k) (by omega)).trans (by cases p8 qD none l <;> cases decide ((l.length:Int)≤20) <;> rfl)
 · simp (disch:=omega) only [fF.l0,fF.b0,aQ (show ¬ (l.length:Int)<(l.length:Int) by omega),aK]
 · simp (disch:=omega) only [fF.l0,fF.b0,aO (show (0:Int)<(l.length:Int) by omega),ac,aI,hx,kL k,mq k,aZ,aQ (show ¬ (0:Int) > 0 by omega),aK,aE,qD,gF]
   cases decide (1≤(x.1.size:Int)∧(x.1.size:Int)≤8) <;> cases decide ((1:Int)≤x.2.1∧x.2.1≤100000) <;> cases decide (x.2.2.1<(0:Int)) <;> cases decide ((1:Int)≤x.2.2.2.1∧x.2.2.2.1≤210) <;> cases decide ((1:Int)≤x.2.2.2.2.1∧x.2.2.2.2.1≤1000000) <;> rfl
 · simp (disch:=omega) only [fF.l0,fF.b0,aO h1,ac,aI,hx,hy,kL k,mq k,aZ,aO (show i > 0 by omega),aK,aE,qD,gF]
   cases decide (1≤(x.1.size:Int)∧(x.1.size:Int)≤8) <;> cases decide ((1:Int)≤x.2.1∧x.2.1≤100000) <;> cases decide (x.2.2.1<(0:Int)) <;> cases decide ((1:Int)≤x.2.2.2.1∧x.2.2.2.1≤210) <;> cases decide ((1:Int)≤x.2.2.2.2.1∧x.2.2.2.2.1≤1000000) <;> cases oG y.1 x.1 <;> rfl
def qs:aS→ByteArray→Option (Ty.d a_)
 | [],_=>none
 | e::l,s=>bif seq e.1 s then some e else qs l s
def MU:Ty.d a_:=(ByteArray.empty,(0,(0,(0,(0,())))))
def DT:Option (Ty.d a_)→Option (Ty.d a_ × Bool × Unit)
 | none=>some (MU,(false,()))
 | some e=>some (e,(true,()))
theorem pj {k:Nat} (hk:2 ^ 50≤k) {l:aS} (hl:l.length≤1099511627776) (s:ByteArray):fO.f k l s=DT (qs l s):=by
 unfold fO.f fO.t
 refine fa (L:=fun n i (_:Unit)=>fO.l0 k n l s i ByteArray.empty 0 0 0 0) (R:=fun r _=>DT (qs r s)) (Ty.z a_) l (fun _ _=>True) (fun n _ _=>?_) (fun n i _ x rest h0 h1 hx hr hp ih=>?_) (n:=k) (s:=()) (by omega) trivial
 · simp (disch:=omega) only [fO.l0,fO.b0,aQ,aK,qs]
   rfl
 · have ih:=ih () trivial
   simp (disch:=omega) only [fO.l0,fO.b0,aO h1,ac,aI,hx,aE,ih,qs]
   cases seq x.1 s <;> rfl
theorem tC {k:Nat} (hk:2 ^ 50≤k) {l:aS} (hl:l.length≤1099511627776) (s:ByteArray):fM.f k l s=DT (qs l s):=by
 unfold fM.f fM.t
 refine fa (L:=fun n i (_:Unit)=>fM.l0 k n s l l.length i ByteArray.empty 0 0 0 0) (R:=fun r _=>DT (qs r s)) (Ty.z a_) l (fun _ _=>True) (fun n _ _=>?_) (fun n i _ x rest h0 h1 hx hr hp ih=>?_) (n:=k) (s:=()) (by omega) trivial
 · simp (disch:=omega) only [fM.l0,fM.b0,aQ,aK,qs]
   rfl
 · have ih:=ih () trivial
   simp (disch:=omega) only [fM.l0,fM.b0,aO h1,ac,aI,hx,aE,ih,qs]
   cases seq x.1 s <;> rfl
def Lf:Ty.d yc:=(ByteArray.empty,(ByteArray.empty,(0,())))
noncomputable def eR (d:Ty.d aB) (e:Ty.d a_):Ty.d bA × Bool:=ft (ah d (aA aH e.2.1)).1 e.2.2.1 e.2.2.2.1
noncomputable def nN (l:aS) (d:Ty.d aB) (key:ByteArray):Ty.d yc × Int :=
 match qs l key with
 | none=>(Lf,8)
 | some e=>bif (eR d e).2&&(seq (eR d e).1.2.2.1 key&&(((eR d e).1.1==1)||((eR d e).1.1==4))) then ((key,((eR d e).1.2.2.2.1,((eR d e).1.2.1,()))),0) else (Lf,3)
theorem wa (i n:Int):ft ⟨#[]⟩ i n=(tv,false):=by
 unfold ft
 rw [if_neg]
 rintro ⟨h1,h2,h3,h4⟩
 have:((⟨#[]⟩:ByteArray).size:Int)=0:=rfl
 omega
theorem GX {d:Ty.d aB} {s:ByteArray} (h:(ah d s).2=false):(ah d s).1=⟨#[]⟩:=by
 unfold ah at h ⊢
 generalize iL d=b at h ⊢
 generalize bw d.1 s=o at h ⊢
 cases b <;> cases o <;> first | rfl | cases h
theorem HK {d:Ty.d aB} {e:Ty.d a_} (h:(eR d e).2=true):(ah d (aA aH e.2.1)).2=true:=by
 cases c:(ah d (aA aH e.2.1)).2 with
 | true=>rfl
 | false =>
  unfold eR at h
  rw [GX c,wa] at h
  cases h
theorem tu {k:Nat} (hk:2 ^ 50≤k) {st:Ty.d aF} {d:Ty.d aB} (hd:An d) (hl:st.2.1.length≤1099511627776) (key:ByteArray):lm.f k st d key=some ((nN st.2.1 d key).1,((nN st.2.1 d key).2,())):=by
 have:=hd.l;have:=hd.u;have:=hd.n
 unfold lm.f lm.t nN
 rw [pj hk hl]
 cases qs st.2.1 key with
 | none=>rfl
 | some e =>
  unfold DT
  have hz:=iM d (aA aH e.2.1)
  simp only [aZ,fC,aK,bd hk]
  rw [iA hk (by omega) (by omega) (by omega),aZ]
  simp only []
  rw [ug hk _ _ (by omega),aZ]
  change (bif !(ah d (aA aH e.2.1)).2 then _ else bif !(eR d e).2 then _ else bif !seq (eR d e).1.2.2.1 key then _ else bif !((eR d e).1.1==1) then bif !((eR d e).1.1==4) then _ else some ((key,((eR d e).1.2.2.2.1,((eR d e).1.2.1,()))),(0,())) else some ((key,((eR d e).1.2.2.2.1,((eR d e).1.2.1,()))),(0,())))=_
  cases c:(eR d e).2 with
  | false=>cases (ah d (aA aH e.2.1)).2 <;> rfl
  | true =>
   rw [HK c]
   cases seq (eR d e).1.2.2.1 key <;> cases ((eR d e).1.1==1) <;> cases ((eR d e).1.1==4) <;> rfl
theorem G3 {k:Nat} (hk:2 ^ 50≤k) {st:Ty.d aF} {d:Ty.d aB} (hd:An d) (hl:st.2.1.length≤1099511627776) (key:ByteArray):lx.f k st d key=some ((nN st.2.1 d key).1,((nN st.2.1 d key).2,())):=by
 have:=hd.l;have:=hd.u;have:=hd.n
 unfold lx.f lx.t nN
 rw [tC hk hl]
 cases qs st.2.1 key with
 | none=>rfl
 | some e =>
  unfold DT
  have hz:=iM d (aA aH e.2.1)
  simp only [aZ,fC,aK,oz k]
  rw [sL hk (by omega) (by omega) (by omega),aZ]
  simp only []
  rw [uJ hk _ _ (by omega),aZ]
  change (bif !(eR d e).2 then _ else bif !((eR d e).1.1==1) then bif !((eR d e).1.1==4) then _ else bif !seq (eR d e).1.2.2.1 key then _ else some (((eR d e).1.2.2.1,((eR d e).1.2.2.2.1,((eR d e).1.2.1,()))),(0,())) else bif !seq (eR d e).1.2.2.1 key then _ else some (((eR d e).1.2.2.1,((eR d e).1.2.2.2.1,((eR d e).1.2.1,()))),(0,())))=_
  cases c:(eR d e).2 with
  | false=>rfl
  | true =>
   cases q:seq (eR d e).1.2.2.1 key with
   | false=>cases ((eR d e).1.1==1) <;> cases ((eR d e).1.1==4) <;> rfl
   | true =>
    rw [dS.1 q]
    cases ((eR d e).1.1==1) <;> cases ((eR d e).1.1==4) <;> rfl
noncomputable def rh (l:aS) (d:Ty.d aB):List ByteArray→kw→kw × Int
 | [],acc=>(acc,0)
 | key::r,acc=>bif (nN l d key).2 != 0 then ([],(nN l d key).2) else rh l d r (acc++[(nN l d key).1])
noncomputable def kB (l:aS) (d:Ty.d aB):kw × Int:=rh l d (l.map (·.1)) []
theorem B6 (l:aS) (d:Ty.d aB):∀ (r:List ByteArray) (acc:kw),(rh l d r acc).1.length≤acc.length+r.length
 | [],acc=>Nat.le_refl _
 | key::r,acc=>by
  unfold rh
  cases (nN l d key).2 != 0 with
  | true=>exact Nat.zero_le _
  | false =>
   have:=B6 l d r (acc++[(nN l d key).1])
   rw [d_] at this
   rw [aK,mB]
   omega
theorem sP (l:aS) (d:Ty.d aB):(kB l d).1.length≤l.length:=by
 have:=B6 l d (l.map (·.1)) []
 rw [List.length_map,List.length_nil] at this
 unfold kB
 omega
theorem Co {k:Nat} (hk:2 ^ 50≤k) {st:Ty.d aF} {d:Ty.d aB} (hd:An d) (hl:st.2.1.length≤1099511627775):iu.f k st d=some ((kB st.2.1 d).1,((kB st.2.1 d).2,())):=by
 unfold iu.f iu.t kB
 refine fa (L:=fun n i s=>iu.l0 k n i st.1.1 st.1.2.1 st.2.1 st.2.2.1 st.2.2.2.1 st.2.2.2.2.1 d.1 d.2.1 d.2.2.1 d.2.2.2.1 s) (R:=fun r s=>some ((rh st.2.1 d (r.map (·.1)) s).1,((rh st.2.1 d (r.map (·.1)) s).2,()))) (Ty.z a_) st.2.1 (fun i s=>(s.length:Int)=i) (fun n s hs=>?_) (fun n i s x rest h0 h1 hx hr hp ih=>?_) (n:=k) (s:=[]) (by omega) rfl
 · simp (disch:=omega) only [iu.l0,iu.b0,aQ,aK,List.map_nil,rh]
 · have hg:=tu hk (st:=st) (d:=d) hd (by omega) x.1
   have ih:=ih (s++[(nN st.2.1 d x.1).1]) (by rw [d_];omega)
   simp (disch:=first | omega | decide) only [iu.l0,iu.b0,aO h1,ac,aI,hx,hg,aZ,cO,aE,ih,List.map_cons,rh]
   cases (nN st.2.1 d x.1).2 != 0 <;> rfl
theorem EF {k:Nat} (hk:2 ^ 50≤k) {l:aS} (hl:l.length≤1099511627775):dq.f k l=some (l.map (·.1),()):=by
 unfold dq.f dq.t
 refine fa (L:=fun n i s=>dq.l0 k n l l.length i s) (R:=fun r s=>some (s++r.map (·.1),())) (Ty.z a_) l (fun i s=>(s.length:Int)=i) (fun n s hs=>?_) (fun n i s x rest h0 h1 hx hr hp ih=>?_) (n:=k) (s:=[]) (by omega) rfl
 · simp (disch:=omega) only [dq.l0,dq.b0,aQ,aK,List.map_nil,List.append_nil]
 · have ih:=ih (s++[x.1]) (by rw [d_];omega)
   simp (disch:=first | omega | decide) only [dq.l0,dq.b0,aO h1,ac,aI,hx,cO,aE,ih,List.map_cons]
   rw [rP]
   rfl
noncomputable def EN (d:Ty.d aB) (tail:Int) (x:Int) (last:Bool):Bool :=
 (ah d (aA aH x)).2&&(decide ((bP (ah d (aA aH x)).1).2=((ah d (aA aH x)).1.size:Int))&&(!last||(tail==((ah d (aA aH x)).1.size:Int))))
noncomputable def nJ (d:Ty.d aB) (tail:Int):List Int→Bool
 | []=>true
 | x::l=>EN d tail x l.isEmpty&&nJ d tail l
noncomputable def o8 (d:Ty.d aB) (next:Int) (e:Ty.d a_):Bool :=
 (eR d e).2&&(seq (eR d e).1.2.2.1 e.1&&(((eR d e).1.2.1==e.2.2.2.2.1)&&((((eR d e).1.1==1)||((eR d e).1.1==4))&&!decide (e.2.2.2.2.1≥next))))
noncomputable def eN (st:Ty.d aF) (d:Ty.d aB):Bool :=
 iL d&&(dL st.1&&(pq st.2.1&&(decide ((1:Int)≤st.2.2.1∧st.2.2.1≤1000001)&&(nJ d st.2.2.2.1 st.1.2.1&&st.2.1.all (o8 d st.2.2.1)))))
theorem Dh {α:Type} {l:List α} {i:Int} {x:α} {rest:List α} (h0:0≤i) (h:l.drop i.toNat=x::rest):rest.isEmpty=decide (i+1=(l.length:Int)):=by
 have:=congrArg List.length h
 rw [List.length_drop,mB] at this
 cases rest with
 | nil=>rw [aO (by rw [List.length_nil] at this;omega)];rfl
 | cons y r=>rw [aQ (by rw [mB] at this;omega)];rfl
theorem vH {k:Nat} (hk:2 ^ 50≤k) {st:Ty.d aF} {d:Ty.d aB} (hd:An d):cR.f k st d=some (eN st d,()):=by
 have:=hd.l;have:=hd.u;have:=hd.n
 unfold cR.f cR.t eN
 rw [il hk (by omega) (by omega),aZ]
 cases iL d with
 | false=>rfl
 | true =>
  rw [fC,aK,sK hk,aZ,Bool.true_and]
  cases cl:dL st.1 with
  | false=>rfl
  | true =>
   rw [fC,aK,yB hk,aZ,Bool.true_and]
   cases cd:pq st.2.1 with
   | false=>rfl
   | true =>
    rw [fC,aK,eM,aZ,Bool.true_and]
    cases decide ((1:Int)≤st.2.2.1∧st.2.2.1≤1000001) with
    | false=>rfl
    | true =>
     rw [fC,aK,Bool.true_and]
     have hl:st.1.2.1.length≤60:=by
      unfold dL at cl
      rw [iI,iI,decide_eq_true_eq,decide_eq_true_eq] at cl
      omega
     have he:st.2.1.length≤20:=by
      unfold pq at cd
      rw [iI,decide_eq_true_eq] at cd
      omega
     have l1:cR.l1 k k 0 st.1.1 st.1.2.1 st.2.1 st.2.2.1 st.2.2.2.1 st.2.2.2.2.1 d.1 d.2.1 d.2.2.1 d.2.2.2.1=some (st.2.1.all (o8 d st.2.2.1),()):=by
      refine fa (L:=fun n i (_:Unit)=>cR.l1 k n i st.1.1 st.1.2.1 st.2.1 st.2.2.1 st.2.2.2.1 st.2.2.2.2.1 d.1 d.2.1 d.2.2.1 d.2.2.2.1) (R:=fun r _=>some (r.all (o8 d st.2.2.1),())) (Ty.z a_) st.2.1 (fun _ _=>True) (fun n _ _=>?_) (fun n i _ x rest h0 h1 hx hr hp ih=>?_) (n:=k) (s:=()) (by omega) trivial
      · simp (disch:=omega) only [cR.l1,cR.b1,aQ,aK,List.all_nil]
      · have ih:=ih () trivial
        have hz:=iM d (aA aH x.2.1)
        have ht:=iA hk (d:=d) (by omega) (by omega) (by omega) (aA aH x.2.1)
        have hr:=ug hk (s:=(ah d (aA aH x.2.1)).1) x.2.2.1 x.2.2.2.1 (by omega)
        simp (disch:=omega) only [cR.l1,cR.b1,aO h1,ac,aI,hx,bd hk,aZ,ht,hr,aE,ih,List.all_cons,o8,eR,bne]
        cases (ft (ah d (aA aH x.2.1)).1 x.2.2.1 x.2.2.2.1).2 <;> cases seq (ft (ah d (aA aH x.2.1)).1 x.2.2.1 x.2.2.2.1).1.2.2.1 x.1 <;> cases ((ft (ah d (aA aH x.2.1)).1 x.2.2.1 x.2.2.2.1).1.2.1==x.2.2.2.2.1) <;>
         cases ((ft (ah d (aA aH x.2.1)).1 x.2.2.1 x.2.2.2.1).1.1==1) <;> cases ((ft (ah d (aA aH x.2.1)).1 x.2.2.1 x.2.2.2.1).1.1==4) <;> cases decide (x.2.2.2.2.1≥st.2.2.1) <;> rfl
     refine (fa (L:=fun n i (_:Unit)=>cR.l0 k n i st.1.1 st.1.2.1 st.2.1 st.2.2.1 st.2.2.2.1 st.2.2.2.2.1 d.1 d.2.1 d.2.2.1 d.2.2.2.1) (R:=fun r _=>some (nJ d st.2.2.2.1 r&&st.2.1.all (o8 d st.2.2.1),())) (Ty.z (.int .i64)) st.1.2.1 (fun _ _=>True) (fun n _ _=>?_) (fun n i _ x rest h0 h1 hx hr hp ih=>?_) (n:=k) (s:=()) (by omega) trivial)
     · simp (disch:=omega) only [cR.l0,cR.b0,aQ,aK,nJ,l1,Bool.true_and]
     · have ih:=ih () trivial
       have hz:=iM d (aA aH x)
       have ht:=iA hk (d:=d) (by omega) (by omega) (by omega) (aA aH x)
       have hs:=o7 hk (s:=(ah d (aA aH x)).1) (by omega)
       have hle:=(kp (ah d (aA aH x)).1).2.2
       have hlast:=Dh h0 hr
       simp (disch:=omega) only [cR.l0,cR.b0,aO h1,ac,aI,hx,bd hk,aZ,ht,hs,aE,ih,nJ,EN,bne,hlast]
       rw [show ((i+1:Int)==(st.1.2.1.length:Int))=decide (i+1=(st.1.2.1.length:Int)) from rfl]
       cases (ah d (aA aH x)).2 with
       | false=>rfl
       | true =>
        by_cases q:(bP (ah d (aA aH x)).1).2=((ah d (aA aH x)).1.size:Int)
        · rw [aO q,aQ (by omega)]
          cases decide (i+1=(st.1.2.1.length:Int)) <;> cases (st.2.2.2.1==((ah d (aA aH x)).1.size:Int)) <;> rfl
        · rw [aQ q,aO (by omega)]
          rfl
theorem Bt {k:Nat} (hk:2 ^ 50≤k) {st:Ty.d aF} {d:Ty.d aB} (hd:An d) (hv:st.1.2.1.length≤1099511627776) (hw:st.2.1.length≤1099511627776):cQ.f k st d=some (eN st d,()):=by
 have:=hd.l;have:=hd.u;have:=hd.n
 unfold cQ.f cQ.t eN
 rw [wC hk (by omega) (by omega),aZ]
 cases iL d with
 | false=>rfl
 | true =>
  rw [fC,aK,ED hk hv,aZ,Bool.true_and]
  cases cl:dL st.1 with
  | false=>rfl
  | true =>
   rw [fC,aK,FT hk hw,aZ,Bool.true_and]
   cases cd:pq st.2.1 with
   | false=>rfl
   | true =>
    rw [fC,aK,mq,aZ,Bool.true_and]
    cases decide ((1:Int)≤st.2.2.1∧st.2.2.1≤1000001) with
    | false=>rfl
    | true =>
     rw [fC,aK,Bool.true_and]
     have hl:st.1.2.1.length≤60:=by
      unfold dL at cl
      rw [iI,iI,decide_eq_true_eq,decide_eq_true_eq] at cl
      omega
     have he:st.2.1.length≤20:=by
      unfold pq at cd
      rw [iI,decide_eq_true_eq] at cd
      omega
     have l1:cQ.l1 k k st.2.1 st.2.1.length 0 st.1.1 st.1.2.1 st.2.1 st.2.2.1 st.2.2.2.1 st.2.2.2.2.1 d.1 d.2.1 d.2.2.1 d.2.2.2.1=some (st.2.1.all (o8 d st.2.2.1),()):=by
      refine fa (L:=fun n i (_:Unit)=>cQ.l1 k n st.2.1 st.2.1.length i st.1.1 st.1.2.1 st.2.1 st.2.2.1 st.2.2.2.1 st.2.2.2.2.1 d.1 d.2.1 d.2.2.1 d.2.2.2.1) (R:=fun r _=>some (r.all (o8 d st.2.2.1),())) (Ty.z a_) st.2.1 (fun _ _=>True) (fun n _ _=>?_) (fun n i _ x rest h0 h1 hx hr hp ih=>?_) (n:=k) (s:=()) (by omega) trivial
      · simp (disch:=omega) only [cQ.l1,cQ.b1,aQ,aK,List.all_nil]
      · have ih:=ih () trivial
        have hz:=iM d (aA aH x.2.1)
        have ht:=sL hk (d:=d) (by omega) (by omega) (by omega) (aA aH x.2.1)
        have hr:=uJ hk (s:=(ah d (aA aH x.2.1)).1) x.2.2.1 x.2.2.2.1 (by omega)
        simp (disch:=omega) only [cQ.l1,cQ.b1,aO h1,ac,aI,hx,oz k,aZ,ht,hr,aE,ih,List.all_cons,o8,eR,bne]
        cases (ft (ah d (aA aH x.2.1)).1 x.2.2.1 x.2.2.2.1).2 <;> cases seq (ft (ah d (aA aH x.2.1)).1 x.2.2.1 x.2.2.2.1).1.2.2.1 x.1 <;> cases ((ft (ah d (aA aH x.2.1)).1 x.2.2.1 x.2.2.2.1).1.2.1==x.2.2.2.2.1) <;>
         cases ((ft (ah d (aA aH x.2.1)).1 x.2.2.1 x.2.2.2.1).1.1==1) <;> cases ((ft (ah d (aA aH x.2.1)).1 x.2.2.1 x.2.2.2.1).1.1==4) <;> cases decide (x.2.2.2.2.1≥st.2.2.1) <;> rfl
     refine (fa (L:=fun n i (_:Unit)=>cQ.l0 k n st.1.2.1 st.1.2.1.length i st.1.1 st.1.2.1 st.2.1 st.2.2.1 st.2.2.2.1 st.2.2.2.2.1 d.1 d.2.1 d.2.2.1 d.2.2.2.1) (R:=fun r _=>some (nJ d st.2.2.2.1 r&&st.2.1.all (o8 d st.2.2.1),())) (Ty.z (.int .i64)) st.1.2.1 (fun _ _=>True) (fun n _ _=>?_) (fun n i _ x rest h0 h1 hx hr hp ih=>?_) (n:=k) (s:=()) (by omega) trivial)
     · simp (disch:=omega) only [cQ.l0,cQ.b0,aQ,aK,nJ,l1,Bool.true_and]
     · have ih:=ih () trivial
       have hz:=iM d (aA aH x)
       have ht:=sL hk (d:=d) (by omega) (by omega) (by omega) (aA aH x)
       have hs:=EO hk (s:=(ah d (aA aH x)).1) (by omega)
       have hlast:=Dh h0 hr
       simp (disch:=omega) only [cQ.l0,cQ.b0,aO h1,ac,aI,hx,oz k,aZ,ht,hs,aE,ih,nJ,EN,bne,hlast]
       rw [show (i==(st.1.2.1.length:Int)-1)=decide (i+1=(st.1.2.1.length:Int)) from (show decide (i=(st.1.2.1.length:Int)-1)=_ from decide_eq_decide.2 (by omega))]
       cases (ah d (aA aH x)).2 with
       | false=>rfl
       | true =>
        by_cases q:(bP (ah d (aA aH x)).1).2=((ah d (aA aH x)).1.size:Int)
        · rw [aO q,show ((bP (ah d (aA aH x)).1).2==((ah d (aA aH x)).1.size:Int))=true from beq_iff_eq.2 q,q]
          cases decide (i+1=(st.1.2.1.length:Int)) <;> cases (st.2.2.2.1==((ah d (aA aH x)).1.size:Int)) <;> rfl
        · rw [aQ q,show ((bP (ah d (aA aH x)).1).2==((ah d (aA aH x)).1.size:Int))=false from mT q]
          rfl
theorem DC (s:ByteArray):ByteArray.extract s s.size s.size=⟨#[]⟩:=lA (by rw [iR,List.drop_eq_nil_of_le (by rw [cp];omega)];rfl)
theorem Ht (s:ByteArray):∀ (d d':Nat) (i:Int),0≤i→i≤s.size→(s.size:Int)-i<d→(gC s d i).2-i<d'→gC (ByteArray.extract s 0 (gC s d i).2.toNat) d' i=gC s d i:=by
 intro d
 induction d with
 | zero=>intro d' i h0 h1 h2;omega
 | succ d ih =>
  intro d' i h0 h1 h2 h3
  have hu:=nF (ByteArray.extract s i.toNat s.size)
  have hz:=qG s i.toNat
  have stop:∀ d':Nat,0<d'→gC (ByteArray.extract s 0 i.toNat) d' i=([],i):=fun d' hd=>by
   obtain ⟨n,rfl⟩:∃ q,d'=q+1:=⟨d'-1,by omega⟩
   have hs:(ByteArray.extract s 0 i.toNat).size=i.toNat:=sn s (by omega)
   have e:ByteArray.extract (ByteArray.extract s 0 i.toNat) i.toNat (ByteArray.extract s 0 i.toNat).size=⟨#[]⟩:=by
    have:=DC (ByteArray.extract s 0 i.toNat)
    rw [hs] at this ⊢
    exact this
   rw [gC,e,xM,if_pos rfl]
  by_cases c1:(gS (ByteArray.extract s i.toNat s.size)).2=0
  · have e:gC s (d+1) i=([],i):=by rw [gC,if_pos c1]
    rw [e] at h3 ⊢
    exact stop d' (by simp only [] at h3;omega)
  · cases c2:(gp (gS (ByteArray.extract s i.toNat s.size)).1).2 with
    | false =>
     have e:gC s (d+1) i=([],i):=by rw [gC,if_neg c1,if_pos c2]
     rw [e] at h3 ⊢
     exact stop d' (by simp only [] at h3;omega)
    | true =>
     have e:gC s (d+1) i=(((i,((gS (ByteArray.extract s i.toNat s.size)).2,((gp (gS (ByteArray.extract s i.toNat s.size)).1).1,()))):Ty.d bK)::(gC s d (i+(gS (ByteArray.extract s i.toNat s.size)).2)).1,(gC s d (i+(gS (ByteArray.extract s i.toNat s.size)).2)).2):=by
      rw [gC,if_neg c1,if_neg (by rw [c2];decide)]
     rw [e] at h3 ⊢
     simp only [] at h3 ⊢
     have hl:=vX s d (i+(gS (ByteArray.extract s i.toNat s.size)).2) (by omega) (by omega)
     obtain ⟨n,rfl⟩:∃ q,d'=q+1:=⟨d'-1,by omega⟩
     have ih:=ih n (i+(gS (ByteArray.extract s i.toNat s.size)).2) (by omega) (by omega) (by omega) (by omega)
     have key:gS (ByteArray.extract (ByteArray.extract s 0 (gC s d (i+(gS (ByteArray.extract s i.toNat s.size)).2)).2.toNat) i.toNat (ByteArray.extract s 0 (gC s d (i+(gS (ByteArray.extract s i.toNat s.size)).2)).2.toNat).size)=gS (ByteArray.extract s i.toNat s.size):=by
      generalize (gC s d (i+(gS (ByteArray.extract s i.toNat s.size)).2)).2=x at hl ⊢
      rcases oM (ByteArray.extract s i.toNat s.size) with ⟨t,r,ht,e1,e2⟩ | ⟨e2,_⟩
      · rw [e2] at hl ⊢
        simp only [] at hl
        have e3:ByteArray.extract (ByteArray.extract s 0 x.toNat) i.toNat (ByteArray.extract s 0 x.toNat).size=aP t++ByteArray.extract r 0 (x.toNat-i.toNat-(aP t).size):=by
         apply lA
         have hnb:=congrArg nb e1
         rw [iR,iF] at hnb
         rw [iR,mI,iF,mI,List.drop_take,hnb,List.take_append,cp,List.take_of_length_le (by rw [cp];omega)]
        rw [e3,oO _ ht]
      · exact absurd (by rw [e2]) c1
     rw [gC,key,if_neg c1,if_neg (by rw [c2];decide),ih]
theorem BC (s:ByteArray):bP (ByteArray.extract s 0 (bP s).2.toNat)=bP s:=by
 have hl:=kp s
 have:=Ht s (s.size+1) ((bP s).2.toNat+1) 0 (by omega) (by omega) (by omega) (by show (bP s).2-0<_;omega)
 have hz:=sn s (n:=(bP s).2.toNat) (by omega)
 unfold bP at hz ⊢
 rw [hz]
 exact this
theorem sa {h:Ty.d aD→Ty.d aD} (hh:∀ f,(h f).1=f.1):∀ (l:c8) (s t:ByteArray),bw (mz h l s) t=bif seq t s then (bw l s).map h else bw l t
 | [],s,t=>by cases seq t s <;> rfl
 | g::l,s,t=>by
  unfold mz
  cases c:seq g.1 s with
  | true =>
   have e:=dS.1 c
   rw [ac,bw.eq_2,hh,bw.eq_2,c,ac]
   by_cases q:t=s
   · rw [e,q,bO];rfl
   · rw [ky q,aK,bw.eq_2]
     rw [e,ky (fun w=>q w.symm)]
     rfl
  | false =>
   rw [aK,bw.eq_2,bw.eq_2,c,aK,sa hh l s t,bw.eq_2]
   by_cases q:t=s
   · rw [q,bO,c];rfl
   · rw [ky q];rfl
theorem qI {d:Ty.d aB} {g:c8→Int→c8 × Int} (h:(jk d g).2=0):(g d.1 d.2.1).2=0∧(jk d g).1.1=(g d.1 d.2.1).1:=by
 unfold jk at h ⊢
 cases c:(kM d).2 != 0 with
 | true =>
  rw [c,ac] at h
  rw [h] at c
  cases c
 | false=>rw [c] at h;exact ⟨h,rfl⟩
theorem mE {d:Ty.d aB} (h:DR d) (s:ByteArray):ah d s=match bw d.1 s with | none=>(⟨#[]⟩,false) | some f=>(f.2.1,true):=by
 unfold ah
 rw [jR.2 h]
 rfl
theorem s7 {d:Ty.d aB} (h:DR d) {n:ByteArray} (c:(gT d n).2=0) (s:ByteArray):ah (gT d n).1 s=ah d s:=by
 obtain ⟨c1,c2⟩:=qI c
 rw [mE (nP h n),mE h]
 unfold gT
 rw [c2]
 unfold wx at c1 ⊢
 cases hg:(bw d.1 n).isNone with
 | true=>rfl
 | false =>
  rw [aK]
  show (match bw (mz _ d.1 n) s with | none=>_ | some f=>_)=_
  rw [sa (by intro f;rfl)]
  by_cases q:s=n
  · rw [q,bO,ac]
    cases bw d.1 n <;> rfl
  · rw [ky q,aK]
theorem yJ {d:Ty.d aB} (h:DR d) {n:ByteArray} {m:Int} (c:(xe d n m).2=0) (s:ByteArray):ah (xe d n m).1 s=bif seq s n then (ByteArray.extract (ah d n).1 0 m.toNat,true) else ah d s:=by
 obtain ⟨c1,c2⟩:=qI c
 rw [mE (zL h n m),mE h,mE h]
 unfold xe
 rw [c2]
 unfold I2 at c1 ⊢
 cases hg:bw d.1 n with
 | none=>rw [hg] at c1;cases c1
 | some f =>
  rw [hg] at c1
  simp only [] at c1 ⊢
  cases hm:decide (0≤m∧m≤(f.2.1.size:Int)) with
  | false=>rw [hm] at c1;cases c1
  | true =>
   simp only [fC,aK]
   rw [sa (by intro f;rfl)]
   by_cases q:s=n
   · rw [q,bO,ac,hg];rfl
   · rw [ky q,aK,aK]
theorem k6 {r:RD} {f:Ty.d aB→RD} (h:(hF r f).2=0):r.2=0∧hF r f=f r.1∧(f r.1).2=0:=by
 unfold hF at h ⊢
 cases c:r.2==0 with
 | true=>rw [c] at h;exact ⟨Jq c,rfl,h⟩
 | false =>
  rw [c] at h
  rw [aK] at h
  rw [h] at c
  cases c
noncomputable def fL (d:Ty.d aB) (x:Int):ByteArray:=(ah d (aA aH x)).1
def af (ids:List Int):Int:=ids.getD (ids.length-1) 0
noncomputable def fw (x:Int) (d:Ty.d aB):RD :=
 hF (bif decide ((bP (fL d x)).2<((fL d x).size:Int)) then xe d (aA aH x) (bP (fL d x)).2 else (d,0)) fun y=>gT y (aA aH x)
theorem JP (x:Int) {d:Ty.d aB} (h:DR d):DR (fw x d).1:=by
 unfold fw
 refine jm ?_ fun y hy=>nP hy _
 cases decide ((bP (fL d x)).2<((fL d x).size:Int))
 · exact h
 · exact zL h _ _
theorem K3 {d:Ty.d aB} (h:DR d) {x:Int} (c:(fw x d).2=0) (s:ByteArray):(ah (fw x d).1 s).2=(ah d s).2∧bP (ah (fw x d).1 s).1=bP (ah d s).1:=by
 obtain ⟨c1,c2,c3⟩:=k6 c
 have e:fw x d=_:=c2
 rw [e]
 by_cases hb:(bP (fL d x)).2<((fL d x).size:Int)
 · simp only [aO hb,ac] at c1 c3 ⊢
   rw [s7 (zL h _ _) c3,yJ h c1]
   by_cases q:s=aA aH x
   · rw [q,bO,ac]
     refine ⟨?_,BC (fL d x)⟩
     cases hq:(ah d (aA aH x)).2 with
     | true=>rfl
     | false =>
      exfalso
      unfold fL at hb
      have hl:=kp (ah d (aA aH x)).1
      rw [GX hq] at hb hl
      rw [e0] at hb
      omega
   · rw [ky q];exact ⟨rfl,rfl⟩
 · simp only [aQ hb,aK] at c1 c3 ⊢
   rw [s7 h c3]
   exact ⟨rfl,rfl⟩
theorem Gd {pre rest:ByteArray} {r:Ty.d bA} (h:cF r=true) (d:Nat) :
 gC (pre++(aP (aJ r)++rest)) (d+1) (pre.size:Int)=(((pre.size:Int),(((aP (aJ r)).size:Int),(r,())))::(gC (pre++(aP (aJ r)++rest)) d ((pre.size+(aP (aJ r)).size:Nat):Int)).1,(gC (pre++(aP (aJ r)++rest)) d ((pre.size+(aP (aJ r)).size:Nat):Int)).2):=by
 have hz:=lb r
 have hp:=lL (s:=aJ r) (by omega)
 rw [gC,rH,eO,oO rest (by omega)]
 simp only []
 rw [uR h,if_neg (by omega)]
 simp only []
 rw [if_neg (show ¬ ((true:Bool)=false) by decide)]
 rfl
theorem wQ:∀ (rs:jt) (pre:ByteArray) (d:Nat),(∀ r ∈ rs,cF r=true)→(ab rs).size<d→(gC (pre++ab rs) d (pre.size:Int)).1.map (·.2.2.1)=rs∧(gC (pre++ab rs) d (pre.size:Int)).2=((pre++ab rs).size:Int)
 | [],pre,d,_,hd=>by
  obtain ⟨d,rfl⟩:∃ q,d=q+1:=⟨d-1,by omega⟩
  have:gS (ByteArray.extract (pre++ab []) (Int.toNat (pre.size:Int)) (pre++ab []).size)=(⟨#[]⟩,0):=by
   rw [rH,eO,ab,xM]
  rw [gC,this,if_pos rfl,ab,aN,e0]
  exact ⟨rfl,rfl⟩
 | r::rs,pre,d,h,hd=>by
  rw [ab,aN] at hd
  have hz:=lb r
  have hp:=lL (s:=aJ r) (by omega)
  obtain ⟨d,rfl⟩:∃ q,d=q+1:=⟨d-1,by omega⟩
  have ih:=wQ rs (pre++aP (aJ r)) d (fun x hx=>h x (nX _ hx)) (by omega)
  rw [bF,aN pre] at ih
  rw [ab,Gd (h r (li ..))]
  simp only [List.map_cons]
  exact ⟨by rw [ih.1],ih.2⟩
theorem qi {rs:jt} (h:∀ r ∈ rs,cF r=true):(bP (ab rs)).1.map (·.2.2.1)=rs∧(bP (ab rs)).2=((ab rs).size:Int):=by
 have:=wQ rs ⟨#[]⟩ ((ab rs).size+1) h (by omega)
 rw [se,e0] at this
 exact this
abbrev gn:=List (Ty.d aY)
def jq (x:Ty.d aY):Bool:=gF x.1&&(decide ((x.2.2.1.size:Int)≤24)&&(!x.2.1||seq x.2.2.1 ⟨#[]⟩))
def fR (l:gn):Bool:=p8 (fun _=>jq) none l&&decide (l.length≤8)
theorem lw {k:Nat} (hk:2 ^ 50≤k) (l:gn):cG.f k l=some (fR l,()):=by
 unfold cG.f cG.t fR
 by_cases c:l.length > 8
 · rw [aO (by omega),ac,aQ (by omega),Bool.and_false]
 · rw [aQ (by omega),aK,aO (by omega),Bool.and_true]
   have st:∀ (n:Nat) (i:Int) x,0≤i→i<l.length→l.getD i.toNat (Ty.z aY)=x→cG.l0 k (n+1) l i=bif jq x then cG.l0 k n l (i+1) else some (false,()):=fun n i x h0 h1 hx=>by
    simp (disch:=omega) only [cG.l0,cG.b0,aO h1,ac,aI,hx,jU k,aZ,aE,jq,gF]
    by_cases c2:(x.2.2.1.size:Int) > 24
    · rw [aO c2,aQ (show ¬ (x.2.2.1.size:Int)≤24 by omega)]
      cases decide (1≤(x.1.size:Int)∧(x.1.size:Int)≤8) <;> rfl
    · rw [aQ c2,aO (show (x.2.2.1.size:Int)≤24 by omega)]
      cases decide (1≤(x.1.size:Int)∧(x.1.size:Int)≤8) <;> cases x.2.1 <;> cases seq x.2.2.1 ⟨#[]⟩ <;> rfl
   exact (qT (L:=fun n i=>cG.l0 k n l i) (Ty.z aY) l (fun _=>jq) (some (true,())) (some (false,())) (fun n=>by simp (disch:=omega) only [cG.l0,cG.b0,aQ,aK])
    (fun n x h hx=>st n 0 x (by omega) (by omega) hx) (fun n i x y h0 h1 hx hy=>st n i x (by omega) h1 hx) (n:=k) (by omega)).trans (by cases p8 (fun _=>jq) none l <;> rfl)
theorem A7 {k:Nat} (hk:2 ^ 50≤k) {l:gn} (hl:l.length≤1099511627776):fH.f k l=some (fR l,()):=by
 unfold fH.f fH.t fR
 have st:∀ (n:Nat) (i:Int) x,0≤i→i<l.length→l.getD i.toNat (Ty.z aY)=x→fH.l0 k (n+1) l l l.length i=bif jq x then fH.l0 k n l l l.length (i+1) else some (false,()):=fun n i x h0 h1 hx=>by
  have e:fg.f k x=some (jq x,()):=by
   unfold fg.f fg.t jq gF
   rw [kL,aZ]
   cases decide (1≤(x.1.size:Int)∧(x.1.size:Int)≤8) <;> cases decide ((x.2.2.1.size:Int)≤24) <;> cases x.2.1 <;> rfl
  simp (disch:=omega) only [fH.l0,fH.b0,aO h1,ac,aI,hx,e,aZ,aE]
  cases jq x <;> rfl
 exact (qT (L:=fun n i=>fH.l0 k n l l l.length i) (Ty.z aY) l (fun _=>jq) (some (decide ((l.length:Int)≤8),())) (some (false,())) (fun n=>by simp (disch:=omega) only [fH.l0,fH.b0,aQ,aK])
  (fun n x h hx=>st n 0 x (by omega) (by omega) hx) (fun n i x y h0 h1 hx hy=>st n i x (by omega) h1 hx) (n:=k) (by omega)).trans (by rw [show decide ((l.length:Int)≤8)=decide (l.length≤8) from decide_eq_decide.2 (by omega)];cases p8 (fun _=>jq) none l <;> rfl)
theorem oZ {l:gn} (h:fR l=true):l.length≤8:=by
 unfold fR at h
 rw [iI,decide_eq_true_eq] at h
 exact h.2
theorem u4 {l:gn} (h:fR l=true) {x:Ty.d aY} (hx:x ∈ l):jq x=true:=by
 unfold fR at h
 rw [iI] at h
 exact (Cf h.1 hx).elim fun _ q=>q
def gL (b:Int) (p:Ty.d aY):Ty.d bA:=bif p.2.1 then (2,(b,(p.1,(ByteArray.empty,(0,(0,())))))) else (1,(b,(p.1,(p.2.2.1,(0,(0,()))))))
def ja (l:gn) (b:Int):jt:=l.map (gL b)++[fk 3 b (l.map (gL b))]
def bE (r:Ty.d bA):Int:=((aP (aJ r)).size:Int)
theorem oP (r:Ty.d bA):0≤bE r∧bE r≤211:=by
 have:=mM (aJ r)
 unfold bE
 omega
theorem HY {x:Ty.d aY} (b:Int) (h:jq x=true):gL b x=bif x.2.1 then (2,(b,(x.1,(x.2.2.1,(0,(0,())))))) else (1,(b,(x.1,(x.2.2.1,(0,(0,())))))):=by
 unfold gL
 unfold jq at h
 rw [iI,iI] at h
 cases c:x.2.1 with
 | false=>rfl
 | true =>
  rw [c] at h
  have:x.2.2.1=⟨#[]⟩:=dS.1 h.2.2
  rw [this]
  rfl
def kV (l:aS) (key:ByteArray):aS:=l.filter fun x=>!(seq x.1 key)
def Lr (key:ByteArray) (x:Ty.d a_):Bool:=oG x.1 key||seq x.1 key
def ve (l:aS) (e:Ty.d a_):aS:=l.takeWhile (Lr e.1)++e::l.dropWhile (Lr e.1)
def uM (l:aS) (e:Ty.d a_):aS:=ve (kV l e.1) e
theorem sV (l:aS) (key:ByteArray):(kV l key).length≤l.length:=List.length_filter_le ..
theorem Ek (l:aS) (e:Ty.d a_):(ve l e).length=l.length+1:=by
 unfold ve
 rw [zT,mB]
 have:=congrArg List.length (List.takeWhile_append_dropWhile (p:=Lr e.1) (l:=l))
 rw [zT] at this
 omega
theorem J_ (l:aS) (e:Ty.d a_):(uM l e).length≤l.length+1:=by
 unfold uM
 have:=sV l e.1
 rw [Ek]
 omega
theorem tK {k:Nat} (hk:2 ^ 50≤k) {l:aS} (e:Ty.d a_) (hl:l.length≤1073741823):cH.f k l e=some (uM l e,()):=by
 unfold cH.f cH.t
 refine (fa (L:=fun n i (s:Bool × aS)=>cH.l0 k n l s.1 i e.1 e.2.1 e.2.2.1 e.2.2.2.1 e.2.2.2.2.1 s.2) (R:=fun r s=>some (s.2++bif s.1 then kV r e.1 else ve (kV r e.1) e,())) (Ty.z a_) l (fun i s=>(s.2.length:Int)≤2*i+1) (fun n s hs=>?_) (fun n i s x rest h0 h1 hx hr hp ih=>?_) (n:=k) (s:=(false,[])) (by omega) (by simp)).trans (by rw [List.nil_append];rfl)
 · obtain ⟨dn,out⟩:=s
   simp only [] at hs
   cases dn with
   | true=>simp (disch:=first | omega | decide) only [cH.l0,cH.b0,aQ,aK,ac,fC,kV,List.filter_nil,List.append_nil]
   | false=>simp (disch:=first | omega | decide) only [cH.l0,cH.b0,aQ,aK,ac,u6,cO,kV,List.filter_nil,ve,List.takeWhile_nil,List.dropWhile_nil,List.nil_append]
 · obtain ⟨dn,out⟩:=s
   simp only [] at hp
   cases c:seq x.1 e.1 with
   | true =>
    simp (disch:=omega) only [cH.l0,cH.b0,aO,ac,aI,hx,c,aE]
    refine (ih (dn,out) (by simp only [];omega)).trans ?_
    simp only [kV,List.filter_cons,c,fC,Bool.false_eq_true,if_false]
   | false =>
    have ef:kV (x::rest) e.1=x::kV rest e.1:=by simp only [kV,List.filter_cons,c,u6,if_true]
    cases dn with
    | true =>
     simp (disch:=first | omega | decide) only [cH.l0,cH.b0,aO,ac,aK,aI,hx,c,aE,fC,cO]
     refine (ih (true,out++[x]) (by simp only [d_];omega)).trans ?_
     rw [ef]
     simp only [ac,rP,List.cons_append,List.nil_append]
    | false =>
     cases c2:oG x.1 e.1 with
     | true =>
      simp (disch:=first | omega | decide) only [cH.l0,cH.b0,aO,ac,aK,aI,hx,c,c2,aE,u6,fC,Bool.true_or,cO]
      refine (ih (false,out++[x]) (by simp only [d_];omega)).trans ?_
      rw [ef]
      simp only [aK,ve,Lr,List.takeWhile_cons,List.dropWhile_cons,c2,Bool.true_or,if_true,rP,List.cons_append,List.nil_append]
     | false =>
      have hx2:(out++[(e.1,(e.2.1,(e.2.2.1,(e.2.2.2.1,(e.2.2.2.2.1,())))))]:aS).length+1≤1099511627776:=by rw [d_];omega
      simp (disch:=first | omega | decide) only [cH.l0,cH.b0,aO,ac,aK,aI,hx,c,c2,aE,u6,Bool.or_false,cO]
      refine (ih (true,(out++[e])++[x]) (by simp only [d_];omega)).trans ?_
      rw [ef]
      simp only [ac,aK,ve,Lr,List.takeWhile_cons,List.dropWhile_cons,c,c2,Bool.or_false,Bool.false_eq_true,if_false,rP,List.cons_append,List.nil_append]
abbrev ai:=List (Ty.d aC)
def fq (b:Int) (acc:ai) (p:Ty.d aC):ai :=
 bif p.2.2.2.1.2.1==b then (bif p.2.2.2.1.1==3 then [] else bif p.2.2.2.1.1==1||p.2.2.2.1.1==2 then acc++[p] else acc) else acc
def gY (acc:ai) (p:Ty.d aC):ai:=bif p.2.2.2.1.1==5 then [] else bif p.2.2.2.1.1==4 then acc++[p] else acc
def fX (b:Int) (l:ai):ai:=l.foldl (fq b) []
def cL (l:ai):ai:=l.foldl gY []
theorem u9 (b:Int) (acc:ai) (p:Ty.d aC):(fq b acc p).length≤acc.length+1:=by
 unfold fq
 cases p.2.2.2.1.2.1==b <;> cases p.2.2.2.1.1==3 <;> cases p.2.2.2.1.1==1 <;> cases p.2.2.2.1.1==2 <;> simp
theorem uf (acc:ai) (p:Ty.d aC):(gY acc p).length≤acc.length+1:=by
 unfold gY
 cases p.2.2.2.1.1==5 <;> cases p.2.2.2.1.1==4 <;> simp
theorem vT {f:ai→Ty.d aC→ai} (h:∀ a p,(f a p).length≤a.length+1):∀ (l acc:ai),(l.foldl f acc).length≤acc.length+l.length
 | [],acc=>by simp
 | p::l,acc=>by
  have:=vT h l (f acc p)
  have:=h acc p
  rw [List.foldl_cons,mB]
  omega
theorem wG (b:Int) (l:ai):(fX b l).length≤l.length:=by
 have:=vT (u9 b) l []
 simpa [fX] using this
theorem vu (l:ai):(cL l).length≤l.length:=by
 have:=vT uf l []
 simpa [cL] using this
theorem IA {k:Nat} (hk:2 ^ 50≤k) {l:ai} {e:Int} (b:Int) (h0:0≤e) (he:e≤l.length) (hl:l.length≤1099511627775):ip.f k l e b=some (fX b (l.take e.toNat),()):=by
 unfold ip.f ip.t
 have hlen:(l.take e.toNat).length=e.toNat:=by rw [List.length_take];omega
 have he':e=((l.take e.toNat).length:Int):=by omega
 conv=>lhs;rw [he']
 refine fa (L:=fun n i s=>ip.l0 k n l ((l.take e.toNat).length:Int) b i s) (R:=fun r s=>some (r.foldl (fq b) s,())) (Ty.z aC) (l.take e.toNat) (fun i s=>(s.length:Int)≤i) (fun n s hs=>?_) (fun n i s x rest h0 h1 hx hr hp ih=>?_) (n:=k) (s:=[]) (by omega) (by decide)
 · simp (disch:=omega) only [ip.l0,ip.b0,aQ,aK,List.foldl_nil]
 · rw [oQ (by omega)] at hx
   have ih:=fun s' (h:s'.length≤s.length+1)=>ih s' (by omega)
   simp (disch:=omega) only [ip.l0,ip.b0,aO h1,ac,aI,hx,aE]
   rw [List.foldl_cons]
   have hs1:=u9 b s x
   have ih1:=ih _ hs1
   rw [← ih1]
   unfold fq
   have r1:∀ {R:Type} (q:Option R),rm (Ty.bytes aC) (s.length+1) q=q:=fun q=>cO (by omega) (by decide)
   have r2:∀ {R:Type} (q:Option R),rm (Ty.bytes aC) (0+1) q=q:=fun q=>cO (by omega) (by decide)
   simp only [r1,r2]
   cases c1:(x.2.2.2.1.2.1==b) <;> cases c2:(x.2.2.2.1.1==3) <;> cases c3:(x.2.2.2.1.1==1) <;> cases c4:(x.2.2.2.1.1==2) <;> first | rfl | skip
   all_goals (exfalso;have e2:=eq_of_beq c2;first | (rw [e2] at c3;revert c3;decide) | (rw [e2] at c4;revert c4;decide))
def zN (p:Ty.d aC):Ty.d bA:=p.2.2.2.1
def ib (r:Ty.d bA) (own:ai):Bool:=(r.2.2.2.2.1==(own.length:Int))&&(r.2.2.2.2.2.1==zn (own.map zN))
theorem wP {k:Nat} (hk:2 ^ 50≤k) (r:Ty.d bA) {l:ai} (hl:l.length≤1073741823):jP.f k r l=some (ib r l,()):=by
 have e:gO.f k l=some (l.map zN,()):=by
  unfold gO.f gO.t
  refine (fa (L:=fun n i s=>gO.l0 k n l i s) (R:=fun q s=>some (s++q.map zN,())) (Ty.z aC) l (fun i s=>(s.length:Int)=i) (fun n s hs=>?_) (fun n i s x rest h0 h1 hx hr hp ih=>?_) (n:=k) (s:=[]) (by omega) (by decide)).trans (by rw [List.nil_append])
  · simp (disch:=omega) only [gO.l0,gO.b0,aQ,aK,List.map_nil,List.append_nil]
  · simp (disch:=first | omega | decide) only [gO.l0,gO.b0,aO,ac,aI,hx,cO,aE]
    refine (ih (s++[zN x]) (by rw [d_];omega)).trans ?_
    simp only [List.map_cons,rP,List.cons_append,List.nil_append]
 unfold jP.f jP.t ib
 rw [e,aZ]
 simp only []
 rw [qf hk (by rw [List.length_map];omega),aZ]
 cases (r.2.2.2.2.1==(l.length:Int)) <;> rfl
theorem rQ {k:Nat} (hk:2 ^ 50≤k) {l:aS} (key:ByteArray) (hl:l.length≤1099511627775):dH.f k l key=some (kV l key,()):=by
 unfold dH.f dH.t
 refine (fa (L:=fun n i s=>dH.l0 k n l key i s) (R:=fun r s=>some (s++kV r key,())) (Ty.z a_) l (fun i s=>(s.length:Int)≤i) (fun n s hs=>?_) (fun n i s x rest h0 h1 hx hr hp ih=>?_) (n:=k) (s:=[]) (by omega) (by decide)).trans (by rw [List.nil_append])
 · simp (disch:=omega) only [dH.l0,dH.b0,aQ,aK,kV,List.filter_nil,List.append_nil]
 · cases c:seq x.1 key with
   | true =>
    simp (disch:=first | omega | decide) only [dH.l0,dH.b0,aO,ac,aK,aI,hx,c,fC,aE]
    refine (ih s (by omega)).trans ?_
    simp only [kV,List.filter_cons,c,fC,Bool.false_eq_true,if_false]
   | false =>
    simp (disch:=first | omega | decide) only [dH.l0,dH.b0,aO,ac,aI,hx,c,u6,cO,aE]
    refine (ih (s++[x]) (by rw [d_];omega)).trans ?_
    simp only [kV,List.filter_cons,c,u6,if_true,rP,List.cons_append,List.nil_append]
theorem w7 {k:Nat} (hk:2 ^ 50≤k) {l:ai} {e:Int} (h0:0≤e) (he:e≤l.length) (hl:l.length≤1099511627775):fK.f k l e=some (cL (l.take e.toNat),()):=by
 unfold fK.f fK.t
 have hlen:(l.take e.toNat).length=e.toNat:=by rw [List.length_take];omega
 have he':e=((l.take e.toNat).length:Int):=by omega
 conv=>lhs;rw [he']
 refine fa (L:=fun n i s=>fK.l0 k n l ((l.take e.toNat).length:Int) i s) (R:=fun r s=>some (r.foldl gY s,())) (Ty.z aC) (l.take e.toNat) (fun i s=>(s.length:Int)≤i) (fun n s hs=>?_) (fun n i s x rest h0 h1 hx hr hp ih=>?_) (n:=k) (s:=[]) (by omega) (by decide)
 · simp (disch:=omega) only [fK.l0,fK.b0,aQ,aK,List.foldl_nil]
 · rw [oQ (by omega)] at hx
   simp (disch:=omega) only [fK.l0,fK.b0,aO h1,ac,aI,hx,aE]
   rw [List.foldl_cons]
   have hs1:=uf s x
   have ih1:=ih (gY s x) (by omega)
   rw [← ih1]
   unfold gY
   have r1:∀ {R:Type} (q:Option R),rm (Ty.bytes aC) (s.length+1) q=q:=fun q=>cO (by omega) (by decide)
   have r2:∀ {R:Type} (q:Option R),rm (Ty.bytes aC) (0+1) q=q:=fun q=>cO (by omega) (by decide)
   simp only [r1,r2]
   cases c1:(x.2.2.2.1.1==5) <;> cases c2:(x.2.2.2.1.1==4) <;> first | rfl | skip
   all_goals (exfalso;have e2:=eq_of_beq c1;rw [e2] at c2;revert c2;decide)
def fj (p:Ty.d aC):Ty.d a_:=(p.2.2.2.1.2.2.1,(p.1,(p.2.1,(p.2.2.1,(p.2.2.2.1.2.1,())))))
def gV (d:aS) (p:Ty.d aC):aS:=bif p.2.2.2.1.1==2 then kV d p.2.2.2.1.2.2.1 else uM d (fj p)
def bx (d:aS) (own:ai):aS:=own.foldl gV d
theorem vp (d:aS) (p:Ty.d aC):(gV d p).length≤d.length+1:=by
 unfold gV
 have h1:=sV d p.2.2.2.1.2.2.1
 have h2:=J_ d (fj p)
 cases p.2.2.2.1.1==2
 · rw [aK];omega
 · rw [ac];omega
theorem qj:∀ (own:ai) (d:aS),(bx d own).length≤d.length+own.length
 | [],d=>Nat.le_refl _
 | p::own,d=>by
  have:=qj own (gV d p)
  have:=vp d p
  rw [bx,List.foldl_cons,mB]
  unfold bx at this
  simp only [bx] at *
  omega
def nf (d:aS) (code:Int):Int:=if d.length > 20 then 2 else code
theorem yW {k:Nat} (hk:2 ^ 50≤k) {d:aS} (p:Ty.d aC) (hd:d.length≤1073741823):iO.f k d p=some (gV d p,()):=by
 unfold iO.f iO.t gV
 rw [rQ hk _ (by omega),tK hk _ hd]
 cases p.2.2.2.1.1==2 <;> rfl
def oJ (a b:Int):Int:=if a > b then a else b
def jY (all:ai):ai→Nat→aS→Int→Int→Ty.d i_
 | [],_,d,last,code=>bif code==0&&decide ((cL all).length > 0) then (d,(last,(1,()))) else (d,(last,(code,())))
 | p::rest,i,d,last,code =>
  bif code != 0 then (d,(last,(code,()))) else
  bif p.2.2.2.1.1==3 then (bif ib p.2.2.2.1 (fX p.2.2.2.1.2.1 (all.take i)) then jY all rest (i+1) (bx d (fX p.2.2.2.1.2.1 (all.take i))) (oJ p.2.2.2.1.2.1 last) (nf (bx d (fX p.2.2.2.1.2.1 (all.take i))) code)
   else jY all rest (i+1) d (oJ p.2.2.2.1.2.1 last) code) else
  bif p.2.2.2.1.1==5 then (bif ib p.2.2.2.1 (cL (all.take i)) then jY all rest (i+1) (bx d (cL (all.take i))) (oJ p.2.2.2.1.2.1 last) (nf (bx d (cL (all.take i))) code)
   else jY all rest (i+1) d (oJ p.2.2.2.1.2.1 last) 1) else
  jY all rest (i+1) d (oJ p.2.2.2.1.2.1 last) code
def jX (g:Ty.d i_) (l:ai):Ty.d i_:=jY l l 0 g.1 g.2.1 g.2.2.1
def I3 (d:aS) (code:Int):Prop:=d.length≤268435456∧(code=0→d.length≤134217728)
theorem qu {d:aS} {own:ai} {code:Int} (h:I3 d 0) (ho:own.length≤134217728):I3 (bx d own) (nf (bx d own) code):=by
 have h1:=qj own d
 have h2:=h.2 rfl
 refine ⟨by omega,fun q=>?_⟩
 unfold nf at q
 split at q
 · cases q
 · omega
theorem EZ {d:aS} (h:I3 d 0):I3 d 1:=⟨h.1,fun q=>by cases q⟩
theorem yD {k:Nat} (hk:2 ^ 50≤k) (g:Ty.d i_) {l:ai} (hl:l.length≤134217728) (hd:g.1.length≤134217728):cU.f k g l=some (jX g l,()):=by
 unfold cU.f cU.t
 rw [cO (by omega) (by decide),List.nil_append]
 have inner:∀ {own:ai} {d:aS} (L0:ai→Int→aS→Int→Int→aS→Int→Int→Option (Ty.d i_ × Unit)) (i last code:Int),own.length≤134217728→d.length≤268435456→0≤i→i≤134217728 →
  cU.l1 k L0 k l i 0 [] 0 0 d last code own=L0 l (i+1) [] 0 0 (bx d own) last (nf (bx d own) code):=fun {own d} L0 i last code ho hd2 hi0 hi1=>by
  refine fa (L:=fun n j (d:aS)=>cU.l1 k L0 n l i j [] 0 0 d last code own) (R:=fun q d=>L0 l (i+1) [] 0 0 (bx d q) last (nf (bx d q) code)) (Ty.z aC) own (fun j d=>(d.length:Int)≤268435456+j) (fun n d hs=>?_) (fun n j d x rest h0 h1 hx hr hp ih=>?_) (n:=k) (s:=d) (by omega) (by omega)
  · change _=L0 l (i+1) [] 0 0 d last (nf d code)
    simp (disch:=omega) only [cU.l1,cU.b1,aQ (show ¬ ((own.length:Int)<(own.length:Int)) by omega),aK,nf,aE]
    by_cases c:d.length > 20
    · rw [aO (by omega),if_pos c];rfl
    · rw [aQ (by omega),if_neg c];rfl
  · have hsd:=vp d x
    simp (disch:=omega) only [cU.l1,cU.b1,aO h1,ac,aI,hx,yW hk,aZ,aE]
    exact ih _ (by omega)
 have hmk:=w7 hk (l:=l) (e:=l.length) (by omega) (by omega) (by omega)
 rw [Int.toNat_natCast,List.take_length] at hmk
 have key:=Kl (L:=fun n i (s:aS × Int × Int)=>cU.l0 k n l i [] 0 0 s.1 s.2.1 s.2.2) (R:=fun (q:ai) s=>some (jY l q (l.length-q.length) s.1 s.2.1 s.2.2,())) (Ty.z aC) l (fun i s=>I3 s.1 s.2.2) (fun n s hs=>?_) (fun n i s x rest h0 h1 hx hr hp ih=>?_) k 0 (g.1,(g.2.1,g.2.2.1)) (by omega) (by omega) (by omega) ⟨by simp only [];omega,fun _=>by simp only [];omega⟩
 · have e:l.drop (Int.toNat 0)=l:=rfl
   rw [e,Nat.sub_self] at key
   exact key
 · obtain ⟨d,last,code⟩:=s
   simp (disch:=omega) only [cU.l0,cU.b0,aQ,aK,jY,hmk,aZ]
   cases c1:(code==0)
   · rfl
   · by_cases c2:(cL l).length > 0
     · rw [aO (show ((cL l).length:Int) > 0 by omega),aO c2];rfl
     · rw [aQ (show ¬ ((cL l).length:Int) > 0 by omega),aQ c2];rfl
 · obtain ⟨d,last,code⟩:=s
   simp only [] at hp ih
   have hi:l.length-(x::rest).length=i.toNat:=by
    have:=congrArg List.length hr
    rw [List.length_drop] at this
    omega
   have hi2:l.length-rest.length=i.toNat+1:=by rw [mB] at hi;have:=congrArg List.length hr;rw [List.length_drop,mB] at this;omega
   have htk:(l.take i.toNat).length≤134217728:=by rw [List.length_take];omega
   have ih:=fun a b c h=>ih (a,(b,c)) h
   simp only [hi2] at ih
   rw [hi]
   simp (disch:=omega) only [cU.l0,cU.b0,aO h1,ac,aI,hx,aE,jY,hmk,aZ]
   by_cases c0:code=0
   case neg =>
    rw [show (code != 0)=true from bne_iff_ne.2 c0,show (code==0)=false from mT c0]
    rfl
   subst c0
   simp only [show ((0:Int) != 0)=false from rfl,show ((0:Int)==0)=true from rfl,aK,ac]
   by_cases c3:x.2.2.2.1.1=3
   · have b3:(x.2.2.2.1.1==3)=true:=by rw [c3];rfl
     have hlen:=wG x.2.2.2.1.2.1 (l.take i.toNat)
     simp only [b3,ac]
     rw [IA hk _ h0 (by omega) (by omega),aZ]
     simp only []
     rw [wP hk _ (by omega),aZ]
     cases c:ib x.2.2.2.1 (fX x.2.2.2.1.2.1 (l.take i.toNat)) with
     | true =>
      simp only [fC,ac,aK]
      rw [inner _ i _ _ (by omega) hp.1 h0 (by omega)]
      exact ih _ _ _ (qu hp (by omega))
     | false =>
      simp only [u6,ac,aK]
      exact ih _ _ _ hp
   · have b3:(x.2.2.2.1.1==3)=false:=mT c3
     by_cases c5:x.2.2.2.1.1=5
     · have b5:(x.2.2.2.1.1==5)=true:=by rw [c5];rfl
       have hlen:=vu (l.take i.toNat)
       simp only [b3,b5,ac,aK]
       rw [w7 hk h0 (by omega) (by omega),aZ]
       simp only []
       rw [wP hk _ (by omega),aZ]
       cases c:ib x.2.2.2.1 (cL (l.take i.toNat)) with
       | true =>
        simp only [fC,ac,aK]
        rw [inner _ i _ _ (by omega) hp.1 h0 (by omega)]
        exact ih _ _ _ (qu hp (by omega))
       | false =>
        simp only [u6,ac,aK]
        exact ih _ _ _ (EZ hp)
     · have b5:(x.2.2.2.1.1==5)=false:=mT c5
       simp only [b3,b5,ac,aK]
       exact ih _ _ _ hp
theorem lP (all:ai) (ha:all.length≤134217728):∀ (q:ai) (i:Nat) (d:aS) (last code:Int),I3 d code→(jY all q i d last code).1.length≤268435456
 | [],i,d,last,code,h=>by
  unfold jY
  cases code==0&&decide ((cL all).length > 0) <;> exact h.1
 | p::q,i,d,last,code,h=>by
  have hs:=wG p.2.2.2.1.2.1 (all.take i)
  have hm:=vu (all.take i)
  have htk:(all.take i).length≤134217728:=by rw [List.length_take];omega
  unfold jY
  by_cases c0:code=0
  case neg=>rw [show (code != 0)=true from bne_iff_ne.2 c0];exact h.1
  subst c0
  simp only [show ((0:Int) != 0)=false from rfl,aK]
  cases p.2.2.2.1.1==3
  · cases p.2.2.2.1.1==5
    · exact lP all ha q _ _ _ _ h
    · cases ib p.2.2.2.1 (cL (all.take i))
      · exact lP all ha q _ _ _ _ (EZ h)
      · exact lP all ha q _ _ _ _ (qu h (by omega))
  · cases ib p.2.2.2.1 (fX p.2.2.2.1.2.1 (all.take i))
    · exact lP all ha q _ _ _ _ h
    · exact lP all ha q _ _ _ _ (qu h (by omega))
theorem uz {g:Ty.d i_} {l:ai} (hl:l.length≤134217728) (hd:g.1.length≤134217728):(jX g l).1.length≤268435456:=lP l hl l 0 _ _ _ ⟨by omega,fun _=>hd⟩
theorem Ee {lim lim':Int} (h:lim≤lim'):∀ (l:List Int) (p:Option Int),p8 (o6 lim) p l=true→p8 (o6 lim') p l=true
 | [],_,_=>rfl
 | x::l,p,q=>by
  simp only [p8,iI] at q ⊢
  refine ⟨?_,Ee h l _ q.2⟩
  have q1:=q.1
  unfold o6 at q1 ⊢
  rw [iI,decide_eq_true_eq] at q1 ⊢
  exact ⟨⟨q1.1.1,Int.le_trans q1.1.2 h⟩,q1.2⟩
theorem DO {lim n:Int} (h1:1≤n) (h:lim<n):∀ (l:List Int) (p:Option Int),(∀ y,p=some y→y<n)→p8 (o6 lim) p l=true→p8 (o6 n) p (l++[n])=true
 | [],p,hp,_=>by
  simp only [List.nil_append,p8,Bool.and_true]
  unfold o6
  rw [iI,decide_eq_true_eq]
  refine ⟨⟨h1,Int.le_refl _⟩,?_⟩
  cases p with
  | none=>rfl
  | some y=>exact decide_eq_true (hp y rfl)
 | x::l,p,hp,q=>by
  simp only [p8,iI,List.cons_append] at q ⊢
  have q1:=q.1
  unfold o6 at q1
  rw [iI,decide_eq_true_eq] at q1
  refine ⟨?_,DO h1 h l _ (fun y e=>by cases e;exact Int.lt_of_le_of_lt q1.1.2 h) q.2⟩
  unfold o6
  rw [iI,decide_eq_true_eq]
  exact ⟨⟨q1.1.1,Int.le_of_lt (Int.lt_of_le_of_lt q1.1.2 h)⟩,q1.2⟩
theorem He {n:Int} {ids:List Int} (h:dL (n,(ids,()))=true) (hn:n<100000):dL (n+1,(ids,()))=true:=by
 obtain ⟨g1,g2,_⟩:=cX h
 unfold dL at h ⊢
 simp only [iI,decide_eq_true_eq] at h ⊢
 rw [aE (n:=n+1-1) (by omega) (by omega)]
 rw [aE (n:=n-1) (by omega) (by omega)] at h
 exact ⟨⟨show (1:Int)≤n+1 by omega,show n+1≤(100000:Int) by omega⟩,h.2.1,Ee (by omega) _ _ h.2.2⟩
theorem vW {n:Int} {ids:List Int} (h:dL (n,(ids,()))=true) (hn:n<100000) (hl:ids.length<60):dL (n+1,(ids++[n],()))=true:=by
 obtain ⟨g1,g2,_⟩:=cX h
 unfold dL at h ⊢
 simp only [iI,decide_eq_true_eq] at h ⊢
 rw [aE (n:=n+1-1) (by omega) (by omega)]
 rw [aE (n:=n-1) (by omega) (by omega)] at h
 refine ⟨⟨show (1:Int)≤n+1 by omega,show n+1≤(100000:Int) by omega⟩,⟨?_,?_⟩,?_⟩
 · rw [zT,List.length_singleton];omega
 · rw [zT,List.length_singleton];omega
 · rw [show n+1-1=n by omega]
   exact DO g1 (by omega) _ _ (fun y e=>by cases e) h.2.2
def dE (st:Ty.d aF):ByteArray:=aA aH (af st.1.2.1)
theorem y8 {st:Ty.d aF} (h:dL st.1=true):0≤aG ((st.1.2.1.length:Int)-1)∧aG ((st.1.2.1.length:Int)-1)<(st.1.2.1.length:Int)∧st.1.2.1.getD (aG ((st.1.2.1.length:Int)-1)).toNat (Ty.z (.int .i64))=af st.1.2.1:=by
 obtain ⟨_,_,h1,h2,_⟩:=cX (nx:=st.1.1) (ids:=st.1.2.1) h
 rw [aE (n:=(st.1.2.1.length:Int)-1) (by omega) (by omega)]
 refine ⟨by omega,by omega,?_⟩
 unfold af
 rw [show ((st.1.2.1.length:Int)-1).toNat=st.1.2.1.length-1 by omega]
 rfl
theorem pR {k:Nat} (hk:2 ^ 50≤k) {st:Ty.d aF} (h:dL st.1=true):dC.f k st=some (dE st,()):=by
 obtain ⟨h1,h2,h3⟩:=y8 h
 unfold dC.f dC.t dE
 rw [aI h1 h2,h3,bd hk,aZ]
def tl (r:RD):RD:=(r.1,iz r.2)
theorem zZ (r:RD):((tl r).2 != 0)=(r.2 != 0):=by
 unfold tl bne
 rw [j5]
def JO (st:Ty.d aF):Ty.d aF:=((st.1.1+1,st.1.2),st.2)
def lz (st:Ty.d aF):Ty.d bo:=(st.1.1+1,(st.1.2.1++[st.1.1],()))
def FE (st:Ty.d aF):Ty.d aF:=(lz st,(st.2.1,(st.2.2.1,(0,st.2.2.2.2))))
def pe (nm:ByteArray) (r:RD):RD:=bif r.2==2 then ((fG [jE,nm] r.1).1,bif (fG [jE,nm] r.1).2==0 then 2 else iz (fG [jE,nm] r.1).2) else r
def kx (st:Ty.d aF) (d:Ty.d aB):Ty.d aF × RD :=
 bif decide ((st.1.2.1.length:Int)≥60) then (st,(d,5)) else bif decide (st.1.1≥100000) then (st,(d,5)) else
 bif (gT d (dE st)).2 != 0 then (st,tl (gT d (dE st))) else
 bif (bU (aA aH st.1.1) (gT d (dE st)).1).2 != 0 then (JO st,tl (bU (aA aH st.1.1) (gT d (dE st)).1)) else
 bif (br (lz st) (bU (aA aH st.1.1) (gT d (dE st)).1).1).2 != 0 then (JO st,pe (aA aH st.1.1) (tl (br (lz st) (bU (aA aH st.1.1) (gT d (dE st)).1).1)))
 else (FE st,((br (lz st) (bU (aA aH st.1.1) (gT d (dE st)).1).1).1,0))
structure SR (st:Ty.d aF) (r:RD) (B:Int):Prop where
 live:dL st.1=true
 disk:DR r.1
 lo:LE.le (α:=Int) 0 st.2.2.2.1
 hi:LE.le (α:=Int) st.2.2.2.1 B
theorem BX (n:Int):(aA aH n).size≤1000:=by
 unfold aA
 by_cases h:(1:Int)≤n∧n≤100000
 · rw [aO h,ac,ByteArray.size_append]
   have:=ob (n:=n) (by omega) (by omega)
   have:aH.size=3:=rfl
   omega
 · rw [aQ h]
   exact Nat.zero_le _
theorem F2 {k:Nat} (hk:2 ^ 50≤k) {st:Ty.d aF} {d:Ty.d aB} (hl:dL st.1=true) (hd:DR d):fi.f k st d=some ((kx st d).1,((kx st d).2.1,((kx st d).2.2,()))):=by
 obtain ⟨g1,g2,g3,g4,_⟩:=cX (nx:=st.1.1) (ids:=st.1.2.1) hl
 have hsz:=BX st.1.1
 unfold fi.f fi.t kx
 by_cases c1:(st.1.2.1.length:Int)≥60
 · rw [aO c1];rfl
 by_cases c2:st.1.1≥(100000:Int)
 · rw [aQ c1,aO c2];rfl
 have c1':st.1.2.1.length<60:=by omega
 have c2':LT.lt (α:=Int) st.1.1 100000:=Int.not_le.1 c2
 rw [aQ c1,aQ c2]
 simp only [aK]
 rw [pR hk hl,aZ]
 simp only []
 rw [nC hk hd.sz,aZ]
 simp only []
 have h1:=nP hd (dE st)
 generalize gT d (dE st)=r1 at h1 ⊢
 cases c3:r1.2 != 0 with
 | true=>simp only [ac,dJ,aZ,tl]
 | false =>
  simp only [aK]
  rw [bd hk,aZ]
  simp only []
  rw [oL hk h1 (by omega),aZ]
  simp only []
  have h2:=lN (aA aH st.1.1) _ h1
  generalize bU (aA aH st.1.1) r1.1=r2 at h2 ⊢
  have ew:aG (st.1.1+1)=st.1.1+1:=aE (by omega) (by omega)
  cases c4:r2.2 != 0 with
  | true=>simp only [ac,dJ,aZ,tl,ew];rfl
  | false =>
   simp only [aK]
   rw [List.nil_append,cO (by omega) (by decide),cO (by omega) (by decide),ew,oV hk h2 (v:=(st.1.1+1,(st.1.2.1++[st.1.1],()))) (vW hl c2' c1'),aZ]
   simp only []
   have h3:=lF (lz st) _ h2
   rw [show ((st.1.1+1,(st.1.2.1++[st.1.1],())):Ty.d bo)=lz st from rfl]
   generalize br (lz st) r2.1=r3 at h3 ⊢
   have et:(iz r3.2 != 0)=(r3.2 != 0):=by unfold bne;rw [j5]
   cases c5:iz r3.2==2 with
   | true =>
    have e2:iz r3.2=2:=Jq c5
    have c6:(r3.2 != 0)=true:=by rw [← et,e2];rfl
    rw [c6]
    simp only [ac]
    rw [aZ,show (⟨#[116,101,109,112]⟩:ByteArray)=jE from rfl]
    simp only []
    rw [oH hk h3 (by simp),aZ]
    unfold pe
    rw [show (tl r3).2=iz r3.2 from rfl,c5,show (tl r3).1=r3.1 from rfl]
    simp only [ac,bne]
    generalize fG [jE,aA aH st.1.1] r3.1=r4
    cases c7:r4.2==0 with
    | true=>rw [e2];rfl
    | false=>simp only [u6,ac,aK,dJ,aZ];rfl
   | false =>
    simp only [aK]
    rw [et]
    cases c6:r3.2 != 0 with
    | true =>
     simp only [ac]
     unfold pe
     rw [show (tl r3).2=iz r3.2 from rfl,c5]
     rfl
    | false=>rfl
theorem sR {st:Ty.d aF} {d:Ty.d aB} (hl:dL st.1=true) (hd:DR d):dL (kx st d).1.1=true∧DR (kx st d).2.1∧(kx st d).1.2.1=st.2.1∧((kx st d).1.2.2.2.1=st.2.2.2.1∨(kx st d).1.2.2.2.1=0):=by
 unfold kx
 by_cases c1:(st.1.2.1.length:Int)≥60
 · rw [aO c1];exact ⟨hl,hd,rfl,.inl rfl⟩
 by_cases c2:st.1.1≥(100000:Int)
 · rw [aQ c1,aO c2];exact ⟨hl,hd,rfl,.inl rfl⟩
 have c1':st.1.2.1.length<60:=by omega
 have c2':LT.lt (α:=Int) st.1.1 100000:=Int.not_le.1 c2
 have hn:dL (JO st).1=true:=He (ids:=st.1.2.1) hl c2'
 have hg:dL (FE st).1=true:=vW hl c2' c1'
 have h1:=nP hd (dE st)
 have h2:=lN (aA aH st.1.1) _ h1
 have h3:=lF (lz st) _ h2
 rw [aQ c1,aQ c2]
 simp only [aK]
 generalize gT d (dE st)=r1 at h1 h2 h3 ⊢
 generalize bU (aA aH st.1.1) r1.1=r2 at h2 h3 ⊢
 generalize br (lz st) r2.1=r3 at h3 ⊢
 cases r1.2 != 0 with
 | true=>exact ⟨hl,h1,rfl,.inl rfl⟩
 | false =>
  cases r2.2 != 0 with
  | true=>exact ⟨hn,h2,rfl,.inl rfl⟩
  | false =>
   cases r3.2 != 0 with
   | true =>
    refine ⟨hn,?_,rfl,.inl rfl⟩
    simp only [ac,aK]
    unfold pe
    cases (tl r3).2==2 with
    | true=>exact lD _ _ h3
    | false=>exact h3
   | false=>exact ⟨hg,h3,rfl,.inr rfl⟩
def CO:Ty.d aC:=(0,(0,(0,((0,(0,(ByteArray.empty,(ByteArray.empty,(0,(0,())))))),()))))
def Me (st:Ty.d aF) (n:Int):Ty.d aF:=(st.1,(st.2.1,(st.2.2.1,(n,st.2.2.2.2))))
def kZ (st:Ty.d aF) (d:Ty.d aB) (r:Ty.d bA):(Ty.d aF × RD) × Ty.d aC :=
 bif (j_ d (dE st) (aP (aJ r))).2 != 0 then ((st,tl (j_ d (dE st) (aP (aJ r)))),CO)
 else ((Me st (st.2.2.2.1+bE r),((j_ d (dE st) (aP (aJ r))).1,0)),(af st.1.2.1,(st.2.2.2.1,(bE r,(r,())))))
def gM (st:Ty.d aF) (d:Ty.d aB) (r:Ty.d bA):(Ty.d aF × RD) × Ty.d aC :=
 bif decide (st.2.2.2.1 > 0)&&decide (st.2.2.2.1+bE r > 200) then
  (bif (kx st d).2.2 != 0 then (kx st d,CO) else kZ (kx st d).1 (kx st d).2.1 r)
 else kZ st d r
def gE (p:Ty.d aC):Ty.d bA:=p.2.2.2.1
theorem Af {st:Ty.d aF} {d:Ty.d aB} (hl:dL st.1=true) (hd:DR d) {B:Int} (h0:LE.le (α:=Int) 0 st.2.2.2.1) (h1:LE.le (α:=Int) st.2.2.2.1 B) (r:Ty.d bA) :
 SR (kZ st d r).1.1 (kZ st d r).1.2 (B+211)∧(kZ st d r).1.1.2.1=st.2.1∧((kZ st d r).1.2.2=0→gE (kZ st d r).2=r):=by
 have hr:=oP r
 have ha:=ql hd (dE st) (aP (aJ r))
 unfold kZ
 generalize j_ d (dE st) (aP (aJ r))=a at ha ⊢
 cases c:a.2 != 0 with
 | true =>
  refine ⟨⟨hl,ha,h0,?_⟩,rfl,fun e=>?_⟩
  · show LE.le (α:=Int) st.2.2.2.1 (B+211)
    omega
  · have e:(tl a).2=0:=e
    have q:=zZ a
    rw [e,c] at q
    cases q
 | false =>
  refine ⟨⟨hl,ha,?_,?_⟩,rfl,fun e=>rfl⟩
  · show LE.le (α:=Int) 0 (st.2.2.2.1+bE r)
    omega
  · show LE.le (α:=Int) (st.2.2.2.1+bE r) (B+211)
    omega
theorem sY {st:Ty.d aF} {d:Ty.d aB} {B:Int} (h:SR st (d,0) B) (hB:0≤B) (r:Ty.d bA) :
 SR (gM st d r).1.1 (gM st d r).1.2 (B+211)∧(gM st d r).1.1.2.1=st.2.1∧((gM st d r).1.2.2=0→gE (gM st d r).2=r):=by
 obtain ⟨hl,hd,h0,h1⟩:=h
 unfold gM
 cases decide (st.2.2.2.1 > 0)&&decide (st.2.2.2.1+bE r > 200) with
 | false=>exact Af hl hd h0 h1 r
 | true =>
  obtain ⟨g1,g2,g3,g4⟩:=sR hl hd
  generalize kx st d=q at g1 g2 g3 g4 ⊢
  have s0:LE.le (α:=Int) 0 q.1.2.2.2.1:=by rcases g4 with e | e <;> rw [e];exact h0;exact Int.le_refl _
  have s1:LE.le (α:=Int) q.1.2.2.2.1 B:=by rcases g4 with e | e <;> rw [e];exact h1;exact hB
  cases c:q.2.2 != 0 with
  | true =>
   refine ⟨⟨g1,g2,s0,?_⟩,g3,fun e=>?_⟩
   · show LE.le (α:=Int) q.1.2.2.2.1 (B+211)
     omega
   · have e:q.2.2=0:=e
     rw [e] at c
     cases c
  | false =>
   obtain ⟨k1,k2,k3⟩:=Af g1 g2 s0 s1 r
   exact ⟨k1,k2.trans g3,k3⟩
theorem yO {k:Nat} (hk:2 ^ 50≤k) {st:Ty.d aF} {d:Ty.d aB} (hl:dL st.1=true) (hd:DR d) (r:Ty.d bA) (h0:LE.le (α:=Int) 0 st.2.2.2.1) (h1:LE.le (α:=Int) st.2.2.2.1 1099511627776) :
 (((dC.f k st).bind fun r4=>((e9.f k d r4.1 (aP (aJ r))).bind fun r5=>(bif (r5.2.1 != 0) then ((aT.f k r5.2.1).bind fun r6=>(some (st,(r5.1,(CO,r6)))))
  else (aw (aG ((List.length st.1.2.1:Int)-1)) (List.length st.1.2.1:Int) (some ((st.1,(st.2.1,(st.2.2.1,((aG (st.2.2.2.1+(ByteArray.size (aP (aJ r)):Int))),st.2.2.2.2)))),(r5.1,(((List.getD st.1.2.1 (Int.toNat (aG ((List.length st.1.2.1:Int)-1))) (Ty.z (.int .i64))),(st.2.2.2.1,((ByteArray.size (aP (aJ r)):Int),(r,())))),(0,()))))))))):eS.Rs) =
 some ((kZ st d r).1.1,((kZ st d r).1.2.1,((kZ st d r).2,((kZ st d r).1.2.2,())))):=by
 obtain ⟨g1,g2,g3⟩:=y8 hl
 have hr:=oP r
 have hz:((aP (aJ r)).size:Int)=bE r:=rfl
 rw [pR hk hl,aZ]
 simp only []
 rw [qc hk hd.sz (dE st) (t:=aP (aJ r)) (by omega),aZ]
 unfold kZ
 simp only []
 generalize j_ d (dE st) (aP (aJ r))=a
 cases c:a.2 != 0 with
 | true=>simp only [ac,dJ,aZ];rfl
 | false =>
  simp only [aK]
  rw [aI g1 g2,g3,hz,aE (by omega) (by omega)]
  rfl
theorem zP {k:Nat} (hk:2 ^ 50≤k) {st:Ty.d aF} {d:Ty.d aB} {B:Int} (h:SR st (d,0) B) (hB:0≤B) (hB':B≤1000000000) (r:Ty.d bA) :
 eS.f k st d r=some ((gM st d r).1.1,((gM st d r).1.2.1,((gM st d r).2,((gM st d r).1.2.2,())))):=by
 obtain ⟨hl,hd,h0,h1⟩:=h
 have hr:=oP r
 have hz:((aP (aJ r)).size:Int)=bE r:=rfl
 have own:=yO (d:=d) hk hl hd r h0 (by omega)
 rw [hz,aE (n:=st.2.2.2.1+bE r) (by omega) (by omega)] at own
 unfold eS.f eS.t
 rw [dT hk,aZ]
 simp only []
 rw [ml hk,aZ]
 simp only []
 rw [hz,aE (n:=st.2.2.2.1+bE r) (by omega) (by omega)]
 unfold gM
 by_cases c1:LT.lt (α:=Int) 0 st.2.2.2.1
 · rw [aO (show st.2.2.2.1 > 0 from c1),Bool.true_and,ac]
   by_cases c2:LT.lt (α:=Int) 200 (st.2.2.2.1+bE r)
   · rw [aO (show st.2.2.2.1+bE r > 200 from c2),ac,ac,F2 hk hl hd,aZ]
     simp only []
     obtain ⟨g1,g2,g3,g4⟩:=sR hl hd
     generalize kx st d=q at g1 g2 g3 g4 ⊢
     cases c:q.2.2 != 0 with
     | true=>rfl
     | false =>
      have s0:LE.le (α:=Int) 0 q.1.2.2.2.1:=by rcases g4 with e | e <;> rw [e];exact h0;exact Int.le_refl _
      have s1:LE.le (α:=Int) q.1.2.2.2.1 B:=by rcases g4 with e | e <;> rw [e];exact h1;exact hB
      exact yO hk g1 g2 r s0 (by omega)
   · rw [aQ (show ¬ st.2.2.2.1+bE r > 200 from c2),aK,aK]
     exact own
 · rw [aQ (show ¬ st.2.2.2.1 > 0 from c1),Bool.false_and,aK]
   exact own
def fT (d:Ty.d aB) (s:ByteArray):Option ByteArray:=(bw d.1 s).map (·.2.1)
theorem kv {d:Ty.d aB} (h:DR d) (s:ByteArray):(ah d s).1=(fT d s).getD ⟨#[]⟩:=by
 rw [mE h]
 unfold fT
 cases bw d.1 s <;> rfl
theorem xB:∀ {l:c8} {f:Ty.d aD} {t:ByteArray},bw l f.1=none→bw (nR l f) t=bif seq f.1 t then some f else bw l t
 | [],f,t,_=>rfl
 | g::l,f,t,h=>by
  unfold bw at h
  cases c:seq g.1 f.1 with
  | true=>rw [c] at h;cases h
  | false =>
   rw [c,aK] at h
   unfold nR
   cases oG f.1 g.1 with
   | true=>rfl
   | false =>
    simp only [aK]
    rw [bw.eq_2,xB h,bw.eq_2]
    by_cases q:f.1=t
    · rw [q] at c ⊢
      rw [c,bO]
      rfl
    · rw [ky q]
      rfl
theorem ER {l:c8} {f:Ty.d aD} {t:ByteArray} (h:f.1≠t):bw (nR l f) t=bw l t:=by
 induction l with
 | nil=>unfold nR;rw [bw.eq_2,ky h];rfl
 | cons g l ih =>
  unfold nR
  cases oG f.1 g.1 with
  | true=>rw [ac,bw.eq_2,ky h,aK]
  | false=>rw [aK,bw.eq_2,ih,bw.eq_2]
theorem uF {d:Ty.d aB} {g:c8→Int→c8 × Int} {t:ByteArray} (h:∀ l c,(bw (g l c).1 t).map (·.2.1)=(bw l t).map (·.2.1)):fT (jk d g).1 t=fT d t:=by
 unfold jk fT
 cases (kM d).2 != 0 with
 | true=>rw [ac,rA]
 | false=>exact h d.1 d.2.1
theorem MP {d:Ty.d aB} {s t:ByteArray} (h:s≠t):fT (yx d s).1 t=fT d t:=uF fun l c=>by
 unfold vR
 cases !lB s with
 | true=>rfl
 | false =>
  cases (bw l s).isSome with
  | true=>rfl
  | false =>
   cases decide ((l.length:Int)≥130) with
   | true=>rfl
   | false =>
    show (bw (nR l (s,(ByteArray.empty,(0,())))) t).map _=_
    rw [ER (f:=(s,(ByteArray.empty,(0,())))) h]
theorem y9 {d:Ty.d aB} {s t x:ByteArray} (h:s≠t):fT (j_ d s x).1 t=fT d t:=uF fun l c=>by
 unfold Bi
 cases (bw l s).isNone with
 | true=>rfl
 | false =>
  cases decide ((x.size:Int) > aG (c-(dl l:Int))) with
  | true=>rfl
  | false =>
   show (bw (mz (fun f=>(f.1,(f.2.1++x,f.2.2))) l s) t).map _=_
   rw [sa (h:=fun f:Ty.d aD=>(f.1,(f.2.1++x,f.2.2))) (fun f=>rfl),ky (fun q=>h q.symm)]
   rfl
theorem md {d:Ty.d aB} {s t:ByteArray}:fT (gT d s).1 t=fT d t:=uF fun l c=>by
 unfold wx
 cases (bw l s).isNone with
 | true=>rfl
 | false =>
  show (bw (mz (fun f=>(f.1,(f.2.1,((f.2.1.size:Int),f.2.2.2)))) l s) t).map _=_
  rw [sa (h:=fun f:Ty.d aD=>(f.1,(f.2.1,((f.2.1.size:Int),f.2.2.2)))) (fun f=>rfl)]
  by_cases q:t=s
  · rw [q,bO]
    cases bw l s <;> rfl
  · rw [ky q]
    rfl
theorem Mf {d:Ty.d aB} {s t:ByteArray} (h:s≠t):fT (wu d s).1 t=fT d t:=uF fun l c=>by
 unfold DJ
 cases (bw l s).isNone with
 | true=>rfl
 | false =>
  show (bw (lX l s) t).map _=_
  rw [xL (fun q=>h q.symm)]
theorem Ls {d:Ty.d aB} {a b t:ByteArray} (h1:a≠t) (h2:b≠t):fT (DL d a b).1 t=fT d t:=uF fun l c=>by
 unfold Dk
 cases !lB b with
 | true=>rfl
 | false =>
  simp only [aK]
  cases bw l a with
  | none=>rfl
  | some f =>
   cases seq a b with
   | true=>rfl
   | false =>
    show (bw (nR (lX (lX l a) b) (b,f.2)) t).map _=_
    rw [ER (f:=(b,f.2)) h2,xL (fun q=>h2 q.symm),xL (fun q=>h1 q.symm)]
theorem uu {d:Ty.d aB} {s x:ByteArray}:fT (j_ d s x).1 s=bif (j_ d s x).2==0 then (fT d s).map (·++x) else fT d s:=by
 unfold j_ jk fT
 cases c:(kM d).2 != 0 with
 | true =>
  rw [ac,rA]
  have:((kM d).2==0)=false:=by unfold bne at c;simpa using c
  rw [this]
  rfl
 | false =>
  simp only [aK]
  unfold Bi
  cases c1:bw d.1 s with
  | none=>simp only [Option.isNone_none,ac];rw [c1];rfl
  | some f =>
   simp only [Option.isNone_some,aK]
   cases decide ((x.size:Int) > aG (d.2.1-(dl d.1:Int))) with
   | true=>simp only [ac];rw [c1];rfl
   | false =>
    simp only [aK]
    rw [sa (h:=fun f:Ty.d aD=>(f.1,(f.2.1++x,f.2.2))) (fun f=>rfl),bO,c1]
    rfl
theorem pC {r:RD} {f:Ty.d aB→RD} {t:ByteArray} {x:Option ByteArray} (h1:fT r.1 t=x) (h2:∀ y,fT (f y).1 t=fT y t):fT (hF r f).1 t=x:=by
 unfold hF
 cases r.2==0 with
 | true=>exact (h2 _).trans h1
 | false=>exact h1
theorem H6 {d:Ty.d aB} {s t:ByteArray} (h:s≠t):fT (nt s d).1 t=fT d t:=by
 unfold nt
 cases (bw d.1 s).isSome with
 | true=>exact Mf h
 | false=>rfl
theorem mf {d:Ty.d aB} {s t:ByteArray} (h:s≠t):fT (bU s d).1 t=fT d t:=pC (H6 h) fun y=>MP h
theorem CW {d:Ty.d aB} {s t x:ByteArray} (h:s≠t):fT (mh s x d).1 t=fT d t:=pC (pC (mf h) fun y=>y9 h) fun y=>md
theorem iQ {d:Ty.d aB} {v:Ty.d bo} {t:ByteArray} (h1:jE≠t) (h2:eQ≠t):fT (br v d).1 t=fT d t:=pC (CW h1) fun y=>Ls h1 h2
theorem nj {t:ByteArray}:∀ (l:List ByteArray) (d:Ty.d aB),(∀ s ∈ l,s≠t)→fT (fG l d).1 t=fT d t
 | [],_,_=>rfl
 | s::l,d,h=>by
  show fT (hF (nt s d) (fG l)).1 t=_
  exact pC (H6 (h s li)) fun y=>nj l y fun q hq=>h q (nX _ hq)
def fJ:jt→Ty.d aF→Ty.d aB→ai→(Ty.d aF × RD) × ai
 | [],st,d,ps=>((st,(d,0)),ps)
 | r::l,st,d,ps=>bif (gM st d r).1.2.2 != 0 then ((gM st d r).1,ps) else fJ l (gM st d r).1.1 (gM st d r).1.2.1 (ps++[(gM st d r).2])
def Nh (st:Ty.d aF) (dir:aS):Ty.d aF:=(st.1,(dir,st.2.2))
def ur (n:Nat) (q:(Ty.d aF × RD) × ai):Ty.d aF × RD :=
 bif q.1.2.2 != 0 then q.1 else bif (gT q.1.2.1 (dE q.1.1)).2 != 0 then (q.1.1,tl (gT q.1.2.1 (dE q.1.1))) else (Nh q.1.1 (bx q.1.1.2.1 (q.2.take n)),((gT q.1.2.1 (dE q.1.1)).1,0))
def rM (st:Ty.d aF):Ty.d aF:=(st.1,(st.2.1,(st.2.2.1+1,st.2.2.2)))
def gu (st:Ty.d aF) (d:Ty.d aB) (l:gn):Ty.d aF × RD:=ur l.length (fJ (ja l st.2.2.1) (rM st) d [])
theorem qo:∀ (l:jt) (st:Ty.d aF) (d:Ty.d aB) (ps:ai) (B:Int),SR st (d,0) B→0≤B →
 SR (fJ l st d ps).1.1 (fJ l st d ps).1.2 (B+211*(l.length:Int))∧(fJ l st d ps).1.1.2.1=st.2.1∧((fJ l st d ps).1.2.2=0→(fJ l st d ps).2.map gE=ps.map gE++l)
 | [],st,d,ps,B,h,_=>⟨⟨h.live,h.disk,h.lo,by have:=h.hi;show LE.le (α:=Int) st.2.2.2.1 _;rw [List.length_nil];omega⟩,rfl,fun _=>(List.append_nil _).symm⟩
 | r::l,st,d,ps,B,h,hB=>by
  obtain ⟨g1,g2,g3⟩:=sY h hB r
  unfold fJ
  have el:((r::l).length:Int)=(l.length:Int)+1:=by rw [mB];omega
  cases c:(gM st d r).1.2.2 != 0 with
  | true =>
   refine ⟨⟨g1.live,g1.disk,g1.lo,?_⟩,g2,fun e=>?_⟩
   · have:=g1.hi
     show LE.le (α:=Int) (gM st d r).1.1.2.2.2.1 _
     omega
   · have e:(gM st d r).1.2.2=0:=e
     rw [e] at c
     cases c
  | false =>
   have e0:(gM st d r).1.2.2=0:=by unfold bne at c;simpa using c
   obtain ⟨k1,k2,k3⟩:=qo l (gM st d r).1.1 (gM st d r).1.2.1 (ps++[(gM st d r).2]) (B+211) ⟨g1.live,g1.disk,g1.lo,g1.hi⟩ (by omega)
   refine ⟨⟨k1.live,k1.disk,k1.lo,?_⟩,k2.trans g2,fun e=>?_⟩
   · have:=k1.hi
     show LE.le (α:=Int) (fJ l (gM st d r).1.1 (gM st d r).1.2.1 (ps++[(gM st d r).2])).1.1.2.2.2.1 _
     omega
   · have:=k3 e
     show (fJ l (gM st d r).1.1 (gM st d r).1.2.1 (ps++[(gM st d r).2])).2.map gE=_
     rw [this,List.map_append,List.map_singleton,g3 e0,rP]
     rfl
def rT:aS→gn→aS→aS
 | dir,[],_=>dir
 | dir,_::_,[]=>dir
 | dir,p::l,e::es=>rT (bif p.2.1 then kV dir p.1 else uM dir e) l es
theorem sJ (dir:aS) (es:aS):rT dir [] es=dir:=by cases es <;> rfl
theorem zR (b:Int):∀ (l:gn) (ps:ai) (q:jt) (dir:aS),ps.map gE=l.map (gL b)++q→rT dir l (ps.map fj)=bx dir (ps.take l.length)
 | [],ps,q,dir,h=>by rw [List.length_nil,List.take_zero,sJ];rfl
 | x::l,[],q,dir,h=>by cases h
 | x::l,p::ps,q,dir,h=>by
  rw [List.map_cons,List.map_cons,List.cons_append] at h
  injection h with h1 h2
  rw [List.map_cons,mB,List.take_succ_cons]
  unfold rT bx
  rw [List.foldl_cons,zR b l ps q _ h2]
  unfold bx
  congr 1
  unfold gV
  rw [show p.2.2.2.1=gL b x from h1]
  unfold gL
  cases x.2.1 <;> rfl
def zF (p:Ty.d aY):Ty.d a_:=(p.1,(0,(0,(0,(0,())))))
def nG (dir:aS) (l:gn):Int:=((rT dir l (l.map zF)).length:Int)
theorem LB (l:aS) (e:Ty.d a_):(uM l e).length≤l.length+1:=by
 unfold uM
 rw [Ek]
 have:=sV l e.1
 omega
theorem BL {k:Nat} (hk:2 ^ 50≤k) {dir:aS} (hd:dir.length≤536870912) {l:gn} (hl:l.length≤1000):dQ.f k dir l=some (nG dir l,()):=by
 have key:∀ (n:Nat) (i:Int) (s:aS),0≤i→i≤(l.length:Int)→(l.length:Int)-i<n→(s.length:Int)≤536870912+i→dQ.l1 k n l i s=some (nG s (l.drop i.toNat),()):=fun n i s h0 h1 h2 hs=>by
  refine Kl (L:=fun n i (s:aS)=>dQ.l1 k n l i s) (R:=fun r s=>some (nG s r,())) (Ty.z aY) l (fun i s=>(s.length:Int)≤536870912+i) (fun n s hs=>?_) (fun n i s x rest h0 h1 hx hr hp ih=>?_) n i s h0 h1 h2 hs
  · simp (disch:=omega) only [dQ.l1,dQ.b1,aQ,aK]
    rfl
  · simp only [dQ.l1,dQ.b1]
    rw [aO h1,ac,aI h0 h1,hx,aE (n:=i+1) (by omega) (by omega)]
    unfold nG
    simp only [List.map_cons,rT]
    cases c:x.2.1 with
    | true =>
     have:=sV s x.1
     simp only [ac]
     rw [aI h0 h1,rQ hk x.1 (by omega),aZ]
     exact ih (kV s x.1) (by omega)
    | false =>
     have:=LB s (zF x)
     have e:=tK hk (l:=s) (zF x) (by omega)
     unfold zF at e
     simp only [aK]
     rw [aI h0 h1,e,aZ]
     exact ih (uM s (zF x)) (by omega)
 obtain ⟨q,hq⟩:∃ q,k=q+1:=⟨k-1,by omega⟩
 have k1:=key (q+1) 0 dir (by omega) (by omega) (by omega) (by omega)
 unfold dQ.f dQ.t
 rw [show l.drop (0:Int).toNat=l from rfl] at k1
 refine Eq.trans ?_ k1
 rw [show dQ.l0 k k=dQ.l0 k (q+1) by rw [← hq]]
 rfl
theorem Fq (dir:aS) (ps:ai) (p:Ty.d aC):bx dir (ps++[p])=gV (bx dir ps) p:=by
 unfold bx
 rw [List.foldl_append]
 rfl
theorem iV {c:Int} (h:(c != 0)=false):c=0:=by unfold bne at h;simpa using h
theorem CC {k:Nat} (hk:2 ^ 50≤k) {st:Ty.d aF} {d:Ty.d aB} {l:gn} (h:SR st (d,0) 100000) (hb0:LE.le (α:=Int) 0 st.2.2.1) (hb:LE.le (α:=Int) st.2.2.1 1000000) (hp:fR l=true) (hd:st.2.1.length≤20) :
 bY.f k st d l=some ((gu st d l).1,((gu st d l).2.1,((gu st d l).2.2,()))):=by
 have hl:=oZ hp
 unfold bY.f bY.t gu ja
 rw [cO (by omega) (by decide),List.nil_append,aE (n:=st.2.2.1+1) (by omega) (by omega)]
 generalize hbe:st.2.2.1=b at *
 rw [show rM st=((st.1,(st.2.1,(b+1,st.2.2.2))):Ty.d aF) from by unfold rM;rw [hbe]]
 refine fa (L:=fun n i (s:(Ty.d aF × Ty.d aB) × ai)=>bY.l0 k n b i l s.1.1.1.2.1 s.1.1.2.1 s.1.1.1.1 s.1.1.2.2.1 s.1.1.2.2.2.1 s.1.1.2.2.2.2.1 s.1.2.1 s.1.2.2.1 s.1.2.2.2.1 s.1.2.2.2.2.1 [] [] 0 0 0 0 [] 0 0 false (s.2.map gE) (bx s.1.1.2.1 s.2))
  (R:=fun r s=>(some ((ur l.length (fJ (r.map (gL b)++[fk 3 b (l.map (gL b))]) s.1.1 s.1.2 s.2)).1,((ur l.length (fJ (r.map (gL b)++[fk 3 b (l.map (gL b))]) s.1.1 s.1.2 s.2)).2.1,((ur l.length (fJ (r.map (gL b)++[fk 3 b (l.map (gL b))]) s.1.1 s.1.2 s.2)).2.2,()))):bY.Rs))
  (Ty.z aY) l (fun i s=>SR s.1.1 (s.1.2,0) (100000+211*i)∧s.2.map gE=(l.take i.toNat).map (gL b)∧s.1.1.2.1.length≤20) (fun n s hs=>?_) (fun n i s x rest h0 h1 hx hr hs ih=>?_) (n:=k) (s:=(((((st.1,(st.2.1,(b+1,st.2.2.2))):Ty.d aF)),d),[])) (by omega) ⟨⟨h.live,h.disk,h.lo,Int.le_trans h.hi (by decide)⟩,rfl,hd⟩
 · obtain ⟨⟨st',d'⟩,ps⟩:=s
   obtain ⟨g1,g2,g3⟩:=hs
   simp only [] at g1 g2 g3 ⊢
   rw [Int.toNat_natCast,List.take_length] at g2
   have hps:ps.length=l.length:=by simpa using congrArg List.length g2
   simp only [bY.l0,bY.b0]
   rw [aQ (by omega),aK,g2,wW hk (by rw [List.length_map];omega),aZ]
   simp only []
   rw [show ((st'.1.1,(st'.1.2.1,())),(st'.2.1,(st'.2.2.1,(st'.2.2.2.1,(st'.2.2.2.2.1,())))))=st' from rfl,show (d'.1,(d'.2.1,(d'.2.2.1,(d'.2.2.2.1,()))))=d' from rfl,
    zP hk g1 (by omega) (by omega),aZ]
   simp only [List.map_nil,List.nil_append,fJ]
   obtain ⟨k1,k2,_⟩:=sY g1 (by omega) (fk 3 b (l.map (gL b)))
   generalize gM st' d' (fk 3 b (l.map (gL b)))=q at k1 k2 ⊢
   cases c:q.1.2.2 != 0 with
   | true =>
    simp only [ac]
    unfold ur
    simp only [c,ac]
   | false =>
    simp only [aK]
    rw [pR hk k1.live,aZ]
    simp only []
    rw [nC hk (DR.sz k1.disk),aZ]
    unfold ur
    simp only [show ((0:Int) != 0)=false from rfl,aK]
    generalize gT q.1.2.1 (dE q.1.1)=y
    cases c2:y.2 != 0 with
    | true=>simp only [ac,dJ,aZ];rfl
    | false =>
     simp only [aK]
     rw [k2,List.take_append_of_le_length (by omega),List.take_of_length_le (by omega)]
     rfl
 · obtain ⟨⟨st',d'⟩,ps⟩:=s
   obtain ⟨g1,g2,g3⟩:=hs
   simp only [] at g1 g2 g3 ih ⊢
   have hi:i.toNat<l.length:=by omega
   have hm:x ∈ l:=List.mem_of_mem_drop (i:=i.toNat) (by rw [hr];exact li)
   have e:=HY b (u4 hp hm)
   have et:l.take (i+1).toNat=l.take i.toNat++[x]:=by
    rw [show (i+1).toNat=i.toNat+1 by omega,List.take_succ_eq_append_getElem hi]
    congr 2
    rw [← hx]
    simp [List.getD,hi]
   have hps:ps.length≤l.length:=by
    have:=congrArg List.length g2
    rw [List.length_map,List.length_map,List.length_take] at this
    omega
   obtain ⟨k1,k2,k3⟩:=sY g1 (by omega) (gL b x)
   have body:((eS.f k st' d' (gL b x)).bind fun r1=>(bif (r1.2.2.2.1 != 0) then (some (r1.1,(r1.2.1,r1.2.2.2))) else ((iO.f k (bx st'.2.1 ps) r1.2.2.1).bind fun r2=>(rm (Ty.bytes bA) (List.length (ps.map gE)+1)
    (bY.l0 k n b (aG (i+1)) l r1.1.1.2.1 r1.1.2.1 r1.1.1.1 r1.1.2.2.1 r1.1.2.2.2.1 r1.1.2.2.2.2.1 r1.2.1.1 r1.2.1.2.1 r1.2.1.2.2.1 r1.2.1.2.2.2.1 [] [] 0 0 0 0 [] 0 0 false (ps.map gE++[gL b x]) r2.1))))) =
    (some ((ur l.length (fJ ((x::rest).map (gL b)++[fk 3 b (l.map (gL b))]) st' d' ps)).1,((ur l.length (fJ ((x::rest).map (gL b)++[fk 3 b (l.map (gL b))]) st' d' ps)).2.1,((ur l.length (fJ ((x::rest).map (gL b)++[fk 3 b (l.map (gL b))]) st' d' ps)).2.2,()))):bY.Rs):=by
    rw [zP hk g1 (by omega) (by omega),aZ]
    simp only [List.map_cons,List.cons_append,fJ]
    have hk1:=k1.hi
    generalize gM st' d' (gL b x)=q at k1 k2 k3 hk1 ⊢
    cases c:q.1.2.2 != 0 with
    | true =>
     simp only [ac]
     unfold ur
     simp only [c,ac]
    | false =>
     simp only [aK]
     have hal:=qj ps st'.2.1
     rw [yW hk q.2 (by omega),aZ,cO (by rw [List.length_map];omega) (by decide),aE (n:=i+1) (by omega) (by omega)]
     have q3:=k3 (iV c)
     have e1:(ps++[q.2]).map gE=ps.map gE++[gL b x]:=by rw [List.map_append,List.map_singleton,q3]
     have e2:bx q.1.1.2.1 (ps++[q.2])=gV (bx st'.2.1 ps) q.2:=by rw [k2,Fq]
     have ih:=ih ((q.1.1,q.1.2.1),ps++[q.2]) ⟨⟨k1.live,k1.disk,k1.lo,by show LE.le (α:=Int) q.1.1.2.2.2.1 _;omega⟩,by simp only [];rw [e1,g2,et,List.map_append];rfl,by simp only [];rw [k2];exact g3⟩
     simp only [] at ih
     rw [e1,e2] at ih
     exact ih
   simp only [bY.l0,bY.b0]
   rw [aO h1,ac,aI h0 h1,aI h0 h1,aI h0 h1,hx]
   rw [show ((st'.1.1,(st'.1.2.1,())),(st'.2.1,(st'.2.2.1,(st'.2.2.2.1,(st'.2.2.2.2.1,())))))=st' from rfl,show (d'.1,(d'.2.1,(d'.2.2.1,(d'.2.2.2.1,()))))=d' from rfl]
   cases c:x.2.1 with
   | true =>
    rw [c,ac] at e
    simp only [ac]
    rw [← e]
    exact body
   | false =>
    rw [c,aK] at e
    simp only [aK]
    rw [← e]
    exact body
noncomputable def dp (st:Ty.d aF) (d:Ty.d aB) (l:gn):Ty.d aF × RD :=
 bif !eN st d then (st,(d,4)) else bif !fR l then (st,(d,4)) else bif (l.length:Int)==0 then (st,(d,0)) else bif decide (nG st.2.1 l > 20) then (st,(d,5)) else
 bif decide (st.2.2.1 > 1000000) then (st,(d,5)) else gu st d l
theorem Ad {d:Ty.d aB} {tail:Int}:∀ {l:List Int},l≠[]→nJ d tail l=true→∃ x,tail=((ah d (aA aH x)).1.size:Int)
 | [],h,_=>absurd rfl h
 | [x],_,h=>by
  unfold nJ EN at h
  simp only [iI,List.isEmpty_nil,fC,Bool.false_or] at h
  exact ⟨x,Jq h.1.2.2⟩
 | x::y::l,_,h=>by
  unfold nJ at h
  rw [iI] at h
  exact Ad (by intro q;cases q) h.2
theorem kH {st:Ty.d aF} {d:Ty.d aB} (h:eN st d=true):SR st (d,0) 100000∧st.2.1.length≤20∧LE.le (α:=Int) 1 st.2.2.1:=by
 unfold eN pq at h
 simp only [iI,decide_eq_true_eq] at h
 obtain ⟨h1,h2,⟨h3,_⟩,h4,h5,_⟩:=h
 obtain ⟨_,_,g1,_,_⟩:=cX (nx:=st.1.1) (ids:=st.1.2.1) h2
 have hd:=jR.1 h1
 obtain ⟨x,hx⟩:=Ad (by intro q;rw [q] at g1;simp at g1) h5
 have hs:=iM d (aA aH x)
 have hu:=hd.use
 have hc:=hd.cap1
 refine ⟨⟨h2,hd,?_,?_⟩,by omega,h4.1⟩
 · show LE.le (α:=Int) 0 st.2.2.2.1
   rw [hx]
   omega
 · show LE.le (α:=Int) st.2.2.2.1 100000
   rw [hx]
   have:LE.le (α:=Int) (dl d.1) 100000:=Int.le_trans hu hc
   omega
theorem tD {k:Nat} (hk:2 ^ 50≤k) {st:Ty.d aF} {d:Ty.d aB} (hd:An d) (h1:st.1.2.1.length≤1073741824) (h2:st.2.1.length≤536870912) {l:gn} (hl:l.length≤1073741824) :
 i8.f k st d l=some ((dp st d l).1,((dp st d l).2.1,((dp st d l).2.2,()))):=by
 have ec:dG.f k st=some (st,()):=by
  unfold dG.f dG.t
  rw [cO (by omega) (by decide),cO (by omega) (by decide),List.nil_append,List.nil_append]
 unfold i8.f i8.t dp
 rw [ec,aZ]
 simp only []
 rw [kJ k hd,aZ]
 simp only []
 rw [vH hk hd,aZ]
 simp only []
 cases c1:eN st d with
 | false=>rfl
 | true =>
  simp only [fC,aK]
  rw [lw hk,aZ]
  simp only []
  cases c2:fR l with
  | false=>rfl
  | true =>
   have h8:=oZ c2
   obtain ⟨g1,g2,g3⟩:=kH c1
   simp only [fC,aK]
   cases c3:(l.length:Int)==0 with
   | true=>rfl
   | false =>
    simp only [aK]
    rw [BL hk (by omega) (by omega),aZ]
    simp only []
    cases c4:decide (nG st.2.1 l > 20) with
    | true=>rfl
    | false =>
     simp only [aK]
     by_cases c5:st.2.2.1 > (1000000:Int)
     · rw [aO c5];rfl
     · rw [aQ c5]
       simp only [aK]
       rw [CC hk g1 (Int.le_trans (by decide) g3) (Int.not_lt.1 c5) c2 g2,aZ]
theorem zX {p:ByteArray} (hp:p=aH∨p=dY) {n:Int} (h0:1≤n) (h1:n≤100000):GC (aA p n)=(n,true):=by
 have e:aA p n=p++iB n:=by unfold aA;rw [aO ⟨h0,h1⟩];rfl
 have hn:K7 (p++iB n) n:=⟨h0,h1,by rcases hp with q | q <;> rw [q] <;> simp⟩
 rw [e]
 rcases kI (K7 (p++iB n)) (fun _=>p++iB n) (0:Int) (p++iB n) with ⟨r,g1,_,g3⟩ | g
 · unfold GC
   rw [g3,GZ g1 hn]
 · exfalso
   unfold pc at g
   rw [dif_pos ⟨n,hn,rfl⟩] at g
   cases (Prod.mk.inj g).2
theorem DY (ids:List Int):∀ (l:c8) (acc:List ByteArray) (x:ByteArray),x ∈ sA ids l acc→x ∈ acc∨(((GC x).2&&!ze ids (GC x).1)||seq x jE)=true
 | [],acc,x,h => .inl h
 | f::l,acc,x,h=>by
  unfold sA at h
  rcases DY ids l _ x h with q | q
  · cases c:vN ids f with
    | false=>rw [c] at q;exact .inl q
    | true =>
     rw [c,ac] at q
     rcases List.mem_append.1 q with q | q
     · exact .inl q
     · rw [List.mem_singleton] at q
       subst q
       exact .inr c
  · exact .inr q
theorem Iy {d:Ty.d aB} {ids:List Int} {x:ByteArray} (h:x ∈ tE d ids):(((GC x).2&&!ze ids (GC x).1)||seq x jE)=true:=by
 unfold tE at h
 cases c:iL d with
 | false=>rw [c] at h;cases h
 | true =>
  rw [c,ac] at h
  rcases DY ids d.1 [] x h with q | q
  · cases q
  · exact q
def Mv (d:Ty.d aB) (s:ByteArray):Nat:=((fT d s).getD ⟨#[]⟩).size
def tN (d:Ty.d aB) (ids:List Int):Nat:=(ids.map fun x=>Mv d (aA aH x)).sum
def tJ:aS→Int
 | []=>0
 | e::l=>e.2.2.2.1+tJ l
theorem ot {x y:Int} (hx:1≤x∧x≤100000) (hy:1≤y∧y≤100000) (h:x≠y):aA aH x≠aA aH y:=fun q=>by
 have e1:=zX (.inl rfl) hx.1 hx.2
 have e2:=zX (.inl rfl) hy.1 hy.2
 rw [q,e2] at e1
 injection e1 with e1 _
 exact h e1.symm
theorem yf {x:Int} (hx:1≤x∧x≤100000):aA aH x=aH++iB x:=by
 unfold aA
 rw [aO hx]
 rfl
theorem iD {x:Int} (hx:1≤x∧x≤100000):jE≠aA aH x:=fun q=>by
 rw [yf hx] at q
 have:=congrArg nb q
 rw [iF] at this
 cases this
theorem jN {x:Int} (hx:1≤x∧x≤100000):eQ≠aA aH x:=fun q=>by
 rw [yf hx] at q
 have:=congrArg nb q
 rw [iF] at this
 cases this
theorem j6 {n:Int} {ids:List Int} (h:dL (n,(ids,()))=true):1≤n∧n≤100000∧(∀ x ∈ ids,1≤x∧x<n)∧ids.Pairwise (· < ·):=by
 obtain ⟨g1,g2,_⟩:=cX h
 unfold dL at h
 simp only [iI,decide_eq_true_eq] at h
 have h3:=h.2.2
 rw [aE (n:=n-1) (by omega) (by omega)] at h3
 have key:∀ (l:List Int) (p:Option Int),p8 (o6 (n-1)) p l=true→(∀ x ∈ l,1≤x∧x<n∧∀ y,p=some y→y<x)∧l.Pairwise (· < ·):=by
  intro l
  induction l with
  | nil=>exact fun p _=>⟨fun x hx=>(by cases hx),List.Pairwise.nil⟩
  | cons a l ih =>
   intro p hp
   simp only [p8,iI] at hp
   obtain ⟨q1,q2⟩:=hp
   unfold o6 at q1
   rw [iI,decide_eq_true_eq] at q1
   obtain ⟨⟨b1,b2⟩,b3⟩:=q1
   have b1:1≤a:=b1
   have b2:a≤n-1:=b2
   obtain ⟨i1,i2⟩:=ih (some a) q2
   have ha:∀ y,p=some y→y<a:=fun y e=>by
    rw [e] at b3
    exact of_decide_eq_true b3
   refine ⟨fun x hx=>?_,?_⟩
   · rcases List.mem_cons.1 hx with e | e
     · rw [e]
       exact ⟨b1,by omega,ha⟩
     · obtain ⟨c1,c2,c3⟩:=i1 x e
       have:=c3 a rfl
       exact ⟨c1,c2,fun y ey=>Int.lt_trans (ha y ey) this⟩
   · exact List.Pairwise.cons (fun x hx=>(i1 x hx).2.2 a rfl) i2
 obtain ⟨k1,k2⟩:=key ids none h3
 exact ⟨g1,g2,fun x hx=>⟨(k1 x hx).1,(k1 x hx).2.1⟩,k2⟩
theorem Am {d d':Ty.d aB}:∀ {ids:List Int},(∀ x ∈ ids,fT d' (aA aH x)=fT d (aA aH x))→tN d' ids=tN d ids
 | [],_=>rfl
 | x::l,h=>by
  unfold tN at *
  rw [List.map_cons,List.map_cons,List.sum_cons,List.sum_cons]
  have e1:Mv d' (aA aH x)=Mv d (aA aH x):=by unfold Mv;rw [h x li]
  have e2:=Am (ids:=l) fun y hy=>h y (nX _ hy)
  unfold tN at e2
  rw [e1,e2]
theorem nO {ids:List Int} (h:1≤ids.length):ids=ids.dropLast++[af ids]:=by
 have hne:ids≠[]:=by intro q;rw [q] at h;simp at h
 have e:af ids=ids.getLast hne:=by
  unfold af
  rw [List.getLast_eq_getElem]
  simp [List.getD,show ids.length-1<ids.length by omega]
 rw [e]
 exact (List.dropLast_concat_getLast hne).symm
abbrev De:=List (Ty.d bK)
def bX (id:Int) (l:De):ai:=l.map fun x=>(id,x)
theorem vx (id:Int) (l:De):(bX id l).length=l.length:=by unfold bX;rw [List.length_map]
theorem tF {k:Nat} (hk:2 ^ 50≤k) (id:Int) {s:ByteArray} (hs:s.size≤1099511627775):bi.f k id s=some (bX id (bP s).1,()):=by
 unfold bi.f bi.t
 rw [o7 hk hs,aZ]
 have hl:=(kp s).1
 simp only []
 generalize (bP s).1=l at *
 refine (fa (L:=fun n i s=>bi.l0 k n id i s l) (R:=fun r s=>some (s++bX id r,())) (Ty.z bK) l (fun i s=>(s.length:Int)=i) (fun n s hs=>?_) (fun n i s x rest h0 h1 hx hr hp ih=>?_) (n:=k) (s:=[]) (by omega) (by decide)).trans (by rw [List.nil_append])
 · simp (disch:=omega) only [bi.l0,bi.b0,aQ,aK,bX,List.map_nil,List.append_nil]
 · have ih:=ih (s++[(id,x)]) (by rw [d_];omega)
   simp (disch:=first | omega | decide) only [bi.l0,bi.b0,aO,ac,aI,hx,cO,aE]
   refine ih.trans ?_
   simp only [bX,List.map_cons,rP,List.cons_append,List.nil_append]
def qK:Ty.d fm:=(0,(0,([],())))
def GB (s0:Int) (e:Ty.d a_):Bool:=(e.2.1==s0)&&!decide ((e.2.2.1:Int) > 100000)
def BN (l:aS):Bool:=l.all (GB (l.getD 0 (Ty.z a_)).2.1)
def n_ (h:Ty.d fm):Bool:=decide ((0:Int)≤h.1∧h.1≤100000)&&(decide ((0:Int)≤h.2.1∧h.2.1≤1000000)&&(pq h.2.2.1&&BN h.2.2.1))
def k8 (e:Ty.d a_):ByteArray:=jy e.1++(jC e.2.1++(jC e.2.2.1++(jC e.2.2.2.1++jC e.2.2.2.2.1)))
def m3:aS→ByteArray
 | []=>⟨#[]⟩
 | e::l=>k8 e++m3 l
def tA (h:Ty.d fm):ByteArray:=jC h.1++(jC h.2.1++(jC (h.2.2.1.length:Int)++m3 h.2.2.1))
def dM (h:Ty.d fm):ByteArray:=if n_ h=true then uI (ra (tA h))++tA h else ⟨#[]⟩
theorem A_ {k:Nat} (hk:2 ^ 50≤k) (h:Ty.d fm):gy.f k h=some (n_ h,()):=by
 unfold gy.f gy.t n_
 rw [eM,aZ]
 cases decide ((0:Int)≤h.1∧h.1≤100000) with
 | false=>rfl
 | true =>
  simp only [fC,aK,Bool.true_and]
  rw [eM,aZ]
  cases decide ((0:Int)≤h.2.1∧h.2.1≤1000000) with
  | false=>rfl
  | true =>
   simp only [fC,aK,Bool.true_and]
   rw [yB hk,aZ]
   cases cd:pq h.2.2.1 with
   | false=>rfl
   | true =>
    simp only [fC,aK,Bool.true_and]
    have hl:h.2.2.1.length≤20:=by
     unfold pq at cd
     rw [iI,decide_eq_true_eq] at cd
     have:=cd.1
     omega
    unfold BN
    refine fa (L:=fun n i (_:Unit)=>gy.l0 k n i h.1 h.2.1 h.2.2.1) (R:=fun r _=>some (r.all (GB (h.2.2.1.getD 0 (Ty.z a_)).2.1),())) (Ty.z a_) h.2.2.1 (fun _ _=>True) (fun n _ _=>?_) (fun n i _ x rest h0 h1 hx hr hp ih=>?_) (n:=k) (s:=()) (by omega) trivial
    · simp only [gy.l0,gy.b0]
      rw [aQ (by omega),aK]
      rfl
    · have ih:=ih () trivial
      simp only [gy.l0,gy.b0]
      rw [aO h1,ac,aI h0 h1,aI (by omega) (by omega),hx,aI h0 h1,aE (n:=i+1) (by omega) (by omega),ih,List.all_cons]
      unfold GB bne
      cases x.2.1==(h.2.2.1.getD 0 (Ty.z a_)).2.1 <;> cases decide ((x.2.2.1:Int) > 100000) <;> rfl
theorem mO {l:aS} (h:pq l=true):l.length≤20∧∀ e ∈ l,(1≤e.1.size∧e.1.size≤8)∧(LE.le (α:=Int) 1 e.2.1∧LE.le (α:=Int) e.2.1 100000)∧LE.le (α:=Int) 0 e.2.2.1∧(LE.le (α:=Int) 1 e.2.2.2.1∧LE.le (α:=Int) e.2.2.2.1 210)∧(LE.le (α:=Int) 1 e.2.2.2.2.1∧LE.le (α:=Int) e.2.2.2.2.1 1000000):=by
 unfold pq at h
 rw [iI,decide_eq_true_eq] at h
 refine ⟨by have:=h.1;omega,fun e he=>?_⟩
 obtain ⟨q,hq⟩:=Cf h.2 he
 unfold qD gF at hq
 rw [iI,iI,iI,iI,iI,decide_eq_true_eq,decide_eq_true_eq,decide_eq_true_eq,decide_eq_true_eq] at hq
 obtain ⟨g1,g2,g3,g4,g5,_⟩:=hq
 have g3':¬ LT.lt (α:=Int) e.2.2.1 0:=by
  intro q
  have:(!decide (e.2.2.1<(0:Int)))=false:=by rw [aO q];rfl
  rw [this] at g3
  cases g3
 exact ⟨by omega,g2,Int.not_lt.1 g3',g4,g5⟩
theorem qM {h:Ty.d fm} (q:n_ h=true):pq h.2.2.1=true:=by
 unfold n_ at q
 rw [iI,iI,iI] at q
 exact q.2.2.1
theorem AK {e:Ty.d a_}:(k8 e).size≤35+e.1.size:=by
 have a:=cB (e.1.size:Int)
 have b:=cB e.2.1
 have c:=cB e.2.2.1
 have d:=cB e.2.2.2.1
 have f:=cB e.2.2.2.2.1
 unfold k8 jy
 simp only [aN]
 omega
theorem yh:∀ {l:aS},(∀ e ∈ l,e.1.size≤8)→(m3 l).size≤43*l.length
 | [],_=>Nat.zero_le _
 | e::l,h=>by
  have h1:=h e (li ..)
  have h2:=yh (l:=l) fun x hx=>h x (nX _ hx)
  have h3:=AK (e:=e)
  unfold m3
  rw [aN,mB]
  omega
theorem Fv {h:Ty.d fm} (q:n_ h=true):(tA h).size≤900:=by
 obtain ⟨h1,h2⟩:=mO (qM q)
 have:=yh (l:=h.2.2.1) fun e he=>(h2 e he).1.2
 have a:=cB h.1
 have b:=cB h.2.1
 have c:=cB (h.2.2.1.length:Int)
 unfold tA
 simp only [aN]
 omega
theorem pW (h:Ty.d fm):(dM h).size≤904:=by
 unfold dM
 by_cases q:n_ h=true
 · have:=Fv q
   rw [if_pos q,aN,show (uI (ra (tA h))).size=4 from rfl]
   omega
 · rw [if_neg q];decide
theorem m5 {k:Nat} (hk:2 ^ 50≤k) (h:Ty.d fm):db.f k h=some (dM h,()):=by
 unfold db.f db.t dM
 rw [A_ hk,aZ]
 cases q:n_ h with
 | false=>rfl
 | true =>
  obtain ⟨h1,h2⟩:=mO (qM q)
  have a:=cB h.1
  have b:=cB h.2.1
  have c:=cB (h.2.2.1.length:Int)
  rw [fC,aK,gw hk,aZ,gw hk,aZ,if_pos rfl]
  simp only []
  rw [gf (by omega),gw hk,aZ]
  simp only []
  rw [gf (by rw [aN];omega)]
  refine (fa (L:=fun n i s=>db.l0 k n s i h.1 h.2.1 h.2.2.1) (R:=fun r s=>some (uI (ra (s++m3 r))++(s++m3 r),())) (Ty.z a_) h.2.2.1 (fun i s=>(s.size:Int)≤21+43*i) (fun n s hs=>?_) (fun n i s x rest g0 g1 hx hr hs ih=>?_) (n:=k) (s:=jC h.1++jC h.2.1++jC (h.2.2.1.length:Int)) (by omega) (by rw [aN,aN];omega)).trans (by unfold tA;rw [bF,bF])
  · have hc:=vA s
    simp only [db.l0,db.b0]
    rw [aQ (by omega),aK,tS hk (by omega),aZ]
    simp only []
    rw [qv hk hc.1 hc.2,aZ]
    simp only []
    rw [gf (by rw [show (uI (ra s)).size=4 from rfl];omega),show m3 []=⟨#[]⟩ from rfl,ku]
  · have hm:x ∈ h.2.2.1:=by rw [← hx];exact iE (by omega)
    have hz:=(h2 x hm).1.2
    have v1:=cB (x.1.size:Int)
    have v2:=cB x.2.1
    have v3:=cB x.2.2.1
    have v4:=cB x.2.2.2.1
    have v5:=cB x.2.2.2.2.1
    have ih:=ih (s++k8 x) (by have:=AK (e:=x);rw [aN];omega)
    simp only [db.l0,db.b0]
    rw [aO g1,ac,aI g0 g1,hx]
    simp only [gw hk,aZ]
    rw [gf (by omega),gf (by rw [aN];omega),gf (by rw [aN,aN];omega),gf (by rw [aN,aN,aN];omega),gf (by rw [aN,aN,aN,aN];omega),gf (by rw [aN,aN,aN,aN,aN];omega),aE (n:=i+1) (by omega) (by omega)]
    have e:s++jC (x.1.size:Int)++x.1++jC x.2.1++jC x.2.2.1++jC x.2.2.2.1++jC x.2.2.2.2.1=s++k8 x:=by
     unfold k8 jy
     simp only [bF]
    rw [e,ih]
    rw [show m3 (x::rest)=k8 x++m3 rest from rfl,bF]
def sw (x y:Ty.d a_):Bool:=(seq x.1 y.1)&&((x.2.1==y.2.1)&&((x.2.2.1==y.2.2.1)&&((x.2.2.2.1==y.2.2.2.1)&&(x.2.2.2.2.1==y.2.2.2.2.1))))
def uK:aS→aS→Bool
 | [],[]=>true
 | x::l,y::m=>sw x y&&uK l m
 | _,_=>false
theorem E3 {x y:Ty.d a_}:sw x y=true↔x=y:=by
 unfold sw
 simp only [iI,beq_iff_eq,dS]
 constructor
 · rintro ⟨h1,h2,h3,h4,h5⟩
   obtain ⟨a,b,c,d,e,_⟩:=x
   obtain ⟨a',b',c',d',e',_⟩:=y
   simp only at h1 h2 h3 h4 h5
   subst h1 h2 h3 h4 h5
   rfl
 · rintro rfl;exact ⟨rfl,rfl,rfl,rfl,rfl⟩
theorem sx:∀ {l m:aS},uK l m=true↔l=m
 | [],[]=>⟨fun _=>rfl,fun _=>rfl⟩
 | [],y::m=>⟨fun h=>(by cases h),fun h=>(by cases h)⟩
 | x::l,[]=>⟨fun h=>(by cases h),fun h=>(by cases h)⟩
 | x::l,y::m=>by
  unfold uK
  rw [iI,E3,sx,List.cons.injEq]
theorem HL:∀ {l m:aS},l.length≠m.length→uK l m=false:=fun {l m} h=>by
 cases c:uK l m with
 | false=>rfl
 | true=>rw [sx.1 c] at h;exact absurd rfl h
theorem sf {α:Type} {l:List α} {i:Nat} (z:α) (h:i<l.length):l.drop i=l.getD i z::l.drop (i+1):=by
 rw [List.drop_eq_getElem_cons h]
 simp [List.getD,h]
theorem sF {k:Nat} (hk:2 ^ 50≤k) {l m:aS} (hl:l.length≤1073741824):eJ.f k l m=some (uK l m,()):=by
 unfold eJ.f eJ.t
 by_cases hne:l.length=m.length
 · rw [show ((l.length:Int) != (m.length:Int))=false by rw [hne];simp,aK]
   refine (Mb (L:=fun n i (_:Unit)=>eJ.l0 k n l m i) (R:=fun i _=>some (uK (l.drop i.toNat) (m.drop i.toNat),())) l.length (fun _ _=>True) (fun n _ _=>?_) (fun n i _ h0 h1 _ ih=>?_) k 0 () (by omega) (by omega) (by omega) trivial).trans (by simp)
   · simp only [eJ.l0,eJ.b0]
     rw [aQ (by omega),aK,rH,List.drop_length,hne,List.drop_length]
     rfl
   · have ih:=ih () trivial
     have c1:i.toNat<l.length:=by omega
     simp only [eJ.l0,eJ.b0]
     rw [aO h1,ac,aI h0 h1,aI h0 (by omega),aE (n:=i+1) (by omega) (by omega),ih,sf (Ty.z a_) c1,sf (Ty.z a_) (l:=m) (i:=i.toNat) (by omega),show (i+1).toNat=i.toNat+1 by omega]
     show _=some (sw _ _&&uK _ _,())
     show (bif !(sw (l.getD i.toNat (Ty.z a_)) (m.getD i.toNat (Ty.z a_))) then _ else _)=_
     cases sw (l.getD i.toNat (Ty.z a_)) (m.getD i.toNat (Ty.z a_)) <;> rfl
 · rw [show ((l.length:Int) != (m.length:Int))=true from bne_iff_ne.2 (by omega),ac,HL hne]
def pV (mark:Int) (p:Option (Ty.d bK)) (x:Ty.d bK):Bool :=
 (x.2.2.1.1==4)&&(!decide ((x.2.2.1.2.1:Int) > mark)&&(match p with | none=>true | some y=>oG y.2.2.1.2.2.1 x.2.2.1.2.2.1))
def Cr (id:Int) (x:Ty.d bK):Ty.d a_:=(x.2.2.1.2.2.1,(id,(x.1,(x.2.1,(x.2.2.1.2.1,())))))
noncomputable def ga (id:Int) (s:ByteArray):Ty.d fm × Bool :=
 bif (bP s).2 != (s.size:Int) then (qK,false) else bif (bP s).1.length==0 then (qK,false) else
 bif ((bP s).1.getD ((bP s).1.length-1) (Ty.z bK)).2.2.1.1 != 5 then (qK,false) else
 bif !decide ((1:Int)≤id∧id≤100000) then (qK,false) else
 bif !p8 (pV ((bP s).1.getD ((bP s).1.length-1) (Ty.z bK)).2.2.1.2.1) none ((bP s).1.take ((bP s).1.length-1)) then (qK,false) else
 bif !ib ((bP s).1.getD ((bP s).1.length-1) (Ty.z bK)).2.2.1 (bX id ((bP s).1.take ((bP s).1.length-1))) then (qK,false) else
 (((s.size:Int),(((bP s).1.getD ((bP s).1.length-1) (Ty.z bK)).2.2.1.2.1,(((bP s).1.take ((bP s).1.length-1)).map (Cr id),()))),true)
theorem wt (id:Int):seq (aA aH id) ⟨#[]⟩=!decide ((1:Int)≤id∧id≤100000):=by
 by_cases h:(1:Int)≤id∧id≤100000
 · rw [aO h]
   have e:aA aH id=aH++iB id:=by unfold aA;rw [aO h];rfl
   rw [e,ky fun q=>?_]
   · rfl
   · have:=congrArg ByteArray.size q
     rw [aN] at this
     have s3:aH.size=3:=rfl
     have s0:(⟨#[]⟩:ByteArray).size=0:=rfl
     omega
 · rw [aQ h]
   have e:aA aH id=⟨#[]⟩:=by unfold aA;rw [aQ h];rfl
   rw [e,bO]
   rfl
theorem tI {k:Nat} (hk:2 ^ 50≤k) (id:Int) {s:ByteArray} (hs:s.size≤1073741823):eG.f k id s=some ((ga id s).1,((ga id s).2,())):=by
 have hln:=kp s
 unfold eG.f eG.t ga
 rw [o7 hk (by omega),aZ]
 simp only []
 generalize bP s=sc at hln ⊢
 obtain ⟨l,en⟩:=sc
 simp only at hln ⊢
 cases en != (s.size:Int) with
 | true=>rfl
 | false =>
  simp only [aK]
  by_cases h0:l.length=0
  · rw [show ((l.length:Int)==0)=true by rw [h0];rfl,show (l.length==0)=true by rw [h0];rfl]
    rfl
  · rw [show ((l.length:Int)==0)=false from mT (by omega),show (l.length==0)=false from mT h0]
    simp only [aK]
    have w1:aG ((l.length:Int)-1)=((l.length-1:Nat):Int):=by rw [aE (by omega) (by omega)];omega
    rw [w1,rH,aI (by omega) (by omega),aI (by omega) (by omega)]
    generalize hm:l.getD (l.length-1) (Ty.z bK)=m
    cases m.2.2.1.1 != 5 with
    | true=>rfl
    | false =>
     simp only [aK]
     rw [bd hk,aZ]
     simp only [wt]
     cases decide ((1:Int)≤id∧id≤100000) with
     | false=>rfl
     | true =>
      simp only [fC,aK]
      have hpl:(l.take (l.length-1)).length=l.length-1:=by rw [List.length_take];omega
      refine (qT (L:=fun n i=>eG.l0 k n id i [] 0 0 l ((l.take i.toNat).map (Cr id)) (s.size:Int) m.2.2.1.2.1 ((l.take i.toNat).map fun x=>x.2.2.1)) (Ty.z bK) (l.take (l.length-1)) (pV m.2.2.1.2.1)
       (bif !ib m.2.2.1 (bX id (l.take (l.length-1))) then some (qK,(false,())) else some (((s.size:Int),(m.2.2.1.2.1,((l.take (l.length-1)).map (Cr id),()))),(true,()))) (some (qK,(false,()))) (fun n=>?_) (fun n x h hx=>?_) (fun n i x y h0 h1 hx hy=>?_) (n:=k) (by omega)).trans (by
        cases p8 (pV m.2.2.1.2.1) none (l.take (l.length-1)) <;> cases ib m.2.2.1 (bX id (l.take (l.length-1))) <;> rfl)
      · simp only [eG.l0,eG.b0]
        rw [hpl,rH,aE (n:=((l.length-1:Nat):Int)+1) (by omega) (by omega),aQ (by omega),aK,w1,rH,aI (by omega) (by omega),hm,qf hk (by rw [List.length_map,hpl];omega),aZ,List.length_map,hpl]
        unfold ib bX bne
        rw [List.length_map,hpl,List.map_map]
        show (bif !(m.2.2.1.2.2.2.2.1==((l.length-1:Nat):Int)) then _ else bif !(m.2.2.1.2.2.2.2.2.1==zn ((l.take (l.length-1)).map fun x=>x.2.2.1)) then _ else _)=bif !((m.2.2.1.2.2.2.2.1==((l.length-1:Nat):Int))&&(m.2.2.1.2.2.2.2.2.1==zn ((l.take (l.length-1)).map fun x=>x.2.2.1))) then _ else _
        cases m.2.2.1.2.2.2.2.1==((l.length-1:Nat):Int) <;> cases m.2.2.1.2.2.2.2.2.1==zn ((l.take (l.length-1)).map fun x=>x.2.2.1) <;> rfl
      · rw [hpl] at h
        have hx':l.getD 0 (Ty.z bK)=x:=by rw [← hx,show Int.toNat 0=0 from rfl,oQ (by omega)]
        simp only [eG.l0,eG.b0]
        rw [aE (n:=(0:Int)+1) (by omega) (by omega),aO (by omega),ac,aI (by omega) (by omega),show Int.toNat 0=0 from rfl,hx',aQ (show ¬ (0:Int) > 0 by omega),aK,cO (by simp) (by decide),aI (by omega) (by omega),aI (by omega) (by omega),cO (by simp) (by decide),show Int.toNat 1=0+1 from rfl,ro (z:=Ty.z bK) (show 0<l.length by omega),hx']
        simp only [pV,bne]
        cases x.2.2.1.1==4 <;> cases decide ((x.2.2.1.2.1:Int) > m.2.2.1.2.1) <;> rfl
      · rw [hpl] at h1
        have hx':l.getD i.toNat (Ty.z bK)=x:=by rw [← hx,oQ (by omega)]
        have hy':l.getD (i-1).toNat (Ty.z bK)=y:=by rw [← hy,oQ (by omega)]
        simp only [eG.l0,eG.b0]
        rw [aE (n:=i+1) (by omega) (by omega),aO (by omega),ac,aI (by omega) (by omega),hx',aO (show i > 0 by omega),aE (n:=i-1) (by omega) (by omega),aI (by omega) (by omega),hy',nI,cO (by rw [List.length_map,List.length_take];omega) (by decide),aI (by omega) (by omega),aI (by omega) (by omega),cO (by rw [List.length_map,List.length_take];omega) (by decide),show (i+1).toNat=i.toNat+1 by omega,ro (z:=Ty.z bK) (show i.toNat<l.length by omega),hx',List.map_append,List.map_append]
        simp only [pV,bne]
        cases x.2.2.1.1==4 <;> cases decide ((x.2.2.1.2.1:Int) > m.2.2.1.2.1) <;> cases oG y.2.2.1.2.2.1 x.2.2.1.2.2.1 <;> rfl
noncomputable def oR (id:Int) (s:ByteArray) (h:Ty.d fm):Bool:=(ga id s).2&&(((ga id s).1.1==h.1)&&(((ga id s).1.2.1==h.2.1)&&uK (ga id s).1.2.2.1 h.2.2.1))
theorem Fh (id:Int) {s:ByteArray} (hs:s.size≤1073741823):(ga id s).1.2.2.1.length≤1073741824:=by
 have hln:=kp s
 unfold ga
 generalize bP s=sc at hln ⊢
 obtain ⟨l,en⟩:=sc
 simp only at hln ⊢
 cases en != (s.size:Int)
 · cases l.length==0
   · cases (l.getD (l.length-1) (Ty.z bK)).2.2.1.1 != 5
     · cases !decide ((1:Int)≤id∧id≤100000)
       · cases !p8 (pV (l.getD (l.length-1) (Ty.z bK)).2.2.1.2.1) none (l.take (l.length-1))
         · cases !ib (l.getD (l.length-1) (Ty.z bK)).2.2.1 (bX id (l.take (l.length-1)))
           · show ((l.take (l.length-1)).map (Cr id)).length≤1073741824
             rw [List.length_map,List.length_take]
             omega
           · exact Nat.zero_le _
         · exact Nat.zero_le _
       · exact Nat.zero_le _
     · exact Nat.zero_le _
   · exact Nat.zero_le _
 · exact Nat.zero_le _
theorem wk {k:Nat} (hk:2 ^ 50≤k) (id:Int) {s:ByteArray} (hs:s.size≤1073741823) (h:Ty.d fm):hZ.f k id s h=some (oR id s h,()):=by
 have hl:=Fh id hs
 unfold hZ.f hZ.t oR
 rw [tI hk id hs,aZ]
 simp only []
 rw [sF hk hl,aZ]
 cases (ga id s).2 <;> cases (ga id s).1.1==h.1 <;> cases (ga id s).1.2.1==h.2.1 <;> rfl
end Go.Proofs.YthjppgafienaoaaGreatDoor.G
namespace Go.V
def lj {α:Type} (o:Option α) (P:α→Prop):Prop:=∃ r,o=some r∧P r
section
variable {α β:Type} {P P':α→Prop} {Q:β→Prop}
theorem am {r:α} (h:P r):lj (some r) P:=⟨r,rfl,h⟩
theorem Ez {o:Option α} {r:α} (e:o=some r) (h:P r):lj o P:=⟨r,e,h⟩
theorem Lw {o:Option α} {r:α} (h:lj o (fun x=>x=r)):o=some r:=by
 obtain ⟨x,e,rfl⟩:=h
 exact e
theorem ov {o:Option α} (h:lj o P) (hp:∀ r,P r→P' r):lj o P':=by
 obtain ⟨r,e,hr⟩:=h
 exact ⟨r,e,hp r hr⟩
theorem cW {o:Option α} {g:α→Option β} (h:lj o P) (hg:∀ r,P r→lj (g r) Q):lj (Option.bind o g) Q:=by
 obtain ⟨r,e,hr⟩:=h
 rw [e]
 exact hg r hr
theorem cM {o:Option α} {r:α} {g:α→Option β} (e:o=some r) (hg:lj (g r) Q):lj (Option.bind o g) Q:=by
 rw [e]
 exact hg
theorem bm {b:Bool} {x y:Option α} (h1:b=true→lj x P) (h2:b=false→lj y P):lj (bif b then x else y) P:=by
 cases b
 · exact h2 rfl
 · exact h1 rfl
theorem m7 {b:Bool} {x y:Option α} (hb:b=true) (h:lj x P):lj (bif b then x else y) P:=by rw [hb];exact h
theorem qw {b:Bool} {x y:Option α} (hb:b=false) (h:lj y P):lj (bif b then x else y) P:=by rw [hb];exact h
theorem gR {i n:Int} {x:Option α} (h0:0≤i) (h1:i<n) (h:lj x P):lj (aw i n x) P:=by rw [aI h0 h1];exact h
theorem Gj {i n:Int} {x:Option α} (h0:0≤i) (h1:i≤n) (h:lj x P):lj (pE i n x) P:=by rw [dX h0 h1];exact h
theorem vL {b n:Nat} {x:Option α} (h0:n≤1099511627776) (hb:b≤128) (h:lj x P):lj (rm b n x) P:=by rw [cO h0 hb];exact h
end
end Go.V
namespace Go.Proofs.YthjppgafienaoaaGreatDoor.G
open Go.V
noncomputable def im (s:ByteArray):Ty.d fm × Bool:=pc (fun h=>n_ h=true) dM qK s
def RH (s:ByteArray) (o:Option (Ty.d fm × Bool × Unit)):Prop:=(∃ h,n_ h=true∧dM h=s∧o=some (h,(true,())))∨o=some (qK,(false,()))
theorem Em (s:ByteArray):RH s (some (qK,(false,()))) := .inr rfl
theorem Ix {s:ByteArray} (hs:4≤s.size) (h:Ty.d fm):RH s (bif !seq (dM h) s then some (qK,(false,())) else some (h,(true,()))):=by
 cases c:seq (dM h) s with
 | false=>exact .inr rfl
 | true =>
  have e:=dS.1 c
  refine .inl ⟨h,?_,e,rfl⟩
  cases q:n_ h with
  | true=>rfl
  | false =>
   unfold dM at e
   rw [if_neg (by rw [q];decide)] at e
   rw [← e] at hs
   exact absurd hs (by decide)
theorem IH {k:Nat} (hk:2 ^ 50≤k) {s:ByteArray} (hs:s.size≤1073741824) {m:Int} (h0:0≤m) (hm:m≤4):∀ (d n:Nat) (pos j:Int) (out:List Int),j+(d:Int)=m→0≤j→d<n→0≤pos→pos≤s.size→(out.length:Int)=j →
 lj (bj.l0 k n s pos m j out) (fun r=>(r.2.1 = -1∨(pos≤r.2.1∧r.2.1≤(s.size:Int)))∧(r.1.length:Int)=m):=by
 intro d
 induction d with
 | zero =>
  intro n pos j out h1 h2 hn h3 h4 h5
  obtain ⟨n,rfl⟩:∃ q,n=q+1:=⟨n-1,by omega⟩
  simp only [bj.l0,bj.b0]
  exact qw (aQ (by omega)) (am ⟨.inr ⟨Int.le_refl _,h4⟩,by show (out.length:Int)=m;omega⟩)
 | succ d ih =>
  intro n pos j out h1 h2 hn h3 h4 h5
  obtain ⟨n,rfl⟩:∃ q,n=q+1:=⟨n-1,by omega⟩
  have hr:=C8 (ByteArray.extract s pos.toNat s.size)
  rw [qG] at hr
  simp only [bj.l0,bj.b0]
  refine m7 (aO (by omega)) (Gj h3 h4 (cM (g8 hk _) ?_))
  generalize G2 (rv 7 (nb (ByteArray.extract s pos.toNat s.size)))=r at hr
  refine bm (fun _=>?_) (fun _=>?_)
  · rw [yK h0 (by omega) (by decide)]
    exact am ⟨.inl rfl,by show ((List.replicate m.toNat _).length:Int)=m;rw [List.length_replicate];omega⟩
  · rw [aE (n:=pos+r.2.1) (by omega) (by omega),aE (n:=j+1) (by omega) (by omega)]
    refine vL (by omega) (by decide) (ov (ih n (pos+r.2.1) (j+1) (out++[r.1]) (by omega) (by omega) (by omega) (by omega) (by omega) (by rw [d_];omega)) fun x hx=>⟨?_,hx.2⟩)
    rcases hx.1 with q | q
    · exact .inl q
    · exact .inr ⟨by omega,q.2⟩
theorem Du {k:Nat} (hk:2 ^ 50≤k) {s:ByteArray} (hs:s.size≤1073741824) {m pos:Int} (h0:0≤m) (hm:m≤4) (h1:0≤pos) (h2:pos≤s.size) :
 lj (bj.f k s pos m) (fun r=>(r.2.1 = -1∨(pos≤r.2.1∧r.2.1≤(s.size:Int)))∧(r.1.length:Int)=m):=by
 unfold bj.f bj.t
 exact IH hk hs h0 hm m.toNat k pos 0 [] (by omega) (by omega) (by omega) h1 h2 rfl
def ES (x:Int):Prop:=0≤x∧x≤1000000
theorem KZ {x:Int} (h:ES x):∃ n:Nat,n<562949953421312∧x=(n:Int)∧jC x=bL n:=by
 obtain ⟨n,rfl⟩:=Int.eq_ofNat_of_zero_le h.1
 have:=h.2
 exact ⟨n,by omega,rfl,eD (by omega)⟩
theorem Dz {k:Nat} (hk:2 ^ 50≤k) {m:Int} (hm:m≤4):∀ (xs:List Int) (pre t:ByteArray) (n:Nat) (j:Int) (out:List Int),(∀ x ∈ xs,ES x)→j+(xs.length:Int)=m→0≤j→xs.length<n→(out.length:Int)≤j→pre.size+((gK xs).size+t.size)≤1073741824 →
 bj.l0 k n (pre++(gK xs++t)) (pre.size:Int) m j out=some (out++xs,(((pre.size+(gK xs).size:Nat):Int),()))
 | [],pre,t,n,j,out,hx,h1,h2,hn,h3,hz=>by
  obtain ⟨n,rfl⟩:∃ q,n=q+1:=⟨n-1,by omega⟩
  simp only [List.length_nil] at h1
  simp only [bj.l0,bj.b0]
  rw [aQ (by omega),aK,List.append_nil]
  rfl
 | x::xs,pre,t,n,j,out,hx,h1,h2,hn,h3,hz=>by
  obtain ⟨n,rfl⟩:∃ q,n=q+1:=⟨n-1,by omega⟩
  obtain ⟨a,ha,rfl,hv⟩:=KZ (hx x (li ..))
  have hva:=ax a
  rw [mB] at h1 hn
  have e1:gK ((a:Int)::xs)=bL a++gK xs:=by rw [gK,hv]
  rw [e1,aN] at hz
  rw [e1]
  have e2:pre++(bL a++gK xs++t)=pre++bL a++(gK xs++t):=by simp only [bF]
  have ih:=Dz hk hm xs (pre++bL a) t n (j+1) (out++[(a:Int)]) (fun y hy=>hx y (nX _ hy)) (by omega) (by omega) (by omega) (by rw [d_];omega) (by rw [aN];omega)
  simp only [bj.l0,bj.b0]
  rw [aO (by omega),ac,dX (by omega) (by rw [aN];omega),rH,eO,bF,cr hk ha,aZ]
  simp only []
  rw [show (((bL a).size:Int)==0)=false from mT (by omega),aK,cO (by omega) (by decide),um,aE (by omega) (by omega),aE (n:=j+1) (by omega) (by omega)]
  rw [aN] at ih
  rw [← bF pre,ih,rP,aN,Nat.add_assoc]
  rfl
theorem GN {k:Nat} (hk:2 ^ 50≤k) {xs:List Int} (pre t:ByteArray) (hx:∀ x ∈ xs,ES x) (hl:xs.length≤4) (hz:pre.size+((gK xs).size+t.size)≤1073741824) :
 bj.f k (pre++(gK xs++t)) (pre.size:Int) (xs.length:Int)=some (xs,(((pre.size+(gK xs).size:Nat):Int),())):=by
 unfold bj.f bj.t
 exact Dz hk (by omega) xs pre t k 0 [] hx (by omega) (by omega) (by omega) (by simp) hz
theorem Na {k:Nat} (hk:2 ^ 50≤k) {s:ByteArray} (hs:s.size≤1073741824):lj (ck.f k s) (fun r=>r.2.1.size≤s.size):=by
 rcases od s with ⟨u,t,hu,rfl⟩ | h
 · rw [aN,aN] at hs
   exact Ez (wV hk hu (by rw [aN];omega)) (by show t.size≤_;rw [aN,aN];omega)
 · exact Ez (zf hk (by omega) h) (Nat.zero_le _)
theorem EK {k:Nat} (hk:2 ^ 50≤k) {s:ByteArray} (h4:4≤s.size) (hs:s.size≤1073741824) (z:aS) (z1 z2 a b:Int) {xs:List Int} (hx:xs.length=3) (hc:xs.getD 2 (Ty.z (.int .i64))≤(20:Int)):∀ (d n:Nat) (pos j:Int) (out:aS),j+(d:Int)=20→0≤j→d<n→0≤pos→pos≤s.size→(out.length:Int)≤j →
 RH s (bS.l0 k n s pos j z z1 z2 xs out a b):=by
 intro d
 induction d with
 | zero =>
  intro n pos j out h1 h2 hn h3 h5 h6
  obtain ⟨n,rfl⟩:∃ q,n=q+1:=⟨n-1,by omega⟩
  simp only [bS.l0,bS.b0]
  rw [aI (by omega) (by omega),aQ (show ¬ j<xs.getD 2 (Ty.z (.int .i64)) by omega),aK,m5 hk,aZ]
  exact Ix h4 _
 | succ d ih =>
  intro n pos j out h1 h2 hn h3 h5 h6
  obtain ⟨n,rfl⟩:∃ q,n=q+1:=⟨n-1,by omega⟩
  have hz:=qG s pos.toNat
  simp only [bS.l0,bS.b0]
  rw [aI (by omega) (by omega)]
  by_cases c:j<xs.getD 2 (Ty.z (.int .i64))
  · rw [aO c,ac,dX h3 h5]
    obtain ⟨r2,e2,q2⟩:=Na hk (s:=ByteArray.extract s pos.toNat s.size) (by omega)
    rw [e2,aZ]
    obtain ⟨r3,e3,q3,q4⟩:=Du hk (s:=r2.2.1) (m:=4) (pos:=0) (by omega) (by omega) (by omega) (by omega) (by omega)
    rw [e3,aZ]
    cases r2.2.2.1 with
    | false=>exact Em s
    | true =>
     simp only [fC,aK]
     by_cases c3:r3.2.1<0
     · rw [aO c3];exact Em s
     · rw [aQ c3,aK,aI (by omega) (by omega),aI (by omega) (by omega),aI (by omega) (by omega),aI (by omega) (by omega),cO (by omega) (by decide),aE (n:=(s.size:Int)-(r2.2.1.size:Int)) (by omega) (by omega),aE (n:=(s.size:Int)-(r2.2.1.size:Int)+r3.2.1) (by omega) (by omega),aE (n:=j+1) (by omega) (by omega)]
       exact ih n _ (j+1) _ (by omega) (by omega) (by omega) (by omega) (by omega) (by rw [d_];omega)
  · rw [aQ c,aK,m5 hk,aZ]
    exact Ix h4 _
theorem G_ {k:Nat} (hk:2 ^ 50≤k) {s:ByteArray} (hs:s.size≤1073741824):RH s (bS.f k s):=by
 unfold bS.f bS.t
 by_cases h4:(s.size:Int)<4
 · rw [aO h4];exact Em s
 · rw [aQ h4,aK]
   obtain ⟨r,e,q1,q2⟩:=Du hk (s:=s) (m:=3) (pos:=4) hs (by omega) (by omega) (by omega) (by omega)
   rw [e,aZ]
   by_cases c1:r.2.1<0
   · rw [aO c1];exact Em s
   · rw [aQ c1,aK,aI (by omega) (by omega)]
     by_cases c2:r.1.getD 2 (Ty.z (.int .i64)) > (20:Int)
     · rw [aO c2];exact Em s
     · rw [aQ c2,aK,aI (by omega) (by omega),aI (by omega) (by omega)]
       exact EK hk (by omega) hs [] 0 0 _ _ (by omega) (Int.not_lt.1 c2) 20 k r.2.1 0 [] (by omega) (by omega) (by omega) (by omega) (by omega) (by simp)
theorem Iu {e:Ty.d a_} {l:aS} (hl:pq l=true) (ho:BN l=true) (he:e ∈ l):∀ x ∈ [(e.2.1:Int),e.2.2.1,e.2.2.2.1,e.2.2.2.2.1],ES x:=by
 obtain ⟨_,q⟩:=mO hl
 obtain ⟨_,⟨a1,a2⟩,b1,⟨c1,c2⟩,⟨d1,d2⟩⟩:=q e he
 have h2:=List.all_eq_true.1 ho e he
 unfold GB at h2
 rw [iI] at h2
 have b2:LE.le (α:=Int) e.2.2.1 100000:=by
  refine Int.not_lt.1 fun w=>?_
  have:(!decide ((e.2.2.1:Int) > 100000))=false:=by rw [aO w];rfl
  rw [this] at h2
  cases h2.2
 intro x hx
 simp only [List.mem_cons,List.not_mem_nil,or_false] at hx
 rcases hx with rfl | rfl | rfl | rfl
 · exact ⟨by omega,by omega⟩
 · exact ⟨b1,by omega⟩
 · exact ⟨by omega,by omega⟩
 · exact ⟨by omega,d2⟩
theorem Hn (e:Ty.d a_) (h:e.1.size≤8) (t:ByteArray):k8 e++t=bL e.1.size++(e.1++(gK [(e.2.1:Int),e.2.2.1,e.2.2.2.1,e.2.2.2.2.1]++t)):=by
 unfold k8 jy
 rw [eD (by omega)]
 simp only [gK,ku,bF]
theorem xQ {k:Nat} (hk:2 ^ 50≤k) {h:Ty.d fm} (q:n_ h=true) (z:aS) (z1 z2:Int):∀ (r:aS) (pre:ByteArray) (n:Nat) (j:Int) (out:aS),(∀ e ∈ r,e ∈ h.2.2.1)→out++r=h.2.2.1→(out.length:Int)=j→r.length<n→dM h=pre++m3 r→pre.size≤1000 →
 bS.l0 k n (dM h) (pre.size:Int) j z z1 z2 [(h.1:Int),h.2.1,(h.2.2.1.length:Int)] out h.1 h.2.1=some (h,(true,()))
 | [],pre,n,j,out,hr,ho,hj,hn,hs,hp=>by
  obtain ⟨n,rfl⟩:∃ q,n=q+1:=⟨n-1,by omega⟩
  rw [List.append_nil] at ho
  simp only [bS.l0,bS.b0]
  rw [aI (by omega) (by simp),show List.getD [(h.1:Int),h.2.1,(h.2.2.1.length:Int)] 2 (Ty.z (.int .i64))=(h.2.2.1.length:Int) from rfl,ho,aQ (by rw [← hj,ho];omega),aK,show (h.1,(h.2.1,(h.2.2.1,())))=h from rfl,m5 hk,aZ]
  simp only [bO]
  rfl
 | e::r,pre,n,j,out,hr,ho,hj,hn,hs,hp=>by
  obtain ⟨n,rfl⟩:∃ q,n=q+1:=⟨n-1,by omega⟩
  have hlen:h.2.2.1.length=out.length+(r.length+1):=by rw [← ho,zT,mB]
  have he:=hr e (li ..)
  have hd:=qM q
  have h1:BN h.2.2.1=true:=by unfold n_ at q;rw [iI,iI,iI] at q;exact q.2.2.2
  have hk8:=((mO hd).2 e he).1.2
  have h20:=(mO hd).1
  have hnum:=Iu hd h1 he
  have hz:=pW h
  have hf:=Hn e hk8 (m3 r)
  have hs2:dM h=pre++(bL e.1.size++(e.1++(gK [(e.2.1:Int),e.2.2.1,e.2.2.2.1,e.2.2.2.2.1]++m3 r))):=by rw [← hf];exact hs
  have hs3:dM h=(pre++k8 e)++m3 r:=by rw [bF];exact hs
  have hsz:=congrArg ByteArray.size hs2
  simp only [aN] at hsz
  have hsz3:=congrArg ByteArray.size hs3
  rw [aN,aN] at hsz3
  have ih:=xQ hk q z z1 z2 r (pre++k8 e) n (j+1) (out++[e]) (fun x hx=>hr x (nX _ hx)) (by rw [rP];exact ho) (by rw [d_];omega) (by rw [mB] at hn;omega) hs3 (by rw [aN];omega)
  have hv:=GN hk (xs:=[(e.2.1:Int),e.2.2.1,e.2.2.2.1,e.2.2.2.2.1]) ⟨#[]⟩ (m3 r) hnum (by simp) (by rw [e0];omega)
  rw [se,e0] at hv
  simp only [bS.l0,bS.b0]
  rw [aI (by omega) (by simp),show List.getD [(h.1:Int),h.2.1,(h.2.2.1.length:Int)] 2 (Ty.z (.int .i64))=(h.2.2.1.length:Int) from rfl,aO (by omega),ac,dX (by omega) (by omega),rH]
  have ex:ByteArray.extract (dM h) pre.size (dM h).size=bL e.1.size++(e.1++(gK [(e.2.1:Int),e.2.2.1,e.2.2.2.1,e.2.2.2.2.1]++m3 r)):=by rw [hs2,eO]
  rw [ex,wV hk (by omega) (by simp only [aN];omega),aZ]
  simp only []
  rw [show bj.f k (gK [(e.2.1:Int),e.2.2.1,e.2.2.2.1,e.2.2.2.2.1]++m3 r) 0 4=_ from hv,aZ]
  simp only [fC,aK]
  rw [aQ (by omega),aK,aI (by omega) (by simp),aI (by omega) (by simp),aI (by omega) (by simp),aI (by omega) (by simp),cO (by omega) (by decide),aE (n:=j+1) (by omega) (by omega)]
  have hsv:(gK [(e.2.1:Int),e.2.2.1,e.2.2.2.1,e.2.2.2.2.1]++m3 r).size=(gK [(e.2.1:Int),e.2.2.1,e.2.2.2.1,e.2.2.2.2.1]).size+(m3 r).size:=aN _ _
  have w:aG (aG (((dM h).size:Int)-((gK [(e.2.1:Int),e.2.2.1,e.2.2.2.1,e.2.2.2.2.1]++m3 r).size:Int))+((0+(gK [(e.2.1:Int),e.2.2.1,e.2.2.2.1,e.2.2.2.2.1]).size:Nat):Int))=((pre++k8 e).size:Int):=by
   have hpe:=aN pre (k8 e)
   rw [aE (n:=((dM h).size:Int)-_) (by omega) (by omega),aE (by omega) (by omega)]
   omega
  rw [w]
  exact ih
theorem I4 {h:Ty.d fm} (q:n_ h=true):∀ x ∈ [(h.1:Int),h.2.1,(h.2.2.1.length:Int)],ES x:=by
 have h20:=(mO (qM q)).1
 unfold n_ at q
 rw [iI,iI,decide_eq_true_eq,decide_eq_true_eq] at q
 obtain ⟨⟨a1,a2⟩,⟨b1,b2⟩,_⟩:=q
 intro x hx
 simp only [List.mem_cons,List.not_mem_nil,or_false] at hx
 rcases hx with rfl | rfl | rfl
 · exact ⟨a1,by have:LE.le (α:=Int) h.1 100000:=a2;omega⟩
 · exact ⟨b1,b2⟩
 · exact ⟨by omega,by omega⟩
theorem zu {h:Ty.d fm} (q:n_ h=true):dM h=uI (ra (tA h))++(gK [(h.1:Int),h.2.1,(h.2.2.1.length:Int)]++m3 h.2.2.1):=by
 unfold dM
 rw [if_pos q]
 unfold tA
 simp only [gK,ku,bF]
theorem uG (x:Int):(uI x).size=4:=rfl
theorem Hu {k:Nat} (hk:2 ^ 50≤k) {h:Ty.d fm} (q:n_ h=true):bS.f k (dM h)=some (h,(true,())):=by
 have h20:=(mO (qM q)).1
 have hf:=zu q
 have hz:=pW h
 have hsz:=congrArg ByteArray.size hf
 rw [aN,aN,uG] at hsz
 have hv:=GN hk (xs:=[(h.1:Int),h.2.1,(h.2.2.1.length:Int)]) (uI (ra (tA h))) (m3 h.2.2.1) (I4 q) (by simp) (by rw [uG];omega)
 rw [← hf,uG] at hv
 unfold bS.f bS.t
 rw [aQ (by omega),aK,show bj.f k (dM h) 4 3=_ from hv,aZ]
 simp only []
 rw [aQ (by omega),aK,aI (by omega) (by simp),show List.getD [(h.1:Int),h.2.1,(h.2.2.1.length:Int)] 2 (Ty.z (.int .i64))=(h.2.2.1.length:Int) from rfl,aQ (by omega),aK,aI (by omega) (by simp),aI (by omega) (by simp)]
 have:=xQ hk q [] 0 0 h.2.2.1 (uI (ra (tA h))++gK [(h.1:Int),h.2.1,(h.2.2.1.length:Int)]) k 0 [] (fun e he=>he) rfl rfl (by omega) (by rw [bF];exact hf) (by rw [aN,uG];omega)
 rw [aN,uG] at this
 exact this
theorem rK {k:Nat} (hk:2 ^ 50≤k) {s:ByteArray} (hs:s.size≤1073741824):bS.f k s=some ((im s).1,((im s).2,())) :=
 sv (fun h h1 h2=>by rw [← h2];exact Hu hk h1) (G_ hk hs)
theorem uZ {s:ByteArray}:(im s).1.2.2.1.length≤20:=by
 rcases kI (fun h=>n_ h=true) dM qK s with ⟨r,h1,_,e⟩ | e
 · unfold im
   rw [e]
   exact (mO (qM h1)).1
 · unfold im
   rw [e]
   exact Nat.zero_le _
def mH:Ty.d aF:=((0,([],())),([],(0,(0,(0,())))))
noncomputable def uT (d:Ty.d aB) (x:Int) (last:Bool):Bool:=(ah d (aA aH x)).2&&(last||!decide ((bP (fL d x)).2<((fL d x).size:Int)))
noncomputable def jZ (d:Ty.d aB):List Int→Bool
 | []=>true
 | x::l=>uT d x l.isEmpty&&jZ d l
noncomputable def xT (d:Ty.d aB) (x:Int):ai:=bX x (bP (fL d x)).1
noncomputable def oy (d:Ty.d aB):List Int→ai
 | []=>[]
 | x::l=>xT d x++oy d l
noncomputable def iT (d:Ty.d aB) (x:Int):Ty.d fm:=(im (ah d (aA dY x)).1).1
noncomputable def qz (d:Ty.d aB) (x:Int):Bool:=(ah d (aA dY x)).2&&((im (ah d (aA dY x)).1).2&&oR x (fL d x) (iT d x))
noncomputable def lG (d:Ty.d aB) (ids:List Int):Ty.d i_ :=
 bif qz d (ids.getD 0 0) then jX ((iT d (ids.getD 0 0)).2.2.1,((iT d (ids.getD 0 0)).2.1,(0,()))) (oy d (ids.drop 1)) else jX ([],(0,(0,()))) (oy d ids)
noncomputable def KS (v:Ty.d bo) (en:Int) (g:Ty.d i_) (hi:Int):Ty.d aF:=(v,(g.1,(aG (g.2.1+1),(en,(hi,())))))
noncomputable def vi (v:Ty.d bo) (en:Int) (x:Ty.d aB) (g:Ty.d i_) (hi:Int):Ty.d aF × RD :=
 bif g.2.2.1 != 0 then (mH,(x,3)) else bif (iU v.2.1 x).2 != 0 then (mH,((iU v.2.1 x).1,iz (iU v.2.1 x).2)) else
 (KS v en g hi,((iU v.2.1 x).1,0))
noncomputable def rV (v:Ty.d bo) (d:Ty.d aB):Ty.d aF × RD :=
 bif !jZ d v.2.1 then (mH,(d,3)) else
 bif (fw (af v.2.1) d).2 != 0 then (mH,((fw (af v.2.1) d).1,iz (fw (af v.2.1) d).2)) else
 vi v (bP (fL d (af v.2.1))).2 (fw (af v.2.1) d).1 (lG (fw (af v.2.1) d).1 v.2.1) (bif qz (fw (af v.2.1) d).1 (v.2.1.getD 0 0) then v.2.1.getD 0 0 else 0)
def wH:Ty.d bo:=(2,([1],()))
noncomputable def kr (d:Ty.d aB):RD:=hF (hF (iU [] d) fun x=>yx x (aA aH 1)) (br wH)
noncomputable def qS (d:Ty.d aB):Ty.d aF × RD :=
 bif (kr d).2==0 then ((wH,([],(1,(0,(0,()))))),((kr d).1,0)) else (mH,((kr d).1,iz (kr d).2))
noncomputable def kG (d:Ty.d aB):Ty.d aF × RD :=
 bif !iL d then (mH,(d,4)) else bif d.2.2.2.1 then (mH,(d,1)) else
 bif !(ah d eQ).2 then qS d else
 bif !(fo (ah d eQ).1).2 then (mH,(d,3)) else rV (fo (ah d eQ).1).1 d
def oS (q:Ty.d aF × RD):Ty.d aF × Ty.d aB × Int × Unit:=(q.1,(q.2.1,(q.2.2,())))
theorem Ga {lim:Int}:∀ (l:List Int) (p:Option Int),p8 (o6 lim) p l=true→(∀ q,p=some q→∀ x ∈ l,q<x)∧l.Pairwise (fun a b=>a<b)
 | [],p,_=>⟨fun q _ x hx=>(by cases hx),List.Pairwise.nil⟩
 | y::l,p,h=>by
  unfold p8 at h
  rw [iI] at h
  obtain ⟨h1,h2⟩:=h
  obtain ⟨a,b⟩:=Ga l (some y) h2
  have hy:∀ q,p=some q→q<y:=fun q hq=>by
   subst hq
   unfold o6 at h1
   rw [iI] at h1
   exact of_decide_eq_true h1.2
  refine ⟨fun q hq x hx=>?_,List.pairwise_cons.2 ⟨a y rfl,b⟩⟩
  rcases List.mem_cons.1 hx with e | e
  · rw [e];exact hy q hq
  · have:=a y rfl x e
    have:=hy q hq
    omega
theorem HJ {v:Ty.d bo} (h:dL v=true):v.2.1.Pairwise (fun a b=>a<b):=by
 unfold dL at h
 rw [iI,iI] at h
 exact (Ga _ _ h.2.2).2
theorem J5 {α:Type} {l m:List α} {n:Nat} {z:α} (h:l.length≤n):(l++m).getD n z=m.getD (n-l.length) z:=by
 simp [List.getD,List.getElem?_append_right h]
theorem Kx {ids:List Int} (hp:ids.Pairwise (fun a b=>a<b)) {i:Nat} {x:Int} {rest:List Int} (h:ids.drop i=x::rest):(x==af ids)=rest.isEmpty:=by
 have hi:=KF h
 have hlen:=congrArg List.length h
 rw [List.length_drop,mB] at hlen
 have e:ids=ids.take i++(x::rest):=by rw [← h,List.take_append_drop]
 have hl:af ids=(x::rest).getD rest.length 0:=by
  unfold af
  have ht:(ids.take i).length=i:=by rw [List.length_take];omega
  conv=>lhs;rw [e]
  rw [J5 (by rw [ht,zT,ht,mB];omega),ht,zT,ht,mB]
  congr 1
  omega
 cases rest with
 | nil=>rw [hl];exact beq_self_eq_true x
 | cons y r =>
  rw [hl]
  have hm:(x::y::r).getD (y::r).length 0 ∈ y::r:=by
   show (y::r).getD r.length 0 ∈ y::r
   exact iE (by rw [mB];omega)
  have hpd:(x::y::r).Pairwise (fun a b=>a<b):=by rw [← h];exact hp.drop
  have:=(List.pairwise_cons.1 hpd).1 _ hm
  exact mT (by omega)
theorem qL {d:Ty.d aB} (h:DR d) (x:Int):(fL d x).size≤100000:=by
 have:=iM d (aA aH x)
 have h2:=h.use
 have h3:=h.cap1
 unfold fL
 omega
theorem zJ {d:Ty.d aB} (h:DR d) (x:Int):(xT d x).length≤100000:=by
 have h1:=qL h x
 have h2:=kp (fL d x)
 unfold xT
 rw [vx]
 omega
theorem pn {d:Ty.d aB} (h:DR d):∀ l:List Int,(oy d l).length≤100000*l.length
 | []=>Nat.zero_le _
 | x::l=>by
  have h1:=zJ h x
  have h2:=pn h l
  unfold oy
  rw [zT,mB]
  omega
theorem H8 (k:Nat):∀ n,eY.l1 k n=b_.l0 k n
 | 0=>rfl
 | n+1=>by show eY.b1 k (eY.l1 k n)=b_.b0 k (b_.l0 k n);rw [H8 k n];rfl
theorem Kz (k:Nat):∀ n,eY.l0 k n=b_.l0 k n
 | 0=>rfl
 | n+1=>by show eY.b0 k (eY.l1 k n)=b_.b0 k (b_.l0 k n);rw [H8 k n];rfl
theorem Mj (k:Nat):eY.f k=b_.f k:=by
 unfold eY.f b_.f
 rw [Kz k k]
 rfl
theorem Bv {k:Nat} (hk:2 ^ 50≤k) {d:Ty.d aB} (h:DR d):ic.f k d=some (oS (qS d)):=by
 have h1:=sN [] d h
 have hv:dL wH=true:=by decide
 unfold ic.f ic.t qS kr
 rw [Mj k,uk hk h (by decide),aZ]
 simp only [show ((0,(([]:List Int),())):Ty.d bo).2.1=[] from rfl]
 generalize iU [] d=r at h1 ⊢
 unfold hF
 simp only [bne,j5]
 cases c:r.2==0 with
 | false=>simp only [u6,ac,aK,c];rfl
 | true =>
  simp only [fC,aK,ac]
  rw [bd hk,aZ]
  simp only []
  have hn:=wF (.inl rfl:aH=aH∨aH=dY) 1
  rw [tO hk h1.sz (by omega),aZ]
  simp only [dJ,aZ]
  cases c2:(yx r.1 (aA aH 1)).2==0 with
  | false=>simp only [u6,ac,aK,c2];rfl
  | true =>
   simp only [fC,aK,ac]
   rw [show ((2,([1],())):Ty.d bo)=wH from rfl,oV hk (C6 h1 _) hv,aZ]
   simp only [j5]
   cases c3:(br wH (yx r.1 (aA aH 1)).1).2==0 <;> rfl
def Kd (k:Nat) (v:Ty.d bo) (en:Int) (x:Ty.d aB) (hi:Int) (dir:aS) (la:Int) (pl:ai):Option (Ty.d aF × Ty.d aB × Int × Unit) :=
 (Option.bind (cU.f k (dir,(la,(0,()))) pl) fun r33=>(bif (r33.1.2.2.1 != 0) then (some (mH,(x,(3,())))) else
 (Option.bind (b_.f k x v) fun r34=>(bif (r34.2.1 != 0) then (some (mH,r34)) else (some ((v,(r33.1.1,((aG (r33.1.2.1+1)),(en,(hi,()))))),(r34.1,(0,()))))))))
theorem H_ {k:Nat} (hk:2 ^ 50≤k) {v:Ty.d bo} (hv:v.2.1.length≤60) (en:Int) {x:Ty.d aB} (h:DR x) (hi:Int) {dir:aS} (hd:dir.length≤1000) (la:Int) {pl:ai} (hp:pl.length≤100000000) :
 Kd k v en x hi dir la pl=some (oS (vi v en x (jX (dir,(la,(0,()))) pl) hi)):=by
 unfold Kd vi
 rw [yD hk _ (by omega) (by show dir.length≤_;omega),aZ]
 simp only [bne]
 cases (jX (dir,(la,(0,()))) pl).2.2.1==0 with
 | false=>rfl
 | true =>
  simp only [fC,aK]
  rw [uk hk h (by omega),aZ]
  simp only [j5]
  cases (iU v.2.1 x).2==0 <;> rfl
theorem Mr {k:Nat} (hk:2 ^ 50≤k) {v:Ty.d bo} (hv:v.2.1.length≤60) (en:Int) {x:Ty.d aB} (h:DR x) (hi:Int) (dir:aS) (la:Int) :
 ∀ (n:Nat) (i:Int) (pl:ai),0≤i→i≤(v.2.1.length:Int)→(v.2.1.length:Int)-i<n→1≤i∧(pl.length:Int)≤100000*i →
 cA.l1 k n i [] [] 0 0 0 0 [] 0 0 false [] [] 0 0 0 0 v.2.1 v.1 x.1 x.2.1 x.2.2.1 x.2.2.2.1 [] v.1 0 en hi dir la 0 pl=Kd k v en x hi dir la (pl++oy x (v.2.1.drop i.toNat)):=by
 have hl:=h.sz.l
 have hu:=h.sz.u
 have hn:=h.sz.n
 refine Kl (L:=fun n i pl=>cA.l1 k n i [] [] 0 0 0 0 [] 0 0 false [] [] 0 0 0 0 v.2.1 v.1 x.1 x.2.1 x.2.2.1 x.2.2.2.1 [] v.1 0 en hi dir la 0 pl) (R:=fun r pl=>Kd k v en x hi dir la (pl++oy x r)) (Ty.z (.int .i64)) v.2.1 (fun i pl=>1≤i∧(pl.length:Int)≤100000*i) (fun n pl hp=>?_) (fun n i pl y rest h0 h1 hy hr hp ih=>?_)
 · simp only [cA.l1,cA.b1]
   rw [aQ (by omega),aK,show oy x []=[] from rfl,List.append_nil]
   rfl
 · have hs:=qL h y
   have hpl:=zJ h y
   have ht:=iM x (aA dY y)
   have ih:=ih (pl++xT x y) ⟨by omega,by rw [zT];omega⟩
   simp only [cA.l1,cA.b1]
   rw [aO h1,ac,aI h0 h1,hy,bd hk,aZ]
   simp only []
   rw [show (x.1,(x.2.1,(x.2.2.1,(x.2.2.2.1,()))))=x from rfl,iA hk (by omega) (by omega) (by omega),aZ,aI h0 h1,jI hk,aZ]
   simp only []
   rw [iA hk (by omega) (by omega) (by omega),aZ]
   simp only []
   rw [rK hk (by omega),aZ,show (i==0)=false from mT (by omega)]
   simp only [aK]
   rw [aI h0 h1,tF hk y (by show (fL x y).size≤_;omega),aZ]
   simp only []
   rw [cO (by show pl.length+(xT x y).length≤_;omega) (by decide),aE (n:=i+1) (by omega) (by omega)]
   refine ih.trans ?_
   rw [rP]
   rfl
theorem yb {k:Nat} (hk:2 ^ 50≤k) {v:Ty.d bo} (hv:v.2.1.length≤60) (hv1:1≤v.2.1.length) (en:Int) {x:Ty.d aB} (h:DR x) :
 cA.l1 k k 0 [] [] 0 0 0 0 [] 0 0 false [] [] 0 0 0 0 v.2.1 v.1 x.1 x.2.1 x.2.2.1 x.2.2.2.1 [] v.1 0 en 0 [] 0 0 []=some (oS (vi v en x (lG x v.2.1) (bif qz x (v.2.1.getD 0 0) then v.2.1.getD 0 0 else 0))):=by
 have hl:=h.sz.l
 have hu:=h.sz.u
 have hn:=h.sz.n
 obtain ⟨n,hn2⟩:∃ q,k=q+1:=⟨k-1,by omega⟩
 have hs:=qL h (v.2.1.getD 0 0)
 have hpl:=zJ h (v.2.1.getD 0 0)
 have ht:=iM x (aA dY (v.2.1.getD 0 0))
 have hpa:=pn h (v.2.1.drop 1)
 have hpb:=pn h v.2.1
 rw [List.length_drop] at hpa
 have hh:=uZ (s:=(ah x (aA dY (v.2.1.getD 0 0))).1)
 have step:=fun hi dir la pl=>Mr hk hv en h hi dir la n 1 pl (by omega) (by omega) (by omega)
 refine (congrArg (fun z=>cA.l1 k z 0 [] [] 0 0 0 0 [] 0 0 false [] [] 0 0 0 0 v.2.1 v.1 x.1 x.2.1 x.2.2.1 x.2.2.2.1 [] v.1 0 en 0 [] 0 0 []) hn2).trans ?_
 have hsplit:v.2.1=v.2.1.getD 0 0::v.2.1.drop 1:=by
  have:=sf (0:Int) (l:=v.2.1) (i:=0) (by omega)
  rw [List.drop_zero] at this
  exact this
 simp only [cA.l1,cA.b1]
 rw [aO (by omega),ac,aI (by omega) (by omega),show List.getD v.2.1 (Int.toNat 0) (Ty.z (.int .i64))=v.2.1.getD 0 0 from rfl,bd hk,aZ]
 simp only []
 rw [show (x.1,(x.2.1,(x.2.2.1,(x.2.2.2.1,()))))=x from rfl,iA hk (by omega) (by omega) (by omega),aZ,aI (by omega) (by omega),jI hk,aZ]
 simp only []
 rw [iA hk (by omega) (by omega) (by omega),aZ]
 simp only []
 rw [rK hk (by omega),aZ,show ((0:Int)==0)=true from rfl]
 simp only [ac]
 rw [tF hk (v.2.1.getD 0 0) (by show (fL x (v.2.1.getD 0 0)).size≤_;omega),aZ]
 simp only []
 rw [cO (by show ([]:ai).length+(xT x (v.2.1.getD 0 0)).length≤_;rw [List.length_nil];omega) (by decide),aE (n:=(0:Int)+1) (by omega) (by omega),aI (by omega) (by omega)]
 rw [show List.getD v.2.1 0 (Ty.z (.int .i64))=v.2.1.getD 0 0 from rfl]
 rw [wk hk _ (by show (fL x (v.2.1.getD 0 0)).size≤_;omega),aZ]
 simp only []
 have no:cA.l1 k n (0+1) [] [] 0 0 0 0 [] 0 0 false [] [] 0 0 0 0 v.2.1 v.1 x.1 x.2.1 x.2.2.1 x.2.2.2.1 [] v.1 0 en 0 [] 0 0 ([]++bX (v.2.1.getD 0 0) (bP (ah x (aA aH (v.2.1.getD 0 0))).1).1)=some (oS (vi v en x (jX ([],(0,(0,()))) (oy x v.2.1)) 0)):=by
  refine (step 0 [] 0 (xT x (v.2.1.getD 0 0)) ⟨by omega,by omega⟩).trans ?_
  rw [show xT x (v.2.1.getD 0 0)++oy x (v.2.1.drop (Int.toNat 1))=oy x (v.2.1.getD 0 0::v.2.1.drop 1) from rfl,← hsplit]
  exact H_ hk hv en h 0 (by simp) 0 (by omega)
 unfold lG qz iT
 show (bif (ah x (aA dY (v.2.1.getD 0 0))).2 then (bif (im (ah x (aA dY (v.2.1.getD 0 0))).1).2 then (bif oR (v.2.1.getD 0 0) (fL x (v.2.1.getD 0 0)) (im (ah x (aA dY (v.2.1.getD 0 0))).1).1 then _ else _) else _) else _)=_
 cases (ah x (aA dY (v.2.1.getD 0 0))).2 with
 | false=>simp only [aK,Bool.false_and];rw [aI (by omega) (by omega)];exact no
 | true =>
  cases (im (ah x (aA dY (v.2.1.getD 0 0))).1).2 with
  | false=>simp only [aK,ac,Bool.false_and,Bool.true_and];rw [aI (by omega) (by omega)];exact no
  | true =>
   cases oR (v.2.1.getD 0 0) (fL x (v.2.1.getD 0 0)) (im (ah x (aA dY (v.2.1.getD 0 0))).1).1 with
   | false=>simp only [aK,ac,Bool.true_and];rw [aI (by omega) (by omega)];exact no
   | true =>
    simp only [ac,Bool.true_and]
    rw [aI (by omega) (by omega)]
    refine (step (v.2.1.getD 0 0) (im (ah x (aA dY (v.2.1.getD 0 0))).1).1.2.2.1 (im (ah x (aA dY (v.2.1.getD 0 0))).1).1.2.1 [] ⟨by omega,by simp⟩).trans ?_
    rw [List.nil_append,show (1:Int).toNat=1 from rfl]
    exact H_ hk hv en h _ (by omega) _ (by omega)
theorem Gu (k:Nat):∀ n,cA.l2 k n=cA.l1 k n
 | 0=>rfl
 | n+1=>by show cA.b2 k (cA.l2 k n)=cA.b1 k (cA.l1 k n);rw [Gu k n];rfl
theorem ME {k:Nat} (hk:2 ^ 50≤k) {v:Ty.d bo} (hv:dL v=true) {d:Ty.d aB} (h:DR d) :
 cA.l0 k k (af v.2.1) 0 d.1 d.2.1 d.2.2.1 d.2.2.2.1 [] [] 0 0 0 0 [] 0 0 false [] [] 0 0 0 0 v.2.1 v.1=some (oS (rV v d)):=by
 obtain ⟨_,_,hv1,hv2,_⟩:=cX (nx:=v.1) (ids:=v.2.1) hv
 have hrise:=HJ hv
 have hl:=h.sz.l
 have hu:=h.sz.u
 have hn:=h.sz.n
 have hs:=qL h (af v.2.1)
 have hsc:=kp (fL d (af v.2.1))
 have hfin:∀ n:Nat,cA.l0 k (n+1) (af v.2.1) (v.2.1.length:Int) d.1 d.2.1 d.2.2.1 d.2.2.2.1 [] [] 0 0 0 0 [] 0 0 false [] [] 0 0 0 0 v.2.1 v.1 =
  some (oS (bif (fw (af v.2.1) d).2 != 0 then (mH,((fw (af v.2.1) d).1,iz (fw (af v.2.1) d).2)) else vi v (bP (fL d (af v.2.1))).2 (fw (af v.2.1) d).1 (lG (fw (af v.2.1) d).1 v.2.1) (bif qz (fw (af v.2.1) d).1 (v.2.1.getD 0 0) then v.2.1.getD 0 0 else 0))):=fun n=>by
  simp only [cA.l0,cA.b0]
  rw [aQ (by omega),aK,bd hk,aZ]
  simp only []
  rw [show (d.1,(d.2.1,(d.2.2.1,(d.2.2.2.1,()))))=d from rfl,iA hk (by omega) (by omega) (by omega),aZ]
  simp only [show (ah d (aA aH (af v.2.1))).1=fL d (af v.2.1) from rfl]
  rw [o7 hk (by omega),aZ,kJ k h.sz,aZ,Gu]
  simp only []
  show (bif decide ((bP (fL d (af v.2.1))).2<((fL d (af v.2.1)).size:Int)) then _ else _)=_
  unfold fw
  cases decide ((bP (fL d (af v.2.1))).2<((fL d (af v.2.1)).size:Int)) with
  | true =>
   simp only [ac]
   simp only [aZ]
   rw [FI hk h.sz,aZ]
   simp only [dJ,aZ]
   unfold hF
   simp only [bne]
   show (bif !((xe d (aA aH (af v.2.1)) (bP (fL d (af v.2.1))).2).2==0) then _ else _)=_
   have h1:=zL h (aA aH (af v.2.1)) (bP (fL d (af v.2.1))).2
   generalize xe d (aA aH (af v.2.1)) (bP (fL d (af v.2.1))).2=r at h1
   cases c:r.2==0 with
   | false=>simp only [u6,ac,aK,c];rfl
   | true =>
    simp only [fC,aK,ac]
    rw [nC hk h1.sz,aZ]
    simp only []
    have h2:=nP h1 (aA aH (af v.2.1))
    generalize gT r.1 (aA aH (af v.2.1))=q at h2
    cases c2:q.2==0 with
    | false=>rfl
    | true =>
     simp only [fC,aK]
     exact yb hk hv2 hv1 _ h2
  | false =>
   simp only [aK]
   simp only [aZ]
   rw [nC hk h.sz,aZ]
   simp only [dJ,aZ]
   unfold hF
   simp only [bne,show ((0:Int)==0)=true from rfl,ac]
   have h2:=nP h (aA aH (af v.2.1))
   generalize gT d (aA aH (af v.2.1))=q at h2
   cases c2:q.2==0 with
   | false=>rfl
   | true =>
    simp only [fC,aK]
    exact yb hk hv2 hv1 _ h2
 unfold rV
 refine (fa (L:=fun n i (_:Unit)=>cA.l0 k n (af v.2.1) i d.1 d.2.1 d.2.2.1 d.2.2.2.1 [] [] 0 0 0 0 [] 0 0 false [] [] 0 0 0 0 v.2.1 v.1) (R:=fun r _=>bif jZ d r then some (oS (bif (fw (af v.2.1) d).2 != 0 then (mH,((fw (af v.2.1) d).1,iz (fw (af v.2.1) d).2)) else vi v (bP (fL d (af v.2.1))).2 (fw (af v.2.1) d).1 (lG (fw (af v.2.1) d).1 v.2.1) (bif qz (fw (af v.2.1) d).1 (v.2.1.getD 0 0) then v.2.1.getD 0 0 else 0))) else some (oS (mH,(d,3)))) (Ty.z (.int .i64)) v.2.1 (fun _ _=>True) (fun n _ _=>hfin n) (fun n i _ y rest h0 h1 hy hr hp ih=>?_) (n:=k) (s:=()) (by omega) trivial).trans (by cases jZ d v.2.1 <;> rfl)
 have ih:=ih () trivial
 have hsy:=qL h y
 have hlast:=Kx hrise hr
 simp only [cA.l0,cA.b0]
 rw [aO h1,ac,aI h0 h1,hy,bd hk,aZ]
 simp only []
 rw [show (d.1,(d.2.1,(d.2.2.1,(d.2.2.2.1,()))))=d from rfl,iA hk (by omega) (by omega) (by omega),aZ]
 simp only []
 rw [o7 hk (by show (fL d y).size≤_;omega),aZ,kJ k h.sz,aZ,aI h0 h1,aE (n:=i+1) (by omega) (by omega),ih]
 rw [show jZ d (y::rest)=(uT d y rest.isEmpty&&jZ d rest) from rfl]
 unfold uT bne
 rw [hlast]
 show (bif !(ah d (aA aH y)).2 then _ else bif !rest.isEmpty then (bif decide ((bP (fL d y)).2<((fL d y).size:Int)) then _ else _) else _)=_
 cases (ah d (aA aH y)).2 with
 | false=>rfl
 | true =>
  cases rest.isEmpty with
  | true=>rfl
  | false=>cases decide ((bP (fL d y)).2<((fL d y).size:Int)) <;> rfl
theorem Dw {k:Nat} (hk:2 ^ 50≤k) {d:Ty.d aB} (hd:An d):cA.f k d=some (oS (kG d)):=by
 have hl:=hd.l
 have hu:=hd.u
 have hn:=hd.n
 unfold cA.f cA.t kG
 rw [il hk (by omega) (by omega),aZ,kJ k hd]
 cases c:iL d with
 | false=>rfl
 | true =>
  have h:=jR.1 c
  simp only [fC,aK,aZ]
  cases cdn:d.2.2.2.1 with
  | true=>rfl
  | false =>
   simp only [aK]
   rw [show (⟨#[108,105,118,101]⟩:ByteArray)=eQ from rfl,iA hk (by omega) (by omega) (by omega),aZ]
   simp only []
   cases (ah d eQ).2 with
   | false =>
    simp only [u6,ac]
    rw [Bv hk h]
    rfl
   | true =>
    have hz:=iM d eQ
    simp only [fC,aK]
    rw [wq hk (by omega),aZ]
    simp only []
    rcases kI (fun v=>dL v=true) cV ((0,([],())):Ty.d bo) (ah d eQ).1 with ⟨v,h1,_,e⟩ | e
    · rw [show fo (ah d eQ).1=(v,true) from e]
      simp only [fC,aK]
      obtain ⟨_,_,hv1,hv2,_⟩:=cX (nx:=v.1) (ids:=v.2.1) h1
      have w:aG ((v.2.1.length:Int)-1)=((v.2.1.length-1:Nat):Int):=by rw [aE (by omega) (by omega)];omega
      rw [w,rH,aI (by omega) (by omega)]
      have:=ME hk h1 h
      rw [cdn] at this
      exact this
    · rw [show fo (ah d eQ).1=((0,([],())),false) from e]
      rfl
theorem Hs (v:Ty.d bo) (en:Int) {x:Ty.d aB} (h:DR x) {g:Ty.d i_} (hg:g.1.length≤268435456) (hi:Int):DR (vi v en x g hi).2.1∧(vi v en x g hi).1.2.1.length≤268435456:=by
 have hs:=sN v.2.1 x h
 unfold vi
 cases g.2.2.1 != 0 with
 | true=>exact ⟨h,Nat.zero_le _⟩
 | false =>
  cases (iU v.2.1 x).2 != 0 with
  | true=>exact ⟨hs,Nat.zero_le _⟩
  | false=>exact ⟨hs,hg⟩
theorem IC {x:Ty.d aB} (h:DR x) {ids:List Int} (hl:ids.length≤60):(lG x ids).1.length≤268435456:=by
 have hpa:=pn h (ids.drop 1)
 have hpb:=pn h ids
 rw [List.length_drop] at hpa
 have hh:=uZ (s:=(ah x (aA dY (ids.getD 0 0))).1)
 unfold lG
 cases qz x (ids.getD 0 0)
 · exact uz (by omega) (by simp)
 · exact uz (by omega) (by show (iT x (ids.getD 0 0)).2.2.1.length≤_;unfold iT;omega)
theorem GA {d:Ty.d aB} (h:DR d):DR (kG d).2.1∧(kG d).1.2.1.length≤268435456:=by
 unfold kG
 rw [jR.2 h]
 simp only [fC,aK]
 cases d.2.2.2.1 with
 | true=>exact ⟨h,Nat.zero_le _⟩
 | false =>
  simp only [aK]
  cases (ah d eQ).2 with
  | false =>
   simp only [u6,ac]
   have hf:DR (kr d).1:=jm (jm (sN [] d h) fun x hx=>C6 hx _) (lF wH)
   unfold qS
   cases (kr d).2==0 with
   | true=>exact ⟨hf,Nat.zero_le _⟩
   | false=>exact ⟨hf,Nat.zero_le _⟩
  | true =>
   simp only [fC,aK]
   rcases kI (fun v=>dL v=true) cV ((0,([],())):Ty.d bo) (ah d eQ).1 with ⟨v,h1,_,e⟩ | e
   · rw [show fo (ah d eQ).1=(v,true) from e]
     obtain ⟨_,_,hv1,hv2,_⟩:=cX (nx:=v.1) (ids:=v.2.1) h1
     simp only [fC,aK]
     have fx:=JP (af v.2.1) h
     unfold rV
     cases jZ d v.2.1 with
     | false=>exact ⟨h,Nat.zero_le _⟩
     | true =>
      simp only [fC,aK]
      cases (fw (af v.2.1) d).2 != 0 with
      | true=>exact ⟨fx,Nat.zero_le _⟩
      | false=>exact Hs v _ fx (IC fx hv2) _
   · rw [show fo (ah d eQ).1=((0,([],())),false) from e]
     exact ⟨h,Nat.zero_le _⟩
theorem JZ {d:Ty.d aB} (h:iL d=false):kG d=(mH,(d,4)):=by
 unfold kG
 rw [h]
 rfl
noncomputable def Ed (q:Ty.d aF × RD):Ty.d aV:=((q.2.2==0),(q.1,(q.2.1,(List.replicate 3 (Ty.z an),()))))
theorem pf {k:Nat} (hk:2 ^ 50≤k) {d:Ty.d aB} (hd:An d):gA.f k d=some (Ed (kG d),((kG d).2.2,())):=by
 unfold gA.f gA.t
 rw [Dw hk hd,aZ,yK (by omega) (by omega) (by decide)]
 rfl
theorem Dg (k:Nat) {n:Int} (h0:0≤n) (h1:n≤100000):jQ.f k n=some (([],(n,(-1,(false,())))),()):=by
 unfold jQ.f jQ.t
 rw [eM,aZ,aO ⟨h0,h1⟩]
 rfl
def Ki (n:Int):Ty.d aB:=([],(n,(-1,(false,()))))
theorem KA {n:Int} (h0:0≤n) (h1:n≤100000):DR (Ki n) :=
 ⟨Nat.zero_le _,h0,h1,show LE.le (α:=Int) (-1) (-1) from Int.le_refl _,show LE.le (α:=Int) (-1) 100000 by decide,h0,fun f hf=>(by cases hf),List.Pairwise.nil⟩
theorem FP {st:Ty.d aF} {d:Ty.d aB} {l:gn} (h:SR st (d,0) 100000) (hp:fR l=true) (hd:st.2.1.length≤20) :
 DR (gu st d l).2.1∧(gu st d l).1.1.2.1.length≤60∧(gu st d l).1.2.1.length≤268435456:=by
 have h8:=oZ hp
 obtain ⟨g1,g2,g3⟩:=qo (ja l st.2.2.1) (rM st) d [] 100000 ⟨h.live,h.disk,h.lo,h.hi⟩ (by decide)
 unfold gu
 generalize fJ (ja l st.2.2.1) (rM st) d []=q at g1 g2 g3 ⊢
 have e2:q.1.1.2.1=st.2.1:=g2
 obtain ⟨_,_,_,hi,_⟩:=cX (nx:=q.1.1.1.1) (ids:=q.1.1.1.2.1) g1.live
 have hs:=nP g1.disk (dE q.1.1)
 unfold ur
 cases q.1.2.2 != 0 with
 | true=>exact ⟨g1.disk,hi,by show q.1.1.2.1.length≤_;rw [e2];omega⟩
 | false =>
  simp only [aK]
  generalize gT q.1.2.1 (dE q.1.1)=y at hs ⊢
  cases y.2 != 0 with
  | true=>exact ⟨hs,hi,by show q.1.1.2.1.length≤_;rw [e2];omega⟩
  | false =>
   refine ⟨hs,hi,?_⟩
   show (bx q.1.1.2.1 (q.2.take l.length)).length≤_
   have:=qj (q.2.take l.length) q.1.1.2.1
   rw [e2] at this ⊢
   rw [List.length_take] at this
   omega
theorem Eb {st:Ty.d aF} {d:Ty.d aB} (l:gn) (hd:DR d) (h1:st.1.2.1.length≤60) (h2:st.2.1.length≤268435456) :
 DR (dp st d l).2.1∧(dp st d l).1.1.2.1.length≤60∧(dp st d l).1.2.1.length≤268435456:=by
 unfold dp
 cases c1:eN st d with
 | false=>exact ⟨hd,h1,h2⟩
 | true =>
  simp only [fC,aK]
  cases c2:fR l with
  | false=>exact ⟨hd,h1,h2⟩
  | true =>
   simp only [fC,aK]
   cases (l.length:Int)==0 with
   | true=>exact ⟨hd,h1,h2⟩
   | false =>
    cases decide (nG st.2.1 l > 20) with
    | true=>exact ⟨hd,h1,h2⟩
    | false =>
     cases decide (st.2.2.1 > (1000000:Int)) with
     | true=>exact ⟨hd,h1,h2⟩
     | false=>exact FP (kH c1).1 c2 (kH c1).2.1
def N0 (l:aS):Prop:=∀ e ∈ l,LE.le (α:=Int) 0 e.2.2.2.1
theorem Gw {l:aS} {e x:Ty.d a_} (h:x ∈ ve l e):x=e∨x ∈ l:=by
 unfold ve at h
 rcases List.mem_append.1 h with w | w
 · exact .inr (List.takeWhile_subset _ w)
 · rcases List.mem_cons.1 w with w | w
   · exact .inl w
   · exact .inr (List.dropWhile_subset _ w)
structure IV (q:Ty.d aF × RD):Prop where
 disk:DR q.2.1
 ids:q.1.1.2.1.length≤60
 dir:q.1.2.1.length≤268435456
 non:N0 q.1.2.1
 sum:tJ q.1.2.1≤(tN q.2.1 q.1.1.2.1:Int)
def CK (l:kw) (mark:Int):Int:=((ab (kq l mark)).size:Int)
theorem wS (r:Ty.d bA) (l:jt):(ab (r::l)).size=(aP (aJ r)).size+(ab l).size:=by rw [ab,ByteArray.size_append]
theorem qy {st:Ty.d aF} {d:Ty.d aB} (c:eN st d=true):st.2.1.length≤20:=by
 unfold eN pq at c
 simp only [iI,decide_eq_true_eq] at c
 omega
def yv (nm:ByteArray):jt→RD→RD
 | [],r=>r
 | x::l,r=>yv nm l (hF r fun y=>j_ y nm (aP (aJ x)))
def fy (m:Int) (l:kw) (mark:Int) (d:Ty.d aB):RD:=hF (yv (aA aH m) (kq l mark) (bU (aA aH m) d)) fun y=>gT y (aA aH m)
def mn (m:Int):kw→Int→aS
 | [],_=>[]
 | p::l,at_=>(p.1,(m,(at_,(bE (bQ p),(p.2.2.1,())))))::mn m l (at_+bE (bQ p))
def mG (ns:List ByteArray) (r:RD):RD:=bif r.2==2 then ((fG ns r.1).1,bif (fG ns r.1).2==0 then 2 else iz (fG ns r.1).2) else r
def kQ (m:Int):List ByteArray:=[jE,aA aH m,aA aH (m+1),aA dY m]
def uQ:List Int→Ty.d aB→RD
 | [],d=>(d,0)
 | x::l,d=>hF (fG [aA aH x,aA dY x] d) (uQ l)
def uj (st:Ty.d aF):Ty.d aF:=((st.1.1+2,st.1.2),st.2)
def jF (m:Int):Ty.d bo:=(m+2,([m,m+1],()))
def mL (hb:ByteArray→ByteArray) (m:Int) (d:Ty.d aB):RD :=
 bif (mh (aA dY m) (hb (ah d (aA aH m)).1) d).2==2 then fG [aA dY m] (mh (aA dY m) (hb (ah d (aA aH m)).1) d).1 else mh (aA dY m) (hb (ah d (aA aH m)).1) d
def dk (hb:ByteArray→ByteArray) (st:Ty.d aF) (d:Ty.d aB) (l:kw):Ty.d aF × RD :=
 bif (fy st.1.1 l (st.2.2.1-1) d).2 != 0 then (uj st,mG (kQ st.1.1) (tl (fy st.1.1 l (st.2.2.1-1) d))) else
 bif (bU (aA aH (st.1.1+1)) (fy st.1.1 l (st.2.2.1-1) d).1).2 != 0 then (uj st,mG (kQ st.1.1) (tl (bU (aA aH (st.1.1+1)) (fy st.1.1 l (st.2.2.1-1) d).1))) else
 bif (mL hb st.1.1 (bU (aA aH (st.1.1+1)) (fy st.1.1 l (st.2.2.1-1) d).1).1).2 != 0 then (uj st,tl (mL hb st.1.1 (bU (aA aH (st.1.1+1)) (fy st.1.1 l (st.2.2.1-1) d).1).1)) else
 bif (br (jF st.1.1) (mL hb st.1.1 (bU (aA aH (st.1.1+1)) (fy st.1.1 l (st.2.2.1-1) d).1).1).1).2 != 0 then
  (uj st,mG (kQ st.1.1) (tl (br (jF st.1.1) (mL hb st.1.1 (bU (aA aH (st.1.1+1)) (fy st.1.1 l (st.2.2.1-1) d).1).1).1))) else
 ((jF st.1.1,(mn st.1.1 l 0,(st.2.2.1,(0,(0,()))))),tl (uQ st.1.2.1 (br (jF st.1.1) (mL hb st.1.1 (bU (aA aH (st.1.1+1)) (fy st.1.1 l (st.2.2.1-1) d).1).1).1).1))
theorem nL {s:ByteArray} {d:Ty.d aB} (h:(bU s d).2=0):fT (bU s d).1 s=some ByteArray.empty:=by
 unfold bU at h ⊢
 unfold hF at h ⊢
 cases c:(nt s d).2==0 with
 | false =>
  rw [c,aK] at h
  rw [h] at c
  cases c
 | true =>
  rw [c,ac] at h
  rw [ac]
  obtain ⟨c1,c2⟩:=qI (d:=(nt s d).1) (g:=vR s) h
  unfold fT
  show (bw (jk (nt s d).1 (vR s)).1.1 s).map _=_
  rw [c2]
  unfold vR at c1 ⊢
  cases c3:lB s with
  | false=>rw [c3] at c1;cases c1
  | true =>
   rw [c3] at c1
   simp only [fC,aK] at c1 ⊢
   cases c4:(bw (nt s d).1.1 s) with
   | some f=>rw [c4] at c1;cases c1
   | none =>
    rw [c4] at c1
    simp only [Option.isSome_none,aK] at c1 ⊢
    cases c5:decide (((nt s d).1.1.length:Int)≥130) with
    | true=>rw [c5] at c1;cases c1
    | false =>
     simp only [aK]
     rw [xB (f:=(s,(ByteArray.empty,(0,())))) c4,bO]
     rfl
theorem sE (nm:ByteArray):∀ (l:jt) (r:RD),r.2≠0→yv nm l r=r
 | [],_,_=>rfl
 | x::l,r,h=>by
  unfold yv
  have e:hF r (fun y=>j_ y nm (aP (aJ x)))=r:=by
   unfold hF
   rw [mT h]
   rfl
  rw [e]
  exact sE nm l r h
theorem G8 (nm:ByteArray):∀ (l:jt) (r:RD) (x:ByteArray),fT r.1 nm=some x→(yv nm l r).2=0→fT (yv nm l r).1 nm=some (x++ab l)
 | [],r,x,h,_=>by
  show fT r.1 nm=some (x++⟨#[]⟩)
  rw [h,show x++(⟨#[]⟩:ByteArray)=x from Fw x]
 | a::l,r,x,h,z=>by
  unfold yv at z ⊢
  by_cases c:(hF r (fun y=>j_ y nm (aP (aJ a)))).2=0
  · obtain ⟨c1,c2,c3⟩:=k6 c
    have c3:(j_ r.1 nm (aP (aJ a))).2=0:=c3
    have e:fT (hF r (fun y=>j_ y nm (aP (aJ a)))).1 nm=some (x++aP (aJ a)):=by
     rw [c2]
     have:=uu (d:=r.1) (s:=nm) (x:=aP (aJ a))
     rw [c3,h] at this
     exact this
    rw [G8 nm l _ _ e z]
    show some (x++aP (aJ a)++ab l)=some (x++(aP (aJ a)++ab l))
    rw [qA]
  · rw [sE nm l _ c] at z
    exact absurd z c
theorem La {nm t:ByteArray} (h:nm≠t):∀ (l:jt) (r:RD),fT (yv nm l r).1 t=fT r.1 t
 | [],_=>rfl
 | a::l,r=>by
  show fT (yv nm l (hF r fun y=>j_ y nm (aP (aJ a)))).1 t=_
  rw [La h l]
  exact pC rfl fun y=>y9 h
theorem Es {m:Int} {l:kw} {mark:Int} {d:Ty.d aB} {t:ByteArray} (h:aA aH m≠t):fT (fy m l mark d).1 t=fT d t :=
 pC ((La h _ _).trans (mf h)) fun y=>md
theorem sr {hb:ByteArray→ByteArray} {m:Int} {d:Ty.d aB} {t:ByteArray} (h:aA dY m≠t):fT (mL hb m d).1 t=fT d t:=by
 unfold mL
 cases (mh (aA dY m) (hb (ah d (aA aH m)).1) d).2==2 with
 | false=>exact CW h
 | true =>
  refine (nj _ _ fun s hs=>?_).trans (CW h)
  rw [List.mem_singleton.1 hs]
  exact h
theorem vm {t:ByteArray}:∀ (l:List Int) (d:Ty.d aB),(∀ x ∈ l,aA aH x≠t∧aA dY x≠t)→fT (uQ l d).1 t=fT d t
 | [],_,_=>rfl
 | x::l,d,h=>by
  show fT (hF (fG [aA aH x,aA dY x] d) (uQ l)).1 t=_
  refine pC (nj _ _ fun s hs=>?_) fun y=>vm l y fun z hz=>h z (nX _ hz)
  have:=h x li
  rcases List.mem_cons.1 hs with e | e
  · rw [e];exact this.1
  · rw [List.mem_singleton.1 e];exact this.2
theorem Ab (m:Int):∀ (l:kw) (a:Int),tJ (mn m l a)=((ab (l.map bQ)).size:Int)∧N0 (mn m l a)
 | [],_=>⟨rfl,fun x hx=>by cases hx⟩
 | p::l,a=>by
  obtain ⟨i1,i2⟩:=Ab m l (a+bE (bQ p))
  have hr:=oP (bQ p)
  refine ⟨?_,fun x hx=>?_⟩
  · show bE (bQ p)+tJ (mn m l (a+bE (bQ p)))=_
    rw [i1,List.map_cons,wS]
    unfold bE
    omega
  · rcases List.mem_cons.1 hx with e | e
    · rw [e];exact hr.1
    · exact i2 x e
theorem lu {x y:Int} (hx:1≤x∧x≤100000) (hy:1≤y∧y≤100000):aA dY x≠aA aH y:=fun q=>by
 have e:aA dY x=dY++iB x:=by unfold aA;rw [aO hx];rfl
 rw [yf hy,e] at q
 have:=congrArg nb q
 rw [iF,iF] at this
 cases this
theorem HS {x:Int} (hx:1≤x∧x≤100000):aA dY x≠eQ:=fun q=>by
 have e:aA dY x=dY++iB x:=by unfold aA;rw [aO hx];rfl
 rw [e] at q
 have:=congrArg nb q
 rw [iF] at this
 cases this
theorem Iv {s t:ByteArray} {d:Ty.d aB} (z:(mh s t d).2=0):fT (mh s t d).1 s=some t:=by
 unfold mh at z ⊢
 obtain ⟨z1,e1,z2⟩:=k6 z
 obtain ⟨z3,e2,z4⟩:=k6 z1
 rw [e1,md,e2]
 have:=uu (d:=(bU s d).1) (s:=s) (x:=t)
 rw [z4,nL z3] at this
 have this:fT (j_ (bU s d).1 s t).1 s=some (ByteArray.empty++t):=this
 rw [this,show (ByteArray.empty:ByteArray)=dB [] from rfl,vf]
theorem L8 {d:Ty.d aB} {a b:ByteArray} (hd:DR d) (hab:a≠b) (z:(DL d a b).2=0):fT (DL d a b).1 b=fT d a:=by
 obtain ⟨c1,c2⟩:=qI z
 unfold fT
 show (bw (jk d (Dk a b)).1.1 b).map _=_
 rw [c2]
 unfold Dk at c1 ⊢
 cases c3:lB b with
 | false=>rw [c3] at c1;exact absurd c1 (by show (5:Int)≠0;decide)
 | true =>
  rw [c3] at c1
  simp only [fC,aK] at c1 ⊢
  cases c4:bw d.1 a with
  | none=>rw [c4] at c1;exact absurd c1 (by show (3:Int)≠0;decide)
  | some f =>
   simp only []
   rw [ky hab,aK]
   have hk:d5 (mw (lX d.1 a)):=uW (qk _ _) hd.keys
   show (bw (nR (lX (lX d.1 a) b) (b,f.2)) b).map _=_
   rw [xB (f:=(b,f.2)) (E6 hk b),bO]
   rfl
theorem Ba {v:Ty.d bo} {d:Ty.d aB} (hd:DR d) (z:(br v d).2=0):fT (br v d).1 eQ=some (cV v):=by
 unfold br at z ⊢
 obtain ⟨z1,e1,z2⟩:=k6 z
 rw [e1,L8 (pJ _ _ _ hd) (by decide) z2,Iv z1]
theorem yz {n:Int} (h0:0≤n) (h1:n≤127):(jC n).size=1:=by
 unfold jC
 rw [if_pos ⟨h0,by omega⟩,← s9 (by omega)]
 unfold vl
 rw [if_neg (by omega)]
 rfl
theorem Fc {n:Int} (h0:0≤n) (h1:n≤2097151):(jC n).size≤3:=by
 unfold jC
 rw [if_pos ⟨h0,by omega⟩,← s9 (by omega)]
 unfold vl
 split
 · rw [mB]
   unfold vl
   split
   · rw [mB]
     unfold vl
     rw [if_neg (by omega)]
     exact Nat.le_refl _
   · show 1+1≤3
     decide
 · show 1≤3
   decide
theorem JI (mark:Int) (l:jt):bE (fk 5 mark l)≤20:=by
 have key:(aJ (fk 5 mark l)).size≤9:=by
  unfold aJ
  by_cases c:cF (fk 5 mark l)=true
  · rw [if_pos c]
    rcases pB c with ⟨q,_⟩ | ⟨q,_⟩ | ⟨_,_,_,h1,h2,_,_,h3,h4⟩
    · exact absurd q (by show ¬ ((5:Int)=1∨(5:Int)=4);decide)
    · exact absurd q (by show ¬ ((5:Int)=2);decide)
    · rw [if_neg (by show ¬ ((5:Int)=1∨(5:Int)=4);decide),if_neg (by show ¬ ((5:Int)=2);decide),ByteArray.size_append,ByteArray.size_append,ByteArray.size_append,km]
      have e1:(jC (fk 5 mark l).1).size=1:=yz (n:=5) (by decide) (by decide)
      have e2:=Fc (n:=(fk 5 mark l).2.1) h3 (Int.le_trans h4 (by decide))
      have e3:=yz (n:=(fk 5 mark l).2.2.2.2.1) h1 (Int.le_trans h2 (by decide))
      omega
  · rw [if_neg c]
    exact Nat.zero_le _
 unfold bE aP
 rw [if_neg (by omega),ByteArray.size_append,km]
 unfold jy
 rw [ByteArray.size_append,yz (by omega) (by omega)]
 omega
theorem vG (m:Int):∀ (l:kw) (a:Int),(mn m l a).length=l.length
 | [],_=>rfl
 | p::l,a=>by
  show (mn m l (a+bE (bQ p))).length+1=_
  rw [vG m l]
  rfl
theorem Hr {hb:ByteArray→ByteArray} {st:Ty.d aF} {d:Ty.d aB} {c:Int} {l:kw} (h:IV (st,(d,c))) (hl:dL st.1=true) (hn:LE.le (α:=Int) (st.1.1+2) 100000) (hlen:l.length≤268435456) :
 IV (dk hb st d l)∧((dk hb st d l).2.2=0→(tN (dk hb st d l).2.1 (dk hb st d l).1.1.2.1:Int)=CK l (st.2.2.1-1)∧(tN (dk hb st d l).2.1 (dk hb st d l).1.1.2.1:Int)-tJ (dk hb st d l).1.2.1≤20 ∧
  fT (dk hb st d l).2.1 (aA aH st.1.1)=some (ab (kq l (st.2.2.1-1)))∧fT (dk hb st d l).2.1 (aA aH (st.1.1+1))=some ByteArray.empty∧(dk hb st d l).1=(jF st.1.1,(mn st.1.1 l 0,(st.2.2.1,(0,(0,()))))) ∧
  fT (dk hb st d l).2.1 eQ=some (cV (jF st.1.1))):=by
 obtain ⟨n1,n2,n3,_⟩:=j6 (n:=st.1.1) (ids:=st.1.2.1) hl
 have hd:DR d:=h.disk
 have hsum:tJ st.2.1≤(tN d st.1.2.1:Int):=h.sum
 have hm:(1:Int)≤st.1.1∧st.1.1≤(100000:Int):=⟨n1,n2⟩
 have hm1:LE.le (α:=Int) 1 (st.1.1+1)∧LE.le (α:=Int) (st.1.1+1) 100000:=⟨by omega,by omega⟩
 have hseg:∀ x:Int,x ∈ st.1.2.1→1≤x∧x≤100000:=fun x hx=>⟨(n3 x hx).1,by have:=(n3 x hx).2;omega⟩
 have no1:∀ x ∈ st.1.2.1,aA aH st.1.1≠aA aH x:=fun x hx=>ot hm (hseg x hx) (by have:=(n3 x hx).2;omega)
 have no2:∀ x ∈ st.1.2.1,aA aH (st.1.1+1)≠aA aH x:=fun x hx=>ot hm1 (hseg x hx) (by have:=(n3 x hx).2;omega)
 have no3:∀ x ∈ st.1.2.1,aA dY st.1.1≠aA aH x:=fun x hx=>lu hm (hseg x hx)
 have no4:aA aH (st.1.1+1)≠aA aH st.1.1:=ot hm1 hm (by omega)
 have jump:∀ r:RD,DR r.1→(∀ x ∈ st.1.2.1,fT r.1 (aA aH x)=fT d (aA aH x))→IV (uj st,r):=fun r hr k=>⟨hr,h.ids,h.dir,h.non,by
  show tJ st.2.1≤(tN r.1 st.1.2.1:Int)
  rw [Am k]
  exact hsum⟩
 have dropK:∀ (r:RD),DR r.1→(∀ x ∈ st.1.2.1,fT r.1 (aA aH x)=fT d (aA aH x))→r.2≠0→IV (uj st,mG (kQ st.1.1) r)∧(mG (kQ st.1.1) r).2≠0:=fun r hr k hz=>by
  unfold mG
  cases r.2==2 with
  | false=>exact ⟨jump r hr k,hz⟩
  | true =>
   refine ⟨jump _ (lD _ _ hr) fun x hx=>(nj _ _ fun s hs=>?_).trans (k x hx),?_⟩
   · unfold kQ at hs
     rcases List.mem_cons.1 hs with e | e
     · rw [e];exact iD (hseg x hx)
     rcases List.mem_cons.1 e with e | e
     · rw [e];exact no1 x hx
     rcases List.mem_cons.1 e with e | e
     · rw [e];exact no2 x hx
     · rw [List.mem_singleton.1 e];exact no3 x hx
   · show (bif (fG (kQ st.1.1) r.1).2==0 then (2:Int) else iz (fG (kQ st.1.1) r.1).2)≠0
     cases q:(fG (kQ st.1.1) r.1).2==0 with
     | true =>
      show (2:Int)≠0
      decide
     | false =>
      intro e
      have:=j5 (fG (kQ st.1.1) r.1).2
      rw [q] at this
      simp only [aK] at e
      rw [e] at this
      cases this
 have tlnz:∀ r:RD,(r.2 != 0)=true→(tl r).2≠0:=fun r q e=>by
  have:=zZ r
  rw [e,q] at this
  cases this
 have a0:DR (fy st.1.1 l (st.2.2.1-1) d).1:=by
  refine jm ?_ fun x hx=>nP hx _
  have:∀ (rs:jt) (r:RD),DR r.1→DR (yv (aA aH st.1.1) rs r).1:=by
   intro rs
   induction rs with
   | nil=>exact fun r hr=>hr
   | cons x rs ih=>exact fun r hr=>ih _ (jm hr fun y hy=>ql hy _ _)
  exact this _ _ (lN _ _ hd)
 have a1:∀ x ∈ st.1.2.1,fT (fy st.1.1 l (st.2.2.1-1) d).1 (aA aH x)=fT d (aA aH x):=fun x hx=>Es (no1 x hx)
 have a2:(fy st.1.1 l (st.2.2.1-1) d).2=0→fT (fy st.1.1 l (st.2.2.1-1) d).1 (aA aH st.1.1)=some (ab (kq l (st.2.2.1-1))):=fun z=>by
  unfold fy at z ⊢
  obtain ⟨z1,z2,_⟩:=k6 z
  rw [z2]
  rw [md]
  have z0:(bU (aA aH st.1.1) d).2=0:=by
   by_cases w:(bU (aA aH st.1.1) d).2=0
   · exact w
   · rw [sE _ _ _ w] at z1
     exact absurd z1 w
  have:=G8 (aA aH st.1.1) (kq l (st.2.2.1-1)) (bU (aA aH st.1.1) d) ByteArray.empty (nL z0) z1
  rw [this,show (ByteArray.empty:ByteArray)=dB [] from rfl,vf]
 unfold dk
 generalize fy st.1.1 l (st.2.2.1-1) d=a at a0 a1 a2 ⊢
 cases ca:a.2 != 0 with
 | true =>
  obtain ⟨g1,g2⟩:=dropK (tl a) a0 a1 (tlnz a ca)
  exact ⟨g1,fun e=>absurd e g2⟩
 | false =>
  have b0:=lN (aA aH (st.1.1+1)) a.1 a0
  have b1:∀ x ∈ st.1.2.1,fT (bU (aA aH (st.1.1+1)) a.1).1 (aA aH x)=fT d (aA aH x):=fun x hx=>(mf (no2 x hx)).trans (a1 x hx)
  have b2:=(mf (d:=a.1) no4).trans (a2 (iV ca))
  have b3:=nL (s:=aA aH (st.1.1+1)) (d:=a.1)
  simp only [aK]
  generalize bU (aA aH (st.1.1+1)) a.1=b at b0 b1 b2 b3 ⊢
  cases cb:b.2 != 0 with
  | true =>
   obtain ⟨g1,g2⟩:=dropK (tl b) b0 b1 (tlnz b cb)
   exact ⟨g1,fun e=>absurd e g2⟩
  | false =>
   have b3:=b3 (iV cb)
   have c0:DR (mL hb st.1.1 b.1).1:=by
    unfold mL
    cases (mh (aA dY st.1.1) (hb (ah b.1 (aA aH st.1.1)).1) b.1).2==2 with
    | true=>exact lD _ _ (pJ _ _ _ b0)
    | false=>exact pJ _ _ _ b0
   have c1:∀ x ∈ st.1.2.1,fT (mL hb st.1.1 b.1).1 (aA aH x)=fT d (aA aH x):=fun x hx=>(sr (no3 x hx)).trans (b1 x hx)
   have c2:=(sr (hb:=hb) (d:=b.1) (lu hm hm)).trans b2
   have c3:=(sr (hb:=hb) (d:=b.1) (lu hm hm1)).trans b3
   simp only [aK]
   generalize mL hb st.1.1 b.1=e at c0 c1 c2 c3 ⊢
   cases ce:e.2 != 0 with
   | true=>exact ⟨jump (tl e) c0 c1,fun z=>absurd z (tlnz e ce)⟩
   | false =>
    have d0:=lF (jF st.1.1) _ c0
    have d1:∀ x ∈ st.1.2.1,fT (br (jF st.1.1) e.1).1 (aA aH x)=fT d (aA aH x):=fun x hx=>(iQ (iD (hseg x hx)) (jN (hseg x hx))).trans (c1 x hx)
    have d2:=(iQ (d:=e.1) (v:=jF st.1.1) (iD hm) (jN hm)).trans c2
    have d3:=(iQ (d:=e.1) (v:=jF st.1.1) (iD hm1) (jN hm1)).trans c3
    have d4:=Ba (v:=jF st.1.1) c0
    simp only [aK]
    generalize br (jF st.1.1) e.1=f at d0 d1 d2 d3 d4 ⊢
    cases cf:f.2 != 0 with
    | true =>
     obtain ⟨g1,g2⟩:=dropK (tl f) d0 d1 (tlnz f cf)
     exact ⟨g1,fun z=>absurd z g2⟩
    | false =>
     simp only [aK]
     have o0:∀ (ids:List Int) (x:Ty.d aB),DR x→DR (uQ ids x).1:=by
      intro ids
      induction ids with
      | nil=>exact fun x hx=>hx
      | cons y ids ih=>exact fun x hx=>jm (lD _ _ hx) fun z hz=>ih z hz
     have o2:=(vm st.1.2.1 f.1 fun x hx=>⟨fun q=>no1 x hx q.symm,lu (hseg x hx) hm⟩).trans d2
     have o3:=(vm st.1.2.1 f.1 fun x hx=>⟨fun q=>no2 x hx q.symm,lu (hseg x hx) hm1⟩).trans d3
     have o4:=(vm st.1.2.1 f.1 fun x hx=>⟨fun q=>jN (hseg x hx) q.symm,HS (hseg x hx)⟩).trans (d4 (iV cf))
     have o1:=o0 st.1.2.1 f.1 d0
     generalize uQ st.1.2.1 f.1=o at o1 o2 o3 o4 ⊢
     obtain ⟨l1,l2⟩:=Ab st.1.1 l 0
     have hk:=JI (st.2.2.1-1) (l.map bQ)
     have hk0:=(oP (fk 5 (st.2.2.1-1) (l.map bQ))).1
     have tot:(tN o.1 [st.1.1,st.1.1+1]:Int)=tJ (mn st.1.1 l 0)+bE (fk 5 (st.2.2.1-1) (l.map bQ)):=by
      unfold tN Mv
      rw [List.map_cons,List.map_singleton,List.sum_cons,List.sum_singleton,o2,o3,l1]
      simp only [Option.getD_some]
      unfold kq
      rw [pN,ByteArray.size_append]
      have e1:(ab [fk 5 (st.2.2.1-1) (l.map bQ)]).size=(aP (aJ (fk 5 (st.2.2.1-1) (l.map bQ)))).size:=by rw [wS];rfl
      have e2:(ByteArray.empty:ByteArray).size=0:=rfl
      rw [e1,e2]
      unfold bE
      omega
     have tot0:(tN o.1 [st.1.1,st.1.1+1]:Int)=CK l (st.2.2.1-1):=by
      unfold tN Mv CK
      rw [List.map_cons,List.map_singleton,List.sum_cons,List.sum_singleton,o2,o3]
      rfl
     refine ⟨⟨o1,(show 2≤60 by decide),?_,l2,?_⟩,fun _=>⟨tot0,?_,o2,o3,by trivial,o4⟩⟩
     · show (mn st.1.1 l 0).length≤_
       rw [vG]
       exact hlen
     · show tJ (mn st.1.1 l 0)≤(tN o.1 [st.1.1,st.1.1+1]:Int)
       omega
     · show (tN o.1 [st.1.1,st.1.1+1]:Int)-tJ (mn st.1.1 l 0)≤20
       omega
theorem rY {k:Nat} (hk:2 ^ 50≤k) (st:Ty.d aF) {r:RD} (hd:DR r.1) {m:Int} (h0:1≤m) (h1:m≤100000):du.f k st r.1 m r.2=some (st,((mG (kQ m) r).1,((mG (kQ m) r).2,()))):=by
 unfold du.f du.t mG
 cases c:r.2==2 with
 | false =>
  have:(r.2 != 2)=true:=by unfold bne;rw [c];rfl
  rw [this]
  rfl
 | true =>
  have:(r.2 != 2)=false:=by unfold bne;rw [c];rfl
  rw [this]
  simp only [aK,ac]
  rw [aE (n:=m+1) (by omega) (by omega),bd hk,aZ,bd hk,aZ,jI hk,aZ]
  simp only []
  rw [show ([(⟨#[116,101,109,112]⟩:ByteArray),aA aH m,aA aH (m+1),aA dY m]:List ByteArray)=kQ m from rfl,oH hk hd (by unfold kQ;simp),aZ]
  simp only [bne]
  cases q:(fG (kQ m) r.1).2==0 with
  | true=>rw [Jq c];rfl
  | false=>simp only [u6,ac,aK,dJ,aZ]
theorem Bp (k:Nat) (p:Ty.d yc):lY.f k p=some (bQ p,()):=rfl
theorem FM {k:Nat} (hk:2 ^ 50≤k) (ids old:List Int) (dir:aS) (nx b s h:Int) (ho:old.length≤1073741824) {d:Ty.d aB} (hd:DR d) :
 c_.l0 k k 0 ids dir nx b s h [] [] 0 0 0 0 [] 0 0 false d.1 d.2.1 d.2.2.1 d.2.2.2.1 old=some (((nx,(ids,())),(dir,(b,(s,(h,()))))),((tl (uQ old d)).1,((tl (uQ old d)).2,()))):=by
 refine fa (L:=fun n i (x:Ty.d aB)=>c_.l0 k n i ids dir nx b s h [] [] 0 0 0 0 [] 0 0 false x.1 x.2.1 x.2.2.1 x.2.2.2.1 old) (R:=fun r x=>(some (((nx,(ids,())),(dir,(b,(s,(h,()))))),((tl (uQ r x)).1,((tl (uQ r x)).2,()))):c_.Rs))
  (Ty.z (.int .i64)) old (fun _ x=>DR x) (fun n x hx=>?_) (fun n i x y rest h0 h1 hy hr hx ih=>?_) (n:=k) (s:=d) (by omega) hd
 · simp only [c_.l0,c_.b0]
   rw [aQ (by omega),aK]
   rfl
 · simp only [c_.l0,c_.b0]
   rw [aO h1,ac,aI h0 h1,hy,bd hk,aZ,aI h0 h1,jI hk,aZ]
   simp only []
   rw [show (x.1,(x.2.1,(x.2.2.1,(x.2.2.2.1,()))))=x from rfl,oH hk hx (by simp),aZ,aE (n:=i+1) (by omega) (by omega)]
   have hz:=lD [aA aH y,aA dY y] x hx
   simp only [uQ]
   generalize fG [aA aH y,aA dY y] x=q at hz ⊢
   unfold hF
   simp only [bne]
   cases c:q.2==0 with
   | false=>simp only [u6,ac,aK,dJ,aZ];rfl
   | true =>
    simp only [fC,ac,aK]
    exact ih q.1 hz
def CH (m:Int):kw→RD→aS→Int→aS
 | [],_,dir,_=>dir
 | p::l,r,dir,a=>bif r.2==0 then CH m l (j_ r.1 (aA aH m) (aP (aJ (bQ p)))) (dir++[(p.1,(m,(a,(bE (bQ p),(p.2.2.1,())))))]) (a+bE (bQ p)) else dir
theorem HD (m:Int):∀ (l:kw) (r:RD) (dir:aS) (a:Int),r.2=0→(yv (aA aH m) (l.map bQ) r).2=0→CH m l r dir a=dir++mn m l a
 | [],_,dir,_,_,_=>(List.append_nil dir).symm
 | p::l,r,dir,a,h,z=>by
  have e:hF r (fun y=>j_ y (aA aH m) (aP (aJ (bQ p))))=j_ r.1 (aA aH m) (aP (aJ (bQ p))):=by
   unfold hF
   rw [h]
   rfl
  have z:(yv (aA aH m) (l.map bQ) (hF r fun y=>j_ y (aA aH m) (aP (aJ (bQ p))))).2=0:=z
  rw [e] at z
  have z2:(j_ r.1 (aA aH m) (aP (aJ (bQ p)))).2=0:=by
   by_cases w:(j_ r.1 (aA aH m) (aP (aJ (bQ p)))).2=0
   · exact w
   · rw [sE _ _ _ w] at z
     exact absurd z w
  unfold CH
  rw [show (r.2==0)=true by rw [h];rfl,ac,HD m l _ _ _ z2 z,rP]
  rfl
theorem A9 {k:Nat} (hk:2 ^ 50≤k) {d:Ty.d aB} (hd:DR d) (m:Int) {l:kw} (hl:l.length≤1000000) (mark:Int) :
 e6.f k d m l mark=some ((fy m l mark d).1,(CH m l (bU (aA aH m) d) [] 0,(iz (fy m l mark d).2,()))):=by
 have hsz:=BX m
 unfold e6.f e6.t
 rw [bd hk,aZ]
 simp only []
 rw [oL hk hd (by omega),aZ]
 simp only []
 have hf:=lN (aA aH m) d hd
 unfold fy kq
 generalize bU (aA aH m) d=r0 at hf ⊢
 refine fa (L:=fun n i (s:RD × aS × Int × jt)=>e6.l0 k n m l mark s.1.2 s.2.2.1 i [] 0 0 false s.2.1 s.1.1.1 s.1.1.2.1 s.1.1.2.2.1 s.1.1.2.2.2.1 s.2.2.2)
  (R:=fun r s=>(some ((hF (yv (aA aH m) (r.map bQ++[fk 5 mark (l.map bQ)]) s.1) fun y=>gT y (aA aH m)).1,(CH m r s.1 s.2.1 s.2.2.1,(iz (hF (yv (aA aH m) (r.map bQ++[fk 5 mark (l.map bQ)]) s.1) fun y=>gT y (aA aH m)).2,()))):e6.Rs))
  (Ty.z yc) l (fun i s=>DR s.1.1∧(s.1.2=0→s.2.2.2=(l.take i.toNat).map bQ)∧0≤s.2.2.1∧s.2.2.1≤211*i∧(s.2.1.length:Int)≤i∧(s.2.2.2.length:Int)≤i) (fun n s hs=>?_) (fun n i s x rest h0 h1 hx hr hs ih=>?_) (n:=k) (s:=(r0,([],(0,[])))) (by omega) ⟨hf,fun _=>rfl,Int.le_refl _,by simp,by simp,by simp⟩
 · obtain ⟨r,dir,a,recs⟩:=s
   obtain ⟨g1,g2,g3,g4,g5,g6⟩:=hs
   simp only [] at g1 g2 g3 g4 g5 g6 ⊢
   simp only [e6.l0,e6.b0]
   rw [aQ (by omega),aK]
   simp only [List.map_nil,List.nil_append,yv,CH]
   by_cases c:r.2=0
   · rw [Int.toNat_natCast,List.take_length] at g2
     rw [show (r.2==0)=true by rw [c];rfl,ac,bd hk,aZ,g2 c,wW hk (by rw [List.length_map];omega),aZ]
     simp only []
     rw [dT hk,aZ]
     simp only []
     rw [ml hk,aZ]
     simp only []
     have hfz:=mM (aJ (fk 5 mark (l.map bQ)))
     rw [show (r.1.1,(r.1.2.1,(r.1.2.2.1,(r.1.2.2.2.1,()))))=r.1 from rfl,qc hk g1.sz (aA aH m) (by omega),aZ]
     simp only []
     have ha:=ql g1 (aA aH m) (aP (aJ (fk 5 mark (l.map bQ))))
     rw [show hF r (fun y=>j_ y (aA aH m) (aP (aJ (fk 5 mark (l.map bQ)))))=j_ r.1 (aA aH m) (aP (aJ (fk 5 mark (l.map bQ)))) by unfold hF;rw [c];rfl]
     generalize j_ r.1 (aA aH m) (aP (aJ (fk 5 mark (l.map bQ))))=q at ha ⊢
     unfold hF
     cases c2:q.2==0 with
     | true =>
      simp only [ac]
      rw [aZ]
      simp only []
      rw [nC hk ha.sz,aZ,dJ,aZ]
     | false=>simp only [aK,dJ,aZ]
   · rw [mT c]
     have e:hF r (fun y=>j_ y (aA aH m) (aP (aJ (fk 5 mark (l.map bQ)))))=r:=by unfold hF;rw [mT c];rfl
     rw [e]
     unfold hF
     rw [mT c]
     simp only [aK,dJ,aZ]
 · obtain ⟨r,dir,a,recs⟩:=s
   obtain ⟨g1,g2,g3,g4,g5,g6⟩:=hs
   simp only [] at g1 g2 g3 g4 g5 g6 ih ⊢
   have hi:i.toNat<l.length:=by omega
   have et:l.take (i+1).toNat=l.take i.toNat++[x]:=by
    rw [show (i+1).toNat=i.toNat+1 by omega,List.take_succ_eq_append_getElem hi]
    congr 2
    rw [← hx]
    simp [List.getD,hi]
   simp only [e6.l0,e6.b0]
   rw [aO h1,ac]
   simp only [List.map_cons,List.cons_append,yv,CH]
   by_cases c:r.2=0
   · have hr:=oP (bQ x)
     have hfz:=mM (aJ (bQ x))
     have hz:((aP (aJ (bQ x))).size:Int)=bE (bQ x):=rfl
     rw [show (r.2==0)=true by rw [c];rfl,ac,aI h0 h1,hx,Bp,aZ]
     simp only []
     rw [dT hk,aZ]
     simp only []
     rw [ml hk,aZ]
     simp only []
     rw [bd hk,aZ]
     simp only []
     rw [show (r.1.1,(r.1.2.1,(r.1.2.2.1,(r.1.2.2.2.1,()))))=r.1 from rfl,qc hk g1.sz (aA aH m) (by omega),aZ]
     simp only []
     rw [cO (by omega) (by decide),cO (by omega) (by decide),hz,aE (n:=a+bE (bQ x)) (by omega) (by omega),aE (n:=i+1) (by omega) (by omega)]
     have ha:=ql g1 (aA aH m) (aP (aJ (bQ x)))
     rw [show hF r (fun y=>j_ y (aA aH m) (aP (aJ (bQ x))))=j_ r.1 (aA aH m) (aP (aJ (bQ x))) by unfold hF;rw [c];rfl,ac]
     exact ih (j_ r.1 (aA aH m) (aP (aJ (bQ x))),(dir++[(x.1,(m,(a,(bE (bQ x),(x.2.2.1,())))))],(a+bE (bQ x),recs++[bQ x]))) ⟨ha,fun _=>by simp only [];rw [g2 c,et,List.map_append];rfl,by simp only [];omega,by simp only [];omega,by simp only [];rw [zT,List.length_singleton];omega,by simp only [];rw [zT,List.length_singleton];omega⟩
   · rw [mT c]
     have e:hF r (fun y=>j_ y (aA aH m) (aP (aJ (bQ x))))=r:=by unfold hF;rw [mT c];rfl
     rw [e,sE _ _ _ c]
     unfold hF
     rw [mT c]
     simp only [aK,dJ,aZ]
noncomputable def K_ (m:Int) (s:ByteArray):ByteArray:=dM (ga m s).1
theorem K2 (nm:ByteArray):∀ (l m:jt) (r:RD),yv nm (l++m) r=yv nm m (yv nm l r)
 | [],_,_=>rfl
 | x::l,m,r=>by
  exact K2 nm l m (hF r fun y=>j_ y nm (aP (aJ x)))
theorem Lg (nm:ByteArray):∀ (rs:jt) (r:RD),DR r.1→DR (yv nm rs r).1
 | [],_,h=>h
 | x::rs,r,h=>Lg nm rs _ (jm h fun y hy=>ql hy _ _)
theorem Dd (m:Int) (l:kw) (mark:Int) {d:Ty.d aB} (hd:DR d):DR (fy m l mark d).1 :=
 jm (Lg _ _ _ (lN _ _ hd)) fun x hx=>nP hx _
theorem Hw {m:Int} {l:kw} {mark:Int} {d:Ty.d aB} (h:(fy m l mark d).2=0):CH m l (bU (aA aH m) d) [] 0=mn m l 0:=by
 unfold fy at h
 obtain ⟨z1,z2,_⟩:=k6 h
 unfold kq at z1
 rw [K2] at z1
 have z3:(yv (aA aH m) (l.map bQ) (bU (aA aH m) d)).2=0:=by
  by_cases w:(yv (aA aH m) (l.map bQ) (bU (aA aH m) d)).2=0
  · exact w
  · rw [sE _ _ _ w] at z1
    exact absurd z1 w
 have z0:(bU (aA aH m) d).2=0:=by
  by_cases w:(bU (aA aH m) d).2=0
  · exact w
  · rw [sE _ _ _ w] at z3
    exact absurd z3 w
 rw [HD m l _ [] 0 z0 z3,List.nil_append]
theorem DU {m:Int} (h0:1≤m) (h1:m+2≤100000):dL (jF m)=true:=by
 have e:aG (m+2-1)=m+1:=by rw [aE (n:=m+2-1) (by omega) (by omega)];omega
 unfold dL jF
 simp only []
 rw [aO (show (1:Int)≤m+2∧m+2≤100000 from ⟨by omega,h1⟩),e]
 simp only [p8,o6,mB,List.length_nil]
 rw [aO (show (1:Int)≤m∧m≤m+1 from ⟨h0,by omega⟩),aO (show (1:Int)≤m+1∧m+1≤m+1 from ⟨by omega,by omega⟩),aO (show m<m+1 by omega)]
 rfl
theorem GK (c:Int):(iz c != 0)=(c != 0):=by unfold bne;rw [j5]
theorem za {k:Nat} (hk:2 ^ 50≤k) {st:Ty.d aF} (hl:dL st.1=true) (hn:LE.le (α:=Int) (st.1.1+2) 100000) {f:Ty.d aB} (hf:DR f) (dir:aS) :
 (rm (Ty.bytes (.int .i64)) (0+List.length st.1.2.1) ((eu.f k f (st.1.1+2,([st.1.1,st.1.1+1],()))).bind fun r16=>(bif (r16.2.1 != 0) then ((du.f k ((st.1.1+2,st.1.2),st.2) r16.1 st.1.1 r16.2.1).bind fun r17=>(some r17)) else
  (c_.l0 k k 0 [st.1.1,st.1.1+1] dir (st.1.1+2) st.2.2.1 0 0 [] [] 0 0 0 0 [] 0 0 false r16.1.1 r16.1.2.1 r16.1.2.2.1 r16.1.2.2.2.1 ([]++st.1.2.1)))):c_.Rs) =
 some (oS (bif (br (jF st.1.1) f).2 != 0 then (uj st,mG (kQ st.1.1) (tl (br (jF st.1.1) f))) else ((jF st.1.1,(dir,(st.2.2.1,(0,(0,()))))),tl (uQ st.1.2.1 (br (jF st.1.1) f).1)))):=by
 obtain ⟨n1,n2,n3,_⟩:=j6 (n:=st.1.1) (ids:=st.1.2.1) hl
 have h60:st.1.2.1.length≤60:=(cX (nx:=st.1.1) (ids:=st.1.2.1) hl).2.2.2.1
 rw [cO (by omega) (by decide),oV hk hf (v:=(st.1.1+2,([st.1.1,st.1.1+1],()))) (DU n1 hn),aZ]
 rw [show ((st.1.1+2,([st.1.1,st.1.1+1],())):Ty.d bo)=jF st.1.1 from rfl]
 have hp:=lF (jF st.1.1) f hf
 generalize br (jF st.1.1) f=q at hp ⊢
 simp only []
 rw [GK]
 cases c:q.2 != 0 with
 | true =>
  simp only [ac]
  rw [show iz q.2=(tl q).2 from rfl,show q.1=(tl q).1 from rfl,rY hk _ (r:=tl q) hp n1 n2,aZ]
  rfl
 | false =>
  simp only [aK,List.nil_append]
  rw [FM hk _ _ _ _ _ _ _ (by omega) hp]
  rfl
theorem zk {k:Nat} (hk:2 ^ 50≤k) {st:Ty.d aF} {d:Ty.d aB} (hd:DR d) (hl:dL st.1=true) (hn:LE.le (α:=Int) (st.1.1+2) 100000) (hb0:LE.le (α:=Int) 1 st.2.2.1) (hb1:LE.le (α:=Int) st.2.2.1 1000001) {l:kw} (hlen:l.length≤1000000) :
 c_.f k st d l=some (oS (dk (K_ st.1.1) st d l)):=by
 obtain ⟨n1,n2,n3,_⟩:=j6 (n:=st.1.1) (ids:=st.1.2.1) hl
 have s1:=BX st.1.1
 have s2:=BX (st.1.1+1)
 have s3:=wF (.inr rfl:dY=aH∨dY=dY) st.1.1
 unfold c_.f c_.t
 rw [aE (n:=st.2.2.1-1) (by omega) (by omega),aE (n:=st.1.1+2) (by omega) (by omega),aE (n:=st.1.1+1) (by omega) (by omega),A9 hk hd _ hlen,aZ]
 simp only []
 have a0:=Dd st.1.1 l (st.2.2.1-1) hd
 have a1:=Hw (m:=st.1.1) (l:=l) (mark:=st.2.2.1-1) (d:=d)
 unfold dk
 generalize CH st.1.1 l (bU (aA aH st.1.1) d) [] 0=dir at a1 ⊢
 generalize fy st.1.1 l (st.2.2.1-1) d=a at a0 a1 ⊢
 rw [GK]
 cases ca:a.2 != 0 with
 | true =>
  simp only [ac]
  rw [show iz a.2=(tl a).2 from rfl,show a.1=(tl a).1 from rfl,rY hk _ (r:=tl a) a0 n1 n2,aZ]
  rfl
 | false =>
  simp only [aK]
  rw [a1 (iV ca),bd hk,aZ]
  simp only []
  rw [oL hk a0 (by omega),aZ]
  simp only []
  have b0:=lN (aA aH (st.1.1+1)) a.1 a0
  generalize bU (aA aH (st.1.1+1)) a.1=b at b0 ⊢
  cases cb:b.2 != 0 with
  | true =>
   simp only [ac]
   rw [dJ,aZ]
   simp only []
   rw [show iz b.2=(tl b).2 from rfl,show b.1=(tl b).1 from rfl,rY hk _ (r:=tl b) b0 n1 n2,aZ]
   rfl
  | false =>
   have hl':=b0.sz.l
   have hu':=b0.sz.u
   have hn':=b0.sz.n
   have ht:=iM b.1 (aA aH st.1.1)
   have hcap:LE.le (α:=Int) (dl b.1.1) 100000:=Int.le_trans b0.use b0.cap1
   simp only [aK]
   rw [bd hk,aZ]
   simp only []
   rw [iA hk (by omega) (by omega) (by omega),aZ]
   simp only []
   rw [tI hk _ (by omega),aZ,jI hk,aZ]
   simp only []
   rw [m5 hk,aZ]
   simp only []
   rw [wK hk b0 (by omega) (by have:=pW (ga st.1.1 (ah b.1 (aA aH st.1.1)).1).1;omega),aZ]
   simp only []
   unfold mL
   rw [show K_ st.1.1 (ah b.1 (aA aH st.1.1)).1=dM (ga st.1.1 (ah b.1 (aA aH st.1.1)).1).1 from rfl]
   have c0:=pJ (aA dY st.1.1) (dM (ga st.1.1 (ah b.1 (aA aH st.1.1)).1).1) b.1 b0
   generalize mh (aA dY st.1.1) (dM (ga st.1.1 (ah b.1 (aA aH st.1.1)).1).1) b.1=e at c0 ⊢
   cases ce:e.2==2 with
   | true =>
    simp only [ac]
    rw [aZ]
    simp only []
    rw [oH hk c0 (by simp),aZ]
    simp only []
    have d0:=lD [aA dY st.1.1] e.1 c0
    generalize fG [aA dY st.1.1] e.1=f at d0 ⊢
    cases cf:f.2 != 0 with
    | true =>
     simp only [ac]
     rw [dJ,aZ]
     rfl
    | false =>
     simp only [aK]
     exact za hk hl hn d0 _
   | false =>
    simp only [aK]
    cases cf:e.2 != 0 with
    | true =>
     simp only [ac]
     rw [dJ,aZ]
     rfl
    | false =>
     simp only [aK]
     exact za hk hl hn c0 _
noncomputable def mF (st:Ty.d aF) (d:Ty.d aB):Ty.d aF × RD :=
 bif !eN st d then (st,(d,4)) else bif decide (st.1.1+2 > 100000) then (st,(d,5)) else
 bif (kB st.2.1 d).2 != 0 then (st,(d,(kB st.2.1 d).2)) else dk (K_ st.1.1) st d (kB st.2.1 d).1
theorem zC {st:Ty.d aF} {d:Ty.d aB} (h:eN st d=true):LE.le (α:=Int) 1 st.2.2.1∧LE.le (α:=Int) st.2.2.1 1000001:=by
 unfold eN at h
 simp only [iI,decide_eq_true_eq] at h
 exact h.2.2.2.1
theorem uh {k:Nat} (hk:2 ^ 50≤k) {st:Ty.d aF} {d:Ty.d aB} (hd:An d) (h1:st.1.2.1.length≤1073741824) (h2:st.2.1.length≤536870912):l9.f k st d=some (oS (mF st d)):=by
 have ec:dG.f k st=some (st,()):=by
  unfold dG.f dG.t
  rw [cO (by omega) (by decide),cO (by omega) (by decide),List.nil_append,List.nil_append]
 unfold l9.f l9.t mF
 rw [ec,aZ]
 simp only []
 rw [kJ k hd,aZ]
 simp only []
 rw [vH hk hd,aZ]
 simp only []
 cases c1:eN st d with
 | false=>rfl
 | true =>
  obtain ⟨g1,g2,g3⟩:=kH c1
  obtain ⟨n1,n2,_,_⟩:=j6 (n:=st.1.1) (ids:=st.1.2.1) g1.live
  simp only [fC,aK]
  rw [aE (n:=st.1.1+2) (by omega) (by omega)]
  by_cases c2:st.1.1+2 > (100000:Int)
  · rw [aO c2];rfl
  · rw [aQ c2]
    simp only [aK]
    rw [Co hk hd (by omega),aZ]
    simp only []
    have hz:=sP st.2.1 d
    obtain ⟨b1,b2⟩:=zC c1
    cases (kB st.2.1 d).2 != 0 with
    | true=>rfl
    | false =>
     simp only [aK]
     rw [zk hk g1.disk g1.live (Int.not_lt.1 c2) b1 b2 (by omega),aZ]
abbrev ni:=Ty.d fB
def CI (c:ni):Prop:=(0:Int)≤c.2.1∧c.2.1≤(c.1.length:Int)∧c.1.length≤1048576
theorem CU (y:Int):0≤aG (((BitVec.ofInt (IntKind.bits .i64) y &&& BitVec.ofInt (IntKind.bits .i64) 255).toNat:Int))∧aG (((BitVec.ofInt (IntKind.bits .i64) y &&& BitVec.ofInt (IntKind.bits .i64) 255).toNat:Int))≤255:=by
 have h:(BitVec.ofInt (IntKind.bits .i64) y &&& BitVec.ofInt (IntKind.bits .i64) 255).toNat≤255:=by
  rw [BitVec.toNat_and]
  exact Nat.le_trans Nat.and_le_right (by decide)
 rw [aE (by omega) (by omega)]
 omega
theorem JJ {k:Nat} (hk:2 ^ 50≤k) {l:List Int} (hl:l.length≤1048576):∃ c:ni,gb.f k l=some ((),(c,()))∧CI c:=by
 unfold gb.f gb.t
 have key:∀ (d n:Nat) (i h:Int),(l.length:Int)-i=d→0≤i→d<n→∃ c:ni,gb.l0 k n l h i=some ((),(c,()))∧CI c:=by
  intro d
  induction d with
  | zero =>
   intro n i h h1 h2 hn
   obtain ⟨n,rfl⟩:∃ q,n=q+1:=⟨n-1,by omega⟩
   simp only [gb.l0,gb.b0]
   rw [aQ (show ¬ i<(l.length:Int) by omega),aK]
   exact ⟨_,rfl,Int.le_refl _,by show (0:Int)≤(l.length:Int);omega,hl⟩
  | succ d ih =>
   intro n i h h1 h2 hn
   obtain ⟨n,rfl⟩:∃ q,n=q+1:=⟨n-1,by omega⟩
   simp only [gb.l0,gb.b0]
   rw [aO (show i<(l.length:Int) by omega),ac]
   by_cases c:i<4000
   · rw [aO c,ac,aI h2 (by omega),aE (n:=i+1) (by omega) (by omega)]
     exact ih n (i+1) _ (by omega) (by omega) (by omega)
   · rw [aQ c,aK]
     exact ⟨_,rfl,Int.le_refl _,by show (0:Int)≤(l.length:Int);omega,hl⟩
 exact key l.length k 0 _ (by omega) (by omega) (by omega)
theorem AX (k:Nat) {c:ni} (h:CI c):∃ (c':ni) (x:Int),fD.f k c=some (c',(x,()))∧CI c'∧0≤x∧x≤255:=by
 obtain ⟨b,i,hh,_⟩:=c
 change Int at i
 change Int at hh
 obtain ⟨h1,h2,h3⟩:=h
 have h1:0≤i:=h1
 have h2:i≤(b.length:Int):=h2
 have h3:b.length≤1048576:=h3
 unfold fD.f fD.t
 simp only []
 by_cases q:i<(b.length:Int)
 · rw [aO q,ac,aI h1 q,aE (n:=i+1) (by omega) (by omega)]
   refine ⟨_,_,rfl,⟨by show (0:Int)≤i+1;omega,by show i+1≤(b.length:Int);omega,h3⟩,(CU _).1,(CU _).2⟩
 · rw [aQ q,aK]
   exact ⟨_,_,rfl,⟨h1,h2,h3⟩,(CU _).1,(CU _).2⟩
theorem xh (k:Nat) {c:ni} (h:CI c) {n:Int} (h0:0<n) (h1:n≤256):∃ (c':ni) (x:Int),b9.f k c n=some (c',(x,()))∧CI c'∧0≤x∧x<n:=by
 obtain ⟨c',x,e,hc,hx0,hx1⟩:=AX k h
 unfold b9.f b9.t
 rw [aQ (show ¬ n≤0 by omega),aK,aO h1,ac,e,aZ]
 simp only []
 rw [aQ (show ¬ n=0 by omega),aK]
 have e2:Int.tmod x n=x % n:=Int.tmod_eq_emod_of_nonneg hx0
 refine ⟨_,_,rfl,hc,?_,?_⟩
 · rw [e2];exact Int.emod_nonneg _ (by omega)
 · rw [e2];exact Int.emod_lt_of_pos _ h0
theorem I5 (k:Nat) {c:ni} (h:CI c) {n:Int} (h0:0<n) (h1:n≤256):∃ (c':ni) (x:Bool),gi.f k c n=some (c',(x,()))∧CI c':=by
 obtain ⟨c',x,e,hc,_,_⟩:=xh k h h0 h1
 unfold gi.f gi.t
 rw [e,aZ]
 exact ⟨_,_,rfl,hc⟩
theorem L4 {k:Nat} (hk:2 ^ 50≤k) {l:List Int} (hl:l.length≤1048576):lj (gb.f k l) (fun r=>CI r.2.1):=by
 obtain ⟨c,e,h⟩:=JJ hk hl
 exact ⟨_,e,h⟩
theorem JL (k:Nat) {c:ni} (h:CI c):lj (fD.f k c) (fun r=>CI r.1∧0≤r.2.1∧r.2.1≤255):=by
 obtain ⟨c',x,e,h1,h2,h3⟩:=AX k h
 exact ⟨_,e,h1,h2,h3⟩
theorem lU (k:Nat) {c:ni} (h:CI c) {n:Int} (h0:0<n) (h1:n≤256):lj (b9.f k c n) (fun r=>CI r.1∧0≤r.2.1∧r.2.1<n):=by
 obtain ⟨c',x,e,q1,q2,q3⟩:=xh k h h0 h1
 exact ⟨_,e,q1,q2,q3⟩
theorem Iq (k:Nat) {c:ni} (h:CI c) {n:Int} (h0:0<n) (h1:n≤256):lj (gi.f k c n) (fun r=>CI r.1):=by
 obtain ⟨c',x,e,q1⟩:=I5 k h h0 h1
 exact ⟨_,e,q1⟩
theorem D3 (k:Nat) {c:ni} (h:CI c) {l:List ByteArray} (h0:0<l.length) (h1:l.length≤256):lj (cm.f k c l) (fun r=>CI r.1∧r.2.1 ∈ l):=by
 unfold cm.f cm.t
 refine cW (lU k h (by omega) (by omega)) fun r q=>?_
 refine gR q.2.1 q.2.2 (am ⟨q.1,iE ?_⟩)
 have:=q.2.1
 have:=q.2.2
 omega
theorem wY (k:Nat) {c:ni} (h:CI c) {l:List Int} (h0:0<l.length) (h1:l.length≤256):lj (aX.f k c l) (fun r=>CI r.1∧r.2.1 ∈ l):=by
 unfold aX.f aX.t
 refine cW (lU k h (by omega) (by omega)) fun r q=>?_
 refine gR q.2.1 q.2.2 (am ⟨q.1,iE ?_⟩)
 have:=q.2.1
 have:=q.2.2
 omega
theorem IL (l:List Int):(bytesOf l).size=l.length:=by simp [bytesOf,ByteArray.size]
theorem LG {k:Nat} (hk:2 ^ 50≤k) (st:Int) (m:Nat) (hm:m≤200):∀ (d n:Nat) (c:ni) (out:List Int),d<n→CI c→out.length+d≤m→lj (fP.l0 k n st (d:Int) c.1 c.2.1 c.2.2.1 out) (fun r=>CI r.1∧r.2.1.size≤m):=by
 intro d
 induction d with
 | zero =>
  intro n c out hn hc ho
  obtain ⟨n,rfl⟩:∃ q,n=q+1:=⟨n-1,by omega⟩
  simp only [fP.l0,fP.b0]
  refine qw (aQ (by omega)) (am ⟨hc,?_⟩)
  show (bytesOf out).size≤m
  rw [IL]
  omega
 | succ d ih =>
  intro n c out hn hc ho
  obtain ⟨n,rfl⟩:∃ q,n=q+1:=⟨n-1,by omega⟩
  have hw:aG (((d+1:Nat):Int)-1)=(d:Int):=by rw [aE (by omega) (by omega)];omega
  simp only [fP.l0,fP.b0,hw]
  refine m7 (aO (by omega)) ?_
  refine cW (JL k hc) fun r hr=>?_
  refine bm (fun _=>bm (fun _=>?_) (fun _=>?_)) (fun _=>bm (fun _=>?_) (fun _=>?_))
  all_goals exact vL (by omega) (by decide) (ih n r.1 _ (by omega) hr.1 (by rw [d_];omega))
theorem Jv {k:Nat} (hk:2 ^ 50≤k) {c:ni} (h:CI c) {m:Int} (h0:0≤m) (h1:m≤200):lj (fP.f k c m) (fun r=>CI r.1∧(r.2.1.size:Int)≤m):=by
 unfold fP.f fP.t
 rw [aE (n:=m+1) (by omega) (by omega)]
 refine cW (lU k h (by omega) (by omega)) fun r1 q1=>?_
 refine cW (lU k q1.1 (by omega) (by omega)) fun r2 q2=>?_
 obtain ⟨c2,a,b⟩:=q2
 have:=LG hk r1.2.1 m.toNat (by omega) r2.2.1.toNat k r2.1 [] (by omega) c2 (by simp only [List.length_nil];omega)
 rw [show ((r2.2.1.toNat:Nat):Int)=r2.2.1 by omega] at this
 exact ov this fun r hr=>⟨hr.1,by have:=hr.2;omega⟩
theorem Kp (k:Nat) {c:ni} (h:CI c):lj (ix.f k c) (fun r=>CI r.1):=by
 unfold ix.f ix.t
 exact cW (D3 k h (by decide) (by decide)) fun r q=>am q.1
def EX (n:Int) (d d':Ty.d aB):Prop:=∀ x:Int,1≤x→x<n→x≤100000→∀ t,fT d (aA aH x)=some t→∃ u,fT d' (aA aH x)=some (t++u)
theorem Hg (t:ByteArray):t++(⟨#[]⟩:ByteArray)=t:=Fw t
theorem qW {n:Int} {d d':Ty.d aB} (h:∀ x:Int,1≤x→x<n→x≤100000→fT d' (aA aH x)=fT d (aA aH x)):EX n d d':=fun x h0 h1 h2 t e=>⟨⟨#[]⟩,by rw [h x h0 h1 h2,e,Hg]⟩
theorem BR (n:Int) (d:Ty.d aB):EX n d d:=qW fun _ _ _ _=>rfl
theorem zY {n:Int} {d d' d'':Ty.d aB} (h:EX n d d') (g:EX n d' d''):EX n d d'':=fun x h0 h1 h2 t e=>by
 obtain ⟨u,hu⟩:=h x h0 h1 h2 t e
 obtain ⟨v,hv⟩:=g x h0 h1 h2 _ hu
 exact ⟨u++v,by rw [hv,qA]⟩
theorem LC {n m:Int} {d d':Ty.d aB} (h:EX m d d') (q:n≤m):EX n d d':=fun x h0 h1 h2 t e=>h x h0 (by omega) h2 t e
theorem M5 (n:Int) (d:Ty.d aB) (s x:ByteArray):EX n d (j_ d s x).1:=fun y h0 h1 h2 t e=>by
 by_cases q:s=aA aH y
 · subst q
   have:=uu (d:=d) (s:=aA aH y) (x:=x)
   rw [e] at this
   cases c:(j_ d (aA aH y) x).2==0 with
   | true=>rw [c] at this;exact ⟨x,this⟩
   | false=>rw [c] at this;exact ⟨⟨#[]⟩,by rw [this,Hg];rfl⟩
 · exact ⟨⟨#[]⟩,by rw [y9 q,e,Hg]⟩
theorem M3 (n:Int) (d:Ty.d aB) (s:ByteArray):EX n d (gT d s).1:=qW fun x _ _ _=>md
theorem Ku {st:Ty.d aF} {d:Ty.d aB} (hl:dL st.1=true) :
 EX st.1.1 d (kx st d).2.1∧LE.le (α:=Int) st.1.1 (kx st d).1.1.1∧(kx st d).1.2.2.1=st.2.2.1:=by
 obtain ⟨n1,n2,n3,_⟩:=j6 (n:=st.1.1) (ids:=st.1.2.1) hl
 have hnew:∀ x:Int,1≤x→x<st.1.1→x≤100000→aA aH st.1.1≠aA aH x:=fun x h0 h1 h2=>ot ⟨n1,n2⟩ ⟨h0,h2⟩ (by omega)
 have k1:∀ x:Int,1≤x→x<st.1.1→x≤100000→fT (gT d (dE st)).1 (aA aH x)=fT d (aA aH x):=fun x _ _ _=>md
 have k2:∀ x:Int,1≤x→x<st.1.1→x≤100000→fT (bU (aA aH st.1.1) (gT d (dE st)).1).1 (aA aH x)=fT d (aA aH x):=fun x h0 h1 h2=>(mf (hnew x h0 h1 h2)).trans (k1 x h0 h1 h2)
 have k3:∀ x:Int,1≤x→x<st.1.1→x≤100000→fT (br (lz st) (bU (aA aH st.1.1) (gT d (dE st)).1).1).1 (aA aH x)=fT d (aA aH x):=fun x h0 h1 h2=>(iQ (iD ⟨h0,h2⟩) (jN ⟨h0,h2⟩)).trans (k2 x h0 h1 h2)
 unfold kx
 cases decide ((st.1.2.1.length:Int)≥60) with
 | true=>exact ⟨BR _ _,Int.le_refl _,rfl⟩
 | false =>
  cases decide (st.1.1≥(100000:Int)) with
  | true=>exact ⟨BR _ _,Int.le_refl _,rfl⟩
  | false =>
   have up:LE.le (α:=Int) st.1.1 (st.1.1+1):=by omega
   simp only [aK]
   generalize gT d (dE st)=r1 at k1 k2 k3 ⊢
   generalize bU (aA aH st.1.1) r1.1=r2 at k2 k3 ⊢
   generalize br (lz st) r2.1=r3 at k3 ⊢
   cases r1.2 != 0 with
   | true=>exact ⟨qW k1,Int.le_refl _,rfl⟩
   | false =>
    cases r2.2 != 0 with
    | true=>exact ⟨qW k2,up,rfl⟩
    | false =>
     cases r3.2 != 0 with
     | true =>
      refine ⟨?_,up,rfl⟩
      simp only [ac,aK]
      unfold pe
      cases (tl r3).2==2 with
      | false=>exact qW k3
      | true =>
       refine qW fun x h0 h1 h2=>?_
       refine (nj [jE,aA aH st.1.1] r3.1 fun s hs=>?_).trans (k3 x h0 h1 h2)
       rcases List.mem_cons.1 hs with e | e
       · rw [e];exact iD ⟨h0,h2⟩
       · rw [List.mem_singleton.1 e];exact hnew x h0 h1 h2
     | false=>exact ⟨qW k3,up,rfl⟩
theorem Gg {st:Ty.d aF} (hl:dL st.1=true):LE.le (α:=Int) 1 (af st.1.2.1)∧LT.lt (α:=Int) (af st.1.2.1) st.1.1:=by
 obtain ⟨n1,n2,n3,n4⟩:=j6 (n:=st.1.1) (ids:=st.1.2.1) hl
 obtain ⟨_,_,g1,_,_⟩:=cX (nx:=st.1.1) (ids:=st.1.2.1) hl
 have hs:=nO g1
 have hlast:af st.1.2.1 ∈ st.1.2.1:=by rw [hs];exact List.mem_append_right _ (List.mem_singleton.2 (by rw [← hs]))
 exact n3 _ hlast
theorem Gf {st:Ty.d aF} {d:Ty.d aB} (hl:dL st.1=true) (r:Ty.d bA) (n:Int) :
 EX n d (kZ st d r).1.2.1∧(kZ st d r).1.1.1=st.1∧(kZ st d r).1.1.2.2.1=st.2.2.1∧((kZ st d r).1.2.2=0→LE.le (α:=Int) 1 (kZ st d r).2.1∧LT.lt (α:=Int) (kZ st d r).2.1 st.1.1):=by
 have hE:=M5 n d (dE st) (aP (aJ r))
 unfold kZ
 generalize j_ d (dE st) (aP (aJ r))=a at hE ⊢
 cases c:a.2 != 0 with
 | true =>
  refine ⟨hE,rfl,rfl,fun e=>?_⟩
  have e:(tl a).2=0:=e
  have q:=zZ a
  rw [e,c] at q
  cases q
 | false=>exact ⟨hE,rfl,rfl,fun _=>Gg hl⟩
theorem H0 {st:Ty.d aF} {d:Ty.d aB} (hl:dL st.1=true) (hd:DR d) (r:Ty.d bA) :
 EX st.1.1 d (gM st d r).1.2.1∧LE.le (α:=Int) st.1.1 (gM st d r).1.1.1.1∧(gM st d r).1.1.2.2.1=st.2.2.1∧((gM st d r).1.2.2=0→LE.le (α:=Int) 1 (gM st d r).2.1∧LT.lt (α:=Int) (gM st d r).2.1 (gM st d r).1.1.1.1):=by
 unfold gM
 cases decide (st.2.2.2.1 > 0)&&decide (st.2.2.2.1+bE r > 200) with
 | false =>
  obtain ⟨s1,s2,s3,s4⟩:=Gf (d:=d) hl r st.1.1
  simp only [aK]
  rw [s2]
  exact ⟨s1,Int.le_refl _,s3,s4⟩
 | true =>
  obtain ⟨g1,g2,g3,g4⟩:=sR hl hd
  obtain ⟨t1,t2,t3⟩:=Ku (d:=d) hl
  simp only [ac]
  generalize kx st d=q at g1 g2 g3 g4 t1 t2 t3 ⊢
  cases c:q.2.2 != 0 with
  | true =>
   refine ⟨t1,t2,t3,fun e=>?_⟩
   have e:q.2.2=0:=e
   rw [e] at c
   cases c
  | false =>
   obtain ⟨s1,s2,s3,s4⟩:=Gf (d:=q.2.1) g1 r st.1.1
   simp only [aK]
   rw [s2]
   exact ⟨zY t1 s1,t2,s3.trans t3,s4⟩
theorem E9:∀ (l:jt) (st:Ty.d aF) (d:Ty.d aB) (ps:ai) (B:Int),SR st (d,0) B→0≤B→(∀ p ∈ ps,LE.le (α:=Int) 1 p.1∧LT.lt (α:=Int) p.1 st.1.1) →
 EX st.1.1 d (fJ l st d ps).1.2.1∧LE.le (α:=Int) st.1.1 (fJ l st d ps).1.1.1.1∧(fJ l st d ps).1.1.2.2.1=st.2.2.1∧∀ p ∈ (fJ l st d ps).2,LE.le (α:=Int) 1 p.1∧LT.lt (α:=Int) p.1 (fJ l st d ps).1.1.1.1
 | [],st,d,ps,B,_,_,hp=>⟨BR _ _,Int.le_refl _,rfl,hp⟩
 | r::l,st,d,ps,B,h,hB,hp=>by
  obtain ⟨g1,g2,g3⟩:=sY h hB r
  obtain ⟨s1,s2,s3,s4⟩:=H0 (d:=d) h.live h.disk r
  unfold fJ
  generalize gM st d r=q at g1 g2 g3 s1 s2 s3 s4 ⊢
  have up:∀ p ∈ ps,LE.le (α:=Int) 1 p.1∧LT.lt (α:=Int) p.1 q.1.1.1.1:=fun p hq=>⟨(hp p hq).1,Int.lt_of_lt_of_le (hp p hq).2 s2⟩
  cases c:q.1.2.2 != 0 with
  | true=>exact ⟨s1,s2,s3,up⟩
  | false =>
   have e0:=iV c
   obtain ⟨i1,i2,i3,i4⟩:=E9 l q.1.1 q.1.2.1 (ps++[q.2]) (B+211) ⟨g1.live,g1.disk,g1.lo,g1.hi⟩ (by omega) fun p hq=>by
    rcases List.mem_append.1 hq with w | w
    · exact up p w
    · rw [List.mem_singleton.1 w]
      exact s4 e0
   simp only [aK]
   exact ⟨zY s1 (LC i1 s2),Int.le_trans s2 i2,i3.trans s3,i4⟩
theorem Jn {d:aS} {p:Ty.d aC} {e:Ty.d a_} (h:e ∈ gV d p):(e=fj p∧(p.2.2.2.1.1==2)=false)∨e ∈ d:=by
 unfold gV at h
 cases c:p.2.2.2.1.1==2 with
 | true=>rw [c,ac] at h;exact .inr ((List.mem_filter.1 h).1)
 | false =>
  rw [c,aK] at h
  rcases Gw h with w | w
  · exact .inl ⟨w,rfl⟩
  · exact .inr ((List.mem_filter.1 w).1)
theorem oT {e:Ty.d a_}:∀ (ps:ai) {d:aS},e ∈ bx d ps→(∃ p ∈ ps,e=fj p∧(p.2.2.2.1.1==2)=false)∨e ∈ d
 | [],d,h => .inr h
 | p::ps,d,h=>by
  rcases oT ps (d:=gV d p) h with ⟨q,hq,w⟩ | w
  · exact .inl ⟨q,nX _ hq,w⟩
  · rcases Jn w with w | w
    · exact .inl ⟨p,li,w⟩
    · exact .inr w
theorem B9 {s t:ByteArray} {i n:Int} (h:(ft s i n).2=true):ft (s++t) i n=ft s i n:=by
 unfold ft at h ⊢
 by_cases c:0≤i∧i≤s.size∧1≤n∧n≤s.size-i
 · have hz:(s++t).size=s.size+t.size:=ByteArray.size_append ..
   have e:ByteArray.extract (s++t) i.toNat (i+n).toNat=ByteArray.extract s i.toNat (i+n).toNat:=by
    refine lA ?_
    rw [tM,tM,iF,List.take_append_of_le_length (by rw [cp];omega)]
   rw [if_pos c,if_pos (show 0≤i∧i≤(s++t).size∧1≤n∧n≤(s++t).size-i from ⟨c.1,by omega,c.2.2.1,by omega⟩),e]
 · rw [if_neg c] at h
   cases h
theorem yi {n:Int} {d d':Ty.d aB} {e:Ty.d a_} (hd:DR d) (hd':DR d') (hx:EX n d d') (h1:LE.le (α:=Int) 1 e.2.1) (h2:LT.lt (α:=Int) e.2.1 n) (h3:LE.le (α:=Int) e.2.1 100000) (h:(eR d e).2=true):eR d' e=eR d e:=by
 unfold eR at h ⊢
 rw [kv hd] at h
 rw [kv hd,kv hd']
 cases c:fT d (aA aH e.2.1) with
 | none =>
  rw [c] at h
  have h:(ft ⟨#[]⟩ e.2.2.1 e.2.2.2.1).2=true:=h
  rw [wa] at h
  cases h
 | some t =>
  obtain ⟨u,hu⟩:=hx e.2.1 h1 h2 h3 t c
  rw [c] at h
  rw [hu]
  exact B9 h
def EI (st:Ty.d aF):Prop:=∀ e ∈ st.2.1,LE.le (α:=Int) 1 e.2.1∧LT.lt (α:=Int) e.2.1 st.1.1
def FL (s:ByteArray):Prop:=∃ rs:jt,(∀ r ∈ rs,cF r=true)∧s=ab rs
theorem KV (s:ByteArray):∀ (d:Nat) (i:Int),0≤i→i≤s.size→(s.size:Int)-i<d→(gC s d i).2=(s.size:Int)→FL (ByteArray.extract s i.toNat s.size):=by
 intro d
 induction d with
 | zero=>intro i h0 h1 h2 _;omega
 | succ d ih =>
  intro i h0 h1 h2 h
  have stop:i=(s.size:Int)→FL (ByteArray.extract s i.toNat s.size):=fun e=>by
   rw [e,Int.toNat_natCast,DC]
   exact ⟨[],fun r hr=>(by cases hr),rfl⟩
  rw [gC] at h
  by_cases c1:(gS (ByteArray.extract s i.toNat s.size)).2=0
  · rw [if_pos c1] at h
    exact stop h
  · rw [if_neg c1] at h
    cases c2:(gp (gS (ByteArray.extract s i.toNat s.size)).1).2 with
    | false =>
     rw [if_pos c2] at h
     exact stop h
    | true =>
     rw [if_neg (by rw [c2];decide)] at h
     have hu:=nF (ByteArray.extract s i.toNat s.size)
     have hz:=qG s i.toNat
     have ih:=ih (i+(gS (ByteArray.extract s i.toNat s.size)).2) (by omega) (by omega) (by omega) h
     rcases oM (ByteArray.extract s i.toNat s.size) with ⟨t,r,ht,e1,e2⟩ | ⟨e2,_⟩
     · rw [e2] at ih c2
       simp only [] at ih c2
       have e3:ByteArray.extract s (i+((aP t).size:Int)).toNat s.size=r:=by
        apply lA
        have hnb:=congrArg nb e1
        rw [iR,iF] at hnb
        rw [iR,show (i+((aP t).size:Int)).toNat=i.toNat+(aP t).size by omega,← List.drop_drop,hnb,List.drop_left' (cp _)]
       rw [e3] at ih
       obtain ⟨rs,k1,k2⟩:=ih
       obtain ⟨g1,g2⟩:=zO (s:=t) (r:=(gp t).1) (Prod.ext rfl c2)
       refine ⟨(gp t).1::rs,fun x hx=>?_,?_⟩
       · rcases List.mem_cons.1 hx with e | e
         · rw [e];exact g1
         · exact k1 x e
       · rw [e1,k2,ab,g2]
     · exact absurd (by rw [e2]) c1
theorem IG (s:ByteArray):ByteArray.extract s 0 s.size=s:=lA (by rw [iR,List.drop_zero])
theorem Gy {s:ByteArray} (h:(bP s).2=(s.size:Int)):FL s:=by
 have:=KV s (s.size+1) 0 (by omega) (by omega) (by omega) h
 rw [show (0:Int).toNat=0 from rfl,IG] at this
 exact this
theorem Hm {s:ByteArray} (h:FL s):(bP s).2=(s.size:Int):=by
 obtain ⟨rs,h1,h2⟩:=h
 rw [h2]
 exact (qi h1).2
theorem yu (r:Ty.d bA):ab [r]=aP (aJ r):=Hg _
theorem J7 {s:ByteArray} {r:Ty.d bA} (h:FL s) (hr:cF r=true):FL (s++aP (aJ r)):=by
 obtain ⟨rs,h1,h2⟩:=h
 refine ⟨rs++[r],fun x hx=>?_,?_⟩
 · rcases List.mem_append.1 hx with e | e
   · exact h1 x e
   · rw [List.mem_singleton.1 e];exact hr
 · rw [pN,yu,h2]
theorem IW:FL ⟨#[]⟩:=⟨[],fun r hr=>(by cases hr),rfl⟩
theorem vd (r:Ty.d bA):5≤bE r∧bE r≤210:=by
 have h1:=lb r
 have h2:=lL (s:=aJ r) (by omega)
 have h3:(aP (aJ r)).size≤74:=by
  unfold aP
  rw [if_neg (by omega)]
  have h4:=km (ra (jy (aJ r)))
  have h5:=cB ((aJ r).size:Int)
  rw [ByteArray.size_append]
  unfold jy at h4 ⊢
  rw [ByteArray.size_append]
  omega
 unfold bE
 omega
theorem Az (t:ByteArray) {r:Ty.d bA} (h:cF r=true):ft (t++aP (aJ r)) (t.size:Int) (bE r)=(r,true):=by
 have hz:=lb r
 have hp:=vd r
 have hl:((aP (aJ r)).size:Int)=bE r:=rfl
 have hs:(t++aP (aJ r)).size=t.size+(aP (aJ r)).size:=ByteArray.size_append ..
 have e:ByteArray.extract (t++aP (aJ r)) (t.size:Int).toNat ((t.size:Int)+bE r).toNat=aP (aJ r):=by
  rw [Int.toNat_natCast,show ((t.size:Int)+bE r).toNat=(t++aP (aJ r)).size by omega]
  exact eO _ _
 have e2:gS (aP (aJ r))=(aJ r,((aP (aJ r)).size:Int)):=by
  have:=oO ⟨#[]⟩ (t:=aJ r) (by omega)
  rw [Hg] at this
  exact this
 unfold ft
 rw [if_pos ⟨by omega,by omega,by omega,by omega⟩,e,e2]
 simp only []
 rw [if_pos hl,uR h]
def Lm (x:Ty.d a_):Bool:=gF x.1&&(decide ((1:Int)≤x.2.1∧x.2.1≤100000)&&(!decide (x.2.2.1<(0:Int))&&(decide ((1:Int)≤x.2.2.2.1∧x.2.2.2.1≤210)&&decide ((1:Int)≤x.2.2.2.2.1∧x.2.2.2.2.1≤1000000))))
theorem IE (p:Option (Ty.d a_)) (x:Ty.d a_):qD p x=true↔(Lm x=true∧∀ q,p=some q→oG q.1 x.1=true):=by
 unfold qD Lm
 simp only [iI]
 cases p with
 | none=>exact ⟨fun h=>⟨⟨h.1,h.2.1,h.2.2.1,h.2.2.2.1,h.2.2.2.2.1⟩,fun q hq=>(by cases hq)⟩,fun h=>⟨h.1.1,h.1.2.1,h.1.2.2.1,h.1.2.2.2.1,h.1.2.2.2.2,rfl⟩⟩
 | some y=>exact ⟨fun h=>⟨⟨h.1,h.2.1,h.2.2.1,h.2.2.2.1,h.2.2.2.2.1⟩,fun q hq=>(by cases hq;exact h.2.2.2.2.2)⟩,fun h=>⟨h.1.1,h.1.2.1,h.1.2.2.1,h.1.2.2.2.1,h.1.2.2.2.2,h.2 y rfl⟩⟩
def jH (l:aS):List ByteArray:=l.map (·.1)
theorem H1:∀ (l:aS) (p:Option (Ty.d a_)),p8 qD p l=true↔((∀ f ∈ l,Lm f=true)∧d5 (jH l)∧(∀ q,p=some q→∀ f ∈ l,oG q.1 f.1=true))
 | [],p=>by
  constructor
  · intro _
    exact ⟨fun f h=>(by cases h),List.Pairwise.nil,fun q _ f h=>(by cases h)⟩
  · intro _;rfl
 | g::l,p=>by
  have ih:=H1 l (some g)
  unfold p8
  rw [iI,ih,IE]
  constructor
  · rintro ⟨⟨h1,h2⟩,h3,h4,h5⟩
    refine ⟨fun f hf=>?_,?_,fun q hq f hf=>?_⟩
    · rcases List.mem_cons.1 hf with e | e
      · rw [e];exact h1
      · exact h3 f e
    · unfold d5 jH
      rw [List.map_cons,List.pairwise_cons]
      refine ⟨fun x hx=>?_,h4⟩
      obtain ⟨f,hf,rfl⟩:=List.mem_map.1 hx
      exact h5 g rfl f hf
    · rcases List.mem_cons.1 hf with e | e
      · rw [e];exact h2 q hq
      · exact qJ (h2 q hq) (h5 g rfl f e)
  · rintro ⟨h1,h2,h3⟩
    unfold d5 jH at h2
    rw [List.map_cons,List.pairwise_cons] at h2
    refine ⟨⟨h1 g (li ..),fun q hq=>h3 q hq g (li ..)⟩,fun f hf=>h1 f (nX _ hf),h2.2,fun q hq f hf=>?_⟩
    cases hq
    exact h2.1 f.1 (List.mem_map.2 ⟨f,hf,rfl⟩)
theorem uX {l:aS}:pq l=true↔(l.length≤20∧(∀ f ∈ l,Lm f=true)∧d5 (jH l)):=by
 unfold pq
 rw [iI,decide_eq_true_eq,H1]
 exact ⟨fun h=>⟨by omega,h.2.1,h.2.2.1⟩,fun h=>⟨by omega,h.2.1,h.2.2,fun q hq=>(by cases hq)⟩⟩
theorem Ar (key:ByteArray) {l:aS} (h:d5 (jH l)):d5 (jH (kV l key)):=List.Pairwise.sublist (List.Sublist.map _ List.filter_sublist) h
theorem B5 {α:Type} (key:α→ByteArray) {e:α}:∀ {l:List α},d5 (l.map key)→(∀ g ∈ l,key g≠key e)→d5 ((l.takeWhile (fun x=>oG (key x) (key e)||seq (key x) (key e))++e::l.dropWhile (fun x=>oG (key x) (key e)||seq (key x) (key e))).map key)
 | [],_,_=>List.pairwise_singleton ..
 | g::l,h,hn=>by
  have h':=h
  unfold d5 at h'
  rw [List.map_cons,List.pairwise_cons] at h'
  have ih:=B5 key (e:=e) (l:=l) h'.2 fun x hx=>hn x (nX _ hx)
  rw [List.takeWhile_cons,List.dropWhile_cons]
  have hne:=hn g li
  cases c:(oG (key g) (key e)||seq (key g) (key e)) with
  | true =>
   rw [if_pos rfl,if_pos rfl]
   unfold d5 at ih ⊢
   rw [List.cons_append,List.map_cons,List.pairwise_cons]
   refine ⟨fun x hx=>?_,ih⟩
   have hge:oG (key g) (key e)=true:=by
    rw [ky hne,Bool.or_false] at c
    exact c
   obtain ⟨y,hy,rfl⟩:=List.mem_map.1 hx
   rcases List.mem_append.1 hy with w | w
   · exact h'.1 (key y) (List.mem_map.2 ⟨y,List.takeWhile_subset _ w,rfl⟩)
   · rcases List.mem_cons.1 w with w | w
     · rw [w];exact hge
     · exact h'.1 (key y) (List.mem_map.2 ⟨y,List.dropWhile_subset _ w,rfl⟩)
  | false =>
   rw [if_neg (by decide),if_neg (by decide),List.nil_append]
   rw [ky hne,Bool.or_false] at c
   have hlt:oG (key e) (key g)=true:=by
    have:=nI (key e) (key g)
    rw [ky (fun q=>hne q.symm),c] at this
    simpa using this
   unfold d5
   rw [List.map_cons,List.pairwise_cons]
   refine ⟨fun x hx=>?_,h⟩
   obtain ⟨y,hy,rfl⟩:=List.mem_map.1 hx
   rcases List.mem_cons.1 hy with w | w
   · rw [w];exact hlt
   · exact qJ hlt (h'.1 (key y) (List.mem_map.2 ⟨y,w,rfl⟩))
theorem JX {e:Ty.d a_} {l:aS} (h:d5 (jH l)) (hn:∀ g ∈ l,g.1≠e.1):d5 (jH (ve l e)):=B5 (fun x:Ty.d a_=>x.1) h hn
theorem KH {l:aS} {key:ByteArray}:∀ g ∈ kV l key,g.1≠key:=fun g hg q=>by
 unfold kV at hg
 rw [List.mem_filter] at hg
 have:=hg.2
 rw [q,bO] at this
 cases this
theorem II {d:aS} (p:Ty.d aC) (h:d5 (jH d)):d5 (jH (gV d p)):=by
 unfold gV
 cases p.2.2.2.1.1==2 with
 | true=>exact Ar _ h
 | false=>exact JX (Ar _ h) KH
theorem qg:∀ (ps:ai) {d:aS},d5 (jH d)→d5 (jH (bx d ps))
 | [],_,h=>h
 | p::ps,d,h=>qg ps (d:=gV d p) (II p h)
end Go.Proofs.YthjppgafienaoaaGreatDoor.G

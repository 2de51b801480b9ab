/- Plain laws, merged; what is proved here is told ahead of each part. -/
import Derived.Test.YtmakghhmpgfboaaGreatDoorZB1
set_option linter.unusedVariables false
set_option linter.unusedSimpArgs false
namespace Go.Proofs.YtmakghhmpgfboaaGreatDoor.G
open Go.V
theorem ext_full (s:ByteArray):ByteArray.extract s s.size s.size=⟨#[]⟩:=nb_inj (by rw [ext_tail,List.drop_eq_nil_of_le (by rw [nb_len];omega)];rfl)
theorem scanN_cut (s:ByteArray):∀ (d d':Nat) (i:Int),0≤i→i≤s.size→(s.size:Int)-i<d→(scanN s d i).2-i<d'→scanN (ByteArray.extract s 0 (scanN s d i).2.toNat) d' i=scanN s d i:=by
 intro d
 induction d with
 | zero=>intro d' i h0 h1 h2;omega
 | succ d ih =>
  intro d' i h0 h1 h2 h3
  have hu:=unf_bound (ByteArray.extract s i.toNat s.size)
  have hz:=ext_size s i.toNat
  have stop:∀ d':Nat,0<d'→scanN (ByteArray.extract s 0 i.toNat) d' i=([],i):=fun d' hd=>by
   obtain ⟨n,rfl⟩:∃ q,d'=q+1:=⟨d'-1,by omega⟩
   have hs:(ByteArray.extract s 0 i.toNat).size=i.toNat:=ext0_size s (by omega)
   have e:ByteArray.extract (ByteArray.extract s 0 i.toNat) i.toNat (ByteArray.extract s 0 i.toNat).size=⟨#[]⟩:=by
    have:=ext_full (ByteArray.extract s 0 i.toNat)
    rw [hs] at this ⊢
    exact this
   rw [scanN,e,unf_nil,if_pos rfl]
  by_cases c1:(unfM (ByteArray.extract s i.toNat s.size)).2=0
  · have e:scanN s (d+1) i=([],i):=by rw [scanN,if_pos c1]
    rw [e] at h3 ⊢
    exact stop d' (by simp only [] at h3;omega)
  · cases c2:(readRecM (unfM (ByteArray.extract s i.toNat s.size)).1).2 with
    | false =>
     have e:scanN s (d+1) i=([],i):=by rw [scanN,if_neg c1,if_pos c2]
     rw [e] at h3 ⊢
     exact stop d' (by simp only [] at h3;omega)
    | true =>
     have e:scanN s (d+1) i=(((i,((unfM (ByteArray.extract s i.toNat s.size)).2,((readRecM (unfM (ByteArray.extract s i.toNat s.size)).1).1,()))):Ty.den TSpot)::(scanN s d (i+(unfM (ByteArray.extract s i.toNat s.size)).2)).1,(scanN s d (i+(unfM (ByteArray.extract s i.toNat s.size)).2)).2):=by
      rw [scanN,if_neg c1,if_neg (by rw [c2];decide)]
     rw [e] at h3 ⊢
     simp only [] at h3 ⊢
     have hl:=scanN_len s d (i+(unfM (ByteArray.extract s i.toNat s.size)).2) (by omega) (by omega)
     obtain ⟨n,rfl⟩:∃ q,d'=q+1:=⟨d'-1,by omega⟩
     have ih:=ih n (i+(unfM (ByteArray.extract s i.toNat s.size)).2) (by omega) (by omega) (by omega) (by omega)
     have key:unfM (ByteArray.extract (ByteArray.extract s 0 (scanN s d (i+(unfM (ByteArray.extract s i.toNat s.size)).2)).2.toNat) i.toNat (ByteArray.extract s 0 (scanN s d (i+(unfM (ByteArray.extract s i.toNat s.size)).2)).2.toNat).size)=unfM (ByteArray.extract s i.toNat s.size):=by
      generalize (scanN s d (i+(unfM (ByteArray.extract s i.toNat s.size)).2)).2=x at hl ⊢
      rcases unf_cases (ByteArray.extract s i.toNat s.size) with ⟨t,r,ht,e1,e2⟩ | ⟨e2,_⟩
      · rw [e2] at hl ⊢
        simp only [] at hl
        have e3:ByteArray.extract (ByteArray.extract s 0 x.toNat) i.toNat (ByteArray.extract s 0 x.toNat).size=frameM t++ByteArray.extract r 0 (x.toNat-i.toNat-(frameM t).size):=by
         apply nb_inj
         have hnb:=congrArg nb e1
         rw [ext_tail,nb_app] at hnb
         rw [ext_tail,nb_extract,nb_app,nb_extract,List.drop_take,hnb,List.take_append,nb_len,List.take_of_length_le (by rw [nb_len];omega)]
        rw [e3,unf_frame _ ht]
      · exact absurd (by rw [e2]) c1
     rw [scanN,key,if_neg c1,if_neg (by rw [c2];decide),ih]
theorem scanM_cut (s:ByteArray):scanM (ByteArray.extract s 0 (scanM s).2.toNat)=scanM s:=by
 have hl:=scanM_len s
 have:=scanN_cut s (s.size+1) ((scanM s).2.toNat+1) 0 (by omega) (by omega) (by omega) (by show (scanM s).2-0<_;omega)
 have hz:=ext0_size s (n:=(scanM s).2.toNat) (by omega)
 unfold scanM at hz ⊢
 rw [hz]
 exact this
theorem get_upd {h:Ty.den TFile→Ty.den TFile} (hh:∀ f,(h f).1=f.1):∀ (l:FileL) (s t:ByteArray),getM (updF h l s) t=bif seq t s then (getM l s).map h else getM l t
 | [],s,t=>by cases seq t s <;> rfl
 | g::l,s,t=>by
  unfold updF
  cases c:seq g.1 s with
  | true =>
   have e:=seq_iff.1 c
   rw [c_t,getM.eq_2,hh,getM.eq_2,c,c_t]
   by_cases q:t=s
   · rw [e,q,seq_refl];rfl
   · rw [seqF q,c_f,getM.eq_2]
     rw [e,seqF (fun w=>q w.symm)]
     rfl
  | false =>
   rw [c_f,getM.eq_2,getM.eq_2,c,c_f,get_upd hh l s t,getM.eq_2]
   by_cases q:t=s
   · rw [q,seq_refl,c];rfl
   · rw [seqF q];rfl
theorem step_zero {d:Ty.den TDisk} {g:FileL→Int→FileL × Int} (h:(stepM d g).2=0):(g d.1 d.2.1).2=0∧(stepM d g).1.1=(g d.1 d.2.1).1:=by
 unfold stepM at h ⊢
 cases c:(begM d).2 != 0 with
 | true =>
  rw [c,c_t] at h
  rw [h] at c
  cases c
 | false=>rw [c] at h;exact ⟨h,rfl⟩
theorem text_right {d:Ty.den TDisk} (h:DR d) (s:ByteArray):textM d s=match getM d.1 s with | none=>(⟨#[]⟩,false) | some f=>(f.2.1,true):=by
 unfold textM
 rw [disk_iff.2 h]
 rfl
theorem syn_text {d:Ty.den TDisk} (h:DR d) {n:ByteArray} (c:(synM d n).2=0) (s:ByteArray):textM (synM d n).1 s=textM d s:=by
 obtain ⟨c1,c2⟩:=step_zero c
 rw [text_right (syn_DR h n),text_right h]
 unfold synM
 rw [c2]
 unfold synG at c1 ⊢
 cases hg:(getM d.1 n).isNone with
 | true=>rfl
 | false =>
  rw [c_f]
  show (match getM (updF _ d.1 n) s with | none=>_ | some f=>_)=_
  rw [get_upd (by intro f;rfl)]
  by_cases q:s=n
  · rw [q,seq_refl,c_t]
    cases getM d.1 n <;> rfl
  · rw [seqF q,c_f]
theorem tru_text {d:Ty.den TDisk} (h:DR d) {n:ByteArray} {m:Int} (c:(truM d n m).2=0) (s:ByteArray):textM (truM d n m).1 s=bif seq s n then (ByteArray.extract (textM d n).1 0 m.toNat,true) else textM d s:=by
 obtain ⟨c1,c2⟩:=step_zero c
 rw [text_right (tru_DR h n m),text_right h,text_right h]
 unfold truM
 rw [c2]
 unfold truG at c1 ⊢
 cases hg:getM d.1 n with
 | none=>rw [hg] at c1;cases c1
 | some f =>
  rw [hg] at c1
  simp only [] at c1 ⊢
  cases hm:decide (0≤m∧m≤(f.2.1.size:Int)) with
  | false=>rw [hm] at c1;cases c1
  | true =>
   simp only [n_t,c_f]
   rw [get_upd (by intro f;rfl)]
   by_cases q:s=n
   · rw [q,seq_refl,c_t,hg];rfl
   · rw [seqF q,c_f,c_f]
theorem seqR_zero {r:RD} {f:Ty.den TDisk→RD} (h:(seqR r f).2=0):r.2=0∧seqR r f=f r.1∧(f r.1).2=0:=by
 unfold seqR at h ⊢
 cases c:r.2==0 with
 | true=>rw [c] at h;exact ⟨q_t c,rfl,h⟩
 | false =>
  rw [c] at h
  rw [c_f] at h
  rw [h] at c
  cases c
noncomputable def segT (d:Ty.den TDisk) (x:Int):ByteArray:=(textM d (namedM segB x)).1
def lastI (ids:List Int):Int:=ids.getD (ids.length-1) 0
noncomputable def fixR (x:Int) (d:Ty.den TDisk):RD :=
 seqR (bif decide ((scanM (segT d x)).2<((segT d x).size:Int)) then truM d (namedM segB x) (scanM (segT d x)).2 else (d,0)) fun y=>synM y (namedM segB x)
theorem fix_DR (x:Int) {d:Ty.den TDisk} (h:DR d):DR (fixR x d).1:=by
 unfold fixR
 refine seqR_DR ?_ fun y hy=>syn_DR hy _
 cases decide ((scanM (segT d x)).2<((segT d x).size:Int))
 · exact h
 · exact tru_DR h _ _
theorem fix_text {d:Ty.den TDisk} (h:DR d) {x:Int} (c:(fixR x d).2=0) (s:ByteArray):(textM (fixR x d).1 s).2=(textM d s).2∧scanM (textM (fixR x d).1 s).1=scanM (textM d s).1:=by
 obtain ⟨c1,c2,c3⟩:=seqR_zero c
 have e:fixR x d=_:=c2
 rw [e]
 by_cases hb:(scanM (segT d x)).2<((segT d x).size:Int)
 · simp only [decT hb,c_t] at c1 c3 ⊢
   rw [syn_text (tru_DR h _ _) c3,tru_text h c1]
   by_cases q:s=namedM segB x
   · rw [q,seq_refl,c_t]
     refine ⟨?_,scanM_cut (segT d x)⟩
     cases hq:(textM d (namedM segB x)).2 with
     | true=>rfl
     | false =>
      exfalso
      unfold segT at hb
      have hl:=scanM_len (textM d (namedM segB x)).1
      rw [text_no hq] at hb hl
      rw [e0] at hb
      omega
   · rw [seqF q];exact ⟨rfl,rfl⟩
 · simp only [decF hb,c_f] at c1 c3 ⊢
   rw [syn_text h c3]
   exact ⟨rfl,rfl⟩
end Go.Proofs.YtmakghhmpgfboaaGreatDoor.G
namespace Go.Proofs.YtmakghhmpgfboaaGreatDoor.G
open Go.V
def pairOk (p:Option (Ty.den TPair)) (x:Ty.den TPair):Bool :=
 keyOkB x.1&&(decide ((x.2.1.size:Int)≤24)&&(decide (1≤x.2.2.1∧x.2.2.1≤1000000)&&(match p with | none=>true | some y=>sls y.1 x.1)))
def pairsOk (l:PairL):Bool:=adj pairOk none l&&decide (l.length≤20)
theorem specPairsOk_eq {k:Nat} (hk:2 ^ 50≤k) (l:PairL):spec_PairsOk.f k l=some (pairsOk l,()):=by
 unfold spec_PairsOk.f spec_PairsOk.t pairsOk
 by_cases c:l.length > 20
 · rw [decT (by omega),c_t,decF (by omega),Bool.and_false]
 · rw [decF (by omega),c_f,decT (by omega),Bool.and_true]
   refine (forAdj (L:=fun n i=>spec_PairsOk.l0 k n l i) (Ty.dflt TPair) l pairOk (some (true,())) (some (false,())) (fun n=>?_) (fun n x h hx=>?_) (fun n i x y h0 h1 hx hy=>?_) (n:=k) (by omega)).trans (by cases adj pairOk none l <;> rfl)
   · simp (disch:=omega) only [spec_PairsOk.l0,spec_PairsOk.b0,decF,c_f]
   · simp (disch:=omega) only [spec_PairsOk.l0,spec_PairsOk.b0,decT (show (0:Int)<(l.length:Int) by omega),c_t,inb_eq,hx,specKeyOk_eq k,l1In_eq k,o_s,decF (show ¬ (0:Int) > 0 by omega),c_f,w64_eq,pairOk,keyOkB]
     by_cases c2:(x.2.1.size:Int) > 24
     · rw [decT c2,decF (show ¬ (x.2.1.size:Int)≤24 by omega)]
       cases decide (1≤(x.1.size:Int)∧(x.1.size:Int)≤8) <;> rfl
     · rw [decF c2,decT (show (x.2.1.size:Int)≤24 by omega)]
       cases decide (1≤(x.1.size:Int)∧(x.1.size:Int)≤8) <;> cases decide (1≤x.2.2.1∧x.2.2.1≤1000000) <;> rfl
   · simp (disch:=omega) only [spec_PairsOk.l0,spec_PairsOk.b0,decT h1,c_t,inb_eq,hx,hy,specKeyOk_eq k,l1In_eq k,o_s,decT (show i > 0 by omega),c_f,w64_eq,pairOk,keyOkB,sls_total]
     by_cases c2:(x.2.1.size:Int) > 24
     · rw [decT c2,decF (show ¬ (x.2.1.size:Int)≤24 by omega)]
       cases decide (1≤(x.1.size:Int)∧(x.1.size:Int)≤8) <;> rfl
     · rw [decF c2,decT (show (x.2.1.size:Int)≤24 by omega)]
       cases decide (1≤(x.1.size:Int)∧(x.1.size:Int)≤8) <;> cases decide (1≤x.2.2.1∧x.2.2.1≤1000000) <;> cases sls y.1 x.1 <;> rfl
theorem implPairsOk_eq {k:Nat} (hk:2 ^ 50≤k) {l:PairL} (hl:l.length≤1099511627776):impl_PairsOk.f k l=some (pairsOk l,()):=by
 unfold impl_PairsOk.f impl_PairsOk.t pairsOk
 refine (forAdj (L:=fun n i=>impl_PairsOk.l0 k n l l l.length i) (Ty.dflt TPair) l pairOk (some (decide ((l.length:Int)≤20),())) (some (false,())) (fun n=>?_) (fun n x h hx=>?_) (fun n i x y h0 h1 hx hy=>?_) (n:=k) (by omega)).trans
  (by rw [show decide ((l.length:Int)≤20)=decide (l.length≤20) from decide_eq_decide.2 (by omega)];cases adj pairOk none l <;> rfl)
 · simp (disch:=omega) only [impl_PairsOk.l0,impl_PairsOk.b0,decF,c_f]
 · simp (disch:=omega) only [impl_PairsOk.l0,impl_PairsOk.b0,decT (show (0:Int)<(l.length:Int) by omega),c_t,inb_eq,hx,implKeyOk_eq k,in_eq k,o_s,decF (show ¬ (0:Int) > 0 by omega),c_f,w64_eq,pairOk,keyOkB]
   by_cases c2:(x.2.1.size:Int) > 24
   · rw [decT c2,decF (show ¬ (x.2.1.size:Int)≤24 by omega)]
     cases decide (1≤(x.1.size:Int)∧(x.1.size:Int)≤8) <;> rfl
   · rw [decF c2,decT (show (x.2.1.size:Int)≤24 by omega)]
     cases decide (1≤(x.1.size:Int)∧(x.1.size:Int)≤8) <;> cases decide (1≤x.2.2.1∧x.2.2.1≤1000000) <;> rfl
 · simp (disch:=omega) only [impl_PairsOk.l0,impl_PairsOk.b0,decT h1,c_t,inb_eq,hx,hy,implKeyOk_eq k,in_eq k,o_s,decT (show i > 0 by omega),c_f,w64_eq,pairOk,keyOkB]
   by_cases c2:(x.2.1.size:Int) > 24
   · rw [decT c2,decF (show ¬ (x.2.1.size:Int)≤24 by omega)]
     cases decide (1≤(x.1.size:Int)∧(x.1.size:Int)≤8) <;> rfl
   · rw [decF c2,decT (show (x.2.1.size:Int)≤24 by omega)]
     cases decide (1≤(x.1.size:Int)∧(x.1.size:Int)≤8) <;> cases decide (1≤x.2.2.1∧x.2.2.1≤1000000) <;> cases sls y.1 x.1 <;> rfl
def showPairsM (l:PairL):ByteArray:=if pairsOk l=true then framesM (keepsM l 0) else ⟨#[]⟩
theorem pairsOk_len {l:PairL} (h:pairsOk l=true):l.length≤20:=by
 unfold pairsOk at h
 rw [b_a,decide_eq_true_eq] at h
 exact h.2
theorem implShowPairs_eq {k:Nat} (hk:2 ^ 50≤k) {l:PairL} (hl:l.length≤1099511627776):impl_ShowPairs.f k l=some (showPairsM l,()):=by
 unfold impl_ShowPairs.f impl_ShowPairs.t showPairsM
 rw [implPairsOk_eq hk hl,o_s]
 cases c:pairsOk l with
 | false=>rfl
 | true =>
  have h20:=pairsOk_len c
  rw [if_pos rfl]
  simp only [n_t,c_f]
  rw [implKeeps_eq hk (by omega),o_s]
  simp only []
  have hkl:(keepsM l 0).length≤21:=by
   unfold keepsM
   rw [l_a,List.length_map]
   show _+1≤_
   omega
  generalize keepsM l 0=rs at hkl
  refine (forL0 (L:=fun n i s=>impl_ShowPairs.l0 k n s rs.length i rs) (R:=fun r s=>some (s++framesM r,())) (Ty.dflt TRec) rs (fun i s=>(s.size:Int)≤211*i) (fun n s hs=>?_) (fun n i s x rest h0 h1 hx hr hp ih=>?_) (n:=k) (s:=⟨#[]⟩) (by omega) (by decide)).trans (by rw [app_nil])
  · simp (disch:=omega) only [impl_ShowPairs.l0,impl_ShowPairs.b0,decF,c_f,framesM,nil_app]
  · have hf:=frameM_size (showRec x)
    have ih:=ih (s++frameM (showRec x)) (by rw [sz_app];omega)
    simp (disch:=omega) only [impl_ShowPairs.l0,impl_ShowPairs.b0,decT,c_t,inb_eq,hx,implShowRec_eq hk,implFrame_eq hk,o_s,cat_ok,w64_eq]
    rw [ih,framesM,app_assoc]
theorem scan_at {pre rest:ByteArray} {r:Ty.den TRec} (h:recOk r=true) (d:Nat) :
 scanN (pre++(frameM (showRec r)++rest)) (d+1) (pre.size:Int)=(((pre.size:Int),(((frameM (showRec r)).size:Int),(r,())))::(scanN (pre++(frameM (showRec r)++rest)) d ((pre.size+(frameM (showRec r)).size:Nat):Int)).1,(scanN (pre++(frameM (showRec r)++rest)) d ((pre.size+(frameM (showRec r)).size:Nat):Int)).2):=by
 have hz:=showRec_size r
 have hp:=frameM_pos (s:=showRec r) (by omega)
 rw [scanN,n_n,app_tail,unf_frame rest (by omega)]
 simp only []
 rw [readRec_show h,if_neg (by omega)]
 simp only []
 rw [if_neg (show ¬ ((true:Bool)=false) by decide)]
 rfl
theorem scan_frames:∀ (rs:RecL) (pre:ByteArray) (d:Nat),(∀ r ∈ rs,recOk r=true)→(framesM rs).size<d→(scanN (pre++framesM rs) d (pre.size:Int)).1.map (·.2.2.1)=rs∧(scanN (pre++framesM rs) d (pre.size:Int)).2=((pre++framesM rs).size:Int)
 | [],pre,d,_,hd=>by
  obtain ⟨d,rfl⟩:∃ q,d=q+1:=⟨d-1,by omega⟩
  have:unfM (ByteArray.extract (pre++framesM []) (Int.toNat (pre.size:Int)) (pre++framesM []).size)=(⟨#[]⟩,0):=by
   rw [n_n,app_tail,framesM,unf_nil]
  rw [scanN,this,if_pos rfl,framesM,sz_app,e0]
  exact ⟨rfl,rfl⟩
 | r::rs,pre,d,h,hd=>by
  rw [framesM,sz_app] at hd
  have hz:=showRec_size r
  have hp:=frameM_pos (s:=showRec r) (by omega)
  obtain ⟨d,rfl⟩:∃ q,d=q+1:=⟨d-1,by omega⟩
  have ih:=scan_frames rs (pre++frameM (showRec r)) d (fun x hx=>h x (m_m _ hx)) (by omega)
  rw [app_assoc,sz_app pre] at ih
  rw [framesM,scan_at (h r (m_s ..))]
  simp only [List.map_cons]
  exact ⟨by rw [ih.1],ih.2⟩
theorem scanM_frames {rs:RecL} (h:∀ r ∈ rs,recOk r=true):(scanM (framesM rs)).1.map (·.2.2.1)=rs∧(scanM (framesM rs)).2=((framesM rs).size:Int):=by
 have:=scan_frames rs ⟨#[]⟩ ((framesM rs).size+1) h (by omega)
 rw [app_nil,e0] at this
 exact this
theorem pairOk_keep {p:Option (Ty.den TPair)} {x:Ty.den TPair} (h:pairOk p x=true):recOk (keepR x)=true:=by
 unfold pairOk keyOkB at h
 simp only [b_a] at h
 unfold recOk keepR
 simp only [h.1,h.2.1,h.2.2.1]
 rfl
theorem keeps_ok {l:PairL} (h:pairsOk l=true):∀ r ∈ keepsM l 0,recOk r=true:=by
 have hl:=pairsOk_len h
 unfold pairsOk at h
 rw [b_a] at h
 intro r hr
 unfold keepsM at hr
 rcases List.mem_append.1 hr with q | q
 · obtain ⟨x,hx,rfl⟩:=List.mem_map.1 q
   obtain ⟨p,hp⟩:=adj_all h.1 hx
   exact pairOk_keep hp
 · rw [List.mem_singleton] at q
   subst q
   have hs:=sumM_in (l.map keepR)
   unfold recOk sealR
   simp only [List.length_map]
   rw [decT (show (0:Int)≤(l.length:Int)∧(l.length:Int)≤20 by omega),decT hs,show seq ByteArray.empty ⟨#[]⟩=true from seq_refl _]
   rfl
theorem pair_back (x:Ty.den TPair):((keepR x).2.2.1,((keepR x).2.2.2.1,((keepR x).2.1,())))=x:=rfl
noncomputable def readPairsM (s:ByteArray):PairL × Bool:=undo (fun l=>pairsOk l=true) showPairsM [] s
def spotPair (x:Ty.den TSpot):Ty.den TPair:=(x.2.2.1.2.2.1,(x.2.2.1.2.2.2.1,(x.2.2.1.2.1,())))
theorem ok_of_pairs {l:PairL} {s:ByteArray} (h:showPairsM l=s) (hs:s≠⟨#[]⟩):pairsOk l=true:=by
 cases c:pairsOk l with
 | true=>rfl
 | false=>unfold showPairsM at h;rw [c] at h;exact absurd h.symm hs
theorem showPairs_ne {l:PairL} (h:pairsOk l=true):showPairsM l≠⟨#[]⟩:=fun q=>by
 have:=congrArg ByteArray.size q
 unfold showPairsM keepsM at this
 rw [if_pos h,framesM_app,framesM,framesM,nil_app,sz_app,e0] at this
 have h1:=showRec_size (sealR 5 0 (l.map keepR))
 have:=frameM_pos (s:=showRec (sealR 5 0 (l.map keepR))) (by omega)
 omega
theorem spots_keeps {l:PairL} (h:pairsOk l=true):(scanM (showPairsM l)).1.map spotPair=l++[(ByteArray.empty,(ByteArray.empty,(0,())))]∧(scanM (showPairsM l)).1.map (·.2.2.1)=keepsM l 0:=by
 have e:showPairsM l=framesM (keepsM l 0):=by unfold showPairsM;rw [if_pos h]
 have h1:=(scanM_frames (keeps_ok h)).1
 rw [← e] at h1
 refine ⟨?_,h1⟩
 have:(scanM (showPairsM l)).1.map spotPair=((scanM (showPairsM l)).1.map (·.2.2.1)).map (fun r=>((r.2.2.1,(r.2.2.2.1,(r.2.1,()))):Ty.den TPair)):=by rw [List.map_map];rfl
 rw [this,h1]
 unfold keepsM
 rw [List.map_append,List.map_map]
 congr 1
 exact (List.map_congr_left fun x _=>pair_back x).trans (List.map_id l)
theorem implReadPairs_any {k:Nat} (hk:2 ^ 50≤k) {s:ByteArray} (hs:s.size≤1073741823):impl_ReadPairs.f k s=(let l:=((scanM s).1.filter fun x=>x.2.2.1.1==4).map spotPair;bif seq (showPairsM l) ⟨#[]⟩ then some ([],(false,())) else bif !seq (showPairsM l) s then some ([],(false,())) else some (l,(true,()))):=by
 unfold impl_ReadPairs.f impl_ReadPairs.t
 rw [implScan_eq hk (by omega),o_s]
 have hl:=(scanM_len s).1
 simp only []
 generalize (scanM s).1=sp at *
 refine (forL0 (L:=fun n i (o:PairL)=>impl_ReadPairs.l0 k n s sp.length i o sp) (R:=fun r (o:PairL)=>(let l:=o++(r.filter fun x=>x.2.2.1.1==4).map spotPair;bif seq (showPairsM l) ⟨#[]⟩ then some ([],(false,())) else bif !seq (showPairsM l) s then some ([],(false,())) else some (l,(true,())))) (Ty.dflt TSpot) sp (fun i o=>(o.length:Int)≤i) (fun n o hs=>?_) (fun n i o x rest h0 h1 hx hr hp ih=>?_) (n:=k) (s:=[]) (by omega) (by decide)).trans rfl
 · simp (disch:=first | omega | decide) only [impl_ReadPairs.l0,impl_ReadPairs.b0,decF,c_f,implShowPairs_eq hk,o_s,List.filter_nil,List.map_nil,List.append_nil]
 · cases c:(x.2.2.1.1==4) with
   | true =>
    have ih:=ih (o++[spotPair x]) (by rw [l_a];show ((o.length+1:Nat):Int)≤_;omega)
    simp (disch:=first | omega | decide) only [impl_ReadPairs.l0,impl_ReadPairs.b0,decT,c_t,inb_eq,hx,c,rm_ok,w64_eq]
    refine ih.trans ?_
    simp only [List.filter_cons,c,if_true,List.map_cons,a_a,List.cons_append,List.nil_append]
   | false =>
    have ih:=ih o (by omega)
    simp (disch:=first | omega | decide) only [impl_ReadPairs.l0,impl_ReadPairs.b0,decT,c_t,c_f,inb_eq,hx,c,rm_ok,w64_eq]
    refine ih.trans ?_
    simp only [List.filter_cons,c,Bool.false_eq_true,if_false]
theorem implReadPairs_eq {k:Nat} (hk:2 ^ 50≤k) {s:ByteArray} (hs:s.size≤1073741823):impl_ReadPairs.f k s=some ((readPairsM s).1,((readPairsM s).2,())):=by
 refine undo_of (fun l h1 h2=>?_) ?_
 · rw [implReadPairs_any hk hs,← h2]
   have hf:((scanM (showPairsM l)).1.filter fun x=>x.2.2.1.1==4).map spotPair=l:=by
    have:((scanM (showPairsM l)).1.filter fun x=>x.2.2.1.1==4).map spotPair=((((scanM (showPairsM l)).1.map (·.2.2.1)).filter fun r=>r.1==4)).map (fun r=>((r.2.2.1,(r.2.2.2.1,(r.2.1,()))):Ty.den TPair)):=by
     rw [List.filter_map,List.map_map];rfl
    rw [this,(spots_keeps h1).2]
    unfold keepsM
    rw [List.filter_append,List.filter_cons,List.filter_nil,show ((sealR 5 0 (l.map keepR)).1==4)=false from rfl,if_neg (by decide),List.append_nil,List.filter_eq_self.2 (fun r hr=>by obtain ⟨x,_,rfl⟩:=List.mem_map.1 hr;rfl),List.map_map]
    exact (List.map_congr_left fun x _=>pair_back x).trans (List.map_id l)
   simp only [hf,seqF (showPairs_ne h1),seq_refl,c_f,n_t]
 · rw [implReadPairs_any hk hs]
   simp only []
   generalize ((scanM s).1.filter fun x=>x.2.2.1.1==4).map spotPair=l
   by_cases c1:showPairsM l=⟨#[]⟩
   · rw [seqT c1];exact .inr rfl
   · rw [seqF c1,c_f]
     by_cases c2:showPairsM l=s
     · exact .inl ⟨l,ok_of_pairs c2 (c2▸c1),c2,by rw [seqT c2];rfl⟩
     · rw [seqF c2];exact .inr rfl
end Go.Proofs.YtmakghhmpgfboaaGreatDoor.G
namespace Go.Proofs.YtmakghhmpgfboaaGreatDoor.G
open Go.V
abbrev PutL:=List (Ty.den TPut)
def putOkB (x:Ty.den TPut):Bool:=keyOkB x.1&&(decide ((x.2.2.1.size:Int)≤24)&&(!x.2.1||seq x.2.2.1 ⟨#[]⟩))
def putsOk (l:PutL):Bool:=adj (fun _=>putOkB) none l&&decide (l.length≤8)
theorem implPutsOk_eq {k:Nat} (hk:2 ^ 50≤k) {l:PutL} (hl:l.length≤1099511627776):impl_PutsOk.f k l=some (putsOk l,()):=by
 unfold impl_PutsOk.f impl_PutsOk.t putsOk
 have st:∀ (n:Nat) (i:Int) x,0≤i→i<l.length→l.getD i.toNat (Ty.dflt TPut)=x→impl_PutsOk.l0 k (n+1) l l l.length i=bif putOkB x then impl_PutsOk.l0 k n l l l.length (i+1) else some (false,()):=fun n i x h0 h1 hx=>by
  have e:impl_putOk.f k x=some (putOkB x,()):=by
   unfold impl_putOk.f impl_putOk.t putOkB keyOkB
   rw [implKeyOk_eq,o_s]
   cases decide (1≤(x.1.size:Int)∧(x.1.size:Int)≤8) <;> cases decide ((x.2.2.1.size:Int)≤24) <;> cases x.2.1 <;> rfl
  simp (disch:=omega) only [impl_PutsOk.l0,impl_PutsOk.b0,decT h1,c_t,inb_eq,hx,e,o_s,w64_eq]
  cases putOkB x <;> rfl
 exact (forAdj (L:=fun n i=>impl_PutsOk.l0 k n l l l.length i) (Ty.dflt TPut) l (fun _=>putOkB) (some (decide ((l.length:Int)≤8),())) (some (false,())) (fun n=>by simp (disch:=omega) only [impl_PutsOk.l0,impl_PutsOk.b0,decF,c_f])
  (fun n x h hx=>st n 0 x (by omega) (by omega) hx) (fun n i x y h0 h1 hx hy=>st n i x (by omega) h1 hx) (n:=k) (by omega)).trans (by rw [show decide ((l.length:Int)≤8)=decide (l.length≤8) from decide_eq_decide.2 (by omega)];cases adj (fun _=>putOkB) none l <;> rfl)
theorem putsOk_len {l:PutL} (h:putsOk l=true):l.length≤8:=by
 unfold putsOk at h
 rw [b_a,decide_eq_true_eq] at h
 exact h.2
theorem putsOk_mem {l:PutL} (h:putsOk l=true) {x:Ty.den TPut} (hx:x ∈ l):putOkB x=true:=by
 unfold putsOk at h
 rw [b_a] at h
 exact (adj_all h.1 hx).elim fun _ q=>q
def putR (b:Int) (p:Ty.den TPut):Ty.den TRec:=bif p.2.1 then (2,(b,(p.1,(ByteArray.empty,(0,(0,())))))) else (1,(b,(p.1,(p.2.2.1,(0,(0,()))))))
def recsM (l:PutL) (b:Int):RecL:=l.map (putR b)++[sealR 3 b (l.map (putR b))]
theorem implRecordsOf_eq {k:Nat} (hk:2 ^ 50≤k) {l:PutL} (hl:l.length≤1073741823) (b:Int):impl_recordsOf.f k l b=some (recsM l b,()):=by
 unfold impl_recordsOf.f impl_recordsOf.t
 refine (forL0 (L:=fun n i s=>impl_recordsOf.l0 k n l b l l.length i s) (R:=fun r s=>some (s++r.map (putR b)++[sealR 3 b (s++r.map (putR b))],())) (Ty.dflt TPut) l (fun i s=>(s.length:Int)=i) (fun n s hs=>?_) (fun n i s x rest h0 h1 hx hr hp ih=>?_) (n:=k) (s:=[]) (by omega) (by decide)).trans (by rw [List.nil_append];rfl)
 · simp (disch:=first | omega | decide) only [impl_recordsOf.l0,impl_recordsOf.b0,decF,c_f,implSumOf_eq hk,o_s,rm_ok,List.map_nil,List.append_nil,sealR,hs]
 · have ih:=ih (s++[putR b x]) (by rw [l_a];show ((s.length+1:Nat):Int)=_;omega)
   have e:putR b x=bif x.2.1 then (2,(b,(x.1,(ByteArray.empty,(0,(0,())))))) else (1,(b,(x.1,(x.2.2.1,(0,(0,())))))):=rfl
   simp (disch:=first | omega | decide) only [impl_recordsOf.l0,impl_recordsOf.b0,decT,c_t,inb_eq,hx,rm_ok,w64_eq]
   cases c:x.2.1 <;> rw [c] at e <;> simp only [c_t,c_f] at e ⊢ <;> rw [← e] <;> refine ih.trans ?_ <;> simp only [List.map_cons,a_a,List.cons_append,List.nil_append]
def recLen (r:Ty.den TRec):Int:=((frameM (showRec r)).size:Int)
theorem recLen_in (r:Ty.den TRec):0≤recLen r∧recLen r≤211:=by
 have:=frameM_size (showRec r)
 unfold recLen
 omega
end Go.Proofs.YtmakghhmpgfboaaGreatDoor.G
namespace Go.Proofs.YtmakghhmpgfboaaGreatDoor.G
open Go.V
def dropM (l:EntryL) (key:ByteArray):EntryL:=l.filter fun x=>!(seq x.1 key)
def leE (key:ByteArray) (x:Ty.den TEntry):Bool:=sls x.1 key||seq x.1 key
def insE (l:EntryL) (e:Ty.den TEntry):EntryL:=l.takeWhile (leE e.1)++e::l.dropWhile (leE e.1)
def putM (l:EntryL) (e:Ty.den TEntry):EntryL:=insE (dropM l e.1) e
theorem dropM_len (l:EntryL) (key:ByteArray):(dropM l key).length≤l.length:=List.length_filter_le ..
theorem insE_len (l:EntryL) (e:Ty.den TEntry):(insE l e).length=l.length+1:=by
 unfold insE
 rw [l_a,l_c]
 have:=congrArg List.length (List.takeWhile_append_dropWhile (p:=leE e.1) (l:=l))
 rw [l_a] at this
 omega
theorem putM_len (l:EntryL) (e:Ty.den TEntry):(putM l e).length≤l.length+1:=by
 unfold putM
 have:=dropM_len l e.1
 rw [insE_len]
 omega
end Go.Proofs.YtmakghhmpgfboaaGreatDoor.G
namespace Go.Proofs.YtmakghhmpgfboaaGreatDoor.G
open Go.V
abbrev PlaceL:=List (Ty.den TPlace)
def stepSeal (b:Int) (acc:PlaceL) (p:Ty.den TPlace):PlaceL :=
 bif p.2.2.2.1.2.1==b then (bif p.2.2.2.1.1==3 then [] else bif p.2.2.2.1.1==1||p.2.2.2.1.1==2 then acc++[p] else acc) else acc
def stepMark (acc:PlaceL) (p:Ty.den TPlace):PlaceL:=bif p.2.2.2.1.1==5 then [] else bif p.2.2.2.1.1==4 then acc++[p] else acc
def ownSeal (b:Int) (l:PlaceL):PlaceL:=l.foldl (stepSeal b) []
def ownMark (l:PlaceL):PlaceL:=l.foldl stepMark []
theorem stepSeal_len (b:Int) (acc:PlaceL) (p:Ty.den TPlace):(stepSeal b acc p).length≤acc.length+1:=by
 unfold stepSeal
 cases p.2.2.2.1.2.1==b <;> cases p.2.2.2.1.1==3 <;> cases p.2.2.2.1.1==1 <;> cases p.2.2.2.1.1==2 <;> simp
theorem stepMark_len (acc:PlaceL) (p:Ty.den TPlace):(stepMark acc p).length≤acc.length+1:=by
 unfold stepMark
 cases p.2.2.2.1.1==5 <;> cases p.2.2.2.1.1==4 <;> simp
theorem foldl_len {f:PlaceL→Ty.den TPlace→PlaceL} (h:∀ a p,(f a p).length≤a.length+1):∀ (l acc:PlaceL),(l.foldl f acc).length≤acc.length+l.length
 | [],acc=>by simp
 | p::l,acc=>by
  have:=foldl_len h l (f acc p)
  have:=h acc p
  rw [List.foldl_cons,l_c]
  omega
theorem ownSeal_len (b:Int) (l:PlaceL):(ownSeal b l).length≤l.length:=by
 have:=foldl_len (stepSeal_len b) l []
 simpa [ownSeal] using this
theorem ownMark_len (l:PlaceL):(ownMark l).length≤l.length:=by
 have:=foldl_len stepMark_len l []
 simpa [ownMark] using this
theorem implOwn_seal {k:Nat} (hk:2 ^ 50≤k) {l:PlaceL} {r:Ty.den TRec} (hr:r.1=3) (hl:l.length≤1099511627775):impl_ownOf.f k l r=some (ownSeal r.2.1 l,()):=by
 unfold impl_ownOf.f impl_ownOf.t
 rw [hr]
 refine forL0 (L:=fun n i s=>impl_ownOf.l0 k n l l.length i 3 r.2.1 r.2.2.1 r.2.2.2.1 r.2.2.2.2.1 r.2.2.2.2.2.1 s) (R:=fun q s=>some (q.foldl (stepSeal r.2.1) s,())) (Ty.dflt TPlace) l (fun i s=>(s.length:Int)≤i) (fun n s hs=>?_) (fun n i s x rest h0 h1 hx hr hp ih=>?_) (n:=k) (s:=[]) (by omega) (by decide)
 · simp (disch:=omega) only [impl_ownOf.l0,impl_ownOf.b0,decF,c_f,List.foldl_nil]
 · simp (disch:=omega) only [impl_ownOf.l0,impl_ownOf.b0,decT h1,c_t,c_f,inb_eq,hx,w64_eq,show ((3:Int)==3)=true from rfl,show ((3:Int)==5)=false from rfl]
   rw [List.foldl_cons]
   have hs1:=stepSeal_len r.2.1 s x
   have ih1:=ih (stepSeal r.2.1 s x) (by omega)
   rw [← ih1]
   unfold stepSeal bne
   have r1:∀ {R:Type} (q:Option R),rm (Ty.bytes TPlace) (s.length+1) q=q:=fun q=>rm_ok (by omega) (by decide)
   simp only [r1]
   cases c1:(x.2.2.2.1.2.1==r.2.1) <;> cases c2:(x.2.2.2.1.1==3) <;> cases c3:(x.2.2.2.1.1==1) <;> cases c4:(x.2.2.2.1.1==2) <;> rfl
theorem implOwn_mark {k:Nat} (hk:2 ^ 50≤k) {l:PlaceL} {r:Ty.den TRec} (hr:r.1=5) (hl:l.length≤1099511627775):impl_ownOf.f k l r=some (ownMark l,()):=by
 unfold impl_ownOf.f impl_ownOf.t
 rw [hr]
 refine forL0 (L:=fun n i s=>impl_ownOf.l0 k n l l.length i 5 r.2.1 r.2.2.1 r.2.2.2.1 r.2.2.2.2.1 r.2.2.2.2.2.1 s) (R:=fun q s=>some (q.foldl stepMark s,())) (Ty.dflt TPlace) l (fun i s=>(s.length:Int)≤i) (fun n s hs=>?_) (fun n i s x rest h0 h1 hx hr hp ih=>?_) (n:=k) (s:=[]) (by omega) (by decide)
 · simp (disch:=omega) only [impl_ownOf.l0,impl_ownOf.b0,decF,c_f,List.foldl_nil]
 · simp (disch:=omega) only [impl_ownOf.l0,impl_ownOf.b0,decT h1,c_t,c_f,inb_eq,hx,w64_eq,show ((5:Int)==3)=false from rfl,show ((5:Int)==5)=true from rfl]
   rw [List.foldl_cons]
   have hs1:=stepMark_len s x
   have ih1:=ih (stepMark s x) (by omega)
   rw [← ih1]
   unfold stepMark
   have r1:∀ {R:Type} (q:Option R),rm (Ty.bytes TPlace) (s.length+1) q=q:=fun q=>rm_ok (by omega) (by decide)
   simp only [r1]
   cases c1:(x.2.2.2.1.1==5) <;> cases c2:(x.2.2.2.1.1==4) <;> rfl
def recOf (p:Ty.den TPlace):Ty.den TRec:=p.2.2.2.1
def fitsM (r:Ty.den TRec) (own:PlaceL):Bool:=(r.2.2.2.2.1==(own.length:Int))&&(r.2.2.2.2.2.1==sumM (own.map recOf))
theorem implFits_eq {k:Nat} (hk:2 ^ 50≤k) (r:Ty.den TRec) {l:PlaceL} (hl:l.length≤1073741823):impl_fits.f k r l=some (fitsM r l,()):=by
 unfold impl_fits.f impl_fits.t
 refine (forL0 (L:=fun n i s=>impl_fits.l0 k n l l.length i r.1 r.2.1 r.2.2.1 r.2.2.2.1 r.2.2.2.2.1 r.2.2.2.2.2.1 s) (R:=fun q s=>some ((r.2.2.2.2.1==((s++q.map recOf).length:Int))&&(r.2.2.2.2.2.1==sumM (s++q.map recOf)),())) (Ty.dflt TPlace) l (fun i s=>(s.length:Int)=i) (fun n s hs=>?_) (fun n i s x rest h0 h1 hx hr hp ih=>?_) (n:=k) (s:=[]) (by omega) (by decide)).trans (by rw [List.nil_append,List.length_map];rfl)
 · simp (disch:=omega) only [impl_fits.l0,impl_fits.b0,decF,c_f,List.map_nil,List.append_nil,implSumOf_eq hk,o_s]
   cases (r.2.2.2.2.1==(s.length:Int)) <;> rfl
 · simp (disch:=first | omega | decide) only [impl_fits.l0,impl_fits.b0,decT,c_t,inb_eq,hx,rm_ok,w64_eq]
   refine (ih (s++[recOf x]) (by rw [len_snoc];omega)).trans ?_
   simp only [List.map_cons,a_a,List.cons_append,List.nil_append]
end Go.Proofs.YtmakghhmpgfboaaGreatDoor.G
namespace Go.Proofs.YtmakghhmpgfboaaGreatDoor.G
open Go.V
theorem implDirDrop_eq {k:Nat} (hk:2 ^ 50≤k) {l:EntryL} (key:ByteArray) (hl:l.length≤1099511627775):impl_DirDrop.f k l key=some (dropM l key,()):=by
 unfold impl_DirDrop.f impl_DirDrop.t
 refine (forL0 (L:=fun n i s=>impl_DirDrop.l0 k n key l l.length i s) (R:=fun r s=>some (s++dropM r key,())) (Ty.dflt TEntry) l (fun i s=>(s.length:Int)≤i) (fun n s hs=>?_) (fun n i s x rest h0 h1 hx hr hp ih=>?_) (n:=k) (s:=[]) (by omega) (by decide)).trans (by rw [List.nil_append])
 · simp (disch:=omega) only [impl_DirDrop.l0,impl_DirDrop.b0,decF,c_f,dropM,List.filter_nil,List.append_nil]
 · cases c:seq x.1 key with
   | true =>
    simp (disch:=first | omega | decide) only [impl_DirDrop.l0,impl_DirDrop.b0,decT,c_t,c_f,inb_eq,hx,c,n_t,w64_eq]
    refine (ih s (by omega)).trans ?_
    simp only [dropM,List.filter_cons,c,n_t,Bool.false_eq_true,if_false]
   | false =>
    simp (disch:=first | omega | decide) only [impl_DirDrop.l0,impl_DirDrop.b0,decT,c_t,inb_eq,hx,c,n_f,rm_ok,w64_eq]
    refine (ih (s++[x]) (by rw [len_snoc];omega)).trans ?_
    simp only [dropM,List.filter_cons,c,n_f,if_true,a_a,List.cons_append,List.nil_append]
theorem implDirPut_eq {k:Nat} (hk:2 ^ 50≤k) {l:EntryL} (e:Ty.den TEntry) (hl:l.length≤1099511627775):impl_DirPut.f k l e=some (putM l e,()):=by
 unfold impl_DirPut.f impl_DirPut.t putM
 rw [implDirDrop_eq hk e.1 hl,o_s]
 have hd:=dropM_len l e.1
 simp only []
 generalize dropM l e.1=r at *
 have cp:∀ q:EntryL,q.length≤1099511627775→impl_copyDir.f k q=some (q,()):=fun q hq=>by
  unfold impl_copyDir.f impl_copyDir.t
  rw [rm_ok (by omega) (by decide)]
 have key:∀ (d j n:Nat),r.length-j=d→j≤r.length→d<n→impl_DirPut.l0 k n (j:Int) e.1 e.2.1 e.2.2.1 e.2.2.2.1 e.2.2.2.2.1 r=some (r.take j++insE (r.drop j) e,()):=by
  intro d
  induction d with
  | zero =>
   intro j n hd hj hn
   obtain ⟨n,rfl⟩:∃ q,n=q+1:=⟨n-1,by omega⟩
   have:j=r.length:=by omega
   subst this
   simp (disch:=first | omega | (simp only [len_snoc,List.length_take,List.length_drop];omega) | decide) only [impl_DirPut.l0,impl_DirPut.b0,decF,c_f,inc_eq,n_n,cp,o_s,rm_ok]
   rw [List.drop_length,insE]
   simp
  | succ d ih =>
   intro j n hd hj hn
   obtain ⟨n,rfl⟩:∃ q,n=q+1:=⟨n-1,by omega⟩
   have hlt:j<r.length:=by omega
   have e1:r.drop j=r.getD j (Ty.dflt TEntry)::r.drop (j+1):=by
    rw [List.drop_eq_getElem_cons hlt]
    simp [List.getD,hlt]
   cases c:leE e.1 (r.getD j (Ty.dflt TEntry)) with
   | true =>
    have c':=c
    unfold leE at c'
    have ih:=ih (j+1) n (by omega) (by omega) (by omega)
    simp (disch:=omega) only [impl_DirPut.l0,impl_DirPut.b0,decT,c_t,inb_eq,n_n,c',w64_eq]
    rw [show ((j:Int)+1)=((j+1:Nat):Int) by omega,ih,e1,take_succ_getD (z:=Ty.dflt TEntry) hlt]
    unfold insE
    simp only [List.takeWhile_cons,List.dropWhile_cons,c,if_true,a_a,List.cons_append,List.nil_append]
   | false =>
    have c':=c
    unfold leE at c'
    simp (disch:=first | omega | (simp only [len_snoc,List.length_take,List.length_drop];omega) | decide) only [impl_DirPut.l0,impl_DirPut.b0,decT,c_t,c_f,inb_eq,n_n,c',inc_eq,cp,o_s,rm_ok]
    rw [e1]
    unfold insE
    simp only [List.takeWhile_cons,List.dropWhile_cons,c,Bool.false_eq_true,if_false,a_a,List.cons_append,List.nil_append]
 exact (key r.length 0 k (by omega) (by omega) (by omega)).trans (by rw [List.take_zero,List.drop_zero,List.nil_append])
def entryOf (p:Ty.den TPlace):Ty.den TEntry:=(p.2.2.2.1.2.2.1,(p.1,(p.2.1,(p.2.2.1,(p.2.2.2.1.2.1,())))))
def stepDir (d:EntryL) (p:Ty.den TPlace):EntryL:=bif p.2.2.2.1.1==2 then dropM d p.2.2.2.1.2.2.1 else putM d (entryOf p)
def applyM (d:EntryL) (own:PlaceL):EntryL:=own.foldl stepDir d
theorem stepDir_len (d:EntryL) (p:Ty.den TPlace):(stepDir d p).length≤d.length+1:=by
 unfold stepDir
 have h1:=dropM_len d p.2.2.2.1.2.2.1
 have h2:=putM_len d (entryOf p)
 cases p.2.2.2.1.1==2
 · rw [c_f];omega
 · rw [c_t];omega
theorem applyM_len:∀ (own:PlaceL) (d:EntryL),(applyM d own).length≤d.length+own.length
 | [],d=>Nat.le_refl _
 | p::own,d=>by
  have:=applyM_len own (stepDir d p)
  have:=stepDir_len d p
  rw [applyM,List.foldl_cons,l_c]
  unfold applyM at this
  simp only [applyM] at *
  omega
def codeM (d:EntryL) (code:Int):Int:=if d.length > 20 then 2 else code
theorem implApply_eq {k:Nat} (hk:2 ^ 50≤k) (g:Ty.den TGroup) {own:PlaceL} (ho:own.length≤268435456) (hd:g.1.length≤268435456):impl_Group__apply.f k g own=some ((applyM g.1 own,(g.2.1,(codeM (applyM g.1 own) g.2.2.1,()))),()):=by
 unfold impl_Group__apply.f impl_Group__apply.t
 refine forL0 (L:=fun n i (d:EntryL)=>impl_Group__apply.l0 k n own own.length i d g.2.1 g.2.2.1) (R:=fun q d=>some ((applyM d q,(g.2.1,(codeM (applyM d q) g.2.2.1,()))),())) (Ty.dflt TPlace) own (fun i d=>(d.length:Int)≤268435456+i) (fun n d hs=>?_) (fun n i d x rest h0 h1 hx hr hp ih=>?_) (n:=k) (s:=g.1) (by omega) (by omega)
 · change _=some ((d,(g.2.1,(codeM d g.2.2.1,()))),())
   simp (disch:=omega) only [impl_Group__apply.l0,impl_Group__apply.b0,decF (show ¬ ((own.length:Int)<(own.length:Int)) by omega),c_f,codeM]
   by_cases c:d.length > 20
   · rw [decT (by omega),if_pos c];rfl
   · rw [decF (by omega),if_neg c];rfl
 · have hsd:=stepDir_len d x
   have ih:=ih (stepDir d x) (by omega)
   have e:stepDir d x=bif x.2.2.2.1.1==2 then dropM d x.2.2.2.1.2.2.1 else putM d (entryOf x):=rfl
   simp (disch:=omega) only [impl_Group__apply.l0,impl_Group__apply.b0,decT h1,c_t,inb_eq,hx,implDirDrop_eq hk,implDirPut_eq hk,o_s,w64_eq]
   rw [show applyM d (x::rest)=applyM (stepDir d x) rest from rfl,← ih,e]
   cases x.2.2.2.1.1==2 <;> rfl
def maxM (a b:Int):Int:=if a > b then a else b
def regroupL (all:PlaceL):PlaceL→Nat→EntryL→Int→Int→Ty.den TGroup
 | [],_,d,last,code=>bif code==0&&decide ((ownMark all).length > 0) then (d,(last,(1,()))) else (d,(last,(code,())))
 | p::rest,i,d,last,code =>
  bif code != 0 then (d,(last,(code,()))) else
  bif p.2.2.2.1.1==3 then (bif fitsM p.2.2.2.1 (ownSeal p.2.2.2.1.2.1 (all.take i)) then regroupL all rest (i+1) (applyM d (ownSeal p.2.2.2.1.2.1 (all.take i))) (maxM p.2.2.2.1.2.1 last) (codeM (applyM d (ownSeal p.2.2.2.1.2.1 (all.take i))) code)
   else regroupL all rest (i+1) d (maxM p.2.2.2.1.2.1 last) code) else
  bif p.2.2.2.1.1==5 then (bif fitsM p.2.2.2.1 (ownMark (all.take i)) then regroupL all rest (i+1) (applyM d (ownMark (all.take i))) (maxM p.2.2.2.1.2.1 last) (codeM (applyM d (ownMark (all.take i))) code)
   else regroupL all rest (i+1) d (maxM p.2.2.2.1.2.1 last) 1) else
  regroupL all rest (i+1) d (maxM p.2.2.2.1.2.1 last) code
def regroupM (g:Ty.den TGroup) (l:PlaceL):Ty.den TGroup:=regroupL l l 0 g.1 g.2.1 g.2.2.1
def RInv (d:EntryL) (code:Int):Prop:=d.length≤268435456∧(code=0→d.length≤134217728)
theorem rinv_apply {d:EntryL} {own:PlaceL} {code:Int} (h:RInv d 0) (ho:own.length≤134217728):RInv (applyM d own) (codeM (applyM d own) code):=by
 have h1:=applyM_len own d
 have h2:=h.2 rfl
 refine ⟨by omega,fun q=>?_⟩
 unfold codeM at q
 split at q
 · cases q
 · omega
theorem rinv_one {d:EntryL} (h:RInv d 0):RInv d 1:=⟨h.1,fun q=>by cases q⟩
theorem implRegroup_eq {k:Nat} (hk:2 ^ 50≤k) (g:Ty.den TGroup) {l:PlaceL} (hl:l.length≤134217728) (hd:g.1.length≤134217728):impl_Regroup.f k g l=some (regroupM g l,()):=by
 unfold impl_Regroup.f impl_Regroup.t
 have cp:impl_copyDir.f k g.1=some (g.1,()):=by
  unfold impl_copyDir.f impl_copyDir.t
  rw [rm_ok (by omega) (by decide)]
 rw [cp,o_s]
 simp only []
 have key:=forL (L:=fun n i (s:EntryL × Int × Int)=>impl_Regroup.l0 k n l l l.length i [] 0 0 s.1 s.2.1 s.2.2) (R:=fun (q:PlaceL) s=>some (regroupL l q (l.length-q.length) s.1 s.2.1 s.2.2,())) (Ty.dflt TPlace) l (fun i s=>RInv s.1 s.2.2) (fun n s hs=>?_) (fun n i s x rest h0 h1 hx hr hp ih=>?_) k 0 (g.1,(g.2.1,g.2.2.1)) (by omega) (by omega) (by omega) ⟨by simp only [];omega,fun _=>by simp only [];omega⟩
 · have e:l.drop (Int.toNat 0)=l:=rfl
   rw [e,Nat.sub_self] at key
   exact key
 · obtain ⟨d,last,code⟩:=s
   have hm:=implOwn_mark hk (l:=l) (r:=(5,(0,(ByteArray.empty,(ByteArray.empty,(0,(0,()))))))) rfl (by omega)
   simp (disch:=omega) only [impl_Regroup.l0,impl_Regroup.b0,decF,c_f,regroupL,hm,o_s]
   cases c1:(code==0)
   · rfl
   · by_cases c2:(ownMark l).length > 0
     · rw [decT (show ((ownMark l).length:Int) > 0 by omega),decT c2];rfl
     · rw [decF (show ¬ ((ownMark l).length:Int) > 0 by omega),decF c2];rfl
 · obtain ⟨d,last,code⟩:=s
   simp only [] at hp ih
   have hi:l.length-(x::rest).length=i.toNat:=by
    have:=congrArg List.length hr
    rw [List.length_drop] at this
    omega
   have hi2:l.length-rest.length=i.toNat+1:=by rw [l_c] at hi;have:=congrArg List.length hr;rw [List.length_drop,l_c] at this;omega
   have htk:(l.take i.toNat).length≤134217728:=by rw [List.length_take];omega
   have ih:=fun a b c h=>ih (a,(b,c)) h
   simp only [hi2] at ih
   rw [hi]
   simp (disch:=omega) only [impl_Regroup.l0,impl_Regroup.b0,decT h1,c_t,inb_eq,hx,w64_eq,regroupL]
   by_cases c0:code=0
   case neg =>
    rw [show (code != 0)=true from bne_iff_ne.2 c0]
    rfl
   subst c0
   simp only [show ((0:Int) != 0)=false from rfl,c_f]
   by_cases c3:x.2.2.2.1.1=3
   · have b3:(x.2.2.2.1.1==3)=true:=by rw [c3];rfl
     have b3':(x.2.2.2.1.1 != 3)=false:=by rw [c3];rfl
     have b5:(x.2.2.2.1.1==5)=false:=by rw [c3];rfl
     have hlen:=ownSeal_len x.2.2.2.1.2.1 (l.take i.toNat)
     simp only [b3,b3',b5,c_t,c_f]
     rw [inc_eq (by omega) (by omega),implOwn_seal hk c3 (by omega),o_s]
     simp only []
     rw [implFits_eq hk _ (by omega),o_s]
     cases c:fitsM x.2.2.2.1 (ownSeal x.2.2.2.1.2.1 (l.take i.toNat)) with
     | true =>
      simp only [c_t]
      rw [implApply_eq hk _ (by omega) (by simp only [];exact hp.1),o_s]
      exact ih _ _ _ (rinv_apply hp (by omega))
     | false =>
      simp only [c_f]
      exact ih _ _ _ hp
   · have b3:(x.2.2.2.1.1==3)=false:=q_f c3
     have b3':(x.2.2.2.1.1 != 3)=true:=bne_iff_ne.2 c3
     by_cases c5:x.2.2.2.1.1=5
     · have b5:(x.2.2.2.1.1==5)=true:=by rw [c5];rfl
       have b5':(x.2.2.2.1.1 != 5)=false:=by rw [c5];rfl
       have hlen:=ownMark_len (l.take i.toNat)
       simp only [b3,b3',b5,b5',c_t,c_f]
       rw [inc_eq (by omega) (by omega),implOwn_mark hk c5 (by omega),o_s]
       simp only []
       rw [implFits_eq hk _ (by omega),o_s]
       cases c:fitsM x.2.2.2.1 (ownMark (l.take i.toNat)) with
       | true =>
        simp only [c_t]
        rw [implApply_eq hk _ (by omega) (by simp only [];exact hp.1),o_s]
        exact ih _ _ _ (rinv_apply hp (by omega))
       | false =>
        simp only [c_f]
        exact ih _ _ _ (rinv_one hp)
     · have b5:(x.2.2.2.1.1==5)=false:=q_f c5
       have b5':(x.2.2.2.1.1 != 5)=true:=bne_iff_ne.2 c5
       simp only [b3,b3',b5,b5',c_t,c_f]
       exact ih _ _ _ hp
theorem regroupL_len (all:PlaceL) (ha:all.length≤134217728):∀ (q:PlaceL) (i:Nat) (d:EntryL) (last code:Int),RInv d code→(regroupL all q i d last code).1.length≤268435456
 | [],i,d,last,code,h=>by
  unfold regroupL
  cases code==0&&decide ((ownMark all).length > 0) <;> exact h.1
 | p::q,i,d,last,code,h=>by
  have hs:=ownSeal_len p.2.2.2.1.2.1 (all.take i)
  have hm:=ownMark_len (all.take i)
  have htk:(all.take i).length≤134217728:=by rw [List.length_take];omega
  unfold regroupL
  by_cases c0:code=0
  case neg=>rw [show (code != 0)=true from bne_iff_ne.2 c0];exact h.1
  subst c0
  simp only [show ((0:Int) != 0)=false from rfl,c_f]
  cases p.2.2.2.1.1==3
  · cases p.2.2.2.1.1==5
    · exact regroupL_len all ha q _ _ _ _ h
    · cases fitsM p.2.2.2.1 (ownMark (all.take i))
      · exact regroupL_len all ha q _ _ _ _ (rinv_one h)
      · exact regroupL_len all ha q _ _ _ _ (rinv_apply h (by omega))
  · cases fitsM p.2.2.2.1 (ownSeal p.2.2.2.1.2.1 (all.take i))
    · exact regroupL_len all ha q _ _ _ _ h
    · exact regroupL_len all ha q _ _ _ _ (rinv_apply h (by omega))
theorem regroupM_len {g:Ty.den TGroup} {l:PlaceL} (hl:l.length≤134217728) (hd:g.1.length≤134217728):(regroupM g l).1.length≤268435456:=regroupL_len l hl l 0 _ _ _ ⟨by omega,fun _=>hd⟩
end Go.Proofs.YtmakghhmpgfboaaGreatDoor.G
namespace Go.Proofs.YtmakghhmpgfboaaGreatDoor.G
open Go.V
theorem adj_mono {lim lim':Int} (h:lim≤lim'):∀ (l:List Int) (p:Option Int),adj (idOk lim) p l=true→adj (idOk lim') p l=true
 | [],_,_=>rfl
 | x::l,p,q=>by
  simp only [adj,b_a] at q ⊢
  refine ⟨?_,adj_mono h l _ q.2⟩
  have q1:=q.1
  unfold idOk at q1 ⊢
  rw [b_a,decide_eq_true_eq] at q1 ⊢
  exact ⟨⟨q1.1.1,Int.le_trans q1.1.2 h⟩,q1.2⟩
theorem adj_snoc {lim n:Int} (h1:1≤n) (h:lim<n):∀ (l:List Int) (p:Option Int),(∀ y,p=some y→y<n)→adj (idOk lim) p l=true→adj (idOk n) p (l++[n])=true
 | [],p,hp,_=>by
  simp only [List.nil_append,adj,Bool.and_true]
  unfold idOk
  rw [b_a,decide_eq_true_eq]
  refine ⟨⟨h1,Int.le_refl _⟩,?_⟩
  cases p with
  | none=>rfl
  | some y=>exact decide_eq_true (hp y rfl)
 | x::l,p,hp,q=>by
  simp only [adj,b_a,List.cons_append] at q ⊢
  have q1:=q.1
  unfold idOk at q1
  rw [b_a,decide_eq_true_eq] at q1
  refine ⟨?_,adj_snoc h1 h l _ (fun y e=>by cases e;exact Int.lt_of_le_of_lt q1.1.2 h) q.2⟩
  unfold idOk
  rw [b_a,decide_eq_true_eq]
  exact ⟨⟨q1.1.1,Int.le_of_lt (Int.lt_of_le_of_lt q1.1.2 h)⟩,q1.2⟩
theorem live_next {n:Int} {ids:List Int} (h:liveM (n,(ids,()))=true) (hn:n<100000):liveM (n+1,(ids,()))=true:=by
 obtain ⟨g1,g2,_⟩:=live_facts h
 unfold liveM at h ⊢
 simp only [b_a,decide_eq_true_eq] at h ⊢
 rw [w64_eq (n:=n+1-1) (by omega) (by omega)]
 rw [w64_eq (n:=n-1) (by omega) (by omega)] at h
 exact ⟨⟨show (1:Int)≤n+1 by omega,show n+1≤(100000:Int) by omega⟩,h.2.1,adj_mono (by omega) _ _ h.2.2⟩
theorem live_grow {n:Int} {ids:List Int} (h:liveM (n,(ids,()))=true) (hn:n<100000) (hl:ids.length<60):liveM (n+1,(ids++[n],()))=true:=by
 obtain ⟨g1,g2,_⟩:=live_facts h
 unfold liveM at h ⊢
 simp only [b_a,decide_eq_true_eq] at h ⊢
 rw [w64_eq (n:=n+1-1) (by omega) (by omega)]
 rw [w64_eq (n:=n-1) (by omega) (by omega)] at h
 refine ⟨⟨show (1:Int)≤n+1 by omega,show n+1≤(100000:Int) by omega⟩,⟨?_,?_⟩,?_⟩
 · rw [l_a,List.length_singleton];omega
 · rw [l_a,List.length_singleton];omega
 · rw [show n+1-1=n by omega]
   exact adj_snoc g1 (by omega) _ _ (fun y e=>by cases e) h.2.2
def actB (st:Ty.den TStore):ByteArray:=namedM segB (lastI st.1.2.1)
theorem last_place {st:Ty.den TStore} (h:liveM st.1=true):0≤w64 ((st.1.2.1.length:Int)-1)∧w64 ((st.1.2.1.length:Int)-1)<(st.1.2.1.length:Int)∧st.1.2.1.getD (w64 ((st.1.2.1.length:Int)-1)).toNat (Ty.dflt (.int .i64))=lastI st.1.2.1:=by
 obtain ⟨_,_,h1,h2,_⟩:=live_facts (nx:=st.1.1) (ids:=st.1.2.1) h
 rw [w64_eq (n:=(st.1.2.1.length:Int)-1) (by omega) (by omega)]
 refine ⟨by omega,by omega,?_⟩
 unfold lastI
 rw [show ((st.1.2.1.length:Int)-1).toNat=st.1.2.1.length-1 by omega]
 rfl
theorem implActive_eq {k:Nat} {st:Ty.den TStore} (h:liveM st.1=true):impl_Store__active.f k st=some (st,(actB st,())):=by
 obtain ⟨h1,h2,h3⟩:=last_place h
 unfold impl_Store__active.f impl_Store__active.t actB
 rw [inb_eq h1 h2,h3,implSegName_eq,o_s]
def tl (r:RD):RD:=(r.1,toldM r.2)
theorem wk_zero (f:Ty.den TDisk→RD) (d:Ty.den TDisk):wk f (d,0)=tl (f d):=rfl
theorem tl_zero {r:RD} (h:(r.2==0)=true):tl r=(r.1,0):=by
 unfold tl
 rw [q_t h]
 rfl
theorem tl_ne (r:RD):((tl r).2 != 0)=(r.2 != 0):=by
 unfold tl bne
 rw [toldM_zero]
def nextS (st:Ty.den TStore):Ty.den TStore:=((st.1.1+1,st.1.2),st.2)
def liveN (st:Ty.den TStore):Ty.den TLive:=(st.1.1+1,(st.1.2.1++[st.1.1],()))
def grownS (st:Ty.den TStore):Ty.den TStore:=(liveN st,(st.2.1,(st.2.2.1,(0,st.2.2.2.2))))
def dropsT (nm:ByteArray) (r:RD):RD:=bif r.2==2 then ((dropsR [tempB,nm] r.1).1,bif (dropsR [tempB,nm] r.1).2==0 then 2 else toldM (dropsR [tempB,nm] r.1).2) else r
def rotR (st:Ty.den TStore) (d:Ty.den TDisk):Ty.den TStore × RD :=
 bif decide ((st.1.2.1.length:Int)≥60) then (st,(d,5)) else bif decide (st.1.1≥100000) then (st,(d,5)) else
 bif (synM d (actB st)).2 != 0 then (st,tl (synM d (actB st))) else
 bif (freshR (namedM segB st.1.1) (synM d (actB st)).1).2 != 0 then (nextS st,tl (freshR (namedM segB st.1.1) (synM d (actB st)).1)) else
 bif (putLiveR (liveN st) (freshR (namedM segB st.1.1) (synM d (actB st)).1).1).2 != 0 then (nextS st,dropsT (namedM segB st.1.1) (tl (putLiveR (liveN st) (freshR (namedM segB st.1.1) (synM d (actB st)).1).1)))
 else (grownS st,((putLiveR (liveN st) (freshR (namedM segB st.1.1) (synM d (actB st)).1).1).1,0))
structure SR (st:Ty.den TStore) (r:RD) (B:Int):Prop where
 live:liveM st.1=true
 disk:DR r.1
 lo:LE.le (α:=Int) 0 st.2.2.2.1
 hi:LE.le (α:=Int) st.2.2.2.1 B
theorem seg_sz (n:Int):(namedM segB n).size≤1000:=by
 unfold namedM
 by_cases h:(1:Int)≤n∧n≤100000
 · rw [decT h,c_t,ByteArray.size_append]
   have:=decB_small (n:=n) (by omega) (by omega)
   have:segB.size=3:=rfl
   omega
 · rw [decF h]
   exact Nat.zero_le _
theorem implRot_eq {k:Nat} (hk:2 ^ 50≤k) {st:Ty.den TStore} {d:Ty.den TDisk} (hl:liveM st.1=true) (hd:DR d):impl_Store__rotate.f k st (wO (d,0))=some ((rotR st d).1,(wO (rotR st d).2,())):=by
 obtain ⟨g1,g2,g3,g4,_⟩:=live_facts (nx:=st.1.1) (ids:=st.1.2.1) hl
 have hsz:=seg_sz st.1.1
 unfold impl_Store__rotate.f impl_Store__rotate.t rotR
 by_cases c1:(st.1.2.1.length:Int)≥60
 · rw [decT c1];rfl
 by_cases c2:st.1.1≥(100000:Int)
 · rw [decF c1,decT c2];rfl
 have c2':LT.lt (α:=Int) st.1.1 100000:=Int.not_le.1 c2
 rw [decF c1,decF c2]
 simp only [c_f]
 rw [implActive_eq hl,o_s]
 simp only []
 rw [implW_syn hk _ hd,o_s,wk_zero]
 simp only []
 have h1:=syn_DR hd (actB st)
 generalize synM d (actB st)=r1 at h1 ⊢
 rw [show (wO (tl r1)).2.1=(tl r1).2 from rfl,tl_ne]
 cases c3:r1.2 != 0 with
 | true=>rfl
 | false =>
  simp only [c_f]
  rw [tl_zero (r:=r1) (by unfold bne at c3;simpa using c3),implSegName_eq,o_s]
  simp only []
  rw [implW_anew hk (r1.1,0) h1 (by omega),o_s,wk_zero]
  simp only []
  have h2:=fresh_DR (namedM segB st.1.1) _ h1
  generalize freshR (namedM segB st.1.1) r1.1=r2 at h2 ⊢
  have ew:w64 (st.1.1+1)=st.1.1+1:=w64_eq (by omega) (by omega)
  rw [show (wO (tl r2)).2.1=(tl r2).2 from rfl,tl_ne,ew]
  cases c4:r2.2 != 0 with
  | true=>rfl
  | false =>
   simp only [c_f]
   rw [tl_zero (r:=r2) (by unfold bne at c4;simpa using c4)]
   have ec:impl_copyLive.f k ((st.1.1+1,st.1.2):Ty.den TLive)=some (((st.1.1+1,st.1.2):Ty.den TLive),()):=by
    unfold impl_copyLive.f impl_copyLive.t
    rw [rm_ok (by show st.1.2.1.length≤_;omega) (by decide)]
   rw [ec,o_s]
   simp only []
   have hlen:(st.1.2.1++[st.1.1]).length≤1073741824:=by rw [l_a,List.length_singleton];omega
   rw [rm_ok (by omega) (by decide),implW_putLive hk (r2.1,0) h2 (v:=(st.1.1+1,(st.1.2.1++[st.1.1],()))) hlen,o_s,wk_zero]
   simp only []
   have h3:=putLive_DR (liveN st) _ h2
   rw [show ((st.1.1+1,(st.1.2.1++[st.1.1],())):Ty.den TLive)=liveN st from rfl]
   generalize putLiveR (liveN st) r2.1=r3 at h3 ⊢
   rw [show (wO (tl r3)).2.1=(tl r3).2 from rfl,tl_ne]
   cases c5:r3.2 != 0 with
   | true =>
    simp only [c_t]
    rw [o_s,show (⟨#[116,101,109,112]⟩:ByteArray)=tempB from rfl]
    simp only []
    rw [implW_drops hk (tl r3) h3 (by simp),o_s]
    rfl
   | false =>
    simp only [c_f]
    rw [tl_zero (r:=r3) (by unfold bne at c5;simpa using c5)]
    rfl
end Go.Proofs.YtmakghhmpgfboaaGreatDoor.G
namespace Go.Proofs.YtmakghhmpgfboaaGreatDoor.G
open Go.V
theorem rot_facts {st:Ty.den TStore} {d:Ty.den TDisk} (hl:liveM st.1=true) (hd:DR d):liveM (rotR st d).1.1=true∧DR (rotR st d).2.1∧(rotR st d).1.2.1=st.2.1∧((rotR st d).1.2.2.2.1=st.2.2.2.1∨(rotR st d).1.2.2.2.1=0):=by
 unfold rotR
 by_cases c1:(st.1.2.1.length:Int)≥60
 · rw [decT c1];exact ⟨hl,hd,rfl,.inl rfl⟩
 by_cases c2:st.1.1≥(100000:Int)
 · rw [decF c1,decT c2];exact ⟨hl,hd,rfl,.inl rfl⟩
 have c1':st.1.2.1.length<60:=by omega
 have c2':LT.lt (α:=Int) st.1.1 100000:=Int.not_le.1 c2
 have hn:liveM (nextS st).1=true:=live_next (ids:=st.1.2.1) hl c2'
 have hg:liveM (grownS st).1=true:=live_grow hl c2' c1'
 have h1:=syn_DR hd (actB st)
 have h2:=fresh_DR (namedM segB st.1.1) _ h1
 have h3:=putLive_DR (liveN st) _ h2
 rw [decF c1,decF c2]
 simp only [c_f]
 generalize synM d (actB st)=r1 at h1 h2 h3 ⊢
 generalize freshR (namedM segB st.1.1) r1.1=r2 at h2 h3 ⊢
 generalize putLiveR (liveN st) r2.1=r3 at h3 ⊢
 cases r1.2 != 0 with
 | true=>exact ⟨hl,h1,rfl,.inl rfl⟩
 | false =>
  cases r2.2 != 0 with
  | true=>exact ⟨hn,h2,rfl,.inl rfl⟩
  | false =>
   cases r3.2 != 0 with
   | true =>
    refine ⟨hn,?_,rfl,.inl rfl⟩
    simp only [c_t,c_f]
    unfold dropsT
    cases (tl r3).2==2 with
    | true=>exact drops_DR _ _ h3
    | false=>exact h3
   | false=>exact ⟨hg,h3,rfl,.inr rfl⟩
def zPlaceM:Ty.den TPlace:=(0,(0,(0,((0,(0,(ByteArray.empty,(ByteArray.empty,(0,(0,())))))),()))))
def sizedS (st:Ty.den TStore) (n:Int):Ty.den TStore:=(st.1,(st.2.1,(st.2.2.1,(n,st.2.2.2.2))))
def setR (st:Ty.den TStore) (d:Ty.den TDisk) (r:Ty.den TRec):(Ty.den TStore × RD) × Ty.den TPlace :=
 bif (appM d (actB st) (frameM (showRec r))).2 != 0 then ((st,tl (appM d (actB st) (frameM (showRec r)))),zPlaceM)
 else ((sizedS st (st.2.2.2.1+recLen r),((appM d (actB st) (frameM (showRec r))).1,0)),(lastI st.1.2.1,(st.2.2.2.1,(recLen r,(r,())))))
def addR (st:Ty.den TStore) (d:Ty.den TDisk) (r:Ty.den TRec):(Ty.den TStore × RD) × Ty.den TPlace :=
 bif decide (st.2.2.2.1 > 0)&&decide (st.2.2.2.1+recLen r > 200) then
  (bif (rotR st d).2.2 != 0 then (rotR st d,zPlaceM) else setR (rotR st d).1 (rotR st d).2.1 r)
 else setR st d r
def recP (p:Ty.den TPlace):Ty.den TRec:=p.2.2.2.1
theorem set_facts {st:Ty.den TStore} {d:Ty.den TDisk} (hl:liveM st.1=true) (hd:DR d) {B:Int} (h0:LE.le (α:=Int) 0 st.2.2.2.1) (h1:LE.le (α:=Int) st.2.2.2.1 B) (r:Ty.den TRec) :
 SR (setR st d r).1.1 (setR st d r).1.2 (B+211)∧(setR st d r).1.1.2.1=st.2.1∧((setR st d r).1.2.2=0→recP (setR st d r).2=r):=by
 have hr:=recLen_in r
 have ha:=app_DR hd (actB st) (frameM (showRec r))
 unfold setR
 generalize appM d (actB st) (frameM (showRec r))=a at ha ⊢
 cases c:a.2 != 0 with
 | true =>
  refine ⟨⟨hl,ha,h0,?_⟩,rfl,fun e=>?_⟩
  · show LE.le (α:=Int) st.2.2.2.1 (B+211)
    omega
  · have e:(tl a).2=0:=e
    have q:=tl_ne a
    rw [e,c] at q
    cases q
 | false =>
  refine ⟨⟨hl,ha,?_,?_⟩,rfl,fun e=>rfl⟩
  · show LE.le (α:=Int) 0 (st.2.2.2.1+recLen r)
    omega
  · show LE.le (α:=Int) (st.2.2.2.1+recLen r) (B+211)
    omega
theorem add_facts {st:Ty.den TStore} {d:Ty.den TDisk} {B:Int} (h:SR st (d,0) B) (hB:0≤B) (r:Ty.den TRec) :
 SR (addR st d r).1.1 (addR st d r).1.2 (B+211)∧(addR st d r).1.1.2.1=st.2.1∧((addR st d r).1.2.2=0→recP (addR st d r).2=r):=by
 obtain ⟨hl,hd,h0,h1⟩:=h
 unfold addR
 cases decide (st.2.2.2.1 > 0)&&decide (st.2.2.2.1+recLen r > 200) with
 | false=>exact set_facts hl hd h0 h1 r
 | true =>
  obtain ⟨g1,g2,g3,g4⟩:=rot_facts hl hd
  generalize rotR st d=q at g1 g2 g3 g4 ⊢
  have s0:LE.le (α:=Int) 0 q.1.2.2.2.1:=by rcases g4 with e | e <;> rw [e];exact h0;exact Int.le_refl _
  have s1:LE.le (α:=Int) q.1.2.2.2.1 B:=by rcases g4 with e | e <;> rw [e];exact h1;exact hB
  cases c:q.2.2 != 0 with
  | true =>
   refine ⟨⟨g1,g2,s0,?_⟩,g3,fun e=>?_⟩
   · show LE.le (α:=Int) q.1.2.2.2.1 (B+211)
     omega
   · have e:q.2.2=0:=e
     rw [e] at c
     cases c
  | false =>
   obtain ⟨k1,k2,k3⟩:=set_facts g1 g2 s0 s1 r
   exact ⟨k1,k2.trans g3,k3⟩
theorem implSet_eq {k:Nat} (hk:2 ^ 50≤k) {st:Ty.den TStore} {d:Ty.den TDisk} (hl:liveM st.1=true) (hd:DR d) (r:Ty.den TRec) (h0:LE.le (α:=Int) 0 st.2.2.2.1) (h1:LE.le (α:=Int) st.2.2.2.1 1099511627776) :
 ∃ e,((inb (w64 ((List.length st.1.2.1:Int)-1)) (List.length st.1.2.1:Int) ((impl_Store__active.f k st).bind fun r4=>((impl_worker__put.f k (wO (d,0)) r4.2.1 (frameM (showRec r))).bind fun r5=>(bif (r5.1.2.1==0) then
  (some ((r4.1.1,(r4.1.2.1,(r4.1.2.2.1,((w64 (r4.1.2.2.2.1+(ByteArray.size (frameM (showRec r)):Int))),r4.1.2.2.2.2)))),(r5.1,((r.2.2.1,((List.getD st.1.2.1 (Int.toNat (w64 ((List.length st.1.2.1:Int)-1))) (Ty.dflt (.int .i64))),(st.2.2.2.1,((ByteArray.size (frameM (showRec r)):Int),(r.2.1,()))))),()))))
  else (some (r4.1,(r5.1,((r.2.2.1,((List.getD st.1.2.1 (Int.toNat (w64 ((List.length st.1.2.1:Int)-1))) (Ty.dflt (.int .i64))),(st.2.2.2.1,((ByteArray.size (frameM (showRec r)):Int),(r.2.1,()))))),())))))))):impl_Store__add.Rs) =
 some ((setR st d r).1.1,(wO (setR st d r).1.2,(e,())))∧((setR st d r).1.2.2=0→e=entryOf (setR st d r).2):=by
 obtain ⟨g1,g2,g3⟩:=last_place hl
 have hr:=recLen_in r
 have hz:((frameM (showRec r)).size:Int)=recLen r:=rfl
 refine ⟨(r.2.2.1,(lastI st.1.2.1,(st.2.2.2.1,(recLen r,(r.2.1,()))))),?_,?_⟩
 · rw [inb_eq g1 g2,implActive_eq hl,o_s]
   simp only []
   rw [implW_put hk (d,0) hd (actB st) (t:=frameM (showRec r)) (by omega),o_s,wk_zero]
   unfold setR
   simp only []
   generalize appM d (actB st) (frameM (showRec r))=a
   rw [show (wO (tl a)).2.1=(tl a).2 from rfl,g3,hz]
   have q:=tl_ne a
   unfold bne at q ⊢
   cases c:a.2==0 with
   | true =>
    rw [c] at q
    have q:((tl a).2==0)=true:=by simpa using q
    rw [q,tl_zero c]
    simp only [c_t,c_f,n_t]
    rw [w64_eq (by omega) (by omega)]
    rfl
   | false =>
    rw [c] at q
    have q:((tl a).2==0)=false:=by simpa using q
    rw [q]
    rfl
 · unfold setR
   generalize appM d (actB st) (frameM (showRec r))=a
   cases c:a.2 != 0 with
   | true =>
    intro e
    have e:(tl a).2=0:=e
    have q:=tl_ne a
    rw [e,c] at q
    cases q
   | false=>exact fun _=>rfl
theorem implAdd_eq {k:Nat} (hk:2 ^ 50≤k) {st:Ty.den TStore} {d:Ty.den TDisk} {B:Int} (h:SR st (d,0) B) (hB:0≤B) (hB':B≤1000000000) (r:Ty.den TRec) :
 ∃ e,impl_Store__add.f k st (wO (d,0)) r=some ((addR st d r).1.1,(wO (addR st d r).1.2,(e,())))∧((addR st d r).1.2.2=0→e=entryOf (addR st d r).2):=by
 obtain ⟨hl,hd,h0,h1⟩:=h
 have hr:=recLen_in r
 have hz:((frameM (showRec r)).size:Int)=recLen r:=rfl
 have own:=implSet_eq (d:=d) hk hl hd r h0 (by omega)
 have e1:w64 (st.2.2.2.1+((frameM (showRec r)).size:Int))=st.2.2.2.1+recLen r:=w64_eq (by omega) (by omega)
 have hw:((wO (d,0)).2.1 != 0)=false:=rfl
 unfold impl_Store__add.f impl_Store__add.t
 rw [implShowRec_eq hk,o_s]
 simp only []
 rw [implFrame_eq hk,o_s]
 simp only []
 rw [hw]
 simp only [c_f]
 unfold addR
 rw [e1]
 by_cases c1:LT.lt (α:=Int) 0 st.2.2.2.1
 · rw [decT (show st.2.2.2.1 > 0 from c1)]
   simp only [Bool.true_and,c_t]
   by_cases c2:LT.lt (α:=Int) 200 (st.2.2.2.1+recLen r)
   · rw [decT (show st.2.2.2.1+recLen r > 200 from c2)]
     simp only [c_t]
     rw [implRot_eq hk hl hd,o_s]
     simp only []
     obtain ⟨g1,g2,g3,g4⟩:=rot_facts hl hd
     generalize rotR st d=q at g1 g2 g3 g4 ⊢
     rw [show (wO q.2).2.1=q.2.2 from rfl]
     cases c:q.2.2 != 0 with
     | true =>
      refine ⟨_,rfl,fun e=>?_⟩
      have e:q.2.2=0:=e
      rw [e] at c
      cases c
     | false =>
      have s0:LE.le (α:=Int) 0 q.1.2.2.2.1:=by rcases g4 with e | e <;> rw [e];exact h0;exact Int.le_refl _
      have s1:LE.le (α:=Int) q.1.2.2.2.1 B:=by rcases g4 with e | e <;> rw [e];exact h1;exact hB
      have e2:wO q.2=wO (q.2.1,0):=by
       have:q.2.2=0:=by unfold bne at c;simpa using c
       show (q.2.1,(q.2.2,()))=(q.2.1,((0:Int),()))
       rw [this]
      simp only [c_f]
      rw [e2]
      exact implSet_eq hk g1 g2 r s0 (by omega)
   · rw [decF (show ¬ st.2.2.2.1+recLen r > 200 from c2)]
     simp only [c_f]
     exact own
 · rw [decF (show ¬ st.2.2.2.1 > 0 from c1)]
   simp only [Bool.false_and,c_f]
   exact own
end Go.Proofs.YtmakghhmpgfboaaGreatDoor.G
namespace Go.Proofs.YtmakghhmpgfboaaGreatDoor.G
open Go.V
def fT (d:Ty.den TDisk) (s:ByteArray):Option ByteArray:=(getM d.1 s).map (·.2.1)
theorem text_fT {d:Ty.den TDisk} (h:DR d) (s:ByteArray):(textM d s).1=(fT d s).getD ⟨#[]⟩:=by
 rw [text_right h]
 unfold fT
 cases getM d.1 s <;> rfl
theorem get_ins:∀ {l:FileL} {f:Ty.den TFile} {t:ByteArray},getM l f.1=none→getM (insF l f) t=bif seq f.1 t then some f else getM l t
 | [],f,t,_=>rfl
 | g::l,f,t,h=>by
  unfold getM at h
  cases c:seq g.1 f.1 with
  | true=>rw [c] at h;cases h
  | false =>
   rw [c,c_f] at h
   unfold insF
   cases sls f.1 g.1 with
   | true=>rfl
   | false =>
    simp only [c_f]
    rw [getM.eq_2,get_ins h,getM.eq_2]
    by_cases q:f.1=t
    · rw [q] at c ⊢
      rw [c,seq_refl]
      rfl
    · rw [seqF q]
      rfl
theorem get_keep {l:FileL} {f:Ty.den TFile} {t:ByteArray} (h:f.1≠t):getM (insF l f) t=getM l t:=by
 induction l with
 | nil=>unfold insF;rw [getM.eq_2,seqF h];rfl
 | cons g l ih =>
  unfold insF
  cases sls f.1 g.1 with
  | true=>rw [c_t,getM.eq_2,seqF h,c_f]
  | false=>rw [c_f,getM.eq_2,ih,getM.eq_2]
theorem step_fT {d:Ty.den TDisk} {g:FileL→Int→FileL × Int} {t:ByteArray} (h:∀ l c,(getM (g l c).1 t).map (·.2.1)=(getM l t).map (·.2.1)):fT (stepM d g).1 t=fT d t:=by
 unfold stepM fT
 cases (begM d).2 != 0 with
 | true=>rw [c_t,begM_files]
 | false=>exact h d.1 d.2.1
theorem cre_fT {d:Ty.den TDisk} {s t:ByteArray} (h:s≠t):fT (creM d s).1 t=fT d t:=step_fT fun l c=>by
 unfold creG
 cases !nameM s with
 | true=>rfl
 | false =>
  cases (getM l s).isSome with
  | true=>rfl
  | false =>
   cases decide ((l.length:Int)≥130) with
   | true=>rfl
   | false =>
    show (getM (insF l (s,(ByteArray.empty,(0,())))) t).map _=_
    rw [get_keep (f:=(s,(ByteArray.empty,(0,())))) h]
theorem app_fT {d:Ty.den TDisk} {s t x:ByteArray} (h:s≠t):fT (appM d s x).1 t=fT d t:=step_fT fun l c=>by
 unfold appG
 cases (getM l s).isNone with
 | true=>rfl
 | false =>
  cases decide ((x.size:Int) > w64 (c-(used l:Int))) with
  | true=>rfl
  | false =>
   show (getM (updF (fun f=>(f.1,(f.2.1++x,f.2.2))) l s) t).map _=_
   rw [get_upd (h:=fun f:Ty.den TFile=>(f.1,(f.2.1++x,f.2.2))) (fun f=>rfl),seqF (fun q=>h q.symm)]
   rfl
theorem syn_fT {d:Ty.den TDisk} {s t:ByteArray}:fT (synM d s).1 t=fT d t:=step_fT fun l c=>by
 unfold synG
 cases (getM l s).isNone with
 | true=>rfl
 | false =>
  show (getM (updF (fun f=>(f.1,(f.2.1,((f.2.1.size:Int),f.2.2.2)))) l s) t).map _=_
  rw [get_upd (h:=fun f:Ty.den TFile=>(f.1,(f.2.1,((f.2.1.size:Int),f.2.2.2)))) (fun f=>rfl)]
  by_cases q:t=s
  · rw [q,seq_refl]
    cases getM l s <;> rfl
  · rw [seqF q]
    rfl
theorem rem_fT {d:Ty.den TDisk} {s t:ByteArray} (h:s≠t):fT (remM d s).1 t=fT d t:=step_fT fun l c=>by
 unfold remG
 cases (getM l s).isNone with
 | true=>rfl
 | false =>
  show (getM (delF l s) t).map _=_
  rw [get_del (fun q=>h q.symm)]
theorem ren_fT {d:Ty.den TDisk} {a b t:ByteArray} (h1:a≠t) (h2:b≠t):fT (renM d a b).1 t=fT d t:=step_fT fun l c=>by
 unfold renG
 cases !nameM b with
 | true=>rfl
 | false =>
  simp only [c_f]
  cases getM l a with
  | none=>rfl
  | some f =>
   cases seq a b with
   | true=>rfl
   | false =>
    show (getM (insF (delF (delF l a) b) (b,f.2)) t).map _=_
    rw [get_keep (f:=(b,f.2)) h2,get_del (fun q=>h2 q.symm),get_del (fun q=>h1 q.symm)]
theorem app_own {d:Ty.den TDisk} {s x:ByteArray}:fT (appM d s x).1 s=bif (appM d s x).2==0 then (fT d s).map (·++x) else fT d s:=by
 unfold appM stepM fT
 cases c:(begM d).2 != 0 with
 | true =>
  rw [c_t,begM_files]
  have:((begM d).2==0)=false:=by unfold bne at c;simpa using c
  rw [this]
  rfl
 | false =>
  simp only [c_f]
  unfold appG
  cases c1:getM d.1 s with
  | none=>simp only [Option.isNone_none,c_t];rw [c1];rfl
  | some f =>
   simp only [Option.isNone_some,c_f]
   cases decide ((x.size:Int) > w64 (d.2.1-(used d.1:Int))) with
   | true=>simp only [c_t];rw [c1];rfl
   | false =>
    simp only [c_f]
    rw [get_upd (h:=fun f:Ty.den TFile=>(f.1,(f.2.1++x,f.2.2))) (fun f=>rfl),seq_refl,c1]
    rfl
theorem seqR_fT {r:RD} {f:Ty.den TDisk→RD} {t:ByteArray} {x:Option ByteArray} (h1:fT r.1 t=x) (h2:∀ y,fT (f y).1 t=fT y t):fT (seqR r f).1 t=x:=by
 unfold seqR
 cases r.2==0 with
 | true=>exact (h2 _).trans h1
 | false=>exact h1
theorem gone_fT {d:Ty.den TDisk} {s t:ByteArray} (h:s≠t):fT (goneR s d).1 t=fT d t:=by
 unfold goneR
 cases (getM d.1 s).isSome with
 | true=>exact rem_fT h
 | false=>rfl
theorem fresh_fT {d:Ty.den TDisk} {s t:ByteArray} (h:s≠t):fT (freshR s d).1 t=fT d t:=seqR_fT (gone_fT h) fun y=>cre_fT h
theorem file_fT {d:Ty.den TDisk} {s t x:ByteArray} (h:s≠t):fT (fileR s x d).1 t=fT d t:=seqR_fT (seqR_fT (fresh_fT h) fun y=>app_fT h) fun y=>syn_fT
theorem putLive_fT {d:Ty.den TDisk} {v:Ty.den TLive} {t:ByteArray} (h1:tempB≠t) (h2:liveB≠t):fT (putLiveR v d).1 t=fT d t:=seqR_fT (file_fT h1) fun y=>ren_fT h1 h2
theorem drops_fT {t:ByteArray}:∀ (l:List ByteArray) (d:Ty.den TDisk),(∀ s ∈ l,s≠t)→fT (dropsR l d).1 t=fT d t
 | [],_,_=>rfl
 | s::l,d,h=>by
  show fT (seqR (goneR s d) (dropsR l)).1 t=_
  exact seqR_fT (gone_fT (h s m_s)) fun y=>drops_fT l y fun q hq=>h q (m_m _ hq)
end Go.Proofs.YtmakghhmpgfboaaGreatDoor.G
namespace Go.Proofs.YtmakghhmpgfboaaGreatDoor.G
open Go.V
def addsR:RecL→Ty.den TStore→Ty.den TDisk→PlaceL→(Ty.den TStore × RD) × PlaceL
 | [],st,d,ps=>((st,(d,0)),ps)
 | r::l,st,d,ps=>bif (addR st d r).1.2.2 != 0 then ((addR st d r).1,ps) else addsR l (addR st d r).1.1 (addR st d r).1.2.1 (ps++[(addR st d r).2])
def dirS (st:Ty.den TStore) (dir:EntryL):Ty.den TStore:=(st.1,(dir,st.2.2))
def endR (n:Nat) (q:(Ty.den TStore × RD) × PlaceL):Ty.den TStore × RD :=
 bif q.1.2.2 != 0 then q.1 else bif (synM q.1.2.1 (actB q.1.1)).2 != 0 then (q.1.1,tl (synM q.1.2.1 (actB q.1.1))) else (dirS q.1.1 (applyM q.1.1.2.1 (q.2.take n)),((synM q.1.2.1 (actB q.1.1)).1,0))
def batS (st:Ty.den TStore):Ty.den TStore:=(st.1,(st.2.1,(st.2.2.1+1,st.2.2.2)))
def writeR (st:Ty.den TStore) (d:Ty.den TDisk) (l:PutL):Ty.den TStore × RD:=endR l.length (addsR (recsM l st.2.2.1) (batS st) d [])
theorem adds_facts:∀ (l:RecL) (st:Ty.den TStore) (d:Ty.den TDisk) (ps:PlaceL) (B:Int),SR st (d,0) B→0≤B →
 SR (addsR l st d ps).1.1 (addsR l st d ps).1.2 (B+211*(l.length:Int))∧(addsR l st d ps).1.1.2.1=st.2.1∧((addsR l st d ps).1.2.2=0→(addsR l st d ps).2.map recP=ps.map recP++l)
 | [],st,d,ps,B,h,_=>⟨⟨h.live,h.disk,h.lo,by have:=h.hi;show LE.le (α:=Int) st.2.2.2.1 _;rw [List.length_nil];omega⟩,rfl,fun _=>(List.append_nil _).symm⟩
 | r::l,st,d,ps,B,h,hB=>by
  obtain ⟨g1,g2,g3⟩:=add_facts h hB r
  unfold addsR
  have el:((r::l).length:Int)=(l.length:Int)+1:=by rw [l_c];omega
  cases c:(addR st d r).1.2.2 != 0 with
  | true =>
   refine ⟨⟨g1.live,g1.disk,g1.lo,?_⟩,g2,fun e=>?_⟩
   · have:=g1.hi
     show LE.le (α:=Int) (addR st d r).1.1.2.2.2.1 _
     omega
   · have e:(addR st d r).1.2.2=0:=e
     rw [e] at c
     cases c
  | false =>
   have e0:(addR st d r).1.2.2=0:=by unfold bne at c;simpa using c
   obtain ⟨k1,k2,k3⟩:=adds_facts l (addR st d r).1.1 (addR st d r).1.2.1 (ps++[(addR st d r).2]) (B+211) ⟨g1.live,g1.disk,g1.lo,g1.hi⟩ (by omega)
   refine ⟨⟨k1.live,k1.disk,k1.lo,?_⟩,k2.trans g2,fun e=>?_⟩
   · have:=k1.hi
     show LE.le (α:=Int) (addsR l (addR st d r).1.1 (addR st d r).1.2.1 (ps++[(addR st d r).2])).1.1.2.2.2.1 _
     omega
   · have:=k3 e
     show (addsR l (addR st d r).1.1 (addR st d r).1.2.1 (ps++[(addR st d r).2])).2.map recP=_
     rw [this,List.map_append,List.map_singleton,g3 e0,a_a]
     rfl
def dirW:EntryL→PutL→EntryL→EntryL
 | dir,[],_=>dir
 | dir,_::_,[]=>dir
 | dir,p::l,e::es=>dirW (bif p.2.1 then dropM dir p.1 else putM dir e) l es
theorem dirW_nil (dir:EntryL) (es:EntryL):dirW dir [] es=dir:=by cases es <;> rfl
theorem dirW_apply (b:Int):∀ (l:PutL) (ps:PlaceL) (q:RecL) (dir:EntryL),ps.map recP=l.map (putR b)++q→dirW dir l (ps.map entryOf)=applyM dir (ps.take l.length)
 | [],ps,q,dir,h=>by rw [List.length_nil,List.take_zero,dirW_nil];rfl
 | x::l,[],q,dir,h=>by cases h
 | x::l,p::ps,q,dir,h=>by
  rw [List.map_cons,List.map_cons,List.cons_append] at h
  injection h with h1 h2
  rw [List.map_cons,l_c,List.take_succ_cons]
  unfold dirW applyM
  rw [List.foldl_cons,dirW_apply b l ps q _ h2]
  unfold applyM
  congr 1
  unfold stepDir
  rw [show p.2.2.2.1=putR b x from h1]
  unfold putR
  cases x.2.1 <;> rfl
def keyE (p:Ty.den TPut):Ty.den TEntry:=(p.1,(0,(0,(0,(0,())))))
def afterM (dir:EntryL) (l:PutL):Int:=((dirW dir l (l.map keyE)).length:Int)
theorem put_len (l:EntryL) (e:Ty.den TEntry):(putM l e).length≤l.length+1:=by
 unfold putM
 rw [insE_len]
 have:=dropM_len l e.1
 omega
theorem dirG_loop {k:Nat} (hk:2 ^ 50≤k) {l:PutL} (hl:l.length≤1000) {es:EntryL} (he:l.length≤es.length) {L:Nat→Int→EntryL→impl_dirWith.Rs}
 (hL:∀ n i s,L (n+1) i s=bif decide (i<(l.length:Int)) then inb i (l.length:Int) (bif (l.getD i.toNat (Ty.dflt TPut)).2.1 then ((impl_DirDrop.f k s (l.getD i.toNat (Ty.dflt TPut)).1).bind fun r=>L n (w64 (i+1)) r.1) else
  (inb i (es.length:Int) ((impl_DirPut.f k s (es.getD i.toNat (Ty.dflt TEntry))).bind fun r=>L n (w64 (i+1)) r.1))) else some (s,()))
 (n:Nat) (i:Int) (s:EntryL) (h0:0≤i) (h1:i≤(l.length:Int)) (h2:(l.length:Int)-i<n) (hs:(s.length:Int)≤536870912+i):L n i s=some (dirW s (l.drop i.toNat) (es.drop i.toNat),()):=by
 refine forI (L:=L) (R:=fun i s=>some (dirW s (l.drop i.toNat) (es.drop i.toNat),())) (l.length:Int) (fun i s=>(s.length:Int)≤536870912+i) (fun n s hs=>?_) (fun n i s h0 h1 hp ih=>?_) n i s h0 h1 h2 hs
 · rw [hL,decF (by omega),c_f,Int.toNat_natCast,List.drop_length,dirW_nil]
 · have hi:i.toNat<l.length:=by omega
   have hj:i.toNat<es.length:=by omega
   have e1:l.drop i.toNat=l.getD i.toNat (Ty.dflt TPut)::l.drop (i+1).toNat:=by
    rw [List.drop_eq_getElem_cons hi,show (i+1).toNat=i.toNat+1 by omega]
    simp [List.getD,hi]
   have e2:es.drop i.toNat=es.getD i.toNat (Ty.dflt TEntry)::es.drop (i+1).toNat:=by
    rw [List.drop_eq_getElem_cons hj,show (i+1).toNat=i.toNat+1 by omega]
    simp [List.getD,hj]
   rw [hL,decT h1,c_t,inb_eq h0 h1,e1,e2]
   simp only [dirW]
   generalize l.getD i.toNat (Ty.dflt TPut)=x
   generalize es.getD i.toNat (Ty.dflt TEntry)=e
   rw [w64_eq (n:=i+1) (by omega) (by omega),inb_eq h0 (by omega)]
   cases c:x.2.1 with
   | true =>
    have:=dropM_len s x.1
    simp only [c_t]
    rw [implDirDrop_eq hk x.1 (by omega),o_s]
    exact ih (dropM s x.1) (by omega)
   | false =>
    have:=put_len s e
    simp only [c_f]
    rw [implDirPut_eq hk e (by omega),o_s]
    exact ih (putM s e) (by omega)
theorem implDirG_eq {k:Nat} (hk:2 ^ 50≤k) {dir:EntryL} (hd:dir.length≤536870912) {l:PutL} (hl:l.length≤1000) {es:EntryL} (he:l.length≤es.length):impl_dirWith_g.f k dir l es=some (dirW dir l es,()):=by
 unfold impl_dirWith_g.f impl_dirWith_g.t
 exact dirG_loop hk hl he (L:=fun n i s=>impl_dirWith_g.l0 k n es l l.length i s) (fun n i s=>rfl) k 0 dir (by omega) (by omega) (by omega) (by omega)
theorem implDir1_eq {k:Nat} (hk:2 ^ 50≤k) {dir:EntryL} (hd:dir.length≤536870912) {l:PutL} (hl:l.length≤1000) {es:EntryL} (he:l.length≤es.length):impl_dirWith.f k dir l es=some (dirW dir l es,()):=by
 obtain ⟨q,hq⟩:∃ q,k=q+1:=⟨k-1,by omega⟩
 have k1:=dirG_loop hk hl he (L:=fun n i s=>impl_dirWith.l1 k n es l l.length i s) (fun n i s=>rfl) (q+1) 0 dir (by omega) (by omega) (by omega) (by omega)
 unfold impl_dirWith.f impl_dirWith.t
 refine Eq.trans ?_ k1
 rw [show impl_dirWith.l0 k k=impl_dirWith.l0 k (q+1) by rw [← hq]]
 rfl
theorem implKeys2_eq {k:Nat} (hk:2 ^ 50≤k) {dir:EntryL} (hd:dir.length≤536870912) {l:PutL} (hl:l.length≤1000):impl_keysWith.f k dir l=some (afterM dir l,()):=by
 unfold impl_keysWith.f impl_keysWith.t afterM
 refine (forL0 (L:=fun n i (s:EntryL)=>impl_keysWith.l0 k n dir l l l.length i s) (R:=fun r s=>if (s++r.map keyE).length=l.length then some (((dirW dir l (s++r.map keyE)).length:Int),()) else none) (Ty.dflt TPut) l (fun i s=>(s.length:Int)=i) (fun n s hs=>?_) (fun n i s x rest h0 h1 hx hr hp ih=>?_) (n:=k) (s:=[]) (by omega) rfl).trans ?_
 · simp (disch:=omega) only [impl_keysWith.l0,impl_keysWith.b0,decF,c_f]
   rw [implDir1_eq hk hd hl (by omega),o_s,List.map_nil,List.append_nil,if_pos (by omega)]
 · simp (disch:=first | omega | decide) only [impl_keysWith.l0,impl_keysWith.b0,decT,c_t,inb_eq,hx,rm_ok,w64_eq]
   refine (ih (s++[keyE x]) (by rw [l_a,List.length_singleton];omega)).trans ?_
   rw [a_a]
   rfl
 · rw [List.nil_append,if_pos (List.length_map ..)]
end Go.Proofs.YtmakghhmpgfboaaGreatDoor.G
namespace Go.Proofs.YtmakghhmpgfboaaGreatDoor.G
open Go.V
theorem zero_ne {c:Int} (h:(c != 0)=false):c=0:=by unfold bne at h;simpa using h
theorem recsM_len (l:PutL) (b:Int):(recsM l b).length=l.length+1:=by unfold recsM;rw [l_a,List.length_map];rfl
theorem implWrite_eq {k:Nat} (hk:2 ^ 50≤k) {st:Ty.den TStore} {d:Ty.den TDisk} {l:PutL} (h:SR st (d,0) 100000) (hb0:LE.le (α:=Int) 0 st.2.2.1) (hb:LE.le (α:=Int) st.2.2.1 1000000) (hp:putsOk l=true) (hd:st.2.1.length≤20) :
 impl_Store__commit.f k st (wO (d,0)) l=some ((writeR st d l).1,(wO (writeR st d l).2,())):=by
 have hl:=putsOk_len hp
 unfold impl_Store__commit.f impl_Store__commit.t writeR
 rw [implRecordsOf_eq hk (by omega),o_s]
 simp only []
 rw [w64_eq (n:=st.2.2.1+1) (by omega) (by omega)]
 have hrl:=recsM_len l st.2.2.1
 have hre:recsM l st.2.2.1=l.map (putR st.2.2.1)++[sealR 3 st.2.2.1 (l.map (putR st.2.2.1))]:=rfl
 generalize recsM l st.2.2.1=rs at hrl hre ⊢
 refine forL0 (L:=fun n i (s:(Ty.den TStore × Ty.den TDisk) × PlaceL)=>impl_Store__commit.l0 k n l rs.length i s.1.1.1.2.1 s.1.1.2.1 s.1.1.1.1 s.1.1.2.2.1 s.1.1.2.2.2.1 s.1.1.2.2.2.2.1 s.1.2.1 s.1.2.2.1 s.1.2.2.2.1 s.1.2.2.2.2.1 0 (s.2.map entryOf) rs)
  (R:=fun r s=>(some ((endR l.length (addsR r s.1.1 s.1.2 s.2)).1,(wO (endR l.length (addsR r s.1.1 s.1.2 s.2)).2,())):impl_Store__commit.Rs))
  (Ty.dflt TRec) rs (fun i s=>SR s.1.1 (s.1.2,0) (100000+211*i)∧s.2.map recP=rs.take i.toNat∧s.1.1.2.1.length≤20) (fun n s hs=>?_) (fun n i s x rest h0 h1 hx hr hs ih=>?_) (n:=k) (s:=((batS st,d),[])) (by omega) ⟨⟨h.live,h.disk,h.lo,Int.le_trans h.hi (by decide)⟩,rfl,hd⟩
 · obtain ⟨⟨st',d'⟩,ps⟩:=s
   obtain ⟨g1,g2,g3⟩:=hs
   simp only [] at g1 g2 g3 ⊢
   rw [Int.toNat_natCast,List.take_length] at g2
   have hps:ps.length=rs.length:=by simpa using congrArg List.length g2
   simp only [impl_Store__commit.l0,impl_Store__commit.b0]
   rw [decF (by omega),c_f,show ((st'.1.1,(st'.1.2.1,())),(st'.2.1,(st'.2.2.1,(st'.2.2.2.1,(st'.2.2.2.2.1,())))))=st' from rfl,implActive_eq g1.live,o_s]
   simp only []
   rw [show ((d'.1,(d'.2.1,(d'.2.2.1,(d'.2.2.2.1,())))),((0:Int),()))=wO (d',0) from rfl,implW_syn hk (d',0) g1.disk,o_s,wk_zero]
   unfold endR addsR
   simp only [show ((0:Int) != 0)=false from rfl,c_f]
   generalize synM d' (actB st')=y
   have q:=tl_ne y
   rw [show (wO (tl y)).2.1=(tl y).2 from rfl]
   cases c:y.2 != 0 with
   | true =>
    rw [c] at q
    have q:((tl y).2==0)=false:=by unfold bne at q;simpa using q
    rw [q]
    rfl
   | false =>
    rw [c] at q
    have q:((tl y).2==0)=true:=by unfold bne at q;simpa using q
    rw [q]
    simp only [c_t,c_f]
    rw [implDirG_eq hk (by omega) (by omega) (by rw [List.length_map];omega),o_s,dirW_apply st.2.2.1 l ps [sealR 3 st.2.2.1 (l.map (putR st.2.2.1))] st'.2.1 (g2.trans hre),tl_zero (r:=y) (by unfold bne at c;simpa using c)]
    rfl
 · obtain ⟨⟨st',d'⟩,ps⟩:=s
   obtain ⟨g1,g2,g3⟩:=hs
   simp only [] at g1 g2 g3 ih ⊢
   have hi:i.toNat<rs.length:=by omega
   have et:rs.take (i+1).toNat=rs.take i.toNat++[x]:=by
    rw [show (i+1).toNat=i.toNat+1 by omega,List.take_succ_eq_append_getElem hi]
    congr 2
    rw [← hx]
    simp [List.getD,hi]
   have hps:ps.length≤rs.length:=by
    have:=congrArg List.length g2
    rw [List.length_map,List.length_take] at this
    omega
   obtain ⟨k1,k2,k3⟩:=add_facts g1 (by omega) x
   obtain ⟨e,he1,he2⟩:=implAdd_eq hk g1 (by omega) (by omega) x
   simp only [impl_Store__commit.l0,impl_Store__commit.b0,addsR]
   rw [decT h1,c_t,inb_eq h0 h1,hx,show ((st'.1.1,(st'.1.2.1,())),(st'.2.1,(st'.2.2.1,(st'.2.2.2.1,(st'.2.2.2.2.1,())))))=st' from rfl,show ((d'.1,(d'.2.1,(d'.2.2.1,(d'.2.2.2.1,())))),((0:Int),()))=wO (d',0) from rfl,he1,o_s]
   simp only []
   have hk1:=k1.hi
   generalize addR st' d' x=q at k1 k2 k3 hk1 he2 ⊢
   rw [show (wO q.1.2).2.1=q.1.2.2 from rfl]
   cases c:q.1.2.2 != 0 with
   | true =>
    simp only [c_t]
    unfold endR
    simp only [c,c_t]
   | false =>
    simp only [c_f]
    have z:=zero_ne c
    have q3:=k3 z
    rw [rm_ok (by rw [List.length_map];omega) (by decide),w64_eq (n:=i+1) (by omega) (by omega),he2 z]
    have e1:(ps++[q.2]).map entryOf=ps.map entryOf++[entryOf q.2]:=by rw [List.map_append,List.map_singleton]
    have ih:=ih ((q.1.1,q.1.2.1),ps++[q.2]) ⟨⟨k1.live,k1.disk,k1.lo,by show LE.le (α:=Int) q.1.1.2.2.2.1 _;omega⟩,by simp only [];rw [List.map_append,List.map_singleton,q3,g2,et],by simp only [];rw [k2];exact g3⟩
    simp only [] at ih
    rw [e1] at ih
    rw [show (wO q.1.2).1=q.1.2.1 from rfl,z]
    exact ih
noncomputable def commitM (st:Ty.den TStore) (d:Ty.den TDisk) (l:PutL):Ty.den TStore × RD :=
 bif !storeM st d then (st,(d,4)) else bif !putsOk l then (st,(d,4)) else bif (l.length:Int)==0 then (st,(d,0)) else bif decide (afterM st.2.1 l > 20) then (st,(d,5)) else
 bif decide (st.2.2.1 > 1000000) then (st,(d,5)) else writeR st d l
theorem segs_tail {d:Ty.den TDisk} {tail:Int}:∀ {l:List Int},l≠[]→segsOk d tail l=true→∃ x,tail=((textM d (namedM segB x)).1.size:Int)
 | [],h,_=>absurd rfl h
 | [x],_,h=>by
  unfold segsOk segOk at h
  simp only [b_a,List.isEmpty_nil,n_t,Bool.false_or] at h
  exact ⟨x,q_t h.1.2.2⟩
 | x::y::l,_,h=>by
  unfold segsOk at h
  rw [b_a] at h
  exact segs_tail (by intro q;cases q) h.2
theorem store_facts {st:Ty.den TStore} {d:Ty.den TDisk} (h:storeM st d=true):SR st (d,0) 100000∧st.2.1.length≤20∧LE.le (α:=Int) 1 st.2.2.1:=by
 unfold storeM dirM at h
 simp only [b_a,decide_eq_true_eq] at h
 obtain ⟨h1,h2,⟨h3,_⟩,h4,h5,_⟩:=h
 obtain ⟨_,_,g1,_,_⟩:=live_facts (nx:=st.1.1) (ids:=st.1.2.1) h2
 have hd:=disk_iff.1 h1
 obtain ⟨x,hx⟩:=segs_tail (by intro q;rw [q] at g1;simp at g1) h5
 have hs:=textM_size d (namedM segB x)
 have hu:=hd.use
 have hc:=hd.cap1
 refine ⟨⟨h2,hd,?_,?_⟩,by omega,h4.1⟩
 · show LE.le (α:=Int) 0 st.2.2.2.1
   rw [hx]
   omega
 · show LE.le (α:=Int) st.2.2.2.1 100000
   rw [hx]
   have:LE.le (α:=Int) (used d.1) 100000:=Int.le_trans hu hc
   omega
theorem implCommit_eq {k:Nat} (hk:2 ^ 50≤k) {st:Ty.den TStore} {d:Ty.den TDisk} (hd:DSz d) (h1:st.1.2.1.length≤1073741824) (h2:st.2.1.length≤536870912) {l:PutL} (hl:l.length≤1073741824) :
 impl_Commit.f k st d l=some ((commitM st d l).1,((commitM st d l).2.1,((commitM st d l).2.2,()))):=by
 have ec:impl_copyStore.f k st=some (st,()):=by
  unfold impl_copyStore.f impl_copyStore.t impl_copyLive.f impl_copyLive.t
  rw [rm_ok (by omega) (by decide),o_s]
  unfold impl_copyDir.f impl_copyDir.t
  rw [rm_ok (by omega) (by decide),o_s]
 unfold impl_Commit.f impl_Commit.t commitM
 rw [ec,o_s]
 simp only []
 rw [implCopyD_eq k hd.l,o_s]
 simp only []
 rw [implStore_eq hk hd (by omega) (by omega),o_s]
 simp only []
 cases c1:storeM st d with
 | false=>rfl
 | true =>
  simp only [n_t,c_f]
  rw [implPutsOk_eq hk (by omega),o_s]
  simp only []
  cases c2:putsOk l with
  | false=>rfl
  | true =>
   have h8:=putsOk_len c2
   obtain ⟨g1,g2,g3⟩:=store_facts c1
   simp only [n_t,c_f]
   cases c3:(l.length:Int)==0 with
   | true=>rfl
   | false =>
    simp only [c_f]
    rw [implKeys2_eq hk (by omega) (by omega),o_s]
    simp only []
    cases c4:decide (afterM st.2.1 l > 20) with
    | true=>rfl
    | false =>
     simp only [c_f]
     by_cases c5:st.2.2.1 > (1000000:Int)
     · rw [decT c5];rfl
     · rw [decF c5]
       simp only [c_f]
       rw [show ((d,((0:Int),())):Ty.den Tworker)=wO (d,0) from rfl,implWrite_eq hk g1 (Int.le_trans (by decide) g3) (Int.not_lt.1 c5) c2 g2,o_s]
       rfl
end Go.Proofs.YtmakghhmpgfboaaGreatDoor.G
namespace Go.Proofs.YtmakghhmpgfboaaGreatDoor.G
open Go.V
theorem id_named {p:ByteArray} (hp:p=segB∨p=hintB) {n:Int} (h0:1≤n) (h1:n≤100000):idM (namedM p n)=(n,true):=by
 have e:namedM p n=p++decB n:=by unfold namedM;rw [decT ⟨h0,h1⟩];rfl
 have hn:Pid (p++decB n) n:=⟨h0,h1,by rcases hp with q | q <;> rw [q] <;> simp⟩
 rw [e]
 rcases undo_cases (Pid (p++decB n)) (fun _=>p++decB n) (0:Int) (p++decB n) with ⟨r,g1,_,g3⟩ | g
 · unfold idM
   rw [g3,pid_one g1 hn]
 · exfalso
   unfold undo at g
   rw [dif_pos ⟨n,hn,rfl⟩] at g
   cases (Prod.mk.inj g).2
end Go.Proofs.YtmakghhmpgfboaaGreatDoor.G
namespace Go.Proofs.YtmakghhmpgfboaaGreatDoor.G
open Go.V
theorem seg_ne {x y:Int} (hx:1≤x∧x≤100000) (hy:1≤y∧y≤100000) (h:x≠y):namedM segB x≠namedM segB y:=fun q=>by
 have e1:=id_named (.inl rfl) hx.1 hx.2
 have e2:=id_named (.inl rfl) hy.1 hy.2
 rw [q,e2] at e1
 injection e1 with e1 _
 exact h e1.symm
theorem seg_form {x:Int} (hx:1≤x∧x≤100000):namedM segB x=segB++decB x:=by
 unfold namedM
 rw [decT hx]
 rfl
theorem seg_temp {x:Int} (hx:1≤x∧x≤100000):tempB≠namedM segB x:=fun q=>by
 rw [seg_form hx] at q
 have:=congrArg nb q
 rw [nb_app] at this
 cases this
theorem seg_live {x:Int} (hx:1≤x∧x≤100000):liveB≠namedM segB x:=fun q=>by
 rw [seg_form hx] at q
 have:=congrArg nb q
 rw [nb_app] at this
 cases this
theorem live_ids {n:Int} {ids:List Int} (h:liveM (n,(ids,()))=true):1≤n∧n≤100000∧(∀ x ∈ ids,1≤x∧x<n)∧ids.Pairwise (· < ·):=by
 obtain ⟨g1,g2,_⟩:=live_facts h
 unfold liveM at h
 simp only [b_a,decide_eq_true_eq] at h
 have h3:=h.2.2
 rw [w64_eq (n:=n-1) (by omega) (by omega)] at h3
 have key:∀ (l:List Int) (p:Option Int),adj (idOk (n-1)) p l=true→(∀ x ∈ l,1≤x∧x<n∧∀ y,p=some y→y<x)∧l.Pairwise (· < ·):=by
  intro l
  induction l with
  | nil=>exact fun p _=>⟨fun x hx=>(by cases hx),List.Pairwise.nil⟩
  | cons a l ih =>
   intro p hp
   simp only [adj,b_a] at hp
   obtain ⟨q1,q2⟩:=hp
   unfold idOk at q1
   rw [b_a,decide_eq_true_eq] at q1
   obtain ⟨⟨b1,b2⟩,b3⟩:=q1
   have b1:1≤a:=b1
   have b2:a≤n-1:=b2
   obtain ⟨i1,i2⟩:=ih (some a) q2
   have ha:∀ y,p=some y→y<a:=fun y e=>by
    rw [e] at b3
    exact of_decide_eq_true b3
   refine ⟨fun x hx=>?_,?_⟩
   · rcases List.mem_cons.1 hx with e | e
     · rw [e]
       exact ⟨b1,by omega,ha⟩
     · obtain ⟨c1,c2,c3⟩:=i1 x e
       have:=c3 a rfl
       exact ⟨c1,c2,fun y ey=>Int.lt_trans (ha y ey) this⟩
   · exact List.Pairwise.cons (fun x hx=>(i1 x hx).2.2 a rfl) i2
 obtain ⟨k1,k2⟩:=key ids none h3
 exact ⟨g1,g2,fun x hx=>⟨(k1 x hx).1,(k1 x hx).2.1⟩,k2⟩
theorem last_split {ids:List Int} (h:1≤ids.length):ids=ids.dropLast++[lastI ids]:=by
 have hne:ids≠[]:=by intro q;rw [q] at h;simp at h
 have e:lastI ids=ids.getLast hne:=by
  unfold lastI
  rw [List.getLast_eq_getElem]
  simp [List.getD,show ids.length-1<ids.length by omega]
 rw [e]
 exact (List.dropLast_concat_getLast hne).symm
end Go.Proofs.YtmakghhmpgfboaaGreatDoor.G
namespace Go.Proofs.YtmakghhmpgfboaaGreatDoor.G
open Go.V
abbrev SpotL:=List (Ty.den TSpot)
def placesM (id:Int) (l:SpotL):PlaceL:=l.map fun x=>(id,x)
theorem placesM_len (id:Int) (l:SpotL):(placesM id l).length=l.length:=by unfold placesM;rw [List.length_map]
theorem implPlaced_eq {k:Nat} (hk:2 ^ 50≤k) (id:Int) {l:SpotL} (hl:l.length≤1099511627775):impl_placed.f k id l=some (placesM id l,()):=by
 unfold impl_placed.f impl_placed.t
 refine (forL0 (L:=fun n i s=>impl_placed.l0 k n id l l.length i s) (R:=fun r s=>some (s++placesM id r,())) (Ty.dflt TSpot) l (fun i s=>(s.length:Int)=i) (fun n s hs=>?_) (fun n i s x rest h0 h1 hx hr hp ih=>?_) (n:=k) (s:=[]) (by omega) (by decide)).trans (by rw [List.nil_append])
 · simp (disch:=omega) only [impl_placed.l0,impl_placed.b0,decF,c_f,placesM,List.map_nil,List.append_nil]
 · have ih:=ih (s++[(id,x)]) (by rw [len_snoc];omega)
   simp (disch:=first | omega | decide) only [impl_placed.l0,impl_placed.b0,decT,c_t,inb_eq,hx,rm_ok,w64_eq]
   refine ih.trans ?_
   simp only [placesM,List.map_cons,a_a,List.cons_append,List.nil_append]
end Go.Proofs.YtmakghhmpgfboaaGreatDoor.G
namespace Go.Proofs.YtmakghhmpgfboaaGreatDoor.G
open Go.V
def zHint:Ty.den THint:=(0,(0,([],())))
def inSeg (s0:Int) (e:Ty.den TEntry):Bool:=(e.2.1==s0)&&!decide ((e.2.2.1:Int) > 100000)
def oneSeg (l:EntryL):Bool:=l.all (inSeg (l.getD 0 (Ty.dflt TEntry)).2.1)
def hintM (h:Ty.den THint):Bool:=decide ((0:Int)≤h.1∧h.1≤100000)&&(decide ((0:Int)≤h.2.1∧h.2.1≤1000000)&&(dirM h.2.2.1&&oneSeg h.2.2.1))
def entT (e:Ty.den TEntry):ByteArray:=textB e.1++(varB e.2.1++(varB e.2.2.1++(varB e.2.2.2.1++varB e.2.2.2.2.1)))
def entsT:EntryL→ByteArray
 | []=>⟨#[]⟩
 | e::l=>entT e++entsT l
def hintT (h:Ty.den THint):ByteArray:=varB h.1++(varB h.2.1++(varB (h.2.2.1.length:Int)++entsT h.2.2.1))
def showHintM (h:Ty.den THint):ByteArray:=if hintM h=true then fix4 (crcM (hintT h))++hintT h else ⟨#[]⟩
theorem implHintOk_eq {k:Nat} (hk:2 ^ 50≤k) {h:Ty.den THint} (hl:h.2.2.1.length≤1073741824):impl_hintOk.f k h=some (hintM h,()):=by
 unfold impl_hintOk.f impl_hintOk.t hintM oneSeg
 have fin:∀ b:Bool,(bif b then (Option.bind (impl_in.f k h.1 0 100000) fun r1=>(bif r1.1 then (Option.bind (impl_in.f k h.2.1 0 1000000) fun r2=>(bif r2.1 then (Option.bind (impl_DirOk.f k h.2.2.1) fun r3=>(some r3)) else (some (false,())))) else (some (false,())))) else (some (false,())))=some (decide ((0:Int)≤h.1∧h.1≤100000)&&(decide ((0:Int)≤h.2.1∧h.2.1≤1000000)&&(dirM h.2.2.1&&b)),()):=fun b=>by
  rw [inD_eq,o_s,inD_eq,o_s,implDir_eq hk (by omega),o_s]
  simp only []
  cases decide ((0:Int)≤h.1∧h.1≤100000) <;> cases decide ((0:Int)≤h.2.1∧h.2.1≤1000000) <;> cases dirM h.2.2.1 <;> cases b <;> rfl
 rw [← fin]
 refine forL0 (L:=fun n i (_:Unit)=>impl_hintOk.l0 k n h.2.2.1 h.2.2.1.length i h.1 h.2.1 h.2.2.1) (R:=fun r _=>bif r.all (inSeg (h.2.2.1.getD 0 (Ty.dflt TEntry)).2.1) then (Option.bind (impl_in.f k h.1 0 100000) fun r1=>(bif r1.1 then (Option.bind (impl_in.f k h.2.1 0 1000000) fun r2=>(bif r2.1 then (Option.bind (impl_DirOk.f k h.2.2.1) fun r3=>(some r3)) else (some (false,())))) else (some (false,())))) else (some (false,()))) (Ty.dflt TEntry) h.2.2.1 (fun _ _=>True) (fun n _ _=>?_) (fun n i _ x rest h0 h1 hx hr hp ih=>?_) (n:=k) (s:=()) (by omega) trivial
 · simp only [impl_hintOk.l0,impl_hintOk.b0]
   rw [decF (by omega),c_f]
   rfl
 · have ih:=ih () trivial
   simp only [impl_hintOk.l0,impl_hintOk.b0]
   rw [decT h1,c_t,inb_eq h0 h1,inb_eq (by omega) (by omega),hx,w64_eq (n:=i+1) (by omega) (by omega),ih,List.all_cons]
   unfold inSeg bne
   cases x.2.1==(h.2.2.1.getD 0 (Ty.dflt TEntry)).2.1 <;> cases decide ((x.2.2.1:Int) > 100000) <;> rfl
theorem dir_facts {l:EntryL} (h:dirM l=true):l.length≤20∧∀ e ∈ l,(1≤e.1.size∧e.1.size≤8)∧(LE.le (α:=Int) 1 e.2.1∧LE.le (α:=Int) e.2.1 100000)∧LE.le (α:=Int) 0 e.2.2.1∧(LE.le (α:=Int) 1 e.2.2.2.1∧LE.le (α:=Int) e.2.2.2.1 210)∧(LE.le (α:=Int) 1 e.2.2.2.2.1∧LE.le (α:=Int) e.2.2.2.2.1 1000000):=by
 unfold dirM at h
 rw [b_a,decide_eq_true_eq] at h
 refine ⟨by have:=h.1;omega,fun e he=>?_⟩
 obtain ⟨q,hq⟩:=adj_all h.2 he
 unfold entOk keyOkB at hq
 rw [b_a,b_a,b_a,b_a,b_a,decide_eq_true_eq,decide_eq_true_eq,decide_eq_true_eq,decide_eq_true_eq] at hq
 obtain ⟨g1,g2,g3,g4,g5,_⟩:=hq
 have g3':¬ LT.lt (α:=Int) e.2.2.1 0:=by
  intro q
  have:(!decide (e.2.2.1<(0:Int)))=false:=by rw [decT q];rfl
  rw [this] at g3
  cases g3
 exact ⟨by omega,g2,Int.not_lt.1 g3',g4,g5⟩
theorem hint_dir {h:Ty.den THint} (q:hintM h=true):dirM h.2.2.1=true:=by
 unfold hintM at q
 rw [b_a,b_a,b_a] at q
 exact q.2.2.1
theorem entT_size {e:Ty.den TEntry}:(entT e).size≤35+e.1.size:=by
 have a:=varB_size (e.1.size:Int)
 have b:=varB_size e.2.1
 have c:=varB_size e.2.2.1
 have d:=varB_size e.2.2.2.1
 have f:=varB_size e.2.2.2.2.1
 unfold entT textB
 simp only [sz_app]
 omega
theorem entsT_size:∀ {l:EntryL},(∀ e ∈ l,e.1.size≤8)→(entsT l).size≤43*l.length
 | [],_=>Nat.zero_le _
 | e::l,h=>by
  have h1:=h e (m_s ..)
  have h2:=entsT_size (l:=l) fun x hx=>h x (m_m _ hx)
  have h3:=entT_size (e:=e)
  unfold entsT
  rw [sz_app,l_c]
  omega
theorem implShowHint_eq {k:Nat} (hk:2 ^ 50≤k) {h:Ty.den THint} (hl:h.2.2.1.length≤1073741824):impl_ShowHint.f k h=some (showHintM h,()):=by
 unfold impl_ShowHint.f impl_ShowHint.t showHintM
 rw [implHintOk_eq hk hl,o_s]
 cases q:hintM h with
 | false=>rfl
 | true =>
  obtain ⟨h1,h2⟩:=dir_facts (hint_dir q)
  have a:=varB_size h.1
  have b:=varB_size h.2.1
  have c:=varB_size (h.2.2.1.length:Int)
  rw [n_t,c_f,implVars_eq hk (by simp),o_s,if_pos rfl]
  simp only []
  refine (forL0 (L:=fun n i s=>impl_ShowHint.l0 k n s h.2.2.1 h.2.2.1.length i) (R:=fun r s=>some (fix4 (crcM (s++entsT r))++(s++entsT r),())) (Ty.dflt TEntry) h.2.2.1 (fun i s=>(s.size:Int)≤21+43*i) (fun n s hs=>?_) (fun n i s x rest g0 g1 hx hr hs ih=>?_) (n:=k) (s:=varsT [h.1,h.2.1,(h.2.2.1.length:Int)]) (by omega) (by simp only [varsT,sz_app];rw [show (⟨#[]⟩:ByteArray).size=0 from rfl];omega)).trans (by unfold hintT;simp only [varsT,app_assoc,nil_app,app_nil])
  · have hc:=crcM_in s
    simp only [impl_ShowHint.l0,impl_ShowHint.b0]
    rw [decF (by omega),c_f,implCrc_eq hk (by omega),o_s]
    simp only []
    rw [implFixed_eq hk hc.1 hc.2,o_s]
    simp only []
    rw [cat_ok (by rw [show (fix4 (crcM s)).size=4 from rfl];omega),show entsT []=⟨#[]⟩ from rfl,nil_app]
  · have hm:x ∈ h.2.2.1:=by rw [← hx];exact getD_mem (by omega)
    have hz:=(h2 x hm).1.2
    have ht:=entT_size (e:=x)
    have v1:=varB_size (x.1.size:Int)
    have v2:=varB_size x.2.1
    have v3:=varB_size x.2.2.1
    have v4:=varB_size x.2.2.2.1
    have v5:=varB_size x.2.2.2.2.1
    have ih:=ih (s++entT x) (by have:=entT_size (e:=x);rw [sz_app];omega)
    have e:textB x.1++varsT [x.2.1,x.2.2.1,x.2.2.2.1,x.2.2.2.2.1]=entT x:=by
     unfold entT
     simp only [varsT,nil_app]
    simp only [impl_ShowHint.l0,impl_ShowHint.b0]
    rw [decT g1,c_t,inb_eq g0 g1,hx,implTextOf_eq hk (by omega),o_s,implVars_eq hk (by simp),o_s]
    simp only []
    have hts:(textB x.1).size+(varsT [x.2.1,x.2.2.1,x.2.2.2.1,x.2.2.2.2.1]).size≤100:=by
     rw [← sz_app,e];omega
    rw [cat_ok (by omega),e,cat_ok (by omega),w64_eq (n:=i+1) (by omega) (by omega),ih,show entsT (x::rest)=entT x++entsT rest from rfl,app_assoc]
def entSame (x y:Ty.den TEntry):Bool:=(seq x.1 y.1)&&((x.2.1==y.2.1)&&((x.2.2.1==y.2.2.1)&&((x.2.2.2.1==y.2.2.2.1)&&(x.2.2.2.2.1==y.2.2.2.2.1))))
def sameE:EntryL→EntryL→Bool
 | [],[]=>true
 | x::l,y::m=>entSame x y&&sameE l m
 | _,_=>false
theorem entSame_iff {x y:Ty.den TEntry}:entSame x y=true↔x=y:=by
 unfold entSame
 simp only [b_a,beq_iff_eq,seq_iff]
 constructor
 · rintro ⟨h1,h2,h3,h4,h5⟩
   obtain ⟨a,b,c,d,e,_⟩:=x
   obtain ⟨a',b',c',d',e',_⟩:=y
   simp only at h1 h2 h3 h4 h5
   subst h1 h2 h3 h4 h5
   rfl
 · rintro rfl;exact ⟨rfl,rfl,rfl,rfl,rfl⟩
theorem sameE_iff:∀ {l m:EntryL},sameE l m=true↔l=m
 | [],[]=>⟨fun _=>rfl,fun _=>rfl⟩
 | [],y::m=>⟨fun h=>(by cases h),fun h=>(by cases h)⟩
 | x::l,[]=>⟨fun h=>(by cases h),fun h=>(by cases h)⟩
 | x::l,y::m=>by
  unfold sameE
  rw [b_a,entSame_iff,sameE_iff,List.cons.injEq]
theorem sameE_len:∀ {l m:EntryL},l.length≠m.length→sameE l m=false:=fun {l m} h=>by
 cases c:sameE l m with
 | false=>rfl
 | true=>rw [sameE_iff.1 c] at h;exact absurd rfl h
theorem drop_cons {α:Type} {l:List α} {i:Nat} (z:α) (h:i<l.length):l.drop i=l.getD i z::l.drop (i+1):=by
 rw [List.drop_eq_getElem_cons h]
 simp [List.getD,h]
theorem implSameDir_eq {k:Nat} (hk:2 ^ 50≤k) {l m:EntryL} (hl:l.length≤1073741824):impl_SameDir.f k l m=some (sameE l m,()):=by
 unfold impl_SameDir.f impl_SameDir.t
 by_cases hne:l.length=m.length
 · rw [show ((l.length:Int) != (m.length:Int))=false by rw [hne];simp,c_f]
   refine (forI (L:=fun n i (_:Unit)=>impl_SameDir.l0 k n l m l.length i) (R:=fun i _=>some (sameE (l.drop i.toNat) (m.drop i.toNat),())) l.length (fun _ _=>True) (fun n _ _=>?_) (fun n i _ h0 h1 _ ih=>?_) k 0 () (by omega) (by omega) (by omega) trivial).trans (by simp)
   · simp only [impl_SameDir.l0,impl_SameDir.b0]
     rw [decF (by omega),c_f,n_n,List.drop_length,hne,List.drop_length]
     rfl
   · have ih:=ih () trivial
     have c1:i.toNat<l.length:=by omega
     simp only [impl_SameDir.l0,impl_SameDir.b0]
     rw [decT h1,c_t,inb_eq h0 h1,inb_eq h0 (by omega),w64_eq (n:=i+1) (by omega) (by omega),ih,drop_cons (Ty.dflt TEntry) c1,drop_cons (Ty.dflt TEntry) (l:=m) (i:=i.toNat) (by omega),show (i+1).toNat=i.toNat+1 by omega]
     show _=some (entSame _ _&&sameE _ _,())
     show (bif !(entSame (l.getD i.toNat (Ty.dflt TEntry)) (m.getD i.toNat (Ty.dflt TEntry))) then _ else _)=_
     cases entSame (l.getD i.toNat (Ty.dflt TEntry)) (m.getD i.toNat (Ty.dflt TEntry)) <;> rfl
 · rw [show ((l.length:Int) != (m.length:Int))=true from bne_iff_ne.2 (by omega),c_t,sameE_len hne]
def keepOk (mark:Int) (p:Option (Ty.den TSpot)) (x:Ty.den TSpot):Bool :=
 (x.2.2.1.1==4)&&(!decide ((x.2.2.1.2.1:Int) > mark)&&(match p with | none=>true | some y=>sls y.2.2.1.2.2.1 x.2.2.1.2.2.1))
def entS (id:Int) (x:Ty.den TSpot):Ty.den TEntry:=(x.2.2.1.2.2.1,(id,(x.1,(x.2.1,(x.2.2.1.2.1,())))))
noncomputable def hintOfM (id:Int) (s:ByteArray):Ty.den THint × Bool :=
 bif (scanM s).2 != (s.size:Int) then (zHint,false) else bif (scanM s).1.length==0 then (zHint,false) else
 bif ((scanM s).1.getD ((scanM s).1.length-1) (Ty.dflt TSpot)).2.2.1.1 != 5 then (zHint,false) else
 bif !decide ((1:Int)≤id∧id≤100000) then (zHint,false) else
 bif !adj (keepOk ((scanM s).1.getD ((scanM s).1.length-1) (Ty.dflt TSpot)).2.2.1.2.1) none ((scanM s).1.take ((scanM s).1.length-1)) then (zHint,false) else
 bif !fitsM ((scanM s).1.getD ((scanM s).1.length-1) (Ty.dflt TSpot)).2.2.1 (placesM id ((scanM s).1.take ((scanM s).1.length-1))) then (zHint,false) else
 (((s.size:Int),(((scanM s).1.getD ((scanM s).1.length-1) (Ty.dflt TSpot)).2.2.1.2.1,(((scanM s).1.take ((scanM s).1.length-1)).map (entS id),()))),true)
theorem implHintOf_eq {k:Nat} (hk:2 ^ 50≤k) (id:Int) {s:ByteArray} (hs:s.size≤1073741823):impl_HintOf.f k id s=some ((hintOfM id s).1,((hintOfM id s).2,())):=by
 have hln:=scanM_len s
 unfold impl_HintOf.f impl_HintOf.t hintOfM
 rw [implScan_eq hk (by omega),o_s]
 simp only []
 generalize scanM s=sc at hln ⊢
 obtain ⟨l,en⟩:=sc
 simp only at hln ⊢
 have w0:w64 ((l.length:Int)-1)=(l.length:Int)-1:=w64_eq (by omega) (by omega)
 by_cases h0:l.length=0
 · rw [w0,decT (by omega),c_t,show (l.length==0)=true by rw [h0];rfl]
   cases en != (s.size:Int) <;> rfl
 · rw [w0,decF (by omega),c_f,show (l.length==0)=false from q_f h0]
   cases he:en != (s.size:Int) with
   | true=>rfl
   | false =>
    have hen:en=(s.size:Int):=by
     cases q:en==(s.size:Int) with
     | true=>exact q_t q
     | false=>unfold bne at he;rw [q] at he;cases he
    simp only [c_f]
    have w1:(l.length:Int)-1=((l.length-1:Nat):Int):=by omega
    rw [inD_eq,o_s]
    simp only []
    rw [w1,n_n,inb_eq (by omega) (by omega),inb_eq (by omega) (by omega),inc_eq (by omega) (by omega),inb_eq (by omega) (by omega),inc_eq (by omega) (by omega)]
    generalize hm:l.getD (l.length-1) (Ty.dflt TSpot)=m
    have hpl:(l.take (l.length-1)).length=l.length-1:=by rw [List.length_take];omega
    rw [implPlaced_eq hk id (by omega),o_s]
    simp only []
    rw [implFits_eq hk _ (by unfold placesM;rw [List.length_map];omega),o_s]
    simp only []
    cases decide ((1:Int)≤id∧id≤100000) with
    | false=>cases m.2.2.1.1 != 5 <;> rfl
    | true =>
     cases m.2.2.1.1 != 5 with
     | true=>rfl
     | false =>
      simp only [n_t,c_f]
      cases fitsM m.2.2.1 (placesM id (l.take (l.length-1))) with
      | false=>cases adj (keepOk m.2.2.1.2.1) none (l.take (l.length-1)) <;> rfl
      | true =>
       simp only [n_t,c_f]
       refine (forAdj (L:=fun n i=>impl_HintOf.l0 k n id l (l.take (l.length-1)) (l.take (l.length-1)).length i [] 0 0 ((l.take i.toNat).map (entS id)) en m.2.2.1.2.1) (Ty.dflt TSpot) (l.take (l.length-1)) (keepOk m.2.2.1.2.1)
        (some (((s.size:Int),(m.2.2.1.2.1,((l.take (l.length-1)).map (entS id),()))),(true,()))) (some (zHint,(false,()))) (fun n=>?_) (fun n x h hx=>?_) (fun n i x y h0 h1 hx hy=>?_) (n:=k) (by omega)).trans (by
         cases adj (keepOk m.2.2.1.2.1) none (l.take (l.length-1)) <;> rfl)
       · simp only [impl_HintOf.l0,impl_HintOf.b0]
         rw [hpl,n_n,decF (by omega),c_f,hen]
       · have h':=h
         rw [hpl] at h'
         have hx':l.getD 0 (Ty.dflt TSpot)=x:=by rw [← hx,show Int.toNat 0=0 from rfl,getD_take (by omega)]
         simp only [impl_HintOf.l0,impl_HintOf.b0]
         rw [decT (by omega),c_t,inb_eq (by omega) (by omega),hx,decF (show ¬ (0:Int) > 0 by omega),c_f,rm_ok (by simp) (by decide),w64_eq (n:=(0:Int)+1) (by omega) (by omega),show Int.toNat 1=0+1 from rfl,take_succ_getD (z:=Ty.dflt TSpot) (show 0<l.length by omega),hx']
         simp only [keepOk,bne]
         cases x.2.2.1.1==4 <;> cases decide ((x.2.2.1.2.1:Int) > m.2.2.1.2.1) <;> rfl
       · have h1':=h1
         rw [hpl] at h1'
         have hx':l.getD i.toNat (Ty.dflt TSpot)=x:=by rw [← hx,getD_take (by omega)]
         have hy':l.getD (i-1).toNat (Ty.dflt TSpot)=y:=by rw [← hy,getD_take (by omega)]
         simp only [impl_HintOf.l0,impl_HintOf.b0]
         rw [decT h1,c_t,inb_eq (by omega) (by omega),hx,decT (show i > 0 by omega),w64_eq (n:=i-1) (by omega) (by omega),inb_eq (by omega) (by omega),hy',rm_ok (by rw [List.length_map,List.length_take];omega) (by decide),w64_eq (n:=i+1) (by omega) (by omega),show (i+1).toNat=i.toNat+1 by omega,take_succ_getD (z:=Ty.dflt TSpot) (show i.toNat<l.length by omega),hx',List.map_append]
         simp only [keepOk,bne]
         cases x.2.2.1.1==4 <;> cases decide ((x.2.2.1.2.1:Int) > m.2.2.1.2.1) <;> cases sls y.2.2.1.2.2.1 x.2.2.1.2.2.1 <;> rfl
noncomputable def fitsHintM (id:Int) (s:ByteArray) (h:Ty.den THint):Bool:=(hintOfM id s).2&&(((hintOfM id s).1.1==h.1)&&(((hintOfM id s).1.2.1==h.2.1)&&sameE (hintOfM id s).1.2.2.1 h.2.2.1))
theorem hintOf_len (id:Int) {s:ByteArray} (hs:s.size≤1073741823):(hintOfM id s).1.2.2.1.length≤1073741824:=by
 have hln:=scanM_len s
 unfold hintOfM
 generalize scanM s=sc at hln ⊢
 obtain ⟨l,en⟩:=sc
 simp only at hln ⊢
 cases en != (s.size:Int)
 · cases l.length==0
   · cases (l.getD (l.length-1) (Ty.dflt TSpot)).2.2.1.1 != 5
     · cases !decide ((1:Int)≤id∧id≤100000)
       · cases !adj (keepOk (l.getD (l.length-1) (Ty.dflt TSpot)).2.2.1.2.1) none (l.take (l.length-1))
         · cases !fitsM (l.getD (l.length-1) (Ty.dflt TSpot)).2.2.1 (placesM id (l.take (l.length-1)))
           · show ((l.take (l.length-1)).map (entS id)).length≤1073741824
             rw [List.length_map,List.length_take]
             omega
           · exact Nat.zero_le _
         · exact Nat.zero_le _
       · exact Nat.zero_le _
     · exact Nat.zero_le _
   · exact Nat.zero_le _
 · exact Nat.zero_le _
theorem implHintFits_eq {k:Nat} (hk:2 ^ 50≤k) (id:Int) {s:ByteArray} (hs:s.size≤1073741823) (h:Ty.den THint):impl_HintFits.f k id s h=some (fitsHintM id s h,()):=by
 have hl:=hintOf_len id hs
 unfold impl_HintFits.f impl_HintFits.t fitsHintM
 rw [implHintOf_eq hk id hs,o_s]
 simp only []
 rw [implSameDir_eq hk hl,o_s]
 cases (hintOfM id s).2 <;> cases (hintOfM id s).1.1==h.1 <;> cases (hintOfM id s).1.2.1==h.2.1 <;> rfl
end Go.Proofs.YtmakghhmpgfboaaGreatDoor.G
namespace Go.V
def Tot {α:Type} (o:Option α) (P:α→Prop):Prop:=∃ r,o=some r∧P r
section
variable {α β:Type} {P P':α→Prop} {Q:β→Prop}
theorem tot_some {r:α} (h:P r):Tot (some r) P:=⟨r,rfl,h⟩
theorem tot_of {o:Option α} {r:α} (e:o=some r) (h:P r):Tot o P:=⟨r,e,h⟩
theorem tot_eq {o:Option α} {r:α} (h:Tot o (fun x=>x=r)):o=some r:=by
 obtain ⟨x,e,rfl⟩:=h
 exact e
theorem tot_mono {o:Option α} (h:Tot o P) (hp:∀ r,P r→P' r):Tot o P':=by
 obtain ⟨r,e,hr⟩:=h
 exact ⟨r,e,hp r hr⟩
theorem tot_bind {o:Option α} {g:α→Option β} (h:Tot o P) (hg:∀ r,P r→Tot (g r) Q):Tot (Option.bind o g) Q:=by
 obtain ⟨r,e,hr⟩:=h
 rw [e]
 exact hg r hr
theorem tot_bindE {o:Option α} {r:α} {g:α→Option β} (e:o=some r) (hg:Tot (g r) Q):Tot (Option.bind o g) Q:=by
 rw [e]
 exact hg
theorem tot_bif {b:Bool} {x y:Option α} (h1:b=true→Tot x P) (h2:b=false→Tot y P):Tot (bif b then x else y) P:=by
 cases b
 · exact h2 rfl
 · exact h1 rfl
theorem tot_yes {b:Bool} {x y:Option α} (hb:b=true) (h:Tot x P):Tot (bif b then x else y) P:=by rw [hb];exact h
theorem tot_no {b:Bool} {x y:Option α} (hb:b=false) (h:Tot y P):Tot (bif b then x else y) P:=by rw [hb];exact h
theorem tot_inb {i n:Int} {x:Option α} (h0:0≤i) (h1:i<n) (h:Tot x P):Tot (inb i n x) P:=by rw [inb_eq h0 h1];exact h
theorem tot_rm {b n:Nat} {x:Option α} (h0:n≤1099511627776) (hb:b≤128) (h:Tot x P):Tot (rm b n x) P:=by rw [rm_ok h0 hb];exact h
theorem tot_cat {a b:ByteArray} {x:Option α} (h0:a.size+b.size≤4611686018427387904) (h:Tot x P):Tot (cat a b x) P:=by rw [cat_ok h0];exact h
end
end Go.V
namespace Go.Proofs.YtmakghhmpgfboaaGreatDoor.G
open Go.V
noncomputable def readHintM (s:ByteArray):Ty.den THint × Bool:=undo (fun h=>hintM h=true) showHintM zHint s
def RH (s:ByteArray) (o:Option (Ty.den THint × Bool × Unit)):Prop:=(∃ h,hintM h=true∧showHintM h=s∧o=some (h,(true,())))∨o=some (zHint,(false,()))
theorem rh_no (s:ByteArray):RH s (some (zHint,(false,()))) := .inr rfl
theorem rh_seq {s:ByteArray} (hs:4≤s.size) (h:Ty.den THint):RH s (bif !seq (showHintM h) s then some (zHint,(false,())) else some (h,(true,()))):=by
 cases c:seq (showHintM h) s with
 | false=>exact .inr rfl
 | true =>
  have e:=seq_iff.1 c
  refine .inl ⟨h,?_,e,rfl⟩
  cases q:hintM h with
  | true=>rfl
  | false =>
   unfold showHintM at e
   rw [if_neg (by rw [q];decide)] at e
   rw [← e] at hs
   exact absurd hs (by decide)
def NumOk (x:Int):Prop:=0≤x∧x≤1000000
theorem num_nat {x:Int} (h:NumOk x):∃ n:Nat,n<562949953421312∧x=(n:Int)∧varB x=varT n:=by
 obtain ⟨n,rfl⟩:=Int.eq_ofNat_of_zero_le h.1
 have:=h.2
 exact ⟨n,by omega,rfl,varB_nat (by omega)⟩
theorem ent_nums {e:Ty.den TEntry} {l:EntryL} (hl:dirM l=true) (ho:oneSeg l=true) (he:e ∈ l):∀ x ∈ [(e.2.1:Int),e.2.2.1,e.2.2.2.1,e.2.2.2.2.1],NumOk x:=by
 obtain ⟨_,q⟩:=dir_facts hl
 obtain ⟨_,⟨a1,a2⟩,b1,⟨c1,c2⟩,⟨d1,d2⟩⟩:=q e he
 have h2:=List.all_eq_true.1 ho e he
 unfold inSeg at h2
 rw [b_a] at h2
 have b2:LE.le (α:=Int) e.2.2.1 100000:=by
  refine Int.not_lt.1 fun w=>?_
  have:(!decide ((e.2.2.1:Int) > 100000))=false:=by rw [decT w];rfl
  rw [this] at h2
  cases h2.2
 intro x hx
 simp only [List.mem_cons,List.not_mem_nil,or_false] at hx
 rcases hx with rfl | rfl | rfl | rfl
 · exact ⟨by omega,by omega⟩
 · exact ⟨b1,by omega⟩
 · exact ⟨by omega,by omega⟩
 · exact ⟨by omega,d2⟩
theorem entT_form (e:Ty.den TEntry) (h:e.1.size≤8) (t:ByteArray):entT e++t=varT e.1.size++(e.1++(varsT [(e.2.1:Int),e.2.2.1,e.2.2.2.1,e.2.2.2.2.1]++t)):=by
 unfold entT textB
 rw [varB_nat (by omega)]
 simp only [varsT,nil_app,app_assoc]
theorem hint_nums {h:Ty.den THint} (q:hintM h=true):∀ x ∈ [(h.1:Int),h.2.1,(h.2.2.1.length:Int)],NumOk x:=by
 have h20:=(dir_facts (hint_dir q)).1
 unfold hintM at q
 rw [b_a,b_a,decide_eq_true_eq,decide_eq_true_eq] at q
 obtain ⟨⟨a1,a2⟩,⟨b1,b2⟩,_⟩:=q
 intro x hx
 simp only [List.mem_cons,List.not_mem_nil,or_false] at hx
 rcases hx with rfl | rfl | rfl
 · exact ⟨a1,by have:LE.le (α:=Int) h.1 100000:=a2;omega⟩
 · exact ⟨b1,b2⟩
 · exact ⟨by omega,by omega⟩
theorem showHint_form {h:Ty.den THint} (q:hintM h=true):showHintM h=fix4 (crcM (hintT h))++(varsT [(h.1:Int),h.2.1,(h.2.2.1.length:Int)]++entsT h.2.2.1):=by
 unfold showHintM
 rw [if_pos q]
 unfold hintT
 simp only [varsT,nil_app,app_assoc]
theorem fix4_sz (x:Int):(fix4 x).size=4:=rfl
theorem num_t {k:Nat} (hk:2 ^ 50≤k) {r:ByteArray} (b:Bool) (hs:r.size≤1073741824):Tot (impl_scanner__num.f k (r,(b,()))) (fun x=>x.1.1.size≤r.size∧(b=true→x.1.2.1=true)∧(x.1.2.1=false→x.1.1.size<r.size)∧0≤x.2.1∧x.2.1<562949953421312):=by
 cases b with
 | true=>exact tot_of (num_b hk (by omega)) ⟨Nat.le_refl _,fun _=>rfl,fun h=>(by cases h),Int.le_refl _,by show (0:Int)<562949953421312;omega⟩
 | false =>
  rcases rv_cases r with ⟨a,t,ha,rfl⟩ | h
  · have:=varT_size a
    rw [sz_app] at hs
    exact tot_of (num_ok hk ha (by omega)) ⟨by show t.size≤_;rw [sz_app];omega,fun h=>(by cases h),fun _=>by show t.size<_;rw [sz_app];omega,by show (0:Int)≤(a:Int);omega,by show (a:Int)<_;omega⟩
  · exact tot_of (num_bad hk h (by omega)) ⟨Nat.le_refl _,fun h=>(by cases h),fun h=>(by cases h),Int.le_refl _,by show (0:Int)<562949953421312;omega⟩
theorem bytes_t (k:Nat) (r:ByteArray) (b:Bool) {n:Int} (h0:0≤n):Tot (impl_scanner__bytes.f k (r,(b,())) n) (fun x=>x.1.1.size≤r.size∧(b=true→x.1.2.1=true)):=by
 cases b with
 | true=>exact tot_of (bytes_b k r n) ⟨Nat.le_refl _,fun _=>rfl⟩
 | false =>
  by_cases h:n > (r.size:Int)
  · exact tot_of (bytes_bad k h) ⟨Nat.le_refl _,fun _=>rfl⟩
  · have e:=split_at r (n:=n.toNat) (by omega)
    have hz:(ByteArray.extract r 0 n.toNat).size=n.toNat:=by rw [← nb_len,nb_extract,List.length_take,nb_len];omega
    have:=bytes_ok k (ByteArray.extract r 0 n.toNat) (ByteArray.extract r n.toNat r.size)
    rw [← e,hz,show ((n.toNat:Nat):Int)=n by omega] at this
    exact tot_of this ⟨by show (ByteArray.extract r n.toNat r.size).size≤_;rw [ext_size];omega,fun h=>(by cases h)⟩
theorem text_t {k:Nat} (hk:2 ^ 50≤k) {r:ByteArray} (b:Bool) (hs:r.size≤1073741824):Tot (impl_scanner__text.f k (r,(b,()))) (fun x=>x.1.1.size≤r.size∧(b=true→x.1.2.1=true)∧(x.1.2.1=false→x.1.1.size<r.size)):=by
 unfold impl_scanner__text.f impl_scanner__text.t
 refine tot_bind (num_t hk b hs) fun r1 q1=>?_
 obtain ⟨a1,a2,a3,a4,_⟩:=q1
 refine tot_bind (bytes_t k r1.1.1 r1.1.2.1 a4) fun r2 q2=>tot_some ⟨by omega,fun h=>q2.2 (a2 h),fun h=>?_⟩
 cases c:r1.1.2.1 with
 | true=>rw [q2.2 c] at h;cases h
 | false=>have:=a3 c;omega
theorem implRHL_bad {k:Nat} (n:Nat) (s:ByteArray) (c j:Int) (z:EntryL) (z1 z2:Int) (rest:ByteArray) (out:EntryL) (a b:Int):impl_ReadHint.l0 k (n+1) s c j z z1 z2 rest true out a b=some (zHint,(false,())):=by
 simp only [impl_ReadHint.l0,impl_ReadHint.b0]
 cases decide (j<c) <;> rfl
theorem implRH_end {k:Nat} (hk:2 ^ 50≤k) {s:ByteArray} (h4:4≤s.size) {h:Ty.den THint} (hl:h.2.2.1.length≤1073741824):RH s (Option.bind (impl_hintOk.f k h) fun r12=>(bif (!r12.1) then (some ((0,(0,([],()))),(false,()))) else (Option.bind (impl_ShowHint.f k h) fun r13=>(bif (!(seq r13.1 s)) then (some ((0,(0,([],()))),(false,()))) else (some (h,(true,()))))))):=by
 rw [implHintOk_eq hk hl,o_s,implShowHint_eq hk hl,o_s]
 cases hintM h with
 | false=>exact rh_no s
 | true=>exact rh_seq h4 h
theorem implRHL_any {k:Nat} (hk:2 ^ 50≤k) {s:ByteArray} (h4:4≤s.size) (c:Int) (hc:c<562949953421312) (z:EntryL) (z1 z2 a b:Int):∀ (n:Nat) (rest:ByteArray) (j:Int) (out:EntryL),rest.size+2≤n→0≤j→out.length+rest.size≤1073741824 →
 RH s (impl_ReadHint.l0 k n s c j z z1 z2 rest false out a b):=by
 intro n
 induction n with
 | zero=>intro rest j out h1;omega
 | succ n ih =>
  intro rest j out h1 h2 h5
  obtain ⟨n,rfl⟩:∃ q,n=q+1:=⟨n-1,by omega⟩
  simp only [impl_ReadHint.l0]
  unfold impl_ReadHint.b0
  by_cases cj:j<c
  · rw [decT cj,c_t,n_f,c_t]
    obtain ⟨r5,e5,p1,p2,p3⟩:=text_t hk false (r:=rest) (by omega)
    rw [e5,o_s]
    obtain ⟨r6,e6,s1,s2,s3,_⟩:=num_t hk r5.1.2.1 (r:=r5.1.1) (by omega)
    rw [show impl_scanner__num.f k r5.1=_ from e6,o_s]
    obtain ⟨r7,e7,t1,t2,t3,_⟩:=num_t hk r6.1.2.1 (r:=r6.1.1) (by omega)
    rw [show impl_scanner__num.f k r6.1=_ from e7,o_s]
    obtain ⟨r8,e8,u1,u2,u3,_⟩:=num_t hk r7.1.2.1 (r:=r7.1.1) (by omega)
    rw [show impl_scanner__num.f k r7.1=_ from e8,o_s]
    obtain ⟨r9,e9,v1,v2,v3,_⟩:=num_t hk r8.1.2.1 (r:=r8.1.1) (by omega)
    rw [show impl_scanner__num.f k r8.1=_ from e9,o_s,rm_ok (by omega) (by decide),w64_eq (n:=j+1) (by omega) (by omega)]
    cases hb:r9.1.2.1 with
    | true=>exact .inr (implRHL_bad n s c (j+1) z z1 z2 _ _ a b)
    | false =>
     have:=v3 hb
     exact ih r9.1.1 (j+1) _ (by omega) (by omega) (by rw [len_snoc];omega)
  · rw [decF cj,c_f]
    simp only [c_f]
    exact implRH_end hk h4 (h:=(a,(b,(out,())))) (by show out.length≤_;omega)
theorem implRH_small {k:Nat} (hk:2 ^ 50≤k) {s:ByteArray} (h:s.size<4):impl_ReadHint.f k s=some (zHint,(false,())):=by
 unfold impl_ReadHint.f impl_ReadHint.t
 rw [bytes_bad k (by omega),o_s]
 simp only []
 rw [num_b hk (by omega),o_s]
 simp only []
 rw [num_b hk (by omega),o_s]
 simp only []
 rw [num_b hk (by omega),o_s]
 obtain ⟨q,hq⟩:∃ q,k=q+1:=⟨k-1,by omega⟩
 exact (congrArg (fun z=>impl_ReadHint.l0 k z s 0 0 [] 0 0 s true [] 0 0) hq).trans (implRHL_bad q s 0 0 [] 0 0 s [] 0 0)
theorem implRH_any {k:Nat} (hk:2 ^ 50≤k) {s:ByteArray} (hs:s.size≤1073741824):RH s (impl_ReadHint.f k s):=by
 by_cases h4:s.size<4
 · rw [implRH_small hk h4];exact rh_no s
 unfold impl_ReadHint.f impl_ReadHint.t
 obtain ⟨r1,e1,p1,_⟩:=bytes_t k s false (n:=4) (by omega)
 rw [e1,o_s]
 obtain ⟨r2,e2,s1,_,_,_⟩:=num_t hk r1.1.2.1 (r:=r1.1.1) (by omega)
 rw [show impl_scanner__num.f k r1.1=_ from e2,o_s]
 obtain ⟨r3,e3,t1,_,_,_⟩:=num_t hk r2.1.2.1 (r:=r2.1.1) (by omega)
 rw [show impl_scanner__num.f k r2.1=_ from e3,o_s]
 obtain ⟨r4,e4,u1,_,_,u4,u5⟩:=num_t hk r3.1.2.1 (r:=r3.1.1) (by omega)
 rw [show impl_scanner__num.f k r3.1=_ from e4,o_s]
 cases r4.1.2.1 with
 | true =>
  obtain ⟨q,hq⟩:∃ q,k=q+1:=⟨k-1,by omega⟩
  exact .inr ((congrArg (fun z=>impl_ReadHint.l0 k z s r4.2.1 0 [] 0 0 r4.1.1 true [] r2.2.1 r3.2.1) hq).trans (implRHL_bad q s _ 0 [] 0 0 _ [] _ _))
 | false=>exact implRHL_any hk (by omega) r4.2.1 u5 [] 0 0 _ _ k r4.1.1 0 [] (by omega) (by omega) (by simp only [List.length_nil];omega)
theorem implRHL_ok {k:Nat} (hk:2 ^ 50≤k) {h:Ty.den THint} (q:hintM h=true) (z:EntryL) (z1 z2:Int):∀ (r:EntryL) (n:Nat) (j:Int) (out:EntryL),(∀ e ∈ r,e ∈ h.2.2.1)→out++r=h.2.2.1→(out.length:Int)=j→r.length<n →
 impl_ReadHint.l0 k n (showHintM h) (h.2.2.1.length:Int) j z z1 z2 (entsT r) false out h.1 h.2.1=some (h,(true,()))
 | [],n,j,out,hr,ho,hj,hn=>by
  obtain ⟨n,rfl⟩:∃ q,n=q+1:=⟨n-1,by omega⟩
  have h20:=(dir_facts (hint_dir q)).1
  rw [List.append_nil] at ho
  simp only [impl_ReadHint.l0,impl_ReadHint.b0]
  rw [decF (by rw [← hj,ho];omega),c_f,c_f,ho,show (h.1,(h.2.1,(h.2.2.1,())))=h from rfl,implHintOk_eq hk (by omega),o_s,q]
  simp only [n_t,c_f]
  rw [implShowHint_eq hk (by omega),o_s]
  simp only [seq_refl]
  rfl
 | e::r,n,j,out,hr,ho,hj,hn=>by
  obtain ⟨n,rfl⟩:∃ q,n=q+1:=⟨n-1,by omega⟩
  have hlen:h.2.2.1.length=out.length+(r.length+1):=by rw [← ho,l_a,l_c]
  have he:=hr e (m_s ..)
  have hd:=hint_dir q
  have h1:oneSeg h.2.2.1=true:=by unfold hintM at q;rw [b_a,b_a,b_a] at q;exact q.2.2.2
  have hk8:=((dir_facts hd).2 e he).1.2
  have h20:=(dir_facts hd).1
  have hnum:=ent_nums hd h1 he
  have hes:=entsT_size (l:=r) fun x hx=>((dir_facts hd).2 x (hr x (m_m _ hx))).1.2
  obtain ⟨n1,b1,f1,g1⟩:=num_nat (hnum e.2.1 (by simp))
  obtain ⟨n2,b2,f2,g2⟩:=num_nat (hnum e.2.2.1 (by simp))
  obtain ⟨n3,b3,f3,g3⟩:=num_nat (hnum e.2.2.2.1 (by simp))
  obtain ⟨n4,b4,f4,g4⟩:=num_nat (hnum e.2.2.2.2.1 (by simp))
  have v1:=varT_size n1
  have v2:=varT_size n2
  have v3:=varT_size n3
  have v4:=varT_size n4
  have hform:entsT (e::r)=varT e.1.size++(e.1++(varT n1++(varT n2++(varT n3++(varT n4++entsT r))))):=by
   rw [show entsT (e::r)=entT e++entsT r from rfl,entT_form e hk8]
   simp only [varsT,nil_app,app_assoc,g1,g2,g3,g4]
  have ih:=implRHL_ok hk q z z1 z2 r n (j+1) (out++[e]) (fun x hx=>hr x (m_m _ hx)) (by rw [a_a];exact ho) (by rw [len_snoc];omega) (by rw [l_c] at hn;omega)
  have hl20:r.length≤20:=by omega
  rw [hform]
  simp only [impl_ReadHint.l0,impl_ReadHint.b0]
  rw [decT (by omega),c_t,n_f,c_t,text_ok hk (by omega) (by simp only [sz_app];omega),o_s]
  simp only []
  rw [num_ok hk b1 (by simp only [sz_app];omega),o_s]
  simp only []
  rw [num_ok hk b2 (by simp only [sz_app];omega),o_s]
  simp only []
  rw [num_ok hk b3 (by simp only [sz_app];omega),o_s]
  simp only []
  rw [num_ok hk b4 (by omega),o_s]
  simp only []
  rw [rm_ok (by omega) (by decide),w64_eq (n:=j+1) (by omega) (by omega),← f1,← f2,← f3,← f4]
  exact ih
theorem implRH_ok {k:Nat} (hk:2 ^ 50≤k) {h:Ty.den THint} (q:hintM h=true):impl_ReadHint.f k (showHintM h)=some (h,(true,())):=by
 have h20:=(dir_facts (hint_dir q)).1
 have hes:=entsT_size (l:=h.2.2.1) fun x hx=>((dir_facts (hint_dir q)).2 x hx).1.2
 have hnum:=hint_nums q
 obtain ⟨n1,b1,f1,g1⟩:=num_nat (hnum h.1 (by simp))
 obtain ⟨n2,b2,f2,g2⟩:=num_nat (hnum h.2.1 (by simp))
 obtain ⟨n3,b3,f3,g3⟩:=num_nat (hnum (h.2.2.1.length:Int) (by simp))
 have v1:=varT_size n1
 have v2:=varT_size n2
 have v3:=varT_size n3
 have hform:showHintM h=fix4 (crcM (hintT h))++(varT n1++(varT n2++(varT n3++entsT h.2.2.1))):=by
  rw [showHint_form q]
  simp only [varsT,nil_app,app_assoc,g1,g2,g3]
 have hl:=implRHL_ok hk q [] 0 0 h.2.2.1 k 0 [] (fun e he=>he) rfl rfl (by omega)
 unfold impl_ReadHint.f impl_ReadHint.t
 have eb:=bytes_ok k (fix4 (crcM (hintT h))) (varT n1++(varT n2++(varT n3++entsT h.2.2.1)))
 rw [← hform,fix4_sz] at eb
 rw [show impl_scanner__bytes.f k (showHintM h,(false,())) 4=_ from eb,o_s]
 simp only []
 rw [num_ok hk b1 (by simp only [sz_app];omega),o_s]
 simp only []
 rw [num_ok hk b2 (by simp only [sz_app];omega),o_s]
 simp only []
 rw [num_ok hk b3 (by omega),o_s]
 simp only []
 rw [← f1,← f2,← f3]
 exact hl
theorem implReadHint_eq {k:Nat} (hk:2 ^ 50≤k) {s:ByteArray} (hs:s.size≤1073741824):impl_ReadHint.f k s=some ((readHintM s).1,((readHintM s).2,())) :=
 undo_of (fun h h1 h2=>by rw [← h2];exact implRH_ok hk h1) (implRH_any hk hs)
theorem readHint_len {s:ByteArray}:(readHintM s).1.2.2.1.length≤20:=by
 rcases undo_cases (fun h=>hintM h=true) showHintM zHint s with ⟨r,h1,_,e⟩ | e
 · unfold readHintM
   rw [e]
   exact (dir_facts (hint_dir h1)).1
 · unfold readHintM
   rw [e]
   exact Nat.zero_le _
end Go.Proofs.YtmakghhmpgfboaaGreatDoor.G
namespace Go.Proofs.YtmakghhmpgfboaaGreatDoor.G
open Go.V
def zStore:Ty.den TStore:=((0,([],())),([],(0,(0,(0,())))))
noncomputable def segGood (d:Ty.den TDisk) (x:Int) (last:Bool):Bool:=(textM d (namedM segB x)).2&&(last||!decide ((scanM (segT d x)).2<((segT d x).size:Int)))
noncomputable def segsGood (d:Ty.den TDisk):List Int→Bool
 | []=>true
 | x::l=>segGood d x l.isEmpty&&segsGood d l
noncomputable def plOf (d:Ty.den TDisk) (x:Int):PlaceL:=placesM x (scanM (segT d x)).1
noncomputable def plAll (d:Ty.den TDisk):List Int→PlaceL
 | []=>[]
 | x::l=>plOf d x++plAll d l
noncomputable def hintAt (d:Ty.den TDisk) (x:Int):Ty.den THint:=(readHintM (textM d (namedM hintB x)).1).1
noncomputable def hinted (d:Ty.den TDisk) (x:Int):Bool:=(textM d (namedM hintB x)).2&&((readHintM (textM d (namedM hintB x)).1).2&&fitsHintM x (segT d x) (hintAt d x))
noncomputable def groupM (d:Ty.den TDisk) (ids:List Int):Ty.den TGroup :=
 bif hinted d (ids.getD 0 0) then regroupM ((hintAt d (ids.getD 0 0)).2.2.1,((hintAt d (ids.getD 0 0)).2.1,(0,()))) (plAll d (ids.drop 1)) else regroupM ([],(0,(0,()))) (plAll d ids)
noncomputable def storeOf (v:Ty.den TLive) (en:Int) (g:Ty.den TGroup) (hi:Int):Ty.den TStore:=(v,(g.1,(w64 (g.2.1+1),(en,(hi,())))))
noncomputable def endM (v:Ty.den TLive) (en:Int) (x:Ty.den TDisk) (g:Ty.den TGroup) (hi:Int):Ty.den TStore × RD :=
 bif g.2.2.1 != 0 then (zStore,(x,3)) else bif (sweepR v.2.1 x).2 != 0 then (zStore,((sweepR v.2.1 x).1,toldM (sweepR v.2.1 x).2)) else
 (storeOf v en g hi,((sweepR v.2.1 x).1,0))
noncomputable def foundM (v:Ty.den TLive) (d:Ty.den TDisk):Ty.den TStore × RD :=
 bif !segsGood d v.2.1 then (zStore,(d,3)) else
 bif (fixR (lastI v.2.1) d).2 != 0 then (zStore,((fixR (lastI v.2.1) d).1,toldM (fixR (lastI v.2.1) d).2)) else
 endM v (scanM (segT d (lastI v.2.1))).2 (fixR (lastI v.2.1) d).1 (groupM (fixR (lastI v.2.1) d).1 v.2.1) (bif hinted (fixR (lastI v.2.1) d).1 (v.2.1.getD 0 0) then v.2.1.getD 0 0 else 0)
def live1:Ty.den TLive:=(2,([1],()))
noncomputable def firstR (d:Ty.den TDisk):RD:=seqR (seqR (sweepR [] d) fun x=>creM x (namedM segB 1)) (putLiveR live1)
noncomputable def firstM (d:Ty.den TDisk):Ty.den TStore × RD :=
 bif (firstR d).2==0 then ((live1,([],(1,(0,(0,()))))),((firstR d).1,0)) else (zStore,((firstR d).1,toldM (firstR d).2))
noncomputable def openM (d:Ty.den TDisk):Ty.den TStore × RD :=
 bif !diskM d then (zStore,(d,4)) else bif d.2.2.2.1 then (zStore,(d,1)) else
 bif !(textM d liveB).2 then firstM d else
 bif !(readLiveM (textM d liveB).1).2 then (zStore,(d,3)) else foundM (readLiveM (textM d liveB).1).1 d
def oS (q:Ty.den TStore × RD):Ty.den TStore × Ty.den TDisk × Int × Unit:=(q.1,(q.2.1,(q.2.2,())))
theorem segT_size {d:Ty.den TDisk} (h:DR d) (x:Int):(segT d x).size≤100000:=by
 have:=textM_size d (namedM segB x)
 have h2:=h.use
 have h3:=h.cap1
 unfold segT
 omega
theorem plOf_len {d:Ty.den TDisk} (h:DR d) (x:Int):(plOf d x).length≤100000:=by
 have h1:=segT_size h x
 have h2:=scanM_len (segT d x)
 unfold plOf
 rw [placesM_len]
 omega
theorem plAll_len {d:Ty.den TDisk} (h:DR d):∀ l:List Int,(plAll d l).length≤100000*l.length
 | []=>Nat.zero_le _
 | x::l=>by
  have h1:=plOf_len h x
  have h2:=plAll_len h l
  unfold plAll
  rw [l_a,l_c]
  omega
end Go.Proofs.YtmakghhmpgfboaaGreatDoor.G
namespace Go.Proofs.YtmakghhmpgfboaaGreatDoor.G
open Go.V
noncomputable def lastEnd (d:Ty.den TDisk):Int→List Int→Int
 | e,[]=>e
 | _,x::l=>lastEnd d (scanM (segT d x)).2 l
theorem lastEnd_is (d:Ty.den TDisk):∀ (l:List Int) (e:Int),l≠[]→lastEnd d e l=(scanM (segT d (l.getD (l.length-1) 0))).2
 | [],e,h=>absurd rfl h
 | [x],e,_=>rfl
 | x::y::l,e,_=>by
  show lastEnd d (scanM (segT d x)).2 (y::l)=_
  rw [lastEnd_is d (y::l) _ (by simp)]
  rfl
def flatP:List PlaceL→PlaceL
 | []=>[]
 | a::l=>a++flatP l
theorem flat_map (d:Ty.den TDisk):∀ l:List Int,flatP (l.map (plOf d))=plAll d l
 | []=>rfl
 | x::l=>by show plOf d x++flatP (l.map (plOf d))=plOf d x++plAll d l;rw [flat_map d l]
theorem plAll_same {d x:Ty.den TDisk} (h:∀ s,scanM (textM x s).1=scanM (textM d s).1):∀ l:List Int,plAll x l=plAll d l
 | []=>rfl
 | y::l=>by
  unfold plAll plOf segT
  rw [h,plAll_same h l]
theorem implScanAll_eq {k:Nat} (hk:2 ^ 50≤k) (r:RD) (h:DR r.1) {v:Ty.den TLive} (hv:v.2.1.length≤60):impl_worker__scanAll.f k (wO r) v =
 some (wO r,(bif segsGood r.1 v.2.1 then (v.2.1.map (plOf r.1),(lastEnd r.1 0 v.2.1,(true,()))) else ([],(0,(false,()))))):=by
 have hl:=h.sz.l
 have hu:=h.sz.u
 have hn:=h.sz.n
 unfold impl_worker__scanAll.f impl_worker__scanAll.t
 refine (forL0 (L:=fun n i (s:Int × List PlaceL)=>impl_worker__scanAll.l0 k n s.1 v.2.1 v.2.1.length i r.1.1 r.1.2.1 r.1.2.2.1 r.1.2.2.2.1 r.2 v.1 v.2.1 s.2) (R:=fun q s=>some (wO r,(bif segsGood r.1 q then (s.2++q.map (plOf r.1),(lastEnd r.1 s.1 q,(true,()))) else ([],(0,(false,())))))) (Ty.dflt (.int .i64)) v.2.1 (fun i s=>(s.2.length:Int)≤i) (fun n s hs=>?_) (fun n i s y rest h0 h1 hy hr hs ih=>?_) (n:=k) (s:=(0,[])) (by omega) (by simp)).trans (by rw [List.nil_append])
 · simp only [impl_worker__scanAll.l0,impl_worker__scanAll.b0]
   rw [decF (by omega),c_f,show segsGood r.1 []=true from rfl,List.map_nil,List.append_nil]
   rfl
 · have hsy:=segT_size h y
   have hsc:=scanM_len (segT r.1 y)
   have hlast:=last_iff h0 hr
   have ih:=ih ((scanM (segT r.1 y)).2,s.2++[plOf r.1 y]) (by simp only [len_snoc];omega)
   simp only [] at ih hs
   simp only [impl_worker__scanAll.l0,impl_worker__scanAll.b0]
   rw [decT h1,c_t,inb_eq h0 h1,hy,implSegName_eq k,o_s]
   simp only []
   rw [show (r.1.1,(r.1.2.1,(r.1.2.2.1,(r.1.2.2.2.1,()))))=r.1 from rfl,implText_eq hk (by omega) (by omega) (by omega),o_s]
   simp only [show (textM r.1 (namedM segB y)).1=segT r.1 y from rfl]
   rw [implScan_eq hk (by omega),o_s]
   simp only []
   rw [implPlaced_eq hk y (by omega),o_s]
   simp only []
   rw [rm_ok (by omega) (by decide),w64_eq (n:=i+1) (by omega) (by omega),w64_eq (n:=(v.2.1.length:Int)-1) (by omega) (by omega)]
   rw [show placesM y (scanM (segT r.1 y)).1=plOf r.1 y from rfl,ih]
   rw [show segsGood r.1 (y::rest)=(segGood r.1 y rest.isEmpty&&segsGood r.1 rest) from rfl]
   unfold segGood
   rw [hlast]
   have e1:((scanM (segT r.1 y)).2 != ((segT r.1 y).size:Int))=decide ((scanM (segT r.1 y)).2<((segT r.1 y).size:Int)):=by
    by_cases q:(scanM (segT r.1 y)).2<((segT r.1 y).size:Int)
    · rw [decT q];exact bne_iff_ne.2 (by omega)
    · rw [decF q]
      have:(scanM (segT r.1 y)).2=((segT r.1 y).size:Int):=by omega
      rw [this]
      simp
   rw [e1]
   have e2:decide (i<(v.2.1.length:Int)-1)=!decide (i+1=(v.2.1.length:Int)):=by
    by_cases q:i+1=(v.2.1.length:Int)
    · rw [decT q,decF (by omega)];rfl
    · rw [decF q,decT (by omega)];rfl
   rw [e2]
   have e3:s.2++[plOf r.1 y]++rest.map (plOf r.1)=s.2++(y::rest).map (plOf r.1):=by rw [a_a];rfl
   rw [e3]
   cases (textM r.1 (namedM segB y)).2 with
   | false=>rfl
   | true =>
    cases decide (i+1=(v.2.1.length:Int)) with
    | true=>rfl
    | false=>cases decide ((scanM (segT r.1 y)).2<((segT r.1 y).size:Int)) <;> rfl
theorem implHinted_eq {k:Nat} (hk:2 ^ 50≤k) (r:RD) (h:DR r.1) (id:Int):impl_worker__hinted.f k (wO r) id =
 some (wO r,((bif hinted r.1 id then ((hintAt r.1 id).2.2.1,((hintAt r.1 id).2.1,(0,()))) else ([],(0,(0,())))),(hinted r.1 id,()))):=by
 have hl:=h.sz.l
 have hu:=h.sz.u
 have hn:=h.sz.n
 have ht:=textM_size r.1 (namedM hintB id)
 have hs:=segT_size h id
 unfold impl_worker__hinted.f impl_worker__hinted.t hinted hintAt
 rw [implHintName_eq,o_s]
 simp only [show (wO r).1=r.1 from rfl]
 rw [implText_eq hk (by omega) (by omega) (by omega),o_s]
 simp only []
 rw [implReadHint_eq hk (by omega),o_s,implSegName_eq,o_s]
 simp only []
 rw [implText_eq hk (by omega) (by omega) (by omega),o_s]
 simp only [show (textM r.1 (namedM segB id)).1=segT r.1 id from rfl]
 rw [implHintFits_eq hk _ (by omega),o_s]
 simp only []
 cases (textM r.1 (namedM hintB id)).2 with
 | false=>rfl
 | true =>
  cases (readHintM (textM r.1 (namedM hintB id)).1).2 with
  | false=>rfl
  | true=>cases fitsHintM id (segT r.1 id) (readHintM (textM r.1 (namedM hintB id)).1).1 <;> rfl
def finI (k:Nat) (v:Ty.den TLive) (en:Int) (x:Ty.den TDisk) (hi:Int) (dir:EntryL) (la:Int) (pl:PlaceL):Option (Ty.den Tworker × Ty.den TStore × Unit) :=
 (Option.bind (impl_Regroup.f k (dir,(la,(0,()))) pl) fun r9=>(bif (r9.1.2.2.1 != 0) then (some ((x,(3,())),(zStore,()))) else
 (Option.bind (impl_worker__orphans.f k (x,(0,())) v) fun r10=>(some (r10.1,((v,(r9.1.1,((w64 (r9.1.2.1+1)),(en,(hi,()))))),()))))))
def OkI (q:Ty.den TStore × RD) (o:Option (Ty.den Tworker × Ty.den TStore × Unit)):Prop:=∃ st,o=some (wO q.2,(st,()))∧(q.2.2=0→st=q.1)∧(q.2.2≠0→q.1=zStore)
theorem toldM_ne {c:Int} (h:(c==0)=false):toldM c≠0:=fun q=>by
 have:=toldM_zero c
 rw [q,h] at this
 cases this
theorem finI_eq {k:Nat} (hk:2 ^ 50≤k) {v:Ty.den TLive} (hv:v.2.1.length≤60) (en:Int) {x:Ty.den TDisk} (h:DR x) (hi:Int) {dir:EntryL} (hd:dir.length≤1000) (la:Int) {pl:PlaceL} (hp:pl.length≤100000000) :
 OkI (endM v en x (regroupM (dir,(la,(0,()))) pl) hi) (finI k v en x hi dir la pl):=by
 unfold finI endM
 rw [implRegroup_eq hk _ (by omega) (by show dir.length≤_;omega),o_s]
 simp only [bne]
 cases (regroupM (dir,(la,(0,()))) pl).2.2.1==0 with
 | false=>exact ⟨zStore,rfl,fun q=>(by cases q),fun _=>rfl⟩
 | true =>
  simp only [n_t,c_f]
  rw [show impl_worker__orphans.f k (x,(0,())) v=_ from implW_orph hk (x,0) h (by omega),o_s]
  cases c:(sweepR v.2.1 x).2==0 with
  | true =>
   refine ⟨storeOf v en (regroupM (dir,(la,(0,()))) pl) hi,?_,fun _=>rfl,fun q=>absurd rfl q⟩
   show some (wO (wk (sweepR v.2.1) (x,0)),_)=some (wO ((sweepR v.2.1 x).1,0),_)
   unfold wk
   simp only [beq_self_eq_true,c_t]
   rw [q_t c]
   rfl
  | false=>exact ⟨_,rfl,fun q=>absurd q (toldM_ne c),fun _=>rfl⟩
theorem implF0 {k:Nat} (hk:2 ^ 50≤k) {v:Ty.den TLive} (en:Int) (x:Ty.den TDisk) (hi:Int) (dir:EntryL) (la:Int) {al:List PlaceL} (hal:∀ a ∈ al,a.length≤100000) (hz:al.length≤60) :
 impl_worker__found.l0 k k al al.length 0 x.1 x.2.1 x.2.2.1 x.2.2.2.1 0 [] [] 0 0 0 0 v.2.1 v.1 [] v.1 0 en hi dir la 0 []=finI k v en x hi dir la (flatP al):=by
 refine (forL0 (L:=fun n i pl=>impl_worker__found.l0 k n al al.length i x.1 x.2.1 x.2.2.1 x.2.2.2.1 0 [] [] 0 0 0 0 v.2.1 v.1 [] v.1 0 en hi dir la 0 pl) (R:=fun r pl=>finI k v en x hi dir la (pl++flatP r)) (Ty.dflt (.slice TPlace)) al (fun i pl=>(pl.length:Int)≤100000*i) (fun n pl hp=>?_) (fun n i pl y rest h0 h1 hy hr hp ih=>?_) (n:=k) (s:=[]) (by omega) (by simp)).trans (by rw [List.nil_append])
 · simp only [impl_worker__found.l0,impl_worker__found.b0]
   rw [decF (by omega),c_f,show flatP []=[] from rfl,List.append_nil]
   rfl
 · have hy2:y.length≤100000:=hal y (by rw [← hy];exact getD_mem (by omega))
   have ih:=ih (pl++y) (by rw [l_a];omega)
   simp only [impl_worker__found.l0,impl_worker__found.b0]
   rw [decT h1,c_t,inb_eq h0 h1,hy,rm_ok (by omega) (by decide),w64_eq (n:=i+1) (by omega) (by omega)]
   refine ih.trans ?_
   rw [a_a]
   rfl
theorem implF1 {k:Nat} (hk:2 ^ 50≤k) {v:Ty.den TLive} (en:Int) (x:Ty.den TDisk) (hi:Int) (dir:EntryL) (la:Int) {al:List PlaceL} (hal:∀ a ∈ al,a.length≤100000) (hz:al.length≤60) :
 impl_worker__found.l1 k k al.length 0 x.1 x.2.1 x.2.2.1 x.2.2.2.1 0 [] [] 0 0 0 0 v.2.1 v.1 [] v.1 0 en hi dir la 0 [] al=finI k v en x hi dir la (flatP al):=by
 refine (forL0 (L:=fun n i pl=>impl_worker__found.l1 k n al.length i x.1 x.2.1 x.2.2.1 x.2.2.2.1 0 [] [] 0 0 0 0 v.2.1 v.1 [] v.1 0 en hi dir la 0 pl al) (R:=fun r pl=>finI k v en x hi dir la (pl++flatP r)) (Ty.dflt (.slice TPlace)) al (fun i pl=>(pl.length:Int)≤100000*i) (fun n pl hp=>?_) (fun n i pl y rest h0 h1 hy hr hp ih=>?_) (n:=k) (s:=[]) (by omega) (by simp)).trans (by rw [List.nil_append])
 · simp only [impl_worker__found.l1,impl_worker__found.b1]
   rw [decF (by omega),c_f,show flatP []=[] from rfl,List.append_nil]
   rfl
 · have hy2:y.length≤100000:=hal y (by rw [← hy];exact getD_mem (by omega))
   have ih:=ih (pl++y) (by rw [l_a];omega)
   simp only [impl_worker__found.l1,impl_worker__found.b1]
   rw [decT h1,c_t,inb_eq h0 h1,hy,rm_ok (by omega) (by decide),w64_eq (n:=i+1) (by omega) (by omega)]
   refine ih.trans ?_
   rw [a_a]
   rfl
theorem implF20 (k:Nat):∀ n,impl_worker__found.l2 k n=impl_worker__found.l0 k n
 | 0=>rfl
 | n+1=>by show impl_worker__found.b2 k (impl_worker__found.l2 k n)=impl_worker__found.b0 k (impl_worker__found.l0 k n);rw [implF20 k n];rfl
theorem implF31 (k:Nat):∀ n,impl_worker__found.l3 k n=impl_worker__found.l1 k n
 | 0=>rfl
 | n+1=>by show impl_worker__found.b3 k (impl_worker__found.l3 k n)=impl_worker__found.b1 k (impl_worker__found.l1 k n);rw [implF31 k n];rfl
theorem implTail {k:Nat} (hk:2 ^ 50≤k) {v:Ty.den TLive} (hv:liveM v=true) {d:Ty.den TDisk} (h:DR d) (en:Int) {x:Ty.den TDisk} (hx:DR x) (hsame:∀ s,scanM (textM x s).1=scanM (textM d s).1) :
 OkI (endM v en x (groupM x v.2.1) (bif hinted x (v.2.1.getD 0 0) then v.2.1.getD 0 0 else 0))
  (inb 0 (List.length v.2.1:Int) (Option.bind (impl_worker__hinted.f k (x,(0,())) (List.getD v.2.1 0 (Ty.dflt (.int .i64)))) fun r8 =>
   (bif r8.2.2.1 then (inb 0 (List.length v.2.1:Int) (inc 1 (List.length (v.2.1.map (plOf d)):Int)
    (impl_worker__found.l0 k k (List.drop 1 (v.2.1.map (plOf d))) (List.length (List.drop 1 (v.2.1.map (plOf d))):Int) 0 r8.1.1.1 r8.1.1.2.1 r8.1.1.2.2.1 r8.1.1.2.2.2.1 r8.1.2.1 [] [] 0 0 0 0 v.2.1 v.1 [] v.1 0 en (List.getD v.2.1 0 (Ty.dflt (.int .i64))) r8.2.1.1 r8.2.1.2.1 r8.2.1.2.2.1 [])))
   else (impl_worker__found.l1 k k (List.length (v.2.1.map (plOf d)):Int) 0 r8.1.1.1 r8.1.1.2.1 r8.1.1.2.2.1 r8.1.1.2.2.2.1 r8.1.2.1 [] [] 0 0 0 0 v.2.1 v.1 [] v.1 0 en 0 r8.2.1.1 r8.2.1.2.1 r8.2.1.2.2.1 [] (v.2.1.map (plOf d)))))):=by
 obtain ⟨_,_,hv1,hv2,_⟩:=live_facts (nx:=v.1) (ids:=v.2.1) hv
 have hpa:=plAll_len hx (v.2.1.drop 1)
 have hpb:=plAll_len hx v.2.1
 rw [List.length_drop] at hpa
 have hh:=readHint_len (s:=(textM x (namedM hintB (v.2.1.getD 0 0))).1)
 have hal:∀ a ∈ v.2.1.map (plOf d),a.length≤100000:=fun a ha=>by
  obtain ⟨y,_,rfl⟩:=List.mem_map.1 ha
  exact plOf_len h y
 rw [inb_eq (by omega) (by omega),show List.getD v.2.1 0 (Ty.dflt (.int .i64))=v.2.1.getD 0 0 from rfl,show impl_worker__hinted.f k (x,(0,())) (v.2.1.getD 0 0)=_ from implHinted_eq hk (x,0) hx (v.2.1.getD 0 0),o_s]
 unfold groupM
 cases hinted x (v.2.1.getD 0 0) with
 | true =>
  simp only [c_t]
  rw [inb_eq (by omega) (by omega),inc_eq (by omega) (by rw [List.length_map];omega)]
  have:=finI_eq hk hv2 en hx (v.2.1.getD 0 0) (dir:=(hintAt x (v.2.1.getD 0 0)).2.2.1) (by show (readHintM _).1.2.2.1.length≤_;omega) (hintAt x (v.2.1.getD 0 0)).2.1 (pl:=plAll x (v.2.1.drop 1)) (by omega)
  rw [← List.map_drop]
  rw [plAll_same hsame,← flat_map] at this
  have e:=implF0 hk (v:=v) en x (v.2.1.getD 0 0) (hintAt x (v.2.1.getD 0 0)).2.2.1 (hintAt x (v.2.1.getD 0 0)).2.1 (al:=(v.2.1.drop 1).map (plOf d)) (fun a ha=>by
   obtain ⟨y,_,rfl⟩:=List.mem_map.1 ha
   exact plOf_len h y) (by rw [List.length_map,List.length_drop];omega)
  rw [← e] at this
  rw [plAll_same hsame,← flat_map]
  exact this
 | false =>
  simp only [c_f]
  have:=finI_eq hk hv2 en hx 0 (dir:=[]) (by simp) 0 (pl:=plAll x v.2.1) (by omega)
  rw [plAll_same hsame,← flat_map] at this
  have e:=implF1 hk (v:=v) en x 0 [] 0 (al:=v.2.1.map (plOf d)) hal (by rw [List.length_map];omega)
  rw [← e] at this
  rw [plAll_same hsame,← flat_map]
  exact this
theorem implFound_eq {k:Nat} (hk:2 ^ 50≤k) {d:Ty.den TDisk} (h:DR d) {t:ByteArray} (ht:t.size≤1099511627776) :
 OkI (bif !(readLiveM t).2 then (zStore,(d,3)) else foundM (readLiveM t).1 d) (impl_worker__found.f k (d,(0,())) t):=by
 have hl:=h.sz.l
 have hu:=h.sz.u
 have hn:=h.sz.n
 unfold impl_worker__found.f impl_worker__found.t
 rw [implReadLive_eq hk ht,o_s]
 rcases undo_cases (fun v=>liveM v=true) showLiveM ((0,([],())):Ty.den TLive) t with ⟨v,h1,_,e⟩ | e
 · rw [show readLiveM t=(v,true) from e]
   obtain ⟨_,_,hv1,hv2,_⟩:=live_facts (nx:=v.1) (ids:=v.2.1) h1
   simp only [n_t,c_f]
   rw [show impl_worker__scanAll.f k (d,(0,())) v=_ from implScanAll_eq hk (d,0) h hv2,o_s]
   simp only []
   unfold foundM
   cases segsGood d v.2.1 with
   | false=>exact ⟨zStore,rfl,fun q=>(by cases q),fun _=>rfl⟩
   | true =>
    have hs:=segT_size h (lastI v.2.1)
    have hsc:=scanM_len (segT d (lastI v.2.1))
    have w:w64 ((v.2.1.length:Int)-1)=((v.2.1.length-1:Nat):Int):=by rw [w64_eq (by omega) (by omega)];omega
    simp only [n_t,c_f,c_t]
    rw [lastEnd_is d v.2.1 0 (by intro q;rw [q] at hv1;exact absurd hv1 (by decide)),w,n_n,inb_eq (by omega) (by omega),show List.getD v.2.1 (v.2.1.length-1) (Ty.dflt (.int .i64))=lastI v.2.1 from rfl,show v.2.1.getD (v.2.1.length-1) 0=lastI v.2.1 from rfl,implSegName_eq,o_s]
    simp only [show (wO (d,0)).1=d from rfl]
    rw [implText_eq hk (by omega) (by omega) (by omega),o_s,implF20,implF31]
    simp only [show (textM d (namedM segB (lastI v.2.1))).1=segT d (lastI v.2.1) from rfl]
    have fx:=fix_DR (lastI v.2.1) h
    have ft:=fun c s=>(fix_text h (x:=lastI v.2.1) c s).2
    generalize hen:(scanM (segT d (lastI v.2.1))).2=en at *
    by_cases q:en<((segT d (lastI v.2.1)).size:Int)
    · have ef:fixR (lastI v.2.1) d=seqR (truM d (namedM segB (lastI v.2.1)) en) fun y=>synM y (namedM segB (lastI v.2.1)):=by
       unfold fixR
       rw [hen,decT q]
       rfl
      rw [show (((segT d (lastI v.2.1)).size:Int) != en)=true from bne_iff_ne.2 (by omega),c_t,implTru_eq hk h.sz,o_s]
      simp only []
      rw [took_eq,o_s]
      simp only []
      have h2:=tru_DR h (namedM segB (lastI v.2.1)) en
      rw [show impl_worker__sync.f k ((truM d (namedM segB (lastI v.2.1)) en).1,(toldM (truM d (namedM segB (lastI v.2.1)) en).2,())) (namedM segB (lastI v.2.1))=_ from implW_syn hk ((truM d (namedM segB (lastI v.2.1)) en).1,toldM (truM d (namedM segB (lastI v.2.1)) en).2) h2 _,o_s]
      have e2:wk (fun x=>synM x (namedM segB (lastI v.2.1))) ((truM d (namedM segB (lastI v.2.1)) en).1,toldM (truM d (namedM segB (lastI v.2.1)) en).2)=((fixR (lastI v.2.1) d).1,toldM (fixR (lastI v.2.1) d).2):=by
       have:=wk_seq (fun x=>truM x (namedM segB (lastI v.2.1)) en) (fun x=>synM x (namedM segB (lastI v.2.1))) (d,0)
       rw [show wk (fun x=>truM x (namedM segB (lastI v.2.1)) en) (d,0)=((truM d (namedM segB (lastI v.2.1)) en).1,toldM (truM d (namedM segB (lastI v.2.1)) en).2) from rfl] at this
       rw [← this,ef]
       rfl
      rw [e2]
      simp only [bne,show (wO ((fixR (lastI v.2.1) d).1,toldM (fixR (lastI v.2.1) d).2)).2.1=toldM (fixR (lastI v.2.1) d).2 from rfl,toldM_zero]
      cases c:(fixR (lastI v.2.1) d).2==0 with
      | false=>exact ⟨zStore,rfl,fun q=>absurd q (toldM_ne c),fun _=>rfl⟩
      | true =>
       simp only [n_t,c_f]
       have c0:=q_t c
       rw [c0]
       exact implTail hk h1 h en fx (ft c0)
    · have ef:fixR (lastI v.2.1) d=synM d (namedM segB (lastI v.2.1)):=by
       unfold fixR
       rw [hen,decF q]
       rfl
      rw [show (((segT d (lastI v.2.1)).size:Int) != en)=false by rw [show ((segT d (lastI v.2.1)).size:Int)=en by omega];simp,c_f,implW_syn hk (d,0) h,o_s]
      have e2:wk (fun x=>synM x (namedM segB (lastI v.2.1))) (d,0)=((fixR (lastI v.2.1) d).1,toldM (fixR (lastI v.2.1) d).2):=by rw [ef];rfl
      rw [e2]
      simp only [bne,show (wO ((fixR (lastI v.2.1) d).1,toldM (fixR (lastI v.2.1) d).2)).2.1=toldM (fixR (lastI v.2.1) d).2 from rfl,toldM_zero]
      cases c:(fixR (lastI v.2.1) d).2==0 with
      | false=>exact ⟨zStore,rfl,fun q=>absurd q (toldM_ne c),fun _=>rfl⟩
      | true =>
       simp only [n_t,c_f]
       have c0:=q_t c
       rw [c0]
       exact implTail hk h1 h en fx (ft c0)
 · rw [show readLiveM t=((0,([],())),false) from e]
   simp only [n_f,c_t]
   rw [show impl_worker__scanAll.f k (d,(0,())) ((0,([],())):Ty.den TLive)=_ from implScanAll_eq hk (d,0) h (by decide),o_s]
   exact ⟨zStore,rfl,fun q=>(by cases q),fun _=>rfl⟩
theorem implFirst_eq {k:Nat} (hk:2 ^ 50≤k) {d:Ty.den TDisk} (h:DR d):OkI (firstM d) (impl_worker__first.f k (d,(0,()))):=by
 have h1:=wk_DR (r:=((d,0):RD)) h (sweep_DR [])
 have hn:=named_small (.inl rfl:segB=segB∨segB=hintB) 1
 have h2:=wk_DR h1 fun x hx=>cre_DR hx (namedM segB 1)
 unfold impl_worker__first.f impl_worker__first.t
 rw [show impl_worker__orphans.f k (d,(0,())) ((0,([],())):Ty.den TLive)=_ from implW_orph hk (d,0) h (v:=(0,([],()))) (by decide),o_s,implSegName_eq,o_s]
 simp only [show ((0,(([]:List Int),())):Ty.den TLive).2.1=[] from rfl]
 rw [implW_cre hk _ h1 (by omega),o_s]
 simp only []
 rw [show ((2,([1],())):Ty.den TLive)=live1 from rfl,implW_putLive hk _ h2 (by decide),o_s,← wk_seq (sweepR []) (fun x=>creM x (namedM segB 1)),← wk_seq]
 unfold firstM
 refine ⟨(live1,([],(1,(0,(0,()))))),?_,?_,?_⟩
 · cases c:(firstR d).2==0 with
   | true =>
    show some (wO ((firstR d).1,toldM (firstR d).2),_)=some (wO ((firstR d).1,0),_)
    rw [q_t c]
    rfl
   | false=>rfl
 · cases c:(firstR d).2==0 with
   | true=>intro _;rfl
   | false=>intro q;exact absurd q (toldM_ne c)
 · cases c:(firstR d).2==0 with
   | true=>intro q;exact absurd rfl q
   | false=>intro _;rfl
theorem implOpen_eq {k:Nat} (hk:2 ^ 50≤k) {d:Ty.den TDisk} (hd:DSz d):impl_Open.f k d=some (oS (openM d)):=by
 have hl:=hd.l
 have hu:=hd.u
 have hn:=hd.n
 unfold impl_Open.f impl_Open.t openM
 rw [implCopyD_eq k hl,o_s,implDisk_eq hk (by omega) (by omega),o_s]
 cases c:diskM d with
 | false=>rfl
 | true =>
  have h:=disk_iff.1 c
  have fin:∀ (q:Ty.den TStore × RD) (o:Option (Ty.den Tworker × Ty.den TStore × Unit)),OkI q o→(Option.bind o fun r4=>(bif (r4.1.2.1 != 0) then (some (zStore,r4.1)) else (some (r4.2.1,(r4.1.1,(0,()))))))=some (oS q):=fun q o hq=>by
   obtain ⟨st,e,a,b⟩:=hq
   rw [e,o_s]
   simp only [bne,show (wO q.2).2.1=q.2.2 from rfl]
   cases cq:q.2.2==0 with
   | true =>
    have z:=q_t cq
    rw [a z]
    show some (q.1,(q.2.1,(0,())))=some (q.1,(q.2.1,(q.2.2,())))
    rw [z]
   | false =>
    rw [n_f,c_t]
    show some (zStore,(q.2.1,(q.2.2,())))=some (q.1,(q.2.1,(q.2.2,())))
    rw [b (fun z=>by rw [z] at cq;cases cq)]
  simp only [n_t,c_f]
  cases cdn:d.2.2.2.1 with
  | true=>rfl
  | false =>
   simp only [c_f]
   rw [show (⟨#[108,105,118,101]⟩:ByteArray)=liveB from rfl,implText_eq hk (by omega) (by omega) (by omega),o_s]
   simp only []
   cases (textM d liveB).2 with
   | false =>
    simp only [n_f,c_t,c_f]
    exact fin _ _ (implFirst_eq hk h)
   | true =>
    have hz:=textM_size d liveB
    simp only [n_t,c_f,c_t]
    exact fin _ _ (implFound_eq hk h (by omega))
end Go.Proofs.YtmakghhmpgfboaaGreatDoor.G
namespace Go.Proofs.YtmakghhmpgfboaaGreatDoor.G
open Go.V
theorem end_facts (v:Ty.den TLive) (en:Int) {x:Ty.den TDisk} (h:DR x) {g:Ty.den TGroup} (hg:g.1.length≤268435456) (hi:Int):DR (endM v en x g hi).2.1∧(endM v en x g hi).1.2.1.length≤268435456:=by
 have hs:=sweep_DR v.2.1 x h
 unfold endM
 cases g.2.2.1 != 0 with
 | true=>exact ⟨h,Nat.zero_le _⟩
 | false =>
  cases (sweepR v.2.1 x).2 != 0 with
  | true=>exact ⟨hs,Nat.zero_le _⟩
  | false=>exact ⟨hs,hg⟩
theorem group_len {x:Ty.den TDisk} (h:DR x) {ids:List Int} (hl:ids.length≤60):(groupM x ids).1.length≤268435456:=by
 have hpa:=plAll_len h (ids.drop 1)
 have hpb:=plAll_len h ids
 rw [List.length_drop] at hpa
 have hh:=readHint_len (s:=(textM x (namedM hintB (ids.getD 0 0))).1)
 unfold groupM
 cases hinted x (ids.getD 0 0)
 · exact regroupM_len (by omega) (by simp)
 · exact regroupM_len (by omega) (by show (hintAt x (ids.getD 0 0)).2.2.1.length≤_;unfold hintAt;omega)
theorem open_facts {d:Ty.den TDisk} (h:DR d):DR (openM d).2.1∧(openM d).1.2.1.length≤268435456:=by
 unfold openM
 rw [disk_iff.2 h]
 simp only [n_t,c_f]
 cases d.2.2.2.1 with
 | true=>exact ⟨h,Nat.zero_le _⟩
 | false =>
  simp only [c_f]
  cases (textM d liveB).2 with
  | false =>
   simp only [n_f,c_t]
   have hf:DR (firstR d).1:=seqR_DR (seqR_DR (sweep_DR [] d h) fun x hx=>cre_DR hx _) (putLive_DR live1)
   unfold firstM
   cases (firstR d).2==0 with
   | true=>exact ⟨hf,Nat.zero_le _⟩
   | false=>exact ⟨hf,Nat.zero_le _⟩
  | true =>
   simp only [n_t,c_f]
   rcases undo_cases (fun v=>liveM v=true) showLiveM ((0,([],())):Ty.den TLive) (textM d liveB).1 with ⟨v,h1,_,e⟩ | e
   · rw [show readLiveM (textM d liveB).1=(v,true) from e]
     obtain ⟨_,_,hv1,hv2,_⟩:=live_facts (nx:=v.1) (ids:=v.2.1) h1
     simp only [n_t,c_f]
     have fx:=fix_DR (lastI v.2.1) h
     unfold foundM
     cases segsGood d v.2.1 with
     | false=>exact ⟨h,Nat.zero_le _⟩
     | true =>
      simp only [n_t,c_f]
      cases (fixR (lastI v.2.1) d).2 != 0 with
      | true=>exact ⟨fx,Nat.zero_le _⟩
      | false=>exact end_facts v _ fx (group_len fx hv2) _
   · rw [show readLiveM (textM d liveB).1=((0,([],())),false) from e]
     exact ⟨h,Nat.zero_le _⟩
end Go.Proofs.YtmakghhmpgfboaaGreatDoor.G
namespace Go.Proofs.YtmakghhmpgfboaaGreatDoor.G
open Go.V
def newD (n:Int):Ty.den TDisk:=([],(n,(-1,(false,()))))
theorem newD_DR {n:Int} (h0:0≤n) (h1:n≤100000):DR (newD n) :=
 ⟨Nat.zero_le _,h0,h1,show LE.le (α:=Int) (-1) (-1) from Int.le_refl _,show LE.le (α:=Int) (-1) 100000 by decide,h0,fun f hf=>(by cases hf),List.Pairwise.nil⟩
theorem write_keep {st:Ty.den TStore} {d:Ty.den TDisk} {l:PutL} (h:SR st (d,0) 100000) (hp:putsOk l=true) (hd:st.2.1.length≤20) :
 DR (writeR st d l).2.1∧(writeR st d l).1.1.2.1.length≤60∧(writeR st d l).1.2.1.length≤268435456:=by
 have h8:=putsOk_len hp
 obtain ⟨g1,g2,g3⟩:=adds_facts (recsM l st.2.2.1) (batS st) d [] 100000 ⟨h.live,h.disk,h.lo,h.hi⟩ (by decide)
 unfold writeR
 generalize addsR (recsM l st.2.2.1) (batS st) d []=q at g1 g2 g3 ⊢
 have e2:q.1.1.2.1=st.2.1:=g2
 obtain ⟨_,_,_,hi,_⟩:=live_facts (nx:=q.1.1.1.1) (ids:=q.1.1.1.2.1) g1.live
 have hs:=syn_DR g1.disk (actB q.1.1)
 unfold endR
 cases q.1.2.2 != 0 with
 | true=>exact ⟨g1.disk,hi,by show q.1.1.2.1.length≤_;rw [e2];omega⟩
 | false =>
  simp only [c_f]
  generalize synM q.1.2.1 (actB q.1.1)=y at hs ⊢
  cases y.2 != 0 with
  | true=>exact ⟨hs,hi,by show q.1.1.2.1.length≤_;rw [e2];omega⟩
  | false =>
   refine ⟨hs,hi,?_⟩
   show (applyM q.1.1.2.1 (q.2.take l.length)).length≤_
   have:=applyM_len (q.2.take l.length) q.1.1.2.1
   rw [e2] at this ⊢
   rw [List.length_take] at this
   omega
theorem commit_keep {st:Ty.den TStore} {d:Ty.den TDisk} (l:PutL) (hd:DR d) (h1:st.1.2.1.length≤60) (h2:st.2.1.length≤268435456) :
 DR (commitM st d l).2.1∧(commitM st d l).1.1.2.1.length≤60∧(commitM st d l).1.2.1.length≤268435456:=by
 unfold commitM
 cases c1:storeM st d with
 | false=>exact ⟨hd,h1,h2⟩
 | true =>
  simp only [n_t,c_f]
  cases c2:putsOk l with
  | false=>exact ⟨hd,h1,h2⟩
  | true =>
   simp only [n_t,c_f]
   cases (l.length:Int)==0 with
   | true=>exact ⟨hd,h1,h2⟩
   | false =>
    cases decide (afterM st.2.1 l > 20) with
    | true=>exact ⟨hd,h1,h2⟩
    | false =>
     cases decide (st.2.2.1 > (1000000:Int)) with
     | true=>exact ⟨hd,h1,h2⟩
     | false=>exact write_keep (store_facts c1).1 c2 (store_facts c1).2.1
def putOf (p:Ty.den TPair):Ty.den TPut:=(p.1,(false,(p.2.1,())))
noncomputable def restR:Nat→PairL→Ty.den TStore × RD→Ty.den TStore × RD
 | 0,_,q=>q
 | m+1,l,q=>bif decide (0<l.length)&&(q.2.2==0) then restR m (l.drop 8) (commitM q.1 q.2.1 ((l.take 8).map putOf)) else q
noncomputable def restoreM (cap:Int) (l:PairL):Ty.den TStore × RD :=
 bif !decide ((0:Int)≤cap∧cap≤100000) then (zStore,(([],(0,(0,(false,())))),4)) else bif !pairsOk l then (zStore,(([],(0,(0,(false,())))),4)) else restR 3 l (openM (newD cap))
structure RR (q:Ty.den TStore × RD):Prop where
 disk:DR q.2.1
 ids:q.1.1.2.1.length≤60
 dir:q.1.2.1.length≤268435456
theorem rest_keep:∀ (m:Nat) (l:PairL) (q:Ty.den TStore × RD),RR q→RR (restR m l q)
 | 0,_,_,h=>h
 | m+1,l,q,h=>by
  unfold restR
  cases decide (0<l.length)&&(q.2.2==0) with
  | false=>exact h
  | true =>
   obtain ⟨g1,g2,g3⟩:=commit_keep ((l.take 8).map putOf) h.disk h.ids h.dir
   exact rest_keep m _ _ ⟨g1,g2,g3⟩
theorem cut8 {α:Type} (l:List α) (i:Nat):(l.take (min l.length (i+8))).drop i=(l.drop i).take 8:=by
 rw [List.drop_take]
 by_cases h:i+8≤l.length
 · rw [Nat.min_eq_right h,Nat.add_sub_cancel_left]
 · rw [Nat.min_eq_left (by omega),List.take_of_length_le (by rw [List.length_drop];omega),List.take_of_length_le (by rw [List.length_drop];omega)]
theorem implIn_eq {k:Nat} (hk:2 ^ 50≤k) {L0:impl_Restore.T0} {l s:PairL} (hs:s.length≤8) {i:Int} (hi:0≤i) (hi':i≤30) {q:Ty.den TStore × RD} (h:RR q) {n:Nat} (hn:100≤n) :
 impl_Restore.l1 k L0 n l i s s.length 0 [] [] 0 0 0 0 [] 0 0 false q.1.1.2.1 q.1.2.1 q.1.1.1 q.1.2.2.1 q.1.2.2.2.1 q.1.2.2.2.2.1 q.2.1.1 q.2.1.2.1 q.2.1.2.2.1 q.2.1.2.2.2.1 [] =
 (fun y:Ty.den TStore × RD=>L0 l y.2.2 (i+8) [] [] 0 0 0 0 [] 0 0 false y.1.1.2.1 y.1.2.1 y.1.1.1 y.1.2.2.1 y.1.2.2.2.1 y.1.2.2.2.2.1 y.2.1.1 y.2.1.2.1 y.2.1.2.2.1 y.2.1.2.2.2.1) (commitM q.1 q.2.1 (s.map putOf)):=by
 have hw:w64 (i+8)=i+8:=w64_eq (by omega) (by omega)
 refine (forL0 (L:=fun n j (p:PutL)=>impl_Restore.l1 k L0 n l i s s.length j [] [] 0 0 0 0 [] 0 0 false q.1.1.2.1 q.1.2.1 q.1.1.1 q.1.2.2.1 q.1.2.2.2.1 q.1.2.2.2.2.1 q.2.1.1 q.2.1.2.1 q.2.1.2.2.1 q.2.1.2.2.2.1 p)
  (R:=fun r p=>(fun y:Ty.den TStore × RD=>L0 l y.2.2 (i+8) [] [] 0 0 0 0 [] 0 0 false y.1.1.2.1 y.1.2.1 y.1.1.1 y.1.2.2.1 y.1.2.2.2.1 y.1.2.2.2.2.1 y.2.1.1 y.2.1.2.1 y.2.1.2.2.1 y.2.1.2.2.2.1) (commitM q.1 q.2.1 (p++r.map putOf)))
  (Ty.dflt TPair) s (fun j p=>(p.length:Int)≤j) (fun n p hp=>?_) (fun n j p x rest h0 h1 hx hr hp ih=>?_) (n:=n) (s:=[]) (by omega) (by rw [List.length_nil];decide)).trans (by rw [List.nil_append])
 · have h1:=h.ids
   have h2:=h.dir
   simp only [impl_Restore.l1,impl_Restore.b1]
   rw [decF (by omega),c_f,hw,show ((q.1.1.1,(q.1.1.2.1,())),(q.1.2.1,(q.1.2.2.1,(q.1.2.2.2.1,(q.1.2.2.2.2.1,())))))=q.1 from rfl,show (q.2.1.1,(q.2.1.2.1,(q.2.1.2.2.1,(q.2.1.2.2.2.1,()))))=q.2.1 from rfl,
    implCommit_eq hk h.disk.sz (by omega) (by omega) (by omega),o_s,List.map_nil,List.append_nil]
 · simp only [impl_Restore.l1,impl_Restore.b1]
   rw [decT h1,c_t,inb_eq h0 h1,hx,rm_ok (by omega) (by decide),w64_eq (n:=j+1) (by omega) (by omega)]
   refine (ih (p++[putOf x]) (by rw [l_a,List.length_singleton];omega)).trans ?_
   rw [List.map_cons,a_a,List.singleton_append]
theorem implRest_eq {k:Nat} (hk:2 ^ 50≤k) {l:PairL} (hl:l.length≤20):∀ (m n:Nat) (i:Int) (q:Ty.den TStore × RD),RR q→0≤i→(l.length:Int)≤i+8*m→m<n→i≤30 →
 impl_Restore.l0 k n l q.2.2 i [] [] 0 0 0 0 [] 0 0 false q.1.1.2.1 q.1.2.1 q.1.1.1 q.1.2.2.1 q.1.2.2.2.1 q.1.2.2.2.2.1 q.2.1.1 q.2.1.2.1 q.2.1.2.2.1 q.2.1.2.2.2.1=some (oS (restR m (l.drop i.toNat) q))
 | m,0,i,q,h,h0,h1,h2,h3=>by omega
 | 0,n+1,i,q,h,h0,h1,h2,h3=>by
  simp only [impl_Restore.l0,impl_Restore.b0]
  rw [decF (by omega),c_f]
  rfl
 | m+1,n+1,i,q,h,h0,h1,h2,h3=>by
  simp only [impl_Restore.l0,impl_Restore.b0,restR]
  by_cases c:i<(l.length:Int)
  · rw [decT c,c_t,decT (show 0<(l.drop i.toNat).length by rw [List.length_drop];omega),Bool.true_and]
    cases c2:q.2.2==0 with
    | false=>rfl
    | true =>
     simp only [c_t]
     rw [w64_eq (n:=i+8) (by omega) (by omega)]
     obtain ⟨N,hN⟩:∃ N:Int,N=if (l.length:Int)<i+8 then (l.length:Int) else i+8:=⟨_,rfl⟩
     have hm:N.toNat=min l.length (i.toNat+8):=by rw [hN];split <;> omega
     have hb:i≤N∧N≤(l.length:Int):=by rw [hN];split <;> omega
     rw [← hN,inc2_eq h0 hb.1 hb.2,hm,cut8,implIn_eq hk (by rw [List.length_take];omega) h0 h3 h (by omega)]
     obtain ⟨g1,g2,g3⟩:=commit_keep (((l.drop i.toNat).take 8).map putOf) h.disk h.ids h.dir
     have:=implRest_eq hk hl m n (i+8) (commitM q.1 q.2.1 (((l.drop i.toNat).take 8).map putOf)) ⟨g1,g2,g3⟩ (by omega) (by omega) (by omega) (by omega)
     rw [List.drop_drop,show i.toNat+8=(i+8).toNat by omega]
     exact this
  · rw [decF c,c_f,decF (show ¬ 0<(l.drop i.toNat).length by rw [List.length_drop];omega),Bool.false_and]
    rfl
theorem open_new {n:Int} (h0:0≤n) (h1:n≤100000):RR (openM (newD n)):=by
 have hd:=newD_DR h0 h1
 obtain ⟨g1,g2⟩:=open_facts hd
 refine ⟨g1,?_,g2⟩
 unfold openM
 have e:(textM (newD n) liveB).2=false:=by unfold textM;rw [disk_iff.2 hd];rfl
 rw [disk_iff.2 hd,e]
 show (firstM (newD n)).1.1.2.1.length≤60
 unfold firstM
 cases (firstR (newD n)).2==0
 · exact Nat.zero_le _
 · show 1≤60
   decide
theorem implRestore_eq {k:Nat} (hk:2 ^ 50≤k) (cap:Int) {l:PairL} (hl:l.length≤1099511627776):impl_Restore.f k cap l=some (oS (restoreM cap l)):=by
 unfold impl_Restore.f impl_Restore.t restoreM
 rw [inD_eq,o_s]
 simp only []
 by_cases c:(0:Int)≤cap∧cap≤100000
 · rw [decT c]
   simp only [n_t,c_f]
   rw [implPairsOk_eq hk hl,o_s]
   simp only []
   cases c2:pairsOk l with
   | false=>rfl
   | true =>
    have h20:=pairsOk_len c2
    simp only [n_t,c_f]
    rw [implNew_eq k c.1 c.2,o_s]
    simp only []
    rw [show (([],(cap,(-1,(false,())))):Ty.den TDisk)=newD cap from rfl,implOpen_eq hk (newD_DR c.1 c.2).sz,o_s]
    exact implRest_eq hk h20 3 k 0 (openM (newD cap)) (open_new c.1 c.2) (by omega) (by omega) (by omega) (by omega)
 · rw [decF c]
   rfl
end Go.Proofs.YtmakghhmpgfboaaGreatDoor.G
namespace Go.Proofs.YtmakghhmpgfboaaGreatDoor.G
open Go.V
theorem ins_mem {l:EntryL} {e x:Ty.den TEntry} (h:x ∈ insE l e):x=e∨x ∈ l:=by
 unfold insE at h
 rcases List.mem_append.1 h with w | w
 · exact .inr (List.takeWhile_subset _ w)
 · rcases List.mem_cons.1 w with w | w
   · exact .inl w
   · exact .inr (List.dropWhile_subset _ w)
end Go.Proofs.YtmakghhmpgfboaaGreatDoor.G
namespace Go.Proofs.YtmakghhmpgfboaaGreatDoor.G
open Go.V
def EX (n:Int) (d d':Ty.den TDisk):Prop:=∀ x:Int,1≤x→x<n→x≤100000→∀ t,fT d (namedM segB x)=some t→∃ u,fT d' (namedM segB x)=some (t++u)
theorem ba_e (t:ByteArray):t++(⟨#[]⟩:ByteArray)=t:=ba_end t
theorem ex_keep {n:Int} {d d':Ty.den TDisk} (h:∀ x:Int,1≤x→x<n→x≤100000→fT d' (namedM segB x)=fT d (namedM segB x)):EX n d d':=fun x h0 h1 h2 t e=>⟨⟨#[]⟩,by rw [h x h0 h1 h2,e,ba_e]⟩
theorem ex_refl (n:Int) (d:Ty.den TDisk):EX n d d:=ex_keep fun _ _ _ _=>rfl
theorem ex_trans {n:Int} {d d' d'':Ty.den TDisk} (h:EX n d d') (g:EX n d' d''):EX n d d'':=fun x h0 h1 h2 t e=>by
 obtain ⟨u,hu⟩:=h x h0 h1 h2 t e
 obtain ⟨v,hv⟩:=g x h0 h1 h2 _ hu
 exact ⟨u++v,by rw [hv,ba_assoc]⟩
theorem ex_mono {n m:Int} {d d':Ty.den TDisk} (h:EX m d d') (q:n≤m):EX n d d':=fun x h0 h1 h2 t e=>h x h0 (by omega) h2 t e
theorem ex_app (n:Int) (d:Ty.den TDisk) (s x:ByteArray):EX n d (appM d s x).1:=fun y h0 h1 h2 t e=>by
 by_cases q:s=namedM segB y
 · subst q
   have:=app_own (d:=d) (s:=namedM segB y) (x:=x)
   rw [e] at this
   cases c:(appM d (namedM segB y) x).2==0 with
   | true=>rw [c] at this;exact ⟨x,this⟩
   | false=>rw [c] at this;exact ⟨⟨#[]⟩,by rw [this,ba_e];rfl⟩
 · exact ⟨⟨#[]⟩,by rw [app_fT q,e,ba_e]⟩
theorem ex_syn (n:Int) (d:Ty.den TDisk) (s:ByteArray):EX n d (synM d s).1:=ex_keep fun x _ _ _=>syn_fT
theorem rot_ext {st:Ty.den TStore} {d:Ty.den TDisk} (hl:liveM st.1=true) :
 EX st.1.1 d (rotR st d).2.1∧LE.le (α:=Int) st.1.1 (rotR st d).1.1.1∧(rotR st d).1.2.2.1=st.2.2.1:=by
 obtain ⟨n1,n2,n3,_⟩:=live_ids (n:=st.1.1) (ids:=st.1.2.1) hl
 have hnew:∀ x:Int,1≤x→x<st.1.1→x≤100000→namedM segB st.1.1≠namedM segB x:=fun x h0 h1 h2=>seg_ne ⟨n1,n2⟩ ⟨h0,h2⟩ (by omega)
 have k1:∀ x:Int,1≤x→x<st.1.1→x≤100000→fT (synM d (actB st)).1 (namedM segB x)=fT d (namedM segB x):=fun x _ _ _=>syn_fT
 have k2:∀ x:Int,1≤x→x<st.1.1→x≤100000→fT (freshR (namedM segB st.1.1) (synM d (actB st)).1).1 (namedM segB x)=fT d (namedM segB x):=fun x h0 h1 h2=>(fresh_fT (hnew x h0 h1 h2)).trans (k1 x h0 h1 h2)
 have k3:∀ x:Int,1≤x→x<st.1.1→x≤100000→fT (putLiveR (liveN st) (freshR (namedM segB st.1.1) (synM d (actB st)).1).1).1 (namedM segB x)=fT d (namedM segB x):=fun x h0 h1 h2=>(putLive_fT (seg_temp ⟨h0,h2⟩) (seg_live ⟨h0,h2⟩)).trans (k2 x h0 h1 h2)
 unfold rotR
 cases decide ((st.1.2.1.length:Int)≥60) with
 | true=>exact ⟨ex_refl _ _,Int.le_refl _,rfl⟩
 | false =>
  cases decide (st.1.1≥(100000:Int)) with
  | true=>exact ⟨ex_refl _ _,Int.le_refl _,rfl⟩
  | false =>
   have up:LE.le (α:=Int) st.1.1 (st.1.1+1):=by omega
   simp only [c_f]
   generalize synM d (actB st)=r1 at k1 k2 k3 ⊢
   generalize freshR (namedM segB st.1.1) r1.1=r2 at k2 k3 ⊢
   generalize putLiveR (liveN st) r2.1=r3 at k3 ⊢
   cases r1.2 != 0 with
   | true=>exact ⟨ex_keep k1,Int.le_refl _,rfl⟩
   | false =>
    cases r2.2 != 0 with
    | true=>exact ⟨ex_keep k2,up,rfl⟩
    | false =>
     cases r3.2 != 0 with
     | true =>
      refine ⟨?_,up,rfl⟩
      simp only [c_t,c_f]
      unfold dropsT
      cases (tl r3).2==2 with
      | false=>exact ex_keep k3
      | true =>
       refine ex_keep fun x h0 h1 h2=>?_
       refine (drops_fT [tempB,namedM segB st.1.1] r3.1 fun s hs=>?_).trans (k3 x h0 h1 h2)
       rcases List.mem_cons.1 hs with e | e
       · rw [e];exact seg_temp ⟨h0,h2⟩
       · rw [List.mem_singleton.1 e];exact hnew x h0 h1 h2
     | false=>exact ⟨ex_keep k3,up,rfl⟩
theorem last_in {st:Ty.den TStore} (hl:liveM st.1=true):LE.le (α:=Int) 1 (lastI st.1.2.1)∧LT.lt (α:=Int) (lastI st.1.2.1) st.1.1:=by
 obtain ⟨n1,n2,n3,n4⟩:=live_ids (n:=st.1.1) (ids:=st.1.2.1) hl
 obtain ⟨_,_,g1,_,_⟩:=live_facts (nx:=st.1.1) (ids:=st.1.2.1) hl
 have hs:=last_split g1
 have hlast:lastI st.1.2.1 ∈ st.1.2.1:=by rw [hs];exact List.mem_append_right _ (List.mem_singleton.2 (by rw [← hs]))
 exact n3 _ hlast
theorem set_ext {st:Ty.den TStore} {d:Ty.den TDisk} (hl:liveM st.1=true) (r:Ty.den TRec) (n:Int) :
 EX n d (setR st d r).1.2.1∧(setR st d r).1.1.1=st.1∧(setR st d r).1.1.2.2.1=st.2.2.1∧((setR st d r).1.2.2=0→LE.le (α:=Int) 1 (setR st d r).2.1∧LT.lt (α:=Int) (setR st d r).2.1 st.1.1):=by
 have hE:=ex_app n d (actB st) (frameM (showRec r))
 unfold setR
 generalize appM d (actB st) (frameM (showRec r))=a at hE ⊢
 cases c:a.2 != 0 with
 | true =>
  refine ⟨hE,rfl,rfl,fun e=>?_⟩
  have e:(tl a).2=0:=e
  have q:=tl_ne a
  rw [e,c] at q
  cases q
 | false=>exact ⟨hE,rfl,rfl,fun _=>last_in hl⟩
theorem add_ext {st:Ty.den TStore} {d:Ty.den TDisk} (hl:liveM st.1=true) (hd:DR d) (r:Ty.den TRec) :
 EX st.1.1 d (addR st d r).1.2.1∧LE.le (α:=Int) st.1.1 (addR st d r).1.1.1.1∧(addR st d r).1.1.2.2.1=st.2.2.1∧((addR st d r).1.2.2=0→LE.le (α:=Int) 1 (addR st d r).2.1∧LT.lt (α:=Int) (addR st d r).2.1 (addR st d r).1.1.1.1):=by
 unfold addR
 cases decide (st.2.2.2.1 > 0)&&decide (st.2.2.2.1+recLen r > 200) with
 | false =>
  obtain ⟨s1,s2,s3,s4⟩:=set_ext (d:=d) hl r st.1.1
  simp only [c_f]
  rw [s2]
  exact ⟨s1,Int.le_refl _,s3,s4⟩
 | true =>
  obtain ⟨g1,g2,g3,g4⟩:=rot_facts hl hd
  obtain ⟨t1,t2,t3⟩:=rot_ext (d:=d) hl
  simp only [c_t]
  generalize rotR st d=q at g1 g2 g3 g4 t1 t2 t3 ⊢
  cases c:q.2.2 != 0 with
  | true =>
   refine ⟨t1,t2,t3,fun e=>?_⟩
   have e:q.2.2=0:=e
   rw [e] at c
   cases c
  | false =>
   obtain ⟨s1,s2,s3,s4⟩:=set_ext (d:=q.2.1) g1 r st.1.1
   simp only [c_f]
   rw [s2]
   exact ⟨ex_trans t1 s1,t2,s3.trans t3,s4⟩
theorem adds_ext:∀ (l:RecL) (st:Ty.den TStore) (d:Ty.den TDisk) (ps:PlaceL) (B:Int),SR st (d,0) B→0≤B→(∀ p ∈ ps,LE.le (α:=Int) 1 p.1∧LT.lt (α:=Int) p.1 st.1.1) →
 EX st.1.1 d (addsR l st d ps).1.2.1∧LE.le (α:=Int) st.1.1 (addsR l st d ps).1.1.1.1∧(addsR l st d ps).1.1.2.2.1=st.2.2.1∧∀ p ∈ (addsR l st d ps).2,LE.le (α:=Int) 1 p.1∧LT.lt (α:=Int) p.1 (addsR l st d ps).1.1.1.1
 | [],st,d,ps,B,_,_,hp=>⟨ex_refl _ _,Int.le_refl _,rfl,hp⟩
 | r::l,st,d,ps,B,h,hB,hp=>by
  obtain ⟨g1,g2,g3⟩:=add_facts h hB r
  obtain ⟨s1,s2,s3,s4⟩:=add_ext (d:=d) h.live h.disk r
  unfold addsR
  generalize addR st d r=q at g1 g2 g3 s1 s2 s3 s4 ⊢
  have up:∀ p ∈ ps,LE.le (α:=Int) 1 p.1∧LT.lt (α:=Int) p.1 q.1.1.1.1:=fun p hq=>⟨(hp p hq).1,Int.lt_of_lt_of_le (hp p hq).2 s2⟩
  cases c:q.1.2.2 != 0 with
  | true=>exact ⟨s1,s2,s3,up⟩
  | false =>
   have e0:=zero_ne c
   obtain ⟨i1,i2,i3,i4⟩:=adds_ext l q.1.1 q.1.2.1 (ps++[q.2]) (B+211) ⟨g1.live,g1.disk,g1.lo,g1.hi⟩ (by omega) fun p hq=>by
    rcases List.mem_append.1 hq with w | w
    · exact up p w
    · rw [List.mem_singleton.1 w]
      exact s4 e0
   simp only [c_f]
   exact ⟨ex_trans s1 (ex_mono i1 s2),Int.le_trans s2 i2,i3.trans s3,i4⟩
theorem getE_app (k:ByteArray):∀ a b:EntryL,getE (a++b) k=match getE a k with | some e=>some e | none=>getE b k
 | [],b=>rfl
 | e::a,b=>by
  rw [List.cons_append,getE.eq_2,getE.eq_2]
  cases seq e.1 k with
  | true=>rfl
  | false=>exact getE_app k a b
theorem getE_drop {key k:ByteArray} (h:k≠key):∀ l:EntryL,getE (dropM l key) k=getE l k
 | []=>rfl
 | e::l=>by
  have ih:=getE_drop h l
  unfold dropM at ih ⊢
  rw [List.filter_cons,getE.eq_2 k e l]
  cases c:seq e.1 key with
  | false=>rw [n_f,if_pos rfl,getE.eq_2,ih]
  | true =>
   rw [n_t,if_neg (by decide),ih,seqF (fun q=>h (by rw [← q];exact seq_iff.1 c))]
   rfl
theorem getE_dropped (key:ByteArray):∀ l:EntryL,getE (dropM l key) key=none
 | []=>rfl
 | e::l=>by
  have ih:=getE_dropped key l
  unfold dropM at ih ⊢
  rw [List.filter_cons]
  cases c:seq e.1 key with
  | false=>rw [n_f,if_pos rfl,getE.eq_2,c,c_f,ih]
  | true=>rw [n_t,if_neg (by decide),ih]
theorem getE_ins {l:EntryL} {e:Ty.den TEntry} {k:ByteArray} (h:e.1≠k):getE (insE l e) k=getE l k:=by
 have q:=getE_app k (l.takeWhile (leE e.1)) (l.dropWhile (leE e.1))
 rw [List.takeWhile_append_dropWhile] at q
 unfold insE
 rw [getE_app,getE.eq_2,seqF h,c_f,q]
theorem getE_insOwn {l:EntryL} {e x:Ty.den TEntry} (hn:getE l e.1=none) (h:getE (insE l e) e.1=some x):x=e:=by
 have q:=getE_app e.1 (l.takeWhile (leE e.1)) (l.dropWhile (leE e.1))
 rw [List.takeWhile_append_dropWhile,hn] at q
 unfold insE at h
 rw [getE_app,getE.eq_2,seq_refl,c_t] at h
 cases c:getE (l.takeWhile (leE e.1)) e.1 with
 | some y=>rw [c] at q;cases q
 | none =>
  rw [c] at h
  exact (Option.some.inj h).symm
theorem step_get {d:EntryL} {p:Ty.den TPlace} {k:ByteArray} {e:Ty.den TEntry} (h:getE (stepDir d p) k=some e):e=entryOf p∨getE d k=some e:=by
 unfold stepDir at h
 cases c:p.2.2.2.1.1==2 with
 | true =>
  rw [c,c_t] at h
  by_cases q:k=p.2.2.2.1.2.2.1
  · rw [q,getE_dropped] at h
    cases h
  · rw [getE_drop q] at h
    exact .inr h
 | false =>
  rw [c,c_f] at h
  unfold putM at h
  by_cases q:(entryOf p).1=k
  · rw [← q] at h
    exact .inl (getE_insOwn (getE_dropped _ _) h)
  · rw [getE_ins q,getE_drop (fun w=>q w.symm)] at h
    exact .inr h
theorem apply_get {k:ByteArray} {e:Ty.den TEntry}:∀ (ps:PlaceL) {d:EntryL},getE (applyM d ps) k=some e→(∃ p ∈ ps,e=entryOf p)∨getE d k=some e
 | [],d,h => .inr h
 | p::ps,d,h=>by
  rcases apply_get ps (d:=stepDir d p) h with ⟨q,hq,w⟩ | w
  · exact .inl ⟨q,m_m _ hq,w⟩
  · rcases step_get w with w | w
    · exact .inl ⟨p,m_s,w⟩
    · exact .inr w
theorem step_mem {d:EntryL} {p:Ty.den TPlace} {e:Ty.den TEntry} (h:e ∈ stepDir d p):(e=entryOf p∧(p.2.2.2.1.1==2)=false)∨e ∈ d:=by
 unfold stepDir at h
 cases c:p.2.2.2.1.1==2 with
 | true=>rw [c,c_t] at h;exact .inr ((List.mem_filter.1 h).1)
 | false =>
  rw [c,c_f] at h
  rcases ins_mem h with w | w
  · exact .inl ⟨w,rfl⟩
  · exact .inr ((List.mem_filter.1 w).1)
theorem apply_mem {e:Ty.den TEntry}:∀ (ps:PlaceL) {d:EntryL},e ∈ applyM d ps→(∃ p ∈ ps,e=entryOf p∧(p.2.2.2.1.1==2)=false)∨e ∈ d
 | [],d,h => .inr h
 | p::ps,d,h=>by
  rcases apply_mem ps (d:=stepDir d p) h with ⟨q,hq,w⟩ | w
  · exact .inl ⟨q,m_m _ hq,w⟩
  · rcases step_mem w with w | w
    · exact .inl ⟨p,m_s,w⟩
    · exact .inr w
theorem recs_batch {l:PutL} {b:Int} {r:Ty.den TRec} (h:r ∈ recsM l b):r.2.1=b:=by
 unfold recsM at h
 rcases List.mem_append.1 h with w | w
 · obtain ⟨p,_,e⟩:=List.mem_map.1 w
   rw [← e]
   unfold putR
   cases p.2.1 <;> rfl
 · rw [List.mem_singleton.1 w]
   rfl
theorem write_ext {st:Ty.den TStore} {d:Ty.den TDisk} {l:PutL} (h:SR st (d,0) 100000) :
 EX st.1.1 d (writeR st d l).2.1∧LE.le (α:=Int) st.1.1 (writeR st d l).1.1.1∧(writeR st d l).1.2.2.1=st.2.2.1+1 ∧
 (∀ e ∈ (writeR st d l).1.2.1,e ∈ st.2.1∨(LE.le (α:=Int) 1 e.2.1∧LT.lt (α:=Int) e.2.1 (writeR st d l).1.1.1)) ∧
 ∀ k e,getE (writeR st d l).1.2.1 k=some e→getE st.2.1 k=some e∨e.2.2.2.2.1=st.2.2.1:=by
 have hb:SR (batS st) (d,0) 100000:=⟨h.live,h.disk,h.lo,h.hi⟩
 obtain ⟨g1,g2,g3⟩:=adds_facts (recsM l st.2.2.1) (batS st) d [] 100000 hb (by decide)
 obtain ⟨s1,s2,s3,s4⟩:=adds_ext (recsM l st.2.2.1) (batS st) d [] 100000 hb (by decide) (fun x hx=>by cases hx)
 unfold writeR
 generalize addsR (recsM l st.2.2.1) (batS st) d []=q at g1 g2 g3 s1 s2 s3 s4 ⊢
 have e2:q.1.1.2.1=st.2.1:=g2
 have s1:EX st.1.1 d q.1.2.1:=s1
 have s2:LE.le (α:=Int) st.1.1 q.1.1.1.1:=s2
 have s3:q.1.1.2.2.1=st.2.2.1+1:=s3
 unfold endR
 cases c:q.1.2.2 != 0 with
 | true=>exact ⟨s1,s2,s3,fun e he => .inl (by rw [← e2];exact he),fun k e he => .inl (by rw [← e2];exact he)⟩
 | false =>
  have g3:=g3 (zero_ne c)
  have y0:=ex_trans s1 (ex_syn st.1.1 q.1.2.1 (actB q.1.1))
  simp only [c_f]
  generalize synM q.1.2.1 (actB q.1.1)=y at y0 ⊢
  cases y.2 != 0 with
  | true=>exact ⟨y0,s2,s3,fun e he => .inl (by rw [← e2];exact he),fun k e he => .inl (by rw [← e2];exact he)⟩
  | false =>
   refine ⟨y0,s2,s3,fun e he=>?_,fun k e he=>?_⟩
   · have he:e ∈ applyM q.1.1.2.1 (q.2.take l.length):=he
     rw [e2] at he
     rcases apply_mem _ he with ⟨p,hp,w,_⟩ | w
     · rw [w]
       exact .inr (s4 p (List.mem_of_mem_take hp))
     · exact .inl w
   · have he:getE (applyM q.1.1.2.1 (q.2.take l.length)) k=some e:=he
     rw [e2] at he
     rcases apply_get _ he with ⟨p,hp,w⟩ | w
     · refine .inr ?_
       have hm:recP p ∈ recsM l st.2.2.1:=by
        have:recP p ∈ q.2.map recP:=List.mem_map.2 ⟨p,List.mem_of_mem_take hp,rfl⟩
        rw [g3] at this
        simpa using this
       rw [w]
       exact recs_batch hm
     · exact .inl w
theorem commit_ext (st:Ty.den TStore) (d:Ty.den TDisk) (l:PutL):((commitM st d l).1=st∧(commitM st d l).2.1=d) ∨
 (storeM st d=true∧EX st.1.1 d (commitM st d l).2.1∧LE.le (α:=Int) st.1.1 (commitM st d l).1.1.1∧(commitM st d l).1.2.2.1=st.2.2.1+1 ∧
 (∀ e ∈ (commitM st d l).1.2.1,e ∈ st.2.1∨(LE.le (α:=Int) 1 e.2.1∧LT.lt (α:=Int) e.2.1 (commitM st d l).1.1.1)) ∧
 ∀ k e,getE (commitM st d l).1.2.1 k=some e→getE st.2.1 k=some e∨e.2.2.2.2.1=st.2.2.1):=by
 unfold commitM
 cases c1:storeM st d with
 | false=>exact .inl ⟨rfl,rfl⟩
 | true =>
  simp only [n_t,c_f]
  cases c2:putsOk l with
  | false=>exact .inl ⟨rfl,rfl⟩
  | true =>
   simp only [n_t,c_f]
   cases (l.length:Int)==0 with
   | true=>exact .inl ⟨rfl,rfl⟩
   | false =>
    cases decide (afterM st.2.1 l > 20) with
    | true=>exact .inl ⟨rfl,rfl⟩
    | false =>
     cases decide (st.2.2.1 > (1000000:Int)) with
     | true=>exact .inl ⟨rfl,rfl⟩
     | false=>exact .inr ⟨by trivial,write_ext (store_facts c1).1⟩
end Go.Proofs.YtmakghhmpgfboaaGreatDoor.G
namespace Go.Proofs.YtmakghhmpgfboaaGreatDoor.G
open Go.V
theorem fresh_own {s:ByteArray} {d:Ty.den TDisk} (h:(freshR s d).2=0):fT (freshR s d).1 s=some ByteArray.empty:=by
 unfold freshR at h ⊢
 unfold seqR at h ⊢
 cases c:(goneR s d).2==0 with
 | false =>
  rw [c,c_f] at h
  rw [h] at c
  cases c
 | true =>
  rw [c,c_t] at h
  rw [c_t]
  obtain ⟨c1,c2⟩:=step_zero (d:=(goneR s d).1) (g:=creG s) h
  unfold fT
  show (getM (stepM (goneR s d).1 (creG s)).1.1 s).map _=_
  rw [c2]
  unfold creG at c1 ⊢
  cases c3:nameM s with
  | false=>rw [c3] at c1;cases c1
  | true =>
   rw [c3] at c1
   simp only [n_t,c_f] at c1 ⊢
   cases c4:(getM (goneR s d).1.1 s) with
   | some f=>rw [c4] at c1;cases c1
   | none =>
    rw [c4] at c1
    simp only [Option.isSome_none,c_f] at c1 ⊢
    cases c5:decide (((goneR s d).1.1.length:Int)≥130) with
    | true=>rw [c5] at c1;cases c1
    | false =>
     simp only [c_f]
     rw [get_ins (f:=(s,(ByteArray.empty,(0,())))) c4,seq_refl]
     rfl
end Go.Proofs.YtmakghhmpgfboaaGreatDoor.G
namespace Go.Proofs.YtmakghhmpgfboaaGreatDoor.G
open Go.V
theorem recAt_ext {s t:ByteArray} {i n:Int} (h:(recAtM s i n).2=true):recAtM (s++t) i n=recAtM s i n:=by
 unfold recAtM at h ⊢
 by_cases c:0≤i∧i≤s.size∧1≤n∧n≤s.size-i
 · have hz:(s++t).size=s.size+t.size:=ByteArray.size_append ..
   have e:ByteArray.extract (s++t) i.toNat (i+n).toNat=ByteArray.extract s i.toNat (i+n).toNat:=by
    refine nb_inj ?_
    rw [nb_ext,nb_ext,nb_app,List.take_append_of_le_length (by rw [nb_len];omega)]
   rw [if_pos c,if_pos (show 0≤i∧i≤(s++t).size∧1≤n∧n≤(s++t).size-i from ⟨c.1,by omega,c.2.2.1,by omega⟩),e]
 · rw [if_neg c] at h
   cases h
theorem recE_ext {n:Int} {d d':Ty.den TDisk} {e:Ty.den TEntry} (hd:DR d) (hd':DR d') (hx:EX n d d') (h1:LE.le (α:=Int) 1 e.2.1) (h2:LT.lt (α:=Int) e.2.1 n) (h3:LE.le (α:=Int) e.2.1 100000) (h:(recE d e).2=true):recE d' e=recE d e:=by
 unfold recE at h ⊢
 rw [text_fT hd] at h
 rw [text_fT hd,text_fT hd']
 cases c:fT d (namedM segB e.2.1) with
 | none =>
  rw [c] at h
  have h:(recAtM ⟨#[]⟩ e.2.2.1 e.2.2.2.1).2=true:=h
  rw [recAt_empty] at h
  cases h
 | some t =>
  obtain ⟨u,hu⟩:=hx e.2.1 h1 h2 h3 t c
  rw [c] at h
  rw [hu]
  exact recAt_ext h
def EI (st:Ty.den TStore):Prop:=∀ e ∈ st.2.1,LE.le (α:=Int) 1 e.2.1∧LT.lt (α:=Int) e.2.1 st.1.1
theorem commit_EI {st:Ty.den TStore} (h:EI st) (d:Ty.den TDisk) (l:PutL):EI (commitM st d l).1:=by
 rcases commit_ext st d l with ⟨e,_⟩ | ⟨_,_,g2,_,g4,_⟩
 · rw [e];exact h
 · intro x hx
   rcases g4 x hx with w | w
   · exact ⟨(h x w).1,Int.lt_of_lt_of_le (h x w).2 g2⟩
   · exact w
end Go.Proofs.YtmakghhmpgfboaaGreatDoor.G
namespace Go.Proofs.YtmakghhmpgfboaaGreatDoor.G
open Go.V
def FL (s:ByteArray):Prop:=∃ rs:RecL,(∀ r ∈ rs,recOk r=true)∧s=framesM rs
theorem full_at (s:ByteArray):∀ (d:Nat) (i:Int),0≤i→i≤s.size→(s.size:Int)-i<d→(scanN s d i).2=(s.size:Int)→FL (ByteArray.extract s i.toNat s.size):=by
 intro d
 induction d with
 | zero=>intro i h0 h1 h2 _;omega
 | succ d ih =>
  intro i h0 h1 h2 h
  have stop:i=(s.size:Int)→FL (ByteArray.extract s i.toNat s.size):=fun e=>by
   rw [e,Int.toNat_natCast,ext_full]
   exact ⟨[],fun r hr=>(by cases hr),rfl⟩
  rw [scanN] at h
  by_cases c1:(unfM (ByteArray.extract s i.toNat s.size)).2=0
  · rw [if_pos c1] at h
    exact stop h
  · rw [if_neg c1] at h
    cases c2:(readRecM (unfM (ByteArray.extract s i.toNat s.size)).1).2 with
    | false =>
     rw [if_pos c2] at h
     exact stop h
    | true =>
     rw [if_neg (by rw [c2];decide)] at h
     have hu:=unf_bound (ByteArray.extract s i.toNat s.size)
     have hz:=ext_size s i.toNat
     have ih:=ih (i+(unfM (ByteArray.extract s i.toNat s.size)).2) (by omega) (by omega) (by omega) h
     rcases unf_cases (ByteArray.extract s i.toNat s.size) with ⟨t,r,ht,e1,e2⟩ | ⟨e2,_⟩
     · rw [e2] at ih c2
       simp only [] at ih c2
       have e3:ByteArray.extract s (i+((frameM t).size:Int)).toNat s.size=r:=by
        apply nb_inj
        have hnb:=congrArg nb e1
        rw [ext_tail,nb_app] at hnb
        rw [ext_tail,show (i+((frameM t).size:Int)).toNat=i.toNat+(frameM t).size by omega,← List.drop_drop,hnb,List.drop_left' (nb_len _)]
       rw [e3] at ih
       obtain ⟨rs,k1,k2⟩:=ih
       obtain ⟨g1,g2⟩:=readRec_ok (s:=t) (r:=(readRecM t).1) (Prod.ext rfl c2)
       refine ⟨(readRecM t).1::rs,fun x hx=>?_,?_⟩
       · rcases List.mem_cons.1 hx with e | e
         · rw [e];exact g1
         · exact k1 x e
       · rw [e1,k2,framesM,g2]
     · exact absurd (by rw [e2]) c1
theorem ext_whole (s:ByteArray):ByteArray.extract s 0 s.size=s:=nb_inj (by rw [ext_tail,List.drop_zero])
theorem full_of {s:ByteArray} (h:(scanM s).2=(s.size:Int)):FL s:=by
 have:=full_at s (s.size+1) 0 (by omega) (by omega) (by omega) h
 rw [show (0:Int).toNat=0 from rfl,ext_whole] at this
 exact this
theorem scan_full {s:ByteArray} (h:FL s):(scanM s).2=(s.size:Int):=by
 obtain ⟨rs,h1,h2⟩:=h
 rw [h2]
 exact (scanM_frames h1).2
theorem frames_one (r:Ty.den TRec):framesM [r]=frameM (showRec r):=ba_e _
theorem full_app {s:ByteArray} {r:Ty.den TRec} (h:FL s) (hr:recOk r=true):FL (s++frameM (showRec r)):=by
 obtain ⟨rs,h1,h2⟩:=h
 refine ⟨rs++[r],fun x hx=>?_,?_⟩
 · rcases List.mem_append.1 hx with e | e
   · exact h1 x e
   · rw [List.mem_singleton.1 e];exact hr
 · rw [framesM_app,frames_one,h2]
theorem full_none:FL ⟨#[]⟩:=⟨[],fun r hr=>(by cases hr),rfl⟩
theorem recLen_lo (r:Ty.den TRec):5≤recLen r∧recLen r≤210:=by
 have h1:=showRec_size r
 have h2:=frameM_pos (s:=showRec r) (by omega)
 have h3:(frameM (showRec r)).size≤74:=by
  unfold frameM
  rw [if_neg (by omega)]
  have h4:=fix4_size (crcM (textB (showRec r)))
  have h5:=varB_size ((showRec r).size:Int)
  rw [ByteArray.size_append]
  unfold textB at h4 ⊢
  rw [ByteArray.size_append]
  omega
 unfold recLen
 omega
theorem recAt_new (t:ByteArray) {r:Ty.den TRec} (h:recOk r=true):recAtM (t++frameM (showRec r)) (t.size:Int) (recLen r)=(r,true):=by
 have hz:=showRec_size r
 have hp:=recLen_lo r
 have hl:((frameM (showRec r)).size:Int)=recLen r:=rfl
 have hs:(t++frameM (showRec r)).size=t.size+(frameM (showRec r)).size:=ByteArray.size_append ..
 have e:ByteArray.extract (t++frameM (showRec r)) (t.size:Int).toNat ((t.size:Int)+recLen r).toNat=frameM (showRec r):=by
  rw [Int.toNat_natCast,show ((t.size:Int)+recLen r).toNat=(t++frameM (showRec r)).size by omega]
  exact app_tail _ _
 have e2:unfM (frameM (showRec r))=(showRec r,((frameM (showRec r)).size:Int)):=by
  have:=unf_frame ⟨#[]⟩ (t:=showRec r) (by omega)
  rw [ba_e] at this
  exact this
 unfold recAtM
 rw [if_pos ⟨by omega,by omega,by omega,by omega⟩,e,e2]
 simp only []
 rw [if_pos hl,readRec_show h]
def eoB (x:Ty.den TEntry):Bool:=keyOkB x.1&&(decide ((1:Int)≤x.2.1∧x.2.1≤100000)&&(!decide (x.2.2.1<(0:Int))&&(decide ((1:Int)≤x.2.2.2.1∧x.2.2.2.1≤210)&&decide ((1:Int)≤x.2.2.2.2.1∧x.2.2.2.2.1≤1000000))))
theorem ent_split (p:Option (Ty.den TEntry)) (x:Ty.den TEntry):entOk p x=true↔(eoB x=true∧∀ q,p=some q→sls q.1 x.1=true):=by
 unfold entOk eoB
 simp only [b_a]
 cases p with
 | none=>exact ⟨fun h=>⟨⟨h.1,h.2.1,h.2.2.1,h.2.2.2.1,h.2.2.2.2.1⟩,fun q hq=>(by cases hq)⟩,fun h=>⟨h.1.1,h.1.2.1,h.1.2.2.1,h.1.2.2.2.1,h.1.2.2.2.2,rfl⟩⟩
 | some y=>exact ⟨fun h=>⟨⟨h.1,h.2.1,h.2.2.1,h.2.2.2.1,h.2.2.2.2.1⟩,fun q hq=>(by cases hq;exact h.2.2.2.2.2)⟩,fun h=>⟨h.1.1,h.1.2.1,h.1.2.2.1,h.1.2.2.2.1,h.1.2.2.2.2,h.2 y rfl⟩⟩
def keyL (l:EntryL):List ByteArray:=l.map (·.1)
theorem adj_ent:∀ (l:EntryL) (p:Option (Ty.den TEntry)),adj entOk p l=true↔((∀ f ∈ l,eoB f=true)∧KeysOk (keyL l)∧(∀ q,p=some q→∀ f ∈ l,sls q.1 f.1=true))
 | [],p=>by
  constructor
  · intro _
    exact ⟨fun f h=>(by cases h),List.Pairwise.nil,fun q _ f h=>(by cases h)⟩
  · intro _;rfl
 | g::l,p=>by
  have ih:=adj_ent l (some g)
  unfold adj
  rw [b_a,ih,ent_split]
  constructor
  · rintro ⟨⟨h1,h2⟩,h3,h4,h5⟩
    refine ⟨fun f hf=>?_,?_,fun q hq f hf=>?_⟩
    · rcases List.mem_cons.1 hf with e | e
      · rw [e];exact h1
      · exact h3 f e
    · unfold KeysOk keyL
      rw [List.map_cons,List.pairwise_cons]
      refine ⟨fun x hx=>?_,h4⟩
      obtain ⟨f,hf,rfl⟩:=List.mem_map.1 hx
      exact h5 g rfl f hf
    · rcases List.mem_cons.1 hf with e | e
      · rw [e];exact h2 q hq
      · exact sls_trans (h2 q hq) (h5 g rfl f e)
  · rintro ⟨h1,h2,h3⟩
    unfold KeysOk keyL at h2
    rw [List.map_cons,List.pairwise_cons] at h2
    refine ⟨⟨h1 g (m_s ..),fun q hq=>h3 q hq g (m_s ..)⟩,fun f hf=>h1 f (m_m _ hf),h2.2,fun q hq f hf=>?_⟩
    cases hq
    exact h2.1 f.1 (List.mem_map.2 ⟨f,hf,rfl⟩)
theorem dir_iff {l:EntryL}:dirM l=true↔(l.length≤20∧(∀ f ∈ l,eoB f=true)∧KeysOk (keyL l)):=by
 unfold dirM
 rw [b_a,decide_eq_true_eq,adj_ent]
 exact ⟨fun h=>⟨by omega,h.2.1,h.2.2.1⟩,fun h=>⟨by omega,h.2.1,h.2.2,fun q hq=>(by cases hq)⟩⟩
theorem drop_keys (key:ByteArray) {l:EntryL} (h:KeysOk (keyL l)):KeysOk (keyL (dropM l key)):=List.Pairwise.sublist (List.Sublist.map _ List.filter_sublist) h
theorem ins_keysG {α:Type} (key:α→ByteArray) {e:α}:∀ {l:List α},KeysOk (l.map key)→(∀ g ∈ l,key g≠key e)→KeysOk ((l.takeWhile (fun x=>sls (key x) (key e)||seq (key x) (key e))++e::l.dropWhile (fun x=>sls (key x) (key e)||seq (key x) (key e))).map key)
 | [],_,_=>List.pairwise_singleton ..
 | g::l,h,hn=>by
  have h':=h
  unfold KeysOk at h'
  rw [List.map_cons,List.pairwise_cons] at h'
  have ih:=ins_keysG key (e:=e) (l:=l) h'.2 fun x hx=>hn x (m_m _ hx)
  rw [List.takeWhile_cons,List.dropWhile_cons]
  have hne:=hn g m_s
  cases c:(sls (key g) (key e)||seq (key g) (key e)) with
  | true =>
   rw [if_pos rfl,if_pos rfl]
   unfold KeysOk at ih ⊢
   rw [List.cons_append,List.map_cons,List.pairwise_cons]
   refine ⟨fun x hx=>?_,ih⟩
   have hge:sls (key g) (key e)=true:=by
    rw [seqF hne,Bool.or_false] at c
    exact c
   obtain ⟨y,hy,rfl⟩:=List.mem_map.1 hx
   rcases List.mem_append.1 hy with w | w
   · exact h'.1 (key y) (List.mem_map.2 ⟨y,List.takeWhile_subset _ w,rfl⟩)
   · rcases List.mem_cons.1 w with w | w
     · rw [w];exact hge
     · exact h'.1 (key y) (List.mem_map.2 ⟨y,List.dropWhile_subset _ w,rfl⟩)
  | false =>
   rw [if_neg (by decide),if_neg (by decide),List.nil_append]
   rw [seqF hne,Bool.or_false] at c
   have hlt:sls (key e) (key g)=true:=by
    have:=sls_total (key e) (key g)
    rw [seqF (fun q=>hne q.symm),c] at this
    simpa using this
   unfold KeysOk
   rw [List.map_cons,List.pairwise_cons]
   refine ⟨fun x hx=>?_,h⟩
   obtain ⟨y,hy,rfl⟩:=List.mem_map.1 hx
   rcases List.mem_cons.1 hy with w | w
   · rw [w];exact hlt
   · exact sls_trans hlt (h'.1 (key y) (List.mem_map.2 ⟨y,w,rfl⟩))
theorem ins_keys {e:Ty.den TEntry} {l:EntryL} (h:KeysOk (keyL l)) (hn:∀ g ∈ l,g.1≠e.1):KeysOk (keyL (insE l e)):=ins_keysG (fun x:Ty.den TEntry=>x.1) h hn
theorem drop_ne {l:EntryL} {key:ByteArray}:∀ g ∈ dropM l key,g.1≠key:=fun g hg q=>by
 unfold dropM at hg
 rw [List.mem_filter] at hg
 have:=hg.2
 rw [q,seq_refl] at this
 cases this
theorem step_keys {d:EntryL} (p:Ty.den TPlace) (h:KeysOk (keyL d)):KeysOk (keyL (stepDir d p)):=by
 unfold stepDir
 cases p.2.2.2.1.1==2 with
 | true=>exact drop_keys _ h
 | false=>exact ins_keys (drop_keys _ h) drop_ne
theorem apply_keys:∀ (ps:PlaceL) {d:EntryL},KeysOk (keyL d)→KeysOk (keyL (applyM d ps))
 | [],_,h=>h
 | p::ps,d,h=>apply_keys ps (d:=stepDir d p) (step_keys p h)
end Go.Proofs.YtmakghhmpgfboaaGreatDoor.G
namespace Go.Proofs.YtmakghhmpgfboaaGreatDoor.G
open Go.V
structure BT (st:Ty.den TStore) (d:Ty.den TDisk):Prop where
 live:liveM st.1=true
 disk:DR d
 full:∀ x ∈ st.1.2.1,∃ t,fT d (namedM segB x)=some t∧FL t
 tail:∀ t,fT d (actB st)=some t→st.2.2.2.1=(t.size:Int)
theorem text_some {d:Ty.den TDisk} (hd:DR d) (s:ByteArray):(textM d s).2=(fT d s).isSome:=by
 rw [text_right hd]
 unfold fT
 cases getM d.1 s <;> rfl
theorem segs_iff {d:Ty.den TDisk} (hd:DR d) {tail:Int}:∀ {l:List Int},segsOk d tail l=true↔((∀ x ∈ l,∃ t,fT d (namedM segB x)=some t∧FL t)∧(l≠[]→∀ t,fT d (namedM segB (lastI l))=some t→tail=(t.size:Int)))
 | []=>⟨fun _=>⟨fun x hx=>(by cases hx),fun h=>absurd rfl h⟩,fun _=>rfl⟩
 | x::l=>by
  have ih:=segs_iff hd (tail:=tail) (l:=l)
  have hl:l≠[]→lastI (x::l)=lastI l:=fun h=>by
   unfold lastI
   cases l with
   | nil=>exact absurd rfl h
   | cons y r=>simp [List.getD]
  unfold segsOk segOk
  simp only [b_a]
  rw [ih,text_some hd,text_fT hd]
  constructor
  · rintro ⟨⟨h1,h2,h3⟩,h4,h5⟩
    obtain ⟨t,ht⟩:=Option.isSome_iff_exists.1 h1
    rw [ht] at h2 h3
    simp only [Option.getD_some,decide_eq_true_eq] at h2
    refine ⟨fun y hy=>?_,fun _ u hu=>?_⟩
    · rcases List.mem_cons.1 hy with e | e
      · rw [e];exact ⟨t,ht,full_of h2⟩
      · exact h4 y e
    · by_cases c:l=[]
      · subst c
        have e:lastI [x]=x:=rfl
        rw [e,ht] at hu
        have hu:=Option.some.inj hu
        rw [← hu]
        simp only [List.isEmpty_nil,n_t,Bool.false_or,Option.getD_some] at h3
        exact q_t h3
      · rw [hl c] at hu
        exact h5 c u hu
  · rintro ⟨h1,h2⟩
    obtain ⟨t,ht,hf⟩:=h1 x m_s
    rw [ht]
    simp only [Option.isSome_some,Option.getD_some,decide_eq_true_eq]
    refine ⟨⟨by trivial,scan_full hf,?_⟩,fun y hy=>h1 y (m_m _ hy),fun c u hu=>h2 (by simp) u (by rw [hl c];exact hu)⟩
    cases l with
    | nil =>
     have:=h2 (by simp) t (by rw [show lastI [x]=x from rfl];exact ht)
     rw [this]
     simp
    | cons y r=>rfl
theorem store_BT {st:Ty.den TStore} {d:Ty.den TDisk} (h:storeM st d=true):BT st d:=by
 obtain ⟨g1,g2,g3⟩:=store_facts h
 unfold storeM at h
 simp only [b_a] at h
 obtain ⟨_,_,k1,_,_⟩:=live_facts (nx:=st.1.1) (ids:=st.1.2.1) g1.live
 obtain ⟨q1,q2⟩:=(segs_iff g1.disk).1 h.2.2.2.2.1
 exact ⟨g1.live,g1.disk,q1,q2 (by intro e;rw [e] at k1;simp at k1)⟩
def PK (d:Ty.den TDisk) (p:Ty.den TPlace):Prop:=recE d (entryOf p)=(recP p,true)
def PE (p:Ty.den TPlace):Prop:=(LE.le (α:=Int) 1 p.1∧LE.le (α:=Int) p.1 100000)∧LE.le (α:=Int) 0 p.2.1∧LE.le (α:=Int) 1 p.2.2.1∧LE.le (α:=Int) p.2.2.1 210
theorem set_BT {st:Ty.den TStore} {d:Ty.den TDisk} (h:BT st d) {r:Ty.den TRec} (hr:recOk r=true) (z:(setR st d r).1.2.2=0):BT (setR st d r).1.1 (setR st d r).1.2.1∧PK (setR st d r).1.2.1 (setR st d r).2∧PE (setR st d r).2:=by
 obtain ⟨b1,b2⟩:=last_in h.live
 obtain ⟨n1,n2,n3,n4⟩:=live_ids (n:=st.1.1) (ids:=st.1.2.1) h.live
 obtain ⟨_,_,g1,_,_⟩:=live_facts (nx:=st.1.1) (ids:=st.1.2.1) h.live
 have hlast:lastI st.1.2.1 ∈ st.1.2.1:=by
  have hs:=last_split g1
  rw [hs]
  exact List.mem_append_right _ (List.mem_singleton.2 (by rw [← hs]))
 have hz:=recLen_lo r
 have hl:((frameM (showRec r)).size:Int)=recLen r:=rfl
 obtain ⟨t,ht,hf⟩:=h.full _ hlast
 have ht:fT d (actB st)=some t:=ht
 have htl:=h.tail t ht
 have ha:=app_DR h.disk (actB st) (frameM (showRec r))
 have ko:∀ s,actB st≠s→fT (appM d (actB st) (frameM (showRec r))).1 s=fT d s:=fun s q=>app_fT q
 have kl:=app_own (d:=d) (s:=actB st) (x:=frameM (showRec r))
 unfold setR at z ⊢
 generalize appM d (actB st) (frameM (showRec r))=a at ha ko kl z ⊢
 cases c:a.2 != 0 with
 | true =>
  rw [c] at z
  have z:(tl a).2=0:=z
  have q:=tl_ne a
  rw [z,c] at q
  cases q
 | false =>
  have c0:(a.2==0)=true:=beq_iff_eq.2 (zero_ne c)
  rw [c0,c_t,ht] at kl
  have kl:fT a.1 (actB st)=some (t++frameM (showRec r)):=kl
  simp only [c_f]
  refine ⟨⟨h.live,ha,fun x hx=>?_,fun u hu=>?_⟩,?_,?_⟩
  · by_cases q:actB st=namedM segB x
    · rw [← q]
      exact ⟨_,kl,full_app hf hr⟩
    · show ∃ t,fT a.1 (namedM segB x)=some t∧FL t
      rw [ko _ q]
      exact h.full x hx
  · have hu:fT a.1 (actB st)=some u:=hu
    rw [kl] at hu
    rw [← Option.some.inj hu,ByteArray.size_append]
    show @Eq Int (st.2.2.2.1+recLen r) ((t.size+(frameM (showRec r)).size:Nat):Int)
    rw [htl]
    omega
  · show recAtM (textM a.1 (actB st)).1 st.2.2.2.1 (recLen r)=(r,true)
    rw [text_fT ha,kl,htl]
    exact recAt_new t hr
  · refine ⟨⟨b1,by show LE.le (α:=Int) (lastI st.1.2.1) 100000;omega⟩,?_,?_,?_⟩
    · show LE.le (α:=Int) 0 st.2.2.2.1
      rw [htl]
      omega
    · show LE.le (α:=Int) 1 (recLen r)
      omega
    · show LE.le (α:=Int) (recLen r) 210
      omega
theorem lastI_snoc (l:List Int) (n:Int):lastI (l++[n])=n:=by
 unfold lastI
 simp [List.getD]
theorem rot_BT {st:Ty.den TStore} {d:Ty.den TDisk} (h:BT st d) (z:(rotR st d).2.2=0):BT (rotR st d).1 (rotR st d).2.1:=by
 obtain ⟨n1,n2,n3,_⟩:=live_ids (n:=st.1.1) (ids:=st.1.2.1) h.live
 have hseg:∀ x:Int,x ∈ st.1.2.1→1≤x∧x≤100000:=fun x hx=>⟨(n3 x hx).1,by have:=(n3 x hx).2;omega⟩
 have hnew:∀ x ∈ st.1.2.1,namedM segB st.1.1≠namedM segB x:=fun x hx=>seg_ne ⟨n1,n2⟩ (hseg x hx) (by have:=(n3 x hx).2;omega)
 have k2:∀ x ∈ st.1.2.1,fT (freshR (namedM segB st.1.1) (synM d (actB st)).1).1 (namedM segB x)=fT d (namedM segB x):=fun x hx=>(fresh_fT (hnew x hx)).trans syn_fT
 have k3:∀ x ∈ st.1.2.1,fT (putLiveR (liveN st) (freshR (namedM segB st.1.1) (synM d (actB st)).1).1).1 (namedM segB x)=fT d (namedM segB x):=fun x hx=>(putLive_fT (seg_temp (hseg x hx)) (seg_live (hseg x hx))).trans (k2 x hx)
 have o2:=fresh_own (s:=namedM segB st.1.1) (d:=(synM d (actB st)).1)
 have o3:fT (putLiveR (liveN st) (freshR (namedM segB st.1.1) (synM d (actB st)).1).1).1 (namedM segB st.1.1)=fT (freshR (namedM segB st.1.1) (synM d (actB st)).1).1 (namedM segB st.1.1):=putLive_fT (seg_temp ⟨n1,n2⟩) (seg_live ⟨n1,n2⟩)
 have h1:=syn_DR h.disk (actB st)
 have h2:=fresh_DR (namedM segB st.1.1) _ h1
 have h3:=putLive_DR (liveN st) _ h2
 unfold rotR at z ⊢
 by_cases c1:(st.1.2.1.length:Int)≥60
 · rw [decT c1] at z
   exact absurd z (by show (5:Int)≠0;decide)
 by_cases c2:st.1.1≥(100000:Int)
 · rw [decF c1,decT c2] at z
   exact absurd z (by show (5:Int)≠0;decide)
 have c1':st.1.2.1.length<60:=by omega
 have c2':LT.lt (α:=Int) st.1.1 100000:=Int.not_le.1 c2
 have hg:liveM (grownS st).1=true:=live_grow h.live c2' c1'
 rw [decF c1,decF c2] at z ⊢
 simp only [c_f] at z ⊢
 generalize synM d (actB st)=r1 at h1 h2 h3 k2 k3 o2 o3 z ⊢
 generalize freshR (namedM segB st.1.1) r1.1=r2 at h2 h3 k2 k3 o2 o3 z ⊢
 generalize putLiveR (liveN st) r2.1=r3 at h3 k3 o3 z ⊢
 have tlz:∀ r:RD,(r.2 != 0)=true→(tl r).2≠0:=fun r q e=>by
  have:=tl_ne r
  rw [e,q] at this
  cases this
 cases e1:r1.2 != 0 with
 | true=>rw [e1] at z;exact absurd z (tlz r1 e1)
 | false =>
  rw [e1] at z
  simp only [c_f] at z ⊢
  cases e2:r2.2 != 0 with
  | true=>rw [e2] at z;exact absurd z (tlz r2 e2)
  | false =>
   rw [e2] at z
   simp only [c_f] at z ⊢
   have o2:=o2 (zero_ne e2)
   cases e3:r3.2 != 0 with
   | true =>
    rw [e3] at z
    simp only [c_t] at z
    refine absurd z ?_
    unfold dropsT
    cases q:(tl r3).2==2 with
    | false=>exact tlz r3 e3
    | true =>
     show (bif (dropsR [tempB,namedM segB st.1.1] (tl r3).1).2==0 then (2:Int) else toldM (dropsR [tempB,namedM segB st.1.1] (tl r3).1).2)≠0
     cases w:(dropsR [tempB,namedM segB st.1.1] (tl r3).1).2==0 with
     | true=>show (2:Int)≠0;decide
     | false =>
      intro e
      have:=toldM_zero (dropsR [tempB,namedM segB st.1.1] (tl r3).1).2
      rw [w] at this
      simp only [c_f] at e
      rw [e] at this
      cases this
   | false =>
    simp only [c_f]
    refine ⟨hg,h3,fun x hx=>?_,fun u hu=>?_⟩
    · have hx:x ∈ st.1.2.1++[st.1.1]:=hx
      rcases List.mem_append.1 hx with w | w
      · show ∃ t,fT r3.1 (namedM segB x)=some t∧FL t
        rw [k3 x w]
        exact h.full x w
      · rw [List.mem_singleton.1 w]
        exact ⟨_,o3.trans o2,full_none⟩
    · have hu:fT r3.1 (namedM segB (lastI (st.1.2.1++[st.1.1])))=some u:=hu
      rw [lastI_snoc,o3,o2] at hu
      rw [← Option.some.inj hu]
      rfl
theorem add_BT {st:Ty.den TStore} {d:Ty.den TDisk} (h:BT st d) {r:Ty.den TRec} (hr:recOk r=true) (z:(addR st d r).1.2.2=0):BT (addR st d r).1.1 (addR st d r).1.2.1∧PK (addR st d r).1.2.1 (addR st d r).2∧PE (addR st d r).2:=by
 have hq:=rot_BT h
 unfold addR at z ⊢
 cases c:decide (st.2.2.2.1 > 0)&&decide (st.2.2.2.1+recLen r > 200) with
 | false =>
  rw [c] at z
  exact set_BT h hr z
 | true =>
  rw [c] at z
  simp only [c_t] at z ⊢
  generalize rotR st d=q at hq z ⊢
  cases c2:q.2.2 != 0 with
  | true =>
   rw [c2] at z
   have z:q.2.2=0:=z
   rw [z] at c2
   cases c2
  | false =>
   rw [c2] at z
   exact set_BT (hq (zero_ne c2)) hr z
theorem adds_BT:∀ (l:RecL) (st:Ty.den TStore) (d:Ty.den TDisk) (ps:PlaceL),BT st d→(∀ r ∈ l,recOk r=true)→(∀ p ∈ ps,PK d p∧PE p∧LT.lt (α:=Int) p.1 st.1.1)→(addsR l st d ps).1.2.2=0 →
 BT (addsR l st d ps).1.1 (addsR l st d ps).1.2.1∧∀ p ∈ (addsR l st d ps).2,PK (addsR l st d ps).1.2.1 p∧PE p∧LT.lt (α:=Int) p.1 (addsR l st d ps).1.1.1.1
 | [],st,d,ps,h,_,hp,_=>⟨h,hp⟩
 | r::l,st,d,ps,h,hr,hp,z=>by
  have hb:=add_BT h (hr r m_s)
  obtain ⟨s1,s2,s3,s4⟩:=add_ext (d:=d) h.live h.disk r
  unfold addsR at z ⊢
  generalize addR st d r=q at hb s1 s2 s3 s4 z ⊢
  cases c:q.1.2.2 != 0 with
  | true =>
   rw [c] at z
   have z:q.1.2.2=0:=z
   rw [z] at c
   cases c
  | false =>
   have e0:=zero_ne c
   obtain ⟨k1,k2,k3⟩:=hb e0
   rw [c] at z
   simp only [c_f] at z ⊢
   refine adds_BT l q.1.1 q.1.2.1 (ps++[q.2]) k1 (fun x hx=>hr x (m_m _ hx)) (fun p hq=>?_) z
   rcases List.mem_append.1 hq with w | w
   · obtain ⟨p1,p2,p3⟩:=hp p w
     refine ⟨?_,p2,Int.lt_of_lt_of_le p3 s2⟩
     have p1':recE d (entryOf p)=(recP p,true):=p1
     show recE q.1.2.1 (entryOf p)=(recP p,true)
     rw [recE_ext h.disk k1.disk s1 p2.1.1 p3 p2.1.2 (by rw [p1']),p1']
   · rw [List.mem_singleton.1 w]
     exact ⟨k2,k3,(s4 e0).2⟩
theorem recs_ok {l:PutL} {b:Int} (h:putsOk l=true) (h0:1≤b) (h1:b≤1000000):∀ r ∈ recsM l b,recOk r=true:=by
 intro r hr
 unfold recsM at hr
 rcases List.mem_append.1 hr with w | w
 · obtain ⟨x,hx,e⟩:=List.mem_map.1 w
   have hp:=putsOk_mem h hx
   unfold putOkB keyOkB at hp
   simp only [b_a] at hp
   rw [← e]
   unfold putR recOk
   cases c:x.2.1 with
   | true =>
    simp only [c_t]
    rw [show ((2:Int)==1||(2:Int)==4)=false from rfl,show ((2:Int)==2)=true from rfl]
    simp only [c_f,c_t]
    rw [hp.1,decT (show 1≤b∧b≤1000000 from ⟨h0,h1⟩),show seq ByteArray.empty ⟨#[]⟩=true from seq_refl _]
    rfl
   | false =>
    simp only [c_f]
    rw [show ((1:Int)==1||(1:Int)==4)=true from rfl]
    simp only [c_t]
    rw [hp.1,hp.2.1,decT (show 1≤b∧b≤1000000 from ⟨h0,h1⟩)]
    rfl
 · have hl:=putsOk_len h
   have hs:=sumM_in (l.map (putR b))
   rw [List.mem_singleton.1 w]
   unfold sealR recOk
   rw [show ((3:Int)==1||(3:Int)==4)=false from rfl,show ((3:Int)==2)=false from rfl,show ((3:Int)==3)=true from rfl]
   simp only [c_f,c_t]
   rw [decT (show (0:Int)≤((l.map (putR b)).length:Int)∧((l.map (putR b)).length:Int)≤8 by rw [List.length_map];omega),decT (show 0≤sumM (l.map (putR b))∧sumM (l.map (putR b))≤4294967295 from hs),decT (show 1≤b∧b≤1000000 from ⟨h0,h1⟩),show seq ByteArray.empty ⟨#[]⟩=true from seq_refl _]
   rfl
def leK (key x:ByteArray):Bool:=sls x key||seq x key
def insK (K:List ByteArray) (key:ByteArray):List ByteArray:=K.takeWhile (leK key)++key::K.dropWhile (leK key)
theorem keyL_drop (l:EntryL) (key:ByteArray):keyL (dropM l key)=(keyL l).filter fun x=>!(seq x key):=by
 unfold keyL dropM
 rw [List.filter_map]
 rfl
theorem keyL_ins (l:EntryL) (e:Ty.den TEntry):keyL (insE l e)=insK (keyL l) e.1:=by
 unfold keyL insE insK
 rw [List.map_append,List.map_cons,List.takeWhile_map,List.dropWhile_map]
 rfl
theorem dirW_keys:∀ (l:PutL) (d d' es fs:EntryL),keyL d=keyL d'→keyL es=keyL fs→keyL (dirW d l es)=keyL (dirW d' l fs)
 | [],d,d',es,fs,h,_=>by rw [dirW_nil,dirW_nil];exact h
 | x::l,d,d',[],[],h,_=>by unfold dirW;exact h
 | x::l,d,d',e::es,[],_,g=>by cases g
 | x::l,d,d',[],f::fs,_,g=>by cases g
 | x::l,d,d',e::es,f::fs,h,g=>by
  unfold keyL at g
  rw [List.map_cons,List.map_cons] at g
  injection g with g1 g2
  unfold dirW
  refine dirW_keys l _ _ es fs ?_ g2
  cases x.2.1 with
  | true=>simp only [c_t];rw [keyL_drop,keyL_drop,h]
  | false =>
   simp only [c_f]
   unfold putM
   rw [keyL_ins,keyL_ins,keyL_drop,keyL_drop,h,g1]
theorem i_up {a:Int} (h:1≤a) (g:a≤1000000):1≤a+1∧a+1≤1000001:=by omega
theorem i_lt (a:Int):¬ a≥a+1:=by omega
theorem i_not {a b:Int} (h:¬ b≥a):¬ b≥a+1:=by omega
theorem write_store {st:Ty.den TStore} {d:Ty.den TDisk} {l:PutL} (hs:storeM st d=true) (he:EI st) (hp:putsOk l=true) (hb:LE.le (α:=Int) st.2.2.1 1000000) (ha:afterM st.2.1 l≤20) (z:(writeR st d l).2.2=0):storeM (writeR st d l).1 (writeR st d l).2.1=true ∧
 (∀ e ∈ (writeR st d l).1.2.1,(e ∈ st.2.1∧recE (writeR st d l).2.1 e=recE d e)∨∃ x ∈ l,x.2.1=false∧e.1=x.1∧recE (writeR st d l).2.1 e=(putR st.2.2.1 x,true)) ∧
 keyL (writeR st d l).1.2.1=keyL (dirW st.2.1 l (l.map keyE)):=by
 obtain ⟨g1,g2,g3⟩:=store_facts hs
 have hBT:=store_BT hs
 have hs':=hs
 unfold storeM at hs'
 simp only [b_a] at hs'
 obtain ⟨_,_,hdir,_,_,hent⟩:=hs'
 obtain ⟨d1,d2,d3⟩:=dir_iff.1 hdir
 have hl8:=putsOk_len hp
 have hbat:SR (batS st) (d,0) 100000:=⟨g1.live,g1.disk,g1.lo,g1.hi⟩
 obtain ⟨f1,f2,f3⟩:=adds_facts (recsM l st.2.2.1) (batS st) d [] 100000 hbat (by decide)
 obtain ⟨s1,s2,s3,s4⟩:=adds_ext (recsM l st.2.2.1) (batS st) d [] 100000 hbat (by decide) (fun x hx=>by cases hx)
 have hB:=adds_BT (recsM l st.2.2.1) (batS st) d [] ⟨hBT.live,hBT.disk,hBT.full,hBT.tail⟩ (recs_ok hp g3 hb) (fun x hx=>by cases hx)
 unfold writeR at z ⊢
 generalize addsR (recsM l st.2.2.1) (batS st) d []=q at f1 f2 f3 s1 s2 s3 s4 hB z ⊢
 have e2:q.1.1.2.1=st.2.1:=f2
 have s1:EX st.1.1 d q.1.2.1:=s1
 have s3:q.1.1.2.2.1=st.2.2.1+1:=s3
 unfold endR at z ⊢
 cases c:q.1.2.2 != 0 with
 | true =>
  rw [c] at z
  have z:q.1.2.2=0:=z
  rw [z] at c
  cases c
 | false =>
  rw [c] at z
  simp only [c_f] at z ⊢
  have c0:=zero_ne c
  have f3:=f3 c0
  rw [List.map_nil,List.nil_append] at f3
  obtain ⟨hB1,hB2⟩:=hB c0
  have y0:=ex_trans s1 (ex_syn st.1.1 q.1.2.1 (actB q.1.1))
  have y1:=syn_DR hB1.disk (actB q.1.1)
  have y2:∀ s,fT (synM q.1.2.1 (actB q.1.1)).1 s=fT q.1.2.1 s:=fun s=>syn_fT
  generalize synM q.1.2.1 (actB q.1.1)=y at y0 y1 y2 z ⊢
  cases cy:y.2 != 0 with
  | true =>
   rw [cy] at z
   have z:(tl y).2=0:=z
   have q:=tl_ne y
   rw [z,cy] at q
   cases q
  | false =>
   simp only [c_f]
   have hrp:∀ p ∈ q.2.take l.length,recP p ∈ l.map (putR st.2.2.1):=fun p hp=>by
    have h1:(q.2.take l.length).map recP=l.map (putR st.2.2.1):=by
     rw [List.map_take,f3]
     unfold recsM
     rw [List.take_append_of_le_length (by rw [List.length_map];omega),List.take_of_length_le (by rw [List.length_map];omega)]
    rw [← h1]
    exact List.mem_map.2 ⟨p,hp,rfl⟩
   have hPK:∀ p ∈ q.2.take l.length,recE y.1 (entryOf p)=(recP p,true):=fun p hp=>by
    obtain ⟨p1,_,_⟩:=hB2 p (List.mem_of_mem_take hp)
    have p1:recE q.1.2.1 (entryOf p)=(recP p,true):=p1
    rw [← p1]
    unfold recE
    rw [text_fT y1,text_fT hB1.disk,y2]
   have newE:∀ e ∈ applyM q.1.1.2.1 (q.2.take l.length),(∃ p ∈ q.2.take l.length,e=entryOf p∧(p.2.2.2.1.1==2)=false)∨e ∈ st.2.1:=fun e hq=>by
    rw [e2] at hq
    exact apply_mem _ hq
   have hput:∀ p ∈ q.2.take l.length,keyOkB (entryOf p).1=true∧(recP p).2.1=st.2.2.1∧((recP p).1=1∨(recP p).1=2):=fun p hq=>by
    obtain ⟨x,hx,e⟩:=List.mem_map.1 (hrp p hq)
    have hk:=putsOk_mem hp hx
    unfold putOkB at hk
    simp only [b_a] at hk
    refine ⟨?_,?_,?_⟩
    · show keyOkB (recP p).2.2.1=true
      rw [← e]
      unfold putR
      cases x.2.1 <;> exact hk.1
    · rw [← e]
      unfold putR
      cases x.2.1 <;> rfl
    · rw [← e]
      unfold putR
      cases x.2.1
      · exact .inl rfl
      · exact .inr rfl
   have hkeys:keyL (applyM st.2.1 (q.2.take l.length))=keyL (dirW st.2.1 l (l.map keyE)):=by
    have k1:keyL (dirW st.2.1 l (q.2.map entryOf))=keyL (dirW st.2.1 l (l.map keyE++[keyE (ByteArray.empty,(false,(ByteArray.empty,())))])):=by
     refine dirW_keys l _ _ _ _ rfl ?_
     unfold keyL
     rw [List.map_map,show q.2.map ((fun x:Ty.den TEntry=>x.1) ∘ entryOf)=(q.2.map recP).map (fun r:Ty.den TRec=>r.2.2.1) from by rw [List.map_map];rfl,f3]
     unfold recsM
     rw [List.map_append,List.map_append,List.map_map,List.map_map]
     congr 1
     refine List.map_congr_left fun x _=>?_
     show (putR st.2.2.1 x).2.2.1=x.1
     unfold putR
     cases x.2.1 <;> rfl
    have k2:∀ (l:PutL) (d:EntryL) (m:EntryL),dirW d l (l.map keyE++m)=dirW d l (l.map keyE):=by
     intro l
     induction l with
     | nil=>intro d m;rw [dirW_nil,dirW_nil]
     | cons x l ih =>
      intro d m
      rw [List.map_cons,List.cons_append]
      unfold dirW
      exact ih _ m
    rw [k2,dirW_apply st.2.2.1 l q.2 [sealR 3 st.2.2.1 (l.map (putR st.2.2.1))] st.2.1 f3] at k1
    exact k1
   have oldE:∀ e ∈ st.2.1,recE y.1 e=recE d e:=fun e w=>by
    have hin:=List.all_eq_true.1 hent e w
    obtain ⟨i1,i2⟩:=he e w
    have i3:LE.le (α:=Int) e.2.1 100000:=by
     have:=d2 e w
     unfold eoB at this
     simp only [b_a,decide_eq_true_eq] at this
     exact this.2.1.2
    unfold entIn at hin
    simp only [b_a] at hin
    exact recE_ext g1.disk y1 y0 i1 i2 i3 hin.1
   refine ⟨?_,fun e hq=>?_,by show keyL (applyM q.1.1.2.1 (q.2.take l.length))=_;rw [e2];exact hkeys⟩
   rotate_left
   · show (e ∈ st.2.1∧recE y.1 e=recE d e)∨∃ x ∈ l,x.2.1=false∧e.1=x.1∧recE y.1 e=(putR st.2.2.1 x,true)
     rcases newE e hq with ⟨p,hq',w,kd⟩ | w
     · obtain ⟨x,hx,ex⟩:=List.mem_map.1 (hrp p hq')
       have kd:((recP p).1==2)=false:=kd
       have cx:x.2.1=false:=by
        cases c:x.2.1 with
        | false=>rfl
        | true =>
         rw [← ex] at kd
         unfold putR at kd
         rw [c] at kd
         cases kd
       refine .inr ⟨x,hx,cx,?_,?_⟩
       · rw [w]
         show (recP p).2.2.1=x.1
         rw [← ex]
         unfold putR
         rw [cx]
         rfl
       · rw [w,hPK p hq',ex]
     · exact .inl ⟨w,oldE e w⟩
   unfold storeM
   simp only [b_a]
   refine ⟨disk_iff.2 y1,hB1.live,dir_iff.2 ⟨?_,fun e hq=>?_,?_⟩,decide_eq_true ?_,(segs_iff y1).2 ⟨fun x hx=>?_,fun _ u hu=>?_⟩,List.all_eq_true.2 fun e hq=>?_⟩
   · have k3:=congrArg List.length hkeys
     unfold keyL at k3
     rw [List.length_map,List.length_map] at k3
     show (applyM q.1.1.2.1 (q.2.take l.length)).length≤20
     rw [e2,k3]
     unfold afterM at ha
     omega
   · rcases newE e hq with ⟨p,hq',w,_⟩ | w
     · obtain ⟨_,p2,_⟩:=hB2 p (List.mem_of_mem_take hq')
       obtain ⟨u1,u2,u3⟩:=hput p hq'
       rw [w]
       unfold eoB
       rw [u1,decT (show (1:Int)≤(entryOf p).2.1∧(entryOf p).2.1≤100000 from p2.1),decF (show ¬ (entryOf p).2.2.1<(0:Int) from Int.not_lt.2 p2.2.1),decT (show (1:Int)≤(entryOf p).2.2.2.1∧(entryOf p).2.2.2.1≤210 from p2.2.2),
        decT (show (1:Int)≤(entryOf p).2.2.2.2.1∧(entryOf p).2.2.2.2.1≤1000000 from by show (1:Int)≤(recP p).2.1∧(recP p).2.1≤1000000;rw [u2];exact ⟨g3,hb⟩)]
       rfl
     · exact d2 e w
   · show KeysOk (keyL (applyM q.1.1.2.1 (q.2.take l.length)))
     rw [e2]
     exact apply_keys _ d3
   · show (1:Int)≤q.1.1.2.2.1∧q.1.1.2.2.1≤1000001
     rw [s3]
     exact i_up g3 hb
   · show ∃ t,fT y.1 (namedM segB x)=some t∧FL t
     rw [y2]
     exact hB1.full x hx
   · have hu:fT y.1 (actB q.1.1)=some u:=hu
     rw [y2] at hu
     exact hB1.tail u hu
   · show entIn y.1 q.1.1.2.2.1 e=true
     rw [s3]
     rcases newE e hq with ⟨p,hq',w,kd⟩ | w
     · obtain ⟨u1,u2,u3⟩:=hput p hq'
       have hr:=hPK p hq'
       have kd:((recP p).1==2)=false:=kd
       have k1:(recP p).1=1:=by
        rcases u3 with v | v
        · exact v
        · rw [v] at kd;cases kd
       unfold entIn
       rw [w,hr]
       simp only []
       rw [show (entryOf p).1=(recP p).2.2.1 from rfl,seq_refl,show (entryOf p).2.2.2.2.1=(recP p).2.1 from rfl,beq_self_eq_true,k1,u2,decF (i_lt st.2.2.1)]
       rfl
     · have hin:=List.all_eq_true.1 hent e w
       obtain ⟨i1,i2⟩:=he e w
       have i3:LE.le (α:=Int) e.2.1 100000:=by
        have:=d2 e w
        unfold eoB at this
        simp only [b_a,decide_eq_true_eq] at this
        exact this.2.1.2
       unfold entIn at hin ⊢
       simp only [b_a] at hin ⊢
       rw [recE_ext g1.disk y1 y0 i1 i2 i3 hin.1]
       refine ⟨hin.1,hin.2.1,hin.2.2.1,hin.2.2.2.1,?_⟩
       have hlt:=hin.2.2.2.2
       simp only [Bool.not_eq_true',decide_eq_false_iff_not] at hlt ⊢
       exact i_not hlt
end Go.Proofs.YtmakghhmpgfboaaGreatDoor.G
namespace Go.Proofs.YtmakghhmpgfboaaGreatDoor.G
open Go.V
theorem nm_digits:∀ l:List Nat,(∀ b ∈ l,48≤b∧b≤57)→nmBytes l=true
 | [],_=>rfl
 | b::l,h=>by
  unfold nmBytes
  rw [nm_digits l fun x hx=>h x (m_m _ hx),decT (h b m_s),Bool.or_true]
  rfl
theorem name_seg {n:Int} (h:1≤n∧n≤100000):nameM (namedM segB n)=true:=by
 have hz:=decB_small (n:=n) (by omega) (by omega)
 have h3:segB.size=3:=rfl
 rw [seg_form h]
 have hs:(segB++decB n).size=3+(decB n).size:=by rw [ByteArray.size_append,h3]
 have hl:(decB n).size≤6:=by
  rw [← nb_len,nb_decB,if_neg (by omega),List.length_map]
  have:=decDigits_len 5 n.toNat (by omega)
  omega
 unfold nameM
 rw [decT (show 1≤(segB++decB n).size∧(segB++decB n).size≤12 from ⟨by omega,by omega⟩),Bool.and_true,nb_app,nb_decB,if_neg (by omega)]
 show nmBytes (115::101::103::(Lib.decDigits n.toNat).map UInt8.toNat)=true
 simp only [nmBytes]
 rw [nm_digits _ fun b hb=>?_]
 · decide
 · obtain ⟨x,hx,rfl⟩:=List.mem_map.1 hb
   exact decDigits_digit _ x hx
structure RM (d:Ty.den TDisk) (F U:Nat):Prop where
 disk:DR d
 fuel:d.2.2.1=(-1:Int)
 up:d.2.2.2.1=false
 cap:d.2.1=(100000:Int)
 files:d.1.length≤F
 use:used d.1≤U
theorem RM.mono {d:Ty.den TDisk} {F U F' U':Nat} (h:RM d F U) (h1:F≤F') (h2:U≤U'):RM d F' U':=⟨h.disk,h.fuel,h.up,h.cap,Nat.le_trans h.files h1,Nat.le_trans h.use h2⟩
theorem beg_RM {d:Ty.den TDisk} {F U:Nat} (h:RM d F U):begM d=(d,0):=by
 unfold begM
 rw [disk_iff.2 h.disk,h.up,h.fuel]
 rfl
theorem step_RM {d:Ty.den TDisk} {F U F' U':Nat} (h:RM d F U) {g:FileL→Int→FileL × Int} (hd:DR (stepM d g).1) (h1:(g d.1 d.2.1).1.length≤F') (h2:used (g d.1 d.2.1).1≤U'):RM (stepM d g).1 F' U'∧(stepM d g).2=(g d.1 d.2.1).2:=by
 have e:stepM d g=(((g d.1 d.2.1).1,d.2),(g d.1 d.2.1).2):=by
  unfold stepM
  rw [beg_RM h]
  rfl
 rw [e] at hd ⊢
 exact ⟨⟨hd,h.fuel,h.up,h.cap,h1,h2⟩,rfl⟩
theorem cre_RM {d:Ty.den TDisk} {F U:Nat} (h:RM d F U) (hF:F<130) {s:ByteArray} (hn:nameM s=true) (hx:getM d.1 s=none):RM (creM d s).1 (F+1) U∧(creM d s).2=0:=by
 have hg:creG s d.1 d.2.1=(insF d.1 (s,(ByteArray.empty,(0,()))),0):=by
  unfold creG
  rw [hn,hx,decF (by have:=h.files;omega)]
  rfl
 have:=step_RM h (g:=creG s) (cre_DR h.disk s) (F':=F+1) (U':=U) (by rw [hg];show (insF _ _).length≤_;rw [len_ins];have:=h.files;omega) (by rw [hg];show used (insF _ _)≤_;rw [used_ins];exact h.use)
 rw [hg] at this
 exact this
theorem rem_RM {d:Ty.den TDisk} {F U:Nat} (h:RM d F U) {s:ByteArray} (hx:(getM d.1 s).isSome=true):RM (remM d s).1 F U∧(remM d s).2=0∧getM (remM d s).1.1 s=none:=by
 have hn:(getM d.1 s).isNone=false:=by cases q:getM d.1 s with
  | none=>rw [q] at hx;cases hx
  | some f=>rfl
 have hg:remG s d.1 d.2.1=(delF d.1 s,0):=by
  unfold remG
  rw [hn]
  rfl
 have hl:∀ (l:FileL),(delF l s).length≤l.length:=by
  intro l
  induction l with
  | nil=>exact Nat.le_refl _
  | cons g l ih =>
   unfold delF
   cases seq g.1 s with
   | true=>exact Nat.le_succ _
   | false=>show (delF l s).length+1≤l.length+1;omega
 have:=step_RM h (g:=remG s) (rem_DR h.disk s) (F':=F) (U':=U) (by rw [hg];exact Nat.le_trans (hl _) h.files) (by rw [hg];exact Nat.le_trans (used_del_le _ _) h.use)
 rw [hg] at this
 refine ⟨this.1,this.2,?_⟩
 have e:(remM d s).1.1=delF d.1 s:=by
  show (stepM d (remG s)).1.1=_
  unfold stepM
  rw [beg_RM h,hg]
  rfl
 rw [e]
 exact del_none h.disk.keys s
theorem gone_RM {d:Ty.den TDisk} {F U:Nat} (h:RM d F U) (s:ByteArray):RM (goneR s d).1 F U∧(goneR s d).2=0∧getM (goneR s d).1.1 s=none:=by
 unfold goneR
 cases c:(getM d.1 s).isSome with
 | true=>exact rem_RM h c
 | false =>
  refine ⟨h,rfl,?_⟩
  cases q:getM d.1 s with
  | none=>exact q
  | some f=>rw [q] at c;cases c
theorem seqR_of {r:RD} {f:Ty.den TDisk→RD} (h:r.2=0):seqR r f=f r.1:=by
 unfold seqR
 rw [h]
 rfl
theorem fresh_RM {d:Ty.den TDisk} {F U:Nat} (h:RM d F U) (hF:F<130) {s:ByteArray} (hn:nameM s=true):RM (freshR s d).1 (F+1) U∧(freshR s d).2=0:=by
 obtain ⟨g1,g2,g3⟩:=gone_RM h s
 unfold freshR
 rw [seqR_of g2]
 exact cre_RM g1 hF hn g3
theorem app_RM {d:Ty.den TDisk} {F U:Nat} (h:RM d F U) {s x:ByteArray} {n:Nat} (hx:(fT d s).isSome=true) (hn:x.size≤n) (hU:U+n≤100000):RM (appM d s x).1 F (U+n)∧(appM d s x).2=0:=by
 unfold fT at hx
 have hu:=h.use
 cases q:getM d.1 s with
 | none=>rw [q] at hx;cases hx
 | some f =>
  have hg:appG s x d.1 d.2.1=(updF (fun f=>(f.1,(f.2.1++x,f.2.2))) d.1 s,0):=by
   unfold appG
   rw [q,h.cap,w64_eq (n:=100000-(used d.1:Int)) (by omega) (by omega),decF (by omega)]
   rfl
  have hz:=used_upd (h:=fun f:Ty.den TFile=>(f.1,(f.2.1++x,f.2.2))) q
  have hs:(f.2.1++x).size=f.2.1.size+x.size:=ByteArray.size_append ..
  simp only [] at hz
  have:=step_RM h (g:=appG s x) (app_DR h.disk s x) (F':=F) (U':=U+n) (by rw [hg];show (updF _ _ _).length≤_;rw [len_upd];exact h.files) (by rw [hg];show used (updF _ _ _)≤_;omega)
  rw [hg] at this
  exact this
theorem syn_RM {d:Ty.den TDisk} {F U:Nat} (h:RM d F U) {s:ByteArray} (hx:(fT d s).isSome=true):RM (synM d s).1 F U∧(synM d s).2=0:=by
 unfold fT at hx
 have hu:=h.use
 cases q:getM d.1 s with
 | none=>rw [q] at hx;cases hx
 | some f =>
  have hg:synG s d.1 d.2.1=(updF (fun f=>(f.1,(f.2.1,((f.2.1.size:Int),f.2.2.2)))) d.1 s,0):=by
   unfold synG
   rw [q]
   rfl
  have hz:=used_upd (h:=fun f:Ty.den TFile=>(f.1,(f.2.1,((f.2.1.size:Int),f.2.2.2)))) q
  simp only [] at hz
  have:=step_RM h (g:=synG s) (syn_DR h.disk s) (F':=F) (U':=U) (by rw [hg];show (updF _ _ _).length≤_;rw [len_upd];exact h.files) (by rw [hg];show used (updF _ _ _)≤_;omega)
  rw [hg] at this
  exact this
theorem ren_RM {d:Ty.den TDisk} {F U:Nat} (h:RM d F U) {a b:ByteArray} (hn:nameM b=true) (hab:a≠b) (hx:(fT d a).isSome=true):RM (renM d a b).1 F U∧(renM d a b).2=0:=by
 unfold fT at hx
 have hu:=h.use
 cases q:getM d.1 a with
 | none=>rw [q] at hx;cases hx
 | some f =>
  have hg:renG a b d.1 d.2.1=(insF (delF (delF d.1 a) b) (b,f.2),0):=by
   unfold renG
   rw [hn,q,seqF hab]
   rfl
  have hz:=used_del q
  have hz2:=used_del_le (delF d.1 a) b
  have hl:∀ (s:ByteArray) (l:FileL),(delF l s).length≤l.length:=by
   intro s l
   induction l with
   | nil=>exact Nat.le_refl _
   | cons g l ih =>
    unfold delF
    cases seq g.1 s with
    | true=>exact Nat.le_succ _
    | false=>show (delF l s).length+1≤l.length+1;omega
  have hl1:∀ l:FileL,∀ f,getM l a=some f→(delF l a).length+1=l.length:=by
   intro l
   induction l with
   | nil=>intro f q;cases q
   | cons g l ih =>
    intro f q
    unfold getM at q
    unfold delF
    cases c:seq g.1 a with
    | true=>rfl
    | false =>
     rw [c] at q
     have:=ih f q
     show (delF l a).length+1+1=l.length+1
     omega
  have hl2:=hl b (delF d.1 a)
  have hl3:=hl1 d.1 f q
  have hf:=h.files
  have:=step_RM h (g:=renG a b) (ren_DR h.disk a b) (F':=F) (U':=U) (by rw [hg];show (insF _ _).length≤_;rw [len_ins];omega) (by rw [hg];show used (insF _ _)≤_;rw [used_ins];show used _+f.2.1.size≤_;omega)
  rw [hg] at this
  exact this
theorem file_RM {d:Ty.den TDisk} {F U:Nat} (h:RM d F U) (hF:F<130) {s t:ByteArray} {n:Nat} (hn:nameM s=true) (ht:t.size≤n) (hU:U+n≤100000):RM (fileR s t d).1 (F+1) (U+n)∧(fileR s t d).2=0∧(fT (fileR s t d).1 s).isSome=true:=by
 obtain ⟨a1,a2⟩:=fresh_RM h hF hn
 have a3:=fresh_own (s:=s) (d:=d) a2
 obtain ⟨b1,b2⟩:=app_RM a1 (s:=s) (x:=t) (n:=n) (by rw [a3];rfl) ht hU
 have b3:=app_own (d:=(freshR s d).1) (s:=s) (x:=t)
 rw [b2,a3] at b3
 have b3:fT (appM (freshR s d).1 s t).1 s=some (ByteArray.empty++t):=b3
 obtain ⟨c1,c2⟩:=syn_RM b1 (s:=s) (by rw [b3];rfl)
 unfold fileR
 rw [seqR_of a2,seqR_of b2]
 exact ⟨c1,c2,by rw [syn_fT,b3];rfl⟩
theorem showLive_small (v:Ty.den TLive):(showLiveM v).size≤211:=by
 unfold showLiveM
 split
 · exact frameM_size (liveT v)
 · decide
theorem putLive_RM {d:Ty.den TDisk} {F U:Nat} (h:RM d F U) (hF:F<130) (hU:U+211≤100000) (v:Ty.den TLive):RM (putLiveR v d).1 (F+1) (U+211)∧(putLiveR v d).2=0:=by
 obtain ⟨a1,a2,a3⟩:=file_RM h hF (s:=tempB) (t:=showLiveM v) (n:=211) (by decide) (showLive_small v) hU
 unfold putLiveR
 rw [seqR_of a2]
 exact ren_RM a1 (by decide) (by decide) a3
theorem rot_RM {st:Ty.den TStore} {d:Ty.den TDisk} {F U:Nat} (h:RM d F U) (hb:BT st d) (hF:F+1<130) (hU:U+211≤100000) (hi:st.1.2.1.length<60) (hn:LT.lt (α:=Int) st.1.1 100000) :
 RM (rotR st d).2.1 (F+2) (U+211)∧(rotR st d).2.2=0∧(rotR st d).1.1.2.1.length=st.1.2.1.length+1∧(rotR st d).1.1.1=st.1.1+1:=by
 obtain ⟨n1,n2,n3,_⟩:=live_ids (n:=st.1.1) (ids:=st.1.2.1) hb.live
 obtain ⟨_,_,g1,_,_⟩:=live_facts (nx:=st.1.1) (ids:=st.1.2.1) hb.live
 have hlast:lastI st.1.2.1 ∈ st.1.2.1:=by
  have hs:=last_split g1
  rw [hs]
  exact List.mem_append_right _ (List.mem_singleton.2 (by rw [← hs]))
 obtain ⟨t,ht,_⟩:=hb.full _ hlast
 obtain ⟨a1,a2⟩:=syn_RM h (s:=actB st) (by rw [show fT d (actB st)=some t from ht];rfl)
 obtain ⟨b1,b2⟩:=fresh_RM a1 (by omega) (name_seg ⟨n1,n2⟩)
 obtain ⟨c1,c2⟩:=putLive_RM b1 (by omega) hU (liveN st)
 unfold rotR
 rw [decF (show ¬ (st.1.2.1.length:Int)≥60 by omega),decF (show ¬ st.1.1≥(100000:Int) from Int.not_le.2 hn),a2,b2,c2]
 refine ⟨c1,rfl,?_,rfl⟩
 show (st.1.2.1++[st.1.1]).length=_
 rw [l_a,List.length_singleton]
theorem recLen_small (r:Ty.den TRec):(frameM (showRec r)).size≤210:=by
 have:=recLen_lo r
 unfold recLen at this
 omega
theorem set_RM {st:Ty.den TStore} {d:Ty.den TDisk} {F U:Nat} (h:RM d F U) (hb:BT st d) (hU:U+210≤100000) (r:Ty.den TRec) :
 RM (setR st d r).1.2.1 F (U+210)∧(setR st d r).1.2.2=0∧(setR st d r).1.1.1=st.1:=by
 obtain ⟨_,_,g1,_,_⟩:=live_facts (nx:=st.1.1) (ids:=st.1.2.1) hb.live
 have hlast:lastI st.1.2.1 ∈ st.1.2.1:=by
  have hs:=last_split g1
  rw [hs]
  exact List.mem_append_right _ (List.mem_singleton.2 (by rw [← hs]))
 obtain ⟨t,ht,_⟩:=hb.full _ hlast
 obtain ⟨a1,a2⟩:=app_RM h (s:=actB st) (x:=frameM (showRec r)) (n:=210) (by rw [show fT d (actB st)=some t from ht];rfl) (recLen_small r) hU
 unfold setR
 rw [a2]
 exact ⟨a1,rfl,rfl⟩
theorem add_RM {st:Ty.den TStore} {d:Ty.den TDisk} {F U:Nat} (h:RM d F U) (hb:BT st d) (hF:F+1<130) (hU:U+421≤100000) (hi:st.1.2.1.length<60) (hn:LT.lt (α:=Int) st.1.1 100000) (r:Ty.den TRec) :
 RM (addR st d r).1.2.1 (F+2) (U+421)∧(addR st d r).1.2.2=0∧(addR st d r).1.1.1.2.1.length≤st.1.2.1.length+1∧LE.le (α:=Int) (addR st d r).1.1.1.1 (st.1.1+1):=by
 obtain ⟨a1,a2,a3,a4⟩:=rot_RM h hb hF (by omega) hi hn
 have ab:=rot_BT hb a2
 unfold addR
 cases decide (st.2.2.2.1 > 0)&&decide (st.2.2.2.1+recLen r > 200) with
 | false =>
  obtain ⟨s1,s2,s3⟩:=set_RM h hb (by omega) r
  simp only [c_f]
  rw [s3]
  exact ⟨s1.mono (by omega) (by omega),s2,by omega,by omega⟩
 | true =>
  simp only [c_t]
  generalize rotR st d=q at a1 a2 a3 a4 ab ⊢
  rw [show (q.2.2 != 0)=false by rw [a2];rfl]
  obtain ⟨s1,s2,s3⟩:=set_RM a1 ab (by omega) r
  simp only [c_f]
  rw [s3]
  exact ⟨s1.mono (by omega) (by omega),s2,by omega,Int.le_of_eq a4⟩
theorem adds_RM:∀ (l:RecL) (st:Ty.den TStore) (d:Ty.den TDisk) (ps:PlaceL) (F U:Nat),RM d F U→BT st d→(∀ r ∈ l,recOk r=true)→F+2*l.length<130→U+421*l.length≤100000→st.1.2.1.length+l.length≤60→LE.le (α:=Int) (st.1.1+(l.length:Int)) 100000 →
 RM (addsR l st d ps).1.2.1 (F+2*l.length) (U+421*l.length)∧(addsR l st d ps).1.2.2=0∧(addsR l st d ps).1.1.1.2.1.length≤st.1.2.1.length+l.length∧LE.le (α:=Int) (addsR l st d ps).1.1.1.1 (st.1.1+(l.length:Int))
 | [],st,d,ps,F,U,h,_,_,_,_,_,_=>⟨h.mono (by omega) (by omega),rfl,Nat.le_refl _,by rw [List.length_nil];exact Int.le_of_eq (Int.add_zero _).symm⟩
 | r::l,st,d,ps,F,U,h,hb,hr,hF,hU,hi,hn=>by
  have el:(r::l).length=l.length+1:=l_c
  rw [el] at hF hU hi hn ⊢
  have e3:421*(l.length+1)=421*l.length+421:=Nat.mul_succ 421 l.length
  rw [e3] at hU ⊢
  generalize hm:421*l.length=m at hU ⊢
  have u0:F+1<130:=by omega
  have u1:U+421≤100000:=Nat.le_trans (Nat.add_le_add_left (Nat.le_add_left 421 m) U) hU
  have u2:st.1.2.1.length<60:=by omega
  have u3:LT.lt (α:=Int) st.1.1 100000:=by omega
  obtain ⟨a1,a2,a3,a4⟩:=add_RM h hb u0 u1 u2 u3 r
  obtain ⟨b1,_,_⟩:=add_BT hb (hr r m_s) a2
  unfold addsR
  generalize addR st d r=q at a1 a2 a3 a4 b1 ⊢
  rw [show (q.1.2.2 != 0)=false by rw [a2];rfl]
  simp only [c_f]
  obtain ⟨i1,i2,i3,i4⟩:=adds_RM l q.1.1 q.1.2.1 (ps++[q.2]) (F+2) (U+421) a1 b1 (fun x hx=>hr x (m_m _ hx)) (by omega) (by rw [hm,Nat.add_assoc,Nat.add_comm 421 m];exact hU) (by omega) (by omega)
  rw [hm] at i1
  exact ⟨i1.mono (by omega) (Nat.le_of_eq (by rw [Nat.add_assoc,Nat.add_comm 421 m])),i2,by omega,by omega⟩
theorem write_RM {st:Ty.den TStore} {d:Ty.den TDisk} {l:PutL} {F U:Nat} (h:RM d F U) (hs:storeM st d=true) (hp:putsOk l=true) (hb:LE.le (α:=Int) st.2.2.1 1000000) (hF:F+20<130) (hU:U+4000≤100000) (hi:st.1.2.1.length≤50) (hn:LE.le (α:=Int) st.1.1 99000) :
 RM (writeR st d l).2.1 (F+18) (U+3789)∧(writeR st d l).2.2=0∧(writeR st d l).1.1.2.1.length≤st.1.2.1.length+9∧LE.le (α:=Int) (writeR st d l).1.1.1 (st.1.1+9):=by
 obtain ⟨g1,g2,g3⟩:=store_facts hs
 have hBT:=store_BT hs
 have hl8:=putsOk_len hp
 have hlen:(recsM l st.2.2.1).length≤9:=by unfold recsM;rw [l_a,List.length_map,List.length_singleton];omega
 obtain ⟨a1,a2,a3,a4⟩:=adds_RM (recsM l st.2.2.1) (batS st) d [] F U h ⟨hBT.live,hBT.disk,hBT.full,hBT.tail⟩ (recs_ok hp g3 hb) (by omega) (by omega) (by show st.1.2.1.length+_≤60;omega) (by show LE.le (α:=Int) (st.1.1+_) 100000;omega)
 obtain ⟨hB,_⟩:=adds_BT (recsM l st.2.2.1) (batS st) d [] ⟨hBT.live,hBT.disk,hBT.full,hBT.tail⟩ (recs_ok hp g3 hb) (fun x hx=>by cases hx) a2
 have a3:(addsR (recsM l st.2.2.1) (batS st) d []).1.1.1.2.1.length≤st.1.2.1.length+(recsM l st.2.2.1).length:=a3
 have a4:LE.le (α:=Int) (addsR (recsM l st.2.2.1) (batS st) d []).1.1.1.1 (st.1.1+((recsM l st.2.2.1).length:Int)):=a4
 unfold writeR
 generalize addsR (recsM l st.2.2.1) (batS st) d []=q at a1 a2 a3 a4 hB ⊢
 obtain ⟨_,_,k1,_,_⟩:=live_facts (nx:=q.1.1.1.1) (ids:=q.1.1.1.2.1) hB.live
 have hlast:lastI q.1.1.1.2.1 ∈ q.1.1.1.2.1:=by
  have hs:=last_split k1
  rw [hs]
  exact List.mem_append_right _ (List.mem_singleton.2 (by rw [← hs]))
 obtain ⟨t,ht,_⟩:=hB.full _ hlast
 obtain ⟨y1,y2⟩:=syn_RM a1 (s:=actB q.1.1) (by rw [show fT q.1.2.1 (actB q.1.1)=some t from ht];rfl)
 unfold endR
 rw [show (q.1.2.2 != 0)=false by rw [a2];rfl,y2]
 exact ⟨y1.mono (by omega) (by omega),rfl,by show q.1.1.1.2.1.length≤_;omega,by show LE.le (α:=Int) q.1.1.1.1 _;omega⟩
end Go.Proofs.YtmakghhmpgfboaaGreatDoor.G
namespace Go.Proofs.YtmakghhmpgfboaaGreatDoor.G
open Go.V
theorem new_RM:RM (newD 100000) 0 0:=⟨newD_DR (by omega) (by omega),rfl,rfl,rfl,Nat.le_refl _,Nat.le_refl _⟩
theorem first_new:∃ d,openM (newD 100000)=((live1,([],(1,(0,(0,()))))),(d,0))∧RM d 2 211∧fT d (namedM segB 1)=some ByteArray.empty:=by
 have hr:=new_RM
 have hn:nameM (namedM segB 1)=true:=name_seg ⟨by omega,by omega⟩
 have e0:sweepR [] (newD 100000)=(newD 100000,0):=by
  unfold sweepR orphM
  rw [disk_iff.2 hr.disk]
  rfl
 have hx:getM (newD 100000).1 (namedM segB 1)=none:=rfl
 obtain ⟨a1,a2⟩:=cre_RM hr (by omega) hn hx
 have a3:fT (creM (newD 100000) (namedM segB 1)).1 (namedM segB 1)=some ByteArray.empty:=by
  have ef:freshR (namedM segB 1) (newD 100000)=creM (newD 100000) (namedM segB 1):=rfl
  rw [← ef] at a2 ⊢
  exact fresh_own a2
 obtain ⟨b1,b2⟩:=putLive_RM a1 (by omega) (by omega) live1
 have b3:fT (putLiveR live1 (creM (newD 100000) (namedM segB 1)).1).1 (namedM segB 1)=some ByteArray.empty:=(putLive_fT (seg_temp ⟨by omega,by omega⟩) (seg_live ⟨by omega,by omega⟩)).trans a3
 have e1:firstR (newD 100000)=putLiveR live1 (creM (newD 100000) (namedM segB 1)).1:=by
  unfold firstR
  rw [e0,seqR_of (r:=(newD 100000,0)) rfl,seqR_of a2]
 refine ⟨(putLiveR live1 (creM (newD 100000) (namedM segB 1)).1).1,?_,b1.mono (by omega) (by omega),b3⟩
 have e2:openM (newD 100000)=firstM (newD 100000):=by
  unfold openM
  have e:(textM (newD 100000) liveB).2=false:=by unfold textM;rw [disk_iff.2 hr.disk];rfl
  rw [disk_iff.2 hr.disk,e]
  rfl
 rw [e2]
 unfold firstM
 rw [e1,b2]
 rfl
theorem first_store {d:Ty.den TDisk} (hd:DR d) (h:fT d (namedM segB 1)=some ByteArray.empty):storeM (live1,([],(1,(0,(0,()))))) d=true:=by
 unfold storeM
 simp only [b_a]
 refine ⟨disk_iff.2 hd,by decide,rfl,by decide,(segs_iff hd).2 ⟨fun x hx=>?_,fun _ t ht=>?_⟩,rfl⟩
 · have hx:x ∈ [(1:Int)]:=hx
   rw [List.mem_singleton.1 hx]
   exact ⟨_,h,full_none⟩
 · have ht:fT d (namedM segB 1)=some t:=ht
   rw [h] at ht
   rw [← Option.some.inj ht]
   rfl
theorem takeW_all {α:Type} {p:α→Bool}:∀ {l:List α},(∀ x ∈ l,p x=true)→l.takeWhile p=l∧l.dropWhile p=[]
 | [],_=>⟨rfl,rfl⟩
 | x::l,h=>by
  have ih:=takeW_all (p:=p) (l:=l) fun y hy=>h y (m_m _ hy)
  rw [List.takeWhile_cons,List.dropWhile_cons,h x m_s,if_pos rfl,if_pos rfl,ih.1]
  exact ⟨rfl,ih.2⟩
theorem filter_ne {K:List ByteArray} {key:ByteArray} (h:∀ x ∈ K,sls x key=true):(K.filter fun x=>!(seq x key))=K:=by
 rw [List.filter_eq_self]
 intro x hx
 rw [seqF (fun q=>by have:=h x hx;rw [q,sls_irrefl] at this;cases this)]
 rfl
theorem dirW_grow:∀ (l:PutL) (d es:EntryL),(∀ x ∈ l,x.2.1=false)→keyL es=l.map (·.1)→KeysOk (keyL d++l.map (·.1))→keyL (dirW d l es)=keyL d++l.map (·.1)
 | [],d,es,_,_,_=>by rw [dirW_nil,List.map_nil,List.append_nil]
 | x::l,d,[],_,g,_=>by cases g
 | x::l,d,e::es,hn,g,h=>by
  unfold keyL at g
  rw [List.map_cons,List.map_cons] at g
  injection g with g1 g2
  have hlt:∀ y ∈ keyL d,sls y x.1=true:=fun y hy=>by
   unfold KeysOk at h
   rw [List.pairwise_append] at h
   exact h.2.2 y hy x.1 (by rw [List.map_cons];exact m_s)
  have ek:keyL (putM d e)=keyL d++[x.1]:=by
   unfold putM
   rw [keyL_ins,keyL_drop,g1,filter_ne hlt]
   unfold insK
   obtain ⟨t1,t2⟩:=takeW_all (p:=leK x.1) (l:=keyL d) fun y hy=>by unfold leK;rw [hlt y hy];rfl
   rw [t1,t2]
  unfold dirW
  rw [hn x m_s,c_f]
  have:=dirW_grow l (putM d e) es (fun y hy=>hn y (m_m _ hy)) g2 (by rw [ek,a_a];exact h)
  rw [this,ek,a_a]
  rfl
theorem pairs_facts {l:PairL} (h:pairsOk l=true):(∀ x ∈ l,keyOkB x.1=true∧(x.2.1.size:Int)≤24)∧KeysOk (l.map (·.1)):=by
 unfold pairsOk at h
 rw [b_a] at h
 have key:∀ (l:PairL) (p:Option (Ty.den TPair)),adj pairOk p l=true→(∀ x ∈ l,(keyOkB x.1=true∧(x.2.1.size:Int)≤24)∧∀ y,p=some y→sls y.1 x.1=true)∧KeysOk (l.map (·.1)):=by
  intro l
  induction l with
  | nil=>exact fun p _=>⟨fun x hx=>(by cases hx),List.Pairwise.nil⟩
  | cons a l ih =>
   intro p hp
   simp only [adj,b_a] at hp
   obtain ⟨q1,q2⟩:=hp
   unfold pairOk at q1
   simp only [b_a,decide_eq_true_eq] at q1
   obtain ⟨b1,b2,_,b3⟩:=q1
   obtain ⟨i1,i2⟩:=ih (some a) q2
   have ha:∀ y,p=some y→sls y.1 a.1=true:=fun y e=>by
    rw [e] at b3
    exact b3
   refine ⟨fun x hx=>?_,?_⟩
   · rcases List.mem_cons.1 hx with e | e
     · rw [e]
       exact ⟨⟨b1,b2⟩,ha⟩
     · obtain ⟨c1,c2⟩:=i1 x e
       exact ⟨c1,fun y ey=>sls_trans (ha y ey) (c2 a rfl)⟩
   · unfold KeysOk
     rw [List.map_cons,List.pairwise_cons]
     refine ⟨fun y hy=>?_,i2⟩
     obtain ⟨x,hx,rfl⟩:=List.mem_map.1 hy
     exact (i1 x hx).2 a rfl
 obtain ⟨k1,k2⟩:=key l none h.1
 exact ⟨fun x hx=>(k1 x hx).1,k2⟩
structure RI (q:Ty.den TStore × RD) (dn:PairL) (F U:Nat) (a:Nat) (b c:Int):Prop where
 store:storeM q.1 q.2.1=true
 ok:q.2.2=0
 ei:EI q.1
 room:RM q.2.1 F U
 ids:q.1.1.2.1.length≤a
 next:LE.le (α:=Int) q.1.1.1 b
 batch:LE.le (α:=Int) q.1.2.2.1 c
 keys:keyL q.1.2.1=dn.map (·.1)
 vals:∀ e ∈ q.1.2.1,∃ x ∈ dn,x.1=e.1∧(recE q.2.1 e).1.2.2.2.1=x.2.1
theorem puts_ok {l:PairL} (h:∀ x ∈ l,keyOkB x.1=true∧(x.2.1.size:Int)≤24) (hl:l.length≤8):putsOk (l.map putOf)=true:=by
 unfold putsOk
 rw [decT (by rw [List.length_map];exact hl),Bool.and_true]
 have key:∀ (l:PairL) (p:Option (Ty.den TPut)),(∀ x ∈ l,keyOkB x.1=true∧(x.2.1.size:Int)≤24)→adj (fun _=>putOkB) p (l.map putOf)=true:=by
  intro l
  induction l with
  | nil=>exact fun _ _=>rfl
  | cons a l ih =>
   intro p h
   rw [List.map_cons,adj,ih _ fun x hx=>h x (m_m _ hx),Bool.and_true]
   obtain ⟨h1,h2⟩:=h a m_s
   unfold putOkB putOf
   simp only []
   rw [h1,decT h2]
   rfl
 exact key l none h
theorem rest_step {q:Ty.den TStore × RD} {dn l:PairL} {F U a:Nat} {b c:Int} (h:RI q dn F U a b c) (hk:∀ x ∈ l,keyOkB x.1=true∧(x.2.1.size:Int)≤24) (hl:l.length≤8) (h0:0<l.length) (ht:dn.length+l.length≤20) (hs:KeysOk ((dn++l).map (·.1)))
 (hF:F+20<130) (hU:U+4000≤100000) (ha:a≤50) (hb:b≤99000) (hc:c≤1000000):RI (commitM q.1 q.2.1 (l.map putOf)) (dn++l) (F+18) (U+3789) (a+9) (b+9) (c+1):=by
 have hp:=puts_ok hk hl
 have hkeys:(l.map putOf).map (·.1)=l.map (·.1):=by rw [List.map_map];rfl
 have hnd:∀ x ∈ l.map putOf,x.2.1=false:=fun x hx=>by
  obtain ⟨y,_,e⟩:=List.mem_map.1 hx
  rw [← e]
  rfl
 have hgrow:=dirW_grow (l.map putOf) q.1.2.1 ((l.map putOf).map keyE) hnd (by unfold keyL;rw [List.map_map];rfl) (by rw [h.keys,hkeys,← List.map_append];exact hs)
 rw [h.keys,hkeys,← List.map_append] at hgrow
 have haft:afterM q.1.2.1 (l.map putOf)≤20:=by
  have:=congrArg List.length hgrow
  unfold keyL at this
  rw [List.length_map,List.length_map,l_a] at this
  unfold afterM
  omega
 have hi:=h.ids
 have hn:=h.next
 have hbt:=h.batch
 obtain ⟨w1,w2,w3,w4⟩:=write_RM h.room h.store hp (l:=l.map putOf) (by omega) hF hU (by omega) (by omega)
 obtain ⟨s1,s2,s3⟩:=write_store h.store h.ei hp (by omega) haft w2
 have hext:=(write_ext (l:=l.map putOf) (store_facts h.store).1).2.2.1
 have hei:=commit_EI h.ei q.2.1 (l.map putOf)
 have e:commitM q.1 q.2.1 (l.map putOf)=writeR q.1 q.2.1 (l.map putOf):=by
  unfold commitM
  rw [h.store,hp,decF (show ¬ afterM q.1.2.1 (l.map putOf) > 20 by omega),decF (show ¬ q.1.2.2.1 > (1000000:Int) from Int.not_lt.2 (by omega))]
  have:(((l.map putOf).length:Int)==0)=false:=by rw [List.length_map];exact q_f (by omega)
  rw [this]
  rfl
 rw [e] at hei ⊢
 refine ⟨s1,w2,hei,w1,by omega,by omega,by rw [hext];omega,by rw [s3,hgrow],fun x hx=>?_⟩
 rcases s2 x hx with ⟨v1,v2⟩ | ⟨y,v1,v2,v3,v4⟩
 · obtain ⟨z,z1,z2,z3⟩:=h.vals x v1
   exact ⟨z,List.mem_append_left _ z1,z2,by rw [v2];exact z3⟩
 · obtain ⟨z,z1,z2⟩:=List.mem_map.1 v1
   refine ⟨z,List.mem_append_right _ z1,?_,?_⟩
   · rw [v3,← z2]
     rfl
   · rw [v4,← z2]
     rfl
theorem getE_self:∀ {l:EntryL},KeysOk (keyL l)→∀ e ∈ l,getE l e.1=some e
 | [],_,e,h=>by cases h
 | x::l,hk,e,h=>by
  unfold KeysOk keyL at hk
  rw [List.map_cons,List.pairwise_cons] at hk
  rw [getE.eq_2]
  rcases List.mem_cons.1 h with w | w
  · rw [w,seq_refl]
    rfl
  · have hlt:=hk.1 e.1 (List.mem_map.2 ⟨e,w,rfl⟩)
    rw [seqF (fun q=>by rw [q,sls_irrefl] at hlt;cases hlt),c_f]
    exact getE_self hk.2 e w
theorem getP_of {st:Ty.den TStore} {d:Ty.den TDisk} (h:storeM st d=true) {e:Ty.den TEntry} (he:e ∈ st.2.1):getP st.2.1 d e.1=((e.1,((recE d e).1.2.2.2.1,((recE d e).1.2.1,()))),0):=by
 unfold storeM at h
 simp only [b_a] at h
 obtain ⟨_,_,hdir,_,_,hent⟩:=h
 obtain ⟨_,_,hk⟩:=dir_iff.1 hdir
 have hin:=List.all_eq_true.1 hent e he
 unfold entIn at hin
 simp only [b_a] at hin
 unfold getP
 rw [getE_self hk e he]
 simp only []
 rw [hin.1,hin.2.1,hin.2.2.2.1]
 rfl
theorem dump_of {st:Ty.den TStore} {d:Ty.den TDisk} (h:storeM st d=true):dumpM st.2.1 d=(st.2.1.map fun e=>(e.1,((recE d e).1.2.2.2.1,((recE d e).1.2.1,()))),0):=by
 have key:∀ (r:EntryL) (acc:PairL),(∀ e ∈ r,e ∈ st.2.1)→dumpL st.2.1 d (r.map (·.1)) acc=(acc++r.map fun e=>(e.1,((recE d e).1.2.2.2.1,((recE d e).1.2.1,()))),0):=by
  intro r
  induction r with
  | nil=>intro acc _;rw [List.map_nil,List.map_nil,List.append_nil];rfl
  | cons e r ih =>
   intro acc hr
   rw [List.map_cons,dumpL,getP_of h (hr e m_s)]
   show dumpL st.2.1 d (r.map (·.1)) (acc++[_])=_
   rw [ih _ fun x hx=>hr x (m_m _ hx),a_a]
   rfl
 unfold dumpM
 rw [key st.2.1 [] fun e he=>he,List.nil_append]
def valP (p:Ty.den TPair):Ty.den TPair:=(p.1,(p.2.1,(0,())))
theorem vals_same {v:Ty.den TEntry→ByteArray}:∀ (dir:EntryL) (l:PairL),keyL dir=l.map (·.1)→KeysOk (l.map (·.1))→(∀ e ∈ dir,∃ x ∈ l,x.1=e.1∧v e=x.2.1)→(dir.map fun e=>((e.1,(v e,(0,()))):Ty.den TPair))=l.map valP
 | [],[],_,_,_=>rfl
 | [],x::l,h,_,_=>by cases h
 | e::dir,[],h,_,_=>by cases h
 | e::dir,x::l,h,hk,hv=>by
  unfold keyL at h
  rw [List.map_cons,List.map_cons] at h
  injection h with h1 h2
  unfold KeysOk at hk
  rw [List.map_cons,List.pairwise_cons] at hk
  have ne:∀ y ∈ l,y.1≠x.1:=fun y hy q=>by
   have:=hk.1 y.1 (List.mem_map.2 ⟨y,hy,rfl⟩)
   rw [q,sls_irrefl] at this
   cases this
  rw [List.map_cons,List.map_cons,vals_same dir l h2 hk.2 fun f hf=>?_]
  · congr 1
    obtain ⟨y,y1,y2,y3⟩:=hv e m_s
    rcases List.mem_cons.1 y1 with w | w
    · rw [h1,y3,w]
      rfl
    · exact absurd (y2.trans h1) (ne y w)
  · obtain ⟨y,y1,y2,y3⟩:=hv f (m_m _ hf)
    rcases List.mem_cons.1 y1 with w | w
    · have hm:f.1 ∈ l.map (·.1):=by rw [← h2];exact List.mem_map.2 ⟨f,hf,rfl⟩
      have:=hk.1 f.1 hm
      rw [← y2,w,sls_irrefl] at this
      cases this
    · exact ⟨y,w,y2,y3⟩
theorem rest_RI:∀ (m:Nat) (l dn:PairL) (q:Ty.den TStore × RD) (F U a:Nat) (b c:Int),RI q dn F U a b c→(∀ x ∈ l,keyOkB x.1=true∧(x.2.1.size:Int)≤24)→dn.length+l.length≤20→KeysOk ((dn++l).map (·.1))→l.length≤8*m →
 F+18*m+20<130→U+3789*m+4000≤100000→a+9*m≤59→b+9*(m:Int)≤99009→c+(m:Int)≤1000001→∃ F' U' a' b' c',RI (restR m l q) (dn++l) F' U' a' b' c'
 | 0,l,dn,q,F,U,a,b,c,h,_,_,_,hl,_,_,_,_,_=>by
  have:l=[]:=List.length_eq_zero_iff.1 (by omega)
  subst this
  rw [List.append_nil]
  exact ⟨F,U,a,b,c,h⟩
 | m+1,l,dn,q,F,U,a,b,c,h,hk,ht,hs,hl,hF,hU,ha,hb,hc=>by
  unfold restR
  by_cases z:0<l.length
  · rw [decT z,h.ok]
    simp only [beq_self_eq_true,Bool.and_true,c_t]
    have hz:(l.take 8).length≤8:=List.length_take_le ..
    have hz2:(l.take 8).length+(l.drop 8).length=l.length:=by rw [← l_a,List.take_append_drop]
    have hz3:0<(l.take 8).length:=by rw [List.length_take];omega
    have hz4:(l.drop 8).length≤8*m:=by rw [List.length_drop];omega
    have e:dn++l=(dn++l.take 8)++l.drop 8:=by rw [a_a,List.take_append_drop]
    have s1:KeysOk ((dn++l.take 8).map (·.1)):=by
     rw [e,List.map_append] at hs
     exact (List.pairwise_append.1 hs).1
    have step:=rest_step h (l:=l.take 8) (fun x hx=>hk x (List.mem_of_mem_take hx)) hz hz3 (by omega) s1 (by omega) (by omega) (by omega) (by omega) (by omega)
    obtain ⟨F',U',a',b',c',g⟩:=rest_RI m (l.drop 8) (dn++l.take 8) _ _ _ _ _ _ step (fun x hx=>hk x (List.mem_of_mem_drop hx)) (by rw [l_a];omega) (by rw [← e];exact hs) hz4 (by omega) (by omega) (by omega) (by omega) (by omega)
    rw [e]
    exact ⟨F',U',a',b',c',g⟩
  · rw [decF z]
    have:l=[]:=List.length_eq_zero_iff.1 (by omega)
    subst this
    rw [List.append_nil]
    exact ⟨F,U,a,b,c,h⟩
theorem restore_vals {l:PairL} (h:pairsOk l=true):(restoreM 100000 l).2.2=0∧(dumpM (restoreM 100000 l).1.2.1 (restoreM 100000 l).2.1).2=0∧(dumpM (restoreM 100000 l).1.2.1 (restoreM 100000 l).2.1).1.map valP=l.map valP:=by
 have hl:=pairsOk_len h
 obtain ⟨f1,f2⟩:=pairs_facts h
 obtain ⟨d,e,hr,ht⟩:=first_new
 have hb:RI (openM (newD 100000)) [] 2 211 1 2 1:=by
  rw [e]
  exact ⟨first_store hr.disk ht,rfl,fun x hx=>(by cases hx),hr,Nat.le_refl _,Int.le_refl _,Int.le_refl _,rfl,fun x hx=>(by cases hx)⟩
 obtain ⟨F',U',a',b',c',g⟩:=rest_RI 3 l [] _ _ _ _ _ _ hb f1 (by simpa using hl) (by rw [List.nil_append];exact f2) (by omega) (by omega) (by omega) (by omega) (by omega) (by omega)
 rw [List.nil_append] at g
 have e2:restoreM 100000 l=restR 3 l (openM (newD 100000)):=by
  unfold restoreM
  rw [h]
  rfl
 rw [← e2] at g
 rw [dump_of g.store]
 refine ⟨g.ok,rfl,?_⟩
 have:=vals_same (v:=fun e=>(recE (restoreM 100000 l).2.1 e).1.2.2.2.1) (restoreM 100000 l).1.2.1 l g.keys f2 g.vals
 rw [← this,List.map_map]
 rfl
end Go.Proofs.YtmakghhmpgfboaaGreatDoor.G

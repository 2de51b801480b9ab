/- Plain laws, merged; what is proved here is told ahead of each part. -/
import Derived.Test.YtejgkmhpmhfnbaaGreatDoorZR2
set_option linter.unusedVariables false
set_option linter.unusedSimpArgs false
namespace Go.Proofs.YtejgkmhpmhfnbaaGreatDoor.G
open Go.V
theorem apply_snoc (dir:EntryL) (ps:PlaceL) (p:Ty.den TPlace):applyM dir (ps++[p])=stepDir (applyM dir ps) p:=by
 unfold applyM
 rw [List.foldl_append]
 rfl
theorem zero_ne {c:Int} (h:(c != 0)=false):c=0:=by unfold bne at h;simpa using h
theorem recsM_len (l:PutL) (b:Int):(recsM l b).length=l.length+1:=by unfold recsM;rw [l_a,List.length_map];rfl
theorem specWrite_eq {k:Nat} (hk:2 ^ 50≤k) {st:Ty.den TStore} {d:Ty.den TDisk} {l:PutL} (h:SR st (d,0) 100000) (hb0:LE.le (α:=Int) 0 st.2.2.1) (hb:LE.le (α:=Int) st.2.2.1 1000000) (hp:putsOk l=true) (hd:st.2.1.length≤20) :
 spec_l12Commit_ga.f k st d l=some ((writeR st d l).1,((writeR st d l).2.1,((writeR st d l).2.2,()))):=by
 have hl:=putsOk_len hp
 unfold spec_l12Commit_ga.f spec_l12Commit_ga.t writeR recsM
 rw [rm_ok (by omega) (by decide),List.nil_append,w64_eq (n:=st.2.2.1+1) (by omega) (by omega)]
 generalize hbe:st.2.2.1=b at *
 rw [show batS st=((st.1,(st.2.1,(b+1,st.2.2.2))):Ty.den TStore) from by unfold batS;rw [hbe]]
 refine forL0 (L:=fun n i (s:(Ty.den TStore × Ty.den TDisk) × PlaceL)=>spec_l12Commit_ga.l0 k n b i l s.1.1.1.2.1 s.1.1.2.1 s.1.1.1.1 s.1.1.2.2.1 s.1.1.2.2.2.1 s.1.1.2.2.2.2.1 s.1.2.1 s.1.2.2.1 s.1.2.2.2.1 s.1.2.2.2.2.1 [] [] 0 0 0 0 [] 0 0 false (s.2.map recP) (applyM s.1.1.2.1 s.2))
  (R:=fun r s=>(some ((endR l.length (addsR (r.map (putR b)++[sealR 3 b (l.map (putR b))]) s.1.1 s.1.2 s.2)).1,((endR l.length (addsR (r.map (putR b)++[sealR 3 b (l.map (putR b))]) s.1.1 s.1.2 s.2)).2.1,((endR l.length (addsR (r.map (putR b)++[sealR 3 b (l.map (putR b))]) s.1.1 s.1.2 s.2)).2.2,()))):spec_l12Commit_ga.Rs))
  (Ty.dflt TPut) l (fun i s=>SR s.1.1 (s.1.2,0) (100000+211*i)∧s.2.map recP=(l.take i.toNat).map (putR b)∧s.1.1.2.1.length≤20) (fun n s hs=>?_) (fun n i s x rest h0 h1 hx hr hs ih=>?_) (n:=k) (s:=(((((st.1,(st.2.1,(b+1,st.2.2.2))):Ty.den TStore)),d),[])) (by omega) ⟨⟨h.live,h.disk,h.lo,Int.le_trans h.hi (by decide)⟩,rfl,hd⟩
 · obtain ⟨⟨st',d'⟩,ps⟩:=s
   obtain ⟨g1,g2,g3⟩:=hs
   simp only [] at g1 g2 g3 ⊢
   rw [Int.toNat_natCast,List.take_length] at g2
   have hps:ps.length=l.length:=by simpa using congrArg List.length g2
   simp only [spec_l12Commit_ga.l0,spec_l12Commit_ga.b0]
   rw [decF (by omega),c_f,g2,specSeal_eq hk (by rw [List.length_map];omega),o_s]
   simp only []
   rw [show ((st'.1.1,(st'.1.2.1,())),(st'.2.1,(st'.2.2.1,(st'.2.2.2.1,(st'.2.2.2.2.1,())))))=st' from rfl,show (d'.1,(d'.2.1,(d'.2.2.1,(d'.2.2.2.1,()))))=d' from rfl,
    specAdd_eq hk g1 (by omega) (by omega),o_s]
   simp only [List.map_nil,List.nil_append,addsR]
   obtain ⟨k1,k2,_⟩:=add_facts g1 (by omega) (sealR 3 b (l.map (putR b)))
   generalize addR st' d' (sealR 3 b (l.map (putR b)))=q at k1 k2 ⊢
   cases c:q.1.2.2 != 0 with
   | true =>
    simp only [c_t]
    unfold endR
    simp only [c,c_t]
   | false =>
    simp only [c_f]
    rw [specActive_eq hk k1.live,o_s]
    simp only []
    rw [specSyn_eq hk (DR.sz k1.disk),o_s]
    unfold endR
    simp only [show ((0:Int) != 0)=false from rfl,c_f]
    generalize synM q.1.2.1 (actB q.1.1)=y
    cases c2:y.2 != 0 with
    | true=>simp only [c_t,specCode_eq,o_s];rfl
    | false =>
     simp only [c_f]
     rw [k2,List.take_append_of_le_length (by omega),List.take_of_length_le (by omega)]
     rfl
 · obtain ⟨⟨st',d'⟩,ps⟩:=s
   obtain ⟨g1,g2,g3⟩:=hs
   simp only [] at g1 g2 g3 ih ⊢
   have hi:i.toNat<l.length:=by omega
   have hm:x ∈ l:=List.mem_of_mem_drop (i:=i.toNat) (by rw [hr];exact m_s)
   have e:=putR_spec b (putsOk_mem hp hm)
   have et:l.take (i+1).toNat=l.take i.toNat++[x]:=by
    rw [show (i+1).toNat=i.toNat+1 by omega,List.take_succ_eq_append_getElem hi]
    congr 2
    rw [← hx]
    simp [List.getD,hi]
   have hps:ps.length≤l.length:=by
    have:=congrArg List.length g2
    rw [List.length_map,List.length_map,List.length_take] at this
    omega
   obtain ⟨k1,k2,k3⟩:=add_facts g1 (by omega) (putR b x)
   have body:((spec_l12Add_ga.f k st' d' (putR b x)).bind fun r1=>(bif (r1.2.2.2.1 != 0) then (some (r1.1,(r1.2.1,r1.2.2.2))) else ((spec_l9Put.f k (applyM st'.2.1 ps) r1.2.2.1).bind fun r2=>(rm (Ty.bytes TRec) (List.length (ps.map recP)+1)
    (spec_l12Commit_ga.l0 k n b (w64 (i+1)) l r1.1.1.2.1 r1.1.2.1 r1.1.1.1 r1.1.2.2.1 r1.1.2.2.2.1 r1.1.2.2.2.2.1 r1.2.1.1 r1.2.1.2.1 r1.2.1.2.2.1 r1.2.1.2.2.2.1 [] [] 0 0 0 0 [] 0 0 false (ps.map recP++[putR b x]) r2.1))))) =
    (some ((endR l.length (addsR ((x::rest).map (putR b)++[sealR 3 b (l.map (putR b))]) st' d' ps)).1,((endR l.length (addsR ((x::rest).map (putR b)++[sealR 3 b (l.map (putR b))]) st' d' ps)).2.1,((endR l.length (addsR ((x::rest).map (putR b)++[sealR 3 b (l.map (putR b))]) st' d' ps)).2.2,()))):spec_l12Commit_ga.Rs):=by
    rw [specAdd_eq hk g1 (by omega) (by omega),o_s]
    simp only [List.map_cons,List.cons_append,addsR]
    have hk1:=k1.hi
    generalize addR st' d' (putR b x)=q at k1 k2 k3 hk1 ⊢
    cases c:q.1.2.2 != 0 with
    | true =>
     simp only [c_t]
     unfold endR
     simp only [c,c_t]
    | false =>
     simp only [c_f]
     have hal:=applyM_len ps st'.2.1
     rw [specPut_eq hk q.2 (by omega),o_s,rm_ok (by rw [List.length_map];omega) (by decide),w64_eq (n:=i+1) (by omega) (by omega)]
     have q3:=k3 (zero_ne c)
     have e1:(ps++[q.2]).map recP=ps.map recP++[putR b x]:=by rw [List.map_append,List.map_singleton,q3]
     have e2:applyM q.1.1.2.1 (ps++[q.2])=stepDir (applyM st'.2.1 ps) q.2:=by rw [k2,apply_snoc]
     have ih:=ih ((q.1.1,q.1.2.1),ps++[q.2]) ⟨⟨k1.live,k1.disk,k1.lo,by show LE.le (α:=Int) q.1.1.2.2.2.1 _;omega⟩,by simp only [];rw [e1,g2,et,List.map_append];rfl,by simp only [];rw [k2];exact g3⟩
     simp only [] at ih
     rw [e1,e2] at ih
     exact ih
   simp only [spec_l12Commit_ga.l0,spec_l12Commit_ga.b0]
   rw [decT h1,c_t,inb_eq h0 h1,inb_eq h0 h1,inb_eq h0 h1,hx]
   rw [show ((st'.1.1,(st'.1.2.1,())),(st'.2.1,(st'.2.2.1,(st'.2.2.2.1,(st'.2.2.2.2.1,())))))=st' from rfl,show (d'.1,(d'.2.1,(d'.2.2.1,(d'.2.2.2.1,()))))=d' from rfl]
   cases c:x.2.1 with
   | true =>
    rw [c,c_t] at e
    simp only [c_t]
    rw [← e]
    exact body
   | false =>
    rw [c,c_f] at e
    simp only [c_f]
    rw [← e]
    exact body
theorem implWrite_eq {k:Nat} (hk:2 ^ 50≤k) {st:Ty.den TStore} {d:Ty.den TDisk} {l:PutL} (h:SR st (d,0) 100000) (hb0:LE.le (α:=Int) 0 st.2.2.1) (hb:LE.le (α:=Int) st.2.2.1 1000000) (hp:putsOk l=true) (hd:st.2.1.length≤20) :
 impl_Store__commit.f k st (wO (d,0)) l=some ((writeR st d l).1,(wO (writeR st d l).2,())):=by
 have hl:=putsOk_len hp
 unfold impl_Store__commit.f impl_Store__commit.t writeR
 rw [implRecordsOf_eq hk (by omega),o_s]
 simp only []
 rw [w64_eq (n:=st.2.2.1+1) (by omega) (by omega)]
 have hrl:=recsM_len l st.2.2.1
 have hre:recsM l st.2.2.1=l.map (putR st.2.2.1)++[sealR 3 st.2.2.1 (l.map (putR st.2.2.1))]:=rfl
 generalize recsM l st.2.2.1=rs at hrl hre ⊢
 refine forL0 (L:=fun n i (s:(Ty.den TStore × Ty.den TDisk) × PlaceL)=>impl_Store__commit.l0 k n l rs.length i s.1.1.1.2.1 s.1.1.2.1 s.1.1.1.1 s.1.1.2.2.1 s.1.1.2.2.2.1 s.1.1.2.2.2.2.1 s.1.2.1 s.1.2.2.1 s.1.2.2.2.1 s.1.2.2.2.2.1 0 (s.2.map entryOf) rs)
  (R:=fun r s=>(some ((endR l.length (addsR r s.1.1 s.1.2 s.2)).1,(wO (endR l.length (addsR r s.1.1 s.1.2 s.2)).2,())):impl_Store__commit.Rs))
  (Ty.dflt TRec) rs (fun i s=>SR s.1.1 (s.1.2,0) (100000+211*i)∧s.2.map recP=rs.take i.toNat∧s.1.1.2.1.length≤20) (fun n s hs=>?_) (fun n i s x rest h0 h1 hx hr hs ih=>?_) (n:=k) (s:=((batS st,d),[])) (by omega) ⟨⟨h.live,h.disk,h.lo,Int.le_trans h.hi (by decide)⟩,rfl,hd⟩
 · obtain ⟨⟨st',d'⟩,ps⟩:=s
   obtain ⟨g1,g2,g3⟩:=hs
   simp only [] at g1 g2 g3 ⊢
   rw [Int.toNat_natCast,List.take_length] at g2
   have hps:ps.length=rs.length:=by simpa using congrArg List.length g2
   simp only [impl_Store__commit.l0,impl_Store__commit.b0]
   rw [decF (by omega),c_f,show ((st'.1.1,(st'.1.2.1,())),(st'.2.1,(st'.2.2.1,(st'.2.2.2.1,(st'.2.2.2.2.1,())))))=st' from rfl,implActive_eq g1.live,o_s]
   simp only []
   rw [show ((d'.1,(d'.2.1,(d'.2.2.1,(d'.2.2.2.1,())))),((0:Int),()))=wO (d',0) from rfl,implW_syn hk (d',0) g1.disk,o_s,wk_zero]
   unfold endR addsR
   simp only [show ((0:Int) != 0)=false from rfl,c_f]
   generalize synM d' (actB st')=y
   have q:=tl_ne y
   rw [show (wO (tl y)).2.1=(tl y).2 from rfl]
   cases c:y.2 != 0 with
   | true =>
    rw [c] at q
    have q:((tl y).2==0)=false:=by unfold bne at q;simpa using q
    rw [q]
    rfl
   | false =>
    rw [c] at q
    have q:((tl y).2==0)=true:=by unfold bne at q;simpa using q
    rw [q]
    simp only [c_t,c_f]
    rw [implDirG_eq hk (by omega) (by omega) (by rw [List.length_map];omega),o_s,dirW_apply st.2.2.1 l ps [sealR 3 st.2.2.1 (l.map (putR st.2.2.1))] st'.2.1 (g2.trans hre),tl_zero (r:=y) (by unfold bne at c;simpa using c)]
    rfl
 · obtain ⟨⟨st',d'⟩,ps⟩:=s
   obtain ⟨g1,g2,g3⟩:=hs
   simp only [] at g1 g2 g3 ih ⊢
   have hi:i.toNat<rs.length:=by omega
   have et:rs.take (i+1).toNat=rs.take i.toNat++[x]:=by
    rw [show (i+1).toNat=i.toNat+1 by omega,List.take_succ_eq_append_getElem hi]
    congr 2
    rw [← hx]
    simp [List.getD,hi]
   have hps:ps.length≤rs.length:=by
    have:=congrArg List.length g2
    rw [List.length_map,List.length_take] at this
    omega
   obtain ⟨k1,k2,k3⟩:=add_facts g1 (by omega) x
   obtain ⟨e,he1,he2⟩:=implAdd_eq hk g1 (by omega) (by omega) x
   simp only [impl_Store__commit.l0,impl_Store__commit.b0,addsR]
   rw [decT h1,c_t,inb_eq h0 h1,hx,show ((st'.1.1,(st'.1.2.1,())),(st'.2.1,(st'.2.2.1,(st'.2.2.2.1,(st'.2.2.2.2.1,())))))=st' from rfl,show ((d'.1,(d'.2.1,(d'.2.2.1,(d'.2.2.2.1,())))),((0:Int),()))=wO (d',0) from rfl,he1,o_s]
   simp only []
   have hk1:=k1.hi
   generalize addR st' d' x=q at k1 k2 k3 hk1 he2 ⊢
   rw [show (wO q.1.2).2.1=q.1.2.2 from rfl]
   cases c:q.1.2.2 != 0 with
   | true =>
    simp only [c_t]
    unfold endR
    simp only [c,c_t]
   | false =>
    simp only [c_f]
    have z:=zero_ne c
    have q3:=k3 z
    rw [rm_ok (by rw [List.length_map];omega) (by decide),w64_eq (n:=i+1) (by omega) (by omega),he2 z]
    have e1:(ps++[q.2]).map entryOf=ps.map entryOf++[entryOf q.2]:=by rw [List.map_append,List.map_singleton]
    have ih:=ih ((q.1.1,q.1.2.1),ps++[q.2]) ⟨⟨k1.live,k1.disk,k1.lo,by show LE.le (α:=Int) q.1.1.2.2.2.1 _;omega⟩,by simp only [];rw [List.map_append,List.map_singleton,q3,g2,et],by simp only [];rw [k2];exact g3⟩
    simp only [] at ih
    rw [e1] at ih
    rw [show (wO q.1.2).1=q.1.2.1 from rfl,z]
    exact ih
noncomputable def commitM (st:Ty.den TStore) (d:Ty.den TDisk) (l:PutL):Ty.den TStore × RD :=
 bif !storeM st d then (st,(d,4)) else bif !putsOk l then (st,(d,4)) else bif (l.length:Int)==0 then (st,(d,0)) else bif decide (afterM st.2.1 l > 20) then (st,(d,5)) else
 bif decide (st.2.2.1 > 1000000) then (st,(d,5)) else writeR st d l
theorem segs_tail {d:Ty.den TDisk} {tail:Int}:∀ {l:List Int},l≠[]→segsOk d tail l=true→∃ x,tail=((textM d (namedM segB x)).1.size:Int)
 | [],h,_=>absurd rfl h
 | [x],_,h=>by
  unfold segsOk segOk at h
  simp only [b_a,List.isEmpty_nil,n_t,Bool.false_or] at h
  exact ⟨x,q_t h.1.2.2⟩
 | x::y::l,_,h=>by
  unfold segsOk at h
  rw [b_a] at h
  exact segs_tail (by intro q;cases q) h.2
theorem store_facts {st:Ty.den TStore} {d:Ty.den TDisk} (h:storeM st d=true):SR st (d,0) 100000∧st.2.1.length≤20∧LE.le (α:=Int) 1 st.2.2.1:=by
 unfold storeM dirM at h
 simp only [b_a,decide_eq_true_eq] at h
 obtain ⟨h1,h2,⟨h3,_⟩,h4,h5,_⟩:=h
 obtain ⟨_,_,g1,_,_⟩:=live_facts (nx:=st.1.1) (ids:=st.1.2.1) h2
 have hd:=disk_iff.1 h1
 obtain ⟨x,hx⟩:=segs_tail (by intro q;rw [q] at g1;simp at g1) h5
 have hs:=textM_size d (namedM segB x)
 have hu:=hd.use
 have hc:=hd.cap1
 refine ⟨⟨h2,hd,?_,?_⟩,by omega,h4.1⟩
 · show LE.le (α:=Int) 0 st.2.2.2.1
   rw [hx]
   omega
 · show LE.le (α:=Int) st.2.2.2.1 100000
   rw [hx]
   have:LE.le (α:=Int) (used d.1) 100000:=Int.le_trans hu hc
   omega
theorem specCommit_eq {k:Nat} (hk:2 ^ 50≤k) {st:Ty.den TStore} {d:Ty.den TDisk} (hd:DSz d) (h1:st.1.2.1.length≤1073741824) (h2:st.2.1.length≤536870912) {l:PutL} (hl:l.length≤1073741824) :
 spec_Commit_g2.f k st d l=some ((commitM st d l).1,((commitM st d l).2.1,((commitM st d l).2.2,()))):=by
 have ec:spec_l12Copy.f k st=some (st,()):=by
  unfold spec_l12Copy.f spec_l12Copy.t
  rw [rm_ok (by omega) (by decide),rm_ok (by omega) (by decide),List.nil_append,List.nil_append]
 unfold spec_Commit_g2.f spec_Commit_g2.t commitM
 rw [ec,o_s]
 simp only []
 rw [specCopyD_eq k hd,o_s]
 simp only []
 rw [specStore_eq hk hd,o_s]
 simp only []
 cases c1:storeM st d with
 | false=>rfl
 | true =>
  simp only [n_t,c_f]
  rw [specPutsOk_eq hk,o_s]
  simp only []
  cases c2:putsOk l with
  | false=>rfl
  | true =>
   have h8:=putsOk_len c2
   obtain ⟨g1,g2,g3⟩:=store_facts c1
   simp only [n_t,c_f]
   cases c3:(l.length:Int)==0 with
   | true=>rfl
   | false =>
    simp only [c_f]
    rw [specAfter_eq hk (by omega) (by omega),o_s]
    simp only []
    cases c4:decide (afterM st.2.1 l > 20) with
    | true=>rfl
    | false =>
     simp only [c_f]
     by_cases c5:st.2.2.1 > (1000000:Int)
     · rw [decT c5];rfl
     · rw [decF c5]
       simp only [c_f]
       rw [specWrite_eq hk g1 (Int.le_trans (by decide) g3) (Int.not_lt.1 c5) c2 g2,o_s]
theorem implCommit_eq {k:Nat} (hk:2 ^ 50≤k) {st:Ty.den TStore} {d:Ty.den TDisk} (hd:DSz d) (h1:st.1.2.1.length≤1073741824) (h2:st.2.1.length≤536870912) {l:PutL} (hl:l.length≤1073741824) :
 impl_Commit.f k st d l=some ((commitM st d l).1,((commitM st d l).2.1,((commitM st d l).2.2,()))):=by
 have ec:impl_copyStore.f k st=some (st,()):=by
  unfold impl_copyStore.f impl_copyStore.t impl_copyLive.f impl_copyLive.t
  rw [rm_ok (by omega) (by decide),o_s]
  unfold impl_copyDir.f impl_copyDir.t
  rw [rm_ok (by omega) (by decide),o_s]
 unfold impl_Commit.f impl_Commit.t commitM
 rw [ec,o_s]
 simp only []
 rw [implCopyD_eq k hd.l,o_s]
 simp only []
 rw [implStore_eq hk hd (by omega) (by omega),o_s]
 simp only []
 cases c1:storeM st d with
 | false=>rfl
 | true =>
  simp only [n_t,c_f]
  rw [implPutsOk_eq hk (by omega),o_s]
  simp only []
  cases c2:putsOk l with
  | false=>rfl
  | true =>
   have h8:=putsOk_len c2
   obtain ⟨g1,g2,g3⟩:=store_facts c1
   simp only [n_t,c_f]
   cases c3:(l.length:Int)==0 with
   | true=>rfl
   | false =>
    simp only [c_f]
    rw [implKeys2_eq hk (by omega) (by omega),o_s]
    simp only []
    cases c4:decide (afterM st.2.1 l > 20) with
    | true=>rfl
    | false =>
     simp only [c_f]
     by_cases c5:st.2.2.1 > (1000000:Int)
     · rw [decT c5];rfl
     · rw [decF c5]
       simp only [c_f]
       rw [show ((d,((0:Int),())):Ty.den Tworker)=wO (d,0) from rfl,implWrite_eq hk g1 (Int.le_trans (by decide) g3) (Int.not_lt.1 c5) c2 g2,o_s]
       rfl
end Go.Proofs.YtejgkmhpmhfnbaaGreatDoor.G
namespace Go.Proofs.YtejgkmhpmhfnbaaGreatDoor.G
open Go.V
theorem specNewR_eq (k:Nat) {n:Int} (h0:0≤n) (h1:n≤100000):spec_DiskNew.f k n=some (([],(n,(-1,(false,())))),()):=by
 unfold spec_DiskNew.f spec_DiskNew.t
 rw [l1InD_eq,o_s,decT ⟨h0,h1⟩]
 rfl
def newD (n:Int):Ty.den TDisk:=([],(n,(-1,(false,()))))
theorem newD_DR {n:Int} (h0:0≤n) (h1:n≤100000):DR (newD n) :=
 ⟨Nat.zero_le _,h0,h1,show LE.le (α:=Int) (-1) (-1) from Int.le_refl _,show LE.le (α:=Int) (-1) 100000 by decide,h0,fun f hf=>(by cases hf),List.Pairwise.nil⟩
theorem write_keep {st:Ty.den TStore} {d:Ty.den TDisk} {l:PutL} (h:SR st (d,0) 100000) (hp:putsOk l=true) (hd:st.2.1.length≤20) :
 DR (writeR st d l).2.1∧(writeR st d l).1.1.2.1.length≤60∧(writeR st d l).1.2.1.length≤268435456:=by
 have h8:=putsOk_len hp
 obtain ⟨g1,g2,g3⟩:=adds_facts (recsM l st.2.2.1) (batS st) d [] 100000 ⟨h.live,h.disk,h.lo,h.hi⟩ (by decide)
 unfold writeR
 generalize addsR (recsM l st.2.2.1) (batS st) d []=q at g1 g2 g3 ⊢
 have e2:q.1.1.2.1=st.2.1:=g2
 obtain ⟨_,_,_,hi,_⟩:=live_facts (nx:=q.1.1.1.1) (ids:=q.1.1.1.2.1) g1.live
 have hs:=syn_DR g1.disk (actB q.1.1)
 unfold endR
 cases q.1.2.2 != 0 with
 | true=>exact ⟨g1.disk,hi,by show q.1.1.2.1.length≤_;rw [e2];omega⟩
 | false =>
  simp only [c_f]
  generalize synM q.1.2.1 (actB q.1.1)=y at hs ⊢
  cases y.2 != 0 with
  | true=>exact ⟨hs,hi,by show q.1.1.2.1.length≤_;rw [e2];omega⟩
  | false =>
   refine ⟨hs,hi,?_⟩
   show (applyM q.1.1.2.1 (q.2.take l.length)).length≤_
   have:=applyM_len (q.2.take l.length) q.1.1.2.1
   rw [e2] at this ⊢
   rw [List.length_take] at this
   omega
theorem commit_keep {st:Ty.den TStore} {d:Ty.den TDisk} (l:PutL) (hd:DR d) (h1:st.1.2.1.length≤60) (h2:st.2.1.length≤268435456) :
 DR (commitM st d l).2.1∧(commitM st d l).1.1.2.1.length≤60∧(commitM st d l).1.2.1.length≤268435456:=by
 unfold commitM
 cases c1:storeM st d with
 | false=>exact ⟨hd,h1,h2⟩
 | true =>
  simp only [n_t,c_f]
  cases c2:putsOk l with
  | false=>exact ⟨hd,h1,h2⟩
  | true =>
   simp only [n_t,c_f]
   cases (l.length:Int)==0 with
   | true=>exact ⟨hd,h1,h2⟩
   | false =>
    cases decide (afterM st.2.1 l > 20) with
    | true=>exact ⟨hd,h1,h2⟩
    | false =>
     cases decide (st.2.2.1 > (1000000:Int)) with
     | true=>exact ⟨hd,h1,h2⟩
     | false=>exact write_keep (store_facts c1).1 c2 (store_facts c1).2.1
def putOf (p:Ty.den TPair):Ty.den TPut:=(p.1,(false,(p.2.1,())))
noncomputable def restR:Nat→PairL→Ty.den TStore × RD→Ty.den TStore × RD
 | 0,_,q=>q
 | m+1,l,q=>bif decide (0<l.length)&&(q.2.2==0) then restR m (l.drop 8) (commitM q.1 q.2.1 ((l.take 8).map putOf)) else q
noncomputable def restoreM (cap:Int) (l:PairL):Ty.den TStore × RD :=
 bif !decide ((0:Int)≤cap∧cap≤100000) then (zStore,(([],(0,(0,(false,())))),4)) else bif !pairsOk l then (zStore,(([],(0,(0,(false,())))),4)) else restR 3 l (openM (newD cap))
structure RR (q:Ty.den TStore × RD):Prop where
 disk:DR q.2.1
 ids:q.1.1.2.1.length≤60
 dir:q.1.2.1.length≤268435456
theorem rest_keep:∀ (m:Nat) (l:PairL) (q:Ty.den TStore × RD),RR q→RR (restR m l q)
 | 0,_,_,h=>h
 | m+1,l,q,h=>by
  unfold restR
  cases decide (0<l.length)&&(q.2.2==0) with
  | false=>exact h
  | true =>
   obtain ⟨g1,g2,g3⟩:=commit_keep ((l.take 8).map putOf) h.disk h.ids h.dir
   exact rest_keep m _ _ ⟨g1,g2,g3⟩
theorem cut8 {α:Type} (l:List α) (i:Nat):(l.take (min l.length (i+8))).drop i=(l.drop i).take 8:=by
 rw [List.drop_take]
 by_cases h:i+8≤l.length
 · rw [Nat.min_eq_right h,Nat.add_sub_cancel_left]
 · rw [Nat.min_eq_left (by omega),List.take_of_length_le (by rw [List.length_drop];omega),List.take_of_length_le (by rw [List.length_drop];omega)]
theorem specIn_eq {k:Nat} (hk:2 ^ 50≤k) {L0:spec_Restore.T0} {l:PairL} (hl:l.length≤20) {i:Int} (hi:0≤i) (hi':i≤(l.length:Int)) {q:Ty.den TStore × RD} (h:RR q) {n:Nat} (hn:100≤n) :
 spec_Restore.l1 k L0 n l i i [] [] 0 0 0 0 [] 0 0 false q.1.1.2.1 q.1.2.1 q.1.1.1 q.1.2.2.1 q.1.2.2.2.1 q.1.2.2.2.2.1 q.2.1.1 q.2.1.2.1 q.2.1.2.2.1 q.2.1.2.2.2.1 [] =
 (fun y:Ty.den TStore × RD=>L0 l y.2.2 (i+8) [] [] 0 0 0 0 [] 0 0 false y.1.1.2.1 y.1.2.1 y.1.1.1 y.1.2.2.1 y.1.2.2.2.1 y.1.2.2.2.2.1 y.2.1.1 y.2.1.2.1 y.2.1.2.2.1 y.2.1.2.2.2.1) (commitM q.1 q.2.1 (((l.drop i.toNat).take 8).map putOf)):=by
 obtain ⟨N,hN⟩:∃ N:Nat,N=min l.length (i.toNat+8):=⟨_,rfl⟩
 have hw:w64 (i+8)=i+8:=w64_eq (by omega) (by omega)
 have fin:∀ s:PutL,s.length≤30→((spec_Commit_g2.f k q.1 q.2.1 s).bind fun r5=>L0 l r5.2.2.1 (i+8) [] [] 0 0 0 0 [] 0 0 false r5.1.1.2.1 r5.1.2.1 r5.1.1.1 r5.1.2.2.1 r5.1.2.2.2.1 r5.1.2.2.2.2.1 r5.2.1.1 r5.2.1.2.1 r5.2.1.2.2.1 r5.2.1.2.2.2.1) =
  (fun y:Ty.den TStore × RD=>L0 l y.2.2 (i+8) [] [] 0 0 0 0 [] 0 0 false y.1.1.2.1 y.1.2.1 y.1.1.1 y.1.2.2.1 y.1.2.2.2.1 y.1.2.2.2.2.1 y.2.1.1 y.2.1.2.1 y.2.1.2.2.1 y.2.1.2.2.2.1) (commitM q.1 q.2.1 s):=fun s hs=>by
  have h1:=h.ids
  have h2:=h.dir
  rw [specCommit_eq hk h.disk.sz (by omega) (by omega) (by omega),o_s]
 refine (forI (L:=fun n j (s:PutL)=>spec_Restore.l1 k L0 n l i j [] [] 0 0 0 0 [] 0 0 false q.1.1.2.1 q.1.2.1 q.1.1.1 q.1.2.2.1 q.1.2.2.2.1 q.1.2.2.2.2.1 q.2.1.1 q.2.1.2.1 q.2.1.2.2.1 q.2.1.2.2.2.1 s)
  (R:=fun j s=>(fun y:Ty.den TStore × RD=>L0 l y.2.2 (i+8) [] [] 0 0 0 0 [] 0 0 false y.1.1.2.1 y.1.2.1 y.1.1.1 y.1.2.2.1 y.1.2.2.2.1 y.1.2.2.2.2.1 y.2.1.1 y.2.1.2.1 y.2.1.2.2.1 y.2.1.2.2.2.1) (commitM q.1 q.2.1 (s++((l.take N).drop j.toNat).map putOf)))
  (N:Int) (fun j s=>(s.length:Int)≤j) (fun n s hs=>?_) (fun n j s h0 h1 hs ih=>?_) n i [] hi (by omega) (by omega) (by rw [List.length_nil];omega)).trans ?_
 · simp only [spec_Restore.l1,spec_Restore.b1]
   rw [hw,show ((q.1.1.1,(q.1.1.2.1,())),(q.1.2.1,(q.1.2.2.1,(q.1.2.2.2.1,(q.1.2.2.2.2.1,())))))=q.1 from rfl,show (q.2.1.1,(q.2.1.2.1,(q.2.1.2.2.1,(q.2.1.2.2.2.1,()))))=q.2.1 from rfl,fin s (by omega)]
   have e:(l.take N).drop (N:Int).toNat=[]:=by rw [Int.toNat_natCast];exact List.drop_eq_nil_of_le (by rw [List.length_take];omega)
   rw [e,List.map_nil,List.append_nil]
   by_cases c:(N:Int)<(l.length:Int)
   · rw [decT c,c_t,decF (by omega),c_f]
   · rw [decF c,c_f]
 · have c1:j<(l.length:Int):=by omega
   have c2:j<i+8:=by omega
   simp only [spec_Restore.l1,spec_Restore.b1]
   rw [hw,decT c1,c_t,decT c2,c_t,inb_eq h0 c1,inb_eq h0 c1,rm_ok (by omega) (by decide),w64_eq (n:=j+1) (by omega) (by omega)]
   refine (ih (s++[putOf (l.getD j.toNat (Ty.dflt TPair))]) (by rw [l_a,List.length_singleton];omega)).trans ?_
   have hj:j.toNat<(l.take N).length:=by rw [List.length_take];omega
   have e:(l.take N).drop j.toNat=l.getD j.toNat (Ty.dflt TPair)::(l.take N).drop (j+1).toNat:=by
    rw [List.drop_eq_getElem_cons hj,show (j+1).toNat=j.toNat+1 by omega]
    congr 1
    rw [List.getElem_take]
    simp [List.getD,show j.toNat<l.length by omega]
   rw [e,List.map_cons,a_a,List.singleton_append]
 · rw [List.nil_append,hN,cut8]
theorem specRest_eq {k:Nat} (hk:2 ^ 50≤k) {l:PairL} (hl:l.length≤20):∀ (m n:Nat) (i:Int) (q:Ty.den TStore × RD),RR q→0≤i→(l.length:Int)≤i+8*m→m<n→i≤30 →
 spec_Restore.l0 k n l q.2.2 i [] [] 0 0 0 0 [] 0 0 false q.1.1.2.1 q.1.2.1 q.1.1.1 q.1.2.2.1 q.1.2.2.2.1 q.1.2.2.2.2.1 q.2.1.1 q.2.1.2.1 q.2.1.2.2.1 q.2.1.2.2.2.1=some (oS (restR m (l.drop i.toNat) q))
 | m,0,i,q,h,h0,h1,h2,h3=>by omega
 | 0,n+1,i,q,h,h0,h1,h2,h3=>by
  simp only [spec_Restore.l0,spec_Restore.b0]
  rw [decF (by omega),c_f]
  rfl
 | m+1,n+1,i,q,h,h0,h1,h2,h3=>by
  simp only [spec_Restore.l0,spec_Restore.b0,restR]
  by_cases c:i<(l.length:Int)
  · rw [decT c,c_t,decT (show 0<(l.drop i.toNat).length by rw [List.length_drop];omega),Bool.true_and]
    cases c2:q.2.2==0 with
    | false=>rfl
    | true =>
     simp only [c_t]
     rw [specIn_eq hk hl h0 (by omega) h (by omega)]
     obtain ⟨g1,g2,g3⟩:=commit_keep (((l.drop i.toNat).take 8).map putOf) h.disk h.ids h.dir
     have:=specRest_eq hk hl m n (i+8) (commitM q.1 q.2.1 (((l.drop i.toNat).take 8).map putOf)) ⟨g1,g2,g3⟩ (by omega) (by omega) (by omega) (by omega)
     rw [List.drop_drop,show i.toNat+8=(i+8).toNat by omega]
     exact this
  · rw [decF c,c_f,decF (show ¬ 0<(l.drop i.toNat).length by rw [List.length_drop];omega),Bool.false_and]
    rfl
theorem implIn_eq {k:Nat} (hk:2 ^ 50≤k) {L0:impl_Restore.T0} {l s:PairL} (hs:s.length≤8) {i:Int} (hi:0≤i) (hi':i≤30) {q:Ty.den TStore × RD} (h:RR q) {n:Nat} (hn:100≤n) :
 impl_Restore.l1 k L0 n l i s s.length 0 [] [] 0 0 0 0 [] 0 0 false q.1.1.2.1 q.1.2.1 q.1.1.1 q.1.2.2.1 q.1.2.2.2.1 q.1.2.2.2.2.1 q.2.1.1 q.2.1.2.1 q.2.1.2.2.1 q.2.1.2.2.2.1 [] =
 (fun y:Ty.den TStore × RD=>L0 l y.2.2 (i+8) [] [] 0 0 0 0 [] 0 0 false y.1.1.2.1 y.1.2.1 y.1.1.1 y.1.2.2.1 y.1.2.2.2.1 y.1.2.2.2.2.1 y.2.1.1 y.2.1.2.1 y.2.1.2.2.1 y.2.1.2.2.2.1) (commitM q.1 q.2.1 (s.map putOf)):=by
 have hw:w64 (i+8)=i+8:=w64_eq (by omega) (by omega)
 refine (forL0 (L:=fun n j (p:PutL)=>impl_Restore.l1 k L0 n l i s s.length j [] [] 0 0 0 0 [] 0 0 false q.1.1.2.1 q.1.2.1 q.1.1.1 q.1.2.2.1 q.1.2.2.2.1 q.1.2.2.2.2.1 q.2.1.1 q.2.1.2.1 q.2.1.2.2.1 q.2.1.2.2.2.1 p)
  (R:=fun r p=>(fun y:Ty.den TStore × RD=>L0 l y.2.2 (i+8) [] [] 0 0 0 0 [] 0 0 false y.1.1.2.1 y.1.2.1 y.1.1.1 y.1.2.2.1 y.1.2.2.2.1 y.1.2.2.2.2.1 y.2.1.1 y.2.1.2.1 y.2.1.2.2.1 y.2.1.2.2.2.1) (commitM q.1 q.2.1 (p++r.map putOf)))
  (Ty.dflt TPair) s (fun j p=>(p.length:Int)≤j) (fun n p hp=>?_) (fun n j p x rest h0 h1 hx hr hp ih=>?_) (n:=n) (s:=[]) (by omega) (by rw [List.length_nil];decide)).trans (by rw [List.nil_append])
 · have h1:=h.ids
   have h2:=h.dir
   simp only [impl_Restore.l1,impl_Restore.b1]
   rw [decF (by omega),c_f,hw,show ((q.1.1.1,(q.1.1.2.1,())),(q.1.2.1,(q.1.2.2.1,(q.1.2.2.2.1,(q.1.2.2.2.2.1,())))))=q.1 from rfl,show (q.2.1.1,(q.2.1.2.1,(q.2.1.2.2.1,(q.2.1.2.2.2.1,()))))=q.2.1 from rfl,
    implCommit_eq hk h.disk.sz (by omega) (by omega) (by omega),o_s,List.map_nil,List.append_nil]
 · simp only [impl_Restore.l1,impl_Restore.b1]
   rw [decT h1,c_t,inb_eq h0 h1,hx,rm_ok (by omega) (by decide),w64_eq (n:=j+1) (by omega) (by omega)]
   refine (ih (p++[putOf x]) (by rw [l_a,List.length_singleton];omega)).trans ?_
   rw [List.map_cons,a_a,List.singleton_append]
theorem implRest_eq {k:Nat} (hk:2 ^ 50≤k) {l:PairL} (hl:l.length≤20):∀ (m n:Nat) (i:Int) (q:Ty.den TStore × RD),RR q→0≤i→(l.length:Int)≤i+8*m→m<n→i≤30 →
 impl_Restore.l0 k n l q.2.2 i [] [] 0 0 0 0 [] 0 0 false q.1.1.2.1 q.1.2.1 q.1.1.1 q.1.2.2.1 q.1.2.2.2.1 q.1.2.2.2.2.1 q.2.1.1 q.2.1.2.1 q.2.1.2.2.1 q.2.1.2.2.2.1=some (oS (restR m (l.drop i.toNat) q))
 | m,0,i,q,h,h0,h1,h2,h3=>by omega
 | 0,n+1,i,q,h,h0,h1,h2,h3=>by
  simp only [impl_Restore.l0,impl_Restore.b0]
  rw [decF (by omega),c_f]
  rfl
 | m+1,n+1,i,q,h,h0,h1,h2,h3=>by
  simp only [impl_Restore.l0,impl_Restore.b0,restR]
  by_cases c:i<(l.length:Int)
  · rw [decT c,c_t,decT (show 0<(l.drop i.toNat).length by rw [List.length_drop];omega),Bool.true_and]
    cases c2:q.2.2==0 with
    | false=>rfl
    | true =>
     simp only [c_t]
     rw [w64_eq (n:=i+8) (by omega) (by omega)]
     obtain ⟨N,hN⟩:∃ N:Int,N=if (l.length:Int)<i+8 then (l.length:Int) else i+8:=⟨_,rfl⟩
     have hm:N.toNat=min l.length (i.toNat+8):=by rw [hN];split <;> omega
     have hb:i≤N∧N≤(l.length:Int):=by rw [hN];split <;> omega
     rw [← hN,inc2_eq h0 hb.1 hb.2,hm,cut8,implIn_eq hk (by rw [List.length_take];omega) h0 h3 h (by omega)]
     obtain ⟨g1,g2,g3⟩:=commit_keep (((l.drop i.toNat).take 8).map putOf) h.disk h.ids h.dir
     have:=implRest_eq hk hl m n (i+8) (commitM q.1 q.2.1 (((l.drop i.toNat).take 8).map putOf)) ⟨g1,g2,g3⟩ (by omega) (by omega) (by omega) (by omega)
     rw [List.drop_drop,show i.toNat+8=(i+8).toNat by omega]
     exact this
  · rw [decF c,c_f,decF (show ¬ 0<(l.drop i.toNat).length by rw [List.length_drop];omega),Bool.false_and]
    rfl
theorem open_new {n:Int} (h0:0≤n) (h1:n≤100000):RR (openM (newD n)):=by
 have hd:=newD_DR h0 h1
 obtain ⟨g1,g2⟩:=open_facts hd
 refine ⟨g1,?_,g2⟩
 unfold openM
 have e:(textM (newD n) liveB).2=false:=by unfold textM;rw [disk_iff.2 hd];rfl
 rw [disk_iff.2 hd,e]
 show (firstM (newD n)).1.1.2.1.length≤60
 unfold firstM
 cases (firstR (newD n)).2==0
 · exact Nat.zero_le _
 · show 1≤60
   decide
theorem specRestore_eq {k:Nat} (hk:2 ^ 50≤k) (cap:Int) (l:PairL):spec_Restore.f k cap l=some (oS (restoreM cap l)):=by
 unfold spec_Restore.f spec_Restore.t restoreM
 rw [l1InD_eq,o_s]
 simp only []
 by_cases c:(0:Int)≤cap∧cap≤100000
 · rw [decT c]
   simp only [n_t,c_f]
   rw [specPairsOk_eq hk,o_s]
   simp only []
   cases c2:pairsOk l with
   | false=>rfl
   | true =>
    have h20:=pairsOk_len c2
    simp only [n_t,c_f]
    rw [specNewR_eq k c.1 c.2,o_s]
    simp only []
    rw [show (([],(cap,(-1,(false,())))):Ty.den TDisk)=newD cap from rfl,specOpen_eq hk (newD_DR c.1 c.2).sz,o_s]
    exact specRest_eq hk h20 3 k 0 (openM (newD cap)) (open_new c.1 c.2) (by omega) (by omega) (by omega) (by omega)
 · rw [decF c]
   rfl
theorem implRestore_eq {k:Nat} (hk:2 ^ 50≤k) (cap:Int) {l:PairL} (hl:l.length≤1099511627776):impl_Restore.f k cap l=some (oS (restoreM cap l)):=by
 unfold impl_Restore.f impl_Restore.t restoreM
 rw [inD_eq,o_s]
 simp only []
 by_cases c:(0:Int)≤cap∧cap≤100000
 · rw [decT c]
   simp only [n_t,c_f]
   rw [implPairsOk_eq hk hl,o_s]
   simp only []
   cases c2:pairsOk l with
   | false=>rfl
   | true =>
    have h20:=pairsOk_len c2
    simp only [n_t,c_f]
    rw [implNew_eq k c.1 c.2,o_s]
    simp only []
    rw [show (([],(cap,(-1,(false,())))):Ty.den TDisk)=newD cap from rfl,implOpen_eq hk (newD_DR c.1 c.2).sz,o_s]
    exact implRest_eq hk h20 3 k 0 (openM (newD cap)) (open_new c.1 c.2) (by omega) (by omega) (by omega) (by omega)
 · rw [decF c]
   rfl
theorem core_FnExactRestore {a0:Int} {a1:PairL} (f0:Wf (.int .i64) a0) (f1:Wf (.slice TPair) a1) (w1:weight (.slice TPair) a1≤1048576) :
 ∃ r,Ev (fun k=>spec_Restore.f k a0 a1) r∧Ev (fun k=>impl_Restore.f k a0 a1) r∧(wp TStore r.1≤1099511627776∧wp TDisk r.2.1≤1099511627776):=by
 have hl:=weight_len w1
 have hr:(restoreM a0 a1).1.1.2.1.length≤60∧(restoreM a0 a1).1.2.1.length≤268435456∧(restoreM a0 a1).2.1.1.length≤1000:=by
  unfold restoreM
  by_cases c:(0:Int)≤a0∧a0≤100000
  · rw [decT c]
    cases pairsOk a1 with
    | false=>exact ⟨Nat.zero_le _,Nat.zero_le _,Nat.zero_le _⟩
    | true =>
     have h:=rest_keep 3 a1 _ (open_new c.1 c.2)
     exact ⟨h.ids,h.dir,Nat.le_trans h.disk.len (by decide)⟩
  · rw [decF c]
    exact ⟨Nat.zero_le _,Nat.zero_le _,Nat.zero_le _⟩
 obtain ⟨h1,h2,h3⟩:=hr
 refine ⟨_,ev_big fun k hk=>specRestore_eq hk a0 a1,ev_big fun k hk=>implRestore_eq hk a0 (by omega),?_,?_⟩
 · show wp TStore (restoreM a0 a1).1≤_
   have e:wp TStore (restoreM a0 a1).1=(0+(wp (.slice (.int .i64)) (restoreM a0 a1).1.1.2.1+0))+(wp (.slice TEntry) (restoreM a0 a1).1.2.1+(0+(0+(0+0)))):=rfl
   rw [e,wp_flatS (t := .int .i64) rfl,wp_flatS (t:=TEntry) rfl]
   omega
 · show wp TDisk (restoreM a0 a1).2.1≤_
   have e:wp TDisk (restoreM a0 a1).2.1=wp (.slice TPair) (restoreM a0 a1).2.1.1+(0+(0+(0+0))):=rfl
   rw [e,wp_flatS (t:=TPair) rfl]
   omega
end Go.Proofs.YtejgkmhpmhfnbaaGreatDoor.G

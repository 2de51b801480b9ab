/- Plain laws, merged; what is proved here is told ahead of each part. -/
import Derived.Test.YtmakghhmpgfboaaGreatZP1
set_option linter.unusedVariables false
set_option linter.unusedSimpArgs false
namespace Go.Proofs.YtmakghhmpgfboaaGreat.G
open Go.V
abbrev PutL:=List (Ty.den TPut)
def putOkB (x:Ty.den TPut):Bool:=keyOkB x.1&&(decide ((x.2.2.1.size:Int)≤24)&&(!x.2.1||seq x.2.2.1 ⟨#[]⟩))
def putsOk (l:PutL):Bool:=adj (fun _=>putOkB) none l&&decide (l.length≤8)
theorem specPutsOk_eq {k:Nat} (hk:2 ^ 50≤k) (l:PutL):spec_PutsOk.f k l=some (putsOk l,()):=by
 unfold spec_PutsOk.f spec_PutsOk.t putsOk
 by_cases c:l.length > 8
 · rw [decT (by omega),c_t,decF (by omega),Bool.and_false]
 · rw [decF (by omega),c_f,decT (by omega),Bool.and_true]
   have st:∀ (n:Nat) (i:Int) x,0≤i→i<l.length→l.getD i.toNat (Ty.dflt TPut)=x→spec_PutsOk.l0 k (n+1) l i=bif putOkB x then spec_PutsOk.l0 k n l (i+1) else some (false,()):=fun n i x h0 h1 hx=>by
    simp (disch:=omega) only [spec_PutsOk.l0,spec_PutsOk.b0,decT h1,c_t,inb_eq,hx,specKeyOk_eq k,o_s,w64_eq,putOkB,keyOkB]
    by_cases c2:(x.2.2.1.size:Int) > 24
    · rw [decT c2,decF (show ¬ (x.2.2.1.size:Int)≤24 by omega)]
      cases decide (1≤(x.1.size:Int)∧(x.1.size:Int)≤8) <;> rfl
    · rw [decF c2,decT (show (x.2.2.1.size:Int)≤24 by omega)]
      cases decide (1≤(x.1.size:Int)∧(x.1.size:Int)≤8) <;> cases x.2.1 <;> cases seq x.2.2.1 ⟨#[]⟩ <;> rfl
   exact (forAdj (L:=fun n i=>spec_PutsOk.l0 k n l i) (Ty.dflt TPut) l (fun _=>putOkB) (some (true,())) (some (false,())) (fun n=>by simp (disch:=omega) only [spec_PutsOk.l0,spec_PutsOk.b0,decF,c_f])
    (fun n x h hx=>st n 0 x (by omega) (by omega) hx) (fun n i x y h0 h1 hx hy=>st n i x (by omega) h1 hx) (n:=k) (by omega)).trans (by cases adj (fun _=>putOkB) none l <;> rfl)
theorem putsOk_len {l:PutL} (h:putsOk l=true):l.length≤8:=by
 unfold putsOk at h
 rw [b_a,decide_eq_true_eq] at h
 exact h.2
theorem putsOk_mem {l:PutL} (h:putsOk l=true) {x:Ty.den TPut} (hx:x ∈ l):putOkB x=true:=by
 unfold putsOk at h
 rw [b_a] at h
 exact (adj_all h.1 hx).elim fun _ q=>q
def putR (b:Int) (p:Ty.den TPut):Ty.den TRec:=bif p.2.1 then (2,(b,(p.1,(ByteArray.empty,(0,(0,())))))) else (1,(b,(p.1,(p.2.2.1,(0,(0,()))))))
def recsM (l:PutL) (b:Int):RecL:=l.map (putR b)++[sealR 3 b (l.map (putR b))]
def recLen (r:Ty.den TRec):Int:=((frameM (showRec r)).size:Int)
theorem recLen_in (r:Ty.den TRec):0≤recLen r∧recLen r≤211:=by
 have:=frameM_size (showRec r)
 unfold recLen
 omega
theorem putR_spec {x:Ty.den TPut} (b:Int) (h:putOkB x=true):putR b x=bif x.2.1 then (2,(b,(x.1,(x.2.2.1,(0,(0,())))))) else (1,(b,(x.1,(x.2.2.1,(0,(0,())))))):=by
 unfold putR
 unfold putOkB at h
 rw [b_a,b_a] at h
 cases c:x.2.1 with
 | false=>rfl
 | true =>
  rw [c] at h
  have:x.2.2.1=⟨#[]⟩:=seq_iff.1 h.2.2
  rw [this]
  rfl
end Go.Proofs.YtmakghhmpgfboaaGreat.G
namespace Go.Proofs.YtmakghhmpgfboaaGreat.G
open Go.V
def dropM (l:EntryL) (key:ByteArray):EntryL:=l.filter fun x=>!(seq x.1 key)
def leE (key:ByteArray) (x:Ty.den TEntry):Bool:=sls x.1 key||seq x.1 key
def insE (l:EntryL) (e:Ty.den TEntry):EntryL:=l.takeWhile (leE e.1)++e::l.dropWhile (leE e.1)
def putM (l:EntryL) (e:Ty.den TEntry):EntryL:=insE (dropM l e.1) e
theorem dropM_len (l:EntryL) (key:ByteArray):(dropM l key).length≤l.length:=List.length_filter_le ..
theorem insE_len (l:EntryL) (e:Ty.den TEntry):(insE l e).length=l.length+1:=by
 unfold insE
 rw [l_a,l_c]
 have:=congrArg List.length (List.takeWhile_append_dropWhile (p:=leE e.1) (l:=l))
 rw [l_a] at this
 omega
theorem putM_len (l:EntryL) (e:Ty.den TEntry):(putM l e).length≤l.length+1:=by
 unfold putM
 have:=dropM_len l e.1
 rw [insE_len]
 omega
theorem specDirPut_eq {k:Nat} (hk:2 ^ 50≤k) {l:EntryL} (e:Ty.den TEntry) (hl:l.length≤1073741823):spec_DirPut.f k l e=some (putM l e,()):=by
 unfold spec_DirPut.f spec_DirPut.t
 refine (forL0 (L:=fun n i (s:Bool × EntryL)=>spec_DirPut.l0 k n l s.1 i e.1 e.2.1 e.2.2.1 e.2.2.2.1 e.2.2.2.2.1 s.2) (R:=fun r s=>some (s.2++bif s.1 then dropM r e.1 else insE (dropM r e.1) e,())) (Ty.dflt TEntry) l (fun i s=>(s.2.length:Int)≤2*i+1) (fun n s hs=>?_) (fun n i s x rest h0 h1 hx hr hp ih=>?_) (n:=k) (s:=(false,[])) (by omega) (by simp)).trans (by rw [List.nil_append];rfl)
 · obtain ⟨dn,out⟩:=s
   simp only [] at hs
   cases dn with
   | true=>simp (disch:=first | omega | decide) only [spec_DirPut.l0,spec_DirPut.b0,decF,c_f,c_t,n_t,dropM,List.filter_nil,List.append_nil]
   | false=>simp (disch:=first | omega | decide) only [spec_DirPut.l0,spec_DirPut.b0,decF,c_f,c_t,n_f,rm_ok,dropM,List.filter_nil,insE,List.takeWhile_nil,List.dropWhile_nil,List.nil_append]
 · obtain ⟨dn,out⟩:=s
   simp only [] at hp
   cases c:seq x.1 e.1 with
   | true =>
    simp (disch:=omega) only [spec_DirPut.l0,spec_DirPut.b0,decT,c_t,inb_eq,hx,c,w64_eq]
    refine (ih (dn,out) (by simp only [];omega)).trans ?_
    simp only [dropM,List.filter_cons,c,n_t,Bool.false_eq_true,if_false]
   | false =>
    have ef:dropM (x::rest) e.1=x::dropM rest e.1:=by simp only [dropM,List.filter_cons,c,n_f,if_true]
    cases dn with
    | true =>
     simp (disch:=first | omega | decide) only [spec_DirPut.l0,spec_DirPut.b0,decT,c_t,c_f,inb_eq,hx,c,w64_eq,n_t,rm_ok]
     refine (ih (true,out++[x]) (by simp only [len_snoc];omega)).trans ?_
     rw [ef]
     simp only [c_t,a_a,List.cons_append,List.nil_append]
    | false =>
     cases c2:sls x.1 e.1 with
     | true =>
      simp (disch:=first | omega | decide) only [spec_DirPut.l0,spec_DirPut.b0,decT,c_t,c_f,inb_eq,hx,c,c2,w64_eq,n_f,n_t,Bool.true_or,rm_ok]
      refine (ih (false,out++[x]) (by simp only [len_snoc];omega)).trans ?_
      rw [ef]
      simp only [c_f,insE,leE,List.takeWhile_cons,List.dropWhile_cons,c2,Bool.true_or,if_true,a_a,List.cons_append,List.nil_append]
     | false =>
      have hx2:(out++[(e.1,(e.2.1,(e.2.2.1,(e.2.2.2.1,(e.2.2.2.2.1,())))))]:EntryL).length+1≤1099511627776:=by rw [len_snoc];omega
      simp (disch:=first | omega | decide) only [spec_DirPut.l0,spec_DirPut.b0,decT,c_t,c_f,inb_eq,hx,c,c2,w64_eq,n_f,Bool.or_false,rm_ok]
      refine (ih (true,(out++[e])++[x]) (by simp only [len_snoc];omega)).trans ?_
      rw [ef]
      simp only [c_t,c_f,insE,leE,List.takeWhile_cons,List.dropWhile_cons,c,c2,Bool.or_false,Bool.false_eq_true,if_false,a_a,List.cons_append,List.nil_append]
end Go.Proofs.YtmakghhmpgfboaaGreat.G
namespace Go.Proofs.YtmakghhmpgfboaaGreat.G
open Go.V
abbrev PlaceL:=List (Ty.den TPlace)
def stepSeal (b:Int) (acc:PlaceL) (p:Ty.den TPlace):PlaceL :=
 bif p.2.2.2.1.2.1==b then (bif p.2.2.2.1.1==3 then [] else bif p.2.2.2.1.1==1||p.2.2.2.1.1==2 then acc++[p] else acc) else acc
def stepMark (acc:PlaceL) (p:Ty.den TPlace):PlaceL:=bif p.2.2.2.1.1==5 then [] else bif p.2.2.2.1.1==4 then acc++[p] else acc
def ownSeal (b:Int) (l:PlaceL):PlaceL:=l.foldl (stepSeal b) []
def ownMark (l:PlaceL):PlaceL:=l.foldl stepMark []
theorem stepSeal_len (b:Int) (acc:PlaceL) (p:Ty.den TPlace):(stepSeal b acc p).length≤acc.length+1:=by
 unfold stepSeal
 cases p.2.2.2.1.2.1==b <;> cases p.2.2.2.1.1==3 <;> cases p.2.2.2.1.1==1 <;> cases p.2.2.2.1.1==2 <;> simp
theorem stepMark_len (acc:PlaceL) (p:Ty.den TPlace):(stepMark acc p).length≤acc.length+1:=by
 unfold stepMark
 cases p.2.2.2.1.1==5 <;> cases p.2.2.2.1.1==4 <;> simp
theorem foldl_len {f:PlaceL→Ty.den TPlace→PlaceL} (h:∀ a p,(f a p).length≤a.length+1):∀ (l acc:PlaceL),(l.foldl f acc).length≤acc.length+l.length
 | [],acc=>by simp
 | p::l,acc=>by
  have:=foldl_len h l (f acc p)
  have:=h acc p
  rw [List.foldl_cons,l_c]
  omega
theorem ownSeal_len (b:Int) (l:PlaceL):(ownSeal b l).length≤l.length:=by
 have:=foldl_len (stepSeal_len b) l []
 simpa [ownSeal] using this
theorem ownMark_len (l:PlaceL):(ownMark l).length≤l.length:=by
 have:=foldl_len stepMark_len l []
 simpa [ownMark] using this
theorem specOf_eq {k:Nat} (hk:2 ^ 50≤k) {l:PlaceL} {e:Int} (b:Int) (h0:0≤e) (he:e≤l.length) (hl:l.length≤1099511627775):spec_l9Of.f k l e b=some (ownSeal b (l.take e.toNat),()):=by
 unfold spec_l9Of.f spec_l9Of.t
 have hlen:(l.take e.toNat).length=e.toNat:=by rw [List.length_take];omega
 have he':e=((l.take e.toNat).length:Int):=by omega
 conv=>lhs;rw [he']
 refine forL0 (L:=fun n i s=>spec_l9Of.l0 k n l ((l.take e.toNat).length:Int) b i s) (R:=fun r s=>some (r.foldl (stepSeal b) s,())) (Ty.dflt TPlace) (l.take e.toNat) (fun i s=>(s.length:Int)≤i) (fun n s hs=>?_) (fun n i s x rest h0 h1 hx hr hp ih=>?_) (n:=k) (s:=[]) (by omega) (by decide)
 · simp (disch:=omega) only [spec_l9Of.l0,spec_l9Of.b0,decF,c_f,List.foldl_nil]
 · rw [getD_take (by omega)] at hx
   have ih:=fun s' (h:s'.length≤s.length+1)=>ih s' (by omega)
   simp (disch:=omega) only [spec_l9Of.l0,spec_l9Of.b0,decT h1,c_t,inb_eq,hx,w64_eq]
   rw [List.foldl_cons]
   have hs1:=stepSeal_len b s x
   have ih1:=ih _ hs1
   rw [← ih1]
   unfold stepSeal
   have r1:∀ {R:Type} (q:Option R),rm (Ty.bytes TPlace) (s.length+1) q=q:=fun q=>rm_ok (by omega) (by decide)
   have r2:∀ {R:Type} (q:Option R),rm (Ty.bytes TPlace) (0+1) q=q:=fun q=>rm_ok (by omega) (by decide)
   simp only [r1,r2]
   cases c1:(x.2.2.2.1.2.1==b) <;> cases c2:(x.2.2.2.1.1==3) <;> cases c3:(x.2.2.2.1.1==1) <;> cases c4:(x.2.2.2.1.1==2) <;> first | rfl | skip
   all_goals (exfalso;have e2:=eq_of_beq c2;first | (rw [e2] at c3;revert c3;decide) | (rw [e2] at c4;revert c4;decide))
theorem implOwn_seal {k:Nat} (hk:2 ^ 50≤k) {l:PlaceL} {r:Ty.den TRec} (hr:r.1=3) (hl:l.length≤1099511627775):impl_ownOf.f k l r=some (ownSeal r.2.1 l,()):=by
 unfold impl_ownOf.f impl_ownOf.t
 rw [hr]
 refine forL0 (L:=fun n i s=>impl_ownOf.l0 k n l l.length i 3 r.2.1 r.2.2.1 r.2.2.2.1 r.2.2.2.2.1 r.2.2.2.2.2.1 s) (R:=fun q s=>some (q.foldl (stepSeal r.2.1) s,())) (Ty.dflt TPlace) l (fun i s=>(s.length:Int)≤i) (fun n s hs=>?_) (fun n i s x rest h0 h1 hx hr hp ih=>?_) (n:=k) (s:=[]) (by omega) (by decide)
 · simp (disch:=omega) only [impl_ownOf.l0,impl_ownOf.b0,decF,c_f,List.foldl_nil]
 · simp (disch:=omega) only [impl_ownOf.l0,impl_ownOf.b0,decT h1,c_t,c_f,inb_eq,hx,w64_eq,show ((3:Int)==3)=true from rfl,show ((3:Int)==5)=false from rfl]
   rw [List.foldl_cons]
   have hs1:=stepSeal_len r.2.1 s x
   have ih1:=ih (stepSeal r.2.1 s x) (by omega)
   rw [← ih1]
   unfold stepSeal bne
   have r1:∀ {R:Type} (q:Option R),rm (Ty.bytes TPlace) (s.length+1) q=q:=fun q=>rm_ok (by omega) (by decide)
   simp only [r1]
   cases c1:(x.2.2.2.1.2.1==r.2.1) <;> cases c2:(x.2.2.2.1.1==3) <;> cases c3:(x.2.2.2.1.1==1) <;> cases c4:(x.2.2.2.1.1==2) <;> rfl
theorem implOwn_mark {k:Nat} (hk:2 ^ 50≤k) {l:PlaceL} {r:Ty.den TRec} (hr:r.1=5) (hl:l.length≤1099511627775):impl_ownOf.f k l r=some (ownMark l,()):=by
 unfold impl_ownOf.f impl_ownOf.t
 rw [hr]
 refine forL0 (L:=fun n i s=>impl_ownOf.l0 k n l l.length i 5 r.2.1 r.2.2.1 r.2.2.2.1 r.2.2.2.2.1 r.2.2.2.2.2.1 s) (R:=fun q s=>some (q.foldl stepMark s,())) (Ty.dflt TPlace) l (fun i s=>(s.length:Int)≤i) (fun n s hs=>?_) (fun n i s x rest h0 h1 hx hr hp ih=>?_) (n:=k) (s:=[]) (by omega) (by decide)
 · simp (disch:=omega) only [impl_ownOf.l0,impl_ownOf.b0,decF,c_f,List.foldl_nil]
 · simp (disch:=omega) only [impl_ownOf.l0,impl_ownOf.b0,decT h1,c_t,c_f,inb_eq,hx,w64_eq,show ((5:Int)==3)=false from rfl,show ((5:Int)==5)=true from rfl]
   rw [List.foldl_cons]
   have hs1:=stepMark_len s x
   have ih1:=ih (stepMark s x) (by omega)
   rw [← ih1]
   unfold stepMark
   have r1:∀ {R:Type} (q:Option R),rm (Ty.bytes TPlace) (s.length+1) q=q:=fun q=>rm_ok (by omega) (by decide)
   simp only [r1]
   cases c1:(x.2.2.2.1.1==5) <;> cases c2:(x.2.2.2.1.1==4) <;> rfl
def recOf (p:Ty.den TPlace):Ty.den TRec:=p.2.2.2.1
def fitsM (r:Ty.den TRec) (own:PlaceL):Bool:=(r.2.2.2.2.1==(own.length:Int))&&(r.2.2.2.2.2.1==sumM (own.map recOf))
theorem implFits_eq {k:Nat} (hk:2 ^ 50≤k) (r:Ty.den TRec) {l:PlaceL} (hl:l.length≤1073741823):impl_fits.f k r l=some (fitsM r l,()):=by
 unfold impl_fits.f impl_fits.t
 refine (forL0 (L:=fun n i s=>impl_fits.l0 k n l l.length i r.1 r.2.1 r.2.2.1 r.2.2.2.1 r.2.2.2.2.1 r.2.2.2.2.2.1 s) (R:=fun q s=>some ((r.2.2.2.2.1==((s++q.map recOf).length:Int))&&(r.2.2.2.2.2.1==sumM (s++q.map recOf)),())) (Ty.dflt TPlace) l (fun i s=>(s.length:Int)=i) (fun n s hs=>?_) (fun n i s x rest h0 h1 hx hr hp ih=>?_) (n:=k) (s:=[]) (by omega) (by decide)).trans (by rw [List.nil_append,List.length_map];rfl)
 · simp (disch:=omega) only [impl_fits.l0,impl_fits.b0,decF,c_f,List.map_nil,List.append_nil,implSumOf_eq hk,o_s]
   cases (r.2.2.2.2.1==(s.length:Int)) <;> rfl
 · simp (disch:=first | omega | decide) only [impl_fits.l0,impl_fits.b0,decT,c_t,inb_eq,hx,rm_ok,w64_eq]
   refine (ih (s++[recOf x]) (by rw [len_snoc];omega)).trans ?_
   simp only [List.map_cons,a_a,List.cons_append,List.nil_append]
theorem specFits_eq {k:Nat} (hk:2 ^ 50≤k) (r:Ty.den TRec) {l:PlaceL} (hl:l.length≤1073741823):spec_l9Fits.f k r l=some (fitsM r l,()):=by
 have e:spec_l9Recs.f k l=some (l.map recOf,()):=by
  unfold spec_l9Recs.f spec_l9Recs.t
  refine (forL0 (L:=fun n i s=>spec_l9Recs.l0 k n l i s) (R:=fun q s=>some (s++q.map recOf,())) (Ty.dflt TPlace) l (fun i s=>(s.length:Int)=i) (fun n s hs=>?_) (fun n i s x rest h0 h1 hx hr hp ih=>?_) (n:=k) (s:=[]) (by omega) (by decide)).trans (by rw [List.nil_append])
  · simp (disch:=omega) only [spec_l9Recs.l0,spec_l9Recs.b0,decF,c_f,List.map_nil,List.append_nil]
  · simp (disch:=first | omega | decide) only [spec_l9Recs.l0,spec_l9Recs.b0,decT,c_t,inb_eq,hx,rm_ok,w64_eq]
    refine (ih (s++[recOf x]) (by rw [len_snoc];omega)).trans ?_
    simp only [List.map_cons,a_a,List.cons_append,List.nil_append]
 unfold spec_l9Fits.f spec_l9Fits.t fitsM
 rw [e,o_s]
 simp only []
 rw [specSumOf_eq hk (by rw [List.length_map];omega),o_s]
 cases (r.2.2.2.2.1==(l.length:Int)) <;> rfl
end Go.Proofs.YtmakghhmpgfboaaGreat.G
namespace Go.Proofs.YtmakghhmpgfboaaGreat.G
open Go.V
theorem specDirDrop_eq {k:Nat} (hk:2 ^ 50≤k) {l:EntryL} (key:ByteArray) (hl:l.length≤1099511627775):spec_DirDrop.f k l key=some (dropM l key,()):=by
 unfold spec_DirDrop.f spec_DirDrop.t
 refine (forL0 (L:=fun n i s=>spec_DirDrop.l0 k n l key i s) (R:=fun r s=>some (s++dropM r key,())) (Ty.dflt TEntry) l (fun i s=>(s.length:Int)≤i) (fun n s hs=>?_) (fun n i s x rest h0 h1 hx hr hp ih=>?_) (n:=k) (s:=[]) (by omega) (by decide)).trans (by rw [List.nil_append])
 · simp (disch:=omega) only [spec_DirDrop.l0,spec_DirDrop.b0,decF,c_f,dropM,List.filter_nil,List.append_nil]
 · cases c:seq x.1 key with
   | true =>
    simp (disch:=first | omega | decide) only [spec_DirDrop.l0,spec_DirDrop.b0,decT,c_t,c_f,inb_eq,hx,c,n_t,w64_eq]
    refine (ih s (by omega)).trans ?_
    simp only [dropM,List.filter_cons,c,n_t,Bool.false_eq_true,if_false]
   | false =>
    simp (disch:=first | omega | decide) only [spec_DirDrop.l0,spec_DirDrop.b0,decT,c_t,inb_eq,hx,c,n_f,rm_ok,w64_eq]
    refine (ih (s++[x]) (by rw [len_snoc];omega)).trans ?_
    simp only [dropM,List.filter_cons,c,n_f,if_true,a_a,List.cons_append,List.nil_append]
theorem implDirDrop_eq {k:Nat} (hk:2 ^ 50≤k) {l:EntryL} (key:ByteArray) (hl:l.length≤1099511627775):impl_DirDrop.f k l key=some (dropM l key,()):=by
 unfold impl_DirDrop.f impl_DirDrop.t
 refine (forL0 (L:=fun n i s=>impl_DirDrop.l0 k n key l l.length i s) (R:=fun r s=>some (s++dropM r key,())) (Ty.dflt TEntry) l (fun i s=>(s.length:Int)≤i) (fun n s hs=>?_) (fun n i s x rest h0 h1 hx hr hp ih=>?_) (n:=k) (s:=[]) (by omega) (by decide)).trans (by rw [List.nil_append])
 · simp (disch:=omega) only [impl_DirDrop.l0,impl_DirDrop.b0,decF,c_f,dropM,List.filter_nil,List.append_nil]
 · cases c:seq x.1 key with
   | true =>
    simp (disch:=first | omega | decide) only [impl_DirDrop.l0,impl_DirDrop.b0,decT,c_t,c_f,inb_eq,hx,c,n_t,w64_eq]
    refine (ih s (by omega)).trans ?_
    simp only [dropM,List.filter_cons,c,n_t,Bool.false_eq_true,if_false]
   | false =>
    simp (disch:=first | omega | decide) only [impl_DirDrop.l0,impl_DirDrop.b0,decT,c_t,inb_eq,hx,c,n_f,rm_ok,w64_eq]
    refine (ih (s++[x]) (by rw [len_snoc];omega)).trans ?_
    simp only [dropM,List.filter_cons,c,n_f,if_true,a_a,List.cons_append,List.nil_append]
theorem implDirPut_eq {k:Nat} (hk:2 ^ 50≤k) {l:EntryL} (e:Ty.den TEntry) (hl:l.length≤1099511627775):impl_DirPut.f k l e=some (putM l e,()):=by
 unfold impl_DirPut.f impl_DirPut.t putM
 rw [implDirDrop_eq hk e.1 hl,o_s]
 have hd:=dropM_len l e.1
 simp only []
 generalize dropM l e.1=r at *
 have cp:∀ q:EntryL,q.length≤1099511627775→impl_copyDir.f k q=some (q,()):=fun q hq=>by
  unfold impl_copyDir.f impl_copyDir.t
  rw [rm_ok (by omega) (by decide)]
 have key:∀ (d j n:Nat),r.length-j=d→j≤r.length→d<n→impl_DirPut.l0 k n (j:Int) e.1 e.2.1 e.2.2.1 e.2.2.2.1 e.2.2.2.2.1 r=some (r.take j++insE (r.drop j) e,()):=by
  intro d
  induction d with
  | zero =>
   intro j n hd hj hn
   obtain ⟨n,rfl⟩:∃ q,n=q+1:=⟨n-1,by omega⟩
   have:j=r.length:=by omega
   subst this
   simp (disch:=first | omega | (simp only [len_snoc,List.length_take,List.length_drop];omega) | decide) only [impl_DirPut.l0,impl_DirPut.b0,decF,c_f,inc_eq,n_n,cp,o_s,rm_ok]
   rw [List.drop_length,insE]
   simp
  | succ d ih =>
   intro j n hd hj hn
   obtain ⟨n,rfl⟩:∃ q,n=q+1:=⟨n-1,by omega⟩
   have hlt:j<r.length:=by omega
   have e1:r.drop j=r.getD j (Ty.dflt TEntry)::r.drop (j+1):=by
    rw [List.drop_eq_getElem_cons hlt]
    simp [List.getD,hlt]
   cases c:leE e.1 (r.getD j (Ty.dflt TEntry)) with
   | true =>
    have c':=c
    unfold leE at c'
    have ih:=ih (j+1) n (by omega) (by omega) (by omega)
    simp (disch:=omega) only [impl_DirPut.l0,impl_DirPut.b0,decT,c_t,inb_eq,n_n,c',w64_eq]
    rw [show ((j:Int)+1)=((j+1:Nat):Int) by omega,ih,e1,take_succ_getD (z:=Ty.dflt TEntry) hlt]
    unfold insE
    simp only [List.takeWhile_cons,List.dropWhile_cons,c,if_true,a_a,List.cons_append,List.nil_append]
   | false =>
    have c':=c
    unfold leE at c'
    simp (disch:=first | omega | (simp only [len_snoc,List.length_take,List.length_drop];omega) | decide) only [impl_DirPut.l0,impl_DirPut.b0,decT,c_t,c_f,inb_eq,n_n,c',inc_eq,cp,o_s,rm_ok]
    rw [e1]
    unfold insE
    simp only [List.takeWhile_cons,List.dropWhile_cons,c,Bool.false_eq_true,if_false,a_a,List.cons_append,List.nil_append]
 exact (key r.length 0 k (by omega) (by omega) (by omega)).trans (by rw [List.take_zero,List.drop_zero,List.nil_append])
theorem specKept_eq {k:Nat} (hk:2 ^ 50≤k) {l:PlaceL} {e:Int} (h0:0≤e) (he:e≤l.length) (hl:l.length≤1099511627775):spec_l9Kept.f k l e=some (ownMark (l.take e.toNat),()):=by
 unfold spec_l9Kept.f spec_l9Kept.t
 have hlen:(l.take e.toNat).length=e.toNat:=by rw [List.length_take];omega
 have he':e=((l.take e.toNat).length:Int):=by omega
 conv=>lhs;rw [he']
 refine forL0 (L:=fun n i s=>spec_l9Kept.l0 k n l ((l.take e.toNat).length:Int) i s) (R:=fun r s=>some (r.foldl stepMark s,())) (Ty.dflt TPlace) (l.take e.toNat) (fun i s=>(s.length:Int)≤i) (fun n s hs=>?_) (fun n i s x rest h0 h1 hx hr hp ih=>?_) (n:=k) (s:=[]) (by omega) (by decide)
 · simp (disch:=omega) only [spec_l9Kept.l0,spec_l9Kept.b0,decF,c_f,List.foldl_nil]
 · rw [getD_take (by omega)] at hx
   simp (disch:=omega) only [spec_l9Kept.l0,spec_l9Kept.b0,decT h1,c_t,inb_eq,hx,w64_eq]
   rw [List.foldl_cons]
   have hs1:=stepMark_len s x
   have ih1:=ih (stepMark s x) (by omega)
   rw [← ih1]
   unfold stepMark
   have r1:∀ {R:Type} (q:Option R),rm (Ty.bytes TPlace) (s.length+1) q=q:=fun q=>rm_ok (by omega) (by decide)
   have r2:∀ {R:Type} (q:Option R),rm (Ty.bytes TPlace) (0+1) q=q:=fun q=>rm_ok (by omega) (by decide)
   simp only [r1,r2]
   cases c1:(x.2.2.2.1.1==5) <;> cases c2:(x.2.2.2.1.1==4) <;> first | rfl | skip
   all_goals (exfalso;have e2:=eq_of_beq c1;rw [e2] at c2;revert c2;decide)
def entryOf (p:Ty.den TPlace):Ty.den TEntry:=(p.2.2.2.1.2.2.1,(p.1,(p.2.1,(p.2.2.1,(p.2.2.2.1.2.1,())))))
def stepDir (d:EntryL) (p:Ty.den TPlace):EntryL:=bif p.2.2.2.1.1==2 then dropM d p.2.2.2.1.2.2.1 else putM d (entryOf p)
def applyM (d:EntryL) (own:PlaceL):EntryL:=own.foldl stepDir d
theorem stepDir_len (d:EntryL) (p:Ty.den TPlace):(stepDir d p).length≤d.length+1:=by
 unfold stepDir
 have h1:=dropM_len d p.2.2.2.1.2.2.1
 have h2:=putM_len d (entryOf p)
 cases p.2.2.2.1.1==2
 · rw [c_f];omega
 · rw [c_t];omega
theorem applyM_len:∀ (own:PlaceL) (d:EntryL),(applyM d own).length≤d.length+own.length
 | [],d=>Nat.le_refl _
 | p::own,d=>by
  have:=applyM_len own (stepDir d p)
  have:=stepDir_len d p
  rw [applyM,List.foldl_cons,l_c]
  unfold applyM at this
  simp only [applyM] at *
  omega
def codeM (d:EntryL) (code:Int):Int:=if d.length > 20 then 2 else code
theorem implApply_eq {k:Nat} (hk:2 ^ 50≤k) (g:Ty.den TGroup) {own:PlaceL} (ho:own.length≤268435456) (hd:g.1.length≤268435456):impl_Group__apply.f k g own=some ((applyM g.1 own,(g.2.1,(codeM (applyM g.1 own) g.2.2.1,()))),()):=by
 unfold impl_Group__apply.f impl_Group__apply.t
 refine forL0 (L:=fun n i (d:EntryL)=>impl_Group__apply.l0 k n own own.length i d g.2.1 g.2.2.1) (R:=fun q d=>some ((applyM d q,(g.2.1,(codeM (applyM d q) g.2.2.1,()))),())) (Ty.dflt TPlace) own (fun i d=>(d.length:Int)≤268435456+i) (fun n d hs=>?_) (fun n i d x rest h0 h1 hx hr hp ih=>?_) (n:=k) (s:=g.1) (by omega) (by omega)
 · change _=some ((d,(g.2.1,(codeM d g.2.2.1,()))),())
   simp (disch:=omega) only [impl_Group__apply.l0,impl_Group__apply.b0,decF (show ¬ ((own.length:Int)<(own.length:Int)) by omega),c_f,codeM]
   by_cases c:d.length > 20
   · rw [decT (by omega),if_pos c];rfl
   · rw [decF (by omega),if_neg c];rfl
 · have hsd:=stepDir_len d x
   have ih:=ih (stepDir d x) (by omega)
   have e:stepDir d x=bif x.2.2.2.1.1==2 then dropM d x.2.2.2.1.2.2.1 else putM d (entryOf x):=rfl
   simp (disch:=omega) only [impl_Group__apply.l0,impl_Group__apply.b0,decT h1,c_t,inb_eq,hx,implDirDrop_eq hk,implDirPut_eq hk,o_s,w64_eq]
   rw [show applyM d (x::rest)=applyM (stepDir d x) rest from rfl,← ih,e]
   cases x.2.2.2.1.1==2 <;> rfl
theorem specPut_eq {k:Nat} (hk:2 ^ 50≤k) {d:EntryL} (p:Ty.den TPlace) (hd:d.length≤1073741823):spec_l9Put.f k d p=some (stepDir d p,()):=by
 unfold spec_l9Put.f spec_l9Put.t stepDir
 rw [specDirDrop_eq hk _ (by omega),specDirPut_eq hk _ hd]
 cases p.2.2.2.1.1==2 <;> rfl
def maxM (a b:Int):Int:=if a > b then a else b
def regroupL (all:PlaceL):PlaceL→Nat→EntryL→Int→Int→Ty.den TGroup
 | [],_,d,last,code=>bif code==0&&decide ((ownMark all).length > 0) then (d,(last,(1,()))) else (d,(last,(code,())))
 | p::rest,i,d,last,code =>
  bif code != 0 then (d,(last,(code,()))) else
  bif p.2.2.2.1.1==3 then (bif fitsM p.2.2.2.1 (ownSeal p.2.2.2.1.2.1 (all.take i)) then regroupL all rest (i+1) (applyM d (ownSeal p.2.2.2.1.2.1 (all.take i))) (maxM p.2.2.2.1.2.1 last) (codeM (applyM d (ownSeal p.2.2.2.1.2.1 (all.take i))) code)
   else regroupL all rest (i+1) d (maxM p.2.2.2.1.2.1 last) code) else
  bif p.2.2.2.1.1==5 then (bif fitsM p.2.2.2.1 (ownMark (all.take i)) then regroupL all rest (i+1) (applyM d (ownMark (all.take i))) (maxM p.2.2.2.1.2.1 last) (codeM (applyM d (ownMark (all.take i))) code)
   else regroupL all rest (i+1) d (maxM p.2.2.2.1.2.1 last) 1) else
  regroupL all rest (i+1) d (maxM p.2.2.2.1.2.1 last) code
def regroupM (g:Ty.den TGroup) (l:PlaceL):Ty.den TGroup:=regroupL l l 0 g.1 g.2.1 g.2.2.1
def RInv (d:EntryL) (code:Int):Prop:=d.length≤268435456∧(code=0→d.length≤134217728)
theorem rinv_apply {d:EntryL} {own:PlaceL} {code:Int} (h:RInv d 0) (ho:own.length≤134217728):RInv (applyM d own) (codeM (applyM d own) code):=by
 have h1:=applyM_len own d
 have h2:=h.2 rfl
 refine ⟨by omega,fun q=>?_⟩
 unfold codeM at q
 split at q
 · cases q
 · omega
theorem rinv_one {d:EntryL} (h:RInv d 0):RInv d 1:=⟨h.1,fun q=>by cases q⟩
theorem implRegroup_eq {k:Nat} (hk:2 ^ 50≤k) (g:Ty.den TGroup) {l:PlaceL} (hl:l.length≤134217728) (hd:g.1.length≤134217728):impl_Regroup.f k g l=some (regroupM g l,()):=by
 unfold impl_Regroup.f impl_Regroup.t
 have cp:impl_copyDir.f k g.1=some (g.1,()):=by
  unfold impl_copyDir.f impl_copyDir.t
  rw [rm_ok (by omega) (by decide)]
 rw [cp,o_s]
 simp only []
 have key:=forL (L:=fun n i (s:EntryL × Int × Int)=>impl_Regroup.l0 k n l l l.length i [] 0 0 s.1 s.2.1 s.2.2) (R:=fun (q:PlaceL) s=>some (regroupL l q (l.length-q.length) s.1 s.2.1 s.2.2,())) (Ty.dflt TPlace) l (fun i s=>RInv s.1 s.2.2) (fun n s hs=>?_) (fun n i s x rest h0 h1 hx hr hp ih=>?_) k 0 (g.1,(g.2.1,g.2.2.1)) (by omega) (by omega) (by omega) ⟨by simp only [];omega,fun _=>by simp only [];omega⟩
 · have e:l.drop (Int.toNat 0)=l:=rfl
   rw [e,Nat.sub_self] at key
   exact key
 · obtain ⟨d,last,code⟩:=s
   have hm:=implOwn_mark hk (l:=l) (r:=(5,(0,(ByteArray.empty,(ByteArray.empty,(0,(0,()))))))) rfl (by omega)
   simp (disch:=omega) only [impl_Regroup.l0,impl_Regroup.b0,decF,c_f,regroupL,hm,o_s]
   cases c1:(code==0)
   · rfl
   · by_cases c2:(ownMark l).length > 0
     · rw [decT (show ((ownMark l).length:Int) > 0 by omega),decT c2];rfl
     · rw [decF (show ¬ ((ownMark l).length:Int) > 0 by omega),decF c2];rfl
 · obtain ⟨d,last,code⟩:=s
   simp only [] at hp ih
   have hi:l.length-(x::rest).length=i.toNat:=by
    have:=congrArg List.length hr
    rw [List.length_drop] at this
    omega
   have hi2:l.length-rest.length=i.toNat+1:=by rw [l_c] at hi;have:=congrArg List.length hr;rw [List.length_drop,l_c] at this;omega
   have htk:(l.take i.toNat).length≤134217728:=by rw [List.length_take];omega
   have ih:=fun a b c h=>ih (a,(b,c)) h
   simp only [hi2] at ih
   rw [hi]
   simp (disch:=omega) only [impl_Regroup.l0,impl_Regroup.b0,decT h1,c_t,inb_eq,hx,w64_eq,regroupL]
   by_cases c0:code=0
   case neg =>
    rw [show (code != 0)=true from bne_iff_ne.2 c0]
    rfl
   subst c0
   simp only [show ((0:Int) != 0)=false from rfl,c_f]
   by_cases c3:x.2.2.2.1.1=3
   · have b3:(x.2.2.2.1.1==3)=true:=by rw [c3];rfl
     have b3':(x.2.2.2.1.1 != 3)=false:=by rw [c3];rfl
     have b5:(x.2.2.2.1.1==5)=false:=by rw [c3];rfl
     have hlen:=ownSeal_len x.2.2.2.1.2.1 (l.take i.toNat)
     simp only [b3,b3',b5,c_t,c_f]
     rw [inc_eq (by omega) (by omega),implOwn_seal hk c3 (by omega),o_s]
     simp only []
     rw [implFits_eq hk _ (by omega),o_s]
     cases c:fitsM x.2.2.2.1 (ownSeal x.2.2.2.1.2.1 (l.take i.toNat)) with
     | true =>
      simp only [c_t]
      rw [implApply_eq hk _ (by omega) (by simp only [];exact hp.1),o_s]
      exact ih _ _ _ (rinv_apply hp (by omega))
     | false =>
      simp only [c_f]
      exact ih _ _ _ hp
   · have b3:(x.2.2.2.1.1==3)=false:=q_f c3
     have b3':(x.2.2.2.1.1 != 3)=true:=bne_iff_ne.2 c3
     by_cases c5:x.2.2.2.1.1=5
     · have b5:(x.2.2.2.1.1==5)=true:=by rw [c5];rfl
       have b5':(x.2.2.2.1.1 != 5)=false:=by rw [c5];rfl
       have hlen:=ownMark_len (l.take i.toNat)
       simp only [b3,b3',b5,b5',c_t,c_f]
       rw [inc_eq (by omega) (by omega),implOwn_mark hk c5 (by omega),o_s]
       simp only []
       rw [implFits_eq hk _ (by omega),o_s]
       cases c:fitsM x.2.2.2.1 (ownMark (l.take i.toNat)) with
       | true =>
        simp only [c_t]
        rw [implApply_eq hk _ (by omega) (by simp only [];exact hp.1),o_s]
        exact ih _ _ _ (rinv_apply hp (by omega))
       | false =>
        simp only [c_f]
        exact ih _ _ _ (rinv_one hp)
     · have b5:(x.2.2.2.1.1==5)=false:=q_f c5
       have b5':(x.2.2.2.1.1 != 5)=true:=bne_iff_ne.2 c5
       simp only [b3,b3',b5,b5',c_t,c_f]
       exact ih _ _ _ hp
theorem specRegroup_eq {k:Nat} (hk:2 ^ 50≤k) (g:Ty.den TGroup) {l:PlaceL} (hl:l.length≤134217728) (hd:g.1.length≤134217728):spec_Regroup.f k g l=some (regroupM g l,()):=by
 unfold spec_Regroup.f spec_Regroup.t
 rw [rm_ok (by omega) (by decide),List.nil_append]
 have inner:∀ {own:PlaceL} {d:EntryL} (L0:PlaceL→Int→EntryL→Int→Int→EntryL→Int→Int→Option (Ty.den TGroup × Unit)) (i last code:Int),own.length≤134217728→d.length≤268435456→0≤i→i≤134217728 →
  spec_Regroup.l1 k L0 k l i 0 [] 0 0 d last code own=L0 l (i+1) [] 0 0 (applyM d own) last (codeM (applyM d own) code):=fun {own d} L0 i last code ho hd2 hi0 hi1=>by
  refine forL0 (L:=fun n j (d:EntryL)=>spec_Regroup.l1 k L0 n l i j [] 0 0 d last code own) (R:=fun q d=>L0 l (i+1) [] 0 0 (applyM d q) last (codeM (applyM d q) code)) (Ty.dflt TPlace) own (fun j d=>(d.length:Int)≤268435456+j) (fun n d hs=>?_) (fun n j d x rest h0 h1 hx hr hp ih=>?_) (n:=k) (s:=d) (by omega) (by omega)
  · change _=L0 l (i+1) [] 0 0 d last (codeM d code)
    simp (disch:=omega) only [spec_Regroup.l1,spec_Regroup.b1,decF (show ¬ ((own.length:Int)<(own.length:Int)) by omega),c_f,codeM,w64_eq]
    by_cases c:d.length > 20
    · rw [decT (by omega),if_pos c];rfl
    · rw [decF (by omega),if_neg c];rfl
  · have hsd:=stepDir_len d x
    simp (disch:=omega) only [spec_Regroup.l1,spec_Regroup.b1,decT h1,c_t,inb_eq,hx,specPut_eq hk,o_s,w64_eq]
    exact ih _ (by omega)
 have hmk:=specKept_eq hk (l:=l) (e:=l.length) (by omega) (by omega) (by omega)
 rw [Int.toNat_natCast,List.take_length] at hmk
 have key:=forL (L:=fun n i (s:EntryL × Int × Int)=>spec_Regroup.l0 k n l i [] 0 0 s.1 s.2.1 s.2.2) (R:=fun (q:PlaceL) s=>some (regroupL l q (l.length-q.length) s.1 s.2.1 s.2.2,())) (Ty.dflt TPlace) l (fun i s=>RInv s.1 s.2.2) (fun n s hs=>?_) (fun n i s x rest h0 h1 hx hr hp ih=>?_) k 0 (g.1,(g.2.1,g.2.2.1)) (by omega) (by omega) (by omega) ⟨by simp only [];omega,fun _=>by simp only [];omega⟩
 · have e:l.drop (Int.toNat 0)=l:=rfl
   rw [e,Nat.sub_self] at key
   exact key
 · obtain ⟨d,last,code⟩:=s
   simp (disch:=omega) only [spec_Regroup.l0,spec_Regroup.b0,decF,c_f,regroupL,hmk,o_s]
   cases c1:(code==0)
   · rfl
   · by_cases c2:(ownMark l).length > 0
     · rw [decT (show ((ownMark l).length:Int) > 0 by omega),decT c2];rfl
     · rw [decF (show ¬ ((ownMark l).length:Int) > 0 by omega),decF c2];rfl
 · obtain ⟨d,last,code⟩:=s
   simp only [] at hp ih
   have hi:l.length-(x::rest).length=i.toNat:=by
    have:=congrArg List.length hr
    rw [List.length_drop] at this
    omega
   have hi2:l.length-rest.length=i.toNat+1:=by rw [l_c] at hi;have:=congrArg List.length hr;rw [List.length_drop,l_c] at this;omega
   have htk:(l.take i.toNat).length≤134217728:=by rw [List.length_take];omega
   have ih:=fun a b c h=>ih (a,(b,c)) h
   simp only [hi2] at ih
   rw [hi]
   simp (disch:=omega) only [spec_Regroup.l0,spec_Regroup.b0,decT h1,c_t,inb_eq,hx,w64_eq,regroupL,hmk,o_s]
   by_cases c0:code=0
   case neg =>
    rw [show (code != 0)=true from bne_iff_ne.2 c0,show (code==0)=false from q_f c0]
    rfl
   subst c0
   simp only [show ((0:Int) != 0)=false from rfl,show ((0:Int)==0)=true from rfl,c_f,c_t]
   by_cases c3:x.2.2.2.1.1=3
   · have b3:(x.2.2.2.1.1==3)=true:=by rw [c3];rfl
     have hlen:=ownSeal_len x.2.2.2.1.2.1 (l.take i.toNat)
     simp only [b3,c_t]
     rw [specOf_eq hk _ h0 (by omega) (by omega),o_s]
     simp only []
     rw [specFits_eq hk _ (by omega),o_s]
     cases c:fitsM x.2.2.2.1 (ownSeal x.2.2.2.1.2.1 (l.take i.toNat)) with
     | true =>
      simp only [n_t,c_t,c_f]
      rw [inner _ i _ _ (by omega) hp.1 h0 (by omega)]
      exact ih _ _ _ (rinv_apply hp (by omega))
     | false =>
      simp only [n_f,c_t,c_f]
      exact ih _ _ _ hp
   · have b3:(x.2.2.2.1.1==3)=false:=q_f c3
     by_cases c5:x.2.2.2.1.1=5
     · have b5:(x.2.2.2.1.1==5)=true:=by rw [c5];rfl
       have hlen:=ownMark_len (l.take i.toNat)
       simp only [b3,b5,c_t,c_f]
       rw [specKept_eq hk h0 (by omega) (by omega),o_s]
       simp only []
       rw [specFits_eq hk _ (by omega),o_s]
       cases c:fitsM x.2.2.2.1 (ownMark (l.take i.toNat)) with
       | true =>
        simp only [n_t,c_t,c_f]
        rw [inner _ i _ _ (by omega) hp.1 h0 (by omega)]
        exact ih _ _ _ (rinv_apply hp (by omega))
       | false =>
        simp only [n_f,c_t,c_f]
        exact ih _ _ _ (rinv_one hp)
     · have b5:(x.2.2.2.1.1==5)=false:=q_f c5
       simp only [b3,b5,c_t,c_f]
       exact ih _ _ _ hp
theorem regroupL_len (all:PlaceL) (ha:all.length≤134217728):∀ (q:PlaceL) (i:Nat) (d:EntryL) (last code:Int),RInv d code→(regroupL all q i d last code).1.length≤268435456
 | [],i,d,last,code,h=>by
  unfold regroupL
  cases code==0&&decide ((ownMark all).length > 0) <;> exact h.1
 | p::q,i,d,last,code,h=>by
  have hs:=ownSeal_len p.2.2.2.1.2.1 (all.take i)
  have hm:=ownMark_len (all.take i)
  have htk:(all.take i).length≤134217728:=by rw [List.length_take];omega
  unfold regroupL
  by_cases c0:code=0
  case neg=>rw [show (code != 0)=true from bne_iff_ne.2 c0];exact h.1
  subst c0
  simp only [show ((0:Int) != 0)=false from rfl,c_f]
  cases p.2.2.2.1.1==3
  · cases p.2.2.2.1.1==5
    · exact regroupL_len all ha q _ _ _ _ h
    · cases fitsM p.2.2.2.1 (ownMark (all.take i))
      · exact regroupL_len all ha q _ _ _ _ (rinv_one h)
      · exact regroupL_len all ha q _ _ _ _ (rinv_apply h (by omega))
  · cases fitsM p.2.2.2.1 (ownSeal p.2.2.2.1.2.1 (all.take i))
    · exact regroupL_len all ha q _ _ _ _ h
    · exact regroupL_len all ha q _ _ _ _ (rinv_apply h (by omega))
theorem regroupM_len {g:Ty.den TGroup} {l:PlaceL} (hl:l.length≤134217728) (hd:g.1.length≤134217728):(regroupM g l).1.length≤268435456:=regroupL_len l hl l 0 _ _ _ ⟨by omega,fun _=>hd⟩
end Go.Proofs.YtmakghhmpgfboaaGreat.G
namespace Go.Proofs.YtmakghhmpgfboaaGreat.G
open Go.V
theorem adj_mono {lim lim':Int} (h:lim≤lim'):∀ (l:List Int) (p:Option Int),adj (idOk lim) p l=true→adj (idOk lim') p l=true
 | [],_,_=>rfl
 | x::l,p,q=>by
  simp only [adj,b_a] at q ⊢
  refine ⟨?_,adj_mono h l _ q.2⟩
  have q1:=q.1
  unfold idOk at q1 ⊢
  rw [b_a,decide_eq_true_eq] at q1 ⊢
  exact ⟨⟨q1.1.1,Int.le_trans q1.1.2 h⟩,q1.2⟩
theorem adj_snoc {lim n:Int} (h1:1≤n) (h:lim<n):∀ (l:List Int) (p:Option Int),(∀ y,p=some y→y<n)→adj (idOk lim) p l=true→adj (idOk n) p (l++[n])=true
 | [],p,hp,_=>by
  simp only [List.nil_append,adj,Bool.and_true]
  unfold idOk
  rw [b_a,decide_eq_true_eq]
  refine ⟨⟨h1,Int.le_refl _⟩,?_⟩
  cases p with
  | none=>rfl
  | some y=>exact decide_eq_true (hp y rfl)
 | x::l,p,hp,q=>by
  simp only [adj,b_a,List.cons_append] at q ⊢
  have q1:=q.1
  unfold idOk at q1
  rw [b_a,decide_eq_true_eq] at q1
  refine ⟨?_,adj_snoc h1 h l _ (fun y e=>by cases e;exact Int.lt_of_le_of_lt q1.1.2 h) q.2⟩
  unfold idOk
  rw [b_a,decide_eq_true_eq]
  exact ⟨⟨q1.1.1,Int.le_of_lt (Int.lt_of_le_of_lt q1.1.2 h)⟩,q1.2⟩
theorem live_next {n:Int} {ids:List Int} (h:liveM (n,(ids,()))=true) (hn:n<100000):liveM (n+1,(ids,()))=true:=by
 obtain ⟨g1,g2,_⟩:=live_facts h
 unfold liveM at h ⊢
 simp only [b_a,decide_eq_true_eq] at h ⊢
 rw [w64_eq (n:=n+1-1) (by omega) (by omega)]
 rw [w64_eq (n:=n-1) (by omega) (by omega)] at h
 exact ⟨⟨show (1:Int)≤n+1 by omega,show n+1≤(100000:Int) by omega⟩,h.2.1,adj_mono (by omega) _ _ h.2.2⟩
theorem live_grow {n:Int} {ids:List Int} (h:liveM (n,(ids,()))=true) (hn:n<100000) (hl:ids.length<60):liveM (n+1,(ids++[n],()))=true:=by
 obtain ⟨g1,g2,_⟩:=live_facts h
 unfold liveM at h ⊢
 simp only [b_a,decide_eq_true_eq] at h ⊢
 rw [w64_eq (n:=n+1-1) (by omega) (by omega)]
 rw [w64_eq (n:=n-1) (by omega) (by omega)] at h
 refine ⟨⟨show (1:Int)≤n+1 by omega,show n+1≤(100000:Int) by omega⟩,⟨?_,?_⟩,?_⟩
 · rw [l_a,List.length_singleton];omega
 · rw [l_a,List.length_singleton];omega
 · rw [show n+1-1=n by omega]
   exact adj_snoc g1 (by omega) _ _ (fun y e=>by cases e) h.2.2
def actB (st:Ty.den TStore):ByteArray:=namedM segB (lastI st.1.2.1)
theorem last_place {st:Ty.den TStore} (h:liveM st.1=true):0≤w64 ((st.1.2.1.length:Int)-1)∧w64 ((st.1.2.1.length:Int)-1)<(st.1.2.1.length:Int)∧st.1.2.1.getD (w64 ((st.1.2.1.length:Int)-1)).toNat (Ty.dflt (.int .i64))=lastI st.1.2.1:=by
 obtain ⟨_,_,h1,h2,_⟩:=live_facts (nx:=st.1.1) (ids:=st.1.2.1) h
 rw [w64_eq (n:=(st.1.2.1.length:Int)-1) (by omega) (by omega)]
 refine ⟨by omega,by omega,?_⟩
 unfold lastI
 rw [show ((st.1.2.1.length:Int)-1).toNat=st.1.2.1.length-1 by omega]
 rfl
theorem specActive_eq {k:Nat} (hk:2 ^ 50≤k) {st:Ty.den TStore} (h:liveM st.1=true):spec_l12Active.f k st=some (actB st,()):=by
 obtain ⟨h1,h2,h3⟩:=last_place h
 unfold spec_l12Active.f spec_l12Active.t actB
 rw [inb_eq h1 h2,h3,specSegName_eq hk,o_s]
def tl (r:RD):RD:=(r.1,toldM r.2)
theorem tl_ne (r:RD):((tl r).2 != 0)=(r.2 != 0):=by
 unfold tl bne
 rw [toldM_zero]
def nextS (st:Ty.den TStore):Ty.den TStore:=((st.1.1+1,st.1.2),st.2)
def liveN (st:Ty.den TStore):Ty.den TLive:=(st.1.1+1,(st.1.2.1++[st.1.1],()))
def grownS (st:Ty.den TStore):Ty.den TStore:=(liveN st,(st.2.1,(st.2.2.1,(0,st.2.2.2.2))))
def dropsT (nm:ByteArray) (r:RD):RD:=bif r.2==2 then ((dropsR [tempB,nm] r.1).1,bif (dropsR [tempB,nm] r.1).2==0 then 2 else toldM (dropsR [tempB,nm] r.1).2) else r
def rotR (st:Ty.den TStore) (d:Ty.den TDisk):Ty.den TStore × RD :=
 bif decide ((st.1.2.1.length:Int)≥60) then (st,(d,5)) else bif decide (st.1.1≥100000) then (st,(d,5)) else
 bif (synM d (actB st)).2 != 0 then (st,tl (synM d (actB st))) else
 bif (freshR (namedM segB st.1.1) (synM d (actB st)).1).2 != 0 then (nextS st,tl (freshR (namedM segB st.1.1) (synM d (actB st)).1)) else
 bif (putLiveR (liveN st) (freshR (namedM segB st.1.1) (synM d (actB st)).1).1).2 != 0 then (nextS st,dropsT (namedM segB st.1.1) (tl (putLiveR (liveN st) (freshR (namedM segB st.1.1) (synM d (actB st)).1).1)))
 else (grownS st,((putLiveR (liveN st) (freshR (namedM segB st.1.1) (synM d (actB st)).1).1).1,0))
structure SR (st:Ty.den TStore) (r:RD) (B:Int):Prop where
 live:liveM st.1=true
 disk:DR r.1
 lo:LE.le (α:=Int) 0 st.2.2.2.1
 hi:LE.le (α:=Int) st.2.2.2.1 B
theorem seg_sz (n:Int):(namedM segB n).size≤1000:=by
 unfold namedM
 by_cases h:(1:Int)≤n∧n≤100000
 · rw [decT h,c_t,ByteArray.size_append]
   have:=decB_small (n:=n) (by omega) (by omega)
   have:segB.size=3:=rfl
   omega
 · rw [decF h]
   exact Nat.zero_le _
theorem specRot_eq {k:Nat} (hk:2 ^ 50≤k) {st:Ty.den TStore} {d:Ty.den TDisk} (hl:liveM st.1=true) (hd:DR d):spec_l12Rotate_ga.f k st d=some ((rotR st d).1,((rotR st d).2.1,((rotR st d).2.2,()))):=by
 obtain ⟨g1,g2,g3,g4,_⟩:=live_facts (nx:=st.1.1) (ids:=st.1.2.1) hl
 have hsz:=seg_sz st.1.1
 unfold spec_l12Rotate_ga.f spec_l12Rotate_ga.t rotR
 by_cases c1:(st.1.2.1.length:Int)≥60
 · rw [decT c1];rfl
 by_cases c2:st.1.1≥(100000:Int)
 · rw [decF c1,decT c2];rfl
 have c1':st.1.2.1.length<60:=by omega
 have c2':LT.lt (α:=Int) st.1.1 100000:=Int.not_le.1 c2
 rw [decF c1,decF c2]
 simp only [c_f]
 rw [specActive_eq hk hl,o_s]
 simp only []
 rw [specSyn_eq hk hd.sz,o_s]
 simp only []
 have h1:=syn_DR hd (actB st)
 generalize synM d (actB st)=r1 at h1 ⊢
 cases c3:r1.2 != 0 with
 | true=>simp only [c_t,specCode_eq,o_s,tl]
 | false =>
  simp only [c_f]
  rw [specSegName_eq hk,o_s]
  simp only []
  rw [specFresh_eq hk h1 (by omega),o_s]
  simp only []
  have h2:=fresh_DR (namedM segB st.1.1) _ h1
  generalize freshR (namedM segB st.1.1) r1.1=r2 at h2 ⊢
  have ew:w64 (st.1.1+1)=st.1.1+1:=w64_eq (by omega) (by omega)
  cases c4:r2.2 != 0 with
  | true=>simp only [c_t,specCode_eq,o_s,tl,ew];rfl
  | false =>
   simp only [c_f]
   rw [List.nil_append,rm_ok (by omega) (by decide),rm_ok (by omega) (by decide),ew,specPutLive_eq hk h2 (v:=(st.1.1+1,(st.1.2.1++[st.1.1],()))) (live_grow hl c2' c1'),o_s]
   simp only []
   have h3:=putLive_DR (liveN st) _ h2
   rw [show ((st.1.1+1,(st.1.2.1++[st.1.1],())):Ty.den TLive)=liveN st from rfl]
   generalize putLiveR (liveN st) r2.1=r3 at h3 ⊢
   have et:(toldM r3.2 != 0)=(r3.2 != 0):=by unfold bne;rw [toldM_zero]
   cases c5:toldM r3.2==2 with
   | true =>
    have e2:toldM r3.2=2:=q_t c5
    have c6:(r3.2 != 0)=true:=by rw [← et,e2];rfl
    rw [c6]
    simp only [c_t]
    rw [o_s,show (⟨#[116,101,109,112]⟩:ByteArray)=tempB from rfl]
    simp only []
    rw [specDrops_eq hk h3 (by simp),o_s]
    unfold dropsT
    rw [show (tl r3).2=toldM r3.2 from rfl,c5,show (tl r3).1=r3.1 from rfl]
    simp only [c_t,bne]
    generalize dropsR [tempB,namedM segB st.1.1] r3.1=r4
    cases c7:r4.2==0 with
    | true=>rw [e2];rfl
    | false=>simp only [n_f,c_t,c_f,specCode_eq,o_s];rfl
   | false =>
    simp only [c_f]
    rw [et]
    cases c6:r3.2 != 0 with
    | true =>
     simp only [c_t]
     unfold dropsT
     rw [show (tl r3).2=toldM r3.2 from rfl,c5]
     rfl
    | false=>rfl
end Go.Proofs.YtmakghhmpgfboaaGreat.G
namespace Go.Proofs.YtmakghhmpgfboaaGreat.G
open Go.V
theorem rot_facts {st:Ty.den TStore} {d:Ty.den TDisk} (hl:liveM st.1=true) (hd:DR d):liveM (rotR st d).1.1=true∧DR (rotR st d).2.1∧(rotR st d).1.2.1=st.2.1∧((rotR st d).1.2.2.2.1=st.2.2.2.1∨(rotR st d).1.2.2.2.1=0):=by
 unfold rotR
 by_cases c1:(st.1.2.1.length:Int)≥60
 · rw [decT c1];exact ⟨hl,hd,rfl,.inl rfl⟩
 by_cases c2:st.1.1≥(100000:Int)
 · rw [decF c1,decT c2];exact ⟨hl,hd,rfl,.inl rfl⟩
 have c1':st.1.2.1.length<60:=by omega
 have c2':LT.lt (α:=Int) st.1.1 100000:=Int.not_le.1 c2
 have hn:liveM (nextS st).1=true:=live_next (ids:=st.1.2.1) hl c2'
 have hg:liveM (grownS st).1=true:=live_grow hl c2' c1'
 have h1:=syn_DR hd (actB st)
 have h2:=fresh_DR (namedM segB st.1.1) _ h1
 have h3:=putLive_DR (liveN st) _ h2
 rw [decF c1,decF c2]
 simp only [c_f]
 generalize synM d (actB st)=r1 at h1 h2 h3 ⊢
 generalize freshR (namedM segB st.1.1) r1.1=r2 at h2 h3 ⊢
 generalize putLiveR (liveN st) r2.1=r3 at h3 ⊢
 cases r1.2 != 0 with
 | true=>exact ⟨hl,h1,rfl,.inl rfl⟩
 | false =>
  cases r2.2 != 0 with
  | true=>exact ⟨hn,h2,rfl,.inl rfl⟩
  | false =>
   cases r3.2 != 0 with
   | true =>
    refine ⟨hn,?_,rfl,.inl rfl⟩
    simp only [c_t,c_f]
    unfold dropsT
    cases (tl r3).2==2 with
    | true=>exact drops_DR _ _ h3
    | false=>exact h3
   | false=>exact ⟨hg,h3,rfl,.inr rfl⟩
def zPlaceM:Ty.den TPlace:=(0,(0,(0,((0,(0,(ByteArray.empty,(ByteArray.empty,(0,(0,())))))),()))))
def sizedS (st:Ty.den TStore) (n:Int):Ty.den TStore:=(st.1,(st.2.1,(st.2.2.1,(n,st.2.2.2.2))))
def setR (st:Ty.den TStore) (d:Ty.den TDisk) (r:Ty.den TRec):(Ty.den TStore × RD) × Ty.den TPlace :=
 bif (appM d (actB st) (frameM (showRec r))).2 != 0 then ((st,tl (appM d (actB st) (frameM (showRec r)))),zPlaceM)
 else ((sizedS st (st.2.2.2.1+recLen r),((appM d (actB st) (frameM (showRec r))).1,0)),(lastI st.1.2.1,(st.2.2.2.1,(recLen r,(r,())))))
def addR (st:Ty.den TStore) (d:Ty.den TDisk) (r:Ty.den TRec):(Ty.den TStore × RD) × Ty.den TPlace :=
 bif decide (st.2.2.2.1 > 0)&&decide (st.2.2.2.1+recLen r > 200) then
  (bif (rotR st d).2.2 != 0 then (rotR st d,zPlaceM) else setR (rotR st d).1 (rotR st d).2.1 r)
 else setR st d r
def recP (p:Ty.den TPlace):Ty.den TRec:=p.2.2.2.1
theorem set_facts {st:Ty.den TStore} {d:Ty.den TDisk} (hl:liveM st.1=true) (hd:DR d) {B:Int} (h0:LE.le (α:=Int) 0 st.2.2.2.1) (h1:LE.le (α:=Int) st.2.2.2.1 B) (r:Ty.den TRec) :
 SR (setR st d r).1.1 (setR st d r).1.2 (B+211)∧(setR st d r).1.1.2.1=st.2.1∧((setR st d r).1.2.2=0→recP (setR st d r).2=r):=by
 have hr:=recLen_in r
 have ha:=app_DR hd (actB st) (frameM (showRec r))
 unfold setR
 generalize appM d (actB st) (frameM (showRec r))=a at ha ⊢
 cases c:a.2 != 0 with
 | true =>
  refine ⟨⟨hl,ha,h0,?_⟩,rfl,fun e=>?_⟩
  · show LE.le (α:=Int) st.2.2.2.1 (B+211)
    omega
  · have e:(tl a).2=0:=e
    have q:=tl_ne a
    rw [e,c] at q
    cases q
 | false =>
  refine ⟨⟨hl,ha,?_,?_⟩,rfl,fun e=>rfl⟩
  · show LE.le (α:=Int) 0 (st.2.2.2.1+recLen r)
    omega
  · show LE.le (α:=Int) (st.2.2.2.1+recLen r) (B+211)
    omega
theorem add_facts {st:Ty.den TStore} {d:Ty.den TDisk} {B:Int} (h:SR st (d,0) B) (hB:0≤B) (r:Ty.den TRec) :
 SR (addR st d r).1.1 (addR st d r).1.2 (B+211)∧(addR st d r).1.1.2.1=st.2.1∧((addR st d r).1.2.2=0→recP (addR st d r).2=r):=by
 obtain ⟨hl,hd,h0,h1⟩:=h
 unfold addR
 cases decide (st.2.2.2.1 > 0)&&decide (st.2.2.2.1+recLen r > 200) with
 | false=>exact set_facts hl hd h0 h1 r
 | true =>
  obtain ⟨g1,g2,g3,g4⟩:=rot_facts hl hd
  generalize rotR st d=q at g1 g2 g3 g4 ⊢
  have s0:LE.le (α:=Int) 0 q.1.2.2.2.1:=by rcases g4 with e | e <;> rw [e];exact h0;exact Int.le_refl _
  have s1:LE.le (α:=Int) q.1.2.2.2.1 B:=by rcases g4 with e | e <;> rw [e];exact h1;exact hB
  cases c:q.2.2 != 0 with
  | true =>
   refine ⟨⟨g1,g2,s0,?_⟩,g3,fun e=>?_⟩
   · show LE.le (α:=Int) q.1.2.2.2.1 (B+211)
     omega
   · have e:q.2.2=0:=e
     rw [e] at c
     cases c
  | false =>
   obtain ⟨k1,k2,k3⟩:=set_facts g1 g2 s0 s1 r
   exact ⟨k1,k2.trans g3,k3⟩
theorem specSet_eq {k:Nat} (hk:2 ^ 50≤k) {st:Ty.den TStore} {d:Ty.den TDisk} (hl:liveM st.1=true) (hd:DR d) (r:Ty.den TRec) (h0:LE.le (α:=Int) 0 st.2.2.2.1) (h1:LE.le (α:=Int) st.2.2.2.1 1099511627776) :
 (((spec_l12Active.f k st).bind fun r4=>((spec_Append.f k d r4.1 (frameM (showRec r))).bind fun r5=>(bif (r5.2.1 != 0) then ((spec_l11Code.f k r5.2.1).bind fun r6=>(some (st,(r5.1,(zPlaceM,r6)))))
  else (inb (w64 ((List.length st.1.2.1:Int)-1)) (List.length st.1.2.1:Int) (some ((st.1,(st.2.1,(st.2.2.1,((w64 (st.2.2.2.1+(ByteArray.size (frameM (showRec r)):Int))),st.2.2.2.2)))),(r5.1,(((List.getD st.1.2.1 (Int.toNat (w64 ((List.length st.1.2.1:Int)-1))) (Ty.dflt (.int .i64))),(st.2.2.2.1,((ByteArray.size (frameM (showRec r)):Int),(r,())))),(0,()))))))))):spec_l12Add_ga.Rs) =
 some ((setR st d r).1.1,((setR st d r).1.2.1,((setR st d r).2,((setR st d r).1.2.2,())))):=by
 obtain ⟨g1,g2,g3⟩:=last_place hl
 have hr:=recLen_in r
 have hz:((frameM (showRec r)).size:Int)=recLen r:=rfl
 rw [specActive_eq hk hl,o_s]
 simp only []
 rw [specApp_eq hk hd.sz (actB st) (t:=frameM (showRec r)) (by omega),o_s]
 unfold setR
 simp only []
 generalize appM d (actB st) (frameM (showRec r))=a
 cases c:a.2 != 0 with
 | true=>simp only [c_t,specCode_eq,o_s];rfl
 | false =>
  simp only [c_f]
  rw [inb_eq g1 g2,g3,hz,w64_eq (by omega) (by omega)]
  rfl
theorem specAdd_eq {k:Nat} (hk:2 ^ 50≤k) {st:Ty.den TStore} {d:Ty.den TDisk} {B:Int} (h:SR st (d,0) B) (hB:0≤B) (hB':B≤1000000000) (r:Ty.den TRec) :
 spec_l12Add_ga.f k st d r=some ((addR st d r).1.1,((addR st d r).1.2.1,((addR st d r).2,((addR st d r).1.2.2,())))):=by
 obtain ⟨hl,hd,h0,h1⟩:=h
 have hr:=recLen_in r
 have hz:((frameM (showRec r)).size:Int)=recLen r:=rfl
 have own:=specSet_eq (d:=d) hk hl hd r h0 (by omega)
 rw [hz,w64_eq (n:=st.2.2.2.1+recLen r) (by omega) (by omega)] at own
 unfold spec_l12Add_ga.f spec_l12Add_ga.t
 rw [specShowRec_eq hk,o_s]
 simp only []
 rw [specFrame_eq hk,o_s]
 simp only []
 rw [hz,w64_eq (n:=st.2.2.2.1+recLen r) (by omega) (by omega)]
 unfold addR
 by_cases c1:LT.lt (α:=Int) 0 st.2.2.2.1
 · rw [decT (show st.2.2.2.1 > 0 from c1),Bool.true_and,c_t]
   by_cases c2:LT.lt (α:=Int) 200 (st.2.2.2.1+recLen r)
   · rw [decT (show st.2.2.2.1+recLen r > 200 from c2),c_t,c_t,specRot_eq hk hl hd,o_s]
     simp only []
     obtain ⟨g1,g2,g3,g4⟩:=rot_facts hl hd
     generalize rotR st d=q at g1 g2 g3 g4 ⊢
     cases c:q.2.2 != 0 with
     | true=>rfl
     | false =>
      have s0:LE.le (α:=Int) 0 q.1.2.2.2.1:=by rcases g4 with e | e <;> rw [e];exact h0;exact Int.le_refl _
      have s1:LE.le (α:=Int) q.1.2.2.2.1 B:=by rcases g4 with e | e <;> rw [e];exact h1;exact hB
      exact specSet_eq hk g1 g2 r s0 (by omega)
   · rw [decF (show ¬ st.2.2.2.1+recLen r > 200 from c2),c_f,c_f]
     exact own
 · rw [decF (show ¬ st.2.2.2.1 > 0 from c1),Bool.false_and,c_f]
   exact own
end Go.Proofs.YtmakghhmpgfboaaGreat.G
namespace Go.Proofs.YtmakghhmpgfboaaGreat.G
open Go.V
def fT (d:Ty.den TDisk) (s:ByteArray):Option ByteArray:=(getM d.1 s).map (·.2.1)
theorem get_ins:∀ {l:FileL} {f:Ty.den TFile} {t:ByteArray},getM l f.1=none→getM (insF l f) t=bif seq f.1 t then some f else getM l t
 | [],f,t,_=>rfl
 | g::l,f,t,h=>by
  unfold getM at h
  cases c:seq g.1 f.1 with
  | true=>rw [c] at h;cases h
  | false =>
   rw [c,c_f] at h
   unfold insF
   cases sls f.1 g.1 with
   | true=>rfl
   | false =>
    simp only [c_f]
    rw [getM.eq_2,get_ins h,getM.eq_2]
    by_cases q:f.1=t
    · rw [q] at c ⊢
      rw [c,seq_refl]
      rfl
    · rw [seqF q]
      rfl
theorem get_keep {l:FileL} {f:Ty.den TFile} {t:ByteArray} (h:f.1≠t):getM (insF l f) t=getM l t:=by
 induction l with
 | nil=>unfold insF;rw [getM.eq_2,seqF h];rfl
 | cons g l ih =>
  unfold insF
  cases sls f.1 g.1 with
  | true=>rw [c_t,getM.eq_2,seqF h,c_f]
  | false=>rw [c_f,getM.eq_2,ih,getM.eq_2]
theorem step_fT {d:Ty.den TDisk} {g:FileL→Int→FileL × Int} {t:ByteArray} (h:∀ l c,(getM (g l c).1 t).map (·.2.1)=(getM l t).map (·.2.1)):fT (stepM d g).1 t=fT d t:=by
 unfold stepM fT
 cases (begM d).2 != 0 with
 | true=>rw [c_t,begM_files]
 | false=>exact h d.1 d.2.1
theorem cre_fT {d:Ty.den TDisk} {s t:ByteArray} (h:s≠t):fT (creM d s).1 t=fT d t:=step_fT fun l c=>by
 unfold creG
 cases !nameM s with
 | true=>rfl
 | false =>
  cases (getM l s).isSome with
  | true=>rfl
  | false =>
   cases decide ((l.length:Int)≥130) with
   | true=>rfl
   | false =>
    show (getM (insF l (s,(ByteArray.empty,(0,())))) t).map _=_
    rw [get_keep (f:=(s,(ByteArray.empty,(0,())))) h]
theorem app_fT {d:Ty.den TDisk} {s t x:ByteArray} (h:s≠t):fT (appM d s x).1 t=fT d t:=step_fT fun l c=>by
 unfold appG
 cases (getM l s).isNone with
 | true=>rfl
 | false =>
  cases decide ((x.size:Int) > w64 (c-(used l:Int))) with
  | true=>rfl
  | false =>
   show (getM (updF (fun f=>(f.1,(f.2.1++x,f.2.2))) l s) t).map _=_
   rw [get_upd (h:=fun f:Ty.den TFile=>(f.1,(f.2.1++x,f.2.2))) (fun f=>rfl),seqF (fun q=>h q.symm)]
   rfl
theorem syn_fT {d:Ty.den TDisk} {s t:ByteArray}:fT (synM d s).1 t=fT d t:=step_fT fun l c=>by
 unfold synG
 cases (getM l s).isNone with
 | true=>rfl
 | false =>
  show (getM (updF (fun f=>(f.1,(f.2.1,((f.2.1.size:Int),f.2.2.2)))) l s) t).map _=_
  rw [get_upd (h:=fun f:Ty.den TFile=>(f.1,(f.2.1,((f.2.1.size:Int),f.2.2.2)))) (fun f=>rfl)]
  by_cases q:t=s
  · rw [q,seq_refl]
    cases getM l s <;> rfl
  · rw [seqF q]
    rfl
theorem rem_fT {d:Ty.den TDisk} {s t:ByteArray} (h:s≠t):fT (remM d s).1 t=fT d t:=step_fT fun l c=>by
 unfold remG
 cases (getM l s).isNone with
 | true=>rfl
 | false =>
  show (getM (delF l s) t).map _=_
  rw [get_del (fun q=>h q.symm)]
theorem ren_fT {d:Ty.den TDisk} {a b t:ByteArray} (h1:a≠t) (h2:b≠t):fT (renM d a b).1 t=fT d t:=step_fT fun l c=>by
 unfold renG
 cases !nameM b with
 | true=>rfl
 | false =>
  simp only [c_f]
  cases getM l a with
  | none=>rfl
  | some f =>
   cases seq a b with
   | true=>rfl
   | false =>
    show (getM (insF (delF (delF l a) b) (b,f.2)) t).map _=_
    rw [get_keep (f:=(b,f.2)) h2,get_del (fun q=>h2 q.symm),get_del (fun q=>h1 q.symm)]
theorem app_own {d:Ty.den TDisk} {s x:ByteArray}:fT (appM d s x).1 s=bif (appM d s x).2==0 then (fT d s).map (·++x) else fT d s:=by
 unfold appM stepM fT
 cases c:(begM d).2 != 0 with
 | true =>
  rw [c_t,begM_files]
  have:((begM d).2==0)=false:=by unfold bne at c;simpa using c
  rw [this]
  rfl
 | false =>
  simp only [c_f]
  unfold appG
  cases c1:getM d.1 s with
  | none=>simp only [Option.isNone_none,c_t];rw [c1];rfl
  | some f =>
   simp only [Option.isNone_some,c_f]
   cases decide ((x.size:Int) > w64 (d.2.1-(used d.1:Int))) with
   | true=>simp only [c_t];rw [c1];rfl
   | false =>
    simp only [c_f]
    rw [get_upd (h:=fun f:Ty.den TFile=>(f.1,(f.2.1++x,f.2.2))) (fun f=>rfl),seq_refl,c1]
    rfl
theorem seqR_fT {r:RD} {f:Ty.den TDisk→RD} {t:ByteArray} {x:Option ByteArray} (h1:fT r.1 t=x) (h2:∀ y,fT (f y).1 t=fT y t):fT (seqR r f).1 t=x:=by
 unfold seqR
 cases r.2==0 with
 | true=>exact (h2 _).trans h1
 | false=>exact h1
theorem gone_fT {d:Ty.den TDisk} {s t:ByteArray} (h:s≠t):fT (goneR s d).1 t=fT d t:=by
 unfold goneR
 cases (getM d.1 s).isSome with
 | true=>exact rem_fT h
 | false=>rfl
theorem fresh_fT {d:Ty.den TDisk} {s t:ByteArray} (h:s≠t):fT (freshR s d).1 t=fT d t:=seqR_fT (gone_fT h) fun y=>cre_fT h
theorem file_fT {d:Ty.den TDisk} {s t x:ByteArray} (h:s≠t):fT (fileR s x d).1 t=fT d t:=seqR_fT (seqR_fT (fresh_fT h) fun y=>app_fT h) fun y=>syn_fT
theorem putLive_fT {d:Ty.den TDisk} {v:Ty.den TLive} {t:ByteArray} (h1:tempB≠t) (h2:liveB≠t):fT (putLiveR v d).1 t=fT d t:=seqR_fT (file_fT h1) fun y=>ren_fT h1 h2
theorem drops_fT {t:ByteArray}:∀ (l:List ByteArray) (d:Ty.den TDisk),(∀ s ∈ l,s≠t)→fT (dropsR l d).1 t=fT d t
 | [],_,_=>rfl
 | s::l,d,h=>by
  show fT (seqR (goneR s d) (dropsR l)).1 t=_
  exact seqR_fT (gone_fT (h s m_s)) fun y=>drops_fT l y fun q hq=>h q (m_m _ hq)
end Go.Proofs.YtmakghhmpgfboaaGreat.G
namespace Go.Proofs.YtmakghhmpgfboaaGreat.G
open Go.V
def addsR:RecL→Ty.den TStore→Ty.den TDisk→PlaceL→(Ty.den TStore × RD) × PlaceL
 | [],st,d,ps=>((st,(d,0)),ps)
 | r::l,st,d,ps=>bif (addR st d r).1.2.2 != 0 then ((addR st d r).1,ps) else addsR l (addR st d r).1.1 (addR st d r).1.2.1 (ps++[(addR st d r).2])
def dirS (st:Ty.den TStore) (dir:EntryL):Ty.den TStore:=(st.1,(dir,st.2.2))
def endR (n:Nat) (q:(Ty.den TStore × RD) × PlaceL):Ty.den TStore × RD :=
 bif q.1.2.2 != 0 then q.1 else bif (synM q.1.2.1 (actB q.1.1)).2 != 0 then (q.1.1,tl (synM q.1.2.1 (actB q.1.1))) else (dirS q.1.1 (applyM q.1.1.2.1 (q.2.take n)),((synM q.1.2.1 (actB q.1.1)).1,0))
def batS (st:Ty.den TStore):Ty.den TStore:=(st.1,(st.2.1,(st.2.2.1+1,st.2.2.2)))
def writeR (st:Ty.den TStore) (d:Ty.den TDisk) (l:PutL):Ty.den TStore × RD:=endR l.length (addsR (recsM l st.2.2.1) (batS st) d [])
theorem adds_facts:∀ (l:RecL) (st:Ty.den TStore) (d:Ty.den TDisk) (ps:PlaceL) (B:Int),SR st (d,0) B→0≤B →
 SR (addsR l st d ps).1.1 (addsR l st d ps).1.2 (B+211*(l.length:Int))∧(addsR l st d ps).1.1.2.1=st.2.1∧((addsR l st d ps).1.2.2=0→(addsR l st d ps).2.map recP=ps.map recP++l)
 | [],st,d,ps,B,h,_=>⟨⟨h.live,h.disk,h.lo,by have:=h.hi;show LE.le (α:=Int) st.2.2.2.1 _;rw [List.length_nil];omega⟩,rfl,fun _=>(List.append_nil _).symm⟩
 | r::l,st,d,ps,B,h,hB=>by
  obtain ⟨g1,g2,g3⟩:=add_facts h hB r
  unfold addsR
  have el:((r::l).length:Int)=(l.length:Int)+1:=by rw [l_c];omega
  cases c:(addR st d r).1.2.2 != 0 with
  | true =>
   refine ⟨⟨g1.live,g1.disk,g1.lo,?_⟩,g2,fun e=>?_⟩
   · have:=g1.hi
     show LE.le (α:=Int) (addR st d r).1.1.2.2.2.1 _
     omega
   · have e:(addR st d r).1.2.2=0:=e
     rw [e] at c
     cases c
  | false =>
   have e0:(addR st d r).1.2.2=0:=by unfold bne at c;simpa using c
   obtain ⟨k1,k2,k3⟩:=adds_facts l (addR st d r).1.1 (addR st d r).1.2.1 (ps++[(addR st d r).2]) (B+211) ⟨g1.live,g1.disk,g1.lo,g1.hi⟩ (by omega)
   refine ⟨⟨k1.live,k1.disk,k1.lo,?_⟩,k2.trans g2,fun e=>?_⟩
   · have:=k1.hi
     show LE.le (α:=Int) (addsR l (addR st d r).1.1 (addR st d r).1.2.1 (ps++[(addR st d r).2])).1.1.2.2.2.1 _
     omega
   · have:=k3 e
     show (addsR l (addR st d r).1.1 (addR st d r).1.2.1 (ps++[(addR st d r).2])).2.map recP=_
     rw [this,List.map_append,List.map_singleton,g3 e0,a_a]
     rfl
def dirW:EntryL→PutL→EntryL→EntryL
 | dir,[],_=>dir
 | dir,_::_,[]=>dir
 | dir,p::l,e::es=>dirW (bif p.2.1 then dropM dir p.1 else putM dir e) l es
def keyE (p:Ty.den TPut):Ty.den TEntry:=(p.1,(0,(0,(0,(0,())))))
def afterM (dir:EntryL) (l:PutL):Int:=((dirW dir l (l.map keyE)).length:Int)
theorem put_len (l:EntryL) (e:Ty.den TEntry):(putM l e).length≤l.length+1:=by
 unfold putM
 rw [insE_len]
 have:=dropM_len l e.1
 omega
theorem specAfter_eq {k:Nat} (hk:2 ^ 50≤k) {dir:EntryL} (hd:dir.length≤536870912) {l:PutL} (hl:l.length≤1000):spec_l12After.f k dir l=some (afterM dir l,()):=by
 have key:∀ (n:Nat) (i:Int) (s:EntryL),0≤i→i≤(l.length:Int)→(l.length:Int)-i<n→(s.length:Int)≤536870912+i→spec_l12After.l1 k n l i s=some (afterM s (l.drop i.toNat),()):=fun n i s h0 h1 h2 hs=>by
  refine forL (L:=fun n i (s:EntryL)=>spec_l12After.l1 k n l i s) (R:=fun r s=>some (afterM s r,())) (Ty.dflt TPut) l (fun i s=>(s.length:Int)≤536870912+i) (fun n s hs=>?_) (fun n i s x rest h0 h1 hx hr hp ih=>?_) n i s h0 h1 h2 hs
  · simp (disch:=omega) only [spec_l12After.l1,spec_l12After.b1,decF,c_f]
    rfl
  · simp only [spec_l12After.l1,spec_l12After.b1]
    rw [decT h1,c_t,inb_eq h0 h1,hx,w64_eq (n:=i+1) (by omega) (by omega)]
    unfold afterM
    simp only [List.map_cons,dirW]
    cases c:x.2.1 with
    | true =>
     have:=dropM_len s x.1
     simp only [c_t]
     rw [inb_eq h0 h1,specDirDrop_eq hk x.1 (by omega),o_s]
     exact ih (dropM s x.1) (by omega)
    | false =>
     have:=put_len s (keyE x)
     have e:=specDirPut_eq hk (l:=s) (keyE x) (by omega)
     unfold keyE at e
     simp only [c_f]
     rw [inb_eq h0 h1,e,o_s]
     exact ih (putM s (keyE x)) (by omega)
 obtain ⟨q,hq⟩:∃ q,k=q+1:=⟨k-1,by omega⟩
 have k1:=key (q+1) 0 dir (by omega) (by omega) (by omega) (by omega)
 unfold spec_l12After.f spec_l12After.t
 rw [show l.drop (0:Int).toNat=l from rfl] at k1
 refine Eq.trans ?_ k1
 rw [show spec_l12After.l0 k k=spec_l12After.l0 k (q+1) by rw [← hq]]
 rfl
end Go.Proofs.YtmakghhmpgfboaaGreat.G
namespace Go.Proofs.YtmakghhmpgfboaaGreat.G
open Go.V
theorem apply_snoc (dir:EntryL) (ps:PlaceL) (p:Ty.den TPlace):applyM dir (ps++[p])=stepDir (applyM dir ps) p:=by
 unfold applyM
 rw [List.foldl_append]
 rfl
theorem zero_ne {c:Int} (h:(c != 0)=false):c=0:=by unfold bne at h;simpa using h
theorem specWrite_eq {k:Nat} (hk:2 ^ 50≤k) {st:Ty.den TStore} {d:Ty.den TDisk} {l:PutL} (h:SR st (d,0) 100000) (hb0:LE.le (α:=Int) 0 st.2.2.1) (hb:LE.le (α:=Int) st.2.2.1 1000000) (hp:putsOk l=true) (hd:st.2.1.length≤20) :
 spec_l12Commit_ga.f k st d l=some ((writeR st d l).1,((writeR st d l).2.1,((writeR st d l).2.2,()))):=by
 have hl:=putsOk_len hp
 unfold spec_l12Commit_ga.f spec_l12Commit_ga.t writeR recsM
 rw [rm_ok (by omega) (by decide),List.nil_append,w64_eq (n:=st.2.2.1+1) (by omega) (by omega)]
 generalize hbe:st.2.2.1=b at *
 rw [show batS st=((st.1,(st.2.1,(b+1,st.2.2.2))):Ty.den TStore) from by unfold batS;rw [hbe]]
 refine forL0 (L:=fun n i (s:(Ty.den TStore × Ty.den TDisk) × PlaceL)=>spec_l12Commit_ga.l0 k n b i l s.1.1.1.2.1 s.1.1.2.1 s.1.1.1.1 s.1.1.2.2.1 s.1.1.2.2.2.1 s.1.1.2.2.2.2.1 s.1.2.1 s.1.2.2.1 s.1.2.2.2.1 s.1.2.2.2.2.1 [] [] 0 0 0 0 [] 0 0 false (s.2.map recP) (applyM s.1.1.2.1 s.2))
  (R:=fun r s=>(some ((endR l.length (addsR (r.map (putR b)++[sealR 3 b (l.map (putR b))]) s.1.1 s.1.2 s.2)).1,((endR l.length (addsR (r.map (putR b)++[sealR 3 b (l.map (putR b))]) s.1.1 s.1.2 s.2)).2.1,((endR l.length (addsR (r.map (putR b)++[sealR 3 b (l.map (putR b))]) s.1.1 s.1.2 s.2)).2.2,()))):spec_l12Commit_ga.Rs))
  (Ty.dflt TPut) l (fun i s=>SR s.1.1 (s.1.2,0) (100000+211*i)∧s.2.map recP=(l.take i.toNat).map (putR b)∧s.1.1.2.1.length≤20) (fun n s hs=>?_) (fun n i s x rest h0 h1 hx hr hs ih=>?_) (n:=k) (s:=(((((st.1,(st.2.1,(b+1,st.2.2.2))):Ty.den TStore)),d),[])) (by omega) ⟨⟨h.live,h.disk,h.lo,Int.le_trans h.hi (by decide)⟩,rfl,hd⟩
 · obtain ⟨⟨st',d'⟩,ps⟩:=s
   obtain ⟨g1,g2,g3⟩:=hs
   simp only [] at g1 g2 g3 ⊢
   rw [Int.toNat_natCast,List.take_length] at g2
   have hps:ps.length=l.length:=by simpa using congrArg List.length g2
   simp only [spec_l12Commit_ga.l0,spec_l12Commit_ga.b0]
   rw [decF (by omega),c_f,g2,specSeal_eq hk (by rw [List.length_map];omega),o_s]
   simp only []
   rw [show ((st'.1.1,(st'.1.2.1,())),(st'.2.1,(st'.2.2.1,(st'.2.2.2.1,(st'.2.2.2.2.1,())))))=st' from rfl,show (d'.1,(d'.2.1,(d'.2.2.1,(d'.2.2.2.1,()))))=d' from rfl,
    specAdd_eq hk g1 (by omega) (by omega),o_s]
   simp only [List.map_nil,List.nil_append,addsR]
   obtain ⟨k1,k2,_⟩:=add_facts g1 (by omega) (sealR 3 b (l.map (putR b)))
   generalize addR st' d' (sealR 3 b (l.map (putR b)))=q at k1 k2 ⊢
   cases c:q.1.2.2 != 0 with
   | true =>
    simp only [c_t]
    unfold endR
    simp only [c,c_t]
   | false =>
    simp only [c_f]
    rw [specActive_eq hk k1.live,o_s]
    simp only []
    rw [specSyn_eq hk (DR.sz k1.disk),o_s]
    unfold endR
    simp only [show ((0:Int) != 0)=false from rfl,c_f]
    generalize synM q.1.2.1 (actB q.1.1)=y
    cases c2:y.2 != 0 with
    | true=>simp only [c_t,specCode_eq,o_s];rfl
    | false =>
     simp only [c_f]
     rw [k2,List.take_append_of_le_length (by omega),List.take_of_length_le (by omega)]
     rfl
 · obtain ⟨⟨st',d'⟩,ps⟩:=s
   obtain ⟨g1,g2,g3⟩:=hs
   simp only [] at g1 g2 g3 ih ⊢
   have hi:i.toNat<l.length:=by omega
   have hm:x ∈ l:=List.mem_of_mem_drop (i:=i.toNat) (by rw [hr];exact m_s)
   have e:=putR_spec b (putsOk_mem hp hm)
   have et:l.take (i+1).toNat=l.take i.toNat++[x]:=by
    rw [show (i+1).toNat=i.toNat+1 by omega,List.take_succ_eq_append_getElem hi]
    congr 2
    rw [← hx]
    simp [List.getD,hi]
   have hps:ps.length≤l.length:=by
    have:=congrArg List.length g2
    rw [List.length_map,List.length_map,List.length_take] at this
    omega
   obtain ⟨k1,k2,k3⟩:=add_facts g1 (by omega) (putR b x)
   have body:((spec_l12Add_ga.f k st' d' (putR b x)).bind fun r1=>(bif (r1.2.2.2.1 != 0) then (some (r1.1,(r1.2.1,r1.2.2.2))) else ((spec_l9Put.f k (applyM st'.2.1 ps) r1.2.2.1).bind fun r2=>(rm (Ty.bytes TRec) (List.length (ps.map recP)+1)
    (spec_l12Commit_ga.l0 k n b (w64 (i+1)) l r1.1.1.2.1 r1.1.2.1 r1.1.1.1 r1.1.2.2.1 r1.1.2.2.2.1 r1.1.2.2.2.2.1 r1.2.1.1 r1.2.1.2.1 r1.2.1.2.2.1 r1.2.1.2.2.2.1 [] [] 0 0 0 0 [] 0 0 false (ps.map recP++[putR b x]) r2.1))))) =
    (some ((endR l.length (addsR ((x::rest).map (putR b)++[sealR 3 b (l.map (putR b))]) st' d' ps)).1,((endR l.length (addsR ((x::rest).map (putR b)++[sealR 3 b (l.map (putR b))]) st' d' ps)).2.1,((endR l.length (addsR ((x::rest).map (putR b)++[sealR 3 b (l.map (putR b))]) st' d' ps)).2.2,()))):spec_l12Commit_ga.Rs):=by
    rw [specAdd_eq hk g1 (by omega) (by omega),o_s]
    simp only [List.map_cons,List.cons_append,addsR]
    have hk1:=k1.hi
    generalize addR st' d' (putR b x)=q at k1 k2 k3 hk1 ⊢
    cases c:q.1.2.2 != 0 with
    | true =>
     simp only [c_t]
     unfold endR
     simp only [c,c_t]
    | false =>
     simp only [c_f]
     have hal:=applyM_len ps st'.2.1
     rw [specPut_eq hk q.2 (by omega),o_s,rm_ok (by rw [List.length_map];omega) (by decide),w64_eq (n:=i+1) (by omega) (by omega)]
     have q3:=k3 (zero_ne c)
     have e1:(ps++[q.2]).map recP=ps.map recP++[putR b x]:=by rw [List.map_append,List.map_singleton,q3]
     have e2:applyM q.1.1.2.1 (ps++[q.2])=stepDir (applyM st'.2.1 ps) q.2:=by rw [k2,apply_snoc]
     have ih:=ih ((q.1.1,q.1.2.1),ps++[q.2]) ⟨⟨k1.live,k1.disk,k1.lo,by show LE.le (α:=Int) q.1.1.2.2.2.1 _;omega⟩,by simp only [];rw [e1,g2,et,List.map_append];rfl,by simp only [];rw [k2];exact g3⟩
     simp only [] at ih
     rw [e1,e2] at ih
     exact ih
   simp only [spec_l12Commit_ga.l0,spec_l12Commit_ga.b0]
   rw [decT h1,c_t,inb_eq h0 h1,inb_eq h0 h1,inb_eq h0 h1,hx]
   rw [show ((st'.1.1,(st'.1.2.1,())),(st'.2.1,(st'.2.2.1,(st'.2.2.2.1,(st'.2.2.2.2.1,())))))=st' from rfl,show (d'.1,(d'.2.1,(d'.2.2.1,(d'.2.2.2.1,()))))=d' from rfl]
   cases c:x.2.1 with
   | true =>
    rw [c,c_t] at e
    simp only [c_t]
    rw [← e]
    exact body
   | false =>
    rw [c,c_f] at e
    simp only [c_f]
    rw [← e]
    exact body
noncomputable def commitM (st:Ty.den TStore) (d:Ty.den TDisk) (l:PutL):Ty.den TStore × RD :=
 bif !storeM st d then (st,(d,4)) else bif !putsOk l then (st,(d,4)) else bif (l.length:Int)==0 then (st,(d,0)) else bif decide (afterM st.2.1 l > 20) then (st,(d,5)) else
 bif decide (st.2.2.1 > 1000000) then (st,(d,5)) else writeR st d l
theorem segs_tail {d:Ty.den TDisk} {tail:Int}:∀ {l:List Int},l≠[]→segsOk d tail l=true→∃ x,tail=((textM d (namedM segB x)).1.size:Int)
 | [],h,_=>absurd rfl h
 | [x],_,h=>by
  unfold segsOk segOk at h
  simp only [b_a,List.isEmpty_nil,n_t,Bool.false_or] at h
  exact ⟨x,q_t h.1.2.2⟩
 | x::y::l,_,h=>by
  unfold segsOk at h
  rw [b_a] at h
  exact segs_tail (by intro q;cases q) h.2
theorem store_facts {st:Ty.den TStore} {d:Ty.den TDisk} (h:storeM st d=true):SR st (d,0) 100000∧st.2.1.length≤20∧LE.le (α:=Int) 1 st.2.2.1:=by
 unfold storeM dirM at h
 simp only [b_a,decide_eq_true_eq] at h
 obtain ⟨h1,h2,⟨h3,_⟩,h4,h5,_⟩:=h
 obtain ⟨_,_,g1,_,_⟩:=live_facts (nx:=st.1.1) (ids:=st.1.2.1) h2
 have hd:=disk_iff.1 h1
 obtain ⟨x,hx⟩:=segs_tail (by intro q;rw [q] at g1;simp at g1) h5
 have hs:=textM_size d (namedM segB x)
 have hu:=hd.use
 have hc:=hd.cap1
 refine ⟨⟨h2,hd,?_,?_⟩,by omega,h4.1⟩
 · show LE.le (α:=Int) 0 st.2.2.2.1
   rw [hx]
   omega
 · show LE.le (α:=Int) st.2.2.2.1 100000
   rw [hx]
   have:LE.le (α:=Int) (used d.1) 100000:=Int.le_trans hu hc
   omega
theorem specCommit_eq {k:Nat} (hk:2 ^ 50≤k) {st:Ty.den TStore} {d:Ty.den TDisk} (hd:DSz d) (h1:st.1.2.1.length≤1073741824) (h2:st.2.1.length≤536870912) {l:PutL} (hl:l.length≤1073741824) :
 spec_Commit_g2.f k st d l=some ((commitM st d l).1,((commitM st d l).2.1,((commitM st d l).2.2,()))):=by
 have ec:spec_l12Copy.f k st=some (st,()):=by
  unfold spec_l12Copy.f spec_l12Copy.t
  rw [rm_ok (by omega) (by decide),rm_ok (by omega) (by decide),List.nil_append,List.nil_append]
 unfold spec_Commit_g2.f spec_Commit_g2.t commitM
 rw [ec,o_s]
 simp only []
 rw [specCopyD_eq k hd,o_s]
 simp only []
 rw [specStore_eq hk hd,o_s]
 simp only []
 cases c1:storeM st d with
 | false=>rfl
 | true =>
  simp only [n_t,c_f]
  rw [specPutsOk_eq hk,o_s]
  simp only []
  cases c2:putsOk l with
  | false=>rfl
  | true =>
   have h8:=putsOk_len c2
   obtain ⟨g1,g2,g3⟩:=store_facts c1
   simp only [n_t,c_f]
   cases c3:(l.length:Int)==0 with
   | true=>rfl
   | false =>
    simp only [c_f]
    rw [specAfter_eq hk (by omega) (by omega),o_s]
    simp only []
    cases c4:decide (afterM st.2.1 l > 20) with
    | true=>rfl
    | false =>
     simp only [c_f]
     by_cases c5:st.2.2.1 > (1000000:Int)
     · rw [decT c5];rfl
     · rw [decF c5]
       simp only [c_f]
       rw [specWrite_eq hk g1 (Int.le_trans (by decide) g3) (Int.not_lt.1 c5) c2 g2,o_s]
end Go.Proofs.YtmakghhmpgfboaaGreat.G
namespace Go.Proofs.YtmakghhmpgfboaaGreat.G
open Go.V
theorem id_named {p:ByteArray} (hp:p=segB∨p=hintB) {n:Int} (h0:1≤n) (h1:n≤100000):idM (namedM p n)=(n,true):=by
 have e:namedM p n=p++decB n:=by unfold namedM;rw [decT ⟨h0,h1⟩];rfl
 have hn:Pid (p++decB n) n:=⟨h0,h1,by rcases hp with q | q <;> rw [q] <;> simp⟩
 rw [e]
 rcases undo_cases (Pid (p++decB n)) (fun _=>p++decB n) (0:Int) (p++decB n) with ⟨r,g1,_,g3⟩ | g
 · unfold idM
   rw [g3,pid_one g1 hn]
 · exfalso
   unfold undo at g
   rw [dif_pos ⟨n,hn,rfl⟩] at g
   cases (Prod.mk.inj g).2
end Go.Proofs.YtmakghhmpgfboaaGreat.G
namespace Go.Proofs.YtmakghhmpgfboaaGreat.G
open Go.V
def szT (d:Ty.den TDisk) (s:ByteArray):Nat:=((fT d s).getD ⟨#[]⟩).size
def segS (d:Ty.den TDisk) (ids:List Int):Nat:=(ids.map fun x=>szT d (namedM segB x)).sum
def lensM:EntryL→Int
 | []=>0
 | e::l=>e.2.2.2.1+lensM l
theorem seg_ne {x y:Int} (hx:1≤x∧x≤100000) (hy:1≤y∧y≤100000) (h:x≠y):namedM segB x≠namedM segB y:=fun q=>by
 have e1:=id_named (.inl rfl) hx.1 hx.2
 have e2:=id_named (.inl rfl) hy.1 hy.2
 rw [q,e2] at e1
 injection e1 with e1 _
 exact h e1.symm
theorem seg_form {x:Int} (hx:1≤x∧x≤100000):namedM segB x=segB++decB x:=by
 unfold namedM
 rw [decT hx]
 rfl
theorem seg_temp {x:Int} (hx:1≤x∧x≤100000):tempB≠namedM segB x:=fun q=>by
 rw [seg_form hx] at q
 have:=congrArg nb q
 rw [nb_app] at this
 cases this
theorem seg_live {x:Int} (hx:1≤x∧x≤100000):liveB≠namedM segB x:=fun q=>by
 rw [seg_form hx] at q
 have:=congrArg nb q
 rw [nb_app] at this
 cases this
theorem live_ids {n:Int} {ids:List Int} (h:liveM (n,(ids,()))=true):1≤n∧n≤100000∧(∀ x ∈ ids,1≤x∧x<n)∧ids.Pairwise (· < ·):=by
 obtain ⟨g1,g2,_⟩:=live_facts h
 unfold liveM at h
 simp only [b_a,decide_eq_true_eq] at h
 have h3:=h.2.2
 rw [w64_eq (n:=n-1) (by omega) (by omega)] at h3
 have key:∀ (l:List Int) (p:Option Int),adj (idOk (n-1)) p l=true→(∀ x ∈ l,1≤x∧x<n∧∀ y,p=some y→y<x)∧l.Pairwise (· < ·):=by
  intro l
  induction l with
  | nil=>exact fun p _=>⟨fun x hx=>(by cases hx),List.Pairwise.nil⟩
  | cons a l ih =>
   intro p hp
   simp only [adj,b_a] at hp
   obtain ⟨q1,q2⟩:=hp
   unfold idOk at q1
   rw [b_a,decide_eq_true_eq] at q1
   obtain ⟨⟨b1,b2⟩,b3⟩:=q1
   have b1:1≤a:=b1
   have b2:a≤n-1:=b2
   obtain ⟨i1,i2⟩:=ih (some a) q2
   have ha:∀ y,p=some y→y<a:=fun y e=>by
    rw [e] at b3
    exact of_decide_eq_true b3
   refine ⟨fun x hx=>?_,?_⟩
   · rcases List.mem_cons.1 hx with e | e
     · rw [e]
       exact ⟨b1,by omega,ha⟩
     · obtain ⟨c1,c2,c3⟩:=i1 x e
       have:=c3 a rfl
       exact ⟨c1,c2,fun y ey=>Int.lt_trans (ha y ey) this⟩
   · exact List.Pairwise.cons (fun x hx=>(i1 x hx).2.2 a rfl) i2
 obtain ⟨k1,k2⟩:=key ids none h3
 exact ⟨g1,g2,fun x hx=>⟨(k1 x hx).1,(k1 x hx).2.1⟩,k2⟩
theorem segS_keep {d d':Ty.den TDisk}:∀ {ids:List Int},(∀ x ∈ ids,fT d' (namedM segB x)=fT d (namedM segB x))→segS d' ids=segS d ids
 | [],_=>rfl
 | x::l,h=>by
  unfold segS at *
  rw [List.map_cons,List.map_cons,List.sum_cons,List.sum_cons]
  have e1:szT d' (namedM segB x)=szT d (namedM segB x):=by unfold szT;rw [h x m_s]
  have e2:=segS_keep (ids:=l) fun y hy=>h y (m_m _ hy)
  unfold segS at e2
  rw [e1,e2]
end Go.Proofs.YtmakghhmpgfboaaGreat.G
namespace Go.Proofs.YtmakghhmpgfboaaGreat.G
open Go.V
abbrev SpotL:=List (Ty.den TSpot)
def placesM (id:Int) (l:SpotL):PlaceL:=l.map fun x=>(id,x)
theorem placesM_len (id:Int) (l:SpotL):(placesM id l).length=l.length:=by unfold placesM;rw [List.length_map]
theorem implPlaced_eq {k:Nat} (hk:2 ^ 50≤k) (id:Int) {l:SpotL} (hl:l.length≤1099511627775):impl_placed.f k id l=some (placesM id l,()):=by
 unfold impl_placed.f impl_placed.t
 refine (forL0 (L:=fun n i s=>impl_placed.l0 k n id l l.length i s) (R:=fun r s=>some (s++placesM id r,())) (Ty.dflt TSpot) l (fun i s=>(s.length:Int)=i) (fun n s hs=>?_) (fun n i s x rest h0 h1 hx hr hp ih=>?_) (n:=k) (s:=[]) (by omega) (by decide)).trans (by rw [List.nil_append])
 · simp (disch:=omega) only [impl_placed.l0,impl_placed.b0,decF,c_f,placesM,List.map_nil,List.append_nil]
 · have ih:=ih (s++[(id,x)]) (by rw [len_snoc];omega)
   simp (disch:=first | omega | decide) only [impl_placed.l0,impl_placed.b0,decT,c_t,inb_eq,hx,rm_ok,w64_eq]
   refine ih.trans ?_
   simp only [placesM,List.map_cons,a_a,List.cons_append,List.nil_append]
theorem specPlaces_eq {k:Nat} (hk:2 ^ 50≤k) (id:Int) {s:ByteArray} (hs:s.size≤1099511627775):spec_l11Places.f k id s=some (placesM id (scanM s).1,()):=by
 unfold spec_l11Places.f spec_l11Places.t
 rw [specScan_eq hk hs,o_s]
 have hl:=(scanM_len s).1
 simp only []
 generalize (scanM s).1=l at *
 refine (forL0 (L:=fun n i s=>spec_l11Places.l0 k n id i s l) (R:=fun r s=>some (s++placesM id r,())) (Ty.dflt TSpot) l (fun i s=>(s.length:Int)=i) (fun n s hs=>?_) (fun n i s x rest h0 h1 hx hr hp ih=>?_) (n:=k) (s:=[]) (by omega) (by decide)).trans (by rw [List.nil_append])
 · simp (disch:=omega) only [spec_l11Places.l0,spec_l11Places.b0,decF,c_f,placesM,List.map_nil,List.append_nil]
 · have ih:=ih (s++[(id,x)]) (by rw [len_snoc];omega)
   simp (disch:=first | omega | decide) only [spec_l11Places.l0,spec_l11Places.b0,decT,c_t,inb_eq,hx,rm_ok,w64_eq]
   refine ih.trans ?_
   simp only [placesM,List.map_cons,a_a,List.cons_append,List.nil_append]
end Go.Proofs.YtmakghhmpgfboaaGreat.G
namespace Go.Proofs.YtmakghhmpgfboaaGreat.G
open Go.V
def zHint:Ty.den THint:=(0,(0,([],())))
def inSeg (s0:Int) (e:Ty.den TEntry):Bool:=(e.2.1==s0)&&!decide ((e.2.2.1:Int) > 100000)
def oneSeg (l:EntryL):Bool:=l.all (inSeg (l.getD 0 (Ty.dflt TEntry)).2.1)
def hintM (h:Ty.den THint):Bool:=decide ((0:Int)≤h.1∧h.1≤100000)&&(decide ((0:Int)≤h.2.1∧h.2.1≤1000000)&&(dirM h.2.2.1&&oneSeg h.2.2.1))
def entT (e:Ty.den TEntry):ByteArray:=textB e.1++(varB e.2.1++(varB e.2.2.1++(varB e.2.2.2.1++varB e.2.2.2.2.1)))
def entsT:EntryL→ByteArray
 | []=>⟨#[]⟩
 | e::l=>entT e++entsT l
def hintT (h:Ty.den THint):ByteArray:=varB h.1++(varB h.2.1++(varB (h.2.2.1.length:Int)++entsT h.2.2.1))
def showHintM (h:Ty.den THint):ByteArray:=if hintM h=true then fix4 (crcM (hintT h))++hintT h else ⟨#[]⟩
theorem specHintOk_eq {k:Nat} (hk:2 ^ 50≤k) (h:Ty.den THint):spec_l10Ok.f k h=some (hintM h,()):=by
 unfold spec_l10Ok.f spec_l10Ok.t hintM
 rw [l1InD_eq,o_s]
 cases decide ((0:Int)≤h.1∧h.1≤100000) with
 | false=>rfl
 | true =>
  simp only [n_t,c_f,Bool.true_and]
  rw [l1InD_eq,o_s]
  cases decide ((0:Int)≤h.2.1∧h.2.1≤1000000) with
  | false=>rfl
  | true =>
   simp only [n_t,c_f,Bool.true_and]
   rw [specDir_eq hk,o_s]
   cases cd:dirM h.2.2.1 with
   | false=>rfl
   | true =>
    simp only [n_t,c_f,Bool.true_and]
    have hl:h.2.2.1.length≤20:=by
     unfold dirM at cd
     rw [b_a,decide_eq_true_eq] at cd
     have:=cd.1
     omega
    unfold oneSeg
    refine forL0 (L:=fun n i (_:Unit)=>spec_l10Ok.l0 k n i h.1 h.2.1 h.2.2.1) (R:=fun r _=>some (r.all (inSeg (h.2.2.1.getD 0 (Ty.dflt TEntry)).2.1),())) (Ty.dflt TEntry) h.2.2.1 (fun _ _=>True) (fun n _ _=>?_) (fun n i _ x rest h0 h1 hx hr hp ih=>?_) (n:=k) (s:=()) (by omega) trivial
    · simp only [spec_l10Ok.l0,spec_l10Ok.b0]
      rw [decF (by omega),c_f]
      rfl
    · have ih:=ih () trivial
      simp only [spec_l10Ok.l0,spec_l10Ok.b0]
      rw [decT h1,c_t,inb_eq h0 h1,inb_eq (by omega) (by omega),hx,inb_eq h0 h1,w64_eq (n:=i+1) (by omega) (by omega),ih,List.all_cons]
      unfold inSeg bne
      cases x.2.1==(h.2.2.1.getD 0 (Ty.dflt TEntry)).2.1 <;> cases decide ((x.2.2.1:Int) > 100000) <;> rfl
theorem dir_facts {l:EntryL} (h:dirM l=true):l.length≤20∧∀ e ∈ l,(1≤e.1.size∧e.1.size≤8)∧(LE.le (α:=Int) 1 e.2.1∧LE.le (α:=Int) e.2.1 100000)∧LE.le (α:=Int) 0 e.2.2.1∧(LE.le (α:=Int) 1 e.2.2.2.1∧LE.le (α:=Int) e.2.2.2.1 210)∧(LE.le (α:=Int) 1 e.2.2.2.2.1∧LE.le (α:=Int) e.2.2.2.2.1 1000000):=by
 unfold dirM at h
 rw [b_a,decide_eq_true_eq] at h
 refine ⟨by have:=h.1;omega,fun e he=>?_⟩
 obtain ⟨q,hq⟩:=adj_all h.2 he
 unfold entOk keyOkB at hq
 rw [b_a,b_a,b_a,b_a,b_a,decide_eq_true_eq,decide_eq_true_eq,decide_eq_true_eq,decide_eq_true_eq] at hq
 obtain ⟨g1,g2,g3,g4,g5,_⟩:=hq
 have g3':¬ LT.lt (α:=Int) e.2.2.1 0:=by
  intro q
  have:(!decide (e.2.2.1<(0:Int)))=false:=by rw [decT q];rfl
  rw [this] at g3
  cases g3
 exact ⟨by omega,g2,Int.not_lt.1 g3',g4,g5⟩
theorem hint_dir {h:Ty.den THint} (q:hintM h=true):dirM h.2.2.1=true:=by
 unfold hintM at q
 rw [b_a,b_a,b_a] at q
 exact q.2.2.1
theorem entT_size {e:Ty.den TEntry}:(entT e).size≤35+e.1.size:=by
 have a:=varB_size (e.1.size:Int)
 have b:=varB_size e.2.1
 have c:=varB_size e.2.2.1
 have d:=varB_size e.2.2.2.1
 have f:=varB_size e.2.2.2.2.1
 unfold entT textB
 simp only [sz_app]
 omega
theorem entsT_size:∀ {l:EntryL},(∀ e ∈ l,e.1.size≤8)→(entsT l).size≤43*l.length
 | [],_=>Nat.zero_le _
 | e::l,h=>by
  have h1:=h e (m_s ..)
  have h2:=entsT_size (l:=l) fun x hx=>h x (m_m _ hx)
  have h3:=entT_size (e:=e)
  unfold entsT
  rw [sz_app,l_c]
  omega
theorem hintT_size {h:Ty.den THint} (q:hintM h=true):(hintT h).size≤900:=by
 obtain ⟨h1,h2⟩:=dir_facts (hint_dir q)
 have:=entsT_size (l:=h.2.2.1) fun e he=>(h2 e he).1.2
 have a:=varB_size h.1
 have b:=varB_size h.2.1
 have c:=varB_size (h.2.2.1.length:Int)
 unfold hintT
 simp only [sz_app]
 omega
theorem showHint_size (h:Ty.den THint):(showHintM h).size≤904:=by
 unfold showHintM
 by_cases q:hintM h=true
 · have:=hintT_size q
   rw [if_pos q,sz_app,show (fix4 (crcM (hintT h))).size=4 from rfl]
   omega
 · rw [if_neg q];decide
theorem specShowHint_eq {k:Nat} (hk:2 ^ 50≤k) (h:Ty.den THint):spec_ShowHint.f k h=some (showHintM h,()):=by
 unfold spec_ShowHint.f spec_ShowHint.t showHintM
 rw [specHintOk_eq hk,o_s]
 cases q:hintM h with
 | false=>rfl
 | true =>
  obtain ⟨h1,h2⟩:=dir_facts (hint_dir q)
  have a:=varB_size h.1
  have b:=varB_size h.2.1
  have c:=varB_size (h.2.2.1.length:Int)
  rw [n_t,c_f,specVar_eq hk,o_s,specVar_eq hk,o_s,if_pos rfl]
  simp only []
  rw [cat_ok (by omega),specVar_eq hk,o_s]
  simp only []
  rw [cat_ok (by rw [sz_app];omega)]
  refine (forL0 (L:=fun n i s=>spec_ShowHint.l0 k n s i h.1 h.2.1 h.2.2.1) (R:=fun r s=>some (fix4 (crcM (s++entsT r))++(s++entsT r),())) (Ty.dflt TEntry) h.2.2.1 (fun i s=>(s.size:Int)≤21+43*i) (fun n s hs=>?_) (fun n i s x rest g0 g1 hx hr hs ih=>?_) (n:=k) (s:=varB h.1++varB h.2.1++varB (h.2.2.1.length:Int)) (by omega) (by rw [sz_app,sz_app];omega)).trans (by unfold hintT;rw [app_assoc,app_assoc])
  · have hc:=crcM_in s
    simp only [spec_ShowHint.l0,spec_ShowHint.b0]
    rw [decF (by omega),c_f,specCrc_eq hk (by omega),o_s]
    simp only []
    rw [specFixed_eq hk hc.1 hc.2,o_s]
    simp only []
    rw [cat_ok (by rw [show (fix4 (crcM s)).size=4 from rfl];omega),show entsT []=⟨#[]⟩ from rfl,nil_app]
  · have hm:x ∈ h.2.2.1:=by rw [← hx];exact getD_mem (by omega)
    have hz:=(h2 x hm).1.2
    have v1:=varB_size (x.1.size:Int)
    have v2:=varB_size x.2.1
    have v3:=varB_size x.2.2.1
    have v4:=varB_size x.2.2.2.1
    have v5:=varB_size x.2.2.2.2.1
    have ih:=ih (s++entT x) (by have:=entT_size (e:=x);rw [sz_app];omega)
    simp only [spec_ShowHint.l0,spec_ShowHint.b0]
    rw [decT g1,c_t,inb_eq g0 g1,hx]
    simp only [specVar_eq hk,o_s]
    rw [cat_ok (by omega),cat_ok (by rw [sz_app];omega),cat_ok (by rw [sz_app,sz_app];omega),cat_ok (by rw [sz_app,sz_app,sz_app];omega),cat_ok (by rw [sz_app,sz_app,sz_app,sz_app];omega),cat_ok (by rw [sz_app,sz_app,sz_app,sz_app,sz_app];omega),w64_eq (n:=i+1) (by omega) (by omega)]
    have e:s++varB (x.1.size:Int)++x.1++varB x.2.1++varB x.2.2.1++varB x.2.2.2.1++varB x.2.2.2.2.1=s++entT x:=by
     unfold entT textB
     simp only [app_assoc]
    rw [e,ih]
    rw [show entsT (x::rest)=entT x++entsT rest from rfl,app_assoc]
def entSame (x y:Ty.den TEntry):Bool:=(seq x.1 y.1)&&((x.2.1==y.2.1)&&((x.2.2.1==y.2.2.1)&&((x.2.2.2.1==y.2.2.2.1)&&(x.2.2.2.2.1==y.2.2.2.2.1))))
def sameE:EntryL→EntryL→Bool
 | [],[]=>true
 | x::l,y::m=>entSame x y&&sameE l m
 | _,_=>false
theorem entSame_iff {x y:Ty.den TEntry}:entSame x y=true↔x=y:=by
 unfold entSame
 simp only [b_a,beq_iff_eq,seq_iff]
 constructor
 · rintro ⟨h1,h2,h3,h4,h5⟩
   obtain ⟨a,b,c,d,e,_⟩:=x
   obtain ⟨a',b',c',d',e',_⟩:=y
   simp only at h1 h2 h3 h4 h5
   subst h1 h2 h3 h4 h5
   rfl
 · rintro rfl;exact ⟨rfl,rfl,rfl,rfl,rfl⟩
theorem sameE_iff:∀ {l m:EntryL},sameE l m=true↔l=m
 | [],[]=>⟨fun _=>rfl,fun _=>rfl⟩
 | [],y::m=>⟨fun h=>(by cases h),fun h=>(by cases h)⟩
 | x::l,[]=>⟨fun h=>(by cases h),fun h=>(by cases h)⟩
 | x::l,y::m=>by
  unfold sameE
  rw [b_a,entSame_iff,sameE_iff,List.cons.injEq]
theorem sameE_len:∀ {l m:EntryL},l.length≠m.length→sameE l m=false:=fun {l m} h=>by
 cases c:sameE l m with
 | false=>rfl
 | true=>rw [sameE_iff.1 c] at h;exact absurd rfl h
theorem drop_cons {α:Type} {l:List α} {i:Nat} (z:α) (h:i<l.length):l.drop i=l.getD i z::l.drop (i+1):=by
 rw [List.drop_eq_getElem_cons h]
 simp [List.getD,h]
theorem specSameDir_eq {k:Nat} (hk:2 ^ 50≤k) {l m:EntryL} (hl:l.length≤1073741824):spec_SameDir.f k l m=some (sameE l m,()):=by
 unfold spec_SameDir.f spec_SameDir.t
 by_cases hne:l.length=m.length
 · rw [show ((l.length:Int) != (m.length:Int))=false by rw [hne];simp,c_f]
   refine (forI (L:=fun n i (_:Unit)=>spec_SameDir.l0 k n l m i) (R:=fun i _=>some (sameE (l.drop i.toNat) (m.drop i.toNat),())) l.length (fun _ _=>True) (fun n _ _=>?_) (fun n i _ h0 h1 _ ih=>?_) k 0 () (by omega) (by omega) (by omega) trivial).trans (by simp)
   · simp only [spec_SameDir.l0,spec_SameDir.b0]
     rw [decF (by omega),c_f,n_n,List.drop_length,hne,List.drop_length]
     rfl
   · have ih:=ih () trivial
     have c1:i.toNat<l.length:=by omega
     simp only [spec_SameDir.l0,spec_SameDir.b0]
     rw [decT h1,c_t,inb_eq h0 h1,inb_eq h0 (by omega),w64_eq (n:=i+1) (by omega) (by omega),ih,drop_cons (Ty.dflt TEntry) c1,drop_cons (Ty.dflt TEntry) (l:=m) (i:=i.toNat) (by omega),show (i+1).toNat=i.toNat+1 by omega]
     show _=some (entSame _ _&&sameE _ _,())
     show (bif !(entSame (l.getD i.toNat (Ty.dflt TEntry)) (m.getD i.toNat (Ty.dflt TEntry))) then _ else _)=_
     cases entSame (l.getD i.toNat (Ty.dflt TEntry)) (m.getD i.toNat (Ty.dflt TEntry)) <;> rfl
 · rw [show ((l.length:Int) != (m.length:Int))=true from bne_iff_ne.2 (by omega),c_t,sameE_len hne]
def keepOk (mark:Int) (p:Option (Ty.den TSpot)) (x:Ty.den TSpot):Bool :=
 (x.2.2.1.1==4)&&(!decide ((x.2.2.1.2.1:Int) > mark)&&(match p with | none=>true | some y=>sls y.2.2.1.2.2.1 x.2.2.1.2.2.1))
def entS (id:Int) (x:Ty.den TSpot):Ty.den TEntry:=(x.2.2.1.2.2.1,(id,(x.1,(x.2.1,(x.2.2.1.2.1,())))))
noncomputable def hintOfM (id:Int) (s:ByteArray):Ty.den THint × Bool :=
 bif (scanM s).2 != (s.size:Int) then (zHint,false) else bif (scanM s).1.length==0 then (zHint,false) else
 bif ((scanM s).1.getD ((scanM s).1.length-1) (Ty.dflt TSpot)).2.2.1.1 != 5 then (zHint,false) else
 bif !decide ((1:Int)≤id∧id≤100000) then (zHint,false) else
 bif !adj (keepOk ((scanM s).1.getD ((scanM s).1.length-1) (Ty.dflt TSpot)).2.2.1.2.1) none ((scanM s).1.take ((scanM s).1.length-1)) then (zHint,false) else
 bif !fitsM ((scanM s).1.getD ((scanM s).1.length-1) (Ty.dflt TSpot)).2.2.1 (placesM id ((scanM s).1.take ((scanM s).1.length-1))) then (zHint,false) else
 (((s.size:Int),(((scanM s).1.getD ((scanM s).1.length-1) (Ty.dflt TSpot)).2.2.1.2.1,(((scanM s).1.take ((scanM s).1.length-1)).map (entS id),()))),true)
theorem named_seg_empty (id:Int):seq (namedM segB id) ⟨#[]⟩=!decide ((1:Int)≤id∧id≤100000):=by
 by_cases h:(1:Int)≤id∧id≤100000
 · rw [decT h]
   have e:namedM segB id=segB++decB id:=by unfold namedM;rw [decT h];rfl
   rw [e,seqF fun q=>?_]
   · rfl
   · have:=congrArg ByteArray.size q
     rw [sz_app] at this
     have s3:segB.size=3:=rfl
     have s0:(⟨#[]⟩:ByteArray).size=0:=rfl
     omega
 · rw [decF h]
   have e:namedM segB id=⟨#[]⟩:=by unfold namedM;rw [decF h];rfl
   rw [e,seq_refl]
   rfl
theorem specHintOf_eq {k:Nat} (hk:2 ^ 50≤k) (id:Int) {s:ByteArray} (hs:s.size≤1073741823):spec_HintOf.f k id s=some ((hintOfM id s).1,((hintOfM id s).2,())):=by
 have hln:=scanM_len s
 unfold spec_HintOf.f spec_HintOf.t hintOfM
 rw [specScan_eq hk (by omega),o_s]
 simp only []
 generalize scanM s=sc at hln ⊢
 obtain ⟨l,en⟩:=sc
 simp only at hln ⊢
 cases en != (s.size:Int) with
 | true=>rfl
 | false =>
  simp only [c_f]
  by_cases h0:l.length=0
  · rw [show ((l.length:Int)==0)=true by rw [h0];rfl,show (l.length==0)=true by rw [h0];rfl]
    rfl
  · rw [show ((l.length:Int)==0)=false from q_f (by omega),show (l.length==0)=false from q_f h0]
    simp only [c_f]
    have w1:w64 ((l.length:Int)-1)=((l.length-1:Nat):Int):=by rw [w64_eq (by omega) (by omega)];omega
    rw [w1,n_n,inb_eq (by omega) (by omega),inb_eq (by omega) (by omega)]
    generalize hm:l.getD (l.length-1) (Ty.dflt TSpot)=m
    cases m.2.2.1.1 != 5 with
    | true=>rfl
    | false =>
     simp only [c_f]
     rw [specSegName_eq hk,o_s]
     simp only [named_seg_empty]
     cases decide ((1:Int)≤id∧id≤100000) with
     | false=>rfl
     | true =>
      simp only [n_t,c_f]
      have hpl:(l.take (l.length-1)).length=l.length-1:=by rw [List.length_take];omega
      refine (forAdj (L:=fun n i=>spec_HintOf.l0 k n id i [] 0 0 l ((l.take i.toNat).map (entS id)) (s.size:Int) m.2.2.1.2.1 ((l.take i.toNat).map fun x=>x.2.2.1)) (Ty.dflt TSpot) (l.take (l.length-1)) (keepOk m.2.2.1.2.1)
       (bif !fitsM m.2.2.1 (placesM id (l.take (l.length-1))) then some (zHint,(false,())) else some (((s.size:Int),(m.2.2.1.2.1,((l.take (l.length-1)).map (entS id),()))),(true,()))) (some (zHint,(false,()))) (fun n=>?_) (fun n x h hx=>?_) (fun n i x y h0 h1 hx hy=>?_) (n:=k) (by omega)).trans (by
        cases adj (keepOk m.2.2.1.2.1) none (l.take (l.length-1)) <;> cases fitsM m.2.2.1 (placesM id (l.take (l.length-1))) <;> rfl)
      · simp only [spec_HintOf.l0,spec_HintOf.b0]
        rw [hpl,n_n,w64_eq (n:=((l.length-1:Nat):Int)+1) (by omega) (by omega),decF (by omega),c_f,w1,n_n,inb_eq (by omega) (by omega),hm,specSumOf_eq hk (by rw [List.length_map,hpl];omega),o_s,List.length_map,hpl]
        unfold fitsM placesM bne
        rw [List.length_map,hpl,List.map_map]
        show (bif !(m.2.2.1.2.2.2.2.1==((l.length-1:Nat):Int)) then _ else bif !(m.2.2.1.2.2.2.2.2.1==sumM ((l.take (l.length-1)).map fun x=>x.2.2.1)) then _ else _)=bif !((m.2.2.1.2.2.2.2.1==((l.length-1:Nat):Int))&&(m.2.2.1.2.2.2.2.2.1==sumM ((l.take (l.length-1)).map fun x=>x.2.2.1))) then _ else _
        cases m.2.2.1.2.2.2.2.1==((l.length-1:Nat):Int) <;> cases m.2.2.1.2.2.2.2.2.1==sumM ((l.take (l.length-1)).map fun x=>x.2.2.1) <;> rfl
      · rw [hpl] at h
        have hx':l.getD 0 (Ty.dflt TSpot)=x:=by rw [← hx,show Int.toNat 0=0 from rfl,getD_take (by omega)]
        simp only [spec_HintOf.l0,spec_HintOf.b0]
        rw [w64_eq (n:=(0:Int)+1) (by omega) (by omega),decT (by omega),c_t,inb_eq (by omega) (by omega),show Int.toNat 0=0 from rfl,hx',decF (show ¬ (0:Int) > 0 by omega),c_f,rm_ok (by simp) (by decide),inb_eq (by omega) (by omega),inb_eq (by omega) (by omega),rm_ok (by simp) (by decide),show Int.toNat 1=0+1 from rfl,take_succ_getD (z:=Ty.dflt TSpot) (show 0<l.length by omega),hx']
        simp only [keepOk,bne]
        cases x.2.2.1.1==4 <;> cases decide ((x.2.2.1.2.1:Int) > m.2.2.1.2.1) <;> rfl
      · rw [hpl] at h1
        have hx':l.getD i.toNat (Ty.dflt TSpot)=x:=by rw [← hx,getD_take (by omega)]
        have hy':l.getD (i-1).toNat (Ty.dflt TSpot)=y:=by rw [← hy,getD_take (by omega)]
        simp only [spec_HintOf.l0,spec_HintOf.b0]
        rw [w64_eq (n:=i+1) (by omega) (by omega),decT (by omega),c_t,inb_eq (by omega) (by omega),hx',decT (show i > 0 by omega),w64_eq (n:=i-1) (by omega) (by omega),inb_eq (by omega) (by omega),hy',sls_total,rm_ok (by rw [List.length_map,List.length_take];omega) (by decide),inb_eq (by omega) (by omega),inb_eq (by omega) (by omega),rm_ok (by rw [List.length_map,List.length_take];omega) (by decide),show (i+1).toNat=i.toNat+1 by omega,take_succ_getD (z:=Ty.dflt TSpot) (show i.toNat<l.length by omega),hx',List.map_append,List.map_append]
        simp only [keepOk,bne]
        cases x.2.2.1.1==4 <;> cases decide ((x.2.2.1.2.1:Int) > m.2.2.1.2.1) <;> cases sls y.2.2.1.2.2.1 x.2.2.1.2.2.1 <;> rfl
noncomputable def fitsHintM (id:Int) (s:ByteArray) (h:Ty.den THint):Bool:=(hintOfM id s).2&&(((hintOfM id s).1.1==h.1)&&(((hintOfM id s).1.2.1==h.2.1)&&sameE (hintOfM id s).1.2.2.1 h.2.2.1))
theorem hintOf_len (id:Int) {s:ByteArray} (hs:s.size≤1073741823):(hintOfM id s).1.2.2.1.length≤1073741824:=by
 have hln:=scanM_len s
 unfold hintOfM
 generalize scanM s=sc at hln ⊢
 obtain ⟨l,en⟩:=sc
 simp only at hln ⊢
 cases en != (s.size:Int)
 · cases l.length==0
   · cases (l.getD (l.length-1) (Ty.dflt TSpot)).2.2.1.1 != 5
     · cases !decide ((1:Int)≤id∧id≤100000)
       · cases !adj (keepOk (l.getD (l.length-1) (Ty.dflt TSpot)).2.2.1.2.1) none (l.take (l.length-1))
         · cases !fitsM (l.getD (l.length-1) (Ty.dflt TSpot)).2.2.1 (placesM id (l.take (l.length-1)))
           · show ((l.take (l.length-1)).map (entS id)).length≤1073741824
             rw [List.length_map,List.length_take]
             omega
           · exact Nat.zero_le _
         · exact Nat.zero_le _
       · exact Nat.zero_le _
     · exact Nat.zero_le _
   · exact Nat.zero_le _
 · exact Nat.zero_le _
theorem specHintFits_eq {k:Nat} (hk:2 ^ 50≤k) (id:Int) {s:ByteArray} (hs:s.size≤1073741823) (h:Ty.den THint):spec_HintFits.f k id s h=some (fitsHintM id s h,()):=by
 have hl:=hintOf_len id hs
 unfold spec_HintFits.f spec_HintFits.t fitsHintM
 rw [specHintOf_eq hk id hs,o_s]
 simp only []
 rw [specSameDir_eq hk hl,o_s]
 cases (hintOfM id s).2 <;> cases (hintOfM id s).1.1==h.1 <;> cases (hintOfM id s).1.2.1==h.2.1 <;> rfl
end Go.Proofs.YtmakghhmpgfboaaGreat.G
namespace Go.V
def Tot {α:Type} (o:Option α) (P:α→Prop):Prop:=∃ r,o=some r∧P r
section
variable {α β:Type} {P P':α→Prop} {Q:β→Prop}
theorem tot_some {r:α} (h:P r):Tot (some r) P:=⟨r,rfl,h⟩
theorem tot_of {o:Option α} {r:α} (e:o=some r) (h:P r):Tot o P:=⟨r,e,h⟩
theorem tot_eq {o:Option α} {r:α} (h:Tot o (fun x=>x=r)):o=some r:=by
 obtain ⟨x,e,rfl⟩:=h
 exact e
theorem tot_mono {o:Option α} (h:Tot o P) (hp:∀ r,P r→P' r):Tot o P':=by
 obtain ⟨r,e,hr⟩:=h
 exact ⟨r,e,hp r hr⟩
theorem tot_bind {o:Option α} {g:α→Option β} (h:Tot o P) (hg:∀ r,P r→Tot (g r) Q):Tot (Option.bind o g) Q:=by
 obtain ⟨r,e,hr⟩:=h
 rw [e]
 exact hg r hr
theorem tot_bindE {o:Option α} {r:α} {g:α→Option β} (e:o=some r) (hg:Tot (g r) Q):Tot (Option.bind o g) Q:=by
 rw [e]
 exact hg
theorem tot_bif {b:Bool} {x y:Option α} (h1:b=true→Tot x P) (h2:b=false→Tot y P):Tot (bif b then x else y) P:=by
 cases b
 · exact h2 rfl
 · exact h1 rfl
theorem tot_yes {b:Bool} {x y:Option α} (hb:b=true) (h:Tot x P):Tot (bif b then x else y) P:=by rw [hb];exact h
theorem tot_no {b:Bool} {x y:Option α} (hb:b=false) (h:Tot y P):Tot (bif b then x else y) P:=by rw [hb];exact h
theorem tot_inb {i n:Int} {x:Option α} (h0:0≤i) (h1:i<n) (h:Tot x P):Tot (inb i n x) P:=by rw [inb_eq h0 h1];exact h
theorem tot_inc {i n:Int} {x:Option α} (h0:0≤i) (h1:i≤n) (h:Tot x P):Tot (inc i n x) P:=by rw [inc_eq h0 h1];exact h
theorem tot_rm {b n:Nat} {x:Option α} (h0:n≤1099511627776) (hb:b≤128) (h:Tot x P):Tot (rm b n x) P:=by rw [rm_ok h0 hb];exact h
theorem tot_cat {a b:ByteArray} {x:Option α} (h0:a.size+b.size≤4611686018427387904) (h:Tot x P):Tot (cat a b x) P:=by rw [cat_ok h0];exact h
end
end Go.V
namespace Go.Proofs.YtmakghhmpgfboaaGreat.G
open Go.V
noncomputable def readHintM (s:ByteArray):Ty.den THint × Bool:=undo (fun h=>hintM h=true) showHintM zHint s
def RH (s:ByteArray) (o:Option (Ty.den THint × Bool × Unit)):Prop:=(∃ h,hintM h=true∧showHintM h=s∧o=some (h,(true,())))∨o=some (zHint,(false,()))
theorem rh_no (s:ByteArray):RH s (some (zHint,(false,()))) := .inr rfl
theorem rh_seq {s:ByteArray} (hs:4≤s.size) (h:Ty.den THint):RH s (bif !seq (showHintM h) s then some (zHint,(false,())) else some (h,(true,()))):=by
 cases c:seq (showHintM h) s with
 | false=>exact .inr rfl
 | true =>
  have e:=seq_iff.1 c
  refine .inl ⟨h,?_,e,rfl⟩
  cases q:hintM h with
  | true=>rfl
  | false =>
   unfold showHintM at e
   rw [if_neg (by rw [q];decide)] at e
   rw [← e] at hs
   exact absurd hs (by decide)
theorem varsL_any {k:Nat} (hk:2 ^ 50≤k) {s:ByteArray} (hs:s.size≤1073741824) {m:Int} (h0:0≤m) (hm:m≤4):∀ (d n:Nat) (pos j:Int) (out:List Int),j+(d:Int)=m→0≤j→d<n→0≤pos→pos≤s.size→(out.length:Int)=j →
 Tot (spec_l10Vars.l0 k n s pos m j out) (fun r=>(r.2.1 = -1∨(pos≤r.2.1∧r.2.1≤(s.size:Int)))∧(r.1.length:Int)=m):=by
 intro d
 induction d with
 | zero =>
  intro n pos j out h1 h2 hn h3 h4 h5
  obtain ⟨n,rfl⟩:∃ q,n=q+1:=⟨n-1,by omega⟩
  simp only [spec_l10Vars.l0,spec_l10Vars.b0]
  exact tot_no (decF (by omega)) (tot_some ⟨.inr ⟨Int.le_refl _,h4⟩,by show (out.length:Int)=m;omega⟩)
 | succ d ih =>
  intro n pos j out h1 h2 hn h3 h4 h5
  obtain ⟨n,rfl⟩:∃ q,n=q+1:=⟨n-1,by omega⟩
  have hr:=rvR_in (ByteArray.extract s pos.toNat s.size)
  rw [ext_size] at hr
  simp only [spec_l10Vars.l0,spec_l10Vars.b0]
  refine tot_yes (decT (by omega)) (tot_inc h3 h4 (tot_bindE (specReadVar_rv hk _) ?_))
  generalize rvR (rv 7 (nb (ByteArray.extract s pos.toNat s.size)))=r at hr
  refine tot_bif (fun _=>?_) (fun _=>?_)
  · rw [mks_ok h0 (by omega) (by decide)]
    exact tot_some ⟨.inl rfl,by show ((List.replicate m.toNat _).length:Int)=m;rw [List.length_replicate];omega⟩
  · rw [w64_eq (n:=pos+r.2.1) (by omega) (by omega),w64_eq (n:=j+1) (by omega) (by omega)]
    refine tot_rm (by omega) (by decide) (tot_mono (ih n (pos+r.2.1) (j+1) (out++[r.1]) (by omega) (by omega) (by omega) (by omega) (by omega) (by rw [len_snoc];omega)) fun x hx=>⟨?_,hx.2⟩)
    rcases hx.1 with q | q
    · exact .inl q
    · exact .inr ⟨by omega,q.2⟩
theorem vars_any {k:Nat} (hk:2 ^ 50≤k) {s:ByteArray} (hs:s.size≤1073741824) {m pos:Int} (h0:0≤m) (hm:m≤4) (h1:0≤pos) (h2:pos≤s.size) :
 Tot (spec_l10Vars.f k s pos m) (fun r=>(r.2.1 = -1∨(pos≤r.2.1∧r.2.1≤(s.size:Int)))∧(r.1.length:Int)=m):=by
 unfold spec_l10Vars.f spec_l10Vars.t
 exact varsL_any hk hs h0 hm m.toNat k pos 0 [] (by omega) (by omega) (by omega) h1 h2 rfl
def NumOk (x:Int):Prop:=0≤x∧x≤1000000
theorem num_nat {x:Int} (h:NumOk x):∃ n:Nat,n<562949953421312∧x=(n:Int)∧varB x=varT n:=by
 obtain ⟨n,rfl⟩:=Int.eq_ofNat_of_zero_le h.1
 have:=h.2
 exact ⟨n,by omega,rfl,varB_nat (by omega)⟩
theorem varsL_ok {k:Nat} (hk:2 ^ 50≤k) {m:Int} (hm:m≤4):∀ (xs:List Int) (pre t:ByteArray) (n:Nat) (j:Int) (out:List Int),(∀ x ∈ xs,NumOk x)→j+(xs.length:Int)=m→0≤j→xs.length<n→(out.length:Int)≤j→pre.size+((varsT xs).size+t.size)≤1073741824 →
 spec_l10Vars.l0 k n (pre++(varsT xs++t)) (pre.size:Int) m j out=some (out++xs,(((pre.size+(varsT xs).size:Nat):Int),()))
 | [],pre,t,n,j,out,hx,h1,h2,hn,h3,hz=>by
  obtain ⟨n,rfl⟩:∃ q,n=q+1:=⟨n-1,by omega⟩
  simp only [List.length_nil] at h1
  simp only [spec_l10Vars.l0,spec_l10Vars.b0]
  rw [decF (by omega),c_f,List.append_nil]
  rfl
 | x::xs,pre,t,n,j,out,hx,h1,h2,hn,h3,hz=>by
  obtain ⟨n,rfl⟩:∃ q,n=q+1:=⟨n-1,by omega⟩
  obtain ⟨a,ha,rfl,hv⟩:=num_nat (hx x (m_s ..))
  have hva:=varT_size a
  rw [l_c] at h1 hn
  have e1:varsT ((a:Int)::xs)=varT a++varsT xs:=by rw [varsT,hv]
  rw [e1,sz_app] at hz
  rw [e1]
  have e2:pre++(varT a++varsT xs++t)=pre++varT a++(varsT xs++t):=by simp only [app_assoc]
  have ih:=varsL_ok hk hm xs (pre++varT a) t n (j+1) (out++[(a:Int)]) (fun y hy=>hx y (m_m _ hy)) (by omega) (by omega) (by omega) (by rw [len_snoc];omega) (by rw [sz_app];omega)
  simp only [spec_l10Vars.l0,spec_l10Vars.b0]
  rw [decT (by omega),c_t,inc_eq (by omega) (by rw [sz_app];omega),n_n,app_tail,app_assoc,specReadVar_ok hk ha,o_s]
  simp only []
  rw [show (((varT a).size:Int)==0)=false from q_f (by omega),c_f,rm_ok (by omega) (by decide),cast_add,w64_eq (by omega) (by omega),w64_eq (n:=j+1) (by omega) (by omega)]
  rw [sz_app] at ih
  rw [← app_assoc pre,ih,a_a,sz_app,Nat.add_assoc]
  rfl
theorem vars_ok {k:Nat} (hk:2 ^ 50≤k) {xs:List Int} (pre t:ByteArray) (hx:∀ x ∈ xs,NumOk x) (hl:xs.length≤4) (hz:pre.size+((varsT xs).size+t.size)≤1073741824) :
 spec_l10Vars.f k (pre++(varsT xs++t)) (pre.size:Int) (xs.length:Int)=some (xs,(((pre.size+(varsT xs).size:Nat):Int),())):=by
 unfold spec_l10Vars.f spec_l10Vars.t
 exact varsL_ok hk (by omega) xs pre t k 0 [] hx (by omega) (by omega) (by omega) (by simp) hz
theorem l5_t {k:Nat} (hk:2 ^ 50≤k) {s:ByteArray} (hs:s.size≤1073741824):Tot (spec_l5Text.f k s) (fun r=>r.2.1.size≤s.size):=by
 rcases tx_cases s with ⟨u,t,hu,rfl⟩ | h
 · rw [sz_app,sz_app] at hs
   exact tot_of (l5_ok hk hu (by rw [sz_app];omega)) (by show t.size≤_;rw [sz_app,sz_app];omega)
 · exact tot_of (l5_bad hk (by omega) h) (Nat.zero_le _)
theorem specRHL_any {k:Nat} (hk:2 ^ 50≤k) {s:ByteArray} (h4:4≤s.size) (hs:s.size≤1073741824) (z:EntryL) (z1 z2 a b:Int) {xs:List Int} (hx:xs.length=3) (hc:xs.getD 2 (Ty.dflt (.int .i64))≤(20:Int)):∀ (d n:Nat) (pos j:Int) (out:EntryL),j+(d:Int)=20→0≤j→d<n→0≤pos→pos≤s.size→(out.length:Int)≤j →
 RH s (spec_ReadHint.l0 k n s pos j z z1 z2 xs out a b):=by
 intro d
 induction d with
 | zero =>
  intro n pos j out h1 h2 hn h3 h5 h6
  obtain ⟨n,rfl⟩:∃ q,n=q+1:=⟨n-1,by omega⟩
  simp only [spec_ReadHint.l0,spec_ReadHint.b0]
  rw [inb_eq (by omega) (by omega),decF (show ¬ j<xs.getD 2 (Ty.dflt (.int .i64)) by omega),c_f,specShowHint_eq hk,o_s]
  exact rh_seq h4 _
 | succ d ih =>
  intro n pos j out h1 h2 hn h3 h5 h6
  obtain ⟨n,rfl⟩:∃ q,n=q+1:=⟨n-1,by omega⟩
  have hz:=ext_size s pos.toNat
  simp only [spec_ReadHint.l0,spec_ReadHint.b0]
  rw [inb_eq (by omega) (by omega)]
  by_cases c:j<xs.getD 2 (Ty.dflt (.int .i64))
  · rw [decT c,c_t,inc_eq h3 h5]
    obtain ⟨r2,e2,q2⟩:=l5_t hk (s:=ByteArray.extract s pos.toNat s.size) (by omega)
    rw [e2,o_s]
    obtain ⟨r3,e3,q3,q4⟩:=vars_any hk (s:=r2.2.1) (m:=4) (pos:=0) (by omega) (by omega) (by omega) (by omega) (by omega)
    rw [e3,o_s]
    cases r2.2.2.1 with
    | false=>exact rh_no s
    | true =>
     simp only [n_t,c_f]
     by_cases c3:r3.2.1<0
     · rw [decT c3];exact rh_no s
     · rw [decF c3,c_f,inb_eq (by omega) (by omega),inb_eq (by omega) (by omega),inb_eq (by omega) (by omega),inb_eq (by omega) (by omega),rm_ok (by omega) (by decide),w64_eq (n:=(s.size:Int)-(r2.2.1.size:Int)) (by omega) (by omega),w64_eq (n:=(s.size:Int)-(r2.2.1.size:Int)+r3.2.1) (by omega) (by omega),w64_eq (n:=j+1) (by omega) (by omega)]
       exact ih n _ (j+1) _ (by omega) (by omega) (by omega) (by omega) (by omega) (by rw [len_snoc];omega)
  · rw [decF c,c_f,specShowHint_eq hk,o_s]
    exact rh_seq h4 _
theorem specRH_any {k:Nat} (hk:2 ^ 50≤k) {s:ByteArray} (hs:s.size≤1073741824):RH s (spec_ReadHint.f k s):=by
 unfold spec_ReadHint.f spec_ReadHint.t
 by_cases h4:(s.size:Int)<4
 · rw [decT h4];exact rh_no s
 · rw [decF h4,c_f]
   obtain ⟨r,e,q1,q2⟩:=vars_any hk (s:=s) (m:=3) (pos:=4) hs (by omega) (by omega) (by omega) (by omega)
   rw [e,o_s]
   by_cases c1:r.2.1<0
   · rw [decT c1];exact rh_no s
   · rw [decF c1,c_f,inb_eq (by omega) (by omega)]
     by_cases c2:r.1.getD 2 (Ty.dflt (.int .i64)) > (20:Int)
     · rw [decT c2];exact rh_no s
     · rw [decF c2,c_f,inb_eq (by omega) (by omega),inb_eq (by omega) (by omega)]
       exact specRHL_any hk (by omega) hs [] 0 0 _ _ (by omega) (Int.not_lt.1 c2) 20 k r.2.1 0 [] (by omega) (by omega) (by omega) (by omega) (by omega) (by simp)
theorem ent_nums {e:Ty.den TEntry} {l:EntryL} (hl:dirM l=true) (ho:oneSeg l=true) (he:e ∈ l):∀ x ∈ [(e.2.1:Int),e.2.2.1,e.2.2.2.1,e.2.2.2.2.1],NumOk x:=by
 obtain ⟨_,q⟩:=dir_facts hl
 obtain ⟨_,⟨a1,a2⟩,b1,⟨c1,c2⟩,⟨d1,d2⟩⟩:=q e he
 have h2:=List.all_eq_true.1 ho e he
 unfold inSeg at h2
 rw [b_a] at h2
 have b2:LE.le (α:=Int) e.2.2.1 100000:=by
  refine Int.not_lt.1 fun w=>?_
  have:(!decide ((e.2.2.1:Int) > 100000))=false:=by rw [decT w];rfl
  rw [this] at h2
  cases h2.2
 intro x hx
 simp only [List.mem_cons,List.not_mem_nil,or_false] at hx
 rcases hx with rfl | rfl | rfl | rfl
 · exact ⟨by omega,by omega⟩
 · exact ⟨b1,by omega⟩
 · exact ⟨by omega,by omega⟩
 · exact ⟨by omega,d2⟩
theorem entT_form (e:Ty.den TEntry) (h:e.1.size≤8) (t:ByteArray):entT e++t=varT e.1.size++(e.1++(varsT [(e.2.1:Int),e.2.2.1,e.2.2.2.1,e.2.2.2.2.1]++t)):=by
 unfold entT textB
 rw [varB_nat (by omega)]
 simp only [varsT,nil_app,app_assoc]
theorem specRHL_ok {k:Nat} (hk:2 ^ 50≤k) {h:Ty.den THint} (q:hintM h=true) (z:EntryL) (z1 z2:Int):∀ (r:EntryL) (pre:ByteArray) (n:Nat) (j:Int) (out:EntryL),(∀ e ∈ r,e ∈ h.2.2.1)→out++r=h.2.2.1→(out.length:Int)=j→r.length<n→showHintM h=pre++entsT r→pre.size≤1000 →
 spec_ReadHint.l0 k n (showHintM h) (pre.size:Int) j z z1 z2 [(h.1:Int),h.2.1,(h.2.2.1.length:Int)] out h.1 h.2.1=some (h,(true,()))
 | [],pre,n,j,out,hr,ho,hj,hn,hs,hp=>by
  obtain ⟨n,rfl⟩:∃ q,n=q+1:=⟨n-1,by omega⟩
  rw [List.append_nil] at ho
  simp only [spec_ReadHint.l0,spec_ReadHint.b0]
  rw [inb_eq (by omega) (by simp),show List.getD [(h.1:Int),h.2.1,(h.2.2.1.length:Int)] 2 (Ty.dflt (.int .i64))=(h.2.2.1.length:Int) from rfl,ho,decF (by rw [← hj,ho];omega),c_f,show (h.1,(h.2.1,(h.2.2.1,())))=h from rfl,specShowHint_eq hk,o_s]
  simp only [seq_refl]
  rfl
 | e::r,pre,n,j,out,hr,ho,hj,hn,hs,hp=>by
  obtain ⟨n,rfl⟩:∃ q,n=q+1:=⟨n-1,by omega⟩
  have hlen:h.2.2.1.length=out.length+(r.length+1):=by rw [← ho,l_a,l_c]
  have he:=hr e (m_s ..)
  have hd:=hint_dir q
  have h1:oneSeg h.2.2.1=true:=by unfold hintM at q;rw [b_a,b_a,b_a] at q;exact q.2.2.2
  have hk8:=((dir_facts hd).2 e he).1.2
  have h20:=(dir_facts hd).1
  have hnum:=ent_nums hd h1 he
  have hz:=showHint_size h
  have hf:=entT_form e hk8 (entsT r)
  have hs2:showHintM h=pre++(varT e.1.size++(e.1++(varsT [(e.2.1:Int),e.2.2.1,e.2.2.2.1,e.2.2.2.2.1]++entsT r))):=by rw [← hf];exact hs
  have hs3:showHintM h=(pre++entT e)++entsT r:=by rw [app_assoc];exact hs
  have hsz:=congrArg ByteArray.size hs2
  simp only [sz_app] at hsz
  have hsz3:=congrArg ByteArray.size hs3
  rw [sz_app,sz_app] at hsz3
  have ih:=specRHL_ok hk q z z1 z2 r (pre++entT e) n (j+1) (out++[e]) (fun x hx=>hr x (m_m _ hx)) (by rw [a_a];exact ho) (by rw [len_snoc];omega) (by rw [l_c] at hn;omega) hs3 (by rw [sz_app];omega)
  have hv:=vars_ok hk (xs:=[(e.2.1:Int),e.2.2.1,e.2.2.2.1,e.2.2.2.2.1]) ⟨#[]⟩ (entsT r) hnum (by simp) (by rw [e0];omega)
  rw [app_nil,e0] at hv
  simp only [spec_ReadHint.l0,spec_ReadHint.b0]
  rw [inb_eq (by omega) (by simp),show List.getD [(h.1:Int),h.2.1,(h.2.2.1.length:Int)] 2 (Ty.dflt (.int .i64))=(h.2.2.1.length:Int) from rfl,decT (by omega),c_t,inc_eq (by omega) (by omega),n_n]
  have ex:ByteArray.extract (showHintM h) pre.size (showHintM h).size=varT e.1.size++(e.1++(varsT [(e.2.1:Int),e.2.2.1,e.2.2.2.1,e.2.2.2.2.1]++entsT r)):=by rw [hs2,app_tail]
  rw [ex,l5_ok hk (by omega) (by simp only [sz_app];omega),o_s]
  simp only []
  rw [show spec_l10Vars.f k (varsT [(e.2.1:Int),e.2.2.1,e.2.2.2.1,e.2.2.2.2.1]++entsT r) 0 4=_ from hv,o_s]
  simp only [n_t,c_f]
  rw [decF (by omega),c_f,inb_eq (by omega) (by simp),inb_eq (by omega) (by simp),inb_eq (by omega) (by simp),inb_eq (by omega) (by simp),rm_ok (by omega) (by decide),w64_eq (n:=j+1) (by omega) (by omega)]
  have hsv:(varsT [(e.2.1:Int),e.2.2.1,e.2.2.2.1,e.2.2.2.2.1]++entsT r).size=(varsT [(e.2.1:Int),e.2.2.1,e.2.2.2.1,e.2.2.2.2.1]).size+(entsT r).size:=sz_app _ _
  have w:w64 (w64 (((showHintM h).size:Int)-((varsT [(e.2.1:Int),e.2.2.1,e.2.2.2.1,e.2.2.2.2.1]++entsT r).size:Int))+((0+(varsT [(e.2.1:Int),e.2.2.1,e.2.2.2.1,e.2.2.2.2.1]).size:Nat):Int))=((pre++entT e).size:Int):=by
   have hpe:=sz_app pre (entT e)
   rw [w64_eq (n:=((showHintM h).size:Int)-_) (by omega) (by omega),w64_eq (by omega) (by omega)]
   omega
  rw [w]
  exact ih
theorem hint_nums {h:Ty.den THint} (q:hintM h=true):∀ x ∈ [(h.1:Int),h.2.1,(h.2.2.1.length:Int)],NumOk x:=by
 have h20:=(dir_facts (hint_dir q)).1
 unfold hintM at q
 rw [b_a,b_a,decide_eq_true_eq,decide_eq_true_eq] at q
 obtain ⟨⟨a1,a2⟩,⟨b1,b2⟩,_⟩:=q
 intro x hx
 simp only [List.mem_cons,List.not_mem_nil,or_false] at hx
 rcases hx with rfl | rfl | rfl
 · exact ⟨a1,by have:LE.le (α:=Int) h.1 100000:=a2;omega⟩
 · exact ⟨b1,b2⟩
 · exact ⟨by omega,by omega⟩
theorem showHint_form {h:Ty.den THint} (q:hintM h=true):showHintM h=fix4 (crcM (hintT h))++(varsT [(h.1:Int),h.2.1,(h.2.2.1.length:Int)]++entsT h.2.2.1):=by
 unfold showHintM
 rw [if_pos q]
 unfold hintT
 simp only [varsT,nil_app,app_assoc]
theorem fix4_sz (x:Int):(fix4 x).size=4:=rfl
theorem specRH_ok {k:Nat} (hk:2 ^ 50≤k) {h:Ty.den THint} (q:hintM h=true):spec_ReadHint.f k (showHintM h)=some (h,(true,())):=by
 have h20:=(dir_facts (hint_dir q)).1
 have hf:=showHint_form q
 have hz:=showHint_size h
 have hsz:=congrArg ByteArray.size hf
 rw [sz_app,sz_app,fix4_sz] at hsz
 have hv:=vars_ok hk (xs:=[(h.1:Int),h.2.1,(h.2.2.1.length:Int)]) (fix4 (crcM (hintT h))) (entsT h.2.2.1) (hint_nums q) (by simp) (by rw [fix4_sz];omega)
 rw [← hf,fix4_sz] at hv
 unfold spec_ReadHint.f spec_ReadHint.t
 rw [decF (by omega),c_f,show spec_l10Vars.f k (showHintM h) 4 3=_ from hv,o_s]
 simp only []
 rw [decF (by omega),c_f,inb_eq (by omega) (by simp),show List.getD [(h.1:Int),h.2.1,(h.2.2.1.length:Int)] 2 (Ty.dflt (.int .i64))=(h.2.2.1.length:Int) from rfl,decF (by omega),c_f,inb_eq (by omega) (by simp),inb_eq (by omega) (by simp)]
 have:=specRHL_ok hk q [] 0 0 h.2.2.1 (fix4 (crcM (hintT h))++varsT [(h.1:Int),h.2.1,(h.2.2.1.length:Int)]) k 0 [] (fun e he=>he) rfl rfl (by omega) (by rw [app_assoc];exact hf) (by rw [sz_app,fix4_sz];omega)
 rw [sz_app,fix4_sz] at this
 exact this
theorem specReadHint_eq {k:Nat} (hk:2 ^ 50≤k) {s:ByteArray} (hs:s.size≤1073741824):spec_ReadHint.f k s=some ((readHintM s).1,((readHintM s).2,())) :=
 undo_of (fun h h1 h2=>by rw [← h2];exact specRH_ok hk h1) (specRH_any hk hs)
theorem readHint_len {s:ByteArray}:(readHintM s).1.2.2.1.length≤20:=by
 rcases undo_cases (fun h=>hintM h=true) showHintM zHint s with ⟨r,h1,_,e⟩ | e
 · unfold readHintM
   rw [e]
   exact (dir_facts (hint_dir h1)).1
 · unfold readHintM
   rw [e]
   exact Nat.zero_le _
end Go.Proofs.YtmakghhmpgfboaaGreat.G
namespace Go.Proofs.YtmakghhmpgfboaaGreat.G
open Go.V
def zStore:Ty.den TStore:=((0,([],())),([],(0,(0,(0,())))))
noncomputable def segGood (d:Ty.den TDisk) (x:Int) (last:Bool):Bool:=(textM d (namedM segB x)).2&&(last||!decide ((scanM (segT d x)).2<((segT d x).size:Int)))
noncomputable def segsGood (d:Ty.den TDisk):List Int→Bool
 | []=>true
 | x::l=>segGood d x l.isEmpty&&segsGood d l
noncomputable def plOf (d:Ty.den TDisk) (x:Int):PlaceL:=placesM x (scanM (segT d x)).1
noncomputable def plAll (d:Ty.den TDisk):List Int→PlaceL
 | []=>[]
 | x::l=>plOf d x++plAll d l
noncomputable def hintAt (d:Ty.den TDisk) (x:Int):Ty.den THint:=(readHintM (textM d (namedM hintB x)).1).1
noncomputable def hinted (d:Ty.den TDisk) (x:Int):Bool:=(textM d (namedM hintB x)).2&&((readHintM (textM d (namedM hintB x)).1).2&&fitsHintM x (segT d x) (hintAt d x))
noncomputable def groupM (d:Ty.den TDisk) (ids:List Int):Ty.den TGroup :=
 bif hinted d (ids.getD 0 0) then regroupM ((hintAt d (ids.getD 0 0)).2.2.1,((hintAt d (ids.getD 0 0)).2.1,(0,()))) (plAll d (ids.drop 1)) else regroupM ([],(0,(0,()))) (plAll d ids)
noncomputable def storeOf (v:Ty.den TLive) (en:Int) (g:Ty.den TGroup) (hi:Int):Ty.den TStore:=(v,(g.1,(w64 (g.2.1+1),(en,(hi,())))))
noncomputable def endM (v:Ty.den TLive) (en:Int) (x:Ty.den TDisk) (g:Ty.den TGroup) (hi:Int):Ty.den TStore × RD :=
 bif g.2.2.1 != 0 then (zStore,(x,3)) else bif (sweepR v.2.1 x).2 != 0 then (zStore,((sweepR v.2.1 x).1,toldM (sweepR v.2.1 x).2)) else
 (storeOf v en g hi,((sweepR v.2.1 x).1,0))
noncomputable def foundM (v:Ty.den TLive) (d:Ty.den TDisk):Ty.den TStore × RD :=
 bif !segsGood d v.2.1 then (zStore,(d,3)) else
 bif (fixR (lastI v.2.1) d).2 != 0 then (zStore,((fixR (lastI v.2.1) d).1,toldM (fixR (lastI v.2.1) d).2)) else
 endM v (scanM (segT d (lastI v.2.1))).2 (fixR (lastI v.2.1) d).1 (groupM (fixR (lastI v.2.1) d).1 v.2.1) (bif hinted (fixR (lastI v.2.1) d).1 (v.2.1.getD 0 0) then v.2.1.getD 0 0 else 0)
def live1:Ty.den TLive:=(2,([1],()))
noncomputable def firstR (d:Ty.den TDisk):RD:=seqR (seqR (sweepR [] d) fun x=>creM x (namedM segB 1)) (putLiveR live1)
noncomputable def firstM (d:Ty.den TDisk):Ty.den TStore × RD :=
 bif (firstR d).2==0 then ((live1,([],(1,(0,(0,()))))),((firstR d).1,0)) else (zStore,((firstR d).1,toldM (firstR d).2))
noncomputable def openM (d:Ty.den TDisk):Ty.den TStore × RD :=
 bif !diskM d then (zStore,(d,4)) else bif d.2.2.2.1 then (zStore,(d,1)) else
 bif !(textM d liveB).2 then firstM d else
 bif !(readLiveM (textM d liveB).1).2 then (zStore,(d,3)) else foundM (readLiveM (textM d liveB).1).1 d
def oS (q:Ty.den TStore × RD):Ty.den TStore × Ty.den TDisk × Int × Unit:=(q.1,(q.2.1,(q.2.2,())))
theorem adj_ids {lim:Int}:∀ (l:List Int) (p:Option Int),adj (idOk lim) p l=true→(∀ q,p=some q→∀ x ∈ l,q<x)∧l.Pairwise (fun a b=>a<b)
 | [],p,_=>⟨fun q _ x hx=>(by cases hx),List.Pairwise.nil⟩
 | y::l,p,h=>by
  unfold adj at h
  rw [b_a] at h
  obtain ⟨h1,h2⟩:=h
  obtain ⟨a,b⟩:=adj_ids l (some y) h2
  have hy:∀ q,p=some q→q<y:=fun q hq=>by
   subst hq
   unfold idOk at h1
   rw [b_a] at h1
   exact of_decide_eq_true h1.2
  refine ⟨fun q hq x hx=>?_,List.pairwise_cons.2 ⟨a y rfl,b⟩⟩
  rcases List.mem_cons.1 hx with e | e
  · rw [e];exact hy q hq
  · have:=a y rfl x e
    have:=hy q hq
    omega
theorem live_rise {v:Ty.den TLive} (h:liveM v=true):v.2.1.Pairwise (fun a b=>a<b):=by
 unfold liveM at h
 rw [b_a,b_a] at h
 exact (adj_ids _ _ h.2.2).2
theorem getD_app {α:Type} {l m:List α} {n:Nat} {z:α} (h:l.length≤n):(l++m).getD n z=m.getD (n-l.length) z:=by
 simp [List.getD,List.getElem?_append_right h]
theorem last_is {ids:List Int} (hp:ids.Pairwise (fun a b=>a<b)) {i:Nat} {x:Int} {rest:List Int} (h:ids.drop i=x::rest):(x==lastI ids)=rest.isEmpty:=by
 have hi:=drop_lt h
 have hlen:=congrArg List.length h
 rw [List.length_drop,l_c] at hlen
 have e:ids=ids.take i++(x::rest):=by rw [← h,List.take_append_drop]
 have hl:lastI ids=(x::rest).getD rest.length 0:=by
  unfold lastI
  have ht:(ids.take i).length=i:=by rw [List.length_take];omega
  conv=>lhs;rw [e]
  rw [getD_app (by rw [ht,l_a,ht,l_c];omega),ht,l_a,ht,l_c]
  congr 1
  omega
 cases rest with
 | nil=>rw [hl];exact beq_self_eq_true x
 | cons y r =>
  rw [hl]
  have hm:(x::y::r).getD (y::r).length 0 ∈ y::r:=by
   show (y::r).getD r.length 0 ∈ y::r
   exact getD_mem (by rw [l_c];omega)
  have hpd:(x::y::r).Pairwise (fun a b=>a<b):=by rw [← h];exact hp.drop
  have:=(List.pairwise_cons.1 hpd).1 _ hm
  exact q_f (by omega)
theorem segT_size {d:Ty.den TDisk} (h:DR d) (x:Int):(segT d x).size≤100000:=by
 have:=textM_size d (namedM segB x)
 have h2:=h.use
 have h3:=h.cap1
 unfold segT
 omega
theorem plOf_len {d:Ty.den TDisk} (h:DR d) (x:Int):(plOf d x).length≤100000:=by
 have h1:=segT_size h x
 have h2:=scanM_len (segT d x)
 unfold plOf
 rw [placesM_len]
 omega
theorem plAll_len {d:Ty.den TDisk} (h:DR d):∀ l:List Int,(plAll d l).length≤100000*l.length
 | []=>Nat.zero_le _
 | x::l=>by
  have h1:=plOf_len h x
  have h2:=plAll_len h l
  unfold plAll
  rw [l_a,l_c]
  omega
theorem specFirst_eq {k:Nat} (hk:2 ^ 50≤k) {d:Ty.den TDisk} (h:DR d):spec_l11First_g.f k d=some (oS (firstM d)):=by
 have h1:=sweep_DR [] d h
 have hv:liveM live1=true:=by decide
 unfold spec_l11First_g.f spec_l11First_g.t firstM firstR
 rw [specSweep_eq hk h (by decide),o_s]
 simp only [show ((0,(([]:List Int),())):Ty.den TLive).2.1=[] from rfl]
 generalize sweepR [] d=r at h1 ⊢
 unfold seqR
 simp only [bne,toldM_zero]
 cases c:r.2==0 with
 | false=>simp only [n_f,c_t,c_f,c];rfl
 | true =>
  simp only [n_t,c_f,c_t]
  rw [specSegName_eq hk,o_s]
  simp only []
  have hn:=named_small (.inl rfl:segB=segB∨segB=hintB) 1
  rw [specCre_eq hk h1.sz (by omega),o_s]
  simp only [specCode_eq,o_s]
  cases c2:(creM r.1 (namedM segB 1)).2==0 with
  | false=>simp only [n_f,c_t,c_f,c2];rfl
  | true =>
   simp only [n_t,c_f,c_t]
   rw [show ((2,([1],())):Ty.den TLive)=live1 from rfl,specPutLive_eq hk (cre_DR h1 _) hv,o_s]
   simp only [toldM_zero]
   cases c3:(putLiveR live1 (creM r.1 (namedM segB 1)).1).2==0 <;> rfl
def finS (k:Nat) (v:Ty.den TLive) (en:Int) (x:Ty.den TDisk) (hi:Int) (dir:EntryL) (la:Int) (pl:PlaceL):Option (Ty.den TStore × Ty.den TDisk × Int × Unit) :=
 (Option.bind (spec_Regroup.f k (dir,(la,(0,()))) pl) fun r33=>(bif (r33.1.2.2.1 != 0) then (some (zStore,(x,(3,())))) else
 (Option.bind (spec_l11Sweep_g.f k x v) fun r34=>(bif (r34.2.1 != 0) then (some (zStore,r34)) else (some ((v,(r33.1.1,((w64 (r33.1.2.1+1)),(en,(hi,()))))),(r34.1,(0,()))))))))
theorem finS_eq {k:Nat} (hk:2 ^ 50≤k) {v:Ty.den TLive} (hv:v.2.1.length≤60) (en:Int) {x:Ty.den TDisk} (h:DR x) (hi:Int) {dir:EntryL} (hd:dir.length≤1000) (la:Int) {pl:PlaceL} (hp:pl.length≤100000000) :
 finS k v en x hi dir la pl=some (oS (endM v en x (regroupM (dir,(la,(0,()))) pl) hi)):=by
 unfold finS endM
 rw [specRegroup_eq hk _ (by omega) (by show dir.length≤_;omega),o_s]
 simp only [bne]
 cases (regroupM (dir,(la,(0,()))) pl).2.2.1==0 with
 | false=>rfl
 | true =>
  simp only [n_t,c_f]
  rw [specSweep_eq hk h (by omega),o_s]
  simp only [toldM_zero]
  cases (sweepR v.2.1 x).2==0 <;> rfl
theorem specO1 {k:Nat} (hk:2 ^ 50≤k) {v:Ty.den TLive} (hv:v.2.1.length≤60) (en:Int) {x:Ty.den TDisk} (h:DR x) (hi:Int) (dir:EntryL) (la:Int) :
 ∀ (n:Nat) (i:Int) (pl:PlaceL),0≤i→i≤(v.2.1.length:Int)→(v.2.1.length:Int)-i<n→1≤i∧(pl.length:Int)≤100000*i →
 spec_Open_g.l1 k n i [] [] 0 0 0 0 [] 0 0 false [] [] 0 0 0 0 v.2.1 v.1 x.1 x.2.1 x.2.2.1 x.2.2.2.1 [] v.1 0 en hi dir la 0 pl=finS k v en x hi dir la (pl++plAll x (v.2.1.drop i.toNat)):=by
 have hl:=h.sz.l
 have hu:=h.sz.u
 have hn:=h.sz.n
 refine forL (L:=fun n i pl=>spec_Open_g.l1 k n i [] [] 0 0 0 0 [] 0 0 false [] [] 0 0 0 0 v.2.1 v.1 x.1 x.2.1 x.2.2.1 x.2.2.2.1 [] v.1 0 en hi dir la 0 pl) (R:=fun r pl=>finS k v en x hi dir la (pl++plAll x r)) (Ty.dflt (.int .i64)) v.2.1 (fun i pl=>1≤i∧(pl.length:Int)≤100000*i) (fun n pl hp=>?_) (fun n i pl y rest h0 h1 hy hr hp ih=>?_)
 · simp only [spec_Open_g.l1,spec_Open_g.b1]
   rw [decF (by omega),c_f,show plAll x []=[] from rfl,List.append_nil]
   rfl
 · have hs:=segT_size h y
   have hpl:=plOf_len h y
   have ht:=textM_size x (namedM hintB y)
   have ih:=ih (pl++plOf x y) ⟨by omega,by rw [l_a];omega⟩
   simp only [spec_Open_g.l1,spec_Open_g.b1]
   rw [decT h1,c_t,inb_eq h0 h1,hy,specSegName_eq hk,o_s]
   simp only []
   rw [show (x.1,(x.2.1,(x.2.2.1,(x.2.2.2.1,()))))=x from rfl,specText_eq hk (by omega) (by omega) (by omega),o_s,inb_eq h0 h1,specHintName_eq hk,o_s]
   simp only []
   rw [specText_eq hk (by omega) (by omega) (by omega),o_s]
   simp only []
   rw [specReadHint_eq hk (by omega),o_s,show (i==0)=false from q_f (by omega)]
   simp only [c_f]
   rw [inb_eq h0 h1,specPlaces_eq hk y (by show (segT x y).size≤_;omega),o_s]
   simp only []
   rw [rm_ok (by show pl.length+(plOf x y).length≤_;omega) (by decide),w64_eq (n:=i+1) (by omega) (by omega)]
   refine ih.trans ?_
   rw [a_a]
   rfl
theorem specO1_all {k:Nat} (hk:2 ^ 50≤k) {v:Ty.den TLive} (hv:v.2.1.length≤60) (hv1:1≤v.2.1.length) (en:Int) {x:Ty.den TDisk} (h:DR x) :
 spec_Open_g.l1 k k 0 [] [] 0 0 0 0 [] 0 0 false [] [] 0 0 0 0 v.2.1 v.1 x.1 x.2.1 x.2.2.1 x.2.2.2.1 [] v.1 0 en 0 [] 0 0 []=some (oS (endM v en x (groupM x v.2.1) (bif hinted x (v.2.1.getD 0 0) then v.2.1.getD 0 0 else 0))):=by
 have hl:=h.sz.l
 have hu:=h.sz.u
 have hn:=h.sz.n
 obtain ⟨n,hn2⟩:∃ q,k=q+1:=⟨k-1,by omega⟩
 have hs:=segT_size h (v.2.1.getD 0 0)
 have hpl:=plOf_len h (v.2.1.getD 0 0)
 have ht:=textM_size x (namedM hintB (v.2.1.getD 0 0))
 have hpa:=plAll_len h (v.2.1.drop 1)
 have hpb:=plAll_len h v.2.1
 rw [List.length_drop] at hpa
 have hh:=readHint_len (s:=(textM x (namedM hintB (v.2.1.getD 0 0))).1)
 have step:=fun hi dir la pl=>specO1 hk hv en h hi dir la n 1 pl (by omega) (by omega) (by omega)
 refine (congrArg (fun z=>spec_Open_g.l1 k z 0 [] [] 0 0 0 0 [] 0 0 false [] [] 0 0 0 0 v.2.1 v.1 x.1 x.2.1 x.2.2.1 x.2.2.2.1 [] v.1 0 en 0 [] 0 0 []) hn2).trans ?_
 have hsplit:v.2.1=v.2.1.getD 0 0::v.2.1.drop 1:=by
  have:=drop_cons (0:Int) (l:=v.2.1) (i:=0) (by omega)
  rw [List.drop_zero] at this
  exact this
 simp only [spec_Open_g.l1,spec_Open_g.b1]
 rw [decT (by omega),c_t,inb_eq (by omega) (by omega),show List.getD v.2.1 (Int.toNat 0) (Ty.dflt (.int .i64))=v.2.1.getD 0 0 from rfl,specSegName_eq hk,o_s]
 simp only []
 rw [show (x.1,(x.2.1,(x.2.2.1,(x.2.2.2.1,()))))=x from rfl,specText_eq hk (by omega) (by omega) (by omega),o_s,inb_eq (by omega) (by omega),specHintName_eq hk,o_s]
 simp only []
 rw [specText_eq hk (by omega) (by omega) (by omega),o_s]
 simp only []
 rw [specReadHint_eq hk (by omega),o_s,show ((0:Int)==0)=true from rfl]
 simp only [c_t]
 rw [specPlaces_eq hk (v.2.1.getD 0 0) (by show (segT x (v.2.1.getD 0 0)).size≤_;omega),o_s]
 simp only []
 rw [rm_ok (by show ([]:PlaceL).length+(plOf x (v.2.1.getD 0 0)).length≤_;rw [List.length_nil];omega) (by decide),w64_eq (n:=(0:Int)+1) (by omega) (by omega),inb_eq (by omega) (by omega)]
 rw [show List.getD v.2.1 0 (Ty.dflt (.int .i64))=v.2.1.getD 0 0 from rfl]
 rw [specHintFits_eq hk _ (by show (segT x (v.2.1.getD 0 0)).size≤_;omega),o_s]
 simp only []
 have no:spec_Open_g.l1 k n (0+1) [] [] 0 0 0 0 [] 0 0 false [] [] 0 0 0 0 v.2.1 v.1 x.1 x.2.1 x.2.2.1 x.2.2.2.1 [] v.1 0 en 0 [] 0 0 ([]++placesM (v.2.1.getD 0 0) (scanM (textM x (namedM segB (v.2.1.getD 0 0))).1).1)=some (oS (endM v en x (regroupM ([],(0,(0,()))) (plAll x v.2.1)) 0)):=by
  refine (step 0 [] 0 (plOf x (v.2.1.getD 0 0)) ⟨by omega,by omega⟩).trans ?_
  rw [show plOf x (v.2.1.getD 0 0)++plAll x (v.2.1.drop (Int.toNat 1))=plAll x (v.2.1.getD 0 0::v.2.1.drop 1) from rfl,← hsplit]
  exact finS_eq hk hv en h 0 (by simp) 0 (by omega)
 unfold groupM hinted hintAt
 show (bif (textM x (namedM hintB (v.2.1.getD 0 0))).2 then (bif (readHintM (textM x (namedM hintB (v.2.1.getD 0 0))).1).2 then (bif fitsHintM (v.2.1.getD 0 0) (segT x (v.2.1.getD 0 0)) (readHintM (textM x (namedM hintB (v.2.1.getD 0 0))).1).1 then _ else _) else _) else _)=_
 cases (textM x (namedM hintB (v.2.1.getD 0 0))).2 with
 | false=>simp only [c_f,Bool.false_and];rw [inb_eq (by omega) (by omega)];exact no
 | true =>
  cases (readHintM (textM x (namedM hintB (v.2.1.getD 0 0))).1).2 with
  | false=>simp only [c_f,c_t,Bool.false_and,Bool.true_and];rw [inb_eq (by omega) (by omega)];exact no
  | true =>
   cases fitsHintM (v.2.1.getD 0 0) (segT x (v.2.1.getD 0 0)) (readHintM (textM x (namedM hintB (v.2.1.getD 0 0))).1).1 with
   | false=>simp only [c_f,c_t,Bool.true_and];rw [inb_eq (by omega) (by omega)];exact no
   | true =>
    simp only [c_t,Bool.true_and]
    rw [inb_eq (by omega) (by omega)]
    refine (step (v.2.1.getD 0 0) (readHintM (textM x (namedM hintB (v.2.1.getD 0 0))).1).1.2.2.1 (readHintM (textM x (namedM hintB (v.2.1.getD 0 0))).1).1.2.1 [] ⟨by omega,by simp⟩).trans ?_
    rw [List.nil_append,show (1:Int).toNat=1 from rfl]
    exact finS_eq hk hv en h _ (by omega) _ (by omega)
theorem specO12 (k:Nat):∀ n,spec_Open_g.l2 k n=spec_Open_g.l1 k n
 | 0=>rfl
 | n+1=>by show spec_Open_g.b2 k (spec_Open_g.l2 k n)=spec_Open_g.b1 k (spec_Open_g.l1 k n);rw [specO12 k n];rfl
theorem specO0 {k:Nat} (hk:2 ^ 50≤k) {v:Ty.den TLive} (hv:liveM v=true) {d:Ty.den TDisk} (h:DR d) :
 spec_Open_g.l0 k k (lastI v.2.1) 0 d.1 d.2.1 d.2.2.1 d.2.2.2.1 [] [] 0 0 0 0 [] 0 0 false [] [] 0 0 0 0 v.2.1 v.1=some (oS (foundM v d)):=by
 obtain ⟨_,_,hv1,hv2,_⟩:=live_facts (nx:=v.1) (ids:=v.2.1) hv
 have hrise:=live_rise hv
 have hl:=h.sz.l
 have hu:=h.sz.u
 have hn:=h.sz.n
 have hs:=segT_size h (lastI v.2.1)
 have hsc:=scanM_len (segT d (lastI v.2.1))
 have hfin:∀ n:Nat,spec_Open_g.l0 k (n+1) (lastI v.2.1) (v.2.1.length:Int) d.1 d.2.1 d.2.2.1 d.2.2.2.1 [] [] 0 0 0 0 [] 0 0 false [] [] 0 0 0 0 v.2.1 v.1 =
  some (oS (bif (fixR (lastI v.2.1) d).2 != 0 then (zStore,((fixR (lastI v.2.1) d).1,toldM (fixR (lastI v.2.1) d).2)) else endM v (scanM (segT d (lastI v.2.1))).2 (fixR (lastI v.2.1) d).1 (groupM (fixR (lastI v.2.1) d).1 v.2.1) (bif hinted (fixR (lastI v.2.1) d).1 (v.2.1.getD 0 0) then v.2.1.getD 0 0 else 0))):=fun n=>by
  simp only [spec_Open_g.l0,spec_Open_g.b0]
  rw [decF (by omega),c_f,specSegName_eq hk,o_s]
  simp only []
  rw [show (d.1,(d.2.1,(d.2.2.1,(d.2.2.2.1,()))))=d from rfl,specText_eq hk (by omega) (by omega) (by omega),o_s]
  simp only [show (textM d (namedM segB (lastI v.2.1))).1=segT d (lastI v.2.1) from rfl]
  rw [specScan_eq hk (by omega),o_s,specCopyD_eq k h.sz,o_s,specO12]
  simp only []
  show (bif decide ((scanM (segT d (lastI v.2.1))).2<((segT d (lastI v.2.1)).size:Int)) then _ else _)=_
  unfold fixR
  cases decide ((scanM (segT d (lastI v.2.1))).2<((segT d (lastI v.2.1)).size:Int)) with
  | true =>
   simp only [c_t]
   simp only [o_s]
   rw [specTru_eq hk h.sz,o_s]
   simp only [specCode_eq,o_s]
   unfold seqR
   simp only [bne]
   show (bif !((truM d (namedM segB (lastI v.2.1)) (scanM (segT d (lastI v.2.1))).2).2==0) then _ else _)=_
   have h1:=tru_DR h (namedM segB (lastI v.2.1)) (scanM (segT d (lastI v.2.1))).2
   generalize truM d (namedM segB (lastI v.2.1)) (scanM (segT d (lastI v.2.1))).2=r at h1
   cases c:r.2==0 with
   | false=>simp only [n_f,c_t,c_f,c];rfl
   | true =>
    simp only [n_t,c_f,c_t]
    rw [specSyn_eq hk h1.sz,o_s]
    simp only []
    have h2:=syn_DR h1 (namedM segB (lastI v.2.1))
    generalize synM r.1 (namedM segB (lastI v.2.1))=q at h2
    cases c2:q.2==0 with
    | false=>rfl
    | true =>
     simp only [n_t,c_f]
     exact specO1_all hk hv2 hv1 _ h2
  | false =>
   simp only [c_f]
   simp only [o_s]
   rw [specSyn_eq hk h.sz,o_s]
   simp only [specCode_eq,o_s]
   unfold seqR
   simp only [bne,show ((0:Int)==0)=true from rfl,c_t]
   have h2:=syn_DR h (namedM segB (lastI v.2.1))
   generalize synM d (namedM segB (lastI v.2.1))=q at h2
   cases c2:q.2==0 with
   | false=>rfl
   | true =>
    simp only [n_t,c_f]
    exact specO1_all hk hv2 hv1 _ h2
 unfold foundM
 refine (forL0 (L:=fun n i (_:Unit)=>spec_Open_g.l0 k n (lastI v.2.1) i d.1 d.2.1 d.2.2.1 d.2.2.2.1 [] [] 0 0 0 0 [] 0 0 false [] [] 0 0 0 0 v.2.1 v.1) (R:=fun r _=>bif segsGood d r then some (oS (bif (fixR (lastI v.2.1) d).2 != 0 then (zStore,((fixR (lastI v.2.1) d).1,toldM (fixR (lastI v.2.1) d).2)) else endM v (scanM (segT d (lastI v.2.1))).2 (fixR (lastI v.2.1) d).1 (groupM (fixR (lastI v.2.1) d).1 v.2.1) (bif hinted (fixR (lastI v.2.1) d).1 (v.2.1.getD 0 0) then v.2.1.getD 0 0 else 0))) else some (oS (zStore,(d,3)))) (Ty.dflt (.int .i64)) v.2.1 (fun _ _=>True) (fun n _ _=>hfin n) (fun n i _ y rest h0 h1 hy hr hp ih=>?_) (n:=k) (s:=()) (by omega) trivial).trans (by cases segsGood d v.2.1 <;> rfl)
 have ih:=ih () trivial
 have hsy:=segT_size h y
 have hlast:=last_is hrise hr
 simp only [spec_Open_g.l0,spec_Open_g.b0]
 rw [decT h1,c_t,inb_eq h0 h1,hy,specSegName_eq hk,o_s]
 simp only []
 rw [show (d.1,(d.2.1,(d.2.2.1,(d.2.2.2.1,()))))=d from rfl,specText_eq hk (by omega) (by omega) (by omega),o_s]
 simp only []
 rw [specScan_eq hk (by show (segT d y).size≤_;omega),o_s,specCopyD_eq k h.sz,o_s,inb_eq h0 h1,w64_eq (n:=i+1) (by omega) (by omega),ih]
 rw [show segsGood d (y::rest)=(segGood d y rest.isEmpty&&segsGood d rest) from rfl]
 unfold segGood bne
 rw [hlast]
 show (bif !(textM d (namedM segB y)).2 then _ else bif !rest.isEmpty then (bif decide ((scanM (segT d y)).2<((segT d y).size:Int)) then _ else _) else _)=_
 cases (textM d (namedM segB y)).2 with
 | false=>rfl
 | true =>
  cases rest.isEmpty with
  | true=>rfl
  | false=>cases decide ((scanM (segT d y)).2<((segT d y).size:Int)) <;> rfl
theorem specOpen_eq {k:Nat} (hk:2 ^ 50≤k) {d:Ty.den TDisk} (hd:DSz d):spec_Open_g.f k d=some (oS (openM d)):=by
 have hl:=hd.l
 have hu:=hd.u
 have hn:=hd.n
 unfold spec_Open_g.f spec_Open_g.t openM
 rw [specDisk_eq hk (by omega) (by omega),o_s,specCopyD_eq k hd]
 cases c:diskM d with
 | false=>rfl
 | true =>
  have h:=disk_iff.1 c
  simp only [n_t,c_f,o_s]
  cases cdn:d.2.2.2.1 with
  | true=>rfl
  | false =>
   simp only [c_f]
   rw [show (⟨#[108,105,118,101]⟩:ByteArray)=liveB from rfl,specText_eq hk (by omega) (by omega) (by omega),o_s]
   simp only []
   cases (textM d liveB).2 with
   | false =>
    simp only [n_f,c_t]
    rw [specFirst_eq hk h]
    rfl
   | true =>
    have hz:=textM_size d liveB
    simp only [n_t,c_f]
    rw [specReadLive_eq hk (by omega),o_s]
    simp only []
    rcases undo_cases (fun v=>liveM v=true) showLiveM ((0,([],())):Ty.den TLive) (textM d liveB).1 with ⟨v,h1,_,e⟩ | e
    · rw [show readLiveM (textM d liveB).1=(v,true) from e]
      simp only [n_t,c_f]
      obtain ⟨_,_,hv1,hv2,_⟩:=live_facts (nx:=v.1) (ids:=v.2.1) h1
      have w:w64 ((v.2.1.length:Int)-1)=((v.2.1.length-1:Nat):Int):=by rw [w64_eq (by omega) (by omega)];omega
      rw [w,n_n,inb_eq (by omega) (by omega)]
      have:=specO0 hk h1 h
      rw [cdn] at this
      exact this
    · rw [show readLiveM (textM d liveB).1=((0,([],())),false) from e]
      rfl
end Go.Proofs.YtmakghhmpgfboaaGreat.G
namespace Go.Proofs.YtmakghhmpgfboaaGreat.G
open Go.V
theorem end_facts (v:Ty.den TLive) (en:Int) {x:Ty.den TDisk} (h:DR x) {g:Ty.den TGroup} (hg:g.1.length≤268435456) (hi:Int):DR (endM v en x g hi).2.1∧(endM v en x g hi).1.2.1.length≤268435456:=by
 have hs:=sweep_DR v.2.1 x h
 unfold endM
 cases g.2.2.1 != 0 with
 | true=>exact ⟨h,Nat.zero_le _⟩
 | false =>
  cases (sweepR v.2.1 x).2 != 0 with
  | true=>exact ⟨hs,Nat.zero_le _⟩
  | false=>exact ⟨hs,hg⟩
theorem group_len {x:Ty.den TDisk} (h:DR x) {ids:List Int} (hl:ids.length≤60):(groupM x ids).1.length≤268435456:=by
 have hpa:=plAll_len h (ids.drop 1)
 have hpb:=plAll_len h ids
 rw [List.length_drop] at hpa
 have hh:=readHint_len (s:=(textM x (namedM hintB (ids.getD 0 0))).1)
 unfold groupM
 cases hinted x (ids.getD 0 0)
 · exact regroupM_len (by omega) (by simp)
 · exact regroupM_len (by omega) (by show (hintAt x (ids.getD 0 0)).2.2.1.length≤_;unfold hintAt;omega)
theorem open_facts {d:Ty.den TDisk} (h:DR d):DR (openM d).2.1∧(openM d).1.2.1.length≤268435456:=by
 unfold openM
 rw [disk_iff.2 h]
 simp only [n_t,c_f]
 cases d.2.2.2.1 with
 | true=>exact ⟨h,Nat.zero_le _⟩
 | false =>
  simp only [c_f]
  cases (textM d liveB).2 with
  | false =>
   simp only [n_f,c_t]
   have hf:DR (firstR d).1:=seqR_DR (seqR_DR (sweep_DR [] d h) fun x hx=>cre_DR hx _) (putLive_DR live1)
   unfold firstM
   cases (firstR d).2==0 with
   | true=>exact ⟨hf,Nat.zero_le _⟩
   | false=>exact ⟨hf,Nat.zero_le _⟩
  | true =>
   simp only [n_t,c_f]
   rcases undo_cases (fun v=>liveM v=true) showLiveM ((0,([],())):Ty.den TLive) (textM d liveB).1 with ⟨v,h1,_,e⟩ | e
   · rw [show readLiveM (textM d liveB).1=(v,true) from e]
     obtain ⟨_,_,hv1,hv2,_⟩:=live_facts (nx:=v.1) (ids:=v.2.1) h1
     simp only [n_t,c_f]
     have fx:=fix_DR (lastI v.2.1) h
     unfold foundM
     cases segsGood d v.2.1 with
     | false=>exact ⟨h,Nat.zero_le _⟩
     | true =>
      simp only [n_t,c_f]
      cases (fixR (lastI v.2.1) d).2 != 0 with
      | true=>exact ⟨fx,Nat.zero_le _⟩
      | false=>exact end_facts v _ fx (group_len fx hv2) _
   · rw [show readLiveM (textM d liveB).1=((0,([],())),false) from e]
     exact ⟨h,Nat.zero_le _⟩
noncomputable def engOf (q:Ty.den TStore × RD):Ty.den TEngine:=((q.2.2==0),(q.1,(q.2.1,(List.replicate 3 (Ty.dflt TTxn),()))))
theorem specEngNew_eq {k:Nat} (hk:2 ^ 50≤k) {d:Ty.den TDisk} (hd:DSz d):spec_EngineNew_g.f k d=some (engOf (openM d),((openM d).2.2,())):=by
 unfold spec_EngineNew_g.f spec_EngineNew_g.t
 rw [specOpen_eq hk hd,o_s,mks_ok (by omega) (by omega) (by decide)]
 rfl
end Go.Proofs.YtmakghhmpgfboaaGreat.G
namespace Go.Proofs.YtmakghhmpgfboaaGreat.G
open Go.V
theorem specNewR_eq (k:Nat) {n:Int} (h0:0≤n) (h1:n≤100000):spec_DiskNew.f k n=some (([],(n,(-1,(false,())))),()):=by
 unfold spec_DiskNew.f spec_DiskNew.t
 rw [l1InD_eq,o_s,decT ⟨h0,h1⟩]
 rfl
def newD (n:Int):Ty.den TDisk:=([],(n,(-1,(false,()))))
theorem newD_DR {n:Int} (h0:0≤n) (h1:n≤100000):DR (newD n) :=
 ⟨Nat.zero_le _,h0,h1,show LE.le (α:=Int) (-1) (-1) from Int.le_refl _,show LE.le (α:=Int) (-1) 100000 by decide,h0,fun f hf=>(by cases hf),List.Pairwise.nil⟩
theorem write_keep {st:Ty.den TStore} {d:Ty.den TDisk} {l:PutL} (h:SR st (d,0) 100000) (hp:putsOk l=true) (hd:st.2.1.length≤20) :
 DR (writeR st d l).2.1∧(writeR st d l).1.1.2.1.length≤60∧(writeR st d l).1.2.1.length≤268435456:=by
 have h8:=putsOk_len hp
 obtain ⟨g1,g2,g3⟩:=adds_facts (recsM l st.2.2.1) (batS st) d [] 100000 ⟨h.live,h.disk,h.lo,h.hi⟩ (by decide)
 unfold writeR
 generalize addsR (recsM l st.2.2.1) (batS st) d []=q at g1 g2 g3 ⊢
 have e2:q.1.1.2.1=st.2.1:=g2
 obtain ⟨_,_,_,hi,_⟩:=live_facts (nx:=q.1.1.1.1) (ids:=q.1.1.1.2.1) g1.live
 have hs:=syn_DR g1.disk (actB q.1.1)
 unfold endR
 cases q.1.2.2 != 0 with
 | true=>exact ⟨g1.disk,hi,by show q.1.1.2.1.length≤_;rw [e2];omega⟩
 | false =>
  simp only [c_f]
  generalize synM q.1.2.1 (actB q.1.1)=y at hs ⊢
  cases y.2 != 0 with
  | true=>exact ⟨hs,hi,by show q.1.1.2.1.length≤_;rw [e2];omega⟩
  | false =>
   refine ⟨hs,hi,?_⟩
   show (applyM q.1.1.2.1 (q.2.take l.length)).length≤_
   have:=applyM_len (q.2.take l.length) q.1.1.2.1
   rw [e2] at this ⊢
   rw [List.length_take] at this
   omega
theorem commit_keep {st:Ty.den TStore} {d:Ty.den TDisk} (l:PutL) (hd:DR d) (h1:st.1.2.1.length≤60) (h2:st.2.1.length≤268435456) :
 DR (commitM st d l).2.1∧(commitM st d l).1.1.2.1.length≤60∧(commitM st d l).1.2.1.length≤268435456:=by
 unfold commitM
 cases c1:storeM st d with
 | false=>exact ⟨hd,h1,h2⟩
 | true =>
  simp only [n_t,c_f]
  cases c2:putsOk l with
  | false=>exact ⟨hd,h1,h2⟩
  | true =>
   simp only [n_t,c_f]
   cases (l.length:Int)==0 with
   | true=>exact ⟨hd,h1,h2⟩
   | false =>
    cases decide (afterM st.2.1 l > 20) with
    | true=>exact ⟨hd,h1,h2⟩
    | false =>
     cases decide (st.2.2.1 > (1000000:Int)) with
     | true=>exact ⟨hd,h1,h2⟩
     | false=>exact write_keep (store_facts c1).1 c2 (store_facts c1).2.1
end Go.Proofs.YtmakghhmpgfboaaGreat.G
namespace Go.Proofs.YtmakghhmpgfboaaGreat.G
open Go.V
def LNon (l:EntryL):Prop:=∀ e ∈ l,LE.le (α:=Int) 0 e.2.2.2.1
structure IV (q:Ty.den TStore × RD):Prop where
 disk:DR q.2.1
 ids:q.1.1.2.1.length≤60
 dir:q.1.2.1.length≤268435456
 non:LNon q.1.2.1
 sum:lensM q.1.2.1≤(segS q.2.1 q.1.1.2.1:Int)
end Go.Proofs.YtmakghhmpgfboaaGreat.G
namespace Go.Proofs.YtmakghhmpgfboaaGreat.G
open Go.V
def mergedM (l:PairL) (mark:Int):Int:=((framesM (keepsM l mark)).size:Int)
theorem frames_cons (r:Ty.den TRec) (l:RecL):(framesM (r::l)).size=(frameM (showRec r)).size+(framesM l).size:=by rw [framesM,ByteArray.size_append]
end Go.Proofs.YtmakghhmpgfboaaGreat.G
namespace Go.Proofs.YtmakghhmpgfboaaGreat.G
open Go.V
def wrR (nm:ByteArray):RecL→RD→RD
 | [],r=>r
 | x::l,r=>wrR nm l (seqR r fun y=>appM y nm (frameM (showRec x)))
def wroteR (m:Int) (l:PairL) (mark:Int) (d:Ty.den TDisk):RD:=seqR (wrR (namedM segB m) (keepsM l mark) (freshR (namedM segB m) d)) fun y=>synM y (namedM segB m)
def entsM (m:Int):PairL→Int→EntryL
 | [],_=>[]
 | p::l,at_=>(p.1,(m,(at_,(recLen (keepR p),(p.2.2.1,())))))::entsM m l (at_+recLen (keepR p))
def dropsN (ns:List ByteArray) (r:RD):RD:=bif r.2==2 then ((dropsR ns r.1).1,bif (dropsR ns r.1).2==0 then 2 else toldM (dropsR ns r.1).2) else r
def failNs (m:Int):List ByteArray:=[tempB,namedM segB m,namedM segB (m+1),namedM hintB m]
def oldR:List Int→Ty.den TDisk→RD
 | [],d=>(d,0)
 | x::l,d=>seqR (dropsR [namedM segB x,namedM hintB x] d) (oldR l)
def jumpS (st:Ty.den TStore):Ty.den TStore:=((st.1.1+2,st.1.2),st.2)
def live2 (m:Int):Ty.den TLive:=(m+2,([m,m+1],()))
def hintR (hb:ByteArray→ByteArray) (m:Int) (d:Ty.den TDisk):RD :=
 bif (fileR (namedM hintB m) (hb (textM d (namedM segB m)).1) d).2==2 then dropsR [namedM hintB m] (fileR (namedM hintB m) (hb (textM d (namedM segB m)).1) d).1 else fileR (namedM hintB m) (hb (textM d (namedM segB m)).1) d
def mergedR (hb:ByteArray→ByteArray) (st:Ty.den TStore) (d:Ty.den TDisk) (l:PairL):Ty.den TStore × RD :=
 bif (wroteR st.1.1 l (st.2.2.1-1) d).2 != 0 then (jumpS st,dropsN (failNs st.1.1) (tl (wroteR st.1.1 l (st.2.2.1-1) d))) else
 bif (freshR (namedM segB (st.1.1+1)) (wroteR st.1.1 l (st.2.2.1-1) d).1).2 != 0 then (jumpS st,dropsN (failNs st.1.1) (tl (freshR (namedM segB (st.1.1+1)) (wroteR st.1.1 l (st.2.2.1-1) d).1))) else
 bif (hintR hb st.1.1 (freshR (namedM segB (st.1.1+1)) (wroteR st.1.1 l (st.2.2.1-1) d).1).1).2 != 0 then (jumpS st,tl (hintR hb st.1.1 (freshR (namedM segB (st.1.1+1)) (wroteR st.1.1 l (st.2.2.1-1) d).1).1)) else
 bif (putLiveR (live2 st.1.1) (hintR hb st.1.1 (freshR (namedM segB (st.1.1+1)) (wroteR st.1.1 l (st.2.2.1-1) d).1).1).1).2 != 0 then
  (jumpS st,dropsN (failNs st.1.1) (tl (putLiveR (live2 st.1.1) (hintR hb st.1.1 (freshR (namedM segB (st.1.1+1)) (wroteR st.1.1 l (st.2.2.1-1) d).1).1).1))) else
 ((live2 st.1.1,(entsM st.1.1 l 0,(st.2.2.1,(0,(0,()))))),tl (oldR st.1.2.1 (putLiveR (live2 st.1.1) (hintR hb st.1.1 (freshR (namedM segB (st.1.1+1)) (wroteR st.1.1 l (st.2.2.1-1) d).1).1).1).1))
theorem fresh_own {s:ByteArray} {d:Ty.den TDisk} (h:(freshR s d).2=0):fT (freshR s d).1 s=some ByteArray.empty:=by
 unfold freshR at h ⊢
 unfold seqR at h ⊢
 cases c:(goneR s d).2==0 with
 | false =>
  rw [c,c_f] at h
  rw [h] at c
  cases c
 | true =>
  rw [c,c_t] at h
  rw [c_t]
  obtain ⟨c1,c2⟩:=step_zero (d:=(goneR s d).1) (g:=creG s) h
  unfold fT
  show (getM (stepM (goneR s d).1 (creG s)).1.1 s).map _=_
  rw [c2]
  unfold creG at c1 ⊢
  cases c3:nameM s with
  | false=>rw [c3] at c1;cases c1
  | true =>
   rw [c3] at c1
   simp only [n_t,c_f] at c1 ⊢
   cases c4:(getM (goneR s d).1.1 s) with
   | some f=>rw [c4] at c1;cases c1
   | none =>
    rw [c4] at c1
    simp only [Option.isSome_none,c_f] at c1 ⊢
    cases c5:decide (((goneR s d).1.1.length:Int)≥130) with
    | true=>rw [c5] at c1;cases c1
    | false =>
     simp only [c_f]
     rw [get_ins (f:=(s,(ByteArray.empty,(0,())))) c4,seq_refl]
     rfl
theorem wr_bad (nm:ByteArray):∀ (l:RecL) (r:RD),r.2≠0→wrR nm l r=r
 | [],_,_=>rfl
 | x::l,r,h=>by
  unfold wrR
  have e:seqR r (fun y=>appM y nm (frameM (showRec x)))=r:=by
   unfold seqR
   rw [q_f h]
   rfl
  rw [e]
  exact wr_bad nm l r h
theorem wr_own (nm:ByteArray):∀ (l:RecL) (r:RD) (x:ByteArray),fT r.1 nm=some x→(wrR nm l r).2=0→fT (wrR nm l r).1 nm=some (x++framesM l)
 | [],r,x,h,_=>by
  show fT r.1 nm=some (x++⟨#[]⟩)
  rw [h,show x++(⟨#[]⟩:ByteArray)=x from ba_end x]
 | a::l,r,x,h,z=>by
  unfold wrR at z ⊢
  by_cases c:(seqR r (fun y=>appM y nm (frameM (showRec a)))).2=0
  · obtain ⟨c1,c2,c3⟩:=seqR_zero c
    have c3:(appM r.1 nm (frameM (showRec a))).2=0:=c3
    have e:fT (seqR r (fun y=>appM y nm (frameM (showRec a)))).1 nm=some (x++frameM (showRec a)):=by
     rw [c2]
     have:=app_own (d:=r.1) (s:=nm) (x:=frameM (showRec a))
     rw [c3,h] at this
     exact this
    rw [wr_own nm l _ _ e z]
    show some (x++frameM (showRec a)++framesM l)=some (x++(frameM (showRec a)++framesM l))
    rw [ba_assoc]
  · rw [wr_bad nm l _ c] at z
    exact absurd z c
theorem wr_fT {nm t:ByteArray} (h:nm≠t):∀ (l:RecL) (r:RD),fT (wrR nm l r).1 t=fT r.1 t
 | [],_=>rfl
 | a::l,r=>by
  show fT (wrR nm l (seqR r fun y=>appM y nm (frameM (showRec a)))).1 t=_
  rw [wr_fT h l]
  exact seqR_fT rfl fun y=>app_fT h
theorem wrote_fT {m:Int} {l:PairL} {mark:Int} {d:Ty.den TDisk} {t:ByteArray} (h:namedM segB m≠t):fT (wroteR m l mark d).1 t=fT d t :=
 seqR_fT ((wr_fT h _ _).trans (fresh_fT h)) fun y=>syn_fT
theorem hint_fT {hb:ByteArray→ByteArray} {m:Int} {d:Ty.den TDisk} {t:ByteArray} (h:namedM hintB m≠t):fT (hintR hb m d).1 t=fT d t:=by
 unfold hintR
 cases (fileR (namedM hintB m) (hb (textM d (namedM segB m)).1) d).2==2 with
 | false=>exact file_fT h
 | true =>
  refine (drops_fT _ _ fun s hs=>?_).trans (file_fT h)
  rw [List.mem_singleton.1 hs]
  exact h
theorem old_fT {t:ByteArray}:∀ (l:List Int) (d:Ty.den TDisk),(∀ x ∈ l,namedM segB x≠t∧namedM hintB x≠t)→fT (oldR l d).1 t=fT d t
 | [],_,_=>rfl
 | x::l,d,h=>by
  show fT (seqR (dropsR [namedM segB x,namedM hintB x] d) (oldR l)).1 t=_
  refine seqR_fT (drops_fT _ _ fun s hs=>?_) fun y=>old_fT l y fun z hz=>h z (m_m _ hz)
  have:=h x m_s
  rcases List.mem_cons.1 hs with e | e
  · rw [e];exact this.1
  · rw [List.mem_singleton.1 e];exact this.2
theorem ents_lens (m:Int):∀ (l:PairL) (a:Int),lensM (entsM m l a)=((framesM (l.map keepR)).size:Int)∧LNon (entsM m l a)
 | [],_=>⟨rfl,fun x hx=>by cases hx⟩
 | p::l,a=>by
  obtain ⟨i1,i2⟩:=ents_lens m l (a+recLen (keepR p))
  have hr:=recLen_in (keepR p)
  refine ⟨?_,fun x hx=>?_⟩
  · show recLen (keepR p)+lensM (entsM m l (a+recLen (keepR p)))=_
    rw [i1,List.map_cons,frames_cons]
    unfold recLen
    omega
  · rcases List.mem_cons.1 hx with e | e
    · rw [e];exact hr.1
    · exact i2 x e
end Go.Proofs.YtmakghhmpgfboaaGreat.G
namespace Go.Proofs.YtmakghhmpgfboaaGreat.G
open Go.V
theorem hint_seg {x y:Int} (hx:1≤x∧x≤100000) (hy:1≤y∧y≤100000):namedM hintB x≠namedM segB y:=fun q=>by
 have e:namedM hintB x=hintB++decB x:=by unfold namedM;rw [decT hx];rfl
 rw [seg_form hy,e] at q
 have:=congrArg nb q
 rw [nb_app,nb_app] at this
 cases this
theorem varB_one {n:Int} (h0:0≤n) (h1:n≤127):(varB n).size=1:=by
 unfold varB
 rw [if_pos ⟨h0,by omega⟩,← varT_len (by omega)]
 unfold vl
 rw [if_neg (by omega)]
 rfl
theorem varB_three {n:Int} (h0:0≤n) (h1:n≤2097151):(varB n).size≤3:=by
 unfold varB
 rw [if_pos ⟨h0,by omega⟩,← varT_len (by omega)]
 unfold vl
 split
 · rw [l_c]
   unfold vl
   split
   · rw [l_c]
     unfold vl
     rw [if_neg (by omega)]
     exact Nat.le_refl _
   · show 1+1≤3
     decide
 · show 1≤3
   decide
theorem mark_len (mark:Int) (l:RecL):recLen (sealR 5 mark l)≤20:=by
 have key:(showRec (sealR 5 mark l)).size≤9:=by
  unfold showRec
  by_cases c:recOk (sealR 5 mark l)=true
  · rw [if_pos c]
    rcases recOk_cases c with ⟨q,_⟩ | ⟨q,_⟩ | ⟨_,_,_,h1,h2,_,_,h3,h4⟩
    · exact absurd q (by show ¬ ((5:Int)=1∨(5:Int)=4);decide)
    · exact absurd q (by show ¬ ((5:Int)=2);decide)
    · rw [if_neg (by show ¬ ((5:Int)=1∨(5:Int)=4);decide),if_neg (by show ¬ ((5:Int)=2);decide),ByteArray.size_append,ByteArray.size_append,ByteArray.size_append,fix4_size]
      have e1:(varB (sealR 5 mark l).1).size=1:=varB_one (n:=5) (by decide) (by decide)
      have e2:=varB_three (n:=(sealR 5 mark l).2.1) h3 (Int.le_trans h4 (by decide))
      have e3:=varB_one (n:=(sealR 5 mark l).2.2.2.2.1) h1 (Int.le_trans h2 (by decide))
      omega
  · rw [if_neg c]
    exact Nat.zero_le _
 unfold recLen frameM
 rw [if_neg (by omega),ByteArray.size_append,fix4_size]
 unfold textB
 rw [ByteArray.size_append,varB_one (by omega) (by omega)]
 omega
theorem ents_len (m:Int):∀ (l:PairL) (a:Int),(entsM m l a).length=l.length
 | [],_=>rfl
 | p::l,a=>by
  show (entsM m l (a+recLen (keepR p))).length+1=_
  rw [ents_len m l]
  rfl
theorem merged_IV {hb:ByteArray→ByteArray} {st:Ty.den TStore} {d:Ty.den TDisk} {c:Int} {l:PairL} (h:IV (st,(d,c))) (hl:liveM st.1=true) (hn:LE.le (α:=Int) (st.1.1+2) 100000) (hlen:l.length≤268435456) :
 IV (mergedR hb st d l)∧((mergedR hb st d l).2.2=0→(segS (mergedR hb st d l).2.1 (mergedR hb st d l).1.1.2.1:Int)=mergedM l (st.2.2.1-1)∧(segS (mergedR hb st d l).2.1 (mergedR hb st d l).1.1.2.1:Int)-lensM (mergedR hb st d l).1.2.1≤20):=by
 obtain ⟨n1,n2,n3,_⟩:=live_ids (n:=st.1.1) (ids:=st.1.2.1) hl
 have hd:DR d:=h.disk
 have hsum:lensM st.2.1≤(segS d st.1.2.1:Int):=h.sum
 have hm:(1:Int)≤st.1.1∧st.1.1≤(100000:Int):=⟨n1,n2⟩
 have hm1:LE.le (α:=Int) 1 (st.1.1+1)∧LE.le (α:=Int) (st.1.1+1) 100000:=⟨by omega,by omega⟩
 have hseg:∀ x:Int,x ∈ st.1.2.1→1≤x∧x≤100000:=fun x hx=>⟨(n3 x hx).1,by have:=(n3 x hx).2;omega⟩
 have no1:∀ x ∈ st.1.2.1,namedM segB st.1.1≠namedM segB x:=fun x hx=>seg_ne hm (hseg x hx) (by have:=(n3 x hx).2;omega)
 have no2:∀ x ∈ st.1.2.1,namedM segB (st.1.1+1)≠namedM segB x:=fun x hx=>seg_ne hm1 (hseg x hx) (by have:=(n3 x hx).2;omega)
 have no3:∀ x ∈ st.1.2.1,namedM hintB st.1.1≠namedM segB x:=fun x hx=>hint_seg hm (hseg x hx)
 have no4:namedM segB (st.1.1+1)≠namedM segB st.1.1:=seg_ne hm1 hm (by omega)
 have jump:∀ r:RD,DR r.1→(∀ x ∈ st.1.2.1,fT r.1 (namedM segB x)=fT d (namedM segB x))→IV (jumpS st,r):=fun r hr k=>⟨hr,h.ids,h.dir,h.non,by
  show lensM st.2.1≤(segS r.1 st.1.2.1:Int)
  rw [segS_keep k]
  exact hsum⟩
 have dropK:∀ (r:RD),DR r.1→(∀ x ∈ st.1.2.1,fT r.1 (namedM segB x)=fT d (namedM segB x))→r.2≠0→IV (jumpS st,dropsN (failNs st.1.1) r)∧(dropsN (failNs st.1.1) r).2≠0:=fun r hr k hz=>by
  unfold dropsN
  cases r.2==2 with
  | false=>exact ⟨jump r hr k,hz⟩
  | true =>
   refine ⟨jump _ (drops_DR _ _ hr) fun x hx=>(drops_fT _ _ fun s hs=>?_).trans (k x hx),?_⟩
   · unfold failNs at hs
     rcases List.mem_cons.1 hs with e | e
     · rw [e];exact seg_temp (hseg x hx)
     rcases List.mem_cons.1 e with e | e
     · rw [e];exact no1 x hx
     rcases List.mem_cons.1 e with e | e
     · rw [e];exact no2 x hx
     · rw [List.mem_singleton.1 e];exact no3 x hx
   · show (bif (dropsR (failNs st.1.1) r.1).2==0 then (2:Int) else toldM (dropsR (failNs st.1.1) r.1).2)≠0
     cases q:(dropsR (failNs st.1.1) r.1).2==0 with
     | true =>
      show (2:Int)≠0
      decide
     | false =>
      intro e
      have:=toldM_zero (dropsR (failNs st.1.1) r.1).2
      rw [q] at this
      simp only [c_f] at e
      rw [e] at this
      cases this
 have tlnz:∀ r:RD,(r.2 != 0)=true→(tl r).2≠0:=fun r q e=>by
  have:=tl_ne r
  rw [e,q] at this
  cases this
 have a0:DR (wroteR st.1.1 l (st.2.2.1-1) d).1:=by
  refine seqR_DR ?_ fun x hx=>syn_DR hx _
  have:∀ (rs:RecL) (r:RD),DR r.1→DR (wrR (namedM segB st.1.1) rs r).1:=by
   intro rs
   induction rs with
   | nil=>exact fun r hr=>hr
   | cons x rs ih=>exact fun r hr=>ih _ (seqR_DR hr fun y hy=>app_DR hy _ _)
  exact this _ _ (fresh_DR _ _ hd)
 have a1:∀ x ∈ st.1.2.1,fT (wroteR st.1.1 l (st.2.2.1-1) d).1 (namedM segB x)=fT d (namedM segB x):=fun x hx=>wrote_fT (no1 x hx)
 have a2:(wroteR st.1.1 l (st.2.2.1-1) d).2=0→fT (wroteR st.1.1 l (st.2.2.1-1) d).1 (namedM segB st.1.1)=some (framesM (keepsM l (st.2.2.1-1))):=fun z=>by
  unfold wroteR at z ⊢
  obtain ⟨z1,z2,_⟩:=seqR_zero z
  rw [z2]
  rw [syn_fT]
  have z0:(freshR (namedM segB st.1.1) d).2=0:=by
   by_cases w:(freshR (namedM segB st.1.1) d).2=0
   · exact w
   · rw [wr_bad _ _ _ w] at z1
     exact absurd z1 w
  have:=wr_own (namedM segB st.1.1) (keepsM l (st.2.2.1-1)) (freshR (namedM segB st.1.1) d) ByteArray.empty (fresh_own z0) z1
  rw [this,show (ByteArray.empty:ByteArray)=dB [] from rfl,ba_nil]
 unfold mergedR
 generalize wroteR st.1.1 l (st.2.2.1-1) d=a at a0 a1 a2 ⊢
 cases ca:a.2 != 0 with
 | true =>
  obtain ⟨g1,g2⟩:=dropK (tl a) a0 a1 (tlnz a ca)
  exact ⟨g1,fun e=>absurd e g2⟩
 | false =>
  have b0:=fresh_DR (namedM segB (st.1.1+1)) a.1 a0
  have b1:∀ x ∈ st.1.2.1,fT (freshR (namedM segB (st.1.1+1)) a.1).1 (namedM segB x)=fT d (namedM segB x):=fun x hx=>(fresh_fT (no2 x hx)).trans (a1 x hx)
  have b2:=(fresh_fT (d:=a.1) no4).trans (a2 (zero_ne ca))
  have b3:=fresh_own (s:=namedM segB (st.1.1+1)) (d:=a.1)
  simp only [c_f]
  generalize freshR (namedM segB (st.1.1+1)) a.1=b at b0 b1 b2 b3 ⊢
  cases cb:b.2 != 0 with
  | true =>
   obtain ⟨g1,g2⟩:=dropK (tl b) b0 b1 (tlnz b cb)
   exact ⟨g1,fun e=>absurd e g2⟩
  | false =>
   have b3:=b3 (zero_ne cb)
   have c0:DR (hintR hb st.1.1 b.1).1:=by
    unfold hintR
    cases (fileR (namedM hintB st.1.1) (hb (textM b.1 (namedM segB st.1.1)).1) b.1).2==2 with
    | true=>exact drops_DR _ _ (file_DR _ _ _ b0)
    | false=>exact file_DR _ _ _ b0
   have c1:∀ x ∈ st.1.2.1,fT (hintR hb st.1.1 b.1).1 (namedM segB x)=fT d (namedM segB x):=fun x hx=>(hint_fT (no3 x hx)).trans (b1 x hx)
   have c2:=(hint_fT (hb:=hb) (d:=b.1) (hint_seg hm hm)).trans b2
   have c3:=(hint_fT (hb:=hb) (d:=b.1) (hint_seg hm hm1)).trans b3
   simp only [c_f]
   generalize hintR hb st.1.1 b.1=e at c0 c1 c2 c3 ⊢
   cases ce:e.2 != 0 with
   | true=>exact ⟨jump (tl e) c0 c1,fun z=>absurd z (tlnz e ce)⟩
   | false =>
    have d0:=putLive_DR (live2 st.1.1) _ c0
    have d1:∀ x ∈ st.1.2.1,fT (putLiveR (live2 st.1.1) e.1).1 (namedM segB x)=fT d (namedM segB x):=fun x hx=>(putLive_fT (seg_temp (hseg x hx)) (seg_live (hseg x hx))).trans (c1 x hx)
    have d2:=(putLive_fT (d:=e.1) (v:=live2 st.1.1) (seg_temp hm) (seg_live hm)).trans c2
    have d3:=(putLive_fT (d:=e.1) (v:=live2 st.1.1) (seg_temp hm1) (seg_live hm1)).trans c3
    simp only [c_f]
    generalize putLiveR (live2 st.1.1) e.1=f at d0 d1 d2 d3 ⊢
    cases cf:f.2 != 0 with
    | true =>
     obtain ⟨g1,g2⟩:=dropK (tl f) d0 d1 (tlnz f cf)
     exact ⟨g1,fun z=>absurd z g2⟩
    | false =>
     simp only [c_f]
     have o0:∀ (ids:List Int) (x:Ty.den TDisk),DR x→DR (oldR ids x).1:=by
      intro ids
      induction ids with
      | nil=>exact fun x hx=>hx
      | cons y ids ih=>exact fun x hx=>seqR_DR (drops_DR _ _ hx) fun z hz=>ih z hz
     have o2:=(old_fT st.1.2.1 f.1 fun x hx=>⟨fun q=>no1 x hx q.symm,hint_seg (hseg x hx) hm⟩).trans d2
     have o3:=(old_fT st.1.2.1 f.1 fun x hx=>⟨fun q=>no2 x hx q.symm,hint_seg (hseg x hx) hm1⟩).trans d3
     have o1:=o0 st.1.2.1 f.1 d0
     generalize oldR st.1.2.1 f.1=o at o1 o2 o3 ⊢
     obtain ⟨l1,l2⟩:=ents_lens st.1.1 l 0
     have hk:=mark_len (st.2.2.1-1) (l.map keepR)
     have hk0:=(recLen_in (sealR 5 (st.2.2.1-1) (l.map keepR))).1
     have tot:(segS o.1 [st.1.1,st.1.1+1]:Int)=lensM (entsM st.1.1 l 0)+recLen (sealR 5 (st.2.2.1-1) (l.map keepR)):=by
      unfold segS szT
      rw [List.map_cons,List.map_singleton,List.sum_cons,List.sum_singleton,o2,o3,l1]
      simp only [Option.getD_some]
      unfold keepsM
      rw [framesM_app,ByteArray.size_append]
      have e1:(framesM [sealR 5 (st.2.2.1-1) (l.map keepR)]).size=(frameM (showRec (sealR 5 (st.2.2.1-1) (l.map keepR)))).size:=by rw [frames_cons];rfl
      have e2:(ByteArray.empty:ByteArray).size=0:=rfl
      rw [e1,e2]
      unfold recLen
      omega
     have tot0:(segS o.1 [st.1.1,st.1.1+1]:Int)=mergedM l (st.2.2.1-1):=by
      unfold segS szT mergedM
      rw [List.map_cons,List.map_singleton,List.sum_cons,List.sum_singleton,o2,o3]
      rfl
     refine ⟨⟨o1,(show 2≤60 by decide),?_,l2,?_⟩,fun _=>⟨tot0,?_⟩⟩
     · show (entsM st.1.1 l 0).length≤_
       rw [ents_len]
       exact hlen
     · show lensM (entsM st.1.1 l 0)≤(segS o.1 [st.1.1,st.1.1+1]:Int)
       omega
     · show (segS o.1 [st.1.1,st.1.1+1]:Int)-lensM (entsM st.1.1 l 0)≤20
       omega
end Go.Proofs.YtmakghhmpgfboaaGreat.G
namespace Go.Proofs.YtmakghhmpgfboaaGreat.G
open Go.V
theorem specFail_eq {k:Nat} (hk:2 ^ 50≤k) (st:Ty.den TStore) {r:RD} (hd:DR r.1) {m:Int} (h0:1≤m) (h1:m≤100000):spec_l14Fail_ga.f k st r.1 m r.2=some (st,((dropsN (failNs m) r).1,((dropsN (failNs m) r).2,()))):=by
 unfold spec_l14Fail_ga.f spec_l14Fail_ga.t dropsN
 cases c:r.2==2 with
 | false =>
  have:(r.2 != 2)=true:=by unfold bne;rw [c];rfl
  rw [this]
  rfl
 | true =>
  have:(r.2 != 2)=false:=by unfold bne;rw [c];rfl
  rw [this]
  simp only [c_f,c_t]
  rw [w64_eq (n:=m+1) (by omega) (by omega),specSegName_eq hk,o_s,specSegName_eq hk,o_s,specHintName_eq hk,o_s]
  simp only []
  rw [show ([(⟨#[116,101,109,112]⟩:ByteArray),namedM segB m,namedM segB (m+1),namedM hintB m]:List ByteArray)=failNs m from rfl,specDrops_eq hk hd (by unfold failNs;simp),o_s]
  simp only [bne]
  cases q:(dropsR (failNs m) r.1).2==0 with
  | true=>rw [q_t c];rfl
  | false=>simp only [n_f,c_t,c_f,specCode_eq,o_s]
theorem specKeepR_eq (k:Nat) (p:Ty.den TPair):spec_l14Keep.f k p=some (keepR p,()):=rfl
theorem specOld_eq {k:Nat} (hk:2 ^ 50≤k) (ids old:List Int) (dir:EntryL) (nx b s h:Int) (ho:old.length≤1073741824) {d:Ty.den TDisk} (hd:DR d) :
 spec_l14Merge_g.l0 k k 0 ids dir nx b s h [] [] 0 0 0 0 [] 0 0 false d.1 d.2.1 d.2.2.1 d.2.2.2.1 old=some (((nx,(ids,())),(dir,(b,(s,(h,()))))),((tl (oldR old d)).1,((tl (oldR old d)).2,()))):=by
 refine forL0 (L:=fun n i (x:Ty.den TDisk)=>spec_l14Merge_g.l0 k n i ids dir nx b s h [] [] 0 0 0 0 [] 0 0 false x.1 x.2.1 x.2.2.1 x.2.2.2.1 old) (R:=fun r x=>(some (((nx,(ids,())),(dir,(b,(s,(h,()))))),((tl (oldR r x)).1,((tl (oldR r x)).2,()))):spec_l14Merge_g.Rs))
  (Ty.dflt (.int .i64)) old (fun _ x=>DR x) (fun n x hx=>?_) (fun n i x y rest h0 h1 hy hr hx ih=>?_) (n:=k) (s:=d) (by omega) hd
 · simp only [spec_l14Merge_g.l0,spec_l14Merge_g.b0]
   rw [decF (by omega),c_f]
   rfl
 · simp only [spec_l14Merge_g.l0,spec_l14Merge_g.b0]
   rw [decT h1,c_t,inb_eq h0 h1,hy,specSegName_eq hk,o_s,inb_eq h0 h1,specHintName_eq hk,o_s]
   simp only []
   rw [show (x.1,(x.2.1,(x.2.2.1,(x.2.2.2.1,()))))=x from rfl,specDrops_eq hk hx (by simp),o_s,w64_eq (n:=i+1) (by omega) (by omega)]
   have hz:=drops_DR [namedM segB y,namedM hintB y] x hx
   simp only [oldR]
   generalize dropsR [namedM segB y,namedM hintB y] x=q at hz ⊢
   unfold seqR
   simp only [bne]
   cases c:q.2==0 with
   | false=>simp only [n_f,c_t,c_f,specCode_eq,o_s];rfl
   | true =>
    simp only [n_t,c_t,c_f]
    exact ih q.1 hz
end Go.Proofs.YtmakghhmpgfboaaGreat.G
namespace Go.Proofs.YtmakghhmpgfboaaGreat.G
open Go.V
def dirR (m:Int):PairL→RD→EntryL→Int→EntryL
 | [],_,dir,_=>dir
 | p::l,r,dir,a=>bif r.2==0 then dirR m l (appM r.1 (namedM segB m) (frameM (showRec (keepR p)))) (dir++[(p.1,(m,(a,(recLen (keepR p),(p.2.2.1,())))))]) (a+recLen (keepR p)) else dir
theorem dirR_ok (m:Int):∀ (l:PairL) (r:RD) (dir:EntryL) (a:Int),r.2=0→(wrR (namedM segB m) (l.map keepR) r).2=0→dirR m l r dir a=dir++entsM m l a
 | [],_,dir,_,_,_=>(List.append_nil dir).symm
 | p::l,r,dir,a,h,z=>by
  have e:seqR r (fun y=>appM y (namedM segB m) (frameM (showRec (keepR p))))=appM r.1 (namedM segB m) (frameM (showRec (keepR p))):=by
   unfold seqR
   rw [h]
   rfl
  have z:(wrR (namedM segB m) (l.map keepR) (seqR r fun y=>appM y (namedM segB m) (frameM (showRec (keepR p))))).2=0:=z
  rw [e] at z
  have z2:(appM r.1 (namedM segB m) (frameM (showRec (keepR p)))).2=0:=by
   by_cases w:(appM r.1 (namedM segB m) (frameM (showRec (keepR p)))).2=0
   · exact w
   · rw [wr_bad _ _ _ w] at z
     exact absurd z w
  unfold dirR
  rw [show (r.2==0)=true by rw [h];rfl,c_t,dirR_ok m l _ _ _ z2 z,a_a]
  rfl
end Go.Proofs.YtmakghhmpgfboaaGreat.G
namespace Go.Proofs.YtmakghhmpgfboaaGreat.G
open Go.V
theorem specWriteM_eq {k:Nat} (hk:2 ^ 50≤k) {d:Ty.den TDisk} (hd:DR d) (m:Int) {l:PairL} (hl:l.length≤1000000) (mark:Int) :
 spec_l14Write.f k d m l mark=some ((wroteR m l mark d).1,(dirR m l (freshR (namedM segB m) d) [] 0,(toldM (wroteR m l mark d).2,()))):=by
 have hsz:=seg_sz m
 unfold spec_l14Write.f spec_l14Write.t
 rw [specSegName_eq hk,o_s]
 simp only []
 rw [specFresh_eq hk hd (by omega),o_s]
 simp only []
 have hf:=fresh_DR (namedM segB m) d hd
 unfold wroteR keepsM
 generalize freshR (namedM segB m) d=r0 at hf ⊢
 refine forL0 (L:=fun n i (s:RD × EntryL × Int × RecL)=>spec_l14Write.l0 k n m l mark s.1.2 s.2.2.1 i [] 0 0 false s.2.1 s.1.1.1 s.1.1.2.1 s.1.1.2.2.1 s.1.1.2.2.2.1 s.2.2.2)
  (R:=fun r s=>(some ((seqR (wrR (namedM segB m) (r.map keepR++[sealR 5 mark (l.map keepR)]) s.1) fun y=>synM y (namedM segB m)).1,(dirR m r s.1 s.2.1 s.2.2.1,(toldM (seqR (wrR (namedM segB m) (r.map keepR++[sealR 5 mark (l.map keepR)]) s.1) fun y=>synM y (namedM segB m)).2,()))):spec_l14Write.Rs))
  (Ty.dflt TPair) l (fun i s=>DR s.1.1∧(s.1.2=0→s.2.2.2=(l.take i.toNat).map keepR)∧0≤s.2.2.1∧s.2.2.1≤211*i∧(s.2.1.length:Int)≤i∧(s.2.2.2.length:Int)≤i) (fun n s hs=>?_) (fun n i s x rest h0 h1 hx hr hs ih=>?_) (n:=k) (s:=(r0,([],(0,[])))) (by omega) ⟨hf,fun _=>rfl,Int.le_refl _,by simp,by simp,by simp⟩
 · obtain ⟨r,dir,a,recs⟩:=s
   obtain ⟨g1,g2,g3,g4,g5,g6⟩:=hs
   simp only [] at g1 g2 g3 g4 g5 g6 ⊢
   simp only [spec_l14Write.l0,spec_l14Write.b0]
   rw [decF (by omega),c_f]
   simp only [List.map_nil,List.nil_append,wrR,dirR]
   by_cases c:r.2=0
   · rw [Int.toNat_natCast,List.take_length] at g2
     rw [show (r.2==0)=true by rw [c];rfl,c_t,specSegName_eq hk,o_s,g2 c,specSeal_eq hk (by rw [List.length_map];omega),o_s]
     simp only []
     rw [specShowRec_eq hk,o_s]
     simp only []
     rw [specFrame_eq hk,o_s]
     simp only []
     have hfz:=frameM_size (showRec (sealR 5 mark (l.map keepR)))
     rw [show (r.1.1,(r.1.2.1,(r.1.2.2.1,(r.1.2.2.2.1,()))))=r.1 from rfl,specApp_eq hk g1.sz (namedM segB m) (by omega),o_s]
     simp only []
     have ha:=app_DR g1 (namedM segB m) (frameM (showRec (sealR 5 mark (l.map keepR))))
     rw [show seqR r (fun y=>appM y (namedM segB m) (frameM (showRec (sealR 5 mark (l.map keepR)))))=appM r.1 (namedM segB m) (frameM (showRec (sealR 5 mark (l.map keepR)))) by unfold seqR;rw [c];rfl]
     generalize appM r.1 (namedM segB m) (frameM (showRec (sealR 5 mark (l.map keepR))))=q at ha ⊢
     unfold seqR
     cases c2:q.2==0 with
     | true =>
      simp only [c_t]
      rw [o_s]
      simp only []
      rw [specSyn_eq hk ha.sz,o_s,specCode_eq,o_s]
     | false=>simp only [c_f,specCode_eq,o_s]
   · rw [q_f c]
     have e:seqR r (fun y=>appM y (namedM segB m) (frameM (showRec (sealR 5 mark (l.map keepR)))))=r:=by unfold seqR;rw [q_f c];rfl
     rw [e]
     unfold seqR
     rw [q_f c]
     simp only [c_f,specCode_eq,o_s]
 · obtain ⟨r,dir,a,recs⟩:=s
   obtain ⟨g1,g2,g3,g4,g5,g6⟩:=hs
   simp only [] at g1 g2 g3 g4 g5 g6 ih ⊢
   have hi:i.toNat<l.length:=by omega
   have et:l.take (i+1).toNat=l.take i.toNat++[x]:=by
    rw [show (i+1).toNat=i.toNat+1 by omega,List.take_succ_eq_append_getElem hi]
    congr 2
    rw [← hx]
    simp [List.getD,hi]
   simp only [spec_l14Write.l0,spec_l14Write.b0]
   rw [decT h1,c_t]
   simp only [List.map_cons,List.cons_append,wrR,dirR]
   by_cases c:r.2=0
   · have hr:=recLen_in (keepR x)
     have hfz:=frameM_size (showRec (keepR x))
     have hz:((frameM (showRec (keepR x))).size:Int)=recLen (keepR x):=rfl
     rw [show (r.2==0)=true by rw [c];rfl,c_t,inb_eq h0 h1,hx,specKeepR_eq,o_s]
     simp only []
     rw [specShowRec_eq hk,o_s]
     simp only []
     rw [specFrame_eq hk,o_s]
     simp only []
     rw [specSegName_eq hk,o_s]
     simp only []
     rw [show (r.1.1,(r.1.2.1,(r.1.2.2.1,(r.1.2.2.2.1,()))))=r.1 from rfl,specApp_eq hk g1.sz (namedM segB m) (by omega),o_s]
     simp only []
     rw [rm_ok (by omega) (by decide),rm_ok (by omega) (by decide),hz,w64_eq (n:=a+recLen (keepR x)) (by omega) (by omega),w64_eq (n:=i+1) (by omega) (by omega)]
     have ha:=app_DR g1 (namedM segB m) (frameM (showRec (keepR x)))
     rw [show seqR r (fun y=>appM y (namedM segB m) (frameM (showRec (keepR x))))=appM r.1 (namedM segB m) (frameM (showRec (keepR x))) by unfold seqR;rw [c];rfl,c_t]
     exact ih (appM r.1 (namedM segB m) (frameM (showRec (keepR x))),(dir++[(x.1,(m,(a,(recLen (keepR x),(x.2.2.1,())))))],(a+recLen (keepR x),recs++[keepR x]))) ⟨ha,fun _=>by simp only [];rw [g2 c,et,List.map_append];rfl,by simp only [];omega,by simp only [];omega,by simp only [];rw [l_a,List.length_singleton];omega,by simp only [];rw [l_a,List.length_singleton];omega⟩
   · rw [q_f c]
     have e:seqR r (fun y=>appM y (namedM segB m) (frameM (showRec (keepR x))))=r:=by unfold seqR;rw [q_f c];rfl
     rw [e,wr_bad _ _ _ c]
     unfold seqR
     rw [q_f c]
     simp only [c_f,specCode_eq,o_s]
end Go.Proofs.YtmakghhmpgfboaaGreat.G
namespace Go.Proofs.YtmakghhmpgfboaaGreat.G
open Go.V
noncomputable def hbR (m:Int) (s:ByteArray):ByteArray:=showHintM (hintOfM m s).1
theorem wr_app (nm:ByteArray):∀ (l m:RecL) (r:RD),wrR nm (l++m) r=wrR nm m (wrR nm l r)
 | [],_,_=>rfl
 | x::l,m,r=>by
  exact wr_app nm l m (seqR r fun y=>appM y nm (frameM (showRec x)))
theorem wr_DR (nm:ByteArray):∀ (rs:RecL) (r:RD),DR r.1→DR (wrR nm rs r).1
 | [],_,h=>h
 | x::rs,r,h=>wr_DR nm rs _ (seqR_DR h fun y hy=>app_DR hy _ _)
theorem wrote_DR (m:Int) (l:PairL) (mark:Int) {d:Ty.den TDisk} (hd:DR d):DR (wroteR m l mark d).1 :=
 seqR_DR (wr_DR _ _ _ (fresh_DR _ _ hd)) fun x hx=>syn_DR hx _
theorem wrote_dir {m:Int} {l:PairL} {mark:Int} {d:Ty.den TDisk} (h:(wroteR m l mark d).2=0):dirR m l (freshR (namedM segB m) d) [] 0=entsM m l 0:=by
 unfold wroteR at h
 obtain ⟨z1,z2,_⟩:=seqR_zero h
 unfold keepsM at z1
 rw [wr_app] at z1
 have z3:(wrR (namedM segB m) (l.map keepR) (freshR (namedM segB m) d)).2=0:=by
  by_cases w:(wrR (namedM segB m) (l.map keepR) (freshR (namedM segB m) d)).2=0
  · exact w
  · rw [wr_bad _ _ _ w] at z1
    exact absurd z1 w
 have z0:(freshR (namedM segB m) d).2=0:=by
  by_cases w:(freshR (namedM segB m) d).2=0
  · exact w
  · rw [wr_bad _ _ _ w] at z3
    exact absurd z3 w
 rw [dirR_ok m l _ [] 0 z0 z3,List.nil_append]
theorem live2_ok {m:Int} (h0:1≤m) (h1:m+2≤100000):liveM (live2 m)=true:=by
 have e:w64 (m+2-1)=m+1:=by rw [w64_eq (n:=m+2-1) (by omega) (by omega)];omega
 unfold liveM live2
 simp only []
 rw [decT (show (1:Int)≤m+2∧m+2≤100000 from ⟨by omega,h1⟩),e]
 simp only [adj,idOk,l_c,List.length_nil]
 rw [decT (show (1:Int)≤m∧m≤m+1 from ⟨h0,by omega⟩),decT (show (1:Int)≤m+1∧m+1≤m+1 from ⟨by omega,by omega⟩),decT (show m<m+1 by omega)]
 rfl
theorem told_ne (c:Int):(toldM c != 0)=(c != 0):=by unfold bne;rw [toldM_zero]
theorem specEnd_eq {k:Nat} (hk:2 ^ 50≤k) {st:Ty.den TStore} (hl:liveM st.1=true) (hn:LE.le (α:=Int) (st.1.1+2) 100000) {f:Ty.den TDisk} (hf:DR f) (dir:EntryL) :
 (rm (Ty.bytes (.int .i64)) (0+List.length st.1.2.1) ((spec_PutLive.f k f (st.1.1+2,([st.1.1,st.1.1+1],()))).bind fun r16=>(bif (r16.2.1 != 0) then ((spec_l14Fail_ga.f k ((st.1.1+2,st.1.2),st.2) r16.1 st.1.1 r16.2.1).bind fun r17=>(some r17)) else
  (spec_l14Merge_g.l0 k k 0 [st.1.1,st.1.1+1] dir (st.1.1+2) st.2.2.1 0 0 [] [] 0 0 0 0 [] 0 0 false r16.1.1 r16.1.2.1 r16.1.2.2.1 r16.1.2.2.2.1 ([]++st.1.2.1)))):spec_l14Merge_g.Rs) =
 some (oS (bif (putLiveR (live2 st.1.1) f).2 != 0 then (jumpS st,dropsN (failNs st.1.1) (tl (putLiveR (live2 st.1.1) f))) else ((live2 st.1.1,(dir,(st.2.2.1,(0,(0,()))))),tl (oldR st.1.2.1 (putLiveR (live2 st.1.1) f).1)))):=by
 obtain ⟨n1,n2,n3,_⟩:=live_ids (n:=st.1.1) (ids:=st.1.2.1) hl
 have h60:st.1.2.1.length≤60:=(live_facts (nx:=st.1.1) (ids:=st.1.2.1) hl).2.2.2.1
 rw [rm_ok (by omega) (by decide),specPutLive_eq hk hf (v:=(st.1.1+2,([st.1.1,st.1.1+1],()))) (live2_ok n1 hn),o_s]
 rw [show ((st.1.1+2,([st.1.1,st.1.1+1],())):Ty.den TLive)=live2 st.1.1 from rfl]
 have hp:=putLive_DR (live2 st.1.1) f hf
 generalize putLiveR (live2 st.1.1) f=q at hp ⊢
 simp only []
 rw [told_ne]
 cases c:q.2 != 0 with
 | true =>
  simp only [c_t]
  rw [show toldM q.2=(tl q).2 from rfl,show q.1=(tl q).1 from rfl,specFail_eq hk _ (r:=tl q) hp n1 n2,o_s]
  rfl
 | false =>
  simp only [c_f,List.nil_append]
  rw [specOld_eq hk _ _ _ _ _ _ _ (by omega) hp]
  rfl
theorem specMergeR_eq {k:Nat} (hk:2 ^ 50≤k) {st:Ty.den TStore} {d:Ty.den TDisk} (hd:DR d) (hl:liveM st.1=true) (hn:LE.le (α:=Int) (st.1.1+2) 100000) (hb0:LE.le (α:=Int) 1 st.2.2.1) (hb1:LE.le (α:=Int) st.2.2.1 1000001) {l:PairL} (hlen:l.length≤1000000) :
 spec_l14Merge_g.f k st d l=some (oS (mergedR (hbR st.1.1) st d l)):=by
 obtain ⟨n1,n2,n3,_⟩:=live_ids (n:=st.1.1) (ids:=st.1.2.1) hl
 have s1:=seg_sz st.1.1
 have s2:=seg_sz (st.1.1+1)
 have s3:=named_small (.inr rfl:hintB=segB∨hintB=hintB) st.1.1
 unfold spec_l14Merge_g.f spec_l14Merge_g.t
 rw [w64_eq (n:=st.2.2.1-1) (by omega) (by omega),w64_eq (n:=st.1.1+2) (by omega) (by omega),w64_eq (n:=st.1.1+1) (by omega) (by omega),specWriteM_eq hk hd _ hlen,o_s]
 simp only []
 have a0:=wrote_DR st.1.1 l (st.2.2.1-1) hd
 have a1:=wrote_dir (m:=st.1.1) (l:=l) (mark:=st.2.2.1-1) (d:=d)
 unfold mergedR
 generalize dirR st.1.1 l (freshR (namedM segB st.1.1) d) [] 0=dir at a1 ⊢
 generalize wroteR st.1.1 l (st.2.2.1-1) d=a at a0 a1 ⊢
 rw [told_ne]
 cases ca:a.2 != 0 with
 | true =>
  simp only [c_t]
  rw [show toldM a.2=(tl a).2 from rfl,show a.1=(tl a).1 from rfl,specFail_eq hk _ (r:=tl a) a0 n1 n2,o_s]
  rfl
 | false =>
  simp only [c_f]
  rw [a1 (zero_ne ca),specSegName_eq hk,o_s]
  simp only []
  rw [specFresh_eq hk a0 (by omega),o_s]
  simp only []
  have b0:=fresh_DR (namedM segB (st.1.1+1)) a.1 a0
  generalize freshR (namedM segB (st.1.1+1)) a.1=b at b0 ⊢
  cases cb:b.2 != 0 with
  | true =>
   simp only [c_t]
   rw [specCode_eq,o_s]
   simp only []
   rw [show toldM b.2=(tl b).2 from rfl,show b.1=(tl b).1 from rfl,specFail_eq hk _ (r:=tl b) b0 n1 n2,o_s]
   rfl
  | false =>
   have hl':=b0.sz.l
   have hu':=b0.sz.u
   have hn':=b0.sz.n
   have ht:=textM_size b.1 (namedM segB st.1.1)
   have hcap:LE.le (α:=Int) (used b.1.1) 100000:=Int.le_trans b0.use b0.cap1
   simp only [c_f]
   rw [specSegName_eq hk,o_s]
   simp only []
   rw [specText_eq hk (by omega) (by omega) (by omega),o_s]
   simp only []
   rw [specHintOf_eq hk _ (by omega),o_s,specHintName_eq hk,o_s]
   simp only []
   rw [specShowHint_eq hk,o_s]
   simp only []
   rw [specFile_eq hk b0 (by omega) (by have:=showHint_size (hintOfM st.1.1 (textM b.1 (namedM segB st.1.1)).1).1;omega),o_s]
   simp only []
   unfold hintR
   rw [show hbR st.1.1 (textM b.1 (namedM segB st.1.1)).1=showHintM (hintOfM st.1.1 (textM b.1 (namedM segB st.1.1)).1).1 from rfl]
   have c0:=file_DR (namedM hintB st.1.1) (showHintM (hintOfM st.1.1 (textM b.1 (namedM segB st.1.1)).1).1) b.1 b0
   generalize fileR (namedM hintB st.1.1) (showHintM (hintOfM st.1.1 (textM b.1 (namedM segB st.1.1)).1).1) b.1=e at c0 ⊢
   cases ce:e.2==2 with
   | true =>
    simp only [c_t]
    rw [o_s]
    simp only []
    rw [specDrops_eq hk c0 (by simp),o_s]
    simp only []
    have d0:=drops_DR [namedM hintB st.1.1] e.1 c0
    generalize dropsR [namedM hintB st.1.1] e.1=f at d0 ⊢
    cases cf:f.2 != 0 with
    | true =>
     simp only [c_t]
     rw [specCode_eq,o_s]
     rfl
    | false =>
     simp only [c_f]
     exact specEnd_eq hk hl hn d0 _
   | false =>
    simp only [c_f]
    cases cf:e.2 != 0 with
    | true =>
     simp only [c_t]
     rw [specCode_eq,o_s]
     rfl
    | false =>
     simp only [c_f]
     exact specEnd_eq hk hl hn c0 _
end Go.Proofs.YtmakghhmpgfboaaGreat.G
namespace Go.Proofs.YtmakghhmpgfboaaGreat.G
open Go.V
noncomputable def mergeM (st:Ty.den TStore) (d:Ty.den TDisk):Ty.den TStore × RD :=
 bif !storeM st d then (st,(d,4)) else bif decide (st.1.1+2 > 100000) then (st,(d,5)) else
 bif (dumpM st.2.1 d).2 != 0 then (st,(d,(dumpM st.2.1 d).2)) else mergedR (hbR st.1.1) st d (dumpM st.2.1 d).1
theorem store_next {st:Ty.den TStore} {d:Ty.den TDisk} (h:storeM st d=true):LE.le (α:=Int) 1 st.2.2.1∧LE.le (α:=Int) st.2.2.1 1000001:=by
 unfold storeM at h
 simp only [b_a,decide_eq_true_eq] at h
 exact h.2.2.2.1
theorem specMerge_eq {k:Nat} (hk:2 ^ 50≤k) {st:Ty.den TStore} {d:Ty.den TDisk} (hd:DSz d) (h1:st.1.2.1.length≤1073741824) (h2:st.2.1.length≤536870912):spec_Merge.f k st d=some (oS (mergeM st d)):=by
 have ec:spec_l12Copy.f k st=some (st,()):=by
  unfold spec_l12Copy.f spec_l12Copy.t
  rw [rm_ok (by omega) (by decide),rm_ok (by omega) (by decide),List.nil_append,List.nil_append]
 unfold spec_Merge.f spec_Merge.t mergeM
 rw [ec,o_s]
 simp only []
 rw [specCopyD_eq k hd,o_s]
 simp only []
 rw [specStore_eq hk hd,o_s]
 simp only []
 cases c1:storeM st d with
 | false=>rfl
 | true =>
  obtain ⟨g1,g2,g3⟩:=store_facts c1
  obtain ⟨n1,n2,_,_⟩:=live_ids (n:=st.1.1) (ids:=st.1.2.1) g1.live
  simp only [n_t,c_f]
  rw [w64_eq (n:=st.1.1+2) (by omega) (by omega)]
  by_cases c2:st.1.1+2 > (100000:Int)
  · rw [decT c2];rfl
  · rw [decF c2]
    simp only [c_f]
    rw [specDump_eq hk hd (by omega),o_s]
    simp only []
    have hz:=dumpM_len st.2.1 d
    obtain ⟨b1,b2⟩:=store_next c1
    cases (dumpM st.2.1 d).2 != 0 with
    | true=>rfl
    | false =>
     simp only [c_f]
     rw [specMergeR_eq hk g1.disk g1.live (Int.not_lt.1 c2) b1 b2 (by omega),o_s]
end Go.Proofs.YtmakghhmpgfboaaGreat.G
namespace Go.Proofs.YtmakghhmpgfboaaGreat.G
open Go.V
abbrev CurD:=Ty.den Tl1Cur
def CI (c:CurD):Prop:=(0:Int)≤c.2.1∧c.2.1≤(c.1.length:Int)∧c.1.length≤1048576
theorem and255 (y:Int):0≤w64 (((BitVec.ofInt (IntKind.bits .i64) y &&& BitVec.ofInt (IntKind.bits .i64) 255).toNat:Int))∧w64 (((BitVec.ofInt (IntKind.bits .i64) y &&& BitVec.ofInt (IntKind.bits .i64) 255).toNat:Int))≤255:=by
 have h:(BitVec.ofInt (IntKind.bits .i64) y &&& BitVec.ofInt (IntKind.bits .i64) 255).toNat≤255:=by
  rw [BitVec.toNat_and]
  exact Nat.le_trans Nat.and_le_right (by decide)
 rw [w64_eq (by omega) (by omega)]
 omega
theorem l1New_ok {k:Nat} (hk:2 ^ 50≤k) {l:List Int} (hl:l.length≤1048576):∃ c:CurD,spec_l1New.f k l=some ((),(c,()))∧CI c:=by
 unfold spec_l1New.f spec_l1New.t
 have key:∀ (d n:Nat) (i h:Int),(l.length:Int)-i=d→0≤i→d<n→∃ c:CurD,spec_l1New.l0 k n l h i=some ((),(c,()))∧CI c:=by
  intro d
  induction d with
  | zero =>
   intro n i h h1 h2 hn
   obtain ⟨n,rfl⟩:∃ q,n=q+1:=⟨n-1,by omega⟩
   simp only [spec_l1New.l0,spec_l1New.b0]
   rw [decF (show ¬ i<(l.length:Int) by omega),c_f]
   exact ⟨_,rfl,Int.le_refl _,by show (0:Int)≤(l.length:Int);omega,hl⟩
  | succ d ih =>
   intro n i h h1 h2 hn
   obtain ⟨n,rfl⟩:∃ q,n=q+1:=⟨n-1,by omega⟩
   simp only [spec_l1New.l0,spec_l1New.b0]
   rw [decT (show i<(l.length:Int) by omega),c_t]
   by_cases c:i<4000
   · rw [decT c,c_t,inb_eq h2 (by omega),w64_eq (n:=i+1) (by omega) (by omega)]
     exact ih n (i+1) _ (by omega) (by omega) (by omega)
   · rw [decF c,c_f]
     exact ⟨_,rfl,Int.le_refl _,by show (0:Int)≤(l.length:Int);omega,hl⟩
 exact key l.length k 0 _ (by omega) (by omega) (by omega)
theorem l1Byte_ok (k:Nat) {c:CurD} (h:CI c):∃ (c':CurD) (x:Int),spec_l1Byte.f k c=some (c',(x,()))∧CI c'∧0≤x∧x≤255:=by
 obtain ⟨b,i,hh,_⟩:=c
 change Int at i
 change Int at hh
 obtain ⟨h1,h2,h3⟩:=h
 have h1:0≤i:=h1
 have h2:i≤(b.length:Int):=h2
 have h3:b.length≤1048576:=h3
 unfold spec_l1Byte.f spec_l1Byte.t
 simp only []
 by_cases q:i<(b.length:Int)
 · rw [decT q,c_t,inb_eq h1 q,w64_eq (n:=i+1) (by omega) (by omega)]
   refine ⟨_,_,rfl,⟨by show (0:Int)≤i+1;omega,by show i+1≤(b.length:Int);omega,h3⟩,(and255 _).1,(and255 _).2⟩
 · rw [decF q,c_f]
   exact ⟨_,_,rfl,⟨h1,h2,h3⟩,(and255 _).1,(and255 _).2⟩
theorem l1Below_ok (k:Nat) {c:CurD} (h:CI c) {n:Int} (h0:0<n) (h1:n≤256):∃ (c':CurD) (x:Int),spec_l1Below.f k c n=some (c',(x,()))∧CI c'∧0≤x∧x<n:=by
 obtain ⟨c',x,e,hc,hx0,hx1⟩:=l1Byte_ok k h
 unfold spec_l1Below.f spec_l1Below.t
 rw [decF (show ¬ n≤0 by omega),c_f,decT h1,c_t,e,o_s]
 simp only []
 rw [decF (show ¬ n=0 by omega),c_f]
 have e2:Int.tmod x n=x % n:=Int.tmod_eq_emod_of_nonneg hx0
 refine ⟨_,_,rfl,hc,?_,?_⟩
 · rw [e2];exact Int.emod_nonneg _ (by omega)
 · rw [e2];exact Int.emod_lt_of_pos _ h0
theorem l1Once_ok (k:Nat) {c:CurD} (h:CI c) {n:Int} (h0:0<n) (h1:n≤256):∃ (c':CurD) (x:Bool),spec_l1Once.f k c n=some (c',(x,()))∧CI c':=by
 obtain ⟨c',x,e,hc,_,_⟩:=l1Below_ok k h h0 h1
 unfold spec_l1Once.f spec_l1Once.t
 rw [e,o_s]
 exact ⟨_,_,rfl,hc⟩
end Go.Proofs.YtmakghhmpgfboaaGreat.G
namespace Go.Proofs.YtmakghhmpgfboaaGreat.G
open Go.V
theorem l1New_t {k:Nat} (hk:2 ^ 50≤k) {l:List Int} (hl:l.length≤1048576):Tot (spec_l1New.f k l) (fun r=>CI r.2.1):=by
 obtain ⟨c,e,h⟩:=l1New_ok hk hl
 exact ⟨_,e,h⟩
theorem l1Byte_t (k:Nat) {c:CurD} (h:CI c):Tot (spec_l1Byte.f k c) (fun r=>CI r.1∧0≤r.2.1∧r.2.1≤255):=by
 obtain ⟨c',x,e,h1,h2,h3⟩:=l1Byte_ok k h
 exact ⟨_,e,h1,h2,h3⟩
theorem l1Below_t (k:Nat) {c:CurD} (h:CI c) {n:Int} (h0:0<n) (h1:n≤256):Tot (spec_l1Below.f k c n) (fun r=>CI r.1∧0≤r.2.1∧r.2.1<n):=by
 obtain ⟨c',x,e,q1,q2,q3⟩:=l1Below_ok k h h0 h1
 exact ⟨_,e,q1,q2,q3⟩
theorem l1BelowW_t (k:Nat) {c:CurD} (h:CI c) {n:Int} (h0:0<n):Tot (spec_l1Below.f k c n) (fun r=>CI r.1∧0≤r.2.1∧r.2.1<n):=by
 by_cases h1:n≤256
 · exact l1Below_t k h h0 h1
 unfold spec_l1Below.f spec_l1Below.t
 refine tot_no (decF (by omega)) (tot_no (decF h1) ?_)
 refine tot_bind (l1Byte_t k h) fun r1 q1=>?_
 refine tot_bind (l1Byte_t k q1.1) fun r2 q2=>?_
 refine tot_bind (l1Byte_t k q2.1) fun r3 q3=>?_
 refine tot_bind (l1Byte_t k q3.1) fun r4 q4=>?_
 refine tot_no (decF (by omega)) (tot_some ⟨q4.1,?_⟩)
 obtain ⟨_,a0,a1⟩:=q1
 obtain ⟨_,b0,b1⟩:=q2
 obtain ⟨_,c0,c1⟩:=q3
 obtain ⟨_,d0,d1⟩:=q4
 simp only []
 rw [w64_eq (n:=r1.2.1*16777216) (by omega) (by omega),w64_eq (n:=r2.2.1*65536) (by omega) (by omega),w64_eq (n:=r3.2.1*256) (by omega) (by omega),w64_eq (n:=r1.2.1*16777216+r2.2.1*65536) (by omega) (by omega),w64_eq (n:=r1.2.1*16777216+r2.2.1*65536+r3.2.1*256) (by omega) (by omega),w64_eq (n:=r1.2.1*16777216+r2.2.1*65536+r3.2.1*256+r4.2.1) (by omega) (by omega)]
 rw [Int.tmod_eq_emod_of_nonneg (by omega)]
 exact ⟨Int.emod_nonneg _ (by omega),Int.emod_lt_of_pos _ h0⟩
theorem l1Once_t (k:Nat) {c:CurD} (h:CI c) {n:Int} (h0:0<n) (h1:n≤256):Tot (spec_l1Once.f k c n) (fun r=>CI r.1):=by
 obtain ⟨c',x,e,q1⟩:=l1Once_ok k h h0 h1
 exact ⟨_,e,q1⟩
end Go.Proofs.YtmakghhmpgfboaaGreat.G
namespace Go.Proofs.YtmakghhmpgfboaaGreat.G
open Go.V
theorem l1Pick_t (k:Nat) {c:CurD} (h:CI c) {l:List ByteArray} (h0:0<l.length) (h1:l.length≤256):Tot (spec_l1Pick.f k c l) (fun r=>CI r.1∧r.2.1 ∈ l):=by
 unfold spec_l1Pick.f spec_l1Pick.t
 refine tot_bind (l1Below_t k h (by omega) (by omega)) fun r q=>?_
 refine tot_inb q.2.1 q.2.2 (tot_some ⟨q.1,getD_mem ?_⟩)
 have:=q.2.1
 have:=q.2.2
 omega
end Go.Proofs.YtmakghhmpgfboaaGreat.G
namespace Go.Proofs.YtmakghhmpgfboaaGreat.G
open Go.V
theorem l1PickInt_t (k:Nat) {c:CurD} (h:CI c) {l:List Int} (h0:0<l.length) (h1:l.length≤256):Tot (spec_l1PickInt.f k c l) (fun r=>CI r.1∧r.2.1 ∈ l):=by
 unfold spec_l1PickInt.f spec_l1PickInt.t
 refine tot_bind (l1Below_t k h (by omega) (by omega)) fun r q=>?_
 refine tot_inb q.2.1 q.2.2 (tot_some ⟨q.1,getD_mem ?_⟩)
 have:=q.2.1
 have:=q.2.2
 omega
end Go.Proofs.YtmakghhmpgfboaaGreat.G
namespace Go.Proofs.YtmakghhmpgfboaaGreat.G
open Go.V
theorem bytes_len (l:List Int):(bytesOf l).size=l.length:=by simp [bytesOf,ByteArray.size]
theorem l1TextL {k:Nat} (hk:2 ^ 50≤k) (st:Int) (m:Nat) (hm:m≤200):∀ (d n:Nat) (c:CurD) (out:List Int),d<n→CI c→out.length+d≤m→Tot (spec_l1Text.l0 k n st (d:Int) c.1 c.2.1 c.2.2.1 out) (fun r=>CI r.1∧r.2.1.size≤m):=by
 intro d
 induction d with
 | zero =>
  intro n c out hn hc ho
  obtain ⟨n,rfl⟩:∃ q,n=q+1:=⟨n-1,by omega⟩
  simp only [spec_l1Text.l0,spec_l1Text.b0]
  refine tot_no (decF (by omega)) (tot_some ⟨hc,?_⟩)
  show (bytesOf out).size≤m
  rw [bytes_len]
  omega
 | succ d ih =>
  intro n c out hn hc ho
  obtain ⟨n,rfl⟩:∃ q,n=q+1:=⟨n-1,by omega⟩
  have hw:w64 (((d+1:Nat):Int)-1)=(d:Int):=by rw [w64_eq (by omega) (by omega)];omega
  simp only [spec_l1Text.l0,spec_l1Text.b0,hw]
  refine tot_yes (decT (by omega)) ?_
  refine tot_bind (l1Byte_t k hc) fun r hr=>?_
  refine tot_bif (fun _=>tot_bif (fun _=>?_) (fun _=>?_)) (fun _=>tot_bif (fun _=>?_) (fun _=>?_))
  all_goals exact tot_rm (by omega) (by decide) (ih n r.1 _ (by omega) hr.1 (by rw [len_snoc];omega))
theorem l1Text_t {k:Nat} (hk:2 ^ 50≤k) {c:CurD} (h:CI c) {m:Int} (h0:0≤m) (h1:m≤200):Tot (spec_l1Text.f k c m) (fun r=>CI r.1∧(r.2.1.size:Int)≤m):=by
 unfold spec_l1Text.f spec_l1Text.t
 rw [w64_eq (n:=m+1) (by omega) (by omega)]
 refine tot_bind (l1Below_t k h (by omega) (by omega)) fun r1 q1=>?_
 refine tot_bind (l1Below_t k q1.1 (by omega) (by omega)) fun r2 q2=>?_
 obtain ⟨c2,a,b⟩:=q2
 have:=l1TextL hk r1.2.1 m.toNat (by omega) r2.2.1.toNat k r2.1 [] (by omega) c2 (by simp only [List.length_nil];omega)
 rw [show ((r2.2.1.toNat:Nat):Int)=r2.2.1 by omega] at this
 exact tot_mono this fun r hr=>⟨hr.1,by have:=hr.2;omega⟩
end Go.Proofs.YtmakghhmpgfboaaGreat.G
namespace Go.Proofs.YtmakghhmpgfboaaGreat.G
open Go.V
theorem l5Key_t (k:Nat) {c:CurD} (h:CI c):Tot (spec_l5Key.f k c) (fun r=>CI r.1):=by
 unfold spec_l5Key.f spec_l5Key.t
 exact tot_bind (l1Pick_t k h (by decide) (by decide)) fun r q=>tot_some q.1
end Go.Proofs.YtmakghhmpgfboaaGreat.G
namespace Go.Proofs.YtmakghhmpgfboaaGreat.G
open Go.V
theorem merged_keep {hb:ByteArray→ByteArray} {st:Ty.den TStore} {d:Ty.den TDisk} {l:PairL} (hd:DR d) (hl:liveM st.1=true) (hn:LE.le (α:=Int) (st.1.1+2) 100000) (hdir:st.2.1.length≤268435456) (hlen:l.length≤268435456) :
 DR (mergedR hb st d l).2.1∧(mergedR hb st d l).1.1.2.1.length≤60∧(mergedR hb st d l).1.2.1.length≤268435456:=by
 have h60:st.1.2.1.length≤60:=(live_facts (nx:=st.1.1) (ids:=st.1.2.1) hl).2.2.2.1
 have hs:DR (mergedR hb (st.1,([],st.2.2)) d l).2.1∧(mergedR hb (st.1,([],st.2.2)) d l).1.1.2.1.length≤60:=by
  have hIV:IV ((st.1,([],st.2.2)),(d,0)):=⟨hd,h60,Nat.zero_le _,fun x hx=>(by cases hx),Int.natCast_nonneg _⟩
  obtain ⟨q1,_⟩:=merged_IV (hb:=hb) hIV hl hn (l:=l) hlen
  exact ⟨q1.disk,q1.ids⟩
 have he:=ents_len st.1.1 l 0
 unfold mergedR at hs ⊢
 simp only [] at hs
 generalize wroteR st.1.1 l (st.2.2.1-1) d=a at hs ⊢
 cases ca:a.2 != 0 with
 | true=>rw [ca] at hs;exact ⟨hs.1,hs.2,hdir⟩
 | false =>
  rw [ca] at hs
  simp only [c_f] at hs ⊢
  generalize freshR (namedM segB (st.1.1+1)) a.1=b at hs ⊢
  cases cb:b.2 != 0 with
  | true=>rw [cb] at hs;exact ⟨hs.1,hs.2,hdir⟩
  | false =>
   rw [cb] at hs
   simp only [c_f] at hs ⊢
   generalize hintR hb st.1.1 b.1=e at hs ⊢
   cases ce:e.2 != 0 with
   | true=>rw [ce] at hs;exact ⟨hs.1,hs.2,hdir⟩
   | false =>
    rw [ce] at hs
    simp only [c_f] at hs ⊢
    generalize putLiveR (live2 st.1.1) e.1=f at hs ⊢
    cases cf:f.2 != 0 with
    | true=>rw [cf] at hs;exact ⟨hs.1,hs.2,hdir⟩
    | false =>
     rw [cf] at hs
     exact ⟨hs.1,hs.2,by show (entsM st.1.1 l 0).length≤_;rw [he];exact hlen⟩
theorem merge_keep {st:Ty.den TStore} {d:Ty.den TDisk} (hd:DR d) (h1:st.1.2.1.length≤60) (h2:st.2.1.length≤268435456) :
 DR (mergeM st d).2.1∧(mergeM st d).1.1.2.1.length≤60∧(mergeM st d).1.2.1.length≤268435456:=by
 unfold mergeM
 cases c1:storeM st d with
 | false=>exact ⟨hd,h1,h2⟩
 | true =>
  obtain ⟨g1,g2,g3⟩:=store_facts c1
  simp only [n_t,c_f]
  by_cases c2:st.1.1+2 > (100000:Int)
  · rw [decT c2]
    exact ⟨hd,h1,h2⟩
  · rw [decF c2]
    simp only [c_f]
    have hz:=dumpM_len st.2.1 d
    cases (dumpM st.2.1 d).2 != 0 with
    | true=>exact ⟨hd,h1,h2⟩
    | false=>exact merged_keep hd g1.live (Int.not_lt.1 c2) h2 (by omega)
theorem readLive60 (s:ByteArray):(readLiveM s).1.2.1.length≤60:=by
 rcases undo_cases (fun v=>liveM v=true) showLiveM ((0,([],())):Ty.den TLive) s with ⟨r,h1,h2,h3⟩ | h
 · unfold readLiveM
   rw [h3]
   exact (live_facts (nx:=r.1) (ids:=r.2.1) h1).2.2.2.1
 · unfold readLiveM
   rw [h]
   exact Nat.zero_le _
theorem open_ids {d:Ty.den TDisk}:(openM d).1.1.2.1.length≤60:=by
 have hv:=readLive60 (textM d liveB).1
 unfold openM
 cases diskM d with
 | false=>exact Nat.zero_le _
 | true =>
  cases d.2.2.2.1 with
  | true=>exact Nat.zero_le _
  | false =>
   cases (textM d liveB).2 with
   | false =>
    show (firstM d).1.1.2.1.length≤60
    unfold firstM
    cases (firstR d).2==0
    · exact Nat.zero_le _
    · show 1≤60
      decide
   | true =>
    simp only [n_t,c_f]
    cases (readLiveM (textM d liveB).1).2 with
    | false=>exact Nat.zero_le _
    | true =>
     simp only [n_t,c_f]
     generalize (readLiveM (textM d liveB).1).1=v at hv ⊢
     unfold foundM
     cases segsGood d v.2.1 with
     | false=>exact Nat.zero_le _
     | true =>
      simp only [n_t,c_f]
      cases (fixR (lastI v.2.1) d).2 != 0 with
      | true=>exact Nat.zero_le _
      | false =>
       simp only [c_f]
       generalize groupM (fixR (lastI v.2.1) d).1 v.2.1=g
       unfold endM
       cases g.2.2.1 != 0 with
       | true=>exact Nat.zero_le _
       | false =>
        simp only [c_f]
        cases (sweepR v.2.1 (fixR (lastI v.2.1) d).1).2 != 0 with
        | true=>exact Nat.zero_le _
        | false=>exact hv
def TV (t:Ty.den TTxn):Prop:=t.2.1.length≤20∧t.2.2.1.length≤50
structure EV (e:Ty.den TEngine):Prop where
 ids:e.2.1.1.2.1.length≤60
 dir:e.2.1.2.1.length≤268435456
 disk:DR e.2.2.1
 len:e.2.2.2.1.length≤3
 txn:∀ t ∈ e.2.2.2.1,TV t
theorem zTxn_TV:TV (Ty.dflt TTxn):=⟨Nat.zero_le _,Nat.zero_le _⟩
theorem rep_TV:∀ t ∈ List.replicate 3 (Ty.dflt TTxn),TV t:=fun t ht=>by
 rw [List.eq_of_mem_replicate ht]
 exact zTxn_TV
theorem open_EV {d:Ty.den TDisk} (h:DR d):EV (engOf (openM d)):=by
 obtain ⟨h1,h2⟩:=open_facts h
 exact ⟨open_ids,h2,h1,Nat.le_refl _,rep_TV⟩
theorem get_TV {l:List (Ty.den TTxn)} (h:∀ t ∈ l,TV t) (i:Nat):TV (l.getD i (Ty.dflt TTxn)):=by
 by_cases c:i<l.length
 · exact h _ (getD_mem c)
 · have:l.getD i (Ty.dflt TTxn)=Ty.dflt TTxn:=by simp [List.getD,c]
   rw [this]
   exact zTxn_TV
theorem set_TV {l:List (Ty.den TTxn)} (h:∀ t ∈ l,TV t) (i:Nat) {t:Ty.den TTxn} (ht:TV t):∀ x ∈ l.set i t,TV x:=fun x hx=>by
 rcases List.mem_or_eq_of_mem_set hx with q | q
 · exact h x q
 · rw [q];exact ht
theorem set_EV {e:Ty.den TEngine} (h:EV e) (i:Nat) {t:Ty.den TTxn} (ht:TV t):EV (e.1,(e.2.1,(e.2.2.1,(e.2.2.2.1.set i t,())))) :=
 ⟨h.ids,h.dir,h.disk,by show (List.set _ _ _).length≤3;rw [List.length_set];exact h.len,set_TV h.txn i ht⟩
theorem copyT_eq (k:Nat) {t:Ty.den TTxn} (h:TV t):spec_l15Copy.f k t=some (t,()):=by
 obtain ⟨h1,h2⟩:=h
 unfold spec_l15Copy.f spec_l15Copy.t
 rw [rm_ok (by omega) (by decide),rm_ok (by omega) (by decide),List.nil_append,List.nil_append]
theorem copyE_eq {k:Nat} (hk:2 ^ 50≤k) {e:Ty.den TEngine} (h:EV e):spec_l16Copy.f k e=some (e,()):=by
 have h1:=h.ids
 have h2:=h.dir
 have h3:=h.len
 have ec:spec_l12Copy.f k e.2.1=some (e.2.1,()):=by
  unfold spec_l12Copy.f spec_l12Copy.t
  rw [rm_ok (by omega) (by decide),rm_ok (by omega) (by decide),List.nil_append,List.nil_append]
 unfold spec_l16Copy.f spec_l16Copy.t
 rw [ec,o_s,specCopyD_eq k h.disk.sz,o_s]
 simp only []
 refine (forL0 (L:=fun n i (s:List (Ty.den TTxn))=>spec_l16Copy.l0 k n i e.2.1.1.2.1 e.2.1.2.1 e.2.2.1.1 e.1 e.2.1.1.1 e.2.1.2.2.1 e.2.1.2.2.2.1 e.2.1.2.2.2.2.1 e.2.2.1.2.1 e.2.2.1.2.2.1 e.2.2.1.2.2.2.1 e.2.2.2.1 [] [] [] [] false 0 0 0 0 0 0 false s) (R:=fun r s=>(some ((e.1,(e.2.1,(e.2.2.1,(s++r,())))),()):spec_l16Copy.Rs)) (Ty.dflt TTxn) e.2.2.2.1 (fun i s=>(s.length:Int)≤i) (fun n s hs=>?_) (fun n i s x rest g0 g1 hx hr hp ih=>?_) (n:=k) (s:=[]) (by omega) (by decide)).trans (by rw [List.nil_append])
 · simp only [spec_l16Copy.l0,spec_l16Copy.b0]
   rw [decF (by omega),c_f,List.append_nil]
 · have hm:x ∈ e.2.2.2.1:=by rw [← hx];exact getD_mem (by omega)
   simp only [spec_l16Copy.l0,spec_l16Copy.b0]
   rw [decT g1,c_t,inb_eq g0 g1,hx,copyT_eq k (h.txn x hm),o_s,w64_eq (n:=i+1) (by omega) (by omega),rm_ok (by omega) (by decide)]
   refine (ih (s++[x]) (by rw [len_snoc];omega)).trans ?_
   rw [a_a]
   rfl
theorem ownWrite_t {k:Nat} (hk:2 ^ 50≤k) {t:Ty.den TTxn} (h:t.2.2.1.length≤1000) (key:ByteArray):Tot (spec_OwnWrite.f k t key) (fun _=>True):=by
 have loop:∀ (m n:Nat) (i:Int),i+1=(m:Int)→m<n→m≤t.2.2.1.length→Tot (spec_OwnWrite.l0 k n key i t.1 t.2.1 t.2.2.1 ByteArray.empty false ByteArray.empty) (fun _=>True):=by
  intro m
  induction m with
  | zero =>
   intro n i hi hn hm
   obtain ⟨n,rfl⟩:∃ q,n=q+1:=⟨n-1,by omega⟩
   simp only [spec_OwnWrite.l0,spec_OwnWrite.b0]
   exact tot_no (decF (by omega)) (tot_some trivial)
  | succ m ih =>
   intro n i hi hn hm
   obtain ⟨n,rfl⟩:∃ q,n=q+1:=⟨n-1,by omega⟩
   have hw:w64 (i-1)=i-1:=w64_eq (by omega) (by omega)
   simp only [spec_OwnWrite.l0,spec_OwnWrite.b0,hw]
   exact tot_yes (decT (by omega)) (tot_inb (by omega) (by omega) (tot_bif (fun _=>tot_inb (by omega) (by omega) (tot_some trivial)) (fun _=>ih n (i-1) (by omega) (by omega) (by omega))))
 unfold spec_OwnWrite.f spec_OwnWrite.t
 rw [w64_eq (n:=(t.2.2.1.length:Int)-1) (by omega) (by omega)]
 exact loop t.2.2.1.length k _ (by omega) (by omega) (Nat.le_refl _)
theorem netWrites_t {k:Nat} (hk:2 ^ 50≤k) {t:Ty.den TTxn} (h:t.2.2.1.length≤1000):Tot (spec_NetWrites.f k t) (fun r=>r.1.length≤1000):=by
 have loop:∀ (m n:Nat) (i:Int) (out:PutL),0≤i→i+(m:Int)=(t.2.2.1.length:Int)→m<n→(out.length:Int)≤i→Tot (spec_NetWrites.l0 k n i t.1 t.2.1 t.2.2.1 out) (fun r=>r.1.length≤1000):=by
  intro m
  induction m with
  | zero =>
   intro n i out h0 h1 hn ho
   obtain ⟨n,rfl⟩:∃ q,n=q+1:=⟨n-1,by omega⟩
   simp only [spec_NetWrites.l0,spec_NetWrites.b0]
   exact tot_no (decF (by omega)) (tot_some (by show out.length≤1000;omega))
  | succ m ih =>
   intro n i out h0 h1 hn ho
   obtain ⟨n,rfl⟩:∃ q,n=q+1:=⟨n-1,by omega⟩
   have hw:w64 (i+1)=i+1:=w64_eq (by omega) (by omega)
   have inner:∀ (d n':Nat) (b:Bool) (j:Int),0≤j→j+(d:Int)=i→d<n'→Tot (spec_NetWrites.l1 k (spec_NetWrites.l0 k n) n' i b j t.1 t.2.1 t.2.2.1 out) (fun r=>r.1.length≤1000):=by
    intro d
    induction d with
    | zero =>
     intro n' b j j0 j1 hn'
     obtain ⟨n',rfl⟩:∃ q,n'=q+1:=⟨n'-1,by omega⟩
     simp only [spec_NetWrites.l1,spec_NetWrites.b1,hw]
     refine tot_no (decF (by omega)) (tot_bif (fun _=>tot_inb h0 (by omega) (tot_bind (ownWrite_t hk (t:=(t.1,(t.2.1,(t.2.2.1,())))) h _) fun r _=>tot_rm (by omega) (by decide) ?_)) (fun _=>?_))
     · exact ih n (i+1) (out++[r.1]) (by omega) (by omega) (by omega) (by rw [len_snoc];omega)
     · exact ih n (i+1) out (by omega) (by omega) (by omega) (by omega)
    | succ d ih2 =>
     intro n' b j j0 j1 hn'
     obtain ⟨n',rfl⟩:∃ q,n'=q+1:=⟨n'-1,by omega⟩
     have hj:w64 (j+1)=j+1:=w64_eq (by omega) (by omega)
     simp only [spec_NetWrites.l1,spec_NetWrites.b1,hj]
     exact tot_yes (decT (by omega)) (tot_bif (fun _=>tot_inb j0 (by omega) (tot_inb h0 (by omega) (ih2 n' _ (j+1) (by omega) (by omega) (by omega)))) (fun _=>ih2 n' _ (j+1) (by omega) (by omega) (by omega)))
   simp only [spec_NetWrites.l0,spec_NetWrites.b0]
   exact tot_yes (decT (by omega)) (inner i.toNat k true 0 (by omega) (by omega) (by omega))
 unfold spec_NetWrites.f spec_NetWrites.t
 exact loop t.2.2.1.length k 0 [] (by omega) (by omega) (by omega) (by decide)
theorem valid_t {k:Nat} (hk:2 ^ 50≤k) {t:Ty.den TTxn} (h:TV t) {dir:EntryL} (hd:dir.length≤268435456):Tot (spec_Valid.f k t dir) (fun _=>True):=by
 obtain ⟨h1,h2⟩:=h
 have loop:∀ (m n:Nat) (i:Int),0≤i→i+(m:Int)=(t.2.1.length:Int)→m<n→Tot (spec_Valid.l0 k n dir i t.1 t.2.1 t.2.2.1) (fun _=>True):=by
  intro m
  induction m with
  | zero =>
   intro n i h0 h1 hn
   obtain ⟨n,rfl⟩:∃ q,n=q+1:=⟨n-1,by omega⟩
   simp only [spec_Valid.l0,spec_Valid.b0]
   exact tot_no (decF (by omega)) (tot_some trivial)
  | succ m ih =>
   intro n i h0 h1 hn
   obtain ⟨n,rfl⟩:∃ q,n=q+1:=⟨n-1,by omega⟩
   have hw:w64 (i+1)=i+1:=w64_eq (by omega) (by omega)
   simp only [spec_Valid.l0,spec_Valid.b0,hw]
   refine tot_yes (decT (by omega)) (tot_inb h0 (by omega) ?_)
   rw [specDirGet_eq hk (by omega)]
   have hq:∃ q,getR (getE dir (t.2.1.getD i.toNat (Ty.dflt TReadRow)).1)=some q:=by cases getE dir (t.2.1.getD i.toNat (Ty.dflt TReadRow)).1 <;> exact ⟨_,rfl⟩
   obtain ⟨q,hq⟩:=hq
   exact tot_bindE hq (tot_inb h0 (by omega) (tot_bif (fun _=>tot_some trivial) (fun _=>ih n (i+1) (by omega) (by omega) (by omega))))
 unfold spec_Valid.f spec_Valid.t
 exact loop t.2.1.length k 0 (by omega) (by omega) (by omega)
theorem txnRead_t {k:Nat} (hk:2 ^ 50≤k) {t:Ty.den TTxn} (h:TV t) (key:ByteArray) (b:Int):Tot (spec_TxnRead.f k t key b) (fun r=>TV r.1):=by
 have h1:=h.1
 have loop:∀ (m n:Nat) (i:Int),0≤i→i+(m:Int)=(t.2.1.length:Int)→m<n→Tot (spec_TxnRead.l0 k n key b i t.1 t.2.1 t.2.2.1 [] [] false t.2.1 t.2.2.1 t.1) (fun r=>TV r.1):=by
  intro m
  induction m with
  | zero =>
   intro n i h0 g1 hn
   obtain ⟨n,rfl⟩:∃ q,n=q+1:=⟨n-1,by omega⟩
   simp only [spec_TxnRead.l0,spec_TxnRead.b0]
   refine tot_no (decF (by omega)) (tot_bif (fun _=>tot_some h) (fun hb=>tot_rm (by omega) (by decide) (tot_some ⟨?_,h.2⟩)))
   have hb:=of_decide_eq_false hb
   show (t.2.1++[_]).length≤20
   rw [len_snoc]
   omega
  | succ m ih =>
   intro n i h0 g1 hn
   obtain ⟨n,rfl⟩:∃ q,n=q+1:=⟨n-1,by omega⟩
   have hw:w64 (i+1)=i+1:=w64_eq (by omega) (by omega)
   simp only [spec_TxnRead.l0,spec_TxnRead.b0,hw]
   exact tot_yes (decT (by omega)) (tot_inb h0 (by omega) (tot_bif (fun _=>tot_inb h0 (by omega) (tot_bif (fun _=>tot_some h) (fun _=>tot_some h))) (fun _=>ih n (i+1) (by omega) (by omega) (by omega))))
 unfold spec_TxnRead.f spec_TxnRead.t
 refine tot_bindE (copyT_eq k h) (tot_bif (fun _=>tot_some h) (fun _=>tot_bindE (specKeyOk_eq k key) (tot_bif (fun _=>tot_some h) (fun _=>?_))))
 exact loop t.2.1.length k 0 (by omega) (by omega) (by omega)
theorem txnWrite_t {k:Nat} (hk:2 ^ 50≤k) {t:Ty.den TTxn} (h:TV t) (p:Ty.den TPut):Tot (spec_TxnWrite.f k t p) (fun r=>TV r.1):=by
 have h2:=h.2
 have hz:(t.2.2.1++[p]).length=t.2.2.1.length+1:=len_snoc ..
 unfold spec_TxnWrite.f spec_TxnWrite.t
 refine tot_bindE (copyT_eq k h) (tot_bif (fun _=>tot_some h) (fun _=>tot_bindE (specPutsOk_eq hk _) (tot_bif (fun _=>tot_some h) (fun _=>tot_rm (by show t.2.2.1.length+1≤_;omega) (by decide) ?_))))
 refine tot_bind (netWrites_t hk (t:=(t.1,(t.2.1,((t.2.2.1++[p]),())))) (by show (t.2.2.1++[p]).length≤1000;omega)) fun r3 q3=>tot_bif (fun _=>tot_bindE (copyT_eq k h) (tot_some h)) (fun _=>tot_bif (fun _=>tot_bindE (copyT_eq k h) (tot_some h)) (fun hb=>?_))
 have hb:=of_decide_eq_false hb
 refine tot_some ⟨h.1,?_⟩
 have hb:¬ ((t.2.2.1++[p]).length:Int) > 50:=hb
 show (t.2.2.1++[p]).length≤50
 omega
theorem l16Get_t {k:Nat} (hk:2 ^ 50≤k) {e:Ty.den TEngine} (h:EV e) {s:Ty.den TStep} (h0:LE.le (α:=Int) 0 s.2.1) (h1:LT.lt (α:=Int) s.2.1 (e.2.2.2.1.length:Int)):Tot (spec_l16Get_g.f k e s) (fun r=>EV r.1):=by
 have ht:=get_TV h.txn (Int.toNat s.2.1)
 have hdir:=h.dir
 unfold spec_l16Get_g.f spec_l16Get_g.t
 refine tot_inb h0 h1 (tot_bindE (specKeyOk_eq k _) (tot_bif (fun _=>tot_some h) (fun _=>tot_bind (ownWrite_t hk (by have:=ht.2;omega) _) fun r2 _=>tot_bif (fun _=>tot_bif (fun _=>tot_some h) (fun _=>tot_some h)) (fun _=>?_))))
 refine tot_bindE (specGet_eq hk h.disk.sz (by omega) _) (tot_bif (fun _=>tot_some h) (fun _=>tot_bind (txnRead_t hk ht _ _) fun r4 q4=>tot_bif (fun _=>tot_some h) (fun _=>tot_inb h0 h1 (tot_some (set_EV h _ q4)))))
theorem l16Commit_t {k:Nat} (hk:2 ^ 50≤k) {e:Ty.den TEngine} (h:EV e) {s:Ty.den TStep} (h0:LE.le (α:=Int) 0 s.2.1) (h1:LT.lt (α:=Int) s.2.1 (e.2.2.2.1.length:Int)):Tot (spec_l16Commit_g.f k e s) (fun r=>EV r.1):=by
 have ht:=get_TV h.txn (Int.toNat s.2.1)
 have hdir:=h.dir
 have hids:=h.ids
 unfold spec_l16Commit_g.f spec_l16Commit_g.t
 refine tot_inb h0 h1 (tot_inb h0 h1 ?_)
 refine tot_bind (valid_t hk ht hdir) fun r2 _=>tot_bif (fun _=>tot_some (set_EV h _ ⟨Nat.zero_le _,Nat.zero_le _⟩)) (fun _=>?_)
 refine tot_bind (netWrites_t hk (by have:=ht.2;omega)) fun r3 q3=>?_
 refine tot_bindE (specCommit_eq hk h.disk.sz (by omega) (by omega) (by omega)) (tot_some ?_)
 obtain ⟨c1,c2,c3⟩:=commit_keep r3.1 h.disk hids hdir
 have hs:=set_EV h (Int.toNat s.2.1) (t:=(false,([],([],())))) ⟨Nat.zero_le _,Nat.zero_le _⟩
 exact ⟨c2,c3,c1,hs.len,hs.txn⟩
theorem dirKeys_t {k:Nat} (hk:2 ^ 50≤k) {l:EntryL} (hl:l.length≤268435456):Tot (spec_DirKeys.f k l) (fun _=>True):=by
 unfold spec_DirKeys.f spec_DirKeys.t
 refine tot_of (P:=fun _=>True) (r:=(l.map (·.1),())) ?_ trivial
 refine (forL0 (L:=fun n i s=>spec_DirKeys.l0 k n l i s) (R:=fun r s=>some (s++r.map (·.1),())) (Ty.dflt TEntry) l (fun i s=>(s.length:Int)=i) (fun n s hs=>?_) (fun n i s x rest h0 h1 hx hr hp ih=>?_) (n:=k) (s:=[]) (by omega) rfl).trans (by rw [List.nil_append])
 · simp (disch:=omega) only [spec_DirKeys.l0,spec_DirKeys.b0,decF,c_f,List.map_nil,List.append_nil]
 · have ih:=ih (s++[x.1]) (by rw [len_snoc];omega)
   simp (disch:=first | omega | decide) only [spec_DirKeys.l0,spec_DirKeys.b0,decT h1,c_t,inb_eq,hx,rm_ok,w64_eq,ih,List.map_cons]
   rw [a_a]
   rfl
theorem engineStep_t {k:Nat} (hk:2 ^ 50≤k) {e:Ty.den TEngine} (h:EV e) (s:Ty.den TStep):Tot (spec_EngineStep_g.f k e s) (fun r=>EV r.1):=by
 have hd:=h.disk
 have hdir:=h.dir
 have hids:=h.ids
 have hlen:=h.len
 have hsz:=hd.sz
 have z1:=hsz.l
 have z2:=hsz.u
 have z3:=hsz.n
 unfold spec_EngineStep_g.f spec_EngineStep_g.t
 refine tot_bindE (copyE_eq hk h) (tot_bif (fun _=>tot_bif (fun _=>tot_some h) (fun _=>tot_bindE (specEngNew_eq hk hsz) (tot_some (open_EV hd)))) (fun _=>tot_bif (fun _=>?_) (fun _=>tot_bif (fun _=>tot_some h) (fun _=>tot_bif (fun _=>?_) (fun _=>tot_bif (fun _=>?_) (fun _=>tot_bif (fun _=>?_) (fun _=>?_)))))))
 · -- room
   have hu:=hd.use
   have hc:=hd.cap1
   have used_:spec_Used.f k e.2.2.1=some ((used e.2.2.1.1:Int),()):=by
    unfold spec_Used.f spec_Used.t
    rw [specDisk_eq hk (by omega) (by omega),o_s,disk_iff.2 hd]
    simp only [n_t,c_f]
    rw [specUsed_eq hk (by omega) (by omega),o_s]
   refine tot_bindE (specDisk_eq hk (by omega) (by omega)) (tot_bif (fun _=>tot_some h) (fun _=>tot_bindE used_ (tot_bindE (l1InD_eq k _ _ _) (tot_bif (fun _=>tot_some h) (fun hb=>tot_bindE used_ (tot_some ?_))))))
   simp only [Bool.not_eq_false',decide_eq_true_eq] at hb
   have hu':LE.le (α:=Int) (used e.2.2.1.1:Int) 100000:=Int.le_trans hu hc
   rw [w64_eq (n:=100000-(used e.2.2.1.1:Int)) (by omega) (by omega)] at hb
   obtain ⟨N,hN⟩:∃ N:Int,N=s.2.2.2.2.1:=⟨_,rfl⟩
   rw [← hN] at hb ⊢
   rw [w64_eq (n:=(used e.2.2.1.1:Int)+N) (by omega) (by omega)]
   exact ⟨hids,hdir,⟨hd.len,by show LE.le (α:=Int) 0 ((used e.2.2.1.1:Int)+N);omega,by show LE.le (α:=Int) ((used e.2.2.1.1:Int)+N) 100000;omega,hd.fu0,hd.fu1,by show LE.le (α:=Int) (used e.2.2.1.1:Int) ((used e.2.2.1.1:Int)+N);omega,hd.all,hd.keys⟩,hlen,h.txn⟩
 · -- merge
   refine tot_bindE (specMerge_eq hk (st:=e.2.1) (d:=e.2.2.1) hsz (by omega) (by omega)) (tot_some ?_)
   obtain ⟨c1,c2,c3⟩:=merge_keep hd hids hdir
   exact ⟨c2,c3,c1,hlen,h.txn⟩
 · exact tot_bind (dirKeys_t hk hdir) fun _ _=>tot_some h
 · rw [mks_ok (by omega) (by omega) (by decide)]
   exact tot_some ⟨Nat.zero_le _,Nat.zero_le _,hd,Nat.le_refl _,rep_TV⟩
 · refine tot_bindE (l1InD_eq k _ _ _) (tot_bif (fun _=>tot_some h) (fun hb=>tot_bindE (l1InD_eq k _ _ _) (tot_bif (fun _=>tot_some h) (fun _=>?_))))
   simp only [Bool.not_eq_false',decide_eq_true_eq] at hb
   rw [w64_eq (n:=(e.2.2.2.1.length:Int)-1) (by omega) (by omega)] at hb
   have i0:LE.le (α:=Int) 0 s.2.1:=hb.1
   have i1:LT.lt (α:=Int) s.2.1 (e.2.2.2.1.length:Int):=by
    have:=hb.2
    exact Int.lt_of_le_of_lt this (by omega)
   have PUT:Tot ((spec_PutsOk.f k [(s.2.2.1,((s.1==4),(s.2.2.2.1,())))]).bind fun r15=>(bif (!r15.1) then (some (e,((4,(ByteArray.empty,([],()))),()))) else (inb s.2.1 (List.length e.2.2.2.1:Int)
    ((spec_TxnWrite.f k (List.getD e.2.2.2.1 (Int.toNat s.2.1) (Ty.dflt TTxn)) (s.2.2.1,((s.1==4),(s.2.2.2.1,())))).bind fun r16=>(bif (!r16.2.1) then (some (e,((5,(ByteArray.empty,([],()))),()))) else (inb s.2.1 (List.length e.2.2.2.1:Int)
     (let l17:=(List.set e.2.2.2.1 (Int.toNat s.2.1) r16.1);(some ((e.1,(e.2.1,(e.2.2.1,(l17,())))),((0,(ByteArray.empty,([],()))),()))))))))):spec_EngineStep_g.Rs) (fun r=>EV r.1) :=
    tot_bindE (specPutsOk_eq hk _) (tot_bif (fun _=>tot_some h) (fun _=>tot_inb i0 i1 (tot_bind (txnWrite_t hk (get_TV h.txn _) _) fun r16 q16=>tot_bif (fun _=>tot_some h) (fun _=>tot_inb i0 i1 (tot_some (set_EV h _ q16))))))
   have GET:Tot ((spec_l16Get_g.f k e s).bind fun r13=>(some r13)) (fun r=>EV r.1):=tot_bind (l16Get_t hk h i0 i1) fun r q=>tot_some q
   have COM:Tot ((spec_l16Commit_g.f k e s).bind fun r13=>(some r13)) (fun r=>EV r.1):=tot_bind (l16Commit_t hk h i0 i1) fun r q=>tot_some q
   have SET:∀ b:Bool,Tot (inb s.2.1 (List.length e.2.2.2.1:Int) (let l11:=(List.set e.2.2.2.1 (Int.toNat s.2.1) (b,([],([],()))));(some ((e.1,(e.2.1,(e.2.2.1,(l11,())))),((0,(ByteArray.empty,([],()))),())))):spec_EngineStep_g.Rs) (fun r=>EV r.1):=fun b=>tot_inb i0 i1 (tot_some (set_EV h _ ⟨Nat.zero_le _,Nat.zero_le _⟩))
   repeat' first
    | exact PUT
    | exact GET
    | exact COM
    | exact SET _
    | exact tot_some h
    | refine tot_inb i0 i1 ?_
    | refine tot_bif (fun _=>?_) (fun _=>?_)
theorem run_t {k:Nat} (hk:2 ^ 50≤k) {e:Ty.den TEngine} (h:EV e) {l:List (Ty.den TStep)} (hl:l.length≤100000):Tot (spec_Run.f k e l) (fun r=>EV r.1.1):=by
 have L1:∀ (m n:Nat) (i:Int) (e:Ty.den TEngine) (y2:List Int) (y3:EntryL) (y4:PairL) (y5:List (Ty.den TTxn)) (y6:List (Ty.den TAnswer)) (y7:List (Ty.den TAck)) (y8:PutL) (y9:Bool) (y10 y11 y12 y13 y14 y15:Int) (y16:Bool) (a:List (Ty.den TAnswer)) (b:List (Ty.den TAck)) (c:PutL),
  0≤i→i+(m:Int)=(l.length:Int)→m<n→EV e→(a.length:Int)≤i→(b.length:Int)≤i →
  Tot (spec_Run.l1 k n l i y2 y3 y4 y5 y6 y7 y8 y9 y10 y11 y12 y13 y14 y15 y16 e.2.1.1.2.1 e.2.1.2.1 e.2.2.1.1 e.2.2.2.1 a b c e.1 e.2.1.1.1 e.2.1.2.2.1 e.2.1.2.2.2.1 e.2.1.2.2.2.2.1 e.2.2.1.2.1 e.2.2.1.2.2.1 e.2.2.1.2.2.2.1) (fun r=>EV r.1.1):=by
  intro m
  induction m with
  | zero =>
   intro n i e y2 y3 y4 y5 y6 y7 y8 y9 y10 y11 y12 y13 y14 y15 y16 a b c h0 h1 hn he ha hb
   obtain ⟨n,rfl⟩:∃ q,n=q+1:=⟨n-1,by omega⟩
   simp only [spec_Run.l1,spec_Run.b1]
   exact tot_no (decF (by omega)) (tot_some he)
  | succ m ih =>
   intro n i e y2 y3 y4 y5 y6 y7 y8 y9 y10 y11 y12 y13 y14 y15 y16 a b c h0 h1 hn he ha hb
   obtain ⟨n,rfl⟩:∃ q,n=q+1:=⟨n-1,by omega⟩
   have hw:w64 (i+1)=i+1:=w64_eq (by omega) (by omega)
   have hlen:=he.len
   simp only [spec_Run.l1,spec_Run.b1,hw]
   refine tot_yes (decT (by omega)) (tot_bif (fun _=>?_) (fun _=>tot_some he))
   refine tot_inb h0 (by omega) ?_
   have NEXT:∀ (e':Ty.den TEngine) (a':List (Ty.den TAnswer)) (b':List (Ty.den TAck)),EV e'→(a'.length:Int)≤i+1→(b'.length:Int)≤i+1 →
    Tot (spec_Run.l1 k n l (i+1) y2 y3 y4 y5 y6 y7 y8 y9 y10 y11 y12 y13 y14 y15 y16 e'.2.1.1.2.1 e'.2.1.2.1 e'.2.2.1.1 e'.2.2.2.1 a' b' c e'.1 e'.2.1.1.1 e'.2.1.2.2.1 e'.2.1.2.2.2.1 e'.2.1.2.2.2.2.1 e'.2.2.1.2.1 e'.2.2.1.2.2.1 e'.2.2.1.2.2.2.1) (fun r=>EV r.1.1) :=
    fun e' a' b' q1 q2 q3=>ih n (i+1) e' y2 y3 y4 y5 y6 y7 y8 y9 y10 y11 y12 y13 y14 y15 y16 a' b' c (by omega) (by omega) (by omega) q1 q2 q3
   have STEP:=engineStep_t hk (e:=(e.1,(((e.2.1.1.1,(e.2.1.1.2.1,())),(e.2.1.2.1,(e.2.1.2.2.1,(e.2.1.2.2.2.1,(e.2.1.2.2.2.2.1,()))))),((e.2.2.1.1,(e.2.2.1.2.1,(e.2.2.1.2.2.1,(e.2.2.1.2.2.2.1,())))),(e.2.2.2.1,()))))) he (List.getD l (Int.toNat i) (Ty.dflt TStep))
   have la:∀ x:Ty.den TAnswer,((a++[x]).length:Int)≤i+1:=fun x=>by rw [len_snoc];omega
   have lb:∀ x:Ty.den TAck,((b++[x]).length:Int)≤i+1:=fun x=>by rw [len_snoc];omega
   repeat' first
    | exact NEXT _ _ _ (by assumption) (la _) (lb _)
    | exact NEXT _ _ _ (by assumption) (la _) (by omega)
    | exact tot_some (by assumption)
    | refine tot_bind STEP fun _ _=>?_
    | refine tot_rm (by omega) (by decide) ?_
    | refine tot_bindE (l1InD_eq k _ _ _) (tot_bif (fun hq=>?_) (fun _=>?_))
    | refine tot_inb (by have hq':=of_decide_eq_true hq;exact hq'.1) (by have hq':=of_decide_eq_true hq;rw [w64_eq (by omega) (by omega)] at hq';exact Int.lt_of_le_of_lt hq'.2 (by omega)) ?_
    | refine tot_bind (netWrites_t hk (by have:=(get_TV he.txn (Int.toNat (List.getD l (Int.toNat i) (Ty.dflt TStep)).2.1)).2;omega)) fun _ _=>?_
    | refine tot_bif (fun _=>?_) (fun _=>?_)
 unfold spec_Run.f spec_Run.t
 refine tot_bindE (copyE_eq hk h) ?_
 obtain ⟨n,hn⟩:∃ q,k=q+1:=⟨k-1,by omega⟩
 rw [show spec_Run.l0 k k=spec_Run.l0 k (n+1) by rw [← hn]]
 have same:∀ (a:List (Ty.den TAnswer)),spec_Run.l0 k (n+1)=spec_Run.l1 k (n+1):=fun _=>rfl
 rw [same []]
 exact L1 l.length (n+1) 0 e [] [] [] [] [] [] [] false 0 0 0 0 0 0 false [] [] [] (by omega) (by omega) (by omega) h (by decide) (by decide)
end Go.Proofs.YtmakghhmpgfboaaGreat.G
namespace Go.Proofs.YtmakghhmpgfboaaGreat.G
open Go.V
theorem below_c (k:Nat) {c:CurD} (h:CI c) {n:Int} (h0:0<n) (h1:n≤256):Tot (spec_l1Below.f k c n) (fun r=>CI r.1):=tot_mono (l1Below_t k h h0 h1) fun _ q=>q.1
theorem text_c {k:Nat} (hk:2 ^ 50≤k) {c:CurD} (h:CI c) {m:Int} (h0:0≤m) (h1:m≤200):Tot (spec_l1Text.f k c m) (fun r=>CI r.1):=tot_mono (l1Text_t hk h h0 h1) fun _ q=>q.1
theorem pick_c (k:Nat) {c:CurD} (h:CI c) {l:List ByteArray} (h0:0<l.length) (h1:l.length≤256):Tot (spec_l1Pick.f k c l) (fun r=>CI r.1):=tot_mono (l1Pick_t k h h0 h1) fun _ q=>q.1
theorem pickInt_c (k:Nat) {c:CurD} (h:CI c) {l:List Int} (h0:0<l.length) (h1:l.length≤256):Tot (spec_l1PickInt.f k c l) (fun r=>CI r.1):=tot_mono (l1PickInt_t k h h0 h1) fun _ q=>q.1
theorem tot_mks {α:Type} {P:α→Prop} {b:Nat} {n:Int} {x:Option α} (h0:0≤n) (h1:n≤1099511627776) (hb:b≤128) (h:Tot x P):Tot (mks b n x) P:=by rw [mks_ok h0 h1 hb];exact h
theorem l16Step_t {k:Nat} (hk:2 ^ 50≤k) {c:CurD} (h:CI c):Tot (spec_l16Step.f k c) (fun r=>CI r.1):=by
 unfold spec_l16Step.f spec_l16Step.t
 repeat' first
  | exact tot_some (by assumption)
  | refine tot_bind (below_c k (by assumption) (by omega) (by omega)) fun _ _=>?_
  | refine tot_bind (l5Key_t k (by assumption)) fun _ _=>?_
  | refine tot_bind (text_c hk (by assumption) (by omega) (by omega)) fun _ _=>?_
  | refine tot_bind (pickInt_c k (by assumption) (by decide) (by decide)) fun _ _=>?_
  | refine tot_bind (pick_c k (by assumption) (by decide) (by decide)) fun _ _=>?_
  | refine tot_bif (fun _=>?_) (fun _=>?_)
theorem l16StepsL {k:Nat} (hk:2 ^ 50≤k):∀ (m n:Nat) (c:CurD) (out:List (Ty.den TStep)) (rows:List Bool),m<n→CI c→out.length+2*m≤1000→rows.length=3 →
 Tot (spec_l16Steps.l0 k n (m:Int) c.1 c.2.1 c.2.2.1 out rows) (fun r=>CI r.1∧r.2.1.length≤1000):=by
 intro m
 induction m with
 | zero =>
  intro n c out rows hn hc ho hr
  obtain ⟨n,rfl⟩:∃ q,n=q+1:=⟨n-1,by omega⟩
  simp only [spec_l16Steps.l0,spec_l16Steps.b0]
  exact tot_no (decF (by omega)) (tot_some ⟨hc,by show out.length≤1000;omega⟩)
 | succ m ih =>
  intro n c out rows hn hc ho hr
  obtain ⟨n,rfl⟩:∃ q,n=q+1:=⟨n-1,by omega⟩
  have hw:w64 (((m+1:Nat):Int)-1)=(m:Int):=by rw [w64_eq (by omega) (by omega)];omega
  simp only [spec_l16Steps.l0,spec_l16Steps.b0,hw]
  refine tot_yes (decT (by omega)) (tot_bind (l16Step_t hk hc) fun r2 q2=>?_)
  repeat' first
   | exact ih n _ _ _ (by omega) (by assumption) (by simp only [l_a,List.length_singleton];omega) (by first | exact hr | rfl | (simp only [List.length_set];exact hr))
   | refine tot_bind (l1Once_t k (by assumption) (by omega) (by omega)) fun _ _=>?_
   | refine tot_rm (by first | omega | (simp only [l_a,List.length_singleton];omega)) (by decide) ?_
   | refine tot_mks (by omega) (by omega) (by decide) ?_
   | refine tot_bindE (l1InD_eq k _ _ _) (tot_bif (fun hq=>?_) (fun _=>?_))
   | refine tot_inb (by have hq':=of_decide_eq_true hq;exact hq'.1) (by have hq':=of_decide_eq_true hq;exact Int.lt_of_le_of_lt hq'.2 (by rw [hr];decide)) ?_
   | refine tot_bif (fun _=>?_) (fun _=>?_)
theorem l16Steps_t {k:Nat} (hk:2 ^ 50≤k) {c:CurD} (h:CI c):Tot (spec_l16Steps.f k c 40) (fun r=>CI r.1∧r.2.1.length≤1000):=by
 unfold spec_l16Steps.f spec_l16Steps.t
 rw [show w64 (40+1)=41 from by decide]
 refine tot_mks (by omega) (by omega) (by decide) (tot_bind (l1Below_t k h (by omega) (by omega)) fun r q=>?_)
 obtain ⟨hc,a,b⟩:=q
 have:=l16StepsL hk r.2.1.toNat k r.1 [] (List.replicate (Int.toNat 3) (Ty.dflt .bool)) (by omega) hc (by simp only [List.length_nil];omega) rfl
 rw [show ((r.2.1.toNat:Nat):Int)=r.2.1 by omega] at this
 exact this
theorem l18Script_t {k:Nat} (hk:2 ^ 50≤k) {c:CurD} (h:CI c):Tot (spec_l18Script.f k c 40) (fun r=>CI r.1∧r.2.1.2.2.1.length≤1001):=by
 unfold spec_l18Script.f spec_l18Script.t
 refine tot_bind (l16Steps_t hk h) fun r1 q1=>?_
 obtain ⟨c1,z1⟩:=q1
 refine tot_bind (l1Below_t k c1 (by omega) (by omega)) fun r2 q2=>tot_bif (fun _=>?_) (fun _=>tot_bif (fun _=>?_) (fun _=>tot_some ⟨q2.1,by show r1.2.1.length≤1001;omega⟩))
 · exact tot_bind (l1BelowW_t k q2.1 (by omega)) fun r3 q3=>tot_some ⟨q3.1,by show r1.2.1.length≤1001;omega⟩
 · rw [w64_eq (n:=(r1.2.1.length:Int)+1) (by omega) (by omega)]
   refine tot_bind (l1BelowW_t k q2.1 (by omega)) fun r4 q4=>?_
   obtain ⟨c4,a4,b4⟩:=q4
   have e1:(List.take (Int.toNat r4.2.1) r1.2.1).length≤1000:=by rw [List.length_take];omega
   have e2:(List.take (Int.toNat r4.2.1) r1.2.1).length+(List.drop (Int.toNat r4.2.1) r1.2.1).length=r1.2.1.length:=by rw [← l_a,List.take_append_drop]
   refine tot_inc a4 (by omega) (tot_rm (by omega) (by decide) (tot_bind (below_c k c4 (by omega) (by omega)) fun r5 q5=>?_))
   simp only [List.nil_append]
   refine tot_rm (by omega) (by decide) (tot_inc a4 (by omega) (tot_rm (by rw [len_snoc];omega) (by decide) (tot_some ⟨q5,?_⟩)))
   show ((_++[_])++_).length≤1001
   rw [l_a,len_snoc]
   omega
theorem l1Spoil_t {k:Nat} (hk:2 ^ 50≤k) {c:CurD} (h:CI c) {s:ByteArray} (hs:s.size≤1073741824):Tot (spec_l1Spoil.f k c s) (fun r=>CI r.1∧r.2.1.size≤2*s.size+3):=by
 have hx:∀ i j:Nat,(ByteArray.extract s i j).size≤s.size:=ext_le s
 have hb:∀ x:Int,(bytesOf [x]).size=1:=fun x=>bytes_len [x]
 have hcat:∀ a b:ByteArray,(a++b).size=a.size+b.size:=fun a b=>ByteArray.size_append ..
 unfold spec_l1Spoil.f spec_l1Spoil.t
 refine tot_bif (fun _=>?_) (fun h0=>?_)
 · refine tot_bind (l1Text_t hk h (by omega) (by omega)) fun r q=>tot_some ⟨q.1,?_⟩
   have:=q.2
   show r.2.1.size≤_
   omega
 have h0:(s.size:Int)≠0:=beq_eq_false_iff_ne.1 h0
 refine tot_bind (l1BelowW_t k h (by omega)) fun r2 q2=>?_
 obtain ⟨c2,a2,b2⟩:=q2
 have hw:w64 (r2.2.1+1)=r2.2.1+1:=w64_eq (by omega) (by omega)
 have x1:=hx 0 (Int.toNat r2.2.1)
 have x2:=hx (Int.toNat (r2.2.1+1)) s.size
 have x3:=hx (Int.toNat r2.2.1) s.size
 rw [hw]
 refine tot_bind (below_c k c2 (by omega) (by omega)) fun r3 q3=>tot_bif (fun _=>?_) (fun _=>tot_bif (fun _=>?_) (fun _=>tot_bif (fun _=>?_) (fun _=>?_)))
 · refine tot_inc a2 (by omega) (tot_inc (by omega) (by omega) (tot_cat (by omega) (tot_some ⟨q3,?_⟩)))
   show (_++_:ByteArray).size≤_
   rw [hcat]
   omega
 · refine tot_inc a2 (by omega) (tot_bind (l1Byte_t k q3) fun r4 q4=>tot_cat (by rw [hb];omega) (tot_inc a2 (by omega) (tot_cat (by rw [hcat,hb];omega) (tot_some ⟨q4.1,?_⟩))))
   show (_++_:ByteArray).size≤_
   rw [hcat,hcat,hb]
   omega
 · refine tot_inc a2 (by omega) (tot_some ⟨q3,?_⟩)
   show (ByteArray.extract s 0 _).size≤_
   omega
 · refine tot_inc a2 (by omega) (tot_inb a2 (by omega) (tot_bind (below_c k q3 (by omega) (by omega)) fun r5 q5=>tot_cat (by rw [hb];omega) (tot_inc (by omega) (by omega) (tot_cat (by rw [hcat,hb];omega) (tot_some ⟨q5,?_⟩)))))
   show (_++_:ByteArray).size≤_
   rw [hcat,hcat,hb]
   omega
end Go.Proofs.YtmakghhmpgfboaaGreat.G
namespace Go.Proofs.YtmakghhmpgfboaaGreat.G
open Go.V
abbrev PieceL:=List (Ty.den TPiece)
def hasM (l:PieceL) (id:Int):ByteArray:=match l with
 | []=>⟨#[]⟩
 | p::r=>bif p.1==id then p.2.1 else hasM r id
theorem implHas_eq {k:Nat} (hk:2 ^ 50≤k) (f:Ty.den TFollower) (id:Int) (hl:f.2.1.length≤1099511627775):impl_has.f k f id=some (hasM f.2.1 id,()):=by
 unfold impl_has.f impl_has.t
 refine forL0 (L:=fun n i (_:Unit)=>impl_has.l0 k n id f.2.1 f.2.1.length i) (R:=fun r _=>some (hasM r id,())) (Ty.dflt TPiece) f.2.1 (fun _ _=>True) (fun n s hs=>?_) (fun n i s x rest h0 h1 hx hr hp ih=>?_) (n:=k) (s:=()) (by omega) trivial
 · simp (disch:=omega) only [impl_has.l0,impl_has.b0,decF,c_f,hasM]
 · simp (disch:=omega) only [impl_has.l0,impl_has.b0,decT,c_t,inb_eq,hx,w64_eq,hasM]
   rw [ih () trivial]
   cases x.1==id <;> rfl
theorem specHas_eq {k:Nat} (hk:2 ^ 50≤k) (f:Ty.den TFollower) (id:Int) (hl:f.2.1.length≤1099511627775):spec_l27Text.f k f id=some (hasM f.2.1 id,()):=by
 unfold spec_l27Text.f spec_l27Text.t
 refine forL0 (L:=fun n i (_:Unit)=>spec_l27Text.l0 k n id i f.1 f.2.1) (R:=fun r _=>some (hasM r id,())) (Ty.dflt TPiece) f.2.1 (fun _ _=>True) (fun n s hs=>?_) (fun n i s x rest h0 h1 hx hr hp ih=>?_) (n:=k) (s:=()) (by omega) trivial
 · simp (disch:=omega) only [spec_l27Text.l0,spec_l27Text.b0,decF,c_f,hasM]
 · simp (disch:=omega) only [spec_l27Text.l0,spec_l27Text.b0,decT,c_t,inb_eq,hx,w64_eq,hasM]
   rw [ih () trivial]
   cases x.1==id <;> rfl
theorem hasM_size {l:PieceL} {id:Int} {b:Nat} (h:∀ p ∈ l,p.2.1.size≤b):(hasM l id).size≤b:=by
 induction l with
 | nil=>exact Nat.zero_le _
 | cons p r ih =>
  unfold hasM
  cases p.1==id
  · exact ih fun q hq=>h q (m_m _ hq)
  · exact h p (m_s ..)
def txs (l:PieceL):Nat:=(l.map fun p=>p.2.1.size).sum
theorem txs_mem {l:PieceL} {p:Ty.den TPiece} (h:p ∈ l):p.2.1.size≤txs l:=by
 unfold txs
 induction l with
 | nil=>cases h
 | cons q l ih =>
  rw [List.map_cons,List.sum_cons]
  rcases List.mem_cons.1 h with e | e
  · subst e;omega
  · have:=ih e;omega
end Go.Proofs.YtmakghhmpgfboaaGreat.G
namespace Go.Proofs.YtmakghhmpgfboaaGreat.G
open Go.V
abbrev BitsL:=List (Ty.den TBit)
def recvL (f:PieceL):BitsL→PieceL→List Int→Option (PieceL × List Int)
 | [],out,ids=>some (out,ids)
 | b::l,out,ids=>bif decide ((0:Int)≤b.2.1∧b.2.1≤((hasM f b.1).size:Int)) then recvL f l (out++[(b.1,(ByteArray.extract (hasM f b.1) 0 (Int.toNat b.2.1)++b.2.2.1,()))]) (ids++[b.1]) else none
def recvE (f:Ty.den TFollower) (next:Int):Option (PieceL × List Int)→Ty.den TFollower × Bool × Unit
 | none=>(f,(false,()))
 | some q=>bif !liveM (next,(q.2,())) then (f,(false,())) else ((next,(q.1,())),(true,()))
def recvM (f:Ty.den TFollower) (p:Ty.den TParcel):Ty.den TFollower × Bool × Unit:=recvE f p.1 (recvL f.2.1 p.2.1 [] [])
def FB (l:PieceL) (B:Nat):Prop:=∀ p ∈ l,p.2.1.size≤B
def PB (l:BitsL) (B:Nat):Prop:=∀ p ∈ l,p.2.2.1.size≤B
theorem specReceive_eq {k:Nat} (hk:2 ^ 50≤k) {f:Ty.den TFollower} {p:Ty.den TParcel} (hf:f.2.1.length≤1000000) (hp:p.2.1.length≤1000000) {B B':Nat} (h1:FB f.2.1 B) (h2:PB p.2.1 B') (hB:B≤1099511627776) (hB':B'≤1099511627776):spec_Receive.f k f p=some (recvM f p):=by
 unfold spec_Receive.f spec_Receive.t
 rw [rm_ok (by omega) (by decide),List.nil_append]
 refine forL0 (L:=fun n i (s:PieceL × List Int)=>spec_Receive.l0 k n i f.1 f.2.1 p.1 p.2.1 [] 0 f.2.1 f.1 s.1 p.1 s.2) (R:=fun r s=>some (recvE f p.1 (recvL f.2.1 r s.1 s.2))) (Ty.dflt TBit) p.2.1 (fun i s=>(s.1.length:Int)≤i∧(s.2.length:Int)≤i) (fun n s hs=>?_) (fun n i s x rest g0 g1 hx hr hs ih=>?_) (n:=k) (s:=([],[])) (by omega) ⟨by decide,by decide⟩
 · simp only [spec_Receive.l0,spec_Receive.b0]
   rw [decF (by omega),c_f,specLive_eq hk,o_s]
   unfold recvL recvE
   simp only []
   cases liveM (p.1,(s.2,())) <;> rfl
 · obtain ⟨s1,s2⟩:=hs
   have hm:x ∈ p.2.1:=by rw [← hx];exact getD_mem (by omega)
   have hsz:=hasM_size (id:=x.1) h1
   have hpz:=h2 x hm
   have hez:(ByteArray.extract (hasM f.2.1 x.1) 0 (Int.toNat x.2.1)).size≤(hasM f.2.1 x.1).size:=by rw [ByteArray.size_extract];omega
   simp only [spec_Receive.l0,spec_Receive.b0]
   rw [decT g1,c_t,inb_eq g0 g1,hx,specHas_eq hk _ _ (by show f.2.1.length≤_;omega),o_s,l1InD_eq,o_s]
   unfold recvL
   simp only []
   by_cases c:(0:Int)≤x.2.1∧x.2.1≤((hasM f.2.1 x.1).size:Int)
   · rw [decT c,n_t,c_f,c_t,inc_eq c.1 c.2,cat_ok (by omega),rm_ok (by omega) (by decide),rm_ok (by omega) (by decide),w64_eq (n:=i+1) (by omega) (by omega)]
     exact ih (s.1++[(x.1,(ByteArray.extract (hasM f.2.1 x.1) 0 (Int.toNat x.2.1)++x.2.2.1,()))],s.2++[x.1]) ⟨by simp only [];rw [len_snoc];omega,by simp only [];rw [len_snoc];omega⟩
   · rw [decF c]
     rfl
theorem implReceive_eq {k:Nat} (hk:2 ^ 50≤k) {f:Ty.den TFollower} {p:Ty.den TParcel} (hf:f.2.1.length≤1000000) (hp:p.2.1.length≤1000000) {B B':Nat} (h1:FB f.2.1 B) (h2:PB p.2.1 B') (hB:B≤1099511627776) (hB':B'≤1099511627776):impl_Receive.f k f p=some (recvM f p):=by
 unfold impl_Receive.f impl_Receive.t
 rw [rm_ok (by omega) (by decide)]
 refine forL0 (L:=fun n i (s:PieceL × List Int)=>impl_Receive.l0 k n p.2.1 p.2.1.length i f.1 f.2.1 [] 0 f.2.1 f.1 s.1 p.1 s.2 p.1) (R:=fun r s=>some (recvE f p.1 (recvL f.2.1 r s.1 s.2))) (Ty.dflt TBit) p.2.1 (fun i s=>(s.1.length:Int)≤i∧(s.2.length:Int)≤i) (fun n s hs=>?_) (fun n i s x rest g0 g1 hx hr hs ih=>?_) (n:=k) (s:=([],[])) (by omega) ⟨by decide,by decide⟩
 · obtain ⟨s1,s2⟩:=hs
   simp only [impl_Receive.l0,impl_Receive.b0]
   rw [decF (by omega),c_f,implLive_eq hk (by show s.2.length≤_;omega),o_s]
   unfold recvL recvE
   simp only []
   cases liveM (p.1,(s.2,())) <;> rfl
 · obtain ⟨s1,s2⟩:=hs
   have hm:x ∈ p.2.1:=by rw [← hx];exact getD_mem (by omega)
   have hsz:=hasM_size (id:=x.1) h1
   have hpz:=h2 x hm
   have hez:(ByteArray.extract (hasM f.2.1 x.1) 0 (Int.toNat x.2.1)).size≤(hasM f.2.1 x.1).size:=by rw [ByteArray.size_extract];omega
   simp only [impl_Receive.l0,impl_Receive.b0]
   rw [decT g1,c_t,inb_eq g0 g1,hx,implHas_eq hk _ _ (by show f.2.1.length≤_;omega),o_s,inD_eq,o_s]
   unfold recvL
   simp only []
   by_cases c:(0:Int)≤x.2.1∧x.2.1≤((hasM f.2.1 x.1).size:Int)
   · rw [decT c,n_t,c_f,c_t,inc_eq c.1 c.2,cat_ok (by omega),rm_ok (by omega) (by decide),rm_ok (by omega) (by decide),w64_eq (n:=i+1) (by omega) (by omega)]
     exact ih (s.1++[(x.1,(ByteArray.extract (hasM f.2.1 x.1) 0 (Int.toNat x.2.1)++x.2.2.1,()))],s.2++[x.1]) ⟨by simp only [];rw [len_snoc];omega,by simp only [];rw [len_snoc];omega⟩
   · rw [decF c]
     rfl
theorem recvL_facts {f:PieceL} {B B':Nat} (h1:FB f B):∀ (l:BitsL) (out:PieceL) (ids:List Int) (q:PieceL × List Int),PB l B'→FB out (B+B')→recvL f l out ids=some q→q.1.length=out.length+l.length∧FB q.1 (B+B')
 | [],out,ids,q,_,ho,h=>by
  have h:some (out,ids)=some q:=h
  rw [← Option.some.inj h]
  exact ⟨rfl,ho⟩
 | b::l,out,ids,q,h2,ho,h=>by
  unfold recvL at h
  cases c:decide ((0:Int)≤b.2.1∧b.2.1≤((hasM f b.1).size:Int)) with
  | false=>rw [c] at h;cases h
  | true =>
   rw [c,c_t] at h
   have hez:(ByteArray.extract (hasM f b.1) 0 (Int.toNat b.2.1)).size≤(hasM f b.1).size:=by rw [ByteArray.size_extract];omega
   have hsz:=hasM_size (id:=b.1) h1
   have hpz:=h2 b m_s
   obtain ⟨i1,i2⟩:=recvL_facts h1 l _ _ q (fun x hx=>h2 x (m_m _ hx)) (fun x hx=>by
    rcases List.mem_append.1 hx with w | w
    · exact ho x w
    · rw [List.mem_singleton.1 w]
      show (_++_:ByteArray).size≤_
      rw [ByteArray.size_append]
      omega) h
   refine ⟨?_,i2⟩
   rw [i1,len_snoc,l_c]
   omega
theorem recv_facts {f:Ty.den TFollower} {p:Ty.den TParcel} {B B':Nat} (h1:FB f.2.1 B) (h2:PB p.2.1 B'):((recvM f p).2.1=false∧(recvM f p).1=f)∨((recvM f p).2.1=true∧(recvM f p).1.2.1.length=p.2.1.length∧FB (recvM f p).1.2.1 (B+B')):=by
 unfold recvM
 cases c:recvL f.2.1 p.2.1 [] [] with
 | none=>exact .inl ⟨rfl,rfl⟩
 | some q =>
  obtain ⟨i1,i2⟩:=recvL_facts h1 p.2.1 [] [] q h2 (fun x hx=>by cases hx) c
  unfold recvE
  simp only []
  cases liveM (p.1,(q.2,())) with
  | false=>exact .inl ⟨rfl,rfl⟩
  | true=>exact .inr ⟨rfl,by show q.1.length=_;rw [i1,List.length_nil,Nat.zero_add],i2⟩
theorem recv_FB {f:Ty.den TFollower} {p:Ty.den TParcel} {B B':Nat} (h1:FB f.2.1 B) (h2:PB p.2.1 B') {m:Nat} (hf:f.2.1.length≤m) (hp:p.2.1.length≤m):FB (recvM f p).1.2.1 (B+B')∧(recvM f p).1.2.1.length≤m:=by
 rcases recv_facts h1 h2 with ⟨_,e⟩ | ⟨_,e1,e2⟩
 · rw [e]
   exact ⟨fun x hx=>Nat.le_trans (h1 x hx) (Nat.le_add_right _ _),hf⟩
 · exact ⟨e2,by omega⟩
theorem sameF_self {k:Nat} (hk:2 ^ 50≤k) {f:Ty.den TFollower} (hf:f.2.1.length≤1048576):spec_SameFollower.f k f f=some (true,()):=by
 unfold spec_SameFollower.f spec_SameFollower.t
 rw [bne_self_eq_false,c_f,bne_self_eq_false,c_f]
 refine forL0 (L:=fun n i (_:Unit)=>spec_SameFollower.l0 k n i f.1 f.2.1 f.1 f.2.1) (R:=fun r _=>some (true,())) (Ty.dflt TPiece) f.2.1 (fun _ _=>True) (fun n _ _=>?_) (fun n i _ x rest h0 h1 hx hr hp ih=>?_) (n:=k) (s:=()) (by omega) trivial
 · simp only [spec_SameFollower.l0,spec_SameFollower.b0]
   rw [decF (by omega),c_f]
 · simp only [spec_SameFollower.l0,spec_SameFollower.b0]
   rw [decT h1,c_t]
   repeat rw [inb_eq h0 h1]
   rw [hx,w64_eq (n:=i+1) (by omega) (by omega),seq_refl,beq_self_eq_true]
   exact ih () trivial
theorem specParcel_eq {k:Nat} (hk:2 ^ 50≤k) {p:Ty.den TParcel} (hp:p.2.1.length≤1048576):spec_ParcelBytes.f k p=some (p.2.1.foldl (fun (a:Int) b=>w64 (a+(b.2.2.1.size:Int))) 0,()):=by
 unfold spec_ParcelBytes.f spec_ParcelBytes.t
 refine forL0 (L:=fun n i (s:Int)=>spec_ParcelBytes.l0 k n s i p.1 p.2.1) (R:=fun r s=>some (r.foldl (fun (a:Int) b=>w64 (a+(b.2.2.1.size:Int))) s,())) (Ty.dflt TBit) p.2.1 (fun _ _=>True) (fun n s hs=>?_) (fun n i s x rest h0 h1 hx hr hp ih=>?_) (n:=k) (by omega) trivial
 · simp only [spec_ParcelBytes.l0,spec_ParcelBytes.b0]
   rw [decF (by omega),c_f]
   rfl
 · simp only [spec_ParcelBytes.l0,spec_ParcelBytes.b0]
   rw [decT h1,c_t,inb_eq h0 h1,hx,w64_eq (n:=i+1) (by omega) (by omega)]
   exact ih _ trivial
theorem implParcel_eq {k:Nat} (hk:2 ^ 50≤k) {p:Ty.den TParcel} (hp:p.2.1.length≤1048576):impl_ParcelBytes.f k p=some (p.2.1.foldl (fun (a:Int) b=>w64 (a+(b.2.2.1.size:Int))) 0,()):=by
 unfold impl_ParcelBytes.f impl_ParcelBytes.t
 refine forL0 (L:=fun n i (s:Int)=>impl_ParcelBytes.l0 k n s p.2.1 p.2.1.length i) (R:=fun r s=>some (r.foldl (fun (a:Int) b=>w64 (a+(b.2.2.1.size:Int))) s,())) (Ty.dflt TBit) p.2.1 (fun _ _=>True) (fun n s hs=>?_) (fun n i s x rest h0 h1 hx hr hp ih=>?_) (n:=k) (by omega) trivial
 · simp only [impl_ParcelBytes.l0,impl_ParcelBytes.b0]
   rw [decF (by omega),c_f]
   rfl
 · simp only [impl_ParcelBytes.l0,impl_ParcelBytes.b0]
   rw [decT h1,c_t,inb_eq h0 h1,hx,w64_eq (n:=i+1) (by omega) (by omega)]
   exact ih _ trivial
end Go.Proofs.YtmakghhmpgfboaaGreat.G
namespace Go.Proofs.YtmakghhmpgfboaaGreat.G
open Go.V
noncomputable def bitM (d:Ty.den TDisk) (f:PieceL) (id:Int):Ty.den TBit :=
 bif preB (textM d (namedM segB id)).1 (hasM f id) then (id,(((hasM f id).size:Int),(ByteArray.extract (textM d (namedM segB id)).1 (hasM f id).size (textM d (namedM segB id)).1.size,()))) else (id,(0,((textM d (namedM segB id)).1,())))
noncomputable def shipM (st:Ty.den TStore) (d:Ty.den TDisk) (f:PieceL):Ty.den TParcel :=
 bif !storeM st d then (0,([],())) else (st.1.1,(st.1.2.1.map (bitM d f),()))
theorem store_len {st:Ty.den TStore} {d:Ty.den TDisk} (h:storeM st d=true):st.1.2.1.length≤60:=by
 unfold storeM liveM at h
 simp only [b_a,decide_eq_true_eq] at h
 omega
theorem specShip_eq {k:Nat} (hk:2 ^ 50≤k) {st:Ty.den TStore} {d:Ty.den TDisk} {f:Ty.den TFollower} (hd:DSz d) (hf:f.2.1.length≤1099511627775) (hp:∀ p ∈ f.2.1,p.2.1.size≤1073741824):spec_Ship.f k st d f=some (shipM st d f.2.1,()):=by
 have:=hd.l;have:=hd.u;have:=hd.n
 unfold spec_Ship.f spec_Ship.t shipM
 rw [specStore_eq hk hd,o_s]
 cases c:storeM st d with
 | false=>rfl
 | true =>
  have hv:=store_len c
  rw [n_t,c_f,c_f]
  refine forL0 (L:=fun n i s=>spec_Ship.l0 k n i st.1.1 st.1.2.1 st.2.1 st.2.2.1 st.2.2.2.1 st.2.2.2.2.1 d.1 d.2.1 d.2.2.1 d.2.2.2.1 f.1 f.2.1 [] 0 s st.1.1) (R:=fun r s=>some ((st.1.1,(s++r.map (bitM d f.2.1),())),())) (Ty.dflt (.int .i64)) st.1.2.1 (fun i s=>(s.length:Int)=i) (fun n s hs=>?_) (fun n i s x rest h0 h1 hx hr hs ih=>?_) (n:=k) (s:=[]) (by omega) rfl
  · simp (disch:=omega) only [spec_Ship.l0,spec_Ship.b0,decF,c_f,List.map_nil,List.append_nil]
  · have ih:=ih (s++[bitM d f.2.1 x]) (by rw [len_snoc];omega)
    have hz:=textM_size d (namedM segB x)
    have ht:=specText_eq hk (d:=d) (by omega) (by omega) (by omega) (namedM segB x)
    have hh:=specHas_eq hk f x hf
    have hm:=hasM_size (id:=x) hp
    have ha:s++[bitM d f.2.1 x]++rest.map (bitM d f.2.1)=s++(x::rest).map (bitM d f.2.1):=by rw [a_a];rfl
    rw [ha] at ih
    simp (disch:=first | omega | decide) only [spec_Ship.l0,spec_Ship.b0,decT h1,c_t,inb_eq,hx,specSegName_eq hk,o_s,ht,hh,rm_ok,w64_eq,n_n,ext_all]
    rw [inc_eq (i:=0) (n:=((textM d (namedM segB x)).1.size:Int)) (by omega) (by omega)]
    by_cases q:(hasM f.2.1 x).size≤(textM d (namedM segB x)).1.size
    · rw [decT (show ((hasM f.2.1 x).size:Int)≤((textM d (namedM segB x)).1.size:Int) by omega),c_t,inc_eq (by omega) (by omega),inc_eq (by omega) (by omega)]
      cases e:seq (ByteArray.extract (textM d (namedM segB x)).1 0 (hasM f.2.1 x).size) (hasM f.2.1 x) with
      | true =>
       rw [c_t]
       have hb:bitM d f.2.1 x=(x,(((hasM f.2.1 x).size:Int),(ByteArray.extract (textM d (namedM segB x)).1 (hasM f.2.1 x).size (textM d (namedM segB x)).1.size,()))):=by
        unfold bitM preB
        rw [e,decT q]
        rfl
       rw [hb] at ih
       exact ih
      | false =>
       rw [c_f]
       have hb:bitM d f.2.1 x=(x,(0,((textM d (namedM segB x)).1,()))):=by
        unfold bitM preB
        rw [e,Bool.and_false]
        rfl
       rw [hb] at ih
       exact ih
    · rw [decF (show ¬ ((hasM f.2.1 x).size:Int)≤((textM d (namedM segB x)).1.size:Int) by omega),c_f]
      have hb:bitM d f.2.1 x=(x,(0,((textM d (namedM segB x)).1,()))):=by
       unfold bitM preB
       rw [decF q]
       rfl
      rw [hb] at ih
      exact ih
end Go.Proofs.YtmakghhmpgfboaaGreat.G
namespace Go.Proofs.YtmakghhmpgfboaaGreat.G
open Go.V
noncomputable def piecesM:PieceL→PlaceL→Option PlaceL
 | [],acc=>some acc
 | p::r,acc=>bif decide ((scanM p.2.1).2<(p.2.1.size:Int)) then none else piecesM r (acc++placesM p.1 (scanM p.2.1).1)
noncomputable def pairsAt (f:PieceL):EntryL→PairL→PairL × Bool
 | [],acc=>(acc,true)
 | e::r,acc=>bif (recAtM (hasM f e.2.1) e.2.2.1 e.2.2.2.1).2 then pairsAt f r (acc++[((recAtM (hasM f e.2.1) e.2.2.1 e.2.2.2.1).1.2.2.1,((recAtM (hasM f e.2.1) e.2.2.1 e.2.2.2.1).1.2.2.2.1,((recAtM (hasM f e.2.1) e.2.2.1 e.2.2.2.1).1.2.1,())))]) else ([],false)
noncomputable def followM (f:PieceL):PairL × Bool:=match piecesM f [] with
 | none=>([],false)
 | some l=>bif (regroupM ([],(0,(0,()))) l).2.2.1 != 0 then ([],false) else pairsAt f (regroupM ([],(0,(0,()))) l).1 []
theorem piecesM_len:∀ (r:PieceL) (acc l:PlaceL),piecesM r acc=some l→l.length≤acc.length+txs r
 | [],acc,l,h=>by
  unfold piecesM at h
  obtain rfl:=Option.some.inj h
  omega
 | p::r,acc,l,h=>by
  unfold piecesM at h
  cases c:decide ((scanM p.2.1).2<(p.2.1.size:Int)) with
  | true=>rw [c] at h;cases h
  | false =>
   rw [c,c_f] at h
   have:=piecesM_len r _ l h
   rw [l_a,placesM_len] at this
   have h2:=(scanM_len p.2.1).1
   unfold txs at *
   rw [List.map_cons,List.sum_cons]
   omega
theorem pairsAt_len (f:PieceL):∀ (r:EntryL) (acc:PairL),(pairsAt f r acc).1.length≤acc.length+r.length
 | [],acc=>Nat.le_refl _
 | e::r,acc=>by
  unfold pairsAt
  cases (recAtM (hasM f e.2.1) e.2.2.1 e.2.2.2.1).2
  · exact Nat.zero_le _
  · have:=pairsAt_len f r (acc++[((recAtM (hasM f e.2.1) e.2.2.1 e.2.2.2.1).1.2.2.1,((recAtM (hasM f e.2.1) e.2.2.1 e.2.2.2.1).1.2.2.2.1,((recAtM (hasM f e.2.1) e.2.2.1 e.2.2.2.1).1.2.1,())))])
    rw [len_snoc] at this
    rw [c_t,l_c]
    omega
theorem followM_len {f:PieceL} (ht:txs f≤134217728):(followM f).1.length≤268435456:=by
 unfold followM
 cases c:piecesM f [] with
 | none=>exact Nat.zero_le _
 | some l =>
  have h1:=piecesM_len f [] l c
  simp only [List.length_nil] at h1 ⊢
  have h2:=regroupM_len (g:=([],(0,(0,())))) (l:=l) (by omega) (by simp)
  cases (regroupM ([],(0,(0,()))) l).2.2.1 != 0
  · have:=pairsAt_len f (regroupM ([],(0,(0,()))) l).1 []
    simp only [List.length_nil] at this
    rw [c_f]
    omega
  · exact Nat.zero_le _
theorem implFollow_eq {k:Nat} (hk:2 ^ 50≤k) (f:Ty.den TFollower) (hl:f.2.1.length≤134217728) (ht:txs f.2.1≤134217728):impl_FollowMap.f k f=some ((followM f.2.1).1,((followM f.2.1).2,())):=by
 have hp:∀ p ∈ f.2.1,p.2.1.size≤134217728:=fun p h=>Nat.le_trans (txs_mem h) ht
 unfold impl_FollowMap.f impl_FollowMap.t followM
 have l1:∀ g:EntryL,g.length≤268435456→impl_FollowMap.l1 k k g.length 0 f.1 f.2.1 [] g=some ((pairsAt f.2.1 g []).1,((pairsAt f.2.1 g []).2,())):=fun g hg=>by
  refine forL0 (L:=fun n i s=>impl_FollowMap.l1 k n g.length i f.1 f.2.1 s g) (R:=fun r s=>some ((pairsAt f.2.1 r s).1,((pairsAt f.2.1 r s).2,()))) (Ty.dflt TEntry) g (fun i s=>(s.length:Int)=i) (fun n s hs=>?_) (fun n i s x rest h0 h1 hx hr hp' ih=>?_) (n:=k) (s:=[]) (by omega) (by decide)
  · simp (disch:=omega) only [impl_FollowMap.l1,impl_FollowMap.b1,decF,c_f,pairsAt]
  · have hh:=implHas_eq hk (f.1,(f.2.1,())) x.2.1 (by simp only [];omega)
    have hz:=hasM_size (id:=x.2.1) hp
    have hr':=implRecAt_eq hk (s:=hasM f.2.1 x.2.1) x.2.2.1 x.2.2.2.1 (by omega)
    simp (disch:=first | omega | decide) only [impl_FollowMap.l1,impl_FollowMap.b1,decT,c_t,inb_eq,hx,hh,hr',o_s,rm_ok,w64_eq,pairsAt]
    generalize recAtM (hasM f.2.1 x.2.1) x.2.2.1 x.2.2.2.1=q
    cases c:q.2 with
    | true=>exact ih _ (by rw [len_snoc];omega)
    | false=>rfl
 refine forL0 (L:=fun n i s=>impl_FollowMap.l0 k n f.2.1 f.2.1.length i f.1 f.2.1 s) (R:=fun r s=>some ((match piecesM r s with | none=>(([],false):PairL × Bool) | some l=>bif (regroupM ([],(0,(0,()))) l).2.2.1 != 0 then ([],false) else pairsAt f.2.1 (regroupM ([],(0,(0,()))) l).1 []).1,
  ((match piecesM r s with | none=>(([],false):PairL × Bool) | some l=>bif (regroupM ([],(0,(0,()))) l).2.2.1 != 0 then ([],false) else pairsAt f.2.1 (regroupM ([],(0,(0,()))) l).1 []).2,()))) (Ty.dflt TPiece) f.2.1 (fun i s=>s.length+txs (f.2.1.drop i.toNat)≤134217728) (fun n s hs=>?_) (fun n i s x rest h0 h1 hx hr hp' ih=>?_) (n:=k) (s:=[]) (by omega) (by simpa using ht)
 · rw [Int.toNat_natCast,List.drop_length] at hs
   have hs':s.length≤134217728:=by omega
   have hg:=regroupM_len (g:=([],(0,(0,())))) (l:=s) hs' (by simp)
   simp (disch:=first | omega | (simp only [List.length_nil];omega)) only [impl_FollowMap.l0,impl_FollowMap.b0,decF,c_f,piecesM,implRegroup_eq hk,o_s]
   generalize regroupM ([],(0,(0,()))) s=g at *
   cases c:g.2.2.1 != 0
   · rw [c_f,c_f,l1 _ hg]
   · rfl
 · have hm:x ∈ f.2.1:=List.mem_of_mem_drop (by rw [hr];exact m_s ..)
   have hx1:=hp x hm
   have hsc:=scanM_len x.2.1
   have e:=implScan_eq hk (s:=x.2.1) (by omega)
   have hrest:f.2.1.drop (i+1).toNat=rest:=by
    have:=congrArg (List.drop 1) hr
    rw [List.drop_drop,List.drop_one,List.tail_cons] at this
    rw [show (i+1).toNat=i.toNat+1 by omega]
    exact this
   rw [hr] at hp'
   have htx:txs (x::rest)=x.2.1.size+txs rest:=by unfold txs;rw [List.map_cons,List.sum_cons]
   have hpl:=placesM_len x.1 (scanM x.2.1).1
   simp (disch:=omega) only [impl_FollowMap.l0,impl_FollowMap.b0,decT h1,c_t,inb_eq,hx,e,o_s,w64_eq,piecesM]
   by_cases c:(scanM x.2.1).2<(x.2.1.size:Int)
   · rw [decT c,show ((scanM x.2.1).2 != (x.2.1.size:Int))=true from bne_iff_ne.2 (by omega)]
     rfl
   · rw [decF c,show ((scanM x.2.1).2 != (x.2.1.size:Int))=false from by rw [bne_eq_false_iff_eq];omega]
     simp only [c_f]
     rw [implPlaced_eq hk _ (by omega),o_s]
     simp only []
     rw [rm_ok (by omega) (by decide)]
     exact ih _ (by rw [hrest,l_a];omega)
theorem specFollow_eq {k:Nat} (hk:2 ^ 50≤k) (f:Ty.den TFollower) (hl:f.2.1.length≤134217728) (ht:txs f.2.1≤134217728):spec_FollowMap.f k f=some ((followM f.2.1).1,((followM f.2.1).2,())):=by
 have hp:∀ p ∈ f.2.1,p.2.1.size≤134217728:=fun p h=>Nat.le_trans (txs_mem h) ht
 unfold spec_FollowMap.f spec_FollowMap.t followM
 have l1:∀ (g:EntryL) (z1 z2:Int),g.length≤268435456→spec_FollowMap.l1 k k 0 f.1 f.2.1 [] g z1 z2 []=some ((pairsAt f.2.1 g []).1,((pairsAt f.2.1 g []).2,())):=fun g z1 z2 hg=>by
  refine forL0 (L:=fun n i s=>spec_FollowMap.l1 k n i f.1 f.2.1 [] g z1 z2 s) (R:=fun r s=>some ((pairsAt f.2.1 r s).1,((pairsAt f.2.1 r s).2,()))) (Ty.dflt TEntry) g (fun i s=>(s.length:Int)=i) (fun n s hs=>?_) (fun n i s x rest h0 h1 hx hr hp' ih=>?_) (n:=k) (s:=[]) (by omega) (by decide)
  · simp (disch:=omega) only [spec_FollowMap.l1,spec_FollowMap.b1,decF,c_f,pairsAt]
  · have hh:=specHas_eq hk (f.1,(f.2.1,())) x.2.1 (by simp only [];omega)
    have hz:=hasM_size (id:=x.2.1) hp
    have hr':=specRecAt_eq hk (s:=hasM f.2.1 x.2.1) x.2.2.1 x.2.2.2.1 (by omega)
    simp (disch:=first | omega | decide) only [spec_FollowMap.l1,spec_FollowMap.b1,decT,c_t,inb_eq,hx,hh,hr',o_s,rm_ok,w64_eq,pairsAt]
    generalize recAtM (hasM f.2.1 x.2.1) x.2.2.1 x.2.2.2.1=q
    cases c:q.2 with
    | true=>exact ih _ (by rw [len_snoc];omega)
    | false=>rfl
 refine forL0 (L:=fun n i s=>spec_FollowMap.l0 k n i f.1 f.2.1 [] s) (R:=fun r s=>some ((match piecesM r s with | none=>(([],false):PairL × Bool) | some l=>bif (regroupM ([],(0,(0,()))) l).2.2.1 != 0 then ([],false) else pairsAt f.2.1 (regroupM ([],(0,(0,()))) l).1 []).1,
  ((match piecesM r s with | none=>(([],false):PairL × Bool) | some l=>bif (regroupM ([],(0,(0,()))) l).2.2.1 != 0 then ([],false) else pairsAt f.2.1 (regroupM ([],(0,(0,()))) l).1 []).2,()))) (Ty.dflt TPiece) f.2.1 (fun i s=>s.length+txs (f.2.1.drop i.toNat)≤134217728) (fun n s hs=>?_) (fun n i s x rest h0 h1 hx hr hp' ih=>?_) (n:=k) (s:=[]) (by omega) (by simpa using ht)
 · rw [Int.toNat_natCast,List.drop_length] at hs
   have hs':s.length≤134217728:=by omega
   have hg:=regroupM_len (g:=([],(0,(0,())))) (l:=s) hs' (by simp)
   simp (disch:=first | omega | (simp only [List.length_nil];omega)) only [spec_FollowMap.l0,spec_FollowMap.b0,decF,c_f,piecesM,specRegroup_eq hk,o_s]
   generalize regroupM ([],(0,(0,()))) s=g at *
   cases c:g.2.2.1 != 0
   · rw [c_f,c_f,l1 _ _ _ hg]
   · rfl
 · have hm:x ∈ f.2.1:=List.mem_of_mem_drop (by rw [hr];exact m_s ..)
   have hx1:=hp x hm
   have hsc:=scanM_len x.2.1
   have e:=specScan_eq hk (s:=x.2.1) (by omega)
   have hrest:f.2.1.drop (i+1).toNat=rest:=by
    have:=congrArg (List.drop 1) hr
    rw [List.drop_drop,List.drop_one,List.tail_cons] at this
    rw [show (i+1).toNat=i.toNat+1 by omega]
    exact this
   rw [hr] at hp'
   have htx:txs (x::rest)=x.2.1.size+txs rest:=by unfold txs;rw [List.map_cons,List.sum_cons]
   have hpl:=placesM_len x.1 (scanM x.2.1).1
   simp (disch:=omega) only [spec_FollowMap.l0,spec_FollowMap.b0,decT h1,c_t,inb_eq,hx,e,o_s,w64_eq,piecesM]
   by_cases c:(scanM x.2.1).2<(x.2.1.size:Int)
   · rw [decT c]
     rfl
   · rw [decF c]
     simp only [c_f]
     rw [specPlaces_eq hk _ (by omega),o_s]
     simp only []
     rw [rm_ok (by omega) (by decide)]
     exact ih _ (by rw [hrest,l_a];omega)
end Go.Proofs.YtmakghhmpgfboaaGreat.G

/- Plain laws, merged; what is proved here is told ahead of each part. -/
import Derived.Test.YtejgkmhpmhfnbaaGreatDoorZR1
set_option linter.unusedVariables false
set_option linter.unusedSimpArgs false
namespace Go.Proofs.YtejgkmhpmhfnbaaGreatDoor.G
open Go.V
def hintB:ByteArray:=⟨#[104,105,110,116]⟩
theorem specHintName_eq {k:Nat} (hk:2 ^ 50≤k) (n:Int):spec_HintName.f k n=some (namedM hintB n,()):=by
 unfold spec_HintName.f spec_HintName.t namedM
 rw [l1InD_eq,o_s]
 by_cases c:(1:Int)≤n∧n≤100000
 · have hz:=decB_small (n:=n) (by omega) (by omega)
   rw [decT c]
   simp only [n_t,c_f,c_t]
   rw [specDec_eq hk (by omega) (by omega),o_s,cat_ok (by show 4+(decB n).size≤_;omega)]
   rfl
 · rw [decF c]
   rfl
def Pid (s:ByteArray) (n:Int):Prop:=1≤n∧n≤100000∧(s=segB++decB n∨s=hintB++decB n)
theorem seg_hint (a b:ByteArray):segB++a≠hintB++b:=fun h=>by
 have:=congrArg nb h
 rw [nb_app,nb_app,show nb segB=[115,101,103] from rfl,show nb hintB=[104,105,110,116] from rfl] at this
 simp at this
theorem pid_one {s:ByteArray} {n m:Int} (h:Pid s n) (g:Pid s m):n=m:=by
 rcases h.2.2 with h1 | h1 <;> rcases g.2.2 with g1 | g1
 · exact decB_inj (app_cancel (h1.symm.trans g1))
 · exact absurd (h1.symm.trans g1) (seg_hint _ _)
 · exact absurd (g1.symm.trans h1) (seg_hint _ _)
 · exact decB_inj (app_cancel (h1.symm.trans g1))
theorem named_pid {s:ByteArray} {n:Int} (hs:0<s.size) (h:(seq (namedM segB n) s||seq (namedM hintB n) s)=true):Pid s n:=by
 unfold namedM at h
 by_cases c:(1:Int)≤n∧n≤100000
 · rw [decT c,Bool.or_eq_true] at h
   exact ⟨c.1,c.2,h.imp (fun q=>(seq_iff.1 q).symm) (fun q=>(seq_iff.1 q).symm)⟩
 · rw [decF c,Bool.or_eq_true] at h
   rcases h with q | q
   · rw [← seq_iff.1 q] at hs;exact absurd hs (Nat.lt_irrefl 0)
   · rw [← seq_iff.1 q] at hs;exact absurd hs (Nat.lt_irrefl 0)
theorem pid_named {s:ByteArray} {n:Int} (h:Pid s n):(seq (namedM segB n) s||seq (namedM hintB n) s)=true:=by
 obtain ⟨h0,h1,h2⟩:=h
 unfold namedM
 rw [decT ⟨h0,h1⟩,Bool.or_eq_true]
 exact h2.imp (fun q=>seq_iff.2 q.symm) (fun q=>seq_iff.2 q.symm)
noncomputable def idM (s:ByteArray):Int × Bool:=undo (Pid s) (fun _=>s) 0 s
theorem decB_pos (n:Int):0<(decB n).size:=by
 rw [← nb_len,nb_decB]
 split
 · rw [l_c];omega
 · rw [List.length_map]
   exact List.length_pos_iff.2 (decDigits_ne _)
theorem extL_size (s:ByteArray) (n:Nat):(ByteArray.extract s n s.size).size=s.size-n:=by rw [← nb_len,ext_tail,List.length_drop,nb_len]
noncomputable def hitM (s:ByteArray) (i:Nat):Bool :=
 decide ((s.size:Int) > (i:Int))&&((readDecM (ByteArray.extract s i s.size)).2&&(decide ((readDecM (ByteArray.extract s i s.size)).1≥1)&&(seq (namedM segB (readDecM (ByteArray.extract s i s.size)).1) s||seq (namedM hintB (readDecM (ByteArray.extract s i s.size)).1) s)))
theorem id_step {k:Nat} (hk:2 ^ 50≤k) {s:ByteArray} (hs:s.size≤1099511627776) (m i:Nat) (hi:i≤4) :
 spec_IdOf.l0 k (m+1) s (i:Int)=bif hitM s i then some ((readDecM (ByteArray.extract s i s.size)).1,(true,())) else spec_IdOf.l0 k m s ((i+1:Nat):Int):=by
 have hz:=extL_size s i
 simp only [spec_IdOf.l0,spec_IdOf.b0]
 rw [decT (show (i:Int)≤4 by omega),c_t,w64_eq (by omega) (by omega),show (i:Int)+1=((i+1:Nat):Int) by omega]
 unfold hitM
 by_cases c:(s.size:Int) > (i:Int)
 · rw [decT c,c_t,inc_eq (by omega) (by omega),Int.toNat_natCast,specReadDec_eq hk (by omega),o_s]
   simp only [specSegName_eq hk,specHintName_eq hk,o_s]
   generalize readDecM (ByteArray.extract s i s.size)=r
   cases r.2 <;> cases decide (r.1≥1) <;> cases seq (namedM segB r.1) s <;> cases seq (namedM hintB r.1) s <;> rfl
 · rw [decF c]
   rfl
theorem hit_pid {s:ByteArray} {i:Nat} (h:hitM s i=true):Pid s (readDecM (ByteArray.extract s i s.size)).1:=by
 unfold hitM at h
 simp only [b_a,decide_eq_true_eq] at h
 exact named_pid (by omega) h.2.2.2
theorem hit_of {p:ByteArray} {n:Int} (h:Pid (p++decB n) n):hitM (p++decB n) p.size=true∧(readDecM (ByteArray.extract (p++decB n) p.size (p++decB n).size)).1=n:=by
 have hd:dOk n:=⟨by have:=h.1;omega,by have:=h.2.1;omega⟩
 have hp:=decB_pos n
 rw [show ByteArray.extract (p++decB n) p.size (p++decB n).size=decB n from app_tail p (decB n)]
 unfold hitM
 rw [show ByteArray.extract (p++decB n) p.size (p++decB n).size=decB n from app_tail p (decB n),readDec_dec hd]
 refine ⟨?_,rfl⟩
 simp only []
 rw [pid_named h,decT (by rw [ByteArray.size_append];omega),decT h.1]
 rfl
theorem specId_eq {k:Nat} (hk:2 ^ 50≤k) {s:ByteArray} (hs:s.size≤1099511627776):spec_IdOf.f k s=some ((idM s).1,((idM s).2,())):=by
 have e:spec_IdOf.f k s=bif hitM s 3 then some ((readDecM (ByteArray.extract s 3 s.size)).1,(true,())) else bif hitM s 4 then some ((readDecM (ByteArray.extract s 4 s.size)).1,(true,())) else some (0,(false,())):=by
  unfold spec_IdOf.f spec_IdOf.t
  obtain ⟨m,hm⟩:∃ m,k=m+3:=⟨k-3,by omega⟩
  have h3:=id_step hk hs (m+2) 3 (by omega)
  have h4:=id_step hk hs (m+1) 4 (by omega)
  have h5:spec_IdOf.l0 k (m+1) s ((5:Nat):Int)=some (0,(false,())):=rfl
  rw [← hm] at h3
  rw [show (3:Int)=((3:Nat):Int) from rfl,h3,h4,h5]
 rw [e]
 refine undo_of (fun n h1 _=>?_) ?_
 · rcases h1.2.2 with q | q
   · have:=hit_of (p:=segB) (n:=n) (by rw [← q];exact h1)
     rw [← q,show segB.size=3 from rfl] at this
     rw [this.1,this.2]
     rfl
   · cases c:hitM s 3 with
     | true=>rw [pid_one h1 (hit_pid c)];rfl
     | false =>
      have:=hit_of (p:=hintB) (n:=n) (by rw [← q];exact h1)
      rw [← q,show hintB.size=4 from rfl] at this
      rw [this.1,this.2]
      rfl
 · cases c:hitM s 3 with
   | true=>exact .inl ⟨_,hit_pid c,rfl,rfl⟩
   | false =>
    cases c4:hitM s 4 with
    | true=>exact .inl ⟨_,hit_pid c4,rfl,rfl⟩
    | false=>exact .inr rfl
noncomputable def cutM (s p:ByteArray):Option (Int × Bool × Unit) :=
 bif preB s p&&((readDecM (ByteArray.extract s p.size s.size)).2&&decide ((1:Int)≤(readDecM (ByteArray.extract s p.size s.size)).1∧(readDecM (ByteArray.extract s p.size s.size)).1≤100000)) then some ((readDecM (ByteArray.extract s p.size s.size)).1,(true,())) else some (0,(false,()))
theorem cut_ok {s p:ByteArray} (h:cutM s p≠some (0,(false,()))):∃ n,1≤n∧n≤100000∧s=p++decB n∧cutM s p=some (n,(true,())):=by
 unfold cutM at h ⊢
 cases c:preB s p&&((readDecM (ByteArray.extract s p.size s.size)).2&&decide ((1:Int)≤(readDecM (ByteArray.extract s p.size s.size)).1∧(readDecM (ByteArray.extract s p.size s.size)).1≤100000)) with
 | false=>rw [c] at h;exact absurd rfl h
 | true =>
  simp only [b_a,decide_eq_true_eq] at c
  obtain ⟨c1,c2,c3⟩:=c
  have e:readDecM (ByteArray.extract s p.size s.size)=((readDecM (ByteArray.extract s p.size s.size)).1,true):=by rw [← c2]
  have q:=undo_ok e
  exact ⟨_,c3.1,c3.2,by rw [q.2];exact preB_split c1,rfl⟩
theorem cut_of {p:ByteArray} {n:Int} (h0:1≤n) (h1:n≤100000):cutM (p++decB n) p=some (n,(true,())):=by
 unfold cutM
 rw [preB_app,show ByteArray.extract (p++decB n) p.size (p++decB n).size=decB n from app_tail p (decB n),readDec_dec ⟨by omega,by omega⟩]
 simp only []
 rw [decT ⟨h0,h1⟩]
 rfl
theorem implId_eq (k:Nat) {s:ByteArray} (hs:s.size≤281474976710656):impl_IdOf.f k s=some ((idM s).1,((idM s).2,())):=by
 have e:impl_IdOf.f k s=bif preB s segB then cutM s segB else cutM s hintB:=by
  unfold impl_IdOf.f impl_IdOf.t
  rw [show (⟨#[115,101,103]⟩:ByteArray)=segB from rfl,show (⟨#[104,105,110,116]⟩:ByteArray)=hintB from rfl,cutPrefix_eq,cutPrefix_eq]
  simp only [o_s]
  unfold cutM
  have h3:=extL_size s segB.size
  have h4:=extL_size s hintB.size
  cases preB s segB with
  | true =>
   simp only [n_t,c_f,c_t,Bool.true_and]
   rw [implReadDec_eq k (by omega),o_s]
   simp only [inD_eq k,o_s]
   generalize readDecM (ByteArray.extract s segB.size s.size)=r
   cases r.2 <;> cases decide ((1:Int)≤r.1∧r.1≤100000) <;> rfl
  | false =>
   simp only [n_f,c_f,c_t]
   cases preB s hintB with
   | true =>
    simp only [n_t,c_f,c_t,Bool.true_and]
    rw [implReadDec_eq k (by omega),o_s]
    simp only [inD_eq k,o_s]
    generalize readDecM (ByteArray.extract s hintB.size s.size)=r
    cases r.2 <;> cases decide ((1:Int)≤r.1∧r.1≤100000) <;> rfl
   | false =>
    simp only [n_f,c_f,c_t,Bool.false_and]
    rw [implReadDec_eq k hs,o_s]
 rw [e]
 refine undo_of (fun n h1 _=>?_) ?_
 · rcases h1.2.2 with q | q
   · rw [q,preB_app,c_t,cut_of h1.1 h1.2.1]
   · have hp:preB s segB=false:=by
      cases c:preB s segB with
      | false=>rfl
      | true=>exact absurd ((preB_split c).symm.trans q) (seg_hint _ _)
     rw [hp,c_f,q,cut_of h1.1 h1.2.1]
 · cases preB s segB with
   | true =>
    rw [c_t]
    by_cases c:cutM s segB=some (0,(false,()))
    · exact .inr c
    · obtain ⟨n,h0,h1,h2,h3⟩:=cut_ok c
      exact .inl ⟨n,⟨h0,h1,.inl h2⟩,rfl,h3⟩
   | false =>
    rw [c_f]
    by_cases c:cutM s hintB=some (0,(false,()))
    · exact .inr c
    · obtain ⟨n,h0,h1,h2,h3⟩:=cut_ok c
      exact .inl ⟨n,⟨h0,h1,.inr h2⟩,rfl,h3⟩
theorem implHasN_eq {k:Nat} (hk:2 ^ 50≤k) {l:List Int} (hl:l.length≤1099511627776) (x:Int):impl_hasInt.f k l x=some (hasN l x,()):=by
 unfold impl_hasInt.f impl_hasInt.t
 refine forL0 (L:=fun n i (_:Unit)=>impl_hasInt.l0 k n x l l.length i) (R:=fun r _=>some (hasN r x,())) (Ty.dflt (.int .i64)) l (fun _ _=>True) (fun n _ _=>?_) (fun n i _ y rest h0 h1 hx hr hp ih=>?_) (n:=k) (s:=()) (by omega) trivial
 · simp (disch:=omega) only [impl_hasInt.l0,impl_hasInt.b0,decF,c_f]
   rfl
 · have ih:=ih () trivial
   have e:hasN (y::rest) x=((y==x)||hasN rest x):=rfl
   simp (disch:=omega) only [impl_hasInt.l0,impl_hasInt.b0,decT h1,c_t,inb_eq,hx,w64_eq,ih,e]
   cases y==x <;> rfl
def tempB:ByteArray:=⟨#[116,101,109,112]⟩
noncomputable def isOrph (ids:List Int) (f:Ty.den TFile):Bool:=((idM f.1).2&&!hasN ids (idM f.1).1)||seq f.1 tempB
noncomputable def orphL (ids:List Int):FileL→List ByteArray→List ByteArray
 | [],acc=>acc
 | f::l,acc=>orphL ids l (bif isOrph ids f then acc++[f.1] else acc)
noncomputable def orphM (d:Ty.den TDisk) (ids:List Int):List ByteArray:=bif diskM d then orphL ids d.1 [] else []
theorem diskM_len {d:Ty.den TDisk} (h:diskM d=true):d.1.length≤130:=by
 unfold diskM at h
 rw [b_a,decide_eq_true_eq] at h
 exact h.1
theorem specOrph_eq {k:Nat} (hk:2 ^ 50≤k) {d:Ty.den TDisk} {v:Ty.den TLive} (hu:used d.1≤1099511627776) (hn:names d.1≤1099511627776) (hv:v.2.1.length≤1099511627776):spec_Orphans.f k d v=some (orphM d v.2.1,()):=by
 unfold spec_Orphans.f spec_Orphans.t orphM
 rw [specDisk_eq hk hu hn,o_s]
 cases cd:diskM d with
 | false=>rfl
 | true =>
  have hl:=diskM_len cd
  rw [n_t,c_f,c_t]
  refine forL0 (L:=fun n i s=>spec_Orphans.l0 k n i d.1 d.2.1 d.2.2.1 d.2.2.2.1 v.1 v.2.1 s) (R:=fun r s=>some (orphL v.2.1 r s,())) (Ty.dflt TFile) d.1 (fun i s=>(s.length:Int)≤i) (fun n s hs=>?_) (fun n i s x rest h0 h1 hx hr hs ih=>?_) (n:=k) (s:=[]) (by omega) (by simp)
  · simp (disch:=omega) only [spec_Orphans.l0,spec_Orphans.b0,decF,c_f,orphL]
  · have hm:x ∈ d.1:=by rw [← hx];exact getD_mem (by omega)
    have hz:=names_mem hm
    have iY:=ih (s++[x.1]) (by rw [len_snoc];omega)
    have iN:=ih s (by omega)
    have key:∀ (id:Int) (is:Bool),spec_Orphans.l1 k (spec_Orphans.l0 k n) k i id is false 0 d.1 d.2.1 d.2.2.1 d.2.2.2.1 v.1 v.2.1 s =
     bif (is&&!hasN v.2.1 id)||seq x.1 tempB then spec_Orphans.l0 k n (i+1) d.1 d.2.1 d.2.2.1 d.2.2.2.1 v.1 v.2.1 (s++[x.1]) else spec_Orphans.l0 k n (i+1) d.1 d.2.1 d.2.2.1 d.2.2.2.1 v.1 v.2.1 s:=fun id is=>by
     refine (forL0 (L:=fun m j lv=>spec_Orphans.l1 k (spec_Orphans.l0 k n) m i id is lv j d.1 d.2.1 d.2.2.1 d.2.2.2.1 v.1 v.2.1 s) (R:=fun r lv=>bif (is&&!(lv||hasN r id))||seq x.1 tempB then spec_Orphans.l0 k n (i+1) d.1 d.2.1 d.2.2.1 d.2.2.2.1 v.1 v.2.1 (s++[x.1]) else spec_Orphans.l0 k n (i+1) d.1 d.2.1 d.2.2.1 d.2.2.2.1 v.1 v.2.1 s) (Ty.dflt (.int .i64)) v.2.1 (fun _ _=>True) (fun m lv _=>?_) (fun m j lv y r2 g0 g1 gx gr _ ih2=>?_) (n:=k) (s:=false) (by omega) trivial)
     · simp (disch:=first | omega | decide) only [spec_Orphans.l1,spec_Orphans.b1,decF,c_f,inb_eq,hx,rm_ok,w64_eq]
       rw [show hasN [] id=false from rfl,show (⟨#[116,101,109,112]⟩:ByteArray)=tempB from rfl]
       cases is <;> cases lv <;> cases seq x.1 tempB <;> rfl
     · have e:hasN (y::r2) id=((y==id)||hasN r2 id):=rfl
       simp (disch:=omega) only [spec_Orphans.l1,spec_Orphans.b1,decT g1,c_t,inb_eq,gx,w64_eq,e]
       cases lv with
       | true=>exact (ih2 true trivial)
       | false =>
        have:=ih2 (y==id) trivial
        simp only [c_f,Bool.false_or]
        exact this
    simp (disch:=omega) only [spec_Orphans.l0,spec_Orphans.b0,decT h1,c_t,inb_eq,hx,specId_eq hk,o_s,key]
    rw [show orphL v.2.1 (x::rest) s=orphL v.2.1 rest (bif isOrph v.2.1 x then s++[x.1] else s) from rfl]
    unfold isOrph
    cases ((idM x.1).2&&!hasN v.2.1 (idM x.1).1)||seq x.1 tempB
    · exact iN
    · exact iY
theorem implOrph_eq {k:Nat} (hk:2 ^ 50≤k) {d:Ty.den TDisk} {v:Ty.den TLive} (hu:used d.1≤1099511627776) (hn:names d.1≤1099511627776) (hv:v.2.1.length≤1099511627776):impl_Orphans.f k d v=some (orphM d v.2.1,()):=by
 unfold impl_Orphans.f impl_Orphans.t orphM
 rw [implDisk_eq hk hu hn,o_s]
 cases cd:diskM d with
 | false=>rfl
 | true =>
  have hl:=diskM_len cd
  rw [n_t,c_f,c_t]
  refine forL0 (L:=fun n i s=>impl_Orphans.l0 k n d.1 d.1.length i v.1 v.2.1 s) (R:=fun r s=>some (orphL v.2.1 r s,())) (Ty.dflt TFile) d.1 (fun i s=>(s.length:Int)≤i) (fun n s hs=>?_) (fun n i s x rest h0 h1 hx hr hs ih=>?_) (n:=k) (s:=[]) (by omega) (by simp)
  · simp (disch:=omega) only [impl_Orphans.l0,impl_Orphans.b0,decF,c_f,orphL]
  · have hm:x ∈ d.1:=by rw [← hx];exact getD_mem (by omega)
    have hz:=names_mem hm
    have iY:=ih (s++[x.1]) (by rw [len_snoc];omega)
    have iN:=ih s (by omega)
    simp (disch:=first | omega | decide) only [impl_Orphans.l0,impl_Orphans.b0,decT h1,c_t,inb_eq,hx,implId_eq k,o_s,implHasN_eq hk hv,rm_ok,w64_eq,iY,iN]
    rw [show orphL v.2.1 (x::rest) s=orphL v.2.1 rest (bif isOrph v.2.1 x then s++[x.1] else s) from rfl,show (⟨#[116,101,109,112]⟩:ByteArray)=tempB from rfl]
    unfold isOrph
    cases (idM x.1).2 <;> cases hasN v.2.1 (idM x.1).1 <;> cases seq x.1 tempB <;> rfl
end Go.Proofs.YtejgkmhpmhfnbaaGreatDoor.G
namespace Go.Proofs.YtejgkmhpmhfnbaaGreatDoor.G
open Go.V
theorem implVars_eq {k:Nat} (hk:2 ^ 50≤k) {l:List Int} (hl:l.length≤1073741824):impl_vars.f k l=some (varsT l,()):=by
 unfold impl_vars.f impl_vars.t
 refine (forL0 (L:=fun n i s=>impl_vars.l0 k n s l l.length i) (R:=fun r s=>some (s++varsT r,())) (Ty.dflt (.int .i64)) l (fun i s=>(s.size:Int)≤7*i) (fun n s hs=>?_) (fun n i s x rest g0 g1 hx hr hs ih=>?_) (n:=k) (s:=⟨#[]⟩) (by omega) (by decide)).trans (by rw [app_nil])
 · simp (disch:=omega) only [impl_vars.l0,impl_vars.b0,decF,c_f]
   rw [show varsT []=⟨#[]⟩ from rfl,nil_app]
 · have hv:=varB_size x
   have ih:=ih (s++varB x) (by rw [sz_app];omega)
   simp (disch:=omega) only [impl_vars.l0,impl_vars.b0,decT g1,c_t,inb_eq,hx,implVar_eq hk,o_s,cat_ok,w64_eq,ih]
   rw [app_assoc]
   rfl
theorem implShowLive_eq {k:Nat} (hk:2 ^ 50≤k) (v:Ty.den TLive) (hl:v.2.1.length≤1073741824):impl_ShowLive.f k v=some (showLiveM v,()):=by
 unfold impl_ShowLive.f impl_ShowLive.t showLiveM
 rw [implLive_eq hk (by omega),o_s]
 cases c:liveM v with
 | false=>rfl
 | true =>
  have a:=varB_size v.1
  have b:=varB_size (v.2.1.length:Int)
  have d:=varsT_size v.2.1
  rw [n_t,c_f,implVars2 hk,o_s,implVars_eq hk hl,o_s,if_pos rfl]
  simp only []
  rw [cat_ok (by rw [sz_app];omega),implFrame_eq hk,o_s,app_assoc]
  rfl
theorem implHintName_eq (k:Nat) (n:Int):impl_HintName.f k n=some (namedM hintB n,()):=by
 unfold impl_HintName.f impl_HintName.t
 rw [show (⟨#[104,105,110,116]⟩:ByteArray)=hintB from rfl,implNamed_eq k (by decide) n]
 rfl
theorem showLive_sz (v:Ty.den TLive):(showLiveM v).size≤1099511627776:=by
 unfold showLiveM
 split
 · have:=frameM_size (liveT v);omega
 · decide
theorem named_small {p:ByteArray} (hp:p=segB∨p=hintB) (n:Int):(namedM p n).size≤1000:=by
 have hs:p.size≤4:=by rcases hp with q | q <;> rw [q] <;> decide
 unfold namedM
 by_cases h:(1:Int)≤n∧n≤100000
 · have:=decB_small (n:=n) (by omega) (by omega)
   rw [decT h,c_t,ByteArray.size_append]
   omega
 · rw [decF h,c_f];decide
end Go.Proofs.YtejgkmhpmhfnbaaGreatDoor.G
namespace Go.Proofs.YtejgkmhpmhfnbaaGreatDoor.G
open Go.V
abbrev RD:=Ty.den TDisk × Int
def seqR (r:RD) (f:Ty.den TDisk→RD):RD:=bif r.2==0 then f r.1 else r
def toldM (c:Int):Int:=bif c==0 then 0 else bif c==1 then 1 else bif c==2 then 2 else 3
def wk (f:Ty.den TDisk→RD) (r:RD):RD:=bif r.2==0 then ((f r.1).1,toldM (f r.1).2) else r
def wO (r:RD):Ty.den Tworker:=(r.1,(r.2,()))
def liveB:ByteArray:=⟨#[108,105,118,101]⟩
def goneR (s:ByteArray) (d:Ty.den TDisk):RD:=bif (getM d.1 s).isSome then remM d s else (d,0)
def freshR (s:ByteArray) (d:Ty.den TDisk):RD:=seqR (goneR s d) fun x=>creM x s
def fileR (s t:ByteArray) (d:Ty.den TDisk):RD:=seqR (seqR (freshR s d) fun x=>appM x s t) fun x=>synM x s
def putLiveR (v:Ty.den TLive) (d:Ty.den TDisk):RD:=seqR (fileR tempB (showLiveM v) d) fun x=>renM x tempB liveB
def dropsR:List ByteArray→Ty.den TDisk→RD
 | [],d=>(d,0)
 | s::l,d=>seqR (goneR s d) (dropsR l)
noncomputable def sweepR (ids:List Int) (d:Ty.den TDisk):RD:=dropsR (orphM d ids) d
theorem toldM_zero (c:Int):(toldM c==0)=(c==0):=by
 unfold toldM
 cases h:c==0 with
 | true=>rfl
 | false =>
  cases c==1
  · cases c==2 <;> rfl
  · rfl
theorem wk_seq (f g:Ty.den TDisk→RD) (r:RD):wk (fun x=>seqR (f x) g) r=wk g (wk f r):=by
 unfold wk seqR
 cases h:r.2==0 with
 | false=>simp only [c_f,h]
 | true =>
  simp only [c_t,toldM_zero]
  cases (f r.1).2==0 <;> rfl
theorem wk_nil (r:RD):wk (fun d=>(d,0)) r=r:=by
 unfold wk
 cases h:r.2==0 with
 | false=>rfl
 | true=>exact Prod.ext rfl (by show toldM 0=r.2;rw [q_t h];rfl)
theorem seqR_DR {r:RD} {f:Ty.den TDisk→RD} (h:DR r.1) (hf:∀ x,DR x→DR (f x).1):DR (seqR r f).1:=by
 unfold seqR
 cases r.2==0
 · exact h
 · exact hf _ h
theorem wk_DR {r:RD} {f:Ty.den TDisk→RD} (h:DR r.1) (hf:∀ x,DR x→DR (f x).1):DR (wk f r).1:=by
 unfold wk
 cases r.2==0
 · exact h
 · exact hf _ h
theorem gone_DR (s:ByteArray) (d:Ty.den TDisk) (h:DR d):DR (goneR s d).1:=by
 unfold goneR
 cases (getM d.1 s).isSome
 · exact h
 · exact rem_DR h s
theorem fresh_DR (s:ByteArray) (d:Ty.den TDisk) (h:DR d):DR (freshR s d).1:=seqR_DR (gone_DR s d h) fun x hx=>cre_DR hx s
theorem file_DR (s t:ByteArray) (d:Ty.den TDisk) (h:DR d):DR (fileR s t d).1:=seqR_DR (seqR_DR (fresh_DR s d h) fun x hx=>app_DR hx s t) fun x hx=>syn_DR hx s
theorem putLive_DR (v:Ty.den TLive) (d:Ty.den TDisk) (h:DR d):DR (putLiveR v d).1:=seqR_DR (file_DR _ _ d h) fun x hx=>ren_DR hx _ _
theorem drops_DR:∀ (l:List ByteArray) (d:Ty.den TDisk),DR d→DR (dropsR l d).1
 | [],d,h=>h
 | s::l,d,h=>seqR_DR (gone_DR s d h) (drops_DR l)
theorem sweep_DR (ids:List Int) (d:Ty.den TDisk) (h:DR d):DR (sweepR ids d).1:=drops_DR _ d h
theorem specCode_eq (k:Nat) (c:Int):spec_l11Code.f k c=some (toldM c,()):=by
 unfold spec_l11Code.f spec_l11Code.t toldM
 cases c==0 <;> cases c==1 <;> cases c==2 <;> rfl
theorem find_some {l:FileL} {s:ByteArray}:decide (findI l s 0≥0)=(getM l s).isSome:=by
 rcases find_at l s 0 with ⟨h1,h2,_⟩ | ⟨n,h1,h2,h3,_⟩
 · rw [h1,h2];rfl
 · rw [h2,h3,decT (by omega)];rfl
theorem find_none {l:FileL} {s:ByteArray}:decide (findI l s 0<0)=!(getM l s).isSome:=by
 rcases find_at l s 0 with ⟨h1,h2,_⟩ | ⟨n,h1,h2,h3,_⟩
 · rw [h1,h2];rfl
 · rw [h2,h3,decF (by omega)];rfl
theorem specFresh_eq {k:Nat} (hk:2 ^ 50≤k) {d:Ty.den TDisk} (h:DR d) {s:ByteArray} (hs:s.size≤1099511627776):spec_l11Fresh.f k d s=some ((freshR s d).1,((freshR s d).2,())):=by
 have hl:=h.sz.l
 unfold spec_l11Fresh.f spec_l11Fresh.t freshR goneR
 rw [specFind_eq hk (by omega),o_s]
 simp only [find_some]
 cases (getM d.1 s).isSome with
 | false =>
  simp only [c_f]
  rw [specCre_eq hk h.sz hs]
  rfl
 | true =>
  simp only [c_t]
  rw [specRem_eq hk h.sz,o_s]
  unfold seqR
  simp only [bne]
  cases c:(remM d s).2==0 with
  | false=>rfl
  | true =>
   simp only [n_t,c_f,c_t]
   rw [specCre_eq hk (rem_DR h s).sz hs]
   rfl
theorem specFile_eq {k:Nat} (hk:2 ^ 50≤k) {d:Ty.den TDisk} (h:DR d) {s t:ByteArray} (hs:s.size≤1099511627776) (ht:t.size≤1099511627776):spec_l11File.f k d s t=some ((fileR s t d).1,((fileR s t d).2,())):=by
 have h1:=fresh_DR s d h
 unfold spec_l11File.f spec_l11File.t fileR
 rw [specFresh_eq hk h hs,o_s]
 simp only []
 generalize freshR s d=r at h1 ⊢
 unfold seqR
 cases c:r.2==0 with
 | false=>simp only [c_f,c]
 | true =>
  simp only [c_t]
  rw [specApp_eq hk h1.sz s ht,o_s]
  simp only []
  cases c2:(appM r.1 s t).2==0 with
  | false=>rfl
  | true =>
   simp only [c_t]
   rw [specSyn_eq hk (app_DR h1 s t).sz]
   rfl
theorem specPutLive_eq {k:Nat} (hk:2 ^ 50≤k) {d:Ty.den TDisk} (h:DR d) {v:Ty.den TLive} (hv:liveM v=true):spec_PutLive.f k d v=some ((putLiveR v d).1,(toldM (putLiveR v d).2,())):=by
 have hu:=h.sz.u
 have hn:=h.sz.n
 have h1:=file_DR tempB (showLiveM v) d h
 unfold spec_PutLive.f spec_PutLive.t putLiveR
 rw [specDisk_eq hk (by omega) (by omega),o_s,disk_iff.2 h]
 simp only [n_t,c_f]
 rw [specLive_eq hk,o_s,hv]
 simp only [n_t,c_f]
 rw [specShowLive_eq hk,o_s,show (⟨#[116,101,109,112]⟩:ByteArray)=tempB from rfl,show (⟨#[108,105,118,101]⟩:ByteArray)=liveB from rfl]
 simp only []
 rw [specFile_eq hk h (s:=tempB) (t:=showLiveM v) (by decide) (showLive_sz v),o_s]
 simp only []
 generalize fileR tempB (showLiveM v) d=r at h1 ⊢
 unfold seqR
 cases c:r.2==0 with
 | false=>simp only [c_f,specCode_eq,o_s]
 | true =>
  simp only [c_t]
  rw [specRen_eq hk h1.sz tempB (b:=liveB) (by decide),o_s]
  simp only [specCode_eq,o_s]
theorem specDrops_eq {k:Nat} (hk:2 ^ 50≤k) {d:Ty.den TDisk} (h:DR d) {l:List ByteArray} (hl:l.length≤1073741824):spec_l14Drop_g.f k d l=some ((dropsR l d).1,((dropsR l d).2,())):=by
 unfold spec_l14Drop_g.f spec_l14Drop_g.t
 refine forL0 (L:=fun n i (x:Ty.den TDisk)=>spec_l14Drop_g.l0 k n l i x.1 x.2.1 x.2.2.1 x.2.2.2.1 [] 0 0 false) (R:=fun r x=>some ((dropsR r x).1,((dropsR r x).2,()))) (Ty.dflt .str) l (fun _ x=>DR x) (fun n x hx=>?_) (fun n i x y rest h0 h1 hy hr hx ih=>?_) (n:=k) (s:=d) (by omega) h
 · simp only [spec_l14Drop_g.l0,spec_l14Drop_g.b0]
   rw [decF (by omega),c_f]
   rfl
 · have hlx:=hx.sz.l
   simp only [spec_l14Drop_g.l0,spec_l14Drop_g.b0]
   rw [decT h1,c_t,inb_eq h0 h1,hy,show (x.1,(x.2.1,(x.2.2.1,(x.2.2.2.1,()))))=x from rfl,specFind_eq hk (by omega),o_s,inb_eq h0 h1,w64_eq (n:=i+1) (by omega) (by omega)]
   simp only [find_none,dropsR,goneR,seqR]
   cases (getM x.1 y).isSome with
   | false =>
    simp only [n_f,c_t,c_f]
    exact ih x hx
   | true =>
    simp only [n_t,c_f,c_t]
    rw [specRem_eq hk hx.sz,o_s]
    simp only [bne]
    cases c:(remM x y).2==0 with
    | false=>rfl
    | true =>
     simp only [n_t,c_f,c_t]
     exact ih _ (rem_DR hx y)
theorem orphL_eq (ids:List Int):∀ (l:FileL) (acc:List ByteArray),orphL ids l acc=acc++(l.filter (isOrph ids)).map (·.1)
 | [],acc=>by unfold orphL;simp
 | f::l,acc=>by
  unfold orphL
  rw [orphL_eq ids l]
  cases c:isOrph ids f
  · rw [c_f,List.filter_cons_of_neg (by rw [c];decide)]
  · rw [c_t,List.filter_cons_of_pos c,List.map_cons,a_a];rfl
theorem orph_sub {d:Ty.den TDisk} (ids:List Int):(orphM d ids).Sublist (nmsF d.1):=by
 unfold orphM
 cases diskM d
 · exact List.nil_sublist _
 · rw [c_t,orphL_eq,List.nil_append]
   exact (List.filter_sublist).map _
theorem get_del {l:FileL} {s t:ByteArray} (h:t≠s):getM (delF l s) t=getM l t:=by
 induction l with
 | nil=>rfl
 | cons g l ih =>
  unfold delF
  cases c:seq g.1 s with
  | true =>
   rw [c_t,getM.eq_2,seqF (fun q=>h (by rw [← q,seq_iff.1 c])),c_f]
  | false =>
   rw [c_f,getM.eq_2,getM.eq_2,ih]
theorem nms_get {l:FileL} {s:ByteArray} (h:s ∈ nmsF l):(getM l s).isSome=true:=by
 cases q:getM l s with
 | some f=>rfl
 | none =>
  obtain ⟨f,h1,h2⟩:=List.mem_map.1 h
  exact absurd h2 (get_none.1 q f h1)
theorem rem_keep {d:Ty.den TDisk} {s t:ByteArray} (h:t≠s) (ht:(getM d.1 t).isSome=true):(getM (remM d s).1.1 t).isSome=true:=by
 unfold remM stepM
 cases (begM d).2 != 0 with
 | true=>rw [c_t,begM_files];exact ht
 | false =>
  show (getM (remG s d.1 d.2.1).1 t).isSome=true
  unfold remG
  cases (getM d.1 s).isNone
  · show (getM (delF d.1 s) t).isSome=true
    rw [get_del h]
    exact ht
  · exact ht
theorem specSweep_eq {k:Nat} (hk:2 ^ 50≤k) {d:Ty.den TDisk} (h:DR d) {v:Ty.den TLive} (hv:v.2.1.length≤1099511627776):spec_l11Sweep_g.f k d v=some ((sweepR v.2.1 d).1,(toldM (sweepR v.2.1 d).2,())):=by
 have hu:=h.sz.u
 have hn:=h.sz.n
 have hl:=h.len
 have hsub:=orph_sub (d:=d) v.2.1
 have hlen:=hsub.length_le
 unfold nmsF at hlen
 rw [List.length_map] at hlen
 have hne:(orphM d v.2.1).Pairwise (fun a b=>a≠b):=(List.Pairwise.sublist hsub h.keys).imp fun {a b} q e=>by rw [e,sls_irrefl] at q;cases q
 have hall:∀ s ∈ orphM d v.2.1,(getM d.1 s).isSome=true:=fun s hs=>nms_get (hsub.subset hs)
 unfold spec_l11Sweep_g.f spec_l11Sweep_g.t sweepR
 rw [specOrph_eq hk (by omega) (by omega) hv,o_s]
 simp only []
 generalize orphM d v.2.1=l at hlen hne hall ⊢
 refine forL0 (L:=fun n i (x:Ty.den TDisk)=>spec_l11Sweep_g.l0 k n i x.1 x.2.1 x.2.2.1 x.2.2.2.1 [] 0 0 false l) (R:=fun r x=>some ((dropsR r x).1,(toldM (dropsR r x).2,()))) (Ty.dflt .str) l (fun i x=>DR x∧∀ s ∈ l.drop i.toNat,(getM x.1 s).isSome=true) (fun n x hx=>?_) (fun n i x y rest h0 h1 hy hr hx ih=>?_) (n:=k) (s:=d) (by omega) ⟨h,fun s hs=>hall s (List.mem_of_mem_drop hs)⟩
 · simp only [spec_l11Sweep_g.l0,spec_l11Sweep_g.b0]
   rw [decF (by omega),c_f]
   rfl
 · obtain ⟨hd,ha⟩:=hx
   have hp:(y::rest).Pairwise (fun a b=>a≠b):=by rw [← hr];exact hne.drop
   have hdr:l.drop (i+1).toNat=rest:=by
    have:=congrArg (List.drop 1) hr
    rw [List.drop_drop,List.drop_one,List.tail_cons] at this
    rw [show (i+1).toNat=i.toNat+1 by omega]
    exact this
   have hy1:(getM x.1 y).isSome=true:=ha y (by rw [hr];exact m_s ..)
   simp only [spec_l11Sweep_g.l0,spec_l11Sweep_g.b0]
   rw [decT h1,c_t,inb_eq h0 h1,hy,show (x.1,(x.2.1,(x.2.2.1,(x.2.2.2.1,()))))=x from rfl,specRem_eq hk hd.sz,o_s,w64_eq (n:=i+1) (by omega) (by omega)]
   simp only [dropsR,goneR,seqR,hy1,c_t,bne,specCode_eq]
   cases c:(remM x y).2==0 with
   | false=>rfl
   | true =>
    simp only [n_t,c_f,c_t]
    refine ih (remM x y).1 ⟨rem_DR hd y,fun s hs=>?_⟩
    rw [hdr] at hs
    exact rem_keep (fun e=>(List.pairwise_cons.1 hp).1 s hs e.symm) (ha s (by rw [hr];exact m_m _ hs))
theorem implTold_eq (k:Nat) (c:Int):impl_told.f k c=some (toldM c,()):=by
 unfold impl_told.f impl_told.t toldM
 cases c==0 <;> cases c==1 <;> cases c==2 <;> rfl
theorem took_eq (k:Nat) (w:Ty.den Tworker) (d:Ty.den TDisk) (c:Int):impl_worker__took_g1.f k w d c=some ((d,(toldM c,())),()):=by
 unfold impl_worker__took_g1.f impl_worker__took_g1.t
 rw [implTold_eq,o_s]
theorem implW_cre {k:Nat} (hk:2 ^ 50≤k) (r:RD) (h:DR r.1) {s:ByteArray} (hs:s.size≤1099511627776):impl_worker__create.f k (wO r) s=some (wO (wk (fun x=>creM x s) r),()):=by
 unfold impl_worker__create.f impl_worker__create.t wk wO
 simp only []
 cases c:r.2==0 with
 | false=>rfl
 | true=>rw [c_t,c_t,implCre_eq hk h.sz hs,o_s,took_eq,o_s]
theorem implW_put {k:Nat} (hk:2 ^ 50≤k) (r:RD) (h:DR r.1) (s:ByteArray) {t:ByteArray} (ht:t.size≤1099511627776):impl_worker__put.f k (wO r) s t=some (wO (wk (fun x=>appM x s t) r),()):=by
 unfold impl_worker__put.f impl_worker__put.t wk wO
 simp only []
 cases c:r.2==0 with
 | false=>rfl
 | true=>rw [c_t,c_t,implApp_eq hk h.sz s ht,o_s,took_eq,o_s]
theorem implW_syn {k:Nat} (hk:2 ^ 50≤k) (r:RD) (h:DR r.1) (s:ByteArray):impl_worker__sync.f k (wO r) s=some (wO (wk (fun x=>synM x s) r),()):=by
 unfold impl_worker__sync.f impl_worker__sync.t wk wO
 simp only []
 cases c:r.2==0 with
 | false=>rfl
 | true=>rw [c_t,c_t,implSyn_eq hk h.sz s,o_s,took_eq,o_s]
theorem implW_ren {k:Nat} (hk:2 ^ 50≤k) (r:RD) (h:DR r.1) (a:ByteArray) {b:ByteArray} (hb:b.size≤1099511627776):impl_worker__rename.f k (wO r) a b=some (wO (wk (fun x=>renM x a b) r),()):=by
 unfold impl_worker__rename.f impl_worker__rename.t wk wO
 simp only []
 cases c:r.2==0 with
 | false=>rfl
 | true=>rw [c_t,c_t,implRen_eq hk h.sz a hb,o_s,took_eq,o_s]
theorem implW_gone {k:Nat} (hk:2 ^ 50≤k) (r:RD) (h:DR r.1) (s:ByteArray):impl_worker__gone.f k (wO r) s=some (wO (wk (goneR s) r),()):=by
 have hl:=h.sz.l
 unfold impl_worker__gone.f impl_worker__gone.t wk wO goneR
 simp only []
 cases c:r.2==0 with
 | false=>rfl
 | true =>
  rw [c_t,c_t,implFind_eq hk (by omega),o_s]
  simp only [find_some]
  cases (getM r.1.1 s).isSome with
  | true=>rw [c_t,c_t,implRem_eq hk h.sz s,o_s,took_eq,o_s]
  | false =>
   simp only [c_f]
   rw [q_t c]
   rfl
theorem implW_anew {k:Nat} (hk:2 ^ 50≤k) (r:RD) (h:DR r.1) {s:ByteArray} (hs:s.size≤1099511627776):impl_worker__anew.f k (wO r) s=some (wO (wk (freshR s) r),()):=by
 unfold impl_worker__anew.f impl_worker__anew.t
 rw [implW_gone hk r h,o_s]
 simp only []
 rw [implW_cre hk _ (wk_DR h (gone_DR s)) hs,o_s,← wk_seq]
 rfl
theorem implW_file {k:Nat} (hk:2 ^ 50≤k) (r:RD) (h:DR r.1) {s t:ByteArray} (hs:s.size≤1099511627776) (ht:t.size≤1099511627776):impl_worker__fileOf.f k (wO r) s t=some (wO (wk (fileR s t) r),()):=by
 unfold impl_worker__fileOf.f impl_worker__fileOf.t
 rw [implW_anew hk r h hs,o_s]
 simp only []
 have h1:=wk_DR (r:=r) h (fresh_DR s)
 rw [implW_put hk _ h1 s ht,o_s]
 simp only []
 rw [implW_syn hk _ (wk_DR h1 fun x hx=>app_DR hx s t) s,o_s,← wk_seq (freshR s) (fun x=>appM x s t),← wk_seq]
 rfl
theorem implW_putLive {k:Nat} (hk:2 ^ 50≤k) (r:RD) (h:DR r.1) {v:Ty.den TLive} (hv:v.2.1.length≤1073741824):impl_worker__putLive.f k (wO r) v=some (wO (wk (putLiveR v) r),()):=by
 unfold impl_worker__putLive.f impl_worker__putLive.t
 rw [implShowLive_eq hk v hv,o_s,show (⟨#[116,101,109,112]⟩:ByteArray)=tempB from rfl,show (⟨#[108,105,118,101]⟩:ByteArray)=liveB from rfl]
 simp only []
 rw [implW_file hk r h (s:=tempB) (t:=showLiveM v) (by decide) (showLive_sz v),o_s]
 simp only []
 rw [implW_ren hk _ (wk_DR h (file_DR _ _)) tempB (b:=liveB) (by decide),o_s,← wk_seq]
 rfl
theorem wk_cons (s:ByteArray) (l:List ByteArray) (r:RD):wk (dropsR (s::l)) r=wk (dropsR l) (wk (goneR s) r):=wk_seq (goneR s) (dropsR l) r
theorem implW_orph {k:Nat} (hk:2 ^ 50≤k) (r:RD) (h:DR r.1) {v:Ty.den TLive} (hv:v.2.1.length≤1099511627776):impl_worker__orphans.f k (wO r) v=some (wO (wk (sweepR v.2.1) r),()):=by
 have hu:=h.sz.u
 have hn:=h.sz.n
 have hlen:=(orph_sub (d:=r.1) v.2.1).length_le
 have hl:=h.len
 unfold nmsF at hlen
 rw [List.length_map] at hlen
 unfold impl_worker__orphans.f impl_worker__orphans.t
 rw [show (wO r).1=r.1 from rfl,implOrph_eq hk (by omega) (by omega) hv,o_s]
 simp only []
 have key:∀ l:List ByteArray,l.length≤1000→impl_worker__orphans.l0 k k l.length 0 r.1.1 r.1.2.1 r.1.2.2.1 r.1.2.2.2.1 r.2 l=some (wO (wk (dropsR l) r),()):=fun l hl=>by
  refine forL0 (L:=fun n i (x:RD)=>impl_worker__orphans.l0 k n l.length i x.1.1 x.1.2.1 x.1.2.2.1 x.1.2.2.2.1 x.2 l) (R:=fun q x=>some (wO (wk (dropsR q) x),())) (Ty.dflt .str) l (fun i x=>DR x.1) (fun n x hx=>?_) (fun n i x y rest h0 h1 hy hr hx ih=>?_) (n:=k) (s:=r) (by omega) h
  · simp only [impl_worker__orphans.l0,impl_worker__orphans.b0]
    rw [decF (by omega),c_f,show dropsR []=fun d=>(d,0) from rfl,wk_nil]
    rfl
  · simp only [impl_worker__orphans.l0,impl_worker__orphans.b0]
    rw [decT h1,c_t,inb_eq h0 h1,hy,show ((x.1.1,(x.1.2.1,(x.1.2.2.1,(x.1.2.2.2.1,())))),(x.2,()))=wO x from rfl,implW_gone hk x hx,o_s,w64_eq (n:=i+1) (by omega) (by omega),wk_cons]
    exact ih (wk (goneR y) x) (wk_DR hx (gone_DR y))
 rw [show (wO r).2.1=r.2 from rfl]
 rw [key (orphM r.1 v.2.1) (by omega)]
 unfold wk sweepR
 rfl
theorem implW_drops {k:Nat} (hk:2 ^ 50≤k) (r:RD) (h:DR r.1) {l:List ByteArray} (hl:l.length≤1000):impl_worker__clean.f k (wO r) l =
 some (wO (bif r.2==2 then ((dropsR l r.1).1,bif (dropsR l r.1).2==0 then 2 else toldM (dropsR l r.1).2) else r),()):=by
 unfold impl_worker__clean.f impl_worker__clean.t
 rw [show (wO r).2.1=r.2 from rfl]
 simp only [bne]
 cases c:r.2==2 with
 | false=>rfl
 | true =>
  simp only [n_t,c_f,c_t]
  have e2:r.2=2:=q_t c
  have key:∀ (n:Nat) (i:Int) (x:RD),0≤i→i≤(l.length:Int)→(l.length:Int)-i<n→DR x.1→impl_worker__clean.l1 k n l l.length i r.1.2.1 r.1.2.2.1 r.1.2.2.2.1 2 x.1.1 x.1.2.1 x.1.2.2.1 x.1.2.2.2.1 x.2 =
   some (wO (bif (wk (dropsR (l.drop i.toNat)) x).2==0 then ((wk (dropsR (l.drop i.toNat)) x).1,2) else wk (dropsR (l.drop i.toNat)) x),()):=fun n i x h0 h1 h2 hx=>by
   refine forL (L:=fun n i (x:RD)=>impl_worker__clean.l1 k n l l.length i r.1.2.1 r.1.2.2.1 r.1.2.2.2.1 2 x.1.1 x.1.2.1 x.1.2.2.1 x.1.2.2.2.1 x.2) (R:=fun q x=>some (wO (bif (wk (dropsR q) x).2==0 then ((wk (dropsR q) x).1,2) else wk (dropsR q) x),())) (Ty.dflt .str) l (fun i x=>DR x.1) (fun n x hx=>?_) (fun n i x y rest h0 h1 hy hr hx ih=>?_) n i x h0 h1 h2 hx
   · simp only [impl_worker__clean.l1,impl_worker__clean.b1]
     rw [decF (by omega),c_f,show dropsR []=fun d=>(d,0) from rfl,wk_nil]
     simp only [bne]
     cases x.2==0 <;> rfl
   · simp only [impl_worker__clean.l1,impl_worker__clean.b1]
     rw [decT h1,c_t,inb_eq h0 h1,hy,show ((x.1.1,(x.1.2.1,(x.1.2.2.1,(x.1.2.2.2.1,())))),(x.2,()))=wO x from rfl,implW_gone hk x hx,o_s,w64_eq (n:=i+1) (by omega) (by omega),wk_cons]
     exact ih (wk (goneR y) x) (wk_DR hx (gone_DR y))
  obtain ⟨q,hq⟩:∃ q,k=q+1:=⟨k-1,by omega⟩
  have fin:impl_worker__clean.l0 k (q+1) l l.length 0 r.1.1 r.1.2.1 r.1.2.2.1 r.1.2.2.2.1 2 r.1.2.1 r.1.2.2.1 r.1.2.2.2.1 0=some (wO (bif (wk (dropsR l) (r.1,0)).2==0 then ((wk (dropsR l) (r.1,0)).1,2) else wk (dropsR l) (r.1,0)),()):=by
   have k1:=key (q+1+1) 0 (r.1,0) (by omega) (by omega) (by omega) h
   rw [show l.drop (0:Int).toNat=l from rfl] at k1
   refine Eq.trans ?_ k1
   simp only [impl_worker__clean.l0,impl_worker__clean.b0,impl_worker__clean.l1,impl_worker__clean.b1]
   by_cases hz:(0:Int)<(l.length:Int)
   · rw [decT hz,c_t,c_t,inb_eq (by omega) hz,inb_eq (by omega) hz]
     have e1:impl_worker__gone.f k ((r.1.1,(r.1.2.1,(r.1.2.2.1,(r.1.2.2.2.1,())))),(0,())) (List.getD l (Int.toNat 0) (Ty.dflt .str))=_:=implW_gone hk (r.1,0) h (List.getD l (Int.toNat 0) (Ty.dflt .str))
     rw [e1,o_s,o_s,w64_eq (n:=(0:Int)+1) (by omega) (by omega)]
     have d1:=wk_DR (r:=((r.1,0):RD)) h (gone_DR (List.getD l (Int.toNat 0) (Ty.dflt .str)))
     have a1:=key q 1 (wk (goneR (List.getD l (Int.toNat 0) (Ty.dflt .str))) (r.1,0)) (by omega) (by omega) (by omega) d1
     have a2:=key (q+1) 1 (wk (goneR (List.getD l (Int.toNat 0) (Ty.dflt .str))) (r.1,0)) (by omega) (by omega) (by omega) d1
     exact a1.trans a2.symm
   · rw [decF hz,c_f,c_f]
  rw [show (wO r).1=r.1 from rfl,e2]
  have fin2:impl_worker__clean.l0 k k l l.length 0 r.1.1 r.1.2.1 r.1.2.2.1 r.1.2.2.2.1 2 r.1.2.1 r.1.2.2.1 r.1.2.2.2.1 0=_:=(congrArg (fun z=>impl_worker__clean.l0 k z l l.length 0 r.1.1 r.1.2.1 r.1.2.2.1 r.1.2.2.2.1 2 r.1.2.1 r.1.2.2.1 r.1.2.2.2.1 0) hq).trans fin
  rw [fin2]
  unfold wk
  simp only [beq_self_eq_true,c_t,toldM_zero]
  cases c3:(dropsR l r.1).2==0 <;> rfl
end Go.Proofs.YtejgkmhpmhfnbaaGreatDoor.G
namespace Go.Proofs.YtejgkmhpmhfnbaaGreatDoor.G
open Go.V
abbrev RecL:=List (Ty.den TRec)
def sealR (kind batch:Int) (l:RecL):Ty.den TRec:=(kind,(batch,(ByteArray.empty,(ByteArray.empty,((l.length:Int),(sumM l,()))))))
theorem specSeal_eq {k:Nat} (hk:2 ^ 50≤k) {l:RecL} (hl:l.length≤1073741824) (b kd:Int):spec_l9Seal.f k l b kd=some (sealR kd b l,()):=by
 unfold spec_l9Seal.f spec_l9Seal.t
 rw [specSumOf_eq hk hl,o_s]
 rfl
end Go.Proofs.YtejgkmhpmhfnbaaGreatDoor.G
namespace Go.Proofs.YtejgkmhpmhfnbaaGreatDoor.G
open Go.V
abbrev PairL:=List (Ty.den TPair)
def keyOkB (s:ByteArray):Bool:=decide (1≤(s.size:Int)∧(s.size:Int)≤8)
end Go.Proofs.YtejgkmhpmhfnbaaGreatDoor.G
namespace Go.Proofs.YtejgkmhpmhfnbaaGreatDoor.G
open Go.V
abbrev EntryL:=List (Ty.den TEntry)
end Go.Proofs.YtejgkmhpmhfnbaaGreatDoor.G
namespace Go.Proofs.YtejgkmhpmhfnbaaGreatDoor.G
open Go.V
noncomputable def recAtM (s:ByteArray) (i n:Int):Ty.den TRec × Bool :=
 if 0≤i∧i≤s.size∧1≤n∧n≤s.size-i then (if (unfM (ByteArray.extract s i.toNat (i+n).toNat)).2=n then readRecM (unfM (ByteArray.extract s i.toNat (i+n).toNat)).1 else (zRec,false)) else (zRec,false)
theorem readRec_no {s:ByteArray} (h:(readRecM s).2=false):readRecM s=(zRec,false):=undo_no h
theorem ext_le (s:ByteArray) (i j:Nat):(ByteArray.extract s i j).size≤s.size:=by
 rw [← nb_len,nb_ext,List.length_drop,List.length_take,nb_len];omega
theorem specRecAt_eq {k:Nat} (hk:2 ^ 50≤k) {s:ByteArray} (i n:Int) (hs:s.size≤1099511627775):spec_RecAt.f k s i n=some ((recAtM s i n).1,((recAtM s i n).2,())):=by
 unfold spec_RecAt.f spec_RecAt.t recAtM
 rw [l1In_eq,o_s]
 by_cases c1:0≤i∧i≤s.size
 case neg=>rw [decF c1,if_neg (fun h=>c1 ⟨h.1,h.2.1⟩)];rfl
 rw [decT c1,n_t,c_f,l1In_eq,o_s,w64_eq (by omega) (by omega)]
 by_cases c2:1≤n∧n≤s.size-i
 case neg=>rw [decF c2,if_neg (fun h=>c2 ⟨h.2.2.1,h.2.2.2⟩)];rfl
 have hz:=ext_le s i.toNat (i+n).toNat
 have hu:=unf_bound (ByteArray.extract s i.toNat (i+n).toNat)
 rw [decT c2,n_t,c_f,w64_eq (by omega) (by omega),inc2_eq (by omega) (by omega) (by omega),if_pos ⟨c1.1,c1.2,c2⟩,specUnframe_eq hk (by omega),o_s]
 simp only []
 rw [specReadRec_eq hk (by omega),o_s]
 by_cases c3:(unfM (ByteArray.extract s i.toNat (i+n).toNat)).2=n
 · rw [if_pos c3]
   simp only [show ((unfM (ByteArray.extract s i.toNat (i+n).toNat)).2 != n)=false by rw [c3];simp,c_f]
   cases c4:(readRecM (unfM (ByteArray.extract s i.toNat (i+n).toNat)).1).2 with
   | true=>rfl
   | false=>rw [readRec_no c4];rfl
 · rw [if_neg c3]
   simp only [show ((unfM (ByteArray.extract s i.toNat (i+n).toNat)).2 != n)=true from bne_iff_ne.2 c3,c_t]
theorem implRecAt_eq {k:Nat} (hk:2 ^ 50≤k) {s:ByteArray} (i n:Int) (hs:s.size≤1099511627775):impl_RecAt.f k s i n=some ((recAtM s i n).1,((recAtM s i n).2,())):=by
 unfold impl_RecAt.f impl_RecAt.t recAtM
 rw [in_eq,o_s]
 by_cases c1:0≤i∧i≤s.size
 case neg=>rw [decF c1,if_neg (fun h=>c1 ⟨h.1,h.2.1⟩)];rfl
 rw [decT c1,n_t,c_f,in_eq,o_s,w64_eq (by omega) (by omega)]
 by_cases c2:0≤n∧n≤s.size-i
 case neg=>rw [decF c2,if_neg (fun h=>c2 ⟨by omega,h.2.2.2⟩)];rfl
 have hz:=ext_le s i.toNat (i+n).toNat
 have hu:=unf_bound (ByteArray.extract s i.toNat (i+n).toNat)
 have hsz:(ByteArray.extract s i.toNat (i+n).toNat).size≤(i+n).toNat-i.toNat:=by rw [← nb_len,nb_ext,List.length_drop,List.length_take];omega
 rw [decT c2,n_t,c_f,w64_eq (by omega) (by omega),inc2_eq (by omega) (by omega) (by omega),implUnframe_eq hk (by omega),o_s]
 simp only []
 by_cases c0:(unfM (ByteArray.extract s i.toNat (i+n).toNat)).2=0
 · rw [show ((unfM (ByteArray.extract s i.toNat (i+n).toNat)).2==0)=true by rw [c0];rfl,c_t]
   split
   · rename_i h
     rw [if_neg (by omega)]
   · rfl
 · rw [show ((unfM (ByteArray.extract s i.toNat (i+n).toNat)).2==0)=false from q_f c0,c_f,if_pos ⟨c1.1,c1.2,by omega,c2.2⟩]
   by_cases c3:(unfM (ByteArray.extract s i.toNat (i+n).toNat)).2=n
   · rw [if_pos c3]
     simp only [show ((unfM (ByteArray.extract s i.toNat (i+n).toNat)).2 != n)=false by rw [c3];simp,c_f]
     rw [implReadRec_eq hk (by omega),o_s]
   · rw [if_neg c3]
     simp only [show ((unfM (ByteArray.extract s i.toNat (i+n).toNat)).2 != n)=true from bne_iff_ne.2 c3,c_t]
end Go.Proofs.YtejgkmhpmhfnbaaGreatDoor.G
namespace Go.Proofs.YtejgkmhpmhfnbaaGreatDoor.G
open Go.V
def entOk (p:Option (Ty.den TEntry)) (x:Ty.den TEntry):Bool :=
 keyOkB x.1&&(decide ((1:Int)≤x.2.1∧x.2.1≤100000)&&(!decide (x.2.2.1<(0:Int))&&(decide ((1:Int)≤x.2.2.2.1∧x.2.2.2.1≤210)&&(decide ((1:Int)≤x.2.2.2.2.1∧x.2.2.2.2.1≤1000000)&&(match p with | none=>true | some y=>sls y.1 x.1)))))
def dirM (l:EntryL):Bool:=decide ((l.length:Int)≤20)&&adj entOk none l
theorem specDir_eq {k:Nat} (hk:2 ^ 50≤k) (l:EntryL):spec_DirOk.f k l=some (dirM l,()):=by
 unfold spec_DirOk.f spec_DirOk.t dirM
 by_cases c:l.length > 20
 · rw [decT (by omega),c_t,decF (by omega),Bool.false_and]
 · rw [decF (by omega),c_f,decT (by omega),Bool.true_and]
   refine (forAdj (L:=fun n i=>spec_DirOk.l0 k n l i) (Ty.dflt TEntry) l entOk (some (true,())) (some (false,())) (fun n=>?_) (fun n x h hx=>?_) (fun n i x y h0 h1 hx hy=>?_) (n:=k) (by omega)).trans (by cases adj entOk none l <;> rfl)
   · simp (disch:=omega) only [spec_DirOk.l0,spec_DirOk.b0,decF,c_f]
   · simp (disch:=omega) only [spec_DirOk.l0,spec_DirOk.b0,decT (show (0:Int)<(l.length:Int) by omega),c_t,inb_eq,hx,specKeyOk_eq k,l1InD_eq k,o_s,decF (show ¬ (0:Int) > 0 by omega),c_f,w64_eq,entOk,keyOkB]
     cases decide (1≤(x.1.size:Int)∧(x.1.size:Int)≤8) <;> cases decide ((1:Int)≤x.2.1∧x.2.1≤100000) <;> cases decide (x.2.2.1<(0:Int)) <;> cases decide ((1:Int)≤x.2.2.2.1∧x.2.2.2.1≤210) <;> cases decide ((1:Int)≤x.2.2.2.2.1∧x.2.2.2.2.1≤1000000) <;> rfl
   · simp (disch:=omega) only [spec_DirOk.l0,spec_DirOk.b0,decT h1,c_t,inb_eq,hx,hy,specKeyOk_eq k,l1InD_eq k,o_s,decT (show i > 0 by omega),c_f,w64_eq,entOk,keyOkB,sls_total]
     cases decide (1≤(x.1.size:Int)∧(x.1.size:Int)≤8) <;> cases decide ((1:Int)≤x.2.1∧x.2.1≤100000) <;> cases decide (x.2.2.1<(0:Int)) <;> cases decide ((1:Int)≤x.2.2.2.1∧x.2.2.2.1≤210) <;> cases decide ((1:Int)≤x.2.2.2.2.1∧x.2.2.2.2.1≤1000000) <;> cases sls y.1 x.1 <;> rfl
theorem implDir_eq {k:Nat} (hk:2 ^ 50≤k) {l:EntryL} (hl:l.length≤1099511627776):impl_DirOk.f k l=some (dirM l,()):=by
 unfold impl_DirOk.f impl_DirOk.t dirM
 refine (forAdj (L:=fun n i=>impl_DirOk.l0 k n l l l.length i) (Ty.dflt TEntry) l entOk (some (decide ((l.length:Int)≤20),())) (some (false,())) (fun n=>?_) (fun n x h hx=>?_) (fun n i x y h0 h1 hx hy=>?_) (n:=k) (by omega)).trans (by cases adj entOk none l <;> cases decide ((l.length:Int)≤20) <;> rfl)
 · simp (disch:=omega) only [impl_DirOk.l0,impl_DirOk.b0,decF (show ¬ (l.length:Int)<(l.length:Int) by omega),c_f]
 · simp (disch:=omega) only [impl_DirOk.l0,impl_DirOk.b0,decT (show (0:Int)<(l.length:Int) by omega),c_t,inb_eq,hx,implKeyOk_eq k,inD_eq k,o_s,decF (show ¬ (0:Int) > 0 by omega),c_f,w64_eq,entOk,keyOkB]
   cases decide (1≤(x.1.size:Int)∧(x.1.size:Int)≤8) <;> cases decide ((1:Int)≤x.2.1∧x.2.1≤100000) <;> cases decide (x.2.2.1<(0:Int)) <;> cases decide ((1:Int)≤x.2.2.2.1∧x.2.2.2.1≤210) <;> cases decide ((1:Int)≤x.2.2.2.2.1∧x.2.2.2.2.1≤1000000) <;> rfl
 · simp (disch:=omega) only [impl_DirOk.l0,impl_DirOk.b0,decT h1,c_t,inb_eq,hx,hy,implKeyOk_eq k,inD_eq k,o_s,decT (show i > 0 by omega),c_f,w64_eq,entOk,keyOkB]
   cases decide (1≤(x.1.size:Int)∧(x.1.size:Int)≤8) <;> cases decide ((1:Int)≤x.2.1∧x.2.1≤100000) <;> cases decide (x.2.2.1<(0:Int)) <;> cases decide ((1:Int)≤x.2.2.2.1∧x.2.2.2.1≤210) <;> cases decide ((1:Int)≤x.2.2.2.2.1∧x.2.2.2.2.1≤1000000) <;> cases sls y.1 x.1 <;> rfl
noncomputable def recE (d:Ty.den TDisk) (e:Ty.den TEntry):Ty.den TRec × Bool:=recAtM (textM d (namedM segB e.2.1)).1 e.2.2.1 e.2.2.2.1
theorem text_no {d:Ty.den TDisk} {s:ByteArray} (h:(textM d s).2=false):(textM d s).1=⟨#[]⟩:=by
 unfold textM at h ⊢
 generalize diskM d=b at h ⊢
 generalize getM d.1 s=o at h ⊢
 cases b <;> cases o <;> first | rfl | cases h
noncomputable def segOk (d:Ty.den TDisk) (tail:Int) (x:Int) (last:Bool):Bool :=
 (textM d (namedM segB x)).2&&(decide ((scanM (textM d (namedM segB x)).1).2=((textM d (namedM segB x)).1.size:Int))&&(!last||(tail==((textM d (namedM segB x)).1.size:Int))))
noncomputable def segsOk (d:Ty.den TDisk) (tail:Int):List Int→Bool
 | []=>true
 | x::l=>segOk d tail x l.isEmpty&&segsOk d tail l
noncomputable def entIn (d:Ty.den TDisk) (next:Int) (e:Ty.den TEntry):Bool :=
 (recE d e).2&&(seq (recE d e).1.2.2.1 e.1&&(((recE d e).1.2.1==e.2.2.2.2.1)&&((((recE d e).1.1==1)||((recE d e).1.1==4))&&!decide (e.2.2.2.2.1≥next))))
noncomputable def storeM (st:Ty.den TStore) (d:Ty.den TDisk):Bool :=
 diskM d&&(liveM st.1&&(dirM st.2.1&&(decide ((1:Int)≤st.2.2.1∧st.2.2.1≤1000001)&&(segsOk d st.2.2.2.1 st.1.2.1&&st.2.1.all (entIn d st.2.2.1)))))
theorem last_iff {α:Type} {l:List α} {i:Int} {x:α} {rest:List α} (h0:0≤i) (h:l.drop i.toNat=x::rest):rest.isEmpty=decide (i+1=(l.length:Int)):=by
 have:=congrArg List.length h
 rw [List.length_drop,l_c] at this
 cases rest with
 | nil=>rw [decT (by rw [List.length_nil] at this;omega)];rfl
 | cons y r=>rw [decF (by rw [l_c] at this;omega)];rfl
theorem specStore_eq {k:Nat} (hk:2 ^ 50≤k) {st:Ty.den TStore} {d:Ty.den TDisk} (hd:DSz d):spec_StoreOk.f k st d=some (storeM st d,()):=by
 have:=hd.l;have:=hd.u;have:=hd.n
 unfold spec_StoreOk.f spec_StoreOk.t storeM
 rw [specDisk_eq hk (by omega) (by omega),o_s]
 cases diskM d with
 | false=>rfl
 | true =>
  rw [n_t,c_f,specLive_eq hk,o_s,Bool.true_and]
  cases cl:liveM st.1 with
  | false=>rfl
  | true =>
   rw [n_t,c_f,specDir_eq hk,o_s,Bool.true_and]
   cases cd:dirM st.2.1 with
   | false=>rfl
   | true =>
    rw [n_t,c_f,l1InD_eq,o_s,Bool.true_and]
    cases decide ((1:Int)≤st.2.2.1∧st.2.2.1≤1000001) with
    | false=>rfl
    | true =>
     rw [n_t,c_f,Bool.true_and]
     have hl:st.1.2.1.length≤60:=by
      unfold liveM at cl
      rw [b_a,b_a,decide_eq_true_eq,decide_eq_true_eq] at cl
      omega
     have he:st.2.1.length≤20:=by
      unfold dirM at cd
      rw [b_a,decide_eq_true_eq] at cd
      omega
     have l1:spec_StoreOk.l1 k k 0 st.1.1 st.1.2.1 st.2.1 st.2.2.1 st.2.2.2.1 st.2.2.2.2.1 d.1 d.2.1 d.2.2.1 d.2.2.2.1=some (st.2.1.all (entIn d st.2.2.1),()):=by
      refine forL0 (L:=fun n i (_:Unit)=>spec_StoreOk.l1 k n i st.1.1 st.1.2.1 st.2.1 st.2.2.1 st.2.2.2.1 st.2.2.2.2.1 d.1 d.2.1 d.2.2.1 d.2.2.2.1) (R:=fun r _=>some (r.all (entIn d st.2.2.1),())) (Ty.dflt TEntry) st.2.1 (fun _ _=>True) (fun n _ _=>?_) (fun n i _ x rest h0 h1 hx hr hp ih=>?_) (n:=k) (s:=()) (by omega) trivial
      · simp (disch:=omega) only [spec_StoreOk.l1,spec_StoreOk.b1,decF,c_f,List.all_nil]
      · have ih:=ih () trivial
        have hz:=textM_size d (namedM segB x.2.1)
        have ht:=specText_eq hk (d:=d) (by omega) (by omega) (by omega) (namedM segB x.2.1)
        have hr:=specRecAt_eq hk (s:=(textM d (namedM segB x.2.1)).1) x.2.2.1 x.2.2.2.1 (by omega)
        simp (disch:=omega) only [spec_StoreOk.l1,spec_StoreOk.b1,decT h1,c_t,inb_eq,hx,specSegName_eq hk,o_s,ht,hr,w64_eq,ih,List.all_cons,entIn,recE,bne]
        cases (recAtM (textM d (namedM segB x.2.1)).1 x.2.2.1 x.2.2.2.1).2 <;> cases seq (recAtM (textM d (namedM segB x.2.1)).1 x.2.2.1 x.2.2.2.1).1.2.2.1 x.1 <;> cases ((recAtM (textM d (namedM segB x.2.1)).1 x.2.2.1 x.2.2.2.1).1.2.1==x.2.2.2.2.1) <;>
         cases ((recAtM (textM d (namedM segB x.2.1)).1 x.2.2.1 x.2.2.2.1).1.1==1) <;> cases ((recAtM (textM d (namedM segB x.2.1)).1 x.2.2.1 x.2.2.2.1).1.1==4) <;> cases decide (x.2.2.2.2.1≥st.2.2.1) <;> rfl
     refine (forL0 (L:=fun n i (_:Unit)=>spec_StoreOk.l0 k n i st.1.1 st.1.2.1 st.2.1 st.2.2.1 st.2.2.2.1 st.2.2.2.2.1 d.1 d.2.1 d.2.2.1 d.2.2.2.1) (R:=fun r _=>some (segsOk d st.2.2.2.1 r&&st.2.1.all (entIn d st.2.2.1),())) (Ty.dflt (.int .i64)) st.1.2.1 (fun _ _=>True) (fun n _ _=>?_) (fun n i _ x rest h0 h1 hx hr hp ih=>?_) (n:=k) (s:=()) (by omega) trivial)
     · simp (disch:=omega) only [spec_StoreOk.l0,spec_StoreOk.b0,decF,c_f,segsOk,l1,Bool.true_and]
     · have ih:=ih () trivial
       have hz:=textM_size d (namedM segB x)
       have ht:=specText_eq hk (d:=d) (by omega) (by omega) (by omega) (namedM segB x)
       have hs:=specScan_eq hk (s:=(textM d (namedM segB x)).1) (by omega)
       have hle:=(scanM_len (textM d (namedM segB x)).1).2.2
       have hlast:=last_iff h0 hr
       simp (disch:=omega) only [spec_StoreOk.l0,spec_StoreOk.b0,decT h1,c_t,inb_eq,hx,specSegName_eq hk,o_s,ht,hs,w64_eq,ih,segsOk,segOk,bne,hlast]
       rw [show ((i+1:Int)==(st.1.2.1.length:Int))=decide (i+1=(st.1.2.1.length:Int)) from rfl]
       cases (textM d (namedM segB x)).2 with
       | false=>rfl
       | true =>
        by_cases q:(scanM (textM d (namedM segB x)).1).2=((textM d (namedM segB x)).1.size:Int)
        · rw [decT q,decF (by omega)]
          cases decide (i+1=(st.1.2.1.length:Int)) <;> cases (st.2.2.2.1==((textM d (namedM segB x)).1.size:Int)) <;> rfl
        · rw [decF q,decT (by omega)]
          rfl
theorem implStore_eq {k:Nat} (hk:2 ^ 50≤k) {st:Ty.den TStore} {d:Ty.den TDisk} (hd:DSz d) (hv:st.1.2.1.length≤1099511627776) (hw:st.2.1.length≤1099511627776):impl_StoreOk.f k st d=some (storeM st d,()):=by
 have:=hd.l;have:=hd.u;have:=hd.n
 unfold impl_StoreOk.f impl_StoreOk.t storeM
 rw [implDisk_eq hk (by omega) (by omega),o_s]
 cases diskM d with
 | false=>rfl
 | true =>
  rw [n_t,c_f,implLive_eq hk hv,o_s,Bool.true_and]
  cases cl:liveM st.1 with
  | false=>rfl
  | true =>
   rw [n_t,c_f,implDir_eq hk hw,o_s,Bool.true_and]
   cases cd:dirM st.2.1 with
   | false=>rfl
   | true =>
    rw [n_t,c_f,inD_eq,o_s,Bool.true_and]
    cases decide ((1:Int)≤st.2.2.1∧st.2.2.1≤1000001) with
    | false=>rfl
    | true =>
     rw [n_t,c_f,Bool.true_and]
     have hl:st.1.2.1.length≤60:=by
      unfold liveM at cl
      rw [b_a,b_a,decide_eq_true_eq,decide_eq_true_eq] at cl
      omega
     have he:st.2.1.length≤20:=by
      unfold dirM at cd
      rw [b_a,decide_eq_true_eq] at cd
      omega
     have l1:impl_StoreOk.l1 k k st.2.1 st.2.1.length 0 st.1.1 st.1.2.1 st.2.1 st.2.2.1 st.2.2.2.1 st.2.2.2.2.1 d.1 d.2.1 d.2.2.1 d.2.2.2.1=some (st.2.1.all (entIn d st.2.2.1),()):=by
      refine forL0 (L:=fun n i (_:Unit)=>impl_StoreOk.l1 k n st.2.1 st.2.1.length i st.1.1 st.1.2.1 st.2.1 st.2.2.1 st.2.2.2.1 st.2.2.2.2.1 d.1 d.2.1 d.2.2.1 d.2.2.2.1) (R:=fun r _=>some (r.all (entIn d st.2.2.1),())) (Ty.dflt TEntry) st.2.1 (fun _ _=>True) (fun n _ _=>?_) (fun n i _ x rest h0 h1 hx hr hp ih=>?_) (n:=k) (s:=()) (by omega) trivial
      · simp (disch:=omega) only [impl_StoreOk.l1,impl_StoreOk.b1,decF,c_f,List.all_nil]
      · have ih:=ih () trivial
        have hz:=textM_size d (namedM segB x.2.1)
        have ht:=implText_eq hk (d:=d) (by omega) (by omega) (by omega) (namedM segB x.2.1)
        have hr:=implRecAt_eq hk (s:=(textM d (namedM segB x.2.1)).1) x.2.2.1 x.2.2.2.1 (by omega)
        simp (disch:=omega) only [impl_StoreOk.l1,impl_StoreOk.b1,decT h1,c_t,inb_eq,hx,implSegName_eq k,o_s,ht,hr,w64_eq,ih,List.all_cons,entIn,recE,bne]
        cases (recAtM (textM d (namedM segB x.2.1)).1 x.2.2.1 x.2.2.2.1).2 <;> cases seq (recAtM (textM d (namedM segB x.2.1)).1 x.2.2.1 x.2.2.2.1).1.2.2.1 x.1 <;> cases ((recAtM (textM d (namedM segB x.2.1)).1 x.2.2.1 x.2.2.2.1).1.2.1==x.2.2.2.2.1) <;>
         cases ((recAtM (textM d (namedM segB x.2.1)).1 x.2.2.1 x.2.2.2.1).1.1==1) <;> cases ((recAtM (textM d (namedM segB x.2.1)).1 x.2.2.1 x.2.2.2.1).1.1==4) <;> cases decide (x.2.2.2.2.1≥st.2.2.1) <;> rfl
     refine (forL0 (L:=fun n i (_:Unit)=>impl_StoreOk.l0 k n st.1.2.1 st.1.2.1.length i st.1.1 st.1.2.1 st.2.1 st.2.2.1 st.2.2.2.1 st.2.2.2.2.1 d.1 d.2.1 d.2.2.1 d.2.2.2.1) (R:=fun r _=>some (segsOk d st.2.2.2.1 r&&st.2.1.all (entIn d st.2.2.1),())) (Ty.dflt (.int .i64)) st.1.2.1 (fun _ _=>True) (fun n _ _=>?_) (fun n i _ x rest h0 h1 hx hr hp ih=>?_) (n:=k) (s:=()) (by omega) trivial)
     · simp (disch:=omega) only [impl_StoreOk.l0,impl_StoreOk.b0,decF,c_f,segsOk,l1,Bool.true_and]
     · have ih:=ih () trivial
       have hz:=textM_size d (namedM segB x)
       have ht:=implText_eq hk (d:=d) (by omega) (by omega) (by omega) (namedM segB x)
       have hs:=implScan_eq hk (s:=(textM d (namedM segB x)).1) (by omega)
       have hlast:=last_iff h0 hr
       simp (disch:=omega) only [impl_StoreOk.l0,impl_StoreOk.b0,decT h1,c_t,inb_eq,hx,implSegName_eq k,o_s,ht,hs,w64_eq,ih,segsOk,segOk,bne,hlast]
       rw [show (i==(st.1.2.1.length:Int)-1)=decide (i+1=(st.1.2.1.length:Int)) from (show decide (i=(st.1.2.1.length:Int)-1)=_ from decide_eq_decide.2 (by omega))]
       cases (textM d (namedM segB x)).2 with
       | false=>rfl
       | true =>
        by_cases q:(scanM (textM d (namedM segB x)).1).2=((textM d (namedM segB x)).1.size:Int)
        · rw [decT q,show ((scanM (textM d (namedM segB x)).1).2==((textM d (namedM segB x)).1.size:Int))=true from beq_iff_eq.2 q,q]
          cases decide (i+1=(st.1.2.1.length:Int)) <;> cases (st.2.2.2.1==((textM d (namedM segB x)).1.size:Int)) <;> rfl
        · rw [decF q,show ((scanM (textM d (namedM segB x)).1).2==((textM d (namedM segB x)).1.size:Int))=false from q_f q]
          rfl
end Go.Proofs.YtejgkmhpmhfnbaaGreatDoor.G
namespace Go.Proofs.YtejgkmhpmhfnbaaGreatDoor.G
open Go.V
theorem ext_full (s:ByteArray):ByteArray.extract s s.size s.size=⟨#[]⟩:=nb_inj (by rw [ext_tail,List.drop_eq_nil_of_le (by rw [nb_len];omega)];rfl)
theorem scanN_cut (s:ByteArray):∀ (d d':Nat) (i:Int),0≤i→i≤s.size→(s.size:Int)-i<d→(scanN s d i).2-i<d'→scanN (ByteArray.extract s 0 (scanN s d i).2.toNat) d' i=scanN s d i:=by
 intro d
 induction d with
 | zero=>intro d' i h0 h1 h2;omega
 | succ d ih =>
  intro d' i h0 h1 h2 h3
  have hu:=unf_bound (ByteArray.extract s i.toNat s.size)
  have hz:=ext_size s i.toNat
  have stop:∀ d':Nat,0<d'→scanN (ByteArray.extract s 0 i.toNat) d' i=([],i):=fun d' hd=>by
   obtain ⟨n,rfl⟩:∃ q,d'=q+1:=⟨d'-1,by omega⟩
   have hs:(ByteArray.extract s 0 i.toNat).size=i.toNat:=ext0_size s (by omega)
   have e:ByteArray.extract (ByteArray.extract s 0 i.toNat) i.toNat (ByteArray.extract s 0 i.toNat).size=⟨#[]⟩:=by
    have:=ext_full (ByteArray.extract s 0 i.toNat)
    rw [hs] at this ⊢
    exact this
   rw [scanN,e,unf_nil,if_pos rfl]
  by_cases c1:(unfM (ByteArray.extract s i.toNat s.size)).2=0
  · have e:scanN s (d+1) i=([],i):=by rw [scanN,if_pos c1]
    rw [e] at h3 ⊢
    exact stop d' (by simp only [] at h3;omega)
  · cases c2:(readRecM (unfM (ByteArray.extract s i.toNat s.size)).1).2 with
    | false =>
     have e:scanN s (d+1) i=([],i):=by rw [scanN,if_neg c1,if_pos c2]
     rw [e] at h3 ⊢
     exact stop d' (by simp only [] at h3;omega)
    | true =>
     have e:scanN s (d+1) i=(((i,((unfM (ByteArray.extract s i.toNat s.size)).2,((readRecM (unfM (ByteArray.extract s i.toNat s.size)).1).1,()))):Ty.den TSpot)::(scanN s d (i+(unfM (ByteArray.extract s i.toNat s.size)).2)).1,(scanN s d (i+(unfM (ByteArray.extract s i.toNat s.size)).2)).2):=by
      rw [scanN,if_neg c1,if_neg (by rw [c2];decide)]
     rw [e] at h3 ⊢
     simp only [] at h3 ⊢
     have hl:=scanN_len s d (i+(unfM (ByteArray.extract s i.toNat s.size)).2) (by omega) (by omega)
     obtain ⟨n,rfl⟩:∃ q,d'=q+1:=⟨d'-1,by omega⟩
     have ih:=ih n (i+(unfM (ByteArray.extract s i.toNat s.size)).2) (by omega) (by omega) (by omega) (by omega)
     have key:unfM (ByteArray.extract (ByteArray.extract s 0 (scanN s d (i+(unfM (ByteArray.extract s i.toNat s.size)).2)).2.toNat) i.toNat (ByteArray.extract s 0 (scanN s d (i+(unfM (ByteArray.extract s i.toNat s.size)).2)).2.toNat).size)=unfM (ByteArray.extract s i.toNat s.size):=by
      generalize (scanN s d (i+(unfM (ByteArray.extract s i.toNat s.size)).2)).2=x at hl ⊢
      rcases unf_cases (ByteArray.extract s i.toNat s.size) with ⟨t,r,ht,e1,e2⟩ | ⟨e2,_⟩
      · rw [e2] at hl ⊢
        simp only [] at hl
        have e3:ByteArray.extract (ByteArray.extract s 0 x.toNat) i.toNat (ByteArray.extract s 0 x.toNat).size=frameM t++ByteArray.extract r 0 (x.toNat-i.toNat-(frameM t).size):=by
         apply nb_inj
         have hnb:=congrArg nb e1
         rw [ext_tail,nb_app] at hnb
         rw [ext_tail,nb_extract,nb_app,nb_extract,List.drop_take,hnb,List.take_append,nb_len,List.take_of_length_le (by rw [nb_len];omega)]
        rw [e3,unf_frame _ ht]
      · exact absurd (by rw [e2]) c1
     rw [scanN,key,if_neg c1,if_neg (by rw [c2];decide),ih]
theorem scanM_cut (s:ByteArray):scanM (ByteArray.extract s 0 (scanM s).2.toNat)=scanM s:=by
 have hl:=scanM_len s
 have:=scanN_cut s (s.size+1) ((scanM s).2.toNat+1) 0 (by omega) (by omega) (by omega) (by show (scanM s).2-0<_;omega)
 have hz:=ext0_size s (n:=(scanM s).2.toNat) (by omega)
 unfold scanM at hz ⊢
 rw [hz]
 exact this
theorem get_upd {h:Ty.den TFile→Ty.den TFile} (hh:∀ f,(h f).1=f.1):∀ (l:FileL) (s t:ByteArray),getM (updF h l s) t=bif seq t s then (getM l s).map h else getM l t
 | [],s,t=>by cases seq t s <;> rfl
 | g::l,s,t=>by
  unfold updF
  cases c:seq g.1 s with
  | true =>
   have e:=seq_iff.1 c
   rw [c_t,getM.eq_2,hh,getM.eq_2,c,c_t]
   by_cases q:t=s
   · rw [e,q,seq_refl];rfl
   · rw [seqF q,c_f,getM.eq_2]
     rw [e,seqF (fun w=>q w.symm)]
     rfl
  | false =>
   rw [c_f,getM.eq_2,getM.eq_2,c,c_f,get_upd hh l s t,getM.eq_2]
   by_cases q:t=s
   · rw [q,seq_refl,c];rfl
   · rw [seqF q];rfl
theorem step_zero {d:Ty.den TDisk} {g:FileL→Int→FileL × Int} (h:(stepM d g).2=0):(g d.1 d.2.1).2=0∧(stepM d g).1.1=(g d.1 d.2.1).1:=by
 unfold stepM at h ⊢
 cases c:(begM d).2 != 0 with
 | true =>
  rw [c,c_t] at h
  rw [h] at c
  cases c
 | false=>rw [c] at h;exact ⟨h,rfl⟩
theorem text_right {d:Ty.den TDisk} (h:DR d) (s:ByteArray):textM d s=match getM d.1 s with | none=>(⟨#[]⟩,false) | some f=>(f.2.1,true):=by
 unfold textM
 rw [disk_iff.2 h]
 rfl
theorem syn_text {d:Ty.den TDisk} (h:DR d) {n:ByteArray} (c:(synM d n).2=0) (s:ByteArray):textM (synM d n).1 s=textM d s:=by
 obtain ⟨c1,c2⟩:=step_zero c
 rw [text_right (syn_DR h n),text_right h]
 unfold synM
 rw [c2]
 unfold synG at c1 ⊢
 cases hg:(getM d.1 n).isNone with
 | true=>rfl
 | false =>
  rw [c_f]
  show (match getM (updF _ d.1 n) s with | none=>_ | some f=>_)=_
  rw [get_upd (by intro f;rfl)]
  by_cases q:s=n
  · rw [q,seq_refl,c_t]
    cases getM d.1 n <;> rfl
  · rw [seqF q,c_f]
theorem tru_text {d:Ty.den TDisk} (h:DR d) {n:ByteArray} {m:Int} (c:(truM d n m).2=0) (s:ByteArray):textM (truM d n m).1 s=bif seq s n then (ByteArray.extract (textM d n).1 0 m.toNat,true) else textM d s:=by
 obtain ⟨c1,c2⟩:=step_zero c
 rw [text_right (tru_DR h n m),text_right h,text_right h]
 unfold truM
 rw [c2]
 unfold truG at c1 ⊢
 cases hg:getM d.1 n with
 | none=>rw [hg] at c1;cases c1
 | some f =>
  rw [hg] at c1
  simp only [] at c1 ⊢
  cases hm:decide (0≤m∧m≤(f.2.1.size:Int)) with
  | false=>rw [hm] at c1;cases c1
  | true =>
   simp only [n_t,c_f]
   rw [get_upd (by intro f;rfl)]
   by_cases q:s=n
   · rw [q,seq_refl,c_t,hg];rfl
   · rw [seqF q,c_f,c_f]
theorem seqR_zero {r:RD} {f:Ty.den TDisk→RD} (h:(seqR r f).2=0):r.2=0∧seqR r f=f r.1∧(f r.1).2=0:=by
 unfold seqR at h ⊢
 cases c:r.2==0 with
 | true=>rw [c] at h;exact ⟨q_t c,rfl,h⟩
 | false =>
  rw [c] at h
  rw [c_f] at h
  rw [h] at c
  cases c
noncomputable def segT (d:Ty.den TDisk) (x:Int):ByteArray:=(textM d (namedM segB x)).1
def lastI (ids:List Int):Int:=ids.getD (ids.length-1) 0
noncomputable def fixR (x:Int) (d:Ty.den TDisk):RD :=
 seqR (bif decide ((scanM (segT d x)).2<((segT d x).size:Int)) then truM d (namedM segB x) (scanM (segT d x)).2 else (d,0)) fun y=>synM y (namedM segB x)
theorem fix_DR (x:Int) {d:Ty.den TDisk} (h:DR d):DR (fixR x d).1:=by
 unfold fixR
 refine seqR_DR ?_ fun y hy=>syn_DR hy _
 cases decide ((scanM (segT d x)).2<((segT d x).size:Int))
 · exact h
 · exact tru_DR h _ _
theorem fix_text {d:Ty.den TDisk} (h:DR d) {x:Int} (c:(fixR x d).2=0) (s:ByteArray):(textM (fixR x d).1 s).2=(textM d s).2∧scanM (textM (fixR x d).1 s).1=scanM (textM d s).1:=by
 obtain ⟨c1,c2,c3⟩:=seqR_zero c
 have e:fixR x d=_:=c2
 rw [e]
 by_cases hb:(scanM (segT d x)).2<((segT d x).size:Int)
 · simp only [decT hb,c_t] at c1 c3 ⊢
   rw [syn_text (tru_DR h _ _) c3,tru_text h c1]
   by_cases q:s=namedM segB x
   · rw [q,seq_refl,c_t]
     refine ⟨?_,scanM_cut (segT d x)⟩
     cases hq:(textM d (namedM segB x)).2 with
     | true=>rfl
     | false =>
      exfalso
      unfold segT at hb
      have hl:=scanM_len (textM d (namedM segB x)).1
      rw [text_no hq] at hb hl
      rw [e0] at hb
      omega
   · rw [seqF q];exact ⟨rfl,rfl⟩
 · simp only [decF hb,c_f] at c1 c3 ⊢
   rw [syn_text h c3]
   exact ⟨rfl,rfl⟩
end Go.Proofs.YtejgkmhpmhfnbaaGreatDoor.G
namespace Go.Proofs.YtejgkmhpmhfnbaaGreatDoor.G
open Go.V
abbrev PlaceL:=List (Ty.den TPlace)
def stepSeal (b:Int) (acc:PlaceL) (p:Ty.den TPlace):PlaceL :=
 bif p.2.2.2.1.2.1==b then (bif p.2.2.2.1.1==3 then [] else bif p.2.2.2.1.1==1||p.2.2.2.1.1==2 then acc++[p] else acc) else acc
def stepMark (acc:PlaceL) (p:Ty.den TPlace):PlaceL:=bif p.2.2.2.1.1==5 then [] else bif p.2.2.2.1.1==4 then acc++[p] else acc
def ownSeal (b:Int) (l:PlaceL):PlaceL:=l.foldl (stepSeal b) []
def ownMark (l:PlaceL):PlaceL:=l.foldl stepMark []
theorem stepSeal_len (b:Int) (acc:PlaceL) (p:Ty.den TPlace):(stepSeal b acc p).length≤acc.length+1:=by
 unfold stepSeal
 cases p.2.2.2.1.2.1==b <;> cases p.2.2.2.1.1==3 <;> cases p.2.2.2.1.1==1 <;> cases p.2.2.2.1.1==2 <;> simp
theorem stepMark_len (acc:PlaceL) (p:Ty.den TPlace):(stepMark acc p).length≤acc.length+1:=by
 unfold stepMark
 cases p.2.2.2.1.1==5 <;> cases p.2.2.2.1.1==4 <;> simp
theorem foldl_len {f:PlaceL→Ty.den TPlace→PlaceL} (h:∀ a p,(f a p).length≤a.length+1):∀ (l acc:PlaceL),(l.foldl f acc).length≤acc.length+l.length
 | [],acc=>by simp
 | p::l,acc=>by
  have:=foldl_len h l (f acc p)
  have:=h acc p
  rw [List.foldl_cons,l_c]
  omega
theorem ownSeal_len (b:Int) (l:PlaceL):(ownSeal b l).length≤l.length:=by
 have:=foldl_len (stepSeal_len b) l []
 simpa [ownSeal] using this
theorem ownMark_len (l:PlaceL):(ownMark l).length≤l.length:=by
 have:=foldl_len stepMark_len l []
 simpa [ownMark] using this
theorem specOf_eq {k:Nat} (hk:2 ^ 50≤k) {l:PlaceL} {e:Int} (b:Int) (h0:0≤e) (he:e≤l.length) (hl:l.length≤1099511627775):spec_l9Of.f k l e b=some (ownSeal b (l.take e.toNat),()):=by
 unfold spec_l9Of.f spec_l9Of.t
 have hlen:(l.take e.toNat).length=e.toNat:=by rw [List.length_take];omega
 have he':e=((l.take e.toNat).length:Int):=by omega
 conv=>lhs;rw [he']
 refine forL0 (L:=fun n i s=>spec_l9Of.l0 k n l ((l.take e.toNat).length:Int) b i s) (R:=fun r s=>some (r.foldl (stepSeal b) s,())) (Ty.dflt TPlace) (l.take e.toNat) (fun i s=>(s.length:Int)≤i) (fun n s hs=>?_) (fun n i s x rest h0 h1 hx hr hp ih=>?_) (n:=k) (s:=[]) (by omega) (by decide)
 · simp (disch:=omega) only [spec_l9Of.l0,spec_l9Of.b0,decF,c_f,List.foldl_nil]
 · rw [getD_take (by omega)] at hx
   have ih:=fun s' (h:s'.length≤s.length+1)=>ih s' (by omega)
   simp (disch:=omega) only [spec_l9Of.l0,spec_l9Of.b0,decT h1,c_t,inb_eq,hx,w64_eq]
   rw [List.foldl_cons]
   have hs1:=stepSeal_len b s x
   have ih1:=ih _ hs1
   rw [← ih1]
   unfold stepSeal
   have r1:∀ {R:Type} (q:Option R),rm (Ty.bytes TPlace) (s.length+1) q=q:=fun q=>rm_ok (by omega) (by decide)
   have r2:∀ {R:Type} (q:Option R),rm (Ty.bytes TPlace) (0+1) q=q:=fun q=>rm_ok (by omega) (by decide)
   simp only [r1,r2]
   cases c1:(x.2.2.2.1.2.1==b) <;> cases c2:(x.2.2.2.1.1==3) <;> cases c3:(x.2.2.2.1.1==1) <;> cases c4:(x.2.2.2.1.1==2) <;> first | rfl | skip
   all_goals (exfalso;have e2:=eq_of_beq c2;first | (rw [e2] at c3;revert c3;decide) | (rw [e2] at c4;revert c4;decide))
theorem implOwn_seal {k:Nat} (hk:2 ^ 50≤k) {l:PlaceL} {r:Ty.den TRec} (hr:r.1=3) (hl:l.length≤1099511627775):impl_ownOf.f k l r=some (ownSeal r.2.1 l,()):=by
 unfold impl_ownOf.f impl_ownOf.t
 rw [hr]
 refine forL0 (L:=fun n i s=>impl_ownOf.l0 k n l l.length i 3 r.2.1 r.2.2.1 r.2.2.2.1 r.2.2.2.2.1 r.2.2.2.2.2.1 s) (R:=fun q s=>some (q.foldl (stepSeal r.2.1) s,())) (Ty.dflt TPlace) l (fun i s=>(s.length:Int)≤i) (fun n s hs=>?_) (fun n i s x rest h0 h1 hx hr hp ih=>?_) (n:=k) (s:=[]) (by omega) (by decide)
 · simp (disch:=omega) only [impl_ownOf.l0,impl_ownOf.b0,decF,c_f,List.foldl_nil]
 · simp (disch:=omega) only [impl_ownOf.l0,impl_ownOf.b0,decT h1,c_t,c_f,inb_eq,hx,w64_eq,show ((3:Int)==3)=true from rfl,show ((3:Int)==5)=false from rfl]
   rw [List.foldl_cons]
   have hs1:=stepSeal_len r.2.1 s x
   have ih1:=ih (stepSeal r.2.1 s x) (by omega)
   rw [← ih1]
   unfold stepSeal bne
   have r1:∀ {R:Type} (q:Option R),rm (Ty.bytes TPlace) (s.length+1) q=q:=fun q=>rm_ok (by omega) (by decide)
   simp only [r1]
   cases c1:(x.2.2.2.1.2.1==r.2.1) <;> cases c2:(x.2.2.2.1.1==3) <;> cases c3:(x.2.2.2.1.1==1) <;> cases c4:(x.2.2.2.1.1==2) <;> rfl
theorem implOwn_mark {k:Nat} (hk:2 ^ 50≤k) {l:PlaceL} {r:Ty.den TRec} (hr:r.1=5) (hl:l.length≤1099511627775):impl_ownOf.f k l r=some (ownMark l,()):=by
 unfold impl_ownOf.f impl_ownOf.t
 rw [hr]
 refine forL0 (L:=fun n i s=>impl_ownOf.l0 k n l l.length i 5 r.2.1 r.2.2.1 r.2.2.2.1 r.2.2.2.2.1 r.2.2.2.2.2.1 s) (R:=fun q s=>some (q.foldl stepMark s,())) (Ty.dflt TPlace) l (fun i s=>(s.length:Int)≤i) (fun n s hs=>?_) (fun n i s x rest h0 h1 hx hr hp ih=>?_) (n:=k) (s:=[]) (by omega) (by decide)
 · simp (disch:=omega) only [impl_ownOf.l0,impl_ownOf.b0,decF,c_f,List.foldl_nil]
 · simp (disch:=omega) only [impl_ownOf.l0,impl_ownOf.b0,decT h1,c_t,c_f,inb_eq,hx,w64_eq,show ((5:Int)==3)=false from rfl,show ((5:Int)==5)=true from rfl]
   rw [List.foldl_cons]
   have hs1:=stepMark_len s x
   have ih1:=ih (stepMark s x) (by omega)
   rw [← ih1]
   unfold stepMark
   have r1:∀ {R:Type} (q:Option R),rm (Ty.bytes TPlace) (s.length+1) q=q:=fun q=>rm_ok (by omega) (by decide)
   simp only [r1]
   cases c1:(x.2.2.2.1.1==5) <;> cases c2:(x.2.2.2.1.1==4) <;> rfl
def recOf (p:Ty.den TPlace):Ty.den TRec:=p.2.2.2.1
def fitsM (r:Ty.den TRec) (own:PlaceL):Bool:=(r.2.2.2.2.1==(own.length:Int))&&(r.2.2.2.2.2.1==sumM (own.map recOf))
theorem implFits_eq {k:Nat} (hk:2 ^ 50≤k) (r:Ty.den TRec) {l:PlaceL} (hl:l.length≤1073741823):impl_fits.f k r l=some (fitsM r l,()):=by
 unfold impl_fits.f impl_fits.t
 refine (forL0 (L:=fun n i s=>impl_fits.l0 k n l l.length i r.1 r.2.1 r.2.2.1 r.2.2.2.1 r.2.2.2.2.1 r.2.2.2.2.2.1 s) (R:=fun q s=>some ((r.2.2.2.2.1==((s++q.map recOf).length:Int))&&(r.2.2.2.2.2.1==sumM (s++q.map recOf)),())) (Ty.dflt TPlace) l (fun i s=>(s.length:Int)=i) (fun n s hs=>?_) (fun n i s x rest h0 h1 hx hr hp ih=>?_) (n:=k) (s:=[]) (by omega) (by decide)).trans (by rw [List.nil_append,List.length_map];rfl)
 · simp (disch:=omega) only [impl_fits.l0,impl_fits.b0,decF,c_f,List.map_nil,List.append_nil,implSumOf_eq hk,o_s]
   cases (r.2.2.2.2.1==(s.length:Int)) <;> rfl
 · simp (disch:=first | omega | decide) only [impl_fits.l0,impl_fits.b0,decT,c_t,inb_eq,hx,rm_ok,w64_eq]
   refine (ih (s++[recOf x]) (by rw [len_snoc];omega)).trans ?_
   simp only [List.map_cons,a_a,List.cons_append,List.nil_append]
theorem specFits_eq {k:Nat} (hk:2 ^ 50≤k) (r:Ty.den TRec) {l:PlaceL} (hl:l.length≤1073741823):spec_l9Fits.f k r l=some (fitsM r l,()):=by
 have e:spec_l9Recs.f k l=some (l.map recOf,()):=by
  unfold spec_l9Recs.f spec_l9Recs.t
  refine (forL0 (L:=fun n i s=>spec_l9Recs.l0 k n l i s) (R:=fun q s=>some (s++q.map recOf,())) (Ty.dflt TPlace) l (fun i s=>(s.length:Int)=i) (fun n s hs=>?_) (fun n i s x rest h0 h1 hx hr hp ih=>?_) (n:=k) (s:=[]) (by omega) (by decide)).trans (by rw [List.nil_append])
  · simp (disch:=omega) only [spec_l9Recs.l0,spec_l9Recs.b0,decF,c_f,List.map_nil,List.append_nil]
  · simp (disch:=first | omega | decide) only [spec_l9Recs.l0,spec_l9Recs.b0,decT,c_t,inb_eq,hx,rm_ok,w64_eq]
    refine (ih (s++[recOf x]) (by rw [len_snoc];omega)).trans ?_
    simp only [List.map_cons,a_a,List.cons_append,List.nil_append]
 unfold spec_l9Fits.f spec_l9Fits.t fitsM
 rw [e,o_s]
 simp only []
 rw [specSumOf_eq hk (by rw [List.length_map];omega),o_s]
 cases (r.2.2.2.2.1==(l.length:Int)) <;> rfl
end Go.Proofs.YtejgkmhpmhfnbaaGreatDoor.G
namespace Go.Proofs.YtejgkmhpmhfnbaaGreatDoor.G
open Go.V
abbrev SpotL:=List (Ty.den TSpot)
def placesM (id:Int) (l:SpotL):PlaceL:=l.map fun x=>(id,x)
theorem placesM_len (id:Int) (l:SpotL):(placesM id l).length=l.length:=by unfold placesM;rw [List.length_map]
theorem implPlaced_eq {k:Nat} (hk:2 ^ 50≤k) (id:Int) {l:SpotL} (hl:l.length≤1099511627775):impl_placed.f k id l=some (placesM id l,()):=by
 unfold impl_placed.f impl_placed.t
 refine (forL0 (L:=fun n i s=>impl_placed.l0 k n id l l.length i s) (R:=fun r s=>some (s++placesM id r,())) (Ty.dflt TSpot) l (fun i s=>(s.length:Int)=i) (fun n s hs=>?_) (fun n i s x rest h0 h1 hx hr hp ih=>?_) (n:=k) (s:=[]) (by omega) (by decide)).trans (by rw [List.nil_append])
 · simp (disch:=omega) only [impl_placed.l0,impl_placed.b0,decF,c_f,placesM,List.map_nil,List.append_nil]
 · have ih:=ih (s++[(id,x)]) (by rw [len_snoc];omega)
   simp (disch:=first | omega | decide) only [impl_placed.l0,impl_placed.b0,decT,c_t,inb_eq,hx,rm_ok,w64_eq]
   refine ih.trans ?_
   simp only [placesM,List.map_cons,a_a,List.cons_append,List.nil_append]
theorem specPlaces_eq {k:Nat} (hk:2 ^ 50≤k) (id:Int) {s:ByteArray} (hs:s.size≤1099511627775):spec_l11Places.f k id s=some (placesM id (scanM s).1,()):=by
 unfold spec_l11Places.f spec_l11Places.t
 rw [specScan_eq hk hs,o_s]
 have hl:=(scanM_len s).1
 simp only []
 generalize (scanM s).1=l at *
 refine (forL0 (L:=fun n i s=>spec_l11Places.l0 k n id i s l) (R:=fun r s=>some (s++placesM id r,())) (Ty.dflt TSpot) l (fun i s=>(s.length:Int)=i) (fun n s hs=>?_) (fun n i s x rest h0 h1 hx hr hp ih=>?_) (n:=k) (s:=[]) (by omega) (by decide)).trans (by rw [List.nil_append])
 · simp (disch:=omega) only [spec_l11Places.l0,spec_l11Places.b0,decF,c_f,placesM,List.map_nil,List.append_nil]
 · have ih:=ih (s++[(id,x)]) (by rw [len_snoc];omega)
   simp (disch:=first | omega | decide) only [spec_l11Places.l0,spec_l11Places.b0,decT,c_t,inb_eq,hx,rm_ok,w64_eq]
   refine ih.trans ?_
   simp only [placesM,List.map_cons,a_a,List.cons_append,List.nil_append]
end Go.Proofs.YtejgkmhpmhfnbaaGreatDoor.G
namespace Go.Proofs.YtejgkmhpmhfnbaaGreatDoor.G
open Go.V
def zHint:Ty.den THint:=(0,(0,([],())))
def inSeg (s0:Int) (e:Ty.den TEntry):Bool:=(e.2.1==s0)&&!decide ((e.2.2.1:Int) > 100000)
def oneSeg (l:EntryL):Bool:=l.all (inSeg (l.getD 0 (Ty.dflt TEntry)).2.1)
def hintM (h:Ty.den THint):Bool:=decide ((0:Int)≤h.1∧h.1≤100000)&&(decide ((0:Int)≤h.2.1∧h.2.1≤1000000)&&(dirM h.2.2.1&&oneSeg h.2.2.1))
def entT (e:Ty.den TEntry):ByteArray:=textB e.1++(varB e.2.1++(varB e.2.2.1++(varB e.2.2.2.1++varB e.2.2.2.2.1)))
def entsT:EntryL→ByteArray
 | []=>⟨#[]⟩
 | e::l=>entT e++entsT l
def hintT (h:Ty.den THint):ByteArray:=varB h.1++(varB h.2.1++(varB (h.2.2.1.length:Int)++entsT h.2.2.1))
def showHintM (h:Ty.den THint):ByteArray:=if hintM h=true then fix4 (crcM (hintT h))++hintT h else ⟨#[]⟩
theorem specHintOk_eq {k:Nat} (hk:2 ^ 50≤k) (h:Ty.den THint):spec_l10Ok.f k h=some (hintM h,()):=by
 unfold spec_l10Ok.f spec_l10Ok.t hintM
 rw [l1InD_eq,o_s]
 cases decide ((0:Int)≤h.1∧h.1≤100000) with
 | false=>rfl
 | true =>
  simp only [n_t,c_f,Bool.true_and]
  rw [l1InD_eq,o_s]
  cases decide ((0:Int)≤h.2.1∧h.2.1≤1000000) with
  | false=>rfl
  | true =>
   simp only [n_t,c_f,Bool.true_and]
   rw [specDir_eq hk,o_s]
   cases cd:dirM h.2.2.1 with
   | false=>rfl
   | true =>
    simp only [n_t,c_f,Bool.true_and]
    have hl:h.2.2.1.length≤20:=by
     unfold dirM at cd
     rw [b_a,decide_eq_true_eq] at cd
     have:=cd.1
     omega
    unfold oneSeg
    refine forL0 (L:=fun n i (_:Unit)=>spec_l10Ok.l0 k n i h.1 h.2.1 h.2.2.1) (R:=fun r _=>some (r.all (inSeg (h.2.2.1.getD 0 (Ty.dflt TEntry)).2.1),())) (Ty.dflt TEntry) h.2.2.1 (fun _ _=>True) (fun n _ _=>?_) (fun n i _ x rest h0 h1 hx hr hp ih=>?_) (n:=k) (s:=()) (by omega) trivial
    · simp only [spec_l10Ok.l0,spec_l10Ok.b0]
      rw [decF (by omega),c_f]
      rfl
    · have ih:=ih () trivial
      simp only [spec_l10Ok.l0,spec_l10Ok.b0]
      rw [decT h1,c_t,inb_eq h0 h1,inb_eq (by omega) (by omega),hx,inb_eq h0 h1,w64_eq (n:=i+1) (by omega) (by omega),ih,List.all_cons]
      unfold inSeg bne
      cases x.2.1==(h.2.2.1.getD 0 (Ty.dflt TEntry)).2.1 <;> cases decide ((x.2.2.1:Int) > 100000) <;> rfl
theorem implHintOk_eq {k:Nat} (hk:2 ^ 50≤k) {h:Ty.den THint} (hl:h.2.2.1.length≤1073741824):impl_hintOk.f k h=some (hintM h,()):=by
 unfold impl_hintOk.f impl_hintOk.t hintM oneSeg
 have fin:∀ b:Bool,(bif b then (Option.bind (impl_in.f k h.1 0 100000) fun r1=>(bif r1.1 then (Option.bind (impl_in.f k h.2.1 0 1000000) fun r2=>(bif r2.1 then (Option.bind (impl_DirOk.f k h.2.2.1) fun r3=>(some r3)) else (some (false,())))) else (some (false,())))) else (some (false,())))=some (decide ((0:Int)≤h.1∧h.1≤100000)&&(decide ((0:Int)≤h.2.1∧h.2.1≤1000000)&&(dirM h.2.2.1&&b)),()):=fun b=>by
  rw [inD_eq,o_s,inD_eq,o_s,implDir_eq hk (by omega),o_s]
  simp only []
  cases decide ((0:Int)≤h.1∧h.1≤100000) <;> cases decide ((0:Int)≤h.2.1∧h.2.1≤1000000) <;> cases dirM h.2.2.1 <;> cases b <;> rfl
 rw [← fin]
 refine forL0 (L:=fun n i (_:Unit)=>impl_hintOk.l0 k n h.2.2.1 h.2.2.1.length i h.1 h.2.1 h.2.2.1) (R:=fun r _=>bif r.all (inSeg (h.2.2.1.getD 0 (Ty.dflt TEntry)).2.1) then (Option.bind (impl_in.f k h.1 0 100000) fun r1=>(bif r1.1 then (Option.bind (impl_in.f k h.2.1 0 1000000) fun r2=>(bif r2.1 then (Option.bind (impl_DirOk.f k h.2.2.1) fun r3=>(some r3)) else (some (false,())))) else (some (false,())))) else (some (false,()))) (Ty.dflt TEntry) h.2.2.1 (fun _ _=>True) (fun n _ _=>?_) (fun n i _ x rest h0 h1 hx hr hp ih=>?_) (n:=k) (s:=()) (by omega) trivial
 · simp only [impl_hintOk.l0,impl_hintOk.b0]
   rw [decF (by omega),c_f]
   rfl
 · have ih:=ih () trivial
   simp only [impl_hintOk.l0,impl_hintOk.b0]
   rw [decT h1,c_t,inb_eq h0 h1,inb_eq (by omega) (by omega),hx,w64_eq (n:=i+1) (by omega) (by omega),ih,List.all_cons]
   unfold inSeg bne
   cases x.2.1==(h.2.2.1.getD 0 (Ty.dflt TEntry)).2.1 <;> cases decide ((x.2.2.1:Int) > 100000) <;> rfl
theorem dir_facts {l:EntryL} (h:dirM l=true):l.length≤20∧∀ e ∈ l,(1≤e.1.size∧e.1.size≤8)∧(LE.le (α:=Int) 1 e.2.1∧LE.le (α:=Int) e.2.1 100000)∧LE.le (α:=Int) 0 e.2.2.1∧(LE.le (α:=Int) 1 e.2.2.2.1∧LE.le (α:=Int) e.2.2.2.1 210)∧(LE.le (α:=Int) 1 e.2.2.2.2.1∧LE.le (α:=Int) e.2.2.2.2.1 1000000):=by
 unfold dirM at h
 rw [b_a,decide_eq_true_eq] at h
 refine ⟨by have:=h.1;omega,fun e he=>?_⟩
 obtain ⟨q,hq⟩:=adj_all h.2 he
 unfold entOk keyOkB at hq
 rw [b_a,b_a,b_a,b_a,b_a,decide_eq_true_eq,decide_eq_true_eq,decide_eq_true_eq,decide_eq_true_eq] at hq
 obtain ⟨g1,g2,g3,g4,g5,_⟩:=hq
 have g3':¬ LT.lt (α:=Int) e.2.2.1 0:=by
  intro q
  have:(!decide (e.2.2.1<(0:Int)))=false:=by rw [decT q];rfl
  rw [this] at g3
  cases g3
 exact ⟨by omega,g2,Int.not_lt.1 g3',g4,g5⟩
theorem hint_dir {h:Ty.den THint} (q:hintM h=true):dirM h.2.2.1=true:=by
 unfold hintM at q
 rw [b_a,b_a,b_a] at q
 exact q.2.2.1
theorem entT_size {e:Ty.den TEntry}:(entT e).size≤35+e.1.size:=by
 have a:=varB_size (e.1.size:Int)
 have b:=varB_size e.2.1
 have c:=varB_size e.2.2.1
 have d:=varB_size e.2.2.2.1
 have f:=varB_size e.2.2.2.2.1
 unfold entT textB
 simp only [sz_app]
 omega
theorem entsT_size:∀ {l:EntryL},(∀ e ∈ l,e.1.size≤8)→(entsT l).size≤43*l.length
 | [],_=>Nat.zero_le _
 | e::l,h=>by
  have h1:=h e (m_s ..)
  have h2:=entsT_size (l:=l) fun x hx=>h x (m_m _ hx)
  have h3:=entT_size (e:=e)
  unfold entsT
  rw [sz_app,l_c]
  omega
theorem hintT_size {h:Ty.den THint} (q:hintM h=true):(hintT h).size≤900:=by
 obtain ⟨h1,h2⟩:=dir_facts (hint_dir q)
 have:=entsT_size (l:=h.2.2.1) fun e he=>(h2 e he).1.2
 have a:=varB_size h.1
 have b:=varB_size h.2.1
 have c:=varB_size (h.2.2.1.length:Int)
 unfold hintT
 simp only [sz_app]
 omega
theorem showHint_size (h:Ty.den THint):(showHintM h).size≤904:=by
 unfold showHintM
 by_cases q:hintM h=true
 · have:=hintT_size q
   rw [if_pos q,sz_app,show (fix4 (crcM (hintT h))).size=4 from rfl]
   omega
 · rw [if_neg q];decide
theorem specShowHint_eq {k:Nat} (hk:2 ^ 50≤k) (h:Ty.den THint):spec_ShowHint.f k h=some (showHintM h,()):=by
 unfold spec_ShowHint.f spec_ShowHint.t showHintM
 rw [specHintOk_eq hk,o_s]
 cases q:hintM h with
 | false=>rfl
 | true =>
  obtain ⟨h1,h2⟩:=dir_facts (hint_dir q)
  have a:=varB_size h.1
  have b:=varB_size h.2.1
  have c:=varB_size (h.2.2.1.length:Int)
  rw [n_t,c_f,specVar_eq hk,o_s,specVar_eq hk,o_s,if_pos rfl]
  simp only []
  rw [cat_ok (by omega),specVar_eq hk,o_s]
  simp only []
  rw [cat_ok (by rw [sz_app];omega)]
  refine (forL0 (L:=fun n i s=>spec_ShowHint.l0 k n s i h.1 h.2.1 h.2.2.1) (R:=fun r s=>some (fix4 (crcM (s++entsT r))++(s++entsT r),())) (Ty.dflt TEntry) h.2.2.1 (fun i s=>(s.size:Int)≤21+43*i) (fun n s hs=>?_) (fun n i s x rest g0 g1 hx hr hs ih=>?_) (n:=k) (s:=varB h.1++varB h.2.1++varB (h.2.2.1.length:Int)) (by omega) (by rw [sz_app,sz_app];omega)).trans (by unfold hintT;rw [app_assoc,app_assoc])
  · have hc:=crcM_in s
    simp only [spec_ShowHint.l0,spec_ShowHint.b0]
    rw [decF (by omega),c_f,specCrc_eq hk (by omega),o_s]
    simp only []
    rw [specFixed_eq hk hc.1 hc.2,o_s]
    simp only []
    rw [cat_ok (by rw [show (fix4 (crcM s)).size=4 from rfl];omega),show entsT []=⟨#[]⟩ from rfl,nil_app]
  · have hm:x ∈ h.2.2.1:=by rw [← hx];exact getD_mem (by omega)
    have hz:=(h2 x hm).1.2
    have v1:=varB_size (x.1.size:Int)
    have v2:=varB_size x.2.1
    have v3:=varB_size x.2.2.1
    have v4:=varB_size x.2.2.2.1
    have v5:=varB_size x.2.2.2.2.1
    have ih:=ih (s++entT x) (by have:=entT_size (e:=x);rw [sz_app];omega)
    simp only [spec_ShowHint.l0,spec_ShowHint.b0]
    rw [decT g1,c_t,inb_eq g0 g1,hx]
    simp only [specVar_eq hk,o_s]
    rw [cat_ok (by omega),cat_ok (by rw [sz_app];omega),cat_ok (by rw [sz_app,sz_app];omega),cat_ok (by rw [sz_app,sz_app,sz_app];omega),cat_ok (by rw [sz_app,sz_app,sz_app,sz_app];omega),cat_ok (by rw [sz_app,sz_app,sz_app,sz_app,sz_app];omega),w64_eq (n:=i+1) (by omega) (by omega)]
    have e:s++varB (x.1.size:Int)++x.1++varB x.2.1++varB x.2.2.1++varB x.2.2.2.1++varB x.2.2.2.2.1=s++entT x:=by
     unfold entT textB
     simp only [app_assoc]
    rw [e,ih]
    rw [show entsT (x::rest)=entT x++entsT rest from rfl,app_assoc]
theorem implShowHint_eq {k:Nat} (hk:2 ^ 50≤k) {h:Ty.den THint} (hl:h.2.2.1.length≤1073741824):impl_ShowHint.f k h=some (showHintM h,()):=by
 unfold impl_ShowHint.f impl_ShowHint.t showHintM
 rw [implHintOk_eq hk hl,o_s]
 cases q:hintM h with
 | false=>rfl
 | true =>
  obtain ⟨h1,h2⟩:=dir_facts (hint_dir q)
  have a:=varB_size h.1
  have b:=varB_size h.2.1
  have c:=varB_size (h.2.2.1.length:Int)
  rw [n_t,c_f,implVars_eq hk (by simp),o_s,if_pos rfl]
  simp only []
  refine (forL0 (L:=fun n i s=>impl_ShowHint.l0 k n s h.2.2.1 h.2.2.1.length i) (R:=fun r s=>some (fix4 (crcM (s++entsT r))++(s++entsT r),())) (Ty.dflt TEntry) h.2.2.1 (fun i s=>(s.size:Int)≤21+43*i) (fun n s hs=>?_) (fun n i s x rest g0 g1 hx hr hs ih=>?_) (n:=k) (s:=varsT [h.1,h.2.1,(h.2.2.1.length:Int)]) (by omega) (by simp only [varsT,sz_app];rw [show (⟨#[]⟩:ByteArray).size=0 from rfl];omega)).trans (by unfold hintT;simp only [varsT,app_assoc,nil_app,app_nil])
  · have hc:=crcM_in s
    simp only [impl_ShowHint.l0,impl_ShowHint.b0]
    rw [decF (by omega),c_f,implCrc_eq hk (by omega),o_s]
    simp only []
    rw [implFixed_eq hk hc.1 hc.2,o_s]
    simp only []
    rw [cat_ok (by rw [show (fix4 (crcM s)).size=4 from rfl];omega),show entsT []=⟨#[]⟩ from rfl,nil_app]
  · have hm:x ∈ h.2.2.1:=by rw [← hx];exact getD_mem (by omega)
    have hz:=(h2 x hm).1.2
    have ht:=entT_size (e:=x)
    have v1:=varB_size (x.1.size:Int)
    have v2:=varB_size x.2.1
    have v3:=varB_size x.2.2.1
    have v4:=varB_size x.2.2.2.1
    have v5:=varB_size x.2.2.2.2.1
    have ih:=ih (s++entT x) (by have:=entT_size (e:=x);rw [sz_app];omega)
    have e:textB x.1++varsT [x.2.1,x.2.2.1,x.2.2.2.1,x.2.2.2.2.1]=entT x:=by
     unfold entT
     simp only [varsT,nil_app]
    simp only [impl_ShowHint.l0,impl_ShowHint.b0]
    rw [decT g1,c_t,inb_eq g0 g1,hx,implTextOf_eq hk (by omega),o_s,implVars_eq hk (by simp),o_s]
    simp only []
    have hts:(textB x.1).size+(varsT [x.2.1,x.2.2.1,x.2.2.2.1,x.2.2.2.2.1]).size≤100:=by
     rw [← sz_app,e];omega
    rw [cat_ok (by omega),e,cat_ok (by omega),w64_eq (n:=i+1) (by omega) (by omega),ih,show entsT (x::rest)=entT x++entsT rest from rfl,app_assoc]
def entSame (x y:Ty.den TEntry):Bool:=(seq x.1 y.1)&&((x.2.1==y.2.1)&&((x.2.2.1==y.2.2.1)&&((x.2.2.2.1==y.2.2.2.1)&&(x.2.2.2.2.1==y.2.2.2.2.1))))
def sameE:EntryL→EntryL→Bool
 | [],[]=>true
 | x::l,y::m=>entSame x y&&sameE l m
 | _,_=>false
theorem entSame_iff {x y:Ty.den TEntry}:entSame x y=true↔x=y:=by
 unfold entSame
 simp only [b_a,beq_iff_eq,seq_iff]
 constructor
 · rintro ⟨h1,h2,h3,h4,h5⟩
   obtain ⟨a,b,c,d,e,_⟩:=x
   obtain ⟨a',b',c',d',e',_⟩:=y
   simp only at h1 h2 h3 h4 h5
   subst h1 h2 h3 h4 h5
   rfl
 · rintro rfl;exact ⟨rfl,rfl,rfl,rfl,rfl⟩
theorem sameE_iff:∀ {l m:EntryL},sameE l m=true↔l=m
 | [],[]=>⟨fun _=>rfl,fun _=>rfl⟩
 | [],y::m=>⟨fun h=>(by cases h),fun h=>(by cases h)⟩
 | x::l,[]=>⟨fun h=>(by cases h),fun h=>(by cases h)⟩
 | x::l,y::m=>by
  unfold sameE
  rw [b_a,entSame_iff,sameE_iff,List.cons.injEq]
theorem sameE_len:∀ {l m:EntryL},l.length≠m.length→sameE l m=false:=fun {l m} h=>by
 cases c:sameE l m with
 | false=>rfl
 | true=>rw [sameE_iff.1 c] at h;exact absurd rfl h
theorem drop_cons {α:Type} {l:List α} {i:Nat} (z:α) (h:i<l.length):l.drop i=l.getD i z::l.drop (i+1):=by
 rw [List.drop_eq_getElem_cons h]
 simp [List.getD,h]
theorem specSameDir_eq {k:Nat} (hk:2 ^ 50≤k) {l m:EntryL} (hl:l.length≤1073741824):spec_SameDir.f k l m=some (sameE l m,()):=by
 unfold spec_SameDir.f spec_SameDir.t
 by_cases hne:l.length=m.length
 · rw [show ((l.length:Int) != (m.length:Int))=false by rw [hne];simp,c_f]
   refine (forI (L:=fun n i (_:Unit)=>spec_SameDir.l0 k n l m i) (R:=fun i _=>some (sameE (l.drop i.toNat) (m.drop i.toNat),())) l.length (fun _ _=>True) (fun n _ _=>?_) (fun n i _ h0 h1 _ ih=>?_) k 0 () (by omega) (by omega) (by omega) trivial).trans (by simp)
   · simp only [spec_SameDir.l0,spec_SameDir.b0]
     rw [decF (by omega),c_f,n_n,List.drop_length,hne,List.drop_length]
     rfl
   · have ih:=ih () trivial
     have c1:i.toNat<l.length:=by omega
     simp only [spec_SameDir.l0,spec_SameDir.b0]
     rw [decT h1,c_t,inb_eq h0 h1,inb_eq h0 (by omega),w64_eq (n:=i+1) (by omega) (by omega),ih,drop_cons (Ty.dflt TEntry) c1,drop_cons (Ty.dflt TEntry) (l:=m) (i:=i.toNat) (by omega),show (i+1).toNat=i.toNat+1 by omega]
     show _=some (entSame _ _&&sameE _ _,())
     show (bif !(entSame (l.getD i.toNat (Ty.dflt TEntry)) (m.getD i.toNat (Ty.dflt TEntry))) then _ else _)=_
     cases entSame (l.getD i.toNat (Ty.dflt TEntry)) (m.getD i.toNat (Ty.dflt TEntry)) <;> rfl
 · rw [show ((l.length:Int) != (m.length:Int))=true from bne_iff_ne.2 (by omega),c_t,sameE_len hne]
theorem implSameDir_eq {k:Nat} (hk:2 ^ 50≤k) {l m:EntryL} (hl:l.length≤1073741824):impl_SameDir.f k l m=some (sameE l m,()):=by
 unfold impl_SameDir.f impl_SameDir.t
 by_cases hne:l.length=m.length
 · rw [show ((l.length:Int) != (m.length:Int))=false by rw [hne];simp,c_f]
   refine (forI (L:=fun n i (_:Unit)=>impl_SameDir.l0 k n l m l.length i) (R:=fun i _=>some (sameE (l.drop i.toNat) (m.drop i.toNat),())) l.length (fun _ _=>True) (fun n _ _=>?_) (fun n i _ h0 h1 _ ih=>?_) k 0 () (by omega) (by omega) (by omega) trivial).trans (by simp)
   · simp only [impl_SameDir.l0,impl_SameDir.b0]
     rw [decF (by omega),c_f,n_n,List.drop_length,hne,List.drop_length]
     rfl
   · have ih:=ih () trivial
     have c1:i.toNat<l.length:=by omega
     simp only [impl_SameDir.l0,impl_SameDir.b0]
     rw [decT h1,c_t,inb_eq h0 h1,inb_eq h0 (by omega),w64_eq (n:=i+1) (by omega) (by omega),ih,drop_cons (Ty.dflt TEntry) c1,drop_cons (Ty.dflt TEntry) (l:=m) (i:=i.toNat) (by omega),show (i+1).toNat=i.toNat+1 by omega]
     show _=some (entSame _ _&&sameE _ _,())
     show (bif !(entSame (l.getD i.toNat (Ty.dflt TEntry)) (m.getD i.toNat (Ty.dflt TEntry))) then _ else _)=_
     cases entSame (l.getD i.toNat (Ty.dflt TEntry)) (m.getD i.toNat (Ty.dflt TEntry)) <;> rfl
 · rw [show ((l.length:Int) != (m.length:Int))=true from bne_iff_ne.2 (by omega),c_t,sameE_len hne]
def keepOk (mark:Int) (p:Option (Ty.den TSpot)) (x:Ty.den TSpot):Bool :=
 (x.2.2.1.1==4)&&(!decide ((x.2.2.1.2.1:Int) > mark)&&(match p with | none=>true | some y=>sls y.2.2.1.2.2.1 x.2.2.1.2.2.1))
def entS (id:Int) (x:Ty.den TSpot):Ty.den TEntry:=(x.2.2.1.2.2.1,(id,(x.1,(x.2.1,(x.2.2.1.2.1,())))))
noncomputable def hintOfM (id:Int) (s:ByteArray):Ty.den THint × Bool :=
 bif (scanM s).2 != (s.size:Int) then (zHint,false) else bif (scanM s).1.length==0 then (zHint,false) else
 bif ((scanM s).1.getD ((scanM s).1.length-1) (Ty.dflt TSpot)).2.2.1.1 != 5 then (zHint,false) else
 bif !decide ((1:Int)≤id∧id≤100000) then (zHint,false) else
 bif !adj (keepOk ((scanM s).1.getD ((scanM s).1.length-1) (Ty.dflt TSpot)).2.2.1.2.1) none ((scanM s).1.take ((scanM s).1.length-1)) then (zHint,false) else
 bif !fitsM ((scanM s).1.getD ((scanM s).1.length-1) (Ty.dflt TSpot)).2.2.1 (placesM id ((scanM s).1.take ((scanM s).1.length-1))) then (zHint,false) else
 (((s.size:Int),(((scanM s).1.getD ((scanM s).1.length-1) (Ty.dflt TSpot)).2.2.1.2.1,(((scanM s).1.take ((scanM s).1.length-1)).map (entS id),()))),true)
theorem named_seg_empty (id:Int):seq (namedM segB id) ⟨#[]⟩=!decide ((1:Int)≤id∧id≤100000):=by
 by_cases h:(1:Int)≤id∧id≤100000
 · rw [decT h]
   have e:namedM segB id=segB++decB id:=by unfold namedM;rw [decT h];rfl
   rw [e,seqF fun q=>?_]
   · rfl
   · have:=congrArg ByteArray.size q
     rw [sz_app] at this
     have s3:segB.size=3:=rfl
     have s0:(⟨#[]⟩:ByteArray).size=0:=rfl
     omega
 · rw [decF h]
   have e:namedM segB id=⟨#[]⟩:=by unfold namedM;rw [decF h];rfl
   rw [e,seq_refl]
   rfl
theorem specHintOf_eq {k:Nat} (hk:2 ^ 50≤k) (id:Int) {s:ByteArray} (hs:s.size≤1073741823):spec_HintOf.f k id s=some ((hintOfM id s).1,((hintOfM id s).2,())):=by
 have hln:=scanM_len s
 unfold spec_HintOf.f spec_HintOf.t hintOfM
 rw [specScan_eq hk (by omega),o_s]
 simp only []
 generalize scanM s=sc at hln ⊢
 obtain ⟨l,en⟩:=sc
 simp only at hln ⊢
 cases en != (s.size:Int) with
 | true=>rfl
 | false =>
  simp only [c_f]
  by_cases h0:l.length=0
  · rw [show ((l.length:Int)==0)=true by rw [h0];rfl,show (l.length==0)=true by rw [h0];rfl]
    rfl
  · rw [show ((l.length:Int)==0)=false from q_f (by omega),show (l.length==0)=false from q_f h0]
    simp only [c_f]
    have w1:w64 ((l.length:Int)-1)=((l.length-1:Nat):Int):=by rw [w64_eq (by omega) (by omega)];omega
    rw [w1,n_n,inb_eq (by omega) (by omega),inb_eq (by omega) (by omega)]
    generalize hm:l.getD (l.length-1) (Ty.dflt TSpot)=m
    cases m.2.2.1.1 != 5 with
    | true=>rfl
    | false =>
     simp only [c_f]
     rw [specSegName_eq hk,o_s]
     simp only [named_seg_empty]
     cases decide ((1:Int)≤id∧id≤100000) with
     | false=>rfl
     | true =>
      simp only [n_t,c_f]
      have hpl:(l.take (l.length-1)).length=l.length-1:=by rw [List.length_take];omega
      refine (forAdj (L:=fun n i=>spec_HintOf.l0 k n id i [] 0 0 l ((l.take i.toNat).map (entS id)) (s.size:Int) m.2.2.1.2.1 ((l.take i.toNat).map fun x=>x.2.2.1)) (Ty.dflt TSpot) (l.take (l.length-1)) (keepOk m.2.2.1.2.1)
       (bif !fitsM m.2.2.1 (placesM id (l.take (l.length-1))) then some (zHint,(false,())) else some (((s.size:Int),(m.2.2.1.2.1,((l.take (l.length-1)).map (entS id),()))),(true,()))) (some (zHint,(false,()))) (fun n=>?_) (fun n x h hx=>?_) (fun n i x y h0 h1 hx hy=>?_) (n:=k) (by omega)).trans (by
        cases adj (keepOk m.2.2.1.2.1) none (l.take (l.length-1)) <;> cases fitsM m.2.2.1 (placesM id (l.take (l.length-1))) <;> rfl)
      · simp only [spec_HintOf.l0,spec_HintOf.b0]
        rw [hpl,n_n,w64_eq (n:=((l.length-1:Nat):Int)+1) (by omega) (by omega),decF (by omega),c_f,w1,n_n,inb_eq (by omega) (by omega),hm,specSumOf_eq hk (by rw [List.length_map,hpl];omega),o_s,List.length_map,hpl]
        unfold fitsM placesM bne
        rw [List.length_map,hpl,List.map_map]
        show (bif !(m.2.2.1.2.2.2.2.1==((l.length-1:Nat):Int)) then _ else bif !(m.2.2.1.2.2.2.2.2.1==sumM ((l.take (l.length-1)).map fun x=>x.2.2.1)) then _ else _)=bif !((m.2.2.1.2.2.2.2.1==((l.length-1:Nat):Int))&&(m.2.2.1.2.2.2.2.2.1==sumM ((l.take (l.length-1)).map fun x=>x.2.2.1))) then _ else _
        cases m.2.2.1.2.2.2.2.1==((l.length-1:Nat):Int) <;> cases m.2.2.1.2.2.2.2.2.1==sumM ((l.take (l.length-1)).map fun x=>x.2.2.1) <;> rfl
      · rw [hpl] at h
        have hx':l.getD 0 (Ty.dflt TSpot)=x:=by rw [← hx,show Int.toNat 0=0 from rfl,getD_take (by omega)]
        simp only [spec_HintOf.l0,spec_HintOf.b0]
        rw [w64_eq (n:=(0:Int)+1) (by omega) (by omega),decT (by omega),c_t,inb_eq (by omega) (by omega),show Int.toNat 0=0 from rfl,hx',decF (show ¬ (0:Int) > 0 by omega),c_f,rm_ok (by simp) (by decide),inb_eq (by omega) (by omega),inb_eq (by omega) (by omega),rm_ok (by simp) (by decide),show Int.toNat 1=0+1 from rfl,take_succ_getD (z:=Ty.dflt TSpot) (show 0<l.length by omega),hx']
        simp only [keepOk,bne]
        cases x.2.2.1.1==4 <;> cases decide ((x.2.2.1.2.1:Int) > m.2.2.1.2.1) <;> rfl
      · rw [hpl] at h1
        have hx':l.getD i.toNat (Ty.dflt TSpot)=x:=by rw [← hx,getD_take (by omega)]
        have hy':l.getD (i-1).toNat (Ty.dflt TSpot)=y:=by rw [← hy,getD_take (by omega)]
        simp only [spec_HintOf.l0,spec_HintOf.b0]
        rw [w64_eq (n:=i+1) (by omega) (by omega),decT (by omega),c_t,inb_eq (by omega) (by omega),hx',decT (show i > 0 by omega),w64_eq (n:=i-1) (by omega) (by omega),inb_eq (by omega) (by omega),hy',sls_total,rm_ok (by rw [List.length_map,List.length_take];omega) (by decide),inb_eq (by omega) (by omega),inb_eq (by omega) (by omega),rm_ok (by rw [List.length_map,List.length_take];omega) (by decide),show (i+1).toNat=i.toNat+1 by omega,take_succ_getD (z:=Ty.dflt TSpot) (show i.toNat<l.length by omega),hx',List.map_append,List.map_append]
        simp only [keepOk,bne]
        cases x.2.2.1.1==4 <;> cases decide ((x.2.2.1.2.1:Int) > m.2.2.1.2.1) <;> cases sls y.2.2.1.2.2.1 x.2.2.1.2.2.1 <;> rfl
theorem implHintOf_eq {k:Nat} (hk:2 ^ 50≤k) (id:Int) {s:ByteArray} (hs:s.size≤1073741823):impl_HintOf.f k id s=some ((hintOfM id s).1,((hintOfM id s).2,())):=by
 have hln:=scanM_len s
 unfold impl_HintOf.f impl_HintOf.t hintOfM
 rw [implScan_eq hk (by omega),o_s]
 simp only []
 generalize scanM s=sc at hln ⊢
 obtain ⟨l,en⟩:=sc
 simp only at hln ⊢
 have w0:w64 ((l.length:Int)-1)=(l.length:Int)-1:=w64_eq (by omega) (by omega)
 by_cases h0:l.length=0
 · rw [w0,decT (by omega),c_t,show (l.length==0)=true by rw [h0];rfl]
   cases en != (s.size:Int) <;> rfl
 · rw [w0,decF (by omega),c_f,show (l.length==0)=false from q_f h0]
   cases he:en != (s.size:Int) with
   | true=>rfl
   | false =>
    have hen:en=(s.size:Int):=by
     cases q:en==(s.size:Int) with
     | true=>exact q_t q
     | false=>unfold bne at he;rw [q] at he;cases he
    simp only [c_f]
    have w1:(l.length:Int)-1=((l.length-1:Nat):Int):=by omega
    rw [inD_eq,o_s]
    simp only []
    rw [w1,n_n,inb_eq (by omega) (by omega),inb_eq (by omega) (by omega),inc_eq (by omega) (by omega),inb_eq (by omega) (by omega),inc_eq (by omega) (by omega)]
    generalize hm:l.getD (l.length-1) (Ty.dflt TSpot)=m
    have hpl:(l.take (l.length-1)).length=l.length-1:=by rw [List.length_take];omega
    rw [implPlaced_eq hk id (by omega),o_s]
    simp only []
    rw [implFits_eq hk _ (by unfold placesM;rw [List.length_map];omega),o_s]
    simp only []
    cases decide ((1:Int)≤id∧id≤100000) with
    | false=>cases m.2.2.1.1 != 5 <;> rfl
    | true =>
     cases m.2.2.1.1 != 5 with
     | true=>rfl
     | false =>
      simp only [n_t,c_f]
      cases fitsM m.2.2.1 (placesM id (l.take (l.length-1))) with
      | false=>cases adj (keepOk m.2.2.1.2.1) none (l.take (l.length-1)) <;> rfl
      | true =>
       simp only [n_t,c_f]
       refine (forAdj (L:=fun n i=>impl_HintOf.l0 k n id l (l.take (l.length-1)) (l.take (l.length-1)).length i [] 0 0 ((l.take i.toNat).map (entS id)) en m.2.2.1.2.1) (Ty.dflt TSpot) (l.take (l.length-1)) (keepOk m.2.2.1.2.1)
        (some (((s.size:Int),(m.2.2.1.2.1,((l.take (l.length-1)).map (entS id),()))),(true,()))) (some (zHint,(false,()))) (fun n=>?_) (fun n x h hx=>?_) (fun n i x y h0 h1 hx hy=>?_) (n:=k) (by omega)).trans (by
         cases adj (keepOk m.2.2.1.2.1) none (l.take (l.length-1)) <;> rfl)
       · simp only [impl_HintOf.l0,impl_HintOf.b0]
         rw [hpl,n_n,decF (by omega),c_f,hen]
       · have h':=h
         rw [hpl] at h'
         have hx':l.getD 0 (Ty.dflt TSpot)=x:=by rw [← hx,show Int.toNat 0=0 from rfl,getD_take (by omega)]
         simp only [impl_HintOf.l0,impl_HintOf.b0]
         rw [decT (by omega),c_t,inb_eq (by omega) (by omega),hx,decF (show ¬ (0:Int) > 0 by omega),c_f,rm_ok (by simp) (by decide),w64_eq (n:=(0:Int)+1) (by omega) (by omega),show Int.toNat 1=0+1 from rfl,take_succ_getD (z:=Ty.dflt TSpot) (show 0<l.length by omega),hx']
         simp only [keepOk,bne]
         cases x.2.2.1.1==4 <;> cases decide ((x.2.2.1.2.1:Int) > m.2.2.1.2.1) <;> rfl
       · have h1':=h1
         rw [hpl] at h1'
         have hx':l.getD i.toNat (Ty.dflt TSpot)=x:=by rw [← hx,getD_take (by omega)]
         have hy':l.getD (i-1).toNat (Ty.dflt TSpot)=y:=by rw [← hy,getD_take (by omega)]
         simp only [impl_HintOf.l0,impl_HintOf.b0]
         rw [decT h1,c_t,inb_eq (by omega) (by omega),hx,decT (show i > 0 by omega),w64_eq (n:=i-1) (by omega) (by omega),inb_eq (by omega) (by omega),hy',rm_ok (by rw [List.length_map,List.length_take];omega) (by decide),w64_eq (n:=i+1) (by omega) (by omega),show (i+1).toNat=i.toNat+1 by omega,take_succ_getD (z:=Ty.dflt TSpot) (show i.toNat<l.length by omega),hx',List.map_append]
         simp only [keepOk,bne]
         cases x.2.2.1.1==4 <;> cases decide ((x.2.2.1.2.1:Int) > m.2.2.1.2.1) <;> cases sls y.2.2.1.2.2.1 x.2.2.1.2.2.1 <;> rfl
noncomputable def fitsHintM (id:Int) (s:ByteArray) (h:Ty.den THint):Bool:=(hintOfM id s).2&&(((hintOfM id s).1.1==h.1)&&(((hintOfM id s).1.2.1==h.2.1)&&sameE (hintOfM id s).1.2.2.1 h.2.2.1))
theorem hintOf_len (id:Int) {s:ByteArray} (hs:s.size≤1073741823):(hintOfM id s).1.2.2.1.length≤1073741824:=by
 have hln:=scanM_len s
 unfold hintOfM
 generalize scanM s=sc at hln ⊢
 obtain ⟨l,en⟩:=sc
 simp only at hln ⊢
 cases en != (s.size:Int)
 · cases l.length==0
   · cases (l.getD (l.length-1) (Ty.dflt TSpot)).2.2.1.1 != 5
     · cases !decide ((1:Int)≤id∧id≤100000)
       · cases !adj (keepOk (l.getD (l.length-1) (Ty.dflt TSpot)).2.2.1.2.1) none (l.take (l.length-1))
         · cases !fitsM (l.getD (l.length-1) (Ty.dflt TSpot)).2.2.1 (placesM id (l.take (l.length-1)))
           · show ((l.take (l.length-1)).map (entS id)).length≤1073741824
             rw [List.length_map,List.length_take]
             omega
           · exact Nat.zero_le _
         · exact Nat.zero_le _
       · exact Nat.zero_le _
     · exact Nat.zero_le _
   · exact Nat.zero_le _
 · exact Nat.zero_le _
theorem specHintFits_eq {k:Nat} (hk:2 ^ 50≤k) (id:Int) {s:ByteArray} (hs:s.size≤1073741823) (h:Ty.den THint):spec_HintFits.f k id s h=some (fitsHintM id s h,()):=by
 have hl:=hintOf_len id hs
 unfold spec_HintFits.f spec_HintFits.t fitsHintM
 rw [specHintOf_eq hk id hs,o_s]
 simp only []
 rw [specSameDir_eq hk hl,o_s]
 cases (hintOfM id s).2 <;> cases (hintOfM id s).1.1==h.1 <;> cases (hintOfM id s).1.2.1==h.2.1 <;> rfl
theorem implHintFits_eq {k:Nat} (hk:2 ^ 50≤k) (id:Int) {s:ByteArray} (hs:s.size≤1073741823) (h:Ty.den THint):impl_HintFits.f k id s h=some (fitsHintM id s h,()):=by
 have hl:=hintOf_len id hs
 unfold impl_HintFits.f impl_HintFits.t fitsHintM
 rw [implHintOf_eq hk id hs,o_s]
 simp only []
 rw [implSameDir_eq hk hl,o_s]
 cases (hintOfM id s).2 <;> cases (hintOfM id s).1.1==h.1 <;> cases (hintOfM id s).1.2.1==h.2.1 <;> rfl
end Go.Proofs.YtejgkmhpmhfnbaaGreatDoor.G
namespace Go.V
def Tot {α:Type} (o:Option α) (P:α→Prop):Prop:=∃ r,o=some r∧P r
section
variable {α β:Type} {P P':α→Prop} {Q:β→Prop}
theorem tot_some {r:α} (h:P r):Tot (some r) P:=⟨r,rfl,h⟩
theorem tot_of {o:Option α} {r:α} (e:o=some r) (h:P r):Tot o P:=⟨r,e,h⟩
theorem tot_mono {o:Option α} (h:Tot o P) (hp:∀ r,P r→P' r):Tot o P':=by
 obtain ⟨r,e,hr⟩:=h
 exact ⟨r,e,hp r hr⟩
theorem tot_bind {o:Option α} {g:α→Option β} (h:Tot o P) (hg:∀ r,P r→Tot (g r) Q):Tot (Option.bind o g) Q:=by
 obtain ⟨r,e,hr⟩:=h
 rw [e]
 exact hg r hr
theorem tot_bindE {o:Option α} {r:α} {g:α→Option β} (e:o=some r) (hg:Tot (g r) Q):Tot (Option.bind o g) Q:=by
 rw [e]
 exact hg
theorem tot_bif {b:Bool} {x y:Option α} (h1:b=true→Tot x P) (h2:b=false→Tot y P):Tot (bif b then x else y) P:=by
 cases b
 · exact h2 rfl
 · exact h1 rfl
theorem tot_yes {b:Bool} {x y:Option α} (hb:b=true) (h:Tot x P):Tot (bif b then x else y) P:=by rw [hb];exact h
theorem tot_no {b:Bool} {x y:Option α} (hb:b=false) (h:Tot y P):Tot (bif b then x else y) P:=by rw [hb];exact h
theorem tot_inc {i n:Int} {x:Option α} (h0:0≤i) (h1:i≤n) (h:Tot x P):Tot (inc i n x) P:=by rw [inc_eq h0 h1];exact h
theorem tot_rm {b n:Nat} {x:Option α} (h0:n≤1099511627776) (hb:b≤128) (h:Tot x P):Tot (rm b n x) P:=by rw [rm_ok h0 hb];exact h
end
end Go.V
namespace Go.Proofs.YtejgkmhpmhfnbaaGreatDoor.G
open Go.V
noncomputable def readHintM (s:ByteArray):Ty.den THint × Bool:=undo (fun h=>hintM h=true) showHintM zHint s
def RH (s:ByteArray) (o:Option (Ty.den THint × Bool × Unit)):Prop:=(∃ h,hintM h=true∧showHintM h=s∧o=some (h,(true,())))∨o=some (zHint,(false,()))
theorem rh_no (s:ByteArray):RH s (some (zHint,(false,()))) := .inr rfl
theorem rh_seq {s:ByteArray} (hs:4≤s.size) (h:Ty.den THint):RH s (bif !seq (showHintM h) s then some (zHint,(false,())) else some (h,(true,()))):=by
 cases c:seq (showHintM h) s with
 | false=>exact .inr rfl
 | true =>
  have e:=seq_iff.1 c
  refine .inl ⟨h,?_,e,rfl⟩
  cases q:hintM h with
  | true=>rfl
  | false =>
   unfold showHintM at e
   rw [if_neg (by rw [q];decide)] at e
   rw [← e] at hs
   exact absurd hs (by decide)
theorem varsL_any {k:Nat} (hk:2 ^ 50≤k) {s:ByteArray} (hs:s.size≤1073741824) {m:Int} (h0:0≤m) (hm:m≤4):∀ (d n:Nat) (pos j:Int) (out:List Int),j+(d:Int)=m→0≤j→d<n→0≤pos→pos≤s.size→(out.length:Int)=j →
 Tot (spec_l10Vars.l0 k n s pos m j out) (fun r=>(r.2.1 = -1∨(pos≤r.2.1∧r.2.1≤(s.size:Int)))∧(r.1.length:Int)=m):=by
 intro d
 induction d with
 | zero =>
  intro n pos j out h1 h2 hn h3 h4 h5
  obtain ⟨n,rfl⟩:∃ q,n=q+1:=⟨n-1,by omega⟩
  simp only [spec_l10Vars.l0,spec_l10Vars.b0]
  exact tot_no (decF (by omega)) (tot_some ⟨.inr ⟨Int.le_refl _,h4⟩,by show (out.length:Int)=m;omega⟩)
 | succ d ih =>
  intro n pos j out h1 h2 hn h3 h4 h5
  obtain ⟨n,rfl⟩:∃ q,n=q+1:=⟨n-1,by omega⟩
  have hr:=rvR_in (ByteArray.extract s pos.toNat s.size)
  rw [ext_size] at hr
  simp only [spec_l10Vars.l0,spec_l10Vars.b0]
  refine tot_yes (decT (by omega)) (tot_inc h3 h4 (tot_bindE (specReadVar_rv hk _) ?_))
  generalize rvR (rv 7 (nb (ByteArray.extract s pos.toNat s.size)))=r at hr
  refine tot_bif (fun _=>?_) (fun _=>?_)
  · rw [mks_ok h0 (by omega) (by decide)]
    exact tot_some ⟨.inl rfl,by show ((List.replicate m.toNat _).length:Int)=m;rw [List.length_replicate];omega⟩
  · rw [w64_eq (n:=pos+r.2.1) (by omega) (by omega),w64_eq (n:=j+1) (by omega) (by omega)]
    refine tot_rm (by omega) (by decide) (tot_mono (ih n (pos+r.2.1) (j+1) (out++[r.1]) (by omega) (by omega) (by omega) (by omega) (by omega) (by rw [len_snoc];omega)) fun x hx=>⟨?_,hx.2⟩)
    rcases hx.1 with q | q
    · exact .inl q
    · exact .inr ⟨by omega,q.2⟩
theorem vars_any {k:Nat} (hk:2 ^ 50≤k) {s:ByteArray} (hs:s.size≤1073741824) {m pos:Int} (h0:0≤m) (hm:m≤4) (h1:0≤pos) (h2:pos≤s.size) :
 Tot (spec_l10Vars.f k s pos m) (fun r=>(r.2.1 = -1∨(pos≤r.2.1∧r.2.1≤(s.size:Int)))∧(r.1.length:Int)=m):=by
 unfold spec_l10Vars.f spec_l10Vars.t
 exact varsL_any hk hs h0 hm m.toNat k pos 0 [] (by omega) (by omega) (by omega) h1 h2 rfl
def NumOk (x:Int):Prop:=0≤x∧x≤1000000
theorem num_nat {x:Int} (h:NumOk x):∃ n:Nat,n<562949953421312∧x=(n:Int)∧varB x=varT n:=by
 obtain ⟨n,rfl⟩:=Int.eq_ofNat_of_zero_le h.1
 have:=h.2
 exact ⟨n,by omega,rfl,varB_nat (by omega)⟩
theorem varsL_ok {k:Nat} (hk:2 ^ 50≤k) {m:Int} (hm:m≤4):∀ (xs:List Int) (pre t:ByteArray) (n:Nat) (j:Int) (out:List Int),(∀ x ∈ xs,NumOk x)→j+(xs.length:Int)=m→0≤j→xs.length<n→(out.length:Int)≤j→pre.size+((varsT xs).size+t.size)≤1073741824 →
 spec_l10Vars.l0 k n (pre++(varsT xs++t)) (pre.size:Int) m j out=some (out++xs,(((pre.size+(varsT xs).size:Nat):Int),()))
 | [],pre,t,n,j,out,hx,h1,h2,hn,h3,hz=>by
  obtain ⟨n,rfl⟩:∃ q,n=q+1:=⟨n-1,by omega⟩
  simp only [List.length_nil] at h1
  simp only [spec_l10Vars.l0,spec_l10Vars.b0]
  rw [decF (by omega),c_f,List.append_nil]
  rfl
 | x::xs,pre,t,n,j,out,hx,h1,h2,hn,h3,hz=>by
  obtain ⟨n,rfl⟩:∃ q,n=q+1:=⟨n-1,by omega⟩
  obtain ⟨a,ha,rfl,hv⟩:=num_nat (hx x (m_s ..))
  have hva:=varT_size a
  rw [l_c] at h1 hn
  have e1:varsT ((a:Int)::xs)=varT a++varsT xs:=by rw [varsT,hv]
  rw [e1,sz_app] at hz
  rw [e1]
  have e2:pre++(varT a++varsT xs++t)=pre++varT a++(varsT xs++t):=by simp only [app_assoc]
  have ih:=varsL_ok hk hm xs (pre++varT a) t n (j+1) (out++[(a:Int)]) (fun y hy=>hx y (m_m _ hy)) (by omega) (by omega) (by omega) (by rw [len_snoc];omega) (by rw [sz_app];omega)
  simp only [spec_l10Vars.l0,spec_l10Vars.b0]
  rw [decT (by omega),c_t,inc_eq (by omega) (by rw [sz_app];omega),n_n,app_tail,app_assoc,specReadVar_ok hk ha,o_s]
  simp only []
  rw [show (((varT a).size:Int)==0)=false from q_f (by omega),c_f,rm_ok (by omega) (by decide),cast_add,w64_eq (by omega) (by omega),w64_eq (n:=j+1) (by omega) (by omega)]
  rw [sz_app] at ih
  rw [← app_assoc pre,ih,a_a,sz_app,Nat.add_assoc]
  rfl
theorem vars_ok {k:Nat} (hk:2 ^ 50≤k) {xs:List Int} (pre t:ByteArray) (hx:∀ x ∈ xs,NumOk x) (hl:xs.length≤4) (hz:pre.size+((varsT xs).size+t.size)≤1073741824) :
 spec_l10Vars.f k (pre++(varsT xs++t)) (pre.size:Int) (xs.length:Int)=some (xs,(((pre.size+(varsT xs).size:Nat):Int),())):=by
 unfold spec_l10Vars.f spec_l10Vars.t
 exact varsL_ok hk (by omega) xs pre t k 0 [] hx (by omega) (by omega) (by omega) (by simp) hz
theorem l5_t {k:Nat} (hk:2 ^ 50≤k) {s:ByteArray} (hs:s.size≤1073741824):Tot (spec_l5Text.f k s) (fun r=>r.2.1.size≤s.size):=by
 rcases tx_cases s with ⟨u,t,hu,rfl⟩ | h
 · rw [sz_app,sz_app] at hs
   exact tot_of (l5_ok hk hu (by rw [sz_app];omega)) (by show t.size≤_;rw [sz_app,sz_app];omega)
 · exact tot_of (l5_bad hk (by omega) h) (Nat.zero_le _)
theorem specRHL_any {k:Nat} (hk:2 ^ 50≤k) {s:ByteArray} (h4:4≤s.size) (hs:s.size≤1073741824) (z:EntryL) (z1 z2 a b:Int) {xs:List Int} (hx:xs.length=3) (hc:xs.getD 2 (Ty.dflt (.int .i64))≤(20:Int)):∀ (d n:Nat) (pos j:Int) (out:EntryL),j+(d:Int)=20→0≤j→d<n→0≤pos→pos≤s.size→(out.length:Int)≤j →
 RH s (spec_ReadHint.l0 k n s pos j z z1 z2 xs out a b):=by
 intro d
 induction d with
 | zero =>
  intro n pos j out h1 h2 hn h3 h5 h6
  obtain ⟨n,rfl⟩:∃ q,n=q+1:=⟨n-1,by omega⟩
  simp only [spec_ReadHint.l0,spec_ReadHint.b0]
  rw [inb_eq (by omega) (by omega),decF (show ¬ j<xs.getD 2 (Ty.dflt (.int .i64)) by omega),c_f,specShowHint_eq hk,o_s]
  exact rh_seq h4 _
 | succ d ih =>
  intro n pos j out h1 h2 hn h3 h5 h6
  obtain ⟨n,rfl⟩:∃ q,n=q+1:=⟨n-1,by omega⟩
  have hz:=ext_size s pos.toNat
  simp only [spec_ReadHint.l0,spec_ReadHint.b0]
  rw [inb_eq (by omega) (by omega)]
  by_cases c:j<xs.getD 2 (Ty.dflt (.int .i64))
  · rw [decT c,c_t,inc_eq h3 h5]
    obtain ⟨r2,e2,q2⟩:=l5_t hk (s:=ByteArray.extract s pos.toNat s.size) (by omega)
    rw [e2,o_s]
    obtain ⟨r3,e3,q3,q4⟩:=vars_any hk (s:=r2.2.1) (m:=4) (pos:=0) (by omega) (by omega) (by omega) (by omega) (by omega)
    rw [e3,o_s]
    cases r2.2.2.1 with
    | false=>exact rh_no s
    | true =>
     simp only [n_t,c_f]
     by_cases c3:r3.2.1<0
     · rw [decT c3];exact rh_no s
     · rw [decF c3,c_f,inb_eq (by omega) (by omega),inb_eq (by omega) (by omega),inb_eq (by omega) (by omega),inb_eq (by omega) (by omega),rm_ok (by omega) (by decide),w64_eq (n:=(s.size:Int)-(r2.2.1.size:Int)) (by omega) (by omega),w64_eq (n:=(s.size:Int)-(r2.2.1.size:Int)+r3.2.1) (by omega) (by omega),w64_eq (n:=j+1) (by omega) (by omega)]
       exact ih n _ (j+1) _ (by omega) (by omega) (by omega) (by omega) (by omega) (by rw [len_snoc];omega)
  · rw [decF c,c_f,specShowHint_eq hk,o_s]
    exact rh_seq h4 _
theorem specRH_any {k:Nat} (hk:2 ^ 50≤k) {s:ByteArray} (hs:s.size≤1073741824):RH s (spec_ReadHint.f k s):=by
 unfold spec_ReadHint.f spec_ReadHint.t
 by_cases h4:(s.size:Int)<4
 · rw [decT h4];exact rh_no s
 · rw [decF h4,c_f]
   obtain ⟨r,e,q1,q2⟩:=vars_any hk (s:=s) (m:=3) (pos:=4) hs (by omega) (by omega) (by omega) (by omega)
   rw [e,o_s]
   by_cases c1:r.2.1<0
   · rw [decT c1];exact rh_no s
   · rw [decF c1,c_f,inb_eq (by omega) (by omega)]
     by_cases c2:r.1.getD 2 (Ty.dflt (.int .i64)) > (20:Int)
     · rw [decT c2];exact rh_no s
     · rw [decF c2,c_f,inb_eq (by omega) (by omega),inb_eq (by omega) (by omega)]
       exact specRHL_any hk (by omega) hs [] 0 0 _ _ (by omega) (Int.not_lt.1 c2) 20 k r.2.1 0 [] (by omega) (by omega) (by omega) (by omega) (by omega) (by simp)
theorem ent_nums {e:Ty.den TEntry} {l:EntryL} (hl:dirM l=true) (ho:oneSeg l=true) (he:e ∈ l):∀ x ∈ [(e.2.1:Int),e.2.2.1,e.2.2.2.1,e.2.2.2.2.1],NumOk x:=by
 obtain ⟨_,q⟩:=dir_facts hl
 obtain ⟨_,⟨a1,a2⟩,b1,⟨c1,c2⟩,⟨d1,d2⟩⟩:=q e he
 have h2:=List.all_eq_true.1 ho e he
 unfold inSeg at h2
 rw [b_a] at h2
 have b2:LE.le (α:=Int) e.2.2.1 100000:=by
  refine Int.not_lt.1 fun w=>?_
  have:(!decide ((e.2.2.1:Int) > 100000))=false:=by rw [decT w];rfl
  rw [this] at h2
  cases h2.2
 intro x hx
 simp only [List.mem_cons,List.not_mem_nil,or_false] at hx
 rcases hx with rfl | rfl | rfl | rfl
 · exact ⟨by omega,by omega⟩
 · exact ⟨b1,by omega⟩
 · exact ⟨by omega,by omega⟩
 · exact ⟨by omega,d2⟩
theorem entT_form (e:Ty.den TEntry) (h:e.1.size≤8) (t:ByteArray):entT e++t=varT e.1.size++(e.1++(varsT [(e.2.1:Int),e.2.2.1,e.2.2.2.1,e.2.2.2.2.1]++t)):=by
 unfold entT textB
 rw [varB_nat (by omega)]
 simp only [varsT,nil_app,app_assoc]
theorem specRHL_ok {k:Nat} (hk:2 ^ 50≤k) {h:Ty.den THint} (q:hintM h=true) (z:EntryL) (z1 z2:Int):∀ (r:EntryL) (pre:ByteArray) (n:Nat) (j:Int) (out:EntryL),(∀ e ∈ r,e ∈ h.2.2.1)→out++r=h.2.2.1→(out.length:Int)=j→r.length<n→showHintM h=pre++entsT r→pre.size≤1000 →
 spec_ReadHint.l0 k n (showHintM h) (pre.size:Int) j z z1 z2 [(h.1:Int),h.2.1,(h.2.2.1.length:Int)] out h.1 h.2.1=some (h,(true,()))
 | [],pre,n,j,out,hr,ho,hj,hn,hs,hp=>by
  obtain ⟨n,rfl⟩:∃ q,n=q+1:=⟨n-1,by omega⟩
  rw [List.append_nil] at ho
  simp only [spec_ReadHint.l0,spec_ReadHint.b0]
  rw [inb_eq (by omega) (by simp),show List.getD [(h.1:Int),h.2.1,(h.2.2.1.length:Int)] 2 (Ty.dflt (.int .i64))=(h.2.2.1.length:Int) from rfl,ho,decF (by rw [← hj,ho];omega),c_f,show (h.1,(h.2.1,(h.2.2.1,())))=h from rfl,specShowHint_eq hk,o_s]
  simp only [seq_refl]
  rfl
 | e::r,pre,n,j,out,hr,ho,hj,hn,hs,hp=>by
  obtain ⟨n,rfl⟩:∃ q,n=q+1:=⟨n-1,by omega⟩
  have hlen:h.2.2.1.length=out.length+(r.length+1):=by rw [← ho,l_a,l_c]
  have he:=hr e (m_s ..)
  have hd:=hint_dir q
  have h1:oneSeg h.2.2.1=true:=by unfold hintM at q;rw [b_a,b_a,b_a] at q;exact q.2.2.2
  have hk8:=((dir_facts hd).2 e he).1.2
  have h20:=(dir_facts hd).1
  have hnum:=ent_nums hd h1 he
  have hz:=showHint_size h
  have hf:=entT_form e hk8 (entsT r)
  have hs2:showHintM h=pre++(varT e.1.size++(e.1++(varsT [(e.2.1:Int),e.2.2.1,e.2.2.2.1,e.2.2.2.2.1]++entsT r))):=by rw [← hf];exact hs
  have hs3:showHintM h=(pre++entT e)++entsT r:=by rw [app_assoc];exact hs
  have hsz:=congrArg ByteArray.size hs2
  simp only [sz_app] at hsz
  have hsz3:=congrArg ByteArray.size hs3
  rw [sz_app,sz_app] at hsz3
  have ih:=specRHL_ok hk q z z1 z2 r (pre++entT e) n (j+1) (out++[e]) (fun x hx=>hr x (m_m _ hx)) (by rw [a_a];exact ho) (by rw [len_snoc];omega) (by rw [l_c] at hn;omega) hs3 (by rw [sz_app];omega)
  have hv:=vars_ok hk (xs:=[(e.2.1:Int),e.2.2.1,e.2.2.2.1,e.2.2.2.2.1]) ⟨#[]⟩ (entsT r) hnum (by simp) (by rw [e0];omega)
  rw [app_nil,e0] at hv
  simp only [spec_ReadHint.l0,spec_ReadHint.b0]
  rw [inb_eq (by omega) (by simp),show List.getD [(h.1:Int),h.2.1,(h.2.2.1.length:Int)] 2 (Ty.dflt (.int .i64))=(h.2.2.1.length:Int) from rfl,decT (by omega),c_t,inc_eq (by omega) (by omega),n_n]
  have ex:ByteArray.extract (showHintM h) pre.size (showHintM h).size=varT e.1.size++(e.1++(varsT [(e.2.1:Int),e.2.2.1,e.2.2.2.1,e.2.2.2.2.1]++entsT r)):=by rw [hs2,app_tail]
  rw [ex,l5_ok hk (by omega) (by simp only [sz_app];omega),o_s]
  simp only []
  rw [show spec_l10Vars.f k (varsT [(e.2.1:Int),e.2.2.1,e.2.2.2.1,e.2.2.2.2.1]++entsT r) 0 4=_ from hv,o_s]
  simp only [n_t,c_f]
  rw [decF (by omega),c_f,inb_eq (by omega) (by simp),inb_eq (by omega) (by simp),inb_eq (by omega) (by simp),inb_eq (by omega) (by simp),rm_ok (by omega) (by decide),w64_eq (n:=j+1) (by omega) (by omega)]
  have hsv:(varsT [(e.2.1:Int),e.2.2.1,e.2.2.2.1,e.2.2.2.2.1]++entsT r).size=(varsT [(e.2.1:Int),e.2.2.1,e.2.2.2.1,e.2.2.2.2.1]).size+(entsT r).size:=sz_app _ _
  have w:w64 (w64 (((showHintM h).size:Int)-((varsT [(e.2.1:Int),e.2.2.1,e.2.2.2.1,e.2.2.2.2.1]++entsT r).size:Int))+((0+(varsT [(e.2.1:Int),e.2.2.1,e.2.2.2.1,e.2.2.2.2.1]).size:Nat):Int))=((pre++entT e).size:Int):=by
   have hpe:=sz_app pre (entT e)
   rw [w64_eq (n:=((showHintM h).size:Int)-_) (by omega) (by omega),w64_eq (by omega) (by omega)]
   omega
  rw [w]
  exact ih
theorem hint_nums {h:Ty.den THint} (q:hintM h=true):∀ x ∈ [(h.1:Int),h.2.1,(h.2.2.1.length:Int)],NumOk x:=by
 have h20:=(dir_facts (hint_dir q)).1
 unfold hintM at q
 rw [b_a,b_a,decide_eq_true_eq,decide_eq_true_eq] at q
 obtain ⟨⟨a1,a2⟩,⟨b1,b2⟩,_⟩:=q
 intro x hx
 simp only [List.mem_cons,List.not_mem_nil,or_false] at hx
 rcases hx with rfl | rfl | rfl
 · exact ⟨a1,by have:LE.le (α:=Int) h.1 100000:=a2;omega⟩
 · exact ⟨b1,b2⟩
 · exact ⟨by omega,by omega⟩
theorem showHint_form {h:Ty.den THint} (q:hintM h=true):showHintM h=fix4 (crcM (hintT h))++(varsT [(h.1:Int),h.2.1,(h.2.2.1.length:Int)]++entsT h.2.2.1):=by
 unfold showHintM
 rw [if_pos q]
 unfold hintT
 simp only [varsT,nil_app,app_assoc]
theorem fix4_sz (x:Int):(fix4 x).size=4:=rfl
theorem specRH_ok {k:Nat} (hk:2 ^ 50≤k) {h:Ty.den THint} (q:hintM h=true):spec_ReadHint.f k (showHintM h)=some (h,(true,())):=by
 have h20:=(dir_facts (hint_dir q)).1
 have hf:=showHint_form q
 have hz:=showHint_size h
 have hsz:=congrArg ByteArray.size hf
 rw [sz_app,sz_app,fix4_sz] at hsz
 have hv:=vars_ok hk (xs:=[(h.1:Int),h.2.1,(h.2.2.1.length:Int)]) (fix4 (crcM (hintT h))) (entsT h.2.2.1) (hint_nums q) (by simp) (by rw [fix4_sz];omega)
 rw [← hf,fix4_sz] at hv
 unfold spec_ReadHint.f spec_ReadHint.t
 rw [decF (by omega),c_f,show spec_l10Vars.f k (showHintM h) 4 3=_ from hv,o_s]
 simp only []
 rw [decF (by omega),c_f,inb_eq (by omega) (by simp),show List.getD [(h.1:Int),h.2.1,(h.2.2.1.length:Int)] 2 (Ty.dflt (.int .i64))=(h.2.2.1.length:Int) from rfl,decF (by omega),c_f,inb_eq (by omega) (by simp),inb_eq (by omega) (by simp)]
 have:=specRHL_ok hk q [] 0 0 h.2.2.1 (fix4 (crcM (hintT h))++varsT [(h.1:Int),h.2.1,(h.2.2.1.length:Int)]) k 0 [] (fun e he=>he) rfl rfl (by omega) (by rw [app_assoc];exact hf) (by rw [sz_app,fix4_sz];omega)
 rw [sz_app,fix4_sz] at this
 exact this
theorem specReadHint_eq {k:Nat} (hk:2 ^ 50≤k) {s:ByteArray} (hs:s.size≤1073741824):spec_ReadHint.f k s=some ((readHintM s).1,((readHintM s).2,())) :=
 undo_of (fun h h1 h2=>by rw [← h2];exact specRH_ok hk h1) (specRH_any hk hs)
theorem num_t {k:Nat} (hk:2 ^ 50≤k) {r:ByteArray} (b:Bool) (hs:r.size≤1073741824):Tot (impl_scanner__num.f k (r,(b,()))) (fun x=>x.1.1.size≤r.size∧(b=true→x.1.2.1=true)∧(x.1.2.1=false→x.1.1.size<r.size)∧0≤x.2.1∧x.2.1<562949953421312):=by
 cases b with
 | true=>exact tot_of (num_b hk (by omega)) ⟨Nat.le_refl _,fun _=>rfl,fun h=>(by cases h),Int.le_refl _,by show (0:Int)<562949953421312;omega⟩
 | false =>
  rcases rv_cases r with ⟨a,t,ha,rfl⟩ | h
  · have:=varT_size a
    rw [sz_app] at hs
    exact tot_of (num_ok hk ha (by omega)) ⟨by show t.size≤_;rw [sz_app];omega,fun h=>(by cases h),fun _=>by show t.size<_;rw [sz_app];omega,by show (0:Int)≤(a:Int);omega,by show (a:Int)<_;omega⟩
  · exact tot_of (num_bad hk h (by omega)) ⟨Nat.le_refl _,fun h=>(by cases h),fun h=>(by cases h),Int.le_refl _,by show (0:Int)<562949953421312;omega⟩
theorem bytes_t (k:Nat) (r:ByteArray) (b:Bool) {n:Int} (h0:0≤n):Tot (impl_scanner__bytes.f k (r,(b,())) n) (fun x=>x.1.1.size≤r.size∧(b=true→x.1.2.1=true)):=by
 cases b with
 | true=>exact tot_of (bytes_b k r n) ⟨Nat.le_refl _,fun _=>rfl⟩
 | false =>
  by_cases h:n > (r.size:Int)
  · exact tot_of (bytes_bad k h) ⟨Nat.le_refl _,fun _=>rfl⟩
  · have e:=split_at r (n:=n.toNat) (by omega)
    have hz:(ByteArray.extract r 0 n.toNat).size=n.toNat:=by rw [← nb_len,nb_extract,List.length_take,nb_len];omega
    have:=bytes_ok k (ByteArray.extract r 0 n.toNat) (ByteArray.extract r n.toNat r.size)
    rw [← e,hz,show ((n.toNat:Nat):Int)=n by omega] at this
    exact tot_of this ⟨by show (ByteArray.extract r n.toNat r.size).size≤_;rw [ext_size];omega,fun h=>(by cases h)⟩
theorem text_t {k:Nat} (hk:2 ^ 50≤k) {r:ByteArray} (b:Bool) (hs:r.size≤1073741824):Tot (impl_scanner__text.f k (r,(b,()))) (fun x=>x.1.1.size≤r.size∧(b=true→x.1.2.1=true)∧(x.1.2.1=false→x.1.1.size<r.size)):=by
 unfold impl_scanner__text.f impl_scanner__text.t
 refine tot_bind (num_t hk b hs) fun r1 q1=>?_
 obtain ⟨a1,a2,a3,a4,_⟩:=q1
 refine tot_bind (bytes_t k r1.1.1 r1.1.2.1 a4) fun r2 q2=>tot_some ⟨by omega,fun h=>q2.2 (a2 h),fun h=>?_⟩
 cases c:r1.1.2.1 with
 | true=>rw [q2.2 c] at h;cases h
 | false=>have:=a3 c;omega
theorem implRHL_bad {k:Nat} (n:Nat) (s:ByteArray) (c j:Int) (z:EntryL) (z1 z2:Int) (rest:ByteArray) (out:EntryL) (a b:Int):impl_ReadHint.l0 k (n+1) s c j z z1 z2 rest true out a b=some (zHint,(false,())):=by
 simp only [impl_ReadHint.l0,impl_ReadHint.b0]
 cases decide (j<c) <;> rfl
theorem implRH_end {k:Nat} (hk:2 ^ 50≤k) {s:ByteArray} (h4:4≤s.size) {h:Ty.den THint} (hl:h.2.2.1.length≤1073741824):RH s (Option.bind (impl_hintOk.f k h) fun r12=>(bif (!r12.1) then (some ((0,(0,([],()))),(false,()))) else (Option.bind (impl_ShowHint.f k h) fun r13=>(bif (!(seq r13.1 s)) then (some ((0,(0,([],()))),(false,()))) else (some (h,(true,()))))))):=by
 rw [implHintOk_eq hk hl,o_s,implShowHint_eq hk hl,o_s]
 cases hintM h with
 | false=>exact rh_no s
 | true=>exact rh_seq h4 h
theorem implRHL_any {k:Nat} (hk:2 ^ 50≤k) {s:ByteArray} (h4:4≤s.size) (c:Int) (hc:c<562949953421312) (z:EntryL) (z1 z2 a b:Int):∀ (n:Nat) (rest:ByteArray) (j:Int) (out:EntryL),rest.size+2≤n→0≤j→out.length+rest.size≤1073741824 →
 RH s (impl_ReadHint.l0 k n s c j z z1 z2 rest false out a b):=by
 intro n
 induction n with
 | zero=>intro rest j out h1;omega
 | succ n ih =>
  intro rest j out h1 h2 h5
  obtain ⟨n,rfl⟩:∃ q,n=q+1:=⟨n-1,by omega⟩
  simp only [impl_ReadHint.l0]
  unfold impl_ReadHint.b0
  by_cases cj:j<c
  · rw [decT cj,c_t,n_f,c_t]
    obtain ⟨r5,e5,p1,p2,p3⟩:=text_t hk false (r:=rest) (by omega)
    rw [e5,o_s]
    obtain ⟨r6,e6,s1,s2,s3,_⟩:=num_t hk r5.1.2.1 (r:=r5.1.1) (by omega)
    rw [show impl_scanner__num.f k r5.1=_ from e6,o_s]
    obtain ⟨r7,e7,t1,t2,t3,_⟩:=num_t hk r6.1.2.1 (r:=r6.1.1) (by omega)
    rw [show impl_scanner__num.f k r6.1=_ from e7,o_s]
    obtain ⟨r8,e8,u1,u2,u3,_⟩:=num_t hk r7.1.2.1 (r:=r7.1.1) (by omega)
    rw [show impl_scanner__num.f k r7.1=_ from e8,o_s]
    obtain ⟨r9,e9,v1,v2,v3,_⟩:=num_t hk r8.1.2.1 (r:=r8.1.1) (by omega)
    rw [show impl_scanner__num.f k r8.1=_ from e9,o_s,rm_ok (by omega) (by decide),w64_eq (n:=j+1) (by omega) (by omega)]
    cases hb:r9.1.2.1 with
    | true=>exact .inr (implRHL_bad n s c (j+1) z z1 z2 _ _ a b)
    | false =>
     have:=v3 hb
     exact ih r9.1.1 (j+1) _ (by omega) (by omega) (by rw [len_snoc];omega)
  · rw [decF cj,c_f]
    simp only [c_f]
    exact implRH_end hk h4 (h:=(a,(b,(out,())))) (by show out.length≤_;omega)
theorem implRH_small {k:Nat} (hk:2 ^ 50≤k) {s:ByteArray} (h:s.size<4):impl_ReadHint.f k s=some (zHint,(false,())):=by
 unfold impl_ReadHint.f impl_ReadHint.t
 rw [bytes_bad k (by omega),o_s]
 simp only []
 rw [num_b hk (by omega),o_s]
 simp only []
 rw [num_b hk (by omega),o_s]
 simp only []
 rw [num_b hk (by omega),o_s]
 obtain ⟨q,hq⟩:∃ q,k=q+1:=⟨k-1,by omega⟩
 exact (congrArg (fun z=>impl_ReadHint.l0 k z s 0 0 [] 0 0 s true [] 0 0) hq).trans (implRHL_bad q s 0 0 [] 0 0 s [] 0 0)
theorem implRH_any {k:Nat} (hk:2 ^ 50≤k) {s:ByteArray} (hs:s.size≤1073741824):RH s (impl_ReadHint.f k s):=by
 by_cases h4:s.size<4
 · rw [implRH_small hk h4];exact rh_no s
 unfold impl_ReadHint.f impl_ReadHint.t
 obtain ⟨r1,e1,p1,_⟩:=bytes_t k s false (n:=4) (by omega)
 rw [e1,o_s]
 obtain ⟨r2,e2,s1,_,_,_⟩:=num_t hk r1.1.2.1 (r:=r1.1.1) (by omega)
 rw [show impl_scanner__num.f k r1.1=_ from e2,o_s]
 obtain ⟨r3,e3,t1,_,_,_⟩:=num_t hk r2.1.2.1 (r:=r2.1.1) (by omega)
 rw [show impl_scanner__num.f k r2.1=_ from e3,o_s]
 obtain ⟨r4,e4,u1,_,_,u4,u5⟩:=num_t hk r3.1.2.1 (r:=r3.1.1) (by omega)
 rw [show impl_scanner__num.f k r3.1=_ from e4,o_s]
 cases r4.1.2.1 with
 | true =>
  obtain ⟨q,hq⟩:∃ q,k=q+1:=⟨k-1,by omega⟩
  exact .inr ((congrArg (fun z=>impl_ReadHint.l0 k z s r4.2.1 0 [] 0 0 r4.1.1 true [] r2.2.1 r3.2.1) hq).trans (implRHL_bad q s _ 0 [] 0 0 _ [] _ _))
 | false=>exact implRHL_any hk (by omega) r4.2.1 u5 [] 0 0 _ _ k r4.1.1 0 [] (by omega) (by omega) (by simp only [List.length_nil];omega)
theorem implRHL_ok {k:Nat} (hk:2 ^ 50≤k) {h:Ty.den THint} (q:hintM h=true) (z:EntryL) (z1 z2:Int):∀ (r:EntryL) (n:Nat) (j:Int) (out:EntryL),(∀ e ∈ r,e ∈ h.2.2.1)→out++r=h.2.2.1→(out.length:Int)=j→r.length<n →
 impl_ReadHint.l0 k n (showHintM h) (h.2.2.1.length:Int) j z z1 z2 (entsT r) false out h.1 h.2.1=some (h,(true,()))
 | [],n,j,out,hr,ho,hj,hn=>by
  obtain ⟨n,rfl⟩:∃ q,n=q+1:=⟨n-1,by omega⟩
  have h20:=(dir_facts (hint_dir q)).1
  rw [List.append_nil] at ho
  simp only [impl_ReadHint.l0,impl_ReadHint.b0]
  rw [decF (by rw [← hj,ho];omega),c_f,c_f,ho,show (h.1,(h.2.1,(h.2.2.1,())))=h from rfl,implHintOk_eq hk (by omega),o_s,q]
  simp only [n_t,c_f]
  rw [implShowHint_eq hk (by omega),o_s]
  simp only [seq_refl]
  rfl
 | e::r,n,j,out,hr,ho,hj,hn=>by
  obtain ⟨n,rfl⟩:∃ q,n=q+1:=⟨n-1,by omega⟩
  have hlen:h.2.2.1.length=out.length+(r.length+1):=by rw [← ho,l_a,l_c]
  have he:=hr e (m_s ..)
  have hd:=hint_dir q
  have h1:oneSeg h.2.2.1=true:=by unfold hintM at q;rw [b_a,b_a,b_a] at q;exact q.2.2.2
  have hk8:=((dir_facts hd).2 e he).1.2
  have h20:=(dir_facts hd).1
  have hnum:=ent_nums hd h1 he
  have hes:=entsT_size (l:=r) fun x hx=>((dir_facts hd).2 x (hr x (m_m _ hx))).1.2
  obtain ⟨n1,b1,f1,g1⟩:=num_nat (hnum e.2.1 (by simp))
  obtain ⟨n2,b2,f2,g2⟩:=num_nat (hnum e.2.2.1 (by simp))
  obtain ⟨n3,b3,f3,g3⟩:=num_nat (hnum e.2.2.2.1 (by simp))
  obtain ⟨n4,b4,f4,g4⟩:=num_nat (hnum e.2.2.2.2.1 (by simp))
  have v1:=varT_size n1
  have v2:=varT_size n2
  have v3:=varT_size n3
  have v4:=varT_size n4
  have hform:entsT (e::r)=varT e.1.size++(e.1++(varT n1++(varT n2++(varT n3++(varT n4++entsT r))))):=by
   rw [show entsT (e::r)=entT e++entsT r from rfl,entT_form e hk8]
   simp only [varsT,nil_app,app_assoc,g1,g2,g3,g4]
  have ih:=implRHL_ok hk q z z1 z2 r n (j+1) (out++[e]) (fun x hx=>hr x (m_m _ hx)) (by rw [a_a];exact ho) (by rw [len_snoc];omega) (by rw [l_c] at hn;omega)
  have hl20:r.length≤20:=by omega
  rw [hform]
  simp only [impl_ReadHint.l0,impl_ReadHint.b0]
  rw [decT (by omega),c_t,n_f,c_t,text_ok hk (by omega) (by simp only [sz_app];omega),o_s]
  simp only []
  rw [num_ok hk b1 (by simp only [sz_app];omega),o_s]
  simp only []
  rw [num_ok hk b2 (by simp only [sz_app];omega),o_s]
  simp only []
  rw [num_ok hk b3 (by simp only [sz_app];omega),o_s]
  simp only []
  rw [num_ok hk b4 (by omega),o_s]
  simp only []
  rw [rm_ok (by omega) (by decide),w64_eq (n:=j+1) (by omega) (by omega),← f1,← f2,← f3,← f4]
  exact ih
theorem implRH_ok {k:Nat} (hk:2 ^ 50≤k) {h:Ty.den THint} (q:hintM h=true):impl_ReadHint.f k (showHintM h)=some (h,(true,())):=by
 have h20:=(dir_facts (hint_dir q)).1
 have hes:=entsT_size (l:=h.2.2.1) fun x hx=>((dir_facts (hint_dir q)).2 x hx).1.2
 have hnum:=hint_nums q
 obtain ⟨n1,b1,f1,g1⟩:=num_nat (hnum h.1 (by simp))
 obtain ⟨n2,b2,f2,g2⟩:=num_nat (hnum h.2.1 (by simp))
 obtain ⟨n3,b3,f3,g3⟩:=num_nat (hnum (h.2.2.1.length:Int) (by simp))
 have v1:=varT_size n1
 have v2:=varT_size n2
 have v3:=varT_size n3
 have hform:showHintM h=fix4 (crcM (hintT h))++(varT n1++(varT n2++(varT n3++entsT h.2.2.1))):=by
  rw [showHint_form q]
  simp only [varsT,nil_app,app_assoc,g1,g2,g3]
 have hl:=implRHL_ok hk q [] 0 0 h.2.2.1 k 0 [] (fun e he=>he) rfl rfl (by omega)
 unfold impl_ReadHint.f impl_ReadHint.t
 have eb:=bytes_ok k (fix4 (crcM (hintT h))) (varT n1++(varT n2++(varT n3++entsT h.2.2.1)))
 rw [← hform,fix4_sz] at eb
 rw [show impl_scanner__bytes.f k (showHintM h,(false,())) 4=_ from eb,o_s]
 simp only []
 rw [num_ok hk b1 (by simp only [sz_app];omega),o_s]
 simp only []
 rw [num_ok hk b2 (by simp only [sz_app];omega),o_s]
 simp only []
 rw [num_ok hk b3 (by omega),o_s]
 simp only []
 rw [← f1,← f2,← f3]
 exact hl
theorem implReadHint_eq {k:Nat} (hk:2 ^ 50≤k) {s:ByteArray} (hs:s.size≤1073741824):impl_ReadHint.f k s=some ((readHintM s).1,((readHintM s).2,())) :=
 undo_of (fun h h1 h2=>by rw [← h2];exact implRH_ok hk h1) (implRH_any hk hs)
theorem readHint_len {s:ByteArray}:(readHintM s).1.2.2.1.length≤20:=by
 rcases undo_cases (fun h=>hintM h=true) showHintM zHint s with ⟨r,h1,_,e⟩ | e
 · unfold readHintM
   rw [e]
   exact (dir_facts (hint_dir h1)).1
 · unfold readHintM
   rw [e]
   exact Nat.zero_le _
end Go.Proofs.YtejgkmhpmhfnbaaGreatDoor.G
namespace Go.Proofs.YtejgkmhpmhfnbaaGreatDoor.G
open Go.V
def dropM (l:EntryL) (key:ByteArray):EntryL:=l.filter fun x=>!(seq x.1 key)
def leE (key:ByteArray) (x:Ty.den TEntry):Bool:=sls x.1 key||seq x.1 key
def insE (l:EntryL) (e:Ty.den TEntry):EntryL:=l.takeWhile (leE e.1)++e::l.dropWhile (leE e.1)
def putM (l:EntryL) (e:Ty.den TEntry):EntryL:=insE (dropM l e.1) e
theorem dropM_len (l:EntryL) (key:ByteArray):(dropM l key).length≤l.length:=List.length_filter_le ..
theorem insE_len (l:EntryL) (e:Ty.den TEntry):(insE l e).length=l.length+1:=by
 unfold insE
 rw [l_a,l_c]
 have:=congrArg List.length (List.takeWhile_append_dropWhile (p:=leE e.1) (l:=l))
 rw [l_a] at this
 omega
theorem putM_len (l:EntryL) (e:Ty.den TEntry):(putM l e).length≤l.length+1:=by
 unfold putM
 have:=dropM_len l e.1
 rw [insE_len]
 omega
theorem specDirPut_eq {k:Nat} (hk:2 ^ 50≤k) {l:EntryL} (e:Ty.den TEntry) (hl:l.length≤1073741823):spec_DirPut.f k l e=some (putM l e,()):=by
 unfold spec_DirPut.f spec_DirPut.t
 refine (forL0 (L:=fun n i (s:Bool × EntryL)=>spec_DirPut.l0 k n l s.1 i e.1 e.2.1 e.2.2.1 e.2.2.2.1 e.2.2.2.2.1 s.2) (R:=fun r s=>some (s.2++bif s.1 then dropM r e.1 else insE (dropM r e.1) e,())) (Ty.dflt TEntry) l (fun i s=>(s.2.length:Int)≤2*i+1) (fun n s hs=>?_) (fun n i s x rest h0 h1 hx hr hp ih=>?_) (n:=k) (s:=(false,[])) (by omega) (by simp)).trans (by rw [List.nil_append];rfl)
 · obtain ⟨dn,out⟩:=s
   simp only [] at hs
   cases dn with
   | true=>simp (disch:=first | omega | decide) only [spec_DirPut.l0,spec_DirPut.b0,decF,c_f,c_t,n_t,dropM,List.filter_nil,List.append_nil]
   | false=>simp (disch:=first | omega | decide) only [spec_DirPut.l0,spec_DirPut.b0,decF,c_f,c_t,n_f,rm_ok,dropM,List.filter_nil,insE,List.takeWhile_nil,List.dropWhile_nil,List.nil_append]
 · obtain ⟨dn,out⟩:=s
   simp only [] at hp
   cases c:seq x.1 e.1 with
   | true =>
    simp (disch:=omega) only [spec_DirPut.l0,spec_DirPut.b0,decT,c_t,inb_eq,hx,c,w64_eq]
    refine (ih (dn,out) (by simp only [];omega)).trans ?_
    simp only [dropM,List.filter_cons,c,n_t,Bool.false_eq_true,if_false]
   | false =>
    have ef:dropM (x::rest) e.1=x::dropM rest e.1:=by simp only [dropM,List.filter_cons,c,n_f,if_true]
    cases dn with
    | true =>
     simp (disch:=first | omega | decide) only [spec_DirPut.l0,spec_DirPut.b0,decT,c_t,c_f,inb_eq,hx,c,w64_eq,n_t,rm_ok]
     refine (ih (true,out++[x]) (by simp only [len_snoc];omega)).trans ?_
     rw [ef]
     simp only [c_t,a_a,List.cons_append,List.nil_append]
    | false =>
     cases c2:sls x.1 e.1 with
     | true =>
      simp (disch:=first | omega | decide) only [spec_DirPut.l0,spec_DirPut.b0,decT,c_t,c_f,inb_eq,hx,c,c2,w64_eq,n_f,n_t,Bool.true_or,rm_ok]
      refine (ih (false,out++[x]) (by simp only [len_snoc];omega)).trans ?_
      rw [ef]
      simp only [c_f,insE,leE,List.takeWhile_cons,List.dropWhile_cons,c2,Bool.true_or,if_true,a_a,List.cons_append,List.nil_append]
     | false =>
      have hx2:(out++[(e.1,(e.2.1,(e.2.2.1,(e.2.2.2.1,(e.2.2.2.2.1,())))))]:EntryL).length+1≤1099511627776:=by rw [len_snoc];omega
      simp (disch:=first | omega | decide) only [spec_DirPut.l0,spec_DirPut.b0,decT,c_t,c_f,inb_eq,hx,c,c2,w64_eq,n_f,Bool.or_false,rm_ok]
      refine (ih (true,(out++[e])++[x]) (by simp only [len_snoc];omega)).trans ?_
      rw [ef]
      simp only [c_t,c_f,insE,leE,List.takeWhile_cons,List.dropWhile_cons,c,c2,Bool.or_false,Bool.false_eq_true,if_false,a_a,List.cons_append,List.nil_append]
end Go.Proofs.YtejgkmhpmhfnbaaGreatDoor.G
namespace Go.Proofs.YtejgkmhpmhfnbaaGreatDoor.G
open Go.V
theorem specDirDrop_eq {k:Nat} (hk:2 ^ 50≤k) {l:EntryL} (key:ByteArray) (hl:l.length≤1099511627775):spec_DirDrop.f k l key=some (dropM l key,()):=by
 unfold spec_DirDrop.f spec_DirDrop.t
 refine (forL0 (L:=fun n i s=>spec_DirDrop.l0 k n l key i s) (R:=fun r s=>some (s++dropM r key,())) (Ty.dflt TEntry) l (fun i s=>(s.length:Int)≤i) (fun n s hs=>?_) (fun n i s x rest h0 h1 hx hr hp ih=>?_) (n:=k) (s:=[]) (by omega) (by decide)).trans (by rw [List.nil_append])
 · simp (disch:=omega) only [spec_DirDrop.l0,spec_DirDrop.b0,decF,c_f,dropM,List.filter_nil,List.append_nil]
 · cases c:seq x.1 key with
   | true =>
    simp (disch:=first | omega | decide) only [spec_DirDrop.l0,spec_DirDrop.b0,decT,c_t,c_f,inb_eq,hx,c,n_t,w64_eq]
    refine (ih s (by omega)).trans ?_
    simp only [dropM,List.filter_cons,c,n_t,Bool.false_eq_true,if_false]
   | false =>
    simp (disch:=first | omega | decide) only [spec_DirDrop.l0,spec_DirDrop.b0,decT,c_t,inb_eq,hx,c,n_f,rm_ok,w64_eq]
    refine (ih (s++[x]) (by rw [len_snoc];omega)).trans ?_
    simp only [dropM,List.filter_cons,c,n_f,if_true,a_a,List.cons_append,List.nil_append]
theorem implDirDrop_eq {k:Nat} (hk:2 ^ 50≤k) {l:EntryL} (key:ByteArray) (hl:l.length≤1099511627775):impl_DirDrop.f k l key=some (dropM l key,()):=by
 unfold impl_DirDrop.f impl_DirDrop.t
 refine (forL0 (L:=fun n i s=>impl_DirDrop.l0 k n key l l.length i s) (R:=fun r s=>some (s++dropM r key,())) (Ty.dflt TEntry) l (fun i s=>(s.length:Int)≤i) (fun n s hs=>?_) (fun n i s x rest h0 h1 hx hr hp ih=>?_) (n:=k) (s:=[]) (by omega) (by decide)).trans (by rw [List.nil_append])
 · simp (disch:=omega) only [impl_DirDrop.l0,impl_DirDrop.b0,decF,c_f,dropM,List.filter_nil,List.append_nil]
 · cases c:seq x.1 key with
   | true =>
    simp (disch:=first | omega | decide) only [impl_DirDrop.l0,impl_DirDrop.b0,decT,c_t,c_f,inb_eq,hx,c,n_t,w64_eq]
    refine (ih s (by omega)).trans ?_
    simp only [dropM,List.filter_cons,c,n_t,Bool.false_eq_true,if_false]
   | false =>
    simp (disch:=first | omega | decide) only [impl_DirDrop.l0,impl_DirDrop.b0,decT,c_t,inb_eq,hx,c,n_f,rm_ok,w64_eq]
    refine (ih (s++[x]) (by rw [len_snoc];omega)).trans ?_
    simp only [dropM,List.filter_cons,c,n_f,if_true,a_a,List.cons_append,List.nil_append]
theorem implDirPut_eq {k:Nat} (hk:2 ^ 50≤k) {l:EntryL} (e:Ty.den TEntry) (hl:l.length≤1099511627775):impl_DirPut.f k l e=some (putM l e,()):=by
 unfold impl_DirPut.f impl_DirPut.t putM
 rw [implDirDrop_eq hk e.1 hl,o_s]
 have hd:=dropM_len l e.1
 simp only []
 generalize dropM l e.1=r at *
 have cp:∀ q:EntryL,q.length≤1099511627775→impl_copyDir.f k q=some (q,()):=fun q hq=>by
  unfold impl_copyDir.f impl_copyDir.t
  rw [rm_ok (by omega) (by decide)]
 have key:∀ (d j n:Nat),r.length-j=d→j≤r.length→d<n→impl_DirPut.l0 k n (j:Int) e.1 e.2.1 e.2.2.1 e.2.2.2.1 e.2.2.2.2.1 r=some (r.take j++insE (r.drop j) e,()):=by
  intro d
  induction d with
  | zero =>
   intro j n hd hj hn
   obtain ⟨n,rfl⟩:∃ q,n=q+1:=⟨n-1,by omega⟩
   have:j=r.length:=by omega
   subst this
   simp (disch:=first | omega | (simp only [len_snoc,List.length_take,List.length_drop];omega) | decide) only [impl_DirPut.l0,impl_DirPut.b0,decF,c_f,inc_eq,n_n,cp,o_s,rm_ok]
   rw [List.drop_length,insE]
   simp
  | succ d ih =>
   intro j n hd hj hn
   obtain ⟨n,rfl⟩:∃ q,n=q+1:=⟨n-1,by omega⟩
   have hlt:j<r.length:=by omega
   have e1:r.drop j=r.getD j (Ty.dflt TEntry)::r.drop (j+1):=by
    rw [List.drop_eq_getElem_cons hlt]
    simp [List.getD,hlt]
   cases c:leE e.1 (r.getD j (Ty.dflt TEntry)) with
   | true =>
    have c':=c
    unfold leE at c'
    have ih:=ih (j+1) n (by omega) (by omega) (by omega)
    simp (disch:=omega) only [impl_DirPut.l0,impl_DirPut.b0,decT,c_t,inb_eq,n_n,c',w64_eq]
    rw [show ((j:Int)+1)=((j+1:Nat):Int) by omega,ih,e1,take_succ_getD (z:=Ty.dflt TEntry) hlt]
    unfold insE
    simp only [List.takeWhile_cons,List.dropWhile_cons,c,if_true,a_a,List.cons_append,List.nil_append]
   | false =>
    have c':=c
    unfold leE at c'
    simp (disch:=first | omega | (simp only [len_snoc,List.length_take,List.length_drop];omega) | decide) only [impl_DirPut.l0,impl_DirPut.b0,decT,c_t,c_f,inb_eq,n_n,c',inc_eq,cp,o_s,rm_ok]
    rw [e1]
    unfold insE
    simp only [List.takeWhile_cons,List.dropWhile_cons,c,Bool.false_eq_true,if_false,a_a,List.cons_append,List.nil_append]
 exact (key r.length 0 k (by omega) (by omega) (by omega)).trans (by rw [List.take_zero,List.drop_zero,List.nil_append])
theorem specKept_eq {k:Nat} (hk:2 ^ 50≤k) {l:PlaceL} {e:Int} (h0:0≤e) (he:e≤l.length) (hl:l.length≤1099511627775):spec_l9Kept.f k l e=some (ownMark (l.take e.toNat),()):=by
 unfold spec_l9Kept.f spec_l9Kept.t
 have hlen:(l.take e.toNat).length=e.toNat:=by rw [List.length_take];omega
 have he':e=((l.take e.toNat).length:Int):=by omega
 conv=>lhs;rw [he']
 refine forL0 (L:=fun n i s=>spec_l9Kept.l0 k n l ((l.take e.toNat).length:Int) i s) (R:=fun r s=>some (r.foldl stepMark s,())) (Ty.dflt TPlace) (l.take e.toNat) (fun i s=>(s.length:Int)≤i) (fun n s hs=>?_) (fun n i s x rest h0 h1 hx hr hp ih=>?_) (n:=k) (s:=[]) (by omega) (by decide)
 · simp (disch:=omega) only [spec_l9Kept.l0,spec_l9Kept.b0,decF,c_f,List.foldl_nil]
 · rw [getD_take (by omega)] at hx
   simp (disch:=omega) only [spec_l9Kept.l0,spec_l9Kept.b0,decT h1,c_t,inb_eq,hx,w64_eq]
   rw [List.foldl_cons]
   have hs1:=stepMark_len s x
   have ih1:=ih (stepMark s x) (by omega)
   rw [← ih1]
   unfold stepMark
   have r1:∀ {R:Type} (q:Option R),rm (Ty.bytes TPlace) (s.length+1) q=q:=fun q=>rm_ok (by omega) (by decide)
   have r2:∀ {R:Type} (q:Option R),rm (Ty.bytes TPlace) (0+1) q=q:=fun q=>rm_ok (by omega) (by decide)
   simp only [r1,r2]
   cases c1:(x.2.2.2.1.1==5) <;> cases c2:(x.2.2.2.1.1==4) <;> first | rfl | skip
   all_goals (exfalso;have e2:=eq_of_beq c1;rw [e2] at c2;revert c2;decide)
def entryOf (p:Ty.den TPlace):Ty.den TEntry:=(p.2.2.2.1.2.2.1,(p.1,(p.2.1,(p.2.2.1,(p.2.2.2.1.2.1,())))))
def stepDir (d:EntryL) (p:Ty.den TPlace):EntryL:=bif p.2.2.2.1.1==2 then dropM d p.2.2.2.1.2.2.1 else putM d (entryOf p)
def applyM (d:EntryL) (own:PlaceL):EntryL:=own.foldl stepDir d
theorem stepDir_len (d:EntryL) (p:Ty.den TPlace):(stepDir d p).length≤d.length+1:=by
 unfold stepDir
 have h1:=dropM_len d p.2.2.2.1.2.2.1
 have h2:=putM_len d (entryOf p)
 cases p.2.2.2.1.1==2
 · rw [c_f];omega
 · rw [c_t];omega
theorem applyM_len:∀ (own:PlaceL) (d:EntryL),(applyM d own).length≤d.length+own.length
 | [],d=>Nat.le_refl _
 | p::own,d=>by
  have:=applyM_len own (stepDir d p)
  have:=stepDir_len d p
  rw [applyM,List.foldl_cons,l_c]
  unfold applyM at this
  simp only [applyM] at *
  omega
def codeM (d:EntryL) (code:Int):Int:=if d.length > 20 then 2 else code
theorem implApply_eq {k:Nat} (hk:2 ^ 50≤k) (g:Ty.den TGroup) {own:PlaceL} (ho:own.length≤268435456) (hd:g.1.length≤268435456):impl_Group__apply.f k g own=some ((applyM g.1 own,(g.2.1,(codeM (applyM g.1 own) g.2.2.1,()))),()):=by
 unfold impl_Group__apply.f impl_Group__apply.t
 refine forL0 (L:=fun n i (d:EntryL)=>impl_Group__apply.l0 k n own own.length i d g.2.1 g.2.2.1) (R:=fun q d=>some ((applyM d q,(g.2.1,(codeM (applyM d q) g.2.2.1,()))),())) (Ty.dflt TPlace) own (fun i d=>(d.length:Int)≤268435456+i) (fun n d hs=>?_) (fun n i d x rest h0 h1 hx hr hp ih=>?_) (n:=k) (s:=g.1) (by omega) (by omega)
 · change _=some ((d,(g.2.1,(codeM d g.2.2.1,()))),())
   simp (disch:=omega) only [impl_Group__apply.l0,impl_Group__apply.b0,decF (show ¬ ((own.length:Int)<(own.length:Int)) by omega),c_f,codeM]
   by_cases c:d.length > 20
   · rw [decT (by omega),if_pos c];rfl
   · rw [decF (by omega),if_neg c];rfl
 · have hsd:=stepDir_len d x
   have ih:=ih (stepDir d x) (by omega)
   have e:stepDir d x=bif x.2.2.2.1.1==2 then dropM d x.2.2.2.1.2.2.1 else putM d (entryOf x):=rfl
   simp (disch:=omega) only [impl_Group__apply.l0,impl_Group__apply.b0,decT h1,c_t,inb_eq,hx,implDirDrop_eq hk,implDirPut_eq hk,o_s,w64_eq]
   rw [show applyM d (x::rest)=applyM (stepDir d x) rest from rfl,← ih,e]
   cases x.2.2.2.1.1==2 <;> rfl
theorem specPut_eq {k:Nat} (hk:2 ^ 50≤k) {d:EntryL} (p:Ty.den TPlace) (hd:d.length≤1073741823):spec_l9Put.f k d p=some (stepDir d p,()):=by
 unfold spec_l9Put.f spec_l9Put.t stepDir
 rw [specDirDrop_eq hk _ (by omega),specDirPut_eq hk _ hd]
 cases p.2.2.2.1.1==2 <;> rfl
def maxM (a b:Int):Int:=if a > b then a else b
def regroupL (all:PlaceL):PlaceL→Nat→EntryL→Int→Int→Ty.den TGroup
 | [],_,d,last,code=>bif code==0&&decide ((ownMark all).length > 0) then (d,(last,(1,()))) else (d,(last,(code,())))
 | p::rest,i,d,last,code =>
  bif code != 0 then (d,(last,(code,()))) else
  bif p.2.2.2.1.1==3 then (bif fitsM p.2.2.2.1 (ownSeal p.2.2.2.1.2.1 (all.take i)) then regroupL all rest (i+1) (applyM d (ownSeal p.2.2.2.1.2.1 (all.take i))) (maxM p.2.2.2.1.2.1 last) (codeM (applyM d (ownSeal p.2.2.2.1.2.1 (all.take i))) code)
   else regroupL all rest (i+1) d (maxM p.2.2.2.1.2.1 last) code) else
  bif p.2.2.2.1.1==5 then (bif fitsM p.2.2.2.1 (ownMark (all.take i)) then regroupL all rest (i+1) (applyM d (ownMark (all.take i))) (maxM p.2.2.2.1.2.1 last) (codeM (applyM d (ownMark (all.take i))) code)
   else regroupL all rest (i+1) d (maxM p.2.2.2.1.2.1 last) 1) else
  regroupL all rest (i+1) d (maxM p.2.2.2.1.2.1 last) code
def regroupM (g:Ty.den TGroup) (l:PlaceL):Ty.den TGroup:=regroupL l l 0 g.1 g.2.1 g.2.2.1
def RInv (d:EntryL) (code:Int):Prop:=d.length≤268435456∧(code=0→d.length≤134217728)
theorem rinv_apply {d:EntryL} {own:PlaceL} {code:Int} (h:RInv d 0) (ho:own.length≤134217728):RInv (applyM d own) (codeM (applyM d own) code):=by
 have h1:=applyM_len own d
 have h2:=h.2 rfl
 refine ⟨by omega,fun q=>?_⟩
 unfold codeM at q
 split at q
 · cases q
 · omega
theorem rinv_one {d:EntryL} (h:RInv d 0):RInv d 1:=⟨h.1,fun q=>by cases q⟩
theorem implRegroup_eq {k:Nat} (hk:2 ^ 50≤k) (g:Ty.den TGroup) {l:PlaceL} (hl:l.length≤134217728) (hd:g.1.length≤134217728):impl_Regroup.f k g l=some (regroupM g l,()):=by
 unfold impl_Regroup.f impl_Regroup.t
 have cp:impl_copyDir.f k g.1=some (g.1,()):=by
  unfold impl_copyDir.f impl_copyDir.t
  rw [rm_ok (by omega) (by decide)]
 rw [cp,o_s]
 simp only []
 have key:=forL (L:=fun n i (s:EntryL × Int × Int)=>impl_Regroup.l0 k n l l l.length i [] 0 0 s.1 s.2.1 s.2.2) (R:=fun (q:PlaceL) s=>some (regroupL l q (l.length-q.length) s.1 s.2.1 s.2.2,())) (Ty.dflt TPlace) l (fun i s=>RInv s.1 s.2.2) (fun n s hs=>?_) (fun n i s x rest h0 h1 hx hr hp ih=>?_) k 0 (g.1,(g.2.1,g.2.2.1)) (by omega) (by omega) (by omega) ⟨by simp only [];omega,fun _=>by simp only [];omega⟩
 · have e:l.drop (Int.toNat 0)=l:=rfl
   rw [e,Nat.sub_self] at key
   exact key
 · obtain ⟨d,last,code⟩:=s
   have hm:=implOwn_mark hk (l:=l) (r:=(5,(0,(ByteArray.empty,(ByteArray.empty,(0,(0,()))))))) rfl (by omega)
   simp (disch:=omega) only [impl_Regroup.l0,impl_Regroup.b0,decF,c_f,regroupL,hm,o_s]
   cases c1:(code==0)
   · rfl
   · by_cases c2:(ownMark l).length > 0
     · rw [decT (show ((ownMark l).length:Int) > 0 by omega),decT c2];rfl
     · rw [decF (show ¬ ((ownMark l).length:Int) > 0 by omega),decF c2];rfl
 · obtain ⟨d,last,code⟩:=s
   simp only [] at hp ih
   have hi:l.length-(x::rest).length=i.toNat:=by
    have:=congrArg List.length hr
    rw [List.length_drop] at this
    omega
   have hi2:l.length-rest.length=i.toNat+1:=by rw [l_c] at hi;have:=congrArg List.length hr;rw [List.length_drop,l_c] at this;omega
   have htk:(l.take i.toNat).length≤134217728:=by rw [List.length_take];omega
   have ih:=fun a b c h=>ih (a,(b,c)) h
   simp only [hi2] at ih
   rw [hi]
   simp (disch:=omega) only [impl_Regroup.l0,impl_Regroup.b0,decT h1,c_t,inb_eq,hx,w64_eq,regroupL]
   by_cases c0:code=0
   case neg =>
    rw [show (code != 0)=true from bne_iff_ne.2 c0]
    rfl
   subst c0
   simp only [show ((0:Int) != 0)=false from rfl,c_f]
   by_cases c3:x.2.2.2.1.1=3
   · have b3:(x.2.2.2.1.1==3)=true:=by rw [c3];rfl
     have b3':(x.2.2.2.1.1 != 3)=false:=by rw [c3];rfl
     have b5:(x.2.2.2.1.1==5)=false:=by rw [c3];rfl
     have hlen:=ownSeal_len x.2.2.2.1.2.1 (l.take i.toNat)
     simp only [b3,b3',b5,c_t,c_f]
     rw [inc_eq (by omega) (by omega),implOwn_seal hk c3 (by omega),o_s]
     simp only []
     rw [implFits_eq hk _ (by omega),o_s]
     cases c:fitsM x.2.2.2.1 (ownSeal x.2.2.2.1.2.1 (l.take i.toNat)) with
     | true =>
      simp only [c_t]
      rw [implApply_eq hk _ (by omega) (by simp only [];exact hp.1),o_s]
      exact ih _ _ _ (rinv_apply hp (by omega))
     | false =>
      simp only [c_f]
      exact ih _ _ _ hp
   · have b3:(x.2.2.2.1.1==3)=false:=q_f c3
     have b3':(x.2.2.2.1.1 != 3)=true:=bne_iff_ne.2 c3
     by_cases c5:x.2.2.2.1.1=5
     · have b5:(x.2.2.2.1.1==5)=true:=by rw [c5];rfl
       have b5':(x.2.2.2.1.1 != 5)=false:=by rw [c5];rfl
       have hlen:=ownMark_len (l.take i.toNat)
       simp only [b3,b3',b5,b5',c_t,c_f]
       rw [inc_eq (by omega) (by omega),implOwn_mark hk c5 (by omega),o_s]
       simp only []
       rw [implFits_eq hk _ (by omega),o_s]
       cases c:fitsM x.2.2.2.1 (ownMark (l.take i.toNat)) with
       | true =>
        simp only [c_t]
        rw [implApply_eq hk _ (by omega) (by simp only [];exact hp.1),o_s]
        exact ih _ _ _ (rinv_apply hp (by omega))
       | false =>
        simp only [c_f]
        exact ih _ _ _ (rinv_one hp)
     · have b5:(x.2.2.2.1.1==5)=false:=q_f c5
       have b5':(x.2.2.2.1.1 != 5)=true:=bne_iff_ne.2 c5
       simp only [b3,b3',b5,b5',c_t,c_f]
       exact ih _ _ _ hp
theorem specRegroup_eq {k:Nat} (hk:2 ^ 50≤k) (g:Ty.den TGroup) {l:PlaceL} (hl:l.length≤134217728) (hd:g.1.length≤134217728):spec_Regroup.f k g l=some (regroupM g l,()):=by
 unfold spec_Regroup.f spec_Regroup.t
 rw [rm_ok (by omega) (by decide),List.nil_append]
 have inner:∀ {own:PlaceL} {d:EntryL} (L0:PlaceL→Int→EntryL→Int→Int→EntryL→Int→Int→Option (Ty.den TGroup × Unit)) (i last code:Int),own.length≤134217728→d.length≤268435456→0≤i→i≤134217728 →
  spec_Regroup.l1 k L0 k l i 0 [] 0 0 d last code own=L0 l (i+1) [] 0 0 (applyM d own) last (codeM (applyM d own) code):=fun {own d} L0 i last code ho hd2 hi0 hi1=>by
  refine forL0 (L:=fun n j (d:EntryL)=>spec_Regroup.l1 k L0 n l i j [] 0 0 d last code own) (R:=fun q d=>L0 l (i+1) [] 0 0 (applyM d q) last (codeM (applyM d q) code)) (Ty.dflt TPlace) own (fun j d=>(d.length:Int)≤268435456+j) (fun n d hs=>?_) (fun n j d x rest h0 h1 hx hr hp ih=>?_) (n:=k) (s:=d) (by omega) (by omega)
  · change _=L0 l (i+1) [] 0 0 d last (codeM d code)
    simp (disch:=omega) only [spec_Regroup.l1,spec_Regroup.b1,decF (show ¬ ((own.length:Int)<(own.length:Int)) by omega),c_f,codeM,w64_eq]
    by_cases c:d.length > 20
    · rw [decT (by omega),if_pos c];rfl
    · rw [decF (by omega),if_neg c];rfl
  · have hsd:=stepDir_len d x
    simp (disch:=omega) only [spec_Regroup.l1,spec_Regroup.b1,decT h1,c_t,inb_eq,hx,specPut_eq hk,o_s,w64_eq]
    exact ih _ (by omega)
 have hmk:=specKept_eq hk (l:=l) (e:=l.length) (by omega) (by omega) (by omega)
 rw [Int.toNat_natCast,List.take_length] at hmk
 have key:=forL (L:=fun n i (s:EntryL × Int × Int)=>spec_Regroup.l0 k n l i [] 0 0 s.1 s.2.1 s.2.2) (R:=fun (q:PlaceL) s=>some (regroupL l q (l.length-q.length) s.1 s.2.1 s.2.2,())) (Ty.dflt TPlace) l (fun i s=>RInv s.1 s.2.2) (fun n s hs=>?_) (fun n i s x rest h0 h1 hx hr hp ih=>?_) k 0 (g.1,(g.2.1,g.2.2.1)) (by omega) (by omega) (by omega) ⟨by simp only [];omega,fun _=>by simp only [];omega⟩
 · have e:l.drop (Int.toNat 0)=l:=rfl
   rw [e,Nat.sub_self] at key
   exact key
 · obtain ⟨d,last,code⟩:=s
   simp (disch:=omega) only [spec_Regroup.l0,spec_Regroup.b0,decF,c_f,regroupL,hmk,o_s]
   cases c1:(code==0)
   · rfl
   · by_cases c2:(ownMark l).length > 0
     · rw [decT (show ((ownMark l).length:Int) > 0 by omega),decT c2];rfl
     · rw [decF (show ¬ ((ownMark l).length:Int) > 0 by omega),decF c2];rfl
 · obtain ⟨d,last,code⟩:=s
   simp only [] at hp ih
   have hi:l.length-(x::rest).length=i.toNat:=by
    have:=congrArg List.length hr
    rw [List.length_drop] at this
    omega
   have hi2:l.length-rest.length=i.toNat+1:=by rw [l_c] at hi;have:=congrArg List.length hr;rw [List.length_drop,l_c] at this;omega
   have htk:(l.take i.toNat).length≤134217728:=by rw [List.length_take];omega
   have ih:=fun a b c h=>ih (a,(b,c)) h
   simp only [hi2] at ih
   rw [hi]
   simp (disch:=omega) only [spec_Regroup.l0,spec_Regroup.b0,decT h1,c_t,inb_eq,hx,w64_eq,regroupL,hmk,o_s]
   by_cases c0:code=0
   case neg =>
    rw [show (code != 0)=true from bne_iff_ne.2 c0,show (code==0)=false from q_f c0]
    rfl
   subst c0
   simp only [show ((0:Int) != 0)=false from rfl,show ((0:Int)==0)=true from rfl,c_f,c_t]
   by_cases c3:x.2.2.2.1.1=3
   · have b3:(x.2.2.2.1.1==3)=true:=by rw [c3];rfl
     have hlen:=ownSeal_len x.2.2.2.1.2.1 (l.take i.toNat)
     simp only [b3,c_t]
     rw [specOf_eq hk _ h0 (by omega) (by omega),o_s]
     simp only []
     rw [specFits_eq hk _ (by omega),o_s]
     cases c:fitsM x.2.2.2.1 (ownSeal x.2.2.2.1.2.1 (l.take i.toNat)) with
     | true =>
      simp only [n_t,c_t,c_f]
      rw [inner _ i _ _ (by omega) hp.1 h0 (by omega)]
      exact ih _ _ _ (rinv_apply hp (by omega))
     | false =>
      simp only [n_f,c_t,c_f]
      exact ih _ _ _ hp
   · have b3:(x.2.2.2.1.1==3)=false:=q_f c3
     by_cases c5:x.2.2.2.1.1=5
     · have b5:(x.2.2.2.1.1==5)=true:=by rw [c5];rfl
       have hlen:=ownMark_len (l.take i.toNat)
       simp only [b3,b5,c_t,c_f]
       rw [specKept_eq hk h0 (by omega) (by omega),o_s]
       simp only []
       rw [specFits_eq hk _ (by omega),o_s]
       cases c:fitsM x.2.2.2.1 (ownMark (l.take i.toNat)) with
       | true =>
        simp only [n_t,c_t,c_f]
        rw [inner _ i _ _ (by omega) hp.1 h0 (by omega)]
        exact ih _ _ _ (rinv_apply hp (by omega))
       | false =>
        simp only [n_f,c_t,c_f]
        exact ih _ _ _ (rinv_one hp)
     · have b5:(x.2.2.2.1.1==5)=false:=q_f c5
       simp only [b3,b5,c_t,c_f]
       exact ih _ _ _ hp
theorem regroupL_len (all:PlaceL) (ha:all.length≤134217728):∀ (q:PlaceL) (i:Nat) (d:EntryL) (last code:Int),RInv d code→(regroupL all q i d last code).1.length≤268435456
 | [],i,d,last,code,h=>by
  unfold regroupL
  cases code==0&&decide ((ownMark all).length > 0) <;> exact h.1
 | p::q,i,d,last,code,h=>by
  have hs:=ownSeal_len p.2.2.2.1.2.1 (all.take i)
  have hm:=ownMark_len (all.take i)
  have htk:(all.take i).length≤134217728:=by rw [List.length_take];omega
  unfold regroupL
  by_cases c0:code=0
  case neg=>rw [show (code != 0)=true from bne_iff_ne.2 c0];exact h.1
  subst c0
  simp only [show ((0:Int) != 0)=false from rfl,c_f]
  cases p.2.2.2.1.1==3
  · cases p.2.2.2.1.1==5
    · exact regroupL_len all ha q _ _ _ _ h
    · cases fitsM p.2.2.2.1 (ownMark (all.take i))
      · exact regroupL_len all ha q _ _ _ _ (rinv_one h)
      · exact regroupL_len all ha q _ _ _ _ (rinv_apply h (by omega))
  · cases fitsM p.2.2.2.1 (ownSeal p.2.2.2.1.2.1 (all.take i))
    · exact regroupL_len all ha q _ _ _ _ h
    · exact regroupL_len all ha q _ _ _ _ (rinv_apply h (by omega))
theorem regroupM_len {g:Ty.den TGroup} {l:PlaceL} (hl:l.length≤134217728) (hd:g.1.length≤134217728):(regroupM g l).1.length≤268435456:=regroupL_len l hl l 0 _ _ _ ⟨by omega,fun _=>hd⟩
end Go.Proofs.YtejgkmhpmhfnbaaGreatDoor.G
namespace Go.Proofs.YtejgkmhpmhfnbaaGreatDoor.G
open Go.V
def zStore:Ty.den TStore:=((0,([],())),([],(0,(0,(0,())))))
noncomputable def segGood (d:Ty.den TDisk) (x:Int) (last:Bool):Bool:=(textM d (namedM segB x)).2&&(last||!decide ((scanM (segT d x)).2<((segT d x).size:Int)))
noncomputable def segsGood (d:Ty.den TDisk):List Int→Bool
 | []=>true
 | x::l=>segGood d x l.isEmpty&&segsGood d l
noncomputable def plOf (d:Ty.den TDisk) (x:Int):PlaceL:=placesM x (scanM (segT d x)).1
noncomputable def plAll (d:Ty.den TDisk):List Int→PlaceL
 | []=>[]
 | x::l=>plOf d x++plAll d l
noncomputable def hintAt (d:Ty.den TDisk) (x:Int):Ty.den THint:=(readHintM (textM d (namedM hintB x)).1).1
noncomputable def hinted (d:Ty.den TDisk) (x:Int):Bool:=(textM d (namedM hintB x)).2&&((readHintM (textM d (namedM hintB x)).1).2&&fitsHintM x (segT d x) (hintAt d x))
noncomputable def groupM (d:Ty.den TDisk) (ids:List Int):Ty.den TGroup :=
 bif hinted d (ids.getD 0 0) then regroupM ((hintAt d (ids.getD 0 0)).2.2.1,((hintAt d (ids.getD 0 0)).2.1,(0,()))) (plAll d (ids.drop 1)) else regroupM ([],(0,(0,()))) (plAll d ids)
noncomputable def storeOf (v:Ty.den TLive) (en:Int) (g:Ty.den TGroup) (hi:Int):Ty.den TStore:=(v,(g.1,(w64 (g.2.1+1),(en,(hi,())))))
noncomputable def endM (v:Ty.den TLive) (en:Int) (x:Ty.den TDisk) (g:Ty.den TGroup) (hi:Int):Ty.den TStore × RD :=
 bif g.2.2.1 != 0 then (zStore,(x,3)) else bif (sweepR v.2.1 x).2 != 0 then (zStore,((sweepR v.2.1 x).1,toldM (sweepR v.2.1 x).2)) else
 (storeOf v en g hi,((sweepR v.2.1 x).1,0))
noncomputable def foundM (v:Ty.den TLive) (d:Ty.den TDisk):Ty.den TStore × RD :=
 bif !segsGood d v.2.1 then (zStore,(d,3)) else
 bif (fixR (lastI v.2.1) d).2 != 0 then (zStore,((fixR (lastI v.2.1) d).1,toldM (fixR (lastI v.2.1) d).2)) else
 endM v (scanM (segT d (lastI v.2.1))).2 (fixR (lastI v.2.1) d).1 (groupM (fixR (lastI v.2.1) d).1 v.2.1) (bif hinted (fixR (lastI v.2.1) d).1 (v.2.1.getD 0 0) then v.2.1.getD 0 0 else 0)
def live1:Ty.den TLive:=(2,([1],()))
noncomputable def firstR (d:Ty.den TDisk):RD:=seqR (seqR (sweepR [] d) fun x=>creM x (namedM segB 1)) (putLiveR live1)
noncomputable def firstM (d:Ty.den TDisk):Ty.den TStore × RD :=
 bif (firstR d).2==0 then ((live1,([],(1,(0,(0,()))))),((firstR d).1,0)) else (zStore,((firstR d).1,toldM (firstR d).2))
noncomputable def openM (d:Ty.den TDisk):Ty.den TStore × RD :=
 bif !diskM d then (zStore,(d,4)) else bif d.2.2.2.1 then (zStore,(d,1)) else
 bif !(textM d liveB).2 then firstM d else
 bif !(readLiveM (textM d liveB).1).2 then (zStore,(d,3)) else foundM (readLiveM (textM d liveB).1).1 d
def oS (q:Ty.den TStore × RD):Ty.den TStore × Ty.den TDisk × Int × Unit:=(q.1,(q.2.1,(q.2.2,())))
theorem adj_ids {lim:Int}:∀ (l:List Int) (p:Option Int),adj (idOk lim) p l=true→(∀ q,p=some q→∀ x ∈ l,q<x)∧l.Pairwise (fun a b=>a<b)
 | [],p,_=>⟨fun q _ x hx=>(by cases hx),List.Pairwise.nil⟩
 | y::l,p,h=>by
  unfold adj at h
  rw [b_a] at h
  obtain ⟨h1,h2⟩:=h
  obtain ⟨a,b⟩:=adj_ids l (some y) h2
  have hy:∀ q,p=some q→q<y:=fun q hq=>by
   subst hq
   unfold idOk at h1
   rw [b_a] at h1
   exact of_decide_eq_true h1.2
  refine ⟨fun q hq x hx=>?_,List.pairwise_cons.2 ⟨a y rfl,b⟩⟩
  rcases List.mem_cons.1 hx with e | e
  · rw [e];exact hy q hq
  · have:=a y rfl x e
    have:=hy q hq
    omega
theorem live_rise {v:Ty.den TLive} (h:liveM v=true):v.2.1.Pairwise (fun a b=>a<b):=by
 unfold liveM at h
 rw [b_a,b_a] at h
 exact (adj_ids _ _ h.2.2).2
theorem getD_app {α:Type} {l m:List α} {n:Nat} {z:α} (h:l.length≤n):(l++m).getD n z=m.getD (n-l.length) z:=by
 simp [List.getD,List.getElem?_append_right h]
theorem last_is {ids:List Int} (hp:ids.Pairwise (fun a b=>a<b)) {i:Nat} {x:Int} {rest:List Int} (h:ids.drop i=x::rest):(x==lastI ids)=rest.isEmpty:=by
 have hi:=drop_lt h
 have hlen:=congrArg List.length h
 rw [List.length_drop,l_c] at hlen
 have e:ids=ids.take i++(x::rest):=by rw [← h,List.take_append_drop]
 have hl:lastI ids=(x::rest).getD rest.length 0:=by
  unfold lastI
  have ht:(ids.take i).length=i:=by rw [List.length_take];omega
  conv=>lhs;rw [e]
  rw [getD_app (by rw [ht,l_a,ht,l_c];omega),ht,l_a,ht,l_c]
  congr 1
  omega
 cases rest with
 | nil=>rw [hl];exact beq_self_eq_true x
 | cons y r =>
  rw [hl]
  have hm:(x::y::r).getD (y::r).length 0 ∈ y::r:=by
   show (y::r).getD r.length 0 ∈ y::r
   exact getD_mem (by rw [l_c];omega)
  have hpd:(x::y::r).Pairwise (fun a b=>a<b):=by rw [← h];exact hp.drop
  have:=(List.pairwise_cons.1 hpd).1 _ hm
  exact q_f (by omega)
theorem segT_size {d:Ty.den TDisk} (h:DR d) (x:Int):(segT d x).size≤100000:=by
 have:=textM_size d (namedM segB x)
 have h2:=h.use
 have h3:=h.cap1
 unfold segT
 omega
theorem plOf_len {d:Ty.den TDisk} (h:DR d) (x:Int):(plOf d x).length≤100000:=by
 have h1:=segT_size h x
 have h2:=scanM_len (segT d x)
 unfold plOf
 rw [placesM_len]
 omega
theorem plAll_len {d:Ty.den TDisk} (h:DR d):∀ l:List Int,(plAll d l).length≤100000*l.length
 | []=>Nat.zero_le _
 | x::l=>by
  have h1:=plOf_len h x
  have h2:=plAll_len h l
  unfold plAll
  rw [l_a,l_c]
  omega
theorem specFirst_eq {k:Nat} (hk:2 ^ 50≤k) {d:Ty.den TDisk} (h:DR d):spec_l11First_g.f k d=some (oS (firstM d)):=by
 have h1:=sweep_DR [] d h
 have hv:liveM live1=true:=by decide
 unfold spec_l11First_g.f spec_l11First_g.t firstM firstR
 rw [specSweep_eq hk h (by decide),o_s]
 simp only [show ((0,(([]:List Int),())):Ty.den TLive).2.1=[] from rfl]
 generalize sweepR [] d=r at h1 ⊢
 unfold seqR
 simp only [bne,toldM_zero]
 cases c:r.2==0 with
 | false=>simp only [n_f,c_t,c_f,c];rfl
 | true =>
  simp only [n_t,c_f,c_t]
  rw [specSegName_eq hk,o_s]
  simp only []
  have hn:=named_small (.inl rfl:segB=segB∨segB=hintB) 1
  rw [specCre_eq hk h1.sz (by omega),o_s]
  simp only [specCode_eq,o_s]
  cases c2:(creM r.1 (namedM segB 1)).2==0 with
  | false=>simp only [n_f,c_t,c_f,c2];rfl
  | true =>
   simp only [n_t,c_f,c_t]
   rw [show ((2,([1],())):Ty.den TLive)=live1 from rfl,specPutLive_eq hk (cre_DR h1 _) hv,o_s]
   simp only [toldM_zero]
   cases c3:(putLiveR live1 (creM r.1 (namedM segB 1)).1).2==0 <;> rfl
def finS (k:Nat) (v:Ty.den TLive) (en:Int) (x:Ty.den TDisk) (hi:Int) (dir:EntryL) (la:Int) (pl:PlaceL):Option (Ty.den TStore × Ty.den TDisk × Int × Unit) :=
 (Option.bind (spec_Regroup.f k (dir,(la,(0,()))) pl) fun r33=>(bif (r33.1.2.2.1 != 0) then (some (zStore,(x,(3,())))) else
 (Option.bind (spec_l11Sweep_g.f k x v) fun r34=>(bif (r34.2.1 != 0) then (some (zStore,r34)) else (some ((v,(r33.1.1,((w64 (r33.1.2.1+1)),(en,(hi,()))))),(r34.1,(0,()))))))))
theorem finS_eq {k:Nat} (hk:2 ^ 50≤k) {v:Ty.den TLive} (hv:v.2.1.length≤60) (en:Int) {x:Ty.den TDisk} (h:DR x) (hi:Int) {dir:EntryL} (hd:dir.length≤1000) (la:Int) {pl:PlaceL} (hp:pl.length≤100000000) :
 finS k v en x hi dir la pl=some (oS (endM v en x (regroupM (dir,(la,(0,()))) pl) hi)):=by
 unfold finS endM
 rw [specRegroup_eq hk _ (by omega) (by show dir.length≤_;omega),o_s]
 simp only [bne]
 cases (regroupM (dir,(la,(0,()))) pl).2.2.1==0 with
 | false=>rfl
 | true =>
  simp only [n_t,c_f]
  rw [specSweep_eq hk h (by omega),o_s]
  simp only [toldM_zero]
  cases (sweepR v.2.1 x).2==0 <;> rfl
theorem specO1 {k:Nat} (hk:2 ^ 50≤k) {v:Ty.den TLive} (hv:v.2.1.length≤60) (en:Int) {x:Ty.den TDisk} (h:DR x) (hi:Int) (dir:EntryL) (la:Int) :
 ∀ (n:Nat) (i:Int) (pl:PlaceL),0≤i→i≤(v.2.1.length:Int)→(v.2.1.length:Int)-i<n→1≤i∧(pl.length:Int)≤100000*i →
 spec_Open_g.l1 k n i [] [] 0 0 0 0 [] 0 0 false [] [] 0 0 0 0 v.2.1 v.1 x.1 x.2.1 x.2.2.1 x.2.2.2.1 [] v.1 0 en hi dir la 0 pl=finS k v en x hi dir la (pl++plAll x (v.2.1.drop i.toNat)):=by
 have hl:=h.sz.l
 have hu:=h.sz.u
 have hn:=h.sz.n
 refine forL (L:=fun n i pl=>spec_Open_g.l1 k n i [] [] 0 0 0 0 [] 0 0 false [] [] 0 0 0 0 v.2.1 v.1 x.1 x.2.1 x.2.2.1 x.2.2.2.1 [] v.1 0 en hi dir la 0 pl) (R:=fun r pl=>finS k v en x hi dir la (pl++plAll x r)) (Ty.dflt (.int .i64)) v.2.1 (fun i pl=>1≤i∧(pl.length:Int)≤100000*i) (fun n pl hp=>?_) (fun n i pl y rest h0 h1 hy hr hp ih=>?_)
 · simp only [spec_Open_g.l1,spec_Open_g.b1]
   rw [decF (by omega),c_f,show plAll x []=[] from rfl,List.append_nil]
   rfl
 · have hs:=segT_size h y
   have hpl:=plOf_len h y
   have ht:=textM_size x (namedM hintB y)
   have ih:=ih (pl++plOf x y) ⟨by omega,by rw [l_a];omega⟩
   simp only [spec_Open_g.l1,spec_Open_g.b1]
   rw [decT h1,c_t,inb_eq h0 h1,hy,specSegName_eq hk,o_s]
   simp only []
   rw [show (x.1,(x.2.1,(x.2.2.1,(x.2.2.2.1,()))))=x from rfl,specText_eq hk (by omega) (by omega) (by omega),o_s,inb_eq h0 h1,specHintName_eq hk,o_s]
   simp only []
   rw [specText_eq hk (by omega) (by omega) (by omega),o_s]
   simp only []
   rw [specReadHint_eq hk (by omega),o_s,show (i==0)=false from q_f (by omega)]
   simp only [c_f]
   rw [inb_eq h0 h1,specPlaces_eq hk y (by show (segT x y).size≤_;omega),o_s]
   simp only []
   rw [rm_ok (by show pl.length+(plOf x y).length≤_;omega) (by decide),w64_eq (n:=i+1) (by omega) (by omega)]
   refine ih.trans ?_
   rw [a_a]
   rfl
theorem specO1_all {k:Nat} (hk:2 ^ 50≤k) {v:Ty.den TLive} (hv:v.2.1.length≤60) (hv1:1≤v.2.1.length) (en:Int) {x:Ty.den TDisk} (h:DR x) :
 spec_Open_g.l1 k k 0 [] [] 0 0 0 0 [] 0 0 false [] [] 0 0 0 0 v.2.1 v.1 x.1 x.2.1 x.2.2.1 x.2.2.2.1 [] v.1 0 en 0 [] 0 0 []=some (oS (endM v en x (groupM x v.2.1) (bif hinted x (v.2.1.getD 0 0) then v.2.1.getD 0 0 else 0))):=by
 have hl:=h.sz.l
 have hu:=h.sz.u
 have hn:=h.sz.n
 obtain ⟨n,hn2⟩:∃ q,k=q+1:=⟨k-1,by omega⟩
 have hs:=segT_size h (v.2.1.getD 0 0)
 have hpl:=plOf_len h (v.2.1.getD 0 0)
 have ht:=textM_size x (namedM hintB (v.2.1.getD 0 0))
 have hpa:=plAll_len h (v.2.1.drop 1)
 have hpb:=plAll_len h v.2.1
 rw [List.length_drop] at hpa
 have hh:=readHint_len (s:=(textM x (namedM hintB (v.2.1.getD 0 0))).1)
 have step:=fun hi dir la pl=>specO1 hk hv en h hi dir la n 1 pl (by omega) (by omega) (by omega)
 refine (congrArg (fun z=>spec_Open_g.l1 k z 0 [] [] 0 0 0 0 [] 0 0 false [] [] 0 0 0 0 v.2.1 v.1 x.1 x.2.1 x.2.2.1 x.2.2.2.1 [] v.1 0 en 0 [] 0 0 []) hn2).trans ?_
 have hsplit:v.2.1=v.2.1.getD 0 0::v.2.1.drop 1:=by
  have:=drop_cons (0:Int) (l:=v.2.1) (i:=0) (by omega)
  rw [List.drop_zero] at this
  exact this
 simp only [spec_Open_g.l1,spec_Open_g.b1]
 rw [decT (by omega),c_t,inb_eq (by omega) (by omega),show List.getD v.2.1 (Int.toNat 0) (Ty.dflt (.int .i64))=v.2.1.getD 0 0 from rfl,specSegName_eq hk,o_s]
 simp only []
 rw [show (x.1,(x.2.1,(x.2.2.1,(x.2.2.2.1,()))))=x from rfl,specText_eq hk (by omega) (by omega) (by omega),o_s,inb_eq (by omega) (by omega),specHintName_eq hk,o_s]
 simp only []
 rw [specText_eq hk (by omega) (by omega) (by omega),o_s]
 simp only []
 rw [specReadHint_eq hk (by omega),o_s,show ((0:Int)==0)=true from rfl]
 simp only [c_t]
 rw [specPlaces_eq hk (v.2.1.getD 0 0) (by show (segT x (v.2.1.getD 0 0)).size≤_;omega),o_s]
 simp only []
 rw [rm_ok (by show ([]:PlaceL).length+(plOf x (v.2.1.getD 0 0)).length≤_;rw [List.length_nil];omega) (by decide),w64_eq (n:=(0:Int)+1) (by omega) (by omega),inb_eq (by omega) (by omega)]
 rw [show List.getD v.2.1 0 (Ty.dflt (.int .i64))=v.2.1.getD 0 0 from rfl]
 rw [specHintFits_eq hk _ (by show (segT x (v.2.1.getD 0 0)).size≤_;omega),o_s]
 simp only []
 have no:spec_Open_g.l1 k n (0+1) [] [] 0 0 0 0 [] 0 0 false [] [] 0 0 0 0 v.2.1 v.1 x.1 x.2.1 x.2.2.1 x.2.2.2.1 [] v.1 0 en 0 [] 0 0 ([]++placesM (v.2.1.getD 0 0) (scanM (textM x (namedM segB (v.2.1.getD 0 0))).1).1)=some (oS (endM v en x (regroupM ([],(0,(0,()))) (plAll x v.2.1)) 0)):=by
  refine (step 0 [] 0 (plOf x (v.2.1.getD 0 0)) ⟨by omega,by omega⟩).trans ?_
  rw [show plOf x (v.2.1.getD 0 0)++plAll x (v.2.1.drop (Int.toNat 1))=plAll x (v.2.1.getD 0 0::v.2.1.drop 1) from rfl,← hsplit]
  exact finS_eq hk hv en h 0 (by simp) 0 (by omega)
 unfold groupM hinted hintAt
 show (bif (textM x (namedM hintB (v.2.1.getD 0 0))).2 then (bif (readHintM (textM x (namedM hintB (v.2.1.getD 0 0))).1).2 then (bif fitsHintM (v.2.1.getD 0 0) (segT x (v.2.1.getD 0 0)) (readHintM (textM x (namedM hintB (v.2.1.getD 0 0))).1).1 then _ else _) else _) else _)=_
 cases (textM x (namedM hintB (v.2.1.getD 0 0))).2 with
 | false=>simp only [c_f,Bool.false_and];rw [inb_eq (by omega) (by omega)];exact no
 | true =>
  cases (readHintM (textM x (namedM hintB (v.2.1.getD 0 0))).1).2 with
  | false=>simp only [c_f,c_t,Bool.false_and,Bool.true_and];rw [inb_eq (by omega) (by omega)];exact no
  | true =>
   cases fitsHintM (v.2.1.getD 0 0) (segT x (v.2.1.getD 0 0)) (readHintM (textM x (namedM hintB (v.2.1.getD 0 0))).1).1 with
   | false=>simp only [c_f,c_t,Bool.true_and];rw [inb_eq (by omega) (by omega)];exact no
   | true =>
    simp only [c_t,Bool.true_and]
    rw [inb_eq (by omega) (by omega)]
    refine (step (v.2.1.getD 0 0) (readHintM (textM x (namedM hintB (v.2.1.getD 0 0))).1).1.2.2.1 (readHintM (textM x (namedM hintB (v.2.1.getD 0 0))).1).1.2.1 [] ⟨by omega,by simp⟩).trans ?_
    rw [List.nil_append,show (1:Int).toNat=1 from rfl]
    exact finS_eq hk hv en h _ (by omega) _ (by omega)
theorem specO12 (k:Nat):∀ n,spec_Open_g.l2 k n=spec_Open_g.l1 k n
 | 0=>rfl
 | n+1=>by show spec_Open_g.b2 k (spec_Open_g.l2 k n)=spec_Open_g.b1 k (spec_Open_g.l1 k n);rw [specO12 k n];rfl
theorem specO0 {k:Nat} (hk:2 ^ 50≤k) {v:Ty.den TLive} (hv:liveM v=true) {d:Ty.den TDisk} (h:DR d) :
 spec_Open_g.l0 k k (lastI v.2.1) 0 d.1 d.2.1 d.2.2.1 d.2.2.2.1 [] [] 0 0 0 0 [] 0 0 false [] [] 0 0 0 0 v.2.1 v.1=some (oS (foundM v d)):=by
 obtain ⟨_,_,hv1,hv2,_⟩:=live_facts (nx:=v.1) (ids:=v.2.1) hv
 have hrise:=live_rise hv
 have hl:=h.sz.l
 have hu:=h.sz.u
 have hn:=h.sz.n
 have hs:=segT_size h (lastI v.2.1)
 have hsc:=scanM_len (segT d (lastI v.2.1))
 have hfin:∀ n:Nat,spec_Open_g.l0 k (n+1) (lastI v.2.1) (v.2.1.length:Int) d.1 d.2.1 d.2.2.1 d.2.2.2.1 [] [] 0 0 0 0 [] 0 0 false [] [] 0 0 0 0 v.2.1 v.1 =
  some (oS (bif (fixR (lastI v.2.1) d).2 != 0 then (zStore,((fixR (lastI v.2.1) d).1,toldM (fixR (lastI v.2.1) d).2)) else endM v (scanM (segT d (lastI v.2.1))).2 (fixR (lastI v.2.1) d).1 (groupM (fixR (lastI v.2.1) d).1 v.2.1) (bif hinted (fixR (lastI v.2.1) d).1 (v.2.1.getD 0 0) then v.2.1.getD 0 0 else 0))):=fun n=>by
  simp only [spec_Open_g.l0,spec_Open_g.b0]
  rw [decF (by omega),c_f,specSegName_eq hk,o_s]
  simp only []
  rw [show (d.1,(d.2.1,(d.2.2.1,(d.2.2.2.1,()))))=d from rfl,specText_eq hk (by omega) (by omega) (by omega),o_s]
  simp only [show (textM d (namedM segB (lastI v.2.1))).1=segT d (lastI v.2.1) from rfl]
  rw [specScan_eq hk (by omega),o_s,specCopyD_eq k h.sz,o_s,specO12]
  simp only []
  show (bif decide ((scanM (segT d (lastI v.2.1))).2<((segT d (lastI v.2.1)).size:Int)) then _ else _)=_
  unfold fixR
  cases decide ((scanM (segT d (lastI v.2.1))).2<((segT d (lastI v.2.1)).size:Int)) with
  | true =>
   simp only [c_t]
   simp only [o_s]
   rw [specTru_eq hk h.sz,o_s]
   simp only [specCode_eq,o_s]
   unfold seqR
   simp only [bne]
   show (bif !((truM d (namedM segB (lastI v.2.1)) (scanM (segT d (lastI v.2.1))).2).2==0) then _ else _)=_
   have h1:=tru_DR h (namedM segB (lastI v.2.1)) (scanM (segT d (lastI v.2.1))).2
   generalize truM d (namedM segB (lastI v.2.1)) (scanM (segT d (lastI v.2.1))).2=r at h1
   cases c:r.2==0 with
   | false=>simp only [n_f,c_t,c_f,c];rfl
   | true =>
    simp only [n_t,c_f,c_t]
    rw [specSyn_eq hk h1.sz,o_s]
    simp only []
    have h2:=syn_DR h1 (namedM segB (lastI v.2.1))
    generalize synM r.1 (namedM segB (lastI v.2.1))=q at h2
    cases c2:q.2==0 with
    | false=>rfl
    | true =>
     simp only [n_t,c_f]
     exact specO1_all hk hv2 hv1 _ h2
  | false =>
   simp only [c_f]
   simp only [o_s]
   rw [specSyn_eq hk h.sz,o_s]
   simp only [specCode_eq,o_s]
   unfold seqR
   simp only [bne,show ((0:Int)==0)=true from rfl,c_t]
   have h2:=syn_DR h (namedM segB (lastI v.2.1))
   generalize synM d (namedM segB (lastI v.2.1))=q at h2
   cases c2:q.2==0 with
   | false=>rfl
   | true =>
    simp only [n_t,c_f]
    exact specO1_all hk hv2 hv1 _ h2
 unfold foundM
 refine (forL0 (L:=fun n i (_:Unit)=>spec_Open_g.l0 k n (lastI v.2.1) i d.1 d.2.1 d.2.2.1 d.2.2.2.1 [] [] 0 0 0 0 [] 0 0 false [] [] 0 0 0 0 v.2.1 v.1) (R:=fun r _=>bif segsGood d r then some (oS (bif (fixR (lastI v.2.1) d).2 != 0 then (zStore,((fixR (lastI v.2.1) d).1,toldM (fixR (lastI v.2.1) d).2)) else endM v (scanM (segT d (lastI v.2.1))).2 (fixR (lastI v.2.1) d).1 (groupM (fixR (lastI v.2.1) d).1 v.2.1) (bif hinted (fixR (lastI v.2.1) d).1 (v.2.1.getD 0 0) then v.2.1.getD 0 0 else 0))) else some (oS (zStore,(d,3)))) (Ty.dflt (.int .i64)) v.2.1 (fun _ _=>True) (fun n _ _=>hfin n) (fun n i _ y rest h0 h1 hy hr hp ih=>?_) (n:=k) (s:=()) (by omega) trivial).trans (by cases segsGood d v.2.1 <;> rfl)
 have ih:=ih () trivial
 have hsy:=segT_size h y
 have hlast:=last_is hrise hr
 simp only [spec_Open_g.l0,spec_Open_g.b0]
 rw [decT h1,c_t,inb_eq h0 h1,hy,specSegName_eq hk,o_s]
 simp only []
 rw [show (d.1,(d.2.1,(d.2.2.1,(d.2.2.2.1,()))))=d from rfl,specText_eq hk (by omega) (by omega) (by omega),o_s]
 simp only []
 rw [specScan_eq hk (by show (segT d y).size≤_;omega),o_s,specCopyD_eq k h.sz,o_s,inb_eq h0 h1,w64_eq (n:=i+1) (by omega) (by omega),ih]
 rw [show segsGood d (y::rest)=(segGood d y rest.isEmpty&&segsGood d rest) from rfl]
 unfold segGood bne
 rw [hlast]
 show (bif !(textM d (namedM segB y)).2 then _ else bif !rest.isEmpty then (bif decide ((scanM (segT d y)).2<((segT d y).size:Int)) then _ else _) else _)=_
 cases (textM d (namedM segB y)).2 with
 | false=>rfl
 | true =>
  cases rest.isEmpty with
  | true=>rfl
  | false=>cases decide ((scanM (segT d y)).2<((segT d y).size:Int)) <;> rfl
theorem specOpen_eq {k:Nat} (hk:2 ^ 50≤k) {d:Ty.den TDisk} (hd:DSz d):spec_Open_g.f k d=some (oS (openM d)):=by
 have hl:=hd.l
 have hu:=hd.u
 have hn:=hd.n
 unfold spec_Open_g.f spec_Open_g.t openM
 rw [specDisk_eq hk (by omega) (by omega),o_s,specCopyD_eq k hd]
 cases c:diskM d with
 | false=>rfl
 | true =>
  have h:=disk_iff.1 c
  simp only [n_t,c_f,o_s]
  cases cdn:d.2.2.2.1 with
  | true=>rfl
  | false =>
   simp only [c_f]
   rw [show (⟨#[108,105,118,101]⟩:ByteArray)=liveB from rfl,specText_eq hk (by omega) (by omega) (by omega),o_s]
   simp only []
   cases (textM d liveB).2 with
   | false =>
    simp only [n_f,c_t]
    rw [specFirst_eq hk h]
    rfl
   | true =>
    have hz:=textM_size d liveB
    simp only [n_t,c_f]
    rw [specReadLive_eq hk (by omega),o_s]
    simp only []
    rcases undo_cases (fun v=>liveM v=true) showLiveM ((0,([],())):Ty.den TLive) (textM d liveB).1 with ⟨v,h1,_,e⟩ | e
    · rw [show readLiveM (textM d liveB).1=(v,true) from e]
      simp only [n_t,c_f]
      obtain ⟨_,_,hv1,hv2,_⟩:=live_facts (nx:=v.1) (ids:=v.2.1) h1
      have w:w64 ((v.2.1.length:Int)-1)=((v.2.1.length-1:Nat):Int):=by rw [w64_eq (by omega) (by omega)];omega
      rw [w,n_n,inb_eq (by omega) (by omega)]
      have:=specO0 hk h1 h
      rw [cdn] at this
      exact this
    · rw [show readLiveM (textM d liveB).1=((0,([],())),false) from e]
      rfl
end Go.Proofs.YtejgkmhpmhfnbaaGreatDoor.G
namespace Go.Proofs.YtejgkmhpmhfnbaaGreatDoor.G
open Go.V
noncomputable def lastEnd (d:Ty.den TDisk):Int→List Int→Int
 | e,[]=>e
 | _,x::l=>lastEnd d (scanM (segT d x)).2 l
theorem lastEnd_is (d:Ty.den TDisk):∀ (l:List Int) (e:Int),l≠[]→lastEnd d e l=(scanM (segT d (l.getD (l.length-1) 0))).2
 | [],e,h=>absurd rfl h
 | [x],e,_=>rfl
 | x::y::l,e,_=>by
  show lastEnd d (scanM (segT d x)).2 (y::l)=_
  rw [lastEnd_is d (y::l) _ (by simp)]
  rfl
def flatP:List PlaceL→PlaceL
 | []=>[]
 | a::l=>a++flatP l
theorem flat_map (d:Ty.den TDisk):∀ l:List Int,flatP (l.map (plOf d))=plAll d l
 | []=>rfl
 | x::l=>by show plOf d x++flatP (l.map (plOf d))=plOf d x++plAll d l;rw [flat_map d l]
theorem plAll_same {d x:Ty.den TDisk} (h:∀ s,scanM (textM x s).1=scanM (textM d s).1):∀ l:List Int,plAll x l=plAll d l
 | []=>rfl
 | y::l=>by
  unfold plAll plOf segT
  rw [h,plAll_same h l]
theorem implScanAll_eq {k:Nat} (hk:2 ^ 50≤k) (r:RD) (h:DR r.1) {v:Ty.den TLive} (hv:v.2.1.length≤60):impl_worker__scanAll.f k (wO r) v =
 some (wO r,(bif segsGood r.1 v.2.1 then (v.2.1.map (plOf r.1),(lastEnd r.1 0 v.2.1,(true,()))) else ([],(0,(false,()))))):=by
 have hl:=h.sz.l
 have hu:=h.sz.u
 have hn:=h.sz.n
 unfold impl_worker__scanAll.f impl_worker__scanAll.t
 refine (forL0 (L:=fun n i (s:Int × List PlaceL)=>impl_worker__scanAll.l0 k n s.1 v.2.1 v.2.1.length i r.1.1 r.1.2.1 r.1.2.2.1 r.1.2.2.2.1 r.2 v.1 v.2.1 s.2) (R:=fun q s=>some (wO r,(bif segsGood r.1 q then (s.2++q.map (plOf r.1),(lastEnd r.1 s.1 q,(true,()))) else ([],(0,(false,())))))) (Ty.dflt (.int .i64)) v.2.1 (fun i s=>(s.2.length:Int)≤i) (fun n s hs=>?_) (fun n i s y rest h0 h1 hy hr hs ih=>?_) (n:=k) (s:=(0,[])) (by omega) (by simp)).trans (by rw [List.nil_append])
 · simp only [impl_worker__scanAll.l0,impl_worker__scanAll.b0]
   rw [decF (by omega),c_f,show segsGood r.1 []=true from rfl,List.map_nil,List.append_nil]
   rfl
 · have hsy:=segT_size h y
   have hsc:=scanM_len (segT r.1 y)
   have hlast:=last_iff h0 hr
   have ih:=ih ((scanM (segT r.1 y)).2,s.2++[plOf r.1 y]) (by simp only [len_snoc];omega)
   simp only [] at ih hs
   simp only [impl_worker__scanAll.l0,impl_worker__scanAll.b0]
   rw [decT h1,c_t,inb_eq h0 h1,hy,implSegName_eq k,o_s]
   simp only []
   rw [show (r.1.1,(r.1.2.1,(r.1.2.2.1,(r.1.2.2.2.1,()))))=r.1 from rfl,implText_eq hk (by omega) (by omega) (by omega),o_s]
   simp only [show (textM r.1 (namedM segB y)).1=segT r.1 y from rfl]
   rw [implScan_eq hk (by omega),o_s]
   simp only []
   rw [implPlaced_eq hk y (by omega),o_s]
   simp only []
   rw [rm_ok (by omega) (by decide),w64_eq (n:=i+1) (by omega) (by omega),w64_eq (n:=(v.2.1.length:Int)-1) (by omega) (by omega)]
   rw [show placesM y (scanM (segT r.1 y)).1=plOf r.1 y from rfl,ih]
   rw [show segsGood r.1 (y::rest)=(segGood r.1 y rest.isEmpty&&segsGood r.1 rest) from rfl]
   unfold segGood
   rw [hlast]
   have e1:((scanM (segT r.1 y)).2 != ((segT r.1 y).size:Int))=decide ((scanM (segT r.1 y)).2<((segT r.1 y).size:Int)):=by
    by_cases q:(scanM (segT r.1 y)).2<((segT r.1 y).size:Int)
    · rw [decT q];exact bne_iff_ne.2 (by omega)
    · rw [decF q]
      have:(scanM (segT r.1 y)).2=((segT r.1 y).size:Int):=by omega
      rw [this]
      simp
   rw [e1]
   have e2:decide (i<(v.2.1.length:Int)-1)=!decide (i+1=(v.2.1.length:Int)):=by
    by_cases q:i+1=(v.2.1.length:Int)
    · rw [decT q,decF (by omega)];rfl
    · rw [decF q,decT (by omega)];rfl
   rw [e2]
   have e3:s.2++[plOf r.1 y]++rest.map (plOf r.1)=s.2++(y::rest).map (plOf r.1):=by rw [a_a];rfl
   rw [e3]
   cases (textM r.1 (namedM segB y)).2 with
   | false=>rfl
   | true =>
    cases decide (i+1=(v.2.1.length:Int)) with
    | true=>rfl
    | false=>cases decide ((scanM (segT r.1 y)).2<((segT r.1 y).size:Int)) <;> rfl
theorem implHinted_eq {k:Nat} (hk:2 ^ 50≤k) (r:RD) (h:DR r.1) (id:Int):impl_worker__hinted.f k (wO r) id =
 some (wO r,((bif hinted r.1 id then ((hintAt r.1 id).2.2.1,((hintAt r.1 id).2.1,(0,()))) else ([],(0,(0,())))),(hinted r.1 id,()))):=by
 have hl:=h.sz.l
 have hu:=h.sz.u
 have hn:=h.sz.n
 have ht:=textM_size r.1 (namedM hintB id)
 have hs:=segT_size h id
 unfold impl_worker__hinted.f impl_worker__hinted.t hinted hintAt
 rw [implHintName_eq,o_s]
 simp only [show (wO r).1=r.1 from rfl]
 rw [implText_eq hk (by omega) (by omega) (by omega),o_s]
 simp only []
 rw [implReadHint_eq hk (by omega),o_s,implSegName_eq,o_s]
 simp only []
 rw [implText_eq hk (by omega) (by omega) (by omega),o_s]
 simp only [show (textM r.1 (namedM segB id)).1=segT r.1 id from rfl]
 rw [implHintFits_eq hk _ (by omega),o_s]
 simp only []
 cases (textM r.1 (namedM hintB id)).2 with
 | false=>rfl
 | true =>
  cases (readHintM (textM r.1 (namedM hintB id)).1).2 with
  | false=>rfl
  | true=>cases fitsHintM id (segT r.1 id) (readHintM (textM r.1 (namedM hintB id)).1).1 <;> rfl
def finI (k:Nat) (v:Ty.den TLive) (en:Int) (x:Ty.den TDisk) (hi:Int) (dir:EntryL) (la:Int) (pl:PlaceL):Option (Ty.den Tworker × Ty.den TStore × Unit) :=
 (Option.bind (impl_Regroup.f k (dir,(la,(0,()))) pl) fun r9=>(bif (r9.1.2.2.1 != 0) then (some ((x,(3,())),(zStore,()))) else
 (Option.bind (impl_worker__orphans.f k (x,(0,())) v) fun r10=>(some (r10.1,((v,(r9.1.1,((w64 (r9.1.2.1+1)),(en,(hi,()))))),()))))))
def OkI (q:Ty.den TStore × RD) (o:Option (Ty.den Tworker × Ty.den TStore × Unit)):Prop:=∃ st,o=some (wO q.2,(st,()))∧(q.2.2=0→st=q.1)∧(q.2.2≠0→q.1=zStore)
theorem toldM_ne {c:Int} (h:(c==0)=false):toldM c≠0:=fun q=>by
 have:=toldM_zero c
 rw [q,h] at this
 cases this
theorem finI_eq {k:Nat} (hk:2 ^ 50≤k) {v:Ty.den TLive} (hv:v.2.1.length≤60) (en:Int) {x:Ty.den TDisk} (h:DR x) (hi:Int) {dir:EntryL} (hd:dir.length≤1000) (la:Int) {pl:PlaceL} (hp:pl.length≤100000000) :
 OkI (endM v en x (regroupM (dir,(la,(0,()))) pl) hi) (finI k v en x hi dir la pl):=by
 unfold finI endM
 rw [implRegroup_eq hk _ (by omega) (by show dir.length≤_;omega),o_s]
 simp only [bne]
 cases (regroupM (dir,(la,(0,()))) pl).2.2.1==0 with
 | false=>exact ⟨zStore,rfl,fun q=>(by cases q),fun _=>rfl⟩
 | true =>
  simp only [n_t,c_f]
  rw [show impl_worker__orphans.f k (x,(0,())) v=_ from implW_orph hk (x,0) h (by omega),o_s]
  cases c:(sweepR v.2.1 x).2==0 with
  | true =>
   refine ⟨storeOf v en (regroupM (dir,(la,(0,()))) pl) hi,?_,fun _=>rfl,fun q=>absurd rfl q⟩
   show some (wO (wk (sweepR v.2.1) (x,0)),_)=some (wO ((sweepR v.2.1 x).1,0),_)
   unfold wk
   simp only [beq_self_eq_true,c_t]
   rw [q_t c]
   rfl
  | false=>exact ⟨_,rfl,fun q=>absurd q (toldM_ne c),fun _=>rfl⟩
theorem implF0 {k:Nat} (hk:2 ^ 50≤k) {v:Ty.den TLive} (en:Int) (x:Ty.den TDisk) (hi:Int) (dir:EntryL) (la:Int) {al:List PlaceL} (hal:∀ a ∈ al,a.length≤100000) (hz:al.length≤60) :
 impl_worker__found.l0 k k al al.length 0 x.1 x.2.1 x.2.2.1 x.2.2.2.1 0 [] [] 0 0 0 0 v.2.1 v.1 [] v.1 0 en hi dir la 0 []=finI k v en x hi dir la (flatP al):=by
 refine (forL0 (L:=fun n i pl=>impl_worker__found.l0 k n al al.length i x.1 x.2.1 x.2.2.1 x.2.2.2.1 0 [] [] 0 0 0 0 v.2.1 v.1 [] v.1 0 en hi dir la 0 pl) (R:=fun r pl=>finI k v en x hi dir la (pl++flatP r)) (Ty.dflt (.slice TPlace)) al (fun i pl=>(pl.length:Int)≤100000*i) (fun n pl hp=>?_) (fun n i pl y rest h0 h1 hy hr hp ih=>?_) (n:=k) (s:=[]) (by omega) (by simp)).trans (by rw [List.nil_append])
 · simp only [impl_worker__found.l0,impl_worker__found.b0]
   rw [decF (by omega),c_f,show flatP []=[] from rfl,List.append_nil]
   rfl
 · have hy2:y.length≤100000:=hal y (by rw [← hy];exact getD_mem (by omega))
   have ih:=ih (pl++y) (by rw [l_a];omega)
   simp only [impl_worker__found.l0,impl_worker__found.b0]
   rw [decT h1,c_t,inb_eq h0 h1,hy,rm_ok (by omega) (by decide),w64_eq (n:=i+1) (by omega) (by omega)]
   refine ih.trans ?_
   rw [a_a]
   rfl
theorem implF1 {k:Nat} (hk:2 ^ 50≤k) {v:Ty.den TLive} (en:Int) (x:Ty.den TDisk) (hi:Int) (dir:EntryL) (la:Int) {al:List PlaceL} (hal:∀ a ∈ al,a.length≤100000) (hz:al.length≤60) :
 impl_worker__found.l1 k k al.length 0 x.1 x.2.1 x.2.2.1 x.2.2.2.1 0 [] [] 0 0 0 0 v.2.1 v.1 [] v.1 0 en hi dir la 0 [] al=finI k v en x hi dir la (flatP al):=by
 refine (forL0 (L:=fun n i pl=>impl_worker__found.l1 k n al.length i x.1 x.2.1 x.2.2.1 x.2.2.2.1 0 [] [] 0 0 0 0 v.2.1 v.1 [] v.1 0 en hi dir la 0 pl al) (R:=fun r pl=>finI k v en x hi dir la (pl++flatP r)) (Ty.dflt (.slice TPlace)) al (fun i pl=>(pl.length:Int)≤100000*i) (fun n pl hp=>?_) (fun n i pl y rest h0 h1 hy hr hp ih=>?_) (n:=k) (s:=[]) (by omega) (by simp)).trans (by rw [List.nil_append])
 · simp only [impl_worker__found.l1,impl_worker__found.b1]
   rw [decF (by omega),c_f,show flatP []=[] from rfl,List.append_nil]
   rfl
 · have hy2:y.length≤100000:=hal y (by rw [← hy];exact getD_mem (by omega))
   have ih:=ih (pl++y) (by rw [l_a];omega)
   simp only [impl_worker__found.l1,impl_worker__found.b1]
   rw [decT h1,c_t,inb_eq h0 h1,hy,rm_ok (by omega) (by decide),w64_eq (n:=i+1) (by omega) (by omega)]
   refine ih.trans ?_
   rw [a_a]
   rfl
theorem implF20 (k:Nat):∀ n,impl_worker__found.l2 k n=impl_worker__found.l0 k n
 | 0=>rfl
 | n+1=>by show impl_worker__found.b2 k (impl_worker__found.l2 k n)=impl_worker__found.b0 k (impl_worker__found.l0 k n);rw [implF20 k n];rfl
theorem implF31 (k:Nat):∀ n,impl_worker__found.l3 k n=impl_worker__found.l1 k n
 | 0=>rfl
 | n+1=>by show impl_worker__found.b3 k (impl_worker__found.l3 k n)=impl_worker__found.b1 k (impl_worker__found.l1 k n);rw [implF31 k n];rfl
theorem implTail {k:Nat} (hk:2 ^ 50≤k) {v:Ty.den TLive} (hv:liveM v=true) {d:Ty.den TDisk} (h:DR d) (en:Int) {x:Ty.den TDisk} (hx:DR x) (hsame:∀ s,scanM (textM x s).1=scanM (textM d s).1) :
 OkI (endM v en x (groupM x v.2.1) (bif hinted x (v.2.1.getD 0 0) then v.2.1.getD 0 0 else 0))
  (inb 0 (List.length v.2.1:Int) (Option.bind (impl_worker__hinted.f k (x,(0,())) (List.getD v.2.1 0 (Ty.dflt (.int .i64)))) fun r8 =>
   (bif r8.2.2.1 then (inb 0 (List.length v.2.1:Int) (inc 1 (List.length (v.2.1.map (plOf d)):Int)
    (impl_worker__found.l0 k k (List.drop 1 (v.2.1.map (plOf d))) (List.length (List.drop 1 (v.2.1.map (plOf d))):Int) 0 r8.1.1.1 r8.1.1.2.1 r8.1.1.2.2.1 r8.1.1.2.2.2.1 r8.1.2.1 [] [] 0 0 0 0 v.2.1 v.1 [] v.1 0 en (List.getD v.2.1 0 (Ty.dflt (.int .i64))) r8.2.1.1 r8.2.1.2.1 r8.2.1.2.2.1 [])))
   else (impl_worker__found.l1 k k (List.length (v.2.1.map (plOf d)):Int) 0 r8.1.1.1 r8.1.1.2.1 r8.1.1.2.2.1 r8.1.1.2.2.2.1 r8.1.2.1 [] [] 0 0 0 0 v.2.1 v.1 [] v.1 0 en 0 r8.2.1.1 r8.2.1.2.1 r8.2.1.2.2.1 [] (v.2.1.map (plOf d)))))):=by
 obtain ⟨_,_,hv1,hv2,_⟩:=live_facts (nx:=v.1) (ids:=v.2.1) hv
 have hpa:=plAll_len hx (v.2.1.drop 1)
 have hpb:=plAll_len hx v.2.1
 rw [List.length_drop] at hpa
 have hh:=readHint_len (s:=(textM x (namedM hintB (v.2.1.getD 0 0))).1)
 have hal:∀ a ∈ v.2.1.map (plOf d),a.length≤100000:=fun a ha=>by
  obtain ⟨y,_,rfl⟩:=List.mem_map.1 ha
  exact plOf_len h y
 rw [inb_eq (by omega) (by omega),show List.getD v.2.1 0 (Ty.dflt (.int .i64))=v.2.1.getD 0 0 from rfl,show impl_worker__hinted.f k (x,(0,())) (v.2.1.getD 0 0)=_ from implHinted_eq hk (x,0) hx (v.2.1.getD 0 0),o_s]
 unfold groupM
 cases hinted x (v.2.1.getD 0 0) with
 | true =>
  simp only [c_t]
  rw [inb_eq (by omega) (by omega),inc_eq (by omega) (by rw [List.length_map];omega)]
  have:=finI_eq hk hv2 en hx (v.2.1.getD 0 0) (dir:=(hintAt x (v.2.1.getD 0 0)).2.2.1) (by show (readHintM _).1.2.2.1.length≤_;omega) (hintAt x (v.2.1.getD 0 0)).2.1 (pl:=plAll x (v.2.1.drop 1)) (by omega)
  rw [← List.map_drop]
  rw [plAll_same hsame,← flat_map] at this
  have e:=implF0 hk (v:=v) en x (v.2.1.getD 0 0) (hintAt x (v.2.1.getD 0 0)).2.2.1 (hintAt x (v.2.1.getD 0 0)).2.1 (al:=(v.2.1.drop 1).map (plOf d)) (fun a ha=>by
   obtain ⟨y,_,rfl⟩:=List.mem_map.1 ha
   exact plOf_len h y) (by rw [List.length_map,List.length_drop];omega)
  rw [← e] at this
  rw [plAll_same hsame,← flat_map]
  exact this
 | false =>
  simp only [c_f]
  have:=finI_eq hk hv2 en hx 0 (dir:=[]) (by simp) 0 (pl:=plAll x v.2.1) (by omega)
  rw [plAll_same hsame,← flat_map] at this
  have e:=implF1 hk (v:=v) en x 0 [] 0 (al:=v.2.1.map (plOf d)) hal (by rw [List.length_map];omega)
  rw [← e] at this
  rw [plAll_same hsame,← flat_map]
  exact this
theorem implFound_eq {k:Nat} (hk:2 ^ 50≤k) {d:Ty.den TDisk} (h:DR d) {t:ByteArray} (ht:t.size≤1099511627776) :
 OkI (bif !(readLiveM t).2 then (zStore,(d,3)) else foundM (readLiveM t).1 d) (impl_worker__found.f k (d,(0,())) t):=by
 have hl:=h.sz.l
 have hu:=h.sz.u
 have hn:=h.sz.n
 unfold impl_worker__found.f impl_worker__found.t
 rw [implReadLive_eq hk ht,o_s]
 rcases undo_cases (fun v=>liveM v=true) showLiveM ((0,([],())):Ty.den TLive) t with ⟨v,h1,_,e⟩ | e
 · rw [show readLiveM t=(v,true) from e]
   obtain ⟨_,_,hv1,hv2,_⟩:=live_facts (nx:=v.1) (ids:=v.2.1) h1
   simp only [n_t,c_f]
   rw [show impl_worker__scanAll.f k (d,(0,())) v=_ from implScanAll_eq hk (d,0) h hv2,o_s]
   simp only []
   unfold foundM
   cases segsGood d v.2.1 with
   | false=>exact ⟨zStore,rfl,fun q=>(by cases q),fun _=>rfl⟩
   | true =>
    have hs:=segT_size h (lastI v.2.1)
    have hsc:=scanM_len (segT d (lastI v.2.1))
    have w:w64 ((v.2.1.length:Int)-1)=((v.2.1.length-1:Nat):Int):=by rw [w64_eq (by omega) (by omega)];omega
    simp only [n_t,c_f,c_t]
    rw [lastEnd_is d v.2.1 0 (by intro q;rw [q] at hv1;exact absurd hv1 (by decide)),w,n_n,inb_eq (by omega) (by omega),show List.getD v.2.1 (v.2.1.length-1) (Ty.dflt (.int .i64))=lastI v.2.1 from rfl,show v.2.1.getD (v.2.1.length-1) 0=lastI v.2.1 from rfl,implSegName_eq,o_s]
    simp only [show (wO (d,0)).1=d from rfl]
    rw [implText_eq hk (by omega) (by omega) (by omega),o_s,implF20,implF31]
    simp only [show (textM d (namedM segB (lastI v.2.1))).1=segT d (lastI v.2.1) from rfl]
    have fx:=fix_DR (lastI v.2.1) h
    have ft:=fun c s=>(fix_text h (x:=lastI v.2.1) c s).2
    generalize hen:(scanM (segT d (lastI v.2.1))).2=en at *
    by_cases q:en<((segT d (lastI v.2.1)).size:Int)
    · have ef:fixR (lastI v.2.1) d=seqR (truM d (namedM segB (lastI v.2.1)) en) fun y=>synM y (namedM segB (lastI v.2.1)):=by
       unfold fixR
       rw [hen,decT q]
       rfl
      rw [show (((segT d (lastI v.2.1)).size:Int) != en)=true from bne_iff_ne.2 (by omega),c_t,implTru_eq hk h.sz,o_s]
      simp only []
      rw [took_eq,o_s]
      simp only []
      have h2:=tru_DR h (namedM segB (lastI v.2.1)) en
      rw [show impl_worker__sync.f k ((truM d (namedM segB (lastI v.2.1)) en).1,(toldM (truM d (namedM segB (lastI v.2.1)) en).2,())) (namedM segB (lastI v.2.1))=_ from implW_syn hk ((truM d (namedM segB (lastI v.2.1)) en).1,toldM (truM d (namedM segB (lastI v.2.1)) en).2) h2 _,o_s]
      have e2:wk (fun x=>synM x (namedM segB (lastI v.2.1))) ((truM d (namedM segB (lastI v.2.1)) en).1,toldM (truM d (namedM segB (lastI v.2.1)) en).2)=((fixR (lastI v.2.1) d).1,toldM (fixR (lastI v.2.1) d).2):=by
       have:=wk_seq (fun x=>truM x (namedM segB (lastI v.2.1)) en) (fun x=>synM x (namedM segB (lastI v.2.1))) (d,0)
       rw [show wk (fun x=>truM x (namedM segB (lastI v.2.1)) en) (d,0)=((truM d (namedM segB (lastI v.2.1)) en).1,toldM (truM d (namedM segB (lastI v.2.1)) en).2) from rfl] at this
       rw [← this,ef]
       rfl
      rw [e2]
      simp only [bne,show (wO ((fixR (lastI v.2.1) d).1,toldM (fixR (lastI v.2.1) d).2)).2.1=toldM (fixR (lastI v.2.1) d).2 from rfl,toldM_zero]
      cases c:(fixR (lastI v.2.1) d).2==0 with
      | false=>exact ⟨zStore,rfl,fun q=>absurd q (toldM_ne c),fun _=>rfl⟩
      | true =>
       simp only [n_t,c_f]
       have c0:=q_t c
       rw [c0]
       exact implTail hk h1 h en fx (ft c0)
    · have ef:fixR (lastI v.2.1) d=synM d (namedM segB (lastI v.2.1)):=by
       unfold fixR
       rw [hen,decF q]
       rfl
      rw [show (((segT d (lastI v.2.1)).size:Int) != en)=false by rw [show ((segT d (lastI v.2.1)).size:Int)=en by omega];simp,c_f,implW_syn hk (d,0) h,o_s]
      have e2:wk (fun x=>synM x (namedM segB (lastI v.2.1))) (d,0)=((fixR (lastI v.2.1) d).1,toldM (fixR (lastI v.2.1) d).2):=by rw [ef];rfl
      rw [e2]
      simp only [bne,show (wO ((fixR (lastI v.2.1) d).1,toldM (fixR (lastI v.2.1) d).2)).2.1=toldM (fixR (lastI v.2.1) d).2 from rfl,toldM_zero]
      cases c:(fixR (lastI v.2.1) d).2==0 with
      | false=>exact ⟨zStore,rfl,fun q=>absurd q (toldM_ne c),fun _=>rfl⟩
      | true =>
       simp only [n_t,c_f]
       have c0:=q_t c
       rw [c0]
       exact implTail hk h1 h en fx (ft c0)
 · rw [show readLiveM t=((0,([],())),false) from e]
   simp only [n_f,c_t]
   rw [show impl_worker__scanAll.f k (d,(0,())) ((0,([],())):Ty.den TLive)=_ from implScanAll_eq hk (d,0) h (by decide),o_s]
   exact ⟨zStore,rfl,fun q=>(by cases q),fun _=>rfl⟩
theorem implFirst_eq {k:Nat} (hk:2 ^ 50≤k) {d:Ty.den TDisk} (h:DR d):OkI (firstM d) (impl_worker__first.f k (d,(0,()))):=by
 have h1:=wk_DR (r:=((d,0):RD)) h (sweep_DR [])
 have hn:=named_small (.inl rfl:segB=segB∨segB=hintB) 1
 have h2:=wk_DR h1 fun x hx=>cre_DR hx (namedM segB 1)
 unfold impl_worker__first.f impl_worker__first.t
 rw [show impl_worker__orphans.f k (d,(0,())) ((0,([],())):Ty.den TLive)=_ from implW_orph hk (d,0) h (v:=(0,([],()))) (by decide),o_s,implSegName_eq,o_s]
 simp only [show ((0,(([]:List Int),())):Ty.den TLive).2.1=[] from rfl]
 rw [implW_cre hk _ h1 (by omega),o_s]
 simp only []
 rw [show ((2,([1],())):Ty.den TLive)=live1 from rfl,implW_putLive hk _ h2 (by decide),o_s,← wk_seq (sweepR []) (fun x=>creM x (namedM segB 1)),← wk_seq]
 unfold firstM
 refine ⟨(live1,([],(1,(0,(0,()))))),?_,?_,?_⟩
 · cases c:(firstR d).2==0 with
   | true =>
    show some (wO ((firstR d).1,toldM (firstR d).2),_)=some (wO ((firstR d).1,0),_)
    rw [q_t c]
    rfl
   | false=>rfl
 · cases c:(firstR d).2==0 with
   | true=>intro _;rfl
   | false=>intro q;exact absurd q (toldM_ne c)
 · cases c:(firstR d).2==0 with
   | true=>intro q;exact absurd rfl q
   | false=>intro _;rfl
theorem implOpen_eq {k:Nat} (hk:2 ^ 50≤k) {d:Ty.den TDisk} (hd:DSz d):impl_Open.f k d=some (oS (openM d)):=by
 have hl:=hd.l
 have hu:=hd.u
 have hn:=hd.n
 unfold impl_Open.f impl_Open.t openM
 rw [implCopyD_eq k hl,o_s,implDisk_eq hk (by omega) (by omega),o_s]
 cases c:diskM d with
 | false=>rfl
 | true =>
  have h:=disk_iff.1 c
  have fin:∀ (q:Ty.den TStore × RD) (o:Option (Ty.den Tworker × Ty.den TStore × Unit)),OkI q o→(Option.bind o fun r4=>(bif (r4.1.2.1 != 0) then (some (zStore,r4.1)) else (some (r4.2.1,(r4.1.1,(0,()))))))=some (oS q):=fun q o hq=>by
   obtain ⟨st,e,a,b⟩:=hq
   rw [e,o_s]
   simp only [bne,show (wO q.2).2.1=q.2.2 from rfl]
   cases cq:q.2.2==0 with
   | true =>
    have z:=q_t cq
    rw [a z]
    show some (q.1,(q.2.1,(0,())))=some (q.1,(q.2.1,(q.2.2,())))
    rw [z]
   | false =>
    rw [n_f,c_t]
    show some (zStore,(q.2.1,(q.2.2,())))=some (q.1,(q.2.1,(q.2.2,())))
    rw [b (fun z=>by rw [z] at cq;cases cq)]
  simp only [n_t,c_f]
  cases cdn:d.2.2.2.1 with
  | true=>rfl
  | false =>
   simp only [c_f]
   rw [show (⟨#[108,105,118,101]⟩:ByteArray)=liveB from rfl,implText_eq hk (by omega) (by omega) (by omega),o_s]
   simp only []
   cases (textM d liveB).2 with
   | false =>
    simp only [n_f,c_t,c_f]
    exact fin _ _ (implFirst_eq hk h)
   | true =>
    have hz:=textM_size d liveB
    simp only [n_t,c_f,c_t]
    exact fin _ _ (implFound_eq hk h (by omega))
end Go.Proofs.YtejgkmhpmhfnbaaGreatDoor.G
namespace Go.Proofs.YtejgkmhpmhfnbaaGreatDoor.G
open Go.V
theorem end_facts (v:Ty.den TLive) (en:Int) {x:Ty.den TDisk} (h:DR x) {g:Ty.den TGroup} (hg:g.1.length≤268435456) (hi:Int):DR (endM v en x g hi).2.1∧(endM v en x g hi).1.2.1.length≤268435456:=by
 have hs:=sweep_DR v.2.1 x h
 unfold endM
 cases g.2.2.1 != 0 with
 | true=>exact ⟨h,Nat.zero_le _⟩
 | false =>
  cases (sweepR v.2.1 x).2 != 0 with
  | true=>exact ⟨hs,Nat.zero_le _⟩
  | false=>exact ⟨hs,hg⟩
theorem group_len {x:Ty.den TDisk} (h:DR x) {ids:List Int} (hl:ids.length≤60):(groupM x ids).1.length≤268435456:=by
 have hpa:=plAll_len h (ids.drop 1)
 have hpb:=plAll_len h ids
 rw [List.length_drop] at hpa
 have hh:=readHint_len (s:=(textM x (namedM hintB (ids.getD 0 0))).1)
 unfold groupM
 cases hinted x (ids.getD 0 0)
 · exact regroupM_len (by omega) (by simp)
 · exact regroupM_len (by omega) (by show (hintAt x (ids.getD 0 0)).2.2.1.length≤_;unfold hintAt;omega)
theorem open_facts {d:Ty.den TDisk} (h:DR d):DR (openM d).2.1∧(openM d).1.2.1.length≤268435456:=by
 unfold openM
 rw [disk_iff.2 h]
 simp only [n_t,c_f]
 cases d.2.2.2.1 with
 | true=>exact ⟨h,Nat.zero_le _⟩
 | false =>
  simp only [c_f]
  cases (textM d liveB).2 with
  | false =>
   simp only [n_f,c_t]
   have hf:DR (firstR d).1:=seqR_DR (seqR_DR (sweep_DR [] d h) fun x hx=>cre_DR hx _) (putLive_DR live1)
   unfold firstM
   cases (firstR d).2==0 with
   | true=>exact ⟨hf,Nat.zero_le _⟩
   | false=>exact ⟨hf,Nat.zero_le _⟩
  | true =>
   simp only [n_t,c_f]
   rcases undo_cases (fun v=>liveM v=true) showLiveM ((0,([],())):Ty.den TLive) (textM d liveB).1 with ⟨v,h1,_,e⟩ | e
   · rw [show readLiveM (textM d liveB).1=(v,true) from e]
     obtain ⟨_,_,hv1,hv2,_⟩:=live_facts (nx:=v.1) (ids:=v.2.1) h1
     simp only [n_t,c_f]
     have fx:=fix_DR (lastI v.2.1) h
     unfold foundM
     cases segsGood d v.2.1 with
     | false=>exact ⟨h,Nat.zero_le _⟩
     | true =>
      simp only [n_t,c_f]
      cases (fixR (lastI v.2.1) d).2 != 0 with
      | true=>exact ⟨fx,Nat.zero_le _⟩
      | false=>exact end_facts v _ fx (group_len fx hv2) _
   · rw [show readLiveM (textM d liveB).1=((0,([],())),false) from e]
     exact ⟨h,Nat.zero_le _⟩
end Go.Proofs.YtejgkmhpmhfnbaaGreatDoor.G
namespace Go.Proofs.YtejgkmhpmhfnbaaGreatDoor.G
open Go.V
def pairOk (p:Option (Ty.den TPair)) (x:Ty.den TPair):Bool :=
 keyOkB x.1&&(decide ((x.2.1.size:Int)≤24)&&(decide (1≤x.2.2.1∧x.2.2.1≤1000000)&&(match p with | none=>true | some y=>sls y.1 x.1)))
def pairsOk (l:PairL):Bool:=adj pairOk none l&&decide (l.length≤20)
theorem specPairsOk_eq {k:Nat} (hk:2 ^ 50≤k) (l:PairL):spec_PairsOk.f k l=some (pairsOk l,()):=by
 unfold spec_PairsOk.f spec_PairsOk.t pairsOk
 by_cases c:l.length > 20
 · rw [decT (by omega),c_t,decF (by omega),Bool.and_false]
 · rw [decF (by omega),c_f,decT (by omega),Bool.and_true]
   refine (forAdj (L:=fun n i=>spec_PairsOk.l0 k n l i) (Ty.dflt TPair) l pairOk (some (true,())) (some (false,())) (fun n=>?_) (fun n x h hx=>?_) (fun n i x y h0 h1 hx hy=>?_) (n:=k) (by omega)).trans (by cases adj pairOk none l <;> rfl)
   · simp (disch:=omega) only [spec_PairsOk.l0,spec_PairsOk.b0,decF,c_f]
   · simp (disch:=omega) only [spec_PairsOk.l0,spec_PairsOk.b0,decT (show (0:Int)<(l.length:Int) by omega),c_t,inb_eq,hx,specKeyOk_eq k,l1In_eq k,o_s,decF (show ¬ (0:Int) > 0 by omega),c_f,w64_eq,pairOk,keyOkB]
     by_cases c2:(x.2.1.size:Int) > 24
     · rw [decT c2,decF (show ¬ (x.2.1.size:Int)≤24 by omega)]
       cases decide (1≤(x.1.size:Int)∧(x.1.size:Int)≤8) <;> rfl
     · rw [decF c2,decT (show (x.2.1.size:Int)≤24 by omega)]
       cases decide (1≤(x.1.size:Int)∧(x.1.size:Int)≤8) <;> cases decide (1≤x.2.2.1∧x.2.2.1≤1000000) <;> rfl
   · simp (disch:=omega) only [spec_PairsOk.l0,spec_PairsOk.b0,decT h1,c_t,inb_eq,hx,hy,specKeyOk_eq k,l1In_eq k,o_s,decT (show i > 0 by omega),c_f,w64_eq,pairOk,keyOkB,sls_total]
     by_cases c2:(x.2.1.size:Int) > 24
     · rw [decT c2,decF (show ¬ (x.2.1.size:Int)≤24 by omega)]
       cases decide (1≤(x.1.size:Int)∧(x.1.size:Int)≤8) <;> rfl
     · rw [decF c2,decT (show (x.2.1.size:Int)≤24 by omega)]
       cases decide (1≤(x.1.size:Int)∧(x.1.size:Int)≤8) <;> cases decide (1≤x.2.2.1∧x.2.2.1≤1000000) <;> cases sls y.1 x.1 <;> rfl
theorem implPairsOk_eq {k:Nat} (hk:2 ^ 50≤k) {l:PairL} (hl:l.length≤1099511627776):impl_PairsOk.f k l=some (pairsOk l,()):=by
 unfold impl_PairsOk.f impl_PairsOk.t pairsOk
 refine (forAdj (L:=fun n i=>impl_PairsOk.l0 k n l l l.length i) (Ty.dflt TPair) l pairOk (some (decide ((l.length:Int)≤20),())) (some (false,())) (fun n=>?_) (fun n x h hx=>?_) (fun n i x y h0 h1 hx hy=>?_) (n:=k) (by omega)).trans
  (by rw [show decide ((l.length:Int)≤20)=decide (l.length≤20) from decide_eq_decide.2 (by omega)];cases adj pairOk none l <;> rfl)
 · simp (disch:=omega) only [impl_PairsOk.l0,impl_PairsOk.b0,decF,c_f]
 · simp (disch:=omega) only [impl_PairsOk.l0,impl_PairsOk.b0,decT (show (0:Int)<(l.length:Int) by omega),c_t,inb_eq,hx,implKeyOk_eq k,in_eq k,o_s,decF (show ¬ (0:Int) > 0 by omega),c_f,w64_eq,pairOk,keyOkB]
   by_cases c2:(x.2.1.size:Int) > 24
   · rw [decT c2,decF (show ¬ (x.2.1.size:Int)≤24 by omega)]
     cases decide (1≤(x.1.size:Int)∧(x.1.size:Int)≤8) <;> rfl
   · rw [decF c2,decT (show (x.2.1.size:Int)≤24 by omega)]
     cases decide (1≤(x.1.size:Int)∧(x.1.size:Int)≤8) <;> cases decide (1≤x.2.2.1∧x.2.2.1≤1000000) <;> rfl
 · simp (disch:=omega) only [impl_PairsOk.l0,impl_PairsOk.b0,decT h1,c_t,inb_eq,hx,hy,implKeyOk_eq k,in_eq k,o_s,decT (show i > 0 by omega),c_f,w64_eq,pairOk,keyOkB]
   by_cases c2:(x.2.1.size:Int) > 24
   · rw [decT c2,decF (show ¬ (x.2.1.size:Int)≤24 by omega)]
     cases decide (1≤(x.1.size:Int)∧(x.1.size:Int)≤8) <;> rfl
   · rw [decF c2,decT (show (x.2.1.size:Int)≤24 by omega)]
     cases decide (1≤(x.1.size:Int)∧(x.1.size:Int)≤8) <;> cases decide (1≤x.2.2.1∧x.2.2.1≤1000000) <;> cases sls y.1 x.1 <;> rfl
theorem pairsOk_len {l:PairL} (h:pairsOk l=true):l.length≤20:=by
 unfold pairsOk at h
 rw [b_a,decide_eq_true_eq] at h
 exact h.2
end Go.Proofs.YtejgkmhpmhfnbaaGreatDoor.G
namespace Go.Proofs.YtejgkmhpmhfnbaaGreatDoor.G
open Go.V
abbrev PutL:=List (Ty.den TPut)
def putOkB (x:Ty.den TPut):Bool:=keyOkB x.1&&(decide ((x.2.2.1.size:Int)≤24)&&(!x.2.1||seq x.2.2.1 ⟨#[]⟩))
def putsOk (l:PutL):Bool:=adj (fun _=>putOkB) none l&&decide (l.length≤8)
theorem specPutsOk_eq {k:Nat} (hk:2 ^ 50≤k) (l:PutL):spec_PutsOk.f k l=some (putsOk l,()):=by
 unfold spec_PutsOk.f spec_PutsOk.t putsOk
 by_cases c:l.length > 8
 · rw [decT (by omega),c_t,decF (by omega),Bool.and_false]
 · rw [decF (by omega),c_f,decT (by omega),Bool.and_true]
   have st:∀ (n:Nat) (i:Int) x,0≤i→i<l.length→l.getD i.toNat (Ty.dflt TPut)=x→spec_PutsOk.l0 k (n+1) l i=bif putOkB x then spec_PutsOk.l0 k n l (i+1) else some (false,()):=fun n i x h0 h1 hx=>by
    simp (disch:=omega) only [spec_PutsOk.l0,spec_PutsOk.b0,decT h1,c_t,inb_eq,hx,specKeyOk_eq k,o_s,w64_eq,putOkB,keyOkB]
    by_cases c2:(x.2.2.1.size:Int) > 24
    · rw [decT c2,decF (show ¬ (x.2.2.1.size:Int)≤24 by omega)]
      cases decide (1≤(x.1.size:Int)∧(x.1.size:Int)≤8) <;> rfl
    · rw [decF c2,decT (show (x.2.2.1.size:Int)≤24 by omega)]
      cases decide (1≤(x.1.size:Int)∧(x.1.size:Int)≤8) <;> cases x.2.1 <;> cases seq x.2.2.1 ⟨#[]⟩ <;> rfl
   exact (forAdj (L:=fun n i=>spec_PutsOk.l0 k n l i) (Ty.dflt TPut) l (fun _=>putOkB) (some (true,())) (some (false,())) (fun n=>by simp (disch:=omega) only [spec_PutsOk.l0,spec_PutsOk.b0,decF,c_f])
    (fun n x h hx=>st n 0 x (by omega) (by omega) hx) (fun n i x y h0 h1 hx hy=>st n i x (by omega) h1 hx) (n:=k) (by omega)).trans (by cases adj (fun _=>putOkB) none l <;> rfl)
theorem implPutsOk_eq {k:Nat} (hk:2 ^ 50≤k) {l:PutL} (hl:l.length≤1099511627776):impl_PutsOk.f k l=some (putsOk l,()):=by
 unfold impl_PutsOk.f impl_PutsOk.t putsOk
 have st:∀ (n:Nat) (i:Int) x,0≤i→i<l.length→l.getD i.toNat (Ty.dflt TPut)=x→impl_PutsOk.l0 k (n+1) l l l.length i=bif putOkB x then impl_PutsOk.l0 k n l l l.length (i+1) else some (false,()):=fun n i x h0 h1 hx=>by
  have e:impl_putOk.f k x=some (putOkB x,()):=by
   unfold impl_putOk.f impl_putOk.t putOkB keyOkB
   rw [implKeyOk_eq,o_s]
   cases decide (1≤(x.1.size:Int)∧(x.1.size:Int)≤8) <;> cases decide ((x.2.2.1.size:Int)≤24) <;> cases x.2.1 <;> rfl
  simp (disch:=omega) only [impl_PutsOk.l0,impl_PutsOk.b0,decT h1,c_t,inb_eq,hx,e,o_s,w64_eq]
  cases putOkB x <;> rfl
 exact (forAdj (L:=fun n i=>impl_PutsOk.l0 k n l l l.length i) (Ty.dflt TPut) l (fun _=>putOkB) (some (decide ((l.length:Int)≤8),())) (some (false,())) (fun n=>by simp (disch:=omega) only [impl_PutsOk.l0,impl_PutsOk.b0,decF,c_f])
  (fun n x h hx=>st n 0 x (by omega) (by omega) hx) (fun n i x y h0 h1 hx hy=>st n i x (by omega) h1 hx) (n:=k) (by omega)).trans (by rw [show decide ((l.length:Int)≤8)=decide (l.length≤8) from decide_eq_decide.2 (by omega)];cases adj (fun _=>putOkB) none l <;> rfl)
theorem putsOk_len {l:PutL} (h:putsOk l=true):l.length≤8:=by
 unfold putsOk at h
 rw [b_a,decide_eq_true_eq] at h
 exact h.2
theorem putsOk_mem {l:PutL} (h:putsOk l=true) {x:Ty.den TPut} (hx:x ∈ l):putOkB x=true:=by
 unfold putsOk at h
 rw [b_a] at h
 exact (adj_all h.1 hx).elim fun _ q=>q
def putR (b:Int) (p:Ty.den TPut):Ty.den TRec:=bif p.2.1 then (2,(b,(p.1,(ByteArray.empty,(0,(0,())))))) else (1,(b,(p.1,(p.2.2.1,(0,(0,()))))))
def recsM (l:PutL) (b:Int):RecL:=l.map (putR b)++[sealR 3 b (l.map (putR b))]
theorem implRecordsOf_eq {k:Nat} (hk:2 ^ 50≤k) {l:PutL} (hl:l.length≤1073741823) (b:Int):impl_recordsOf.f k l b=some (recsM l b,()):=by
 unfold impl_recordsOf.f impl_recordsOf.t
 refine (forL0 (L:=fun n i s=>impl_recordsOf.l0 k n l b l l.length i s) (R:=fun r s=>some (s++r.map (putR b)++[sealR 3 b (s++r.map (putR b))],())) (Ty.dflt TPut) l (fun i s=>(s.length:Int)=i) (fun n s hs=>?_) (fun n i s x rest h0 h1 hx hr hp ih=>?_) (n:=k) (s:=[]) (by omega) (by decide)).trans (by rw [List.nil_append];rfl)
 · simp (disch:=first | omega | decide) only [impl_recordsOf.l0,impl_recordsOf.b0,decF,c_f,implSumOf_eq hk,o_s,rm_ok,List.map_nil,List.append_nil,sealR,hs]
 · have ih:=ih (s++[putR b x]) (by rw [l_a];show ((s.length+1:Nat):Int)=_;omega)
   have e:putR b x=bif x.2.1 then (2,(b,(x.1,(ByteArray.empty,(0,(0,())))))) else (1,(b,(x.1,(x.2.2.1,(0,(0,())))))):=rfl
   simp (disch:=first | omega | decide) only [impl_recordsOf.l0,impl_recordsOf.b0,decT,c_t,inb_eq,hx,rm_ok,w64_eq]
   cases c:x.2.1 <;> rw [c] at e <;> simp only [c_t,c_f] at e ⊢ <;> rw [← e] <;> refine ih.trans ?_ <;> simp only [List.map_cons,a_a,List.cons_append,List.nil_append]
def recLen (r:Ty.den TRec):Int:=((frameM (showRec r)).size:Int)
theorem recLen_in (r:Ty.den TRec):0≤recLen r∧recLen r≤211:=by
 have:=frameM_size (showRec r)
 unfold recLen
 omega
theorem putR_spec {x:Ty.den TPut} (b:Int) (h:putOkB x=true):putR b x=bif x.2.1 then (2,(b,(x.1,(x.2.2.1,(0,(0,())))))) else (1,(b,(x.1,(x.2.2.1,(0,(0,())))))):=by
 unfold putR
 unfold putOkB at h
 rw [b_a,b_a] at h
 cases c:x.2.1 with
 | false=>rfl
 | true =>
  rw [c] at h
  have:x.2.2.1=⟨#[]⟩:=seq_iff.1 h.2.2
  rw [this]
  rfl
end Go.Proofs.YtejgkmhpmhfnbaaGreatDoor.G
namespace Go.Proofs.YtejgkmhpmhfnbaaGreatDoor.G
open Go.V
theorem adj_mono {lim lim':Int} (h:lim≤lim'):∀ (l:List Int) (p:Option Int),adj (idOk lim) p l=true→adj (idOk lim') p l=true
 | [],_,_=>rfl
 | x::l,p,q=>by
  simp only [adj,b_a] at q ⊢
  refine ⟨?_,adj_mono h l _ q.2⟩
  have q1:=q.1
  unfold idOk at q1 ⊢
  rw [b_a,decide_eq_true_eq] at q1 ⊢
  exact ⟨⟨q1.1.1,Int.le_trans q1.1.2 h⟩,q1.2⟩
theorem adj_snoc {lim n:Int} (h1:1≤n) (h:lim<n):∀ (l:List Int) (p:Option Int),(∀ y,p=some y→y<n)→adj (idOk lim) p l=true→adj (idOk n) p (l++[n])=true
 | [],p,hp,_=>by
  simp only [List.nil_append,adj,Bool.and_true]
  unfold idOk
  rw [b_a,decide_eq_true_eq]
  refine ⟨⟨h1,Int.le_refl _⟩,?_⟩
  cases p with
  | none=>rfl
  | some y=>exact decide_eq_true (hp y rfl)
 | x::l,p,hp,q=>by
  simp only [adj,b_a,List.cons_append] at q ⊢
  have q1:=q.1
  unfold idOk at q1
  rw [b_a,decide_eq_true_eq] at q1
  refine ⟨?_,adj_snoc h1 h l _ (fun y e=>by cases e;exact Int.lt_of_le_of_lt q1.1.2 h) q.2⟩
  unfold idOk
  rw [b_a,decide_eq_true_eq]
  exact ⟨⟨q1.1.1,Int.le_of_lt (Int.lt_of_le_of_lt q1.1.2 h)⟩,q1.2⟩
theorem live_next {n:Int} {ids:List Int} (h:liveM (n,(ids,()))=true) (hn:n<100000):liveM (n+1,(ids,()))=true:=by
 obtain ⟨g1,g2,_⟩:=live_facts h
 unfold liveM at h ⊢
 simp only [b_a,decide_eq_true_eq] at h ⊢
 rw [w64_eq (n:=n+1-1) (by omega) (by omega)]
 rw [w64_eq (n:=n-1) (by omega) (by omega)] at h
 exact ⟨⟨show (1:Int)≤n+1 by omega,show n+1≤(100000:Int) by omega⟩,h.2.1,adj_mono (by omega) _ _ h.2.2⟩
theorem live_grow {n:Int} {ids:List Int} (h:liveM (n,(ids,()))=true) (hn:n<100000) (hl:ids.length<60):liveM (n+1,(ids++[n],()))=true:=by
 obtain ⟨g1,g2,_⟩:=live_facts h
 unfold liveM at h ⊢
 simp only [b_a,decide_eq_true_eq] at h ⊢
 rw [w64_eq (n:=n+1-1) (by omega) (by omega)]
 rw [w64_eq (n:=n-1) (by omega) (by omega)] at h
 refine ⟨⟨show (1:Int)≤n+1 by omega,show n+1≤(100000:Int) by omega⟩,⟨?_,?_⟩,?_⟩
 · rw [l_a,List.length_singleton];omega
 · rw [l_a,List.length_singleton];omega
 · rw [show n+1-1=n by omega]
   exact adj_snoc g1 (by omega) _ _ (fun y e=>by cases e) h.2.2
def actB (st:Ty.den TStore):ByteArray:=namedM segB (lastI st.1.2.1)
theorem last_place {st:Ty.den TStore} (h:liveM st.1=true):0≤w64 ((st.1.2.1.length:Int)-1)∧w64 ((st.1.2.1.length:Int)-1)<(st.1.2.1.length:Int)∧st.1.2.1.getD (w64 ((st.1.2.1.length:Int)-1)).toNat (Ty.dflt (.int .i64))=lastI st.1.2.1:=by
 obtain ⟨_,_,h1,h2,_⟩:=live_facts (nx:=st.1.1) (ids:=st.1.2.1) h
 rw [w64_eq (n:=(st.1.2.1.length:Int)-1) (by omega) (by omega)]
 refine ⟨by omega,by omega,?_⟩
 unfold lastI
 rw [show ((st.1.2.1.length:Int)-1).toNat=st.1.2.1.length-1 by omega]
 rfl
theorem specActive_eq {k:Nat} (hk:2 ^ 50≤k) {st:Ty.den TStore} (h:liveM st.1=true):spec_l12Active.f k st=some (actB st,()):=by
 obtain ⟨h1,h2,h3⟩:=last_place h
 unfold spec_l12Active.f spec_l12Active.t actB
 rw [inb_eq h1 h2,h3,specSegName_eq hk,o_s]
theorem implActive_eq {k:Nat} {st:Ty.den TStore} (h:liveM st.1=true):impl_Store__active.f k st=some (st,(actB st,())):=by
 obtain ⟨h1,h2,h3⟩:=last_place h
 unfold impl_Store__active.f impl_Store__active.t actB
 rw [inb_eq h1 h2,h3,implSegName_eq,o_s]
def tl (r:RD):RD:=(r.1,toldM r.2)
theorem wk_zero (f:Ty.den TDisk→RD) (d:Ty.den TDisk):wk f (d,0)=tl (f d):=rfl
theorem tl_zero {r:RD} (h:(r.2==0)=true):tl r=(r.1,0):=by
 unfold tl
 rw [q_t h]
 rfl
theorem tl_ne (r:RD):((tl r).2 != 0)=(r.2 != 0):=by
 unfold tl bne
 rw [toldM_zero]
def nextS (st:Ty.den TStore):Ty.den TStore:=((st.1.1+1,st.1.2),st.2)
def liveN (st:Ty.den TStore):Ty.den TLive:=(st.1.1+1,(st.1.2.1++[st.1.1],()))
def grownS (st:Ty.den TStore):Ty.den TStore:=(liveN st,(st.2.1,(st.2.2.1,(0,st.2.2.2.2))))
def dropsT (nm:ByteArray) (r:RD):RD:=bif r.2==2 then ((dropsR [tempB,nm] r.1).1,bif (dropsR [tempB,nm] r.1).2==0 then 2 else toldM (dropsR [tempB,nm] r.1).2) else r
def rotR (st:Ty.den TStore) (d:Ty.den TDisk):Ty.den TStore × RD :=
 bif decide ((st.1.2.1.length:Int)≥60) then (st,(d,5)) else bif decide (st.1.1≥100000) then (st,(d,5)) else
 bif (synM d (actB st)).2 != 0 then (st,tl (synM d (actB st))) else
 bif (freshR (namedM segB st.1.1) (synM d (actB st)).1).2 != 0 then (nextS st,tl (freshR (namedM segB st.1.1) (synM d (actB st)).1)) else
 bif (putLiveR (liveN st) (freshR (namedM segB st.1.1) (synM d (actB st)).1).1).2 != 0 then (nextS st,dropsT (namedM segB st.1.1) (tl (putLiveR (liveN st) (freshR (namedM segB st.1.1) (synM d (actB st)).1).1)))
 else (grownS st,((putLiveR (liveN st) (freshR (namedM segB st.1.1) (synM d (actB st)).1).1).1,0))
structure SR (st:Ty.den TStore) (r:RD) (B:Int):Prop where
 live:liveM st.1=true
 disk:DR r.1
 lo:LE.le (α:=Int) 0 st.2.2.2.1
 hi:LE.le (α:=Int) st.2.2.2.1 B
theorem seg_sz (n:Int):(namedM segB n).size≤1000:=by
 unfold namedM
 by_cases h:(1:Int)≤n∧n≤100000
 · rw [decT h,c_t,ByteArray.size_append]
   have:=decB_small (n:=n) (by omega) (by omega)
   have:segB.size=3:=rfl
   omega
 · rw [decF h]
   exact Nat.zero_le _
theorem specRot_eq {k:Nat} (hk:2 ^ 50≤k) {st:Ty.den TStore} {d:Ty.den TDisk} (hl:liveM st.1=true) (hd:DR d):spec_l12Rotate_ga.f k st d=some ((rotR st d).1,((rotR st d).2.1,((rotR st d).2.2,()))):=by
 obtain ⟨g1,g2,g3,g4,_⟩:=live_facts (nx:=st.1.1) (ids:=st.1.2.1) hl
 have hsz:=seg_sz st.1.1
 unfold spec_l12Rotate_ga.f spec_l12Rotate_ga.t rotR
 by_cases c1:(st.1.2.1.length:Int)≥60
 · rw [decT c1];rfl
 by_cases c2:st.1.1≥(100000:Int)
 · rw [decF c1,decT c2];rfl
 have c1':st.1.2.1.length<60:=by omega
 have c2':LT.lt (α:=Int) st.1.1 100000:=Int.not_le.1 c2
 rw [decF c1,decF c2]
 simp only [c_f]
 rw [specActive_eq hk hl,o_s]
 simp only []
 rw [specSyn_eq hk hd.sz,o_s]
 simp only []
 have h1:=syn_DR hd (actB st)
 generalize synM d (actB st)=r1 at h1 ⊢
 cases c3:r1.2 != 0 with
 | true=>simp only [c_t,specCode_eq,o_s,tl]
 | false =>
  simp only [c_f]
  rw [specSegName_eq hk,o_s]
  simp only []
  rw [specFresh_eq hk h1 (by omega),o_s]
  simp only []
  have h2:=fresh_DR (namedM segB st.1.1) _ h1
  generalize freshR (namedM segB st.1.1) r1.1=r2 at h2 ⊢
  have ew:w64 (st.1.1+1)=st.1.1+1:=w64_eq (by omega) (by omega)
  cases c4:r2.2 != 0 with
  | true=>simp only [c_t,specCode_eq,o_s,tl,ew];rfl
  | false =>
   simp only [c_f]
   rw [List.nil_append,rm_ok (by omega) (by decide),rm_ok (by omega) (by decide),ew,specPutLive_eq hk h2 (v:=(st.1.1+1,(st.1.2.1++[st.1.1],()))) (live_grow hl c2' c1'),o_s]
   simp only []
   have h3:=putLive_DR (liveN st) _ h2
   rw [show ((st.1.1+1,(st.1.2.1++[st.1.1],())):Ty.den TLive)=liveN st from rfl]
   generalize putLiveR (liveN st) r2.1=r3 at h3 ⊢
   have et:(toldM r3.2 != 0)=(r3.2 != 0):=by unfold bne;rw [toldM_zero]
   cases c5:toldM r3.2==2 with
   | true =>
    have e2:toldM r3.2=2:=q_t c5
    have c6:(r3.2 != 0)=true:=by rw [← et,e2];rfl
    rw [c6]
    simp only [c_t]
    rw [o_s,show (⟨#[116,101,109,112]⟩:ByteArray)=tempB from rfl]
    simp only []
    rw [specDrops_eq hk h3 (by simp),o_s]
    unfold dropsT
    rw [show (tl r3).2=toldM r3.2 from rfl,c5,show (tl r3).1=r3.1 from rfl]
    simp only [c_t,bne]
    generalize dropsR [tempB,namedM segB st.1.1] r3.1=r4
    cases c7:r4.2==0 with
    | true=>rw [e2];rfl
    | false=>simp only [n_f,c_t,c_f,specCode_eq,o_s];rfl
   | false =>
    simp only [c_f]
    rw [et]
    cases c6:r3.2 != 0 with
    | true =>
     simp only [c_t]
     unfold dropsT
     rw [show (tl r3).2=toldM r3.2 from rfl,c5]
     rfl
    | false=>rfl
theorem implRot_eq {k:Nat} (hk:2 ^ 50≤k) {st:Ty.den TStore} {d:Ty.den TDisk} (hl:liveM st.1=true) (hd:DR d):impl_Store__rotate.f k st (wO (d,0))=some ((rotR st d).1,(wO (rotR st d).2,())):=by
 obtain ⟨g1,g2,g3,g4,_⟩:=live_facts (nx:=st.1.1) (ids:=st.1.2.1) hl
 have hsz:=seg_sz st.1.1
 unfold impl_Store__rotate.f impl_Store__rotate.t rotR
 by_cases c1:(st.1.2.1.length:Int)≥60
 · rw [decT c1];rfl
 by_cases c2:st.1.1≥(100000:Int)
 · rw [decF c1,decT c2];rfl
 have c2':LT.lt (α:=Int) st.1.1 100000:=Int.not_le.1 c2
 rw [decF c1,decF c2]
 simp only [c_f]
 rw [implActive_eq hl,o_s]
 simp only []
 rw [implW_syn hk _ hd,o_s,wk_zero]
 simp only []
 have h1:=syn_DR hd (actB st)
 generalize synM d (actB st)=r1 at h1 ⊢
 rw [show (wO (tl r1)).2.1=(tl r1).2 from rfl,tl_ne]
 cases c3:r1.2 != 0 with
 | true=>rfl
 | false =>
  simp only [c_f]
  rw [tl_zero (r:=r1) (by unfold bne at c3;simpa using c3),implSegName_eq,o_s]
  simp only []
  rw [implW_anew hk (r1.1,0) h1 (by omega),o_s,wk_zero]
  simp only []
  have h2:=fresh_DR (namedM segB st.1.1) _ h1
  generalize freshR (namedM segB st.1.1) r1.1=r2 at h2 ⊢
  have ew:w64 (st.1.1+1)=st.1.1+1:=w64_eq (by omega) (by omega)
  rw [show (wO (tl r2)).2.1=(tl r2).2 from rfl,tl_ne,ew]
  cases c4:r2.2 != 0 with
  | true=>rfl
  | false =>
   simp only [c_f]
   rw [tl_zero (r:=r2) (by unfold bne at c4;simpa using c4)]
   have ec:impl_copyLive.f k ((st.1.1+1,st.1.2):Ty.den TLive)=some (((st.1.1+1,st.1.2):Ty.den TLive),()):=by
    unfold impl_copyLive.f impl_copyLive.t
    rw [rm_ok (by show st.1.2.1.length≤_;omega) (by decide)]
   rw [ec,o_s]
   simp only []
   have hlen:(st.1.2.1++[st.1.1]).length≤1073741824:=by rw [l_a,List.length_singleton];omega
   rw [rm_ok (by omega) (by decide),implW_putLive hk (r2.1,0) h2 (v:=(st.1.1+1,(st.1.2.1++[st.1.1],()))) hlen,o_s,wk_zero]
   simp only []
   have h3:=putLive_DR (liveN st) _ h2
   rw [show ((st.1.1+1,(st.1.2.1++[st.1.1],())):Ty.den TLive)=liveN st from rfl]
   generalize putLiveR (liveN st) r2.1=r3 at h3 ⊢
   rw [show (wO (tl r3)).2.1=(tl r3).2 from rfl,tl_ne]
   cases c5:r3.2 != 0 with
   | true =>
    simp only [c_t]
    rw [o_s,show (⟨#[116,101,109,112]⟩:ByteArray)=tempB from rfl]
    simp only []
    rw [implW_drops hk (tl r3) h3 (by simp),o_s]
    rfl
   | false =>
    simp only [c_f]
    rw [tl_zero (r:=r3) (by unfold bne at c5;simpa using c5)]
    rfl
end Go.Proofs.YtejgkmhpmhfnbaaGreatDoor.G
namespace Go.Proofs.YtejgkmhpmhfnbaaGreatDoor.G
open Go.V
theorem rot_facts {st:Ty.den TStore} {d:Ty.den TDisk} (hl:liveM st.1=true) (hd:DR d):liveM (rotR st d).1.1=true∧DR (rotR st d).2.1∧(rotR st d).1.2.1=st.2.1∧((rotR st d).1.2.2.2.1=st.2.2.2.1∨(rotR st d).1.2.2.2.1=0):=by
 unfold rotR
 by_cases c1:(st.1.2.1.length:Int)≥60
 · rw [decT c1];exact ⟨hl,hd,rfl,.inl rfl⟩
 by_cases c2:st.1.1≥(100000:Int)
 · rw [decF c1,decT c2];exact ⟨hl,hd,rfl,.inl rfl⟩
 have c1':st.1.2.1.length<60:=by omega
 have c2':LT.lt (α:=Int) st.1.1 100000:=Int.not_le.1 c2
 have hn:liveM (nextS st).1=true:=live_next (ids:=st.1.2.1) hl c2'
 have hg:liveM (grownS st).1=true:=live_grow hl c2' c1'
 have h1:=syn_DR hd (actB st)
 have h2:=fresh_DR (namedM segB st.1.1) _ h1
 have h3:=putLive_DR (liveN st) _ h2
 rw [decF c1,decF c2]
 simp only [c_f]
 generalize synM d (actB st)=r1 at h1 h2 h3 ⊢
 generalize freshR (namedM segB st.1.1) r1.1=r2 at h2 h3 ⊢
 generalize putLiveR (liveN st) r2.1=r3 at h3 ⊢
 cases r1.2 != 0 with
 | true=>exact ⟨hl,h1,rfl,.inl rfl⟩
 | false =>
  cases r2.2 != 0 with
  | true=>exact ⟨hn,h2,rfl,.inl rfl⟩
  | false =>
   cases r3.2 != 0 with
   | true =>
    refine ⟨hn,?_,rfl,.inl rfl⟩
    simp only [c_t,c_f]
    unfold dropsT
    cases (tl r3).2==2 with
    | true=>exact drops_DR _ _ h3
    | false=>exact h3
   | false=>exact ⟨hg,h3,rfl,.inr rfl⟩
def zPlaceM:Ty.den TPlace:=(0,(0,(0,((0,(0,(ByteArray.empty,(ByteArray.empty,(0,(0,())))))),()))))
def sizedS (st:Ty.den TStore) (n:Int):Ty.den TStore:=(st.1,(st.2.1,(st.2.2.1,(n,st.2.2.2.2))))
def setR (st:Ty.den TStore) (d:Ty.den TDisk) (r:Ty.den TRec):(Ty.den TStore × RD) × Ty.den TPlace :=
 bif (appM d (actB st) (frameM (showRec r))).2 != 0 then ((st,tl (appM d (actB st) (frameM (showRec r)))),zPlaceM)
 else ((sizedS st (st.2.2.2.1+recLen r),((appM d (actB st) (frameM (showRec r))).1,0)),(lastI st.1.2.1,(st.2.2.2.1,(recLen r,(r,())))))
def addR (st:Ty.den TStore) (d:Ty.den TDisk) (r:Ty.den TRec):(Ty.den TStore × RD) × Ty.den TPlace :=
 bif decide (st.2.2.2.1 > 0)&&decide (st.2.2.2.1+recLen r > 200) then
  (bif (rotR st d).2.2 != 0 then (rotR st d,zPlaceM) else setR (rotR st d).1 (rotR st d).2.1 r)
 else setR st d r
def recP (p:Ty.den TPlace):Ty.den TRec:=p.2.2.2.1
theorem set_facts {st:Ty.den TStore} {d:Ty.den TDisk} (hl:liveM st.1=true) (hd:DR d) {B:Int} (h0:LE.le (α:=Int) 0 st.2.2.2.1) (h1:LE.le (α:=Int) st.2.2.2.1 B) (r:Ty.den TRec) :
 SR (setR st d r).1.1 (setR st d r).1.2 (B+211)∧(setR st d r).1.1.2.1=st.2.1∧((setR st d r).1.2.2=0→recP (setR st d r).2=r):=by
 have hr:=recLen_in r
 have ha:=app_DR hd (actB st) (frameM (showRec r))
 unfold setR
 generalize appM d (actB st) (frameM (showRec r))=a at ha ⊢
 cases c:a.2 != 0 with
 | true =>
  refine ⟨⟨hl,ha,h0,?_⟩,rfl,fun e=>?_⟩
  · show LE.le (α:=Int) st.2.2.2.1 (B+211)
    omega
  · have e:(tl a).2=0:=e
    have q:=tl_ne a
    rw [e,c] at q
    cases q
 | false =>
  refine ⟨⟨hl,ha,?_,?_⟩,rfl,fun e=>rfl⟩
  · show LE.le (α:=Int) 0 (st.2.2.2.1+recLen r)
    omega
  · show LE.le (α:=Int) (st.2.2.2.1+recLen r) (B+211)
    omega
theorem add_facts {st:Ty.den TStore} {d:Ty.den TDisk} {B:Int} (h:SR st (d,0) B) (hB:0≤B) (r:Ty.den TRec) :
 SR (addR st d r).1.1 (addR st d r).1.2 (B+211)∧(addR st d r).1.1.2.1=st.2.1∧((addR st d r).1.2.2=0→recP (addR st d r).2=r):=by
 obtain ⟨hl,hd,h0,h1⟩:=h
 unfold addR
 cases decide (st.2.2.2.1 > 0)&&decide (st.2.2.2.1+recLen r > 200) with
 | false=>exact set_facts hl hd h0 h1 r
 | true =>
  obtain ⟨g1,g2,g3,g4⟩:=rot_facts hl hd
  generalize rotR st d=q at g1 g2 g3 g4 ⊢
  have s0:LE.le (α:=Int) 0 q.1.2.2.2.1:=by rcases g4 with e | e <;> rw [e];exact h0;exact Int.le_refl _
  have s1:LE.le (α:=Int) q.1.2.2.2.1 B:=by rcases g4 with e | e <;> rw [e];exact h1;exact hB
  cases c:q.2.2 != 0 with
  | true =>
   refine ⟨⟨g1,g2,s0,?_⟩,g3,fun e=>?_⟩
   · show LE.le (α:=Int) q.1.2.2.2.1 (B+211)
     omega
   · have e:q.2.2=0:=e
     rw [e] at c
     cases c
  | false =>
   obtain ⟨k1,k2,k3⟩:=set_facts g1 g2 s0 s1 r
   exact ⟨k1,k2.trans g3,k3⟩
theorem specSet_eq {k:Nat} (hk:2 ^ 50≤k) {st:Ty.den TStore} {d:Ty.den TDisk} (hl:liveM st.1=true) (hd:DR d) (r:Ty.den TRec) (h0:LE.le (α:=Int) 0 st.2.2.2.1) (h1:LE.le (α:=Int) st.2.2.2.1 1099511627776) :
 (((spec_l12Active.f k st).bind fun r4=>((spec_Append.f k d r4.1 (frameM (showRec r))).bind fun r5=>(bif (r5.2.1 != 0) then ((spec_l11Code.f k r5.2.1).bind fun r6=>(some (st,(r5.1,(zPlaceM,r6)))))
  else (inb (w64 ((List.length st.1.2.1:Int)-1)) (List.length st.1.2.1:Int) (some ((st.1,(st.2.1,(st.2.2.1,((w64 (st.2.2.2.1+(ByteArray.size (frameM (showRec r)):Int))),st.2.2.2.2)))),(r5.1,(((List.getD st.1.2.1 (Int.toNat (w64 ((List.length st.1.2.1:Int)-1))) (Ty.dflt (.int .i64))),(st.2.2.2.1,((ByteArray.size (frameM (showRec r)):Int),(r,())))),(0,()))))))))):spec_l12Add_ga.Rs) =
 some ((setR st d r).1.1,((setR st d r).1.2.1,((setR st d r).2,((setR st d r).1.2.2,())))):=by
 obtain ⟨g1,g2,g3⟩:=last_place hl
 have hr:=recLen_in r
 have hz:((frameM (showRec r)).size:Int)=recLen r:=rfl
 rw [specActive_eq hk hl,o_s]
 simp only []
 rw [specApp_eq hk hd.sz (actB st) (t:=frameM (showRec r)) (by omega),o_s]
 unfold setR
 simp only []
 generalize appM d (actB st) (frameM (showRec r))=a
 cases c:a.2 != 0 with
 | true=>simp only [c_t,specCode_eq,o_s];rfl
 | false =>
  simp only [c_f]
  rw [inb_eq g1 g2,g3,hz,w64_eq (by omega) (by omega)]
  rfl
theorem specAdd_eq {k:Nat} (hk:2 ^ 50≤k) {st:Ty.den TStore} {d:Ty.den TDisk} {B:Int} (h:SR st (d,0) B) (hB:0≤B) (hB':B≤1000000000) (r:Ty.den TRec) :
 spec_l12Add_ga.f k st d r=some ((addR st d r).1.1,((addR st d r).1.2.1,((addR st d r).2,((addR st d r).1.2.2,())))):=by
 obtain ⟨hl,hd,h0,h1⟩:=h
 have hr:=recLen_in r
 have hz:((frameM (showRec r)).size:Int)=recLen r:=rfl
 have own:=specSet_eq (d:=d) hk hl hd r h0 (by omega)
 rw [hz,w64_eq (n:=st.2.2.2.1+recLen r) (by omega) (by omega)] at own
 unfold spec_l12Add_ga.f spec_l12Add_ga.t
 rw [specShowRec_eq hk,o_s]
 simp only []
 rw [specFrame_eq hk,o_s]
 simp only []
 rw [hz,w64_eq (n:=st.2.2.2.1+recLen r) (by omega) (by omega)]
 unfold addR
 by_cases c1:LT.lt (α:=Int) 0 st.2.2.2.1
 · rw [decT (show st.2.2.2.1 > 0 from c1),Bool.true_and,c_t]
   by_cases c2:LT.lt (α:=Int) 200 (st.2.2.2.1+recLen r)
   · rw [decT (show st.2.2.2.1+recLen r > 200 from c2),c_t,c_t,specRot_eq hk hl hd,o_s]
     simp only []
     obtain ⟨g1,g2,g3,g4⟩:=rot_facts hl hd
     generalize rotR st d=q at g1 g2 g3 g4 ⊢
     cases c:q.2.2 != 0 with
     | true=>rfl
     | false =>
      have s0:LE.le (α:=Int) 0 q.1.2.2.2.1:=by rcases g4 with e | e <;> rw [e];exact h0;exact Int.le_refl _
      have s1:LE.le (α:=Int) q.1.2.2.2.1 B:=by rcases g4 with e | e <;> rw [e];exact h1;exact hB
      exact specSet_eq hk g1 g2 r s0 (by omega)
   · rw [decF (show ¬ st.2.2.2.1+recLen r > 200 from c2),c_f,c_f]
     exact own
 · rw [decF (show ¬ st.2.2.2.1 > 0 from c1),Bool.false_and,c_f]
   exact own
theorem implSet_eq {k:Nat} (hk:2 ^ 50≤k) {st:Ty.den TStore} {d:Ty.den TDisk} (hl:liveM st.1=true) (hd:DR d) (r:Ty.den TRec) (h0:LE.le (α:=Int) 0 st.2.2.2.1) (h1:LE.le (α:=Int) st.2.2.2.1 1099511627776) :
 ∃ e,((inb (w64 ((List.length st.1.2.1:Int)-1)) (List.length st.1.2.1:Int) ((impl_Store__active.f k st).bind fun r4=>((impl_worker__put.f k (wO (d,0)) r4.2.1 (frameM (showRec r))).bind fun r5=>(bif (r5.1.2.1==0) then
  (some ((r4.1.1,(r4.1.2.1,(r4.1.2.2.1,((w64 (r4.1.2.2.2.1+(ByteArray.size (frameM (showRec r)):Int))),r4.1.2.2.2.2)))),(r5.1,((r.2.2.1,((List.getD st.1.2.1 (Int.toNat (w64 ((List.length st.1.2.1:Int)-1))) (Ty.dflt (.int .i64))),(st.2.2.2.1,((ByteArray.size (frameM (showRec r)):Int),(r.2.1,()))))),()))))
  else (some (r4.1,(r5.1,((r.2.2.1,((List.getD st.1.2.1 (Int.toNat (w64 ((List.length st.1.2.1:Int)-1))) (Ty.dflt (.int .i64))),(st.2.2.2.1,((ByteArray.size (frameM (showRec r)):Int),(r.2.1,()))))),())))))))):impl_Store__add.Rs) =
 some ((setR st d r).1.1,(wO (setR st d r).1.2,(e,())))∧((setR st d r).1.2.2=0→e=entryOf (setR st d r).2):=by
 obtain ⟨g1,g2,g3⟩:=last_place hl
 have hr:=recLen_in r
 have hz:((frameM (showRec r)).size:Int)=recLen r:=rfl
 refine ⟨(r.2.2.1,(lastI st.1.2.1,(st.2.2.2.1,(recLen r,(r.2.1,()))))),?_,?_⟩
 · rw [inb_eq g1 g2,implActive_eq hl,o_s]
   simp only []
   rw [implW_put hk (d,0) hd (actB st) (t:=frameM (showRec r)) (by omega),o_s,wk_zero]
   unfold setR
   simp only []
   generalize appM d (actB st) (frameM (showRec r))=a
   rw [show (wO (tl a)).2.1=(tl a).2 from rfl,g3,hz]
   have q:=tl_ne a
   unfold bne at q ⊢
   cases c:a.2==0 with
   | true =>
    rw [c] at q
    have q:((tl a).2==0)=true:=by simpa using q
    rw [q,tl_zero c]
    simp only [c_t,c_f,n_t]
    rw [w64_eq (by omega) (by omega)]
    rfl
   | false =>
    rw [c] at q
    have q:((tl a).2==0)=false:=by simpa using q
    rw [q]
    rfl
 · unfold setR
   generalize appM d (actB st) (frameM (showRec r))=a
   cases c:a.2 != 0 with
   | true =>
    intro e
    have e:(tl a).2=0:=e
    have q:=tl_ne a
    rw [e,c] at q
    cases q
   | false=>exact fun _=>rfl
theorem implAdd_eq {k:Nat} (hk:2 ^ 50≤k) {st:Ty.den TStore} {d:Ty.den TDisk} {B:Int} (h:SR st (d,0) B) (hB:0≤B) (hB':B≤1000000000) (r:Ty.den TRec) :
 ∃ e,impl_Store__add.f k st (wO (d,0)) r=some ((addR st d r).1.1,(wO (addR st d r).1.2,(e,())))∧((addR st d r).1.2.2=0→e=entryOf (addR st d r).2):=by
 obtain ⟨hl,hd,h0,h1⟩:=h
 have hr:=recLen_in r
 have hz:((frameM (showRec r)).size:Int)=recLen r:=rfl
 have own:=implSet_eq (d:=d) hk hl hd r h0 (by omega)
 have e1:w64 (st.2.2.2.1+((frameM (showRec r)).size:Int))=st.2.2.2.1+recLen r:=w64_eq (by omega) (by omega)
 have hw:((wO (d,0)).2.1 != 0)=false:=rfl
 unfold impl_Store__add.f impl_Store__add.t
 rw [implShowRec_eq hk,o_s]
 simp only []
 rw [implFrame_eq hk,o_s]
 simp only []
 rw [hw]
 simp only [c_f]
 unfold addR
 rw [e1]
 by_cases c1:LT.lt (α:=Int) 0 st.2.2.2.1
 · rw [decT (show st.2.2.2.1 > 0 from c1)]
   simp only [Bool.true_and,c_t]
   by_cases c2:LT.lt (α:=Int) 200 (st.2.2.2.1+recLen r)
   · rw [decT (show st.2.2.2.1+recLen r > 200 from c2)]
     simp only [c_t]
     rw [implRot_eq hk hl hd,o_s]
     simp only []
     obtain ⟨g1,g2,g3,g4⟩:=rot_facts hl hd
     generalize rotR st d=q at g1 g2 g3 g4 ⊢
     rw [show (wO q.2).2.1=q.2.2 from rfl]
     cases c:q.2.2 != 0 with
     | true =>
      refine ⟨_,rfl,fun e=>?_⟩
      have e:q.2.2=0:=e
      rw [e] at c
      cases c
     | false =>
      have s0:LE.le (α:=Int) 0 q.1.2.2.2.1:=by rcases g4 with e | e <;> rw [e];exact h0;exact Int.le_refl _
      have s1:LE.le (α:=Int) q.1.2.2.2.1 B:=by rcases g4 with e | e <;> rw [e];exact h1;exact hB
      have e2:wO q.2=wO (q.2.1,0):=by
       have:q.2.2=0:=by unfold bne at c;simpa using c
       show (q.2.1,(q.2.2,()))=(q.2.1,((0:Int),()))
       rw [this]
      simp only [c_f]
      rw [e2]
      exact implSet_eq hk g1 g2 r s0 (by omega)
   · rw [decF (show ¬ st.2.2.2.1+recLen r > 200 from c2)]
     simp only [c_f]
     exact own
 · rw [decF (show ¬ st.2.2.2.1 > 0 from c1)]
   simp only [Bool.false_and,c_f]
   exact own
end Go.Proofs.YtejgkmhpmhfnbaaGreatDoor.G
namespace Go.Proofs.YtejgkmhpmhfnbaaGreatDoor.G
open Go.V
def addsR:RecL→Ty.den TStore→Ty.den TDisk→PlaceL→(Ty.den TStore × RD) × PlaceL
 | [],st,d,ps=>((st,(d,0)),ps)
 | r::l,st,d,ps=>bif (addR st d r).1.2.2 != 0 then ((addR st d r).1,ps) else addsR l (addR st d r).1.1 (addR st d r).1.2.1 (ps++[(addR st d r).2])
def dirS (st:Ty.den TStore) (dir:EntryL):Ty.den TStore:=(st.1,(dir,st.2.2))
def endR (n:Nat) (q:(Ty.den TStore × RD) × PlaceL):Ty.den TStore × RD :=
 bif q.1.2.2 != 0 then q.1 else bif (synM q.1.2.1 (actB q.1.1)).2 != 0 then (q.1.1,tl (synM q.1.2.1 (actB q.1.1))) else (dirS q.1.1 (applyM q.1.1.2.1 (q.2.take n)),((synM q.1.2.1 (actB q.1.1)).1,0))
def batS (st:Ty.den TStore):Ty.den TStore:=(st.1,(st.2.1,(st.2.2.1+1,st.2.2.2)))
def writeR (st:Ty.den TStore) (d:Ty.den TDisk) (l:PutL):Ty.den TStore × RD:=endR l.length (addsR (recsM l st.2.2.1) (batS st) d [])
theorem adds_facts:∀ (l:RecL) (st:Ty.den TStore) (d:Ty.den TDisk) (ps:PlaceL) (B:Int),SR st (d,0) B→0≤B →
 SR (addsR l st d ps).1.1 (addsR l st d ps).1.2 (B+211*(l.length:Int))∧(addsR l st d ps).1.1.2.1=st.2.1∧((addsR l st d ps).1.2.2=0→(addsR l st d ps).2.map recP=ps.map recP++l)
 | [],st,d,ps,B,h,_=>⟨⟨h.live,h.disk,h.lo,by have:=h.hi;show LE.le (α:=Int) st.2.2.2.1 _;rw [List.length_nil];omega⟩,rfl,fun _=>(List.append_nil _).symm⟩
 | r::l,st,d,ps,B,h,hB=>by
  obtain ⟨g1,g2,g3⟩:=add_facts h hB r
  unfold addsR
  have el:((r::l).length:Int)=(l.length:Int)+1:=by rw [l_c];omega
  cases c:(addR st d r).1.2.2 != 0 with
  | true =>
   refine ⟨⟨g1.live,g1.disk,g1.lo,?_⟩,g2,fun e=>?_⟩
   · have:=g1.hi
     show LE.le (α:=Int) (addR st d r).1.1.2.2.2.1 _
     omega
   · have e:(addR st d r).1.2.2=0:=e
     rw [e] at c
     cases c
  | false =>
   have e0:(addR st d r).1.2.2=0:=by unfold bne at c;simpa using c
   obtain ⟨k1,k2,k3⟩:=adds_facts l (addR st d r).1.1 (addR st d r).1.2.1 (ps++[(addR st d r).2]) (B+211) ⟨g1.live,g1.disk,g1.lo,g1.hi⟩ (by omega)
   refine ⟨⟨k1.live,k1.disk,k1.lo,?_⟩,k2.trans g2,fun e=>?_⟩
   · have:=k1.hi
     show LE.le (α:=Int) (addsR l (addR st d r).1.1 (addR st d r).1.2.1 (ps++[(addR st d r).2])).1.1.2.2.2.1 _
     omega
   · have:=k3 e
     show (addsR l (addR st d r).1.1 (addR st d r).1.2.1 (ps++[(addR st d r).2])).2.map recP=_
     rw [this,List.map_append,List.map_singleton,g3 e0,a_a]
     rfl
def dirW:EntryL→PutL→EntryL→EntryL
 | dir,[],_=>dir
 | dir,_::_,[]=>dir
 | dir,p::l,e::es=>dirW (bif p.2.1 then dropM dir p.1 else putM dir e) l es
theorem dirW_nil (dir:EntryL) (es:EntryL):dirW dir [] es=dir:=by cases es <;> rfl
theorem dirW_apply (b:Int):∀ (l:PutL) (ps:PlaceL) (q:RecL) (dir:EntryL),ps.map recP=l.map (putR b)++q→dirW dir l (ps.map entryOf)=applyM dir (ps.take l.length)
 | [],ps,q,dir,h=>by rw [List.length_nil,List.take_zero,dirW_nil];rfl
 | x::l,[],q,dir,h=>by cases h
 | x::l,p::ps,q,dir,h=>by
  rw [List.map_cons,List.map_cons,List.cons_append] at h
  injection h with h1 h2
  rw [List.map_cons,l_c,List.take_succ_cons]
  unfold dirW applyM
  rw [List.foldl_cons,dirW_apply b l ps q _ h2]
  unfold applyM
  congr 1
  unfold stepDir
  rw [show p.2.2.2.1=putR b x from h1]
  unfold putR
  cases x.2.1 <;> rfl
def keyE (p:Ty.den TPut):Ty.den TEntry:=(p.1,(0,(0,(0,(0,())))))
def afterM (dir:EntryL) (l:PutL):Int:=((dirW dir l (l.map keyE)).length:Int)
theorem put_len (l:EntryL) (e:Ty.den TEntry):(putM l e).length≤l.length+1:=by
 unfold putM
 rw [insE_len]
 have:=dropM_len l e.1
 omega
theorem specAfter_eq {k:Nat} (hk:2 ^ 50≤k) {dir:EntryL} (hd:dir.length≤536870912) {l:PutL} (hl:l.length≤1000):spec_l12After.f k dir l=some (afterM dir l,()):=by
 have key:∀ (n:Nat) (i:Int) (s:EntryL),0≤i→i≤(l.length:Int)→(l.length:Int)-i<n→(s.length:Int)≤536870912+i→spec_l12After.l1 k n l i s=some (afterM s (l.drop i.toNat),()):=fun n i s h0 h1 h2 hs=>by
  refine forL (L:=fun n i (s:EntryL)=>spec_l12After.l1 k n l i s) (R:=fun r s=>some (afterM s r,())) (Ty.dflt TPut) l (fun i s=>(s.length:Int)≤536870912+i) (fun n s hs=>?_) (fun n i s x rest h0 h1 hx hr hp ih=>?_) n i s h0 h1 h2 hs
  · simp (disch:=omega) only [spec_l12After.l1,spec_l12After.b1,decF,c_f]
    rfl
  · simp only [spec_l12After.l1,spec_l12After.b1]
    rw [decT h1,c_t,inb_eq h0 h1,hx,w64_eq (n:=i+1) (by omega) (by omega)]
    unfold afterM
    simp only [List.map_cons,dirW]
    cases c:x.2.1 with
    | true =>
     have:=dropM_len s x.1
     simp only [c_t]
     rw [inb_eq h0 h1,specDirDrop_eq hk x.1 (by omega),o_s]
     exact ih (dropM s x.1) (by omega)
    | false =>
     have:=put_len s (keyE x)
     have e:=specDirPut_eq hk (l:=s) (keyE x) (by omega)
     unfold keyE at e
     simp only [c_f]
     rw [inb_eq h0 h1,e,o_s]
     exact ih (putM s (keyE x)) (by omega)
 obtain ⟨q,hq⟩:∃ q,k=q+1:=⟨k-1,by omega⟩
 have k1:=key (q+1) 0 dir (by omega) (by omega) (by omega) (by omega)
 unfold spec_l12After.f spec_l12After.t
 rw [show l.drop (0:Int).toNat=l from rfl] at k1
 refine Eq.trans ?_ k1
 rw [show spec_l12After.l0 k k=spec_l12After.l0 k (q+1) by rw [← hq]]
 rfl
theorem dirG_loop {k:Nat} (hk:2 ^ 50≤k) {l:PutL} (hl:l.length≤1000) {es:EntryL} (he:l.length≤es.length) {L:Nat→Int→EntryL→impl_dirWith.Rs}
 (hL:∀ n i s,L (n+1) i s=bif decide (i<(l.length:Int)) then inb i (l.length:Int) (bif (l.getD i.toNat (Ty.dflt TPut)).2.1 then ((impl_DirDrop.f k s (l.getD i.toNat (Ty.dflt TPut)).1).bind fun r=>L n (w64 (i+1)) r.1) else
  (inb i (es.length:Int) ((impl_DirPut.f k s (es.getD i.toNat (Ty.dflt TEntry))).bind fun r=>L n (w64 (i+1)) r.1))) else some (s,()))
 (n:Nat) (i:Int) (s:EntryL) (h0:0≤i) (h1:i≤(l.length:Int)) (h2:(l.length:Int)-i<n) (hs:(s.length:Int)≤536870912+i):L n i s=some (dirW s (l.drop i.toNat) (es.drop i.toNat),()):=by
 refine forI (L:=L) (R:=fun i s=>some (dirW s (l.drop i.toNat) (es.drop i.toNat),())) (l.length:Int) (fun i s=>(s.length:Int)≤536870912+i) (fun n s hs=>?_) (fun n i s h0 h1 hp ih=>?_) n i s h0 h1 h2 hs
 · rw [hL,decF (by omega),c_f,Int.toNat_natCast,List.drop_length,dirW_nil]
 · have hi:i.toNat<l.length:=by omega
   have hj:i.toNat<es.length:=by omega
   have e1:l.drop i.toNat=l.getD i.toNat (Ty.dflt TPut)::l.drop (i+1).toNat:=by
    rw [List.drop_eq_getElem_cons hi,show (i+1).toNat=i.toNat+1 by omega]
    simp [List.getD,hi]
   have e2:es.drop i.toNat=es.getD i.toNat (Ty.dflt TEntry)::es.drop (i+1).toNat:=by
    rw [List.drop_eq_getElem_cons hj,show (i+1).toNat=i.toNat+1 by omega]
    simp [List.getD,hj]
   rw [hL,decT h1,c_t,inb_eq h0 h1,e1,e2]
   simp only [dirW]
   generalize l.getD i.toNat (Ty.dflt TPut)=x
   generalize es.getD i.toNat (Ty.dflt TEntry)=e
   rw [w64_eq (n:=i+1) (by omega) (by omega),inb_eq h0 (by omega)]
   cases c:x.2.1 with
   | true =>
    have:=dropM_len s x.1
    simp only [c_t]
    rw [implDirDrop_eq hk x.1 (by omega),o_s]
    exact ih (dropM s x.1) (by omega)
   | false =>
    have:=put_len s e
    simp only [c_f]
    rw [implDirPut_eq hk e (by omega),o_s]
    exact ih (putM s e) (by omega)
theorem implDirG_eq {k:Nat} (hk:2 ^ 50≤k) {dir:EntryL} (hd:dir.length≤536870912) {l:PutL} (hl:l.length≤1000) {es:EntryL} (he:l.length≤es.length):impl_dirWith_g.f k dir l es=some (dirW dir l es,()):=by
 unfold impl_dirWith_g.f impl_dirWith_g.t
 exact dirG_loop hk hl he (L:=fun n i s=>impl_dirWith_g.l0 k n es l l.length i s) (fun n i s=>rfl) k 0 dir (by omega) (by omega) (by omega) (by omega)
theorem implDir1_eq {k:Nat} (hk:2 ^ 50≤k) {dir:EntryL} (hd:dir.length≤536870912) {l:PutL} (hl:l.length≤1000) {es:EntryL} (he:l.length≤es.length):impl_dirWith.f k dir l es=some (dirW dir l es,()):=by
 obtain ⟨q,hq⟩:∃ q,k=q+1:=⟨k-1,by omega⟩
 have k1:=dirG_loop hk hl he (L:=fun n i s=>impl_dirWith.l1 k n es l l.length i s) (fun n i s=>rfl) (q+1) 0 dir (by omega) (by omega) (by omega) (by omega)
 unfold impl_dirWith.f impl_dirWith.t
 refine Eq.trans ?_ k1
 rw [show impl_dirWith.l0 k k=impl_dirWith.l0 k (q+1) by rw [← hq]]
 rfl
theorem implKeys2_eq {k:Nat} (hk:2 ^ 50≤k) {dir:EntryL} (hd:dir.length≤536870912) {l:PutL} (hl:l.length≤1000):impl_keysWith.f k dir l=some (afterM dir l,()):=by
 unfold impl_keysWith.f impl_keysWith.t afterM
 refine (forL0 (L:=fun n i (s:EntryL)=>impl_keysWith.l0 k n dir l l l.length i s) (R:=fun r s=>if (s++r.map keyE).length=l.length then some (((dirW dir l (s++r.map keyE)).length:Int),()) else none) (Ty.dflt TPut) l (fun i s=>(s.length:Int)=i) (fun n s hs=>?_) (fun n i s x rest h0 h1 hx hr hp ih=>?_) (n:=k) (s:=[]) (by omega) rfl).trans ?_
 · simp (disch:=omega) only [impl_keysWith.l0,impl_keysWith.b0,decF,c_f]
   rw [implDir1_eq hk hd hl (by omega),o_s,List.map_nil,List.append_nil,if_pos (by omega)]
 · simp (disch:=first | omega | decide) only [impl_keysWith.l0,impl_keysWith.b0,decT,c_t,inb_eq,hx,rm_ok,w64_eq]
   refine (ih (s++[keyE x]) (by rw [l_a,List.length_singleton];omega)).trans ?_
   rw [a_a]
   rfl
 · rw [List.nil_append,if_pos (List.length_map ..)]
end Go.Proofs.YtejgkmhpmhfnbaaGreatDoor.G

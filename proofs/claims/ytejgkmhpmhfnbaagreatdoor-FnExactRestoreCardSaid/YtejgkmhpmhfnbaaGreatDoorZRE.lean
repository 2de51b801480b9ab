/- Values are weighed, copied and compared as they should be: plain laws. -/
import Derived.Test.YtejgkmhpmhfnbaaGreatDoorFR
import Derived.Test.YtejgkmhpmhfnbaaGreatDoorVMark
set_option linter.unusedVariables false
set_option linter.unusedSimpArgs false
namespace Go.Proofs.YtejgkmhpmhfnbaaGreatDoor.G
open Go.V
theorem szPair_ev (x:Ty.den TPair) (hw:Wf TPair x) (left:Int) (h0:0≤left) (h1:left≤1048576):Ev (fun k=>laws_szPair.f k x left) (sz (weight TPair x) left,()):=by
 have e:weight TPair x=(x.1.size+(x.2.1.size+(0+0))):=rfl
 rw [e]
 show Ev (fun k=>laws_szPair.t k x left) _
 unfold laws_szPair.t
 have a0:x.1.size≤reachBytes:=hw.1
 rw [reach_eq] at a0
 have w0:w64 (left-(x.1.size:Int))=left-(x.1.size:Int):=w64_eq (by omega) (by omega)
 by_cases c0:left-(x.1.size:Int)<0
 · refine Ev.of fun k=>?_
   simp only [w0,decide_eq_true c0,cond_true]
   rw [sz_bad (by omega)]
 simp only [w0,decide_eq_false c0,cond_false]
 have a1:x.2.1.size≤reachBytes:=hw.2.1
 rw [reach_eq] at a1
 have w1:w64 (left-(x.1.size:Int)-(x.2.1.size:Int))=left-(x.1.size:Int)-(x.2.1.size:Int):=w64_eq (by omega) (by omega)
 by_cases c1:left-(x.1.size:Int)-(x.2.1.size:Int)<0
 · refine Ev.of fun k=>?_
   simp only [w1,decide_eq_true c1,cond_true]
   rw [sz_bad (by omega)]
 simp only [w1,decide_eq_false c1,cond_false]
 refine Ev.of fun k=>?_
 rw [sz_ok (by omega)]
 congr 2
 try omega
theorem szPairS_ev (l:List (Ty.den TPair)) (hw:Wf (.slice TPair) l) (left:Int) (h0:0≤left) (h1:left≤1048576):Ev (fun k=>laws_szPairS.f k l left) (sz (weight (.slice TPair) l) left,()) :=
 szS'_ev (l:=laws_szPairS.l0) (f:=laws_szPair.f) (fun _ _ _ _ _=>rfl) hw (fun x hx left h0 h1=>szPair_ev x hx left h0 h1) h0 h1 (fun k=>rfl)
theorem toPair_ev (x:Ty.den TPair) (hl:weight TPair x≤1048576):Ev (fun k=>laws_toPair.f k x) (x,()):=by
 have e:weight TPair x=(x.1.size+(x.2.1.size+(0+0))):=rfl
 show Ev (fun k=>laws_toPair.t k x) _
 unfold laws_toPair.t
 exact Ev.of fun k=>rfl
theorem toPairS_ev (l:List (Ty.den TPair)) (hl:weight (.slice TPair) l≤1048576):Ev (fun k=>laws_toPairS.f k l) (l,()) :=
 toS'_ev (l:=laws_toPairS.l0) (f:=laws_toPair.f) (fun _ _ _ _ _=>rfl) (fun x hx=>toPair_ev x hx) hl (by decide) (fun k=>rfl)
theorem eqIntS_ev (l:List (Ty.den (.int .i64))) (hl:wp (.slice (.int .i64)) l≤4398046511104):Ev (fun k=>laws_eqIntS.f k l l) (true,()) :=
 eqS0_ev (t:=(.int .i64)) (l:=laws_eqIntS.l0) (c:=fun a b=>a != b) (fun _ _ _ _ _=>rfl) (fun x=>by simp) (wp_len hl) (fun k=>rfl)
theorem eqLive_ev (x:Ty.den TLive) (hl:wp TLive x≤4398046511104):Ev (fun k=>laws_eqLive.f k x x) (true,()):=by
 have e:wp TLive x=(0+(wp (.slice (.int .i64)) x.2.1+0)):=rfl
 show Ev (fun k=>laws_eqLive.t k x x) _
 unfold laws_eqLive.t
 simp only [seq_refl,bne_self_eq_false,beq_self_eq_true,Bool.not_true,cond_false]
 refine Ev.bind (eqIntS_ev x.2.1 (by omega)) ?_
 simp only [seq_refl,bne_self_eq_false,beq_self_eq_true,Bool.not_true,cond_false]
 exact Ev.of fun k=>rfl
theorem eqEntry_ev (x:Ty.den TEntry) (hl:wp TEntry x≤4398046511104):Ev (fun k=>laws_eqEntry.f k x x) (true,()):=by
 have e:wp TEntry x=(0+(0+(0+(0+(0+0))))):=rfl
 show Ev (fun k=>laws_eqEntry.t k x x) _
 unfold laws_eqEntry.t
 simp only [seq_refl,bne_self_eq_false,beq_self_eq_true,Bool.not_true,cond_false]
 exact Ev.of fun k=>rfl
theorem eqEntryS_ev (l:List (Ty.den TEntry)) (hl:wp (.slice TEntry) l≤4398046511104):Ev (fun k=>laws_eqEntryS.f k l l) (true,()) :=
 eqS'_ev (l:=laws_eqEntryS.l0) (f:=laws_eqEntry.f) (fun _ _ _ _ _=>rfl) (fun x hx=>eqEntry_ev x hx) hl (fun k=>rfl)
theorem eqStore_ev (x:Ty.den TStore) (hl:wp TStore x≤4398046511104):Ev (fun k=>laws_eqStore.f k x x) (true,()):=by
 have e:wp TStore x=(wp TLive x.1+(wp (.slice TEntry) x.2.1+(0+(0+(0+0))))):=rfl
 show Ev (fun k=>laws_eqStore.t k x x) _
 unfold laws_eqStore.t
 refine Ev.bind (eqLive_ev x.1 (by omega)) ?_
 simp only [seq_refl,bne_self_eq_false,beq_self_eq_true,Bool.not_true,cond_false]
 refine Ev.bind (eqEntryS_ev x.2.1 (by omega)) ?_
 simp only [seq_refl,bne_self_eq_false,beq_self_eq_true,Bool.not_true,cond_false]
 exact Ev.of fun k=>rfl
theorem eqFile_ev (x:Ty.den TPair) (hl:wp TPair x≤4398046511104):Ev (fun k=>laws_eqFile.f k x x) (true,()):=by
 have e:wp TPair x=(0+(0+(0+0))):=rfl
 show Ev (fun k=>laws_eqFile.t k x x) _
 unfold laws_eqFile.t
 simp only [seq_refl,bne_self_eq_false,beq_self_eq_true,Bool.not_true,cond_false]
 exact Ev.of fun k=>rfl
theorem eqFileS_ev (l:List (Ty.den TPair)) (hl:wp (.slice TPair) l≤4398046511104):Ev (fun k=>laws_eqFileS.f k l l) (true,()) :=
 eqS'_ev (l:=laws_eqFileS.l0) (f:=laws_eqFile.f) (fun _ _ _ _ _=>rfl) (fun x hx=>eqFile_ev x hx) hl (fun k=>rfl)
theorem eqDisk_ev (x:Ty.den TDisk) (hl:wp TDisk x≤4398046511104):Ev (fun k=>laws_eqDisk.f k x x) (true,()):=by
 have e:wp TDisk x=(wp (.slice TPair) x.1+(0+(0+(0+0)))):=rfl
 show Ev (fun k=>laws_eqDisk.t k x x) _
 unfold laws_eqDisk.t
 refine Ev.bind (eqFileS_ev x.1 (by omega)) ?_
 simp only [seq_refl,bne_self_eq_false,beq_self_eq_true,Bool.not_true,cond_false]
 exact Ev.of fun k=>rfl
theorem eqPair_ev (x:Ty.den TPair) (hl:wp TPair x≤4398046511104):Ev (fun k=>laws_eqPair.f k x x) (true,()):=by
 have e:wp TPair x=(0+(0+(0+0))):=rfl
 show Ev (fun k=>laws_eqPair.t k x x) _
 unfold laws_eqPair.t
 simp only [seq_refl,bne_self_eq_false,beq_self_eq_true,Bool.not_true,cond_false]
 exact Ev.of fun k=>rfl
theorem eqPairS_ev (l:List (Ty.den TPair)) (hl:wp (.slice TPair) l≤4398046511104):Ev (fun k=>laws_eqPairS.f k l l) (true,()) :=
 eqS'_ev (l:=laws_eqPairS.l0) (f:=laws_eqPair.f) (fun _ _ _ _ _=>rfl) (fun x hx=>eqPair_ev x hx) hl (fun k=>rfl)
theorem markText_ev (a:Int) (h:a≤1125899906842624):Ev (fun k=>laws_markText.f k a) (mt a,()) :=
 mt_ev (l:=laws_markText.l0) (fun _ _ _ _=>rfl) (fun _=>rfl) h
def MPairS (kk:Int) (x:Ty.den TPair):Ty.den TPair:=(mt (kk),(mt (kk+1),(kk+1+1,x.2.2.2)))
def mkPairS (kk:Int) (l:List (Ty.den TPair)):List (Ty.den TPair):=marked (t:=TPair) MPairS 3 kk l
theorem markPairS_ev (l:List (Ty.den TPair)) (hl:l.length≤4398046511104) (kk:Int) (h0:0≤kk) (h1:kk≤140737488355328):Ev (fun k=>laws_markPairS.f k l kk) (mkPairS kk l,(kk+(3:Nat)*(l.length:Int),())):=by
 have round:∀ (a0:List (Ty.den TPair)) (a1 kk:Int) (i:Nat) (xs:List (Ty.den TPair)),i<xs.length→xs.length≤4398046511104→0≤kk→kk≤562949953421312→∀ r,
  Ev2 (fun k n=>laws_markPairS.l0 k a0 a1 n (kk+(3:Nat)) ((i+1:Nat):Int) (xs.set i (MPairS kk (xs.getD i (Ty.dflt TPair))))) r→Ev2 (fun k n=>laws_markPairS.l0 k a0 a1 n kk (i:Int) xs) r:=by
  intro a0 a1 kk i xs hi hl h0 h1 r hr
  refine Ev2.step (b:=fun k n=>laws_markPairS.b0 k a0 a1 (laws_markPairS.l0 k a0 a1 n) kk i xs) (fun k n=>rfl) ?_
  have hi2:(i:Int)<(xs.length:Int):=by omega
  have hs:w64 ((i:Int)+1)=((i+1:Nat):Int):=by rw [w64_eq (by omega) (by omega)];rfl
  have w1:w64 (kk+1)=kk+1:=w64_eq (by omega) (by omega)
  have w2:w64 (kk+1+1)=kk+1+1:=w64_eq (by omega) (by omega)
  have w3:w64 (kk+1+1+1)=kk+1+1+1:=w64_eq (by omega) (by omega)
  unfold laws_markPairS.b0
  simp only [decide_eq_true hi2,cond_true,hs,w1,w2,w3]
  try simp only [w1,w2,w3,inb_eq (Int.natCast_nonneg i) hi2,List.length_set,toNat_ofNat,getD_set_self (t:=TPair) (xs:=xs) hi,List.set_set]
  refine Ev2.bind (markText_ev (kk) (by omega)) ?_
  try simp only [w1,w2,w3,inb_eq (Int.natCast_nonneg i) hi2,List.length_set,toNat_ofNat,getD_set_self (t:=TPair) (xs:=xs) hi,List.set_set]
  refine Ev2.bind (markText_ev (kk+1) (by omega)) ?_
  try simp only [w1,w2,w3,inb_eq (Int.natCast_nonneg i) hi2,List.length_set,toNat_ofNat,getD_set_self (t:=TPair) (xs:=xs) hi,List.set_set]
  rw [show kk+((3:Nat):Int)=kk+1+1+1 by omega] at hr
  exact hr
 have:=(markS_ev (t:=TPair) (l:=fun k n=>laws_markPairS.l0 k l kk n) (M:=MPairS) (c:=3) (round l kk) (fun kk' i xs h=>by
  refine Ev2.step (b:=fun k n=>laws_markPairS.b0 k l kk (laws_markPairS.l0 k l kk n) kk' i xs) (fun k n=>rfl) (Ev2.of fun k n=>?_)
  unfold laws_markPairS.b0
  rw [decide_eq_false (by omega),cond_false]) l.length 0 kk l (by omega) (by omega) hl h0 (by omega)).diag
 exact this
def MIntS (kk:Int) (x:Int):Int:=kk
def mkIntS (kk:Int) (l:List (Int)):List (Int):=marked (t:=(.int .i64)) MIntS 1 kk l
theorem markIntS_ev (l:List (Int)) (hl:l.length≤4398046511104) (kk:Int) (h0:0≤kk) (h1:kk≤140737488355328):Ev (fun k=>laws_markIntS.f k l kk) (mkIntS kk l,(kk+(1:Nat)*(l.length:Int),())):=by
 have round:∀ (a0:List (Int)) (a1 kk:Int) (i:Nat) (xs:List (Int)),i<xs.length→xs.length≤4398046511104→0≤kk→kk≤562949953421312→∀ r,
  Ev2 (fun k n=>laws_markIntS.l0 k a0 a1 n (kk+(1:Nat)) ((i+1:Nat):Int) (xs.set i (MIntS kk (xs.getD i (Ty.dflt (.int .i64)))))) r→Ev2 (fun k n=>laws_markIntS.l0 k a0 a1 n kk (i:Int) xs) r:=by
  intro a0 a1 kk i xs hi hl h0 h1 r hr
  refine Ev2.step (b:=fun k n=>laws_markIntS.b0 k a0 a1 (laws_markIntS.l0 k a0 a1 n) kk i xs) (fun k n=>rfl) ?_
  have hi2:(i:Int)<(xs.length:Int):=by omega
  have hs:w64 ((i:Int)+1)=((i+1:Nat):Int):=by rw [w64_eq (by omega) (by omega)];rfl
  have w1:w64 (kk+1)=kk+1:=w64_eq (by omega) (by omega)
  unfold laws_markIntS.b0
  simp only [decide_eq_true hi2,cond_true,hs,w1]
  try simp only [w1,inb_eq (Int.natCast_nonneg i) hi2,List.length_set,toNat_ofNat,getD_set_self (t:=(.int .i64)) (xs:=xs) hi,List.set_set]
  rw [show kk+((1:Nat):Int)=kk+1 by omega] at hr
  exact hr
 have:=(markS_ev (t:=(.int .i64)) (l:=fun k n=>laws_markIntS.l0 k l kk n) (M:=MIntS) (c:=1) (round l kk) (fun kk' i xs h=>by
  refine Ev2.step (b:=fun k n=>laws_markIntS.b0 k l kk (laws_markIntS.l0 k l kk n) kk' i xs) (fun k n=>rfl) (Ev2.of fun k n=>?_)
  unfold laws_markIntS.b0
  rw [decide_eq_false (by omega),cond_false]) l.length 0 kk l (by omega) (by omega) hl h0 (by omega)).diag
 exact this
def mkLive (kk:Int) (x:Ty.den TLive):Ty.den TLive:=(x.1,(mkIntS (kk) x.2.1,x.2.2))
def ctLive (x:Ty.den TLive):Int:=0+(1:Nat)*(x.2.1.length:Int)
theorem ctLive_le (x:Ty.den TLive):0≤ctLive x∧ctLive x≤16*(wp TLive x:Int):=by
 have e:wp TLive x=(0+(wp (.slice (.int .i64)) x.2.1+0)):=rfl
 have b0:x.2.1.length≤wp (.slice (.int .i64)) x.2.1:=wp_len (t:=(.int .i64)) (Nat.le_refl _)
 unfold ctLive
 omega
theorem markLive_ev (x:Ty.den TLive) (hl:wp TLive x≤4398046511104) (kk:Int) (h0:0≤kk) (h1:kk≤35184372088832):Ev (fun k=>laws_markLive.f k x kk) (mkLive kk x,(kk+ctLive x,())):=by
 have e:wp TLive x=(0+(wp (.slice (.int .i64)) x.2.1+0)):=rfl
 have b0:x.2.1.length≤4398046511104:=wp_len (t:=(.int .i64)) (l:=x.2.1) (by omega)
 show Ev (fun k=>laws_markLive.t k x kk) _
 unfold laws_markLive.t
 refine Ev.bind (markIntS_ev x.2.1 b0 (kk) (by omega) (by omega)) ?_
 rw [show kk+ctLive x=kk+(1:Nat)*(x.2.1.length:Int) by unfold ctLive;omega]
 exact Ev.of fun k=>rfl
def MEntryS (kk:Int) (x:Ty.den TEntry):Ty.den TEntry:=(mt (kk),(kk+1,(kk+1+1,(kk+1+1+1,(kk+1+1+1+1,x.2.2.2.2.2)))))
def mkEntryS (kk:Int) (l:List (Ty.den TEntry)):List (Ty.den TEntry):=marked (t:=TEntry) MEntryS 5 kk l
theorem markEntryS_ev (l:List (Ty.den TEntry)) (hl:l.length≤4398046511104) (kk:Int) (h0:0≤kk) (h1:kk≤140737488355328):Ev (fun k=>laws_markEntryS.f k l kk) (mkEntryS kk l,(kk+(5:Nat)*(l.length:Int),())):=by
 have round:∀ (a0:List (Ty.den TEntry)) (a1 kk:Int) (i:Nat) (xs:List (Ty.den TEntry)),i<xs.length→xs.length≤4398046511104→0≤kk→kk≤562949953421312→∀ r,
  Ev2 (fun k n=>laws_markEntryS.l0 k a0 a1 n (kk+(5:Nat)) ((i+1:Nat):Int) (xs.set i (MEntryS kk (xs.getD i (Ty.dflt TEntry))))) r→Ev2 (fun k n=>laws_markEntryS.l0 k a0 a1 n kk (i:Int) xs) r:=by
  intro a0 a1 kk i xs hi hl h0 h1 r hr
  refine Ev2.step (b:=fun k n=>laws_markEntryS.b0 k a0 a1 (laws_markEntryS.l0 k a0 a1 n) kk i xs) (fun k n=>rfl) ?_
  have hi2:(i:Int)<(xs.length:Int):=by omega
  have hs:w64 ((i:Int)+1)=((i+1:Nat):Int):=by rw [w64_eq (by omega) (by omega)];rfl
  have w1:w64 (kk+1)=kk+1:=w64_eq (by omega) (by omega)
  have w2:w64 (kk+1+1)=kk+1+1:=w64_eq (by omega) (by omega)
  have w3:w64 (kk+1+1+1)=kk+1+1+1:=w64_eq (by omega) (by omega)
  have w4:w64 (kk+1+1+1+1)=kk+1+1+1+1:=w64_eq (by omega) (by omega)
  have w5:w64 (kk+1+1+1+1+1)=kk+1+1+1+1+1:=w64_eq (by omega) (by omega)
  unfold laws_markEntryS.b0
  simp only [decide_eq_true hi2,cond_true,hs,w1,w2,w3,w4,w5]
  try simp only [w1,w2,w3,w4,w5,inb_eq (Int.natCast_nonneg i) hi2,List.length_set,toNat_ofNat,getD_set_self (t:=TEntry) (xs:=xs) hi,List.set_set]
  refine Ev2.bind (markText_ev (kk) (by omega)) ?_
  try simp only [w1,w2,w3,w4,w5,inb_eq (Int.natCast_nonneg i) hi2,List.length_set,toNat_ofNat,getD_set_self (t:=TEntry) (xs:=xs) hi,List.set_set]
  rw [show kk+((5:Nat):Int)=kk+1+1+1+1+1 by omega] at hr
  exact hr
 have:=(markS_ev (t:=TEntry) (l:=fun k n=>laws_markEntryS.l0 k l kk n) (M:=MEntryS) (c:=5) (round l kk) (fun kk' i xs h=>by
  refine Ev2.step (b:=fun k n=>laws_markEntryS.b0 k l kk (laws_markEntryS.l0 k l kk n) kk' i xs) (fun k n=>rfl) (Ev2.of fun k n=>?_)
  unfold laws_markEntryS.b0
  rw [decide_eq_false (by omega),cond_false]) l.length 0 kk l (by omega) (by omega) hl h0 (by omega)).diag
 exact this
def mkStore (kk:Int) (x:Ty.den TStore):Ty.den TStore:=(mkLive (kk) x.1,(mkEntryS (kk+ctLive x.1) x.2.1,(x.2.2.1,(x.2.2.2.1,(x.2.2.2.2.1,x.2.2.2.2.2)))))
def ctStore (x:Ty.den TStore):Int:=0+ctLive x.1+(5:Nat)*(x.2.1.length:Int)
theorem ctStore_le (x:Ty.den TStore):0≤ctStore x∧ctStore x≤16*(wp TStore x:Int):=by
 have e:wp TStore x=(wp TLive x.1+(wp (.slice TEntry) x.2.1+(0+(0+(0+0))))):=rfl
 have b0:=ctLive_le x.1
 have b1:x.2.1.length≤wp (.slice TEntry) x.2.1:=wp_len (t:=TEntry) (Nat.le_refl _)
 unfold ctStore
 omega
theorem markStore_ev (x:Ty.den TStore) (hl:wp TStore x≤4398046511104) (kk:Int) (h0:0≤kk) (h1:kk≤35184372088832):Ev (fun k=>laws_markStore.f k x kk) (mkStore kk x,(kk+ctStore x,())):=by
 have e:wp TStore x=(wp TLive x.1+(wp (.slice TEntry) x.2.1+(0+(0+(0+0))))):=rfl
 have b0:=ctLive_le x.1
 have b1:x.2.1.length≤4398046511104:=wp_len (t:=TEntry) (l:=x.2.1) (by omega)
 show Ev (fun k=>laws_markStore.t k x kk) _
 unfold laws_markStore.t
 refine Ev.bind (markLive_ev x.1 (by omega) (kk) (by omega) (by omega)) ?_
 refine Ev.bind (markEntryS_ev x.2.1 b1 (kk+ctLive x.1) (by omega) (by omega)) ?_
 rw [show kk+ctStore x=kk+ctLive x.1+(5:Nat)*(x.2.1.length:Int) by unfold ctStore;omega]
 exact Ev.of fun k=>rfl
def MFileS (kk:Int) (x:Ty.den TPair):Ty.den TPair:=(mt (kk),(mt (kk+1),(kk+1+1,x.2.2.2)))
def mkFileS (kk:Int) (l:List (Ty.den TPair)):List (Ty.den TPair):=marked (t:=TPair) MFileS 3 kk l
theorem markFileS_ev (l:List (Ty.den TPair)) (hl:l.length≤4398046511104) (kk:Int) (h0:0≤kk) (h1:kk≤140737488355328):Ev (fun k=>laws_markFileS.f k l kk) (mkFileS kk l,(kk+(3:Nat)*(l.length:Int),())):=by
 have round:∀ (a0:List (Ty.den TPair)) (a1 kk:Int) (i:Nat) (xs:List (Ty.den TPair)),i<xs.length→xs.length≤4398046511104→0≤kk→kk≤562949953421312→∀ r,
  Ev2 (fun k n=>laws_markFileS.l0 k a0 a1 n (kk+(3:Nat)) ((i+1:Nat):Int) (xs.set i (MFileS kk (xs.getD i (Ty.dflt TPair))))) r→Ev2 (fun k n=>laws_markFileS.l0 k a0 a1 n kk (i:Int) xs) r:=by
  intro a0 a1 kk i xs hi hl h0 h1 r hr
  refine Ev2.step (b:=fun k n=>laws_markFileS.b0 k a0 a1 (laws_markFileS.l0 k a0 a1 n) kk i xs) (fun k n=>rfl) ?_
  have hi2:(i:Int)<(xs.length:Int):=by omega
  have hs:w64 ((i:Int)+1)=((i+1:Nat):Int):=by rw [w64_eq (by omega) (by omega)];rfl
  have w1:w64 (kk+1)=kk+1:=w64_eq (by omega) (by omega)
  have w2:w64 (kk+1+1)=kk+1+1:=w64_eq (by omega) (by omega)
  have w3:w64 (kk+1+1+1)=kk+1+1+1:=w64_eq (by omega) (by omega)
  unfold laws_markFileS.b0
  simp only [decide_eq_true hi2,cond_true,hs,w1,w2,w3]
  try simp only [w1,w2,w3,inb_eq (Int.natCast_nonneg i) hi2,List.length_set,toNat_ofNat,getD_set_self (t:=TPair) (xs:=xs) hi,List.set_set]
  refine Ev2.bind (markText_ev (kk) (by omega)) ?_
  try simp only [w1,w2,w3,inb_eq (Int.natCast_nonneg i) hi2,List.length_set,toNat_ofNat,getD_set_self (t:=TPair) (xs:=xs) hi,List.set_set]
  refine Ev2.bind (markText_ev (kk+1) (by omega)) ?_
  try simp only [w1,w2,w3,inb_eq (Int.natCast_nonneg i) hi2,List.length_set,toNat_ofNat,getD_set_self (t:=TPair) (xs:=xs) hi,List.set_set]
  rw [show kk+((3:Nat):Int)=kk+1+1+1 by omega] at hr
  exact hr
 have:=(markS_ev (t:=TPair) (l:=fun k n=>laws_markFileS.l0 k l kk n) (M:=MFileS) (c:=3) (round l kk) (fun kk' i xs h=>by
  refine Ev2.step (b:=fun k n=>laws_markFileS.b0 k l kk (laws_markFileS.l0 k l kk n) kk' i xs) (fun k n=>rfl) (Ev2.of fun k n=>?_)
  unfold laws_markFileS.b0
  rw [decide_eq_false (by omega),cond_false]) l.length 0 kk l (by omega) (by omega) hl h0 (by omega)).diag
 exact this
def mkDisk (kk:Int) (x:Ty.den TDisk):Ty.den TDisk:=(mkFileS (kk) x.1,(x.2.1,(x.2.2.1,(x.2.2.2.1,x.2.2.2.2))))
def ctDisk (x:Ty.den TDisk):Int:=0+(3:Nat)*(x.1.length:Int)
theorem ctDisk_le (x:Ty.den TDisk):0≤ctDisk x∧ctDisk x≤16*(wp TDisk x:Int):=by
 have e:wp TDisk x=(wp (.slice TPair) x.1+(0+(0+(0+0)))):=rfl
 have b0:x.1.length≤wp (.slice TPair) x.1:=wp_len (t:=TPair) (Nat.le_refl _)
 unfold ctDisk
 omega
theorem markDisk_ev (x:Ty.den TDisk) (hl:wp TDisk x≤4398046511104) (kk:Int) (h0:0≤kk) (h1:kk≤35184372088832):Ev (fun k=>laws_markDisk.f k x kk) (mkDisk kk x,(kk+ctDisk x,())):=by
 have e:wp TDisk x=(wp (.slice TPair) x.1+(0+(0+(0+0)))):=rfl
 have b0:x.1.length≤4398046511104:=wp_len (t:=TPair) (l:=x.1) (by omega)
 show Ev (fun k=>laws_markDisk.t k x kk) _
 unfold laws_markDisk.t
 refine Ev.bind (markFileS_ev x.1 b0 (kk) (by omega) (by omega)) ?_
 rw [show kk+ctDisk x=kk+(3:Nat)*(x.1.length:Int) by unfold ctDisk;omega]
 exact Ev.of fun k=>rfl
theorem heldIntS_ev (xs:List (Int)) (hl:xs.length≤4398046511104) (kk:Int) (h0:0≤kk) (h1:kk≤140737488355328) (hM:∀ j,0≤j→j<xs.length→∃ y,xs.getD j (Ty.dflt (.int .i64))=MIntS (kk+(1:Nat)*((j-0:Nat):Int)) y) :
 Ev (fun k=>laws_heldIntS.f k xs kk) (kk+(1:Nat)*(xs.length:Int),()):=by
 have:=(heldS_ev (t:=(.int .i64)) (l:=laws_heldIntS.l0) (M:=MIntS) (c:=1) (xs:=xs) hl (fun kk i hi h0 h1 hy r hr=>by
  obtain ⟨y,hy⟩:=hy
  refine Ev2.step (b:=fun k n=>laws_heldIntS.b0 k (laws_heldIntS.l0 k n) xs kk i) (fun k n=>rfl) ?_
  have hi2:(i:Int)<(xs.length:Int):=by omega
  have hy2:List.getD xs i (Ty.dflt (.int .i64))=MIntS kk y:=hy
  have hs:w64 ((i:Int)+1)=((i+1:Nat):Int):=by rw [w64_eq (by omega) (by omega)];rfl
  have w1:w64 (kk+1)=kk+1:=w64_eq (by omega) (by omega)
  unfold laws_heldIntS.b0
  simp only [decide_eq_true hi2,cond_true,hs,w1]
  try simp only [w1,inb_eq (Int.natCast_nonneg i) hi2,toNat_ofNat,hy2,MIntS,seq_refl,bne_self_eq_false,beq_self_eq_true,Bool.not_true,cond_false]
  rw [show kk+((1:Nat):Int)=kk+1 by omega] at hr
  exact hr) (fun kk i h=>by
  refine Ev2.step (b:=fun k n=>laws_heldIntS.b0 k (laws_heldIntS.l0 k n) xs kk i) (fun k n=>rfl) (Ev2.of fun k n=>?_)
  unfold laws_heldIntS.b0
  rw [decide_eq_false (by omega),cond_false]) xs.length 0 kk (by omega) (by omega) h0 (by omega) hM).diag
 exact this
theorem heldIntS_mk (l:List (Int)) (hl:l.length≤4398046511104) (kk:Int) (h0:0≤kk) (h1:kk≤140737488355328):Ev (fun k=>laws_heldIntS.f k (mkIntS kk l) kk) (kk+(1:Nat)*(l.length:Int),()):=by
 have:=heldIntS_ev (mkIntS kk l) (by unfold mkIntS;rw [marked_len];exact hl) kk h0 h1 (marked_held (t:=(.int .i64)))
 unfold mkIntS at this ⊢
 rw [marked_len] at this
 exact this
theorem heldLive_mk (x:Ty.den TLive) (hl:wp TLive x≤4398046511104) (kk:Int) (h0:0≤kk) (h1:kk≤35184372088832):Ev (fun k=>laws_heldLive.f k (mkLive kk x) kk) (kk+ctLive x,()):=by
 have e:wp TLive x=(0+(wp (.slice (.int .i64)) x.2.1+0)):=rfl
 have b0:x.2.1.length≤4398046511104:=wp_len (t:=(.int .i64)) (l:=x.2.1) (by omega)
 show Ev (fun k=>laws_heldLive.t k (mkLive kk x) kk) _
 unfold laws_heldLive.t
 refine Ev.bind (heldIntS_mk x.2.1 b0 (kk) (by omega) (by omega)) ?_
 have c0:¬ (kk+(1:Nat)*(x.2.1.length:Int)<0):=by omega
 simp only [decide_eq_false c0,cond_false]
 rw [show kk+ctLive x=kk+(1:Nat)*(x.2.1.length:Int) by unfold ctLive;omega]
 exact Ev.of fun k=>rfl
theorem heldEntryS_ev (xs:List (Ty.den TEntry)) (hl:xs.length≤4398046511104) (kk:Int) (h0:0≤kk) (h1:kk≤140737488355328) (hM:∀ j,0≤j→j<xs.length→∃ y,xs.getD j (Ty.dflt TEntry)=MEntryS (kk+(5:Nat)*((j-0:Nat):Int)) y) :
 Ev (fun k=>laws_heldEntryS.f k xs kk) (kk+(5:Nat)*(xs.length:Int),()):=by
 have:=(heldS_ev (t:=TEntry) (l:=laws_heldEntryS.l0) (M:=MEntryS) (c:=5) (xs:=xs) hl (fun kk i hi h0 h1 hy r hr=>by
  obtain ⟨y,hy⟩:=hy
  refine Ev2.step (b:=fun k n=>laws_heldEntryS.b0 k (laws_heldEntryS.l0 k n) xs kk i) (fun k n=>rfl) ?_
  have hi2:(i:Int)<(xs.length:Int):=by omega
  have hy2:List.getD xs i (Ty.dflt TEntry)=MEntryS kk y:=hy
  have hs:w64 ((i:Int)+1)=((i+1:Nat):Int):=by rw [w64_eq (by omega) (by omega)];rfl
  have w1:w64 (kk+1)=kk+1:=w64_eq (by omega) (by omega)
  have w2:w64 (kk+1+1)=kk+1+1:=w64_eq (by omega) (by omega)
  have w3:w64 (kk+1+1+1)=kk+1+1+1:=w64_eq (by omega) (by omega)
  have w4:w64 (kk+1+1+1+1)=kk+1+1+1+1:=w64_eq (by omega) (by omega)
  have w5:w64 (kk+1+1+1+1+1)=kk+1+1+1+1+1:=w64_eq (by omega) (by omega)
  unfold laws_heldEntryS.b0
  simp only [decide_eq_true hi2,cond_true,hs,w1,w2,w3,w4,w5]
  try simp only [w1,w2,w3,w4,w5,inb_eq (Int.natCast_nonneg i) hi2,toNat_ofNat,hy2,MEntryS,seq_refl,bne_self_eq_false,beq_self_eq_true,Bool.not_true,cond_false]
  refine Ev2.bind (markText_ev (kk) (by omega)) ?_
  try simp only [w1,w2,w3,w4,w5,inb_eq (Int.natCast_nonneg i) hi2,toNat_ofNat,hy2,MEntryS,seq_refl,bne_self_eq_false,beq_self_eq_true,Bool.not_true,cond_false]
  rw [show kk+((5:Nat):Int)=kk+1+1+1+1+1 by omega] at hr
  exact hr) (fun kk i h=>by
  refine Ev2.step (b:=fun k n=>laws_heldEntryS.b0 k (laws_heldEntryS.l0 k n) xs kk i) (fun k n=>rfl) (Ev2.of fun k n=>?_)
  unfold laws_heldEntryS.b0
  rw [decide_eq_false (by omega),cond_false]) xs.length 0 kk (by omega) (by omega) h0 (by omega) hM).diag
 exact this
theorem heldEntryS_mk (l:List (Ty.den TEntry)) (hl:l.length≤4398046511104) (kk:Int) (h0:0≤kk) (h1:kk≤140737488355328):Ev (fun k=>laws_heldEntryS.f k (mkEntryS kk l) kk) (kk+(5:Nat)*(l.length:Int),()):=by
 have:=heldEntryS_ev (mkEntryS kk l) (by unfold mkEntryS;rw [marked_len];exact hl) kk h0 h1 (marked_held (t:=TEntry))
 unfold mkEntryS at this ⊢
 rw [marked_len] at this
 exact this
theorem heldStore_mk (x:Ty.den TStore) (hl:wp TStore x≤4398046511104) (kk:Int) (h0:0≤kk) (h1:kk≤35184372088832):Ev (fun k=>laws_heldStore.f k (mkStore kk x) kk) (kk+ctStore x,()):=by
 have e:wp TStore x=(wp TLive x.1+(wp (.slice TEntry) x.2.1+(0+(0+(0+0))))):=rfl
 have b0:=ctLive_le x.1
 have b1:x.2.1.length≤4398046511104:=wp_len (t:=TEntry) (l:=x.2.1) (by omega)
 show Ev (fun k=>laws_heldStore.t k (mkStore kk x) kk) _
 unfold laws_heldStore.t
 refine Ev.bind (heldLive_mk x.1 (by omega) (kk) (by omega) (by omega)) ?_
 have c0:¬ (kk+ctLive x.1<0):=by omega
 simp only [decide_eq_false c0,cond_false]
 refine Ev.bind (heldEntryS_mk x.2.1 b1 (kk+ctLive x.1) (by omega) (by omega)) ?_
 have c1:¬ (kk+ctLive x.1+(5:Nat)*(x.2.1.length:Int)<0):=by omega
 simp only [decide_eq_false c1,cond_false]
 rw [show kk+ctStore x=kk+ctLive x.1+(5:Nat)*(x.2.1.length:Int) by unfold ctStore;omega]
 exact Ev.of fun k=>rfl
theorem heldFileS_ev (xs:List (Ty.den TPair)) (hl:xs.length≤4398046511104) (kk:Int) (h0:0≤kk) (h1:kk≤140737488355328) (hM:∀ j,0≤j→j<xs.length→∃ y,xs.getD j (Ty.dflt TPair)=MFileS (kk+(3:Nat)*((j-0:Nat):Int)) y) :
 Ev (fun k=>laws_heldFileS.f k xs kk) (kk+(3:Nat)*(xs.length:Int),()):=by
 have:=(heldS_ev (t:=TPair) (l:=laws_heldFileS.l0) (M:=MFileS) (c:=3) (xs:=xs) hl (fun kk i hi h0 h1 hy r hr=>by
  obtain ⟨y,hy⟩:=hy
  refine Ev2.step (b:=fun k n=>laws_heldFileS.b0 k (laws_heldFileS.l0 k n) xs kk i) (fun k n=>rfl) ?_
  have hi2:(i:Int)<(xs.length:Int):=by omega
  have hy2:List.getD xs i (Ty.dflt TPair)=MFileS kk y:=hy
  have hs:w64 ((i:Int)+1)=((i+1:Nat):Int):=by rw [w64_eq (by omega) (by omega)];rfl
  have w1:w64 (kk+1)=kk+1:=w64_eq (by omega) (by omega)
  have w2:w64 (kk+1+1)=kk+1+1:=w64_eq (by omega) (by omega)
  have w3:w64 (kk+1+1+1)=kk+1+1+1:=w64_eq (by omega) (by omega)
  unfold laws_heldFileS.b0
  simp only [decide_eq_true hi2,cond_true,hs,w1,w2,w3]
  try simp only [w1,w2,w3,inb_eq (Int.natCast_nonneg i) hi2,toNat_ofNat,hy2,MFileS,seq_refl,bne_self_eq_false,beq_self_eq_true,Bool.not_true,cond_false]
  refine Ev2.bind (markText_ev (kk) (by omega)) ?_
  try simp only [w1,w2,w3,inb_eq (Int.natCast_nonneg i) hi2,toNat_ofNat,hy2,MFileS,seq_refl,bne_self_eq_false,beq_self_eq_true,Bool.not_true,cond_false]
  refine Ev2.bind (markText_ev (kk+1) (by omega)) ?_
  try simp only [w1,w2,w3,inb_eq (Int.natCast_nonneg i) hi2,toNat_ofNat,hy2,MFileS,seq_refl,bne_self_eq_false,beq_self_eq_true,Bool.not_true,cond_false]
  rw [show kk+((3:Nat):Int)=kk+1+1+1 by omega] at hr
  exact hr) (fun kk i h=>by
  refine Ev2.step (b:=fun k n=>laws_heldFileS.b0 k (laws_heldFileS.l0 k n) xs kk i) (fun k n=>rfl) (Ev2.of fun k n=>?_)
  unfold laws_heldFileS.b0
  rw [decide_eq_false (by omega),cond_false]) xs.length 0 kk (by omega) (by omega) h0 (by omega) hM).diag
 exact this
theorem heldFileS_mk (l:List (Ty.den TPair)) (hl:l.length≤4398046511104) (kk:Int) (h0:0≤kk) (h1:kk≤140737488355328):Ev (fun k=>laws_heldFileS.f k (mkFileS kk l) kk) (kk+(3:Nat)*(l.length:Int),()):=by
 have:=heldFileS_ev (mkFileS kk l) (by unfold mkFileS;rw [marked_len];exact hl) kk h0 h1 (marked_held (t:=TPair))
 unfold mkFileS at this ⊢
 rw [marked_len] at this
 exact this
theorem heldDisk_mk (x:Ty.den TDisk) (hl:wp TDisk x≤4398046511104) (kk:Int) (h0:0≤kk) (h1:kk≤35184372088832):Ev (fun k=>laws_heldDisk.f k (mkDisk kk x) kk) (kk+ctDisk x,()):=by
 have e:wp TDisk x=(wp (.slice TPair) x.1+(0+(0+(0+0)))):=rfl
 have b0:x.1.length≤4398046511104:=wp_len (t:=TPair) (l:=x.1) (by omega)
 show Ev (fun k=>laws_heldDisk.t k (mkDisk kk x) kk) _
 unfold laws_heldDisk.t
 refine Ev.bind (heldFileS_mk x.1 b0 (kk) (by omega) (by omega)) ?_
 have c0:¬ (kk+(3:Nat)*(x.1.length:Int)<0):=by omega
 simp only [decide_eq_false c0,cond_false]
 rw [show kk+ctDisk x=kk+(3:Nat)*(x.1.length:Int) by unfold ctDisk;omega]
 exact Ev.of fun k=>rfl
end Go.Proofs.YtejgkmhpmhfnbaaGreatDoor.G

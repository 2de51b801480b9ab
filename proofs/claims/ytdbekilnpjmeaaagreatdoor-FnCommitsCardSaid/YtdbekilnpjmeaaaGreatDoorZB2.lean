/- Plain laws, merged; what is proved here is told ahead of each part. -/
import Derived.Test.YtdbekilnpjmeaaaGreatDoorZB1
set_option linter.unusedVariables false
set_option linter.unusedSimpArgs false
namespace Go.Proofs.YtdbekilnpjmeaaaGreatDoor.G
open Go.V
abbrev RD:=Ty.den a_ × Int
def gR (r:RD) (f:Ty.den a_→RD):RD:=bif r.2==0 then f r.1 else r
def fM (c:Int):Int:=bif c==0 then 0 else bif c==1 then 1 else bif c==2 then 2 else 3
def wk (f:Ty.den a_→RD) (r:RD):RD:=bif r.2==0 then ((f r.1).1,fM (f r.1).2) else r
def wO (r:RD):Ty.den b8:=(r.1,(r.2,()))
def jM:ByteArray:=⟨#[108,105,118,101]⟩
def jk (s:ByteArray) (d:Ty.den a_):RD:=bif (bi d.1 s).isSome then ry d s else (d,0)
def b7 (s:ByteArray) (d:Ty.den a_):RD:=gR (jk s d) fun x=>tr x s
def lJ (s t:ByteArray) (d:Ty.den a_):RD:=gR (gR (b7 s d) fun x=>fq x s t) fun x=>eA x s
def az (v:Ty.den bj) (d:Ty.den a_):RD:=gR (lJ fA (bw v) d) fun x=>su x fA jM
def ba:List ByteArray→Ty.den a_→RD
 | [],d=>(d,0)
 | s::l,d=>gR (jk s d) (ba l)
noncomputable def lb (ids:List Int) (d:Ty.den a_):RD:=ba (o8 d ids) d
theorem iR (c:Int):(fM c==0)=(c==0):=by
 unfold fM
 cases h:c==0 with
 | true=>rfl
 | false =>
  cases c==1
  · cases c==2 <;> rfl
  · rfl
theorem xG (f g:Ty.den a_→RD) (r:RD):wk (fun x=>gR (f x) g) r=wk g (wk f r):=by
 unfold wk gR
 cases h:r.2==0 with
 | false=>simp only [aK,h]
 | true =>
  simp only [aX,iR]
  cases (f r.1).2==0 <;> rfl
theorem Ji (r:RD):wk (fun d=>(d,0)) r=r:=by
 unfold wk
 cases h:r.2==0 with
 | false=>rfl
 | true=>exact Prod.ext rfl (by show fM 0=r.2;rw [G7 h];rfl)
theorem kM {r:RD} {f:Ty.den a_→RD} (h:DR r.1) (hf:∀ x,DR x→DR (f x).1):DR (gR r f).1:=by
 unfold gR
 cases r.2==0
 · exact h
 · exact hf _ h
theorem yn {r:RD} {f:Ty.den a_→RD} (h:DR r.1) (hf:∀ x,DR x→DR (f x).1):DR (wk f r).1:=by
 unfold wk
 cases r.2==0
 · exact h
 · exact hf _ h
theorem se (s:ByteArray) (d:Ty.den a_) (h:DR d):DR (jk s d).1:=by
 unfold jk
 cases (bi d.1 s).isSome
 · exact h
 · exact AF h s
theorem j4 (s:ByteArray) (d:Ty.den a_) (h:DR d):DR (b7 s d).1:=kM (se s d h) fun x hx=>zL hx s
theorem o5 (s t:ByteArray) (d:Ty.den a_) (h:DR d):DR (lJ s t d).1:=kM (kM (j4 s d h) fun x hx=>oH hx s t) fun x hx=>lf hx s
theorem l_ (v:Ty.den bj) (d:Ty.den a_) (h:DR d):DR (az v d).1:=kM (o5 _ _ d h) fun x hx=>Gn hx _ _
theorem mO:∀ (l:List ByteArray) (d:Ty.den a_),DR d→DR (ba l d).1
 | [],d,h=>h
 | s::l,d,h=>kM (se s d h) (mO l)
theorem wb (ids:List Int) (d:Ty.den a_) (h:DR d):DR (lb ids d).1:=mO _ d h
theorem cw (k:Nat) (c:Int):aP.f k c=some (fM c,()):=by
 unfold aP.f aP.t fM
 cases c==0 <;> cases c==1 <;> cases c==2 <;> rfl
theorem yT {l:bN} {s:ByteArray}:decide (kf l s 0≥0)=(bi l s).isSome:=by
 rcases gf l s 0 with ⟨h1,h2,_⟩ | ⟨n,h1,h2,h3,_⟩
 · rw [h1,h2];rfl
 · rw [h2,h3,aM (by omega)];rfl
theorem Ew {l:bN} {s:ByteArray}:decide (kf l s 0<0)=!(bi l s).isSome:=by
 rcases gf l s 0 with ⟨h1,h2,_⟩ | ⟨n,h1,h2,h3,_⟩
 · rw [h1,h2];rfl
 · rw [h2,h3,aQ (by omega)];rfl
theorem mj {k:Nat} (hk:2 ^ 50≤k) {d:Ty.den a_} (h:DR d) {s:ByteArray} (hs:s.size≤1099511627776):d7.f k d s=some ((b7 s d).1,((b7 s d).2,())):=by
 have hl:=h.sz.l
 unfold d7.f d7.t b7 jk
 rw [iC hk (by omega),aT]
 simp only [yT]
 cases (bi d.1 s).isSome with
 | false =>
  simp only [aK]
  rw [pB hk h.sz hs]
  rfl
 | true =>
  simp only [aX]
  rw [rp hk h.sz,aT]
  unfold gR
  simp only [bne]
  cases c:(ry d s).2==0 with
  | false=>rfl
  | true =>
   simp only [fb,aK,aX]
   rw [pB hk (AF h s).sz hs]
   rfl
theorem uD {k:Nat} (hk:2 ^ 50≤k) {d:Ty.den a_} (h:DR d) {s t:ByteArray} (hs:s.size≤1099511627776) (ht:t.size≤1099511627776):gg.f k d s t=some ((lJ s t d).1,((lJ s t d).2,())):=by
 have h1:=j4 s d h
 unfold gg.f gg.t lJ
 rw [mj hk h hs,aT]
 simp only []
 generalize b7 s d=r at h1 ⊢
 unfold gR
 cases c:r.2==0 with
 | false=>simp only [aK,c]
 | true =>
  simp only [aX]
  rw [nQ hk h1.sz s ht,aT]
  simp only []
  cases c2:(fq r.1 s t).2==0 with
  | false=>rfl
  | true =>
   simp only [aX]
   rw [kz hk (oH h1 s t).sz]
   rfl
theorem nK {k:Nat} (hk:2 ^ 50≤k) {d:Ty.den a_} (h:DR d) {v:Ty.den bj} (hv:cP v=true):dT.f k d v=some ((az v d).1,(fM (az v d).2,())):=by
 have hu:=h.sz.u
 have hn:=h.sz.n
 have h1:=o5 fA (bw v) d h
 unfold dT.f dT.t az
 rw [lB hk (by omega) (by omega),aT,hZ.2 h]
 simp only [fb,aK]
 rw [q_ hk,aT,hv]
 simp only [fb,aK]
 rw [kp hk,aT,show (⟨#[116,101,109,112]⟩:ByteArray)=fA from rfl,show (⟨#[108,105,118,101]⟩:ByteArray)=jM from rfl]
 simp only []
 rw [uD hk h (s:=fA) (t:=bw v) (by decide) (uX v),aT]
 simp only []
 generalize lJ fA (bw v) d=r at h1 ⊢
 unfold gR
 cases c:r.2==0 with
 | false=>simp only [aK,cw,aT]
 | true =>
  simp only [aX]
  rw [vx hk h1.sz fA (b:=jM) (by decide),aT]
  simp only [cw,aT]
theorem mr {k:Nat} (hk:2 ^ 50≤k) {d:Ty.den a_} (h:DR d) {l:List ByteArray} (hl:l.length≤1073741824):bR.f k d l=some ((ba l d).1,((ba l d).2,())):=by
 unfold bR.f bR.t
 refine eV (L:=fun n i (x:Ty.den a_)=>bR.l0 k n l i x.1 x.2.1 x.2.2.1 x.2.2.2.1 [] 0 0 false) (R:=fun r x=>some ((ba r x).1,((ba r x).2,()))) (Ty.dflt .str) l (fun _ x=>DR x) (fun n x hx=>?_) (fun n i x y rest h0 h1 hy hr hx ih=>?_) (n:=k) (s:=d) (by omega) h
 · simp only [bR.l0,bR.b0]
   rw [aQ (by omega),aK]
   rfl
 · have hlx:=hx.sz.l
   simp only [bR.l0,bR.b0]
   rw [aM h1,aX,aG h0 h1,hy,show (x.1,(x.2.1,(x.2.2.1,(x.2.2.2.1,()))))=x from rfl,iC hk (by omega),aT,aG h0 h1,aE (n:=i+1) (by omega) (by omega)]
   simp only [Ew,ba,jk,gR]
   cases (bi x.1 y).isSome with
   | false =>
    simp only [tD,aX,aK]
    exact ih x hx
   | true =>
    simp only [fb,aK,aX]
    rw [rp hk hx.sz,aT]
    simp only [bne]
    cases c:(ry x y).2==0 with
    | false=>rfl
    | true =>
     simp only [fb,aK,aX]
     exact ih _ (AF hx y)
theorem CD (ids:List Int):∀ (l:bN) (acc:List ByteArray),qT ids l acc=acc++(l.filter (nU ids)).map (·.1)
 | [],acc=>by unfold qT;simp
 | f::l,acc=>by
  unfold qT
  rw [CD ids l]
  cases c:nU ids f
  · rw [aK,List.filter_cons_of_neg (by rw [c];decide)]
  · rw [aX,List.filter_cons_of_pos c,List.map_cons,rW];rfl
theorem GF {d:Ty.den a_} (ids:List Int):(o8 d ids).Sublist (kc d.1):=by
 unfold o8
 cases iB d
 · exact List.nil_sublist _
 · rw [aX,CD,List.nil_append]
   exact (List.filter_sublist).map _
theorem sV {l:bN} {s t:ByteArray} (h:t≠s):bi (h_ l s) t=bi l t:=by
 induction l with
 | nil=>rfl
 | cons g l ih =>
  unfold h_
  cases c:seq g.1 s with
  | true =>
   rw [aX,bi.eq_2,kh (fun q=>h (by rw [← q,eT.1 c])),aK]
  | false =>
   rw [aK,bi.eq_2,bi.eq_2,ih]
theorem IP {l:bN} {s:ByteArray} (h:s ∈ kc l):(bi l s).isSome=true:=by
 cases q:bi l s with
 | some f=>rfl
 | none =>
  obtain ⟨f,h1,h2⟩:=List.mem_map.1 h
  exact absurd h2 (nE.1 q f h1)
theorem H4 {d:Ty.den a_} {s t:ByteArray} (h:t≠s) (ht:(bi d.1 t).isSome=true):(bi (ry d s).1.1 t).isSome=true:=by
 unfold ry iD
 cases (jm d).2 != 0 with
 | true=>rw [aX,pC];exact ht
 | false =>
  show (bi (xm s d.1 d.2.1).1 t).isSome=true
  unfold xm
  cases (bi d.1 s).isNone
  · show (bi (h_ d.1 s) t).isSome=true
    rw [sV h]
    exact ht
  · exact ht
theorem sP {k:Nat} (hk:2 ^ 50≤k) {d:Ty.den a_} (h:DR d) {v:Ty.den bj} (hv:v.2.1.length≤1099511627776):bo.f k d v=some ((lb v.2.1 d).1,(fM (lb v.2.1 d).2,())):=by
 have hu:=h.sz.u
 have hn:=h.sz.n
 have hl:=h.len
 have hsub:=GF (d:=d) v.2.1
 have hlen:=hsub.length_le
 unfold kc at hlen
 rw [List.length_map] at hlen
 have hne:(o8 d v.2.1).Pairwise (fun a b=>a≠b):=(List.Pairwise.sublist hsub h.keys).imp fun {a b} q e=>by rw [e,pX] at q;cases q
 have hall:∀ s ∈ o8 d v.2.1,(bi d.1 s).isSome=true:=fun s hs=>IP (hsub.subset hs)
 unfold bo.f bo.t lb
 rw [uQ hk (by omega) (by omega) hv,aT]
 simp only []
 generalize o8 d v.2.1=l at hlen hne hall ⊢
 refine eV (L:=fun n i (x:Ty.den a_)=>bo.l0 k n i x.1 x.2.1 x.2.2.1 x.2.2.2.1 [] 0 0 false l) (R:=fun r x=>some ((ba r x).1,(fM (ba r x).2,()))) (Ty.dflt .str) l (fun i x=>DR x∧∀ s ∈ l.drop i.toNat,(bi x.1 s).isSome=true) (fun n x hx=>?_) (fun n i x y rest h0 h1 hy hr hx ih=>?_) (n:=k) (s:=d) (by omega) ⟨h,fun s hs=>hall s (List.mem_of_mem_drop hs)⟩
 · simp only [bo.l0,bo.b0]
   rw [aQ (by omega),aK]
   rfl
 · obtain ⟨hd,ha⟩:=hx
   have hp:(y::rest).Pairwise (fun a b=>a≠b):=by rw [← hr];exact hne.drop
   have hdr:l.drop (i+1).toNat=rest:=by
    have:=congrArg (List.drop 1) hr
    rw [List.drop_drop,List.drop_one,List.tail_cons] at this
    rw [show (i+1).toNat=i.toNat+1 by omega]
    exact this
   have hy1:(bi x.1 y).isSome=true:=ha y (by rw [hr];exact oX ..)
   simp only [bo.l0,bo.b0]
   rw [aM h1,aX,aG h0 h1,hy,show (x.1,(x.2.1,(x.2.2.1,(x.2.2.2.1,()))))=x from rfl,rp hk hd.sz,aT,aE (n:=i+1) (by omega) (by omega)]
   simp only [ba,jk,gR,hy1,aX,bne,cw]
   cases c:(ry x y).2==0 with
   | false=>rfl
   | true =>
    simp only [fb,aK,aX]
    refine ih (ry x y).1 ⟨AF hd y,fun s hs=>?_⟩
    rw [hdr] at hs
    exact H4 (fun e=>(List.pairwise_cons.1 hp).1 s hs e.symm) (ha s (by rw [hr];exact qS _ hs))
theorem BD (k:Nat) (c:Int):lF.f k c=some (fM c,()):=by
 unfold lF.f lF.t fM
 cases c==0 <;> cases c==1 <;> cases c==2 <;> rfl
theorem tB (k:Nat) (w:Ty.den b8) (d:Ty.den a_) (c:Int):ar.f k w d c=some ((d,(fM c,())),()):=by
 unfold ar.f ar.t
 rw [BD,aT]
theorem Fb {k:Nat} (hk:2 ^ 50≤k) (r:RD) (h:DR r.1) {s:ByteArray} (hs:s.size≤1099511627776):eL.f k (wO r) s=some (wO (wk (fun x=>tr x s) r),()):=by
 unfold eL.f eL.t wk wO
 simp only []
 cases c:r.2==0 with
 | false=>rfl
 | true=>rw [aX,aX,Ch hk h.sz hs,aT,tB,aT]
theorem yS {k:Nat} (hk:2 ^ 50≤k) (r:RD) (h:DR r.1) (s:ByteArray) {t:ByteArray} (ht:t.size≤1099511627776):cZ.f k (wO r) s t=some (wO (wk (fun x=>fq x s t) r),()):=by
 unfold cZ.f cZ.t wk wO
 simp only []
 cases c:r.2==0 with
 | false=>rfl
 | true=>rw [aX,aX,Cv hk h.sz s ht,aT,tB,aT]
theorem tg {k:Nat} (hk:2 ^ 50≤k) (r:RD) (h:DR r.1) (s:ByteArray):ch.f k (wO r) s=some (wO (wk (fun x=>eA x s) r),()):=by
 unfold ch.f ch.t wk wO
 simp only []
 cases c:r.2==0 with
 | false=>rfl
 | true=>rw [aX,aX,DN hk h.sz s,aT,tB,aT]
theorem Fl {k:Nat} (hk:2 ^ 50≤k) (r:RD) (h:DR r.1) (a:ByteArray) {b:ByteArray} (hb:b.size≤1099511627776):eM.f k (wO r) a b=some (wO (wk (fun x=>su x a b) r),()):=by
 unfold eM.f eM.t wk wO
 simp only []
 cases c:r.2==0 with
 | false=>rfl
 | true=>rw [aX,aX,DA hk h.sz a hb,aT,tB,aT]
theorem s7 {k:Nat} (hk:2 ^ 50≤k) (r:RD) (h:DR r.1) (s:ByteArray):cg.f k (wO r) s=some (wO (wk (jk s) r),()):=by
 have hl:=h.sz.l
 unfold cg.f cg.t wk wO jk
 simp only []
 cases c:r.2==0 with
 | false=>rfl
 | true =>
  rw [aX,aX,jO hk (by omega),aT]
  simp only [yT]
  cases (bi r.1.1 s).isSome with
  | true=>rw [aX,aX,Co hk h.sz s,aT,tB,aT]
  | false =>
   simp only [aK]
   rw [G7 c]
   rfl
theorem vT {k:Nat} (hk:2 ^ 50≤k) (r:RD) (h:DR r.1) {s:ByteArray} (hs:s.size≤1099511627776):dZ.f k (wO r) s=some (wO (wk (b7 s) r),()):=by
 unfold dZ.f dZ.t
 rw [s7 hk r h,aT]
 simp only []
 rw [Fb hk _ (yn h (se s)) hs,aT,← xG]
 rfl
theorem DM {k:Nat} (hk:2 ^ 50≤k) (r:RD) (h:DR r.1) {s t:ByteArray} (hs:s.size≤1099511627776) (ht:t.size≤1099511627776):eN.f k (wO r) s t=some (wO (wk (lJ s t) r),()):=by
 unfold eN.f eN.t
 rw [vT hk r h hs,aT]
 simp only []
 have h1:=yn (r:=r) h (j4 s)
 rw [yS hk _ h1 s ht,aT]
 simp only []
 rw [tg hk _ (yn h1 fun x hx=>oH hx s t) s,aT,← xG (b7 s) (fun x=>fq x s t),← xG]
 rfl
theorem xv {k:Nat} (hk:2 ^ 50≤k) (r:RD) (h:DR r.1) {v:Ty.den bj} (hv:v.2.1.length≤1073741824):dh.f k (wO r) v=some (wO (wk (az v) r),()):=by
 unfold dh.f dh.t
 rw [uz hk v hv,aT,show (⟨#[116,101,109,112]⟩:ByteArray)=fA from rfl,show (⟨#[108,105,118,101]⟩:ByteArray)=jM from rfl]
 simp only []
 rw [DM hk r h (s:=fA) (t:=bw v) (by decide) (uX v),aT]
 simp only []
 rw [Fl hk _ (yn h (o5 _ _)) fA (b:=jM) (by decide),aT,← xG]
 rfl
theorem Hv (s:ByteArray) (l:List ByteArray) (r:RD):wk (ba (s::l)) r=wk (ba l) (wk (jk s) r):=xG (jk s) (ba l) r
theorem B8 {k:Nat} (hk:2 ^ 50≤k) (r:RD) (h:DR r.1) {l:List ByteArray} (hl:l.length≤1000):ac.f k (wO r) l =
 some (wO (bif r.2==2 then ((ba l r.1).1,bif (ba l r.1).2==0 then 2 else fM (ba l r.1).2) else r),()):=by
 unfold ac.f ac.t
 rw [show (wO r).2.1=r.2 from rfl]
 simp only [bne]
 cases c:r.2==2 with
 | false=>rfl
 | true =>
  simp only [fb,aK,aX]
  have e2:r.2=2:=G7 c
  have key:∀ (n:Nat) (i:Int) (x:RD),0≤i→i≤(l.length:Int)→(l.length:Int)-i<n→DR x.1→ac.l1 k n l l.length i r.1.2.1 r.1.2.2.1 r.1.2.2.2.1 2 x.1.1 x.1.2.1 x.1.2.2.1 x.1.2.2.2.1 x.2 =
   some (wO (bif (wk (ba (l.drop i.toNat)) x).2==0 then ((wk (ba (l.drop i.toNat)) x).1,2) else wk (ba (l.drop i.toNat)) x),()):=fun n i x h0 h1 h2 hx=>by
   refine HP (L:=fun n i (x:RD)=>ac.l1 k n l l.length i r.1.2.1 r.1.2.2.1 r.1.2.2.2.1 2 x.1.1 x.1.2.1 x.1.2.2.1 x.1.2.2.2.1 x.2) (R:=fun q x=>some (wO (bif (wk (ba q) x).2==0 then ((wk (ba q) x).1,2) else wk (ba q) x),())) (Ty.dflt .str) l (fun i x=>DR x.1) (fun n x hx=>?_) (fun n i x y rest h0 h1 hy hr hx ih=>?_) n i x h0 h1 h2 hx
   · simp only [ac.l1,ac.b1]
     rw [aQ (by omega),aK,show ba []=fun d=>(d,0) from rfl,Ji]
     simp only [bne]
     cases x.2==0 <;> rfl
   · simp only [ac.l1,ac.b1]
     rw [aM h1,aX,aG h0 h1,hy,show ((x.1.1,(x.1.2.1,(x.1.2.2.1,(x.1.2.2.2.1,())))),(x.2,()))=wO x from rfl,s7 hk x hx,aT,aE (n:=i+1) (by omega) (by omega),Hv]
     exact ih (wk (jk y) x) (yn hx (se y))
  obtain ⟨q,hq⟩:∃ q,k=q+1:=⟨k-1,by omega⟩
  have fin:ac.l0 k (q+1) l l.length 0 r.1.1 r.1.2.1 r.1.2.2.1 r.1.2.2.2.1 2 r.1.2.1 r.1.2.2.1 r.1.2.2.2.1 0=some (wO (bif (wk (ba l) (r.1,0)).2==0 then ((wk (ba l) (r.1,0)).1,2) else wk (ba l) (r.1,0)),()):=by
   have k1:=key (q+1+1) 0 (r.1,0) (by omega) (by omega) (by omega) h
   rw [show l.drop (0:Int).toNat=l from rfl] at k1
   refine Eq.trans ?_ k1
   simp only [ac.l0,ac.b0,ac.l1,ac.b1]
   by_cases hz:(0:Int)<(l.length:Int)
   · rw [aM hz,aX,aX,aG (by omega) hz,aG (by omega) hz]
     have e1:cg.f k ((r.1.1,(r.1.2.1,(r.1.2.2.1,(r.1.2.2.2.1,())))),(0,())) (List.getD l (Int.toNat 0) (Ty.dflt .str))=_:=s7 hk (r.1,0) h (List.getD l (Int.toNat 0) (Ty.dflt .str))
     rw [e1,aT,aT,aE (n:=(0:Int)+1) (by omega) (by omega)]
     have d1:=yn (r:=((r.1,0):RD)) h (se (List.getD l (Int.toNat 0) (Ty.dflt .str)))
     have a1:=key q 1 (wk (jk (List.getD l (Int.toNat 0) (Ty.dflt .str))) (r.1,0)) (by omega) (by omega) (by omega) d1
     have a2:=key (q+1) 1 (wk (jk (List.getD l (Int.toNat 0) (Ty.dflt .str))) (r.1,0)) (by omega) (by omega) (by omega) d1
     exact a1.trans a2.symm
   · rw [aQ hz,aK,aK]
  rw [show (wO r).1=r.1 from rfl,e2]
  have fin2:ac.l0 k k l l.length 0 r.1.1 r.1.2.1 r.1.2.2.1 r.1.2.2.2.1 2 r.1.2.1 r.1.2.2.1 r.1.2.2.2.1 0=_:=(congrArg (fun z=>ac.l0 k z l l.length 0 r.1.1 r.1.2.1 r.1.2.2.1 r.1.2.2.2.1 2 r.1.2.1 r.1.2.2.1 r.1.2.2.2.1 0) hq).trans fin
  rw [fin2]
  unfold wk
  simp only [beq_self_eq_true,aX,iR]
  cases c3:(ba l r.1).2==0 <;> rfl
end Go.Proofs.YtdbekilnpjmeaaaGreatDoor.G
namespace Go.Proofs.YtdbekilnpjmeaaaGreatDoor.G
open Go.V
def oK (d:Ty.den a_):Nat→List Int→Nat
 | 0,_=>0
 | _+1,[]=>0
 | n+1,x::l=>(ao d (aB aI x)).1.size+oK d n l
theorem pk {k:Nat} (hk:2 ^ 50≤k) {st:Ty.den aC} {d:Ty.den a_} (hi:st.1.2.1.length≤1099511627776) (hl:d.1.length≤1099511627776) (hu:dz d.1≤1099511627776) (hn:ik d.1≤1099511627776) :
 aZ.f k st d=some ((oK d 60 st.1.2.1:Int),()):=by
 unfold aZ.f aZ.t
 refine (eV (L:=fun n i (s:Int × Nat)=>aZ.l0 k n s.1 i st.1.1 st.1.2.1 st.2.1 st.2.2.1 st.2.2.2.1 st.2.2.2.2.1 d.1 d.2.1 d.2.2.1 d.2.2.2.1) (R:=fun r s=>some (s.1+(oK d (60-s.2) r:Int),())) (Ty.dflt (.int .i64)) st.1.2.1
  (fun i s=>(s.2:Int)=i∧0≤s.1∧s.1≤i*1099511627776) (fun n s hs=>?_) (fun n i s x rest h0 h1 hx hr hp ih=>?_) (n:=k) (s:=(0,0)) (by omega) ⟨rfl,by simp,by simp⟩).trans (by simp)
 · simp (disch:=omega) only [aZ.l0,aZ.b0,aQ,aK]
   cases 60-s.2 <;> simp [oK]
 · obtain ⟨s,j⟩:=s
   obtain ⟨g0,g1,g2⟩:=hp
   simp only [] at g0 g1 g2 ih ⊢
   by_cases c:i<60
   · have ht:=gI hk (d:=d) hl hu hn (aB aI x)
     have hz:=gX d (aB aI x)
     have ih:=ih (s+((ao d (aB aI x)).1.size:Int),j+1) ⟨by omega,by simp only [];omega,by simp only [];omega⟩
     simp only [] at ih
     simp (disch:=omega) only [aZ.l0,aZ.b0,aM h1,aM c,aX,aG,hx,bK hk,aT,ht,aE,ih]
     rw [show 60-j=(60-(j+1))+1 by omega,oK]
     congr 2
     omega
   · simp (disch:=omega) only [aZ.l0,aZ.b0,aM h1,aQ c,aX,aK]
     rw [show 60-j=0 by omega]
     simp [oK]
end Go.Proofs.YtdbekilnpjmeaaaGreatDoor.G
namespace Go.Proofs.YtdbekilnpjmeaaaGreatDoor.G
open Go.V
abbrev jo:=List (Ty.den am)
def gn (kind batch:Int) (l:jo):Ty.den am:=(kind,(batch,(ByteArray.empty,(ByteArray.empty,((l.length:Int),(xA l,()))))))
theorem uG {k:Nat} (hk:2 ^ 50≤k) {l:jo} (hl:l.length≤1073741824) (b kd:Int):fu.f k l b kd=some (gn kd b l,()):=by
 unfold fu.f fu.t
 rw [pS hk hl,aT]
 rfl
end Go.Proofs.YtdbekilnpjmeaaaGreatDoor.G
namespace Go.Proofs.YtdbekilnpjmeaaaGreatDoor.G
open Go.V
abbrev fo:=List (Ty.den kg)
def m3 (s:ByteArray):Bool:=decide (1≤(s.size:Int)∧(s.size:Int)≤8)
def e_ (p:Ty.den kg):Ty.den am:=(4,(p.2.2.1,(p.1,(p.2.1,(0,(0,()))))))
def qN (l:fo) (mark:Int):jo:=l.map e_++[gn 5 mark (l.map e_)]
def dG:jo→ByteArray
 | []=>⟨#[]⟩
 | r::l=>aN (aF r)++dG l
theorem q9:∀ l m:jo,dG (l++m)=dG l++dG m
 | [],m=>by rw [List.nil_append,dG,pH]
 | r::l,m=>by rw [List.cons_append,dG,q9 l m,dG,ag]
end Go.Proofs.YtdbekilnpjmeaaaGreatDoor.G
namespace Go.Proofs.YtdbekilnpjmeaaaGreatDoor.G
open Go.V
abbrev aR:=List (Ty.den aA)
end Go.Proofs.YtdbekilnpjmeaaaGreatDoor.G
namespace Go.Proofs.YtdbekilnpjmeaaaGreatDoor.G
open Go.V
noncomputable def gY (s:ByteArray) (i n:Int):Ty.den am × Bool :=
 if 0≤i∧i≤s.size∧1≤n∧n≤s.size-i then (if (iV (ByteArray.extract s i.toNat (i+n).toNat)).2=n then i6 (iV (ByteArray.extract s i.toNat (i+n).toNat)).1 else (s8,false)) else (s8,false)
theorem Dc {s:ByteArray} (h:(i6 s).2=false):i6 s=(s8,false):=Dp h
theorem Gu (s:ByteArray) (i j:Nat):(ByteArray.extract s i j).size≤s.size:=by
 rw [← cY,ri,List.length_drop,List.length_take,cY];omega
theorem tP {k:Nat} (hk:2 ^ 50≤k) {s:ByteArray} (i n:Int) (hs:s.size≤1099511627775):ip.f k s i n=some ((gY s i n).1,((gY s i n).2,())):=by
 unfold ip.f ip.t gY
 rw [oB,aT]
 by_cases c1:0≤i∧i≤s.size
 case neg=>rw [aQ c1,if_neg (fun h=>c1 ⟨h.1,h.2.1⟩)];rfl
 rw [aM c1,fb,aK,oB,aT,aE (by omega) (by omega)]
 by_cases c2:1≤n∧n≤s.size-i
 case neg=>rw [aQ c2,if_neg (fun h=>c2 ⟨h.2.2.1,h.2.2.2⟩)];rfl
 have hz:=Gu s i.toNat (i+n).toNat
 have hu:=n8 (ByteArray.extract s i.toNat (i+n).toNat)
 rw [aM c2,fb,aK,aE (by omega) (by omega),tR (by omega) (by omega) (by omega),if_pos ⟨c1.1,c1.2,c2⟩,lR hk (by omega),aT]
 simp only []
 rw [qc hk (by omega),aT]
 by_cases c3:(iV (ByteArray.extract s i.toNat (i+n).toNat)).2=n
 · rw [if_pos c3]
   simp only [show ((iV (ByteArray.extract s i.toNat (i+n).toNat)).2 != n)=false by rw [c3];simp,aK]
   cases c4:(i6 (iV (ByteArray.extract s i.toNat (i+n).toNat)).1).2 with
   | true=>rfl
   | false=>rw [Dc c4];rfl
 · rw [if_neg c3]
   simp only [show ((iV (ByteArray.extract s i.toNat (i+n).toNat)).2 != n)=true from bne_iff_ne.2 c3,aX]
theorem tN {k:Nat} (hk:2 ^ 50≤k) {s:ByteArray} (i n:Int) (hs:s.size≤1099511627775):iw.f k s i n=some ((gY s i n).1,((gY s i n).2,())):=by
 unfold iw.f iw.t gY
 rw [rO,aT]
 by_cases c1:0≤i∧i≤s.size
 case neg=>rw [aQ c1,if_neg (fun h=>c1 ⟨h.1,h.2.1⟩)];rfl
 rw [aM c1,fb,aK,rO,aT,aE (by omega) (by omega)]
 by_cases c2:0≤n∧n≤s.size-i
 case neg=>rw [aQ c2,if_neg (fun h=>c2 ⟨by omega,h.2.2.2⟩)];rfl
 have hz:=Gu s i.toNat (i+n).toNat
 have hu:=n8 (ByteArray.extract s i.toNat (i+n).toNat)
 have hsz:(ByteArray.extract s i.toNat (i+n).toNat).size≤(i+n).toNat-i.toNat:=by rw [← cY,ri,List.length_drop,List.length_take];omega
 rw [aM c2,fb,aK,aE (by omega) (by omega),tR (by omega) (by omega) (by omega),qE hk (by omega),aT]
 simp only []
 by_cases c0:(iV (ByteArray.extract s i.toNat (i+n).toNat)).2=0
 · rw [show ((iV (ByteArray.extract s i.toNat (i+n).toNat)).2==0)=true by rw [c0];rfl,aX]
   split
   · rename_i h
     rw [if_neg (by omega)]
   · rfl
 · rw [show ((iV (ByteArray.extract s i.toNat (i+n).toNat)).2==0)=false from mm c0,aK,if_pos ⟨c1.1,c1.2,by omega,c2.2⟩]
   by_cases c3:(iV (ByteArray.extract s i.toNat (i+n).toNat)).2=n
   · rw [if_pos c3]
     simp only [show ((iV (ByteArray.extract s i.toNat (i+n).toNat)).2 != n)=false by rw [c3];simp,aK]
     rw [pz hk (by omega),aT]
   · rw [if_neg c3]
     simp only [show ((iV (ByteArray.extract s i.toNat (i+n).toNat)).2 != n)=true from bne_iff_ne.2 c3,aX]
end Go.Proofs.YtdbekilnpjmeaaaGreatDoor.G
namespace Go.Proofs.YtdbekilnpjmeaaaGreatDoor.G
open Go.V
def nt (p:Option (Ty.den aA)) (x:Ty.den aA):Bool :=
 m3 x.1&&(decide ((1:Int)≤x.2.1∧x.2.1≤100000)&&(!decide (x.2.2.1<(0:Int))&&(decide ((1:Int)≤x.2.2.2.1∧x.2.2.2.1≤210)&&(decide ((1:Int)≤x.2.2.2.2.1∧x.2.2.2.2.1≤1000000)&&(match p with | none=>true | some y=>lZ y.1 x.1)))))
def oz (l:aR):Bool:=decide ((l.length:Int)≤20)&&ph nt none l
theorem vt {k:Nat} (hk:2 ^ 50≤k) (l:aR):ez.f k l=some (oz l,()):=by
 unfold ez.f ez.t oz
 by_cases c:l.length > 20
 · rw [aM (by omega),aX,aQ (by omega),Bool.false_and]
 · rw [aQ (by omega),aK,aM (by omega),Bool.true_and]
   refine (pT (L:=fun n i=>ez.l0 k n l i) (Ty.dflt aA) l nt (some (true,())) (some (false,())) (fun n=>?_) (fun n x h hx=>?_) (fun n i x y h0 h1 hx hy=>?_) (n:=k) (by omega)).trans (by cases ph nt none l <;> rfl)
   · simp (disch:=omega) only [ez.l0,ez.b0,aQ,aK]
   · simp (disch:=omega) only [ez.l0,ez.b0,aM (show (0:Int)<(l.length:Int) by omega),aX,aG,hx,mv k,g_ k,aT,aQ (show ¬ (0:Int) > 0 by omega),aK,aE,nt,m3]
     cases decide (1≤(x.1.size:Int)∧(x.1.size:Int)≤8) <;> cases decide ((1:Int)≤x.2.1∧x.2.1≤100000) <;> cases decide (x.2.2.1<(0:Int)) <;> cases decide ((1:Int)≤x.2.2.2.1∧x.2.2.2.1≤210) <;> cases decide ((1:Int)≤x.2.2.2.2.1∧x.2.2.2.2.1≤1000000) <;> rfl
   · simp (disch:=omega) only [ez.l0,ez.b0,aM h1,aX,aG,hx,hy,mv k,g_ k,aT,aM (show i > 0 by omega),aK,aE,nt,m3,lA]
     cases decide (1≤(x.1.size:Int)∧(x.1.size:Int)≤8) <;> cases decide ((1:Int)≤x.2.1∧x.2.1≤100000) <;> cases decide (x.2.2.1<(0:Int)) <;> cases decide ((1:Int)≤x.2.2.2.1∧x.2.2.2.1≤210) <;> cases decide ((1:Int)≤x.2.2.2.2.1∧x.2.2.2.2.1≤1000000) <;> cases lZ y.1 x.1 <;> rfl
theorem CL {k:Nat} (hk:2 ^ 50≤k) {l:aR} (hl:l.length≤1099511627776):fj.f k l=some (oz l,()):=by
 unfold fj.f fj.t oz
 refine (pT (L:=fun n i=>fj.l0 k n l l l.length i) (Ty.dflt aA) l nt (some (decide ((l.length:Int)≤20),())) (some (false,())) (fun n=>?_) (fun n x h hx=>?_) (fun n i x y h0 h1 hx hy=>?_) (n:=k) (by omega)).trans (by cases ph nt none l <;> cases decide ((l.length:Int)≤20) <;> rfl)
 · simp (disch:=omega) only [fj.l0,fj.b0,aQ (show ¬ (l.length:Int)<(l.length:Int) by omega),aK]
 · simp (disch:=omega) only [fj.l0,fj.b0,aM (show (0:Int)<(l.length:Int) by omega),aX,aG,hx,mq k,me k,aT,aQ (show ¬ (0:Int) > 0 by omega),aK,aE,nt,m3]
   cases decide (1≤(x.1.size:Int)∧(x.1.size:Int)≤8) <;> cases decide ((1:Int)≤x.2.1∧x.2.1≤100000) <;> cases decide (x.2.2.1<(0:Int)) <;> cases decide ((1:Int)≤x.2.2.2.1∧x.2.2.2.1≤210) <;> cases decide ((1:Int)≤x.2.2.2.2.1∧x.2.2.2.2.1≤1000000) <;> rfl
 · simp (disch:=omega) only [fj.l0,fj.b0,aM h1,aX,aG,hx,hy,mq k,me k,aT,aM (show i > 0 by omega),aK,aE,nt,m3]
   cases decide (1≤(x.1.size:Int)∧(x.1.size:Int)≤8) <;> cases decide ((1:Int)≤x.2.1∧x.2.1≤100000) <;> cases decide (x.2.2.1<(0:Int)) <;> cases decide ((1:Int)≤x.2.2.2.1∧x.2.2.2.1≤210) <;> cases decide ((1:Int)≤x.2.2.2.2.1∧x.2.2.2.2.1≤1000000) <;> cases lZ y.1 x.1 <;> rfl
def j8:aR→ByteArray→Option (Ty.den aA)
 | [],_=>none
 | e::l,s=>bif seq e.1 s then some e else j8 l s
def JO:Ty.den aA:=(ByteArray.empty,(0,(0,(0,(0,())))))
def Eh:Option (Ty.den aA)→Option (Ty.den aA × Bool × Unit)
 | none=>some (JO,(false,()))
 | some e=>some (e,(true,()))
theorem xb {k:Nat} (hk:2 ^ 50≤k) {l:aR} (hl:l.length≤1099511627776) (s:ByteArray):fy.f k l s=Eh (j8 l s):=by
 unfold fy.f fy.t
 refine eV (L:=fun n i (_:Unit)=>fy.l0 k n l s i ByteArray.empty 0 0 0 0) (R:=fun r _=>Eh (j8 r s)) (Ty.dflt aA) l (fun _ _=>True) (fun n _ _=>?_) (fun n i _ x rest h0 h1 hx hr hp ih=>?_) (n:=k) (s:=()) (by omega) trivial
 · simp (disch:=omega) only [fy.l0,fy.b0,aQ,aK,j8]
   rfl
 · have ih:=ih () trivial
   simp (disch:=omega) only [fy.l0,fy.b0,aM h1,aX,aG,hx,aE,ih,j8]
   cases seq x.1 s <;> rfl
theorem xi {k:Nat} (hk:2 ^ 50≤k) {l:aR} (hl:l.length≤1099511627776) (s:ByteArray):fv.f k l s=Eh (j8 l s):=by
 unfold fv.f fv.t
 refine eV (L:=fun n i (_:Unit)=>fv.l0 k n s l l.length i ByteArray.empty 0 0 0 0) (R:=fun r _=>Eh (j8 r s)) (Ty.dflt aA) l (fun _ _=>True) (fun n _ _=>?_) (fun n i _ x rest h0 h1 hx hr hp ih=>?_) (n:=k) (s:=()) (by omega) trivial
 · simp (disch:=omega) only [fv.l0,fv.b0,aQ,aK,j8]
   rfl
 · have ih:=ih () trivial
   simp (disch:=omega) only [fv.l0,fv.b0,aM h1,aX,aG,hx,aE,ih,j8]
   cases seq x.1 s <;> rfl
def J6:Ty.den kg:=(ByteArray.empty,(ByteArray.empty,(0,())))
noncomputable def eX (d:Ty.den a_) (e:Ty.den aA):Ty.den am × Bool:=gY (ao d (aB aI e.2.1)).1 e.2.2.1 e.2.2.2.1
noncomputable def qg (l:aR) (d:Ty.den a_) (key:ByteArray):Ty.den kg × Int :=
 match j8 l key with
 | none=>(J6,8)
 | some e=>bif (eX d e).2&&(seq (eX d e).1.2.2.1 key&&(((eX d e).1.1==1)||((eX d e).1.1==4))) then ((key,((eX d e).1.2.2.2.1,((eX d e).1.2.1,()))),0) else (J6,3)
theorem ui (i n:Int):gY ⟨#[]⟩ i n=(s8,false):=by
 unfold gY
 rw [if_neg]
 rintro ⟨h1,h2,h3,h4⟩
 have:((⟨#[]⟩:ByteArray).size:Int)=0:=rfl
 omega
theorem Hy {d:Ty.den a_} {s:ByteArray} (h:(ao d s).2=false):(ao d s).1=⟨#[]⟩:=by
 unfold ao at h ⊢
 generalize iB d=b at h ⊢
 generalize bi d.1 s=o at h ⊢
 cases b <;> cases o <;> first | rfl | cases h
theorem yi {d:Ty.den a_} {e:Ty.den aA} (h:(eX d e).2=true):(ao d (aB aI e.2.1)).2=true:=by
 cases c:(ao d (aB aI e.2.1)).2 with
 | true=>rfl
 | false =>
  unfold eX at h
  rw [Hy c,ui] at h
  cases h
theorem D5 {k:Nat} (hk:2 ^ 50≤k) {st:Ty.den aC} {d:Ty.den a_} (hd:uF d) (hl:st.2.1.length≤1099511627776) (key:ByteArray):mS.f k st d key=some ((qg st.2.1 d key).1,((qg st.2.1 d key).2,())):=by
 have:=hd.l;have:=hd.u;have:=hd.n
 unfold mS.f mS.t qg
 rw [xb hk hl]
 cases j8 st.2.1 key with
 | none=>rfl
 | some e =>
  unfold Eh
  have hz:=gX d (aB aI e.2.1)
  simp only [aT,fb,aK,bK hk]
  rw [gI hk (by omega) (by omega) (by omega),aT]
  simp only []
  rw [tP hk _ _ (by omega),aT]
  change (bif !(ao d (aB aI e.2.1)).2 then _ else bif !(eX d e).2 then _ else bif !seq (eX d e).1.2.2.1 key then _ else bif !((eX d e).1.1==1) then bif !((eX d e).1.1==4) then _ else some ((key,((eX d e).1.2.2.2.1,((eX d e).1.2.1,()))),(0,())) else some ((key,((eX d e).1.2.2.2.1,((eX d e).1.2.1,()))),(0,())))=_
  cases c:(eX d e).2 with
  | false=>cases (ao d (aB aI e.2.1)).2 <;> rfl
  | true =>
   rw [yi c]
   cases seq (eX d e).1.2.2.1 key <;> cases ((eX d e).1.1==1) <;> cases ((eX d e).1.1==4) <;> rfl
theorem DO {k:Nat} (hk:2 ^ 50≤k) {st:Ty.den aC} {d:Ty.den a_} (hd:uF d) (hl:st.2.1.length≤1099511627776) (key:ByteArray):mK.f k st d key=some ((qg st.2.1 d key).1,((qg st.2.1 d key).2,())):=by
 have:=hd.l;have:=hd.u;have:=hd.n
 unfold mK.f mK.t qg
 rw [xi hk hl]
 cases j8 st.2.1 key with
 | none=>rfl
 | some e =>
  unfold Eh
  have hz:=gX d (aB aI e.2.1)
  simp only [aT,fb,aK,jy k]
  rw [qJ hk (by omega) (by omega) (by omega),aT]
  simp only []
  rw [tN hk _ _ (by omega),aT]
  change (bif !(eX d e).2 then _ else bif !((eX d e).1.1==1) then bif !((eX d e).1.1==4) then _ else bif !seq (eX d e).1.2.2.1 key then _ else some (((eX d e).1.2.2.1,((eX d e).1.2.2.2.1,((eX d e).1.2.1,()))),(0,())) else bif !seq (eX d e).1.2.2.1 key then _ else some (((eX d e).1.2.2.1,((eX d e).1.2.2.2.1,((eX d e).1.2.1,()))),(0,())))=_
  cases c:(eX d e).2 with
  | false=>rfl
  | true =>
   cases q:seq (eX d e).1.2.2.1 key with
   | false=>cases ((eX d e).1.1==1) <;> cases ((eX d e).1.1==4) <;> rfl
   | true =>
    rw [eT.1 q]
    cases ((eX d e).1.1==1) <;> cases ((eX d e).1.1==4) <;> rfl
noncomputable def nO (l:aR) (d:Ty.den a_):List ByteArray→fo→fo × Int
 | [],acc=>(acc,0)
 | key::r,acc=>bif (qg l d key).2 != 0 then ([],(qg l d key).2) else nO l d r (acc++[(qg l d key).1])
noncomputable def gk (l:aR) (d:Ty.den a_):fo × Int:=nO l d (l.map (·.1)) []
theorem yR (l:aR) (d:Ty.den a_):∀ (r:List ByteArray) (acc:fo),(nO l d r acc).1.length≤acc.length+r.length
 | [],acc=>Nat.le_refl _
 | key::r,acc=>by
  unfold nO
  cases (qg l d key).2 != 0 with
  | true=>exact Nat.zero_le _
  | false =>
   have:=yR l d r (acc++[(qg l d key).1])
   rw [cS] at this
   rw [aK,lP]
   omega
theorem rC (l:aR) (d:Ty.den a_):(gk l d).1.length≤l.length:=by
 have:=yR l d (l.map (·.1)) []
 rw [List.length_map,List.length_nil] at this
 unfold gk
 omega
theorem uI {k:Nat} (hk:2 ^ 50≤k) {st:Ty.den aC} {d:Ty.den a_} (hd:uF d) (hl:st.2.1.length≤1099511627775):gF.f k st d=some ((gk st.2.1 d).1,((gk st.2.1 d).2,())):=by
 unfold gF.f gF.t gk
 refine eV (L:=fun n i s=>gF.l0 k n i st.1.1 st.1.2.1 st.2.1 st.2.2.1 st.2.2.2.1 st.2.2.2.2.1 d.1 d.2.1 d.2.2.1 d.2.2.2.1 s) (R:=fun r s=>some ((nO st.2.1 d (r.map (·.1)) s).1,((nO st.2.1 d (r.map (·.1)) s).2,()))) (Ty.dflt aA) st.2.1 (fun i s=>(s.length:Int)=i) (fun n s hs=>?_) (fun n i s x rest h0 h1 hx hr hp ih=>?_) (n:=k) (s:=[]) (by omega) rfl
 · simp (disch:=omega) only [gF.l0,gF.b0,aQ,aK,List.map_nil,nO]
 · have hg:=D5 hk (st:=st) (d:=d) hd (by omega) x.1
   have ih:=ih (s++[(qg st.2.1 d x.1).1]) (by rw [cS];omega)
   simp (disch:=first | omega | decide) only [gF.l0,gF.b0,aM h1,aX,aG,hx,hg,aT,bm,aE,ih,List.map_cons,nO]
   cases (qg st.2.1 d x.1).2 != 0 <;> rfl
theorem BH {k:Nat} (hk:2 ^ 50≤k) {l:aR} (hl:l.length≤1099511627775):fC.f k l=some (l.map (·.1),()):=by
 unfold fC.f fC.t
 refine eV (L:=fun n i s=>fC.l0 k n l l.length i s) (R:=fun r s=>some (s++r.map (·.1),())) (Ty.dflt aA) l (fun i s=>(s.length:Int)=i) (fun n s hs=>?_) (fun n i s x rest h0 h1 hx hr hp ih=>?_) (n:=k) (s:=[]) (by omega) rfl
 · simp (disch:=omega) only [fC.l0,fC.b0,aQ,aK,List.map_nil,List.append_nil]
 · have ih:=ih (s++[x.1]) (by rw [cS];omega)
   simp (disch:=first | omega | decide) only [fC.l0,fC.b0,aM h1,aX,aG,hx,bm,aE,ih,List.map_cons]
   rw [rW]
   rfl
theorem Bp {k:Nat} (hk:2 ^ 50≤k) {st:Ty.den aC} {d:Ty.den a_} (hd:uF d) (hl:st.2.1.length≤1099511627775):gw.f k st d=some ((gk st.2.1 d).1,((gk st.2.1 d).2,())):=by
 unfold gw.f gw.t gk
 rw [BH hk hl,aT]
 have hm:(st.2.1.map (·.1)).length=st.2.1.length:=List.length_map ..
 refine eV (L:=fun n i s=>gw.l0 k n (st.2.1.map (·.1)).length i st.1.1 st.1.2.1 st.2.1 st.2.2.1 st.2.2.2.1 st.2.2.2.2.1 d.1 d.2.1 d.2.2.1 d.2.2.2.1 s (st.2.1.map (·.1))) (R:=fun r s=>some ((nO st.2.1 d r s).1,((nO st.2.1 d r s).2,()))) (Ty.dflt .str) (st.2.1.map (·.1)) (fun i s=>(s.length:Int)=i) (fun n s hs=>?_) (fun n i s x rest h0 h1 hx hr hp ih=>?_) (n:=k) (s:=[]) (by omega) rfl
 · simp (disch:=omega) only [gw.l0,gw.b0,aQ,aK,nO]
 · have hg:=DO hk (st:=st) (d:=d) hd (by omega) x
   have ih:=ih (s++[(qg st.2.1 d x).1]) (by rw [cS];omega)
   simp (disch:=first | omega | decide) only [gw.l0,gw.b0,aM h1,aX,aG,hx,hg,aT,bm,aE,ih,nO]
   cases (qg st.2.1 d x).2 != 0 <;> rfl
noncomputable def BL (d:Ty.den a_) (tail:Int) (x:Int) (last:Bool):Bool :=
 (ao d (aB aI x)).2&&(decide ((dq (ao d (aB aI x)).1).2=((ao d (aB aI x)).1.size:Int))&&(!last||(tail==((ao d (aB aI x)).1.size:Int))))
noncomputable def m9 (d:Ty.den a_) (tail:Int):List Int→Bool
 | []=>true
 | x::l=>BL d tail x l.isEmpty&&m9 d tail l
noncomputable def nN (d:Ty.den a_) (next:Int) (e:Ty.den aA):Bool :=
 (eX d e).2&&(seq (eX d e).1.2.2.1 e.1&&(((eX d e).1.2.1==e.2.2.2.2.1)&&((((eX d e).1.1==1)||((eX d e).1.1==4))&&!decide (e.2.2.2.2.1≥next))))
noncomputable def dP (st:Ty.den aC) (d:Ty.den a_):Bool :=
 iB d&&(cP st.1&&(oz st.2.1&&(decide ((1:Int)≤st.2.2.1∧st.2.2.1≤1000001)&&(m9 d st.2.2.2.1 st.1.2.1&&st.2.1.all (nN d st.2.2.1)))))
theorem An {α:Type} {l:List α} {i:Int} {x:α} {rest:List α} (h0:0≤i) (h:l.drop i.toNat=x::rest):rest.isEmpty=decide (i+1=(l.length:Int)):=by
 have:=congrArg List.length h
 rw [List.length_drop,lP] at this
 cases rest with
 | nil=>rw [aM (by rw [List.length_nil] at this;omega)];rfl
 | cons y r=>rw [aQ (by rw [lP] at this;omega)];rfl
theorem pN {k:Nat} (hk:2 ^ 50≤k) {st:Ty.den aC} {d:Ty.den a_} (hd:uF d):bF.f k st d=some (dP st d,()):=by
 have:=hd.l;have:=hd.u;have:=hd.n
 unfold bF.f bF.t dP
 rw [lB hk (by omega) (by omega),aT]
 cases iB d with
 | false=>rfl
 | true =>
  rw [fb,aK,q_ hk,aT,Bool.true_and]
  cases cl:cP st.1 with
  | false=>rfl
  | true =>
   rw [fb,aK,vt hk,aT,Bool.true_and]
   cases cd:oz st.2.1 with
   | false=>rfl
   | true =>
    rw [fb,aK,g_,aT,Bool.true_and]
    cases decide ((1:Int)≤st.2.2.1∧st.2.2.1≤1000001) with
    | false=>rfl
    | true =>
     rw [fb,aK,Bool.true_and]
     have hl:st.1.2.1.length≤60:=by
      unfold cP at cl
      rw [im,im,decide_eq_true_eq,decide_eq_true_eq] at cl
      omega
     have he:st.2.1.length≤20:=by
      unfold oz at cd
      rw [im,decide_eq_true_eq] at cd
      omega
     have l1:bF.l1 k k 0 st.1.1 st.1.2.1 st.2.1 st.2.2.1 st.2.2.2.1 st.2.2.2.2.1 d.1 d.2.1 d.2.2.1 d.2.2.2.1=some (st.2.1.all (nN d st.2.2.1),()):=by
      refine eV (L:=fun n i (_:Unit)=>bF.l1 k n i st.1.1 st.1.2.1 st.2.1 st.2.2.1 st.2.2.2.1 st.2.2.2.2.1 d.1 d.2.1 d.2.2.1 d.2.2.2.1) (R:=fun r _=>some (r.all (nN d st.2.2.1),())) (Ty.dflt aA) st.2.1 (fun _ _=>True) (fun n _ _=>?_) (fun n i _ x rest h0 h1 hx hr hp ih=>?_) (n:=k) (s:=()) (by omega) trivial
      · simp (disch:=omega) only [bF.l1,bF.b1,aQ,aK,List.all_nil]
      · have ih:=ih () trivial
        have hz:=gX d (aB aI x.2.1)
        have ht:=gI hk (d:=d) (by omega) (by omega) (by omega) (aB aI x.2.1)
        have hr:=tP hk (s:=(ao d (aB aI x.2.1)).1) x.2.2.1 x.2.2.2.1 (by omega)
        simp (disch:=omega) only [bF.l1,bF.b1,aM h1,aX,aG,hx,bK hk,aT,ht,hr,aE,ih,List.all_cons,nN,eX,bne]
        cases (gY (ao d (aB aI x.2.1)).1 x.2.2.1 x.2.2.2.1).2 <;> cases seq (gY (ao d (aB aI x.2.1)).1 x.2.2.1 x.2.2.2.1).1.2.2.1 x.1 <;> cases ((gY (ao d (aB aI x.2.1)).1 x.2.2.1 x.2.2.2.1).1.2.1==x.2.2.2.2.1) <;>
         cases ((gY (ao d (aB aI x.2.1)).1 x.2.2.1 x.2.2.2.1).1.1==1) <;> cases ((gY (ao d (aB aI x.2.1)).1 x.2.2.1 x.2.2.2.1).1.1==4) <;> cases decide (x.2.2.2.2.1≥st.2.2.1) <;> rfl
     refine (eV (L:=fun n i (_:Unit)=>bF.l0 k n i st.1.1 st.1.2.1 st.2.1 st.2.2.1 st.2.2.2.1 st.2.2.2.2.1 d.1 d.2.1 d.2.2.1 d.2.2.2.1) (R:=fun r _=>some (m9 d st.2.2.2.1 r&&st.2.1.all (nN d st.2.2.1),())) (Ty.dflt (.int .i64)) st.1.2.1 (fun _ _=>True) (fun n _ _=>?_) (fun n i _ x rest h0 h1 hx hr hp ih=>?_) (n:=k) (s:=()) (by omega) trivial)
     · simp (disch:=omega) only [bF.l0,bF.b0,aQ,aK,m9,l1,Bool.true_and]
     · have ih:=ih () trivial
       have hz:=gX d (aB aI x)
       have ht:=gI hk (d:=d) (by omega) (by omega) (by omega) (aB aI x)
       have hs:=mV hk (s:=(ao d (aB aI x)).1) (by omega)
       have hle:=(mz (ao d (aB aI x)).1).2.2
       have hlast:=An h0 hr
       simp (disch:=omega) only [bF.l0,bF.b0,aM h1,aX,aG,hx,bK hk,aT,ht,hs,aE,ih,m9,BL,bne,hlast]
       rw [show ((i+1:Int)==(st.1.2.1.length:Int))=decide (i+1=(st.1.2.1.length:Int)) from rfl]
       cases (ao d (aB aI x)).2 with
       | false=>rfl
       | true =>
        by_cases q:(dq (ao d (aB aI x)).1).2=((ao d (aB aI x)).1.size:Int)
        · rw [aM q,aQ (by omega)]
          cases decide (i+1=(st.1.2.1.length:Int)) <;> cases (st.2.2.2.1==((ao d (aB aI x)).1.size:Int)) <;> rfl
        · rw [aQ q,aM (by omega)]
          rfl
theorem Ae {k:Nat} (hk:2 ^ 50≤k) {st:Ty.den aC} {d:Ty.den a_} (hd:uF d) (hv:st.1.2.1.length≤1099511627776) (hw:st.2.1.length≤1099511627776):cU.f k st d=some (dP st d,()):=by
 have:=hd.l;have:=hd.u;have:=hd.n
 unfold cU.f cU.t dP
 rw [k9 hk (by omega) (by omega),aT]
 cases iB d with
 | false=>rfl
 | true =>
  rw [fb,aK,uY hk hv,aT,Bool.true_and]
  cases cl:cP st.1 with
  | false=>rfl
  | true =>
   rw [fb,aK,CL hk hw,aT,Bool.true_and]
   cases cd:oz st.2.1 with
   | false=>rfl
   | true =>
    rw [fb,aK,me,aT,Bool.true_and]
    cases decide ((1:Int)≤st.2.2.1∧st.2.2.1≤1000001) with
    | false=>rfl
    | true =>
     rw [fb,aK,Bool.true_and]
     have hl:st.1.2.1.length≤60:=by
      unfold cP at cl
      rw [im,im,decide_eq_true_eq,decide_eq_true_eq] at cl
      omega
     have he:st.2.1.length≤20:=by
      unfold oz at cd
      rw [im,decide_eq_true_eq] at cd
      omega
     have l1:cU.l1 k k st.2.1 st.2.1.length 0 st.1.1 st.1.2.1 st.2.1 st.2.2.1 st.2.2.2.1 st.2.2.2.2.1 d.1 d.2.1 d.2.2.1 d.2.2.2.1=some (st.2.1.all (nN d st.2.2.1),()):=by
      refine eV (L:=fun n i (_:Unit)=>cU.l1 k n st.2.1 st.2.1.length i st.1.1 st.1.2.1 st.2.1 st.2.2.1 st.2.2.2.1 st.2.2.2.2.1 d.1 d.2.1 d.2.2.1 d.2.2.2.1) (R:=fun r _=>some (r.all (nN d st.2.2.1),())) (Ty.dflt aA) st.2.1 (fun _ _=>True) (fun n _ _=>?_) (fun n i _ x rest h0 h1 hx hr hp ih=>?_) (n:=k) (s:=()) (by omega) trivial
      · simp (disch:=omega) only [cU.l1,cU.b1,aQ,aK,List.all_nil]
      · have ih:=ih () trivial
        have hz:=gX d (aB aI x.2.1)
        have ht:=qJ hk (d:=d) (by omega) (by omega) (by omega) (aB aI x.2.1)
        have hr:=tN hk (s:=(ao d (aB aI x.2.1)).1) x.2.2.1 x.2.2.2.1 (by omega)
        simp (disch:=omega) only [cU.l1,cU.b1,aM h1,aX,aG,hx,jy k,aT,ht,hr,aE,ih,List.all_cons,nN,eX,bne]
        cases (gY (ao d (aB aI x.2.1)).1 x.2.2.1 x.2.2.2.1).2 <;> cases seq (gY (ao d (aB aI x.2.1)).1 x.2.2.1 x.2.2.2.1).1.2.2.1 x.1 <;> cases ((gY (ao d (aB aI x.2.1)).1 x.2.2.1 x.2.2.2.1).1.2.1==x.2.2.2.2.1) <;>
         cases ((gY (ao d (aB aI x.2.1)).1 x.2.2.1 x.2.2.2.1).1.1==1) <;> cases ((gY (ao d (aB aI x.2.1)).1 x.2.2.1 x.2.2.2.1).1.1==4) <;> cases decide (x.2.2.2.2.1≥st.2.2.1) <;> rfl
     refine (eV (L:=fun n i (_:Unit)=>cU.l0 k n st.1.2.1 st.1.2.1.length i st.1.1 st.1.2.1 st.2.1 st.2.2.1 st.2.2.2.1 st.2.2.2.2.1 d.1 d.2.1 d.2.2.1 d.2.2.2.1) (R:=fun r _=>some (m9 d st.2.2.2.1 r&&st.2.1.all (nN d st.2.2.1),())) (Ty.dflt (.int .i64)) st.1.2.1 (fun _ _=>True) (fun n _ _=>?_) (fun n i _ x rest h0 h1 hx hr hp ih=>?_) (n:=k) (s:=()) (by omega) trivial)
     · simp (disch:=omega) only [cU.l0,cU.b0,aQ,aK,m9,l1,Bool.true_and]
     · have ih:=ih () trivial
       have hz:=gX d (aB aI x)
       have ht:=qJ hk (d:=d) (by omega) (by omega) (by omega) (aB aI x)
       have hs:=BF hk (s:=(ao d (aB aI x)).1) (by omega)
       have hlast:=An h0 hr
       simp (disch:=omega) only [cU.l0,cU.b0,aM h1,aX,aG,hx,jy k,aT,ht,hs,aE,ih,m9,BL,bne,hlast]
       rw [show (i==(st.1.2.1.length:Int)-1)=decide (i+1=(st.1.2.1.length:Int)) from (show decide (i=(st.1.2.1.length:Int)-1)=_ from decide_eq_decide.2 (by omega))]
       cases (ao d (aB aI x)).2 with
       | false=>rfl
       | true =>
        by_cases q:(dq (ao d (aB aI x)).1).2=((ao d (aB aI x)).1.size:Int)
        · rw [aM q,show ((dq (ao d (aB aI x)).1).2==((ao d (aB aI x)).1.size:Int))=true from beq_iff_eq.2 q,q]
          cases decide (i+1=(st.1.2.1.length:Int)) <;> cases (st.2.2.2.1==((ao d (aB aI x)).1.size:Int)) <;> rfl
        · rw [aQ q,show ((dq (ao d (aB aI x)).1).2==((ao d (aB aI x)).1.size:Int))=false from mm q]
          rfl
end Go.Proofs.YtdbekilnpjmeaaaGreatDoor.G
namespace Go.Proofs.YtdbekilnpjmeaaaGreatDoor.G
open Go.V
theorem GX (s:ByteArray):ByteArray.extract s s.size s.size=⟨#[]⟩:=kV (by rw [ig,List.drop_eq_nil_of_le (by rw [cY];omega)];rfl)
theorem vJ {h:Ty.den aD→Ty.den aD} (hh:∀ f,(h f).1=f.1):∀ (l:bN) (s t:ByteArray),bi (m8 h l s) t=bif seq t s then (bi l s).map h else bi l t
 | [],s,t=>by cases seq t s <;> rfl
 | g::l,s,t=>by
  unfold m8
  cases c:seq g.1 s with
  | true =>
   have e:=eT.1 c
   rw [aX,bi.eq_2,hh,bi.eq_2,c,aX]
   by_cases q:t=s
   · rw [e,q,c9];rfl
   · rw [kh q,aK,bi.eq_2]
     rw [e,kh (fun w=>q w.symm)]
     rfl
  | false =>
   rw [aK,bi.eq_2,bi.eq_2,c,aK,vJ hh l s t,bi.eq_2]
   by_cases q:t=s
   · rw [q,c9,c];rfl
   · rw [kh q];rfl
theorem qr {d:Ty.den a_} {g:bN→Int→bN × Int} (h:(iD d g).2=0):(g d.1 d.2.1).2=0∧(iD d g).1.1=(g d.1 d.2.1).1:=by
 unfold iD at h ⊢
 cases c:(jm d).2 != 0 with
 | true =>
  rw [c,aX] at h
  rw [h] at c
  cases c
 | false=>rw [c] at h;exact ⟨h,rfl⟩
theorem rq {d:Ty.den a_} (h:DR d) (s:ByteArray):ao d s=match bi d.1 s with | none=>(⟨#[]⟩,false) | some f=>(f.2.1,true):=by
 unfold ao
 rw [hZ.2 h]
 rfl
theorem kH {r:RD} {f:Ty.den a_→RD} (h:(gR r f).2=0):r.2=0∧gR r f=f r.1∧(f r.1).2=0:=by
 unfold gR at h ⊢
 cases c:r.2==0 with
 | true=>rw [c] at h;exact ⟨G7 c,rfl,h⟩
 | false =>
  rw [c] at h
  rw [aK] at h
  rw [h] at c
  cases c
noncomputable def kL (d:Ty.den a_) (x:Int):ByteArray:=(ao d (aB aI x)).1
def c8 (ids:List Int):Int:=ids.getD (ids.length-1) 0
noncomputable def nn (x:Int) (d:Ty.den a_):RD :=
 gR (bif decide ((dq (kL d x)).2<((kL d x).size:Int)) then Ca d (aB aI x) (dq (kL d x)).2 else (d,0)) fun y=>eA y (aB aI x)
theorem Jt (x:Int) {d:Ty.den a_} (h:DR d):DR (nn x d).1:=by
 unfold nn
 refine kM ?_ fun y hy=>lf hy _
 cases decide ((dq (kL d x)).2<((kL d x).size:Int))
 · exact h
 · exact Gm h _ _
end Go.Proofs.YtdbekilnpjmeaaaGreatDoor.G
namespace Go.Proofs.YtdbekilnpjmeaaaGreatDoor.G
open Go.V
theorem Hw {pre rest:ByteArray} {r:Ty.den am} (h:fG r=true) (d:Nat) :
 kT (pre++(aN (aF r)++rest)) (d+1) (pre.size:Int)=(((pre.size:Int),(((aN (aF r)).size:Int),(r,())))::(kT (pre++(aN (aF r)++rest)) d ((pre.size+(aN (aF r)).size:Nat):Int)).1,(kT (pre++(aN (aF r)++rest)) d ((pre.size+(aN (aF r)).size:Nat):Int)).2):=by
 have hz:=kP r
 have hp:=kx (s:=aF r) (by omega)
 rw [kT,ni,eU,ox rest (by omega)]
 simp only []
 rw [tS h,if_neg (by omega)]
 simp only []
 rw [if_neg (show ¬ ((true:Bool)=false) by decide)]
 rfl
theorem uH:∀ (rs:jo) (pre:ByteArray) (d:Nat),(∀ r ∈ rs,fG r=true)→(dG rs).size<d→(kT (pre++dG rs) d (pre.size:Int)).1.map (·.2.2.1)=rs∧(kT (pre++dG rs) d (pre.size:Int)).2=((pre++dG rs).size:Int)
 | [],pre,d,_,hd=>by
  obtain ⟨d,rfl⟩:∃ q,d=q+1:=⟨d-1,by omega⟩
  have:iV (ByteArray.extract (pre++dG []) (Int.toNat (pre.size:Int)) (pre++dG []).size)=(⟨#[]⟩,0):=by
   rw [ni,eU,dG,Ds]
  rw [kT,this,if_pos rfl,dG,aO,e0]
  exact ⟨rfl,rfl⟩
 | r::rs,pre,d,h,hd=>by
  rw [dG,aO] at hd
  have hz:=kP r
  have hp:=kx (s:=aF r) (by omega)
  obtain ⟨d,rfl⟩:∃ q,d=q+1:=⟨d-1,by omega⟩
  have ih:=uH rs (pre++aN (aF r)) d (fun x hx=>h x (qS _ hx)) (by omega)
  rw [ag,aO pre] at ih
  rw [dG,Hw (h r (oX ..))]
  simp only [List.map_cons]
  exact ⟨by rw [ih.1],ih.2⟩
theorem AO {rs:jo} (h:∀ r ∈ rs,fG r=true):(dq (dG rs)).1.map (·.2.2.1)=rs∧(dq (dG rs)).2=((dG rs).size:Int):=by
 have:=uH rs ⟨#[]⟩ ((dG rs).size+1) h (by omega)
 rw [pH,e0] at this
 exact this
end Go.Proofs.YtdbekilnpjmeaaaGreatDoor.G
namespace Go.Proofs.YtdbekilnpjmeaaaGreatDoor.G
open Go.V
abbrev gP:=List (Ty.den af)
def kZ (x:Ty.den af):Bool:=m3 x.1&&(decide ((x.2.2.1.size:Int)≤24)&&(!x.2.1||seq x.2.2.1 ⟨#[]⟩))
def gV (l:gP):Bool:=ph (fun _=>kZ) none l&&decide (l.length≤8)
theorem xX {k:Nat} (hk:2 ^ 50≤k) (l:gP):di.f k l=some (gV l,()):=by
 unfold di.f di.t gV
 by_cases c:l.length > 8
 · rw [aM (by omega),aX,aQ (by omega),Bool.and_false]
 · rw [aQ (by omega),aK,aM (by omega),Bool.and_true]
   have st:∀ (n:Nat) (i:Int) x,0≤i→i<l.length→l.getD i.toNat (Ty.dflt af)=x→di.l0 k (n+1) l i=bif kZ x then di.l0 k n l (i+1) else some (false,()):=fun n i x h0 h1 hx=>by
    simp (disch:=omega) only [di.l0,di.b0,aM h1,aX,aG,hx,mv k,aT,aE,kZ,m3]
    by_cases c2:(x.2.2.1.size:Int) > 24
    · rw [aM c2,aQ (show ¬ (x.2.2.1.size:Int)≤24 by omega)]
      cases decide (1≤(x.1.size:Int)∧(x.1.size:Int)≤8) <;> rfl
    · rw [aQ c2,aM (show (x.2.2.1.size:Int)≤24 by omega)]
      cases decide (1≤(x.1.size:Int)∧(x.1.size:Int)≤8) <;> cases x.2.1 <;> cases seq x.2.2.1 ⟨#[]⟩ <;> rfl
   exact (pT (L:=fun n i=>di.l0 k n l i) (Ty.dflt af) l (fun _=>kZ) (some (true,())) (some (false,())) (fun n=>by simp (disch:=omega) only [di.l0,di.b0,aQ,aK])
    (fun n x h hx=>st n 0 x (by omega) (by omega) hx) (fun n i x y h0 h1 hx hy=>st n i x (by omega) h1 hx) (n:=k) (by omega)).trans (by cases ph (fun _=>kZ) none l <;> rfl)
theorem rN {k:Nat} (hk:2 ^ 50≤k) {l:gP} (hl:l.length≤1099511627776):dc.f k l=some (gV l,()):=by
 unfold dc.f dc.t gV
 have st:∀ (n:Nat) (i:Int) x,0≤i→i<l.length→l.getD i.toNat (Ty.dflt af)=x→dc.l0 k (n+1) l l l.length i=bif kZ x then dc.l0 k n l l l.length (i+1) else some (false,()):=fun n i x h0 h1 hx=>by
  have e:jw.f k x=some (kZ x,()):=by
   unfold jw.f jw.t kZ m3
   rw [mq,aT]
   cases decide (1≤(x.1.size:Int)∧(x.1.size:Int)≤8) <;> cases decide ((x.2.2.1.size:Int)≤24) <;> cases x.2.1 <;> rfl
  simp (disch:=omega) only [dc.l0,dc.b0,aM h1,aX,aG,hx,e,aT,aE]
  cases kZ x <;> rfl
 exact (pT (L:=fun n i=>dc.l0 k n l l l.length i) (Ty.dflt af) l (fun _=>kZ) (some (decide ((l.length:Int)≤8),())) (some (false,())) (fun n=>by simp (disch:=omega) only [dc.l0,dc.b0,aQ,aK])
  (fun n x h hx=>st n 0 x (by omega) (by omega) hx) (fun n i x y h0 h1 hx hy=>st n i x (by omega) h1 hx) (n:=k) (by omega)).trans (by rw [show decide ((l.length:Int)≤8)=decide (l.length≤8) from decide_eq_decide.2 (by omega)];cases ph (fun _=>kZ) none l <;> rfl)
theorem jV {l:gP} (h:gV l=true):l.length≤8:=by
 unfold gV at h
 rw [im,decide_eq_true_eq] at h
 exact h.2
theorem sA {l:gP} (h:gV l=true) {x:Ty.den af} (hx:x ∈ l):kZ x=true:=by
 unfold gV at h
 rw [im] at h
 exact (vO h.1 hx).elim fun _ q=>q
def fZ (b:Int) (p:Ty.den af):Ty.den am:=bif p.2.1 then (2,(b,(p.1,(ByteArray.empty,(0,(0,())))))) else (1,(b,(p.1,(p.2.2.1,(0,(0,()))))))
def eZ (l:gP) (b:Int):jo:=l.map (fZ b)++[gn 3 b (l.map (fZ b))]
theorem oi {k:Nat} (hk:2 ^ 50≤k) {l:gP} (hl:l.length≤1073741823) (b:Int):cm.f k l b=some (eZ l b,()):=by
 unfold cm.f cm.t
 refine (eV (L:=fun n i s=>cm.l0 k n l b l l.length i s) (R:=fun r s=>some (s++r.map (fZ b)++[gn 3 b (s++r.map (fZ b))],())) (Ty.dflt af) l (fun i s=>(s.length:Int)=i) (fun n s hs=>?_) (fun n i s x rest h0 h1 hx hr hp ih=>?_) (n:=k) (s:=[]) (by omega) (by decide)).trans (by rw [List.nil_append];rfl)
 · simp (disch:=first | omega | decide) only [cm.l0,cm.b0,aQ,aK,zu hk,aT,bm,List.map_nil,List.append_nil,gn,hs]
 · have ih:=ih (s++[fZ b x]) (by rw [sG];show ((s.length+1:Nat):Int)=_;omega)
   have e:fZ b x=bif x.2.1 then (2,(b,(x.1,(ByteArray.empty,(0,(0,())))))) else (1,(b,(x.1,(x.2.2.1,(0,(0,())))))):=rfl
   simp (disch:=first | omega | decide) only [cm.l0,cm.b0,aM,aX,aG,hx,bm,aE]
   cases c:x.2.1 <;> rw [c] at e <;> simp only [aX,aK] at e ⊢ <;> rw [← e] <;> refine ih.trans ?_ <;> simp only [List.map_cons,rW,List.cons_append,List.nil_append]
def aY (r:Ty.den am):Int:=((aN (aF r)).size:Int)
theorem jA (r:Ty.den am):0≤aY r∧aY r≤211:=by
 have:=lL (aF r)
 unfold aY
 omega
def ov:jo→Int→Int→Int→Int × Int
 | [],sz,st,by_=>(st,by_)
 | r::l,sz,st,by_=>if 0<sz∧aY r > 200-sz then ov l (aY r) (st+6+1) (by_+aY r) else ov l (sz+aY r) (st+1) (by_+aY r)
def ij (s:Ty.den aC) (l:gP):Ty.den G2 :=
 if l.length≠0∧gV l=true∧1≤s.2.2.1∧s.2.2.1≤1000000∧0≤s.2.2.2.1 then ((ov (eZ l s.2.2.1) s.2.2.2.1 1 0).1,((ov (eZ l s.2.2.1) s.2.2.2.1 1 0).2,())) else (0,(0,()))
theorem CJ {k:Nat} (hk:2 ^ 50≤k) {rs:jo} (hr:rs.length≤1000) {sz z1 z2:Int} (h0:0≤sz) (h1:sz≤9223372036854775807):cI.l0 k k sz rs.length 0 z1 z2 1 0 rs=some (((ov rs sz 1 0).1,((ov rs sz 1 0).2,())),()):=by
 refine (eV (L:=fun n i (s:Int × Int × Int)=>cI.l0 k n s.1 rs.length i z1 z2 s.2.1 s.2.2 rs) (R:=fun r s=>some (((ov r s.1 s.2.1 s.2.2).1,((ov r s.1 s.2.1 s.2.2).2,())),())) (Ty.dflt am) rs (fun i s=>0≤s.1∧s.1≤9223372036854775807∧0≤s.2.1∧s.2.1≤7*i+1∧0≤s.2.2∧s.2.2≤211*i) (fun n s hs=>?_) (fun n i s x rest h2 h3 hx hr' hp ih=>?_) (n:=k) (s:=(sz,(1,0))) (by omega) ⟨h0,h1,by simp,by simp,by simp,by simp⟩)
 · simp (disch:=omega) only [cI.l0,cI.b0,aQ,aK,ov]
 · obtain ⟨a,b,c⟩:=s
   obtain ⟨p1,p2,p3,p4,p5,p6⟩:=hp
   simp only [] at p1 p2 p3 p4 p5 p6
   have hl:=jA x
   have el:((aN (aF x)).size:Int)=aY x:=rfl
   simp (disch:=omega) only [cI.l0,cI.b0,aM h3,aX,aG,hx,nL hk,mn hk,aT,el,ov]
   by_cases c1:0<a
   · by_cases c2:aY x > 200-a
     · rw [if_pos ⟨c1,c2⟩]
       have ih:=ih (aY x,(b+6+1,c+aY x)) ⟨by simp only [];omega,by simp only [];omega,by simp only [];omega,by simp only [];omega,by simp only [];omega,by simp only [];omega⟩
       simp (disch:=omega) only [aM (show a > 0 from c1),aM (show a > 200-aY x by omega),aX,aE,Int.zero_add]
       exact ih
     · rw [if_neg (by omega)]
       have ih:=ih (a+aY x,(b+1,c+aY x)) ⟨by simp only [];omega,by simp only [];omega,by simp only [];omega,by simp only [];omega,by simp only [];omega,by simp only [];omega⟩
       simp (disch:=omega) only [aM (show a > 0 from c1),aQ (show ¬ a > 200-aY x by omega),aX,aK,aE]
       exact ih
   · rw [if_neg (by omega)]
     have ih:=ih (a+aY x,(b+1,c+aY x)) ⟨by simp only [];omega,by simp only [];omega,by simp only [];omega,by simp only [];omega,by simp only [];omega,by simp only [];omega⟩
     simp (disch:=omega) only [aQ (show ¬ a > 0 from c1),aX,aK,aE]
     exact ih
theorem sq {k:Nat} (hk:2 ^ 50≤k) {s:Ty.den aC} {l:gP} (hl:l.length≤1073741823) (hs:s.2.2.2.1≤(9223372036854775807:Int)):cI.f k s l=some (ij s l,()):=by
 unfold cI.f cI.t ij
 by_cases c0:l.length=0
 · rw [if_neg (by omega),show ((l.length:Int)==0)=true by rw [c0];rfl];rfl
 rw [show ((l.length:Int)==0)=false from mm (by omega),aK,rN hk (by omega),aT]
 cases c1:gV l with
 | false=>rw [if_neg (fun h=>by cases h.2.1)];rfl
 | true =>
  simp only [fb,aK,rO,aT]
  by_cases c2:1≤s.2.2.1∧s.2.2.1≤1000000
  · rw [aM c2,fb,aK]
    by_cases c3:s.2.2.2.1<0
    · rw [aM c3,aX,if_neg (fun h=>absurd h.2.2.2.2 (Int.not_le.2 c3))]
    · rw [aQ c3,aK,if_pos ⟨c0,trivial,c2.1,c2.2,Int.not_lt.1 c3⟩,oi hk hl,aT]
      have h8:=jV c1
      exact CJ hk (by unfold eZ;rw [sG,List.length_map];show _+1≤_;omega) (Int.not_lt.1 c3) hs
  · rw [aQ c2,if_neg (fun h=>c2 ⟨h.2.2.1,h.2.2.2.1⟩)];rfl
theorem FT {x:Ty.den af} (b:Int) (h:kZ x=true):fZ b x=bif x.2.1 then (2,(b,(x.1,(x.2.2.1,(0,(0,())))))) else (1,(b,(x.1,(x.2.2.1,(0,(0,())))))):=by
 unfold fZ
 unfold kZ at h
 rw [im,im] at h
 cases c:x.2.1 with
 | false=>rfl
 | true =>
  rw [c] at h
  have:x.2.2.1=⟨#[]⟩:=eT.1 h.2.2
  rw [this]
  rfl
end Go.Proofs.YtdbekilnpjmeaaaGreatDoor.G
namespace Go.Proofs.YtdbekilnpjmeaaaGreatDoor.G
open Go.V
def gB (l:aR) (key:ByteArray):aR:=l.filter fun x=>!(seq x.1 key)
def Cx (key:ByteArray) (x:Ty.den aA):Bool:=lZ x.1 key||seq x.1 key
def mo (l:aR) (e:Ty.den aA):aR:=l.takeWhile (Cx e.1)++e::l.dropWhile (Cx e.1)
def rK (l:aR) (e:Ty.den aA):aR:=mo (gB l e.1) e
theorem n7 (l:aR) (key:ByteArray):(gB l key).length≤l.length:=List.length_filter_le ..
theorem Au (l:aR) (e:Ty.den aA):(mo l e).length=l.length+1:=by
 unfold mo
 rw [sG,lP]
 have:=congrArg List.length (List.takeWhile_append_dropWhile (p:=Cx e.1) (l:=l))
 rw [sG] at this
 omega
theorem Bv (l:aR) (e:Ty.den aA):(rK l e).length≤l.length+1:=by
 unfold rK
 have:=n7 l e.1
 rw [Au]
 omega
theorem oF {k:Nat} (hk:2 ^ 50≤k) {l:aR} (e:Ty.den aA) (hl:l.length≤1073741823):bZ.f k l e=some (rK l e,()):=by
 unfold bZ.f bZ.t
 refine (eV (L:=fun n i (s:Bool × aR)=>bZ.l0 k n l s.1 i e.1 e.2.1 e.2.2.1 e.2.2.2.1 e.2.2.2.2.1 s.2) (R:=fun r s=>some (s.2++bif s.1 then gB r e.1 else mo (gB r e.1) e,())) (Ty.dflt aA) l (fun i s=>(s.2.length:Int)≤2*i+1) (fun n s hs=>?_) (fun n i s x rest h0 h1 hx hr hp ih=>?_) (n:=k) (s:=(false,[])) (by omega) (by simp)).trans (by rw [List.nil_append];rfl)
 · obtain ⟨dn,out⟩:=s
   simp only [] at hs
   cases dn with
   | true=>simp (disch:=first | omega | decide) only [bZ.l0,bZ.b0,aQ,aK,aX,fb,gB,List.filter_nil,List.append_nil]
   | false=>simp (disch:=first | omega | decide) only [bZ.l0,bZ.b0,aQ,aK,aX,tD,bm,gB,List.filter_nil,mo,List.takeWhile_nil,List.dropWhile_nil,List.nil_append]
 · obtain ⟨dn,out⟩:=s
   simp only [] at hp
   cases c:seq x.1 e.1 with
   | true =>
    simp (disch:=omega) only [bZ.l0,bZ.b0,aM,aX,aG,hx,c,aE]
    refine (ih (dn,out) (by simp only [];omega)).trans ?_
    simp only [gB,List.filter_cons,c,fb,Bool.false_eq_true,if_false]
   | false =>
    have ef:gB (x::rest) e.1=x::gB rest e.1:=by simp only [gB,List.filter_cons,c,tD,if_true]
    cases dn with
    | true =>
     simp (disch:=first | omega | decide) only [bZ.l0,bZ.b0,aM,aX,aK,aG,hx,c,aE,fb,bm]
     refine (ih (true,out++[x]) (by simp only [cS];omega)).trans ?_
     rw [ef]
     simp only [aX,rW,List.cons_append,List.nil_append]
    | false =>
     cases c2:lZ x.1 e.1 with
     | true =>
      simp (disch:=first | omega | decide) only [bZ.l0,bZ.b0,aM,aX,aK,aG,hx,c,c2,aE,tD,fb,Bool.true_or,bm]
      refine (ih (false,out++[x]) (by simp only [cS];omega)).trans ?_
      rw [ef]
      simp only [aK,mo,Cx,List.takeWhile_cons,List.dropWhile_cons,c2,Bool.true_or,if_true,rW,List.cons_append,List.nil_append]
     | false =>
      have hx2:(out++[(e.1,(e.2.1,(e.2.2.1,(e.2.2.2.1,(e.2.2.2.2.1,())))))]:aR).length+1≤1099511627776:=by rw [cS];omega
      simp (disch:=first | omega | decide) only [bZ.l0,bZ.b0,aM,aX,aK,aG,hx,c,c2,aE,tD,Bool.or_false,bm]
      refine (ih (true,(out++[e])++[x]) (by simp only [cS];omega)).trans ?_
      rw [ef]
      simp only [aX,aK,mo,Cx,List.takeWhile_cons,List.dropWhile_cons,c,c2,Bool.or_false,Bool.false_eq_true,if_false,rW,List.cons_append,List.nil_append]
end Go.Proofs.YtdbekilnpjmeaaaGreatDoor.G
namespace Go.Proofs.YtdbekilnpjmeaaaGreatDoor.G
open Go.V
abbrev bG:=List (Ty.den aL)
def qZ (b:Int) (acc:bG) (p:Ty.den aL):bG :=
 bif p.2.2.2.1.2.1==b then (bif p.2.2.2.1.1==3 then [] else bif p.2.2.2.1.1==1||p.2.2.2.1.1==2 then acc++[p] else acc) else acc
def p8 (acc:bG) (p:Ty.den aL):bG:=bif p.2.2.2.1.1==5 then [] else bif p.2.2.2.1.1==4 then acc++[p] else acc
def nz (b:Int) (l:bG):bG:=l.foldl (qZ b) []
def kE (l:bG):bG:=l.foldl p8 []
theorem sO (b:Int) (acc:bG) (p:Ty.den aL):(qZ b acc p).length≤acc.length+1:=by
 unfold qZ
 cases p.2.2.2.1.2.1==b <;> cases p.2.2.2.1.1==3 <;> cases p.2.2.2.1.1==1 <;> cases p.2.2.2.1.1==2 <;> simp
theorem tW (acc:bG) (p:Ty.den aL):(p8 acc p).length≤acc.length+1:=by
 unfold p8
 cases p.2.2.2.1.1==5 <;> cases p.2.2.2.1.1==4 <;> simp
theorem tw {f:bG→Ty.den aL→bG} (h:∀ a p,(f a p).length≤a.length+1):∀ (l acc:bG),(l.foldl f acc).length≤acc.length+l.length
 | [],acc=>by simp
 | p::l,acc=>by
  have:=tw h l (f acc p)
  have:=h acc p
  rw [List.foldl_cons,lP]
  omega
theorem ud (b:Int) (l:bG):(nz b l).length≤l.length:=by
 have:=tw (sO b) l []
 simpa [nz] using this
theorem uc (l:bG):(kE l).length≤l.length:=by
 have:=tw tW l []
 simpa [kE] using this
theorem FI {k:Nat} (hk:2 ^ 50≤k) {l:bG} {e:Int} (b:Int) (h0:0≤e) (he:e≤l.length) (hl:l.length≤1099511627775):iH.f k l e b=some (nz b (l.take e.toNat),()):=by
 unfold iH.f iH.t
 have hlen:(l.take e.toNat).length=e.toNat:=by rw [List.length_take];omega
 have he':e=((l.take e.toNat).length:Int):=by omega
 conv=>lhs;rw [he']
 refine eV (L:=fun n i s=>iH.l0 k n l ((l.take e.toNat).length:Int) b i s) (R:=fun r s=>some (r.foldl (qZ b) s,())) (Ty.dflt aL) (l.take e.toNat) (fun i s=>(s.length:Int)≤i) (fun n s hs=>?_) (fun n i s x rest h0 h1 hx hr hp ih=>?_) (n:=k) (s:=[]) (by omega) (by decide)
 · simp (disch:=omega) only [iH.l0,iH.b0,aQ,aK,List.foldl_nil]
 · rw [my (by omega)] at hx
   have ih:=fun s' (h:s'.length≤s.length+1)=>ih s' (by omega)
   simp (disch:=omega) only [iH.l0,iH.b0,aM h1,aX,aG,hx,aE]
   rw [List.foldl_cons]
   have hs1:=sO b s x
   have ih1:=ih _ hs1
   rw [← ih1]
   unfold qZ
   have r1:∀ {R:Type} (q:Option R),rm (Ty.bytes aL) (s.length+1) q=q:=fun q=>bm (by omega) (by decide)
   have r2:∀ {R:Type} (q:Option R),rm (Ty.bytes aL) (0+1) q=q:=fun q=>bm (by omega) (by decide)
   simp only [r1,r2]
   cases c1:(x.2.2.2.1.2.1==b) <;> cases c2:(x.2.2.2.1.1==3) <;> cases c3:(x.2.2.2.1.1==1) <;> cases c4:(x.2.2.2.1.1==2) <;> first | rfl | skip
   all_goals (exfalso;have e2:=eq_of_beq c2;first | (rw [e2] at c3;revert c3;decide) | (rw [e2] at c4;revert c4;decide))
def Dr (p:Ty.den aL):Ty.den am:=p.2.2.2.1
def oe (r:Ty.den am) (own:bG):Bool:=(r.2.2.2.2.1==(own.length:Int))&&(r.2.2.2.2.2.1==xA (own.map Dr))
theorem uS {k:Nat} (hk:2 ^ 50≤k) (r:Ty.den am) {l:bG} (hl:l.length≤1073741823):iZ.f k r l=some (oe r l,()):=by
 have e:fp.f k l=some (l.map Dr,()):=by
  unfold fp.f fp.t
  refine (eV (L:=fun n i s=>fp.l0 k n l i s) (R:=fun q s=>some (s++q.map Dr,())) (Ty.dflt aL) l (fun i s=>(s.length:Int)=i) (fun n s hs=>?_) (fun n i s x rest h0 h1 hx hr hp ih=>?_) (n:=k) (s:=[]) (by omega) (by decide)).trans (by rw [List.nil_append])
  · simp (disch:=omega) only [fp.l0,fp.b0,aQ,aK,List.map_nil,List.append_nil]
  · simp (disch:=first | omega | decide) only [fp.l0,fp.b0,aM,aX,aG,hx,bm,aE]
    refine (ih (s++[Dr x]) (by rw [cS];omega)).trans ?_
    simp only [List.map_cons,rW,List.cons_append,List.nil_append]
 unfold iZ.f iZ.t oe
 rw [e,aT]
 simp only []
 rw [pS hk (by rw [List.length_map];omega),aT]
 cases (r.2.2.2.2.1==(l.length:Int)) <;> rfl
end Go.Proofs.YtdbekilnpjmeaaaGreatDoor.G
namespace Go.Proofs.YtdbekilnpjmeaaaGreatDoor.G
open Go.V
theorem qD {k:Nat} (hk:2 ^ 50≤k) {l:aR} (key:ByteArray) (hl:l.length≤1099511627775):cq.f k l key=some (gB l key,()):=by
 unfold cq.f cq.t
 refine (eV (L:=fun n i s=>cq.l0 k n l key i s) (R:=fun r s=>some (s++gB r key,())) (Ty.dflt aA) l (fun i s=>(s.length:Int)≤i) (fun n s hs=>?_) (fun n i s x rest h0 h1 hx hr hp ih=>?_) (n:=k) (s:=[]) (by omega) (by decide)).trans (by rw [List.nil_append])
 · simp (disch:=omega) only [cq.l0,cq.b0,aQ,aK,gB,List.filter_nil,List.append_nil]
 · cases c:seq x.1 key with
   | true =>
    simp (disch:=first | omega | decide) only [cq.l0,cq.b0,aM,aX,aK,aG,hx,c,fb,aE]
    refine (ih s (by omega)).trans ?_
    simp only [gB,List.filter_cons,c,fb,Bool.false_eq_true,if_false]
   | false =>
    simp (disch:=first | omega | decide) only [cq.l0,cq.b0,aM,aX,aG,hx,c,tD,bm,aE]
    refine (ih (s++[x]) (by rw [cS];omega)).trans ?_
    simp only [gB,List.filter_cons,c,tD,if_true,rW,List.cons_append,List.nil_append]
theorem qH {k:Nat} (hk:2 ^ 50≤k) {l:aR} (key:ByteArray) (hl:l.length≤1099511627775):c_.f k l key=some (gB l key,()):=by
 unfold c_.f c_.t
 refine (eV (L:=fun n i s=>c_.l0 k n key l l.length i s) (R:=fun r s=>some (s++gB r key,())) (Ty.dflt aA) l (fun i s=>(s.length:Int)≤i) (fun n s hs=>?_) (fun n i s x rest h0 h1 hx hr hp ih=>?_) (n:=k) (s:=[]) (by omega) (by decide)).trans (by rw [List.nil_append])
 · simp (disch:=omega) only [c_.l0,c_.b0,aQ,aK,gB,List.filter_nil,List.append_nil]
 · cases c:seq x.1 key with
   | true =>
    simp (disch:=first | omega | decide) only [c_.l0,c_.b0,aM,aX,aK,aG,hx,c,fb,aE]
    refine (ih s (by omega)).trans ?_
    simp only [gB,List.filter_cons,c,fb,Bool.false_eq_true,if_false]
   | false =>
    simp (disch:=first | omega | decide) only [c_.l0,c_.b0,aM,aX,aG,hx,c,tD,bm,aE]
    refine (ih (s++[x]) (by rw [cS];omega)).trans ?_
    simp only [gB,List.filter_cons,c,tD,if_true,rW,List.cons_append,List.nil_append]
theorem xW {k:Nat} (hk:2 ^ 50≤k) {l:aR} (e:Ty.den aA) (hl:l.length≤1099511627775):dH.f k l e=some (rK l e,()):=by
 unfold dH.f dH.t rK
 rw [qH hk e.1 hl,aT]
 have hd:=n7 l e.1
 simp only []
 generalize gB l e.1=r at *
 have cp:∀ q:aR,q.length≤1099511627775→fD.f k q=some (q,()):=fun q hq=>by
  unfold fD.f fD.t
  rw [bm (by omega) (by decide)]
 have key:∀ (d j n:Nat),r.length-j=d→j≤r.length→d<n→dH.l0 k n (j:Int) e.1 e.2.1 e.2.2.1 e.2.2.2.1 e.2.2.2.2.1 r=some (r.take j++mo (r.drop j) e,()):=by
  intro d
  induction d with
  | zero =>
   intro j n hd hj hn
   obtain ⟨n,rfl⟩:∃ q,n=q+1:=⟨n-1,by omega⟩
   have:j=r.length:=by omega
   subst this
   simp (disch:=first | omega | (simp only [cS,List.length_take,List.length_drop];omega) | decide) only [dH.l0,dH.b0,aQ,aK,cD,ni,cp,aT,bm]
   rw [List.drop_length,mo]
   simp
  | succ d ih =>
   intro j n hd hj hn
   obtain ⟨n,rfl⟩:∃ q,n=q+1:=⟨n-1,by omega⟩
   have hlt:j<r.length:=by omega
   have e1:r.drop j=r.getD j (Ty.dflt aA)::r.drop (j+1):=by
    rw [List.drop_eq_getElem_cons hlt]
    simp [List.getD,hlt]
   cases c:Cx e.1 (r.getD j (Ty.dflt aA)) with
   | true =>
    have c':=c
    unfold Cx at c'
    have ih:=ih (j+1) n (by omega) (by omega) (by omega)
    simp (disch:=omega) only [dH.l0,dH.b0,aM,aX,aG,ni,c',aE]
    rw [show ((j:Int)+1)=((j+1:Nat):Int) by omega,ih,e1,lW (z:=Ty.dflt aA) hlt]
    unfold mo
    simp only [List.takeWhile_cons,List.dropWhile_cons,c,if_true,rW,List.cons_append,List.nil_append]
   | false =>
    have c':=c
    unfold Cx at c'
    simp (disch:=first | omega | (simp only [cS,List.length_take,List.length_drop];omega) | decide) only [dH.l0,dH.b0,aM,aX,aK,aG,ni,c',cD,cp,aT,bm]
    rw [e1]
    unfold mo
    simp only [List.takeWhile_cons,List.dropWhile_cons,c,Bool.false_eq_true,if_false,rW,List.cons_append,List.nil_append]
 exact (key r.length 0 k (by omega) (by omega) (by omega)).trans (by rw [List.take_zero,List.drop_zero,List.nil_append])
theorem ua {k:Nat} (hk:2 ^ 50≤k) {l:bG} {e:Int} (h0:0≤e) (he:e≤l.length) (hl:l.length≤1099511627775):ed.f k l e=some (kE (l.take e.toNat),()):=by
 unfold ed.f ed.t
 have hlen:(l.take e.toNat).length=e.toNat:=by rw [List.length_take];omega
 have he':e=((l.take e.toNat).length:Int):=by omega
 conv=>lhs;rw [he']
 refine eV (L:=fun n i s=>ed.l0 k n l ((l.take e.toNat).length:Int) i s) (R:=fun r s=>some (r.foldl p8 s,())) (Ty.dflt aL) (l.take e.toNat) (fun i s=>(s.length:Int)≤i) (fun n s hs=>?_) (fun n i s x rest h0 h1 hx hr hp ih=>?_) (n:=k) (s:=[]) (by omega) (by decide)
 · simp (disch:=omega) only [ed.l0,ed.b0,aQ,aK,List.foldl_nil]
 · rw [my (by omega)] at hx
   simp (disch:=omega) only [ed.l0,ed.b0,aM h1,aX,aG,hx,aE]
   rw [List.foldl_cons]
   have hs1:=tW s x
   have ih1:=ih (p8 s x) (by omega)
   rw [← ih1]
   unfold p8
   have r1:∀ {R:Type} (q:Option R),rm (Ty.bytes aL) (s.length+1) q=q:=fun q=>bm (by omega) (by decide)
   have r2:∀ {R:Type} (q:Option R),rm (Ty.bytes aL) (0+1) q=q:=fun q=>bm (by omega) (by decide)
   simp only [r1,r2]
   cases c1:(x.2.2.2.1.1==5) <;> cases c2:(x.2.2.2.1.1==4) <;> first | rfl | skip
   all_goals (exfalso;have e2:=eq_of_beq c1;rw [e2] at c2;revert c2;decide)
def cr (p:Ty.den aL):Ty.den aA:=(p.2.2.2.1.2.2.1,(p.1,(p.2.1,(p.2.2.1,(p.2.2.2.1.2.1,())))))
def fK (d:aR) (p:Ty.den aL):aR:=bif p.2.2.2.1.1==2 then gB d p.2.2.2.1.2.2.1 else rK d (cr p)
def dC (d:aR) (own:bG):aR:=own.foldl fK d
theorem uN (d:aR) (p:Ty.den aL):(fK d p).length≤d.length+1:=by
 unfold fK
 have h1:=n7 d p.2.2.2.1.2.2.1
 have h2:=Bv d (cr p)
 cases p.2.2.2.1.1==2
 · rw [aK];omega
 · rw [aX];omega
theorem pb:∀ (own:bG) (d:aR),(dC d own).length≤d.length+own.length
 | [],d=>Nat.le_refl _
 | p::own,d=>by
  have:=pb own (fK d p)
  have:=uN d p
  rw [dC,List.foldl_cons,lP]
  unfold dC at this
  simp only [dC] at *
  omega
def uL (d:aR) (code:Int):Int:=if d.length > 20 then 2 else code
theorem vW {k:Nat} (hk:2 ^ 50≤k) {d:aR} (p:Ty.den aL) (hd:d.length≤1073741823):fm.f k d p=some (fK d p,()):=by
 unfold fm.f fm.t fK
 rw [qD hk _ (by omega),oF hk _ hd]
 cases p.2.2.2.1.1==2 <;> rfl
def HQ (a b:Int):Int:=if a > b then a else b
def jc (all:bG):bG→Nat→aR→Int→Int→Ty.den kY
 | [],_,d,last,code=>bif code==0&&decide ((kE all).length > 0) then (d,(last,(1,()))) else (d,(last,(code,())))
 | p::rest,i,d,last,code =>
  bif code != 0 then (d,(last,(code,()))) else
  bif p.2.2.2.1.1==3 then (bif oe p.2.2.2.1 (nz p.2.2.2.1.2.1 (all.take i)) then jc all rest (i+1) (dC d (nz p.2.2.2.1.2.1 (all.take i))) (HQ p.2.2.2.1.2.1 last) (uL (dC d (nz p.2.2.2.1.2.1 (all.take i))) code)
   else jc all rest (i+1) d (HQ p.2.2.2.1.2.1 last) code) else
  bif p.2.2.2.1.1==5 then (bif oe p.2.2.2.1 (kE (all.take i)) then jc all rest (i+1) (dC d (kE (all.take i))) (HQ p.2.2.2.1.2.1 last) (uL (dC d (kE (all.take i))) code)
   else jc all rest (i+1) d (HQ p.2.2.2.1.2.1 last) 1) else
  jc all rest (i+1) d (HQ p.2.2.2.1.2.1 last) code
def nH (g:Ty.den kY) (l:bG):Ty.den kY:=jc l l 0 g.1 g.2.1 g.2.2.1
def Ey (d:aR) (code:Int):Prop:=d.length≤268435456∧(code=0→d.length≤134217728)
theorem pc {d:aR} {own:bG} {code:Int} (h:Ey d 0) (ho:own.length≤134217728):Ey (dC d own) (uL (dC d own) code):=by
 have h1:=pb own d
 have h2:=h.2 rfl
 refine ⟨by omega,fun q=>?_⟩
 unfold uL at q
 split at q
 · cases q
 · omega
theorem BG {d:aR} (h:Ey d 0):Ey d 1:=⟨h.1,fun q=>by cases q⟩
theorem wA {k:Nat} (hk:2 ^ 50≤k) (g:Ty.den kY) {l:bG} (hl:l.length≤134217728) (hd:g.1.length≤134217728):cA.f k g l=some (nH g l,()):=by
 unfold cA.f cA.t
 rw [bm (by omega) (by decide),List.nil_append]
 have inner:∀ {own:bG} {d:aR} (L0:bG→Int→aR→Int→Int→aR→Int→Int→Option (Ty.den kY × Unit)) (i last code:Int),own.length≤134217728→d.length≤268435456→0≤i→i≤134217728 →
  cA.l1 k L0 k l i 0 [] 0 0 d last code own=L0 l (i+1) [] 0 0 (dC d own) last (uL (dC d own) code):=fun {own d} L0 i last code ho hd2 hi0 hi1=>by
  refine eV (L:=fun n j (d:aR)=>cA.l1 k L0 n l i j [] 0 0 d last code own) (R:=fun q d=>L0 l (i+1) [] 0 0 (dC d q) last (uL (dC d q) code)) (Ty.dflt aL) own (fun j d=>(d.length:Int)≤268435456+j) (fun n d hs=>?_) (fun n j d x rest h0 h1 hx hr hp ih=>?_) (n:=k) (s:=d) (by omega) (by omega)
  · change _=L0 l (i+1) [] 0 0 d last (uL d code)
    simp (disch:=omega) only [cA.l1,cA.b1,aQ (show ¬ ((own.length:Int)<(own.length:Int)) by omega),aK,uL,aE]
    by_cases c:d.length > 20
    · rw [aM (by omega),if_pos c];rfl
    · rw [aQ (by omega),if_neg c];rfl
  · have hsd:=uN d x
    simp (disch:=omega) only [cA.l1,cA.b1,aM h1,aX,aG,hx,vW hk,aT,aE]
    exact ih _ (by omega)
 have hmk:=ua hk (l:=l) (e:=l.length) (by omega) (by omega) (by omega)
 rw [Int.toNat_natCast,List.take_length] at hmk
 have key:=HP (L:=fun n i (s:aR × Int × Int)=>cA.l0 k n l i [] 0 0 s.1 s.2.1 s.2.2) (R:=fun (q:bG) s=>some (jc l q (l.length-q.length) s.1 s.2.1 s.2.2,())) (Ty.dflt aL) l (fun i s=>Ey s.1 s.2.2) (fun n s hs=>?_) (fun n i s x rest h0 h1 hx hr hp ih=>?_) k 0 (g.1,(g.2.1,g.2.2.1)) (by omega) (by omega) (by omega) ⟨by simp only [];omega,fun _=>by simp only [];omega⟩
 · have e:l.drop (Int.toNat 0)=l:=rfl
   rw [e,Nat.sub_self] at key
   exact key
 · obtain ⟨d,last,code⟩:=s
   simp (disch:=omega) only [cA.l0,cA.b0,aQ,aK,jc,hmk,aT]
   cases c1:(code==0)
   · rfl
   · by_cases c2:(kE l).length > 0
     · rw [aM (show ((kE l).length:Int) > 0 by omega),aM c2];rfl
     · rw [aQ (show ¬ ((kE l).length:Int) > 0 by omega),aQ c2];rfl
 · obtain ⟨d,last,code⟩:=s
   simp only [] at hp ih
   have hi:l.length-(x::rest).length=i.toNat:=by
    have:=congrArg List.length hr
    rw [List.length_drop] at this
    omega
   have hi2:l.length-rest.length=i.toNat+1:=by rw [lP] at hi;have:=congrArg List.length hr;rw [List.length_drop,lP] at this;omega
   have htk:(l.take i.toNat).length≤134217728:=by rw [List.length_take];omega
   have ih:=fun a b c h=>ih (a,(b,c)) h
   simp only [hi2] at ih
   rw [hi]
   simp (disch:=omega) only [cA.l0,cA.b0,aM h1,aX,aG,hx,aE,jc,hmk,aT]
   by_cases c0:code=0
   case neg =>
    rw [show (code != 0)=true from bne_iff_ne.2 c0,show (code==0)=false from mm c0]
    rfl
   subst c0
   simp only [show ((0:Int) != 0)=false from rfl,show ((0:Int)==0)=true from rfl,aK,aX]
   by_cases c3:x.2.2.2.1.1=3
   · have b3:(x.2.2.2.1.1==3)=true:=by rw [c3];rfl
     have hlen:=ud x.2.2.2.1.2.1 (l.take i.toNat)
     simp only [b3,aX]
     rw [FI hk _ h0 (by omega) (by omega),aT]
     simp only []
     rw [uS hk _ (by omega),aT]
     cases c:oe x.2.2.2.1 (nz x.2.2.2.1.2.1 (l.take i.toNat)) with
     | true =>
      simp only [fb,aX,aK]
      rw [inner _ i _ _ (by omega) hp.1 h0 (by omega)]
      exact ih _ _ _ (pc hp (by omega))
     | false =>
      simp only [tD,aX,aK]
      exact ih _ _ _ hp
   · have b3:(x.2.2.2.1.1==3)=false:=mm c3
     by_cases c5:x.2.2.2.1.1=5
     · have b5:(x.2.2.2.1.1==5)=true:=by rw [c5];rfl
       have hlen:=uc (l.take i.toNat)
       simp only [b3,b5,aX,aK]
       rw [ua hk h0 (by omega) (by omega),aT]
       simp only []
       rw [uS hk _ (by omega),aT]
       cases c:oe x.2.2.2.1 (kE (l.take i.toNat)) with
       | true =>
        simp only [fb,aX,aK]
        rw [inner _ i _ _ (by omega) hp.1 h0 (by omega)]
        exact ih _ _ _ (pc hp (by omega))
       | false =>
        simp only [tD,aX,aK]
        exact ih _ _ _ (BG hp)
     · have b5:(x.2.2.2.1.1==5)=false:=mm c5
       simp only [b3,b5,aX,aK]
       exact ih _ _ _ hp
theorem kI (all:bG) (ha:all.length≤134217728):∀ (q:bG) (i:Nat) (d:aR) (last code:Int),Ey d code→(jc all q i d last code).1.length≤268435456
 | [],i,d,last,code,h=>by
  unfold jc
  cases code==0&&decide ((kE all).length > 0) <;> exact h.1
 | p::q,i,d,last,code,h=>by
  have hs:=ud p.2.2.2.1.2.1 (all.take i)
  have hm:=uc (all.take i)
  have htk:(all.take i).length≤134217728:=by rw [List.length_take];omega
  unfold jc
  by_cases c0:code=0
  case neg=>rw [show (code != 0)=true from bne_iff_ne.2 c0];exact h.1
  subst c0
  simp only [show ((0:Int) != 0)=false from rfl,aK]
  cases p.2.2.2.1.1==3
  · cases p.2.2.2.1.1==5
    · exact kI all ha q _ _ _ _ h
    · cases oe p.2.2.2.1 (kE (all.take i))
      · exact kI all ha q _ _ _ _ (BG h)
      · exact kI all ha q _ _ _ _ (pc h (by omega))
  · cases oe p.2.2.2.1 (nz p.2.2.2.1.2.1 (all.take i))
    · exact kI all ha q _ _ _ _ h
    · exact kI all ha q _ _ _ _ (pc h (by omega))
theorem sd {g:Ty.den kY} {l:bG} (hl:l.length≤134217728) (hd:g.1.length≤134217728):(nH g l).1.length≤268435456:=kI l hl l 0 _ _ _ ⟨by omega,fun _=>hd⟩
end Go.Proofs.YtdbekilnpjmeaaaGreatDoor.G
namespace Go.Proofs.YtdbekilnpjmeaaaGreatDoor.G
open Go.V
theorem Al {lim lim':Int} (h:lim≤lim'):∀ (l:List Int) (p:Option Int),ph (nG lim) p l=true→ph (nG lim') p l=true
 | [],_,_=>rfl
 | x::l,p,q=>by
  simp only [ph,im] at q ⊢
  refine ⟨?_,Al h l _ q.2⟩
  have q1:=q.1
  unfold nG at q1 ⊢
  rw [im,decide_eq_true_eq] at q1 ⊢
  exact ⟨⟨q1.1.1,Int.le_trans q1.1.2 h⟩,q1.2⟩
theorem Bh {lim n:Int} (h1:1≤n) (h:lim<n):∀ (l:List Int) (p:Option Int),(∀ y,p=some y→y<n)→ph (nG lim) p l=true→ph (nG n) p (l++[n])=true
 | [],p,hp,_=>by
  simp only [List.nil_append,ph,Bool.and_true]
  unfold nG
  rw [im,decide_eq_true_eq]
  refine ⟨⟨h1,Int.le_refl _⟩,?_⟩
  cases p with
  | none=>rfl
  | some y=>exact decide_eq_true (hp y rfl)
 | x::l,p,hp,q=>by
  simp only [ph,im,List.cons_append] at q ⊢
  have q1:=q.1
  unfold nG at q1
  rw [im,decide_eq_true_eq] at q1
  refine ⟨?_,Bh h1 h l _ (fun y e=>by cases e;exact Int.lt_of_le_of_lt q1.1.2 h) q.2⟩
  unfold nG
  rw [im,decide_eq_true_eq]
  exact ⟨⟨q1.1.1,Int.le_of_lt (Int.lt_of_le_of_lt q1.1.2 h)⟩,q1.2⟩
theorem F1 {n:Int} {ids:List Int} (h:cP (n,(ids,()))=true) (hn:n<100000):cP (n+1,(ids,()))=true:=by
 obtain ⟨g1,g2,_⟩:=ck h
 unfold cP at h ⊢
 simp only [im,decide_eq_true_eq] at h ⊢
 rw [aE (n:=n+1-1) (by omega) (by omega)]
 rw [aE (n:=n-1) (by omega) (by omega)] at h
 exact ⟨⟨show (1:Int)≤n+1 by omega,show n+1≤(100000:Int) by omega⟩,h.2.1,Al (by omega) _ _ h.2.2⟩
theorem tY {n:Int} {ids:List Int} (h:cP (n,(ids,()))=true) (hn:n<100000) (hl:ids.length<60):cP (n+1,(ids++[n],()))=true:=by
 obtain ⟨g1,g2,_⟩:=ck h
 unfold cP at h ⊢
 simp only [im,decide_eq_true_eq] at h ⊢
 rw [aE (n:=n+1-1) (by omega) (by omega)]
 rw [aE (n:=n-1) (by omega) (by omega)] at h
 refine ⟨⟨show (1:Int)≤n+1 by omega,show n+1≤(100000:Int) by omega⟩,⟨?_,?_⟩,?_⟩
 · rw [sG,List.length_singleton];omega
 · rw [sG,List.length_singleton];omega
 · rw [show n+1-1=n by omega]
   exact Bh g1 (by omega) _ _ (fun y e=>by cases e) h.2.2
def bL (st:Ty.den aC):ByteArray:=aB aI (c8 st.1.2.1)
theorem pP {st:Ty.den aC} (h:cP st.1=true):0≤aH ((st.1.2.1.length:Int)-1)∧aH ((st.1.2.1.length:Int)-1)<(st.1.2.1.length:Int)∧st.1.2.1.getD (aH ((st.1.2.1.length:Int)-1)).toNat (Ty.dflt (.int .i64))=c8 st.1.2.1:=by
 obtain ⟨_,_,h1,h2,_⟩:=ck (nx:=st.1.1) (ids:=st.1.2.1) h
 rw [aE (n:=(st.1.2.1.length:Int)-1) (by omega) (by omega)]
 refine ⟨by omega,by omega,?_⟩
 unfold c8
 rw [show ((st.1.2.1.length:Int)-1).toNat=st.1.2.1.length-1 by omega]
 rfl
theorem oP {k:Nat} (hk:2 ^ 50≤k) {st:Ty.den aC} (h:cP st.1=true):b_.f k st=some (bL st,()):=by
 obtain ⟨h1,h2,h3⟩:=pP h
 unfold b_.f b_.t bL
 rw [aG h1 h2,h3,bK hk,aT]
theorem oR {k:Nat} {st:Ty.den aC} (h:cP st.1=true):bM.f k st=some (st,(bL st,())):=by
 obtain ⟨h1,h2,h3⟩:=pP h
 unfold bM.f bM.t bL
 rw [aG h1 h2,h3,jy,aT]
def tl (r:RD):RD:=(r.1,fM r.2)
theorem sy (f:Ty.den a_→RD) (d:Ty.den a_):wk f (d,0)=tl (f d):=rfl
theorem sM {r:RD} (h:(r.2==0)=true):tl r=(r.1,0):=by
 unfold tl
 rw [G7 h]
 rfl
theorem mh (r:RD):((tl r).2 != 0)=(r.2 != 0):=by
 unfold tl bne
 rw [iR]
def Gv (st:Ty.den aC):Ty.den aC:=((st.1.1+1,st.1.2),st.2)
def ie (st:Ty.den aC):Ty.den bj:=(st.1.1+1,(st.1.2.1++[st.1.1],()))
def DZ (st:Ty.den aC):Ty.den aC:=(ie st,(st.2.1,(st.2.2.1,(0,st.2.2.2.2))))
def oN (nm:ByteArray) (r:RD):RD:=bif r.2==2 then ((ba [fA,nm] r.1).1,bif (ba [fA,nm] r.1).2==0 then 2 else fM (ba [fA,nm] r.1).2) else r
def gj (st:Ty.den aC) (d:Ty.den a_):Ty.den aC × RD :=
 bif decide ((st.1.2.1.length:Int)≥60) then (st,(d,5)) else bif decide (st.1.1≥100000) then (st,(d,5)) else
 bif (eA d (bL st)).2 != 0 then (st,tl (eA d (bL st))) else
 bif (b7 (aB aI st.1.1) (eA d (bL st)).1).2 != 0 then (Gv st,tl (b7 (aB aI st.1.1) (eA d (bL st)).1)) else
 bif (az (ie st) (b7 (aB aI st.1.1) (eA d (bL st)).1).1).2 != 0 then (Gv st,oN (aB aI st.1.1) (tl (az (ie st) (b7 (aB aI st.1.1) (eA d (bL st)).1).1)))
 else (DZ st,((az (ie st) (b7 (aB aI st.1.1) (eA d (bL st)).1).1).1,0))
structure SR (st:Ty.den aC) (r:RD) (B:Int):Prop where
 live:cP st.1=true
 disk:DR r.1
 lo:LE.le (α:=Int) 0 st.2.2.2.1
 hi:LE.le (α:=Int) st.2.2.2.1 B
theorem w6 (n:Int):(aB aI n).size≤1000:=by
 unfold aB
 by_cases h:(1:Int)≤n∧n≤100000
 · rw [aM h,aX,ByteArray.size_append]
   have:=l7 (n:=n) (by omega) (by omega)
   have:aI.size=3:=rfl
   omega
 · rw [aQ h]
   exact Nat.zero_le _
theorem DQ {k:Nat} (hk:2 ^ 50≤k) {st:Ty.den aC} {d:Ty.den a_} (hl:cP st.1=true) (hd:DR d):fJ.f k st d=some ((gj st d).1,((gj st d).2.1,((gj st d).2.2,()))):=by
 obtain ⟨g1,g2,g3,g4,_⟩:=ck (nx:=st.1.1) (ids:=st.1.2.1) hl
 have hsz:=w6 st.1.1
 unfold fJ.f fJ.t gj
 by_cases c1:(st.1.2.1.length:Int)≥60
 · rw [aM c1];rfl
 by_cases c2:st.1.1≥(100000:Int)
 · rw [aQ c1,aM c2];rfl
 have c1':st.1.2.1.length<60:=by omega
 have c2':LT.lt (α:=Int) st.1.1 100000:=Int.not_le.1 c2
 rw [aQ c1,aQ c2]
 simp only [aK]
 rw [oP hk hl,aT]
 simp only []
 rw [kz hk hd.sz,aT]
 simp only []
 have h1:=lf hd (bL st)
 generalize eA d (bL st)=r1 at h1 ⊢
 cases c3:r1.2 != 0 with
 | true=>simp only [aX,cw,aT,tl]
 | false =>
  simp only [aK]
  rw [bK hk,aT]
  simp only []
  rw [mj hk h1 (by omega),aT]
  simp only []
  have h2:=j4 (aB aI st.1.1) _ h1
  generalize b7 (aB aI st.1.1) r1.1=r2 at h2 ⊢
  have ew:aH (st.1.1+1)=st.1.1+1:=aE (by omega) (by omega)
  cases c4:r2.2 != 0 with
  | true=>simp only [aX,cw,aT,tl,ew];rfl
  | false =>
   simp only [aK]
   rw [List.nil_append,bm (by omega) (by decide),bm (by omega) (by decide),ew,nK hk h2 (v:=(st.1.1+1,(st.1.2.1++[st.1.1],()))) (tY hl c2' c1'),aT]
   simp only []
   have h3:=l_ (ie st) _ h2
   rw [show ((st.1.1+1,(st.1.2.1++[st.1.1],())):Ty.den bj)=ie st from rfl]
   generalize az (ie st) r2.1=r3 at h3 ⊢
   have et:(fM r3.2 != 0)=(r3.2 != 0):=by unfold bne;rw [iR]
   cases c5:fM r3.2==2 with
   | true =>
    have e2:fM r3.2=2:=G7 c5
    have c6:(r3.2 != 0)=true:=by rw [← et,e2];rfl
    rw [c6]
    simp only [aX]
    rw [aT,show (⟨#[116,101,109,112]⟩:ByteArray)=fA from rfl]
    simp only []
    rw [mr hk h3 (by simp),aT]
    unfold oN
    rw [show (tl r3).2=fM r3.2 from rfl,c5,show (tl r3).1=r3.1 from rfl]
    simp only [aX,bne]
    generalize ba [fA,aB aI st.1.1] r3.1=r4
    cases c7:r4.2==0 with
    | true=>rw [e2];rfl
    | false=>simp only [tD,aX,aK,cw,aT];rfl
   | false =>
    simp only [aK]
    rw [et]
    cases c6:r3.2 != 0 with
    | true =>
     simp only [aX]
     unfold oN
     rw [show (tl r3).2=fM r3.2 from rfl,c5]
     rfl
    | false=>rfl
theorem Cb {k:Nat} (hk:2 ^ 50≤k) {st:Ty.den aC} {d:Ty.den a_} (hl:cP st.1=true) (hd:DR d):eh.f k st (wO (d,0))=some ((gj st d).1,(wO (gj st d).2,())):=by
 obtain ⟨g1,g2,g3,g4,_⟩:=ck (nx:=st.1.1) (ids:=st.1.2.1) hl
 have hsz:=w6 st.1.1
 unfold eh.f eh.t gj
 by_cases c1:(st.1.2.1.length:Int)≥60
 · rw [aM c1];rfl
 by_cases c2:st.1.1≥(100000:Int)
 · rw [aQ c1,aM c2];rfl
 have c2':LT.lt (α:=Int) st.1.1 100000:=Int.not_le.1 c2
 rw [aQ c1,aQ c2]
 simp only [aK]
 rw [oR hl,aT]
 simp only []
 rw [tg hk _ hd,aT,sy]
 simp only []
 have h1:=lf hd (bL st)
 generalize eA d (bL st)=r1 at h1 ⊢
 rw [show (wO (tl r1)).2.1=(tl r1).2 from rfl,mh]
 cases c3:r1.2 != 0 with
 | true=>rfl
 | false =>
  simp only [aK]
  rw [sM (r:=r1) (by unfold bne at c3;simpa using c3),jy,aT]
  simp only []
  rw [vT hk (r1.1,0) h1 (by omega),aT,sy]
  simp only []
  have h2:=j4 (aB aI st.1.1) _ h1
  generalize b7 (aB aI st.1.1) r1.1=r2 at h2 ⊢
  have ew:aH (st.1.1+1)=st.1.1+1:=aE (by omega) (by omega)
  rw [show (wO (tl r2)).2.1=(tl r2).2 from rfl,mh,ew]
  cases c4:r2.2 != 0 with
  | true=>rfl
  | false =>
   simp only [aK]
   rw [sM (r:=r2) (by unfold bne at c4;simpa using c4)]
   have ec:f_.f k ((st.1.1+1,st.1.2):Ty.den bj)=some (((st.1.1+1,st.1.2):Ty.den bj),()):=by
    unfold f_.f f_.t
    rw [bm (by show st.1.2.1.length≤_;omega) (by decide)]
   rw [ec,aT]
   simp only []
   have hlen:(st.1.2.1++[st.1.1]).length≤1073741824:=by rw [sG,List.length_singleton];omega
   rw [bm (by omega) (by decide),xv hk (r2.1,0) h2 (v:=(st.1.1+1,(st.1.2.1++[st.1.1],()))) hlen,aT,sy]
   simp only []
   have h3:=l_ (ie st) _ h2
   rw [show ((st.1.1+1,(st.1.2.1++[st.1.1],())):Ty.den bj)=ie st from rfl]
   generalize az (ie st) r2.1=r3 at h3 ⊢
   rw [show (wO (tl r3)).2.1=(tl r3).2 from rfl,mh]
   cases c5:r3.2 != 0 with
   | true =>
    simp only [aX]
    rw [aT,show (⟨#[116,101,109,112]⟩:ByteArray)=fA from rfl]
    simp only []
    rw [B8 hk (tl r3) h3 (by simp),aT]
    rfl
   | false =>
    simp only [aK]
    rw [sM (r:=r3) (by unfold bne at c5;simpa using c5)]
    rfl
end Go.Proofs.YtdbekilnpjmeaaaGreatDoor.G
namespace Go.Proofs.YtdbekilnpjmeaaaGreatDoor.G
open Go.V
theorem mw {st:Ty.den aC} {d:Ty.den a_} (hl:cP st.1=true) (hd:DR d):cP (gj st d).1.1=true∧DR (gj st d).2.1∧(gj st d).1.2.1=st.2.1∧((gj st d).1.2.2.2.1=st.2.2.2.1∨(gj st d).1.2.2.2.1=0):=by
 unfold gj
 by_cases c1:(st.1.2.1.length:Int)≥60
 · rw [aM c1];exact ⟨hl,hd,rfl,.inl rfl⟩
 by_cases c2:st.1.1≥(100000:Int)
 · rw [aQ c1,aM c2];exact ⟨hl,hd,rfl,.inl rfl⟩
 have c1':st.1.2.1.length<60:=by omega
 have c2':LT.lt (α:=Int) st.1.1 100000:=Int.not_le.1 c2
 have hn:cP (Gv st).1=true:=F1 (ids:=st.1.2.1) hl c2'
 have hg:cP (DZ st).1=true:=tY hl c2' c1'
 have h1:=lf hd (bL st)
 have h2:=j4 (aB aI st.1.1) _ h1
 have h3:=l_ (ie st) _ h2
 rw [aQ c1,aQ c2]
 simp only [aK]
 generalize eA d (bL st)=r1 at h1 h2 h3 ⊢
 generalize b7 (aB aI st.1.1) r1.1=r2 at h2 h3 ⊢
 generalize az (ie st) r2.1=r3 at h3 ⊢
 cases r1.2 != 0 with
 | true=>exact ⟨hl,h1,rfl,.inl rfl⟩
 | false =>
  cases r2.2 != 0 with
  | true=>exact ⟨hn,h2,rfl,.inl rfl⟩
  | false =>
   cases r3.2 != 0 with
   | true =>
    refine ⟨hn,?_,rfl,.inl rfl⟩
    simp only [aX,aK]
    unfold oN
    cases (tl r3).2==2 with
    | true=>exact mO _ _ h3
    | false=>exact h3
   | false=>exact ⟨hg,h3,rfl,.inr rfl⟩
def Ai:Ty.den aL:=(0,(0,(0,((0,(0,(ByteArray.empty,(ByteArray.empty,(0,(0,())))))),()))))
def K6 (st:Ty.den aC) (n:Int):Ty.den aC:=(st.1,(st.2.1,(st.2.2.1,(n,st.2.2.2.2))))
def gd (st:Ty.den aC) (d:Ty.den a_) (r:Ty.den am):(Ty.den aC × RD) × Ty.den aL :=
 bif (fq d (bL st) (aN (aF r))).2 != 0 then ((st,tl (fq d (bL st) (aN (aF r)))),Ai)
 else ((K6 st (st.2.2.2.1+aY r),((fq d (bL st) (aN (aF r))).1,0)),(c8 st.1.2.1,(st.2.2.2.1,(aY r,(r,())))))
def df (st:Ty.den aC) (d:Ty.den a_) (r:Ty.den am):(Ty.den aC × RD) × Ty.den aL :=
 bif decide (st.2.2.2.1 > 0)&&decide (st.2.2.2.1+aY r > 200) then
  (bif (gj st d).2.2 != 0 then (gj st d,Ai) else gd (gj st d).1 (gj st d).2.1 r)
 else gd st d r
def iy (p:Ty.den aL):Ty.den am:=p.2.2.2.1
theorem yM {st:Ty.den aC} {d:Ty.den a_} (hl:cP st.1=true) (hd:DR d) {B:Int} (h0:LE.le (α:=Int) 0 st.2.2.2.1) (h1:LE.le (α:=Int) st.2.2.2.1 B) (r:Ty.den am) :
 SR (gd st d r).1.1 (gd st d r).1.2 (B+211)∧(gd st d r).1.1.2.1=st.2.1∧((gd st d r).1.2.2=0→iy (gd st d r).2=r):=by
 have hr:=jA r
 have ha:=oH hd (bL st) (aN (aF r))
 unfold gd
 generalize fq d (bL st) (aN (aF r))=a at ha ⊢
 cases c:a.2 != 0 with
 | true =>
  refine ⟨⟨hl,ha,h0,?_⟩,rfl,fun e=>?_⟩
  · show LE.le (α:=Int) st.2.2.2.1 (B+211)
    omega
  · have e:(tl a).2=0:=e
    have q:=mh a
    rw [e,c] at q
    cases q
 | false =>
  refine ⟨⟨hl,ha,?_,?_⟩,rfl,fun e=>rfl⟩
  · show LE.le (α:=Int) 0 (st.2.2.2.1+aY r)
    omega
  · show LE.le (α:=Int) (st.2.2.2.1+aY r) (B+211)
    omega
theorem mC {st:Ty.den aC} {d:Ty.den a_} {B:Int} (h:SR st (d,0) B) (hB:0≤B) (r:Ty.den am) :
 SR (df st d r).1.1 (df st d r).1.2 (B+211)∧(df st d r).1.1.2.1=st.2.1∧((df st d r).1.2.2=0→iy (df st d r).2=r):=by
 obtain ⟨hl,hd,h0,h1⟩:=h
 unfold df
 cases decide (st.2.2.2.1 > 0)&&decide (st.2.2.2.1+aY r > 200) with
 | false=>exact yM hl hd h0 h1 r
 | true =>
  obtain ⟨g1,g2,g3,g4⟩:=mw hl hd
  generalize gj st d=q at g1 g2 g3 g4 ⊢
  have s0:LE.le (α:=Int) 0 q.1.2.2.2.1:=by rcases g4 with e | e <;> rw [e];exact h0;exact Int.le_refl _
  have s1:LE.le (α:=Int) q.1.2.2.2.1 B:=by rcases g4 with e | e <;> rw [e];exact h1;exact hB
  cases c:q.2.2 != 0 with
  | true =>
   refine ⟨⟨g1,g2,s0,?_⟩,g3,fun e=>?_⟩
   · show LE.le (α:=Int) q.1.2.2.2.1 (B+211)
     omega
   · have e:q.2.2=0:=e
     rw [e] at c
     cases c
  | false =>
   obtain ⟨k1,k2,k3⟩:=yM g1 g2 s0 s1 r
   exact ⟨k1,k2.trans g3,k3⟩
theorem wZ {k:Nat} (hk:2 ^ 50≤k) {st:Ty.den aC} {d:Ty.den a_} (hl:cP st.1=true) (hd:DR d) (r:Ty.den am) (h0:LE.le (α:=Int) 0 st.2.2.2.1) (h1:LE.le (α:=Int) st.2.2.2.1 1099511627776) :
 (((b_.f k st).bind fun r4=>((bS.f k d r4.1 (aN (aF r))).bind fun r5=>(bif (r5.2.1 != 0) then ((aP.f k r5.2.1).bind fun r6=>(some (st,(r5.1,(Ai,r6)))))
  else (bX (aH ((List.length st.1.2.1:Int)-1)) (List.length st.1.2.1:Int) (some ((st.1,(st.2.1,(st.2.2.1,((aH (st.2.2.2.1+(ByteArray.size (aN (aF r)):Int))),st.2.2.2.2)))),(r5.1,(((List.getD st.1.2.1 (Int.toNat (aH ((List.length st.1.2.1:Int)-1))) (Ty.dflt (.int .i64))),(st.2.2.2.1,((ByteArray.size (aN (aF r)):Int),(r,())))),(0,()))))))))):eC.Rs) =
 some ((gd st d r).1.1,((gd st d r).1.2.1,((gd st d r).2,((gd st d r).1.2.2,())))):=by
 obtain ⟨g1,g2,g3⟩:=pP hl
 have hr:=jA r
 have hz:((aN (aF r)).size:Int)=aY r:=rfl
 rw [oP hk hl,aT]
 simp only []
 rw [nQ hk hd.sz (bL st) (t:=aN (aF r)) (by omega),aT]
 unfold gd
 simp only []
 generalize fq d (bL st) (aN (aF r))=a
 cases c:a.2 != 0 with
 | true=>simp only [aX,cw,aT];rfl
 | false =>
  simp only [aK]
  rw [aG g1 g2,g3,hz,aE (by omega) (by omega)]
  rfl
theorem xD {k:Nat} (hk:2 ^ 50≤k) {st:Ty.den aC} {d:Ty.den a_} {B:Int} (h:SR st (d,0) B) (hB:0≤B) (hB':B≤1000000000) (r:Ty.den am) :
 eC.f k st d r=some ((df st d r).1.1,((df st d r).1.2.1,((df st d r).2,((df st d r).1.2.2,())))):=by
 obtain ⟨hl,hd,h0,h1⟩:=h
 have hr:=jA r
 have hz:((aN (aF r)).size:Int)=aY r:=rfl
 have own:=wZ (d:=d) hk hl hd r h0 (by omega)
 rw [hz,aE (n:=st.2.2.2.1+aY r) (by omega) (by omega)] at own
 unfold eC.f eC.t
 rw [dJ hk,aT]
 simp only []
 rw [lQ hk,aT]
 simp only []
 rw [hz,aE (n:=st.2.2.2.1+aY r) (by omega) (by omega)]
 unfold df
 by_cases c1:LT.lt (α:=Int) 0 st.2.2.2.1
 · rw [aM (show st.2.2.2.1 > 0 from c1),Bool.true_and,aX]
   by_cases c2:LT.lt (α:=Int) 200 (st.2.2.2.1+aY r)
   · rw [aM (show st.2.2.2.1+aY r > 200 from c2),aX,aX,DQ hk hl hd,aT]
     simp only []
     obtain ⟨g1,g2,g3,g4⟩:=mw hl hd
     generalize gj st d=q at g1 g2 g3 g4 ⊢
     cases c:q.2.2 != 0 with
     | true=>rfl
     | false =>
      have s0:LE.le (α:=Int) 0 q.1.2.2.2.1:=by rcases g4 with e | e <;> rw [e];exact h0;exact Int.le_refl _
      have s1:LE.le (α:=Int) q.1.2.2.2.1 B:=by rcases g4 with e | e <;> rw [e];exact h1;exact hB
      exact wZ hk g1 g2 r s0 (by omega)
   · rw [aQ (show ¬ st.2.2.2.1+aY r > 200 from c2),aK,aK]
     exact own
 · rw [aQ (show ¬ st.2.2.2.1 > 0 from c1),Bool.false_and,aK]
   exact own
theorem wu {k:Nat} (hk:2 ^ 50≤k) {st:Ty.den aC} {d:Ty.den a_} (hl:cP st.1=true) (hd:DR d) (r:Ty.den am) (h0:LE.le (α:=Int) 0 st.2.2.2.1) (h1:LE.le (α:=Int) st.2.2.2.1 1099511627776) :
 ∃ e,((bX (aH ((List.length st.1.2.1:Int)-1)) (List.length st.1.2.1:Int) ((bM.f k st).bind fun r4=>((cZ.f k (wO (d,0)) r4.2.1 (aN (aF r))).bind fun r5=>(bif (r5.1.2.1==0) then
  (some ((r4.1.1,(r4.1.2.1,(r4.1.2.2.1,((aH (r4.1.2.2.2.1+(ByteArray.size (aN (aF r)):Int))),r4.1.2.2.2.2)))),(r5.1,((r.2.2.1,((List.getD st.1.2.1 (Int.toNat (aH ((List.length st.1.2.1:Int)-1))) (Ty.dflt (.int .i64))),(st.2.2.2.1,((ByteArray.size (aN (aF r)):Int),(r.2.1,()))))),()))))
  else (some (r4.1,(r5.1,((r.2.2.1,((List.getD st.1.2.1 (Int.toNat (aH ((List.length st.1.2.1:Int)-1))) (Ty.dflt (.int .i64))),(st.2.2.2.1,((ByteArray.size (aN (aF r)):Int),(r.2.1,()))))),())))))))):fW.Rs) =
 some ((gd st d r).1.1,(wO (gd st d r).1.2,(e,())))∧((gd st d r).1.2.2=0→e=cr (gd st d r).2):=by
 obtain ⟨g1,g2,g3⟩:=pP hl
 have hr:=jA r
 have hz:((aN (aF r)).size:Int)=aY r:=rfl
 refine ⟨(r.2.2.1,(c8 st.1.2.1,(st.2.2.2.1,(aY r,(r.2.1,()))))),?_,?_⟩
 · rw [aG g1 g2,oR hl,aT]
   simp only []
   rw [yS hk (d,0) hd (bL st) (t:=aN (aF r)) (by omega),aT,sy]
   unfold gd
   simp only []
   generalize fq d (bL st) (aN (aF r))=a
   rw [show (wO (tl a)).2.1=(tl a).2 from rfl,g3,hz]
   have q:=mh a
   unfold bne at q ⊢
   cases c:a.2==0 with
   | true =>
    rw [c] at q
    have q:((tl a).2==0)=true:=by simpa using q
    rw [q,sM c]
    simp only [aX,aK,fb]
    rw [aE (by omega) (by omega)]
    rfl
   | false =>
    rw [c] at q
    have q:((tl a).2==0)=false:=by simpa using q
    rw [q]
    rfl
 · unfold gd
   generalize fq d (bL st) (aN (aF r))=a
   cases c:a.2 != 0 with
   | true =>
    intro e
    have e:(tl a).2=0:=e
    have q:=mh a
    rw [e,c] at q
    cases q
   | false=>exact fun _=>rfl
theorem Cr {k:Nat} (hk:2 ^ 50≤k) {st:Ty.den aC} {d:Ty.den a_} {B:Int} (h:SR st (d,0) B) (hB:0≤B) (hB':B≤1000000000) (r:Ty.den am) :
 ∃ e,fW.f k st (wO (d,0)) r=some ((df st d r).1.1,(wO (df st d r).1.2,(e,())))∧((df st d r).1.2.2=0→e=cr (df st d r).2):=by
 obtain ⟨hl,hd,h0,h1⟩:=h
 have hr:=jA r
 have hz:((aN (aF r)).size:Int)=aY r:=rfl
 have own:=wu (d:=d) hk hl hd r h0 (by omega)
 have e1:aH (st.2.2.2.1+((aN (aF r)).size:Int))=st.2.2.2.1+aY r:=aE (by omega) (by omega)
 have hw:((wO (d,0)).2.1 != 0)=false:=rfl
 unfold fW.f fW.t
 rw [nL hk,aT]
 simp only []
 rw [mn hk,aT]
 simp only []
 rw [hw]
 simp only [aK]
 unfold df
 rw [e1]
 by_cases c1:LT.lt (α:=Int) 0 st.2.2.2.1
 · rw [aM (show st.2.2.2.1 > 0 from c1)]
   simp only [Bool.true_and,aX]
   by_cases c2:LT.lt (α:=Int) 200 (st.2.2.2.1+aY r)
   · rw [aM (show st.2.2.2.1+aY r > 200 from c2)]
     simp only [aX]
     rw [Cb hk hl hd,aT]
     simp only []
     obtain ⟨g1,g2,g3,g4⟩:=mw hl hd
     generalize gj st d=q at g1 g2 g3 g4 ⊢
     rw [show (wO q.2).2.1=q.2.2 from rfl]
     cases c:q.2.2 != 0 with
     | true =>
      refine ⟨_,rfl,fun e=>?_⟩
      have e:q.2.2=0:=e
      rw [e] at c
      cases c
     | false =>
      have s0:LE.le (α:=Int) 0 q.1.2.2.2.1:=by rcases g4 with e | e <;> rw [e];exact h0;exact Int.le_refl _
      have s1:LE.le (α:=Int) q.1.2.2.2.1 B:=by rcases g4 with e | e <;> rw [e];exact h1;exact hB
      have e2:wO q.2=wO (q.2.1,0):=by
       have:q.2.2=0:=by unfold bne at c;simpa using c
       show (q.2.1,(q.2.2,()))=(q.2.1,((0:Int),()))
       rw [this]
      simp only [aK]
      rw [e2]
      exact wu hk g1 g2 r s0 (by omega)
   · rw [aQ (show ¬ st.2.2.2.1+aY r > 200 from c2)]
     simp only [aK]
     exact own
 · rw [aQ (show ¬ st.2.2.2.1 > 0 from c1)]
   simp only [Bool.false_and,aK]
   exact own
end Go.Proofs.YtdbekilnpjmeaaaGreatDoor.G
namespace Go.Proofs.YtdbekilnpjmeaaaGreatDoor.G
open Go.V
def fT (d:Ty.den a_) (s:ByteArray):Option ByteArray:=(bi d.1 s).map (·.2.1)
theorem o7 {d:Ty.den a_} (h:DR d) (s:ByteArray):(ao d s).1=(fT d s).getD ⟨#[]⟩:=by
 rw [rq h]
 unfold fT
 cases bi d.1 s <;> rfl
theorem AR:∀ {l:bN} {f:Ty.den aD} {t:ByteArray},bi l f.1=none→bi (jx l f) t=bif seq f.1 t then some f else bi l t
 | [],f,t,_=>rfl
 | g::l,f,t,h=>by
  unfold bi at h
  cases c:seq g.1 f.1 with
  | true=>rw [c] at h;cases h
  | false =>
   rw [c,aK] at h
   unfold jx
   cases lZ f.1 g.1 with
   | true=>rfl
   | false =>
    simp only [aK]
    rw [bi.eq_2,AR h,bi.eq_2]
    by_cases q:f.1=t
    · rw [q] at c ⊢
      rw [c,c9]
      rfl
    · rw [kh q]
      rfl
theorem vS {l:bN} {f:Ty.den aD} {t:ByteArray} (h:f.1≠t):bi (jx l f) t=bi l t:=by
 induction l with
 | nil=>unfold jx;rw [bi.eq_2,kh h];rfl
 | cons g l ih =>
  unfold jx
  cases lZ f.1 g.1 with
  | true=>rw [aX,bi.eq_2,kh h,aK]
  | false=>rw [aK,bi.eq_2,ih,bi.eq_2]
theorem sL {d:Ty.den a_} {g:bN→Int→bN × Int} {t:ByteArray} (h:∀ l c,(bi (g l c).1 t).map (·.2.1)=(bi l t).map (·.2.1)):fT (iD d g).1 t=fT d t:=by
 unfold iD fT
 cases (jm d).2 != 0 with
 | true=>rw [aX,pC]
 | false=>exact h d.1 d.2.1
theorem Fw {d:Ty.den a_} {s t:ByteArray} (h:s≠t):fT (tr d s).1 t=fT d t:=sL fun l c=>by
 unfold wH
 cases !jZ s with
 | true=>rfl
 | false =>
  cases (bi l s).isSome with
  | true=>rfl
  | false =>
   cases decide ((l.length:Int)≥130) with
   | true=>rfl
   | false =>
    show (bi (jx l (s,(ByteArray.empty,(0,())))) t).map _=_
    rw [vS (f:=(s,(ByteArray.empty,(0,())))) h]
theorem pR {d:Ty.den a_} {s t x:ByteArray} (h:s≠t):fT (fq d s x).1 t=fT d t:=sL fun l c=>by
 unfold wn
 cases (bi l s).isNone with
 | true=>rfl
 | false =>
  cases decide ((x.size:Int) > aH (c-(dz l:Int))) with
  | true=>rfl
  | false =>
   show (bi (m8 (fun f=>(f.1,(f.2.1++x,f.2.2))) l s) t).map _=_
   rw [vJ (h:=fun f:Ty.den aD=>(f.1,(f.2.1++x,f.2.2))) (fun f=>rfl),kh (fun q=>h q.symm)]
   rfl
theorem kA {d:Ty.den a_} {s t:ByteArray}:fT (eA d s).1 t=fT d t:=sL fun l c=>by
 unfold xp
 cases (bi l s).isNone with
 | true=>rfl
 | false =>
  show (bi (m8 (fun f=>(f.1,(f.2.1,((f.2.1.size:Int),f.2.2.2)))) l s) t).map _=_
  rw [vJ (h:=fun f:Ty.den aD=>(f.1,(f.2.1,((f.2.1.size:Int),f.2.2.2)))) (fun f=>rfl)]
  by_cases q:t=s
  · rw [q,c9]
    cases bi l s <;> rfl
  · rw [kh q]
    rfl
theorem JE {d:Ty.den a_} {s t:ByteArray} (h:s≠t):fT (ry d s).1 t=fT d t:=sL fun l c=>by
 unfold xm
 cases (bi l s).isNone with
 | true=>rfl
 | false =>
  show (bi (h_ l s) t).map _=_
  rw [sV (fun q=>h q.symm)]
theorem JM {d:Ty.den a_} {a b t:ByteArray} (h1:a≠t) (h2:b≠t):fT (su d a b).1 t=fT d t:=sL fun l c=>by
 unfold uw
 cases !jZ b with
 | true=>rfl
 | false =>
  simp only [aK]
  cases bi l a with
  | none=>rfl
  | some f =>
   cases seq a b with
   | true=>rfl
   | false =>
    show (bi (jx (h_ (h_ l a) b) (b,f.2)) t).map _=_
    rw [vS (f:=(b,f.2)) h2,sV (fun q=>h2 q.symm),sV (fun q=>h1 q.symm)]
theorem qp {d:Ty.den a_} {s x:ByteArray}:fT (fq d s x).1 s=bif (fq d s x).2==0 then (fT d s).map (·++x) else fT d s:=by
 unfold fq iD fT
 cases c:(jm d).2 != 0 with
 | true =>
  rw [aX,pC]
  have:((jm d).2==0)=false:=by unfold bne at c;simpa using c
  rw [this]
  rfl
 | false =>
  simp only [aK]
  unfold wn
  cases c1:bi d.1 s with
  | none=>simp only [Option.isNone_none,aX];rw [c1];rfl
  | some f =>
   simp only [Option.isNone_some,aK]
   cases decide ((x.size:Int) > aH (d.2.1-(dz d.1:Int))) with
   | true=>simp only [aX];rw [c1];rfl
   | false =>
    simp only [aK]
    rw [vJ (h:=fun f:Ty.den aD=>(f.1,(f.2.1++x,f.2.2))) (fun f=>rfl),c9,c1]
    rfl
theorem mH {r:RD} {f:Ty.den a_→RD} {t:ByteArray} {x:Option ByteArray} (h1:fT r.1 t=x) (h2:∀ y,fT (f y).1 t=fT y t):fT (gR r f).1 t=x:=by
 unfold gR
 cases r.2==0 with
 | true=>exact (h2 _).trans h1
 | false=>exact h1
theorem Dj {d:Ty.den a_} {s t:ByteArray} (h:s≠t):fT (jk s d).1 t=fT d t:=by
 unfold jk
 cases (bi d.1 s).isSome with
 | true=>exact JE h
 | false=>rfl
theorem ja {d:Ty.den a_} {s t:ByteArray} (h:s≠t):fT (b7 s d).1 t=fT d t:=mH (Dj h) fun y=>Fw h
theorem AD {d:Ty.den a_} {s t x:ByteArray} (h:s≠t):fT (lJ s x d).1 t=fT d t:=mH (mH (ja h) fun y=>pR h) fun y=>kA
theorem gZ {d:Ty.den a_} {v:Ty.den bj} {t:ByteArray} (h1:fA≠t) (h2:jM≠t):fT (az v d).1 t=fT d t:=mH (AD h1) fun y=>JM h1 h2
theorem mL {t:ByteArray}:∀ (l:List ByteArray) (d:Ty.den a_),(∀ s ∈ l,s≠t)→fT (ba l d).1 t=fT d t
 | [],_,_=>rfl
 | s::l,d,h=>by
  show fT (gR (jk s d) (ba l)).1 t=_
  exact mH (Dj (h s oX)) fun y=>mL l y fun q hq=>h q (qS _ hq)
end Go.Proofs.YtdbekilnpjmeaaaGreatDoor.G
namespace Go.Proofs.YtdbekilnpjmeaaaGreatDoor.G
open Go.V
def d_:jo→Ty.den aC→Ty.den a_→bG→(Ty.den aC × RD) × bG
 | [],st,d,ps=>((st,(d,0)),ps)
 | r::l,st,d,ps=>bif (df st d r).1.2.2 != 0 then ((df st d r).1,ps) else d_ l (df st d r).1.1 (df st d r).1.2.1 (ps++[(df st d r).2])
def Kq (st:Ty.den aC) (dir:aR):Ty.den aC:=(st.1,(dir,st.2.2))
def nl (n:Nat) (q:(Ty.den aC × RD) × bG):Ty.den aC × RD :=
 bif q.1.2.2 != 0 then q.1 else bif (eA q.1.2.1 (bL q.1.1)).2 != 0 then (q.1.1,tl (eA q.1.2.1 (bL q.1.1))) else (Kq q.1.1 (dC q.1.1.2.1 (q.2.take n)),((eA q.1.2.1 (bL q.1.1)).1,0))
def lN (st:Ty.den aC):Ty.den aC:=(st.1,(st.2.1,(st.2.2.1+1,st.2.2.2)))
def br (st:Ty.den aC) (d:Ty.den a_) (l:gP):Ty.den aC × RD:=nl l.length (d_ (eZ l st.2.2.1) (lN st) d [])
theorem ly:∀ (l:jo) (st:Ty.den aC) (d:Ty.den a_) (ps:bG) (B:Int),SR st (d,0) B→0≤B →
 SR (d_ l st d ps).1.1 (d_ l st d ps).1.2 (B+211*(l.length:Int))∧(d_ l st d ps).1.1.2.1=st.2.1∧((d_ l st d ps).1.2.2=0→(d_ l st d ps).2.map iy=ps.map iy++l)
 | [],st,d,ps,B,h,_=>⟨⟨h.live,h.disk,h.lo,by have:=h.hi;show LE.le (α:=Int) st.2.2.2.1 _;rw [List.length_nil];omega⟩,rfl,fun _=>(List.append_nil _).symm⟩
 | r::l,st,d,ps,B,h,hB=>by
  obtain ⟨g1,g2,g3⟩:=mC h hB r
  unfold d_
  have el:((r::l).length:Int)=(l.length:Int)+1:=by rw [lP];omega
  cases c:(df st d r).1.2.2 != 0 with
  | true =>
   refine ⟨⟨g1.live,g1.disk,g1.lo,?_⟩,g2,fun e=>?_⟩
   · have:=g1.hi
     show LE.le (α:=Int) (df st d r).1.1.2.2.2.1 _
     omega
   · have e:(df st d r).1.2.2=0:=e
     rw [e] at c
     cases c
  | false =>
   have e0:(df st d r).1.2.2=0:=by unfold bne at c;simpa using c
   obtain ⟨k1,k2,k3⟩:=ly l (df st d r).1.1 (df st d r).1.2.1 (ps++[(df st d r).2]) (B+211) ⟨g1.live,g1.disk,g1.lo,g1.hi⟩ (by omega)
   refine ⟨⟨k1.live,k1.disk,k1.lo,?_⟩,k2.trans g2,fun e=>?_⟩
   · have:=k1.hi
     show LE.le (α:=Int) (d_ l (df st d r).1.1 (df st d r).1.2.1 (ps++[(df st d r).2])).1.1.2.2.2.1 _
     omega
   · have:=k3 e
     show (d_ l (df st d r).1.1 (df st d r).1.2.1 (ps++[(df st d r).2])).2.map iy=_
     rw [this,List.map_append,List.map_singleton,g3 e0,rW]
     rfl
def nf:aR→gP→aR→aR
 | dir,[],_=>dir
 | dir,_::_,[]=>dir
 | dir,p::l,e::es=>nf (bif p.2.1 then gB dir p.1 else rK dir e) l es
theorem p0 (dir:aR) (es:aR):nf dir [] es=dir:=by cases es <;> rfl
theorem sB (b:Int):∀ (l:gP) (ps:bG) (q:jo) (dir:aR),ps.map iy=l.map (fZ b)++q→nf dir l (ps.map cr)=dC dir (ps.take l.length)
 | [],ps,q,dir,h=>by rw [List.length_nil,List.take_zero,p0];rfl
 | x::l,[],q,dir,h=>by cases h
 | x::l,p::ps,q,dir,h=>by
  rw [List.map_cons,List.map_cons,List.cons_append] at h
  injection h with h1 h2
  rw [List.map_cons,lP,List.take_succ_cons]
  unfold nf dC
  rw [List.foldl_cons,sB b l ps q _ h2]
  unfold dC
  congr 1
  unfold fK
  rw [show p.2.2.2.1=fZ b x from h1]
  unfold fZ
  cases x.2.1 <;> rfl
def sX (p:Ty.den af):Ty.den aA:=(p.1,(0,(0,(0,(0,())))))
def k_ (dir:aR) (l:gP):Int:=((nf dir l (l.map sX)).length:Int)
theorem ER (l:aR) (e:Ty.den aA):(rK l e).length≤l.length+1:=by
 unfold rK
 rw [Au]
 have:=n7 l e.1
 omega
theorem zN {k:Nat} (hk:2 ^ 50≤k) {dir:aR} (hd:dir.length≤536870912) {l:gP} (hl:l.length≤1000):cG.f k dir l=some (k_ dir l,()):=by
 have key:∀ (n:Nat) (i:Int) (s:aR),0≤i→i≤(l.length:Int)→(l.length:Int)-i<n→(s.length:Int)≤536870912+i→cG.l1 k n l i s=some (k_ s (l.drop i.toNat),()):=fun n i s h0 h1 h2 hs=>by
  refine HP (L:=fun n i (s:aR)=>cG.l1 k n l i s) (R:=fun r s=>some (k_ s r,())) (Ty.dflt af) l (fun i s=>(s.length:Int)≤536870912+i) (fun n s hs=>?_) (fun n i s x rest h0 h1 hx hr hp ih=>?_) n i s h0 h1 h2 hs
  · simp (disch:=omega) only [cG.l1,cG.b1,aQ,aK]
    rfl
  · simp only [cG.l1,cG.b1]
    rw [aM h1,aX,aG h0 h1,hx,aE (n:=i+1) (by omega) (by omega)]
    unfold k_
    simp only [List.map_cons,nf]
    cases c:x.2.1 with
    | true =>
     have:=n7 s x.1
     simp only [aX]
     rw [aG h0 h1,qD hk x.1 (by omega),aT]
     exact ih (gB s x.1) (by omega)
    | false =>
     have:=ER s (sX x)
     have e:=oF hk (l:=s) (sX x) (by omega)
     unfold sX at e
     simp only [aK]
     rw [aG h0 h1,e,aT]
     exact ih (rK s (sX x)) (by omega)
 obtain ⟨q,hq⟩:∃ q,k=q+1:=⟨k-1,by omega⟩
 have k1:=key (q+1) 0 dir (by omega) (by omega) (by omega) (by omega)
 unfold cG.f cG.t
 rw [show l.drop (0:Int).toNat=l from rfl] at k1
 refine Eq.trans ?_ k1
 rw [show cG.l0 k k=cG.l0 k (q+1) by rw [← hq]]
 rfl
theorem yX {k:Nat} (hk:2 ^ 50≤k) {l:gP} (hl:l.length≤1000) {es:aR} (he:l.length≤es.length) {L:Nat→Int→aR→fX.Rs}
 (hL:∀ n i s,L (n+1) i s=bif decide (i<(l.length:Int)) then bX i (l.length:Int) (bif (l.getD i.toNat (Ty.dflt af)).2.1 then ((c_.f k s (l.getD i.toNat (Ty.dflt af)).1).bind fun r=>L n (aH (i+1)) r.1) else
  (bX i (es.length:Int) ((dH.f k s (es.getD i.toNat (Ty.dflt aA))).bind fun r=>L n (aH (i+1)) r.1))) else some (s,()))
 (n:Nat) (i:Int) (s:aR) (h0:0≤i) (h1:i≤(l.length:Int)) (h2:(l.length:Int)-i<n) (hs:(s.length:Int)≤536870912+i):L n i s=some (nf s (l.drop i.toNat) (es.drop i.toNat),()):=by
 refine HB (L:=L) (R:=fun i s=>some (nf s (l.drop i.toNat) (es.drop i.toNat),())) (l.length:Int) (fun i s=>(s.length:Int)≤536870912+i) (fun n s hs=>?_) (fun n i s h0 h1 hp ih=>?_) n i s h0 h1 h2 hs
 · rw [hL,aQ (by omega),aK,Int.toNat_natCast,List.drop_length,p0]
 · have hi:i.toNat<l.length:=by omega
   have hj:i.toNat<es.length:=by omega
   have e1:l.drop i.toNat=l.getD i.toNat (Ty.dflt af)::l.drop (i+1).toNat:=by
    rw [List.drop_eq_getElem_cons hi,show (i+1).toNat=i.toNat+1 by omega]
    simp [List.getD,hi]
   have e2:es.drop i.toNat=es.getD i.toNat (Ty.dflt aA)::es.drop (i+1).toNat:=by
    rw [List.drop_eq_getElem_cons hj,show (i+1).toNat=i.toNat+1 by omega]
    simp [List.getD,hj]
   rw [hL,aM h1,aX,aG h0 h1,e1,e2]
   simp only [nf]
   generalize l.getD i.toNat (Ty.dflt af)=x
   generalize es.getD i.toNat (Ty.dflt aA)=e
   rw [aE (n:=i+1) (by omega) (by omega),aG h0 (by omega)]
   cases c:x.2.1 with
   | true =>
    have:=n7 s x.1
    simp only [aX]
    rw [qH hk x.1 (by omega),aT]
    exact ih (gB s x.1) (by omega)
   | false =>
    have:=ER s e
    simp only [aK]
    rw [xW hk e (by omega),aT]
    exact ih (rK s e) (by omega)
theorem BO {k:Nat} (hk:2 ^ 50≤k) {dir:aR} (hd:dir.length≤536870912) {l:gP} (hl:l.length≤1000) {es:aR} (he:l.length≤es.length):gE.f k dir l es=some (nf dir l es,()):=by
 unfold gE.f gE.t
 exact yX hk hl he (L:=fun n i s=>gE.l0 k n es l l.length i s) (fun n i s=>rfl) k 0 dir (by omega) (by omega) (by omega) (by omega)
theorem Bt {k:Nat} (hk:2 ^ 50≤k) {dir:aR} (hd:dir.length≤536870912) {l:gP} (hl:l.length≤1000) {es:aR} (he:l.length≤es.length):fX.f k dir l es=some (nf dir l es,()):=by
 obtain ⟨q,hq⟩:∃ q,k=q+1:=⟨k-1,by omega⟩
 have k1:=yX hk hl he (L:=fun n i s=>fX.l1 k n es l l.length i s) (fun n i s=>rfl) (q+1) 0 dir (by omega) (by omega) (by omega) (by omega)
 unfold fX.f fX.t
 refine Eq.trans ?_ k1
 rw [show fX.l0 k k=fX.l0 k (q+1) by rw [← hq]]
 rfl
theorem A5 {k:Nat} (hk:2 ^ 50≤k) {dir:aR} (hd:dir.length≤536870912) {l:gP} (hl:l.length≤1000):eI.f k dir l=some (k_ dir l,()):=by
 unfold eI.f eI.t k_
 refine (eV (L:=fun n i (s:aR)=>eI.l0 k n dir l l l.length i s) (R:=fun r s=>if (s++r.map sX).length=l.length then some (((nf dir l (s++r.map sX)).length:Int),()) else none) (Ty.dflt af) l (fun i s=>(s.length:Int)=i) (fun n s hs=>?_) (fun n i s x rest h0 h1 hx hr hp ih=>?_) (n:=k) (s:=[]) (by omega) rfl).trans ?_
 · simp (disch:=omega) only [eI.l0,eI.b0,aQ,aK]
   rw [Bt hk hd hl (by omega),aT,List.map_nil,List.append_nil,if_pos (by omega)]
 · simp (disch:=first | omega | decide) only [eI.l0,eI.b0,aM,aX,aG,hx,bm,aE]
   refine (ih (s++[sX x]) (by rw [sG,List.length_singleton];omega)).trans ?_
   rw [rW]
   rfl
 · rw [List.nil_append,if_pos (List.length_map ..)]
end Go.Proofs.YtdbekilnpjmeaaaGreatDoor.G
namespace Go.Proofs.YtdbekilnpjmeaaaGreatDoor.G
open Go.V
theorem D6 (dir:aR) (ps:bG) (p:Ty.den aL):dC dir (ps++[p])=fK (dC dir ps) p:=by
 unfold dC
 rw [List.foldl_append]
 rfl
theorem fa {c:Int} (h:(c != 0)=false):c=0:=by unfold bne at h;simpa using h
theorem FV (l:gP) (b:Int):(eZ l b).length=l.length+1:=by unfold eZ;rw [sG,List.length_map];rfl
theorem zK {k:Nat} (hk:2 ^ 50≤k) {st:Ty.den aC} {d:Ty.den a_} {l:gP} (h:SR st (d,0) 100000) (hb0:LE.le (α:=Int) 0 st.2.2.1) (hb:LE.le (α:=Int) st.2.2.1 1000000) (hp:gV l=true) (hd:st.2.1.length≤20) :
 bB.f k st d l=some ((br st d l).1,((br st d l).2.1,((br st d l).2.2,()))):=by
 have hl:=jV hp
 unfold bB.f bB.t br eZ
 rw [bm (by omega) (by decide),List.nil_append,aE (n:=st.2.2.1+1) (by omega) (by omega)]
 generalize hbe:st.2.2.1=b at *
 rw [show lN st=((st.1,(st.2.1,(b+1,st.2.2.2))):Ty.den aC) from by unfold lN;rw [hbe]]
 refine eV (L:=fun n i (s:(Ty.den aC × Ty.den a_) × bG)=>bB.l0 k n b i l s.1.1.1.2.1 s.1.1.2.1 s.1.1.1.1 s.1.1.2.2.1 s.1.1.2.2.2.1 s.1.1.2.2.2.2.1 s.1.2.1 s.1.2.2.1 s.1.2.2.2.1 s.1.2.2.2.2.1 [] [] 0 0 0 0 [] 0 0 false (s.2.map iy) (dC s.1.1.2.1 s.2))
  (R:=fun r s=>(some ((nl l.length (d_ (r.map (fZ b)++[gn 3 b (l.map (fZ b))]) s.1.1 s.1.2 s.2)).1,((nl l.length (d_ (r.map (fZ b)++[gn 3 b (l.map (fZ b))]) s.1.1 s.1.2 s.2)).2.1,((nl l.length (d_ (r.map (fZ b)++[gn 3 b (l.map (fZ b))]) s.1.1 s.1.2 s.2)).2.2,()))):bB.Rs))
  (Ty.dflt af) l (fun i s=>SR s.1.1 (s.1.2,0) (100000+211*i)∧s.2.map iy=(l.take i.toNat).map (fZ b)∧s.1.1.2.1.length≤20) (fun n s hs=>?_) (fun n i s x rest h0 h1 hx hr hs ih=>?_) (n:=k) (s:=(((((st.1,(st.2.1,(b+1,st.2.2.2))):Ty.den aC)),d),[])) (by omega) ⟨⟨h.live,h.disk,h.lo,Int.le_trans h.hi (by decide)⟩,rfl,hd⟩
 · obtain ⟨⟨st',d'⟩,ps⟩:=s
   obtain ⟨g1,g2,g3⟩:=hs
   simp only [] at g1 g2 g3 ⊢
   rw [Int.toNat_natCast,List.take_length] at g2
   have hps:ps.length=l.length:=by simpa using congrArg List.length g2
   simp only [bB.l0,bB.b0]
   rw [aQ (by omega),aK,g2,uG hk (by rw [List.length_map];omega),aT]
   simp only []
   rw [show ((st'.1.1,(st'.1.2.1,())),(st'.2.1,(st'.2.2.1,(st'.2.2.2.1,(st'.2.2.2.2.1,())))))=st' from rfl,show (d'.1,(d'.2.1,(d'.2.2.1,(d'.2.2.2.1,()))))=d' from rfl,
    xD hk g1 (by omega) (by omega),aT]
   simp only [List.map_nil,List.nil_append,d_]
   obtain ⟨k1,k2,_⟩:=mC g1 (by omega) (gn 3 b (l.map (fZ b)))
   generalize df st' d' (gn 3 b (l.map (fZ b)))=q at k1 k2 ⊢
   cases c:q.1.2.2 != 0 with
   | true =>
    simp only [aX]
    unfold nl
    simp only [c,aX]
   | false =>
    simp only [aK]
    rw [oP hk k1.live,aT]
    simp only []
    rw [kz hk (DR.sz k1.disk),aT]
    unfold nl
    simp only [show ((0:Int) != 0)=false from rfl,aK]
    generalize eA q.1.2.1 (bL q.1.1)=y
    cases c2:y.2 != 0 with
    | true=>simp only [aX,cw,aT];rfl
    | false =>
     simp only [aK]
     rw [k2,List.take_append_of_le_length (by omega),List.take_of_length_le (by omega)]
     rfl
 · obtain ⟨⟨st',d'⟩,ps⟩:=s
   obtain ⟨g1,g2,g3⟩:=hs
   simp only [] at g1 g2 g3 ih ⊢
   have hi:i.toNat<l.length:=by omega
   have hm:x ∈ l:=List.mem_of_mem_drop (i:=i.toNat) (by rw [hr];exact oX)
   have e:=FT b (sA hp hm)
   have et:l.take (i+1).toNat=l.take i.toNat++[x]:=by
    rw [show (i+1).toNat=i.toNat+1 by omega,List.take_succ_eq_append_getElem hi]
    congr 2
    rw [← hx]
    simp [List.getD,hi]
   have hps:ps.length≤l.length:=by
    have:=congrArg List.length g2
    rw [List.length_map,List.length_map,List.length_take] at this
    omega
   obtain ⟨k1,k2,k3⟩:=mC g1 (by omega) (fZ b x)
   have body:((eC.f k st' d' (fZ b x)).bind fun r1=>(bif (r1.2.2.2.1 != 0) then (some (r1.1,(r1.2.1,r1.2.2.2))) else ((fm.f k (dC st'.2.1 ps) r1.2.2.1).bind fun r2=>(rm (Ty.bytes am) (List.length (ps.map iy)+1)
    (bB.l0 k n b (aH (i+1)) l r1.1.1.2.1 r1.1.2.1 r1.1.1.1 r1.1.2.2.1 r1.1.2.2.2.1 r1.1.2.2.2.2.1 r1.2.1.1 r1.2.1.2.1 r1.2.1.2.2.1 r1.2.1.2.2.2.1 [] [] 0 0 0 0 [] 0 0 false (ps.map iy++[fZ b x]) r2.1))))) =
    (some ((nl l.length (d_ ((x::rest).map (fZ b)++[gn 3 b (l.map (fZ b))]) st' d' ps)).1,((nl l.length (d_ ((x::rest).map (fZ b)++[gn 3 b (l.map (fZ b))]) st' d' ps)).2.1,((nl l.length (d_ ((x::rest).map (fZ b)++[gn 3 b (l.map (fZ b))]) st' d' ps)).2.2,()))):bB.Rs):=by
    rw [xD hk g1 (by omega) (by omega),aT]
    simp only [List.map_cons,List.cons_append,d_]
    have hk1:=k1.hi
    generalize df st' d' (fZ b x)=q at k1 k2 k3 hk1 ⊢
    cases c:q.1.2.2 != 0 with
    | true =>
     simp only [aX]
     unfold nl
     simp only [c,aX]
    | false =>
     simp only [aK]
     have hal:=pb ps st'.2.1
     rw [vW hk q.2 (by omega),aT,bm (by rw [List.length_map];omega) (by decide),aE (n:=i+1) (by omega) (by omega)]
     have q3:=k3 (fa c)
     have e1:(ps++[q.2]).map iy=ps.map iy++[fZ b x]:=by rw [List.map_append,List.map_singleton,q3]
     have e2:dC q.1.1.2.1 (ps++[q.2])=fK (dC st'.2.1 ps) q.2:=by rw [k2,D6]
     have ih:=ih ((q.1.1,q.1.2.1),ps++[q.2]) ⟨⟨k1.live,k1.disk,k1.lo,by show LE.le (α:=Int) q.1.1.2.2.2.1 _;omega⟩,by simp only [];rw [e1,g2,et,List.map_append];rfl,by simp only [];rw [k2];exact g3⟩
     simp only [] at ih
     rw [e1,e2] at ih
     exact ih
   simp only [bB.l0,bB.b0]
   rw [aM h1,aX,aG h0 h1,aG h0 h1,aG h0 h1,hx]
   rw [show ((st'.1.1,(st'.1.2.1,())),(st'.2.1,(st'.2.2.1,(st'.2.2.2.1,(st'.2.2.2.2.1,())))))=st' from rfl,show (d'.1,(d'.2.1,(d'.2.2.1,(d'.2.2.2.1,()))))=d' from rfl]
   cases c:x.2.1 with
   | true =>
    rw [c,aX] at e
    simp only [aX]
    rw [← e]
    exact body
   | false =>
    rw [c,aK] at e
    simp only [aK]
    rw [← e]
    exact body
theorem ze {k:Nat} (hk:2 ^ 50≤k) {st:Ty.den aC} {d:Ty.den a_} {l:gP} (h:SR st (d,0) 100000) (hb0:LE.le (α:=Int) 0 st.2.2.1) (hb:LE.le (α:=Int) st.2.2.1 1000000) (hp:gV l=true) (hd:st.2.1.length≤20) :
 bg.f k st (wO (d,0)) l=some ((br st d l).1,(wO (br st d l).2,())):=by
 have hl:=jV hp
 unfold bg.f bg.t br
 rw [oi hk (by omega),aT]
 simp only []
 rw [aE (n:=st.2.2.1+1) (by omega) (by omega)]
 have hrl:=FV l st.2.2.1
 have hre:eZ l st.2.2.1=l.map (fZ st.2.2.1)++[gn 3 st.2.2.1 (l.map (fZ st.2.2.1))]:=rfl
 generalize eZ l st.2.2.1=rs at hrl hre ⊢
 refine eV (L:=fun n i (s:(Ty.den aC × Ty.den a_) × bG)=>bg.l0 k n l rs.length i s.1.1.1.2.1 s.1.1.2.1 s.1.1.1.1 s.1.1.2.2.1 s.1.1.2.2.2.1 s.1.1.2.2.2.2.1 s.1.2.1 s.1.2.2.1 s.1.2.2.2.1 s.1.2.2.2.2.1 0 (s.2.map cr) rs)
  (R:=fun r s=>(some ((nl l.length (d_ r s.1.1 s.1.2 s.2)).1,(wO (nl l.length (d_ r s.1.1 s.1.2 s.2)).2,())):bg.Rs))
  (Ty.dflt am) rs (fun i s=>SR s.1.1 (s.1.2,0) (100000+211*i)∧s.2.map iy=rs.take i.toNat∧s.1.1.2.1.length≤20) (fun n s hs=>?_) (fun n i s x rest h0 h1 hx hr hs ih=>?_) (n:=k) (s:=((lN st,d),[])) (by omega) ⟨⟨h.live,h.disk,h.lo,Int.le_trans h.hi (by decide)⟩,rfl,hd⟩
 · obtain ⟨⟨st',d'⟩,ps⟩:=s
   obtain ⟨g1,g2,g3⟩:=hs
   simp only [] at g1 g2 g3 ⊢
   rw [Int.toNat_natCast,List.take_length] at g2
   have hps:ps.length=rs.length:=by simpa using congrArg List.length g2
   simp only [bg.l0,bg.b0]
   rw [aQ (by omega),aK,show ((st'.1.1,(st'.1.2.1,())),(st'.2.1,(st'.2.2.1,(st'.2.2.2.1,(st'.2.2.2.2.1,())))))=st' from rfl,oR g1.live,aT]
   simp only []
   rw [show ((d'.1,(d'.2.1,(d'.2.2.1,(d'.2.2.2.1,())))),((0:Int),()))=wO (d',0) from rfl,tg hk (d',0) g1.disk,aT,sy]
   unfold nl d_
   simp only [show ((0:Int) != 0)=false from rfl,aK]
   generalize eA d' (bL st')=y
   have q:=mh y
   rw [show (wO (tl y)).2.1=(tl y).2 from rfl]
   cases c:y.2 != 0 with
   | true =>
    rw [c] at q
    have q:((tl y).2==0)=false:=by unfold bne at q;simpa using q
    rw [q]
    rfl
   | false =>
    rw [c] at q
    have q:((tl y).2==0)=true:=by unfold bne at q;simpa using q
    rw [q]
    simp only [aX,aK]
    rw [BO hk (by omega) (by omega) (by rw [List.length_map];omega),aT,sB st.2.2.1 l ps [gn 3 st.2.2.1 (l.map (fZ st.2.2.1))] st'.2.1 (g2.trans hre),sM (r:=y) (by unfold bne at c;simpa using c)]
    rfl
 · obtain ⟨⟨st',d'⟩,ps⟩:=s
   obtain ⟨g1,g2,g3⟩:=hs
   simp only [] at g1 g2 g3 ih ⊢
   have hi:i.toNat<rs.length:=by omega
   have et:rs.take (i+1).toNat=rs.take i.toNat++[x]:=by
    rw [show (i+1).toNat=i.toNat+1 by omega,List.take_succ_eq_append_getElem hi]
    congr 2
    rw [← hx]
    simp [List.getD,hi]
   have hps:ps.length≤rs.length:=by
    have:=congrArg List.length g2
    rw [List.length_map,List.length_take] at this
    omega
   obtain ⟨k1,k2,k3⟩:=mC g1 (by omega) x
   obtain ⟨e,he1,he2⟩:=Cr hk g1 (by omega) (by omega) x
   simp only [bg.l0,bg.b0,d_]
   rw [aM h1,aX,aG h0 h1,hx,show ((st'.1.1,(st'.1.2.1,())),(st'.2.1,(st'.2.2.1,(st'.2.2.2.1,(st'.2.2.2.2.1,())))))=st' from rfl,show ((d'.1,(d'.2.1,(d'.2.2.1,(d'.2.2.2.1,())))),((0:Int),()))=wO (d',0) from rfl,he1,aT]
   simp only []
   have hk1:=k1.hi
   generalize df st' d' x=q at k1 k2 k3 hk1 he2 ⊢
   rw [show (wO q.1.2).2.1=q.1.2.2 from rfl]
   cases c:q.1.2.2 != 0 with
   | true =>
    simp only [aX]
    unfold nl
    simp only [c,aX]
   | false =>
    simp only [aK]
    have z:=fa c
    have q3:=k3 z
    rw [bm (by rw [List.length_map];omega) (by decide),aE (n:=i+1) (by omega) (by omega),he2 z]
    have e1:(ps++[q.2]).map cr=ps.map cr++[cr q.2]:=by rw [List.map_append,List.map_singleton]
    have ih:=ih ((q.1.1,q.1.2.1),ps++[q.2]) ⟨⟨k1.live,k1.disk,k1.lo,by show LE.le (α:=Int) q.1.1.2.2.2.1 _;omega⟩,by simp only [];rw [List.map_append,List.map_singleton,q3,g2,et],by simp only [];rw [k2];exact g3⟩
    simp only [] at ih
    rw [e1] at ih
    rw [show (wO q.1.2).1=q.1.2.1 from rfl,z]
    exact ih
noncomputable def cB (st:Ty.den aC) (d:Ty.den a_) (l:gP):Ty.den aC × RD :=
 bif !dP st d then (st,(d,4)) else bif !gV l then (st,(d,4)) else bif (l.length:Int)==0 then (st,(d,0)) else bif decide (k_ st.2.1 l > 20) then (st,(d,5)) else
 bif decide (st.2.2.1 > 1000000) then (st,(d,5)) else br st d l
theorem yJ {d:Ty.den a_} {tail:Int}:∀ {l:List Int},l≠[]→m9 d tail l=true→∃ x,tail=((ao d (aB aI x)).1.size:Int)
 | [],h,_=>absurd rfl h
 | [x],_,h=>by
  unfold m9 BL at h
  simp only [im,List.isEmpty_nil,fb,Bool.false_or] at h
  exact ⟨x,G7 h.1.2.2⟩
 | x::y::l,_,h=>by
  unfold m9 at h
  rw [im] at h
  exact yJ (by intro q;cases q) h.2
theorem dF {st:Ty.den aC} {d:Ty.den a_} (h:dP st d=true):SR st (d,0) 100000∧st.2.1.length≤20∧LE.le (α:=Int) 1 st.2.2.1:=by
 unfold dP oz at h
 simp only [im,decide_eq_true_eq] at h
 obtain ⟨h1,h2,⟨h3,_⟩,h4,h5,_⟩:=h
 obtain ⟨_,_,g1,_,_⟩:=ck (nx:=st.1.1) (ids:=st.1.2.1) h2
 have hd:=hZ.1 h1
 obtain ⟨x,hx⟩:=yJ (by intro q;rw [q] at g1;simp at g1) h5
 have hs:=gX d (aB aI x)
 have hu:=hd.use
 have hc:=hd.cap1
 refine ⟨⟨h2,hd,?_,?_⟩,by omega,h4.1⟩
 · show LE.le (α:=Int) 0 st.2.2.2.1
   rw [hx]
   omega
 · show LE.le (α:=Int) st.2.2.2.1 100000
   rw [hx]
   have:LE.le (α:=Int) (dz d.1) 100000:=Int.le_trans hu hc
   omega
theorem rU {k:Nat} (hk:2 ^ 50≤k) {st:Ty.den aC} {d:Ty.den a_} (hd:uF d) (h1:st.1.2.1.length≤1073741824) (h2:st.2.1.length≤536870912) {l:gP} (hl:l.length≤1073741824) :
 gi.f k st d l=some ((cB st d l).1,((cB st d l).2.1,((cB st d l).2.2,()))):=by
 have ec:dy.f k st=some (st,()):=by
  unfold dy.f dy.t
  rw [bm (by omega) (by decide),bm (by omega) (by decide),List.nil_append,List.nil_append]
 unfold gi.f gi.t cB
 rw [ec,aT]
 simp only []
 rw [kR k hd,aT]
 simp only []
 rw [pN hk hd,aT]
 simp only []
 cases c1:dP st d with
 | false=>rfl
 | true =>
  simp only [fb,aK]
  rw [xX hk,aT]
  simp only []
  cases c2:gV l with
  | false=>rfl
  | true =>
   have h8:=jV c2
   obtain ⟨g1,g2,g3⟩:=dF c1
   simp only [fb,aK]
   cases c3:(l.length:Int)==0 with
   | true=>rfl
   | false =>
    simp only [aK]
    rw [zN hk (by omega) (by omega),aT]
    simp only []
    cases c4:decide (k_ st.2.1 l > 20) with
    | true=>rfl
    | false =>
     simp only [aK]
     by_cases c5:st.2.2.1 > (1000000:Int)
     · rw [aM c5];rfl
     · rw [aQ c5]
       simp only [aK]
       rw [zK hk g1 (Int.le_trans (by decide) g3) (Int.not_lt.1 c5) c2 g2,aT]
theorem xr {k:Nat} (hk:2 ^ 50≤k) {st:Ty.den aC} {d:Ty.den a_} (hd:uF d) (h1:st.1.2.1.length≤1073741824) (h2:st.2.1.length≤536870912) {l:gP} (hl:l.length≤1073741824) :
 jK.f k st d l=some ((cB st d l).1,((cB st d l).2.1,((cB st d l).2.2,()))):=by
 have ec:gp.f k st=some (st,()):=by
  unfold gp.f gp.t f_.f f_.t
  rw [bm (by omega) (by decide),aT]
  unfold fD.f fD.t
  rw [bm (by omega) (by decide),aT]
 unfold jK.f jK.t cB
 rw [ec,aT]
 simp only []
 rw [kG k hd.l,aT]
 simp only []
 rw [Ae hk hd (by omega) (by omega),aT]
 simp only []
 cases c1:dP st d with
 | false=>rfl
 | true =>
  simp only [fb,aK]
  rw [rN hk (by omega),aT]
  simp only []
  cases c2:gV l with
  | false=>rfl
  | true =>
   have h8:=jV c2
   obtain ⟨g1,g2,g3⟩:=dF c1
   simp only [fb,aK]
   cases c3:(l.length:Int)==0 with
   | true=>rfl
   | false =>
    simp only [aK]
    rw [A5 hk (by omega) (by omega),aT]
    simp only []
    cases c4:decide (k_ st.2.1 l > 20) with
    | true=>rfl
    | false =>
     simp only [aK]
     by_cases c5:st.2.2.1 > (1000000:Int)
     · rw [aM c5];rfl
     · rw [aQ c5]
       simp only [aK]
       rw [show ((d,((0:Int),())):Ty.den b8)=wO (d,0) from rfl,ze hk g1 (Int.le_trans (by decide) g3) (Int.not_lt.1 c5) c2 g2,aT]
       rfl
end Go.Proofs.YtdbekilnpjmeaaaGreatDoor.G
namespace Go.Proofs.YtdbekilnpjmeaaaGreatDoor.G
open Go.V
theorem xH {p:ByteArray} (hp:p=aI∨p=dR) {n:Int} (h0:1≤n) (h1:n≤100000):JB (aB p n)=(n,true):=by
 have e:aB p n=p++gM n:=by unfold aB;rw [aM ⟨h0,h1⟩];rfl
 have hn:Ie (p++gM n) n:=⟨h0,h1,by rcases hp with q | q <;> rw [q] <;> simp⟩
 rw [e]
 rcases m6 (Ie (p++gM n)) (fun _=>p++gM n) (0:Int) (p++gM n) with ⟨r,g1,_,g3⟩ | g
 · unfold JB
   rw [g3,Dg g1 hn]
 · exfalso
   unfold oL at g
   rw [dif_pos ⟨n,hn,rfl⟩] at g
   cases (Prod.mk.inj g).2
end Go.Proofs.YtdbekilnpjmeaaaGreatDoor.G
namespace Go.Proofs.YtdbekilnpjmeaaaGreatDoor.G
open Go.V
def yU (d:Ty.den a_) (s:ByteArray):Nat:=((fT d s).getD ⟨#[]⟩).size
def fF (d:Ty.den a_) (ids:List Int):Nat:=(ids.map fun x=>yU d (aB aI x)).sum
def hF:aR→Int
 | []=>0
 | e::l=>e.2.2.2.1+hF l
theorem jB {x y:Int} (hx:1≤x∧x≤100000) (hy:1≤y∧y≤100000) (h:x≠y):aB aI x≠aB aI y:=fun q=>by
 have e1:=xH (.inl rfl) hx.1 hx.2
 have e2:=xH (.inl rfl) hy.1 hy.2
 rw [q,e2] at e1
 injection e1 with e1 _
 exact h e1.symm
theorem wz {x:Int} (hx:1≤x∧x≤100000):aB aI x=aI++gM x:=by
 unfold aB
 rw [aM hx]
 rfl
theorem fw {x:Int} (hx:1≤x∧x≤100000):fA≠aB aI x:=fun q=>by
 rw [wz hx] at q
 have:=congrArg nb q
 rw [iT] at this
 cases this
theorem ia {x:Int} (hx:1≤x∧x≤100000):jM≠aB aI x:=fun q=>by
 rw [wz hx] at q
 have:=congrArg nb q
 rw [iT] at this
 cases this
theorem gm {n:Int} {ids:List Int} (h:cP (n,(ids,()))=true):1≤n∧n≤100000∧(∀ x ∈ ids,1≤x∧x<n)∧ids.Pairwise (· < ·):=by
 obtain ⟨g1,g2,_⟩:=ck h
 unfold cP at h
 simp only [im,decide_eq_true_eq] at h
 have h3:=h.2.2
 rw [aE (n:=n-1) (by omega) (by omega)] at h3
 have key:∀ (l:List Int) (p:Option Int),ph (nG (n-1)) p l=true→(∀ x ∈ l,1≤x∧x<n∧∀ y,p=some y→y<x)∧l.Pairwise (· < ·):=by
  intro l
  induction l with
  | nil=>exact fun p _=>⟨fun x hx=>(by cases hx),List.Pairwise.nil⟩
  | cons a l ih =>
   intro p hp
   simp only [ph,im] at hp
   obtain ⟨q1,q2⟩:=hp
   unfold nG at q1
   rw [im,decide_eq_true_eq] at q1
   obtain ⟨⟨b1,b2⟩,b3⟩:=q1
   have b1:1≤a:=b1
   have b2:a≤n-1:=b2
   obtain ⟨i1,i2⟩:=ih (some a) q2
   have ha:∀ y,p=some y→y<a:=fun y e=>by
    rw [e] at b3
    exact of_decide_eq_true b3
   refine ⟨fun x hx=>?_,?_⟩
   · rcases List.mem_cons.1 hx with e | e
     · rw [e]
       exact ⟨b1,by omega,ha⟩
     · obtain ⟨c1,c2,c3⟩:=i1 x e
       have:=c3 a rfl
       exact ⟨c1,c2,fun y ey=>Int.lt_trans (ha y ey) this⟩
   · exact List.Pairwise.cons (fun x hx=>(i1 x hx).2.2 a rfl) i2
 obtain ⟨k1,k2⟩:=key ids none h3
 exact ⟨g1,g2,fun x hx=>⟨(k1 x hx).1,(k1 x hx).2.1⟩,k2⟩
theorem iI {d d':Ty.den a_}:∀ {ids:List Int},(∀ x ∈ ids,fT d' (aB aI x)=fT d (aB aI x))→fF d' ids=fF d ids
 | [],_=>rfl
 | x::l,h=>by
  unfold fF at *
  rw [List.map_cons,List.map_cons,List.sum_cons,List.sum_cons]
  have e1:yU d' (aB aI x)=yU d (aB aI x):=by unfold yU;rw [h x oX]
  have e2:=iI (ids:=l) fun y hy=>h y (qS _ hy)
  unfold fF at e2
  rw [e1,e2]
theorem sZ (d:Ty.den a_) (l m:List Int):fF d (l++m)=fF d l+fF d m:=by
 unfold fF
 rw [List.map_append,List.sum_append]
theorem Io {st:Ty.den aC} {d:Ty.den a_} (hl:cP st.1=true) (hd:DR d):fF d st.1.2.1≤fF (gj st d).2.1 (gj st d).1.1.2.1:=by
 obtain ⟨n1,n2,n3,_⟩:=gm (n:=st.1.1) (ids:=st.1.2.1) hl
 have hseg:∀ x:Int,x ∈ st.1.2.1→1≤x∧x≤100000:=fun x hx=>⟨(n3 x hx).1,by have:=(n3 x hx).2;omega⟩
 have hnew:∀ x ∈ st.1.2.1,aB aI st.1.1≠aB aI x:=fun x hx=>jB ⟨n1,n2⟩ (hseg x hx) (by have:=(n3 x hx).2;omega)
 have k1:∀ x ∈ st.1.2.1,fT (eA d (bL st)).1 (aB aI x)=fT d (aB aI x):=fun x hx=>kA
 have k2:∀ x ∈ st.1.2.1,fT (b7 (aB aI st.1.1) (eA d (bL st)).1).1 (aB aI x)=fT d (aB aI x):=fun x hx=>(ja (hnew x hx)).trans (k1 x hx)
 have k3:∀ x ∈ st.1.2.1,fT (az (ie st) (b7 (aB aI st.1.1) (eA d (bL st)).1).1).1 (aB aI x)=fT d (aB aI x):=fun x hx=>(gZ (fw (hseg x hx)) (ia (hseg x hx))).trans (k2 x hx)
 unfold gj
 cases decide ((st.1.2.1.length:Int)≥60) with
 | true=>exact Nat.le_refl _
 | false =>
  cases decide (st.1.1≥(100000:Int)) with
  | true=>exact Nat.le_refl _
  | false =>
   simp only [aK]
   generalize eA d (bL st)=r1 at k1 k2 k3 ⊢
   generalize b7 (aB aI st.1.1) r1.1=r2 at k2 k3 ⊢
   generalize az (ie st) r2.1=r3 at k3 ⊢
   cases r1.2 != 0 with
   | true=>exact Nat.le_of_eq (iI k1).symm
   | false =>
    cases r2.2 != 0 with
    | true=>exact Nat.le_of_eq (iI k2).symm
    | false =>
     cases r3.2 != 0 with
     | true =>
      simp only [aX,aK]
      unfold oN
      cases (tl r3).2==2 with
      | false=>exact Nat.le_of_eq (iI k3).symm
      | true =>
       refine Nat.le_of_eq (iI fun x hx=>?_).symm
       refine (mL [fA,aB aI st.1.1] r3.1 fun s hs=>?_).trans (k3 x hx)
       rcases List.mem_cons.1 hs with e | e
       · rw [e];exact fw (hseg x hx)
       · rw [List.mem_singleton.1 e];exact hnew x hx
     | false =>
      show fF d st.1.2.1≤fF r3.1 (st.1.2.1++[st.1.1])
      rw [sZ,iI k3]
      exact Nat.le_add_right _ _
theorem HG {d:Ty.den a_} {s x:ByteArray} (h:(fq d s x).2=0):(fT d s).isSome=true:=by
 obtain ⟨c1,_⟩:=qr h
 unfold wn at c1
 unfold fT
 cases c:bi d.1 s with
 | none=>rw [c] at c1;cases c1
 | some f=>rfl
theorem pK {ids:List Int} (h:1≤ids.length):ids=ids.dropLast++[c8 ids]:=by
 have hne:ids≠[]:=by intro q;rw [q] at h;simp at h
 have e:c8 ids=ids.getLast hne:=by
  unfold c8
  rw [List.getLast_eq_getElem]
  simp [List.getD,show ids.length-1<ids.length by omega]
 rw [e]
 exact (List.dropLast_concat_getLast hne).symm
theorem Dq {st:Ty.den aC} {d:Ty.den a_} (hl:cP st.1=true) (hd:DR d) (r:Ty.den am) :
 (gd st d r).1.1.1=st.1∧(fF d st.1.2.1:Int)+(if (gd st d r).1.2.2=0 then aY r else 0)≤(fF (gd st d r).1.2.1 st.1.2.1:Int)∧((gd st d r).1.2.2=0→(gd st d r).2.2.2.1=aY r):=by
 obtain ⟨n1,n2,n3,n4⟩:=gm (n:=st.1.1) (ids:=st.1.2.1) hl
 obtain ⟨_,_,g1,_,_⟩:=ck (nx:=st.1.1) (ids:=st.1.2.1) hl
 have hs:=pK g1
 have hp:∀ x:Int,x ∈ st.1.2.1.dropLast→x<c8 st.1.2.1:=fun x hx=>by
  rw [hs] at n4
  exact (List.pairwise_append.1 n4).2.2 x hx _ (List.mem_singleton.2 rfl)
 have hlast:c8 st.1.2.1 ∈ st.1.2.1:=by rw [hs];exact List.mem_append_right _ (List.mem_singleton.2 (by rw [← hs]))
 have hb:∀ x:Int,x ∈ st.1.2.1→1≤x∧x≤100000:=fun x hx=>⟨(n3 x hx).1,by have:=(n3 x hx).2;omega⟩
 have ko:∀ x ∈ st.1.2.1.dropLast,fT (fq d (bL st) (aN (aF r))).1 (aB aI x)=fT d (aB aI x):=fun x hx =>
  pR (jB (hb _ hlast) (hb x (List.dropLast_subset _ hx)) (by have:=hp x hx;omega))
 have kl:=qp (d:=d) (s:=bL st) (x:=aN (aF r))
 have ks:=HG (d:=d) (s:=bL st) (x:=aN (aF r))
 unfold gd
 generalize fq d (bL st) (aN (aF r))=a at ko kl ks ⊢
 have e1:∀ dd:Ty.den a_,fF dd st.1.2.1=fF dd st.1.2.1.dropLast+yU dd (bL st):=fun dd=>by
  conv=>lhs;rw [hs]
  rw [sZ]
  unfold fF bL
  simp
 cases c:a.2==0 with
 | true =>
  have z:a.2=0:=G7 c
  have cn:(a.2 != 0)=false:=by unfold bne;rw [c];rfl
  rw [c,aX] at kl
  obtain ⟨x,hx⟩:=Option.isSome_iff_exists.1 (ks z)
  rw [cn]
  refine ⟨rfl,?_,fun _=>rfl⟩
  show _+(if (0:Int)=0 then aY r else 0)≤(fF a.1 st.1.2.1:Int)
  rw [if_pos rfl,e1 d,e1 a.1,iI ko]
  have e2:yU a.1 (bL st)=yU d (bL st)+(aN (aF r)).size:=by
   unfold yU
   rw [kl,hx]
   simp [ByteArray.size_append]
  rw [e2]
  unfold aY
  omega
 | false =>
  have cn:(a.2 != 0)=true:=by unfold bne;rw [c];rfl
  rw [c,aK] at kl
  rw [cn]
  have hz:¬ (tl a).2=0:=fun e=>by
   have q:=mh a
   rw [e,cn] at q
   cases q
  refine ⟨rfl,?_,fun e=>absurd e hz⟩
  show _+(if (tl a).2=0 then aY r else 0)≤(fF a.1 st.1.2.1:Int)
  rw [if_neg hz,e1 d,e1 a.1,iI ko]
  have e2:yU a.1 (bL st)=yU d (bL st):=by unfold yU;rw [kl]
  rw [e2]
  omega
theorem Hx {st:Ty.den aC} {d:Ty.den a_} (hl:cP st.1=true) (hd:DR d) (r:Ty.den am) :
 (fF d st.1.2.1:Int)+(if (df st d r).1.2.2=0 then aY r else 0)≤(fF (df st d r).1.2.1 (df st d r).1.1.1.2.1:Int)∧((df st d r).1.2.2=0→(df st d r).2.2.2.1=aY r):=by
 unfold df
 cases decide (st.2.2.2.1 > 0)&&decide (st.2.2.2.1+aY r > 200) with
 | false =>
  obtain ⟨s1,s2,s3⟩:=Dq hl hd r
  simp only [aK]
  rw [s1]
  exact ⟨s2,s3⟩
 | true =>
  obtain ⟨g1,g2,g3,g4⟩:=mw hl hd
  have gs:=Io hl hd
  simp only [aX]
  generalize gj st d=q at g1 g2 g3 g4 gs ⊢
  cases c:q.2.2 != 0 with
  | true =>
   have hz:¬ q.2.2=0:=fun e=>by rw [e] at c;cases c
   simp only [aX]
   rw [if_neg hz]
   exact ⟨by omega,fun e=>absurd e hz⟩
  | false =>
   obtain ⟨s1,s2,s3⟩:=Dq g1 g2 r
   simp only [aK]
   rw [s1]
   exact ⟨by omega,s3⟩
end Go.Proofs.YtdbekilnpjmeaaaGreatDoor.G
namespace Go.Proofs.YtdbekilnpjmeaaaGreatDoor.G
open Go.V
abbrev Iv:=List (Ty.den dD)
def kD (id:Int) (l:Iv):bG:=l.map fun x=>(id,x)
theorem Br (id:Int) (l:Iv):(kD id l).length=l.length:=by unfold kD;rw [List.length_map]
theorem rV {k:Nat} (hk:2 ^ 50≤k) (id:Int) {s:ByteArray} (hs:s.size≤1099511627775):bU.f k id s=some (kD id (dq s).1,()):=by
 unfold bU.f bU.t
 rw [mV hk hs,aT]
 have hl:=(mz s).1
 simp only []
 generalize (dq s).1=l at *
 refine (eV (L:=fun n i s=>bU.l0 k n id i s l) (R:=fun r s=>some (s++kD id r,())) (Ty.dflt dD) l (fun i s=>(s.length:Int)=i) (fun n s hs=>?_) (fun n i s x rest h0 h1 hx hr hp ih=>?_) (n:=k) (s:=[]) (by omega) (by decide)).trans (by rw [List.nil_append])
 · simp (disch:=omega) only [bU.l0,bU.b0,aQ,aK,kD,List.map_nil,List.append_nil]
 · have ih:=ih (s++[(id,x)]) (by rw [cS];omega)
   simp (disch:=first | omega | decide) only [bU.l0,bU.b0,aM,aX,aG,hx,bm,aE]
   refine ih.trans ?_
   simp only [kD,List.map_cons,rW,List.cons_append,List.nil_append]
end Go.Proofs.YtdbekilnpjmeaaaGreatDoor.G
namespace Go.Proofs.YtdbekilnpjmeaaaGreatDoor.G
open Go.V
def oY:Ty.den gl:=(0,(0,([],())))
def EE (s0:Int) (e:Ty.den aA):Bool:=(e.2.1==s0)&&!decide ((e.2.2.1:Int) > 100000)
def zm (l:aR):Bool:=l.all (EE (l.getD 0 (Ty.dflt aA)).2.1)
def ln (h:Ty.den gl):Bool:=decide ((0:Int)≤h.1∧h.1≤100000)&&(decide ((0:Int)≤h.2.1∧h.2.1≤1000000)&&(oz h.2.2.1&&zm h.2.2.1))
def jC (e:Ty.den aA):ByteArray:=j5 e.1++(gu e.2.1++(gu e.2.2.1++(gu e.2.2.2.1++gu e.2.2.2.2.1)))
def ke:aR→ByteArray
 | []=>⟨#[]⟩
 | e::l=>jC e++ke l
def rP (h:Ty.den gl):ByteArray:=gu h.1++(gu h.2.1++(gu (h.2.2.1.length:Int)++ke h.2.2.1))
def d6 (h:Ty.den gl):ByteArray:=if ln h=true then tV (pn (rP h))++rP h else ⟨#[]⟩
theorem xl {k:Nat} (hk:2 ^ 50≤k) (h:Ty.den gl):gS.f k h=some (ln h,()):=by
 unfold gS.f gS.t ln
 rw [g_,aT]
 cases decide ((0:Int)≤h.1∧h.1≤100000) with
 | false=>rfl
 | true =>
  simp only [fb,aK,Bool.true_and]
  rw [g_,aT]
  cases decide ((0:Int)≤h.2.1∧h.2.1≤1000000) with
  | false=>rfl
  | true =>
   simp only [fb,aK,Bool.true_and]
   rw [vt hk,aT]
   cases cd:oz h.2.2.1 with
   | false=>rfl
   | true =>
    simp only [fb,aK,Bool.true_and]
    have hl:h.2.2.1.length≤20:=by
     unfold oz at cd
     rw [im,decide_eq_true_eq] at cd
     have:=cd.1
     omega
    unfold zm
    refine eV (L:=fun n i (_:Unit)=>gS.l0 k n i h.1 h.2.1 h.2.2.1) (R:=fun r _=>some (r.all (EE (h.2.2.1.getD 0 (Ty.dflt aA)).2.1),())) (Ty.dflt aA) h.2.2.1 (fun _ _=>True) (fun n _ _=>?_) (fun n i _ x rest h0 h1 hx hr hp ih=>?_) (n:=k) (s:=()) (by omega) trivial
    · simp only [gS.l0,gS.b0]
      rw [aQ (by omega),aK]
      rfl
    · have ih:=ih () trivial
      simp only [gS.l0,gS.b0]
      rw [aM h1,aX,aG h0 h1,aG (by omega) (by omega),hx,aG h0 h1,aE (n:=i+1) (by omega) (by omega),ih,List.all_cons]
      unfold EE bne
      cases x.2.1==(h.2.2.1.getD 0 (Ty.dflt aA)).2.1 <;> cases decide ((x.2.2.1:Int) > 100000) <;> rfl
theorem lC {l:aR} (h:oz l=true):l.length≤20∧∀ e ∈ l,(1≤e.1.size∧e.1.size≤8)∧(LE.le (α:=Int) 1 e.2.1∧LE.le (α:=Int) e.2.1 100000)∧LE.le (α:=Int) 0 e.2.2.1∧(LE.le (α:=Int) 1 e.2.2.2.1∧LE.le (α:=Int) e.2.2.2.1 210)∧(LE.le (α:=Int) 1 e.2.2.2.2.1∧LE.le (α:=Int) e.2.2.2.2.1 1000000):=by
 unfold oz at h
 rw [im,decide_eq_true_eq] at h
 refine ⟨by have:=h.1;omega,fun e he=>?_⟩
 obtain ⟨q,hq⟩:=vO h.2 he
 unfold nt m3 at hq
 rw [im,im,im,im,im,decide_eq_true_eq,decide_eq_true_eq,decide_eq_true_eq,decide_eq_true_eq] at hq
 obtain ⟨g1,g2,g3,g4,g5,_⟩:=hq
 have g3':¬ LT.lt (α:=Int) e.2.2.1 0:=by
  intro q
  have:(!decide (e.2.2.1<(0:Int)))=false:=by rw [aM q];rfl
  rw [this] at g3
  cases g3
 exact ⟨by omega,g2,Int.not_lt.1 g3',g4,g5⟩
theorem p7 {h:Ty.den gl} (q:ln h=true):oz h.2.2.1=true:=by
 unfold ln at q
 rw [im,im,im] at q
 exact q.2.2.1
theorem ya {e:Ty.den aA}:(jC e).size≤35+e.1.size:=by
 have a:=bA (e.1.size:Int)
 have b:=bA e.2.1
 have c:=bA e.2.2.1
 have d:=bA e.2.2.2.1
 have f:=bA e.2.2.2.2.1
 unfold jC j5
 simp only [aO]
 omega
theorem ve:∀ {l:aR},(∀ e ∈ l,e.1.size≤8)→(ke l).size≤43*l.length
 | [],_=>Nat.zero_le _
 | e::l,h=>by
  have h1:=h e (oX ..)
  have h2:=ve (l:=l) fun x hx=>h x (qS _ hx)
  have h3:=ya (e:=e)
  unfold ke
  rw [aO,lP]
  omega
theorem Cy {h:Ty.den gl} (q:ln h=true):(rP h).size≤900:=by
 obtain ⟨h1,h2⟩:=lC (p7 q)
 have:=ve (l:=h.2.2.1) fun e he=>(h2 e he).1.2
 have a:=bA h.1
 have b:=bA h.2.1
 have c:=bA (h.2.2.1.length:Int)
 unfold rP
 simp only [aO]
 omega
theorem oI (h:Ty.den gl):(d6 h).size≤904:=by
 unfold d6
 by_cases q:ln h=true
 · have:=Cy q
   rw [if_pos q,aO,show (tV (pn (rP h))).size=4 from rfl]
   omega
 · rw [if_neg q];decide
theorem ku {k:Nat} (hk:2 ^ 50≤k) (h:Ty.den gl):dL.f k h=some (d6 h,()):=by
 unfold dL.f dL.t d6
 rw [xl hk,aT]
 cases q:ln h with
 | false=>rfl
 | true =>
  obtain ⟨h1,h2⟩:=lC (p7 q)
  have a:=bA h.1
  have b:=bA h.2.1
  have c:=bA (h.2.2.1.length:Int)
  rw [fb,aK,ga hk,aT,ga hk,aT,if_pos rfl]
  simp only []
  rw [da (by omega),ga hk,aT]
  simp only []
  rw [da (by rw [aO];omega)]
  refine (eV (L:=fun n i s=>dL.l0 k n s i h.1 h.2.1 h.2.2.1) (R:=fun r s=>some (tV (pn (s++ke r))++(s++ke r),())) (Ty.dflt aA) h.2.2.1 (fun i s=>(s.size:Int)≤21+43*i) (fun n s hs=>?_) (fun n i s x rest g0 g1 hx hr hs ih=>?_) (n:=k) (s:=gu h.1++gu h.2.1++gu (h.2.2.1.length:Int)) (by omega) (by rw [aO,aO];omega)).trans (by unfold rP;rw [ag,ag])
  · have hc:=sS s
    simp only [dL.l0,dL.b0]
    rw [aQ (by omega),aK,rx hk (by omega),aT]
    simp only []
    rw [pZ hk hc.1 hc.2,aT]
    simp only []
    rw [da (by rw [show (tV (pn s)).size=4 from rfl];omega),show ke []=⟨#[]⟩ from rfl,j0]
  · have hm:x ∈ h.2.2.1:=by rw [← hx];exact iP (by omega)
    have hz:=(h2 x hm).1.2
    have v1:=bA (x.1.size:Int)
    have v2:=bA x.2.1
    have v3:=bA x.2.2.1
    have v4:=bA x.2.2.2.1
    have v5:=bA x.2.2.2.2.1
    have ih:=ih (s++jC x) (by have:=ya (e:=x);rw [aO];omega)
    simp only [dL.l0,dL.b0]
    rw [aM g1,aX,aG g0 g1,hx]
    simp only [ga hk,aT]
    rw [da (by omega),da (by rw [aO];omega),da (by rw [aO,aO];omega),da (by rw [aO,aO,aO];omega),da (by rw [aO,aO,aO,aO];omega),da (by rw [aO,aO,aO,aO,aO];omega),aE (n:=i+1) (by omega) (by omega)]
    have e:s++gu (x.1.size:Int)++x.1++gu x.2.1++gu x.2.2.1++gu x.2.2.2.1++gu x.2.2.2.2.1=s++jC x:=by
     unfold jC j5
     simp only [ag]
    rw [e,ih]
    rw [show ke (x::rest)=jC x++ke rest from rfl,ag]
def qt (x y:Ty.den aA):Bool:=(seq x.1 y.1)&&((x.2.1==y.2.1)&&((x.2.2.1==y.2.2.1)&&((x.2.2.2.1==y.2.2.2.1)&&(x.2.2.2.2.1==y.2.2.2.2.1))))
def tQ:aR→aR→Bool
 | [],[]=>true
 | x::l,y::m=>qt x y&&tQ l m
 | _,_=>false
theorem Ak {x y:Ty.den aA}:qt x y=true↔x=y:=by
 unfold qt
 simp only [im,beq_iff_eq,eT]
 constructor
 · rintro ⟨h1,h2,h3,h4,h5⟩
   obtain ⟨a,b,c,d,e,_⟩:=x
   obtain ⟨a',b',c',d',e',_⟩:=y
   simp only at h1 h2 h3 h4 h5
   subst h1 h2 h3 h4 h5
   rfl
 · rintro rfl;exact ⟨rfl,rfl,rfl,rfl,rfl⟩
theorem r_:∀ {l m:aR},tQ l m=true↔l=m
 | [],[]=>⟨fun _=>rfl,fun _=>rfl⟩
 | [],y::m=>⟨fun h=>(by cases h),fun h=>(by cases h)⟩
 | x::l,[]=>⟨fun h=>(by cases h),fun h=>(by cases h)⟩
 | x::l,y::m=>by
  unfold tQ
  rw [im,Ak,r_,List.cons.injEq]
theorem FA:∀ {l m:aR},l.length≠m.length→tQ l m=false:=fun {l m} h=>by
 cases c:tQ l m with
 | false=>rfl
 | true=>rw [r_.1 c] at h;exact absurd rfl h
theorem tj {α:Type} {l:List α} {i:Nat} (z:α) (h:i<l.length):l.drop i=l.getD i z::l.drop (i+1):=by
 rw [List.drop_eq_getElem_cons h]
 simp [List.getD,h]
theorem nY {k:Nat} (hk:2 ^ 50≤k) {l m:aR} (hl:l.length≤1073741824):cT.f k l m=some (tQ l m,()):=by
 unfold cT.f cT.t
 by_cases hne:l.length=m.length
 · rw [show ((l.length:Int) != (m.length:Int))=false by rw [hne];simp,aK]
   refine (HB (L:=fun n i (_:Unit)=>cT.l0 k n l m i) (R:=fun i _=>some (tQ (l.drop i.toNat) (m.drop i.toNat),())) l.length (fun _ _=>True) (fun n _ _=>?_) (fun n i _ h0 h1 _ ih=>?_) k 0 () (by omega) (by omega) (by omega) trivial).trans (by simp)
   · simp only [cT.l0,cT.b0]
     rw [aQ (by omega),aK,ni,List.drop_length,hne,List.drop_length]
     rfl
   · have ih:=ih () trivial
     have c1:i.toNat<l.length:=by omega
     simp only [cT.l0,cT.b0]
     rw [aM h1,aX,aG h0 h1,aG h0 (by omega),aE (n:=i+1) (by omega) (by omega),ih,tj (Ty.dflt aA) c1,tj (Ty.dflt aA) (l:=m) (i:=i.toNat) (by omega),show (i+1).toNat=i.toNat+1 by omega]
     show _=some (qt _ _&&tQ _ _,())
     show (bif !(qt (l.getD i.toNat (Ty.dflt aA)) (m.getD i.toNat (Ty.dflt aA))) then _ else _)=_
     cases qt (l.getD i.toNat (Ty.dflt aA)) (m.getD i.toNat (Ty.dflt aA)) <;> rfl
 · rw [show ((l.length:Int) != (m.length:Int))=true from bne_iff_ne.2 (by omega),aX,FA hne]
def tc (mark:Int) (p:Option (Ty.den dD)) (x:Ty.den dD):Bool :=
 (x.2.2.1.1==4)&&(!decide ((x.2.2.1.2.1:Int) > mark)&&(match p with | none=>true | some y=>lZ y.2.2.1.2.2.1 x.2.2.1.2.2.1))
def IB (id:Int) (x:Ty.den dD):Ty.den aA:=(x.2.2.1.2.2.1,(id,(x.1,(x.2.1,(x.2.2.1.2.1,())))))
noncomputable def ib (id:Int) (s:ByteArray):Ty.den gl × Bool :=
 bif (dq s).2 != (s.size:Int) then (oY,false) else bif (dq s).1.length==0 then (oY,false) else
 bif ((dq s).1.getD ((dq s).1.length-1) (Ty.dflt dD)).2.2.1.1 != 5 then (oY,false) else
 bif !decide ((1:Int)≤id∧id≤100000) then (oY,false) else
 bif !ph (tc ((dq s).1.getD ((dq s).1.length-1) (Ty.dflt dD)).2.2.1.2.1) none ((dq s).1.take ((dq s).1.length-1)) then (oY,false) else
 bif !oe ((dq s).1.getD ((dq s).1.length-1) (Ty.dflt dD)).2.2.1 (kD id ((dq s).1.take ((dq s).1.length-1))) then (oY,false) else
 (((s.size:Int),(((dq s).1.getD ((dq s).1.length-1) (Ty.dflt dD)).2.2.1.2.1,(((dq s).1.take ((dq s).1.length-1)).map (IB id),()))),true)
theorem ut (id:Int):seq (aB aI id) ⟨#[]⟩=!decide ((1:Int)≤id∧id≤100000):=by
 by_cases h:(1:Int)≤id∧id≤100000
 · rw [aM h]
   have e:aB aI id=aI++gM id:=by unfold aB;rw [aM h];rfl
   rw [e,kh fun q=>?_]
   · rfl
   · have:=congrArg ByteArray.size q
     rw [aO] at this
     have s3:aI.size=3:=rfl
     have s0:(⟨#[]⟩:ByteArray).size=0:=rfl
     omega
 · rw [aQ h]
   have e:aB aI id=⟨#[]⟩:=by unfold aB;rw [aQ h];rfl
   rw [e,c9]
   rfl
theorem rQ {k:Nat} (hk:2 ^ 50≤k) (id:Int) {s:ByteArray} (hs:s.size≤1073741823):dj.f k id s=some ((ib id s).1,((ib id s).2,())):=by
 have hln:=mz s
 unfold dj.f dj.t ib
 rw [mV hk (by omega),aT]
 simp only []
 generalize dq s=sc at hln ⊢
 obtain ⟨l,en⟩:=sc
 simp only at hln ⊢
 cases en != (s.size:Int) with
 | true=>rfl
 | false =>
  simp only [aK]
  by_cases h0:l.length=0
  · rw [show ((l.length:Int)==0)=true by rw [h0];rfl,show (l.length==0)=true by rw [h0];rfl]
    rfl
  · rw [show ((l.length:Int)==0)=false from mm (by omega),show (l.length==0)=false from mm h0]
    simp only [aK]
    have w1:aH ((l.length:Int)-1)=((l.length-1:Nat):Int):=by rw [aE (by omega) (by omega)];omega
    rw [w1,ni,aG (by omega) (by omega),aG (by omega) (by omega)]
    generalize hm:l.getD (l.length-1) (Ty.dflt dD)=m
    cases m.2.2.1.1 != 5 with
    | true=>rfl
    | false =>
     simp only [aK]
     rw [bK hk,aT]
     simp only [ut]
     cases decide ((1:Int)≤id∧id≤100000) with
     | false=>rfl
     | true =>
      simp only [fb,aK]
      have hpl:(l.take (l.length-1)).length=l.length-1:=by rw [List.length_take];omega
      refine (pT (L:=fun n i=>dj.l0 k n id i [] 0 0 l ((l.take i.toNat).map (IB id)) (s.size:Int) m.2.2.1.2.1 ((l.take i.toNat).map fun x=>x.2.2.1)) (Ty.dflt dD) (l.take (l.length-1)) (tc m.2.2.1.2.1)
       (bif !oe m.2.2.1 (kD id (l.take (l.length-1))) then some (oY,(false,())) else some (((s.size:Int),(m.2.2.1.2.1,((l.take (l.length-1)).map (IB id),()))),(true,()))) (some (oY,(false,()))) (fun n=>?_) (fun n x h hx=>?_) (fun n i x y h0 h1 hx hy=>?_) (n:=k) (by omega)).trans (by
        cases ph (tc m.2.2.1.2.1) none (l.take (l.length-1)) <;> cases oe m.2.2.1 (kD id (l.take (l.length-1))) <;> rfl)
      · simp only [dj.l0,dj.b0]
        rw [hpl,ni,aE (n:=((l.length-1:Nat):Int)+1) (by omega) (by omega),aQ (by omega),aK,w1,ni,aG (by omega) (by omega),hm,pS hk (by rw [List.length_map,hpl];omega),aT,List.length_map,hpl]
        unfold oe kD bne
        rw [List.length_map,hpl,List.map_map]
        show (bif !(m.2.2.1.2.2.2.2.1==((l.length-1:Nat):Int)) then _ else bif !(m.2.2.1.2.2.2.2.2.1==xA ((l.take (l.length-1)).map fun x=>x.2.2.1)) then _ else _)=bif !((m.2.2.1.2.2.2.2.1==((l.length-1:Nat):Int))&&(m.2.2.1.2.2.2.2.2.1==xA ((l.take (l.length-1)).map fun x=>x.2.2.1))) then _ else _
        cases m.2.2.1.2.2.2.2.1==((l.length-1:Nat):Int) <;> cases m.2.2.1.2.2.2.2.2.1==xA ((l.take (l.length-1)).map fun x=>x.2.2.1) <;> rfl
      · rw [hpl] at h
        have hx':l.getD 0 (Ty.dflt dD)=x:=by rw [← hx,show Int.toNat 0=0 from rfl,my (by omega)]
        simp only [dj.l0,dj.b0]
        rw [aE (n:=(0:Int)+1) (by omega) (by omega),aM (by omega),aX,aG (by omega) (by omega),show Int.toNat 0=0 from rfl,hx',aQ (show ¬ (0:Int) > 0 by omega),aK,bm (by simp) (by decide),aG (by omega) (by omega),aG (by omega) (by omega),bm (by simp) (by decide),show Int.toNat 1=0+1 from rfl,lW (z:=Ty.dflt dD) (show 0<l.length by omega),hx']
        simp only [tc,bne]
        cases x.2.2.1.1==4 <;> cases decide ((x.2.2.1.2.1:Int) > m.2.2.1.2.1) <;> rfl
      · rw [hpl] at h1
        have hx':l.getD i.toNat (Ty.dflt dD)=x:=by rw [← hx,my (by omega)]
        have hy':l.getD (i-1).toNat (Ty.dflt dD)=y:=by rw [← hy,my (by omega)]
        simp only [dj.l0,dj.b0]
        rw [aE (n:=i+1) (by omega) (by omega),aM (by omega),aX,aG (by omega) (by omega),hx',aM (show i > 0 by omega),aE (n:=i-1) (by omega) (by omega),aG (by omega) (by omega),hy',lA,bm (by rw [List.length_map,List.length_take];omega) (by decide),aG (by omega) (by omega),aG (by omega) (by omega),bm (by rw [List.length_map,List.length_take];omega) (by decide),show (i+1).toNat=i.toNat+1 by omega,lW (z:=Ty.dflt dD) (show i.toNat<l.length by omega),hx',List.map_append,List.map_append]
        simp only [tc,bne]
        cases x.2.2.1.1==4 <;> cases decide ((x.2.2.1.2.1:Int) > m.2.2.1.2.1) <;> cases lZ y.2.2.1.2.2.1 x.2.2.1.2.2.1 <;> rfl
noncomputable def ou (id:Int) (s:ByteArray) (h:Ty.den gl):Bool:=(ib id s).2&&(((ib id s).1.1==h.1)&&(((ib id s).1.2.1==h.2.1)&&tQ (ib id s).1.2.2.1 h.2.2.1))
theorem Ck (id:Int) {s:ByteArray} (hs:s.size≤1073741823):(ib id s).1.2.2.1.length≤1073741824:=by
 have hln:=mz s
 unfold ib
 generalize dq s=sc at hln ⊢
 obtain ⟨l,en⟩:=sc
 simp only at hln ⊢
 cases en != (s.size:Int)
 · cases l.length==0
   · cases (l.getD (l.length-1) (Ty.dflt dD)).2.2.1.1 != 5
     · cases !decide ((1:Int)≤id∧id≤100000)
       · cases !ph (tc (l.getD (l.length-1) (Ty.dflt dD)).2.2.1.2.1) none (l.take (l.length-1))
         · cases !oe (l.getD (l.length-1) (Ty.dflt dD)).2.2.1 (kD id (l.take (l.length-1)))
           · show ((l.take (l.length-1)).map (IB id)).length≤1073741824
             rw [List.length_map,List.length_take]
             omega
           · exact Nat.zero_le _
         · exact Nat.zero_le _
       · exact Nat.zero_le _
     · exact Nat.zero_le _
   · exact Nat.zero_le _
 · exact Nat.zero_le _
theorem uu {k:Nat} (hk:2 ^ 50≤k) (id:Int) {s:ByteArray} (hs:s.size≤1073741823) (h:Ty.den gl):gc.f k id s h=some (ou id s h,()):=by
 have hl:=Ck id hs
 unfold gc.f gc.t ou
 rw [rQ hk id hs,aT]
 simp only []
 rw [nY hk hl,aT]
 cases (ib id s).2 <;> cases (ib id s).1.1==h.1 <;> cases (ib id s).1.2.1==h.2.1 <;> rfl
end Go.Proofs.YtdbekilnpjmeaaaGreatDoor.G
namespace Go.V
def lH {α:Type} (o:Option α) (P:α→Prop):Prop:=∃ r,o=some r∧P r
section
variable {α β:Type} {P P':α→Prop} {Q:β→Prop}
theorem bC {r:α} (h:P r):lH (some r) P:=⟨r,rfl,h⟩
theorem D3 {o:Option α} {r:α} (e:o=some r) (h:P r):lH o P:=⟨r,e,h⟩
theorem JS {o:Option α} {r:α} (h:lH o (fun x=>x=r)):o=some r:=by
 obtain ⟨x,e,rfl⟩:=h
 exact e
theorem Bk {o:Option α} (h:lH o P) (hp:∀ r,P r→P' r):lH o P':=by
 obtain ⟨r,e,hr⟩:=h
 exact ⟨r,e,hp r hr⟩
theorem ae {o:Option α} {g:α→Option β} (h:lH o P) (hg:∀ r,P r→lH (g r) Q):lH (Option.bind o g) Q:=by
 obtain ⟨r,e,hr⟩:=h
 rw [e]
 exact hg r hr
theorem d5 {o:Option α} {r:α} {g:α→Option β} (e:o=some r) (hg:lH (g r) Q):lH (Option.bind o g) Q:=by
 rw [e]
 exact hg
theorem cM {b:Bool} {x y:Option α} (h1:b=true→lH x P) (h2:b=false→lH y P):lH (bif b then x else y) P:=by
 cases b
 · exact h2 rfl
 · exact h1 rfl
theorem kj {b:Bool} {x y:Option α} (hb:b=true) (h:lH x P):lH (bif b then x else y) P:=by rw [hb];exact h
theorem jT {b:Bool} {x y:Option α} (hb:b=false) (h:lH y P):lH (bif b then x else y) P:=by rw [hb];exact h
theorem ny {i n:Int} {x:Option α} (h0:0≤i) (h1:i<n) (h:lH x P):lH (bX i n x) P:=by rw [aG h0 h1];exact h
theorem IG {i n:Int} {x:Option α} (h0:0≤i) (h1:i≤n) (h:lH x P):lH (pr i n x) P:=by rw [cD h0 h1];exact h
theorem s5 {b n:Nat} {x:Option α} (h0:n≤1099511627776) (hb:b≤128) (h:lH x P):lH (rm b n x) P:=by rw [bm h0 hb];exact h
theorem EP {a b:ByteArray} {x:Option α} (h0:a.size+b.size≤4611686018427387904) (h:lH x P):lH (kX a b x) P:=by rw [da h0];exact h
end
end Go.V
namespace Go.Proofs.YtdbekilnpjmeaaaGreatDoor.G
open Go.V
noncomputable def iM (s:ByteArray):Ty.den gl × Bool:=oL (fun h=>ln h=true) d6 oY s
def RH (s:ByteArray) (o:Option (Ty.den gl × Bool × Unit)):Prop:=(∃ h,ln h=true∧d6 h=s∧o=some (h,(true,())))∨o=some (oY,(false,()))
theorem BX (s:ByteArray):RH s (some (oY,(false,()))) := .inr rfl
theorem HI {s:ByteArray} (hs:4≤s.size) (h:Ty.den gl):RH s (bif !seq (d6 h) s then some (oY,(false,())) else some (h,(true,()))):=by
 cases c:seq (d6 h) s with
 | false=>exact .inr rfl
 | true =>
  have e:=eT.1 c
  refine .inl ⟨h,?_,e,rfl⟩
  cases q:ln h with
  | true=>rfl
  | false =>
   unfold d6 at e
   rw [if_neg (by rw [q];decide)] at e
   rw [← e] at hs
   exact absurd hs (by decide)
theorem EZ {k:Nat} (hk:2 ^ 50≤k) {s:ByteArray} (hs:s.size≤1073741824) {m:Int} (h0:0≤m) (hm:m≤4):∀ (d n:Nat) (pos j:Int) (out:List Int),j+(d:Int)=m→0≤j→d<n→0≤pos→pos≤s.size→(out.length:Int)=j →
 lH (bY.l0 k n s pos m j out) (fun r=>(r.2.1 = -1∨(pos≤r.2.1∧r.2.1≤(s.size:Int)))∧(r.1.length:Int)=m):=by
 intro d
 induction d with
 | zero =>
  intro n pos j out h1 h2 hn h3 h4 h5
  obtain ⟨n,rfl⟩:∃ q,n=q+1:=⟨n-1,by omega⟩
  simp only [bY.l0,bY.b0]
  exact jT (aQ (by omega)) (bC ⟨.inr ⟨Int.le_refl _,h4⟩,by show (out.length:Int)=m;omega⟩)
 | succ d ih =>
  intro n pos j out h1 h2 hn h3 h4 h5
  obtain ⟨n,rfl⟩:∃ q,n=q+1:=⟨n-1,by omega⟩
  have hr:=zt (ByteArray.extract s pos.toNat s.size)
  rw [qh] at hr
  simp only [bY.l0,bY.b0]
  refine kj (aM (by omega)) (IG h3 h4 (d5 (fO hk _) ?_))
  generalize Db (rv 7 (nb (ByteArray.extract s pos.toNat s.size)))=r at hr
  refine cM (fun _=>?_) (fun _=>?_)
  · rw [Jo h0 (by omega) (by decide)]
    exact bC ⟨.inl rfl,by show ((List.replicate m.toNat _).length:Int)=m;rw [List.length_replicate];omega⟩
  · rw [aE (n:=pos+r.2.1) (by omega) (by omega),aE (n:=j+1) (by omega) (by omega)]
    refine s5 (by omega) (by decide) (Bk (ih n (pos+r.2.1) (j+1) (out++[r.1]) (by omega) (by omega) (by omega) (by omega) (by omega) (by rw [cS];omega)) fun x hx=>⟨?_,hx.2⟩)
    rcases hx.1 with q | q
    · exact .inl q
    · exact .inr ⟨by omega,q.2⟩
theorem Ar {k:Nat} (hk:2 ^ 50≤k) {s:ByteArray} (hs:s.size≤1073741824) {m pos:Int} (h0:0≤m) (hm:m≤4) (h1:0≤pos) (h2:pos≤s.size) :
 lH (bY.f k s pos m) (fun r=>(r.2.1 = -1∨(pos≤r.2.1∧r.2.1≤(s.size:Int)))∧(r.1.length:Int)=m):=by
 unfold bY.f bY.t
 exact EZ hk hs h0 hm m.toNat k pos 0 [] (by omega) (by omega) (by omega) h1 h2 rfl
def Be (x:Int):Prop:=0≤x∧x≤1000000
theorem IX {x:Int} (h:Be x):∃ n:Nat,n<562949953421312∧x=(n:Int)∧gu x=bE n:=by
 obtain ⟨n,rfl⟩:=Int.eq_ofNat_of_zero_le h.1
 have:=h.2
 exact ⟨n,by omega,rfl,db (by omega)⟩
theorem C6 {k:Nat} (hk:2 ^ 50≤k) {m:Int} (hm:m≤4):∀ (xs:List Int) (pre t:ByteArray) (n:Nat) (j:Int) (out:List Int),(∀ x ∈ xs,Be x)→j+(xs.length:Int)=m→0≤j→xs.length<n→(out.length:Int)≤j→pre.size+((fN xs).size+t.size)≤1073741824 →
 bY.l0 k n (pre++(fN xs++t)) (pre.size:Int) m j out=some (out++xs,(((pre.size+(fN xs).size:Nat):Int),()))
 | [],pre,t,n,j,out,hx,h1,h2,hn,h3,hz=>by
  obtain ⟨n,rfl⟩:∃ q,n=q+1:=⟨n-1,by omega⟩
  simp only [List.length_nil] at h1
  simp only [bY.l0,bY.b0]
  rw [aQ (by omega),aK,List.append_nil]
  rfl
 | x::xs,pre,t,n,j,out,hx,h1,h2,hn,h3,hz=>by
  obtain ⟨n,rfl⟩:∃ q,n=q+1:=⟨n-1,by omega⟩
  obtain ⟨a,ha,rfl,hv⟩:=IX (hx x (oX ..))
  have hva:=ah a
  rw [lP] at h1 hn
  have e1:fN ((a:Int)::xs)=bE a++fN xs:=by rw [fN,hv]
  rw [e1,aO] at hz
  rw [e1]
  have e2:pre++(bE a++fN xs++t)=pre++bE a++(fN xs++t):=by simp only [ag]
  have ih:=C6 hk hm xs (pre++bE a) t n (j+1) (out++[(a:Int)]) (fun y hy=>hx y (qS _ hy)) (by omega) (by omega) (by omega) (by rw [cS];omega) (by rw [aO];omega)
  simp only [bY.l0,bY.b0]
  rw [aM (by omega),aX,cD (by omega) (by rw [aO];omega),ni,eU,ag,cN hk ha,aT]
  simp only []
  rw [show (((bE a).size:Int)==0)=false from mm (by omega),aK,bm (by omega) (by decide),tI,aE (by omega) (by omega),aE (n:=j+1) (by omega) (by omega)]
  rw [aO] at ih
  rw [← ag pre,ih,rW,aO,Nat.add_assoc]
  rfl
theorem Dh {k:Nat} (hk:2 ^ 50≤k) {xs:List Int} (pre t:ByteArray) (hx:∀ x ∈ xs,Be x) (hl:xs.length≤4) (hz:pre.size+((fN xs).size+t.size)≤1073741824) :
 bY.f k (pre++(fN xs++t)) (pre.size:Int) (xs.length:Int)=some (xs,(((pre.size+(fN xs).size:Nat):Int),())):=by
 unfold bY.f bY.t
 exact C6 hk (by omega) xs pre t k 0 [] hx (by omega) (by omega) (by omega) (by simp) hz
theorem Ko {k:Nat} (hk:2 ^ 50≤k) {s:ByteArray} (hs:s.size≤1073741824):lH (cJ.f k s) (fun r=>r.2.1.size≤s.size):=by
 rcases nV s with ⟨u,t,hu,rfl⟩ | h
 · rw [aO,aO] at hs
   exact D3 (uE hk hu (by rw [aO];omega)) (by show t.size≤_;rw [aO,aO];omega)
 · exact D3 (vi hk (by omega) h) (Nat.zero_le _)
theorem B1 {k:Nat} (hk:2 ^ 50≤k) {s:ByteArray} (h4:4≤s.size) (hs:s.size≤1073741824) (z:aR) (z1 z2 a b:Int) {xs:List Int} (hx:xs.length=3) (hc:xs.getD 2 (Ty.dflt (.int .i64))≤(20:Int)):∀ (d n:Nat) (pos j:Int) (out:aR),j+(d:Int)=20→0≤j→d<n→0≤pos→pos≤s.size→(out.length:Int)≤j →
 RH s (bI.l0 k n s pos j z z1 z2 xs out a b):=by
 intro d
 induction d with
 | zero =>
  intro n pos j out h1 h2 hn h3 h5 h6
  obtain ⟨n,rfl⟩:∃ q,n=q+1:=⟨n-1,by omega⟩
  simp only [bI.l0,bI.b0]
  rw [aG (by omega) (by omega),aQ (show ¬ j<xs.getD 2 (Ty.dflt (.int .i64)) by omega),aK,ku hk,aT]
  exact HI h4 _
 | succ d ih =>
  intro n pos j out h1 h2 hn h3 h5 h6
  obtain ⟨n,rfl⟩:∃ q,n=q+1:=⟨n-1,by omega⟩
  have hz:=qh s pos.toNat
  simp only [bI.l0,bI.b0]
  rw [aG (by omega) (by omega)]
  by_cases c:j<xs.getD 2 (Ty.dflt (.int .i64))
  · rw [aM c,aX,cD h3 h5]
    obtain ⟨r2,e2,q2⟩:=Ko hk (s:=ByteArray.extract s pos.toNat s.size) (by omega)
    rw [e2,aT]
    obtain ⟨r3,e3,q3,q4⟩:=Ar hk (s:=r2.2.1) (m:=4) (pos:=0) (by omega) (by omega) (by omega) (by omega) (by omega)
    rw [e3,aT]
    cases r2.2.2.1 with
    | false=>exact BX s
    | true =>
     simp only [fb,aK]
     by_cases c3:r3.2.1<0
     · rw [aM c3];exact BX s
     · rw [aQ c3,aK,aG (by omega) (by omega),aG (by omega) (by omega),aG (by omega) (by omega),aG (by omega) (by omega),bm (by omega) (by decide),aE (n:=(s.size:Int)-(r2.2.1.size:Int)) (by omega) (by omega),aE (n:=(s.size:Int)-(r2.2.1.size:Int)+r3.2.1) (by omega) (by omega),aE (n:=j+1) (by omega) (by omega)]
       exact ih n _ (j+1) _ (by omega) (by omega) (by omega) (by omega) (by omega) (by rw [cS];omega)
  · rw [aQ c,aK,ku hk,aT]
    exact HI h4 _
theorem D_ {k:Nat} (hk:2 ^ 50≤k) {s:ByteArray} (hs:s.size≤1073741824):RH s (bI.f k s):=by
 unfold bI.f bI.t
 by_cases h4:(s.size:Int)<4
 · rw [aM h4];exact BX s
 · rw [aQ h4,aK]
   obtain ⟨r,e,q1,q2⟩:=Ar hk (s:=s) (m:=3) (pos:=4) hs (by omega) (by omega) (by omega) (by omega)
   rw [e,aT]
   by_cases c1:r.2.1<0
   · rw [aM c1];exact BX s
   · rw [aQ c1,aK,aG (by omega) (by omega)]
     by_cases c2:r.1.getD 2 (Ty.dflt (.int .i64)) > (20:Int)
     · rw [aM c2];exact BX s
     · rw [aQ c2,aK,aG (by omega) (by omega),aG (by omega) (by omega)]
       exact B1 hk (by omega) hs [] 0 0 _ _ (by omega) (Int.not_lt.1 c2) 20 k r.2.1 0 [] (by omega) (by omega) (by omega) (by omega) (by omega) (by simp)
theorem G4 {e:Ty.den aA} {l:aR} (hl:oz l=true) (ho:zm l=true) (he:e ∈ l):∀ x ∈ [(e.2.1:Int),e.2.2.1,e.2.2.2.1,e.2.2.2.2.1],Be x:=by
 obtain ⟨_,q⟩:=lC hl
 obtain ⟨_,⟨a1,a2⟩,b1,⟨c1,c2⟩,⟨d1,d2⟩⟩:=q e he
 have h2:=List.all_eq_true.1 ho e he
 unfold EE at h2
 rw [im] at h2
 have b2:LE.le (α:=Int) e.2.2.1 100000:=by
  refine Int.not_lt.1 fun w=>?_
  have:(!decide ((e.2.2.1:Int) > 100000))=false:=by rw [aM w];rfl
  rw [this] at h2
  cases h2.2
 intro x hx
 simp only [List.mem_cons,List.not_mem_nil,or_false] at hx
 rcases hx with rfl | rfl | rfl | rfl
 · exact ⟨by omega,by omega⟩
 · exact ⟨b1,by omega⟩
 · exact ⟨by omega,by omega⟩
 · exact ⟨by omega,d2⟩
theorem FR (e:Ty.den aA) (h:e.1.size≤8) (t:ByteArray):jC e++t=bE e.1.size++(e.1++(fN [(e.2.1:Int),e.2.2.1,e.2.2.2.1,e.2.2.2.2.1]++t)):=by
 unfold jC j5
 rw [db (by omega)]
 simp only [fN,j0,ag]
theorem wT {k:Nat} (hk:2 ^ 50≤k) {h:Ty.den gl} (q:ln h=true) (z:aR) (z1 z2:Int):∀ (r:aR) (pre:ByteArray) (n:Nat) (j:Int) (out:aR),(∀ e ∈ r,e ∈ h.2.2.1)→out++r=h.2.2.1→(out.length:Int)=j→r.length<n→d6 h=pre++ke r→pre.size≤1000 →
 bI.l0 k n (d6 h) (pre.size:Int) j z z1 z2 [(h.1:Int),h.2.1,(h.2.2.1.length:Int)] out h.1 h.2.1=some (h,(true,()))
 | [],pre,n,j,out,hr,ho,hj,hn,hs,hp=>by
  obtain ⟨n,rfl⟩:∃ q,n=q+1:=⟨n-1,by omega⟩
  rw [List.append_nil] at ho
  simp only [bI.l0,bI.b0]
  rw [aG (by omega) (by simp),show List.getD [(h.1:Int),h.2.1,(h.2.2.1.length:Int)] 2 (Ty.dflt (.int .i64))=(h.2.2.1.length:Int) from rfl,ho,aQ (by rw [← hj,ho];omega),aK,show (h.1,(h.2.1,(h.2.2.1,())))=h from rfl,ku hk,aT]
  simp only [c9]
  rfl
 | e::r,pre,n,j,out,hr,ho,hj,hn,hs,hp=>by
  obtain ⟨n,rfl⟩:∃ q,n=q+1:=⟨n-1,by omega⟩
  have hlen:h.2.2.1.length=out.length+(r.length+1):=by rw [← ho,sG,lP]
  have he:=hr e (oX ..)
  have hd:=p7 q
  have h1:zm h.2.2.1=true:=by unfold ln at q;rw [im,im,im] at q;exact q.2.2.2
  have hk8:=((lC hd).2 e he).1.2
  have h20:=(lC hd).1
  have hnum:=G4 hd h1 he
  have hz:=oI h
  have hf:=FR e hk8 (ke r)
  have hs2:d6 h=pre++(bE e.1.size++(e.1++(fN [(e.2.1:Int),e.2.2.1,e.2.2.2.1,e.2.2.2.2.1]++ke r))):=by rw [← hf];exact hs
  have hs3:d6 h=(pre++jC e)++ke r:=by rw [ag];exact hs
  have hsz:=congrArg ByteArray.size hs2
  simp only [aO] at hsz
  have hsz3:=congrArg ByteArray.size hs3
  rw [aO,aO] at hsz3
  have ih:=wT hk q z z1 z2 r (pre++jC e) n (j+1) (out++[e]) (fun x hx=>hr x (qS _ hx)) (by rw [rW];exact ho) (by rw [cS];omega) (by rw [lP] at hn;omega) hs3 (by rw [aO];omega)
  have hv:=Dh hk (xs:=[(e.2.1:Int),e.2.2.1,e.2.2.2.1,e.2.2.2.2.1]) ⟨#[]⟩ (ke r) hnum (by simp) (by rw [e0];omega)
  rw [pH,e0] at hv
  simp only [bI.l0,bI.b0]
  rw [aG (by omega) (by simp),show List.getD [(h.1:Int),h.2.1,(h.2.2.1.length:Int)] 2 (Ty.dflt (.int .i64))=(h.2.2.1.length:Int) from rfl,aM (by omega),aX,cD (by omega) (by omega),ni]
  have ex:ByteArray.extract (d6 h) pre.size (d6 h).size=bE e.1.size++(e.1++(fN [(e.2.1:Int),e.2.2.1,e.2.2.2.1,e.2.2.2.2.1]++ke r)):=by rw [hs2,eU]
  rw [ex,uE hk (by omega) (by simp only [aO];omega),aT]
  simp only []
  rw [show bY.f k (fN [(e.2.1:Int),e.2.2.1,e.2.2.2.1,e.2.2.2.2.1]++ke r) 0 4=_ from hv,aT]
  simp only [fb,aK]
  rw [aQ (by omega),aK,aG (by omega) (by simp),aG (by omega) (by simp),aG (by omega) (by simp),aG (by omega) (by simp),bm (by omega) (by decide),aE (n:=j+1) (by omega) (by omega)]
  have hsv:(fN [(e.2.1:Int),e.2.2.1,e.2.2.2.1,e.2.2.2.2.1]++ke r).size=(fN [(e.2.1:Int),e.2.2.1,e.2.2.2.1,e.2.2.2.2.1]).size+(ke r).size:=aO _ _
  have w:aH (aH (((d6 h).size:Int)-((fN [(e.2.1:Int),e.2.2.1,e.2.2.2.1,e.2.2.2.2.1]++ke r).size:Int))+((0+(fN [(e.2.1:Int),e.2.2.1,e.2.2.2.1,e.2.2.2.2.1]).size:Nat):Int))=((pre++jC e).size:Int):=by
   have hpe:=aO pre (jC e)
   rw [aE (n:=((d6 h).size:Int)-_) (by omega) (by omega),aE (by omega) (by omega)]
   omega
  rw [w]
  exact ih
theorem El {h:Ty.den gl} (q:ln h=true):∀ x ∈ [(h.1:Int),h.2.1,(h.2.2.1.length:Int)],Be x:=by
 have h20:=(lC (p7 q)).1
 unfold ln at q
 rw [im,im,decide_eq_true_eq,decide_eq_true_eq] at q
 obtain ⟨⟨a1,a2⟩,⟨b1,b2⟩,_⟩:=q
 intro x hx
 simp only [List.mem_cons,List.not_mem_nil,or_false] at hx
 rcases hx with rfl | rfl | rfl
 · exact ⟨a1,by have:LE.le (α:=Int) h.1 100000:=a2;omega⟩
 · exact ⟨b1,b2⟩
 · exact ⟨by omega,by omega⟩
theorem xZ {h:Ty.den gl} (q:ln h=true):d6 h=tV (pn (rP h))++(fN [(h.1:Int),h.2.1,(h.2.2.1.length:Int)]++ke h.2.2.1):=by
 unfold d6
 rw [if_pos q]
 unfold rP
 simp only [fN,j0,ag]
theorem sQ (x:Int):(tV x).size=4:=rfl
theorem Ez {k:Nat} (hk:2 ^ 50≤k) {h:Ty.den gl} (q:ln h=true):bI.f k (d6 h)=some (h,(true,())):=by
 have h20:=(lC (p7 q)).1
 have hf:=xZ q
 have hz:=oI h
 have hsz:=congrArg ByteArray.size hf
 rw [aO,aO,sQ] at hsz
 have hv:=Dh hk (xs:=[(h.1:Int),h.2.1,(h.2.2.1.length:Int)]) (tV (pn (rP h))) (ke h.2.2.1) (El q) (by simp) (by rw [sQ];omega)
 rw [← hf,sQ] at hv
 unfold bI.f bI.t
 rw [aQ (by omega),aK,show bY.f k (d6 h) 4 3=_ from hv,aT]
 simp only []
 rw [aQ (by omega),aK,aG (by omega) (by simp),show List.getD [(h.1:Int),h.2.1,(h.2.2.1.length:Int)] 2 (Ty.dflt (.int .i64))=(h.2.2.1.length:Int) from rfl,aQ (by omega),aK,aG (by omega) (by simp),aG (by omega) (by simp)]
 have:=wT hk q [] 0 0 h.2.2.1 (tV (pn (rP h))++fN [(h.1:Int),h.2.1,(h.2.2.1.length:Int)]) k 0 [] (fun e he=>he) rfl rfl (by omega) (by rw [ag];exact hf) (by rw [aO,sQ];omega)
 rw [aO,sQ] at this
 exact this
theorem pi {k:Nat} (hk:2 ^ 50≤k) {s:ByteArray} (hs:s.size≤1073741824):bI.f k s=some ((iM s).1,((iM s).2,())) :=
 rF (fun h h1 h2=>by rw [← h2];exact Ez hk h1) (D_ hk hs)
theorem t_ {s:ByteArray}:(iM s).1.2.2.1.length≤20:=by
 rcases m6 (fun h=>ln h=true) d6 oY s with ⟨r,h1,_,e⟩ | e
 · unfold iM
   rw [e]
   exact (lC (p7 h1)).1
 · unfold iM
   rw [e]
   exact Nat.zero_le _
end Go.Proofs.YtdbekilnpjmeaaaGreatDoor.G
namespace Go.Proofs.YtdbekilnpjmeaaaGreatDoor.G
open Go.V
def m5:Ty.den aC:=((0,([],())),([],(0,(0,(0,())))))
noncomputable def A0 (d:Ty.den a_) (x:Int) (last:Bool):Bool:=(ao d (aB aI x)).2&&(last||!decide ((dq (kL d x)).2<((kL d x).size:Int)))
noncomputable def na (d:Ty.den a_):List Int→Bool
 | []=>true
 | x::l=>A0 d x l.isEmpty&&na d l
noncomputable def C7 (d:Ty.den a_) (x:Int):bG:=kD x (dq (kL d x)).1
noncomputable def py (d:Ty.den a_):List Int→bG
 | []=>[]
 | x::l=>C7 d x++py d l
noncomputable def tn (d:Ty.den a_) (x:Int):Ty.den gl:=(iM (ao d (aB dR x)).1).1
noncomputable def ra (d:Ty.den a_) (x:Int):Bool:=(ao d (aB dR x)).2&&((iM (ao d (aB dR x)).1).2&&ou x (kL d x) (tn d x))
noncomputable def s6 (d:Ty.den a_) (ids:List Int):Ty.den kY :=
 bif ra d (ids.getD 0 0) then nH ((tn d (ids.getD 0 0)).2.2.1,((tn d (ids.getD 0 0)).2.1,(0,()))) (py d (ids.drop 1)) else nH ([],(0,(0,()))) (py d ids)
noncomputable def I6 (v:Ty.den bj) (en:Int) (g:Ty.den kY) (hi:Int):Ty.den aC:=(v,(g.1,(aH (g.2.1+1),(en,(hi,())))))
noncomputable def xh (v:Ty.den bj) (en:Int) (x:Ty.den a_) (g:Ty.den kY) (hi:Int):Ty.den aC × RD :=
 bif g.2.2.1 != 0 then (m5,(x,3)) else bif (lb v.2.1 x).2 != 0 then (m5,((lb v.2.1 x).1,fM (lb v.2.1 x).2)) else
 (I6 v en g hi,((lb v.2.1 x).1,0))
noncomputable def AG (v:Ty.den bj) (d:Ty.den a_):Ty.den aC × RD :=
 bif !na d v.2.1 then (m5,(d,3)) else
 bif (nn (c8 v.2.1) d).2 != 0 then (m5,((nn (c8 v.2.1) d).1,fM (nn (c8 v.2.1) d).2)) else
 xh v (dq (kL d (c8 v.2.1))).2 (nn (c8 v.2.1) d).1 (s6 (nn (c8 v.2.1) d).1 v.2.1) (bif ra (nn (c8 v.2.1) d).1 (v.2.1.getD 0 0) then v.2.1.getD 0 0 else 0)
def xx:Ty.den bj:=(2,([1],()))
noncomputable def lV (d:Ty.den a_):RD:=gR (gR (lb [] d) fun x=>tr x (aB aI 1)) (az xx)
noncomputable def ma (d:Ty.den a_):Ty.den aC × RD :=
 bif (lV d).2==0 then ((xx,([],(1,(0,(0,()))))),((lV d).1,0)) else (m5,((lV d).1,fM (lV d).2))
noncomputable def lm (d:Ty.den a_):Ty.den aC × RD :=
 bif !iB d then (m5,(d,4)) else bif d.2.2.2.1 then (m5,(d,1)) else
 bif !(ao d jM).2 then ma d else
 bif !(lK (ao d jM).1).2 then (m5,(d,3)) else AG (lK (ao d jM).1).1 d
def oS (q:Ty.den aC × RD):Ty.den aC × Ty.den a_ × Int × Unit:=(q.1,(q.2.1,(q.2.2,())))
theorem EK {lim:Int}:∀ (l:List Int) (p:Option Int),ph (nG lim) p l=true→(∀ q,p=some q→∀ x ∈ l,q<x)∧l.Pairwise (fun a b=>a<b)
 | [],p,_=>⟨fun q _ x hx=>(by cases hx),List.Pairwise.nil⟩
 | y::l,p,h=>by
  unfold ph at h
  rw [im] at h
  obtain ⟨h1,h2⟩:=h
  obtain ⟨a,b⟩:=EK l (some y) h2
  have hy:∀ q,p=some q→q<y:=fun q hq=>by
   subst hq
   unfold nG at h1
   rw [im] at h1
   exact of_decide_eq_true h1.2
  refine ⟨fun q hq x hx=>?_,List.pairwise_cons.2 ⟨a y rfl,b⟩⟩
  rcases List.mem_cons.1 hx with e | e
  · rw [e];exact hy q hq
  · have:=a y rfl x e
    have:=hy q hq
    omega
theorem Ea {v:Ty.den bj} (h:cP v=true):v.2.1.Pairwise (fun a b=>a<b):=by
 unfold cP at h
 rw [im,im] at h
 exact (EK _ _ h.2.2).2
theorem HN {α:Type} {l m:List α} {n:Nat} {z:α} (h:l.length≤n):(l++m).getD n z=m.getD (n-l.length) z:=by
 simp [List.getD,List.getElem?_append_right h]
theorem IR {ids:List Int} (hp:ids.Pairwise (fun a b=>a<b)) {i:Nat} {x:Int} {rest:List Int} (h:ids.drop i=x::rest):(x==c8 ids)=rest.isEmpty:=by
 have hi:=II h
 have hlen:=congrArg List.length h
 rw [List.length_drop,lP] at hlen
 have e:ids=ids.take i++(x::rest):=by rw [← h,List.take_append_drop]
 have hl:c8 ids=(x::rest).getD rest.length 0:=by
  unfold c8
  have ht:(ids.take i).length=i:=by rw [List.length_take];omega
  conv=>lhs;rw [e]
  rw [HN (by rw [ht,sG,ht,lP];omega),ht,sG,ht,lP]
  congr 1
  omega
 cases rest with
 | nil=>rw [hl];exact beq_self_eq_true x
 | cons y r =>
  rw [hl]
  have hm:(x::y::r).getD (y::r).length 0 ∈ y::r:=by
   show (y::r).getD r.length 0 ∈ y::r
   exact iP (by rw [lP];omega)
  have hpd:(x::y::r).Pairwise (fun a b=>a<b):=by rw [← h];exact hp.drop
  have:=(List.pairwise_cons.1 hpd).1 _ hm
  exact mm (by omega)
theorem oc {d:Ty.den a_} (h:DR d) (x:Int):(kL d x).size≤100000:=by
 have:=gX d (aB aI x)
 have h2:=h.use
 have h3:=h.cap1
 unfold kL
 omega
theorem vZ {d:Ty.den a_} (h:DR d) (x:Int):(C7 d x).length≤100000:=by
 have h1:=oc h x
 have h2:=mz (kL d x)
 unfold C7
 rw [Br]
 omega
theorem ob {d:Ty.den a_} (h:DR d):∀ l:List Int,(py d l).length≤100000*l.length
 | []=>Nat.zero_le _
 | x::l=>by
  have h1:=vZ h x
  have h2:=ob h l
  unfold py
  rw [sG,lP]
  omega
theorem Ag {k:Nat} (hk:2 ^ 50≤k) {d:Ty.den a_} (h:DR d):gH.f k d=some (oS (ma d)):=by
 have h1:=wb [] d h
 have hv:cP xx=true:=by decide
 unfold gH.f gH.t ma lV
 rw [sP hk h (by decide),aT]
 simp only [show ((0,(([]:List Int),())):Ty.den bj).2.1=[] from rfl]
 generalize lb [] d=r at h1 ⊢
 unfold gR
 simp only [bne,iR]
 cases c:r.2==0 with
 | false=>simp only [tD,aX,aK,c];rfl
 | true =>
  simp only [fb,aK,aX]
  rw [bK hk,aT]
  simp only []
  have hn:=uC (.inl rfl:aI=aI∨aI=dR) 1
  rw [pB hk h1.sz (by omega),aT]
  simp only [cw,aT]
  cases c2:(tr r.1 (aB aI 1)).2==0 with
  | false=>simp only [tD,aX,aK,c2];rfl
  | true =>
   simp only [fb,aK,aX]
   rw [show ((2,([1],())):Ty.den bj)=xx from rfl,nK hk (zL h1 _) hv,aT]
   simp only [iR]
   cases c3:(az xx (tr r.1 (aB aI 1)).1).2==0 <;> rfl
def Ir (k:Nat) (v:Ty.den bj) (en:Int) (x:Ty.den a_) (hi:Int) (dir:aR) (la:Int) (pl:bG):Option (Ty.den aC × Ty.den a_ × Int × Unit) :=
 (Option.bind (cA.f k (dir,(la,(0,()))) pl) fun r33=>(bif (r33.1.2.2.1 != 0) then (some (m5,(x,(3,())))) else
 (Option.bind (bo.f k x v) fun r34=>(bif (r34.2.1 != 0) then (some (m5,r34)) else (some ((v,(r33.1.1,((aH (r33.1.2.1+1)),(en,(hi,()))))),(r34.1,(0,()))))))))
theorem Dm {k:Nat} (hk:2 ^ 50≤k) {v:Ty.den bj} (hv:v.2.1.length≤60) (en:Int) {x:Ty.den a_} (h:DR x) (hi:Int) {dir:aR} (hd:dir.length≤1000) (la:Int) {pl:bG} (hp:pl.length≤100000000) :
 Ir k v en x hi dir la pl=some (oS (xh v en x (nH (dir,(la,(0,()))) pl) hi)):=by
 unfold Ir xh
 rw [wA hk _ (by omega) (by show dir.length≤_;omega),aT]
 simp only [bne]
 cases (nH (dir,(la,(0,()))) pl).2.2.1==0 with
 | false=>rfl
 | true =>
  simp only [fb,aK]
  rw [sP hk h (by omega),aT]
  simp only [iR]
  cases (lb v.2.1 x).2==0 <;> rfl
theorem Jj {k:Nat} (hk:2 ^ 50≤k) {v:Ty.den bj} (hv:v.2.1.length≤60) (en:Int) {x:Ty.den a_} (h:DR x) (hi:Int) (dir:aR) (la:Int) :
 ∀ (n:Nat) (i:Int) (pl:bG),0≤i→i≤(v.2.1.length:Int)→(v.2.1.length:Int)-i<n→1≤i∧(pl.length:Int)≤100000*i →
 ax.l1 k n i [] [] 0 0 0 0 [] 0 0 false [] [] 0 0 0 0 v.2.1 v.1 x.1 x.2.1 x.2.2.1 x.2.2.2.1 [] v.1 0 en hi dir la 0 pl=Ir k v en x hi dir la (pl++py x (v.2.1.drop i.toNat)):=by
 have hl:=h.sz.l
 have hu:=h.sz.u
 have hn:=h.sz.n
 refine HP (L:=fun n i pl=>ax.l1 k n i [] [] 0 0 0 0 [] 0 0 false [] [] 0 0 0 0 v.2.1 v.1 x.1 x.2.1 x.2.2.1 x.2.2.2.1 [] v.1 0 en hi dir la 0 pl) (R:=fun r pl=>Ir k v en x hi dir la (pl++py x r)) (Ty.dflt (.int .i64)) v.2.1 (fun i pl=>1≤i∧(pl.length:Int)≤100000*i) (fun n pl hp=>?_) (fun n i pl y rest h0 h1 hy hr hp ih=>?_)
 · simp only [ax.l1,ax.b1]
   rw [aQ (by omega),aK,show py x []=[] from rfl,List.append_nil]
   rfl
 · have hs:=oc h y
   have hpl:=vZ h y
   have ht:=gX x (aB dR y)
   have ih:=ih (pl++C7 x y) ⟨by omega,by rw [sG];omega⟩
   simp only [ax.l1,ax.b1]
   rw [aM h1,aX,aG h0 h1,hy,bK hk,aT]
   simp only []
   rw [show (x.1,(x.2.1,(x.2.2.1,(x.2.2.2.1,()))))=x from rfl,gI hk (by omega) (by omega) (by omega),aT,aG h0 h1,iW hk,aT]
   simp only []
   rw [gI hk (by omega) (by omega) (by omega),aT]
   simp only []
   rw [pi hk (by omega),aT,show (i==0)=false from mm (by omega)]
   simp only [aK]
   rw [aG h0 h1,rV hk y (by show (kL x y).size≤_;omega),aT]
   simp only []
   rw [bm (by show pl.length+(C7 x y).length≤_;omega) (by decide),aE (n:=i+1) (by omega) (by omega)]
   refine ih.trans ?_
   rw [rW]
   rfl
theorem wG {k:Nat} (hk:2 ^ 50≤k) {v:Ty.den bj} (hv:v.2.1.length≤60) (hv1:1≤v.2.1.length) (en:Int) {x:Ty.den a_} (h:DR x) :
 ax.l1 k k 0 [] [] 0 0 0 0 [] 0 0 false [] [] 0 0 0 0 v.2.1 v.1 x.1 x.2.1 x.2.2.1 x.2.2.2.1 [] v.1 0 en 0 [] 0 0 []=some (oS (xh v en x (s6 x v.2.1) (bif ra x (v.2.1.getD 0 0) then v.2.1.getD 0 0 else 0))):=by
 have hl:=h.sz.l
 have hu:=h.sz.u
 have hn:=h.sz.n
 obtain ⟨n,hn2⟩:∃ q,k=q+1:=⟨k-1,by omega⟩
 have hs:=oc h (v.2.1.getD 0 0)
 have hpl:=vZ h (v.2.1.getD 0 0)
 have ht:=gX x (aB dR (v.2.1.getD 0 0))
 have hpa:=ob h (v.2.1.drop 1)
 have hpb:=ob h v.2.1
 rw [List.length_drop] at hpa
 have hh:=t_ (s:=(ao x (aB dR (v.2.1.getD 0 0))).1)
 have step:=fun hi dir la pl=>Jj hk hv en h hi dir la n 1 pl (by omega) (by omega) (by omega)
 refine (congrArg (fun z=>ax.l1 k z 0 [] [] 0 0 0 0 [] 0 0 false [] [] 0 0 0 0 v.2.1 v.1 x.1 x.2.1 x.2.2.1 x.2.2.2.1 [] v.1 0 en 0 [] 0 0 []) hn2).trans ?_
 have hsplit:v.2.1=v.2.1.getD 0 0::v.2.1.drop 1:=by
  have:=tj (0:Int) (l:=v.2.1) (i:=0) (by omega)
  rw [List.drop_zero] at this
  exact this
 simp only [ax.l1,ax.b1]
 rw [aM (by omega),aX,aG (by omega) (by omega),show List.getD v.2.1 (Int.toNat 0) (Ty.dflt (.int .i64))=v.2.1.getD 0 0 from rfl,bK hk,aT]
 simp only []
 rw [show (x.1,(x.2.1,(x.2.2.1,(x.2.2.2.1,()))))=x from rfl,gI hk (by omega) (by omega) (by omega),aT,aG (by omega) (by omega),iW hk,aT]
 simp only []
 rw [gI hk (by omega) (by omega) (by omega),aT]
 simp only []
 rw [pi hk (by omega),aT,show ((0:Int)==0)=true from rfl]
 simp only [aX]
 rw [rV hk (v.2.1.getD 0 0) (by show (kL x (v.2.1.getD 0 0)).size≤_;omega),aT]
 simp only []
 rw [bm (by show ([]:bG).length+(C7 x (v.2.1.getD 0 0)).length≤_;rw [List.length_nil];omega) (by decide),aE (n:=(0:Int)+1) (by omega) (by omega),aG (by omega) (by omega)]
 rw [show List.getD v.2.1 0 (Ty.dflt (.int .i64))=v.2.1.getD 0 0 from rfl]
 rw [uu hk _ (by show (kL x (v.2.1.getD 0 0)).size≤_;omega),aT]
 simp only []
 have no:ax.l1 k n (0+1) [] [] 0 0 0 0 [] 0 0 false [] [] 0 0 0 0 v.2.1 v.1 x.1 x.2.1 x.2.2.1 x.2.2.2.1 [] v.1 0 en 0 [] 0 0 ([]++kD (v.2.1.getD 0 0) (dq (ao x (aB aI (v.2.1.getD 0 0))).1).1)=some (oS (xh v en x (nH ([],(0,(0,()))) (py x v.2.1)) 0)):=by
  refine (step 0 [] 0 (C7 x (v.2.1.getD 0 0)) ⟨by omega,by omega⟩).trans ?_
  rw [show C7 x (v.2.1.getD 0 0)++py x (v.2.1.drop (Int.toNat 1))=py x (v.2.1.getD 0 0::v.2.1.drop 1) from rfl,← hsplit]
  exact Dm hk hv en h 0 (by simp) 0 (by omega)
 unfold s6 ra tn
 show (bif (ao x (aB dR (v.2.1.getD 0 0))).2 then (bif (iM (ao x (aB dR (v.2.1.getD 0 0))).1).2 then (bif ou (v.2.1.getD 0 0) (kL x (v.2.1.getD 0 0)) (iM (ao x (aB dR (v.2.1.getD 0 0))).1).1 then _ else _) else _) else _)=_
 cases (ao x (aB dR (v.2.1.getD 0 0))).2 with
 | false=>simp only [aK,Bool.false_and];rw [aG (by omega) (by omega)];exact no
 | true =>
  cases (iM (ao x (aB dR (v.2.1.getD 0 0))).1).2 with
  | false=>simp only [aK,aX,Bool.false_and,Bool.true_and];rw [aG (by omega) (by omega)];exact no
  | true =>
   cases ou (v.2.1.getD 0 0) (kL x (v.2.1.getD 0 0)) (iM (ao x (aB dR (v.2.1.getD 0 0))).1).1 with
   | false=>simp only [aK,aX,Bool.true_and];rw [aG (by omega) (by omega)];exact no
   | true =>
    simp only [aX,Bool.true_and]
    rw [aG (by omega) (by omega)]
    refine (step (v.2.1.getD 0 0) (iM (ao x (aB dR (v.2.1.getD 0 0))).1).1.2.2.1 (iM (ao x (aB dR (v.2.1.getD 0 0))).1).1.2.1 [] ⟨by omega,by simp⟩).trans ?_
    rw [List.nil_append,show (1:Int).toNat=1 from rfl]
    exact Dm hk hv en h _ (by omega) _ (by omega)
theorem EV (k:Nat):∀ n,ax.l2 k n=ax.l1 k n
 | 0=>rfl
 | n+1=>by show ax.b2 k (ax.l2 k n)=ax.b1 k (ax.l1 k n);rw [EV k n];rfl
theorem K4 {k:Nat} (hk:2 ^ 50≤k) {v:Ty.den bj} (hv:cP v=true) {d:Ty.den a_} (h:DR d) :
 ax.l0 k k (c8 v.2.1) 0 d.1 d.2.1 d.2.2.1 d.2.2.2.1 [] [] 0 0 0 0 [] 0 0 false [] [] 0 0 0 0 v.2.1 v.1=some (oS (AG v d)):=by
 obtain ⟨_,_,hv1,hv2,_⟩:=ck (nx:=v.1) (ids:=v.2.1) hv
 have hrise:=Ea hv
 have hl:=h.sz.l
 have hu:=h.sz.u
 have hn:=h.sz.n
 have hs:=oc h (c8 v.2.1)
 have hsc:=mz (kL d (c8 v.2.1))
 have hfin:∀ n:Nat,ax.l0 k (n+1) (c8 v.2.1) (v.2.1.length:Int) d.1 d.2.1 d.2.2.1 d.2.2.2.1 [] [] 0 0 0 0 [] 0 0 false [] [] 0 0 0 0 v.2.1 v.1 =
  some (oS (bif (nn (c8 v.2.1) d).2 != 0 then (m5,((nn (c8 v.2.1) d).1,fM (nn (c8 v.2.1) d).2)) else xh v (dq (kL d (c8 v.2.1))).2 (nn (c8 v.2.1) d).1 (s6 (nn (c8 v.2.1) d).1 v.2.1) (bif ra (nn (c8 v.2.1) d).1 (v.2.1.getD 0 0) then v.2.1.getD 0 0 else 0))):=fun n=>by
  simp only [ax.l0,ax.b0]
  rw [aQ (by omega),aK,bK hk,aT]
  simp only []
  rw [show (d.1,(d.2.1,(d.2.2.1,(d.2.2.2.1,()))))=d from rfl,gI hk (by omega) (by omega) (by omega),aT]
  simp only [show (ao d (aB aI (c8 v.2.1))).1=kL d (c8 v.2.1) from rfl]
  rw [mV hk (by omega),aT,kR k h.sz,aT,EV]
  simp only []
  show (bif decide ((dq (kL d (c8 v.2.1))).2<((kL d (c8 v.2.1)).size:Int)) then _ else _)=_
  unfold nn
  cases decide ((dq (kL d (c8 v.2.1))).2<((kL d (c8 v.2.1)).size:Int)) with
  | true =>
   simp only [aX]
   simp only [aT]
   rw [Cu hk h.sz,aT]
   simp only [cw,aT]
   unfold gR
   simp only [bne]
   show (bif !((Ca d (aB aI (c8 v.2.1)) (dq (kL d (c8 v.2.1))).2).2==0) then _ else _)=_
   have h1:=Gm h (aB aI (c8 v.2.1)) (dq (kL d (c8 v.2.1))).2
   generalize Ca d (aB aI (c8 v.2.1)) (dq (kL d (c8 v.2.1))).2=r at h1
   cases c:r.2==0 with
   | false=>simp only [tD,aX,aK,c];rfl
   | true =>
    simp only [fb,aK,aX]
    rw [kz hk h1.sz,aT]
    simp only []
    have h2:=lf h1 (aB aI (c8 v.2.1))
    generalize eA r.1 (aB aI (c8 v.2.1))=q at h2
    cases c2:q.2==0 with
    | false=>rfl
    | true =>
     simp only [fb,aK]
     exact wG hk hv2 hv1 _ h2
  | false =>
   simp only [aK]
   simp only [aT]
   rw [kz hk h.sz,aT]
   simp only [cw,aT]
   unfold gR
   simp only [bne,show ((0:Int)==0)=true from rfl,aX]
   have h2:=lf h (aB aI (c8 v.2.1))
   generalize eA d (aB aI (c8 v.2.1))=q at h2
   cases c2:q.2==0 with
   | false=>rfl
   | true =>
    simp only [fb,aK]
    exact wG hk hv2 hv1 _ h2
 unfold AG
 refine (eV (L:=fun n i (_:Unit)=>ax.l0 k n (c8 v.2.1) i d.1 d.2.1 d.2.2.1 d.2.2.2.1 [] [] 0 0 0 0 [] 0 0 false [] [] 0 0 0 0 v.2.1 v.1) (R:=fun r _=>bif na d r then some (oS (bif (nn (c8 v.2.1) d).2 != 0 then (m5,((nn (c8 v.2.1) d).1,fM (nn (c8 v.2.1) d).2)) else xh v (dq (kL d (c8 v.2.1))).2 (nn (c8 v.2.1) d).1 (s6 (nn (c8 v.2.1) d).1 v.2.1) (bif ra (nn (c8 v.2.1) d).1 (v.2.1.getD 0 0) then v.2.1.getD 0 0 else 0))) else some (oS (m5,(d,3)))) (Ty.dflt (.int .i64)) v.2.1 (fun _ _=>True) (fun n _ _=>hfin n) (fun n i _ y rest h0 h1 hy hr hp ih=>?_) (n:=k) (s:=()) (by omega) trivial).trans (by cases na d v.2.1 <;> rfl)
 have ih:=ih () trivial
 have hsy:=oc h y
 have hlast:=IR hrise hr
 simp only [ax.l0,ax.b0]
 rw [aM h1,aX,aG h0 h1,hy,bK hk,aT]
 simp only []
 rw [show (d.1,(d.2.1,(d.2.2.1,(d.2.2.2.1,()))))=d from rfl,gI hk (by omega) (by omega) (by omega),aT]
 simp only []
 rw [mV hk (by show (kL d y).size≤_;omega),aT,kR k h.sz,aT,aG h0 h1,aE (n:=i+1) (by omega) (by omega),ih]
 rw [show na d (y::rest)=(A0 d y rest.isEmpty&&na d rest) from rfl]
 unfold A0 bne
 rw [hlast]
 show (bif !(ao d (aB aI y)).2 then _ else bif !rest.isEmpty then (bif decide ((dq (kL d y)).2<((kL d y).size:Int)) then _ else _) else _)=_
 cases (ao d (aB aI y)).2 with
 | false=>rfl
 | true =>
  cases rest.isEmpty with
  | true=>rfl
  | false=>cases decide ((dq (kL d y)).2<((kL d y).size:Int)) <;> rfl
theorem Aq {k:Nat} (hk:2 ^ 50≤k) {d:Ty.den a_} (hd:uF d):ax.f k d=some (oS (lm d)):=by
 have hl:=hd.l
 have hu:=hd.u
 have hn:=hd.n
 unfold ax.f ax.t lm
 rw [lB hk (by omega) (by omega),aT,kR k hd]
 cases c:iB d with
 | false=>rfl
 | true =>
  have h:=hZ.1 c
  simp only [fb,aK,aT]
  cases cdn:d.2.2.2.1 with
  | true=>rfl
  | false =>
   simp only [aK]
   rw [show (⟨#[108,105,118,101]⟩:ByteArray)=jM from rfl,gI hk (by omega) (by omega) (by omega),aT]
   simp only []
   cases (ao d jM).2 with
   | false =>
    simp only [tD,aX]
    rw [Ag hk h]
    rfl
   | true =>
    have hz:=gX d jM
    simp only [fb,aK]
    rw [ux hk (by omega),aT]
    simp only []
    rcases m6 (fun v=>cP v=true) bw ((0,([],())):Ty.den bj) (ao d jM).1 with ⟨v,h1,_,e⟩ | e
    · rw [show lK (ao d jM).1=(v,true) from e]
      simp only [fb,aK]
      obtain ⟨_,_,hv1,hv2,_⟩:=ck (nx:=v.1) (ids:=v.2.1) h1
      have w:aH ((v.2.1.length:Int)-1)=((v.2.1.length-1:Nat):Int):=by rw [aE (by omega) (by omega)];omega
      rw [w,ni,aG (by omega) (by omega)]
      have:=K4 hk h1 h
      rw [cdn] at this
      exact this
    · rw [show lK (ao d jM).1=((0,([],())),false) from e]
      rfl
end Go.Proofs.YtdbekilnpjmeaaaGreatDoor.G
namespace Go.Proofs.YtdbekilnpjmeaaaGreatDoor.G
open Go.V
theorem Fp (v:Ty.den bj) (en:Int) {x:Ty.den a_} (h:DR x) {g:Ty.den kY} (hg:g.1.length≤268435456) (hi:Int):DR (xh v en x g hi).2.1∧(xh v en x g hi).1.2.1.length≤268435456:=by
 have hs:=wb v.2.1 x h
 unfold xh
 cases g.2.2.1 != 0 with
 | true=>exact ⟨h,Nat.zero_le _⟩
 | false =>
  cases (lb v.2.1 x).2 != 0 with
  | true=>exact ⟨hs,Nat.zero_le _⟩
  | false=>exact ⟨hs,hg⟩
theorem FG {x:Ty.den a_} (h:DR x) {ids:List Int} (hl:ids.length≤60):(s6 x ids).1.length≤268435456:=by
 have hpa:=ob h (ids.drop 1)
 have hpb:=ob h ids
 rw [List.length_drop] at hpa
 have hh:=t_ (s:=(ao x (aB dR (ids.getD 0 0))).1)
 unfold s6
 cases ra x (ids.getD 0 0)
 · exact sd (by omega) (by simp)
 · exact sd (by omega) (by show (tn x (ids.getD 0 0)).2.2.1.length≤_;unfold tn;omega)
theorem D2 {d:Ty.den a_} (h:DR d):DR (lm d).2.1∧(lm d).1.2.1.length≤268435456:=by
 unfold lm
 rw [hZ.2 h]
 simp only [fb,aK]
 cases d.2.2.2.1 with
 | true=>exact ⟨h,Nat.zero_le _⟩
 | false =>
  simp only [aK]
  cases (ao d jM).2 with
  | false =>
   simp only [tD,aX]
   have hf:DR (lV d).1:=kM (kM (wb [] d h) fun x hx=>zL hx _) (l_ xx)
   unfold ma
   cases (lV d).2==0 with
   | true=>exact ⟨hf,Nat.zero_le _⟩
   | false=>exact ⟨hf,Nat.zero_le _⟩
  | true =>
   simp only [fb,aK]
   rcases m6 (fun v=>cP v=true) bw ((0,([],())):Ty.den bj) (ao d jM).1 with ⟨v,h1,_,e⟩ | e
   · rw [show lK (ao d jM).1=(v,true) from e]
     obtain ⟨_,_,hv1,hv2,_⟩:=ck (nx:=v.1) (ids:=v.2.1) h1
     simp only [fb,aK]
     have fx:=Jt (c8 v.2.1) h
     unfold AG
     cases na d v.2.1 with
     | false=>exact ⟨h,Nat.zero_le _⟩
     | true =>
      simp only [fb,aK]
      cases (nn (c8 v.2.1) d).2 != 0 with
      | true=>exact ⟨fx,Nat.zero_le _⟩
      | false=>exact Fp v _ fx (FG fx hv2) _
   · rw [show lK (ao d jM).1=((0,([],())),false) from e]
     exact ⟨h,Nat.zero_le _⟩
end Go.Proofs.YtdbekilnpjmeaaaGreatDoor.G
namespace Go.Proofs.YtdbekilnpjmeaaaGreatDoor.G
open Go.V
theorem Bj (k:Nat) {n:Int} (h0:0≤n) (h1:n≤100000):fE.f k n=some (([],(n,(-1,(false,())))),()):=by
 unfold fE.f fE.t
 rw [g_,aT,aM ⟨h0,h1⟩]
 rfl
def mX (n:Int):Ty.den a_:=([],(n,(-1,(false,()))))
theorem vQ {n:Int} (h0:0≤n) (h1:n≤100000):DR (mX n) :=
 ⟨Nat.zero_le _,h0,h1,show LE.le (α:=Int) (-1) (-1) from Int.le_refl _,show LE.le (α:=Int) (-1) 100000 by decide,h0,fun f hf=>(by cases hf),List.Pairwise.nil⟩
theorem D4 {st:Ty.den aC} {d:Ty.den a_} {l:gP} (h:SR st (d,0) 100000) (hp:gV l=true) (hd:st.2.1.length≤20) :
 DR (br st d l).2.1∧(br st d l).1.1.2.1.length≤60∧(br st d l).1.2.1.length≤268435456:=by
 have h8:=jV hp
 obtain ⟨g1,g2,g3⟩:=ly (eZ l st.2.2.1) (lN st) d [] 100000 ⟨h.live,h.disk,h.lo,h.hi⟩ (by decide)
 unfold br
 generalize d_ (eZ l st.2.2.1) (lN st) d []=q at g1 g2 g3 ⊢
 have e2:q.1.1.2.1=st.2.1:=g2
 obtain ⟨_,_,_,hi,_⟩:=ck (nx:=q.1.1.1.1) (ids:=q.1.1.1.2.1) g1.live
 have hs:=lf g1.disk (bL q.1.1)
 unfold nl
 cases q.1.2.2 != 0 with
 | true=>exact ⟨g1.disk,hi,by show q.1.1.2.1.length≤_;rw [e2];omega⟩
 | false =>
  simp only [aK]
  generalize eA q.1.2.1 (bL q.1.1)=y at hs ⊢
  cases y.2 != 0 with
  | true=>exact ⟨hs,hi,by show q.1.1.2.1.length≤_;rw [e2];omega⟩
  | false =>
   refine ⟨hs,hi,?_⟩
   show (dC q.1.1.2.1 (q.2.take l.length)).length≤_
   have:=pb (q.2.take l.length) q.1.1.2.1
   rw [e2] at this ⊢
   rw [List.length_take] at this
   omega
structure RR (q:Ty.den aC × RD):Prop where
 disk:DR q.2.1
 ids:q.1.1.2.1.length≤60
 dir:q.1.2.1.length≤268435456
theorem GE {n:Int} (h0:0≤n) (h1:n≤100000):RR (lm (mX n)):=by
 have hd:=vQ h0 h1
 obtain ⟨g1,g2⟩:=D2 hd
 refine ⟨g1,?_,g2⟩
 unfold lm
 have e:(ao (mX n) jM).2=false:=by unfold ao;rw [hZ.2 hd];rfl
 rw [hZ.2 hd,e]
 show (ma (mX n)).1.1.2.1.length≤60
 unfold ma
 cases (lV (mX n)).2==0
 · exact Nat.zero_le _
 · show 1≤60
   decide
end Go.Proofs.YtdbekilnpjmeaaaGreatDoor.G
namespace Go.Proofs.YtdbekilnpjmeaaaGreatDoor.G
open Go.V
def nJ:bG→Int
 | []=>0
 | p::l=>p.2.2.1+nJ l
def ul (l:aR):Prop:=∀ e ∈ l,LE.le (α:=Int) 0 e.2.2.2.1
def DB (l:bG):Prop:=∀ p ∈ l,LE.le (α:=Int) 0 p.2.2.1
theorem n9 (e:Ty.den aA) (l:aR):hF (e::l)=e.2.2.2.1+hF l:=rfl
theorem xQ:∀ l m:aR,hF (l++m)=hF l+hF m
 | [],m=>by rw [List.nil_append,hF,Int.zero_add]
 | e::l,m=>by rw [List.cons_append,n9,n9,xQ l m,Int.add_assoc]
theorem nc (p:Ty.den aL) (l:bG):nJ (p::l)=p.2.2.1+nJ l:=rfl
theorem tZ:∀ l m:bG,nJ (l++m)=nJ l+nJ m
 | [],m=>by rw [List.nil_append,nJ,Int.zero_add]
 | p::l,m=>by rw [List.cons_append,nc,nc,tZ l m,Int.add_assoc]
theorem u9:∀ {l:bG},DB l→0≤nJ l
 | [],_=>Int.le_refl _
 | p::l,h=>by
  have h1:=h p oX
  have h2:=u9 (l:=l) fun q hq=>h q (qS _ hq)
  rw [nc]
  omega
theorem DC {l:bG} (h:DB l) (n:Nat):nJ (l.take n)≤nJ l:=by
 have e:=tZ (l.take n) (l.drop n)
 rw [List.take_append_drop] at e
 have:=u9 (l:=l.drop n) fun q hq=>h q (List.mem_of_mem_drop hq)
 omega
theorem ta (key:ByteArray):∀ {l:aR},ul l→hF (gB l key)≤hF l∧ul (gB l key)
 | [],h=>⟨Int.le_refl _,h⟩
 | e::l,h=>by
  have h1:=h e oX
  obtain ⟨i1,i2⟩:=ta key (l:=l) fun q hq=>h q (qS _ hq)
  unfold gB at i1 i2 ⊢
  rw [List.filter_cons]
  cases !(seq e.1 key) with
  | true =>
   rw [if_pos rfl,n9,n9]
   refine ⟨by omega,fun q hq=>?_⟩
   rcases List.mem_cons.1 hq with w | w
   · rw [w];exact h1
   · exact i2 q w
  | false =>
   rw [if_neg (by decide),n9]
   exact ⟨by omega,i2⟩
theorem HR (l:aR) (e:Ty.den aA):hF (mo l e)=hF l+e.2.2.2.1:=by
 unfold mo
 have h:=congrArg hF (List.takeWhile_append_dropWhile (p:=Cx e.1) (l:=l))
 rw [xQ] at h
 rw [xQ,n9]
 omega
theorem ED {l:aR} {e x:Ty.den aA} (h:x ∈ mo l e):x=e∨x ∈ l:=by
 unfold mo at h
 rcases List.mem_append.1 h with w | w
 · exact .inr (List.takeWhile_subset _ w)
 · rcases List.mem_cons.1 w with w | w
   · exact .inl w
   · exact .inr (List.dropWhile_subset _ w)
theorem FH {d:aR} {p:Ty.den aL} (h:ul d) (hp:LE.le (α:=Int) 0 p.2.2.1):hF (fK d p)≤hF d+p.2.2.1∧ul (fK d p):=by
 unfold fK
 cases p.2.2.2.1.1==2 with
 | true =>
  obtain ⟨i1,i2⟩:=ta p.2.2.2.1.2.2.1 h
  exact ⟨by simp only [aX];omega,i2⟩
 | false =>
  obtain ⟨i1,i2⟩:=ta (cr p).1 h
  simp only [aK]
  unfold rK
  rw [HR]
  refine ⟨?_,fun q hq=>?_⟩
  · exact Int.add_le_add_right i1 _
  · rcases ED hq with w | w
    · rw [w];exact hp
    · exact i2 q w
theorem xL:∀ (ps:bG) (d:aR),ul d→DB ps→hF (dC d ps)≤hF d+nJ ps∧ul (dC d ps)
 | [],d,h,_=>⟨by show hF d≤hF d+0;omega,h⟩
 | p::ps,d,h,hp=>by
  obtain ⟨i1,i2⟩:=FH h (hp p oX)
  obtain ⟨j1,j2⟩:=xL ps (fK d p) i2 fun q hq=>hp q (qS _ hq)
  rw [nc]
  refine ⟨?_,j2⟩
  show hF (dC (fK d p) ps)≤_
  omega
theorem Az:∀ (l:jo) (st:Ty.den aC) (d:Ty.den a_) (ps:bG) (B:Int),SR st (d,0) B→0≤B→DB ps →
 (fF d st.1.2.1:Int)+nJ (d_ l st d ps).2≤(fF (d_ l st d ps).1.2.1 (d_ l st d ps).1.1.1.2.1:Int)+nJ ps∧DB (d_ l st d ps).2
 | [],st,d,ps,B,h,_,hp=>⟨Int.le_refl _,hp⟩
 | r::l,st,d,ps,B,h,hB,hp=>by
  obtain ⟨g1,g2,g3⟩:=mC h hB r
  obtain ⟨s1,s2⟩:=Hx (d:=d) h.live h.disk r
  have hr:=jA r
  unfold d_
  generalize df st d r=q at g1 g2 g3 s1 s2 ⊢
  cases c:q.1.2.2 != 0 with
  | true =>
   simp only [aX]
   have:(0:Int)≤(if q.1.2.2=0 then aY r else 0):=by split <;> omega
   exact ⟨by omega,hp⟩
  | false =>
   have e0:=fa c
   rw [if_pos e0] at s1
   have e1:=s2 e0
   have hp':DB (ps++[q.2]):=fun x hx=>by
    rcases List.mem_append.1 hx with w | w
    · exact hp x w
    · rw [List.mem_singleton.1 w]
      show LE.le (α:=Int) 0 q.2.2.2.1
      rw [e1]
      exact hr.1
   obtain ⟨i1,i2⟩:=Az l q.1.1 q.1.2.1 (ps++[q.2]) (B+211) ⟨g1.live,g1.disk,g1.lo,g1.hi⟩ (by omega) hp'
   simp only [aK]
   refine ⟨?_,i2⟩
   rw [tZ] at i1
   have e2:nJ [q.2]=aY r:=by rw [nc,e1];show aY r+0=_;omega
   omega
structure IV (q:Ty.den aC × RD):Prop where
 disk:DR q.2.1
 ids:q.1.1.2.1.length≤60
 dir:q.1.2.1.length≤268435456
 non:ul q.1.2.1
 sum:hF q.1.2.1≤(fF q.2.1 q.1.1.2.1:Int)
theorem HU {st:Ty.den aC} {d:Ty.den a_} {l:gP} {c:Int} (h:IV (st,(d,c))) (hs:SR st (d,0) 100000) (hp:gV l=true) (hd:st.2.1.length≤20):IV (br st d l):=by
 obtain ⟨w1,w2,w3⟩:=D4 hs hp hd
 have hb:SR (lN st) (d,0) 100000:=⟨hs.live,hs.disk,hs.lo,hs.hi⟩
 obtain ⟨g1,g2,g3⟩:=ly (eZ l st.2.2.1) (lN st) d [] 100000 hb (by decide)
 obtain ⟨s1,s2⟩:=Az (eZ l st.2.2.1) (lN st) d [] 100000 hb (by decide) (fun x hx=>by cases hx)
 refine ⟨w1,w2,w3,?_,?_⟩
 all_goals
  have hsum:hF st.2.1≤(fF d st.1.2.1:Int):=h.sum
  have hnon:ul st.2.1:=h.non
  unfold br
  generalize d_ (eZ l st.2.2.1) (lN st) d []=q at g1 g2 g3 s1 s2 ⊢
  have e2:q.1.1.2.1=st.2.1:=g2
  have s1:(fF d st.1.2.1:Int)+nJ q.2≤(fF q.1.2.1 q.1.1.1.2.1:Int)+0:=s1
  have s3:=u9 s2
  have s4:=DC s2 l.length
  have st2:DB (q.2.take l.length):=fun x hx=>s2 x (List.mem_of_mem_take hx)
  obtain ⟨a1,a2⟩:=xL (q.2.take l.length) st.2.1 hnon st2
  unfold nl
  cases q.1.2.2 != 0 with
  | true =>
   first
   | (show ul q.1.1.2.1;rw [e2];exact hnon)
   | (show hF q.1.1.2.1≤(fF q.1.2.1 q.1.1.1.2.1:Int);rw [e2];omega)
  | false =>
   have k1:fF (eA q.1.2.1 (bL q.1.1)).1 q.1.1.1.2.1=fF q.1.2.1 q.1.1.1.2.1:=iI fun x hx=>kA
   simp only [aK]
   generalize eA q.1.2.1 (bL q.1.1)=y at k1 ⊢
   cases y.2 != 0 with
   | true =>
    first
    | (show ul q.1.1.2.1;rw [e2];exact hnon)
    | (show hF q.1.1.2.1≤(fF y.1 q.1.1.1.2.1:Int);rw [e2,k1];omega)
   | false =>
    first
    | (show ul (dC q.1.1.2.1 (q.2.take l.length));rw [e2];exact a2)
    | (show hF (dC q.1.1.2.1 (q.2.take l.length))≤(fF y.1 q.1.1.1.2.1:Int);rw [e2,k1];omega)
theorem FK {st:Ty.den aC} {d:Ty.den a_} {c:Int} (l:gP) (h:IV (st,(d,c))):IV (cB st d l):=by
 have same:∀ z:Int,IV (st,(d,z)):=fun z=>⟨h.disk,h.ids,h.dir,h.non,h.sum⟩
 unfold cB
 cases c1:dP st d with
 | false=>exact same _
 | true =>
  simp only [fb,aK]
  cases c2:gV l with
  | false=>exact same _
  | true =>
   simp only [fb,aK]
   cases (l.length:Int)==0 with
   | true=>exact same _
   | false =>
    cases decide (k_ st.2.1 l > 20) with
    | true=>exact same _
    | false =>
     cases decide (st.2.2.1 > (1000000:Int)) with
     | true=>exact same _
     | false=>exact HU h (dF c1).1 c2 (dF c1).2.1
theorem Hm {n:Int} (h0:0≤n) (h1:n≤100000):IV (lm (mX n)):=by
 have hr:=GE h0 h1
 have hd:=vQ h0 h1
 have e:lm (mX n)=ma (mX n):=by
  unfold lm
  have e:(ao (mX n) jM).2=false:=by unfold ao;rw [hZ.2 hd];rfl
  rw [hZ.2 hd,e]
  rfl
 refine ⟨hr.disk,hr.ids,hr.dir,?_,?_⟩
 · rw [e]
   unfold ma
   cases (lV (mX n)).2==0 <;> exact fun x hx=>by cases hx
 · rw [e]
   unfold ma
   cases (lV (mX n)).2==0
   · exact Int.le_refl _
   · exact Int.ofNat_le.2 (Nat.zero_le _)
end Go.Proofs.YtdbekilnpjmeaaaGreatDoor.G
namespace Go.Proofs.YtdbekilnpjmeaaaGreatDoor.G
open Go.V
def EX (n:Int) (d d':Ty.den a_):Prop:=∀ x:Int,1≤x→x<n→x≤100000→∀ t,fT d (aB aI x)=some t→∃ u,fT d' (aB aI x)=some (t++u)
theorem GH (t:ByteArray):t++(⟨#[]⟩:ByteArray)=t:=CK t
theorem pD {n:Int} {d d':Ty.den a_} (h:∀ x:Int,1≤x→x<n→x≤100000→fT d' (aB aI x)=fT d (aB aI x)):EX n d d':=fun x h0 h1 h2 t e=>⟨⟨#[]⟩,by rw [h x h0 h1 h2,e,GH]⟩
theorem AM (n:Int) (d:Ty.den a_):EX n d d:=pD fun _ _ _ _=>rfl
theorem sH {n:Int} {d d' d'':Ty.den a_} (h:EX n d d') (g:EX n d' d''):EX n d d'':=fun x h0 h1 h2 t e=>by
 obtain ⟨u,hu⟩:=h x h0 h1 h2 t e
 obtain ⟨v,hv⟩:=g x h0 h1 h2 _ hu
 exact ⟨u++v,by rw [hv,vu]⟩
theorem Hn {n m:Int} {d d':Ty.den a_} (h:EX m d d') (q:n≤m):EX n d d':=fun x h0 h1 h2 t e=>h x h0 (by omega) h2 t e
theorem Jm (n:Int) (d:Ty.den a_) (s x:ByteArray):EX n d (fq d s x).1:=fun y h0 h1 h2 t e=>by
 by_cases q:s=aB aI y
 · subst q
   have:=qp (d:=d) (s:=aB aI y) (x:=x)
   rw [e] at this
   cases c:(fq d (aB aI y) x).2==0 with
   | true=>rw [c] at this;exact ⟨x,this⟩
   | false=>rw [c] at this;exact ⟨⟨#[]⟩,by rw [this,GH];rfl⟩
 · exact ⟨⟨#[]⟩,by rw [pR q,e,GH]⟩
theorem Gi (n:Int) (d:Ty.den a_) (s:ByteArray):EX n d (eA d s).1:=pD fun x _ _ _=>kA
theorem IJ {st:Ty.den aC} {d:Ty.den a_} (hl:cP st.1=true) :
 EX st.1.1 d (gj st d).2.1∧LE.le (α:=Int) st.1.1 (gj st d).1.1.1∧(gj st d).1.2.2.1=st.2.2.1:=by
 obtain ⟨n1,n2,n3,_⟩:=gm (n:=st.1.1) (ids:=st.1.2.1) hl
 have hnew:∀ x:Int,1≤x→x<st.1.1→x≤100000→aB aI st.1.1≠aB aI x:=fun x h0 h1 h2=>jB ⟨n1,n2⟩ ⟨h0,h2⟩ (by omega)
 have k1:∀ x:Int,1≤x→x<st.1.1→x≤100000→fT (eA d (bL st)).1 (aB aI x)=fT d (aB aI x):=fun x _ _ _=>kA
 have k2:∀ x:Int,1≤x→x<st.1.1→x≤100000→fT (b7 (aB aI st.1.1) (eA d (bL st)).1).1 (aB aI x)=fT d (aB aI x):=fun x h0 h1 h2=>(ja (hnew x h0 h1 h2)).trans (k1 x h0 h1 h2)
 have k3:∀ x:Int,1≤x→x<st.1.1→x≤100000→fT (az (ie st) (b7 (aB aI st.1.1) (eA d (bL st)).1).1).1 (aB aI x)=fT d (aB aI x):=fun x h0 h1 h2=>(gZ (fw ⟨h0,h2⟩) (ia ⟨h0,h2⟩)).trans (k2 x h0 h1 h2)
 unfold gj
 cases decide ((st.1.2.1.length:Int)≥60) with
 | true=>exact ⟨AM _ _,Int.le_refl _,rfl⟩
 | false =>
  cases decide (st.1.1≥(100000:Int)) with
  | true=>exact ⟨AM _ _,Int.le_refl _,rfl⟩
  | false =>
   have up:LE.le (α:=Int) st.1.1 (st.1.1+1):=by omega
   simp only [aK]
   generalize eA d (bL st)=r1 at k1 k2 k3 ⊢
   generalize b7 (aB aI st.1.1) r1.1=r2 at k2 k3 ⊢
   generalize az (ie st) r2.1=r3 at k3 ⊢
   cases r1.2 != 0 with
   | true=>exact ⟨pD k1,Int.le_refl _,rfl⟩
   | false =>
    cases r2.2 != 0 with
    | true=>exact ⟨pD k2,up,rfl⟩
    | false =>
     cases r3.2 != 0 with
     | true =>
      refine ⟨?_,up,rfl⟩
      simp only [aX,aK]
      unfold oN
      cases (tl r3).2==2 with
      | false=>exact pD k3
      | true =>
       refine pD fun x h0 h1 h2=>?_
       refine (mL [fA,aB aI st.1.1] r3.1 fun s hs=>?_).trans (k3 x h0 h1 h2)
       rcases List.mem_cons.1 hs with e | e
       · rw [e];exact fw ⟨h0,h2⟩
       · rw [List.mem_singleton.1 e];exact hnew x h0 h1 h2
     | false=>exact ⟨pD k3,up,rfl⟩
theorem vI {st:Ty.den aC} (hl:cP st.1=true):LE.le (α:=Int) 1 (c8 st.1.2.1)∧LT.lt (α:=Int) (c8 st.1.2.1) st.1.1:=by
 obtain ⟨n1,n2,n3,n4⟩:=gm (n:=st.1.1) (ids:=st.1.2.1) hl
 obtain ⟨_,_,g1,_,_⟩:=ck (nx:=st.1.1) (ids:=st.1.2.1) hl
 have hs:=pK g1
 have hlast:c8 st.1.2.1 ∈ st.1.2.1:=by rw [hs];exact List.mem_append_right _ (List.mem_singleton.2 (by rw [← hs]))
 exact n3 _ hlast
theorem EQ {st:Ty.den aC} {d:Ty.den a_} (hl:cP st.1=true) (r:Ty.den am) (n:Int) :
 EX n d (gd st d r).1.2.1∧(gd st d r).1.1.1=st.1∧(gd st d r).1.1.2.2.1=st.2.2.1∧((gd st d r).1.2.2=0→LE.le (α:=Int) 1 (gd st d r).2.1∧LT.lt (α:=Int) (gd st d r).2.1 st.1.1):=by
 have hE:=Jm n d (bL st) (aN (aF r))
 unfold gd
 generalize fq d (bL st) (aN (aF r))=a at hE ⊢
 cases c:a.2 != 0 with
 | true =>
  refine ⟨hE,rfl,rfl,fun e=>?_⟩
  have e:(tl a).2=0:=e
  have q:=mh a
  rw [e,c] at q
  cases q
 | false=>exact ⟨hE,rfl,rfl,fun _=>vI hl⟩
theorem E5 {st:Ty.den aC} {d:Ty.den a_} (hl:cP st.1=true) (hd:DR d) (r:Ty.den am) :
 EX st.1.1 d (df st d r).1.2.1∧LE.le (α:=Int) st.1.1 (df st d r).1.1.1.1∧(df st d r).1.1.2.2.1=st.2.2.1∧((df st d r).1.2.2=0→LE.le (α:=Int) 1 (df st d r).2.1∧LT.lt (α:=Int) (df st d r).2.1 (df st d r).1.1.1.1):=by
 unfold df
 cases decide (st.2.2.2.1 > 0)&&decide (st.2.2.2.1+aY r > 200) with
 | false =>
  obtain ⟨s1,s2,s3,s4⟩:=EQ (d:=d) hl r st.1.1
  simp only [aK]
  rw [s2]
  exact ⟨s1,Int.le_refl _,s3,s4⟩
 | true =>
  obtain ⟨g1,g2,g3,g4⟩:=mw hl hd
  obtain ⟨t1,t2,t3⟩:=IJ (d:=d) hl
  simp only [aX]
  generalize gj st d=q at g1 g2 g3 g4 t1 t2 t3 ⊢
  cases c:q.2.2 != 0 with
  | true =>
   refine ⟨t1,t2,t3,fun e=>?_⟩
   have e:q.2.2=0:=e
   rw [e] at c
   cases c
  | false =>
   obtain ⟨s1,s2,s3,s4⟩:=EQ (d:=q.2.1) g1 r st.1.1
   simp only [aK]
   rw [s2]
   exact ⟨sH t1 s1,t2,s3.trans t3,s4⟩
theorem xO:∀ (l:jo) (st:Ty.den aC) (d:Ty.den a_) (ps:bG) (B:Int),SR st (d,0) B→0≤B→(∀ p ∈ ps,LE.le (α:=Int) 1 p.1∧LT.lt (α:=Int) p.1 st.1.1) →
 EX st.1.1 d (d_ l st d ps).1.2.1∧LE.le (α:=Int) st.1.1 (d_ l st d ps).1.1.1.1∧(d_ l st d ps).1.1.2.2.1=st.2.2.1∧∀ p ∈ (d_ l st d ps).2,LE.le (α:=Int) 1 p.1∧LT.lt (α:=Int) p.1 (d_ l st d ps).1.1.1.1
 | [],st,d,ps,B,_,_,hp=>⟨AM _ _,Int.le_refl _,rfl,hp⟩
 | r::l,st,d,ps,B,h,hB,hp=>by
  obtain ⟨g1,g2,g3⟩:=mC h hB r
  obtain ⟨s1,s2,s3,s4⟩:=E5 (d:=d) h.live h.disk r
  unfold d_
  generalize df st d r=q at g1 g2 g3 s1 s2 s3 s4 ⊢
  have up:∀ p ∈ ps,LE.le (α:=Int) 1 p.1∧LT.lt (α:=Int) p.1 q.1.1.1.1:=fun p hq=>⟨(hp p hq).1,Int.lt_of_lt_of_le (hp p hq).2 s2⟩
  cases c:q.1.2.2 != 0 with
  | true=>exact ⟨s1,s2,s3,up⟩
  | false =>
   have e0:=fa c
   obtain ⟨i1,i2,i3,i4⟩:=xO l q.1.1 q.1.2.1 (ps++[q.2]) (B+211) ⟨g1.live,g1.disk,g1.lo,g1.hi⟩ (by omega) fun p hq=>by
    rcases List.mem_append.1 hq with w | w
    · exact up p w
    · rw [List.mem_singleton.1 w]
      exact s4 e0
   simp only [aK]
   exact ⟨sH s1 (Hn i1 s2),Int.le_trans s2 i2,i3.trans s3,i4⟩
theorem pt (k:ByteArray):∀ a b:aR,j8 (a++b) k=match j8 a k with | some e=>some e | none=>j8 b k
 | [],b=>rfl
 | e::a,b=>by
  rw [List.cons_append,j8.eq_2,j8.eq_2]
  cases seq e.1 k with
  | true=>rfl
  | false=>exact pt k a b
theorem tv {key k:ByteArray} (h:k≠key):∀ l:aR,j8 (gB l key) k=j8 l k
 | []=>rfl
 | e::l=>by
  have ih:=tv h l
  unfold gB at ih ⊢
  rw [List.filter_cons,j8.eq_2 k e l]
  cases c:seq e.1 key with
  | false=>rw [tD,if_pos rfl,j8.eq_2,ih]
  | true =>
   rw [fb,if_neg (by decide),ih,kh (fun q=>h (by rw [← q];exact eT.1 c))]
   rfl
theorem pO (key:ByteArray):∀ l:aR,j8 (gB l key) key=none
 | []=>rfl
 | e::l=>by
  have ih:=pO key l
  unfold gB at ih ⊢
  rw [List.filter_cons]
  cases c:seq e.1 key with
  | false=>rw [tD,if_pos rfl,j8.eq_2,c,aK,ih]
  | true=>rw [fb,if_neg (by decide),ih]
theorem GP {l:aR} {e:Ty.den aA} {k:ByteArray} (h:e.1≠k):j8 (mo l e) k=j8 l k:=by
 have q:=pt k (l.takeWhile (Cx e.1)) (l.dropWhile (Cx e.1))
 rw [List.takeWhile_append_dropWhile] at q
 unfold mo
 rw [pt,j8.eq_2,kh h,aK,q]
theorem At {l:aR} {e x:Ty.den aA} (hn:j8 l e.1=none) (h:j8 (mo l e) e.1=some x):x=e:=by
 have q:=pt e.1 (l.takeWhile (Cx e.1)) (l.dropWhile (Cx e.1))
 rw [List.takeWhile_append_dropWhile,hn] at q
 unfold mo at h
 rw [pt,j8.eq_2,c9,aX] at h
 cases c:j8 (l.takeWhile (Cx e.1)) e.1 with
 | some y=>rw [c] at q;cases q
 | none =>
  rw [c] at h
  exact (Option.some.inj h).symm
theorem Gw {d:aR} {p:Ty.den aL} {k:ByteArray} {e:Ty.den aA} (h:j8 (fK d p) k=some e):e=cr p∨j8 d k=some e:=by
 unfold fK at h
 cases c:p.2.2.2.1.1==2 with
 | true =>
  rw [c,aX] at h
  by_cases q:k=p.2.2.2.1.2.2.1
  · rw [q,pO] at h
    cases h
  · rw [tv q] at h
    exact .inr h
 | false =>
  rw [c,aK] at h
  unfold rK at h
  by_cases q:(cr p).1=k
  · rw [← q] at h
    exact .inl (At (pO _ _) h)
  · rw [GP q,tv (fun w=>q w.symm)] at h
    exact .inr h
theorem yf {k:ByteArray} {e:Ty.den aA}:∀ (ps:bG) {d:aR},j8 (dC d ps) k=some e→(∃ p ∈ ps,e=cr p)∨j8 d k=some e
 | [],d,h => .inr h
 | p::ps,d,h=>by
  rcases yf ps (d:=fK d p) h with ⟨q,hq,w⟩ | w
  · exact .inl ⟨q,qS _ hq,w⟩
  · rcases Gw w with w | w
    · exact .inl ⟨p,oX,w⟩
    · exact .inr w
theorem Gk {d:aR} {p:Ty.den aL} {e:Ty.den aA} (h:e ∈ fK d p):(e=cr p∧(p.2.2.2.1.1==2)=false)∨e ∈ d:=by
 unfold fK at h
 cases c:p.2.2.2.1.1==2 with
 | true=>rw [c,aX] at h;exact .inr ((List.mem_filter.1 h).1)
 | false =>
  rw [c,aK] at h
  rcases ED h with w | w
  · exact .inl ⟨w,rfl⟩
  · exact .inr ((List.mem_filter.1 w).1)
theorem mB {e:Ty.den aA}:∀ (ps:bG) {d:aR},e ∈ dC d ps→(∃ p ∈ ps,e=cr p∧(p.2.2.2.1.1==2)=false)∨e ∈ d
 | [],d,h => .inr h
 | p::ps,d,h=>by
  rcases mB ps (d:=fK d p) h with ⟨q,hq,w⟩ | w
  · exact .inl ⟨q,qS _ hq,w⟩
  · rcases Gk w with w | w
    · exact .inl ⟨p,oX,w⟩
    · exact .inr w
theorem DJ {l:gP} {b:Int} {r:Ty.den am} (h:r ∈ eZ l b):r.2.1=b:=by
 unfold eZ at h
 rcases List.mem_append.1 h with w | w
 · obtain ⟨p,_,e⟩:=List.mem_map.1 w
   rw [← e]
   unfold fZ
   cases p.2.1 <;> rfl
 · rw [List.mem_singleton.1 w]
   rfl
theorem FE {st:Ty.den aC} {d:Ty.den a_} {l:gP} (h:SR st (d,0) 100000) :
 EX st.1.1 d (br st d l).2.1∧LE.le (α:=Int) st.1.1 (br st d l).1.1.1∧(br st d l).1.2.2.1=st.2.2.1+1 ∧
 (∀ e ∈ (br st d l).1.2.1,e ∈ st.2.1∨(LE.le (α:=Int) 1 e.2.1∧LT.lt (α:=Int) e.2.1 (br st d l).1.1.1)) ∧
 ∀ k e,j8 (br st d l).1.2.1 k=some e→j8 st.2.1 k=some e∨e.2.2.2.2.1=st.2.2.1:=by
 have hb:SR (lN st) (d,0) 100000:=⟨h.live,h.disk,h.lo,h.hi⟩
 obtain ⟨g1,g2,g3⟩:=ly (eZ l st.2.2.1) (lN st) d [] 100000 hb (by decide)
 obtain ⟨s1,s2,s3,s4⟩:=xO (eZ l st.2.2.1) (lN st) d [] 100000 hb (by decide) (fun x hx=>by cases hx)
 unfold br
 generalize d_ (eZ l st.2.2.1) (lN st) d []=q at g1 g2 g3 s1 s2 s3 s4 ⊢
 have e2:q.1.1.2.1=st.2.1:=g2
 have s1:EX st.1.1 d q.1.2.1:=s1
 have s2:LE.le (α:=Int) st.1.1 q.1.1.1.1:=s2
 have s3:q.1.1.2.2.1=st.2.2.1+1:=s3
 unfold nl
 cases c:q.1.2.2 != 0 with
 | true=>exact ⟨s1,s2,s3,fun e he => .inl (by rw [← e2];exact he),fun k e he => .inl (by rw [← e2];exact he)⟩
 | false =>
  have g3:=g3 (fa c)
  have y0:=sH s1 (Gi st.1.1 q.1.2.1 (bL q.1.1))
  simp only [aK]
  generalize eA q.1.2.1 (bL q.1.1)=y at y0 ⊢
  cases y.2 != 0 with
  | true=>exact ⟨y0,s2,s3,fun e he => .inl (by rw [← e2];exact he),fun k e he => .inl (by rw [← e2];exact he)⟩
  | false =>
   refine ⟨y0,s2,s3,fun e he=>?_,fun k e he=>?_⟩
   · have he:e ∈ dC q.1.1.2.1 (q.2.take l.length):=he
     rw [e2] at he
     rcases mB _ he with ⟨p,hp,w,_⟩ | w
     · rw [w]
       exact .inr (s4 p (List.mem_of_mem_take hp))
     · exact .inl w
   · have he:j8 (dC q.1.1.2.1 (q.2.take l.length)) k=some e:=he
     rw [e2] at he
     rcases yf _ he with ⟨p,hp,w⟩ | w
     · refine .inr ?_
       have hm:iy p ∈ eZ l st.2.2.1:=by
        have:iy p ∈ q.2.map iy:=List.mem_map.2 ⟨p,List.mem_of_mem_take hp,rfl⟩
        rw [g3] at this
        simpa using this
       rw [w]
       exact DJ hm
     · exact .inl w
theorem DH (st:Ty.den aC) (d:Ty.den a_) (l:gP):((cB st d l).1=st∧(cB st d l).2.1=d) ∨
 (dP st d=true∧EX st.1.1 d (cB st d l).2.1∧LE.le (α:=Int) st.1.1 (cB st d l).1.1.1∧(cB st d l).1.2.2.1=st.2.2.1+1 ∧
 (∀ e ∈ (cB st d l).1.2.1,e ∈ st.2.1∨(LE.le (α:=Int) 1 e.2.1∧LT.lt (α:=Int) e.2.1 (cB st d l).1.1.1)) ∧
 ∀ k e,j8 (cB st d l).1.2.1 k=some e→j8 st.2.1 k=some e∨e.2.2.2.2.1=st.2.2.1):=by
 unfold cB
 cases c1:dP st d with
 | false=>exact .inl ⟨rfl,rfl⟩
 | true =>
  simp only [fb,aK]
  cases c2:gV l with
  | false=>exact .inl ⟨rfl,rfl⟩
  | true =>
   simp only [fb,aK]
   cases (l.length:Int)==0 with
   | true=>exact .inl ⟨rfl,rfl⟩
   | false =>
    cases decide (k_ st.2.1 l > 20) with
    | true=>exact .inl ⟨rfl,rfl⟩
    | false =>
     cases decide (st.2.2.1 > (1000000:Int)) with
     | true=>exact .inl ⟨rfl,rfl⟩
     | false=>exact .inr ⟨by trivial,FE (dF c1).1⟩
end Go.Proofs.YtdbekilnpjmeaaaGreatDoor.G
namespace Go.Proofs.YtdbekilnpjmeaaaGreatDoor.G
open Go.V
def vR (l:fo) (mark:Int):Int:=((dG (qN l mark)).size:Int)
theorem uR (r:Ty.den am) (l:jo):(dG (r::l)).size=(aN (aF r)).size+(dG l).size:=by rw [dG,ByteArray.size_append]
end Go.Proofs.YtdbekilnpjmeaaaGreatDoor.G
namespace Go.Proofs.YtdbekilnpjmeaaaGreatDoor.G
open Go.V
def xT (nm:ByteArray):jo→RD→RD
 | [],r=>r
 | x::l,r=>xT nm l (gR r fun y=>fq y nm (aN (aF x)))
def gq (m:Int) (l:fo) (mark:Int) (d:Ty.den a_):RD:=gR (xT (aB aI m) (qN l mark) (b7 (aB aI m) d)) fun y=>eA y (aB aI m)
def nd (m:Int):fo→Int→aR
 | [],_=>[]
 | p::l,at_=>(p.1,(m,(at_,(aY (e_ p),(p.2.2.1,())))))::nd m l (at_+aY (e_ p))
def mf (ns:List ByteArray) (r:RD):RD:=bif r.2==2 then ((ba ns r.1).1,bif (ba ns r.1).2==0 then 2 else fM (ba ns r.1).2) else r
def jj (m:Int):List ByteArray:=[fA,aB aI m,aB aI (m+1),aB dR m]
def uy:List Int→Ty.den a_→RD
 | [],d=>(d,0)
 | x::l,d=>gR (ba [aB aI x,aB dR x] d) (uy l)
def uK (st:Ty.den aC):Ty.den aC:=((st.1.1+2,st.1.2),st.2)
def jl (m:Int):Ty.den bj:=(m+2,([m,m+1],()))
def nD (hb:ByteArray→ByteArray) (m:Int) (d:Ty.den a_):RD :=
 bif (lJ (aB dR m) (hb (ao d (aB aI m)).1) d).2==2 then ba [aB dR m] (lJ (aB dR m) (hb (ao d (aB aI m)).1) d).1 else lJ (aB dR m) (hb (ao d (aB aI m)).1) d
def i8 (hb:ByteArray→ByteArray) (st:Ty.den aC) (d:Ty.den a_) (l:fo):Ty.den aC × RD :=
 bif (gq st.1.1 l (st.2.2.1-1) d).2 != 0 then (uK st,mf (jj st.1.1) (tl (gq st.1.1 l (st.2.2.1-1) d))) else
 bif (b7 (aB aI (st.1.1+1)) (gq st.1.1 l (st.2.2.1-1) d).1).2 != 0 then (uK st,mf (jj st.1.1) (tl (b7 (aB aI (st.1.1+1)) (gq st.1.1 l (st.2.2.1-1) d).1))) else
 bif (nD hb st.1.1 (b7 (aB aI (st.1.1+1)) (gq st.1.1 l (st.2.2.1-1) d).1).1).2 != 0 then (uK st,tl (nD hb st.1.1 (b7 (aB aI (st.1.1+1)) (gq st.1.1 l (st.2.2.1-1) d).1).1)) else
 bif (az (jl st.1.1) (nD hb st.1.1 (b7 (aB aI (st.1.1+1)) (gq st.1.1 l (st.2.2.1-1) d).1).1).1).2 != 0 then
  (uK st,mf (jj st.1.1) (tl (az (jl st.1.1) (nD hb st.1.1 (b7 (aB aI (st.1.1+1)) (gq st.1.1 l (st.2.2.1-1) d).1).1).1))) else
 ((jl st.1.1,(nd st.1.1 l 0,(st.2.2.1,(0,(0,()))))),tl (uy st.1.2.1 (az (jl st.1.1) (nD hb st.1.1 (b7 (aB aI (st.1.1+1)) (gq st.1.1 l (st.2.2.1-1) d).1).1).1).1))
theorem ow {s:ByteArray} {d:Ty.den a_} (h:(b7 s d).2=0):fT (b7 s d).1 s=some ByteArray.empty:=by
 unfold b7 at h ⊢
 unfold gR at h ⊢
 cases c:(jk s d).2==0 with
 | false =>
  rw [c,aK] at h
  rw [h] at c
  cases c
 | true =>
  rw [c,aX] at h
  rw [aX]
  obtain ⟨c1,c2⟩:=qr (d:=(jk s d).1) (g:=wH s) h
  unfold fT
  show (bi (iD (jk s d).1 (wH s)).1.1 s).map _=_
  rw [c2]
  unfold wH at c1 ⊢
  cases c3:jZ s with
  | false=>rw [c3] at c1;cases c1
  | true =>
   rw [c3] at c1
   simp only [fb,aK] at c1 ⊢
   cases c4:(bi (jk s d).1.1 s) with
   | some f=>rw [c4] at c1;cases c1
   | none =>
    rw [c4] at c1
    simp only [Option.isSome_none,aK] at c1 ⊢
    cases c5:decide (((jk s d).1.1.length:Int)≥130) with
    | true=>rw [c5] at c1;cases c1
    | false =>
     simp only [aK]
     rw [AR (f:=(s,(ByteArray.empty,(0,())))) c4,c9]
     rfl
theorem sE (nm:ByteArray):∀ (l:jo) (r:RD),r.2≠0→xT nm l r=r
 | [],_,_=>rfl
 | x::l,r,h=>by
  unfold xT
  have e:gR r (fun y=>fq y nm (aN (aF x)))=r:=by
   unfold gR
   rw [mm h]
   rfl
  rw [e]
  exact sE nm l r h
theorem HD (nm:ByteArray):∀ (l:jo) (r:RD) (x:ByteArray),fT r.1 nm=some x→(xT nm l r).2=0→fT (xT nm l r).1 nm=some (x++dG l)
 | [],r,x,h,_=>by
  show fT r.1 nm=some (x++⟨#[]⟩)
  rw [h,show x++(⟨#[]⟩:ByteArray)=x from CK x]
 | a::l,r,x,h,z=>by
  unfold xT at z ⊢
  by_cases c:(gR r (fun y=>fq y nm (aN (aF a)))).2=0
  · obtain ⟨c1,c2,c3⟩:=kH c
    have c3:(fq r.1 nm (aN (aF a))).2=0:=c3
    have e:fT (gR r (fun y=>fq y nm (aN (aF a)))).1 nm=some (x++aN (aF a)):=by
     rw [c2]
     have:=qp (d:=r.1) (s:=nm) (x:=aN (aF a))
     rw [c3,h] at this
     exact this
    rw [HD nm l _ _ e z]
    show some (x++aN (aF a)++dG l)=some (x++(aN (aF a)++dG l))
    rw [vu]
  · rw [sE nm l _ c] at z
    exact absurd z c
theorem J0 {nm t:ByteArray} (h:nm≠t):∀ (l:jo) (r:RD),fT (xT nm l r).1 t=fT r.1 t
 | [],_=>rfl
 | a::l,r=>by
  show fT (xT nm l (gR r fun y=>fq y nm (aN (aF a)))).1 t=_
  rw [J0 h l]
  exact mH rfl fun y=>pR h
theorem BJ {m:Int} {l:fo} {mark:Int} {d:Ty.den a_} {t:ByteArray} (h:aB aI m≠t):fT (gq m l mark d).1 t=fT d t :=
 mH ((J0 h _ _).trans (ja h)) fun y=>kA
theorem vE {hb:ByteArray→ByteArray} {m:Int} {d:Ty.den a_} {t:ByteArray} (h:aB dR m≠t):fT (nD hb m d).1 t=fT d t:=by
 unfold nD
 cases (lJ (aB dR m) (hb (ao d (aB aI m)).1) d).2==2 with
 | false=>exact AD h
 | true =>
  refine (mL _ _ fun s hs=>?_).trans (AD h)
  rw [List.mem_singleton.1 hs]
  exact h
theorem xI {t:ByteArray}:∀ (l:List Int) (d:Ty.den a_),(∀ x ∈ l,aB aI x≠t∧aB dR x≠t)→fT (uy l d).1 t=fT d t
 | [],_,_=>rfl
 | x::l,d,h=>by
  show fT (gR (ba [aB aI x,aB dR x] d) (uy l)).1 t=_
  refine mH (mL _ _ fun s hs=>?_) fun y=>xI l y fun z hz=>h z (qS _ hz)
  have:=h x oX
  rcases List.mem_cons.1 hs with e | e
  · rw [e];exact this.1
  · rw [List.mem_singleton.1 e];exact this.2
theorem yw (m:Int):∀ (l:fo) (a:Int),hF (nd m l a)=((dG (l.map e_)).size:Int)∧ul (nd m l a)
 | [],_=>⟨rfl,fun x hx=>by cases hx⟩
 | p::l,a=>by
  obtain ⟨i1,i2⟩:=yw m l (a+aY (e_ p))
  have hr:=jA (e_ p)
  refine ⟨?_,fun x hx=>?_⟩
  · show aY (e_ p)+hF (nd m l (a+aY (e_ p)))=_
    rw [i1,List.map_cons,uR]
    unfold aY
    omega
  · rcases List.mem_cons.1 hx with e | e
    · rw [e];exact hr.1
    · exact i2 x e
end Go.Proofs.YtdbekilnpjmeaaaGreatDoor.G

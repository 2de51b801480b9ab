/- V: plain laws for printed functions: rounds enough, texts, rows that are copied, weighed and compared. -/
import Derived.Test.YtohaanhjddohmaaGreatDoorVWords
import Derived.Laws.Strings
namespace Go.V
def Ev {α:Type} (g:Nat→Option α) (r:α):Prop:=∃ K,∀ k,K≤k→g k=some r
def o8 {α:Type} (g:Nat→Nat→Option α) (r:α):Prop:=∃ K,∀ k n,K≤k→K≤n→g k n=some r
section
variable {α β:Type}
theorem Ev.of {g:Nat→Option α} {r:α} (h:∀ k,g k=some r):Ev g r:=⟨0,fun k _=>h k⟩
theorem Ev.bind {g:Nat→Option α} {r:α} {h:Nat→α→Option β} {s:β} (h1:Ev g r) (h2:Ev (fun k=>h k r) s):Ev (fun k=>(g k).bind (h k)) s:=by
 obtain ⟨a,ha⟩:=h1
 obtain ⟨b,hb⟩:=h2
 exact ⟨max a b,fun k hk=>by show (g k).bind (h k)=_;rw [ha k (by omega),Option.bind_some];exact hb k (by omega)⟩
theorem Ev.eq {g g':Nat→Option α} {r:α} (h:Ev g r) (e:∀ k,g' k=g k):Ev g' r:=by
 obtain ⟨a,ha⟩:=h
 exact ⟨a,fun k hk=>(e k).trans (ha k hk)⟩
theorem Ev.some {g:Nat→Option α} {r:α} (h:Ev g r):∃ k,g k=some r:=by
 obtain ⟨a,ha⟩:=h
 exact ⟨a,ha a (Nat.le_refl _)⟩
theorem o8.of {g:Nat→Nat→Option α} {r:α} (h:∀ k n,g k n=some r):o8 g r:=⟨0,fun k n _ _=>h k n⟩
theorem o8.eq {g g':Nat→Nat→Option α} {r:α} (h:o8 g r) (e:∀ k n,g' k n=g k n):o8 g' r:=by
 obtain ⟨a,ha⟩:=h
 exact ⟨a,fun k n hk hn=>(e k n).trans (ha k n hk hn)⟩
theorem o8.bind {g:Nat→Option α} {r:α} {h:Nat→Nat→α→Option β} {s:β} (h1:Ev g r) (h2:o8 (fun k n=>h k n r) s):o8 (fun k n=>(g k).bind (h k n)) s:=by
 obtain ⟨a,ha⟩:=h1
 obtain ⟨b,hb⟩:=h2
 exact ⟨max a b,fun k n hk hn=>by show (g k).bind (h k n)=_;rw [ha k (by omega),Option.bind_some];exact hb k n (by omega) (by omega)⟩
theorem o8.step {l b:Nat→Nat→Option α} {r:α} (e:∀ k n,l k (n+1)=b k n) (h:o8 b r):o8 l r:=by
 obtain ⟨a,ha⟩:=h
 refine ⟨a+1,fun k n hk hn=>?_⟩
 obtain ⟨m,rfl⟩:∃ m,n=m+1:=⟨n-1,by omega⟩
 rw [e]
 exact ha k m (by omega) (by omega)
theorem o8.diag {g:Nat→Nat→Option α} {r:α} (h:o8 g r):Ev (fun k=>g k k) r:=by
 obtain ⟨a,ha⟩:=h
 exact ⟨a,fun k hk=>ha k k hk hk⟩
end
theorem dS {a b:ByteArray}:seq a b=true↔a=b:=by
 unfold seq
 rw [beq_iff_eq,ByteArray.toList_eq,ByteArray.toList_eq]
 constructor
 · intro h;cases a;cases b;simp at h;rw [h]
 · rintro rfl;rfl
theorem cY (a:ByteArray):seq a a=true:=dS.2 rfl
theorem wN:∀ a b:List UInt8,(Op.bytesLess a b||a==b)=!(Op.bytesLess b a)
 | [],[]=>rfl
 | [],_::_=>by simp [Op.bytesLess]
 | _::_,[]=>by simp [Op.bytesLess]
 | a::x,b::y=>by
  simp only [Op.bytesLess]
  have ih:=wN x y
  rcases Nat.lt_trichotomy a.toNat b.toNat with h | h | h
  · have h1:a<b:=by simpa [UInt8.lt_iff_toNat_lt] using h
    have h2:¬ b<a:=by simp [UInt8.lt_iff_toNat_lt];omega
    have h3:(b==a)=false:=by rw [beq_eq_false_iff_ne];rintro rfl;omega
    simp [h1,h2,h3]
  · have h1:a=b:=UInt8.toNat_inj.1 h
    subst h1
    have h2:¬ a<a:=by simp
    simpa [h2] using ih
  · have h1:b<a:=by simpa [UInt8.lt_iff_toNat_lt] using h
    have h2:¬ a<b:=by simp [UInt8.lt_iff_toNat_lt];omega
    have h3:(a==b)=false:=by rw [beq_eq_false_iff_ne];rintro rfl;omega
    simp [h1,h2,h3]
theorem lf (a b:ByteArray):(mN a b||seq a b)=!(mN b a):=wN a.toList b.toList
def fF:(t:Ty)→t.den→Nat
 | .str,s=>s.size
 | .slice e,l=>l.length+(l.map (fF e)).sum
 | .pair a b,x=>fF a x.1+fF b x.2
 | _,_=>0
def sz (w:Nat) (left:Int):Int:=if left-w<0 then -1 else left-w
theorem tr {w:Nat} {left:Int} (h:left<w):sz w left = -1:=by unfold sz;rw [if_pos (by omega)]
theorem E5 {w:Nat} {left:Int} (h:(w:Int)≤left):sz w left=left-w:=by unfold sz;rw [if_neg (by omega)]
section
variable {t:Ty}
theorem gb {α:Type} {l:List α} {i:Nat} {z:α} (h:i<l.length):l.getD i z ∈ l:=by
 simp only [List.getD,List.getElem?_eq_getElem h,Option.getD_some]
 exact List.getElem_mem h
theorem toNat_ofNat (i:Nat):Int.toNat (i:Int)=i:=Int.toNat_natCast i
theorem D_ {f:Nat→t.den→Option (t.den × Unit)} {l:Nat→Nat→List t.den→Int→List t.den→Option (List t.den × Unit)}
 (hl:∀ k n xs i out,l k (n+1) xs i out=bif decide (i<(List.length xs:Int)) then bi i (List.length xs:Int) (Option.bind (f k (List.getD xs (Int.toNat i) (Ty.dflt t))) fun r =>
  bi i (List.length out:Int) (l k n xs (aH (i+1)) (List.set out (Int.toNat i) r.1))) else some (out,()))
 {xs:List t.den} (hlen:xs.length≤1048576) (hf:∀ x ∈ xs,Ev (fun k=>f k x) (x,())) :
 ∀ (d i:Nat) (out:List t.den),xs.length-i=d→i≤xs.length→out.length=xs.length→out.take i=xs.take i→o8 (fun k n=>l k n xs (i:Int) out) (xs,())
 | 0,i,out,hd,hi,ho,ht=>by
  refine o8.step (fun k n=>hl k n xs i out) (o8.of fun k n=>?_)
  have:¬ ((i:Int)<(List.length xs:Int)):=by omega
  rw [decide_eq_false this,cond_false]
  have h1:i=xs.length:=by omega
  subst h1
  rw [List.take_length,← ho,List.take_length] at ht
  rw [ht]
 | d+1,i,out,hd,hi,ho,ht=>by
  refine o8.step (fun k n=>hl k n xs i out) ?_
  have hlt:i<xs.length:=by omega
  have h1:((i:Int)<(List.length xs:Int)):=by omega
  have h2:((i:Int)<(List.length out:Int)):=by omega
  simp only [decide_eq_true h1,cond_true,aG (Int.natCast_nonneg i) h1,aG (Int.natCast_nonneg i) h2,toNat_ofNat]
  refine o8.bind (hf _ (gb hlt)) ?_
  have hw:aH ((i:Int)+1)=((i+1:Nat):Int):=by rw [aC (by omega) (by omega)];rfl
  simp only [hw]
  refine D_ hl hlen hf d (i+1) _ (by omega) (by omega) (by simpa using ho) ?_
  have hg:xs.getD i (Ty.dflt t)=xs[i]:=by simp [List.getD,hlt]
  rw [hg,List.take_succ_eq_append_getElem (by simpa [ho] using hlt),List.take_succ_eq_append_getElem hlt,List.take_set_of_le (Nat.le_refl _),ht]
  simp
theorem D5 {f:Nat→t.den→Int→Option (Int × Unit)} {l:Nat→Nat→List t.den→Int→Int→Option (Int × Unit)}
 (hl:∀ k n xs left i,l k (n+1) xs left i=bif decide (i<(List.length xs:Int)) then bi i (List.length xs:Int) (Option.bind (f k (List.getD xs (Int.toNat i) (Ty.dflt t)) left) fun r =>
  bif decide (r.1<0) then some (-1,()) else l k n xs r.1 (aH (i+1))) else some (left,()))
 {xs:List t.den} (hlen:xs.length≤1048576) (hf:∀ x ∈ xs,∀ left:Int,0≤left→left≤1048576→Ev (fun k=>f k x left) (sz (fF t x) left,())) :
 ∀ (d i:Nat) (left:Int),xs.length-i=d→i≤xs.length→0≤left→left≤1048576→o8 (fun k n=>l k n xs left (i:Int)) (sz ((xs.drop i).map (fF t)).sum left,())
 | 0,i,left,hd,hi,h0,h1=>by
  refine o8.step (fun k n=>hl k n xs left i) (o8.of fun k n=>?_)
  have:¬ ((i:Int)<(List.length xs:Int)):=by omega
  rw [decide_eq_false this,cond_false,List.drop_eq_nil_of_le (by omega)]
  show some (left,())=some (sz 0 left,())
  rw [E5 (by omega)]
  simp
 | d+1,i,left,hd,hi,h0,h1=>by
  refine o8.step (fun k n=>hl k n xs left i) ?_
  have hlt:i<xs.length:=by omega
  have h2:((i:Int)<(List.length xs:Int)):=by omega
  simp only [decide_eq_true h2,cond_true,aG (Int.natCast_nonneg i) h2,toNat_ofNat]
  refine o8.bind (hf _ (gb hlt) left h0 h1) ?_
  have hg:xs.getD i (Ty.dflt t)=xs[i]:=by simp [List.getD,hlt]
  rw [hg,List.drop_eq_getElem_cons hlt,List.map_cons,List.sum_cons]
  by_cases hc:(fF t xs[i]:Int)≤left
  · have hr:¬ (left-(fF t xs[i]:Int)<0):=by omega
    have hw:aH ((i:Int)+1)=((i+1:Nat):Int):=by rw [aC (by omega) (by omega)];rfl
    simp only [E5 hc,decide_eq_false hr,cond_false,hw]
    have ih:=D5 hl hlen hf d (i+1) (left-(fF t xs[i]:Int)) (by omega) (by omega) (by omega) (by omega)
    have e:sz ((xs.drop (i+1)).map (fF t)).sum (left-(fF t xs[i]:Int))=sz (fF t xs[i]+((xs.drop (i+1)).map (fF t)).sum) left:=by
     unfold sz
     rw [show left-(fF t xs[i]:Int)-((((xs.drop (i+1)).map (fF t)).sum:Nat):Int)=left-((fF t xs[i]+((xs.drop (i+1)).map (fF t)).sum:Nat):Int) by omega]
    rw [← e]
    exact ih
  · refine o8.of fun k n=>?_
    rw [tr (by omega),tr (by omega)]
    rfl
theorem Cg {f:Nat→t.den→t.den→Option (Bool × Unit)} {l:Nat→Nat→List t.den→List t.den→Int→Option (Bool × Unit)}
 (hl:∀ k n xs ys i,l k (n+1) xs ys i=bif decide (i<(List.length xs:Int)) then bi i (List.length xs:Int) (bi i (List.length ys:Int) (Option.bind (f k (List.getD xs (Int.toNat i) (Ty.dflt t)) (List.getD ys (Int.toNat i) (Ty.dflt t))) fun r =>
  bif !r.1 then some (false,()) else l k n xs ys (aH (i+1)))) else some (true,()))
 {xs:List t.den} (hlen:xs.length≤4398046511104) (hf:∀ x ∈ xs,Ev (fun k=>f k x x) (true,())) :
 ∀ (d i:Nat),xs.length-i=d→i≤xs.length→o8 (fun k n=>l k n xs xs (i:Int)) (true,())
 | 0,i,hd,hi=>by
  refine o8.step (fun k n=>hl k n xs xs i) (o8.of fun k n=>?_)
  have:¬ ((i:Int)<(List.length xs:Int)):=by omega
  rw [decide_eq_false this,cond_false]
 | d+1,i,hd,hi=>by
  refine o8.step (fun k n=>hl k n xs xs i) ?_
  have hlt:i<xs.length:=by omega
  have h2:((i:Int)<(List.length xs:Int)):=by omega
  have hw:aH ((i:Int)+1)=((i+1:Nat):Int):=by rw [aC (by omega) (by omega)];rfl
  simp only [decide_eq_true h2,cond_true,aG (Int.natCast_nonneg i) h2,toNat_ofNat]
  refine o8.bind (hf _ (gb hlt)) ?_
  simp only [Bool.not_true,cond_false,hw]
  exact Cg hl hlen hf d (i+1) (by omega) (by omega)
theorem As:reachBytes=140737488351232:=rfl
theorem wI {l:List t.den} {x:t.den} (h:x ∈ l):fF t x≤(l.map (fF t)).sum:=by
 induction l with
 | nil=>cases h
 | cons y l ih =>
  rw [List.map_cons,List.sum_cons]
  rcases List.mem_cons.1 h with q | q
  · subst q;omega
  · have:=ih q;omega
theorem jK (l:List t.den):fF (.slice t) l=l.length+(l.map (fF t)).sum:=rfl
def wp:(t:Ty)→t.den→Nat
 | .slice e,l=>l.length+(l.map (wp e)).sum
 | .pair a b,x=>wp a x.1+wp b x.2
 | _,_=>0
theorem sC (l:List t.den):wp (.slice t) l=l.length+(l.map (wp t)).sum:=rfl
theorem G5:∀ (t:Ty) (x:t.den),wp t x≤fF t x
 | .slice e,l=>by
  rw [sC,jK]
  have h:∀ l:List e.den,(l.map (wp e)).sum≤(l.map (fF e)).sum:=fun l=>by
   induction l with
   | nil=>exact Nat.le_refl _
   | cons y l ih=>rw [List.map_cons,List.sum_cons,List.map_cons,List.sum_cons];exact Nat.add_le_add (G5 e y) ih
  exact Nat.add_le_add (Nat.le_refl _) (h l)
 | .pair a b,x=>Nat.add_le_add (G5 a x.1) (G5 b x.2)
 | .bool,_=>Nat.le_refl _
 | .int _,_=>Nat.le_refl _
 | .str,_=>Nat.zero_le _
 | .unit,_=>Nat.le_refl _
 | .opq ..,_=>Nat.le_refl _
def flat:Ty→Bool
 | .slice _=>false
 | .pair a b=>flat a&&flat b
 | _=>true
theorem zI:∀ (t:Ty) (x:t.den),flat t=true→wp t x=0
 | .pair a b,x,h=>by
  rw [flat,Bool.and_eq_true] at h
  show wp a x.1+wp b x.2=0
  rw [zI a x.1 h.1,zI b x.2 h.2]
 | .bool,_,_=>rfl
 | .int _,_,_=>rfl
 | .str,_,_=>rfl
 | .unit,_,_=>rfl
 | .opq ..,_,_=>rfl
theorem Jl {l:List t.den} (h:flat t=true):wp (.slice t) l=l.length:=by
 rw [sC]
 have:(l.map (wp t)).sum=0:=by
  induction l with
  | nil=>rfl
  | cons y l ih=>rw [List.map_cons,List.sum_cons,ih,zI t y h]
 rw [this];rfl
theorem JL {l:List t.den} {x:t.den} (h:x ∈ l):wp t x≤(l.map (wp t)).sum:=by
 induction l with
 | nil=>cases h
 | cons y l ih =>
  rw [List.map_cons,List.sum_cons]
  rcases List.mem_cons.1 h with q | q
  · subst q;omega
  · have:=ih q;omega
theorem KF {l:List t.den} {n:Nat} (h:wp (.slice t) l≤n):l.length≤n:=by rw [sC] at h;omega
theorem J5 {l:List t.den} {x:t.den} {n:Nat} (h:x ∈ l) (w:fF (.slice t) l≤n):fF t x≤n:=by rw [jK] at w;have:=wI h;omega
theorem JC {l:List t.den} (h:fF (.slice t) l≤1048576):l.length≤1048576:=by rw [jK] at h;omega
theorem oC {l:List t.den} (hw:Wf (.slice t) l) (hb:1≤t.bytes):l.length≤140737488351232:=by
 have h1:l.length*t.bytes≤reachBytes:=hw.1
 rw [As] at h1
 exact Nat.le_trans (Nat.le_mul_of_pos_right _ hb) h1
theorem GO {a b:Nat} {left:Int}:sz b (left-(a:Int))=sz (a+b) left:=by
 unfold sz
 rw [show left-(a:Int)-(b:Int)=left-((a+b:Nat):Int) by omega]
theorem K9 {f:Nat→t.den→Int→Option (Int × Unit)} {l:Nat→Nat→List t.den→Int→Int→Option (Int × Unit)} {g:Nat→Option (Int × Unit)}
 (hl:∀ k n xs left i,l k (n+1) xs left i=bif decide (i<(List.length xs:Int)) then bi i (List.length xs:Int) (Option.bind (f k (List.getD xs (Int.toNat i) (Ty.dflt t)) left) fun r =>
  bif decide (r.1<0) then some (-1,()) else l k n xs r.1 (aH (i+1))) else some (left,()))
 {xs:List t.den} (hw:Wf (.slice t) xs) (hf:∀ x,Wf t x→∀ left:Int,0≤left→left≤1048576→Ev (fun k=>f k x left) (sz (fF t x) left,())) {left:Int} (h0:0≤left) (h1:left≤1048576)
 (hg:∀ k,g k=bif decide (aH (left-(List.length xs:Int))<0) then some (-1,()) else l k k xs (aH (left-(List.length xs:Int))) 0) (hb:1≤t.bytes:=by decide) :
 Ev g (sz (fF (.slice t) xs) left,()):=by
 have hx:=oC hw hb
 have w1:aH (left-(xs.length:Int))=left-xs.length:=aC (by omega) (by omega)
 refine Ev.eq ?_ hg
 rw [w1,jK]
 by_cases c:left-(xs.length:Int)<0
 · simp only [decide_eq_true c,cond_true]
   refine Ev.of fun k=>?_
   rw [tr (by omega)]
 · simp only [decide_eq_false c,cond_false]
   have:=(D5 hl (xs:=xs) (by omega) (fun x hx=>hf x (hw.2 x hx)) xs.length 0 (left-xs.length) (by omega) (by omega) (by omega) (by omega)).diag
   rw [List.drop_zero,GO] at this
   exact this
theorem K2 {f:Nat→t.den→Option (t.den × Unit)} {l:Nat→Nat→List t.den→Int→List t.den→Option (List t.den × Unit)} {g:Nat→Option (List t.den × Unit)}
 (hl:∀ k n xs i out,l k (n+1) xs i out=bif decide (i<(List.length xs:Int)) then bi i (List.length xs:Int) (Option.bind (f k (List.getD xs (Int.toNat i) (Ty.dflt t))) fun r =>
  bi i (List.length out:Int) (l k n xs (aH (i+1)) (List.set out (Int.toNat i) r.1))) else some (out,()))
 {xs:List t.den} (hf:∀ x,fF t x≤1048576→Ev (fun k=>f k x) (x,())) (hx:fF (.slice t) xs≤1048576) (hb:t.bytes≤1024)
 (hg:∀ k,g k=JU (Ty.bytes t) (List.length xs:Int) (l k k xs 0 (List.replicate (Int.toNat (List.length xs:Int)) (Ty.dflt t)))):Ev g (xs,()):=by
 rw [jK] at hx
 refine Ev.eq ?_ hg
 have:xs.length*t.bytes≤1048576*1024:=Nat.mul_le_mul (by omega) hb
 simp only [CS (Int.natCast_nonneg xs.length) (show Int.toNat (xs.length:Int)*t.bytes≤140737488355328 by rw [toNat_ofNat];omega) (by omega),toNat_ofNat]
 exact (D_ hl (by omega) (fun x q=>hf x (by have:=wI q;omega)) xs.length 0 _ (by omega) (by omega) (by simp) (by simp)).diag
theorem K5 {f:Nat→t.den→t.den→Option (Bool × Unit)} {l:Nat→Nat→List t.den→List t.den→Int→Option (Bool × Unit)} {g:Nat→Option (Bool × Unit)}
 (hl:∀ k n xs ys i,l k (n+1) xs ys i=bif decide (i<(List.length xs:Int)) then bi i (List.length xs:Int) (bi i (List.length ys:Int) (Option.bind (f k (List.getD xs (Int.toNat i) (Ty.dflt t)) (List.getD ys (Int.toNat i) (Ty.dflt t))) fun r =>
  bif !r.1 then some (false,()) else l k n xs ys (aH (i+1)))) else some (true,()))
 {xs:List t.den} (hf:∀ x,wp t x≤4398046511104→Ev (fun k=>f k x x) (true,())) (hx:wp (.slice t) xs≤4398046511104)
 (hg:∀ k,g k=bif ((List.length xs:Int) != (List.length xs:Int)) then some (false,()) else l k k xs xs 0):Ev g (true,()):=by
 rw [sC] at hx
 refine Ev.eq ?_ hg
 simp only [bne_self_eq_false,cond_false]
 exact (Cg hl (by omega) (fun x q=>hf x (by have:=JL q;omega)) xs.length 0 (by omega) (by omega)).diag
theorem K3 {l:Nat→Nat→List t.den→Int→List t.den→Option (List t.den × Unit)} {g:Nat→Option (List t.den × Unit)}
 (hl:∀ k n xs i out,l k (n+1) xs i out=bif decide (i<(List.length xs:Int)) then bi i (List.length xs:Int) (bi i (List.length out:Int) (l k n xs (aH (i+1)) (List.set out (Int.toNat i) (List.getD xs (Int.toNat i) (Ty.dflt t))))) else some (out,()))
 {xs:List t.den} (hx:xs.length≤1048576) (hb:t.bytes≤1024)
 (hg:∀ k,g k=JU (Ty.bytes t) (List.length xs:Int) (l k k xs 0 (List.replicate (Int.toNat (List.length xs:Int)) (Ty.dflt t)))):Ev g (xs,()):=by
 refine Ev.eq ?_ hg
 have:xs.length*t.bytes≤1048576*1024:=Nat.mul_le_mul (by omega) hb
 simp only [CS (Int.natCast_nonneg xs.length) (show Int.toNat (xs.length:Int)*t.bytes≤140737488355328 by rw [toNat_ofNat];omega) (by omega),toNat_ofNat]
 exact (D_ (f:=fun _ x=>some (x,())) (l:=l) (fun k n xs i out=>hl k n xs i out) (by omega) (fun x _=>Ev.of fun _=>rfl) xs.length 0 _ (by omega) (by omega) (by simp) (by simp)).diag
theorem K8 {c:t.den→t.den→Bool} {l:Nat→Nat→List t.den→List t.den→Int→Option (Bool × Unit)} {g:Nat→Option (Bool × Unit)}
 (hl:∀ k n xs ys i,l k (n+1) xs ys i=bif decide (i<(List.length xs:Int)) then bi i (List.length xs:Int) (bi i (List.length ys:Int) (bif c (List.getD xs (Int.toNat i) (Ty.dflt t)) (List.getD ys (Int.toNat i) (Ty.dflt t)) then some (false,()) else l k n xs ys (aH (i+1)))) else some (true,()))
 {xs:List t.den} (hc:∀ x,c x x=false) (hx:xs.length≤4398046511104)
 (hg:∀ k,g k=bif ((List.length xs:Int) != (List.length xs:Int)) then some (false,()) else l k k xs xs 0):Ev g (true,()):=by
 refine Ev.eq ?_ hg
 simp only [bne_self_eq_false,cond_false]
 refine (Cg (f:=fun _ x y=>some (!c x y,())) (l:=l) (fun k n xs ys i=>?_) hx (fun x _=>Ev.of fun _=>by rw [hc];rfl) xs.length 0 (by omega) (by omega)).diag
 rw [hl]
 simp
theorem Jb {l:Nat→Nat→List ByteArray→Int→Int→Option (Int × Unit)} {g:Nat→Option (Int × Unit)}
 (hl:∀ k n (xs:List ByteArray) left i,l k (n+1) xs left i=bif decide (i<(List.length xs:Int)) then bi i (List.length xs:Int) (bif decide (aH (left-(ByteArray.size (List.getD xs (Int.toNat i) (Ty.dflt .str)):Int))<0) then some (-1,()) else
  l k n xs (aH (left-(ByteArray.size (List.getD xs (Int.toNat i) (Ty.dflt .str)):Int))) (aH (i+1))) else some (left,()))
 {xs:List ByteArray} (hw:Wf (.slice .str) xs) {left:Int} (h0:0≤left) (h1:left≤1048576)
 (hg:∀ k,g k=bif decide (aH (left-(List.length xs:Int))<0) then some (-1,()) else l k k xs (aH (left-(List.length xs:Int))) 0):Ev g (sz (fF (.slice .str) xs) left,()):=by
 have hx:=oC hw (by decide)
 have w1:aH (left-(xs.length:Int))=left-xs.length:=aC (by omega) (by omega)
 refine Ev.eq ?_ hg
 rw [w1,jK]
 by_cases c:left-(xs.length:Int)<0
 · simp only [decide_eq_true c,cond_true]
   refine Ev.of fun k=>?_
   rw [tr (by omega)]
 · simp only [decide_eq_false c,cond_false]
   have key:=(D5 (t := .str) (f:=fun _ x left=>bif decide (aH (left-(ByteArray.size x:Int))<0) then some (-1,()) else some (aH (left-(ByteArray.size x:Int)),())) (l:=l) (fun k n xs left i=>by
    rw [hl]
    generalize aH (left-(ByteArray.size (List.getD xs (Int.toNat i) (Ty.dflt .str)):Int))=v
    cases hq:decide (v<0) <;> simp only [hq,cond_true,cond_false,Option.bind_some]
    rfl) (xs:=xs) (by omega) (fun x hm left h0 h1=>Ev.of fun _=>by
    have a:x.size≤reachBytes:=hw.2 x hm
    rw [As] at a
    have w2:aH (left-(x.size:Int))=left-x.size:=aC (by omega) (by omega)
    rw [w2]
    show _=some (sz x.size left,())
    by_cases q:left-(x.size:Int)<0
    · rw [decide_eq_true q,cond_true,tr (by omega)]
    · rw [decide_eq_false q,cond_false,E5 (by omega)]) xs.length 0 (left-xs.length) (by omega) (by omega) (by omega) (by omega)).diag
   rw [List.drop_zero,GO] at key
   exact key
theorem Jv {k':IntKind} {g:Nat→Option (Int × Unit)} {xs:List Int} (hw:Wf (.slice (.int k')) xs) {left:Int} (h0:0≤left) (h1:left≤1048576)
 (hg:∀ k,g k=bif decide (aH (left-(List.length xs:Int))<0) then some (-1,()) else some (aH (left-(List.length xs:Int)),())) (hb:1≤(Ty.int k').bytes:=by decide):Ev g (sz (fF (.slice (.int k')) xs) left,()):=by
 have hx:=oC hw hb
 have w1:aH (left-(xs.length:Int))=left-xs.length:=aC (by omega) (by omega)
 have z:fF (.slice (.int k')) xs=xs.length:=by
  rw [jK]
  have:(xs.map (fF (.int k'))).sum=0:=by
   clear hw hg hx w1
   induction xs with
   | nil=>rfl
   | cons x xs ih=>rw [List.map_cons,List.sum_cons,ih];rfl
  exact (congrArg (xs.length+·) this).trans (Nat.add_zero _)
 refine Ev.eq ?_ hg
 rw [w1,z]
 refine Ev.of fun k=>?_
 by_cases c:left-(xs.length:Int)<0
 · rw [decide_eq_true c,cond_true,tr (by omega)]
 · rw [decide_eq_false c,cond_false,E5 (by omega)]
end
section
variable {α:Type} {r:α}
theorem Ev.skip {a:Int} {x y:Nat→Option α} (h:0≤a) (hy:Ev y r):Ev (fun k=>bif decide (a<0) then x k else y k) r :=
 hy.eq fun k=>by rw [decide_eq_false (by omega),cond_false]
theorem Ev.notF {x y:Nat→Option α} (hy:Ev y r):Ev (fun k=>bif !true then x k else y k) r:=hy
theorem Ev.skipEq {a b:Int} {x y:Nat→Option α} (h:a=b) (hy:Ev y r):Ev (fun k=>bif a != b then x k else y k) r :=
 hy.eq fun k=>by rw [h,bne_self_eq_false,cond_false]
theorem Ev.skipI {a:Int} {x y:Nat→Option α} (hy:Ev y r):Ev (fun k=>bif !(a==a) then x k else y k) r :=
 hy.eq fun k=>by rw [beq_self_eq_true,Bool.not_true,cond_false]
theorem Ev.skipB {a:Bool} {x y:Nat→Option α} (hy:Ev y r):Ev (fun k=>bif !(a==a) then x k else y k) r :=
 hy.eq fun k=>by rw [beq_self_eq_true,Bool.not_true,cond_false]
theorem Ev.skipS {a:ByteArray} {x y:Nat→Option α} (hy:Ev y r):Ev (fun k=>bif !(seq a a) then x k else y k) r :=
 hy.eq fun k=>by rw [cY,Bool.not_true,cond_false]
theorem Ev.big {n:Nat} {x y:Nat→Option α} (hx:1048576<n→Ev x r) (hy:n≤1048576→Ev y r):Ev (fun k=>bif decide ((n:Int) > 1048576) then x k else y k) r:=by
 by_cases h:n≤1048576
 · exact (hy h).eq fun k=>by rw [decide_eq_false (by omega),cond_false]
 · exact (hx (by omega)).eq fun k=>by rw [decide_eq_true (by omega),cond_true]
end
end Go.V

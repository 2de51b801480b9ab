/- Plain laws, merged; what is proved here is told ahead of each part. -/
import Derived.Test.YtohaanhjddohmaaGreatDoorZCE
import Derived.Lib.ItoaNum
import Derived.Lib.AtoiAll
import Derived.Lib.AtoiAllCases
import Derived.Test.YtohaanhjddohmaaGreatDoorVPure
import Derived.Test.YtohaanhjddohmaaGreatDoorXLib
set_option linter.unusedVariables false
set_option linter.unusedSimpArgs false
namespace Go.V
theorem aO {α β:Type} {a:α} {f:α→Option β}:Option.bind (some a) f=f a:=rfl
theorem aN {α:Type} {a b:α}:cond false a b=b:=rfl
theorem aZ {α:Type} {a b:α}:cond true a b=a:=rfl
theorem fV:(!true)=false:=rfl
theorem ot:(!false)=true:=rfl
theorem nZ {α:Type} [BEq α] [LawfulBEq α] {a b:α} (h:a≠b):(a==b)=false:=beq_eq_false_iff_ne.2 h
theorem nK (i:Nat):Int.toNat (i:Int)=i:=Int.toNat_natCast i
theorem lM {α:Type} {a:α} {l:List α}:(a::l).length=l.length+1:=rfl
theorem vW {α:Type} {l m:List α}:(l++m).length=l.length+m.length:=List.length_append
theorem rX {α:Type} (l m n:List α):l++m++n=l++(m++n):=List.append_assoc l m n
theorem E7 {α:Type} [BEq α] [LawfulBEq α] {a b:α} (h:(a==b)=true):a=b:=beq_iff_eq.1 h
theorem kC (a b:Bool):((a&&b)=true)=(a=true∧b=true):=Bool.and_eq_true a b
theorem pR {α:Type} {a:α} {l:List α}:a ∈ a::l:=List.mem_cons_self
theorem s9 {α:Type} (y:α) {a:α} {l:List α} (h:a ∈ l):a ∈ y::l:=List.mem_cons_of_mem y h
end Go.V
namespace Go.V
theorem aP {p:Prop} [Decidable p] (h:p):decide p=true:=decide_eq_true h
theorem aQ {p:Prop} [Decidable p] (h:¬ p):decide p=false:=decide_eq_false h
theorem bK {R:Type} {b n:Nat} {k:Option R} (h:n≤1099511627776) (hb:b≤128):rm b n k=k :=
 K7 (Nat.le_trans (Nat.mul_le_mul h hb) (by decide)) (by omega)
theorem dW {R:Type} {a b:ByteArray} {k:Option R} (h:a.size+b.size≤4611686018427387904):jk a b k=k:=Ag (by omega)
theorem JF {R:Type} {b:Nat} {n:Int} {k:Option R} (h0:0≤n) (h:n≤1099511627776) (hb:b≤128):Jp b n k=k :=
 Dk h0 (Nat.le_trans (Nat.mul_le_mul (show n.toNat≤1099511627776 by omega) hb) (by decide)) (by omega)
theorem vw {n:Int} (h0:0≤n) (h1:n≤4294967295):IntKind.wrap .u32 n=n:=by
 unfold IntKind.wrap
 simp [IntKind.bits,IntKind.signed]
 omega
theorem ol {n:Int} (h0:0≤n) (h1:n≤255):IntKind.wrap .u8 n=n:=by
 unfold IntKind.wrap
 simp [IntKind.bits,IntKind.signed]
 omega
theorem Je {α:Type} {g:Nat→Option α} {r:α} (h:∀ k,2 ^ 50≤k→g k=some r):Ev g r:=⟨2 ^ 50,h⟩
section
variable {α σ ρ:Type}
theorem Jw {L:Nat→σ→Option ρ} {R:σ→Option ρ} (μ:σ→Nat) (P:σ→Prop)
 (h:∀ n s,P s→(∀ s',P s'→μ s' < μ s→L n s'=R s')→L (n+1) s=R s):∀ n s,P s→μ s<n→L n s=R s
 | 0,s,_,hn=>by omega
 | n+1,s,hs,hn=>h n s hs fun s' h1 h2=>Jw μ P h n s' h1 (by omega)
theorem H_ {L:Nat→Int→σ→Option ρ} {R:Int→σ→Option ρ} (N:Int) (P:Int→σ→Prop)
 (h0:∀ (n:Nat) s,P N s→L (n+1) N s=R N s)
 (h1:∀ (n:Nat) (i:Int) s,0≤i→i<N→P i s→(∀ s',P (i+1) s'→L n (i+1) s'=R (i+1) s')→L (n+1) i s=R i s) :
 ∀ (n:Nat) (i:Int) s,0≤i→i≤N→N-i<n→P i s→L n i s=R i s
 | 0,i,s,hi,hN,hn,_=>by omega
 | n+1,i,s,hi,hN,hn,hs=>by
  by_cases c:i=N
  · subst c;exact h0 n s hs
  · exact h1 n i s hi (by omega) hs fun s' q=>H_ N P h0 h1 n (i+1) s' (by omega) (by omega) (by omega) q
theorem Fz {L:Nat→Int→σ→Option ρ} {R:List α→σ→Option ρ} (z:α) (l:List α) (P:Int→σ→Prop)
 (h0:∀ (n:Nat) s,P l.length s→L (n+1) l.length s=R [] s)
 (h1:∀ (n:Nat) (i:Int) s x rest,0≤i→i<l.length→l.getD i.toNat z=x→l.drop i.toNat=x::rest→P i s→(∀ s',P (i+1) s'→L n (i+1) s'=R rest s')→L (n+1) i s=R (x::rest) s) :
 ∀ (n:Nat) (i:Int) s,0≤i→i≤l.length→(l.length:Int)-i<n→P i s→L n i s=R (l.drop i.toNat) s:=by
 intro n i s hi hN hn hs
 refine H_ (L:=L) (R:=fun i s=>R (l.drop i.toNat) s) l.length P (fun n s q=>?_) (fun n i s hi hlt q ih=>?_) n i s hi hN hn hs
 · rw [h0 n s q,Int.toNat_natCast,List.drop_length]
 · have hl:i.toNat<l.length:=by omega
   have e:l.drop i.toNat=l.getD i.toNat z::l.drop (i+1).toNat:=by
    rw [List.drop_eq_getElem_cons hl,show (i+1).toNat=i.toNat+1 by omega]
    simp [List.getD,hl]
   show _=R (l.drop i.toNat) s
   rw [e]
   exact h1 n i s _ _ hi hlt rfl e q ih
theorem du {L:Nat→Int→σ→Option ρ} {R:List α→σ→Option ρ} (z:α) (l:List α) (P:Int→σ→Prop)
 (h0:∀ (n:Nat) s,P l.length s→L (n+1) l.length s=R [] s)
 (h1:∀ (n:Nat) (i:Int) s x rest,0≤i→i<l.length→l.getD i.toNat z=x→l.drop i.toNat=x::rest→P i s→(∀ s',P (i+1) s'→L n (i+1) s'=R rest s')→L (n+1) i s=R (x::rest) s)
 {n:Nat} {s:σ} (hn:l.length<n) (hs:P 0 s):L n 0 s=R l s:=by
 have:=Fz z l P h0 h1 n 0 s (by omega) (by omega) (by omega) hs
 simpa using this
end
theorem lb {a b:ByteArray} (h:a≠b):seq a b=false:=by
 cases c:seq a b
 · rfl
 · exact absurd (dY.1 c) h
theorem IC {a b:ByteArray} (h:a=b):seq a b=true:=dY.2 h
theorem EA (a b:ByteArray):seq a b=decide (a=b):=by
 by_cases h:a=b
 · rw [IC h,aP h]
 · rw [lb h,aQ h]
theorem I2 {α:Type} {l:List α} {i:Nat} {x:α} {rest:List α} (h:l.drop i=x::rest):i<l.length:=by
 rcases Nat.lt_or_ge i l.length with q | q
 · exact q
 · rw [List.drop_eq_nil_of_le q] at h;cases h
end Go.V
namespace Go.V
def vl:Nat→Nat→List Nat
 | 0,a=>[a]
 | d+1,a=>if a≥128 then (128+a % 128)::vl d (a/128) else [a]
def sA:List Nat→Nat
 | []=>0
 | b::p=>b % 128+128*sA p
def rF:List Nat→Bool
 | []=>false
 | [b]=>decide (b<128)
 | b::c::p=>decide (128≤b)&&(decide (b<256)&&(rF (c::p)&&!(decide (p=[])&&c==0)))
theorem w_:∀ (d a:Nat),a<128 ^ (d+1)→rF (vl d a)=true∧sA (vl d a)=a∧(vl d a=[0]→a=0)
 | 0,a,h=>by
  have:a<128:=by simpa using h
  refine ⟨by simp [vl,rF,this],by simp [vl,sA];omega,fun q=>by simpa [vl] using q⟩
 | d+1,a,h=>by
  unfold vl
  by_cases c:a≥128
  · rw [if_pos c]
    obtain ⟨h1,h2,h3⟩:=w_ d (a/128) (by rw [Nat.pow_succ] at h;omega)
    refine ⟨?_,by rw [sA,h2];omega,fun q=>by have:=(List.cons.inj q).1;omega⟩
    generalize vl d (a/128)=l at h1 h2 h3
    match l,h1 with
    | x::p,h1 =>
     simp only [rF,h1]
     have e1:decide (128≤128+a % 128)=true:=decide_eq_true (by omega)
     have e2:decide (128+a % 128<256)=true:=decide_eq_true (by omega)
     rw [e1,e2]
     cases hp:(decide (p=[])&&x==0)
     · rfl
     · simp only [kC,decide_eq_true_eq,beq_iff_eq] at hp
       have:=h3 (by rw [hp.1,hp.2])
       omega
  · rw [if_neg c]
    have:a<128:=by omega
    exact ⟨by simp [rF,this],by simp [sA];omega,fun q=>by simpa using q⟩
theorem BU:∀ (p:List Nat),rF p=true→p≠[0]→1≤sA p
 | [],h,_=>by simp [rF] at h
 | [b],h,q=>by
  simp only [rF,decide_eq_true_eq] at h
  simp only [sA]
  have:b≠0:=fun e=>q (by rw [e])
  omega
 | b::c::p,h,_=>by
  simp only [rF,kC,decide_eq_true_eq,Bool.not_eq_true'] at h
  have ih:=BU (c::p) h.2.2.1 (fun e=>by
   have e1:c=0:=(List.cons.inj e).1
   have e2:p=[]:=(List.cons.inj e).2
   have:=h.2.2.2
   rw [e1,e2] at this
   simp at this)
  rw [sA]
  omega
theorem Ak:∀ (d:Nat) (p:List Nat),rF p=true→p.length≤d+1→vl d (sA p)=p
 | _,[],h,_=>by simp [rF] at h
 | 0,[b],h,_=>by
  simp only [rF,decide_eq_true_eq] at h
  simp [vl,sA];omega
 | d+1,[b],h,_=>by
  simp only [rF,decide_eq_true_eq] at h
  have e:sA [b]=b:=by simp [sA];omega
  rw [e,vl,if_neg (by omega)]
 | 0,b::c::p,_,hl=>by simp at hl
 | d+1,b::c::p,h,hl=>by
  have h0:=h
  simp only [rF,kC,decide_eq_true_eq,Bool.not_eq_true'] at h
  have hp:=BU (c::p) h.2.2.1 (fun e=>by
   have e1:c=0:=(List.cons.inj e).1
   have e2:p=[]:=(List.cons.inj e).2
   have:=h.2.2.2
   rw [e1,e2] at this
   simp at this)
  have ih:=Ak d (c::p) h.2.2.1 (by simp at hl ⊢;omega)
  rw [sA,vl,if_pos (by omega)]
  rw [show (b % 128+128*sA (c::p))/128=sA (c::p) by omega,ih]
  congr 1
  omega
theorem CN:∀ (p:List Nat) (b:Nat),sA (p++[b])=sA p+128 ^ p.length*(b % 128)
 | [],b=>by simp [sA]
 | a::p,b=>by
  rw [List.cons_append,sA,CN p b,sA,lM,Nat.pow_succ,Nat.mul_add,Nat.mul_comm (128 ^ p.length) 128,Nat.mul_assoc]
  omega
theorem B6:∀ (p:List Nat),sA p<128 ^ p.length
 | []=>by simp [sA]
 | a::p=>by
  have:=B6 p
  rw [sA,lM,Nat.pow_succ]
  omega
def nb (s:ByteArray):List Nat:=s.data.toList.map UInt8.toNat
theorem cX (s:ByteArray):(nb s).length=s.size:=by
 unfold nb
 rw [List.length_map,Array.length_toList]
 rfl
theorem IP {s:ByteArray} {x:Nat} (h:x ∈ nb s):x<256:=by
 unfold nb at h
 rw [List.mem_map] at h
 obtain ⟨y,_,rfl⟩:=h
 exact UInt8.toNat_lt y
theorem kx {a b:ByteArray} (h:nb a=nb b):a=b:=by
 unfold nb at h
 have h1:a.data.toList=b.data.toList:=List.map_inj_right (fun x y e=>UInt8.toNat_inj.1 e) |>.1 h
 exact ByteArray.ext (Array.toList_inj.1 h1)
theorem wH {s:ByteArray} {i:Nat} (h:i<s.size):da s (i:Int)=(((nb s).getD i 0:Nat):Int):=by
 unfold da nb
 have h1:i<s.data.toList.length:=by rw [Array.length_toList];exact h
 rw [Int.toNat_natCast,List.getD,List.getD,List.getElem?_map,List.getElem?_eq_getElem h1]
 rfl
theorem CO {l:List Nat} (h:∀ x ∈ l,x<256):nb (bytesOf (l.map Int.ofNat))=l:=by
 unfold nb bytesOf
 simp only [List.map_map,List.toList_toArray]
 induction l with
 | nil=>rfl
 | cons x l ih =>
  rw [List.map_cons,ih (fun y hy=>h y (s9 _ hy))]
  have:=h x (pR ..)
  congr 1
  show (UInt8.ofNat (Int.toNat (x:Int))).toNat=x
  rw [Int.toNat_natCast]
  simp
  omega
theorem kJ (s:ByteArray) (n:Nat):nb (ByteArray.extract s 0 n)=(nb s).take n:=by
 unfold nb
 simp [ByteArray.data_extract,List.map_take]
theorem Im:∀ (d a:Nat),a<128 ^ (d+1)→∀ x ∈ vl d a,x<256
 | 0,a,h,x,hx=>by simp [vl] at hx;subst hx;simp at h;omega
 | d+1,a,h,x,hx=>by
  unfold vl at hx
  split at hx
  · rcases List.mem_cons.1 hx with q | q
    · subst q;omega
    · exact Im d _ (by rw [Nat.pow_succ] at h;omega) x q
  · simp at hx;subst hx;omega
def bE (a:Nat):ByteArray:=bytesOf ((vl 6 a).map Int.ofNat)
theorem tN {a:Nat} (h:a<562949953421312):nb (bE a)=vl 6 a:=CO (Im 6 a (by rw [show (128:Nat) ^ (6+1)=562949953421312 by decide];exact h))
theorem Fg {s:ByteArray} {n:Nat} (h0:1≤n) (h7:n≤7) (hs:n≤s.size):seq (bE (sA ((nb s).take n))) (ByteArray.extract s 0 n)=rF ((nb s).take n):=by
 have hl:((nb s).take n).length=n:=by rw [List.length_take,cX];omega
 have hd:sA ((nb s).take n)<562949953421312:=by
  have:=B6 ((nb s).take n)
  rw [hl] at this
  have h2:(128:Nat) ^ n≤128 ^ 7:=Nat.pow_le_pow_right (by decide) h7
  rw [show (128:Nat) ^ 7=562949953421312 by decide] at h2
  omega
 rw [Bool.eq_iff_iff,dY]
 constructor
 · intro e
   have e1:nb (bE (sA ((nb s).take n)))=(nb s).take n:=by rw [e,kJ]
   rw [tN hd] at e1
   have:=(w_ 6 (sA ((nb s).take n)) (by rw [show (128:Nat) ^ (6+1)=562949953421312 by decide];exact hd)).1
   rw [e1] at this
   exact this
 · intro c
   refine kx ?_
   rw [tN hd,kJ]
   exact Ak 6 _ c (by omega)
end Go.V
namespace Go.V
open Go
def fy (n:Int):ByteArray:=⟨(Lib.itoa n).toArray⟩
def sV (u:Nat):List UInt8:=if u=0 then [] else Lib.decDigits u
theorem Ew:sV 0=[]:=rfl
theorem qh {u:Nat} (h:u≠0):sV u=Lib.decDigits u:=if_neg h
theorem FI {u:Nat} (h:u≠0):sV u=sV (u/10)++[UInt8.ofNat (48+u % 10)]:=by
 rw [qh h,Lib.decDigits]
 by_cases c:u<10
 · rw [dif_pos c,show u/10=0 by omega,Ew,List.nil_append,Nat.mod_eq_of_lt c]
 · rw [dif_neg c,qh (by omega)]
theorem my (u:Nat):Lib.decDigits u≠[]:=by
 rw [Lib.decDigits]
 split <;> simp
theorem xZ:Lib.decDigits 0=[48]:=by
 rw [Lib.decDigits,dif_pos (by omega)]
 rfl
theorem rZ {d:Nat} (h:d<10):(UInt8.ofNat (48+d)).toNat=48+d:=by
 simp
 omega
theorem jz (u:Nat):∀ b ∈ Lib.decDigits u,48≤b.toNat∧b.toNat≤57:=by
 induction u using Nat.strongRecOn with
 | _ u ih =>
  intro b hb
  rw [Lib.decDigits] at hb
  split at hb
  · rename_i h
    rw [List.mem_singleton] at hb
    subst hb
    rw [rZ h]
    omega
  · rename_i h
    rcases List.mem_append.1 hb with q | q
    · exact ih (u/10) (by omega) b q
    · rw [List.mem_singleton] at q
      subst q
      rw [rZ (by omega)]
      omega
def pF:List Nat→Nat→Nat
 | [],a=>a
 | b::l,a=>pF l (a*10+(b-48))
theorem yx:∀ (l m:List Nat) (a:Nat),pF (l++m) a=pF m (pF l a)
 | [],m,a=>rfl
 | b::l,m,a=>yx l m _
theorem ow (u:Nat):pF ((Lib.decDigits u).map UInt8.toNat) 0=u:=by
 induction u using Nat.strongRecOn with
 | _ u ih =>
  rw [Lib.decDigits]
  split
  · rename_i h
    simp only [List.map_cons,List.map_nil,pF,rZ h]
    omega
  · rename_i h
    rw [List.map_append,yx,ih (u/10) (by omega)]
    simp only [List.map_cons,List.map_nil,pF,rZ (show u % 10<10 by omega)]
    omega
theorem gy:∀ (k u:Nat),u<10 ^ (k+1)→(Lib.decDigits u).length≤k+1
 | 0,u,h=>by
  rw [Lib.decDigits,dif_pos (by simpa using h)]
  simp
 | k+1,u,h=>by
  rw [Lib.decDigits]
  split
  · simp
  · have:=gy k (u/10) (by rw [Nat.pow_succ] at h;omega)
    rw [vW]
    show _+1≤_
    omega
theorem qB (n:Int):nb (fy n)=if n<0 then 45::(Lib.decDigits n.natAbs).map UInt8.toNat else (Lib.decDigits n.toNat).map UInt8.toNat:=by
 unfold nb fy Lib.itoa
 split <;> simp
theorem y_ {a b:Int} (h:fy a=fy b):a=b:=by
 have h1:=congrArg nb h
 rw [qB,qB] at h1
 have hd:∀ u:Nat,∀ l,(Lib.decDigits u).map UInt8.toNat≠45::l:=fun u l q=>by
  have hm:(45:Nat) ∈ (Lib.decDigits u).map UInt8.toNat:=by rw [q];exact pR ..
  obtain ⟨x,hx,e⟩:=List.mem_map.1 hm
  have:=jz u x hx
  omega
 by_cases ca:a<0
 · rw [if_pos ca] at h1
   by_cases cb:b<0
   · rw [if_pos cb] at h1
     have h2:=(List.cons.inj h1).2
     have h3:=congrArg (fun l=>pF l 0) h2
     simp only [ow] at h3
     omega
   · rw [if_neg cb] at h1
     exact absurd h1.symm (hd _ _)
 · rw [if_neg ca] at h1
   by_cases cb:b<0
   · rw [if_pos cb] at h1
     exact absurd h1 (hd _ _)
   · rw [if_neg cb] at h1
     have h3:=congrArg (fun l=>pF l 0) h1
     simp only [ow] at h3
     omega
theorem Fq {n:Int} (h0 : -1000000000<n) (h1:n<1000000000):(fy n).size≤10:=by
 rw [← cX,qB]
 split
 · have:=gy 8 n.natAbs (by rw [show (10:Nat) ^ (8+1)=1000000000 by decide];omega)
   rw [lM,List.length_map]
   omega
 · have:=gy 8 n.toNat (by rw [show (10:Nat) ^ (8+1)=1000000000 by decide];omega)
   rw [List.length_map]
   omega
theorem Bc (n:Int) (h0 : -9223372036854775808≤n) (h1:n≤9223372036854775807):(fy n).size≤20:=by
 rw [← cX,qB]
 split
 · have:=gy 18 n.natAbs (by rw [show (10:Nat) ^ (18+1)=10000000000000000000 by decide];omega)
   rw [lM,List.length_map]
   omega
 · have:=gy 18 n.toNat (by rw [show (10:Nat) ^ (18+1)=10000000000000000000 by decide];omega)
   rw [List.length_map]
   omega
theorem vJ:∀ (l:List UInt8) (a:Nat),(∀ b ∈ l,48≤b.toNat∧b.toNat≤57)→(a+1)*10 ^ l.length≤1000000000000000000→Lib.parseUint10 a l = .ok (pF (l.map UInt8.toNat) a)
 | [],a,_,_=>rfl
 | c::l,a,h,hb=>by
  have hc:=h c (pR ..)
  rw [lM,Nat.pow_succ,Nat.mul_comm (10 ^ l.length) 10,← Nat.mul_assoc] at hb
  have hp:1≤10 ^ l.length:=Nat.one_le_pow _ _ (by decide)
  have h1:(a+1)*10*1≤(a+1)*10*10 ^ l.length:=Nat.mul_le_mul (Nat.le_refl _) hp
  have ih:=vJ l (a*10+(c.toNat-48)) (fun x hx=>h x (s9 _ hx)) (Nat.le_trans (Nat.mul_le_mul (by omega) (Nat.le_refl _)) hb)
  rw [Lib.parseUint10,if_pos hc,if_neg (by omega),if_neg (by omega),ih,List.map_cons,pF]
theorem zg {u:Nat} (h:u<1000000000):Lib.parseMag (Lib.decDigits u) = .ok u:=by
 have hl:=gy 8 u (by rw [show (10:Nat) ^ (8+1)=1000000000 by decide];exact h)
 have hp:10 ^ (Lib.decDigits u).length≤10 ^ 9:=Nat.pow_le_pow_right (by decide) hl
 rw [show (10:Nat) ^ 9=1000000000 by decide] at hp
 unfold Lib.parseMag
 rw [if_neg (my u),vJ _ 0 (jz u) (by omega),ow]
theorem G2 {n:Int} (h0 : -1000000000<n) (h1:n<1000000000):Lib.atoiAll (Lib.itoa n) = .ok n:=by
 unfold Lib.itoa
 by_cases c:n<0
 · rw [if_pos c,Lib.atoiAll_minus,zg (by omega)]
   simp only [Lib.signed]
   rw [if_neg (by omega)]
   congr 1
   omega
 · rw [if_neg c]
   have hp:=zg (u:=n.toNat) (by omega)
   cases q:Lib.decDigits n.toNat with
   | nil=>exact absurd q (my _)
   | cons d r =>
    have hd:=jz n.toNat d (by rw [q];exact pR ..)
    rw [q] at hp
    rw [Lib.atoiAll_plain d r (by omega) (by omega),hp]
    simp only [Lib.signless]
    rw [if_neg (by omega)]
    congr 1
    omega
end Go.V
namespace Go.V
section
variable {α ρ:Type}
def qO (ok:Option α→α→Bool):Option α→List α→Bool
 | _,[]=>true
 | p,x::l=>ok p x&&qO ok (some x) l
theorem pV {L:Nat→Int→Option ρ} (z:α) (l:List α) (ok:Option α→α→Bool) (yes no:Option ρ) (h0:∀ (n:Nat),L (n+1) l.length=yes)
 (h1:∀ (n:Nat) x,0<l.length→l.getD (Int.toNat 0) z=x→L (n+1) 0=bif ok none x then L n 1 else no)
 (h2:∀ (n:Nat) (i:Int) x y,0<i→i<l.length→l.getD i.toNat z=x→l.getD (i-1).toNat z=y→L (n+1) i=bif ok (some y) x then L n (i+1) else no)
 {n:Nat} (hn:l.length<n):L n 0=bif qO ok none l then yes else no:=by
 have key:∀ (d i n:Nat),l.length=i+d→0<i→d<n→L n (i:Int)=bif qO ok (some (l.getD (i-1) z)) (l.drop i) then yes else no:=by
  intro d
  induction d with
  | zero =>
   intro i n h h' hn
   obtain ⟨n,rfl⟩:∃ q,n=q+1:=⟨n-1,by omega⟩
   have:i=l.length:=by omega
   subst this
   rw [h0 n,List.drop_length]
   rfl
  | succ d ih =>
   intro i n h h' hn
   obtain ⟨n,rfl⟩:∃ q,n=q+1:=⟨n-1,by omega⟩
   have hl:i<l.length:=by omega
   have e:l.drop i=l.getD i z::l.drop (i+1):=by
    rw [List.drop_eq_getElem_cons hl]
    simp [List.getD,hl]
   have ih:=ih (i+1) n (by omega) (by omega) (by omega)
   rw [h2 n i (l.getD i z) (l.getD (i-1) z) (by omega) (by omega) (by rw [Int.toNat_natCast]) (by rw [show ((i:Int)-1).toNat=i-1 by omega]),e,qO]
   rw [show ((i:Int)+1)=((i+1:Nat):Int) by omega,ih,show i+1-1=i by omega]
   cases ok (some (l.getD (i-1) z)) (l.getD i z) <;> rfl
 obtain ⟨n,rfl⟩:∃ q,n=q+1:=⟨n-1,by omega⟩
 cases l with
 | nil=>exact h0 n
 | cons x l =>
  rw [h1 n x (by simp) rfl,qO]
  have:=key l.length 1 n (by rw [lM];omega) (by omega) (by rw [lM] at hn;omega)
  rw [show ((1:Nat):Int)=1 from rfl] at this
  rw [this]
  cases ok none x <;> rfl
theorem BG {ok:Option α→α→Bool} {l:List α} {p:Option α} (h:qO ok p l=true) {x:α} (hx:x ∈ l):∃ q,ok q x=true:=by
 induction l generalizing p with
 | nil=>cases hx
 | cons y l ih =>
  rw [qO,kC] at h
  rcases List.mem_cons.1 hx with e | e
  · subst e;exact ⟨p,h.1⟩
  · exact ih h.2 e
end
theorem kV {α:Type} {l:List α} {n i:Nat} {z:α} (h:i<n):(l.take n).getD i z=l.getD i z:=by
 simp [List.getD,List.getElem?_take,h]
theorem jX {α:Type} {l:List α} {i:Nat} {z:α} (h:i<l.length):l.take (i+1)=l.take i++[l.getD i z]:=by
 rw [List.take_succ_eq_append_getElem h]
 simp [List.getD,h]
theorem bJ {α:Type} (l:List α) (x:α):(l++[x]).length=l.length+1:=by simp
end Go.V
namespace Go.V
def dB (l:List UInt8):ByteArray:=⟨l.toArray⟩
theorem GY (a b:List UInt8):dB a++dB b=dB (a++b):=by
 apply ByteArray.ext
 simp [dB,ByteArray.data_append]
theorem Ay (l:List UInt8):(dB l).size=l.length:=by simp [dB,ByteArray.size]
theorem wu (s:ByteArray):dB []++s=s:=by
 apply ByteArray.ext
 simp [dB,ByteArray.data_append]
theorem H8 (s:ByteArray):s++dB []=s:=by
 apply ByteArray.ext
 simp [dB,ByteArray.data_append]
theorem Ch (a b c:ByteArray):a++b++c=a++(b++c):=by
 apply ByteArray.ext
 simp [ByteArray.data_append]
theorem Hn (n:Int) (h:n≠0):fy n=(bif decide (n<0) then dB [45] else dB [])++dB (sV n.natAbs):=by
 unfold fy Lib.itoa
 by_cases c:n<0
 · rw [if_pos c,aP c,aZ,GY,qh (by omega)]
   rfl
 · rw [if_neg c,aQ c,aN,wu,qh (by omega),show n.natAbs=n.toNat by omega]
   rfl
theorem CV {u:Nat} (h:u≤9223372036854775808):(sV u).length≤19:=by
 by_cases c:u=0
 · subst c;decide
 · rw [qh c]
   exact gy 18 u (by rw [show (10:Nat) ^ (18+1)=10000000000000000000 by decide];omega)
theorem lJ {n:Int} (h0 : -9223372036854775808≤n) (h1:n≤9223372036854775807):(fy n).size≤20:=Bc n h0 h1
def mJ:List Nat→Bool
 | []=>true
 | b::l=>(decide (97≤b∧b≤122)||decide (48≤b∧b≤57))&&mJ l
def jt (s:ByteArray):Bool:=mJ (nb s)&&decide (1≤s.size∧s.size≤12)
end Go.V
namespace Go.Proofs.YtohaanhjddohmaaGreatDoor.G
open Go.V
theorem np {k:Nat} (hk:2 ^ 50≤k) {n:Int} (h0 : -9223372036854775808≤n) (h1:n≤9223372036854775807):dZ.f k n=some (fy n,()):=by
 unfold dZ.f dZ.t
 by_cases c:n=0
 · subst c
   have:fy 0=(⟨#[48]⟩:ByteArray):=by
    unfold fy Lib.itoa
    rw [if_neg (by decide),show (0:Int).toNat=0 from rfl,xZ]
   rw [this]
   rfl
 · rw [show (n==0)=false from nZ c,aN]
   have key:=Jw (L:=fun m (s:Int × ByteArray)=>dZ.l0 k m s.1 s.2 (decide (n<0))) (R:=fun s=>some ((bif decide (n<0) then dB [45] else dB [])++(dB (sV s.1.natAbs)++s.2),()))
    (fun s=>(sV s.1.natAbs).length) (fun s => -9223372036854775808≤s.1∧s.1≤9223372036854775807∧s.2.size+(sV s.1.natAbs).length≤1000) ?_ k (n,(⟨#[]⟩:ByteArray))
    ⟨h0,h1,by have:=CV (u:=n.natAbs) (by omega);show 0+(sV n.natAbs).length≤1000;omega⟩ (by have:=CV (u:=n.natAbs) (by omega);show (sV n.natAbs).length<k;omega)
   · refine key.trans ?_
     simp only []
     rw [Hn n c,show (⟨#[]⟩:ByteArray)=dB [] from rfl,H8]
   · intro m s hs ih
     obtain ⟨x,acc⟩:=s
     obtain ⟨g0,g1,g2⟩:=hs
     simp only [] at g0 g1 g2 ih ⊢
     by_cases cx:x=0
     · subst cx
       have hz:sV (Int.natAbs 0)=[]:=rfl
       rw [hz] at g2 ⊢
       rw [wu]
       unfold dZ.l0 dZ.b0
       rw [show ((0:Int) != 0)=false from rfl,aN]
       cases decide (n<0)
       · rw [aN,aN,wu]
       · rw [aZ,aZ,dW (by rw [show (⟨#[45]⟩:ByteArray).size=1 from rfl];omega)]
         rfl
     · have hd:=FI (u:=x.natAbs) (by omega)
       have hb:bytesOf [48+((x.natAbs % 10:Nat):Int)]=dB [UInt8.ofNat (48+x.natAbs % 10)]:=rfl
       have hm:x.natAbs % 10<10:=Nat.mod_lt _ (by decide)
       have hl:(sV x.natAbs).length=(sV (x.natAbs/10)).length+1:=by rw [hd,vW];rfl
       have hr:(dB [UInt8.ofNat (48+x.natAbs % 10)]++acc).size=1+acc.size:=by rw [ByteArray.size_append];rfl
       have fin:∀ y:Int,y.natAbs=x.natAbs/10 → -9223372036854775808≤y→y≤9223372036854775807 →
        dZ.l0 k m (aF y) (dB [UInt8.ofNat (48+x.natAbs % 10)]++acc) (decide (n<0))=some ((bif decide (n<0) then dB [45] else dB [])++(dB (sV x.natAbs)++acc),()):=fun y hy q0 q1=>by
        rw [aD q0 q1]
        have:=ih (y,dB [UInt8.ofNat (48+x.natAbs % 10)]++acc) ⟨q0,q1,by simp only [];rw [hr,hy];omega⟩ (by simp only [];rw [hy];omega)
        simp only [] at this
        rw [this,hy,hd,← GY,Ch]
       unfold dZ.l0 dZ.b0
       rw [show (x != 0)=true from bne_iff_ne.2 cx,aZ]
       obtain ⟨u,rfl | rfl⟩:=Int.eq_nat_or_neg x
       · have e1:Int.tmod (u:Int) 10=((u % 10:Nat):Int):=rfl
         have e2:Int.tdiv (u:Int) 10=((u/10:Nat):Int):=rfl
         rw [Int.natAbs_natCast] at *
         rw [e1,e2,aQ (by omega),aN,aD (n:=48+((u % 10:Nat):Int)) (by omega) (by omega),ol (by omega) (by omega),hb,dW (by rw [Ay];simp only [List.length_singleton];omega)]
         exact fin _ (by omega) (by omega) (by omega)
       · have e1:Int.tmod (-(u:Int)) 10 = -((u % 10:Nat):Int):=Int.neg_tmod (a:=(u:Int)) (b:=10)
         have e2:Int.tdiv (-(u:Int)) 10 = -((u/10:Nat):Int):=Int.neg_tdiv (u:Int) 10
         rw [Int.natAbs_neg,Int.natAbs_natCast] at *
         rw [e1,e2]
         by_cases cz:u % 10=0
         · rw [aQ (by omega),aN,show (48:Int) + -((u % 10:Nat):Int)=48+((u % 10:Nat):Int) by omega,aD (n:=48+((u % 10:Nat):Int)) (by omega) (by omega),ol (by omega) (by omega),hb,dW (by rw [Ay];simp only [List.length_singleton];omega)]
           exact fin _ (by omega) (by omega) (by omega)
         · rw [aP (by omega),aZ,aD (n:=0 - -((u % 10:Nat):Int)) (by omega) (by omega),show (48:Int)+(0 - -((u % 10:Nat):Int))=48+((u % 10:Nat):Int) by omega,aD (n:=48+((u % 10:Nat):Int)) (by omega) (by omega),ol (by omega) (by omega),hb,dW (by rw [Ay];simp only [List.length_singleton];omega)]
           exact fin _ (by omega) (by omega) (by omega)
theorem Dl (k:Nat) {n:Int} (h0 : -9223372036854775808≤n) (h1:n≤9223372036854775807):mg.f k n=some (fy n,()):=by
 unfold mg.f mg.t mZ.f
 rw [aP ⟨h0,h1⟩]
 rfl
theorem kR (k:Nat) (a b c:Int):az.f k a b c=some (decide (b≤a∧a≤c),()):=by
 unfold az.f az.t
 by_cases h:a≥b
 · rw [aP h,aZ,decide_eq_decide.2 (show (b≤a∧a≤c)↔a≤c from ⟨fun q=>q.2,fun q=>⟨h,q⟩⟩)]
 · rw [aQ h,aN,aQ (fun q=>h q.1)]
theorem gS (k:Nat) (a b c:Int):aX.f k a b c=some (decide (b≤a∧a≤c),()):=by
 unfold aX.f aX.t
 by_cases h:a≥b
 · rw [aP h,aZ,decide_eq_decide.2 (show (b≤a∧a≤c)↔a≤c from ⟨fun q=>q.2,fun q=>⟨h,q⟩⟩)]
 · rw [aQ h,aN,aQ (fun q=>h q.1)]
theorem AG {s:ByteArray} {i:Int} {x:Nat} (h0:0≤i) (h1:i<((nb s).length:Int)) (hx:(nb s).getD i.toNat 0=x):da s i=(x:Int):=by
 rw [cX] at h1
 have:=wH (s:=s) (i:=i.toNat) (by omega)
 rw [show ((i.toNat:Nat):Int)=i by omega,hx] at this
 exact this
theorem BN {s:ByteArray}:(some ((bif mJ (nb s) then decide (1≤(s.size:Int)∧(s.size:Int)≤12) else false),()):Option (Bool × Unit))=some (jt s,()):=by
 unfold jt
 rw [decide_eq_decide.2 (show (1≤(s.size:Int)∧(s.size:Int)≤12)↔(1≤s.size∧s.size≤12) by omega)]
 cases mJ (nb s) <;> rfl
theorem oP {k:Nat} (hk:2 ^ 50≤k) {s:ByteArray} (hs:s.size≤1099511627776):eE.f k s=some (jt s,()):=by
 unfold eE.f eE.t
 have hn:=cX s
 refine (du (L:=fun n i (_:Unit)=>eE.l0 k n s i) (R:=fun r _=>some ((bif mJ r then decide (1≤(s.size:Int)∧(s.size:Int)≤12) else false),())) 0 (nb s) (fun _ _=>True) (fun n _ _=>?_) (fun n i _ x rest h0 h1 hx hr hp ih=>?_) (n:=k) (s:=()) (by omega) trivial).trans BN
 · simp only [hn]
   simp (disch:=omega) only [eE.l0,eE.b0,aQ,aN,gS k,aO,mJ,aZ]
 · have hb:=AG h0 h1 hx
   have ih:=ih () trivial
   simp only [hn] at *
   simp (disch:=omega) only [eE.l0,eE.b0,aP h1,aZ,aG,hb,aD,ih,mJ]
   by_cases c1:97≤x
   · rw [aP (show (x:Int)≥97 by omega),aZ]
     by_cases c2:x≤122
     · rw [aP (show (x:Int)≤122 by omega),aZ,aP (show 97≤x∧x≤122 from ⟨c1,c2⟩)]
       rfl
     · rw [aQ (show ¬ (x:Int)≤122 by omega),aN,aQ (show ¬ (97≤x∧x≤122) by omega),aP (show (x:Int)≥48 by omega),aZ,aQ (show ¬ (x:Int)≤57 by omega),aQ (show ¬ (48≤x∧x≤57) by omega)]
       rfl
   · rw [aQ (show ¬ (x:Int)≥97 by omega),aN,aQ (show ¬ (97≤x∧x≤122) by omega)]
     by_cases c3:48≤x
     · rw [aP (show (x:Int)≥48 by omega),aZ]
       by_cases c4:x≤57
       · rw [aP (show (x:Int)≤57 by omega),aP (show 48≤x∧x≤57 from ⟨c3,c4⟩)]
         rfl
       · rw [aQ (show ¬ (x:Int)≤57 by omega),aQ (show ¬ (48≤x∧x≤57) by omega)]
         rfl
     · rw [aQ (show ¬ (x:Int)≥48 by omega),aN,aQ (show ¬ (48≤x∧x≤57) by omega)]
       rfl
theorem oG {k:Nat} (hk:2 ^ 50≤k) {s:ByteArray} (hs:s.size≤1099511627776):eD.f k s=some (jt s,()):=by
 unfold eD.f eD.t
 have hn:=cX s
 refine (du (L:=fun n i (_:Unit)=>eD.l0 k n s i) (R:=fun r _=>some ((bif mJ r then decide (1≤(s.size:Int)∧(s.size:Int)≤12) else false),())) 0 (nb s) (fun _ _=>True) (fun n _ _=>?_) (fun n i _ x rest h0 h1 hx hr hp ih=>?_) (n:=k) (s:=()) (by omega) trivial).trans BN
 · simp only [hn]
   simp (disch:=omega) only [eD.l0,eD.b0,aQ,aN,kR k,aO,mJ,aZ]
 · have hb:=AG h0 h1 hx
   have ih:=ih () trivial
   simp only [hn] at *
   simp (disch:=omega) only [eD.l0,eD.b0,aP h1,aZ,aG,hb,aD,ih,mJ]
   by_cases c1:97≤x
   · rw [aP (show (x:Int)≥97 by omega),aZ]
     by_cases c2:x≤122
     · rw [aP (show (x:Int)≤122 by omega),aP (show 97≤x∧x≤122 from ⟨c1,c2⟩)]
       rfl
     · rw [aQ (show ¬ (x:Int)≤122 by omega),aQ (show ¬ (97≤x∧x≤122) by omega),aP (show (x:Int)≥48 by omega),aQ (show ¬ (x:Int)≤57 by omega),aQ (show ¬ (48≤x∧x≤57) by omega)]
       rfl
   · rw [aQ (show ¬ (x:Int)≥97 by omega),aN,aQ (show ¬ (97≤x∧x≤122) by omega)]
     by_cases c3:48≤x
     · rw [aP (show (x:Int)≥48 by omega),aZ]
       by_cases c4:x≤57
       · rw [aP (show (x:Int)≤57 by omega),aP (show 48≤x∧x≤57 from ⟨c3,c4⟩)]
         rfl
       · rw [aQ (show ¬ (x:Int)≤57 by omega),aQ (show ¬ (48≤x∧x≤57) by omega)]
         rfl
     · rw [aQ (show ¬ (x:Int)≥48 by omega),aN,aQ (show ¬ (48≤x∧x≤57) by omega)]
       rfl
abbrev bO:=List (Ty.den bR)
def cJ (l:bO):Nat:=(l.map fun f=>f.2.1.size).sum
def dS (l:bO):Nat:=(l.map fun f=>f.1.size).sum
theorem dm (x:Ty.den bR) (l:bO):cJ (x::l)=x.2.1.size+cJ l:=by unfold cJ;rw [List.map_cons,List.sum_cons]
theorem tH:cJ []=0:=rfl
theorem iE (x:Ty.den bR) (l:bO):dS (x::l)=x.1.size+dS l:=by unfold dS;rw [List.map_cons,List.sum_cons]
theorem nv:∀ l m:bO,cJ (l++m)=cJ l+cJ m
 | [],m=>by rw [List.nil_append,tH,Nat.zero_add]
 | x::l,m=>by rw [List.cons_append,dm,dm,nv l m];omega
theorem nn {l:bO} {x:Ty.den bR} (h:x ∈ l):x.2.1.size≤cJ l:=by
 induction l with
 | nil=>cases h
 | cons y l ih =>
  rw [dm]
  rcases List.mem_cons.1 h with e | e
  · subst e;omega
  · have:=ih e;omega
theorem m3 {l:bO} {x:Ty.den bR} (h:x ∈ l):x.1.size≤dS l:=by
 induction l with
 | nil=>cases h
 | cons y l ih =>
  rw [iE]
  rcases List.mem_cons.1 h with e | e
  · subst e;omega
  · have:=ih e;omega
def mo (p:Option (Ty.den bR)) (x:Ty.den bR):Bool :=
 jt x.1&&(decide ((0:Int)≤x.2.2.1∧x.2.2.1≤(x.2.1.size:Int))&&(match p with | none=>true | some y=>mv y.1 x.1))
def fh (d:Ty.den a_):Bool :=
 decide (d.1.length≤130)&&(decide ((0:Int)≤d.2.1∧d.2.1≤(100000:Int))&&(decide ((-1:Int)≤d.2.2.1∧d.2.2.1≤(100000:Int))&&(decide ((cJ d.1:Int)≤d.2.1)&&qO mo none d.1)))
theorem oL {k:Nat} (hk:2 ^ 50≤k) {d:Ty.den a_} (hl:d.1.length≤1099511627776) (hu:cJ d.1≤1099511627776):db.f k d=some ((cJ d.1:Int),()):=by
 unfold db.f db.t
 refine (du (L:=fun n i s=>db.l0 k n s i d.1 d.2.1 d.2.2.1 d.2.2.2.1) (R:=fun r s=>some (s+(cJ r:Int),())) (Ty.dflt bR) d.1 (fun i s=>0≤s∧s+(cJ (d.1.drop i.toNat):Int)≤1099511627776) (fun n s hs=>?_) (fun n i s x rest h0 h1 hx hr hp ih=>?_) (n:=k) (s:=0) (by omega) ⟨by omega,by rw [show d.1.drop (Int.toNat 0)=d.1 from rfl];omega⟩).trans (by rw [Int.zero_add])
 · simp (disch:=omega) only [db.l0,db.b0,aQ,aN]
   show some (s,())=some (s+((0:Nat):Int),())
   rw [show s+((0:Nat):Int)=s by omega]
 · have hrest:d.1.drop (i+1).toNat=rest:=by
    have:=congrArg (List.drop 1) hr
    rw [List.drop_drop,List.drop_one,List.tail_cons] at this
    rw [show (i+1).toNat=i.toNat+1 by omega]
    exact this
   rw [hr,dm] at hp
   have ih:=ih (s+(x.2.1.size:Int)) ⟨by omega,by rw [hrest];omega⟩
   simp (disch:=omega) only [db.l0,db.b0,aP h1,aZ,aG,hx,aD,ih]
   rw [show s+(x.2.1.size:Int)+(cJ rest:Int)=s+((x.2.1.size+cJ rest:Nat):Int) by omega]
   show _=some (s+((cJ (x::rest):Nat):Int),())
   rw [dm]
theorem kI {k:Nat} (hk:2 ^ 50≤k) {d:Ty.den a_} (hu:cJ d.1≤1099511627776) (hn:dS d.1≤1099511627776):bH.f k d=some (fh d,()):=by
 unfold bH.f bH.t fh
 by_cases c:d.1.length > 130
 · rw [aP (by omega),aZ,aQ (by omega),Bool.false_and]
 · rw [aQ (by omega),aN,aP (by omega),Bool.true_and,gS,aO]
   cases decide ((0:Int)≤d.2.1∧d.2.1≤(100000:Int)) with
   | false=>rfl
   | true =>
    rw [fV,aN,gS,aO,Bool.true_and]
    cases decide ((-1:Int)≤d.2.2.1∧d.2.2.1≤(100000:Int)) with
    | false=>rfl
    | true =>
     rw [fV,aN,oL hk (by omega) hu,aO,Bool.true_and]
     simp only []
     by_cases cu:(cJ d.1:Int) > d.2.1
     · rw [aP cu,aZ,aQ (by omega),Bool.false_and]
     · rw [aQ cu,aN,aP (by omega),Bool.true_and]
       refine (pV (L:=fun n i=>bH.l0 k n i d.1 d.2.1 d.2.2.1 d.2.2.2.1) (Ty.dflt bR) d.1 mo (some (true,())) (some (false,())) (fun n=>?_) (fun n x h hx=>?_) (fun n i x y h0 h1 hx hy=>?_) (n:=k) (by omega)).trans (by cases qO mo none d.1 <;> rfl)
       · simp (disch:=omega) only [bH.l0,bH.b0,aQ,aN]
       · have hm:x ∈ d.1:=by rw [← hx];exact gP (by omega)
         have hs:=m3 hm
         simp (disch:=omega) only [bH.l0,bH.b0,aP (show (0:Int)<(d.1.length:Int) by omega),aZ,aG,hx,oP hk,gS k,aO,aQ (show ¬ (0:Int) > 0 by omega),aN,aD,mo]
         cases jt x.1 <;> cases decide ((0:Int)≤x.2.2.1∧x.2.2.1≤(x.2.1.size:Int)) <;> rfl
       · have hm:x ∈ d.1:=by rw [← hx];exact gP (by omega)
         have hs:=m3 hm
         simp (disch:=omega) only [bH.l0,bH.b0,aP h1,aZ,aG,hx,hy,oP hk,gS k,aO,aP (show i > 0 by omega),aN,aD,mo,m5]
         cases jt x.1 <;> cases decide ((0:Int)≤x.2.2.1∧x.2.2.1≤(x.2.1.size:Int)) <;> cases mv y.1 x.1 <;> rfl
theorem zM {l:bO} {i:Nat} {x:Ty.den bR} (h:i<l.length) (hx:l.getD i (Ty.dflt bR)=x):cJ (l.take (i+1))=cJ (l.take i)+x.2.1.size:=by
 rw [List.take_add_one,nv]
 congr 1
 simp only [List.getD,List.getElem?_eq_getElem h,Option.getD_some] at hx
 rw [List.getElem?_eq_getElem h,hx]
 show cJ [x]=_
 rw [dm,tH,Nat.add_zero]
theorem tK (l:bO) (i:Nat):cJ (l.take i)≤cJ l:=by
 have:=nv (l.take i) (l.drop i)
 rw [List.take_append_drop] at this
 omega
theorem j7 {k:Nat} (hk:2 ^ 50≤k) {d:Ty.den a_} (hu:cJ d.1≤1099511627776) (hn:dS d.1≤1099511627776):bP.f k d=some (fh d,()):=by
 unfold bP.f bP.t fh
 by_cases c:d.1.length > 130
 · rw [aP (by omega),aZ,aQ (by omega),Bool.false_and]
 · rw [aQ (by omega),aN,aP (by omega),Bool.true_and,kR,aO]
   cases decide ((0:Int)≤d.2.1∧d.2.1≤(100000:Int)) with
   | false=>rfl
   | true =>
    rw [fV,aN,kR,aO,Bool.true_and]
    cases decide ((-1:Int)≤d.2.2.1∧d.2.2.1≤(100000:Int)) with
    | false=>rfl
    | true =>
     rw [fV,aN,Bool.true_and]
     refine (pV (L:=fun n i=>bP.l0 k n (cJ (d.1.take i.toNat):Int) d.1 d.1.length i d.1 d.2.1 d.2.2.1 d.2.2.2.1) (Ty.dflt bR) d.1 mo (some (decide ((cJ d.1:Int)≤d.2.1),())) (some (false,())) (fun n=>?_) (fun n x h hx=>?_) (fun n i x y h0 h1 hx hy=>?_) (n:=k) (by omega)).trans
      (by cases qO mo none d.1 <;> cases decide ((cJ d.1:Int)≤d.2.1) <;> rfl)
     · rw [Int.toNat_natCast,List.take_length]
       simp (disch:=omega) only [bP.l0,bP.b0,aQ,aN]
     · have hm:x ∈ d.1:=by rw [← hx];exact gP (by omega)
       have hs:=m3 hm
       have ht:=zM (l:=d.1) (i:=0) h hx
       have hle:=tK d.1 0
       have hz:=nn hm
       rw [show Int.toNat 1=0+1 from rfl,ht]
       simp only [show Int.toNat 0=0 from rfl] at hx ⊢
       simp (disch:=omega) only [bP.l0,bP.b0,aP (show (0:Int)<(d.1.length:Int) by omega),aZ,aG,show Int.toNat 0=0 from rfl,hx,oG hk,kR k,aO,aQ (show ¬ (0:Int) > 0 by omega),aN,aD,mo]
       rw [show (cJ (d.1.take 0):Int)+(x.2.1.size:Int)=((cJ (d.1.take 0)+x.2.1.size:Nat):Int) by omega]
       cases jt x.1 <;> cases decide ((0:Int)≤x.2.2.1∧x.2.2.1≤(x.2.1.size:Int)) <;> rfl
     · have hm:x ∈ d.1:=by rw [← hx];exact gP (by omega)
       have hs:=m3 hm
       have ht:=zM (l:=d.1) (i:=i.toNat) (by omega) hx
       have hle:=tK d.1 i.toNat
       have hz:=nn hm
       rw [show Int.toNat (i+1)=i.toNat+1 by omega,ht]
       simp (disch:=omega) only [bP.l0,bP.b0,aP h1,aZ,aG,hx,hy,oG hk,kR k,aO,aP (show i > 0 by omega),aN,aD,mo]
       rw [show (cJ (d.1.take i.toNat):Int)+(x.2.1.size:Int)=((cJ (d.1.take i.toNat)+x.2.1.size:Nat):Int) by omega]
       cases jt x.1 <;> cases decide ((0:Int)≤x.2.2.1∧x.2.2.1≤(x.2.1.size:Int)) <;> cases mv y.1 x.1 <;> rfl
def l7:bO→ByteArray→Int→Int
 | [],_,_ => -1
 | f::l,s,i=>bif seq f.1 s then i else l7 l s (i+1)
def bg:bO→ByteArray→Option (Ty.den bR)
 | [],_=>none
 | f::l,s=>bif seq f.1 s then some f else bg l s
theorem u6:∀ (l:bO) (s:ByteArray) (i:Int),(bg l s=none∧l7 l s i = -1)∨(∃ f,bg l s=some f∧i≤l7 l s i∧l7 l s i<i+(l.length:Int)∧l.getD (l7 l s i-i).toNat (Ty.dflt bR)=f∧f ∈ l)
 | [],s,i => .inl ⟨rfl,rfl⟩
 | f::l,s,i=>by
  unfold l7 bg
  cases c:seq f.1 s with
  | true=>exact .inr ⟨f,rfl,Int.le_refl _,by rw [aZ,lM];omega,by rw [aZ,show (i-i).toNat=0 by omega];rfl,pR ..⟩
  | false =>
   rw [aN,aN]
   rcases u6 l s (i+1) with h | ⟨g,h1,h2,h3,h4,h5⟩
   · exact .inl h
   · refine .inr ⟨g,h1,by omega,by rw [lM];omega,?_,s9 _ h5⟩
     rw [show (l7 l s (i+1)-i).toNat=(l7 l s (i+1)-(i+1)).toNat+1 by omega]
     exact h4
theorem iV {k:Nat} (hk:2 ^ 50≤k) {d:Ty.den a_} (hl:d.1.length≤1099511627776) (s:ByteArray):bT.f k d s=some (l7 d.1 s 0,()):=by
 unfold bT.f bT.t
 refine du (L:=fun n i (_:Int)=>bT.l0 k n s i d.1 d.2.1 d.2.2.1 d.2.2.2.1) (R:=fun r j=>some (l7 r s j,())) (Ty.dflt bR) d.1 (fun i j=>j=i) (fun n j hj=>?_) (fun n i j x rest h0 h1 hx hr hp ih=>?_) (n:=k) (s:=0) (by omega) rfl
 · simp (disch:=omega) only [bT.l0,bT.b0,aQ,aN,l7]
 · have ih:=ih (i+1) rfl
   subst hp
   simp (disch:=omega) only [bT.l0,bT.b0,aP h1,aZ,aG,hx,aD,ih,l7]
   cases seq x.1 s <;> rfl
theorem j3 {k:Nat} (hk:2 ^ 50≤k) {d:Ty.den a_} (hl:d.1.length≤1099511627776) (s:ByteArray):bX.f k d s=some (l7 d.1 s 0,()):=by
 unfold bX.f bX.t
 refine du (L:=fun n i (_:Int)=>bX.l0 k n s d.1 d.1.length i) (R:=fun r j=>some (l7 r s j,())) (Ty.dflt bR) d.1 (fun i j=>j=i) (fun n j hj=>?_) (fun n i j x rest h0 h1 hx hr hp ih=>?_) (n:=k) (s:=0) (by omega) rfl
 · simp (disch:=omega) only [bX.l0,bX.b0,aQ,aN,l7]
 · have ih:=ih (i+1) rfl
   subst hp
   simp (disch:=omega) only [bX.l0,bX.b0,aP h1,aZ,aG,hx,aD,ih,l7]
   cases seq x.1 s <;> rfl
def aS (d:Ty.den a_) (s:ByteArray):ByteArray × Bool :=
 bif fh d then (match bg d.1 s with | none=>(⟨#[]⟩,false) | some f=>(f.2.1,true)) else (⟨#[]⟩,false)
theorem fZ (d:Ty.den a_) (s:ByteArray):(aS d s).1.size≤cJ d.1:=by
 unfold aS
 cases fh d with
 | false=>exact Nat.zero_le _
 | true =>
  rw [aZ]
  rcases u6 d.1 s 0 with h | ⟨f,h1,_,_,_,h5⟩
  · rw [h.1];exact Nat.zero_le _
  · rw [h1];exact nn h5
theorem fa {k:Nat} (hk:2 ^ 50≤k) {d:Ty.den a_} (hl:d.1.length≤1099511627776) (hu:cJ d.1≤1099511627776) (hn:dS d.1≤1099511627776) (s:ByteArray) :
 bI.f k d s=some ((aS d s).1,((aS d s).2,())):=by
 unfold bI.f bI.t aS
 rw [kI hk hu hn,aO]
 cases fh d with
 | false=>rfl
 | true =>
  rw [iV hk hl]
  simp only [aO,fV,aN,aZ]
  rcases u6 d.1 s 0 with h | ⟨f,h1,h2,h3,h4,h5⟩
  · rw [h.1,h.2];rfl
  · rw [h1,aQ (by omega),aN,aG h2 (by omega)]
    rw [Int.sub_zero] at h4
    rw [h4]
theorem kO {k:Nat} (hk:2 ^ 50≤k) {d:Ty.den a_} (hl:d.1.length≤1099511627776) (hu:cJ d.1≤1099511627776) (hn:dS d.1≤1099511627776) (s:ByteArray) :
 cQ.f k d s=some ((aS d s).1,((aS d s).2,())):=by
 unfold cQ.f cQ.t aS
 rw [j3 hk hl,aO]
 simp only []
 rcases u6 d.1 s 0 with h | ⟨f,h1,h2,h3,h4,h5⟩
 · rw [h.1,h.2]
   cases fh d <;> rfl
 · rw [h1,aQ (by omega),aN,j7 hk hu hn,aO]
   cases fh d with
   | false=>rfl
   | true =>
    simp only [fV,aN,aZ]
    rw [aG h2 (by omega)]
    rw [Int.sub_zero] at h4
    rw [h4]
def aB (p:ByteArray) (n:Int):ByteArray:=bif decide ((1:Int)≤n∧n≤100000) then p++fy n else ⟨#[]⟩
def aK:ByteArray:=⟨#[115,101,103]⟩
theorem bV {k:Nat} (hk:2 ^ 50≤k) (n:Int):aT.f k n=some (aB aK n,()):=by
 unfold aT.f aT.t aB
 rw [gS,aO]
 by_cases c:(1:Int)≤n∧n≤100000
 · have hz:=lJ (n:=n) (by omega) (by omega)
   rw [aP c]
   simp only [fV,aN,aZ]
   rw [np hk (by omega) (by omega),aO,dW (by show 3+(fy n).size≤_;omega)]
   rfl
 · rw [aQ c]
   rfl
theorem tP (k:Nat) {p:ByteArray} (hp:p.size≤1000) (n:Int):jB.f k p n=some (aB p n,()):=by
 unfold jB.f jB.t aB
 rw [kR,aO]
 by_cases c:(1:Int)≤n∧n≤100000
 · have hz:=lJ (n:=n) (by omega) (by omega)
   rw [aP c]
   simp only [fV,aN,aZ]
   rw [Dl k (by omega) (by omega),aO,dW (by show p.size+(fy n).size≤_;omega)]
 · rw [aQ c]
   rfl
theorem kQ (k:Nat) (n:Int):di.f k n=some (aB aK n,()):=by
 unfold di.f di.t
 rw [tP k (by decide) n]
 rfl
structure xy (d:Ty.den a_):Prop where
 l:d.1.length≤1073741824
 u:cJ d.1≤1073741824
 n:dS d.1≤1073741824
end Go.Proofs.YtohaanhjddohmaaGreatDoor.G
namespace Go.V
theorem xL:∀ a b c:List UInt8,Op.bytesLess a b=true→Op.bytesLess b c=true→Op.bytesLess a c=true
 | a,b,[],_,h2=>by cases b <;> simp [Op.bytesLess] at h2
 | [],b,z::c,_,_=>by simp [Op.bytesLess]
 | x::a,[],z::c,h1,_=>by simp [Op.bytesLess] at h1
 | x::a,y::b,z::c,h1,h2=>by
  simp only [Op.bytesLess] at h1 h2 ⊢
  have ih:=xL a b c
  simp only [Bool.or_eq_true,kC,decide_eq_true_eq,beq_iff_eq] at h1 h2 ⊢
  rcases h1 with g1 | ⟨rfl,g1⟩
  · rcases h2 with g2 | ⟨rfl,g2⟩
    · exact Or.inl (UInt8.lt_trans g1 g2)
    · exact Or.inl g1
  · rcases h2 with g2 | ⟨rfl,g2⟩
    · exact Or.inl g2
    · exact Or.inr ⟨rfl,ih g1 g2⟩
theorem uL {a b c:ByteArray} (h1:mv a b=true) (h2:mv b c=true):mv a c=true:=xL _ _ _ h1 h2
theorem sX (a:ByteArray):mv a a=false:=by
 have:=m5 a a
 rw [cm] at this
 cases h:mv a a with
 | false=>rfl
 | true=>rw [h] at this;cases this
theorem F0 {a b:ByteArray} (h:mv a b=true):mv b a=false:=by
 cases c:mv b a with
 | false=>rfl
 | true=>have:=uL h c;rw [sX] at this;cases this
def iw (K:List ByteArray):Prop:=K.Pairwise (fun a b=>mv a b=true)
end Go.V
namespace Go.Proofs.YtohaanhjddohmaaGreatDoor.G
open Go.V
def gw:bO→Ty.den bR→bO
 | [],f=>[f]
 | g::l,f=>bif mv f.1 g.1 then f::g::l else g::gw l f
def ib:bO→ByteArray→bO
 | [],_=>[]
 | g::l,s=>bif seq g.1 s then l else g::ib l s
def ly (h:Ty.den bR→Ty.den bR):bO→ByteArray→bO
 | [],_=>[]
 | g::l,s=>bif seq g.1 s then h g::l else g::ly h l s
def kA (d:Ty.den a_):Ty.den a_ × Int :=
 bif !fh d then (d,5) else bif d.2.2.2.1 then ((d.1,(d.2.1,(d.2.2.1,(true,())))),1) else bif (d.2.2.1==0) then ((d.1,(d.2.1,(d.2.2.1,(true,())))),1) else
 bif decide ((d.2.2.1:Int) > 0) then ((d.1,(d.2.1,(aF (d.2.2.1-1),d.2.2.2))),0) else (d,0)
def ii (d:Ty.den a_) (g:bO→Int→bO × Int):Ty.den a_ × Int :=
 bif (kA d).2 != 0 then kA d else (((g d.1 d.2.1).1,(kA d).1.2),(g d.1 d.2.1).2)
def u9 (s:ByteArray) (l:bO) (c:Int):bO × Int :=
 bif !jt s then (l,5) else bif (bg l s).isSome then (l,4) else bif decide ((l.length:Int)≥130) then (l,2) else (gw l (s,(ByteArray.empty,(0,()))),0)
def yQ (s t:ByteArray) (l:bO) (c:Int):bO × Int :=
 bif (bg l s).isNone then (l,3) else bif decide ((t.size:Int) > aF (c-(cJ l:Int))) then (l,2) else (ly (fun f=>(f.1,(f.2.1++t,f.2.2))) l s,0)
def Am (s:ByteArray) (l:bO) (c:Int):bO × Int :=
 bif (bg l s).isNone then (l,3) else (ly (fun f=>(f.1,(f.2.1,((f.2.1.size:Int),f.2.2.2)))) l s,0)
def ye (a b:ByteArray) (l:bO) (c:Int):bO × Int :=
 bif !jt b then (l,5) else match bg l a with
 | none=>(l,3)
 | some f=>bif seq a b then (l,0) else (gw (ib (ib l a) b) (b,f.2),0)
def vf (s:ByteArray) (l:bO) (c:Int):bO × Int :=
 bif (bg l s).isNone then (l,3) else (ib l s,0)
def C9 (s:ByteArray) (n:Int) (l:bO) (c:Int):bO × Int :=
 match bg l s with
 | none=>(l,3)
 | some f=>bif !decide (0≤n∧n≤(f.2.1.size:Int)) then (l,5) else (ly (fun f=>(f.1,(ByteArray.extract f.2.1 0 n.toNat,((if n<f.2.2.1 then n else f.2.2.1),f.2.2.2)))) l s,0)
def qS (d:Ty.den a_) (s:ByteArray):=ii d (u9 s)
def iv (d:Ty.den a_) (s t:ByteArray):=ii d (yQ s t)
def j8 (d:Ty.den a_) (s:ByteArray):=ii d (Am s)
def vp (d:Ty.den a_) (a b:ByteArray):=ii d (ye a b)
def sR (d:Ty.den a_) (s:ByteArray):=ii d (vf s)
def mm (d:Ty.den a_) (s:ByteArray) (n:Int):=ii d (C9 s n)
theorem pW (d:Ty.den a_):(kA d).1.1=d.1:=by
 unfold kA
 cases fh d <;> cases d.2.2.2.1 <;> cases d.2.2.1==0 <;> cases decide ((d.2.2.1:Int) > 0) <;> rfl
theorem HD (d:Ty.den a_):(kA d).1.2.1=d.2.1:=by
 unfold kA
 cases fh d <;> cases d.2.2.2.1 <;> cases d.2.2.1==0 <;> cases decide ((d.2.2.1:Int) > 0) <;> rfl
theorem gZ:∀ (l:bO) (s:ByteArray) (j:Int),(bg l s=none∧l7 l s j = -1∧ib l s=l∧∀ h,ly h l s=l) ∨
 (∃ n:Nat,n<l.length∧l7 l s j=j+n∧bg l s=some (l.getD n (Ty.dflt bR))∧l.take n++l.drop (n+1)=ib l s∧(l.getD n (Ty.dflt bR)).1=s∧(∀ h,l.set n (h (l.getD n (Ty.dflt bR)))=ly h l s))
 | [],s,j => .inl ⟨rfl,rfl,rfl,fun _=>rfl⟩
 | g::l,s,j=>by
  unfold l7 bg ib ly
  cases c:seq g.1 s with
  | true =>
   refine .inr ⟨0,by rw [lM];omega,?_,rfl,rfl,dY.1 c,fun h=>rfl⟩
   show j=j+((0:Nat):Int)
   omega
  | false =>
   simp only [aN]
   rcases gZ l s (j+1) with ⟨h1,h2,h3,h4⟩ | ⟨n,h1,h2,h3,h4,h5,h6⟩
   · exact .inl ⟨h1,h2,by rw [h3],fun h=>by rw [h4]⟩
   · refine .inr ⟨n+1,by rw [lM];omega,by rw [h2];omega,h3,?_,h5,fun h=>?_⟩
     · rw [List.take_succ_cons,List.drop_succ_cons,List.cons_append,h4]
     · show g::l.set n (h (l.getD n (Ty.dflt bR)))=_
       rw [h6]
def FO (f:Ty.den bR):Prop:=jt f.1=true∧LE.le (α:=Int) 0 f.2.2.1∧LE.le (α:=Int) f.2.2.1 f.2.1.size
def kt (l:bO):List ByteArray:=l.map (·.1)
theorem C6:∀ (l:bO) (p:Option (Ty.den bR)),qO mo p l=true↔((∀ f ∈ l,FO f)∧iw (kt l)∧(∀ q,p=some q→∀ f ∈ l,mv q.1 f.1=true))
 | [],p=>by
  constructor
  · intro _
    exact ⟨fun f h=>(by cases h),List.Pairwise.nil,fun q _ f h=>(by cases h)⟩
  · intro _;rfl
 | g::l,p=>by
  have ih:=C6 l (some g)
  unfold qO
  rw [kC,ih]
  have hf:mo p g=true↔(FO g∧(∀ q,p=some q→mv q.1 g.1=true)):=by
   unfold mo FO
   rw [kC,kC,decide_eq_true_eq]
   cases p with
   | none=>exact ⟨fun h=>⟨⟨h.1,h.2.1⟩,fun q hq=>(by cases hq)⟩,fun h=>⟨h.1.1,h.1.2,rfl⟩⟩
   | some q=>exact ⟨fun h=>⟨⟨h.1,h.2.1⟩,fun q' hq=>(by cases hq;exact h.2.2)⟩,fun h=>⟨h.1.1,h.1.2,h.2 q rfl⟩⟩
  rw [hf]
  constructor
  · rintro ⟨⟨h1,h2⟩,h3,h4,h5⟩
    refine ⟨fun f hf=>?_,?_,fun q hq f hf=>?_⟩
    · rcases List.mem_cons.1 hf with e | e
      · rw [e];exact h1
      · exact h3 f e
    · unfold iw kt
      rw [List.map_cons,List.pairwise_cons]
      refine ⟨fun x hx=>?_,h4⟩
      obtain ⟨f,hf,rfl⟩:=List.mem_map.1 hx
      exact h5 g rfl f hf
    · rcases List.mem_cons.1 hf with e | e
      · rw [e];exact h2 q hq
      · exact uL (h2 q hq) (h5 g rfl f e)
  · rintro ⟨h1,h2,h3⟩
    unfold iw kt at h2
    rw [List.map_cons,List.pairwise_cons] at h2
    refine ⟨⟨h1 g (pR ..),fun q hq=>h3 q hq g (pR ..)⟩,fun f hf=>h1 f (s9 _ hf),h2.2,fun q hq f hf=>?_⟩
    cases hq
    exact h2.1 f.1 (List.mem_map.2 ⟨f,hf,rfl⟩)
structure DR (d:Ty.den a_):Prop where
 len:d.1.length≤130
 cap0:LE.le (α:=Int) 0 d.2.1
 cap1:LE.le (α:=Int) d.2.1 100000
 fu0:LE.le (α:=Int) (-1) d.2.2.1
 fu1:LE.le (α:=Int) d.2.2.1 100000
 use:LE.le (α:=Int) (cJ d.1) d.2.1
 all:∀ f ∈ d.1,FO f
 keys:iw (kt d.1)
theorem iH {d:Ty.den a_}:fh d=true↔DR d:=by
 unfold fh
 rw [kC,kC,kC,kC,decide_eq_true_eq,decide_eq_true_eq,decide_eq_true_eq,decide_eq_true_eq,C6]
 constructor
 · rintro ⟨h1,⟨h2,h3⟩,⟨h4,h5⟩,h6,h7,h8,_⟩
   exact ⟨h1,h2,h3,h4,h5,h6,h7,h8⟩
 · intro h
   exact ⟨h.len,⟨h.cap0,h.cap1⟩,⟨h.fu0,h.fu1⟩,h.use,h.all,h.keys,fun q hq=>(by cases hq)⟩
theorem E3 {s:ByteArray} (h:jt s=true):1≤s.size∧s.size≤12:=by
 unfold jt at h
 rw [kC,decide_eq_true_eq] at h
 exact h.2
theorem ta:∀ l:bO,(∀ f ∈ l,FO f)→dS l≤12*l.length
 | [],_=>Nat.le_refl _
 | f::l,h=>by
  have:=ta l fun g hg=>h g (s9 _ hg)
  have:=(E3 (h f (pR ..)).1).2
  rw [iE,lM]
  omega
theorem DR.sz {d:Ty.den a_} (h:DR d):xy d:=by
 have h1:=h.len
 have h2:=h.use
 have h3:=h.cap1
 have h4:=ta d.1 h.all
 exact ⟨by omega,by omega,by omega⟩
theorem AF {l:bO} {f x:Ty.den bR}:x ∈ gw l f↔x=f∨x ∈ l:=by
 induction l with
 | nil=>simp [gw]
 | cons g l ih =>
  unfold gw
  cases mv f.1 g.1
  · simp only [aN,List.mem_cons,ih]
    exact ⟨fun h=>h.elim (fun q => .inr (.inl q)) (fun q=>q.elim .inl (fun q => .inr (.inr q))),fun h=>h.elim (fun q => .inr (.inl q)) (fun q=>q.elim .inl (fun q => .inr (.inr q)))⟩
  · simp only [aZ,List.mem_cons]
theorem mz:∀ (l:bO) (s:ByteArray),(ib l s).Sublist l
 | [],s=>List.Sublist.slnil
 | g::l,s=>by
  unfold ib
  cases seq g.1 s
  · exact (mz l s).cons_cons g
  · exact (List.Sublist.refl l).cons g
theorem EE {h:Ty.den bR→Ty.den bR} (hh:∀ f,(h f).1=f.1):∀ (l:bO) (s:ByteArray),kt (ly h l s)=kt l
 | [],s=>rfl
 | g::l,s=>by
  unfold ly
  cases seq g.1 s
  · show g.1::kt (ly h l s)=g.1::kt l
    rw [EE hh l s]
  · show (h g).1::kt l=g.1::kt l
    rw [hh]
theorem xl {h:Ty.den bR→Ty.den bR} (hh:∀ f,(h f).1=f.1) {l:bO} {s:ByteArray} (hk:iw (kt l)):iw (kt (ly h l s)):=by
 rw [EE hh]
 exact hk
theorem vu {h:Ty.den bR→Ty.den bR}:∀ {l:bO} {s:ByteArray} {x:Ty.den bR},x ∈ ly h l s→x ∈ l∨∃ f,bg l s=some f∧x=h f
 | [],s,x,hx => .inl hx
 | g::l,s,x,hx=>by
  unfold ly at hx
  unfold bg
  cases c:seq g.1 s with
  | true =>
   rw [c,aZ] at hx
   rcases List.mem_cons.1 hx with e | e
   · exact .inr ⟨g,rfl,e⟩
   · exact .inl (s9 _ e)
  | false =>
   rw [c,aN] at hx
   rcases List.mem_cons.1 hx with e | e
   · exact .inl (by rw [e];exact pR ..)
   · rcases vu e with q | ⟨f,q1,q2⟩
     · exact .inl (s9 _ q)
     · exact .inr ⟨f,q1,q2⟩
theorem tA {h:Ty.den bR→Ty.den bR}:∀ {l:bO} {s:ByteArray} {f:Ty.den bR},bg l s=some f→cJ (ly h l s)+f.2.1.size=cJ l+(h f).2.1.size
 | [],s,f,hf=>by cases hf
 | g::l,s,f,hf=>by
  unfold bg at hf
  unfold ly
  cases c:seq g.1 s with
  | true =>
   rw [c] at hf
   cases hf
   rw [aZ,dm,dm]
   omega
  | false =>
   rw [c] at hf
   have:=tA (h:=h) hf
   rw [aN,dm,dm]
   omega
theorem nO:∀ (l:bO) (f:Ty.den bR),cJ (gw l f)=cJ l+f.2.1.size
 | [],f=>by unfold gw;rw [dm,tH,Nat.add_comm]
 | g::l,f=>by
  unfold gw
  cases mv f.1 g.1
  · rw [aN,dm,dm,nO l f];omega
  · rw [aZ,dm,dm];omega
theorem yE:∀ {l:bO} {s:ByteArray} {f:Ty.den bR},bg l s=some f→cJ (ib l s)+f.2.1.size=cJ l
 | [],s,f,hf=>by cases hf
 | g::l,s,f,hf=>by
  unfold bg at hf
  unfold ib
  cases c:seq g.1 s with
  | true=>rw [c] at hf;cases hf;rw [aZ,dm];omega
  | false =>
   rw [c] at hf
   have:=yE hf
   rw [aN,dm,dm]
   omega
theorem vH (l:bO) (s:ByteArray):cJ (ib l s)≤cJ l:=by
 cases h:bg l s with
 | some f=>have:=yE h;omega
 | none =>
  rcases gZ l s 0 with ⟨_,_,h3,_⟩ | ⟨n,_,_,h3,_⟩
  · rw [h3];exact Nat.le_refl _
  · rw [h] at h3;cases h3
theorem pc:∀ (l:bO) (f:Ty.den bR),(gw l f).length=l.length+1
 | [],f=>rfl
 | g::l,f=>by
  unfold gw
  cases mv f.1 g.1
  · rw [aN,lM,pc l f,lM]
  · rw [aZ,lM,lM]
theorem w9 (h:Ty.den bR→Ty.den bR):∀ (l:bO) (s:ByteArray),(ly h l s).length=l.length
 | [],s=>rfl
 | g::l,s=>by
  unfold ly
  cases seq g.1 s
  · rw [aN,lM,w9 h l s,lM]
  · rw [aZ,lM,lM]
theorem mM:∀ {l:bO} {s:ByteArray} {f:Ty.den bR},bg l s=some f→f ∈ l∧f.1=s
 | [],s,f,h=>by cases h
 | g::l,s,f,h=>by
  unfold bg at h
  cases c:seq g.1 s with
  | true=>rw [c] at h;cases h;exact ⟨pR ..,dY.1 c⟩
  | false =>
   rw [c] at h
   exact ⟨s9 _ (mM h).1,(mM h).2⟩
theorem ni:∀ {l:bO} {s:ByteArray},bg l s=none↔∀ f ∈ l,f.1≠s
 | [],s=>⟨fun _ f h=>(by cases h),fun _=>rfl⟩
 | g::l,s=>by
  unfold bg
  cases c:seq g.1 s with
  | true =>
   constructor
   · intro h;cases h
   · intro h;exact absurd (dY.1 c) (h g (pR ..))
  | false =>
   rw [aN,ni]
   constructor
   · intro h f hf
     rcases List.mem_cons.1 hf with e | e
     · rw [e];intro q;rw [IC q] at c;cases c
     · exact h f e
   · intro h f hf;exact h f (s9 _ hf)
theorem xA {f:Ty.den bR}:∀ {l:bO},iw (kt l)→(∀ g ∈ l,g.1≠f.1)→iw (kt (gw l f))
 | [],_,_=>by unfold gw;exact List.pairwise_singleton ..
 | g::l,h,hn=>by
  unfold iw kt at h
  rw [List.map_cons,List.pairwise_cons] at h
  unfold gw
  cases c:mv f.1 g.1 with
  | true =>
   rw [aZ]
   unfold iw kt
   rw [List.map_cons,List.pairwise_cons]
   refine ⟨fun x hx=>?_,by rw [List.map_cons,List.pairwise_cons];exact h⟩
   rw [List.map_cons] at hx
   rcases List.mem_cons.1 hx with e | e
   · rw [e];exact c
   · exact uL c (h.1 x e)
  | false =>
   rw [aN]
   have ih:=xA (f:=f) (l:=l) h.2 fun g' hg=>hn g' (s9 _ hg)
   unfold iw kt
   rw [List.map_cons,List.pairwise_cons]
   refine ⟨fun x hx=>?_,ih⟩
   obtain ⟨y,hy,rfl⟩:=List.mem_map.1 hx
   rcases AF.1 hy with e | e
   · rw [e]
     have ht:=m5 g.1 f.1
     rw [c,lb (hn g (pR ..))] at ht
     cases q:mv g.1 f.1 with
     | true=>rfl
     | false=>rw [q] at ht;cases ht
   · exact h.1 y.1 (List.mem_map.2 ⟨y,e,rfl⟩)
theorem rO {l m:bO} (h:m.Sublist l) (hk:iw (kt l)):iw (kt m):=List.Pairwise.sublist (h.map _) hk
theorem HX {l:bO} (hk:iw (kt l)) {s:ByteArray} {f:Ty.den bR} (h:bg l s=some f):bg (ib l s) s=none:=by
 induction l with
 | nil=>cases h
 | cons g l ih =>
  unfold iw kt at hk
  rw [List.map_cons,List.pairwise_cons] at hk
  unfold bg at h
  unfold ib
  cases c:seq g.1 s with
  | true =>
   rw [aZ,ni]
   intro x hx e
   have:=hk.1 x.1 (List.mem_map.2 ⟨x,hx,rfl⟩)
   rw [e,dY.1 c,sX] at this
   cases this
  | false =>
   rw [c] at h
   rw [aN]
   unfold bg
   rw [c,aN]
   exact ih hk.2 h
theorem qu {l:bO} (hk:iw (kt l)) (s:ByteArray):bg (ib l s) s=none:=by
 cases h:bg l s with
 | some f=>exact HX hk h
 | none =>
  rcases gZ l s 0 with ⟨h1,_,h3,_⟩ | ⟨n,_,_,h3,_⟩
  · rw [h3];exact h1
  · rw [h] at h3;cases h3
def GR (g:bO→Int→bO × Int):Prop:=∀ l c,l.length≤130→(0:Int)≤c→c≤100000→(cJ l:Int)≤c→(∀ f ∈ l,FO f)→iw (kt l) →
 (g l c).1.length≤130∧(cJ (g l c).1:Int)≤c∧(∀ f ∈ (g l c).1,FO f)∧iw (kt (g l c).1)
theorem ID {d:Ty.den a_} (h:DR d):DR (kA d).1:=by
 have hd:=iH.2 h
 have g0:=h.fu0
 have g1:=h.fu1
 unfold kA
 rw [hd]
 cases c1:d.2.2.2.1 with
 | true=>exact ⟨h.len,h.cap0,h.cap1,h.fu0,h.fu1,h.use,h.all,h.keys⟩
 | false =>
  cases c2:d.2.2.1==0 with
  | true=>exact ⟨h.len,h.cap0,h.cap1,h.fu0,h.fu1,h.use,h.all,h.keys⟩
  | false =>
   by_cases c3:(d.2.2.1:Int) > 0
   · have e:∀ x:Int,x > 0→x≤100000 → -1≤aF (x-1)∧aF (x-1)≤100000:=fun x q1 q2=>by
      rw [aD (by omega) (by omega)]
      omega
     have e:=e d.2.2.1 c3 g1
     rw [aP c3]
     exact ⟨h.len,h.cap0,h.cap1,e.1,e.2,h.use,h.all,h.keys⟩
   · rw [aQ c3]
     exact h
theorem s5 {g:bO→Int→bO × Int} (hg:GR g) {d:Ty.den a_} (h:DR d):DR (ii d g).1:=by
 have hb:=ID h
 unfold ii
 cases c:(kA d).2 != 0 with
 | true=>exact hb
 | false =>
  have hk:(kA d).1.2.1=d.2.1:=HD d
  obtain ⟨g1,g2,g3,g4⟩:=hg d.1 d.2.1 h.len h.cap0 h.cap1 h.use h.all h.keys
  exact ⟨g1,hb.cap0,hb.cap1,hb.fu0,hb.fu1,by show (cJ (g d.1 d.2.1).1:Int)≤(kA d).1.2.1;rw [hk];exact g2,g3,g4⟩
theorem Iw (s:ByteArray):GR (u9 s):=by
 intro l c h1 h2 h3 h4 h5 h6
 unfold u9
 cases hn:jt s with
 | false=>exact ⟨h1,h4,h5,h6⟩
 | true =>
  cases hs:(bg l s).isSome with
  | true=>exact ⟨h1,h4,h5,h6⟩
  | false =>
   by_cases hl:(l.length:Int)≥130
   · rw [aP hl];exact ⟨h1,h4,h5,h6⟩
   · rw [aQ hl]
     have hnone:bg l s=none:=by
      cases q:bg l s with
      | none=>rfl
      | some f=>rw [q] at hs;cases hs
     refine ⟨by show (gw l _).length≤130;rw [pc];omega,by show (cJ (gw l _):Int)≤c;rw [nO];exact h4,fun f hf=>?_,xA h6 (ni.1 hnone)⟩
     rcases AF.1 hf with e | e
     · rw [e];exact ⟨hn,Int.le_refl _,by show (0:Int)≤_;omega⟩
     · exact h5 f e
theorem Iy (s t:ByteArray):GR (yQ s t):=by
 intro l c h1 h2 h3 h4 h5 h6
 unfold yQ
 cases hs:bg l s with
 | none=>exact ⟨h1,h4,h5,h6⟩
 | some f =>
  simp only [Option.isNone_some,aN]
  rw [aD (by omega) (by omega)]
  by_cases ht:(t.size:Int) > c-(cJ l:Int)
  · rw [aP ht];exact ⟨h1,h4,h5,h6⟩
  · rw [aQ ht]
    have hu:=tA (h:=fun f=>(f.1,(f.2.1++t,f.2.2))) hs
    have hz:(f.2.1++t).size=f.2.1.size+t.size:=ByteArray.size_append ..
    simp only [hz] at hu
    refine ⟨by show (ly _ l s).length≤130;rw [w9];exact h1,by show (cJ (ly _ l s):Int)≤c;omega,fun x hx=>?_,xl (by intro f;rfl) h6⟩
    rcases vu hx with q | ⟨y,q1,q2⟩
    · exact h5 x q
    · obtain ⟨a,b,c'⟩:=h5 y (mM q1).1
      rw [q2]
      refine ⟨a,b,?_⟩
      show LE.le (α:=Int) y.2.2.1 ((y.2.1++t).size:Int)
      have:(y.2.1++t).size=y.2.1.size+t.size:=ByteArray.size_append ..
      omega
theorem J9 (s:ByteArray):GR (Am s):=by
 intro l c h1 h2 h3 h4 h5 h6
 unfold Am
 cases hs:bg l s with
 | none=>exact ⟨h1,h4,h5,h6⟩
 | some f =>
  simp only [Option.isNone_some,aN]
  have hu:=tA (h:=fun f=>(f.1,(f.2.1,((f.2.1.size:Int),f.2.2.2)))) hs
  refine ⟨by show (ly _ l s).length≤130;rw [w9];exact h1,by show (cJ (ly _ l s):Int)≤c;simp only [] at hu;omega,fun x hx=>?_,xl (by intro f;rfl) h6⟩
  rcases vu hx with q | ⟨y,q1,q2⟩
  · exact h5 x q
  · obtain ⟨a,b,c'⟩:=h5 y (mM q1).1
    rw [q2]
    exact ⟨a,by show (0:Int)≤(y.2.1.size:Int);omega,Int.le_refl _⟩
theorem JR (s:ByteArray):GR (vf s):=by
 intro l c h1 h2 h3 h4 h5 h6
 unfold vf
 cases hs:bg l s with
 | none=>exact ⟨h1,h4,h5,h6⟩
 | some f =>
  have hd:=mz l s
  have hu:=vH l s
  exact ⟨Nat.le_trans hd.length_le h1,by show (cJ (ib l s):Int)≤c;omega,fun x hx=>h5 x (hd.subset hx),rO hd h6⟩
theorem rV (s:ByteArray) {n:Nat} (h:n≤s.size):(ByteArray.extract s 0 n).size=n:=by
 rw [ByteArray.size_extract]
 omega
theorem JM (s:ByteArray) (n:Int):GR (C9 s n):=by
 intro l c h1 h2 h3 h4 h5 h6
 unfold C9
 cases hs:bg l s with
 | none=>exact ⟨h1,h4,h5,h6⟩
 | some f =>
  simp only []
  by_cases hn:0≤n∧n≤(f.2.1.size:Int)
  · rw [aP hn]
    have hu:=tA (h:=fun f=>(f.1,(ByteArray.extract f.2.1 0 n.toNat,((if n<f.2.2.1 then n else f.2.2.1),f.2.2.2)))) hs
    have hz:=rV f.2.1 (n:=n.toNat) (by omega)
    simp only [hz] at hu
    refine ⟨by show (ly _ l s).length≤130;rw [w9];exact h1,by show (cJ (ly _ l s):Int)≤c;omega,fun x hx=>?_,xl (by intro f;rfl) h6⟩
    rcases vu hx with q | ⟨y,q1,q2⟩
    · exact h5 x q
    · rw [hs] at q1
      cases q1
      obtain ⟨a,b,c'⟩:=h5 f (mM hs).1
      rw [q2]
      refine ⟨a,?_,?_⟩
      · show (0:Int)≤if n<f.2.2.1 then n else f.2.2.1
        split <;> omega
      · show (if n<f.2.2.1 then n else f.2.2.1)≤((ByteArray.extract f.2.1 0 n.toNat).size:Int)
        rw [hz]
        split <;> omega
  · rw [aQ hn];exact ⟨h1,h4,h5,h6⟩
theorem JE (a b:ByteArray):GR (ye a b):=by
 intro l c h1 h2 h3 h4 h5 h6
 unfold ye
 cases hn:jt b with
 | false=>exact ⟨h1,h4,h5,h6⟩
 | true =>
  simp only [fV,aN]
  cases hs:bg l a with
  | none=>exact ⟨h1,h4,h5,h6⟩
  | some f =>
   simp only []
   cases seq a b with
   | true=>exact ⟨h1,h4,h5,h6⟩
   | false =>
    simp only [aN]
    have hd:=mz l a
    have hd2:=mz (ib l a) b
    have hu:=yE hs
    have hu2:=vH (ib l a) b
    have hk2:=rO (hd2.trans hd) h6
    have hl:=gZ l a 0
    have hlen:(ib l a).length+1=l.length:=by
     rcases gZ l a 0 with ⟨q,_⟩ | ⟨n,q1,_,_,q4,_⟩
     · rw [hs] at q;cases q
     · rw [← q4,vW,List.length_take,List.length_drop];omega
    have hlen2:=hd2.length_le
    refine ⟨by rw [pc];omega,by rw [nO];show ((cJ (ib (ib l a) b)+f.2.1.size:Nat):Int)≤c;omega,fun x hx=>?_,xA hk2 (ni.1 (qu (rO hd h6) b))⟩
    rcases AF.1 hx with e | e
    · rw [e]
      exact ⟨hn,(h5 f (mM hs).1).2.1,(h5 f (mM hs).1).2.2⟩
    · exact h5 x ((hd2.trans hd).subset e)
theorem xr {d:Ty.den a_} (h:DR d) (s:ByteArray):DR (qS d s).1:=s5 (Iw s) h
theorem qC {d:Ty.den a_} (h:DR d) (s t:ByteArray):DR (iv d s t).1:=s5 (Iy s t) h
theorem nS {d:Ty.den a_} (h:DR d) (s:ByteArray):DR (j8 d s).1:=s5 (J9 s) h
theorem GC {d:Ty.den a_} (h:DR d) (a b:ByteArray):DR (vp d a b).1:=s5 (JE a b) h
theorem AB {d:Ty.den a_} (h:DR d) (s:ByteArray):DR (sR d s).1:=s5 (JR s) h
theorem ug {d:Ty.den a_} (h:DR d) (s:ByteArray) (n:Int):DR (mm d s n).1:=s5 (JM s n) h
end Go.Proofs.YtohaanhjddohmaaGreatDoor.G
namespace Go.Proofs.YtohaanhjddohmaaGreatDoor.G
open Go.V
theorem kc (k:Nat) {d:Ty.den a_} (hd:xy d):cU.f k d=some (d,()):=by
 have hl:=hd.l
 unfold cU.f cU.t
 rw [bK (by omega) (by decide),List.nil_append]
theorem kX {k:Nat} (hk:2 ^ 50≤k) {d:Ty.den a_} (hd:xy d):d_.f k d=some ((kA d).1,((kA d).2,())):=by
 have hu:=hd.u
 have hn:=hd.n
 unfold d_.f d_.t kA
 rw [kc k hd,aO,kI hk (by omega) (by omega),aO]
 cases fh d <;> cases d.2.2.2.1 <;> cases d.2.2.1==0 <;> cases decide ((d.2.2.1:Int) > 0) <;> rfl
theorem k0 {k:Nat} (hk:2 ^ 50≤k) {l:bO} (f:Ty.den bR) (hl:l.length≤1073741824):b7.f k l f=some (gw l f,()):=by
 unfold b7.f b7.t
 refine (du (L:=fun n i (s:Bool × bO)=>b7.l0 k n l s.1 i f.1 f.2.1 f.2.2.1 s.2) (R:=fun r s=>some (s.2++(bif s.1 then r else gw r f),())) (Ty.dflt bR) l (fun i s=>(s.2.length:Int)≤i+1∧(s.1=false→(s.2.length:Int)≤i)) (fun n s hs=>?_) (fun n i s x rest h0 h1 hx hr hs ih=>?_) (n:=k) (s:=(false,[])) (by omega) ⟨by simp,by simp⟩).trans ?_
 · obtain ⟨b,o⟩:=s
   simp only [] at hs
   simp only [b7.l0,b7.b0]
   rw [aQ (by omega),aN]
   cases b with
   | true=>simp only [fV,aN,aZ,List.append_nil]
   | false=>simp only [ot,aN,aZ];rw [bK (by omega) (by decide)];rfl
 · obtain ⟨b,o⟩:=s
   simp only [] at hs ih
   simp only [b7.l0,b7.b0]
   rw [aP h1,aZ]
   have hlo:(o++[(f.1,(f.2.1,(f.2.2.1,())))]).length=o.length+1:=by simp
   obtain ⟨hs1,hs2⟩:=hs
   simp (disch:=first | omega | decide) only [aG,hx,bK,aD,m5,Bool.not_not]
   cases b with
   | true =>
    have i1:=ih (true,o++[x]) ⟨by simp only [bJ];omega,fun q=>(by cases q)⟩
    simp only [] at i1
    simp only [fV,aN,aZ]
    rw [i1]
    simp only [aZ,rX,List.singleton_append]
   | false =>
    have hs2:=hs2 rfl
    have i2:=ih (false,o++[x]) ⟨by simp only [bJ];omega,fun _=>by simp only [bJ];omega⟩
    simp only [] at i2
    simp only [ot,aZ,aN]
    unfold gw
    cases c:mv f.1 x.1 with
    | true =>
     simp only [aZ]
     have i3:=ih (true,(o++[(f.1,(f.2.1,(f.2.2.1,())))])++[x]) ⟨by simp only [bJ];omega,fun q=>(by cases q)⟩
     simp only [] at i3
     rw [i3]
     simp only [aZ,rX,List.singleton_append]
     rfl
    | false =>
     simp only [aN]
     rw [i2]
     simp only [aN,rX,List.singleton_append]
 · simp only [aN,List.nil_append]
theorem lf (k:Nat) {l:bO} {n:Nat} (hn:n<l.length) (hl:l.length≤1073741824):dk.f k l (n:Int)=some (l.take n++l.drop (n+1),()):=by
 unfold dk.f dk.t
 have e:aF ((n:Int)+1)=((n+1:Nat):Int):=by rw [aD (by omega) (by omega)];omega
 rw [e,nK,nK,br (by omega) (by omega),br (by omega) (by omega),bK (by rw [List.length_take];omega) (by decide),bK (by rw [vW,List.length_take,List.length_drop];simp only [List.length_nil];omega) (by decide),List.nil_append]
theorem nI (d:Ty.den a_):∃ b2,(kA d).1=(d.1,b2):=⟨(kA d).1.2,Prod.ext (pW d) rfl⟩
theorem nr {k:Nat} (hk:2 ^ 50≤k) {d:Ty.den a_} (hd:xy d) {s:ByteArray} (hs:s.size≤1099511627776):eG.f k d s=some ((qS d s).1,((qS d s).2,())):=by
 have hl:=hd.l
 unfold eG.f eG.t qS ii
 rw [kX hk hd,aO]
 obtain ⟨b2,hb⟩:=nI d
 simp only [hb]
 cases c:(kA d).2 != 0 with
 | true=>rw [aZ,aZ,hb]
 | false =>
  rw [aN,aN,oP hk hs,aO]
  unfold u9
  cases jt s with
  | false=>rfl
  | true =>
   simp only [fV,aN]
   rw [iV hk (by omega),aO]
   rcases gZ d.1 s 0 with ⟨h1,h2,_⟩ | ⟨n,h1,h2,h3,_⟩
   · rw [h1,h2]
     simp only [Option.isSome_none,aN]
     rw [aQ (by decide),aN]
     by_cases cl:(d.1.length:Int)≥130
     · rw [aP cl];rfl
     · rw [aQ cl,aN,aN,k0 hk _ (by omega),aO]
   · rw [h2,h3]
     simp only [Option.isSome_some,aZ]
     rw [aP (by omega),aZ]
theorem nW {k:Nat} (hk:2 ^ 50≤k) {d:Ty.den a_} (hd:xy d) (s:ByteArray) {t:ByteArray} (ht:t.size≤1099511627776):cI.f k d s t=some ((iv d s t).1,((iv d s t).2,())):=by
 have hl:=hd.l
 have hu:=hd.u
 unfold cI.f cI.t iv ii
 rw [kX hk hd,aO]
 obtain ⟨b2,hb⟩:=nI d
 simp only [hb]
 cases c:(kA d).2 != 0 with
 | true=>rw [aZ,aZ,hb]
 | false =>
  rw [aN,aN,iV hk (by omega),aO]
  unfold yQ
  rcases gZ d.1 s 0 with ⟨h1,h2,_⟩ | ⟨n,h1,h2,h3,_,_,h6⟩
  · rw [h1,h2]
    simp only [Option.isNone_none,aZ]
    rw [aP (by decide),aZ]
  · rw [Int.zero_add] at h2
    rw [h2,h3]
    simp only [Option.isNone_some,aN]
    rw [aQ (by omega),aN,oL hk (by omega) (by omega),aO]
    simp only []
    cases decide ((t.size:Int) > aF (d.2.1-(cJ d.1:Int))) with
    | true=>rfl
    | false =>
     have hm:=nn (mM h3).1
     rw [aN,aN,nK,aG (by omega) (by omega),aG (by omega) (by omega),dW (Nat.le_trans (Nat.add_le_add (Nat.le_trans hm hu) ht) (by decide)),← h6]
theorem lI {k:Nat} (hk:2 ^ 50≤k) {d:Ty.den a_} (hd:xy d) (s:ByteArray):cy.f k d s=some ((j8 d s).1,((j8 d s).2,())):=by
 have hl:=hd.l
 unfold cy.f cy.t j8 ii
 rw [kX hk hd,aO]
 obtain ⟨b2,hb⟩:=nI d
 simp only [hb]
 cases c:(kA d).2 != 0 with
 | true=>rw [aZ,aZ,hb]
 | false =>
  rw [aN,aN,iV hk (by omega),aO]
  unfold Am
  rcases gZ d.1 s 0 with ⟨h1,h2,_⟩ | ⟨n,h1,h2,h3,_,_,h6⟩
  · rw [h1,h2]
    simp only [Option.isNone_none,aZ]
    rw [aP (by decide),aZ]
  · rw [Int.zero_add] at h2
    rw [h2,h3]
    simp only [Option.isNone_some,aN]
    rw [aQ (by omega),aN,nK,aG (by omega) (by omega),aG (by omega) (by omega),← h6]
theorem wU {k:Nat} (hk:2 ^ 50≤k) {d:Ty.den a_} (hd:xy d) (a:ByteArray) {b:ByteArray} (hs:b.size≤1099511627776):fb.f k d a b=some ((vp d a b).1,((vp d a b).2,())):=by
 have hl:=hd.l
 unfold fb.f fb.t vp ii
 rw [kX hk hd,aO]
 obtain ⟨b2,hb⟩:=nI d
 simp only [hb]
 cases c:(kA d).2 != 0 with
 | true=>rw [aZ,aZ,hb]
 | false =>
  rw [aN,aN,oP hk hs,aO]
  unfold ye
  cases jt b with
  | false=>rfl
  | true =>
   simp only [fV,aN]
   rw [iV hk (by omega),aO]
   rcases gZ d.1 a 0 with ⟨h1,h2,_⟩ | ⟨n,h1,h2,h3,h4,_,_⟩
   · rw [h1,h2]
     simp only []
     rw [aP (by decide),aZ]
   · rw [Int.zero_add] at h2
     rw [h2,h3]
     simp only []
     rw [aQ (by omega),aN]
     cases seq a b with
     | true=>rfl
     | false =>
      have hd1:=(mz d.1 a).length_le
      rw [aN,aN,nK,aG (by omega) (by omega),lf k h1 (by omega),aO,h4]
      simp only []
      rw [iV hk (d:=(ib d.1 a,b2)) (by show (ib d.1 a).length≤_;omega),aO]
      simp only []
      rcases gZ (ib d.1 a) b 0 with ⟨g1,g2,g3,_⟩ | ⟨m,g1,g2,g3,g4,_⟩
      · rw [g2,g3,aQ (by decide),aN,k0 hk _ (by omega),aO]
      · rw [Int.zero_add] at g2
        have hd2:=(mz (ib d.1 a) b).length_le
        rw [g2,aP (by omega),aZ,lf k g1 (by omega),aO,g4]
        simp only []
        rw [k0 hk _ (by omega),aO]
end Go.Proofs.YtohaanhjddohmaaGreatDoor.G
namespace Go.Proofs.YtohaanhjddohmaaGreatDoor.G
open Go.V
theorem sr {k:Nat} (hk:2 ^ 50≤k) {d:Ty.den a_} (hd:xy d) (s:ByteArray):gW.f k d s=some ((sR d s).1,((sR d s).2,())):=by
 have hl:=hd.l
 unfold gW.f gW.t sR ii
 rw [kX hk hd,aO]
 obtain ⟨b2,hb⟩:=nI d
 simp only [hb]
 cases c:(kA d).2 != 0 with
 | true=>rw [aZ,aZ,hb]
 | false =>
  rw [aN,aN,iV hk (by omega),aO]
  unfold vf
  rcases gZ d.1 s 0 with ⟨h1,h2,_⟩ | ⟨n,h1,h2,h3,h4,_⟩
  · rw [h1,h2]
    simp only [Option.isNone_none,aZ]
    rw [aP (by decide),aZ]
  · rw [Int.zero_add] at h2
    rw [h2,h3]
    simp only [Option.isNone_some,aN]
    rw [aQ (by omega),aN,lf k h1 (by omega),aO,h4]
theorem tF {l:bO} {n:Nat} (h:n<l.length) (x z:Ty.den bR):(l.set n x).getD n z=x:=by
 simp [List.getD,h]
theorem set_set {l:bO} {n:Nat} (x y:Ty.den bR):(l.set n x).set n y=l.set n y:=by simp
theorem D1 {k:Nat} (hk:2 ^ 50≤k) {d:Ty.den a_} (hd:xy d) (s:ByteArray) (m:Int):iU.f k d s m=some ((mm d s m).1,((mm d s m).2,())):=by
 have hl:=hd.l
 unfold iU.f iU.t mm ii
 rw [kX hk hd,aO]
 obtain ⟨b2,hb⟩:=nI d
 simp only [hb]
 cases c:(kA d).2 != 0 with
 | true=>rw [aZ,aZ,hb]
 | false =>
  rw [aN,aN,iV hk (by omega),aO]
  unfold C9
  rcases gZ d.1 s 0 with ⟨h1,h2,_⟩ | ⟨n,h1,h2,h3,_,_,h6⟩
  · rw [h1,h2]
    simp only []
    rw [aP (by decide),aZ]
  · rw [Int.zero_add] at h2
    rw [h2,h3]
    simp only []
    rw [aQ (by omega),aN,nK,aG (by omega) (by omega),gS,aO]
    by_cases hm:0≤m∧m≤((d.1.getD n (Ty.dflt bR)).2.1.size:Int)
    · rw [aP hm]
      simp only [fV,aN]
      rw [aG (by omega) (by omega),br hm.1 hm.2,aG (by omega) (by omega),aG (by omega) (by omega),aG (by omega) (by rw [List.length_set];omega),tF h1,set_set,← h6]
    · rw [aQ hm]
      rfl
end Go.Proofs.YtohaanhjddohmaaGreatDoor.G
namespace Go.Proofs.YtohaanhjddohmaaGreatDoor.G
open Go.V
theorem ji (k:Nat) {d:Ty.den a_} (hl:d.1.length≤1073741824):c8.f k d=some (d,()):=by
 unfold c8.f c8.t
 rw [bK (by omega) (by decide)]
theorem tX:∀ {l:bO} {a:ByteArray} {f:Ty.den bR},iw (kt l)→bg l a=some f→gw (ib l a) (a,f.2)=l
 | [],a,f,_,h=>by cases h
 | g::l,a,f,hk,h=>by
  have hk':(∀ x ∈ kt l,mv g.1 x=true)∧iw (kt l):=List.pairwise_cons.1 hk
  unfold bg at h
  unfold ib
  cases c:seq g.1 a with
  | true =>
   rw [c] at h
   cases h
   rw [aZ]
   have e:=dY.1 c
   subst e
   cases l with
   | nil=>rfl
   | cons x l =>
    have:=hk'.1 x.1 (pR ..)
    unfold gw
    rw [this]
    rfl
  | false =>
   rw [c] at h
   rw [aN]
   have hm:=mM h
   have h1:mv g.1 a=true:=by have:=hk'.1 f.1 (List.mem_map.2 ⟨f,hm.1,rfl⟩);rw [hm.2] at this;exact this
   unfold gw
   rw [F0 h1,aN,tX hk'.2 h]
theorem qs {k:Nat} (hk:2 ^ 50≤k) {d:Ty.den a_} (hl:d.1.length≤1073741824) (s:ByteArray):eX.f k d s=some ((ib d.1 s,d.2),()):=by
 unfold eX.f eX.t
 rw [j3 hk (by omega),aO]
 rcases gZ d.1 s 0 with ⟨h1,h2,h3,_⟩ | ⟨n,h1,h2,h3,h4,_⟩
 · rw [h2,h3]
   simp only []
   rw [aQ (by decide),aN]
 · rw [Int.zero_add] at h2
   rw [h2,← h4]
   have e:aF ((n:Int)+1)=((n+1:Nat):Int):=by rw [aD (by omega) (by omega)];omega
   simp only [e,nK]
   rw [aP (by omega),aZ,br (by omega) (by omega),bK (by rw [List.length_take];omega) (by decide),br (by omega) (by omega),bK (by rw [List.length_take,List.length_drop];omega) (by decide)]
theorem wo {k:Nat} (hk:2 ^ 50≤k) {d:Ty.den a_} (hl:d.1.length≤1073741824) (f:Ty.den bR) (hn:∀ g ∈ d.1,g.1≠f.1):d8.f k d f=some ((gw d.1 f,d.2),()):=by
 unfold d8.f d8.t
 have key:=H_ (L:=fun n i (_:Unit)=>d8.l0 k n i d.1 d.2.1 d.2.2.1 d.2.2.2.1 f.1 f.2.1 f.2.2.1) (R:=fun i _=>some ((d.1.take i.toNat++gw (d.1.drop i.toNat) f,d.2),())) d.1.length (fun _ _=>True) (fun n _ _=>?_) (fun n i _ h0 h1 _ ih=>?_) k 0 () (by omega) (by omega) (by omega) trivial
 · rw [show (0:Int).toNat=0 from rfl,List.take_zero,List.nil_append,List.drop_zero] at key
   exact key
 · simp only [d8.l0,d8.b0]
   rw [aQ (by omega),aN,nK,br (by omega) (by omega),bK (by rw [List.length_take];omega) (by decide),bK (by rw [List.length_take];omega) (by decide),br (by omega) (by omega),bK (by rw [vW,List.length_take,List.length_drop];simp only [List.length_singleton];omega) (by decide),List.drop_length,List.append_nil]
   rfl
 · have ih:=ih () trivial
   have hlt:i.toNat<d.1.length:=by omega
   have e:d.1.drop i.toNat=d.1.getD i.toNat (Ty.dflt bR)::d.1.drop (i.toNat+1):=by
    rw [List.drop_eq_getElem_cons hlt]
    simp [List.getD,hlt]
   have hne:(d.1.getD i.toNat (Ty.dflt bR)).1≠f.1:=hn _ (gP hlt)
   have ht:=m5 (d.1.getD i.toNat (Ty.dflt bR)).1 f.1
   rw [lb hne,Bool.or_false] at ht
   simp only [d8.l0,d8.b0]
   rw [aP h1,aZ,aG h0 h1,aD (n:=i+1) (by omega) (by omega),ih]
   rw [show gw (d.1.drop i.toNat) f=bif mv f.1 (d.1.getD i.toNat (Ty.dflt bR)).1 then f::d.1.drop i.toNat else d.1.getD i.toNat (Ty.dflt bR)::gw (d.1.drop (i.toNat+1)) f by rw [e];rfl]
   rw [show mv (List.getD d.1 i.toNat (Ty.dflt bR)).1 f.1=!mv f.1 (d.1.getD i.toNat (Ty.dflt bR)).1 from ht]
   cases c:mv f.1 (d.1.getD i.toNat (Ty.dflt bR)).1 with
   | false =>
    rw [show (i+1).toNat=i.toNat+1 by omega,jX (z:=Ty.dflt bR) hlt,rX]
    rfl
   | true =>
    rw [fV,aN,aZ,br h0 (by omega),bK (by rw [List.length_take];omega) (by decide),bK (by rw [List.length_take];omega) (by decide),br h0 (by omega),bK (by rw [vW,List.length_take,List.length_drop];simp only [List.length_singleton];omega) (by decide),rX]
    rfl
theorem AA {k:Nat} (hk:2 ^ 50≤k) {d:Ty.den a_} (hl:d.1.length≤1073741824) (hu:cJ d.1≤1073741824):iX.f k d=some ((cJ d.1:Int),()):=by
 unfold iX.f iX.t
 refine (du (L:=fun n i s=>iX.l0 k n s d.1 d.1.length i) (R:=fun r s=>some (s+(cJ r:Int),())) (Ty.dflt bR) d.1 (fun i s=>0≤s∧s+(cJ (d.1.drop i.toNat):Int)≤1099511627776) (fun n s hs=>?_) (fun n i s x rest h0 h1 hx hr hp ih=>?_) (n:=k) (s:=0) (by omega) ⟨by omega,by rw [show d.1.drop (Int.toNat 0)=d.1 from rfl];omega⟩).trans (by rw [Int.zero_add])
 · simp (disch:=omega) only [iX.l0,iX.b0,aQ,aN]
   show some (s,())=some (s+((0:Nat):Int),())
   rw [show s+((0:Nat):Int)=s by omega]
 · have hrest:d.1.drop (i+1).toNat=rest:=by
    have:=congrArg (List.drop 1) hr
    rw [List.drop_drop,List.drop_one,List.tail_cons] at this
    rw [show (i+1).toNat=i.toNat+1 by omega]
    exact this
   rw [hr,dm] at hp
   have ih:=ih (s+(x.2.1.size:Int)) ⟨by omega,by rw [hrest];omega⟩
   simp (disch:=omega) only [iX.l0,iX.b0,aP h1,aZ,aG,hx,aD,ih]
   rw [show s+(x.2.1.size:Int)+(cJ rest:Int)=s+((x.2.1.size+cJ rest:Nat):Int) by omega]
   show _=some (s+((cJ (x::rest):Nat):Int),())
   rw [dm]
theorem HR {k:Nat} (hk:2 ^ 50≤k) {d:Ty.den a_} (hl:d.1.length≤1073741824) {s:ByteArray} (hs:s.size≤1099511627776) :
 fk.f k d s=some (((u9 s d.1 d.2.1).1,d.2),(s,((u9 s d.1 d.2.1).2,()))):=by
 unfold fk.f fk.t u9
 rw [oG hk hs,aO]
 cases jt s with
 | false=>rfl
 | true =>
  simp only [fV,aN]
  rw [j3 hk (by omega),aO]
  rcases gZ d.1 s 0 with ⟨h1,h2,_⟩ | ⟨n,h1,h2,h3,_⟩
  · rw [h1,h2]
    simp only [Option.isSome_none,aN]
    rw [aQ (by decide),aN]
    by_cases cl:(d.1.length:Int)≥130
    · rw [aP cl];rfl
    · rw [aQ cl,aN,aN,wo hk hl _ (ni.1 h1),aO]
  · rw [h2,h3]
    simp only [Option.isSome_some,aZ]
    rw [aP (by omega),aZ]
theorem Gb {k:Nat} (hk:2 ^ 50≤k) {d:Ty.den a_} (hl:d.1.length≤1073741824) (hu:cJ d.1≤1073741824) (s:ByteArray) {t:ByteArray} (ht:t.size≤1099511627776) :
 fi.f k d s t=some (((yQ s t d.1 d.2.1).1,d.2),(s,(t,((yQ s t d.1 d.2.1).2,())))):=by
 unfold fi.f fi.t yQ
 rw [j3 hk (by omega),aO]
 rcases gZ d.1 s 0 with ⟨h1,h2,_⟩ | ⟨n,h1,h2,h3,_,_,h6⟩
 · rw [h1,h2]
   simp only [Option.isNone_none,aZ]
   rw [aP (by decide),aZ]
 · rw [Int.zero_add] at h2
   rw [h2,h3]
   simp only [Option.isNone_some,aN]
   rw [aQ (by omega),aN,AA hk hl hu,aO]
   simp only []
   cases decide ((t.size:Int) > aF (d.2.1-(cJ d.1:Int))) with
   | true=>rfl
   | false =>
    have hm:=nn (mM h3).1
    rw [aN,aN,nK,aG (by omega) (by omega),dW (Nat.le_trans (Nat.add_le_add (Nat.le_trans hm hu) ht) (by decide)),aG (by omega) (by omega),← h6]
theorem HL {k:Nat} (hk:2 ^ 50≤k) {d:Ty.den a_} (hl:d.1.length≤1073741824) (s:ByteArray) :
 hZ.f k d s=some (((Am s d.1 d.2.1).1,d.2),(s,((Am s d.1 d.2.1).2,()))):=by
 unfold hZ.f hZ.t Am
 rw [j3 hk (by omega),aO]
 rcases gZ d.1 s 0 with ⟨h1,h2,_⟩ | ⟨n,h1,h2,h3,_,_,h6⟩
 · rw [h1,h2]
   simp only [Option.isNone_none,aZ]
   rw [aP (by decide),aZ]
 · rw [Int.zero_add] at h2
   rw [h2,h3]
   simp only [Option.isNone_some,aN]
   rw [aQ (by omega),aN,nK,aG (by omega) (by omega),aG (by omega) (by omega),← h6]
theorem G9 {k:Nat} (hk:2 ^ 50≤k) {d:Ty.den a_} (hl:d.1.length≤1073741824) (s:ByteArray) :
 fo.f k d s=some (((vf s d.1 d.2.1).1,d.2),(s,((vf s d.1 d.2.1).2,()))):=by
 unfold fo.f fo.t vf
 rw [j3 hk (by omega),aO]
 rcases gZ d.1 s 0 with ⟨h1,h2,_⟩ | ⟨n,h1,h2,h3,_⟩
 · rw [h1,h2]
   simp only [Option.isNone_none,aZ]
   rw [aP (by decide),aZ]
 · rw [Int.zero_add] at h2
   rw [h2,h3]
   simp only [Option.isNone_some,aN]
   rw [aQ (by omega),aN,qs hk hl,aO]
theorem H5 {k:Nat} (hk:2 ^ 50≤k) {d:Ty.den a_} (hl:d.1.length≤1073741824) (s:ByteArray) (m:Int) :
 eW.f k d s m=some (((C9 s m d.1 d.2.1).1,d.2),(s,(m,((C9 s m d.1 d.2.1).2,())))):=by
 unfold eW.f eW.t C9
 rw [j3 hk (by omega),aO]
 rcases gZ d.1 s 0 with ⟨h1,h2,_⟩ | ⟨n,h1,h2,h3,_,_,h6⟩
 · rw [h1,h2]
   simp only []
   rw [aP (by decide),aZ]
 · rw [Int.zero_add] at h2
   rw [h2,h3]
   simp only []
   rw [aQ (by omega),aN,nK,aG (by omega) (by omega),kR,aO]
   by_cases hm:0≤m∧m≤((d.1.getD n (Ty.dflt bR)).2.1.size:Int)
   · rw [aP hm]
     simp only [fV,aN]
     rw [br hm.1 hm.2,← h6]
     have g:∀ x z:Ty.den bR,(d.1.set n x).getD n z=x:=fun x z=>by simp [List.getD,h1]
     rw [g,List.set_set]
   · rw [aQ hm]
     rfl
theorem G1 {k:Nat} (hk:2 ^ 50≤k) {d:Ty.den a_} (hl:d.1.length≤1073741824) (hs:iw (kt d.1)) (a:ByteArray) {b:ByteArray} (hb:b.size≤1099511627776) :
 fj.f k d a b=some (((ye a b d.1 d.2.1).1,d.2),(a,(b,((ye a b d.1 d.2.1).2,())))):=by
 unfold fj.f fj.t ye
 rw [j3 hk (by omega),aO,oG hk hb,aO]
 cases jt b with
 | false=>rfl
 | true =>
  simp only [fV,aN]
  rcases gZ d.1 a 0 with ⟨h1,h2,_⟩ | ⟨n,h1,h2,h3,_,_,_⟩
  · rw [h1,h2,aP (by decide),aZ]
  · have hd1:=mz d.1 a
    have hd2:=mz (ib d.1 a) b
    have l1:=hd1.length_le
    have l2:=hd2.length_le
    rw [Int.zero_add] at h2
    rw [h2,h3]
    simp only []
    rw [aQ (by omega),aN,aG (by omega) (by omega),qs hk hl,aO]
    simp only []
    rw [qs hk (d:=(ib d.1 a,d.2)) (by show (ib d.1 a).length≤_;omega),aO]
    simp only []
    rw [wo hk (d:=(ib (ib d.1 a) b,d.2)) (by show (ib (ib d.1 a) b).length≤_;omega) _ (ni.1 (qu (rO hd1 hs) b)),aO,nK]
    cases c:seq a b with
    | false=>rfl
    | true =>
     have e:=dY.1 c
     subst e
     have hg:ib (ib d.1 a) a=ib d.1 a:=by
      rcases gZ (ib d.1 a) a 0 with ⟨_,_,g3,_⟩ | ⟨m,_,_,g3,_⟩
      · exact g3
      · rw [qu hs a] at g3;cases g3
     have hi:=tX hs h3
     simp only [hg,aZ]
     rw [hi]
theorem E5 {k:Nat} (hk:2 ^ 50≤k) {d:Ty.den a_} (hd:xy d) {s:ByteArray} (hs:s.size≤1099511627776):jd.f k d s=some ((qS d s).1,((qS d s).2,())):=by
 have hl:=hd.l
 have hu:=hd.u
 have hn:=hd.n
 have h1:∀ b2,fk.f k (d.1,b2) s=_:=fun b2=>HR hk (d:=(d.1,b2)) hl hs
 unfold jd.f jd.t g8.f g8.t qS ii kA
 rw [ji k hl,aO,j7 hk (by omega) (by omega),aO]
 simp only [h1,aO,show fk.f k d s=_ from h1 d.2]
 cases fh d <;> cases d.2.2.2.1 <;> cases d.2.2.1==0 <;> cases decide ((d.2.2.1:Int) > 0) <;> rfl
theorem DW {k:Nat} (hk:2 ^ 50≤k) {d:Ty.den a_} (hd:xy d) (s:ByteArray) {t:ByteArray} (ht:t.size≤1099511627776):jf.f k d s t=some ((iv d s t).1,((iv d s t).2,())):=by
 have hl:=hd.l
 have hu:=hd.u
 have hn:=hd.n
 have h1:∀ b2,fi.f k (d.1,b2) s t=_:=fun b2=>Gb hk (d:=(d.1,b2)) hl hu s ht
 unfold jf.f jf.t fw.f fw.t iv ii kA
 rw [ji k hl,aO,j7 hk (by omega) (by omega),aO]
 simp only [h1,aO,show fi.f k d s t=_ from h1 d.2]
 cases fh d <;> cases d.2.2.2.1 <;> cases d.2.2.1==0 <;> cases decide ((d.2.2.1:Int) > 0) <;> rfl
theorem DA {k:Nat} (hk:2 ^ 50≤k) {d:Ty.den a_} (hd:xy d) (s:ByteArray):lQ.f k d s=some ((j8 d s).1,((j8 d s).2,())):=by
 have hl:=hd.l
 have hu:=hd.u
 have hn:=hd.n
 have h1:∀ b2,hZ.f k (d.1,b2) s=_:=fun b2=>HL hk (d:=(d.1,b2)) hl s
 unfold lQ.f lQ.t gf.f gf.t j8 ii kA
 rw [ji k hl,aO,j7 hk (by omega) (by omega),aO]
 simp only [h1,aO,show hZ.f k d s=_ from h1 d.2]
 cases fh d <;> cases d.2.2.2.1 <;> cases d.2.2.1==0 <;> cases decide ((d.2.2.1:Int) > 0) <;> rfl
theorem Df {k:Nat} (hk:2 ^ 50≤k) {d:Ty.den a_} (hd:xy d) (s:ByteArray):jh.f k d s=some ((sR d s).1,((sR d s).2,())):=by
 have hl:=hd.l
 have hu:=hd.u
 have hn:=hd.n
 have h1:∀ b2,fo.f k (d.1,b2) s=_:=fun b2=>G9 hk (d:=(d.1,b2)) hl s
 unfold jh.f jh.t fv.f fv.t sR ii kA
 rw [ji k hl,aO,j7 hk (by omega) (by omega),aO]
 simp only [h1,aO,show fo.f k d s=_ from h1 d.2]
 cases fh d <;> cases d.2.2.2.1 <;> cases d.2.2.1==0 <;> cases decide ((d.2.2.1:Int) > 0) <;> rfl
theorem De {k:Nat} (hk:2 ^ 50≤k) {d:Ty.den a_} (hd:xy d) (s:ByteArray) (m:Int):iW.f k d s m=some ((mm d s m).1,((mm d s m).2,())):=by
 have hl:=hd.l
 have hu:=hd.u
 have hn:=hd.n
 have h1:∀ b2,eW.f k (d.1,b2) s m=_:=fun b2=>H5 hk (d:=(d.1,b2)) hl s m
 unfold iW.f iW.t fE.f fE.t mm ii kA
 rw [ji k hl,aO,j7 hk (by omega) (by omega),aO]
 simp only [h1,aO,show eW.f k d s m=_ from h1 d.2]
 cases fh d <;> cases d.2.2.2.1 <;> cases d.2.2.1==0 <;> cases decide ((d.2.2.1:Int) > 0) <;> rfl
theorem DO {k:Nat} (hk:2 ^ 50≤k) {d:Ty.den a_} (hd:xy d) (a:ByteArray) {b:ByteArray} (hb:b.size≤1099511627776):jg.f k d a b=some ((vp d a b).1,((vp d a b).2,())):=by
 have hl:=hd.l
 have hu:=hd.u
 have hn:=hd.n
 unfold jg.f jg.t gA.f gA.t vp ii kA
 rw [ji k hl,aO,j7 hk (by omega) (by omega),aO]
 cases c:fh d with
 | false=>rfl
 | true =>
  have h1:∀ b2,fj.f k (d.1,b2) a b=_:=fun b2=>G1 hk (d:=(d.1,b2)) hl (iH.1 c).keys a hb
  simp only [h1,aO,show fj.f k d a b=_ from h1 d.2]
  cases d.2.2.2.1 <;> cases d.2.2.1==0 <;> cases decide ((d.2.2.1:Int) > 0) <;> rfl
end Go.Proofs.YtohaanhjddohmaaGreatDoor.G
namespace Go.Proofs.YtohaanhjddohmaaGreatDoor.G
open Go.V
def nz (lim:Int) (p:Option Int) (x:Int):Bool:=decide ((1:Int)≤x∧x≤lim)&&(match p with | none=>true | some y=>decide (y<x))
def dR (v:Ty.den bA):Bool:=decide ((1:Int)≤v.1∧v.1≤100000)&&(decide ((1:Int)≤(v.2.1.length:Int)∧(v.2.1.length:Int)≤60)&&qO (nz (aF (v.1-1))) none v.2.1)
theorem rQ {k:Nat} (hk:2 ^ 50≤k) (v:Ty.den bA):dK.f k v=some (dR v,()):=by
 unfold dK.f dK.t dR
 rw [gS,aO]
 cases decide ((1:Int)≤v.1∧v.1≤100000) with
 | false=>rfl
 | true =>
  rw [fV,aN,gS,aO,Bool.true_and]
  by_cases c:(1:Int)≤(v.2.1.length:Int)∧(v.2.1.length:Int)≤60
  case neg=>rw [aQ c];rfl
  rw [aP c,fV,aN,Bool.true_and]
  refine (pV (L:=fun n i=>dK.l0 k n i v.1 v.2.1) (Ty.dflt (.int .i64)) v.2.1 (nz (aF (v.1-1))) (some (true,())) (some (false,())) (fun n=>?_) (fun n x h hx=>?_) (fun n i x y h0 h1 hx hy=>?_) (n:=k) (by omega)).trans (by cases qO (nz (aF (v.1-1))) none v.2.1 <;> rfl)
  · simp (disch:=omega) only [dK.l0,dK.b0,aQ,aN]
  · simp (disch:=omega) only [dK.l0,dK.b0,aP (show (0:Int)<(v.2.1.length:Int) by omega),aZ,aG,hx,gS k,aO,aQ (show ¬ (0:Int) > 0 by omega),aN,aD (n:=(0:Int)+1),nz]
    cases decide ((1:Int)≤x∧x≤aF (v.1-1)) <;> rfl
  · simp (disch:=omega) only [dK.l0,dK.b0,aP h1,aZ,aG,hx,gS k,aO,aP (show i > 0 by omega),aN,aD (n:=i+1),aD (n:=i-1),hy,nz]
    cases decide ((1:Int)≤x∧x≤aF (v.1-1)) with
    | false=>rfl
    | true =>
     by_cases q:y<x
     · rw [aP q,aQ (show ¬ x≤y from Int.not_le.2 q)];rfl
     · rw [aQ q,aP (show x≤y from Int.not_lt.1 q)];rfl
theorem uz {k:Nat} (hk:2 ^ 50≤k) {v:Ty.den bA} (hl:v.2.1.length≤1099511627776):dN.f k v=some (dR v,()):=by
 unfold dN.f dN.t dR
 refine (pV (L:=fun n i=>dN.l0 k n v.2.1 v.2.1.length i v.1 v.2.1) (Ty.dflt (.int .i64)) v.2.1 (nz (aF (v.1-1))) (some (decide ((1:Int)≤v.1∧v.1≤100000)&&decide ((1:Int)≤(v.2.1.length:Int)∧(v.2.1.length:Int)≤60),())) (some (false,())) (fun n=>?_) (fun n x h hx=>?_) (fun n i x y h0 h1 hx hy=>?_) (n:=k) (by omega)).trans
  (by cases qO (nz (aF (v.1-1))) none v.2.1 <;> cases decide ((1:Int)≤v.1∧v.1≤100000) <;> cases decide ((1:Int)≤(v.2.1.length:Int)∧(v.2.1.length:Int)≤60) <;> rfl)
 · simp (disch:=omega) only [dN.l0,dN.b0,aQ,aN,kR k,aO]
   cases decide ((1:Int)≤v.1∧v.1≤100000) <;> rfl
 · simp (disch:=omega) only [dN.l0,dN.b0,aP (show (0:Int)<(v.2.1.length:Int) by omega),aZ,aG,hx,kR k,aO,aQ (show ¬ (0:Int) > 0 by omega),aN,aD (n:=(0:Int)+1),nz]
   cases decide ((1:Int)≤x∧x≤aF (v.1-1)) <;> rfl
 · simp (disch:=omega) only [dN.l0,dN.b0,aP h1,aZ,aG,hx,kR k,aO,aP (show i > 0 by omega),aN,aD (n:=i+1),aD (n:=i-1),hy,nz]
   cases decide ((1:Int)≤x∧x≤aF (v.1-1)) with
   | false=>rfl
   | true =>
    by_cases q:y<x
    · rw [aP q,aQ (show ¬ y≥x from Int.not_le.2 q)];rfl
    · rw [aQ q,aP (show y≥x from Int.not_lt.1 q)];rfl
end Go.Proofs.YtohaanhjddohmaaGreatDoor.G
namespace Go.V
theorem Ae (l:List Int):(bytesOf l).size=l.length:=by simp [bytesOf,ByteArray.size]
theorem Io {n m:Nat} (hn:n<4294967296) (hm:m<4294967296):aF (((BitVec.ofInt (IntKind.bits .i64) (n:Int) ^^^ BitVec.ofInt (IntKind.bits .i64) (m:Int)).toNat:Int))=((n ^^^ m:Nat):Int):=by
 have h:n ^^^ m<2 ^ 32:=Nat.xor_lt_two_pow (by omega) (by omega)
 show aF (((BitVec.ofInt 64 (n:Int) ^^^ BitVec.ofInt 64 (m:Int)).toNat:Int))=_
 rw [BitVec.ofInt_natCast,BitVec.ofInt_natCast,BitVec.toNat_xor,BitVec.toNat_ofNat,BitVec.toNat_ofNat,Nat.mod_eq_of_lt (by omega),Nat.mod_eq_of_lt (by omega)]
 exact aD (by omega) (by omega)
theorem Ia {n m:Nat} (hn:n<4294967296) (hm:m<4294967296):IntKind.wrap .u32 (((BitVec.ofInt (IntKind.bits .u32) (n:Int) ^^^ BitVec.ofInt (IntKind.bits .u32) (m:Int)).toNat:Int))=((n ^^^ m:Nat):Int):=by
 have h:n ^^^ m<2 ^ 32:=Nat.xor_lt_two_pow (by omega) (by omega)
 show IntKind.wrap .u32 (((BitVec.ofInt 32 (n:Int) ^^^ BitVec.ofInt 32 (m:Int)).toNat:Int))=_
 rw [BitVec.ofInt_natCast,BitVec.ofInt_natCast,BitVec.toNat_xor,BitVec.toNat_ofNat,BitVec.toNat_ofNat,Nat.mod_eq_of_lt (by omega),Nat.mod_eq_of_lt (by omega)]
 exact vw (by omega) (by omega)
theorem Ka {n b:Nat} (hn:n<4294967296) (hb:b<256):aF (((BitVec.ofInt (IntKind.bits .i64) ((n*256:Nat):Int) ||| BitVec.ofInt (IntKind.bits .i64) (b:Int)).toNat:Int))=((n*256+b:Nat):Int):=by
 have h:n*256 ||| b=n*256+b:=by
  have:=Nat.shiftLeft_add_eq_or_of_lt (i:=8) (b:=b) (by omega) n
  rw [Nat.shiftLeft_eq,show (2:Nat) ^ 8=256 by decide] at this
  omega
 show aF (((BitVec.ofInt 64 ((n*256:Nat):Int) ||| BitVec.ofInt 64 (b:Int)).toNat:Int))=_
 rw [BitVec.ofInt_natCast,BitVec.ofInt_natCast,BitVec.toNat_or,BitVec.toNat_ofNat,BitVec.toNat_ofNat,Nat.mod_eq_of_lt (by omega),Nat.mod_eq_of_lt (by omega),h]
 exact aD (by omega) (by omega)
theorem K5 {n:Nat} (hn:n<4294967296):IntKind.wrap .u32 (((BitVec.ofInt (IntKind.bits .u32) (n:Int) &&& BitVec.ofInt (IntKind.bits .u32) 1).toNat:Int))=((n % 2:Nat):Int):=by
 show IntKind.wrap .u32 (((BitVec.ofInt 32 (n:Int) &&& BitVec.ofInt 32 ((1:Nat):Int)).toNat:Int))=_
 rw [BitVec.ofInt_natCast,BitVec.ofInt_natCast,BitVec.toNat_and,BitVec.toNat_ofNat,BitVec.toNat_ofNat,Nat.mod_eq_of_lt (by omega),Nat.mod_eq_of_lt (show 1<2 ^ 32 by omega),Nat.and_one_is_mod]
 exact vw (by omega) (by omega)
theorem KB {n:Nat} (hn:n<4294967296):DD .u32 (n:Int)=4294967295-(n:Int):=by
 unfold DD
 show IntKind.wrap .u32 (((BitVec.allOnes 32 ^^^ BitVec.ofInt 32 (n:Int)).toNat:Int))=_
 rw [BitVec.ofInt_natCast,BitVec.allOnes_xor,BitVec.toNat_not,BitVec.toNat_ofNat,Nat.mod_eq_of_lt (by omega)]
 rw [vw (by omega) (by omega)]
 omega
theorem oV (s:ByteArray):(⟨#[]⟩:ByteArray)++s=s:=by
 apply ByteArray.ext
 simp [ByteArray.data_append]
theorem gL (s:ByteArray):s++(⟨#[]⟩:ByteArray)=s:=by
 apply ByteArray.ext
 simp [ByteArray.data_append]
theorem ap (a b c:ByteArray):a++b++c=a++(b++c):=by
 apply ByteArray.ext
 simp [ByteArray.data_append]
theorem iL (a b:ByteArray):nb (a++b)=nb a++nb b:=by
 unfold nb
 rw [ByteArray.data_append,Array.toList_append,List.map_append]
theorem Ap (s:ByteArray) (i j:Nat):nb (ByteArray.extract s i j)=((nb s).take j).drop i:=by
 unfold nb
 simp [ByteArray.data_extract,List.map_take,List.map_drop]
 rw [List.drop_take]
theorem iy (s:ByteArray) (n:Nat):nb (ByteArray.extract s n s.size)=(nb s).drop n:=by
 rw [Ap,List.take_of_length_le (by rw [cX];omega)]
theorem fW (a t:ByteArray):ByteArray.extract (a++t) a.size (a++t).size=t:=kx (by rw [iy,iL,List.drop_left' (cX a)])
theorem xc (a t:ByteArray):ByteArray.extract (a++t) 0 a.size=a:=kx (by rw [Ap,iL,List.take_left' (cX a),List.drop_zero])
theorem tO (s:ByteArray) {n:Nat} (h:n≤s.size):s=ByteArray.extract s 0 n++ByteArray.extract s n s.size:=kx (by rw [iL,iy,kJ,List.take_append_drop])
theorem sL {a b c:ByteArray} (h:a++b=a++c):b=c:=kx (by
 have:=congrArg nb h
 rw [iL,iL] at this
 exact List.append_cancel_left this)
theorem rg {a b c d:ByteArray} (h:a++b=c++d) (hs:a.size=c.size):a=c∧b=d:=by
 have:=congrArg nb h
 rw [iL,iL] at this
 have:=List.append_inj this (by rw [cX,cX,hs])
 exact ⟨kx this.1,kx this.2⟩
def rv:Nat→List Nat→Option (Nat × Nat)
 | 0,_=>none
 | _+1,[]=>none
 | d+1,b::l=>if b≥128 then (match rv d l with | some (a,n)=>if a=0 then none else some (b % 128+128*a,n+1) | none=>none) else some (b,1)
theorem Gv:∀ (d a:Nat) (t:List Nat),a<128 ^ (d+1)→rv (d+1) (vl d a++t)=some (a,(vl d a).length)
 | 0,a,t,h=>by
  have:¬ a≥128:=by simpa using h
  simp [vl,rv,this]
 | d+1,a,t,h=>by
  unfold vl
  by_cases c:a≥128
  · have ih:=Gv d (a/128) t (by rw [Nat.pow_succ] at h;omega)
    rw [if_pos c,List.cons_append,rv,if_pos (by omega),ih]
    simp only []
    rw [if_neg (by omega),lM]
    congr 2
    omega
  · rw [if_neg c,List.cons_append,rv,if_neg c]
    rfl
theorem pX:∀ (d:Nat) (l:List Nat) (a n:Nat),(∀ x ∈ l,x<256)→rv (d+1) l=some (a,n)→l.take n=vl d a∧a<128 ^ (d+1)∧n=(vl d a).length∧n≤l.length∧1≤n∧n≤d+1
 | _,[],a,n,_,h=>by simp [rv] at h
 | 0,b::l,a,n,hb,h=>by
  unfold rv at h
  by_cases c:b≥128
  · simp [c,rv] at h
  · simp [c] at h
    obtain ⟨rfl,rfl⟩:=h
    refine ⟨by simp [vl],by simpa using c,by simp [vl],by simp,by omega,by omega⟩
 | d+1,b::l,a,n,hb,h=>by
  unfold rv at h
  by_cases c:b≥128
  · rw [if_pos c] at h
    cases q:rv (d+1) l with
    | none=>rw [q] at h;simp at h
    | some p =>
     obtain ⟨a',n'⟩:=p
     obtain ⟨h1,h2,h3,h4,h5,h6⟩:=pX d l a' n' (fun x hx=>hb x (s9 _ hx)) q
     rw [q] at h
     simp only [] at h
     by_cases z:a'=0
     · simp [z] at h
     · rw [if_neg z] at h
       simp only [Option.some.injEq,Prod.mk.injEq] at h
       obtain ⟨rfl,rfl⟩:=h
       have hb:=hb b (pR ..)
       have e1:(b % 128+128*a')/128=a':=by omega
       have e2:128+(b % 128+128*a') % 128=b:=by omega
       have hv:vl (d+1) (b % 128+128*a')=b::vl d a':=by
        rw [vl,if_pos (by omega),e1,e2]
       rw [hv]
       refine ⟨by rw [List.take_succ_cons,h1],by rw [Nat.pow_succ];omega,by rw [lM,h3],by rw [lM];omega,by omega,by omega⟩
  · rw [if_neg c] at h
    simp only [Option.some.injEq,Prod.mk.injEq] at h
    obtain ⟨rfl,rfl⟩:=h
    have hv:vl (d+1) b=[b]:=by rw [vl,if_neg c]
    rw [hv]
    refine ⟨by simp,?_,by simp,by simp,by omega,by omega⟩
    have:(128:Nat) ^ 1≤128 ^ (d+1+1):=Nat.pow_le_pow_right (by decide) (by omega)
    omega
theorem Jt {d a:Nat}:vl d a≠[]:=by
 cases d with
 | zero=>simp [vl]
 | succ d=>unfold vl;split <;> simp
theorem IB (l:List Nat) (hb:∀ x ∈ l,x<256) (d n:Nat) (h0:1≤n) (h1:n≤d+1) (h2:n≤l.length):rF (l.take n)=true↔∃ a,rv (d+1) l=some (a,n):=by
 constructor
 · intro h
   have e:=Ak d (l.take n) h (by rw [List.length_take];omega)
   have hd:sA (l.take n)<128 ^ (d+1):=Nat.lt_of_lt_of_le (B6 _) (Nat.pow_le_pow_right (by decide) (by rw [List.length_take];omega))
   have:=Gv d (sA (l.take n)) (l.drop n) hd
   rw [e,List.take_append_drop,List.length_take,Nat.min_eq_left h2] at this
   exact ⟨_,this⟩
 · rintro ⟨a,h⟩
   obtain ⟨e1,e2,_⟩:=pX d l a n hb h
   rw [e1]
   exact (w_ d a e2).1
theorem JG {l:List Nat} (hb:∀ x ∈ l,x<256) {d a n:Nat} (h:rv (d+1) l=some (a,n)):a=sA (l.take n):=by
 obtain ⟨e1,e2,_⟩:=pX d l a n hb h
 rw [e1]
 exact (w_ d a e2).2.1.symm
theorem sq (s:ByteArray):∀ x ∈ nb s,x<256:=fun _ h=>IP h
theorem af (a:Nat):1≤(bE a).size∧(bE a).size≤7:=by
 unfold bE
 rw [Ae,List.length_map]
 have h:∀ d a,(vl d a).length≤d+1:=by
  intro d
  induction d with
  | zero=>intro a;simp [vl]
  | succ d ih=>intro a;unfold vl;split <;> simp;have:=ih (a/128);omega
 have h2:=h 6 a
 have h3:(vl 6 a).length≠0:=fun q=>Jt (List.length_eq_zero_iff.1 q)
 omega
theorem qr {a:Nat} (h:a<562949953421312):(vl 6 a).length=(bE a).size:=by rw [← tN h,cX]
theorem rR {a:Nat} (h:a<562949953421312) (t:ByteArray):rv 7 (nb (bE a++t))=some (a,(bE a).size):=by
 rw [iL,tN h,← qr h]
 exact Gv 6 a _ (by rw [show (128:Nat) ^ (6+1)=562949953421312 by decide];exact h)
theorem Hm {s:ByteArray} {a n:Nat} (h:rv 7 (nb s)=some (a,n)):∃ t,a<562949953421312∧n=(bE a).size∧s=bE a++t:=by
 obtain ⟨h1,h2,h3,h4,h5,h6⟩:=pX 6 (nb s) a n (sq s) h
 rw [show (128:Nat) ^ (6+1)=562949953421312 by decide] at h2
 refine ⟨ByteArray.extract s n s.size,h2,by rw [h3,qr h2],kx ?_⟩
 rw [iL,tN h2,iy,← h1,List.take_append_drop]
theorem jx (s:ByteArray):(∃ a t,a<562949953421312∧s=bE a++t)∨rv 7 (nb s)=none:=by
 cases h:rv 7 (nb s) with
 | none=>exact .inr rfl
 | some p =>
  obtain ⟨a,n⟩:=p
  obtain ⟨t,h1,_,h3⟩:=Hm h
  exact .inl ⟨a,t,h1,h3⟩
theorem xe {a b:Nat} {s t:ByteArray} (ha:a<562949953421312) (hb:b<562949953421312) (h:bE a++s=bE b++t):a=b∧s=t:=by
 have h1:=rR ha s
 rw [h,rR hb t] at h1
 simp only [Option.some.injEq,Prod.mk.injEq] at h1
 obtain ⟨rfl,_⟩:=h1
 exact ⟨rfl,sL h⟩
def Cv:Option (Nat × Nat)→Int × Int × Unit
 | some p=>((p.1:Int),((p.2:Int),()))
 | none=>(0,(0,()))
end Go.V
namespace Go.Proofs.YtohaanhjddohmaaGreatDoor.G
open Go.V
theorem oK (k:Nat) (a b c:Int):aX.f k a b c=some (decide (b≤a∧a≤c),()):=by
 unfold aX.f aX.t
 by_cases h:b≤a <;> simp [h]
theorem yH (k:Nat) (a b c:Int):az.f k a b c=some (decide (b≤a∧a≤c),()):=by
 unfold az.f az.t
 by_cases h:b≤a <;> simp [h]
def iA (a:Int):ByteArray:=if 0≤a∧a≤562949953421311 then bE a.toNat else ⟨#[]⟩
theorem ax (a:Int):(iA a).size≤7:=by
 unfold iA
 split
 · exact (af _).2
 · exact Nat.zero_le _
theorem dL {a:Nat} (h:a<562949953421312):iA (a:Int)=bE a:=by
 unfold iA
 rw [if_pos (by omega),Int.toNat_natCast]
theorem K8:∀ (d a n:Nat) (xs:List Int),a<128 ^ (d+1)→a<562949953421312→d<n→xs.length+d≤100→∀ k,
 bi.l0 k n (a:Int) xs=some (bytesOf (xs++(vl d a).map Int.ofNat),())∧fX.l0 k n (a:Int) xs=some (bytesOf (xs++(vl d a).map Int.ofNat),()):=by
 intro d
 induction d with
 | zero =>
  intro a n xs h1 h2 h3 h4 k
  obtain ⟨n,rfl⟩:∃ q,n=q+1:=⟨n-1,by omega⟩
  simp only [Nat.zero_add,Nat.pow_one] at h1
  constructor
  · simp (disch:=first | omega | decide) only [bi.l0,bi.b0,aQ,aN,bK,ol]
    rfl
  · simp (disch:=first | omega | decide) only [fX.l0,fX.b0,aQ,aN,bK,ol]
    rfl
 | succ d ih =>
  intro a n xs h1 h2 h3 h4 k
  obtain ⟨n,rfl⟩:∃ q,n=q+1:=⟨n-1,by omega⟩
  unfold vl
  by_cases c:a≥128
  · have hd:aF (Int.tdiv (a:Int) 128)=((a/128:Nat):Int):=aD (n:=((a/128:Nat):Int)) (by omega) (by omega)
    have hw:IntKind.wrap .u8 (aF (128+Int.tmod (a:Int) 128))=((128+a % 128:Nat):Int):=by
     have e:128+Int.tmod (a:Int) 128=((128+a % 128:Nat):Int):=by
      show 128+((a % 128:Nat):Int)=_
      omega
     rw [e,aD (by omega) (by omega)]
     exact ol (by omega) (by omega)
    have ih:=ih (a/128) n (xs++[((128+a % 128:Nat):Int)]) (by rw [Nat.pow_succ] at h1;omega) (by omega) (by omega) (by rw [vW];show _+1+d≤_;omega) k
    rw [if_pos c]
    rw [rX] at ih
    constructor
    · simp (disch:=first | omega | decide) only [bi.l0,bi.b0,aP,aZ,bK,hd,hw]
      exact ih.1
    · simp (disch:=first | omega | decide) only [fX.l0,fX.b0,aP,aZ,bK,hd,Int.add_comm (Int.tmod (a:Int) 128) 128,hw]
      exact ih.2
  · rw [if_neg c]
    constructor
    · simp (disch:=first | omega | decide) only [bi.l0,bi.b0,aQ,aN,bK,ol]
      rfl
    · simp (disch:=first | omega | decide) only [fX.l0,fX.b0,aQ,aN,bK,ol]
      rfl
theorem gk {k:Nat} (hk:2 ^ 50≤k) (a:Int):bi.f k a=some (iA a,()):=by
 unfold bi.f bi.t iA
 rw [oK,aO]
 by_cases h:0≤a∧a≤562949953421311
 · obtain ⟨n,rfl⟩:=Int.eq_ofNat_of_zero_le h.1
   have hn:n<562949953421312:=by omega
   simp only [aP h,fV,aN,if_pos h,Int.toNat_natCast]
   exact (K8 6 n k [] (by rw [show (128:Nat) ^ (6+1)=562949953421312 by decide];exact hn) hn (by omega) (by decide) k).1
 · simp only [aQ h,ot,aZ,if_neg h]
theorem nT {k:Nat} (hk:2 ^ 50≤k) (a:Int):fX.f k a=some (iA a,()):=by
 unfold fX.f fX.t iA
 rw [yH,aO]
 by_cases h:0≤a∧a≤562949953421311
 · obtain ⟨n,rfl⟩:=Int.eq_ofNat_of_zero_le h.1
   have hn:n<562949953421312:=by omega
   simp only [aP h,fV,aN,if_pos h,Int.toNat_natCast]
   exact (K8 6 n k [] (by rw [show (128:Nat) ^ (6+1)=562949953421312 by decide];exact hn) hn (by omega) (by decide) k).2
 · simp only [aQ h,ot,aZ,if_neg h]
theorem HE {s:ByteArray} {i:Nat} (h:i<s.size):(nb s).take (i+1)=(nb s).take i++[(nb s).getD i 0]:=by
 have h1:i<(nb s).length:=by rw [cX];exact h
 rw [List.take_succ_eq_append_getElem h1]
 simp [List.getD,h1]
theorem jC (s:ByteArray) (i:Nat):(nb s).getD i 0<256:=by
 by_cases h1:i<(nb s).length
 · rw [show (nb s).getD i 0=(nb s)[i] by simp [List.getD,h1]]
   exact IP (List.getElem_mem h1)
 · simp [List.getD,List.getElem?_eq_none (by omega:(nb s).length≤i)]
theorem s7 {s:ByteArray} {i:Nat} (h:i<s.size):(nb s).drop i=(nb s).getD i 0::(nb s).drop (i+1):=by
 have h1:i<(nb s).length:=by rw [cX];exact h
 rw [List.drop_eq_getElem_cons h1]
 simp [List.getD,h1]
def Db (n:Nat):Nat:=if n % 2=1 then n/2 ^^^ 2197175160 else n/2
def yf:Nat→Nat→Nat
 | 0,n=>n
 | d+1,n=>yf d (Db n)
theorem A_ {n:Nat} (h:n<4294967296):Db n<4294967296:=by
 unfold Db
 split
 · exact Nat.xor_lt_two_pow (n:=32) (by omega) (by omega)
 · omega
theorem BK:∀ {d n:Nat},n<4294967296→yf d n<4294967296
 | 0,_,h=>h
 | d+1,_,h=>BK (d:=d) (A_ h)
def DI:List Nat→Nat→Nat
 | [],n=>n
 | b::l,n=>DI l (yf 8 (n ^^^ b))
theorem Er:∀ {l:List Nat} {n:Nat},n<4294967296→(∀ b ∈ l,b<256)→DI l n<4294967296
 | [],_,h,_=>h
 | b::l,n,h,hb=>by
  have:=hb b (pR ..)
  exact Er (l:=l) (BK (Nat.xor_lt_two_pow (n:=32) (by omega) (by omega))) (fun x hx=>hb x (s9 _ hx))
def oc (s:ByteArray):Int:=4294967295-(DI (nb s) 4294967295:Int)
theorem tn (s:ByteArray):0≤oc s∧oc s≤4294967295:=by
 have:=Er (l:=nb s) (n:=4294967295) (by omega) (sq s)
 unfold oc
 omega
theorem Ep {k:Nat} {L0:ByteArray→Int→Int→Option (Int × Unit)} {s:ByteArray} {i:Int}:∀ (d j m n:Nat),8-j=d→j≤8→d<m→n<4294967296→gE.l1 k L0 m s (n:Int) i (j:Int)=L0 s ((yf d n:Nat):Int) (aF (i+1))
 | 0,j,m,n,hd,hj,hm,hn=>by
  obtain ⟨m,rfl⟩:∃ q,m=q+1:=⟨m-1,by omega⟩
  have c:¬ ((j:Int)<8):=by omega
  simp only [gE.l1,gE.b1,decide_eq_false c,aN,yf]
 | d+1,j,m,n,hd,hj,hm,hn=>by
  obtain ⟨m,rfl⟩:∃ q,m=q+1:=⟨m-1,by omega⟩
  have c:((j:Int)<8):=by omega
  have ih:=Ep (k:=k) (L0:=L0) (s:=s) (i:=i) d (j+1) m (Db n) (by omega) (by omega) (by omega) (A_ hn)
  have hd2:aF (Int.tdiv (n:Int) 2)=((n/2:Nat):Int):=aD (n:=((n/2:Nat):Int)) (by omega) (by omega)
  have hx:=Io (n:=n/2) (m:=2197175160) (by omega) (by omega)
  have hm2:Int.tmod (n:Int) 2=((n % 2:Nat):Int):=rfl
  have hj1:aF ((j:Int)+1)=((j+1:Nat):Int):=by rw [aD (by omega) (by omega)];omega
  simp only [gE.l1,gE.b1,decide_eq_true c,aZ,hj1,hd2,hm2,yf]
  rw [← ih]
  unfold Db
  by_cases q:n % 2=1
  · rw [if_pos q,q,← hx]
    rfl
  · rw [if_neg q,show n % 2=0 by omega]
    rfl
theorem Em {k:Nat} {L0:ByteArray→Int→Int→Option (Int × Unit)} {s:ByteArray} {i:Int}:∀ (d j m n:Nat),8-j=d→j≤8→d<m→n<4294967296→gG.l1 k L0 m s (n:Int) i (j:Int)=L0 s ((yf d n:Nat):Int) (aF (i+1))
 | 0,j,m,n,hd,hj,hm,hn=>by
  obtain ⟨m,rfl⟩:∃ q,m=q+1:=⟨m-1,by omega⟩
  have c:¬ ((j:Int)<8):=by omega
  simp only [gG.l1,gG.b1,decide_eq_false c,aN,yf]
 | d+1,j,m,n,hd,hj,hm,hn=>by
  obtain ⟨m,rfl⟩:∃ q,m=q+1:=⟨m-1,by omega⟩
  have c:((j:Int)<8):=by omega
  have ih:=Em (k:=k) (L0:=L0) (s:=s) (i:=i) d (j+1) m (Db n) (by omega) (by omega) (by omega) (A_ hn)
  have hd2:Int.fdiv (n:Int) (2 ^ (Int.toNat 1))=((n/2:Nat):Int):=by
   show Int.fdiv (n:Int) 2=_
   rw [Int.fdiv_eq_ediv_of_nonneg _ (by omega)]
   omega
  have hx:=Ia (n:=n/2) (m:=2197175160) (by omega) (by omega)
  have hj1:aF ((j:Int)+1)=((j+1:Nat):Int):=by rw [aD (by omega) (by omega)];omega
  simp only [gG.l1,gG.b1,decide_eq_true c,aZ,hj1,hd2,K5 hn,yf]
  rw [← ih]
  unfold Db
  by_cases q:n % 2=1
  · rw [if_pos q,q,← hx]
    rfl
  · rw [if_neg q,show n % 2=0 by omega]
    rfl
theorem JD {k:Nat} (hk:2 ^ 50≤k) {s:ByteArray} (hs:s.size≤1099511627776):∀ (d i n m:Nat),s.size-i=d→i≤s.size→n<4294967296→d<m →
 gE.l0 k m s (n:Int) (i:Int)=some (4294967295-(DI ((nb s).drop i) n:Int),())∧gG.l0 k m s (n:Int) (i:Int)=some (4294967295-(DI ((nb s).drop i) n:Int),())
 | 0,i,n,m,hd,hi,hn,hm=>by
  obtain ⟨m,rfl⟩:∃ q,m=q+1:=⟨m-1,by omega⟩
  have c:¬ ((i:Int)<(s.size:Int)):=by omega
  have e1:aF (4294967295-(n:Int))=4294967295-(n:Int):=aD (by omega) (by omega)
  rw [List.drop_eq_nil_of_le (by rw [cX];omega)]
  constructor
  · simp only [gE.l0,gE.b0,decide_eq_false c,aN,e1,DI]
  · simp only [gG.l0,gG.b0,decide_eq_false c,aN,KB hn,e1,DI]
 | d+1,i,n,m,hd,hi,hn,hm=>by
  obtain ⟨m,rfl⟩:∃ q,m=q+1:=⟨m-1,by omega⟩
  have hlt:i<s.size:=by omega
  have c:((i:Int)<(s.size:Int)):=by omega
  have h0:=Int.natCast_nonneg i
  have hb:=jC s i
  have hat:=wH hlt
  rw [s7 hlt]
  generalize (nb s).getD i 0=b at hb hat
  have w1:aF (b:Int)=(b:Int):=aD (by omega) (by omega)
  have w2:IntKind.wrap .u32 (b:Int)=(b:Int):=vw (by omega) (by omega)
  have hnb:n ^^^ b<4294967296:=Nat.xor_lt_two_pow (n:=32) (by omega) (by omega)
  have up:aF ((i:Int)+1)=((i+1:Nat):Int):=by rw [aD (by omega) (by omega)];omega
  obtain ⟨s1,s2⟩:=JD hk hs d (i+1) (yf 8 (n ^^^ b)) m (by omega) (by omega) (BK hnb) (by omega)
  constructor
  · simp only [gE.l0,gE.b0,decide_eq_true c,aZ,aG h0 c,hat,w1,Io hn (show b<4294967296 by omega)]
    refine (Ep 8 0 k (n ^^^ b) (by omega) (by omega) (by omega) hnb).trans ?_
    rw [up]
    exact s1
  · simp only [gG.l0,gG.b0,decide_eq_true c,aZ,aG h0 c,hat,w2,Ia hn (show b<4294967296 by omega)]
    refine (Em 8 0 k (n ^^^ b) (by omega) (by omega) (by omega) hnb).trans ?_
    rw [up]
    exact s2
theorem ss {k:Nat} (hk:2 ^ 50≤k) {s:ByteArray} (hs:s.size≤1099511627776):gE.f k s=some (oc s,()):=by
 have:=(JD hk hs s.size 0 4294967295 k (by omega) (by omega) (by omega) (by omega)).1
 rw [List.drop_zero] at this
 exact this
theorem sv {k:Nat} (hk:2 ^ 50≤k) {s:ByteArray} (hs:s.size≤1099511627776):gG.f k s=some (oc s,()):=by
 have:=(JD hk hs s.size 0 4294967295 k (by omega) (by omega) (by omega) (by omega)).2
 rw [List.drop_zero] at this
 exact this
end Go.Proofs.YtohaanhjddohmaaGreatDoor.G
namespace Go.Proofs.YtohaanhjddohmaaGreatDoor.G
open Go.V
def fB (n:Nat):ByteArray:=bytesOf [((n/16777216 % 256:Nat):Int),((n/65536 % 256:Nat):Int),((n/256 % 256:Nat):Int),((n % 256:Nat):Int)]
theorem m4 (n:Nat):(fB n).size=4:=rfl
theorem ED (n:Nat):nb (fB n)=[n/16777216 % 256,n/65536 % 256,n/256 % 256,n % 256] :=
 CO (l:=[n/16777216 % 256,n/65536 % 256,n/256 % 256,n % 256]) (by simp;omega)
theorem Dq {k:Nat} (hk:2 ^ 50≤k) {n:Nat} (h1:n<4294967296):dU.f k (n:Int) 4=some (fB n,()):=by
 have sz1:∀ x:Int,(bytesOf [x]).size=1:=fun x=>rfl
 have st:∀ (q m:Nat) (t:ByteArray) (j:Nat),m<4294967296→j<4→t.size≤100→dU.l0 k (q+1) (m:Int) 4 t (j:Int)=dU.l0 k q ((m/256:Nat):Int) 4 (bytesOf [((m % 256:Nat):Int)]++t) ((j+1:Nat):Int):=fun q m t j hm hj ht=>by
  have wd:aF (Int.tdiv (m:Int) 256)=((m/256:Nat):Int):=aD (n:=((m/256:Nat):Int)) (by omega) (by omega)
  have wm:IntKind.wrap .u8 (Int.tmod (m:Int) 256)=((m % 256:Nat):Int):=ol (n:=((m % 256:Nat):Int)) (by omega) (by omega)
  have wj:aF ((j:Int)+1)=((j+1:Nat):Int):=by rw [aD (by omega) (by omega)];omega
  simp (disch:=omega) only [dU.l0,dU.b0,aP,aZ,wd,wm,wj]
  rw [dW (by rw [sz1];omega)]
 unfold dU.f dU.t
 rw [oK,aO]
 simp only [show decide ((1:Int)≤4∧(4:Int)≤7)=true by decide,fV,aN,aQ (show ¬ ((n:Int)<0) by omega)]
 obtain ⟨q,hq⟩:∃ q,k=q+5:=⟨k-5,by omega⟩
 refine (congrArg (fun z=>dU.l0 k z (n:Int) 4 ⟨#[]⟩ 0) hq).trans ?_
 refine (st (q+4) n _ 0 h1 (by omega) (by decide)).trans ?_
 refine (st (q+3) (n/256) _ 1 (by omega) (by omega) (by rw [ByteArray.size_append,sz1];decide)).trans ?_
 refine (st (q+2) (n/256/256) _ 2 (by omega) (by omega) (by rw [ByteArray.size_append,ByteArray.size_append,sz1,sz1];decide)).trans ?_
 refine (st (q+1) (n/256/256/256) _ 3 (by omega) (by omega) (by rw [ByteArray.size_append,ByteArray.size_append,ByteArray.size_append,sz1,sz1,sz1];decide)).trans ?_
 have c:¬ ((((3+1:Nat)):Int)<4):=by omega
 have c2:¬ (((n/256/256/256/256:Nat):Int) > 0):=by omega
 simp only [dU.l0,dU.b0,aQ c,aQ c2,aN]
 unfold fB
 congr 2
 rw [show n/256/256/256=n/16777216 by omega,show n/256/256=n/65536 by omega]
 apply ByteArray.ext
 simp [bytesOf,ByteArray.data_append]
theorem D5 {k:Nat} (hk:2 ^ 50≤k) {n:Nat} (h1:n<4294967296):dT.f k (n:Int) 4=some (fB n,()):=by
 have st:∀ (q j p:Nat) (i':Int) (xs:List Int),j≤3→p=2 ^ (8*j)→i'=(j:Int)-1→xs.length≤100→dT.l0 k (q+1) (n:Int) (j:Int) xs=dT.l0 k q (n:Int) i' (xs++[((n/p % 256:Nat):Int)]):=fun q j p i' xs hj hp hi hx=>by
  have e8:aF (8*(j:Int))=((8*j:Nat):Int):=by rw [aD (by omega) (by omega)];omega
  have e1:aF ((j:Int)-1)=i':=by rw [hi];exact aD (by omega) (by omega)
  have emin:min (8*j) (IntKind.bits .i64)=8*j:=by have:IntKind.bits .i64=64:=rfl;rw [this];omega
  have ew:IntKind.wrap .u8 (Int.fdiv (n:Int) (2 ^ (8*j)))=((n/p % 256:Nat):Int):=by
   have e2:((2:Int) ^ (8*j))=((p:Nat):Int):=by rw [hp,Int.natCast_pow];rfl
   rw [e2,Int.fdiv_eq_ediv_of_nonneg _ (by omega),← Int.natCast_ediv]
   generalize n/p=z
   unfold IntKind.wrap
   simp [IntKind.bits,IntKind.signed]
  simp (disch:=first | omega | decide) only [dT.l0,dT.b0,aP,aZ,e8,bK,e1,nK,emin,ew]
  rw [aQ (by omega),aN]
 unfold dT.f dT.t
 rw [yH,aO]
 have c0:¬ (aF (8*4)<0):=by decide
 simp only [show decide ((1:Int)≤4∧(4:Int)≤7)=true by decide,fV,aN,aQ c0,show aF (aF (1*2 ^ min (Int.toNat (aF (8*4))) (IntKind.bits .i64))-1)=4294967295 by decide,yH,aO]
 rw [aP (show (0:Int)≤(n:Int)∧(n:Int)≤4294967295 by omega)]
 simp only [fV,aN,show aF ((4:Int)-1)=((3:Nat):Int) by decide]
 obtain ⟨q,hq⟩:∃ q,k=q+5:=⟨k-5,by omega⟩
 refine (congrArg (fun z=>dT.l0 k z (n:Int) ((3:Nat):Int) []) hq).trans ?_
 refine (st (q+4) 3 16777216 ((2:Nat):Int) _ (by omega) (by decide) (by decide) (by decide)).trans ?_
 refine (st (q+3) 2 65536 ((1:Nat):Int) _ (by omega) (by decide) (by decide) (by simp)).trans ?_
 refine (st (q+2) 1 256 ((0:Nat):Int) _ (by omega) (by decide) (by decide) (by simp)).trans ?_
 refine (st (q+1) 0 1 (-1) _ (by omega) (by decide) (by decide) (by simp)).trans ?_
 simp only [dT.l0,dT.b0,show decide ((-1:Int)≥0)=false by decide,aN,Nat.div_one]
 rfl
def qT (a:Int):ByteArray:=fB a.toNat
theorem k8 (a:Int):(qT a).size=4:=rfl
theorem pf {k:Nat} (hk:2 ^ 50≤k) {a:Int} (h0:0≤a) (h1:a≤4294967295):dU.f k a 4=some (qT a,()):=by
 obtain ⟨n,rfl⟩:=Int.eq_ofNat_of_zero_le h0
 exact Dq hk (by omega)
theorem pe {k:Nat} (hk:2 ^ 50≤k) {a:Int} (h0:0≤a) (h1:a≤4294967295):dT.f k a 4=some (qT a,()):=by
 obtain ⟨n,rfl⟩:=Int.eq_ofNat_of_zero_le h0
 exact D5 hk (by omega)
theorem yL (s:ByteArray):(∃ x t,x<4294967296∧s=fB x++t)∨s.size<4:=by
 by_cases c:s.size<4
 · exact .inr c
 · left
   have h0:=s7 (s:=s) (i:=0) (by omega)
   have h1:=s7 (s:=s) (i:=1) (by omega)
   have h2:=s7 (s:=s) (i:=2) (by omega)
   have h3:=s7 (s:=s) (i:=3) (by omega)
   have b0:=jC s 0
   have b1:=jC s 1
   have b2:=jC s 2
   have b3:=jC s 3
   rw [h1,h2,h3,List.drop_zero] at h0
   generalize (nb s).getD 0 0=x0 at *
   generalize (nb s).getD 1 0=x1 at *
   generalize (nb s).getD 2 0=x2 at *
   generalize (nb s).getD 3 0=x3 at *
   refine ⟨((x0*256+x1)*256+x2)*256+x3,ByteArray.extract s 4 s.size,by omega,kx ?_⟩
   rw [iL,ED,iy,h0]
   simp only [List.cons_append,List.nil_append,List.drop_succ_cons,List.drop_zero,List.cons.injEq,and_true]
   refine ⟨?_,?_,?_,?_⟩ <;> omega
theorem v_ (x:Nat) (t:ByteArray):nb (fB x++t)=(x/16777216 % 256)::(x/65536 % 256)::(x/256 % 256)::(x % 256)::nb t:=by
 rw [iL,ED];rfl
theorem mb (x:Nat) (t:ByteArray):(fB x++t).size=4+t.size:=by rw [ByteArray.size_append];rfl
theorem n6 (k:Nat) (s:ByteArray):eO.f k s=some (decide (1≤(s.size:Int)∧(s.size:Int)≤8),()):=by
 unfold eO.f eO.t
 rw [oK];rfl
theorem pt (k:Nat) (s:ByteArray):gm.f k s=some (decide (1≤(s.size:Int)∧(s.size:Int)≤8),()):=by
 unfold gm.f gm.t
 rw [yH];rfl
def ik (a:Ty.den bU):Bool :=
 bif a.1==1||a.1==4 then decide (1≤(a.2.2.1.size:Int)∧(a.2.2.1.size:Int)≤8)&&(decide ((a.2.2.2.1.size:Int)≤24)&&((a.2.2.2.2.1==0)&&((a.2.2.2.2.2.1==0)&&decide (1≤a.2.1∧a.2.1≤1000000))))
 else bif a.1==2 then decide (1≤(a.2.2.1.size:Int)∧(a.2.2.1.size:Int)≤8)&&(seq a.2.2.2.1 ⟨#[]⟩&&((a.2.2.2.2.1==0)&&((a.2.2.2.2.2.1==0)&&decide (1≤a.2.1∧a.2.1≤1000000))))
 else bif a.1==3 then seq a.2.2.1 ⟨#[]⟩&&(seq a.2.2.2.1 ⟨#[]⟩&&(decide (0≤a.2.2.2.2.1∧a.2.2.2.2.1≤8)&&(decide (0≤a.2.2.2.2.2.1∧a.2.2.2.2.2.1≤4294967295)&&decide (1≤a.2.1∧a.2.1≤1000000))))
 else bif a.1==5 then seq a.2.2.1 ⟨#[]⟩&&(seq a.2.2.2.1 ⟨#[]⟩&&(decide (0≤a.2.2.2.2.1∧a.2.2.2.2.1≤20)&&(decide (0≤a.2.2.2.2.2.1∧a.2.2.2.2.2.1≤4294967295)&&decide (0≤a.2.1∧a.2.1≤1000000))))
 else false
theorem FU (s:ByteArray):seq s ByteArray.empty=seq s ⟨#[]⟩:=rfl
theorem iM (k:Nat) (a:Ty.den bU):g7.f k a=some (ik a,()):=by
 obtain ⟨ty,tx,key,tt,n,sm,u⟩:=a
 unfold g7.f g7.t ik
 simp only [yH,pt,aO,cm,FU]
 change Int at ty tx n sm
 change ByteArray at key tt
 generalize decide (1≤(key.size:Int)∧(key.size:Int)≤8)=K
 generalize decide ((tt.size:Int)≤24)=L
 generalize decide (1≤tx∧tx≤1000000)=T1
 generalize decide (0≤tx∧tx≤1000000)=T0
 generalize decide (0≤n∧n≤8)=N1
 generalize decide (0≤n∧n≤20)=N2
 generalize decide (0≤sm∧sm≤4294967295)=S
 generalize (n==0)=Z1
 generalize (sm==0)=Z2
 generalize seq key ⟨#[]⟩=E1
 generalize seq tt ⟨#[]⟩=E2
 by_cases h1:ty=1
 · subst h1;simp;cases K <;> cases L <;> cases T1 <;> cases Z1 <;> cases Z2 <;> rfl
 by_cases h4:ty=4
 · subst h4;simp;cases K <;> cases L <;> cases T1 <;> cases Z1 <;> cases Z2 <;> rfl
 by_cases h2:ty=2
 · subst h2;simp;cases K <;> cases E2 <;> cases T1 <;> cases Z1 <;> cases Z2 <;> rfl
 by_cases h3:ty=3
 · subst h3;simp;cases E1 <;> cases E2 <;> cases T1 <;> cases N1 <;> cases S <;> rfl
 by_cases h5:ty=5
 · subst h5;simp;cases E1 <;> cases E2 <;> cases T0 <;> cases N2 <;> cases S <;> rfl
 have b1:(ty==1)=false:=nZ h1
 have b2:(ty==2)=false:=nZ h2
 have b3:(ty==3)=false:=nZ h3
 have b4:(ty==4)=false:=nZ h4
 have b5:(ty==5)=false:=nZ h5
 have b6:(ty != 5)=true:=bne_iff_ne.2 h5
 simp only [b1,b2,b3,b4,b5,b6,Bool.or_false,aN,aZ]
theorem AW (k:Nat) (a:Ty.den bU):kM.f k a=some (ik a,()):=by
 obtain ⟨ty,tx,key,tt,n,sm,u⟩:=a
 unfold kM.f kM.t ik
 simp only [oK,n6,aO]
 change Int at ty tx n sm
 change ByteArray at key tt
 have q:decide (1≤tx∧tx≤1000000)=(decide (0≤tx∧tx≤1000000)&&!(tx==0)):=by
  rw [Bool.eq_iff_iff];simp;omega
 rw [q]
 generalize decide (1≤(key.size:Int)∧(key.size:Int)≤8)=K
 generalize decide ((tt.size:Int)≤24)=L
 generalize decide (0≤tx∧tx≤1000000)=T0
 generalize (tx==0)=T
 generalize decide (0≤n∧n≤8)=N1
 generalize decide (0≤n∧n≤20)=N2
 generalize decide (0≤sm∧sm≤4294967295)=S
 generalize (n==0)=Z1
 generalize (sm==0)=Z2
 generalize seq key ⟨#[]⟩=E1
 generalize seq tt ⟨#[]⟩=E2
 by_cases h1:ty=1
 · subst h1;simp;cases T0 <;> cases T <;> cases K <;> cases L <;> cases Z1 <;> cases Z2 <;> rfl
 by_cases h4:ty=4
 · subst h4;simp;cases T0 <;> cases T <;> cases K <;> cases L <;> cases Z1 <;> cases Z2 <;> rfl
 by_cases h2:ty=2
 · subst h2;simp;cases T0 <;> cases T <;> cases K <;> cases E2 <;> cases Z1 <;> cases Z2 <;> rfl
 by_cases h3:ty=3
 · subst h3;simp;cases T0 <;> cases T <;> cases E1 <;> cases E2 <;> cases N1 <;> cases S <;> rfl
 by_cases h5:ty=5
 · subst h5;simp;cases T0 <;> cases T <;> cases E1 <;> cases E2 <;> cases N2 <;> cases S <;> rfl
 have b1:(ty==1)=false:=nZ h1
 have b2:(ty==2)=false:=nZ h2
 have b3:(ty==3)=false:=nZ h3
 have b4:(ty==4)=false:=nZ h4
 have b5:(ty==5)=false:=nZ h5
 have b6:(ty != 5)=true:=bne_iff_ne.2 h5
 simp only [b1,b2,b3,b4,b5,b6,Bool.or_false,aN,aZ]
 cases T0 <;> cases T <;> rfl
def jW (s:ByteArray):ByteArray:=iA (s.size:Int)++s
theorem mE (s:ByteArray):(jW s).size≤7+s.size:=by
 unfold jW
 have:=ax (s.size:Int)
 rw [ByteArray.size_append]
 omega
def aU (a:Ty.den bU):ByteArray :=
 if ik a=true then
  if a.1=1∨a.1=4 then iA a.1++(iA a.2.1++(jW a.2.2.1++jW a.2.2.2.1))
  else if a.1=2 then iA a.1++(iA a.2.1++jW a.2.2.1)
  else iA a.1++(iA a.2.1++(iA a.2.2.2.2.1++qT a.2.2.2.2.2.1))
 else ⟨#[]⟩
theorem mW {a:Ty.den bU} (h:ik a=true) :
 ((a.1=1∨a.1=4)∧1≤a.2.2.1.size∧a.2.2.1.size≤8∧a.2.2.2.1.size≤24∧a.2.2.2.2.1=0∧a.2.2.2.2.2.1=0∧1≤a.2.1∧a.2.1≤1000000) ∨
 (a.1=2∧1≤a.2.2.1.size∧a.2.2.1.size≤8∧a.2.2.2.1=⟨#[]⟩∧a.2.2.2.2.1=0∧a.2.2.2.2.2.1=0∧1≤a.2.1∧a.2.1≤1000000) ∨
 ((a.1=3∨a.1=5)∧a.2.2.1=⟨#[]⟩∧a.2.2.2.1=⟨#[]⟩∧0≤a.2.2.2.2.1∧a.2.2.2.2.1≤20∧0≤a.2.2.2.2.2.1∧a.2.2.2.2.2.1≤4294967295∧0≤a.2.1∧a.2.1≤1000000):=by
 obtain ⟨kd,bt,key,val,cn,sm,u⟩:=a
 change Int at kd bt cn sm
 change ByteArray at key val
 unfold ik at h
 simp only [] at h ⊢
 by_cases c:kd=1∨kd=4
 · have b:(kd==1||kd==4)=true:=by rcases c with c | c <;> rw [c] <;> rfl
   rw [b,aZ] at h
   simp only [kC,decide_eq_true_eq,beq_iff_eq] at h
   exact .inl ⟨c,by omega,by omega,by omega,h.2.2.1,h.2.2.2.1,h.2.2.2.2⟩
 · have b1:(kd==1)=false:=nZ fun h=>c (.inl h)
   have b4:(kd==4)=false:=nZ fun h=>c (.inr h)
   simp only [b1,b4,Bool.or_false,aN] at h
   cases b2:(kd==2) with
   | true =>
    rw [b2,aZ] at h
    simp only [kC,decide_eq_true_eq,beq_iff_eq,dY] at h
    exact .inr (.inl ⟨eq_of_beq b2,by omega,by omega,h.2.1,h.2.2.1,h.2.2.2.1,h.2.2.2.2⟩)
   | false =>
    rw [b2,aN] at h
    cases b3:(kd==3) with
    | true =>
     rw [b3,aZ] at h
     simp only [kC,decide_eq_true_eq,dY] at h
     exact .inr (.inr ⟨.inl (eq_of_beq b3),h.1,h.2.1,h.2.2.1.1,Int.le_trans h.2.2.1.2 (by decide),h.2.2.2.1.1,h.2.2.2.1.2,Int.le_trans (by decide) h.2.2.2.2.1,h.2.2.2.2.2⟩)
    | false =>
     rw [b3,aN] at h
     cases b5:(kd==5) with
     | true =>
      rw [b5,aZ] at h
      simp only [kC,decide_eq_true_eq,dY] at h
      exact .inr (.inr ⟨.inr (eq_of_beq b5),h.1,h.2.1,h.2.2.1.1,h.2.2.1.2,h.2.2.2.1.1,h.2.2.2.1.2,h.2.2.2.2.1,h.2.2.2.2.2⟩)
     | false =>
      rw [b5,aN] at h
      cases h
theorem vt {kd b cn sm:Int} {key val:ByteArray} (h:ik (kd,(b,(key,(val,(cn,(sm,()))))))=true) :
 ((kd=1∨kd=4)∧1≤key.size∧key.size≤8∧val.size≤24∧cn=0∧sm=0∧1≤b∧b≤1000000) ∨
 (kd=2∧1≤key.size∧key.size≤8∧val=⟨#[]⟩∧cn=0∧sm=0∧1≤b∧b≤1000000) ∨
 ((kd=3∨kd=5)∧key=⟨#[]⟩∧val=⟨#[]⟩∧0≤cn∧cn≤20∧0≤sm∧sm≤4294967295∧0≤b∧b≤1000000):=mW h
theorem cK {k:Nat} (hk:2 ^ 50≤k) (a:Ty.den bU):bL.f k a=some (aU a,()):=by
 unfold bL.f bL.t aU
 rw [AW,aO]
 cases hr:ik a with
 | false=>rfl
 | true =>
  have v1:=ax a.1
  have v2:=ax a.2.1
  have v3:=ax (a.2.2.1.size:Int)
  have v4:=ax (a.2.2.2.1.size:Int)
  have v5:=ax a.2.2.2.2.1
  have v6:=k8 a.2.2.2.2.2.1
  simp only [fV,aN,if_true,jW]
  rcases mW hr with ⟨c,h⟩ | ⟨c,h⟩ | ⟨c,h⟩
  · rw [if_pos c]
    rcases c with c | c
    · have b1:(a.1==1)=true:=by rw [c];rfl
      simp (disch:=first | omega | (simp only [ByteArray.size_append];omega)) only [gk hk,aO,b1,aZ,dW,ap]
    · have b1:(a.1==1)=false:=by rw [c];rfl
      have b4:(a.1==4)=true:=by rw [c];rfl
      simp (disch:=first | omega | (simp only [ByteArray.size_append];omega)) only [gk hk,aO,b1,b4,aZ,aN,dW,ap]
  · have b1:(a.1==1)=false:=by rw [c];rfl
    have b4:(a.1==4)=false:=by rw [c];rfl
    have b2:(a.1==2)=true:=by rw [c];rfl
    rw [if_neg (show ¬ (a.1=1∨a.1=4) by rw [c];decide),if_pos c]
    simp (disch:=first | omega | (simp only [ByteArray.size_append];omega)) only [gk hk,aO,b1,b2,b4,aZ,aN,dW,ap]
  · have b1:(a.1==1)=false:=by rcases c with c | c <;> rw [c] <;> rfl
    have b4:(a.1==4)=false:=by rcases c with c | c <;> rw [c] <;> rfl
    have b2:(a.1==2)=false:=by rcases c with c | c <;> rw [c] <;> rfl
    rw [if_neg (show ¬ (a.1=1∨a.1=4) by rcases c with c | c <;> rw [c] <;> decide),if_neg (show ¬ a.1=2 by rcases c with c | c <;> rw [c] <;> decide)]
    obtain ⟨_,_,_,_,z1,z2,_⟩:=h
    simp (disch:=first | assumption | omega | (simp only [ByteArray.size_append];omega)) only [gk hk,pf hk,aO,b1,b2,b4,aZ,aN,dW,ap]
theorem yz {k:Nat} (hk:2 ^ 50≤k) (x y:Int):dI.f k [x,y]=some (iA x++iA y,()):=by
 have v1:=ax x
 have v2:=ax y
 obtain ⟨q,hq⟩:∃ q,k=q+3:=⟨k-3,by omega⟩
 refine (congrArg (fun z=>dI.l0 k z ⟨#[]⟩ [x,y] 2 0) hq).trans ?_
 rw [show dI.l0 k (q+3) ⟨#[]⟩ [x,y] 2 0=(fX.f k x).bind (fun r1=>jk ⟨#[]⟩ r1.1 (dI.l0 k (q+2) (⟨#[]⟩++r1.1) [x,y] 2 1)) from rfl]
 rw [nT hk,aO]
 simp only []
 rw [dW (by rw [show (⟨#[]⟩:ByteArray).size=0 from rfl];omega),oV]
 rw [show dI.l0 k (q+2) (iA x) [x,y] 2 1=(fX.f k y).bind (fun r1=>jk (iA x) r1.1 (dI.l0 k (q+1) (iA x++r1.1) [x,y] 2 2)) from rfl]
 rw [nT hk,aO]
 simp only []
 rw [dW (by omega)]
 rfl
theorem l_ {k:Nat} (hk:2 ^ 50≤k) {s:ByteArray} (hs:s.size≤1099511627776):eF.f k s=some (jW s,()):=by
 have:=ax (s.size:Int)
 unfold eF.f eF.t jW
 simp (disch:=omega) only [nT hk,aO,dW]
theorem wX {k:Nat} (hk:2 ^ 50≤k) (a:Ty.den bU):j4.f k a=some (aU a,()):=by
 unfold j4.f j4.t aU
 rw [iM,aO]
 cases hr:ik a with
 | false=>rfl
 | true =>
  have v1:=ax a.1
  have v2:=ax a.2.1
  have v3:=mE a.2.2.1
  have v4:=mE a.2.2.2.1
  have v5:=ax a.2.2.2.2.1
  have v6:=k8 a.2.2.2.2.2.1
  simp only [fV,aN,if_true,yz hk,aO]
  rcases mW hr with ⟨c,h⟩ | ⟨c,h⟩ | ⟨c,h⟩
  · rw [if_pos c]
    rcases c with c | c
    · have b1:(a.1==1)=true:=by rw [c];rfl
      simp (disch:=first | omega | (simp only [ByteArray.size_append];omega)) only [l_ hk,aO,b1,aZ,dW,ap]
    · have b1:(a.1==1)=false:=by rw [c];rfl
      have b4:(a.1==4)=true:=by rw [c];rfl
      simp (disch:=first | omega | (simp only [ByteArray.size_append];omega)) only [l_ hk,aO,b1,b4,aZ,aN,dW,ap]
  · have b1:(a.1==1)=false:=by rw [c];rfl
    have b4:(a.1==4)=false:=by rw [c];rfl
    have b2:(a.1==2)=true:=by rw [c];rfl
    rw [if_neg (show ¬ (a.1=1∨a.1=4) by rw [c];decide),if_pos c]
    simp (disch:=first | omega | (simp only [ByteArray.size_append];omega)) only [l_ hk,aO,b1,b2,b4,aZ,aN,dW,ap]
  · have b1:(a.1==1)=false:=by rcases c with c | c <;> rw [c] <;> rfl
    have b4:(a.1==4)=false:=by rcases c with c | c <;> rw [c] <;> rfl
    have b2:(a.1==2)=false:=by rcases c with c | c <;> rw [c] <;> rfl
    rw [if_neg (show ¬ (a.1=1∨a.1=4) by rcases c with c | c <;> rw [c] <;> decide),if_neg (show ¬ a.1=2 by rcases c with c | c <;> rw [c] <;> decide)]
    obtain ⟨_,_,_,_,z1,z2,_⟩:=h
    simp (disch:=first | assumption | omega | (simp only [ByteArray.size_append];omega)) only [nT hk,pe hk,aO,b1,b2,b4,aZ,aN,dW,ap]
theorem tD (a:Ty.den bU):(aU a).size≤60:=by
 unfold aU
 split
 · rename_i hr
   have v1:=ax a.1
   have v2:=ax a.2.1
   have v3:=mE a.2.2.1
   have v4:=mE a.2.2.2.1
   have v5:=ax a.2.2.2.2.1
   have v6:=k8 a.2.2.2.2.2.1
   rcases mW hr with ⟨c,h⟩ | ⟨c,h⟩ | ⟨c,h⟩
   · rw [if_pos c]
     simp only [ByteArray.size_append];omega
   · rw [if_neg (show ¬ (a.1=1∨a.1=4) by rw [c];decide),if_pos c]
     simp only [ByteArray.size_append];omega
   · rw [if_neg (show ¬ (a.1=1∨a.1=4) by rcases c with c | c <;> rw [c] <;> decide),if_neg (show ¬ a.1=2 by rcases c with c | c <;> rw [c] <;> decide)]
     simp only [ByteArray.size_append];omega
 · exact Nat.zero_le _
def oA:List (Ty.den bU)→ByteArray
 | []=>⟨#[]⟩
 | a::l=>aU a++oA l
def BW (l:List (Ty.den bU)):Int:=oc (oA l)
theorem pm {k:Nat} (hk:2 ^ 50≤k) {l:List (Ty.den bU)} (hl:l.length≤1073741824):g9.f k l=some (BW l,()):=by
 refine (du (L:=fun n i s=>g9.l0 k n l s i) (R:=fun l s=>some (oc (s++oA l),())) (Ty.dflt bU) l (fun i s=>(s.size:Int)≤60*i) (fun n s hs=>?_) (fun n i s x rest h0 h1 hx hr hp ih=>?_) (n:=k) (s:=⟨#[]⟩) (by omega) (by decide)).trans (by rw [oV];rfl)
 · simp (disch:=omega) only [g9.l0,g9.b0,aQ,aN,ss hk,aO,oA,gL]
 · have hz:=tD x
   simp (disch:=omega) only [g9.l0,g9.b0,aP,aZ,aG,hx,cK hk,aO,dW,aD]
   rw [ih _ (by rw [ByteArray.size_append];omega),oA,ap]
theorem AM {k:Nat} (hk:2 ^ 50≤k) {l:List (Ty.den bU)} (hl:l.length≤1073741824):ig.f k l=some (BW l,()):=by
 refine (du (L:=fun n i s=>ig.l0 k n s l l.length i) (R:=fun l s=>some (oc (s++oA l),())) (Ty.dflt bU) l (fun i s=>(s.size:Int)≤60*i) (fun n s hs=>?_) (fun n i s x rest h0 h1 hx hr hp ih=>?_) (n:=k) (s:=⟨#[]⟩) (by omega) (by decide)).trans (by rw [oV];rfl)
 · simp (disch:=omega) only [ig.l0,ig.b0,aQ,aN,sv hk,aO,oA,gL]
 · have hz:=tD x
   simp (disch:=omega) only [ig.l0,ig.b0,aP,aZ,aG,hx,wX hk,aO,dW,aD]
   rw [ih _ (by rw [ByteArray.size_append];omega),oA,ap]
end Go.Proofs.YtohaanhjddohmaaGreatDoor.G
namespace Go.Proofs.YtohaanhjddohmaaGreatDoor.G
open Go.V
theorem A8 {s:ByteArray} (hs:s.size≤4611686018427387904) (k:Nat):∀ (d i acc n:Nat),i+d=7→acc<128 ^ i→d<n →
 cr.l0 k n s (acc:Int) (i:Int)=some (match rv d ((nb s).drop i) with
  | some (a,m)=>if a=0∧0<i then (0,(0,())) else (((acc+a*128 ^ i:Nat):Int),(((i+m:Nat):Int),()))
  | none=>(0,(0,()))):=by
 intro d
 induction d with
 | zero =>
  intro i acc n h1 h2 h3
  obtain ⟨n,rfl⟩:∃ q,n=q+1:=⟨n-1,by omega⟩
  simp (disch:=omega) only [cr.l0,cr.b0,aQ,aN,rv]
 | succ d ih =>
  intro i acc n h1 h2 h3
  obtain ⟨n,rfl⟩:∃ q,n=q+1:=⟨n-1,by omega⟩
  by_cases hlt:i<s.size
  case neg =>
   rw [List.drop_eq_nil_of_le (by rw [cX];omega)]
   simp (disch:=omega) only [cr.l0,cr.b0,aP,aQ,aZ,aN,rv]
  have hb:=jC s i
  have hat:=wH hlt
  have ih:=ih (i+1)
  rw [s7 hlt]
  generalize (nb s).getD i 0=b at hb hat
  have e8:aF (7*(i:Int))=((7*i:Nat):Int):=by rw [aD (by omega) (by omega)];omega
  have emin:min (7*i) (IntKind.bits .i64)=7*i:=by have:IntKind.bits .i64=64:=rfl;rw [this];omega
  have ep:(2:Int) ^ (7*i)=((128 ^ i:Nat):Int):=by rw [Int.pow_mul,Int.natCast_pow];rfl
  have hp:128 ^ i≤128 ^ 6:=Nat.pow_le_pow_right (by decide) (by omega)
  rw [show (128:Nat) ^ 6=4398046511104 by decide] at hp
  have hps:128 ^ (i+1)=128 ^ i*128:=Nat.pow_succ ..
  have hb2:(b % 128)*128 ^ i≤127*128 ^ i:=Nat.mul_le_mul (by omega) (Nat.le_refl _)
  have ev:aF ((acc:Int)+aF (Int.tmod (b:Int) 128*2 ^ (7*i)))=((acc+b % 128*128 ^ i:Nat):Int):=by
   have e:Int.tmod (b:Int) 128*2 ^ (7*i)=((b % 128*128 ^ i:Nat):Int):=by
    rw [ep,Int.natCast_mul]
    rfl
   rw [e,aD (n:=((b % 128*128 ^ i:Nat):Int)) (by omega) (by omega),aD (by omega) (by omega)]
   omega
  have eb:aF ((b:Nat):Int)=(b:Int):=aD (by omega) (by omega)
  have ei:aF ((i:Int)+1)=((i+1:Nat):Int):=by rw [aD (by omega) (by omega)];omega
  have ih:=ih (acc+b % 128*128 ^ i) n (by omega) (by omega) (by omega)
  simp (disch:=omega) only [cr.l0,cr.b0,aP,aZ,aG,hat,eb,e8,nK,emin,ev,ei]
  rw [aQ (by omega),aN]
  by_cases c:b≥128
  · rw [aP (show (b:Int)≥128 by omega),aZ,ih,rv,if_pos c]
    cases q:rv d ((nb s).drop (i+1)) with
    | none=>rfl
    | some p =>
     obtain ⟨a,m⟩:=p
     simp only []
     by_cases z:a=0
     · simp [z]
     · have hm:a*128 ^ (i+1)=128*a*128 ^ i:=by rw [hps,Nat.mul_comm (128 ^ i),← Nat.mul_assoc,Nat.mul_comm a]
       rw [if_neg (by omega),if_neg z]
       simp only []
       rw [if_neg (by omega)]
       have e1:acc+b % 128*128 ^ i+a*128 ^ (i+1)=acc+(b % 128+128*a)*128 ^ i:=by rw [hm,Nat.add_mul];omega
       have e2:i+1+m=i+(m+1):=by omega
       rw [e1,e2]
  · have em:b % 128=b:=by omega
    rw [aQ (show ¬ (b:Int)≥128 by omega),aN,rv,if_neg c,em]
    by_cases z:b=0
    · subst z
      rw [show ((((0:Nat):Int)==0))=true from rfl,aZ]
      by_cases hi:0<i
      · rw [aP (show (i:Int) > 0 by omega),aZ]
        simp [hi]
      · rw [aQ (show ¬ (i:Int) > 0 by omega),aN]
        simp [hi]
    · rw [show ((b:Int)==0)=false from nZ (by omega),aN]
      simp [z]
theorem o6 {k:Nat} (hk:2 ^ 50≤k) {s:ByteArray} (hs:s.size≤4611686018427387904):cr.f k s=some (Cv (rv 7 (nb s))):=by
 unfold cr.f cr.t
 refine (A8 hs k 7 0 0 k (by omega) (by decide) (by omega)).trans ?_
 rw [List.drop_zero]
 cases rv 7 (nb s) with
 | none=>rfl
 | some p=>simp [Cv]
theorem EF {k:Nat} {L0:ByteArray→Int→Option (Int × Int × Unit)} {s:ByteArray} {n:Nat}:∀ (j x m:Nat),j<m→j≤s.size→j≤7→(x+1)*128 ^ j≤562949953421312 →
 aj.l1 k L0 m s (n:Int) (x:Int) ((j:Int)-1)=aj.l1 k L0 (m-j) s (n:Int) ((x*128 ^ j+sA ((nb s).take j):Nat):Int) (-1)
 | 0,x,m,hm,hs,h7,hx=>by simp [sA]
 | j+1,x,m,hm,hs,h7,hx=>by
  obtain ⟨m,rfl⟩:∃ q,m=q+1:=⟨m-1,by omega⟩
  have hj:j<s.size:=by omega
  have hb:=jC s j
  rw [Nat.pow_succ,← Nat.mul_assoc,Nat.mul_comm _ 128,← Nat.mul_assoc] at hx
  have hpos:1≤128 ^ j:=Nat.one_le_pow _ _ (by decide)
  have hx2:(128*(x+1))*1≤(128*(x+1))*128 ^ j:=Nat.mul_le_mul (Nat.le_refl _) hpos
  have hat:=wH hj
  have e0:((j+1:Nat):Int)-1=(j:Int):=by omega
  have c:(j:Int)≥0:=by omega
  have c2:(j:Int)<(s.size:Int):=by omega
  rw [HE hj,CN,List.length_take,cX,Nat.min_eq_left (by omega)]
  generalize (nb s).getD j 0=b at hb hat ⊢
  have w1:aF (((b:Nat):Int))=(b:Int):=aD (by omega) (by omega)
  have w2:aF ((x:Int)*128)=(x:Int)*128:=aD (by omega) (by omega)
  have w3:aF ((x:Int)*128+Int.tmod (b:Int) 128)=((x*128+b % 128:Nat):Int):=by
   have e:(x:Int)*128+Int.tmod (b:Int) 128=((x*128+b % 128:Nat):Int):=by
    show (x:Int)*128+((b % 128:Nat):Int)=_
    omega
   rw [e]
   exact aD (by omega) (by omega)
  have w4:aF ((j:Int)-1)=(j:Int)-1:=aD (by omega) (by omega)
  have hx3:(x*128+b % 128+1)*128 ^ j≤(128*(x+1))*128 ^ j:=Nat.mul_le_mul (by omega) (Nat.le_refl _)
  have ih:=EF (k:=k) (L0:=L0) (s:=s) (n:=n) j (x*128+b % 128) m (by omega) (by omega) (by omega) (by omega)
  rw [e0]
  simp only [aj.l1,aj.b1,decide_eq_true c,aZ,aG c c2,hat,w1,w2,w3,w4]
  rw [ih,show m+1-(j+1)=m-j by omega]
  congr 2
  rw [Nat.pow_succ,Nat.add_mul,Nat.mul_assoc,Nat.mul_comm 128 (128 ^ j),Nat.mul_comm (b % 128)]
  omega
theorem Kd {s:ByteArray} {n:Nat} (h7:n≤7):sA ((nb s).take n)<562949953421312:=by
 have:=B6 ((nb s).take n)
 have h1:((nb s).take n).length≤7:=by rw [List.length_take];omega
 have h2:(128:Nat) ^ ((nb s).take n).length≤128 ^ 7:=Nat.pow_le_pow_right (by decide) h1
 rw [show (128:Nat) ^ 7=562949953421312 by decide] at h2
 omega
theorem Aj {k:Nat} (hk:2 ^ 50≤k) {s:ByteArray}:∀ (d i n:Nat),i+d=8→1≤i→d<n →
 aj.l0 k n s (i:Int)=some (match rv 7 (nb s) with | some (a,m)=>if i≤m then ((a:Int),((m:Int),())) else (0,(0,())) | none=>(0,(0,()))):=by
 have stop:∀ i,(7<i∨s.size<i)→(match rv 7 (nb s) with | some (a,m)=>if i≤m then ((a:Int),((m:Int),())) else (0,(0,())) | none=>(0,(0,())))=((0:Int),((0:Int),())):=by
  intro i hi
  cases q:rv 7 (nb s) with
  | none=>rfl
  | some p =>
   obtain ⟨a,m⟩:=p
   obtain ⟨_,_,_,h4,_,h6⟩:=pX 6 (nb s) a m (sq s) q
   rw [cX] at h4
   exact if_neg (by omega)
 intro d
 induction d with
 | zero =>
  intro i n h1 h2 h3
  obtain ⟨n,rfl⟩:∃ q,n=q+1:=⟨n-1,by omega⟩
  rw [stop i (by omega)]
  simp (disch:=omega) only [aj.l0,aj.b0,aQ,aN]
 | succ d ih =>
  intro i n h1 h2 h3
  obtain ⟨n,rfl⟩:∃ q,n=q+1:=⟨n-1,by omega⟩
  by_cases hs:i≤s.size
  case neg =>
   rw [stop i (by omega)]
   simp (disch:=omega) only [aj.l0,aj.b0,aP,aQ,aZ,aN]
  have hp:(128:Nat) ^ i≤128 ^ 7:=Nat.pow_le_pow_right (by decide) (by omega)
  rw [show (128:Nat) ^ 7=562949953421312 by decide] at hp
  simp (disch:=omega) only [aj.l0,aj.b0,aP,aZ,aD]
  refine (EF (k:=k) (L0:=aj.l0 k n) (s:=s) (n:=i) i 0 k (by omega) hs (by omega) (by omega)).trans ?_
  obtain ⟨m,hm⟩:∃ m,k-i=m+1:=⟨k-i-1,by omega⟩
  have hd7:=Kd (s:=s) (n:=i) (by omega)
  have hc:=Fg (s:=s) (n:=i) h2 (by omega) hs
  rw [hm,Nat.zero_mul,Nat.zero_add]
  simp only [aj.l1,aj.b1,show decide ((-1:Int)≥0)=false by decide,aN,gk hk,aO,dL hd7]
  rw [br (by omega) (by omega),nK,hc,aD (by omega) (by omega)]
  have hw:=IB (nb s) (sq s) 6 i h2 (by omega) (by rw [cX];exact hs)
  cases hq:rF ((nb s).take i) with
  | true =>
   obtain ⟨a,ha⟩:=hw.1 hq
   rw [aZ,ha]
   simp only []
   rw [if_pos (Nat.le_refl _),JG (sq s) ha]
  | false =>
   have hnot:∀ a,rv 7 (nb s)≠some (a,i):=fun a ha=>by
    have:=hw.2 ⟨a,ha⟩
    rw [hq] at this
    cases this
   rw [aN]
   refine (ih (i+1) n (by omega) (by omega) (by omega)).trans ?_
   cases q:rv 7 (nb s) with
   | none=>rfl
   | some p =>
    obtain ⟨a,m'⟩:=p
    have:m'≠i:=fun e=>hnot a (by rw [q,e])
    simp only []
    by_cases c:i≤m'
    · rw [if_pos c,if_pos (by omega)]
    · rw [if_neg c,if_neg (by omega)]
theorem fm {k:Nat} (hk:2 ^ 50≤k) (s:ByteArray):aj.f k s=some (Cv (rv 7 (nb s))):=by
 unfold aj.f aj.t
 refine (Aj hk 7 1 k (by omega) (by omega) (by omega)).trans ?_
 cases q:rv 7 (nb s) with
 | none=>rfl
 | some p =>
  obtain ⟨a,m⟩:=p
  obtain ⟨_,_,_,_,h5,_⟩:=pX 6 (nb s) a m (sq s) q
  simp only [Cv]
  rw [if_pos h5]
end Go.Proofs.YtohaanhjddohmaaGreatDoor.G
namespace Go.Proofs.YtohaanhjddohmaaGreatDoor.G
open Go.V
theorem pK {k:Nat} (hk:2 ^ 50≤k) {x:Nat} (hx:x<4294967296) (t:ByteArray):bh.f k (fB x++t) 4=some ((x:Int),(true,())):=by
 have hz:=mb x t
 have st:∀ (q a j:Nat),j<4→a<4294967296→bh.l0 k (q+1) (fB x++t) 4 (a:Int) (j:Int)=bh.l0 k q (fB x++t) 4 ((a*256+(nb (fB x++t)).getD j 0:Nat):Int) ((j+1:Nat):Int):=fun q a j hj ha=>by
  have hb:=jC (fB x++t) j
  have hat:=wH (s:=fB x++t) (i:=j) (by omega)
  generalize (nb (fB x++t)).getD j 0=b at *
  have e1:aF (aF ((a:Int)*256)+aF (b:Int))=((a*256+b:Nat):Int):=by
   rw [aD (n:=(a:Int)*256) (by omega) (by omega),aD (n:=(b:Int)) (by omega) (by omega),aD (by omega) (by omega)]
   omega
  have ej:aF ((j:Int)+1)=((j+1:Nat):Int):=by rw [aD (by omega) (by omega)];omega
  simp (disch:=omega) only [bh.l0,bh.b0,aP,aZ,aG,hat,e1,ej]
 unfold bh.f bh.t
 rw [oK,aO]
 simp only [show decide ((1:Int)≤4∧(4:Int)≤7)=true by decide,fV,aN,aQ (show ¬ (((fB x++t).size:Int)<4) by omega)]
 obtain ⟨q,hq⟩:∃ q,k=q+5:=⟨k-5,by omega⟩
 refine (congrArg (fun z=>bh.l0 k z (fB x++t) 4 0 0) hq).trans ?_
 refine (st (q+4) 0 0 (by omega) (by omega)).trans ?_
 rw [v_]
 simp only [List.getD_cons_zero,Nat.zero_mul,Nat.zero_add]
 refine (st (q+3) _ 1 (by omega) (by omega)).trans ?_
 rw [v_]
 simp only [List.getD_cons_zero,List.getD_cons_succ]
 refine (st (q+2) _ 2 (by omega) (by omega)).trans ?_
 rw [v_]
 simp only [List.getD_cons_zero,List.getD_cons_succ]
 refine (st (q+1) _ 3 (by omega) (by omega)).trans ?_
 rw [v_]
 simp only [List.getD_cons_zero,List.getD_cons_succ]
 simp only [bh.l0,bh.b0,show decide ((((3+1:Nat)):Int)<4)=false by decide,aN]
 congr 3
 omega
theorem p_ {k:Nat} (hk:2 ^ 50≤k) {x:Nat} (hx:x<4294967296) (t:ByteArray):bp.f k (fB x++t) 4=some ((x:Int),(true,())):=by
 have hz:=mb x t
 have st:∀ (q a j:Nat),j<4→a<16777216→bp.l0 k (q+1) (fB x++t) (a:Int) 4 (j:Int)=bp.l0 k q (fB x++t) ((a*256+(nb (fB x++t)).getD j 0:Nat):Int) 4 ((j+1:Nat):Int):=fun q a j hj ha=>by
  have hb:=jC (fB x++t) j
  have hat:=wH (s:=fB x++t) (i:=j) (by omega)
  generalize (nb (fB x++t)).getD j 0=b at *
  have e0:aF ((a:Int)*2 ^ min (Int.toNat 8) (IntKind.bits .i64))=((a*256:Nat):Int):=by
   rw [show (2:Int) ^ min (Int.toNat 8) (IntKind.bits .i64)=256 by decide,aD (by omega) (by omega)]
   omega
  have e2:aF (b:Int)=(b:Int):=aD (by omega) (by omega)
  have ej:aF ((j:Int)+1)=((j+1:Nat):Int):=by rw [aD (by omega) (by omega)];omega
  simp (disch:=omega) only [bp.l0,bp.b0,aP,aZ,aG,hat,e0,e2,ej]
  rw [Ka (by omega) hb]
 unfold bp.f bp.t
 rw [yH,aO]
 simp only [show decide ((1:Int)≤4∧(4:Int)≤7)=true by decide,fV,aN,aQ (show ¬ (((fB x++t).size:Int)<4) by omega)]
 obtain ⟨q,hq⟩:∃ q,k=q+5:=⟨k-5,by omega⟩
 refine (congrArg (fun z=>bp.l0 k z (fB x++t) 0 4 0) hq).trans ?_
 refine (st (q+4) 0 0 (by omega) (by omega)).trans ?_
 rw [v_]
 simp only [List.getD_cons_zero,Nat.zero_mul,Nat.zero_add]
 refine (st (q+3) _ 1 (by omega) (by omega)).trans ?_
 rw [v_]
 simp only [List.getD_cons_zero,List.getD_cons_succ]
 refine (st (q+2) _ 2 (by omega) (by omega)).trans ?_
 rw [v_]
 simp only [List.getD_cons_zero,List.getD_cons_succ]
 refine (st (q+1) _ 3 (by omega) (by omega)).trans ?_
 rw [v_]
 simp only [List.getD_cons_zero,List.getD_cons_succ]
 simp only [bp.l0,bp.b0,show decide ((((3+1:Nat)):Int)<4)=false by decide,aN]
 congr 3
 omega
theorem uD (k:Nat) {s:ByteArray} (h:s.size<4):bh.f k s 4=some (0,(false,())):=by
 unfold bh.f bh.t
 rw [oK,aO]
 simp only [show decide ((1:Int)≤4∧(4:Int)≤7)=true by decide,fV,aN,aP (show (s.size:Int)<4 by omega),aZ]
theorem uC (k:Nat) {s:ByteArray} (h:s.size<4):bp.f k s 4=some (0,(false,())):=by
 unfold bp.f bp.t
 rw [yH,aO]
 simp only [show decide ((1:Int)≤4∧(4:Int)≤7)=true by decide,fV,aN,aP (show (s.size:Int)<4 by omega),aZ]
end Go.Proofs.YtohaanhjddohmaaGreatDoor.G
namespace Go.Proofs.YtohaanhjddohmaaGreatDoor.G
open Go.V
def ah (s:ByteArray):ByteArray:=if s.size > 200 then ⟨#[]⟩ else qT (oc (jW s))++jW s
theorem i7 (s:ByteArray):(ah s).size≤211:=by
 unfold ah
 split
 · exact Nat.zero_le _
 · have:=mE s
   rw [ByteArray.size_append,k8];omega
theorem o8 {s:ByteArray} (h:s.size≤200):5≤(ah s).size:=by
 unfold ah
 rw [if_neg (by omega),ByteArray.size_append,k8]
 unfold jW
 rw [dL (by omega),ByteArray.size_append]
 have:=af s.size
 omega
theorem iz {k:Nat} (hk:2 ^ 50≤k) (s:ByteArray):d9.f k s=some (ah s,()):=by
 unfold d9.f d9.t ah
 by_cases c:s.size > 200
 · rw [aP (show (s.size:Int) > 200 by omega),aZ,if_pos c]
 · have h1:=ax (s.size:Int)
   have h2:=tn (iA (s.size:Int)++s)
   rw [aQ (show ¬ (s.size:Int) > 200 by omega),aN,if_neg c]
   unfold jW
   simp (disch:=first | omega | (simp only [ByteArray.size_append,k8];omega)) only [gk hk,aO,dW,ss hk]
   rw [pf hk h2.1 h2.2,aO,dW (by simp only [ByteArray.size_append,k8];omega)]
theorem tJ {k:Nat} (hk:2 ^ 50≤k) (s:ByteArray):jE.f k s=some (ah s,()):=by
 unfold jE.f jE.t ah
 by_cases c:s.size > 200
 · rw [aP (show (s.size:Int) > 200 by omega),aZ,if_pos c]
 · have h1:=mE s
   have h2:=tn (jW s)
   rw [aQ (show ¬ (s.size:Int) > 200 by omega),aN,if_neg c]
   simp (disch:=omega) only [l_ hk,aO,sv hk]
   rw [pe hk h2.1 h2.2,aO,dW (by rw [k8];omega)]
end Go.Proofs.YtohaanhjddohmaaGreatDoor.G
namespace Go.Proofs.YtohaanhjddohmaaGreatDoor.G
open Go.V
theorem aM (a b:ByteArray):(a++b).size=a.size+b.size:=ByteArray.size_append ..
theorem rK (a b t:ByteArray):ByteArray.extract (a++(b++t)) (a.size+b.size) (a++(b++t)).size=t:=by
 have:=fW (a++b) t
 rw [aM,ap] at this
 exact this
theorem KK (a b t:ByteArray):ByteArray.extract (a++(b++t)) a.size (a.size+b.size)=b:=kx (by
 rw [Ap,iL,iL,List.take_append,List.take_of_length_le (by rw [cX];omega),cX,show a.size+b.size-a.size=b.size by omega,List.drop_left' (cX a),List.take_left' (cX b)])
theorem tV (a b:Nat):((a:Int)+(b:Int))=((a+b:Nat):Int):=rfl
theorem nt {k:Nat} (hk:2 ^ 50≤k) {a:Nat} {t:ByteArray} (ha:a<562949953421312) (hs:t.size≤1099511627776):cr.f k (bE a++t)=some ((a:Int),(((bE a).size:Int),())):=by
 have:=af a
 rw [o6 hk (by rw [aM];omega),rR ha];rfl
theorem ml {k:Nat} (hk:2 ^ 50≤k) {s:ByteArray} (h:rv 7 (nb s)=none) (hs:s.size≤1099511627776):cr.f k s=some (0,(0,())):=by
 rw [o6 hk (by omega),h];rfl
theorem co {k:Nat} (hk:2 ^ 50≤k) {a:Nat} {t:ByteArray} (ha:a<562949953421312):aj.f k (bE a++t)=some ((a:Int),(((bE a).size:Int),())):=by
 rw [fm hk,rR ha];rfl
theorem ju {k:Nat} (hk:2 ^ 50≤k) {s:ByteArray} (h:rv 7 (nb s)=none):aj.f k s=some (0,(0,())):=by
 rw [fm hk,h];rfl
theorem fH {k:Nat} (hk:2 ^ 50≤k) {a:Nat} {t:ByteArray} (ha:a<562949953421312) (hs:t.size≤1099511627776):aJ.f k (bE a++t,(false,()))=some ((t,(false,())),((a:Int),())):=by
 have h1:=af a
 unfold aJ.f aJ.t
 rw [nt hk ha hs,aO]
 simp only [aN]
 rw [show (((bE a).size:Int)==0)=false from nZ (by omega),aN,br (by omega) (by rw [aM];omega),nK,fW]
theorem lq {k:Nat} (hk:2 ^ 50≤k) {s:ByteArray} (h:rv 7 (nb s)=none) (hs:s.size≤1099511627776):aJ.f k (s,(false,()))=some ((s,(true,())),(0,())):=by
 unfold aJ.f aJ.t
 rw [ml hk h hs,aO]
 rfl
theorem vP {k:Nat} (hk:2 ^ 50≤k) {s:ByteArray} (hs:s.size≤1099511627776):aJ.f k (s,(true,()))=some ((s,(true,())),(0,())):=by
 unfold aJ.f aJ.t
 rw [o6 hk (show s.size≤_ by omega),aO]
 rfl
theorem rS (k:Nat) (u t:ByteArray):ak.f k (u++t,(false,())) (u.size:Int)=some ((t,(false,())),(u,())):=by
 unfold ak.f ak.t
 simp only [aN]
 rw [aQ (by rw [aM];omega),aN,br (by omega) (by rw [aM];omega),br (by omega) (by rw [aM];omega),nK,fW,xc]
theorem rt (k:Nat) {s:ByteArray} {n:Int} (h:n > (s.size:Int)):ak.f k (s,(false,())) n=some ((s,(true,())),(⟨#[]⟩,())):=by
 unfold ak.f ak.t
 simp only [aN]
 rw [aP h,aZ]
theorem ri (k:Nat) (s:ByteArray) (n:Int):ak.f k (s,(true,())) n=some ((s,(true,())),(⟨#[]⟩,())):=by
 unfold ak.f ak.t
 rfl
theorem nQ (s:ByteArray):(∃ u t,u.size<562949953421312∧s=bE u.size++(u++t))∨rv 7 (nb s)=none∨(∃ a t,a<562949953421312∧s=bE a++t∧t.size<a):=by
 rcases jx s with ⟨a,t,ha,rfl⟩ | h
 · by_cases c:t.size<a
   · exact .inr (.inr ⟨a,t,ha,rfl,c⟩)
   · have e:=tO t (n:=a) (by omega)
     have hz:(ByteArray.extract t 0 a).size=a:=by rw [← cX,kJ,List.length_take,cX];omega
     exact .inl ⟨_,_,by rw [hz];exact ha,by rw [hz,← e]⟩
 · exact .inr (.inl h)
theorem n7 {k:Nat} (hk:2 ^ 50≤k) {u t:ByteArray} (hu:u.size<562949953421312) (hs:(u++t).size≤1099511627776):ag.f k (bE u.size++(u++t),(false,()))=some ((t,(false,())),(u,())):=by
 unfold ag.f ag.t
 rw [fH hk hu hs,aO]
 simp only []
 rw [rS,aO]
theorem yD {k:Nat} (hk:2 ^ 50≤k) {s:ByteArray} (hs:s.size≤1099511627776):ag.f k (s,(true,()))=some ((s,(true,())),(⟨#[]⟩,())):=by
 unfold ag.f ag.t
 rw [vP hk hs,aO]
 simp only []
 rw [ri,aO]
theorem ww {k:Nat} (hk:2 ^ 50≤k) {s:ByteArray} (hs:s.size≤1099511627776) (h:rv 7 (nb s)=none∨(∃ a t,a<562949953421312∧s=bE a++t∧t.size<a)):∃ s',s'.size≤1099511627776∧ag.f k (s,(false,()))=some ((s',(true,())),(⟨#[]⟩,())):=by
 unfold ag.f ag.t
 rcases h with h | ⟨a,t,ha,rfl,ht⟩
 · refine ⟨s,hs,?_⟩
   rw [lq hk h hs,aO]
   simp only []
   rw [ri,aO]
 · have:=af a
   rw [aM] at hs
   refine ⟨t,by omega,?_⟩
   rw [fH hk ha (by omega),aO]
   simp only []
   rw [rt k (by omega),aO]
theorem vB {k:Nat} (hk:2 ^ 50≤k) {u t:ByteArray} (hu:u.size<562949953421312) (hs:(u++t).size≤1099511627776):cV.f k (bE u.size++(u++t))=some (u,(t,(true,()))):=by
 have h1:=af u.size
 have h2:(bE u.size++(u++t)).size=(bE u.size).size+(u.size+t.size):=by rw [aM,aM]
 rw [aM] at hs
 unfold cV.f cV.t
 rw [co hk hu,aO]
 simp only []
 rw [show (((bE u.size).size:Int)==0)=false from nZ (by omega),aN,aD (by omega) (by omega),aQ (by omega),aN,tV,aD (by omega) (by omega),
  vr (by omega) (by omega) (by omega),br (by omega) (by omega),nK,nK,KK,rK]
theorem wT {k:Nat} (hk:2 ^ 50≤k) {s:ByteArray} (hs:s.size≤1099511627776) (h:rv 7 (nb s)=none∨(∃ a t,a<562949953421312∧s=bE a++t∧t.size<a)):cV.f k s=some (⟨#[]⟩,(⟨#[]⟩,(false,()))):=by
 unfold cV.f cV.t
 rcases h with h | ⟨a,t,ha,rfl,ht⟩
 · rw [ju hk h,aO];rfl
 · have:=af a
   rw [aM] at hs
   rw [co hk ha,aO]
   simp only []
   rw [show (((bE a).size:Int)==0)=false from nZ (by omega),aN,aD (by rw [aM];omega) (by rw [aM];omega),aP (by rw [aM];omega),aZ]
section
open Classical
variable {α:Type}
noncomputable def od (ok:α→Prop) (shw:α→ByteArray) (z:α) (s:ByteArray):α × Bool:=if h:∃ r,ok r∧shw r=s then (h.choose,true) else (z,false)
theorem Az {ok:α→Prop} {shw:α→ByteArray} {z:α} {s:ByteArray} {r:α} (h:od ok shw z s=(r,true)):ok r∧shw r=s:=by
 unfold od at h
 split at h
 · rename_i q
   obtain rfl:=(Prod.mk.inj h).1
   exact q.choose_spec
 · cases (Prod.mk.inj h).2
theorem EY {ok:α→Prop} {shw:α→ByteArray} {z:α} {s:ByteArray} (h:(od ok shw z s).2=false):od ok shw z s=(z,false):=by
 unfold od at h ⊢
 split
 · rename_i q;rw [dif_pos q] at h;cases h
 · rfl
theorem jD (ok:α→Prop) (shw:α→ByteArray) (z:α) (s:ByteArray):(∃ r,ok r∧shw r=s∧od ok shw z s=(r,true))∨od ok shw z s=(z,false):=by
 cases h:(od ok shw z s).2 with
 | false=>exact .inr (EY h)
 | true =>
  have e:od ok shw z s=((od ok shw z s).1,true):=by rw [← h]
  exact .inl ⟨_,(Az e).1,(Az e).2,e⟩
theorem mL {ok:α→Prop} {shw:α→ByteArray} {z:α} {s:ByteArray} {f:Option (α × Bool × Unit)} (h1:∀ r,ok r→shw r=s→f=some (r,(true,())))
 (h2:(∃ r,ok r∧shw r=s∧f=some (r,(true,())))∨f=some (z,(false,()))):f=some ((od ok shw z s).1,((od ok shw z s).2,())):=by
 rcases jD ok shw z s with ⟨r,a,b,e⟩ | e
 · rw [e,h1 r a b]
 · rcases h2 with ⟨r,a,b,_⟩ | h2
   · unfold od at e
     rw [dif_pos ⟨r,a,b⟩] at e
     cases (Prod.mk.inj e).2
   · rw [e,h2]
theorem Hg {ok:α→Prop} {shw:α→ByteArray} {z:α} {r:α} (hi:∀ a b,ok a→ok b→shw a=shw b→a=b) (h:ok r):od ok shw z (shw r)=(r,true):=by
 rcases jD ok shw z (shw r) with ⟨q,a,b,e⟩ | e
 · rw [e,hi q r a h b]
 · unfold od at e
   rw [dif_pos ⟨r,h,rfl⟩] at e
   cases (Prod.mk.inj e).2
end
abbrev sW:Ty.den bU:=(0,(0,(ByteArray.empty,(ByteArray.empty,(0,(0,()))))))
theorem zO {a:Ty.den bU} (h:ik a=true) :
 (∃ (b:Nat) (kd:Nat),(kd=1∨kd=4)∧b≤1000000∧a=((kd:Int),((b:Int),(a.2.2.1,(a.2.2.2.1,(0,(0,()))))))∧a.2.2.1.size≤8∧a.2.2.2.1.size≤24 ∧
  aU a=bE kd++(bE b++(bE a.2.2.1.size++(a.2.2.1++(bE a.2.2.2.1.size++(a.2.2.2.1++⟨#[]⟩)))))) ∨
 (∃ (b:Nat),b≤1000000∧a=(2,((b:Int),(a.2.2.1,(ByteArray.empty,(0,(0,()))))))∧a.2.2.1.size≤8∧aU a=bE 2++(bE b++(bE a.2.2.1.size++(a.2.2.1++⟨#[]⟩)))) ∨
 (∃ (b kd c x:Nat),(kd=3∨kd=5)∧b≤1000000∧c≤20∧x<4294967296∧a=((kd:Int),((b:Int),(ByteArray.empty,(ByteArray.empty,((c:Int),((x:Int),()))))))∧aU a=bE kd++(bE b++(bE c++(fB x++⟨#[]⟩)))):=by
 have hh:=h
 obtain ⟨kd,b,key,val,c,x,u⟩:=a
 change Int at kd b c x
 change ByteArray at key val
 rcases vt h with ⟨hc,h⟩ | ⟨hc,h⟩ | ⟨hc,h⟩
 · obtain ⟨z1,z2,z3,z4,z5,z6,z7⟩:=h
   subst z4;subst z5
   obtain ⟨b,rfl⟩:=Int.eq_ofNat_of_zero_le (show 0≤b by omega)
   left
   refine ⟨b,kd.toNat,by omega,by omega,?_,z2,z3,?_⟩
   · rw [show ((kd.toNat:Nat):Int)=kd by omega]
   · unfold aU
     rw [if_pos hh,if_pos hc]
     simp only [jW]
     rw [dL (by omega),dL (by omega),dL (by omega),gL,ap,show iA kd=bE kd.toNat by rw [← dL (show kd.toNat<562949953421312 by omega)];congr 1;omega]
 · obtain ⟨z1,z2,z3,z4,z5,z6,z7⟩:=h
   subst z3;subst z4;subst z5;subst hc
   obtain ⟨b,rfl⟩:=Int.eq_ofNat_of_zero_le (show 0≤b by omega)
   right;left
   refine ⟨b,by omega,rfl,z2,?_⟩
   unfold aU
   rw [if_pos hh,if_neg (show ¬ ((2:Int)=1∨(2:Int)=4) by decide),if_pos rfl]
   simp only [jW]
   rw [dL (by omega),dL (by omega),gL]
   rfl
 · obtain ⟨z1,z2,z3,z4,z5,z6,z7,z8⟩:=h
   subst z1;subst z2
   obtain ⟨b,rfl⟩:=Int.eq_ofNat_of_zero_le (show 0≤b by omega)
   obtain ⟨c,rfl⟩:=Int.eq_ofNat_of_zero_le (show 0≤c by omega)
   obtain ⟨x,rfl⟩:=Int.eq_ofNat_of_zero_le (show 0≤x by omega)
   right;right
   refine ⟨b,kd.toNat,c,x,by omega,by omega,by omega,by omega,?_,?_⟩
   · rw [show ((kd.toNat:Nat):Int)=kd by omega];rfl
   · unfold aU
     rw [if_pos hh,if_neg (show ¬ (kd=1∨kd=4) by omega),if_neg (show ¬ kd=2 by omega)]
     simp only []
     rw [dL (by omega),dL (by omega),gL,show iA kd=bE kd.toNat by rw [← dL (show kd.toNat<562949953421312 by omega)];congr 1;omega]
     rfl
theorem DY {a:Ty.den bU} {s:ByteArray} (h:aU a=s) (hs:s≠⟨#[]⟩):ik a=true:=by
 cases c:ik a with
 | true=>rfl
 | false=>unfold aU at h;rw [c] at h;exact absurd h.symm hs
theorem Ij {kd:Nat} (h:kd≠1):((kd:Int)==1)=false:=nZ (by omega)
theorem IY {kd:Nat} (h:kd≠2):((kd:Int)==2)=false:=nZ (by omega)
theorem Ic {kd:Nat} (h:kd≠4):((kd:Int)==4)=false:=nZ (by omega)
theorem Ix:(((1:Nat):Int)==1)=true:=rfl
theorem Jl:(((4:Nat):Int)==1)=false:=rfl
theorem JB:(((4:Nat):Int)==4)=true:=rfl
theorem JV:(((2:Nat):Int)==1)=false:=rfl
theorem Jg:(((2:Nat):Int)==2)=true:=rfl
theorem JA:(((2:Nat):Int)==4)=false:=rfl
theorem Km:((0:Int)==1)=false:=rfl
theorem Kk:((0:Int)==4)=false:=rfl
theorem Kn:((0:Int)==2)=false:=rfl
theorem e0:(⟨#[]⟩:ByteArray).size=0:=rfl
theorem GG {kd b:Nat} {key val:ByteArray} (hb:b<562949953421312) (hc:kd=1∨kd=4) (h:ik ((kd:Int),((b:Int),(key,(val,(0,(0,()))))))=true) :
 aU ((kd:Int),((b:Int),(key,(val,(0,(0,()))))))=bE kd++(bE b++(bE key.size++(key++(bE val.size++(val++⟨#[]⟩))))):=by
 rcases vt h with ⟨_,h1⟩ | ⟨h0,_⟩ | ⟨h0,_⟩
 · unfold aU
   rw [if_pos h,if_pos (show ((kd:Int)=1∨(kd:Int)=4) by omega)]
   simp only [jW]
   rw [dL (by omega),dL hb,dL (by omega),dL (by omega),gL,ap]
 · omega
 · omega
theorem G0 {b:Nat} {key:ByteArray} (hb:b<562949953421312) (h:ik (((2:Nat):Int),((b:Int),(key,(ByteArray.empty,(0,(0,()))))))=true) :
 aU (((2:Nat):Int),((b:Int),(key,(ByteArray.empty,(0,(0,()))))))=bE 2++(bE b++(bE key.size++(key++⟨#[]⟩))):=by
 rcases vt h with ⟨h0,_⟩ | ⟨_,h1⟩ | ⟨h0,_⟩
 · omega
 · unfold aU
   rw [if_pos h,if_neg (show ¬ (((2:Nat):Int)=1∨((2:Nat):Int)=4) by decide),if_pos (show ((2:Nat):Int)=2 from rfl)]
   simp only [jW]
   rw [dL (by omega),dL hb,dL (by omega),gL]
 · omega
theorem HK {kd b c x:Nat} (hb:b<562949953421312) (hx:c<562949953421312) (hc:kd≠1∧kd≠2∧kd≠4) (h:ik ((kd:Int),((b:Int),(ByteArray.empty,(ByteArray.empty,((c:Int),((x:Int),()))))))=true) :
 aU ((kd:Int),((b:Int),(ByteArray.empty,(ByteArray.empty,((c:Int),((x:Int),()))))))=bE kd++(bE b++(bE c++(fB x++⟨#[]⟩))):=by
 rcases vt h with ⟨h0,_⟩ | ⟨h0,_⟩ | ⟨_,h1⟩
 · omega
 · omega
 · unfold aU
   rw [if_pos h,if_neg (show ¬ ((kd:Int)=1∨(kd:Int)=4) by omega),if_neg (show ¬ (kd:Int)=2 by omega)]
   simp only []
   have hk5:kd≤5:=by omega
   rw [dL (by omega),dL hb,dL hx,gL]
   rfl
theorem ym {k:Nat} (hk:2 ^ 50≤k) {a:Ty.den bU} (h:ik a=true):dP.f k (aU a)=some (a,(true,())):=by
 unfold dP.f dP.t
 rcases zO h with ⟨b,kd,hc,hb,ha,z1,z2,e⟩ | ⟨b,hb,ha,z1,e⟩ | ⟨b,kd,c,x,hc,hb,z1,z2,ha,e⟩
 · rw [e]
   rw [ha] at h
   conv=>rhs;rw [ha]
   have v1:=af kd
   have v2:=af b
   have v3:=af a.2.2.1.size
   have v4:=af a.2.2.2.1.size
   rcases hc with rfl | rfl
   · simp (disch:=first | omega | (simp only [aM,e0];omega)) only [fH hk,n7 hk,aO,aZ,aN,Ix,cm,fV,iM,h]
   · simp (disch:=first | omega | (simp only [aM,e0];omega)) only [fH hk,n7 hk,aO,aZ,aN,Jl,JB,cm,fV,iM,h]
 · rw [e]
   rw [ha] at h
   conv=>rhs;rw [ha]
   have v1:=af 2
   have v2:=af b
   have v3:=af a.2.2.1.size
   simp (disch:=first | omega | (simp only [aM,e0];omega)) only [fH hk,n7 hk,aO,aZ,aN,JV,Jg,JA,cm,fV,iM]
   rw [show ((2:Nat):Int)=2 from rfl,h]
   rfl
 · rw [e,ha]
   rw [ha] at h
   have v1:=af kd
   have v2:=af b
   have v3:=af c
   have v4:=m4 x
   have hby:=rS k (fB x) ⟨#[]⟩
   rw [m4] at hby
   have hrf:=p_ hk z2 ⟨#[]⟩
   rw [gL] at hrf
   rw [show (((4:Nat)):Int)=4 from rfl] at hby
   simp (disch:=first | omega | (simp only [aM,e0];omega)) only [fH hk,hby,hrf,aO,aZ,aN,Ij,IY,Ic,cm,fV,iM,h]
theorem vQ {k:Nat} (hk:2 ^ 50≤k) {s:ByteArray} (hs:s.size≤1099511627776) :
 (∃ r,ik r=true∧aU r=s∧dP.f k s=some (r,(true,())))∨dP.f k s=some (sW,(false,())):=by
 have rf0:=uC k (s:=⟨#[]⟩) (by decide)
 unfold dP.f dP.t
 rcases jx s with ⟨kd,t,hkd,rfl⟩ | h0
 case inr =>
  right
  simp (disch:=first | omega | (simp only [aM,e0];omega)) only [lq hk h0,vP hk,ri k,rf0,aO,aZ,aN,Km,Kn,Kk]
 have v1:=af kd
 rw [aM] at hs
 rcases jx t with ⟨b,t2,hb,rfl⟩ | h1
 case inr =>
  right
  by_cases c1:kd=1
  · subst c1
    simp (disch:=first | omega | (simp only [aM,e0];omega)) only [fH hk,lq hk h1,yD hk,aO,aZ,aN,Ix]
  by_cases c4:kd=4
  · subst c4
    simp (disch:=first | omega | (simp only [aM,e0];omega)) only [fH hk,lq hk h1,yD hk,aO,aZ,aN,Jl,JB]
  by_cases c2:kd=2
  · subst c2
    simp (disch:=first | omega | (simp only [aM,e0];omega)) only [fH hk,lq hk h1,yD hk,aO,aZ,aN,JV,JA,Jg]
  · simp (disch:=first | omega | (simp only [aM,e0];omega)) only [fH hk,lq hk h1,vP hk,ri k,rf0,aO,aZ,aN,Ij c1,IY c2,Ic c4]
 have v2:=af b
 rw [aM] at hs
 by_cases c2:kd=2
 · subst c2
   rcases nQ t2 with ⟨key,t3,hu,rfl⟩ | bad
   case inr =>
    right
    obtain ⟨s',hs',e⟩:=ww hk (by omega) bad
    simp (disch:=first | omega | (simp only [aM,e0];omega)) only [fH hk,e,aO,aZ,aN,JV,JA,Jg]
   have v3:=af key.size
   simp only [aM] at hs
   simp (disch:=first | omega | (simp only [aM,e0];omega)) only [fH hk,n7 hk,aO,aZ,aN,JV,JA,Jg]
   by_cases c:t3=⟨#[]⟩
   · subst c
     simp only [cm,fV,aN,iM,aO]
     cases hr:ik (((2:Nat):Int),((b:Int),(key,(ByteArray.empty,(0,(0,())))))) with
     | true=>exact .inl ⟨_,hr,G0 hb hr,rfl⟩
     | false=>exact .inr rfl
   · rw [lb c]
     exact .inr rfl
 by_cases c1:kd=1∨kd=4
 · have hcc:(bif ((kd:Int)==1) then true else ((kd:Int)==4))=true:=by rcases c1 with rfl | rfl <;> rfl
   rcases nQ t2 with ⟨key,t3,hu,rfl⟩ | bad
   case inr =>
    right
    obtain ⟨s',hs',e⟩:=ww hk (by omega) bad
    rcases c1 with rfl | rfl
    · simp (disch:=first | omega | (simp only [aM,e0];omega)) only [fH hk,e,yD hk hs',aO,aZ,aN,Ix]
    · simp (disch:=first | omega | (simp only [aM,e0];omega)) only [fH hk,e,yD hk hs',aO,aZ,aN,Jl,JB]
   have v3:=af key.size
   simp only [aM] at hs
   rcases nQ t3 with ⟨val,t4,hv,rfl⟩ | bad
   case inr =>
    right
    obtain ⟨s',hs',e⟩:=ww hk (by omega) bad
    rcases c1 with rfl | rfl
    · simp (disch:=first | omega | (simp only [aM,e0];omega)) only [fH hk,n7 hk,e,aO,aZ,aN,Ix]
    · simp (disch:=first | omega | (simp only [aM,e0];omega)) only [fH hk,n7 hk,e,aO,aZ,aN,Jl,JB]
   have v4:=af val.size
   simp only [aM] at hs
   have fin:(bif !seq t4 ⟨#[]⟩ then some (sW,(false,())) else bif !ik ((kd:Int),((b:Int),(key,(val,(0,(0,())))))) then some (sW,(false,())) else some (((kd:Int),((b:Int),(key,(val,(0,(0,())))))),(true,())))=dP.t k (bE kd++(bE b++(bE key.size++(key++(bE val.size++(val++t4)))))):=by
    unfold dP.t
    rcases c1 with rfl | rfl
    · simp (disch:=first | omega | (simp only [aM,e0];omega)) only [fH hk,n7 hk,aO,aZ,aN,Ix,iM]
    · simp (disch:=first | omega | (simp only [aM,e0];omega)) only [fH hk,n7 hk,aO,aZ,aN,Jl,JB,iM]
   change (∃ r,ik r=true∧aU r=_∧dP.t k _=some (r,(true,())))∨dP.t k _=some (sW,(false,()))
   rw [← fin]
   by_cases c:t4=⟨#[]⟩
   · subst c
     simp only [cm,fV,aN]
     cases hr:ik ((kd:Int),((b:Int),(key,(val,(0,(0,())))))) with
     | true=>exact .inl ⟨_,hr,GG hb c1 hr,rfl⟩
     | false=>exact .inr rfl
   · rw [lb c]
     exact .inr rfl
 have d1:kd≠1:=fun q=>c1 (.inl q)
 have d4:kd≠4:=fun q=>c1 (.inr q)
 rcases jx t2 with ⟨c,t3,hc,rfl⟩ | h2
 case inr =>
  right
  simp (disch:=first | omega | (simp only [aM,e0];omega)) only [fH hk,lq hk h2,ri k,rf0,aO,aZ,aN,Ij d1,IY c2,Ic d4]
 have v3:=af c
 rw [aM] at hs
 rcases yL t3 with ⟨x,t4,hx,rfl⟩ | h3
 case inr =>
  right
  have e:=rt k (s:=t3) (n:=4) (by omega)
  simp (disch:=first | omega | (simp only [aM,e0];omega)) only [fH hk,e,rf0,aO,aZ,aN,Ij d1,IY c2,Ic d4]
 rw [mb] at hs
 have hby:=rS k (fB x) t4
 rw [m4,show (((4:Nat)):Int)=4 from rfl] at hby
 have hrf:=p_ hk hx ⟨#[]⟩
 rw [gL] at hrf
 simp (disch:=first | omega | (simp only [aM,e0,m4];omega)) only [fH hk,hby,hrf,aO,aN,Ij d1,IY c2,Ic d4,iM]
 by_cases cc:t4=⟨#[]⟩
 · subst cc
   simp only [cm,fV,aN]
   cases hr:ik ((kd:Int),((b:Int),(ByteArray.empty,(ByteArray.empty,((c:Int),((x:Int),())))))) with
   | true=>exact .inl ⟨_,hr,HK hb hc ⟨d1,c2,d4⟩ hr,rfl⟩
   | false=>exact .inr rfl
 · rw [lb cc]
   exact .inr rfl
end Go.Proofs.YtohaanhjddohmaaGreatDoor.G
namespace Go.Proofs.YtohaanhjddohmaaGreatDoor.G
open Go.V
theorem k6 (a b:Nat):Int.toNat ((a:Int)+(b:Int))=a+b:=by omega
theorem vz (a:Nat):(((bE a).size:Int)==0)=false:=nZ (by have:=af a;omega)
theorem og (a:Nat) (t:ByteArray):bE a++t≠⟨#[]⟩:=fun h=>by
 have:=congrArg ByteArray.size h
 rw [aM,e0] at this
 have:=af a
 omega
theorem pB {r:Ty.den bU} {s:ByteArray} (hs:s≠⟨#[]⟩) :
 (∃ r',ik r'=true∧aU r'=s∧(bif !seq (aU r) s then some (sW,(false,())) else bif seq s ⟨#[]⟩ then some (sW,(false,())) else some (r,(true,())))=some (r',(true,()))) ∨
 (bif !seq (aU r) s then some (sW,(false,())) else bif seq s ⟨#[]⟩ then some (sW,(false,())) else some (r,(true,())))=some (sW,(false,())):=by
 by_cases c:aU r=s
 · exact .inl ⟨r,DY c hs,c,by rw [IC c,lb hs];rfl⟩
 · rw [lb c];exact .inr rfl
theorem yR {k:Nat} (hk:2 ^ 50≤k) {a:Ty.den bU} (h:ik a=true):eN.f k (aU a)=some (a,(true,())):=by
 unfold eN.f eN.t
 rcases zO h with ⟨b,kd,hc,hb,ha,z1,z2,e⟩ | ⟨b,hb,ha,z1,e⟩ | ⟨b,kd,c,x,hc,hb,z1,z2,ha,e⟩
 · have hs:aU ((kd:Int),((b:Int),(a.2.2.1,(a.2.2.2.1,(0,(0,()))))))=bE kd++(bE b++(bE a.2.2.1.size++(a.2.2.1++(bE a.2.2.2.1.size++(a.2.2.2.1++⟨#[]⟩))))):=by rw [← ha];exact e
   rw [e]
   conv=>rhs;rw [ha]
   have v1:=af kd
   have v2:=af b
   have v3:=af a.2.2.1.size
   have v4:=af a.2.2.2.1.size
   rcases hc with rfl | rfl
   · simp (disch:=first | omega | (simp only [aM,e0];omega)) only [co hk,vB hk,aO,nK,fW,vz,aZ,aN,aD,br,k6,rK,Ix,cK hk,hs,cm,fV,lb (og _ _)]
   · simp (disch:=first | omega | (simp only [aM,e0];omega)) only [co hk,vB hk,aO,nK,fW,vz,aZ,aN,aD,br,k6,rK,Jl,JB,cK hk,hs,cm,fV,lb (og _ _)]
 · have hs:aU (((2:Nat):Int),((b:Int),(a.2.2.1,(ByteArray.empty,(0,(0,()))))))=bE 2++(bE b++(bE a.2.2.1.size++(a.2.2.1++⟨#[]⟩))):=by rw [show ((2:Nat):Int)=2 from rfl,← ha];exact e
   rw [e]
   conv=>rhs;rw [ha]
   have v1:=af 2
   have v2:=af b
   have v3:=af a.2.2.1.size
   simp (disch:=first | omega | (simp only [aM,e0];omega)) only [co hk,vB hk,aO,nK,fW,vz,aZ,aN,aD,br,k6,rK,JV,JA,Jg,cK hk,hs,cm,fV,lb (og _ _)]
   rfl
 · have hs:aU ((kd:Int),((b:Int),(ByteArray.empty,(ByteArray.empty,((c:Int),((x:Int),()))))))=bE kd++(bE b++(bE c++(fB x++⟨#[]⟩))):=by rw [← ha];exact e
   rw [e,ha]
   have v1:=af kd
   have v2:=af b
   have v3:=af c
   have v4:=m4 x
   simp (disch:=first | omega | (simp only [aM,e0];omega)) only [co hk,pK hk z2,aO,nK,fW,vz,aZ,aN,aD,br,k6,rK,Ij,IY,Ic,cK hk,hs,cm,fV,lb (og _ _)]
theorem vb {k:Nat} (hk:2 ^ 50≤k) {s:ByteArray} (hs:s.size≤1099511627776) :
 (∃ r,ik r=true∧aU r=s∧eN.f k s=some (r,(true,())))∨eN.f k s=some (sW,(false,())):=by
 unfold eN.f eN.t
 rcases jx s with ⟨kd,t,hkd,rfl⟩ | h0
 case inr =>
  right
  rw [ju hk h0,aO]
  simp only []
  rw [br (by omega) (by omega),fm hk,aO]
  rfl
 have v1:=af kd
 rw [aM] at hs
 rcases jx t with ⟨b,t2,hb,rfl⟩ | h1
 case inr =>
  right
  simp (disch:=first | omega | (simp only [aM,e0];omega)) only [co hk,ju hk h1,aO,nK,fW,vz,aZ,aN,aD,br,show (((0:Int)==0))=true from rfl]
 have v2:=af b
 rw [aM] at hs
 by_cases c2:kd=2
 · subst c2
   rcases nQ t2 with ⟨key,t3,hu,rfl⟩ | bad
   · simp only [aM] at hs
     simp (disch:=first | omega | (simp only [aM,e0];omega)) only [co hk,vB hk,aO,nK,fW,vz,aZ,aN,aD,br,k6,rK,JV,JA,Jg,cK hk]
     exact pB (og _ _)
   · have hb5:=wT hk (by omega) bad
     simp (disch:=first | omega | (simp only [aM,e0];omega)) only [co hk,hb5,aO,nK,fW,vz,aZ,aN,aD,br,k6,rK,JV,JA,Jg,cK hk]
     exact pB (og _ _)
 by_cases c1:kd=1∨kd=4
 · have em:cV.f k ⟨#[]⟩=some (⟨#[]⟩,(⟨#[]⟩,(false,()))):=wT hk (by decide) (.inl rfl)
   obtain ⟨u,l,bb,hl,e⟩:∃ u l bb,l.size≤1099511627776∧cV.f k t2=some (u,(l,(bb,()))):=by
    rcases nQ t2 with ⟨key,t3,hu,rfl⟩ | bad
    · simp only [aM] at hs
      exact ⟨_,_,_,by omega,vB hk hu (by simp only [aM];omega)⟩
    · exact ⟨_,_,_,by decide,wT hk (by omega) bad⟩
   obtain ⟨u2,l2,bb2,e2⟩:∃ u l' bb,cV.f k l=some (u,(l',(bb,()))):=by
    rcases nQ l with ⟨key,t3,hu,rfl⟩ | bad
    · exact ⟨_,_,_,vB hk hu (by simp only [aM] at hl ⊢;omega)⟩
    · exact ⟨_,_,_,wT hk hl bad⟩
   rcases c1 with rfl | rfl
   · simp (disch:=first | omega | (simp only [aM,e0];omega)) only [co hk,e,e2,aO,nK,fW,vz,aZ,aN,aD,br,k6,rK,Ix,cK hk]
     exact pB (og _ _)
   · simp (disch:=first | omega | (simp only [aM,e0];omega)) only [co hk,e,e2,aO,nK,fW,vz,aZ,aN,aD,br,k6,rK,Jl,JB,cK hk]
     exact pB (og _ _)
 have d1:kd≠1:=fun q=>c1 (.inl q)
 have d4:kd≠4:=fun q=>c1 (.inr q)
 have rf:∀ u:ByteArray,∃ z zb,bh.f k u 4=some (z,(zb,())):=fun u=>by
  rcases yL u with ⟨x,t,hx,rfl⟩ | q
  · exact ⟨_,_,pK hk hx t⟩
  · exact ⟨_,_,uD k q⟩
 rcases jx t2 with ⟨c,t3,hc,rfl⟩ | h2
 · have v3:=af c
   rw [aM] at hs
   obtain ⟨z,zb,e⟩:=rf t3
   simp (disch:=first | omega | (simp only [aM,e0];omega)) only [co hk,e,aO,nK,fW,vz,aZ,aN,aD,br,k6,rK,Ij d1,IY c2,Ic d4,cK hk]
   exact pB (og _ _)
 · obtain ⟨z,zb,e⟩:=rf (ByteArray.extract t2 (Int.toNat 0) t2.size)
   simp (disch:=first | omega | (simp only [aM,e0];omega)) only [co hk,ju hk h2,e,aO,nK,fW,vz,aZ,aN,aD,br,k6,rK,Ij d1,IY c2,Ic d4,cK hk]
   exact pB (og _ _)
noncomputable def jV (s:ByteArray):Ty.den bU × Bool:=od (fun r=>ik r=true) aU sW s
theorem y0 {k:Nat} (hk:2 ^ 50≤k) {s:ByteArray} (hs:s.size≤1099511627776):dP.f k s=some ((jV s).1,((jV s).2,())) :=
 mL (fun r h1 h2=>by rw [← h2];exact ym hk h1) (vQ hk hs)
theorem qZ {k:Nat} (hk:2 ^ 50≤k) {s:ByteArray} (hs:s.size≤1099511627776):eN.f k s=some ((jV s).1,((jV s).2,())) :=
 mL (fun r h1 h2=>by rw [← h2];exact yR hk h1) (vb hk hs)
theorem po {t:ByteArray} (h:t.size≤200):∃ x,x<4294967296∧ah t=fB x++(bE t.size++t):=by
 have:=tn (jW t)
 refine ⟨(oc (jW t)).toNat,by omega,?_⟩
 unfold ah qT
 rw [if_neg (by omega)]
 unfold jW
 rw [dL (by omega)]
theorem FP {t u s r:ByteArray} (ht:t.size≤200) (hu:u.size≤200) (h:ah t++s=ah u++r):t=u∧s=r:=by
 obtain ⟨x,hx,e⟩:=po ht
 obtain ⟨y,hy,f⟩:=po hu
 rw [e,f,ap,ap,ap,ap] at h
 have h2:=(rg h rfl).2
 obtain ⟨h3,h4⟩:=xe (by omega) (by omega) h2
 exact rg h4 h3
theorem zQ (x:Nat) (u:ByteArray):ByteArray.extract (fB x++u) 4 (fB x++u).size=u:=fW (fB x) u
theorem KH (x:Nat) (v t r:ByteArray):ByteArray.extract (fB x++(v++(t++r))) (4+v.size) (4+v.size+t.size)=t:=by
 have:=KK (fB x++v) t r
 rw [aM,m4,ap] at this
 exact this
theorem Ir (x:Nat) (v t r:ByteArray):ByteArray.extract (fB x++(v++(t++r))) 0 (4+v.size+t.size)=fB x++(v++t):=by
 have:=xc (fB x++(v++t)) r
 rw [aM,aM,m4,ap,ap,← Nat.add_assoc] at this
 exact this
theorem c4 (a:Nat):(4:Int)+(a:Int)=((4+a:Nat):Int):=rfl
theorem wc {k:Nat} (hk:2 ^ 50≤k) {x:Nat} {t r:ByteArray} (ht:t.size≤200) (hr:t.size+r.size≤1099511627776) :
 f9.f k (fB x++(bE t.size++(t++r)))=bif !seq (ah t) (fB x++(bE t.size++t)) then some (⟨#[]⟩,(0,())) else some (t,(((4+(bE t.size).size+t.size:Nat):Int),())):=by
 have v1:=af t.size
 have z1:(fB x++(bE t.size++(t++r))).size=4+((bE t.size).size+(t.size+r.size)):=by rw [mb,aM,aM]
 unfold f9.f f9.t
 rw [aQ (by omega),aN,br (by omega) (by omega),zQ,nt hk (by omega) (by rw [aM];omega),aO]
 simp only [vz,aN]
 rw [aQ (by omega),aN,aD (n:=((fB x++(bE t.size++(t++r))).size:Int)-4) (by omega) (by omega),aD (n:=((fB x++(bE t.size++(t++r))).size:Int)-4-_) (by omega) (by omega),aQ (by omega),aN,
  c4,aD (by omega) (by omega),tV,aD (by omega) (by omega),vr (by omega) (by omega) (by omega),nK,nK,KH,tJ hk,aO,br (by omega) (by omega),Ir]
theorem wN {k:Nat} (hk:2 ^ 50≤k) {x:Nat} {t r:ByteArray} (ht:t.size≤200) (hr:t.size+r.size≤1099511627776) :
 dh.f k (fB x++(bE t.size++(t++r)))=bif !seq (ah t) (fB x++(bE t.size++t)) then some (⟨#[]⟩,(0,())) else some (t,(((4+(bE t.size).size+t.size:Nat):Int),())):=by
 have v1:=af t.size
 have z1:(fB x++(bE t.size++(t++r))).size=4+((bE t.size).size+(t.size+r.size)):=by rw [mb,aM,aM]
 unfold dh.f dh.t
 rw [aQ (by omega),aN,br (by omega) (by omega),zQ,co hk (by omega),aO]
 simp only [vz,aN]
 rw [aQ (by omega),aN,aD (n:=((fB x++(bE t.size++(t++r))).size:Int)-4) (by omega) (by omega),aD (n:=((fB x++(bE t.size++(t++r))).size:Int)-4-_) (by omega) (by omega),aQ (by omega),aN,
  c4,aD (by omega) (by omega),tV,aD (by omega) (by omega),vr (by omega) (by omega) (by omega),nK,nK,KH,iz hk,br (by omega) (by omega),aO,Ir,
  show seq (fB x++(bE t.size++t)) (ah t)=seq (ah t) (fB x++(bE t.size++t)) by rw [EA,EA];exact decide_eq_decide.2 ⟨Eq.symm,Eq.symm⟩]
theorem HP (s:ByteArray) (hs:s.size≤1099511627776):(∃ x t r,x<4294967296∧t.size≤200∧t.size+r.size≤1099511627776∧s=fB x++(bE t.size++(t++r)))∨s.size<5∨(∃ x u,x<4294967296∧s=fB x++u∧1≤u.size∧rv 7 (nb u)=none) ∨
 (∃ x a u,x<4294967296∧a<562949953421312∧s=fB x++(bE a++u)∧(200<a∨u.size<a)):=by
 rcases yL s with ⟨x,u,hx,rfl⟩ | h
 · rw [mb] at hs
   rcases jx u with ⟨a,v,ha,rfl⟩ | h
   · rw [aM] at hs
     by_cases c:200<a∨v.size<a
     · exact .inr (.inr (.inr ⟨x,a,v,hx,ha,rfl,c⟩))
     · left
       have e:=tO v (n:=a) (by omega)
       have hz:(ByteArray.extract v 0 a).size=a:=by rw [← cX,kJ,List.length_take,cX];omega
       refine ⟨x,ByteArray.extract v 0 a,ByteArray.extract v a v.size,hx,by omega,?_,by rw [hz,← e]⟩
       have:=congrArg ByteArray.size e
       rw [aM] at this
       omega
   · by_cases c:1≤u.size
     · exact .inr (.inr (.inl ⟨x,u,hx,rfl,c,h⟩))
     · exact .inr (.inl (by rw [mb];omega))
 · exact .inr (.inl (by omega))
theorem vc {k:Nat} (hk:2 ^ 50≤k) {s:ByteArray} (hs:s.size≤1099511627776) (h:s.size<5∨(∃ x u,x<4294967296∧s=fB x++u∧1≤u.size∧rv 7 (nb u)=none) ∨
 (∃ x a u,x<4294967296∧a<562949953421312∧s=fB x++(bE a++u)∧(200<a∨u.size<a))):f9.f k s=some (⟨#[]⟩,(0,())):=by
 unfold f9.f f9.t
 rcases h with h | ⟨x,u,hx,rfl,hu,h⟩ | ⟨x,a,u,hx,ha,rfl,h⟩
 · by_cases c:s.size<4
   · rw [aP (by omega),aZ]
   · have e:ByteArray.extract s 4 s.size=⟨#[]⟩:=kx (by rw [iy,List.drop_eq_nil_of_le (by rw [cX];omega)];rfl)
     rw [aQ (by omega),aN,br (by omega) (by omega),e,ml hk rfl (by decide),aO]
     rfl
 · rw [mb] at hs
   rw [aQ (by rw [mb];omega),aN,br (by omega) (by rw [mb];omega),zQ,ml hk h (by omega),aO]
   rfl
 · have v1:=af a
   have z1:(fB x++(bE a++u)).size=4+((bE a).size+u.size):=by rw [mb,aM]
   rw [aQ (by omega),aN,br (by omega) (by omega),zQ,nt hk ha (by omega),aO]
   simp only [vz,aN]
   by_cases c:200<a
   · rw [aP (by omega),aZ]
   · rw [aQ (by omega),aN,aD (n:=((fB x++(bE a++u)).size:Int)-4) (by omega) (by omega),aD (n:=((fB x++(bE a++u)).size:Int)-4-_) (by omega) (by omega),aP (by omega),aZ]
theorem vg {k:Nat} (hk:2 ^ 50≤k) {s:ByteArray} (hs:s.size≤1099511627776) (h:s.size<5∨(∃ x u,x<4294967296∧s=fB x++u∧1≤u.size∧rv 7 (nb u)=none) ∨
 (∃ x a u,x<4294967296∧a<562949953421312∧s=fB x++(bE a++u)∧(200<a∨u.size<a))):dh.f k s=some (⟨#[]⟩,(0,())):=by
 unfold dh.f dh.t
 rcases h with h | ⟨x,u,hx,rfl,hu,h⟩ | ⟨x,a,u,hx,ha,rfl,h⟩
 · rw [aP (by omega),aZ]
 · rw [mb] at hs
   rw [aQ (by rw [mb];omega),aN,br (by omega) (by rw [mb];omega),zQ,ju hk h,aO]
   rfl
 · have v1:=af a
   have z1:(fB x++(bE a++u)).size=4+((bE a).size+u.size):=by rw [mb,aM]
   rw [aQ (by omega),aN,br (by omega) (by omega),zQ,co hk ha,aO]
   simp only [vz,aN]
   by_cases c:200<a
   · rw [aP (by omega),aZ]
   · rw [aQ (by omega),aN,aD (n:=((fB x++(bE a++u)).size:Int)-4) (by omega) (by omega),aD (n:=((fB x++(bE a++u)).size:Int)-4-_) (by omega) (by omega),aP (by omega),aZ]
section
open Classical
noncomputable def iP (s:ByteArray):ByteArray × Int:=if h:∃ t r,t.size≤200∧s=ah t++r then (h.choose,((ah h.choose).size:Int)) else (⟨#[]⟩,0)
theorem pA {t:ByteArray} (r:ByteArray) (h:t.size≤200):iP (ah t++r)=(t,((ah t).size:Int)):=by
 have q:∃ u v,u.size≤200∧ah t++r=ah u++v:=⟨t,r,h,rfl⟩
 unfold iP
 rw [dif_pos q]
 obtain ⟨v,h1,h2⟩:=q.choose_spec
 have:=(FP h h1 h2).1
 rw [← this]
theorem nG (s:ByteArray):(∃ t r,t.size≤200∧s=ah t++r∧iP s=(t,((ah t).size:Int)))∨(iP s=(⟨#[]⟩,0)∧∀ t r,t.size≤200→s≠ah t++r):=by
 by_cases q:∃ t r,t.size≤200∧s=ah t++r
 · obtain ⟨t,r,h,rfl⟩:=q
   exact .inl ⟨t,r,h,rfl,pA r h⟩
 · right
   refine ⟨?_,fun t r h e=>q ⟨t,r,h,e⟩⟩
   unfold iP
   rw [dif_neg q]
end
theorem Ig {k:Nat} {f:ByteArray→Option (ByteArray × Int × Unit)} (h1:∀ x t r,x<4294967296→t.size≤200→t.size+r.size≤1099511627776→f (fB x++(bE t.size++(t++r)))=bif !seq (ah t) (fB x++(bE t.size++t)) then some (⟨#[]⟩,(0,())) else some (t,(((4+(bE t.size).size+t.size:Nat):Int),())))
 (h2:∀ s,s.size≤1099511627776→(s.size<5∨(∃ x u,x<4294967296∧s=fB x++u∧1≤u.size∧rv 7 (nb u)=none)∨(∃ x a u,x<4294967296∧a<562949953421312∧s=fB x++(bE a++u)∧(200<a∨u.size<a)))→f s=some (⟨#[]⟩,(0,())))
 {s:ByteArray} (hs:s.size≤1099511627776):f s=some ((iP s).1,((iP s).2,())):=by
 rcases HP s hs with ⟨x,t,r,hx,ht,hr,rfl⟩ | h
 · rw [h1 x t r hx ht hr]
   by_cases c:ah t=fB x++(bE t.size++t)
   · have e:fB x++(bE t.size++(t++r))=ah t++r:=by rw [c,ap,ap]
     rw [IC c,e,pA r ht,c,mb,aM,Nat.add_assoc]
     rfl
   · rw [lb c]
     rcases nG (fB x++(bE t.size++(t++r))) with ⟨t',r',ht',e,_⟩ | ⟨e,_⟩
     · exfalso
       obtain ⟨y,hy,f'⟩:=po ht'
       rw [f',ap,ap] at e
       have h3:=rg e rfl
       obtain ⟨h4,h5⟩:=xe (by omega) (by omega) h3.2
       have h6:=rg h5 h4
       apply c
       rw [h6.1,f',h3.1]
     · rw [e];rfl
 · rw [h2 s hs h]
   rcases nG s with ⟨t',r',ht',e,_⟩ | ⟨e,_⟩
   · exfalso
     obtain ⟨y,hy,f'⟩:=po ht'
     have hp:=o8 ht'
     rw [f',ap,ap] at e
     rcases h with h | ⟨x,u,hx,e2,hu,h⟩ | ⟨x,a,u,hx,ha,e2,h⟩
     · rw [e,mb,aM] at h
       have:=af t'.size
       omega
     · rw [e2] at e
       rw [(rg e rfl).2,rR (by omega)] at h
       cases h
     · rw [e2] at e
       obtain ⟨h4,h5⟩:=xe ha (by omega) (rg e rfl).2
       rw [h5,h4,aM] at h
       omega
   · rw [e]
theorem nh {k:Nat} (hk:2 ^ 50≤k) {s:ByteArray} (hs:s.size≤1099511627776):f9.f k s=some ((iP s).1,((iP s).2,())) :=
 Ig (k:=k) (fun x t r _ ht hr=>wc hk ht hr) (fun s hs h=>vc hk hs h) hs
theorem lZ {k:Nat} (hk:2 ^ 50≤k) {s:ByteArray} (hs:s.size≤1099511627776):dh.f k s=some ((iP s).1,((iP s).2,())) :=
 Ig (k:=k) (fun x t r _ ht hr=>wN hk ht hr) (fun s hs h=>vg hk hs h) hs
theorem nH (s:ByteArray):(iP s).1.size≤200∧((iP s).2=0∨5≤(iP s).2)∧(iP s).2≤s.size∧(iP s).2≤211:=by
 rcases nG s with ⟨t,r,h,rfl,e⟩ | ⟨e,_⟩
 · rw [e,aM]
   have:=o8 h
   have:=i7 t
   refine ⟨h,?_,?_,?_⟩ <;> simp only [] <;> omega
 · rw [e]
   refine ⟨by simp only [e0];omega,.inl rfl,by simp only [];omega,by simp only [];omega⟩
theorem Eh:iP ⟨#[]⟩=(⟨#[]⟩,0):=by
 rcases nG ⟨#[]⟩ with ⟨t,r,h,e,_⟩ | ⟨e,_⟩
 · have:=congrArg ByteArray.size e
   rw [aM,e0] at this
   have:=o8 h
   omega
 · exact e
noncomputable def ij (s:ByteArray):Nat→Int→List (Ty.den bM) × Int
 | 0,at_=>([],at_)
 | d+1,at_ =>
  if (iP (ByteArray.extract s at_.toNat s.size)).2=0 then ([],at_)
  else if (jV (iP (ByteArray.extract s at_.toNat s.size)).1).2=false then ([],at_)
  else (((at_,((iP (ByteArray.extract s at_.toNat s.size)).2,((jV (iP (ByteArray.extract s at_.toNat s.size)).1).1,()))):Ty.den bM)::(ij s d (at_+(iP (ByteArray.extract s at_.toNat s.size)).2)).1,
   (ij s d (at_+(iP (ByteArray.extract s at_.toNat s.size)).2)).2)
noncomputable def ay (s:ByteArray):List (Ty.den bM) × Int:=ij s (s.size+1) 0
theorem p9 (s:ByteArray) (n:Nat):(ByteArray.extract s n s.size).size=s.size-n:=by rw [← cX,iy,List.length_drop,cX]
theorem IZ {k:Nat} (hk:2 ^ 50≤k) {s:ByteArray} (hs:s.size≤1099511627776):∀ (d n:Nat) (i:Int) (out:List (Ty.den bM)),0≤i→i≤s.size→(s.size:Int)-i<d→d≤n→(out.length:Int)≤i →
 cw.l0 k n s i out=some (out++(ij s d i).1,((ij s d i).2,()))∧bW.l0 k n s i out=some (out++(ij s d i).1,((ij s d i).2,())):=by
 intro d
 induction d with
 | zero=>intro n i out h0 h1 h2;omega
 | succ d ih =>
  intro n i out h0 h1 h2 h3 h4
  obtain ⟨n,rfl⟩:∃ q,n=q+1:=⟨n-1,by omega⟩
  have hz:=p9 s i.toNat
  have hu:=nH (ByteArray.extract s i.toNat s.size)
  have e1:=nh hk (s:=ByteArray.extract s i.toNat s.size) (by omega)
  have e2:=lZ hk (s:=ByteArray.extract s i.toNat s.size) (by omega)
  have hnil:i=s.size→(iP (ByteArray.extract s i.toNat s.size)).2=0:=fun q=>by
   have:ByteArray.extract s i.toNat s.size=⟨#[]⟩:=kx (by rw [iy,List.drop_eq_nil_of_le (by rw [cX];omega)];rfl)
   rw [this,Eh]
  simp only [ij]
  generalize iP (ByteArray.extract s i.toNat s.size)=u at *
  have e3:=y0 hk (s:=u.1) (by omega)
  have e4:=qZ hk (s:=u.1) (by omega)
  generalize jV u.1=r at *
  by_cases c:u.2=0
  · rw [if_pos c]
    have cb:(u.2==0)=true:=by rw [c];rfl
    simp only [List.append_nil]
    constructor
    · simp (disch:=omega) only [cw.l0,cw.b0,br,e1,e3,aO,cb,aZ]
    · by_cases q:i<s.size
      · simp (disch:=omega) only [bW.l0,bW.b0,aP,br,e2,e4,aO,cb,aZ]
      · simp (disch:=omega) only [bW.l0,bW.b0,aQ,aN]
  · rw [if_neg c]
    have cb:(u.2==0)=false:=nZ c
    have hlt:i<s.size:=by
     rcases Int.lt_or_eq_of_le h1 with q | q
     · exact q
     · exact absurd (hnil q) c
    cases hr:r.2 with
    | false =>
     simp only [if_true,List.append_nil]
     constructor
     · simp (disch:=omega) only [cw.l0,cw.b0,br,e1,e3,aO,cb,aZ,aN,hr,ot]
     · simp (disch:=omega) only [bW.l0,bW.b0,aP,br,e2,e4,aO,cb,aZ,aN,hr,ot]
    | true =>
     rw [if_neg (by decide)]
     have hlen:out.length+1≤1099511627777:=by omega
     have ih:=ih n (i+u.2) (out++[(i,(u.2,(r.1,())))]) (by omega) (by omega) (by omega) (by omega) (by rw [vW];show ((out.length+1:Nat):Int)≤_;omega)
     simp only [rX,List.cons_append,List.nil_append] at ih
     constructor
     · simp (disch:=first | omega | decide) only [cw.l0,cw.b0,br,e1,e3,aO,cb,aZ,aN,hr,fV,bK,aD]
       exact ih.1
     · simp (disch:=first | omega | decide) only [bW.l0,bW.b0,aP,br,e2,e4,aO,cb,aZ,aN,hr,fV,bK,aD]
       exact ih.2
theorem qn {k:Nat} (hk:2 ^ 50≤k) {s:ByteArray} (hs:s.size≤1099511627775):cw.f k s=some ((ay s).1,((ay s).2,())) :=
 (IZ hk (by omega) (s.size+1) k 0 [] (by omega) (by omega) (by omega) (by omega) (by simp)).1
theorem lO {k:Nat} (hk:2 ^ 50≤k) {s:ByteArray} (hs:s.size≤1099511627775):bW.f k s=some ((ay s).1,((ay s).2,())) :=
 (IZ hk (by omega) (s.size+1) k 0 [] (by omega) (by omega) (by omega) (by omega) (by simp)).2
theorem uk (s:ByteArray):∀ (d:Nat) (i:Int),0≤i→i≤s.size→((ij s d i).1.length:Int)≤s.size-i∧i≤(ij s d i).2∧(ij s d i).2≤s.size
 | 0,i,h0,h1=>by simp only [ij,List.length_nil];omega
 | d+1,i,h0,h1=>by
  have hu:=nH (ByteArray.extract s i.toNat s.size)
  have hz:=p9 s i.toNat
  rw [ij]
  split
  · simp only [List.length_nil];omega
  · split
    · simp only [List.length_nil];omega
    · rename_i c1 c2
      have ih:=uk s d (i+(iP (ByteArray.extract s i.toNat s.size)).2) (by omega) (by omega)
      simp only [lM]
      omega
theorem gC (s:ByteArray):(ay s).1.length≤s.size∧0≤(ay s).2∧(ay s).2≤s.size:=by
 have:=uk s (s.size+1) 0 (by omega) (by omega)
 unfold ay
 omega
end Go.Proofs.YtohaanhjddohmaaGreatDoor.G
namespace Go.Proofs.YtohaanhjddohmaaGreatDoor.G
open Go.V
theorem Hq (d:Nat) {a:Nat} (h:a<128):(vl d a).length=1:=by
 cases d with
 | zero=>rfl
 | succ d=>unfold vl;rw [if_neg (by omega)];rfl
theorem IG {a:Nat} (h:a<2097152):(vl 6 a).length≤3:=by
 unfold vl
 split
 · rw [lM]
   unfold vl
   split
   · rw [lM,Hq 4 (by omega)]
     omega
   · simp
 · simp
theorem sb {a:Int} (h0:0≤a) (h1:a≤100000):(iA a).size≤3:=by
 obtain ⟨n,rfl⟩:=Int.eq_ofNat_of_zero_le h0
 rw [dL (by omega),← qr (by omega)]
 exact IG (by omega)
def dH:List Int→ByteArray
 | []=>⟨#[]⟩
 | x::l=>iA x++dH l
theorem vK:∀ (l:List Int),(∀ x ∈ l,0≤x∧x≤100000)→(dH l).size≤3*l.length
 | [],_=>Nat.le_refl _
 | x::l,h=>by
  have h1:=sb (h x (pR ..)).1 (h x (pR ..)).2
  have h2:=vK l fun y hy=>h y (s9 _ hy)
  rw [dH,aM,lM]
  omega
theorem nU:∀ (l:List Int),(dH l).size≤7*l.length
 | []=>Nat.le_refl _
 | x::l=>by
  have h1:=ax x
  have h2:=nU l
  rw [dH,aM,lM]
  omega
def lB (v:Ty.den bA):ByteArray:=iA v.1++(iA (v.2.1.length:Int)++dH v.2.1)
def au (v:Ty.den bA):ByteArray:=if dR v=true then ah (lB v) else ⟨#[]⟩
theorem dp {nx:Int} {ids:List Int} (h:dR (nx,(ids,()))=true):1≤nx∧nx≤100000∧1≤ids.length∧ids.length≤60∧∀ x ∈ ids,0≤x∧x≤100000:=by
 unfold dR at h
 simp only [kC,decide_eq_true_eq] at h
 obtain ⟨h1,h2,h3⟩:=h
 have h1a:1≤nx:=h1.1
 have h1b:nx≤100000:=h1.2
 refine ⟨h1a,h1b,by omega,by omega,fun x hx=>?_⟩
 obtain ⟨p,hp⟩:=BG h3 hx
 unfold nz at hp
 rw [kC,decide_eq_true_eq] at hp
 have hw:aF (nx-1)=nx-1:=aD (by omega) (by omega)
 have h4:x≤aF (nx-1):=hp.1.2
 have h5:1≤x:=hp.1.1
 omega
theorem wa {nx:Int} {ids:List Int} (h:dR (nx,(ids,()))=true):(lB (nx,(ids,()))).size≤200:=by
 obtain ⟨h1,h2,h3,h4,h5⟩:=dp h
 have a:=sb (a:=nx) (by omega) h2
 have b:=sb (a:=(ids.length:Int)) (by omega) (by omega)
 have c:=vK ids h5
 unfold lB
 rw [aM,aM]
 simp only []
 omega
theorem jw {k:Nat} (hk:2 ^ 50≤k) (v:Ty.den bA):cR.f k v=some (au v,()):=by
 unfold cR.f cR.t au
 rw [rQ hk,aO]
 cases c:dR v with
 | false=>rfl
 | true =>
  obtain ⟨h1,h2,h3,h4,h5⟩:=dp (nx:=v.1) (ids:=v.2.1) c
  have a:=ax v.1
  have b:=ax (v.2.1.length:Int)
  rw [fV,aN,gk hk,aO,gk hk,aO,if_pos rfl]
  simp only []
  rw [dW (by omega)]
  refine (du (L:=fun n i s=>cR.l0 k n s i v.1 v.2.1) (R:=fun r s=>some (ah (s++dH r),())) (Ty.dflt (.int .i64)) v.2.1 (fun i s=>(s.size:Int)≤14+7*i) (fun n s hs=>?_) (fun n i s x rest g0 g1 hx hr hs ih=>?_) (n:=k) (by omega) (by rw [aM];omega)).trans (by rw [ap];rfl)
  · simp (disch:=omega) only [cR.l0,cR.b0,aQ,aN,iz hk,aO]
    rw [show dH []=⟨#[]⟩ from rfl,gL]
  · have hv:=ax x
    have ih:=ih (s++iA x) (by rw [aM];omega)
    simp (disch:=omega) only [cR.l0,cR.b0,aP g1,aZ,aG,hx,gk hk,aO,dW,aD,ih]
    rw [ap]
    rfl
noncomputable def cO (s:ByteArray):Ty.den bA × Bool:=od (fun v=>dR v=true) au (0,([],())) s
theorem AC (s:ByteArray):0≤(Cv (rv 7 (nb s))).2.1∧(Cv (rv 7 (nb s))).2.1≤(s.size:Int):=by
 cases h:rv 7 (nb s) with
 | none=>exact ⟨Int.le_refl _,by show (0:Int)≤_;omega⟩
 | some p =>
  obtain ⟨a,n⟩:=p
  obtain ⟨h1,h2,h3,h4,h5,h6⟩:=pX 6 (nb s) a n (sq s) h
  rw [cX] at h4
  exact ⟨by show (0:Int)≤(n:Int);omega,by show (n:Int)≤_;omega⟩
def HT:Option (Ty.den bA × Bool × Unit):=some ((0,([],())),(false,()))
theorem AE {k:Nat} (hk:2 ^ 50≤k) {s t:ByteArray} (ht:t.size≤200) (c nx:Int):∀ (d n:Nat) (pos j:Int) (out:List Int),60-j=d→d<n→0≤pos→pos≤t.size→0≤j→(out.length:Int)≤j →
 ∃ o,bQ.l0 k n s t c pos j [] 0 out nx=bif !seq (au (nx,(o,()))) s then HT else some ((nx,(o,())),(true,())):=by
 intro d
 induction d with
 | zero =>
  intro n pos j out hj hn h0 h1 h2 h3
  obtain ⟨n,rfl⟩:∃ q,n=q+1:=⟨n-1,by omega⟩
  refine ⟨out,?_⟩
  simp only [bQ.l0,bQ.b0]
  rw [aQ (show ¬ j<60 by omega),aN,jw hk,aO]
  cases decide (j<c) <;> cases seq (au (nx,(out,()))) s <;> rfl
 | succ d ih =>
  intro n pos j out hj hn h0 h1 h2 h3
  obtain ⟨n,rfl⟩:∃ q,n=q+1:=⟨n-1,by omega⟩
  by_cases c1:j<c
  · have hr:=AC (ByteArray.extract t pos.toNat t.size)
    have he:(ByteArray.extract t pos.toNat t.size).size=t.size-pos.toNat:=by rw [← cX,iy,List.length_drop,cX]
    rw [he] at hr
    obtain ⟨o,ho⟩:=ih n (pos+(Cv (rv 7 (nb (ByteArray.extract t pos.toNat t.size)))).2.1) (j+1) (out++[(Cv (rv 7 (nb (ByteArray.extract t pos.toNat t.size)))).1]) (by omega) (by omega) (by omega) (by omega) (by omega) (by rw [bJ];omega)
    refine ⟨o,?_⟩
    simp only [bQ.l0,bQ.b0]
    rw [aP c1,aP (show j<60 by omega),aZ,aZ,br h0 h1,fm hk,aO,bK (by omega) (by decide),aD (n:=pos+_) (by omega) (by omega),aD (n:=j+1) (by omega) (by omega)]
    exact ho
  · refine ⟨out,?_⟩
    simp only [bQ.l0,bQ.b0]
    rw [aQ c1,aN,jw hk,aO]
    cases seq (au (nx,(out,()))) s <;> rfl
theorem pG {x:Int} (h0:0≤x) (h1:x≤100000):∃ n:Nat,n<562949953421312∧x=(n:Int)∧iA x=bE n:=by
 obtain ⟨n,rfl⟩:=Int.eq_ofNat_of_zero_le h0
 exact ⟨n,by omega,rfl,dL (by omega)⟩
theorem CZ {k:Nat} (hk:2 ^ 50≤k) {s:ByteArray} (nx:Int):∀ (ids:List Int) (pre:ByteArray) (n:Nat) (j c:Int) (out:List Int),(∀ x ∈ ids,0≤x∧x≤100000)→ids.length<n→0≤j→c=j+ids.length→c≤60→pre.size+7*ids.length≤1000→(out.length:Int)≤j →
 bQ.l0 k n s (pre++dH ids) c (pre.size:Int) j [] 0 out nx=bif !seq (au (nx,(out++ids,()))) s then HT else some ((nx,(out++ids,())),(true,())):=by
 intro ids
 induction ids with
 | nil =>
  intro pre n j c out h hn h0 hc h1 hp ho
  obtain ⟨n,rfl⟩:∃ q,n=q+1:=⟨n-1,by omega⟩
  rw [List.length_nil] at hc
  simp only [bQ.l0,bQ.b0]
  rw [aQ (show ¬ j<c by omega),aN,jw hk,aO,List.append_nil]
  cases seq (au (nx,(out,()))) s <;> rfl
 | cons x ids ih =>
  intro pre n j c out h hn h0 hc h1 hp ho
  rw [lM] at hn hc
  obtain ⟨n,rfl⟩:∃ q,n=q+1:=⟨n-1,by omega⟩
  obtain ⟨a,ha,hx,hv⟩:=pG (h x (pR ..)).1 (h x (pR ..)).2
  have hvs:=af a
  have hts:=nU (x::ids)
  rw [lM] at hts
  have ih:=ih (pre++bE a) n (j+1) c (out++[x]) (fun y hy=>h y (s9 _ hy)) (by omega) (by omega) (by omega) h1 ?_ (by rw [bJ];omega)
  · have he:ByteArray.extract (pre++dH (x::ids)) pre.size (pre++dH (x::ids)).size=bE a++dH ids:=by rw [fW,dH,hv]
    simp only [bQ.l0,bQ.b0]
    rw [aP (show j<c by omega),aP (show j<60 by omega),aZ,aZ,br (by omega) (by rw [aM];omega),Int.toNat_natCast,he,fm hk,aO,rR ha]
    simp only [Cv]
    rw [bK (by omega) (by decide),aD (by omega) (by omega),aD (by omega) (by omega),← hx,show (pre.size:Int)+((bE a).size:Int)=((pre++bE a).size:Int) by rw [aM];omega]
    rw [show pre++dH (x::ids)=pre++bE a++dH ids by rw [dH,hv,ap],ih,rX]
    rfl
  · rw [aM]
    rw [lM] at hp
    omega
theorem wP {k:Nat} (hk:2 ^ 50≤k) {nx:Int} {ids:List Int} (h:dR (nx,(ids,()))=true):bQ.f k (au (nx,(ids,())))=some ((nx,(ids,())),(true,())):=by
 obtain ⟨g1,g2,g3,g4,g5⟩:=dp h
 have hz:=wa h
 have hf:=o8 hz
 have hfs:=i7 (lB (nx,(ids,())))
 have hu:=pA ⟨#[]⟩ hz
 rw [gL] at hu
 have e:au (nx,(ids,()))=ah (lB (nx,(ids,()))):=if_pos h
 obtain ⟨a,ha,hx,hv⟩:=pG (x:=nx) (by omega) g2
 obtain ⟨b,hb,hy,hw⟩:=pG (x:=(ids.length:Int)) (by omega) (by omega)
 have ht:lB (nx,(ids,()))=bE a++bE b++dH ids:=by
  unfold lB
  rw [ap,← hv,← hw]
 have hva:=af a
 have hvb:=af b
 have hl:=CZ hk (s:=au (nx,(ids,()))) nx ids (bE a++bE b) k 0 (b:Int) [] g5 (by omega) (by omega) (by omega) (by omega) (by rw [aM];omega) (by simp)
 rw [← ht,List.nil_append,cm] at hl
 unfold bQ.f bQ.t
 rw [lZ hk (by rw [e];omega),aO]
 have hu1:iP (au (nx,(ids,())))=(lB (nx,(ids,())),((au (nx,(ids,()))).size:Int)):=by rw [e];exact hu
 have r1:rv 7 (nb (lB (nx,(ids,()))))=some (a,(bE a).size):=by rw [ht,ap];exact rR ha _
 have r2:rv 7 (nb (ByteArray.extract (lB (nx,(ids,()))) (bE a).size (lB (nx,(ids,()))).size))=some (b,(bE b).size):=by rw [ht,ap,fW];exact rR hb _
 have hsz:(lB (nx,(ids,()))).size=(bE a).size+(bE b).size+(dH ids).size:=by rw [ht,aM,aM]
 rw [hu1]
 simp only []
 rw [fm hk,aO,r1]
 simp only [Cv]
 rw [show (((au (nx,(ids,()))).size:Int) != ((au (nx,(ids,()))).size:Int))=false by simp,aN,
  show (((au (nx,(ids,()))).size:Int)==0)=false from nZ (by rw [e];omega),aN,show (((bE a).size:Int)==0)=false from nZ (by omega),aN,
  br (by omega) (by omega),Int.toNat_natCast,fm hk,aO,r2]
 simp only [Cv]
 rw [aD (by omega) (by omega),show ((bE a).size:Int)+((bE b).size:Int)=((bE a++bE b).size:Int) by rw [aM];omega,← hx]
 exact hl
theorem qG {k:Nat} (hk:2 ^ 50≤k) {s:ByteArray} (hs:s.size≤1099511627776):bQ.f k s=some ((cO s).1,((cO s).2,())):=by
 refine mL (fun v h1 h2=>?_) ?_
 · subst h2
   exact wP hk (nx:=v.1) (ids:=v.2.1) h1
 · unfold bQ.f bQ.t
   rw [lZ hk hs,aO]
   have hu:=nH s
   generalize iP s=u at hu
   obtain ⟨t,m⟩:=u
   simp only [] at hu ⊢
   rw [fm hk,aO]
   have h1:=AC t
   generalize Cv (rv 7 (nb t))=q at h1
   obtain ⟨nx,p,_⟩:=q
   simp only [] at h1 ⊢
   by_cases c1:m=(s.size:Int)
   case neg=>rw [show (m != (s.size:Int))=true from bne_iff_ne.2 c1];exact .inr rfl
   rw [show (m != (s.size:Int))=false by rw [c1];simp,aN]
   by_cases c2:m=0
   case pos=>rw [show (m==0)=true from beq_iff_eq.2 c2];exact .inr rfl
   rw [show (m==0)=false from nZ c2,aN]
   by_cases c3:p=0
   case pos=>rw [show (p==0)=true from beq_iff_eq.2 c3];exact .inr rfl
   rw [show (p==0)=false from nZ c3,aN,br h1.1 h1.2,fm hk,aO]
   have h2:=AC (ByteArray.extract t p.toNat t.size)
   have he:(ByteArray.extract t p.toNat t.size).size=t.size-p.toNat:=by rw [← cX,iy,List.length_drop,cX]
   rw [he] at h2
   rw [aD (by omega) (by omega)]
   obtain ⟨o,ho⟩:=AE hk (s:=s) hu.1 (Cv (rv 7 (nb (ByteArray.extract t p.toNat t.size)))).1 nx 60 k (p+(Cv (rv 7 (nb (ByteArray.extract t p.toNat t.size)))).2.1) 0 [] (by omega) (by omega) (by omega) (by omega) (by omega) (by simp)
   rw [ho]
   cases c4:seq (au (nx,(o,()))) s with
   | false=>exact .inr rfl
   | true =>
    refine .inl ⟨(nx,(o,())),?_,dY.1 c4,rfl⟩
    cases c5:dR (nx,(o,())) with
    | true=>rfl
    | false =>
     have:=dY.1 c4
     unfold au at this
     rw [c5,if_neg (by decide)] at this
     rw [← this] at c1
     exact absurd c1 c2
def IX (s:ByteArray) (m a:Int) (out:List Int) (r:ByteArray) (bad:Bool):Option (Ty.den bA × Bool × Unit) :=
 bif m==0 then HT else bif m != (s.size:Int) then HT else bif bad then HT else bif !seq r ⟨#[]⟩ then HT else bif !dR (a,(out,())) then HT else some ((a,(out,())),(true,()))
theorem vv {k:Nat} (hk:2 ^ 50≤k) {s r:ByteArray} {m a:Int} {out:List Int} {bad:Bool} (ho:out.length≤1099511627776) :
 @Eq (Option (Ty.den bA × Bool × Unit)) (bif (m==0) then (some ((0,([],())),(false,()))) else (bif (m != (ByteArray.size s:Int)) then (some ((0,([],())),(false,()))) else (bif bad then (some ((0,([],())),(false,()))) else (bif (!(seq r (⟨#[]⟩:ByteArray))) then (some ((0,([],())),(false,()))) else (Option.bind (dN.f k (a,(out,()))) fun r5=>(bif (!r5.1) then (some ((0,([],())),(false,()))) else (some ((a,(out,())),(true,()))))))))) (IX s m a out r bad):=by
 rw [uz hk (v:=(a,(out,()))) ho]
 rfl
theorem Be {k:Nat} (hk:2 ^ 50≤k) {s:ByteArray} (m a:Int):∀ (ids:List Int) (n:Nat) (j c:Int) (out:List Int),(∀ x ∈ ids,0≤x∧x≤100000)→ids.length<n→0≤j→c=j+ids.length→c≤60→(out.length:Int)≤j →
 aq.l0 k n s m c j [] 0 (dH ids) false out a=IX s m a (out++ids) ⟨#[]⟩ false:=by
 intro ids
 induction ids with
 | nil =>
  intro n j c out h hn h0 hc h1 ho
  obtain ⟨n,rfl⟩:∃ q,n=q+1:=⟨n-1,by omega⟩
  rw [List.length_nil] at hc
  simp only [aq.l0,aq.b0]
  rw [aQ (show ¬ j<c by omega),aN,List.append_nil]
  exact vv hk (bad:=false) (by omega)
 | cons x ids ih =>
  intro n j c out h hn h0 hc h1 ho
  rw [lM] at hn hc
  obtain ⟨n,rfl⟩:∃ q,n=q+1:=⟨n-1,by omega⟩
  obtain ⟨b,hb,hx,hv⟩:=pG (h x (pR ..)).1 (h x (pR ..)).2
  have hts:=nU ids
  have ih:=ih n (j+1) c (out++[x]) (fun y hy=>h y (s9 _ hy)) (by omega) (by omega) (by omega) h1 (by rw [bJ];omega)
  simp only [aq.l0,aq.b0]
  rw [aP (show j<c by omega),aZ,ot,aZ,show dH (x::ids)=bE b++dH ids by rw [dH,hv],fH hk hb (by omega),aO]
  simp only []
  rw [bK (by omega) (by decide),aD (by omega) (by omega),← hx,ih,rX]
  rfl
theorem xm {k:Nat} (hk:2 ^ 50≤k) {nx:Int} {ids:List Int} (h:dR (nx,(ids,()))=true):aq.f k (au (nx,(ids,())))=some ((nx,(ids,())),(true,())):=by
 obtain ⟨g1,g2,g3,g4,g5⟩:=dp h
 have hz:=wa h
 have hf:=o8 hz
 have hfs:=i7 (lB (nx,(ids,())))
 have hu:=pA ⟨#[]⟩ hz
 rw [gL] at hu
 have e:au (nx,(ids,()))=ah (lB (nx,(ids,()))):=if_pos h
 obtain ⟨a,ha,hx,hv⟩:=pG (x:=nx) (by omega) g2
 obtain ⟨b,hb,hy,hw⟩:=pG (x:=(ids.length:Int)) (by omega) (by omega)
 have ht:lB (nx,(ids,()))=bE a++(bE b++dH ids):=by
  unfold lB
  rw [← hv,← hw]
 have hvs:=nU ids
 have hvb:=af b
 have hl:=Be hk (s:=au (nx,(ids,()))) ((au (nx,(ids,()))).size:Int) nx ids k 0 (b:Int) [] g5 (by omega) (by omega) (by omega) (by omega) (by simp)
 have hu1:iP (au (nx,(ids,())))=(lB (nx,(ids,())),((au (nx,(ids,()))).size:Int)):=by rw [e];exact hu
 unfold aq.f aq.t
 rw [nh hk (by rw [e];omega),aO,hu1]
 simp only []
 rw [ht,fH hk ha (by rw [aM];omega),aO]
 simp only []
 rw [fH hk hb (by omega),aO]
 simp only []
 rw [← hx,hl,List.nil_append]
 unfold IX
 rw [show (((au (nx,(ids,()))).size:Int)==0)=false from nZ (by rw [e];omega),show (((au (nx,(ids,()))).size:Int) != ((au (nx,(ids,()))).size:Int))=false by simp,cm,h]
 rfl
theorem Av {k:Nat} (hk:2 ^ 50≤k) {s:ByteArray} (m a c:Int):∀ (n:Nat) (rest:ByteArray) (j:Int) (out:List Int),rest.size+2≤n→0≤j→j≤c→c<562949953421312→out.length+rest.size≤1000000 →
 (∃ xs r,rest=dH xs++r∧(xs.length:Int)=c-j∧aq.l0 k n s m c j [] 0 rest false out a=IX s m a (out++xs) r false)∨(∃ o r,aq.l0 k n s m c j [] 0 rest false out a=IX s m a o r true):=by
 intro n
 induction n with
 | zero=>intro rest j out h1;omega
 | succ n ih =>
  intro rest j out h1 h2 h3 h4 h5
  by_cases c1:j<c
  · rcases jx rest with ⟨b,t,hb,rfl⟩ | hbad
    · have hvb:=af b
      rw [aM] at h1 h5
      have e:aq.l0 k (n+1) s m c j [] 0 (bE b++t) false out a=aq.l0 k n s m c (j+1) [] 0 t false (out++[(b:Int)]) a:=by
       simp only [aq.l0,aq.b0]
       rw [aP c1,aZ,ot,aZ,fH hk hb (by omega),aO]
       simp only []
       rw [bK (by omega) (by decide),aD (by omega) (by omega)]
      rw [e]
      rcases ih t (j+1) (out++[(b:Int)]) (by omega) (by omega) (by omega) h4 (by rw [bJ];omega) with ⟨xs,r,g1,g2,g3⟩ | g
      · refine .inl ⟨(b:Int)::xs,r,?_,by rw [lM];omega,?_⟩
        · rw [dH,dL hb,g1,ap]
        · rw [g3,rX];rfl
      · exact .inr g
    · refine .inr ?_
      obtain ⟨n,rfl⟩:∃ q,n=q+1:=⟨n-1,by omega⟩
      refine ⟨out++[0],rest,?_⟩
      simp only [aq.l0,aq.b0]
      rw [aP c1,aZ,ot,aZ,lq hk hbad (by omega),aO]
      simp only []
      rw [bK (by omega) (by decide),aD (by omega) (by omega),fV,aN]
      rw [vv hk (bad:=true) (by rw [bJ];omega)]
      cases decide (j+1<c) <;> rfl
  · refine .inl ⟨[],rest,by rw [dH,oV],by rw [List.length_nil];omega,?_⟩
    simp only [aq.l0,aq.b0]
    rw [aQ c1,aN,List.append_nil]
    exact vv hk (bad:=false) (by omega)
theorem E8 (s:ByteArray) (m a:Int) (o:List Int) (r:ByteArray):IX s m a o r true=HT:=by
 unfold IX
 cases m==0 <;> cases m != (s.size:Int) <;> rfl
theorem sw {k:Nat} (hk:2 ^ 50≤k) (s:ByteArray) (m a c:Int) (r:ByteArray):aq.l0 k k s m c 0 [] 0 r true [] a=HT:=by
 obtain ⟨n,hn⟩:∃ q,k=q+1:=⟨k-1,by omega⟩
 have e:aq.l0 k (n+1) s m c 0 [] 0 r true [] a=HT:=by
  simp only [aq.l0,aq.b0]
  rw [fV,aN,vv hk (bad:=true) (by simp),E8]
  cases decide (0<c) <;> rfl
 rw [← hn] at e
 exact e
theorem qM {k:Nat} (hk:2 ^ 50≤k) {s:ByteArray} (hs:s.size≤1099511627776):aq.f k s=some ((cO s).1,((cO s).2,())):=by
 refine mL (fun v h1 h2=>?_) ?_
 · subst h2
   exact xm hk (nx:=v.1) (ids:=v.2.1) h1
 · unfold aq.f aq.t
   rw [nh hk hs,aO]
   have hu:=nH s
   have hc:=nG s
   generalize iP s=u at hu hc
   obtain ⟨t,m⟩:=u
   simp only [] at hu ⊢
   rcases jx t with ⟨a,t1,ha,e1⟩ | hb
   case inr =>
    rw [lq hk hb (by omega),aO]
    simp only []
    rw [vP hk (by omega),aO]
    simp only []
    rw [sw hk]
    exact .inr rfl
   have z1:t.size=(bE a).size+t1.size:=by rw [e1,aM]
   rw [show aJ.f k (t,(false,()))=some ((t1,(false,())),((a:Int),())) by rw [e1];exact fH hk ha (by omega),aO]
   simp only []
   rcases jx t1 with ⟨c,t2,hcl,e2⟩ | hb
   case inr =>
    rw [lq hk hb (by omega),aO]
    simp only []
    rw [sw hk]
    exact .inr rfl
   have z2:t1.size=(bE c).size+t2.size:=by rw [e2,aM]
   rw [show aJ.f k (t1,(false,()))=some ((t2,(false,())),((c:Int),())) by rw [e2];exact fH hk hcl (by omega),aO]
   simp only []
   rcases Av hk (s:=s) m (a:Int) (c:Int) k t2 0 [] (by omega) (by omega) (by omega) (by omega) (by rw [List.length_nil];omega) with ⟨xs,r,g1,g2,g3⟩ | ⟨o,r,g⟩
   case inr=>rw [g,E8];exact .inr rfl
   rw [g3,List.nil_append]
   unfold IX
   by_cases c2:m=0
   case pos=>rw [show (m==0)=true from beq_iff_eq.2 c2];exact .inr rfl
   rw [show (m==0)=false from nZ c2,aN]
   by_cases c1:m=(s.size:Int)
   case neg=>rw [show (m != (s.size:Int))=true from bne_iff_ne.2 c1];exact .inr rfl
   rw [show (m != (s.size:Int))=false by rw [c1];simp,aN,aN]
   cases c3:seq r ⟨#[]⟩ with
   | false=>exact .inr rfl
   | true =>
    rw [fV,aN]
    cases c4:dR ((a:Int),(xs,())) with
    | false=>exact .inr rfl
    | true =>
     refine .inl ⟨((a:Int),(xs,())),c4,?_,rfl⟩
     have hr:=dY.1 c3
     subst hr
     rw [gL] at g1
     rcases hc with ⟨t',r',h1,h2,h3⟩ | ⟨h1,_⟩
     · obtain ⟨rfl,hm⟩:=Prod.mk.inj h3
       have hr':r'=⟨#[]⟩:=by
        have hsz:=congrArg ByteArray.size h2
        rw [aM] at hsz
        have:r'.size=0:=by omega
        exact kx (by
         have hn:=cX r'
         rw [this] at hn
         rw [List.length_eq_zero_iff.1 hn]
         rfl)
       rw [h2,hr',gL]
       show au ((a:Int),(xs,()))=ah t
       rw [show au ((a:Int),(xs,()))=ah (lB ((a:Int),(xs,()))) from if_pos c4]
       congr 1
       rw [e1,e2,g1]
       unfold lB
       simp only []
       rw [dL ha,show (xs.length:Int)=(c:Int) by omega,dL hcl]
     · exact absurd (Prod.mk.inj h1).2 c2
end Go.Proofs.YtohaanhjddohmaaGreatDoor.G
namespace Go.V
def Jo (n:Int):Prop := -999999999≤n∧n≤999999999
def dg:List Nat→Nat→Nat→Nat × Nat
 | [],a,c=>(a,c)
 | b::l,a,c=>if 48≤b∧b≤57 then dg l (a*10+(b-48)) (c+1) else dg l a c
theorem uK:∀ (l:List Nat) (a c:Nat),(∀ b ∈ l,48≤b∧b≤57)→dg l a c=(pF l a,c+l.length)
 | [],a,c,_=>rfl
 | b::l,a,c,h=>by
  rw [dg,if_pos (h b (pR ..)),uK l _ _ fun x hx=>h x (s9 _ hx),pF,lM]
  congr 1
  omega
theorem xn:∀ (l:List Nat) (a c:Nat),a+1≤10 ^ c→(dg l a c).1+1≤10 ^ (dg l a c).2
 | [],a,c,h=>h
 | b::l,a,c,h=>by
  unfold dg
  split
  · rename_i q
    exact xn l _ _ (by rw [Nat.pow_succ];omega)
  · exact xn l _ _ h
theorem CB (u:Nat):∀ b ∈ (Lib.decDigits u).map UInt8.toNat,48≤b∧b≤57:=by
 intro b hb
 obtain ⟨x,hx,rfl⟩:=List.mem_map.1 hb
 exact jz u x hx
def Ii (s:ByteArray) (a:Nat):Int:=bif decide ((s.size:Int) > 0)&&(da s 0==45) then -(a:Int) else (a:Int)
theorem Il {s:ByteArray} (h:0<s.size):da s 0=(((nb s).getD 0 0:Nat):Int):=wH (i:=0) h
theorem HY {n:Int}:Ii (fy n) n.natAbs=n:=by
 have hb:=qB n
 have hl:=cX (fy n)
 unfold Ii
 by_cases c:n<0
 · rw [if_pos c] at hb
   rw [hb,lM] at hl
   rw [aP (by omega),Il (by omega),hb]
   show (bif true&&(((45:Nat):Int)==45) then _ else _)=n
   show -((n.natAbs:Nat):Int)=n
   omega
 · rw [if_neg c] at hb
   have:(da (fy n) 0==45)=false:=by
    cases q:Lib.decDigits n.toNat with
    | nil=>exact absurd q (my _)
    | cons x r =>
     have hx:=jz n.toNat x (by rw [q];exact pR ..)
     rw [q,List.map_cons] at hb
     rw [hb,lM] at hl
     rw [Il (by omega),hb]
     refine nZ ?_
     show ((x.toNat:Nat):Int)≠45
     omega
   rw [this,Bool.and_false,aN]
   omega
theorem Ht {n:Int} (h:Jo n):(fy n).size≤10:=Fq (by have:=h.1;omega) (by have:=h.2;omega)
theorem JI {n:Int} (h:Jo n):∃ c,dg (nb (fy n)) 0 0=(n.natAbs,c)∧c≤9:=by
 obtain ⟨h0,h1⟩:=h
 rw [qB]
 by_cases c:n<0
 · rw [if_pos c]
   refine ⟨(Lib.decDigits n.natAbs).length,?_,gy 8 _ (by rw [show (10:Nat) ^ (8+1)=1000000000 by decide];omega)⟩
   rw [dg,if_neg (by omega),uK _ _ _ (CB _),ow,List.length_map,Nat.zero_add]
 · rw [if_neg c]
   refine ⟨(Lib.decDigits n.toNat).length,?_,gy 8 _ (by rw [show (10:Nat) ^ (8+1)=1000000000 by decide];omega)⟩
   rw [uK _ _ _ (CB _),ow,List.length_map,Nat.zero_add,show n.toNat=n.natAbs by omega]
theorem Cm {c:Nat} (h:c≤11):10 ^ c≤100000000000:=Nat.le_trans (Nat.pow_le_pow_right (by decide) h) (by decide)
theorem IL {c:Nat} (h:c≤9):10 ^ c≤1000000000:=Nat.le_trans (Nat.pow_le_pow_right (by decide) h) (by decide)
end Go.V
namespace Go.Proofs.YtohaanhjddohmaaGreatDoor.G
open Go.V
noncomputable def eH (s:ByteArray):Int × Bool:=od Jo fy 0 s
def Et (s:ByteArray) (q:Nat × Nat):Option (Int × Bool × Unit) :=
 bif decide ((q.2:Int) > 9)||(decide ((s.size:Int) > 10)||!seq (fy (Ii s q.1)) s) then some (0,(false,())) else some (Ii s q.1,(true,()))
theorem Jc {k:Nat} (hk:2 ^ 50≤k) (s:ByteArray) {q:Nat × Nat} (hq:q.1≤1000000000000) :
 (bif (decide ((ByteArray.size s:Int) > 0)) then (ba 0 (ByteArray.size s:Int) (bif ((da s 0)==45) then (bif (decide ((q.2:Int) > 9)) then (some (0,(false,()))) else (bif (decide ((ByteArray.size s:Int) > 10)) then (some (0,(false,()))) else (Option.bind (dZ.f k (aF (0-(q.1:Int)))) fun r1=>(bif (!(seq r1.1 s)) then (some (0,(false,()))) else (some ((aF (0-(q.1:Int))),(true,()))))))) else
  (bif (decide ((q.2:Int) > 9)) then (some (0,(false,()))) else (bif (decide ((ByteArray.size s:Int) > 10)) then (some (0,(false,()))) else (Option.bind (dZ.f k (q.1:Int)) fun r2=>(bif (!(seq r2.1 s)) then (some (0,(false,()))) else (some ((q.1:Int),(true,())))))))))
 else (bif (decide ((q.2:Int) > 9)) then (some (0,(false,()))) else (bif (decide ((ByteArray.size s:Int) > 10)) then (some (0,(false,()))) else (Option.bind (dZ.f k (q.1:Int)) fun r3=>(bif (!(seq r3.1 s)) then (some (0,(false,()))) else (some ((q.1:Int),(true,()))))))))=Et s q:=by
 have hn:aF (0-(q.1:Int)) = -(q.1:Int):=by rw [aD (by omega) (by omega)];omega
 rw [hn,np hk (n:=(q.1:Int)) (by omega) (by omega),np hk (n := -(q.1:Int)) (by omega) (by omega)]
 simp only [aO]
 unfold Et Ii
 by_cases c0:(s.size:Int) > 0
 · rw [aP c0,aZ,aG (by omega) (by omega),Bool.true_and]
   cases da s 0==45 <;> cases decide ((q.2:Int) > 9) <;> cases decide ((s.size:Int) > 10)
   all_goals simp only [aZ,aN,Bool.true_or,Bool.false_or]
   all_goals first | rfl | (cases seq (fy (q.1:Int)) s <;> rfl) | (cases seq (fy (-(q.1:Int))) s <;> rfl)
 · rw [aQ c0,aN,Bool.false_and,aN]
   cases decide ((q.2:Int) > 9) <;> cases decide ((s.size:Int) > 10)
   all_goals simp only [aZ,aN,Bool.true_or,Bool.false_or]
   all_goals first | rfl | (cases seq (fy (q.1:Int)) s <;> rfl)
theorem vi {k:Nat} (hk:2 ^ 50≤k) {s:ByteArray} (hs:s.size≤1099511627776):f_.f k s=Et s (dg ((nb s).take 11) 0 0):=by
 unfold f_.f f_.t
 have hn:=cX s
 have hl:((nb s).take 11).length=min 11 s.size:=by rw [List.length_take,hn]
 refine du (L:=fun n i (q:Nat × Nat)=>f_.l0 k n s (q.1:Int) (q.2:Int) i) (R:=fun r q=>Et s (dg r q.1 q.2)) 0 ((nb s).take 11) (fun i q=>q.1+1≤10 ^ q.2∧(q.2:Int)≤i) (fun n q hq=>?_) (fun n i q x rest h0 h1 hx hr hq ih=>?_) (n:=k) (s:=(0,0)) (by omega) ⟨by decide,by decide⟩
 · obtain ⟨g1,g2⟩:=hq
   have hp:=Cm (c:=q.2) (by omega)
   rw [show dg [] q.1 q.2=q from rfl]
   refine Eq.trans ?_ (Jc hk s (q:=q) (by omega))
   simp only [f_.l0,f_.b0]
   rcases Nat.lt_or_ge 11 s.size with c | c
   · rw [hl,Nat.min_eq_left (by omega),aP (show ((11:Nat):Int)<(s.size:Int) by omega),aQ (show ¬ ((11:Nat):Int)<11 by omega)]
     rfl
   · rw [hl,Nat.min_eq_right c,aQ (show ¬ (s.size:Int)<(s.size:Int) by omega)]
     rfl
 · obtain ⟨g1,g2⟩:=hq
   have hp:=Cm (c:=q.2) (by omega)
   rw [hl] at h1
   have hi:i<11:=by omega
   have hsz:i<(s.size:Int):=by omega
   have hx':(nb s).getD i.toNat 0=x:=by rw [← hx,kV (by omega)]
   have hb:=AG (s:=s) (x:=x) h0 (by rw [hn];exact hsz) hx'
   have hx256:x<256:=by rw [← hx'];exact jC s _
   simp only [f_.l0,f_.b0]
   rw [aP hsz,aP hi,aZ,aZ,aG h0 hsz,hb]
   have iN:=ih q ⟨g1,by omega⟩
   by_cases c1:48≤x
   · rw [aP (show (x:Int)≥48 by omega),aZ]
     by_cases c2:x≤57
     · rw [aG h0 hsz,aP (show (x:Int)≤57 by omega),aZ,aG h0 hsz]
       have iY:=ih (q.1*10+(x-48),q.2+1) ⟨by rw [Nat.pow_succ];omega,by simp only [];omega⟩
       rw [ol (n:=(x:Int)-48) (by omega) (by omega),aD (n:=(x:Int)-48) (by omega) (by omega),aD (n:=(q.1:Int)*10) (by omega) (by omega),aD (by omega) (by omega),aD (n:=(q.2:Int)+1) (by omega) (by omega),aD (n:=i+1) (by omega) (by omega)]
       rw [show dg (x::rest) q.1 q.2=dg rest (q.1*10+(x-48)) (q.2+1) from if_pos ⟨c1,c2⟩]
       rw [show (q.1:Int)*10+((x:Int)-48)=((q.1*10+(x-48):Nat):Int) by omega,show (q.2:Int)+1=((q.2+1:Nat):Int) by omega]
       exact iY
     · rw [aG h0 hsz,aQ (show ¬ (x:Int)≤57 by omega),aN,aD (n:=i+1) (by omega) (by omega),show dg (x::rest) q.1 q.2=dg rest q.1 q.2 from if_neg (fun h=>c2 h.2)]
       exact iN
   · rw [aQ (show ¬ (x:Int)≥48 by omega),aN,aD (n:=i+1) (by omega) (by omega),show dg (x::rest) q.1 q.2=dg rest q.1 q.2 from if_neg (fun h=>c1 h.1)]
     exact iN
theorem xN {k:Nat} (hk:2 ^ 50≤k) {s:ByteArray} (hs:s.size≤1099511627776):f_.f k s=some ((eH s).1,((eH s).2,())):=by
 rw [vi hk hs]
 refine mL (fun n h1 h2=>?_) ?_
 · subst h2
   have hz:=Ht h1
   obtain ⟨c,e,hc⟩:=JI h1
   rw [List.take_of_length_le (by rw [cX];omega),e]
   unfold Et
   simp only []
   rw [aQ (by omega),aQ (by omega),HY,cm]
   rfl
 · have hb:=xn ((nb s).take 11) 0 0 (by decide)
   generalize dg ((nb s).take 11) 0 0=q at hb
   unfold Et
   by_cases c:q.2≤9
   · have hp:=IL c
     cases e:(decide ((q.2:Int) > 9)||(decide ((s.size:Int) > 10)||!seq (fy (Ii s q.1)) s)) with
     | true=>exact .inr rfl
     | false =>
      simp only [Bool.or_eq_false_iff,Bool.not_eq_false'] at e
      refine .inl ⟨Ii s q.1,?_,dY.1 e.2.2,rfl⟩
      unfold Ii Jo
      cases decide ((s.size:Int) > 0)&&(da s 0==45)
      · rw [aN];omega
      · rw [aZ];omega
   · rw [aP (show (q.2:Int) > 9 by omega)]
     exact .inr rfl
theorem na (k:Nat) {s:ByteArray} (hs:s.size≤281474976710656):cN.f k s=some ((eH s).1,((eH s).2,())):=by
 unfold cN.f
 rw [aP hs,aZ]
 refine mL (fun n h1 h2=>?_) ?_
 · obtain ⟨g0,g1⟩:=h1
   have he:s.data.toList=Go.Lib.itoa n:=by rw [← h2];unfold fy;rw [List.toList_toArray]
   rw [he,G2 (by omega) (by omega)]
   unfold cN.r
   simp only []
   rw [show seq ⟨(Go.Lib.itoa n).toArray⟩ s=true from dY.2 h2,aP ⟨g0,g1⟩]
   rfl
 · cases Go.Lib.atoiAll s.data.toList with
   | ok v =>
    unfold cN.r
    simp only []
    cases e:seq ⟨(Go.Lib.itoa v).toArray⟩ s&&decide (-999999999≤v∧v≤999999999) with
    | false=>exact .inr rfl
    | true =>
     rw [kC,decide_eq_true_eq] at e
     exact .inl ⟨v,e.2,dY.1 e.1,rfl⟩
   | _=>exact .inr rfl
theorem ux {n:Int} (h:Jo n):eH (fy n)=(n,true):=Hg (fun _ _ _ _ e=>y_ e) h
end Go.Proofs.YtohaanhjddohmaaGreatDoor.G
namespace Go.Proofs.YtohaanhjddohmaaGreatDoor.G
open Go.V
def qR (s p:ByteArray):Bool:=decide (p.size≤s.size)&&seq (ByteArray.extract s 0 p.size) p
theorem IA (s p:ByteArray):Go.Lib.hasPrefix s.data.toList p.data.toList=qR s p:=(Go.Lib.hasPrefix_raw s p).symm
theorem I0 {s p:ByteArray} (h:qR s p=true):p.size≤s.size:=by
 unfold qR at h
 rw [kC,decide_eq_true_eq] at h
 exact h.1
theorem Bd (p t:ByteArray):qR (p++t) p=true:=by
 unfold qR
 rw [aP (by rw [ByteArray.size_append];omega),xc,cm]
 rfl
theorem xb {s p:ByteArray} (h:qR s p=true):s=p++ByteArray.extract s p.size s.size:=by
 have hl:=I0 h
 unfold qR at h
 rw [kC] at h
 have e:=dY.1 h.2
 have:=tO s hl
 rw [e] at this
 exact this
theorem tL (k:Nat) (s p:ByteArray):gq.f k s p=some (bif qR s p then ByteArray.extract s p.size s.size else s,(qR s p,())):=by
 unfold gq.f Go.Lib.trimPrefix
 rw [IA]
 cases qR s p with
 | false=>rfl
 | true =>
  have:(⟨(if true=true then List.drop p.data.toList.length s.data.toList else s.data.toList).toArray⟩:ByteArray)=ByteArray.extract s p.size s.size:=by
   rw [if_pos rfl]
   apply kx
   rw [iy]
   unfold nb
   rw [List.toList_toArray,List.map_drop,Array.length_toList]
   rfl
  rw [this]
  rfl
end Go.Proofs.YtohaanhjddohmaaGreatDoor.G
namespace Go.Proofs.YtohaanhjddohmaaGreatDoor.G
open Go.V
def nN (l:List Int) (x:Int):Bool:=l.any fun y=>y==x
end Go.Proofs.YtohaanhjddohmaaGreatDoor.G

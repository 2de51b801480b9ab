/- Plain laws, merged; what is proved here is told ahead of each part. -/
import Derived.Test.YthjppgafienaoaaGreatDoorZNE
import Derived.Lib.ItoaNum
import Derived.Lib.AtoiAll
import Derived.Lib.AtoiAllCases
import Derived.Test.YthjppgafienaoaaGreatDoorVPure
import Derived.Test.YthjppgafienaoaaGreatDoorXLib
set_option linter.unusedVariables false
set_option linter.unusedSimpArgs false
namespace Go.V
theorem aZ {α β:Type} {a:α} {f:α→Option β}:Option.bind (some a) f=f a:=rfl
theorem aK {α:Type} {a b:α}:cond false a b=b:=rfl
theorem ac {α:Type} {a b:α}:cond true a b=a:=rfl
theorem fC:(!true)=false:=rfl
theorem u6:(!false)=true:=rfl
theorem mT {α:Type} [BEq α] [LawfulBEq α] {a b:α} (h:a≠b):(a==b)=false:=beq_eq_false_iff_ne.2 h
theorem rH (i:Nat):Int.toNat (i:Int)=i:=Int.toNat_natCast i
theorem mB {α:Type} {a:α} {l:List α}:(a::l).length=l.length+1:=rfl
theorem zT {α:Type} {l m:List α}:(l++m).length=l.length+m.length:=List.length_append
theorem rP {α:Type} (l m n:List α):l++m++n=l++(m++n):=List.append_assoc l m n
theorem Jq {α:Type} [BEq α] [LawfulBEq α] {a b:α} (h:(a==b)=true):a=b:=beq_iff_eq.1 h
theorem iI (a b:Bool):((a&&b)=true)=(a=true∧b=true):=Bool.and_eq_true a b
theorem li {α:Type} {a:α} {l:List α}:a ∈ a::l:=List.mem_cons_self
theorem nX {α:Type} (y:α) {a:α} {l:List α} (h:a ∈ l):a ∈ y::l:=List.mem_cons_of_mem y h
theorem aO {p:Prop} [Decidable p] (h:p):decide p=true:=decide_eq_true h
theorem aQ {p:Prop} [Decidable p] (h:¬ p):decide p=false:=decide_eq_false h
theorem cO {R:Type} {b n:Nat} {k:Option R} (h:n≤1099511627776) (hb:b≤128):rm b n k=k :=
 NF (Nat.le_trans (Nat.mul_le_mul h hb) (by decide)) (by omega)
theorem gf {R:Type} {a b:ByteArray} {k:Option R} (h:a.size+b.size≤4611686018427387904):ln a b k=k:=Bc (by omega)
theorem yK {R:Type} {b:Nat} {n:Int} {k:Option R} (h0:0≤n) (h:n≤1099511627776) (hb:b≤128):vJ b n k=k :=
 FK h0 (Nat.le_trans (Nat.mul_le_mul (show n.toNat≤1099511627776 by omega) hb) (by decide)) (by omega)
theorem xK {n:Int} (h0:0≤n) (h1:n≤4294967295):IntKind.wrap .u32 n=n:=by
 unfold IntKind.wrap
 simp [IntKind.bits,IntKind.signed]
 omega
theorem pZ {n:Int} (h0:0≤n) (h1:n≤255):IntKind.wrap .u8 n=n:=by
 unfold IntKind.wrap
 simp [IntKind.bits,IntKind.signed]
 omega
theorem Md {α:Type} {g:Nat→Option α} {r:α} (h:∀ k,2 ^ 50≤k→g k=some r):Ev g r:=⟨2 ^ 50,h⟩
section
variable {α σ ρ:Type}
theorem N8 {L:Nat→σ→Option ρ} {R:σ→Option ρ} (μ:σ→Nat) (P:σ→Prop)
 (h:∀ n s,P s→(∀ s',P s'→μ s' < μ s→L n s'=R s')→L (n+1) s=R s):∀ n s,P s→μ s<n→L n s=R s
 | 0,s,_,hn=>by omega
 | n+1,s,hs,hn=>h n s hs fun s' h1 h2=>N8 μ P h n s' h1 (by omega)
theorem Mb {L:Nat→Int→σ→Option ρ} {R:Int→σ→Option ρ} (N:Int) (P:Int→σ→Prop)
 (h0:∀ (n:Nat) s,P N s→L (n+1) N s=R N s)
 (h1:∀ (n:Nat) (i:Int) s,0≤i→i<N→P i s→(∀ s',P (i+1) s'→L n (i+1) s'=R (i+1) s')→L (n+1) i s=R i s) :
 ∀ (n:Nat) (i:Int) s,0≤i→i≤N→N-i<n→P i s→L n i s=R i s
 | 0,i,s,hi,hN,hn,_=>by omega
 | n+1,i,s,hi,hN,hn,hs=>by
  by_cases c:i=N
  · subst c;exact h0 n s hs
  · exact h1 n i s hi (by omega) hs fun s' q=>Mb N P h0 h1 n (i+1) s' (by omega) (by omega) (by omega) q
theorem Kl {L:Nat→Int→σ→Option ρ} {R:List α→σ→Option ρ} (z:α) (l:List α) (P:Int→σ→Prop)
 (h0:∀ (n:Nat) s,P l.length s→L (n+1) l.length s=R [] s)
 (h1:∀ (n:Nat) (i:Int) s x rest,0≤i→i<l.length→l.getD i.toNat z=x→l.drop i.toNat=x::rest→P i s→(∀ s',P (i+1) s'→L n (i+1) s'=R rest s')→L (n+1) i s=R (x::rest) s) :
 ∀ (n:Nat) (i:Int) s,0≤i→i≤l.length→(l.length:Int)-i<n→P i s→L n i s=R (l.drop i.toNat) s:=by
 intro n i s hi hN hn hs
 refine Mb (L:=L) (R:=fun i s=>R (l.drop i.toNat) s) l.length P (fun n s q=>?_) (fun n i s hi hlt q ih=>?_) n i s hi hN hn hs
 · rw [h0 n s q,Int.toNat_natCast,List.drop_length]
 · have hl:i.toNat<l.length:=by omega
   have e:l.drop i.toNat=l.getD i.toNat z::l.drop (i+1).toNat:=by
    rw [List.drop_eq_getElem_cons hl,show (i+1).toNat=i.toNat+1 by omega]
    simp [List.getD,hl]
   show _=R (l.drop i.toNat) s
   rw [e]
   exact h1 n i s _ _ hi hlt rfl e q ih
theorem fa {L:Nat→Int→σ→Option ρ} {R:List α→σ→Option ρ} (z:α) (l:List α) (P:Int→σ→Prop)
 (h0:∀ (n:Nat) s,P l.length s→L (n+1) l.length s=R [] s)
 (h1:∀ (n:Nat) (i:Int) s x rest,0≤i→i<l.length→l.getD i.toNat z=x→l.drop i.toNat=x::rest→P i s→(∀ s',P (i+1) s'→L n (i+1) s'=R rest s')→L (n+1) i s=R (x::rest) s)
 {n:Nat} {s:σ} (hn:l.length<n) (hs:P 0 s):L n 0 s=R l s:=by
 have:=Kl z l P h0 h1 n 0 s (by omega) (by omega) (by omega) hs
 simpa using this
end
theorem ky {a b:ByteArray} (h:a≠b):seq a b=false:=by
 cases c:seq a b
 · rfl
 · exact absurd (dS.1 c) h
theorem Cx {a b:ByteArray} (h:a=b):seq a b=true:=dS.2 h
theorem Ge (a b:ByteArray):seq a b=decide (a=b):=by
 by_cases h:a=b
 · rw [Cx h,aO h]
 · rw [ky h,aQ h]
theorem KF {α:Type} {l:List α} {i:Nat} {x:α} {rest:List α} (h:l.drop i=x::rest):i<l.length:=by
 rcases Nat.lt_or_ge i l.length with q | q
 · exact q
 · rw [List.drop_eq_nil_of_le q] at h;cases h
def vl:Nat→Nat→List Nat
 | 0,a=>[a]
 | d+1,a=>if a≥128 then (128+a % 128)::vl d (a/128) else [a]
def t8:List Nat→Nat
 | []=>0
 | b::p=>b % 128+128*t8 p
def rt:List Nat→Bool
 | []=>false
 | [b]=>decide (b<128)
 | b::c::p=>decide (128≤b)&&(decide (b<256)&&(rt (c::p)&&!(decide (p=[])&&c==0)))
theorem xD:∀ (d a:Nat),a<128 ^ (d+1)→rt (vl d a)=true∧t8 (vl d a)=a∧(vl d a=[0]→a=0)
 | 0,a,h=>by
  have:a<128:=by simpa using h
  refine ⟨by simp [vl,rt,this],by simp [vl,t8];omega,fun q=>by simpa [vl] using q⟩
 | d+1,a,h=>by
  unfold vl
  by_cases c:a≥128
  · rw [if_pos c]
    obtain ⟨h1,h2,h3⟩:=xD d (a/128) (by rw [Nat.pow_succ] at h;omega)
    refine ⟨?_,by rw [t8,h2];omega,fun q=>by have:=(List.cons.inj q).1;omega⟩
    generalize vl d (a/128)=l at h1 h2 h3
    match l,h1 with
    | x::p,h1 =>
     simp only [rt,h1]
     have e1:decide (128≤128+a % 128)=true:=decide_eq_true (by omega)
     have e2:decide (128+a % 128<256)=true:=decide_eq_true (by omega)
     rw [e1,e2]
     cases hp:(decide (p=[])&&x==0)
     · rfl
     · simp only [iI,decide_eq_true_eq,beq_iff_eq] at hp
       have:=h3 (by rw [hp.1,hp.2])
       omega
  · rw [if_neg c]
    have:a<128:=by omega
    exact ⟨by simp [rt,this],by simp [t8];omega,fun q=>by simpa using q⟩
theorem EH:∀ (p:List Nat),rt p=true→p≠[0]→1≤t8 p
 | [],h,_=>by simp [rt] at h
 | [b],h,q=>by
  simp only [rt,decide_eq_true_eq] at h
  simp only [t8]
  have:b≠0:=fun e=>q (by rw [e])
  omega
 | b::c::p,h,_=>by
  simp only [rt,iI,decide_eq_true_eq,Bool.not_eq_true'] at h
  have ih:=EH (c::p) h.2.2.1 (fun e=>by
   have e1:c=0:=(List.cons.inj e).1
   have e2:p=[]:=(List.cons.inj e).2
   have:=h.2.2.2
   rw [e1,e2] at this
   simp at this)
  rw [t8]
  omega
theorem BJ:∀ (d:Nat) (p:List Nat),rt p=true→p.length≤d+1→vl d (t8 p)=p
 | _,[],h,_=>by simp [rt] at h
 | 0,[b],h,_=>by
  simp only [rt,decide_eq_true_eq] at h
  simp [vl,t8];omega
 | d+1,[b],h,_=>by
  simp only [rt,decide_eq_true_eq] at h
  have e:t8 [b]=b:=by simp [t8];omega
  rw [e,vl,if_neg (by omega)]
 | 0,b::c::p,_,hl=>by simp at hl
 | d+1,b::c::p,h,hl=>by
  have h0:=h
  simp only [rt,iI,decide_eq_true_eq,Bool.not_eq_true'] at h
  have hp:=EH (c::p) h.2.2.1 (fun e=>by
   have e1:c=0:=(List.cons.inj e).1
   have e2:p=[]:=(List.cons.inj e).2
   have:=h.2.2.2
   rw [e1,e2] at this
   simp at this)
  have ih:=BJ d (c::p) h.2.2.1 (by simp at hl ⊢;omega)
  rw [t8,vl,if_pos (by omega)]
  rw [show (b % 128+128*t8 (c::p))/128=t8 (c::p) by omega,ih]
  congr 1
  omega
theorem E8:∀ (p:List Nat) (b:Nat),t8 (p++[b])=t8 p+128 ^ p.length*(b % 128)
 | [],b=>by simp [t8]
 | a::p,b=>by
  rw [List.cons_append,t8,E8 p b,t8,mB,Nat.pow_succ,Nat.mul_add,Nat.mul_comm (128 ^ p.length) 128,Nat.mul_assoc]
  omega
theorem C9:∀ (p:List Nat),t8 p<128 ^ p.length
 | []=>by simp [t8]
 | a::p=>by
  have:=C9 p
  rw [t8,mB,Nat.pow_succ]
  omega
def nb (s:ByteArray):List Nat:=s.data.toList.map UInt8.toNat
theorem cp (s:ByteArray):(nb s).length=s.size:=by
 unfold nb
 rw [List.length_map,Array.length_toList]
 rfl
theorem LS {s:ByteArray} {x:Nat} (h:x ∈ nb s):x<256:=by
 unfold nb at h
 rw [List.mem_map] at h
 obtain ⟨y,_,rfl⟩:=h
 exact UInt8.toNat_lt y
theorem lA {a b:ByteArray} (h:nb a=nb b):a=b:=by
 unfold nb at h
 have h1:a.data.toList=b.data.toList:=List.map_inj_right (fun x y e=>UInt8.toNat_inj.1 e) |>.1 h
 exact ByteArray.ext (Array.toList_inj.1 h1)
theorem xb {s:ByteArray} {i:Nat} (h:i<s.size):eI s (i:Int)=(((nb s).getD i 0:Nat):Int):=by
 unfold eI nb
 have h1:i<s.data.toList.length:=by rw [Array.length_toList];exact h
 rw [Int.toNat_natCast,List.getD,List.getD,List.getElem?_map,List.getElem?_eq_getElem h1]
 rfl
theorem D1 {l:List Nat} (h:∀ x ∈ l,x<256):nb (bytesOf (l.map Int.ofNat))=l:=by
 unfold nb bytesOf
 simp only [List.map_map,List.toList_toArray]
 induction l with
 | nil=>rfl
 | cons x l ih =>
  rw [List.map_cons,ih (fun y hy=>h y (nX _ hy))]
  have:=h x (li ..)
  congr 1
  show (UInt8.ofNat (Int.toNat (x:Int))).toNat=x
  rw [Int.toNat_natCast]
  simp
  omega
theorem mI (s:ByteArray) (n:Nat):nb (ByteArray.extract s 0 n)=(nb s).take n:=by
 unfold nb
 simp [ByteArray.data_extract,List.map_take]
theorem Li:∀ (d a:Nat),a<128 ^ (d+1)→∀ x ∈ vl d a,x<256
 | 0,a,h,x,hx=>by simp [vl] at hx;subst hx;simp at h;omega
 | d+1,a,h,x,hx=>by
  unfold vl at hx
  split at hx
  · rcases List.mem_cons.1 hx with q | q
    · subst q;omega
    · exact Li d _ (by rw [Nat.pow_succ] at h;omega) x q
  · simp at hx;subst hx;omega
def bL (a:Nat):ByteArray:=bytesOf ((vl 6 a).map Int.ofNat)
theorem uN {a:Nat} (h:a<562949953421312):nb (bL a)=vl 6 a:=D1 (Li 6 a (by rw [show (128:Nat) ^ (6+1)=562949953421312 by decide];exact h))
theorem HU {s:ByteArray} {n:Nat} (h0:1≤n) (h7:n≤7) (hs:n≤s.size):seq (bL (t8 ((nb s).take n))) (ByteArray.extract s 0 n)=rt ((nb s).take n):=by
 have hl:((nb s).take n).length=n:=by rw [List.length_take,cp];omega
 have hd:t8 ((nb s).take n)<562949953421312:=by
  have:=C9 ((nb s).take n)
  rw [hl] at this
  have h2:(128:Nat) ^ n≤128 ^ 7:=Nat.pow_le_pow_right (by decide) h7
  rw [show (128:Nat) ^ 7=562949953421312 by decide] at h2
  omega
 rw [Bool.eq_iff_iff,dS]
 constructor
 · intro e
   have e1:nb (bL (t8 ((nb s).take n)))=(nb s).take n:=by rw [e,mI]
   rw [uN hd] at e1
   have:=(xD 6 (t8 ((nb s).take n)) (by rw [show (128:Nat) ^ (6+1)=562949953421312 by decide];exact hd)).1
   rw [e1] at this
   exact this
 · intro c
   refine lA ?_
   rw [uN hd,mI]
   exact BJ 6 _ c (by omega)
open Go
def iB (n:Int):ByteArray:=⟨(Lib.itoa n).toArray⟩
def tW (u:Nat):List UInt8:=if u=0 then [] else Lib.decDigits u
theorem IZ:tW 0=[]:=rfl
theorem rX {u:Nat} (h:u≠0):tW u=Lib.decDigits u:=if_neg h
theorem Ho {u:Nat} (h:u≠0):tW u=tW (u/10)++[UInt8.ofNat (48+u % 10)]:=by
 rw [rX h,Lib.decDigits]
 by_cases c:u<10
 · rw [dif_pos c,show u/10=0 by omega,IZ,List.nil_append,Nat.mod_eq_of_lt c]
 · rw [dif_neg c,rX (by omega)]
theorem vE (u:Nat):Lib.decDigits u≠[]:=by
 rw [Lib.decDigits]
 split <;> simp
theorem xi:Lib.decDigits 0=[48]:=by
 rw [Lib.decDigits,dif_pos (by omega)]
 rfl
theorem ss {d:Nat} (h:d<10):(UInt8.ofNat (48+d)).toNat=48+d:=by
 simp
 omega
theorem oC (u:Nat):∀ b ∈ Lib.decDigits u,48≤b.toNat∧b.toNat≤57:=by
 induction u using Nat.strongRecOn with
 | _ u ih =>
  intro b hb
  rw [Lib.decDigits] at hb
  split at hb
  · rename_i h
    rw [List.mem_singleton] at hb
    subst hb
    rw [ss h]
    omega
  · rename_i h
    rcases List.mem_append.1 hb with q | q
    · exact ih (u/10) (by omega) b q
    · rw [List.mem_singleton] at q
      subst q
      rw [ss (by omega)]
      omega
def s6:List Nat→Nat→Nat
 | [],a=>a
 | b::l,a=>s6 l (a*10+(b-48))
theorem As:∀ (l m:List Nat) (a:Nat),s6 (l++m) a=s6 m (s6 l a)
 | [],m,a=>rfl
 | b::l,m,a=>As l m _
theorem sb (u:Nat):s6 ((Lib.decDigits u).map UInt8.toNat) 0=u:=by
 induction u using Nat.strongRecOn with
 | _ u ih =>
  rw [Lib.decDigits]
  split
  · rename_i h
    simp only [List.map_cons,List.map_nil,s6,ss h]
    omega
  · rename_i h
    rw [List.map_append,As,ih (u/10) (by omega)]
    simp only [List.map_cons,List.map_nil,s6,ss (show u % 10<10 by omega)]
    omega
theorem ik:∀ (k u:Nat),u<10 ^ (k+1)→(Lib.decDigits u).length≤k+1
 | 0,u,h=>by
  rw [Lib.decDigits,dif_pos (by simpa using h)]
  simp
 | k+1,u,h=>by
  rw [Lib.decDigits]
  split
  · simp
  · have:=ik k (u/10) (by rw [Nat.pow_succ] at h;omega)
    rw [zT]
    show _+1≤_
    omega
theorem rD (n:Int):nb (iB n)=if n<0 then 45::(Lib.decDigits n.natAbs).map UInt8.toNat else (Lib.decDigits n.toNat).map UInt8.toNat:=by
 unfold nb iB Lib.itoa
 split <;> simp
theorem yp {a b:Int} (h:iB a=iB b):a=b:=by
 have h1:=congrArg nb h
 rw [rD,rD] at h1
 have hd:∀ u:Nat,∀ l,(Lib.decDigits u).map UInt8.toNat≠45::l:=fun u l q=>by
  have hm:(45:Nat) ∈ (Lib.decDigits u).map UInt8.toNat:=by rw [q];exact li ..
  obtain ⟨x,hx,e⟩:=List.mem_map.1 hm
  have:=oC u x hx
  omega
 by_cases ca:a<0
 · rw [if_pos ca] at h1
   by_cases cb:b<0
   · rw [if_pos cb] at h1
     have h2:=(List.cons.inj h1).2
     have h3:=congrArg (fun l=>s6 l 0) h2
     simp only [sb] at h3
     omega
   · rw [if_neg cb] at h1
     exact absurd h1.symm (hd _ _)
 · rw [if_neg ca] at h1
   by_cases cb:b<0
   · rw [if_pos cb] at h1
     exact absurd h1 (hd _ _)
   · rw [if_neg cb] at h1
     have h3:=congrArg (fun l=>s6 l 0) h1
     simp only [sb] at h3
     omega
theorem IK {n:Int} (h0 : -1000000000<n) (h1:n<1000000000):(iB n).size≤10:=by
 rw [← cp,rD]
 split
 · have:=ik 8 n.natAbs (by rw [show (10:Nat) ^ (8+1)=1000000000 by decide];omega)
   rw [mB,List.length_map]
   omega
 · have:=ik 8 n.toNat (by rw [show (10:Nat) ^ (8+1)=1000000000 by decide];omega)
   rw [List.length_map]
   omega
theorem EQ (n:Int) (h0 : -9223372036854775808≤n) (h1:n≤9223372036854775807):(iB n).size≤20:=by
 rw [← cp,rD]
 split
 · have:=ik 18 n.natAbs (by rw [show (10:Nat) ^ (18+1)=10000000000000000000 by decide];omega)
   rw [mB,List.length_map]
   omega
 · have:=ik 18 n.toNat (by rw [show (10:Nat) ^ (18+1)=10000000000000000000 by decide];omega)
   rw [List.length_map]
   omega
section
variable {α ρ:Type}
def p8 (ok:Option α→α→Bool):Option α→List α→Bool
 | _,[]=>true
 | p,x::l=>ok p x&&p8 ok (some x) l
theorem qT {L:Nat→Int→Option ρ} (z:α) (l:List α) (ok:Option α→α→Bool) (yes no:Option ρ) (h0:∀ (n:Nat),L (n+1) l.length=yes)
 (h1:∀ (n:Nat) x,0<l.length→l.getD (Int.toNat 0) z=x→L (n+1) 0=bif ok none x then L n 1 else no)
 (h2:∀ (n:Nat) (i:Int) x y,0<i→i<l.length→l.getD i.toNat z=x→l.getD (i-1).toNat z=y→L (n+1) i=bif ok (some y) x then L n (i+1) else no)
 {n:Nat} (hn:l.length<n):L n 0=bif p8 ok none l then yes else no:=by
 have key:∀ (d i n:Nat),l.length=i+d→0<i→d<n→L n (i:Int)=bif p8 ok (some (l.getD (i-1) z)) (l.drop i) then yes else no:=by
  intro d
  induction d with
  | zero =>
   intro i n h h' hn
   obtain ⟨n,rfl⟩:∃ q,n=q+1:=⟨n-1,by omega⟩
   have:i=l.length:=by omega
   subst this
   rw [h0 n,List.drop_length]
   rfl
  | succ d ih =>
   intro i n h h' hn
   obtain ⟨n,rfl⟩:∃ q,n=q+1:=⟨n-1,by omega⟩
   have hl:i<l.length:=by omega
   have e:l.drop i=l.getD i z::l.drop (i+1):=by
    rw [List.drop_eq_getElem_cons hl]
    simp [List.getD,hl]
   have ih:=ih (i+1) n (by omega) (by omega) (by omega)
   rw [h2 n i (l.getD i z) (l.getD (i-1) z) (by omega) (by omega) (by rw [Int.toNat_natCast]) (by rw [show ((i:Int)-1).toNat=i-1 by omega]),e,p8]
   rw [show ((i:Int)+1)=((i+1:Nat):Int) by omega,ih,show i+1-1=i by omega]
   cases ok (some (l.getD (i-1) z)) (l.getD i z) <;> rfl
 obtain ⟨n,rfl⟩:∃ q,n=q+1:=⟨n-1,by omega⟩
 cases l with
 | nil=>exact h0 n
 | cons x l =>
  rw [h1 n x (by simp) rfl,p8]
  have:=key l.length 1 n (by rw [mB];omega) (by omega) (by rw [mB] at hn;omega)
  rw [show ((1:Nat):Int)=1 from rfl] at this
  rw [this]
  cases ok none x <;> rfl
theorem Cf {ok:Option α→α→Bool} {l:List α} {p:Option α} (h:p8 ok p l=true) {x:α} (hx:x ∈ l):∃ q,ok q x=true:=by
 induction l generalizing p with
 | nil=>cases hx
 | cons y l ih =>
  rw [p8,iI] at h
  rcases List.mem_cons.1 hx with e | e
  · subst e;exact ⟨p,h.1⟩
  · exact ih h.2 e
end
theorem oQ {α:Type} {l:List α} {n i:Nat} {z:α} (h:i<n):(l.take n).getD i z=l.getD i z:=by
 simp [List.getD,List.getElem?_take,h]
theorem ro {α:Type} {l:List α} {i:Nat} {z:α} (h:i<l.length):l.take (i+1)=l.take i++[l.getD i z]:=by
 rw [List.take_succ_eq_append_getElem h]
 simp [List.getD,h]
theorem d_ {α:Type} (l:List α) (x:α):(l++[x]).length=l.length+1:=by simp
def dB (l:List UInt8):ByteArray:=⟨l.toArray⟩
theorem JF (a b:List UInt8):dB a++dB b=dB (a++b):=by
 apply ByteArray.ext
 simp [dB,ByteArray.data_append]
theorem CG (l:List UInt8):(dB l).size=l.length:=by simp [dB,ByteArray.size]
theorem vf (s:ByteArray):dB []++s=s:=by
 apply ByteArray.ext
 simp [dB,ByteArray.data_append]
theorem Fw (s:ByteArray):s++dB []=s:=by
 apply ByteArray.ext
 simp [dB,ByteArray.data_append]
theorem qA (a b c:ByteArray):a++b++c=a++(b++c):=by
 apply ByteArray.ext
 simp [ByteArray.data_append]
theorem Kt (n:Int) (h:n≠0):iB n=(bif decide (n<0) then dB [45] else dB [])++dB (tW n.natAbs):=by
 unfold iB Lib.itoa
 by_cases c:n<0
 · rw [if_pos c,aO c,ac,JF,rX (by omega)]
   rfl
 · rw [if_neg c,aQ c,aK,vf,rX (by omega),show n.natAbs=n.toNat by omega]
   rfl
theorem EM {u:Nat} (h:u≤9223372036854775808):(tW u).length≤19:=by
 by_cases c:u=0
 · subst c;decide
 · rw [rX c]
   exact ik 18 u (by rw [show (10:Nat) ^ (18+1)=10000000000000000000 by decide];omega)
theorem ob {n:Int} (h0 : -9223372036854775808≤n) (h1:n≤9223372036854775807):(iB n).size≤20:=EQ n h0 h1
def nY:List Nat→Bool
 | []=>true
 | b::l=>(decide (97≤b∧b≤122)||decide (48≤b∧b≤57))&&nY l
def lB (s:ByteArray):Bool:=nY (nb s)&&decide (1≤s.size∧s.size≤12)
end Go.V
namespace Go.Proofs.YthjppgafienaoaaGreatDoor.G
open Go.V
theorem qa {k:Nat} (hk:2 ^ 50≤k) {n:Int} (h0 : -9223372036854775808≤n) (h1:n≤9223372036854775807):eA.f k n=some (iB n,()):=by
 unfold eA.f eA.t
 by_cases c:n=0
 · subst c
   have:iB 0=(⟨#[48]⟩:ByteArray):=by
    unfold iB Lib.itoa
    rw [if_neg (by decide),show (0:Int).toNat=0 from rfl,xi]
   rw [this]
   rfl
 · rw [show (n==0)=false from mT c,aK]
   have key:=N8 (L:=fun m (s:Int × ByteArray)=>eA.l0 k m s.1 s.2 (decide (n<0))) (R:=fun s=>some ((bif decide (n<0) then dB [45] else dB [])++(dB (tW s.1.natAbs)++s.2),()))
    (fun s=>(tW s.1.natAbs).length) (fun s => -9223372036854775808≤s.1∧s.1≤9223372036854775807∧s.2.size+(tW s.1.natAbs).length≤1000) ?_ k (n,(⟨#[]⟩:ByteArray))
    ⟨h0,h1,by have:=EM (u:=n.natAbs) (by omega);show 0+(tW n.natAbs).length≤1000;omega⟩ (by have:=EM (u:=n.natAbs) (by omega);show (tW n.natAbs).length<k;omega)
   · refine key.trans ?_
     simp only []
     rw [Kt n c,show (⟨#[]⟩:ByteArray)=dB [] from rfl,Fw]
   · intro m s hs ih
     obtain ⟨x,acc⟩:=s
     obtain ⟨g0,g1,g2⟩:=hs
     simp only [] at g0 g1 g2 ih ⊢
     by_cases cx:x=0
     · subst cx
       have hz:tW (Int.natAbs 0)=[]:=rfl
       rw [hz] at g2 ⊢
       rw [vf]
       unfold eA.l0 eA.b0
       rw [show ((0:Int) != 0)=false from rfl,aK]
       cases decide (n<0)
       · rw [aK,aK,vf]
       · rw [ac,ac,gf (by rw [show (⟨#[45]⟩:ByteArray).size=1 from rfl];omega)]
         rfl
     · have hd:=Ho (u:=x.natAbs) (by omega)
       have hb:bytesOf [48+((x.natAbs % 10:Nat):Int)]=dB [UInt8.ofNat (48+x.natAbs % 10)]:=rfl
       have hm:x.natAbs % 10<10:=Nat.mod_lt _ (by decide)
       have hl:(tW x.natAbs).length=(tW (x.natAbs/10)).length+1:=by rw [hd,zT];rfl
       have hr:(dB [UInt8.ofNat (48+x.natAbs % 10)]++acc).size=1+acc.size:=by rw [ByteArray.size_append];rfl
       have fin:∀ y:Int,y.natAbs=x.natAbs/10 → -9223372036854775808≤y→y≤9223372036854775807 →
        eA.l0 k m (aG y) (dB [UInt8.ofNat (48+x.natAbs % 10)]++acc) (decide (n<0))=some ((bif decide (n<0) then dB [45] else dB [])++(dB (tW x.natAbs)++acc),()):=fun y hy q0 q1=>by
        rw [aE q0 q1]
        have:=ih (y,dB [UInt8.ofNat (48+x.natAbs % 10)]++acc) ⟨q0,q1,by simp only [];rw [hr,hy];omega⟩ (by simp only [];rw [hy];omega)
        simp only [] at this
        rw [this,hy,hd,← JF,qA]
       unfold eA.l0 eA.b0
       rw [show (x != 0)=true from bne_iff_ne.2 cx,ac]
       obtain ⟨u,rfl | rfl⟩:=Int.eq_nat_or_neg x
       · have e1:Int.tmod (u:Int) 10=((u % 10:Nat):Int):=rfl
         have e2:Int.tdiv (u:Int) 10=((u/10:Nat):Int):=rfl
         rw [Int.natAbs_natCast] at *
         rw [e1,e2,aQ (by omega),aK,aE (n:=48+((u % 10:Nat):Int)) (by omega) (by omega),pZ (by omega) (by omega),hb,gf (by rw [CG];simp only [List.length_singleton];omega)]
         exact fin _ (by omega) (by omega) (by omega)
       · have e1:Int.tmod (-(u:Int)) 10 = -((u % 10:Nat):Int):=Int.neg_tmod (a:=(u:Int)) (b:=10)
         have e2:Int.tdiv (-(u:Int)) 10 = -((u/10:Nat):Int):=Int.neg_tdiv (u:Int) 10
         rw [Int.natAbs_neg,Int.natAbs_natCast] at *
         rw [e1,e2]
         by_cases cz:u % 10=0
         · rw [aQ (by omega),aK,show (48:Int) + -((u % 10:Nat):Int)=48+((u % 10:Nat):Int) by omega,aE (n:=48+((u % 10:Nat):Int)) (by omega) (by omega),pZ (by omega) (by omega),hb,gf (by rw [CG];simp only [List.length_singleton];omega)]
           exact fin _ (by omega) (by omega) (by omega)
         · rw [aO (by omega),ac,aE (n:=0 - -((u % 10:Nat):Int)) (by omega) (by omega),show (48:Int)+(0 - -((u % 10:Nat):Int))=48+((u % 10:Nat):Int) by omega,aE (n:=48+((u % 10:Nat):Int)) (by omega) (by omega),pZ (by omega) (by omega),hb,gf (by rw [CG];simp only [List.length_singleton];omega)]
           exact fin _ (by omega) (by omega) (by omega)
theorem Ff (k:Nat) {n:Int} (h0 : -9223372036854775808≤n) (h1:n≤9223372036854775807):nq.f k n=some (iB n,()):=by
 unfold nq.f nq.t ny.f
 rw [aO ⟨h0,h1⟩]
 rfl
theorem mq (k:Nat) (a b c:Int):ap.f k a b c=some (decide (b≤a∧a≤c),()):=by
 unfold ap.f ap.t
 by_cases h:a≥b
 · rw [aO h,ac,decide_eq_decide.2 (show (b≤a∧a≤c)↔a≤c from ⟨fun q=>q.2,fun q=>⟨h,q⟩⟩)]
 · rw [aQ h,aK,aQ (fun q=>h q.1)]
theorem eM (k:Nat) (a b c:Int):aR.f k a b c=some (decide (b≤a∧a≤c),()):=by
 unfold aR.f aR.t
 by_cases h:a≥b
 · rw [aO h,ac,decide_eq_decide.2 (show (b≤a∧a≤c)↔a≤c from ⟨fun q=>q.2,fun q=>⟨h,q⟩⟩)]
 · rw [aQ h,aK,aQ (fun q=>h q.1)]
theorem Cb {s:ByteArray} {i:Int} {x:Nat} (h0:0≤i) (h1:i<((nb s).length:Int)) (hx:(nb s).getD i.toNat 0=x):eI s i=(x:Int):=by
 rw [cp] at h1
 have:=xb (s:=s) (i:=i.toNat) (by omega)
 rw [show ((i.toNat:Nat):Int)=i by omega,hx] at this
 exact this
theorem EA {s:ByteArray}:(some ((bif nY (nb s) then decide (1≤(s.size:Int)∧(s.size:Int)≤12) else false),()):Option (Bool × Unit))=some (lB s,()):=by
 unfold lB
 rw [decide_eq_decide.2 (show (1≤(s.size:Int)∧(s.size:Int)≤12)↔(1≤s.size∧s.size≤12) by omega)]
 cases nY (nb s) <;> rfl
theorem p_ {k:Nat} (hk:2 ^ 50≤k) {s:ByteArray} (hs:s.size≤1099511627776):eF.f k s=some (lB s,()):=by
 unfold eF.f eF.t
 have hn:=cp s
 refine (fa (L:=fun n i (_:Unit)=>eF.l0 k n s i) (R:=fun r _=>some ((bif nY r then decide (1≤(s.size:Int)∧(s.size:Int)≤12) else false),())) 0 (nb s) (fun _ _=>True) (fun n _ _=>?_) (fun n i _ x rest h0 h1 hx hr hp ih=>?_) (n:=k) (s:=()) (by omega) trivial).trans EA
 · simp only [hn]
   simp (disch:=omega) only [eF.l0,eF.b0,aQ,aK,eM k,aZ,nY,ac]
 · have hb:=Cb h0 h1 hx
   have ih:=ih () trivial
   simp only [hn] at *
   simp (disch:=omega) only [eF.l0,eF.b0,aO h1,ac,aI,hb,aE,ih,nY]
   by_cases c1:97≤x
   · rw [aO (show (x:Int)≥97 by omega),ac]
     by_cases c2:x≤122
     · rw [aO (show (x:Int)≤122 by omega),ac,aO (show 97≤x∧x≤122 from ⟨c1,c2⟩)]
       rfl
     · rw [aQ (show ¬ (x:Int)≤122 by omega),aK,aQ (show ¬ (97≤x∧x≤122) by omega),aO (show (x:Int)≥48 by omega),ac,aQ (show ¬ (x:Int)≤57 by omega),aQ (show ¬ (48≤x∧x≤57) by omega)]
       rfl
   · rw [aQ (show ¬ (x:Int)≥97 by omega),aK,aQ (show ¬ (97≤x∧x≤122) by omega)]
     by_cases c3:48≤x
     · rw [aO (show (x:Int)≥48 by omega),ac]
       by_cases c4:x≤57
       · rw [aO (show (x:Int)≤57 by omega),aO (show 48≤x∧x≤57 from ⟨c3,c4⟩)]
         rfl
       · rw [aQ (show ¬ (x:Int)≤57 by omega),aQ (show ¬ (48≤x∧x≤57) by omega)]
         rfl
     · rw [aQ (show ¬ (x:Int)≥48 by omega),aK,aQ (show ¬ (48≤x∧x≤57) by omega)]
       rfl
theorem wO {k:Nat} (hk:2 ^ 50≤k) {s:ByteArray} (hs:s.size≤1099511627776):eE.f k s=some (lB s,()):=by
 unfold eE.f eE.t
 have hn:=cp s
 refine (fa (L:=fun n i (_:Unit)=>eE.l0 k n s i) (R:=fun r _=>some ((bif nY r then decide (1≤(s.size:Int)∧(s.size:Int)≤12) else false),())) 0 (nb s) (fun _ _=>True) (fun n _ _=>?_) (fun n i _ x rest h0 h1 hx hr hp ih=>?_) (n:=k) (s:=()) (by omega) trivial).trans EA
 · simp only [hn]
   simp (disch:=omega) only [eE.l0,eE.b0,aQ,aK,mq k,aZ,nY,ac]
 · have hb:=Cb h0 h1 hx
   have ih:=ih () trivial
   simp only [hn] at *
   simp (disch:=omega) only [eE.l0,eE.b0,aO h1,ac,aI,hb,aE,ih,nY]
   by_cases c1:97≤x
   · rw [aO (show (x:Int)≥97 by omega),ac]
     by_cases c2:x≤122
     · rw [aO (show (x:Int)≤122 by omega),aO (show 97≤x∧x≤122 from ⟨c1,c2⟩)]
       rfl
     · rw [aQ (show ¬ (x:Int)≤122 by omega),aQ (show ¬ (97≤x∧x≤122) by omega),aO (show (x:Int)≥48 by omega),aQ (show ¬ (x:Int)≤57 by omega),aQ (show ¬ (48≤x∧x≤57) by omega)]
       rfl
   · rw [aQ (show ¬ (x:Int)≥97 by omega),aK,aQ (show ¬ (97≤x∧x≤122) by omega)]
     by_cases c3:48≤x
     · rw [aO (show (x:Int)≥48 by omega),ac]
       by_cases c4:x≤57
       · rw [aO (show (x:Int)≤57 by omega),aO (show 48≤x∧x≤57 from ⟨c3,c4⟩)]
         rfl
       · rw [aQ (show ¬ (x:Int)≤57 by omega),aQ (show ¬ (48≤x∧x≤57) by omega)]
         rfl
     · rw [aQ (show ¬ (x:Int)≥48 by omega),aK,aQ (show ¬ (48≤x∧x≤57) by omega)]
       rfl
abbrev c8:=List (Ty.d aD)
def dl (l:c8):Nat:=(l.map fun f=>f.2.1.size).sum
def rL (l:c8):Nat:=(l.map fun f=>f.1.size).sum
theorem fp (x:Ty.d aD) (l:c8):dl (x::l)=x.2.1.size+dl l:=by unfold dl;rw [List.map_cons,List.sum_cons]
theorem yq:dl []=0:=rfl
theorem yS (x:Ty.d aD) (l:c8):rL (x::l)=x.1.size+rL l:=by unfold rL;rw [List.map_cons,List.sum_cons]
theorem zW:∀ l m:c8,dl (l++m)=dl l+dl m
 | [],m=>by rw [List.nil_append,yq,Nat.zero_add]
 | x::l,m=>by rw [List.cons_append,fp,fp,zW l m];omega
theorem ua {l:c8} {x:Ty.d aD} (h:x ∈ l):x.2.1.size≤dl l:=by
 induction l with
 | nil=>cases h
 | cons y l ih =>
  rw [fp]
  rcases List.mem_cons.1 h with e | e
  · subst e;omega
  · have:=ih e;omega
theorem py {l:c8} {x:Ty.d aD} (h:x ∈ l):x.1.size≤rL l:=by
 induction l with
 | nil=>cases h
 | cons y l ih =>
  rw [yS]
  rcases List.mem_cons.1 h with e | e
  · subst e;omega
  · have:=ih e;omega
def oA (p:Option (Ty.d aD)) (x:Ty.d aD):Bool :=
 lB x.1&&(decide ((0:Int)≤x.2.2.1∧x.2.2.1≤(x.2.1.size:Int))&&(match p with | none=>true | some y=>oG y.1 x.1))
def iL (d:Ty.d aB):Bool :=
 decide (d.1.length≤130)&&(decide ((0:Int)≤d.2.1∧d.2.1≤(100000:Int))&&(decide ((-1:Int)≤d.2.2.1∧d.2.2.1≤(100000:Int))&&(decide ((dl d.1:Int)≤d.2.1)&&p8 oA none d.1)))
theorem pL {k:Nat} (hk:2 ^ 50≤k) {d:Ty.d aB} (hl:d.1.length≤1099511627776) (hu:dl d.1≤1099511627776):e_.f k d=some ((dl d.1:Int),()):=by
 unfold e_.f e_.t
 refine (fa (L:=fun n i s=>e_.l0 k n s i d.1 d.2.1 d.2.2.1 d.2.2.2.1) (R:=fun r s=>some (s+(dl r:Int),())) (Ty.z aD) d.1 (fun i s=>0≤s∧s+(dl (d.1.drop i.toNat):Int)≤1099511627776) (fun n s hs=>?_) (fun n i s x rest h0 h1 hx hr hp ih=>?_) (n:=k) (s:=0) (by omega) ⟨by omega,by rw [show d.1.drop (Int.toNat 0)=d.1 from rfl];omega⟩).trans (by rw [Int.zero_add])
 · simp (disch:=omega) only [e_.l0,e_.b0,aQ,aK]
   show some (s,())=some (s+((0:Nat):Int),())
   rw [show s+((0:Nat):Int)=s by omega]
 · have hrest:d.1.drop (i+1).toNat=rest:=by
    have:=congrArg (List.drop 1) hr
    rw [List.drop_drop,List.drop_one,List.tail_cons] at this
    rw [show (i+1).toNat=i.toNat+1 by omega]
    exact this
   rw [hr,fp] at hp
   have ih:=ih (s+(x.2.1.size:Int)) ⟨by omega,by rw [hrest];omega⟩
   simp (disch:=omega) only [e_.l0,e_.b0,aO h1,ac,aI,hx,aE,ih]
   rw [show s+(x.2.1.size:Int)+(dl rest:Int)=s+((x.2.1.size+dl rest:Nat):Int) by omega]
   show _=some (s+((dl (x::rest):Nat):Int),())
   rw [fp]
theorem il {k:Nat} (hk:2 ^ 50≤k) {d:Ty.d aB} (hu:dl d.1≤1099511627776) (hn:rL d.1≤1099511627776):bM.f k d=some (iL d,()):=by
 unfold bM.f bM.t iL
 by_cases c:d.1.length > 130
 · rw [aO (by omega),ac,aQ (by omega),Bool.false_and]
 · rw [aQ (by omega),aK,aO (by omega),Bool.true_and,eM,aZ]
   cases decide ((0:Int)≤d.2.1∧d.2.1≤(100000:Int)) with
   | false=>rfl
   | true =>
    rw [fC,aK,eM,aZ,Bool.true_and]
    cases decide ((-1:Int)≤d.2.2.1∧d.2.2.1≤(100000:Int)) with
    | false=>rfl
    | true =>
     rw [fC,aK,pL hk (by omega) hu,aZ,Bool.true_and]
     simp only []
     by_cases cu:(dl d.1:Int) > d.2.1
     · rw [aO cu,ac,aQ (by omega),Bool.false_and]
     · rw [aQ cu,aK,aO (by omega),Bool.true_and]
       refine (qT (L:=fun n i=>bM.l0 k n i d.1 d.2.1 d.2.2.1 d.2.2.2.1) (Ty.z aD) d.1 oA (some (true,())) (some (false,())) (fun n=>?_) (fun n x h hx=>?_) (fun n i x y h0 h1 hx hy=>?_) (n:=k) (by omega)).trans (by cases p8 oA none d.1 <;> rfl)
       · simp (disch:=omega) only [bM.l0,bM.b0,aQ,aK]
       · have hm:x ∈ d.1:=by rw [← hx];exact iE (by omega)
         have hs:=py hm
         simp (disch:=omega) only [bM.l0,bM.b0,aO (show (0:Int)<(d.1.length:Int) by omega),ac,aI,hx,p_ hk,eM k,aZ,aQ (show ¬ (0:Int) > 0 by omega),aK,aE,oA]
         cases lB x.1 <;> cases decide ((0:Int)≤x.2.2.1∧x.2.2.1≤(x.2.1.size:Int)) <;> rfl
       · have hm:x ∈ d.1:=by rw [← hx];exact iE (by omega)
         have hs:=py hm
         simp (disch:=omega) only [bM.l0,bM.b0,aO h1,ac,aI,hx,hy,p_ hk,eM k,aZ,aO (show i > 0 by omega),aK,aE,oA,nI]
         cases lB x.1 <;> cases decide ((0:Int)≤x.2.2.1∧x.2.2.1≤(x.2.1.size:Int)) <;> cases oG y.1 x.1 <;> rfl
theorem AL {l:c8} {i:Nat} {x:Ty.d aD} (h:i<l.length) (hx:l.getD i (Ty.z aD)=x):dl (l.take (i+1))=dl (l.take i)+x.2.1.size:=by
 rw [List.take_add_one,zW]
 congr 1
 simp only [List.getD,List.getElem?_eq_getElem h,Option.getD_some] at hx
 rw [List.getElem?_eq_getElem h,hx]
 show dl [x]=_
 rw [fp,yq,Nat.add_zero]
theorem v_ (l:c8) (i:Nat):dl (l.take i)≤dl l:=by
 have:=zW (l.take i) (l.drop i)
 rw [List.take_append_drop] at this
 omega
theorem wC {k:Nat} (hk:2 ^ 50≤k) {d:Ty.d aB} (hu:dl d.1≤1099511627776) (hn:rL d.1≤1099511627776):ay.f k d=some (iL d,()):=by
 unfold ay.f ay.t iL
 by_cases c:d.1.length > 130
 · rw [aO (by omega),ac,aQ (by omega),Bool.false_and]
 · rw [aQ (by omega),aK,aO (by omega),Bool.true_and,mq,aZ]
   cases decide ((0:Int)≤d.2.1∧d.2.1≤(100000:Int)) with
   | false=>rfl
   | true =>
    rw [fC,aK,mq,aZ,Bool.true_and]
    cases decide ((-1:Int)≤d.2.2.1∧d.2.2.1≤(100000:Int)) with
    | false=>rfl
    | true =>
     rw [fC,aK,Bool.true_and]
     refine (qT (L:=fun n i=>ay.l0 k n (dl (d.1.take i.toNat):Int) d.1 d.1.length i d.1 d.2.1 d.2.2.1 d.2.2.2.1) (Ty.z aD) d.1 oA (some (decide ((dl d.1:Int)≤d.2.1),())) (some (false,())) (fun n=>?_) (fun n x h hx=>?_) (fun n i x y h0 h1 hx hy=>?_) (n:=k) (by omega)).trans
      (by cases p8 oA none d.1 <;> cases decide ((dl d.1:Int)≤d.2.1) <;> rfl)
     · rw [Int.toNat_natCast,List.take_length]
       simp (disch:=omega) only [ay.l0,ay.b0,aQ,aK]
     · have hm:x ∈ d.1:=by rw [← hx];exact iE (by omega)
       have hs:=py hm
       have ht:=AL (l:=d.1) (i:=0) h hx
       have hle:=v_ d.1 0
       have hz:=ua hm
       rw [show Int.toNat 1=0+1 from rfl,ht]
       simp only [show Int.toNat 0=0 from rfl] at hx ⊢
       simp (disch:=omega) only [ay.l0,ay.b0,aO (show (0:Int)<(d.1.length:Int) by omega),ac,aI,show Int.toNat 0=0 from rfl,hx,wO hk,mq k,aZ,aQ (show ¬ (0:Int) > 0 by omega),aK,aE,oA]
       rw [show (dl (d.1.take 0):Int)+(x.2.1.size:Int)=((dl (d.1.take 0)+x.2.1.size:Nat):Int) by omega]
       cases lB x.1 <;> cases decide ((0:Int)≤x.2.2.1∧x.2.2.1≤(x.2.1.size:Int)) <;> rfl
     · have hm:x ∈ d.1:=by rw [← hx];exact iE (by omega)
       have hs:=py hm
       have ht:=AL (l:=d.1) (i:=i.toNat) (by omega) hx
       have hle:=v_ d.1 i.toNat
       have hz:=ua hm
       rw [show Int.toNat (i+1)=i.toNat+1 by omega,ht]
       simp (disch:=omega) only [ay.l0,ay.b0,aO h1,ac,aI,hx,hy,wO hk,mq k,aZ,aO (show i > 0 by omega),aK,aE,oA]
       rw [show (dl (d.1.take i.toNat):Int)+(x.2.1.size:Int)=((dl (d.1.take i.toNat)+x.2.1.size:Nat):Int) by omega]
       cases lB x.1 <;> cases decide ((0:Int)≤x.2.2.1∧x.2.2.1≤(x.2.1.size:Int)) <;> cases oG y.1 x.1 <;> rfl
def lr:c8→ByteArray→Int→Int
 | [],_,_ => -1
 | f::l,s,i=>bif seq f.1 s then i else lr l s (i+1)
def bw:c8→ByteArray→Option (Ty.d aD)
 | [],_=>none
 | f::l,s=>bif seq f.1 s then some f else bw l s
theorem uB:∀ (l:c8) (s:ByteArray) (i:Int),(bw l s=none∧lr l s i = -1)∨(∃ f,bw l s=some f∧i≤lr l s i∧lr l s i<i+(l.length:Int)∧l.getD (lr l s i-i).toNat (Ty.z aD)=f∧f ∈ l)
 | [],s,i => .inl ⟨rfl,rfl⟩
 | f::l,s,i=>by
  unfold lr bw
  cases c:seq f.1 s with
  | true=>exact .inr ⟨f,rfl,Int.le_refl _,by rw [ac,mB];omega,by rw [ac,show (i-i).toNat=0 by omega];rfl,li ..⟩
  | false =>
   rw [aK,aK]
   rcases uB l s (i+1) with h | ⟨g,h1,h2,h3,h4,h5⟩
   · exact .inl h
   · refine .inr ⟨g,h1,by omega,by rw [mB];omega,?_,nX _ h5⟩
     rw [show (lr l s (i+1)-i).toNat=(lr l s (i+1)-(i+1)).toNat+1 by omega]
     exact h4
theorem ia {k:Nat} (hk:2 ^ 50≤k) {d:Ty.d aB} (hl:d.1.length≤1099511627776) (s:ByteArray):bJ.f k d s=some (lr d.1 s 0,()):=by
 unfold bJ.f bJ.t
 refine fa (L:=fun n i (_:Int)=>bJ.l0 k n s i d.1 d.2.1 d.2.2.1 d.2.2.2.1) (R:=fun r j=>some (lr r s j,())) (Ty.z aD) d.1 (fun i j=>j=i) (fun n j hj=>?_) (fun n i j x rest h0 h1 hx hr hp ih=>?_) (n:=k) (s:=0) (by omega) rfl
 · simp (disch:=omega) only [bJ.l0,bJ.b0,aQ,aK,lr]
 · have ih:=ih (i+1) rfl
   subst hp
   simp (disch:=omega) only [bJ.l0,bJ.b0,aO h1,ac,aI,hx,aE,ih,lr]
   cases seq x.1 s <;> rfl
theorem Dy {k:Nat} (hk:2 ^ 50≤k) {d:Ty.d aB} (hl:d.1.length≤1099511627776) (s:ByteArray):bN.f k d s=some (lr d.1 s 0,()):=by
 unfold bN.f bN.t
 refine fa (L:=fun n i (_:Int)=>bN.l0 k n s d.1 d.1.length i) (R:=fun r j=>some (lr r s j,())) (Ty.z aD) d.1 (fun i j=>j=i) (fun n j hj=>?_) (fun n i j x rest h0 h1 hx hr hp ih=>?_) (n:=k) (s:=0) (by omega) rfl
 · simp (disch:=omega) only [bN.l0,bN.b0,aQ,aK,lr]
 · have ih:=ih (i+1) rfl
   subst hp
   simp (disch:=omega) only [bN.l0,bN.b0,aO h1,ac,aI,hx,aE,ih,lr]
   cases seq x.1 s <;> rfl
def ah (d:Ty.d aB) (s:ByteArray):ByteArray × Bool :=
 bif iL d then (match bw d.1 s with | none=>(⟨#[]⟩,false) | some f=>(f.2.1,true)) else (⟨#[]⟩,false)
theorem iM (d:Ty.d aB) (s:ByteArray):(ah d s).1.size≤dl d.1:=by
 unfold ah
 cases iL d with
 | false=>exact Nat.zero_le _
 | true =>
  rw [ac]
  rcases uB d.1 s 0 with h | ⟨f,h1,_,_,_,h5⟩
  · rw [h.1];exact Nat.zero_le _
  · rw [h1];exact ua h5
theorem iA {k:Nat} (hk:2 ^ 50≤k) {d:Ty.d aB} (hl:d.1.length≤1099511627776) (hu:dl d.1≤1099511627776) (hn:rL d.1≤1099511627776) (s:ByteArray) :
 bp.f k d s=some ((ah d s).1,((ah d s).2,())):=by
 unfold bp.f bp.t ah
 rw [il hk hu hn,aZ]
 cases iL d with
 | false=>rfl
 | true =>
  rw [ia hk hl]
  simp only [aZ,fC,aK,ac]
  rcases uB d.1 s 0 with h | ⟨f,h1,h2,h3,h4,h5⟩
  · rw [h.1,h.2];rfl
  · rw [h1,aQ (by omega),aK,aI h2 (by omega)]
    rw [Int.sub_zero] at h4
    rw [h4]
theorem sL {k:Nat} (hk:2 ^ 50≤k) {d:Ty.d aB} (hl:d.1.length≤1099511627776) (hu:dl d.1≤1099511627776) (hn:rL d.1≤1099511627776) (s:ByteArray) :
 bZ.f k d s=some ((ah d s).1,((ah d s).2,())):=by
 unfold bZ.f bZ.t ah
 rw [Dy hk hl,aZ]
 simp only []
 rcases uB d.1 s 0 with h | ⟨f,h1,h2,h3,h4,h5⟩
 · rw [h.1,h.2]
   cases iL d <;> rfl
 · rw [h1,aQ (by omega),aK,wC hk hu hn,aZ]
   cases iL d with
   | false=>rfl
   | true =>
    simp only [fC,aK,ac]
    rw [aI h2 (by omega)]
    rw [Int.sub_zero] at h4
    rw [h4]
def aA (p:ByteArray) (n:Int):ByteArray:=bif decide ((1:Int)≤n∧n≤100000) then p++iB n else ⟨#[]⟩
def aH:ByteArray:=⟨#[115,101,103]⟩
theorem bd {k:Nat} (hk:2 ^ 50≤k) (n:Int):aW.f k n=some (aA aH n,()):=by
 unfold aW.f aW.t aA
 rw [eM,aZ]
 by_cases c:(1:Int)≤n∧n≤100000
 · have hz:=ob (n:=n) (by omega) (by omega)
   rw [aO c]
   simp only [fC,aK,ac]
   rw [qa hk (by omega) (by omega),aZ,gf (by show 3+(iB n).size≤_;omega)]
   rfl
 · rw [aQ c]
   rfl
theorem BK (k:Nat) {p:ByteArray} (hp:p.size≤1000) (n:Int):jh.f k p n=some (aA p n,()):=by
 unfold jh.f jh.t aA
 rw [mq,aZ]
 by_cases c:(1:Int)≤n∧n≤100000
 · have hz:=ob (n:=n) (by omega) (by omega)
   rw [aO c]
   simp only [fC,aK,ac]
   rw [Ff k (by omega) (by omega),aZ,gf (by show p.size+(iB n).size≤_;omega)]
 · rw [aQ c]
   rfl
theorem oz (k:Nat) (n:Int):ak.f k n=some (aA aH n,()):=by
 unfold ak.f ak.t
 rw [BK k (by decide) n]
 rfl
structure An (d:Ty.d aB):Prop where
 l:d.1.length≤1073741824
 u:dl d.1≤1073741824
 n:rL d.1≤1073741824
end Go.Proofs.YthjppgafienaoaaGreatDoor.G
namespace Go.V
theorem yG:∀ a b c:List UInt8,Op.bytesLess a b=true→Op.bytesLess b c=true→Op.bytesLess a c=true
 | a,b,[],_,h2=>by cases b <;> simp [Op.bytesLess] at h2
 | [],b,z::c,_,_=>by simp [Op.bytesLess]
 | x::a,[],z::c,h1,_=>by simp [Op.bytesLess] at h1
 | x::a,y::b,z::c,h1,h2=>by
  simp only [Op.bytesLess] at h1 h2 ⊢
  have ih:=yG a b c
  simp only [Bool.or_eq_true,iI,decide_eq_true_eq,beq_iff_eq] at h1 h2 ⊢
  rcases h1 with g1 | ⟨rfl,g1⟩
  · rcases h2 with g2 | ⟨rfl,g2⟩
    · exact Or.inl (UInt8.lt_trans g1 g2)
    · exact Or.inl g1
  · rcases h2 with g2 | ⟨rfl,g2⟩
    · exact Or.inl g2
    · exact Or.inr ⟨rfl,ih g1 g2⟩
theorem qJ {a b c:ByteArray} (h1:oG a b=true) (h2:oG b c=true):oG a c=true:=yG _ _ _ h1 h2
theorem qn (a:ByteArray):oG a a=false:=by
 have:=nI a a
 rw [bO] at this
 cases h:oG a a with
 | false=>rfl
 | true=>rw [h] at this;cases this
def d5 (K:List ByteArray):Prop:=K.Pairwise (fun a b=>oG a b=true)
end Go.V
namespace Go.Proofs.YthjppgafienaoaaGreatDoor.G
open Go.V
def nR:c8→Ty.d aD→c8
 | [],f=>[f]
 | g::l,f=>bif oG f.1 g.1 then f::g::l else g::nR l f
def lX:c8→ByteArray→c8
 | [],_=>[]
 | g::l,s=>bif seq g.1 s then l else g::lX l s
def mz (h:Ty.d aD→Ty.d aD):c8→ByteArray→c8
 | [],_=>[]
 | g::l,s=>bif seq g.1 s then h g::l else g::mz h l s
def kM (d:Ty.d aB):Ty.d aB × Int :=
 bif !iL d then (d,5) else bif d.2.2.2.1 then ((d.1,(d.2.1,(d.2.2.1,(true,())))),1) else bif (d.2.2.1==0) then ((d.1,(d.2.1,(d.2.2.1,(true,())))),1) else
 bif decide ((d.2.2.1:Int) > 0) then ((d.1,(d.2.1,(aG (d.2.2.1-1),d.2.2.2))),0) else (d,0)
def jk (d:Ty.d aB) (g:c8→Int→c8 × Int):Ty.d aB × Int :=
 bif (kM d).2 != 0 then kM d else (((g d.1 d.2.1).1,(kM d).1.2),(g d.1 d.2.1).2)
def vR (s:ByteArray) (l:c8) (c:Int):c8 × Int :=
 bif !lB s then (l,5) else bif (bw l s).isSome then (l,4) else bif decide ((l.length:Int)≥130) then (l,2) else (nR l (s,(ByteArray.empty,(0,()))),0)
def Bi (s t:ByteArray) (l:c8) (c:Int):c8 × Int :=
 bif (bw l s).isNone then (l,3) else bif decide ((t.size:Int) > aG (c-(dl l:Int))) then (l,2) else (mz (fun f=>(f.1,(f.2.1++t,f.2.2))) l s,0)
def wx (s:ByteArray) (l:c8) (c:Int):c8 × Int :=
 bif (bw l s).isNone then (l,3) else (mz (fun f=>(f.1,(f.2.1,((f.2.1.size:Int),f.2.2.2)))) l s,0)
def Dk (a b:ByteArray) (l:c8) (c:Int):c8 × Int :=
 bif !lB b then (l,5) else match bw l a with
 | none=>(l,3)
 | some f=>bif seq a b then (l,0) else (nR (lX (lX l a) b) (b,f.2),0)
def DJ (s:ByteArray) (l:c8) (c:Int):c8 × Int :=
 bif (bw l s).isNone then (l,3) else (lX l s,0)
def I2 (s:ByteArray) (n:Int) (l:c8) (c:Int):c8 × Int :=
 match bw l s with
 | none=>(l,3)
 | some f=>bif !decide (0≤n∧n≤(f.2.1.size:Int)) then (l,5) else (mz (fun f=>(f.1,(ByteArray.extract f.2.1 0 n.toNat,((if n<f.2.2.1 then n else f.2.2.1),f.2.2.2)))) l s,0)
def yx (d:Ty.d aB) (s:ByteArray):=jk d (vR s)
def j_ (d:Ty.d aB) (s t:ByteArray):=jk d (Bi s t)
def gT (d:Ty.d aB) (s:ByteArray):=jk d (wx s)
def DL (d:Ty.d aB) (a b:ByteArray):=jk d (Dk a b)
def wu (d:Ty.d aB) (s:ByteArray):=jk d (DJ s)
def xe (d:Ty.d aB) (s:ByteArray) (n:Int):=jk d (I2 s n)
theorem rA (d:Ty.d aB):(kM d).1.1=d.1:=by
 unfold kM
 cases iL d <;> cases d.2.2.2.1 <;> cases d.2.2.1==0 <;> cases decide ((d.2.2.1:Int) > 0) <;> rfl
theorem Im (d:Ty.d aB):(kM d).1.2.1=d.2.1:=by
 unfold kM
 cases iL d <;> cases d.2.2.2.1 <;> cases d.2.2.1==0 <;> cases decide ((d.2.2.1:Int) > 0) <;> rfl
theorem kt:∀ (l:c8) (s:ByteArray) (j:Int),(bw l s=none∧lr l s j = -1∧lX l s=l∧∀ h,mz h l s=l) ∨
 (∃ n:Nat,n<l.length∧lr l s j=j+n∧bw l s=some (l.getD n (Ty.z aD))∧l.take n++l.drop (n+1)=lX l s∧(l.getD n (Ty.z aD)).1=s∧(∀ h,l.set n (h (l.getD n (Ty.z aD)))=mz h l s))
 | [],s,j => .inl ⟨rfl,rfl,rfl,fun _=>rfl⟩
 | g::l,s,j=>by
  unfold lr bw lX mz
  cases c:seq g.1 s with
  | true =>
   refine .inr ⟨0,by rw [mB];omega,?_,rfl,rfl,dS.1 c,fun h=>rfl⟩
   show j=j+((0:Nat):Int)
   omega
  | false =>
   simp only [aK]
   rcases kt l s (j+1) with ⟨h1,h2,h3,h4⟩ | ⟨n,h1,h2,h3,h4,h5,h6⟩
   · exact .inl ⟨h1,h2,by rw [h3],fun h=>by rw [h4]⟩
   · refine .inr ⟨n+1,by rw [mB];omega,by rw [h2];omega,h3,?_,h5,fun h=>?_⟩
     · rw [List.take_succ_cons,List.drop_succ_cons,List.cons_append,h4]
     · show g::l.set n (h (l.getD n (Ty.z aD)))=_
       rw [h6]
def FO (f:Ty.d aD):Prop:=lB f.1=true∧LE.le (α:=Int) 0 f.2.2.1∧LE.le (α:=Int) f.2.2.1 f.2.1.size
def mw (l:c8):List ByteArray:=l.map (·.1)
theorem E0:∀ (l:c8) (p:Option (Ty.d aD)),p8 oA p l=true↔((∀ f ∈ l,FO f)∧d5 (mw l)∧(∀ q,p=some q→∀ f ∈ l,oG q.1 f.1=true))
 | [],p=>by
  constructor
  · intro _
    exact ⟨fun f h=>(by cases h),List.Pairwise.nil,fun q _ f h=>(by cases h)⟩
  · intro _;rfl
 | g::l,p=>by
  have ih:=E0 l (some g)
  unfold p8
  rw [iI,ih]
  have hf:oA p g=true↔(FO g∧(∀ q,p=some q→oG q.1 g.1=true)):=by
   unfold oA FO
   rw [iI,iI,decide_eq_true_eq]
   cases p with
   | none=>exact ⟨fun h=>⟨⟨h.1,h.2.1⟩,fun q hq=>(by cases hq)⟩,fun h=>⟨h.1.1,h.1.2,rfl⟩⟩
   | some q=>exact ⟨fun h=>⟨⟨h.1,h.2.1⟩,fun q' hq=>(by cases hq;exact h.2.2)⟩,fun h=>⟨h.1.1,h.1.2,h.2 q rfl⟩⟩
  rw [hf]
  constructor
  · rintro ⟨⟨h1,h2⟩,h3,h4,h5⟩
    refine ⟨fun f hf=>?_,?_,fun q hq f hf=>?_⟩
    · rcases List.mem_cons.1 hf with e | e
      · rw [e];exact h1
      · exact h3 f e
    · unfold d5 mw
      rw [List.map_cons,List.pairwise_cons]
      refine ⟨fun x hx=>?_,h4⟩
      obtain ⟨f,hf,rfl⟩:=List.mem_map.1 hx
      exact h5 g rfl f hf
    · rcases List.mem_cons.1 hf with e | e
      · rw [e];exact h2 q hq
      · exact qJ (h2 q hq) (h5 g rfl f e)
  · rintro ⟨h1,h2,h3⟩
    unfold d5 mw at h2
    rw [List.map_cons,List.pairwise_cons] at h2
    refine ⟨⟨h1 g (li ..),fun q hq=>h3 q hq g (li ..)⟩,fun f hf=>h1 f (nX _ hf),h2.2,fun q hq f hf=>?_⟩
    cases hq
    exact h2.1 f.1 (List.mem_map.2 ⟨f,hf,rfl⟩)
structure DR (d:Ty.d aB):Prop where
 len:d.1.length≤130
 cap0:LE.le (α:=Int) 0 d.2.1
 cap1:LE.le (α:=Int) d.2.1 100000
 fu0:LE.le (α:=Int) (-1) d.2.2.1
 fu1:LE.le (α:=Int) d.2.2.1 100000
 use:LE.le (α:=Int) (dl d.1) d.2.1
 all:∀ f ∈ d.1,FO f
 keys:d5 (mw d.1)
theorem jR {d:Ty.d aB}:iL d=true↔DR d:=by
 unfold iL
 rw [iI,iI,iI,iI,decide_eq_true_eq,decide_eq_true_eq,decide_eq_true_eq,decide_eq_true_eq,E0]
 constructor
 · rintro ⟨h1,⟨h2,h3⟩,⟨h4,h5⟩,h6,h7,h8,_⟩
   exact ⟨h1,h2,h3,h4,h5,h6,h7,h8⟩
 · intro h
   exact ⟨h.len,⟨h.cap0,h.cap1⟩,⟨h.fu0,h.fu1⟩,h.use,h.all,h.keys,fun q hq=>(by cases hq)⟩
theorem F1 {s:ByteArray} (h:lB s=true):1≤s.size∧s.size≤12:=by
 unfold lB at h
 rw [iI,decide_eq_true_eq] at h
 exact h.2
theorem Ei:∀ l:c8,(∀ f ∈ l,FO f)→rL l≤12*l.length
 | [],_=>Nat.le_refl _
 | f::l,h=>by
  have:=Ei l fun g hg=>h g (nX _ hg)
  have:=(F1 (h f (li ..)).1).2
  rw [yS,mB]
  omega
theorem DR.sz {d:Ty.d aB} (h:DR d):An d:=by
 have h1:=h.len
 have h2:=h.use
 have h3:=h.cap1
 have h4:=Ei d.1 h.all
 exact ⟨by omega,by omega,by omega⟩
theorem Cc {l:c8} {f x:Ty.d aD}:x ∈ nR l f↔x=f∨x ∈ l:=by
 induction l with
 | nil=>simp [nR]
 | cons g l ih =>
  unfold nR
  cases oG f.1 g.1
  · simp only [aK,List.mem_cons,ih]
    exact ⟨fun h=>h.elim (fun q => .inr (.inl q)) (fun q=>q.elim .inl (fun q => .inr (.inr q))),fun h=>h.elim (fun q => .inr (.inl q)) (fun q=>q.elim .inl (fun q => .inr (.inr q)))⟩
  · simp only [ac,List.mem_cons]
theorem qk:∀ (l:c8) (s:ByteArray),(lX l s).Sublist l
 | [],s=>List.Sublist.slnil
 | g::l,s=>by
  unfold lX
  cases seq g.1 s
  · exact (qk l s).cons_cons g
  · exact (List.Sublist.refl l).cons g
theorem HB {h:Ty.d aD→Ty.d aD} (hh:∀ f,(h f).1=f.1):∀ (l:c8) (s:ByteArray),mw (mz h l s)=mw l
 | [],s=>rfl
 | g::l,s=>by
  unfold mz
  cases seq g.1 s
  · show g.1::mw (mz h l s)=g.1::mw l
    rw [HB hh l s]
  · show (h g).1::mw l=g.1::mw l
    rw [hh]
theorem xq {h:Ty.d aD→Ty.d aD} (hh:∀ f,(h f).1=f.1) {l:c8} {s:ByteArray} (hk:d5 (mw l)):d5 (mw (mz h l s)):=by
 rw [HB hh]
 exact hk
theorem xI {h:Ty.d aD→Ty.d aD}:∀ {l:c8} {s:ByteArray} {x:Ty.d aD},x ∈ mz h l s→x ∈ l∨∃ f,bw l s=some f∧x=h f
 | [],s,x,hx => .inl hx
 | g::l,s,x,hx=>by
  unfold mz at hx
  unfold bw
  cases c:seq g.1 s with
  | true =>
   rw [c,ac] at hx
   rcases List.mem_cons.1 hx with e | e
   · exact .inr ⟨g,rfl,e⟩
   · exact .inl (nX _ e)
  | false =>
   rw [c,aK] at hx
   rcases List.mem_cons.1 hx with e | e
   · exact .inl (by rw [e];exact li ..)
   · rcases xI e with q | ⟨f,q1,q2⟩
     · exact .inl (nX _ q)
     · exact .inr ⟨f,q1,q2⟩
theorem vB {h:Ty.d aD→Ty.d aD}:∀ {l:c8} {s:ByteArray} {f:Ty.d aD},bw l s=some f→dl (mz h l s)+f.2.1.size=dl l+(h f).2.1.size
 | [],s,f,hf=>by cases hf
 | g::l,s,f,hf=>by
  unfold bw at hf
  unfold mz
  cases c:seq g.1 s with
  | true =>
   rw [c] at hf
   cases hf
   rw [ac,fp,fp]
   omega
  | false =>
   rw [c] at hf
   have:=vB (h:=h) hf
   rw [aK,fp,fp]
   omega
theorem xp:∀ (l:c8) (f:Ty.d aD),dl (nR l f)=dl l+f.2.1.size
 | [],f=>by unfold nR;rw [fp,yq,Nat.add_comm]
 | g::l,f=>by
  unfold nR
  cases oG f.1 g.1
  · rw [aK,fp,fp,xp l f];omega
  · rw [ac,fp,fp];omega
theorem zj:∀ {l:c8} {s:ByteArray} {f:Ty.d aD},bw l s=some f→dl (lX l s)+f.2.1.size=dl l
 | [],s,f,hf=>by cases hf
 | g::l,s,f,hf=>by
  unfold bw at hf
  unfold lX
  cases c:seq g.1 s with
  | true=>rw [c] at hf;cases hf;rw [ac,fp];omega
  | false =>
   rw [c] at hf
   have:=zj hf
   rw [aK,fp,fp]
   omega
theorem wT (l:c8) (s:ByteArray):dl (lX l s)≤dl l:=by
 cases h:bw l s with
 | some f=>have:=zj h;omega
 | none =>
  rcases kt l s 0 with ⟨_,_,h3,_⟩ | ⟨n,_,_,h3,_⟩
  · rw [h3];exact Nat.le_refl _
  · rw [h] at h3;cases h3
theorem Bo:∀ (l:c8) (f:Ty.d aD),(nR l f).length=l.length+1
 | [],f=>rfl
 | g::l,f=>by
  unfold nR
  cases oG f.1 g.1
  · rw [aK,mB,Bo l f,mB]
  · rw [ac,mB,mB]
theorem xH (h:Ty.d aD→Ty.d aD):∀ (l:c8) (s:ByteArray),(mz h l s).length=l.length
 | [],s=>rfl
 | g::l,s=>by
  unfold mz
  cases seq g.1 s
  · rw [aK,mB,xH h l s,mB]
  · rw [ac,mB,mB]
theorem pA:∀ {l:c8} {s:ByteArray} {f:Ty.d aD},bw l s=some f→f ∈ l∧f.1=s
 | [],s,f,h=>by cases h
 | g::l,s,f,h=>by
  unfold bw at h
  cases c:seq g.1 s with
  | true=>rw [c] at h;cases h;exact ⟨li ..,dS.1 c⟩
  | false =>
   rw [c] at h
   exact ⟨nX _ (pA h).1,(pA h).2⟩
theorem rx:∀ {l:c8} {s:ByteArray},bw l s=none↔∀ f ∈ l,f.1≠s
 | [],s=>⟨fun _ f h=>(by cases h),fun _=>rfl⟩
 | g::l,s=>by
  unfold bw
  cases c:seq g.1 s with
  | true =>
   constructor
   · intro h;cases h
   · intro h;exact absurd (dS.1 c) (h g (li ..))
  | false =>
   rw [aK,rx]
   constructor
   · intro h f hf
     rcases List.mem_cons.1 hf with e | e
     · rw [e];intro q;rw [Cx q] at c;cases c
     · exact h f e
   · intro h f hf;exact h f (nX _ hf)
theorem ya {f:Ty.d aD}:∀ {l:c8},d5 (mw l)→(∀ g ∈ l,g.1≠f.1)→d5 (mw (nR l f))
 | [],_,_=>by unfold nR;exact List.pairwise_singleton ..
 | g::l,h,hn=>by
  unfold d5 mw at h
  rw [List.map_cons,List.pairwise_cons] at h
  unfold nR
  cases c:oG f.1 g.1 with
  | true =>
   rw [ac]
   unfold d5 mw
   rw [List.map_cons,List.pairwise_cons]
   refine ⟨fun x hx=>?_,by rw [List.map_cons,List.pairwise_cons];exact h⟩
   rw [List.map_cons] at hx
   rcases List.mem_cons.1 hx with e | e
   · rw [e];exact c
   · exact qJ c (h.1 x e)
  | false =>
   rw [aK]
   have ih:=ya (f:=f) (l:=l) h.2 fun g' hg=>hn g' (nX _ hg)
   unfold d5 mw
   rw [List.map_cons,List.pairwise_cons]
   refine ⟨fun x hx=>?_,ih⟩
   obtain ⟨y,hy,rfl⟩:=List.mem_map.1 hx
   rcases Cc.1 hy with e | e
   · rw [e]
     have ht:=nI g.1 f.1
     rw [c,ky (hn g (li ..))] at ht
     cases q:oG g.1 f.1 with
     | true=>rfl
     | false=>rw [q] at ht;cases ht
   · exact h.1 y.1 (List.mem_map.2 ⟨y,e,rfl⟩)
theorem uW {l m:c8} (h:m.Sublist l) (hk:d5 (mw l)):d5 (mw m):=List.Pairwise.sublist (h.map _) hk
theorem KG {l:c8} (hk:d5 (mw l)) {s:ByteArray} {f:Ty.d aD} (h:bw l s=some f):bw (lX l s) s=none:=by
 induction l with
 | nil=>cases h
 | cons g l ih =>
  unfold d5 mw at hk
  rw [List.map_cons,List.pairwise_cons] at hk
  unfold bw at h
  unfold lX
  cases c:seq g.1 s with
  | true =>
   rw [ac,rx]
   intro x hx e
   have:=hk.1 x.1 (List.mem_map.2 ⟨x,hx,rfl⟩)
   rw [e,dS.1 c,qn] at this
   cases this
  | false =>
   rw [c] at h
   rw [aK]
   unfold bw
   rw [c,aK]
   exact ih hk.2 h
theorem E6 {l:c8} (hk:d5 (mw l)) (s:ByteArray):bw (lX l s) s=none:=by
 cases h:bw l s with
 | some f=>exact KG hk h
 | none =>
  rcases kt l s 0 with ⟨h1,_,h3,_⟩ | ⟨n,_,_,h3,_⟩
  · rw [h3];exact h1
  · rw [h] at h3;cases h3
def GR (g:c8→Int→c8 × Int):Prop:=∀ l c,l.length≤130→(0:Int)≤c→c≤100000→(dl l:Int)≤c→(∀ f ∈ l,FO f)→d5 (mw l) →
 (g l c).1.length≤130∧(dl (g l c).1:Int)≤c∧(∀ f ∈ (g l c).1,FO f)∧d5 (mw (g l c).1)
theorem LF {d:Ty.d aB} (h:DR d):DR (kM d).1:=by
 have hd:=jR.2 h
 have g0:=h.fu0
 have g1:=h.fu1
 unfold kM
 rw [hd]
 cases c1:d.2.2.2.1 with
 | true=>exact ⟨h.len,h.cap0,h.cap1,h.fu0,h.fu1,h.use,h.all,h.keys⟩
 | false =>
  cases c2:d.2.2.1==0 with
  | true=>exact ⟨h.len,h.cap0,h.cap1,h.fu0,h.fu1,h.use,h.all,h.keys⟩
  | false =>
   by_cases c3:(d.2.2.1:Int) > 0
   · have e:∀ x:Int,x > 0→x≤100000 → -1≤aG (x-1)∧aG (x-1)≤100000:=fun x q1 q2=>by
      rw [aE (by omega) (by omega)]
      omega
     have e:=e d.2.2.1 c3 g1
     rw [aO c3]
     exact ⟨h.len,h.cap0,h.cap1,e.1,e.2,h.use,h.all,h.keys⟩
   · rw [aQ c3]
     exact h
theorem su {g:c8→Int→c8 × Int} (hg:GR g) {d:Ty.d aB} (h:DR d):DR (jk d g).1:=by
 have hb:=LF h
 unfold jk
 cases c:(kM d).2 != 0 with
 | true=>exact hb
 | false =>
  have hk:(kM d).1.2.1=d.2.1:=Im d
  obtain ⟨g1,g2,g3,g4⟩:=hg d.1 d.2.1 h.len h.cap0 h.cap1 h.use h.all h.keys
  exact ⟨g1,hb.cap0,hb.cap1,hb.fu0,hb.fu1,by show (dl (g d.1 d.2.1).1:Int)≤(kM d).1.2.1;rw [hk];exact g2,g3,g4⟩
theorem M4 (s:ByteArray):GR (vR s):=by
 intro l c h1 h2 h3 h4 h5 h6
 unfold vR
 cases hn:lB s with
 | false=>exact ⟨h1,h4,h5,h6⟩
 | true =>
  cases hs:(bw l s).isSome with
  | true=>exact ⟨h1,h4,h5,h6⟩
  | false =>
   by_cases hl:(l.length:Int)≥130
   · rw [aO hl];exact ⟨h1,h4,h5,h6⟩
   · rw [aQ hl]
     have hnone:bw l s=none:=by
      cases q:bw l s with
      | none=>rfl
      | some f=>rw [q] at hs;cases hs
     refine ⟨by show (nR l _).length≤130;rw [Bo];omega,by show (dl (nR l _):Int)≤c;rw [xp];exact h4,fun f hf=>?_,ya h6 (rx.1 hnone)⟩
     rcases Cc.1 hf with e | e
     · rw [e];exact ⟨hn,Int.le_refl _,by show (0:Int)≤_;omega⟩
     · exact h5 f e
theorem M_ (s t:ByteArray):GR (Bi s t):=by
 intro l c h1 h2 h3 h4 h5 h6
 unfold Bi
 cases hs:bw l s with
 | none=>exact ⟨h1,h4,h5,h6⟩
 | some f =>
  simp only [Option.isNone_some,aK]
  rw [aE (by omega) (by omega)]
  by_cases ht:(t.size:Int) > c-(dl l:Int)
  · rw [aO ht];exact ⟨h1,h4,h5,h6⟩
  · rw [aQ ht]
    have hu:=vB (h:=fun f=>(f.1,(f.2.1++t,f.2.2))) hs
    have hz:(f.2.1++t).size=f.2.1.size+t.size:=ByteArray.size_append ..
    simp only [hz] at hu
    refine ⟨by show (mz _ l s).length≤130;rw [xH];exact h1,by show (dl (mz _ l s):Int)≤c;omega,fun x hx=>?_,xq (by intro f;rfl) h6⟩
    rcases xI hx with q | ⟨y,q1,q2⟩
    · exact h5 x q
    · obtain ⟨a,b,c'⟩:=h5 y (pA q1).1
      rw [q2]
      refine ⟨a,b,?_⟩
      show LE.le (α:=Int) y.2.2.1 ((y.2.1++t).size:Int)
      have:(y.2.1++t).size=y.2.1.size+t.size:=ByteArray.size_append ..
      omega
theorem Lv (s:ByteArray):GR (wx s):=by
 intro l c h1 h2 h3 h4 h5 h6
 unfold wx
 cases hs:bw l s with
 | none=>exact ⟨h1,h4,h5,h6⟩
 | some f =>
  simp only [Option.isNone_some,aK]
  have hu:=vB (h:=fun f=>(f.1,(f.2.1,((f.2.1.size:Int),f.2.2.2)))) hs
  refine ⟨by show (mz _ l s).length≤130;rw [xH];exact h1,by show (dl (mz _ l s):Int)≤c;simp only [] at hu;omega,fun x hx=>?_,xq (by intro f;rfl) h6⟩
  rcases xI hx with q | ⟨y,q1,q2⟩
  · exact h5 x q
  · obtain ⟨a,b,c'⟩:=h5 y (pA q1).1
    rw [q2]
    exact ⟨a,by show (0:Int)≤(y.2.1.size:Int);omega,Int.le_refl _⟩
theorem M8 (s:ByteArray):GR (DJ s):=by
 intro l c h1 h2 h3 h4 h5 h6
 unfold DJ
 cases hs:bw l s with
 | none=>exact ⟨h1,h4,h5,h6⟩
 | some f =>
  have hd:=qk l s
  have hu:=wT l s
  exact ⟨Nat.le_trans hd.length_le h1,by show (dl (lX l s):Int)≤c;omega,fun x hx=>h5 x (hd.subset hx),uW hd h6⟩
theorem sn (s:ByteArray) {n:Nat} (h:n≤s.size):(ByteArray.extract s 0 n).size=n:=by
 rw [ByteArray.size_extract]
 omega
theorem Mm (s:ByteArray) (n:Int):GR (I2 s n):=by
 intro l c h1 h2 h3 h4 h5 h6
 unfold I2
 cases hs:bw l s with
 | none=>exact ⟨h1,h4,h5,h6⟩
 | some f =>
  simp only []
  by_cases hn:0≤n∧n≤(f.2.1.size:Int)
  · rw [aO hn]
    have hu:=vB (h:=fun f=>(f.1,(ByteArray.extract f.2.1 0 n.toNat,((if n<f.2.2.1 then n else f.2.2.1),f.2.2.2)))) hs
    have hz:=sn f.2.1 (n:=n.toNat) (by omega)
    simp only [hz] at hu
    refine ⟨by show (mz _ l s).length≤130;rw [xH];exact h1,by show (dl (mz _ l s):Int)≤c;omega,fun x hx=>?_,xq (by intro f;rfl) h6⟩
    rcases xI hx with q | ⟨y,q1,q2⟩
    · exact h5 x q
    · rw [hs] at q1
      cases q1
      obtain ⟨a,b,c'⟩:=h5 f (pA hs).1
      rw [q2]
      refine ⟨a,?_,?_⟩
      · show (0:Int)≤if n<f.2.2.1 then n else f.2.2.1
        split <;> omega
      · show (if n<f.2.2.1 then n else f.2.2.1)≤((ByteArray.extract f.2.1 0 n.toNat).size:Int)
        rw [hz]
        split <;> omega
  · rw [aQ hn];exact ⟨h1,h4,h5,h6⟩
theorem MR (a b:ByteArray):GR (Dk a b):=by
 intro l c h1 h2 h3 h4 h5 h6
 unfold Dk
 cases hn:lB b with
 | false=>exact ⟨h1,h4,h5,h6⟩
 | true =>
  simp only [fC,aK]
  cases hs:bw l a with
  | none=>exact ⟨h1,h4,h5,h6⟩
  | some f =>
   simp only []
   cases seq a b with
   | true=>exact ⟨h1,h4,h5,h6⟩
   | false =>
    simp only [aK]
    have hd:=qk l a
    have hd2:=qk (lX l a) b
    have hu:=zj hs
    have hu2:=wT (lX l a) b
    have hk2:=uW (hd2.trans hd) h6
    have hl:=kt l a 0
    have hlen:(lX l a).length+1=l.length:=by
     rcases kt l a 0 with ⟨q,_⟩ | ⟨n,q1,_,_,q4,_⟩
     · rw [hs] at q;cases q
     · rw [← q4,zT,List.length_take,List.length_drop];omega
    have hlen2:=hd2.length_le
    refine ⟨by rw [Bo];omega,by rw [xp];show ((dl (lX (lX l a) b)+f.2.1.size:Nat):Int)≤c;omega,fun x hx=>?_,ya hk2 (rx.1 (E6 (uW hd h6) b))⟩
    rcases Cc.1 hx with e | e
    · rw [e]
      exact ⟨hn,(h5 f (pA hs).1).2.1,(h5 f (pA hs).1).2.2⟩
    · exact h5 x ((hd2.trans hd).subset e)
theorem C6 {d:Ty.d aB} (h:DR d) (s:ByteArray):DR (yx d s).1:=su (M4 s) h
theorem ql {d:Ty.d aB} (h:DR d) (s t:ByteArray):DR (j_ d s t).1:=su (M_ s t) h
theorem nP {d:Ty.d aB} (h:DR d) (s:ByteArray):DR (gT d s).1:=su (Lv s) h
theorem M7 {d:Ty.d aB} (h:DR d) (a b:ByteArray):DR (DL d a b).1:=su (MR a b) h
theorem Cg {d:Ty.d aB} (h:DR d) (s:ByteArray):DR (wu d s).1:=su (M8 s) h
theorem zL {d:Ty.d aB} (h:DR d) (s:ByteArray) (n:Int):DR (xe d s n).1:=su (Mm s n) h
theorem kJ (k:Nat) {d:Ty.d aB} (hd:An d):cK.f k d=some (d,()):=by
 have hl:=hd.l
 unfold cK.f cK.t
 rw [cO (by omega) (by decide),List.nil_append]
theorem lW {k:Nat} (hk:2 ^ 50≤k) {d:Ty.d aB} (hd:An d):dI.f k d=some ((kM d).1,((kM d).2,())):=by
 have hu:=hd.u
 have hn:=hd.n
 unfold dI.f dI.t kM
 rw [kJ k hd,aZ,il hk (by omega) (by omega),aZ]
 cases iL d <;> cases d.2.2.2.1 <;> cases d.2.2.1==0 <;> cases decide ((d.2.2.1:Int) > 0) <;> rfl
theorem pY {k:Nat} (hk:2 ^ 50≤k) {l:c8} (f:Ty.d aD) (hl:l.length≤1073741824):dR.f k l f=some (nR l f,()):=by
 unfold dR.f dR.t
 refine (fa (L:=fun n i (s:Bool × c8)=>dR.l0 k n l s.1 i f.1 f.2.1 f.2.2.1 s.2) (R:=fun r s=>some (s.2++(bif s.1 then r else nR r f),())) (Ty.z aD) l (fun i s=>(s.2.length:Int)≤i+1∧(s.1=false→(s.2.length:Int)≤i)) (fun n s hs=>?_) (fun n i s x rest h0 h1 hx hr hs ih=>?_) (n:=k) (s:=(false,[])) (by omega) ⟨by simp,by simp⟩).trans ?_
 · obtain ⟨b,o⟩:=s
   simp only [] at hs
   simp only [dR.l0,dR.b0]
   rw [aQ (by omega),aK]
   cases b with
   | true=>simp only [fC,aK,ac,List.append_nil]
   | false=>simp only [u6,aK,ac];rw [cO (by omega) (by decide)];rfl
 · obtain ⟨b,o⟩:=s
   simp only [] at hs ih
   simp only [dR.l0,dR.b0]
   rw [aO h1,ac]
   have hlo:(o++[(f.1,(f.2.1,(f.2.2.1,())))]).length=o.length+1:=by simp
   obtain ⟨hs1,hs2⟩:=hs
   simp (disch:=first | omega | decide) only [aI,hx,cO,aE,nI,Bool.not_not]
   cases b with
   | true =>
    have i1:=ih (true,o++[x]) ⟨by simp only [d_];omega,fun q=>(by cases q)⟩
    simp only [] at i1
    simp only [fC,aK,ac]
    rw [i1]
    simp only [ac,rP,List.singleton_append]
   | false =>
    have hs2:=hs2 rfl
    have i2:=ih (false,o++[x]) ⟨by simp only [d_];omega,fun _=>by simp only [d_];omega⟩
    simp only [] at i2
    simp only [u6,ac,aK]
    unfold nR
    cases c:oG f.1 x.1 with
    | true =>
     simp only [ac]
     have i3:=ih (true,(o++[(f.1,(f.2.1,(f.2.2.1,())))])++[x]) ⟨by simp only [d_];omega,fun q=>(by cases q)⟩
     simp only [] at i3
     rw [i3]
     simp only [ac,rP,List.singleton_append]
     rfl
    | false =>
     simp only [aK]
     rw [i2]
     simp only [aK,rP,List.singleton_append]
 · simp only [aK,List.nil_append]
theorem oe (k:Nat) {l:c8} {n:Nat} (hn:n<l.length) (hl:l.length≤1073741824):fN.f k l (n:Int)=some (l.take n++l.drop (n+1),()):=by
 unfold fN.f fN.t
 have e:aG ((n:Int)+1)=((n+1:Nat):Int):=by rw [aE (by omega) (by omega)];omega
 rw [e,rH,rH,dX (by omega) (by omega),dX (by omega) (by omega),cO (by rw [List.length_take];omega) (by decide),cO (by rw [zT,List.length_take,List.length_drop];simp only [List.length_nil];omega) (by decide),List.nil_append]
theorem oN (d:Ty.d aB):∃ b2,(kM d).1=(d.1,b2):=⟨(kM d).1.2,Prod.ext (rA d) rfl⟩
theorem tO {k:Nat} (hk:2 ^ 50≤k) {d:Ty.d aB} (hd:An d) {s:ByteArray} (hs:s.size≤1099511627776):iH.f k d s=some ((yx d s).1,((yx d s).2,())):=by
 have hl:=hd.l
 unfold iH.f iH.t yx jk
 rw [lW hk hd,aZ]
 obtain ⟨b2,hb⟩:=oN d
 simp only [hb]
 cases c:(kM d).2 != 0 with
 | true=>rw [ac,ac,hb]
 | false =>
  rw [aK,aK,p_ hk hs,aZ]
  unfold vR
  cases lB s with
  | false=>rfl
  | true =>
   simp only [fC,aK]
   rw [ia hk (by omega),aZ]
   rcases kt d.1 s 0 with ⟨h1,h2,_⟩ | ⟨n,h1,h2,h3,_⟩
   · rw [h1,h2]
     simp only [Option.isSome_none,aK]
     rw [aQ (by decide),aK]
     by_cases cl:(d.1.length:Int)≥130
     · rw [aO cl];rfl
     · rw [aQ cl,aK,aK,pY hk _ (by omega),aZ]
   · rw [h2,h3]
     simp only [Option.isSome_some,ac]
     rw [aO (by omega),ac]
theorem qc {k:Nat} (hk:2 ^ 50≤k) {d:Ty.d aB} (hd:An d) (s:ByteArray) {t:ByteArray} (ht:t.size≤1099511627776):e9.f k d s t=some ((j_ d s t).1,((j_ d s t).2,())):=by
 have hl:=hd.l
 have hu:=hd.u
 unfold e9.f e9.t j_ jk
 rw [lW hk hd,aZ]
 obtain ⟨b2,hb⟩:=oN d
 simp only [hb]
 cases c:(kM d).2 != 0 with
 | true=>rw [ac,ac,hb]
 | false =>
  rw [aK,aK,ia hk (by omega),aZ]
  unfold Bi
  rcases kt d.1 s 0 with ⟨h1,h2,_⟩ | ⟨n,h1,h2,h3,_,_,h6⟩
  · rw [h1,h2]
    simp only [Option.isNone_none,ac]
    rw [aO (by decide),ac]
  · rw [Int.zero_add] at h2
    rw [h2,h3]
    simp only [Option.isNone_some,aK]
    rw [aQ (by omega),aK,pL hk (by omega) (by omega),aZ]
    simp only []
    cases decide ((t.size:Int) > aG (d.2.1-(dl d.1:Int))) with
    | true=>rfl
    | false =>
     have hm:=ua (pA h3).1
     rw [aK,aK,rH,aI (by omega) (by omega),aI (by omega) (by omega),gf (Nat.le_trans (Nat.add_le_add (Nat.le_trans hm hu) ht) (by decide)),← h6]
theorem nC {k:Nat} (hk:2 ^ 50≤k) {d:Ty.d aB} (hd:An d) (s:ByteArray):eW.f k d s=some ((gT d s).1,((gT d s).2,())):=by
 have hl:=hd.l
 unfold eW.f eW.t gT jk
 rw [lW hk hd,aZ]
 obtain ⟨b2,hb⟩:=oN d
 simp only [hb]
 cases c:(kM d).2 != 0 with
 | true=>rw [ac,ac,hb]
 | false =>
  rw [aK,aK,ia hk (by omega),aZ]
  unfold wx
  rcases kt d.1 s 0 with ⟨h1,h2,_⟩ | ⟨n,h1,h2,h3,_,_,h6⟩
  · rw [h1,h2]
    simp only [Option.isNone_none,ac]
    rw [aO (by decide),ac]
  · rw [Int.zero_add] at h2
    rw [h2,h3]
    simp only [Option.isNone_some,aK]
    rw [aQ (by omega),aK,rH,aI (by omega) (by omega),aI (by omega) (by omega),← h6]
theorem FN {k:Nat} (hk:2 ^ 50≤k) {d:Ty.d aB} (hd:An d) (a:ByteArray) {b:ByteArray} (hs:b.size≤1099511627776):kF.f k d a b=some ((DL d a b).1,((DL d a b).2,())):=by
 have hl:=hd.l
 unfold kF.f kF.t DL jk
 rw [lW hk hd,aZ]
 obtain ⟨b2,hb⟩:=oN d
 simp only [hb]
 cases c:(kM d).2 != 0 with
 | true=>rw [ac,ac,hb]
 | false =>
  rw [aK,aK,p_ hk hs,aZ]
  unfold Dk
  cases lB b with
  | false=>rfl
  | true =>
   simp only [fC,aK]
   rw [ia hk (by omega),aZ]
   rcases kt d.1 a 0 with ⟨h1,h2,_⟩ | ⟨n,h1,h2,h3,h4,_,_⟩
   · rw [h1,h2]
     simp only []
     rw [aO (by decide),ac]
   · rw [Int.zero_add] at h2
     rw [h2,h3]
     simp only []
     rw [aQ (by omega),aK]
     cases seq a b with
     | true=>rfl
     | false =>
      have hd1:=(qk d.1 a).length_le
      rw [aK,aK,rH,aI (by omega) (by omega),oe k h1 (by omega),aZ,h4]
      simp only []
      rw [ia hk (d:=(lX d.1 a,b2)) (by show (lX d.1 a).length≤_;omega),aZ]
      simp only []
      rcases kt (lX d.1 a) b 0 with ⟨g1,g2,g3,_⟩ | ⟨m,g1,g2,g3,g4,_⟩
      · rw [g2,g3,aQ (by decide),aK,pY hk _ (by omega),aZ]
      · rw [Int.zero_add] at g2
        have hd2:=(qk (lX d.1 a) b).length_le
        rw [g2,aO (by omega),ac,oe k g1 (by omega),aZ,g4]
        simp only []
        rw [pY hk _ (by omega),aZ]
theorem tc {k:Nat} (hk:2 ^ 50≤k) {d:Ty.d aB} (hd:An d) (s:ByteArray):fI.f k d s=some ((wu d s).1,((wu d s).2,())):=by
 have hl:=hd.l
 unfold fI.f fI.t wu jk
 rw [lW hk hd,aZ]
 obtain ⟨b2,hb⟩:=oN d
 simp only [hb]
 cases c:(kM d).2 != 0 with
 | true=>rw [ac,ac,hb]
 | false =>
  rw [aK,aK,ia hk (by omega),aZ]
  unfold DJ
  rcases kt d.1 s 0 with ⟨h1,h2,_⟩ | ⟨n,h1,h2,h3,h4,_⟩
  · rw [h1,h2]
    simp only [Option.isNone_none,ac]
    rw [aO (by decide),ac]
  · rw [Int.zero_add] at h2
    rw [h2,h3]
    simp only [Option.isNone_some,aK]
    rw [aQ (by omega),aK,oe k h1 (by omega),aZ,h4]
theorem uV {l:c8} {n:Nat} (h:n<l.length) (x z:Ty.d aD):(l.set n x).getD n z=x:=by
 simp [List.getD,h]
theorem L_ {l:c8} {n:Nat} (x y:Ty.d aD):(l.set n x).set n y=l.set n y:=by simp
theorem FI {k:Nat} (hk:2 ^ 50≤k) {d:Ty.d aB} (hd:An d) (s:ByteArray) (m:Int):ij.f k d s m=some ((xe d s m).1,((xe d s m).2,())):=by
 have hl:=hd.l
 unfold ij.f ij.t xe jk
 rw [lW hk hd,aZ]
 obtain ⟨b2,hb⟩:=oN d
 simp only [hb]
 cases c:(kM d).2 != 0 with
 | true=>rw [ac,ac,hb]
 | false =>
  rw [aK,aK,ia hk (by omega),aZ]
  unfold I2
  rcases kt d.1 s 0 with ⟨h1,h2,_⟩ | ⟨n,h1,h2,h3,_,_,h6⟩
  · rw [h1,h2]
    simp only []
    rw [aO (by decide),ac]
  · rw [Int.zero_add] at h2
    rw [h2,h3]
    simp only []
    rw [aQ (by omega),aK,rH,aI (by omega) (by omega),eM,aZ]
    by_cases hm:0≤m∧m≤((d.1.getD n (Ty.z aD)).2.1.size:Int)
    · rw [aO hm]
      simp only [fC,aK]
      rw [aI (by omega) (by omega),dX hm.1 hm.2,aI (by omega) (by omega),aI (by omega) (by omega),aI (by omega) (by rw [List.length_set];omega),uV h1,L_,← h6]
    · rw [aQ hm]
      rfl
theorem vF (k:Nat) {d:Ty.d aB} (hl:d.1.length≤1073741824):bD.f k d=some (d,()):=by
 unfold bD.f bD.t
 rw [cO (by omega) (by decide)]
def o6 (lim:Int) (p:Option Int) (x:Int):Bool:=decide ((1:Int)≤x∧x≤lim)&&(match p with | none=>true | some y=>decide (y<x))
def dL (v:Ty.d bo):Bool:=decide ((1:Int)≤v.1∧v.1≤100000)&&(decide ((1:Int)≤(v.2.1.length:Int)∧(v.2.1.length:Int)≤60)&&p8 (o6 (aG (v.1-1))) none v.2.1)
theorem sK {k:Nat} (hk:2 ^ 50≤k) (v:Ty.d bo):dU.f k v=some (dL v,()):=by
 unfold dU.f dU.t dL
 rw [eM,aZ]
 cases decide ((1:Int)≤v.1∧v.1≤100000) with
 | false=>rfl
 | true =>
  rw [fC,aK,eM,aZ,Bool.true_and]
  by_cases c:(1:Int)≤(v.2.1.length:Int)∧(v.2.1.length:Int)≤60
  case neg=>rw [aQ c];rfl
  rw [aO c,fC,aK,Bool.true_and]
  refine (qT (L:=fun n i=>dU.l0 k n i v.1 v.2.1) (Ty.z (.int .i64)) v.2.1 (o6 (aG (v.1-1))) (some (true,())) (some (false,())) (fun n=>?_) (fun n x h hx=>?_) (fun n i x y h0 h1 hx hy=>?_) (n:=k) (by omega)).trans (by cases p8 (o6 (aG (v.1-1))) none v.2.1 <;> rfl)
  · simp (disch:=omega) only [dU.l0,dU.b0,aQ,aK]
  · simp (disch:=omega) only [dU.l0,dU.b0,aO (show (0:Int)<(v.2.1.length:Int) by omega),ac,aI,hx,eM k,aZ,aQ (show ¬ (0:Int) > 0 by omega),aK,aE (n:=(0:Int)+1),o6]
    cases decide ((1:Int)≤x∧x≤aG (v.1-1)) <;> rfl
  · simp (disch:=omega) only [dU.l0,dU.b0,aO h1,ac,aI,hx,eM k,aZ,aO (show i > 0 by omega),aK,aE (n:=i+1),aE (n:=i-1),hy,o6]
    cases decide ((1:Int)≤x∧x≤aG (v.1-1)) with
    | false=>rfl
    | true =>
     by_cases q:y<x
     · rw [aO q,aQ (show ¬ x≤y from Int.not_le.2 q)];rfl
     · rw [aQ q,aO (show x≤y from Int.not_lt.1 q)];rfl
theorem ED {k:Nat} (hk:2 ^ 50≤k) {v:Ty.d bo} (hl:v.2.1.length≤1099511627776):dK.f k v=some (dL v,()):=by
 unfold dK.f dK.t dL
 refine (qT (L:=fun n i=>dK.l0 k n v.2.1 v.2.1.length i v.1 v.2.1) (Ty.z (.int .i64)) v.2.1 (o6 (aG (v.1-1))) (some (decide ((1:Int)≤v.1∧v.1≤100000)&&decide ((1:Int)≤(v.2.1.length:Int)∧(v.2.1.length:Int)≤60),())) (some (false,())) (fun n=>?_) (fun n x h hx=>?_) (fun n i x y h0 h1 hx hy=>?_) (n:=k) (by omega)).trans
  (by cases p8 (o6 (aG (v.1-1))) none v.2.1 <;> cases decide ((1:Int)≤v.1∧v.1≤100000) <;> cases decide ((1:Int)≤(v.2.1.length:Int)∧(v.2.1.length:Int)≤60) <;> rfl)
 · simp (disch:=omega) only [dK.l0,dK.b0,aQ,aK,mq k,aZ]
   cases decide ((1:Int)≤v.1∧v.1≤100000) <;> rfl
 · simp (disch:=omega) only [dK.l0,dK.b0,aO (show (0:Int)<(v.2.1.length:Int) by omega),ac,aI,hx,mq k,aZ,aQ (show ¬ (0:Int) > 0 by omega),aK,aE (n:=(0:Int)+1),o6]
   cases decide ((1:Int)≤x∧x≤aG (v.1-1)) <;> rfl
 · simp (disch:=omega) only [dK.l0,dK.b0,aO h1,ac,aI,hx,mq k,aZ,aO (show i > 0 by omega),aK,aE (n:=i+1),aE (n:=i-1),hy,o6]
   cases decide ((1:Int)≤x∧x≤aG (v.1-1)) with
   | false=>rfl
   | true =>
    by_cases q:y<x
    · rw [aO q,aQ (show ¬ y≥x from Int.not_le.2 q)];rfl
    · rw [aQ q,aO (show y≥x from Int.not_lt.1 q)];rfl
end Go.Proofs.YthjppgafienaoaaGreatDoor.G
namespace Go.V
theorem C3 (l:List Int):(bytesOf l).size=l.length:=by simp [bytesOf,ByteArray.size]
theorem Le {n m:Nat} (hn:n<4294967296) (hm:m<4294967296):aG (((BitVec.ofInt (IntKind.bits .i64) (n:Int) ^^^ BitVec.ofInt (IntKind.bits .i64) (m:Int)).toNat:Int))=((n ^^^ m:Nat):Int):=by
 have h:n ^^^ m<2 ^ 32:=Nat.xor_lt_two_pow (by omega) (by omega)
 show aG (((BitVec.ofInt 64 (n:Int) ^^^ BitVec.ofInt 64 (m:Int)).toNat:Int))=_
 rw [BitVec.ofInt_natCast,BitVec.ofInt_natCast,BitVec.toNat_xor,BitVec.toNat_ofNat,BitVec.toNat_ofNat,Nat.mod_eq_of_lt (by omega),Nat.mod_eq_of_lt (by omega)]
 exact aE (by omega) (by omega)
theorem Lj {n m:Nat} (hn:n<4294967296) (hm:m<4294967296):IntKind.wrap .u32 (((BitVec.ofInt (IntKind.bits .u32) (n:Int) ^^^ BitVec.ofInt (IntKind.bits .u32) (m:Int)).toNat:Int))=((n ^^^ m:Nat):Int):=by
 have h:n ^^^ m<2 ^ 32:=Nat.xor_lt_two_pow (by omega) (by omega)
 show IntKind.wrap .u32 (((BitVec.ofInt 32 (n:Int) ^^^ BitVec.ofInt 32 (m:Int)).toNat:Int))=_
 rw [BitVec.ofInt_natCast,BitVec.ofInt_natCast,BitVec.toNat_xor,BitVec.toNat_ofNat,BitVec.toNat_ofNat,Nat.mod_eq_of_lt (by omega),Nat.mod_eq_of_lt (by omega)]
 exact xK (by omega) (by omega)
theorem NZ {n b:Nat} (hn:n<4294967296) (hb:b<256):aG (((BitVec.ofInt (IntKind.bits .i64) ((n*256:Nat):Int) ||| BitVec.ofInt (IntKind.bits .i64) (b:Int)).toNat:Int))=((n*256+b:Nat):Int):=by
 have h:n*256 ||| b=n*256+b:=by
  have:=Nat.shiftLeft_add_eq_or_of_lt (i:=8) (b:=b) (by omega) n
  rw [Nat.shiftLeft_eq,show (2:Nat) ^ 8=256 by decide] at this
  omega
 show aG (((BitVec.ofInt 64 ((n*256:Nat):Int) ||| BitVec.ofInt 64 (b:Int)).toNat:Int))=_
 rw [BitVec.ofInt_natCast,BitVec.ofInt_natCast,BitVec.toNat_or,BitVec.toNat_ofNat,BitVec.toNat_ofNat,Nat.mod_eq_of_lt (by omega),Nat.mod_eq_of_lt (by omega),h]
 exact aE (by omega) (by omega)
theorem N_ {n:Nat} (hn:n<4294967296):IntKind.wrap .u32 (((BitVec.ofInt (IntKind.bits .u32) (n:Int) &&& BitVec.ofInt (IntKind.bits .u32) 1).toNat:Int))=((n % 2:Nat):Int):=by
 show IntKind.wrap .u32 (((BitVec.ofInt 32 (n:Int) &&& BitVec.ofInt 32 ((1:Nat):Int)).toNat:Int))=_
 rw [BitVec.ofInt_natCast,BitVec.ofInt_natCast,BitVec.toNat_and,BitVec.toNat_ofNat,BitVec.toNat_ofNat,Nat.mod_eq_of_lt (by omega),Nat.mod_eq_of_lt (show 1<2 ^ 32 by omega),Nat.and_one_is_mod]
 exact xK (by omega) (by omega)
theorem NB {n:Nat} (hn:n<4294967296):FV .u32 (n:Int)=4294967295-(n:Int):=by
 unfold FV
 show IntKind.wrap .u32 (((BitVec.allOnes 32 ^^^ BitVec.ofInt 32 (n:Int)).toNat:Int))=_
 rw [BitVec.ofInt_natCast,BitVec.allOnes_xor,BitVec.toNat_not,BitVec.toNat_ofNat,Nat.mod_eq_of_lt (by omega)]
 rw [xK (by omega) (by omega)]
 omega
theorem se (s:ByteArray):(⟨#[]⟩:ByteArray)++s=s:=by
 apply ByteArray.ext
 simp [ByteArray.data_append]
theorem ku (s:ByteArray):s++(⟨#[]⟩:ByteArray)=s:=by
 apply ByteArray.ext
 simp [ByteArray.data_append]
theorem bF (a b c:ByteArray):a++b++c=a++(b++c):=by
 apply ByteArray.ext
 simp [ByteArray.data_append]
theorem iF (a b:ByteArray):nb (a++b)=nb a++nb b:=by
 unfold nb
 rw [ByteArray.data_append,Array.toList_append,List.map_append]
theorem tM (s:ByteArray) (i j:Nat):nb (ByteArray.extract s i j)=((nb s).take j).drop i:=by
 unfold nb
 simp [ByteArray.data_extract,List.map_take,List.map_drop]
 rw [List.drop_take]
theorem iR (s:ByteArray) (n:Nat):nb (ByteArray.extract s n s.size)=(nb s).drop n:=by
 rw [tM,List.take_of_length_le (by rw [cp];omega)]
theorem eO (a t:ByteArray):ByteArray.extract (a++t) a.size (a++t).size=t:=lA (by rw [iR,iF,List.drop_left' (cp a)])
theorem Di (a t:ByteArray):ByteArray.extract (a++t) 0 a.size=a:=lA (by rw [tM,iF,List.take_left' (cp a),List.drop_zero])
theorem D5 (s:ByteArray) {n:Nat} (h:n≤s.size):s=ByteArray.extract s 0 n++ByteArray.extract s n s.size:=lA (by rw [iF,iR,mI,List.take_append_drop])
theorem tQ {a b c:ByteArray} (h:a++b=a++c):b=c:=lA (by
 have:=congrArg nb h
 rw [iF,iF] at this
 exact List.append_cancel_left this)
theorem sX {a b c d:ByteArray} (h:a++b=c++d) (hs:a.size=c.size):a=c∧b=d:=by
 have:=congrArg nb h
 rw [iF,iF] at this
 have:=List.append_inj this (by rw [cp,cp,hs])
 exact ⟨lA this.1,lA this.2⟩
def rv:Nat→List Nat→Option (Nat × Nat)
 | 0,_=>none
 | _+1,[]=>none
 | d+1,b::l=>if b≥128 then (match rv d l with | some (a,n)=>if a=0 then none else some (b % 128+128*a,n+1) | none=>none) else some (b,1)
theorem Iz:∀ (d a:Nat) (t:List Nat),a<128 ^ (d+1)→rv (d+1) (vl d a++t)=some (a,(vl d a).length)
 | 0,a,t,h=>by
  have:¬ a≥128:=by simpa using h
  simp [vl,rv,this]
 | d+1,a,t,h=>by
  unfold vl
  by_cases c:a≥128
  · have ih:=Iz d (a/128) t (by rw [Nat.pow_succ] at h;omega)
    rw [if_pos c,List.cons_append,rv,if_pos (by omega),ih]
    simp only []
    rw [if_neg (by omega),mB]
    congr 2
    omega
  · rw [if_neg c,List.cons_append,rv,if_neg c]
    rfl
theorem rC:∀ (d:Nat) (l:List Nat) (a n:Nat),(∀ x ∈ l,x<256)→rv (d+1) l=some (a,n)→l.take n=vl d a∧a<128 ^ (d+1)∧n=(vl d a).length∧n≤l.length∧1≤n∧n≤d+1
 | _,[],a,n,_,h=>by simp [rv] at h
 | 0,b::l,a,n,hb,h=>by
  unfold rv at h
  by_cases c:b≥128
  · simp [c,rv] at h
  · simp [c] at h
    obtain ⟨rfl,rfl⟩:=h
    refine ⟨by simp [vl],by simpa using c,by simp [vl],by simp,by omega,by omega⟩
 | d+1,b::l,a,n,hb,h=>by
  unfold rv at h
  by_cases c:b≥128
  · rw [if_pos c] at h
    cases q:rv (d+1) l with
    | none=>rw [q] at h;simp at h
    | some p =>
     obtain ⟨a',n'⟩:=p
     obtain ⟨h1,h2,h3,h4,h5,h6⟩:=rC d l a' n' (fun x hx=>hb x (nX _ hx)) q
     rw [q] at h
     simp only [] at h
     by_cases z:a'=0
     · simp [z] at h
     · rw [if_neg z] at h
       simp only [Option.some.injEq,Prod.mk.injEq] at h
       obtain ⟨rfl,rfl⟩:=h
       have hb:=hb b (li ..)
       have e1:(b % 128+128*a')/128=a':=by omega
       have e2:128+(b % 128+128*a') % 128=b:=by omega
       have hv:vl (d+1) (b % 128+128*a')=b::vl d a':=by
        rw [vl,if_pos (by omega),e1,e2]
       rw [hv]
       refine ⟨by rw [List.take_succ_cons,h1],by rw [Nat.pow_succ];omega,by rw [mB,h3],by rw [mB];omega,by omega,by omega⟩
  · rw [if_neg c] at h
    simp only [Option.some.injEq,Prod.mk.injEq] at h
    obtain ⟨rfl,rfl⟩:=h
    have hv:vl (d+1) b=[b]:=by rw [vl,if_neg c]
    rw [hv]
    refine ⟨by simp,?_,by simp,by simp,by omega,by omega⟩
    have:(128:Nat) ^ 1≤128 ^ (d+1+1):=Nat.pow_le_pow_right (by decide) (by omega)
    omega
theorem ND {d a:Nat}:vl d a≠[]:=by
 cases d with
 | zero=>simp [vl]
 | succ d=>unfold vl;split <;> simp
theorem KN (l:List Nat) (hb:∀ x ∈ l,x<256) (d n:Nat) (h0:1≤n) (h1:n≤d+1) (h2:n≤l.length):rt (l.take n)=true↔∃ a,rv (d+1) l=some (a,n):=by
 constructor
 · intro h
   have e:=BJ d (l.take n) h (by rw [List.length_take];omega)
   have hd:t8 (l.take n)<128 ^ (d+1):=Nat.lt_of_lt_of_le (C9 _) (Nat.pow_le_pow_right (by decide) (by rw [List.length_take];omega))
   have:=Iz d (t8 (l.take n)) (l.drop n) hd
   rw [e,List.take_append_drop,List.length_take,Nat.min_eq_left h2] at this
   exact ⟨_,this⟩
 · rintro ⟨a,h⟩
   obtain ⟨e1,e2,_⟩:=rC d l a n hb h
   rw [e1]
   exact (xD d a e2).1
theorem Mi {l:List Nat} (hb:∀ x ∈ l,x<256) {d a n:Nat} (h:rv (d+1) l=some (a,n)):a=t8 (l.take n):=by
 obtain ⟨e1,e2,_⟩:=rC d l a n hb h
 rw [e1]
 exact (xD d a e2).2.1.symm
theorem ta (s:ByteArray):∀ x ∈ nb s,x<256:=fun _ h=>LS h
theorem ax (a:Nat):1≤(bL a).size∧(bL a).size≤7:=by
 unfold bL
 rw [C3,List.length_map]
 have h:∀ d a,(vl d a).length≤d+1:=by
  intro d
  induction d with
  | zero=>intro a;simp [vl]
  | succ d ih=>intro a;unfold vl;split <;> simp;have:=ih (a/128);omega
 have h2:=h 6 a
 have h3:(vl 6 a).length≠0:=fun q=>ND (List.length_eq_zero_iff.1 q)
 omega
theorem s9 {a:Nat} (h:a<562949953421312):(vl 6 a).length=(bL a).size:=by rw [← uN h,cp]
theorem rr {a:Nat} (h:a<562949953421312) (t:ByteArray):rv 7 (nb (bL a++t))=some (a,(bL a).size):=by
 rw [iF,uN h,← s9 h]
 exact Iz 6 a _ (by rw [show (128:Nat) ^ (6+1)=562949953421312 by decide];exact h)
theorem KI {s:ByteArray} {a n:Nat} (h:rv 7 (nb s)=some (a,n)):∃ t,a<562949953421312∧n=(bL a).size∧s=bL a++t:=by
 obtain ⟨h1,h2,h3,h4,h5,h6⟩:=rC 6 (nb s) a n (ta s) h
 rw [show (128:Nat) ^ (6+1)=562949953421312 by decide] at h2
 refine ⟨ByteArray.extract s n s.size,h2,by rw [h3,s9 h2],lA ?_⟩
 rw [iF,uN h2,iR,← h1,List.take_append_drop]
theorem nw (s:ByteArray):(∃ a t,a<562949953421312∧s=bL a++t)∨rv 7 (nb s)=none:=by
 cases h:rv 7 (nb s) with
 | none=>exact .inr rfl
 | some p =>
  obtain ⟨a,n⟩:=p
  obtain ⟨t,h1,_,h3⟩:=KI h
  exact .inl ⟨a,t,h1,h3⟩
theorem y6 {a b:Nat} {s t:ByteArray} (ha:a<562949953421312) (hb:b<562949953421312) (h:bL a++s=bL b++t):a=b∧s=t:=by
 have h1:=rr ha s
 rw [h,rr hb t] at h1
 simp only [Option.some.injEq,Prod.mk.injEq] at h1
 obtain ⟨rfl,_⟩:=h1
 exact ⟨rfl,tQ h⟩
def G2:Option (Nat × Nat)→Int × Int × Unit
 | some p=>((p.1:Int),((p.2:Int),()))
 | none=>(0,(0,()))
end Go.V
namespace Go.Proofs.YthjppgafienaoaaGreatDoor.G
open Go.V
theorem pH (k:Nat) (a b c:Int):aR.f k a b c=some (decide (b≤a∧a≤c),()):=by
 unfold aR.f aR.t
 by_cases h:b≤a <;> simp [h]
theorem uY (k:Nat) (a b c:Int):ap.f k a b c=some (decide (b≤a∧a≤c),()):=by
 unfold ap.f ap.t
 by_cases h:b≤a <;> simp [h]
def jC (a:Int):ByteArray:=if 0≤a∧a≤562949953421311 then bL a.toNat else ⟨#[]⟩
theorem cB (a:Int):(jC a).size≤7:=by
 unfold jC
 split
 · exact (ax _).2
 · exact Nat.zero_le _
theorem eD {a:Nat} (h:a<562949953421312):jC (a:Int)=bL a:=by
 unfold jC
 rw [if_pos (by omega),Int.toNat_natCast]
theorem My:∀ (d a n:Nat) (xs:List Int),a<128 ^ (d+1)→a<562949953421312→d<n→xs.length+d≤100→∀ k,
 bf.l0 k n (a:Int) xs=some (bytesOf (xs++(vl d a).map Int.ofNat),())∧gP.l0 k n (a:Int) xs=some (bytesOf (xs++(vl d a).map Int.ofNat),()):=by
 intro d
 induction d with
 | zero =>
  intro a n xs h1 h2 h3 h4 k
  obtain ⟨n,rfl⟩:∃ q,n=q+1:=⟨n-1,by omega⟩
  simp only [Nat.zero_add,Nat.pow_one] at h1
  constructor
  · simp (disch:=first | omega | decide) only [bf.l0,bf.b0,aQ,aK,cO,pZ]
    rfl
  · simp (disch:=first | omega | decide) only [gP.l0,gP.b0,aQ,aK,cO,pZ]
    rfl
 | succ d ih =>
  intro a n xs h1 h2 h3 h4 k
  obtain ⟨n,rfl⟩:∃ q,n=q+1:=⟨n-1,by omega⟩
  unfold vl
  by_cases c:a≥128
  · have hd:aG (Int.tdiv (a:Int) 128)=((a/128:Nat):Int):=aE (n:=((a/128:Nat):Int)) (by omega) (by omega)
    have hw:IntKind.wrap .u8 (aG (128+Int.tmod (a:Int) 128))=((128+a % 128:Nat):Int):=by
     have e:128+Int.tmod (a:Int) 128=((128+a % 128:Nat):Int):=by
      show 128+((a % 128:Nat):Int)=_
      omega
     rw [e,aE (by omega) (by omega)]
     exact pZ (by omega) (by omega)
    have ih:=ih (a/128) n (xs++[((128+a % 128:Nat):Int)]) (by rw [Nat.pow_succ] at h1;omega) (by omega) (by omega) (by rw [zT];show _+1+d≤_;omega) k
    rw [if_pos c]
    rw [rP] at ih
    constructor
    · simp (disch:=first | omega | decide) only [bf.l0,bf.b0,aO,ac,cO,hd,hw]
      exact ih.1
    · simp (disch:=first | omega | decide) only [gP.l0,gP.b0,aO,ac,cO,hd,Int.add_comm (Int.tmod (a:Int) 128) 128,hw]
      exact ih.2
  · rw [if_neg c]
    constructor
    · simp (disch:=first | omega | decide) only [bf.l0,bf.b0,aQ,aK,cO,pZ]
      rfl
    · simp (disch:=first | omega | decide) only [gP.l0,gP.b0,aQ,aK,cO,pZ]
      rfl
theorem gw {k:Nat} (hk:2 ^ 50≤k) (a:Int):bf.f k a=some (jC a,()):=by
 unfold bf.f bf.t jC
 rw [pH,aZ]
 by_cases h:0≤a∧a≤562949953421311
 · obtain ⟨n,rfl⟩:=Int.eq_ofNat_of_zero_le h.1
   have hn:n<562949953421312:=by omega
   simp only [aO h,fC,aK,if_pos h,Int.toNat_natCast]
   exact (My 6 n k [] (by rw [show (128:Nat) ^ (6+1)=562949953421312 by decide];exact hn) hn (by omega) (by decide) k).1
 · simp only [aQ h,u6,ac,if_neg h]
theorem F6 {k:Nat} (hk:2 ^ 50≤k) (a:Int):gP.f k a=some (jC a,()):=by
 unfold gP.f gP.t jC
 rw [uY,aZ]
 by_cases h:0≤a∧a≤562949953421311
 · obtain ⟨n,rfl⟩:=Int.eq_ofNat_of_zero_le h.1
   have hn:n<562949953421312:=by omega
   simp only [aO h,fC,aK,if_pos h,Int.toNat_natCast]
   exact (My 6 n k [] (by rw [show (128:Nat) ^ (6+1)=562949953421312 by decide];exact hn) hn (by omega) (by decide) k).2
 · simp only [aQ h,u6,ac,if_neg h]
theorem Je {s:ByteArray} {i:Nat} (h:i<s.size):(nb s).take (i+1)=(nb s).take i++[(nb s).getD i 0]:=by
 have h1:i<(nb s).length:=by rw [cp];exact h
 rw [List.take_succ_eq_append_getElem h1]
 simp [List.getD,h1]
theorem ji (s:ByteArray) (i:Nat):(nb s).getD i 0<256:=by
 by_cases h1:i<(nb s).length
 · rw [show (nb s).getD i 0=(nb s)[i] by simp [List.getD,h1]]
   exact LS (List.getElem_mem h1)
 · simp [List.getD,List.getElem?_eq_none (by omega:(nb s).length≤i)]
theorem sT {s:ByteArray} {i:Nat} (h:i<s.size):(nb s).drop i=(nb s).getD i 0::(nb s).drop (i+1):=by
 have h1:i<(nb s).length:=by rw [cp];exact h
 rw [List.drop_eq_getElem_cons h1]
 simp [List.getD,h1]
def FQ (n:Nat):Nat:=if n % 2=1 then n/2 ^^^ 2197175160 else n/2
def A6:Nat→Nat→Nat
 | 0,n=>n
 | d+1,n=>A6 d (FQ n)
theorem C2 {n:Nat} (h:n<4294967296):FQ n<4294967296:=by
 unfold FQ
 split
 · exact Nat.xor_lt_two_pow (n:=32) (by omega) (by omega)
 · omega
theorem CZ:∀ {d n:Nat},n<4294967296→A6 d n<4294967296
 | 0,_,h=>h
 | d+1,_,h=>CZ (d:=d) (C2 h)
def Fl:List Nat→Nat→Nat
 | [],n=>n
 | b::l,n=>Fl l (A6 8 (n ^^^ b))
theorem HC:∀ {l:List Nat} {n:Nat},n<4294967296→(∀ b ∈ l,b<256)→Fl l n<4294967296
 | [],_,h,_=>h
 | b::l,n,h,hb=>by
  have:=hb b (li ..)
  exact HC (l:=l) (CZ (Nat.xor_lt_two_pow (n:=32) (by omega) (by omega))) (fun x hx=>hb x (nX _ hx))
def ra (s:ByteArray):Int:=4294967295-(Fl (nb s) 4294967295:Int)
theorem vA (s:ByteArray):0≤ra s∧ra s≤4294967295:=by
 have:=HC (l:=nb s) (n:=4294967295) (by omega) (ta s)
 unfold ra
 omega
theorem HF {k:Nat} {L0:ByteArray→Int→Int→Option (Int × Unit)} {s:ByteArray} {i:Int}:∀ (d j m n:Nat),8-j=d→j≤8→d<m→n<4294967296→gQ.l1 k L0 m s (n:Int) i (j:Int)=L0 s ((A6 d n:Nat):Int) (aG (i+1))
 | 0,j,m,n,hd,hj,hm,hn=>by
  obtain ⟨m,rfl⟩:∃ q,m=q+1:=⟨m-1,by omega⟩
  have c:¬ ((j:Int)<8):=by omega
  simp only [gQ.l1,gQ.b1,decide_eq_false c,aK,A6]
 | d+1,j,m,n,hd,hj,hm,hn=>by
  obtain ⟨m,rfl⟩:∃ q,m=q+1:=⟨m-1,by omega⟩
  have c:((j:Int)<8):=by omega
  have ih:=HF (k:=k) (L0:=L0) (s:=s) (i:=i) d (j+1) m (FQ n) (by omega) (by omega) (by omega) (C2 hn)
  have hd2:aG (Int.tdiv (n:Int) 2)=((n/2:Nat):Int):=aE (n:=((n/2:Nat):Int)) (by omega) (by omega)
  have hx:=Le (n:=n/2) (m:=2197175160) (by omega) (by omega)
  have hm2:Int.tmod (n:Int) 2=((n % 2:Nat):Int):=rfl
  have hj1:aG ((j:Int)+1)=((j+1:Nat):Int):=by rw [aE (by omega) (by omega)];omega
  simp only [gQ.l1,gQ.b1,decide_eq_true c,ac,hj1,hd2,hm2,A6]
  rw [← ih]
  unfold FQ
  by_cases q:n % 2=1
  · rw [if_pos q,q,← hx]
    rfl
  · rw [if_neg q,show n % 2=0 by omega]
    rfl
theorem HE {k:Nat} {L0:ByteArray→Int→Int→Option (Int × Unit)} {s:ByteArray} {i:Int}:∀ (d j m n:Nat),8-j=d→j≤8→d<m→n<4294967296→gI.l1 k L0 m s (n:Int) i (j:Int)=L0 s ((A6 d n:Nat):Int) (aG (i+1))
 | 0,j,m,n,hd,hj,hm,hn=>by
  obtain ⟨m,rfl⟩:∃ q,m=q+1:=⟨m-1,by omega⟩
  have c:¬ ((j:Int)<8):=by omega
  simp only [gI.l1,gI.b1,decide_eq_false c,aK,A6]
 | d+1,j,m,n,hd,hj,hm,hn=>by
  obtain ⟨m,rfl⟩:∃ q,m=q+1:=⟨m-1,by omega⟩
  have c:((j:Int)<8):=by omega
  have ih:=HE (k:=k) (L0:=L0) (s:=s) (i:=i) d (j+1) m (FQ n) (by omega) (by omega) (by omega) (C2 hn)
  have hd2:Int.fdiv (n:Int) (2 ^ (Int.toNat 1))=((n/2:Nat):Int):=by
   show Int.fdiv (n:Int) 2=_
   rw [Int.fdiv_eq_ediv_of_nonneg _ (by omega)]
   omega
  have hx:=Lj (n:=n/2) (m:=2197175160) (by omega) (by omega)
  have hj1:aG ((j:Int)+1)=((j+1:Nat):Int):=by rw [aE (by omega) (by omega)];omega
  simp only [gI.l1,gI.b1,decide_eq_true c,ac,hj1,hd2,N_ hn,A6]
  rw [← ih]
  unfold FQ
  by_cases q:n % 2=1
  · rw [if_pos q,q,← hx]
    rfl
  · rw [if_neg q,show n % 2=0 by omega]
    rfl
theorem MK {k:Nat} (hk:2 ^ 50≤k) {s:ByteArray} (hs:s.size≤1099511627776):∀ (d i n m:Nat),s.size-i=d→i≤s.size→n<4294967296→d<m →
 gQ.l0 k m s (n:Int) (i:Int)=some (4294967295-(Fl ((nb s).drop i) n:Int),())∧gI.l0 k m s (n:Int) (i:Int)=some (4294967295-(Fl ((nb s).drop i) n:Int),())
 | 0,i,n,m,hd,hi,hn,hm=>by
  obtain ⟨m,rfl⟩:∃ q,m=q+1:=⟨m-1,by omega⟩
  have c:¬ ((i:Int)<(s.size:Int)):=by omega
  have e1:aG (4294967295-(n:Int))=4294967295-(n:Int):=aE (by omega) (by omega)
  rw [List.drop_eq_nil_of_le (by rw [cp];omega)]
  constructor
  · simp only [gQ.l0,gQ.b0,decide_eq_false c,aK,e1,Fl]
  · simp only [gI.l0,gI.b0,decide_eq_false c,aK,NB hn,e1,Fl]
 | d+1,i,n,m,hd,hi,hn,hm=>by
  obtain ⟨m,rfl⟩:∃ q,m=q+1:=⟨m-1,by omega⟩
  have hlt:i<s.size:=by omega
  have c:((i:Int)<(s.size:Int)):=by omega
  have h0:=Int.natCast_nonneg i
  have hb:=ji s i
  have hat:=xb hlt
  rw [sT hlt]
  generalize (nb s).getD i 0=b at hb hat
  have w1:aG (b:Int)=(b:Int):=aE (by omega) (by omega)
  have w2:IntKind.wrap .u32 (b:Int)=(b:Int):=xK (by omega) (by omega)
  have hnb:n ^^^ b<4294967296:=Nat.xor_lt_two_pow (n:=32) (by omega) (by omega)
  have up:aG ((i:Int)+1)=((i+1:Nat):Int):=by rw [aE (by omega) (by omega)];omega
  obtain ⟨s1,s2⟩:=MK hk hs d (i+1) (A6 8 (n ^^^ b)) m (by omega) (by omega) (CZ hnb) (by omega)
  constructor
  · simp only [gQ.l0,gQ.b0,decide_eq_true c,ac,aI h0 c,hat,w1,Le hn (show b<4294967296 by omega)]
    refine (HF 8 0 k (n ^^^ b) (by omega) (by omega) (by omega) hnb).trans ?_
    rw [up]
    exact s1
  · simp only [gI.l0,gI.b0,decide_eq_true c,ac,aI h0 c,hat,w2,Lj hn (show b<4294967296 by omega)]
    refine (HE 8 0 k (n ^^^ b) (by omega) (by omega) (by omega) hnb).trans ?_
    rw [up]
    exact s2
theorem tS {k:Nat} (hk:2 ^ 50≤k) {s:ByteArray} (hs:s.size≤1099511627776):gQ.f k s=some (ra s,()):=by
 have:=(MK hk hs s.size 0 4294967295 k (by omega) (by omega) (by omega) (by omega)).1
 rw [List.drop_zero] at this
 exact this
theorem F8 {k:Nat} (hk:2 ^ 50≤k) {s:ByteArray} (hs:s.size≤1099511627776):gI.f k s=some (ra s,()):=by
 have:=(MK hk hs s.size 0 4294967295 k (by omega) (by omega) (by omega) (by omega)).2
 rw [List.drop_zero] at this
 exact this
def fA (n:Nat):ByteArray:=bytesOf [((n/16777216 % 256:Nat):Int),((n/65536 % 256:Nat):Int),((n/256 % 256:Nat):Int),((n % 256:Nat):Int)]
theorem nK (n:Nat):(fA n).size=4:=rfl
theorem GG (n:Nat):nb (fA n)=[n/16777216 % 256,n/65536 % 256,n/256 % 256,n % 256] :=
 D1 (l:=[n/16777216 % 256,n/65536 % 256,n/256 % 256,n % 256]) (by simp;omega)
theorem FY {k:Nat} (hk:2 ^ 50≤k) {n:Nat} (h1:n<4294967296):di.f k (n:Int) 4=some (fA n,()):=by
 have sz1:∀ x:Int,(bytesOf [x]).size=1:=fun x=>rfl
 have st:∀ (q m:Nat) (t:ByteArray) (j:Nat),m<4294967296→j<4→t.size≤100→di.l0 k (q+1) (m:Int) 4 t (j:Int)=di.l0 k q ((m/256:Nat):Int) 4 (bytesOf [((m % 256:Nat):Int)]++t) ((j+1:Nat):Int):=fun q m t j hm hj ht=>by
  have wd:aG (Int.tdiv (m:Int) 256)=((m/256:Nat):Int):=aE (n:=((m/256:Nat):Int)) (by omega) (by omega)
  have wm:IntKind.wrap .u8 (Int.tmod (m:Int) 256)=((m % 256:Nat):Int):=pZ (n:=((m % 256:Nat):Int)) (by omega) (by omega)
  have wj:aG ((j:Int)+1)=((j+1:Nat):Int):=by rw [aE (by omega) (by omega)];omega
  simp (disch:=omega) only [di.l0,di.b0,aO,ac,wd,wm,wj]
  rw [gf (by rw [sz1];omega)]
 unfold di.f di.t
 rw [pH,aZ]
 simp only [show decide ((1:Int)≤4∧(4:Int)≤7)=true by decide,fC,aK,aQ (show ¬ ((n:Int)<0) by omega)]
 obtain ⟨q,hq⟩:∃ q,k=q+5:=⟨k-5,by omega⟩
 refine (congrArg (fun z=>di.l0 k z (n:Int) 4 ⟨#[]⟩ 0) hq).trans ?_
 refine (st (q+4) n _ 0 h1 (by omega) (by decide)).trans ?_
 refine (st (q+3) (n/256) _ 1 (by omega) (by omega) (by rw [ByteArray.size_append,sz1];decide)).trans ?_
 refine (st (q+2) (n/256/256) _ 2 (by omega) (by omega) (by rw [ByteArray.size_append,ByteArray.size_append,sz1,sz1];decide)).trans ?_
 refine (st (q+1) (n/256/256/256) _ 3 (by omega) (by omega) (by rw [ByteArray.size_append,ByteArray.size_append,ByteArray.size_append,sz1,sz1,sz1];decide)).trans ?_
 have c:¬ ((((3+1:Nat)):Int)<4):=by omega
 have c2:¬ (((n/256/256/256/256:Nat):Int) > 0):=by omega
 simp only [di.l0,di.b0,aQ c,aQ c2,aK]
 unfold fA
 congr 2
 rw [show n/256/256/256=n/16777216 by omega,show n/256/256=n/65536 by omega]
 apply ByteArray.ext
 simp [bytesOf,ByteArray.data_append]
theorem FZ {k:Nat} (hk:2 ^ 50≤k) {n:Nat} (h1:n<4294967296):dh.f k (n:Int) 4=some (fA n,()):=by
 have st:∀ (q j p:Nat) (i':Int) (xs:List Int),j≤3→p=2 ^ (8*j)→i'=(j:Int)-1→xs.length≤100→dh.l0 k (q+1) (n:Int) (j:Int) xs=dh.l0 k q (n:Int) i' (xs++[((n/p % 256:Nat):Int)]):=fun q j p i' xs hj hp hi hx=>by
  have e8:aG (8*(j:Int))=((8*j:Nat):Int):=by rw [aE (by omega) (by omega)];omega
  have e1:aG ((j:Int)-1)=i':=by rw [hi];exact aE (by omega) (by omega)
  have emin:min (8*j) (IntKind.bits .i64)=8*j:=by have:IntKind.bits .i64=64:=rfl;rw [this];omega
  have ew:IntKind.wrap .u8 (Int.fdiv (n:Int) (2 ^ (8*j)))=((n/p % 256:Nat):Int):=by
   have e2:((2:Int) ^ (8*j))=((p:Nat):Int):=by rw [hp,Int.natCast_pow];rfl
   rw [e2,Int.fdiv_eq_ediv_of_nonneg _ (by omega),← Int.natCast_ediv]
   generalize n/p=z
   unfold IntKind.wrap
   simp [IntKind.bits,IntKind.signed]
  simp (disch:=first | omega | decide) only [dh.l0,dh.b0,aO,ac,e8,cO,e1,rH,emin,ew]
  rw [aQ (by omega),aK]
 unfold dh.f dh.t
 rw [uY,aZ]
 have c0:¬ (aG (8*4)<0):=by decide
 simp only [show decide ((1:Int)≤4∧(4:Int)≤7)=true by decide,fC,aK,aQ c0,show aG (aG (1*2 ^ min (Int.toNat (aG (8*4))) (IntKind.bits .i64))-1)=4294967295 by decide,uY,aZ]
 rw [aO (show (0:Int)≤(n:Int)∧(n:Int)≤4294967295 by omega)]
 simp only [fC,aK,show aG ((4:Int)-1)=((3:Nat):Int) by decide]
 obtain ⟨q,hq⟩:∃ q,k=q+5:=⟨k-5,by omega⟩
 refine (congrArg (fun z=>dh.l0 k z (n:Int) ((3:Nat):Int) []) hq).trans ?_
 refine (st (q+4) 3 16777216 ((2:Nat):Int) _ (by omega) (by decide) (by decide) (by decide)).trans ?_
 refine (st (q+3) 2 65536 ((1:Nat):Int) _ (by omega) (by decide) (by decide) (by simp)).trans ?_
 refine (st (q+2) 1 256 ((0:Nat):Int) _ (by omega) (by decide) (by decide) (by simp)).trans ?_
 refine (st (q+1) 0 1 (-1) _ (by omega) (by decide) (by decide) (by simp)).trans ?_
 simp only [dh.l0,dh.b0,show decide ((-1:Int)≥0)=false by decide,aK,Nat.div_one]
 rfl
def uI (a:Int):ByteArray:=fA a.toNat
theorem km (a:Int):(uI a).size=4:=rfl
theorem qv {k:Nat} (hk:2 ^ 50≤k) {a:Int} (h0:0≤a) (h1:a≤4294967295):di.f k a 4=some (uI a,()):=by
 obtain ⟨n,rfl⟩:=Int.eq_ofNat_of_zero_le h0
 exact FY hk (by omega)
theorem Bg {k:Nat} (hk:2 ^ 50≤k) {a:Int} (h0:0≤a) (h1:a≤4294967295):dh.f k a 4=some (uI a,()):=by
 obtain ⟨n,rfl⟩:=Int.eq_ofNat_of_zero_le h0
 exact FZ hk (by omega)
theorem zM (s:ByteArray):(∃ x t,x<4294967296∧s=fA x++t)∨s.size<4:=by
 by_cases c:s.size<4
 · exact .inr c
 · left
   have h0:=sT (s:=s) (i:=0) (by omega)
   have h1:=sT (s:=s) (i:=1) (by omega)
   have h2:=sT (s:=s) (i:=2) (by omega)
   have h3:=sT (s:=s) (i:=3) (by omega)
   have b0:=ji s 0
   have b1:=ji s 1
   have b2:=ji s 2
   have b3:=ji s 3
   rw [h1,h2,h3,List.drop_zero] at h0
   generalize (nb s).getD 0 0=x0 at *
   generalize (nb s).getD 1 0=x1 at *
   generalize (nb s).getD 2 0=x2 at *
   generalize (nb s).getD 3 0=x3 at *
   refine ⟨((x0*256+x1)*256+x2)*256+x3,ByteArray.extract s 4 s.size,by omega,lA ?_⟩
   rw [iF,GG,iR,h0]
   simp only [List.cons_append,List.nil_append,List.drop_succ_cons,List.drop_zero,List.cons.injEq,and_true]
   refine ⟨?_,?_,?_,?_⟩ <;> omega
theorem wD (x:Nat) (t:ByteArray):nb (fA x++t)=(x/16777216 % 256)::(x/65536 % 256)::(x/256 % 256)::(x % 256)::nb t:=by
 rw [iF,GG];rfl
theorem nu (x:Nat) (t:ByteArray):(fA x++t).size=4+t.size:=by rw [ByteArray.size_append];rfl
theorem jU (k:Nat) (s:ByteArray):cj.f k s=some (decide (1≤(s.size:Int)∧(s.size:Int)≤8),()):=by
 unfold cj.f cj.t
 rw [pH];rfl
theorem kL (k:Nat) (s:ByteArray):dZ.f k s=some (decide (1≤(s.size:Int)∧(s.size:Int)≤8),()):=by
 unfold dZ.f dZ.t
 rw [uY];rfl
def cF (a:Ty.d bA):Bool :=
 bif a.1==1||a.1==4 then decide (1≤(a.2.2.1.size:Int)∧(a.2.2.1.size:Int)≤8)&&(decide ((a.2.2.2.1.size:Int)≤24)&&((a.2.2.2.2.1==0)&&((a.2.2.2.2.2.1==0)&&decide (1≤a.2.1∧a.2.1≤1000000))))
 else bif a.1==2 then decide (1≤(a.2.2.1.size:Int)∧(a.2.2.1.size:Int)≤8)&&(seq a.2.2.2.1 ⟨#[]⟩&&((a.2.2.2.2.1==0)&&((a.2.2.2.2.2.1==0)&&decide (1≤a.2.1∧a.2.1≤1000000))))
 else bif a.1==3 then seq a.2.2.1 ⟨#[]⟩&&(seq a.2.2.2.1 ⟨#[]⟩&&(decide (0≤a.2.2.2.2.1∧a.2.2.2.2.1≤8)&&(decide (0≤a.2.2.2.2.2.1∧a.2.2.2.2.2.1≤4294967295)&&decide (1≤a.2.1∧a.2.1≤1000000))))
 else bif a.1==5 then seq a.2.2.1 ⟨#[]⟩&&(seq a.2.2.2.1 ⟨#[]⟩&&(decide (0≤a.2.2.2.2.1∧a.2.2.2.2.1≤20)&&(decide (0≤a.2.2.2.2.2.1∧a.2.2.2.2.2.1≤4294967295)&&decide (0≤a.2.1∧a.2.1≤1000000))))
 else false
theorem Hf (s:ByteArray):seq s ByteArray.empty=seq s ⟨#[]⟩:=rfl
theorem jV (k:Nat) (a:Ty.d bA):gH.f k a=some (cF a,()):=by
 obtain ⟨ty,tx,key,tt,n,sm,u⟩:=a
 unfold gH.f gH.t cF
 simp only [uY,kL,aZ,bO,Hf]
 change Int at ty tx n sm
 change ByteArray at key tt
 generalize decide (1≤(key.size:Int)∧(key.size:Int)≤8)=K
 generalize decide ((tt.size:Int)≤24)=L
 generalize decide (1≤tx∧tx≤1000000)=T1
 generalize decide (0≤tx∧tx≤1000000)=T0
 generalize decide (0≤n∧n≤8)=N1
 generalize decide (0≤n∧n≤20)=N2
 generalize decide (0≤sm∧sm≤4294967295)=S
 generalize (n==0)=Z1
 generalize (sm==0)=Z2
 generalize seq key ⟨#[]⟩=E1
 generalize seq tt ⟨#[]⟩=E2
 by_cases h1:ty=1
 · subst h1;simp;cases K <;> cases L <;> cases T1 <;> cases Z1 <;> cases Z2 <;> rfl
 by_cases h4:ty=4
 · subst h4;simp;cases K <;> cases L <;> cases T1 <;> cases Z1 <;> cases Z2 <;> rfl
 by_cases h2:ty=2
 · subst h2;simp;cases K <;> cases E2 <;> cases T1 <;> cases Z1 <;> cases Z2 <;> rfl
 by_cases h3:ty=3
 · subst h3;simp;cases E1 <;> cases E2 <;> cases T1 <;> cases N1 <;> cases S <;> rfl
 by_cases h5:ty=5
 · subst h5;simp;cases E1 <;> cases E2 <;> cases T0 <;> cases N2 <;> cases S <;> rfl
 have b1:(ty==1)=false:=mT h1
 have b2:(ty==2)=false:=mT h2
 have b3:(ty==3)=false:=mT h3
 have b4:(ty==4)=false:=mT h4
 have b5:(ty==5)=false:=mT h5
 have b6:(ty != 5)=true:=bne_iff_ne.2 h5
 simp only [b1,b2,b3,b4,b5,b6,Bool.or_false,aK,ac]
theorem BP (k:Nat) (a:Ty.d bA):lJ.f k a=some (cF a,()):=by
 obtain ⟨ty,tx,key,tt,n,sm,u⟩:=a
 unfold lJ.f lJ.t cF
 simp only [pH,jU,aZ]
 change Int at ty tx n sm
 change ByteArray at key tt
 have q:decide (1≤tx∧tx≤1000000)=(decide (0≤tx∧tx≤1000000)&&!(tx==0)):=by
  rw [Bool.eq_iff_iff];simp;omega
 rw [q]
 generalize decide (1≤(key.size:Int)∧(key.size:Int)≤8)=K
 generalize decide ((tt.size:Int)≤24)=L
 generalize decide (0≤tx∧tx≤1000000)=T0
 generalize (tx==0)=T
 generalize decide (0≤n∧n≤8)=N1
 generalize decide (0≤n∧n≤20)=N2
 generalize decide (0≤sm∧sm≤4294967295)=S
 generalize (n==0)=Z1
 generalize (sm==0)=Z2
 generalize seq key ⟨#[]⟩=E1
 generalize seq tt ⟨#[]⟩=E2
 by_cases h1:ty=1
 · subst h1;simp;cases T0 <;> cases T <;> cases K <;> cases L <;> cases Z1 <;> cases Z2 <;> rfl
 by_cases h4:ty=4
 · subst h4;simp;cases T0 <;> cases T <;> cases K <;> cases L <;> cases Z1 <;> cases Z2 <;> rfl
 by_cases h2:ty=2
 · subst h2;simp;cases T0 <;> cases T <;> cases K <;> cases E2 <;> cases Z1 <;> cases Z2 <;> rfl
 by_cases h3:ty=3
 · subst h3;simp;cases T0 <;> cases T <;> cases E1 <;> cases E2 <;> cases N1 <;> cases S <;> rfl
 by_cases h5:ty=5
 · subst h5;simp;cases T0 <;> cases T <;> cases E1 <;> cases E2 <;> cases N2 <;> cases S <;> rfl
 have b1:(ty==1)=false:=mT h1
 have b2:(ty==2)=false:=mT h2
 have b3:(ty==3)=false:=mT h3
 have b4:(ty==4)=false:=mT h4
 have b5:(ty==5)=false:=mT h5
 have b6:(ty != 5)=true:=bne_iff_ne.2 h5
 simp only [b1,b2,b3,b4,b5,b6,Bool.or_false,aK,ac]
 cases T0 <;> cases T <;> rfl
def jy (s:ByteArray):ByteArray:=jC (s.size:Int)++s
theorem rB (s:ByteArray):(jy s).size≤7+s.size:=by
 unfold jy
 have:=cB (s.size:Int)
 rw [ByteArray.size_append]
 omega
def aJ (a:Ty.d bA):ByteArray :=
 if cF a=true then
  if a.1=1∨a.1=4 then jC a.1++(jC a.2.1++(jy a.2.2.1++jy a.2.2.2.1))
  else if a.1=2 then jC a.1++(jC a.2.1++jy a.2.2.1)
  else jC a.1++(jC a.2.1++(jC a.2.2.2.2.1++uI a.2.2.2.2.2.1))
 else ⟨#[]⟩
theorem pB {a:Ty.d bA} (h:cF a=true) :
 ((a.1=1∨a.1=4)∧1≤a.2.2.1.size∧a.2.2.1.size≤8∧a.2.2.2.1.size≤24∧a.2.2.2.2.1=0∧a.2.2.2.2.2.1=0∧1≤a.2.1∧a.2.1≤1000000) ∨
 (a.1=2∧1≤a.2.2.1.size∧a.2.2.1.size≤8∧a.2.2.2.1=⟨#[]⟩∧a.2.2.2.2.1=0∧a.2.2.2.2.2.1=0∧1≤a.2.1∧a.2.1≤1000000) ∨
 ((a.1=3∨a.1=5)∧a.2.2.1=⟨#[]⟩∧a.2.2.2.1=⟨#[]⟩∧0≤a.2.2.2.2.1∧a.2.2.2.2.1≤20∧0≤a.2.2.2.2.2.1∧a.2.2.2.2.2.1≤4294967295∧0≤a.2.1∧a.2.1≤1000000):=by
 obtain ⟨kd,bt,key,val,cn,sm,u⟩:=a
 change Int at kd bt cn sm
 change ByteArray at key val
 unfold cF at h
 simp only [] at h ⊢
 by_cases c:kd=1∨kd=4
 · have b:(kd==1||kd==4)=true:=by rcases c with c | c <;> rw [c] <;> rfl
   rw [b,ac] at h
   simp only [iI,decide_eq_true_eq,beq_iff_eq] at h
   exact .inl ⟨c,by omega,by omega,by omega,h.2.2.1,h.2.2.2.1,h.2.2.2.2⟩
 · have b1:(kd==1)=false:=mT fun h=>c (.inl h)
   have b4:(kd==4)=false:=mT fun h=>c (.inr h)
   simp only [b1,b4,Bool.or_false,aK] at h
   cases b2:(kd==2) with
   | true =>
    rw [b2,ac] at h
    simp only [iI,decide_eq_true_eq,beq_iff_eq,dS] at h
    exact .inr (.inl ⟨eq_of_beq b2,by omega,by omega,h.2.1,h.2.2.1,h.2.2.2.1,h.2.2.2.2⟩)
   | false =>
    rw [b2,aK] at h
    cases b3:(kd==3) with
    | true =>
     rw [b3,ac] at h
     simp only [iI,decide_eq_true_eq,dS] at h
     exact .inr (.inr ⟨.inl (eq_of_beq b3),h.1,h.2.1,h.2.2.1.1,Int.le_trans h.2.2.1.2 (by decide),h.2.2.2.1.1,h.2.2.2.1.2,Int.le_trans (by decide) h.2.2.2.2.1,h.2.2.2.2.2⟩)
    | false =>
     rw [b3,aK] at h
     cases b5:(kd==5) with
     | true =>
      rw [b5,ac] at h
      simp only [iI,decide_eq_true_eq,dS] at h
      exact .inr (.inr ⟨.inr (eq_of_beq b5),h.1,h.2.1,h.2.2.1.1,h.2.2.1.2,h.2.2.2.1.1,h.2.2.2.1.2,h.2.2.2.2.1,h.2.2.2.2.2⟩)
     | false =>
      rw [b5,aK] at h
      cases h
theorem xJ {kd b cn sm:Int} {key val:ByteArray} (h:cF (kd,(b,(key,(val,(cn,(sm,()))))))=true) :
 ((kd=1∨kd=4)∧1≤key.size∧key.size≤8∧val.size≤24∧cn=0∧sm=0∧1≤b∧b≤1000000) ∨
 (kd=2∧1≤key.size∧key.size≤8∧val=⟨#[]⟩∧cn=0∧sm=0∧1≤b∧b≤1000000) ∨
 ((kd=3∨kd=5)∧key=⟨#[]⟩∧val=⟨#[]⟩∧0≤cn∧cn≤20∧0≤sm∧sm≤4294967295∧0≤b∧b≤1000000):=pB h
theorem dT {k:Nat} (hk:2 ^ 50≤k) (a:Ty.d bA):cS.f k a=some (aJ a,()):=by
 unfold cS.f cS.t aJ
 rw [BP,aZ]
 cases hr:cF a with
 | false=>rfl
 | true =>
  have v1:=cB a.1
  have v2:=cB a.2.1
  have v3:=cB (a.2.2.1.size:Int)
  have v4:=cB (a.2.2.2.1.size:Int)
  have v5:=cB a.2.2.2.2.1
  have v6:=km a.2.2.2.2.2.1
  simp only [fC,aK,if_true,jy]
  rcases pB hr with ⟨c,h⟩ | ⟨c,h⟩ | ⟨c,h⟩
  · rw [if_pos c]
    rcases c with c | c
    · have b1:(a.1==1)=true:=by rw [c];rfl
      simp (disch:=first | omega | (simp only [ByteArray.size_append];omega)) only [gw hk,aZ,b1,ac,gf,bF]
    · have b1:(a.1==1)=false:=by rw [c];rfl
      have b4:(a.1==4)=true:=by rw [c];rfl
      simp (disch:=first | omega | (simp only [ByteArray.size_append];omega)) only [gw hk,aZ,b1,b4,ac,aK,gf,bF]
  · have b1:(a.1==1)=false:=by rw [c];rfl
    have b4:(a.1==4)=false:=by rw [c];rfl
    have b2:(a.1==2)=true:=by rw [c];rfl
    rw [if_neg (show ¬ (a.1=1∨a.1=4) by rw [c];decide),if_pos c]
    simp (disch:=first | omega | (simp only [ByteArray.size_append];omega)) only [gw hk,aZ,b1,b2,b4,ac,aK,gf,bF]
  · have b1:(a.1==1)=false:=by rcases c with c | c <;> rw [c] <;> rfl
    have b4:(a.1==4)=false:=by rcases c with c | c <;> rw [c] <;> rfl
    have b2:(a.1==2)=false:=by rcases c with c | c <;> rw [c] <;> rfl
    rw [if_neg (show ¬ (a.1=1∨a.1=4) by rcases c with c | c <;> rw [c] <;> decide),if_neg (show ¬ a.1=2 by rcases c with c | c <;> rw [c] <;> decide)]
    obtain ⟨_,_,_,_,z1,z2,_⟩:=h
    simp (disch:=first | assumption | omega | (simp only [ByteArray.size_append];omega)) only [gw hk,qv hk,aZ,b1,b2,b4,ac,aK,gf,bF]
theorem zp {k:Nat} (hk:2 ^ 50≤k) {s:ByteArray} (hs:s.size≤1099511627776):eC.f k s=some (jy s,()):=by
 have:=cB (s.size:Int)
 unfold eC.f eC.t jy
 simp (disch:=omega) only [F6 hk,aZ,gf]
theorem lb (a:Ty.d bA):(aJ a).size≤60:=by
 unfold aJ
 split
 · rename_i hr
   have v1:=cB a.1
   have v2:=cB a.2.1
   have v3:=rB a.2.2.1
   have v4:=rB a.2.2.2.1
   have v5:=cB a.2.2.2.2.1
   have v6:=km a.2.2.2.2.2.1
   rcases pB hr with ⟨c,h⟩ | ⟨c,h⟩ | ⟨c,h⟩
   · rw [if_pos c]
     simp only [ByteArray.size_append];omega
   · rw [if_neg (show ¬ (a.1=1∨a.1=4) by rw [c];decide),if_pos c]
     simp only [ByteArray.size_append];omega
   · rw [if_neg (show ¬ (a.1=1∨a.1=4) by rcases c with c | c <;> rw [c] <;> decide),if_neg (show ¬ a.1=2 by rcases c with c | c <;> rw [c] <;> decide)]
     simp only [ByteArray.size_append];omega
 · exact Nat.zero_le _
def uP:List (Ty.d bA)→ByteArray
 | []=>⟨#[]⟩
 | a::l=>aJ a++uP l
def zn (l:List (Ty.d bA)):Int:=ra (uP l)
theorem Gp (l:List (Ty.d bA)):0≤zn l∧zn l≤4294967295:=vA _
theorem qf {k:Nat} (hk:2 ^ 50≤k) {l:List (Ty.d bA)} (hl:l.length≤1073741824):gG.f k l=some (zn l,()):=by
 refine (fa (L:=fun n i s=>gG.l0 k n l s i) (R:=fun l s=>some (ra (s++uP l),())) (Ty.z bA) l (fun i s=>(s.size:Int)≤60*i) (fun n s hs=>?_) (fun n i s x rest h0 h1 hx hr hp ih=>?_) (n:=k) (s:=⟨#[]⟩) (by omega) (by decide)).trans (by rw [se];rfl)
 · simp (disch:=omega) only [gG.l0,gG.b0,aQ,aK,tS hk,aZ,uP,ku]
 · have hz:=lb x
   simp (disch:=omega) only [gG.l0,gG.b0,aO,ac,aI,hx,dT hk,aZ,gf,aE]
   rw [ih _ (by rw [ByteArray.size_append];omega),uP,bF]
theorem Bq {s:ByteArray} (hs:s.size≤4611686018427387904) (k:Nat):∀ (d i acc n:Nat),i+d=7→acc<128 ^ i→d<n →
 cw.l0 k n s (acc:Int) (i:Int)=some (match rv d ((nb s).drop i) with
  | some (a,m)=>if a=0∧0<i then (0,(0,())) else (((acc+a*128 ^ i:Nat):Int),(((i+m:Nat):Int),()))
  | none=>(0,(0,()))):=by
 intro d
 induction d with
 | zero =>
  intro i acc n h1 h2 h3
  obtain ⟨n,rfl⟩:∃ q,n=q+1:=⟨n-1,by omega⟩
  simp (disch:=omega) only [cw.l0,cw.b0,aQ,aK,rv]
 | succ d ih =>
  intro i acc n h1 h2 h3
  obtain ⟨n,rfl⟩:∃ q,n=q+1:=⟨n-1,by omega⟩
  by_cases hlt:i<s.size
  case neg =>
   rw [List.drop_eq_nil_of_le (by rw [cp];omega)]
   simp (disch:=omega) only [cw.l0,cw.b0,aO,aQ,ac,aK,rv]
  have hb:=ji s i
  have hat:=xb hlt
  have ih:=ih (i+1)
  rw [sT hlt]
  generalize (nb s).getD i 0=b at hb hat
  have e8:aG (7*(i:Int))=((7*i:Nat):Int):=by rw [aE (by omega) (by omega)];omega
  have emin:min (7*i) (IntKind.bits .i64)=7*i:=by have:IntKind.bits .i64=64:=rfl;rw [this];omega
  have ep:(2:Int) ^ (7*i)=((128 ^ i:Nat):Int):=by rw [Int.pow_mul,Int.natCast_pow];rfl
  have hp:128 ^ i≤128 ^ 6:=Nat.pow_le_pow_right (by decide) (by omega)
  rw [show (128:Nat) ^ 6=4398046511104 by decide] at hp
  have hps:128 ^ (i+1)=128 ^ i*128:=Nat.pow_succ ..
  have hb2:(b % 128)*128 ^ i≤127*128 ^ i:=Nat.mul_le_mul (by omega) (Nat.le_refl _)
  have ev:aG ((acc:Int)+aG (Int.tmod (b:Int) 128*2 ^ (7*i)))=((acc+b % 128*128 ^ i:Nat):Int):=by
   have e:Int.tmod (b:Int) 128*2 ^ (7*i)=((b % 128*128 ^ i:Nat):Int):=by
    rw [ep,Int.natCast_mul]
    rfl
   rw [e,aE (n:=((b % 128*128 ^ i:Nat):Int)) (by omega) (by omega),aE (by omega) (by omega)]
   omega
  have eb:aG ((b:Nat):Int)=(b:Int):=aE (by omega) (by omega)
  have ei:aG ((i:Int)+1)=((i+1:Nat):Int):=by rw [aE (by omega) (by omega)];omega
  have ih:=ih (acc+b % 128*128 ^ i) n (by omega) (by omega) (by omega)
  simp (disch:=omega) only [cw.l0,cw.b0,aO,ac,aI,hat,eb,e8,rH,emin,ev,ei]
  rw [aQ (by omega),aK]
  by_cases c:b≥128
  · rw [aO (show (b:Int)≥128 by omega),ac,ih,rv,if_pos c]
    cases q:rv d ((nb s).drop (i+1)) with
    | none=>rfl
    | some p =>
     obtain ⟨a,m⟩:=p
     simp only []
     by_cases z:a=0
     · simp [z]
     · have hm:a*128 ^ (i+1)=128*a*128 ^ i:=by rw [hps,Nat.mul_comm (128 ^ i),← Nat.mul_assoc,Nat.mul_comm a]
       rw [if_neg (by omega),if_neg z]
       simp only []
       rw [if_neg (by omega)]
       have e1:acc+b % 128*128 ^ i+a*128 ^ (i+1)=acc+(b % 128+128*a)*128 ^ i:=by rw [hm,Nat.add_mul];omega
       have e2:i+1+m=i+(m+1):=by omega
       rw [e1,e2]
  · have em:b % 128=b:=by omega
    rw [aQ (show ¬ (b:Int)≥128 by omega),aK,rv,if_neg c,em]
    by_cases z:b=0
    · subst z
      rw [show ((((0:Nat):Int)==0))=true from rfl,ac]
      by_cases hi:0<i
      · rw [aO (show (i:Int) > 0 by omega),ac]
        simp [hi]
      · rw [aQ (show ¬ (i:Int) > 0 by omega),aK]
        simp [hi]
    · rw [show ((b:Int)==0)=false from mT (by omega),aK]
      simp [z]
theorem ou {k:Nat} (hk:2 ^ 50≤k) {s:ByteArray} (hs:s.size≤4611686018427387904):cw.f k s=some (G2 (rv 7 (nb s))):=by
 unfold cw.f cw.t
 refine (Bq hs k 7 0 0 k (by omega) (by decide) (by omega)).trans ?_
 rw [List.drop_zero]
 cases rv 7 (nb s) with
 | none=>rfl
 | some p=>simp [G2]
theorem H9 {k:Nat} {L0:ByteArray→Int→Option (Int × Int × Unit)} {s:ByteArray} {n:Nat}:∀ (j x m:Nat),j<m→j≤s.size→j≤7→(x+1)*128 ^ j≤562949953421312 →
 aj.l1 k L0 m s (n:Int) (x:Int) ((j:Int)-1)=aj.l1 k L0 (m-j) s (n:Int) ((x*128 ^ j+t8 ((nb s).take j):Nat):Int) (-1)
 | 0,x,m,hm,hs,h7,hx=>by simp [t8]
 | j+1,x,m,hm,hs,h7,hx=>by
  obtain ⟨m,rfl⟩:∃ q,m=q+1:=⟨m-1,by omega⟩
  have hj:j<s.size:=by omega
  have hb:=ji s j
  rw [Nat.pow_succ,← Nat.mul_assoc,Nat.mul_comm _ 128,← Nat.mul_assoc] at hx
  have hpos:1≤128 ^ j:=Nat.one_le_pow _ _ (by decide)
  have hx2:(128*(x+1))*1≤(128*(x+1))*128 ^ j:=Nat.mul_le_mul (Nat.le_refl _) hpos
  have hat:=xb hj
  have e0:((j+1:Nat):Int)-1=(j:Int):=by omega
  have c:(j:Int)≥0:=by omega
  have c2:(j:Int)<(s.size:Int):=by omega
  rw [Je hj,E8,List.length_take,cp,Nat.min_eq_left (by omega)]
  generalize (nb s).getD j 0=b at hb hat ⊢
  have w1:aG (((b:Nat):Int))=(b:Int):=aE (by omega) (by omega)
  have w2:aG ((x:Int)*128)=(x:Int)*128:=aE (by omega) (by omega)
  have w3:aG ((x:Int)*128+Int.tmod (b:Int) 128)=((x*128+b % 128:Nat):Int):=by
   have e:(x:Int)*128+Int.tmod (b:Int) 128=((x*128+b % 128:Nat):Int):=by
    show (x:Int)*128+((b % 128:Nat):Int)=_
    omega
   rw [e]
   exact aE (by omega) (by omega)
  have w4:aG ((j:Int)-1)=(j:Int)-1:=aE (by omega) (by omega)
  have hx3:(x*128+b % 128+1)*128 ^ j≤(128*(x+1))*128 ^ j:=Nat.mul_le_mul (by omega) (Nat.le_refl _)
  have ih:=H9 (k:=k) (L0:=L0) (s:=s) (n:=n) j (x*128+b % 128) m (by omega) (by omega) (by omega) (by omega)
  rw [e0]
  simp only [aj.l1,aj.b1,decide_eq_true c,ac,aI c c2,hat,w1,w2,w3,w4]
  rw [ih,show m+1-(j+1)=m-j by omega]
  congr 2
  rw [Nat.pow_succ,Nat.add_mul,Nat.mul_assoc,Nat.mul_comm 128 (128 ^ j),Nat.mul_comm (b % 128)]
  omega
theorem Nk {s:ByteArray} {n:Nat} (h7:n≤7):t8 ((nb s).take n)<562949953421312:=by
 have:=C9 ((nb s).take n)
 have h1:((nb s).take n).length≤7:=by rw [List.length_take];omega
 have h2:(128:Nat) ^ ((nb s).take n).length≤128 ^ 7:=Nat.pow_le_pow_right (by decide) h1
 rw [show (128:Nat) ^ 7=562949953421312 by decide] at h2
 omega
theorem BW {k:Nat} (hk:2 ^ 50≤k) {s:ByteArray}:∀ (d i n:Nat),i+d=8→1≤i→d<n →
 aj.l0 k n s (i:Int)=some (match rv 7 (nb s) with | some (a,m)=>if i≤m then ((a:Int),((m:Int),())) else (0,(0,())) | none=>(0,(0,()))):=by
 have stop:∀ i,(7<i∨s.size<i)→(match rv 7 (nb s) with | some (a,m)=>if i≤m then ((a:Int),((m:Int),())) else (0,(0,())) | none=>(0,(0,())))=((0:Int),((0:Int),())):=by
  intro i hi
  cases q:rv 7 (nb s) with
  | none=>rfl
  | some p =>
   obtain ⟨a,m⟩:=p
   obtain ⟨_,_,_,h4,_,h6⟩:=rC 6 (nb s) a m (ta s) q
   rw [cp] at h4
   exact if_neg (by omega)
 intro d
 induction d with
 | zero =>
  intro i n h1 h2 h3
  obtain ⟨n,rfl⟩:∃ q,n=q+1:=⟨n-1,by omega⟩
  rw [stop i (by omega)]
  simp (disch:=omega) only [aj.l0,aj.b0,aQ,aK]
 | succ d ih =>
  intro i n h1 h2 h3
  obtain ⟨n,rfl⟩:∃ q,n=q+1:=⟨n-1,by omega⟩
  by_cases hs:i≤s.size
  case neg =>
   rw [stop i (by omega)]
   simp (disch:=omega) only [aj.l0,aj.b0,aO,aQ,ac,aK]
  have hp:(128:Nat) ^ i≤128 ^ 7:=Nat.pow_le_pow_right (by decide) (by omega)
  rw [show (128:Nat) ^ 7=562949953421312 by decide] at hp
  simp (disch:=omega) only [aj.l0,aj.b0,aO,ac,aE]
  refine (H9 (k:=k) (L0:=aj.l0 k n) (s:=s) (n:=i) i 0 k (by omega) hs (by omega) (by omega)).trans ?_
  obtain ⟨m,hm⟩:∃ m,k-i=m+1:=⟨k-i-1,by omega⟩
  have hd7:=Nk (s:=s) (n:=i) (by omega)
  have hc:=HU (s:=s) (n:=i) h2 (by omega) hs
  rw [hm,Nat.zero_mul,Nat.zero_add]
  simp only [aj.l1,aj.b1,show decide ((-1:Int)≥0)=false by decide,aK,gw hk,aZ,eD hd7]
  rw [dX (by omega) (by omega),rH,hc,aE (by omega) (by omega)]
  have hw:=KN (nb s) (ta s) 6 i h2 (by omega) (by rw [cp];exact hs)
  cases hq:rt ((nb s).take i) with
  | true =>
   obtain ⟨a,ha⟩:=hw.1 hq
   rw [ac,ha]
   simp only []
   rw [if_pos (Nat.le_refl _),Mi (ta s) ha]
  | false =>
   have hnot:∀ a,rv 7 (nb s)≠some (a,i):=fun a ha=>by
    have:=hw.2 ⟨a,ha⟩
    rw [hq] at this
    cases this
   rw [aK]
   refine (ih (i+1) n (by omega) (by omega) (by omega)).trans ?_
   cases q:rv 7 (nb s) with
   | none=>rfl
   | some p =>
    obtain ⟨a,m'⟩:=p
    have:m'≠i:=fun e=>hnot a (by rw [q,e])
    simp only []
    by_cases c:i≤m'
    · rw [if_pos c,if_pos (by omega)]
    · rw [if_neg c,if_neg (by omega)]
theorem g8 {k:Nat} (hk:2 ^ 50≤k) (s:ByteArray):aj.f k s=some (G2 (rv 7 (nb s))):=by
 unfold aj.f aj.t
 refine (BW hk 7 1 k (by omega) (by omega) (by omega)).trans ?_
 cases q:rv 7 (nb s) with
 | none=>rfl
 | some p =>
  obtain ⟨a,m⟩:=p
  obtain ⟨_,_,_,_,h5,_⟩:=rC 6 (nb s) a m (ta s) q
  simp only [G2]
  rw [if_pos h5]
theorem q_ {k:Nat} (hk:2 ^ 50≤k) {x:Nat} (hx:x<4294967296) (t:ByteArray):bg.f k (fA x++t) 4=some ((x:Int),(true,())):=by
 have hz:=nu x t
 have st:∀ (q a j:Nat),j<4→a<4294967296→bg.l0 k (q+1) (fA x++t) 4 (a:Int) (j:Int)=bg.l0 k q (fA x++t) 4 ((a*256+(nb (fA x++t)).getD j 0:Nat):Int) ((j+1:Nat):Int):=fun q a j hj ha=>by
  have hb:=ji (fA x++t) j
  have hat:=xb (s:=fA x++t) (i:=j) (by omega)
  generalize (nb (fA x++t)).getD j 0=b at *
  have e1:aG (aG ((a:Int)*256)+aG (b:Int))=((a*256+b:Nat):Int):=by
   rw [aE (n:=(a:Int)*256) (by omega) (by omega),aE (n:=(b:Int)) (by omega) (by omega),aE (by omega) (by omega)]
   omega
  have ej:aG ((j:Int)+1)=((j+1:Nat):Int):=by rw [aE (by omega) (by omega)];omega
  simp (disch:=omega) only [bg.l0,bg.b0,aO,ac,aI,hat,e1,ej]
 unfold bg.f bg.t
 rw [pH,aZ]
 simp only [show decide ((1:Int)≤4∧(4:Int)≤7)=true by decide,fC,aK,aQ (show ¬ (((fA x++t).size:Int)<4) by omega)]
 obtain ⟨q,hq⟩:∃ q,k=q+5:=⟨k-5,by omega⟩
 refine (congrArg (fun z=>bg.l0 k z (fA x++t) 4 0 0) hq).trans ?_
 refine (st (q+4) 0 0 (by omega) (by omega)).trans ?_
 rw [wD]
 simp only [List.getD_cons_zero,Nat.zero_mul,Nat.zero_add]
 refine (st (q+3) _ 1 (by omega) (by omega)).trans ?_
 rw [wD]
 simp only [List.getD_cons_zero,List.getD_cons_succ]
 refine (st (q+2) _ 2 (by omega) (by omega)).trans ?_
 rw [wD]
 simp only [List.getD_cons_zero,List.getD_cons_succ]
 refine (st (q+1) _ 3 (by omega) (by omega)).trans ?_
 rw [wD]
 simp only [List.getD_cons_zero,List.getD_cons_succ]
 simp only [bg.l0,bg.b0,show decide ((((3+1:Nat)):Int)<4)=false by decide,aK]
 congr 3
 omega
theorem pr {k:Nat} (hk:2 ^ 50≤k) {x:Nat} (hx:x<4294967296) (t:ByteArray):bq.f k (fA x++t) 4=some ((x:Int),(true,())):=by
 have hz:=nu x t
 have st:∀ (q a j:Nat),j<4→a<16777216→bq.l0 k (q+1) (fA x++t) (a:Int) 4 (j:Int)=bq.l0 k q (fA x++t) ((a*256+(nb (fA x++t)).getD j 0:Nat):Int) 4 ((j+1:Nat):Int):=fun q a j hj ha=>by
  have hb:=ji (fA x++t) j
  have hat:=xb (s:=fA x++t) (i:=j) (by omega)
  generalize (nb (fA x++t)).getD j 0=b at *
  have e0:aG ((a:Int)*2 ^ min (Int.toNat 8) (IntKind.bits .i64))=((a*256:Nat):Int):=by
   rw [show (2:Int) ^ min (Int.toNat 8) (IntKind.bits .i64)=256 by decide,aE (by omega) (by omega)]
   omega
  have e2:aG (b:Int)=(b:Int):=aE (by omega) (by omega)
  have ej:aG ((j:Int)+1)=((j+1:Nat):Int):=by rw [aE (by omega) (by omega)];omega
  simp (disch:=omega) only [bq.l0,bq.b0,aO,ac,aI,hat,e0,e2,ej]
  rw [NZ (by omega) hb]
 unfold bq.f bq.t
 rw [uY,aZ]
 simp only [show decide ((1:Int)≤4∧(4:Int)≤7)=true by decide,fC,aK,aQ (show ¬ (((fA x++t).size:Int)<4) by omega)]
 obtain ⟨q,hq⟩:∃ q,k=q+5:=⟨k-5,by omega⟩
 refine (congrArg (fun z=>bq.l0 k z (fA x++t) 0 4 0) hq).trans ?_
 refine (st (q+4) 0 0 (by omega) (by omega)).trans ?_
 rw [wD]
 simp only [List.getD_cons_zero,Nat.zero_mul,Nat.zero_add]
 refine (st (q+3) _ 1 (by omega) (by omega)).trans ?_
 rw [wD]
 simp only [List.getD_cons_zero,List.getD_cons_succ]
 refine (st (q+2) _ 2 (by omega) (by omega)).trans ?_
 rw [wD]
 simp only [List.getD_cons_zero,List.getD_cons_succ]
 refine (st (q+1) _ 3 (by omega) (by omega)).trans ?_
 rw [wD]
 simp only [List.getD_cons_zero,List.getD_cons_succ]
 simp only [bq.l0,bq.b0,show decide ((((3+1:Nat)):Int)<4)=false by decide,aK]
 congr 3
 omega
theorem uU (k:Nat) {s:ByteArray} (h:s.size<4):bg.f k s 4=some (0,(false,())):=by
 unfold bg.f bg.t
 rw [pH,aZ]
 simp only [show decide ((1:Int)≤4∧(4:Int)≤7)=true by decide,fC,aK,aO (show (s.size:Int)<4 by omega),ac]
theorem ub (k:Nat) {s:ByteArray} (h:s.size<4):bq.f k s 4=some (0,(false,())):=by
 unfold bq.f bq.t
 rw [uY,aZ]
 simp only [show decide ((1:Int)≤4∧(4:Int)≤7)=true by decide,fC,aK,aO (show (s.size:Int)<4 by omega),ac]
def aP (s:ByteArray):ByteArray:=if s.size > 200 then ⟨#[]⟩ else uI (ra (jy s))++jy s
theorem mM (s:ByteArray):(aP s).size≤211:=by
 unfold aP
 split
 · exact Nat.zero_le _
 · have:=rB s
   rw [ByteArray.size_append,km];omega
theorem lL {s:ByteArray} (h:s.size≤200):5≤(aP s).size:=by
 unfold aP
 rw [if_neg (by omega),ByteArray.size_append,km]
 unfold jy
 rw [eD (by omega),ByteArray.size_append]
 have:=ax s.size
 omega
theorem ml {k:Nat} (hk:2 ^ 50≤k) (s:ByteArray):fb.f k s=some (aP s,()):=by
 unfold fb.f fb.t aP
 by_cases c:s.size > 200
 · rw [aO (show (s.size:Int) > 200 by omega),ac,if_pos c]
 · have h1:=cB (s.size:Int)
   have h2:=vA (jC (s.size:Int)++s)
   rw [aQ (show ¬ (s.size:Int) > 200 by omega),aK,if_neg c]
   unfold jy
   simp (disch:=first | omega | (simp only [ByteArray.size_append,km];omega)) only [gw hk,aZ,gf,tS hk]
   rw [qv hk h2.1 h2.2,aZ,gf (by simp only [ByteArray.size_append,km];omega)]
theorem BQ {k:Nat} (hk:2 ^ 50≤k) (s:ByteArray):gZ.f k s=some (aP s,()):=by
 unfold gZ.f gZ.t aP
 by_cases c:s.size > 200
 · rw [aO (show (s.size:Int) > 200 by omega),ac,if_pos c]
 · have h1:=rB s
   have h2:=vA (jy s)
   rw [aQ (show ¬ (s.size:Int) > 200 by omega),aK,if_neg c]
   simp (disch:=omega) only [zp hk,aZ,F8 hk]
   rw [Bg hk h2.1 h2.2,aZ,gf (by rw [km];omega)]
theorem aN (a b:ByteArray):(a++b).size=a.size+b.size:=ByteArray.size_append ..
theorem rU (a b t:ByteArray):ByteArray.extract (a++(b++t)) (a.size+b.size) (a++(b++t)).size=t:=by
 have:=eO (a++b) t
 rw [aN,bF] at this
 exact this
theorem NQ (a b t:ByteArray):ByteArray.extract (a++(b++t)) a.size (a.size+b.size)=b:=lA (by
 rw [tM,iF,iF,List.take_append,List.take_of_length_le (by rw [cp];omega),cp,show a.size+b.size-a.size=b.size by omega,List.drop_left' (cp a),List.take_left' (cp b)])
theorem um (a b:Nat):((a:Int)+(b:Int))=((a+b:Nat):Int):=rfl
theorem oj {k:Nat} (hk:2 ^ 50≤k) {a:Nat} {t:ByteArray} (ha:a<562949953421312) (hs:t.size≤1099511627776):cw.f k (bL a++t)=some ((a:Int),(((bL a).size:Int),())):=by
 have:=ax a
 rw [ou hk (by rw [aN];omega),rr ha];rfl
theorem o9 {k:Nat} (hk:2 ^ 50≤k) {s:ByteArray} (h:rv 7 (nb s)=none) (hs:s.size≤1099511627776):cw.f k s=some (0,(0,())):=by
 rw [ou hk (by omega),h];rfl
theorem cr {k:Nat} (hk:2 ^ 50≤k) {a:Nat} {t:ByteArray} (ha:a<562949953421312):aj.f k (bL a++t)=some ((a:Int),(((bL a).size:Int),())):=by
 rw [g8 hk,rr ha];rfl
theorem kU {k:Nat} (hk:2 ^ 50≤k) {s:ByteArray} (h:rv 7 (nb s)=none):aj.f k s=some (0,(0,())):=by
 rw [g8 hk,h];rfl
theorem jf {k:Nat} (hk:2 ^ 50≤k) {a:Nat} {t:ByteArray} (ha:a<562949953421312) (hs:t.size≤1099511627776):aU.f k (bL a++t,(false,()))=some ((t,(false,())),((a:Int),())):=by
 have h1:=ax a
 unfold aU.f aU.t
 rw [oj hk ha hs,aZ]
 simp only [aK]
 rw [show (((bL a).size:Int)==0)=false from mT (by omega),aK,dX (by omega) (by rw [aN];omega),rH,eO]
theorem r_ {k:Nat} (hk:2 ^ 50≤k) {s:ByteArray} (h:rv 7 (nb s)=none) (hs:s.size≤1099511627776):aU.f k (s,(false,()))=some ((s,(true,())),(0,())):=by
 unfold aU.f aU.t
 rw [o9 hk h hs,aZ]
 rfl
theorem JD {k:Nat} (hk:2 ^ 50≤k) {s:ByteArray} (hs:s.size≤1099511627776):aU.f k (s,(true,()))=some ((s,(true,())),(0,())):=by
 unfold aU.f aU.t
 rw [ou hk (show s.size≤_ by omega),aZ]
 rfl
theorem xx (k:Nat) (u t:ByteArray):au.f k (u++t,(false,())) (u.size:Int)=some ((t,(false,())),(u,())):=by
 unfold au.f au.t
 simp only [aK]
 rw [aQ (by rw [aN];omega),aK,dX (by omega) (by rw [aN];omega),dX (by omega) (by rw [aN];omega),rH,eO,Di]
theorem Ae (k:Nat) {s:ByteArray} {n:Int} (h:n > (s.size:Int)):au.f k (s,(false,())) n=some ((s,(true,())),(⟨#[]⟩,())):=by
 unfold au.f au.t
 simp only [aK]
 rw [aO h,ac]
theorem u7 (k:Nat) (s:ByteArray) (n:Int):au.f k (s,(true,())) n=some ((s,(true,())),(⟨#[]⟩,())):=by
 unfold au.f au.t
 rfl
theorem od (s:ByteArray):(∃ u t,u.size<562949953421312∧s=bL u.size++(u++t))∨rv 7 (nb s)=none∨(∃ a t,a<562949953421312∧s=bL a++t∧t.size<a):=by
 rcases nw s with ⟨a,t,ha,rfl⟩ | h
 · by_cases c:t.size<a
   · exact .inr (.inr ⟨a,t,ha,rfl,c⟩)
   · have e:=D5 t (n:=a) (by omega)
     have hz:(ByteArray.extract t 0 a).size=a:=by rw [← cp,mI,List.length_take,cp];omega
     exact .inl ⟨_,_,by rw [hz];exact ha,by rw [hz,← e]⟩
 · exact .inr (.inl h)
theorem pD {k:Nat} (hk:2 ^ 50≤k) {u t:ByteArray} (hu:u.size<562949953421312) (hs:(u++t).size≤1099511627776):ar.f k (bL u.size++(u++t),(false,()))=some ((t,(false,())),(u,())):=by
 unfold ar.f ar.t
 rw [jf hk hu hs,aZ]
 simp only []
 rw [xx,aZ]
theorem xR {k:Nat} (hk:2 ^ 50≤k) {s:ByteArray} (hs:s.size≤1099511627776):ar.f k (s,(true,()))=some ((s,(true,())),(⟨#[]⟩,())):=by
 unfold ar.f ar.t
 rw [JD hk hs,aZ]
 simp only []
 rw [u7,aZ]
theorem yP {k:Nat} (hk:2 ^ 50≤k) {s:ByteArray} (hs:s.size≤1099511627776) (h:rv 7 (nb s)=none∨(∃ a t,a<562949953421312∧s=bL a++t∧t.size<a)):∃ s',s'.size≤1099511627776∧ar.f k (s,(false,()))=some ((s',(true,())),(⟨#[]⟩,())):=by
 unfold ar.f ar.t
 rcases h with h | ⟨a,t,ha,rfl,ht⟩
 · refine ⟨s,hs,?_⟩
   rw [r_ hk h hs,aZ]
   simp only []
   rw [u7,aZ]
 · have:=ax a
   rw [aN] at hs
   refine ⟨t,by omega,?_⟩
   rw [jf hk ha (by omega),aZ]
   simp only []
   rw [Ae k (by omega),aZ]
theorem wV {k:Nat} (hk:2 ^ 50≤k) {u t:ByteArray} (hu:u.size<562949953421312) (hs:(u++t).size≤1099511627776):ck.f k (bL u.size++(u++t))=some (u,(t,(true,()))):=by
 have h1:=ax u.size
 have h2:(bL u.size++(u++t)).size=(bL u.size).size+(u.size+t.size):=by rw [aN,aN]
 rw [aN] at hs
 unfold ck.f ck.t
 rw [cr hk hu,aZ]
 simp only []
 rw [show (((bL u.size).size:Int)==0)=false from mT (by omega),aK,aE (by omega) (by omega),aQ (by omega),aK,um,aE (by omega) (by omega),
  vC (by omega) (by omega) (by omega),dX (by omega) (by omega),rH,rH,NQ,rU]
theorem zf {k:Nat} (hk:2 ^ 50≤k) {s:ByteArray} (hs:s.size≤1099511627776) (h:rv 7 (nb s)=none∨(∃ a t,a<562949953421312∧s=bL a++t∧t.size<a)):ck.f k s=some (⟨#[]⟩,(⟨#[]⟩,(false,()))):=by
 unfold ck.f ck.t
 rcases h with h | ⟨a,t,ha,rfl,ht⟩
 · rw [kU hk h,aZ];rfl
 · have:=ax a
   rw [aN] at hs
   rw [cr hk ha,aZ]
   simp only []
   rw [show (((bL a).size:Int)==0)=false from mT (by omega),aK,aE (by rw [aN];omega) (by rw [aN];omega),aO (by rw [aN];omega),ac]
section
open Classical
variable {α:Type}
noncomputable def pc (ok:α→Prop) (shw:α→ByteArray) (z:α) (s:ByteArray):α × Bool:=if h:∃ r,ok r∧shw r=s then (h.choose,true) else (z,false)
theorem BU {ok:α→Prop} {shw:α→ByteArray} {z:α} {s:ByteArray} {r:α} (h:pc ok shw z s=(r,true)):ok r∧shw r=s:=by
 unfold pc at h
 split at h
 · rename_i q
   obtain rfl:=(Prod.mk.inj h).1
   exact q.choose_spec
 · cases (Prod.mk.inj h).2
theorem GW {ok:α→Prop} {shw:α→ByteArray} {z:α} {s:ByteArray} (h:(pc ok shw z s).2=false):pc ok shw z s=(z,false):=by
 unfold pc at h ⊢
 split
 · rename_i q;rw [dif_pos q] at h;cases h
 · rfl
theorem kI (ok:α→Prop) (shw:α→ByteArray) (z:α) (s:ByteArray):(∃ r,ok r∧shw r=s∧pc ok shw z s=(r,true))∨pc ok shw z s=(z,false):=by
 cases h:(pc ok shw z s).2 with
 | false=>exact .inr (GW h)
 | true =>
  have e:pc ok shw z s=((pc ok shw z s).1,true):=by rw [← h]
  exact .inl ⟨_,(BU e).1,(BU e).2,e⟩
theorem sv {ok:α→Prop} {shw:α→ByteArray} {z:α} {s:ByteArray} {f:Option (α × Bool × Unit)} (h1:∀ r,ok r→shw r=s→f=some (r,(true,())))
 (h2:(∃ r,ok r∧shw r=s∧f=some (r,(true,())))∨f=some (z,(false,()))):f=some ((pc ok shw z s).1,((pc ok shw z s).2,())):=by
 rcases kI ok shw z s with ⟨r,a,b,e⟩ | e
 · rw [e,h1 r a b]
 · rcases h2 with ⟨r,a,b,_⟩ | h2
   · unfold pc at e
     rw [dif_pos ⟨r,a,b⟩] at e
     cases (Prod.mk.inj e).2
   · rw [e,h2]
theorem Gx {ok:α→Prop} {shw:α→ByteArray} {z:α} {r:α} (hi:∀ a b,ok a→ok b→shw a=shw b→a=b) (h:ok r):pc ok shw z (shw r)=(r,true):=by
 rcases kI ok shw z (shw r) with ⟨q,a,b,e⟩ | e
 · rw [e,hi q r a h b]
 · unfold pc at e
   rw [dif_pos ⟨r,h,rfl⟩] at e
   cases (Prod.mk.inj e).2
end
abbrev tv:Ty.d bA:=(0,(0,(ByteArray.empty,(ByteArray.empty,(0,(0,()))))))
theorem Ao {a:Ty.d bA} (h:cF a=true) :
 (∃ (b:Nat) (kd:Nat),(kd=1∨kd=4)∧b≤1000000∧a=((kd:Int),((b:Int),(a.2.2.1,(a.2.2.2.1,(0,(0,()))))))∧a.2.2.1.size≤8∧a.2.2.2.1.size≤24 ∧
  aJ a=bL kd++(bL b++(bL a.2.2.1.size++(a.2.2.1++(bL a.2.2.2.1.size++(a.2.2.2.1++⟨#[]⟩)))))) ∨
 (∃ (b:Nat),b≤1000000∧a=(2,((b:Int),(a.2.2.1,(ByteArray.empty,(0,(0,()))))))∧a.2.2.1.size≤8∧aJ a=bL 2++(bL b++(bL a.2.2.1.size++(a.2.2.1++⟨#[]⟩)))) ∨
 (∃ (b kd c x:Nat),(kd=3∨kd=5)∧b≤1000000∧c≤20∧x<4294967296∧a=((kd:Int),((b:Int),(ByteArray.empty,(ByteArray.empty,((c:Int),((x:Int),()))))))∧aJ a=bL kd++(bL b++(bL c++(fA x++⟨#[]⟩)))):=by
 have hh:=h
 obtain ⟨kd,b,key,val,c,x,u⟩:=a
 change Int at kd b c x
 change ByteArray at key val
 rcases xJ h with ⟨hc,h⟩ | ⟨hc,h⟩ | ⟨hc,h⟩
 · obtain ⟨z1,z2,z3,z4,z5,z6,z7⟩:=h
   subst z4;subst z5
   obtain ⟨b,rfl⟩:=Int.eq_ofNat_of_zero_le (show 0≤b by omega)
   left
   refine ⟨b,kd.toNat,by omega,by omega,?_,z2,z3,?_⟩
   · rw [show ((kd.toNat:Nat):Int)=kd by omega]
   · unfold aJ
     rw [if_pos hh,if_pos hc]
     simp only [jy]
     rw [eD (by omega),eD (by omega),eD (by omega),ku,bF,show jC kd=bL kd.toNat by rw [← eD (show kd.toNat<562949953421312 by omega)];congr 1;omega]
 · obtain ⟨z1,z2,z3,z4,z5,z6,z7⟩:=h
   subst z3;subst z4;subst z5;subst hc
   obtain ⟨b,rfl⟩:=Int.eq_ofNat_of_zero_le (show 0≤b by omega)
   right;left
   refine ⟨b,by omega,rfl,z2,?_⟩
   unfold aJ
   rw [if_pos hh,if_neg (show ¬ ((2:Int)=1∨(2:Int)=4) by decide),if_pos rfl]
   simp only [jy]
   rw [eD (by omega),eD (by omega),ku]
   rfl
 · obtain ⟨z1,z2,z3,z4,z5,z6,z7,z8⟩:=h
   subst z1;subst z2
   obtain ⟨b,rfl⟩:=Int.eq_ofNat_of_zero_le (show 0≤b by omega)
   obtain ⟨c,rfl⟩:=Int.eq_ofNat_of_zero_le (show 0≤c by omega)
   obtain ⟨x,rfl⟩:=Int.eq_ofNat_of_zero_le (show 0≤x by omega)
   right;right
   refine ⟨b,kd.toNat,c,x,by omega,by omega,by omega,by omega,?_,?_⟩
   · rw [show ((kd.toNat:Nat):Int)=kd by omega];rfl
   · unfold aJ
     rw [if_pos hh,if_neg (show ¬ (kd=1∨kd=4) by omega),if_neg (show ¬ kd=2 by omega)]
     simp only []
     rw [eD (by omega),eD (by omega),ku,show jC kd=bL kd.toNat by rw [← eD (show kd.toNat<562949953421312 by omega)];congr 1;omega]
     rfl
theorem FC {a:Ty.d bA} {s:ByteArray} (h:aJ a=s) (hs:s≠⟨#[]⟩):cF a=true:=by
 cases c:cF a with
 | true=>rfl
 | false=>unfold aJ at h;rw [c] at h;exact absurd h.symm hs
theorem Lc {kd:Nat} (h:kd≠1):((kd:Int)==1)=false:=mT (by omega)
theorem LY {kd:Nat} (h:kd≠2):((kd:Int)==2)=false:=mT (by omega)
theorem LN {kd:Nat} (h:kd≠4):((kd:Int)==4)=false:=mT (by omega)
theorem Mp:(((1:Nat):Int)==1)=true:=rfl
theorem Mo:(((4:Nat):Int)==1)=false:=rfl
theorem MX:(((4:Nat):Int)==4)=true:=rfl
theorem M9:(((2:Nat):Int)==1)=false:=rfl
theorem MF:(((2:Nat):Int)==2)=true:=rfl
theorem MY:(((2:Nat):Int)==4)=false:=rfl
theorem Nr:((0:Int)==1)=false:=rfl
theorem Ns:((0:Int)==4)=false:=rfl
theorem Nt:((0:Int)==2)=false:=rfl
theorem e0:(⟨#[]⟩:ByteArray).size=0:=rfl
theorem JB {kd b:Nat} {key val:ByteArray} (hb:b<562949953421312) (hc:kd=1∨kd=4) (h:cF ((kd:Int),((b:Int),(key,(val,(0,(0,()))))))=true) :
 aJ ((kd:Int),((b:Int),(key,(val,(0,(0,()))))))=bL kd++(bL b++(bL key.size++(key++(bL val.size++(val++⟨#[]⟩))))):=by
 rcases xJ h with ⟨_,h1⟩ | ⟨h0,_⟩ | ⟨h0,_⟩
 · unfold aJ
   rw [if_pos h,if_pos (show ((kd:Int)=1∨(kd:Int)=4) by omega)]
   simp only [jy]
   rw [eD (by omega),eD hb,eD (by omega),eD (by omega),ku,bF]
 · omega
 · omega
theorem Jd {b:Nat} {key:ByteArray} (hb:b<562949953421312) (h:cF (((2:Nat):Int),((b:Int),(key,(ByteArray.empty,(0,(0,()))))))=true) :
 aJ (((2:Nat):Int),((b:Int),(key,(ByteArray.empty,(0,(0,()))))))=bL 2++(bL b++(bL key.size++(key++⟨#[]⟩))):=by
 rcases xJ h with ⟨h0,_⟩ | ⟨_,h1⟩ | ⟨h0,_⟩
 · omega
 · unfold aJ
   rw [if_pos h,if_neg (show ¬ (((2:Nat):Int)=1∨((2:Nat):Int)=4) by decide),if_pos (show ((2:Nat):Int)=2 from rfl)]
   simp only [jy]
   rw [eD (by omega),eD hb,eD (by omega),ku]
 · omega
theorem Jc {kd b c x:Nat} (hb:b<562949953421312) (hx:c<562949953421312) (hc:kd≠1∧kd≠2∧kd≠4) (h:cF ((kd:Int),((b:Int),(ByteArray.empty,(ByteArray.empty,((c:Int),((x:Int),()))))))=true) :
 aJ ((kd:Int),((b:Int),(ByteArray.empty,(ByteArray.empty,((c:Int),((x:Int),()))))))=bL kd++(bL b++(bL c++(fA x++⟨#[]⟩))):=by
 rcases xJ h with ⟨h0,_⟩ | ⟨h0,_⟩ | ⟨_,h1⟩
 · omega
 · omega
 · unfold aJ
   rw [if_pos h,if_neg (show ¬ ((kd:Int)=1∨(kd:Int)=4) by omega),if_neg (show ¬ (kd:Int)=2 by omega)]
   simp only []
   have hk5:kd≤5:=by omega
   rw [eD (by omega),eD hb,eD hx,ku]
   rfl
theorem pg {k:Nat} (hk:2 ^ 50≤k) {a:Ty.d bA} (h:cF a=true):d6.f k (aJ a)=some (a,(true,())):=by
 unfold d6.f d6.t
 rcases Ao h with ⟨b,kd,hc,hb,ha,z1,z2,e⟩ | ⟨b,hb,ha,z1,e⟩ | ⟨b,kd,c,x,hc,hb,z1,z2,ha,e⟩
 · rw [e]
   rw [ha] at h
   conv=>rhs;rw [ha]
   have v1:=ax kd
   have v2:=ax b
   have v3:=ax a.2.2.1.size
   have v4:=ax a.2.2.2.1.size
   rcases hc with rfl | rfl
   · simp (disch:=first | omega | (simp only [aN,e0];omega)) only [jf hk,pD hk,aZ,ac,aK,Mp,bO,fC,jV,h]
   · simp (disch:=first | omega | (simp only [aN,e0];omega)) only [jf hk,pD hk,aZ,ac,aK,Mo,MX,bO,fC,jV,h]
 · rw [e]
   rw [ha] at h
   conv=>rhs;rw [ha]
   have v1:=ax 2
   have v2:=ax b
   have v3:=ax a.2.2.1.size
   simp (disch:=first | omega | (simp only [aN,e0];omega)) only [jf hk,pD hk,aZ,ac,aK,M9,MF,MY,bO,fC,jV]
   rw [show ((2:Nat):Int)=2 from rfl,h]
   rfl
 · rw [e,ha]
   rw [ha] at h
   have v1:=ax kd
   have v2:=ax b
   have v3:=ax c
   have v4:=nK x
   have hby:=xx k (fA x) ⟨#[]⟩
   rw [nK] at hby
   have hrf:=pr hk z2 ⟨#[]⟩
   rw [ku] at hrf
   rw [show (((4:Nat)):Int)=4 from rfl] at hby
   simp (disch:=first | omega | (simp only [aN,e0];omega)) only [jf hk,hby,hrf,aZ,ac,aK,Lc,LY,LN,bO,fC,jV,h]
theorem wv {k:Nat} (hk:2 ^ 50≤k) {s:ByteArray} (hs:s.size≤1099511627776) :
 (∃ r,cF r=true∧aJ r=s∧d6.f k s=some (r,(true,())))∨d6.f k s=some (tv,(false,())):=by
 have rf0:=ub k (s:=⟨#[]⟩) (by decide)
 unfold d6.f d6.t
 rcases nw s with ⟨kd,t,hkd,rfl⟩ | h0
 case inr =>
  right
  simp (disch:=first | omega | (simp only [aN,e0];omega)) only [r_ hk h0,JD hk,u7 k,rf0,aZ,ac,aK,Nr,Nt,Ns]
 have v1:=ax kd
 rw [aN] at hs
 rcases nw t with ⟨b,t2,hb,rfl⟩ | h1
 case inr =>
  right
  by_cases c1:kd=1
  · subst c1
    simp (disch:=first | omega | (simp only [aN,e0];omega)) only [jf hk,r_ hk h1,xR hk,aZ,ac,aK,Mp]
  by_cases c4:kd=4
  · subst c4
    simp (disch:=first | omega | (simp only [aN,e0];omega)) only [jf hk,r_ hk h1,xR hk,aZ,ac,aK,Mo,MX]
  by_cases c2:kd=2
  · subst c2
    simp (disch:=first | omega | (simp only [aN,e0];omega)) only [jf hk,r_ hk h1,xR hk,aZ,ac,aK,M9,MY,MF]
  · simp (disch:=first | omega | (simp only [aN,e0];omega)) only [jf hk,r_ hk h1,JD hk,u7 k,rf0,aZ,ac,aK,Lc c1,LY c2,LN c4]
 have v2:=ax b
 rw [aN] at hs
 by_cases c2:kd=2
 · subst c2
   rcases od t2 with ⟨key,t3,hu,rfl⟩ | bad
   case inr =>
    right
    obtain ⟨s',hs',e⟩:=yP hk (by omega) bad
    simp (disch:=first | omega | (simp only [aN,e0];omega)) only [jf hk,e,aZ,ac,aK,M9,MY,MF]
   have v3:=ax key.size
   simp only [aN] at hs
   simp (disch:=first | omega | (simp only [aN,e0];omega)) only [jf hk,pD hk,aZ,ac,aK,M9,MY,MF]
   by_cases c:t3=⟨#[]⟩
   · subst c
     simp only [bO,fC,aK,jV,aZ]
     cases hr:cF (((2:Nat):Int),((b:Int),(key,(ByteArray.empty,(0,(0,())))))) with
     | true=>exact .inl ⟨_,hr,Jd hb hr,rfl⟩
     | false=>exact .inr rfl
   · rw [ky c]
     exact .inr rfl
 by_cases c1:kd=1∨kd=4
 · have hcc:(bif ((kd:Int)==1) then true else ((kd:Int)==4))=true:=by rcases c1 with rfl | rfl <;> rfl
   rcases od t2 with ⟨key,t3,hu,rfl⟩ | bad
   case inr =>
    right
    obtain ⟨s',hs',e⟩:=yP hk (by omega) bad
    rcases c1 with rfl | rfl
    · simp (disch:=first | omega | (simp only [aN,e0];omega)) only [jf hk,e,xR hk hs',aZ,ac,aK,Mp]
    · simp (disch:=first | omega | (simp only [aN,e0];omega)) only [jf hk,e,xR hk hs',aZ,ac,aK,Mo,MX]
   have v3:=ax key.size
   simp only [aN] at hs
   rcases od t3 with ⟨val,t4,hv,rfl⟩ | bad
   case inr =>
    right
    obtain ⟨s',hs',e⟩:=yP hk (by omega) bad
    rcases c1 with rfl | rfl
    · simp (disch:=first | omega | (simp only [aN,e0];omega)) only [jf hk,pD hk,e,aZ,ac,aK,Mp]
    · simp (disch:=first | omega | (simp only [aN,e0];omega)) only [jf hk,pD hk,e,aZ,ac,aK,Mo,MX]
   have v4:=ax val.size
   simp only [aN] at hs
   have fin:(bif !seq t4 ⟨#[]⟩ then some (tv,(false,())) else bif !cF ((kd:Int),((b:Int),(key,(val,(0,(0,())))))) then some (tv,(false,())) else some (((kd:Int),((b:Int),(key,(val,(0,(0,())))))),(true,())))=d6.t k (bL kd++(bL b++(bL key.size++(key++(bL val.size++(val++t4)))))):=by
    unfold d6.t
    rcases c1 with rfl | rfl
    · simp (disch:=first | omega | (simp only [aN,e0];omega)) only [jf hk,pD hk,aZ,ac,aK,Mp,jV]
    · simp (disch:=first | omega | (simp only [aN,e0];omega)) only [jf hk,pD hk,aZ,ac,aK,Mo,MX,jV]
   change (∃ r,cF r=true∧aJ r=_∧d6.t k _=some (r,(true,())))∨d6.t k _=some (tv,(false,()))
   rw [← fin]
   by_cases c:t4=⟨#[]⟩
   · subst c
     simp only [bO,fC,aK]
     cases hr:cF ((kd:Int),((b:Int),(key,(val,(0,(0,())))))) with
     | true=>exact .inl ⟨_,hr,JB hb c1 hr,rfl⟩
     | false=>exact .inr rfl
   · rw [ky c]
     exact .inr rfl
 have d1:kd≠1:=fun q=>c1 (.inl q)
 have d4:kd≠4:=fun q=>c1 (.inr q)
 rcases nw t2 with ⟨c,t3,hc,rfl⟩ | h2
 case inr =>
  right
  simp (disch:=first | omega | (simp only [aN,e0];omega)) only [jf hk,r_ hk h2,u7 k,rf0,aZ,ac,aK,Lc d1,LY c2,LN d4]
 have v3:=ax c
 rw [aN] at hs
 rcases zM t3 with ⟨x,t4,hx,rfl⟩ | h3
 case inr =>
  right
  have e:=Ae k (s:=t3) (n:=4) (by omega)
  simp (disch:=first | omega | (simp only [aN,e0];omega)) only [jf hk,e,rf0,aZ,ac,aK,Lc d1,LY c2,LN d4]
 rw [nu] at hs
 have hby:=xx k (fA x) t4
 rw [nK,show (((4:Nat)):Int)=4 from rfl] at hby
 have hrf:=pr hk hx ⟨#[]⟩
 rw [ku] at hrf
 simp (disch:=first | omega | (simp only [aN,e0,nK];omega)) only [jf hk,hby,hrf,aZ,aK,Lc d1,LY c2,LN d4,jV]
 by_cases cc:t4=⟨#[]⟩
 · subst cc
   simp only [bO,fC,aK]
   cases hr:cF ((kd:Int),((b:Int),(ByteArray.empty,(ByteArray.empty,((c:Int),((x:Int),())))))) with
   | true=>exact .inl ⟨_,hr,Jc hb hc ⟨d1,c2,d4⟩ hr,rfl⟩
   | false=>exact .inr rfl
 · rw [ky cc]
   exact .inr rfl
theorem ke (a b:Nat):Int.toNat ((a:Int)+(b:Int))=a+b:=by omega
theorem vz (a:Nat):(((bL a).size:Int)==0)=false:=mT (by have:=ax a;omega)
theorem pT (a:Nat) (t:ByteArray):bL a++t≠⟨#[]⟩:=fun h=>by
 have:=congrArg ByteArray.size h
 rw [aN,e0] at this
 have:=ax a
 omega
theorem qE {r:Ty.d bA} {s:ByteArray} (hs:s≠⟨#[]⟩) :
 (∃ r',cF r'=true∧aJ r'=s∧(bif !seq (aJ r) s then some (tv,(false,())) else bif seq s ⟨#[]⟩ then some (tv,(false,())) else some (r,(true,())))=some (r',(true,()))) ∨
 (bif !seq (aJ r) s then some (tv,(false,())) else bif seq s ⟨#[]⟩ then some (tv,(false,())) else some (r,(true,())))=some (tv,(false,())):=by
 by_cases c:aJ r=s
 · exact .inl ⟨r,FC c hs,c,by rw [Cx c,ky hs];rfl⟩
 · rw [ky c];exact .inr rfl
theorem zm {k:Nat} (hk:2 ^ 50≤k) {a:Ty.d bA} (h:cF a=true):eH.f k (aJ a)=some (a,(true,())):=by
 unfold eH.f eH.t
 rcases Ao h with ⟨b,kd,hc,hb,ha,z1,z2,e⟩ | ⟨b,hb,ha,z1,e⟩ | ⟨b,kd,c,x,hc,hb,z1,z2,ha,e⟩
 · have hs:aJ ((kd:Int),((b:Int),(a.2.2.1,(a.2.2.2.1,(0,(0,()))))))=bL kd++(bL b++(bL a.2.2.1.size++(a.2.2.1++(bL a.2.2.2.1.size++(a.2.2.2.1++⟨#[]⟩))))):=by rw [← ha];exact e
   rw [e]
   conv=>rhs;rw [ha]
   have v1:=ax kd
   have v2:=ax b
   have v3:=ax a.2.2.1.size
   have v4:=ax a.2.2.2.1.size
   rcases hc with rfl | rfl
   · simp (disch:=first | omega | (simp only [aN,e0];omega)) only [cr hk,wV hk,aZ,rH,eO,vz,ac,aK,aE,dX,ke,rU,Mp,dT hk,hs,bO,fC,ky (pT _ _)]
   · simp (disch:=first | omega | (simp only [aN,e0];omega)) only [cr hk,wV hk,aZ,rH,eO,vz,ac,aK,aE,dX,ke,rU,Mo,MX,dT hk,hs,bO,fC,ky (pT _ _)]
 · have hs:aJ (((2:Nat):Int),((b:Int),(a.2.2.1,(ByteArray.empty,(0,(0,()))))))=bL 2++(bL b++(bL a.2.2.1.size++(a.2.2.1++⟨#[]⟩))):=by rw [show ((2:Nat):Int)=2 from rfl,← ha];exact e
   rw [e]
   conv=>rhs;rw [ha]
   have v1:=ax 2
   have v2:=ax b
   have v3:=ax a.2.2.1.size
   simp (disch:=first | omega | (simp only [aN,e0];omega)) only [cr hk,wV hk,aZ,rH,eO,vz,ac,aK,aE,dX,ke,rU,M9,MY,MF,dT hk,hs,bO,fC,ky (pT _ _)]
   rfl
 · have hs:aJ ((kd:Int),((b:Int),(ByteArray.empty,(ByteArray.empty,((c:Int),((x:Int),()))))))=bL kd++(bL b++(bL c++(fA x++⟨#[]⟩))):=by rw [← ha];exact e
   rw [e,ha]
   have v1:=ax kd
   have v2:=ax b
   have v3:=ax c
   have v4:=nK x
   simp (disch:=first | omega | (simp only [aN,e0];omega)) only [cr hk,q_ hk z2,aZ,rH,eO,vz,ac,aK,aE,dX,ke,rU,Lc,LY,LN,dT hk,hs,bO,fC,ky (pT _ _)]
theorem ww {k:Nat} (hk:2 ^ 50≤k) {s:ByteArray} (hs:s.size≤1099511627776) :
 (∃ r,cF r=true∧aJ r=s∧eH.f k s=some (r,(true,())))∨eH.f k s=some (tv,(false,())):=by
 unfold eH.f eH.t
 rcases nw s with ⟨kd,t,hkd,rfl⟩ | h0
 case inr =>
  right
  rw [kU hk h0,aZ]
  simp only []
  rw [dX (by omega) (by omega),g8 hk,aZ]
  rfl
 have v1:=ax kd
 rw [aN] at hs
 rcases nw t with ⟨b,t2,hb,rfl⟩ | h1
 case inr =>
  right
  simp (disch:=first | omega | (simp only [aN,e0];omega)) only [cr hk,kU hk h1,aZ,rH,eO,vz,ac,aK,aE,dX,show (((0:Int)==0))=true from rfl]
 have v2:=ax b
 rw [aN] at hs
 by_cases c2:kd=2
 · subst c2
   rcases od t2 with ⟨key,t3,hu,rfl⟩ | bad
   · simp only [aN] at hs
     simp (disch:=first | omega | (simp only [aN,e0];omega)) only [cr hk,wV hk,aZ,rH,eO,vz,ac,aK,aE,dX,ke,rU,M9,MY,MF,dT hk]
     exact qE (pT _ _)
   · have hb5:=zf hk (by omega) bad
     simp (disch:=first | omega | (simp only [aN,e0];omega)) only [cr hk,hb5,aZ,rH,eO,vz,ac,aK,aE,dX,ke,rU,M9,MY,MF,dT hk]
     exact qE (pT _ _)
 by_cases c1:kd=1∨kd=4
 · have em:ck.f k ⟨#[]⟩=some (⟨#[]⟩,(⟨#[]⟩,(false,()))):=zf hk (by decide) (.inl rfl)
   obtain ⟨u,l,bb,hl,e⟩:∃ u l bb,l.size≤1099511627776∧ck.f k t2=some (u,(l,(bb,()))):=by
    rcases od t2 with ⟨key,t3,hu,rfl⟩ | bad
    · simp only [aN] at hs
      exact ⟨_,_,_,by omega,wV hk hu (by simp only [aN];omega)⟩
    · exact ⟨_,_,_,by decide,zf hk (by omega) bad⟩
   obtain ⟨u2,l2,bb2,e2⟩:∃ u l' bb,ck.f k l=some (u,(l',(bb,()))):=by
    rcases od l with ⟨key,t3,hu,rfl⟩ | bad
    · exact ⟨_,_,_,wV hk hu (by simp only [aN] at hl ⊢;omega)⟩
    · exact ⟨_,_,_,zf hk hl bad⟩
   rcases c1 with rfl | rfl
   · simp (disch:=first | omega | (simp only [aN,e0];omega)) only [cr hk,e,e2,aZ,rH,eO,vz,ac,aK,aE,dX,ke,rU,Mp,dT hk]
     exact qE (pT _ _)
   · simp (disch:=first | omega | (simp only [aN,e0];omega)) only [cr hk,e,e2,aZ,rH,eO,vz,ac,aK,aE,dX,ke,rU,Mo,MX,dT hk]
     exact qE (pT _ _)
 have d1:kd≠1:=fun q=>c1 (.inl q)
 have d4:kd≠4:=fun q=>c1 (.inr q)
 have rf:∀ u:ByteArray,∃ z zb,bg.f k u 4=some (z,(zb,())):=fun u=>by
  rcases zM u with ⟨x,t,hx,rfl⟩ | q
  · exact ⟨_,_,q_ hk hx t⟩
  · exact ⟨_,_,uU k q⟩
 rcases nw t2 with ⟨c,t3,hc,rfl⟩ | h2
 · have v3:=ax c
   rw [aN] at hs
   obtain ⟨z,zb,e⟩:=rf t3
   simp (disch:=first | omega | (simp only [aN,e0];omega)) only [cr hk,e,aZ,rH,eO,vz,ac,aK,aE,dX,ke,rU,Lc d1,LY c2,LN d4,dT hk]
   exact qE (pT _ _)
 · obtain ⟨z,zb,e⟩:=rf (ByteArray.extract t2 (Int.toNat 0) t2.size)
   simp (disch:=first | omega | (simp only [aN,e0];omega)) only [cr hk,kU hk h2,e,aZ,rH,eO,vz,ac,aK,aE,dX,ke,rU,Lc d1,LY c2,LN d4,dT hk]
   exact qE (pT _ _)
noncomputable def gp (s:ByteArray):Ty.d bA × Bool:=pc (fun r=>cF r=true) aJ tv s
theorem s_ {k:Nat} (hk:2 ^ 50≤k) {s:ByteArray} (hs:s.size≤1099511627776):d6.f k s=some ((gp s).1,((gp s).2,())) :=
 sv (fun r h1 h2=>by rw [← h2];exact pg hk h1) (wv hk hs)
theorem s5 {k:Nat} (hk:2 ^ 50≤k) {s:ByteArray} (hs:s.size≤1099511627776):eH.f k s=some ((gp s).1,((gp s).2,())) :=
 sv (fun r h1 h2=>by rw [← h2];exact zm hk h1) (ww hk hs)
theorem D8 {a b:Ty.d bA} (ha:cF a=true) (hb:cF b=true) (h:aJ a=aJ b):a=b:=by
 have h1:=pg (k:=2 ^ 50) (Nat.le_refl _) ha
 rw [h,pg (Nat.le_refl _) hb] at h1
 exact (Prod.mk.inj (Option.some.inj h1)).1.symm
theorem uR {a:Ty.d bA} (h:cF a=true):gp (aJ a)=(a,true):=Gx (fun _ _ ha hb=>D8 ha hb) h
theorem zO {s:ByteArray} {r:Ty.d bA} (h:gp s=(r,true)):cF r=true∧aJ r=s:=BU h
theorem qX {t:ByteArray} (h:t.size≤200):∃ x,x<4294967296∧aP t=fA x++(bL t.size++t):=by
 have:=vA (jy t)
 refine ⟨(ra (jy t)).toNat,by omega,?_⟩
 unfold aP uI
 rw [if_neg (by omega)]
 unfold jy
 rw [eD (by omega)]
theorem HV {t u s r:ByteArray} (ht:t.size≤200) (hu:u.size≤200) (h:aP t++s=aP u++r):t=u∧s=r:=by
 obtain ⟨x,hx,e⟩:=qX ht
 obtain ⟨y,hy,f⟩:=qX hu
 rw [e,f,bF,bF,bF,bF] at h
 have h2:=(sX h rfl).2
 obtain ⟨h3,h4⟩:=y6 (by omega) (by omega) h2
 exact sX h4 h3
theorem Aq (x:Nat) (u:ByteArray):ByteArray.extract (fA x++u) 4 (fA x++u).size=u:=eO (fA x) u
theorem N9 (x:Nat) (v t r:ByteArray):ByteArray.extract (fA x++(v++(t++r))) (4+v.size) (4+v.size+t.size)=t:=by
 have:=NQ (fA x++v) t r
 rw [aN,nK,bF] at this
 exact this
theorem LZ (x:Nat) (v t r:ByteArray):ByteArray.extract (fA x++(v++(t++r))) 0 (4+v.size+t.size)=fA x++(v++t):=by
 have:=Di (fA x++(v++t)) r
 rw [aN,aN,nK,bF,bF,← Nat.add_assoc] at this
 exact this
theorem c4 (a:Nat):(4:Int)+(a:Int)=((4+a:Nat):Int):=rfl
theorem yM {k:Nat} (hk:2 ^ 50≤k) {x:Nat} {t r:ByteArray} (ht:t.size≤200) (hr:t.size+r.size≤1099511627776) :
 dr.f k (fA x++(bL t.size++(t++r)))=bif !seq (aP t) (fA x++(bL t.size++t)) then some (⟨#[]⟩,(0,())) else some (t,(((4+(bL t.size).size+t.size:Nat):Int),())):=by
 have v1:=ax t.size
 have z1:(fA x++(bL t.size++(t++r))).size=4+((bL t.size).size+(t.size+r.size)):=by rw [nu,aN,aN]
 unfold dr.f dr.t
 rw [aQ (by omega),aK,dX (by omega) (by omega),Aq,oj hk (by omega) (by rw [aN];omega),aZ]
 simp only [vz,aK]
 rw [aQ (by omega),aK,aE (n:=((fA x++(bL t.size++(t++r))).size:Int)-4) (by omega) (by omega),aE (n:=((fA x++(bL t.size++(t++r))).size:Int)-4-_) (by omega) (by omega),aQ (by omega),aK,
  c4,aE (by omega) (by omega),um,aE (by omega) (by omega),vC (by omega) (by omega) (by omega),rH,rH,N9,BQ hk,aZ,dX (by omega) (by omega),LZ]
theorem xc {k:Nat} (hk:2 ^ 50≤k) {x:Nat} {t r:ByteArray} (ht:t.size≤200) (hr:t.size+r.size≤1099511627776) :
 dj.f k (fA x++(bL t.size++(t++r)))=bif !seq (aP t) (fA x++(bL t.size++t)) then some (⟨#[]⟩,(0,())) else some (t,(((4+(bL t.size).size+t.size:Nat):Int),())):=by
 have v1:=ax t.size
 have z1:(fA x++(bL t.size++(t++r))).size=4+((bL t.size).size+(t.size+r.size)):=by rw [nu,aN,aN]
 unfold dj.f dj.t
 rw [aQ (by omega),aK,dX (by omega) (by omega),Aq,cr hk (by omega),aZ]
 simp only [vz,aK]
 rw [aQ (by omega),aK,aE (n:=((fA x++(bL t.size++(t++r))).size:Int)-4) (by omega) (by omega),aE (n:=((fA x++(bL t.size++(t++r))).size:Int)-4-_) (by omega) (by omega),aQ (by omega),aK,
  c4,aE (by omega) (by omega),um,aE (by omega) (by omega),vC (by omega) (by omega) (by omega),rH,rH,N9,ml hk,dX (by omega) (by omega),aZ,LZ,
  show seq (fA x++(bL t.size++t)) (aP t)=seq (aP t) (fA x++(bL t.size++t)) by rw [Ge,Ge];exact decide_eq_decide.2 ⟨Eq.symm,Eq.symm⟩]
theorem Jr (s:ByteArray) (hs:s.size≤1099511627776):(∃ x t r,x<4294967296∧t.size≤200∧t.size+r.size≤1099511627776∧s=fA x++(bL t.size++(t++r)))∨s.size<5∨(∃ x u,x<4294967296∧s=fA x++u∧1≤u.size∧rv 7 (nb u)=none) ∨
 (∃ x a u,x<4294967296∧a<562949953421312∧s=fA x++(bL a++u)∧(200<a∨u.size<a)):=by
 rcases zM s with ⟨x,u,hx,rfl⟩ | h
 · rw [nu] at hs
   rcases nw u with ⟨a,v,ha,rfl⟩ | h
   · rw [aN] at hs
     by_cases c:200<a∨v.size<a
     · exact .inr (.inr (.inr ⟨x,a,v,hx,ha,rfl,c⟩))
     · left
       have e:=D5 v (n:=a) (by omega)
       have hz:(ByteArray.extract v 0 a).size=a:=by rw [← cp,mI,List.length_take,cp];omega
       refine ⟨x,ByteArray.extract v 0 a,ByteArray.extract v a v.size,hx,by omega,?_,by rw [hz,← e]⟩
       have:=congrArg ByteArray.size e
       rw [aN] at this
       omega
   · by_cases c:1≤u.size
     · exact .inr (.inr (.inl ⟨x,u,hx,rfl,c,h⟩))
     · exact .inr (.inl (by rw [nu];omega))
 · exact .inr (.inl (by omega))
theorem wy {k:Nat} (hk:2 ^ 50≤k) {s:ByteArray} (hs:s.size≤1099511627776) (h:s.size<5∨(∃ x u,x<4294967296∧s=fA x++u∧1≤u.size∧rv 7 (nb u)=none) ∨
 (∃ x a u,x<4294967296∧a<562949953421312∧s=fA x++(bL a++u)∧(200<a∨u.size<a))):dr.f k s=some (⟨#[]⟩,(0,())):=by
 unfold dr.f dr.t
 rcases h with h | ⟨x,u,hx,rfl,hu,h⟩ | ⟨x,a,u,hx,ha,rfl,h⟩
 · by_cases c:s.size<4
   · rw [aO (by omega),ac]
   · have e:ByteArray.extract s 4 s.size=⟨#[]⟩:=lA (by rw [iR,List.drop_eq_nil_of_le (by rw [cp];omega)];rfl)
     rw [aQ (by omega),aK,dX (by omega) (by omega),e,o9 hk rfl (by decide),aZ]
     rfl
 · rw [nu] at hs
   rw [aQ (by rw [nu];omega),aK,dX (by omega) (by rw [nu];omega),Aq,o9 hk h (by omega),aZ]
   rfl
 · have v1:=ax a
   have z1:(fA x++(bL a++u)).size=4+((bL a).size+u.size):=by rw [nu,aN]
   rw [aQ (by omega),aK,dX (by omega) (by omega),Aq,oj hk ha (by omega),aZ]
   simp only [vz,aK]
   by_cases c:200<a
   · rw [aO (by omega),ac]
   · rw [aQ (by omega),aK,aE (n:=((fA x++(bL a++u)).size:Int)-4) (by omega) (by omega),aE (n:=((fA x++(bL a++u)).size:Int)-4-_) (by omega) (by omega),aO (by omega),ac]
theorem wg {k:Nat} (hk:2 ^ 50≤k) {s:ByteArray} (hs:s.size≤1099511627776) (h:s.size<5∨(∃ x u,x<4294967296∧s=fA x++u∧1≤u.size∧rv 7 (nb u)=none) ∨
 (∃ x a u,x<4294967296∧a<562949953421312∧s=fA x++(bL a++u)∧(200<a∨u.size<a))):dj.f k s=some (⟨#[]⟩,(0,())):=by
 unfold dj.f dj.t
 rcases h with h | ⟨x,u,hx,rfl,hu,h⟩ | ⟨x,a,u,hx,ha,rfl,h⟩
 · rw [aO (by omega),ac]
 · rw [nu] at hs
   rw [aQ (by rw [nu];omega),aK,dX (by omega) (by rw [nu];omega),Aq,kU hk h,aZ]
   rfl
 · have v1:=ax a
   have z1:(fA x++(bL a++u)).size=4+((bL a).size+u.size):=by rw [nu,aN]
   rw [aQ (by omega),aK,dX (by omega) (by omega),Aq,cr hk ha,aZ]
   simp only [vz,aK]
   by_cases c:200<a
   · rw [aO (by omega),ac]
   · rw [aQ (by omega),aK,aE (n:=((fA x++(bL a++u)).size:Int)-4) (by omega) (by omega),aE (n:=((fA x++(bL a++u)).size:Int)-4-_) (by omega) (by omega),aO (by omega),ac]
section
open Classical
noncomputable def gS (s:ByteArray):ByteArray × Int:=if h:∃ t r,t.size≤200∧s=aP t++r then (h.choose,((aP h.choose).size:Int)) else (⟨#[]⟩,0)
theorem oO {t:ByteArray} (r:ByteArray) (h:t.size≤200):gS (aP t++r)=(t,((aP t).size:Int)):=by
 have q:∃ u v,u.size≤200∧aP t++r=aP u++v:=⟨t,r,h,rfl⟩
 unfold gS
 rw [dif_pos q]
 obtain ⟨v,h1,h2⟩:=q.choose_spec
 have:=(HV h h1 h2).1
 rw [← this]
theorem oM (s:ByteArray):(∃ t r,t.size≤200∧s=aP t++r∧gS s=(t,((aP t).size:Int)))∨(gS s=(⟨#[]⟩,0)∧∀ t r,t.size≤200→s≠aP t++r):=by
 by_cases q:∃ t r,t.size≤200∧s=aP t++r
 · obtain ⟨t,r,h,rfl⟩:=q
   exact .inl ⟨t,r,h,rfl,oO r h⟩
 · right
   refine ⟨?_,fun t r h e=>q ⟨t,r,h,e⟩⟩
   unfold gS
   rw [dif_neg q]
end
theorem Ld {k:Nat} {f:ByteArray→Option (ByteArray × Int × Unit)} (h1:∀ x t r,x<4294967296→t.size≤200→t.size+r.size≤1099511627776→f (fA x++(bL t.size++(t++r)))=bif !seq (aP t) (fA x++(bL t.size++t)) then some (⟨#[]⟩,(0,())) else some (t,(((4+(bL t.size).size+t.size:Nat):Int),())))
 (h2:∀ s,s.size≤1099511627776→(s.size<5∨(∃ x u,x<4294967296∧s=fA x++u∧1≤u.size∧rv 7 (nb u)=none)∨(∃ x a u,x<4294967296∧a<562949953421312∧s=fA x++(bL a++u)∧(200<a∨u.size<a)))→f s=some (⟨#[]⟩,(0,())))
 {s:ByteArray} (hs:s.size≤1099511627776):f s=some ((gS s).1,((gS s).2,())):=by
 rcases Jr s hs with ⟨x,t,r,hx,ht,hr,rfl⟩ | h
 · rw [h1 x t r hx ht hr]
   by_cases c:aP t=fA x++(bL t.size++t)
   · have e:fA x++(bL t.size++(t++r))=aP t++r:=by rw [c,bF,bF]
     rw [Cx c,e,oO r ht,c,nu,aN,Nat.add_assoc]
     rfl
   · rw [ky c]
     rcases oM (fA x++(bL t.size++(t++r))) with ⟨t',r',ht',e,_⟩ | ⟨e,_⟩
     · exfalso
       obtain ⟨y,hy,f'⟩:=qX ht'
       rw [f',bF,bF] at e
       have h3:=sX e rfl
       obtain ⟨h4,h5⟩:=y6 (by omega) (by omega) h3.2
       have h6:=sX h5 h4
       apply c
       rw [h6.1,f',h3.1]
     · rw [e];rfl
 · rw [h2 s hs h]
   rcases oM s with ⟨t',r',ht',e,_⟩ | ⟨e,_⟩
   · exfalso
     obtain ⟨y,hy,f'⟩:=qX ht'
     have hp:=lL ht'
     rw [f',bF,bF] at e
     rcases h with h | ⟨x,u,hx,e2,hu,h⟩ | ⟨x,a,u,hx,ha,e2,h⟩
     · rw [e,nu,aN] at h
       have:=ax t'.size
       omega
     · rw [e2] at e
       rw [(sX e rfl).2,rr (by omega)] at h
       cases h
     · rw [e2] at e
       obtain ⟨h4,h5⟩:=y6 ha (by omega) (sX e rfl).2
       rw [h5,h4,aN] at h
       omega
   · rw [e]
theorem rS {k:Nat} (hk:2 ^ 50≤k) {s:ByteArray} (hs:s.size≤1099511627776):dr.f k s=some ((gS s).1,((gS s).2,())) :=
 Ld (k:=k) (fun x t r _ ht hr=>yM hk ht hr) (fun s hs h=>wy hk hs h) hs
theorem mj {k:Nat} (hk:2 ^ 50≤k) {s:ByteArray} (hs:s.size≤1099511627776):dj.f k s=some ((gS s).1,((gS s).2,())) :=
 Ld (k:=k) (fun x t r _ ht hr=>xc hk ht hr) (fun s hs h=>wg hk hs h) hs
theorem nF (s:ByteArray):(gS s).1.size≤200∧((gS s).2=0∨5≤(gS s).2)∧(gS s).2≤s.size∧(gS s).2≤211:=by
 rcases oM s with ⟨t,r,h,rfl,e⟩ | ⟨e,_⟩
 · rw [e,aN]
   have:=lL h
   have:=mM t
   refine ⟨h,?_,?_,?_⟩ <;> simp only [] <;> omega
 · rw [e]
   refine ⟨by simp only [e0];omega,.inl rfl,by simp only [];omega,by simp only [];omega⟩
theorem xM:gS ⟨#[]⟩=(⟨#[]⟩,0):=by
 rcases oM ⟨#[]⟩ with ⟨t,r,h,e,_⟩ | ⟨e,_⟩
 · have:=congrArg ByteArray.size e
   rw [aN,e0] at this
   have:=lL h
   omega
 · exact e
noncomputable def gC (s:ByteArray):Nat→Int→List (Ty.d bK) × Int
 | 0,at_=>([],at_)
 | d+1,at_ =>
  if (gS (ByteArray.extract s at_.toNat s.size)).2=0 then ([],at_)
  else if (gp (gS (ByteArray.extract s at_.toNat s.size)).1).2=false then ([],at_)
  else (((at_,((gS (ByteArray.extract s at_.toNat s.size)).2,((gp (gS (ByteArray.extract s at_.toNat s.size)).1).1,()))):Ty.d bK)::(gC s d (at_+(gS (ByteArray.extract s at_.toNat s.size)).2)).1,
   (gC s d (at_+(gS (ByteArray.extract s at_.toNat s.size)).2)).2)
noncomputable def bP (s:ByteArray):List (Ty.d bK) × Int:=gC s (s.size+1) 0
theorem qG (s:ByteArray) (n:Nat):(ByteArray.extract s n s.size).size=s.size-n:=by rw [← cp,iR,List.length_drop,cp]
theorem Ln {k:Nat} (hk:2 ^ 50≤k) {s:ByteArray} (hs:s.size≤1099511627776):∀ (d n:Nat) (i:Int) (out:List (Ty.d bK)),0≤i→i≤s.size→(s.size:Int)-i<d→d≤n→(out.length:Int)≤i →
 d8.l0 k n s i out=some (out++(gC s d i).1,((gC s d i).2,()))∧ba.l0 k n s i out=some (out++(gC s d i).1,((gC s d i).2,())):=by
 intro d
 induction d with
 | zero=>intro n i out h0 h1 h2;omega
 | succ d ih =>
  intro n i out h0 h1 h2 h3 h4
  obtain ⟨n,rfl⟩:∃ q,n=q+1:=⟨n-1,by omega⟩
  have hz:=qG s i.toNat
  have hu:=nF (ByteArray.extract s i.toNat s.size)
  have e1:=rS hk (s:=ByteArray.extract s i.toNat s.size) (by omega)
  have e2:=mj hk (s:=ByteArray.extract s i.toNat s.size) (by omega)
  have hnil:i=s.size→(gS (ByteArray.extract s i.toNat s.size)).2=0:=fun q=>by
   have:ByteArray.extract s i.toNat s.size=⟨#[]⟩:=lA (by rw [iR,List.drop_eq_nil_of_le (by rw [cp];omega)];rfl)
   rw [this,xM]
  simp only [gC]
  generalize gS (ByteArray.extract s i.toNat s.size)=u at *
  have e3:=s_ hk (s:=u.1) (by omega)
  have e4:=s5 hk (s:=u.1) (by omega)
  generalize gp u.1=r at *
  by_cases c:u.2=0
  · rw [if_pos c]
    have cb:(u.2==0)=true:=by rw [c];rfl
    simp only [List.append_nil]
    constructor
    · simp (disch:=omega) only [d8.l0,d8.b0,dX,e1,e3,aZ,cb,ac]
    · by_cases q:i<s.size
      · simp (disch:=omega) only [ba.l0,ba.b0,aO,dX,e2,e4,aZ,cb,ac]
      · simp (disch:=omega) only [ba.l0,ba.b0,aQ,aK]
  · rw [if_neg c]
    have cb:(u.2==0)=false:=mT c
    have hlt:i<s.size:=by
     rcases Int.lt_or_eq_of_le h1 with q | q
     · exact q
     · exact absurd (hnil q) c
    cases hr:r.2 with
    | false =>
     simp only [if_true,List.append_nil]
     constructor
     · simp (disch:=omega) only [d8.l0,d8.b0,dX,e1,e3,aZ,cb,ac,aK,hr,u6]
     · simp (disch:=omega) only [ba.l0,ba.b0,aO,dX,e2,e4,aZ,cb,ac,aK,hr,u6]
    | true =>
     rw [if_neg (by decide)]
     have hlen:out.length+1≤1099511627777:=by omega
     have ih:=ih n (i+u.2) (out++[(i,(u.2,(r.1,())))]) (by omega) (by omega) (by omega) (by omega) (by rw [zT];show ((out.length+1:Nat):Int)≤_;omega)
     simp only [rP,List.cons_append,List.nil_append] at ih
     constructor
     · simp (disch:=first | omega | decide) only [d8.l0,d8.b0,dX,e1,e3,aZ,cb,ac,aK,hr,fC,cO,aE]
       exact ih.1
     · simp (disch:=first | omega | decide) only [ba.l0,ba.b0,aO,dX,e2,e4,aZ,cb,ac,aK,hr,fC,cO,aE]
       exact ih.2
theorem EO {k:Nat} (hk:2 ^ 50≤k) {s:ByteArray} (hs:s.size≤1099511627775):d8.f k s=some ((bP s).1,((bP s).2,())) :=
 (Ln hk (by omega) (s.size+1) k 0 [] (by omega) (by omega) (by omega) (by omega) (by simp)).1
theorem o7 {k:Nat} (hk:2 ^ 50≤k) {s:ByteArray} (hs:s.size≤1099511627775):ba.f k s=some ((bP s).1,((bP s).2,())) :=
 (Ln hk (by omega) (s.size+1) k 0 [] (by omega) (by omega) (by omega) (by omega) (by simp)).2
theorem vX (s:ByteArray):∀ (d:Nat) (i:Int),0≤i→i≤s.size→((gC s d i).1.length:Int)≤s.size-i∧i≤(gC s d i).2∧(gC s d i).2≤s.size
 | 0,i,h0,h1=>by simp only [gC,List.length_nil];omega
 | d+1,i,h0,h1=>by
  have hu:=nF (ByteArray.extract s i.toNat s.size)
  have hz:=qG s i.toNat
  rw [gC]
  split
  · simp only [List.length_nil];omega
  · split
    · simp only [List.length_nil];omega
    · rename_i c1 c2
      have ih:=vX s d (i+(gS (ByteArray.extract s i.toNat s.size)).2) (by omega) (by omega)
      simp only [mB]
      omega
theorem kp (s:ByteArray):(bP s).1.length≤s.size∧0≤(bP s).2∧(bP s).2≤s.size:=by
 have:=vX s (s.size+1) 0 (by omega) (by omega)
 unfold bP
 omega
theorem KE (d:Nat) {a:Nat} (h:a<128):(vl d a).length=1:=by
 cases d with
 | zero=>rfl
 | succ d=>unfold vl;rw [if_neg (by omega)];rfl
theorem Ke {a:Nat} (h:a<2097152):(vl 6 a).length≤3:=by
 unfold vl
 split
 · rw [mB]
   unfold vl
   split
   · rw [mB,KE 4 (by omega)]
     omega
   · simp
 · simp
theorem tT {a:Int} (h0:0≤a) (h1:a≤100000):(jC a).size≤3:=by
 obtain ⟨n,rfl⟩:=Int.eq_ofNat_of_zero_le h0
 rw [eD (by omega),← s9 (by omega)]
 exact Ke (by omega)
def gK:List Int→ByteArray
 | []=>⟨#[]⟩
 | x::l=>jC x++gK l
theorem wA:∀ (l:List Int),(∀ x ∈ l,0≤x∧x≤100000)→(gK l).size≤3*l.length
 | [],_=>Nat.le_refl _
 | x::l,h=>by
  have h1:=tT (h x (li ..)).1 (h x (li ..)).2
  have h2:=wA l fun y hy=>h y (nX _ hy)
  rw [gK,aN,mB]
  omega
theorem xf:∀ (l:List Int),(gK l).size≤7*l.length
 | []=>Nat.le_refl _
 | x::l=>by
  have h1:=cB x
  have h2:=xf l
  rw [gK,aN,mB]
  omega
def qP (v:Ty.d bo):ByteArray:=jC v.1++(jC (v.2.1.length:Int)++gK v.2.1)
def cV (v:Ty.d bo):ByteArray:=if dL v=true then aP (qP v) else ⟨#[]⟩
theorem cX {nx:Int} {ids:List Int} (h:dL (nx,(ids,()))=true):1≤nx∧nx≤100000∧1≤ids.length∧ids.length≤60∧∀ x ∈ ids,0≤x∧x≤100000:=by
 unfold dL at h
 simp only [iI,decide_eq_true_eq] at h
 obtain ⟨h1,h2,h3⟩:=h
 have h1a:1≤nx:=h1.1
 have h1b:nx≤100000:=h1.2
 refine ⟨h1a,h1b,by omega,by omega,fun x hx=>?_⟩
 obtain ⟨p,hp⟩:=Cf h3 hx
 unfold o6 at hp
 rw [iI,decide_eq_true_eq] at hp
 have hw:aG (nx-1)=nx-1:=aE (by omega) (by omega)
 have h4:x≤aG (nx-1):=hp.1.2
 have h5:1≤x:=hp.1.1
 omega
theorem FD {nx:Int} {ids:List Int} (h:dL (nx,(ids,()))=true):(qP (nx,(ids,()))).size≤200:=by
 obtain ⟨h1,h2,h3,h4,h5⟩:=cX h
 have a:=tT (a:=nx) (by omega) h2
 have b:=tT (a:=(ids.length:Int)) (by omega) (by omega)
 have c:=wA ids h5
 unfold qP
 rw [aN,aN]
 simp only []
 omega
theorem m9 {k:Nat} (hk:2 ^ 50≤k) (v:Ty.d bo):dP.f k v=some (cV v,()):=by
 unfold dP.f dP.t cV
 rw [sK hk,aZ]
 cases c:dL v with
 | false=>rfl
 | true =>
  obtain ⟨h1,h2,h3,h4,h5⟩:=cX (nx:=v.1) (ids:=v.2.1) c
  have a:=cB v.1
  have b:=cB (v.2.1.length:Int)
  rw [fC,aK,gw hk,aZ,gw hk,aZ,if_pos rfl]
  simp only []
  rw [gf (by omega)]
  refine (fa (L:=fun n i s=>dP.l0 k n s i v.1 v.2.1) (R:=fun r s=>some (aP (s++gK r),())) (Ty.z (.int .i64)) v.2.1 (fun i s=>(s.size:Int)≤14+7*i) (fun n s hs=>?_) (fun n i s x rest g0 g1 hx hr hs ih=>?_) (n:=k) (by omega) (by rw [aN];omega)).trans (by rw [bF];rfl)
  · simp (disch:=omega) only [dP.l0,dP.b0,aQ,aK,ml hk,aZ]
    rw [show gK []=⟨#[]⟩ from rfl,ku]
  · have hv:=cB x
    have ih:=ih (s++jC x) (by rw [aN];omega)
    simp (disch:=omega) only [dP.l0,dP.b0,aO g1,ac,aI,hx,gw hk,aZ,gf,aE,ih]
    rw [bF]
    rfl
noncomputable def fo (s:ByteArray):Ty.d bo × Bool:=pc (fun v=>dL v=true) cV (0,([],())) s
theorem C8 (s:ByteArray):0≤(G2 (rv 7 (nb s))).2.1∧(G2 (rv 7 (nb s))).2.1≤(s.size:Int):=by
 cases h:rv 7 (nb s) with
 | none=>exact ⟨Int.le_refl _,by show (0:Int)≤_;omega⟩
 | some p =>
  obtain ⟨a,n⟩:=p
  obtain ⟨h1,h2,h3,h4,h5,h6⟩:=rC 6 (nb s) a n (ta s) h
  rw [cp] at h4
  exact ⟨by show (0:Int)≤(n:Int);omega,by show (n:Int)≤_;omega⟩
def Nm:Option (Ty.d bo × Bool × Unit):=some ((0,([],())),(false,()))
theorem CM {k:Nat} (hk:2 ^ 50≤k) {s t:ByteArray} (ht:t.size≤200) (c nx:Int):∀ (d n:Nat) (pos j:Int) (out:List Int),60-j=d→d<n→0≤pos→pos≤t.size→0≤j→(out.length:Int)≤j →
 ∃ o,bT.l0 k n s t c pos j [] 0 out nx=bif !seq (cV (nx,(o,()))) s then Nm else some ((nx,(o,())),(true,())):=by
 intro d
 induction d with
 | zero =>
  intro n pos j out hj hn h0 h1 h2 h3
  obtain ⟨n,rfl⟩:∃ q,n=q+1:=⟨n-1,by omega⟩
  refine ⟨out,?_⟩
  simp only [bT.l0,bT.b0]
  rw [aQ (show ¬ j<60 by omega),aK,m9 hk,aZ]
  cases decide (j<c) <;> cases seq (cV (nx,(out,()))) s <;> rfl
 | succ d ih =>
  intro n pos j out hj hn h0 h1 h2 h3
  obtain ⟨n,rfl⟩:∃ q,n=q+1:=⟨n-1,by omega⟩
  by_cases c1:j<c
  · have hr:=C8 (ByteArray.extract t pos.toNat t.size)
    have he:(ByteArray.extract t pos.toNat t.size).size=t.size-pos.toNat:=by rw [← cp,iR,List.length_drop,cp]
    rw [he] at hr
    obtain ⟨o,ho⟩:=ih n (pos+(G2 (rv 7 (nb (ByteArray.extract t pos.toNat t.size)))).2.1) (j+1) (out++[(G2 (rv 7 (nb (ByteArray.extract t pos.toNat t.size)))).1]) (by omega) (by omega) (by omega) (by omega) (by omega) (by rw [d_];omega)
    refine ⟨o,?_⟩
    simp only [bT.l0,bT.b0]
    rw [aO c1,aO (show j<60 by omega),ac,ac,dX h0 h1,g8 hk,aZ,cO (by omega) (by decide),aE (n:=pos+_) (by omega) (by omega),aE (n:=j+1) (by omega) (by omega)]
    exact ho
  · refine ⟨out,?_⟩
    simp only [bT.l0,bT.b0]
    rw [aQ c1,aK,m9 hk,aZ]
    cases seq (cV (nx,(out,()))) s <;> rfl
theorem yj {x:Int} (h0:0≤x) (h1:x≤100000):∃ n:Nat,n<562949953421312∧x=(n:Int)∧jC x=bL n:=by
 obtain ⟨n,rfl⟩:=Int.eq_ofNat_of_zero_le h0
 exact ⟨n,by omega,rfl,eD (by omega)⟩
theorem EY {k:Nat} (hk:2 ^ 50≤k) {s:ByteArray} (nx:Int):∀ (ids:List Int) (pre:ByteArray) (n:Nat) (j c:Int) (out:List Int),(∀ x ∈ ids,0≤x∧x≤100000)→ids.length<n→0≤j→c=j+ids.length→c≤60→pre.size+7*ids.length≤1000→(out.length:Int)≤j →
 bT.l0 k n s (pre++gK ids) c (pre.size:Int) j [] 0 out nx=bif !seq (cV (nx,(out++ids,()))) s then Nm else some ((nx,(out++ids,())),(true,())):=by
 intro ids
 induction ids with
 | nil =>
  intro pre n j c out h hn h0 hc h1 hp ho
  obtain ⟨n,rfl⟩:∃ q,n=q+1:=⟨n-1,by omega⟩
  rw [List.length_nil] at hc
  simp only [bT.l0,bT.b0]
  rw [aQ (show ¬ j<c by omega),aK,m9 hk,aZ,List.append_nil]
  cases seq (cV (nx,(out,()))) s <;> rfl
 | cons x ids ih =>
  intro pre n j c out h hn h0 hc h1 hp ho
  rw [mB] at hn hc
  obtain ⟨n,rfl⟩:∃ q,n=q+1:=⟨n-1,by omega⟩
  obtain ⟨a,ha,hx,hv⟩:=yj (h x (li ..)).1 (h x (li ..)).2
  have hvs:=ax a
  have hts:=xf (x::ids)
  rw [mB] at hts
  have ih:=ih (pre++bL a) n (j+1) c (out++[x]) (fun y hy=>h y (nX _ hy)) (by omega) (by omega) (by omega) h1 ?_ (by rw [d_];omega)
  · have he:ByteArray.extract (pre++gK (x::ids)) pre.size (pre++gK (x::ids)).size=bL a++gK ids:=by rw [eO,gK,hv]
    simp only [bT.l0,bT.b0]
    rw [aO (show j<c by omega),aO (show j<60 by omega),ac,ac,dX (by omega) (by rw [aN];omega),Int.toNat_natCast,he,g8 hk,aZ,rr ha]
    simp only [G2]
    rw [cO (by omega) (by decide),aE (by omega) (by omega),aE (by omega) (by omega),← hx,show (pre.size:Int)+((bL a).size:Int)=((pre++bL a).size:Int) by rw [aN];omega]
    rw [show pre++gK (x::ids)=pre++bL a++gK ids by rw [gK,hv,bF],ih,rP]
    rfl
  · rw [aN]
    rw [mB] at hp
    omega
theorem xl {k:Nat} (hk:2 ^ 50≤k) {nx:Int} {ids:List Int} (h:dL (nx,(ids,()))=true):bT.f k (cV (nx,(ids,())))=some ((nx,(ids,())),(true,())):=by
 obtain ⟨g1,g2,g3,g4,g5⟩:=cX h
 have hz:=FD h
 have hf:=lL hz
 have hfs:=mM (qP (nx,(ids,())))
 have hu:=oO ⟨#[]⟩ hz
 rw [ku] at hu
 have e:cV (nx,(ids,()))=aP (qP (nx,(ids,()))):=if_pos h
 obtain ⟨a,ha,hx,hv⟩:=yj (x:=nx) (by omega) g2
 obtain ⟨b,hb,hy,hw⟩:=yj (x:=(ids.length:Int)) (by omega) (by omega)
 have ht:qP (nx,(ids,()))=bL a++bL b++gK ids:=by
  unfold qP
  rw [bF,← hv,← hw]
 have hva:=ax a
 have hvb:=ax b
 have hl:=EY hk (s:=cV (nx,(ids,()))) nx ids (bL a++bL b) k 0 (b:Int) [] g5 (by omega) (by omega) (by omega) (by omega) (by rw [aN];omega) (by simp)
 rw [← ht,List.nil_append,bO] at hl
 unfold bT.f bT.t
 rw [mj hk (by rw [e];omega),aZ]
 have hu1:gS (cV (nx,(ids,())))=(qP (nx,(ids,())),((cV (nx,(ids,()))).size:Int)):=by rw [e];exact hu
 have r1:rv 7 (nb (qP (nx,(ids,()))))=some (a,(bL a).size):=by rw [ht,bF];exact rr ha _
 have r2:rv 7 (nb (ByteArray.extract (qP (nx,(ids,()))) (bL a).size (qP (nx,(ids,()))).size))=some (b,(bL b).size):=by rw [ht,bF,eO];exact rr hb _
 have hsz:(qP (nx,(ids,()))).size=(bL a).size+(bL b).size+(gK ids).size:=by rw [ht,aN,aN]
 rw [hu1]
 simp only []
 rw [g8 hk,aZ,r1]
 simp only [G2]
 rw [show (((cV (nx,(ids,()))).size:Int) != ((cV (nx,(ids,()))).size:Int))=false by simp,aK,
  show (((cV (nx,(ids,()))).size:Int)==0)=false from mT (by rw [e];omega),aK,show (((bL a).size:Int)==0)=false from mT (by omega),aK,
  dX (by omega) (by omega),Int.toNat_natCast,g8 hk,aZ,r2]
 simp only [G2]
 rw [aE (by omega) (by omega),show ((bL a).size:Int)+((bL b).size:Int)=((bL a++bL b).size:Int) by rw [aN];omega,← hx]
 exact hl
theorem wq {k:Nat} (hk:2 ^ 50≤k) {s:ByteArray} (hs:s.size≤1099511627776):bT.f k s=some ((fo s).1,((fo s).2,())):=by
 refine sv (fun v h1 h2=>?_) ?_
 · subst h2
   exact xl hk (nx:=v.1) (ids:=v.2.1) h1
 · unfold bT.f bT.t
   rw [mj hk hs,aZ]
   have hu:=nF s
   generalize gS s=u at hu
   obtain ⟨t,m⟩:=u
   simp only [] at hu ⊢
   rw [g8 hk,aZ]
   have h1:=C8 t
   generalize G2 (rv 7 (nb t))=q at h1
   obtain ⟨nx,p,_⟩:=q
   simp only [] at h1 ⊢
   by_cases c1:m=(s.size:Int)
   case neg=>rw [show (m != (s.size:Int))=true from bne_iff_ne.2 c1];exact .inr rfl
   rw [show (m != (s.size:Int))=false by rw [c1];simp,aK]
   by_cases c2:m=0
   case pos=>rw [show (m==0)=true from beq_iff_eq.2 c2];exact .inr rfl
   rw [show (m==0)=false from mT c2,aK]
   by_cases c3:p=0
   case pos=>rw [show (p==0)=true from beq_iff_eq.2 c3];exact .inr rfl
   rw [show (p==0)=false from mT c3,aK,dX h1.1 h1.2,g8 hk,aZ]
   have h2:=C8 (ByteArray.extract t p.toNat t.size)
   have he:(ByteArray.extract t p.toNat t.size).size=t.size-p.toNat:=by rw [← cp,iR,List.length_drop,cp]
   rw [he] at h2
   rw [aE (by omega) (by omega)]
   obtain ⟨o,ho⟩:=CM hk (s:=s) hu.1 (G2 (rv 7 (nb (ByteArray.extract t p.toNat t.size)))).1 nx 60 k (p+(G2 (rv 7 (nb (ByteArray.extract t p.toNat t.size)))).2.1) 0 [] (by omega) (by omega) (by omega) (by omega) (by omega) (by simp)
   rw [ho]
   cases c4:seq (cV (nx,(o,()))) s with
   | false=>exact .inr rfl
   | true =>
    refine .inl ⟨(nx,(o,())),?_,dS.1 c4,rfl⟩
    cases c5:dL (nx,(o,())) with
    | true=>rfl
    | false =>
     have:=dS.1 c4
     unfold cV at this
     rw [c5,if_neg (by decide)] at this
     rw [← this] at c1
     exact absurd c1 c2
end Go.Proofs.YthjppgafienaoaaGreatDoor.G
namespace Go.V
def Mw (n:Int):Prop := -999999999≤n∧n≤999999999
def dg:List Nat→Nat→Nat→Nat × Nat
 | [],a,c=>(a,c)
 | b::l,a,c=>if 48≤b∧b≤57 then dg l (a*10+(b-48)) (c+1) else dg l a c
theorem vQ:∀ (l:List Nat) (a c:Nat),(∀ b ∈ l,48≤b∧b≤57)→dg l a c=(s6 l a,c+l.length)
 | [],a,c,_=>rfl
 | b::l,a,c,h=>by
  rw [dg,if_pos (h b (li ..)),vQ l _ _ fun x hx=>h x (nX _ hx),s6,mB]
  congr 1
  omega
theorem yE:∀ (l:List Nat) (a c:Nat),a+1≤10 ^ c→(dg l a c).1+1≤10 ^ (dg l a c).2
 | [],a,c,h=>h
 | b::l,a,c,h=>by
  unfold dg
  split
  · rename_i q
    exact yE l _ _ (by rw [Nat.pow_succ];omega)
  · exact yE l _ _ h
theorem EJ (u:Nat):∀ b ∈ (Lib.decDigits u).map UInt8.toNat,48≤b∧b≤57:=by
 intro b hb
 obtain ⟨x,hx,rfl⟩:=List.mem_map.1 hb
 exact oC u x hx
def Lb (s:ByteArray) (a:Nat):Int:=bif decide ((s.size:Int) > 0)&&(eI s 0==45) then -(a:Int) else (a:Int)
theorem LR {s:ByteArray} (h:0<s.size):eI s 0=(((nb s).getD 0 0:Nat):Int):=xb (i:=0) h
theorem LK {n:Int}:Lb (iB n) n.natAbs=n:=by
 have hb:=rD n
 have hl:=cp (iB n)
 unfold Lb
 by_cases c:n<0
 · rw [if_pos c] at hb
   rw [hb,mB] at hl
   rw [aO (by omega),LR (by omega),hb]
   show (bif true&&(((45:Nat):Int)==45) then _ else _)=n
   show -((n.natAbs:Nat):Int)=n
   omega
 · rw [if_neg c] at hb
   have:(eI (iB n) 0==45)=false:=by
    cases q:Lib.decDigits n.toNat with
    | nil=>exact absurd q (vE _)
    | cons x r =>
     have hx:=oC n.toNat x (by rw [q];exact li ..)
     rw [q,List.map_cons] at hb
     rw [hb,mB] at hl
     rw [LR (by omega),hb]
     refine mT ?_
     show ((x.toNat:Nat):Int)≠45
     omega
   rw [this,Bool.and_false,aK]
   omega
theorem KP {n:Int} (h:Mw n):(iB n).size≤10:=IK (by have:=h.1;omega) (by have:=h.2;omega)
theorem Mn {n:Int} (h:Mw n):∃ c,dg (nb (iB n)) 0 0=(n.natAbs,c)∧c≤9:=by
 obtain ⟨h0,h1⟩:=h
 rw [rD]
 by_cases c:n<0
 · rw [if_pos c]
   refine ⟨(Lib.decDigits n.natAbs).length,?_,ik 8 _ (by rw [show (10:Nat) ^ (8+1)=1000000000 by decide];omega)⟩
   rw [dg,if_neg (by omega),vQ _ _ _ (EJ _),sb,List.length_map,Nat.zero_add]
 · rw [if_neg c]
   refine ⟨(Lib.decDigits n.toNat).length,?_,ik 8 _ (by rw [show (10:Nat) ^ (8+1)=1000000000 by decide];omega)⟩
   rw [vQ _ _ _ (EJ _),sb,List.length_map,Nat.zero_add,show n.toNat=n.natAbs by omega]
theorem Dn {c:Nat} (h:c≤11):10 ^ c≤100000000000:=Nat.le_trans (Nat.pow_le_pow_right (by decide) h) (by decide)
theorem Kw {c:Nat} (h:c≤9):10 ^ c≤1000000000:=Nat.le_trans (Nat.pow_le_pow_right (by decide) h) (by decide)
end Go.V
namespace Go.Proofs.YthjppgafienaoaaGreatDoor.G
open Go.V
noncomputable def k_ (s:ByteArray):Int × Bool:=pc Mw iB 0 s
def HN (s:ByteArray) (q:Nat × Nat):Option (Int × Bool × Unit) :=
 bif decide ((q.2:Int) > 9)||(decide ((s.size:Int) > 10)||!seq (iB (Lb s q.1)) s) then some (0,(false,())) else some (Lb s q.1,(true,()))
theorem MH {k:Nat} (hk:2 ^ 50≤k) (s:ByteArray) {q:Nat × Nat} (hq:q.1≤1000000000000) :
 (bif (decide ((ByteArray.size s:Int) > 0)) then (aw 0 (ByteArray.size s:Int) (bif ((eI s 0)==45) then (bif (decide ((q.2:Int) > 9)) then (some (0,(false,()))) else (bif (decide ((ByteArray.size s:Int) > 10)) then (some (0,(false,()))) else (Option.bind (eA.f k (aG (0-(q.1:Int)))) fun r1=>(bif (!(seq r1.1 s)) then (some (0,(false,()))) else (some ((aG (0-(q.1:Int))),(true,()))))))) else
  (bif (decide ((q.2:Int) > 9)) then (some (0,(false,()))) else (bif (decide ((ByteArray.size s:Int) > 10)) then (some (0,(false,()))) else (Option.bind (eA.f k (q.1:Int)) fun r2=>(bif (!(seq r2.1 s)) then (some (0,(false,()))) else (some ((q.1:Int),(true,())))))))))
 else (bif (decide ((q.2:Int) > 9)) then (some (0,(false,()))) else (bif (decide ((ByteArray.size s:Int) > 10)) then (some (0,(false,()))) else (Option.bind (eA.f k (q.1:Int)) fun r3=>(bif (!(seq r3.1 s)) then (some (0,(false,()))) else (some ((q.1:Int),(true,()))))))))=HN s q:=by
 have hn:aG (0-(q.1:Int)) = -(q.1:Int):=by rw [aE (by omega) (by omega)];omega
 rw [hn,qa hk (n:=(q.1:Int)) (by omega) (by omega),qa hk (n := -(q.1:Int)) (by omega) (by omega)]
 simp only [aZ]
 unfold HN Lb
 by_cases c0:(s.size:Int) > 0
 · rw [aO c0,ac,aI (by omega) (by omega),Bool.true_and]
   cases eI s 0==45 <;> cases decide ((q.2:Int) > 9) <;> cases decide ((s.size:Int) > 10)
   all_goals simp only [ac,aK,Bool.true_or,Bool.false_or]
   all_goals first | rfl | (cases seq (iB (q.1:Int)) s <;> rfl) | (cases seq (iB (-(q.1:Int))) s <;> rfl)
 · rw [aQ c0,aK,Bool.false_and,aK]
   cases decide ((q.2:Int) > 9) <;> cases decide ((s.size:Int) > 10)
   all_goals simp only [ac,aK,Bool.true_or,Bool.false_or]
   all_goals first | rfl | (cases seq (iB (q.1:Int)) s <;> rfl)
theorem wo {k:Nat} (hk:2 ^ 50≤k) {s:ByteArray} (hs:s.size≤1099511627776):ek.f k s=HN s (dg ((nb s).take 11) 0 0):=by
 unfold ek.f ek.t
 have hn:=cp s
 have hl:((nb s).take 11).length=min 11 s.size:=by rw [List.length_take,hn]
 refine fa (L:=fun n i (q:Nat × Nat)=>ek.l0 k n s (q.1:Int) (q.2:Int) i) (R:=fun r q=>HN s (dg r q.1 q.2)) 0 ((nb s).take 11) (fun i q=>q.1+1≤10 ^ q.2∧(q.2:Int)≤i) (fun n q hq=>?_) (fun n i q x rest h0 h1 hx hr hq ih=>?_) (n:=k) (s:=(0,0)) (by omega) ⟨by decide,by decide⟩
 · obtain ⟨g1,g2⟩:=hq
   have hp:=Dn (c:=q.2) (by omega)
   rw [show dg [] q.1 q.2=q from rfl]
   refine Eq.trans ?_ (MH hk s (q:=q) (by omega))
   simp only [ek.l0,ek.b0]
   rcases Nat.lt_or_ge 11 s.size with c | c
   · rw [hl,Nat.min_eq_left (by omega),aO (show ((11:Nat):Int)<(s.size:Int) by omega),aQ (show ¬ ((11:Nat):Int)<11 by omega)]
     rfl
   · rw [hl,Nat.min_eq_right c,aQ (show ¬ (s.size:Int)<(s.size:Int) by omega)]
     rfl
 · obtain ⟨g1,g2⟩:=hq
   have hp:=Dn (c:=q.2) (by omega)
   rw [hl] at h1
   have hi:i<11:=by omega
   have hsz:i<(s.size:Int):=by omega
   have hx':(nb s).getD i.toNat 0=x:=by rw [← hx,oQ (by omega)]
   have hb:=Cb (s:=s) (x:=x) h0 (by rw [hn];exact hsz) hx'
   have hx256:x<256:=by rw [← hx'];exact ji s _
   simp only [ek.l0,ek.b0]
   rw [aO hsz,aO hi,ac,ac,aI h0 hsz,hb]
   have iN:=ih q ⟨g1,by omega⟩
   by_cases c1:48≤x
   · rw [aO (show (x:Int)≥48 by omega),ac]
     by_cases c2:x≤57
     · rw [aI h0 hsz,aO (show (x:Int)≤57 by omega),ac,aI h0 hsz]
       have iY:=ih (q.1*10+(x-48),q.2+1) ⟨by rw [Nat.pow_succ];omega,by simp only [];omega⟩
       rw [pZ (n:=(x:Int)-48) (by omega) (by omega),aE (n:=(x:Int)-48) (by omega) (by omega),aE (n:=(q.1:Int)*10) (by omega) (by omega),aE (by omega) (by omega),aE (n:=(q.2:Int)+1) (by omega) (by omega),aE (n:=i+1) (by omega) (by omega)]
       rw [show dg (x::rest) q.1 q.2=dg rest (q.1*10+(x-48)) (q.2+1) from if_pos ⟨c1,c2⟩]
       rw [show (q.1:Int)*10+((x:Int)-48)=((q.1*10+(x-48):Nat):Int) by omega,show (q.2:Int)+1=((q.2+1:Nat):Int) by omega]
       exact iY
     · rw [aI h0 hsz,aQ (show ¬ (x:Int)≤57 by omega),aK,aE (n:=i+1) (by omega) (by omega),show dg (x::rest) q.1 q.2=dg rest q.1 q.2 from if_neg (fun h=>c2 h.2)]
       exact iN
   · rw [aQ (show ¬ (x:Int)≥48 by omega),aK,aE (n:=i+1) (by omega) (by omega),show dg (x::rest) q.1 q.2=dg rest q.1 q.2 from if_neg (fun h=>c1 h.1)]
     exact iN
theorem zd {k:Nat} (hk:2 ^ 50≤k) {s:ByteArray} (hs:s.size≤1099511627776):ek.f k s=some ((k_ s).1,((k_ s).2,())):=by
 rw [wo hk hs]
 refine sv (fun n h1 h2=>?_) ?_
 · subst h2
   have hz:=KP h1
   obtain ⟨c,e,hc⟩:=Mn h1
   rw [List.take_of_length_le (by rw [cp];omega),e]
   unfold HN
   simp only []
   rw [aQ (by omega),aQ (by omega),LK,bO]
   rfl
 · have hb:=yE ((nb s).take 11) 0 0 (by decide)
   generalize dg ((nb s).take 11) 0 0=q at hb
   unfold HN
   by_cases c:q.2≤9
   · have hp:=Kw c
     cases e:(decide ((q.2:Int) > 9)||(decide ((s.size:Int) > 10)||!seq (iB (Lb s q.1)) s)) with
     | true=>exact .inr rfl
     | false =>
      simp only [Bool.or_eq_false_iff,Bool.not_eq_false'] at e
      refine .inl ⟨Lb s q.1,?_,dS.1 e.2.2,rfl⟩
      unfold Lb Mw
      cases decide ((s.size:Int) > 0)&&(eI s 0==45)
      · rw [aK];omega
      · rw [ac];omega
   · rw [aO (show (q.2:Int) > 9 by omega)]
     exact .inr rfl
theorem DG {n:Int} (h:Mw n):k_ (iB n)=(n,true):=Gx (fun _ _ _ _ e=>yp e) h
def ze (l:List Int) (x:Int):Bool:=l.any fun y=>y==x
def dY:ByteArray:=⟨#[104,105,110,116]⟩
theorem jI {k:Nat} (hk:2 ^ 50≤k) (n:Int):d9.f k n=some (aA dY n,()):=by
 unfold d9.f d9.t aA
 rw [eM,aZ]
 by_cases c:(1:Int)≤n∧n≤100000
 · have hz:=ob (n:=n) (by omega) (by omega)
   rw [aO c]
   simp only [fC,aK,ac]
   rw [qa hk (by omega) (by omega),aZ,gf (by show 4+(iB n).size≤_;omega)]
   rfl
 · rw [aQ c]
   rfl
def K7 (s:ByteArray) (n:Int):Prop:=1≤n∧n≤100000∧(s=aH++iB n∨s=dY++iB n)
theorem E4 (a b:ByteArray):aH++a≠dY++b:=fun h=>by
 have:=congrArg nb h
 rw [iF,iF,show nb aH=[115,101,103] from rfl,show nb dY=[104,105,110,116] from rfl] at this
 simp at this
theorem GZ {s:ByteArray} {n m:Int} (h:K7 s n) (g:K7 s m):n=m:=by
 rcases h.2.2 with h1 | h1 <;> rcases g.2.2 with g1 | g1
 · exact yp (tQ (h1.symm.trans g1))
 · exact absurd (h1.symm.trans g1) (E4 _ _)
 · exact absurd (g1.symm.trans h1) (E4 _ _)
 · exact yp (tQ (h1.symm.trans g1))
theorem Hc {s:ByteArray} {n:Int} (hs:0<s.size) (h:(seq (aA aH n) s||seq (aA dY n) s)=true):K7 s n:=by
 unfold aA at h
 by_cases c:(1:Int)≤n∧n≤100000
 · rw [aO c,Bool.or_eq_true] at h
   exact ⟨c.1,c.2,h.imp (fun q=>(dS.1 q).symm) (fun q=>(dS.1 q).symm)⟩
 · rw [aQ c,Bool.or_eq_true] at h
   rcases h with q | q
   · rw [← dS.1 q] at hs;exact absurd hs (Nat.lt_irrefl 0)
   · rw [← dS.1 q] at hs;exact absurd hs (Nat.lt_irrefl 0)
theorem HT {s:ByteArray} {n:Int} (h:K7 s n):(seq (aA aH n) s||seq (aA dY n) s)=true:=by
 obtain ⟨h0,h1,h2⟩:=h
 unfold aA
 rw [aO ⟨h0,h1⟩,Bool.or_eq_true]
 exact h2.imp (fun q=>dS.2 q.symm) (fun q=>dS.2 q.symm)
noncomputable def GC (s:ByteArray):Int × Bool:=pc (K7 s) (fun _=>s) 0 s
theorem Df (n:Int):0<(iB n).size:=by
 rw [← cp,rD]
 split
 · rw [mB];omega
 · rw [List.length_map]
   exact List.length_pos_iff.2 (vE _)
theorem IU (s:ByteArray) (n:Nat):(ByteArray.extract s n s.size).size=s.size-n:=by rw [← cp,iR,List.length_drop,cp]
noncomputable def yU (s:ByteArray) (i:Nat):Bool :=
 decide ((s.size:Int) > (i:Int))&&((k_ (ByteArray.extract s i s.size)).2&&(decide ((k_ (ByteArray.extract s i s.size)).1≥1)&&(seq (aA aH (k_ (ByteArray.extract s i s.size)).1) s||seq (aA dY (k_ (ByteArray.extract s i s.size)).1) s)))
theorem GQ {k:Nat} (hk:2 ^ 50≤k) {s:ByteArray} (hs:s.size≤1099511627776) (m i:Nat) (hi:i≤4) :
 iK.l0 k (m+1) s (i:Int)=bif yU s i then some ((k_ (ByteArray.extract s i s.size)).1,(true,())) else iK.l0 k m s ((i+1:Nat):Int):=by
 have hz:=IU s i
 simp only [iK.l0,iK.b0]
 rw [aO (show (i:Int)≤4 by omega),ac,aE (by omega) (by omega),show (i:Int)+1=((i+1:Nat):Int) by omega]
 unfold yU
 by_cases c:(s.size:Int) > (i:Int)
 · rw [aO c,ac,dX (by omega) (by omega),Int.toNat_natCast,zd hk (by omega),aZ]
   simp only [bd hk,jI hk,aZ]
   generalize k_ (ByteArray.extract s i s.size)=r
   cases r.2 <;> cases decide (r.1≥1) <;> cases seq (aA aH r.1) s <;> cases seq (aA dY r.1) s <;> rfl
 · rw [aQ c]
   rfl
theorem C7 {s:ByteArray} {i:Nat} (h:yU s i=true):K7 s (k_ (ByteArray.extract s i s.size)).1:=by
 unfold yU at h
 simp only [iI,decide_eq_true_eq] at h
 exact Hc (by omega) h.2.2.2
theorem JG {p:ByteArray} {n:Int} (h:K7 (p++iB n) n):yU (p++iB n) p.size=true∧(k_ (ByteArray.extract (p++iB n) p.size (p++iB n).size)).1=n:=by
 have hd:Mw n:=⟨by have:=h.1;omega,by have:=h.2.1;omega⟩
 have hp:=Df n
 rw [show ByteArray.extract (p++iB n) p.size (p++iB n).size=iB n from eO p (iB n)]
 unfold yU
 rw [show ByteArray.extract (p++iB n) p.size (p++iB n).size=iB n from eO p (iB n),DG hd]
 refine ⟨?_,rfl⟩
 simp only []
 rw [HT h,aO (by rw [ByteArray.size_append];omega),aO h.1]
 rfl
theorem HR {k:Nat} (hk:2 ^ 50≤k) {s:ByteArray} (hs:s.size≤1099511627776):iK.f k s=some ((GC s).1,((GC s).2,())):=by
 have e:iK.f k s=bif yU s 3 then some ((k_ (ByteArray.extract s 3 s.size)).1,(true,())) else bif yU s 4 then some ((k_ (ByteArray.extract s 4 s.size)).1,(true,())) else some (0,(false,())):=by
  unfold iK.f iK.t
  obtain ⟨m,hm⟩:∃ m,k=m+3:=⟨k-3,by omega⟩
  have h3:=GQ hk hs (m+2) 3 (by omega)
  have h4:=GQ hk hs (m+1) 4 (by omega)
  have h5:iK.l0 k (m+1) s ((5:Nat):Int)=some (0,(false,())):=rfl
  rw [← hm] at h3
  rw [show (3:Int)=((3:Nat):Int) from rfl,h3,h4,h5]
 rw [e]
 refine sv (fun n h1 _=>?_) ?_
 · rcases h1.2.2 with q | q
   · have:=JG (p:=aH) (n:=n) (by rw [← q];exact h1)
     rw [← q,show aH.size=3 from rfl] at this
     rw [this.1,this.2]
     rfl
   · cases c:yU s 3 with
     | true=>rw [GZ h1 (C7 c)];rfl
     | false =>
      have:=JG (p:=dY) (n:=n) (by rw [← q];exact h1)
      rw [← q,show dY.size=4 from rfl] at this
      rw [this.1,this.2]
      rfl
 · cases c:yU s 3 with
   | true=>exact .inl ⟨_,C7 c,rfl,rfl⟩
   | false =>
    cases c4:yU s 4 with
    | true=>exact .inl ⟨_,C7 c4,rfl,rfl⟩
    | false=>exact .inr rfl
def jE:ByteArray:=⟨#[116,101,109,112]⟩
noncomputable def vN (ids:List Int) (f:Ty.d aD):Bool:=((GC f.1).2&&!ze ids (GC f.1).1)||seq f.1 jE
noncomputable def sA (ids:List Int):c8→List ByteArray→List ByteArray
 | [],acc=>acc
 | f::l,acc=>sA ids l (bif vN ids f then acc++[f.1] else acc)
noncomputable def tE (d:Ty.d aB) (ids:List Int):List ByteArray:=bif iL d then sA ids d.1 [] else []
theorem I_ {d:Ty.d aB} (h:iL d=true):d.1.length≤130:=by
 unfold iL at h
 rw [iI,decide_eq_true_eq] at h
 exact h.1
theorem Er {k:Nat} (hk:2 ^ 50≤k) {d:Ty.d aB} {v:Ty.d bo} (hu:dl d.1≤1099511627776) (hn:rL d.1≤1099511627776) (hv:v.2.1.length≤1099511627776):bI.f k d v=some (tE d v.2.1,()):=by
 unfold bI.f bI.t tE
 rw [il hk hu hn,aZ]
 cases cd:iL d with
 | false=>rfl
 | true =>
  have hl:=I_ cd
  rw [fC,aK,ac]
  refine fa (L:=fun n i s=>bI.l0 k n i d.1 d.2.1 d.2.2.1 d.2.2.2.1 v.1 v.2.1 s) (R:=fun r s=>some (sA v.2.1 r s,())) (Ty.z aD) d.1 (fun i s=>(s.length:Int)≤i) (fun n s hs=>?_) (fun n i s x rest h0 h1 hx hr hs ih=>?_) (n:=k) (s:=[]) (by omega) (by simp)
  · simp (disch:=omega) only [bI.l0,bI.b0,aQ,aK,sA]
  · have hm:x ∈ d.1:=by rw [← hx];exact iE (by omega)
    have hz:=py hm
    have iY:=ih (s++[x.1]) (by rw [d_];omega)
    have iN:=ih s (by omega)
    have key:∀ (id:Int) (is:Bool),bI.l1 k (bI.l0 k n) k i id is false 0 d.1 d.2.1 d.2.2.1 d.2.2.2.1 v.1 v.2.1 s =
     bif (is&&!ze v.2.1 id)||seq x.1 jE then bI.l0 k n (i+1) d.1 d.2.1 d.2.2.1 d.2.2.2.1 v.1 v.2.1 (s++[x.1]) else bI.l0 k n (i+1) d.1 d.2.1 d.2.2.1 d.2.2.2.1 v.1 v.2.1 s:=fun id is=>by
     refine (fa (L:=fun m j lv=>bI.l1 k (bI.l0 k n) m i id is lv j d.1 d.2.1 d.2.2.1 d.2.2.2.1 v.1 v.2.1 s) (R:=fun r lv=>bif (is&&!(lv||ze r id))||seq x.1 jE then bI.l0 k n (i+1) d.1 d.2.1 d.2.2.1 d.2.2.2.1 v.1 v.2.1 (s++[x.1]) else bI.l0 k n (i+1) d.1 d.2.1 d.2.2.1 d.2.2.2.1 v.1 v.2.1 s) (Ty.z (.int .i64)) v.2.1 (fun _ _=>True) (fun m lv _=>?_) (fun m j lv y r2 g0 g1 gx gr _ ih2=>?_) (n:=k) (s:=false) (by omega) trivial)
     · simp (disch:=first | omega | decide) only [bI.l1,bI.b1,aQ,aK,aI,hx,cO,aE]
       rw [show ze [] id=false from rfl,show (⟨#[116,101,109,112]⟩:ByteArray)=jE from rfl]
       cases is <;> cases lv <;> cases seq x.1 jE <;> rfl
     · have e:ze (y::r2) id=((y==id)||ze r2 id):=rfl
       simp (disch:=omega) only [bI.l1,bI.b1,aO g1,ac,aI,gx,aE,e]
       cases lv with
       | true=>exact (ih2 true trivial)
       | false =>
        have:=ih2 (y==id) trivial
        simp only [aK,Bool.false_or]
        exact this
    simp (disch:=omega) only [bI.l0,bI.b0,aO h1,ac,aI,hx,HR hk,aZ,key]
    rw [show sA v.2.1 (x::rest) s=sA v.2.1 rest (bif vN v.2.1 x then s++[x.1] else s) from rfl]
    unfold vN
    cases ((GC x.1).2&&!ze v.2.1 (GC x.1).1)||seq x.1 jE
    · exact iN
    · exact iY
theorem Ec (v:Ty.d bo):(cV v).size≤1099511627776:=by
 unfold cV
 split
 · have:=mM (qP v);omega
 · decide
theorem wF {p:ByteArray} (hp:p=aH∨p=dY) (n:Int):(aA p n).size≤1000:=by
 have hs:p.size≤4:=by rcases hp with q | q <;> rw [q] <;> decide
 unfold aA
 by_cases h:(1:Int)≤n∧n≤100000
 · have:=ob (n:=n) (by omega) (by omega)
   rw [aO h,ac,ByteArray.size_append]
   omega
 · rw [aQ h,aK];decide
abbrev RD:=Ty.d aB × Int
def hF (r:RD) (f:Ty.d aB→RD):RD:=bif r.2==0 then f r.1 else r
def iz (c:Int):Int:=bif c==0 then 0 else bif c==1 then 1 else bif c==2 then 2 else 3
def eQ:ByteArray:=⟨#[108,105,118,101]⟩
def nt (s:ByteArray) (d:Ty.d aB):RD:=bif (bw d.1 s).isSome then wu d s else (d,0)
def bU (s:ByteArray) (d:Ty.d aB):RD:=hF (nt s d) fun x=>yx x s
def mh (s t:ByteArray) (d:Ty.d aB):RD:=hF (hF (bU s d) fun x=>j_ x s t) fun x=>gT x s
def br (v:Ty.d bo) (d:Ty.d aB):RD:=hF (mh jE (cV v) d) fun x=>DL x jE eQ
def fG:List ByteArray→Ty.d aB→RD
 | [],d=>(d,0)
 | s::l,d=>hF (nt s d) (fG l)
noncomputable def iU (ids:List Int) (d:Ty.d aB):RD:=fG (tE d ids) d
theorem j5 (c:Int):(iz c==0)=(c==0):=by
 unfold iz
 cases h:c==0 with
 | true=>rfl
 | false =>
  cases c==1
  · cases c==2 <;> rfl
  · rfl
theorem jm {r:RD} {f:Ty.d aB→RD} (h:DR r.1) (hf:∀ x,DR x→DR (f x).1):DR (hF r f).1:=by
 unfold hF
 cases r.2==0
 · exact h
 · exact hf _ h
theorem Gi (s:ByteArray) (d:Ty.d aB) (h:DR d):DR (nt s d).1:=by
 unfold nt
 cases (bw d.1 s).isSome
 · exact h
 · exact Cg h s
theorem lN (s:ByteArray) (d:Ty.d aB) (h:DR d):DR (bU s d).1:=jm (Gi s d h) fun x hx=>C6 hx s
theorem pJ (s t:ByteArray) (d:Ty.d aB) (h:DR d):DR (mh s t d).1:=jm (jm (lN s d h) fun x hx=>ql hx s t) fun x hx=>nP hx s
theorem lF (v:Ty.d bo) (d:Ty.d aB) (h:DR d):DR (br v d).1:=jm (pJ _ _ d h) fun x hx=>M7 hx _ _
theorem lD:∀ (l:List ByteArray) (d:Ty.d aB),DR d→DR (fG l d).1
 | [],d,h=>h
 | s::l,d,h=>jm (Gi s d h) (lD l)
theorem sN (ids:List Int) (d:Ty.d aB) (h:DR d):DR (iU ids d).1:=lD _ d h
theorem dJ (k:Nat) (c:Int):aT.f k c=some (iz c,()):=by
 unfold aT.f aT.t iz
 cases c==0 <;> cases c==1 <;> cases c==2 <;> rfl
theorem Ia {l:c8} {s:ByteArray}:decide (lr l s 0≥0)=(bw l s).isSome:=by
 rcases kt l s 0 with ⟨h1,h2,_⟩ | ⟨n,h1,h2,h3,_⟩
 · rw [h1,h2];rfl
 · rw [h2,h3,aO (by omega)];rfl
theorem I9 {l:c8} {s:ByteArray}:decide (lr l s 0<0)=!(bw l s).isSome:=by
 rcases kt l s 0 with ⟨h1,h2,_⟩ | ⟨n,h1,h2,h3,_⟩
 · rw [h1,h2];rfl
 · rw [h2,h3,aQ (by omega)];rfl
theorem oL {k:Nat} (hk:2 ^ 50≤k) {d:Ty.d aB} (h:DR d) {s:ByteArray} (hs:s.size≤1099511627776):e7.f k d s=some ((bU s d).1,((bU s d).2,())):=by
 have hl:=h.sz.l
 unfold e7.f e7.t bU nt
 rw [ia hk (by omega),aZ]
 simp only [Ia]
 cases (bw d.1 s).isSome with
 | false =>
  simp only [aK]
  rw [tO hk h.sz hs]
  rfl
 | true =>
  simp only [ac]
  rw [tc hk h.sz,aZ]
  unfold hF
  simp only [bne]
  cases c:(wu d s).2==0 with
  | false=>rfl
  | true =>
   simp only [fC,aK,ac]
   rw [tO hk (Cg h s).sz hs]
   rfl
theorem wK {k:Nat} (hk:2 ^ 50≤k) {d:Ty.d aB} (h:DR d) {s t:ByteArray} (hs:s.size≤1099511627776) (ht:t.size≤1099511627776):hO.f k d s t=some ((mh s t d).1,((mh s t d).2,())):=by
 have h1:=lN s d h
 unfold hO.f hO.t mh
 rw [oL hk h hs,aZ]
 simp only []
 generalize bU s d=r at h1 ⊢
 unfold hF
 cases c:r.2==0 with
 | false=>simp only [aK,c]
 | true =>
  simp only [ac]
  rw [qc hk h1.sz s ht,aZ]
  simp only []
  cases c2:(j_ r.1 s t).2==0 with
  | false=>rfl
  | true =>
   simp only [ac]
   rw [nC hk (ql h1 s t).sz]
   rfl
theorem oV {k:Nat} (hk:2 ^ 50≤k) {d:Ty.d aB} (h:DR d) {v:Ty.d bo} (hv:dL v=true):eu.f k d v=some ((br v d).1,(iz (br v d).2,())):=by
 have hu:=h.sz.u
 have hn:=h.sz.n
 have h1:=pJ jE (cV v) d h
 unfold eu.f eu.t br
 rw [il hk (by omega) (by omega),aZ,jR.2 h]
 simp only [fC,aK]
 rw [sK hk,aZ,hv]
 simp only [fC,aK]
 rw [m9 hk,aZ,show (⟨#[116,101,109,112]⟩:ByteArray)=jE from rfl,show (⟨#[108,105,118,101]⟩:ByteArray)=eQ from rfl]
 simp only []
 rw [wK hk h (s:=jE) (t:=cV v) (by decide) (Ec v),aZ]
 simp only []
 generalize mh jE (cV v) d=r at h1 ⊢
 unfold hF
 cases c:r.2==0 with
 | false=>simp only [aK,dJ,aZ]
 | true =>
  simp only [ac]
  rw [FN hk h1.sz jE (b:=eQ) (by decide),aZ]
  simp only [dJ,aZ]
theorem oH {k:Nat} (hk:2 ^ 50≤k) {d:Ty.d aB} (h:DR d) {l:List ByteArray} (hl:l.length≤1073741824):cD.f k d l=some ((fG l d).1,((fG l d).2,())):=by
 unfold cD.f cD.t
 refine fa (L:=fun n i (x:Ty.d aB)=>cD.l0 k n l i x.1 x.2.1 x.2.2.1 x.2.2.2.1 [] 0 0 false) (R:=fun r x=>some ((fG r x).1,((fG r x).2,()))) (Ty.z .str) l (fun _ x=>DR x) (fun n x hx=>?_) (fun n i x y rest h0 h1 hy hr hx ih=>?_) (n:=k) (s:=d) (by omega) h
 · simp only [cD.l0,cD.b0]
   rw [aQ (by omega),aK]
   rfl
 · have hlx:=hx.sz.l
   simp only [cD.l0,cD.b0]
   rw [aO h1,ac,aI h0 h1,hy,show (x.1,(x.2.1,(x.2.2.1,(x.2.2.2.1,()))))=x from rfl,ia hk (by omega),aZ,aI h0 h1,aE (n:=i+1) (by omega) (by omega)]
   simp only [I9,fG,nt,hF]
   cases (bw x.1 y).isSome with
   | false =>
    simp only [u6,ac,aK]
    exact ih x hx
   | true =>
    simp only [fC,aK,ac]
    rw [tc hk hx.sz,aZ]
    simp only [bne]
    cases c:(wu x y).2==0 with
    | false=>rfl
    | true =>
     simp only [fC,aK,ac]
     exact ih _ (Cg hx y)
theorem D_ (ids:List Int):∀ (l:c8) (acc:List ByteArray),sA ids l acc=acc++(l.filter (vN ids)).map (·.1)
 | [],acc=>by unfold sA;simp
 | f::l,acc=>by
  unfold sA
  rw [D_ ids l]
  cases c:vN ids f
  · rw [aK,List.filter_cons_of_neg (by rw [c];decide)]
  · rw [ac,List.filter_cons_of_pos c,List.map_cons,rP];rfl
theorem JC {d:Ty.d aB} (ids:List Int):(tE d ids).Sublist (mw d.1):=by
 unfold tE
 cases iL d
 · exact List.nil_sublist _
 · rw [ac,D_,List.nil_append]
   exact (List.filter_sublist).map _
theorem xL {l:c8} {s t:ByteArray} (h:t≠s):bw (lX l s) t=bw l t:=by
 induction l with
 | nil=>rfl
 | cons g l ih =>
  unfold lX
  cases c:seq g.1 s with
  | true =>
   rw [ac,bw.eq_2,ky (fun q=>h (by rw [← q,dS.1 c])),aK]
  | false =>
   rw [aK,bw.eq_2,bw.eq_2,ih]
theorem KW {l:c8} {s:ByteArray} (h:s ∈ mw l):(bw l s).isSome=true:=by
 cases q:bw l s with
 | some f=>rfl
 | none =>
  obtain ⟨f,h1,h2⟩:=List.mem_map.1 h
  exact absurd h2 (rx.1 q f h1)
theorem Il {d:Ty.d aB} {s t:ByteArray} (h:t≠s) (ht:(bw d.1 t).isSome=true):(bw (wu d s).1.1 t).isSome=true:=by
 unfold wu jk
 cases (kM d).2 != 0 with
 | true=>rw [ac,rA];exact ht
 | false =>
  show (bw (DJ s d.1 d.2.1).1 t).isSome=true
  unfold DJ
  cases (bw d.1 s).isNone
  · show (bw (lX d.1 s) t).isSome=true
    rw [xL h]
    exact ht
  · exact ht
theorem uk {k:Nat} (hk:2 ^ 50≤k) {d:Ty.d aB} (h:DR d) {v:Ty.d bo} (hv:v.2.1.length≤1099511627776):b_.f k d v=some ((iU v.2.1 d).1,(iz (iU v.2.1 d).2,())):=by
 have hu:=h.sz.u
 have hn:=h.sz.n
 have hl:=h.len
 have hsub:=JC (d:=d) v.2.1
 have hlen:=hsub.length_le
 unfold mw at hlen
 rw [List.length_map] at hlen
 have hne:(tE d v.2.1).Pairwise (fun a b=>a≠b):=(List.Pairwise.sublist hsub h.keys).imp fun {a b} q e=>by rw [e,qn] at q;cases q
 have hall:∀ s ∈ tE d v.2.1,(bw d.1 s).isSome=true:=fun s hs=>KW (hsub.subset hs)
 unfold b_.f b_.t iU
 rw [Er hk (by omega) (by omega) hv,aZ]
 simp only []
 generalize tE d v.2.1=l at hlen hne hall ⊢
 refine fa (L:=fun n i (x:Ty.d aB)=>b_.l0 k n i x.1 x.2.1 x.2.2.1 x.2.2.2.1 [] 0 0 false l) (R:=fun r x=>some ((fG r x).1,(iz (fG r x).2,()))) (Ty.z .str) l (fun i x=>DR x∧∀ s ∈ l.drop i.toNat,(bw x.1 s).isSome=true) (fun n x hx=>?_) (fun n i x y rest h0 h1 hy hr hx ih=>?_) (n:=k) (s:=d) (by omega) ⟨h,fun s hs=>hall s (List.mem_of_mem_drop hs)⟩
 · simp only [b_.l0,b_.b0]
   rw [aQ (by omega),aK]
   rfl
 · obtain ⟨hd,ha⟩:=hx
   have hp:(y::rest).Pairwise (fun a b=>a≠b):=by rw [← hr];exact hne.drop
   have hdr:l.drop (i+1).toNat=rest:=by
    have:=congrArg (List.drop 1) hr
    rw [List.drop_drop,List.drop_one,List.tail_cons] at this
    rw [show (i+1).toNat=i.toNat+1 by omega]
    exact this
   have hy1:(bw x.1 y).isSome=true:=ha y (by rw [hr];exact li ..)
   simp only [b_.l0,b_.b0]
   rw [aO h1,ac,aI h0 h1,hy,show (x.1,(x.2.1,(x.2.2.1,(x.2.2.2.1,()))))=x from rfl,tc hk hd.sz,aZ,aE (n:=i+1) (by omega) (by omega)]
   simp only [fG,nt,hF,hy1,ac,bne,dJ]
   cases c:(wu x y).2==0 with
   | false=>rfl
   | true =>
    simp only [fC,aK,ac]
    refine ih (wu x y).1 ⟨Cg hd y,fun s hs=>?_⟩
    rw [hdr] at hs
    exact Il (fun e=>(List.pairwise_cons.1 hp).1 s hs e.symm) (ha s (by rw [hr];exact nX _ hs))
abbrev jt:=List (Ty.d bA)
def fk (kind batch:Int) (l:jt):Ty.d bA:=(kind,(batch,(ByteArray.empty,(ByteArray.empty,((l.length:Int),(zn l,()))))))
theorem wW {k:Nat} (hk:2 ^ 50≤k) {l:jt} (hl:l.length≤1073741824) (b kd:Int):i7.f k l b kd=some (fk kd b l,()):=by
 unfold i7.f i7.t
 rw [qf hk hl,aZ]
 rfl
abbrev kw:=List (Ty.d yc)
def gF (s:ByteArray):Bool:=decide (1≤(s.size:Int)∧(s.size:Int)≤8)
def bQ (p:Ty.d yc):Ty.d bA:=(4,(p.2.2.1,(p.1,(p.2.1,(0,(0,()))))))
def kq (l:kw) (mark:Int):jt:=l.map bQ++[fk 5 mark (l.map bQ)]
def ab:jt→ByteArray
 | []=>⟨#[]⟩
 | r::l=>aP (aJ r)++ab l
theorem pN:∀ l m:jt,ab (l++m)=ab l++ab m
 | [],m=>by rw [List.nil_append,ab,se]
 | r::l,m=>by rw [List.cons_append,ab,pN l m,ab,bF]
abbrev aS:=List (Ty.d a_)
noncomputable def ft (s:ByteArray) (i n:Int):Ty.d bA × Bool :=
 if 0≤i∧i≤s.size∧1≤n∧n≤s.size-i then (if (gS (ByteArray.extract s i.toNat (i+n).toNat)).2=n then gp (gS (ByteArray.extract s i.toNat (i+n).toNat)).1 else (tv,false)) else (tv,false)
theorem FF {s:ByteArray} (h:(gp s).2=false):gp s=(tv,false):=GW h
theorem JU (s:ByteArray) (i j:Nat):(ByteArray.extract s i j).size≤s.size:=by
 rw [← cp,tM,List.length_drop,List.length_take,cp];omega
theorem ug {k:Nat} (hk:2 ^ 50≤k) {s:ByteArray} (i n:Int) (hs:s.size≤1099511627775):jg.f k s i n=some ((ft s i n).1,((ft s i n).2,())):=by
 unfold jg.f jg.t ft
 rw [pH,aZ]
 by_cases c1:0≤i∧i≤s.size
 case neg=>rw [aQ c1,if_neg (fun h=>c1 ⟨h.1,h.2.1⟩)];rfl
 rw [aO c1,fC,aK,pH,aZ,aE (by omega) (by omega)]
 by_cases c2:1≤n∧n≤s.size-i
 case neg=>rw [aQ c2,if_neg (fun h=>c2 ⟨h.2.2.1,h.2.2.2⟩)];rfl
 have hz:=JU s i.toNat (i+n).toNat
 have hu:=nF (ByteArray.extract s i.toNat (i+n).toNat)
 rw [aO c2,fC,aK,aE (by omega) (by omega),vC (by omega) (by omega) (by omega),if_pos ⟨c1.1,c1.2,c2⟩,mj hk (by omega),aZ]
 simp only []
 rw [s5 hk (by omega),aZ]
 by_cases c3:(gS (ByteArray.extract s i.toNat (i+n).toNat)).2=n
 · rw [if_pos c3]
   simp only [show ((gS (ByteArray.extract s i.toNat (i+n).toNat)).2 != n)=false by rw [c3];simp,aK]
   cases c4:(gp (gS (ByteArray.extract s i.toNat (i+n).toNat)).1).2 with
   | true=>rfl
   | false=>rw [FF c4];rfl
 · rw [if_neg c3]
   simp only [show ((gS (ByteArray.extract s i.toNat (i+n).toNat)).2 != n)=true from bne_iff_ne.2 c3,ac]
theorem uJ {k:Nat} (hk:2 ^ 50≤k) {s:ByteArray} (i n:Int) (hs:s.size≤1099511627775):jc.f k s i n=some ((ft s i n).1,((ft s i n).2,())):=by
 unfold jc.f jc.t ft
 rw [uY,aZ]
 by_cases c1:0≤i∧i≤s.size
 case neg=>rw [aQ c1,if_neg (fun h=>c1 ⟨h.1,h.2.1⟩)];rfl
 rw [aO c1,fC,aK,uY,aZ,aE (by omega) (by omega)]
 by_cases c2:0≤n∧n≤s.size-i
 case neg=>rw [aQ c2,if_neg (fun h=>c2 ⟨by omega,h.2.2.2⟩)];rfl
 have hz:=JU s i.toNat (i+n).toNat
 have hu:=nF (ByteArray.extract s i.toNat (i+n).toNat)
 have hsz:(ByteArray.extract s i.toNat (i+n).toNat).size≤(i+n).toNat-i.toNat:=by rw [← cp,tM,List.length_drop,List.length_take];omega
 rw [aO c2,fC,aK,aE (by omega) (by omega),vC (by omega) (by omega) (by omega),rS hk (by omega),aZ]
 simp only []
 by_cases c0:(gS (ByteArray.extract s i.toNat (i+n).toNat)).2=0
 · rw [show ((gS (ByteArray.extract s i.toNat (i+n).toNat)).2==0)=true by rw [c0];rfl,ac]
   split
   · rename_i h
     rw [if_neg (by omega)]
   · rfl
 · rw [show ((gS (ByteArray.extract s i.toNat (i+n).toNat)).2==0)=false from mT c0,aK,if_pos ⟨c1.1,c1.2,by omega,c2.2⟩]
   by_cases c3:(gS (ByteArray.extract s i.toNat (i+n).toNat)).2=n
   · rw [if_pos c3]
     simp only [show ((gS (ByteArray.extract s i.toNat (i+n).toNat)).2 != n)=false by rw [c3];simp,aK]
     rw [s_ hk (by omega),aZ]
   · rw [if_neg c3]
     simp only [show ((gS (ByteArray.extract s i.toNat (i+n).toNat)).2 != n)=true from bne_iff_ne.2 c3,ac]
end Go.Proofs.YthjppgafienaoaaGreatDoor.G

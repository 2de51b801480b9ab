/- Plain laws, merged; what is proved here is told ahead of each part. -/
import Derived.Test.YthjppgafienaoabGreatDoorZWE
import Derived.Lib.ItoaNum
import Derived.Lib.AtoiAll
import Derived.Lib.AtoiAllCases
import Derived.Test.YthjppgafienaoabGreatDoorVPure
import Derived.Test.YthjppgafienaoabGreatDoorXLib
set_option linter.unusedVariables false
set_option linter.unusedSimpArgs false
namespace Go.V
theorem ae {α β:Type} {a:α} {f:α→Option β}:Option.bind (some a) f=f a:=rfl
theorem aL {α:Type} {a b:α}:cond false a b=b:=rfl
theorem af {α:Type} {a b:α}:cond true a b=a:=rfl
theorem fa:(!true)=false:=rfl
theorem ul:(!false)=true:=rfl
theorem mP {α:Type} [BEq α] [LawfulBEq α] {a b:α} (h:a≠b):(a==b)=false:=beq_eq_false_iff_ne.2 h
theorem nr (i:Nat):Int.toNat (i:Int)=i:=Int.toNat_natCast i
theorem kU {α:Type} {a:α} {l:List α}:(a::l).length=l.length+1:=rfl
theorem uo {α:Type} {l m:List α}:(l++m).length=l.length+m.length:=List.length_append
theorem nQ {α:Type} (l m n:List α):l++m++n=l++(m++n):=List.append_assoc l m n
theorem IB {α:Type} [BEq α] [LawfulBEq α] {a b:α} (h:(a==b)=true):a=b:=beq_iff_eq.1 h
theorem gX (a b:Bool):((a&&b)=true)=(a=true∧b=true):=Bool.and_eq_true a b
theorem jo {α:Type} {a:α} {l:List α}:a ∈ a::l:=List.mem_cons_self
theorem lV {α:Type} (y:α) {a:α} {l:List α} (h:a ∈ l):a ∈ y::l:=List.mem_cons_of_mem y h
theorem aP {p:Prop} [Decidable p] (h:p):decide p=true:=decide_eq_true h
theorem aQ {p:Prop} [Decidable p] (h:¬ p):decide p=false:=decide_eq_false h
theorem br {R:Type} {b n:Nat} {k:Option R} (h:n≤1099511627776) (hb:b≤128):rm b n k=k :=
 LA (Nat.le_trans (Nat.mul_le_mul h hb) (by decide)) (by omega)
theorem dm {R:Type} {a b:ByteArray} {k:Option R} (h:a.size+b.size≤4611686018427387904):kW a b k=k:=AY (by omega)
theorem Az {R:Type} {b:Nat} {n:Int} {k:Option R} (h0:0≤n) (h:n≤1099511627776) (hb:b≤128):vP b n k=k :=
 Dl h0 (Nat.le_trans (Nat.mul_le_mul (show n.toNat≤1099511627776 by omega) hb) (by decide)) (by omega)
theorem vc {n:Int} (h0:0≤n) (h1:n≤4294967295):IntKind.wrap .u32 n=n:=by
 unfold IntKind.wrap
 simp [IntKind.bits,IntKind.signed]
 omega
theorem np {n:Int} (h0:0≤n) (h1:n≤255):IntKind.wrap .u8 n=n:=by
 unfold IntKind.wrap
 simp [IntKind.bits,IntKind.signed]
 omega
theorem KQ {α:Type} {g:Nat→Option α} {r:α} (h:∀ k,2 ^ 50≤k→g k=some r):Ev g r:=⟨2 ^ 50,h⟩
section
variable {α σ ρ:Type}
theorem L5 {L:Nat→σ→Option ρ} {R:σ→Option ρ} (μ:σ→Nat) (P:σ→Prop)
 (h:∀ n s,P s→(∀ s',P s'→μ s' < μ s→L n s'=R s')→L (n+1) s=R s):∀ n s,P s→μ s<n→L n s=R s
 | 0,s,_,hn=>by omega
 | n+1,s,hs,hn=>h n s hs fun s' h1 h2=>L5 μ P h n s' h1 (by omega)
theorem KV {L:Nat→Int→σ→Option ρ} {R:Int→σ→Option ρ} (N:Int) (P:Int→σ→Prop)
 (h0:∀ (n:Nat) s,P N s→L (n+1) N s=R N s)
 (h1:∀ (n:Nat) (i:Int) s,0≤i→i<N→P i s→(∀ s',P (i+1) s'→L n (i+1) s'=R (i+1) s')→L (n+1) i s=R i s) :
 ∀ (n:Nat) (i:Int) s,0≤i→i≤N→N-i<n→P i s→L n i s=R i s
 | 0,i,s,hi,hN,hn,_=>by omega
 | n+1,i,s,hi,hN,hn,hs=>by
  by_cases c:i=N
  · subst c;exact h0 n s hs
  · exact h1 n i s hi (by omega) hs fun s' q=>KV N P h0 h1 n (i+1) s' (by omega) (by omega) (by omega) q
theorem HE {L:Nat→Int→σ→Option ρ} {R:List α→σ→Option ρ} (z:α) (l:List α) (P:Int→σ→Prop)
 (h0:∀ (n:Nat) s,P l.length s→L (n+1) l.length s=R [] s)
 (h1:∀ (n:Nat) (i:Int) s x rest,0≤i→i<l.length→l.getD i.toNat z=x→l.drop i.toNat=x::rest→P i s→(∀ s',P (i+1) s'→L n (i+1) s'=R rest s')→L (n+1) i s=R (x::rest) s) :
 ∀ (n:Nat) (i:Int) s,0≤i→i≤l.length→(l.length:Int)-i<n→P i s→L n i s=R (l.drop i.toNat) s:=by
 intro n i s hi hN hn hs
 refine KV (L:=L) (R:=fun i s=>R (l.drop i.toNat) s) l.length P (fun n s q=>?_) (fun n i s hi hlt q ih=>?_) n i s hi hN hn hs
 · rw [h0 n s q,Int.toNat_natCast,List.drop_length]
 · have hl:i.toNat<l.length:=by omega
   have e:l.drop i.toNat=l.getD i.toNat z::l.drop (i+1).toNat:=by
    rw [List.drop_eq_getElem_cons hl,show (i+1).toNat=i.toNat+1 by omega]
    simp [List.getD,hl]
   show _=R (l.drop i.toNat) s
   rw [e]
   exact h1 n i s _ _ hi hlt rfl e q ih
theorem dp {L:Nat→Int→σ→Option ρ} {R:List α→σ→Option ρ} (z:α) (l:List α) (P:Int→σ→Prop)
 (h0:∀ (n:Nat) s,P l.length s→L (n+1) l.length s=R [] s)
 (h1:∀ (n:Nat) (i:Int) s x rest,0≤i→i<l.length→l.getD i.toNat z=x→l.drop i.toNat=x::rest→P i s→(∀ s',P (i+1) s'→L n (i+1) s'=R rest s')→L (n+1) i s=R (x::rest) s)
 {n:Nat} {s:σ} (hn:l.length<n) (hs:P 0 s):L n 0 s=R l s:=by
 have:=HE z l P h0 h1 n 0 s (by omega) (by omega) (by omega) hs
 simpa using this
end
theorem kZ {a b:ByteArray} (h:a≠b):seq a b=false:=by
 cases c:seq a b
 · rfl
 · exact absurd (dy.1 c) h
theorem IM {a b:ByteArray} (h:a=b):seq a b=true:=dy.2 h
theorem EW (a b:ByteArray):seq a b=decide (a=b):=by
 by_cases h:a=b
 · rw [IM h,aP h]
 · rw [kZ h,aQ h]
theorem Is {α:Type} {l:List α} {i:Nat} {x:α} {rest:List α} (h:l.drop i=x::rest):i<l.length:=by
 rcases Nat.lt_or_ge i l.length with q | q
 · exact q
 · rw [List.drop_eq_nil_of_le q] at h;cases h
def vl:Nat→Nat→List Nat
 | 0,a=>[a]
 | d+1,a=>if a≥128 then (128+a % 128)::vl d (a/128) else [a]
def rG:List Nat→Nat
 | []=>0
 | b::p=>b % 128+128*rG p
def qU:List Nat→Bool
 | []=>false
 | [b]=>decide (b<128)
 | b::c::p=>decide (128≤b)&&(decide (b<256)&&(qU (c::p)&&!(decide (p=[])&&c==0)))
theorem vV:∀ (d a:Nat),a<128 ^ (d+1)→qU (vl d a)=true∧rG (vl d a)=a∧(vl d a=[0]→a=0)
 | 0,a,h=>by
  have:a<128:=by simpa using h
  refine ⟨by simp [vl,qU,this],by simp [vl,rG];omega,fun q=>by simpa [vl] using q⟩
 | d+1,a,h=>by
  unfold vl
  by_cases c:a≥128
  · rw [if_pos c]
    obtain ⟨h1,h2,h3⟩:=vV d (a/128) (by rw [Nat.pow_succ] at h;omega)
    refine ⟨?_,by rw [rG,h2];omega,fun q=>by have:=(List.cons.inj q).1;omega⟩
    generalize vl d (a/128)=l at h1 h2 h3
    match l,h1 with
    | x::p,h1 =>
     simp only [qU,h1]
     have e1:decide (128≤128+a % 128)=true:=decide_eq_true (by omega)
     have e2:decide (128+a % 128<256)=true:=decide_eq_true (by omega)
     rw [e1,e2]
     cases hp:(decide (p=[])&&x==0)
     · rfl
     · simp only [gX,decide_eq_true_eq,beq_iff_eq] at hp
       have:=h3 (by rw [hp.1,hp.2])
       omega
  · rw [if_neg c]
    have:a<128:=by omega
    exact ⟨by simp [qU,this],by simp [rG];omega,fun q=>by simpa using q⟩
theorem BB:∀ (p:List Nat),qU p=true→p≠[0]→1≤rG p
 | [],h,_=>by simp [qU] at h
 | [b],h,q=>by
  simp only [qU,decide_eq_true_eq] at h
  simp only [rG]
  have:b≠0:=fun e=>q (by rw [e])
  omega
 | b::c::p,h,_=>by
  simp only [qU,gX,decide_eq_true_eq,Bool.not_eq_true'] at h
  have ih:=BB (c::p) h.2.2.1 (fun e=>by
   have e1:c=0:=(List.cons.inj e).1
   have e2:p=[]:=(List.cons.inj e).2
   have:=h.2.2.2
   rw [e1,e2] at this
   simp at this)
  rw [rG]
  omega
theorem An:∀ (d:Nat) (p:List Nat),qU p=true→p.length≤d+1→vl d (rG p)=p
 | _,[],h,_=>by simp [qU] at h
 | 0,[b],h,_=>by
  simp only [qU,decide_eq_true_eq] at h
  simp [vl,rG];omega
 | d+1,[b],h,_=>by
  simp only [qU,decide_eq_true_eq] at h
  have e:rG [b]=b:=by simp [rG];omega
  rw [e,vl,if_neg (by omega)]
 | 0,b::c::p,_,hl=>by simp at hl
 | d+1,b::c::p,h,hl=>by
  have h0:=h
  simp only [qU,gX,decide_eq_true_eq,Bool.not_eq_true'] at h
  have hp:=BB (c::p) h.2.2.1 (fun e=>by
   have e1:c=0:=(List.cons.inj e).1
   have e2:p=[]:=(List.cons.inj e).2
   have:=h.2.2.2
   rw [e1,e2] at this
   simp at this)
  have ih:=An d (c::p) h.2.2.1 (by simp at hl ⊢;omega)
  rw [rG,vl,if_pos (by omega)]
  rw [show (b % 128+128*rG (c::p))/128=rG (c::p) by omega,ih]
  congr 1
  omega
theorem CM:∀ (p:List Nat) (b:Nat),rG (p++[b])=rG p+128 ^ p.length*(b % 128)
 | [],b=>by simp [rG]
 | a::p,b=>by
  rw [List.cons_append,rG,CM p b,rG,kU,Nat.pow_succ,Nat.mul_add,Nat.mul_comm (128 ^ p.length) 128,Nat.mul_assoc]
  omega
theorem AK:∀ (p:List Nat),rG p<128 ^ p.length
 | []=>by simp [rG]
 | a::p=>by
  have:=AK p
  rw [rG,kU,Nat.pow_succ]
  omega
def nb (s:ByteArray):List Nat:=s.data.toList.map UInt8.toNat
theorem cO (s:ByteArray):(nb s).length=s.size:=by
 unfold nb
 rw [List.length_map,Array.length_toList]
 rfl
theorem JZ {s:ByteArray} {x:Nat} (h:x ∈ nb s):x<256:=by
 unfold nb at h
 rw [List.mem_map] at h
 obtain ⟨y,_,rfl⟩:=h
 exact UInt8.toNat_lt y
theorem jW {a b:ByteArray} (h:nb a=nb b):a=b:=by
 unfold nb at h
 have h1:a.data.toList=b.data.toList:=List.map_inj_right (fun x y e=>UInt8.toNat_inj.1 e) |>.1 h
 exact ByteArray.ext (Array.toList_inj.1 h1)
theorem xm {s:ByteArray} {i:Nat} (h:i<s.size):di s (i:Int)=(((nb s).getD i 0:Nat):Int):=by
 unfold di nb
 have h1:i<s.data.toList.length:=by rw [Array.length_toList];exact h
 rw [Int.toNat_natCast,List.getD,List.getD,List.getElem?_map,List.getElem?_eq_getElem h1]
 rfl
theorem CZ {l:List Nat} (h:∀ x ∈ l,x<256):nb (bytesOf (l.map Int.ofNat))=l:=by
 unfold nb bytesOf
 simp only [List.map_map,List.toList_toArray]
 induction l with
 | nil=>rfl
 | cons x l ih =>
  rw [List.map_cons,ih (fun y hy=>h y (lV _ hy))]
  have:=h x (jo ..)
  congr 1
  show (UInt8.ofNat (Int.toNat (x:Int))).toNat=x
  rw [Int.toNat_natCast]
  simp
  omega
theorem jw (s:ByteArray) (n:Nat):nb (ByteArray.extract s 0 n)=(nb s).take n:=by
 unfold nb
 simp [ByteArray.data_extract,List.map_take]
theorem JR:∀ (d a:Nat),a<128 ^ (d+1)→∀ x ∈ vl d a,x<256
 | 0,a,h,x,hx=>by simp [vl] at hx;subst hx;simp at h;omega
 | d+1,a,h,x,hx=>by
  unfold vl at hx
  split at hx
  · rcases List.mem_cons.1 hx with q | q
    · subst q;omega
    · exact JR d _ (by rw [Nat.pow_succ] at h;omega) x q
  · simp at hx;subst hx;omega
def bG (a:Nat):ByteArray:=bytesOf ((vl 6 a).map Int.ofNat)
theorem sJ {a:Nat} (h:a<562949953421312):nb (bG a)=vl 6 a:=CZ (JR 6 a (by rw [show (128:Nat) ^ (6+1)=562949953421312 by decide];exact h))
theorem Fb {s:ByteArray} {n:Nat} (h0:1≤n) (h7:n≤7) (hs:n≤s.size):seq (bG (rG ((nb s).take n))) (ByteArray.extract s 0 n)=qU ((nb s).take n):=by
 have hl:((nb s).take n).length=n:=by rw [List.length_take,cO];omega
 have hd:rG ((nb s).take n)<562949953421312:=by
  have:=AK ((nb s).take n)
  rw [hl] at this
  have h2:(128:Nat) ^ n≤128 ^ 7:=Nat.pow_le_pow_right (by decide) h7
  rw [show (128:Nat) ^ 7=562949953421312 by decide] at h2
  omega
 rw [Bool.eq_iff_iff,dy]
 constructor
 · intro e
   have e1:nb (bG (rG ((nb s).take n)))=(nb s).take n:=by rw [e,jw]
   rw [sJ hd] at e1
   have:=(vV 6 (rG ((nb s).take n)) (by rw [show (128:Nat) ^ (6+1)=562949953421312 by decide];exact hd)).1
   rw [e1] at this
   exact this
 · intro c
   refine jW ?_
   rw [sJ hd,jw]
   exact An 6 _ c (by omega)
open Go
def ga (n:Int):ByteArray:=⟨(Lib.itoa n).toArray⟩
def ry (u:Nat):List UInt8:=if u=0 then [] else Lib.decDigits u
theorem GX:ry 0=[]:=rfl
theorem qO {u:Nat} (h:u≠0):ry u=Lib.decDigits u:=if_neg h
theorem G0 {u:Nat} (h:u≠0):ry u=ry (u/10)++[UInt8.ofNat (48+u % 10)]:=by
 rw [qO h,Lib.decDigits]
 by_cases c:u<10
 · rw [dif_pos c,show u/10=0 by omega,GX,List.nil_append,Nat.mod_eq_of_lt c]
 · rw [dif_neg c,qO (by omega)]
theorem sr (u:Nat):Lib.decDigits u≠[]:=by
 rw [Lib.decDigits]
 split <;> simp
theorem xV:Lib.decDigits 0=[48]:=by
 rw [Lib.decDigits,dif_pos (by omega)]
 rfl
theorem ql {d:Nat} (h:d<10):(UInt8.ofNat (48+d)).toNat=48+d:=by
 simp
 omega
theorem mX (u:Nat):∀ b ∈ Lib.decDigits u,48≤b.toNat∧b.toNat≤57:=by
 induction u using Nat.strongRecOn with
 | _ u ih =>
  intro b hb
  rw [Lib.decDigits] at hb
  split at hb
  · rename_i h
    rw [List.mem_singleton] at hb
    subst hb
    rw [ql h]
    omega
  · rename_i h
    rcases List.mem_append.1 hb with q | q
    · exact ih (u/10) (by omega) b q
    · rw [List.mem_singleton] at q
      subst q
      rw [ql (by omega)]
      omega
def pk:List Nat→Nat→Nat
 | [],a=>a
 | b::l,a=>pk l (a*10+(b-48))
theorem zF:∀ (l m:List Nat) (a:Nat),pk (l++m) a=pk m (pk l a)
 | [],m,a=>rfl
 | b::l,m,a=>zF l m _
theorem qt (u:Nat):pk ((Lib.decDigits u).map UInt8.toNat) 0=u:=by
 induction u using Nat.strongRecOn with
 | _ u ih =>
  rw [Lib.decDigits]
  split
  · rename_i h
    simp only [List.map_cons,List.map_nil,pk,ql h]
    omega
  · rename_i h
    rw [List.map_append,zF,ih (u/10) (by omega)]
    simp only [List.map_cons,List.map_nil,pk,ql (show u % 10<10 by omega)]
    omega
theorem iE:∀ (k u:Nat),u<10 ^ (k+1)→(Lib.decDigits u).length≤k+1
 | 0,u,h=>by
  rw [Lib.decDigits,dif_pos (by simpa using h)]
  simp
 | k+1,u,h=>by
  rw [Lib.decDigits]
  split
  · simp
  · have:=iE k (u/10) (by rw [Nat.pow_succ] at h;omega)
    rw [uo]
    show _+1≤_
    omega
theorem oo (n:Int):nb (ga n)=if n<0 then 45::(Lib.decDigits n.natAbs).map UInt8.toNat else (Lib.decDigits n.toNat).map UInt8.toNat:=by
 unfold nb ga Lib.itoa
 split <;> simp
theorem xl {a b:Int} (h:ga a=ga b):a=b:=by
 have h1:=congrArg nb h
 rw [oo,oo] at h1
 have hd:∀ u:Nat,∀ l,(Lib.decDigits u).map UInt8.toNat≠45::l:=fun u l q=>by
  have hm:(45:Nat) ∈ (Lib.decDigits u).map UInt8.toNat:=by rw [q];exact jo ..
  obtain ⟨x,hx,e⟩:=List.mem_map.1 hm
  have:=mX u x hx
  omega
 by_cases ca:a<0
 · rw [if_pos ca] at h1
   by_cases cb:b<0
   · rw [if_pos cb] at h1
     have h2:=(List.cons.inj h1).2
     have h3:=congrArg (fun l=>pk l 0) h2
     simp only [qt] at h3
     omega
   · rw [if_neg cb] at h1
     exact absurd h1.symm (hd _ _)
 · rw [if_neg ca] at h1
   by_cases cb:b<0
   · rw [if_pos cb] at h1
     exact absurd h1 (hd _ _)
   · rw [if_neg cb] at h1
     have h3:=congrArg (fun l=>pk l 0) h1
     simp only [qt] at h3
     omega
theorem GM {n:Int} (h0 : -1000000000<n) (h1:n<1000000000):(ga n).size≤10:=by
 rw [← cO,oo]
 split
 · have:=iE 8 n.natAbs (by rw [show (10:Nat) ^ (8+1)=1000000000 by decide];omega)
   rw [kU,List.length_map]
   omega
 · have:=iE 8 n.toNat (by rw [show (10:Nat) ^ (8+1)=1000000000 by decide];omega)
   rw [List.length_map]
   omega
theorem BZ (n:Int) (h0 : -9223372036854775808≤n) (h1:n≤9223372036854775807):(ga n).size≤20:=by
 rw [← cO,oo]
 split
 · have:=iE 18 n.natAbs (by rw [show (10:Nat) ^ (18+1)=10000000000000000000 by decide];omega)
   rw [kU,List.length_map]
   omega
 · have:=iE 18 n.toNat (by rw [show (10:Nat) ^ (18+1)=10000000000000000000 by decide];omega)
   rw [List.length_map]
   omega
section
variable {α ρ:Type}
def nS (ok:Option α→α→Bool):Option α→List α→Bool
 | _,[]=>true
 | p,x::l=>ok p x&&nS ok (some x) l
theorem qX {L:Nat→Int→Option ρ} (z:α) (l:List α) (ok:Option α→α→Bool) (yes no:Option ρ) (h0:∀ (n:Nat),L (n+1) l.length=yes)
 (h1:∀ (n:Nat) x,0<l.length→l.getD (Int.toNat 0) z=x→L (n+1) 0=bif ok none x then L n 1 else no)
 (h2:∀ (n:Nat) (i:Int) x y,0<i→i<l.length→l.getD i.toNat z=x→l.getD (i-1).toNat z=y→L (n+1) i=bif ok (some y) x then L n (i+1) else no)
 {n:Nat} (hn:l.length<n):L n 0=bif nS ok none l then yes else no:=by
 have key:∀ (d i n:Nat),l.length=i+d→0<i→d<n→L n (i:Int)=bif nS ok (some (l.getD (i-1) z)) (l.drop i) then yes else no:=by
  intro d
  induction d with
  | zero =>
   intro i n h h' hn
   obtain ⟨n,rfl⟩:∃ q,n=q+1:=⟨n-1,by omega⟩
   have:i=l.length:=by omega
   subst this
   rw [h0 n,List.drop_length]
   rfl
  | succ d ih =>
   intro i n h h' hn
   obtain ⟨n,rfl⟩:∃ q,n=q+1:=⟨n-1,by omega⟩
   have hl:i<l.length:=by omega
   have e:l.drop i=l.getD i z::l.drop (i+1):=by
    rw [List.drop_eq_getElem_cons hl]
    simp [List.getD,hl]
   have ih:=ih (i+1) n (by omega) (by omega) (by omega)
   rw [h2 n i (l.getD i z) (l.getD (i-1) z) (by omega) (by omega) (by rw [Int.toNat_natCast]) (by rw [show ((i:Int)-1).toNat=i-1 by omega]),e,nS]
   rw [show ((i:Int)+1)=((i+1:Nat):Int) by omega,ih,show i+1-1=i by omega]
   cases ok (some (l.getD (i-1) z)) (l.getD i z) <;> rfl
 obtain ⟨n,rfl⟩:∃ q,n=q+1:=⟨n-1,by omega⟩
 cases l with
 | nil=>exact h0 n
 | cons x l =>
  rw [h1 n x (by simp) rfl,nS]
  have:=key l.length 1 n (by rw [kU];omega) (by omega) (by rw [kU] at hn;omega)
  rw [show ((1:Nat):Int)=1 from rfl] at this
  rw [this]
  cases ok none x <;> rfl
theorem Ae {ok:Option α→α→Bool} {l:List α} {p:Option α} (h:nS ok p l=true) {x:α} (hx:x ∈ l):∃ q,ok q x=true:=by
 induction l generalizing p with
 | nil=>cases hx
 | cons y l ih =>
  rw [nS,gX] at h
  rcases List.mem_cons.1 hx with e | e
  · subst e;exact ⟨p,h.1⟩
  · exact ih h.2 e
end
theorem mq {α:Type} {l:List α} {n i:Nat} {z:α} (h:i<n):(l.take n).getD i z=l.getD i z:=by
 simp [List.getD,List.getElem?_take,h]
theorem n6 {α:Type} {l:List α} {i:Nat} {z:α} (h:i<l.length):l.take (i+1)=l.take i++[l.getD i z]:=by
 rw [List.take_succ_eq_append_getElem h]
 simp [List.getD,h]
theorem bN {α:Type} (l:List α) (x:α):(l++[x]).length=l.length+1:=by simp
def dB (l:List UInt8):ByteArray:=⟨l.toArray⟩
theorem I7 (a b:List UInt8):dB a++dB b=dB (a++b):=by
 apply ByteArray.ext
 simp [dB,ByteArray.data_append]
theorem zq (l:List UInt8):(dB l).size=l.length:=by simp [dB,ByteArray.size]
theorem s7 (s:ByteArray):dB []++s=s:=by
 apply ByteArray.ext
 simp [dB,ByteArray.data_append]
theorem E3 (s:ByteArray):s++dB []=s:=by
 apply ByteArray.ext
 simp [dB,ByteArray.data_append]
theorem oG (a b c:ByteArray):a++b++c=a++(b++c):=by
 apply ByteArray.ext
 simp [ByteArray.data_append]
theorem J2 (n:Int) (h:n≠0):ga n=(bif decide (n<0) then dB [45] else dB [])++dB (ry n.natAbs):=by
 unfold ga Lib.itoa
 by_cases c:n<0
 · rw [if_pos c,aP c,af,I7,qO (by omega)]
   rfl
 · rw [if_neg c,aQ c,aL,s7,qO (by omega),show n.natAbs=n.toNat by omega]
   rfl
theorem CP {u:Nat} (h:u≤9223372036854775808):(ry u).length≤19:=by
 by_cases c:u=0
 · subst c;decide
 · rw [qO c]
   exact iE 18 u (by rw [show (10:Nat) ^ (18+1)=10000000000000000000 by decide];omega)
theorem nL {n:Int} (h0 : -9223372036854775808≤n) (h1:n≤9223372036854775807):(ga n).size≤20:=BZ n h0 h1
def m_:List Nat→Bool
 | []=>true
 | b::l=>(decide (97≤b∧b≤122)||decide (48≤b∧b≤57))&&m_ l
def k0 (s:ByteArray):Bool:=m_ (nb s)&&decide (1≤s.size∧s.size≤12)
end Go.V
namespace Go.Proofs.YthjppgafienaoabGreatDoor.G
open Go.V
theorem pA {k:Nat} (hk:2 ^ 50≤k) {n:Int} (h0 : -9223372036854775808≤n) (h1:n≤9223372036854775807):db.f k n=some (ga n,()):=by
 unfold db.f db.t
 by_cases c:n=0
 · subst c
   have:ga 0=(⟨#[48]⟩:ByteArray):=by
    unfold ga Lib.itoa
    rw [if_neg (by decide),show (0:Int).toNat=0 from rfl,xV]
   rw [this]
   rfl
 · rw [show (n==0)=false from mP c,aL]
   have key:=L5 (L:=fun m (s:Int × ByteArray)=>db.l0 k m s.1 s.2 (decide (n<0))) (R:=fun s=>some ((bif decide (n<0) then dB [45] else dB [])++(dB (ry s.1.natAbs)++s.2),()))
    (fun s=>(ry s.1.natAbs).length) (fun s => -9223372036854775808≤s.1∧s.1≤9223372036854775807∧s.2.size+(ry s.1.natAbs).length≤1000) ?_ k (n,(⟨#[]⟩:ByteArray))
    ⟨h0,h1,by have:=CP (u:=n.natAbs) (by omega);show 0+(ry n.natAbs).length≤1000;omega⟩ (by have:=CP (u:=n.natAbs) (by omega);show (ry n.natAbs).length<k;omega)
   · refine key.trans ?_
     simp only []
     rw [J2 n c,show (⟨#[]⟩:ByteArray)=dB [] from rfl,E3]
   · intro m s hs ih
     obtain ⟨x,acc⟩:=s
     obtain ⟨g0,g1,g2⟩:=hs
     simp only [] at g0 g1 g2 ih ⊢
     by_cases cx:x=0
     · subst cx
       have hz:ry (Int.natAbs 0)=[]:=rfl
       rw [hz] at g2 ⊢
       rw [s7]
       unfold db.l0 db.b0
       rw [show ((0:Int) != 0)=false from rfl,aL]
       cases decide (n<0)
       · rw [aL,aL,s7]
       · rw [af,af,dm (by rw [show (⟨#[45]⟩:ByteArray).size=1 from rfl];omega)]
         rfl
     · have hd:=G0 (u:=x.natAbs) (by omega)
       have hb:bytesOf [48+((x.natAbs % 10:Nat):Int)]=dB [UInt8.ofNat (48+x.natAbs % 10)]:=rfl
       have hm:x.natAbs % 10<10:=Nat.mod_lt _ (by decide)
       have hl:(ry x.natAbs).length=(ry (x.natAbs/10)).length+1:=by rw [hd,uo];rfl
       have hr:(dB [UInt8.ofNat (48+x.natAbs % 10)]++acc).size=1+acc.size:=by rw [ByteArray.size_append];rfl
       have fin:∀ y:Int,y.natAbs=x.natAbs/10 → -9223372036854775808≤y→y≤9223372036854775807 →
        db.l0 k m (aH y) (dB [UInt8.ofNat (48+x.natAbs % 10)]++acc) (decide (n<0))=some ((bif decide (n<0) then dB [45] else dB [])++(dB (ry x.natAbs)++acc),()):=fun y hy q0 q1=>by
        rw [aD q0 q1]
        have:=ih (y,dB [UInt8.ofNat (48+x.natAbs % 10)]++acc) ⟨q0,q1,by simp only [];rw [hr,hy];omega⟩ (by simp only [];rw [hy];omega)
        simp only [] at this
        rw [this,hy,hd,← I7,oG]
       unfold db.l0 db.b0
       rw [show (x != 0)=true from bne_iff_ne.2 cx,af]
       obtain ⟨u,rfl | rfl⟩:=Int.eq_nat_or_neg x
       · have e1:Int.tmod (u:Int) 10=((u % 10:Nat):Int):=rfl
         have e2:Int.tdiv (u:Int) 10=((u/10:Nat):Int):=rfl
         rw [Int.natAbs_natCast] at *
         rw [e1,e2,aQ (by omega),aL,aD (n:=48+((u % 10:Nat):Int)) (by omega) (by omega),np (by omega) (by omega),hb,dm (by rw [zq];simp only [List.length_singleton];omega)]
         exact fin _ (by omega) (by omega) (by omega)
       · have e1:Int.tmod (-(u:Int)) 10 = -((u % 10:Nat):Int):=Int.neg_tmod (a:=(u:Int)) (b:=10)
         have e2:Int.tdiv (-(u:Int)) 10 = -((u/10:Nat):Int):=Int.neg_tdiv (u:Int) 10
         rw [Int.natAbs_neg,Int.natAbs_natCast] at *
         rw [e1,e2]
         by_cases cz:u % 10=0
         · rw [aQ (by omega),aL,show (48:Int) + -((u % 10:Nat):Int)=48+((u % 10:Nat):Int) by omega,aD (n:=48+((u % 10:Nat):Int)) (by omega) (by omega),np (by omega) (by omega),hb,dm (by rw [zq];simp only [List.length_singleton];omega)]
           exact fin _ (by omega) (by omega) (by omega)
         · rw [aP (by omega),af,aD (n:=0 - -((u % 10:Nat):Int)) (by omega) (by omega),show (48:Int)+(0 - -((u % 10:Nat):Int))=48+((u % 10:Nat):Int) by omega,aD (n:=48+((u % 10:Nat):Int)) (by omega) (by omega),np (by omega) (by omega),hb,dm (by rw [zq];simp only [List.length_singleton];omega)]
           exact fin _ (by omega) (by omega) (by omega)
theorem Dd (k:Nat) {n:Int} (h0 : -9223372036854775808≤n) (h1:n≤9223372036854775807):mK.f k n=some (ga n,()):=by
 unfold mK.f mK.t mI.f
 rw [aP ⟨h0,h1⟩]
 rfl
theorem ll (k:Nat) (a b c:Int):b9.f k a b c=some (decide (b≤a∧a≤c),()):=by
 unfold b9.f b9.t
 by_cases h:a≥b
 · rw [aP h,af,decide_eq_decide.2 (show (b≤a∧a≤c)↔a≤c from ⟨fun q=>q.2,fun q=>⟨h,q⟩⟩)]
 · rw [aQ h,aL,aQ (fun q=>h q.1)]
theorem dT (k:Nat) (a b c:Int):aN.f k a b c=some (decide (b≤a∧a≤c),()):=by
 unfold aN.f aN.t
 by_cases h:a≥b
 · rw [aP h,af,decide_eq_decide.2 (show (b≤a∧a≤c)↔a≤c from ⟨fun q=>q.2,fun q=>⟨h,q⟩⟩)]
 · rw [aQ h,aL,aQ (fun q=>h q.1)]
theorem zt {s:ByteArray} {i:Int} {x:Nat} (h0:0≤i) (h1:i<((nb s).length:Int)) (hx:(nb s).getD i.toNat 0=x):di s i=(x:Int):=by
 rw [cO] at h1
 have:=xm (s:=s) (i:=i.toNat) (by omega)
 rw [show ((i.toNat:Nat):Int)=i by omega,hx] at this
 exact this
theorem B7 {s:ByteArray}:(some ((bif m_ (nb s) then decide (1≤(s.size:Int)∧(s.size:Int)≤12) else false),()):Option (Bool × Unit))=some (k0 s,()):=by
 unfold k0
 rw [decide_eq_decide.2 (show (1≤(s.size:Int)∧(s.size:Int)≤12)↔(1≤s.size∧s.size≤12) by omega)]
 cases m_ (nb s) <;> rfl
theorem nZ {k:Nat} (hk:2 ^ 50≤k) {s:ByteArray} (hs:s.size≤1099511627776):dc.f k s=some (k0 s,()):=by
 unfold dc.f dc.t
 have hn:=cO s
 refine (dp (L:=fun n i (_:Unit)=>dc.l0 k n s i) (R:=fun r _=>some ((bif m_ r then decide (1≤(s.size:Int)∧(s.size:Int)≤12) else false),())) 0 (nb s) (fun _ _=>True) (fun n _ _=>?_) (fun n i _ x rest h0 h1 hx hr hp ih=>?_) (n:=k) (s:=()) (by omega) trivial).trans B7
 · simp only [hn]
   simp (disch:=omega) only [dc.l0,dc.b0,aQ,aL,dT k,ae,m_,af]
 · have hb:=zt h0 h1 hx
   have ih:=ih () trivial
   simp only [hn] at *
   simp (disch:=omega) only [dc.l0,dc.b0,aP h1,af,aI,hb,aD,ih,m_]
   by_cases c1:97≤x
   · rw [aP (show (x:Int)≥97 by omega),af]
     by_cases c2:x≤122
     · rw [aP (show (x:Int)≤122 by omega),af,aP (show 97≤x∧x≤122 from ⟨c1,c2⟩)]
       rfl
     · rw [aQ (show ¬ (x:Int)≤122 by omega),aL,aQ (show ¬ (97≤x∧x≤122) by omega),aP (show (x:Int)≥48 by omega),af,aQ (show ¬ (x:Int)≤57 by omega),aQ (show ¬ (48≤x∧x≤57) by omega)]
       rfl
   · rw [aQ (show ¬ (x:Int)≥97 by omega),aL,aQ (show ¬ (97≤x∧x≤122) by omega)]
     by_cases c3:48≤x
     · rw [aP (show (x:Int)≥48 by omega),af]
       by_cases c4:x≤57
       · rw [aP (show (x:Int)≤57 by omega),aP (show 48≤x∧x≤57 from ⟨c3,c4⟩)]
         rfl
       · rw [aQ (show ¬ (x:Int)≤57 by omega),aQ (show ¬ (48≤x∧x≤57) by omega)]
         rfl
     · rw [aQ (show ¬ (x:Int)≥48 by omega),aL,aQ (show ¬ (48≤x∧x≤57) by omega)]
       rfl
theorem ur {k:Nat} (hk:2 ^ 50≤k) {s:ByteArray} (hs:s.size≤1099511627776):fo.f k s=some (k0 s,()):=by
 unfold fo.f fo.t
 have hn:=cO s
 refine (dp (L:=fun n i (_:Unit)=>fo.l0 k n s i) (R:=fun r _=>some ((bif m_ r then decide (1≤(s.size:Int)∧(s.size:Int)≤12) else false),())) 0 (nb s) (fun _ _=>True) (fun n _ _=>?_) (fun n i _ x rest h0 h1 hx hr hp ih=>?_) (n:=k) (s:=()) (by omega) trivial).trans B7
 · simp only [hn]
   simp (disch:=omega) only [fo.l0,fo.b0,aQ,aL,ll k,ae,m_,af]
 · have hb:=zt h0 h1 hx
   have ih:=ih () trivial
   simp only [hn] at *
   simp (disch:=omega) only [fo.l0,fo.b0,aP h1,af,aI,hb,aD,ih,m_]
   by_cases c1:97≤x
   · rw [aP (show (x:Int)≥97 by omega),af]
     by_cases c2:x≤122
     · rw [aP (show (x:Int)≤122 by omega),aP (show 97≤x∧x≤122 from ⟨c1,c2⟩)]
       rfl
     · rw [aQ (show ¬ (x:Int)≤122 by omega),aQ (show ¬ (97≤x∧x≤122) by omega),aP (show (x:Int)≥48 by omega),aQ (show ¬ (x:Int)≤57 by omega),aQ (show ¬ (48≤x∧x≤57) by omega)]
       rfl
   · rw [aQ (show ¬ (x:Int)≥97 by omega),aL,aQ (show ¬ (97≤x∧x≤122) by omega)]
     by_cases c3:48≤x
     · rw [aP (show (x:Int)≥48 by omega),af]
       by_cases c4:x≤57
       · rw [aP (show (x:Int)≤57 by omega),aP (show 48≤x∧x≤57 from ⟨c3,c4⟩)]
         rfl
       · rw [aQ (show ¬ (x:Int)≤57 by omega),aQ (show ¬ (48≤x∧x≤57) by omega)]
         rfl
     · rw [aQ (show ¬ (x:Int)≥48 by omega),aL,aQ (show ¬ (48≤x∧x≤57) by omega)]
       rfl
abbrev bu:=List (Ty.d dJ)
def e9 (l:bu):Nat:=(l.map fun f=>f.2.1.size).sum
def pU (l:bu):Nat:=(l.map fun f=>f.1.size).sum
theorem fP (x:Ty.d dJ) (l:bu):e9 (x::l)=x.2.1.size+e9 l:=by unfold e9;rw [List.map_cons,List.sum_cons]
theorem wo:e9 []=0:=rfl
theorem yA (x:Ty.d dJ) (l:bu):pU (x::l)=x.1.size+pU l:=by unfold pU;rw [List.map_cons,List.sum_cons]
theorem xb:∀ l m:bu,e9 (l++m)=e9 l+e9 m
 | [],m=>by rw [List.nil_append,wo,Nat.zero_add]
 | x::l,m=>by rw [List.cons_append,fP,fP,xb l m];omega
theorem tH {l:bu} {x:Ty.d dJ} (h:x ∈ l):x.2.1.size≤e9 l:=by
 induction l with
 | nil=>cases h
 | cons y l ih =>
  rw [fP]
  rcases List.mem_cons.1 h with e | e
  · subst e;omega
  · have:=ih e;omega
theorem oF {l:bu} {x:Ty.d dJ} (h:x ∈ l):x.1.size≤pU l:=by
 induction l with
 | nil=>cases h
 | cons y l ih =>
  rw [yA]
  rcases List.mem_cons.1 h with e | e
  · subst e;omega
  · have:=ih e;omega
def mV (p:Option (Ty.d dJ)) (x:Ty.d dJ):Bool :=
 k0 x.1&&(decide ((0:Int)≤x.2.2.1∧x.2.2.1≤(x.2.1.size:Int))&&(match p with | none=>true | some y=>mw y.1 x.1))
def gg (d:Ty.d aA):Bool :=
 decide (d.1.length≤130)&&(decide ((0:Int)≤d.2.1∧d.2.1≤(100000:Int))&&(decide ((-1:Int)≤d.2.2.1∧d.2.2.1≤(100000:Int))&&(decide ((e9 d.1:Int)≤d.2.1)&&nS mV none d.1)))
theorem pq {k:Nat} (hk:2 ^ 50≤k) {d:Ty.d aA} (hl:d.1.length≤1099511627776) (hu:e9 d.1≤1099511627776):df.f k d=some ((e9 d.1:Int),()):=by
 unfold df.f df.t
 refine (dp (L:=fun n i s=>df.l0 k n s i d.1 d.2.1 d.2.2.1 d.2.2.2.1) (R:=fun r s=>some (s+(e9 r:Int),())) (Ty.z dJ) d.1 (fun i s=>0≤s∧s+(e9 (d.1.drop i.toNat):Int)≤1099511627776) (fun n s hs=>?_) (fun n i s x rest h0 h1 hx hr hp ih=>?_) (n:=k) (s:=0) (by omega) ⟨by omega,by rw [show d.1.drop (Int.toNat 0)=d.1 from rfl];omega⟩).trans (by rw [Int.zero_add])
 · simp (disch:=omega) only [df.l0,df.b0,aQ,aL]
   show some (s,())=some (s+((0:Nat):Int),())
   rw [show s+((0:Nat):Int)=s by omega]
 · have hrest:d.1.drop (i+1).toNat=rest:=by
    have:=congrArg (List.drop 1) hr
    rw [List.drop_drop,List.drop_one,List.tail_cons] at this
    rw [show (i+1).toNat=i.toNat+1 by omega]
    exact this
   rw [hr,fP] at hp
   have ih:=ih (s+(x.2.1.size:Int)) ⟨by omega,by rw [hrest];omega⟩
   simp (disch:=omega) only [df.l0,df.b0,aP h1,af,aI,hx,aD,ih]
   rw [show s+(x.2.1.size:Int)+(e9 rest:Int)=s+((x.2.1.size+e9 rest:Nat):Int) by omega]
   show _=some (s+((e9 (x::rest):Nat):Int),())
   rw [fP]
theorem ir {k:Nat} (hk:2 ^ 50≤k) {d:Ty.d aA} (hu:e9 d.1≤1099511627776) (hn:pU d.1≤1099511627776):bC.f k d=some (gg d,()):=by
 unfold bC.f bC.t gg
 by_cases c:d.1.length > 130
 · rw [aP (by omega),af,aQ (by omega),Bool.false_and]
 · rw [aQ (by omega),aL,aP (by omega),Bool.true_and,dT,ae]
   cases decide ((0:Int)≤d.2.1∧d.2.1≤(100000:Int)) with
   | false=>rfl
   | true =>
    rw [fa,aL,dT,ae,Bool.true_and]
    cases decide ((-1:Int)≤d.2.2.1∧d.2.2.1≤(100000:Int)) with
    | false=>rfl
    | true =>
     rw [fa,aL,pq hk (by omega) hu,ae,Bool.true_and]
     simp only []
     by_cases cu:(e9 d.1:Int) > d.2.1
     · rw [aP cu,af,aQ (by omega),Bool.false_and]
     · rw [aQ cu,aL,aP (by omega),Bool.true_and]
       refine (qX (L:=fun n i=>bC.l0 k n i d.1 d.2.1 d.2.2.1 d.2.2.2.1) (Ty.z dJ) d.1 mV (some (true,())) (some (false,())) (fun n=>?_) (fun n x h hx=>?_) (fun n i x y h0 h1 hx hy=>?_) (n:=k) (by omega)).trans (by cases nS mV none d.1 <;> rfl)
       · simp (disch:=omega) only [bC.l0,bC.b0,aQ,aL]
       · have hm:x ∈ d.1:=by rw [← hx];exact gl (by omega)
         have hs:=oF hm
         simp (disch:=omega) only [bC.l0,bC.b0,aP (show (0:Int)<(d.1.length:Int) by omega),af,aI,hx,nZ hk,dT k,ae,aQ (show ¬ (0:Int) > 0 by omega),aL,aD,mV]
         cases k0 x.1 <;> cases decide ((0:Int)≤x.2.2.1∧x.2.2.1≤(x.2.1.size:Int)) <;> rfl
       · have hm:x ∈ d.1:=by rw [← hx];exact gl (by omega)
         have hs:=oF hm
         simp (disch:=omega) only [bC.l0,bC.b0,aP h1,af,aI,hx,hy,nZ hk,dT k,ae,aP (show i > 0 by omega),aL,aD,mV,m4]
         cases k0 x.1 <;> cases decide ((0:Int)≤x.2.2.1∧x.2.2.1≤(x.2.1.size:Int)) <;> cases mw y.1 x.1 <;> rfl
theorem zX {l:bu} {i:Nat} {x:Ty.d dJ} (h:i<l.length) (hx:l.getD i (Ty.z dJ)=x):e9 (l.take (i+1))=e9 (l.take i)+x.2.1.size:=by
 rw [List.take_add_one,xb]
 congr 1
 simp only [List.getD,List.getElem?_eq_getElem h,Option.getD_some] at hx
 rw [List.getElem?_eq_getElem h,hx]
 show e9 [x]=_
 rw [fP,wo,Nat.add_zero]
theorem se (l:bu) (i:Nat):e9 (l.take i)≤e9 l:=by
 have:=xb (l.take i) (l.drop i)
 rw [List.take_append_drop] at this
 omega
theorem ua {k:Nat} (hk:2 ^ 50≤k) {d:Ty.d aA} (hu:e9 d.1≤1099511627776) (hn:pU d.1≤1099511627776):dY.f k d=some (gg d,()):=by
 unfold dY.f dY.t gg
 by_cases c:d.1.length > 130
 · rw [aP (by omega),af,aQ (by omega),Bool.false_and]
 · rw [aQ (by omega),aL,aP (by omega),Bool.true_and,ll,ae]
   cases decide ((0:Int)≤d.2.1∧d.2.1≤(100000:Int)) with
   | false=>rfl
   | true =>
    rw [fa,aL,ll,ae,Bool.true_and]
    cases decide ((-1:Int)≤d.2.2.1∧d.2.2.1≤(100000:Int)) with
    | false=>rfl
    | true =>
     rw [fa,aL,Bool.true_and]
     refine (qX (L:=fun n i=>dY.l0 k n (e9 (d.1.take i.toNat):Int) d.1 d.1.length i d.1 d.2.1 d.2.2.1 d.2.2.2.1) (Ty.z dJ) d.1 mV (some (decide ((e9 d.1:Int)≤d.2.1),())) (some (false,())) (fun n=>?_) (fun n x h hx=>?_) (fun n i x y h0 h1 hx hy=>?_) (n:=k) (by omega)).trans
      (by cases nS mV none d.1 <;> cases decide ((e9 d.1:Int)≤d.2.1) <;> rfl)
     · rw [Int.toNat_natCast,List.take_length]
       simp (disch:=omega) only [dY.l0,dY.b0,aQ,aL]
     · have hm:x ∈ d.1:=by rw [← hx];exact gl (by omega)
       have hs:=oF hm
       have ht:=zX (l:=d.1) (i:=0) h hx
       have hle:=se d.1 0
       have hz:=tH hm
       rw [show Int.toNat 1=0+1 from rfl,ht]
       simp only [show Int.toNat 0=0 from rfl] at hx ⊢
       simp (disch:=omega) only [dY.l0,dY.b0,aP (show (0:Int)<(d.1.length:Int) by omega),af,aI,show Int.toNat 0=0 from rfl,hx,ur hk,ll k,ae,aQ (show ¬ (0:Int) > 0 by omega),aL,aD,mV]
       rw [show (e9 (d.1.take 0):Int)+(x.2.1.size:Int)=((e9 (d.1.take 0)+x.2.1.size:Nat):Int) by omega]
       cases k0 x.1 <;> cases decide ((0:Int)≤x.2.2.1∧x.2.2.1≤(x.2.1.size:Int)) <;> rfl
     · have hm:x ∈ d.1:=by rw [← hx];exact gl (by omega)
       have hs:=oF hm
       have ht:=zX (l:=d.1) (i:=i.toNat) (by omega) hx
       have hle:=se d.1 i.toNat
       have hz:=tH hm
       rw [show Int.toNat (i+1)=i.toNat+1 by omega,ht]
       simp (disch:=omega) only [dY.l0,dY.b0,aP h1,af,aI,hx,hy,ur hk,ll k,ae,aP (show i > 0 by omega),aL,aD,mV]
       rw [show (e9 (d.1.take i.toNat):Int)+(x.2.1.size:Int)=((e9 (d.1.take i.toNat)+x.2.1.size:Nat):Int) by omega]
       cases k0 x.1 <;> cases decide ((0:Int)≤x.2.2.1∧x.2.2.1≤(x.2.1.size:Int)) <;> cases mw y.1 x.1 <;> rfl
def kY:bu→ByteArray→Int→Int
 | [],_,_ => -1
 | f::l,s,i=>bif seq f.1 s then i else kY l s (i+1)
def bm:bu→ByteArray→Option (Ty.d dJ)
 | [],_=>none
 | f::l,s=>bif seq f.1 s then some f else bm l s
theorem sM:∀ (l:bu) (s:ByteArray) (i:Int),(bm l s=none∧kY l s i = -1)∨(∃ f,bm l s=some f∧i≤kY l s i∧kY l s i<i+(l.length:Int)∧l.getD (kY l s i-i).toNat (Ty.z dJ)=f∧f ∈ l)
 | [],s,i => .inl ⟨rfl,rfl⟩
 | f::l,s,i=>by
  unfold kY bm
  cases c:seq f.1 s with
  | true=>exact .inr ⟨f,rfl,Int.le_refl _,by rw [af,kU];omega,by rw [af,show (i-i).toNat=0 by omega];rfl,jo ..⟩
  | false =>
   rw [aL,aL]
   rcases sM l s (i+1) with h | ⟨g,h1,h2,h3,h4,h5⟩
   · exact .inl h
   · refine .inr ⟨g,h1,by omega,by rw [kU];omega,?_,lV _ h5⟩
     rw [show (kY l s (i+1)-i).toNat=(kY l s (i+1)-(i+1)).toNat+1 by omega]
     exact h4
theorem iD {k:Nat} (hk:2 ^ 50≤k) {d:Ty.d aA} (hl:d.1.length≤1099511627776) (s:ByteArray):bE.f k d s=some (kY d.1 s 0,()):=by
 unfold bE.f bE.t
 refine dp (L:=fun n i (_:Int)=>bE.l0 k n s i d.1 d.2.1 d.2.2.1 d.2.2.2.1) (R:=fun r j=>some (kY r s j,())) (Ty.z dJ) d.1 (fun i j=>j=i) (fun n j hj=>?_) (fun n i j x rest h0 h1 hx hr hp ih=>?_) (n:=k) (s:=0) (by omega) rfl
 · simp (disch:=omega) only [bE.l0,bE.b0,aQ,aL,kY]
 · have ih:=ih (i+1) rfl
   subst hp
   simp (disch:=omega) only [bE.l0,bE.b0,aP h1,af,aI,hx,aD,ih,kY]
   cases seq x.1 s <;> rfl
theorem Be {k:Nat} (hk:2 ^ 50≤k) {d:Ty.d aA} (hl:d.1.length≤1099511627776) (s:ByteArray):fp.f k d s=some (kY d.1 s 0,()):=by
 unfold fp.f fp.t
 refine dp (L:=fun n i (_:Int)=>fp.l0 k n s d.1 d.1.length i) (R:=fun r j=>some (kY r s j,())) (Ty.z dJ) d.1 (fun i j=>j=i) (fun n j hj=>?_) (fun n i j x rest h0 h1 hx hr hp ih=>?_) (n:=k) (s:=0) (by omega) rfl
 · simp (disch:=omega) only [fp.l0,fp.b0,aQ,aL,kY]
 · have ih:=ih (i+1) rfl
   subst hp
   simp (disch:=omega) only [fp.l0,fp.b0,aP h1,af,aI,hx,aD,ih,kY]
   cases seq x.1 s <;> rfl
def aR (d:Ty.d aA) (s:ByteArray):ByteArray × Bool :=
 bif gg d then (match bm d.1 s with | none=>(⟨#[]⟩,false) | some f=>(f.2.1,true)) else (⟨#[]⟩,false)
theorem fc (d:Ty.d aA) (s:ByteArray):(aR d s).1.size≤e9 d.1:=by
 unfold aR
 cases gg d with
 | false=>exact Nat.zero_le _
 | true =>
  rw [af]
  rcases sM d.1 s 0 with h | ⟨f,h1,_,_,_,h5⟩
  · rw [h.1];exact Nat.zero_le _
  · rw [h1];exact tH h5
theorem gG {k:Nat} (hk:2 ^ 50≤k) {d:Ty.d aA} (hl:d.1.length≤1099511627776) (hu:e9 d.1≤1099511627776) (hn:pU d.1≤1099511627776) (s:ByteArray) :
 bK.f k d s=some ((aR d s).1,((aR d s).2,())):=by
 unfold bK.f bK.t aR
 rw [ir hk hu hn,ae]
 cases gg d with
 | false=>rfl
 | true =>
  rw [iD hk hl]
  simp only [ae,fa,aL,af]
  rcases sM d.1 s 0 with h | ⟨f,h1,h2,h3,h4,h5⟩
  · rw [h.1,h.2];rfl
  · rw [h1,aQ (by omega),aL,aI h2 (by omega)]
    rw [Int.sub_zero] at h4
    rw [h4]
theorem pj {k:Nat} (hk:2 ^ 50≤k) {d:Ty.d aA} (hl:d.1.length≤1099511627776) (hu:e9 d.1≤1099511627776) (hn:pU d.1≤1099511627776) (s:ByteArray) :
 fS.f k d s=some ((aR d s).1,((aR d s).2,())):=by
 unfold fS.f fS.t aR
 rw [Be hk hl,ae]
 simp only []
 rcases sM d.1 s 0 with h | ⟨f,h1,h2,h3,h4,h5⟩
 · rw [h.1,h.2]
   cases gg d <;> rfl
 · rw [h1,aQ (by omega),aL,ua hk hu hn,ae]
   cases gg d with
   | false=>rfl
   | true =>
    simp only [fa,aL,af]
    rw [aI h2 (by omega)]
    rw [Int.sub_zero] at h4
    rw [h4]
def a_ (p:ByteArray) (n:Int):ByteArray:=bif decide ((1:Int)≤n∧n≤100000) then p++ga n else ⟨#[]⟩
def aF:ByteArray:=⟨#[115,101,103]⟩
theorem bJ {k:Nat} (hk:2 ^ 50≤k) (n:Int):aU.f k n=some (a_ aF n,()):=by
 unfold aU.f aU.t a_
 rw [dT,ae]
 by_cases c:(1:Int)≤n∧n≤100000
 · have hz:=nL (n:=n) (by omega) (by omega)
   rw [aP c]
   simp only [fa,aL,af]
   rw [pA hk (by omega) (by omega),ae,dm (by show 3+(ga n).size≤_;omega)]
   rfl
 · rw [aQ c]
   rfl
theorem Aq (k:Nat) {p:ByteArray} (hp:p.size≤1000) (n:Int):jy.f k p n=some (a_ p n,()):=by
 unfold jy.f jy.t a_
 rw [ll,ae]
 by_cases c:(1:Int)≤n∧n≤100000
 · have hz:=nL (n:=n) (by omega) (by omega)
   rw [aP c]
   simp only [fa,aL,af]
   rw [Dd k (by omega) (by omega),ae,dm (by show p.size+(ga n).size≤_;omega)]
 · rw [aQ c]
   rfl
theorem nE (k:Nat) (n:Int):g9.f k n=some (a_ aF n,()):=by
 unfold g9.f g9.t
 rw [Aq k (by decide) n]
 rfl
structure xd (d:Ty.d aA):Prop where
 l:d.1.length≤1073741824
 u:e9 d.1≤1073741824
 n:pU d.1≤1073741824
end Go.Proofs.YthjppgafienaoabGreatDoor.G
namespace Go.V
theorem xv:∀ a b c:List UInt8,Op.bytesLess a b=true→Op.bytesLess b c=true→Op.bytesLess a c=true
 | a,b,[],_,h2=>by cases b <;> simp [Op.bytesLess] at h2
 | [],b,z::c,_,_=>by simp [Op.bytesLess]
 | x::a,[],z::c,h1,_=>by simp [Op.bytesLess] at h1
 | x::a,y::b,z::c,h1,h2=>by
  simp only [Op.bytesLess] at h1 h2 ⊢
  have ih:=xv a b c
  simp only [Bool.or_eq_true,gX,decide_eq_true_eq,beq_iff_eq] at h1 h2 ⊢
  rcases h1 with g1 | ⟨rfl,g1⟩
  · rcases h2 with g2 | ⟨rfl,g2⟩
    · exact Or.inl (UInt8.lt_trans g1 g2)
    · exact Or.inl g1
  · rcases h2 with g2 | ⟨rfl,g2⟩
    · exact Or.inl g2
    · exact Or.inr ⟨rfl,ih g1 g2⟩
theorem oN {a b c:ByteArray} (h1:mw a b=true) (h2:mw b c=true):mw a c=true:=xv _ _ _ h1 h2
theorem pN (a:ByteArray):mw a a=false:=by
 have:=m4 a a
 rw [bT] at this
 cases h:mw a a with
 | false=>rfl
 | true=>rw [h] at this;cases this
def cX (K:List ByteArray):Prop:=K.Pairwise (fun a b=>mw a b=true)
end Go.V
namespace Go.Proofs.YthjppgafienaoabGreatDoor.G
open Go.V
def lu:bu→Ty.d dJ→bu
 | [],f=>[f]
 | g::l,f=>bif mw f.1 g.1 then f::g::l else g::lu l f
def kO:bu→ByteArray→bu
 | [],_=>[]
 | g::l,s=>bif seq g.1 s then l else g::kO l s
def lZ (h:Ty.d dJ→Ty.d dJ):bu→ByteArray→bu
 | [],_=>[]
 | g::l,s=>bif seq g.1 s then h g::l else g::lZ h l s
def jZ (d:Ty.d aA):Ty.d aA × Int :=
 bif !gg d then (d,5) else bif d.2.2.2.1 then ((d.1,(d.2.1,(d.2.2.1,(true,())))),1) else bif (d.2.2.1==0) then ((d.1,(d.2.1,(d.2.2.1,(true,())))),1) else
 bif decide ((d.2.2.1:Int) > 0) then ((d.1,(d.2.1,(aH (d.2.2.1-1),d.2.2.2))),0) else (d,0)
def j4 (d:Ty.d aA) (g:bu→Int→bu × Int):Ty.d aA × Int :=
 bif (jZ d).2 != 0 then jZ d else (((g d.1 d.2.1).1,(jZ d).1.2),(g d.1 d.2.1).2)
def tc (s:ByteArray) (l:bu) (c:Int):bu × Int :=
 bif !k0 s then (l,5) else bif (bm l s).isSome then (l,4) else bif decide ((l.length:Int)≥130) then (l,2) else (lu l (s,(ByteArray.empty,(0,()))),0)
def zo (s t:ByteArray) (l:bu) (c:Int):bu × Int :=
 bif (bm l s).isNone then (l,3) else bif decide ((t.size:Int) > aH (c-(e9 l:Int))) then (l,2) else (lZ (fun f=>(f.1,(f.2.1++t,f.2.2))) l s,0)
def uz (s:ByteArray) (l:bu) (c:Int):bu × Int :=
 bif (bm l s).isNone then (l,3) else (lZ (fun f=>(f.1,(f.2.1,((f.2.1.size:Int),f.2.2.2)))) l s,0)
def Ck (a b:ByteArray) (l:bu) (c:Int):bu × Int :=
 bif !k0 b then (l,5) else match bm l a with
 | none=>(l,3)
 | some f=>bif seq a b then (l,0) else (lu (kO (kO l a) b) (b,f.2),0)
def CU (s:ByteArray) (l:bu) (c:Int):bu × Int :=
 bif (bm l s).isNone then (l,3) else (kO l s,0)
def GY (s:ByteArray) (n:Int) (l:bu) (c:Int):bu × Int :=
 match bm l s with
 | none=>(l,3)
 | some f=>bif !decide (0≤n∧n≤(f.2.1.size:Int)) then (l,5) else (lZ (fun f=>(f.1,(ByteArray.extract f.2.1 0 n.toNat,((if n<f.2.2.1 then n else f.2.2.1),f.2.2.2)))) l s,0)
def wS (d:Ty.d aA) (s:ByteArray):=j4 d (tc s)
def iS (d:Ty.d aA) (s t:ByteArray):=j4 d (zo s t)
def g8 (d:Ty.d aA) (s:ByteArray):=j4 d (uz s)
def Bd (d:Ty.d aA) (a b:ByteArray):=j4 d (Ck a b)
def vF (d:Ty.d aA) (s:ByteArray):=j4 d (CU s)
def xw (d:Ty.d aA) (s:ByteArray) (n:Int):=j4 d (GY s n)
theorem p9 (d:Ty.d aA):(jZ d).1.1=d.1:=by
 unfold jZ
 cases gg d <;> cases d.2.2.2.1 <;> cases d.2.2.1==0 <;> cases decide ((d.2.2.1:Int) > 0) <;> rfl
theorem H7 (d:Ty.d aA):(jZ d).1.2.1=d.2.1:=by
 unfold jZ
 cases gg d <;> cases d.2.2.2.1 <;> cases d.2.2.1==0 <;> cases decide ((d.2.2.1:Int) > 0) <;> rfl
theorem jp:∀ (l:bu) (s:ByteArray) (j:Int),(bm l s=none∧kY l s j = -1∧kO l s=l∧∀ h,lZ h l s=l) ∨
 (∃ n:Nat,n<l.length∧kY l s j=j+n∧bm l s=some (l.getD n (Ty.z dJ))∧l.take n++l.drop (n+1)=kO l s∧(l.getD n (Ty.z dJ)).1=s∧(∀ h,l.set n (h (l.getD n (Ty.z dJ)))=lZ h l s))
 | [],s,j => .inl ⟨rfl,rfl,rfl,fun _=>rfl⟩
 | g::l,s,j=>by
  unfold kY bm kO lZ
  cases c:seq g.1 s with
  | true =>
   refine .inr ⟨0,by rw [kU];omega,?_,rfl,rfl,dy.1 c,fun h=>rfl⟩
   show j=j+((0:Nat):Int)
   omega
  | false =>
   simp only [aL]
   rcases jp l s (j+1) with ⟨h1,h2,h3,h4⟩ | ⟨n,h1,h2,h3,h4,h5,h6⟩
   · exact .inl ⟨h1,h2,by rw [h3],fun h=>by rw [h4]⟩
   · refine .inr ⟨n+1,by rw [kU];omega,by rw [h2];omega,h3,?_,h5,fun h=>?_⟩
     · rw [List.take_succ_cons,List.drop_succ_cons,List.cons_append,h4]
     · show g::l.set n (h (l.getD n (Ty.z dJ)))=_
       rw [h6]
def FO (f:Ty.d dJ):Prop:=k0 f.1=true∧LE.le (α:=Int) 0 f.2.2.1∧LE.le (α:=Int) f.2.2.1 f.2.1.size
def lW (l:bu):List ByteArray:=l.map (·.1)
theorem C8:∀ (l:bu) (p:Option (Ty.d dJ)),nS mV p l=true↔((∀ f ∈ l,FO f)∧cX (lW l)∧(∀ q,p=some q→∀ f ∈ l,mw q.1 f.1=true))
 | [],p=>by
  constructor
  · intro _
    exact ⟨fun f h=>(by cases h),List.Pairwise.nil,fun q _ f h=>(by cases h)⟩
  · intro _;rfl
 | g::l,p=>by
  have ih:=C8 l (some g)
  unfold nS
  rw [gX,ih]
  have hf:mV p g=true↔(FO g∧(∀ q,p=some q→mw q.1 g.1=true)):=by
   unfold mV FO
   rw [gX,gX,decide_eq_true_eq]
   cases p with
   | none=>exact ⟨fun h=>⟨⟨h.1,h.2.1⟩,fun q hq=>(by cases hq)⟩,fun h=>⟨h.1.1,h.1.2,rfl⟩⟩
   | some q=>exact ⟨fun h=>⟨⟨h.1,h.2.1⟩,fun q' hq=>(by cases hq;exact h.2.2)⟩,fun h=>⟨h.1.1,h.1.2,h.2 q rfl⟩⟩
  rw [hf]
  constructor
  · rintro ⟨⟨h1,h2⟩,h3,h4,h5⟩
    refine ⟨fun f hf=>?_,?_,fun q hq f hf=>?_⟩
    · rcases List.mem_cons.1 hf with e | e
      · rw [e];exact h1
      · exact h3 f e
    · unfold cX lW
      rw [List.map_cons,List.pairwise_cons]
      refine ⟨fun x hx=>?_,h4⟩
      obtain ⟨f,hf,rfl⟩:=List.mem_map.1 hx
      exact h5 g rfl f hf
    · rcases List.mem_cons.1 hf with e | e
      · rw [e];exact h2 q hq
      · exact oN (h2 q hq) (h5 g rfl f e)
  · rintro ⟨h1,h2,h3⟩
    unfold cX lW at h2
    rw [List.map_cons,List.pairwise_cons] at h2
    refine ⟨⟨h1 g (jo ..),fun q hq=>h3 q hq g (jo ..)⟩,fun f hf=>h1 f (lV _ hf),h2.2,fun q hq f hf=>?_⟩
    cases hq
    exact h2.1 f.1 (List.mem_map.2 ⟨f,hf,rfl⟩)
structure DR (d:Ty.d aA):Prop where
 len:d.1.length≤130
 cap0:LE.le (α:=Int) 0 d.2.1
 cap1:LE.le (α:=Int) d.2.1 100000
 fu0:LE.le (α:=Int) (-1) d.2.2.1
 fu1:LE.le (α:=Int) d.2.2.1 100000
 use:LE.le (α:=Int) (e9 d.1) d.2.1
 all:∀ f ∈ d.1,FO f
 keys:cX (lW d.1)
theorem j9 {d:Ty.d aA}:gg d=true↔DR d:=by
 unfold gg
 rw [gX,gX,gX,gX,decide_eq_true_eq,decide_eq_true_eq,decide_eq_true_eq,decide_eq_true_eq,C8]
 constructor
 · rintro ⟨h1,⟨h2,h3⟩,⟨h4,h5⟩,h6,h7,h8,_⟩
   exact ⟨h1,h2,h3,h4,h5,h6,h7,h8⟩
 · intro h
   exact ⟨h.len,⟨h.cap0,h.cap1⟩,⟨h.fu0,h.fu1⟩,h.use,h.all,h.keys,fun q hq=>(by cases hq)⟩
theorem Da {s:ByteArray} (h:k0 s=true):1≤s.size∧s.size≤12:=by
 unfold k0 at h
 rw [gX,decide_eq_true_eq] at h
 exact h.2
theorem CO:∀ l:bu,(∀ f ∈ l,FO f)→pU l≤12*l.length
 | [],_=>Nat.le_refl _
 | f::l,h=>by
  have:=CO l fun g hg=>h g (lV _ hg)
  have:=(Da (h f (jo ..)).1).2
  rw [yA,kU]
  omega
theorem DR.sz {d:Ty.d aA} (h:DR d):xd d:=by
 have h1:=h.len
 have h2:=h.use
 have h3:=h.cap1
 have h4:=CO d.1 h.all
 exact ⟨by omega,by omega,by omega⟩
theorem zw {l:bu} {f x:Ty.d dJ}:x ∈ lu l f↔x=f∨x ∈ l:=by
 induction l with
 | nil=>simp [lu]
 | cons g l ih =>
  unfold lu
  cases mw f.1 g.1
  · simp only [aL,List.mem_cons,ih]
    exact ⟨fun h=>h.elim (fun q => .inr (.inl q)) (fun q=>q.elim .inl (fun q => .inr (.inr q))),fun h=>h.elim (fun q => .inr (.inl q)) (fun q=>q.elim .inl (fun q => .inr (.inr q)))⟩
  · simp only [af,List.mem_cons]
theorem ou:∀ (l:bu) (s:ByteArray),(kO l s).Sublist l
 | [],s=>List.Sublist.slnil
 | g::l,s=>by
  unfold kO
  cases seq g.1 s
  · exact (ou l s).cons_cons g
  · exact (List.Sublist.refl l).cons g
theorem ED {h:Ty.d dJ→Ty.d dJ} (hh:∀ f,(h f).1=f.1):∀ (l:bu) (s:ByteArray),lW (lZ h l s)=lW l
 | [],s=>rfl
 | g::l,s=>by
  unfold lZ
  cases seq g.1 s
  · show g.1::lW (lZ h l s)=g.1::lW l
    rw [ED hh l s]
  · show (h g).1::lW l=g.1::lW l
    rw [hh]
theorem xa {h:Ty.d dJ→Ty.d dJ} (hh:∀ f,(h f).1=f.1) {l:bu} {s:ByteArray} (hk:cX (lW l)):cX (lW (lZ h l s)):=by
 rw [ED hh]
 exact hk
theorem vX {h:Ty.d dJ→Ty.d dJ}:∀ {l:bu} {s:ByteArray} {x:Ty.d dJ},x ∈ lZ h l s→x ∈ l∨∃ f,bm l s=some f∧x=h f
 | [],s,x,hx => .inl hx
 | g::l,s,x,hx=>by
  unfold lZ at hx
  unfold bm
  cases c:seq g.1 s with
  | true =>
   rw [c,af] at hx
   rcases List.mem_cons.1 hx with e | e
   · exact .inr ⟨g,rfl,e⟩
   · exact .inl (lV _ e)
  | false =>
   rw [c,aL] at hx
   rcases List.mem_cons.1 hx with e | e
   · exact .inl (by rw [e];exact jo ..)
   · rcases vX e with q | ⟨f,q1,q2⟩
     · exact .inl (lV _ q)
     · exact .inr ⟨f,q1,q2⟩
theorem t6 {h:Ty.d dJ→Ty.d dJ}:∀ {l:bu} {s:ByteArray} {f:Ty.d dJ},bm l s=some f→e9 (lZ h l s)+f.2.1.size=e9 l+(h f).2.1.size
 | [],s,f,hf=>by cases hf
 | g::l,s,f,hf=>by
  unfold bm at hf
  unfold lZ
  cases c:seq g.1 s with
  | true =>
   rw [c] at hf
   cases hf
   rw [af,fP,fP]
   omega
  | false =>
   rw [c] at hf
   have:=t6 (h:=h) hf
   rw [aL,fP,fP]
   omega
theorem wg:∀ (l:bu) (f:Ty.d dJ),e9 (lu l f)=e9 l+f.2.1.size
 | [],f=>by unfold lu;rw [fP,wo,Nat.add_comm]
 | g::l,f=>by
  unfold lu
  cases mw f.1 g.1
  · rw [aL,fP,fP,wg l f];omega
  · rw [af,fP,fP];omega
theorem xj:∀ {l:bu} {s:ByteArray} {f:Ty.d dJ},bm l s=some f→e9 (kO l s)+f.2.1.size=e9 l
 | [],s,f,hf=>by cases hf
 | g::l,s,f,hf=>by
  unfold bm at hf
  unfold kO
  cases c:seq g.1 s with
  | true=>rw [c] at hf;cases hf;rw [af,fP];omega
  | false =>
   rw [c] at hf
   have:=xj hf
   rw [aL,fP,fP]
   omega
theorem uS (l:bu) (s:ByteArray):e9 (kO l s)≤e9 l:=by
 cases h:bm l s with
 | some f=>have:=xj h;omega
 | none =>
  rcases jp l s 0 with ⟨_,_,h3,_⟩ | ⟨n,_,_,h3,_⟩
  · rw [h3];exact Nat.le_refl _
  · rw [h] at h3;cases h3
theorem AL:∀ (l:bu) (f:Ty.d dJ),(lu l f).length=l.length+1
 | [],f=>rfl
 | g::l,f=>by
  unfold lu
  cases mw f.1 g.1
  · rw [aL,kU,AL l f,kU]
  · rw [af,kU,kU]
theorem vW (h:Ty.d dJ→Ty.d dJ):∀ (l:bu) (s:ByteArray),(lZ h l s).length=l.length
 | [],s=>rfl
 | g::l,s=>by
  unfold lZ
  cases seq g.1 s
  · rw [aL,kU,vW h l s,kU]
  · rw [af,kU,kU]
theorem nc:∀ {l:bu} {s:ByteArray} {f:Ty.d dJ},bm l s=some f→f ∈ l∧f.1=s
 | [],s,f,h=>by cases h
 | g::l,s,f,h=>by
  unfold bm at h
  cases c:seq g.1 s with
  | true=>rw [c] at h;cases h;exact ⟨jo ..,dy.1 c⟩
  | false =>
   rw [c] at h
   exact ⟨lV _ (nc h).1,(nc h).2⟩
theorem qb:∀ {l:bu} {s:ByteArray},bm l s=none↔∀ f ∈ l,f.1≠s
 | [],s=>⟨fun _ f h=>(by cases h),fun _=>rfl⟩
 | g::l,s=>by
  unfold bm
  cases c:seq g.1 s with
  | true =>
   constructor
   · intro h;cases h
   · intro h;exact absurd (dy.1 c) (h g (jo ..))
  | false =>
   rw [aL,qb]
   constructor
   · intro h f hf
     rcases List.mem_cons.1 hf with e | e
     · rw [e];intro q;rw [IM q] at c;cases c
     · exact h f e
   · intro h f hf;exact h f (lV _ hf)
theorem w9 {f:Ty.d dJ}:∀ {l:bu},cX (lW l)→(∀ g ∈ l,g.1≠f.1)→cX (lW (lu l f))
 | [],_,_=>by unfold lu;exact List.pairwise_singleton ..
 | g::l,h,hn=>by
  unfold cX lW at h
  rw [List.map_cons,List.pairwise_cons] at h
  unfold lu
  cases c:mw f.1 g.1 with
  | true =>
   rw [af]
   unfold cX lW
   rw [List.map_cons,List.pairwise_cons]
   refine ⟨fun x hx=>?_,by rw [List.map_cons,List.pairwise_cons];exact h⟩
   rw [List.map_cons] at hx
   rcases List.mem_cons.1 hx with e | e
   · rw [e];exact c
   · exact oN c (h.1 x e)
  | false =>
   rw [aL]
   have ih:=w9 (f:=f) (l:=l) h.2 fun g' hg=>hn g' (lV _ hg)
   unfold cX lW
   rw [List.map_cons,List.pairwise_cons]
   refine ⟨fun x hx=>?_,ih⟩
   obtain ⟨y,hy,rfl⟩:=List.mem_map.1 hx
   rcases zw.1 hy with e | e
   · rw [e]
     have ht:=m4 g.1 f.1
     rw [c,kZ (hn g (jo ..))] at ht
     cases q:mw g.1 f.1 with
     | true=>rfl
     | false=>rw [q] at ht;cases ht
   · exact h.1 y.1 (List.mem_map.2 ⟨y,e,rfl⟩)
theorem tX {l m:bu} (h:m.Sublist l) (hk:cX (lW l)):cX (lW m):=List.Pairwise.sublist (h.map _) hk
theorem Ix {l:bu} (hk:cX (lW l)) {s:ByteArray} {f:Ty.d dJ} (h:bm l s=some f):bm (kO l s) s=none:=by
 induction l with
 | nil=>cases h
 | cons g l ih =>
  unfold cX lW at hk
  rw [List.map_cons,List.pairwise_cons] at hk
  unfold bm at h
  unfold kO
  cases c:seq g.1 s with
  | true =>
   rw [af,qb]
   intro x hx e
   have:=hk.1 x.1 (List.mem_map.2 ⟨x,hx,rfl⟩)
   rw [e,dy.1 c,pN] at this
   cases this
  | false =>
   rw [c] at h
   rw [aL]
   unfold bm
   rw [c,aL]
   exact ih hk.2 h
theorem BP {l:bu} (hk:cX (lW l)) (s:ByteArray):bm (kO l s) s=none:=by
 cases h:bm l s with
 | some f=>exact Ix hk h
 | none =>
  rcases jp l s 0 with ⟨h1,_,h3,_⟩ | ⟨n,_,_,h3,_⟩
  · rw [h3];exact h1
  · rw [h] at h3;cases h3
def GR (g:bu→Int→bu × Int):Prop:=∀ l c,l.length≤130→(0:Int)≤c→c≤100000→(e9 l:Int)≤c→(∀ f ∈ l,FO f)→cX (lW l) →
 (g l c).1.length≤130∧(e9 (g l c).1:Int)≤c∧(∀ f ∈ (g l c).1,FO f)∧cX (lW (g l c).1)
theorem IW {d:Ty.d aA} (h:DR d):DR (jZ d).1:=by
 have hd:=j9.2 h
 have g0:=h.fu0
 have g1:=h.fu1
 unfold jZ
 rw [hd]
 cases c1:d.2.2.2.1 with
 | true=>exact ⟨h.len,h.cap0,h.cap1,h.fu0,h.fu1,h.use,h.all,h.keys⟩
 | false =>
  cases c2:d.2.2.1==0 with
  | true=>exact ⟨h.len,h.cap0,h.cap1,h.fu0,h.fu1,h.use,h.all,h.keys⟩
  | false =>
   by_cases c3:(d.2.2.1:Int) > 0
   · have e:∀ x:Int,x > 0→x≤100000 → -1≤aH (x-1)∧aH (x-1)≤100000:=fun x q1 q2=>by
      rw [aD (by omega) (by omega)]
      omega
     have e:=e d.2.2.1 c3 g1
     rw [aP c3]
     exact ⟨h.len,h.cap0,h.cap1,e.1,e.2,h.use,h.all,h.keys⟩
   · rw [aQ c3]
     exact h
theorem qg {g:bu→Int→bu × Int} (hg:GR g) {d:Ty.d aA} (h:DR d):DR (j4 d g).1:=by
 have hb:=IW h
 unfold j4
 cases c:(jZ d).2 != 0 with
 | true=>exact hb
 | false =>
  have hk:(jZ d).1.2.1=d.2.1:=H7 d
  obtain ⟨g1,g2,g3,g4⟩:=hg d.1 d.2.1 h.len h.cap0 h.cap1 h.use h.all h.keys
  exact ⟨g1,hb.cap0,hb.cap1,hb.fu0,hb.fu1,by show (e9 (g d.1 d.2.1).1:Int)≤(jZ d).1.2.1;rw [hk];exact g2,g3,g4⟩
theorem KX (s:ByteArray):GR (tc s):=by
 intro l c h1 h2 h3 h4 h5 h6
 unfold tc
 cases hn:k0 s with
 | false=>exact ⟨h1,h4,h5,h6⟩
 | true =>
  cases hs:(bm l s).isSome with
  | true=>exact ⟨h1,h4,h5,h6⟩
  | false =>
   by_cases hl:(l.length:Int)≥130
   · rw [aP hl];exact ⟨h1,h4,h5,h6⟩
   · rw [aQ hl]
     have hnone:bm l s=none:=by
      cases q:bm l s with
      | none=>rfl
      | some f=>rw [q] at hs;cases hs
     refine ⟨by show (lu l _).length≤130;rw [AL];omega,by show (e9 (lu l _):Int)≤c;rw [wg];exact h4,fun f hf=>?_,w9 h6 (qb.1 hnone)⟩
     rcases zw.1 hf with e | e
     · rw [e];exact ⟨hn,Int.le_refl _,by show (0:Int)≤_;omega⟩
     · exact h5 f e
theorem Km (s t:ByteArray):GR (zo s t):=by
 intro l c h1 h2 h3 h4 h5 h6
 unfold zo
 cases hs:bm l s with
 | none=>exact ⟨h1,h4,h5,h6⟩
 | some f =>
  simp only [Option.isNone_some,aL]
  rw [aD (by omega) (by omega)]
  by_cases ht:(t.size:Int) > c-(e9 l:Int)
  · rw [aP ht];exact ⟨h1,h4,h5,h6⟩
  · rw [aQ ht]
    have hu:=t6 (h:=fun f=>(f.1,(f.2.1++t,f.2.2))) hs
    have hz:(f.2.1++t).size=f.2.1.size+t.size:=ByteArray.size_append ..
    simp only [hz] at hu
    refine ⟨by show (lZ _ l s).length≤130;rw [vW];exact h1,by show (e9 (lZ _ l s):Int)≤c;omega,fun x hx=>?_,xa (by intro f;rfl) h6⟩
    rcases vX hx with q | ⟨y,q1,q2⟩
    · exact h5 x q
    · obtain ⟨a,b,c'⟩:=h5 y (nc q1).1
      rw [q2]
      refine ⟨a,b,?_⟩
      show LE.le (α:=Int) y.2.2.1 ((y.2.1++t).size:Int)
      have:(y.2.1++t).size=y.2.1.size+t.size:=ByteArray.size_append ..
      omega
theorem Jt (s:ByteArray):GR (uz s):=by
 intro l c h1 h2 h3 h4 h5 h6
 unfold uz
 cases hs:bm l s with
 | none=>exact ⟨h1,h4,h5,h6⟩
 | some f =>
  simp only [Option.isNone_some,aL]
  have hu:=t6 (h:=fun f=>(f.1,(f.2.1,((f.2.1.size:Int),f.2.2.2)))) hs
  refine ⟨by show (lZ _ l s).length≤130;rw [vW];exact h1,by show (e9 (lZ _ l s):Int)≤c;simp only [] at hu;omega,fun x hx=>?_,xa (by intro f;rfl) h6⟩
  rcases vX hx with q | ⟨y,q1,q2⟩
  · exact h5 x q
  · obtain ⟨a,b,c'⟩:=h5 y (nc q1).1
    rw [q2]
    exact ⟨a,by show (0:Int)≤(y.2.1.size:Int);omega,Int.le_refl _⟩
theorem Kf (s:ByteArray):GR (CU s):=by
 intro l c h1 h2 h3 h4 h5 h6
 unfold CU
 cases hs:bm l s with
 | none=>exact ⟨h1,h4,h5,h6⟩
 | some f =>
  have hd:=ou l s
  have hu:=uS l s
  exact ⟨Nat.le_trans hd.length_le h1,by show (e9 (kO l s):Int)≤c;omega,fun x hx=>h5 x (hd.subset hx),tX hd h6⟩
theorem qu (s:ByteArray) {n:Nat} (h:n≤s.size):(ByteArray.extract s 0 n).size=n:=by
 rw [ByteArray.size_extract]
 omega
theorem KU (s:ByteArray) (n:Int):GR (GY s n):=by
 intro l c h1 h2 h3 h4 h5 h6
 unfold GY
 cases hs:bm l s with
 | none=>exact ⟨h1,h4,h5,h6⟩
 | some f =>
  simp only []
  by_cases hn:0≤n∧n≤(f.2.1.size:Int)
  · rw [aP hn]
    have hu:=t6 (h:=fun f=>(f.1,(ByteArray.extract f.2.1 0 n.toNat,((if n<f.2.2.1 then n else f.2.2.1),f.2.2.2)))) hs
    have hz:=qu f.2.1 (n:=n.toNat) (by omega)
    simp only [hz] at hu
    refine ⟨by show (lZ _ l s).length≤130;rw [vW];exact h1,by show (e9 (lZ _ l s):Int)≤c;omega,fun x hx=>?_,xa (by intro f;rfl) h6⟩
    rcases vX hx with q | ⟨y,q1,q2⟩
    · exact h5 x q
    · rw [hs] at q1
      cases q1
      obtain ⟨a,b,c'⟩:=h5 f (nc hs).1
      rw [q2]
      refine ⟨a,?_,?_⟩
      · show (0:Int)≤if n<f.2.2.1 then n else f.2.2.1
        split <;> omega
      · show (if n<f.2.2.1 then n else f.2.2.1)≤((ByteArray.extract f.2.1 0 n.toNat).size:Int)
        rw [hz]
        split <;> omega
  · rw [aQ hn];exact ⟨h1,h4,h5,h6⟩
theorem Kg (a b:ByteArray):GR (Ck a b):=by
 intro l c h1 h2 h3 h4 h5 h6
 unfold Ck
 cases hn:k0 b with
 | false=>exact ⟨h1,h4,h5,h6⟩
 | true =>
  simp only [fa,aL]
  cases hs:bm l a with
  | none=>exact ⟨h1,h4,h5,h6⟩
  | some f =>
   simp only []
   cases seq a b with
   | true=>exact ⟨h1,h4,h5,h6⟩
   | false =>
    simp only [aL]
    have hd:=ou l a
    have hd2:=ou (kO l a) b
    have hu:=xj hs
    have hu2:=uS (kO l a) b
    have hk2:=tX (hd2.trans hd) h6
    have hl:=jp l a 0
    have hlen:(kO l a).length+1=l.length:=by
     rcases jp l a 0 with ⟨q,_⟩ | ⟨n,q1,_,_,q4,_⟩
     · rw [hs] at q;cases q
     · rw [← q4,uo,List.length_take,List.length_drop];omega
    have hlen2:=hd2.length_le
    refine ⟨by rw [AL];omega,by rw [wg];show ((e9 (kO (kO l a) b)+f.2.1.size:Nat):Int)≤c;omega,fun x hx=>?_,w9 hk2 (qb.1 (BP (tX hd h6) b))⟩
    rcases zw.1 hx with e | e
    · rw [e]
      exact ⟨hn,(h5 f (nc hs).1).2.1,(h5 f (nc hs).1).2.2⟩
    · exact h5 x ((hd2.trans hd).subset e)
theorem AN {d:Ty.d aA} (h:DR d) (s:ByteArray):DR (wS d s).1:=qg (KX s) h
theorem pK {d:Ty.d aA} (h:DR d) (s t:ByteArray):DR (iS d s t).1:=qg (Km s t) h
theorem m6 {d:Ty.d aA} (h:DR d) (s:ByteArray):DR (g8 d s).1:=qg (Jt s) h
theorem Kj {d:Ty.d aA} (h:DR d) (a b:ByteArray):DR (Bd d a b).1:=qg (Kg a b) h
theorem zy {d:Ty.d aA} (h:DR d) (s:ByteArray):DR (vF d s).1:=qg (Kf s) h
theorem wR {d:Ty.d aA} (h:DR d) (s:ByteArray) (n:Int):DR (xw d s n).1:=qg (KU s n) h
theorem im (k:Nat) {d:Ty.d aA} (hd:xd d):bh.f k d=some (d,()):=by
 have hl:=hd.l
 unfold bh.f bh.t
 rw [br (by omega) (by decide),List.nil_append]
theorem kJ {k:Nat} (hk:2 ^ 50≤k) {d:Ty.d aA} (hd:xd d):d5.f k d=some ((jZ d).1,((jZ d).2,())):=by
 have hu:=hd.u
 have hn:=hd.n
 unfold d5.f d5.t jZ
 rw [im k hd,ae,ir hk (by omega) (by omega),ae]
 cases gg d <;> cases d.2.2.2.1 <;> cases d.2.2.1==0 <;> cases decide ((d.2.2.1:Int) > 0) <;> rfl
theorem o7 {k:Nat} (hk:2 ^ 50≤k) {l:bu} (f:Ty.d dJ) (hl:l.length≤1073741824):d9.f k l f=some (lu l f,()):=by
 unfold d9.f d9.t
 refine (dp (L:=fun n i (s:Bool × bu)=>d9.l0 k n l s.1 i f.1 f.2.1 f.2.2.1 s.2) (R:=fun r s=>some (s.2++(bif s.1 then r else lu r f),())) (Ty.z dJ) l (fun i s=>(s.2.length:Int)≤i+1∧(s.1=false→(s.2.length:Int)≤i)) (fun n s hs=>?_) (fun n i s x rest h0 h1 hx hr hs ih=>?_) (n:=k) (s:=(false,[])) (by omega) ⟨by simp,by simp⟩).trans ?_
 · obtain ⟨b,o⟩:=s
   simp only [] at hs
   simp only [d9.l0,d9.b0]
   rw [aQ (by omega),aL]
   cases b with
   | true=>simp only [fa,aL,af,List.append_nil]
   | false=>simp only [ul,aL,af];rw [br (by omega) (by decide)];rfl
 · obtain ⟨b,o⟩:=s
   simp only [] at hs ih
   simp only [d9.l0,d9.b0]
   rw [aP h1,af]
   have hlo:(o++[(f.1,(f.2.1,(f.2.2.1,())))]).length=o.length+1:=by simp
   obtain ⟨hs1,hs2⟩:=hs
   simp (disch:=first | omega | decide) only [aI,hx,br,aD,m4,Bool.not_not]
   cases b with
   | true =>
    have i1:=ih (true,o++[x]) ⟨by simp only [bN];omega,fun q=>(by cases q)⟩
    simp only [] at i1
    simp only [fa,aL,af]
    rw [i1]
    simp only [af,nQ,List.singleton_append]
   | false =>
    have hs2:=hs2 rfl
    have i2:=ih (false,o++[x]) ⟨by simp only [bN];omega,fun _=>by simp only [bN];omega⟩
    simp only [] at i2
    simp only [ul,af,aL]
    unfold lu
    cases c:mw f.1 x.1 with
    | true =>
     simp only [af]
     have i3:=ih (true,(o++[(f.1,(f.2.1,(f.2.2.1,())))])++[x]) ⟨by simp only [bN];omega,fun q=>(by cases q)⟩
     simp only [] at i3
     rw [i3]
     simp only [af,nQ,List.singleton_append]
     rfl
    | false =>
     simp only [aL]
     rw [i2]
     simp only [aL,nQ,List.singleton_append]
 · simp only [aL,List.nil_append]
theorem my (k:Nat) {l:bu} {n:Nat} (hn:n<l.length) (hl:l.length≤1073741824):eW.f k l (n:Int)=some (l.take n++l.drop (n+1),()):=by
 unfold eW.f eW.t
 have e:aH ((n:Int)+1)=((n+1:Nat):Int):=by rw [aD (by omega) (by omega)];omega
 rw [e,nr,nr,cC (by omega) (by omega),cC (by omega) (by omega),br (by rw [List.length_take];omega) (by decide),br (by rw [uo,List.length_take,List.length_drop];simp only [List.length_nil];omega) (by decide),List.nil_append]
theorem mh (d:Ty.d aA):∃ b2,(jZ d).1=(d.1,b2):=⟨(jZ d).1.2,Prod.ext (p9 d) rfl⟩
theorem sC {k:Nat} (hk:2 ^ 50≤k) {d:Ty.d aA} (hd:xd d) {s:ByteArray} (hs:s.size≤1099511627776):gi.f k d s=some ((wS d s).1,((wS d s).2,())):=by
 have hl:=hd.l
 unfold gi.f gi.t wS j4
 rw [kJ hk hd,ae]
 obtain ⟨b2,hb⟩:=mh d
 simp only [hb]
 cases c:(jZ d).2 != 0 with
 | true=>rw [af,af,hb]
 | false =>
  rw [aL,aL,nZ hk hs,ae]
  unfold tc
  cases k0 s with
  | false=>rfl
  | true =>
   simp only [fa,aL]
   rw [iD hk (by omega),ae]
   rcases jp d.1 s 0 with ⟨h1,h2,_⟩ | ⟨n,h1,h2,h3,_⟩
   · rw [h1,h2]
     simp only [Option.isSome_none,aL]
     rw [aQ (by decide),aL]
     by_cases cl:(d.1.length:Int)≥130
     · rw [aP cl];rfl
     · rw [aQ cl,aL,aL,o7 hk _ (by omega),ae]
   · rw [h2,h3]
     simp only [Option.isSome_some,af]
     rw [aP (by omega),af]
theorem pP {k:Nat} (hk:2 ^ 50≤k) {d:Ty.d aA} (hd:xd d) (s:ByteArray) {t:ByteArray} (ht:t.size≤1099511627776):dX.f k d s t=some ((iS d s t).1,((iS d s t).2,())):=by
 have hl:=hd.l
 have hu:=hd.u
 unfold dX.f dX.t iS j4
 rw [kJ hk hd,ae]
 obtain ⟨b2,hb⟩:=mh d
 simp only [hb]
 cases c:(jZ d).2 != 0 with
 | true=>rw [af,af,hb]
 | false =>
  rw [aL,aL,iD hk (by omega),ae]
  unfold zo
  rcases jp d.1 s 0 with ⟨h1,h2,_⟩ | ⟨n,h1,h2,h3,_,_,h6⟩
  · rw [h1,h2]
    simp only [Option.isNone_none,af]
    rw [aP (by decide),af]
  · rw [Int.zero_add] at h2
    rw [h2,h3]
    simp only [Option.isNone_some,aL]
    rw [aQ (by omega),aL,pq hk (by omega) (by omega),ae]
    simp only []
    cases decide ((t.size:Int) > aH (d.2.1-(e9 d.1:Int))) with
    | true=>rfl
    | false =>
     have hm:=tH (nc h3).1
     rw [aL,aL,nr,aI (by omega) (by omega),aI (by omega) (by omega),dm (Nat.le_trans (Nat.add_le_add (Nat.le_trans hm hu) ht) (by decide)),← h6]
theorem lq {k:Nat} (hk:2 ^ 50≤k) {d:Ty.d aA} (hd:xd d) (s:ByteArray):eA.f k d s=some ((g8 d s).1,((g8 d s).2,())):=by
 have hl:=hd.l
 unfold eA.f eA.t g8 j4
 rw [kJ hk hd,ae]
 obtain ⟨b2,hb⟩:=mh d
 simp only [hb]
 cases c:(jZ d).2 != 0 with
 | true=>rw [af,af,hb]
 | false =>
  rw [aL,aL,iD hk (by omega),ae]
  unfold uz
  rcases jp d.1 s 0 with ⟨h1,h2,_⟩ | ⟨n,h1,h2,h3,_,_,h6⟩
  · rw [h1,h2]
    simp only [Option.isNone_none,af]
    rw [aP (by decide),af]
  · rw [Int.zero_add] at h2
    rw [h2,h3]
    simp only [Option.isNone_some,aL]
    rw [aQ (by omega),aL,nr,aI (by omega) (by omega),aI (by omega) (by omega),← h6]
theorem DX {k:Nat} (hk:2 ^ 50≤k) {d:Ty.d aA} (hd:xd d) (a:ByteArray) {b:ByteArray} (hs:b.size≤1099511627776):jR.f k d a b=some ((Bd d a b).1,((Bd d a b).2,())):=by
 have hl:=hd.l
 unfold jR.f jR.t Bd j4
 rw [kJ hk hd,ae]
 obtain ⟨b2,hb⟩:=mh d
 simp only [hb]
 cases c:(jZ d).2 != 0 with
 | true=>rw [af,af,hb]
 | false =>
  rw [aL,aL,nZ hk hs,ae]
  unfold Ck
  cases k0 b with
  | false=>rfl
  | true =>
   simp only [fa,aL]
   rw [iD hk (by omega),ae]
   rcases jp d.1 a 0 with ⟨h1,h2,_⟩ | ⟨n,h1,h2,h3,h4,_,_⟩
   · rw [h1,h2]
     simp only []
     rw [aP (by decide),af]
   · rw [Int.zero_add] at h2
     rw [h2,h3]
     simp only []
     rw [aQ (by omega),aL]
     cases seq a b with
     | true=>rfl
     | false =>
      have hd1:=(ou d.1 a).length_le
      rw [aL,aL,nr,aI (by omega) (by omega),my k h1 (by omega),ae,h4]
      simp only []
      rw [iD hk (d:=(kO d.1 a,b2)) (by show (kO d.1 a).length≤_;omega),ae]
      simp only []
      rcases jp (kO d.1 a) b 0 with ⟨g1,g2,g3,_⟩ | ⟨m,g1,g2,g3,g4,_⟩
      · rw [g2,g3,aQ (by decide),aL,o7 hk _ (by omega),ae]
      · rw [Int.zero_add] at g2
        have hd2:=(ou (kO d.1 a) b).length_le
        rw [g2,aP (by omega),af,my k g1 (by omega),ae,g4]
        simp only []
        rw [o7 hk _ (by omega),ae]
theorem ru {k:Nat} (hk:2 ^ 50≤k) {d:Ty.d aA} (hd:xd d) (s:ByteArray):gD.f k d s=some ((vF d s).1,((vF d s).2,())):=by
 have hl:=hd.l
 unfold gD.f gD.t vF j4
 rw [kJ hk hd,ae]
 obtain ⟨b2,hb⟩:=mh d
 simp only [hb]
 cases c:(jZ d).2 != 0 with
 | true=>rw [af,af,hb]
 | false =>
  rw [aL,aL,iD hk (by omega),ae]
  unfold CU
  rcases jp d.1 s 0 with ⟨h1,h2,_⟩ | ⟨n,h1,h2,h3,h4,_⟩
  · rw [h1,h2]
    simp only [Option.isNone_none,af]
    rw [aP (by decide),af]
  · rw [Int.zero_add] at h2
    rw [h2,h3]
    simp only [Option.isNone_some,aL]
    rw [aQ (by omega),aL,my k h1 (by omega),ae,h4]
theorem sv {l:bu} {n:Nat} (h:n<l.length) (x z:Ty.d dJ):(l.set n x).getD n z=x:=by
 simp [List.getD,h]
theorem Ii {l:bu} {n:Nat} (x y:Ty.d dJ):(l.set n x).set n y=l.set n y:=by simp
theorem D3 {k:Nat} (hk:2 ^ 50≤k) {d:Ty.d aA} (hd:xd d) (s:ByteArray) (m:Int):i_.f k d s m=some ((xw d s m).1,((xw d s m).2,())):=by
 have hl:=hd.l
 unfold i_.f i_.t xw j4
 rw [kJ hk hd,ae]
 obtain ⟨b2,hb⟩:=mh d
 simp only [hb]
 cases c:(jZ d).2 != 0 with
 | true=>rw [af,af,hb]
 | false =>
  rw [aL,aL,iD hk (by omega),ae]
  unfold GY
  rcases jp d.1 s 0 with ⟨h1,h2,_⟩ | ⟨n,h1,h2,h3,_,_,h6⟩
  · rw [h1,h2]
    simp only []
    rw [aP (by decide),af]
  · rw [Int.zero_add] at h2
    rw [h2,h3]
    simp only []
    rw [aQ (by omega),aL,nr,aI (by omega) (by omega),dT,ae]
    by_cases hm:0≤m∧m≤((d.1.getD n (Ty.z dJ)).2.1.size:Int)
    · rw [aP hm]
      simp only [fa,aL]
      rw [aI (by omega) (by omega),cC hm.1 hm.2,aI (by omega) (by omega),aI (by omega) (by omega),aI (by omega) (by rw [List.length_set];omega),sv h1,Ii,← h6]
    · rw [aQ hm]
      rfl
def mF (lim:Int) (p:Option Int) (x:Int):Bool:=decide ((1:Int)≤x∧x≤lim)&&(match p with | none=>true | some y=>decide (y<x))
def cH (v:Ty.d cZ):Bool:=decide ((1:Int)≤v.1∧v.1≤100000)&&(decide ((1:Int)≤(v.2.1.length:Int)∧(v.2.1.length:Int)≤60)&&nS (mF (aH (v.1-1))) none v.2.1)
theorem nn {k:Nat} (hk:2 ^ 50≤k) (v:Ty.d cZ):cY.f k v=some (cH v,()):=by
 unfold cY.f cY.t cH
 rw [dT,ae]
 cases decide ((1:Int)≤v.1∧v.1≤100000) with
 | false=>rfl
 | true =>
  rw [fa,aL,dT,ae,Bool.true_and]
  by_cases c:(1:Int)≤(v.2.1.length:Int)∧(v.2.1.length:Int)≤60
  case neg=>rw [aQ c];rfl
  rw [aP c,fa,aL,Bool.true_and]
  refine (qX (L:=fun n i=>cY.l0 k n i v.1 v.2.1) (Ty.z (.int .i64)) v.2.1 (mF (aH (v.1-1))) (some (true,())) (some (false,())) (fun n=>?_) (fun n x h hx=>?_) (fun n i x y h0 h1 hx hy=>?_) (n:=k) (by omega)).trans (by cases nS (mF (aH (v.1-1))) none v.2.1 <;> rfl)
  · simp (disch:=omega) only [cY.l0,cY.b0,aQ,aL]
  · simp (disch:=omega) only [cY.l0,cY.b0,aP (show (0:Int)<(v.2.1.length:Int) by omega),af,aI,hx,dT k,ae,aQ (show ¬ (0:Int) > 0 by omega),aL,aD (n:=(0:Int)+1),mF]
    cases decide ((1:Int)≤x∧x≤aH (v.1-1)) <;> rfl
  · simp (disch:=omega) only [cY.l0,cY.b0,aP h1,af,aI,hx,dT k,ae,aP (show i > 0 by omega),aL,aD (n:=i+1),aD (n:=i-1),hy,mF]
    cases decide ((1:Int)≤x∧x≤aH (v.1-1)) with
    | false=>rfl
    | true =>
     by_cases q:y<x
     · rw [aP q,aQ (show ¬ x≤y from Int.not_le.2 q)];rfl
     · rw [aQ q,aP (show x≤y from Int.not_lt.1 q)];rfl
theorem ud {k:Nat} (hk:2 ^ 50≤k) {v:Ty.d cZ} (hl:v.2.1.length≤1099511627776):da.f k v=some (cH v,()):=by
 unfold da.f da.t cH
 refine (qX (L:=fun n i=>da.l0 k n v.2.1 v.2.1.length i v.1 v.2.1) (Ty.z (.int .i64)) v.2.1 (mF (aH (v.1-1))) (some (decide ((1:Int)≤v.1∧v.1≤100000)&&decide ((1:Int)≤(v.2.1.length:Int)∧(v.2.1.length:Int)≤60),())) (some (false,())) (fun n=>?_) (fun n x h hx=>?_) (fun n i x y h0 h1 hx hy=>?_) (n:=k) (by omega)).trans
  (by cases nS (mF (aH (v.1-1))) none v.2.1 <;> cases decide ((1:Int)≤v.1∧v.1≤100000) <;> cases decide ((1:Int)≤(v.2.1.length:Int)∧(v.2.1.length:Int)≤60) <;> rfl)
 · simp (disch:=omega) only [da.l0,da.b0,aQ,aL,ll k,ae]
   cases decide ((1:Int)≤v.1∧v.1≤100000) <;> rfl
 · simp (disch:=omega) only [da.l0,da.b0,aP (show (0:Int)<(v.2.1.length:Int) by omega),af,aI,hx,ll k,ae,aQ (show ¬ (0:Int) > 0 by omega),aL,aD (n:=(0:Int)+1),mF]
   cases decide ((1:Int)≤x∧x≤aH (v.1-1)) <;> rfl
 · simp (disch:=omega) only [da.l0,da.b0,aP h1,af,aI,hx,ll k,ae,aP (show i > 0 by omega),aL,aD (n:=i+1),aD (n:=i-1),hy,mF]
   cases decide ((1:Int)≤x∧x≤aH (v.1-1)) with
   | false=>rfl
   | true =>
    by_cases q:y<x
    · rw [aP q,aQ (show ¬ y≥x from Int.not_le.2 q)];rfl
    · rw [aQ q,aP (show y≥x from Int.not_lt.1 q)];rfl
end Go.Proofs.YthjppgafienaoabGreatDoor.G
namespace Go.V
theorem Ak (l:List Int):(bytesOf l).size=l.length:=by simp [bytesOf,ByteArray.size]
theorem Jp {n m:Nat} (hn:n<4294967296) (hm:m<4294967296):aH (((BitVec.ofInt (IntKind.bits .i64) (n:Int) ^^^ BitVec.ofInt (IntKind.bits .i64) (m:Int)).toNat:Int))=((n ^^^ m:Nat):Int):=by
 have h:n ^^^ m<2 ^ 32:=Nat.xor_lt_two_pow (by omega) (by omega)
 show aH (((BitVec.ofInt 64 (n:Int) ^^^ BitVec.ofInt 64 (m:Int)).toNat:Int))=_
 rw [BitVec.ofInt_natCast,BitVec.ofInt_natCast,BitVec.toNat_xor,BitVec.toNat_ofNat,BitVec.toNat_ofNat,Nat.mod_eq_of_lt (by omega),Nat.mod_eq_of_lt (by omega)]
 exact aD (by omega) (by omega)
theorem JX {n m:Nat} (hn:n<4294967296) (hm:m<4294967296):IntKind.wrap .u32 (((BitVec.ofInt (IntKind.bits .u32) (n:Int) ^^^ BitVec.ofInt (IntKind.bits .u32) (m:Int)).toNat:Int))=((n ^^^ m:Nat):Int):=by
 have h:n ^^^ m<2 ^ 32:=Nat.xor_lt_two_pow (by omega) (by omega)
 show IntKind.wrap .u32 (((BitVec.ofInt 32 (n:Int) ^^^ BitVec.ofInt 32 (m:Int)).toNat:Int))=_
 rw [BitVec.ofInt_natCast,BitVec.ofInt_natCast,BitVec.toNat_xor,BitVec.toNat_ofNat,BitVec.toNat_ofNat,Nat.mod_eq_of_lt (by omega),Nat.mod_eq_of_lt (by omega)]
 exact vc (by omega) (by omega)
theorem La {n b:Nat} (hn:n<4294967296) (hb:b<256):aH (((BitVec.ofInt (IntKind.bits .i64) ((n*256:Nat):Int) ||| BitVec.ofInt (IntKind.bits .i64) (b:Int)).toNat:Int))=((n*256+b:Nat):Int):=by
 have h:n*256 ||| b=n*256+b:=by
  have:=Nat.shiftLeft_add_eq_or_of_lt (i:=8) (b:=b) (by omega) n
  rw [Nat.shiftLeft_eq,show (2:Nat) ^ 8=256 by decide] at this
  omega
 show aH (((BitVec.ofInt 64 ((n*256:Nat):Int) ||| BitVec.ofInt 64 (b:Int)).toNat:Int))=_
 rw [BitVec.ofInt_natCast,BitVec.ofInt_natCast,BitVec.toNat_or,BitVec.toNat_ofNat,BitVec.toNat_ofNat,Nat.mod_eq_of_lt (by omega),Nat.mod_eq_of_lt (by omega),h]
 exact aD (by omega) (by omega)
theorem LB {n:Nat} (hn:n<4294967296):IntKind.wrap .u32 (((BitVec.ofInt (IntKind.bits .u32) (n:Int) &&& BitVec.ofInt (IntKind.bits .u32) 1).toNat:Int))=((n % 2:Nat):Int):=by
 show IntKind.wrap .u32 (((BitVec.ofInt 32 (n:Int) &&& BitVec.ofInt 32 ((1:Nat):Int)).toNat:Int))=_
 rw [BitVec.ofInt_natCast,BitVec.ofInt_natCast,BitVec.toNat_and,BitVec.toNat_ofNat,BitVec.toNat_ofNat,Nat.mod_eq_of_lt (by omega),Nat.mod_eq_of_lt (show 1<2 ^ 32 by omega),Nat.and_one_is_mod]
 exact vc (by omega) (by omega)
theorem L4 {n:Nat} (hn:n<4294967296):E7 .u32 (n:Int)=4294967295-(n:Int):=by
 unfold E7
 show IntKind.wrap .u32 (((BitVec.allOnes 32 ^^^ BitVec.ofInt 32 (n:Int)).toNat:Int))=_
 rw [BitVec.ofInt_natCast,BitVec.allOnes_xor,BitVec.toNat_not,BitVec.toNat_ofNat,Nat.mod_eq_of_lt (by omega)]
 rw [vc (by omega) (by omega)]
 omega
theorem ng (s:ByteArray):(⟨#[]⟩:ByteArray)++s=s:=by
 apply ByteArray.ext
 simp [ByteArray.data_append]
theorem jS (s:ByteArray):s++(⟨#[]⟩:ByteArray)=s:=by
 apply ByteArray.ext
 simp [ByteArray.data_append]
theorem am (a b c:ByteArray):a++b++c=a++(b++c):=by
 apply ByteArray.ext
 simp [ByteArray.data_append]
theorem gk (a b:ByteArray):nb (a++b)=nb a++nb b:=by
 unfold nb
 rw [ByteArray.data_append,Array.toList_append,List.map_append]
theorem rh (s:ByteArray) (i j:Nat):nb (ByteArray.extract s i j)=((nb s).take j).drop i:=by
 unfold nb
 simp [ByteArray.data_extract,List.map_take,List.map_drop]
 rw [List.drop_take]
theorem gf (s:ByteArray) (n:Nat):nb (ByteArray.extract s n s.size)=(nb s).drop n:=by
 rw [rh,List.take_of_length_le (by rw [cO];omega)]
theorem dw (a t:ByteArray):ByteArray.extract (a++t) a.size (a++t).size=t:=jW (by rw [gf,gk,List.drop_left' (cO a)])
theorem xJ (a t:ByteArray):ByteArray.extract (a++t) 0 a.size=a:=jW (by rw [rh,gk,List.take_left' (cO a),List.drop_zero])
theorem xD (s:ByteArray) {n:Nat} (h:n≤s.size):s=ByteArray.extract s 0 n++ByteArray.extract s n s.size:=jW (by rw [gk,gf,jw,List.take_append_drop])
theorem rk {a b c:ByteArray} (h:a++b=a++c):b=c:=jW (by
 have:=congrArg nb h
 rw [gk,gk] at this
 exact List.append_cancel_left this)
theorem rA {a b c d:ByteArray} (h:a++b=c++d) (hs:a.size=c.size):a=c∧b=d:=by
 have:=congrArg nb h
 rw [gk,gk] at this
 have:=List.append_inj this (by rw [cO,cO,hs])
 exact ⟨jW this.1,jW this.2⟩
def rv:Nat→List Nat→Option (Nat × Nat)
 | 0,_=>none
 | _+1,[]=>none
 | d+1,b::l=>if b≥128 then (match rv d l with | some (a,n)=>if a=0 then none else some (b % 128+128*a,n+1) | none=>none) else some (b,1)
theorem Hn:∀ (d a:Nat) (t:List Nat),a<128 ^ (d+1)→rv (d+1) (vl d a++t)=some (a,(vl d a).length)
 | 0,a,t,h=>by
  have:¬ a≥128:=by simpa using h
  simp [vl,rv,this]
 | d+1,a,t,h=>by
  unfold vl
  by_cases c:a≥128
  · have ih:=Hn d (a/128) t (by rw [Nat.pow_succ] at h;omega)
    rw [if_pos c,List.cons_append,rv,if_pos (by omega),ih]
    simp only []
    rw [if_neg (by omega),kU]
    congr 2
    omega
  · rw [if_neg c,List.cons_append,rv,if_neg c]
    rfl
theorem pE:∀ (d:Nat) (l:List Nat) (a n:Nat),(∀ x ∈ l,x<256)→rv (d+1) l=some (a,n)→l.take n=vl d a∧a<128 ^ (d+1)∧n=(vl d a).length∧n≤l.length∧1≤n∧n≤d+1
 | _,[],a,n,_,h=>by simp [rv] at h
 | 0,b::l,a,n,hb,h=>by
  unfold rv at h
  by_cases c:b≥128
  · simp [c,rv] at h
  · simp [c] at h
    obtain ⟨rfl,rfl⟩:=h
    refine ⟨by simp [vl],by simpa using c,by simp [vl],by simp,by omega,by omega⟩
 | d+1,b::l,a,n,hb,h=>by
  unfold rv at h
  by_cases c:b≥128
  · rw [if_pos c] at h
    cases q:rv (d+1) l with
    | none=>rw [q] at h;simp at h
    | some p =>
     obtain ⟨a',n'⟩:=p
     obtain ⟨h1,h2,h3,h4,h5,h6⟩:=pE d l a' n' (fun x hx=>hb x (lV _ hx)) q
     rw [q] at h
     simp only [] at h
     by_cases z:a'=0
     · simp [z] at h
     · rw [if_neg z] at h
       simp only [Option.some.injEq,Prod.mk.injEq] at h
       obtain ⟨rfl,rfl⟩:=h
       have hb:=hb b (jo ..)
       have e1:(b % 128+128*a')/128=a':=by omega
       have e2:128+(b % 128+128*a') % 128=b:=by omega
       have hv:vl (d+1) (b % 128+128*a')=b::vl d a':=by
        rw [vl,if_pos (by omega),e1,e2]
       rw [hv]
       refine ⟨by rw [List.take_succ_cons,h1],by rw [Nat.pow_succ];omega,by rw [kU,h3],by rw [kU];omega,by omega,by omega⟩
  · rw [if_neg c] at h
    simp only [Option.some.injEq,Prod.mk.injEq] at h
    obtain ⟨rfl,rfl⟩:=h
    have hv:vl (d+1) b=[b]:=by rw [vl,if_neg c]
    rw [hv]
    refine ⟨by simp,?_,by simp,by simp,by omega,by omega⟩
    have:(128:Nat) ^ 1≤128 ^ (d+1+1):=Nat.pow_le_pow_right (by decide) (by omega)
    omega
theorem Ky {d a:Nat}:vl d a≠[]:=by
 cases d with
 | zero=>simp [vl]
 | succ d=>unfold vl;split <;> simp
theorem J3 (l:List Nat) (hb:∀ x ∈ l,x<256) (d n:Nat) (h0:1≤n) (h1:n≤d+1) (h2:n≤l.length):qU (l.take n)=true↔∃ a,rv (d+1) l=some (a,n):=by
 constructor
 · intro h
   have e:=An d (l.take n) h (by rw [List.length_take];omega)
   have hd:rG (l.take n)<128 ^ (d+1):=Nat.lt_of_lt_of_le (AK _) (Nat.pow_le_pow_right (by decide) (by rw [List.length_take];omega))
   have:=Hn d (rG (l.take n)) (l.drop n) hd
   rw [e,List.take_append_drop,List.length_take,Nat.min_eq_left h2] at this
   exact ⟨_,this⟩
 · rintro ⟨a,h⟩
   obtain ⟨e1,e2,_⟩:=pE d l a n hb h
   rw [e1]
   exact (vV d a e2).1
theorem KH {l:List Nat} (hb:∀ x ∈ l,x<256) {d a n:Nat} (h:rv (d+1) l=some (a,n)):a=rG (l.take n):=by
 obtain ⟨e1,e2,_⟩:=pE d l a n hb h
 rw [e1]
 exact (vV d a e2).2.1.symm
theorem rx (s:ByteArray):∀ x ∈ nb s,x<256:=fun _ h=>JZ h
theorem ak (a:Nat):1≤(bG a).size∧(bG a).size≤7:=by
 unfold bG
 rw [Ak,List.length_map]
 have h:∀ d a,(vl d a).length≤d+1:=by
  intro d
  induction d with
  | zero=>intro a;simp [vl]
  | succ d ih=>intro a;unfold vl;split <;> simp;have:=ih (a/128);omega
 have h2:=h 6 a
 have h3:(vl 6 a).length≠0:=fun q=>Ky (List.length_eq_zero_iff.1 q)
 omega
theorem qD {a:Nat} (h:a<562949953421312):(vl 6 a).length=(bG a).size:=by rw [← sJ h,cO]
theorem pn {a:Nat} (h:a<562949953421312) (t:ByteArray):rv 7 (nb (bG a++t))=some (a,(bG a).size):=by
 rw [gk,sJ h,← qD h]
 exact Hn 6 a _ (by rw [show (128:Nat) ^ (6+1)=562949953421312 by decide];exact h)
theorem Ib {s:ByteArray} {a n:Nat} (h:rv 7 (nb s)=some (a,n)):∃ t,a<562949953421312∧n=(bG a).size∧s=bG a++t:=by
 obtain ⟨h1,h2,h3,h4,h5,h6⟩:=pE 6 (nb s) a n (rx s) h
 rw [show (128:Nat) ^ (6+1)=562949953421312 by decide] at h2
 refine ⟨ByteArray.extract s n s.size,h2,by rw [h3,qD h2],jW ?_⟩
 rw [gk,sJ h2,gf,← h1,List.take_append_drop]
theorem mR (s:ByteArray):(∃ a t,a<562949953421312∧s=bG a++t)∨rv 7 (nb s)=none:=by
 cases h:rv 7 (nb s) with
 | none=>exact .inr rfl
 | some p =>
  obtain ⟨a,n⟩:=p
  obtain ⟨t,h1,_,h3⟩:=Ib h
  exact .inl ⟨a,t,h1,h3⟩
theorem y_ {a b:Nat} {s t:ByteArray} (ha:a<562949953421312) (hb:b<562949953421312) (h:bG a++s=bG b++t):a=b∧s=t:=by
 have h1:=pn ha s
 rw [h,pn hb t] at h1
 simp only [Option.some.injEq,Prod.mk.injEq] at h1
 obtain ⟨rfl,_⟩:=h1
 exact ⟨rfl,rk h⟩
def Dh:Option (Nat × Nat)→Int × Int × Unit
 | some p=>((p.1:Int),((p.2:Int),()))
 | none=>(0,(0,()))
end Go.V
namespace Go.Proofs.YthjppgafienaoabGreatDoor.G
open Go.V
theorem na (k:Nat) (a b c:Int):aN.f k a b c=some (decide (b≤a∧a≤c),()):=by
 unfold aN.f aN.t
 by_cases h:b≤a <;> simp [h]
theorem tJ (k:Nat) (a b c:Int):b9.f k a b c=some (decide (b≤a∧a≤c),()):=by
 unfold b9.f b9.t
 by_cases h:b≤a <;> simp [h]
def gu (a:Int):ByteArray:=if 0≤a∧a≤562949953421311 then bG a.toNat else ⟨#[]⟩
theorem bI (a:Int):(gu a).size≤7:=by
 unfold gu
 split
 · exact (ak _).2
 · exact Nat.zero_le _
theorem dZ {a:Nat} (h:a<562949953421312):gu (a:Int)=bG a:=by
 unfold gu
 rw [if_pos (by omega),Int.toNat_natCast]
theorem L_:∀ (d a n:Nat) (xs:List Int),a<128 ^ (d+1)→a<562949953421312→d<n→xs.length+d≤100→∀ k,
 bY.l0 k n (a:Int) xs=some (bytesOf (xs++(vl d a).map Int.ofNat),())∧fG.l0 k n (a:Int) xs=some (bytesOf (xs++(vl d a).map Int.ofNat),()):=by
 intro d
 induction d with
 | zero =>
  intro a n xs h1 h2 h3 h4 k
  obtain ⟨n,rfl⟩:∃ q,n=q+1:=⟨n-1,by omega⟩
  simp only [Nat.zero_add,Nat.pow_one] at h1
  constructor
  · simp (disch:=first | omega | decide) only [bY.l0,bY.b0,aQ,aL,br,np]
    rfl
  · simp (disch:=first | omega | decide) only [fG.l0,fG.b0,aQ,aL,br,np]
    rfl
 | succ d ih =>
  intro a n xs h1 h2 h3 h4 k
  obtain ⟨n,rfl⟩:∃ q,n=q+1:=⟨n-1,by omega⟩
  unfold vl
  by_cases c:a≥128
  · have hd:aH (Int.tdiv (a:Int) 128)=((a/128:Nat):Int):=aD (n:=((a/128:Nat):Int)) (by omega) (by omega)
    have hw:IntKind.wrap .u8 (aH (128+Int.tmod (a:Int) 128))=((128+a % 128:Nat):Int):=by
     have e:128+Int.tmod (a:Int) 128=((128+a % 128:Nat):Int):=by
      show 128+((a % 128:Nat):Int)=_
      omega
     rw [e,aD (by omega) (by omega)]
     exact np (by omega) (by omega)
    have ih:=ih (a/128) n (xs++[((128+a % 128:Nat):Int)]) (by rw [Nat.pow_succ] at h1;omega) (by omega) (by omega) (by rw [uo];show _+1+d≤_;omega) k
    rw [if_pos c]
    rw [nQ] at ih
    constructor
    · simp (disch:=first | omega | decide) only [bY.l0,bY.b0,aP,af,br,hd,hw]
      exact ih.1
    · simp (disch:=first | omega | decide) only [fG.l0,fG.b0,aP,af,br,hd,Int.add_comm (Int.tmod (a:Int) 128) 128,hw]
      exact ih.2
  · rw [if_neg c]
    constructor
    · simp (disch:=first | omega | decide) only [bY.l0,bY.b0,aQ,aL,br,np]
      rfl
    · simp (disch:=first | omega | decide) only [fG.l0,fG.b0,aQ,aL,br,np]
      rfl
theorem gO {k:Nat} (hk:2 ^ 50≤k) (a:Int):bY.f k a=some (gu a,()):=by
 unfold bY.f bY.t gu
 rw [na,ae]
 by_cases h:0≤a∧a≤562949953421311
 · obtain ⟨n,rfl⟩:=Int.eq_ofNat_of_zero_le h.1
   have hn:n<562949953421312:=by omega
   simp only [aP h,fa,aL,if_pos h,Int.toNat_natCast]
   exact (L_ 6 n k [] (by rw [show (128:Nat) ^ (6+1)=562949953421312 by decide];exact hn) hn (by omega) (by decide) k).1
 · simp only [aQ h,ul,af,if_neg h]
theorem oj {k:Nat} (hk:2 ^ 50≤k) (a:Int):fG.f k a=some (gu a,()):=by
 unfold fG.f fG.t gu
 rw [tJ,ae]
 by_cases h:0≤a∧a≤562949953421311
 · obtain ⟨n,rfl⟩:=Int.eq_ofNat_of_zero_le h.1
   have hn:n<562949953421312:=by omega
   simp only [aP h,fa,aL,if_pos h,Int.toNat_natCast]
   exact (L_ 6 n k [] (by rw [show (128:Nat) ^ (6+1)=562949953421312 by decide];exact hn) hn (by omega) (by decide) k).2
 · simp only [aQ h,ul,af,if_neg h]
theorem HM {s:ByteArray} {i:Nat} (h:i<s.size):(nb s).take (i+1)=(nb s).take i++[(nb s).getD i 0]:=by
 have h1:i<(nb s).length:=by rw [cO];exact h
 rw [List.take_succ_eq_append_getElem h1]
 simp [List.getD,h1]
theorem iy (s:ByteArray) (i:Nat):(nb s).getD i 0<256:=by
 by_cases h1:i<(nb s).length
 · rw [show (nb s).getD i 0=(nb s)[i] by simp [List.getD,h1]]
   exact JZ (List.getElem_mem h1)
 · simp [List.getD,List.getElem?_eq_none (by omega:(nb s).length≤i)]
theorem qn {s:ByteArray} {i:Nat} (h:i<s.size):(nb s).drop i=(nb s).getD i 0::(nb s).drop (i+1):=by
 have h1:i<(nb s).length:=by rw [cO];exact h
 rw [List.drop_eq_getElem_cons h1]
 simp [List.getD,h1]
def D1 (n:Nat):Nat:=if n % 2=1 then n/2 ^^^ 2197175160 else n/2
def yY:Nat→Nat→Nat
 | 0,n=>n
 | d+1,n=>yY d (D1 n)
theorem B2 {n:Nat} (h:n<4294967296):D1 n<4294967296:=by
 unfold D1
 split
 · exact Nat.xor_lt_two_pow (n:=32) (by omega) (by omega)
 · omega
theorem zl:∀ {d n:Nat},n<4294967296→yY d n<4294967296
 | 0,_,h=>h
 | d+1,_,h=>zl (d:=d) (B2 h)
def DI:List Nat→Nat→Nat
 | [],n=>n
 | b::l,n=>DI l (yY 8 (n ^^^ b))
theorem Es:∀ {l:List Nat} {n:Nat},n<4294967296→(∀ b ∈ l,b<256)→DI l n<4294967296
 | [],_,h,_=>h
 | b::l,n,h,hb=>by
  have:=hb b (jo ..)
  exact Es (l:=l) (zl (Nat.xor_lt_two_pow (n:=32) (by omega) (by omega))) (fun x hx=>hb x (lV _ hx))
def pZ (s:ByteArray):Int:=4294967295-(DI (nb s) 4294967295:Int)
theorem t8 (s:ByteArray):0≤pZ s∧pZ s≤4294967295:=by
 have:=Es (l:=nb s) (n:=4294967295) (by omega) (rx s)
 unfold pZ
 omega
theorem EA {k:Nat} {L0:ByteArray→Int→Int→Option (Int × Unit)} {s:ByteArray} {i:Int}:∀ (d j m n:Nat),8-j=d→j≤8→d<m→n<4294967296→fk.l1 k L0 m s (n:Int) i (j:Int)=L0 s ((yY d n:Nat):Int) (aH (i+1))
 | 0,j,m,n,hd,hj,hm,hn=>by
  obtain ⟨m,rfl⟩:∃ q,m=q+1:=⟨m-1,by omega⟩
  have c:¬ ((j:Int)<8):=by omega
  simp only [fk.l1,fk.b1,decide_eq_false c,aL,yY]
 | d+1,j,m,n,hd,hj,hm,hn=>by
  obtain ⟨m,rfl⟩:∃ q,m=q+1:=⟨m-1,by omega⟩
  have c:((j:Int)<8):=by omega
  have ih:=EA (k:=k) (L0:=L0) (s:=s) (i:=i) d (j+1) m (D1 n) (by omega) (by omega) (by omega) (B2 hn)
  have hd2:aH (Int.tdiv (n:Int) 2)=((n/2:Nat):Int):=aD (n:=((n/2:Nat):Int)) (by omega) (by omega)
  have hx:=Jp (n:=n/2) (m:=2197175160) (by omega) (by omega)
  have hm2:Int.tmod (n:Int) 2=((n % 2:Nat):Int):=rfl
  have hj1:aH ((j:Int)+1)=((j+1:Nat):Int):=by rw [aD (by omega) (by omega)];omega
  simp only [fk.l1,fk.b1,decide_eq_true c,af,hj1,hd2,hm2,yY]
  rw [← ih]
  unfold D1
  by_cases q:n % 2=1
  · rw [if_pos q,q,← hx]
    rfl
  · rw [if_neg q,show n % 2=0 by omega]
    rfl
theorem EK {k:Nat} {L0:ByteArray→Int→Int→Option (Int × Unit)} {s:ByteArray} {i:Int}:∀ (d j m n:Nat),8-j=d→j≤8→d<m→n<4294967296→gL.l1 k L0 m s (n:Int) i (j:Int)=L0 s ((yY d n:Nat):Int) (aH (i+1))
 | 0,j,m,n,hd,hj,hm,hn=>by
  obtain ⟨m,rfl⟩:∃ q,m=q+1:=⟨m-1,by omega⟩
  have c:¬ ((j:Int)<8):=by omega
  simp only [gL.l1,gL.b1,decide_eq_false c,aL,yY]
 | d+1,j,m,n,hd,hj,hm,hn=>by
  obtain ⟨m,rfl⟩:∃ q,m=q+1:=⟨m-1,by omega⟩
  have c:((j:Int)<8):=by omega
  have ih:=EK (k:=k) (L0:=L0) (s:=s) (i:=i) d (j+1) m (D1 n) (by omega) (by omega) (by omega) (B2 hn)
  have hd2:Int.fdiv (n:Int) (2 ^ (Int.toNat 1))=((n/2:Nat):Int):=by
   show Int.fdiv (n:Int) 2=_
   rw [Int.fdiv_eq_ediv_of_nonneg _ (by omega)]
   omega
  have hx:=JX (n:=n/2) (m:=2197175160) (by omega) (by omega)
  have hj1:aH ((j:Int)+1)=((j+1:Nat):Int):=by rw [aD (by omega) (by omega)];omega
  simp only [gL.l1,gL.b1,decide_eq_true c,af,hj1,hd2,LB hn,yY]
  rw [← ih]
  unfold D1
  by_cases q:n % 2=1
  · rw [if_pos q,q,← hx]
    rfl
  · rw [if_neg q,show n % 2=0 by omega]
    rfl
theorem Jq {k:Nat} (hk:2 ^ 50≤k) {s:ByteArray} (hs:s.size≤1099511627776):∀ (d i n m:Nat),s.size-i=d→i≤s.size→n<4294967296→d<m →
 fk.l0 k m s (n:Int) (i:Int)=some (4294967295-(DI ((nb s).drop i) n:Int),())∧gL.l0 k m s (n:Int) (i:Int)=some (4294967295-(DI ((nb s).drop i) n:Int),())
 | 0,i,n,m,hd,hi,hn,hm=>by
  obtain ⟨m,rfl⟩:∃ q,m=q+1:=⟨m-1,by omega⟩
  have c:¬ ((i:Int)<(s.size:Int)):=by omega
  have e1:aH (4294967295-(n:Int))=4294967295-(n:Int):=aD (by omega) (by omega)
  rw [List.drop_eq_nil_of_le (by rw [cO];omega)]
  constructor
  · simp only [fk.l0,fk.b0,decide_eq_false c,aL,e1,DI]
  · simp only [gL.l0,gL.b0,decide_eq_false c,aL,L4 hn,e1,DI]
 | d+1,i,n,m,hd,hi,hn,hm=>by
  obtain ⟨m,rfl⟩:∃ q,m=q+1:=⟨m-1,by omega⟩
  have hlt:i<s.size:=by omega
  have c:((i:Int)<(s.size:Int)):=by omega
  have h0:=Int.natCast_nonneg i
  have hb:=iy s i
  have hat:=xm hlt
  rw [qn hlt]
  generalize (nb s).getD i 0=b at hb hat
  have w1:aH (b:Int)=(b:Int):=aD (by omega) (by omega)
  have w2:IntKind.wrap .u32 (b:Int)=(b:Int):=vc (by omega) (by omega)
  have hnb:n ^^^ b<4294967296:=Nat.xor_lt_two_pow (n:=32) (by omega) (by omega)
  have up:aH ((i:Int)+1)=((i+1:Nat):Int):=by rw [aD (by omega) (by omega)];omega
  obtain ⟨s1,s2⟩:=Jq hk hs d (i+1) (yY 8 (n ^^^ b)) m (by omega) (by omega) (zl hnb) (by omega)
  constructor
  · simp only [fk.l0,fk.b0,decide_eq_true c,af,aI h0 c,hat,w1,Jp hn (show b<4294967296 by omega)]
    refine (EA 8 0 k (n ^^^ b) (by omega) (by omega) (by omega) hnb).trans ?_
    rw [up]
    exact s1
  · simp only [gL.l0,gL.b0,decide_eq_true c,af,aI h0 c,hat,w2,JX hn (show b<4294967296 by omega)]
    refine (EK 8 0 k (n ^^^ b) (by omega) (by omega) (by omega) hnb).trans ?_
    rw [up]
    exact s2
theorem sG {k:Nat} (hk:2 ^ 50≤k) {s:ByteArray} (hs:s.size≤1099511627776):fk.f k s=some (pZ s,()):=by
 have:=(Jq hk hs s.size 0 4294967295 k (by omega) (by omega) (by omega) (by omega)).1
 rw [List.drop_zero] at this
 exact this
theorem xp {k:Nat} (hk:2 ^ 50≤k) {s:ByteArray} (hs:s.size≤1099511627776):gL.f k s=some (pZ s,()):=by
 have:=(Jq hk hs s.size 0 4294967295 k (by omega) (by omega) (by omega) (by omega)).2
 rw [List.drop_zero] at this
 exact this
def eP (n:Nat):ByteArray:=bytesOf [((n/16777216 % 256:Nat):Int),((n/65536 % 256:Nat):Int),((n/256 % 256:Nat):Int),((n % 256:Nat):Int)]
theorem m0 (n:Nat):(eP n).size=4:=rfl
theorem F2 (n:Nat):nb (eP n)=[n/16777216 % 256,n/65536 % 256,n/256 % 256,n % 256] :=
 CZ (l:=[n/16777216 % 256,n/65536 % 256,n/256 % 256,n % 256]) (by simp;omega)
theorem Cx {k:Nat} (hk:2 ^ 50≤k) {n:Nat} (h1:n<4294967296):dM.f k (n:Int) 4=some (eP n,()):=by
 have sz1:∀ x:Int,(bytesOf [x]).size=1:=fun x=>rfl
 have st:∀ (q m:Nat) (t:ByteArray) (j:Nat),m<4294967296→j<4→t.size≤100→dM.l0 k (q+1) (m:Int) 4 t (j:Int)=dM.l0 k q ((m/256:Nat):Int) 4 (bytesOf [((m % 256:Nat):Int)]++t) ((j+1:Nat):Int):=fun q m t j hm hj ht=>by
  have wd:aH (Int.tdiv (m:Int) 256)=((m/256:Nat):Int):=aD (n:=((m/256:Nat):Int)) (by omega) (by omega)
  have wm:IntKind.wrap .u8 (Int.tmod (m:Int) 256)=((m % 256:Nat):Int):=np (n:=((m % 256:Nat):Int)) (by omega) (by omega)
  have wj:aH ((j:Int)+1)=((j+1:Nat):Int):=by rw [aD (by omega) (by omega)];omega
  simp (disch:=omega) only [dM.l0,dM.b0,aP,af,wd,wm,wj]
  rw [dm (by rw [sz1];omega)]
 unfold dM.f dM.t
 rw [na,ae]
 simp only [show decide ((1:Int)≤4∧(4:Int)≤7)=true by decide,fa,aL,aQ (show ¬ ((n:Int)<0) by omega)]
 obtain ⟨q,hq⟩:∃ q,k=q+5:=⟨k-5,by omega⟩
 refine (congrArg (fun z=>dM.l0 k z (n:Int) 4 ⟨#[]⟩ 0) hq).trans ?_
 refine (st (q+4) n _ 0 h1 (by omega) (by decide)).trans ?_
 refine (st (q+3) (n/256) _ 1 (by omega) (by omega) (by rw [ByteArray.size_append,sz1];decide)).trans ?_
 refine (st (q+2) (n/256/256) _ 2 (by omega) (by omega) (by rw [ByteArray.size_append,ByteArray.size_append,sz1,sz1];decide)).trans ?_
 refine (st (q+1) (n/256/256/256) _ 3 (by omega) (by omega) (by rw [ByteArray.size_append,ByteArray.size_append,ByteArray.size_append,sz1,sz1,sz1];decide)).trans ?_
 have c:¬ ((((3+1:Nat)):Int)<4):=by omega
 have c2:¬ (((n/256/256/256/256:Nat):Int) > 0):=by omega
 simp only [dM.l0,dM.b0,aQ c,aQ c2,aL]
 unfold eP
 congr 2
 rw [show n/256/256/256=n/16777216 by omega,show n/256/256=n/65536 by omega]
 apply ByteArray.ext
 simp [bytesOf,ByteArray.data_append]
theorem De {k:Nat} (hk:2 ^ 50≤k) {n:Nat} (h1:n<4294967296):dk.f k (n:Int) 4=some (eP n,()):=by
 have st:∀ (q j p:Nat) (i':Int) (xs:List Int),j≤3→p=2 ^ (8*j)→i'=(j:Int)-1→xs.length≤100→dk.l0 k (q+1) (n:Int) (j:Int) xs=dk.l0 k q (n:Int) i' (xs++[((n/p % 256:Nat):Int)]):=fun q j p i' xs hj hp hi hx=>by
  have e8:aH (8*(j:Int))=((8*j:Nat):Int):=by rw [aD (by omega) (by omega)];omega
  have e1:aH ((j:Int)-1)=i':=by rw [hi];exact aD (by omega) (by omega)
  have emin:min (8*j) (IntKind.bits .i64)=8*j:=by have:IntKind.bits .i64=64:=rfl;rw [this];omega
  have ew:IntKind.wrap .u8 (Int.fdiv (n:Int) (2 ^ (8*j)))=((n/p % 256:Nat):Int):=by
   have e2:((2:Int) ^ (8*j))=((p:Nat):Int):=by rw [hp,Int.natCast_pow];rfl
   rw [e2,Int.fdiv_eq_ediv_of_nonneg _ (by omega),← Int.natCast_ediv]
   generalize n/p=z
   unfold IntKind.wrap
   simp [IntKind.bits,IntKind.signed]
  simp (disch:=first | omega | decide) only [dk.l0,dk.b0,aP,af,e8,br,e1,nr,emin,ew]
  rw [aQ (by omega),aL]
 unfold dk.f dk.t
 rw [tJ,ae]
 have c0:¬ (aH (8*4)<0):=by decide
 simp only [show decide ((1:Int)≤4∧(4:Int)≤7)=true by decide,fa,aL,aQ c0,show aH (aH (1*2 ^ min (Int.toNat (aH (8*4))) (IntKind.bits .i64))-1)=4294967295 by decide,tJ,ae]
 rw [aP (show (0:Int)≤(n:Int)∧(n:Int)≤4294967295 by omega)]
 simp only [fa,aL,show aH ((4:Int)-1)=((3:Nat):Int) by decide]
 obtain ⟨q,hq⟩:∃ q,k=q+5:=⟨k-5,by omega⟩
 refine (congrArg (fun z=>dk.l0 k z (n:Int) ((3:Nat):Int) []) hq).trans ?_
 refine (st (q+4) 3 16777216 ((2:Nat):Int) _ (by omega) (by decide) (by decide) (by decide)).trans ?_
 refine (st (q+3) 2 65536 ((1:Nat):Int) _ (by omega) (by decide) (by decide) (by simp)).trans ?_
 refine (st (q+2) 1 256 ((0:Nat):Int) _ (by omega) (by decide) (by decide) (by simp)).trans ?_
 refine (st (q+1) 0 1 (-1) _ (by omega) (by decide) (by decide) (by simp)).trans ?_
 simp only [dk.l0,dk.b0,show decide ((-1:Int)≥0)=false by decide,aL,Nat.div_one]
 rfl
def sy (a:Int):ByteArray:=eP a.toNat
theorem j_ (a:Int):(sy a).size=4:=rfl
theorem pJ {k:Nat} (hk:2 ^ 50≤k) {a:Int} (h0:0≤a) (h1:a≤4294967295):dM.f k a 4=some (sy a,()):=by
 obtain ⟨n,rfl⟩:=Int.eq_ofNat_of_zero_le h0
 exact Cx hk (by omega)
theorem tQ {k:Nat} (hk:2 ^ 50≤k) {a:Int} (h0:0≤a) (h1:a≤4294967295):dk.f k a 4=some (sy a,()):=by
 obtain ⟨n,rfl⟩:=Int.eq_ofNat_of_zero_le h0
 exact De hk (by omega)
theorem vp (s:ByteArray):(∃ x t,x<4294967296∧s=eP x++t)∨s.size<4:=by
 by_cases c:s.size<4
 · exact .inr c
 · left
   have h0:=qn (s:=s) (i:=0) (by omega)
   have h1:=qn (s:=s) (i:=1) (by omega)
   have h2:=qn (s:=s) (i:=2) (by omega)
   have h3:=qn (s:=s) (i:=3) (by omega)
   have b0:=iy s 0
   have b1:=iy s 1
   have b2:=iy s 2
   have b3:=iy s 3
   rw [h1,h2,h3,List.drop_zero] at h0
   generalize (nb s).getD 0 0=x0 at *
   generalize (nb s).getD 1 0=x1 at *
   generalize (nb s).getD 2 0=x2 at *
   generalize (nb s).getD 3 0=x3 at *
   refine ⟨((x0*256+x1)*256+x2)*256+x3,ByteArray.extract s 4 s.size,by omega,jW ?_⟩
   rw [gk,F2,gf,h0]
   simp only [List.cons_append,List.nil_append,List.drop_succ_cons,List.drop_zero,List.cons.injEq,and_true]
   refine ⟨?_,?_,?_,?_⟩ <;> omega
theorem uR (x:Nat) (t:ByteArray):nb (eP x++t)=(x/16777216 % 256)::(x/65536 % 256)::(x/256 % 256)::(x % 256)::nb t:=by
 rw [gk,F2];rfl
theorem mC (x:Nat) (t:ByteArray):(eP x++t).size=4+t.size:=by rw [ByteArray.size_append];rfl
theorem kH (k:Nat) (s:ByteArray):cm.f k s=some (decide (1≤(s.size:Int)∧(s.size:Int)≤8),()):=by
 unfold cm.f cm.t
 rw [na];rfl
theorem pH (k:Nat) (s:ByteArray):gQ.f k s=some (decide (1≤(s.size:Int)∧(s.size:Int)≤8),()):=by
 unfold gQ.f gQ.t
 rw [tJ];rfl
def bv (a:Ty.d bB):Bool :=
 bif a.1==1||a.1==4 then decide (1≤(a.2.2.1.size:Int)∧(a.2.2.1.size:Int)≤8)&&(decide ((a.2.2.2.1.size:Int)≤24)&&((a.2.2.2.2.1==0)&&((a.2.2.2.2.2.1==0)&&decide (1≤a.2.1∧a.2.1≤1000000))))
 else bif a.1==2 then decide (1≤(a.2.2.1.size:Int)∧(a.2.2.1.size:Int)≤8)&&(seq a.2.2.2.1 ⟨#[]⟩&&((a.2.2.2.2.1==0)&&((a.2.2.2.2.2.1==0)&&decide (1≤a.2.1∧a.2.1≤1000000))))
 else bif a.1==3 then seq a.2.2.1 ⟨#[]⟩&&(seq a.2.2.2.1 ⟨#[]⟩&&(decide (0≤a.2.2.2.2.1∧a.2.2.2.2.1≤8)&&(decide (0≤a.2.2.2.2.2.1∧a.2.2.2.2.2.1≤4294967295)&&decide (1≤a.2.1∧a.2.1≤1000000))))
 else bif a.1==5 then seq a.2.2.1 ⟨#[]⟩&&(seq a.2.2.2.1 ⟨#[]⟩&&(decide (0≤a.2.2.2.2.1∧a.2.2.2.2.1≤20)&&(decide (0≤a.2.2.2.2.2.1∧a.2.2.2.2.2.1≤4294967295)&&decide (0≤a.2.1∧a.2.1≤1000000))))
 else false
theorem G_ (s:ByteArray):seq s ByteArray.empty=seq s ⟨#[]⟩:=rfl
theorem h9 (k:Nat) (a:Ty.d bB):fb.f k a=some (bv a,()):=by
 obtain ⟨ty,tx,key,tt,n,sm,u⟩:=a
 unfold fb.f fb.t bv
 simp only [tJ,pH,ae,bT,G_]
 change Int at ty tx n sm
 change ByteArray at key tt
 generalize decide (1≤(key.size:Int)∧(key.size:Int)≤8)=K
 generalize decide ((tt.size:Int)≤24)=L
 generalize decide (1≤tx∧tx≤1000000)=T1
 generalize decide (0≤tx∧tx≤1000000)=T0
 generalize decide (0≤n∧n≤8)=N1
 generalize decide (0≤n∧n≤20)=N2
 generalize decide (0≤sm∧sm≤4294967295)=S
 generalize (n==0)=Z1
 generalize (sm==0)=Z2
 generalize seq key ⟨#[]⟩=E1
 generalize seq tt ⟨#[]⟩=E2
 by_cases h1:ty=1
 · subst h1;simp;cases K <;> cases L <;> cases T1 <;> cases Z1 <;> cases Z2 <;> rfl
 by_cases h4:ty=4
 · subst h4;simp;cases K <;> cases L <;> cases T1 <;> cases Z1 <;> cases Z2 <;> rfl
 by_cases h2:ty=2
 · subst h2;simp;cases K <;> cases E2 <;> cases T1 <;> cases Z1 <;> cases Z2 <;> rfl
 by_cases h3:ty=3
 · subst h3;simp;cases E1 <;> cases E2 <;> cases T1 <;> cases N1 <;> cases S <;> rfl
 by_cases h5:ty=5
 · subst h5;simp;cases E1 <;> cases E2 <;> cases T0 <;> cases N2 <;> cases S <;> rfl
 have b1:(ty==1)=false:=mP h1
 have b2:(ty==2)=false:=mP h2
 have b3:(ty==3)=false:=mP h3
 have b4:(ty==4)=false:=mP h4
 have b5:(ty==5)=false:=mP h5
 have b6:(ty != 5)=true:=bne_iff_ne.2 h5
 simp only [b1,b2,b3,b4,b5,b6,Bool.or_false,aL,af]
theorem AA (k:Nat) (a:Ty.d bB):kB.f k a=some (bv a,()):=by
 obtain ⟨ty,tx,key,tt,n,sm,u⟩:=a
 unfold kB.f kB.t bv
 simp only [na,kH,ae]
 change Int at ty tx n sm
 change ByteArray at key tt
 have q:decide (1≤tx∧tx≤1000000)=(decide (0≤tx∧tx≤1000000)&&!(tx==0)):=by
  rw [Bool.eq_iff_iff];simp;omega
 rw [q]
 generalize decide (1≤(key.size:Int)∧(key.size:Int)≤8)=K
 generalize decide ((tt.size:Int)≤24)=L
 generalize decide (0≤tx∧tx≤1000000)=T0
 generalize (tx==0)=T
 generalize decide (0≤n∧n≤8)=N1
 generalize decide (0≤n∧n≤20)=N2
 generalize decide (0≤sm∧sm≤4294967295)=S
 generalize (n==0)=Z1
 generalize (sm==0)=Z2
 generalize seq key ⟨#[]⟩=E1
 generalize seq tt ⟨#[]⟩=E2
 by_cases h1:ty=1
 · subst h1;simp;cases T0 <;> cases T <;> cases K <;> cases L <;> cases Z1 <;> cases Z2 <;> rfl
 by_cases h4:ty=4
 · subst h4;simp;cases T0 <;> cases T <;> cases K <;> cases L <;> cases Z1 <;> cases Z2 <;> rfl
 by_cases h2:ty=2
 · subst h2;simp;cases T0 <;> cases T <;> cases K <;> cases E2 <;> cases Z1 <;> cases Z2 <;> rfl
 by_cases h3:ty=3
 · subst h3;simp;cases T0 <;> cases T <;> cases E1 <;> cases E2 <;> cases N1 <;> cases S <;> rfl
 by_cases h5:ty=5
 · subst h5;simp;cases T0 <;> cases T <;> cases E1 <;> cases E2 <;> cases N2 <;> cases S <;> rfl
 have b1:(ty==1)=false:=mP h1
 have b2:(ty==2)=false:=mP h2
 have b3:(ty==3)=false:=mP h3
 have b4:(ty==4)=false:=mP h4
 have b5:(ty==5)=false:=mP h5
 have b6:(ty != 5)=true:=bne_iff_ne.2 h5
 simp only [b1,b2,b3,b4,b5,b6,Bool.or_false,aL,af]
 cases T0 <;> cases T <;> rfl
def jB (s:ByteArray):ByteArray:=gu (s.size:Int)++s
theorem lk (s:ByteArray):(jB s).size≤7+s.size:=by
 unfold jB
 have:=bI (s.size:Int)
 rw [ByteArray.size_append]
 omega
def aG (a:Ty.d bB):ByteArray :=
 if bv a=true then
  if a.1=1∨a.1=4 then gu a.1++(gu a.2.1++(jB a.2.2.1++jB a.2.2.2.1))
  else if a.1=2 then gu a.1++(gu a.2.1++jB a.2.2.1)
  else gu a.1++(gu a.2.1++(gu a.2.2.2.2.1++sy a.2.2.2.2.2.1))
 else ⟨#[]⟩
theorem mH {a:Ty.d bB} (h:bv a=true) :
 ((a.1=1∨a.1=4)∧1≤a.2.2.1.size∧a.2.2.1.size≤8∧a.2.2.2.1.size≤24∧a.2.2.2.2.1=0∧a.2.2.2.2.2.1=0∧1≤a.2.1∧a.2.1≤1000000) ∨
 (a.1=2∧1≤a.2.2.1.size∧a.2.2.1.size≤8∧a.2.2.2.1=⟨#[]⟩∧a.2.2.2.2.1=0∧a.2.2.2.2.2.1=0∧1≤a.2.1∧a.2.1≤1000000) ∨
 ((a.1=3∨a.1=5)∧a.2.2.1=⟨#[]⟩∧a.2.2.2.1=⟨#[]⟩∧0≤a.2.2.2.2.1∧a.2.2.2.2.1≤20∧0≤a.2.2.2.2.2.1∧a.2.2.2.2.2.1≤4294967295∧0≤a.2.1∧a.2.1≤1000000):=by
 obtain ⟨kd,bt,key,val,cn,sm,u⟩:=a
 change Int at kd bt cn sm
 change ByteArray at key val
 unfold bv at h
 simp only [] at h ⊢
 by_cases c:kd=1∨kd=4
 · have b:(kd==1||kd==4)=true:=by rcases c with c | c <;> rw [c] <;> rfl
   rw [b,af] at h
   simp only [gX,decide_eq_true_eq,beq_iff_eq] at h
   exact .inl ⟨c,by omega,by omega,by omega,h.2.2.1,h.2.2.2.1,h.2.2.2.2⟩
 · have b1:(kd==1)=false:=mP fun h=>c (.inl h)
   have b4:(kd==4)=false:=mP fun h=>c (.inr h)
   simp only [b1,b4,Bool.or_false,aL] at h
   cases b2:(kd==2) with
   | true =>
    rw [b2,af] at h
    simp only [gX,decide_eq_true_eq,beq_iff_eq,dy] at h
    exact .inr (.inl ⟨eq_of_beq b2,by omega,by omega,h.2.1,h.2.2.1,h.2.2.2.1,h.2.2.2.2⟩)
   | false =>
    rw [b2,aL] at h
    cases b3:(kd==3) with
    | true =>
     rw [b3,af] at h
     simp only [gX,decide_eq_true_eq,dy] at h
     exact .inr (.inr ⟨.inl (eq_of_beq b3),h.1,h.2.1,h.2.2.1.1,Int.le_trans h.2.2.1.2 (by decide),h.2.2.2.1.1,h.2.2.2.1.2,Int.le_trans (by decide) h.2.2.2.2.1,h.2.2.2.2.2⟩)
    | false =>
     rw [b3,aL] at h
     cases b5:(kd==5) with
     | true =>
      rw [b5,af] at h
      simp only [gX,decide_eq_true_eq,dy] at h
      exact .inr (.inr ⟨.inr (eq_of_beq b5),h.1,h.2.1,h.2.2.1.1,h.2.2.1.2,h.2.2.2.1.1,h.2.2.2.1.2,h.2.2.2.2.1,h.2.2.2.2.2⟩)
     | false =>
      rw [b5,aL] at h
      cases h
theorem vQ {kd b cn sm:Int} {key val:ByteArray} (h:bv (kd,(b,(key,(val,(cn,(sm,()))))))=true) :
 ((kd=1∨kd=4)∧1≤key.size∧key.size≤8∧val.size≤24∧cn=0∧sm=0∧1≤b∧b≤1000000) ∨
 (kd=2∧1≤key.size∧key.size≤8∧val=⟨#[]⟩∧cn=0∧sm=0∧1≤b∧b≤1000000) ∨
 ((kd=3∨kd=5)∧key=⟨#[]⟩∧val=⟨#[]⟩∧0≤cn∧cn≤20∧0≤sm∧sm≤4294967295∧0≤b∧b≤1000000):=mH h
theorem dG {k:Nat} (hk:2 ^ 50≤k) (a:Ty.d bB):cD.f k a=some (aG a,()):=by
 unfold cD.f cD.t aG
 rw [AA,ae]
 cases hr:bv a with
 | false=>rfl
 | true =>
  have v1:=bI a.1
  have v2:=bI a.2.1
  have v3:=bI (a.2.2.1.size:Int)
  have v4:=bI (a.2.2.2.1.size:Int)
  have v5:=bI a.2.2.2.2.1
  have v6:=j_ a.2.2.2.2.2.1
  simp only [fa,aL,if_true,jB]
  rcases mH hr with ⟨c,h⟩ | ⟨c,h⟩ | ⟨c,h⟩
  · rw [if_pos c]
    rcases c with c | c
    · have b1:(a.1==1)=true:=by rw [c];rfl
      simp (disch:=first | omega | (simp only [ByteArray.size_append];omega)) only [gO hk,ae,b1,af,dm,am]
    · have b1:(a.1==1)=false:=by rw [c];rfl
      have b4:(a.1==4)=true:=by rw [c];rfl
      simp (disch:=first | omega | (simp only [ByteArray.size_append];omega)) only [gO hk,ae,b1,b4,af,aL,dm,am]
  · have b1:(a.1==1)=false:=by rw [c];rfl
    have b4:(a.1==4)=false:=by rw [c];rfl
    have b2:(a.1==2)=true:=by rw [c];rfl
    rw [if_neg (show ¬ (a.1=1∨a.1=4) by rw [c];decide),if_pos c]
    simp (disch:=first | omega | (simp only [ByteArray.size_append];omega)) only [gO hk,ae,b1,b2,b4,af,aL,dm,am]
  · have b1:(a.1==1)=false:=by rcases c with c | c <;> rw [c] <;> rfl
    have b4:(a.1==4)=false:=by rcases c with c | c <;> rw [c] <;> rfl
    have b2:(a.1==2)=false:=by rcases c with c | c <;> rw [c] <;> rfl
    rw [if_neg (show ¬ (a.1=1∨a.1=4) by rcases c with c | c <;> rw [c] <;> decide),if_neg (show ¬ a.1=2 by rcases c with c | c <;> rw [c] <;> decide)]
    obtain ⟨_,_,_,_,z1,z2,_⟩:=h
    simp (disch:=first | assumption | omega | (simp only [ByteArray.size_append];omega)) only [gO hk,pJ hk,ae,b1,b2,b4,af,aL,dm,am]
theorem G2 {k:Nat} (hk:2 ^ 50≤k) (x y:Int):jK.f k [x,y]=some (gu x++gu y,()):=by
 have v1:=bI x
 have v2:=bI y
 obtain ⟨q,hq⟩:∃ q,k=q+3:=⟨k-3,by omega⟩
 refine (congrArg (fun z=>jK.l0 k z ⟨#[]⟩ [x,y] 2 0) hq).trans ?_
 rw [show jK.l0 k (q+3) ⟨#[]⟩ [x,y] 2 0=(fG.f k x).bind (fun r1=>kW ⟨#[]⟩ r1.1 (jK.l0 k (q+2) (⟨#[]⟩++r1.1) [x,y] 2 1)) from rfl]
 rw [oj hk,ae]
 simp only []
 rw [dm (by rw [show (⟨#[]⟩:ByteArray).size=0 from rfl];omega),ng]
 rw [show jK.l0 k (q+2) (gu x) [x,y] 2 1=(fG.f k y).bind (fun r1=>kW (gu x) r1.1 (jK.l0 k (q+1) (gu x++r1.1) [x,y] 2 2)) from rfl]
 rw [oj hk,ae]
 simp only []
 rw [dm (by omega)]
 rfl
theorem m8 {k:Nat} (hk:2 ^ 50≤k) {s:ByteArray} (hs:s.size≤1099511627776):eZ.f k s=some (jB s,()):=by
 have:=bI (s.size:Int)
 unfold eZ.f eZ.t jB
 simp (disch:=omega) only [oj hk,ae,dm]
theorem wV {k:Nat} (hk:2 ^ 50≤k) (a:Ty.d bB):ii.f k a=some (aG a,()):=by
 unfold ii.f ii.t aG
 rw [h9,ae]
 cases hr:bv a with
 | false=>rfl
 | true =>
  have v1:=bI a.1
  have v2:=bI a.2.1
  have v3:=lk a.2.2.1
  have v4:=lk a.2.2.2.1
  have v5:=bI a.2.2.2.2.1
  have v6:=j_ a.2.2.2.2.2.1
  simp only [fa,aL,if_true,G2 hk,ae]
  rcases mH hr with ⟨c,h⟩ | ⟨c,h⟩ | ⟨c,h⟩
  · rw [if_pos c]
    rcases c with c | c
    · have b1:(a.1==1)=true:=by rw [c];rfl
      simp (disch:=first | omega | (simp only [ByteArray.size_append];omega)) only [m8 hk,ae,b1,af,dm,am]
    · have b1:(a.1==1)=false:=by rw [c];rfl
      have b4:(a.1==4)=true:=by rw [c];rfl
      simp (disch:=first | omega | (simp only [ByteArray.size_append];omega)) only [m8 hk,ae,b1,b4,af,aL,dm,am]
  · have b1:(a.1==1)=false:=by rw [c];rfl
    have b4:(a.1==4)=false:=by rw [c];rfl
    have b2:(a.1==2)=true:=by rw [c];rfl
    rw [if_neg (show ¬ (a.1=1∨a.1=4) by rw [c];decide),if_pos c]
    simp (disch:=first | omega | (simp only [ByteArray.size_append];omega)) only [m8 hk,ae,b1,b2,b4,af,aL,dm,am]
  · have b1:(a.1==1)=false:=by rcases c with c | c <;> rw [c] <;> rfl
    have b4:(a.1==4)=false:=by rcases c with c | c <;> rw [c] <;> rfl
    have b2:(a.1==2)=false:=by rcases c with c | c <;> rw [c] <;> rfl
    rw [if_neg (show ¬ (a.1=1∨a.1=4) by rcases c with c | c <;> rw [c] <;> decide),if_neg (show ¬ a.1=2 by rcases c with c | c <;> rw [c] <;> decide)]
    obtain ⟨_,_,_,_,z1,z2,_⟩:=h
    simp (disch:=first | assumption | omega | (simp only [ByteArray.size_append];omega)) only [oj hk,tQ hk,ae,b1,b2,b4,af,aL,dm,am]
theorem ja (a:Ty.d bB):(aG a).size≤60:=by
 unfold aG
 split
 · rename_i hr
   have v1:=bI a.1
   have v2:=bI a.2.1
   have v3:=lk a.2.2.1
   have v4:=lk a.2.2.2.1
   have v5:=bI a.2.2.2.2.1
   have v6:=j_ a.2.2.2.2.2.1
   rcases mH hr with ⟨c,h⟩ | ⟨c,h⟩ | ⟨c,h⟩
   · rw [if_pos c]
     simp only [ByteArray.size_append];omega
   · rw [if_neg (show ¬ (a.1=1∨a.1=4) by rw [c];decide),if_pos c]
     simp only [ByteArray.size_append];omega
   · rw [if_neg (show ¬ (a.1=1∨a.1=4) by rcases c with c | c <;> rw [c] <;> decide),if_neg (show ¬ a.1=2 by rcases c with c | c <;> rw [c] <;> decide)]
     simp only [ByteArray.size_append];omega
 · exact Nat.zero_le _
def nf:List (Ty.d bB)→ByteArray
 | []=>⟨#[]⟩
 | a::l=>aG a++nf l
def v7 (l:List (Ty.d bB)):Int:=pZ (nf l)
theorem Ek (l:List (Ty.d bB)):0≤v7 l∧v7 l≤4294967295:=t8 _
theorem pF {k:Nat} (hk:2 ^ 50≤k) {l:List (Ty.d bB)} (hl:l.length≤1073741824):ff.f k l=some (v7 l,()):=by
 refine (dp (L:=fun n i s=>ff.l0 k n l s i) (R:=fun l s=>some (pZ (s++nf l),())) (Ty.z bB) l (fun i s=>(s.size:Int)≤60*i) (fun n s hs=>?_) (fun n i s x rest h0 h1 hx hr hp ih=>?_) (n:=k) (s:=⟨#[]⟩) (by omega) (by decide)).trans (by rw [ng];rfl)
 · simp (disch:=omega) only [ff.l0,ff.b0,aQ,aL,sG hk,ae,nf,jS]
 · have hz:=ja x
   simp (disch:=omega) only [ff.l0,ff.b0,aP,af,aI,hx,dG hk,ae,dm,aD]
   rw [ih _ (by rw [ByteArray.size_append];omega),nf,am]
theorem Av {k:Nat} (hk:2 ^ 50≤k) {l:List (Ty.d bB)} (hl:l.length≤1073741824):iO.f k l=some (v7 l,()):=by
 refine (dp (L:=fun n i s=>iO.l0 k n s l l.length i) (R:=fun l s=>some (pZ (s++nf l),())) (Ty.z bB) l (fun i s=>(s.size:Int)≤60*i) (fun n s hs=>?_) (fun n i s x rest h0 h1 hx hr hp ih=>?_) (n:=k) (s:=⟨#[]⟩) (by omega) (by decide)).trans (by rw [ng];rfl)
 · simp (disch:=omega) only [iO.l0,iO.b0,aQ,aL,xp hk,ae,nf,jS]
 · have hz:=ja x
   simp (disch:=omega) only [iO.l0,iO.b0,aP,af,aI,hx,wV hk,ae,dm,aD]
   rw [ih _ (by rw [ByteArray.size_append];omega),nf,am]
theorem ze {s:ByteArray} (hs:s.size≤4611686018427387904) (k:Nat):∀ (d i acc n:Nat),i+d=7→acc<128 ^ i→d<n →
 cU.l0 k n s (acc:Int) (i:Int)=some (match rv d ((nb s).drop i) with
  | some (a,m)=>if a=0∧0<i then (0,(0,())) else (((acc+a*128 ^ i:Nat):Int),(((i+m:Nat):Int),()))
  | none=>(0,(0,()))):=by
 intro d
 induction d with
 | zero =>
  intro i acc n h1 h2 h3
  obtain ⟨n,rfl⟩:∃ q,n=q+1:=⟨n-1,by omega⟩
  simp (disch:=omega) only [cU.l0,cU.b0,aQ,aL,rv]
 | succ d ih =>
  intro i acc n h1 h2 h3
  obtain ⟨n,rfl⟩:∃ q,n=q+1:=⟨n-1,by omega⟩
  by_cases hlt:i<s.size
  case neg =>
   rw [List.drop_eq_nil_of_le (by rw [cO];omega)]
   simp (disch:=omega) only [cU.l0,cU.b0,aP,aQ,af,aL,rv]
  have hb:=iy s i
  have hat:=xm hlt
  have ih:=ih (i+1)
  rw [qn hlt]
  generalize (nb s).getD i 0=b at hb hat
  have e8:aH (7*(i:Int))=((7*i:Nat):Int):=by rw [aD (by omega) (by omega)];omega
  have emin:min (7*i) (IntKind.bits .i64)=7*i:=by have:IntKind.bits .i64=64:=rfl;rw [this];omega
  have ep:(2:Int) ^ (7*i)=((128 ^ i:Nat):Int):=by rw [Int.pow_mul,Int.natCast_pow];rfl
  have hp:128 ^ i≤128 ^ 6:=Nat.pow_le_pow_right (by decide) (by omega)
  rw [show (128:Nat) ^ 6=4398046511104 by decide] at hp
  have hps:128 ^ (i+1)=128 ^ i*128:=Nat.pow_succ ..
  have hb2:(b % 128)*128 ^ i≤127*128 ^ i:=Nat.mul_le_mul (by omega) (Nat.le_refl _)
  have ev:aH ((acc:Int)+aH (Int.tmod (b:Int) 128*2 ^ (7*i)))=((acc+b % 128*128 ^ i:Nat):Int):=by
   have e:Int.tmod (b:Int) 128*2 ^ (7*i)=((b % 128*128 ^ i:Nat):Int):=by
    rw [ep,Int.natCast_mul]
    rfl
   rw [e,aD (n:=((b % 128*128 ^ i:Nat):Int)) (by omega) (by omega),aD (by omega) (by omega)]
   omega
  have eb:aH ((b:Nat):Int)=(b:Int):=aD (by omega) (by omega)
  have ei:aH ((i:Int)+1)=((i+1:Nat):Int):=by rw [aD (by omega) (by omega)];omega
  have ih:=ih (acc+b % 128*128 ^ i) n (by omega) (by omega) (by omega)
  simp (disch:=omega) only [cU.l0,cU.b0,aP,af,aI,hat,eb,e8,nr,emin,ev,ei]
  rw [aQ (by omega),aL]
  by_cases c:b≥128
  · rw [aP (show (b:Int)≥128 by omega),af,ih,rv,if_pos c]
    cases q:rv d ((nb s).drop (i+1)) with
    | none=>rfl
    | some p =>
     obtain ⟨a,m⟩:=p
     simp only []
     by_cases z:a=0
     · simp [z]
     · have hm:a*128 ^ (i+1)=128*a*128 ^ i:=by rw [hps,Nat.mul_comm (128 ^ i),← Nat.mul_assoc,Nat.mul_comm a]
       rw [if_neg (by omega),if_neg z]
       simp only []
       rw [if_neg (by omega)]
       have e1:acc+b % 128*128 ^ i+a*128 ^ (i+1)=acc+(b % 128+128*a)*128 ^ i:=by rw [hm,Nat.add_mul];omega
       have e2:i+1+m=i+(m+1):=by omega
       rw [e1,e2]
  · have em:b % 128=b:=by omega
    rw [aQ (show ¬ (b:Int)≥128 by omega),aL,rv,if_neg c,em]
    by_cases z:b=0
    · subst z
      rw [show ((((0:Nat):Int)==0))=true from rfl,af]
      by_cases hi:0<i
      · rw [aP (show (i:Int) > 0 by omega),af]
        simp [hi]
      · rw [aQ (show ¬ (i:Int) > 0 by omega),aL]
        simp [hi]
    · rw [show ((b:Int)==0)=false from mP (by omega),aL]
      simp [z]
theorem n5 {k:Nat} (hk:2 ^ 50≤k) {s:ByteArray} (hs:s.size≤4611686018427387904):cU.f k s=some (Dh (rv 7 (nb s))):=by
 unfold cU.f cU.t
 refine (ze hs k 7 0 0 k (by omega) (by decide) (by omega)).trans ?_
 rw [List.drop_zero]
 cases rv 7 (nb s) with
 | none=>rfl
 | some p=>simp [Dh]
theorem EE {k:Nat} {L0:ByteArray→Int→Option (Int × Int × Unit)} {s:ByteArray} {n:Nat}:∀ (j x m:Nat),j<m→j≤s.size→j≤7→(x+1)*128 ^ j≤562949953421312 →
 ag.l1 k L0 m s (n:Int) (x:Int) ((j:Int)-1)=ag.l1 k L0 (m-j) s (n:Int) ((x*128 ^ j+rG ((nb s).take j):Nat):Int) (-1)
 | 0,x,m,hm,hs,h7,hx=>by simp [rG]
 | j+1,x,m,hm,hs,h7,hx=>by
  obtain ⟨m,rfl⟩:∃ q,m=q+1:=⟨m-1,by omega⟩
  have hj:j<s.size:=by omega
  have hb:=iy s j
  rw [Nat.pow_succ,← Nat.mul_assoc,Nat.mul_comm _ 128,← Nat.mul_assoc] at hx
  have hpos:1≤128 ^ j:=Nat.one_le_pow _ _ (by decide)
  have hx2:(128*(x+1))*1≤(128*(x+1))*128 ^ j:=Nat.mul_le_mul (Nat.le_refl _) hpos
  have hat:=xm hj
  have e0:((j+1:Nat):Int)-1=(j:Int):=by omega
  have c:(j:Int)≥0:=by omega
  have c2:(j:Int)<(s.size:Int):=by omega
  rw [HM hj,CM,List.length_take,cO,Nat.min_eq_left (by omega)]
  generalize (nb s).getD j 0=b at hb hat ⊢
  have w1:aH (((b:Nat):Int))=(b:Int):=aD (by omega) (by omega)
  have w2:aH ((x:Int)*128)=(x:Int)*128:=aD (by omega) (by omega)
  have w3:aH ((x:Int)*128+Int.tmod (b:Int) 128)=((x*128+b % 128:Nat):Int):=by
   have e:(x:Int)*128+Int.tmod (b:Int) 128=((x*128+b % 128:Nat):Int):=by
    show (x:Int)*128+((b % 128:Nat):Int)=_
    omega
   rw [e]
   exact aD (by omega) (by omega)
  have w4:aH ((j:Int)-1)=(j:Int)-1:=aD (by omega) (by omega)
  have hx3:(x*128+b % 128+1)*128 ^ j≤(128*(x+1))*128 ^ j:=Nat.mul_le_mul (by omega) (Nat.le_refl _)
  have ih:=EE (k:=k) (L0:=L0) (s:=s) (n:=n) j (x*128+b % 128) m (by omega) (by omega) (by omega) (by omega)
  rw [e0]
  simp only [ag.l1,ag.b1,decide_eq_true c,af,aI c c2,hat,w1,w2,w3,w4]
  rw [ih,show m+1-(j+1)=m-j by omega]
  congr 2
  rw [Nat.pow_succ,Nat.add_mul,Nat.mul_assoc,Nat.mul_comm 128 (128 ^ j),Nat.mul_comm (b % 128)]
  omega
theorem Lc {s:ByteArray} {n:Nat} (h7:n≤7):rG ((nb s).take n)<562949953421312:=by
 have:=AK ((nb s).take n)
 have h1:((nb s).take n).length≤7:=by rw [List.length_take];omega
 have h2:(128:Nat) ^ ((nb s).take n).length≤128 ^ 7:=Nat.pow_le_pow_right (by decide) h1
 rw [show (128:Nat) ^ 7=562949953421312 by decide] at h2
 omega
theorem zp {k:Nat} (hk:2 ^ 50≤k) {s:ByteArray}:∀ (d i n:Nat),i+d=8→1≤i→d<n →
 ag.l0 k n s (i:Int)=some (match rv 7 (nb s) with | some (a,m)=>if i≤m then ((a:Int),((m:Int),())) else (0,(0,())) | none=>(0,(0,()))):=by
 have stop:∀ i,(7<i∨s.size<i)→(match rv 7 (nb s) with | some (a,m)=>if i≤m then ((a:Int),((m:Int),())) else (0,(0,())) | none=>(0,(0,())))=((0:Int),((0:Int),())):=by
  intro i hi
  cases q:rv 7 (nb s) with
  | none=>rfl
  | some p =>
   obtain ⟨a,m⟩:=p
   obtain ⟨_,_,_,h4,_,h6⟩:=pE 6 (nb s) a m (rx s) q
   rw [cO] at h4
   exact if_neg (by omega)
 intro d
 induction d with
 | zero =>
  intro i n h1 h2 h3
  obtain ⟨n,rfl⟩:∃ q,n=q+1:=⟨n-1,by omega⟩
  rw [stop i (by omega)]
  simp (disch:=omega) only [ag.l0,ag.b0,aQ,aL]
 | succ d ih =>
  intro i n h1 h2 h3
  obtain ⟨n,rfl⟩:∃ q,n=q+1:=⟨n-1,by omega⟩
  by_cases hs:i≤s.size
  case neg =>
   rw [stop i (by omega)]
   simp (disch:=omega) only [ag.l0,ag.b0,aP,aQ,af,aL]
  have hp:(128:Nat) ^ i≤128 ^ 7:=Nat.pow_le_pow_right (by decide) (by omega)
  rw [show (128:Nat) ^ 7=562949953421312 by decide] at hp
  simp (disch:=omega) only [ag.l0,ag.b0,aP,af,aD]
  refine (EE (k:=k) (L0:=ag.l0 k n) (s:=s) (n:=i) i 0 k (by omega) hs (by omega) (by omega)).trans ?_
  obtain ⟨m,hm⟩:∃ m,k-i=m+1:=⟨k-i-1,by omega⟩
  have hd7:=Lc (s:=s) (n:=i) (by omega)
  have hc:=Fb (s:=s) (n:=i) h2 (by omega) hs
  rw [hm,Nat.zero_mul,Nat.zero_add]
  simp only [ag.l1,ag.b1,show decide ((-1:Int)≥0)=false by decide,aL,gO hk,ae,dZ hd7]
  rw [cC (by omega) (by omega),nr,hc,aD (by omega) (by omega)]
  have hw:=J3 (nb s) (rx s) 6 i h2 (by omega) (by rw [cO];exact hs)
  cases hq:qU ((nb s).take i) with
  | true =>
   obtain ⟨a,ha⟩:=hw.1 hq
   rw [af,ha]
   simp only []
   rw [if_pos (Nat.le_refl _),KH (rx s) ha]
  | false =>
   have hnot:∀ a,rv 7 (nb s)≠some (a,i):=fun a ha=>by
    have:=hw.2 ⟨a,ha⟩
    rw [hq] at this
    cases this
   rw [aL]
   refine (ih (i+1) n (by omega) (by omega) (by omega)).trans ?_
   cases q:rv 7 (nb s) with
   | none=>rfl
   | some p =>
    obtain ⟨a,m'⟩:=p
    have:m'≠i:=fun e=>hnot a (by rw [q,e])
    simp only []
    by_cases c:i≤m'
    · rw [if_pos c,if_pos (by omega)]
    · rw [if_neg c,if_neg (by omega)]
theorem fV {k:Nat} (hk:2 ^ 50≤k) (s:ByteArray):ag.f k s=some (Dh (rv 7 (nb s))):=by
 unfold ag.f ag.t
 refine (zp hk 7 1 k (by omega) (by omega) (by omega)).trans ?_
 cases q:rv 7 (nb s) with
 | none=>rfl
 | some p =>
  obtain ⟨a,m⟩:=p
  obtain ⟨_,_,_,_,h5,_⟩:=pE 6 (nb s) a m (rx s) q
  simp only [Dh]
  rw [if_pos h5]
theorem oL {k:Nat} (hk:2 ^ 50≤k) {x:Nat} (hx:x<4294967296) (t:ByteArray):bZ.f k (eP x++t) 4=some ((x:Int),(true,())):=by
 have hz:=mC x t
 have st:∀ (q a j:Nat),j<4→a<4294967296→bZ.l0 k (q+1) (eP x++t) 4 (a:Int) (j:Int)=bZ.l0 k q (eP x++t) 4 ((a*256+(nb (eP x++t)).getD j 0:Nat):Int) ((j+1:Nat):Int):=fun q a j hj ha=>by
  have hb:=iy (eP x++t) j
  have hat:=xm (s:=eP x++t) (i:=j) (by omega)
  generalize (nb (eP x++t)).getD j 0=b at *
  have e1:aH (aH ((a:Int)*256)+aH (b:Int))=((a*256+b:Nat):Int):=by
   rw [aD (n:=(a:Int)*256) (by omega) (by omega),aD (n:=(b:Int)) (by omega) (by omega),aD (by omega) (by omega)]
   omega
  have ej:aH ((j:Int)+1)=((j+1:Nat):Int):=by rw [aD (by omega) (by omega)];omega
  simp (disch:=omega) only [bZ.l0,bZ.b0,aP,af,aI,hat,e1,ej]
 unfold bZ.f bZ.t
 rw [na,ae]
 simp only [show decide ((1:Int)≤4∧(4:Int)≤7)=true by decide,fa,aL,aQ (show ¬ (((eP x++t).size:Int)<4) by omega)]
 obtain ⟨q,hq⟩:∃ q,k=q+5:=⟨k-5,by omega⟩
 refine (congrArg (fun z=>bZ.l0 k z (eP x++t) 4 0 0) hq).trans ?_
 refine (st (q+4) 0 0 (by omega) (by omega)).trans ?_
 rw [uR]
 simp only [List.getD_cons_zero,Nat.zero_mul,Nat.zero_add]
 refine (st (q+3) _ 1 (by omega) (by omega)).trans ?_
 rw [uR]
 simp only [List.getD_cons_zero,List.getD_cons_succ]
 refine (st (q+2) _ 2 (by omega) (by omega)).trans ?_
 rw [uR]
 simp only [List.getD_cons_zero,List.getD_cons_succ]
 refine (st (q+1) _ 3 (by omega) (by omega)).trans ?_
 rw [uR]
 simp only [List.getD_cons_zero,List.getD_cons_succ]
 simp only [bZ.l0,bZ.b0,show decide ((((3+1:Nat)):Int)<4)=false by decide,aL]
 congr 3
 omega
theorem oV {k:Nat} (hk:2 ^ 50≤k) {x:Nat} (hx:x<4294967296) (t:ByteArray):bj.f k (eP x++t) 4=some ((x:Int),(true,())):=by
 have hz:=mC x t
 have st:∀ (q a j:Nat),j<4→a<16777216→bj.l0 k (q+1) (eP x++t) (a:Int) 4 (j:Int)=bj.l0 k q (eP x++t) ((a*256+(nb (eP x++t)).getD j 0:Nat):Int) 4 ((j+1:Nat):Int):=fun q a j hj ha=>by
  have hb:=iy (eP x++t) j
  have hat:=xm (s:=eP x++t) (i:=j) (by omega)
  generalize (nb (eP x++t)).getD j 0=b at *
  have e0:aH ((a:Int)*2 ^ min (Int.toNat 8) (IntKind.bits .i64))=((a*256:Nat):Int):=by
   rw [show (2:Int) ^ min (Int.toNat 8) (IntKind.bits .i64)=256 by decide,aD (by omega) (by omega)]
   omega
  have e2:aH (b:Int)=(b:Int):=aD (by omega) (by omega)
  have ej:aH ((j:Int)+1)=((j+1:Nat):Int):=by rw [aD (by omega) (by omega)];omega
  simp (disch:=omega) only [bj.l0,bj.b0,aP,af,aI,hat,e0,e2,ej]
  rw [La (by omega) hb]
 unfold bj.f bj.t
 rw [tJ,ae]
 simp only [show decide ((1:Int)≤4∧(4:Int)≤7)=true by decide,fa,aL,aQ (show ¬ (((eP x++t).size:Int)<4) by omega)]
 obtain ⟨q,hq⟩:∃ q,k=q+5:=⟨k-5,by omega⟩
 refine (congrArg (fun z=>bj.l0 k z (eP x++t) 0 4 0) hq).trans ?_
 refine (st (q+4) 0 0 (by omega) (by omega)).trans ?_
 rw [uR]
 simp only [List.getD_cons_zero,Nat.zero_mul,Nat.zero_add]
 refine (st (q+3) _ 1 (by omega) (by omega)).trans ?_
 rw [uR]
 simp only [List.getD_cons_zero,List.getD_cons_succ]
 refine (st (q+2) _ 2 (by omega) (by omega)).trans ?_
 rw [uR]
 simp only [List.getD_cons_zero,List.getD_cons_succ]
 refine (st (q+1) _ 3 (by omega) (by omega)).trans ?_
 rw [uR]
 simp only [List.getD_cons_zero,List.getD_cons_succ]
 simp only [bj.l0,bj.b0,show decide ((((3+1:Nat)):Int)<4)=false by decide,aL]
 congr 3
 omega
theorem tF (k:Nat) {s:ByteArray} (h:s.size<4):bZ.f k s 4=some (0,(false,())):=by
 unfold bZ.f bZ.t
 rw [na,ae]
 simp only [show decide ((1:Int)≤4∧(4:Int)≤7)=true by decide,fa,aL,aP (show (s.size:Int)<4 by omega),af]
theorem sV (k:Nat) {s:ByteArray} (h:s.size<4):bj.f k s 4=some (0,(false,())):=by
 unfold bj.f bj.t
 rw [tJ,ae]
 simp only [show decide ((1:Int)≤4∧(4:Int)≤7)=true by decide,fa,aL,aP (show (s.size:Int)<4 by omega),af]
def aS (s:ByteArray):ByteArray:=if s.size > 200 then ⟨#[]⟩ else sy (pZ (jB s))++jB s
theorem lC (s:ByteArray):(aS s).size≤211:=by
 unfold aS
 split
 · exact Nat.zero_le _
 · have:=lk s
   rw [ByteArray.size_append,j_];omega
theorem jt {s:ByteArray} (h:s.size≤200):5≤(aS s).size:=by
 unfold aS
 rw [if_neg (by omega),ByteArray.size_append,j_]
 unfold jB
 rw [dZ (by omega),ByteArray.size_append]
 have:=ak s.size
 omega
theorem lH {k:Nat} (hk:2 ^ 50≤k) (s:ByteArray):fI.f k s=some (aS s,()):=by
 unfold fI.f fI.t aS
 by_cases c:s.size > 200
 · rw [aP (show (s.size:Int) > 200 by omega),af,if_pos c]
 · have h1:=bI (s.size:Int)
   have h2:=t8 (gu (s.size:Int)++s)
   rw [aQ (show ¬ (s.size:Int) > 200 by omega),aL,if_neg c]
   unfold jB
   simp (disch:=first | omega | (simp only [ByteArray.size_append,j_];omega)) only [gO hk,ae,dm,sG hk]
   rw [pJ hk h2.1 h2.2,ae,dm (by simp only [ByteArray.size_append,j_];omega)]
theorem zk {k:Nat} (hk:2 ^ 50≤k) (s:ByteArray):jv.f k s=some (aS s,()):=by
 unfold jv.f jv.t aS
 by_cases c:s.size > 200
 · rw [aP (show (s.size:Int) > 200 by omega),af,if_pos c]
 · have h1:=lk s
   have h2:=t8 (jB s)
   rw [aQ (show ¬ (s.size:Int) > 200 by omega),aL,if_neg c]
   simp (disch:=omega) only [m8 hk,ae,xp hk]
   rw [tQ hk h2.1 h2.2,ae,dm (by rw [j_];omega)]
theorem aO (a b:ByteArray):(a++b).size=a.size+b.size:=ByteArray.size_append ..
theorem pa (a b t:ByteArray):ByteArray.extract (a++(b++t)) (a.size+b.size) (a++(b++t)).size=t:=by
 have:=dw (a++b) t
 rw [aO,am] at this
 exact this
theorem LU (a b t:ByteArray):ByteArray.extract (a++(b++t)) a.size (a.size+b.size)=b:=jW (by
 rw [rh,gk,gk,List.take_append,List.take_of_length_le (by rw [cO];omega),cO,show a.size+b.size-a.size=b.size by omega,List.drop_left' (cO a),List.take_left' (cO b)])
theorem t_ (a b:Nat):((a:Int)+(b:Int))=((a+b:Nat):Int):=rfl
theorem nF {k:Nat} (hk:2 ^ 50≤k) {a:Nat} {t:ByteArray} (ha:a<562949953421312) (hs:t.size≤1099511627776):cU.f k (bG a++t)=some ((a:Int),(((bG a).size:Int),())):=by
 have:=ak a
 rw [n5 hk (by rw [aO];omega),pn ha];rfl
theorem mY {k:Nat} (hk:2 ^ 50≤k) {s:ByteArray} (h:rv 7 (nb s)=none) (hs:s.size≤1099511627776):cU.f k s=some (0,(0,())):=by
 rw [n5 hk (by omega),h];rfl
theorem cP {k:Nat} (hk:2 ^ 50≤k) {a:Nat} {t:ByteArray} (ha:a<562949953421312):ag.f k (bG a++t)=some ((a:Int),(((bG a).size:Int),())):=by
 rw [fV hk,pn ha];rfl
theorem jd {k:Nat} (hk:2 ^ 50≤k) {s:ByteArray} (h:rv 7 (nb s)=none):ag.f k s=some (0,(0,())):=by
 rw [fV hk,h];rfl
theorem ix {k:Nat} (hk:2 ^ 50≤k) {a:Nat} {t:ByteArray} (ha:a<562949953421312) (hs:t.size≤1099511627776):ax.f k (bG a++t,(false,()))=some ((t,(false,())),((a:Int),())):=by
 have h1:=ak a
 unfold ax.f ax.t
 rw [nF hk ha hs,ae]
 simp only [aL]
 rw [show (((bG a).size:Int)==0)=false from mP (by omega),aL,cC (by omega) (by rw [aO];omega),nr,dw]
theorem pM {k:Nat} (hk:2 ^ 50≤k) {s:ByteArray} (h:rv 7 (nb s)=none) (hs:s.size≤1099511627776):ax.f k (s,(false,()))=some ((s,(true,())),(0,())):=by
 unfold ax.f ax.t
 rw [mY hk h hs,ae]
 rfl
theorem H3 {k:Nat} (hk:2 ^ 50≤k) {s:ByteArray} (hs:s.size≤1099511627776):ax.f k (s,(true,()))=some ((s,(true,())),(0,())):=by
 unfold ax.f ax.t
 rw [n5 hk (show s.size≤_ by omega),ae]
 rfl
theorem xZ (k:Nat) (u t:ByteArray):au.f k (u++t,(false,())) (u.size:Int)=some ((t,(false,())),(u,())):=by
 unfold au.f au.t
 simp only [aL]
 rw [aQ (by rw [aO];omega),aL,cC (by omega) (by rw [aO];omega),cC (by omega) (by rw [aO];omega),nr,dw,xJ]
theorem yf (k:Nat) {s:ByteArray} {n:Int} (h:n > (s.size:Int)):au.f k (s,(false,())) n=some ((s,(true,())),(⟨#[]⟩,())):=by
 unfold au.f au.t
 simp only [aL]
 rw [aP h,af]
theorem sg (k:Nat) (s:ByteArray) (n:Int):au.f k (s,(true,())) n=some ((s,(true,())),(⟨#[]⟩,())):=by
 unfold au.f au.t
 rfl
theorem n9 (s:ByteArray):(∃ u t,u.size<562949953421312∧s=bG u.size++(u++t))∨rv 7 (nb s)=none∨(∃ a t,a<562949953421312∧s=bG a++t∧t.size<a):=by
 rcases mR s with ⟨a,t,ha,rfl⟩ | h
 · by_cases c:t.size<a
   · exact .inr (.inr ⟨a,t,ha,rfl,c⟩)
   · have e:=xD t (n:=a) (by omega)
     have hz:(ByteArray.extract t 0 a).size=a:=by rw [← cO,jw,List.length_take,cO];omega
     exact .inl ⟨_,_,by rw [hz];exact ha,by rw [hz,← e]⟩
 · exact .inr (.inl h)
theorem ni {k:Nat} (hk:2 ^ 50≤k) {u t:ByteArray} (hu:u.size<562949953421312) (hs:(u++t).size≤1099511627776):ao.f k (bG u.size++(u++t),(false,()))=some ((t,(false,())),(u,())):=by
 unfold ao.f ao.t
 rw [ix hk hu hs,ae]
 simp only []
 rw [xZ,ae]
theorem xg {k:Nat} (hk:2 ^ 50≤k) {s:ByteArray} (hs:s.size≤1099511627776):ao.f k (s,(true,()))=some ((s,(true,())),(⟨#[]⟩,())):=by
 unfold ao.f ao.t
 rw [H3 hk hs,ae]
 simp only []
 rw [sg,ae]
theorem wO {k:Nat} (hk:2 ^ 50≤k) {s:ByteArray} (hs:s.size≤1099511627776) (h:rv 7 (nb s)=none∨(∃ a t,a<562949953421312∧s=bG a++t∧t.size<a)):∃ s',s'.size≤1099511627776∧ao.f k (s,(false,()))=some ((s',(true,())),(⟨#[]⟩,())):=by
 unfold ao.f ao.t
 rcases h with h | ⟨a,t,ha,rfl,ht⟩
 · refine ⟨s,hs,?_⟩
   rw [pM hk h hs,ae]
   simp only []
   rw [sg,ae]
 · have:=ak a
   rw [aO] at hs
   refine ⟨t,by omega,?_⟩
   rw [ix hk ha (by omega),ae]
   simp only []
   rw [yf k (by omega),ae]
theorem ui {k:Nat} (hk:2 ^ 50≤k) {u t:ByteArray} (hu:u.size<562949953421312) (hs:(u++t).size≤1099511627776):cL.f k (bG u.size++(u++t))=some (u,(t,(true,()))):=by
 have h1:=ak u.size
 have h2:(bG u.size++(u++t)).size=(bG u.size).size+(u.size+t.size):=by rw [aO,aO]
 rw [aO] at hs
 unfold cL.f cL.t
 rw [cP hk hu,ae]
 simp only []
 rw [show (((bG u.size).size:Int)==0)=false from mP (by omega),aL,aD (by omega) (by omega),aQ (by omega),aL,t_,aD (by omega) (by omega),
  tG (by omega) (by omega) (by omega),cC (by omega) (by omega),nr,nr,LU,pa]
theorem xr {k:Nat} (hk:2 ^ 50≤k) {s:ByteArray} (hs:s.size≤1099511627776) (h:rv 7 (nb s)=none∨(∃ a t,a<562949953421312∧s=bG a++t∧t.size<a)):cL.f k s=some (⟨#[]⟩,(⟨#[]⟩,(false,()))):=by
 unfold cL.f cL.t
 rcases h with h | ⟨a,t,ha,rfl,ht⟩
 · rw [jd hk h,ae];rfl
 · have:=ak a
   rw [aO] at hs
   rw [cP hk ha,ae]
   simp only []
   rw [show (((bG a).size:Int)==0)=false from mP (by omega),aL,aD (by rw [aO];omega) (by rw [aO];omega),aP (by rw [aO];omega),af]
section
open Classical
variable {α:Type}
noncomputable def nv (ok:α→Prop) (shw:α→ByteArray) (z:α) (s:ByteArray):α × Bool:=if h:∃ r,ok r∧shw r=s then (h.choose,true) else (z,false)
theorem AG {ok:α→Prop} {shw:α→ByteArray} {z:α} {s:ByteArray} {r:α} (h:nv ok shw z s=(r,true)):ok r∧shw r=s:=by
 unfold nv at h
 split at h
 · rename_i q
   obtain rfl:=(Prod.mk.inj h).1
   exact q.choose_spec
 · cases (Prod.mk.inj h).2
theorem Et {ok:α→Prop} {shw:α→ByteArray} {z:α} {s:ByteArray} (h:(nv ok shw z s).2=false):nv ok shw z s=(z,false):=by
 unfold nv at h ⊢
 split
 · rename_i q;rw [dif_pos q] at h;cases h
 · rfl
theorem jU (ok:α→Prop) (shw:α→ByteArray) (z:α) (s:ByteArray):(∃ r,ok r∧shw r=s∧nv ok shw z s=(r,true))∨nv ok shw z s=(z,false):=by
 cases h:(nv ok shw z s).2 with
 | false=>exact .inr (Et h)
 | true =>
  have e:nv ok shw z s=((nv ok shw z s).1,true):=by rw [← h]
  exact .inl ⟨_,(AG e).1,(AG e).2,e⟩
theorem qj {ok:α→Prop} {shw:α→ByteArray} {z:α} {s:ByteArray} {f:Option (α × Bool × Unit)} (h1:∀ r,ok r→shw r=s→f=some (r,(true,())))
 (h2:(∃ r,ok r∧shw r=s∧f=some (r,(true,())))∨f=some (z,(false,()))):f=some ((nv ok shw z s).1,((nv ok shw z s).2,())):=by
 rcases jU ok shw z s with ⟨r,a,b,e⟩ | e
 · rw [e,h1 r a b]
 · rcases h2 with ⟨r,a,b,_⟩ | h2
   · unfold nv at e
     rw [dif_pos ⟨r,a,b⟩] at e
     cases (Prod.mk.inj e).2
   · rw [e,h2]
theorem FC {ok:α→Prop} {shw:α→ByteArray} {z:α} {r:α} (hi:∀ a b,ok a→ok b→shw a=shw b→a=b) (h:ok r):nv ok shw z (shw r)=(r,true):=by
 rcases jU ok shw z (shw r) with ⟨q,a,b,e⟩ | e
 · rw [e,hi q r a h b]
 · unfold nv at e
   rw [dif_pos ⟨r,h,rfl⟩] at e
   cases (Prod.mk.inj e).2
end
abbrev rr:Ty.d bB:=(0,(0,(ByteArray.empty,(ByteArray.empty,(0,(0,()))))))
theorem ye {a:Ty.d bB} (h:bv a=true) :
 (∃ (b:Nat) (kd:Nat),(kd=1∨kd=4)∧b≤1000000∧a=((kd:Int),((b:Int),(a.2.2.1,(a.2.2.2.1,(0,(0,()))))))∧a.2.2.1.size≤8∧a.2.2.2.1.size≤24 ∧
  aG a=bG kd++(bG b++(bG a.2.2.1.size++(a.2.2.1++(bG a.2.2.2.1.size++(a.2.2.2.1++⟨#[]⟩)))))) ∨
 (∃ (b:Nat),b≤1000000∧a=(2,((b:Int),(a.2.2.1,(ByteArray.empty,(0,(0,()))))))∧a.2.2.1.size≤8∧aG a=bG 2++(bG b++(bG a.2.2.1.size++(a.2.2.1++⟨#[]⟩)))) ∨
 (∃ (b kd c x:Nat),(kd=3∨kd=5)∧b≤1000000∧c≤20∧x<4294967296∧a=((kd:Int),((b:Int),(ByteArray.empty,(ByteArray.empty,((c:Int),((x:Int),()))))))∧aG a=bG kd++(bG b++(bG c++(eP x++⟨#[]⟩)))):=by
 have hh:=h
 obtain ⟨kd,b,key,val,c,x,u⟩:=a
 change Int at kd b c x
 change ByteArray at key val
 rcases vQ h with ⟨hc,h⟩ | ⟨hc,h⟩ | ⟨hc,h⟩
 · obtain ⟨z1,z2,z3,z4,z5,z6,z7⟩:=h
   subst z4;subst z5
   obtain ⟨b,rfl⟩:=Int.eq_ofNat_of_zero_le (show 0≤b by omega)
   left
   refine ⟨b,kd.toNat,by omega,by omega,?_,z2,z3,?_⟩
   · rw [show ((kd.toNat:Nat):Int)=kd by omega]
   · unfold aG
     rw [if_pos hh,if_pos hc]
     simp only [jB]
     rw [dZ (by omega),dZ (by omega),dZ (by omega),jS,am,show gu kd=bG kd.toNat by rw [← dZ (show kd.toNat<562949953421312 by omega)];congr 1;omega]
 · obtain ⟨z1,z2,z3,z4,z5,z6,z7⟩:=h
   subst z3;subst z4;subst z5;subst hc
   obtain ⟨b,rfl⟩:=Int.eq_ofNat_of_zero_le (show 0≤b by omega)
   right;left
   refine ⟨b,by omega,rfl,z2,?_⟩
   unfold aG
   rw [if_pos hh,if_neg (show ¬ ((2:Int)=1∨(2:Int)=4) by decide),if_pos rfl]
   simp only [jB]
   rw [dZ (by omega),dZ (by omega),jS]
   rfl
 · obtain ⟨z1,z2,z3,z4,z5,z6,z7,z8⟩:=h
   subst z1;subst z2
   obtain ⟨b,rfl⟩:=Int.eq_ofNat_of_zero_le (show 0≤b by omega)
   obtain ⟨c,rfl⟩:=Int.eq_ofNat_of_zero_le (show 0≤c by omega)
   obtain ⟨x,rfl⟩:=Int.eq_ofNat_of_zero_le (show 0≤x by omega)
   right;right
   refine ⟨b,kd.toNat,c,x,by omega,by omega,by omega,by omega,?_,?_⟩
   · rw [show ((kd.toNat:Nat):Int)=kd by omega];rfl
   · unfold aG
     rw [if_pos hh,if_neg (show ¬ (kd=1∨kd=4) by omega),if_neg (show ¬ kd=2 by omega)]
     simp only []
     rw [dZ (by omega),dZ (by omega),jS,show gu kd=bG kd.toNat by rw [← dZ (show kd.toNat<562949953421312 by omega)];congr 1;omega]
     rfl
theorem Du {a:Ty.d bB} {s:ByteArray} (h:aG a=s) (hs:s≠⟨#[]⟩):bv a=true:=by
 cases c:bv a with
 | true=>rfl
 | false=>unfold aG at h;rw [c] at h;exact absurd h.symm hs
theorem Jm {kd:Nat} (h:kd≠1):((kd:Int)==1)=false:=mP (by omega)
theorem Jk {kd:Nat} (h:kd≠2):((kd:Int)==2)=false:=mP (by omega)
theorem JU {kd:Nat} (h:kd≠4):((kd:Int)==4)=false:=mP (by omega)
theorem KP:(((1:Nat):Int)==1)=true:=rfl
theorem KF:(((4:Nat):Int)==1)=false:=rfl
theorem Jy:(((4:Nat):Int)==4)=true:=rfl
theorem Kd:(((2:Nat):Int)==1)=false:=rfl
theorem Ju:(((2:Nat):Int)==2)=true:=rfl
theorem Ki:(((2:Nat):Int)==4)=false:=rfl
theorem Ln:((0:Int)==1)=false:=rfl
theorem Lm:((0:Int)==4)=false:=rfl
theorem Lk:((0:Int)==2)=false:=rfl
theorem e0:(⟨#[]⟩:ByteArray).size=0:=rfl
theorem H8 {kd b:Nat} {key val:ByteArray} (hb:b<562949953421312) (hc:kd=1∨kd=4) (h:bv ((kd:Int),((b:Int),(key,(val,(0,(0,()))))))=true) :
 aG ((kd:Int),((b:Int),(key,(val,(0,(0,()))))))=bG kd++(bG b++(bG key.size++(key++(bG val.size++(val++⟨#[]⟩))))):=by
 rcases vQ h with ⟨_,h1⟩ | ⟨h0,_⟩ | ⟨h0,_⟩
 · unfold aG
   rw [if_pos h,if_pos (show ((kd:Int)=1∨(kd:Int)=4) by omega)]
   simp only [jB]
   rw [dZ (by omega),dZ hb,dZ (by omega),dZ (by omega),jS,am]
 · omega
 · omega
theorem Gz {b:Nat} {key:ByteArray} (hb:b<562949953421312) (h:bv (((2:Nat):Int),((b:Int),(key,(ByteArray.empty,(0,(0,()))))))=true) :
 aG (((2:Nat):Int),((b:Int),(key,(ByteArray.empty,(0,(0,()))))))=bG 2++(bG b++(bG key.size++(key++⟨#[]⟩))):=by
 rcases vQ h with ⟨h0,_⟩ | ⟨_,h1⟩ | ⟨h0,_⟩
 · omega
 · unfold aG
   rw [if_pos h,if_neg (show ¬ (((2:Nat):Int)=1∨((2:Nat):Int)=4) by decide),if_pos (show ((2:Nat):Int)=2 from rfl)]
   simp only [jB]
   rw [dZ (by omega),dZ hb,dZ (by omega),jS]
 · omega
theorem Hj {kd b c x:Nat} (hb:b<562949953421312) (hx:c<562949953421312) (hc:kd≠1∧kd≠2∧kd≠4) (h:bv ((kd:Int),((b:Int),(ByteArray.empty,(ByteArray.empty,((c:Int),((x:Int),()))))))=true) :
 aG ((kd:Int),((b:Int),(ByteArray.empty,(ByteArray.empty,((c:Int),((x:Int),()))))))=bG kd++(bG b++(bG c++(eP x++⟨#[]⟩))):=by
 rcases vQ h with ⟨h0,_⟩ | ⟨h0,_⟩ | ⟨_,h1⟩
 · omega
 · omega
 · unfold aG
   rw [if_pos h,if_neg (show ¬ ((kd:Int)=1∨(kd:Int)=4) by omega),if_neg (show ¬ (kd:Int)=2 by omega)]
   simp only []
   have hk5:kd≤5:=by omega
   rw [dZ (by omega),dZ hb,dZ hx,jS]
   rfl
theorem oE {k:Nat} (hk:2 ^ 50≤k) {a:Ty.d bB} (h:bv a=true):cV.f k (aG a)=some (a,(true,())):=by
 unfold cV.f cV.t
 rcases ye h with ⟨b,kd,hc,hb,ha,z1,z2,e⟩ | ⟨b,hb,ha,z1,e⟩ | ⟨b,kd,c,x,hc,hb,z1,z2,ha,e⟩
 · rw [e]
   rw [ha] at h
   conv=>rhs;rw [ha]
   have v1:=ak kd
   have v2:=ak b
   have v3:=ak a.2.2.1.size
   have v4:=ak a.2.2.2.1.size
   rcases hc with rfl | rfl
   · simp (disch:=first | omega | (simp only [aO,e0];omega)) only [ix hk,ni hk,ae,af,aL,KP,bT,fa,h9,h]
   · simp (disch:=first | omega | (simp only [aO,e0];omega)) only [ix hk,ni hk,ae,af,aL,KF,Jy,bT,fa,h9,h]
 · rw [e]
   rw [ha] at h
   conv=>rhs;rw [ha]
   have v1:=ak 2
   have v2:=ak b
   have v3:=ak a.2.2.1.size
   simp (disch:=first | omega | (simp only [aO,e0];omega)) only [ix hk,ni hk,ae,af,aL,Kd,Ju,Ki,bT,fa,h9]
   rw [show ((2:Nat):Int)=2 from rfl,h]
   rfl
 · rw [e,ha]
   rw [ha] at h
   have v1:=ak kd
   have v2:=ak b
   have v3:=ak c
   have v4:=m0 x
   have hby:=xZ k (eP x) ⟨#[]⟩
   rw [m0] at hby
   have hrf:=oV hk z2 ⟨#[]⟩
   rw [jS] at hrf
   rw [show (((4:Nat)):Int)=4 from rfl] at hby
   simp (disch:=first | omega | (simp only [aO,e0];omega)) only [ix hk,hby,hrf,ae,af,aL,Jm,Jk,JU,bT,fa,h9,h]
theorem vE {k:Nat} (hk:2 ^ 50≤k) {s:ByteArray} (hs:s.size≤1099511627776) :
 (∃ r,bv r=true∧aG r=s∧cV.f k s=some (r,(true,())))∨cV.f k s=some (rr,(false,())):=by
 have rf0:=sV k (s:=⟨#[]⟩) (by decide)
 unfold cV.f cV.t
 rcases mR s with ⟨kd,t,hkd,rfl⟩ | h0
 case inr =>
  right
  simp (disch:=first | omega | (simp only [aO,e0];omega)) only [pM hk h0,H3 hk,sg k,rf0,ae,af,aL,Ln,Lk,Lm]
 have v1:=ak kd
 rw [aO] at hs
 rcases mR t with ⟨b,t2,hb,rfl⟩ | h1
 case inr =>
  right
  by_cases c1:kd=1
  · subst c1
    simp (disch:=first | omega | (simp only [aO,e0];omega)) only [ix hk,pM hk h1,xg hk,ae,af,aL,KP]
  by_cases c4:kd=4
  · subst c4
    simp (disch:=first | omega | (simp only [aO,e0];omega)) only [ix hk,pM hk h1,xg hk,ae,af,aL,KF,Jy]
  by_cases c2:kd=2
  · subst c2
    simp (disch:=first | omega | (simp only [aO,e0];omega)) only [ix hk,pM hk h1,xg hk,ae,af,aL,Kd,Ki,Ju]
  · simp (disch:=first | omega | (simp only [aO,e0];omega)) only [ix hk,pM hk h1,H3 hk,sg k,rf0,ae,af,aL,Jm c1,Jk c2,JU c4]
 have v2:=ak b
 rw [aO] at hs
 by_cases c2:kd=2
 · subst c2
   rcases n9 t2 with ⟨key,t3,hu,rfl⟩ | bad
   case inr =>
    right
    obtain ⟨s',hs',e⟩:=wO hk (by omega) bad
    simp (disch:=first | omega | (simp only [aO,e0];omega)) only [ix hk,e,ae,af,aL,Kd,Ki,Ju]
   have v3:=ak key.size
   simp only [aO] at hs
   simp (disch:=first | omega | (simp only [aO,e0];omega)) only [ix hk,ni hk,ae,af,aL,Kd,Ki,Ju]
   by_cases c:t3=⟨#[]⟩
   · subst c
     simp only [bT,fa,aL,h9,ae]
     cases hr:bv (((2:Nat):Int),((b:Int),(key,(ByteArray.empty,(0,(0,())))))) with
     | true=>exact .inl ⟨_,hr,Gz hb hr,rfl⟩
     | false=>exact .inr rfl
   · rw [kZ c]
     exact .inr rfl
 by_cases c1:kd=1∨kd=4
 · have hcc:(bif ((kd:Int)==1) then true else ((kd:Int)==4))=true:=by rcases c1 with rfl | rfl <;> rfl
   rcases n9 t2 with ⟨key,t3,hu,rfl⟩ | bad
   case inr =>
    right
    obtain ⟨s',hs',e⟩:=wO hk (by omega) bad
    rcases c1 with rfl | rfl
    · simp (disch:=first | omega | (simp only [aO,e0];omega)) only [ix hk,e,xg hk hs',ae,af,aL,KP]
    · simp (disch:=first | omega | (simp only [aO,e0];omega)) only [ix hk,e,xg hk hs',ae,af,aL,KF,Jy]
   have v3:=ak key.size
   simp only [aO] at hs
   rcases n9 t3 with ⟨val,t4,hv,rfl⟩ | bad
   case inr =>
    right
    obtain ⟨s',hs',e⟩:=wO hk (by omega) bad
    rcases c1 with rfl | rfl
    · simp (disch:=first | omega | (simp only [aO,e0];omega)) only [ix hk,ni hk,e,ae,af,aL,KP]
    · simp (disch:=first | omega | (simp only [aO,e0];omega)) only [ix hk,ni hk,e,ae,af,aL,KF,Jy]
   have v4:=ak val.size
   simp only [aO] at hs
   have fin:(bif !seq t4 ⟨#[]⟩ then some (rr,(false,())) else bif !bv ((kd:Int),((b:Int),(key,(val,(0,(0,())))))) then some (rr,(false,())) else some (((kd:Int),((b:Int),(key,(val,(0,(0,())))))),(true,())))=cV.t k (bG kd++(bG b++(bG key.size++(key++(bG val.size++(val++t4)))))):=by
    unfold cV.t
    rcases c1 with rfl | rfl
    · simp (disch:=first | omega | (simp only [aO,e0];omega)) only [ix hk,ni hk,ae,af,aL,KP,h9]
    · simp (disch:=first | omega | (simp only [aO,e0];omega)) only [ix hk,ni hk,ae,af,aL,KF,Jy,h9]
   change (∃ r,bv r=true∧aG r=_∧cV.t k _=some (r,(true,())))∨cV.t k _=some (rr,(false,()))
   rw [← fin]
   by_cases c:t4=⟨#[]⟩
   · subst c
     simp only [bT,fa,aL]
     cases hr:bv ((kd:Int),((b:Int),(key,(val,(0,(0,())))))) with
     | true=>exact .inl ⟨_,hr,H8 hb c1 hr,rfl⟩
     | false=>exact .inr rfl
   · rw [kZ c]
     exact .inr rfl
 have d1:kd≠1:=fun q=>c1 (.inl q)
 have d4:kd≠4:=fun q=>c1 (.inr q)
 rcases mR t2 with ⟨c,t3,hc,rfl⟩ | h2
 case inr =>
  right
  simp (disch:=first | omega | (simp only [aO,e0];omega)) only [ix hk,pM hk h2,sg k,rf0,ae,af,aL,Jm d1,Jk c2,JU d4]
 have v3:=ak c
 rw [aO] at hs
 rcases vp t3 with ⟨x,t4,hx,rfl⟩ | h3
 case inr =>
  right
  have e:=yf k (s:=t3) (n:=4) (by omega)
  simp (disch:=first | omega | (simp only [aO,e0];omega)) only [ix hk,e,rf0,ae,af,aL,Jm d1,Jk c2,JU d4]
 rw [mC] at hs
 have hby:=xZ k (eP x) t4
 rw [m0,show (((4:Nat)):Int)=4 from rfl] at hby
 have hrf:=oV hk hx ⟨#[]⟩
 rw [jS] at hrf
 simp (disch:=first | omega | (simp only [aO,e0,m0];omega)) only [ix hk,hby,hrf,ae,aL,Jm d1,Jk c2,JU d4,h9]
 by_cases cc:t4=⟨#[]⟩
 · subst cc
   simp only [bT,fa,aL]
   cases hr:bv ((kd:Int),((b:Int),(ByteArray.empty,(ByteArray.empty,((c:Int),((x:Int),())))))) with
   | true=>exact .inl ⟨_,hr,Hj hb hc ⟨d1,c2,d4⟩ hr,rfl⟩
   | false=>exact .inr rfl
 · rw [kZ cc]
   exact .inr rfl
theorem jj (a b:Nat):Int.toNat ((a:Int)+(b:Int))=a+b:=by omega
theorem vz (a:Nat):(((bG a).size:Int)==0)=false:=mP (by have:=ak a;omega)
theorem o6 (a:Nat) (t:ByteArray):bG a++t≠⟨#[]⟩:=fun h=>by
 have:=congrArg ByteArray.size h
 rw [aO,e0] at this
 have:=ak a
 omega
theorem oa {r:Ty.d bB} {s:ByteArray} (hs:s≠⟨#[]⟩) :
 (∃ r',bv r'=true∧aG r'=s∧(bif !seq (aG r) s then some (rr,(false,())) else bif seq s ⟨#[]⟩ then some (rr,(false,())) else some (r,(true,())))=some (r',(true,()))) ∨
 (bif !seq (aG r) s then some (rr,(false,())) else bif seq s ⟨#[]⟩ then some (rr,(false,())) else some (r,(true,())))=some (rr,(false,())):=by
 by_cases c:aG r=s
 · exact .inl ⟨r,Du c hs,c,by rw [IM c,kZ hs];rfl⟩
 · rw [kZ c];exact .inr rfl
theorem yT {k:Nat} (hk:2 ^ 50≤k) {a:Ty.d bB} (h:bv a=true):dl.f k (aG a)=some (a,(true,())):=by
 unfold dl.f dl.t
 rcases ye h with ⟨b,kd,hc,hb,ha,z1,z2,e⟩ | ⟨b,hb,ha,z1,e⟩ | ⟨b,kd,c,x,hc,hb,z1,z2,ha,e⟩
 · have hs:aG ((kd:Int),((b:Int),(a.2.2.1,(a.2.2.2.1,(0,(0,()))))))=bG kd++(bG b++(bG a.2.2.1.size++(a.2.2.1++(bG a.2.2.2.1.size++(a.2.2.2.1++⟨#[]⟩))))):=by rw [← ha];exact e
   rw [e]
   conv=>rhs;rw [ha]
   have v1:=ak kd
   have v2:=ak b
   have v3:=ak a.2.2.1.size
   have v4:=ak a.2.2.2.1.size
   rcases hc with rfl | rfl
   · simp (disch:=first | omega | (simp only [aO,e0];omega)) only [cP hk,ui hk,ae,nr,dw,vz,af,aL,aD,cC,jj,pa,KP,dG hk,hs,bT,fa,kZ (o6 _ _)]
   · simp (disch:=first | omega | (simp only [aO,e0];omega)) only [cP hk,ui hk,ae,nr,dw,vz,af,aL,aD,cC,jj,pa,KF,Jy,dG hk,hs,bT,fa,kZ (o6 _ _)]
 · have hs:aG (((2:Nat):Int),((b:Int),(a.2.2.1,(ByteArray.empty,(0,(0,()))))))=bG 2++(bG b++(bG a.2.2.1.size++(a.2.2.1++⟨#[]⟩))):=by rw [show ((2:Nat):Int)=2 from rfl,← ha];exact e
   rw [e]
   conv=>rhs;rw [ha]
   have v1:=ak 2
   have v2:=ak b
   have v3:=ak a.2.2.1.size
   simp (disch:=first | omega | (simp only [aO,e0];omega)) only [cP hk,ui hk,ae,nr,dw,vz,af,aL,aD,cC,jj,pa,Kd,Ki,Ju,dG hk,hs,bT,fa,kZ (o6 _ _)]
   rfl
 · have hs:aG ((kd:Int),((b:Int),(ByteArray.empty,(ByteArray.empty,((c:Int),((x:Int),()))))))=bG kd++(bG b++(bG c++(eP x++⟨#[]⟩))):=by rw [← ha];exact e
   rw [e,ha]
   have v1:=ak kd
   have v2:=ak b
   have v3:=ak c
   have v4:=m0 x
   simp (disch:=first | omega | (simp only [aO,e0];omega)) only [cP hk,oL hk z2,ae,nr,dw,vz,af,aL,aD,cC,jj,pa,Jm,Jk,JU,dG hk,hs,bT,fa,kZ (o6 _ _)]
theorem vB {k:Nat} (hk:2 ^ 50≤k) {s:ByteArray} (hs:s.size≤1099511627776) :
 (∃ r,bv r=true∧aG r=s∧dl.f k s=some (r,(true,())))∨dl.f k s=some (rr,(false,())):=by
 unfold dl.f dl.t
 rcases mR s with ⟨kd,t,hkd,rfl⟩ | h0
 case inr =>
  right
  rw [jd hk h0,ae]
  simp only []
  rw [cC (by omega) (by omega),fV hk,ae]
  rfl
 have v1:=ak kd
 rw [aO] at hs
 rcases mR t with ⟨b,t2,hb,rfl⟩ | h1
 case inr =>
  right
  simp (disch:=first | omega | (simp only [aO,e0];omega)) only [cP hk,jd hk h1,ae,nr,dw,vz,af,aL,aD,cC,show (((0:Int)==0))=true from rfl]
 have v2:=ak b
 rw [aO] at hs
 by_cases c2:kd=2
 · subst c2
   rcases n9 t2 with ⟨key,t3,hu,rfl⟩ | bad
   · simp only [aO] at hs
     simp (disch:=first | omega | (simp only [aO,e0];omega)) only [cP hk,ui hk,ae,nr,dw,vz,af,aL,aD,cC,jj,pa,Kd,Ki,Ju,dG hk]
     exact oa (o6 _ _)
   · have hb5:=xr hk (by omega) bad
     simp (disch:=first | omega | (simp only [aO,e0];omega)) only [cP hk,hb5,ae,nr,dw,vz,af,aL,aD,cC,jj,pa,Kd,Ki,Ju,dG hk]
     exact oa (o6 _ _)
 by_cases c1:kd=1∨kd=4
 · have em:cL.f k ⟨#[]⟩=some (⟨#[]⟩,(⟨#[]⟩,(false,()))):=xr hk (by decide) (.inl rfl)
   obtain ⟨u,l,bb,hl,e⟩:∃ u l bb,l.size≤1099511627776∧cL.f k t2=some (u,(l,(bb,()))):=by
    rcases n9 t2 with ⟨key,t3,hu,rfl⟩ | bad
    · simp only [aO] at hs
      exact ⟨_,_,_,by omega,ui hk hu (by simp only [aO];omega)⟩
    · exact ⟨_,_,_,by decide,xr hk (by omega) bad⟩
   obtain ⟨u2,l2,bb2,e2⟩:∃ u l' bb,cL.f k l=some (u,(l',(bb,()))):=by
    rcases n9 l with ⟨key,t3,hu,rfl⟩ | bad
    · exact ⟨_,_,_,ui hk hu (by simp only [aO] at hl ⊢;omega)⟩
    · exact ⟨_,_,_,xr hk hl bad⟩
   rcases c1 with rfl | rfl
   · simp (disch:=first | omega | (simp only [aO,e0];omega)) only [cP hk,e,e2,ae,nr,dw,vz,af,aL,aD,cC,jj,pa,KP,dG hk]
     exact oa (o6 _ _)
   · simp (disch:=first | omega | (simp only [aO,e0];omega)) only [cP hk,e,e2,ae,nr,dw,vz,af,aL,aD,cC,jj,pa,KF,Jy,dG hk]
     exact oa (o6 _ _)
 have d1:kd≠1:=fun q=>c1 (.inl q)
 have d4:kd≠4:=fun q=>c1 (.inr q)
 have rf:∀ u:ByteArray,∃ z zb,bZ.f k u 4=some (z,(zb,())):=fun u=>by
  rcases vp u with ⟨x,t,hx,rfl⟩ | q
  · exact ⟨_,_,oL hk hx t⟩
  · exact ⟨_,_,tF k q⟩
 rcases mR t2 with ⟨c,t3,hc,rfl⟩ | h2
 · have v3:=ak c
   rw [aO] at hs
   obtain ⟨z,zb,e⟩:=rf t3
   simp (disch:=first | omega | (simp only [aO,e0];omega)) only [cP hk,e,ae,nr,dw,vz,af,aL,aD,cC,jj,pa,Jm d1,Jk c2,JU d4,dG hk]
   exact oa (o6 _ _)
 · obtain ⟨z,zb,e⟩:=rf (ByteArray.extract t2 (Int.toNat 0) t2.size)
   simp (disch:=first | omega | (simp only [aO,e0];omega)) only [cP hk,jd hk h2,e,ae,nr,dw,vz,af,aL,aD,cC,jj,pa,Jm d1,Jk c2,JU d4,dG hk]
   exact oa (o6 _ _)
noncomputable def gM (s:ByteArray):Ty.d bB × Bool:=nv (fun r=>bv r=true) aG rr s
theorem pm {k:Nat} (hk:2 ^ 50≤k) {s:ByteArray} (hs:s.size≤1099511627776):cV.f k s=some ((gM s).1,((gM s).2,())) :=
 qj (fun r h1 h2=>by rw [← h2];exact oE hk h1) (vE hk hs)
theorem qP {k:Nat} (hk:2 ^ 50≤k) {s:ByteArray} (hs:s.size≤1099511627776):dl.f k s=some ((gM s).1,((gM s).2,())) :=
 qj (fun r h1 h2=>by rw [← h2];exact yT hk h1) (vB hk hs)
theorem Bi {a b:Ty.d bB} (ha:bv a=true) (hb:bv b=true) (h:aG a=aG b):a=b:=by
 have h1:=oE (k:=2 ^ 50) (Nat.le_refl _) ha
 rw [h,oE (Nat.le_refl _) hb] at h1
 exact (Prod.mk.inj (Option.some.inj h1)).1.symm
theorem tK {a:Ty.d bB} (h:bv a=true):gM (aG a)=(a,true):=FC (fun _ _ ha hb=>Bi ha hb) h
theorem vt {s:ByteArray} {r:Ty.d bB} (h:gM s=(r,true)):bv r=true∧aG r=s:=AG h
theorem pD {t:ByteArray} (h:t.size≤200):∃ x,x<4294967296∧aS t=eP x++(bG t.size++t):=by
 have:=t8 (jB t)
 refine ⟨(pZ (jB t)).toNat,by omega,?_⟩
 unfold aS sy
 rw [if_neg (by omega)]
 unfold jB
 rw [dZ (by omega)]
theorem Ff {t u s r:ByteArray} (ht:t.size≤200) (hu:u.size≤200) (h:aS t++s=aS u++r):t=u∧s=r:=by
 obtain ⟨x,hx,e⟩:=pD ht
 obtain ⟨y,hy,f⟩:=pD hu
 rw [e,f,am,am,am,am] at h
 have h2:=(rA h rfl).2
 obtain ⟨h3,h4⟩:=y_ (by omega) (by omega) h2
 exact rA h4 h3
theorem yp (x:Nat) (u:ByteArray):ByteArray.extract (eP x++u) 4 (eP x++u).size=u:=dw (eP x) u
theorem L9 (x:Nat) (v t r:ByteArray):ByteArray.extract (eP x++(v++(t++r))) (4+v.size) (4+v.size+t.size)=t:=by
 have:=LU (eP x++v) t r
 rw [aO,m0,am] at this
 exact this
theorem Je (x:Nat) (v t r:ByteArray):ByteArray.extract (eP x++(v++(t++r))) 0 (4+v.size+t.size)=eP x++(v++t):=by
 have:=xJ (eP x++(v++t)) r
 rw [aO,aO,m0,am,am,← Nat.add_assoc] at this
 exact this
theorem c4 (a:Nat):(4:Int)+(a:Int)=((4+a:Nat):Int):=rfl
theorem xX {k:Nat} (hk:2 ^ 50≤k) {x:Nat} {t r:ByteArray} (ht:t.size≤200) (hr:t.size+r.size≤1099511627776) :
 eH.f k (eP x++(bG t.size++(t++r)))=bif !seq (aS t) (eP x++(bG t.size++t)) then some (⟨#[]⟩,(0,())) else some (t,(((4+(bG t.size).size+t.size:Nat):Int),())):=by
 have v1:=ak t.size
 have z1:(eP x++(bG t.size++(t++r))).size=4+((bG t.size).size+(t.size+r.size)):=by rw [mC,aO,aO]
 unfold eH.f eH.t
 rw [aQ (by omega),aL,cC (by omega) (by omega),yp,nF hk (by omega) (by rw [aO];omega),ae]
 simp only [vz,aL]
 rw [aQ (by omega),aL,aD (n:=((eP x++(bG t.size++(t++r))).size:Int)-4) (by omega) (by omega),aD (n:=((eP x++(bG t.size++(t++r))).size:Int)-4-_) (by omega) (by omega),aQ (by omega),aL,
  c4,aD (by omega) (by omega),t_,aD (by omega) (by omega),tG (by omega) (by omega) (by omega),nr,nr,L9,zk hk,ae,cC (by omega) (by omega),Je]
theorem x_ {k:Nat} (hk:2 ^ 50≤k) {x:Nat} {t r:ByteArray} (ht:t.size≤200) (hr:t.size+r.size≤1099511627776) :
 dQ.f k (eP x++(bG t.size++(t++r)))=bif !seq (aS t) (eP x++(bG t.size++t)) then some (⟨#[]⟩,(0,())) else some (t,(((4+(bG t.size).size+t.size:Nat):Int),())):=by
 have v1:=ak t.size
 have z1:(eP x++(bG t.size++(t++r))).size=4+((bG t.size).size+(t.size+r.size)):=by rw [mC,aO,aO]
 unfold dQ.f dQ.t
 rw [aQ (by omega),aL,cC (by omega) (by omega),yp,cP hk (by omega),ae]
 simp only [vz,aL]
 rw [aQ (by omega),aL,aD (n:=((eP x++(bG t.size++(t++r))).size:Int)-4) (by omega) (by omega),aD (n:=((eP x++(bG t.size++(t++r))).size:Int)-4-_) (by omega) (by omega),aQ (by omega),aL,
  c4,aD (by omega) (by omega),t_,aD (by omega) (by omega),tG (by omega) (by omega) (by omega),nr,nr,L9,lH hk,cC (by omega) (by omega),ae,Je,
  show seq (eP x++(bG t.size++t)) (aS t)=seq (aS t) (eP x++(bG t.size++t)) by rw [EW,EW];exact decide_eq_decide.2 ⟨Eq.symm,Eq.symm⟩]
theorem HC (s:ByteArray) (hs:s.size≤1099511627776):(∃ x t r,x<4294967296∧t.size≤200∧t.size+r.size≤1099511627776∧s=eP x++(bG t.size++(t++r)))∨s.size<5∨(∃ x u,x<4294967296∧s=eP x++u∧1≤u.size∧rv 7 (nb u)=none) ∨
 (∃ x a u,x<4294967296∧a<562949953421312∧s=eP x++(bG a++u)∧(200<a∨u.size<a)):=by
 rcases vp s with ⟨x,u,hx,rfl⟩ | h
 · rw [mC] at hs
   rcases mR u with ⟨a,v,ha,rfl⟩ | h
   · rw [aO] at hs
     by_cases c:200<a∨v.size<a
     · exact .inr (.inr (.inr ⟨x,a,v,hx,ha,rfl,c⟩))
     · left
       have e:=xD v (n:=a) (by omega)
       have hz:(ByteArray.extract v 0 a).size=a:=by rw [← cO,jw,List.length_take,cO];omega
       refine ⟨x,ByteArray.extract v 0 a,ByteArray.extract v a v.size,hx,by omega,?_,by rw [hz,← e]⟩
       have:=congrArg ByteArray.size e
       rw [aO] at this
       omega
   · by_cases c:1≤u.size
     · exact .inr (.inr (.inl ⟨x,u,hx,rfl,c,h⟩))
     · exact .inr (.inl (by rw [mC];omega))
 · exact .inr (.inl (by omega))
theorem v8 {k:Nat} (hk:2 ^ 50≤k) {s:ByteArray} (hs:s.size≤1099511627776) (h:s.size<5∨(∃ x u,x<4294967296∧s=eP x++u∧1≤u.size∧rv 7 (nb u)=none) ∨
 (∃ x a u,x<4294967296∧a<562949953421312∧s=eP x++(bG a++u)∧(200<a∨u.size<a))):eH.f k s=some (⟨#[]⟩,(0,())):=by
 unfold eH.f eH.t
 rcases h with h | ⟨x,u,hx,rfl,hu,h⟩ | ⟨x,a,u,hx,ha,rfl,h⟩
 · by_cases c:s.size<4
   · rw [aP (by omega),af]
   · have e:ByteArray.extract s 4 s.size=⟨#[]⟩:=jW (by rw [gf,List.drop_eq_nil_of_le (by rw [cO];omega)];rfl)
     rw [aQ (by omega),aL,cC (by omega) (by omega),e,mY hk rfl (by decide),ae]
     rfl
 · rw [mC] at hs
   rw [aQ (by rw [mC];omega),aL,cC (by omega) (by rw [mC];omega),yp,mY hk h (by omega),ae]
   rfl
 · have v1:=ak a
   have z1:(eP x++(bG a++u)).size=4+((bG a).size+u.size):=by rw [mC,aO]
   rw [aQ (by omega),aL,cC (by omega) (by omega),yp,nF hk ha (by omega),ae]
   simp only [vz,aL]
   by_cases c:200<a
   · rw [aP (by omega),af]
   · rw [aQ (by omega),aL,aD (n:=((eP x++(bG a++u)).size:Int)-4) (by omega) (by omega),aD (n:=((eP x++(bG a++u)).size:Int)-4-_) (by omega) (by omega),aP (by omega),af]
theorem v_ {k:Nat} (hk:2 ^ 50≤k) {s:ByteArray} (hs:s.size≤1099511627776) (h:s.size<5∨(∃ x u,x<4294967296∧s=eP x++u∧1≤u.size∧rv 7 (nb u)=none) ∨
 (∃ x a u,x<4294967296∧a<562949953421312∧s=eP x++(bG a++u)∧(200<a∨u.size<a))):dQ.f k s=some (⟨#[]⟩,(0,())):=by
 unfold dQ.f dQ.t
 rcases h with h | ⟨x,u,hx,rfl,hu,h⟩ | ⟨x,a,u,hx,ha,rfl,h⟩
 · rw [aP (by omega),af]
 · rw [mC] at hs
   rw [aQ (by rw [mC];omega),aL,cC (by omega) (by rw [mC];omega),yp,jd hk h,ae]
   rfl
 · have v1:=ak a
   have z1:(eP x++(bG a++u)).size=4+((bG a).size+u.size):=by rw [mC,aO]
   rw [aQ (by omega),aL,cC (by omega) (by omega),yp,cP hk ha,ae]
   simp only [vz,aL]
   by_cases c:200<a
   · rw [aP (by omega),af]
   · rw [aQ (by omega),aL,aD (n:=((eP x++(bG a++u)).size:Int)-4) (by omega) (by omega),aD (n:=((eP x++(bG a++u)).size:Int)-4-_) (by omega) (by omega),aP (by omega),af]
section
open Classical
noncomputable def fv (s:ByteArray):ByteArray × Int:=if h:∃ t r,t.size≤200∧s=aS t++r then (h.choose,((aS h.choose).size:Int)) else (⟨#[]⟩,0)
theorem mo {t:ByteArray} (r:ByteArray) (h:t.size≤200):fv (aS t++r)=(t,((aS t).size:Int)):=by
 have q:∃ u v,u.size≤200∧aS t++r=aS u++v:=⟨t,r,h,rfl⟩
 unfold fv
 rw [dif_pos q]
 obtain ⟨v,h1,h2⟩:=q.choose_spec
 have:=(Ff h h1 h2).1
 rw [← this]
theorem mm (s:ByteArray):(∃ t r,t.size≤200∧s=aS t++r∧fv s=(t,((aS t).size:Int)))∨(fv s=(⟨#[]⟩,0)∧∀ t r,t.size≤200→s≠aS t++r):=by
 by_cases q:∃ t r,t.size≤200∧s=aS t++r
 · obtain ⟨t,r,h,rfl⟩:=q
   exact .inl ⟨t,r,h,rfl,mo r h⟩
 · right
   refine ⟨?_,fun t r h e=>q ⟨t,r,h,e⟩⟩
   unfold fv
   rw [dif_neg q]
end
theorem Jn {k:Nat} {f:ByteArray→Option (ByteArray × Int × Unit)} (h1:∀ x t r,x<4294967296→t.size≤200→t.size+r.size≤1099511627776→f (eP x++(bG t.size++(t++r)))=bif !seq (aS t) (eP x++(bG t.size++t)) then some (⟨#[]⟩,(0,())) else some (t,(((4+(bG t.size).size+t.size:Nat):Int),())))
 (h2:∀ s,s.size≤1099511627776→(s.size<5∨(∃ x u,x<4294967296∧s=eP x++u∧1≤u.size∧rv 7 (nb u)=none)∨(∃ x a u,x<4294967296∧a<562949953421312∧s=eP x++(bG a++u)∧(200<a∨u.size<a)))→f s=some (⟨#[]⟩,(0,())))
 {s:ByteArray} (hs:s.size≤1099511627776):f s=some ((fv s).1,((fv s).2,())):=by
 rcases HC s hs with ⟨x,t,r,hx,ht,hr,rfl⟩ | h
 · rw [h1 x t r hx ht hr]
   by_cases c:aS t=eP x++(bG t.size++t)
   · have e:eP x++(bG t.size++(t++r))=aS t++r:=by rw [c,am,am]
     rw [IM c,e,mo r ht,c,mC,aO,Nat.add_assoc]
     rfl
   · rw [kZ c]
     rcases mm (eP x++(bG t.size++(t++r))) with ⟨t',r',ht',e,_⟩ | ⟨e,_⟩
     · exfalso
       obtain ⟨y,hy,f'⟩:=pD ht'
       rw [f',am,am] at e
       have h3:=rA e rfl
       obtain ⟨h4,h5⟩:=y_ (by omega) (by omega) h3.2
       have h6:=rA h5 h4
       apply c
       rw [h6.1,f',h3.1]
     · rw [e];rfl
 · rw [h2 s hs h]
   rcases mm s with ⟨t',r',ht',e,_⟩ | ⟨e,_⟩
   · exfalso
     obtain ⟨y,hy,f'⟩:=pD ht'
     have hp:=jt ht'
     rw [f',am,am] at e
     rcases h with h | ⟨x,u,hx,e2,hu,h⟩ | ⟨x,a,u,hx,ha,e2,h⟩
     · rw [e,mC,aO] at h
       have:=ak t'.size
       omega
     · rw [e2] at e
       rw [(rA e rfl).2,pn (by omega)] at h
       cases h
     · rw [e2] at e
       obtain ⟨h4,h5⟩:=y_ ha (by omega) (rA e rfl).2
       rw [h5,h4,aO] at h
       omega
   · rw [e]
theorem qa {k:Nat} (hk:2 ^ 50≤k) {s:ByteArray} (hs:s.size≤1099511627776):eH.f k s=some ((fv s).1,((fv s).2,())) :=
 Jn (k:=k) (fun x t r _ ht hr=>xX hk ht hr) (fun s hs h=>v8 hk hs h) hs
theorem lN {k:Nat} (hk:2 ^ 50≤k) {s:ByteArray} (hs:s.size≤1099511627776):dQ.f k s=some ((fv s).1,((fv s).2,())) :=
 Jn (k:=k) (fun x t r _ ht hr=>x_ hk ht hr) (fun s hs h=>v_ hk hs h) hs
theorem lm (s:ByteArray):(fv s).1.size≤200∧((fv s).2=0∨5≤(fv s).2)∧(fv s).2≤s.size∧(fv s).2≤211:=by
 rcases mm s with ⟨t,r,h,rfl,e⟩ | ⟨e,_⟩
 · rw [e,aO]
   have:=jt h
   have:=lC t
   refine ⟨h,?_,?_,?_⟩ <;> simp only [] <;> omega
 · rw [e]
   refine ⟨by simp only [e0];omega,.inl rfl,by simp only [];omega,by simp only [];omega⟩
theorem vY:fv ⟨#[]⟩=(⟨#[]⟩,0):=by
 rcases mm ⟨#[]⟩ with ⟨t,r,h,e,_⟩ | ⟨e,_⟩
 · have:=congrArg ByteArray.size e
   rw [aO,e0] at this
   have:=jt h
   omega
 · exact e
noncomputable def fY (s:ByteArray):Nat→Int→List (Ty.d cA) × Int
 | 0,at_=>([],at_)
 | d+1,at_ =>
  if (fv (ByteArray.extract s at_.toNat s.size)).2=0 then ([],at_)
  else if (gM (fv (ByteArray.extract s at_.toNat s.size)).1).2=false then ([],at_)
  else (((at_,((fv (ByteArray.extract s at_.toNat s.size)).2,((gM (fv (ByteArray.extract s at_.toNat s.size)).1).1,()))):Ty.d cA)::(fY s d (at_+(fv (ByteArray.extract s at_.toNat s.size)).2)).1,
   (fY s d (at_+(fv (ByteArray.extract s at_.toNat s.size)).2)).2)
noncomputable def b_ (s:ByteArray):List (Ty.d cA) × Int:=fY s (s.size+1) 0
theorem oO (s:ByteArray) (n:Nat):(ByteArray.extract s n s.size).size=s.size-n:=by rw [← cO,gf,List.length_drop,cO]
theorem JS {k:Nat} (hk:2 ^ 50≤k) {s:ByteArray} (hs:s.size≤1099511627776):∀ (d n:Nat) (i:Int) (out:List (Ty.d cA)),0≤i→i≤s.size→(s.size:Int)-i<d→d≤n→(out.length:Int)≤i →
 dN.l0 k n s i out=some (out++(fY s d i).1,((fY s d i).2,()))∧bX.l0 k n s i out=some (out++(fY s d i).1,((fY s d i).2,())):=by
 intro d
 induction d with
 | zero=>intro n i out h0 h1 h2;omega
 | succ d ih =>
  intro n i out h0 h1 h2 h3 h4
  obtain ⟨n,rfl⟩:∃ q,n=q+1:=⟨n-1,by omega⟩
  have hz:=oO s i.toNat
  have hu:=lm (ByteArray.extract s i.toNat s.size)
  have e1:=qa hk (s:=ByteArray.extract s i.toNat s.size) (by omega)
  have e2:=lN hk (s:=ByteArray.extract s i.toNat s.size) (by omega)
  have hnil:i=s.size→(fv (ByteArray.extract s i.toNat s.size)).2=0:=fun q=>by
   have:ByteArray.extract s i.toNat s.size=⟨#[]⟩:=jW (by rw [gf,List.drop_eq_nil_of_le (by rw [cO];omega)];rfl)
   rw [this,vY]
  simp only [fY]
  generalize fv (ByteArray.extract s i.toNat s.size)=u at *
  have e3:=pm hk (s:=u.1) (by omega)
  have e4:=qP hk (s:=u.1) (by omega)
  generalize gM u.1=r at *
  by_cases c:u.2=0
  · rw [if_pos c]
    have cb:(u.2==0)=true:=by rw [c];rfl
    simp only [List.append_nil]
    constructor
    · simp (disch:=omega) only [dN.l0,dN.b0,cC,e1,e3,ae,cb,af]
    · by_cases q:i<s.size
      · simp (disch:=omega) only [bX.l0,bX.b0,aP,cC,e2,e4,ae,cb,af]
      · simp (disch:=omega) only [bX.l0,bX.b0,aQ,aL]
  · rw [if_neg c]
    have cb:(u.2==0)=false:=mP c
    have hlt:i<s.size:=by
     rcases Int.lt_or_eq_of_le h1 with q | q
     · exact q
     · exact absurd (hnil q) c
    cases hr:r.2 with
    | false =>
     simp only [if_true,List.append_nil]
     constructor
     · simp (disch:=omega) only [dN.l0,dN.b0,cC,e1,e3,ae,cb,af,aL,hr,ul]
     · simp (disch:=omega) only [bX.l0,bX.b0,aP,cC,e2,e4,ae,cb,af,aL,hr,ul]
    | true =>
     rw [if_neg (by decide)]
     have hlen:out.length+1≤1099511627777:=by omega
     have ih:=ih n (i+u.2) (out++[(i,(u.2,(r.1,())))]) (by omega) (by omega) (by omega) (by omega) (by rw [uo];show ((out.length+1:Nat):Int)≤_;omega)
     simp only [nQ,List.cons_append,List.nil_append] at ih
     constructor
     · simp (disch:=first | omega | decide) only [dN.l0,dN.b0,cC,e1,e3,ae,cb,af,aL,hr,fa,br,aD]
       exact ih.1
     · simp (disch:=first | omega | decide) only [bX.l0,bX.b0,aP,cC,e2,e4,ae,cb,af,aL,hr,fa,br,aD]
       exact ih.2
theorem uf {k:Nat} (hk:2 ^ 50≤k) {s:ByteArray} (hs:s.size≤1099511627775):dN.f k s=some ((b_ s).1,((b_ s).2,())) :=
 (JS hk (by omega) (s.size+1) k 0 [] (by omega) (by omega) (by omega) (by omega) (by simp)).1
theorem mD {k:Nat} (hk:2 ^ 50≤k) {s:ByteArray} (hs:s.size≤1099511627775):bX.f k s=some ((b_ s).1,((b_ s).2,())) :=
 (JS hk (by omega) (s.size+1) k 0 [] (by omega) (by omega) (by omega) (by omega) (by simp)).2
theorem tq (s:ByteArray):∀ (d:Nat) (i:Int),0≤i→i≤s.size→((fY s d i).1.length:Int)≤s.size-i∧i≤(fY s d i).2∧(fY s d i).2≤s.size
 | 0,i,h0,h1=>by simp only [fY,List.length_nil];omega
 | d+1,i,h0,h1=>by
  have hu:=lm (ByteArray.extract s i.toNat s.size)
  have hz:=oO s i.toNat
  rw [fY]
  split
  · simp only [List.length_nil];omega
  · split
    · simp only [List.length_nil];omega
    · rename_i c1 c2
      have ih:=tq s d (i+(fv (ByteArray.extract s i.toNat s.size)).2) (by omega) (by omega)
      simp only [kU]
      omega
theorem jM (s:ByteArray):(b_ s).1.length≤s.size∧0≤(b_ s).2∧(b_ s).2≤s.size:=by
 have:=tq s (s.size+1) 0 (by omega) (by omega)
 unfold b_
 omega
theorem Iz (d:Nat) {a:Nat} (h:a<128):(vl d a).length=1:=by
 cases d with
 | zero=>rfl
 | succ d=>unfold vl;rw [if_neg (by omega)];rfl
theorem JI {a:Nat} (h:a<2097152):(vl 6 a).length≤3:=by
 unfold vl
 split
 · rw [kU]
   unfold vl
   split
   · rw [kU,Iz 4 (by omega)]
     omega
   · simp
 · simp
theorem ra {a:Int} (h0:0≤a) (h1:a≤100000):(gu a).size≤3:=by
 obtain ⟨n,rfl⟩:=Int.eq_ofNat_of_zero_le h0
 rw [dZ (by omega),← qD (by omega)]
 exact JI (by omega)
def fj:List Int→ByteArray
 | []=>⟨#[]⟩
 | x::l=>gu x++fj l
theorem uU:∀ (l:List Int),(∀ x ∈ l,0≤x∧x≤100000)→(fj l).size≤3*l.length
 | [],_=>Nat.le_refl _
 | x::l,h=>by
  have h1:=ra (h x (jo ..)).1 (h x (jo ..)).2
  have h2:=uU l fun y hy=>h y (lV _ hy)
  rw [fj,aO,kU]
  omega
theorem xO:∀ (l:List Int),(fj l).size≤7*l.length
 | []=>Nat.le_refl _
 | x::l=>by
  have h1:=bI x
  have h2:=xO l
  rw [fj,aO,kU]
  omega
def oJ (v:Ty.d cZ):ByteArray:=gu v.1++(gu (v.2.1.length:Int)++fj v.2.1)
def cE (v:Ty.d cZ):ByteArray:=if cH v=true then aS (oJ v) else ⟨#[]⟩
theorem bV {nx:Int} {ids:List Int} (h:cH (nx,(ids,()))=true):1≤nx∧nx≤100000∧1≤ids.length∧ids.length≤60∧∀ x ∈ ids,0≤x∧x≤100000:=by
 unfold cH at h
 simp only [gX,decide_eq_true_eq] at h
 obtain ⟨h1,h2,h3⟩:=h
 have h1a:1≤nx:=h1.1
 have h1b:nx≤100000:=h1.2
 refine ⟨h1a,h1b,by omega,by omega,fun x hx=>?_⟩
 obtain ⟨p,hp⟩:=Ae h3 hx
 unfold mF at hp
 rw [gX,decide_eq_true_eq] at hp
 have hw:aH (nx-1)=nx-1:=aD (by omega) (by omega)
 have h4:x≤aH (nx-1):=hp.1.2
 have h5:1≤x:=hp.1.1
 omega
theorem DC {nx:Int} {ids:List Int} (h:cH (nx,(ids,()))=true):(oJ (nx,(ids,()))).size≤200:=by
 obtain ⟨h1,h2,h3,h4,h5⟩:=bV h
 have a:=ra (a:=nx) (by omega) h2
 have b:=ra (a:=(ids.length:Int)) (by omega) (by omega)
 have c:=uU ids h5
 unfold oJ
 rw [aO,aO]
 simp only []
 omega
theorem kr {k:Nat} (hk:2 ^ 50≤k) (v:Ty.d cZ):dA.f k v=some (cE v,()):=by
 unfold dA.f dA.t cE
 rw [nn hk,ae]
 cases c:cH v with
 | false=>rfl
 | true =>
  obtain ⟨h1,h2,h3,h4,h5⟩:=bV (nx:=v.1) (ids:=v.2.1) c
  have a:=bI v.1
  have b:=bI (v.2.1.length:Int)
  rw [fa,aL,gO hk,ae,gO hk,ae,if_pos rfl]
  simp only []
  rw [dm (by omega)]
  refine (dp (L:=fun n i s=>dA.l0 k n s i v.1 v.2.1) (R:=fun r s=>some (aS (s++fj r),())) (Ty.z (.int .i64)) v.2.1 (fun i s=>(s.size:Int)≤14+7*i) (fun n s hs=>?_) (fun n i s x rest g0 g1 hx hr hs ih=>?_) (n:=k) (by omega) (by rw [aO];omega)).trans (by rw [am];rfl)
  · simp (disch:=omega) only [dA.l0,dA.b0,aQ,aL,lH hk,ae]
    rw [show fj []=⟨#[]⟩ from rfl,jS]
  · have hv:=bI x
    have ih:=ih (s++gu x) (by rw [aO];omega)
    simp (disch:=omega) only [dA.l0,dA.b0,aP g1,af,aI,hx,gO hk,ae,dm,aD,ih]
    rw [am]
    rfl
noncomputable def fO (s:ByteArray):Ty.d cZ × Bool:=nv (fun v=>cH v=true) cE (0,([],())) s
theorem As (s:ByteArray):0≤(Dh (rv 7 (nb s))).2.1∧(Dh (rv 7 (nb s))).2.1≤(s.size:Int):=by
 cases h:rv 7 (nb s) with
 | none=>exact ⟨Int.le_refl _,by show (0:Int)≤_;omega⟩
 | some p =>
  obtain ⟨a,n⟩:=p
  obtain ⟨h1,h2,h3,h4,h5,h6⟩:=pE 6 (nb s) a n (rx s) h
  rw [cO] at h4
  exact ⟨by show (0:Int)≤(n:Int);omega,by show (n:Int)≤_;omega⟩
def Lh:Option (Ty.d cZ × Bool × Unit):=some ((0,([],())),(false,()))
theorem AX {k:Nat} (hk:2 ^ 50≤k) {s t:ByteArray} (ht:t.size≤200) (c nx:Int):∀ (d n:Nat) (pos j:Int) (out:List Int),60-j=d→d<n→0≤pos→pos≤t.size→0≤j→(out.length:Int)≤j →
 ∃ o,bM.l0 k n s t c pos j [] 0 out nx=bif !seq (cE (nx,(o,()))) s then Lh else some ((nx,(o,())),(true,())):=by
 intro d
 induction d with
 | zero =>
  intro n pos j out hj hn h0 h1 h2 h3
  obtain ⟨n,rfl⟩:∃ q,n=q+1:=⟨n-1,by omega⟩
  refine ⟨out,?_⟩
  simp only [bM.l0,bM.b0]
  rw [aQ (show ¬ j<60 by omega),aL,kr hk,ae]
  cases decide (j<c) <;> cases seq (cE (nx,(out,()))) s <;> rfl
 | succ d ih =>
  intro n pos j out hj hn h0 h1 h2 h3
  obtain ⟨n,rfl⟩:∃ q,n=q+1:=⟨n-1,by omega⟩
  by_cases c1:j<c
  · have hr:=As (ByteArray.extract t pos.toNat t.size)
    have he:(ByteArray.extract t pos.toNat t.size).size=t.size-pos.toNat:=by rw [← cO,gf,List.length_drop,cO]
    rw [he] at hr
    obtain ⟨o,ho⟩:=ih n (pos+(Dh (rv 7 (nb (ByteArray.extract t pos.toNat t.size)))).2.1) (j+1) (out++[(Dh (rv 7 (nb (ByteArray.extract t pos.toNat t.size)))).1]) (by omega) (by omega) (by omega) (by omega) (by omega) (by rw [bN];omega)
    refine ⟨o,?_⟩
    simp only [bM.l0,bM.b0]
    rw [aP c1,aP (show j<60 by omega),af,af,cC h0 h1,fV hk,ae,br (by omega) (by decide),aD (n:=pos+_) (by omega) (by omega),aD (n:=j+1) (by omega) (by omega)]
    exact ho
  · refine ⟨out,?_⟩
    simp only [bM.l0,bM.b0]
    rw [aQ c1,aL,kr hk,ae]
    cases seq (cE (nx,(out,()))) s <;> rfl
theorem xq {x:Int} (h0:0≤x) (h1:x≤100000):∃ n:Nat,n<562949953421312∧x=(n:Int)∧gu x=bG n:=by
 obtain ⟨n,rfl⟩:=Int.eq_ofNat_of_zero_le h0
 exact ⟨n,by omega,rfl,dZ (by omega)⟩
theorem C1 {k:Nat} (hk:2 ^ 50≤k) {s:ByteArray} (nx:Int):∀ (ids:List Int) (pre:ByteArray) (n:Nat) (j c:Int) (out:List Int),(∀ x ∈ ids,0≤x∧x≤100000)→ids.length<n→0≤j→c=j+ids.length→c≤60→pre.size+7*ids.length≤1000→(out.length:Int)≤j →
 bM.l0 k n s (pre++fj ids) c (pre.size:Int) j [] 0 out nx=bif !seq (cE (nx,(out++ids,()))) s then Lh else some ((nx,(out++ids,())),(true,())):=by
 intro ids
 induction ids with
 | nil =>
  intro pre n j c out h hn h0 hc h1 hp ho
  obtain ⟨n,rfl⟩:∃ q,n=q+1:=⟨n-1,by omega⟩
  rw [List.length_nil] at hc
  simp only [bM.l0,bM.b0]
  rw [aQ (show ¬ j<c by omega),aL,kr hk,ae,List.append_nil]
  cases seq (cE (nx,(out,()))) s <;> rfl
 | cons x ids ih =>
  intro pre n j c out h hn h0 hc h1 hp ho
  rw [kU] at hn hc
  obtain ⟨n,rfl⟩:∃ q,n=q+1:=⟨n-1,by omega⟩
  obtain ⟨a,ha,hx,hv⟩:=xq (h x (jo ..)).1 (h x (jo ..)).2
  have hvs:=ak a
  have hts:=xO (x::ids)
  rw [kU] at hts
  have ih:=ih (pre++bG a) n (j+1) c (out++[x]) (fun y hy=>h y (lV _ hy)) (by omega) (by omega) (by omega) h1 ?_ (by rw [bN];omega)
  · have he:ByteArray.extract (pre++fj (x::ids)) pre.size (pre++fj (x::ids)).size=bG a++fj ids:=by rw [dw,fj,hv]
    simp only [bM.l0,bM.b0]
    rw [aP (show j<c by omega),aP (show j<60 by omega),af,af,cC (by omega) (by rw [aO];omega),Int.toNat_natCast,he,fV hk,ae,pn ha]
    simp only [Dh]
    rw [br (by omega) (by decide),aD (by omega) (by omega),aD (by omega) (by omega),← hx,show (pre.size:Int)+((bG a).size:Int)=((pre++bG a).size:Int) by rw [aO];omega]
    rw [show pre++fj (x::ids)=pre++bG a++fj ids by rw [fj,hv,am],ih,nQ]
    rfl
  · rw [aO]
    rw [kU] at hp
    omega
theorem wD {k:Nat} (hk:2 ^ 50≤k) {nx:Int} {ids:List Int} (h:cH (nx,(ids,()))=true):bM.f k (cE (nx,(ids,())))=some ((nx,(ids,())),(true,())):=by
 obtain ⟨g1,g2,g3,g4,g5⟩:=bV h
 have hz:=DC h
 have hf:=jt hz
 have hfs:=lC (oJ (nx,(ids,())))
 have hu:=mo ⟨#[]⟩ hz
 rw [jS] at hu
 have e:cE (nx,(ids,()))=aS (oJ (nx,(ids,()))):=if_pos h
 obtain ⟨a,ha,hx,hv⟩:=xq (x:=nx) (by omega) g2
 obtain ⟨b,hb,hy,hw⟩:=xq (x:=(ids.length:Int)) (by omega) (by omega)
 have ht:oJ (nx,(ids,()))=bG a++bG b++fj ids:=by
  unfold oJ
  rw [am,← hv,← hw]
 have hva:=ak a
 have hvb:=ak b
 have hl:=C1 hk (s:=cE (nx,(ids,()))) nx ids (bG a++bG b) k 0 (b:Int) [] g5 (by omega) (by omega) (by omega) (by omega) (by rw [aO];omega) (by simp)
 rw [← ht,List.nil_append,bT] at hl
 unfold bM.f bM.t
 rw [lN hk (by rw [e];omega),ae]
 have hu1:fv (cE (nx,(ids,())))=(oJ (nx,(ids,())),((cE (nx,(ids,()))).size:Int)):=by rw [e];exact hu
 have r1:rv 7 (nb (oJ (nx,(ids,()))))=some (a,(bG a).size):=by rw [ht,am];exact pn ha _
 have r2:rv 7 (nb (ByteArray.extract (oJ (nx,(ids,()))) (bG a).size (oJ (nx,(ids,()))).size))=some (b,(bG b).size):=by rw [ht,am,dw];exact pn hb _
 have hsz:(oJ (nx,(ids,()))).size=(bG a).size+(bG b).size+(fj ids).size:=by rw [ht,aO,aO]
 rw [hu1]
 simp only []
 rw [fV hk,ae,r1]
 simp only [Dh]
 rw [show (((cE (nx,(ids,()))).size:Int) != ((cE (nx,(ids,()))).size:Int))=false by simp,aL,
  show (((cE (nx,(ids,()))).size:Int)==0)=false from mP (by rw [e];omega),aL,show (((bG a).size:Int)==0)=false from mP (by omega),aL,
  cC (by omega) (by omega),Int.toNat_natCast,fV hk,ae,r2]
 simp only [Dh]
 rw [aD (by omega) (by omega),show ((bG a).size:Int)+((bG b).size:Int)=((bG a++bG b).size:Int) by rw [aO];omega,← hx]
 exact hl
theorem vC {k:Nat} (hk:2 ^ 50≤k) {s:ByteArray} (hs:s.size≤1099511627776):bM.f k s=some ((fO s).1,((fO s).2,())):=by
 refine qj (fun v h1 h2=>?_) ?_
 · subst h2
   exact wD hk (nx:=v.1) (ids:=v.2.1) h1
 · unfold bM.f bM.t
   rw [lN hk hs,ae]
   have hu:=lm s
   generalize fv s=u at hu
   obtain ⟨t,m⟩:=u
   simp only [] at hu ⊢
   rw [fV hk,ae]
   have h1:=As t
   generalize Dh (rv 7 (nb t))=q at h1
   obtain ⟨nx,p,_⟩:=q
   simp only [] at h1 ⊢
   by_cases c1:m=(s.size:Int)
   case neg=>rw [show (m != (s.size:Int))=true from bne_iff_ne.2 c1];exact .inr rfl
   rw [show (m != (s.size:Int))=false by rw [c1];simp,aL]
   by_cases c2:m=0
   case pos=>rw [show (m==0)=true from beq_iff_eq.2 c2];exact .inr rfl
   rw [show (m==0)=false from mP c2,aL]
   by_cases c3:p=0
   case pos=>rw [show (p==0)=true from beq_iff_eq.2 c3];exact .inr rfl
   rw [show (p==0)=false from mP c3,aL,cC h1.1 h1.2,fV hk,ae]
   have h2:=As (ByteArray.extract t p.toNat t.size)
   have he:(ByteArray.extract t p.toNat t.size).size=t.size-p.toNat:=by rw [← cO,gf,List.length_drop,cO]
   rw [he] at h2
   rw [aD (by omega) (by omega)]
   obtain ⟨o,ho⟩:=AX hk (s:=s) hu.1 (Dh (rv 7 (nb (ByteArray.extract t p.toNat t.size)))).1 nx 60 k (p+(Dh (rv 7 (nb (ByteArray.extract t p.toNat t.size)))).2.1) 0 [] (by omega) (by omega) (by omega) (by omega) (by omega) (by simp)
   rw [ho]
   cases c4:seq (cE (nx,(o,()))) s with
   | false=>exact .inr rfl
   | true =>
    refine .inl ⟨(nx,(o,())),?_,dy.1 c4,rfl⟩
    cases c5:cH (nx,(o,())) with
    | true=>rfl
    | false =>
     have:=dy.1 c4
     unfold cE at this
     rw [c5,if_neg (by decide)] at this
     rw [← this] at c1
     exact absurd c1 c2
end Go.Proofs.YthjppgafienaoabGreatDoor.G
namespace Go.V
def Kw (n:Int):Prop := -999999999≤n∧n≤999999999
def dg:List Nat→Nat→Nat→Nat × Nat
 | [],a,c=>(a,c)
 | b::l,a,c=>if 48≤b∧b≤57 then dg l (a*10+(b-48)) (c+1) else dg l a c
theorem tu:∀ (l:List Nat) (a c:Nat),(∀ b ∈ l,48≤b∧b≤57)→dg l a c=(pk l a,c+l.length)
 | [],a,c,_=>rfl
 | b::l,a,c,h=>by
  rw [dg,if_pos (h b (jo ..)),tu l _ _ fun x hx=>h x (lV _ hx),pk,kU]
  congr 1
  omega
theorem wc:∀ (l:List Nat) (a c:Nat),a+1≤10 ^ c→(dg l a c).1+1≤10 ^ (dg l a c).2
 | [],a,c,h=>h
 | b::l,a,c,h=>by
  unfold dg
  split
  · rename_i q
    exact wc l _ _ (by rw [Nat.pow_succ];omega)
  · exact wc l _ _ h
theorem Bc (u:Nat):∀ b ∈ (Lib.decDigits u).map UInt8.toNat,48≤b∧b≤57:=by
 intro b hb
 obtain ⟨x,hx,rfl⟩:=List.mem_map.1 hb
 exact mX u x hx
def Jb (s:ByteArray) (a:Nat):Int:=bif decide ((s.size:Int) > 0)&&(di s 0==45) then -(a:Int) else (a:Int)
theorem Ja {s:ByteArray} (h:0<s.size):di s 0=(((nb s).getD 0 0:Nat):Int):=xm (i:=0) h
theorem Ip {n:Int}:Jb (ga n) n.natAbs=n:=by
 have hb:=oo n
 have hl:=cO (ga n)
 unfold Jb
 by_cases c:n<0
 · rw [if_pos c] at hb
   rw [hb,kU] at hl
   rw [aP (by omega),Ja (by omega),hb]
   show (bif true&&(((45:Nat):Int)==45) then _ else _)=n
   show -((n.natAbs:Nat):Int)=n
   omega
 · rw [if_neg c] at hb
   have:(di (ga n) 0==45)=false:=by
    cases q:Lib.decDigits n.toNat with
    | nil=>exact absurd q (sr _)
    | cons x r =>
     have hx:=mX n.toNat x (by rw [q];exact jo ..)
     rw [q,List.map_cons] at hb
     rw [hb,kU] at hl
     rw [Ja (by omega),hb]
     refine mP ?_
     show ((x.toNat:Nat):Int)≠45
     omega
   rw [this,Bool.and_false,aL]
   omega
theorem IY {n:Int} (h:Kw n):(ga n).size≤10:=GM (by have:=h.1;omega) (by have:=h.2;omega)
theorem K8 {n:Int} (h:Kw n):∃ c,dg (nb (ga n)) 0 0=(n.natAbs,c)∧c≤9:=by
 obtain ⟨h0,h1⟩:=h
 rw [oo]
 by_cases c:n<0
 · rw [if_pos c]
   refine ⟨(Lib.decDigits n.natAbs).length,?_,iE 8 _ (by rw [show (10:Nat) ^ (8+1)=1000000000 by decide];omega)⟩
   rw [dg,if_neg (by omega),tu _ _ _ (Bc _),qt,List.length_map,Nat.zero_add]
 · rw [if_neg c]
   refine ⟨(Lib.decDigits n.toNat).length,?_,iE 8 _ (by rw [show (10:Nat) ^ (8+1)=1000000000 by decide];omega)⟩
   rw [tu _ _ _ (Bc _),qt,List.length_map,Nat.zero_add,show n.toNat=n.natAbs by omega]
theorem BH {c:Nat} (h:c≤11):10 ^ c≤100000000000:=Nat.le_trans (Nat.pow_le_pow_right (by decide) h) (by decide)
theorem JC {c:Nat} (h:c≤9):10 ^ c≤1000000000:=Nat.le_trans (Nat.pow_le_pow_right (by decide) h) (by decide)
end Go.V
namespace Go.Proofs.YthjppgafienaoabGreatDoor.G
open Go.V
noncomputable def jJ (s:ByteArray):Int × Bool:=nv Kw ga 0 s
def FX (s:ByteArray) (q:Nat × Nat):Option (Int × Bool × Unit) :=
 bif decide ((q.2:Int) > 9)||(decide ((s.size:Int) > 10)||!seq (ga (Jb s q.1)) s) then some (0,(false,())) else some (Jb s q.1,(true,()))
theorem Kb {k:Nat} (hk:2 ^ 50≤k) (s:ByteArray) {q:Nat × Nat} (hq:q.1≤1000000000000) :
 (bif (decide ((ByteArray.size s:Int) > 0)) then (bF 0 (ByteArray.size s:Int) (bif ((di s 0)==45) then (bif (decide ((q.2:Int) > 9)) then (some (0,(false,()))) else (bif (decide ((ByteArray.size s:Int) > 10)) then (some (0,(false,()))) else (Option.bind (db.f k (aH (0-(q.1:Int)))) fun r1=>(bif (!(seq r1.1 s)) then (some (0,(false,()))) else (some ((aH (0-(q.1:Int))),(true,()))))))) else
  (bif (decide ((q.2:Int) > 9)) then (some (0,(false,()))) else (bif (decide ((ByteArray.size s:Int) > 10)) then (some (0,(false,()))) else (Option.bind (db.f k (q.1:Int)) fun r2=>(bif (!(seq r2.1 s)) then (some (0,(false,()))) else (some ((q.1:Int),(true,())))))))))
 else (bif (decide ((q.2:Int) > 9)) then (some (0,(false,()))) else (bif (decide ((ByteArray.size s:Int) > 10)) then (some (0,(false,()))) else (Option.bind (db.f k (q.1:Int)) fun r3=>(bif (!(seq r3.1 s)) then (some (0,(false,()))) else (some ((q.1:Int),(true,()))))))))=FX s q:=by
 have hn:aH (0-(q.1:Int)) = -(q.1:Int):=by rw [aD (by omega) (by omega)];omega
 rw [hn,pA hk (n:=(q.1:Int)) (by omega) (by omega),pA hk (n := -(q.1:Int)) (by omega) (by omega)]
 simp only [ae]
 unfold FX Jb
 by_cases c0:(s.size:Int) > 0
 · rw [aP c0,af,aI (by omega) (by omega),Bool.true_and]
   cases di s 0==45 <;> cases decide ((q.2:Int) > 9) <;> cases decide ((s.size:Int) > 10)
   all_goals simp only [af,aL,Bool.true_or,Bool.false_or]
   all_goals first | rfl | (cases seq (ga (q.1:Int)) s <;> rfl) | (cases seq (ga (-(q.1:Int))) s <;> rfl)
 · rw [aQ c0,aL,Bool.false_and,aL]
   cases decide ((q.2:Int) > 9) <;> cases decide ((s.size:Int) > 10)
   all_goals simp only [af,aL,Bool.true_or,Bool.false_or]
   all_goals first | rfl | (cases seq (ga (q.1:Int)) s <;> rfl)
theorem vL {k:Nat} (hk:2 ^ 50≤k) {s:ByteArray} (hs:s.size≤1099511627776):eJ.f k s=FX s (dg ((nb s).take 11) 0 0):=by
 unfold eJ.f eJ.t
 have hn:=cO s
 have hl:((nb s).take 11).length=min 11 s.size:=by rw [List.length_take,hn]
 refine dp (L:=fun n i (q:Nat × Nat)=>eJ.l0 k n s (q.1:Int) (q.2:Int) i) (R:=fun r q=>FX s (dg r q.1 q.2)) 0 ((nb s).take 11) (fun i q=>q.1+1≤10 ^ q.2∧(q.2:Int)≤i) (fun n q hq=>?_) (fun n i q x rest h0 h1 hx hr hq ih=>?_) (n:=k) (s:=(0,0)) (by omega) ⟨by decide,by decide⟩
 · obtain ⟨g1,g2⟩:=hq
   have hp:=BH (c:=q.2) (by omega)
   rw [show dg [] q.1 q.2=q from rfl]
   refine Eq.trans ?_ (Kb hk s (q:=q) (by omega))
   simp only [eJ.l0,eJ.b0]
   rcases Nat.lt_or_ge 11 s.size with c | c
   · rw [hl,Nat.min_eq_left (by omega),aP (show ((11:Nat):Int)<(s.size:Int) by omega),aQ (show ¬ ((11:Nat):Int)<11 by omega)]
     rfl
   · rw [hl,Nat.min_eq_right c,aQ (show ¬ (s.size:Int)<(s.size:Int) by omega)]
     rfl
 · obtain ⟨g1,g2⟩:=hq
   have hp:=BH (c:=q.2) (by omega)
   rw [hl] at h1
   have hi:i<11:=by omega
   have hsz:i<(s.size:Int):=by omega
   have hx':(nb s).getD i.toNat 0=x:=by rw [← hx,mq (by omega)]
   have hb:=zt (s:=s) (x:=x) h0 (by rw [hn];exact hsz) hx'
   have hx256:x<256:=by rw [← hx'];exact iy s _
   simp only [eJ.l0,eJ.b0]
   rw [aP hsz,aP hi,af,af,aI h0 hsz,hb]
   have iN:=ih q ⟨g1,by omega⟩
   by_cases c1:48≤x
   · rw [aP (show (x:Int)≥48 by omega),af]
     by_cases c2:x≤57
     · rw [aI h0 hsz,aP (show (x:Int)≤57 by omega),af,aI h0 hsz]
       have iY:=ih (q.1*10+(x-48),q.2+1) ⟨by rw [Nat.pow_succ];omega,by simp only [];omega⟩
       rw [np (n:=(x:Int)-48) (by omega) (by omega),aD (n:=(x:Int)-48) (by omega) (by omega),aD (n:=(q.1:Int)*10) (by omega) (by omega),aD (by omega) (by omega),aD (n:=(q.2:Int)+1) (by omega) (by omega),aD (n:=i+1) (by omega) (by omega)]
       rw [show dg (x::rest) q.1 q.2=dg rest (q.1*10+(x-48)) (q.2+1) from if_pos ⟨c1,c2⟩]
       rw [show (q.1:Int)*10+((x:Int)-48)=((q.1*10+(x-48):Nat):Int) by omega,show (q.2:Int)+1=((q.2+1:Nat):Int) by omega]
       exact iY
     · rw [aI h0 hsz,aQ (show ¬ (x:Int)≤57 by omega),aL,aD (n:=i+1) (by omega) (by omega),show dg (x::rest) q.1 q.2=dg rest q.1 q.2 from if_neg (fun h=>c2 h.2)]
       exact iN
   · rw [aQ (show ¬ (x:Int)≥48 by omega),aL,aD (n:=i+1) (by omega) (by omega),show dg (x::rest) q.1 q.2=dg rest q.1 q.2 from if_neg (fun h=>c1 h.1)]
     exact iN
theorem wQ {k:Nat} (hk:2 ^ 50≤k) {s:ByteArray} (hs:s.size≤1099511627776):eJ.f k s=some ((jJ s).1,((jJ s).2,())):=by
 rw [vL hk hs]
 refine qj (fun n h1 h2=>?_) ?_
 · subst h2
   have hz:=IY h1
   obtain ⟨c,e,hc⟩:=K8 h1
   rw [List.take_of_length_le (by rw [cO];omega),e]
   unfold FX
   simp only []
   rw [aQ (by omega),aQ (by omega),Ip,bT]
   rfl
 · have hb:=wc ((nb s).take 11) 0 0 (by decide)
   generalize dg ((nb s).take 11) 0 0=q at hb
   unfold FX
   by_cases c:q.2≤9
   · have hp:=JC c
     cases e:(decide ((q.2:Int) > 9)||(decide ((s.size:Int) > 10)||!seq (ga (Jb s q.1)) s)) with
     | true=>exact .inr rfl
     | false =>
      simp only [Bool.or_eq_false_iff,Bool.not_eq_false'] at e
      refine .inl ⟨Jb s q.1,?_,dy.1 e.2.2,rfl⟩
      unfold Jb Kw
      cases decide ((s.size:Int) > 0)&&(di s 0==45)
      · rw [aL];omega
      · rw [af];omega
   · rw [aP (show (q.2:Int) > 9 by omega)]
     exact .inr rfl
theorem BR {n:Int} (h:Kw n):jJ (ga n)=(n,true):=FC (fun _ _ _ _ e=>xl e) h
def oq (s p:ByteArray):Bool:=decide (p.size≤s.size)&&seq (ByteArray.extract s 0 p.size) p
theorem Ij (s p:ByteArray):Go.Lib.hasPrefix s.data.toList p.data.toList=oq s p:=(Go.Lib.hasPrefix_raw s p).symm
theorem F9 {s p:ByteArray} (h:oq s p=true):p.size≤s.size:=by
 unfold oq at h
 rw [gX,decide_eq_true_eq] at h
 exact h.1
theorem J0 (s:ByteArray):ByteArray.extract s 0 s.size=s:=jW (by rw [gf,List.drop_zero])
theorem H5 (p t:ByteArray):oq (p++t) p=true:=by
 unfold oq
 rw [aP (by rw [ByteArray.size_append];omega),xJ,bT]
 rfl
theorem DW {s p:ByteArray} (h:oq s p=true):s=p++ByteArray.extract s p.size s.size:=by
 have hl:=F9 h
 unfold oq at h
 rw [gX] at h
 have e:=dy.1 h.2
 have:=xD s hl
 rw [e] at this
 exact this
def wt (l:List Int) (x:Int):Bool:=l.any fun y=>y==x
def dH:ByteArray:=⟨#[104,105,110,116]⟩
theorem ic {k:Nat} (hk:2 ^ 50≤k) (n:Int):cj.f k n=some (a_ dH n,()):=by
 unfold cj.f cj.t a_
 rw [dT,ae]
 by_cases c:(1:Int)≤n∧n≤100000
 · have hz:=nL (n:=n) (by omega) (by omega)
   rw [aP c]
   simp only [fa,aL,af]
   rw [pA hk (by omega) (by omega),ae,dm (by show 4+(ga n).size≤_;omega)]
   rfl
 · rw [aQ c]
   rfl
def IF (s:ByteArray) (n:Int):Prop:=1≤n∧n≤100000∧(s=aF++ga n∨s=dH++ga n)
theorem Bw (a b:ByteArray):aF++a≠dH++b:=fun h=>by
 have:=congrArg nb h
 rw [gk,gk,show nb aF=[115,101,103] from rfl,show nb dH=[104,105,110,116] from rfl] at this
 simp at this
theorem F7 {s:ByteArray} {n m:Int} (h:IF s n) (g:IF s m):n=m:=by
 rcases h.2.2 with h1 | h1 <;> rcases g.2.2 with g1 | g1
 · exact xl (rk (h1.symm.trans g1))
 · exact absurd (h1.symm.trans g1) (Bw _ _)
 · exact absurd (g1.symm.trans h1) (Bw _ _)
 · exact xl (rk (h1.symm.trans g1))
theorem Fy {s:ByteArray} {n:Int} (hs:0<s.size) (h:(seq (a_ aF n) s||seq (a_ dH n) s)=true):IF s n:=by
 unfold a_ at h
 by_cases c:(1:Int)≤n∧n≤100000
 · rw [aP c,Bool.or_eq_true] at h
   exact ⟨c.1,c.2,h.imp (fun q=>(dy.1 q).symm) (fun q=>(dy.1 q).symm)⟩
 · rw [aQ c,Bool.or_eq_true] at h
   rcases h with q | q
   · rw [← dy.1 q] at hs;exact absurd hs (Nat.lt_irrefl 0)
   · rw [← dy.1 q] at hs;exact absurd hs (Nat.lt_irrefl 0)
theorem FK {s:ByteArray} {n:Int} (h:IF s n):(seq (a_ aF n) s||seq (a_ dH n) s)=true:=by
 obtain ⟨h0,h1,h2⟩:=h
 unfold a_
 rw [aP ⟨h0,h1⟩,Bool.or_eq_true]
 exact h2.imp (fun q=>dy.2 q.symm) (fun q=>dy.2 q.symm)
noncomputable def F3 (s:ByteArray):Int × Bool:=nv (IF s) (fun _=>s) 0 s
theorem CK (n:Int):0<(ga n).size:=by
 rw [← cO,oo]
 split
 · rw [kU];omega
 · rw [List.length_map]
   exact List.length_pos_iff.2 (sr _)
theorem Fq (s:ByteArray) (n:Nat):(ByteArray.extract s n s.size).size=s.size-n:=by rw [← cO,gf,List.length_drop,cO]
noncomputable def wK (s:ByteArray) (i:Nat):Bool :=
 decide ((s.size:Int) > (i:Int))&&((jJ (ByteArray.extract s i s.size)).2&&(decide ((jJ (ByteArray.extract s i s.size)).1≥1)&&(seq (a_ aF (jJ (ByteArray.extract s i s.size)).1) s||seq (a_ dH (jJ (ByteArray.extract s i s.size)).1) s)))
theorem EN {k:Nat} (hk:2 ^ 50≤k) {s:ByteArray} (hs:s.size≤1099511627776) (m i:Nat) (hi:i≤4) :
 gq.l0 k (m+1) s (i:Int)=bif wK s i then some ((jJ (ByteArray.extract s i s.size)).1,(true,())) else gq.l0 k m s ((i+1:Nat):Int):=by
 have hz:=Fq s i
 simp only [gq.l0,gq.b0]
 rw [aP (show (i:Int)≤4 by omega),af,aD (by omega) (by omega),show (i:Int)+1=((i+1:Nat):Int) by omega]
 unfold wK
 by_cases c:(s.size:Int) > (i:Int)
 · rw [aP c,af,cC (by omega) (by omega),Int.toNat_natCast,wQ hk (by omega),ae]
   simp only [bJ hk,ic hk,ae]
   generalize jJ (ByteArray.extract s i s.size)=r
   cases r.2 <;> cases decide (r.1≥1) <;> cases seq (a_ aF r.1) s <;> cases seq (a_ dH r.1) s <;> rfl
 · rw [aQ c]
   rfl
theorem Ad {s:ByteArray} {i:Nat} (h:wK s i=true):IF s (jJ (ByteArray.extract s i s.size)).1:=by
 unfold wK at h
 simp only [gX,decide_eq_true_eq] at h
 exact Fy (by omega) h.2.2.2
theorem Gw {p:ByteArray} {n:Int} (h:IF (p++ga n) n):wK (p++ga n) p.size=true∧(jJ (ByteArray.extract (p++ga n) p.size (p++ga n).size)).1=n:=by
 have hd:Kw n:=⟨by have:=h.1;omega,by have:=h.2.1;omega⟩
 have hp:=CK n
 rw [show ByteArray.extract (p++ga n) p.size (p++ga n).size=ga n from dw p (ga n)]
 unfold wK
 rw [show ByteArray.extract (p++ga n) p.size (p++ga n).size=ga n from dw p (ga n),BR hd]
 refine ⟨?_,rfl⟩
 simp only []
 rw [FK h,aP (by rw [ByteArray.size_append];omega),aP h.1]
 rfl
theorem GH {k:Nat} (hk:2 ^ 50≤k) {s:ByteArray} (hs:s.size≤1099511627776):gq.f k s=some ((F3 s).1,((F3 s).2,())):=by
 have e:gq.f k s=bif wK s 3 then some ((jJ (ByteArray.extract s 3 s.size)).1,(true,())) else bif wK s 4 then some ((jJ (ByteArray.extract s 4 s.size)).1,(true,())) else some (0,(false,())):=by
  unfold gq.f gq.t
  obtain ⟨m,hm⟩:∃ m,k=m+3:=⟨k-3,by omega⟩
  have h3:=EN hk hs (m+2) 3 (by omega)
  have h4:=EN hk hs (m+1) 4 (by omega)
  have h5:gq.l0 k (m+1) s ((5:Nat):Int)=some (0,(false,())):=rfl
  rw [← hm] at h3
  rw [show (3:Int)=((3:Nat):Int) from rfl,h3,h4,h5]
 rw [e]
 refine qj (fun n h1 _=>?_) ?_
 · rcases h1.2.2 with q | q
   · have:=Gw (p:=aF) (n:=n) (by rw [← q];exact h1)
     rw [← q,show aF.size=3 from rfl] at this
     rw [this.1,this.2]
     rfl
   · cases c:wK s 3 with
     | true=>rw [F7 h1 (Ad c)];rfl
     | false =>
      have:=Gw (p:=dH) (n:=n) (by rw [← q];exact h1)
      rw [← q,show dH.size=4 from rfl] at this
      rw [this.1,this.2]
      rfl
 · cases c:wK s 3 with
   | true=>exact .inl ⟨_,Ad c,rfl,rfl⟩
   | false =>
    cases c4:wK s 4 with
    | true=>exact .inl ⟨_,Ad c4,rfl,rfl⟩
    | false=>exact .inr rfl
def iW:ByteArray:=⟨#[116,101,109,112]⟩
noncomputable def tg (ids:List Int) (f:Ty.d dJ):Bool:=((F3 f.1).2&&!wt ids (F3 f.1).1)||seq f.1 iW
noncomputable def qE (ids:List Int):bu→List ByteArray→List ByteArray
 | [],acc=>acc
 | f::l,acc=>qE ids l (bif tg ids f then acc++[f.1] else acc)
noncomputable def rS (d:Ty.d aA) (ids:List Int):List ByteArray:=bif gg d then qE ids d.1 [] else []
theorem GW {d:Ty.d aA} (h:gg d=true):d.1.length≤130:=by
 unfold gg at h
 rw [gX,decide_eq_true_eq] at h
 exact h.1
theorem BG {k:Nat} (hk:2 ^ 50≤k) {d:Ty.d aA} {v:Ty.d cZ} (hu:e9 d.1≤1099511627776) (hn:pU d.1≤1099511627776) (hv:v.2.1.length≤1099511627776):bR.f k d v=some (rS d v.2.1,()):=by
 unfold bR.f bR.t rS
 rw [ir hk hu hn,ae]
 cases cd:gg d with
 | false=>rfl
 | true =>
  have hl:=GW cd
  rw [fa,aL,af]
  refine dp (L:=fun n i s=>bR.l0 k n i d.1 d.2.1 d.2.2.1 d.2.2.2.1 v.1 v.2.1 s) (R:=fun r s=>some (qE v.2.1 r s,())) (Ty.z dJ) d.1 (fun i s=>(s.length:Int)≤i) (fun n s hs=>?_) (fun n i s x rest h0 h1 hx hr hs ih=>?_) (n:=k) (s:=[]) (by omega) (by simp)
  · simp (disch:=omega) only [bR.l0,bR.b0,aQ,aL,qE]
  · have hm:x ∈ d.1:=by rw [← hx];exact gl (by omega)
    have hz:=oF hm
    have iY:=ih (s++[x.1]) (by rw [bN];omega)
    have iN:=ih s (by omega)
    have key:∀ (id:Int) (is:Bool),bR.l1 k (bR.l0 k n) k i id is false 0 d.1 d.2.1 d.2.2.1 d.2.2.2.1 v.1 v.2.1 s =
     bif (is&&!wt v.2.1 id)||seq x.1 iW then bR.l0 k n (i+1) d.1 d.2.1 d.2.2.1 d.2.2.2.1 v.1 v.2.1 (s++[x.1]) else bR.l0 k n (i+1) d.1 d.2.1 d.2.2.1 d.2.2.2.1 v.1 v.2.1 s:=fun id is=>by
     refine (dp (L:=fun m j lv=>bR.l1 k (bR.l0 k n) m i id is lv j d.1 d.2.1 d.2.2.1 d.2.2.2.1 v.1 v.2.1 s) (R:=fun r lv=>bif (is&&!(lv||wt r id))||seq x.1 iW then bR.l0 k n (i+1) d.1 d.2.1 d.2.2.1 d.2.2.2.1 v.1 v.2.1 (s++[x.1]) else bR.l0 k n (i+1) d.1 d.2.1 d.2.2.1 d.2.2.2.1 v.1 v.2.1 s) (Ty.z (.int .i64)) v.2.1 (fun _ _=>True) (fun m lv _=>?_) (fun m j lv y r2 g0 g1 gx gr _ ih2=>?_) (n:=k) (s:=false) (by omega) trivial)
     · simp (disch:=first | omega | decide) only [bR.l1,bR.b1,aQ,aL,aI,hx,br,aD]
       rw [show wt [] id=false from rfl,show (⟨#[116,101,109,112]⟩:ByteArray)=iW from rfl]
       cases is <;> cases lv <;> cases seq x.1 iW <;> rfl
     · have e:wt (y::r2) id=((y==id)||wt r2 id):=rfl
       simp (disch:=omega) only [bR.l1,bR.b1,aP g1,af,aI,gx,aD,e]
       cases lv with
       | true=>exact (ih2 true trivial)
       | false =>
        have:=ih2 (y==id) trivial
        simp only [aL,Bool.false_or]
        exact this
    simp (disch:=omega) only [bR.l0,bR.b0,aP h1,af,aI,hx,GH hk,ae,key]
    rw [show qE v.2.1 (x::rest) s=qE v.2.1 rest (bif tg v.2.1 x then s++[x.1] else s) from rfl]
    unfold tg
    cases ((F3 x.1).2&&!wt v.2.1 (F3 x.1).1)||seq x.1 iW
    · exact iN
    · exact iY
theorem CN (v:Ty.d cZ):(cE v).size≤1099511627776:=by
 unfold cE
 split
 · have:=lC (oJ v);omega
 · decide
theorem uL {p:ByteArray} (hp:p=aF∨p=dH) (n:Int):(a_ p n).size≤1000:=by
 have hs:p.size≤4:=by rcases hp with q | q <;> rw [q] <;> decide
 unfold a_
 by_cases h:(1:Int)≤n∧n≤100000
 · have:=nL (n:=n) (by omega) (by omega)
   rw [aP h,af,ByteArray.size_append]
   omega
 · rw [aQ h,aL];decide
abbrev RD:=Ty.d aA × Int
def gV (r:RD) (f:Ty.d aA→RD):RD:=bif r.2==0 then f r.1 else r
def iP (c:Int):Int:=bif c==0 then 0 else bif c==1 then 1 else bif c==2 then 2 else 3
def dq:ByteArray:=⟨#[108,105,118,101]⟩
def mN (s:ByteArray) (d:Ty.d aA):RD:=bif (bm d.1 s).isSome then vF d s else (d,0)
def bO (s:ByteArray) (d:Ty.d aA):RD:=gV (mN s d) fun x=>wS x s
def lR (s t:ByteArray) (d:Ty.d aA):RD:=gV (gV (bO s d) fun x=>iS x s t) fun x=>g8 x s
def bi (v:Ty.d cZ) (d:Ty.d aA):RD:=gV (lR iW (cE v) d) fun x=>Bd x iW dq
def eS:List ByteArray→Ty.d aA→RD
 | [],d=>(d,0)
 | s::l,d=>gV (mN s d) (eS l)
noncomputable def h_ (ids:List Int) (d:Ty.d aA):RD:=eS (rS d ids) d
theorem iL (c:Int):(iP c==0)=(c==0):=by
 unfold iP
 cases h:c==0 with
 | true=>rfl
 | false =>
  cases c==1
  · cases c==2 <;> rfl
  · rfl
theorem j8 {r:RD} {f:Ty.d aA→RD} (h:DR r.1) (hf:∀ x,DR x→DR (f x).1):DR (gV r f).1:=by
 unfold gV
 cases r.2==0
 · exact h
 · exact hf _ h
theorem F1 (s:ByteArray) (d:Ty.d aA) (h:DR d):DR (mN s d).1:=by
 unfold mN
 cases (bm d.1 s).isSome
 · exact h
 · exact zy h s
theorem kC (s:ByteArray) (d:Ty.d aA) (h:DR d):DR (bO s d).1:=j8 (F1 s d h) fun x hx=>AN hx s
theorem nh (s t:ByteArray) (d:Ty.d aA) (h:DR d):DR (lR s t d).1:=j8 (j8 (kC s d h) fun x hx=>pK hx s t) fun x hx=>m6 hx s
theorem kD (v:Ty.d cZ) (d:Ty.d aA) (h:DR d):DR (bi v d).1:=j8 (nh _ _ d h) fun x hx=>Kj hx _ _
theorem kG:∀ (l:List ByteArray) (d:Ty.d aA),DR d→DR (eS l d).1
 | [],d,h=>h
 | s::l,d,h=>j8 (F1 s d h) (kG l)
theorem pu (ids:List Int) (d:Ty.d aA) (h:DR d):DR (h_ ids d).1:=kG _ d h
theorem d7 (k:Nat) (c:Int):aW.f k c=some (iP c,()):=by
 unfold aW.f aW.t iP
 cases c==0 <;> cases c==1 <;> cases c==2 <;> rfl
theorem GV {l:bu} {s:ByteArray}:decide (kY l s 0≥0)=(bm l s).isSome:=by
 rcases jp l s 0 with ⟨h1,h2,_⟩ | ⟨n,h1,h2,h3,_⟩
 · rw [h1,h2];rfl
 · rw [h2,h3,aP (by omega)];rfl
theorem Fu {l:bu} {s:ByteArray}:decide (kY l s 0<0)=!(bm l s).isSome:=by
 rcases jp l s 0 with ⟨h1,h2,_⟩ | ⟨n,h1,h2,h3,_⟩
 · rw [h1,h2];rfl
 · rw [h2,h3,aQ (by omega)];rfl
theorem mc {k:Nat} (hk:2 ^ 50≤k) {d:Ty.d aA} (h:DR d) {s:ByteArray} (hs:s.size≤1099511627776):dV.f k d s=some ((bO s d).1,((bO s d).2,())):=by
 have hl:=h.sz.l
 unfold dV.f dV.t bO mN
 rw [iD hk (by omega),ae]
 simp only [GV]
 cases (bm d.1 s).isSome with
 | false =>
  simp only [aL]
  rw [sC hk h.sz hs]
  rfl
 | true =>
  simp only [af]
  rw [ru hk h.sz,ae]
  unfold gV
  simp only [bne]
  cases c:(vF d s).2==0 with
  | false=>rfl
  | true =>
   simp only [fa,aL,af]
   rw [sC hk (zy h s).sz hs]
   rfl
theorem uK {k:Nat} (hk:2 ^ 50≤k) {d:Ty.d aA} (h:DR d) {s t:ByteArray} (hs:s.size≤1099511627776) (ht:t.size≤1099511627776):gU.f k d s t=some ((lR s t d).1,((lR s t d).2,())):=by
 have h1:=kC s d h
 unfold gU.f gU.t lR
 rw [mc hk h hs,ae]
 simp only []
 generalize bO s d=r at h1 ⊢
 unfold gV
 cases c:r.2==0 with
 | false=>simp only [aL,c]
 | true =>
  simp only [af]
  rw [pP hk h1.sz s ht,ae]
  simp only []
  cases c2:(iS r.1 s t).2==0 with
  | false=>rfl
  | true =>
   simp only [af]
   rw [lq hk (pK h1 s t).sz]
   rfl
theorem mu {k:Nat} (hk:2 ^ 50≤k) {d:Ty.d aA} (h:DR d) {v:Ty.d cZ} (hv:cH v=true):eG.f k d v=some ((bi v d).1,(iP (bi v d).2,())):=by
 have hu:=h.sz.u
 have hn:=h.sz.n
 have h1:=nh iW (cE v) d h
 unfold eG.f eG.t bi
 rw [ir hk (by omega) (by omega),ae,j9.2 h]
 simp only [fa,aL]
 rw [nn hk,ae,hv]
 simp only [fa,aL]
 rw [kr hk,ae,show (⟨#[116,101,109,112]⟩:ByteArray)=iW from rfl,show (⟨#[108,105,118,101]⟩:ByteArray)=dq from rfl]
 simp only []
 rw [uK hk h (s:=iW) (t:=cE v) (by decide) (CN v),ae]
 simp only []
 generalize lR iW (cE v) d=r at h1 ⊢
 unfold gV
 cases c:r.2==0 with
 | false=>simp only [aL,d7,ae]
 | true =>
  simp only [af]
  rw [DX hk h1.sz iW (b:=dq) (by decide),ae]
  simp only [d7,ae]
theorem mf {k:Nat} (hk:2 ^ 50≤k) {d:Ty.d aA} (h:DR d) {l:List ByteArray} (hl:l.length≤1073741824):bx.f k d l=some ((eS l d).1,((eS l d).2,())):=by
 unfold bx.f bx.t
 refine dp (L:=fun n i (x:Ty.d aA)=>bx.l0 k n l i x.1 x.2.1 x.2.2.1 x.2.2.2.1 [] 0 0 false) (R:=fun r x=>some ((eS r x).1,((eS r x).2,()))) (Ty.z .str) l (fun _ x=>DR x) (fun n x hx=>?_) (fun n i x y rest h0 h1 hy hr hx ih=>?_) (n:=k) (s:=d) (by omega) h
 · simp only [bx.l0,bx.b0]
   rw [aQ (by omega),aL]
   rfl
 · have hlx:=hx.sz.l
   simp only [bx.l0,bx.b0]
   rw [aP h1,af,aI h0 h1,hy,show (x.1,(x.2.1,(x.2.2.1,(x.2.2.2.1,()))))=x from rfl,iD hk (by omega),ae,aI h0 h1,aD (n:=i+1) (by omega) (by omega)]
   simp only [Fu,eS,mN,gV]
   cases (bm x.1 y).isSome with
   | false =>
    simp only [ul,af,aL]
    exact ih x hx
   | true =>
    simp only [fa,aL,af]
    rw [ru hk hx.sz,ae]
    simp only [bne]
    cases c:(vF x y).2==0 with
    | false=>rfl
    | true =>
     simp only [fa,aL,af]
     exact ih _ (zy hx y)
theorem C6 (ids:List Int):∀ (l:bu) (acc:List ByteArray),qE ids l acc=acc++(l.filter (tg ids)).map (·.1)
 | [],acc=>by unfold qE;simp
 | f::l,acc=>by
  unfold qE
  rw [C6 ids l]
  cases c:tg ids f
  · rw [aL,List.filter_cons_of_neg (by rw [c];decide)]
  · rw [af,List.filter_cons_of_pos c,List.map_cons,nQ];rfl
theorem HT {d:Ty.d aA} (ids:List Int):(rS d ids).Sublist (lW d.1):=by
 unfold rS
 cases gg d
 · exact List.nil_sublist _
 · rw [af,C6,List.nil_append]
   exact (List.filter_sublist).map _
theorem vZ {l:bu} {s t:ByteArray} (h:t≠s):bm (kO l s) t=bm l t:=by
 induction l with
 | nil=>rfl
 | cons g l ih =>
  unfold kO
  cases c:seq g.1 s with
  | true =>
   rw [af,bm.eq_2,kZ (fun q=>h (by rw [← q,dy.1 c])),aL]
  | false =>
   rw [aL,bm.eq_2,bm.eq_2,ih]
theorem Iy {l:bu} {s:ByteArray} (h:s ∈ lW l):(bm l s).isSome=true:=by
 cases q:bm l s with
 | some f=>rfl
 | none =>
  obtain ⟨f,h1,h2⟩:=List.mem_map.1 h
  exact absurd h2 (qb.1 q f h1)
theorem HN {d:Ty.d aA} {s t:ByteArray} (h:t≠s) (ht:(bm d.1 t).isSome=true):(bm (vF d s).1.1 t).isSome=true:=by
 unfold vF j4
 cases (jZ d).2 != 0 with
 | true=>rw [af,p9];exact ht
 | false =>
  show (bm (CU s d.1 d.2.1).1 t).isSome=true
  unfold CU
  cases (bm d.1 s).isNone
  · show (bm (kO d.1 s) t).isSome=true
    rw [vZ h]
    exact ht
  · exact ht
theorem tN {k:Nat} (hk:2 ^ 50≤k) {d:Ty.d aA} (h:DR d) {v:Ty.d cZ} (hv:v.2.1.length≤1099511627776):bo.f k d v=some ((h_ v.2.1 d).1,(iP (h_ v.2.1 d).2,())):=by
 have hu:=h.sz.u
 have hn:=h.sz.n
 have hl:=h.len
 have hsub:=HT (d:=d) v.2.1
 have hlen:=hsub.length_le
 unfold lW at hlen
 rw [List.length_map] at hlen
 have hne:(rS d v.2.1).Pairwise (fun a b=>a≠b):=(List.Pairwise.sublist hsub h.keys).imp fun {a b} q e=>by rw [e,pN] at q;cases q
 have hall:∀ s ∈ rS d v.2.1,(bm d.1 s).isSome=true:=fun s hs=>Iy (hsub.subset hs)
 unfold bo.f bo.t h_
 rw [BG hk (by omega) (by omega) hv,ae]
 simp only []
 generalize rS d v.2.1=l at hlen hne hall ⊢
 refine dp (L:=fun n i (x:Ty.d aA)=>bo.l0 k n i x.1 x.2.1 x.2.2.1 x.2.2.2.1 [] 0 0 false l) (R:=fun r x=>some ((eS r x).1,(iP (eS r x).2,()))) (Ty.z .str) l (fun i x=>DR x∧∀ s ∈ l.drop i.toNat,(bm x.1 s).isSome=true) (fun n x hx=>?_) (fun n i x y rest h0 h1 hy hr hx ih=>?_) (n:=k) (s:=d) (by omega) ⟨h,fun s hs=>hall s (List.mem_of_mem_drop hs)⟩
 · simp only [bo.l0,bo.b0]
   rw [aQ (by omega),aL]
   rfl
 · obtain ⟨hd,ha⟩:=hx
   have hp:(y::rest).Pairwise (fun a b=>a≠b):=by rw [← hr];exact hne.drop
   have hdr:l.drop (i+1).toNat=rest:=by
    have:=congrArg (List.drop 1) hr
    rw [List.drop_drop,List.drop_one,List.tail_cons] at this
    rw [show (i+1).toNat=i.toNat+1 by omega]
    exact this
   have hy1:(bm x.1 y).isSome=true:=ha y (by rw [hr];exact jo ..)
   simp only [bo.l0,bo.b0]
   rw [aP h1,af,aI h0 h1,hy,show (x.1,(x.2.1,(x.2.2.1,(x.2.2.2.1,()))))=x from rfl,ru hk hd.sz,ae,aD (n:=i+1) (by omega) (by omega)]
   simp only [eS,mN,gV,hy1,af,bne,d7]
   cases c:(vF x y).2==0 with
   | false=>rfl
   | true =>
    simp only [fa,aL,af]
    refine ih (vF x y).1 ⟨zy hd y,fun s hs=>?_⟩
    rw [hdr] at hs
    exact HN (fun e=>(List.pairwise_cons.1 hp).1 s hs e.symm) (ha s (by rw [hr];exact lV _ hs))
abbrev jH:=List (Ty.d bB)
def fM (kind batch:Int) (l:jH):Ty.d bB:=(kind,(batch,(ByteArray.empty,(ByteArray.empty,((l.length:Int),(v7 l,()))))))
theorem uO {k:Nat} (hk:2 ^ 50≤k) {l:jH} (hl:l.length≤1073741824) (b kd:Int):gY.f k l b kd=some (fM kd b l,()):=by
 unfold gY.f gY.t
 rw [pF hk hl,ae]
 rfl
abbrev i7:=List (Ty.d aK)
def lU (s:ByteArray):Bool:=decide (1≤(s.size:Int)∧(s.size:Int)≤8)
def bH (p:Ty.d aK):Ty.d bB:=(4,(p.2.2.1,(p.1,(p.2.1,(0,(0,()))))))
def jm (l:i7) (mark:Int):jH:=l.map bH++[fM 5 mark (l.map bH)]
def ab:jH→ByteArray
 | []=>⟨#[]⟩
 | r::l=>aS (aG r)++ab l
theorem nl:∀ l m:jH,ab (l++m)=ab l++ab m
 | [],m=>by rw [List.nil_append,ab,ng]
 | r::l,m=>by rw [List.cons_append,ab,nl l m,ab,am]
abbrev aT:=List (Ty.d aB)
noncomputable def du (s:ByteArray) (i n:Int):Ty.d bB × Bool :=
 if 0≤i∧i≤s.size∧1≤n∧n≤s.size-i then (if (fv (ByteArray.extract s i.toNat (i+n).toNat)).2=n then gM (fv (ByteArray.extract s i.toNat (i+n).toNat)).1 else (rr,false)) else (rr,false)
theorem Dc {s:ByteArray} (h:(gM s).2=false):gM s=(rr,false):=Et h
theorem zr (s:ByteArray) (i j:Nat):(ByteArray.extract s i j).size≤s.size:=by
 rw [← cO,rh,List.length_drop,List.length_take,cO];omega
theorem tE {k:Nat} (hk:2 ^ 50≤k) {s:ByteArray} (i n:Int) (hs:s.size≤1099511627775):j3.f k s i n=some ((du s i n).1,((du s i n).2,())):=by
 unfold j3.f j3.t du
 rw [na,ae]
 by_cases c1:0≤i∧i≤s.size
 case neg=>rw [aQ c1,if_neg (fun h=>c1 ⟨h.1,h.2.1⟩)];rfl
 rw [aP c1,fa,aL,na,ae,aD (by omega) (by omega)]
 by_cases c2:1≤n∧n≤s.size-i
 case neg=>rw [aQ c2,if_neg (fun h=>c2 ⟨h.2.2.1,h.2.2.2⟩)];rfl
 have hz:=zr s i.toNat (i+n).toNat
 have hu:=lm (ByteArray.extract s i.toNat (i+n).toNat)
 rw [aP c2,fa,aL,aD (by omega) (by omega),tG (by omega) (by omega) (by omega),if_pos ⟨c1.1,c1.2,c2⟩,lN hk (by omega),ae]
 simp only []
 rw [qP hk (by omega),ae]
 by_cases c3:(fv (ByteArray.extract s i.toNat (i+n).toNat)).2=n
 · rw [if_pos c3]
   simp only [show ((fv (ByteArray.extract s i.toNat (i+n).toNat)).2 != n)=false by rw [c3];simp,aL]
   cases c4:(gM (fv (ByteArray.extract s i.toNat (i+n).toNat)).1).2 with
   | true=>rfl
   | false=>rw [Dc c4];rfl
 · rw [if_neg c3]
   simp only [show ((fv (ByteArray.extract s i.toNat (i+n).toNat)).2 != n)=true from bne_iff_ne.2 c3,af]
theorem sj {k:Nat} (hk:2 ^ 50≤k) {s:ByteArray} (i n:Int) (hs:s.size≤1099511627775):iw.f k s i n=some ((du s i n).1,((du s i n).2,())):=by
 unfold iw.f iw.t du
 rw [tJ,ae]
 by_cases c1:0≤i∧i≤s.size
 case neg=>rw [aQ c1,if_neg (fun h=>c1 ⟨h.1,h.2.1⟩)];rfl
 rw [aP c1,fa,aL,tJ,ae,aD (by omega) (by omega)]
 by_cases c2:0≤n∧n≤s.size-i
 case neg=>rw [aQ c2,if_neg (fun h=>c2 ⟨by omega,h.2.2.2⟩)];rfl
 have hz:=zr s i.toNat (i+n).toNat
 have hu:=lm (ByteArray.extract s i.toNat (i+n).toNat)
 have hsz:(ByteArray.extract s i.toNat (i+n).toNat).size≤(i+n).toNat-i.toNat:=by rw [← cO,rh,List.length_drop,List.length_take];omega
 rw [aP c2,fa,aL,aD (by omega) (by omega),tG (by omega) (by omega) (by omega),qa hk (by omega),ae]
 simp only []
 by_cases c0:(fv (ByteArray.extract s i.toNat (i+n).toNat)).2=0
 · rw [show ((fv (ByteArray.extract s i.toNat (i+n).toNat)).2==0)=true by rw [c0];rfl,af]
   split
   · rename_i h
     rw [if_neg (by omega)]
   · rfl
 · rw [show ((fv (ByteArray.extract s i.toNat (i+n).toNat)).2==0)=false from mP c0,aL,if_pos ⟨c1.1,c1.2,by omega,c2.2⟩]
   by_cases c3:(fv (ByteArray.extract s i.toNat (i+n).toNat)).2=n
   · rw [if_pos c3]
     simp only [show ((fv (ByteArray.extract s i.toNat (i+n).toNat)).2 != n)=false by rw [c3];simp,aL]
     rw [pm hk (by omega),ae]
   · rw [if_neg c3]
     simp only [show ((fv (ByteArray.extract s i.toNat (i+n).toNat)).2 != n)=true from bne_iff_ne.2 c3,af]
end Go.Proofs.YthjppgafienaoabGreatDoor.G

/- Plain laws, merged; what is proved here is told ahead of each part. -/
import Derived.Test.YtnpijgnfpdcjbaaGreatDoorZOE
import Derived.Lib.ItoaNum
import Derived.Lib.AtoiAll
import Derived.Lib.AtoiAllCases
import Derived.Test.YtnpijgnfpdcjbaaGreatDoorVPure
import Derived.Test.YtnpijgnfpdcjbaaGreatDoorXLib
namespace Go.V
theorem ab {α β:Type} {a:α} {f:α→Option β}:Option.bind (some a) f=f a:=rfl
theorem aK {α:Type} {a b:α}:cond false a b=b:=rfl
theorem ac {α:Type} {a b:α}:cond true a b=a:=rfl
theorem fh:(!true)=false:=rfl
theorem tn:(!false)=true:=rfl
theorem mF {α:Type} [BEq α] [LawfulBEq α] {a b:α} (h:a≠b):(a==b)=false:=beq_eq_false_iff_ne.2 h
theorem nt (i:Nat):Int.toNat (i:Int)=i:=Int.toNat_natCast i
theorem kJ {α:Type} {a:α} {l:List α}:(a::l).length=l.length+1:=rfl
theorem u7 {α:Type} {l m:List α}:(l++m).length=l.length+m.length:=List.length_append
theorem nn {α:Type} (l m n:List α):l++m++n=l++(m++n):=List.append_assoc l m n
theorem Hi {α:Type} [BEq α] [LawfulBEq α] {a b:α} (h:(a==b)=true):a=b:=beq_iff_eq.1 h
theorem gN (a b:Bool):((a&&b)=true)=(a=true∧b=true):=Bool.and_eq_true a b
theorem jd {α:Type} {a:α} {l:List α}:a ∈ a::l:=List.mem_cons_self
theorem lK {α:Type} (y:α) {a:α} {l:List α} (h:a ∈ l):a ∈ y::l:=List.mem_cons_of_mem y h
theorem aO {p:Prop} [Decidable p] (h:p):decide p=true:=decide_eq_true h
theorem aP {p:Prop} [Decidable p] (h:¬ p):decide p=false:=decide_eq_false h
theorem cD {R:Type} {b n:Nat} {k:Option R} (h:n≤1099511627776) (hb:b≤128):rm b n k=k :=
 Kj (Nat.le_trans (Nat.mul_le_mul h hb) (by decide)) (by omega)
theorem e9 {R:Type} {a b:ByteArray} {k:Option R} (h:a.size+b.size≤4611686018427387904):kY a b k=k:=AO (by omega)
theorem zx {R:Type} {b:Nat} {n:Int} {k:Option R} (h0:0≤n) (h:n≤1099511627776) (hb:b≤128):uv b n k=k :=
 DV h0 (Nat.le_trans (Nat.mul_le_mul (show n.toNat≤1099511627776 by omega) hb) (by decide)) (by omega)
theorem vF {n:Int} (h0:0≤n) (h1:n≤4294967295):IntKind.wrap .u32 n=n:=by
 unfold IntKind.wrap
 simp [IntKind.bits,IntKind.signed]
 omega
theorem nZ {n:Int} (h0:0≤n) (h1:n≤255):IntKind.wrap .u8 n=n:=by
 unfold IntKind.wrap
 simp [IntKind.bits,IntKind.signed]
 omega
theorem KA {α:Type} {g:Nat→Option α} {r:α} (h:∀ k,2 ^ 50≤k→g k=some r):Ev g r:=⟨2 ^ 50,h⟩
section
variable {α σ ρ:Type}
theorem Km {L:Nat→σ→Option ρ} {R:σ→Option ρ} (μ:σ→Nat) (P:σ→Prop)
 (h:∀ n s,P s→(∀ s',P s'→μ s' < μ s→L n s'=R s')→L (n+1) s=R s):∀ n s,P s→μ s<n→L n s=R s
 | 0,s,_,hn=>by omega
 | n+1,s,hs,hn=>h n s hs fun s' h1 h2=>Km μ P h n s' h1 (by omega)
theorem JZ {L:Nat→Int→σ→Option ρ} {R:Int→σ→Option ρ} (N:Int) (P:Int→σ→Prop)
 (h0:∀ (n:Nat) s,P N s→L (n+1) N s=R N s)
 (h1:∀ (n:Nat) (i:Int) s,0≤i→i<N→P i s→(∀ s',P (i+1) s'→L n (i+1) s'=R (i+1) s')→L (n+1) i s=R i s) :
 ∀ (n:Nat) (i:Int) s,0≤i→i≤N→N-i<n→P i s→L n i s=R i s
 | 0,i,s,hi,hN,hn,_=>by omega
 | n+1,i,s,hi,hN,hn,hs=>by
  by_cases c:i=N
  · subst c;exact h0 n s hs
  · exact h1 n i s hi (by omega) hs fun s' q=>JZ N P h0 h1 n (i+1) s' (by omega) (by omega) (by omega) q
theorem GY {L:Nat→Int→σ→Option ρ} {R:List α→σ→Option ρ} (z:α) (l:List α) (P:Int→σ→Prop)
 (h0:∀ (n:Nat) s,P l.length s→L (n+1) l.length s=R [] s)
 (h1:∀ (n:Nat) (i:Int) s x rest,0≤i→i<l.length→l.getD i.toNat z=x→l.drop i.toNat=x::rest→P i s→(∀ s',P (i+1) s'→L n (i+1) s'=R rest s')→L (n+1) i s=R (x::rest) s) :
 ∀ (n:Nat) (i:Int) s,0≤i→i≤l.length→(l.length:Int)-i<n→P i s→L n i s=R (l.drop i.toNat) s:=by
 intro n i s hi hN hn hs
 refine JZ (L:=L) (R:=fun i s=>R (l.drop i.toNat) s) l.length P (fun n s q=>?_) (fun n i s hi hlt q ih=>?_) n i s hi hN hn hs
 · rw [h0 n s q,Int.toNat_natCast,List.drop_length]
 · have hl:i.toNat<l.length:=by omega
   have e:l.drop i.toNat=l.getD i.toNat z::l.drop (i+1).toNat:=by
    rw [List.drop_eq_getElem_cons hl,show (i+1).toNat=i.toNat+1 by omega]
    simp [List.getD,hl]
   show _=R (l.drop i.toNat) s
   rw [e]
   exact h1 n i s _ _ hi hlt rfl e q ih
theorem e_ {L:Nat→Int→σ→Option ρ} {R:List α→σ→Option ρ} (z:α) (l:List α) (P:Int→σ→Prop)
 (h0:∀ (n:Nat) s,P l.length s→L (n+1) l.length s=R [] s)
 (h1:∀ (n:Nat) (i:Int) s x rest,0≤i→i<l.length→l.getD i.toNat z=x→l.drop i.toNat=x::rest→P i s→(∀ s',P (i+1) s'→L n (i+1) s'=R rest s')→L (n+1) i s=R (x::rest) s)
 {n:Nat} {s:σ} (hn:l.length<n) (hs:P 0 s):L n 0 s=R l s:=by
 have:=GY z l P h0 h1 n 0 s (by omega) (by omega) (by omega) hs
 simpa using this
end
theorem kK {a b:ByteArray} (h:a≠b):seq a b=false:=by
 cases c:seq a b
 · rfl
 · exact absurd (dr.1 c) h
theorem IZ {a b:ByteArray} (h:a=b):seq a b=true:=dr.2 h
theorem E6 (a b:ByteArray):seq a b=decide (a=b):=by
 by_cases h:a=b
 · rw [IZ h,aO h]
 · rw [kK h,aP h]
theorem IG {α:Type} {l:List α} {i:Nat} {x:α} {rest:List α} (h:l.drop i=x::rest):i<l.length:=by
 rcases Nat.lt_or_ge i l.length with q | q
 · exact q
 · rw [List.drop_eq_nil_of_le q] at h;cases h
def vl:Nat→Nat→List Nat
 | 0,a=>[a]
 | d+1,a=>if a≥128 then (128+a % 128)::vl d (a/128) else [a]
def qp:List Nat→Nat
 | []=>0
 | b::p=>b % 128+128*qp p
def pP:List Nat→Bool
 | []=>false
 | [b]=>decide (b<128)
 | b::c::p=>decide (128≤b)&&(decide (b<256)&&(pP (c::p)&&!(decide (p=[])&&c==0)))
theorem v8:∀ (d a:Nat),a<128 ^ (d+1)→pP (vl d a)=true∧qp (vl d a)=a∧(vl d a=[0]→a=0)
 | 0,a,h=>by
  have:a<128:=by simpa using h
  refine ⟨by simp [vl,pP,this],by simp [vl,qp];omega,fun q=>by simpa [vl] using q⟩
 | d+1,a,h=>by
  unfold vl
  by_cases c:a≥128
  · rw [if_pos c]
    obtain ⟨h1,h2,h3⟩:=v8 d (a/128) (by rw [Nat.pow_succ] at h;omega)
    refine ⟨?_,by rw [qp,h2];omega,fun q=>by have:=(List.cons.inj q).1;omega⟩
    generalize vl d (a/128)=l at h1 h2 h3
    match l,h1 with
    | x::p,h1 =>
     simp only [pP,h1]
     have e1:decide (128≤128+a % 128)=true:=decide_eq_true (by omega)
     have e2:decide (128+a % 128<256)=true:=decide_eq_true (by omega)
     rw [e1,e2]
     cases hp:(decide (p=[])&&x==0)
     · rfl
     · simp only [gN,decide_eq_true_eq,beq_iff_eq] at hp
       have:=h3 (by rw [hp.1,hp.2])
       omega
  · rw [if_neg c]
    have:a<128:=by omega
    exact ⟨by simp [pP,this],by simp [qp];omega,fun q=>by simpa using q⟩
theorem Am:∀ (p:List Nat),pP p=true→p≠[0]→1≤qp p
 | [],h,_=>by simp [pP] at h
 | [b],h,q=>by
  simp only [pP,decide_eq_true_eq] at h
  simp only [qp]
  have:b≠0:=fun e=>q (by rw [e])
  omega
 | b::c::p,h,_=>by
  simp only [pP,gN,decide_eq_true_eq,Bool.not_eq_true'] at h
  have ih:=Am (c::p) h.2.2.1 (fun e=>by
   have e1:c=0:=(List.cons.inj e).1
   have e2:p=[]:=(List.cons.inj e).2
   have:=h.2.2.2
   rw [e1,e2] at this
   simp at this)
  rw [qp]
  omega
theorem zY:∀ (d:Nat) (p:List Nat),pP p=true→p.length≤d+1→vl d (qp p)=p
 | _,[],h,_=>by simp [pP] at h
 | 0,[b],h,_=>by
  simp only [pP,decide_eq_true_eq] at h
  simp [vl,qp];omega
 | d+1,[b],h,_=>by
  simp only [pP,decide_eq_true_eq] at h
  have e:qp [b]=b:=by simp [qp];omega
  rw [e,vl,if_neg (by omega)]
 | 0,b::c::p,_,hl=>by simp at hl
 | d+1,b::c::p,h,hl=>by
  have h0:=h
  simp only [pP,gN,decide_eq_true_eq,Bool.not_eq_true'] at h
  have hp:=Am (c::p) h.2.2.1 (fun e=>by
   have e1:c=0:=(List.cons.inj e).1
   have e2:p=[]:=(List.cons.inj e).2
   have:=h.2.2.2
   rw [e1,e2] at this
   simp at this)
  have ih:=zY d (c::p) h.2.2.1 (by simp at hl ⊢;omega)
  rw [qp,vl,if_pos (by omega)]
  rw [show (b % 128+128*qp (c::p))/128=qp (c::p) by omega,ih]
  congr 1
  omega
theorem Bi:∀ (p:List Nat) (b:Nat),qp (p++[b])=qp p+128 ^ p.length*(b % 128)
 | [],b=>by simp [qp]
 | a::p,b=>by
  rw [List.cons_append,qp,Bi p b,qp,kJ,Nat.pow_succ,Nat.mul_add,Nat.mul_comm (128 ^ p.length) 128,Nat.mul_assoc]
  omega
theorem A5:∀ (p:List Nat),qp p<128 ^ p.length
 | []=>by simp [qp]
 | a::p=>by
  have:=A5 p
  rw [qp,kJ,Nat.pow_succ]
  omega
def nb (s:ByteArray):List Nat:=s.data.toList.map UInt8.toNat
theorem cM (s:ByteArray):(nb s).length=s.size:=by
 unfold nb
 rw [List.length_map,Array.length_toList]
 rfl
theorem J9 {s:ByteArray} {x:Nat} (h:x ∈ nb s):x<256:=by
 unfold nb at h
 rw [List.mem_map] at h
 obtain ⟨y,_,rfl⟩:=h
 exact UInt8.toNat_lt y
theorem jV {a b:ByteArray} (h:nb a=nb b):a=b:=by
 unfold nb at h
 have h1:a.data.toList=b.data.toList:=List.map_inj_right (fun x y e=>UInt8.toNat_inj.1 e) |>.1 h
 exact ByteArray.ext (Array.toList_inj.1 h1)
theorem wa {s:ByteArray} {i:Nat} (h:i<s.size):dc s (i:Int)=(((nb s).getD i 0:Nat):Int):=by
 unfold dc nb
 have h1:i<s.data.toList.length:=by rw [Array.length_toList];exact h
 rw [Int.toNat_natCast,List.getD,List.getD,List.getElem?_map,List.getElem?_eq_getElem h1]
 rfl
theorem BG {l:List Nat} (h:∀ x ∈ l,x<256):nb (bytesOf (l.map Int.ofNat))=l:=by
 unfold nb bytesOf
 simp only [List.map_map,List.toList_toArray]
 induction l with
 | nil=>rfl
 | cons x l ih =>
  rw [List.map_cons,ih (fun y hy=>h y (lK _ hy))]
  have:=h x (jd ..)
  congr 1
  show (UInt8.ofNat (Int.toNat (x:Int))).toNat=x
  rw [Int.toNat_natCast]
  simp
  omega
theorem jf (s:ByteArray) (n:Nat):nb (ByteArray.extract s 0 n)=(nb s).take n:=by
 unfold nb
 simp [ByteArray.data_extract,List.map_take]
theorem J_:∀ (d a:Nat),a<128 ^ (d+1)→∀ x ∈ vl d a,x<256
 | 0,a,h,x,hx=>by simp [vl] at hx;subst hx;simp at h;omega
 | d+1,a,h,x,hx=>by
  unfold vl at hx
  split at hx
  · rcases List.mem_cons.1 hx with q | q
    · subst q;omega
    · exact J_ d _ (by rw [Nat.pow_succ] at h;omega) x q
  · simp at hx;subst hx;omega
def bB (a:Nat):ByteArray:=bytesOf ((vl 6 a).map Int.ofNat)
theorem sg {a:Nat} (h:a<562949953421312):nb (bB a)=vl 6 a:=BG (J_ 6 a (by rw [show (128:Nat) ^ (6+1)=562949953421312 by decide];exact h))
theorem FR {s:ByteArray} {n:Nat} (h0:1≤n) (h7:n≤7) (hs:n≤s.size):seq (bB (qp ((nb s).take n))) (ByteArray.extract s 0 n)=pP ((nb s).take n):=by
 have hl:((nb s).take n).length=n:=by rw [List.length_take,cM];omega
 have hd:qp ((nb s).take n)<562949953421312:=by
  have:=A5 ((nb s).take n)
  rw [hl] at this
  have h2:(128:Nat) ^ n≤128 ^ 7:=Nat.pow_le_pow_right (by decide) h7
  rw [show (128:Nat) ^ 7=562949953421312 by decide] at h2
  omega
 rw [Bool.eq_iff_iff,dr]
 constructor
 · intro e
   have e1:nb (bB (qp ((nb s).take n)))=(nb s).take n:=by rw [e,jf]
   rw [sg hd] at e1
   have:=(v8 6 (qp ((nb s).take n)) (by rw [show (128:Nat) ^ (6+1)=562949953421312 by decide];exact hd)).1
   rw [e1] at this
   exact this
 · intro c
   refine jV ?_
   rw [sg hd,jf]
   exact zY 6 _ c (by omega)
open Go
def gQ (n:Int):ByteArray:=⟨(Lib.itoa n).toArray⟩
def rZ (u:Nat):List UInt8:=if u=0 then [] else Lib.decDigits u
theorem G3:rZ 0=[]:=rfl
theorem pT {u:Nat} (h:u≠0):rZ u=Lib.decDigits u:=if_neg h
theorem F_ {u:Nat} (h:u≠0):rZ u=rZ (u/10)++[UInt8.ofNat (48+u % 10)]:=by
 rw [pT h,Lib.decDigits]
 by_cases c:u<10
 · rw [dif_pos c,show u/10=0 by omega,G3,List.nil_append,Nat.mod_eq_of_lt c]
 · rw [dif_neg c,pT (by omega)]
theorem sB (u:Nat):Lib.decDigits u≠[]:=by
 rw [Lib.decDigits]
 split <;> simp
theorem xW:Lib.decDigits 0=[48]:=by
 rw [Lib.decDigits,dif_pos (by omega)]
 rfl
theorem qb {d:Nat} (h:d<10):(UInt8.ofNat (48+d)).toNat=48+d:=by
 simp
 omega
theorem mJ (u:Nat):∀ b ∈ Lib.decDigits u,48≤b.toNat∧b.toNat≤57:=by
 induction u using Nat.strongRecOn with
 | _ u ih =>
  intro b hb
  rw [Lib.decDigits] at hb
  split at hb
  · rename_i h
    rw [List.mem_singleton] at hb
    subst hb
    rw [qb h]
    omega
  · rename_i h
    rcases List.mem_append.1 hb with q | q
    · exact ih (u/10) (by omega) b q
    · rw [List.mem_singleton] at q
      subst q
      rw [qb (by omega)]
      omega
def qB:List Nat→Nat→Nat
 | [],a=>a
 | b::l,a=>qB l (a*10+(b-48))
theorem yQ:∀ (l m:List Nat) (a:Nat),qB (l++m) a=qB m (qB l a)
 | [],m,a=>rfl
 | b::l,m,a=>yQ l m _
theorem qQ (u:Nat):qB ((Lib.decDigits u).map UInt8.toNat) 0=u:=by
 induction u using Nat.strongRecOn with
 | _ u ih =>
  rw [Lib.decDigits]
  split
  · rename_i h
    simp only [List.map_cons,List.map_nil,qB,qb h]
    omega
  · rename_i h
    rw [List.map_append,yQ,ih (u/10) (by omega)]
    simp only [List.map_cons,List.map_nil,qB,qb (show u % 10<10 by omega)]
    omega
theorem hF:∀ (k u:Nat),u<10 ^ (k+1)→(Lib.decDigits u).length≤k+1
 | 0,u,h=>by
  rw [Lib.decDigits,dif_pos (by simpa using h)]
  simp
 | k+1,u,h=>by
  rw [Lib.decDigits]
  split
  · simp
  · have:=hF k (u/10) (by rw [Nat.pow_succ] at h;omega)
    rw [u7]
    show _+1≤_
    omega
theorem oZ (n:Int):nb (gQ n)=if n<0 then 45::(Lib.decDigits n.natAbs).map UInt8.toNat else (Lib.decDigits n.toNat).map UInt8.toNat:=by
 unfold nb gQ Lib.itoa
 split <;> simp
theorem vK {a b:Int} (h:gQ a=gQ b):a=b:=by
 have h1:=congrArg nb h
 rw [oZ,oZ] at h1
 have hd:∀ u:Nat,∀ l,(Lib.decDigits u).map UInt8.toNat≠45::l:=fun u l q=>by
  have hm:(45:Nat) ∈ (Lib.decDigits u).map UInt8.toNat:=by rw [q];exact jd ..
  obtain ⟨x,hx,e⟩:=List.mem_map.1 hm
  have:=mJ u x hx
  omega
 by_cases ca:a<0
 · rw [if_pos ca] at h1
   by_cases cb:b<0
   · rw [if_pos cb] at h1
     have h2:=(List.cons.inj h1).2
     have h3:=congrArg (fun l=>qB l 0) h2
     simp only [qQ] at h3
     omega
   · rw [if_neg cb] at h1
     exact absurd h1.symm (hd _ _)
 · rw [if_neg ca] at h1
   by_cases cb:b<0
   · rw [if_pos cb] at h1
     exact absurd h1 (hd _ _)
   · rw [if_neg cb] at h1
     have h3:=congrArg (fun l=>qB l 0) h1
     simp only [qQ] at h3
     omega
theorem Fo {n:Int} (h0 : -1000000000<n) (h1:n<1000000000):(gQ n).size≤10:=by
 rw [← cM,oZ]
 split
 · have:=hF 8 n.natAbs (by rw [show (10:Nat) ^ (8+1)=1000000000 by decide];omega)
   rw [kJ,List.length_map]
   omega
 · have:=hF 8 n.toNat (by rw [show (10:Nat) ^ (8+1)=1000000000 by decide];omega)
   rw [List.length_map]
   omega
theorem C3 (n:Int) (h0 : -9223372036854775808≤n) (h1:n≤9223372036854775807):(gQ n).size≤20:=by
 rw [← cM,oZ]
 split
 · have:=hF 18 n.natAbs (by rw [show (10:Nat) ^ (18+1)=10000000000000000000 by decide];omega)
   rw [kJ,List.length_map]
   omega
 · have:=hF 18 n.toNat (by rw [show (10:Nat) ^ (18+1)=10000000000000000000 by decide];omega)
   rw [List.length_map]
   omega
section
variable {α ρ:Type}
def nC (ok:Option α→α→Bool):Option α→List α→Bool
 | _,[]=>true
 | p,x::l=>ok p x&&nC ok (some x) l
theorem pn {L:Nat→Int→Option ρ} (z:α) (l:List α) (ok:Option α→α→Bool) (yes no:Option ρ) (h0:∀ (n:Nat),L (n+1) l.length=yes)
 (h1:∀ (n:Nat) x,0<l.length→l.getD (Int.toNat 0) z=x→L (n+1) 0=bif ok none x then L n 1 else no)
 (h2:∀ (n:Nat) (i:Int) x y,0<i→i<l.length→l.getD i.toNat z=x→l.getD (i-1).toNat z=y→L (n+1) i=bif ok (some y) x then L n (i+1) else no)
 {n:Nat} (hn:l.length<n):L n 0=bif nC ok none l then yes else no:=by
 have key:∀ (d i n:Nat),l.length=i+d→0<i→d<n→L n (i:Int)=bif nC ok (some (l.getD (i-1) z)) (l.drop i) then yes else no:=by
  intro d
  induction d with
  | zero =>
   intro i n h h' hn
   obtain ⟨n,rfl⟩:∃ q,n=q+1:=⟨n-1,by omega⟩
   have:i=l.length:=by omega
   subst this
   rw [h0 n,List.drop_length]
   rfl
  | succ d ih =>
   intro i n h h' hn
   obtain ⟨n,rfl⟩:∃ q,n=q+1:=⟨n-1,by omega⟩
   have hl:i<l.length:=by omega
   have e:l.drop i=l.getD i z::l.drop (i+1):=by
    rw [List.drop_eq_getElem_cons hl]
    simp [List.getD,hl]
   have ih:=ih (i+1) n (by omega) (by omega) (by omega)
   rw [h2 n i (l.getD i z) (l.getD (i-1) z) (by omega) (by omega) (by rw [Int.toNat_natCast]) (by rw [show ((i:Int)-1).toNat=i-1 by omega]),e,nC]
   rw [show ((i:Int)+1)=((i+1:Nat):Int) by omega,ih,show i+1-1=i by omega]
   cases ok (some (l.getD (i-1) z)) (l.getD i z) <;> rfl
 obtain ⟨n,rfl⟩:∃ q,n=q+1:=⟨n-1,by omega⟩
 cases l with
 | nil=>exact h0 n
 | cons x l =>
  rw [h1 n x (by simp) rfl,nC]
  have:=key l.length 1 n (by rw [kJ];omega) (by omega) (by rw [kJ] at hn;omega)
  rw [show ((1:Nat):Int)=1 from rfl] at this
  rw [this]
  cases ok none x <;> rfl
theorem AA {ok:Option α→α→Bool} {l:List α} {p:Option α} (h:nC ok p l=true) {x:α} (hx:x ∈ l):∃ q,ok q x=true:=by
 induction l generalizing p with
 | nil=>cases hx
 | cons y l ih =>
  rw [nC,gN] at h
  rcases List.mem_cons.1 hx with e | e
  · subst e;exact ⟨p,h.1⟩
  · exact ih h.2 e
end
theorem mW {α:Type} {l:List α} {n i:Nat} {z:α} (h:i<n):(l.take n).getD i z=l.getD i z:=by
 simp [List.getD,List.getElem?_take,h]
theorem me {α:Type} {l:List α} {i:Nat} {z:α} (h:i<l.length):l.take (i+1)=l.take i++[l.getD i z]:=by
 rw [List.take_succ_eq_append_getElem h]
 simp [List.getD,h]
theorem br {α:Type} (l:List α) (x:α):(l++[x]).length=l.length+1:=by simp
def dB (l:List UInt8):ByteArray:=⟨l.toArray⟩
theorem Gd (a b:List UInt8):dB a++dB b=dB (a++b):=by
 apply ByteArray.ext
 simp [dB,ByteArray.data_append]
theorem zh (l:List UInt8):(dB l).size=l.length:=by simp [dB,ByteArray.size]
theorem rQ (s:ByteArray):dB []++s=s:=by
 apply ByteArray.ext
 simp [dB,ByteArray.data_append]
theorem DF (s:ByteArray):s++dB []=s:=by
 apply ByteArray.ext
 simp [dB,ByteArray.data_append]
theorem oM (a b c:ByteArray):a++b++c=a++(b++c):=by
 apply ByteArray.ext
 simp [ByteArray.data_append]
theorem Hz (n:Int) (h:n≠0):gQ n=(bif decide (n<0) then dB [45] else dB [])++dB (rZ n.natAbs):=by
 unfold gQ Lib.itoa
 by_cases c:n<0
 · rw [if_pos c,aO c,ac,Gd,pT (by omega)]
   rfl
 · rw [if_neg c,aP c,aK,rQ,pT (by omega),show n.natAbs=n.toNat by omega]
   rfl
theorem Al {u:Nat} (h:u≤9223372036854775808):(rZ u).length≤19:=by
 by_cases c:u=0
 · subst c;decide
 · rw [pT c]
   exact hF 18 u (by rw [show (10:Nat) ^ (18+1)=10000000000000000000 by decide];omega)
theorem md {n:Int} (h0 : -9223372036854775808≤n) (h1:n≤9223372036854775807):(gQ n).size≤20:=C3 n h0 h1
def lu:List Nat→Bool
 | []=>true
 | b::l=>(decide (97≤b∧b≤122)||decide (48≤b∧b≤57))&&lu l
def jo (s:ByteArray):Bool:=lu (nb s)&&decide (1≤s.size∧s.size≤12)
end Go.V
namespace Go.Proofs.YtnpijgnfpdcjbaaGreatDoor.G
open Go.V
theorem oc {k:Nat} (hk:2 ^ 50≤k) {n:Int} (h0 : -9223372036854775808≤n) (h1:n≤9223372036854775807):dU.f k n=some (gQ n,()):=by
 unfold dU.f dU.t
 by_cases c:n=0
 · subst c
   have:gQ 0=(⟨#[48]⟩:ByteArray):=by
    unfold gQ Lib.itoa
    rw [if_neg (by decide),show (0:Int).toNat=0 from rfl,xW]
   rw [this]
   rfl
 · rw [show (n==0)=false from mF c,aK]
   have key:=Km (L:=fun m (s:Int × ByteArray)=>dU.l0 k m s.1 s.2 (decide (n<0))) (R:=fun s=>some ((bif decide (n<0) then dB [45] else dB [])++(dB (rZ s.1.natAbs)++s.2),()))
    (fun s=>(rZ s.1.natAbs).length) (fun s => -9223372036854775808≤s.1∧s.1≤9223372036854775807∧s.2.size+(rZ s.1.natAbs).length≤1000) ?_ k (n,(⟨#[]⟩:ByteArray))
    ⟨h0,h1,by have:=Al (u:=n.natAbs) (by omega);show 0+(rZ n.natAbs).length≤1000;omega⟩ (by have:=Al (u:=n.natAbs) (by omega);show (rZ n.natAbs).length<k;omega)
   · refine key.trans ?_
     simp only []
     rw [Hz n c,show (⟨#[]⟩:ByteArray)=dB [] from rfl,DF]
   · intro m s hs ih
     obtain ⟨x,acc⟩:=s
     obtain ⟨g0,g1,g2⟩:=hs
     simp only [] at g0 g1 g2 ih ⊢
     by_cases cx:x=0
     · subst cx
       have hz:rZ (Int.natAbs 0)=[]:=rfl
       rw [hz] at g2 ⊢
       rw [rQ]
       unfold dU.l0 dU.b0
       rw [show ((0:Int) != 0)=false from rfl,aK]
       cases decide (n<0)
       · rw [aK,aK,rQ]
       · rw [ac,ac,e9 (by rw [show (⟨#[45]⟩:ByteArray).size=1 from rfl];omega)]
         rfl
     · have hd:=F_ (u:=x.natAbs) (by omega)
       have hb:bytesOf [48+((x.natAbs % 10:Nat):Int)]=dB [UInt8.ofNat (48+x.natAbs % 10)]:=rfl
       have hm:x.natAbs % 10<10:=Nat.mod_lt _ (by decide)
       have hl:(rZ x.natAbs).length=(rZ (x.natAbs/10)).length+1:=by rw [hd,u7];rfl
       have hr:(dB [UInt8.ofNat (48+x.natAbs % 10)]++acc).size=1+acc.size:=by rw [ByteArray.size_append];rfl
       have fin:∀ y:Int,y.natAbs=x.natAbs/10 → -9223372036854775808≤y→y≤9223372036854775807 →
        dU.l0 k m (aJ y) (dB [UInt8.ofNat (48+x.natAbs % 10)]++acc) (decide (n<0))=some ((bif decide (n<0) then dB [45] else dB [])++(dB (rZ x.natAbs)++acc),()):=fun y hy q0 q1=>by
        rw [aD q0 q1]
        have:=ih (y,dB [UInt8.ofNat (48+x.natAbs % 10)]++acc) ⟨q0,q1,by simp only [];rw [hr,hy];omega⟩ (by simp only [];rw [hy];omega)
        simp only [] at this
        rw [this,hy,hd,← Gd,oM]
       unfold dU.l0 dU.b0
       rw [show (x != 0)=true from bne_iff_ne.2 cx,ac]
       obtain ⟨u,rfl | rfl⟩:=Int.eq_nat_or_neg x
       · have e1:Int.tmod (u:Int) 10=((u % 10:Nat):Int):=rfl
         have e2:Int.tdiv (u:Int) 10=((u/10:Nat):Int):=rfl
         rw [Int.natAbs_natCast] at *
         rw [e1,e2,aP (by omega),aK,aD (n:=48+((u % 10:Nat):Int)) (by omega) (by omega),nZ (by omega) (by omega),hb,e9 (by rw [zh];simp only [List.length_singleton];omega)]
         exact fin _ (by omega) (by omega) (by omega)
       · have e1:Int.tmod (-(u:Int)) 10 = -((u % 10:Nat):Int):=Int.neg_tmod (a:=(u:Int)) (b:=10)
         have e2:Int.tdiv (-(u:Int)) 10 = -((u/10:Nat):Int):=Int.neg_tdiv (u:Int) 10
         rw [Int.natAbs_neg,Int.natAbs_natCast] at *
         rw [e1,e2]
         by_cases cz:u % 10=0
         · rw [aP (by omega),aK,show (48:Int) + -((u % 10:Nat):Int)=48+((u % 10:Nat):Int) by omega,aD (n:=48+((u % 10:Nat):Int)) (by omega) (by omega),nZ (by omega) (by omega),hb,e9 (by rw [zh];simp only [List.length_singleton];omega)]
           exact fin _ (by omega) (by omega) (by omega)
         · rw [aO (by omega),ac,aD (n:=0 - -((u % 10:Nat):Int)) (by omega) (by omega),show (48:Int)+(0 - -((u % 10:Nat):Int))=48+((u % 10:Nat):Int) by omega,aD (n:=48+((u % 10:Nat):Int)) (by omega) (by omega),nZ (by omega) (by omega),hb,e9 (by rw [zh];simp only [List.length_singleton];omega)]
           exact fin _ (by omega) (by omega) (by omega)
theorem Cx (k:Nat) {n:Int} (h0 : -9223372036854775808≤n) (h1:n≤9223372036854775807):mC.f k n=some (gQ n,()):=by
 unfold mC.f mC.t mG.f
 rw [aO ⟨h0,h1⟩]
 rfl
theorem lm (k:Nat) (a b c:Int):ax.f k a b c=some (decide (b≤a∧a≤c),()):=by
 unfold ax.f ax.t
 by_cases h:a≥b
 · rw [aO h,ac,decide_eq_decide.2 (show (b≤a∧a≤c)↔a≤c from ⟨fun q=>q.2,fun q=>⟨h,q⟩⟩)]
 · rw [aP h,aK,aP (fun q=>h q.1)]
theorem fE (k:Nat) (a b c:Int):aS.f k a b c=some (decide (b≤a∧a≤c),()):=by
 unfold aS.f aS.t
 by_cases h:a≥b
 · rw [aO h,ac,decide_eq_decide.2 (show (b≤a∧a≤c)↔a≤c from ⟨fun q=>q.2,fun q=>⟨h,q⟩⟩)]
 · rw [aP h,aK,aP (fun q=>h q.1)]
theorem zF {s:ByteArray} {i:Int} {x:Nat} (h0:0≤i) (h1:i<((nb s).length:Int)) (hx:(nb s).getD i.toNat 0=x):dc s i=(x:Int):=by
 rw [cM] at h1
 have:=wa (s:=s) (i:=i.toNat) (by omega)
 rw [show ((i.toNat:Nat):Int)=i by omega,hx] at this
 exact this
theorem Ay {s:ByteArray}:(some ((bif lu (nb s) then decide (1≤(s.size:Int)∧(s.size:Int)≤12) else false),()):Option (Bool × Unit))=some (jo s,()):=by
 unfold jo
 rw [decide_eq_decide.2 (show (1≤(s.size:Int)∧(s.size:Int)≤12)↔(1≤s.size∧s.size≤12) by omega)]
 cases lu (nb s) <;> rfl
theorem nD {k:Nat} (hk:2 ^ 50≤k) {s:ByteArray} (hs:s.size≤1099511627776):dZ.f k s=some (jo s,()):=by
 unfold dZ.f dZ.t
 have hn:=cM s
 refine (e_ (L:=fun n i (_:Unit)=>dZ.l0 k n s i) (R:=fun r _=>some ((bif lu r then decide (1≤(s.size:Int)∧(s.size:Int)≤12) else false),())) 0 (nb s) (fun _ _=>True) (fun n _ _=>?_) (fun n i _ x rest h0 h1 hx hr hp ih=>?_) (n:=k) (s:=()) (by omega) trivial).trans Ay
 · simp only [hn]
   simp (disch:=omega) only [dZ.l0,dZ.b0,aP,aK,fE k,ab,lu,ac]
 · have hb:=zF h0 h1 hx
   have ih:=ih () trivial
   simp only [hn] at *
   simp (disch:=omega) only [dZ.l0,dZ.b0,aO h1,ac,aH,hb,aD,ih,lu]
   by_cases c1:97≤x
   · rw [aO (show (x:Int)≥97 by omega),ac]
     by_cases c2:x≤122
     · rw [aO (show (x:Int)≤122 by omega),ac,aO (show 97≤x∧x≤122 from ⟨c1,c2⟩)]
       rfl
     · rw [aP (show ¬ (x:Int)≤122 by omega),aK,aP (show ¬ (97≤x∧x≤122) by omega),aO (show (x:Int)≥48 by omega),ac,aP (show ¬ (x:Int)≤57 by omega),aP (show ¬ (48≤x∧x≤57) by omega)]
       rfl
   · rw [aP (show ¬ (x:Int)≥97 by omega),aK,aP (show ¬ (97≤x∧x≤122) by omega)]
     by_cases c3:48≤x
     · rw [aO (show (x:Int)≥48 by omega),ac]
       by_cases c4:x≤57
       · rw [aO (show (x:Int)≤57 by omega),aO (show 48≤x∧x≤57 from ⟨c3,c4⟩)]
         rfl
       · rw [aP (show ¬ (x:Int)≤57 by omega),aP (show ¬ (48≤x∧x≤57) by omega)]
         rfl
     · rw [aP (show ¬ (x:Int)≥48 by omega),aK,aP (show ¬ (48≤x∧x≤57) by omega)]
       rfl
theorem u4 {k:Nat} (hk:2 ^ 50≤k) {s:ByteArray} (hs:s.size≤1099511627776):fZ.f k s=some (jo s,()):=by
 unfold fZ.f fZ.t
 have hn:=cM s
 refine (e_ (L:=fun n i (_:Unit)=>fZ.l0 k n s i) (R:=fun r _=>some ((bif lu r then decide (1≤(s.size:Int)∧(s.size:Int)≤12) else false),())) 0 (nb s) (fun _ _=>True) (fun n _ _=>?_) (fun n i _ x rest h0 h1 hx hr hp ih=>?_) (n:=k) (s:=()) (by omega) trivial).trans Ay
 · simp only [hn]
   simp (disch:=omega) only [fZ.l0,fZ.b0,aP,aK,lm k,ab,lu,ac]
 · have hb:=zF h0 h1 hx
   have ih:=ih () trivial
   simp only [hn] at *
   simp (disch:=omega) only [fZ.l0,fZ.b0,aO h1,ac,aH,hb,aD,ih,lu]
   by_cases c1:97≤x
   · rw [aO (show (x:Int)≥97 by omega),ac]
     by_cases c2:x≤122
     · rw [aO (show (x:Int)≤122 by omega),aO (show 97≤x∧x≤122 from ⟨c1,c2⟩)]
       rfl
     · rw [aP (show ¬ (x:Int)≤122 by omega),aP (show ¬ (97≤x∧x≤122) by omega),aO (show (x:Int)≥48 by omega),aP (show ¬ (x:Int)≤57 by omega),aP (show ¬ (48≤x∧x≤57) by omega)]
       rfl
   · rw [aP (show ¬ (x:Int)≥97 by omega),aK,aP (show ¬ (97≤x∧x≤122) by omega)]
     by_cases c3:48≤x
     · rw [aO (show (x:Int)≥48 by omega),ac]
       by_cases c4:x≤57
       · rw [aO (show (x:Int)≤57 by omega),aO (show 48≤x∧x≤57 from ⟨c3,c4⟩)]
         rfl
       · rw [aP (show ¬ (x:Int)≤57 by omega),aP (show ¬ (48≤x∧x≤57) by omega)]
         rfl
     · rw [aP (show ¬ (x:Int)≥48 by omega),aK,aP (show ¬ (48≤x∧x≤57) by omega)]
       rfl
abbrev bn:=List (Ty.d dJ)
def dy (l:bn):Nat:=(l.map fun f=>f.2.1.size).sum
def pE (l:bn):Nat:=(l.map fun f=>f.1.size).sum
theorem fL (x:Ty.d dJ) (l:bn):dy (x::l)=x.2.1.size+dy l:=by unfold dy;rw [List.map_cons,List.sum_cons]
theorem vn:dy []=0:=rfl
theorem wD (x:Ty.d dJ) (l:bn):pE (x::l)=x.1.size+pE l:=by unfold pE;rw [List.map_cons,List.sum_cons]
theorem vj:∀ l m:bn,dy (l++m)=dy l+dy m
 | [],m=>by rw [List.nil_append,vn,Nat.zero_add]
 | x::l,m=>by rw [List.cons_append,fL,fL,vj l m];omega
theorem sK {l:bn} {x:Ty.d dJ} (h:x ∈ l):x.2.1.size≤dy l:=by
 induction l with
 | nil=>cases h
 | cons y l ih =>
  rw [fL]
  rcases List.mem_cons.1 h with e | e
  · subst e;omega
  · have:=ih e;omega
theorem oD {l:bn} {x:Ty.d dJ} (h:x ∈ l):x.1.size≤pE l:=by
 induction l with
 | nil=>cases h
 | cons y l ih =>
  rw [wD]
  rcases List.mem_cons.1 h with e | e
  · subst e;omega
  · have:=ih e;omega
def mM (p:Option (Ty.d dJ)) (x:Ty.d dJ):Bool :=
 jo x.1&&(decide ((0:Int)≤x.2.2.1∧x.2.2.1≤(x.2.1.size:Int))&&(match p with | none=>true | some y=>mh y.1 x.1))
def gf (d:Ty.d aA):Bool :=
 decide (d.1.length≤130)&&(decide ((0:Int)≤d.2.1∧d.2.1≤(100000:Int))&&(decide ((-1:Int)≤d.2.2.1∧d.2.2.1≤(100000:Int))&&(decide ((dy d.1:Int)≤d.2.1)&&nC mM none d.1)))
theorem pz {k:Nat} (hk:2 ^ 50≤k) {d:Ty.d aA} (hl:d.1.length≤1099511627776) (hu:dy d.1≤1099511627776):dX.f k d=some ((dy d.1:Int),()):=by
 unfold dX.f dX.t
 refine (e_ (L:=fun n i s=>dX.l0 k n s i d.1 d.2.1 d.2.2.1 d.2.2.2.1) (R:=fun r s=>some (s+(dy r:Int),())) (Ty.z dJ) d.1 (fun i s=>0≤s∧s+(dy (d.1.drop i.toNat):Int)≤1099511627776) (fun n s hs=>?_) (fun n i s x rest h0 h1 hx hr hp ih=>?_) (n:=k) (s:=0) (by omega) ⟨by omega,by rw [show d.1.drop (Int.toNat 0)=d.1 from rfl];omega⟩).trans (by rw [Int.zero_add])
 · simp (disch:=omega) only [dX.l0,dX.b0,aP,aK]
   show some (s,())=some (s+((0:Nat):Int),())
   rw [show s+((0:Nat):Int)=s by omega]
 · have hrest:d.1.drop (i+1).toNat=rest:=by
    have:=congrArg (List.drop 1) hr
    rw [List.drop_drop,List.drop_one,List.tail_cons] at this
    rw [show (i+1).toNat=i.toNat+1 by omega]
    exact this
   rw [hr,fL] at hp
   have ih:=ih (s+(x.2.1.size:Int)) ⟨by omega,by rw [hrest];omega⟩
   simp (disch:=omega) only [dX.l0,dX.b0,aO h1,ac,aH,hx,aD,ih]
   rw [show s+(x.2.1.size:Int)+(dy rest:Int)=s+((x.2.1.size+dy rest:Nat):Int) by omega]
   show _=some (s+((dy (x::rest):Nat):Int),())
   rw [fL]
theorem j_ {k:Nat} (hk:2 ^ 50≤k) {d:Ty.d aA} (hu:dy d.1≤1099511627776) (hn:pE d.1≤1099511627776):bC.f k d=some (gf d,()):=by
 unfold bC.f bC.t gf
 by_cases c:d.1.length > 130
 · rw [aO (by omega),ac,aP (by omega),Bool.false_and]
 · rw [aP (by omega),aK,aO (by omega),Bool.true_and,fE,ab]
   cases decide ((0:Int)≤d.2.1∧d.2.1≤(100000:Int)) with
   | false=>rfl
   | true =>
    rw [fh,aK,fE,ab,Bool.true_and]
    cases decide ((-1:Int)≤d.2.2.1∧d.2.2.1≤(100000:Int)) with
    | false=>rfl
    | true =>
     rw [fh,aK,pz hk (by omega) hu,ab,Bool.true_and]
     simp only []
     by_cases cu:(dy d.1:Int) > d.2.1
     · rw [aO cu,ac,aP (by omega),Bool.false_and]
     · rw [aP cu,aK,aO (by omega),Bool.true_and]
       refine (pn (L:=fun n i=>bC.l0 k n i d.1 d.2.1 d.2.2.1 d.2.2.2.1) (Ty.z dJ) d.1 mM (some (true,())) (some (false,())) (fun n=>?_) (fun n x h hx=>?_) (fun n i x y h0 h1 hx hy=>?_) (n:=k) (by omega)).trans (by cases nC mM none d.1 <;> rfl)
       · simp (disch:=omega) only [bC.l0,bC.b0,aP,aK]
       · have hm:x ∈ d.1:=by rw [← hx];exact iI (by omega)
         have hs:=oD hm
         simp (disch:=omega) only [bC.l0,bC.b0,aO (show (0:Int)<(d.1.length:Int) by omega),ac,aH,hx,nD hk,fE k,ab,aP (show ¬ (0:Int) > 0 by omega),aK,aD,mM]
         cases jo x.1 <;> cases decide ((0:Int)≤x.2.2.1∧x.2.2.1≤(x.2.1.size:Int)) <;> rfl
       · have hm:x ∈ d.1:=by rw [← hx];exact iI (by omega)
         have hs:=oD hm
         simp (disch:=omega) only [bC.l0,bC.b0,aO h1,ac,aH,hx,hy,nD hk,fE k,ab,aO (show i > 0 by omega),aK,aD,mM,lT]
         cases jo x.1 <;> cases decide ((0:Int)≤x.2.2.1∧x.2.2.1≤(x.2.1.size:Int)) <;> cases mh y.1 x.1 <;> rfl
theorem yj {l:bn} {i:Nat} {x:Ty.d dJ} (h:i<l.length) (hx:l.getD i (Ty.z dJ)=x):dy (l.take (i+1))=dy (l.take i)+x.2.1.size:=by
 rw [List.take_add_one,vj]
 congr 1
 simp only [List.getD,List.getElem?_eq_getElem h,Option.getD_some] at hx
 rw [List.getElem?_eq_getElem h,hx]
 show dy [x]=_
 rw [fL,vn,Nat.add_zero]
theorem sT (l:bn) (i:Nat):dy (l.take i)≤dy l:=by
 have:=vj (l.take i) (l.drop i)
 rw [List.take_append_drop] at this
 omega
theorem tq {k:Nat} (hk:2 ^ 50≤k) {d:Ty.d aA} (hu:dy d.1≤1099511627776) (hn:pE d.1≤1099511627776):da.f k d=some (gf d,()):=by
 unfold da.f da.t gf
 by_cases c:d.1.length > 130
 · rw [aO (by omega),ac,aP (by omega),Bool.false_and]
 · rw [aP (by omega),aK,aO (by omega),Bool.true_and,lm,ab]
   cases decide ((0:Int)≤d.2.1∧d.2.1≤(100000:Int)) with
   | false=>rfl
   | true =>
    rw [fh,aK,lm,ab,Bool.true_and]
    cases decide ((-1:Int)≤d.2.2.1∧d.2.2.1≤(100000:Int)) with
    | false=>rfl
    | true =>
     rw [fh,aK,Bool.true_and]
     refine (pn (L:=fun n i=>da.l0 k n (dy (d.1.take i.toNat):Int) d.1 d.1.length i d.1 d.2.1 d.2.2.1 d.2.2.2.1) (Ty.z dJ) d.1 mM (some (decide ((dy d.1:Int)≤d.2.1),())) (some (false,())) (fun n=>?_) (fun n x h hx=>?_) (fun n i x y h0 h1 hx hy=>?_) (n:=k) (by omega)).trans
      (by cases nC mM none d.1 <;> cases decide ((dy d.1:Int)≤d.2.1) <;> rfl)
     · rw [Int.toNat_natCast,List.take_length]
       simp (disch:=omega) only [da.l0,da.b0,aP,aK]
     · have hm:x ∈ d.1:=by rw [← hx];exact iI (by omega)
       have hs:=oD hm
       have ht:=yj (l:=d.1) (i:=0) h hx
       have hle:=sT d.1 0
       have hz:=sK hm
       rw [show Int.toNat 1=0+1 from rfl,ht]
       simp only [show Int.toNat 0=0 from rfl] at hx ⊢
       simp (disch:=omega) only [da.l0,da.b0,aO (show (0:Int)<(d.1.length:Int) by omega),ac,aH,show Int.toNat 0=0 from rfl,hx,u4 hk,lm k,ab,aP (show ¬ (0:Int) > 0 by omega),aK,aD,mM]
       rw [show (dy (d.1.take 0):Int)+(x.2.1.size:Int)=((dy (d.1.take 0)+x.2.1.size:Nat):Int) by omega]
       cases jo x.1 <;> cases decide ((0:Int)≤x.2.2.1∧x.2.2.1≤(x.2.1.size:Int)) <;> rfl
     · have hm:x ∈ d.1:=by rw [← hx];exact iI (by omega)
       have hs:=oD hm
       have ht:=yj (l:=d.1) (i:=i.toNat) (by omega) hx
       have hle:=sT d.1 i.toNat
       have hz:=sK hm
       rw [show Int.toNat (i+1)=i.toNat+1 by omega,ht]
       simp (disch:=omega) only [da.l0,da.b0,aO h1,ac,aH,hx,hy,u4 hk,lm k,ab,aO (show i > 0 by omega),aK,aD,mM]
       rw [show (dy (d.1.take i.toNat):Int)+(x.2.1.size:Int)=((dy (d.1.take i.toNat)+x.2.1.size:Nat):Int) by omega]
       cases jo x.1 <;> cases decide ((0:Int)≤x.2.2.1∧x.2.2.1≤(x.2.1.size:Int)) <;> cases mh y.1 x.1 <;> rfl
def kQ:bn→ByteArray→Int→Int
 | [],_,_ => -1
 | f::l,s,i=>bif seq f.1 s then i else kQ l s (i+1)
def bh:bn→ByteArray→Option (Ty.d dJ)
 | [],_=>none
 | f::l,s=>bif seq f.1 s then some f else bh l s
theorem sV:∀ (l:bn) (s:ByteArray) (i:Int),(bh l s=none∧kQ l s i = -1)∨(∃ f,bh l s=some f∧i≤kQ l s i∧kQ l s i<i+(l.length:Int)∧l.getD (kQ l s i-i).toNat (Ty.z dJ)=f∧f ∈ l)
 | [],s,i => .inl ⟨rfl,rfl⟩
 | f::l,s,i=>by
  unfold kQ bh
  cases c:seq f.1 s with
  | true=>exact .inr ⟨f,rfl,Int.le_refl _,by rw [ac,kJ];omega,by rw [ac,show (i-i).toNat=0 by omega];rfl,jd ..⟩
  | false =>
   rw [aK,aK]
   rcases sV l s (i+1) with h | ⟨g,h1,h2,h3,h4,h5⟩
   · exact .inl h
   · refine .inr ⟨g,h1,by omega,by rw [kJ];omega,?_,lK _ h5⟩
     rw [show (kQ l s (i+1)-i).toNat=(kQ l s (i+1)-(i+1)).toNat+1 by omega]
     exact h4
theorem gy {k:Nat} (hk:2 ^ 50≤k) {d:Ty.d aA} (hl:d.1.length≤1099511627776) (s:ByteArray):b_.f k d s=some (kQ d.1 s 0,()):=by
 unfold b_.f b_.t
 refine e_ (L:=fun n i (_:Int)=>b_.l0 k n s i d.1 d.2.1 d.2.2.1 d.2.2.2.1) (R:=fun r j=>some (kQ r s j,())) (Ty.z dJ) d.1 (fun i j=>j=i) (fun n j hj=>?_) (fun n i j x rest h0 h1 hx hr hp ih=>?_) (n:=k) (s:=0) (by omega) rfl
 · simp (disch:=omega) only [b_.l0,b_.b0,aP,aK,kQ]
 · have ih:=ih (i+1) rfl
   subst hp
   simp (disch:=omega) only [b_.l0,b_.b0,aO h1,ac,aH,hx,aD,ih,kQ]
   cases seq x.1 s <;> rfl
theorem Aa {k:Nat} (hk:2 ^ 50≤k) {d:Ty.d aA} (hl:d.1.length≤1099511627776) (s:ByteArray):fg.f k d s=some (kQ d.1 s 0,()):=by
 unfold fg.f fg.t
 refine e_ (L:=fun n i (_:Int)=>fg.l0 k n s d.1 d.1.length i) (R:=fun r j=>some (kQ r s j,())) (Ty.z dJ) d.1 (fun i j=>j=i) (fun n j hj=>?_) (fun n i j x rest h0 h1 hx hr hp ih=>?_) (n:=k) (s:=0) (by omega) rfl
 · simp (disch:=omega) only [fg.l0,fg.b0,aP,aK,kQ]
 · have ih:=ih (i+1) rfl
   subst hp
   simp (disch:=omega) only [fg.l0,fg.b0,aO h1,ac,aH,hx,aD,ih,kQ]
   cases seq x.1 s <;> rfl
def aT (d:Ty.d aA) (s:ByteArray):ByteArray × Bool :=
 bif gf d then (match bh d.1 s with | none=>(⟨#[]⟩,false) | some f=>(f.2.1,true)) else (⟨#[]⟩,false)
theorem fp (d:Ty.d aA) (s:ByteArray):(aT d s).1.size≤dy d.1:=by
 unfold aT
 cases gf d with
 | false=>exact Nat.zero_le _
 | true =>
  rw [ac]
  rcases sV d.1 s 0 with h | ⟨f,h1,_,_,_,h5⟩
  · rw [h.1];exact Nat.zero_le _
  · rw [h1];exact sK h5
theorem gS {k:Nat} (hk:2 ^ 50≤k) {d:Ty.d aA} (hl:d.1.length≤1099511627776) (hu:dy d.1≤1099511627776) (hn:pE d.1≤1099511627776) (s:ByteArray) :
 ba.f k d s=some ((aT d s).1,((aT d s).2,())):=by
 unfold ba.f ba.t aT
 rw [j_ hk hu hn,ab]
 cases gf d with
 | false=>rfl
 | true =>
  rw [gy hk hl]
  simp only [ab,fh,aK,ac]
  rcases sV d.1 s 0 with h | ⟨f,h1,h2,h3,h4,h5⟩
  · rw [h.1,h.2];rfl
  · rw [h1,aP (by omega),aK,aH h2 (by omega)]
    rw [Int.sub_zero] at h4
    rw [h4]
theorem pW {k:Nat} (hk:2 ^ 50≤k) {d:Ty.d aA} (hl:d.1.length≤1099511627776) (hu:dy d.1≤1099511627776) (hn:pE d.1≤1099511627776) (s:ByteArray) :
 fN.f k d s=some ((aT d s).1,((aT d s).2,())):=by
 unfold fN.f fN.t aT
 rw [Aa hk hl,ab]
 simp only []
 rcases sV d.1 s 0 with h | ⟨f,h1,h2,h3,h4,h5⟩
 · rw [h.1,h.2]
   cases gf d <;> rfl
 · rw [h1,aP (by omega),aK,tq hk hu hn,ab]
   cases gf d with
   | false=>rfl
   | true =>
    simp only [fh,aK,ac]
    rw [aH h2 (by omega)]
    rw [Int.sub_zero] at h4
    rw [h4]
def a_ (p:ByteArray) (n:Int):ByteArray:=bif decide ((1:Int)≤n∧n≤100000) then p++gQ n else ⟨#[]⟩
def aF:ByteArray:=⟨#[115,101,103]⟩
theorem bU {k:Nat} (hk:2 ^ 50≤k) (n:Int):aU.f k n=some (a_ aF n,()):=by
 unfold aU.f aU.t a_
 rw [fE,ab]
 by_cases c:(1:Int)≤n∧n≤100000
 · have hz:=md (n:=n) (by omega) (by omega)
   rw [aO c]
   simp only [fh,aK,ac]
   rw [oc hk (by omega) (by omega),ab,e9 (by show 3+(gQ n).size≤_;omega)]
   rfl
 · rw [aP c]
   rfl
theorem zK (k:Nat) {p:ByteArray} (hp:p.size≤1000) (n:Int):jt.f k p n=some (a_ p n,()):=by
 unfold jt.f jt.t a_
 rw [lm,ab]
 by_cases c:(1:Int)≤n∧n≤100000
 · have hz:=md (n:=n) (by omega) (by omega)
   rw [aO c]
   simp only [fh,aK,ac]
   rw [Cx k (by omega) (by omega),ab,e9 (by show p.size+(gQ n).size≤_;omega)]
 · rw [aP c]
   rfl
theorem mr (k:Nat) (n:Int):fv.f k n=some (a_ aF n,()):=by
 unfold fv.f fv.t
 rw [zK k (by decide) n]
 rfl
structure AM (d:Ty.d aA):Prop where
 l:d.1.length≤1073741824
 u:dy d.1≤1073741824
 n:pE d.1≤1073741824
end Go.Proofs.YtnpijgnfpdcjbaaGreatDoor.G
namespace Go.V
theorem vX:∀ a b c:List UInt8,Op.bytesLess a b=true→Op.bytesLess b c=true→Op.bytesLess a c=true
 | a,b,[],_,h2=>by cases b <;> simp [Op.bytesLess] at h2
 | [],b,z::c,_,_=>by simp [Op.bytesLess]
 | x::a,[],z::c,h1,_=>by simp [Op.bytesLess] at h1
 | x::a,y::b,z::c,h1,h2=>by
  simp only [Op.bytesLess] at h1 h2 ⊢
  have ih:=vX a b c
  simp only [Bool.or_eq_true,gN,decide_eq_true_eq,beq_iff_eq] at h1 h2 ⊢
  rcases h1 with g1 | ⟨rfl,g1⟩
  · rcases h2 with g2 | ⟨rfl,g2⟩
    · exact Or.inl (UInt8.lt_trans g1 g2)
    · exact Or.inl g1
  · rcases h2 with g2 | ⟨rfl,g2⟩
    · exact Or.inl g2
    · exact Or.inr ⟨rfl,ih g1 g2⟩
theorem oF {a b c:ByteArray} (h1:mh a b=true) (h2:mh b c=true):mh a c=true:=vX _ _ _ h1 h2
theorem ol (a:ByteArray):mh a a=false:=by
 have:=lT a a
 rw [bX] at this
 cases h:mh a a with
 | false=>rfl
 | true=>rw [h] at this;cases this
def cW (K:List ByteArray):Prop:=K.Pairwise (fun a b=>mh a b=true)
end Go.V
namespace Go.Proofs.YtnpijgnfpdcjbaaGreatDoor.G
open Go.V
def ln:bn→Ty.d dJ→bn
 | [],f=>[f]
 | g::l,f=>bif mh f.1 g.1 then f::g::l else g::ln l f
def k6:bn→ByteArray→bn
 | [],_=>[]
 | g::l,s=>bif seq g.1 s then l else g::k6 l s
def lJ (h:Ty.d dJ→Ty.d dJ):bn→ByteArray→bn
 | [],_=>[]
 | g::l,s=>bif seq g.1 s then h g::l else g::lJ h l s
def jF (d:Ty.d aA):Ty.d aA × Int :=
 bif !gf d then (d,5) else bif d.2.2.2.1 then ((d.1,(d.2.1,(d.2.2.1,(true,())))),1) else bif (d.2.2.1==0) then ((d.1,(d.2.1,(d.2.2.1,(true,())))),1) else
 bif decide ((d.2.2.1:Int) > 0) then ((d.1,(d.2.1,(aJ (d.2.2.1-1),d.2.2.2))),0) else (d,0)
def ij (d:Ty.d aA) (g:bn→Int→bn × Int):Ty.d aA × Int :=
 bif (jF d).2 != 0 then jF d else (((g d.1 d.2.1).1,(jF d).1.2),(g d.1 d.2.1).2)
def tf (s:ByteArray) (l:bn) (c:Int):bn × Int :=
 bif !jo s then (l,5) else bif (bh l s).isSome then (l,4) else bif decide ((l.length:Int)≥130) then (l,2) else (ln l (s,(ByteArray.empty,(0,()))),0)
def zC (s t:ByteArray) (l:bn) (c:Int):bn × Int :=
 bif (bh l s).isNone then (l,3) else bif decide ((t.size:Int) > aJ (c-(dy l:Int))) then (l,2) else (lJ (fun f=>(f.1,(f.2.1++t,f.2.2))) l s,0)
def uZ (s:ByteArray) (l:bn) (c:Int):bn × Int :=
 bif (bh l s).isNone then (l,3) else (lJ (fun f=>(f.1,(f.2.1,((f.2.1.size:Int),f.2.2.2)))) l s,0)
def Bb (a b:ByteArray) (l:bn) (c:Int):bn × Int :=
 bif !jo b then (l,5) else match bh l a with
 | none=>(l,3)
 | some f=>bif seq a b then (l,0) else (ln (k6 (k6 l a) b) (b,f.2),0)
def BB (s:ByteArray) (l:bn) (c:Int):bn × Int :=
 bif (bh l s).isNone then (l,3) else (k6 l s,0)
def FA (s:ByteArray) (n:Int) (l:bn) (c:Int):bn × Int :=
 match bh l s with
 | none=>(l,3)
 | some f=>bif !decide (0≤n∧n≤(f.2.1.size:Int)) then (l,5) else (lJ (fun f=>(f.1,(ByteArray.extract f.2.1 0 n.toNat,((if n<f.2.2.1 then n else f.2.2.1),f.2.2.2)))) l s,0)
def wz (d:Ty.d aA) (s:ByteArray):=ij d (tf s)
def iH (d:Ty.d aA) (s t:ByteArray):=ij d (zC s t)
def fj (d:Ty.d aA) (s:ByteArray):=ij d (uZ s)
def B1 (d:Ty.d aA) (a b:ByteArray):=ij d (Bb a b)
def ua (d:Ty.d aA) (s:ByteArray):=ij d (BB s)
def wF (d:Ty.d aA) (s:ByteArray) (n:Int):=ij d (FA s n)
theorem p5 (d:Ty.d aA):(jF d).1.1=d.1:=by
 unfold jF
 cases gf d <;> cases d.2.2.2.1 <;> cases d.2.2.1==0 <;> cases decide ((d.2.2.1:Int) > 0) <;> rfl
theorem Gu (d:Ty.d aA):(jF d).1.2.1=d.2.1:=by
 unfold jF
 cases gf d <;> cases d.2.2.2.1 <;> cases d.2.2.1==0 <;> cases decide ((d.2.2.1:Int) > 0) <;> rfl
theorem jY:∀ (l:bn) (s:ByteArray) (j:Int),(bh l s=none∧kQ l s j = -1∧k6 l s=l∧∀ h,lJ h l s=l) ∨
 (∃ n:Nat,n<l.length∧kQ l s j=j+n∧bh l s=some (l.getD n (Ty.z dJ))∧l.take n++l.drop (n+1)=k6 l s∧(l.getD n (Ty.z dJ)).1=s∧(∀ h,l.set n (h (l.getD n (Ty.z dJ)))=lJ h l s))
 | [],s,j => .inl ⟨rfl,rfl,rfl,fun _=>rfl⟩
 | g::l,s,j=>by
  unfold kQ bh k6 lJ
  cases c:seq g.1 s with
  | true =>
   refine .inr ⟨0,by rw [kJ];omega,?_,rfl,rfl,dr.1 c,fun h=>rfl⟩
   show j=j+((0:Nat):Int)
   omega
  | false =>
   simp only [aK]
   rcases jY l s (j+1) with ⟨h1,h2,h3,h4⟩ | ⟨n,h1,h2,h3,h4,h5,h6⟩
   · exact .inl ⟨h1,h2,by rw [h3],fun h=>by rw [h4]⟩
   · refine .inr ⟨n+1,by rw [kJ];omega,by rw [h2];omega,h3,?_,h5,fun h=>?_⟩
     · rw [List.take_succ_cons,List.drop_succ_cons,List.cons_append,h4]
     · show g::l.set n (h (l.getD n (Ty.z dJ)))=_
       rw [h6]
def FO (f:Ty.d dJ):Prop:=jo f.1=true∧LE.le (α:=Int) 0 f.2.2.1∧LE.le (α:=Int) f.2.2.1 f.2.1.size
def lL (l:bn):List ByteArray:=l.map (·.1)
theorem C2:∀ (l:bn) (p:Option (Ty.d dJ)),nC mM p l=true↔((∀ f ∈ l,FO f)∧cW (lL l)∧(∀ q,p=some q→∀ f ∈ l,mh q.1 f.1=true))
 | [],p=>by
  constructor
  · intro _
    exact ⟨fun f h=>(by cases h),List.Pairwise.nil,fun q _ f h=>(by cases h)⟩
  · intro _;rfl
 | g::l,p=>by
  have ih:=C2 l (some g)
  unfold nC
  rw [gN,ih]
  have hf:mM p g=true↔(FO g∧(∀ q,p=some q→mh q.1 g.1=true)):=by
   unfold mM FO
   rw [gN,gN,decide_eq_true_eq]
   cases p with
   | none=>exact ⟨fun h=>⟨⟨h.1,h.2.1⟩,fun q hq=>(by cases hq)⟩,fun h=>⟨h.1.1,h.1.2,rfl⟩⟩
   | some q=>exact ⟨fun h=>⟨⟨h.1,h.2.1⟩,fun q' hq=>(by cases hq;exact h.2.2)⟩,fun h=>⟨h.1.1,h.1.2,h.2 q rfl⟩⟩
  rw [hf]
  constructor
  · rintro ⟨⟨h1,h2⟩,h3,h4,h5⟩
    refine ⟨fun f hf=>?_,?_,fun q hq f hf=>?_⟩
    · rcases List.mem_cons.1 hf with e | e
      · rw [e];exact h1
      · exact h3 f e
    · unfold cW lL
      rw [List.map_cons,List.pairwise_cons]
      refine ⟨fun x hx=>?_,h4⟩
      obtain ⟨f,hf,rfl⟩:=List.mem_map.1 hx
      exact h5 g rfl f hf
    · rcases List.mem_cons.1 hf with e | e
      · rw [e];exact h2 q hq
      · exact oF (h2 q hq) (h5 g rfl f e)
  · rintro ⟨h1,h2,h3⟩
    unfold cW lL at h2
    rw [List.map_cons,List.pairwise_cons] at h2
    refine ⟨⟨h1 g (jd ..),fun q hq=>h3 q hq g (jd ..)⟩,fun f hf=>h1 f (lK _ hf),h2.2,fun q hq f hf=>?_⟩
    cases hq
    exact h2.1 f.1 (List.mem_map.2 ⟨f,hf,rfl⟩)
structure DR (d:Ty.d aA):Prop where
 len:d.1.length≤130
 cap0:LE.le (α:=Int) 0 d.2.1
 cap1:LE.le (α:=Int) d.2.1 100000
 fu0:LE.le (α:=Int) (-1) d.2.2.1
 fu1:LE.le (α:=Int) d.2.2.1 100000
 use:LE.le (α:=Int) (dy d.1) d.2.1
 all:∀ f ∈ d.1,FO f
 keys:cW (lL d.1)
theorem jP {d:Ty.d aA}:gf d=true↔DR d:=by
 unfold gf
 rw [gN,gN,gN,gN,decide_eq_true_eq,decide_eq_true_eq,decide_eq_true_eq,decide_eq_true_eq,C2]
 constructor
 · rintro ⟨h1,⟨h2,h3⟩,⟨h4,h5⟩,h6,h7,h8,_⟩
   exact ⟨h1,h2,h3,h4,h5,h6,h7,h8⟩
 · intro h
   exact ⟨h.len,⟨h.cap0,h.cap1⟩,⟨h.fu0,h.fu1⟩,h.use,h.all,h.keys,fun q hq=>(by cases hq)⟩
theorem DD {s:ByteArray} (h:jo s=true):1≤s.size∧s.size≤12:=by
 unfold jo at h
 rw [gN,decide_eq_true_eq] at h
 exact h.2
theorem Bn:∀ l:bn,(∀ f ∈ l,FO f)→pE l≤12*l.length
 | [],_=>Nat.le_refl _
 | f::l,h=>by
  have:=Bn l fun g hg=>h g (lK _ hg)
  have:=(DD (h f (jd ..)).1).2
  rw [wD,kJ]
  omega
theorem DR.sz {d:Ty.d aA} (h:DR d):AM d:=by
 have h1:=h.len
 have h2:=h.use
 have h3:=h.cap1
 have h4:=Bn d.1 h.all
 exact ⟨by omega,by omega,by omega⟩
theorem zB {l:bn} {f x:Ty.d dJ}:x ∈ ln l f↔x=f∨x ∈ l:=by
 induction l with
 | nil=>simp [ln]
 | cons g l ih =>
  unfold ln
  cases mh f.1 g.1
  · simp only [aK,List.mem_cons,ih]
    exact ⟨fun h=>h.elim (fun q => .inr (.inl q)) (fun q=>q.elim .inl (fun q => .inr (.inr q))),fun h=>h.elim (fun q => .inr (.inl q)) (fun q=>q.elim .inl (fun q => .inr (.inr q)))⟩
  · simp only [ac,List.mem_cons]
theorem oV:∀ (l:bn) (s:ByteArray),(k6 l s).Sublist l
 | [],s=>List.Sublist.slnil
 | g::l,s=>by
  unfold k6
  cases seq g.1 s
  · exact (oV l s).cons_cons g
  · exact (List.Sublist.refl l).cons g
theorem Dy {h:Ty.d dJ→Ty.d dJ} (hh:∀ f,(h f).1=f.1):∀ (l:bn) (s:ByteArray),lL (lJ h l s)=lL l
 | [],s=>rfl
 | g::l,s=>by
  unfold lJ
  cases seq g.1 s
  · show g.1::lL (lJ h l s)=g.1::lL l
    rw [Dy hh l s]
  · show (h g).1::lL l=g.1::lL l
    rw [hh]
theorem w7 {h:Ty.d dJ→Ty.d dJ} (hh:∀ f,(h f).1=f.1) {l:bn} {s:ByteArray} (hk:cW (lL l)):cW (lL (lJ h l s)):=by
 rw [Dy hh]
 exact hk
theorem vG {h:Ty.d dJ→Ty.d dJ}:∀ {l:bn} {s:ByteArray} {x:Ty.d dJ},x ∈ lJ h l s→x ∈ l∨∃ f,bh l s=some f∧x=h f
 | [],s,x,hx => .inl hx
 | g::l,s,x,hx=>by
  unfold lJ at hx
  unfold bh
  cases c:seq g.1 s with
  | true =>
   rw [c,ac] at hx
   rcases List.mem_cons.1 hx with e | e
   · exact .inr ⟨g,rfl,e⟩
   · exact .inl (lK _ e)
  | false =>
   rw [c,aK] at hx
   rcases List.mem_cons.1 hx with e | e
   · exact .inl (by rw [e];exact jd ..)
   · rcases vG e with q | ⟨f,q1,q2⟩
     · exact .inl (lK _ q)
     · exact .inr ⟨f,q1,q2⟩
theorem sv {h:Ty.d dJ→Ty.d dJ}:∀ {l:bn} {s:ByteArray} {f:Ty.d dJ},bh l s=some f→dy (lJ h l s)+f.2.1.size=dy l+(h f).2.1.size
 | [],s,f,hf=>by cases hf
 | g::l,s,f,hf=>by
  unfold bh at hf
  unfold lJ
  cases c:seq g.1 s with
  | true =>
   rw [c] at hf
   cases hf
   rw [ac,fL,fL]
   omega
  | false =>
   rw [c] at hf
   have:=sv (h:=h) hf
   rw [aK,fL,fL]
   omega
theorem vV:∀ (l:bn) (f:Ty.d dJ),dy (ln l f)=dy l+f.2.1.size
 | [],f=>by unfold ln;rw [fL,vn,Nat.add_comm]
 | g::l,f=>by
  unfold ln
  cases mh f.1 g.1
  · rw [aK,fL,fL,vV l f];omega
  · rw [ac,fL,fL];omega
theorem xN:∀ {l:bn} {s:ByteArray} {f:Ty.d dJ},bh l s=some f→dy (k6 l s)+f.2.1.size=dy l
 | [],s,f,hf=>by cases hf
 | g::l,s,f,hf=>by
  unfold bh at hf
  unfold k6
  cases c:seq g.1 s with
  | true=>rw [c] at hf;cases hf;rw [ac,fL];omega
  | false =>
   rw [c] at hf
   have:=xN hf
   rw [aK,fL,fL]
   omega
theorem uT (l:bn) (s:ByteArray):dy (k6 l s)≤dy l:=by
 cases h:bh l s with
 | some f=>have:=xN h;omega
 | none =>
  rcases jY l s 0 with ⟨_,_,h3,_⟩ | ⟨n,_,_,h3,_⟩
  · rw [h3];exact Nat.le_refl _
  · rw [h] at h3;cases h3
theorem zG:∀ (l:bn) (f:Ty.d dJ),(ln l f).length=l.length+1
 | [],f=>rfl
 | g::l,f=>by
  unfold ln
  cases mh f.1 g.1
  · rw [aK,kJ,zG l f,kJ]
  · rw [ac,kJ,kJ]
theorem vE (h:Ty.d dJ→Ty.d dJ):∀ (l:bn) (s:ByteArray),(lJ h l s).length=l.length
 | [],s=>rfl
 | g::l,s=>by
  unfold lJ
  cases seq g.1 s
  · rw [aK,kJ,vE h l s,kJ]
  · rw [ac,kJ,kJ]
theorem nQ:∀ {l:bn} {s:ByteArray} {f:Ty.d dJ},bh l s=some f→f ∈ l∧f.1=s
 | [],s,f,h=>by cases h
 | g::l,s,f,h=>by
  unfold bh at h
  cases c:seq g.1 s with
  | true=>rw [c] at h;cases h;exact ⟨jd ..,dr.1 c⟩
  | false =>
   rw [c] at h
   exact ⟨lK _ (nQ h).1,(nQ h).2⟩
theorem py:∀ {l:bn} {s:ByteArray},bh l s=none↔∀ f ∈ l,f.1≠s
 | [],s=>⟨fun _ f h=>(by cases h),fun _=>rfl⟩
 | g::l,s=>by
  unfold bh
  cases c:seq g.1 s with
  | true =>
   constructor
   · intro h;cases h
   · intro h;exact absurd (dr.1 c) (h g (jd ..))
  | false =>
   rw [aK,py]
   constructor
   · intro h f hf
     rcases List.mem_cons.1 hf with e | e
     · rw [e];intro q;rw [IZ q] at c;cases c
     · exact h f e
   · intro h f hf;exact h f (lK _ hf)
theorem wH {f:Ty.d dJ}:∀ {l:bn},cW (lL l)→(∀ g ∈ l,g.1≠f.1)→cW (lL (ln l f))
 | [],_,_=>by unfold ln;exact List.pairwise_singleton ..
 | g::l,h,hn=>by
  unfold cW lL at h
  rw [List.map_cons,List.pairwise_cons] at h
  unfold ln
  cases c:mh f.1 g.1 with
  | true =>
   rw [ac]
   unfold cW lL
   rw [List.map_cons,List.pairwise_cons]
   refine ⟨fun x hx=>?_,by rw [List.map_cons,List.pairwise_cons];exact h⟩
   rw [List.map_cons] at hx
   rcases List.mem_cons.1 hx with e | e
   · rw [e];exact c
   · exact oF c (h.1 x e)
  | false =>
   rw [aK]
   have ih:=wH (f:=f) (l:=l) h.2 fun g' hg=>hn g' (lK _ hg)
   unfold cW lL
   rw [List.map_cons,List.pairwise_cons]
   refine ⟨fun x hx=>?_,ih⟩
   obtain ⟨y,hy,rfl⟩:=List.mem_map.1 hx
   rcases zB.1 hy with e | e
   · rw [e]
     have ht:=lT g.1 f.1
     rw [c,kK (hn g (jd ..))] at ht
     cases q:mh g.1 f.1 with
     | true=>rfl
     | false=>rw [q] at ht;cases ht
   · exact h.1 y.1 (List.mem_map.2 ⟨y,e,rfl⟩)
theorem tE {l m:bn} (h:m.Sublist l) (hk:cW (lL l)):cW (lL m):=List.Pairwise.sublist (h.map _) hk
theorem IB {l:bn} (hk:cW (lL l)) {s:ByteArray} {f:Ty.d dJ} (h:bh l s=some f):bh (k6 l s) s=none:=by
 induction l with
 | nil=>cases h
 | cons g l ih =>
  unfold cW lL at hk
  rw [List.map_cons,List.pairwise_cons] at hk
  unfold bh at h
  unfold k6
  cases c:seq g.1 s with
  | true =>
   rw [ac,py]
   intro x hx e
   have:=hk.1 x.1 (List.mem_map.2 ⟨x,hx,rfl⟩)
   rw [e,dr.1 c,ol] at this
   cases this
  | false =>
   rw [c] at h
   rw [aK]
   unfold bh
   rw [c,aK]
   exact ih hk.2 h
theorem Ba {l:bn} (hk:cW (lL l)) (s:ByteArray):bh (k6 l s) s=none:=by
 cases h:bh l s with
 | some f=>exact IB hk h
 | none =>
  rcases jY l s 0 with ⟨h1,_,h3,_⟩ | ⟨n,_,_,h3,_⟩
  · rw [h3];exact h1
  · rw [h] at h3;cases h3
def GR (g:bn→Int→bn × Int):Prop:=∀ l c,l.length≤130→(0:Int)≤c→c≤100000→(dy l:Int)≤c→(∀ f ∈ l,FO f)→cW (lL l) →
 (g l c).1.length≤130∧(dy (g l c).1:Int)≤c∧(∀ f ∈ (g l c).1,FO f)∧cW (lL (g l c).1)
theorem IU {d:Ty.d aA} (h:DR d):DR (jF d).1:=by
 have hd:=jP.2 h
 have g0:=h.fu0
 have g1:=h.fu1
 unfold jF
 rw [hd]
 cases c1:d.2.2.2.1 with
 | true=>exact ⟨h.len,h.cap0,h.cap1,h.fu0,h.fu1,h.use,h.all,h.keys⟩
 | false =>
  cases c2:d.2.2.1==0 with
  | true=>exact ⟨h.len,h.cap0,h.cap1,h.fu0,h.fu1,h.use,h.all,h.keys⟩
  | false =>
   by_cases c3:(d.2.2.1:Int) > 0
   · have e:∀ x:Int,x > 0→x≤100000 → -1≤aJ (x-1)∧aJ (x-1)≤100000:=fun x q1 q2=>by
      rw [aD (by omega) (by omega)]
      omega
     have e:=e d.2.2.1 c3 g1
     rw [aO c3]
     exact ⟨h.len,h.cap0,h.cap1,e.1,e.2,h.use,h.all,h.keys⟩
   · rw [aP c3]
     exact h
theorem qN {g:bn→Int→bn × Int} (hg:GR g) {d:Ty.d aA} (h:DR d):DR (ij d g).1:=by
 have hb:=IU h
 unfold ij
 cases c:(jF d).2 != 0 with
 | true=>exact hb
 | false =>
  have hk:(jF d).1.2.1=d.2.1:=Gu d
  obtain ⟨g1,g2,g3,g4⟩:=hg d.1 d.2.1 h.len h.cap0 h.cap1 h.use h.all h.keys
  exact ⟨g1,hb.cap0,hb.cap1,hb.fu0,hb.fu1,by show (dy (g d.1 d.2.1).1:Int)≤(jF d).1.2.1;rw [hk];exact g2,g3,g4⟩
theorem Jj (s:ByteArray):GR (tf s):=by
 intro l c h1 h2 h3 h4 h5 h6
 unfold tf
 cases hn:jo s with
 | false=>exact ⟨h1,h4,h5,h6⟩
 | true =>
  cases hs:(bh l s).isSome with
  | true=>exact ⟨h1,h4,h5,h6⟩
  | false =>
   by_cases hl:(l.length:Int)≥130
   · rw [aO hl];exact ⟨h1,h4,h5,h6⟩
   · rw [aP hl]
     have hnone:bh l s=none:=by
      cases q:bh l s with
      | none=>rfl
      | some f=>rw [q] at hs;cases hs
     refine ⟨by show (ln l _).length≤130;rw [zG];omega,by show (dy (ln l _):Int)≤c;rw [vV];exact h4,fun f hf=>?_,wH h6 (py.1 hnone)⟩
     rcases zB.1 hf with e | e
     · rw [e];exact ⟨hn,Int.le_refl _,by show (0:Int)≤_;omega⟩
     · exact h5 f e
theorem JS (s t:ByteArray):GR (zC s t):=by
 intro l c h1 h2 h3 h4 h5 h6
 unfold zC
 cases hs:bh l s with
 | none=>exact ⟨h1,h4,h5,h6⟩
 | some f =>
  simp only [Option.isNone_some,aK]
  rw [aD (by omega) (by omega)]
  by_cases ht:(t.size:Int) > c-(dy l:Int)
  · rw [aO ht];exact ⟨h1,h4,h5,h6⟩
  · rw [aP ht]
    have hu:=sv (h:=fun f=>(f.1,(f.2.1++t,f.2.2))) hs
    have hz:(f.2.1++t).size=f.2.1.size+t.size:=ByteArray.size_append ..
    simp only [hz] at hu
    refine ⟨by show (lJ _ l s).length≤130;rw [vE];exact h1,by show (dy (lJ _ l s):Int)≤c;omega,fun x hx=>?_,w7 (by intro f;rfl) h6⟩
    rcases vG hx with q | ⟨y,q1,q2⟩
    · exact h5 x q
    · obtain ⟨a,b,c'⟩:=h5 y (nQ q1).1
      rw [q2]
      refine ⟨a,b,?_⟩
      show LE.le (α:=Int) y.2.2.1 ((y.2.1++t).size:Int)
      have:(y.2.1++t).size=y.2.1.size+t.size:=ByteArray.size_append ..
      omega
theorem Jd (s:ByteArray):GR (uZ s):=by
 intro l c h1 h2 h3 h4 h5 h6
 unfold uZ
 cases hs:bh l s with
 | none=>exact ⟨h1,h4,h5,h6⟩
 | some f =>
  simp only [Option.isNone_some,aK]
  have hu:=sv (h:=fun f=>(f.1,(f.2.1,((f.2.1.size:Int),f.2.2.2)))) hs
  refine ⟨by show (lJ _ l s).length≤130;rw [vE];exact h1,by show (dy (lJ _ l s):Int)≤c;simp only [] at hu;omega,fun x hx=>?_,w7 (by intro f;rfl) h6⟩
  rcases vG hx with q | ⟨y,q1,q2⟩
  · exact h5 x q
  · obtain ⟨a,b,c'⟩:=h5 y (nQ q1).1
    rw [q2]
    exact ⟨a,by show (0:Int)≤(y.2.1.size:Int);omega,Int.le_refl _⟩
theorem JR (s:ByteArray):GR (BB s):=by
 intro l c h1 h2 h3 h4 h5 h6
 unfold BB
 cases hs:bh l s with
 | none=>exact ⟨h1,h4,h5,h6⟩
 | some f =>
  have hd:=oV l s
  have hu:=uT l s
  exact ⟨Nat.le_trans hd.length_le h1,by show (dy (k6 l s):Int)≤c;omega,fun x hx=>h5 x (hd.subset hx),tE hd h6⟩
theorem qf (s:ByteArray) {n:Nat} (h:n≤s.size):(ByteArray.extract s 0 n).size=n:=by
 rw [ByteArray.size_extract]
 omega
theorem Jg (s:ByteArray) (n:Int):GR (FA s n):=by
 intro l c h1 h2 h3 h4 h5 h6
 unfold FA
 cases hs:bh l s with
 | none=>exact ⟨h1,h4,h5,h6⟩
 | some f =>
  simp only []
  by_cases hn:0≤n∧n≤(f.2.1.size:Int)
  · rw [aO hn]
    have hu:=sv (h:=fun f=>(f.1,(ByteArray.extract f.2.1 0 n.toNat,((if n<f.2.2.1 then n else f.2.2.1),f.2.2.2)))) hs
    have hz:=qf f.2.1 (n:=n.toNat) (by omega)
    simp only [hz] at hu
    refine ⟨by show (lJ _ l s).length≤130;rw [vE];exact h1,by show (dy (lJ _ l s):Int)≤c;omega,fun x hx=>?_,w7 (by intro f;rfl) h6⟩
    rcases vG hx with q | ⟨y,q1,q2⟩
    · exact h5 x q
    · rw [hs] at q1
      cases q1
      obtain ⟨a,b,c'⟩:=h5 f (nQ hs).1
      rw [q2]
      refine ⟨a,?_,?_⟩
      · show (0:Int)≤if n<f.2.2.1 then n else f.2.2.1
        split <;> omega
      · show (if n<f.2.2.1 then n else f.2.2.1)≤((ByteArray.extract f.2.1 0 n.toNat).size:Int)
        rw [hz]
        split <;> omega
  · rw [aP hn];exact ⟨h1,h4,h5,h6⟩
theorem Jo (a b:ByteArray):GR (Bb a b):=by
 intro l c h1 h2 h3 h4 h5 h6
 unfold Bb
 cases hn:jo b with
 | false=>exact ⟨h1,h4,h5,h6⟩
 | true =>
  simp only [fh,aK]
  cases hs:bh l a with
  | none=>exact ⟨h1,h4,h5,h6⟩
  | some f =>
   simp only []
   cases seq a b with
   | true=>exact ⟨h1,h4,h5,h6⟩
   | false =>
    simp only [aK]
    have hd:=oV l a
    have hd2:=oV (k6 l a) b
    have hu:=xN hs
    have hu2:=uT (k6 l a) b
    have hk2:=tE (hd2.trans hd) h6
    have hl:=jY l a 0
    have hlen:(k6 l a).length+1=l.length:=by
     rcases jY l a 0 with ⟨q,_⟩ | ⟨n,q1,_,_,q4,_⟩
     · rw [hs] at q;cases q
     · rw [← q4,u7,List.length_take,List.length_drop];omega
    have hlen2:=hd2.length_le
    refine ⟨by rw [zG];omega,by rw [vV];show ((dy (k6 (k6 l a) b)+f.2.1.size:Nat):Int)≤c;omega,fun x hx=>?_,wH hk2 (py.1 (Ba (tE hd h6) b))⟩
    rcases zB.1 hx with e | e
    · rw [e]
      exact ⟨hn,(h5 f (nQ hs).1).2.1,(h5 f (nQ hs).1).2.2⟩
    · exact h5 x ((hd2.trans hd).subset e)
theorem zX {d:Ty.d aA} (h:DR d) (s:ByteArray):DR (wz d s).1:=qN (Jj s) h
theorem oj {d:Ty.d aA} (h:DR d) (s t:ByteArray):DR (iH d s t).1:=qN (JS s t) h
theorem lk {d:Ty.d aA} (h:DR d) (s:ByteArray):DR (fj d s).1:=qN (Jd s) h
theorem Jy {d:Ty.d aA} (h:DR d) (a b:ByteArray):DR (B1 d a b).1:=qN (Jo a b) h
theorem zk {d:Ty.d aA} (h:DR d) (s:ByteArray):DR (ua d s).1:=qN (JR s) h
theorem xV {d:Ty.d aA} (h:DR d) (s:ByteArray) (n:Int):DR (wF d s n).1:=qN (Jg s n) h
theorem jK (k:Nat) {d:Ty.d aA} (hd:AM d):bz.f k d=some (d,()):=by
 have hl:=hd.l
 unfold bz.f bz.t
 rw [cD (by omega) (by decide),List.nil_append]
theorem k7 {k:Nat} (hk:2 ^ 50≤k) {d:Ty.d aA} (hd:AM d):cr.f k d=some ((jF d).1,((jF d).2,())):=by
 have hu:=hd.u
 have hn:=hd.n
 unfold cr.f cr.t jF
 rw [jK k hd,ab,j_ hk (by omega) (by omega),ab]
 cases gf d <;> cases d.2.2.2.1 <;> cases d.2.2.1==0 <;> cases decide ((d.2.2.1:Int) > 0) <;> rfl
theorem nh {k:Nat} (hk:2 ^ 50≤k) {l:bn} (f:Ty.d dJ) (hl:l.length≤1073741824):d5.f k l f=some (ln l f,()):=by
 unfold d5.f d5.t
 refine (e_ (L:=fun n i (s:Bool × bn)=>d5.l0 k n l s.1 i f.1 f.2.1 f.2.2.1 s.2) (R:=fun r s=>some (s.2++(bif s.1 then r else ln r f),())) (Ty.z dJ) l (fun i s=>(s.2.length:Int)≤i+1∧(s.1=false→(s.2.length:Int)≤i)) (fun n s hs=>?_) (fun n i s x rest h0 h1 hx hr hs ih=>?_) (n:=k) (s:=(false,[])) (by omega) ⟨by simp,by simp⟩).trans ?_
 · obtain ⟨b,o⟩:=s
   simp only [] at hs
   simp only [d5.l0,d5.b0]
   rw [aP (by omega),aK]
   cases b with
   | true=>simp only [fh,aK,ac,List.append_nil]
   | false=>simp only [tn,aK,ac];rw [cD (by omega) (by decide)];rfl
 · obtain ⟨b,o⟩:=s
   simp only [] at hs ih
   simp only [d5.l0,d5.b0]
   rw [aO h1,ac]
   have hlo:(o++[(f.1,(f.2.1,(f.2.2.1,())))]).length=o.length+1:=by simp
   obtain ⟨hs1,hs2⟩:=hs
   simp (disch:=first | omega | decide) only [aH,hx,cD,aD,lT,Bool.not_not]
   cases b with
   | true =>
    have i1:=ih (true,o++[x]) ⟨by simp only [br];omega,fun q=>(by cases q)⟩
    simp only [] at i1
    simp only [fh,aK,ac]
    rw [i1]
    simp only [ac,nn,List.singleton_append]
   | false =>
    have hs2:=hs2 rfl
    have i2:=ih (false,o++[x]) ⟨by simp only [br];omega,fun _=>by simp only [br];omega⟩
    simp only [] at i2
    simp only [tn,ac,aK]
    unfold ln
    cases c:mh f.1 x.1 with
    | true =>
     simp only [ac]
     have i3:=ih (true,(o++[(f.1,(f.2.1,(f.2.2.1,())))])++[x]) ⟨by simp only [br];omega,fun q=>(by cases q)⟩
     simp only [] at i3
     rw [i3]
     simp only [ac,nn,List.singleton_append]
     rfl
    | false =>
     simp only [aK]
     rw [i2]
     simp only [aK,nn,List.singleton_append]
 · simp only [aK,List.nil_append]
theorem mq (k:Nat) {l:bn} {n:Nat} (hn:n<l.length) (hl:l.length≤1073741824):eQ.f k l (n:Int)=some (l.take n++l.drop (n+1),()):=by
 unfold eQ.f eQ.t
 have e:aJ ((n:Int)+1)=((n+1:Nat):Int):=by rw [aD (by omega) (by omega)];omega
 rw [e,nt,nt,cN (by omega) (by omega),cN (by omega) (by omega),cD (by rw [List.length_take];omega) (by decide),cD (by rw [u7,List.length_take,List.length_drop];simp only [List.length_nil];omega) (by decide),List.nil_append]
theorem mc (d:Ty.d aA):∃ b2,(jF d).1=(d.1,b2):=⟨(jF d).1.2,Prod.ext (p5 d) rfl⟩
theorem rj {k:Nat} (hk:2 ^ 50≤k) {d:Ty.d aA} (hd:AM d) {s:ByteArray} (hs:s.size≤1099511627776):gU.f k d s=some ((wz d s).1,((wz d s).2,())):=by
 have hl:=hd.l
 unfold gU.f gU.t wz ij
 rw [k7 hk hd,ab]
 obtain ⟨b2,hb⟩:=mc d
 simp only [hb]
 cases c:(jF d).2 != 0 with
 | true=>rw [ac,ac,hb]
 | false =>
  rw [aK,aK,nD hk hs,ab]
  unfold tf
  cases jo s with
  | false=>rfl
  | true =>
   simp only [fh,aK]
   rw [gy hk (by omega),ab]
   rcases jY d.1 s 0 with ⟨h1,h2,_⟩ | ⟨n,h1,h2,h3,_⟩
   · rw [h1,h2]
     simp only [Option.isSome_none,aK]
     rw [aP (by decide),aK]
     by_cases cl:(d.1.length:Int)≥130
     · rw [aO cl];rfl
     · rw [aP cl,aK,aK,nh hk _ (by omega),ab]
   · rw [h2,h3]
     simp only [Option.isSome_some,ac]
     rw [aO (by omega),ac]
theorem ot {k:Nat} (hk:2 ^ 50≤k) {d:Ty.d aA} (hd:AM d) (s:ByteArray) {t:ByteArray} (ht:t.size≤1099511627776):dW.f k d s t=some ((iH d s t).1,((iH d s t).2,())):=by
 have hl:=hd.l
 have hu:=hd.u
 unfold dW.f dW.t iH ij
 rw [k7 hk hd,ab]
 obtain ⟨b2,hb⟩:=mc d
 simp only [hb]
 cases c:(jF d).2 != 0 with
 | true=>rw [ac,ac,hb]
 | false =>
  rw [aK,aK,gy hk (by omega),ab]
  unfold zC
  rcases jY d.1 s 0 with ⟨h1,h2,_⟩ | ⟨n,h1,h2,h3,_,_,h6⟩
  · rw [h1,h2]
    simp only [Option.isNone_none,ac]
    rw [aO (by decide),ac]
  · rw [Int.zero_add] at h2
    rw [h2,h3]
    simp only [Option.isNone_some,aK]
    rw [aP (by omega),aK,pz hk (by omega) (by omega),ab]
    simp only []
    cases decide ((t.size:Int) > aJ (d.2.1-(dy d.1:Int))) with
    | true=>rfl
    | false =>
     have hm:=sK (nQ h3).1
     rw [aK,aK,nt,aH (by omega) (by omega),aH (by omega) (by omega),e9 (Nat.le_trans (Nat.add_le_add (Nat.le_trans hm hu) ht) (by decide)),← h6]
theorem lW {k:Nat} (hk:2 ^ 50≤k) {d:Ty.d aA} (hd:AM d) (s:ByteArray):du.f k d s=some ((fj d s).1,((fj d s).2,())):=by
 have hl:=hd.l
 unfold du.f du.t fj ij
 rw [k7 hk hd,ab]
 obtain ⟨b2,hb⟩:=mc d
 simp only [hb]
 cases c:(jF d).2 != 0 with
 | true=>rw [ac,ac,hb]
 | false =>
  rw [aK,aK,gy hk (by omega),ab]
  unfold uZ
  rcases jY d.1 s 0 with ⟨h1,h2,_⟩ | ⟨n,h1,h2,h3,_,_,h6⟩
  · rw [h1,h2]
    simp only [Option.isNone_none,ac]
    rw [aO (by decide),ac]
  · rw [Int.zero_add] at h2
    rw [h2,h3]
    simp only [Option.isNone_some,aK]
    rw [aP (by omega),aK,nt,aH (by omega) (by omega),aH (by omega) (by omega),← h6]
theorem DJ {k:Nat} (hk:2 ^ 50≤k) {d:Ty.d aA} (hd:AM d) (a:ByteArray) {b:ByteArray} (hs:b.size≤1099511627776):jA.f k d a b=some ((B1 d a b).1,((B1 d a b).2,())):=by
 have hl:=hd.l
 unfold jA.f jA.t B1 ij
 rw [k7 hk hd,ab]
 obtain ⟨b2,hb⟩:=mc d
 simp only [hb]
 cases c:(jF d).2 != 0 with
 | true=>rw [ac,ac,hb]
 | false =>
  rw [aK,aK,nD hk hs,ab]
  unfold Bb
  cases jo b with
  | false=>rfl
  | true =>
   simp only [fh,aK]
   rw [gy hk (by omega),ab]
   rcases jY d.1 a 0 with ⟨h1,h2,_⟩ | ⟨n,h1,h2,h3,h4,_,_⟩
   · rw [h1,h2]
     simp only []
     rw [aO (by decide),ac]
   · rw [Int.zero_add] at h2
     rw [h2,h3]
     simp only []
     rw [aP (by omega),aK]
     cases seq a b with
     | true=>rfl
     | false =>
      have hd1:=(oV d.1 a).length_le
      rw [aK,aK,nt,aH (by omega) (by omega),mq k h1 (by omega),ab,h4]
      simp only []
      rw [gy hk (d:=(k6 d.1 a,b2)) (by show (k6 d.1 a).length≤_;omega),ab]
      simp only []
      rcases jY (k6 d.1 a) b 0 with ⟨g1,g2,g3,_⟩ | ⟨m,g1,g2,g3,g4,_⟩
      · rw [g2,g3,aP (by decide),aK,nh hk _ (by omega),ab]
      · rw [Int.zero_add] at g2
        have hd2:=(oV (k6 d.1 a) b).length_le
        rw [g2,aO (by omega),ac,mq k g1 (by omega),ab,g4]
        simp only []
        rw [nh hk _ (by omega),ab]
theorem rO {k:Nat} (hk:2 ^ 50≤k) {d:Ty.d aA} (hd:AM d) (s:ByteArray):g7.f k d s=some ((ua d s).1,((ua d s).2,())):=by
 have hl:=hd.l
 unfold g7.f g7.t ua ij
 rw [k7 hk hd,ab]
 obtain ⟨b2,hb⟩:=mc d
 simp only [hb]
 cases c:(jF d).2 != 0 with
 | true=>rw [ac,ac,hb]
 | false =>
  rw [aK,aK,gy hk (by omega),ab]
  unfold BB
  rcases jY d.1 s 0 with ⟨h1,h2,_⟩ | ⟨n,h1,h2,h3,h4,_⟩
  · rw [h1,h2]
    simp only [Option.isNone_none,ac]
    rw [aO (by decide),ac]
  · rw [Int.zero_add] at h2
    rw [h2,h3]
    simp only [Option.isNone_some,aK]
    rw [aP (by omega),aK,mq k h1 (by omega),ab,h4]
theorem sX {l:bn} {n:Nat} (h:n<l.length) (x z:Ty.d dJ):(l.set n x).getD n z=x:=by
 simp [List.getD,h]
theorem IE {l:bn} {n:Nat} (x y:Ty.d dJ):(l.set n x).set n y=l.set n y:=by simp
theorem Ca {k:Nat} (hk:2 ^ 50≤k) {d:Ty.d aA} (hd:AM d) (s:ByteArray) (m:Int):hO.f k d s m=some ((wF d s m).1,((wF d s m).2,())):=by
 have hl:=hd.l
 unfold hO.f hO.t wF ij
 rw [k7 hk hd,ab]
 obtain ⟨b2,hb⟩:=mc d
 simp only [hb]
 cases c:(jF d).2 != 0 with
 | true=>rw [ac,ac,hb]
 | false =>
  rw [aK,aK,gy hk (by omega),ab]
  unfold FA
  rcases jY d.1 s 0 with ⟨h1,h2,_⟩ | ⟨n,h1,h2,h3,_,_,h6⟩
  · rw [h1,h2]
    simp only []
    rw [aO (by decide),ac]
  · rw [Int.zero_add] at h2
    rw [h2,h3]
    simp only []
    rw [aP (by omega),aK,nt,aH (by omega) (by omega),fE,ab]
    by_cases hm:0≤m∧m≤((d.1.getD n (Ty.z dJ)).2.1.size:Int)
    · rw [aO hm]
      simp only [fh,aK]
      rw [aH (by omega) (by omega),cN hm.1 hm.2,aH (by omega) (by omega),aH (by omega) (by omega),aH (by omega) (by rw [List.length_set];omega),sX h1,IE,← h6]
    · rw [aP hm]
      rfl
def m7 (lim:Int) (p:Option Int) (x:Int):Bool:=decide ((1:Int)≤x∧x≤lim)&&(match p with | none=>true | some y=>decide (y<x))
def cS (v:Ty.d cY):Bool:=decide ((1:Int)≤v.1∧v.1≤100000)&&(decide ((1:Int)≤(v.2.1.length:Int)∧(v.2.1.length:Int)≤60)&&nC (m7 (aJ (v.1-1))) none v.2.1)
theorem pk {k:Nat} (hk:2 ^ 50≤k) (v:Ty.d cY):dE.f k v=some (cS v,()):=by
 unfold dE.f dE.t cS
 rw [fE,ab]
 cases decide ((1:Int)≤v.1∧v.1≤100000) with
 | false=>rfl
 | true =>
  rw [fh,aK,fE,ab,Bool.true_and]
  by_cases c:(1:Int)≤(v.2.1.length:Int)∧(v.2.1.length:Int)≤60
  case neg=>rw [aP c];rfl
  rw [aO c,fh,aK,Bool.true_and]
  refine (pn (L:=fun n i=>dE.l0 k n i v.1 v.2.1) (Ty.z (.int .i64)) v.2.1 (m7 (aJ (v.1-1))) (some (true,())) (some (false,())) (fun n=>?_) (fun n x h hx=>?_) (fun n i x y h0 h1 hx hy=>?_) (n:=k) (by omega)).trans (by cases nC (m7 (aJ (v.1-1))) none v.2.1 <;> rfl)
  · simp (disch:=omega) only [dE.l0,dE.b0,aP,aK]
  · simp (disch:=omega) only [dE.l0,dE.b0,aO (show (0:Int)<(v.2.1.length:Int) by omega),ac,aH,hx,fE k,ab,aP (show ¬ (0:Int) > 0 by omega),aK,aD (n:=(0:Int)+1),m7]
    cases decide ((1:Int)≤x∧x≤aJ (v.1-1)) <;> rfl
  · simp (disch:=omega) only [dE.l0,dE.b0,aO h1,ac,aH,hx,fE k,ab,aO (show i > 0 by omega),aK,aD (n:=i+1),aD (n:=i-1),hy,m7]
    cases decide ((1:Int)≤x∧x≤aJ (v.1-1)) with
    | false=>rfl
    | true =>
     by_cases q:y<x
     · rw [aO q,aP (show ¬ x≤y from Int.not_le.2 q)];rfl
     · rw [aP q,aO (show x≤y from Int.not_lt.1 q)];rfl
theorem u5 {k:Nat} (hk:2 ^ 50≤k) {v:Ty.d cY} (hl:v.2.1.length≤1099511627776):db.f k v=some (cS v,()):=by
 unfold db.f db.t cS
 refine (pn (L:=fun n i=>db.l0 k n v.2.1 v.2.1.length i v.1 v.2.1) (Ty.z (.int .i64)) v.2.1 (m7 (aJ (v.1-1))) (some (decide ((1:Int)≤v.1∧v.1≤100000)&&decide ((1:Int)≤(v.2.1.length:Int)∧(v.2.1.length:Int)≤60),())) (some (false,())) (fun n=>?_) (fun n x h hx=>?_) (fun n i x y h0 h1 hx hy=>?_) (n:=k) (by omega)).trans
  (by cases nC (m7 (aJ (v.1-1))) none v.2.1 <;> cases decide ((1:Int)≤v.1∧v.1≤100000) <;> cases decide ((1:Int)≤(v.2.1.length:Int)∧(v.2.1.length:Int)≤60) <;> rfl)
 · simp (disch:=omega) only [db.l0,db.b0,aP,aK,lm k,ab]
   cases decide ((1:Int)≤v.1∧v.1≤100000) <;> rfl
 · simp (disch:=omega) only [db.l0,db.b0,aO (show (0:Int)<(v.2.1.length:Int) by omega),ac,aH,hx,lm k,ab,aP (show ¬ (0:Int) > 0 by omega),aK,aD (n:=(0:Int)+1),m7]
   cases decide ((1:Int)≤x∧x≤aJ (v.1-1)) <;> rfl
 · simp (disch:=omega) only [db.l0,db.b0,aO h1,ac,aH,hx,lm k,ab,aO (show i > 0 by omega),aK,aD (n:=i+1),aD (n:=i-1),hy,m7]
   cases decide ((1:Int)≤x∧x≤aJ (v.1-1)) with
   | false=>rfl
   | true =>
    by_cases q:y<x
    · rw [aO q,aP (show ¬ y≥x from Int.not_le.2 q)];rfl
    · rw [aP q,aO (show y≥x from Int.not_lt.1 q)];rfl
end Go.Proofs.YtnpijgnfpdcjbaaGreatDoor.G
namespace Go.V
theorem AH (l:List Int):(bytesOf l).size=l.length:=by simp [bytesOf,ByteArray.size]
theorem Iz {n m:Nat} (hn:n<4294967296) (hm:m<4294967296):aJ (((BitVec.ofInt (IntKind.bits .i64) (n:Int) ^^^ BitVec.ofInt (IntKind.bits .i64) (m:Int)).toNat:Int))=((n ^^^ m:Nat):Int):=by
 have h:n ^^^ m<2 ^ 32:=Nat.xor_lt_two_pow (by omega) (by omega)
 show aJ (((BitVec.ofInt 64 (n:Int) ^^^ BitVec.ofInt 64 (m:Int)).toNat:Int))=_
 rw [BitVec.ofInt_natCast,BitVec.ofInt_natCast,BitVec.toNat_xor,BitVec.toNat_ofNat,BitVec.toNat_ofNat,Nat.mod_eq_of_lt (by omega),Nat.mod_eq_of_lt (by omega)]
 exact aD (by omega) (by omega)
theorem JI {n m:Nat} (hn:n<4294967296) (hm:m<4294967296):IntKind.wrap .u32 (((BitVec.ofInt (IntKind.bits .u32) (n:Int) ^^^ BitVec.ofInt (IntKind.bits .u32) (m:Int)).toNat:Int))=((n ^^^ m:Nat):Int):=by
 have h:n ^^^ m<2 ^ 32:=Nat.xor_lt_two_pow (by omega) (by omega)
 show IntKind.wrap .u32 (((BitVec.ofInt 32 (n:Int) ^^^ BitVec.ofInt 32 (m:Int)).toNat:Int))=_
 rw [BitVec.ofInt_natCast,BitVec.ofInt_natCast,BitVec.toNat_xor,BitVec.toNat_ofNat,BitVec.toNat_ofNat,Nat.mod_eq_of_lt (by omega),Nat.mod_eq_of_lt (by omega)]
 exact vF (by omega) (by omega)
theorem L5 {n b:Nat} (hn:n<4294967296) (hb:b<256):aJ (((BitVec.ofInt (IntKind.bits .i64) ((n*256:Nat):Int) ||| BitVec.ofInt (IntKind.bits .i64) (b:Int)).toNat:Int))=((n*256+b:Nat):Int):=by
 have h:n*256 ||| b=n*256+b:=by
  have:=Nat.shiftLeft_add_eq_or_of_lt (i:=8) (b:=b) (by omega) n
  rw [Nat.shiftLeft_eq,show (2:Nat) ^ 8=256 by decide] at this
  omega
 show aJ (((BitVec.ofInt 64 ((n*256:Nat):Int) ||| BitVec.ofInt 64 (b:Int)).toNat:Int))=_
 rw [BitVec.ofInt_natCast,BitVec.ofInt_natCast,BitVec.toNat_or,BitVec.toNat_ofNat,BitVec.toNat_ofNat,Nat.mod_eq_of_lt (by omega),Nat.mod_eq_of_lt (by omega),h]
 exact aD (by omega) (by omega)
theorem Kn {n:Nat} (hn:n<4294967296):IntKind.wrap .u32 (((BitVec.ofInt (IntKind.bits .u32) (n:Int) &&& BitVec.ofInt (IntKind.bits .u32) 1).toNat:Int))=((n % 2:Nat):Int):=by
 show IntKind.wrap .u32 (((BitVec.ofInt 32 (n:Int) &&& BitVec.ofInt 32 ((1:Nat):Int)).toNat:Int))=_
 rw [BitVec.ofInt_natCast,BitVec.ofInt_natCast,BitVec.toNat_and,BitVec.toNat_ofNat,BitVec.toNat_ofNat,Nat.mod_eq_of_lt (by omega),Nat.mod_eq_of_lt (show 1<2 ^ 32 by omega),Nat.and_one_is_mod]
 exact vF (by omega) (by omega)
theorem Kc {n:Nat} (hn:n<4294967296):Co .u32 (n:Int)=4294967295-(n:Int):=by
 unfold Co
 show IntKind.wrap .u32 (((BitVec.allOnes 32 ^^^ BitVec.ofInt 32 (n:Int)).toNat:Int))=_
 rw [BitVec.ofInt_natCast,BitVec.allOnes_xor,BitVec.toNat_not,BitVec.toNat_ofNat,Nat.mod_eq_of_lt (by omega)]
 rw [vF (by omega) (by omega)]
 omega
theorem nU (s:ByteArray):(⟨#[]⟩:ByteArray)++s=s:=by
 apply ByteArray.ext
 simp [ByteArray.data_append]
theorem jI (s:ByteArray):s++(⟨#[]⟩:ByteArray)=s:=by
 apply ByteArray.ext
 simp [ByteArray.data_append]
theorem ai (a b c:ByteArray):a++b++c=a++(b++c):=by
 apply ByteArray.ext
 simp [ByteArray.data_append]
theorem gP (a b:ByteArray):nb (a++b)=nb a++nb b:=by
 unfold nb
 rw [ByteArray.data_append,Array.toList_append,List.map_append]
theorem rP (s:ByteArray) (i j:Nat):nb (ByteArray.extract s i j)=((nb s).take j).drop i:=by
 unfold nb
 simp [ByteArray.data_extract,List.map_take,List.map_drop]
 rw [List.drop_take]
theorem gk (s:ByteArray) (n:Nat):nb (ByteArray.extract s n s.size)=(nb s).drop n:=by
 rw [rP,List.take_of_length_le (by rw [cM];omega)]
theorem dj (a t:ByteArray):ByteArray.extract (a++t) a.size (a++t).size=t:=jV (by rw [gk,gP,List.drop_left' (cM a)])
theorem BU (a t:ByteArray):ByteArray.extract (a++t) 0 a.size=a:=jV (by rw [rP,gP,List.take_left' (cM a),List.drop_zero])
theorem vP (s:ByteArray) {n:Nat} (h:n≤s.size):s=ByteArray.extract s 0 n++ByteArray.extract s n s.size:=jV (by rw [gP,gk,jf,List.take_append_drop])
theorem rX {a b c:ByteArray} (h:a++b=a++c):b=c:=jV (by
 have:=congrArg nb h
 rw [gP,gP] at this
 exact List.append_cancel_left this)
theorem qP {a b c d:ByteArray} (h:a++b=c++d) (hs:a.size=c.size):a=c∧b=d:=by
 have:=congrArg nb h
 rw [gP,gP] at this
 have:=List.append_inj this (by rw [cM,cM,hs])
 exact ⟨jV this.1,jV this.2⟩
def rv:Nat→List Nat→Option (Nat × Nat)
 | 0,_=>none
 | _+1,[]=>none
 | d+1,b::l=>if b≥128 then (match rv d l with | some (a,n)=>if a=0 then none else some (b % 128+128*a,n+1) | none=>none) else some (b,1)
theorem HP:∀ (d a:Nat) (t:List Nat),a<128 ^ (d+1)→rv (d+1) (vl d a++t)=some (a,(vl d a).length)
 | 0,a,t,h=>by
  have:¬ a≥128:=by simpa using h
  simp [vl,rv,this]
 | d+1,a,t,h=>by
  unfold vl
  by_cases c:a≥128
  · have ih:=HP d (a/128) t (by rw [Nat.pow_succ] at h;omega)
    rw [if_pos c,List.cons_append,rv,if_pos (by omega),ih]
    simp only []
    rw [if_neg (by omega),kJ]
    congr 2
    omega
  · rw [if_neg c,List.cons_append,rv,if_neg c]
    rfl
theorem ox:∀ (d:Nat) (l:List Nat) (a n:Nat),(∀ x ∈ l,x<256)→rv (d+1) l=some (a,n)→l.take n=vl d a∧a<128 ^ (d+1)∧n=(vl d a).length∧n≤l.length∧1≤n∧n≤d+1
 | _,[],a,n,_,h=>by simp [rv] at h
 | 0,b::l,a,n,hb,h=>by
  unfold rv at h
  by_cases c:b≥128
  · simp [c,rv] at h
  · simp [c] at h
    obtain ⟨rfl,rfl⟩:=h
    refine ⟨by simp [vl],by simpa using c,by simp [vl],by simp,by omega,by omega⟩
 | d+1,b::l,a,n,hb,h=>by
  unfold rv at h
  by_cases c:b≥128
  · rw [if_pos c] at h
    cases q:rv (d+1) l with
    | none=>rw [q] at h;simp at h
    | some p =>
     obtain ⟨a',n'⟩:=p
     obtain ⟨h1,h2,h3,h4,h5,h6⟩:=ox d l a' n' (fun x hx=>hb x (lK _ hx)) q
     rw [q] at h
     simp only [] at h
     by_cases z:a'=0
     · simp [z] at h
     · rw [if_neg z] at h
       simp only [Option.some.injEq,Prod.mk.injEq] at h
       obtain ⟨rfl,rfl⟩:=h
       have hb:=hb b (jd ..)
       have e1:(b % 128+128*a')/128=a':=by omega
       have e2:128+(b % 128+128*a') % 128=b:=by omega
       have hv:vl (d+1) (b % 128+128*a')=b::vl d a':=by
        rw [vl,if_pos (by omega),e1,e2]
       rw [hv]
       refine ⟨by rw [List.take_succ_cons,h1],by rw [Nat.pow_succ];omega,by rw [kJ,h3],by rw [kJ];omega,by omega,by omega⟩
  · rw [if_neg c] at h
    simp only [Option.some.injEq,Prod.mk.injEq] at h
    obtain ⟨rfl,rfl⟩:=h
    have hv:vl (d+1) b=[b]:=by rw [vl,if_neg c]
    rw [hv]
    refine ⟨by simp,?_,by simp,by simp,by omega,by omega⟩
    have:(128:Nat) ^ 1≤128 ^ (d+1+1):=Nat.pow_le_pow_right (by decide) (by omega)
    omega
theorem KX {d a:Nat}:vl d a≠[]:=by
 cases d with
 | zero=>simp [vl]
 | succ d=>unfold vl;split <;> simp
theorem Ih (l:List Nat) (hb:∀ x ∈ l,x<256) (d n:Nat) (h0:1≤n) (h1:n≤d+1) (h2:n≤l.length):pP (l.take n)=true↔∃ a,rv (d+1) l=some (a,n):=by
 constructor
 · intro h
   have e:=zY d (l.take n) h (by rw [List.length_take];omega)
   have hd:qp (l.take n)<128 ^ (d+1):=Nat.lt_of_lt_of_le (A5 _) (Nat.pow_le_pow_right (by decide) (by rw [List.length_take];omega))
   have:=HP d (qp (l.take n)) (l.drop n) hd
   rw [e,List.take_append_drop,List.length_take,Nat.min_eq_left h2] at this
   exact ⟨_,this⟩
 · rintro ⟨a,h⟩
   obtain ⟨e1,e2,_⟩:=ox d l a n hb h
   rw [e1]
   exact (v8 d a e2).1
theorem Ja {l:List Nat} (hb:∀ x ∈ l,x<256) {d a n:Nat} (h:rv (d+1) l=some (a,n)):a=qp (l.take n):=by
 obtain ⟨e1,e2,_⟩:=ox d l a n hb h
 rw [e1]
 exact (v8 d a e2).2.1.symm
theorem ro (s:ByteArray):∀ x ∈ nb s,x<256:=fun _ h=>J9 h
theorem ah (a:Nat):1≤(bB a).size∧(bB a).size≤7:=by
 unfold bB
 rw [AH,List.length_map]
 have h:∀ d a,(vl d a).length≤d+1:=by
  intro d
  induction d with
  | zero=>intro a;simp [vl]
  | succ d ih=>intro a;unfold vl;split <;> simp;have:=ih (a/128);omega
 have h2:=h 6 a
 have h3:(vl 6 a).length≠0:=fun q=>KX (List.length_eq_zero_iff.1 q)
 omega
theorem qC {a:Nat} (h:a<562949953421312):(vl 6 a).length=(bB a).size:=by rw [← sg h,cM]
theorem pm {a:Nat} (h:a<562949953421312) (t:ByteArray):rv 7 (nb (bB a++t))=some (a,(bB a).size):=by
 rw [gP,sg h,← qC h]
 exact HP 6 a _ (by rw [show (128:Nat) ^ (6+1)=562949953421312 by decide];exact h)
theorem I5 {s:ByteArray} {a n:Nat} (h:rv 7 (nb s)=some (a,n)):∃ t,a<562949953421312∧n=(bB a).size∧s=bB a++t:=by
 obtain ⟨h1,h2,h3,h4,h5,h6⟩:=ox 6 (nb s) a n (ro s) h
 rw [show (128:Nat) ^ (6+1)=562949953421312 by decide] at h2
 refine ⟨ByteArray.extract s n s.size,h2,by rw [h3,qC h2],jV ?_⟩
 rw [gP,sg h2,gk,← h1,List.take_append_drop]
theorem m3 (s:ByteArray):(∃ a t,a<562949953421312∧s=bB a++t)∨rv 7 (nb s)=none:=by
 cases h:rv 7 (nb s) with
 | none=>exact .inr rfl
 | some p =>
  obtain ⟨a,n⟩:=p
  obtain ⟨t,h1,_,h3⟩:=I5 h
  exact .inl ⟨a,t,h1,h3⟩
theorem vf {a b:Nat} {s t:ByteArray} (ha:a<562949953421312) (hb:b<562949953421312) (h:bB a++s=bB b++t):a=b∧s=t:=by
 have h1:=pm ha s
 rw [h,pm hb t] at h1
 simp only [Option.some.injEq,Prod.mk.injEq] at h1
 obtain ⟨rfl,_⟩:=h1
 exact ⟨rfl,rX h⟩
def Cv:Option (Nat × Nat)→Int × Int × Unit
 | some p=>((p.1:Int),((p.2:Int),()))
 | none=>(0,(0,()))
end Go.V
namespace Go.Proofs.YtnpijgnfpdcjbaaGreatDoor.G
open Go.V
theorem nG (k:Nat) (a b c:Int):aS.f k a b c=some (decide (b≤a∧a≤c),()):=by
 unfold aS.f aS.t
 by_cases h:b≤a <;> simp [h]
theorem sZ (k:Nat) (a b c:Int):ax.f k a b c=some (decide (b≤a∧a≤c),()):=by
 unfold ax.f ax.t
 by_cases h:b≤a <;> simp [h]
def gh (a:Int):ByteArray:=if 0≤a∧a≤562949953421311 then bB a.toNat else ⟨#[]⟩
theorem bG (a:Int):(gh a).size≤7:=by
 unfold gh
 split
 · exact (ah _).2
 · exact Nat.zero_le _
theorem dY {a:Nat} (h:a<562949953421312):gh (a:Int)=bB a:=by
 unfold gh
 rw [if_pos (by omega),Int.toNat_natCast]
theorem KU:∀ (d a n:Nat) (xs:List Int),a<128 ^ (d+1)→a<562949953421312→d<n→xs.length+d≤100→∀ k,
 bT.l0 k n (a:Int) xs=some (bytesOf (xs++(vl d a).map Int.ofNat),())∧fC.l0 k n (a:Int) xs=some (bytesOf (xs++(vl d a).map Int.ofNat),()):=by
 intro d
 induction d with
 | zero =>
  intro a n xs h1 h2 h3 h4 k
  obtain ⟨n,rfl⟩:∃ q,n=q+1:=⟨n-1,by omega⟩
  simp only [Nat.zero_add,Nat.pow_one] at h1
  constructor
  · simp (disch:=first | omega | decide) only [bT.l0,bT.b0,aP,aK,cD,nZ]
    rfl
  · simp (disch:=first | omega | decide) only [fC.l0,fC.b0,aP,aK,cD,nZ]
    rfl
 | succ d ih =>
  intro a n xs h1 h2 h3 h4 k
  obtain ⟨n,rfl⟩:∃ q,n=q+1:=⟨n-1,by omega⟩
  unfold vl
  by_cases c:a≥128
  · have hd:aJ (Int.tdiv (a:Int) 128)=((a/128:Nat):Int):=aD (n:=((a/128:Nat):Int)) (by omega) (by omega)
    have hw:IntKind.wrap .u8 (aJ (128+Int.tmod (a:Int) 128))=((128+a % 128:Nat):Int):=by
     have e:128+Int.tmod (a:Int) 128=((128+a % 128:Nat):Int):=by
      show 128+((a % 128:Nat):Int)=_
      omega
     rw [e,aD (by omega) (by omega)]
     exact nZ (by omega) (by omega)
    have ih:=ih (a/128) n (xs++[((128+a % 128:Nat):Int)]) (by rw [Nat.pow_succ] at h1;omega) (by omega) (by omega) (by rw [u7];show _+1+d≤_;omega) k
    rw [if_pos c]
    rw [nn] at ih
    constructor
    · simp (disch:=first | omega | decide) only [bT.l0,bT.b0,aO,ac,cD,hd,hw]
      exact ih.1
    · simp (disch:=first | omega | decide) only [fC.l0,fC.b0,aO,ac,cD,hd,Int.add_comm (Int.tmod (a:Int) 128) 128,hw]
      exact ih.2
  · rw [if_neg c]
    constructor
    · simp (disch:=first | omega | decide) only [bT.l0,bT.b0,aP,aK,cD,nZ]
      rfl
    · simp (disch:=first | omega | decide) only [fC.l0,fC.b0,aP,aK,cD,nZ]
      rfl
theorem gH {k:Nat} (hk:2 ^ 50≤k) (a:Int):bT.f k a=some (gh a,()):=by
 unfold bT.f bT.t gh
 rw [nG,ab]
 by_cases h:0≤a∧a≤562949953421311
 · obtain ⟨n,rfl⟩:=Int.eq_ofNat_of_zero_le h.1
   have hn:n<562949953421312:=by omega
   simp only [aO h,fh,aK,if_pos h,Int.toNat_natCast]
   exact (KU 6 n k [] (by rw [show (128:Nat) ^ (6+1)=562949953421312 by decide];exact hn) hn (by omega) (by decide) k).1
 · simp only [aP h,tn,ac,if_neg h]
theorem od {k:Nat} (hk:2 ^ 50≤k) (a:Int):fC.f k a=some (gh a,()):=by
 unfold fC.f fC.t gh
 rw [sZ,ab]
 by_cases h:0≤a∧a≤562949953421311
 · obtain ⟨n,rfl⟩:=Int.eq_ofNat_of_zero_le h.1
   have hn:n<562949953421312:=by omega
   simp only [aO h,fh,aK,if_pos h,Int.toNat_natCast]
   exact (KU 6 n k [] (by rw [show (128:Nat) ^ (6+1)=562949953421312 by decide];exact hn) hn (by omega) (by decide) k).2
 · simp only [aP h,tn,ac,if_neg h]
theorem Gp {s:ByteArray} {i:Nat} (h:i<s.size):(nb s).take (i+1)=(nb s).take i++[(nb s).getD i 0]:=by
 have h1:i<(nb s).length:=by rw [cM];exact h
 rw [List.take_succ_eq_append_getElem h1]
 simp [List.getD,h1]
theorem ib (s:ByteArray) (i:Nat):(nb s).getD i 0<256:=by
 by_cases h1:i<(nb s).length
 · rw [show (nb s).getD i 0=(nb s)[i] by simp [List.getD,h1]]
   exact J9 (List.getElem_mem h1)
 · simp [List.getD,List.getElem?_eq_none (by omega:(nb s).length≤i)]
theorem qM {s:ByteArray} {i:Nat} (h:i<s.size):(nb s).drop i=(nb s).getD i 0::(nb s).drop (i+1):=by
 have h1:i<(nb s).length:=by rw [cM];exact h
 rw [List.drop_eq_getElem_cons h1]
 simp [List.getD,h1]
def Ci (n:Nat):Nat:=if n % 2=1 then n/2 ^^^ 2197175160 else n/2
def xq:Nat→Nat→Nat
 | 0,n=>n
 | d+1,n=>xq d (Ci n)
theorem AB {n:Nat} (h:n<4294967296):Ci n<4294967296:=by
 unfold Ci
 split
 · exact Nat.xor_lt_two_pow (n:=32) (by omega) (by omega)
 · omega
theorem zU:∀ {d n:Nat},n<4294967296→xq d n<4294967296
 | 0,_,h=>h
 | d+1,_,h=>zU (d:=d) (AB h)
def Cr:List Nat→Nat→Nat
 | [],n=>n
 | b::l,n=>Cr l (xq 8 (n ^^^ b))
theorem Eh:∀ {l:List Nat} {n:Nat},n<4294967296→(∀ b ∈ l,b<256)→Cr l n<4294967296
 | [],_,h,_=>h
 | b::l,n,h,hb=>by
  have:=hb b (jd ..)
  exact Eh (l:=l) (zU (Nat.xor_lt_two_pow (n:=32) (by omega) (by omega))) (fun x hx=>hb x (lK _ hx))
def pH (s:ByteArray):Int:=4294967295-(Cr (nb s) 4294967295:Int)
theorem sU (s:ByteArray):0≤pH s∧pH s≤4294967295:=by
 have:=Eh (l:=nb s) (n:=4294967295) (by omega) (ro s)
 unfold pH
 omega
theorem EG {k:Nat} {L0:ByteArray→Int→Int→Option (Int × Unit)} {s:ByteArray} {i:Int}:∀ (d j m n:Nat),8-j=d→j≤8→d<m→n<4294967296→fb.l1 k L0 m s (n:Int) i (j:Int)=L0 s ((xq d n:Nat):Int) (aJ (i+1))
 | 0,j,m,n,hd,hj,hm,hn=>by
  obtain ⟨m,rfl⟩:∃ q,m=q+1:=⟨m-1,by omega⟩
  have c:¬ ((j:Int)<8):=by omega
  simp only [fb.l1,fb.b1,decide_eq_false c,aK,xq]
 | d+1,j,m,n,hd,hj,hm,hn=>by
  obtain ⟨m,rfl⟩:∃ q,m=q+1:=⟨m-1,by omega⟩
  have c:((j:Int)<8):=by omega
  have ih:=EG (k:=k) (L0:=L0) (s:=s) (i:=i) d (j+1) m (Ci n) (by omega) (by omega) (by omega) (AB hn)
  have hd2:aJ (Int.tdiv (n:Int) 2)=((n/2:Nat):Int):=aD (n:=((n/2:Nat):Int)) (by omega) (by omega)
  have hx:=Iz (n:=n/2) (m:=2197175160) (by omega) (by omega)
  have hm2:Int.tmod (n:Int) 2=((n % 2:Nat):Int):=rfl
  have hj1:aJ ((j:Int)+1)=((j+1:Nat):Int):=by rw [aD (by omega) (by omega)];omega
  simp only [fb.l1,fb.b1,decide_eq_true c,ac,hj1,hd2,hm2,xq]
  rw [← ih]
  unfold Ci
  by_cases q:n % 2=1
  · rw [if_pos q,q,← hx]
    rfl
  · rw [if_neg q,show n % 2=0 by omega]
    rfl
theorem EZ {k:Nat} {L0:ByteArray→Int→Int→Option (Int × Unit)} {s:ByteArray} {i:Int}:∀ (d j m n:Nat),8-j=d→j≤8→d<m→n<4294967296→gA.l1 k L0 m s (n:Int) i (j:Int)=L0 s ((xq d n:Nat):Int) (aJ (i+1))
 | 0,j,m,n,hd,hj,hm,hn=>by
  obtain ⟨m,rfl⟩:∃ q,m=q+1:=⟨m-1,by omega⟩
  have c:¬ ((j:Int)<8):=by omega
  simp only [gA.l1,gA.b1,decide_eq_false c,aK,xq]
 | d+1,j,m,n,hd,hj,hm,hn=>by
  obtain ⟨m,rfl⟩:∃ q,m=q+1:=⟨m-1,by omega⟩
  have c:((j:Int)<8):=by omega
  have ih:=EZ (k:=k) (L0:=L0) (s:=s) (i:=i) d (j+1) m (Ci n) (by omega) (by omega) (by omega) (AB hn)
  have hd2:Int.fdiv (n:Int) (2 ^ (Int.toNat 1))=((n/2:Nat):Int):=by
   show Int.fdiv (n:Int) 2=_
   rw [Int.fdiv_eq_ediv_of_nonneg _ (by omega)]
   omega
  have hx:=JI (n:=n/2) (m:=2197175160) (by omega) (by omega)
  have hj1:aJ ((j:Int)+1)=((j+1:Nat):Int):=by rw [aD (by omega) (by omega)];omega
  simp only [gA.l1,gA.b1,decide_eq_true c,ac,hj1,hd2,Kn hn,xq]
  rw [← ih]
  unfold Ci
  by_cases q:n % 2=1
  · rw [if_pos q,q,← hx]
    rfl
  · rw [if_neg q,show n % 2=0 by omega]
    rfl
theorem Jw {k:Nat} (hk:2 ^ 50≤k) {s:ByteArray} (hs:s.size≤1099511627776):∀ (d i n m:Nat),s.size-i=d→i≤s.size→n<4294967296→d<m →
 fb.l0 k m s (n:Int) (i:Int)=some (4294967295-(Cr ((nb s).drop i) n:Int),())∧gA.l0 k m s (n:Int) (i:Int)=some (4294967295-(Cr ((nb s).drop i) n:Int),())
 | 0,i,n,m,hd,hi,hn,hm=>by
  obtain ⟨m,rfl⟩:∃ q,m=q+1:=⟨m-1,by omega⟩
  have c:¬ ((i:Int)<(s.size:Int)):=by omega
  have e1:aJ (4294967295-(n:Int))=4294967295-(n:Int):=aD (by omega) (by omega)
  rw [List.drop_eq_nil_of_le (by rw [cM];omega)]
  constructor
  · simp only [fb.l0,fb.b0,decide_eq_false c,aK,e1,Cr]
  · simp only [gA.l0,gA.b0,decide_eq_false c,aK,Kc hn,e1,Cr]
 | d+1,i,n,m,hd,hi,hn,hm=>by
  obtain ⟨m,rfl⟩:∃ q,m=q+1:=⟨m-1,by omega⟩
  have hlt:i<s.size:=by omega
  have c:((i:Int)<(s.size:Int)):=by omega
  have h0:=Int.natCast_nonneg i
  have hb:=ib s i
  have hat:=wa hlt
  rw [qM hlt]
  generalize (nb s).getD i 0=b at hb hat
  have w1:aJ (b:Int)=(b:Int):=aD (by omega) (by omega)
  have w2:IntKind.wrap .u32 (b:Int)=(b:Int):=vF (by omega) (by omega)
  have hnb:n ^^^ b<4294967296:=Nat.xor_lt_two_pow (n:=32) (by omega) (by omega)
  have up:aJ ((i:Int)+1)=((i+1:Nat):Int):=by rw [aD (by omega) (by omega)];omega
  obtain ⟨s1,s2⟩:=Jw hk hs d (i+1) (xq 8 (n ^^^ b)) m (by omega) (by omega) (zU hnb) (by omega)
  constructor
  · simp only [fb.l0,fb.b0,decide_eq_true c,ac,aH h0 c,hat,w1,Iz hn (show b<4294967296 by omega)]
    refine (EG 8 0 k (n ^^^ b) (by omega) (by omega) (by omega) hnb).trans ?_
    rw [up]
    exact s1
  · simp only [gA.l0,gA.b0,decide_eq_true c,ac,aH h0 c,hat,w2,JI hn (show b<4294967296 by omega)]
    refine (EZ 8 0 k (n ^^^ b) (by omega) (by omega) (by omega) hnb).trans ?_
    rw [up]
    exact s2
theorem rJ {k:Nat} (hk:2 ^ 50≤k) {s:ByteArray} (hs:s.size≤1099511627776):fb.f k s=some (pH s,()):=by
 have:=(Jw hk hs s.size 0 4294967295 k (by omega) (by omega) (by omega) (by omega)).1
 rw [List.drop_zero] at this
 exact this
theorem vZ {k:Nat} (hk:2 ^ 50≤k) {s:ByteArray} (hs:s.size≤1099511627776):gA.f k s=some (pH s,()):=by
 have:=(Jw hk hs s.size 0 4294967295 k (by omega) (by omega) (by omega) (by omega)).2
 rw [List.drop_zero] at this
 exact this
def eN (n:Nat):ByteArray:=bytesOf [((n/16777216 % 256:Nat):Int),((n/65536 % 256:Nat):Int),((n/256 % 256:Nat):Int),((n % 256:Nat):Int)]
theorem li (n:Nat):(eN n).size=4:=rfl
theorem E5 (n:Nat):nb (eN n)=[n/16777216 % 256,n/65536 % 256,n/256 % 256,n % 256] :=
 BG (l:=[n/16777216 % 256,n/65536 % 256,n/256 % 256,n % 256]) (by simp;omega)
theorem DN {k:Nat} (hk:2 ^ 50≤k) {n:Nat} (h1:n<4294967296):dN.f k (n:Int) 4=some (eN n,()):=by
 have sz1:∀ x:Int,(bytesOf [x]).size=1:=fun x=>rfl
 have st:∀ (q m:Nat) (t:ByteArray) (j:Nat),m<4294967296→j<4→t.size≤100→dN.l0 k (q+1) (m:Int) 4 t (j:Int)=dN.l0 k q ((m/256:Nat):Int) 4 (bytesOf [((m % 256:Nat):Int)]++t) ((j+1:Nat):Int):=fun q m t j hm hj ht=>by
  have wd:aJ (Int.tdiv (m:Int) 256)=((m/256:Nat):Int):=aD (n:=((m/256:Nat):Int)) (by omega) (by omega)
  have wm:IntKind.wrap .u8 (Int.tmod (m:Int) 256)=((m % 256:Nat):Int):=nZ (n:=((m % 256:Nat):Int)) (by omega) (by omega)
  have wj:aJ ((j:Int)+1)=((j+1:Nat):Int):=by rw [aD (by omega) (by omega)];omega
  simp (disch:=omega) only [dN.l0,dN.b0,aO,ac,wd,wm,wj]
  rw [e9 (by rw [sz1];omega)]
 unfold dN.f dN.t
 rw [nG,ab]
 simp only [show decide ((1:Int)≤4∧(4:Int)≤7)=true by decide,fh,aK,aP (show ¬ ((n:Int)<0) by omega)]
 obtain ⟨q,hq⟩:∃ q,k=q+5:=⟨k-5,by omega⟩
 refine (congrArg (fun z=>dN.l0 k z (n:Int) 4 ⟨#[]⟩ 0) hq).trans ?_
 refine (st (q+4) n _ 0 h1 (by omega) (by decide)).trans ?_
 refine (st (q+3) (n/256) _ 1 (by omega) (by omega) (by rw [ByteArray.size_append,sz1];decide)).trans ?_
 refine (st (q+2) (n/256/256) _ 2 (by omega) (by omega) (by rw [ByteArray.size_append,ByteArray.size_append,sz1,sz1];decide)).trans ?_
 refine (st (q+1) (n/256/256/256) _ 3 (by omega) (by omega) (by rw [ByteArray.size_append,ByteArray.size_append,ByteArray.size_append,sz1,sz1,sz1];decide)).trans ?_
 have c:¬ ((((3+1:Nat)):Int)<4):=by omega
 have c2:¬ (((n/256/256/256/256:Nat):Int) > 0):=by omega
 simp only [dN.l0,dN.b0,aP c,aP c2,aK]
 unfold eN
 congr 2
 rw [show n/256/256/256=n/16777216 by omega,show n/256/256=n/65536 by omega]
 apply ByteArray.ext
 simp [bytesOf,ByteArray.data_append]
theorem D1 {k:Nat} (hk:2 ^ 50≤k) {n:Nat} (h1:n<4294967296):dh.f k (n:Int) 4=some (eN n,()):=by
 have st:∀ (q j p:Nat) (i':Int) (xs:List Int),j≤3→p=2 ^ (8*j)→i'=(j:Int)-1→xs.length≤100→dh.l0 k (q+1) (n:Int) (j:Int) xs=dh.l0 k q (n:Int) i' (xs++[((n/p % 256:Nat):Int)]):=fun q j p i' xs hj hp hi hx=>by
  have e8:aJ (8*(j:Int))=((8*j:Nat):Int):=by rw [aD (by omega) (by omega)];omega
  have e1:aJ ((j:Int)-1)=i':=by rw [hi];exact aD (by omega) (by omega)
  have emin:min (8*j) (IntKind.bits .i64)=8*j:=by have:IntKind.bits .i64=64:=rfl;rw [this];omega
  have ew:IntKind.wrap .u8 (Int.fdiv (n:Int) (2 ^ (8*j)))=((n/p % 256:Nat):Int):=by
   have e2:((2:Int) ^ (8*j))=((p:Nat):Int):=by rw [hp,Int.natCast_pow];rfl
   rw [e2,Int.fdiv_eq_ediv_of_nonneg _ (by omega),← Int.natCast_ediv]
   generalize n/p=z
   unfold IntKind.wrap
   simp [IntKind.bits,IntKind.signed]
  simp (disch:=first | omega | decide) only [dh.l0,dh.b0,aO,ac,e8,cD,e1,nt,emin,ew]
  rw [aP (by omega),aK]
 unfold dh.f dh.t
 rw [sZ,ab]
 have c0:¬ (aJ (8*4)<0):=by decide
 simp only [show decide ((1:Int)≤4∧(4:Int)≤7)=true by decide,fh,aK,aP c0,show aJ (aJ (1*2 ^ min (Int.toNat (aJ (8*4))) (IntKind.bits .i64))-1)=4294967295 by decide,sZ,ab]
 rw [aO (show (0:Int)≤(n:Int)∧(n:Int)≤4294967295 by omega)]
 simp only [fh,aK,show aJ ((4:Int)-1)=((3:Nat):Int) by decide]
 obtain ⟨q,hq⟩:∃ q,k=q+5:=⟨k-5,by omega⟩
 refine (congrArg (fun z=>dh.l0 k z (n:Int) ((3:Nat):Int) []) hq).trans ?_
 refine (st (q+4) 3 16777216 ((2:Nat):Int) _ (by omega) (by decide) (by decide) (by decide)).trans ?_
 refine (st (q+3) 2 65536 ((1:Nat):Int) _ (by omega) (by decide) (by decide) (by simp)).trans ?_
 refine (st (q+2) 1 256 ((0:Nat):Int) _ (by omega) (by decide) (by decide) (by simp)).trans ?_
 refine (st (q+1) 0 1 (-1) _ (by omega) (by decide) (by decide) (by simp)).trans ?_
 simp only [dh.l0,dh.b0,show decide ((-1:Int)≥0)=false by decide,aK,Nat.div_one]
 rfl
def sY (a:Int):ByteArray:=eN a.toNat
theorem j4 (a:Int):(sY a).size=4:=rfl
theorem p7 {k:Nat} (hk:2 ^ 50≤k) {a:Int} (h0:0≤a) (h1:a≤4294967295):dN.f k a 4=some (sY a,()):=by
 obtain ⟨n,rfl⟩:=Int.eq_ofNat_of_zero_le h0
 exact DN hk (by omega)
theorem s5 {k:Nat} (hk:2 ^ 50≤k) {a:Int} (h0:0≤a) (h1:a≤4294967295):dh.f k a 4=some (sY a,()):=by
 obtain ⟨n,rfl⟩:=Int.eq_ofNat_of_zero_le h0
 exact D1 hk (by omega)
theorem vU (s:ByteArray):(∃ x t,x<4294967296∧s=eN x++t)∨s.size<4:=by
 by_cases c:s.size<4
 · exact .inr c
 · left
   have h0:=qM (s:=s) (i:=0) (by omega)
   have h1:=qM (s:=s) (i:=1) (by omega)
   have h2:=qM (s:=s) (i:=2) (by omega)
   have h3:=qM (s:=s) (i:=3) (by omega)
   have b0:=ib s 0
   have b1:=ib s 1
   have b2:=ib s 2
   have b3:=ib s 3
   rw [h1,h2,h3,List.drop_zero] at h0
   generalize (nb s).getD 0 0=x0 at *
   generalize (nb s).getD 1 0=x1 at *
   generalize (nb s).getD 2 0=x2 at *
   generalize (nb s).getD 3 0=x3 at *
   refine ⟨((x0*256+x1)*256+x2)*256+x3,ByteArray.extract s 4 s.size,by omega,jV ?_⟩
   rw [gP,E5,gk,h0]
   simp only [List.cons_append,List.nil_append,List.drop_succ_cons,List.drop_zero,List.cons.injEq,and_true]
   refine ⟨?_,?_,?_,?_⟩ <;> omega
theorem uP (x:Nat) (t:ByteArray):nb (eN x++t)=(x/16777216 % 256)::(x/65536 % 256)::(x/256 % 256)::(x % 256)::nb t:=by
 rw [gP,E5];rfl
theorem mD (x:Nat) (t:ByteArray):(eN x++t).size=4+t.size:=by rw [ByteArray.size_append];rfl
theorem kB (k:Nat) (s:ByteArray):cZ.f k s=some (decide (1≤(s.size:Int)∧(s.size:Int)≤8),()):=by
 unfold cZ.f cZ.t
 rw [nG];rfl
theorem oT (k:Nat) (s:ByteArray):gG.f k s=some (decide (1≤(s.size:Int)∧(s.size:Int)≤8),()):=by
 unfold gG.f gG.t
 rw [sZ];rfl
def bm (a:Ty.d b7):Bool :=
 bif a.1==1||a.1==4 then decide (1≤(a.2.2.1.size:Int)∧(a.2.2.1.size:Int)≤8)&&(decide ((a.2.2.2.1.size:Int)≤24)&&((a.2.2.2.2.1==0)&&((a.2.2.2.2.2.1==0)&&decide (1≤a.2.1∧a.2.1≤1000000))))
 else bif a.1==2 then decide (1≤(a.2.2.1.size:Int)∧(a.2.2.1.size:Int)≤8)&&(seq a.2.2.2.1 ⟨#[]⟩&&((a.2.2.2.2.1==0)&&((a.2.2.2.2.2.1==0)&&decide (1≤a.2.1∧a.2.1≤1000000))))
 else bif a.1==3 then seq a.2.2.1 ⟨#[]⟩&&(seq a.2.2.2.1 ⟨#[]⟩&&(decide (0≤a.2.2.2.2.1∧a.2.2.2.2.1≤8)&&(decide (0≤a.2.2.2.2.2.1∧a.2.2.2.2.2.1≤4294967295)&&decide (1≤a.2.1∧a.2.1≤1000000))))
 else bif a.1==5 then seq a.2.2.1 ⟨#[]⟩&&(seq a.2.2.2.1 ⟨#[]⟩&&(decide (0≤a.2.2.2.2.1∧a.2.2.2.2.1≤20)&&(decide (0≤a.2.2.2.2.2.1∧a.2.2.2.2.2.1≤4294967295)&&decide (0≤a.2.1∧a.2.1≤1000000))))
 else false
theorem FY (s:ByteArray):seq s ByteArray.empty=seq s ⟨#[]⟩:=rfl
theorem gp (k:Nat) (a:Ty.d b7):fU.f k a=some (bm a,()):=by
 obtain ⟨ty,tx,key,tt,n,sm,u⟩:=a
 unfold fU.f fU.t bm
 simp only [sZ,oT,ab,bX,FY]
 change Int at ty tx n sm
 change ByteArray at key tt
 generalize decide (1≤(key.size:Int)∧(key.size:Int)≤8)=K
 generalize decide ((tt.size:Int)≤24)=L
 generalize decide (1≤tx∧tx≤1000000)=T1
 generalize decide (0≤tx∧tx≤1000000)=T0
 generalize decide (0≤n∧n≤8)=N1
 generalize decide (0≤n∧n≤20)=N2
 generalize decide (0≤sm∧sm≤4294967295)=S
 generalize (n==0)=Z1
 generalize (sm==0)=Z2
 generalize seq key ⟨#[]⟩=E1
 generalize seq tt ⟨#[]⟩=E2
 by_cases h1:ty=1
 · subst h1;simp;cases K <;> cases L <;> cases T1 <;> cases Z1 <;> cases Z2 <;> rfl
 by_cases h4:ty=4
 · subst h4;simp;cases K <;> cases L <;> cases T1 <;> cases Z1 <;> cases Z2 <;> rfl
 by_cases h2:ty=2
 · subst h2;simp;cases K <;> cases E2 <;> cases T1 <;> cases Z1 <;> cases Z2 <;> rfl
 by_cases h3:ty=3
 · subst h3;simp;cases E1 <;> cases E2 <;> cases T1 <;> cases N1 <;> cases S <;> rfl
 by_cases h5:ty=5
 · subst h5;simp;cases E1 <;> cases E2 <;> cases T0 <;> cases N2 <;> cases S <;> rfl
 have b1:(ty==1)=false:=mF h1
 have b2:(ty==2)=false:=mF h2
 have b3:(ty==3)=false:=mF h3
 have b4:(ty==4)=false:=mF h4
 have b5:(ty==5)=false:=mF h5
 have b6:(ty != 5)=true:=bne_iff_ne.2 h5
 simp only [b1,b2,b3,b4,b5,b6,Bool.or_false,aK,ac]
theorem AL (k:Nat) (a:Ty.d b7):jk.f k a=some (bm a,()):=by
 obtain ⟨ty,tx,key,tt,n,sm,u⟩:=a
 unfold jk.f jk.t bm
 simp only [nG,kB,ab]
 change Int at ty tx n sm
 change ByteArray at key tt
 have q:decide (1≤tx∧tx≤1000000)=(decide (0≤tx∧tx≤1000000)&&!(tx==0)):=by
  rw [Bool.eq_iff_iff];simp;omega
 rw [q]
 generalize decide (1≤(key.size:Int)∧(key.size:Int)≤8)=K
 generalize decide ((tt.size:Int)≤24)=L
 generalize decide (0≤tx∧tx≤1000000)=T0
 generalize (tx==0)=T
 generalize decide (0≤n∧n≤8)=N1
 generalize decide (0≤n∧n≤20)=N2
 generalize decide (0≤sm∧sm≤4294967295)=S
 generalize (n==0)=Z1
 generalize (sm==0)=Z2
 generalize seq key ⟨#[]⟩=E1
 generalize seq tt ⟨#[]⟩=E2
 by_cases h1:ty=1
 · subst h1;simp;cases T0 <;> cases T <;> cases K <;> cases L <;> cases Z1 <;> cases Z2 <;> rfl
 by_cases h4:ty=4
 · subst h4;simp;cases T0 <;> cases T <;> cases K <;> cases L <;> cases Z1 <;> cases Z2 <;> rfl
 by_cases h2:ty=2
 · subst h2;simp;cases T0 <;> cases T <;> cases K <;> cases E2 <;> cases Z1 <;> cases Z2 <;> rfl
 by_cases h3:ty=3
 · subst h3;simp;cases T0 <;> cases T <;> cases E1 <;> cases E2 <;> cases N1 <;> cases S <;> rfl
 by_cases h5:ty=5
 · subst h5;simp;cases T0 <;> cases T <;> cases E1 <;> cases E2 <;> cases N2 <;> cases S <;> rfl
 have b1:(ty==1)=false:=mF h1
 have b2:(ty==2)=false:=mF h2
 have b3:(ty==3)=false:=mF h3
 have b4:(ty==4)=false:=mF h4
 have b5:(ty==5)=false:=mF h5
 have b6:(ty != 5)=true:=bne_iff_ne.2 h5
 simp only [b1,b2,b3,b4,b5,b6,Bool.or_false,aK,ac]
 cases T0 <;> cases T <;> rfl
def iu (s:ByteArray):ByteArray:=gh (s.size:Int)++s
theorem lp (s:ByteArray):(iu s).size≤7+s.size:=by
 unfold iu
 have:=bG (s.size:Int)
 rw [ByteArray.size_append]
 omega
def aG (a:Ty.d b7):ByteArray :=
 if bm a=true then
  if a.1=1∨a.1=4 then gh a.1++(gh a.2.1++(iu a.2.2.1++iu a.2.2.2.1))
  else if a.1=2 then gh a.1++(gh a.2.1++iu a.2.2.1)
  else gh a.1++(gh a.2.1++(gh a.2.2.2.2.1++sY a.2.2.2.2.2.1))
 else ⟨#[]⟩
theorem ly {a:Ty.d b7} (h:bm a=true) :
 ((a.1=1∨a.1=4)∧1≤a.2.2.1.size∧a.2.2.1.size≤8∧a.2.2.2.1.size≤24∧a.2.2.2.2.1=0∧a.2.2.2.2.2.1=0∧1≤a.2.1∧a.2.1≤1000000) ∨
 (a.1=2∧1≤a.2.2.1.size∧a.2.2.1.size≤8∧a.2.2.2.1=⟨#[]⟩∧a.2.2.2.2.1=0∧a.2.2.2.2.2.1=0∧1≤a.2.1∧a.2.1≤1000000) ∨
 ((a.1=3∨a.1=5)∧a.2.2.1=⟨#[]⟩∧a.2.2.2.1=⟨#[]⟩∧0≤a.2.2.2.2.1∧a.2.2.2.2.1≤20∧0≤a.2.2.2.2.2.1∧a.2.2.2.2.2.1≤4294967295∧0≤a.2.1∧a.2.1≤1000000):=by
 obtain ⟨kd,bt,key,val,cn,sm,u⟩:=a
 change Int at kd bt cn sm
 change ByteArray at key val
 unfold bm at h
 simp only [] at h ⊢
 by_cases c:kd=1∨kd=4
 · have b:(kd==1||kd==4)=true:=by rcases c with c | c <;> rw [c] <;> rfl
   rw [b,ac] at h
   simp only [gN,decide_eq_true_eq,beq_iff_eq] at h
   exact .inl ⟨c,by omega,by omega,by omega,h.2.2.1,h.2.2.2.1,h.2.2.2.2⟩
 · have b1:(kd==1)=false:=mF fun h=>c (.inl h)
   have b4:(kd==4)=false:=mF fun h=>c (.inr h)
   simp only [b1,b4,Bool.or_false,aK] at h
   cases b2:(kd==2) with
   | true =>
    rw [b2,ac] at h
    simp only [gN,decide_eq_true_eq,beq_iff_eq,dr] at h
    exact .inr (.inl ⟨eq_of_beq b2,by omega,by omega,h.2.1,h.2.2.1,h.2.2.2.1,h.2.2.2.2⟩)
   | false =>
    rw [b2,aK] at h
    cases b3:(kd==3) with
    | true =>
     rw [b3,ac] at h
     simp only [gN,decide_eq_true_eq,dr] at h
     exact .inr (.inr ⟨.inl (eq_of_beq b3),h.1,h.2.1,h.2.2.1.1,Int.le_trans h.2.2.1.2 (by decide),h.2.2.2.1.1,h.2.2.2.1.2,Int.le_trans (by decide) h.2.2.2.2.1,h.2.2.2.2.2⟩)
    | false =>
     rw [b3,aK] at h
     cases b5:(kd==5) with
     | true =>
      rw [b5,ac] at h
      simp only [gN,decide_eq_true_eq,dr] at h
      exact .inr (.inr ⟨.inr (eq_of_beq b5),h.1,h.2.1,h.2.2.1.1,h.2.2.1.2,h.2.2.2.1.1,h.2.2.2.1.2,h.2.2.2.2.1,h.2.2.2.2.2⟩)
     | false =>
      rw [b5,aK] at h
      cases h
theorem uy {kd b cn sm:Int} {key val:ByteArray} (h:bm (kd,(b,(key,(val,(cn,(sm,()))))))=true) :
 ((kd=1∨kd=4)∧1≤key.size∧key.size≤8∧val.size≤24∧cn=0∧sm=0∧1≤b∧b≤1000000) ∨
 (kd=2∧1≤key.size∧key.size≤8∧val=⟨#[]⟩∧cn=0∧sm=0∧1≤b∧b≤1000000) ∨
 ((kd=3∨kd=5)∧key=⟨#[]⟩∧val=⟨#[]⟩∧0≤cn∧cn≤20∧0≤sm∧sm≤4294967295∧0≤b∧b≤1000000):=ly h
theorem dD {k:Nat} (hk:2 ^ 50≤k) (a:Ty.d b7):cC.f k a=some (aG a,()):=by
 unfold cC.f cC.t aG
 rw [AL,ab]
 cases hr:bm a with
 | false=>rfl
 | true =>
  have v1:=bG a.1
  have v2:=bG a.2.1
  have v3:=bG (a.2.2.1.size:Int)
  have v4:=bG (a.2.2.2.1.size:Int)
  have v5:=bG a.2.2.2.2.1
  have v6:=j4 a.2.2.2.2.2.1
  simp only [fh,aK,if_true,iu]
  rcases ly hr with ⟨c,h⟩ | ⟨c,h⟩ | ⟨c,h⟩
  · rw [if_pos c]
    rcases c with c | c
    · have b1:(a.1==1)=true:=by rw [c];rfl
      simp (disch:=first | omega | (simp only [ByteArray.size_append];omega)) only [gH hk,ab,b1,ac,e9,ai]
    · have b1:(a.1==1)=false:=by rw [c];rfl
      have b4:(a.1==4)=true:=by rw [c];rfl
      simp (disch:=first | omega | (simp only [ByteArray.size_append];omega)) only [gH hk,ab,b1,b4,ac,aK,e9,ai]
  · have b1:(a.1==1)=false:=by rw [c];rfl
    have b4:(a.1==4)=false:=by rw [c];rfl
    have b2:(a.1==2)=true:=by rw [c];rfl
    rw [if_neg (show ¬ (a.1=1∨a.1=4) by rw [c];decide),if_pos c]
    simp (disch:=first | omega | (simp only [ByteArray.size_append];omega)) only [gH hk,ab,b1,b2,b4,ac,aK,e9,ai]
  · have b1:(a.1==1)=false:=by rcases c with c | c <;> rw [c] <;> rfl
    have b4:(a.1==4)=false:=by rcases c with c | c <;> rw [c] <;> rfl
    have b2:(a.1==2)=false:=by rcases c with c | c <;> rw [c] <;> rfl
    rw [if_neg (show ¬ (a.1=1∨a.1=4) by rcases c with c | c <;> rw [c] <;> decide),if_neg (show ¬ a.1=2 by rcases c with c | c <;> rw [c] <;> decide)]
    obtain ⟨_,_,_,_,z1,z2,_⟩:=h
    simp (disch:=first | assumption | omega | (simp only [ByteArray.size_append];omega)) only [gH hk,p7 hk,ab,b1,b2,b4,ac,aK,e9,ai]
theorem F1 {k:Nat} (hk:2 ^ 50≤k) (x y:Int):j5.f k [x,y]=some (gh x++gh y,()):=by
 have v1:=bG x
 have v2:=bG y
 obtain ⟨q,hq⟩:∃ q,k=q+3:=⟨k-3,by omega⟩
 refine (congrArg (fun z=>j5.l0 k z ⟨#[]⟩ [x,y] 2 0) hq).trans ?_
 rw [show j5.l0 k (q+3) ⟨#[]⟩ [x,y] 2 0=(fC.f k x).bind (fun r1=>kY ⟨#[]⟩ r1.1 (j5.l0 k (q+2) (⟨#[]⟩++r1.1) [x,y] 2 1)) from rfl]
 rw [od hk,ab]
 simp only []
 rw [e9 (by rw [show (⟨#[]⟩:ByteArray).size=0 from rfl];omega),nU]
 rw [show j5.l0 k (q+2) (gh x) [x,y] 2 1=(fC.f k y).bind (fun r1=>kY (gh x) r1.1 (j5.l0 k (q+1) (gh x++r1.1) [x,y] 2 2)) from rfl]
 rw [od hk,ab]
 simp only []
 rw [e9 (by omega)]
 rfl
theorem lw {k:Nat} (hk:2 ^ 50≤k) {s:ByteArray} (hs:s.size≤1099511627776):eX.f k s=some (iu s,()):=by
 have:=bG (s.size:Int)
 unfold eX.f eX.t iu
 simp (disch:=omega) only [od hk,ab,e9]
theorem vd {k:Nat} (hk:2 ^ 50≤k) (a:Ty.d b7):ia.f k a=some (aG a,()):=by
 unfold ia.f ia.t aG
 rw [gp,ab]
 cases hr:bm a with
 | false=>rfl
 | true =>
  have v1:=bG a.1
  have v2:=bG a.2.1
  have v3:=lp a.2.2.1
  have v4:=lp a.2.2.2.1
  have v5:=bG a.2.2.2.2.1
  have v6:=j4 a.2.2.2.2.2.1
  simp only [fh,aK,if_true,F1 hk,ab]
  rcases ly hr with ⟨c,h⟩ | ⟨c,h⟩ | ⟨c,h⟩
  · rw [if_pos c]
    rcases c with c | c
    · have b1:(a.1==1)=true:=by rw [c];rfl
      simp (disch:=first | omega | (simp only [ByteArray.size_append];omega)) only [lw hk,ab,b1,ac,e9,ai]
    · have b1:(a.1==1)=false:=by rw [c];rfl
      have b4:(a.1==4)=true:=by rw [c];rfl
      simp (disch:=first | omega | (simp only [ByteArray.size_append];omega)) only [lw hk,ab,b1,b4,ac,aK,e9,ai]
  · have b1:(a.1==1)=false:=by rw [c];rfl
    have b4:(a.1==4)=false:=by rw [c];rfl
    have b2:(a.1==2)=true:=by rw [c];rfl
    rw [if_neg (show ¬ (a.1=1∨a.1=4) by rw [c];decide),if_pos c]
    simp (disch:=first | omega | (simp only [ByteArray.size_append];omega)) only [lw hk,ab,b1,b2,b4,ac,aK,e9,ai]
  · have b1:(a.1==1)=false:=by rcases c with c | c <;> rw [c] <;> rfl
    have b4:(a.1==4)=false:=by rcases c with c | c <;> rw [c] <;> rfl
    have b2:(a.1==2)=false:=by rcases c with c | c <;> rw [c] <;> rfl
    rw [if_neg (show ¬ (a.1=1∨a.1=4) by rcases c with c | c <;> rw [c] <;> decide),if_neg (show ¬ a.1=2 by rcases c with c | c <;> rw [c] <;> decide)]
    obtain ⟨_,_,_,_,z1,z2,_⟩:=h
    simp (disch:=first | assumption | omega | (simp only [ByteArray.size_append];omega)) only [od hk,s5 hk,ab,b1,b2,b4,ac,aK,e9,ai]
theorem jC (a:Ty.d b7):(aG a).size≤60:=by
 unfold aG
 split
 · rename_i hr
   have v1:=bG a.1
   have v2:=bG a.2.1
   have v3:=lp a.2.2.1
   have v4:=lp a.2.2.2.1
   have v5:=bG a.2.2.2.2.1
   have v6:=j4 a.2.2.2.2.2.1
   rcases ly hr with ⟨c,h⟩ | ⟨c,h⟩ | ⟨c,h⟩
   · rw [if_pos c]
     simp only [ByteArray.size_append];omega
   · rw [if_neg (show ¬ (a.1=1∨a.1=4) by rw [c];decide),if_pos c]
     simp only [ByteArray.size_append];omega
   · rw [if_neg (show ¬ (a.1=1∨a.1=4) by rcases c with c | c <;> rw [c] <;> decide),if_neg (show ¬ a.1=2 by rcases c with c | c <;> rw [c] <;> decide)]
     simp only [ByteArray.size_append];omega
 · exact Nat.zero_le _
def nP:List (Ty.d b7)→ByteArray
 | []=>⟨#[]⟩
 | a::l=>aG a++nP l
def uo (l:List (Ty.d b7)):Int:=pH (nP l)
theorem ER (l:List (Ty.d b7)):0≤uo l∧uo l≤4294967295:=sU _
theorem oy {k:Nat} (hk:2 ^ 50≤k) {l:List (Ty.d b7)} (hl:l.length≤1073741824):fW.f k l=some (uo l,()):=by
 refine (e_ (L:=fun n i s=>fW.l0 k n l s i) (R:=fun l s=>some (pH (s++nP l),())) (Ty.z b7) l (fun i s=>(s.size:Int)≤60*i) (fun n s hs=>?_) (fun n i s x rest h0 h1 hx hr hp ih=>?_) (n:=k) (s:=⟨#[]⟩) (by omega) (by decide)).trans (by rw [nU];rfl)
 · simp (disch:=omega) only [fW.l0,fW.b0,aP,aK,rJ hk,ab,nP,jI]
 · have hz:=jC x
   simp (disch:=omega) only [fW.l0,fW.b0,aO,ac,aH,hx,dD hk,ab,e9,aD]
   rw [ih _ (by rw [ByteArray.size_append];omega),nP,ai]
theorem A_ {k:Nat} (hk:2 ^ 50≤k) {l:List (Ty.d b7)} (hl:l.length≤1073741824):iC.f k l=some (uo l,()):=by
 refine (e_ (L:=fun n i s=>iC.l0 k n s l l.length i) (R:=fun l s=>some (pH (s++nP l),())) (Ty.z b7) l (fun i s=>(s.size:Int)≤60*i) (fun n s hs=>?_) (fun n i s x rest h0 h1 hx hr hp ih=>?_) (n:=k) (s:=⟨#[]⟩) (by omega) (by decide)).trans (by rw [nU];rfl)
 · simp (disch:=omega) only [iC.l0,iC.b0,aP,aK,vZ hk,ab,nP,jI]
 · have hz:=jC x
   simp (disch:=omega) only [iC.l0,iC.b0,aO,ac,aH,hx,vd hk,ab,e9,aD]
   rw [ih _ (by rw [ByteArray.size_append];omega),nP,ai]
theorem zJ {s:ByteArray} (hs:s.size≤4611686018427387904) (k:Nat):∀ (d i acc n:Nat),i+d=7→acc<128 ^ i→d<n →
 cT.l0 k n s (acc:Int) (i:Int)=some (match rv d ((nb s).drop i) with
  | some (a,m)=>if a=0∧0<i then (0,(0,())) else (((acc+a*128 ^ i:Nat):Int),(((i+m:Nat):Int),()))
  | none=>(0,(0,()))):=by
 intro d
 induction d with
 | zero =>
  intro i acc n h1 h2 h3
  obtain ⟨n,rfl⟩:∃ q,n=q+1:=⟨n-1,by omega⟩
  simp (disch:=omega) only [cT.l0,cT.b0,aP,aK,rv]
 | succ d ih =>
  intro i acc n h1 h2 h3
  obtain ⟨n,rfl⟩:∃ q,n=q+1:=⟨n-1,by omega⟩
  by_cases hlt:i<s.size
  case neg =>
   rw [List.drop_eq_nil_of_le (by rw [cM];omega)]
   simp (disch:=omega) only [cT.l0,cT.b0,aO,aP,ac,aK,rv]
  have hb:=ib s i
  have hat:=wa hlt
  have ih:=ih (i+1)
  rw [qM hlt]
  generalize (nb s).getD i 0=b at hb hat
  have e8:aJ (7*(i:Int))=((7*i:Nat):Int):=by rw [aD (by omega) (by omega)];omega
  have emin:min (7*i) (IntKind.bits .i64)=7*i:=by have:IntKind.bits .i64=64:=rfl;rw [this];omega
  have ep:(2:Int) ^ (7*i)=((128 ^ i:Nat):Int):=by rw [Int.pow_mul,Int.natCast_pow];rfl
  have hp:128 ^ i≤128 ^ 6:=Nat.pow_le_pow_right (by decide) (by omega)
  rw [show (128:Nat) ^ 6=4398046511104 by decide] at hp
  have hps:128 ^ (i+1)=128 ^ i*128:=Nat.pow_succ ..
  have hb2:(b % 128)*128 ^ i≤127*128 ^ i:=Nat.mul_le_mul (by omega) (Nat.le_refl _)
  have ev:aJ ((acc:Int)+aJ (Int.tmod (b:Int) 128*2 ^ (7*i)))=((acc+b % 128*128 ^ i:Nat):Int):=by
   have e:Int.tmod (b:Int) 128*2 ^ (7*i)=((b % 128*128 ^ i:Nat):Int):=by
    rw [ep,Int.natCast_mul]
    rfl
   rw [e,aD (n:=((b % 128*128 ^ i:Nat):Int)) (by omega) (by omega),aD (by omega) (by omega)]
   omega
  have eb:aJ ((b:Nat):Int)=(b:Int):=aD (by omega) (by omega)
  have ei:aJ ((i:Int)+1)=((i+1:Nat):Int):=by rw [aD (by omega) (by omega)];omega
  have ih:=ih (acc+b % 128*128 ^ i) n (by omega) (by omega) (by omega)
  simp (disch:=omega) only [cT.l0,cT.b0,aO,ac,aH,hat,eb,e8,nt,emin,ev,ei]
  rw [aP (by omega),aK]
  by_cases c:b≥128
  · rw [aO (show (b:Int)≥128 by omega),ac,ih,rv,if_pos c]
    cases q:rv d ((nb s).drop (i+1)) with
    | none=>rfl
    | some p =>
     obtain ⟨a,m⟩:=p
     simp only []
     by_cases z:a=0
     · simp [z]
     · have hm:a*128 ^ (i+1)=128*a*128 ^ i:=by rw [hps,Nat.mul_comm (128 ^ i),← Nat.mul_assoc,Nat.mul_comm a]
       rw [if_neg (by omega),if_neg z]
       simp only []
       rw [if_neg (by omega)]
       have e1:acc+b % 128*128 ^ i+a*128 ^ (i+1)=acc+(b % 128+128*a)*128 ^ i:=by rw [hm,Nat.add_mul];omega
       have e2:i+1+m=i+(m+1):=by omega
       rw [e1,e2]
  · have em:b % 128=b:=by omega
    rw [aP (show ¬ (b:Int)≥128 by omega),aK,rv,if_neg c,em]
    by_cases z:b=0
    · subst z
      rw [show ((((0:Nat):Int)==0))=true from rfl,ac]
      by_cases hi:0<i
      · rw [aO (show (i:Int) > 0 by omega),ac]
        simp [hi]
      · rw [aP (show ¬ (i:Int) > 0 by omega),aK]
        simp [hi]
    · rw [show ((b:Int)==0)=false from mF (by omega),aK]
      simp [z]
theorem mj {k:Nat} (hk:2 ^ 50≤k) {s:ByteArray} (hs:s.size≤4611686018427387904):cT.f k s=some (Cv (rv 7 (nb s))):=by
 unfold cT.f cT.t
 refine (zJ hs k 7 0 0 k (by omega) (by decide) (by omega)).trans ?_
 rw [List.drop_zero]
 cases rv 7 (nb s) with
 | none=>rfl
 | some p=>simp [Cv]
theorem EB {k:Nat} {L0:ByteArray→Int→Option (Int × Int × Unit)} {s:ByteArray} {n:Nat}:∀ (j x m:Nat),j<m→j≤s.size→j≤7→(x+1)*128 ^ j≤562949953421312 →
 af.l1 k L0 m s (n:Int) (x:Int) ((j:Int)-1)=af.l1 k L0 (m-j) s (n:Int) ((x*128 ^ j+qp ((nb s).take j):Nat):Int) (-1)
 | 0,x,m,hm,hs,h7,hx=>by simp [qp]
 | j+1,x,m,hm,hs,h7,hx=>by
  obtain ⟨m,rfl⟩:∃ q,m=q+1:=⟨m-1,by omega⟩
  have hj:j<s.size:=by omega
  have hb:=ib s j
  rw [Nat.pow_succ,← Nat.mul_assoc,Nat.mul_comm _ 128,← Nat.mul_assoc] at hx
  have hpos:1≤128 ^ j:=Nat.one_le_pow _ _ (by decide)
  have hx2:(128*(x+1))*1≤(128*(x+1))*128 ^ j:=Nat.mul_le_mul (Nat.le_refl _) hpos
  have hat:=wa hj
  have e0:((j+1:Nat):Int)-1=(j:Int):=by omega
  have c:(j:Int)≥0:=by omega
  have c2:(j:Int)<(s.size:Int):=by omega
  rw [Gp hj,Bi,List.length_take,cM,Nat.min_eq_left (by omega)]
  generalize (nb s).getD j 0=b at hb hat ⊢
  have w1:aJ (((b:Nat):Int))=(b:Int):=aD (by omega) (by omega)
  have w2:aJ ((x:Int)*128)=(x:Int)*128:=aD (by omega) (by omega)
  have w3:aJ ((x:Int)*128+Int.tmod (b:Int) 128)=((x*128+b % 128:Nat):Int):=by
   have e:(x:Int)*128+Int.tmod (b:Int) 128=((x*128+b % 128:Nat):Int):=by
    show (x:Int)*128+((b % 128:Nat):Int)=_
    omega
   rw [e]
   exact aD (by omega) (by omega)
  have w4:aJ ((j:Int)-1)=(j:Int)-1:=aD (by omega) (by omega)
  have hx3:(x*128+b % 128+1)*128 ^ j≤(128*(x+1))*128 ^ j:=Nat.mul_le_mul (by omega) (Nat.le_refl _)
  have ih:=EB (k:=k) (L0:=L0) (s:=s) (n:=n) j (x*128+b % 128) m (by omega) (by omega) (by omega) (by omega)
  rw [e0]
  simp only [af.l1,af.b1,decide_eq_true c,ac,aH c c2,hat,w1,w2,w3,w4]
  rw [ih,show m+1-(j+1)=m-j by omega]
  congr 2
  rw [Nat.pow_succ,Nat.add_mul,Nat.mul_assoc,Nat.mul_comm 128 (128 ^ j),Nat.mul_comm (b % 128)]
  omega
theorem L8 {s:ByteArray} {n:Nat} (h7:n≤7):qp ((nb s).take n)<562949953421312:=by
 have:=A5 ((nb s).take n)
 have h1:((nb s).take n).length≤7:=by rw [List.length_take];omega
 have h2:(128:Nat) ^ ((nb s).take n).length≤128 ^ 7:=Nat.pow_le_pow_right (by decide) h1
 rw [show (128:Nat) ^ 7=562949953421312 by decide] at h2
 omega
theorem zn {k:Nat} (hk:2 ^ 50≤k) {s:ByteArray}:∀ (d i n:Nat),i+d=8→1≤i→d<n →
 af.l0 k n s (i:Int)=some (match rv 7 (nb s) with | some (a,m)=>if i≤m then ((a:Int),((m:Int),())) else (0,(0,())) | none=>(0,(0,()))):=by
 have stop:∀ i,(7<i∨s.size<i)→(match rv 7 (nb s) with | some (a,m)=>if i≤m then ((a:Int),((m:Int),())) else (0,(0,())) | none=>(0,(0,())))=((0:Int),((0:Int),())):=by
  intro i hi
  cases q:rv 7 (nb s) with
  | none=>rfl
  | some p =>
   obtain ⟨a,m⟩:=p
   obtain ⟨_,_,_,h4,_,h6⟩:=ox 6 (nb s) a m (ro s) q
   rw [cM] at h4
   exact if_neg (by omega)
 intro d
 induction d with
 | zero =>
  intro i n h1 h2 h3
  obtain ⟨n,rfl⟩:∃ q,n=q+1:=⟨n-1,by omega⟩
  rw [stop i (by omega)]
  simp (disch:=omega) only [af.l0,af.b0,aP,aK]
 | succ d ih =>
  intro i n h1 h2 h3
  obtain ⟨n,rfl⟩:∃ q,n=q+1:=⟨n-1,by omega⟩
  by_cases hs:i≤s.size
  case neg =>
   rw [stop i (by omega)]
   simp (disch:=omega) only [af.l0,af.b0,aO,aP,ac,aK]
  have hp:(128:Nat) ^ i≤128 ^ 7:=Nat.pow_le_pow_right (by decide) (by omega)
  rw [show (128:Nat) ^ 7=562949953421312 by decide] at hp
  simp (disch:=omega) only [af.l0,af.b0,aO,ac,aD]
  refine (EB (k:=k) (L0:=af.l0 k n) (s:=s) (n:=i) i 0 k (by omega) hs (by omega) (by omega)).trans ?_
  obtain ⟨m,hm⟩:∃ m,k-i=m+1:=⟨k-i-1,by omega⟩
  have hd7:=L8 (s:=s) (n:=i) (by omega)
  have hc:=FR (s:=s) (n:=i) h2 (by omega) hs
  rw [hm,Nat.zero_mul,Nat.zero_add]
  simp only [af.l1,af.b1,show decide ((-1:Int)≥0)=false by decide,aK,gH hk,ab,dY hd7]
  rw [cN (by omega) (by omega),nt,hc,aD (by omega) (by omega)]
  have hw:=Ih (nb s) (ro s) 6 i h2 (by omega) (by rw [cM];exact hs)
  cases hq:pP ((nb s).take i) with
  | true =>
   obtain ⟨a,ha⟩:=hw.1 hq
   rw [ac,ha]
   simp only []
   rw [if_pos (Nat.le_refl _),Ja (ro s) ha]
  | false =>
   have hnot:∀ a,rv 7 (nb s)≠some (a,i):=fun a ha=>by
    have:=hw.2 ⟨a,ha⟩
    rw [hq] at this
    cases this
   rw [aK]
   refine (ih (i+1) n (by omega) (by omega) (by omega)).trans ?_
   cases q:rv 7 (nb s) with
   | none=>rfl
   | some p =>
    obtain ⟨a,m'⟩:=p
    have:m'≠i:=fun e=>hnot a (by rw [q,e])
    simp only []
    by_cases c:i≤m'
    · rw [if_pos c,if_pos (by omega)]
    · rw [if_neg c,if_neg (by omega)]
theorem fR {k:Nat} (hk:2 ^ 50≤k) (s:ByteArray):af.f k s=some (Cv (rv 7 (nb s))):=by
 unfold af.f af.t
 refine (zn hk 7 1 k (by omega) (by omega) (by omega)).trans ?_
 cases q:rv 7 (nb s) with
 | none=>rfl
 | some p =>
  obtain ⟨a,m⟩:=p
  obtain ⟨_,_,_,_,h5,_⟩:=ox 6 (nb s) a m (ro s) q
  simp only [Cv]
  rw [if_pos h5]
theorem oO {k:Nat} (hk:2 ^ 50≤k) {x:Nat} (hx:x<4294967296) (t:ByteArray):bV.f k (eN x++t) 4=some ((x:Int),(true,())):=by
 have hz:=mD x t
 have st:∀ (q a j:Nat),j<4→a<4294967296→bV.l0 k (q+1) (eN x++t) 4 (a:Int) (j:Int)=bV.l0 k q (eN x++t) 4 ((a*256+(nb (eN x++t)).getD j 0:Nat):Int) ((j+1:Nat):Int):=fun q a j hj ha=>by
  have hb:=ib (eN x++t) j
  have hat:=wa (s:=eN x++t) (i:=j) (by omega)
  generalize (nb (eN x++t)).getD j 0=b at *
  have e1:aJ (aJ ((a:Int)*256)+aJ (b:Int))=((a*256+b:Nat):Int):=by
   rw [aD (n:=(a:Int)*256) (by omega) (by omega),aD (n:=(b:Int)) (by omega) (by omega),aD (by omega) (by omega)]
   omega
  have ej:aJ ((j:Int)+1)=((j+1:Nat):Int):=by rw [aD (by omega) (by omega)];omega
  simp (disch:=omega) only [bV.l0,bV.b0,aO,ac,aH,hat,e1,ej]
 unfold bV.f bV.t
 rw [nG,ab]
 simp only [show decide ((1:Int)≤4∧(4:Int)≤7)=true by decide,fh,aK,aP (show ¬ (((eN x++t).size:Int)<4) by omega)]
 obtain ⟨q,hq⟩:∃ q,k=q+5:=⟨k-5,by omega⟩
 refine (congrArg (fun z=>bV.l0 k z (eN x++t) 4 0 0) hq).trans ?_
 refine (st (q+4) 0 0 (by omega) (by omega)).trans ?_
 rw [uP]
 simp only [List.getD_cons_zero,Nat.zero_mul,Nat.zero_add]
 refine (st (q+3) _ 1 (by omega) (by omega)).trans ?_
 rw [uP]
 simp only [List.getD_cons_zero,List.getD_cons_succ]
 refine (st (q+2) _ 2 (by omega) (by omega)).trans ?_
 rw [uP]
 simp only [List.getD_cons_zero,List.getD_cons_succ]
 refine (st (q+1) _ 3 (by omega) (by omega)).trans ?_
 rw [uP]
 simp only [List.getD_cons_zero,List.getD_cons_succ]
 simp only [bV.l0,bV.b0,show decide ((((3+1:Nat)):Int)<4)=false by decide,aK]
 congr 3
 omega
theorem o9 {k:Nat} (hk:2 ^ 50≤k) {x:Nat} (hx:x<4294967296) (t:ByteArray):bd.f k (eN x++t) 4=some ((x:Int),(true,())):=by
 have hz:=mD x t
 have st:∀ (q a j:Nat),j<4→a<16777216→bd.l0 k (q+1) (eN x++t) (a:Int) 4 (j:Int)=bd.l0 k q (eN x++t) ((a*256+(nb (eN x++t)).getD j 0:Nat):Int) 4 ((j+1:Nat):Int):=fun q a j hj ha=>by
  have hb:=ib (eN x++t) j
  have hat:=wa (s:=eN x++t) (i:=j) (by omega)
  generalize (nb (eN x++t)).getD j 0=b at *
  have e0:aJ ((a:Int)*2 ^ min (Int.toNat 8) (IntKind.bits .i64))=((a*256:Nat):Int):=by
   rw [show (2:Int) ^ min (Int.toNat 8) (IntKind.bits .i64)=256 by decide,aD (by omega) (by omega)]
   omega
  have e2:aJ (b:Int)=(b:Int):=aD (by omega) (by omega)
  have ej:aJ ((j:Int)+1)=((j+1:Nat):Int):=by rw [aD (by omega) (by omega)];omega
  simp (disch:=omega) only [bd.l0,bd.b0,aO,ac,aH,hat,e0,e2,ej]
  rw [L5 (by omega) hb]
 unfold bd.f bd.t
 rw [sZ,ab]
 simp only [show decide ((1:Int)≤4∧(4:Int)≤7)=true by decide,fh,aK,aP (show ¬ (((eN x++t).size:Int)<4) by omega)]
 obtain ⟨q,hq⟩:∃ q,k=q+5:=⟨k-5,by omega⟩
 refine (congrArg (fun z=>bd.l0 k z (eN x++t) 0 4 0) hq).trans ?_
 refine (st (q+4) 0 0 (by omega) (by omega)).trans ?_
 rw [uP]
 simp only [List.getD_cons_zero,Nat.zero_mul,Nat.zero_add]
 refine (st (q+3) _ 1 (by omega) (by omega)).trans ?_
 rw [uP]
 simp only [List.getD_cons_zero,List.getD_cons_succ]
 refine (st (q+2) _ 2 (by omega) (by omega)).trans ?_
 rw [uP]
 simp only [List.getD_cons_zero,List.getD_cons_succ]
 refine (st (q+1) _ 3 (by omega) (by omega)).trans ?_
 rw [uP]
 simp only [List.getD_cons_zero,List.getD_cons_succ]
 simp only [bd.l0,bd.b0,show decide ((((3+1:Nat)):Int)<4)=false by decide,aK]
 congr 3
 omega
theorem sj (k:Nat) {s:ByteArray} (h:s.size<4):bV.f k s 4=some (0,(false,())):=by
 unfold bV.f bV.t
 rw [nG,ab]
 simp only [show decide ((1:Int)≤4∧(4:Int)≤7)=true by decide,fh,aK,aO (show (s.size:Int)<4 by omega),ac]
theorem sb (k:Nat) {s:ByteArray} (h:s.size<4):bd.f k s 4=some (0,(false,())):=by
 unfold bd.f bd.t
 rw [sZ,ab]
 simp only [show decide ((1:Int)≤4∧(4:Int)≤7)=true by decide,fh,aK,aO (show (s.size:Int)<4 by omega),ac]
def aQ (s:ByteArray):ByteArray:=if s.size > 200 then ⟨#[]⟩ else sY (pH (iu s))++iu s
theorem ki (s:ByteArray):(aQ s).size≤211:=by
 unfold aQ
 split
 · exact Nat.zero_le _
 · have:=lp s
   rw [ByteArray.size_append,j4];omega
theorem jw {s:ByteArray} (h:s.size≤200):5≤(aQ s).size:=by
 unfold aQ
 rw [if_neg (by omega),ByteArray.size_append,j4]
 unfold iu
 rw [dY (by omega),ByteArray.size_append]
 have:=ah s.size
 omega
theorem kr {k:Nat} (hk:2 ^ 50≤k) (s:ByteArray):fF.f k s=some (aQ s,()):=by
 unfold fF.f fF.t aQ
 by_cases c:s.size > 200
 · rw [aO (show (s.size:Int) > 200 by omega),ac,if_pos c]
 · have h1:=bG (s.size:Int)
   have h2:=sU (gh (s.size:Int)++s)
   rw [aP (show ¬ (s.size:Int) > 200 by omega),aK,if_neg c]
   unfold iu
   simp (disch:=first | omega | (simp only [ByteArray.size_append,j4];omega)) only [gH hk,ab,e9,rJ hk]
   rw [p7 hk h2.1 h2.2,ab,e9 (by simp only [ByteArray.size_append,j4];omega)]
theorem AC {k:Nat} (hk:2 ^ 50≤k) (s:ByteArray):js.f k s=some (aQ s,()):=by
 unfold js.f js.t aQ
 by_cases c:s.size > 200
 · rw [aO (show (s.size:Int) > 200 by omega),ac,if_pos c]
 · have h1:=lp s
   have h2:=sU (iu s)
   rw [aP (show ¬ (s.size:Int) > 200 by omega),aK,if_neg c]
   simp (disch:=omega) only [lw hk,ab,vZ hk]
   rw [s5 hk h2.1 h2.2,ab,e9 (by rw [j4];omega)]
theorem aN (a b:ByteArray):(a++b).size=a.size+b.size:=ByteArray.size_append ..
theorem qH (a b t:ByteArray):ByteArray.extract (a++(b++t)) (a.size+b.size) (a++(b++t)).size=t:=by
 have:=dj (a++b) t
 rw [aN,ai] at this
 exact this
theorem Kv (a b t:ByteArray):ByteArray.extract (a++(b++t)) a.size (a.size+b.size)=b:=jV (by
 rw [rP,gP,gP,List.take_append,List.take_of_length_le (by rw [cM];omega),cM,show a.size+b.size-a.size=b.size by omega,List.drop_left' (cM a),List.take_left' (cM b)])
theorem tC (a b:Nat):((a:Int)+(b:Int))=((a+b:Nat):Int):=rfl
theorem mz {k:Nat} (hk:2 ^ 50≤k) {a:Nat} {t:ByteArray} (ha:a<562949953421312) (hs:t.size≤1099511627776):cT.f k (bB a++t)=some ((a:Int),(((bB a).size:Int),())):=by
 have:=ah a
 rw [mj hk (by rw [aN];omega),pm ha];rfl
theorem mL {k:Nat} (hk:2 ^ 50≤k) {s:ByteArray} (h:rv 7 (nb s)=none) (hs:s.size≤1099511627776):cT.f k s=some (0,(0,())):=by
 rw [mj hk (by omega),h];rfl
theorem cO {k:Nat} (hk:2 ^ 50≤k) {a:Nat} {t:ByteArray} (ha:a<562949953421312):af.f k (bB a++t)=some ((a:Int),(((bB a).size:Int),())):=by
 rw [fR hk,pm ha];rfl
theorem jM {k:Nat} (hk:2 ^ 50≤k) {s:ByteArray} (h:rv 7 (nb s)=none):af.f k s=some (0,(0,())):=by
 rw [fR hk,h];rfl
theorem ig {k:Nat} (hk:2 ^ 50≤k) {a:Nat} {t:ByteArray} (ha:a<562949953421312) (hs:t.size≤1099511627776):aq.f k (bB a++t,(false,()))=some ((t,(false,())),((a:Int),())):=by
 have h1:=ah a
 unfold aq.f aq.t
 rw [mz hk ha hs,ab]
 simp only [aK]
 rw [show (((bB a).size:Int)==0)=false from mF (by omega),aK,cN (by omega) (by rw [aN];omega),nt,dj]
theorem oi {k:Nat} (hk:2 ^ 50≤k) {s:ByteArray} (h:rv 7 (nb s)=none) (hs:s.size≤1099511627776):aq.f k (s,(false,()))=some ((s,(true,())),(0,())):=by
 unfold aq.f aq.t
 rw [mL hk h hs,ab]
 rfl
theorem Ha {k:Nat} (hk:2 ^ 50≤k) {s:ByteArray} (hs:s.size≤1099511627776):aq.f k (s,(true,()))=some ((s,(true,())),(0,())):=by
 unfold aq.f aq.t
 rw [mj hk (show s.size≤_ by omega),ab]
 rfl
theorem vJ (k:Nat) (u t:ByteArray):an.f k (u++t,(false,())) (u.size:Int)=some ((t,(false,())),(u,())):=by
 unfold an.f an.t
 simp only [aK]
 rw [aP (by rw [aN];omega),aK,cN (by omega) (by rw [aN];omega),cN (by omega) (by rw [aN];omega),nt,dj,BU]
theorem yf (k:Nat) {s:ByteArray} {n:Int} (h:n > (s.size:Int)):an.f k (s,(false,())) n=some ((s,(true,())),(⟨#[]⟩,())):=by
 unfold an.f an.t
 simp only [aK]
 rw [aO h,ac]
theorem sC (k:Nat) (s:ByteArray) (n:Int):an.f k (s,(true,())) n=some ((s,(true,())),(⟨#[]⟩,())):=by
 unfold an.f an.t
 rfl
theorem mn (s:ByteArray):(∃ u t,u.size<562949953421312∧s=bB u.size++(u++t))∨rv 7 (nb s)=none∨(∃ a t,a<562949953421312∧s=bB a++t∧t.size<a):=by
 rcases m3 s with ⟨a,t,ha,rfl⟩ | h
 · by_cases c:t.size<a
   · exact .inr (.inr ⟨a,t,ha,rfl,c⟩)
   · have e:=vP t (n:=a) (by omega)
     have hz:(ByteArray.extract t 0 a).size=a:=by rw [← cM,jf,List.length_take,cM];omega
     exact .inl ⟨_,_,by rw [hz];exact ha,by rw [hz,← e]⟩
 · exact .inr (.inl h)
theorem nN {k:Nat} (hk:2 ^ 50≤k) {u t:ByteArray} (hu:u.size<562949953421312) (hs:(u++t).size≤1099511627776):aj.f k (bB u.size++(u++t),(false,()))=some ((t,(false,())),(u,())):=by
 unfold aj.f aj.t
 rw [ig hk hu hs,ab]
 simp only []
 rw [vJ,ab]
theorem xL {k:Nat} (hk:2 ^ 50≤k) {s:ByteArray} (hs:s.size≤1099511627776):aj.f k (s,(true,()))=some ((s,(true,())),(⟨#[]⟩,())):=by
 unfold aj.f aj.t
 rw [Ha hk hs,ab]
 simp only []
 rw [sC,ab]
theorem wn {k:Nat} (hk:2 ^ 50≤k) {s:ByteArray} (hs:s.size≤1099511627776) (h:rv 7 (nb s)=none∨(∃ a t,a<562949953421312∧s=bB a++t∧t.size<a)):∃ s',s'.size≤1099511627776∧aj.f k (s,(false,()))=some ((s',(true,())),(⟨#[]⟩,())):=by
 unfold aj.f aj.t
 rcases h with h | ⟨a,t,ha,rfl,ht⟩
 · refine ⟨s,hs,?_⟩
   rw [oi hk h hs,ab]
   simp only []
   rw [sC,ab]
 · have:=ah a
   rw [aN] at hs
   refine ⟨t,by omega,?_⟩
   rw [ig hk ha (by omega),ab]
   simp only []
   rw [yf k (by omega),ab]
theorem tr {k:Nat} (hk:2 ^ 50≤k) {u t:ByteArray} (hu:u.size<562949953421312) (hs:(u++t).size≤1099511627776):cJ.f k (bB u.size++(u++t))=some (u,(t,(true,()))):=by
 have h1:=ah u.size
 have h2:(bB u.size++(u++t)).size=(bB u.size).size+(u.size+t.size):=by rw [aN,aN]
 rw [aN] at hs
 unfold cJ.f cJ.t
 rw [cO hk hu,ab]
 simp only []
 rw [show (((bB u.size).size:Int)==0)=false from mF (by omega),aK,aD (by omega) (by omega),aP (by omega),aK,tC,aD (by omega) (by omega),
  t6 (by omega) (by omega) (by omega),cN (by omega) (by omega),nt,nt,Kv,qH]
theorem wo {k:Nat} (hk:2 ^ 50≤k) {s:ByteArray} (hs:s.size≤1099511627776) (h:rv 7 (nb s)=none∨(∃ a t,a<562949953421312∧s=bB a++t∧t.size<a)):cJ.f k s=some (⟨#[]⟩,(⟨#[]⟩,(false,()))):=by
 unfold cJ.f cJ.t
 rcases h with h | ⟨a,t,ha,rfl,ht⟩
 · rw [jM hk h,ab];rfl
 · have:=ah a
   rw [aN] at hs
   rw [cO hk ha,ab]
   simp only []
   rw [show (((bB a).size:Int)==0)=false from mF (by omega),aK,aD (by rw [aN];omega) (by rw [aN];omega),aO (by rw [aN];omega),ac]
section
open Classical
variable {α:Type}
noncomputable def nq (ok:α→Prop) (shw:α→ByteArray) (z:α) (s:ByteArray):α × Bool:=if h:∃ r,ok r∧shw r=s then (h.choose,true) else (z,false)
theorem zv {ok:α→Prop} {shw:α→ByteArray} {z:α} {s:ByteArray} {r:α} (h:nq ok shw z s=(r,true)):ok r∧shw r=s:=by
 unfold nq at h
 split at h
 · rename_i q
   obtain rfl:=(Prod.mk.inj h).1
   exact q.choose_spec
 · cases (Prod.mk.inj h).2
theorem E8 {ok:α→Prop} {shw:α→ByteArray} {z:α} {s:ByteArray} (h:(nq ok shw z s).2=false):nq ok shw z s=(z,false):=by
 unfold nq at h ⊢
 split
 · rename_i q;rw [dif_pos q] at h;cases h
 · rfl
theorem jE (ok:α→Prop) (shw:α→ByteArray) (z:α) (s:ByteArray):(∃ r,ok r∧shw r=s∧nq ok shw z s=(r,true))∨nq ok shw z s=(z,false):=by
 cases h:(nq ok shw z s).2 with
 | false=>exact .inr (E8 h)
 | true =>
  have e:nq ok shw z s=((nq ok shw z s).1,true):=by rw [← h]
  exact .inl ⟨_,(zv e).1,(zv e).2,e⟩
theorem qj {ok:α→Prop} {shw:α→ByteArray} {z:α} {s:ByteArray} {f:Option (α × Bool × Unit)} (h1:∀ r,ok r→shw r=s→f=some (r,(true,())))
 (h2:(∃ r,ok r∧shw r=s∧f=some (r,(true,())))∨f=some (z,(false,()))):f=some ((nq ok shw z s).1,((nq ok shw z s).2,())):=by
 rcases jE ok shw z s with ⟨r,a,b,e⟩ | e
 · rw [e,h1 r a b]
 · rcases h2 with ⟨r,a,b,_⟩ | h2
   · unfold nq at e
     rw [dif_pos ⟨r,a,b⟩] at e
     cases (Prod.mk.inj e).2
   · rw [e,h2]
theorem EM {ok:α→Prop} {shw:α→ByteArray} {z:α} {r:α} (hi:∀ a b,ok a→ok b→shw a=shw b→a=b) (h:ok r):nq ok shw z (shw r)=(r,true):=by
 rcases jE ok shw z (shw r) with ⟨q,a,b,e⟩ | e
 · rw [e,hi q r a h b]
 · unfold nq at e
   rw [dif_pos ⟨r,h,rfl⟩] at e
   cases (Prod.mk.inj e).2
end
abbrev ri:Ty.d b7:=(0,(0,(ByteArray.empty,(ByteArray.empty,(0,(0,()))))))
theorem yv {a:Ty.d b7} (h:bm a=true) :
 (∃ (b:Nat) (kd:Nat),(kd=1∨kd=4)∧b≤1000000∧a=((kd:Int),((b:Int),(a.2.2.1,(a.2.2.2.1,(0,(0,()))))))∧a.2.2.1.size≤8∧a.2.2.2.1.size≤24 ∧
  aG a=bB kd++(bB b++(bB a.2.2.1.size++(a.2.2.1++(bB a.2.2.2.1.size++(a.2.2.2.1++⟨#[]⟩)))))) ∨
 (∃ (b:Nat),b≤1000000∧a=(2,((b:Int),(a.2.2.1,(ByteArray.empty,(0,(0,()))))))∧a.2.2.1.size≤8∧aG a=bB 2++(bB b++(bB a.2.2.1.size++(a.2.2.1++⟨#[]⟩)))) ∨
 (∃ (b kd c x:Nat),(kd=3∨kd=5)∧b≤1000000∧c≤20∧x<4294967296∧a=((kd:Int),((b:Int),(ByteArray.empty,(ByteArray.empty,((c:Int),((x:Int),()))))))∧aG a=bB kd++(bB b++(bB c++(eN x++⟨#[]⟩)))):=by
 have hh:=h
 obtain ⟨kd,b,key,val,c,x,u⟩:=a
 change Int at kd b c x
 change ByteArray at key val
 rcases uy h with ⟨hc,h⟩ | ⟨hc,h⟩ | ⟨hc,h⟩
 · obtain ⟨z1,z2,z3,z4,z5,z6,z7⟩:=h
   subst z4;subst z5
   obtain ⟨b,rfl⟩:=Int.eq_ofNat_of_zero_le (show 0≤b by omega)
   left
   refine ⟨b,kd.toNat,by omega,by omega,?_,z2,z3,?_⟩
   · rw [show ((kd.toNat:Nat):Int)=kd by omega]
   · unfold aG
     rw [if_pos hh,if_pos hc]
     simp only [iu]
     rw [dY (by omega),dY (by omega),dY (by omega),jI,ai,show gh kd=bB kd.toNat by rw [← dY (show kd.toNat<562949953421312 by omega)];congr 1;omega]
 · obtain ⟨z1,z2,z3,z4,z5,z6,z7⟩:=h
   subst z3;subst z4;subst z5;subst hc
   obtain ⟨b,rfl⟩:=Int.eq_ofNat_of_zero_le (show 0≤b by omega)
   right;left
   refine ⟨b,by omega,rfl,z2,?_⟩
   unfold aG
   rw [if_pos hh,if_neg (show ¬ ((2:Int)=1∨(2:Int)=4) by decide),if_pos rfl]
   simp only [iu]
   rw [dY (by omega),dY (by omega),jI]
   rfl
 · obtain ⟨z1,z2,z3,z4,z5,z6,z7,z8⟩:=h
   subst z1;subst z2
   obtain ⟨b,rfl⟩:=Int.eq_ofNat_of_zero_le (show 0≤b by omega)
   obtain ⟨c,rfl⟩:=Int.eq_ofNat_of_zero_le (show 0≤c by omega)
   obtain ⟨x,rfl⟩:=Int.eq_ofNat_of_zero_le (show 0≤x by omega)
   right;right
   refine ⟨b,kd.toNat,c,x,by omega,by omega,by omega,by omega,?_,?_⟩
   · rw [show ((kd.toNat:Nat):Int)=kd by omega];rfl
   · unfold aG
     rw [if_pos hh,if_neg (show ¬ (kd=1∨kd=4) by omega),if_neg (show ¬ kd=2 by omega)]
     simp only []
     rw [dY (by omega),dY (by omega),jI,show gh kd=bB kd.toNat by rw [← dY (show kd.toNat<562949953421312 by omega)];congr 1;omega]
     rfl
theorem Cw {a:Ty.d b7} {s:ByteArray} (h:aG a=s) (hs:s≠⟨#[]⟩):bm a=true:=by
 cases c:bm a with
 | true=>rfl
 | false=>unfold aG at h;rw [c] at h;exact absurd h.symm hs
theorem J3 {kd:Nat} (h:kd≠1):((kd:Int)==1)=false:=mF (by omega)
theorem JH {kd:Nat} (h:kd≠2):((kd:Int)==2)=false:=mF (by omega)
theorem JL {kd:Nat} (h:kd≠4):((kd:Int)==4)=false:=mF (by omega)
theorem Jt:(((1:Nat):Int)==1)=true:=rfl
theorem JN:(((4:Nat):Int)==1)=false:=rfl
theorem Js:(((4:Nat):Int)==4)=true:=rfl
theorem Jh:(((2:Nat):Int)==1)=false:=rfl
theorem JW:(((2:Nat):Int)==2)=true:=rfl
theorem K8:(((2:Nat):Int)==4)=false:=rfl
theorem LI:((0:Int)==1)=false:=rfl
theorem LG:((0:Int)==4)=false:=rfl
theorem LH:((0:Int)==2)=false:=rfl
theorem e0:(⟨#[]⟩:ByteArray).size=0:=rfl
theorem G_ {kd b:Nat} {key val:ByteArray} (hb:b<562949953421312) (hc:kd=1∨kd=4) (h:bm ((kd:Int),((b:Int),(key,(val,(0,(0,()))))))=true) :
 aG ((kd:Int),((b:Int),(key,(val,(0,(0,()))))))=bB kd++(bB b++(bB key.size++(key++(bB val.size++(val++⟨#[]⟩))))):=by
 rcases uy h with ⟨_,h1⟩ | ⟨h0,_⟩ | ⟨h0,_⟩
 · unfold aG
   rw [if_pos h,if_pos (show ((kd:Int)=1∨(kd:Int)=4) by omega)]
   simp only [iu]
   rw [dY (by omega),dY hb,dY (by omega),dY (by omega),jI,ai]
 · omega
 · omega
theorem GP {b:Nat} {key:ByteArray} (hb:b<562949953421312) (h:bm (((2:Nat):Int),((b:Int),(key,(ByteArray.empty,(0,(0,()))))))=true) :
 aG (((2:Nat):Int),((b:Int),(key,(ByteArray.empty,(0,(0,()))))))=bB 2++(bB b++(bB key.size++(key++⟨#[]⟩))):=by
 rcases uy h with ⟨h0,_⟩ | ⟨_,h1⟩ | ⟨h0,_⟩
 · omega
 · unfold aG
   rw [if_pos h,if_neg (show ¬ (((2:Nat):Int)=1∨((2:Nat):Int)=4) by decide),if_pos (show ((2:Nat):Int)=2 from rfl)]
   simp only [iu]
   rw [dY (by omega),dY hb,dY (by omega),jI]
 · omega
theorem GM {kd b c x:Nat} (hb:b<562949953421312) (hx:c<562949953421312) (hc:kd≠1∧kd≠2∧kd≠4) (h:bm ((kd:Int),((b:Int),(ByteArray.empty,(ByteArray.empty,((c:Int),((x:Int),()))))))=true) :
 aG ((kd:Int),((b:Int),(ByteArray.empty,(ByteArray.empty,((c:Int),((x:Int),()))))))=bB kd++(bB b++(bB c++(eN x++⟨#[]⟩))):=by
 rcases uy h with ⟨h0,_⟩ | ⟨h0,_⟩ | ⟨_,h1⟩
 · omega
 · omega
 · unfold aG
   rw [if_pos h,if_neg (show ¬ ((kd:Int)=1∨(kd:Int)=4) by omega),if_neg (show ¬ (kd:Int)=2 by omega)]
   simp only []
   have hk5:kd≤5:=by omega
   rw [dY (by omega),dY hb,dY hx,jI]
   rfl
theorem na {k:Nat} (hk:2 ^ 50≤k) {a:Ty.d b7} (h:bm a=true):cV.f k (aG a)=some (a,(true,())):=by
 unfold cV.f cV.t
 rcases yv h with ⟨b,kd,hc,hb,ha,z1,z2,e⟩ | ⟨b,hb,ha,z1,e⟩ | ⟨b,kd,c,x,hc,hb,z1,z2,ha,e⟩
 · rw [e]
   rw [ha] at h
   conv=>rhs;rw [ha]
   have v1:=ah kd
   have v2:=ah b
   have v3:=ah a.2.2.1.size
   have v4:=ah a.2.2.2.1.size
   rcases hc with rfl | rfl
   · simp (disch:=first | omega | (simp only [aN,e0];omega)) only [ig hk,nN hk,ab,ac,aK,Jt,bX,fh,gp,h]
   · simp (disch:=first | omega | (simp only [aN,e0];omega)) only [ig hk,nN hk,ab,ac,aK,JN,Js,bX,fh,gp,h]
 · rw [e]
   rw [ha] at h
   conv=>rhs;rw [ha]
   have v1:=ah 2
   have v2:=ah b
   have v3:=ah a.2.2.1.size
   simp (disch:=first | omega | (simp only [aN,e0];omega)) only [ig hk,nN hk,ab,ac,aK,Jh,JW,K8,bX,fh,gp]
   rw [show ((2:Nat):Int)=2 from rfl,h]
   rfl
 · rw [e,ha]
   rw [ha] at h
   have v1:=ah kd
   have v2:=ah b
   have v3:=ah c
   have v4:=li x
   have hby:=vJ k (eN x) ⟨#[]⟩
   rw [li] at hby
   have hrf:=o9 hk z2 ⟨#[]⟩
   rw [jI] at hrf
   rw [show (((4:Nat)):Int)=4 from rfl] at hby
   simp (disch:=first | omega | (simp only [aN,e0];omega)) only [ig hk,hby,hrf,ab,ac,aK,J3,JH,JL,bX,fh,gp,h]
theorem uY {k:Nat} (hk:2 ^ 50≤k) {s:ByteArray} (hs:s.size≤1099511627776) :
 (∃ r,bm r=true∧aG r=s∧cV.f k s=some (r,(true,())))∨cV.f k s=some (ri,(false,())):=by
 have rf0:=sb k (s:=⟨#[]⟩) (by decide)
 unfold cV.f cV.t
 rcases m3 s with ⟨kd,t,hkd,rfl⟩ | h0
 case inr =>
  right
  simp (disch:=first | omega | (simp only [aN,e0];omega)) only [oi hk h0,Ha hk,sC k,rf0,ab,ac,aK,LI,LH,LG]
 have v1:=ah kd
 rw [aN] at hs
 rcases m3 t with ⟨b,t2,hb,rfl⟩ | h1
 case inr =>
  right
  by_cases c1:kd=1
  · subst c1
    simp (disch:=first | omega | (simp only [aN,e0];omega)) only [ig hk,oi hk h1,xL hk,ab,ac,aK,Jt]
  by_cases c4:kd=4
  · subst c4
    simp (disch:=first | omega | (simp only [aN,e0];omega)) only [ig hk,oi hk h1,xL hk,ab,ac,aK,JN,Js]
  by_cases c2:kd=2
  · subst c2
    simp (disch:=first | omega | (simp only [aN,e0];omega)) only [ig hk,oi hk h1,xL hk,ab,ac,aK,Jh,K8,JW]
  · simp (disch:=first | omega | (simp only [aN,e0];omega)) only [ig hk,oi hk h1,Ha hk,sC k,rf0,ab,ac,aK,J3 c1,JH c2,JL c4]
 have v2:=ah b
 rw [aN] at hs
 by_cases c2:kd=2
 · subst c2
   rcases mn t2 with ⟨key,t3,hu,rfl⟩ | bad
   case inr =>
    right
    obtain ⟨s',hs',e⟩:=wn hk (by omega) bad
    simp (disch:=first | omega | (simp only [aN,e0];omega)) only [ig hk,e,ab,ac,aK,Jh,K8,JW]
   have v3:=ah key.size
   simp only [aN] at hs
   simp (disch:=first | omega | (simp only [aN,e0];omega)) only [ig hk,nN hk,ab,ac,aK,Jh,K8,JW]
   by_cases c:t3=⟨#[]⟩
   · subst c
     simp only [bX,fh,aK,gp,ab]
     cases hr:bm (((2:Nat):Int),((b:Int),(key,(ByteArray.empty,(0,(0,())))))) with
     | true=>exact .inl ⟨_,hr,GP hb hr,rfl⟩
     | false=>exact .inr rfl
   · rw [kK c]
     exact .inr rfl
 by_cases c1:kd=1∨kd=4
 · have hcc:(bif ((kd:Int)==1) then true else ((kd:Int)==4))=true:=by rcases c1 with rfl | rfl <;> rfl
   rcases mn t2 with ⟨key,t3,hu,rfl⟩ | bad
   case inr =>
    right
    obtain ⟨s',hs',e⟩:=wn hk (by omega) bad
    rcases c1 with rfl | rfl
    · simp (disch:=first | omega | (simp only [aN,e0];omega)) only [ig hk,e,xL hk hs',ab,ac,aK,Jt]
    · simp (disch:=first | omega | (simp only [aN,e0];omega)) only [ig hk,e,xL hk hs',ab,ac,aK,JN,Js]
   have v3:=ah key.size
   simp only [aN] at hs
   rcases mn t3 with ⟨val,t4,hv,rfl⟩ | bad
   case inr =>
    right
    obtain ⟨s',hs',e⟩:=wn hk (by omega) bad
    rcases c1 with rfl | rfl
    · simp (disch:=first | omega | (simp only [aN,e0];omega)) only [ig hk,nN hk,e,ab,ac,aK,Jt]
    · simp (disch:=first | omega | (simp only [aN,e0];omega)) only [ig hk,nN hk,e,ab,ac,aK,JN,Js]
   have v4:=ah val.size
   simp only [aN] at hs
   have fin:(bif !seq t4 ⟨#[]⟩ then some (ri,(false,())) else bif !bm ((kd:Int),((b:Int),(key,(val,(0,(0,())))))) then some (ri,(false,())) else some (((kd:Int),((b:Int),(key,(val,(0,(0,())))))),(true,())))=cV.t k (bB kd++(bB b++(bB key.size++(key++(bB val.size++(val++t4)))))):=by
    unfold cV.t
    rcases c1 with rfl | rfl
    · simp (disch:=first | omega | (simp only [aN,e0];omega)) only [ig hk,nN hk,ab,ac,aK,Jt,gp]
    · simp (disch:=first | omega | (simp only [aN,e0];omega)) only [ig hk,nN hk,ab,ac,aK,JN,Js,gp]
   change (∃ r,bm r=true∧aG r=_∧cV.t k _=some (r,(true,())))∨cV.t k _=some (ri,(false,()))
   rw [← fin]
   by_cases c:t4=⟨#[]⟩
   · subst c
     simp only [bX,fh,aK]
     cases hr:bm ((kd:Int),((b:Int),(key,(val,(0,(0,())))))) with
     | true=>exact .inl ⟨_,hr,G_ hb c1 hr,rfl⟩
     | false=>exact .inr rfl
   · rw [kK c]
     exact .inr rfl
 have d1:kd≠1:=fun q=>c1 (.inl q)
 have d4:kd≠4:=fun q=>c1 (.inr q)
 rcases m3 t2 with ⟨c,t3,hc,rfl⟩ | h2
 case inr =>
  right
  simp (disch:=first | omega | (simp only [aN,e0];omega)) only [ig hk,oi hk h2,sC k,rf0,ab,ac,aK,J3 d1,JH c2,JL d4]
 have v3:=ah c
 rw [aN] at hs
 rcases vU t3 with ⟨x,t4,hx,rfl⟩ | h3
 case inr =>
  right
  have e:=yf k (s:=t3) (n:=4) (by omega)
  simp (disch:=first | omega | (simp only [aN,e0];omega)) only [ig hk,e,rf0,ab,ac,aK,J3 d1,JH c2,JL d4]
 rw [mD] at hs
 have hby:=vJ k (eN x) t4
 rw [li,show (((4:Nat)):Int)=4 from rfl] at hby
 have hrf:=o9 hk hx ⟨#[]⟩
 rw [jI] at hrf
 simp (disch:=first | omega | (simp only [aN,e0,li];omega)) only [ig hk,hby,hrf,ab,aK,J3 d1,JH c2,JL d4,gp]
 by_cases cc:t4=⟨#[]⟩
 · subst cc
   simp only [bX,fh,aK]
   cases hr:bm ((kd:Int),((b:Int),(ByteArray.empty,(ByteArray.empty,((c:Int),((x:Int),())))))) with
   | true=>exact .inl ⟨_,hr,GM hb hc ⟨d1,c2,d4⟩ hr,rfl⟩
   | false=>exact .inr rfl
 · rw [kK cc]
   exact .inr rfl
theorem jS (a b:Nat):Int.toNat ((a:Int)+(b:Int))=a+b:=by omega
theorem vz (a:Nat):(((bB a).size:Int)==0)=false:=mF (by have:=ah a;omega)
theorem nV (a:Nat) (t:ByteArray):bB a++t≠⟨#[]⟩:=fun h=>by
 have:=congrArg ByteArray.size h
 rw [aN,e0] at this
 have:=ah a
 omega
theorem nw {r:Ty.d b7} {s:ByteArray} (hs:s≠⟨#[]⟩) :
 (∃ r',bm r'=true∧aG r'=s∧(bif !seq (aG r) s then some (ri,(false,())) else bif seq s ⟨#[]⟩ then some (ri,(false,())) else some (r,(true,())))=some (r',(true,()))) ∨
 (bif !seq (aG r) s then some (ri,(false,())) else bif seq s ⟨#[]⟩ then some (ri,(false,())) else some (r,(true,())))=some (ri,(false,())):=by
 by_cases c:aG r=s
 · exact .inl ⟨r,Cw c hs,c,by rw [IZ c,kK hs];rfl⟩
 · rw [kK c];exact .inr rfl
theorem xr {k:Nat} (hk:2 ^ 50≤k) {a:Ty.d b7} (h:bm a=true):di.f k (aG a)=some (a,(true,())):=by
 unfold di.f di.t
 rcases yv h with ⟨b,kd,hc,hb,ha,z1,z2,e⟩ | ⟨b,hb,ha,z1,e⟩ | ⟨b,kd,c,x,hc,hb,z1,z2,ha,e⟩
 · have hs:aG ((kd:Int),((b:Int),(a.2.2.1,(a.2.2.2.1,(0,(0,()))))))=bB kd++(bB b++(bB a.2.2.1.size++(a.2.2.1++(bB a.2.2.2.1.size++(a.2.2.2.1++⟨#[]⟩))))):=by rw [← ha];exact e
   rw [e]
   conv=>rhs;rw [ha]
   have v1:=ah kd
   have v2:=ah b
   have v3:=ah a.2.2.1.size
   have v4:=ah a.2.2.2.1.size
   rcases hc with rfl | rfl
   · simp (disch:=first | omega | (simp only [aN,e0];omega)) only [cO hk,tr hk,ab,nt,dj,vz,ac,aK,aD,cN,jS,qH,Jt,dD hk,hs,bX,fh,kK (nV _ _)]
   · simp (disch:=first | omega | (simp only [aN,e0];omega)) only [cO hk,tr hk,ab,nt,dj,vz,ac,aK,aD,cN,jS,qH,JN,Js,dD hk,hs,bX,fh,kK (nV _ _)]
 · have hs:aG (((2:Nat):Int),((b:Int),(a.2.2.1,(ByteArray.empty,(0,(0,()))))))=bB 2++(bB b++(bB a.2.2.1.size++(a.2.2.1++⟨#[]⟩))):=by rw [show ((2:Nat):Int)=2 from rfl,← ha];exact e
   rw [e]
   conv=>rhs;rw [ha]
   have v1:=ah 2
   have v2:=ah b
   have v3:=ah a.2.2.1.size
   simp (disch:=first | omega | (simp only [aN,e0];omega)) only [cO hk,tr hk,ab,nt,dj,vz,ac,aK,aD,cN,jS,qH,Jh,K8,JW,dD hk,hs,bX,fh,kK (nV _ _)]
   rfl
 · have hs:aG ((kd:Int),((b:Int),(ByteArray.empty,(ByteArray.empty,((c:Int),((x:Int),()))))))=bB kd++(bB b++(bB c++(eN x++⟨#[]⟩))):=by rw [← ha];exact e
   rw [e,ha]
   have v1:=ah kd
   have v2:=ah b
   have v3:=ah c
   have v4:=li x
   simp (disch:=first | omega | (simp only [aN,e0];omega)) only [cO hk,oO hk z2,ab,nt,dj,vz,ac,aK,aD,cN,jS,qH,J3,JH,JL,dD hk,hs,bX,fh,kK (nV _ _)]
theorem uu {k:Nat} (hk:2 ^ 50≤k) {s:ByteArray} (hs:s.size≤1099511627776) :
 (∃ r,bm r=true∧aG r=s∧di.f k s=some (r,(true,())))∨di.f k s=some (ri,(false,())):=by
 unfold di.f di.t
 rcases m3 s with ⟨kd,t,hkd,rfl⟩ | h0
 case inr =>
  right
  rw [jM hk h0,ab]
  simp only []
  rw [cN (by omega) (by omega),fR hk,ab]
  rfl
 have v1:=ah kd
 rw [aN] at hs
 rcases m3 t with ⟨b,t2,hb,rfl⟩ | h1
 case inr =>
  right
  simp (disch:=first | omega | (simp only [aN,e0];omega)) only [cO hk,jM hk h1,ab,nt,dj,vz,ac,aK,aD,cN,show (((0:Int)==0))=true from rfl]
 have v2:=ah b
 rw [aN] at hs
 by_cases c2:kd=2
 · subst c2
   rcases mn t2 with ⟨key,t3,hu,rfl⟩ | bad
   · simp only [aN] at hs
     simp (disch:=first | omega | (simp only [aN,e0];omega)) only [cO hk,tr hk,ab,nt,dj,vz,ac,aK,aD,cN,jS,qH,Jh,K8,JW,dD hk]
     exact nw (nV _ _)
   · have hb5:=wo hk (by omega) bad
     simp (disch:=first | omega | (simp only [aN,e0];omega)) only [cO hk,hb5,ab,nt,dj,vz,ac,aK,aD,cN,jS,qH,Jh,K8,JW,dD hk]
     exact nw (nV _ _)
 by_cases c1:kd=1∨kd=4
 · have em:cJ.f k ⟨#[]⟩=some (⟨#[]⟩,(⟨#[]⟩,(false,()))):=wo hk (by decide) (.inl rfl)
   obtain ⟨u,l,bb,hl,e⟩:∃ u l bb,l.size≤1099511627776∧cJ.f k t2=some (u,(l,(bb,()))):=by
    rcases mn t2 with ⟨key,t3,hu,rfl⟩ | bad
    · simp only [aN] at hs
      exact ⟨_,_,_,by omega,tr hk hu (by simp only [aN];omega)⟩
    · exact ⟨_,_,_,by decide,wo hk (by omega) bad⟩
   obtain ⟨u2,l2,bb2,e2⟩:∃ u l' bb,cJ.f k l=some (u,(l',(bb,()))):=by
    rcases mn l with ⟨key,t3,hu,rfl⟩ | bad
    · exact ⟨_,_,_,tr hk hu (by simp only [aN] at hl ⊢;omega)⟩
    · exact ⟨_,_,_,wo hk hl bad⟩
   rcases c1 with rfl | rfl
   · simp (disch:=first | omega | (simp only [aN,e0];omega)) only [cO hk,e,e2,ab,nt,dj,vz,ac,aK,aD,cN,jS,qH,Jt,dD hk]
     exact nw (nV _ _)
   · simp (disch:=first | omega | (simp only [aN,e0];omega)) only [cO hk,e,e2,ab,nt,dj,vz,ac,aK,aD,cN,jS,qH,JN,Js,dD hk]
     exact nw (nV _ _)
 have d1:kd≠1:=fun q=>c1 (.inl q)
 have d4:kd≠4:=fun q=>c1 (.inr q)
 have rf:∀ u:ByteArray,∃ z zb,bV.f k u 4=some (z,(zb,())):=fun u=>by
  rcases vU u with ⟨x,t,hx,rfl⟩ | q
  · exact ⟨_,_,oO hk hx t⟩
  · exact ⟨_,_,sj k q⟩
 rcases m3 t2 with ⟨c,t3,hc,rfl⟩ | h2
 · have v3:=ah c
   rw [aN] at hs
   obtain ⟨z,zb,e⟩:=rf t3
   simp (disch:=first | omega | (simp only [aN,e0];omega)) only [cO hk,e,ab,nt,dj,vz,ac,aK,aD,cN,jS,qH,J3 d1,JH c2,JL d4,dD hk]
   exact nw (nV _ _)
 · obtain ⟨z,zb,e⟩:=rf (ByteArray.extract t2 (Int.toNat 0) t2.size)
   simp (disch:=first | omega | (simp only [aN,e0];omega)) only [cO hk,jM hk h2,e,ab,nt,dj,vz,ac,aK,aD,cN,jS,qH,J3 d1,JH c2,JL d4,dD hk]
   exact nw (nV _ _)
noncomputable def gB (s:ByteArray):Ty.d b7 × Bool:=nq (fun r=>bm r=true) aG ri s
theorem pa {k:Nat} (hk:2 ^ 50≤k) {s:ByteArray} (hs:s.size≤1099511627776):cV.f k s=some ((gB s).1,((gB s).2,())) :=
 qj (fun r h1 h2=>by rw [← h2];exact na hk h1) (uY hk hs)
theorem pb {k:Nat} (hk:2 ^ 50≤k) {s:ByteArray} (hs:s.size≤1099511627776):di.f k s=some ((gB s).1,((gB s).2,())) :=
 qj (fun r h1 h2=>by rw [← h2];exact xr hk h1) (uu hk hs)
theorem BX {a b:Ty.d b7} (ha:bm a=true) (hb:bm b=true) (h:aG a=aG b):a=b:=by
 have h1:=na (k:=2 ^ 50) (Nat.le_refl _) ha
 rw [h,na (Nat.le_refl _) hb] at h1
 exact (Prod.mk.inj (Option.some.inj h1)).1.symm
theorem sG {a:Ty.d b7} (h:bm a=true):gB (aG a)=(a,true):=EM (fun _ _ ha hb=>BX ha hb) h
theorem vN {s:ByteArray} {r:Ty.d b7} (h:gB s=(r,true)):bm r=true∧aG r=s:=zv h
theorem oz {t:ByteArray} (h:t.size≤200):∃ x,x<4294967296∧aQ t=eN x++(bB t.size++t):=by
 have:=sU (iu t)
 refine ⟨(pH (iu t)).toNat,by omega,?_⟩
 unfold aQ sY
 rw [if_neg (by omega)]
 unfold iu
 rw [dY (by omega)]
theorem G8 {t u s r:ByteArray} (ht:t.size≤200) (hu:u.size≤200) (h:aQ t++s=aQ u++r):t=u∧s=r:=by
 obtain ⟨x,hx,e⟩:=oz ht
 obtain ⟨y,hy,f⟩:=oz hu
 rw [e,f,ai,ai,ai,ai] at h
 have h2:=(qP h rfl).2
 obtain ⟨h3,h4⟩:=vf (by omega) (by omega) h2
 exact qP h4 h3
theorem yR (x:Nat) (u:ByteArray):ByteArray.extract (eN x++u) 4 (eN x++u).size=u:=dj (eN x) u
theorem Kg (x:Nat) (v t r:ByteArray):ByteArray.extract (eN x++(v++(t++r))) (4+v.size) (4+v.size+t.size)=t:=by
 have:=Kv (eN x++v) t r
 rw [aN,li,ai] at this
 exact this
theorem JF (x:Nat) (v t r:ByteArray):ByteArray.extract (eN x++(v++(t++r))) 0 (4+v.size+t.size)=eN x++(v++t):=by
 have:=BU (eN x++(v++t)) r
 rw [aN,aN,li,ai,ai,← Nat.add_assoc] at this
 exact this
theorem c4 (a:Nat):(4:Int)+(a:Int)=((4+a:Nat):Int):=rfl
theorem wu {k:Nat} (hk:2 ^ 50≤k) {x:Nat} {t r:ByteArray} (ht:t.size≤200) (hr:t.size+r.size≤1099511627776) :
 eI.f k (eN x++(bB t.size++(t++r)))=bif !seq (aQ t) (eN x++(bB t.size++t)) then some (⟨#[]⟩,(0,())) else some (t,(((4+(bB t.size).size+t.size:Nat):Int),())):=by
 have v1:=ah t.size
 have z1:(eN x++(bB t.size++(t++r))).size=4+((bB t.size).size+(t.size+r.size)):=by rw [mD,aN,aN]
 unfold eI.f eI.t
 rw [aP (by omega),aK,cN (by omega) (by omega),yR,mz hk (by omega) (by rw [aN];omega),ab]
 simp only [vz,aK]
 rw [aP (by omega),aK,aD (n:=((eN x++(bB t.size++(t++r))).size:Int)-4) (by omega) (by omega),aD (n:=((eN x++(bB t.size++(t++r))).size:Int)-4-_) (by omega) (by omega),aP (by omega),aK,
  c4,aD (by omega) (by omega),tC,aD (by omega) (by omega),t6 (by omega) (by omega) (by omega),nt,nt,Kg,AC hk,ab,cN (by omega) (by omega),JF]
theorem xC {k:Nat} (hk:2 ^ 50≤k) {x:Nat} {t r:ByteArray} (ht:t.size≤200) (hr:t.size+r.size≤1099511627776) :
 dQ.f k (eN x++(bB t.size++(t++r)))=bif !seq (aQ t) (eN x++(bB t.size++t)) then some (⟨#[]⟩,(0,())) else some (t,(((4+(bB t.size).size+t.size:Nat):Int),())):=by
 have v1:=ah t.size
 have z1:(eN x++(bB t.size++(t++r))).size=4+((bB t.size).size+(t.size+r.size)):=by rw [mD,aN,aN]
 unfold dQ.f dQ.t
 rw [aP (by omega),aK,cN (by omega) (by omega),yR,cO hk (by omega),ab]
 simp only [vz,aK]
 rw [aP (by omega),aK,aD (n:=((eN x++(bB t.size++(t++r))).size:Int)-4) (by omega) (by omega),aD (n:=((eN x++(bB t.size++(t++r))).size:Int)-4-_) (by omega) (by omega),aP (by omega),aK,
  c4,aD (by omega) (by omega),tC,aD (by omega) (by omega),t6 (by omega) (by omega) (by omega),nt,nt,Kg,kr hk,cN (by omega) (by omega),ab,JF,
  show seq (eN x++(bB t.size++t)) (aQ t)=seq (aQ t) (eN x++(bB t.size++t)) by rw [E6,E6];exact decide_eq_decide.2 ⟨Eq.symm,Eq.symm⟩]
theorem H7 (s:ByteArray) (hs:s.size≤1099511627776):(∃ x t r,x<4294967296∧t.size≤200∧t.size+r.size≤1099511627776∧s=eN x++(bB t.size++(t++r)))∨s.size<5∨(∃ x u,x<4294967296∧s=eN x++u∧1≤u.size∧rv 7 (nb u)=none) ∨
 (∃ x a u,x<4294967296∧a<562949953421312∧s=eN x++(bB a++u)∧(200<a∨u.size<a)):=by
 rcases vU s with ⟨x,u,hx,rfl⟩ | h
 · rw [mD] at hs
   rcases m3 u with ⟨a,v,ha,rfl⟩ | h
   · rw [aN] at hs
     by_cases c:200<a∨v.size<a
     · exact .inr (.inr (.inr ⟨x,a,v,hx,ha,rfl,c⟩))
     · left
       have e:=vP v (n:=a) (by omega)
       have hz:(ByteArray.extract v 0 a).size=a:=by rw [← cM,jf,List.length_take,cM];omega
       refine ⟨x,ByteArray.extract v 0 a,ByteArray.extract v a v.size,hx,by omega,?_,by rw [hz,← e]⟩
       have:=congrArg ByteArray.size e
       rw [aN] at this
       omega
   · by_cases c:1≤u.size
     · exact .inr (.inr (.inl ⟨x,u,hx,rfl,c,h⟩))
     · exact .inr (.inl (by rw [mD];omega))
 · exact .inr (.inl (by omega))
theorem ug {k:Nat} (hk:2 ^ 50≤k) {s:ByteArray} (hs:s.size≤1099511627776) (h:s.size<5∨(∃ x u,x<4294967296∧s=eN x++u∧1≤u.size∧rv 7 (nb u)=none) ∨
 (∃ x a u,x<4294967296∧a<562949953421312∧s=eN x++(bB a++u)∧(200<a∨u.size<a))):eI.f k s=some (⟨#[]⟩,(0,())):=by
 unfold eI.f eI.t
 rcases h with h | ⟨x,u,hx,rfl,hu,h⟩ | ⟨x,a,u,hx,ha,rfl,h⟩
 · by_cases c:s.size<4
   · rw [aO (by omega),ac]
   · have e:ByteArray.extract s 4 s.size=⟨#[]⟩:=jV (by rw [gk,List.drop_eq_nil_of_le (by rw [cM];omega)];rfl)
     rw [aP (by omega),aK,cN (by omega) (by omega),e,mL hk rfl (by decide),ab]
     rfl
 · rw [mD] at hs
   rw [aP (by rw [mD];omega),aK,cN (by omega) (by rw [mD];omega),yR,mL hk h (by omega),ab]
   rfl
 · have v1:=ah a
   have z1:(eN x++(bB a++u)).size=4+((bB a).size+u.size):=by rw [mD,aN]
   rw [aP (by omega),aK,cN (by omega) (by omega),yR,mz hk ha (by omega),ab]
   simp only [vz,aK]
   by_cases c:200<a
   · rw [aO (by omega),ac]
   · rw [aP (by omega),aK,aD (n:=((eN x++(bB a++u)).size:Int)-4) (by omega) (by omega),aD (n:=((eN x++(bB a++u)).size:Int)-4-_) (by omega) (by omega),aO (by omega),ac]
theorem ut {k:Nat} (hk:2 ^ 50≤k) {s:ByteArray} (hs:s.size≤1099511627776) (h:s.size<5∨(∃ x u,x<4294967296∧s=eN x++u∧1≤u.size∧rv 7 (nb u)=none) ∨
 (∃ x a u,x<4294967296∧a<562949953421312∧s=eN x++(bB a++u)∧(200<a∨u.size<a))):dQ.f k s=some (⟨#[]⟩,(0,())):=by
 unfold dQ.f dQ.t
 rcases h with h | ⟨x,u,hx,rfl,hu,h⟩ | ⟨x,a,u,hx,ha,rfl,h⟩
 · rw [aO (by omega),ac]
 · rw [mD] at hs
   rw [aP (by rw [mD];omega),aK,cN (by omega) (by rw [mD];omega),yR,jM hk h,ab]
   rfl
 · have v1:=ah a
   have z1:(eN x++(bB a++u)).size=4+((bB a).size+u.size):=by rw [mD,aN]
   rw [aP (by omega),aK,cN (by omega) (by omega),yR,cO hk ha,ab]
   simp only [vz,aK]
   by_cases c:200<a
   · rw [aO (by omega),ac]
   · rw [aP (by omega),aK,aD (n:=((eN x++(bB a++u)).size:Int)-4) (by omega) (by omega),aD (n:=((eN x++(bB a++u)).size:Int)-4-_) (by omega) (by omega),aO (by omega),ac]
section
open Classical
noncomputable def fi (s:ByteArray):ByteArray × Int:=if h:∃ t r,t.size≤200∧s=aQ t++r then (h.choose,((aQ h.choose).size:Int)) else (⟨#[]⟩,0)
theorem mV {t:ByteArray} (r:ByteArray) (h:t.size≤200):fi (aQ t++r)=(t,((aQ t).size:Int)):=by
 have q:∃ u v,u.size≤200∧aQ t++r=aQ u++v:=⟨t,r,h,rfl⟩
 unfold fi
 rw [dif_pos q]
 obtain ⟨v,h1,h2⟩:=q.choose_spec
 have:=(G8 h h1 h2).1
 rw [← this]
theorem mZ (s:ByteArray):(∃ t r,t.size≤200∧s=aQ t++r∧fi s=(t,((aQ t).size:Int)))∨(fi s=(⟨#[]⟩,0)∧∀ t r,t.size≤200→s≠aQ t++r):=by
 by_cases q:∃ t r,t.size≤200∧s=aQ t++r
 · obtain ⟨t,r,h,rfl⟩:=q
   exact .inl ⟨t,r,h,rfl,mV r h⟩
 · right
   refine ⟨?_,fun t r h e=>q ⟨t,r,h,e⟩⟩
   unfold fi
   rw [dif_neg q]
end
theorem J0 {k:Nat} {f:ByteArray→Option (ByteArray × Int × Unit)} (h1:∀ x t r,x<4294967296→t.size≤200→t.size+r.size≤1099511627776→f (eN x++(bB t.size++(t++r)))=bif !seq (aQ t) (eN x++(bB t.size++t)) then some (⟨#[]⟩,(0,())) else some (t,(((4+(bB t.size).size+t.size:Nat):Int),())))
 (h2:∀ s,s.size≤1099511627776→(s.size<5∨(∃ x u,x<4294967296∧s=eN x++u∧1≤u.size∧rv 7 (nb u)=none)∨(∃ x a u,x<4294967296∧a<562949953421312∧s=eN x++(bB a++u)∧(200<a∨u.size<a)))→f s=some (⟨#[]⟩,(0,())))
 {s:ByteArray} (hs:s.size≤1099511627776):f s=some ((fi s).1,((fi s).2,())):=by
 rcases H7 s hs with ⟨x,t,r,hx,ht,hr,rfl⟩ | h
 · rw [h1 x t r hx ht hr]
   by_cases c:aQ t=eN x++(bB t.size++t)
   · have e:eN x++(bB t.size++(t++r))=aQ t++r:=by rw [c,ai,ai]
     rw [IZ c,e,mV r ht,c,mD,aN,Nat.add_assoc]
     rfl
   · rw [kK c]
     rcases mZ (eN x++(bB t.size++(t++r))) with ⟨t',r',ht',e,_⟩ | ⟨e,_⟩
     · exfalso
       obtain ⟨y,hy,f'⟩:=oz ht'
       rw [f',ai,ai] at e
       have h3:=qP e rfl
       obtain ⟨h4,h5⟩:=vf (by omega) (by omega) h3.2
       have h6:=qP h5 h4
       apply c
       rw [h6.1,f',h3.1]
     · rw [e];rfl
 · rw [h2 s hs h]
   rcases mZ s with ⟨t',r',ht',e,_⟩ | ⟨e,_⟩
   · exfalso
     obtain ⟨y,hy,f'⟩:=oz ht'
     have hp:=jw ht'
     rw [f',ai,ai] at e
     rcases h with h | ⟨x,u,hx,e2,hu,h⟩ | ⟨x,a,u,hx,ha,e2,h⟩
     · rw [e,mD,aN] at h
       have:=ah t'.size
       omega
     · rw [e2] at e
       rw [(qP e rfl).2,pm (by omega)] at h
       cases h
     · rw [e2] at e
       obtain ⟨h4,h5⟩:=vf ha (by omega) (qP e rfl).2
       rw [h5,h4,aN] at h
       omega
   · rw [e]
theorem qJ {k:Nat} (hk:2 ^ 50≤k) {s:ByteArray} (hs:s.size≤1099511627776):eI.f k s=some ((fi s).1,((fi s).2,())) :=
 J0 (k:=k) (fun x t r _ ht hr=>wu hk ht hr) (fun s hs h=>ug hk hs h) hs
theorem lD {k:Nat} (hk:2 ^ 50≤k) {s:ByteArray} (hs:s.size≤1099511627776):dQ.f k s=some ((fi s).1,((fi s).2,())) :=
 J0 (k:=k) (fun x t r _ ht hr=>xC hk ht hr) (fun s hs h=>ut hk hs h) hs
theorem lY (s:ByteArray):(fi s).1.size≤200∧((fi s).2=0∨5≤(fi s).2)∧(fi s).2≤s.size∧(fi s).2≤211:=by
 rcases mZ s with ⟨t,r,h,rfl,e⟩ | ⟨e,_⟩
 · rw [e,aN]
   have:=jw h
   have:=ki t
   refine ⟨h,?_,?_,?_⟩ <;> simp only [] <;> omega
 · rw [e]
   refine ⟨by simp only [e0];omega,.inl rfl,by simp only [];omega,by simp only [];omega⟩
theorem vC:fi ⟨#[]⟩=(⟨#[]⟩,0):=by
 rcases mZ ⟨#[]⟩ with ⟨t,r,h,e,_⟩ | ⟨e,_⟩
 · have:=congrArg ByteArray.size e
   rw [aN,e0] at this
   have:=jw h
   omega
 · exact e
noncomputable def fS (s:ByteArray):Nat→Int→List (Ty.d c_) × Int
 | 0,at_=>([],at_)
 | d+1,at_ =>
  if (fi (ByteArray.extract s at_.toNat s.size)).2=0 then ([],at_)
  else if (gB (fi (ByteArray.extract s at_.toNat s.size)).1).2=false then ([],at_)
  else (((at_,((fi (ByteArray.extract s at_.toNat s.size)).2,((gB (fi (ByteArray.extract s at_.toNat s.size)).1).1,()))):Ty.d c_)::(fS s d (at_+(fi (ByteArray.extract s at_.toNat s.size)).2)).1,
   (fS s d (at_+(fi (ByteArray.extract s at_.toNat s.size)).2)).2)
noncomputable def az (s:ByteArray):List (Ty.d c_) × Int:=fS s (s.size+1) 0
theorem oG (s:ByteArray) (n:Nat):(ByteArray.extract s n s.size).size=s.size-n:=by rw [← cM,gk,List.length_drop,cM]
theorem J5 {k:Nat} (hk:2 ^ 50≤k) {s:ByteArray} (hs:s.size≤1099511627776):∀ (d n:Nat) (i:Int) (out:List (Ty.d c_)),0≤i→i≤s.size→(s.size:Int)-i<d→d≤n→(out.length:Int)≤i →
 dM.l0 k n s i out=some (out++(fS s d i).1,((fS s d i).2,()))∧bS.l0 k n s i out=some (out++(fS s d i).1,((fS s d i).2,())):=by
 intro d
 induction d with
 | zero=>intro n i out h0 h1 h2;omega
 | succ d ih =>
  intro n i out h0 h1 h2 h3 h4
  obtain ⟨n,rfl⟩:∃ q,n=q+1:=⟨n-1,by omega⟩
  have hz:=oG s i.toNat
  have hu:=lY (ByteArray.extract s i.toNat s.size)
  have e1:=qJ hk (s:=ByteArray.extract s i.toNat s.size) (by omega)
  have e2:=lD hk (s:=ByteArray.extract s i.toNat s.size) (by omega)
  have hnil:i=s.size→(fi (ByteArray.extract s i.toNat s.size)).2=0:=fun q=>by
   have:ByteArray.extract s i.toNat s.size=⟨#[]⟩:=jV (by rw [gk,List.drop_eq_nil_of_le (by rw [cM];omega)];rfl)
   rw [this,vC]
  simp only [fS]
  generalize fi (ByteArray.extract s i.toNat s.size)=u at *
  have e3:=pa hk (s:=u.1) (by omega)
  have e4:=pb hk (s:=u.1) (by omega)
  generalize gB u.1=r at *
  by_cases c:u.2=0
  · rw [if_pos c]
    have cb:(u.2==0)=true:=by rw [c];rfl
    simp only [List.append_nil]
    constructor
    · simp (disch:=omega) only [dM.l0,dM.b0,cN,e1,e3,ab,cb,ac]
    · by_cases q:i<s.size
      · simp (disch:=omega) only [bS.l0,bS.b0,aO,cN,e2,e4,ab,cb,ac]
      · simp (disch:=omega) only [bS.l0,bS.b0,aP,aK]
  · rw [if_neg c]
    have cb:(u.2==0)=false:=mF c
    have hlt:i<s.size:=by
     rcases Int.lt_or_eq_of_le h1 with q | q
     · exact q
     · exact absurd (hnil q) c
    cases hr:r.2 with
    | false =>
     simp only [if_true,List.append_nil]
     constructor
     · simp (disch:=omega) only [dM.l0,dM.b0,cN,e1,e3,ab,cb,ac,aK,hr,tn]
     · simp (disch:=omega) only [bS.l0,bS.b0,aO,cN,e2,e4,ab,cb,ac,aK,hr,tn]
    | true =>
     rw [if_neg (by decide)]
     have hlen:out.length+1≤1099511627777:=by omega
     have ih:=ih n (i+u.2) (out++[(i,(u.2,(r.1,())))]) (by omega) (by omega) (by omega) (by omega) (by rw [u7];show ((out.length+1:Nat):Int)≤_;omega)
     simp only [nn,List.cons_append,List.nil_append] at ih
     constructor
     · simp (disch:=first | omega | decide) only [dM.l0,dM.b0,cN,e1,e3,ab,cb,ac,aK,hr,fh,cD,aD]
       exact ih.1
     · simp (disch:=first | omega | decide) only [bS.l0,bS.b0,aO,cN,e2,e4,ab,cb,ac,aK,hr,fh,cD,aD]
       exact ih.2
theorem uS {k:Nat} (hk:2 ^ 50≤k) {s:ByteArray} (hs:s.size≤1099511627775):dM.f k s=some ((az s).1,((az s).2,())) :=
 (J5 hk (by omega) (s.size+1) k 0 [] (by omega) (by omega) (by omega) (by omega) (by simp)).1
theorem mE {k:Nat} (hk:2 ^ 50≤k) {s:ByteArray} (hs:s.size≤1099511627775):bS.f k s=some ((az s).1,((az s).2,())) :=
 (J5 hk (by omega) (s.size+1) k 0 [] (by omega) (by omega) (by omega) (by omega) (by simp)).2
theorem tU (s:ByteArray):∀ (d:Nat) (i:Int),0≤i→i≤s.size→((fS s d i).1.length:Int)≤s.size-i∧i≤(fS s d i).2∧(fS s d i).2≤s.size
 | 0,i,h0,h1=>by simp only [fS,List.length_nil];omega
 | d+1,i,h0,h1=>by
  have hu:=lY (ByteArray.extract s i.toNat s.size)
  have hz:=oG s i.toNat
  rw [fS]
  split
  · simp only [List.length_nil];omega
  · split
    · simp only [List.length_nil];omega
    · rename_i c1 c2
      have ih:=tU s d (i+(fi (ByteArray.extract s i.toNat s.size)).2) (by omega) (by omega)
      simp only [kJ]
      omega
theorem j3 (s:ByteArray):(az s).1.length≤s.size∧0≤(az s).2∧(az s).2≤s.size:=by
 have:=tU s (s.size+1) 0 (by omega) (by omega)
 unfold az
 omega
theorem Hm (d:Nat) {a:Nat} (h:a<128):(vl d a).length=1:=by
 cases d with
 | zero=>rfl
 | succ d=>unfold vl;rw [if_neg (by omega)];rfl
theorem It {a:Nat} (h:a<2097152):(vl 6 a).length≤3:=by
 unfold vl
 split
 · rw [kJ]
   unfold vl
   split
   · rw [kJ,Hm 4 (by omega)]
     omega
   · simp
 · simp
theorem rq {a:Int} (h0:0≤a) (h1:a≤100000):(gh a).size≤3:=by
 obtain ⟨n,rfl⟩:=Int.eq_ofNat_of_zero_le h0
 rw [dY (by omega),← qC (by omega)]
 exact It (by omega)
def fY:List Int→ByteArray
 | []=>⟨#[]⟩
 | x::l=>gh x++fY l
theorem uU:∀ (l:List Int),(∀ x ∈ l,0≤x∧x≤100000)→(fY l).size≤3*l.length
 | [],_=>Nat.le_refl _
 | x::l,h=>by
  have h1:=rq (h x (jd ..)).1 (h x (jd ..)).2
  have h2:=uU l fun y hy=>h y (lK _ hy)
  rw [fY,aN,kJ]
  omega
theorem wN:∀ (l:List Int),(fY l).size≤7*l.length
 | []=>Nat.le_refl _
 | x::l=>by
  have h1:=bG x
  have h2:=wN l
  rw [fY,aN,kJ]
  omega
def oL (v:Ty.d cY):ByteArray:=gh v.1++(gh (v.2.1.length:Int)++fY v.2.1)
def cE (v:Ty.d cY):ByteArray:=if cS v=true then aQ (oL v) else ⟨#[]⟩
theorem bQ {nx:Int} {ids:List Int} (h:cS (nx,(ids,()))=true):1≤nx∧nx≤100000∧1≤ids.length∧ids.length≤60∧∀ x ∈ ids,0≤x∧x≤100000:=by
 unfold cS at h
 simp only [gN,decide_eq_true_eq] at h
 obtain ⟨h1,h2,h3⟩:=h
 have h1a:1≤nx:=h1.1
 have h1b:nx≤100000:=h1.2
 refine ⟨h1a,h1b,by omega,by omega,fun x hx=>?_⟩
 obtain ⟨p,hp⟩:=AA h3 hx
 unfold m7 at hp
 rw [gN,decide_eq_true_eq] at hp
 have hw:aJ (nx-1)=nx-1:=aD (by omega) (by omega)
 have h4:x≤aJ (nx-1):=hp.1.2
 have h5:1≤x:=hp.1.1
 omega
theorem DC {nx:Int} {ids:List Int} (h:cS (nx,(ids,()))=true):(oL (nx,(ids,()))).size≤200:=by
 obtain ⟨h1,h2,h3,h4,h5⟩:=bQ h
 have a:=rq (a:=nx) (by omega) h2
 have b:=rq (a:=(ids.length:Int)) (by omega) (by omega)
 have c:=uU ids h5
 unfold oL
 rw [aN,aN]
 simp only []
 omega
theorem kR {k:Nat} (hk:2 ^ 50≤k) (v:Ty.d cY):d7.f k v=some (cE v,()):=by
 unfold d7.f d7.t cE
 rw [pk hk,ab]
 cases c:cS v with
 | false=>rfl
 | true =>
  obtain ⟨h1,h2,h3,h4,h5⟩:=bQ (nx:=v.1) (ids:=v.2.1) c
  have a:=bG v.1
  have b:=bG (v.2.1.length:Int)
  rw [fh,aK,gH hk,ab,gH hk,ab,if_pos rfl]
  simp only []
  rw [e9 (by omega)]
  refine (e_ (L:=fun n i s=>d7.l0 k n s i v.1 v.2.1) (R:=fun r s=>some (aQ (s++fY r),())) (Ty.z (.int .i64)) v.2.1 (fun i s=>(s.size:Int)≤14+7*i) (fun n s hs=>?_) (fun n i s x rest g0 g1 hx hr hs ih=>?_) (n:=k) (by omega) (by rw [aN];omega)).trans (by rw [ai];rfl)
  · simp (disch:=omega) only [d7.l0,d7.b0,aP,aK,kr hk,ab]
    rw [show fY []=⟨#[]⟩ from rfl,jI]
  · have hv:=bG x
    have ih:=ih (s++gh x) (by rw [aN];omega)
    simp (disch:=omega) only [d7.l0,d7.b0,aO g1,ac,aH,hx,gH hk,ab,e9,aD,ih]
    rw [ai]
    rfl
noncomputable def fM (s:ByteArray):Ty.d cY × Bool:=nq (fun v=>cS v=true) cE (0,([],())) s
theorem zL (s:ByteArray):0≤(Cv (rv 7 (nb s))).2.1∧(Cv (rv 7 (nb s))).2.1≤(s.size:Int):=by
 cases h:rv 7 (nb s) with
 | none=>exact ⟨Int.le_refl _,by show (0:Int)≤_;omega⟩
 | some p =>
  obtain ⟨a,n⟩:=p
  obtain ⟨h1,h2,h3,h4,h5,h6⟩:=ox 6 (nb s) a n (ro s) h
  rw [cM] at h4
  exact ⟨by show (0:Int)≤(n:Int);omega,by show (n:Int)≤_;omega⟩
def LB:Option (Ty.d cY × Bool × Unit):=some ((0,([],())),(false,()))
theorem AD {k:Nat} (hk:2 ^ 50≤k) {s t:ByteArray} (ht:t.size≤200) (c nx:Int):∀ (d n:Nat) (pos j:Int) (out:List Int),60-j=d→d<n→0≤pos→pos≤t.size→0≤j→(out.length:Int)≤j →
 ∃ o,bJ.l0 k n s t c pos j [] 0 out nx=bif !seq (cE (nx,(o,()))) s then LB else some ((nx,(o,())),(true,())):=by
 intro d
 induction d with
 | zero =>
  intro n pos j out hj hn h0 h1 h2 h3
  obtain ⟨n,rfl⟩:∃ q,n=q+1:=⟨n-1,by omega⟩
  refine ⟨out,?_⟩
  simp only [bJ.l0,bJ.b0]
  rw [aP (show ¬ j<60 by omega),aK,kR hk,ab]
  cases decide (j<c) <;> cases seq (cE (nx,(out,()))) s <;> rfl
 | succ d ih =>
  intro n pos j out hj hn h0 h1 h2 h3
  obtain ⟨n,rfl⟩:∃ q,n=q+1:=⟨n-1,by omega⟩
  by_cases c1:j<c
  · have hr:=zL (ByteArray.extract t pos.toNat t.size)
    have he:(ByteArray.extract t pos.toNat t.size).size=t.size-pos.toNat:=by rw [← cM,gk,List.length_drop,cM]
    rw [he] at hr
    obtain ⟨o,ho⟩:=ih n (pos+(Cv (rv 7 (nb (ByteArray.extract t pos.toNat t.size)))).2.1) (j+1) (out++[(Cv (rv 7 (nb (ByteArray.extract t pos.toNat t.size)))).1]) (by omega) (by omega) (by omega) (by omega) (by omega) (by rw [br];omega)
    refine ⟨o,?_⟩
    simp only [bJ.l0,bJ.b0]
    rw [aO c1,aO (show j<60 by omega),ac,ac,cN h0 h1,fR hk,ab,cD (by omega) (by decide),aD (n:=pos+_) (by omega) (by omega),aD (n:=j+1) (by omega) (by omega)]
    exact ho
  · refine ⟨out,?_⟩
    simp only [bJ.l0,bJ.b0]
    rw [aP c1,aK,kR hk,ab]
    cases seq (cE (nx,(out,()))) s <;> rfl
theorem xX {x:Int} (h0:0≤x) (h1:x≤100000):∃ n:Nat,n<562949953421312∧x=(n:Int)∧gh x=bB n:=by
 obtain ⟨n,rfl⟩:=Int.eq_ofNat_of_zero_le h0
 exact ⟨n,by omega,rfl,dY (by omega)⟩
theorem BW {k:Nat} (hk:2 ^ 50≤k) {s:ByteArray} (nx:Int):∀ (ids:List Int) (pre:ByteArray) (n:Nat) (j c:Int) (out:List Int),(∀ x ∈ ids,0≤x∧x≤100000)→ids.length<n→0≤j→c=j+ids.length→c≤60→pre.size+7*ids.length≤1000→(out.length:Int)≤j →
 bJ.l0 k n s (pre++fY ids) c (pre.size:Int) j [] 0 out nx=bif !seq (cE (nx,(out++ids,()))) s then LB else some ((nx,(out++ids,())),(true,())):=by
 intro ids
 induction ids with
 | nil =>
  intro pre n j c out h hn h0 hc h1 hp ho
  obtain ⟨n,rfl⟩:∃ q,n=q+1:=⟨n-1,by omega⟩
  rw [List.length_nil] at hc
  simp only [bJ.l0,bJ.b0]
  rw [aP (show ¬ j<c by omega),aK,kR hk,ab,List.append_nil]
  cases seq (cE (nx,(out,()))) s <;> rfl
 | cons x ids ih =>
  intro pre n j c out h hn h0 hc h1 hp ho
  rw [kJ] at hn hc
  obtain ⟨n,rfl⟩:∃ q,n=q+1:=⟨n-1,by omega⟩
  obtain ⟨a,ha,hx,hv⟩:=xX (h x (jd ..)).1 (h x (jd ..)).2
  have hvs:=ah a
  have hts:=wN (x::ids)
  rw [kJ] at hts
  have ih:=ih (pre++bB a) n (j+1) c (out++[x]) (fun y hy=>h y (lK _ hy)) (by omega) (by omega) (by omega) h1 ?_ (by rw [br];omega)
  · have he:ByteArray.extract (pre++fY (x::ids)) pre.size (pre++fY (x::ids)).size=bB a++fY ids:=by rw [dj,fY,hv]
    simp only [bJ.l0,bJ.b0]
    rw [aO (show j<c by omega),aO (show j<60 by omega),ac,ac,cN (by omega) (by rw [aN];omega),Int.toNat_natCast,he,fR hk,ab,pm ha]
    simp only [Cv]
    rw [cD (by omega) (by decide),aD (by omega) (by omega),aD (by omega) (by omega),← hx,show (pre.size:Int)+((bB a).size:Int)=((pre++bB a).size:Int) by rw [aN];omega]
    rw [show pre++fY (x::ids)=pre++bB a++fY ids by rw [fY,hv,ai],ih,nn]
    rfl
  · rw [aN]
    rw [kJ] at hp
    omega
theorem vt {k:Nat} (hk:2 ^ 50≤k) {nx:Int} {ids:List Int} (h:cS (nx,(ids,()))=true):bJ.f k (cE (nx,(ids,())))=some ((nx,(ids,())),(true,())):=by
 obtain ⟨g1,g2,g3,g4,g5⟩:=bQ h
 have hz:=DC h
 have hf:=jw hz
 have hfs:=ki (oL (nx,(ids,())))
 have hu:=mV ⟨#[]⟩ hz
 rw [jI] at hu
 have e:cE (nx,(ids,()))=aQ (oL (nx,(ids,()))):=if_pos h
 obtain ⟨a,ha,hx,hv⟩:=xX (x:=nx) (by omega) g2
 obtain ⟨b,hb,hy,hw⟩:=xX (x:=(ids.length:Int)) (by omega) (by omega)
 have ht:oL (nx,(ids,()))=bB a++bB b++fY ids:=by
  unfold oL
  rw [ai,← hv,← hw]
 have hva:=ah a
 have hvb:=ah b
 have hl:=BW hk (s:=cE (nx,(ids,()))) nx ids (bB a++bB b) k 0 (b:Int) [] g5 (by omega) (by omega) (by omega) (by omega) (by rw [aN];omega) (by simp)
 rw [← ht,List.nil_append,bX] at hl
 unfold bJ.f bJ.t
 rw [lD hk (by rw [e];omega),ab]
 have hu1:fi (cE (nx,(ids,())))=(oL (nx,(ids,())),((cE (nx,(ids,()))).size:Int)):=by rw [e];exact hu
 have r1:rv 7 (nb (oL (nx,(ids,()))))=some (a,(bB a).size):=by rw [ht,ai];exact pm ha _
 have r2:rv 7 (nb (ByteArray.extract (oL (nx,(ids,()))) (bB a).size (oL (nx,(ids,()))).size))=some (b,(bB b).size):=by rw [ht,ai,dj];exact pm hb _
 have hsz:(oL (nx,(ids,()))).size=(bB a).size+(bB b).size+(fY ids).size:=by rw [ht,aN,aN]
 rw [hu1]
 simp only []
 rw [fR hk,ab,r1]
 simp only [Cv]
 rw [show (((cE (nx,(ids,()))).size:Int) != ((cE (nx,(ids,()))).size:Int))=false by simp,aK,
  show (((cE (nx,(ids,()))).size:Int)==0)=false from mF (by rw [e];omega),aK,show (((bB a).size:Int)==0)=false from mF (by omega),aK,
  cN (by omega) (by omega),Int.toNat_natCast,fR hk,ab,r2]
 simp only [Cv]
 rw [aD (by omega) (by omega),show ((bB a).size:Int)+((bB b).size:Int)=((bB a++bB b).size:Int) by rw [aN];omega,← hx]
 exact hl
theorem ud {k:Nat} (hk:2 ^ 50≤k) {s:ByteArray} (hs:s.size≤1099511627776):bJ.f k s=some ((fM s).1,((fM s).2,())):=by
 refine qj (fun v h1 h2=>?_) ?_
 · subst h2
   exact vt hk (nx:=v.1) (ids:=v.2.1) h1
 · unfold bJ.f bJ.t
   rw [lD hk hs,ab]
   have hu:=lY s
   generalize fi s=u at hu
   obtain ⟨t,m⟩:=u
   simp only [] at hu ⊢
   rw [fR hk,ab]
   have h1:=zL t
   generalize Cv (rv 7 (nb t))=q at h1
   obtain ⟨nx,p,_⟩:=q
   simp only [] at h1 ⊢
   by_cases c1:m=(s.size:Int)
   case neg=>rw [show (m != (s.size:Int))=true from bne_iff_ne.2 c1];exact .inr rfl
   rw [show (m != (s.size:Int))=false by rw [c1];simp,aK]
   by_cases c2:m=0
   case pos=>rw [show (m==0)=true from beq_iff_eq.2 c2];exact .inr rfl
   rw [show (m==0)=false from mF c2,aK]
   by_cases c3:p=0
   case pos=>rw [show (p==0)=true from beq_iff_eq.2 c3];exact .inr rfl
   rw [show (p==0)=false from mF c3,aK,cN h1.1 h1.2,fR hk,ab]
   have h2:=zL (ByteArray.extract t p.toNat t.size)
   have he:(ByteArray.extract t p.toNat t.size).size=t.size-p.toNat:=by rw [← cM,gk,List.length_drop,cM]
   rw [he] at h2
   rw [aD (by omega) (by omega)]
   obtain ⟨o,ho⟩:=AD hk (s:=s) hu.1 (Cv (rv 7 (nb (ByteArray.extract t p.toNat t.size)))).1 nx 60 k (p+(Cv (rv 7 (nb (ByteArray.extract t p.toNat t.size)))).2.1) 0 [] (by omega) (by omega) (by omega) (by omega) (by omega) (by simp)
   rw [ho]
   cases c4:seq (cE (nx,(o,()))) s with
   | false=>exact .inr rfl
   | true =>
    refine .inl ⟨(nx,(o,())),?_,dr.1 c4,rfl⟩
    cases c5:cS (nx,(o,())) with
    | true=>rfl
    | false =>
     have:=dr.1 c4
     unfold cE at this
     rw [c5,if_neg (by decide)] at this
     rw [← this] at c1
     exact absurd c1 c2
end Go.Proofs.YtnpijgnfpdcjbaaGreatDoor.G
namespace Go.V
def KM (n:Int):Prop := -999999999≤n∧n≤999999999
def dg:List Nat→Nat→Nat→Nat × Nat
 | [],a,c=>(a,c)
 | b::l,a,c=>if 48≤b∧b≤57 then dg l (a*10+(b-48)) (c+1) else dg l a c
theorem tS:∀ (l:List Nat) (a c:Nat),(∀ b ∈ l,48≤b∧b≤57)→dg l a c=(qB l a,c+l.length)
 | [],a,c,_=>rfl
 | b::l,a,c,h=>by
  rw [dg,if_pos (h b (jd ..)),tS l _ _ fun x hx=>h x (lK _ hx),qB,kJ]
  congr 1
  omega
theorem w6:∀ (l:List Nat) (a c:Nat),a+1≤10 ^ c→(dg l a c).1+1≤10 ^ (dg l a c).2
 | [],a,c,h=>h
 | b::l,a,c,h=>by
  unfold dg
  split
  · rename_i q
    exact w6 l _ _ (by rw [Nat.pow_succ];omega)
  · exact w6 l _ _ h
theorem Af (u:Nat):∀ b ∈ (Lib.decDigits u).map UInt8.toNat,48≤b∧b≤57:=by
 intro b hb
 obtain ⟨x,hx,rfl⟩:=List.mem_map.1 hb
 exact mJ u x hx
def JG (s:ByteArray) (a:Nat):Int:=bif decide ((s.size:Int) > 0)&&(dc s 0==45) then -(a:Int) else (a:Int)
theorem J8 {s:ByteArray} (h:0<s.size):dc s 0=(((nb s).getD 0 0:Nat):Int):=wa (i:=0) h
theorem Ii {n:Int}:JG (gQ n) n.natAbs=n:=by
 have hb:=oZ n
 have hl:=cM (gQ n)
 unfold JG
 by_cases c:n<0
 · rw [if_pos c] at hb
   rw [hb,kJ] at hl
   rw [aO (by omega),J8 (by omega),hb]
   show (bif true&&(((45:Nat):Int)==45) then _ else _)=n
   show -((n.natAbs:Nat):Int)=n
   omega
 · rw [if_neg c] at hb
   have:(dc (gQ n) 0==45)=false:=by
    cases q:Lib.decDigits n.toNat with
    | nil=>exact absurd q (sB _)
    | cons x r =>
     have hx:=mJ n.toNat x (by rw [q];exact jd ..)
     rw [q,List.map_cons] at hb
     rw [hb,kJ] at hl
     rw [J8 (by omega),hb]
     refine mF ?_
     show ((x.toNat:Nat):Int)≠45
     omega
   rw [this,Bool.and_false,aK]
   omega
theorem IY {n:Int} (h:KM n):(gQ n).size≤10:=Fo (by have:=h.1;omega) (by have:=h.2;omega)
theorem Jb {n:Int} (h:KM n):∃ c,dg (nb (gQ n)) 0 0=(n.natAbs,c)∧c≤9:=by
 obtain ⟨h0,h1⟩:=h
 rw [oZ]
 by_cases c:n<0
 · rw [if_pos c]
   refine ⟨(Lib.decDigits n.natAbs).length,?_,hF 8 _ (by rw [show (10:Nat) ^ (8+1)=1000000000 by decide];omega)⟩
   rw [dg,if_neg (by omega),tS _ _ _ (Af _),qQ,List.length_map,Nat.zero_add]
 · rw [if_neg c]
   refine ⟨(Lib.decDigits n.toNat).length,?_,hF 8 _ (by rw [show (10:Nat) ^ (8+1)=1000000000 by decide];omega)⟩
   rw [tS _ _ _ (Af _),qQ,List.length_map,Nat.zero_add,show n.toNat=n.natAbs by omega]
theorem Bf {c:Nat} (h:c≤11):10 ^ c≤100000000000:=Nat.le_trans (Nat.pow_le_pow_right (by decide) h) (by decide)
theorem I0 {c:Nat} (h:c≤9):10 ^ c≤1000000000:=Nat.le_trans (Nat.pow_le_pow_right (by decide) h) (by decide)
end Go.V
namespace Go.Proofs.YtnpijgnfpdcjbaaGreatDoor.G
open Go.V
noncomputable def j9 (s:ByteArray):Int × Bool:=nq KM gQ 0 s
def FW (s:ByteArray) (q:Nat × Nat):Option (Int × Bool × Unit) :=
 bif decide ((q.2:Int) > 9)||(decide ((s.size:Int) > 10)||!seq (gQ (JG s q.1)) s) then some (0,(false,())) else some (JG s q.1,(true,()))
theorem KD {k:Nat} (hk:2 ^ 50≤k) (s:ByteArray) {q:Nat × Nat} (hq:q.1≤1000000000000) :
 (bif (decide ((ByteArray.size s:Int) > 0)) then (bF 0 (ByteArray.size s:Int) (bif ((dc s 0)==45) then (bif (decide ((q.2:Int) > 9)) then (some (0,(false,()))) else (bif (decide ((ByteArray.size s:Int) > 10)) then (some (0,(false,()))) else (Option.bind (dU.f k (aJ (0-(q.1:Int)))) fun r1=>(bif (!(seq r1.1 s)) then (some (0,(false,()))) else (some ((aJ (0-(q.1:Int))),(true,()))))))) else
  (bif (decide ((q.2:Int) > 9)) then (some (0,(false,()))) else (bif (decide ((ByteArray.size s:Int) > 10)) then (some (0,(false,()))) else (Option.bind (dU.f k (q.1:Int)) fun r2=>(bif (!(seq r2.1 s)) then (some (0,(false,()))) else (some ((q.1:Int),(true,())))))))))
 else (bif (decide ((q.2:Int) > 9)) then (some (0,(false,()))) else (bif (decide ((ByteArray.size s:Int) > 10)) then (some (0,(false,()))) else (Option.bind (dU.f k (q.1:Int)) fun r3=>(bif (!(seq r3.1 s)) then (some (0,(false,()))) else (some ((q.1:Int),(true,()))))))))=FW s q:=by
 have hn:aJ (0-(q.1:Int)) = -(q.1:Int):=by rw [aD (by omega) (by omega)];omega
 rw [hn,oc hk (n:=(q.1:Int)) (by omega) (by omega),oc hk (n := -(q.1:Int)) (by omega) (by omega)]
 simp only [ab]
 unfold FW JG
 by_cases c0:(s.size:Int) > 0
 · rw [aO c0,ac,aH (by omega) (by omega),Bool.true_and]
   cases dc s 0==45 <;> cases decide ((q.2:Int) > 9) <;> cases decide ((s.size:Int) > 10)
   all_goals simp only [ac,aK,Bool.true_or,Bool.false_or]
   all_goals first | rfl | (cases seq (gQ (q.1:Int)) s <;> rfl) | (cases seq (gQ (-(q.1:Int))) s <;> rfl)
 · rw [aP c0,aK,Bool.false_and,aK]
   cases decide ((q.2:Int) > 9) <;> cases decide ((s.size:Int) > 10)
   all_goals simp only [ac,aK,Bool.true_or,Bool.false_or]
   all_goals first | rfl | (cases seq (gQ (q.1:Int)) s <;> rfl)
theorem uc {k:Nat} (hk:2 ^ 50≤k) {s:ByteArray} (hs:s.size≤1099511627776):eC.f k s=FW s (dg ((nb s).take 11) 0 0):=by
 unfold eC.f eC.t
 have hn:=cM s
 have hl:((nb s).take 11).length=min 11 s.size:=by rw [List.length_take,hn]
 refine e_ (L:=fun n i (q:Nat × Nat)=>eC.l0 k n s (q.1:Int) (q.2:Int) i) (R:=fun r q=>FW s (dg r q.1 q.2)) 0 ((nb s).take 11) (fun i q=>q.1+1≤10 ^ q.2∧(q.2:Int)≤i) (fun n q hq=>?_) (fun n i q x rest h0 h1 hx hr hq ih=>?_) (n:=k) (s:=(0,0)) (by omega) ⟨by decide,by decide⟩
 · obtain ⟨g1,g2⟩:=hq
   have hp:=Bf (c:=q.2) (by omega)
   rw [show dg [] q.1 q.2=q from rfl]
   refine Eq.trans ?_ (KD hk s (q:=q) (by omega))
   simp only [eC.l0,eC.b0]
   rcases Nat.lt_or_ge 11 s.size with c | c
   · rw [hl,Nat.min_eq_left (by omega),aO (show ((11:Nat):Int)<(s.size:Int) by omega),aP (show ¬ ((11:Nat):Int)<11 by omega)]
     rfl
   · rw [hl,Nat.min_eq_right c,aP (show ¬ (s.size:Int)<(s.size:Int) by omega)]
     rfl
 · obtain ⟨g1,g2⟩:=hq
   have hp:=Bf (c:=q.2) (by omega)
   rw [hl] at h1
   have hi:i<11:=by omega
   have hsz:i<(s.size:Int):=by omega
   have hx':(nb s).getD i.toNat 0=x:=by rw [← hx,mW (by omega)]
   have hb:=zF (s:=s) (x:=x) h0 (by rw [hn];exact hsz) hx'
   have hx256:x<256:=by rw [← hx'];exact ib s _
   simp only [eC.l0,eC.b0]
   rw [aO hsz,aO hi,ac,ac,aH h0 hsz,hb]
   have iN:=ih q ⟨g1,by omega⟩
   by_cases c1:48≤x
   · rw [aO (show (x:Int)≥48 by omega),ac]
     by_cases c2:x≤57
     · rw [aH h0 hsz,aO (show (x:Int)≤57 by omega),ac,aH h0 hsz]
       have iY:=ih (q.1*10+(x-48),q.2+1) ⟨by rw [Nat.pow_succ];omega,by simp only [];omega⟩
       rw [nZ (n:=(x:Int)-48) (by omega) (by omega),aD (n:=(x:Int)-48) (by omega) (by omega),aD (n:=(q.1:Int)*10) (by omega) (by omega),aD (by omega) (by omega),aD (n:=(q.2:Int)+1) (by omega) (by omega),aD (n:=i+1) (by omega) (by omega)]
       rw [show dg (x::rest) q.1 q.2=dg rest (q.1*10+(x-48)) (q.2+1) from if_pos ⟨c1,c2⟩]
       rw [show (q.1:Int)*10+((x:Int)-48)=((q.1*10+(x-48):Nat):Int) by omega,show (q.2:Int)+1=((q.2+1:Nat):Int) by omega]
       exact iY
     · rw [aH h0 hsz,aP (show ¬ (x:Int)≤57 by omega),aK,aD (n:=i+1) (by omega) (by omega),show dg (x::rest) q.1 q.2=dg rest q.1 q.2 from if_neg (fun h=>c2 h.2)]
       exact iN
   · rw [aP (show ¬ (x:Int)≥48 by omega),aK,aD (n:=i+1) (by omega) (by omega),show dg (x::rest) q.1 q.2=dg rest q.1 q.2 from if_neg (fun h=>c1 h.1)]
     exact iN
theorem xE {k:Nat} (hk:2 ^ 50≤k) {s:ByteArray} (hs:s.size≤1099511627776):eC.f k s=some ((j9 s).1,((j9 s).2,())):=by
 rw [uc hk hs]
 refine qj (fun n h1 h2=>?_) ?_
 · subst h2
   have hz:=IY h1
   obtain ⟨c,e,hc⟩:=Jb h1
   rw [List.take_of_length_le (by rw [cM];omega),e]
   unfold FW
   simp only []
   rw [aP (by omega),aP (by omega),Ii,bX]
   rfl
 · have hb:=w6 ((nb s).take 11) 0 0 (by decide)
   generalize dg ((nb s).take 11) 0 0=q at hb
   unfold FW
   by_cases c:q.2≤9
   · have hp:=I0 c
     cases e:(decide ((q.2:Int) > 9)||(decide ((s.size:Int) > 10)||!seq (gQ (JG s q.1)) s)) with
     | true=>exact .inr rfl
     | false =>
      simp only [Bool.or_eq_false_iff,Bool.not_eq_false'] at e
      refine .inl ⟨JG s q.1,?_,dr.1 e.2.2,rfl⟩
      unfold JG KM
      cases decide ((s.size:Int) > 0)&&(dc s 0==45)
      · rw [aK];omega
      · rw [ac];omega
   · rw [aO (show (q.2:Int) > 9 by omega)]
     exact .inr rfl
theorem Bh {n:Int} (h:KM n):j9 (gQ n)=(n,true):=EM (fun _ _ _ _ e=>vK e) h
def tH (s p:ByteArray):Bool:=decide (p.size≤s.size)&&seq (ByteArray.extract s 0 p.size) p
theorem Ht (s p:ByteArray):Go.Lib.hasPrefix s.data.toList p.data.toList=tH s p:=(Go.Lib.hasPrefix_raw s p).symm
theorem Dj {s p:ByteArray} (h:tH s p=true):p.size≤s.size:=by
 unfold tH at h
 rw [gN,decide_eq_true_eq] at h
 exact h.1
theorem DZ {s p:ByteArray} (h:tH s p=true):s=p++ByteArray.extract s p.size s.size:=by
 have hl:=Dj h
 unfold tH at h
 rw [gN] at h
 have e:=dr.1 h.2
 have:=vP s hl
 rw [e] at this
 exact this
def wK (l:List Int) (x:Int):Bool:=l.any fun y=>y==x
def dG:ByteArray:=⟨#[104,105,110,116]⟩
theorem iR {k:Nat} (hk:2 ^ 50≤k) (n:Int):cX.f k n=some (a_ dG n,()):=by
 unfold cX.f cX.t a_
 rw [fE,ab]
 by_cases c:(1:Int)≤n∧n≤100000
 · have hz:=md (n:=n) (by omega) (by omega)
   rw [aO c]
   simp only [fh,aK,ac]
   rw [oc hk (by omega) (by omega),ab,e9 (by show 4+(gQ n).size≤_;omega)]
   rfl
 · rw [aP c]
   rfl
def Hh (s:ByteArray) (n:Int):Prop:=1≤n∧n≤100000∧(s=aF++gQ n∨s=dG++gQ n)
theorem BI (a b:ByteArray):aF++a≠dG++b:=fun h=>by
 have:=congrArg nb h
 rw [gP,gP,show nb aF=[115,101,103] from rfl,show nb dG=[104,105,110,116] from rfl] at this
 simp at this
theorem De {s:ByteArray} {n m:Int} (h:Hh s n) (g:Hh s m):n=m:=by
 rcases h.2.2 with h1 | h1 <;> rcases g.2.2 with g1 | g1
 · exact vK (rX (h1.symm.trans g1))
 · exact absurd (h1.symm.trans g1) (BI _ _)
 · exact absurd (g1.symm.trans h1) (BI _ _)
 · exact vK (rX (h1.symm.trans g1))
theorem Ep {s:ByteArray} {n:Int} (hs:0<s.size) (h:(seq (a_ aF n) s||seq (a_ dG n) s)=true):Hh s n:=by
 unfold a_ at h
 by_cases c:(1:Int)≤n∧n≤100000
 · rw [aO c,Bool.or_eq_true] at h
   exact ⟨c.1,c.2,h.imp (fun q=>(dr.1 q).symm) (fun q=>(dr.1 q).symm)⟩
 · rw [aP c,Bool.or_eq_true] at h
   rcases h with q | q
   · rw [← dr.1 q] at hs;exact absurd hs (Nat.lt_irrefl 0)
   · rw [← dr.1 q] at hs;exact absurd hs (Nat.lt_irrefl 0)
theorem Fh {s:ByteArray} {n:Int} (h:Hh s n):(seq (a_ aF n) s||seq (a_ dG n) s)=true:=by
 obtain ⟨h0,h1,h2⟩:=h
 unfold a_
 rw [aO ⟨h0,h1⟩,Bool.or_eq_true]
 exact h2.imp (fun q=>dr.2 q.symm) (fun q=>dr.2 q.symm)
noncomputable def Dr (s:ByteArray):Int × Bool:=nq (Hh s) (fun _=>s) 0 s
theorem Az (n:Int):0<(gQ n).size:=by
 rw [← cM,oZ]
 split
 · rw [kJ];omega
 · rw [List.length_map]
   exact List.length_pos_iff.2 (sB _)
theorem FM (s:ByteArray) (n:Nat):(ByteArray.extract s n s.size).size=s.size-n:=by rw [← cM,gk,List.length_drop,cM]
noncomputable def vT (s:ByteArray) (i:Nat):Bool :=
 decide ((s.size:Int) > (i:Int))&&((j9 (ByteArray.extract s i s.size)).2&&(decide ((j9 (ByteArray.extract s i s.size)).1≥1)&&(seq (a_ aF (j9 (ByteArray.extract s i s.size)).1) s||seq (a_ dG (j9 (ByteArray.extract s i s.size)).1) s)))
theorem Db {k:Nat} (hk:2 ^ 50≤k) {s:ByteArray} (hs:s.size≤1099511627776) (m i:Nat) (hi:i≤4) :
 ga.l0 k (m+1) s (i:Int)=bif vT s i then some ((j9 (ByteArray.extract s i s.size)).1,(true,())) else ga.l0 k m s ((i+1:Nat):Int):=by
 have hz:=FM s i
 simp only [ga.l0,ga.b0]
 rw [aO (show (i:Int)≤4 by omega),ac,aD (by omega) (by omega),show (i:Int)+1=((i+1:Nat):Int) by omega]
 unfold vT
 by_cases c:(s.size:Int) > (i:Int)
 · rw [aO c,ac,cN (by omega) (by omega),Int.toNat_natCast,xE hk (by omega),ab]
   simp only [bU hk,iR hk,ab]
   generalize j9 (ByteArray.extract s i s.size)=r
   cases r.2 <;> cases decide (r.1≥1) <;> cases seq (a_ aF r.1) s <;> cases seq (a_ dG r.1) s <;> rfl
 · rw [aP c]
   rfl
theorem zO {s:ByteArray} {i:Nat} (h:vT s i=true):Hh s (j9 (ByteArray.extract s i s.size)).1:=by
 unfold vT at h
 simp only [gN,decide_eq_true_eq] at h
 exact Ep (by omega) h.2.2.2
theorem Hc {p:ByteArray} {n:Int} (h:Hh (p++gQ n) n):vT (p++gQ n) p.size=true∧(j9 (ByteArray.extract (p++gQ n) p.size (p++gQ n).size)).1=n:=by
 have hd:KM n:=⟨by have:=h.1;omega,by have:=h.2.1;omega⟩
 have hp:=Az n
 rw [show ByteArray.extract (p++gQ n) p.size (p++gQ n).size=gQ n from dj p (gQ n)]
 unfold vT
 rw [show ByteArray.extract (p++gQ n) p.size (p++gQ n).size=gQ n from dj p (gQ n),Bh hd]
 refine ⟨?_,rfl⟩
 simp only []
 rw [Fh h,aO (by rw [ByteArray.size_append];omega),aO h.1]
 rfl
theorem F7 {k:Nat} (hk:2 ^ 50≤k) {s:ByteArray} (hs:s.size≤1099511627776):ga.f k s=some ((Dr s).1,((Dr s).2,())):=by
 have e:ga.f k s=bif vT s 3 then some ((j9 (ByteArray.extract s 3 s.size)).1,(true,())) else bif vT s 4 then some ((j9 (ByteArray.extract s 4 s.size)).1,(true,())) else some (0,(false,())):=by
  unfold ga.f ga.t
  obtain ⟨m,hm⟩:∃ m,k=m+3:=⟨k-3,by omega⟩
  have h3:=Db hk hs (m+2) 3 (by omega)
  have h4:=Db hk hs (m+1) 4 (by omega)
  have h5:ga.l0 k (m+1) s ((5:Nat):Int)=some (0,(false,())):=rfl
  rw [← hm] at h3
  rw [show (3:Int)=((3:Nat):Int) from rfl,h3,h4,h5]
 rw [e]
 refine qj (fun n h1 _=>?_) ?_
 · rcases h1.2.2 with q | q
   · have:=Hc (p:=aF) (n:=n) (by rw [← q];exact h1)
     rw [← q,show aF.size=3 from rfl] at this
     rw [this.1,this.2]
     rfl
   · cases c:vT s 3 with
     | true=>rw [De h1 (zO c)];rfl
     | false =>
      have:=Hc (p:=dG) (n:=n) (by rw [← q];exact h1)
      rw [← q,show dG.size=4 from rfl] at this
      rw [this.1,this.2]
      rfl
 · cases c:vT s 3 with
   | true=>exact .inl ⟨_,zO c,rfl,rfl⟩
   | false =>
    cases c4:vT s 4 with
    | true=>exact .inl ⟨_,zO c4,rfl,rfl⟩
    | false=>exact .inr rfl
def iK:ByteArray:=⟨#[116,101,109,112]⟩
noncomputable def tP (ids:List Int) (f:Ty.d dJ):Bool:=((Dr f.1).2&&!wK ids (Dr f.1).1)||seq f.1 iK
noncomputable def pK (ids:List Int):bn→List ByteArray→List ByteArray
 | [],acc=>acc
 | f::l,acc=>pK ids l (bif tP ids f then acc++[f.1] else acc)
noncomputable def qy (d:Ty.d aA) (ids:List Int):List ByteArray:=bif gf d then pK ids d.1 [] else []
theorem Fs {d:Ty.d aA} (h:gf d=true):d.1.length≤130:=by
 unfold gf at h
 rw [gN,decide_eq_true_eq] at h
 exact h.1
theorem C9 {k:Nat} (hk:2 ^ 50≤k) {d:Ty.d aA} {v:Ty.d cY} (hu:dy d.1≤1099511627776) (hn:pE d.1≤1099511627776) (hv:v.2.1.length≤1099511627776):bO.f k d v=some (qy d v.2.1,()):=by
 unfold bO.f bO.t qy
 rw [j_ hk hu hn,ab]
 cases cd:gf d with
 | false=>rfl
 | true =>
  have hl:=Fs cd
  rw [fh,aK,ac]
  refine e_ (L:=fun n i s=>bO.l0 k n i d.1 d.2.1 d.2.2.1 d.2.2.2.1 v.1 v.2.1 s) (R:=fun r s=>some (pK v.2.1 r s,())) (Ty.z dJ) d.1 (fun i s=>(s.length:Int)≤i) (fun n s hs=>?_) (fun n i s x rest h0 h1 hx hr hs ih=>?_) (n:=k) (s:=[]) (by omega) (by simp)
  · simp (disch:=omega) only [bO.l0,bO.b0,aP,aK,pK]
  · have hm:x ∈ d.1:=by rw [← hx];exact iI (by omega)
    have hz:=oD hm
    have iY:=ih (s++[x.1]) (by rw [br];omega)
    have iN:=ih s (by omega)
    have key:∀ (id:Int) (is:Bool),bO.l1 k (bO.l0 k n) k i id is false 0 d.1 d.2.1 d.2.2.1 d.2.2.2.1 v.1 v.2.1 s =
     bif (is&&!wK v.2.1 id)||seq x.1 iK then bO.l0 k n (i+1) d.1 d.2.1 d.2.2.1 d.2.2.2.1 v.1 v.2.1 (s++[x.1]) else bO.l0 k n (i+1) d.1 d.2.1 d.2.2.1 d.2.2.2.1 v.1 v.2.1 s:=fun id is=>by
     refine (e_ (L:=fun m j lv=>bO.l1 k (bO.l0 k n) m i id is lv j d.1 d.2.1 d.2.2.1 d.2.2.2.1 v.1 v.2.1 s) (R:=fun r lv=>bif (is&&!(lv||wK r id))||seq x.1 iK then bO.l0 k n (i+1) d.1 d.2.1 d.2.2.1 d.2.2.2.1 v.1 v.2.1 (s++[x.1]) else bO.l0 k n (i+1) d.1 d.2.1 d.2.2.1 d.2.2.2.1 v.1 v.2.1 s) (Ty.z (.int .i64)) v.2.1 (fun _ _=>True) (fun m lv _=>?_) (fun m j lv y r2 g0 g1 gx gr _ ih2=>?_) (n:=k) (s:=false) (by omega) trivial)
     · simp (disch:=first | omega | decide) only [bO.l1,bO.b1,aP,aK,aH,hx,cD,aD]
       rw [show wK [] id=false from rfl,show (⟨#[116,101,109,112]⟩:ByteArray)=iK from rfl]
       cases is <;> cases lv <;> cases seq x.1 iK <;> rfl
     · have e:wK (y::r2) id=((y==id)||wK r2 id):=rfl
       simp (disch:=omega) only [bO.l1,bO.b1,aO g1,ac,aH,gx,aD,e]
       cases lv with
       | true=>exact (ih2 true trivial)
       | false =>
        have:=ih2 (y==id) trivial
        simp only [aK,Bool.false_or]
        exact this
    simp (disch:=omega) only [bO.l0,bO.b0,aO h1,ac,aH,hx,F7 hk,ab,key]
    rw [show pK v.2.1 (x::rest) s=pK v.2.1 rest (bif tP v.2.1 x then s++[x.1] else s) from rfl]
    unfold tP
    cases ((Dr x.1).2&&!wK v.2.1 (Dr x.1).1)||seq x.1 iK
    · exact iN
    · exact iY
theorem B6 (v:Ty.d cY):(cE v).size≤1099511627776:=by
 unfold cE
 split
 · have:=ki (oL v);omega
 · decide
theorem uQ {p:ByteArray} (hp:p=aF∨p=dG) (n:Int):(a_ p n).size≤1000:=by
 have hs:p.size≤4:=by rcases hp with q | q <;> rw [q] <;> decide
 unfold a_
 by_cases h:(1:Int)≤n∧n≤100000
 · have:=md (n:=n) (by omega) (by omega)
   rw [aO h,ac,ByteArray.size_append]
   omega
 · rw [aP h,aK];decide
abbrev RD:=Ty.d aA × Int
def gM (r:RD) (f:Ty.d aA→RD):RD:=bif r.2==0 then f r.1 else r
def iF (c:Int):Int:=bif c==0 then 0 else bif c==1 then 1 else bif c==2 then 2 else 3
def dm:ByteArray:=⟨#[108,105,118,101]⟩
def mB (s:ByteArray) (d:Ty.d aA):RD:=bif (bh d.1 s).isSome then ua d s else (d,0)
def bM (s:ByteArray) (d:Ty.d aA):RD:=gM (mB s d) fun x=>wz x s
def l_ (s t:ByteArray) (d:Ty.d aA):RD:=gM (gM (bM s d) fun x=>iH x s t) fun x=>fj x s
def bf (v:Ty.d cY) (d:Ty.d aA):RD:=gM (l_ iK (cE v) d) fun x=>B1 x iK dm
def eh:List ByteArray→Ty.d aA→RD
 | [],d=>(d,0)
 | s::l,d=>gM (mB s d) (eh l)
noncomputable def gm (ids:List Int) (d:Ty.d aA):RD:=eh (qy d ids) d
theorem iD (c:Int):(iF c==0)=(c==0):=by
 unfold iF
 cases h:c==0 with
 | true=>rfl
 | false =>
  cases c==1
  · cases c==2 <;> rfl
  · rfl
theorem im {r:RD} {f:Ty.d aA→RD} (h:DR r.1) (hf:∀ x,DR x→DR (f x).1):DR (gM r f).1:=by
 unfold gM
 cases r.2==0
 · exact h
 · exact hf _ h
theorem Dv (s:ByteArray) (d:Ty.d aA) (h:DR d):DR (mB s d).1:=by
 unfold mB
 cases (bh d.1 s).isSome
 · exact h
 · exact zk h s
theorem jz (s:ByteArray) (d:Ty.d aA) (h:DR d):DR (bM s d).1:=im (Dv s d h) fun x hx=>zX hx s
theorem nR (s t:ByteArray) (d:Ty.d aA) (h:DR d):DR (l_ s t d).1:=im (im (jz s d h) fun x hx=>oj hx s t) fun x hx=>lk hx s
theorem jp (v:Ty.d cY) (d:Ty.d aA) (h:DR d):DR (bf v d).1:=im (nR _ _ d h) fun x hx=>Jy hx _ _
theorem ji:∀ (l:List ByteArray) (d:Ty.d aA),DR d→DR (eh l d).1
 | [],d,h=>h
 | s::l,d,h=>im (Dv s d h) (ji l)
theorem q7 (ids:List Int) (d:Ty.d aA) (h:DR d):DR (gm ids d).1:=ji _ d h
theorem cv (k:Nat) (c:Int):aV.f k c=some (iF c,()):=by
 unfold aV.f aV.t iF
 cases c==0 <;> cases c==1 <;> cases c==2 <;> rfl
theorem Fj {l:bn} {s:ByteArray}:decide (kQ l s 0≥0)=(bh l s).isSome:=by
 rcases jY l s 0 with ⟨h1,h2,_⟩ | ⟨n,h1,h2,h3,_⟩
 · rw [h1,h2];rfl
 · rw [h2,h3,aO (by omega)];rfl
theorem Fw {l:bn} {s:ByteArray}:decide (kQ l s 0<0)=!(bh l s).isSome:=by
 rcases jY l s 0 with ⟨h1,h2,_⟩ | ⟨n,h1,h2,h3,_⟩
 · rw [h1,h2];rfl
 · rw [h2,h3,aP (by omega)];rfl
theorem mR {k:Nat} (hk:2 ^ 50≤k) {d:Ty.d aA} (h:DR d) {s:ByteArray} (hs:s.size≤1099511627776):dT.f k d s=some ((bM s d).1,((bM s d).2,())):=by
 have hl:=h.sz.l
 unfold dT.f dT.t bM mB
 rw [gy hk (by omega),ab]
 simp only [Fj]
 cases (bh d.1 s).isSome with
 | false =>
  simp only [aK]
  rw [rj hk h.sz hs]
  rfl
 | true =>
  simp only [ac]
  rw [rO hk h.sz,ab]
  unfold gM
  simp only [bne]
  cases c:(ua d s).2==0 with
  | false=>rfl
  | true =>
   simp only [fh,aK,ac]
   rw [rj hk (zk h s).sz hs]
   rfl
theorem uJ {k:Nat} (hk:2 ^ 50≤k) {d:Ty.d aA} (h:DR d) {s t:ByteArray} (hs:s.size≤1099511627776) (ht:t.size≤1099511627776):gI.f k d s t=some ((l_ s t d).1,((l_ s t d).2,())):=by
 have h1:=jz s d h
 unfold gI.f gI.t l_
 rw [mR hk h hs,ab]
 simp only []
 generalize bM s d=r at h1 ⊢
 unfold gM
 cases c:r.2==0 with
 | false=>simp only [aK,c]
 | true =>
  simp only [ac]
  rw [ot hk h1.sz s ht,ab]
  simp only []
  cases c2:(iH r.1 s t).2==0 with
  | false=>rfl
  | true =>
   simp only [ac]
   rw [lW hk (oj h1 s t).sz]
   rfl
theorem n7 {k:Nat} (hk:2 ^ 50≤k) {d:Ty.d aA} (h:DR d) {v:Ty.d cY} (hv:cS v=true):eM.f k d v=some ((bf v d).1,(iF (bf v d).2,())):=by
 have hu:=h.sz.u
 have hn:=h.sz.n
 have h1:=nR iK (cE v) d h
 unfold eM.f eM.t bf
 rw [j_ hk (by omega) (by omega),ab,jP.2 h]
 simp only [fh,aK]
 rw [pk hk,ab,hv]
 simp only [fh,aK]
 rw [kR hk,ab,show (⟨#[116,101,109,112]⟩:ByteArray)=iK from rfl,show (⟨#[108,105,118,101]⟩:ByteArray)=dm from rfl]
 simp only []
 rw [uJ hk h (s:=iK) (t:=cE v) (by decide) (B6 v),ab]
 simp only []
 generalize l_ iK (cE v) d=r at h1 ⊢
 unfold gM
 cases c:r.2==0 with
 | false=>simp only [aK,cv,ab]
 | true =>
  simp only [ac]
  rw [DJ hk h1.sz iK (b:=dm) (by decide),ab]
  simp only [cv,ab]
theorem mS {k:Nat} (hk:2 ^ 50≤k) {d:Ty.d aA} (h:DR d) {l:List ByteArray} (hl:l.length≤1073741824):bu.f k d l=some ((eh l d).1,((eh l d).2,())):=by
 unfold bu.f bu.t
 refine e_ (L:=fun n i (x:Ty.d aA)=>bu.l0 k n l i x.1 x.2.1 x.2.2.1 x.2.2.2.1 [] 0 0 false) (R:=fun r x=>some ((eh r x).1,((eh r x).2,()))) (Ty.z .str) l (fun _ x=>DR x) (fun n x hx=>?_) (fun n i x y rest h0 h1 hy hr hx ih=>?_) (n:=k) (s:=d) (by omega) h
 · simp only [bu.l0,bu.b0]
   rw [aP (by omega),aK]
   rfl
 · have hlx:=hx.sz.l
   simp only [bu.l0,bu.b0]
   rw [aO h1,ac,aH h0 h1,hy,show (x.1,(x.2.1,(x.2.2.1,(x.2.2.2.1,()))))=x from rfl,gy hk (by omega),ab,aH h0 h1,aD (n:=i+1) (by omega) (by omega)]
   simp only [Fw,eh,mB,gM]
   cases (bh x.1 y).isSome with
   | false =>
    simp only [tn,ac,aK]
    exact ih x hx
   | true =>
    simp only [fh,aK,ac]
    rw [rO hk hx.sz,ab]
    simp only [bne]
    cases c:(ua x y).2==0 with
    | false=>rfl
    | true =>
     simp only [fh,aK,ac]
     exact ih _ (zk hx y)
theorem Bg (ids:List Int):∀ (l:bn) (acc:List ByteArray),pK ids l acc=acc++(l.filter (tP ids)).map (·.1)
 | [],acc=>by unfold pK;simp
 | f::l,acc=>by
  unfold pK
  rw [Bg ids l]
  cases c:tP ids f
  · rw [aK,List.filter_cons_of_neg (by rw [c];decide)]
  · rw [ac,List.filter_cons_of_pos c,List.map_cons,nn];rfl
theorem Gb {d:Ty.d aA} (ids:List Int):(qy d ids).Sublist (lL d.1):=by
 unfold qy
 cases gf d
 · exact List.nil_sublist _
 · rw [ac,Bg,List.nil_append]
   exact (List.filter_sublist).map _
theorem vB {l:bn} {s t:ByteArray} (h:t≠s):bh (k6 l s) t=bh l t:=by
 induction l with
 | nil=>rfl
 | cons g l ih =>
  unfold k6
  cases c:seq g.1 s with
  | true =>
   rw [ac,bh.eq_2,kK (fun q=>h (by rw [← q,dr.1 c])),aK]
  | false =>
   rw [aK,bh.eq_2,bh.eq_2,ih]
theorem Ie {l:bn} {s:ByteArray} (h:s ∈ lL l):(bh l s).isSome=true:=by
 cases q:bh l s with
 | some f=>rfl
 | none =>
  obtain ⟨f,h1,h2⟩:=List.mem_map.1 h
  exact absurd h2 (py.1 q f h1)
theorem HD {d:Ty.d aA} {s t:ByteArray} (h:t≠s) (ht:(bh d.1 t).isSome=true):(bh (ua d s).1.1 t).isSome=true:=by
 unfold ua ij
 cases (jF d).2 != 0 with
 | true=>rw [ac,p5];exact ht
 | false =>
  show (bh (BB s d.1 d.2.1).1 t).isSome=true
  unfold BB
  cases (bh d.1 s).isNone
  · show (bh (k6 d.1 s) t).isSome=true
    rw [vB h]
    exact ht
  · exact ht
theorem s7 {k:Nat} (hk:2 ^ 50≤k) {d:Ty.d aA} (h:DR d) {v:Ty.d cY} (hv:v.2.1.length≤1099511627776):bj.f k d v=some ((gm v.2.1 d).1,(iF (gm v.2.1 d).2,())):=by
 have hu:=h.sz.u
 have hn:=h.sz.n
 have hl:=h.len
 have hsub:=Gb (d:=d) v.2.1
 have hlen:=hsub.length_le
 unfold lL at hlen
 rw [List.length_map] at hlen
 have hne:(qy d v.2.1).Pairwise (fun a b=>a≠b):=(List.Pairwise.sublist hsub h.keys).imp fun {a b} q e=>by rw [e,ol] at q;cases q
 have hall:∀ s ∈ qy d v.2.1,(bh d.1 s).isSome=true:=fun s hs=>Ie (hsub.subset hs)
 unfold bj.f bj.t gm
 rw [C9 hk (by omega) (by omega) hv,ab]
 simp only []
 generalize qy d v.2.1=l at hlen hne hall ⊢
 refine e_ (L:=fun n i (x:Ty.d aA)=>bj.l0 k n i x.1 x.2.1 x.2.2.1 x.2.2.2.1 [] 0 0 false l) (R:=fun r x=>some ((eh r x).1,(iF (eh r x).2,()))) (Ty.z .str) l (fun i x=>DR x∧∀ s ∈ l.drop i.toNat,(bh x.1 s).isSome=true) (fun n x hx=>?_) (fun n i x y rest h0 h1 hy hr hx ih=>?_) (n:=k) (s:=d) (by omega) ⟨h,fun s hs=>hall s (List.mem_of_mem_drop hs)⟩
 · simp only [bj.l0,bj.b0]
   rw [aP (by omega),aK]
   rfl
 · obtain ⟨hd,ha⟩:=hx
   have hp:(y::rest).Pairwise (fun a b=>a≠b):=by rw [← hr];exact hne.drop
   have hdr:l.drop (i+1).toNat=rest:=by
    have:=congrArg (List.drop 1) hr
    rw [List.drop_drop,List.drop_one,List.tail_cons] at this
    rw [show (i+1).toNat=i.toNat+1 by omega]
    exact this
   have hy1:(bh x.1 y).isSome=true:=ha y (by rw [hr];exact jd ..)
   simp only [bj.l0,bj.b0]
   rw [aO h1,ac,aH h0 h1,hy,show (x.1,(x.2.1,(x.2.2.1,(x.2.2.2.1,()))))=x from rfl,rO hk hd.sz,ab,aD (n:=i+1) (by omega) (by omega)]
   simp only [eh,mB,gM,hy1,ac,bne,cv]
   cases c:(ua x y).2==0 with
   | false=>rfl
   | true =>
    simp only [fh,aK,ac]
    refine ih (ua x y).1 ⟨zk hd y,fun s hs=>?_⟩
    rw [hdr] at hs
    exact HD (fun e=>(List.pairwise_cons.1 hp).1 s hs e.symm) (ha s (by rw [hr];exact lK _ hs))
abbrev j7:=List (Ty.d b7)
def fJ (kind batch:Int) (l:j7):Ty.d b7:=(kind,(batch,(ByteArray.empty,(ByteArray.empty,((l.length:Int),(uo l,()))))))
theorem tw {k:Nat} (hk:2 ^ 50≤k) {l:j7} (hl:l.length≤1073741824) (b kd:Int):gY.f k l b kd=some (fJ kd b l,()):=by
 unfold gY.f gY.t
 rw [oy hk hl,ab]
 rfl
abbrev iE:=List (Ty.d aL)
def lH (s:ByteArray):Bool:=decide (1≤(s.size:Int)∧(s.size:Int)≤8)
def bD (p:Ty.d aL):Ty.d b7:=(4,(p.2.2.1,(p.1,(p.2.1,(0,(0,()))))))
def jX (l:iE) (mark:Int):j7:=l.map bD++[fJ 5 mark (l.map bD)]
def aX:j7→ByteArray
 | []=>⟨#[]⟩
 | r::l=>aQ (aG r)++aX l
theorem nJ:∀ l m:j7,aX (l++m)=aX l++aX m
 | [],m=>by rw [List.nil_append,aX,nU]
 | r::l,m=>by rw [List.cons_append,aX,nJ l m,aX,ai]
abbrev aR:=List (Ty.d aB)
noncomputable def dk (s:ByteArray) (i n:Int):Ty.d b7 × Bool :=
 if 0≤i∧i≤s.size∧1≤n∧n≤s.size-i then (if (fi (ByteArray.extract s i.toNat (i+n).toNat)).2=n then gB (fi (ByteArray.extract s i.toNat (i+n).toNat)).1 else (ri,false)) else (ri,false)
theorem Cd {s:ByteArray} (h:(gB s).2=false):gB s=(ri,false):=E8 h
theorem zT (s:ByteArray) (i j:Nat):(ByteArray.extract s i j).size≤s.size:=by
 rw [← cM,rP,List.length_drop,List.length_take,cM];omega
theorem sf {k:Nat} (hk:2 ^ 50≤k) {s:ByteArray} (i n:Int) (hs:s.size≤1099511627775):ic.f k s i n=some ((dk s i n).1,((dk s i n).2,())):=by
 unfold ic.f ic.t dk
 rw [nG,ab]
 by_cases c1:0≤i∧i≤s.size
 case neg=>rw [aP c1,if_neg (fun h=>c1 ⟨h.1,h.2.1⟩)];rfl
 rw [aO c1,fh,aK,nG,ab,aD (by omega) (by omega)]
 by_cases c2:1≤n∧n≤s.size-i
 case neg=>rw [aP c2,if_neg (fun h=>c2 ⟨h.2.2.1,h.2.2.2⟩)];rfl
 have hz:=zT s i.toNat (i+n).toNat
 have hu:=lY (ByteArray.extract s i.toNat (i+n).toNat)
 rw [aO c2,fh,aK,aD (by omega) (by omega),t6 (by omega) (by omega) (by omega),if_pos ⟨c1.1,c1.2,c2⟩,lD hk (by omega),ab]
 simp only []
 rw [pb hk (by omega),ab]
 by_cases c3:(fi (ByteArray.extract s i.toNat (i+n).toNat)).2=n
 · rw [if_pos c3]
   simp only [show ((fi (ByteArray.extract s i.toNat (i+n).toNat)).2 != n)=false by rw [c3];simp,aK]
   cases c4:(gB (fi (ByteArray.extract s i.toNat (i+n).toNat)).1).2 with
   | true=>rfl
   | false=>rw [Cd c4];rfl
 · rw [if_neg c3]
   simp only [show ((fi (ByteArray.extract s i.toNat (i+n).toNat)).2 != n)=true from bne_iff_ne.2 c3,ac]
theorem t_ {k:Nat} (hk:2 ^ 50≤k) {s:ByteArray} (i n:Int) (hs:s.size≤1099511627775):ie.f k s i n=some ((dk s i n).1,((dk s i n).2,())):=by
 unfold ie.f ie.t dk
 rw [sZ,ab]
 by_cases c1:0≤i∧i≤s.size
 case neg=>rw [aP c1,if_neg (fun h=>c1 ⟨h.1,h.2.1⟩)];rfl
 rw [aO c1,fh,aK,sZ,ab,aD (by omega) (by omega)]
 by_cases c2:0≤n∧n≤s.size-i
 case neg=>rw [aP c2,if_neg (fun h=>c2 ⟨by omega,h.2.2.2⟩)];rfl
 have hz:=zT s i.toNat (i+n).toNat
 have hu:=lY (ByteArray.extract s i.toNat (i+n).toNat)
 have hsz:(ByteArray.extract s i.toNat (i+n).toNat).size≤(i+n).toNat-i.toNat:=by rw [← cM,rP,List.length_drop,List.length_take];omega
 rw [aO c2,fh,aK,aD (by omega) (by omega),t6 (by omega) (by omega) (by omega),qJ hk (by omega),ab]
 simp only []
 by_cases c0:(fi (ByteArray.extract s i.toNat (i+n).toNat)).2=0
 · rw [show ((fi (ByteArray.extract s i.toNat (i+n).toNat)).2==0)=true by rw [c0];rfl,ac]
   split
   · rename_i h
     rw [if_neg (by omega)]
   · rfl
 · rw [show ((fi (ByteArray.extract s i.toNat (i+n).toNat)).2==0)=false from mF c0,aK,if_pos ⟨c1.1,c1.2,by omega,c2.2⟩]
   by_cases c3:(fi (ByteArray.extract s i.toNat (i+n).toNat)).2=n
   · rw [if_pos c3]
     simp only [show ((fi (ByteArray.extract s i.toNat (i+n).toNat)).2 != n)=false by rw [c3];simp,aK]
     rw [pa hk (by omega),ab]
   · rw [if_neg c3]
     simp only [show ((fi (ByteArray.extract s i.toNat (i+n).toNat)).2 != n)=true from bne_iff_ne.2 c3,ac]
end Go.Proofs.YtnpijgnfpdcjbaaGreatDoor.G

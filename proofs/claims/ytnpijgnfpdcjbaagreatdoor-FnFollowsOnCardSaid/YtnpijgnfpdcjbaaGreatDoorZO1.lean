/- Plain laws, merged; what is proved here is told ahead of each part. -/
import Derived.Test.YtnpijgnfpdcjbaaGreatDoorZOE
import Derived.Lib.ItoaNum
import Derived.Lib.AtoiAll
import Derived.Lib.AtoiAllCases
import Derived.Test.YtnpijgnfpdcjbaaGreatDoorVPure
import Derived.Test.YtnpijgnfpdcjbaaGreatDoorXLib
set_option linter.unusedVariables false
set_option linter.unusedSimpArgs false
namespace Go.V
theorem ab {α β:Type} {a:α} {f:α→Option β}:Option.bind (some a) f=f a:=rfl
theorem aK {α:Type} {a b:α}:cond false a b=b:=rfl
theorem ac {α:Type} {a b:α}:cond true a b=a:=rfl
theorem fh:(!true)=false:=rfl
theorem uV:(!false)=true:=rfl
theorem mC {α:Type} [BEq α] [LawfulBEq α] {a b:α} (h:a≠b):(a==b)=false:=beq_eq_false_iff_ne.2 h
theorem nt (i:Nat):Int.toNat (i:Int)=i:=Int.toNat_natCast i
theorem kJ {α:Type} {a:α} {l:List α}:(a::l).length=l.length+1:=rfl
theorem uH {α:Type} {l m:List α}:(l++m).length=l.length+m.length:=List.length_append
theorem nn {α:Type} (l m n:List α):l++m++n=l++(m++n):=List.append_assoc l m n
theorem Hi {α:Type} [BEq α] [LawfulBEq α] {a b:α} (h:(a==b)=true):a=b:=beq_iff_eq.1 h
theorem gN (a b:Bool):((a&&b)=true)=(a=true∧b=true):=Bool.and_eq_true a b
theorem jd {α:Type} {a:α} {l:List α}:a ∈ a::l:=List.mem_cons_self
theorem lL {α:Type} (y:α) {a:α} {l:List α} (h:a ∈ l):a ∈ y::l:=List.mem_cons_of_mem y h
theorem aO {p:Prop} [Decidable p] (h:p):decide p=true:=decide_eq_true h
theorem aP {p:Prop} [Decidable p] (h:¬ p):decide p=false:=decide_eq_false h
theorem cD {R:Type} {b n:Nat} {k:Option R} (h:n≤1099511627776) (hb:b≤128):rm b n k=k :=
 KW (Nat.le_trans (Nat.mul_le_mul h hb) (by decide)) (by omega)
theorem e7 {R:Type} {a b:ByteArray} {k:Option R} (h:a.size+b.size≤4611686018427387904):ke a b k=k:=A9 (by omega)
theorem zf {R:Type} {b:Nat} {n:Int} {k:Option R} (h0:0≤n) (h:n≤1099511627776) (hb:b≤128):uy b n k=k :=
 CK h0 (Nat.le_trans (Nat.mul_le_mul (show n.toNat≤1099511627776 by omega) hb) (by decide)) (by omega)
theorem vH {n:Int} (h0:0≤n) (h1:n≤4294967295):IntKind.wrap .u32 n=n:=by
 unfold IntKind.wrap
 simp [IntKind.bits,IntKind.signed]
 omega
theorem ng {n:Int} (h0:0≤n) (h1:n≤255):IntKind.wrap .u8 n=n:=by
 unfold IntKind.wrap
 simp [IntKind.bits,IntKind.signed]
 omega
theorem Jc {α:Type} {g:Nat→Option α} {r:α} (h:∀ k,2 ^ 50≤k→g k=some r):Ev g r:=⟨2 ^ 50,h⟩
section
variable {α σ ρ:Type}
theorem KZ {L:Nat→σ→Option ρ} {R:σ→Option ρ} (μ:σ→Nat) (P:σ→Prop)
 (h:∀ n s,P s→(∀ s',P s'→μ s' < μ s→L n s'=R s')→L (n+1) s=R s):∀ n s,P s→μ s<n→L n s=R s
 | 0,s,_,hn=>by omega
 | n+1,s,hs,hn=>h n s hs fun s' h1 h2=>KZ μ P h n s' h1 (by omega)
theorem Jf {L:Nat→Int→σ→Option ρ} {R:Int→σ→Option ρ} (N:Int) (P:Int→σ→Prop)
 (h0:∀ (n:Nat) s,P N s→L (n+1) N s=R N s)
 (h1:∀ (n:Nat) (i:Int) s,0≤i→i<N→P i s→(∀ s',P (i+1) s'→L n (i+1) s'=R (i+1) s')→L (n+1) i s=R i s) :
 ∀ (n:Nat) (i:Int) s,0≤i→i≤N→N-i<n→P i s→L n i s=R i s
 | 0,i,s,hi,hN,hn,_=>by omega
 | n+1,i,s,hi,hN,hn,hs=>by
  by_cases c:i=N
  · subst c;exact h0 n s hs
  · exact h1 n i s hi (by omega) hs fun s' q=>Jf N P h0 h1 n (i+1) s' (by omega) (by omega) (by omega) q
theorem H6 {L:Nat→Int→σ→Option ρ} {R:List α→σ→Option ρ} (z:α) (l:List α) (P:Int→σ→Prop)
 (h0:∀ (n:Nat) s,P l.length s→L (n+1) l.length s=R [] s)
 (h1:∀ (n:Nat) (i:Int) s x rest,0≤i→i<l.length→l.getD i.toNat z=x→l.drop i.toNat=x::rest→P i s→(∀ s',P (i+1) s'→L n (i+1) s'=R rest s')→L (n+1) i s=R (x::rest) s) :
 ∀ (n:Nat) (i:Int) s,0≤i→i≤l.length→(l.length:Int)-i<n→P i s→L n i s=R (l.drop i.toNat) s:=by
 intro n i s hi hN hn hs
 refine Jf (L:=L) (R:=fun i s=>R (l.drop i.toNat) s) l.length P (fun n s q=>?_) (fun n i s hi hlt q ih=>?_) n i s hi hN hn hs
 · rw [h0 n s q,Int.toNat_natCast,List.drop_length]
 · have hl:i.toNat<l.length:=by omega
   have e:l.drop i.toNat=l.getD i.toNat z::l.drop (i+1).toNat:=by
    rw [List.drop_eq_getElem_cons hl,show (i+1).toNat=i.toNat+1 by omega]
    simp [List.getD,hl]
   show _=R (l.drop i.toNat) s
   rw [e]
   exact h1 n i s _ _ hi hlt rfl e q ih
theorem eG {L:Nat→Int→σ→Option ρ} {R:List α→σ→Option ρ} (z:α) (l:List α) (P:Int→σ→Prop)
 (h0:∀ (n:Nat) s,P l.length s→L (n+1) l.length s=R [] s)
 (h1:∀ (n:Nat) (i:Int) s x rest,0≤i→i<l.length→l.getD i.toNat z=x→l.drop i.toNat=x::rest→P i s→(∀ s',P (i+1) s'→L n (i+1) s'=R rest s')→L (n+1) i s=R (x::rest) s)
 {n:Nat} {s:σ} (hn:l.length<n) (hs:P 0 s):L n 0 s=R l s:=by
 have:=H6 z l P h0 h1 n 0 s (by omega) (by omega) (by omega) hs
 simpa using this
end
theorem kP {a b:ByteArray} (h:a≠b):seq a b=false:=by
 cases c:seq a b
 · rfl
 · exact absurd (dr.1 c) h
theorem Io {a b:ByteArray} (h:a=b):seq a b=true:=dr.2 h
theorem EC (a b:ByteArray):seq a b=decide (a=b):=by
 by_cases h:a=b
 · rw [Io h,aO h]
 · rw [kP h,aP h]
theorem Ho {α:Type} {l:List α} {i:Nat} {x:α} {rest:List α} (h:l.drop i=x::rest):i<l.length:=by
 rcases Nat.lt_or_ge i l.length with q | q
 · exact q
 · rw [List.drop_eq_nil_of_le q] at h;cases h
def vl:Nat→Nat→List Nat
 | 0,a=>[a]
 | d+1,a=>if a≥128 then (128+a % 128)::vl d (a/128) else [a]
def qo:List Nat→Nat
 | []=>0
 | b::p=>b % 128+128*qo p
def pg:List Nat→Bool
 | []=>false
 | [b]=>decide (b<128)
 | b::c::p=>decide (128≤b)&&(decide (b<256)&&(pg (c::p)&&!(decide (p=[])&&c==0)))
theorem vB:∀ (d a:Nat),a<128 ^ (d+1)→pg (vl d a)=true∧qo (vl d a)=a∧(vl d a=[0]→a=0)
 | 0,a,h=>by
  have:a<128:=by simpa using h
  refine ⟨by simp [vl,pg,this],by simp [vl,qo];omega,fun q=>by simpa [vl] using q⟩
 | d+1,a,h=>by
  unfold vl
  by_cases c:a≥128
  · rw [if_pos c]
    obtain ⟨h1,h2,h3⟩:=vB d (a/128) (by rw [Nat.pow_succ] at h;omega)
    refine ⟨?_,by rw [qo,h2];omega,fun q=>by have:=(List.cons.inj q).1;omega⟩
    generalize vl d (a/128)=l at h1 h2 h3
    match l,h1 with
    | x::p,h1 =>
     simp only [pg,h1]
     have e1:decide (128≤128+a % 128)=true:=decide_eq_true (by omega)
     have e2:decide (128+a % 128<256)=true:=decide_eq_true (by omega)
     rw [e1,e2]
     cases hp:(decide (p=[])&&x==0)
     · rfl
     · simp only [gN,decide_eq_true_eq,beq_iff_eq] at hp
       have:=h3 (by rw [hp.1,hp.2])
       omega
  · rw [if_neg c]
    have:a<128:=by omega
    exact ⟨by simp [pg,this],by simp [qo];omega,fun q=>by simpa using q⟩
theorem BF:∀ (p:List Nat),pg p=true→p≠[0]→1≤qo p
 | [],h,_=>by simp [pg] at h
 | [b],h,q=>by
  simp only [pg,decide_eq_true_eq] at h
  simp only [qo]
  have:b≠0:=fun e=>q (by rw [e])
  omega
 | b::c::p,h,_=>by
  simp only [pg,gN,decide_eq_true_eq,Bool.not_eq_true'] at h
  have ih:=BF (c::p) h.2.2.1 (fun e=>by
   have e1:c=0:=(List.cons.inj e).1
   have e2:p=[]:=(List.cons.inj e).2
   have:=h.2.2.2
   rw [e1,e2] at this
   simp at this)
  rw [qo]
  omega
theorem z_:∀ (d:Nat) (p:List Nat),pg p=true→p.length≤d+1→vl d (qo p)=p
 | _,[],h,_=>by simp [pg] at h
 | 0,[b],h,_=>by
  simp only [pg,decide_eq_true_eq] at h
  simp [vl,qo];omega
 | d+1,[b],h,_=>by
  simp only [pg,decide_eq_true_eq] at h
  have e:qo [b]=b:=by simp [qo];omega
  rw [e,vl,if_neg (by omega)]
 | 0,b::c::p,_,hl=>by simp at hl
 | d+1,b::c::p,h,hl=>by
  have h0:=h
  simp only [pg,gN,decide_eq_true_eq,Bool.not_eq_true'] at h
  have hp:=BF (c::p) h.2.2.1 (fun e=>by
   have e1:c=0:=(List.cons.inj e).1
   have e2:p=[]:=(List.cons.inj e).2
   have:=h.2.2.2
   rw [e1,e2] at this
   simp at this)
  have ih:=z_ d (c::p) h.2.2.1 (by simp at hl ⊢;omega)
  rw [qo,vl,if_pos (by omega)]
  rw [show (b % 128+128*qo (c::p))/128=qo (c::p) by omega,ih]
  congr 1
  omega
theorem BK:∀ (p:List Nat) (b:Nat),qo (p++[b])=qo p+128 ^ p.length*(b % 128)
 | [],b=>by simp [qo]
 | a::p,b=>by
  rw [List.cons_append,qo,BK p b,qo,kJ,Nat.pow_succ,Nat.mul_add,Nat.mul_comm (128 ^ p.length) 128,Nat.mul_assoc]
  omega
theorem zm:∀ (p:List Nat),qo p<128 ^ p.length
 | []=>by simp [qo]
 | a::p=>by
  have:=zm p
  rw [qo,kJ,Nat.pow_succ]
  omega
def nb (s:ByteArray):List Nat:=s.data.toList.map UInt8.toNat
theorem cP (s:ByteArray):(nb s).length=s.size:=by
 unfold nb
 rw [List.length_map,Array.length_toList]
 rfl
theorem JI {s:ByteArray} {x:Nat} (h:x ∈ nb s):x<256:=by
 unfold nb at h
 rw [List.mem_map] at h
 obtain ⟨y,_,rfl⟩:=h
 exact UInt8.toNat_lt y
theorem jV {a b:ByteArray} (h:nb a=nb b):a=b:=by
 unfold nb at h
 have h1:a.data.toList=b.data.toList:=List.map_inj_right (fun x y e=>UInt8.toNat_inj.1 e) |>.1 h
 exact ByteArray.ext (Array.toList_inj.1 h1)
theorem wg {s:ByteArray} {i:Nat} (h:i<s.size):di s (i:Int)=(((nb s).getD i 0:Nat):Int):=by
 unfold di nb
 have h1:i<s.data.toList.length:=by rw [Array.length_toList];exact h
 rw [Int.toNat_natCast,List.getD,List.getD,List.getElem?_map,List.getElem?_eq_getElem h1]
 rfl
theorem Av {l:List Nat} (h:∀ x ∈ l,x<256):nb (bytesOf (l.map Int.ofNat))=l:=by
 unfold nb bytesOf
 simp only [List.map_map,List.toList_toArray]
 induction l with
 | nil=>rfl
 | cons x l ih =>
  rw [List.map_cons,ih (fun y hy=>h y (lL _ hy))]
  have:=h x (jd ..)
  congr 1
  show (UInt8.ofNat (Int.toNat (x:Int))).toNat=x
  rw [Int.toNat_natCast]
  simp
  omega
theorem jw (s:ByteArray) (n:Nat):nb (ByteArray.extract s 0 n)=(nb s).take n:=by
 unfold nb
 simp [ByteArray.data_extract,List.map_take]
theorem Iy:∀ (d a:Nat),a<128 ^ (d+1)→∀ x ∈ vl d a,x<256
 | 0,a,h,x,hx=>by simp [vl] at hx;subst hx;simp at h;omega
 | d+1,a,h,x,hx=>by
  unfold vl at hx
  split at hx
  · rcases List.mem_cons.1 hx with q | q
    · subst q;omega
    · exact Iy d _ (by rw [Nat.pow_succ] at h;omega) x q
  · simp at hx;subst hx;omega
def bB (a:Nat):ByteArray:=bytesOf ((vl 6 a).map Int.ofNat)
theorem sL {a:Nat} (h:a<562949953421312):nb (bB a)=vl 6 a:=Av (Iy 6 a (by rw [show (128:Nat) ^ (6+1)=562949953421312 by decide];exact h))
theorem F1 {s:ByteArray} {n:Nat} (h0:1≤n) (h7:n≤7) (hs:n≤s.size):seq (bB (qo ((nb s).take n))) (ByteArray.extract s 0 n)=pg ((nb s).take n):=by
 have hl:((nb s).take n).length=n:=by rw [List.length_take,cP];omega
 have hd:qo ((nb s).take n)<562949953421312:=by
  have:=zm ((nb s).take n)
  rw [hl] at this
  have h2:(128:Nat) ^ n≤128 ^ 7:=Nat.pow_le_pow_right (by decide) h7
  rw [show (128:Nat) ^ 7=562949953421312 by decide] at h2
  omega
 rw [Bool.eq_iff_iff,dr]
 constructor
 · intro e
   have e1:nb (bB (qo ((nb s).take n)))=(nb s).take n:=by rw [e,jw]
   rw [sL hd] at e1
   have:=(vB 6 (qo ((nb s).take n)) (by rw [show (128:Nat) ^ (6+1)=562949953421312 by decide];exact hd)).1
   rw [e1] at this
   exact this
 · intro c
   refine jV ?_
   rw [sL hd,jw]
   exact z_ 6 _ c (by omega)
open Go
def gX (n:Int):ByteArray:=⟨(Lib.itoa n).toArray⟩
def rX (u:Nat):List UInt8:=if u=0 then [] else Lib.decDigits u
theorem Ff:rX 0=[]:=rfl
theorem pr {u:Nat} (h:u≠0):rX u=Lib.decDigits u:=if_neg h
theorem F2 {u:Nat} (h:u≠0):rX u=rX (u/10)++[UInt8.ofNat (48+u % 10)]:=by
 rw [pr h,Lib.decDigits]
 by_cases c:u<10
 · rw [dif_pos c,show u/10=0 by omega,Ff,List.nil_append,Nat.mod_eq_of_lt c]
 · rw [dif_neg c,pr (by omega)]
theorem t8 (u:Nat):Lib.decDigits u≠[]:=by
 rw [Lib.decDigits]
 split <;> simp
theorem vy:Lib.decDigits 0=[48]:=by
 rw [Lib.decDigits,dif_pos (by omega)]
 rfl
theorem qa {d:Nat} (h:d<10):(UInt8.ofNat (48+d)).toNat=48+d:=by
 simp
 omega
theorem mK (u:Nat):∀ b ∈ Lib.decDigits u,48≤b.toNat∧b.toNat≤57:=by
 induction u using Nat.strongRecOn with
 | _ u ih =>
  intro b hb
  rw [Lib.decDigits] at hb
  split at hb
  · rename_i h
    rw [List.mem_singleton] at hb
    subst hb
    rw [qa h]
    omega
  · rename_i h
    rcases List.mem_append.1 hb with q | q
    · exact ih (u/10) (by omega) b q
    · rw [List.mem_singleton] at q
      subst q
      rw [qa (by omega)]
      omega
def qJ:List Nat→Nat→Nat
 | [],a=>a
 | b::l,a=>qJ l (a*10+(b-48))
theorem y9:∀ (l m:List Nat) (a:Nat),qJ (l++m) a=qJ m (qJ l a)
 | [],m,a=>rfl
 | b::l,m,a=>y9 l m _
theorem qU (u:Nat):qJ ((Lib.decDigits u).map UInt8.toNat) 0=u:=by
 induction u using Nat.strongRecOn with
 | _ u ih =>
  rw [Lib.decDigits]
  split
  · rename_i h
    simp only [List.map_cons,List.map_nil,qJ,qa h]
    omega
  · rename_i h
    rw [List.map_append,y9,ih (u/10) (by omega)]
    simp only [List.map_cons,List.map_nil,qJ,qa (show u % 10<10 by omega)]
    omega
theorem hF:∀ (k u:Nat),u<10 ^ (k+1)→(Lib.decDigits u).length≤k+1
 | 0,u,h=>by
  rw [Lib.decDigits,dif_pos (by simpa using h)]
  simp
 | k+1,u,h=>by
  rw [Lib.decDigits]
  split
  · simp
  · have:=hF k (u/10) (by rw [Nat.pow_succ] at h;omega)
    rw [uH]
    show _+1≤_
    omega
theorem oz (n:Int):nb (gX n)=if n<0 then 45::(Lib.decDigits n.natAbs).map UInt8.toNat else (Lib.decDigits n.toNat).map UInt8.toNat:=by
 unfold nb gX Lib.itoa
 split <;> simp
theorem va {a b:Int} (h:gX a=gX b):a=b:=by
 have h1:=congrArg nb h
 rw [oz,oz] at h1
 have hd:∀ u:Nat,∀ l,(Lib.decDigits u).map UInt8.toNat≠45::l:=fun u l q=>by
  have hm:(45:Nat) ∈ (Lib.decDigits u).map UInt8.toNat:=by rw [q];exact jd ..
  obtain ⟨x,hx,e⟩:=List.mem_map.1 hm
  have:=mK u x hx
  omega
 by_cases ca:a<0
 · rw [if_pos ca] at h1
   by_cases cb:b<0
   · rw [if_pos cb] at h1
     have h2:=(List.cons.inj h1).2
     have h3:=congrArg (fun l=>qJ l 0) h2
     simp only [qU] at h3
     omega
   · rw [if_neg cb] at h1
     exact absurd h1.symm (hd _ _)
 · rw [if_neg ca] at h1
   by_cases cb:b<0
   · rw [if_pos cb] at h1
     exact absurd h1 (hd _ _)
   · rw [if_neg cb] at h1
     have h3:=congrArg (fun l=>qJ l 0) h1
     simp only [qU] at h3
     omega
theorem F0 {n:Int} (h0 : -1000000000<n) (h1:n<1000000000):(gX n).size≤10:=by
 rw [← cP,oz]
 split
 · have:=hF 8 n.natAbs (by rw [show (10:Nat) ^ (8+1)=1000000000 by decide];omega)
   rw [kJ,List.length_map]
   omega
 · have:=hF 8 n.toNat (by rw [show (10:Nat) ^ (8+1)=1000000000 by decide];omega)
   rw [List.length_map]
   omega
theorem B2 (n:Int) (h0 : -9223372036854775808≤n) (h1:n≤9223372036854775807):(gX n).size≤20:=by
 rw [← cP,oz]
 split
 · have:=hF 18 n.natAbs (by rw [show (10:Nat) ^ (18+1)=10000000000000000000 by decide];omega)
   rw [kJ,List.length_map]
   omega
 · have:=hF 18 n.toNat (by rw [show (10:Nat) ^ (18+1)=10000000000000000000 by decide];omega)
   rw [List.length_map]
   omega
section
variable {α ρ:Type}
def nJ (ok:Option α→α→Bool):Option α→List α→Bool
 | _,[]=>true
 | p,x::l=>ok p x&&nJ ok (some x) l
theorem pk {L:Nat→Int→Option ρ} (z:α) (l:List α) (ok:Option α→α→Bool) (yes no:Option ρ) (h0:∀ (n:Nat),L (n+1) l.length=yes)
 (h1:∀ (n:Nat) x,0<l.length→l.getD (Int.toNat 0) z=x→L (n+1) 0=bif ok none x then L n 1 else no)
 (h2:∀ (n:Nat) (i:Int) x y,0<i→i<l.length→l.getD i.toNat z=x→l.getD (i-1).toNat z=y→L (n+1) i=bif ok (some y) x then L n (i+1) else no)
 {n:Nat} (hn:l.length<n):L n 0=bif nJ ok none l then yes else no:=by
 have key:∀ (d i n:Nat),l.length=i+d→0<i→d<n→L n (i:Int)=bif nJ ok (some (l.getD (i-1) z)) (l.drop i) then yes else no:=by
  intro d
  induction d with
  | zero =>
   intro i n h h' hn
   obtain ⟨n,rfl⟩:∃ q,n=q+1:=⟨n-1,by omega⟩
   have:i=l.length:=by omega
   subst this
   rw [h0 n,List.drop_length]
   rfl
  | succ d ih =>
   intro i n h h' hn
   obtain ⟨n,rfl⟩:∃ q,n=q+1:=⟨n-1,by omega⟩
   have hl:i<l.length:=by omega
   have e:l.drop i=l.getD i z::l.drop (i+1):=by
    rw [List.drop_eq_getElem_cons hl]
    simp [List.getD,hl]
   have ih:=ih (i+1) n (by omega) (by omega) (by omega)
   rw [h2 n i (l.getD i z) (l.getD (i-1) z) (by omega) (by omega) (by rw [Int.toNat_natCast]) (by rw [show ((i:Int)-1).toNat=i-1 by omega]),e,nJ]
   rw [show ((i:Int)+1)=((i+1:Nat):Int) by omega,ih,show i+1-1=i by omega]
   cases ok (some (l.getD (i-1) z)) (l.getD i z) <;> rfl
 obtain ⟨n,rfl⟩:∃ q,n=q+1:=⟨n-1,by omega⟩
 cases l with
 | nil=>exact h0 n
 | cons x l =>
  rw [h1 n x (by simp) rfl,nJ]
  have:=key l.length 1 n (by rw [kJ];omega) (by omega) (by rw [kJ] at hn;omega)
  rw [show ((1:Nat):Int)=1 from rfl] at this
  rw [this]
  cases ok none x <;> rfl
theorem AJ {ok:Option α→α→Bool} {l:List α} {p:Option α} (h:nJ ok p l=true) {x:α} (hx:x ∈ l):∃ q,ok q x=true:=by
 induction l generalizing p with
 | nil=>cases hx
 | cons y l ih =>
  rw [nJ,gN] at h
  rcases List.mem_cons.1 hx with e | e
  · subst e;exact ⟨p,h.1⟩
  · exact ih h.2 e
end
theorem mZ {α:Type} {l:List α} {n i:Nat} {z:α} (h:i<n):(l.take n).getD i z=l.getD i z:=by
 simp [List.getD,List.getElem?_take,h]
theorem mh {α:Type} {l:List α} {i:Nat} {z:α} (h:i<l.length):l.take (i+1)=l.take i++[l.getD i z]:=by
 rw [List.take_succ_eq_append_getElem h]
 simp [List.getD,h]
theorem bv {α:Type} (l:List α) (x:α):(l++[x]).length=l.length+1:=by simp
def dB (l:List UInt8):ByteArray:=⟨l.toArray⟩
theorem Ga (a b:List UInt8):dB a++dB b=dB (a++b):=by
 apply ByteArray.ext
 simp [dB,ByteArray.data_append]
theorem AP (l:List UInt8):(dB l).size=l.length:=by simp [dB,ByteArray.size]
theorem rG (s:ByteArray):dB []++s=s:=by
 apply ByteArray.ext
 simp [dB,ByteArray.data_append]
theorem Cx (s:ByteArray):s++dB []=s:=by
 apply ByteArray.ext
 simp [dB,ByteArray.data_append]
theorem oG (a b c:ByteArray):a++b++c=a++(b++c):=by
 apply ByteArray.ext
 simp [ByteArray.data_append]
theorem Ic (n:Int) (h:n≠0):gX n=(bif decide (n<0) then dB [45] else dB [])++dB (rX n.natAbs):=by
 unfold gX Lib.itoa
 by_cases c:n<0
 · rw [if_pos c,aO c,ac,Ga,pr (by omega)]
   rfl
 · rw [if_neg c,aP c,aK,rG,pr (by omega),show n.natAbs=n.toNat by omega]
   rfl
theorem BC {u:Nat} (h:u≤9223372036854775808):(rX u).length≤19:=by
 by_cases c:u=0
 · subst c;decide
 · rw [pr c]
   exact hF 18 u (by rw [show (10:Nat) ^ (18+1)=10000000000000000000 by decide];omega)
theorem my {n:Int} (h0 : -9223372036854775808≤n) (h1:n≤9223372036854775807):(gX n).size≤20:=B2 n h0 h1
def lw:List Nat→Bool
 | []=>true
 | b::l=>(decide (97≤b∧b≤122)||decide (48≤b∧b≤57))&&lw l
def jr (s:ByteArray):Bool:=lw (nb s)&&decide (1≤s.size∧s.size≤12)
end Go.V
namespace Go.Proofs.YtnpijgnfpdcjbaaGreatDoor.G
open Go.V
theorem p6 {k:Nat} (hk:2 ^ 50≤k) {n:Int} (h0 : -9223372036854775808≤n) (h1:n≤9223372036854775807):dV.f k n=some (gX n,()):=by
 unfold dV.f dV.t
 by_cases c:n=0
 · subst c
   have:gX 0=(⟨#[48]⟩:ByteArray):=by
    unfold gX Lib.itoa
    rw [if_neg (by decide),show (0:Int).toNat=0 from rfl,vy]
   rw [this]
   rfl
 · rw [show (n==0)=false from mC c,aK]
   have key:=KZ (L:=fun m (s:Int × ByteArray)=>dV.l0 k m s.1 s.2 (decide (n<0))) (R:=fun s=>some ((bif decide (n<0) then dB [45] else dB [])++(dB (rX s.1.natAbs)++s.2),()))
    (fun s=>(rX s.1.natAbs).length) (fun s => -9223372036854775808≤s.1∧s.1≤9223372036854775807∧s.2.size+(rX s.1.natAbs).length≤1000) ?_ k (n,(⟨#[]⟩:ByteArray))
    ⟨h0,h1,by have:=BC (u:=n.natAbs) (by omega);show 0+(rX n.natAbs).length≤1000;omega⟩ (by have:=BC (u:=n.natAbs) (by omega);show (rX n.natAbs).length<k;omega)
   · refine key.trans ?_
     simp only []
     rw [Ic n c,show (⟨#[]⟩:ByteArray)=dB [] from rfl,Cx]
   · intro m s hs ih
     obtain ⟨x,acc⟩:=s
     obtain ⟨g0,g1,g2⟩:=hs
     simp only [] at g0 g1 g2 ih ⊢
     by_cases cx:x=0
     · subst cx
       have hz:rX (Int.natAbs 0)=[]:=rfl
       rw [hz] at g2 ⊢
       rw [rG]
       unfold dV.l0 dV.b0
       rw [show ((0:Int) != 0)=false from rfl,aK]
       cases decide (n<0)
       · rw [aK,aK,rG]
       · rw [ac,ac,e7 (by rw [show (⟨#[45]⟩:ByteArray).size=1 from rfl];omega)]
         rfl
     · have hd:=F2 (u:=x.natAbs) (by omega)
       have hb:bytesOf [48+((x.natAbs % 10:Nat):Int)]=dB [UInt8.ofNat (48+x.natAbs % 10)]:=rfl
       have hm:x.natAbs % 10<10:=Nat.mod_lt _ (by decide)
       have hl:(rX x.natAbs).length=(rX (x.natAbs/10)).length+1:=by rw [hd,uH];rfl
       have hr:(dB [UInt8.ofNat (48+x.natAbs % 10)]++acc).size=1+acc.size:=by rw [ByteArray.size_append];rfl
       have fin:∀ y:Int,y.natAbs=x.natAbs/10 → -9223372036854775808≤y→y≤9223372036854775807 →
        dV.l0 k m (aJ y) (dB [UInt8.ofNat (48+x.natAbs % 10)]++acc) (decide (n<0))=some ((bif decide (n<0) then dB [45] else dB [])++(dB (rX x.natAbs)++acc),()):=fun y hy q0 q1=>by
        rw [aD q0 q1]
        have:=ih (y,dB [UInt8.ofNat (48+x.natAbs % 10)]++acc) ⟨q0,q1,by simp only [];rw [hr,hy];omega⟩ (by simp only [];rw [hy];omega)
        simp only [] at this
        rw [this,hy,hd,← Ga,oG]
       unfold dV.l0 dV.b0
       rw [show (x != 0)=true from bne_iff_ne.2 cx,ac]
       obtain ⟨u,rfl | rfl⟩:=Int.eq_nat_or_neg x
       · have e1:Int.tmod (u:Int) 10=((u % 10:Nat):Int):=rfl
         have e2:Int.tdiv (u:Int) 10=((u/10:Nat):Int):=rfl
         rw [Int.natAbs_natCast] at *
         rw [e1,e2,aP (by omega),aK,aD (n:=48+((u % 10:Nat):Int)) (by omega) (by omega),ng (by omega) (by omega),hb,e7 (by rw [AP];simp only [List.length_singleton];omega)]
         exact fin _ (by omega) (by omega) (by omega)
       · have e1:Int.tmod (-(u:Int)) 10 = -((u % 10:Nat):Int):=Int.neg_tmod (a:=(u:Int)) (b:=10)
         have e2:Int.tdiv (-(u:Int)) 10 = -((u/10:Nat):Int):=Int.neg_tdiv (u:Int) 10
         rw [Int.natAbs_neg,Int.natAbs_natCast] at *
         rw [e1,e2]
         by_cases cz:u % 10=0
         · rw [aP (by omega),aK,show (48:Int) + -((u % 10:Nat):Int)=48+((u % 10:Nat):Int) by omega,aD (n:=48+((u % 10:Nat):Int)) (by omega) (by omega),ng (by omega) (by omega),hb,e7 (by rw [AP];simp only [List.length_singleton];omega)]
           exact fin _ (by omega) (by omega) (by omega)
         · rw [aO (by omega),ac,aD (n:=0 - -((u % 10:Nat):Int)) (by omega) (by omega),show (48:Int)+(0 - -((u % 10:Nat):Int))=48+((u % 10:Nat):Int) by omega,aD (n:=48+((u % 10:Nat):Int)) (by omega) (by omega),ng (by omega) (by omega),hb,e7 (by rw [AP];simp only [List.length_singleton];omega)]
           exact fin _ (by omega) (by omega) (by omega)
theorem Cg (k:Nat) {n:Int} (h0 : -9223372036854775808≤n) (h1:n≤9223372036854775807):lx.f k n=some (gX n,()):=by
 unfold lx.f lx.t mA.f
 rw [aO ⟨h0,h1⟩]
 rfl
theorem lf (k:Nat) (a b c:Int):ax.f k a b c=some (decide (b≤a∧a≤c),()):=by
 unfold ax.f ax.t
 by_cases h:a≥b
 · rw [aO h,ac,decide_eq_decide.2 (show (b≤a∧a≤c)↔a≤c from ⟨fun q=>q.2,fun q=>⟨h,q⟩⟩)]
 · rw [aP h,aK,aP (fun q=>h q.1)]
theorem fE (k:Nat) (a b c:Int):aS.f k a b c=some (decide (b≤a∧a≤c),()):=by
 unfold aS.f aS.t
 by_cases h:a≥b
 · rw [aO h,ac,decide_eq_decide.2 (show (b≤a∧a≤c)↔a≤c from ⟨fun q=>q.2,fun q=>⟨h,q⟩⟩)]
 · rw [aP h,aK,aP (fun q=>h q.1)]
theorem zX {s:ByteArray} {i:Int} {x:Nat} (h0:0≤i) (h1:i<((nb s).length:Int)) (hx:(nb s).getD i.toNat 0=x):di s i=(x:Int):=by
 rw [cP] at h1
 have:=wg (s:=s) (i:=i.toNat) (by omega)
 rw [show ((i.toNat:Nat):Int)=i by omega,hx] at this
 exact this
theorem CC {s:ByteArray}:(some ((bif lw (nb s) then decide (1≤(s.size:Int)∧(s.size:Int)≤12) else false),()):Option (Bool × Unit))=some (jr s,()):=by
 unfold jr
 rw [decide_eq_decide.2 (show (1≤(s.size:Int)∧(s.size:Int)≤12)↔(1≤s.size∧s.size≤12) by omega)]
 cases lw (nb s) <;> rfl
theorem nG {k:Nat} (hk:2 ^ 50≤k) {s:ByteArray} (hs:s.size≤1099511627776):dY.f k s=some (jr s,()):=by
 unfold dY.f dY.t
 have hn:=cP s
 refine (eG (L:=fun n i (_:Unit)=>dY.l0 k n s i) (R:=fun r _=>some ((bif lw r then decide (1≤(s.size:Int)∧(s.size:Int)≤12) else false),())) 0 (nb s) (fun _ _=>True) (fun n _ _=>?_) (fun n i _ x rest h0 h1 hx hr hp ih=>?_) (n:=k) (s:=()) (by omega) trivial).trans CC
 · simp only [hn]
   simp (disch:=omega) only [dY.l0,dY.b0,aP,aK,fE k,ab,lw,ac]
 · have hb:=zX h0 h1 hx
   have ih:=ih () trivial
   simp only [hn] at *
   simp (disch:=omega) only [dY.l0,dY.b0,aO h1,ac,aH,hb,aD,ih,lw]
   by_cases c1:97≤x
   · rw [aO (show (x:Int)≥97 by omega),ac]
     by_cases c2:x≤122
     · rw [aO (show (x:Int)≤122 by omega),ac,aO (show 97≤x∧x≤122 from ⟨c1,c2⟩)]
       rfl
     · rw [aP (show ¬ (x:Int)≤122 by omega),aK,aP (show ¬ (97≤x∧x≤122) by omega),aO (show (x:Int)≥48 by omega),ac,aP (show ¬ (x:Int)≤57 by omega),aP (show ¬ (48≤x∧x≤57) by omega)]
       rfl
   · rw [aP (show ¬ (x:Int)≥97 by omega),aK,aP (show ¬ (97≤x∧x≤122) by omega)]
     by_cases c3:48≤x
     · rw [aO (show (x:Int)≥48 by omega),ac]
       by_cases c4:x≤57
       · rw [aO (show (x:Int)≤57 by omega),aO (show 48≤x∧x≤57 from ⟨c3,c4⟩)]
         rfl
       · rw [aP (show ¬ (x:Int)≤57 by omega),aP (show ¬ (48≤x∧x≤57) by omega)]
         rfl
     · rw [aP (show ¬ (x:Int)≥48 by omega),aK,aP (show ¬ (48≤x∧x≤57) by omega)]
       rfl
theorem uU {k:Nat} (hk:2 ^ 50≤k) {s:ByteArray} (hs:s.size≤1099511627776):fe.f k s=some (jr s,()):=by
 unfold fe.f fe.t
 have hn:=cP s
 refine (eG (L:=fun n i (_:Unit)=>fe.l0 k n s i) (R:=fun r _=>some ((bif lw r then decide (1≤(s.size:Int)∧(s.size:Int)≤12) else false),())) 0 (nb s) (fun _ _=>True) (fun n _ _=>?_) (fun n i _ x rest h0 h1 hx hr hp ih=>?_) (n:=k) (s:=()) (by omega) trivial).trans CC
 · simp only [hn]
   simp (disch:=omega) only [fe.l0,fe.b0,aP,aK,lf k,ab,lw,ac]
 · have hb:=zX h0 h1 hx
   have ih:=ih () trivial
   simp only [hn] at *
   simp (disch:=omega) only [fe.l0,fe.b0,aO h1,ac,aH,hb,aD,ih,lw]
   by_cases c1:97≤x
   · rw [aO (show (x:Int)≥97 by omega),ac]
     by_cases c2:x≤122
     · rw [aO (show (x:Int)≤122 by omega),aO (show 97≤x∧x≤122 from ⟨c1,c2⟩)]
       rfl
     · rw [aP (show ¬ (x:Int)≤122 by omega),aP (show ¬ (97≤x∧x≤122) by omega),aO (show (x:Int)≥48 by omega),aP (show ¬ (x:Int)≤57 by omega),aP (show ¬ (48≤x∧x≤57) by omega)]
       rfl
   · rw [aP (show ¬ (x:Int)≥97 by omega),aK,aP (show ¬ (97≤x∧x≤122) by omega)]
     by_cases c3:48≤x
     · rw [aO (show (x:Int)≥48 by omega),ac]
       by_cases c4:x≤57
       · rw [aO (show (x:Int)≤57 by omega),aO (show 48≤x∧x≤57 from ⟨c3,c4⟩)]
         rfl
       · rw [aP (show ¬ (x:Int)≤57 by omega),aP (show ¬ (48≤x∧x≤57) by omega)]
         rfl
     · rw [aP (show ¬ (x:Int)≥48 by omega),aK,aP (show ¬ (48≤x∧x≤57) by omega)]
       rfl
abbrev bn:=List (Ty.d dJ)
def e6 (l:bn):Nat:=(l.map fun f=>f.2.1.size).sum
def pA (l:bn):Nat:=(l.map fun f=>f.1.size).sum
theorem fL (x:Ty.d dJ) (l:bn):e6 (x::l)=x.2.1.size+e6 l:=by unfold e6;rw [List.map_cons,List.sum_cons]
theorem vx:e6 []=0:=rfl
theorem wz (x:Ty.d dJ) (l:bn):pA (x::l)=x.1.size+pA l:=by unfold pA;rw [List.map_cons,List.sum_cons]
theorem xJ:∀ l m:bn,e6 (l++m)=e6 l+e6 m
 | [],m=>by rw [List.nil_append,vx,Nat.zero_add]
 | x::l,m=>by rw [List.cons_append,fL,fL,xJ l m];omega
theorem s9 {l:bn} {x:Ty.d dJ} (h:x ∈ l):x.2.1.size≤e6 l:=by
 induction l with
 | nil=>cases h
 | cons y l ih =>
  rw [fL]
  rcases List.mem_cons.1 h with e | e
  · subst e;omega
  · have:=ih e;omega
theorem oD {l:bn} {x:Ty.d dJ} (h:x ∈ l):x.1.size≤pA l:=by
 induction l with
 | nil=>cases h
 | cons y l ih =>
  rw [wz]
  rcases List.mem_cons.1 h with e | e
  · subst e;omega
  · have:=ih e;omega
def mI (p:Option (Ty.d dJ)) (x:Ty.d dJ):Bool :=
 jr x.1&&(decide ((0:Int)≤x.2.2.1∧x.2.2.1≤(x.2.1.size:Int))&&(match p with | none=>true | some y=>mo y.1 x.1))
def gd (d:Ty.d aA):Bool :=
 decide (d.1.length≤130)&&(decide ((0:Int)≤d.2.1∧d.2.1≤(100000:Int))&&(decide ((-1:Int)≤d.2.2.1∧d.2.2.1≤(100000:Int))&&(decide ((e6 d.1:Int)≤d.2.1)&&nJ mI none d.1)))
theorem pT {k:Nat} (hk:2 ^ 50≤k) {d:Ty.d aA} (hl:d.1.length≤1099511627776) (hu:e6 d.1≤1099511627776):dW.f k d=some ((e6 d.1:Int),()):=by
 unfold dW.f dW.t
 refine (eG (L:=fun n i s=>dW.l0 k n s i d.1 d.2.1 d.2.2.1 d.2.2.2.1) (R:=fun r s=>some (s+(e6 r:Int),())) (Ty.z dJ) d.1 (fun i s=>0≤s∧s+(e6 (d.1.drop i.toNat):Int)≤1099511627776) (fun n s hs=>?_) (fun n i s x rest h0 h1 hx hr hp ih=>?_) (n:=k) (s:=0) (by omega) ⟨by omega,by rw [show d.1.drop (Int.toNat 0)=d.1 from rfl];omega⟩).trans (by rw [Int.zero_add])
 · simp (disch:=omega) only [dW.l0,dW.b0,aP,aK]
   show some (s,())=some (s+((0:Nat):Int),())
   rw [show s+((0:Nat):Int)=s by omega]
 · have hrest:d.1.drop (i+1).toNat=rest:=by
    have:=congrArg (List.drop 1) hr
    rw [List.drop_drop,List.drop_one,List.tail_cons] at this
    rw [show (i+1).toNat=i.toNat+1 by omega]
    exact this
   rw [hr,fL] at hp
   have ih:=ih (s+(x.2.1.size:Int)) ⟨by omega,by rw [hrest];omega⟩
   simp (disch:=omega) only [dW.l0,dW.b0,aO h1,ac,aH,hx,aD,ih]
   rw [show s+(x.2.1.size:Int)+(e6 rest:Int)=s+((x.2.1.size+e6 rest:Nat):Int) by omega]
   show _=some (s+((e6 (x::rest):Nat):Int),())
   rw [fL]
theorem j_ {k:Nat} (hk:2 ^ 50≤k) {d:Ty.d aA} (hu:e6 d.1≤1099511627776) (hn:pA d.1≤1099511627776):bE.f k d=some (gd d,()):=by
 unfold bE.f bE.t gd
 by_cases c:d.1.length > 130
 · rw [aO (by omega),ac,aP (by omega),Bool.false_and]
 · rw [aP (by omega),aK,aO (by omega),Bool.true_and,fE,ab]
   cases decide ((0:Int)≤d.2.1∧d.2.1≤(100000:Int)) with
   | false=>rfl
   | true =>
    rw [fh,aK,fE,ab,Bool.true_and]
    cases decide ((-1:Int)≤d.2.2.1∧d.2.2.1≤(100000:Int)) with
    | false=>rfl
    | true =>
     rw [fh,aK,pT hk (by omega) hu,ab,Bool.true_and]
     simp only []
     by_cases cu:(e6 d.1:Int) > d.2.1
     · rw [aO cu,ac,aP (by omega),Bool.false_and]
     · rw [aP cu,aK,aO (by omega),Bool.true_and]
       refine (pk (L:=fun n i=>bE.l0 k n i d.1 d.2.1 d.2.2.1 d.2.2.2.1) (Ty.z dJ) d.1 mI (some (true,())) (some (false,())) (fun n=>?_) (fun n x h hx=>?_) (fun n i x y h0 h1 hx hy=>?_) (n:=k) (by omega)).trans (by cases nJ mI none d.1 <;> rfl)
       · simp (disch:=omega) only [bE.l0,bE.b0,aP,aK]
       · have hm:x ∈ d.1:=by rw [← hx];exact iJ (by omega)
         have hs:=oD hm
         simp (disch:=omega) only [bE.l0,bE.b0,aO (show (0:Int)<(d.1.length:Int) by omega),ac,aH,hx,nG hk,fE k,ab,aP (show ¬ (0:Int) > 0 by omega),aK,aD,mI]
         cases jr x.1 <;> cases decide ((0:Int)≤x.2.2.1∧x.2.2.1≤(x.2.1.size:Int)) <;> rfl
       · have hm:x ∈ d.1:=by rw [← hx];exact iJ (by omega)
         have hs:=oD hm
         simp (disch:=omega) only [bE.l0,bE.b0,aO h1,ac,aH,hx,hy,nG hk,fE k,ab,aO (show i > 0 by omega),aK,aD,mI,li]
         cases jr x.1 <;> cases decide ((0:Int)≤x.2.2.1∧x.2.2.1≤(x.2.1.size:Int)) <;> cases mo y.1 x.1 <;> rfl
theorem y8 {l:bn} {i:Nat} {x:Ty.d dJ} (h:i<l.length) (hx:l.getD i (Ty.z dJ)=x):e6 (l.take (i+1))=e6 (l.take i)+x.2.1.size:=by
 rw [List.take_add_one,xJ]
 congr 1
 simp only [List.getD,List.getElem?_eq_getElem h,Option.getD_some] at hx
 rw [List.getElem?_eq_getElem h,hx]
 show e6 [x]=_
 rw [fL,vx,Nat.add_zero]
theorem sK (l:bn) (i:Nat):e6 (l.take i)≤e6 l:=by
 have:=xJ (l.take i) (l.drop i)
 rw [List.take_append_drop] at this
 omega
theorem u9 {k:Nat} (hk:2 ^ 50≤k) {d:Ty.d aA} (hu:e6 d.1≤1099511627776) (hn:pA d.1≤1099511627776):db.f k d=some (gd d,()):=by
 unfold db.f db.t gd
 by_cases c:d.1.length > 130
 · rw [aO (by omega),ac,aP (by omega),Bool.false_and]
 · rw [aP (by omega),aK,aO (by omega),Bool.true_and,lf,ab]
   cases decide ((0:Int)≤d.2.1∧d.2.1≤(100000:Int)) with
   | false=>rfl
   | true =>
    rw [fh,aK,lf,ab,Bool.true_and]
    cases decide ((-1:Int)≤d.2.2.1∧d.2.2.1≤(100000:Int)) with
    | false=>rfl
    | true =>
     rw [fh,aK,Bool.true_and]
     refine (pk (L:=fun n i=>db.l0 k n (e6 (d.1.take i.toNat):Int) d.1 d.1.length i d.1 d.2.1 d.2.2.1 d.2.2.2.1) (Ty.z dJ) d.1 mI (some (decide ((e6 d.1:Int)≤d.2.1),())) (some (false,())) (fun n=>?_) (fun n x h hx=>?_) (fun n i x y h0 h1 hx hy=>?_) (n:=k) (by omega)).trans
      (by cases nJ mI none d.1 <;> cases decide ((e6 d.1:Int)≤d.2.1) <;> rfl)
     · rw [Int.toNat_natCast,List.take_length]
       simp (disch:=omega) only [db.l0,db.b0,aP,aK]
     · have hm:x ∈ d.1:=by rw [← hx];exact iJ (by omega)
       have hs:=oD hm
       have ht:=y8 (l:=d.1) (i:=0) h hx
       have hle:=sK d.1 0
       have hz:=s9 hm
       rw [show Int.toNat 1=0+1 from rfl,ht]
       simp only [show Int.toNat 0=0 from rfl] at hx ⊢
       simp (disch:=omega) only [db.l0,db.b0,aO (show (0:Int)<(d.1.length:Int) by omega),ac,aH,show Int.toNat 0=0 from rfl,hx,uU hk,lf k,ab,aP (show ¬ (0:Int) > 0 by omega),aK,aD,mI]
       rw [show (e6 (d.1.take 0):Int)+(x.2.1.size:Int)=((e6 (d.1.take 0)+x.2.1.size:Nat):Int) by omega]
       cases jr x.1 <;> cases decide ((0:Int)≤x.2.2.1∧x.2.2.1≤(x.2.1.size:Int)) <;> rfl
     · have hm:x ∈ d.1:=by rw [← hx];exact iJ (by omega)
       have hs:=oD hm
       have ht:=y8 (l:=d.1) (i:=i.toNat) (by omega) hx
       have hle:=sK d.1 i.toNat
       have hz:=s9 hm
       rw [show Int.toNat (i+1)=i.toNat+1 by omega,ht]
       simp (disch:=omega) only [db.l0,db.b0,aO h1,ac,aH,hx,hy,uU hk,lf k,ab,aO (show i > 0 by omega),aK,aD,mI]
       rw [show (e6 (d.1.take i.toNat):Int)+(x.2.1.size:Int)=((e6 (d.1.take i.toNat)+x.2.1.size:Nat):Int) by omega]
       cases jr x.1 <;> cases decide ((0:Int)≤x.2.2.1∧x.2.2.1≤(x.2.1.size:Int)) <;> cases mo y.1 x.1 <;> rfl
def kN:bn→ByteArray→Int→Int
 | [],_,_ => -1
 | f::l,s,i=>bif seq f.1 s then i else kN l s (i+1)
def bh:bn→ByteArray→Option (Ty.d dJ)
 | [],_=>none
 | f::l,s=>bif seq f.1 s then some f else bh l s
theorem sX:∀ (l:bn) (s:ByteArray) (i:Int),(bh l s=none∧kN l s i = -1)∨(∃ f,bh l s=some f∧i≤kN l s i∧kN l s i<i+(l.length:Int)∧l.getD (kN l s i-i).toNat (Ty.z dJ)=f∧f ∈ l)
 | [],s,i => .inl ⟨rfl,rfl⟩
 | f::l,s,i=>by
  unfold kN bh
  cases c:seq f.1 s with
  | true=>exact .inr ⟨f,rfl,Int.le_refl _,by rw [ac,kJ];omega,by rw [ac,show (i-i).toNat=0 by omega];rfl,jd ..⟩
  | false =>
   rw [aK,aK]
   rcases sX l s (i+1) with h | ⟨g,h1,h2,h3,h4,h5⟩
   · exact .inl h
   · refine .inr ⟨g,h1,by omega,by rw [kJ];omega,?_,lL _ h5⟩
     rw [show (kN l s (i+1)-i).toNat=(kN l s (i+1)-(i+1)).toNat+1 by omega]
     exact h4
theorem h9 {k:Nat} (hk:2 ^ 50≤k) {d:Ty.d aA} (hl:d.1.length≤1099511627776) (s:ByteArray):b_.f k d s=some (kN d.1 s 0,()):=by
 unfold b_.f b_.t
 refine eG (L:=fun n i (_:Int)=>b_.l0 k n s i d.1 d.2.1 d.2.2.1 d.2.2.2.1) (R:=fun r j=>some (kN r s j,())) (Ty.z dJ) d.1 (fun i j=>j=i) (fun n j hj=>?_) (fun n i j x rest h0 h1 hx hr hp ih=>?_) (n:=k) (s:=0) (by omega) rfl
 · simp (disch:=omega) only [b_.l0,b_.b0,aP,aK,kN]
 · have ih:=ih (i+1) rfl
   subst hp
   simp (disch:=omega) only [b_.l0,b_.b0,aO h1,ac,aH,hx,aD,ih,kN]
   cases seq x.1 s <;> rfl
theorem BM {k:Nat} (hk:2 ^ 50≤k) {d:Ty.d aA} (hl:d.1.length≤1099511627776) (s:ByteArray):fc.f k d s=some (kN d.1 s 0,()):=by
 unfold fc.f fc.t
 refine eG (L:=fun n i (_:Int)=>fc.l0 k n s d.1 d.1.length i) (R:=fun r j=>some (kN r s j,())) (Ty.z dJ) d.1 (fun i j=>j=i) (fun n j hj=>?_) (fun n i j x rest h0 h1 hx hr hp ih=>?_) (n:=k) (s:=0) (by omega) rfl
 · simp (disch:=omega) only [fc.l0,fc.b0,aP,aK,kN]
 · have ih:=ih (i+1) rfl
   subst hp
   simp (disch:=omega) only [fc.l0,fc.b0,aO h1,ac,aH,hx,aD,ih,kN]
   cases seq x.1 s <;> rfl
def aT (d:Ty.d aA) (s:ByteArray):ByteArray × Bool :=
 bif gd d then (match bh d.1 s with | none=>(⟨#[]⟩,false) | some f=>(f.2.1,true)) else (⟨#[]⟩,false)
theorem fo (d:Ty.d aA) (s:ByteArray):(aT d s).1.size≤e6 d.1:=by
 unfold aT
 cases gd d with
 | false=>exact Nat.zero_le _
 | true =>
  rw [ac]
  rcases sX d.1 s 0 with h | ⟨f,h1,_,_,_,h5⟩
  · rw [h.1];exact Nat.zero_le _
  · rw [h1];exact s9 h5
theorem gS {k:Nat} (hk:2 ^ 50≤k) {d:Ty.d aA} (hl:d.1.length≤1099511627776) (hu:e6 d.1≤1099511627776) (hn:pA d.1≤1099511627776) (s:ByteArray) :
 ba.f k d s=some ((aT d s).1,((aT d s).2,())):=by
 unfold ba.f ba.t aT
 rw [j_ hk hu hn,ab]
 cases gd d with
 | false=>rfl
 | true =>
  rw [h9 hk hl]
  simp only [ab,fh,aK,ac]
  rcases sX d.1 s 0 with h | ⟨f,h1,h2,h3,h4,h5⟩
  · rw [h.1,h.2];rfl
  · rw [h1,aP (by omega),aK,aH h2 (by omega)]
    rw [Int.sub_zero] at h4
    rw [h4]
theorem pa {k:Nat} (hk:2 ^ 50≤k) {d:Ty.d aA} (hl:d.1.length≤1099511627776) (hu:e6 d.1≤1099511627776) (hn:pA d.1≤1099511627776) (s:ByteArray) :
 fO.f k d s=some ((aT d s).1,((aT d s).2,())):=by
 unfold fO.f fO.t aT
 rw [BM hk hl,ab]
 simp only []
 rcases sX d.1 s 0 with h | ⟨f,h1,h2,h3,h4,h5⟩
 · rw [h.1,h.2]
   cases gd d <;> rfl
 · rw [h1,aP (by omega),aK,u9 hk hu hn,ab]
   cases gd d with
   | false=>rfl
   | true =>
    simp only [fh,aK,ac]
    rw [aH h2 (by omega)]
    rw [Int.sub_zero] at h4
    rw [h4]
def a_ (p:ByteArray) (n:Int):ByteArray:=bif decide ((1:Int)≤n∧n≤100000) then p++gX n else ⟨#[]⟩
def aF:ByteArray:=⟨#[115,101,103]⟩
theorem bU {k:Nat} (hk:2 ^ 50≤k) (n:Int):aU.f k n=some (a_ aF n,()):=by
 unfold aU.f aU.t a_
 rw [fE,ab]
 by_cases c:(1:Int)≤n∧n≤100000
 · have hz:=my (n:=n) (by omega) (by omega)
   rw [aO c]
   simp only [fh,aK,ac]
   rw [p6 hk (by omega) (by omega),ab,e7 (by show 3+(gX n).size≤_;omega)]
   rfl
 · rw [aP c]
   rfl
theorem zc (k:Nat) {p:ByteArray} (hp:p.size≤1000) (n:Int):jj.f k p n=some (a_ p n,()):=by
 unfold jj.f jj.t a_
 rw [lf,ab]
 by_cases c:(1:Int)≤n∧n≤100000
 · have hz:=my (n:=n) (by omega) (by omega)
   rw [aO c]
   simp only [fh,aK,ac]
   rw [Cg k (by omega) (by omega),ab,e7 (by show p.size+(gX n).size≤_;omega)]
 · rw [aP c]
   rfl
theorem md (k:Nat) (n:Int):fq.f k n=some (a_ aF n,()):=by
 unfold fq.f fq.t
 rw [zc k (by decide) n]
 rfl
structure zE (d:Ty.d aA):Prop where
 l:d.1.length≤1073741824
 u:e6 d.1≤1073741824
 n:pA d.1≤1073741824
end Go.Proofs.YtnpijgnfpdcjbaaGreatDoor.G
namespace Go.V
theorem w8:∀ a b c:List UInt8,Op.bytesLess a b=true→Op.bytesLess b c=true→Op.bytesLess a c=true
 | a,b,[],_,h2=>by cases b <;> simp [Op.bytesLess] at h2
 | [],b,z::c,_,_=>by simp [Op.bytesLess]
 | x::a,[],z::c,h1,_=>by simp [Op.bytesLess] at h1
 | x::a,y::b,z::c,h1,h2=>by
  simp only [Op.bytesLess] at h1 h2 ⊢
  have ih:=w8 a b c
  simp only [Bool.or_eq_true,gN,decide_eq_true_eq,beq_iff_eq] at h1 h2 ⊢
  rcases h1 with g1 | ⟨rfl,g1⟩
  · rcases h2 with g2 | ⟨rfl,g2⟩
    · exact Or.inl (UInt8.lt_trans g1 g2)
    · exact Or.inl g1
  · rcases h2 with g2 | ⟨rfl,g2⟩
    · exact Or.inl g2
    · exact Or.inr ⟨rfl,ih g1 g2⟩
theorem oO {a b c:ByteArray} (h1:mo a b=true) (h2:mo b c=true):mo a c=true:=w8 _ _ _ h1 h2
theorem oQ (a:ByteArray):mo a a=false:=by
 have:=li a a
 rw [bV] at this
 cases h:mo a a with
 | false=>rfl
 | true=>rw [h] at this;cases this
def cW (K:List ByteArray):Prop:=K.Pairwise (fun a b=>mo a b=true)
end Go.V
namespace Go.Proofs.YtnpijgnfpdcjbaaGreatDoor.G
open Go.V
def lY:bn→Ty.d dJ→bn
 | [],f=>[f]
 | g::l,f=>bif mo f.1 g.1 then f::g::l else g::lY l f
def kG:bn→ByteArray→bn
 | [],_=>[]
 | g::l,s=>bif seq g.1 s then l else g::kG l s
def lI (h:Ty.d dJ→Ty.d dJ):bn→ByteArray→bn
 | [],_=>[]
 | g::l,s=>bif seq g.1 s then h g::l else g::lI h l s
def jF (d:Ty.d aA):Ty.d aA × Int :=
 bif !gd d then (d,5) else bif d.2.2.2.1 then ((d.1,(d.2.1,(d.2.2.1,(true,())))),1) else bif (d.2.2.1==0) then ((d.1,(d.2.1,(d.2.2.1,(true,())))),1) else
 bif decide ((d.2.2.1:Int) > 0) then ((d.1,(d.2.1,(aJ (d.2.2.1-1),d.2.2.2))),0) else (d,0)
def ik (d:Ty.d aA) (g:bn→Int→bn × Int):Ty.d aA × Int :=
 bif (jF d).2 != 0 then jF d else (((g d.1 d.2.1).1,(jF d).1.2),(g d.1 d.2.1).2)
def th (s:ByteArray) (l:bn) (c:Int):bn × Int :=
 bif !jr s then (l,5) else bif (bh l s).isSome then (l,4) else bif decide ((l.length:Int)≥130) then (l,2) else (lY l (s,(ByteArray.empty,(0,()))),0)
def AM (s t:ByteArray) (l:bn) (c:Int):bn × Int :=
 bif (bh l s).isNone then (l,3) else bif decide ((t.size:Int) > aJ (c-(e6 l:Int))) then (l,2) else (lI (fun f=>(f.1,(f.2.1++t,f.2.2))) l s,0)
def uf (s:ByteArray) (l:bn) (c:Int):bn × Int :=
 bif (bh l s).isNone then (l,3) else (lI (fun f=>(f.1,(f.2.1,((f.2.1.size:Int),f.2.2.2)))) l s,0)
def BZ (a b:ByteArray) (l:bn) (c:Int):bn × Int :=
 bif !jr b then (l,5) else match bh l a with
 | none=>(l,3)
 | some f=>bif seq a b then (l,0) else (lY (kG (kG l a) b) (b,f.2),0)
def B5 (s:ByteArray) (l:bn) (c:Int):bn × Int :=
 bif (bh l s).isNone then (l,3) else (kG l s,0)
def FY (s:ByteArray) (n:Int) (l:bn) (c:Int):bn × Int :=
 match bh l s with
 | none=>(l,3)
 | some f=>bif !decide (0≤n∧n≤(f.2.1.size:Int)) then (l,5) else (lI (fun f=>(f.1,(ByteArray.extract f.2.1 0 n.toNat,((if n<f.2.2.1 then n else f.2.2.1),f.2.2.2)))) l s,0)
def vQ (d:Ty.d aA) (s:ByteArray):=ik d (th s)
def iD (d:Ty.d aA) (s t:ByteArray):=ik d (AM s t)
def fm (d:Ty.d aA) (s:ByteArray):=ik d (uf s)
def Ae (d:Ty.d aA) (a b:ByteArray):=ik d (BZ a b)
def ur (d:Ty.d aA) (s:ByteArray):=ik d (B5 s)
def xF (d:Ty.d aA) (s:ByteArray) (n:Int):=ik d (FY s n)
theorem ox (d:Ty.d aA):(jF d).1.1=d.1:=by
 unfold jF
 cases gd d <;> cases d.2.2.2.1 <;> cases d.2.2.1==0 <;> cases decide ((d.2.2.1:Int) > 0) <;> rfl
theorem GU (d:Ty.d aA):(jF d).1.2.1=d.2.1:=by
 unfold jF
 cases gd d <;> cases d.2.2.2.1 <;> cases d.2.2.1==0 <;> cases decide ((d.2.2.1:Int) > 0) <;> rfl
theorem jY:∀ (l:bn) (s:ByteArray) (j:Int),(bh l s=none∧kN l s j = -1∧kG l s=l∧∀ h,lI h l s=l) ∨
 (∃ n:Nat,n<l.length∧kN l s j=j+n∧bh l s=some (l.getD n (Ty.z dJ))∧l.take n++l.drop (n+1)=kG l s∧(l.getD n (Ty.z dJ)).1=s∧(∀ h,l.set n (h (l.getD n (Ty.z dJ)))=lI h l s))
 | [],s,j => .inl ⟨rfl,rfl,rfl,fun _=>rfl⟩
 | g::l,s,j=>by
  unfold kN bh kG lI
  cases c:seq g.1 s with
  | true =>
   refine .inr ⟨0,by rw [kJ];omega,?_,rfl,rfl,dr.1 c,fun h=>rfl⟩
   show j=j+((0:Nat):Int)
   omega
  | false =>
   simp only [aK]
   rcases jY l s (j+1) with ⟨h1,h2,h3,h4⟩ | ⟨n,h1,h2,h3,h4,h5,h6⟩
   · exact .inl ⟨h1,h2,by rw [h3],fun h=>by rw [h4]⟩
   · refine .inr ⟨n+1,by rw [kJ];omega,by rw [h2];omega,h3,?_,h5,fun h=>?_⟩
     · rw [List.take_succ_cons,List.drop_succ_cons,List.cons_append,h4]
     · show g::l.set n (h (l.getD n (Ty.z dJ)))=_
       rw [h6]
def FO (f:Ty.d dJ):Prop:=jr f.1=true∧LE.le (α:=Int) 0 f.2.2.1∧LE.le (α:=Int) f.2.2.1 f.2.1.size
def lJ (l:bn):List ByteArray:=l.map (·.1)
theorem Al:∀ (l:bn) (p:Option (Ty.d dJ)),nJ mI p l=true↔((∀ f ∈ l,FO f)∧cW (lJ l)∧(∀ q,p=some q→∀ f ∈ l,mo q.1 f.1=true))
 | [],p=>by
  constructor
  · intro _
    exact ⟨fun f h=>(by cases h),List.Pairwise.nil,fun q _ f h=>(by cases h)⟩
  · intro _;rfl
 | g::l,p=>by
  have ih:=Al l (some g)
  unfold nJ
  rw [gN,ih]
  have hf:mI p g=true↔(FO g∧(∀ q,p=some q→mo q.1 g.1=true)):=by
   unfold mI FO
   rw [gN,gN,decide_eq_true_eq]
   cases p with
   | none=>exact ⟨fun h=>⟨⟨h.1,h.2.1⟩,fun q hq=>(by cases hq)⟩,fun h=>⟨h.1.1,h.1.2,rfl⟩⟩
   | some q=>exact ⟨fun h=>⟨⟨h.1,h.2.1⟩,fun q' hq=>(by cases hq;exact h.2.2)⟩,fun h=>⟨h.1.1,h.1.2,h.2 q rfl⟩⟩
  rw [hf]
  constructor
  · rintro ⟨⟨h1,h2⟩,h3,h4,h5⟩
    refine ⟨fun f hf=>?_,?_,fun q hq f hf=>?_⟩
    · rcases List.mem_cons.1 hf with e | e
      · rw [e];exact h1
      · exact h3 f e
    · unfold cW lJ
      rw [List.map_cons,List.pairwise_cons]
      refine ⟨fun x hx=>?_,h4⟩
      obtain ⟨f,hf,rfl⟩:=List.mem_map.1 hx
      exact h5 g rfl f hf
    · rcases List.mem_cons.1 hf with e | e
      · rw [e];exact h2 q hq
      · exact oO (h2 q hq) (h5 g rfl f e)
  · rintro ⟨h1,h2,h3⟩
    unfold cW lJ at h2
    rw [List.map_cons,List.pairwise_cons] at h2
    refine ⟨⟨h1 g (jd ..),fun q hq=>h3 q hq g (jd ..)⟩,fun f hf=>h1 f (lL _ hf),h2.2,fun q hq f hf=>?_⟩
    cases hq
    exact h2.1 f.1 (List.mem_map.2 ⟨f,hf,rfl⟩)
structure DR (d:Ty.d aA):Prop where
 len:d.1.length≤130
 cap0:LE.le (α:=Int) 0 d.2.1
 cap1:LE.le (α:=Int) d.2.1 100000
 fu0:LE.le (α:=Int) (-1) d.2.2.1
 fu1:LE.le (α:=Int) d.2.2.1 100000
 use:LE.le (α:=Int) (e6 d.1) d.2.1
 all:∀ f ∈ d.1,FO f
 keys:cW (lJ d.1)
theorem jQ {d:Ty.d aA}:gd d=true↔DR d:=by
 unfold gd
 rw [gN,gN,gN,gN,decide_eq_true_eq,decide_eq_true_eq,decide_eq_true_eq,decide_eq_true_eq,Al]
 constructor
 · rintro ⟨h1,⟨h2,h3⟩,⟨h4,h5⟩,h6,h7,h8,_⟩
   exact ⟨h1,h2,h3,h4,h5,h6,h7,h8⟩
 · intro h
   exact ⟨h.len,⟨h.cap0,h.cap1⟩,⟨h.fu0,h.fu1⟩,h.use,h.all,h.keys,fun q hq=>(by cases hq)⟩
theorem DT {s:ByteArray} (h:jr s=true):1≤s.size∧s.size≤12:=by
 unfold jr at h
 rw [gN,decide_eq_true_eq] at h
 exact h.2
theorem Bn:∀ l:bn,(∀ f ∈ l,FO f)→pA l≤12*l.length
 | [],_=>Nat.le_refl _
 | f::l,h=>by
  have:=Bn l fun g hg=>h g (lL _ hg)
  have:=(DT (h f (jd ..)).1).2
  rw [wz,kJ]
  omega
theorem DR.sz {d:Ty.d aA} (h:DR d):zE d:=by
 have h1:=h.len
 have h2:=h.use
 have h3:=h.cap1
 have h4:=Bn d.1 h.all
 exact ⟨by omega,by omega,by omega⟩
theorem zA {l:bn} {f x:Ty.d dJ}:x ∈ lY l f↔x=f∨x ∈ l:=by
 induction l with
 | nil=>simp [lY]
 | cons g l ih =>
  unfold lY
  cases mo f.1 g.1
  · simp only [aK,List.mem_cons,ih]
    exact ⟨fun h=>h.elim (fun q => .inr (.inl q)) (fun q=>q.elim .inl (fun q => .inr (.inr q))),fun h=>h.elim (fun q => .inr (.inl q)) (fun q=>q.elim .inl (fun q => .inr (.inr q)))⟩
  · simp only [ac,List.mem_cons]
theorem oi:∀ (l:bn) (s:ByteArray),(kG l s).Sublist l
 | [],s=>List.Sublist.slnil
 | g::l,s=>by
  unfold kG
  cases seq g.1 s
  · exact (oi l s).cons_cons g
  · exact (List.Sublist.refl l).cons g
theorem EB {h:Ty.d dJ→Ty.d dJ} (hh:∀ f,(h f).1=f.1):∀ (l:bn) (s:ByteArray),lJ (lI h l s)=lJ l
 | [],s=>rfl
 | g::l,s=>by
  unfold lI
  cases seq g.1 s
  · show g.1::lJ (lI h l s)=g.1::lJ l
    rw [EB hh l s]
  · show (h g).1::lJ l=g.1::lJ l
    rw [hh]
theorem vd {h:Ty.d dJ→Ty.d dJ} (hh:∀ f,(h f).1=f.1) {l:bn} {s:ByteArray} (hk:cW (lJ l)):cW (lJ (lI h l s)):=by
 rw [EB hh]
 exact hk
theorem ux {h:Ty.d dJ→Ty.d dJ}:∀ {l:bn} {s:ByteArray} {x:Ty.d dJ},x ∈ lI h l s→x ∈ l∨∃ f,bh l s=some f∧x=h f
 | [],s,x,hx => .inl hx
 | g::l,s,x,hx=>by
  unfold lI at hx
  unfold bh
  cases c:seq g.1 s with
  | true =>
   rw [c,ac] at hx
   rcases List.mem_cons.1 hx with e | e
   · exact .inr ⟨g,rfl,e⟩
   · exact .inl (lL _ e)
  | false =>
   rw [c,aK] at hx
   rcases List.mem_cons.1 hx with e | e
   · exact .inl (by rw [e];exact jd ..)
   · rcases ux e with q | ⟨f,q1,q2⟩
     · exact .inl (lL _ q)
     · exact .inr ⟨f,q1,q2⟩
theorem sW {h:Ty.d dJ→Ty.d dJ}:∀ {l:bn} {s:ByteArray} {f:Ty.d dJ},bh l s=some f→e6 (lI h l s)+f.2.1.size=e6 l+(h f).2.1.size
 | [],s,f,hf=>by cases hf
 | g::l,s,f,hf=>by
  unfold bh at hf
  unfold lI
  cases c:seq g.1 s with
  | true =>
   rw [c] at hf
   cases hf
   rw [ac,fL,fL]
   omega
  | false =>
   rw [c] at hf
   have:=sW (h:=h) hf
   rw [aK,fL,fL]
   omega
theorem vo:∀ (l:bn) (f:Ty.d dJ),e6 (lY l f)=e6 l+f.2.1.size
 | [],f=>by unfold lY;rw [fL,vx,Nat.add_comm]
 | g::l,f=>by
  unfold lY
  cases mo f.1 g.1
  · rw [aK,fL,fL,vo l f];omega
  · rw [ac,fL,fL];omega
theorem vU:∀ {l:bn} {s:ByteArray} {f:Ty.d dJ},bh l s=some f→e6 (kG l s)+f.2.1.size=e6 l
 | [],s,f,hf=>by cases hf
 | g::l,s,f,hf=>by
  unfold bh at hf
  unfold kG
  cases c:seq g.1 s with
  | true=>rw [c] at hf;cases hf;rw [ac,fL];omega
  | false =>
   rw [c] at hf
   have:=vU hf
   rw [aK,fL,fL]
   omega
theorem tv (l:bn) (s:ByteArray):e6 (kG l s)≤e6 l:=by
 cases h:bh l s with
 | some f=>have:=vU h;omega
 | none =>
  rcases jY l s 0 with ⟨_,_,h3,_⟩ | ⟨n,_,_,h3,_⟩
  · rw [h3];exact Nat.le_refl _
  · rw [h] at h3;cases h3
theorem zw:∀ (l:bn) (f:Ty.d dJ),(lY l f).length=l.length+1
 | [],f=>rfl
 | g::l,f=>by
  unfold lY
  cases mo f.1 g.1
  · rw [aK,kJ,zw l f,kJ]
  · rw [ac,kJ,kJ]
theorem vG (h:Ty.d dJ→Ty.d dJ):∀ (l:bn) (s:ByteArray),(lI h l s).length=l.length
 | [],s=>rfl
 | g::l,s=>by
  unfold lI
  cases seq g.1 s
  · rw [aK,kJ,vG h l s,kJ]
  · rw [ac,kJ,kJ]
theorem nE:∀ {l:bn} {s:ByteArray} {f:Ty.d dJ},bh l s=some f→f ∈ l∧f.1=s
 | [],s,f,h=>by cases h
 | g::l,s,f,h=>by
  unfold bh at h
  cases c:seq g.1 s with
  | true=>rw [c] at h;cases h;exact ⟨jd ..,dr.1 c⟩
  | false =>
   rw [c] at h
   exact ⟨lL _ (nE h).1,(nE h).2⟩
theorem qC:∀ {l:bn} {s:ByteArray},bh l s=none↔∀ f ∈ l,f.1≠s
 | [],s=>⟨fun _ f h=>(by cases h),fun _=>rfl⟩
 | g::l,s=>by
  unfold bh
  cases c:seq g.1 s with
  | true =>
   constructor
   · intro h;cases h
   · intro h;exact absurd (dr.1 c) (h g (jd ..))
  | false =>
   rw [aK,qC]
   constructor
   · intro h f hf
     rcases List.mem_cons.1 hf with e | e
     · rw [e];intro q;rw [Io q] at c;cases c
     · exact h f e
   · intro h f hf;exact h f (lL _ hf)
theorem wB {f:Ty.d dJ}:∀ {l:bn},cW (lJ l)→(∀ g ∈ l,g.1≠f.1)→cW (lJ (lY l f))
 | [],_,_=>by unfold lY;exact List.pairwise_singleton ..
 | g::l,h,hn=>by
  unfold cW lJ at h
  rw [List.map_cons,List.pairwise_cons] at h
  unfold lY
  cases c:mo f.1 g.1 with
  | true =>
   rw [ac]
   unfold cW lJ
   rw [List.map_cons,List.pairwise_cons]
   refine ⟨fun x hx=>?_,by rw [List.map_cons,List.pairwise_cons];exact h⟩
   rw [List.map_cons] at hx
   rcases List.mem_cons.1 hx with e | e
   · rw [e];exact c
   · exact oO c (h.1 x e)
  | false =>
   rw [aK]
   have ih:=wB (f:=f) (l:=l) h.2 fun g' hg=>hn g' (lL _ hg)
   unfold cW lJ
   rw [List.map_cons,List.pairwise_cons]
   refine ⟨fun x hx=>?_,ih⟩
   obtain ⟨y,hy,rfl⟩:=List.mem_map.1 hx
   rcases zA.1 hy with e | e
   · rw [e]
     have ht:=li g.1 f.1
     rw [c,kP (hn g (jd ..))] at ht
     cases q:mo g.1 f.1 with
     | true=>rfl
     | false=>rw [q] at ht;cases ht
   · exact h.1 y.1 (List.mem_map.2 ⟨y,e,rfl⟩)
theorem sE {l m:bn} (h:m.Sublist l) (hk:cW (lJ l)):cW (lJ m):=List.Pairwise.sublist (h.map _) hk
theorem Hq {l:bn} (hk:cW (lJ l)) {s:ByteArray} {f:Ty.d dJ} (h:bh l s=some f):bh (kG l s) s=none:=by
 induction l with
 | nil=>cases h
 | cons g l ih =>
  unfold cW lJ at hk
  rw [List.map_cons,List.pairwise_cons] at hk
  unfold bh at h
  unfold kG
  cases c:seq g.1 s with
  | true =>
   rw [ac,qC]
   intro x hx e
   have:=hk.1 x.1 (List.mem_map.2 ⟨x,hx,rfl⟩)
   rw [e,dr.1 c,oQ] at this
   cases this
  | false =>
   rw [c] at h
   rw [aK]
   unfold bh
   rw [c,aK]
   exact ih hk.2 h
theorem Ap {l:bn} (hk:cW (lJ l)) (s:ByteArray):bh (kG l s) s=none:=by
 cases h:bh l s with
 | some f=>exact Hq hk h
 | none =>
  rcases jY l s 0 with ⟨h1,_,h3,_⟩ | ⟨n,_,_,h3,_⟩
  · rw [h3];exact h1
  · rw [h] at h3;cases h3
def GR (g:bn→Int→bn × Int):Prop:=∀ l c,l.length≤130→(0:Int)≤c→c≤100000→(e6 l:Int)≤c→(∀ f ∈ l,FO f)→cW (lJ l) →
 (g l c).1.length≤130∧(e6 (g l c).1:Int)≤c∧(∀ f ∈ (g l c).1,FO f)∧cW (lJ (g l c).1)
theorem Ib {d:Ty.d aA} (h:DR d):DR (jF d).1:=by
 have hd:=jQ.2 h
 have g0:=h.fu0
 have g1:=h.fu1
 unfold jF
 rw [hd]
 cases c1:d.2.2.2.1 with
 | true=>exact ⟨h.len,h.cap0,h.cap1,h.fu0,h.fu1,h.use,h.all,h.keys⟩
 | false =>
  cases c2:d.2.2.1==0 with
  | true=>exact ⟨h.len,h.cap0,h.cap1,h.fu0,h.fu1,h.use,h.all,h.keys⟩
  | false =>
   by_cases c3:(d.2.2.1:Int) > 0
   · have e:∀ x:Int,x > 0→x≤100000 → -1≤aJ (x-1)∧aJ (x-1)≤100000:=fun x q1 q2=>by
      rw [aD (by omega) (by omega)]
      omega
     have e:=e d.2.2.1 c3 g1
     rw [aO c3]
     exact ⟨h.len,h.cap0,h.cap1,e.1,e.2,h.use,h.all,h.keys⟩
   · rw [aP c3]
     exact h
theorem qO {g:bn→Int→bn × Int} (hg:GR g) {d:Ty.d aA} (h:DR d):DR (ik d g).1:=by
 have hb:=Ib h
 unfold ik
 cases c:(jF d).2 != 0 with
 | true=>exact hb
 | false =>
  have hk:(jF d).1.2.1=d.2.1:=GU d
  obtain ⟨g1,g2,g3,g4⟩:=hg d.1 d.2.1 h.len h.cap0 h.cap1 h.use h.all h.keys
  exact ⟨g1,hb.cap0,hb.cap1,hb.fu0,hb.fu1,by show (e6 (g d.1 d.2.1).1:Int)≤(jF d).1.2.1;rw [hk];exact g2,g3,g4⟩
theorem KJ (s:ByteArray):GR (th s):=by
 intro l c h1 h2 h3 h4 h5 h6
 unfold th
 cases hn:jr s with
 | false=>exact ⟨h1,h4,h5,h6⟩
 | true =>
  cases hs:(bh l s).isSome with
  | true=>exact ⟨h1,h4,h5,h6⟩
  | false =>
   by_cases hl:(l.length:Int)≥130
   · rw [aO hl];exact ⟨h1,h4,h5,h6⟩
   · rw [aP hl]
     have hnone:bh l s=none:=by
      cases q:bh l s with
      | none=>rfl
      | some f=>rw [q] at hs;cases hs
     refine ⟨by show (lY l _).length≤130;rw [zw];omega,by show (e6 (lY l _):Int)≤c;rw [vo];exact h4,fun f hf=>?_,wB h6 (qC.1 hnone)⟩
     rcases zA.1 hf with e | e
     · rw [e];exact ⟨hn,Int.le_refl _,by show (0:Int)≤_;omega⟩
     · exact h5 f e
theorem JP (s t:ByteArray):GR (AM s t):=by
 intro l c h1 h2 h3 h4 h5 h6
 unfold AM
 cases hs:bh l s with
 | none=>exact ⟨h1,h4,h5,h6⟩
 | some f =>
  simp only [Option.isNone_some,aK]
  rw [aD (by omega) (by omega)]
  by_cases ht:(t.size:Int) > c-(e6 l:Int)
  · rw [aO ht];exact ⟨h1,h4,h5,h6⟩
  · rw [aP ht]
    have hu:=sW (h:=fun f=>(f.1,(f.2.1++t,f.2.2))) hs
    have hz:(f.2.1++t).size=f.2.1.size+t.size:=ByteArray.size_append ..
    simp only [hz] at hu
    refine ⟨by show (lI _ l s).length≤130;rw [vG];exact h1,by show (e6 (lI _ l s):Int)≤c;omega,fun x hx=>?_,vd (by intro f;rfl) h6⟩
    rcases ux hx with q | ⟨y,q1,q2⟩
    · exact h5 x q
    · obtain ⟨a,b,c'⟩:=h5 y (nE q1).1
      rw [q2]
      refine ⟨a,b,?_⟩
      show LE.le (α:=Int) y.2.2.1 ((y.2.1++t).size:Int)
      have:(y.2.1++t).size=y.2.1.size+t.size:=ByteArray.size_append ..
      omega
theorem JY (s:ByteArray):GR (uf s):=by
 intro l c h1 h2 h3 h4 h5 h6
 unfold uf
 cases hs:bh l s with
 | none=>exact ⟨h1,h4,h5,h6⟩
 | some f =>
  simp only [Option.isNone_some,aK]
  have hu:=sW (h:=fun f=>(f.1,(f.2.1,((f.2.1.size:Int),f.2.2.2)))) hs
  refine ⟨by show (lI _ l s).length≤130;rw [vG];exact h1,by show (e6 (lI _ l s):Int)≤c;simp only [] at hu;omega,fun x hx=>?_,vd (by intro f;rfl) h6⟩
  rcases ux hx with q | ⟨y,q1,q2⟩
  · exact h5 x q
  · obtain ⟨a,b,c'⟩:=h5 y (nE q1).1
    rw [q2]
    exact ⟨a,by show (0:Int)≤(y.2.1.size:Int);omega,Int.le_refl _⟩
theorem JS (s:ByteArray):GR (B5 s):=by
 intro l c h1 h2 h3 h4 h5 h6
 unfold B5
 cases hs:bh l s with
 | none=>exact ⟨h1,h4,h5,h6⟩
 | some f =>
  have hd:=oi l s
  have hu:=tv l s
  exact ⟨Nat.le_trans hd.length_le h1,by show (e6 (kG l s):Int)≤c;omega,fun x hx=>h5 x (hd.subset hx),sE hd h6⟩
theorem qQ (s:ByteArray) {n:Nat} (h:n≤s.size):(ByteArray.extract s 0 n).size=n:=by
 rw [ByteArray.size_extract]
 omega
theorem K3 (s:ByteArray) (n:Int):GR (FY s n):=by
 intro l c h1 h2 h3 h4 h5 h6
 unfold FY
 cases hs:bh l s with
 | none=>exact ⟨h1,h4,h5,h6⟩
 | some f =>
  simp only []
  by_cases hn:0≤n∧n≤(f.2.1.size:Int)
  · rw [aO hn]
    have hu:=sW (h:=fun f=>(f.1,(ByteArray.extract f.2.1 0 n.toNat,((if n<f.2.2.1 then n else f.2.2.1),f.2.2.2)))) hs
    have hz:=qQ f.2.1 (n:=n.toNat) (by omega)
    simp only [hz] at hu
    refine ⟨by show (lI _ l s).length≤130;rw [vG];exact h1,by show (e6 (lI _ l s):Int)≤c;omega,fun x hx=>?_,vd (by intro f;rfl) h6⟩
    rcases ux hx with q | ⟨y,q1,q2⟩
    · exact h5 x q
    · rw [hs] at q1
      cases q1
      obtain ⟨a,b,c'⟩:=h5 f (nE hs).1
      rw [q2]
      refine ⟨a,?_,?_⟩
      · show (0:Int)≤if n<f.2.2.1 then n else f.2.2.1
        split <;> omega
      · show (if n<f.2.2.1 then n else f.2.2.1)≤((ByteArray.extract f.2.1 0 n.toNat).size:Int)
        rw [hz]
        split <;> omega
  · rw [aP hn];exact ⟨h1,h4,h5,h6⟩
theorem JW (a b:ByteArray):GR (BZ a b):=by
 intro l c h1 h2 h3 h4 h5 h6
 unfold BZ
 cases hn:jr b with
 | false=>exact ⟨h1,h4,h5,h6⟩
 | true =>
  simp only [fh,aK]
  cases hs:bh l a with
  | none=>exact ⟨h1,h4,h5,h6⟩
  | some f =>
   simp only []
   cases seq a b with
   | true=>exact ⟨h1,h4,h5,h6⟩
   | false =>
    simp only [aK]
    have hd:=oi l a
    have hd2:=oi (kG l a) b
    have hu:=vU hs
    have hu2:=tv (kG l a) b
    have hk2:=sE (hd2.trans hd) h6
    have hl:=jY l a 0
    have hlen:(kG l a).length+1=l.length:=by
     rcases jY l a 0 with ⟨q,_⟩ | ⟨n,q1,_,_,q4,_⟩
     · rw [hs] at q;cases q
     · rw [← q4,uH,List.length_take,List.length_drop];omega
    have hlen2:=hd2.length_le
    refine ⟨by rw [zw];omega,by rw [vo];show ((e6 (kG (kG l a) b)+f.2.1.size:Nat):Int)≤c;omega,fun x hx=>?_,wB hk2 (qC.1 (Ap (sE hd h6) b))⟩
    rcases zA.1 hx with e | e
    · rw [e]
      exact ⟨hn,(h5 f (nE hs).1).2.1,(h5 f (nE hs).1).2.2⟩
    · exact h5 x ((hd2.trans hd).subset e)
theorem za {d:Ty.d aA} (h:DR d) (s:ByteArray):DR (vQ d s).1:=qO (KJ s) h
theorem oc {d:Ty.d aA} (h:DR d) (s t:ByteArray):DR (iD d s t).1:=qO (JP s t) h
theorem lR {d:Ty.d aA} (h:DR d) (s:ByteArray):DR (fm d s).1:=qO (JY s) h
theorem JV {d:Ty.d aA} (h:DR d) (a b:ByteArray):DR (Ae d a b).1:=qO (JW a b) h
theorem zi {d:Ty.d aA} (h:DR d) (s:ByteArray):DR (ur d s).1:=qO (JS s) h
theorem wM {d:Ty.d aA} (h:DR d) (s:ByteArray) (n:Int):DR (xF d s n).1:=qO (K3 s n) h
theorem jK (k:Nat) {d:Ty.d aA} (hd:zE d):bw.f k d=some (d,()):=by
 have hl:=hd.l
 unfold bw.f bw.t
 rw [cD (by omega) (by decide),List.nil_append]
theorem kA {k:Nat} (hk:2 ^ 50≤k) {d:Ty.d aA} (hd:zE d):cr.f k d=some ((jF d).1,((jF d).2,())):=by
 have hu:=hd.u
 have hn:=hd.n
 unfold cr.f cr.t jF
 rw [jK k hd,ab,j_ hk (by omega) (by omega),ab]
 cases gd d <;> cases d.2.2.2.1 <;> cases d.2.2.1==0 <;> cases decide ((d.2.2.1:Int) > 0) <;> rfl
theorem na {k:Nat} (hk:2 ^ 50≤k) {l:bn} (f:Ty.d dJ) (hl:l.length≤1073741824):d7.f k l f=some (lY l f,()):=by
 unfold d7.f d7.t
 refine (eG (L:=fun n i (s:Bool × bn)=>d7.l0 k n l s.1 i f.1 f.2.1 f.2.2.1 s.2) (R:=fun r s=>some (s.2++(bif s.1 then r else lY r f),())) (Ty.z dJ) l (fun i s=>(s.2.length:Int)≤i+1∧(s.1=false→(s.2.length:Int)≤i)) (fun n s hs=>?_) (fun n i s x rest h0 h1 hx hr hs ih=>?_) (n:=k) (s:=(false,[])) (by omega) ⟨by simp,by simp⟩).trans ?_
 · obtain ⟨b,o⟩:=s
   simp only [] at hs
   simp only [d7.l0,d7.b0]
   rw [aP (by omega),aK]
   cases b with
   | true=>simp only [fh,aK,ac,List.append_nil]
   | false=>simp only [uV,aK,ac];rw [cD (by omega) (by decide)];rfl
 · obtain ⟨b,o⟩:=s
   simp only [] at hs ih
   simp only [d7.l0,d7.b0]
   rw [aO h1,ac]
   have hlo:(o++[(f.1,(f.2.1,(f.2.2.1,())))]).length=o.length+1:=by simp
   obtain ⟨hs1,hs2⟩:=hs
   simp (disch:=first | omega | decide) only [aH,hx,cD,aD,li,Bool.not_not]
   cases b with
   | true =>
    have i1:=ih (true,o++[x]) ⟨by simp only [bv];omega,fun q=>(by cases q)⟩
    simp only [] at i1
    simp only [fh,aK,ac]
    rw [i1]
    simp only [ac,nn,List.singleton_append]
   | false =>
    have hs2:=hs2 rfl
    have i2:=ih (false,o++[x]) ⟨by simp only [bv];omega,fun _=>by simp only [bv];omega⟩
    simp only [] at i2
    simp only [uV,ac,aK]
    unfold lY
    cases c:mo f.1 x.1 with
    | true =>
     simp only [ac]
     have i3:=ih (true,(o++[(f.1,(f.2.1,(f.2.2.1,())))])++[x]) ⟨by simp only [bv];omega,fun q=>(by cases q)⟩
     simp only [] at i3
     rw [i3]
     simp only [ac,nn,List.singleton_append]
     rfl
    | false =>
     simp only [aK]
     rw [i2]
     simp only [aK,nn,List.singleton_append]
 · simp only [aK,List.nil_append]
theorem mg (k:Nat) {l:bn} {n:Nat} (hn:n<l.length) (hl:l.length≤1073741824):eQ.f k l (n:Int)=some (l.take n++l.drop (n+1),()):=by
 unfold eQ.f eQ.t
 have e:aJ ((n:Int)+1)=((n+1:Nat):Int):=by rw [aD (by omega) (by omega)];omega
 rw [e,nt,nt,cM (by omega) (by omega),cM (by omega) (by omega),cD (by rw [List.length_take];omega) (by decide),cD (by rw [uH,List.length_take,List.length_drop];simp only [List.length_nil];omega) (by decide),List.nil_append]
theorem mV (d:Ty.d aA):∃ b2,(jF d).1=(d.1,b2):=⟨(jF d).1.2,Prod.ext (ox d) rfl⟩
theorem rU {k:Nat} (hk:2 ^ 50≤k) {d:Ty.d aA} (hd:zE d) {s:ByteArray} (hs:s.size≤1099511627776):gU.f k d s=some ((vQ d s).1,((vQ d s).2,())):=by
 have hl:=hd.l
 unfold gU.f gU.t vQ ik
 rw [kA hk hd,ab]
 obtain ⟨b2,hb⟩:=mV d
 simp only [hb]
 cases c:(jF d).2 != 0 with
 | true=>rw [ac,ac,hb]
 | false =>
  rw [aK,aK,nG hk hs,ab]
  unfold th
  cases jr s with
  | false=>rfl
  | true =>
   simp only [fh,aK]
   rw [h9 hk (by omega),ab]
   rcases jY d.1 s 0 with ⟨h1,h2,_⟩ | ⟨n,h1,h2,h3,_⟩
   · rw [h1,h2]
     simp only [Option.isSome_none,aK]
     rw [aP (by decide),aK]
     by_cases cl:(d.1.length:Int)≥130
     · rw [aO cl];rfl
     · rw [aP cl,aK,aK,na hk _ (by omega),ab]
   · rw [h2,h3]
     simp only [Option.isSome_some,ac]
     rw [aO (by omega),ac]
theorem og {k:Nat} (hk:2 ^ 50≤k) {d:Ty.d aA} (hd:zE d) (s:ByteArray) {t:ByteArray} (ht:t.size≤1099511627776):dZ.f k d s t=some ((iD d s t).1,((iD d s t).2,())):=by
 have hl:=hd.l
 have hu:=hd.u
 unfold dZ.f dZ.t iD ik
 rw [kA hk hd,ab]
 obtain ⟨b2,hb⟩:=mV d
 simp only [hb]
 cases c:(jF d).2 != 0 with
 | true=>rw [ac,ac,hb]
 | false =>
  rw [aK,aK,h9 hk (by omega),ab]
  unfold AM
  rcases jY d.1 s 0 with ⟨h1,h2,_⟩ | ⟨n,h1,h2,h3,_,_,h6⟩
  · rw [h1,h2]
    simp only [Option.isNone_none,ac]
    rw [aO (by decide),ac]
  · rw [Int.zero_add] at h2
    rw [h2,h3]
    simp only [Option.isNone_some,aK]
    rw [aP (by omega),aK,pT hk (by omega) (by omega),ab]
    simp only []
    cases decide ((t.size:Int) > aJ (d.2.1-(e6 d.1:Int))) with
    | true=>rfl
    | false =>
     have hm:=s9 (nE h3).1
     rw [aK,aK,nt,aH (by omega) (by omega),aH (by omega) (by omega),e7 (Nat.le_trans (Nat.add_le_add (Nat.le_trans hm hu) ht) (by decide)),← h6]
theorem lm {k:Nat} (hk:2 ^ 50≤k) {d:Ty.d aA} (hd:zE d) (s:ByteArray):dw.f k d s=some ((fm d s).1,((fm d s).2,())):=by
 have hl:=hd.l
 unfold dw.f dw.t fm ik
 rw [kA hk hd,ab]
 obtain ⟨b2,hb⟩:=mV d
 simp only [hb]
 cases c:(jF d).2 != 0 with
 | true=>rw [ac,ac,hb]
 | false =>
  rw [aK,aK,h9 hk (by omega),ab]
  unfold uf
  rcases jY d.1 s 0 with ⟨h1,h2,_⟩ | ⟨n,h1,h2,h3,_,_,h6⟩
  · rw [h1,h2]
    simp only [Option.isNone_none,ac]
    rw [aO (by decide),ac]
  · rw [Int.zero_add] at h2
    rw [h2,h3]
    simp only [Option.isNone_some,aK]
    rw [aP (by omega),aK,nt,aH (by omega) (by omega),aH (by omega) (by omega),← h6]
theorem DY {k:Nat} (hk:2 ^ 50≤k) {d:Ty.d aA} (hd:zE d) (a:ByteArray) {b:ByteArray} (hs:b.size≤1099511627776):jB.f k d a b=some ((Ae d a b).1,((Ae d a b).2,())):=by
 have hl:=hd.l
 unfold jB.f jB.t Ae ik
 rw [kA hk hd,ab]
 obtain ⟨b2,hb⟩:=mV d
 simp only [hb]
 cases c:(jF d).2 != 0 with
 | true=>rw [ac,ac,hb]
 | false =>
  rw [aK,aK,nG hk hs,ab]
  unfold BZ
  cases jr b with
  | false=>rfl
  | true =>
   simp only [fh,aK]
   rw [h9 hk (by omega),ab]
   rcases jY d.1 a 0 with ⟨h1,h2,_⟩ | ⟨n,h1,h2,h3,h4,_,_⟩
   · rw [h1,h2]
     simp only []
     rw [aO (by decide),ac]
   · rw [Int.zero_add] at h2
     rw [h2,h3]
     simp only []
     rw [aP (by omega),aK]
     cases seq a b with
     | true=>rfl
     | false =>
      have hd1:=(oi d.1 a).length_le
      rw [aK,aK,nt,aH (by omega) (by omega),mg k h1 (by omega),ab,h4]
      simp only []
      rw [h9 hk (d:=(kG d.1 a,b2)) (by show (kG d.1 a).length≤_;omega),ab]
      simp only []
      rcases jY (kG d.1 a) b 0 with ⟨g1,g2,g3,_⟩ | ⟨m,g1,g2,g3,g4,_⟩
      · rw [g2,g3,aP (by decide),aK,na hk _ (by omega),ab]
      · rw [Int.zero_add] at g2
        have hd2:=(oi (kG d.1 a) b).length_le
        rw [g2,aO (by omega),ac,mg k g1 (by omega),ab,g4]
        simp only []
        rw [na hk _ (by omega),ab]
theorem rS {k:Nat} (hk:2 ^ 50≤k) {d:Ty.d aA} (hd:zE d) (s:ByteArray):g7.f k d s=some ((ur d s).1,((ur d s).2,())):=by
 have hl:=hd.l
 unfold g7.f g7.t ur ik
 rw [kA hk hd,ab]
 obtain ⟨b2,hb⟩:=mV d
 simp only [hb]
 cases c:(jF d).2 != 0 with
 | true=>rw [ac,ac,hb]
 | false =>
  rw [aK,aK,h9 hk (by omega),ab]
  unfold B5
  rcases jY d.1 s 0 with ⟨h1,h2,_⟩ | ⟨n,h1,h2,h3,h4,_⟩
  · rw [h1,h2]
    simp only [Option.isNone_none,ac]
    rw [aO (by decide),ac]
  · rw [Int.zero_add] at h2
    rw [h2,h3]
    simp only [Option.isNone_some,aK]
    rw [aP (by omega),aK,mg k h1 (by omega),ab,h4]
theorem sI {l:bn} {n:Nat} (h:n<l.length) (x z:Ty.d dJ):(l.set n x).getD n z=x:=by
 simp [List.getD,h]
theorem I3 {l:bn} {n:Nat} (x y:Ty.d dJ):(l.set n x).set n y=l.set n y:=by simp
theorem CN {k:Nat} (hk:2 ^ 50≤k) {d:Ty.d aA} (hd:zE d) (s:ByteArray) (m:Int):hO.f k d s m=some ((xF d s m).1,((xF d s m).2,())):=by
 have hl:=hd.l
 unfold hO.f hO.t xF ik
 rw [kA hk hd,ab]
 obtain ⟨b2,hb⟩:=mV d
 simp only [hb]
 cases c:(jF d).2 != 0 with
 | true=>rw [ac,ac,hb]
 | false =>
  rw [aK,aK,h9 hk (by omega),ab]
  unfold FY
  rcases jY d.1 s 0 with ⟨h1,h2,_⟩ | ⟨n,h1,h2,h3,_,_,h6⟩
  · rw [h1,h2]
    simp only []
    rw [aO (by decide),ac]
  · rw [Int.zero_add] at h2
    rw [h2,h3]
    simp only []
    rw [aP (by omega),aK,nt,aH (by omega) (by omega),fE,ab]
    by_cases hm:0≤m∧m≤((d.1.getD n (Ty.z dJ)).2.1.size:Int)
    · rw [aO hm]
      simp only [fh,aK]
      rw [aH (by omega) (by omega),cM hm.1 hm.2,aH (by omega) (by omega),aH (by omega) (by omega),aH (by omega) (by rw [List.length_set];omega),sI h1,I3,← h6]
    · rw [aP hm]
      rfl
def mF (lim:Int) (p:Option Int) (x:Int):Bool:=decide ((1:Int)≤x∧x≤lim)&&(match p with | none=>true | some y=>decide (y<x))
def cS (v:Ty.d cY):Bool:=decide ((1:Int)≤v.1∧v.1≤100000)&&(decide ((1:Int)≤(v.2.1.length:Int)∧(v.2.1.length:Int)≤60)&&nJ (mF (aJ (v.1-1))) none v.2.1)
theorem q_ {k:Nat} (hk:2 ^ 50≤k) (v:Ty.d cY):dF.f k v=some (cS v,()):=by
 unfold dF.f dF.t cS
 rw [fE,ab]
 cases decide ((1:Int)≤v.1∧v.1≤100000) with
 | false=>rfl
 | true =>
  rw [fh,aK,fE,ab,Bool.true_and]
  by_cases c:(1:Int)≤(v.2.1.length:Int)∧(v.2.1.length:Int)≤60
  case neg=>rw [aP c];rfl
  rw [aO c,fh,aK,Bool.true_and]
  refine (pk (L:=fun n i=>dF.l0 k n i v.1 v.2.1) (Ty.z (.int .i64)) v.2.1 (mF (aJ (v.1-1))) (some (true,())) (some (false,())) (fun n=>?_) (fun n x h hx=>?_) (fun n i x y h0 h1 hx hy=>?_) (n:=k) (by omega)).trans (by cases nJ (mF (aJ (v.1-1))) none v.2.1 <;> rfl)
  · simp (disch:=omega) only [dF.l0,dF.b0,aP,aK]
  · simp (disch:=omega) only [dF.l0,dF.b0,aO (show (0:Int)<(v.2.1.length:Int) by omega),ac,aH,hx,fE k,ab,aP (show ¬ (0:Int) > 0 by omega),aK,aD (n:=(0:Int)+1),mF]
    cases decide ((1:Int)≤x∧x≤aJ (v.1-1)) <;> rfl
  · simp (disch:=omega) only [dF.l0,dF.b0,aO h1,ac,aH,hx,fE k,ab,aO (show i > 0 by omega),aK,aD (n:=i+1),aD (n:=i-1),hy,mF]
    cases decide ((1:Int)≤x∧x≤aJ (v.1-1)) with
    | false=>rfl
    | true =>
     by_cases q:y<x
     · rw [aO q,aP (show ¬ x≤y from Int.not_le.2 q)];rfl
     · rw [aP q,aO (show x≤y from Int.not_lt.1 q)];rfl
theorem uD {k:Nat} (hk:2 ^ 50≤k) {v:Ty.d cY} (hl:v.2.1.length≤1099511627776):da.f k v=some (cS v,()):=by
 unfold da.f da.t cS
 refine (pk (L:=fun n i=>da.l0 k n v.2.1 v.2.1.length i v.1 v.2.1) (Ty.z (.int .i64)) v.2.1 (mF (aJ (v.1-1))) (some (decide ((1:Int)≤v.1∧v.1≤100000)&&decide ((1:Int)≤(v.2.1.length:Int)∧(v.2.1.length:Int)≤60),())) (some (false,())) (fun n=>?_) (fun n x h hx=>?_) (fun n i x y h0 h1 hx hy=>?_) (n:=k) (by omega)).trans
  (by cases nJ (mF (aJ (v.1-1))) none v.2.1 <;> cases decide ((1:Int)≤v.1∧v.1≤100000) <;> cases decide ((1:Int)≤(v.2.1.length:Int)∧(v.2.1.length:Int)≤60) <;> rfl)
 · simp (disch:=omega) only [da.l0,da.b0,aP,aK,lf k,ab]
   cases decide ((1:Int)≤v.1∧v.1≤100000) <;> rfl
 · simp (disch:=omega) only [da.l0,da.b0,aO (show (0:Int)<(v.2.1.length:Int) by omega),ac,aH,hx,lf k,ab,aP (show ¬ (0:Int) > 0 by omega),aK,aD (n:=(0:Int)+1),mF]
   cases decide ((1:Int)≤x∧x≤aJ (v.1-1)) <;> rfl
 · simp (disch:=omega) only [da.l0,da.b0,aO h1,ac,aH,hx,lf k,ab,aO (show i > 0 by omega),aK,aD (n:=i+1),aD (n:=i-1),hy,mF]
   cases decide ((1:Int)≤x∧x≤aJ (v.1-1)) with
   | false=>rfl
   | true =>
    by_cases q:y<x
    · rw [aO q,aP (show ¬ y≥x from Int.not_le.2 q)];rfl
    · rw [aP q,aO (show y≥x from Int.not_lt.1 q)];rfl
end Go.Proofs.YtnpijgnfpdcjbaaGreatDoor.G
namespace Go.V
theorem zr (l:List Int):(bytesOf l).size=l.length:=by simp [bytesOf,ByteArray.size]
theorem JG {n m:Nat} (hn:n<4294967296) (hm:m<4294967296):aJ (((BitVec.ofInt (IntKind.bits .i64) (n:Int) ^^^ BitVec.ofInt (IntKind.bits .i64) (m:Int)).toNat:Int))=((n ^^^ m:Nat):Int):=by
 have h:n ^^^ m<2 ^ 32:=Nat.xor_lt_two_pow (by omega) (by omega)
 show aJ (((BitVec.ofInt 64 (n:Int) ^^^ BitVec.ofInt 64 (m:Int)).toNat:Int))=_
 rw [BitVec.ofInt_natCast,BitVec.ofInt_natCast,BitVec.toNat_xor,BitVec.toNat_ofNat,BitVec.toNat_ofNat,Nat.mod_eq_of_lt (by omega),Nat.mod_eq_of_lt (by omega)]
 exact aD (by omega) (by omega)
theorem JK {n m:Nat} (hn:n<4294967296) (hm:m<4294967296):IntKind.wrap .u32 (((BitVec.ofInt (IntKind.bits .u32) (n:Int) ^^^ BitVec.ofInt (IntKind.bits .u32) (m:Int)).toNat:Int))=((n ^^^ m:Nat):Int):=by
 have h:n ^^^ m<2 ^ 32:=Nat.xor_lt_two_pow (by omega) (by omega)
 show IntKind.wrap .u32 (((BitVec.ofInt 32 (n:Int) ^^^ BitVec.ofInt 32 (m:Int)).toNat:Int))=_
 rw [BitVec.ofInt_natCast,BitVec.ofInt_natCast,BitVec.toNat_xor,BitVec.toNat_ofNat,BitVec.toNat_ofNat,Nat.mod_eq_of_lt (by omega),Nat.mod_eq_of_lt (by omega)]
 exact vH (by omega) (by omega)
theorem L8 {n b:Nat} (hn:n<4294967296) (hb:b<256):aJ (((BitVec.ofInt (IntKind.bits .i64) ((n*256:Nat):Int) ||| BitVec.ofInt (IntKind.bits .i64) (b:Int)).toNat:Int))=((n*256+b:Nat):Int):=by
 have h:n*256 ||| b=n*256+b:=by
  have:=Nat.shiftLeft_add_eq_or_of_lt (i:=8) (b:=b) (by omega) n
  rw [Nat.shiftLeft_eq,show (2:Nat) ^ 8=256 by decide] at this
  omega
 show aJ (((BitVec.ofInt 64 ((n*256:Nat):Int) ||| BitVec.ofInt 64 (b:Int)).toNat:Int))=_
 rw [BitVec.ofInt_natCast,BitVec.ofInt_natCast,BitVec.toNat_or,BitVec.toNat_ofNat,BitVec.toNat_ofNat,Nat.mod_eq_of_lt (by omega),Nat.mod_eq_of_lt (by omega),h]
 exact aD (by omega) (by omega)
theorem KY {n:Nat} (hn:n<4294967296):IntKind.wrap .u32 (((BitVec.ofInt (IntKind.bits .u32) (n:Int) &&& BitVec.ofInt (IntKind.bits .u32) 1).toNat:Int))=((n % 2:Nat):Int):=by
 show IntKind.wrap .u32 (((BitVec.ofInt 32 (n:Int) &&& BitVec.ofInt 32 ((1:Nat):Int)).toNat:Int))=_
 rw [BitVec.ofInt_natCast,BitVec.ofInt_natCast,BitVec.toNat_and,BitVec.toNat_ofNat,BitVec.toNat_ofNat,Nat.mod_eq_of_lt (by omega),Nat.mod_eq_of_lt (show 1<2 ^ 32 by omega),Nat.and_one_is_mod]
 exact vH (by omega) (by omega)
theorem Kh {n:Nat} (hn:n<4294967296):DO .u32 (n:Int)=4294967295-(n:Int):=by
 unfold DO
 show IntKind.wrap .u32 (((BitVec.allOnes 32 ^^^ BitVec.ofInt 32 (n:Int)).toNat:Int))=_
 rw [BitVec.ofInt_natCast,BitVec.allOnes_xor,BitVec.toNat_not,BitVec.toNat_ofNat,Nat.mod_eq_of_lt (by omega)]
 rw [vH (by omega) (by omega)]
 omega
theorem nL (s:ByteArray):(⟨#[]⟩:ByteArray)++s=s:=by
 apply ByteArray.ext
 simp [ByteArray.data_append]
theorem jE (s:ByteArray):s++(⟨#[]⟩:ByteArray)=s:=by
 apply ByteArray.ext
 simp [ByteArray.data_append]
theorem ai (a b c:ByteArray):a++b++c=a++(b++c):=by
 apply ByteArray.ext
 simp [ByteArray.data_append]
theorem gQ (a b:ByteArray):nb (a++b)=nb a++nb b:=by
 unfold nb
 rw [ByteArray.data_append,Array.toList_append,List.map_append]
theorem rW (s:ByteArray) (i j:Nat):nb (ByteArray.extract s i j)=((nb s).take j).drop i:=by
 unfold nb
 simp [ByteArray.data_extract,List.map_take,List.map_drop]
 rw [List.drop_take]
theorem gk (s:ByteArray) (n:Nat):nb (ByteArray.extract s n s.size)=(nb s).drop n:=by
 rw [rW,List.take_of_length_le (by rw [cP];omega)]
theorem dk (a t:ByteArray):ByteArray.extract (a++t) a.size (a++t).size=t:=jV (by rw [gk,gQ,List.drop_left' (cP a)])
theorem AY (a t:ByteArray):ByteArray.extract (a++t) 0 a.size=a:=jV (by rw [rW,gQ,List.take_left' (cP a),List.drop_zero])
theorem wk (s:ByteArray) {n:Nat} (h:n≤s.size):s=ByteArray.extract s 0 n++ByteArray.extract s n s.size:=jV (by rw [gQ,gk,jw,List.take_append_drop])
theorem rr {a b c:ByteArray} (h:a++b=a++c):b=c:=jV (by
 have:=congrArg nb h
 rw [gQ,gQ] at this
 exact List.append_cancel_left this)
theorem ql {a b c d:ByteArray} (h:a++b=c++d) (hs:a.size=c.size):a=c∧b=d:=by
 have:=congrArg nb h
 rw [gQ,gQ] at this
 have:=List.append_inj this (by rw [cP,cP,hs])
 exact ⟨jV this.1,jV this.2⟩
def rv:Nat→List Nat→Option (Nat × Nat)
 | 0,_=>none
 | _+1,[]=>none
 | d+1,b::l=>if b≥128 then (match rv d l with | some (a,n)=>if a=0 then none else some (b % 128+128*a,n+1) | none=>none) else some (b,1)
theorem GX:∀ (d a:Nat) (t:List Nat),a<128 ^ (d+1)→rv (d+1) (vl d a++t)=some (a,(vl d a).length)
 | 0,a,t,h=>by
  have:¬ a≥128:=by simpa using h
  simp [vl,rv,this]
 | d+1,a,t,h=>by
  unfold vl
  by_cases c:a≥128
  · have ih:=GX d (a/128) t (by rw [Nat.pow_succ] at h;omega)
    rw [if_pos c,List.cons_append,rv,if_pos (by omega),ih]
    simp only []
    rw [if_neg (by omega),kJ]
    congr 2
    omega
  · rw [if_neg c,List.cons_append,rv,if_neg c]
    rfl
theorem oa:∀ (d:Nat) (l:List Nat) (a n:Nat),(∀ x ∈ l,x<256)→rv (d+1) l=some (a,n)→l.take n=vl d a∧a<128 ^ (d+1)∧n=(vl d a).length∧n≤l.length∧1≤n∧n≤d+1
 | _,[],a,n,_,h=>by simp [rv] at h
 | 0,b::l,a,n,hb,h=>by
  unfold rv at h
  by_cases c:b≥128
  · simp [c,rv] at h
  · simp [c] at h
    obtain ⟨rfl,rfl⟩:=h
    refine ⟨by simp [vl],by simpa using c,by simp [vl],by simp,by omega,by omega⟩
 | d+1,b::l,a,n,hb,h=>by
  unfold rv at h
  by_cases c:b≥128
  · rw [if_pos c] at h
    cases q:rv (d+1) l with
    | none=>rw [q] at h;simp at h
    | some p =>
     obtain ⟨a',n'⟩:=p
     obtain ⟨h1,h2,h3,h4,h5,h6⟩:=oa d l a' n' (fun x hx=>hb x (lL _ hx)) q
     rw [q] at h
     simp only [] at h
     by_cases z:a'=0
     · simp [z] at h
     · rw [if_neg z] at h
       simp only [Option.some.injEq,Prod.mk.injEq] at h
       obtain ⟨rfl,rfl⟩:=h
       have hb:=hb b (jd ..)
       have e1:(b % 128+128*a')/128=a':=by omega
       have e2:128+(b % 128+128*a') % 128=b:=by omega
       have hv:vl (d+1) (b % 128+128*a')=b::vl d a':=by
        rw [vl,if_pos (by omega),e1,e2]
       rw [hv]
       refine ⟨by rw [List.take_succ_cons,h1],by rw [Nat.pow_succ];omega,by rw [kJ,h3],by rw [kJ];omega,by omega,by omega⟩
  · rw [if_neg c] at h
    simp only [Option.some.injEq,Prod.mk.injEq] at h
    obtain ⟨rfl,rfl⟩:=h
    have hv:vl (d+1) b=[b]:=by rw [vl,if_neg c]
    rw [hv]
    refine ⟨by simp,?_,by simp,by simp,by omega,by omega⟩
    have:(128:Nat) ^ 1≤128 ^ (d+1+1):=Nat.pow_le_pow_right (by decide) (by omega)
    omega
theorem Kk {d a:Nat}:vl d a≠[]:=by
 cases d with
 | zero=>simp [vl]
 | succ d=>unfold vl;split <;> simp
theorem Hy (l:List Nat) (hb:∀ x ∈ l,x<256) (d n:Nat) (h0:1≤n) (h1:n≤d+1) (h2:n≤l.length):pg (l.take n)=true↔∃ a,rv (d+1) l=some (a,n):=by
 constructor
 · intro h
   have e:=z_ d (l.take n) h (by rw [List.length_take];omega)
   have hd:qo (l.take n)<128 ^ (d+1):=Nat.lt_of_lt_of_le (zm _) (Nat.pow_le_pow_right (by decide) (by rw [List.length_take];omega))
   have:=GX d (qo (l.take n)) (l.drop n) hd
   rw [e,List.take_append_drop,List.length_take,Nat.min_eq_left h2] at this
   exact ⟨_,this⟩
 · rintro ⟨a,h⟩
   obtain ⟨e1,e2,_⟩:=oa d l a n hb h
   rw [e1]
   exact (vB d a e2).1
theorem Jj {l:List Nat} (hb:∀ x ∈ l,x<256) {d a n:Nat} (h:rv (d+1) l=some (a,n)):a=qo (l.take n):=by
 obtain ⟨e1,e2,_⟩:=oa d l a n hb h
 rw [e1]
 exact (vB d a e2).2.1.symm
theorem rJ (s:ByteArray):∀ x ∈ nb s,x<256:=fun _ h=>JI h
theorem ah (a:Nat):1≤(bB a).size∧(bB a).size≤7:=by
 unfold bB
 rw [zr,List.length_map]
 have h:∀ d a,(vl d a).length≤d+1:=by
  intro d
  induction d with
  | zero=>intro a;simp [vl]
  | succ d ih=>intro a;unfold vl;split <;> simp;have:=ih (a/128);omega
 have h2:=h 6 a
 have h3:(vl 6 a).length≠0:=fun q=>Kk (List.length_eq_zero_iff.1 q)
 omega
theorem qG {a:Nat} (h:a<562949953421312):(vl 6 a).length=(bB a).size:=by rw [← sL h,cP]
theorem pK {a:Nat} (h:a<562949953421312) (t:ByteArray):rv 7 (nb (bB a++t))=some (a,(bB a).size):=by
 rw [gQ,sL h,← qG h]
 exact GX 6 a _ (by rw [show (128:Nat) ^ (6+1)=562949953421312 by decide];exact h)
theorem Ii {s:ByteArray} {a n:Nat} (h:rv 7 (nb s)=some (a,n)):∃ t,a<562949953421312∧n=(bB a).size∧s=bB a++t:=by
 obtain ⟨h1,h2,h3,h4,h5,h6⟩:=oa 6 (nb s) a n (rJ s) h
 rw [show (128:Nat) ^ (6+1)=562949953421312 by decide] at h2
 refine ⟨ByteArray.extract s n s.size,h2,by rw [h3,qG h2],jV ?_⟩
 rw [gQ,sL h2,gk,← h1,List.take_append_drop]
theorem mG (s:ByteArray):(∃ a t,a<562949953421312∧s=bB a++t)∨rv 7 (nb s)=none:=by
 cases h:rv 7 (nb s) with
 | none=>exact .inr rfl
 | some p =>
  obtain ⟨a,n⟩:=p
  obtain ⟨t,h1,_,h3⟩:=Ii h
  exact .inl ⟨a,t,h1,h3⟩
theorem vX {a b:Nat} {s t:ByteArray} (ha:a<562949953421312) (hb:b<562949953421312) (h:bB a++s=bB b++t):a=b∧s=t:=by
 have h1:=pK ha s
 rw [h,pK hb t] at h1
 simp only [Option.some.injEq,Prod.mk.injEq] at h1
 obtain ⟨rfl,_⟩:=h1
 exact ⟨rfl,rr h⟩
def DN:Option (Nat × Nat)→Int × Int × Unit
 | some p=>((p.1:Int),((p.2:Int),()))
 | none=>(0,(0,()))
end Go.V
namespace Go.Proofs.YtnpijgnfpdcjbaaGreatDoor.G
open Go.V
theorem nH (k:Nat) (a b c:Int):aS.f k a b c=some (decide (b≤a∧a≤c),()):=by
 unfold aS.f aS.t
 by_cases h:b≤a <;> simp [h]
theorem su (k:Nat) (a b c:Int):ax.f k a b c=some (decide (b≤a∧a≤c),()):=by
 unfold ax.f ax.t
 by_cases h:b≤a <;> simp [h]
def gh (a:Int):ByteArray:=if 0≤a∧a≤562949953421311 then bB a.toNat else ⟨#[]⟩
theorem bG (a:Int):(gh a).size≤7:=by
 unfold gh
 split
 · exact (ah _).2
 · exact Nat.zero_le _
theorem dX {a:Nat} (h:a<562949953421312):gh (a:Int)=bB a:=by
 unfold gh
 rw [if_pos (by omega),Int.toNat_natCast]
theorem Kn:∀ (d a n:Nat) (xs:List Int),a<128 ^ (d+1)→a<562949953421312→d<n→xs.length+d≤100→∀ k,
 bW.l0 k n (a:Int) xs=some (bytesOf (xs++(vl d a).map Int.ofNat),())∧fC.l0 k n (a:Int) xs=some (bytesOf (xs++(vl d a).map Int.ofNat),()):=by
 intro d
 induction d with
 | zero =>
  intro a n xs h1 h2 h3 h4 k
  obtain ⟨n,rfl⟩:∃ q,n=q+1:=⟨n-1,by omega⟩
  simp only [Nat.zero_add,Nat.pow_one] at h1
  constructor
  · simp (disch:=first | omega | decide) only [bW.l0,bW.b0,aP,aK,cD,ng]
    rfl
  · simp (disch:=first | omega | decide) only [fC.l0,fC.b0,aP,aK,cD,ng]
    rfl
 | succ d ih =>
  intro a n xs h1 h2 h3 h4 k
  obtain ⟨n,rfl⟩:∃ q,n=q+1:=⟨n-1,by omega⟩
  unfold vl
  by_cases c:a≥128
  · have hd:aJ (Int.tdiv (a:Int) 128)=((a/128:Nat):Int):=aD (n:=((a/128:Nat):Int)) (by omega) (by omega)
    have hw:IntKind.wrap .u8 (aJ (128+Int.tmod (a:Int) 128))=((128+a % 128:Nat):Int):=by
     have e:128+Int.tmod (a:Int) 128=((128+a % 128:Nat):Int):=by
      show 128+((a % 128:Nat):Int)=_
      omega
     rw [e,aD (by omega) (by omega)]
     exact ng (by omega) (by omega)
    have ih:=ih (a/128) n (xs++[((128+a % 128:Nat):Int)]) (by rw [Nat.pow_succ] at h1;omega) (by omega) (by omega) (by rw [uH];show _+1+d≤_;omega) k
    rw [if_pos c]
    rw [nn] at ih
    constructor
    · simp (disch:=first | omega | decide) only [bW.l0,bW.b0,aO,ac,cD,hd,hw]
      exact ih.1
    · simp (disch:=first | omega | decide) only [fC.l0,fC.b0,aO,ac,cD,hd,Int.add_comm (Int.tmod (a:Int) 128) 128,hw]
      exact ih.2
  · rw [if_neg c]
    constructor
    · simp (disch:=first | omega | decide) only [bW.l0,bW.b0,aP,aK,cD,ng]
      rfl
    · simp (disch:=first | omega | decide) only [fC.l0,fC.b0,aP,aK,cD,ng]
      rfl
theorem gF {k:Nat} (hk:2 ^ 50≤k) (a:Int):bW.f k a=some (gh a,()):=by
 unfold bW.f bW.t gh
 rw [nH,ab]
 by_cases h:0≤a∧a≤562949953421311
 · obtain ⟨n,rfl⟩:=Int.eq_ofNat_of_zero_le h.1
   have hn:n<562949953421312:=by omega
   simp only [aO h,fh,aK,if_pos h,Int.toNat_natCast]
   exact (Kn 6 n k [] (by rw [show (128:Nat) ^ (6+1)=562949953421312 by decide];exact hn) hn (by omega) (by decide) k).1
 · simp only [aP h,uV,ac,if_neg h]
theorem ov {k:Nat} (hk:2 ^ 50≤k) (a:Int):fC.f k a=some (gh a,()):=by
 unfold fC.f fC.t gh
 rw [su,ab]
 by_cases h:0≤a∧a≤562949953421311
 · obtain ⟨n,rfl⟩:=Int.eq_ofNat_of_zero_le h.1
   have hn:n<562949953421312:=by omega
   simp only [aO h,fh,aK,if_pos h,Int.toNat_natCast]
   exact (Kn 6 n k [] (by rw [show (128:Nat) ^ (6+1)=562949953421312 by decide];exact hn) hn (by omega) (by decide) k).2
 · simp only [aP h,uV,ac,if_neg h]
theorem Gv {s:ByteArray} {i:Nat} (h:i<s.size):(nb s).take (i+1)=(nb s).take i++[(nb s).getD i 0]:=by
 have h1:i<(nb s).length:=by rw [cP];exact h
 rw [List.take_succ_eq_append_getElem h1]
 simp [List.getD,h1]
theorem ig (s:ByteArray) (i:Nat):(nb s).getD i 0<256:=by
 by_cases h1:i<(nb s).length
 · rw [show (nb s).getD i 0=(nb s)[i] by simp [List.getD,h1]]
   exact JI (List.getElem_mem h1)
 · simp [List.getD,List.getElem?_eq_none (by omega:(nb s).length≤i)]
theorem qP {s:ByteArray} {i:Nat} (h:i<s.size):(nb s).drop i=(nb s).getD i 0::(nb s).drop (i+1):=by
 have h1:i<(nb s).length:=by rw [cP];exact h
 rw [List.drop_eq_getElem_cons h1]
 simp [List.getD,h1]
def DL (n:Nat):Nat:=if n % 2=1 then n/2 ^^^ 2197175160 else n/2
def xv:Nat→Nat→Nat
 | 0,n=>n
 | d+1,n=>xv d (DL n)
theorem A4 {n:Nat} (h:n<4294967296):DL n<4294967296:=by
 unfold DL
 split
 · exact Nat.xor_lt_two_pow (n:=32) (by omega) (by omega)
 · omega
theorem zF:∀ {d n:Nat},n<4294967296→xv d n<4294967296
 | 0,_,h=>h
 | d+1,_,h=>zF (d:=d) (A4 h)
def CS:List Nat→Nat→Nat
 | [],n=>n
 | b::l,n=>CS l (xv 8 (n ^^^ b))
theorem Dj:∀ {l:List Nat} {n:Nat},n<4294967296→(∀ b ∈ l,b<256)→CS l n<4294967296
 | [],_,h,_=>h
 | b::l,n,h,hb=>by
  have:=hb b (jd ..)
  exact Dj (l:=l) (zF (Nat.xor_lt_two_pow (n:=32) (by omega) (by omega))) (fun x hx=>hb x (lL _ hx))
def pI (s:ByteArray):Int:=4294967295-(CS (nb s) 4294967295:Int)
theorem tD (s:ByteArray):0≤pI s∧pI s≤4294967295:=by
 have:=Dj (l:=nb s) (n:=4294967295) (by omega) (rJ s)
 unfold pI
 omega
theorem Eh {k:Nat} {L0:ByteArray→Int→Int→Option (Int × Unit)} {s:ByteArray} {i:Int}:∀ (d j m n:Nat),8-j=d→j≤8→d<m→n<4294967296→fa.l1 k L0 m s (n:Int) i (j:Int)=L0 s ((xv d n:Nat):Int) (aJ (i+1))
 | 0,j,m,n,hd,hj,hm,hn=>by
  obtain ⟨m,rfl⟩:∃ q,m=q+1:=⟨m-1,by omega⟩
  have c:¬ ((j:Int)<8):=by omega
  simp only [fa.l1,fa.b1,decide_eq_false c,aK,xv]
 | d+1,j,m,n,hd,hj,hm,hn=>by
  obtain ⟨m,rfl⟩:∃ q,m=q+1:=⟨m-1,by omega⟩
  have c:((j:Int)<8):=by omega
  have ih:=Eh (k:=k) (L0:=L0) (s:=s) (i:=i) d (j+1) m (DL n) (by omega) (by omega) (by omega) (A4 hn)
  have hd2:aJ (Int.tdiv (n:Int) 2)=((n/2:Nat):Int):=aD (n:=((n/2:Nat):Int)) (by omega) (by omega)
  have hx:=JG (n:=n/2) (m:=2197175160) (by omega) (by omega)
  have hm2:Int.tmod (n:Int) 2=((n % 2:Nat):Int):=rfl
  have hj1:aJ ((j:Int)+1)=((j+1:Nat):Int):=by rw [aD (by omega) (by omega)];omega
  simp only [fa.l1,fa.b1,decide_eq_true c,ac,hj1,hd2,hm2,xv]
  rw [← ih]
  unfold DL
  by_cases q:n % 2=1
  · rw [if_pos q,q,← hx]
    rfl
  · rw [if_neg q,show n % 2=0 by omega]
    rfl
theorem E7 {k:Nat} {L0:ByteArray→Int→Int→Option (Int × Unit)} {s:ByteArray} {i:Int}:∀ (d j m n:Nat),8-j=d→j≤8→d<m→n<4294967296→gA.l1 k L0 m s (n:Int) i (j:Int)=L0 s ((xv d n:Nat):Int) (aJ (i+1))
 | 0,j,m,n,hd,hj,hm,hn=>by
  obtain ⟨m,rfl⟩:∃ q,m=q+1:=⟨m-1,by omega⟩
  have c:¬ ((j:Int)<8):=by omega
  simp only [gA.l1,gA.b1,decide_eq_false c,aK,xv]
 | d+1,j,m,n,hd,hj,hm,hn=>by
  obtain ⟨m,rfl⟩:∃ q,m=q+1:=⟨m-1,by omega⟩
  have c:((j:Int)<8):=by omega
  have ih:=E7 (k:=k) (L0:=L0) (s:=s) (i:=i) d (j+1) m (DL n) (by omega) (by omega) (by omega) (A4 hn)
  have hd2:Int.fdiv (n:Int) (2 ^ (Int.toNat 1))=((n/2:Nat):Int):=by
   show Int.fdiv (n:Int) 2=_
   rw [Int.fdiv_eq_ediv_of_nonneg _ (by omega)]
   omega
  have hx:=JK (n:=n/2) (m:=2197175160) (by omega) (by omega)
  have hj1:aJ ((j:Int)+1)=((j+1:Nat):Int):=by rw [aD (by omega) (by omega)];omega
  simp only [gA.l1,gA.b1,decide_eq_true c,ac,hj1,hd2,KY hn,xv]
  rw [← ih]
  unfold DL
  by_cases q:n % 2=1
  · rw [if_pos q,q,← hx]
    rfl
  · rw [if_neg q,show n % 2=0 by omega]
    rfl
theorem Jl {k:Nat} (hk:2 ^ 50≤k) {s:ByteArray} (hs:s.size≤1099511627776):∀ (d i n m:Nat),s.size-i=d→i≤s.size→n<4294967296→d<m →
 fa.l0 k m s (n:Int) (i:Int)=some (4294967295-(CS ((nb s).drop i) n:Int),())∧gA.l0 k m s (n:Int) (i:Int)=some (4294967295-(CS ((nb s).drop i) n:Int),())
 | 0,i,n,m,hd,hi,hn,hm=>by
  obtain ⟨m,rfl⟩:∃ q,m=q+1:=⟨m-1,by omega⟩
  have c:¬ ((i:Int)<(s.size:Int)):=by omega
  have e1:aJ (4294967295-(n:Int))=4294967295-(n:Int):=aD (by omega) (by omega)
  rw [List.drop_eq_nil_of_le (by rw [cP];omega)]
  constructor
  · simp only [fa.l0,fa.b0,decide_eq_false c,aK,e1,CS]
  · simp only [gA.l0,gA.b0,decide_eq_false c,aK,Kh hn,e1,CS]
 | d+1,i,n,m,hd,hi,hn,hm=>by
  obtain ⟨m,rfl⟩:∃ q,m=q+1:=⟨m-1,by omega⟩
  have hlt:i<s.size:=by omega
  have c:((i:Int)<(s.size:Int)):=by omega
  have h0:=Int.natCast_nonneg i
  have hb:=ig s i
  have hat:=wg hlt
  rw [qP hlt]
  generalize (nb s).getD i 0=b at hb hat
  have w1:aJ (b:Int)=(b:Int):=aD (by omega) (by omega)
  have w2:IntKind.wrap .u32 (b:Int)=(b:Int):=vH (by omega) (by omega)
  have hnb:n ^^^ b<4294967296:=Nat.xor_lt_two_pow (n:=32) (by omega) (by omega)
  have up:aJ ((i:Int)+1)=((i+1:Nat):Int):=by rw [aD (by omega) (by omega)];omega
  obtain ⟨s1,s2⟩:=Jl hk hs d (i+1) (xv 8 (n ^^^ b)) m (by omega) (by omega) (zF hnb) (by omega)
  constructor
  · simp only [fa.l0,fa.b0,decide_eq_true c,ac,aH h0 c,hat,w1,JG hn (show b<4294967296 by omega)]
    refine (Eh 8 0 k (n ^^^ b) (by omega) (by omega) (by omega) hnb).trans ?_
    rw [up]
    exact s1
  · simp only [gA.l0,gA.b0,decide_eq_true c,ac,aH h0 c,hat,w2,JK hn (show b<4294967296 by omega)]
    refine (E7 8 0 k (n ^^^ b) (by omega) (by omega) (by omega) hnb).trans ?_
    rw [up]
    exact s2
theorem rH {k:Nat} (hk:2 ^ 50≤k) {s:ByteArray} (hs:s.size≤1099511627776):fa.f k s=some (pI s,()):=by
 have:=(Jl hk hs s.size 0 4294967295 k (by omega) (by omega) (by omega) (by omega)).1
 rw [List.drop_zero] at this
 exact this
theorem xb {k:Nat} (hk:2 ^ 50≤k) {s:ByteArray} (hs:s.size≤1099511627776):gA.f k s=some (pI s,()):=by
 have:=(Jl hk hs s.size 0 4294967295 k (by omega) (by omega) (by omega) (by omega)).2
 rw [List.drop_zero] at this
 exact this
def eN (n:Nat):ByteArray:=bytesOf [((n/16777216 % 256:Nat):Int),((n/65536 % 256:Nat):Int),((n/256 % 256:Nat):Int),((n % 256:Nat):Int)]
theorem lZ (n:Nat):(eN n).size=4:=rfl
theorem Ej (n:Nat):nb (eN n)=[n/16777216 % 256,n/65536 % 256,n/256 % 256,n % 256] :=
 Av (l:=[n/16777216 % 256,n/65536 % 256,n/256 % 256,n % 256]) (by simp;omega)
theorem D1 {k:Nat} (hk:2 ^ 50≤k) {n:Nat} (h1:n<4294967296):dN.f k (n:Int) 4=some (eN n,()):=by
 have sz1:∀ x:Int,(bytesOf [x]).size=1:=fun x=>rfl
 have st:∀ (q m:Nat) (t:ByteArray) (j:Nat),m<4294967296→j<4→t.size≤100→dN.l0 k (q+1) (m:Int) 4 t (j:Int)=dN.l0 k q ((m/256:Nat):Int) 4 (bytesOf [((m % 256:Nat):Int)]++t) ((j+1:Nat):Int):=fun q m t j hm hj ht=>by
  have wd:aJ (Int.tdiv (m:Int) 256)=((m/256:Nat):Int):=aD (n:=((m/256:Nat):Int)) (by omega) (by omega)
  have wm:IntKind.wrap .u8 (Int.tmod (m:Int) 256)=((m % 256:Nat):Int):=ng (n:=((m % 256:Nat):Int)) (by omega) (by omega)
  have wj:aJ ((j:Int)+1)=((j+1:Nat):Int):=by rw [aD (by omega) (by omega)];omega
  simp (disch:=omega) only [dN.l0,dN.b0,aO,ac,wd,wm,wj]
  rw [e7 (by rw [sz1];omega)]
 unfold dN.f dN.t
 rw [nH,ab]
 simp only [show decide ((1:Int)≤4∧(4:Int)≤7)=true by decide,fh,aK,aP (show ¬ ((n:Int)<0) by omega)]
 obtain ⟨q,hq⟩:∃ q,k=q+5:=⟨k-5,by omega⟩
 refine (congrArg (fun z=>dN.l0 k z (n:Int) 4 ⟨#[]⟩ 0) hq).trans ?_
 refine (st (q+4) n _ 0 h1 (by omega) (by decide)).trans ?_
 refine (st (q+3) (n/256) _ 1 (by omega) (by omega) (by rw [ByteArray.size_append,sz1];decide)).trans ?_
 refine (st (q+2) (n/256/256) _ 2 (by omega) (by omega) (by rw [ByteArray.size_append,ByteArray.size_append,sz1,sz1];decide)).trans ?_
 refine (st (q+1) (n/256/256/256) _ 3 (by omega) (by omega) (by rw [ByteArray.size_append,ByteArray.size_append,ByteArray.size_append,sz1,sz1,sz1];decide)).trans ?_
 have c:¬ ((((3+1:Nat)):Int)<4):=by omega
 have c2:¬ (((n/256/256/256/256:Nat):Int) > 0):=by omega
 simp only [dN.l0,dN.b0,aP c,aP c2,aK]
 unfold eN
 congr 2
 rw [show n/256/256/256=n/16777216 by omega,show n/256/256=n/65536 by omega]
 apply ByteArray.ext
 simp [bytesOf,ByteArray.data_append]
theorem Cy {k:Nat} (hk:2 ^ 50≤k) {n:Nat} (h1:n<4294967296):df.f k (n:Int) 4=some (eN n,()):=by
 have st:∀ (q j p:Nat) (i':Int) (xs:List Int),j≤3→p=2 ^ (8*j)→i'=(j:Int)-1→xs.length≤100→df.l0 k (q+1) (n:Int) (j:Int) xs=df.l0 k q (n:Int) i' (xs++[((n/p % 256:Nat):Int)]):=fun q j p i' xs hj hp hi hx=>by
  have e8:aJ (8*(j:Int))=((8*j:Nat):Int):=by rw [aD (by omega) (by omega)];omega
  have e1:aJ ((j:Int)-1)=i':=by rw [hi];exact aD (by omega) (by omega)
  have emin:min (8*j) (IntKind.bits .i64)=8*j:=by have:IntKind.bits .i64=64:=rfl;rw [this];omega
  have ew:IntKind.wrap .u8 (Int.fdiv (n:Int) (2 ^ (8*j)))=((n/p % 256:Nat):Int):=by
   have e2:((2:Int) ^ (8*j))=((p:Nat):Int):=by rw [hp,Int.natCast_pow];rfl
   rw [e2,Int.fdiv_eq_ediv_of_nonneg _ (by omega),← Int.natCast_ediv]
   generalize n/p=z
   unfold IntKind.wrap
   simp [IntKind.bits,IntKind.signed]
  simp (disch:=first | omega | decide) only [df.l0,df.b0,aO,ac,e8,cD,e1,nt,emin,ew]
  rw [aP (by omega),aK]
 unfold df.f df.t
 rw [su,ab]
 have c0:¬ (aJ (8*4)<0):=by decide
 simp only [show decide ((1:Int)≤4∧(4:Int)≤7)=true by decide,fh,aK,aP c0,show aJ (aJ (1*2 ^ min (Int.toNat (aJ (8*4))) (IntKind.bits .i64))-1)=4294967295 by decide,su,ab]
 rw [aO (show (0:Int)≤(n:Int)∧(n:Int)≤4294967295 by omega)]
 simp only [fh,aK,show aJ ((4:Int)-1)=((3:Nat):Int) by decide]
 obtain ⟨q,hq⟩:∃ q,k=q+5:=⟨k-5,by omega⟩
 refine (congrArg (fun z=>df.l0 k z (n:Int) ((3:Nat):Int) []) hq).trans ?_
 refine (st (q+4) 3 16777216 ((2:Nat):Int) _ (by omega) (by decide) (by decide) (by decide)).trans ?_
 refine (st (q+3) 2 65536 ((1:Nat):Int) _ (by omega) (by decide) (by decide) (by simp)).trans ?_
 refine (st (q+2) 1 256 ((0:Nat):Int) _ (by omega) (by decide) (by decide) (by simp)).trans ?_
 refine (st (q+1) 0 1 (-1) _ (by omega) (by decide) (by decide) (by simp)).trans ?_
 simp only [df.l0,df.b0,show decide ((-1:Int)≥0)=false by decide,aK,Nat.div_one]
 rfl
def sg (a:Int):ByteArray:=eN a.toNat
theorem ix (a:Int):(sg a).size=4:=rfl
theorem p_ {k:Nat} (hk:2 ^ 50≤k) {a:Int} (h0:0≤a) (h1:a≤4294967295):dN.f k a 4=some (sg a,()):=by
 obtain ⟨n,rfl⟩:=Int.eq_ofNat_of_zero_le h0
 exact D1 hk (by omega)
theorem sx {k:Nat} (hk:2 ^ 50≤k) {a:Int} (h0:0≤a) (h1:a≤4294967295):df.f k a 4=some (sg a,()):=by
 obtain ⟨n,rfl⟩:=Int.eq_ofNat_of_zero_le h0
 exact Cy hk (by omega)
theorem we (s:ByteArray):(∃ x t,x<4294967296∧s=eN x++t)∨s.size<4:=by
 by_cases c:s.size<4
 · exact .inr c
 · left
   have h0:=qP (s:=s) (i:=0) (by omega)
   have h1:=qP (s:=s) (i:=1) (by omega)
   have h2:=qP (s:=s) (i:=2) (by omega)
   have h3:=qP (s:=s) (i:=3) (by omega)
   have b0:=ig s 0
   have b1:=ig s 1
   have b2:=ig s 2
   have b3:=ig s 3
   rw [h1,h2,h3,List.drop_zero] at h0
   generalize (nb s).getD 0 0=x0 at *
   generalize (nb s).getD 1 0=x1 at *
   generalize (nb s).getD 2 0=x2 at *
   generalize (nb s).getD 3 0=x3 at *
   refine ⟨((x0*256+x1)*256+x2)*256+x3,ByteArray.extract s 4 s.size,by omega,jV ?_⟩
   rw [gQ,Ej,gk,h0]
   simp only [List.cons_append,List.nil_append,List.drop_succ_cons,List.drop_zero,List.cons.injEq,and_true]
   refine ⟨?_,?_,?_,?_⟩ <;> omega
theorem tr (x:Nat) (t:ByteArray):nb (eN x++t)=(x/16777216 % 256)::(x/65536 % 256)::(x/256 % 256)::(x % 256)::nb t:=by
 rw [gQ,Ej];rfl
theorem lz (x:Nat) (t:ByteArray):(eN x++t).size=4+t.size:=by rw [ByteArray.size_append];rfl
theorem kF (k:Nat) (s:ByteArray):cZ.f k s=some (decide (1≤(s.size:Int)∧(s.size:Int)≤8),()):=by
 unfold cZ.f cZ.t
 rw [nH];rfl
theorem oq (k:Nat) (s:ByteArray):gH.f k s=some (decide (1≤(s.size:Int)∧(s.size:Int)≤8),()):=by
 unfold gH.f gH.t
 rw [su];rfl
def bm (a:Ty.d b7):Bool :=
 bif a.1==1||a.1==4 then decide (1≤(a.2.2.1.size:Int)∧(a.2.2.1.size:Int)≤8)&&(decide ((a.2.2.2.1.size:Int)≤24)&&((a.2.2.2.2.1==0)&&((a.2.2.2.2.2.1==0)&&decide (1≤a.2.1∧a.2.1≤1000000))))
 else bif a.1==2 then decide (1≤(a.2.2.1.size:Int)∧(a.2.2.1.size:Int)≤8)&&(seq a.2.2.2.1 ⟨#[]⟩&&((a.2.2.2.2.1==0)&&((a.2.2.2.2.2.1==0)&&decide (1≤a.2.1∧a.2.1≤1000000))))
 else bif a.1==3 then seq a.2.2.1 ⟨#[]⟩&&(seq a.2.2.2.1 ⟨#[]⟩&&(decide (0≤a.2.2.2.2.1∧a.2.2.2.2.1≤8)&&(decide (0≤a.2.2.2.2.2.1∧a.2.2.2.2.2.1≤4294967295)&&decide (1≤a.2.1∧a.2.1≤1000000))))
 else bif a.1==5 then seq a.2.2.1 ⟨#[]⟩&&(seq a.2.2.2.1 ⟨#[]⟩&&(decide (0≤a.2.2.2.2.1∧a.2.2.2.2.1≤20)&&(decide (0≤a.2.2.2.2.2.1∧a.2.2.2.2.2.1≤4294967295)&&decide (0≤a.2.1∧a.2.1≤1000000))))
 else false
theorem Ew (s:ByteArray):seq s ByteArray.empty=seq s ⟨#[]⟩:=rfl
theorem gq (k:Nat) (a:Ty.d b7):fV.f k a=some (bm a,()):=by
 obtain ⟨ty,tx,key,tt,n,sm,u⟩:=a
 unfold fV.f fV.t bm
 simp only [su,oq,ab,bV,Ew]
 change Int at ty tx n sm
 change ByteArray at key tt
 generalize decide (1≤(key.size:Int)∧(key.size:Int)≤8)=K
 generalize decide ((tt.size:Int)≤24)=L
 generalize decide (1≤tx∧tx≤1000000)=T1
 generalize decide (0≤tx∧tx≤1000000)=T0
 generalize decide (0≤n∧n≤8)=N1
 generalize decide (0≤n∧n≤20)=N2
 generalize decide (0≤sm∧sm≤4294967295)=S
 generalize (n==0)=Z1
 generalize (sm==0)=Z2
 generalize seq key ⟨#[]⟩=E1
 generalize seq tt ⟨#[]⟩=E2
 by_cases h1:ty=1
 · subst h1;simp;cases K <;> cases L <;> cases T1 <;> cases Z1 <;> cases Z2 <;> rfl
 by_cases h4:ty=4
 · subst h4;simp;cases K <;> cases L <;> cases T1 <;> cases Z1 <;> cases Z2 <;> rfl
 by_cases h2:ty=2
 · subst h2;simp;cases K <;> cases E2 <;> cases T1 <;> cases Z1 <;> cases Z2 <;> rfl
 by_cases h3:ty=3
 · subst h3;simp;cases E1 <;> cases E2 <;> cases T1 <;> cases N1 <;> cases S <;> rfl
 by_cases h5:ty=5
 · subst h5;simp;cases E1 <;> cases E2 <;> cases T0 <;> cases N2 <;> cases S <;> rfl
 have b1:(ty==1)=false:=mC h1
 have b2:(ty==2)=false:=mC h2
 have b3:(ty==3)=false:=mC h3
 have b4:(ty==4)=false:=mC h4
 have b5:(ty==5)=false:=mC h5
 have b6:(ty != 5)=true:=bne_iff_ne.2 h5
 simp only [b1,b2,b3,b4,b5,b6,Bool.or_false,aK,ac]
theorem AL (k:Nat) (a:Ty.d b7):jg.f k a=some (bm a,()):=by
 obtain ⟨ty,tx,key,tt,n,sm,u⟩:=a
 unfold jg.f jg.t bm
 simp only [nH,kF,ab]
 change Int at ty tx n sm
 change ByteArray at key tt
 have q:decide (1≤tx∧tx≤1000000)=(decide (0≤tx∧tx≤1000000)&&!(tx==0)):=by
  rw [Bool.eq_iff_iff];simp;omega
 rw [q]
 generalize decide (1≤(key.size:Int)∧(key.size:Int)≤8)=K
 generalize decide ((tt.size:Int)≤24)=L
 generalize decide (0≤tx∧tx≤1000000)=T0
 generalize (tx==0)=T
 generalize decide (0≤n∧n≤8)=N1
 generalize decide (0≤n∧n≤20)=N2
 generalize decide (0≤sm∧sm≤4294967295)=S
 generalize (n==0)=Z1
 generalize (sm==0)=Z2
 generalize seq key ⟨#[]⟩=E1
 generalize seq tt ⟨#[]⟩=E2
 by_cases h1:ty=1
 · subst h1;simp;cases T0 <;> cases T <;> cases K <;> cases L <;> cases Z1 <;> cases Z2 <;> rfl
 by_cases h4:ty=4
 · subst h4;simp;cases T0 <;> cases T <;> cases K <;> cases L <;> cases Z1 <;> cases Z2 <;> rfl
 by_cases h2:ty=2
 · subst h2;simp;cases T0 <;> cases T <;> cases K <;> cases E2 <;> cases Z1 <;> cases Z2 <;> rfl
 by_cases h3:ty=3
 · subst h3;simp;cases T0 <;> cases T <;> cases E1 <;> cases E2 <;> cases N1 <;> cases S <;> rfl
 by_cases h5:ty=5
 · subst h5;simp;cases T0 <;> cases T <;> cases E1 <;> cases E2 <;> cases N2 <;> cases S <;> rfl
 have b1:(ty==1)=false:=mC h1
 have b2:(ty==2)=false:=mC h2
 have b3:(ty==3)=false:=mC h3
 have b4:(ty==4)=false:=mC h4
 have b5:(ty==5)=false:=mC h5
 have b6:(ty != 5)=true:=bne_iff_ne.2 h5
 simp only [b1,b2,b3,b4,b5,b6,Bool.or_false,aK,ac]
 cases T0 <;> cases T <;> rfl
def iu (s:ByteArray):ByteArray:=gh (s.size:Int)++s
theorem lQ (s:ByteArray):(iu s).size≤7+s.size:=by
 unfold iu
 have:=bG (s.size:Int)
 rw [ByteArray.size_append]
 omega
def aG (a:Ty.d b7):ByteArray :=
 if bm a=true then
  if a.1=1∨a.1=4 then gh a.1++(gh a.2.1++(iu a.2.2.1++iu a.2.2.2.1))
  else if a.1=2 then gh a.1++(gh a.2.1++iu a.2.2.1)
  else gh a.1++(gh a.2.1++(gh a.2.2.2.2.1++sg a.2.2.2.2.2.1))
 else ⟨#[]⟩
theorem m8 {a:Ty.d b7} (h:bm a=true) :
 ((a.1=1∨a.1=4)∧1≤a.2.2.1.size∧a.2.2.1.size≤8∧a.2.2.2.1.size≤24∧a.2.2.2.2.1=0∧a.2.2.2.2.2.1=0∧1≤a.2.1∧a.2.1≤1000000) ∨
 (a.1=2∧1≤a.2.2.1.size∧a.2.2.1.size≤8∧a.2.2.2.1=⟨#[]⟩∧a.2.2.2.2.1=0∧a.2.2.2.2.2.1=0∧1≤a.2.1∧a.2.1≤1000000) ∨
 ((a.1=3∨a.1=5)∧a.2.2.1=⟨#[]⟩∧a.2.2.2.1=⟨#[]⟩∧0≤a.2.2.2.2.1∧a.2.2.2.2.1≤20∧0≤a.2.2.2.2.2.1∧a.2.2.2.2.2.1≤4294967295∧0≤a.2.1∧a.2.1≤1000000):=by
 obtain ⟨kd,bt,key,val,cn,sm,u⟩:=a
 change Int at kd bt cn sm
 change ByteArray at key val
 unfold bm at h
 simp only [] at h ⊢
 by_cases c:kd=1∨kd=4
 · have b:(kd==1||kd==4)=true:=by rcases c with c | c <;> rw [c] <;> rfl
   rw [b,ac] at h
   simp only [gN,decide_eq_true_eq,beq_iff_eq] at h
   exact .inl ⟨c,by omega,by omega,by omega,h.2.2.1,h.2.2.2.1,h.2.2.2.2⟩
 · have b1:(kd==1)=false:=mC fun h=>c (.inl h)
   have b4:(kd==4)=false:=mC fun h=>c (.inr h)
   simp only [b1,b4,Bool.or_false,aK] at h
   cases b2:(kd==2) with
   | true =>
    rw [b2,ac] at h
    simp only [gN,decide_eq_true_eq,beq_iff_eq,dr] at h
    exact .inr (.inl ⟨eq_of_beq b2,by omega,by omega,h.2.1,h.2.2.1,h.2.2.2.1,h.2.2.2.2⟩)
   | false =>
    rw [b2,aK] at h
    cases b3:(kd==3) with
    | true =>
     rw [b3,ac] at h
     simp only [gN,decide_eq_true_eq,dr] at h
     exact .inr (.inr ⟨.inl (eq_of_beq b3),h.1,h.2.1,h.2.2.1.1,Int.le_trans h.2.2.1.2 (by decide),h.2.2.2.1.1,h.2.2.2.1.2,Int.le_trans (by decide) h.2.2.2.2.1,h.2.2.2.2.2⟩)
    | false =>
     rw [b3,aK] at h
     cases b5:(kd==5) with
     | true =>
      rw [b5,ac] at h
      simp only [gN,decide_eq_true_eq,dr] at h
      exact .inr (.inr ⟨.inr (eq_of_beq b5),h.1,h.2.1,h.2.2.1.1,h.2.2.1.2,h.2.2.2.1.1,h.2.2.2.1.2,h.2.2.2.2.1,h.2.2.2.2.2⟩)
     | false =>
      rw [b5,aK] at h
      cases h
theorem vF {kd b cn sm:Int} {key val:ByteArray} (h:bm (kd,(b,(key,(val,(cn,(sm,()))))))=true) :
 ((kd=1∨kd=4)∧1≤key.size∧key.size≤8∧val.size≤24∧cn=0∧sm=0∧1≤b∧b≤1000000) ∨
 (kd=2∧1≤key.size∧key.size≤8∧val=⟨#[]⟩∧cn=0∧sm=0∧1≤b∧b≤1000000) ∨
 ((kd=3∨kd=5)∧key=⟨#[]⟩∧val=⟨#[]⟩∧0≤cn∧cn≤20∧0≤sm∧sm≤4294967295∧0≤b∧b≤1000000):=m8 h
theorem dH {k:Nat} (hk:2 ^ 50≤k) (a:Ty.d b7):cC.f k a=some (aG a,()):=by
 unfold cC.f cC.t aG
 rw [AL,ab]
 cases hr:bm a with
 | false=>rfl
 | true =>
  have v1:=bG a.1
  have v2:=bG a.2.1
  have v3:=bG (a.2.2.1.size:Int)
  have v4:=bG (a.2.2.2.1.size:Int)
  have v5:=bG a.2.2.2.2.1
  have v6:=ix a.2.2.2.2.2.1
  simp only [fh,aK,if_true,iu]
  rcases m8 hr with ⟨c,h⟩ | ⟨c,h⟩ | ⟨c,h⟩
  · rw [if_pos c]
    rcases c with c | c
    · have b1:(a.1==1)=true:=by rw [c];rfl
      simp (disch:=first | omega | (simp only [ByteArray.size_append];omega)) only [gF hk,ab,b1,ac,e7,ai]
    · have b1:(a.1==1)=false:=by rw [c];rfl
      have b4:(a.1==4)=true:=by rw [c];rfl
      simp (disch:=first | omega | (simp only [ByteArray.size_append];omega)) only [gF hk,ab,b1,b4,ac,aK,e7,ai]
  · have b1:(a.1==1)=false:=by rw [c];rfl
    have b4:(a.1==4)=false:=by rw [c];rfl
    have b2:(a.1==2)=true:=by rw [c];rfl
    rw [if_neg (show ¬ (a.1=1∨a.1=4) by rw [c];decide),if_pos c]
    simp (disch:=first | omega | (simp only [ByteArray.size_append];omega)) only [gF hk,ab,b1,b2,b4,ac,aK,e7,ai]
  · have b1:(a.1==1)=false:=by rcases c with c | c <;> rw [c] <;> rfl
    have b4:(a.1==4)=false:=by rcases c with c | c <;> rw [c] <;> rfl
    have b2:(a.1==2)=false:=by rcases c with c | c <;> rw [c] <;> rfl
    rw [if_neg (show ¬ (a.1=1∨a.1=4) by rcases c with c | c <;> rw [c] <;> decide),if_neg (show ¬ a.1=2 by rcases c with c | c <;> rw [c] <;> decide)]
    obtain ⟨_,_,_,_,z1,z2,_⟩:=h
    simp (disch:=first | assumption | omega | (simp only [ByteArray.size_append];omega)) only [gF hk,p_ hk,ab,b1,b2,b4,ac,aK,e7,ai]
theorem Fx {k:Nat} (hk:2 ^ 50≤k) (x y:Int):iz.f k [x,y]=some (gh x++gh y,()):=by
 have v1:=bG x
 have v2:=bG y
 obtain ⟨q,hq⟩:∃ q,k=q+3:=⟨k-3,by omega⟩
 refine (congrArg (fun z=>iz.l0 k z ⟨#[]⟩ [x,y] 2 0) hq).trans ?_
 rw [show iz.l0 k (q+3) ⟨#[]⟩ [x,y] 2 0=(fC.f k x).bind (fun r1=>ke ⟨#[]⟩ r1.1 (iz.l0 k (q+2) (⟨#[]⟩++r1.1) [x,y] 2 1)) from rfl]
 rw [ov hk,ab]
 simp only []
 rw [e7 (by rw [show (⟨#[]⟩:ByteArray).size=0 from rfl];omega),nL]
 rw [show iz.l0 k (q+2) (gh x) [x,y] 2 1=(fC.f k y).bind (fun r1=>ke (gh x) r1.1 (iz.l0 k (q+1) (gh x++r1.1) [x,y] 2 2)) from rfl]
 rw [ov hk,ab]
 simp only []
 rw [e7 (by omega)]
 rfl
theorem lr {k:Nat} (hk:2 ^ 50≤k) {s:ByteArray} (hs:s.size≤1099511627776):eY.f k s=some (iu s,()):=by
 have:=bG (s.size:Int)
 unfold eY.f eY.t iu
 simp (disch:=omega) only [ov hk,ab,e7]
theorem ve {k:Nat} (hk:2 ^ 50≤k) (a:Ty.d b7):iU.f k a=some (aG a,()):=by
 unfold iU.f iU.t aG
 rw [gq,ab]
 cases hr:bm a with
 | false=>rfl
 | true =>
  have v1:=bG a.1
  have v2:=bG a.2.1
  have v3:=lQ a.2.2.1
  have v4:=lQ a.2.2.2.1
  have v5:=bG a.2.2.2.2.1
  have v6:=ix a.2.2.2.2.2.1
  simp only [fh,aK,if_true,Fx hk,ab]
  rcases m8 hr with ⟨c,h⟩ | ⟨c,h⟩ | ⟨c,h⟩
  · rw [if_pos c]
    rcases c with c | c
    · have b1:(a.1==1)=true:=by rw [c];rfl
      simp (disch:=first | omega | (simp only [ByteArray.size_append];omega)) only [lr hk,ab,b1,ac,e7,ai]
    · have b1:(a.1==1)=false:=by rw [c];rfl
      have b4:(a.1==4)=true:=by rw [c];rfl
      simp (disch:=first | omega | (simp only [ByteArray.size_append];omega)) only [lr hk,ab,b1,b4,ac,aK,e7,ai]
  · have b1:(a.1==1)=false:=by rw [c];rfl
    have b4:(a.1==4)=false:=by rw [c];rfl
    have b2:(a.1==2)=true:=by rw [c];rfl
    rw [if_neg (show ¬ (a.1=1∨a.1=4) by rw [c];decide),if_pos c]
    simp (disch:=first | omega | (simp only [ByteArray.size_append];omega)) only [lr hk,ab,b1,b2,b4,ac,aK,e7,ai]
  · have b1:(a.1==1)=false:=by rcases c with c | c <;> rw [c] <;> rfl
    have b4:(a.1==4)=false:=by rcases c with c | c <;> rw [c] <;> rfl
    have b2:(a.1==2)=false:=by rcases c with c | c <;> rw [c] <;> rfl
    rw [if_neg (show ¬ (a.1=1∨a.1=4) by rcases c with c | c <;> rw [c] <;> decide),if_neg (show ¬ a.1=2 by rcases c with c | c <;> rw [c] <;> decide)]
    obtain ⟨_,_,_,_,z1,z2,_⟩:=h
    simp (disch:=first | assumption | omega | (simp only [ByteArray.size_append];omega)) only [ov hk,sx hk,ab,b1,b2,b4,ac,aK,e7,ai]
theorem jJ (a:Ty.d b7):(aG a).size≤60:=by
 unfold aG
 split
 · rename_i hr
   have v1:=bG a.1
   have v2:=bG a.2.1
   have v3:=lQ a.2.2.1
   have v4:=lQ a.2.2.2.1
   have v5:=bG a.2.2.2.2.1
   have v6:=ix a.2.2.2.2.2.1
   rcases m8 hr with ⟨c,h⟩ | ⟨c,h⟩ | ⟨c,h⟩
   · rw [if_pos c]
     simp only [ByteArray.size_append];omega
   · rw [if_neg (show ¬ (a.1=1∨a.1=4) by rw [c];decide),if_pos c]
     simp only [ByteArray.size_append];omega
   · rw [if_neg (show ¬ (a.1=1∨a.1=4) by rcases c with c | c <;> rw [c] <;> decide),if_neg (show ¬ a.1=2 by rcases c with c | c <;> rw [c] <;> decide)]
     simp only [ByteArray.size_append];omega
 · exact Nat.zero_le _
def nK:List (Ty.d b7)→ByteArray
 | []=>⟨#[]⟩
 | a::l=>aG a++nK l
def ul (l:List (Ty.d b7)):Int:=pI (nK l)
theorem Dc (l:List (Ty.d b7)):0≤ul l∧ul l≤4294967295:=tD _
theorem oy {k:Nat} (hk:2 ^ 50≤k) {l:List (Ty.d b7)} (hl:l.length≤1073741824):fX.f k l=some (ul l,()):=by
 refine (eG (L:=fun n i s=>fX.l0 k n l s i) (R:=fun l s=>some (pI (s++nK l),())) (Ty.z b7) l (fun i s=>(s.size:Int)≤60*i) (fun n s hs=>?_) (fun n i s x rest h0 h1 hx hr hp ih=>?_) (n:=k) (s:=⟨#[]⟩) (by omega) (by decide)).trans (by rw [nL];rfl)
 · simp (disch:=omega) only [fX.l0,fX.b0,aP,aK,rH hk,ab,nK,jE]
 · have hz:=jJ x
   simp (disch:=omega) only [fX.l0,fX.b0,aO,ac,aH,hx,dH hk,ab,e7,aD]
   rw [ih _ (by rw [ByteArray.size_append];omega),nK,ai]
theorem zl {k:Nat} (hk:2 ^ 50≤k) {l:List (Ty.d b7)} (hl:l.length≤1073741824):iB.f k l=some (ul l,()):=by
 refine (eG (L:=fun n i s=>iB.l0 k n s l l.length i) (R:=fun l s=>some (pI (s++nK l),())) (Ty.z b7) l (fun i s=>(s.size:Int)≤60*i) (fun n s hs=>?_) (fun n i s x rest h0 h1 hx hr hp ih=>?_) (n:=k) (s:=⟨#[]⟩) (by omega) (by decide)).trans (by rw [nL];rfl)
 · simp (disch:=omega) only [iB.l0,iB.b0,aP,aK,xb hk,ab,nK,jE]
 · have hz:=jJ x
   simp (disch:=omega) only [iB.l0,iB.b0,aO,ac,aH,hx,ve hk,ab,e7,aD]
   rw [ih _ (by rw [ByteArray.size_append];omega),nK,ai]
theorem zq {s:ByteArray} (hs:s.size≤4611686018427387904) (k:Nat):∀ (d i acc n:Nat),i+d=7→acc<128 ^ i→d<n →
 cT.l0 k n s (acc:Int) (i:Int)=some (match rv d ((nb s).drop i) with
  | some (a,m)=>if a=0∧0<i then (0,(0,())) else (((acc+a*128 ^ i:Nat):Int),(((i+m:Nat):Int),()))
  | none=>(0,(0,()))):=by
 intro d
 induction d with
 | zero =>
  intro i acc n h1 h2 h3
  obtain ⟨n,rfl⟩:∃ q,n=q+1:=⟨n-1,by omega⟩
  simp (disch:=omega) only [cT.l0,cT.b0,aP,aK,rv]
 | succ d ih =>
  intro i acc n h1 h2 h3
  obtain ⟨n,rfl⟩:∃ q,n=q+1:=⟨n-1,by omega⟩
  by_cases hlt:i<s.size
  case neg =>
   rw [List.drop_eq_nil_of_le (by rw [cP];omega)]
   simp (disch:=omega) only [cT.l0,cT.b0,aO,aP,ac,aK,rv]
  have hb:=ig s i
  have hat:=wg hlt
  have ih:=ih (i+1)
  rw [qP hlt]
  generalize (nb s).getD i 0=b at hb hat
  have e8:aJ (7*(i:Int))=((7*i:Nat):Int):=by rw [aD (by omega) (by omega)];omega
  have emin:min (7*i) (IntKind.bits .i64)=7*i:=by have:IntKind.bits .i64=64:=rfl;rw [this];omega
  have ep:(2:Int) ^ (7*i)=((128 ^ i:Nat):Int):=by rw [Int.pow_mul,Int.natCast_pow];rfl
  have hp:128 ^ i≤128 ^ 6:=Nat.pow_le_pow_right (by decide) (by omega)
  rw [show (128:Nat) ^ 6=4398046511104 by decide] at hp
  have hps:128 ^ (i+1)=128 ^ i*128:=Nat.pow_succ ..
  have hb2:(b % 128)*128 ^ i≤127*128 ^ i:=Nat.mul_le_mul (by omega) (Nat.le_refl _)
  have ev:aJ ((acc:Int)+aJ (Int.tmod (b:Int) 128*2 ^ (7*i)))=((acc+b % 128*128 ^ i:Nat):Int):=by
   have e:Int.tmod (b:Int) 128*2 ^ (7*i)=((b % 128*128 ^ i:Nat):Int):=by
    rw [ep,Int.natCast_mul]
    rfl
   rw [e,aD (n:=((b % 128*128 ^ i:Nat):Int)) (by omega) (by omega),aD (by omega) (by omega)]
   omega
  have eb:aJ ((b:Nat):Int)=(b:Int):=aD (by omega) (by omega)
  have ei:aJ ((i:Int)+1)=((i+1:Nat):Int):=by rw [aD (by omega) (by omega)];omega
  have ih:=ih (acc+b % 128*128 ^ i) n (by omega) (by omega) (by omega)
  simp (disch:=omega) only [cT.l0,cT.b0,aO,ac,aH,hat,eb,e8,nt,emin,ev,ei]
  rw [aP (by omega),aK]
  by_cases c:b≥128
  · rw [aO (show (b:Int)≥128 by omega),ac,ih,rv,if_pos c]
    cases q:rv d ((nb s).drop (i+1)) with
    | none=>rfl
    | some p =>
     obtain ⟨a,m⟩:=p
     simp only []
     by_cases z:a=0
     · simp [z]
     · have hm:a*128 ^ (i+1)=128*a*128 ^ i:=by rw [hps,Nat.mul_comm (128 ^ i),← Nat.mul_assoc,Nat.mul_comm a]
       rw [if_neg (by omega),if_neg z]
       simp only []
       rw [if_neg (by omega)]
       have e1:acc+b % 128*128 ^ i+a*128 ^ (i+1)=acc+(b % 128+128*a)*128 ^ i:=by rw [hm,Nat.add_mul];omega
       have e2:i+1+m=i+(m+1):=by omega
       rw [e1,e2]
  · have em:b % 128=b:=by omega
    rw [aP (show ¬ (b:Int)≥128 by omega),aK,rv,if_neg c,em]
    by_cases z:b=0
    · subst z
      rw [show ((((0:Nat):Int)==0))=true from rfl,ac]
      by_cases hi:0<i
      · rw [aO (show (i:Int) > 0 by omega),ac]
        simp [hi]
      · rw [aP (show ¬ (i:Int) > 0 by omega),aK]
        simp [hi]
    · rw [show ((b:Int)==0)=false from mC (by omega),aK]
      simp [z]
theorem me {k:Nat} (hk:2 ^ 50≤k) {s:ByteArray} (hs:s.size≤4611686018427387904):cT.f k s=some (DN (rv 7 (nb s))):=by
 unfold cT.f cT.t
 refine (zq hs k 7 0 0 k (by omega) (by decide) (by omega)).trans ?_
 rw [List.drop_zero]
 cases rv 7 (nb s) with
 | none=>rfl
 | some p=>simp [DN]
theorem Ei {k:Nat} {L0:ByteArray→Int→Option (Int × Int × Unit)} {s:ByteArray} {n:Nat}:∀ (j x m:Nat),j<m→j≤s.size→j≤7→(x+1)*128 ^ j≤562949953421312 →
 af.l1 k L0 m s (n:Int) (x:Int) ((j:Int)-1)=af.l1 k L0 (m-j) s (n:Int) ((x*128 ^ j+qo ((nb s).take j):Nat):Int) (-1)
 | 0,x,m,hm,hs,h7,hx=>by simp [qo]
 | j+1,x,m,hm,hs,h7,hx=>by
  obtain ⟨m,rfl⟩:∃ q,m=q+1:=⟨m-1,by omega⟩
  have hj:j<s.size:=by omega
  have hb:=ig s j
  rw [Nat.pow_succ,← Nat.mul_assoc,Nat.mul_comm _ 128,← Nat.mul_assoc] at hx
  have hpos:1≤128 ^ j:=Nat.one_le_pow _ _ (by decide)
  have hx2:(128*(x+1))*1≤(128*(x+1))*128 ^ j:=Nat.mul_le_mul (Nat.le_refl _) hpos
  have hat:=wg hj
  have e0:((j+1:Nat):Int)-1=(j:Int):=by omega
  have c:(j:Int)≥0:=by omega
  have c2:(j:Int)<(s.size:Int):=by omega
  rw [Gv hj,BK,List.length_take,cP,Nat.min_eq_left (by omega)]
  generalize (nb s).getD j 0=b at hb hat ⊢
  have w1:aJ (((b:Nat):Int))=(b:Int):=aD (by omega) (by omega)
  have w2:aJ ((x:Int)*128)=(x:Int)*128:=aD (by omega) (by omega)
  have w3:aJ ((x:Int)*128+Int.tmod (b:Int) 128)=((x*128+b % 128:Nat):Int):=by
   have e:(x:Int)*128+Int.tmod (b:Int) 128=((x*128+b % 128:Nat):Int):=by
    show (x:Int)*128+((b % 128:Nat):Int)=_
    omega
   rw [e]
   exact aD (by omega) (by omega)
  have w4:aJ ((j:Int)-1)=(j:Int)-1:=aD (by omega) (by omega)
  have hx3:(x*128+b % 128+1)*128 ^ j≤(128*(x+1))*128 ^ j:=Nat.mul_le_mul (by omega) (Nat.le_refl _)
  have ih:=Ei (k:=k) (L0:=L0) (s:=s) (n:=n) j (x*128+b % 128) m (by omega) (by omega) (by omega) (by omega)
  rw [e0]
  simp only [af.l1,af.b1,decide_eq_true c,ac,aH c c2,hat,w1,w2,w3,w4]
  rw [ih,show m+1-(j+1)=m-j by omega]
  congr 2
  rw [Nat.pow_succ,Nat.add_mul,Nat.mul_assoc,Nat.mul_comm 128 (128 ^ j),Nat.mul_comm (b % 128)]
  omega
theorem LA {s:ByteArray} {n:Nat} (h7:n≤7):qo ((nb s).take n)<562949953421312:=by
 have:=zm ((nb s).take n)
 have h1:((nb s).take n).length≤7:=by rw [List.length_take];omega
 have h2:(128:Nat) ^ ((nb s).take n).length≤128 ^ 7:=Nat.pow_le_pow_right (by decide) h1
 rw [show (128:Nat) ^ 7=562949953421312 by decide] at h2
 omega
theorem zB {k:Nat} (hk:2 ^ 50≤k) {s:ByteArray}:∀ (d i n:Nat),i+d=8→1≤i→d<n →
 af.l0 k n s (i:Int)=some (match rv 7 (nb s) with | some (a,m)=>if i≤m then ((a:Int),((m:Int),())) else (0,(0,())) | none=>(0,(0,()))):=by
 have stop:∀ i,(7<i∨s.size<i)→(match rv 7 (nb s) with | some (a,m)=>if i≤m then ((a:Int),((m:Int),())) else (0,(0,())) | none=>(0,(0,())))=((0:Int),((0:Int),())):=by
  intro i hi
  cases q:rv 7 (nb s) with
  | none=>rfl
  | some p =>
   obtain ⟨a,m⟩:=p
   obtain ⟨_,_,_,h4,_,h6⟩:=oa 6 (nb s) a m (rJ s) q
   rw [cP] at h4
   exact if_neg (by omega)
 intro d
 induction d with
 | zero =>
  intro i n h1 h2 h3
  obtain ⟨n,rfl⟩:∃ q,n=q+1:=⟨n-1,by omega⟩
  rw [stop i (by omega)]
  simp (disch:=omega) only [af.l0,af.b0,aP,aK]
 | succ d ih =>
  intro i n h1 h2 h3
  obtain ⟨n,rfl⟩:∃ q,n=q+1:=⟨n-1,by omega⟩
  by_cases hs:i≤s.size
  case neg =>
   rw [stop i (by omega)]
   simp (disch:=omega) only [af.l0,af.b0,aO,aP,ac,aK]
  have hp:(128:Nat) ^ i≤128 ^ 7:=Nat.pow_le_pow_right (by decide) (by omega)
  rw [show (128:Nat) ^ 7=562949953421312 by decide] at hp
  simp (disch:=omega) only [af.l0,af.b0,aO,ac,aD]
  refine (Ei (k:=k) (L0:=af.l0 k n) (s:=s) (n:=i) i 0 k (by omega) hs (by omega) (by omega)).trans ?_
  obtain ⟨m,hm⟩:∃ m,k-i=m+1:=⟨k-i-1,by omega⟩
  have hd7:=LA (s:=s) (n:=i) (by omega)
  have hc:=F1 (s:=s) (n:=i) h2 (by omega) hs
  rw [hm,Nat.zero_mul,Nat.zero_add]
  simp only [af.l1,af.b1,show decide ((-1:Int)≥0)=false by decide,aK,gF hk,ab,dX hd7]
  rw [cM (by omega) (by omega),nt,hc,aD (by omega) (by omega)]
  have hw:=Hy (nb s) (rJ s) 6 i h2 (by omega) (by rw [cP];exact hs)
  cases hq:pg ((nb s).take i) with
  | true =>
   obtain ⟨a,ha⟩:=hw.1 hq
   rw [ac,ha]
   simp only []
   rw [if_pos (Nat.le_refl _),Jj (rJ s) ha]
  | false =>
   have hnot:∀ a,rv 7 (nb s)≠some (a,i):=fun a ha=>by
    have:=hw.2 ⟨a,ha⟩
    rw [hq] at this
    cases this
   rw [aK]
   refine (ih (i+1) n (by omega) (by omega) (by omega)).trans ?_
   cases q:rv 7 (nb s) with
   | none=>rfl
   | some p =>
    obtain ⟨a,m'⟩:=p
    have:m'≠i:=fun e=>hnot a (by rw [q,e])
    simp only []
    by_cases c:i≤m'
    · rw [if_pos c,if_pos (by omega)]
    · rw [if_neg c,if_neg (by omega)]
theorem fP {k:Nat} (hk:2 ^ 50≤k) (s:ByteArray):af.f k s=some (DN (rv 7 (nb s))):=by
 unfold af.f af.t
 refine (zB hk 7 1 k (by omega) (by omega) (by omega)).trans ?_
 cases q:rv 7 (nb s) with
 | none=>rfl
 | some p =>
  obtain ⟨a,m⟩:=p
  obtain ⟨_,_,_,_,h5,_⟩:=oa 6 (nb s) a m (rJ s) q
  simp only [DN]
  rw [if_pos h5]
theorem nz {k:Nat} (hk:2 ^ 50≤k) {x:Nat} (hx:x<4294967296) (t:ByteArray):bY.f k (eN x++t) 4=some ((x:Int),(true,())):=by
 have hz:=lz x t
 have st:∀ (q a j:Nat),j<4→a<4294967296→bY.l0 k (q+1) (eN x++t) 4 (a:Int) (j:Int)=bY.l0 k q (eN x++t) 4 ((a*256+(nb (eN x++t)).getD j 0:Nat):Int) ((j+1:Nat):Int):=fun q a j hj ha=>by
  have hb:=ig (eN x++t) j
  have hat:=wg (s:=eN x++t) (i:=j) (by omega)
  generalize (nb (eN x++t)).getD j 0=b at *
  have e1:aJ (aJ ((a:Int)*256)+aJ (b:Int))=((a*256+b:Nat):Int):=by
   rw [aD (n:=(a:Int)*256) (by omega) (by omega),aD (n:=(b:Int)) (by omega) (by omega),aD (by omega) (by omega)]
   omega
  have ej:aJ ((j:Int)+1)=((j+1:Nat):Int):=by rw [aD (by omega) (by omega)];omega
  simp (disch:=omega) only [bY.l0,bY.b0,aO,ac,aH,hat,e1,ej]
 unfold bY.f bY.t
 rw [nH,ab]
 simp only [show decide ((1:Int)≤4∧(4:Int)≤7)=true by decide,fh,aK,aP (show ¬ (((eN x++t).size:Int)<4) by omega)]
 obtain ⟨q,hq⟩:∃ q,k=q+5:=⟨k-5,by omega⟩
 refine (congrArg (fun z=>bY.l0 k z (eN x++t) 4 0 0) hq).trans ?_
 refine (st (q+4) 0 0 (by omega) (by omega)).trans ?_
 rw [tr]
 simp only [List.getD_cons_zero,Nat.zero_mul,Nat.zero_add]
 refine (st (q+3) _ 1 (by omega) (by omega)).trans ?_
 rw [tr]
 simp only [List.getD_cons_zero,List.getD_cons_succ]
 refine (st (q+2) _ 2 (by omega) (by omega)).trans ?_
 rw [tr]
 simp only [List.getD_cons_zero,List.getD_cons_succ]
 refine (st (q+1) _ 3 (by omega) (by omega)).trans ?_
 rw [tr]
 simp only [List.getD_cons_zero,List.getD_cons_succ]
 simp only [bY.l0,bY.b0,show decide ((((3+1:Nat)):Int)<4)=false by decide,aK]
 congr 3
 omega
theorem o6 {k:Nat} (hk:2 ^ 50≤k) {x:Nat} (hx:x<4294967296) (t:ByteArray):bd.f k (eN x++t) 4=some ((x:Int),(true,())):=by
 have hz:=lz x t
 have st:∀ (q a j:Nat),j<4→a<16777216→bd.l0 k (q+1) (eN x++t) (a:Int) 4 (j:Int)=bd.l0 k q (eN x++t) ((a*256+(nb (eN x++t)).getD j 0:Nat):Int) 4 ((j+1:Nat):Int):=fun q a j hj ha=>by
  have hb:=ig (eN x++t) j
  have hat:=wg (s:=eN x++t) (i:=j) (by omega)
  generalize (nb (eN x++t)).getD j 0=b at *
  have e0:aJ ((a:Int)*2 ^ min (Int.toNat 8) (IntKind.bits .i64))=((a*256:Nat):Int):=by
   rw [show (2:Int) ^ min (Int.toNat 8) (IntKind.bits .i64)=256 by decide,aD (by omega) (by omega)]
   omega
  have e2:aJ (b:Int)=(b:Int):=aD (by omega) (by omega)
  have ej:aJ ((j:Int)+1)=((j+1:Nat):Int):=by rw [aD (by omega) (by omega)];omega
  simp (disch:=omega) only [bd.l0,bd.b0,aO,ac,aH,hat,e0,e2,ej]
  rw [L8 (by omega) hb]
 unfold bd.f bd.t
 rw [su,ab]
 simp only [show decide ((1:Int)≤4∧(4:Int)≤7)=true by decide,fh,aK,aP (show ¬ (((eN x++t).size:Int)<4) by omega)]
 obtain ⟨q,hq⟩:∃ q,k=q+5:=⟨k-5,by omega⟩
 refine (congrArg (fun z=>bd.l0 k z (eN x++t) 0 4 0) hq).trans ?_
 refine (st (q+4) 0 0 (by omega) (by omega)).trans ?_
 rw [tr]
 simp only [List.getD_cons_zero,Nat.zero_mul,Nat.zero_add]
 refine (st (q+3) _ 1 (by omega) (by omega)).trans ?_
 rw [tr]
 simp only [List.getD_cons_zero,List.getD_cons_succ]
 refine (st (q+2) _ 2 (by omega) (by omega)).trans ?_
 rw [tr]
 simp only [List.getD_cons_zero,List.getD_cons_succ]
 refine (st (q+1) _ 3 (by omega) (by omega)).trans ?_
 rw [tr]
 simp only [List.getD_cons_zero,List.getD_cons_succ]
 simp only [bd.l0,bd.b0,show decide ((((3+1:Nat)):Int)<4)=false by decide,aK]
 congr 3
 omega
theorem sw (k:Nat) {s:ByteArray} (h:s.size<4):bY.f k s 4=some (0,(false,())):=by
 unfold bY.f bY.t
 rw [nH,ab]
 simp only [show decide ((1:Int)≤4∧(4:Int)≤7)=true by decide,fh,aK,aO (show (s.size:Int)<4 by omega),ac]
theorem sv (k:Nat) {s:ByteArray} (h:s.size<4):bd.f k s 4=some (0,(false,())):=by
 unfold bd.f bd.t
 rw [su,ab]
 simp only [show decide ((1:Int)≤4∧(4:Int)≤7)=true by decide,fh,aK,aO (show (s.size:Int)<4 by omega),ac]
def aQ (s:ByteArray):ByteArray:=if s.size > 200 then ⟨#[]⟩ else sg (pI (iu s))++iu s
theorem kg (s:ByteArray):(aQ s).size≤211:=by
 unfold aQ
 split
 · exact Nat.zero_le _
 · have:=lQ s
   rw [ByteArray.size_append,ix];omega
theorem jq {s:ByteArray} (h:s.size≤200):5≤(aQ s).size:=by
 unfold aQ
 rw [if_neg (by omega),ByteArray.size_append,ix]
 unfold iu
 rw [dX (by omega),ByteArray.size_append]
 have:=ah s.size
 omega
theorem lH {k:Nat} (hk:2 ^ 50≤k) (s:ByteArray):fH.f k s=some (aQ s,()):=by
 unfold fH.f fH.t aQ
 by_cases c:s.size > 200
 · rw [aO (show (s.size:Int) > 200 by omega),ac,if_pos c]
 · have h1:=bG (s.size:Int)
   have h2:=tD (gh (s.size:Int)++s)
   rw [aP (show ¬ (s.size:Int) > 200 by omega),aK,if_neg c]
   unfold iu
   simp (disch:=first | omega | (simp only [ByteArray.size_append,ix];omega)) only [gF hk,ab,e7,rH hk]
   rw [p_ hk h2.1 h2.2,ab,e7 (by simp only [ByteArray.size_append,ix];omega)]
theorem zR {k:Nat} (hk:2 ^ 50≤k) (s:ByteArray):jy.f k s=some (aQ s,()):=by
 unfold jy.f jy.t aQ
 by_cases c:s.size > 200
 · rw [aO (show (s.size:Int) > 200 by omega),ac,if_pos c]
 · have h1:=lQ s
   have h2:=tD (iu s)
   rw [aP (show ¬ (s.size:Int) > 200 by omega),aK,if_neg c]
   simp (disch:=omega) only [lr hk,ab,xb hk]
   rw [sx hk h2.1 h2.2,ab,e7 (by rw [ix];omega)]
theorem aN (a b:ByteArray):(a++b).size=a.size+b.size:=ByteArray.size_append ..
theorem pL (a b t:ByteArray):ByteArray.extract (a++(b++t)) (a.size+b.size) (a++(b++t)).size=t:=by
 have:=dk (a++b) t
 rw [aN,ai] at this
 exact this
theorem Kr (a b t:ByteArray):ByteArray.extract (a++(b++t)) a.size (a.size+b.size)=b:=jV (by
 rw [rW,gQ,gQ,List.take_append,List.take_of_length_le (by rw [cP];omega),cP,show a.size+b.size-a.size=b.size by omega,List.drop_left' (cP a),List.take_left' (cP b)])
theorem si (a b:Nat):((a:Int)+(b:Int))=((a+b:Nat):Int):=rfl
theorem mq {k:Nat} (hk:2 ^ 50≤k) {a:Nat} {t:ByteArray} (ha:a<562949953421312) (hs:t.size≤1099511627776):cT.f k (bB a++t)=some ((a:Int),(((bB a).size:Int),())):=by
 have:=ah a
 rw [me hk (by rw [aN];omega),pK ha];rfl
theorem mL {k:Nat} (hk:2 ^ 50≤k) {s:ByteArray} (h:rv 7 (nb s)=none) (hs:s.size≤1099511627776):cT.f k s=some (0,(0,())):=by
 rw [me hk (by omega),h];rfl
theorem cQ {k:Nat} (hk:2 ^ 50≤k) {a:Nat} {t:ByteArray} (ha:a<562949953421312):af.f k (bB a++t)=some ((a:Int),(((bB a).size:Int),())):=by
 rw [fP hk,pK ha];rfl
theorem jM {k:Nat} (hk:2 ^ 50≤k) {s:ByteArray} (h:rv 7 (nb s)=none):af.f k s=some (0,(0,())):=by
 rw [fP hk,h];rfl
theorem ib {k:Nat} (hk:2 ^ 50≤k) {a:Nat} {t:ByteArray} (ha:a<562949953421312) (hs:t.size≤1099511627776):ap.f k (bB a++t,(false,()))=some ((t,(false,())),((a:Int),())):=by
 have h1:=ah a
 unfold ap.f ap.t
 rw [mq hk ha hs,ab]
 simp only [aK]
 rw [show (((bB a).size:Int)==0)=false from mC (by omega),aK,cM (by omega) (by rw [aN];omega),nt,dk]
theorem ow {k:Nat} (hk:2 ^ 50≤k) {s:ByteArray} (h:rv 7 (nb s)=none) (hs:s.size≤1099511627776):ap.f k (s,(false,()))=some ((s,(true,())),(0,())):=by
 unfold ap.f ap.t
 rw [mL hk h hs,ab]
 rfl
theorem HT {k:Nat} (hk:2 ^ 50≤k) {s:ByteArray} (hs:s.size≤1099511627776):ap.f k (s,(true,()))=some ((s,(true,())),(0,())):=by
 unfold ap.f ap.t
 rw [me hk (show s.size≤_ by omega),ab]
 rfl
theorem xa (k:Nat) (u t:ByteArray):an.f k (u++t,(false,())) (u.size:Int)=some ((t,(false,())),(u,())):=by
 unfold an.f an.t
 simp only [aK]
 rw [aP (by rw [aN];omega),aK,cM (by omega) (by rw [aN];omega),cM (by omega) (by rw [aN];omega),nt,dk,AY]
theorem yU (k:Nat) {s:ByteArray} {n:Int} (h:n > (s.size:Int)):an.f k (s,(false,())) n=some ((s,(true,())),(⟨#[]⟩,())):=by
 unfold an.f an.t
 simp only [aK]
 rw [aO h,ac]
theorem s_ (k:Nat) (s:ByteArray) (n:Int):an.f k (s,(true,())) n=some ((s,(true,())),(⟨#[]⟩,())):=by
 unfold an.f an.t
 rfl
theorem mr (s:ByteArray):(∃ u t,u.size<562949953421312∧s=bB u.size++(u++t))∨rv 7 (nb s)=none∨(∃ a t,a<562949953421312∧s=bB a++t∧t.size<a):=by
 rcases mG s with ⟨a,t,ha,rfl⟩ | h
 · by_cases c:t.size<a
   · exact .inr (.inr ⟨a,t,ha,rfl,c⟩)
   · have e:=wk t (n:=a) (by omega)
     have hz:(ByteArray.extract t 0 a).size=a:=by rw [← cP,jw,List.length_take,cP];omega
     exact .inl ⟨_,_,by rw [hz];exact ha,by rw [hz,← e]⟩
 · exact .inr (.inl h)
theorem nQ {k:Nat} (hk:2 ^ 50≤k) {u t:ByteArray} (hu:u.size<562949953421312) (hs:(u++t).size≤1099511627776):aj.f k (bB u.size++(u++t),(false,()))=some ((t,(false,())),(u,())):=by
 unfold aj.f aj.t
 rw [ib hk hu hs,ab]
 simp only []
 rw [xa,ab]
theorem xG {k:Nat} (hk:2 ^ 50≤k) {s:ByteArray} (hs:s.size≤1099511627776):aj.f k (s,(true,()))=some ((s,(true,())),(⟨#[]⟩,())):=by
 unfold aj.f aj.t
 rw [HT hk hs,ab]
 simp only []
 rw [s_,ab]
theorem vp {k:Nat} (hk:2 ^ 50≤k) {s:ByteArray} (hs:s.size≤1099511627776) (h:rv 7 (nb s)=none∨(∃ a t,a<562949953421312∧s=bB a++t∧t.size<a)):∃ s',s'.size≤1099511627776∧aj.f k (s,(false,()))=some ((s',(true,())),(⟨#[]⟩,())):=by
 unfold aj.f aj.t
 rcases h with h | ⟨a,t,ha,rfl,ht⟩
 · refine ⟨s,hs,?_⟩
   rw [ow hk h hs,ab]
   simp only []
   rw [s_,ab]
 · have:=ah a
   rw [aN] at hs
   refine ⟨t,by omega,?_⟩
   rw [ib hk ha (by omega),ab]
   simp only []
   rw [yU k (by omega),ab]
theorem u0 {k:Nat} (hk:2 ^ 50≤k) {u t:ByteArray} (hu:u.size<562949953421312) (hs:(u++t).size≤1099511627776):cJ.f k (bB u.size++(u++t))=some (u,(t,(true,()))):=by
 have h1:=ah u.size
 have h2:(bB u.size++(u++t)).size=(bB u.size).size+(u.size+t.size):=by rw [aN,aN]
 rw [aN] at hs
 unfold cJ.f cJ.t
 rw [cQ hk hu,ab]
 simp only []
 rw [show (((bB u.size).size:Int)==0)=false from mC (by omega),aK,aD (by omega) (by omega),aP (by omega),aK,si,aD (by omega) (by omega),
  s7 (by omega) (by omega) (by omega),cM (by omega) (by omega),nt,nt,Kr,pL]
theorem wu {k:Nat} (hk:2 ^ 50≤k) {s:ByteArray} (hs:s.size≤1099511627776) (h:rv 7 (nb s)=none∨(∃ a t,a<562949953421312∧s=bB a++t∧t.size<a)):cJ.f k s=some (⟨#[]⟩,(⟨#[]⟩,(false,()))):=by
 unfold cJ.f cJ.t
 rcases h with h | ⟨a,t,ha,rfl,ht⟩
 · rw [jM hk h,ab];rfl
 · have:=ah a
   rw [aN] at hs
   rw [cQ hk ha,ab]
   simp only []
   rw [show (((bB a).size:Int)==0)=false from mC (by omega),aK,aD (by rw [aN];omega) (by rw [aN];omega),aO (by rw [aN];omega),ac]
section
open Classical
variable {α:Type}
noncomputable def nX (ok:α→Prop) (shw:α→ByteArray) (z:α) (s:ByteArray):α × Bool:=if h:∃ r,ok r∧shw r=s then (h.choose,true) else (z,false)
theorem yz {ok:α→Prop} {shw:α→ByteArray} {z:α} {s:ByteArray} {r:α} (h:nX ok shw z s=(r,true)):ok r∧shw r=s:=by
 unfold nX at h
 split at h
 · rename_i q
   obtain rfl:=(Prod.mk.inj h).1
   exact q.choose_spec
 · cases (Prod.mk.inj h).2
theorem Eg {ok:α→Prop} {shw:α→ByteArray} {z:α} {s:ByteArray} (h:(nX ok shw z s).2=false):nX ok shw z s=(z,false):=by
 unfold nX at h ⊢
 split
 · rename_i q;rw [dif_pos q] at h;cases h
 · rfl
theorem jD (ok:α→Prop) (shw:α→ByteArray) (z:α) (s:ByteArray):(∃ r,ok r∧shw r=s∧nX ok shw z s=(r,true))∨nX ok shw z s=(z,false):=by
 cases h:(nX ok shw z s).2 with
 | false=>exact .inr (Eg h)
 | true =>
  have e:nX ok shw z s=((nX ok shw z s).1,true):=by rw [← h]
  exact .inl ⟨_,(yz e).1,(yz e).2,e⟩
theorem qW {ok:α→Prop} {shw:α→ByteArray} {z:α} {s:ByteArray} {f:Option (α × Bool × Unit)} (h1:∀ r,ok r→shw r=s→f=some (r,(true,())))
 (h2:(∃ r,ok r∧shw r=s∧f=some (r,(true,())))∨f=some (z,(false,()))):f=some ((nX ok shw z s).1,((nX ok shw z s).2,())):=by
 rcases jD ok shw z s with ⟨r,a,b,e⟩ | e
 · rw [e,h1 r a b]
 · rcases h2 with ⟨r,a,b,_⟩ | h2
   · unfold nX at e
     rw [dif_pos ⟨r,a,b⟩] at e
     cases (Prod.mk.inj e).2
   · rw [e,h2]
theorem Ds {ok:α→Prop} {shw:α→ByteArray} {z:α} {r:α} (hi:∀ a b,ok a→ok b→shw a=shw b→a=b) (h:ok r):nX ok shw z (shw r)=(r,true):=by
 rcases jD ok shw z (shw r) with ⟨q,a,b,e⟩ | e
 · rw [e,hi q r a h b]
 · unfold nX at e
   rw [dif_pos ⟨r,h,rfl⟩] at e
   cases (Prod.mk.inj e).2
end
abbrev rZ:Ty.d b7:=(0,(0,(ByteArray.empty,(ByteArray.empty,(0,(0,()))))))
theorem yG {a:Ty.d b7} (h:bm a=true) :
 (∃ (b:Nat) (kd:Nat),(kd=1∨kd=4)∧b≤1000000∧a=((kd:Int),((b:Int),(a.2.2.1,(a.2.2.2.1,(0,(0,()))))))∧a.2.2.1.size≤8∧a.2.2.2.1.size≤24 ∧
  aG a=bB kd++(bB b++(bB a.2.2.1.size++(a.2.2.1++(bB a.2.2.2.1.size++(a.2.2.2.1++⟨#[]⟩)))))) ∨
 (∃ (b:Nat),b≤1000000∧a=(2,((b:Int),(a.2.2.1,(ByteArray.empty,(0,(0,()))))))∧a.2.2.1.size≤8∧aG a=bB 2++(bB b++(bB a.2.2.1.size++(a.2.2.1++⟨#[]⟩)))) ∨
 (∃ (b kd c x:Nat),(kd=3∨kd=5)∧b≤1000000∧c≤20∧x<4294967296∧a=((kd:Int),((b:Int),(ByteArray.empty,(ByteArray.empty,((c:Int),((x:Int),()))))))∧aG a=bB kd++(bB b++(bB c++(eN x++⟨#[]⟩)))):=by
 have hh:=h
 obtain ⟨kd,b,key,val,c,x,u⟩:=a
 change Int at kd b c x
 change ByteArray at key val
 rcases vF h with ⟨hc,h⟩ | ⟨hc,h⟩ | ⟨hc,h⟩
 · obtain ⟨z1,z2,z3,z4,z5,z6,z7⟩:=h
   subst z4;subst z5
   obtain ⟨b,rfl⟩:=Int.eq_ofNat_of_zero_le (show 0≤b by omega)
   left
   refine ⟨b,kd.toNat,by omega,by omega,?_,z2,z3,?_⟩
   · rw [show ((kd.toNat:Nat):Int)=kd by omega]
   · unfold aG
     rw [if_pos hh,if_pos hc]
     simp only [iu]
     rw [dX (by omega),dX (by omega),dX (by omega),jE,ai,show gh kd=bB kd.toNat by rw [← dX (show kd.toNat<562949953421312 by omega)];congr 1;omega]
 · obtain ⟨z1,z2,z3,z4,z5,z6,z7⟩:=h
   subst z3;subst z4;subst z5;subst hc
   obtain ⟨b,rfl⟩:=Int.eq_ofNat_of_zero_le (show 0≤b by omega)
   right;left
   refine ⟨b,by omega,rfl,z2,?_⟩
   unfold aG
   rw [if_pos hh,if_neg (show ¬ ((2:Int)=1∨(2:Int)=4) by decide),if_pos rfl]
   simp only [iu]
   rw [dX (by omega),dX (by omega),jE]
   rfl
 · obtain ⟨z1,z2,z3,z4,z5,z6,z7,z8⟩:=h
   subst z1;subst z2
   obtain ⟨b,rfl⟩:=Int.eq_ofNat_of_zero_le (show 0≤b by omega)
   obtain ⟨c,rfl⟩:=Int.eq_ofNat_of_zero_le (show 0≤c by omega)
   obtain ⟨x,rfl⟩:=Int.eq_ofNat_of_zero_le (show 0≤x by omega)
   right;right
   refine ⟨b,kd.toNat,c,x,by omega,by omega,by omega,by omega,?_,?_⟩
   · rw [show ((kd.toNat:Nat):Int)=kd by omega];rfl
   · unfold aG
     rw [if_pos hh,if_neg (show ¬ (kd=1∨kd=4) by omega),if_neg (show ¬ kd=2 by omega)]
     simp only []
     rw [dX (by omega),dX (by omega),jE,show gh kd=bB kd.toNat by rw [← dX (show kd.toNat<562949953421312 by omega)];congr 1;omega]
     rfl
theorem DJ {a:Ty.d b7} {s:ByteArray} (h:aG a=s) (hs:s≠⟨#[]⟩):bm a=true:=by
 cases c:bm a with
 | true=>rfl
 | false=>unfold aG at h;rw [c] at h;exact absurd h.symm hs
theorem JF {kd:Nat} (h:kd≠1):((kd:Int)==1)=false:=mC (by omega)
theorem J8 {kd:Nat} (h:kd≠2):((kd:Int)==2)=false:=mC (by omega)
theorem J3 {kd:Nat} (h:kd≠4):((kd:Int)==4)=false:=mC (by omega)
theorem KH:(((1:Nat):Int)==1)=true:=rfl
theorem Jp:(((4:Nat):Int)==1)=false:=rfl
theorem K8:(((4:Nat):Int)==4)=true:=rfl
theorem KB:(((2:Nat):Int)==1)=false:=rfl
theorem Ji:(((2:Nat):Int)==2)=true:=rfl
theorem Ja:(((2:Nat):Int)==4)=false:=rfl
theorem LF:((0:Int)==1)=false:=rfl
theorem LG:((0:Int)==4)=false:=rfl
theorem LI:((0:Int)==2)=false:=rfl
theorem e0:(⟨#[]⟩:ByteArray).size=0:=rfl
theorem Gj {kd b:Nat} {key val:ByteArray} (hb:b<562949953421312) (hc:kd=1∨kd=4) (h:bm ((kd:Int),((b:Int),(key,(val,(0,(0,()))))))=true) :
 aG ((kd:Int),((b:Int),(key,(val,(0,(0,()))))))=bB kd++(bB b++(bB key.size++(key++(bB val.size++(val++⟨#[]⟩))))):=by
 rcases vF h with ⟨_,h1⟩ | ⟨h0,_⟩ | ⟨h0,_⟩
 · unfold aG
   rw [if_pos h,if_pos (show ((kd:Int)=1∨(kd:Int)=4) by omega)]
   simp only [iu]
   rw [dX (by omega),dX hb,dX (by omega),dX (by omega),jE,ai]
 · omega
 · omega
theorem HG {b:Nat} {key:ByteArray} (hb:b<562949953421312) (h:bm (((2:Nat):Int),((b:Int),(key,(ByteArray.empty,(0,(0,()))))))=true) :
 aG (((2:Nat):Int),((b:Int),(key,(ByteArray.empty,(0,(0,()))))))=bB 2++(bB b++(bB key.size++(key++⟨#[]⟩))):=by
 rcases vF h with ⟨h0,_⟩ | ⟨_,h1⟩ | ⟨h0,_⟩
 · omega
 · unfold aG
   rw [if_pos h,if_neg (show ¬ (((2:Nat):Int)=1∨((2:Nat):Int)=4) by decide),if_pos (show ((2:Nat):Int)=2 from rfl)]
   simp only [iu]
   rw [dX (by omega),dX hb,dX (by omega),jE]
 · omega
theorem HR {kd b c x:Nat} (hb:b<562949953421312) (hx:c<562949953421312) (hc:kd≠1∧kd≠2∧kd≠4) (h:bm ((kd:Int),((b:Int),(ByteArray.empty,(ByteArray.empty,((c:Int),((x:Int),()))))))=true) :
 aG ((kd:Int),((b:Int),(ByteArray.empty,(ByteArray.empty,((c:Int),((x:Int),()))))))=bB kd++(bB b++(bB c++(eN x++⟨#[]⟩))):=by
 rcases vF h with ⟨h0,_⟩ | ⟨h0,_⟩ | ⟨_,h1⟩
 · omega
 · omega
 · unfold aG
   rw [if_pos h,if_neg (show ¬ ((kd:Int)=1∨(kd:Int)=4) by omega),if_neg (show ¬ (kd:Int)=2 by omega)]
   simp only []
   have hk5:kd≤5:=by omega
   rw [dX (by omega),dX hb,dX hx,jE]
   rfl
theorem nq {k:Nat} (hk:2 ^ 50≤k) {a:Ty.d b7} (h:bm a=true):cV.f k (aG a)=some (a,(true,())):=by
 unfold cV.f cV.t
 rcases yG h with ⟨b,kd,hc,hb,ha,z1,z2,e⟩ | ⟨b,hb,ha,z1,e⟩ | ⟨b,kd,c,x,hc,hb,z1,z2,ha,e⟩
 · rw [e]
   rw [ha] at h
   conv=>rhs;rw [ha]
   have v1:=ah kd
   have v2:=ah b
   have v3:=ah a.2.2.1.size
   have v4:=ah a.2.2.2.1.size
   rcases hc with rfl | rfl
   · simp (disch:=first | omega | (simp only [aN,e0];omega)) only [ib hk,nQ hk,ab,ac,aK,KH,bV,fh,gq,h]
   · simp (disch:=first | omega | (simp only [aN,e0];omega)) only [ib hk,nQ hk,ab,ac,aK,Jp,K8,bV,fh,gq,h]
 · rw [e]
   rw [ha] at h
   conv=>rhs;rw [ha]
   have v1:=ah 2
   have v2:=ah b
   have v3:=ah a.2.2.1.size
   simp (disch:=first | omega | (simp only [aN,e0];omega)) only [ib hk,nQ hk,ab,ac,aK,KB,Ji,Ja,bV,fh,gq]
   rw [show ((2:Nat):Int)=2 from rfl,h]
   rfl
 · rw [e,ha]
   rw [ha] at h
   have v1:=ah kd
   have v2:=ah b
   have v3:=ah c
   have v4:=lZ x
   have hby:=xa k (eN x) ⟨#[]⟩
   rw [lZ] at hby
   have hrf:=o6 hk z2 ⟨#[]⟩
   rw [jE] at hrf
   rw [show (((4:Nat)):Int)=4 from rfl] at hby
   simp (disch:=first | omega | (simp only [aN,e0];omega)) only [ib hk,hby,hrf,ab,ac,aK,JF,J8,J3,bV,fh,gq,h]
theorem ug {k:Nat} (hk:2 ^ 50≤k) {s:ByteArray} (hs:s.size≤1099511627776) :
 (∃ r,bm r=true∧aG r=s∧cV.f k s=some (r,(true,())))∨cV.f k s=some (rZ,(false,())):=by
 have rf0:=sv k (s:=⟨#[]⟩) (by decide)
 unfold cV.f cV.t
 rcases mG s with ⟨kd,t,hkd,rfl⟩ | h0
 case inr =>
  right
  simp (disch:=first | omega | (simp only [aN,e0];omega)) only [ow hk h0,HT hk,s_ k,rf0,ab,ac,aK,LF,LI,LG]
 have v1:=ah kd
 rw [aN] at hs
 rcases mG t with ⟨b,t2,hb,rfl⟩ | h1
 case inr =>
  right
  by_cases c1:kd=1
  · subst c1
    simp (disch:=first | omega | (simp only [aN,e0];omega)) only [ib hk,ow hk h1,xG hk,ab,ac,aK,KH]
  by_cases c4:kd=4
  · subst c4
    simp (disch:=first | omega | (simp only [aN,e0];omega)) only [ib hk,ow hk h1,xG hk,ab,ac,aK,Jp,K8]
  by_cases c2:kd=2
  · subst c2
    simp (disch:=first | omega | (simp only [aN,e0];omega)) only [ib hk,ow hk h1,xG hk,ab,ac,aK,KB,Ja,Ji]
  · simp (disch:=first | omega | (simp only [aN,e0];omega)) only [ib hk,ow hk h1,HT hk,s_ k,rf0,ab,ac,aK,JF c1,J8 c2,J3 c4]
 have v2:=ah b
 rw [aN] at hs
 by_cases c2:kd=2
 · subst c2
   rcases mr t2 with ⟨key,t3,hu,rfl⟩ | bad
   case inr =>
    right
    obtain ⟨s',hs',e⟩:=vp hk (by omega) bad
    simp (disch:=first | omega | (simp only [aN,e0];omega)) only [ib hk,e,ab,ac,aK,KB,Ja,Ji]
   have v3:=ah key.size
   simp only [aN] at hs
   simp (disch:=first | omega | (simp only [aN,e0];omega)) only [ib hk,nQ hk,ab,ac,aK,KB,Ja,Ji]
   by_cases c:t3=⟨#[]⟩
   · subst c
     simp only [bV,fh,aK,gq,ab]
     cases hr:bm (((2:Nat):Int),((b:Int),(key,(ByteArray.empty,(0,(0,())))))) with
     | true=>exact .inl ⟨_,hr,HG hb hr,rfl⟩
     | false=>exact .inr rfl
   · rw [kP c]
     exact .inr rfl
 by_cases c1:kd=1∨kd=4
 · have hcc:(bif ((kd:Int)==1) then true else ((kd:Int)==4))=true:=by rcases c1 with rfl | rfl <;> rfl
   rcases mr t2 with ⟨key,t3,hu,rfl⟩ | bad
   case inr =>
    right
    obtain ⟨s',hs',e⟩:=vp hk (by omega) bad
    rcases c1 with rfl | rfl
    · simp (disch:=first | omega | (simp only [aN,e0];omega)) only [ib hk,e,xG hk hs',ab,ac,aK,KH]
    · simp (disch:=first | omega | (simp only [aN,e0];omega)) only [ib hk,e,xG hk hs',ab,ac,aK,Jp,K8]
   have v3:=ah key.size
   simp only [aN] at hs
   rcases mr t3 with ⟨val,t4,hv,rfl⟩ | bad
   case inr =>
    right
    obtain ⟨s',hs',e⟩:=vp hk (by omega) bad
    rcases c1 with rfl | rfl
    · simp (disch:=first | omega | (simp only [aN,e0];omega)) only [ib hk,nQ hk,e,ab,ac,aK,KH]
    · simp (disch:=first | omega | (simp only [aN,e0];omega)) only [ib hk,nQ hk,e,ab,ac,aK,Jp,K8]
   have v4:=ah val.size
   simp only [aN] at hs
   have fin:(bif !seq t4 ⟨#[]⟩ then some (rZ,(false,())) else bif !bm ((kd:Int),((b:Int),(key,(val,(0,(0,())))))) then some (rZ,(false,())) else some (((kd:Int),((b:Int),(key,(val,(0,(0,())))))),(true,())))=cV.t k (bB kd++(bB b++(bB key.size++(key++(bB val.size++(val++t4)))))):=by
    unfold cV.t
    rcases c1 with rfl | rfl
    · simp (disch:=first | omega | (simp only [aN,e0];omega)) only [ib hk,nQ hk,ab,ac,aK,KH,gq]
    · simp (disch:=first | omega | (simp only [aN,e0];omega)) only [ib hk,nQ hk,ab,ac,aK,Jp,K8,gq]
   change (∃ r,bm r=true∧aG r=_∧cV.t k _=some (r,(true,())))∨cV.t k _=some (rZ,(false,()))
   rw [← fin]
   by_cases c:t4=⟨#[]⟩
   · subst c
     simp only [bV,fh,aK]
     cases hr:bm ((kd:Int),((b:Int),(key,(val,(0,(0,())))))) with
     | true=>exact .inl ⟨_,hr,Gj hb c1 hr,rfl⟩
     | false=>exact .inr rfl
   · rw [kP c]
     exact .inr rfl
 have d1:kd≠1:=fun q=>c1 (.inl q)
 have d4:kd≠4:=fun q=>c1 (.inr q)
 rcases mG t2 with ⟨c,t3,hc,rfl⟩ | h2
 case inr =>
  right
  simp (disch:=first | omega | (simp only [aN,e0];omega)) only [ib hk,ow hk h2,s_ k,rf0,ab,ac,aK,JF d1,J8 c2,J3 d4]
 have v3:=ah c
 rw [aN] at hs
 rcases we t3 with ⟨x,t4,hx,rfl⟩ | h3
 case inr =>
  right
  have e:=yU k (s:=t3) (n:=4) (by omega)
  simp (disch:=first | omega | (simp only [aN,e0];omega)) only [ib hk,e,rf0,ab,ac,aK,JF d1,J8 c2,J3 d4]
 rw [lz] at hs
 have hby:=xa k (eN x) t4
 rw [lZ,show (((4:Nat)):Int)=4 from rfl] at hby
 have hrf:=o6 hk hx ⟨#[]⟩
 rw [jE] at hrf
 simp (disch:=first | omega | (simp only [aN,e0,lZ];omega)) only [ib hk,hby,hrf,ab,aK,JF d1,J8 c2,J3 d4,gq]
 by_cases cc:t4=⟨#[]⟩
 · subst cc
   simp only [bV,fh,aK]
   cases hr:bm ((kd:Int),((b:Int),(ByteArray.empty,(ByteArray.empty,((c:Int),((x:Int),())))))) with
   | true=>exact .inl ⟨_,hr,HR hb hc ⟨d1,c2,d4⟩ hr,rfl⟩
   | false=>exact .inr rfl
 · rw [kP cc]
   exact .inr rfl
theorem jU (a b:Nat):Int.toNat ((a:Int)+(b:Int))=a+b:=by omega
theorem vz (a:Nat):(((bB a).size:Int)==0)=false:=mC (by have:=ah a;omega)
theorem nc (a:Nat) (t:ByteArray):bB a++t≠⟨#[]⟩:=fun h=>by
 have:=congrArg ByteArray.size h
 rw [aN,e0] at this
 have:=ah a
 omega
theorem oL {r:Ty.d b7} {s:ByteArray} (hs:s≠⟨#[]⟩) :
 (∃ r',bm r'=true∧aG r'=s∧(bif !seq (aG r) s then some (rZ,(false,())) else bif seq s ⟨#[]⟩ then some (rZ,(false,())) else some (r,(true,())))=some (r',(true,()))) ∨
 (bif !seq (aG r) s then some (rZ,(false,())) else bif seq s ⟨#[]⟩ then some (rZ,(false,())) else some (r,(true,())))=some (rZ,(false,())):=by
 by_cases c:aG r=s
 · exact .inl ⟨r,DJ c hs,c,by rw [Io c,kP hs];rfl⟩
 · rw [kP c];exact .inr rfl
theorem xy {k:Nat} (hk:2 ^ 50≤k) {a:Ty.d b7} (h:bm a=true):dh.f k (aG a)=some (a,(true,())):=by
 unfold dh.f dh.t
 rcases yG h with ⟨b,kd,hc,hb,ha,z1,z2,e⟩ | ⟨b,hb,ha,z1,e⟩ | ⟨b,kd,c,x,hc,hb,z1,z2,ha,e⟩
 · have hs:aG ((kd:Int),((b:Int),(a.2.2.1,(a.2.2.2.1,(0,(0,()))))))=bB kd++(bB b++(bB a.2.2.1.size++(a.2.2.1++(bB a.2.2.2.1.size++(a.2.2.2.1++⟨#[]⟩))))):=by rw [← ha];exact e
   rw [e]
   conv=>rhs;rw [ha]
   have v1:=ah kd
   have v2:=ah b
   have v3:=ah a.2.2.1.size
   have v4:=ah a.2.2.2.1.size
   rcases hc with rfl | rfl
   · simp (disch:=first | omega | (simp only [aN,e0];omega)) only [cQ hk,u0 hk,ab,nt,dk,vz,ac,aK,aD,cM,jU,pL,KH,dH hk,hs,bV,fh,kP (nc _ _)]
   · simp (disch:=first | omega | (simp only [aN,e0];omega)) only [cQ hk,u0 hk,ab,nt,dk,vz,ac,aK,aD,cM,jU,pL,Jp,K8,dH hk,hs,bV,fh,kP (nc _ _)]
 · have hs:aG (((2:Nat):Int),((b:Int),(a.2.2.1,(ByteArray.empty,(0,(0,()))))))=bB 2++(bB b++(bB a.2.2.1.size++(a.2.2.1++⟨#[]⟩))):=by rw [show ((2:Nat):Int)=2 from rfl,← ha];exact e
   rw [e]
   conv=>rhs;rw [ha]
   have v1:=ah 2
   have v2:=ah b
   have v3:=ah a.2.2.1.size
   simp (disch:=first | omega | (simp only [aN,e0];omega)) only [cQ hk,u0 hk,ab,nt,dk,vz,ac,aK,aD,cM,jU,pL,KB,Ja,Ji,dH hk,hs,bV,fh,kP (nc _ _)]
   rfl
 · have hs:aG ((kd:Int),((b:Int),(ByteArray.empty,(ByteArray.empty,((c:Int),((x:Int),()))))))=bB kd++(bB b++(bB c++(eN x++⟨#[]⟩))):=by rw [← ha];exact e
   rw [e,ha]
   have v1:=ah kd
   have v2:=ah b
   have v3:=ah c
   have v4:=lZ x
   simp (disch:=first | omega | (simp only [aN,e0];omega)) only [cQ hk,nz hk z2,ab,nt,dk,vz,ac,aK,aD,cM,jU,pL,JF,J8,J3,dH hk,hs,bV,fh,kP (nc _ _)]
theorem uu {k:Nat} (hk:2 ^ 50≤k) {s:ByteArray} (hs:s.size≤1099511627776) :
 (∃ r,bm r=true∧aG r=s∧dh.f k s=some (r,(true,())))∨dh.f k s=some (rZ,(false,())):=by
 unfold dh.f dh.t
 rcases mG s with ⟨kd,t,hkd,rfl⟩ | h0
 case inr =>
  right
  rw [jM hk h0,ab]
  simp only []
  rw [cM (by omega) (by omega),fP hk,ab]
  rfl
 have v1:=ah kd
 rw [aN] at hs
 rcases mG t with ⟨b,t2,hb,rfl⟩ | h1
 case inr =>
  right
  simp (disch:=first | omega | (simp only [aN,e0];omega)) only [cQ hk,jM hk h1,ab,nt,dk,vz,ac,aK,aD,cM,show (((0:Int)==0))=true from rfl]
 have v2:=ah b
 rw [aN] at hs
 by_cases c2:kd=2
 · subst c2
   rcases mr t2 with ⟨key,t3,hu,rfl⟩ | bad
   · simp only [aN] at hs
     simp (disch:=first | omega | (simp only [aN,e0];omega)) only [cQ hk,u0 hk,ab,nt,dk,vz,ac,aK,aD,cM,jU,pL,KB,Ja,Ji,dH hk]
     exact oL (nc _ _)
   · have hb5:=wu hk (by omega) bad
     simp (disch:=first | omega | (simp only [aN,e0];omega)) only [cQ hk,hb5,ab,nt,dk,vz,ac,aK,aD,cM,jU,pL,KB,Ja,Ji,dH hk]
     exact oL (nc _ _)
 by_cases c1:kd=1∨kd=4
 · have em:cJ.f k ⟨#[]⟩=some (⟨#[]⟩,(⟨#[]⟩,(false,()))):=wu hk (by decide) (.inl rfl)
   obtain ⟨u,l,bb,hl,e⟩:∃ u l bb,l.size≤1099511627776∧cJ.f k t2=some (u,(l,(bb,()))):=by
    rcases mr t2 with ⟨key,t3,hu,rfl⟩ | bad
    · simp only [aN] at hs
      exact ⟨_,_,_,by omega,u0 hk hu (by simp only [aN];omega)⟩
    · exact ⟨_,_,_,by decide,wu hk (by omega) bad⟩
   obtain ⟨u2,l2,bb2,e2⟩:∃ u l' bb,cJ.f k l=some (u,(l',(bb,()))):=by
    rcases mr l with ⟨key,t3,hu,rfl⟩ | bad
    · exact ⟨_,_,_,u0 hk hu (by simp only [aN] at hl ⊢;omega)⟩
    · exact ⟨_,_,_,wu hk hl bad⟩
   rcases c1 with rfl | rfl
   · simp (disch:=first | omega | (simp only [aN,e0];omega)) only [cQ hk,e,e2,ab,nt,dk,vz,ac,aK,aD,cM,jU,pL,KH,dH hk]
     exact oL (nc _ _)
   · simp (disch:=first | omega | (simp only [aN,e0];omega)) only [cQ hk,e,e2,ab,nt,dk,vz,ac,aK,aD,cM,jU,pL,Jp,K8,dH hk]
     exact oL (nc _ _)
 have d1:kd≠1:=fun q=>c1 (.inl q)
 have d4:kd≠4:=fun q=>c1 (.inr q)
 have rf:∀ u:ByteArray,∃ z zb,bY.f k u 4=some (z,(zb,())):=fun u=>by
  rcases we u with ⟨x,t,hx,rfl⟩ | q
  · exact ⟨_,_,nz hk hx t⟩
  · exact ⟨_,_,sw k q⟩
 rcases mG t2 with ⟨c,t3,hc,rfl⟩ | h2
 · have v3:=ah c
   rw [aN] at hs
   obtain ⟨z,zb,e⟩:=rf t3
   simp (disch:=first | omega | (simp only [aN,e0];omega)) only [cQ hk,e,ab,nt,dk,vz,ac,aK,aD,cM,jU,pL,JF d1,J8 c2,J3 d4,dH hk]
   exact oL (nc _ _)
 · obtain ⟨z,zb,e⟩:=rf (ByteArray.extract t2 (Int.toNat 0) t2.size)
   simp (disch:=first | omega | (simp only [aN,e0];omega)) only [cQ hk,jM hk h2,e,ab,nt,dk,vz,ac,aK,aD,cM,jU,pL,JF d1,J8 c2,J3 d4,dH hk]
   exact oL (nc _ _)
noncomputable def gB (s:ByteArray):Ty.d b7 × Bool:=nX (fun r=>bm r=true) aG rZ s
theorem pn {k:Nat} (hk:2 ^ 50≤k) {s:ByteArray} (hs:s.size≤1099511627776):cV.f k s=some ((gB s).1,((gB s).2,())) :=
 qW (fun r h1 h2=>by rw [← h2];exact nq hk h1) (ug hk hs)
theorem pS {k:Nat} (hk:2 ^ 50≤k) {s:ByteArray} (hs:s.size≤1099511627776):dh.f k s=some ((gB s).1,((gB s).2,())) :=
 qW (fun r h1 h2=>by rw [← h2];exact xy hk h1) (uu hk hs)
theorem BO {a b:Ty.d b7} (ha:bm a=true) (hb:bm b=true) (h:aG a=aG b):a=b:=by
 have h1:=nq (k:=2 ^ 50) (Nat.le_refl _) ha
 rw [h,nq (Nat.le_refl _) hb] at h1
 exact (Prod.mk.inj (Option.some.inj h1)).1.symm
theorem sT {a:Ty.d b7} (h:bm a=true):gB (aG a)=(a,true):=Ds (fun _ _ ha hb=>BO ha hb) h
theorem vM {s:ByteArray} {r:Ty.d b7} (h:gB s=(r,true)):bm r=true∧aG r=s:=yz h
theorem ou {t:ByteArray} (h:t.size≤200):∃ x,x<4294967296∧aQ t=eN x++(bB t.size++t):=by
 have:=tD (iu t)
 refine ⟨(pI (iu t)).toNat,by omega,?_⟩
 unfold aQ sg
 rw [if_neg (by omega)]
 unfold iu
 rw [dX (by omega)]
theorem G4 {t u s r:ByteArray} (ht:t.size≤200) (hu:u.size≤200) (h:aQ t++s=aQ u++r):t=u∧s=r:=by
 obtain ⟨x,hx,e⟩:=ou ht
 obtain ⟨y,hy,f⟩:=ou hu
 rw [e,f,ai,ai,ai,ai] at h
 have h2:=(ql h rfl).2
 obtain ⟨h3,h4⟩:=vX (by omega) (by omega) h2
 exact ql h4 h3
theorem yX (x:Nat) (u:ByteArray):ByteArray.extract (eN x++u) 4 (eN x++u).size=u:=dk (eN x) u
theorem KT (x:Nat) (v t r:ByteArray):ByteArray.extract (eN x++(v++(t++r))) (4+v.size) (4+v.size+t.size)=t:=by
 have:=Kr (eN x++v) t r
 rw [aN,lZ,ai] at this
 exact this
theorem J2 (x:Nat) (v t r:ByteArray):ByteArray.extract (eN x++(v++(t++r))) 0 (4+v.size+t.size)=eN x++(v++t):=by
 have:=AY (eN x++(v++t)) r
 rw [aN,aN,lZ,ai,ai,← Nat.add_assoc] at this
 exact this
theorem c4 (a:Nat):(4:Int)+(a:Int)=((4+a:Nat):Int):=rfl
theorem vr {k:Nat} (hk:2 ^ 50≤k) {x:Nat} {t r:ByteArray} (ht:t.size≤200) (hr:t.size+r.size≤1099511627776) :
 e_.f k (eN x++(bB t.size++(t++r)))=bif !seq (aQ t) (eN x++(bB t.size++t)) then some (⟨#[]⟩,(0,())) else some (t,(((4+(bB t.size).size+t.size:Nat):Int),())):=by
 have v1:=ah t.size
 have z1:(eN x++(bB t.size++(t++r))).size=4+((bB t.size).size+(t.size+r.size)):=by rw [lz,aN,aN]
 unfold e_.f e_.t
 rw [aP (by omega),aK,cM (by omega) (by omega),yX,mq hk (by omega) (by rw [aN];omega),ab]
 simp only [vz,aK]
 rw [aP (by omega),aK,aD (n:=((eN x++(bB t.size++(t++r))).size:Int)-4) (by omega) (by omega),aD (n:=((eN x++(bB t.size++(t++r))).size:Int)-4-_) (by omega) (by omega),aP (by omega),aK,
  c4,aD (by omega) (by omega),si,aD (by omega) (by omega),s7 (by omega) (by omega) (by omega),nt,nt,KT,zR hk,ab,cM (by omega) (by omega),J2]
theorem vY {k:Nat} (hk:2 ^ 50≤k) {x:Nat} {t r:ByteArray} (ht:t.size≤200) (hr:t.size+r.size≤1099511627776) :
 dP.f k (eN x++(bB t.size++(t++r)))=bif !seq (aQ t) (eN x++(bB t.size++t)) then some (⟨#[]⟩,(0,())) else some (t,(((4+(bB t.size).size+t.size:Nat):Int),())):=by
 have v1:=ah t.size
 have z1:(eN x++(bB t.size++(t++r))).size=4+((bB t.size).size+(t.size+r.size)):=by rw [lz,aN,aN]
 unfold dP.f dP.t
 rw [aP (by omega),aK,cM (by omega) (by omega),yX,cQ hk (by omega),ab]
 simp only [vz,aK]
 rw [aP (by omega),aK,aD (n:=((eN x++(bB t.size++(t++r))).size:Int)-4) (by omega) (by omega),aD (n:=((eN x++(bB t.size++(t++r))).size:Int)-4-_) (by omega) (by omega),aP (by omega),aK,
  c4,aD (by omega) (by omega),si,aD (by omega) (by omega),s7 (by omega) (by omega) (by omega),nt,nt,KT,lH hk,cM (by omega) (by omega),ab,J2,
  show seq (eN x++(bB t.size++t)) (aQ t)=seq (aQ t) (eN x++(bB t.size++t)) by rw [EC,EC];exact decide_eq_decide.2 ⟨Eq.symm,Eq.symm⟩]
theorem HF (s:ByteArray) (hs:s.size≤1099511627776):(∃ x t r,x<4294967296∧t.size≤200∧t.size+r.size≤1099511627776∧s=eN x++(bB t.size++(t++r)))∨s.size<5∨(∃ x u,x<4294967296∧s=eN x++u∧1≤u.size∧rv 7 (nb u)=none) ∨
 (∃ x a u,x<4294967296∧a<562949953421312∧s=eN x++(bB a++u)∧(200<a∨u.size<a)):=by
 rcases we s with ⟨x,u,hx,rfl⟩ | h
 · rw [lz] at hs
   rcases mG u with ⟨a,v,ha,rfl⟩ | h
   · rw [aN] at hs
     by_cases c:200<a∨v.size<a
     · exact .inr (.inr (.inr ⟨x,a,v,hx,ha,rfl,c⟩))
     · left
       have e:=wk v (n:=a) (by omega)
       have hz:(ByteArray.extract v 0 a).size=a:=by rw [← cP,jw,List.length_take,cP];omega
       refine ⟨x,ByteArray.extract v 0 a,ByteArray.extract v a v.size,hx,by omega,?_,by rw [hz,← e]⟩
       have:=congrArg ByteArray.size e
       rw [aN] at this
       omega
   · by_cases c:1≤u.size
     · exact .inr (.inr (.inl ⟨x,u,hx,rfl,c,h⟩))
     · exact .inr (.inl (by rw [lz];omega))
 · exact .inr (.inl (by omega))
theorem ue {k:Nat} (hk:2 ^ 50≤k) {s:ByteArray} (hs:s.size≤1099511627776) (h:s.size<5∨(∃ x u,x<4294967296∧s=eN x++u∧1≤u.size∧rv 7 (nb u)=none) ∨
 (∃ x a u,x<4294967296∧a<562949953421312∧s=eN x++(bB a++u)∧(200<a∨u.size<a))):e_.f k s=some (⟨#[]⟩,(0,())):=by
 unfold e_.f e_.t
 rcases h with h | ⟨x,u,hx,rfl,hu,h⟩ | ⟨x,a,u,hx,ha,rfl,h⟩
 · by_cases c:s.size<4
   · rw [aO (by omega),ac]
   · have e:ByteArray.extract s 4 s.size=⟨#[]⟩:=jV (by rw [gk,List.drop_eq_nil_of_le (by rw [cP];omega)];rfl)
     rw [aP (by omega),aK,cM (by omega) (by omega),e,mL hk rfl (by decide),ab]
     rfl
 · rw [lz] at hs
   rw [aP (by rw [lz];omega),aK,cM (by omega) (by rw [lz];omega),yX,mL hk h (by omega),ab]
   rfl
 · have v1:=ah a
   have z1:(eN x++(bB a++u)).size=4+((bB a).size+u.size):=by rw [lz,aN]
   rw [aP (by omega),aK,cM (by omega) (by omega),yX,mq hk ha (by omega),ab]
   simp only [vz,aK]
   by_cases c:200<a
   · rw [aO (by omega),ac]
   · rw [aP (by omega),aK,aD (n:=((eN x++(bB a++u)).size:Int)-4) (by omega) (by omega),aD (n:=((eN x++(bB a++u)).size:Int)-4-_) (by omega) (by omega),aO (by omega),ac]
theorem uc {k:Nat} (hk:2 ^ 50≤k) {s:ByteArray} (hs:s.size≤1099511627776) (h:s.size<5∨(∃ x u,x<4294967296∧s=eN x++u∧1≤u.size∧rv 7 (nb u)=none) ∨
 (∃ x a u,x<4294967296∧a<562949953421312∧s=eN x++(bB a++u)∧(200<a∨u.size<a))):dP.f k s=some (⟨#[]⟩,(0,())):=by
 unfold dP.f dP.t
 rcases h with h | ⟨x,u,hx,rfl,hu,h⟩ | ⟨x,a,u,hx,ha,rfl,h⟩
 · rw [aO (by omega),ac]
 · rw [lz] at hs
   rw [aP (by rw [lz];omega),aK,cM (by omega) (by rw [lz];omega),yX,jM hk h,ab]
   rfl
 · have v1:=ah a
   have z1:(eN x++(bB a++u)).size=4+((bB a).size+u.size):=by rw [lz,aN]
   rw [aP (by omega),aK,cM (by omega) (by omega),yX,cQ hk ha,ab]
   simp only [vz,aK]
   by_cases c:200<a
   · rw [aO (by omega),ac]
   · rw [aP (by omega),aK,aD (n:=((eN x++(bB a++u)).size:Int)-4) (by omega) (by omega),aD (n:=((eN x++(bB a++u)).size:Int)-4-_) (by omega) (by omega),aO (by omega),ac]
section
open Classical
noncomputable def fi (s:ByteArray):ByteArray × Int:=if h:∃ t r,t.size≤200∧s=aQ t++r then (h.choose,((aQ h.choose).size:Int)) else (⟨#[]⟩,0)
theorem mX {t:ByteArray} (r:ByteArray) (h:t.size≤200):fi (aQ t++r)=(t,((aQ t).size:Int)):=by
 have q:∃ u v,u.size≤200∧aQ t++r=aQ u++v:=⟨t,r,h,rfl⟩
 unfold fi
 rw [dif_pos q]
 obtain ⟨v,h1,h2⟩:=q.choose_spec
 have:=(G4 h h1 h2).1
 rw [← this]
theorem mc (s:ByteArray):(∃ t r,t.size≤200∧s=aQ t++r∧fi s=(t,((aQ t).size:Int)))∨(fi s=(⟨#[]⟩,0)∧∀ t r,t.size≤200→s≠aQ t++r):=by
 by_cases q:∃ t r,t.size≤200∧s=aQ t++r
 · obtain ⟨t,r,h,rfl⟩:=q
   exact .inl ⟨t,r,h,rfl,mX r h⟩
 · right
   refine ⟨?_,fun t r h e=>q ⟨t,r,h,e⟩⟩
   unfold fi
   rw [dif_neg q]
end
theorem JD {k:Nat} {f:ByteArray→Option (ByteArray × Int × Unit)} (h1:∀ x t r,x<4294967296→t.size≤200→t.size+r.size≤1099511627776→f (eN x++(bB t.size++(t++r)))=bif !seq (aQ t) (eN x++(bB t.size++t)) then some (⟨#[]⟩,(0,())) else some (t,(((4+(bB t.size).size+t.size:Nat):Int),())))
 (h2:∀ s,s.size≤1099511627776→(s.size<5∨(∃ x u,x<4294967296∧s=eN x++u∧1≤u.size∧rv 7 (nb u)=none)∨(∃ x a u,x<4294967296∧a<562949953421312∧s=eN x++(bB a++u)∧(200<a∨u.size<a)))→f s=some (⟨#[]⟩,(0,())))
 {s:ByteArray} (hs:s.size≤1099511627776):f s=some ((fi s).1,((fi s).2,())):=by
 rcases HF s hs with ⟨x,t,r,hx,ht,hr,rfl⟩ | h
 · rw [h1 x t r hx ht hr]
   by_cases c:aQ t=eN x++(bB t.size++t)
   · have e:eN x++(bB t.size++(t++r))=aQ t++r:=by rw [c,ai,ai]
     rw [Io c,e,mX r ht,c,lz,aN,Nat.add_assoc]
     rfl
   · rw [kP c]
     rcases mc (eN x++(bB t.size++(t++r))) with ⟨t',r',ht',e,_⟩ | ⟨e,_⟩
     · exfalso
       obtain ⟨y,hy,f'⟩:=ou ht'
       rw [f',ai,ai] at e
       have h3:=ql e rfl
       obtain ⟨h4,h5⟩:=vX (by omega) (by omega) h3.2
       have h6:=ql h5 h4
       apply c
       rw [h6.1,f',h3.1]
     · rw [e];rfl
 · rw [h2 s hs h]
   rcases mc s with ⟨t',r',ht',e,_⟩ | ⟨e,_⟩
   · exfalso
     obtain ⟨y,hy,f'⟩:=ou ht'
     have hp:=jq ht'
     rw [f',ai,ai] at e
     rcases h with h | ⟨x,u,hx,e2,hu,h⟩ | ⟨x,a,u,hx,ha,e2,h⟩
     · rw [e,lz,aN] at h
       have:=ah t'.size
       omega
     · rw [e2] at e
       rw [(ql e rfl).2,pK (by omega)] at h
       cases h
     · rw [e2] at e
       obtain ⟨h4,h5⟩:=vX ha (by omega) (ql e rfl).2
       rw [h5,h4,aN] at h
       omega
   · rw [e]
theorem pY {k:Nat} (hk:2 ^ 50≤k) {s:ByteArray} (hs:s.size≤1099511627776):e_.f k s=some ((fi s).1,((fi s).2,())) :=
 JD (k:=k) (fun x t r _ ht hr=>vr hk ht hr) (fun s hs h=>ue hk hs h) hs
theorem kx {k:Nat} (hk:2 ^ 50≤k) {s:ByteArray} (hs:s.size≤1099511627776):dP.f k s=some ((fi s).1,((fi s).2,())) :=
 JD (k:=k) (fun x t r _ ht hr=>vY hk ht hr) (fun s hs h=>uc hk hs h) hs
theorem lU (s:ByteArray):(fi s).1.size≤200∧((fi s).2=0∨5≤(fi s).2)∧(fi s).2≤s.size∧(fi s).2≤211:=by
 rcases mc s with ⟨t,r,h,rfl,e⟩ | ⟨e,_⟩
 · rw [e,aN]
   have:=jq h
   have:=kg t
   refine ⟨h,?_,?_,?_⟩ <;> simp only [] <;> omega
 · rw [e]
   refine ⟨by simp only [e0];omega,.inl rfl,by simp only [];omega,by simp only [];omega⟩
theorem v7:fi ⟨#[]⟩=(⟨#[]⟩,0):=by
 rcases mc ⟨#[]⟩ with ⟨t,r,h,e,_⟩ | ⟨e,_⟩
 · have:=congrArg ByteArray.size e
   rw [aN,e0] at this
   have:=jq h
   omega
 · exact e
noncomputable def fS (s:ByteArray):Nat→Int→List (Ty.d c_) × Int
 | 0,at_=>([],at_)
 | d+1,at_ =>
  if (fi (ByteArray.extract s at_.toNat s.size)).2=0 then ([],at_)
  else if (gB (fi (ByteArray.extract s at_.toNat s.size)).1).2=false then ([],at_)
  else (((at_,((fi (ByteArray.extract s at_.toNat s.size)).2,((gB (fi (ByteArray.extract s at_.toNat s.size)).1).1,()))):Ty.d c_)::(fS s d (at_+(fi (ByteArray.extract s at_.toNat s.size)).2)).1,
   (fS s d (at_+(fi (ByteArray.extract s at_.toNat s.size)).2)).2)
noncomputable def az (s:ByteArray):List (Ty.d c_) × Int:=fS s (s.size+1) 0
theorem o9 (s:ByteArray) (n:Nat):(ByteArray.extract s n s.size).size=s.size-n:=by rw [← cP,gk,List.length_drop,cP]
theorem JC {k:Nat} (hk:2 ^ 50≤k) {s:ByteArray} (hs:s.size≤1099511627776):∀ (d n:Nat) (i:Int) (out:List (Ty.d c_)),0≤i→i≤s.size→(s.size:Int)-i<d→d≤n→(out.length:Int)≤i →
 dK.l0 k n s i out=some (out++(fS s d i).1,((fS s d i).2,()))∧bS.l0 k n s i out=some (out++(fS s d i).1,((fS s d i).2,())):=by
 intro d
 induction d with
 | zero=>intro n i out h0 h1 h2;omega
 | succ d ih =>
  intro n i out h0 h1 h2 h3 h4
  obtain ⟨n,rfl⟩:∃ q,n=q+1:=⟨n-1,by omega⟩
  have hz:=o9 s i.toNat
  have hu:=lU (ByteArray.extract s i.toNat s.size)
  have e1:=pY hk (s:=ByteArray.extract s i.toNat s.size) (by omega)
  have e2:=kx hk (s:=ByteArray.extract s i.toNat s.size) (by omega)
  have hnil:i=s.size→(fi (ByteArray.extract s i.toNat s.size)).2=0:=fun q=>by
   have:ByteArray.extract s i.toNat s.size=⟨#[]⟩:=jV (by rw [gk,List.drop_eq_nil_of_le (by rw [cP];omega)];rfl)
   rw [this,v7]
  simp only [fS]
  generalize fi (ByteArray.extract s i.toNat s.size)=u at *
  have e3:=pn hk (s:=u.1) (by omega)
  have e4:=pS hk (s:=u.1) (by omega)
  generalize gB u.1=r at *
  by_cases c:u.2=0
  · rw [if_pos c]
    have cb:(u.2==0)=true:=by rw [c];rfl
    simp only [List.append_nil]
    constructor
    · simp (disch:=omega) only [dK.l0,dK.b0,cM,e1,e3,ab,cb,ac]
    · by_cases q:i<s.size
      · simp (disch:=omega) only [bS.l0,bS.b0,aO,cM,e2,e4,ab,cb,ac]
      · simp (disch:=omega) only [bS.l0,bS.b0,aP,aK]
  · rw [if_neg c]
    have cb:(u.2==0)=false:=mC c
    have hlt:i<s.size:=by
     rcases Int.lt_or_eq_of_le h1 with q | q
     · exact q
     · exact absurd (hnil q) c
    cases hr:r.2 with
    | false =>
     simp only [if_true,List.append_nil]
     constructor
     · simp (disch:=omega) only [dK.l0,dK.b0,cM,e1,e3,ab,cb,ac,aK,hr,uV]
     · simp (disch:=omega) only [bS.l0,bS.b0,aO,cM,e2,e4,ab,cb,ac,aK,hr,uV]
    | true =>
     rw [if_neg (by decide)]
     have hlen:out.length+1≤1099511627777:=by omega
     have ih:=ih n (i+u.2) (out++[(i,(u.2,(r.1,())))]) (by omega) (by omega) (by omega) (by omega) (by rw [uH];show ((out.length+1:Nat):Int)≤_;omega)
     simp only [nn,List.cons_append,List.nil_append] at ih
     constructor
     · simp (disch:=first | omega | decide) only [dK.l0,dK.b0,cM,e1,e3,ab,cb,ac,aK,hr,fh,cD,aD]
       exact ih.1
     · simp (disch:=first | omega | decide) only [bS.l0,bS.b0,aO,cM,e2,e4,ab,cb,ac,aK,hr,fh,cD,aD]
       exact ih.2
theorem uC {k:Nat} (hk:2 ^ 50≤k) {s:ByteArray} (hs:s.size≤1099511627775):dK.f k s=some ((az s).1,((az s).2,())) :=
 (JC hk (by omega) (s.size+1) k 0 [] (by omega) (by omega) (by omega) (by omega) (by simp)).1
theorem m4 {k:Nat} (hk:2 ^ 50≤k) {s:ByteArray} (hs:s.size≤1099511627775):bS.f k s=some ((az s).1,((az s).2,())) :=
 (JC hk (by omega) (s.size+1) k 0 [] (by omega) (by omega) (by omega) (by omega) (by simp)).2
theorem tW (s:ByteArray):∀ (d:Nat) (i:Int),0≤i→i≤s.size→((fS s d i).1.length:Int)≤s.size-i∧i≤(fS s d i).2∧(fS s d i).2≤s.size
 | 0,i,h0,h1=>by simp only [fS,List.length_nil];omega
 | d+1,i,h0,h1=>by
  have hu:=lU (ByteArray.extract s i.toNat s.size)
  have hz:=o9 s i.toNat
  rw [fS]
  split
  · simp only [List.length_nil];omega
  · split
    · simp only [List.length_nil];omega
    · rename_i c1 c2
      have ih:=tW s d (i+(fi (ByteArray.extract s i.toNat s.size)).2) (by omega) (by omega)
      simp only [kJ]
      omega
theorem iw (s:ByteArray):(az s).1.length≤s.size∧0≤(az s).2∧(az s).2≤s.size:=by
 have:=tW s (s.size+1) 0 (by omega) (by omega)
 unfold az
 omega
theorem Hu (d:Nat) {a:Nat} (h:a<128):(vl d a).length=1:=by
 cases d with
 | zero=>rfl
 | succ d=>unfold vl;rw [if_neg (by omega)];rfl
theorem Is {a:Nat} (h:a<2097152):(vl 6 a).length≤3:=by
 unfold vl
 split
 · rw [kJ]
   unfold vl
   split
   · rw [kJ,Hu 4 (by omega)]
     omega
   · simp
 · simp
theorem rY {a:Int} (h0:0≤a) (h1:a≤100000):(gh a).size≤3:=by
 obtain ⟨n,rfl⟩:=Int.eq_ofNat_of_zero_le h0
 rw [dX (by omega),← qG (by omega)]
 exact Is (by omega)
def ff:List Int→ByteArray
 | []=>⟨#[]⟩
 | x::l=>gh x++ff l
theorem uT:∀ (l:List Int),(∀ x ∈ l,0≤x∧x≤100000)→(ff l).size≤3*l.length
 | [],_=>Nat.le_refl _
 | x::l,h=>by
  have h1:=rY (h x (jd ..)).1 (h x (jd ..)).2
  have h2:=uT l fun y hy=>h y (lL _ hy)
  rw [ff,aN,kJ]
  omega
theorem wC:∀ (l:List Int),(ff l).size≤7*l.length
 | []=>Nat.le_refl _
 | x::l=>by
  have h1:=bG x
  have h2:=wC l
  rw [ff,aN,kJ]
  omega
def oA (v:Ty.d cY):ByteArray:=gh v.1++(gh (v.2.1.length:Int)++ff v.2.1)
def cE (v:Ty.d cY):ByteArray:=if cS v=true then aQ (oA v) else ⟨#[]⟩
theorem bQ {nx:Int} {ids:List Int} (h:cS (nx,(ids,()))=true):1≤nx∧nx≤100000∧1≤ids.length∧ids.length≤60∧∀ x ∈ ids,0≤x∧x≤100000:=by
 unfold cS at h
 simp only [gN,decide_eq_true_eq] at h
 obtain ⟨h1,h2,h3⟩:=h
 have h1a:1≤nx:=h1.1
 have h1b:nx≤100000:=h1.2
 refine ⟨h1a,h1b,by omega,by omega,fun x hx=>?_⟩
 obtain ⟨p,hp⟩:=AJ h3 hx
 unfold mF at hp
 rw [gN,decide_eq_true_eq] at hp
 have hw:aJ (nx-1)=nx-1:=aD (by omega) (by omega)
 have h4:x≤aJ (nx-1):=hp.1.2
 have h5:1≤x:=hp.1.1
 omega
theorem DX {nx:Int} {ids:List Int} (h:cS (nx,(ids,()))=true):(oA (nx,(ids,()))).size≤200:=by
 obtain ⟨h1,h2,h3,h4,h5⟩:=bQ h
 have a:=rY (a:=nx) (by omega) h2
 have b:=rY (a:=(ids.length:Int)) (by omega) (by omega)
 have c:=uT ids h5
 unfold oA
 rw [aN,aN]
 simp only []
 omega
theorem kW {k:Nat} (hk:2 ^ 50≤k) (v:Ty.d cY):d5.f k v=some (cE v,()):=by
 unfold d5.f d5.t cE
 rw [q_ hk,ab]
 cases c:cS v with
 | false=>rfl
 | true =>
  obtain ⟨h1,h2,h3,h4,h5⟩:=bQ (nx:=v.1) (ids:=v.2.1) c
  have a:=bG v.1
  have b:=bG (v.2.1.length:Int)
  rw [fh,aK,gF hk,ab,gF hk,ab,if_pos rfl]
  simp only []
  rw [e7 (by omega)]
  refine (eG (L:=fun n i s=>d5.l0 k n s i v.1 v.2.1) (R:=fun r s=>some (aQ (s++ff r),())) (Ty.z (.int .i64)) v.2.1 (fun i s=>(s.size:Int)≤14+7*i) (fun n s hs=>?_) (fun n i s x rest g0 g1 hx hr hs ih=>?_) (n:=k) (by omega) (by rw [aN];omega)).trans (by rw [ai];rfl)
  · simp (disch:=omega) only [d5.l0,d5.b0,aP,aK,lH hk,ab]
    rw [show ff []=⟨#[]⟩ from rfl,jE]
  · have hv:=bG x
    have ih:=ih (s++gh x) (by rw [aN];omega)
    simp (disch:=omega) only [d5.l0,d5.b0,aO g1,ac,aH,hx,gF hk,ab,e7,aD,ih]
    rw [ai]
    rfl
noncomputable def fM (s:ByteArray):Ty.d cY × Bool:=nX (fun v=>cS v=true) cE (0,([],())) s
theorem zT (s:ByteArray):0≤(DN (rv 7 (nb s))).2.1∧(DN (rv 7 (nb s))).2.1≤(s.size:Int):=by
 cases h:rv 7 (nb s) with
 | none=>exact ⟨Int.le_refl _,by show (0:Int)≤_;omega⟩
 | some p =>
  obtain ⟨a,n⟩:=p
  obtain ⟨h1,h2,h3,h4,h5,h6⟩:=oa 6 (nb s) a n (rJ s) h
  rw [cP] at h4
  exact ⟨by show (0:Int)≤(n:Int);omega,by show (n:Int)≤_;omega⟩
def LB:Option (Ty.d cY × Bool × Unit):=some ((0,([],())),(false,()))
theorem zO {k:Nat} (hk:2 ^ 50≤k) {s t:ByteArray} (ht:t.size≤200) (c nx:Int):∀ (d n:Nat) (pos j:Int) (out:List Int),60-j=d→d<n→0≤pos→pos≤t.size→0≤j→(out.length:Int)≤j →
 ∃ o,bH.l0 k n s t c pos j [] 0 out nx=bif !seq (cE (nx,(o,()))) s then LB else some ((nx,(o,())),(true,())):=by
 intro d
 induction d with
 | zero =>
  intro n pos j out hj hn h0 h1 h2 h3
  obtain ⟨n,rfl⟩:∃ q,n=q+1:=⟨n-1,by omega⟩
  refine ⟨out,?_⟩
  simp only [bH.l0,bH.b0]
  rw [aP (show ¬ j<60 by omega),aK,kW hk,ab]
  cases decide (j<c) <;> cases seq (cE (nx,(out,()))) s <;> rfl
 | succ d ih =>
  intro n pos j out hj hn h0 h1 h2 h3
  obtain ⟨n,rfl⟩:∃ q,n=q+1:=⟨n-1,by omega⟩
  by_cases c1:j<c
  · have hr:=zT (ByteArray.extract t pos.toNat t.size)
    have he:(ByteArray.extract t pos.toNat t.size).size=t.size-pos.toNat:=by rw [← cP,gk,List.length_drop,cP]
    rw [he] at hr
    obtain ⟨o,ho⟩:=ih n (pos+(DN (rv 7 (nb (ByteArray.extract t pos.toNat t.size)))).2.1) (j+1) (out++[(DN (rv 7 (nb (ByteArray.extract t pos.toNat t.size)))).1]) (by omega) (by omega) (by omega) (by omega) (by omega) (by rw [bv];omega)
    refine ⟨o,?_⟩
    simp only [bH.l0,bH.b0]
    rw [aO c1,aO (show j<60 by omega),ac,ac,cM h0 h1,fP hk,ab,cD (by omega) (by decide),aD (n:=pos+_) (by omega) (by omega),aD (n:=j+1) (by omega) (by omega)]
    exact ho
  · refine ⟨out,?_⟩
    simp only [bH.l0,bH.b0]
    rw [aP c1,aK,kW hk,ab]
    cases seq (cE (nx,(out,()))) s <;> rfl
theorem xc {x:Int} (h0:0≤x) (h1:x≤100000):∃ n:Nat,n<562949953421312∧x=(n:Int)∧gh x=bB n:=by
 obtain ⟨n,rfl⟩:=Int.eq_ofNat_of_zero_le h0
 exact ⟨n,by omega,rfl,dX (by omega)⟩
theorem BN {k:Nat} (hk:2 ^ 50≤k) {s:ByteArray} (nx:Int):∀ (ids:List Int) (pre:ByteArray) (n:Nat) (j c:Int) (out:List Int),(∀ x ∈ ids,0≤x∧x≤100000)→ids.length<n→0≤j→c=j+ids.length→c≤60→pre.size+7*ids.length≤1000→(out.length:Int)≤j →
 bH.l0 k n s (pre++ff ids) c (pre.size:Int) j [] 0 out nx=bif !seq (cE (nx,(out++ids,()))) s then LB else some ((nx,(out++ids,())),(true,())):=by
 intro ids
 induction ids with
 | nil =>
  intro pre n j c out h hn h0 hc h1 hp ho
  obtain ⟨n,rfl⟩:∃ q,n=q+1:=⟨n-1,by omega⟩
  rw [List.length_nil] at hc
  simp only [bH.l0,bH.b0]
  rw [aP (show ¬ j<c by omega),aK,kW hk,ab,List.append_nil]
  cases seq (cE (nx,(out,()))) s <;> rfl
 | cons x ids ih =>
  intro pre n j c out h hn h0 hc h1 hp ho
  rw [kJ] at hn hc
  obtain ⟨n,rfl⟩:∃ q,n=q+1:=⟨n-1,by omega⟩
  obtain ⟨a,ha,hx,hv⟩:=xc (h x (jd ..)).1 (h x (jd ..)).2
  have hvs:=ah a
  have hts:=wC (x::ids)
  rw [kJ] at hts
  have ih:=ih (pre++bB a) n (j+1) c (out++[x]) (fun y hy=>h y (lL _ hy)) (by omega) (by omega) (by omega) h1 ?_ (by rw [bv];omega)
  · have he:ByteArray.extract (pre++ff (x::ids)) pre.size (pre++ff (x::ids)).size=bB a++ff ids:=by rw [dk,ff,hv]
    simp only [bH.l0,bH.b0]
    rw [aO (show j<c by omega),aO (show j<60 by omega),ac,ac,cM (by omega) (by rw [aN];omega),Int.toNat_natCast,he,fP hk,ab,pK ha]
    simp only [DN]
    rw [cD (by omega) (by decide),aD (by omega) (by omega),aD (by omega) (by omega),← hx,show (pre.size:Int)+((bB a).size:Int)=((pre++bB a).size:Int) by rw [aN];omega]
    rw [show pre++ff (x::ids)=pre++bB a++ff ids by rw [ff,hv,ai],ih,nn]
    rfl
  · rw [aN]
    rw [kJ] at hp
    omega
theorem xB {k:Nat} (hk:2 ^ 50≤k) {nx:Int} {ids:List Int} (h:cS (nx,(ids,()))=true):bH.f k (cE (nx,(ids,())))=some ((nx,(ids,())),(true,())):=by
 obtain ⟨g1,g2,g3,g4,g5⟩:=bQ h
 have hz:=DX h
 have hf:=jq hz
 have hfs:=kg (oA (nx,(ids,())))
 have hu:=mX ⟨#[]⟩ hz
 rw [jE] at hu
 have e:cE (nx,(ids,()))=aQ (oA (nx,(ids,()))):=if_pos h
 obtain ⟨a,ha,hx,hv⟩:=xc (x:=nx) (by omega) g2
 obtain ⟨b,hb,hy,hw⟩:=xc (x:=(ids.length:Int)) (by omega) (by omega)
 have ht:oA (nx,(ids,()))=bB a++bB b++ff ids:=by
  unfold oA
  rw [ai,← hv,← hw]
 have hva:=ah a
 have hvb:=ah b
 have hl:=BN hk (s:=cE (nx,(ids,()))) nx ids (bB a++bB b) k 0 (b:Int) [] g5 (by omega) (by omega) (by omega) (by omega) (by rw [aN];omega) (by simp)
 rw [← ht,List.nil_append,bV] at hl
 unfold bH.f bH.t
 rw [kx hk (by rw [e];omega),ab]
 have hu1:fi (cE (nx,(ids,())))=(oA (nx,(ids,())),((cE (nx,(ids,()))).size:Int)):=by rw [e];exact hu
 have r1:rv 7 (nb (oA (nx,(ids,()))))=some (a,(bB a).size):=by rw [ht,ai];exact pK ha _
 have r2:rv 7 (nb (ByteArray.extract (oA (nx,(ids,()))) (bB a).size (oA (nx,(ids,()))).size))=some (b,(bB b).size):=by rw [ht,ai,dk];exact pK hb _
 have hsz:(oA (nx,(ids,()))).size=(bB a).size+(bB b).size+(ff ids).size:=by rw [ht,aN,aN]
 rw [hu1]
 simp only []
 rw [fP hk,ab,r1]
 simp only [DN]
 rw [show (((cE (nx,(ids,()))).size:Int) != ((cE (nx,(ids,()))).size:Int))=false by simp,aK,
  show (((cE (nx,(ids,()))).size:Int)==0)=false from mC (by rw [e];omega),aK,show (((bB a).size:Int)==0)=false from mC (by omega),aK,
  cM (by omega) (by omega),Int.toNat_natCast,fP hk,ab,r2]
 simp only [DN]
 rw [aD (by omega) (by omega),show ((bB a).size:Int)+((bB b).size:Int)=((bB a++bB b).size:Int) by rw [aN];omega,← hx]
 exact hl
theorem ub {k:Nat} (hk:2 ^ 50≤k) {s:ByteArray} (hs:s.size≤1099511627776):bH.f k s=some ((fM s).1,((fM s).2,())):=by
 refine qW (fun v h1 h2=>?_) ?_
 · subst h2
   exact xB hk (nx:=v.1) (ids:=v.2.1) h1
 · unfold bH.f bH.t
   rw [kx hk hs,ab]
   have hu:=lU s
   generalize fi s=u at hu
   obtain ⟨t,m⟩:=u
   simp only [] at hu ⊢
   rw [fP hk,ab]
   have h1:=zT t
   generalize DN (rv 7 (nb t))=q at h1
   obtain ⟨nx,p,_⟩:=q
   simp only [] at h1 ⊢
   by_cases c1:m=(s.size:Int)
   case neg=>rw [show (m != (s.size:Int))=true from bne_iff_ne.2 c1];exact .inr rfl
   rw [show (m != (s.size:Int))=false by rw [c1];simp,aK]
   by_cases c2:m=0
   case pos=>rw [show (m==0)=true from beq_iff_eq.2 c2];exact .inr rfl
   rw [show (m==0)=false from mC c2,aK]
   by_cases c3:p=0
   case pos=>rw [show (p==0)=true from beq_iff_eq.2 c3];exact .inr rfl
   rw [show (p==0)=false from mC c3,aK,cM h1.1 h1.2,fP hk,ab]
   have h2:=zT (ByteArray.extract t p.toNat t.size)
   have he:(ByteArray.extract t p.toNat t.size).size=t.size-p.toNat:=by rw [← cP,gk,List.length_drop,cP]
   rw [he] at h2
   rw [aD (by omega) (by omega)]
   obtain ⟨o,ho⟩:=zO hk (s:=s) hu.1 (DN (rv 7 (nb (ByteArray.extract t p.toNat t.size)))).1 nx 60 k (p+(DN (rv 7 (nb (ByteArray.extract t p.toNat t.size)))).2.1) 0 [] (by omega) (by omega) (by omega) (by omega) (by omega) (by simp)
   rw [ho]
   cases c4:seq (cE (nx,(o,()))) s with
   | false=>exact .inr rfl
   | true =>
    refine .inl ⟨(nx,(o,())),?_,dr.1 c4,rfl⟩
    cases c5:cS (nx,(o,())) with
    | true=>rfl
    | false =>
     have:=dr.1 c4
     unfold cE at this
     rw [c5,if_neg (by decide)] at this
     rw [← this] at c1
     exact absurd c1 c2
end Go.Proofs.YtnpijgnfpdcjbaaGreatDoor.G
namespace Go.V
def KR (n:Int):Prop := -999999999≤n∧n≤999999999
def dg:List Nat→Nat→Nat→Nat × Nat
 | [],a,c=>(a,c)
 | b::l,a,c=>if 48≤b∧b≤57 then dg l (a*10+(b-48)) (c+1) else dg l a c
theorem tG:∀ (l:List Nat) (a c:Nat),(∀ b ∈ l,48≤b∧b≤57)→dg l a c=(qJ l a,c+l.length)
 | [],a,c,_=>rfl
 | b::l,a,c,h=>by
  rw [dg,if_pos (h b (jd ..)),tG l _ _ fun x hx=>h x (lL _ hx),qJ,kJ]
  congr 1
  omega
theorem xI:∀ (l:List Nat) (a c:Nat),a+1≤10 ^ c→(dg l a c).1+1≤10 ^ (dg l a c).2
 | [],a,c,h=>h
 | b::l,a,c,h=>by
  unfold dg
  split
  · rename_i q
    exact xI l _ _ (by rw [Nat.pow_succ];omega)
  · exact xI l _ _ h
theorem C1 (u:Nat):∀ b ∈ (Lib.decDigits u).map UInt8.toNat,48≤b∧b≤57:=by
 intro b hb
 obtain ⟨x,hx,rfl⟩:=List.mem_map.1 hb
 exact mK u x hx
def JJ (s:ByteArray) (a:Nat):Int:=bif decide ((s.size:Int) > 0)&&(di s 0==45) then -(a:Int) else (a:Int)
theorem J_ {s:ByteArray} (h:0<s.size):di s 0=(((nb s).getD 0 0:Nat):Int):=wg (i:=0) h
theorem IY {n:Int}:JJ (gX n) n.natAbs=n:=by
 have hb:=oz n
 have hl:=cP (gX n)
 unfold JJ
 by_cases c:n<0
 · rw [if_pos c] at hb
   rw [hb,kJ] at hl
   rw [aO (by omega),J_ (by omega),hb]
   show (bif true&&(((45:Nat):Int)==45) then _ else _)=n
   show -((n.natAbs:Nat):Int)=n
   omega
 · rw [if_neg c] at hb
   have:(di (gX n) 0==45)=false:=by
    cases q:Lib.decDigits n.toNat with
    | nil=>exact absurd q (t8 _)
    | cons x r =>
     have hx:=mK n.toNat x (by rw [q];exact jd ..)
     rw [q,List.map_cons] at hb
     rw [hb,kJ] at hl
     rw [J_ (by omega),hb]
     refine mC ?_
     show ((x.toNat:Nat):Int)≠45
     omega
   rw [this,Bool.and_false,aK]
   omega
theorem Hs {n:Int} (h:KR n):(gX n).size≤10:=F0 (by have:=h.1;omega) (by have:=h.2;omega)
theorem KE {n:Int} (h:KR n):∃ c,dg (nb (gX n)) 0 0=(n.natAbs,c)∧c≤9:=by
 obtain ⟨h0,h1⟩:=h
 rw [oz]
 by_cases c:n<0
 · rw [if_pos c]
   refine ⟨(Lib.decDigits n.natAbs).length,?_,hF 8 _ (by rw [show (10:Nat) ^ (8+1)=1000000000 by decide];omega)⟩
   rw [dg,if_neg (by omega),tG _ _ _ (C1 _),qU,List.length_map,Nat.zero_add]
 · rw [if_neg c]
   refine ⟨(Lib.decDigits n.toNat).length,?_,hF 8 _ (by rw [show (10:Nat) ^ (8+1)=1000000000 by decide];omega)⟩
   rw [tG _ _ _ (C1 _),qU,List.length_map,Nat.zero_add,show n.toNat=n.natAbs by omega]
theorem C8 {c:Nat} (h:c≤11):10 ^ c≤100000000000:=Nat.le_trans (Nat.pow_le_pow_right (by decide) h) (by decide)
theorem I8 {c:Nat} (h:c≤9):10 ^ c≤1000000000:=Nat.le_trans (Nat.pow_le_pow_right (by decide) h) (by decide)
end Go.V
namespace Go.Proofs.YtnpijgnfpdcjbaaGreatDoor.G
open Go.V
noncomputable def j9 (s:ByteArray):Int × Bool:=nX KR gX 0 s
def G6 (s:ByteArray) (q:Nat × Nat):Option (Int × Bool × Unit) :=
 bif decide ((q.2:Int) > 9)||(decide ((s.size:Int) > 10)||!seq (gX (JJ s q.1)) s) then some (0,(false,())) else some (JJ s q.1,(true,()))
theorem JO {k:Nat} (hk:2 ^ 50≤k) (s:ByteArray) {q:Nat × Nat} (hq:q.1≤1000000000000) :
 (bif (decide ((ByteArray.size s:Int) > 0)) then (bF 0 (ByteArray.size s:Int) (bif ((di s 0)==45) then (bif (decide ((q.2:Int) > 9)) then (some (0,(false,()))) else (bif (decide ((ByteArray.size s:Int) > 10)) then (some (0,(false,()))) else (Option.bind (dV.f k (aJ (0-(q.1:Int)))) fun r1=>(bif (!(seq r1.1 s)) then (some (0,(false,()))) else (some ((aJ (0-(q.1:Int))),(true,()))))))) else
  (bif (decide ((q.2:Int) > 9)) then (some (0,(false,()))) else (bif (decide ((ByteArray.size s:Int) > 10)) then (some (0,(false,()))) else (Option.bind (dV.f k (q.1:Int)) fun r2=>(bif (!(seq r2.1 s)) then (some (0,(false,()))) else (some ((q.1:Int),(true,())))))))))
 else (bif (decide ((q.2:Int) > 9)) then (some (0,(false,()))) else (bif (decide ((ByteArray.size s:Int) > 10)) then (some (0,(false,()))) else (Option.bind (dV.f k (q.1:Int)) fun r3=>(bif (!(seq r3.1 s)) then (some (0,(false,()))) else (some ((q.1:Int),(true,()))))))))=G6 s q:=by
 have hn:aJ (0-(q.1:Int)) = -(q.1:Int):=by rw [aD (by omega) (by omega)];omega
 rw [hn,p6 hk (n:=(q.1:Int)) (by omega) (by omega),p6 hk (n := -(q.1:Int)) (by omega) (by omega)]
 simp only [ab]
 unfold G6 JJ
 by_cases c0:(s.size:Int) > 0
 · rw [aO c0,ac,aH (by omega) (by omega),Bool.true_and]
   cases di s 0==45 <;> cases decide ((q.2:Int) > 9) <;> cases decide ((s.size:Int) > 10)
   all_goals simp only [ac,aK,Bool.true_or,Bool.false_or]
   all_goals first | rfl | (cases seq (gX (q.1:Int)) s <;> rfl) | (cases seq (gX (-(q.1:Int))) s <;> rfl)
 · rw [aP c0,aK,Bool.false_and,aK]
   cases decide ((q.2:Int) > 9) <;> cases decide ((s.size:Int) > 10)
   all_goals simp only [ac,aK,Bool.true_or,Bool.false_or]
   all_goals first | rfl | (cases seq (gX (q.1:Int)) s <;> rfl)
theorem uj {k:Nat} (hk:2 ^ 50≤k) {s:ByteArray} (hs:s.size≤1099511627776):eM.f k s=G6 s (dg ((nb s).take 11) 0 0):=by
 unfold eM.f eM.t
 have hn:=cP s
 have hl:((nb s).take 11).length=min 11 s.size:=by rw [List.length_take,hn]
 refine eG (L:=fun n i (q:Nat × Nat)=>eM.l0 k n s (q.1:Int) (q.2:Int) i) (R:=fun r q=>G6 s (dg r q.1 q.2)) 0 ((nb s).take 11) (fun i q=>q.1+1≤10 ^ q.2∧(q.2:Int)≤i) (fun n q hq=>?_) (fun n i q x rest h0 h1 hx hr hq ih=>?_) (n:=k) (s:=(0,0)) (by omega) ⟨by decide,by decide⟩
 · obtain ⟨g1,g2⟩:=hq
   have hp:=C8 (c:=q.2) (by omega)
   rw [show dg [] q.1 q.2=q from rfl]
   refine Eq.trans ?_ (JO hk s (q:=q) (by omega))
   simp only [eM.l0,eM.b0]
   rcases Nat.lt_or_ge 11 s.size with c | c
   · rw [hl,Nat.min_eq_left (by omega),aO (show ((11:Nat):Int)<(s.size:Int) by omega),aP (show ¬ ((11:Nat):Int)<11 by omega)]
     rfl
   · rw [hl,Nat.min_eq_right c,aP (show ¬ (s.size:Int)<(s.size:Int) by omega)]
     rfl
 · obtain ⟨g1,g2⟩:=hq
   have hp:=C8 (c:=q.2) (by omega)
   rw [hl] at h1
   have hi:i<11:=by omega
   have hsz:i<(s.size:Int):=by omega
   have hx':(nb s).getD i.toNat 0=x:=by rw [← hx,mZ (by omega)]
   have hb:=zX (s:=s) (x:=x) h0 (by rw [hn];exact hsz) hx'
   have hx256:x<256:=by rw [← hx'];exact ig s _
   simp only [eM.l0,eM.b0]
   rw [aO hsz,aO hi,ac,ac,aH h0 hsz,hb]
   have iN:=ih q ⟨g1,by omega⟩
   by_cases c1:48≤x
   · rw [aO (show (x:Int)≥48 by omega),ac]
     by_cases c2:x≤57
     · rw [aH h0 hsz,aO (show (x:Int)≤57 by omega),ac,aH h0 hsz]
       have iY:=ih (q.1*10+(x-48),q.2+1) ⟨by rw [Nat.pow_succ];omega,by simp only [];omega⟩
       rw [ng (n:=(x:Int)-48) (by omega) (by omega),aD (n:=(x:Int)-48) (by omega) (by omega),aD (n:=(q.1:Int)*10) (by omega) (by omega),aD (by omega) (by omega),aD (n:=(q.2:Int)+1) (by omega) (by omega),aD (n:=i+1) (by omega) (by omega)]
       rw [show dg (x::rest) q.1 q.2=dg rest (q.1*10+(x-48)) (q.2+1) from if_pos ⟨c1,c2⟩]
       rw [show (q.1:Int)*10+((x:Int)-48)=((q.1*10+(x-48):Nat):Int) by omega,show (q.2:Int)+1=((q.2+1:Nat):Int) by omega]
       exact iY
     · rw [aH h0 hsz,aP (show ¬ (x:Int)≤57 by omega),aK,aD (n:=i+1) (by omega) (by omega),show dg (x::rest) q.1 q.2=dg rest q.1 q.2 from if_neg (fun h=>c2 h.2)]
       exact iN
   · rw [aP (show ¬ (x:Int)≥48 by omega),aK,aD (n:=i+1) (by omega) (by omega),show dg (x::rest) q.1 q.2=dg rest q.1 q.2 from if_neg (fun h=>c1 h.1)]
     exact iN
theorem wK {k:Nat} (hk:2 ^ 50≤k) {s:ByteArray} (hs:s.size≤1099511627776):eM.f k s=some ((j9 s).1,((j9 s).2,())):=by
 rw [uj hk hs]
 refine qW (fun n h1 h2=>?_) ?_
 · subst h2
   have hz:=Hs h1
   obtain ⟨c,e,hc⟩:=KE h1
   rw [List.take_of_length_le (by rw [cP];omega),e]
   unfold G6
   simp only []
   rw [aP (by omega),aP (by omega),IY,bV]
   rfl
 · have hb:=xI ((nb s).take 11) 0 0 (by decide)
   generalize dg ((nb s).take 11) 0 0=q at hb
   unfold G6
   by_cases c:q.2≤9
   · have hp:=I8 c
     cases e:(decide ((q.2:Int) > 9)||(decide ((s.size:Int) > 10)||!seq (gX (JJ s q.1)) s)) with
     | true=>exact .inr rfl
     | false =>
      simp only [Bool.or_eq_false_iff,Bool.not_eq_false'] at e
      refine .inl ⟨JJ s q.1,?_,dr.1 e.2.2,rfl⟩
      unfold JJ KR
      cases decide ((s.size:Int) > 0)&&(di s 0==45)
      · rw [aK];omega
      · rw [ac];omega
   · rw [aO (show (q.2:Int) > 9 by omega)]
     exact .inr rfl
theorem B8 {n:Int} (h:KR n):j9 (gX n)=(n,true):=Ds (fun _ _ _ _ e=>va e) h
def tS (s p:ByteArray):Bool:=decide (p.size≤s.size)&&seq (ByteArray.extract s 0 p.size) p
theorem II (s p:ByteArray):Go.Lib.hasPrefix s.data.toList p.data.toList=tS s p:=(Go.Lib.hasPrefix_raw s p).symm
theorem EY {s p:ByteArray} (h:tS s p=true):p.size≤s.size:=by
 unfold tS at h
 rw [gN,decide_eq_true_eq] at h
 exact h.1
theorem D3 {s p:ByteArray} (h:tS s p=true):s=p++ByteArray.extract s p.size s.size:=by
 have hl:=EY h
 unfold tS at h
 rw [gN] at h
 have e:=dr.1 h.2
 have:=wk s hl
 rw [e] at this
 exact this
def vm (l:List Int) (x:Int):Bool:=l.any fun y=>y==x
def dC:ByteArray:=⟨#[104,105,110,116]⟩
theorem iQ {k:Nat} (hk:2 ^ 50≤k) (n:Int):cX.f k n=some (a_ dC n,()):=by
 unfold cX.f cX.t a_
 rw [fE,ab]
 by_cases c:(1:Int)≤n∧n≤100000
 · have hz:=my (n:=n) (by omega) (by omega)
   rw [aO c]
   simp only [fh,aK,ac]
   rw [p6 hk (by omega) (by omega),ab,e7 (by show 4+(gX n).size≤_;omega)]
   rfl
 · rw [aP c]
   rfl
def Hj (s:ByteArray) (n:Int):Prop:=1≤n∧n≤100000∧(s=aF++gX n∨s=dC++gX n)
theorem Aa (a b:ByteArray):aF++a≠dC++b:=fun h=>by
 have:=congrArg nb h
 rw [gQ,gQ,show nb aF=[115,101,103] from rfl,show nb dC=[104,105,110,116] from rfl] at this
 simp at this
theorem Db {s:ByteArray} {n m:Int} (h:Hj s n) (g:Hj s m):n=m:=by
 rcases h.2.2 with h1 | h1 <;> rcases g.2.2 with g1 | g1
 · exact va (rr (h1.symm.trans g1))
 · exact absurd (h1.symm.trans g1) (Aa _ _)
 · exact absurd (g1.symm.trans h1) (Aa _ _)
 · exact va (rr (h1.symm.trans g1))
theorem Et {s:ByteArray} {n:Int} (hs:0<s.size) (h:(seq (a_ aF n) s||seq (a_ dC n) s)=true):Hj s n:=by
 unfold a_ at h
 by_cases c:(1:Int)≤n∧n≤100000
 · rw [aO c,Bool.or_eq_true] at h
   exact ⟨c.1,c.2,h.imp (fun q=>(dr.1 q).symm) (fun q=>(dr.1 q).symm)⟩
 · rw [aP c,Bool.or_eq_true] at h
   rcases h with q | q
   · rw [← dr.1 q] at hs;exact absurd hs (Nat.lt_irrefl 0)
   · rw [← dr.1 q] at hs;exact absurd hs (Nat.lt_irrefl 0)
theorem Fe {s:ByteArray} {n:Int} (h:Hj s n):(seq (a_ aF n) s||seq (a_ dC n) s)=true:=by
 obtain ⟨h0,h1,h2⟩:=h
 unfold a_
 rw [aO ⟨h0,h1⟩,Bool.or_eq_true]
 exact h2.imp (fun q=>dr.2 q.symm) (fun q=>dr.2 q.symm)
noncomputable def De (s:ByteArray):Int × Bool:=nX (Hj s) (fun _=>s) 0 s
theorem An (n:Int):0<(gX n).size:=by
 rw [← cP,oz]
 split
 · rw [kJ];omega
 · rw [List.length_map]
   exact List.length_pos_iff.2 (t8 _)
theorem FD (s:ByteArray) (n:Nat):(ByteArray.extract s n s.size).size=s.size-n:=by rw [← cP,gk,List.length_drop,cP]
noncomputable def vg (s:ByteArray) (i:Nat):Bool :=
 decide ((s.size:Int) > (i:Int))&&((j9 (ByteArray.extract s i s.size)).2&&(decide ((j9 (ByteArray.extract s i s.size)).1≥1)&&(seq (a_ aF (j9 (ByteArray.extract s i s.size)).1) s||seq (a_ dC (j9 (ByteArray.extract s i s.size)).1) s)))
theorem Ed {k:Nat} (hk:2 ^ 50≤k) {s:ByteArray} (hs:s.size≤1099511627776) (m i:Nat) (hi:i≤4) :
 gb.l0 k (m+1) s (i:Int)=bif vg s i then some ((j9 (ByteArray.extract s i s.size)).1,(true,())) else gb.l0 k m s ((i+1:Nat):Int):=by
 have hz:=FD s i
 simp only [gb.l0,gb.b0]
 rw [aO (show (i:Int)≤4 by omega),ac,aD (by omega) (by omega),show (i:Int)+1=((i+1:Nat):Int) by omega]
 unfold vg
 by_cases c:(s.size:Int) > (i:Int)
 · rw [aO c,ac,cM (by omega) (by omega),Int.toNat_natCast,wK hk (by omega),ab]
   simp only [bU hk,iQ hk,ab]
   generalize j9 (ByteArray.extract s i s.size)=r
   cases r.2 <;> cases decide (r.1≥1) <;> cases seq (a_ aF r.1) s <;> cases seq (a_ dC r.1) s <;> rfl
 · rw [aP c]
   rfl
theorem zM {s:ByteArray} {i:Nat} (h:vg s i=true):Hj s (j9 (ByteArray.extract s i s.size)).1:=by
 unfold vg at h
 simp only [gN,decide_eq_true_eq] at h
 exact Et (by omega) h.2.2.2
theorem Ha {p:ByteArray} {n:Int} (h:Hj (p++gX n) n):vg (p++gX n) p.size=true∧(j9 (ByteArray.extract (p++gX n) p.size (p++gX n).size)).1=n:=by
 have hd:KR n:=⟨by have:=h.1;omega,by have:=h.2.1;omega⟩
 have hp:=An n
 rw [show ByteArray.extract (p++gX n) p.size (p++gX n).size=gX n from dk p (gX n)]
 unfold vg
 rw [show ByteArray.extract (p++gX n) p.size (p++gX n).size=gX n from dk p (gX n),B8 hd]
 refine ⟨?_,rfl⟩
 simp only []
 rw [Fe h,aO (by rw [ByteArray.size_append];omega),aO h.1]
 rfl
theorem G5 {k:Nat} (hk:2 ^ 50≤k) {s:ByteArray} (hs:s.size≤1099511627776):gb.f k s=some ((De s).1,((De s).2,())):=by
 have e:gb.f k s=bif vg s 3 then some ((j9 (ByteArray.extract s 3 s.size)).1,(true,())) else bif vg s 4 then some ((j9 (ByteArray.extract s 4 s.size)).1,(true,())) else some (0,(false,())):=by
  unfold gb.f gb.t
  obtain ⟨m,hm⟩:∃ m,k=m+3:=⟨k-3,by omega⟩
  have h3:=Ed hk hs (m+2) 3 (by omega)
  have h4:=Ed hk hs (m+1) 4 (by omega)
  have h5:gb.l0 k (m+1) s ((5:Nat):Int)=some (0,(false,())):=rfl
  rw [← hm] at h3
  rw [show (3:Int)=((3:Nat):Int) from rfl,h3,h4,h5]
 rw [e]
 refine qW (fun n h1 _=>?_) ?_
 · rcases h1.2.2 with q | q
   · have:=Ha (p:=aF) (n:=n) (by rw [← q];exact h1)
     rw [← q,show aF.size=3 from rfl] at this
     rw [this.1,this.2]
     rfl
   · cases c:vg s 3 with
     | true=>rw [Db h1 (zM c)];rfl
     | false =>
      have:=Ha (p:=dC) (n:=n) (by rw [← q];exact h1)
      rw [← q,show dC.size=4 from rfl] at this
      rw [this.1,this.2]
      rfl
 · cases c:vg s 3 with
   | true=>exact .inl ⟨_,zM c,rfl,rfl⟩
   | false =>
    cases c4:vg s 4 with
    | true=>exact .inl ⟨_,zM c4,rfl,rfl⟩
    | false=>exact .inr rfl
def iL:ByteArray:=⟨#[116,101,109,112]⟩
noncomputable def tg (ids:List Int) (f:Ty.d dJ):Bool:=((De f.1).2&&!vm ids (De f.1).1)||seq f.1 iL
noncomputable def pO (ids:List Int):bn→List ByteArray→List ByteArray
 | [],acc=>acc
 | f::l,acc=>pO ids l (bif tg ids f then acc++[f.1] else acc)
noncomputable def rD (d:Ty.d aA) (ids:List Int):List ByteArray:=bif gd d then pO ids d.1 [] else []
theorem FK {d:Ty.d aA} (h:gd d=true):d.1.length≤130:=by
 unfold gd at h
 rw [gN,decide_eq_true_eq] at h
 exact h.1
theorem Aw {k:Nat} (hk:2 ^ 50≤k) {d:Ty.d aA} {v:Ty.d cY} (hu:e6 d.1≤1099511627776) (hn:pA d.1≤1099511627776) (hv:v.2.1.length≤1099511627776):bL.f k d v=some (rD d v.2.1,()):=by
 unfold bL.f bL.t rD
 rw [j_ hk hu hn,ab]
 cases cd:gd d with
 | false=>rfl
 | true =>
  have hl:=FK cd
  rw [fh,aK,ac]
  refine eG (L:=fun n i s=>bL.l0 k n i d.1 d.2.1 d.2.2.1 d.2.2.2.1 v.1 v.2.1 s) (R:=fun r s=>some (pO v.2.1 r s,())) (Ty.z dJ) d.1 (fun i s=>(s.length:Int)≤i) (fun n s hs=>?_) (fun n i s x rest h0 h1 hx hr hs ih=>?_) (n:=k) (s:=[]) (by omega) (by simp)
  · simp (disch:=omega) only [bL.l0,bL.b0,aP,aK,pO]
  · have hm:x ∈ d.1:=by rw [← hx];exact iJ (by omega)
    have hz:=oD hm
    have iY:=ih (s++[x.1]) (by rw [bv];omega)
    have iN:=ih s (by omega)
    have key:∀ (id:Int) (is:Bool),bL.l1 k (bL.l0 k n) k i id is false 0 d.1 d.2.1 d.2.2.1 d.2.2.2.1 v.1 v.2.1 s =
     bif (is&&!vm v.2.1 id)||seq x.1 iL then bL.l0 k n (i+1) d.1 d.2.1 d.2.2.1 d.2.2.2.1 v.1 v.2.1 (s++[x.1]) else bL.l0 k n (i+1) d.1 d.2.1 d.2.2.1 d.2.2.2.1 v.1 v.2.1 s:=fun id is=>by
     refine (eG (L:=fun m j lv=>bL.l1 k (bL.l0 k n) m i id is lv j d.1 d.2.1 d.2.2.1 d.2.2.2.1 v.1 v.2.1 s) (R:=fun r lv=>bif (is&&!(lv||vm r id))||seq x.1 iL then bL.l0 k n (i+1) d.1 d.2.1 d.2.2.1 d.2.2.2.1 v.1 v.2.1 (s++[x.1]) else bL.l0 k n (i+1) d.1 d.2.1 d.2.2.1 d.2.2.2.1 v.1 v.2.1 s) (Ty.z (.int .i64)) v.2.1 (fun _ _=>True) (fun m lv _=>?_) (fun m j lv y r2 g0 g1 gx gr _ ih2=>?_) (n:=k) (s:=false) (by omega) trivial)
     · simp (disch:=first | omega | decide) only [bL.l1,bL.b1,aP,aK,aH,hx,cD,aD]
       rw [show vm [] id=false from rfl,show (⟨#[116,101,109,112]⟩:ByteArray)=iL from rfl]
       cases is <;> cases lv <;> cases seq x.1 iL <;> rfl
     · have e:vm (y::r2) id=((y==id)||vm r2 id):=rfl
       simp (disch:=omega) only [bL.l1,bL.b1,aO g1,ac,aH,gx,aD,e]
       cases lv with
       | true=>exact (ih2 true trivial)
       | false =>
        have:=ih2 (y==id) trivial
        simp only [aK,Bool.false_or]
        exact this
    simp (disch:=omega) only [bL.l0,bL.b0,aO h1,ac,aH,hx,G5 hk,ab,key]
    rw [show pO v.2.1 (x::rest) s=pO v.2.1 rest (bif tg v.2.1 x then s++[x.1] else s) from rfl]
    unfold tg
    cases ((De x.1).2&&!vm v.2.1 (De x.1).1)||seq x.1 iL
    · exact iN
    · exact iY
theorem C3 (v:Ty.d cY):(cE v).size≤1099511627776:=by
 unfold cE
 split
 · have:=kg (oA v);omega
 · decide
theorem u6 {p:ByteArray} (hp:p=aF∨p=dC) (n:Int):(a_ p n).size≤1000:=by
 have hs:p.size≤4:=by rcases hp with q | q <;> rw [q] <;> decide
 unfold a_
 by_cases h:(1:Int)≤n∧n≤100000
 · have:=my (n:=n) (by omega) (by omega)
   rw [aO h,ac,ByteArray.size_append]
   omega
 · rw [aP h,aK];decide
abbrev RD:=Ty.d aA × Int
def gM (r:RD) (f:Ty.d aA→RD):RD:=bif r.2==0 then f r.1 else r
def iH (c:Int):Int:=bif c==0 then 0 else bif c==1 then 1 else bif c==2 then 2 else 3
def dm:ByteArray:=⟨#[108,105,118,101]⟩
def mD (s:ByteArray) (d:Ty.d aA):RD:=bif (bh d.1 s).isSome then ur d s else (d,0)
def bO (s:ByteArray) (d:Ty.d aA):RD:=gM (mD s d) fun x=>vQ x s
def lB (s t:ByteArray) (d:Ty.d aA):RD:=gM (gM (bO s d) fun x=>iD x s t) fun x=>fm x s
def bf (v:Ty.d cY) (d:Ty.d aA):RD:=gM (lB iL (cE v) d) fun x=>Ae x iL dm
def eX:List ByteArray→Ty.d aA→RD
 | [],d=>(d,0)
 | s::l,d=>gM (mD s d) (eX l)
noncomputable def gm (ids:List Int) (d:Ty.d aA):RD:=eX (rD d ids) d
theorem iF (c:Int):(iH c==0)=(c==0):=by
 unfold iH
 cases h:c==0 with
 | true=>rfl
 | false =>
  cases c==1
  · cases c==2 <;> rfl
  · rfl
theorem im {r:RD} {f:Ty.d aA→RD} (h:DR r.1) (hf:∀ x,DR x→DR (f x).1):DR (gM r f).1:=by
 unfold gM
 cases r.2==0
 · exact h
 · exact hf _ h
theorem EL (s:ByteArray) (d:Ty.d aA) (h:DR d):DR (mD s d).1:=by
 unfold mD
 cases (bh d.1 s).isSome
 · exact h
 · exact zi h s
theorem jx (s:ByteArray) (d:Ty.d aA) (h:DR d):DR (bO s d).1:=im (EL s d h) fun x hx=>za hx s
theorem nN (s t:ByteArray) (d:Ty.d aA) (h:DR d):DR (lB s t d).1:=im (im (jx s d h) fun x hx=>oc hx s t) fun x hx=>lR hx s
theorem jf (v:Ty.d cY) (d:Ty.d aA) (h:DR d):DR (bf v d).1:=im (nN _ _ d h) fun x hx=>JV hx _ _
theorem ju:∀ (l:List ByteArray) (d:Ty.d aA),DR d→DR (eX l d).1
 | [],d,h=>h
 | s::l,d,h=>im (EL s d h) (ju l)
theorem pN (ids:List Int) (d:Ty.d aA) (h:DR d):DR (gm ids d).1:=ju _ d h
theorem cw (k:Nat) (c:Int):aV.f k c=some (iH c,()):=by
 unfold aV.f aV.t iH
 cases c==0 <;> cases c==1 <;> cases c==2 <;> rfl
theorem Es {l:bn} {s:ByteArray}:decide (kN l s 0≥0)=(bh l s).isSome:=by
 rcases jY l s 0 with ⟨h1,h2,_⟩ | ⟨n,h1,h2,h3,_⟩
 · rw [h1,h2];rfl
 · rw [h2,h3,aO (by omega)];rfl
theorem FF {l:bn} {s:ByteArray}:decide (kN l s 0<0)=!(bh l s).isSome:=by
 rcases jY l s 0 with ⟨h1,h2,_⟩ | ⟨n,h1,h2,h3,_⟩
 · rw [h1,h2];rfl
 · rw [h2,h3,aP (by omega)];rfl
theorem mR {k:Nat} (hk:2 ^ 50≤k) {d:Ty.d aA} (h:DR d) {s:ByteArray} (hs:s.size≤1099511627776):dS.f k d s=some ((bO s d).1,((bO s d).2,())):=by
 have hl:=h.sz.l
 unfold dS.f dS.t bO mD
 rw [h9 hk (by omega),ab]
 simp only [Es]
 cases (bh d.1 s).isSome with
 | false =>
  simp only [aK]
  rw [rU hk h.sz hs]
  rfl
 | true =>
  simp only [ac]
  rw [rS hk h.sz,ab]
  unfold gM
  simp only [bne]
  cases c:(ur d s).2==0 with
  | false=>rfl
  | true =>
   simp only [fh,aK,ac]
   rw [rU hk (zi h s).sz hs]
   rfl
theorem uA {k:Nat} (hk:2 ^ 50≤k) {d:Ty.d aA} (h:DR d) {s t:ByteArray} (hs:s.size≤1099511627776) (ht:t.size≤1099511627776):gL.f k d s t=some ((lB s t d).1,((lB s t d).2,())):=by
 have h1:=jx s d h
 unfold gL.f gL.t lB
 rw [mR hk h hs,ab]
 simp only []
 generalize bO s d=r at h1 ⊢
 unfold gM
 cases c:r.2==0 with
 | false=>simp only [aK,c]
 | true =>
  simp only [ac]
  rw [og hk h1.sz s ht,ab]
  simp only []
  cases c2:(iD r.1 s t).2==0 with
  | false=>rfl
  | true =>
   simp only [ac]
   rw [lm hk (oc h1 s t).sz]
   rfl
theorem ml {k:Nat} (hk:2 ^ 50≤k) {d:Ty.d aA} (h:DR d) {v:Ty.d cY} (hv:cS v=true):eC.f k d v=some ((bf v d).1,(iH (bf v d).2,())):=by
 have hu:=h.sz.u
 have hn:=h.sz.n
 have h1:=nN iL (cE v) d h
 unfold eC.f eC.t bf
 rw [j_ hk (by omega) (by omega),ab,jQ.2 h]
 simp only [fh,aK]
 rw [q_ hk,ab,hv]
 simp only [fh,aK]
 rw [kW hk,ab,show (⟨#[116,101,109,112]⟩:ByteArray)=iL from rfl,show (⟨#[108,105,118,101]⟩:ByteArray)=dm from rfl]
 simp only []
 rw [uA hk h (s:=iL) (t:=cE v) (by decide) (C3 v),ab]
 simp only []
 generalize lB iL (cE v) d=r at h1 ⊢
 unfold gM
 cases c:r.2==0 with
 | false=>simp only [aK,cw,ab]
 | true =>
  simp only [ac]
  rw [DY hk h1.sz iL (b:=dm) (by decide),ab]
  simp only [cw,ab]
theorem mU {k:Nat} (hk:2 ^ 50≤k) {d:Ty.d aA} (h:DR d) {l:List ByteArray} (hl:l.length≤1073741824):br.f k d l=some ((eX l d).1,((eX l d).2,())):=by
 unfold br.f br.t
 refine eG (L:=fun n i (x:Ty.d aA)=>br.l0 k n l i x.1 x.2.1 x.2.2.1 x.2.2.2.1 [] 0 0 false) (R:=fun r x=>some ((eX r x).1,((eX r x).2,()))) (Ty.z .str) l (fun _ x=>DR x) (fun n x hx=>?_) (fun n i x y rest h0 h1 hy hr hx ih=>?_) (n:=k) (s:=d) (by omega) h
 · simp only [br.l0,br.b0]
   rw [aP (by omega),aK]
   rfl
 · have hlx:=hx.sz.l
   simp only [br.l0,br.b0]
   rw [aO h1,ac,aH h0 h1,hy,show (x.1,(x.2.1,(x.2.2.1,(x.2.2.2.1,()))))=x from rfl,h9 hk (by omega),ab,aH h0 h1,aD (n:=i+1) (by omega) (by omega)]
   simp only [FF,eX,mD,gM]
   cases (bh x.1 y).isSome with
   | false =>
    simp only [uV,ac,aK]
    exact ih x hx
   | true =>
    simp only [fh,aK,ac]
    rw [rS hk hx.sz,ab]
    simp only [bne]
    cases c:(ur x y).2==0 with
    | false=>rfl
    | true =>
     simp only [fh,aK,ac]
     exact ih _ (zi hx y)
theorem Bz (ids:List Int):∀ (l:bn) (acc:List ByteArray),pO ids l acc=acc++(l.filter (tg ids)).map (·.1)
 | [],acc=>by unfold pO;simp
 | f::l,acc=>by
  unfold pO
  rw [Bz ids l]
  cases c:tg ids f
  · rw [aK,List.filter_cons_of_neg (by rw [c];decide)]
  · rw [ac,List.filter_cons_of_pos c,List.map_cons,nn];rfl
theorem He {d:Ty.d aA} (ids:List Int):(rD d ids).Sublist (lJ d.1):=by
 unfold rD
 cases gd d
 · exact List.nil_sublist _
 · rw [ac,Bz,List.nil_append]
   exact (List.filter_sublist).map _
theorem vC {l:bn} {s t:ByteArray} (h:t≠s):bh (kG l s) t=bh l t:=by
 induction l with
 | nil=>rfl
 | cons g l ih =>
  unfold kG
  cases c:seq g.1 s with
  | true =>
   rw [ac,bh.eq_2,kP (fun q=>h (by rw [← q,dr.1 c])),aK]
  | false =>
   rw [aK,bh.eq_2,bh.eq_2,ih]
theorem IG {l:bn} {s:ByteArray} (h:s ∈ lJ l):(bh l s).isSome=true:=by
 cases q:bh l s with
 | some f=>rfl
 | none =>
  obtain ⟨f,h1,h2⟩:=List.mem_map.1 h
  exact absurd h2 (qC.1 q f h1)
theorem GF {d:Ty.d aA} {s t:ByteArray} (h:t≠s) (ht:(bh d.1 t).isSome=true):(bh (ur d s).1.1 t).isSome=true:=by
 unfold ur ik
 cases (jF d).2 != 0 with
 | true=>rw [ac,ox];exact ht
 | false =>
  show (bh (B5 s d.1 d.2.1).1 t).isSome=true
  unfold B5
  cases (bh d.1 s).isNone
  · show (bh (kG d.1 s) t).isSome=true
    rw [vC h]
    exact ht
  · exact ht
theorem sO {k:Nat} (hk:2 ^ 50≤k) {d:Ty.d aA} (h:DR d) {v:Ty.d cY} (hv:v.2.1.length≤1099511627776):bi.f k d v=some ((gm v.2.1 d).1,(iH (gm v.2.1 d).2,())):=by
 have hu:=h.sz.u
 have hn:=h.sz.n
 have hl:=h.len
 have hsub:=He (d:=d) v.2.1
 have hlen:=hsub.length_le
 unfold lJ at hlen
 rw [List.length_map] at hlen
 have hne:(rD d v.2.1).Pairwise (fun a b=>a≠b):=(List.Pairwise.sublist hsub h.keys).imp fun {a b} q e=>by rw [e,oQ] at q;cases q
 have hall:∀ s ∈ rD d v.2.1,(bh d.1 s).isSome=true:=fun s hs=>IG (hsub.subset hs)
 unfold bi.f bi.t gm
 rw [Aw hk (by omega) (by omega) hv,ab]
 simp only []
 generalize rD d v.2.1=l at hlen hne hall ⊢
 refine eG (L:=fun n i (x:Ty.d aA)=>bi.l0 k n i x.1 x.2.1 x.2.2.1 x.2.2.2.1 [] 0 0 false l) (R:=fun r x=>some ((eX r x).1,(iH (eX r x).2,()))) (Ty.z .str) l (fun i x=>DR x∧∀ s ∈ l.drop i.toNat,(bh x.1 s).isSome=true) (fun n x hx=>?_) (fun n i x y rest h0 h1 hy hr hx ih=>?_) (n:=k) (s:=d) (by omega) ⟨h,fun s hs=>hall s (List.mem_of_mem_drop hs)⟩
 · simp only [bi.l0,bi.b0]
   rw [aP (by omega),aK]
   rfl
 · obtain ⟨hd,ha⟩:=hx
   have hp:(y::rest).Pairwise (fun a b=>a≠b):=by rw [← hr];exact hne.drop
   have hdr:l.drop (i+1).toNat=rest:=by
    have:=congrArg (List.drop 1) hr
    rw [List.drop_drop,List.drop_one,List.tail_cons] at this
    rw [show (i+1).toNat=i.toNat+1 by omega]
    exact this
   have hy1:(bh x.1 y).isSome=true:=ha y (by rw [hr];exact jd ..)
   simp only [bi.l0,bi.b0]
   rw [aO h1,ac,aH h0 h1,hy,show (x.1,(x.2.1,(x.2.2.1,(x.2.2.2.1,()))))=x from rfl,rS hk hd.sz,ab,aD (n:=i+1) (by omega) (by omega)]
   simp only [eX,mD,gM,hy1,ac,bne,cw]
   cases c:(ur x y).2==0 with
   | false=>rfl
   | true =>
    simp only [fh,aK,ac]
    refine ih (ur x y).1 ⟨zi hd y,fun s hs=>?_⟩
    rw [hdr] at hs
    exact GF (fun e=>(List.pairwise_cons.1 hp).1 s hs e.symm) (ha s (by rw [hr];exact lL _ hs))
abbrev j2:=List (Ty.d b7)
def fI (kind batch:Int) (l:j2):Ty.d b7:=(kind,(batch,(ByteArray.empty,(ByteArray.empty,((l.length:Int),(ul l,()))))))
theorem u4 {k:Nat} (hk:2 ^ 50≤k) {l:j2} (hl:l.length≤1073741824) (b kd:Int):gZ.f k l b kd=some (fI kd b l,()):=by
 unfold gZ.f gZ.t
 rw [oy hk hl,ab]
 rfl
abbrev iA:=List (Ty.d aL)
def ku (s:ByteArray):Bool:=decide (1≤(s.size:Int)∧(s.size:Int)≤8)
def bD (p:Ty.d aL):Ty.d b7:=(4,(p.2.2.1,(p.1,(p.2.1,(0,(0,()))))))
def jX (l:iA) (mark:Int):j2:=l.map bD++[fI 5 mark (l.map bD)]
def aX:j2→ByteArray
 | []=>⟨#[]⟩
 | r::l=>aQ (aG r)++aX l
theorem nP:∀ l m:j2,aX (l++m)=aX l++aX m
 | [],m=>by rw [List.nil_append,aX,nL]
 | r::l,m=>by rw [List.cons_append,aX,nP l m,aX,ai]
abbrev aR:=List (Ty.d aB)
noncomputable def dp (s:ByteArray) (i n:Int):Ty.d b7 × Bool :=
 if 0≤i∧i≤s.size∧1≤n∧n≤s.size-i then (if (fi (ByteArray.extract s i.toNat (i+n).toNat)).2=n then gB (fi (ByteArray.extract s i.toNat (i+n).toNat)).1 else (rZ,false)) else (rZ,false)
theorem DK {s:ByteArray} (h:(gB s).2=false):gB s=(rZ,false):=Eg h
theorem zo (s:ByteArray) (i j:Nat):(ByteArray.extract s i j).size≤s.size:=by
 rw [← cP,rW,List.length_drop,List.length_take,cP];omega
theorem sy {k:Nat} (hk:2 ^ 50≤k) {s:ByteArray} (i n:Int) (hs:s.size≤1099511627775):ic.f k s i n=some ((dp s i n).1,((dp s i n).2,())):=by
 unfold ic.f ic.t dp
 rw [nH,ab]
 by_cases c1:0≤i∧i≤s.size
 case neg=>rw [aP c1,if_neg (fun h=>c1 ⟨h.1,h.2.1⟩)];rfl
 rw [aO c1,fh,aK,nH,ab,aD (by omega) (by omega)]
 by_cases c2:1≤n∧n≤s.size-i
 case neg=>rw [aP c2,if_neg (fun h=>c2 ⟨h.2.2.1,h.2.2.2⟩)];rfl
 have hz:=zo s i.toNat (i+n).toNat
 have hu:=lU (ByteArray.extract s i.toNat (i+n).toNat)
 rw [aO c2,fh,aK,aD (by omega) (by omega),s7 (by omega) (by omega) (by omega),if_pos ⟨c1.1,c1.2,c2⟩,kx hk (by omega),ab]
 simp only []
 rw [pS hk (by omega),ab]
 by_cases c3:(fi (ByteArray.extract s i.toNat (i+n).toNat)).2=n
 · rw [if_pos c3]
   simp only [show ((fi (ByteArray.extract s i.toNat (i+n).toNat)).2 != n)=false by rw [c3];simp,aK]
   cases c4:(gB (fi (ByteArray.extract s i.toNat (i+n).toNat)).1).2 with
   | true=>rfl
   | false=>rw [DK c4];rfl
 · rw [if_neg c3]
   simp only [show ((fi (ByteArray.extract s i.toNat (i+n).toNat)).2 != n)=true from bne_iff_ne.2 c3,ac]
theorem t6 {k:Nat} (hk:2 ^ 50≤k) {s:ByteArray} (i n:Int) (hs:s.size≤1099511627775):ii.f k s i n=some ((dp s i n).1,((dp s i n).2,())):=by
 unfold ii.f ii.t dp
 rw [su,ab]
 by_cases c1:0≤i∧i≤s.size
 case neg=>rw [aP c1,if_neg (fun h=>c1 ⟨h.1,h.2.1⟩)];rfl
 rw [aO c1,fh,aK,su,ab,aD (by omega) (by omega)]
 by_cases c2:0≤n∧n≤s.size-i
 case neg=>rw [aP c2,if_neg (fun h=>c2 ⟨by omega,h.2.2.2⟩)];rfl
 have hz:=zo s i.toNat (i+n).toNat
 have hu:=lU (ByteArray.extract s i.toNat (i+n).toNat)
 have hsz:(ByteArray.extract s i.toNat (i+n).toNat).size≤(i+n).toNat-i.toNat:=by rw [← cP,rW,List.length_drop,List.length_take];omega
 rw [aO c2,fh,aK,aD (by omega) (by omega),s7 (by omega) (by omega) (by omega),pY hk (by omega),ab]
 simp only []
 by_cases c0:(fi (ByteArray.extract s i.toNat (i+n).toNat)).2=0
 · rw [show ((fi (ByteArray.extract s i.toNat (i+n).toNat)).2==0)=true by rw [c0];rfl,ac]
   split
   · rename_i h
     rw [if_neg (by omega)]
   · rfl
 · rw [show ((fi (ByteArray.extract s i.toNat (i+n).toNat)).2==0)=false from mC c0,aK,if_pos ⟨c1.1,c1.2,by omega,c2.2⟩]
   by_cases c3:(fi (ByteArray.extract s i.toNat (i+n).toNat)).2=n
   · rw [if_pos c3]
     simp only [show ((fi (ByteArray.extract s i.toNat (i+n).toNat)).2 != n)=false by rw [c3];simp,aK]
     rw [pn hk (by omega),ab]
   · rw [if_neg c3]
     simp only [show ((fi (ByteArray.extract s i.toNat (i+n).toNat)).2 != n)=true from bne_iff_ne.2 c3,ac]
end Go.Proofs.YtnpijgnfpdcjbaaGreatDoor.G

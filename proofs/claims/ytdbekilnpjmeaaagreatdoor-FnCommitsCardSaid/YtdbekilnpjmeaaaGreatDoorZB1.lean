/- Plain laws, merged; what is proved here is told ahead of each part. -/
import Derived.Test.YtdbekilnpjmeaaaGreatDoorZBE
import Derived.Lib.ItoaNum
import Derived.Lib.AtoiAll
import Derived.Lib.AtoiAllCases
import Derived.Test.YtdbekilnpjmeaaaGreatDoorVPure
import Derived.Test.YtdbekilnpjmeaaaGreatDoorXLib
set_option linter.unusedVariables false
set_option linter.unusedSimpArgs false
namespace Go.V
theorem aT {α β:Type} {a:α} {f:α→Option β}:Option.bind (some a) f=f a:=rfl
theorem aK {α:Type} {a b:α}:cond false a b=b:=rfl
theorem aX {α:Type} {a b:α}:cond true a b=a:=rfl
theorem fb:(!true)=false:=rfl
theorem tD:(!false)=true:=rfl
theorem mm {α:Type} [BEq α] [LawfulBEq α] {a b:α} (h:a≠b):(a==b)=false:=beq_eq_false_iff_ne.2 h
theorem ni (i:Nat):Int.toNat (i:Int)=i:=Int.toNat_natCast i
theorem lP {α:Type} {a:α} {l:List α}:(a::l).length=l.length+1:=rfl
theorem sG {α:Type} {l m:List α}:(l++m).length=l.length+m.length:=List.length_append
theorem rW {α:Type} (l m n:List α):l++m++n=l++(m++n):=List.append_assoc l m n
theorem G7 {α:Type} [BEq α] [LawfulBEq α] {a b:α} (h:(a==b)=true):a=b:=beq_iff_eq.1 h
theorem im (a b:Bool):((a&&b)=true)=(a=true∧b=true):=Bool.and_eq_true a b
theorem oX {α:Type} {a:α} {l:List α}:a ∈ a::l:=List.mem_cons_self
theorem qS {α:Type} (y:α) {a:α} {l:List α} (h:a ∈ l):a ∈ y::l:=List.mem_cons_of_mem y h
end Go.V
namespace Go.V
theorem aM {p:Prop} [Decidable p] (h:p):decide p=true:=decide_eq_true h
theorem aQ {p:Prop} [Decidable p] (h:¬ p):decide p=false:=decide_eq_false h
theorem bm {R:Type} {b n:Nat} {k:Option R} (h:n≤1099511627776) (hb:b≤128):rm b n k=k :=
 KN (Nat.le_trans (Nat.mul_le_mul h hb) (by decide)) (by omega)
theorem da {R:Type} {a b:ByteArray} {k:Option R} (h:a.size+b.size≤4611686018427387904):kX a b k=k:=zM (by omega)
theorem Jo {R:Type} {b:Nat} {n:Int} {k:Option R} (h0:0≤n) (h:n≤1099511627776) (hb:b≤128):KA b n k=k :=
 De h0 (Nat.le_trans (Nat.mul_le_mul (show n.toNat≤1099511627776 by omega) hb) (by decide)) (by omega)
theorem vH {n:Int} (h0:0≤n) (h1:n≤4294967295):IntKind.wrap .u32 n=n:=by
 unfold IntKind.wrap
 simp [IntKind.bits,IntKind.signed]
 omega
theorem oQ {n:Int} (h0:0≤n) (h1:n≤255):IntKind.wrap .u8 n=n:=by
 unfold IntKind.wrap
 simp [IntKind.bits,IntKind.signed]
 omega
theorem Jg {α:Type} {g:Nat→Option α} {r:α} (h:∀ k,2 ^ 50≤k→g k=some r):Ev g r:=⟨2 ^ 50,h⟩
section
variable {α σ ρ:Type}
theorem KW {L:Nat→σ→Option ρ} {R:σ→Option ρ} (μ:σ→Nat) (P:σ→Prop)
 (h:∀ n s,P s→(∀ s',P s'→μ s' < μ s→L n s'=R s')→L (n+1) s=R s):∀ n s,P s→μ s<n→L n s=R s
 | 0,s,_,hn=>by omega
 | n+1,s,hs,hn=>h n s hs fun s' h1 h2=>KW μ P h n s' h1 (by omega)
theorem HB {L:Nat→Int→σ→Option ρ} {R:Int→σ→Option ρ} (N:Int) (P:Int→σ→Prop)
 (h0:∀ (n:Nat) s,P N s→L (n+1) N s=R N s)
 (h1:∀ (n:Nat) (i:Int) s,0≤i→i<N→P i s→(∀ s',P (i+1) s'→L n (i+1) s'=R (i+1) s')→L (n+1) i s=R i s) :
 ∀ (n:Nat) (i:Int) s,0≤i→i≤N→N-i<n→P i s→L n i s=R i s
 | 0,i,s,hi,hN,hn,_=>by omega
 | n+1,i,s,hi,hN,hn,hs=>by
  by_cases c:i=N
  · subst c;exact h0 n s hs
  · exact h1 n i s hi (by omega) hs fun s' q=>HB N P h0 h1 n (i+1) s' (by omega) (by omega) (by omega) q
theorem HP {L:Nat→Int→σ→Option ρ} {R:List α→σ→Option ρ} (z:α) (l:List α) (P:Int→σ→Prop)
 (h0:∀ (n:Nat) s,P l.length s→L (n+1) l.length s=R [] s)
 (h1:∀ (n:Nat) (i:Int) s x rest,0≤i→i<l.length→l.getD i.toNat z=x→l.drop i.toNat=x::rest→P i s→(∀ s',P (i+1) s'→L n (i+1) s'=R rest s')→L (n+1) i s=R (x::rest) s) :
 ∀ (n:Nat) (i:Int) s,0≤i→i≤l.length→(l.length:Int)-i<n→P i s→L n i s=R (l.drop i.toNat) s:=by
 intro n i s hi hN hn hs
 refine HB (L:=L) (R:=fun i s=>R (l.drop i.toNat) s) l.length P (fun n s q=>?_) (fun n i s hi hlt q ih=>?_) n i s hi hN hn hs
 · rw [h0 n s q,Int.toNat_natCast,List.drop_length]
 · have hl:i.toNat<l.length:=by omega
   have e:l.drop i.toNat=l.getD i.toNat z::l.drop (i+1).toNat:=by
    rw [List.drop_eq_getElem_cons hl,show (i+1).toNat=i.toNat+1 by omega]
    simp [List.getD,hl]
   show _=R (l.drop i.toNat) s
   rw [e]
   exact h1 n i s _ _ hi hlt rfl e q ih
theorem eV {L:Nat→Int→σ→Option ρ} {R:List α→σ→Option ρ} (z:α) (l:List α) (P:Int→σ→Prop)
 (h0:∀ (n:Nat) s,P l.length s→L (n+1) l.length s=R [] s)
 (h1:∀ (n:Nat) (i:Int) s x rest,0≤i→i<l.length→l.getD i.toNat z=x→l.drop i.toNat=x::rest→P i s→(∀ s',P (i+1) s'→L n (i+1) s'=R rest s')→L (n+1) i s=R (x::rest) s)
 {n:Nat} {s:σ} (hn:l.length<n) (hs:P 0 s):L n 0 s=R l s:=by
 have:=HP z l P h0 h1 n 0 s (by omega) (by omega) (by omega) hs
 simpa using this
end
theorem kh {a b:ByteArray} (h:a≠b):seq a b=false:=by
 cases c:seq a b
 · rfl
 · exact absurd (eT.1 c) h
theorem IW {a b:ByteArray} (h:a=b):seq a b=true:=eT.2 h
theorem EJ (a b:ByteArray):seq a b=decide (a=b):=by
 by_cases h:a=b
 · rw [IW h,aM h]
 · rw [kh h,aQ h]
theorem II {α:Type} {l:List α} {i:Nat} {x:α} {rest:List α} (h:l.drop i=x::rest):i<l.length:=by
 rcases Nat.lt_or_ge i l.length with q | q
 · exact q
 · rw [List.drop_eq_nil_of_le q] at h;cases h
end Go.V
namespace Go.V
def vl:Nat→Nat→List Nat
 | 0,a=>[a]
 | d+1,a=>if a≥128 then (128+a % 128)::vl d (a/128) else [a]
def rL:List Nat→Nat
 | []=>0
 | b::p=>b % 128+128*rL p
def qM:List Nat→Bool
 | []=>false
 | [b]=>decide (b<128)
 | b::c::p=>decide (128≤b)&&(decide (b<256)&&(qM (c::p)&&!(decide (p=[])&&c==0)))
theorem vM:∀ (d a:Nat),a<128 ^ (d+1)→qM (vl d a)=true∧rL (vl d a)=a∧(vl d a=[0]→a=0)
 | 0,a,h=>by
  have:a<128:=by simpa using h
  refine ⟨by simp [vl,qM,this],by simp [vl,rL];omega,fun q=>by simpa [vl] using q⟩
 | d+1,a,h=>by
  unfold vl
  by_cases c:a≥128
  · rw [if_pos c]
    obtain ⟨h1,h2,h3⟩:=vM d (a/128) (by rw [Nat.pow_succ] at h;omega)
    refine ⟨?_,by rw [rL,h2];omega,fun q=>by have:=(List.cons.inj q).1;omega⟩
    generalize vl d (a/128)=l at h1 h2 h3
    match l,h1 with
    | x::p,h1 =>
     simp only [qM,h1]
     have e1:decide (128≤128+a % 128)=true:=decide_eq_true (by omega)
     have e2:decide (128+a % 128<256)=true:=decide_eq_true (by omega)
     rw [e1,e2]
     cases hp:(decide (p=[])&&x==0)
     · rfl
     · simp only [im,decide_eq_true_eq,beq_iff_eq] at hp
       have:=h3 (by rw [hp.1,hp.2])
       omega
  · rw [if_neg c]
    have:a<128:=by omega
    exact ⟨by simp [qM,this],by simp [rL];omega,fun q=>by simpa using q⟩
theorem C0:∀ (p:List Nat),qM p=true→p≠[0]→1≤rL p
 | [],h,_=>by simp [qM] at h
 | [b],h,q=>by
  simp only [qM,decide_eq_true_eq] at h
  simp only [rL]
  have:b≠0:=fun e=>q (by rw [e])
  omega
 | b::c::p,h,_=>by
  simp only [qM,im,decide_eq_true_eq,Bool.not_eq_true'] at h
  have ih:=C0 (c::p) h.2.2.1 (fun e=>by
   have e1:c=0:=(List.cons.inj e).1
   have e2:p=[]:=(List.cons.inj e).2
   have:=h.2.2.2
   rw [e1,e2] at this
   simp at this)
  rw [rL]
  omega
theorem zZ:∀ (d:Nat) (p:List Nat),qM p=true→p.length≤d+1→vl d (rL p)=p
 | _,[],h,_=>by simp [qM] at h
 | 0,[b],h,_=>by
  simp only [qM,decide_eq_true_eq] at h
  simp [vl,rL];omega
 | d+1,[b],h,_=>by
  simp only [qM,decide_eq_true_eq] at h
  have e:rL [b]=b:=by simp [rL];omega
  rw [e,vl,if_neg (by omega)]
 | 0,b::c::p,_,hl=>by simp at hl
 | d+1,b::c::p,h,hl=>by
  have h0:=h
  simp only [qM,im,decide_eq_true_eq,Bool.not_eq_true'] at h
  have hp:=C0 (c::p) h.2.2.1 (fun e=>by
   have e1:c=0:=(List.cons.inj e).1
   have e2:p=[]:=(List.cons.inj e).2
   have:=h.2.2.2
   rw [e1,e2] at this
   simp at this)
  have ih:=zZ d (c::p) h.2.2.1 (by simp at hl ⊢;omega)
  rw [rL,vl,if_pos (by omega)]
  rw [show (b % 128+128*rL (c::p))/128=rL (c::p) by omega,ih]
  congr 1
  omega
theorem Bu:∀ (p:List Nat) (b:Nat),rL (p++[b])=rL p+128 ^ p.length*(b % 128)
 | [],b=>by simp [rL]
 | a::p,b=>by
  rw [List.cons_append,rL,Bu p b,rL,lP,Nat.pow_succ,Nat.mul_add,Nat.mul_comm (128 ^ p.length) 128,Nat.mul_assoc]
  omega
theorem AH:∀ (p:List Nat),rL p<128 ^ p.length
 | []=>by simp [rL]
 | a::p=>by
  have:=AH p
  rw [rL,lP,Nat.pow_succ]
  omega
def nb (s:ByteArray):List Nat:=s.data.toList.map UInt8.toNat
theorem cY (s:ByteArray):(nb s).length=s.size:=by
 unfold nb
 rw [List.length_map,Array.length_toList]
 rfl
theorem JA {s:ByteArray} {x:Nat} (h:x ∈ nb s):x<256:=by
 unfold nb at h
 rw [List.mem_map] at h
 obtain ⟨y,_,rfl⟩:=h
 exact UInt8.toNat_lt y
theorem kV {a b:ByteArray} (h:nb a=nb b):a=b:=by
 unfold nb at h
 have h1:a.data.toList=b.data.toList:=List.map_inj_right (fun x y e=>UInt8.toNat_inj.1 e) |>.1 h
 exact ByteArray.ext (Array.toList_inj.1 h1)
theorem vY {s:ByteArray} {i:Nat} (h:i<s.size):e6 s (i:Int)=(((nb s).getD i 0:Nat):Int):=by
 unfold e6 nb
 have h1:i<s.data.toList.length:=by rw [Array.length_toList];exact h
 rw [Int.toNat_natCast,List.getD,List.getD,List.getElem?_map,List.getElem?_eq_getElem h1]
 rfl
theorem C5 {l:List Nat} (h:∀ x ∈ l,x<256):nb (bytesOf (l.map Int.ofNat))=l:=by
 unfold nb bytesOf
 simp only [List.map_map,List.toList_toArray]
 induction l with
 | nil=>rfl
 | cons x l ih =>
  rw [List.map_cons,ih (fun y hy=>h y (qS _ hy))]
  have:=h x (oX ..)
  congr 1
  show (UInt8.ofNat (Int.toNat (x:Int))).toNat=x
  rw [Int.toNat_natCast]
  simp
  omega
theorem nW (s:ByteArray) (n:Nat):nb (ByteArray.extract s 0 n)=(nb s).take n:=by
 unfold nb
 simp [ByteArray.data_extract,List.map_take]
theorem J1:∀ (d a:Nat),a<128 ^ (d+1)→∀ x ∈ vl d a,x<256
 | 0,a,h,x,hx=>by simp [vl] at hx;subst hx;simp at h;omega
 | d+1,a,h,x,hx=>by
  unfold vl at hx
  split at hx
  · rcases List.mem_cons.1 hx with q | q
    · subst q;omega
    · exact J1 d _ (by rw [Nat.pow_succ] at h;omega) x q
  · simp at hx;subst hx;omega
def bE (a:Nat):ByteArray:=bytesOf ((vl 6 a).map Int.ofNat)
theorem sY {a:Nat} (h:a<562949953421312):nb (bE a)=vl 6 a:=C5 (J1 6 a (by rw [show (128:Nat) ^ (6+1)=562949953421312 by decide];exact h))
theorem Es {s:ByteArray} {n:Nat} (h0:1≤n) (h7:n≤7) (hs:n≤s.size):seq (bE (rL ((nb s).take n))) (ByteArray.extract s 0 n)=qM ((nb s).take n):=by
 have hl:((nb s).take n).length=n:=by rw [List.length_take,cY];omega
 have hd:rL ((nb s).take n)<562949953421312:=by
  have:=AH ((nb s).take n)
  rw [hl] at this
  have h2:(128:Nat) ^ n≤128 ^ 7:=Nat.pow_le_pow_right (by decide) h7
  rw [show (128:Nat) ^ 7=562949953421312 by decide] at h2
  omega
 rw [Bool.eq_iff_iff,eT]
 constructor
 · intro e
   have e1:nb (bE (rL ((nb s).take n)))=(nb s).take n:=by rw [e,nW]
   rw [sY hd] at e1
   have:=(vM 6 (rL ((nb s).take n)) (by rw [show (128:Nat) ^ (6+1)=562949953421312 by decide];exact hd)).1
   rw [e1] at this
   exact this
 · intro c
   refine kV ?_
   rw [sY hd,nW]
   exact zZ 6 _ c (by omega)
end Go.V
namespace Go.V
open Go
def gM (n:Int):ByteArray:=⟨(Lib.itoa n).toArray⟩
def s9 (u:Nat):List UInt8:=if u=0 then [] else Lib.decDigits u
theorem Ei:s9 0=[]:=rfl
theorem pu {u:Nat} (h:u≠0):s9 u=Lib.decDigits u:=if_neg h
theorem F4 {u:Nat} (h:u≠0):s9 u=s9 (u/10)++[UInt8.ofNat (48+u % 10)]:=by
 rw [pu h,Lib.decDigits]
 by_cases c:u<10
 · rw [dif_pos c,show u/10=0 by omega,Ei,List.nil_append,Nat.mod_eq_of_lt c]
 · rw [dif_neg c,pu (by omega)]
theorem sU (u:Nat):Lib.decDigits u≠[]:=by
 rw [Lib.decDigits]
 split <;> simp
theorem xC:Lib.decDigits 0=[48]:=by
 rw [Lib.decDigits,dif_pos (by omega)]
 rfl
theorem rH {d:Nat} (h:d<10):(UInt8.ofNat (48+d)).toNat=48+d:=by
 simp
 omega
theorem mb (u:Nat):∀ b ∈ Lib.decDigits u,48≤b.toNat∧b.toNat≤57:=by
 induction u using Nat.strongRecOn with
 | _ u ih =>
  intro b hb
  rw [Lib.decDigits] at hb
  split at hb
  · rename_i h
    rw [List.mem_singleton] at hb
    subst hb
    rw [rH h]
    omega
  · rename_i h
    rcases List.mem_append.1 hb with q | q
    · exact ih (u/10) (by omega) b q
    · rw [List.mem_singleton] at q
      subst q
      rw [rH (by omega)]
      omega
def qR:List Nat→Nat→Nat
 | [],a=>a
 | b::l,a=>qR l (a*10+(b-48))
theorem yd:∀ (l m:List Nat) (a:Nat),qR (l++m) a=qR m (qR l a)
 | [],m,a=>rfl
 | b::l,m,a=>yd l m _
theorem qw (u:Nat):qR ((Lib.decDigits u).map UInt8.toNat) 0=u:=by
 induction u using Nat.strongRecOn with
 | _ u ih =>
  rw [Lib.decDigits]
  split
  · rename_i h
    simp only [List.map_cons,List.map_nil,qR,rH h]
    omega
  · rename_i h
    rw [List.map_append,yd,ih (u/10) (by omega)]
    simp only [List.map_cons,List.map_nil,qR,rH (show u % 10<10 by omega)]
    omega
theorem iG:∀ (k u:Nat),u<10 ^ (k+1)→(Lib.decDigits u).length≤k+1
 | 0,u,h=>by
  rw [Lib.decDigits,dif_pos (by simpa using h)]
  simp
 | k+1,u,h=>by
  rw [Lib.decDigits]
  split
  · simp
  · have:=iG k (u/10) (by rw [Nat.pow_succ] at h;omega)
    rw [sG]
    show _+1≤_
    omega
theorem pF (n:Int):nb (gM n)=if n<0 then 45::(Lib.decDigits n.natAbs).map UInt8.toNat else (Lib.decDigits n.toNat).map UInt8.toNat:=by
 unfold nb gM Lib.itoa
 split <;> simp
theorem va {a b:Int} (h:gM a=gM b):a=b:=by
 have h1:=congrArg nb h
 rw [pF,pF] at h1
 have hd:∀ u:Nat,∀ l,(Lib.decDigits u).map UInt8.toNat≠45::l:=fun u l q=>by
  have hm:(45:Nat) ∈ (Lib.decDigits u).map UInt8.toNat:=by rw [q];exact oX ..
  obtain ⟨x,hx,e⟩:=List.mem_map.1 hm
  have:=mb u x hx
  omega
 by_cases ca:a<0
 · rw [if_pos ca] at h1
   by_cases cb:b<0
   · rw [if_pos cb] at h1
     have h2:=(List.cons.inj h1).2
     have h3:=congrArg (fun l=>qR l 0) h2
     simp only [qw] at h3
     omega
   · rw [if_neg cb] at h1
     exact absurd h1.symm (hd _ _)
 · rw [if_neg ca] at h1
   by_cases cb:b<0
   · rw [if_pos cb] at h1
     exact absurd h1 (hd _ _)
   · rw [if_neg cb] at h1
     have h3:=congrArg (fun l=>qR l 0) h1
     simp only [qw] at h3
     omega
theorem Fh {n:Int} (h0 : -1000000000<n) (h1:n<1000000000):(gM n).size≤10:=by
 rw [← cY,pF]
 split
 · have:=iG 8 n.natAbs (by rw [show (10:Nat) ^ (8+1)=1000000000 by decide];omega)
   rw [lP,List.length_map]
   omega
 · have:=iG 8 n.toNat (by rw [show (10:Nat) ^ (8+1)=1000000000 by decide];omega)
   rw [List.length_map]
   omega
theorem BM (n:Int) (h0 : -9223372036854775808≤n) (h1:n≤9223372036854775807):(gM n).size≤20:=by
 rw [← cY,pF]
 split
 · have:=iG 18 n.natAbs (by rw [show (10:Nat) ^ (18+1)=10000000000000000000 by decide];omega)
   rw [lP,List.length_map]
   omega
 · have:=iG 18 n.toNat (by rw [show (10:Nat) ^ (18+1)=10000000000000000000 by decide];omega)
   rw [List.length_map]
   omega
end Go.V
namespace Go.V
section
variable {α ρ:Type}
def ph (ok:Option α→α→Bool):Option α→List α→Bool
 | _,[]=>true
 | p,x::l=>ok p x&&ph ok (some x) l
theorem pT {L:Nat→Int→Option ρ} (z:α) (l:List α) (ok:Option α→α→Bool) (yes no:Option ρ) (h0:∀ (n:Nat),L (n+1) l.length=yes)
 (h1:∀ (n:Nat) x,0<l.length→l.getD (Int.toNat 0) z=x→L (n+1) 0=bif ok none x then L n 1 else no)
 (h2:∀ (n:Nat) (i:Int) x y,0<i→i<l.length→l.getD i.toNat z=x→l.getD (i-1).toNat z=y→L (n+1) i=bif ok (some y) x then L n (i+1) else no)
 {n:Nat} (hn:l.length<n):L n 0=bif ph ok none l then yes else no:=by
 have key:∀ (d i n:Nat),l.length=i+d→0<i→d<n→L n (i:Int)=bif ph ok (some (l.getD (i-1) z)) (l.drop i) then yes else no:=by
  intro d
  induction d with
  | zero =>
   intro i n h h' hn
   obtain ⟨n,rfl⟩:∃ q,n=q+1:=⟨n-1,by omega⟩
   have:i=l.length:=by omega
   subst this
   rw [h0 n,List.drop_length]
   rfl
  | succ d ih =>
   intro i n h h' hn
   obtain ⟨n,rfl⟩:∃ q,n=q+1:=⟨n-1,by omega⟩
   have hl:i<l.length:=by omega
   have e:l.drop i=l.getD i z::l.drop (i+1):=by
    rw [List.drop_eq_getElem_cons hl]
    simp [List.getD,hl]
   have ih:=ih (i+1) n (by omega) (by omega) (by omega)
   rw [h2 n i (l.getD i z) (l.getD (i-1) z) (by omega) (by omega) (by rw [Int.toNat_natCast]) (by rw [show ((i:Int)-1).toNat=i-1 by omega]),e,ph]
   rw [show ((i:Int)+1)=((i+1:Nat):Int) by omega,ih,show i+1-1=i by omega]
   cases ok (some (l.getD (i-1) z)) (l.getD i z) <;> rfl
 obtain ⟨n,rfl⟩:∃ q,n=q+1:=⟨n-1,by omega⟩
 cases l with
 | nil=>exact h0 n
 | cons x l =>
  rw [h1 n x (by simp) rfl,ph]
  have:=key l.length 1 n (by rw [lP];omega) (by omega) (by rw [lP] at hn;omega)
  rw [show ((1:Nat):Int)=1 from rfl] at this
  rw [this]
  cases ok none x <;> rfl
theorem vO {ok:Option α→α→Bool} {l:List α} {p:Option α} (h:ph ok p l=true) {x:α} (hx:x ∈ l):∃ q,ok q x=true:=by
 induction l generalizing p with
 | nil=>cases hx
 | cons y l ih =>
  rw [ph,im] at h
  rcases List.mem_cons.1 hx with e | e
  · subst e;exact ⟨p,h.1⟩
  · exact ih h.2 e
end
theorem my {α:Type} {l:List α} {n i:Nat} {z:α} (h:i<n):(l.take n).getD i z=l.getD i z:=by
 simp [List.getD,List.getElem?_take,h]
theorem lW {α:Type} {l:List α} {i:Nat} {z:α} (h:i<l.length):l.take (i+1)=l.take i++[l.getD i z]:=by
 rw [List.take_succ_eq_append_getElem h]
 simp [List.getD,h]
theorem cS {α:Type} (l:List α) (x:α):(l++[x]).length=l.length+1:=by simp
end Go.V
namespace Go.V
def dB (l:List UInt8):ByteArray:=⟨l.toArray⟩
theorem HZ (a b:List UInt8):dB a++dB b=dB (a++b):=by
 apply ByteArray.ext
 simp [dB,ByteArray.data_append]
theorem zp (l:List UInt8):(dB l).size=l.length:=by simp [dB,ByteArray.size]
theorem xE (s:ByteArray):dB []++s=s:=by
 apply ByteArray.ext
 simp [dB,ByteArray.data_append]
theorem CK (s:ByteArray):s++dB []=s:=by
 apply ByteArray.ext
 simp [dB,ByteArray.data_append]
theorem vu (a b c:ByteArray):a++b++c=a++(b++c):=by
 apply ByteArray.ext
 simp [ByteArray.data_append]
theorem IK (n:Int) (h:n≠0):gM n=(bif decide (n<0) then dB [45] else dB [])++dB (s9 n.natAbs):=by
 unfold gM Lib.itoa
 by_cases c:n<0
 · rw [if_pos c,aM c,aX,HZ,pu (by omega)]
   rfl
 · rw [if_neg c,aQ c,aK,xE,pu (by omega),show n.natAbs=n.toNat by omega]
   rfl
theorem Bz {u:Nat} (h:u≤9223372036854775808):(s9 u).length≤19:=by
 by_cases c:u=0
 · subst c;decide
 · rw [pu c]
   exact iG 18 u (by rw [show (10:Nat) ^ (18+1)=10000000000000000000 by decide];omega)
theorem l7 {n:Int} (h0 : -9223372036854775808≤n) (h1:n≤9223372036854775807):(gM n).size≤20:=BM n h0 h1
def mG:List Nat→Bool
 | []=>true
 | b::l=>(decide (97≤b∧b≤122)||decide (48≤b∧b≤57))&&mG l
def jZ (s:ByteArray):Bool:=mG (nb s)&&decide (1≤s.size∧s.size≤12)
end Go.V
namespace Go.Proofs.YtdbekilnpjmeaaaGreatDoor.G
open Go.V
theorem lu {k:Nat} (hk:2 ^ 50≤k) {n:Int} (h0 : -9223372036854775808≤n) (h1:n≤9223372036854775807):dA.f k n=some (gM n,()):=by
 unfold dA.f dA.t
 by_cases c:n=0
 · subst c
   have:gM 0=(⟨#[48]⟩:ByteArray):=by
    unfold gM Lib.itoa
    rw [if_neg (by decide),show (0:Int).toNat=0 from rfl,xC]
   rw [this]
   rfl
 · rw [show (n==0)=false from mm c,aK]
   have key:=KW (L:=fun m (s:Int × ByteArray)=>dA.l0 k m s.1 s.2 (decide (n<0))) (R:=fun s=>some ((bif decide (n<0) then dB [45] else dB [])++(dB (s9 s.1.natAbs)++s.2),()))
    (fun s=>(s9 s.1.natAbs).length) (fun s => -9223372036854775808≤s.1∧s.1≤9223372036854775807∧s.2.size+(s9 s.1.natAbs).length≤1000) ?_ k (n,(⟨#[]⟩:ByteArray))
    ⟨h0,h1,by have:=Bz (u:=n.natAbs) (by omega);show 0+(s9 n.natAbs).length≤1000;omega⟩ (by have:=Bz (u:=n.natAbs) (by omega);show (s9 n.natAbs).length<k;omega)
   · refine key.trans ?_
     simp only []
     rw [IK n c,show (⟨#[]⟩:ByteArray)=dB [] from rfl,CK]
   · intro m s hs ih
     obtain ⟨x,acc⟩:=s
     obtain ⟨g0,g1,g2⟩:=hs
     simp only [] at g0 g1 g2 ih ⊢
     by_cases cx:x=0
     · subst cx
       have hz:s9 (Int.natAbs 0)=[]:=rfl
       rw [hz] at g2 ⊢
       rw [xE]
       unfold dA.l0 dA.b0
       rw [show ((0:Int) != 0)=false from rfl,aK]
       cases decide (n<0)
       · rw [aK,aK,xE]
       · rw [aX,aX,da (by rw [show (⟨#[45]⟩:ByteArray).size=1 from rfl];omega)]
         rfl
     · have hd:=F4 (u:=x.natAbs) (by omega)
       have hb:bytesOf [48+((x.natAbs % 10:Nat):Int)]=dB [UInt8.ofNat (48+x.natAbs % 10)]:=rfl
       have hm:x.natAbs % 10<10:=Nat.mod_lt _ (by decide)
       have hl:(s9 x.natAbs).length=(s9 (x.natAbs/10)).length+1:=by rw [hd,sG];rfl
       have hr:(dB [UInt8.ofNat (48+x.natAbs % 10)]++acc).size=1+acc.size:=by rw [ByteArray.size_append];rfl
       have fin:∀ y:Int,y.natAbs=x.natAbs/10 → -9223372036854775808≤y→y≤9223372036854775807 →
        dA.l0 k m (aH y) (dB [UInt8.ofNat (48+x.natAbs % 10)]++acc) (decide (n<0))=some ((bif decide (n<0) then dB [45] else dB [])++(dB (s9 x.natAbs)++acc),()):=fun y hy q0 q1=>by
        rw [aE q0 q1]
        have:=ih (y,dB [UInt8.ofNat (48+x.natAbs % 10)]++acc) ⟨q0,q1,by simp only [];rw [hr,hy];omega⟩ (by simp only [];rw [hy];omega)
        simp only [] at this
        rw [this,hy,hd,← HZ,vu]
       unfold dA.l0 dA.b0
       rw [show (x != 0)=true from bne_iff_ne.2 cx,aX]
       obtain ⟨u,rfl | rfl⟩:=Int.eq_nat_or_neg x
       · have e1:Int.tmod (u:Int) 10=((u % 10:Nat):Int):=rfl
         have e2:Int.tdiv (u:Int) 10=((u/10:Nat):Int):=rfl
         rw [Int.natAbs_natCast] at *
         rw [e1,e2,aQ (by omega),aK,aE (n:=48+((u % 10:Nat):Int)) (by omega) (by omega),oQ (by omega) (by omega),hb,da (by rw [zp];simp only [List.length_singleton];omega)]
         exact fin _ (by omega) (by omega) (by omega)
       · have e1:Int.tmod (-(u:Int)) 10 = -((u % 10:Nat):Int):=Int.neg_tmod (a:=(u:Int)) (b:=10)
         have e2:Int.tdiv (-(u:Int)) 10 = -((u/10:Nat):Int):=Int.neg_tdiv (u:Int) 10
         rw [Int.natAbs_neg,Int.natAbs_natCast] at *
         rw [e1,e2]
         by_cases cz:u % 10=0
         · rw [aQ (by omega),aK,show (48:Int) + -((u % 10:Nat):Int)=48+((u % 10:Nat):Int) by omega,aE (n:=48+((u % 10:Nat):Int)) (by omega) (by omega),oQ (by omega) (by omega),hb,da (by rw [zp];simp only [List.length_singleton];omega)]
           exact fin _ (by omega) (by omega) (by omega)
         · rw [aM (by omega),aX,aE (n:=0 - -((u % 10:Nat):Int)) (by omega) (by omega),show (48:Int)+(0 - -((u % 10:Nat):Int))=48+((u % 10:Nat):Int) by omega,aE (n:=48+((u % 10:Nat):Int)) (by omega) (by omega),oQ (by omega) (by omega),hb,da (by rw [zp];simp only [List.length_singleton];omega)]
           exact fin _ (by omega) (by omega) (by omega)
theorem DP (k:Nat) {n:Int} (h0 : -9223372036854775808≤n) (h1:n≤9223372036854775807):mM.f k n=some (gM n,()):=by
 unfold mM.f mM.t mN.f
 rw [aM ⟨h0,h1⟩]
 rfl
theorem me (k:Nat) (a b c:Int):ay.f k a b c=some (decide (b≤a∧a≤c),()):=by
 unfold ay.f ay.t
 by_cases h:a≥b
 · rw [aM h,aX,decide_eq_decide.2 (show (b≤a∧a≤c)↔a≤c from ⟨fun q=>q.2,fun q=>⟨h,q⟩⟩)]
 · rw [aQ h,aK,aQ (fun q=>h q.1)]
theorem g_ (k:Nat) (a b c:Int):aU.f k a b c=some (decide (b≤a∧a≤c),()):=by
 unfold aU.f aU.t
 by_cases h:a≥b
 · rw [aM h,aX,decide_eq_decide.2 (show (b≤a∧a≤c)↔a≤c from ⟨fun q=>q.2,fun q=>⟨h,q⟩⟩)]
 · rw [aQ h,aK,aQ (fun q=>h q.1)]
theorem AN {s:ByteArray} {i:Int} {x:Nat} (h0:0≤i) (h1:i<((nb s).length:Int)) (hx:(nb s).getD i.toNat 0=x):e6 s i=(x:Int):=by
 rw [cY] at h1
 have:=vY (s:=s) (i:=i.toNat) (by omega)
 rw [show ((i.toNat:Nat):Int)=i by omega,hx] at this
 exact this
theorem Bn {s:ByteArray}:(some ((bif mG (nb s) then decide (1≤(s.size:Int)∧(s.size:Int)≤12) else false),()):Option (Bool × Unit))=some (jZ s,()):=by
 unfold jZ
 rw [decide_eq_decide.2 (show (1≤(s.size:Int)∧(s.size:Int)≤12)↔(1≤s.size∧s.size≤12) by omega)]
 cases mG (nb s) <;> rfl
theorem nr {k:Nat} (hk:2 ^ 50≤k) {s:ByteArray} (hs:s.size≤1099511627776):dt.f k s=some (jZ s,()):=by
 unfold dt.f dt.t
 have hn:=cY s
 refine (eV (L:=fun n i (_:Unit)=>dt.l0 k n s i) (R:=fun r _=>some ((bif mG r then decide (1≤(s.size:Int)∧(s.size:Int)≤12) else false),())) 0 (nb s) (fun _ _=>True) (fun n _ _=>?_) (fun n i _ x rest h0 h1 hx hr hp ih=>?_) (n:=k) (s:=()) (by omega) trivial).trans Bn
 · simp only [hn]
   simp (disch:=omega) only [dt.l0,dt.b0,aQ,aK,g_ k,aT,mG,aX]
 · have hb:=AN h0 h1 hx
   have ih:=ih () trivial
   simp only [hn] at *
   simp (disch:=omega) only [dt.l0,dt.b0,aM h1,aX,aG,hb,aE,ih,mG]
   by_cases c1:97≤x
   · rw [aM (show (x:Int)≥97 by omega),aX]
     by_cases c2:x≤122
     · rw [aM (show (x:Int)≤122 by omega),aX,aM (show 97≤x∧x≤122 from ⟨c1,c2⟩)]
       rfl
     · rw [aQ (show ¬ (x:Int)≤122 by omega),aK,aQ (show ¬ (97≤x∧x≤122) by omega),aM (show (x:Int)≥48 by omega),aX,aQ (show ¬ (x:Int)≤57 by omega),aQ (show ¬ (48≤x∧x≤57) by omega)]
       rfl
   · rw [aQ (show ¬ (x:Int)≥97 by omega),aK,aQ (show ¬ (97≤x∧x≤122) by omega)]
     by_cases c3:48≤x
     · rw [aM (show (x:Int)≥48 by omega),aX]
       by_cases c4:x≤57
       · rw [aM (show (x:Int)≤57 by omega),aM (show 48≤x∧x≤57 from ⟨c3,c4⟩)]
         rfl
       · rw [aQ (show ¬ (x:Int)≤57 by omega),aQ (show ¬ (48≤x∧x≤57) by omega)]
         rfl
     · rw [aQ (show ¬ (x:Int)≥48 by omega),aK,aQ (show ¬ (48≤x∧x≤57) by omega)]
       rfl
theorem oD {k:Nat} (hk:2 ^ 50≤k) {s:ByteArray} (hs:s.size≤1099511627776):dk.f k s=some (jZ s,()):=by
 unfold dk.f dk.t
 have hn:=cY s
 refine (eV (L:=fun n i (_:Unit)=>dk.l0 k n s i) (R:=fun r _=>some ((bif mG r then decide (1≤(s.size:Int)∧(s.size:Int)≤12) else false),())) 0 (nb s) (fun _ _=>True) (fun n _ _=>?_) (fun n i _ x rest h0 h1 hx hr hp ih=>?_) (n:=k) (s:=()) (by omega) trivial).trans Bn
 · simp only [hn]
   simp (disch:=omega) only [dk.l0,dk.b0,aQ,aK,me k,aT,mG,aX]
 · have hb:=AN h0 h1 hx
   have ih:=ih () trivial
   simp only [hn] at *
   simp (disch:=omega) only [dk.l0,dk.b0,aM h1,aX,aG,hb,aE,ih,mG]
   by_cases c1:97≤x
   · rw [aM (show (x:Int)≥97 by omega),aX]
     by_cases c2:x≤122
     · rw [aM (show (x:Int)≤122 by omega),aM (show 97≤x∧x≤122 from ⟨c1,c2⟩)]
       rfl
     · rw [aQ (show ¬ (x:Int)≤122 by omega),aQ (show ¬ (97≤x∧x≤122) by omega),aM (show (x:Int)≥48 by omega),aQ (show ¬ (x:Int)≤57 by omega),aQ (show ¬ (48≤x∧x≤57) by omega)]
       rfl
   · rw [aQ (show ¬ (x:Int)≥97 by omega),aK,aQ (show ¬ (97≤x∧x≤122) by omega)]
     by_cases c3:48≤x
     · rw [aM (show (x:Int)≥48 by omega),aX]
       by_cases c4:x≤57
       · rw [aM (show (x:Int)≤57 by omega),aM (show 48≤x∧x≤57 from ⟨c3,c4⟩)]
         rfl
       · rw [aQ (show ¬ (x:Int)≤57 by omega),aQ (show ¬ (48≤x∧x≤57) by omega)]
         rfl
     · rw [aQ (show ¬ (x:Int)≥48 by omega),aK,aQ (show ¬ (48≤x∧x≤57) by omega)]
       rfl
abbrev bN:=List (Ty.den aD)
def dz (l:bN):Nat:=(l.map fun f=>f.2.1.size).sum
def ik (l:bN):Nat:=(l.map fun f=>f.1.size).sum
theorem dW (x:Ty.den aD) (l:bN):dz (x::l)=x.2.1.size+dz l:=by unfold dz;rw [List.map_cons,List.sum_cons]
theorem sN:dz []=0:=rfl
theorem kw (x:Ty.den aD) (l:bN):ik (x::l)=x.1.size+ik l:=by unfold ik;rw [List.map_cons,List.sum_cons]
theorem tE:∀ l m:bN,dz (l++m)=dz l+dz m
 | [],m=>by rw [List.nil_append,sN,Nat.zero_add]
 | x::l,m=>by rw [List.cons_append,dW,dW,tE l m];omega
theorem nR {l:bN} {x:Ty.den aD} (h:x ∈ l):x.2.1.size≤dz l:=by
 induction l with
 | nil=>cases h
 | cons y l ih =>
  rw [dW]
  rcases List.mem_cons.1 h with e | e
  · subst e;omega
  · have:=ih e;omega
theorem n5 {l:bN} {x:Ty.den aD} (h:x ∈ l):x.1.size≤ik l:=by
 induction l with
 | nil=>cases h
 | cons y l ih =>
  rw [kw]
  rcases List.mem_cons.1 h with e | e
  · subst e;omega
  · have:=ih e;omega
def mg (p:Option (Ty.den aD)) (x:Ty.den aD):Bool :=
 jZ x.1&&(decide ((0:Int)≤x.2.2.1∧x.2.2.1≤(x.2.1.size:Int))&&(match p with | none=>true | some y=>lZ y.1 x.1))
def iB (d:Ty.den a_):Bool :=
 decide (d.1.length≤130)&&(decide ((0:Int)≤d.2.1∧d.2.1≤(100000:Int))&&(decide ((-1:Int)≤d.2.2.1∧d.2.2.1≤(100000:Int))&&(decide ((dz d.1:Int)≤d.2.1)&&ph mg none d.1)))
theorem nw {k:Nat} (hk:2 ^ 50≤k) {d:Ty.den a_} (hl:d.1.length≤1099511627776) (hu:dz d.1≤1099511627776):dQ.f k d=some ((dz d.1:Int),()):=by
 unfold dQ.f dQ.t
 refine (eV (L:=fun n i s=>dQ.l0 k n s i d.1 d.2.1 d.2.2.1 d.2.2.2.1) (R:=fun r s=>some (s+(dz r:Int),())) (Ty.dflt aD) d.1 (fun i s=>0≤s∧s+(dz (d.1.drop i.toNat):Int)≤1099511627776) (fun n s hs=>?_) (fun n i s x rest h0 h1 hx hr hp ih=>?_) (n:=k) (s:=0) (by omega) ⟨by omega,by rw [show d.1.drop (Int.toNat 0)=d.1 from rfl];omega⟩).trans (by rw [Int.zero_add])
 · simp (disch:=omega) only [dQ.l0,dQ.b0,aQ,aK]
   show some (s,())=some (s+((0:Nat):Int),())
   rw [show s+((0:Nat):Int)=s by omega]
 · have hrest:d.1.drop (i+1).toNat=rest:=by
    have:=congrArg (List.drop 1) hr
    rw [List.drop_drop,List.drop_one,List.tail_cons] at this
    rw [show (i+1).toNat=i.toNat+1 by omega]
    exact this
   rw [hr,dW] at hp
   have ih:=ih (s+(x.2.1.size:Int)) ⟨by omega,by rw [hrest];omega⟩
   simp (disch:=omega) only [dQ.l0,dQ.b0,aM h1,aX,aG,hx,aE,ih]
   rw [show s+(x.2.1.size:Int)+(dz rest:Int)=s+((x.2.1.size+dz rest:Nat):Int) by omega]
   show _=some (s+((dz (x::rest):Nat):Int),())
   rw [dW]
theorem lB {k:Nat} (hk:2 ^ 50≤k) {d:Ty.den a_} (hu:dz d.1≤1099511627776) (hn:ik d.1≤1099511627776):bn.f k d=some (iB d,()):=by
 unfold bn.f bn.t iB
 by_cases c:d.1.length > 130
 · rw [aM (by omega),aX,aQ (by omega),Bool.false_and]
 · rw [aQ (by omega),aK,aM (by omega),Bool.true_and,g_,aT]
   cases decide ((0:Int)≤d.2.1∧d.2.1≤(100000:Int)) with
   | false=>rfl
   | true =>
    rw [fb,aK,g_,aT,Bool.true_and]
    cases decide ((-1:Int)≤d.2.2.1∧d.2.2.1≤(100000:Int)) with
    | false=>rfl
    | true =>
     rw [fb,aK,nw hk (by omega) hu,aT,Bool.true_and]
     simp only []
     by_cases cu:(dz d.1:Int) > d.2.1
     · rw [aM cu,aX,aQ (by omega),Bool.false_and]
     · rw [aQ cu,aK,aM (by omega),Bool.true_and]
       refine (pT (L:=fun n i=>bn.l0 k n i d.1 d.2.1 d.2.2.1 d.2.2.2.1) (Ty.dflt aD) d.1 mg (some (true,())) (some (false,())) (fun n=>?_) (fun n x h hx=>?_) (fun n i x y h0 h1 hx hy=>?_) (n:=k) (by omega)).trans (by cases ph mg none d.1 <;> rfl)
       · simp (disch:=omega) only [bn.l0,bn.b0,aQ,aK]
       · have hm:x ∈ d.1:=by rw [← hx];exact iP (by omega)
         have hs:=n5 hm
         simp (disch:=omega) only [bn.l0,bn.b0,aM (show (0:Int)<(d.1.length:Int) by omega),aX,aG,hx,nr hk,g_ k,aT,aQ (show ¬ (0:Int) > 0 by omega),aK,aE,mg]
         cases jZ x.1 <;> cases decide ((0:Int)≤x.2.2.1∧x.2.2.1≤(x.2.1.size:Int)) <;> rfl
       · have hm:x ∈ d.1:=by rw [← hx];exact iP (by omega)
         have hs:=n5 hm
         simp (disch:=omega) only [bn.l0,bn.b0,aM h1,aX,aG,hx,hy,nr hk,g_ k,aT,aM (show i > 0 by omega),aK,aE,mg,lA]
         cases jZ x.1 <;> cases decide ((0:Int)≤x.2.2.1∧x.2.2.1≤(x.2.1.size:Int)) <;> cases lZ y.1 x.1 <;> rfl
theorem zB {l:bN} {i:Nat} {x:Ty.den aD} (h:i<l.length) (hx:l.getD i (Ty.dflt aD)=x):dz (l.take (i+1))=dz (l.take i)+x.2.1.size:=by
 rw [List.take_add_one,tE]
 congr 1
 simp only [List.getD,List.getElem?_eq_getElem h,Option.getD_some] at hx
 rw [List.getElem?_eq_getElem h,hx]
 show dz [x]=_
 rw [dW,sN,Nat.add_zero]
theorem sn (l:bN) (i:Nat):dz (l.take i)≤dz l:=by
 have:=tE (l.take i) (l.drop i)
 rw [List.take_append_drop] at this
 omega
theorem k9 {k:Nat} (hk:2 ^ 50≤k) {d:Ty.den a_} (hu:dz d.1≤1099511627776) (hn:ik d.1≤1099511627776):bV.f k d=some (iB d,()):=by
 unfold bV.f bV.t iB
 by_cases c:d.1.length > 130
 · rw [aM (by omega),aX,aQ (by omega),Bool.false_and]
 · rw [aQ (by omega),aK,aM (by omega),Bool.true_and,me,aT]
   cases decide ((0:Int)≤d.2.1∧d.2.1≤(100000:Int)) with
   | false=>rfl
   | true =>
    rw [fb,aK,me,aT,Bool.true_and]
    cases decide ((-1:Int)≤d.2.2.1∧d.2.2.1≤(100000:Int)) with
    | false=>rfl
    | true =>
     rw [fb,aK,Bool.true_and]
     refine (pT (L:=fun n i=>bV.l0 k n (dz (d.1.take i.toNat):Int) d.1 d.1.length i d.1 d.2.1 d.2.2.1 d.2.2.2.1) (Ty.dflt aD) d.1 mg (some (decide ((dz d.1:Int)≤d.2.1),())) (some (false,())) (fun n=>?_) (fun n x h hx=>?_) (fun n i x y h0 h1 hx hy=>?_) (n:=k) (by omega)).trans
      (by cases ph mg none d.1 <;> cases decide ((dz d.1:Int)≤d.2.1) <;> rfl)
     · rw [Int.toNat_natCast,List.take_length]
       simp (disch:=omega) only [bV.l0,bV.b0,aQ,aK]
     · have hm:x ∈ d.1:=by rw [← hx];exact iP (by omega)
       have hs:=n5 hm
       have ht:=zB (l:=d.1) (i:=0) h hx
       have hle:=sn d.1 0
       have hz:=nR hm
       rw [show Int.toNat 1=0+1 from rfl,ht]
       simp only [show Int.toNat 0=0 from rfl] at hx ⊢
       simp (disch:=omega) only [bV.l0,bV.b0,aM (show (0:Int)<(d.1.length:Int) by omega),aX,aG,show Int.toNat 0=0 from rfl,hx,oD hk,me k,aT,aQ (show ¬ (0:Int) > 0 by omega),aK,aE,mg]
       rw [show (dz (d.1.take 0):Int)+(x.2.1.size:Int)=((dz (d.1.take 0)+x.2.1.size:Nat):Int) by omega]
       cases jZ x.1 <;> cases decide ((0:Int)≤x.2.2.1∧x.2.2.1≤(x.2.1.size:Int)) <;> rfl
     · have hm:x ∈ d.1:=by rw [← hx];exact iP (by omega)
       have hs:=n5 hm
       have ht:=zB (l:=d.1) (i:=i.toNat) (by omega) hx
       have hle:=sn d.1 i.toNat
       have hz:=nR hm
       rw [show Int.toNat (i+1)=i.toNat+1 by omega,ht]
       simp (disch:=omega) only [bV.l0,bV.b0,aM h1,aX,aG,hx,hy,oD hk,me k,aT,aM (show i > 0 by omega),aK,aE,mg]
       rw [show (dz (d.1.take i.toNat):Int)+(x.2.1.size:Int)=((dz (d.1.take i.toNat)+x.2.1.size:Nat):Int) by omega]
       cases jZ x.1 <;> cases decide ((0:Int)≤x.2.2.1∧x.2.2.1≤(x.2.1.size:Int)) <;> cases lZ y.1 x.1 <;> rfl
def kf:bN→ByteArray→Int→Int
 | [],_,_ => -1
 | f::l,s,i=>bif seq f.1 s then i else kf l s (i+1)
def bi:bN→ByteArray→Option (Ty.den aD)
 | [],_=>none
 | f::l,s=>bif seq f.1 s then some f else bi l s
theorem tC:∀ (l:bN) (s:ByteArray) (i:Int),(bi l s=none∧kf l s i = -1)∨(∃ f,bi l s=some f∧i≤kf l s i∧kf l s i<i+(l.length:Int)∧l.getD (kf l s i-i).toNat (Ty.dflt aD)=f∧f ∈ l)
 | [],s,i => .inl ⟨rfl,rfl⟩
 | f::l,s,i=>by
  unfold kf bi
  cases c:seq f.1 s with
  | true=>exact .inr ⟨f,rfl,Int.le_refl _,by rw [aX,lP];omega,by rw [aX,show (i-i).toNat=0 by omega];rfl,oX ..⟩
  | false =>
   rw [aK,aK]
   rcases tC l s (i+1) with h | ⟨g,h1,h2,h3,h4,h5⟩
   · exact .inl h
   · refine .inr ⟨g,h1,by omega,by rw [lP];omega,?_,qS _ h5⟩
     rw [show (kf l s (i+1)-i).toNat=(kf l s (i+1)-(i+1)).toNat+1 by omega]
     exact h4
theorem iC {k:Nat} (hk:2 ^ 50≤k) {d:Ty.den a_} (hl:d.1.length≤1099511627776) (s:ByteArray):bD.f k d s=some (kf d.1 s 0,()):=by
 unfold bD.f bD.t
 refine eV (L:=fun n i (_:Int)=>bD.l0 k n s i d.1 d.2.1 d.2.2.1 d.2.2.2.1) (R:=fun r j=>some (kf r s j,())) (Ty.dflt aD) d.1 (fun i j=>j=i) (fun n j hj=>?_) (fun n i j x rest h0 h1 hx hr hp ih=>?_) (n:=k) (s:=0) (by omega) rfl
 · simp (disch:=omega) only [bD.l0,bD.b0,aQ,aK,kf]
 · have ih:=ih (i+1) rfl
   subst hp
   simp (disch:=omega) only [bD.l0,bD.b0,aM h1,aX,aG,hx,aE,ih,kf]
   cases seq x.1 s <;> rfl
theorem jO {k:Nat} (hk:2 ^ 50≤k) {d:Ty.den a_} (hl:d.1.length≤1099511627776) (s:ByteArray):bT.f k d s=some (kf d.1 s 0,()):=by
 unfold bT.f bT.t
 refine eV (L:=fun n i (_:Int)=>bT.l0 k n s d.1 d.1.length i) (R:=fun r j=>some (kf r s j,())) (Ty.dflt aD) d.1 (fun i j=>j=i) (fun n j hj=>?_) (fun n i j x rest h0 h1 hx hr hp ih=>?_) (n:=k) (s:=0) (by omega) rfl
 · simp (disch:=omega) only [bT.l0,bT.b0,aQ,aK,kf]
 · have ih:=ih (i+1) rfl
   subst hp
   simp (disch:=omega) only [bT.l0,bT.b0,aM h1,aX,aG,hx,aE,ih,kf]
   cases seq x.1 s <;> rfl
def ao (d:Ty.den a_) (s:ByteArray):ByteArray × Bool :=
 bif iB d then (match bi d.1 s with | none=>(⟨#[]⟩,false) | some f=>(f.2.1,true)) else (⟨#[]⟩,false)
theorem gX (d:Ty.den a_) (s:ByteArray):(ao d s).1.size≤dz d.1:=by
 unfold ao
 cases iB d with
 | false=>exact Nat.zero_le _
 | true =>
  rw [aX]
  rcases tC d.1 s 0 with h | ⟨f,h1,_,_,_,h5⟩
  · rw [h.1];exact Nat.zero_le _
  · rw [h1];exact nR h5
theorem gI {k:Nat} (hk:2 ^ 50≤k) {d:Ty.den a_} (hl:d.1.length≤1099511627776) (hu:dz d.1≤1099511627776) (hn:ik d.1≤1099511627776) (s:ByteArray) :
 bJ.f k d s=some ((ao d s).1,((ao d s).2,())):=by
 unfold bJ.f bJ.t ao
 rw [lB hk hu hn,aT]
 cases iB d with
 | false=>rfl
 | true =>
  rw [iC hk hl]
  simp only [aT,fb,aK,aX]
  rcases tC d.1 s 0 with h | ⟨f,h1,h2,h3,h4,h5⟩
  · rw [h.1,h.2];rfl
  · rw [h1,aQ (by omega),aK,aG h2 (by omega)]
    rw [Int.sub_zero] at h4
    rw [h4]
theorem qJ {k:Nat} (hk:2 ^ 50≤k) {d:Ty.den a_} (hl:d.1.length≤1099511627776) (hu:dz d.1≤1099511627776) (hn:ik d.1≤1099511627776) (s:ByteArray) :
 fP.f k d s=some ((ao d s).1,((ao d s).2,())):=by
 unfold fP.f fP.t ao
 rw [jO hk hl,aT]
 simp only []
 rcases tC d.1 s 0 with h | ⟨f,h1,h2,h3,h4,h5⟩
 · rw [h.1,h.2]
   cases iB d <;> rfl
 · rw [h1,aQ (by omega),aK,k9 hk hu hn,aT]
   cases iB d with
   | false=>rfl
   | true =>
    simp only [fb,aK,aX]
    rw [aG h2 (by omega)]
    rw [Int.sub_zero] at h4
    rw [h4]
def aB (p:ByteArray) (n:Int):ByteArray:=bif decide ((1:Int)≤n∧n≤100000) then p++gM n else ⟨#[]⟩
def aI:ByteArray:=⟨#[115,101,103]⟩
theorem bK {k:Nat} (hk:2 ^ 50≤k) (n:Int):aS.f k n=some (aB aI n,()):=by
 unfold aS.f aS.t aB
 rw [g_,aT]
 by_cases c:(1:Int)≤n∧n≤100000
 · have hz:=l7 (n:=n) (by omega) (by omega)
   rw [aM c]
   simp only [fb,aK,aX]
   rw [lu hk (by omega) (by omega),aT,da (by show 3+(gM n).size≤_;omega)]
   rfl
 · rw [aQ c]
   rfl
theorem zG (k:Nat) {p:ByteArray} (hp:p.size≤1000) (n:Int):ju.f k p n=some (aB p n,()):=by
 unfold ju.f ju.t aB
 rw [me,aT]
 by_cases c:(1:Int)≤n∧n≤100000
 · have hz:=l7 (n:=n) (by omega) (by omega)
   rw [aM c]
   simp only [fb,aK,aX]
   rw [DP k (by omega) (by omega),aT,da (by show p.size+(gM n).size≤_;omega)]
 · rw [aQ c]
   rfl
theorem jy (k:Nat) (n:Int):dS.f k n=some (aB aI n,()):=by
 unfold dS.f dS.t
 rw [zG k (by decide) n]
 rfl
structure uF (d:Ty.den a_):Prop where
 l:d.1.length≤1073741824
 u:dz d.1≤1073741824
 n:ik d.1≤1073741824
end Go.Proofs.YtdbekilnpjmeaaaGreatDoor.G
namespace Go.V
theorem wi:∀ a b c:List UInt8,Op.bytesLess a b=true→Op.bytesLess b c=true→Op.bytesLess a c=true
 | a,b,[],_,h2=>by cases b <;> simp [Op.bytesLess] at h2
 | [],b,z::c,_,_=>by simp [Op.bytesLess]
 | x::a,[],z::c,h1,_=>by simp [Op.bytesLess] at h1
 | x::a,y::b,z::c,h1,h2=>by
  simp only [Op.bytesLess] at h1 h2 ⊢
  have ih:=wi a b c
  simp only [Bool.or_eq_true,im,decide_eq_true_eq,beq_iff_eq] at h1 h2 ⊢
  rcases h1 with g1 | ⟨rfl,g1⟩
  · rcases h2 with g2 | ⟨rfl,g2⟩
    · exact Or.inl (UInt8.lt_trans g1 g2)
    · exact Or.inl g1
  · rcases h2 with g2 | ⟨rfl,g2⟩
    · exact Or.inl g2
    · exact Or.inr ⟨rfl,ih g1 g2⟩
theorem om {a b c:ByteArray} (h1:lZ a b=true) (h2:lZ b c=true):lZ a c=true:=wi _ _ _ h1 h2
theorem pX (a:ByteArray):lZ a a=false:=by
 have:=lA a a
 rw [c9] at this
 cases h:lZ a a with
 | false=>rfl
 | true=>rw [h] at this;cases this
theorem FC {a b:ByteArray} (h:lZ a b=true):lZ b a=false:=by
 cases c:lZ b a with
 | false=>rfl
 | true=>have:=om h c;rw [pX] at this;cases this
def dO (K:List ByteArray):Prop:=K.Pairwise (fun a b=>lZ a b=true)
end Go.V
namespace Go.Proofs.YtdbekilnpjmeaaaGreatDoor.G
open Go.V
def jx:bN→Ty.den aD→bN
 | [],f=>[f]
 | g::l,f=>bif lZ f.1 g.1 then f::g::l else g::jx l f
def h_:bN→ByteArray→bN
 | [],_=>[]
 | g::l,s=>bif seq g.1 s then l else g::h_ l s
def m8 (h:Ty.den aD→Ty.den aD):bN→ByteArray→bN
 | [],_=>[]
 | g::l,s=>bif seq g.1 s then h g::l else g::m8 h l s
def jm (d:Ty.den a_):Ty.den a_ × Int :=
 bif !iB d then (d,5) else bif d.2.2.2.1 then ((d.1,(d.2.1,(d.2.2.1,(true,())))),1) else bif (d.2.2.1==0) then ((d.1,(d.2.1,(d.2.2.1,(true,())))),1) else
 bif decide ((d.2.2.1:Int) > 0) then ((d.1,(d.2.1,(aH (d.2.2.1-1),d.2.2.2))),0) else (d,0)
def iD (d:Ty.den a_) (g:bN→Int→bN × Int):Ty.den a_ × Int :=
 bif (jm d).2 != 0 then jm d else (((g d.1 d.2.1).1,(jm d).1.2),(g d.1 d.2.1).2)
def wH (s:ByteArray) (l:bN) (c:Int):bN × Int :=
 bif !jZ s then (l,5) else bif (bi l s).isSome then (l,4) else bif decide ((l.length:Int)≥130) then (l,2) else (jx l (s,(ByteArray.empty,(0,()))),0)
def wn (s t:ByteArray) (l:bN) (c:Int):bN × Int :=
 bif (bi l s).isNone then (l,3) else bif decide ((t.size:Int) > aH (c-(dz l:Int))) then (l,2) else (m8 (fun f=>(f.1,(f.2.1++t,f.2.2))) l s,0)
def xp (s:ByteArray) (l:bN) (c:Int):bN × Int :=
 bif (bi l s).isNone then (l,3) else (m8 (fun f=>(f.1,(f.2.1,((f.2.1.size:Int),f.2.2.2)))) l s,0)
def uw (a b:ByteArray) (l:bN) (c:Int):bN × Int :=
 bif !jZ b then (l,5) else match bi l a with
 | none=>(l,3)
 | some f=>bif seq a b then (l,0) else (jx (h_ (h_ l a) b) (b,f.2),0)
def xm (s:ByteArray) (l:bN) (c:Int):bN × Int :=
 bif (bi l s).isNone then (l,3) else (h_ l s,0)
def I1 (s:ByteArray) (n:Int) (l:bN) (c:Int):bN × Int :=
 match bi l s with
 | none=>(l,3)
 | some f=>bif !decide (0≤n∧n≤(f.2.1.size:Int)) then (l,5) else (m8 (fun f=>(f.1,(ByteArray.extract f.2.1 0 n.toNat,((if n<f.2.2.1 then n else f.2.2.1),f.2.2.2)))) l s,0)
def tr (d:Ty.den a_) (s:ByteArray):=iD d (wH s)
def fq (d:Ty.den a_) (s t:ByteArray):=iD d (wn s t)
def eA (d:Ty.den a_) (s:ByteArray):=iD d (xp s)
def su (d:Ty.den a_) (a b:ByteArray):=iD d (uw a b)
def ry (d:Ty.den a_) (s:ByteArray):=iD d (xm s)
def Ca (d:Ty.den a_) (s:ByteArray) (n:Int):=iD d (I1 s n)
theorem pC (d:Ty.den a_):(jm d).1.1=d.1:=by
 unfold jm
 cases iB d <;> cases d.2.2.2.1 <;> cases d.2.2.1==0 <;> cases decide ((d.2.2.1:Int) > 0) <;> rfl
theorem G3 (d:Ty.den a_):(jm d).1.2.1=d.2.1:=by
 unfold jm
 cases iB d <;> cases d.2.2.2.1 <;> cases d.2.2.1==0 <;> cases decide ((d.2.2.1:Int) > 0) <;> rfl
theorem gf:∀ (l:bN) (s:ByteArray) (j:Int),(bi l s=none∧kf l s j = -1∧h_ l s=l∧∀ h,m8 h l s=l) ∨
 (∃ n:Nat,n<l.length∧kf l s j=j+n∧bi l s=some (l.getD n (Ty.dflt aD))∧l.take n++l.drop (n+1)=h_ l s∧(l.getD n (Ty.dflt aD)).1=s∧(∀ h,l.set n (h (l.getD n (Ty.dflt aD)))=m8 h l s))
 | [],s,j => .inl ⟨rfl,rfl,rfl,fun _=>rfl⟩
 | g::l,s,j=>by
  unfold kf bi h_ m8
  cases c:seq g.1 s with
  | true =>
   refine .inr ⟨0,by rw [lP];omega,?_,rfl,rfl,eT.1 c,fun h=>rfl⟩
   show j=j+((0:Nat):Int)
   omega
  | false =>
   simp only [aK]
   rcases gf l s (j+1) with ⟨h1,h2,h3,h4⟩ | ⟨n,h1,h2,h3,h4,h5,h6⟩
   · exact .inl ⟨h1,h2,by rw [h3],fun h=>by rw [h4]⟩
   · refine .inr ⟨n+1,by rw [lP];omega,by rw [h2];omega,h3,?_,h5,fun h=>?_⟩
     · rw [List.take_succ_cons,List.drop_succ_cons,List.cons_append,h4]
     · show g::l.set n (h (l.getD n (Ty.dflt aD)))=_
       rw [h6]
def FO (f:Ty.den aD):Prop:=jZ f.1=true∧LE.le (α:=Int) 0 f.2.2.1∧LE.le (α:=Int) f.2.2.1 f.2.1.size
def kc (l:bN):List ByteArray:=l.map (·.1)
theorem Ay:∀ (l:bN) (p:Option (Ty.den aD)),ph mg p l=true↔((∀ f ∈ l,FO f)∧dO (kc l)∧(∀ q,p=some q→∀ f ∈ l,lZ q.1 f.1=true))
 | [],p=>by
  constructor
  · intro _
    exact ⟨fun f h=>(by cases h),List.Pairwise.nil,fun q _ f h=>(by cases h)⟩
  · intro _;rfl
 | g::l,p=>by
  have ih:=Ay l (some g)
  unfold ph
  rw [im,ih]
  have hf:mg p g=true↔(FO g∧(∀ q,p=some q→lZ q.1 g.1=true)):=by
   unfold mg FO
   rw [im,im,decide_eq_true_eq]
   cases p with
   | none=>exact ⟨fun h=>⟨⟨h.1,h.2.1⟩,fun q hq=>(by cases hq)⟩,fun h=>⟨h.1.1,h.1.2,rfl⟩⟩
   | some q=>exact ⟨fun h=>⟨⟨h.1,h.2.1⟩,fun q' hq=>(by cases hq;exact h.2.2)⟩,fun h=>⟨h.1.1,h.1.2,h.2 q rfl⟩⟩
  rw [hf]
  constructor
  · rintro ⟨⟨h1,h2⟩,h3,h4,h5⟩
    refine ⟨fun f hf=>?_,?_,fun q hq f hf=>?_⟩
    · rcases List.mem_cons.1 hf with e | e
      · rw [e];exact h1
      · exact h3 f e
    · unfold dO kc
      rw [List.map_cons,List.pairwise_cons]
      refine ⟨fun x hx=>?_,h4⟩
      obtain ⟨f,hf,rfl⟩:=List.mem_map.1 hx
      exact h5 g rfl f hf
    · rcases List.mem_cons.1 hf with e | e
      · rw [e];exact h2 q hq
      · exact om (h2 q hq) (h5 g rfl f e)
  · rintro ⟨h1,h2,h3⟩
    unfold dO kc at h2
    rw [List.map_cons,List.pairwise_cons] at h2
    refine ⟨⟨h1 g (oX ..),fun q hq=>h3 q hq g (oX ..)⟩,fun f hf=>h1 f (qS _ hf),h2.2,fun q hq f hf=>?_⟩
    cases hq
    exact h2.1 f.1 (List.mem_map.2 ⟨f,hf,rfl⟩)
structure DR (d:Ty.den a_):Prop where
 len:d.1.length≤130
 cap0:LE.le (α:=Int) 0 d.2.1
 cap1:LE.le (α:=Int) d.2.1 100000
 fu0:LE.le (α:=Int) (-1) d.2.2.1
 fu1:LE.le (α:=Int) d.2.2.1 100000
 use:LE.le (α:=Int) (dz d.1) d.2.1
 all:∀ f ∈ d.1,FO f
 keys:dO (kc d.1)
theorem hZ {d:Ty.den a_}:iB d=true↔DR d:=by
 unfold iB
 rw [im,im,im,im,decide_eq_true_eq,decide_eq_true_eq,decide_eq_true_eq,decide_eq_true_eq,Ay]
 constructor
 · rintro ⟨h1,⟨h2,h3⟩,⟨h4,h5⟩,h6,h7,h8,_⟩
   exact ⟨h1,h2,h3,h4,h5,h6,h7,h8⟩
 · intro h
   exact ⟨h.len,⟨h.cap0,h.cap1⟩,⟨h.fu0,h.fu1⟩,h.use,h.all,h.keys,fun q hq=>(by cases hq)⟩
theorem Cz {s:ByteArray} (h:jZ s=true):1≤s.size∧s.size≤12:=by
 unfold jZ at h
 rw [im,decide_eq_true_eq] at h
 exact h.2
theorem sx:∀ l:bN,(∀ f ∈ l,FO f)→ik l≤12*l.length
 | [],_=>Nat.le_refl _
 | f::l,h=>by
  have:=sx l fun g hg=>h g (qS _ hg)
  have:=(Cz (h f (oX ..)).1).2
  rw [kw,lP]
  omega
theorem DR.sz {d:Ty.den a_} (h:DR d):uF d:=by
 have h1:=h.len
 have h2:=h.use
 have h3:=h.cap1
 have h4:=sx d.1 h.all
 exact ⟨by omega,by omega,by omega⟩
theorem A7 {l:bN} {f x:Ty.den aD}:x ∈ jx l f↔x=f∨x ∈ l:=by
 induction l with
 | nil=>simp [jx]
 | cons g l ih =>
  unfold jx
  cases lZ f.1 g.1
  · simp only [aK,List.mem_cons,ih]
    exact ⟨fun h=>h.elim (fun q => .inr (.inl q)) (fun q=>q.elim .inl (fun q => .inr (.inr q))),fun h=>h.elim (fun q => .inr (.inl q)) (fun q=>q.elim .inl (fun q => .inr (.inr q)))⟩
  · simp only [aX,List.mem_cons]
theorem ml:∀ (l:bN) (s:ByteArray),(h_ l s).Sublist l
 | [],s=>List.Sublist.slnil
 | g::l,s=>by
  unfold h_
  cases seq g.1 s
  · exact (ml l s).cons_cons g
  · exact (List.Sublist.refl l).cons g
theorem Dt {h:Ty.den aD→Ty.den aD} (hh:∀ f,(h f).1=f.1):∀ (l:bN) (s:ByteArray),kc (m8 h l s)=kc l
 | [],s=>rfl
 | g::l,s=>by
  unfold m8
  cases seq g.1 s
  · show g.1::kc (m8 h l s)=g.1::kc l
    rw [Dt hh l s]
  · show (h g).1::kc l=g.1::kc l
    rw [hh]
theorem wa {h:Ty.den aD→Ty.den aD} (hh:∀ f,(h f).1=f.1) {l:bN} {s:ByteArray} (hk:dO (kc l)):dO (kc (m8 h l s)):=by
 rw [Dt hh]
 exact hk
theorem vK {h:Ty.den aD→Ty.den aD}:∀ {l:bN} {s:ByteArray} {x:Ty.den aD},x ∈ m8 h l s→x ∈ l∨∃ f,bi l s=some f∧x=h f
 | [],s,x,hx => .inl hx
 | g::l,s,x,hx=>by
  unfold m8 at hx
  unfold bi
  cases c:seq g.1 s with
  | true =>
   rw [c,aX] at hx
   rcases List.mem_cons.1 hx with e | e
   · exact .inr ⟨g,rfl,e⟩
   · exact .inl (qS _ e)
  | false =>
   rw [c,aK] at hx
   rcases List.mem_cons.1 hx with e | e
   · exact .inl (by rw [e];exact oX ..)
   · rcases vK e with q | ⟨f,q1,q2⟩
     · exact .inl (qS _ q)
     · exact .inr ⟨f,q1,q2⟩
theorem tJ {h:Ty.den aD→Ty.den aD}:∀ {l:bN} {s:ByteArray} {f:Ty.den aD},bi l s=some f→dz (m8 h l s)+f.2.1.size=dz l+(h f).2.1.size
 | [],s,f,hf=>by cases hf
 | g::l,s,f,hf=>by
  unfold bi at hf
  unfold m8
  cases c:seq g.1 s with
  | true =>
   rw [c] at hf
   cases hf
   rw [aX,dW,dW]
   omega
  | false =>
   rw [c] at hf
   have:=tJ (h:=h) hf
   rw [aK,dW,dW]
   omega
theorem wI:∀ (l:bN) (f:Ty.den aD),dz (jx l f)=dz l+f.2.1.size
 | [],f=>by unfold jx;rw [dW,sN,Nat.add_comm]
 | g::l,f=>by
  unfold jx
  cases lZ f.1 g.1
  · rw [aK,dW,dW,wI l f];omega
  · rw [aX,dW,dW];omega
theorem we:∀ {l:bN} {s:ByteArray} {f:Ty.den aD},bi l s=some f→dz (h_ l s)+f.2.1.size=dz l
 | [],s,f,hf=>by cases hf
 | g::l,s,f,hf=>by
  unfold bi at hf
  unfold h_
  cases c:seq g.1 s with
  | true=>rw [c] at hf;cases hf;rw [aX,dW];omega
  | false =>
   rw [c] at hf
   have:=we hf
   rw [aK,dW,dW]
   omega
theorem ub (l:bN) (s:ByteArray):dz (h_ l s)≤dz l:=by
 cases h:bi l s with
 | some f=>have:=we h;omega
 | none =>
  rcases gf l s 0 with ⟨_,_,h3,_⟩ | ⟨n,_,_,h3,_⟩
  · rw [h3];exact Nat.le_refl _
  · rw [h] at h3;cases h3
theorem AK:∀ (l:bN) (f:Ty.den aD),(jx l f).length=l.length+1
 | [],f=>rfl
 | g::l,f=>by
  unfold jx
  cases lZ f.1 g.1
  · rw [aK,lP,AK l f,lP]
  · rw [aX,lP,lP]
theorem vG (h:Ty.den aD→Ty.den aD):∀ (l:bN) (s:ByteArray),(m8 h l s).length=l.length
 | [],s=>rfl
 | g::l,s=>by
  unfold m8
  cases seq g.1 s
  · rw [aK,lP,vG h l s,lP]
  · rw [aX,lP,lP]
theorem mE:∀ {l:bN} {s:ByteArray} {f:Ty.den aD},bi l s=some f→f ∈ l∧f.1=s
 | [],s,f,h=>by cases h
 | g::l,s,f,h=>by
  unfold bi at h
  cases c:seq g.1 s with
  | true=>rw [c] at h;cases h;exact ⟨oX ..,eT.1 c⟩
  | false =>
   rw [c] at h
   exact ⟨qS _ (mE h).1,(mE h).2⟩
theorem nE:∀ {l:bN} {s:ByteArray},bi l s=none↔∀ f ∈ l,f.1≠s
 | [],s=>⟨fun _ f h=>(by cases h),fun _=>rfl⟩
 | g::l,s=>by
  unfold bi
  cases c:seq g.1 s with
  | true =>
   constructor
   · intro h;cases h
   · intro h;exact absurd (eT.1 c) (h g (oX ..))
  | false =>
   rw [aK,nE]
   constructor
   · intro h f hf
     rcases List.mem_cons.1 hf with e | e
     · rw [e];intro q;rw [IW q] at c;cases c
     · exact h f e
   · intro h f hf;exact h f (qS _ hf)
theorem wr {f:Ty.den aD}:∀ {l:bN},dO (kc l)→(∀ g ∈ l,g.1≠f.1)→dO (kc (jx l f))
 | [],_,_=>by unfold jx;exact List.pairwise_singleton ..
 | g::l,h,hn=>by
  unfold dO kc at h
  rw [List.map_cons,List.pairwise_cons] at h
  unfold jx
  cases c:lZ f.1 g.1 with
  | true =>
   rw [aX]
   unfold dO kc
   rw [List.map_cons,List.pairwise_cons]
   refine ⟨fun x hx=>?_,by rw [List.map_cons,List.pairwise_cons];exact h⟩
   rw [List.map_cons] at hx
   rcases List.mem_cons.1 hx with e | e
   · rw [e];exact c
   · exact om c (h.1 x e)
  | false =>
   rw [aK]
   have ih:=wr (f:=f) (l:=l) h.2 fun g' hg=>hn g' (qS _ hg)
   unfold dO kc
   rw [List.map_cons,List.pairwise_cons]
   refine ⟨fun x hx=>?_,ih⟩
   obtain ⟨y,hy,rfl⟩:=List.mem_map.1 hx
   rcases A7.1 hy with e | e
   · rw [e]
     have ht:=lA g.1 f.1
     rw [c,kh (hn g (oX ..))] at ht
     cases q:lZ g.1 f.1 with
     | true=>rfl
     | false=>rw [q] at ht;cases ht
   · exact h.1 y.1 (List.mem_map.2 ⟨y,e,rfl⟩)
theorem ql {l m:bN} (h:m.Sublist l) (hk:dO (kc l)):dO (kc m):=List.Pairwise.sublist (h.map _) hk
theorem Ic {l:bN} (hk:dO (kc l)) {s:ByteArray} {f:Ty.den aD} (h:bi l s=some f):bi (h_ l s) s=none:=by
 induction l with
 | nil=>cases h
 | cons g l ih =>
  unfold dO kc at hk
  rw [List.map_cons,List.pairwise_cons] at hk
  unfold bi at h
  unfold h_
  cases c:seq g.1 s with
  | true =>
   rw [aX,nE]
   intro x hx e
   have:=hk.1 x.1 (List.mem_map.2 ⟨x,hx,rfl⟩)
   rw [e,eT.1 c,pX] at this
   cases this
  | false =>
   rw [c] at h
   rw [aK]
   unfold bi
   rw [c,aK]
   exact ih hk.2 h
theorem qd {l:bN} (hk:dO (kc l)) (s:ByteArray):bi (h_ l s) s=none:=by
 cases h:bi l s with
 | some f=>exact Ic hk h
 | none =>
  rcases gf l s 0 with ⟨h1,_,h3,_⟩ | ⟨n,_,_,h3,_⟩
  · rw [h3];exact h1
  · rw [h] at h3;cases h3
def GR (g:bN→Int→bN × Int):Prop:=∀ l c,l.length≤130→(0:Int)≤c→c≤100000→(dz l:Int)≤c→(∀ f ∈ l,FO f)→dO (kc l) →
 (g l c).1.length≤130∧(dz (g l c).1:Int)≤c∧(∀ f ∈ (g l c).1,FO f)∧dO (kc (g l c).1)
theorem Ih {d:Ty.den a_} (h:DR d):DR (jm d).1:=by
 have hd:=hZ.2 h
 have g0:=h.fu0
 have g1:=h.fu1
 unfold jm
 rw [hd]
 cases c1:d.2.2.2.1 with
 | true=>exact ⟨h.len,h.cap0,h.cap1,h.fu0,h.fu1,h.use,h.all,h.keys⟩
 | false =>
  cases c2:d.2.2.1==0 with
  | true=>exact ⟨h.len,h.cap0,h.cap1,h.fu0,h.fu1,h.use,h.all,h.keys⟩
  | false =>
   by_cases c3:(d.2.2.1:Int) > 0
   · have e:∀ x:Int,x > 0→x≤100000 → -1≤aH (x-1)∧aH (x-1)≤100000:=fun x q1 q2=>by
      rw [aE (by omega) (by omega)]
      omega
     have e:=e d.2.2.1 c3 g1
     rw [aM c3]
     exact ⟨h.len,h.cap0,h.cap1,e.1,e.2,h.use,h.all,h.keys⟩
   · rw [aQ c3]
     exact h
theorem qu {g:bN→Int→bN × Int} (hg:GR g) {d:Ty.den a_} (h:DR d):DR (iD d g).1:=by
 have hb:=Ih h
 unfold iD
 cases c:(jm d).2 != 0 with
 | true=>exact hb
 | false =>
  have hk:(jm d).1.2.1=d.2.1:=G3 d
  obtain ⟨g1,g2,g3,g4⟩:=hg d.1 d.2.1 h.len h.cap0 h.cap1 h.use h.all h.keys
  exact ⟨g1,hb.cap0,hb.cap1,hb.fu0,hb.fu1,by show (dz (g d.1 d.2.1).1:Int)≤(jm d).1.2.1;rw [hk];exact g2,g3,g4⟩
theorem JU (s:ByteArray):GR (wH s):=by
 intro l c h1 h2 h3 h4 h5 h6
 unfold wH
 cases hn:jZ s with
 | false=>exact ⟨h1,h4,h5,h6⟩
 | true =>
  cases hs:(bi l s).isSome with
  | true=>exact ⟨h1,h4,h5,h6⟩
  | false =>
   by_cases hl:(l.length:Int)≥130
   · rw [aM hl];exact ⟨h1,h4,h5,h6⟩
   · rw [aQ hl]
     have hnone:bi l s=none:=by
      cases q:bi l s with
      | none=>rfl
      | some f=>rw [q] at hs;cases hs
     refine ⟨by show (jx l _).length≤130;rw [AK];omega,by show (dz (jx l _):Int)≤c;rw [wI];exact h4,fun f hf=>?_,wr h6 (nE.1 hnone)⟩
     rcases A7.1 hf with e | e
     · rw [e];exact ⟨hn,Int.le_refl _,by show (0:Int)≤_;omega⟩
     · exact h5 f e
theorem Jy (s t:ByteArray):GR (wn s t):=by
 intro l c h1 h2 h3 h4 h5 h6
 unfold wn
 cases hs:bi l s with
 | none=>exact ⟨h1,h4,h5,h6⟩
 | some f =>
  simp only [Option.isNone_some,aK]
  rw [aE (by omega) (by omega)]
  by_cases ht:(t.size:Int) > c-(dz l:Int)
  · rw [aM ht];exact ⟨h1,h4,h5,h6⟩
  · rw [aQ ht]
    have hu:=tJ (h:=fun f=>(f.1,(f.2.1++t,f.2.2))) hs
    have hz:(f.2.1++t).size=f.2.1.size+t.size:=ByteArray.size_append ..
    simp only [hz] at hu
    refine ⟨by show (m8 _ l s).length≤130;rw [vG];exact h1,by show (dz (m8 _ l s):Int)≤c;omega,fun x hx=>?_,wa (by intro f;rfl) h6⟩
    rcases vK hx with q | ⟨y,q1,q2⟩
    · exact h5 x q
    · obtain ⟨a,b,c'⟩:=h5 y (mE q1).1
      rw [q2]
      refine ⟨a,b,?_⟩
      show LE.le (α:=Int) y.2.2.1 ((y.2.1++t).size:Int)
      have:(y.2.1++t).size=y.2.1.size+t.size:=ByteArray.size_append ..
      omega
theorem K5 (s:ByteArray):GR (xp s):=by
 intro l c h1 h2 h3 h4 h5 h6
 unfold xp
 cases hs:bi l s with
 | none=>exact ⟨h1,h4,h5,h6⟩
 | some f =>
  simp only [Option.isNone_some,aK]
  have hu:=tJ (h:=fun f=>(f.1,(f.2.1,((f.2.1.size:Int),f.2.2.2)))) hs
  refine ⟨by show (m8 _ l s).length≤130;rw [vG];exact h1,by show (dz (m8 _ l s):Int)≤c;simp only [] at hu;omega,fun x hx=>?_,wa (by intro f;rfl) h6⟩
  rcases vK hx with q | ⟨y,q1,q2⟩
  · exact h5 x q
  · obtain ⟨a,b,c'⟩:=h5 y (mE q1).1
    rw [q2]
    exact ⟨a,by show (0:Int)≤(y.2.1.size:Int);omega,Int.le_refl _⟩
theorem JW (s:ByteArray):GR (xm s):=by
 intro l c h1 h2 h3 h4 h5 h6
 unfold xm
 cases hs:bi l s with
 | none=>exact ⟨h1,h4,h5,h6⟩
 | some f =>
  have hd:=ml l s
  have hu:=ub l s
  exact ⟨Nat.le_trans hd.length_le h1,by show (dz (h_ l s):Int)≤c;omega,fun x hx=>h5 x (hd.subset hx),ql hd h6⟩
theorem FJ (s:ByteArray) {n:Nat} (h:n≤s.size):(ByteArray.extract s 0 n).size=n:=by
 rw [ByteArray.size_extract]
 omega
theorem Jp (s:ByteArray) (n:Int):GR (I1 s n):=by
 intro l c h1 h2 h3 h4 h5 h6
 unfold I1
 cases hs:bi l s with
 | none=>exact ⟨h1,h4,h5,h6⟩
 | some f =>
  simp only []
  by_cases hn:0≤n∧n≤(f.2.1.size:Int)
  · rw [aM hn]
    have hu:=tJ (h:=fun f=>(f.1,(ByteArray.extract f.2.1 0 n.toNat,((if n<f.2.2.1 then n else f.2.2.1),f.2.2.2)))) hs
    have hz:=FJ f.2.1 (n:=n.toNat) (by omega)
    simp only [hz] at hu
    refine ⟨by show (m8 _ l s).length≤130;rw [vG];exact h1,by show (dz (m8 _ l s):Int)≤c;omega,fun x hx=>?_,wa (by intro f;rfl) h6⟩
    rcases vK hx with q | ⟨y,q1,q2⟩
    · exact h5 x q
    · rw [hs] at q1
      cases q1
      obtain ⟨a,b,c'⟩:=h5 f (mE hs).1
      rw [q2]
      refine ⟨a,?_,?_⟩
      · show (0:Int)≤if n<f.2.2.1 then n else f.2.2.1
        split <;> omega
      · show (if n<f.2.2.1 then n else f.2.2.1)≤((ByteArray.extract f.2.1 0 n.toNat).size:Int)
        rw [hz]
        split <;> omega
  · rw [aQ hn];exact ⟨h1,h4,h5,h6⟩
theorem Jf (a b:ByteArray):GR (uw a b):=by
 intro l c h1 h2 h3 h4 h5 h6
 unfold uw
 cases hn:jZ b with
 | false=>exact ⟨h1,h4,h5,h6⟩
 | true =>
  simp only [fb,aK]
  cases hs:bi l a with
  | none=>exact ⟨h1,h4,h5,h6⟩
  | some f =>
   simp only []
   cases seq a b with
   | true=>exact ⟨h1,h4,h5,h6⟩
   | false =>
    simp only [aK]
    have hd:=ml l a
    have hd2:=ml (h_ l a) b
    have hu:=we hs
    have hu2:=ub (h_ l a) b
    have hk2:=ql (hd2.trans hd) h6
    have hl:=gf l a 0
    have hlen:(h_ l a).length+1=l.length:=by
     rcases gf l a 0 with ⟨q,_⟩ | ⟨n,q1,_,_,q4,_⟩
     · rw [hs] at q;cases q
     · rw [← q4,sG,List.length_take,List.length_drop];omega
    have hlen2:=hd2.length_le
    refine ⟨by rw [AK];omega,by rw [wI];show ((dz (h_ (h_ l a) b)+f.2.1.size:Nat):Int)≤c;omega,fun x hx=>?_,wr hk2 (nE.1 (qd (ql hd h6) b))⟩
    rcases A7.1 hx with e | e
    · rw [e]
      exact ⟨hn,(h5 f (mE hs).1).2.1,(h5 f (mE hs).1).2.2⟩
    · exact h5 x ((hd2.trans hd).subset e)
theorem zL {d:Ty.den a_} (h:DR d) (s:ByteArray):DR (tr d s).1:=qu (JU s) h
theorem oH {d:Ty.den a_} (h:DR d) (s t:ByteArray):DR (fq d s t).1:=qu (Jy s t) h
theorem lf {d:Ty.den a_} (h:DR d) (s:ByteArray):DR (eA d s).1:=qu (K5 s) h
theorem Gn {d:Ty.den a_} (h:DR d) (a b:ByteArray):DR (su d a b).1:=qu (Jf a b) h
theorem AF {d:Ty.den a_} (h:DR d) (s:ByteArray):DR (ry d s).1:=qu (JW s) h
theorem Gm {d:Ty.den a_} (h:DR d) (s:ByteArray) (n:Int):DR (Ca d s n).1:=qu (Jp s n) h
end Go.Proofs.YtdbekilnpjmeaaaGreatDoor.G
namespace Go.Proofs.YtdbekilnpjmeaaaGreatDoor.G
open Go.V
theorem kR (k:Nat) {d:Ty.den a_} (hd:uF d):bv.f k d=some (d,()):=by
 have hl:=hd.l
 unfold bv.f bv.t
 rw [bm (by omega) (by decide),List.nil_append]
theorem kN {k:Nat} (hk:2 ^ 50≤k) {d:Ty.den a_} (hd:uF d):cv.f k d=some ((jm d).1,((jm d).2,())):=by
 have hu:=hd.u
 have hn:=hd.n
 unfold cv.f cv.t jm
 rw [kR k hd,aT,lB hk (by omega) (by omega),aT]
 cases iB d <;> cases d.2.2.2.1 <;> cases d.2.2.1==0 <;> cases decide ((d.2.2.1:Int) > 0) <;> rfl
theorem oJ {k:Nat} (hk:2 ^ 50≤k) {l:bN} (f:Ty.den aD) (hl:l.length≤1073741824):d8.f k l f=some (jx l f,()):=by
 unfold d8.f d8.t
 refine (eV (L:=fun n i (s:Bool × bN)=>d8.l0 k n l s.1 i f.1 f.2.1 f.2.2.1 s.2) (R:=fun r s=>some (s.2++(bif s.1 then r else jx r f),())) (Ty.dflt aD) l (fun i s=>(s.2.length:Int)≤i+1∧(s.1=false→(s.2.length:Int)≤i)) (fun n s hs=>?_) (fun n i s x rest h0 h1 hx hr hs ih=>?_) (n:=k) (s:=(false,[])) (by omega) ⟨by simp,by simp⟩).trans ?_
 · obtain ⟨b,o⟩:=s
   simp only [] at hs
   simp only [d8.l0,d8.b0]
   rw [aQ (by omega),aK]
   cases b with
   | true=>simp only [fb,aK,aX,List.append_nil]
   | false=>simp only [tD,aK,aX];rw [bm (by omega) (by decide)];rfl
 · obtain ⟨b,o⟩:=s
   simp only [] at hs ih
   simp only [d8.l0,d8.b0]
   rw [aM h1,aX]
   have hlo:(o++[(f.1,(f.2.1,(f.2.2.1,())))]).length=o.length+1:=by simp
   obtain ⟨hs1,hs2⟩:=hs
   simp (disch:=first | omega | decide) only [aG,hx,bm,aE,lA,Bool.not_not]
   cases b with
   | true =>
    have i1:=ih (true,o++[x]) ⟨by simp only [cS];omega,fun q=>(by cases q)⟩
    simp only [] at i1
    simp only [fb,aK,aX]
    rw [i1]
    simp only [aX,rW,List.singleton_append]
   | false =>
    have hs2:=hs2 rfl
    have i2:=ih (false,o++[x]) ⟨by simp only [cS];omega,fun _=>by simp only [cS];omega⟩
    simp only [] at i2
    simp only [tD,aX,aK]
    unfold jx
    cases c:lZ f.1 x.1 with
    | true =>
     simp only [aX]
     have i3:=ih (true,(o++[(f.1,(f.2.1,(f.2.2.1,())))])++[x]) ⟨by simp only [cS];omega,fun q=>(by cases q)⟩
     simp only [] at i3
     rw [i3]
     simp only [aX,rW,List.singleton_append]
     rfl
    | false =>
     simp only [aK]
     rw [i2]
     simp only [aK,rW,List.singleton_append]
 · simp only [aK,List.nil_append]
theorem nC (k:Nat) {l:bN} {n:Nat} (hn:n<l.length) (hl:l.length≤1073741824):er.f k l (n:Int)=some (l.take n++l.drop (n+1),()):=by
 unfold er.f er.t
 have e:aH ((n:Int)+1)=((n+1:Nat):Int):=by rw [aE (by omega) (by omega)];omega
 rw [e,ni,ni,cD (by omega) (by omega),cD (by omega) (by omega),bm (by rw [List.length_take];omega) (by decide),bm (by rw [sG,List.length_take,List.length_drop];simp only [List.length_nil];omega) (by decide),List.nil_append]
theorem n6 (d:Ty.den a_):∃ b2,(jm d).1=(d.1,b2):=⟨(jm d).1.2,Prod.ext (pC d) rfl⟩
theorem pB {k:Nat} (hk:2 ^ 50≤k) {d:Ty.den a_} (hd:uF d) {s:ByteArray} (hs:s.size≤1099511627776):eg.f k d s=some ((tr d s).1,((tr d s).2,())):=by
 have hl:=hd.l
 unfold eg.f eg.t tr iD
 rw [kN hk hd,aT]
 obtain ⟨b2,hb⟩:=n6 d
 simp only [hb]
 cases c:(jm d).2 != 0 with
 | true=>rw [aX,aX,hb]
 | false =>
  rw [aK,aK,nr hk hs,aT]
  unfold wH
  cases jZ s with
  | false=>rfl
  | true =>
   simp only [fb,aK]
   rw [iC hk (by omega),aT]
   rcases gf d.1 s 0 with ⟨h1,h2,_⟩ | ⟨n,h1,h2,h3,_⟩
   · rw [h1,h2]
     simp only [Option.isSome_none,aK]
     rw [aQ (by decide),aK]
     by_cases cl:(d.1.length:Int)≥130
     · rw [aM cl];rfl
     · rw [aQ cl,aK,aK,oJ hk _ (by omega),aT]
   · rw [h2,h3]
     simp only [Option.isSome_some,aX]
     rw [aM (by omega),aX]
theorem nQ {k:Nat} (hk:2 ^ 50≤k) {d:Ty.den a_} (hd:uF d) (s:ByteArray) {t:ByteArray} (ht:t.size≤1099511627776):bS.f k d s t=some ((fq d s t).1,((fq d s t).2,())):=by
 have hl:=hd.l
 have hu:=hd.u
 unfold bS.f bS.t fq iD
 rw [kN hk hd,aT]
 obtain ⟨b2,hb⟩:=n6 d
 simp only [hb]
 cases c:(jm d).2 != 0 with
 | true=>rw [aX,aX,hb]
 | false =>
  rw [aK,aK,iC hk (by omega),aT]
  unfold wn
  rcases gf d.1 s 0 with ⟨h1,h2,_⟩ | ⟨n,h1,h2,h3,_,_,h6⟩
  · rw [h1,h2]
    simp only [Option.isNone_none,aX]
    rw [aM (by decide),aX]
  · rw [Int.zero_add] at h2
    rw [h2,h3]
    simp only [Option.isNone_some,aK]
    rw [aQ (by omega),aK,nw hk (by omega) (by omega),aT]
    simp only []
    cases decide ((t.size:Int) > aH (d.2.1-(dz d.1:Int))) with
    | true=>rfl
    | false =>
     have hm:=nR (mE h3).1
     rw [aK,aK,ni,aG (by omega) (by omega),aG (by omega) (by omega),da (Nat.le_trans (Nat.add_le_add (Nat.le_trans hm hu) ht) (by decide)),← h6]
theorem kz {k:Nat} (hk:2 ^ 50≤k) {d:Ty.den a_} (hd:uF d) (s:ByteArray):bx.f k d s=some ((eA d s).1,((eA d s).2,())):=by
 have hl:=hd.l
 unfold bx.f bx.t eA iD
 rw [kN hk hd,aT]
 obtain ⟨b2,hb⟩:=n6 d
 simp only [hb]
 cases c:(jm d).2 != 0 with
 | true=>rw [aX,aX,hb]
 | false =>
  rw [aK,aK,iC hk (by omega),aT]
  unfold xp
  rcases gf d.1 s 0 with ⟨h1,h2,_⟩ | ⟨n,h1,h2,h3,_,_,h6⟩
  · rw [h1,h2]
    simp only [Option.isNone_none,aX]
    rw [aM (by decide),aX]
  · rw [Int.zero_add] at h2
    rw [h2,h3]
    simp only [Option.isNone_some,aK]
    rw [aQ (by omega),aK,ni,aG (by omega) (by omega),aG (by omega) (by omega),← h6]
theorem vx {k:Nat} (hk:2 ^ 50≤k) {d:Ty.den a_} (hd:uF d) (a:ByteArray) {b:ByteArray} (hs:b.size≤1099511627776):fL.f k d a b=some ((su d a b).1,((su d a b).2,())):=by
 have hl:=hd.l
 unfold fL.f fL.t su iD
 rw [kN hk hd,aT]
 obtain ⟨b2,hb⟩:=n6 d
 simp only [hb]
 cases c:(jm d).2 != 0 with
 | true=>rw [aX,aX,hb]
 | false =>
  rw [aK,aK,nr hk hs,aT]
  unfold uw
  cases jZ b with
  | false=>rfl
  | true =>
   simp only [fb,aK]
   rw [iC hk (by omega),aT]
   rcases gf d.1 a 0 with ⟨h1,h2,_⟩ | ⟨n,h1,h2,h3,h4,_,_⟩
   · rw [h1,h2]
     simp only []
     rw [aM (by decide),aX]
   · rw [Int.zero_add] at h2
     rw [h2,h3]
     simp only []
     rw [aQ (by omega),aK]
     cases seq a b with
     | true=>rfl
     | false =>
      have hd1:=(ml d.1 a).length_le
      rw [aK,aK,ni,aG (by omega) (by omega),nC k h1 (by omega),aT,h4]
      simp only []
      rw [iC hk (d:=(h_ d.1 a,b2)) (by show (h_ d.1 a).length≤_;omega),aT]
      simp only []
      rcases gf (h_ d.1 a) b 0 with ⟨g1,g2,g3,_⟩ | ⟨m,g1,g2,g3,g4,_⟩
      · rw [g2,g3,aQ (by decide),aK,oJ hk _ (by omega),aT]
      · rw [Int.zero_add] at g2
        have hd2:=(ml (h_ d.1 a) b).length_le
        rw [g2,aM (by omega),aX,nC k g1 (by omega),aT,g4]
        simp only []
        rw [oJ hk _ (by omega),aT]
end Go.Proofs.YtdbekilnpjmeaaaGreatDoor.G
namespace Go.Proofs.YtdbekilnpjmeaaaGreatDoor.G
open Go.V
theorem rp {k:Nat} (hk:2 ^ 50≤k) {d:Ty.den a_} (hd:uF d) (s:ByteArray):gJ.f k d s=some ((ry d s).1,((ry d s).2,())):=by
 have hl:=hd.l
 unfold gJ.f gJ.t ry iD
 rw [kN hk hd,aT]
 obtain ⟨b2,hb⟩:=n6 d
 simp only [hb]
 cases c:(jm d).2 != 0 with
 | true=>rw [aX,aX,hb]
 | false =>
  rw [aK,aK,iC hk (by omega),aT]
  unfold xm
  rcases gf d.1 s 0 with ⟨h1,h2,_⟩ | ⟨n,h1,h2,h3,h4,_⟩
  · rw [h1,h2]
    simp only [Option.isNone_none,aX]
    rw [aM (by decide),aX]
  · rw [Int.zero_add] at h2
    rw [h2,h3]
    simp only [Option.isNone_some,aK]
    rw [aQ (by omega),aK,nC k h1 (by omega),aT,h4]
theorem si {l:bN} {n:Nat} (h:n<l.length) (x z:Ty.den aD):(l.set n x).getD n z=x:=by
 simp [List.getD,h]
theorem Im {l:bN} {n:Nat} (x y:Ty.den aD):(l.set n x).set n y=l.set n y:=by simp
theorem Cu {k:Nat} (hk:2 ^ 50≤k) {d:Ty.den a_} (hd:uF d) (s:ByteArray) (m:Int):iF.f k d s m=some ((Ca d s m).1,((Ca d s m).2,())):=by
 have hl:=hd.l
 unfold iF.f iF.t Ca iD
 rw [kN hk hd,aT]
 obtain ⟨b2,hb⟩:=n6 d
 simp only [hb]
 cases c:(jm d).2 != 0 with
 | true=>rw [aX,aX,hb]
 | false =>
  rw [aK,aK,iC hk (by omega),aT]
  unfold I1
  rcases gf d.1 s 0 with ⟨h1,h2,_⟩ | ⟨n,h1,h2,h3,_,_,h6⟩
  · rw [h1,h2]
    simp only []
    rw [aM (by decide),aX]
  · rw [Int.zero_add] at h2
    rw [h2,h3]
    simp only []
    rw [aQ (by omega),aK,ni,aG (by omega) (by omega),g_,aT]
    by_cases hm:0≤m∧m≤((d.1.getD n (Ty.dflt aD)).2.1.size:Int)
    · rw [aM hm]
      simp only [fb,aK]
      rw [aG (by omega) (by omega),cD hm.1 hm.2,aG (by omega) (by omega),aG (by omega) (by omega),aG (by omega) (by rw [List.length_set];omega),si h1,Im,← h6]
    · rw [aQ hm]
      rfl
end Go.Proofs.YtdbekilnpjmeaaaGreatDoor.G
namespace Go.Proofs.YtdbekilnpjmeaaaGreatDoor.G
open Go.V
theorem kG (k:Nat) {d:Ty.den a_} (hl:d.1.length≤1073741824):cH.f k d=some (d,()):=by
 unfold cH.f cH.t
 rw [bm (by omega) (by decide)]
theorem tT:∀ {l:bN} {a:ByteArray} {f:Ty.den aD},dO (kc l)→bi l a=some f→jx (h_ l a) (a,f.2)=l
 | [],a,f,_,h=>by cases h
 | g::l,a,f,hk,h=>by
  have hk':(∀ x ∈ kc l,lZ g.1 x=true)∧dO (kc l):=List.pairwise_cons.1 hk
  unfold bi at h
  unfold h_
  cases c:seq g.1 a with
  | true =>
   rw [c] at h
   cases h
   rw [aX]
   have e:=eT.1 c
   subst e
   cases l with
   | nil=>rfl
   | cons x l =>
    have:=hk'.1 x.1 (oX ..)
    unfold jx
    rw [this]
    rfl
  | false =>
   rw [c] at h
   rw [aK]
   have hm:=mE h
   have h1:lZ g.1 a=true:=by have:=hk'.1 f.1 (List.mem_map.2 ⟨f,hm.1,rfl⟩);rw [hm.2] at this;exact this
   unfold jx
   rw [FC h1,aK,tT hk'.2 h]
theorem qO {k:Nat} (hk:2 ^ 50≤k) {d:Ty.den a_} (hl:d.1.length≤1073741824) (s:ByteArray):eE.f k d s=some ((h_ d.1 s,d.2),()):=by
 unfold eE.f eE.t
 rw [jO hk (by omega),aT]
 rcases gf d.1 s 0 with ⟨h1,h2,h3,_⟩ | ⟨n,h1,h2,h3,h4,_⟩
 · rw [h2,h3]
   simp only []
   rw [aQ (by decide),aK]
 · rw [Int.zero_add] at h2
   rw [h2,← h4]
   have e:aH ((n:Int)+1)=((n+1:Nat):Int):=by rw [aE (by omega) (by omega)];omega
   simp only [e,ni]
   rw [aM (by omega),aX,cD (by omega) (by omega),bm (by rw [List.length_take];omega) (by decide),cD (by omega) (by omega),bm (by rw [List.length_take,List.length_drop];omega) (by decide)]
theorem vv {k:Nat} (hk:2 ^ 50≤k) {d:Ty.den a_} (hl:d.1.length≤1073741824) (f:Ty.den aD) (hn:∀ g ∈ d.1,g.1≠f.1):co.f k d f=some ((jx d.1 f,d.2),()):=by
 unfold co.f co.t
 have key:=HB (L:=fun n i (_:Unit)=>co.l0 k n i d.1 d.2.1 d.2.2.1 d.2.2.2.1 f.1 f.2.1 f.2.2.1) (R:=fun i _=>some ((d.1.take i.toNat++jx (d.1.drop i.toNat) f,d.2),())) d.1.length (fun _ _=>True) (fun n _ _=>?_) (fun n i _ h0 h1 _ ih=>?_) k 0 () (by omega) (by omega) (by omega) trivial
 · rw [show (0:Int).toNat=0 from rfl,List.take_zero,List.nil_append,List.drop_zero] at key
   exact key
 · simp only [co.l0,co.b0]
   rw [aQ (by omega),aK,ni,cD (by omega) (by omega),bm (by rw [List.length_take];omega) (by decide),bm (by rw [List.length_take];omega) (by decide),cD (by omega) (by omega),bm (by rw [sG,List.length_take,List.length_drop];simp only [List.length_singleton];omega) (by decide),List.drop_length,List.append_nil]
   rfl
 · have ih:=ih () trivial
   have hlt:i.toNat<d.1.length:=by omega
   have e:d.1.drop i.toNat=d.1.getD i.toNat (Ty.dflt aD)::d.1.drop (i.toNat+1):=by
    rw [List.drop_eq_getElem_cons hlt]
    simp [List.getD,hlt]
   have hne:(d.1.getD i.toNat (Ty.dflt aD)).1≠f.1:=hn _ (iP hlt)
   have ht:=lA (d.1.getD i.toNat (Ty.dflt aD)).1 f.1
   rw [kh hne,Bool.or_false] at ht
   simp only [co.l0,co.b0]
   rw [aM h1,aX,aG h0 h1,aE (n:=i+1) (by omega) (by omega),ih]
   rw [show jx (d.1.drop i.toNat) f=bif lZ f.1 (d.1.getD i.toNat (Ty.dflt aD)).1 then f::d.1.drop i.toNat else d.1.getD i.toNat (Ty.dflt aD)::jx (d.1.drop (i.toNat+1)) f by rw [e];rfl]
   rw [show lZ (List.getD d.1 i.toNat (Ty.dflt aD)).1 f.1=!lZ f.1 (d.1.getD i.toNat (Ty.dflt aD)).1 from ht]
   cases c:lZ f.1 (d.1.getD i.toNat (Ty.dflt aD)).1 with
   | false =>
    rw [show (i+1).toNat=i.toNat+1 by omega,lW (z:=Ty.dflt aD) hlt,rW]
    rfl
   | true =>
    rw [fb,aK,aX,cD h0 (by omega),bm (by rw [List.length_take];omega) (by decide),bm (by rw [List.length_take];omega) (by decide),cD h0 (by omega),bm (by rw [sG,List.length_take,List.length_drop];simp only [List.length_singleton];omega) (by decide),rW]
    rfl
theorem A4 {k:Nat} (hk:2 ^ 50≤k) {d:Ty.den a_} (hl:d.1.length≤1073741824) (hu:dz d.1≤1073741824):iJ.f k d=some ((dz d.1:Int),()):=by
 unfold iJ.f iJ.t
 refine (eV (L:=fun n i s=>iJ.l0 k n s d.1 d.1.length i) (R:=fun r s=>some (s+(dz r:Int),())) (Ty.dflt aD) d.1 (fun i s=>0≤s∧s+(dz (d.1.drop i.toNat):Int)≤1099511627776) (fun n s hs=>?_) (fun n i s x rest h0 h1 hx hr hp ih=>?_) (n:=k) (s:=0) (by omega) ⟨by omega,by rw [show d.1.drop (Int.toNat 0)=d.1 from rfl];omega⟩).trans (by rw [Int.zero_add])
 · simp (disch:=omega) only [iJ.l0,iJ.b0,aQ,aK]
   show some (s,())=some (s+((0:Nat):Int),())
   rw [show s+((0:Nat):Int)=s by omega]
 · have hrest:d.1.drop (i+1).toNat=rest:=by
    have:=congrArg (List.drop 1) hr
    rw [List.drop_drop,List.drop_one,List.tail_cons] at this
    rw [show (i+1).toNat=i.toNat+1 by omega]
    exact this
   rw [hr,dW] at hp
   have ih:=ih (s+(x.2.1.size:Int)) ⟨by omega,by rw [hrest];omega⟩
   simp (disch:=omega) only [iJ.l0,iJ.b0,aM h1,aX,aG,hx,aE,ih]
   rw [show s+(x.2.1.size:Int)+(dz rest:Int)=s+((x.2.1.size+dz rest:Nat):Int) by omega]
   show _=some (s+((dz (x::rest):Nat):Int),())
   rw [dW]
theorem Gt {k:Nat} (hk:2 ^ 50≤k) {d:Ty.den a_} (hl:d.1.length≤1073741824) {s:ByteArray} (hs:s.size≤1099511627776) :
 fS.f k d s=some (((wH s d.1 d.2.1).1,d.2),(s,((wH s d.1 d.2.1).2,()))):=by
 unfold fS.f fS.t wH
 rw [oD hk hs,aT]
 cases jZ s with
 | false=>rfl
 | true =>
  simp only [fb,aK]
  rw [jO hk (by omega),aT]
  rcases gf d.1 s 0 with ⟨h1,h2,_⟩ | ⟨n,h1,h2,h3,_⟩
  · rw [h1,h2]
    simp only [Option.isSome_none,aK]
    rw [aQ (by decide),aK]
    by_cases cl:(d.1.length:Int)≥130
    · rw [aM cl];rfl
    · rw [aQ cl,aK,aK,vv hk hl _ (nE.1 h1),aT]
  · rw [h2,h3]
    simp only [Option.isSome_some,aX]
    rw [aM (by omega),aX]
theorem HF {k:Nat} (hk:2 ^ 50≤k) {d:Ty.den a_} (hl:d.1.length≤1073741824) (hu:dz d.1≤1073741824) (s:ByteArray) {t:ByteArray} (ht:t.size≤1099511627776) :
 fQ.f k d s t=some (((wn s t d.1 d.2.1).1,d.2),(s,(t,((wn s t d.1 d.2.1).2,())))):=by
 unfold fQ.f fQ.t wn
 rw [jO hk (by omega),aT]
 rcases gf d.1 s 0 with ⟨h1,h2,_⟩ | ⟨n,h1,h2,h3,_,_,h6⟩
 · rw [h1,h2]
   simp only [Option.isNone_none,aX]
   rw [aM (by decide),aX]
 · rw [Int.zero_add] at h2
   rw [h2,h3]
   simp only [Option.isNone_some,aK]
   rw [aQ (by omega),aK,A4 hk hl hu,aT]
   simp only []
   cases decide ((t.size:Int) > aH (d.2.1-(dz d.1:Int))) with
   | true=>rfl
   | false =>
    have hm:=nR (mE h3).1
    rw [aK,aK,ni,aG (by omega) (by omega),da (Nat.le_trans (Nat.add_le_add (Nat.le_trans hm hu) ht) (by decide)),aG (by omega) (by omega),← h6]
theorem HC {k:Nat} (hk:2 ^ 50≤k) {d:Ty.den a_} (hl:d.1.length≤1073741824) (s:ByteArray) :
 gh.f k d s=some (((xp s d.1 d.2.1).1,d.2),(s,((xp s d.1 d.2.1).2,()))):=by
 unfold gh.f gh.t xp
 rw [jO hk (by omega),aT]
 rcases gf d.1 s 0 with ⟨h1,h2,_⟩ | ⟨n,h1,h2,h3,_,_,h6⟩
 · rw [h1,h2]
   simp only [Option.isNone_none,aX]
   rw [aM (by decide),aX]
 · rw [Int.zero_add] at h2
   rw [h2,h3]
   simp only [Option.isNone_some,aK]
   rw [aQ (by omega),aK,ni,aG (by omega) (by omega),aG (by omega) (by omega),← h6]
theorem Gx {k:Nat} (hk:2 ^ 50≤k) {d:Ty.den a_} (hl:d.1.length≤1073741824) (s:ByteArray) :
 fU.f k d s=some (((xm s d.1 d.2.1).1,d.2),(s,((xm s d.1 d.2.1).2,()))):=by
 unfold fU.f fU.t xm
 rw [jO hk (by omega),aT]
 rcases gf d.1 s 0 with ⟨h1,h2,_⟩ | ⟨n,h1,h2,h3,_⟩
 · rw [h1,h2]
   simp only [Option.isNone_none,aX]
   rw [aM (by decide),aX]
 · rw [Int.zero_add] at h2
   rw [h2,h3]
   simp only [Option.isNone_some,aK]
   rw [aQ (by omega),aK,qO hk hl,aT]
theorem HX {k:Nat} (hk:2 ^ 50≤k) {d:Ty.den a_} (hl:d.1.length≤1073741824) (hs:dO (kc d.1)) (a:ByteArray) {b:ByteArray} (hb:b.size≤1099511627776) :
 fR.f k d a b=some (((uw a b d.1 d.2.1).1,d.2),(a,(b,((uw a b d.1 d.2.1).2,())))):=by
 unfold fR.f fR.t uw
 rw [jO hk (by omega),aT,oD hk hb,aT]
 cases jZ b with
 | false=>rfl
 | true =>
  simp only [fb,aK]
  rcases gf d.1 a 0 with ⟨h1,h2,_⟩ | ⟨n,h1,h2,h3,_,_,_⟩
  · rw [h1,h2,aM (by decide),aX]
  · have hd1:=ml d.1 a
    have hd2:=ml (h_ d.1 a) b
    have l1:=hd1.length_le
    have l2:=hd2.length_le
    rw [Int.zero_add] at h2
    rw [h2,h3]
    simp only []
    rw [aQ (by omega),aK,aG (by omega) (by omega),qO hk hl,aT]
    simp only []
    rw [qO hk (d:=(h_ d.1 a,d.2)) (by show (h_ d.1 a).length≤_;omega),aT]
    simp only []
    rw [vv hk (d:=(h_ (h_ d.1 a) b,d.2)) (by show (h_ (h_ d.1 a) b).length≤_;omega) _ (nE.1 (qd (ql hd1 hs) b)),aT,ni]
    cases c:seq a b with
    | false=>rfl
    | true =>
     have e:=eT.1 c
     subst e
     have hg:h_ (h_ d.1 a) a=h_ d.1 a:=by
      rcases gf (h_ d.1 a) a 0 with ⟨_,_,g3,_⟩ | ⟨m,_,_,g3,_⟩
      · exact g3
      · rw [qd hs a] at g3;cases g3
     have hi:=tT hs h3
     simp only [hg,aX]
     rw [hi]
theorem Ch {k:Nat} (hk:2 ^ 50≤k) {d:Ty.den a_} (hd:uF d) {s:ByteArray} (hs:s.size≤1099511627776):jQ.f k d s=some ((tr d s).1,((tr d s).2,())):=by
 have hl:=hd.l
 have hu:=hd.u
 have hn:=hd.n
 have h1:∀ b2,fS.f k (d.1,b2) s=_:=fun b2=>Gt hk (d:=(d.1,b2)) hl hs
 unfold jQ.f jQ.t fe.f fe.t tr iD jm
 rw [kG k hl,aT,k9 hk (by omega) (by omega),aT]
 simp only [h1,aT,show fS.f k d s=_ from h1 d.2]
 cases iB d <;> cases d.2.2.2.1 <;> cases d.2.2.1==0 <;> cases decide ((d.2.2.1:Int) > 0) <;> rfl
theorem Cv {k:Nat} (hk:2 ^ 50≤k) {d:Ty.den a_} (hd:uF d) (s:ByteArray) {t:ByteArray} (ht:t.size≤1099511627776):jJ.f k d s t=some ((fq d s t).1,((fq d s t).2,())):=by
 have hl:=hd.l
 have hu:=hd.u
 have hn:=hd.n
 have h1:∀ b2,fQ.f k (d.1,b2) s t=_:=fun b2=>HF hk (d:=(d.1,b2)) hl hu s ht
 unfold jJ.f jJ.t fi.f fi.t fq iD jm
 rw [kG k hl,aT,k9 hk (by omega) (by omega),aT]
 simp only [h1,aT,show fQ.f k d s t=_ from h1 d.2]
 cases iB d <;> cases d.2.2.2.1 <;> cases d.2.2.1==0 <;> cases decide ((d.2.2.1:Int) > 0) <;> rfl
theorem DN {k:Nat} (hk:2 ^ 50≤k) {d:Ty.den a_} (hd:uF d) (s:ByteArray):lG.f k d s=some ((eA d s).1,((eA d s).2,())):=by
 have hl:=hd.l
 have hu:=hd.u
 have hn:=hd.n
 have h1:∀ b2,gh.f k (d.1,b2) s=_:=fun b2=>HC hk (d:=(d.1,b2)) hl s
 unfold lG.f lG.t gW.f gW.t eA iD jm
 rw [kG k hl,aT,k9 hk (by omega) (by omega),aT]
 simp only [h1,aT,show gh.f k d s=_ from h1 d.2]
 cases iB d <;> cases d.2.2.2.1 <;> cases d.2.2.1==0 <;> cases decide ((d.2.2.1:Int) > 0) <;> rfl
theorem Co {k:Nat} (hk:2 ^ 50≤k) {d:Ty.den a_} (hd:uF d) (s:ByteArray):jP.f k d s=some ((ry d s).1,((ry d s).2,())):=by
 have hl:=hd.l
 have hu:=hd.u
 have hn:=hd.n
 have h1:∀ b2,fU.f k (d.1,b2) s=_:=fun b2=>Gx hk (d:=(d.1,b2)) hl s
 unfold jP.f jP.t ff.f ff.t ry iD jm
 rw [kG k hl,aT,k9 hk (by omega) (by omega),aT]
 simp only [h1,aT,show fU.f k d s=_ from h1 d.2]
 cases iB d <;> cases d.2.2.2.1 <;> cases d.2.2.1==0 <;> cases decide ((d.2.2.1:Int) > 0) <;> rfl
theorem DA {k:Nat} (hk:2 ^ 50≤k) {d:Ty.den a_} (hd:uF d) (a:ByteArray) {b:ByteArray} (hb:b.size≤1099511627776):jL.f k d a b=some ((su d a b).1,((su d a b).2,())):=by
 have hl:=hd.l
 have hu:=hd.u
 have hn:=hd.n
 unfold jL.f jL.t fg.f fg.t su iD jm
 rw [kG k hl,aT,k9 hk (by omega) (by omega),aT]
 cases c:iB d with
 | false=>rfl
 | true =>
  have h1:∀ b2,fR.f k (d.1,b2) a b=_:=fun b2=>HX hk (d:=(d.1,b2)) hl (hZ.1 c).keys a hb
  simp only [h1,aT,show fR.f k d a b=_ from h1 d.2]
  cases d.2.2.2.1 <;> cases d.2.2.1==0 <;> cases decide ((d.2.2.1:Int) > 0) <;> rfl
end Go.Proofs.YtdbekilnpjmeaaaGreatDoor.G
namespace Go.Proofs.YtdbekilnpjmeaaaGreatDoor.G
open Go.V
def nG (lim:Int) (p:Option Int) (x:Int):Bool:=decide ((1:Int)≤x∧x≤lim)&&(match p with | none=>true | some y=>decide (y<x))
def cP (v:Ty.den bj):Bool:=decide ((1:Int)≤v.1∧v.1≤100000)&&(decide ((1:Int)≤(v.2.1.length:Int)∧(v.2.1.length:Int)≤60)&&ph (nG (aH (v.1-1))) none v.2.1)
theorem q_ {k:Nat} (hk:2 ^ 50≤k) (v:Ty.den bj):dK.f k v=some (cP v,()):=by
 unfold dK.f dK.t cP
 rw [g_,aT]
 cases decide ((1:Int)≤v.1∧v.1≤100000) with
 | false=>rfl
 | true =>
  rw [fb,aK,g_,aT,Bool.true_and]
  by_cases c:(1:Int)≤(v.2.1.length:Int)∧(v.2.1.length:Int)≤60
  case neg=>rw [aQ c];rfl
  rw [aM c,fb,aK,Bool.true_and]
  refine (pT (L:=fun n i=>dK.l0 k n i v.1 v.2.1) (Ty.dflt (.int .i64)) v.2.1 (nG (aH (v.1-1))) (some (true,())) (some (false,())) (fun n=>?_) (fun n x h hx=>?_) (fun n i x y h0 h1 hx hy=>?_) (n:=k) (by omega)).trans (by cases ph (nG (aH (v.1-1))) none v.2.1 <;> rfl)
  · simp (disch:=omega) only [dK.l0,dK.b0,aQ,aK]
  · simp (disch:=omega) only [dK.l0,dK.b0,aM (show (0:Int)<(v.2.1.length:Int) by omega),aX,aG,hx,g_ k,aT,aQ (show ¬ (0:Int) > 0 by omega),aK,aE (n:=(0:Int)+1),nG]
    cases decide ((1:Int)≤x∧x≤aH (v.1-1)) <;> rfl
  · simp (disch:=omega) only [dK.l0,dK.b0,aM h1,aX,aG,hx,g_ k,aT,aM (show i > 0 by omega),aK,aE (n:=i+1),aE (n:=i-1),hy,nG]
    cases decide ((1:Int)≤x∧x≤aH (v.1-1)) with
    | false=>rfl
    | true =>
     by_cases q:y<x
     · rw [aM q,aQ (show ¬ x≤y from Int.not_le.2 q)];rfl
     · rw [aQ q,aM (show x≤y from Int.not_lt.1 q)];rfl
theorem uY {k:Nat} (hk:2 ^ 50≤k) {v:Ty.den bj} (hl:v.2.1.length≤1099511627776):dr.f k v=some (cP v,()):=by
 unfold dr.f dr.t cP
 refine (pT (L:=fun n i=>dr.l0 k n v.2.1 v.2.1.length i v.1 v.2.1) (Ty.dflt (.int .i64)) v.2.1 (nG (aH (v.1-1))) (some (decide ((1:Int)≤v.1∧v.1≤100000)&&decide ((1:Int)≤(v.2.1.length:Int)∧(v.2.1.length:Int)≤60),())) (some (false,())) (fun n=>?_) (fun n x h hx=>?_) (fun n i x y h0 h1 hx hy=>?_) (n:=k) (by omega)).trans
  (by cases ph (nG (aH (v.1-1))) none v.2.1 <;> cases decide ((1:Int)≤v.1∧v.1≤100000) <;> cases decide ((1:Int)≤(v.2.1.length:Int)∧(v.2.1.length:Int)≤60) <;> rfl)
 · simp (disch:=omega) only [dr.l0,dr.b0,aQ,aK,me k,aT]
   cases decide ((1:Int)≤v.1∧v.1≤100000) <;> rfl
 · simp (disch:=omega) only [dr.l0,dr.b0,aM (show (0:Int)<(v.2.1.length:Int) by omega),aX,aG,hx,me k,aT,aQ (show ¬ (0:Int) > 0 by omega),aK,aE (n:=(0:Int)+1),nG]
   cases decide ((1:Int)≤x∧x≤aH (v.1-1)) <;> rfl
 · simp (disch:=omega) only [dr.l0,dr.b0,aM h1,aX,aG,hx,me k,aT,aM (show i > 0 by omega),aK,aE (n:=i+1),aE (n:=i-1),hy,nG]
   cases decide ((1:Int)≤x∧x≤aH (v.1-1)) with
   | false=>rfl
   | true =>
    by_cases q:y<x
    · rw [aM q,aQ (show ¬ y≥x from Int.not_le.2 q)];rfl
    · rw [aQ q,aM (show y≥x from Int.not_lt.1 q)];rfl
end Go.Proofs.YtdbekilnpjmeaaaGreatDoor.G
namespace Go.V
theorem zS (l:List Int):(bytesOf l).size=l.length:=by simp [bytesOf,ByteArray.size]
theorem J3 {n m:Nat} (hn:n<4294967296) (hm:m<4294967296):aH (((BitVec.ofInt (IntKind.bits .i64) (n:Int) ^^^ BitVec.ofInt (IntKind.bits .i64) (m:Int)).toNat:Int))=((n ^^^ m:Nat):Int):=by
 have h:n ^^^ m<2 ^ 32:=Nat.xor_lt_two_pow (by omega) (by omega)
 show aH (((BitVec.ofInt 64 (n:Int) ^^^ BitVec.ofInt 64 (m:Int)).toNat:Int))=_
 rw [BitVec.ofInt_natCast,BitVec.ofInt_natCast,BitVec.toNat_xor,BitVec.toNat_ofNat,BitVec.toNat_ofNat,Nat.mod_eq_of_lt (by omega),Nat.mod_eq_of_lt (by omega)]
 exact aE (by omega) (by omega)
theorem JC {n m:Nat} (hn:n<4294967296) (hm:m<4294967296):IntKind.wrap .u32 (((BitVec.ofInt (IntKind.bits .u32) (n:Int) ^^^ BitVec.ofInt (IntKind.bits .u32) (m:Int)).toNat:Int))=((n ^^^ m:Nat):Int):=by
 have h:n ^^^ m<2 ^ 32:=Nat.xor_lt_two_pow (by omega) (by omega)
 show IntKind.wrap .u32 (((BitVec.ofInt 32 (n:Int) ^^^ BitVec.ofInt 32 (m:Int)).toNat:Int))=_
 rw [BitVec.ofInt_natCast,BitVec.ofInt_natCast,BitVec.toNat_xor,BitVec.toNat_ofNat,BitVec.toNat_ofNat,Nat.mod_eq_of_lt (by omega),Nat.mod_eq_of_lt (by omega)]
 exact vH (by omega) (by omega)
theorem Kj {n b:Nat} (hn:n<4294967296) (hb:b<256):aH (((BitVec.ofInt (IntKind.bits .i64) ((n*256:Nat):Int) ||| BitVec.ofInt (IntKind.bits .i64) (b:Int)).toNat:Int))=((n*256+b:Nat):Int):=by
 have h:n*256 ||| b=n*256+b:=by
  have:=Nat.shiftLeft_add_eq_or_of_lt (i:=8) (b:=b) (by omega) n
  rw [Nat.shiftLeft_eq,show (2:Nat) ^ 8=256 by decide] at this
  omega
 show aH (((BitVec.ofInt 64 ((n*256:Nat):Int) ||| BitVec.ofInt 64 (b:Int)).toNat:Int))=_
 rw [BitVec.ofInt_natCast,BitVec.ofInt_natCast,BitVec.toNat_or,BitVec.toNat_ofNat,BitVec.toNat_ofNat,Nat.mod_eq_of_lt (by omega),Nat.mod_eq_of_lt (by omega),h]
 exact aE (by omega) (by omega)
theorem KK {n:Nat} (hn:n<4294967296):IntKind.wrap .u32 (((BitVec.ofInt (IntKind.bits .u32) (n:Int) &&& BitVec.ofInt (IntKind.bits .u32) 1).toNat:Int))=((n % 2:Nat):Int):=by
 show IntKind.wrap .u32 (((BitVec.ofInt 32 (n:Int) &&& BitVec.ofInt 32 ((1:Nat):Int)).toNat:Int))=_
 rw [BitVec.ofInt_natCast,BitVec.ofInt_natCast,BitVec.toNat_and,BitVec.toNat_ofNat,BitVec.toNat_ofNat,Nat.mod_eq_of_lt (by omega),Nat.mod_eq_of_lt (show 1<2 ^ 32 by omega),Nat.and_one_is_mod]
 exact vH (by omega) (by omega)
theorem KB {n:Nat} (hn:n<4294967296):DI .u32 (n:Int)=4294967295-(n:Int):=by
 unfold DI
 show IntKind.wrap .u32 (((BitVec.allOnes 32 ^^^ BitVec.ofInt 32 (n:Int)).toNat:Int))=_
 rw [BitVec.ofInt_natCast,BitVec.allOnes_xor,BitVec.toNat_not,BitVec.toNat_ofNat,Nat.mod_eq_of_lt (by omega)]
 rw [vH (by omega) (by omega)]
 omega
theorem pH (s:ByteArray):(⟨#[]⟩:ByteArray)++s=s:=by
 apply ByteArray.ext
 simp [ByteArray.data_append]
theorem j0 (s:ByteArray):s++(⟨#[]⟩:ByteArray)=s:=by
 apply ByteArray.ext
 simp [ByteArray.data_append]
theorem ag (a b c:ByteArray):a++b++c=a++(b++c):=by
 apply ByteArray.ext
 simp [ByteArray.data_append]
theorem iT (a b:ByteArray):nb (a++b)=nb a++nb b:=by
 unfold nb
 rw [ByteArray.data_append,Array.toList_append,List.map_append]
theorem ri (s:ByteArray) (i j:Nat):nb (ByteArray.extract s i j)=((nb s).take j).drop i:=by
 unfold nb
 simp [ByteArray.data_extract,List.map_take,List.map_drop]
 rw [List.drop_take]
theorem ig (s:ByteArray) (n:Nat):nb (ByteArray.extract s n s.size)=(nb s).drop n:=by
 rw [ri,List.take_of_length_le (by rw [cY];omega)]
theorem eU (a t:ByteArray):ByteArray.extract (a++t) a.size (a++t).size=t:=kV (by rw [ig,iT,List.drop_left' (cY a)])
theorem BA (a t:ByteArray):ByteArray.extract (a++t) 0 a.size=a:=kV (by rw [ri,iT,List.take_left' (cY a),List.drop_zero])
theorem B_ (s:ByteArray) {n:Nat} (h:n≤s.size):s=ByteArray.extract s 0 n++ByteArray.extract s n s.size:=kV (by rw [iT,ig,nW,List.take_append_drop])
theorem rr {a b c:ByteArray} (h:a++b=a++c):b=c:=kV (by
 have:=congrArg nb h
 rw [iT,iT] at this
 exact List.append_cancel_left this)
theorem rA {a b c d:ByteArray} (h:a++b=c++d) (hs:a.size=c.size):a=c∧b=d:=by
 have:=congrArg nb h
 rw [iT,iT] at this
 have:=List.append_inj this (by rw [cY,cY,hs])
 exact ⟨kV this.1,kV this.2⟩
def rv:Nat→List Nat→Option (Nat × Nat)
 | 0,_=>none
 | _+1,[]=>none
 | d+1,b::l=>if b≥128 then (match rv d l with | some (a,n)=>if a=0 then none else some (b % 128+128*a,n+1) | none=>none) else some (b,1)
theorem Gy:∀ (d a:Nat) (t:List Nat),a<128 ^ (d+1)→rv (d+1) (vl d a++t)=some (a,(vl d a).length)
 | 0,a,t,h=>by
  have:¬ a≥128:=by simpa using h
  simp [vl,rv,this]
 | d+1,a,t,h=>by
  unfold vl
  by_cases c:a≥128
  · have ih:=Gy d (a/128) t (by rw [Nat.pow_succ] at h;omega)
    rw [if_pos c,List.cons_append,rv,if_pos (by omega),ih]
    simp only []
    rw [if_neg (by omega),lP]
    congr 2
    omega
  · rw [if_neg c,List.cons_append,rv,if_neg c]
    rfl
theorem pG:∀ (d:Nat) (l:List Nat) (a n:Nat),(∀ x ∈ l,x<256)→rv (d+1) l=some (a,n)→l.take n=vl d a∧a<128 ^ (d+1)∧n=(vl d a).length∧n≤l.length∧1≤n∧n≤d+1
 | _,[],a,n,_,h=>by simp [rv] at h
 | 0,b::l,a,n,hb,h=>by
  unfold rv at h
  by_cases c:b≥128
  · simp [c,rv] at h
  · simp [c] at h
    obtain ⟨rfl,rfl⟩:=h
    refine ⟨by simp [vl],by simpa using c,by simp [vl],by simp,by omega,by omega⟩
 | d+1,b::l,a,n,hb,h=>by
  unfold rv at h
  by_cases c:b≥128
  · rw [if_pos c] at h
    cases q:rv (d+1) l with
    | none=>rw [q] at h;simp at h
    | some p =>
     obtain ⟨a',n'⟩:=p
     obtain ⟨h1,h2,h3,h4,h5,h6⟩:=pG d l a' n' (fun x hx=>hb x (qS _ hx)) q
     rw [q] at h
     simp only [] at h
     by_cases z:a'=0
     · simp [z] at h
     · rw [if_neg z] at h
       simp only [Option.some.injEq,Prod.mk.injEq] at h
       obtain ⟨rfl,rfl⟩:=h
       have hb:=hb b (oX ..)
       have e1:(b % 128+128*a')/128=a':=by omega
       have e2:128+(b % 128+128*a') % 128=b:=by omega
       have hv:vl (d+1) (b % 128+128*a')=b::vl d a':=by
        rw [vl,if_pos (by omega),e1,e2]
       rw [hv]
       refine ⟨by rw [List.take_succ_cons,h1],by rw [Nat.pow_succ];omega,by rw [lP,h3],by rw [lP];omega,by omega,by omega⟩
  · rw [if_neg c] at h
    simp only [Option.some.injEq,Prod.mk.injEq] at h
    obtain ⟨rfl,rfl⟩:=h
    have hv:vl (d+1) b=[b]:=by rw [vl,if_neg c]
    rw [hv]
    refine ⟨by simp,?_,by simp,by simp,by omega,by omega⟩
    have:(128:Nat) ^ 1≤128 ^ (d+1+1):=Nat.pow_le_pow_right (by decide) (by omega)
    omega
theorem KC {d a:Nat}:vl d a≠[]:=by
 cases d with
 | zero=>simp [vl]
 | succ d=>unfold vl;split <;> simp
theorem Ia (l:List Nat) (hb:∀ x ∈ l,x<256) (d n:Nat) (h0:1≤n) (h1:n≤d+1) (h2:n≤l.length):qM (l.take n)=true↔∃ a,rv (d+1) l=some (a,n):=by
 constructor
 · intro h
   have e:=zZ d (l.take n) h (by rw [List.length_take];omega)
   have hd:rL (l.take n)<128 ^ (d+1):=Nat.lt_of_lt_of_le (AH _) (Nat.pow_le_pow_right (by decide) (by rw [List.length_take];omega))
   have:=Gy d (rL (l.take n)) (l.drop n) hd
   rw [e,List.take_append_drop,List.length_take,Nat.min_eq_left h2] at this
   exact ⟨_,this⟩
 · rintro ⟨a,h⟩
   obtain ⟨e1,e2,_⟩:=pG d l a n hb h
   rw [e1]
   exact (vM d a e2).1
theorem JH {l:List Nat} (hb:∀ x ∈ l,x<256) {d a n:Nat} (h:rv (d+1) l=some (a,n)):a=rL (l.take n):=by
 obtain ⟨e1,e2,_⟩:=pG d l a n hb h
 rw [e1]
 exact (vM d a e2).2.1.symm
theorem rz (s:ByteArray):∀ x ∈ nb s,x<256:=fun _ h=>JA h
theorem ah (a:Nat):1≤(bE a).size∧(bE a).size≤7:=by
 unfold bE
 rw [zS,List.length_map]
 have h:∀ d a,(vl d a).length≤d+1:=by
  intro d
  induction d with
  | zero=>intro a;simp [vl]
  | succ d ih=>intro a;unfold vl;split <;> simp;have:=ih (a/128);omega
 have h2:=h 6 a
 have h3:(vl 6 a).length≠0:=fun q=>KC (List.length_eq_zero_iff.1 q)
 omega
theorem qG {a:Nat} (h:a<562949953421312):(vl 6 a).length=(bE a).size:=by rw [← sY h,cY]
theorem qi {a:Nat} (h:a<562949953421312) (t:ByteArray):rv 7 (nb (bE a++t))=some (a,(bE a).size):=by
 rw [iT,sY h,← qG h]
 exact Gy 6 a _ (by rw [show (128:Nat) ^ (6+1)=562949953421312 by decide];exact h)
theorem Hs {s:ByteArray} {a n:Nat} (h:rv 7 (nb s)=some (a,n)):∃ t,a<562949953421312∧n=(bE a).size∧s=bE a++t:=by
 obtain ⟨h1,h2,h3,h4,h5,h6⟩:=pG 6 (nb s) a n (rz s) h
 rw [show (128:Nat) ^ (6+1)=562949953421312 by decide] at h2
 refine ⟨ByteArray.extract s n s.size,h2,by rw [h3,qG h2],kV ?_⟩
 rw [iT,sY h2,ig,← h1,List.take_append_drop]
theorem mU (s:ByteArray):(∃ a t,a<562949953421312∧s=bE a++t)∨rv 7 (nb s)=none:=by
 cases h:rv 7 (nb s) with
 | none=>exact .inr rfl
 | some p =>
  obtain ⟨a,n⟩:=p
  obtain ⟨t,h1,_,h3⟩:=Hs h
  exact .inl ⟨a,t,h1,h3⟩
theorem wL {a b:Nat} {s t:ByteArray} (ha:a<562949953421312) (hb:b<562949953421312) (h:bE a++s=bE b++t):a=b∧s=t:=by
 have h1:=qi ha s
 rw [h,qi hb t] at h1
 simp only [Option.some.injEq,Prod.mk.injEq] at h1
 obtain ⟨rfl,_⟩:=h1
 exact ⟨rfl,rr h⟩
def Db:Option (Nat × Nat)→Int × Int × Unit
 | some p=>((p.1:Int),((p.2:Int),()))
 | none=>(0,(0,()))
end Go.V
namespace Go.Proofs.YtdbekilnpjmeaaaGreatDoor.G
open Go.V
theorem oB (k:Nat) (a b c:Int):aU.f k a b c=some (decide (b≤a∧a≤c),()):=by
 unfold aU.f aU.t
 by_cases h:b≤a <;> simp [h]
theorem rO (k:Nat) (a b c:Int):ay.f k a b c=some (decide (b≤a∧a≤c),()):=by
 unfold ay.f ay.t
 by_cases h:b≤a <;> simp [h]
def gu (a:Int):ByteArray:=if 0≤a∧a≤562949953421311 then bE a.toNat else ⟨#[]⟩
theorem bA (a:Int):(gu a).size≤7:=by
 unfold gu
 split
 · exact (ah _).2
 · exact Nat.zero_le _
theorem db {a:Nat} (h:a<562949953421312):gu (a:Int)=bE a:=by
 unfold gu
 rw [if_pos (by omega),Int.toNat_natCast]
theorem KZ:∀ (d a n:Nat) (xs:List Int),a<128 ^ (d+1)→a<562949953421312→d<n→xs.length+d≤100→∀ k,
 bW.l0 k n (a:Int) xs=some (bytesOf (xs++(vl d a).map Int.ofNat),())∧fH.l0 k n (a:Int) xs=some (bytesOf (xs++(vl d a).map Int.ofNat),()):=by
 intro d
 induction d with
 | zero =>
  intro a n xs h1 h2 h3 h4 k
  obtain ⟨n,rfl⟩:∃ q,n=q+1:=⟨n-1,by omega⟩
  simp only [Nat.zero_add,Nat.pow_one] at h1
  constructor
  · simp (disch:=first | omega | decide) only [bW.l0,bW.b0,aQ,aK,bm,oQ]
    rfl
  · simp (disch:=first | omega | decide) only [fH.l0,fH.b0,aQ,aK,bm,oQ]
    rfl
 | succ d ih =>
  intro a n xs h1 h2 h3 h4 k
  obtain ⟨n,rfl⟩:∃ q,n=q+1:=⟨n-1,by omega⟩
  unfold vl
  by_cases c:a≥128
  · have hd:aH (Int.tdiv (a:Int) 128)=((a/128:Nat):Int):=aE (n:=((a/128:Nat):Int)) (by omega) (by omega)
    have hw:IntKind.wrap .u8 (aH (128+Int.tmod (a:Int) 128))=((128+a % 128:Nat):Int):=by
     have e:128+Int.tmod (a:Int) 128=((128+a % 128:Nat):Int):=by
      show 128+((a % 128:Nat):Int)=_
      omega
     rw [e,aE (by omega) (by omega)]
     exact oQ (by omega) (by omega)
    have ih:=ih (a/128) n (xs++[((128+a % 128:Nat):Int)]) (by rw [Nat.pow_succ] at h1;omega) (by omega) (by omega) (by rw [sG];show _+1+d≤_;omega) k
    rw [if_pos c]
    rw [rW] at ih
    constructor
    · simp (disch:=first | omega | decide) only [bW.l0,bW.b0,aM,aX,bm,hd,hw]
      exact ih.1
    · simp (disch:=first | omega | decide) only [fH.l0,fH.b0,aM,aX,bm,hd,Int.add_comm (Int.tmod (a:Int) 128) 128,hw]
      exact ih.2
  · rw [if_neg c]
    constructor
    · simp (disch:=first | omega | decide) only [bW.l0,bW.b0,aQ,aK,bm,oQ]
      rfl
    · simp (disch:=first | omega | decide) only [fH.l0,fH.b0,aQ,aK,bm,oQ]
      rfl
theorem ga {k:Nat} (hk:2 ^ 50≤k) (a:Int):bW.f k a=some (gu a,()):=by
 unfold bW.f bW.t gu
 rw [oB,aT]
 by_cases h:0≤a∧a≤562949953421311
 · obtain ⟨n,rfl⟩:=Int.eq_ofNat_of_zero_le h.1
   have hn:n<562949953421312:=by omega
   simp only [aM h,fb,aK,if_pos h,Int.toNat_natCast]
   exact (KZ 6 n k [] (by rw [show (128:Nat) ^ (6+1)=562949953421312 by decide];exact hn) hn (by omega) (by decide) k).1
 · simp only [aQ h,tD,aX,if_neg h]
theorem nB {k:Nat} (hk:2 ^ 50≤k) (a:Int):fH.f k a=some (gu a,()):=by
 unfold fH.f fH.t gu
 rw [rO,aT]
 by_cases h:0≤a∧a≤562949953421311
 · obtain ⟨n,rfl⟩:=Int.eq_ofNat_of_zero_le h.1
   have hn:n<562949953421312:=by omega
   simp only [aM h,fb,aK,if_pos h,Int.toNat_natCast]
   exact (KZ 6 n k [] (by rw [show (128:Nat) ^ (6+1)=562949953421312 by decide];exact hn) hn (by omega) (by decide) k).2
 · simp only [aQ h,tD,aX,if_neg h]
theorem Ft {s:ByteArray} {i:Nat} (h:i<s.size):(nb s).take (i+1)=(nb s).take i++[(nb s).getD i 0]:=by
 have h1:i<(nb s).length:=by rw [cY];exact h
 rw [List.take_succ_eq_append_getElem h1]
 simp [List.getD,h1]
theorem ir (s:ByteArray) (i:Nat):(nb s).getD i 0<256:=by
 by_cases h1:i<(nb s).length
 · rw [show (nb s).getD i 0=(nb s)[i] by simp [List.getD,h1]]
   exact JA (List.getElem_mem h1)
 · simp [List.getD,List.getElem?_eq_none (by omega:(nb s).length≤i)]
theorem rD {s:ByteArray} {i:Nat} (h:i<s.size):(nb s).drop i=(nb s).getD i 0::(nb s).drop (i+1):=by
 have h1:i<(nb s).length:=by rw [cY];exact h
 rw [List.drop_eq_getElem_cons h1]
 simp [List.getD,h1]
def CS (n:Nat):Nat:=if n % 2=1 then n/2 ^^^ 2197175160 else n/2
def xU:Nat→Nat→Nat
 | 0,n=>n
 | d+1,n=>xU d (CS n)
theorem Af {n:Nat} (h:n<4294967296):CS n<4294967296:=by
 unfold CS
 split
 · exact Nat.xor_lt_two_pow (n:=32) (by omega) (by omega)
 · omega
theorem AQ:∀ {d n:Nat},n<4294967296→xU d n<4294967296
 | 0,_,h=>h
 | d+1,_,h=>AQ (d:=d) (Af h)
def Cm:List Nat→Nat→Nat
 | [],n=>n
 | b::l,n=>Cm l (xU 8 (n ^^^ b))
theorem Dk:∀ {l:List Nat} {n:Nat},n<4294967296→(∀ b ∈ l,b<256)→Cm l n<4294967296
 | [],_,h,_=>h
 | b::l,n,h,hb=>by
  have:=hb b (oX ..)
  exact Dk (l:=l) (AQ (Nat.xor_lt_two_pow (n:=32) (by omega) (by omega))) (fun x hx=>hb x (qS _ hx))
def pn (s:ByteArray):Int:=4294967295-(Cm (nb s) 4294967295:Int)
theorem sS (s:ByteArray):0≤pn s∧pn s≤4294967295:=by
 have:=Dk (l:=nb s) (n:=4294967295) (by omega) (rz s)
 unfold pn
 omega
theorem EB {k:Nat} {L0:ByteArray→Int→Int→Option (Int × Unit)} {s:ByteArray} {i:Int}:∀ (d j m n:Nat),8-j=d→j≤8→d<m→n<4294967296→g8.l1 k L0 m s (n:Int) i (j:Int)=L0 s ((xU d n:Nat):Int) (aH (i+1))
 | 0,j,m,n,hd,hj,hm,hn=>by
  obtain ⟨m,rfl⟩:∃ q,m=q+1:=⟨m-1,by omega⟩
  have c:¬ ((j:Int)<8):=by omega
  simp only [g8.l1,g8.b1,decide_eq_false c,aK,xU]
 | d+1,j,m,n,hd,hj,hm,hn=>by
  obtain ⟨m,rfl⟩:∃ q,m=q+1:=⟨m-1,by omega⟩
  have c:((j:Int)<8):=by omega
  have ih:=EB (k:=k) (L0:=L0) (s:=s) (i:=i) d (j+1) m (CS n) (by omega) (by omega) (by omega) (Af hn)
  have hd2:aH (Int.tdiv (n:Int) 2)=((n/2:Nat):Int):=aE (n:=((n/2:Nat):Int)) (by omega) (by omega)
  have hx:=J3 (n:=n/2) (m:=2197175160) (by omega) (by omega)
  have hm2:Int.tmod (n:Int) 2=((n % 2:Nat):Int):=rfl
  have hj1:aH ((j:Int)+1)=((j+1:Nat):Int):=by rw [aE (by omega) (by omega)];omega
  simp only [g8.l1,g8.b1,decide_eq_true c,aX,hj1,hd2,hm2,xU]
  rw [← ih]
  unfold CS
  by_cases q:n % 2=1
  · rw [if_pos q,q,← hx]
    rfl
  · rw [if_neg q,show n % 2=0 by omega]
    rfl
theorem E6 {k:Nat} {L0:ByteArray→Int→Int→Option (Int × Unit)} {s:ByteArray} {i:Int}:∀ (d j m n:Nat),8-j=d→j≤8→d<m→n<4294967296→gQ.l1 k L0 m s (n:Int) i (j:Int)=L0 s ((xU d n:Nat):Int) (aH (i+1))
 | 0,j,m,n,hd,hj,hm,hn=>by
  obtain ⟨m,rfl⟩:∃ q,m=q+1:=⟨m-1,by omega⟩
  have c:¬ ((j:Int)<8):=by omega
  simp only [gQ.l1,gQ.b1,decide_eq_false c,aK,xU]
 | d+1,j,m,n,hd,hj,hm,hn=>by
  obtain ⟨m,rfl⟩:∃ q,m=q+1:=⟨m-1,by omega⟩
  have c:((j:Int)<8):=by omega
  have ih:=E6 (k:=k) (L0:=L0) (s:=s) (i:=i) d (j+1) m (CS n) (by omega) (by omega) (by omega) (Af hn)
  have hd2:Int.fdiv (n:Int) (2 ^ (Int.toNat 1))=((n/2:Nat):Int):=by
   show Int.fdiv (n:Int) 2=_
   rw [Int.fdiv_eq_ediv_of_nonneg _ (by omega)]
   omega
  have hx:=JC (n:=n/2) (m:=2197175160) (by omega) (by omega)
  have hj1:aH ((j:Int)+1)=((j+1:Nat):Int):=by rw [aE (by omega) (by omega)];omega
  simp only [gQ.l1,gQ.b1,decide_eq_true c,aX,hj1,hd2,KK hn,xU]
  rw [← ih]
  unfold CS
  by_cases q:n % 2=1
  · rw [if_pos q,q,← hx]
    rfl
  · rw [if_neg q,show n % 2=0 by omega]
    rfl
theorem JG {k:Nat} (hk:2 ^ 50≤k) {s:ByteArray} (hs:s.size≤1099511627776):∀ (d i n m:Nat),s.size-i=d→i≤s.size→n<4294967296→d<m →
 g8.l0 k m s (n:Int) (i:Int)=some (4294967295-(Cm ((nb s).drop i) n:Int),())∧gQ.l0 k m s (n:Int) (i:Int)=some (4294967295-(Cm ((nb s).drop i) n:Int),())
 | 0,i,n,m,hd,hi,hn,hm=>by
  obtain ⟨m,rfl⟩:∃ q,m=q+1:=⟨m-1,by omega⟩
  have c:¬ ((i:Int)<(s.size:Int)):=by omega
  have e1:aH (4294967295-(n:Int))=4294967295-(n:Int):=aE (by omega) (by omega)
  rw [List.drop_eq_nil_of_le (by rw [cY];omega)]
  constructor
  · simp only [g8.l0,g8.b0,decide_eq_false c,aK,e1,Cm]
  · simp only [gQ.l0,gQ.b0,decide_eq_false c,aK,KB hn,e1,Cm]
 | d+1,i,n,m,hd,hi,hn,hm=>by
  obtain ⟨m,rfl⟩:∃ q,m=q+1:=⟨m-1,by omega⟩
  have hlt:i<s.size:=by omega
  have c:((i:Int)<(s.size:Int)):=by omega
  have h0:=Int.natCast_nonneg i
  have hb:=ir s i
  have hat:=vY hlt
  rw [rD hlt]
  generalize (nb s).getD i 0=b at hb hat
  have w1:aH (b:Int)=(b:Int):=aE (by omega) (by omega)
  have w2:IntKind.wrap .u32 (b:Int)=(b:Int):=vH (by omega) (by omega)
  have hnb:n ^^^ b<4294967296:=Nat.xor_lt_two_pow (n:=32) (by omega) (by omega)
  have up:aH ((i:Int)+1)=((i+1:Nat):Int):=by rw [aE (by omega) (by omega)];omega
  obtain ⟨s1,s2⟩:=JG hk hs d (i+1) (xU 8 (n ^^^ b)) m (by omega) (by omega) (AQ hnb) (by omega)
  constructor
  · simp only [g8.l0,g8.b0,decide_eq_true c,aX,aG h0 c,hat,w1,J3 hn (show b<4294967296 by omega)]
    refine (EB 8 0 k (n ^^^ b) (by omega) (by omega) (by omega) hnb).trans ?_
    rw [up]
    exact s1
  · simp only [gQ.l0,gQ.b0,decide_eq_true c,aX,aG h0 c,hat,w2,JC hn (show b<4294967296 by omega)]
    refine (E6 8 0 k (n ^^^ b) (by omega) (by omega) (by omega) hnb).trans ?_
    rw [up]
    exact s2
theorem rx {k:Nat} (hk:2 ^ 50≤k) {s:ByteArray} (hs:s.size≤1099511627776):g8.f k s=some (pn s,()):=by
 have:=(JG hk hs s.size 0 4294967295 k (by omega) (by omega) (by omega) (by omega)).1
 rw [List.drop_zero] at this
 exact this
theorem vn {k:Nat} (hk:2 ^ 50≤k) {s:ByteArray} (hs:s.size≤1099511627776):gQ.f k s=some (pn s,()):=by
 have:=(JG hk hs s.size 0 4294967295 k (by omega) (by omega) (by omega) (by omega)).2
 rw [List.drop_zero] at this
 exact this
end Go.Proofs.YtdbekilnpjmeaaaGreatDoor.G
namespace Go.Proofs.YtdbekilnpjmeaaaGreatDoor.G
open Go.V
def eY (n:Nat):ByteArray:=bytesOf [((n/16777216 % 256:Nat):Int),((n/65536 % 256:Nat):Int),((n/256 % 256:Nat):Int),((n % 256:Nat):Int)]
theorem lx (n:Nat):(eY n).size=4:=rfl
theorem EU (n:Nat):nb (eY n)=[n/16777216 % 256,n/65536 % 256,n/256 % 256,n % 256] :=
 C5 (l:=[n/16777216 % 256,n/65536 % 256,n/256 % 256,n % 256]) (by simp;omega)
theorem DT {k:Nat} (hk:2 ^ 50≤k) {n:Nat} (h1:n<4294967296):dM.f k (n:Int) 4=some (eY n,()):=by
 have sz1:∀ x:Int,(bytesOf [x]).size=1:=fun x=>rfl
 have st:∀ (q m:Nat) (t:ByteArray) (j:Nat),m<4294967296→j<4→t.size≤100→dM.l0 k (q+1) (m:Int) 4 t (j:Int)=dM.l0 k q ((m/256:Nat):Int) 4 (bytesOf [((m % 256:Nat):Int)]++t) ((j+1:Nat):Int):=fun q m t j hm hj ht=>by
  have wd:aH (Int.tdiv (m:Int) 256)=((m/256:Nat):Int):=aE (n:=((m/256:Nat):Int)) (by omega) (by omega)
  have wm:IntKind.wrap .u8 (Int.tmod (m:Int) 256)=((m % 256:Nat):Int):=oQ (n:=((m % 256:Nat):Int)) (by omega) (by omega)
  have wj:aH ((j:Int)+1)=((j+1:Nat):Int):=by rw [aE (by omega) (by omega)];omega
  simp (disch:=omega) only [dM.l0,dM.b0,aM,aX,wd,wm,wj]
  rw [da (by rw [sz1];omega)]
 unfold dM.f dM.t
 rw [oB,aT]
 simp only [show decide ((1:Int)≤4∧(4:Int)≤7)=true by decide,fb,aK,aQ (show ¬ ((n:Int)<0) by omega)]
 obtain ⟨q,hq⟩:∃ q,k=q+5:=⟨k-5,by omega⟩
 refine (congrArg (fun z=>dM.l0 k z (n:Int) 4 ⟨#[]⟩ 0) hq).trans ?_
 refine (st (q+4) n _ 0 h1 (by omega) (by decide)).trans ?_
 refine (st (q+3) (n/256) _ 1 (by omega) (by omega) (by rw [ByteArray.size_append,sz1];decide)).trans ?_
 refine (st (q+2) (n/256/256) _ 2 (by omega) (by omega) (by rw [ByteArray.size_append,ByteArray.size_append,sz1,sz1];decide)).trans ?_
 refine (st (q+1) (n/256/256/256) _ 3 (by omega) (by omega) (by rw [ByteArray.size_append,ByteArray.size_append,ByteArray.size_append,sz1,sz1,sz1];decide)).trans ?_
 have c:¬ ((((3+1:Nat)):Int)<4):=by omega
 have c2:¬ (((n/256/256/256/256:Nat):Int) > 0):=by omega
 simp only [dM.l0,dM.b0,aQ c,aQ c2,aK]
 unfold eY
 congr 2
 rw [show n/256/256/256=n/16777216 by omega,show n/256/256=n/65536 by omega]
 apply ByteArray.ext
 simp [bytesOf,ByteArray.data_append]
theorem D8 {k:Nat} (hk:2 ^ 50≤k) {n:Nat} (h1:n<4294967296):dw.f k (n:Int) 4=some (eY n,()):=by
 have st:∀ (q j p:Nat) (i':Int) (xs:List Int),j≤3→p=2 ^ (8*j)→i'=(j:Int)-1→xs.length≤100→dw.l0 k (q+1) (n:Int) (j:Int) xs=dw.l0 k q (n:Int) i' (xs++[((n/p % 256:Nat):Int)]):=fun q j p i' xs hj hp hi hx=>by
  have e8:aH (8*(j:Int))=((8*j:Nat):Int):=by rw [aE (by omega) (by omega)];omega
  have e1:aH ((j:Int)-1)=i':=by rw [hi];exact aE (by omega) (by omega)
  have emin:min (8*j) (IntKind.bits .i64)=8*j:=by have:IntKind.bits .i64=64:=rfl;rw [this];omega
  have ew:IntKind.wrap .u8 (Int.fdiv (n:Int) (2 ^ (8*j)))=((n/p % 256:Nat):Int):=by
   have e2:((2:Int) ^ (8*j))=((p:Nat):Int):=by rw [hp,Int.natCast_pow];rfl
   rw [e2,Int.fdiv_eq_ediv_of_nonneg _ (by omega),← Int.natCast_ediv]
   generalize n/p=z
   unfold IntKind.wrap
   simp [IntKind.bits,IntKind.signed]
  simp (disch:=first | omega | decide) only [dw.l0,dw.b0,aM,aX,e8,bm,e1,ni,emin,ew]
  rw [aQ (by omega),aK]
 unfold dw.f dw.t
 rw [rO,aT]
 have c0:¬ (aH (8*4)<0):=by decide
 simp only [show decide ((1:Int)≤4∧(4:Int)≤7)=true by decide,fb,aK,aQ c0,show aH (aH (1*2 ^ min (Int.toNat (aH (8*4))) (IntKind.bits .i64))-1)=4294967295 by decide,rO,aT]
 rw [aM (show (0:Int)≤(n:Int)∧(n:Int)≤4294967295 by omega)]
 simp only [fb,aK,show aH ((4:Int)-1)=((3:Nat):Int) by decide]
 obtain ⟨q,hq⟩:∃ q,k=q+5:=⟨k-5,by omega⟩
 refine (congrArg (fun z=>dw.l0 k z (n:Int) ((3:Nat):Int) []) hq).trans ?_
 refine (st (q+4) 3 16777216 ((2:Nat):Int) _ (by omega) (by decide) (by decide) (by decide)).trans ?_
 refine (st (q+3) 2 65536 ((1:Nat):Int) _ (by omega) (by decide) (by decide) (by simp)).trans ?_
 refine (st (q+2) 1 256 ((0:Nat):Int) _ (by omega) (by decide) (by decide) (by simp)).trans ?_
 refine (st (q+1) 0 1 (-1) _ (by omega) (by decide) (by decide) (by simp)).trans ?_
 simp only [dw.l0,dw.b0,show decide ((-1:Int)≥0)=false by decide,aK,Nat.div_one]
 rfl
def tV (a:Int):ByteArray:=eY a.toNat
theorem jH (a:Int):(tV a).size=4:=rfl
theorem pZ {k:Nat} (hk:2 ^ 50≤k) {a:Int} (h0:0≤a) (h1:a≤4294967295):dM.f k a 4=some (tV a,()):=by
 obtain ⟨n,rfl⟩:=Int.eq_ofNat_of_zero_le h0
 exact DT hk (by omega)
theorem tM {k:Nat} (hk:2 ^ 50≤k) {a:Int} (h0:0≤a) (h1:a≤4294967295):dw.f k a 4=some (tV a,()):=by
 obtain ⟨n,rfl⟩:=Int.eq_ofNat_of_zero_le h0
 exact D8 hk (by omega)
theorem wS (s:ByteArray):(∃ x t,x<4294967296∧s=eY x++t)∨s.size<4:=by
 by_cases c:s.size<4
 · exact .inr c
 · left
   have h0:=rD (s:=s) (i:=0) (by omega)
   have h1:=rD (s:=s) (i:=1) (by omega)
   have h2:=rD (s:=s) (i:=2) (by omega)
   have h3:=rD (s:=s) (i:=3) (by omega)
   have b0:=ir s 0
   have b1:=ir s 1
   have b2:=ir s 2
   have b3:=ir s 3
   rw [h1,h2,h3,List.drop_zero] at h0
   generalize (nb s).getD 0 0=x0 at *
   generalize (nb s).getD 1 0=x1 at *
   generalize (nb s).getD 2 0=x2 at *
   generalize (nb s).getD 3 0=x3 at *
   refine ⟨((x0*256+x1)*256+x2)*256+x3,ByteArray.extract s 4 s.size,by omega,kV ?_⟩
   rw [iT,EU,ig,h0]
   simp only [List.cons_append,List.nil_append,List.drop_succ_cons,List.drop_zero,List.cons.injEq,and_true]
   refine ⟨?_,?_,?_,?_⟩ <;> omega
theorem uZ (x:Nat) (t:ByteArray):nb (eY x++t)=(x/16777216 % 256)::(x/65536 % 256)::(x/256 % 256)::(x % 256)::nb t:=by
 rw [iT,EU];rfl
theorem mZ (x:Nat) (t:ByteArray):(eY x++t).size=4+t.size:=by rw [ByteArray.size_append];rfl
theorem mv (k:Nat) (s:ByteArray):e7.f k s=some (decide (1≤(s.size:Int)∧(s.size:Int)≤8),()):=by
 unfold e7.f e7.t
 rw [oB];rfl
theorem mq (k:Nat) (s:ByteArray):fk.f k s=some (decide (1≤(s.size:Int)∧(s.size:Int)≤8),()):=by
 unfold fk.f fk.t
 rw [rO];rfl
def fG (a:Ty.den am):Bool :=
 bif a.1==1||a.1==4 then decide (1≤(a.2.2.1.size:Int)∧(a.2.2.1.size:Int)≤8)&&(decide ((a.2.2.2.1.size:Int)≤24)&&((a.2.2.2.2.1==0)&&((a.2.2.2.2.2.1==0)&&decide (1≤a.2.1∧a.2.1≤1000000))))
 else bif a.1==2 then decide (1≤(a.2.2.1.size:Int)∧(a.2.2.1.size:Int)≤8)&&(seq a.2.2.2.1 ⟨#[]⟩&&((a.2.2.2.2.1==0)&&((a.2.2.2.2.2.1==0)&&decide (1≤a.2.1∧a.2.1≤1000000))))
 else bif a.1==3 then seq a.2.2.1 ⟨#[]⟩&&(seq a.2.2.2.1 ⟨#[]⟩&&(decide (0≤a.2.2.2.2.1∧a.2.2.2.2.1≤8)&&(decide (0≤a.2.2.2.2.2.1∧a.2.2.2.2.2.1≤4294967295)&&decide (1≤a.2.1∧a.2.1≤1000000))))
 else bif a.1==5 then seq a.2.2.1 ⟨#[]⟩&&(seq a.2.2.2.1 ⟨#[]⟩&&(decide (0≤a.2.2.2.2.1∧a.2.2.2.2.1≤20)&&(decide (0≤a.2.2.2.2.2.1∧a.2.2.2.2.2.1≤4294967295)&&decide (0≤a.2.1∧a.2.1≤1000000))))
 else false
theorem Fm (s:ByteArray):seq s ByteArray.empty=seq s ⟨#[]⟩:=rfl
theorem i7 (k:Nat) (a:Ty.den am):fc.f k a=some (fG a,()):=by
 obtain ⟨ty,tx,key,tt,n,sm,u⟩:=a
 unfold fc.f fc.t fG
 simp only [rO,mq,aT,c9,Fm]
 change Int at ty tx n sm
 change ByteArray at key tt
 generalize decide (1≤(key.size:Int)∧(key.size:Int)≤8)=K
 generalize decide ((tt.size:Int)≤24)=L
 generalize decide (1≤tx∧tx≤1000000)=T1
 generalize decide (0≤tx∧tx≤1000000)=T0
 generalize decide (0≤n∧n≤8)=N1
 generalize decide (0≤n∧n≤20)=N2
 generalize decide (0≤sm∧sm≤4294967295)=S
 generalize (n==0)=Z1
 generalize (sm==0)=Z2
 generalize seq key ⟨#[]⟩=E1
 generalize seq tt ⟨#[]⟩=E2
 by_cases h1:ty=1
 · subst h1;simp;cases K <;> cases L <;> cases T1 <;> cases Z1 <;> cases Z2 <;> rfl
 by_cases h4:ty=4
 · subst h4;simp;cases K <;> cases L <;> cases T1 <;> cases Z1 <;> cases Z2 <;> rfl
 by_cases h2:ty=2
 · subst h2;simp;cases K <;> cases E2 <;> cases T1 <;> cases Z1 <;> cases Z2 <;> rfl
 by_cases h3:ty=3
 · subst h3;simp;cases E1 <;> cases E2 <;> cases T1 <;> cases N1 <;> cases S <;> rfl
 by_cases h5:ty=5
 · subst h5;simp;cases E1 <;> cases E2 <;> cases T0 <;> cases N2 <;> cases S <;> rfl
 have b1:(ty==1)=false:=mm h1
 have b2:(ty==2)=false:=mm h2
 have b3:(ty==3)=false:=mm h3
 have b4:(ty==4)=false:=mm h4
 have b5:(ty==5)=false:=mm h5
 have b6:(ty != 5)=true:=bne_iff_ne.2 h5
 simp only [b1,b2,b3,b4,b5,b6,Bool.or_false,aK,aX]
theorem A8 (k:Nat) (a:Ty.den am):js.f k a=some (fG a,()):=by
 obtain ⟨ty,tx,key,tt,n,sm,u⟩:=a
 unfold js.f js.t fG
 simp only [oB,mv,aT]
 change Int at ty tx n sm
 change ByteArray at key tt
 have q:decide (1≤tx∧tx≤1000000)=(decide (0≤tx∧tx≤1000000)&&!(tx==0)):=by
  rw [Bool.eq_iff_iff];simp;omega
 rw [q]
 generalize decide (1≤(key.size:Int)∧(key.size:Int)≤8)=K
 generalize decide ((tt.size:Int)≤24)=L
 generalize decide (0≤tx∧tx≤1000000)=T0
 generalize (tx==0)=T
 generalize decide (0≤n∧n≤8)=N1
 generalize decide (0≤n∧n≤20)=N2
 generalize decide (0≤sm∧sm≤4294967295)=S
 generalize (n==0)=Z1
 generalize (sm==0)=Z2
 generalize seq key ⟨#[]⟩=E1
 generalize seq tt ⟨#[]⟩=E2
 by_cases h1:ty=1
 · subst h1;simp;cases T0 <;> cases T <;> cases K <;> cases L <;> cases Z1 <;> cases Z2 <;> rfl
 by_cases h4:ty=4
 · subst h4;simp;cases T0 <;> cases T <;> cases K <;> cases L <;> cases Z1 <;> cases Z2 <;> rfl
 by_cases h2:ty=2
 · subst h2;simp;cases T0 <;> cases T <;> cases K <;> cases E2 <;> cases Z1 <;> cases Z2 <;> rfl
 by_cases h3:ty=3
 · subst h3;simp;cases T0 <;> cases T <;> cases E1 <;> cases E2 <;> cases N1 <;> cases S <;> rfl
 by_cases h5:ty=5
 · subst h5;simp;cases T0 <;> cases T <;> cases E1 <;> cases E2 <;> cases N2 <;> cases S <;> rfl
 have b1:(ty==1)=false:=mm h1
 have b2:(ty==2)=false:=mm h2
 have b3:(ty==3)=false:=mm h3
 have b4:(ty==4)=false:=mm h4
 have b5:(ty==5)=false:=mm h5
 have b6:(ty != 5)=true:=bne_iff_ne.2 h5
 simp only [b1,b2,b3,b4,b5,b6,Bool.or_false,aK,aX]
 cases T0 <;> cases T <;> rfl
def j5 (s:ByteArray):ByteArray:=gu (s.size:Int)++s
theorem lq (s:ByteArray):(j5 s).size≤7+s.size:=by
 unfold j5
 have:=bA (s.size:Int)
 rw [ByteArray.size_append]
 omega
def aF (a:Ty.den am):ByteArray :=
 if fG a=true then
  if a.1=1∨a.1=4 then gu a.1++(gu a.2.1++(j5 a.2.2.1++j5 a.2.2.2.1))
  else if a.1=2 then gu a.1++(gu a.2.1++j5 a.2.2.1)
  else gu a.1++(gu a.2.1++(gu a.2.2.2.2.1++tV a.2.2.2.2.2.1))
 else ⟨#[]⟩
theorem mY {a:Ty.den am} (h:fG a=true) :
 ((a.1=1∨a.1=4)∧1≤a.2.2.1.size∧a.2.2.1.size≤8∧a.2.2.2.1.size≤24∧a.2.2.2.2.1=0∧a.2.2.2.2.2.1=0∧1≤a.2.1∧a.2.1≤1000000) ∨
 (a.1=2∧1≤a.2.2.1.size∧a.2.2.1.size≤8∧a.2.2.2.1=⟨#[]⟩∧a.2.2.2.2.1=0∧a.2.2.2.2.2.1=0∧1≤a.2.1∧a.2.1≤1000000) ∨
 ((a.1=3∨a.1=5)∧a.2.2.1=⟨#[]⟩∧a.2.2.2.1=⟨#[]⟩∧0≤a.2.2.2.2.1∧a.2.2.2.2.1≤20∧0≤a.2.2.2.2.2.1∧a.2.2.2.2.2.1≤4294967295∧0≤a.2.1∧a.2.1≤1000000):=by
 obtain ⟨kd,bt,key,val,cn,sm,u⟩:=a
 change Int at kd bt cn sm
 change ByteArray at key val
 unfold fG at h
 simp only [] at h ⊢
 by_cases c:kd=1∨kd=4
 · have b:(kd==1||kd==4)=true:=by rcases c with c | c <;> rw [c] <;> rfl
   rw [b,aX] at h
   simp only [im,decide_eq_true_eq,beq_iff_eq] at h
   exact .inl ⟨c,by omega,by omega,by omega,h.2.2.1,h.2.2.2.1,h.2.2.2.2⟩
 · have b1:(kd==1)=false:=mm fun h=>c (.inl h)
   have b4:(kd==4)=false:=mm fun h=>c (.inr h)
   simp only [b1,b4,Bool.or_false,aK] at h
   cases b2:(kd==2) with
   | true =>
    rw [b2,aX] at h
    simp only [im,decide_eq_true_eq,beq_iff_eq,eT] at h
    exact .inr (.inl ⟨eq_of_beq b2,by omega,by omega,h.2.1,h.2.2.1,h.2.2.2.1,h.2.2.2.2⟩)
   | false =>
    rw [b2,aK] at h
    cases b3:(kd==3) with
    | true =>
     rw [b3,aX] at h
     simp only [im,decide_eq_true_eq,eT] at h
     exact .inr (.inr ⟨.inl (eq_of_beq b3),h.1,h.2.1,h.2.2.1.1,Int.le_trans h.2.2.1.2 (by decide),h.2.2.2.1.1,h.2.2.2.1.2,Int.le_trans (by decide) h.2.2.2.2.1,h.2.2.2.2.2⟩)
    | false =>
     rw [b3,aK] at h
     cases b5:(kd==5) with
     | true =>
      rw [b5,aX] at h
      simp only [im,decide_eq_true_eq,eT] at h
      exact .inr (.inr ⟨.inr (eq_of_beq b5),h.1,h.2.1,h.2.2.1.1,h.2.2.1.2,h.2.2.2.1.1,h.2.2.2.1.2,h.2.2.2.2.1,h.2.2.2.2.2⟩)
     | false =>
      rw [b5,aK] at h
      cases h
theorem vD {kd b cn sm:Int} {key val:ByteArray} (h:fG (kd,(b,(key,(val,(cn,(sm,()))))))=true) :
 ((kd=1∨kd=4)∧1≤key.size∧key.size≤8∧val.size≤24∧cn=0∧sm=0∧1≤b∧b≤1000000) ∨
 (kd=2∧1≤key.size∧key.size≤8∧val=⟨#[]⟩∧cn=0∧sm=0∧1≤b∧b≤1000000) ∨
 ((kd=3∨kd=5)∧key=⟨#[]⟩∧val=⟨#[]⟩∧0≤cn∧cn≤20∧0≤sm∧sm≤4294967295∧0≤b∧b≤1000000):=mY h
theorem dJ {k:Nat} (hk:2 ^ 50≤k) (a:Ty.den am):bd.f k a=some (aF a,()):=by
 unfold bd.f bd.t aF
 rw [A8,aT]
 cases hr:fG a with
 | false=>rfl
 | true =>
  have v1:=bA a.1
  have v2:=bA a.2.1
  have v3:=bA (a.2.2.1.size:Int)
  have v4:=bA (a.2.2.2.1.size:Int)
  have v5:=bA a.2.2.2.2.1
  have v6:=jH a.2.2.2.2.2.1
  simp only [fb,aK,if_true,j5]
  rcases mY hr with ⟨c,h⟩ | ⟨c,h⟩ | ⟨c,h⟩
  · rw [if_pos c]
    rcases c with c | c
    · have b1:(a.1==1)=true:=by rw [c];rfl
      simp (disch:=first | omega | (simp only [ByteArray.size_append];omega)) only [ga hk,aT,b1,aX,da,ag]
    · have b1:(a.1==1)=false:=by rw [c];rfl
      have b4:(a.1==4)=true:=by rw [c];rfl
      simp (disch:=first | omega | (simp only [ByteArray.size_append];omega)) only [ga hk,aT,b1,b4,aX,aK,da,ag]
  · have b1:(a.1==1)=false:=by rw [c];rfl
    have b4:(a.1==4)=false:=by rw [c];rfl
    have b2:(a.1==2)=true:=by rw [c];rfl
    rw [if_neg (show ¬ (a.1=1∨a.1=4) by rw [c];decide),if_pos c]
    simp (disch:=first | omega | (simp only [ByteArray.size_append];omega)) only [ga hk,aT,b1,b2,b4,aX,aK,da,ag]
  · have b1:(a.1==1)=false:=by rcases c with c | c <;> rw [c] <;> rfl
    have b4:(a.1==4)=false:=by rcases c with c | c <;> rw [c] <;> rfl
    have b2:(a.1==2)=false:=by rcases c with c | c <;> rw [c] <;> rfl
    rw [if_neg (show ¬ (a.1=1∨a.1=4) by rcases c with c | c <;> rw [c] <;> decide),if_neg (show ¬ a.1=2 by rcases c with c | c <;> rw [c] <;> decide)]
    obtain ⟨_,_,_,_,z1,z2,_⟩:=h
    simp (disch:=first | assumption | omega | (simp only [ByteArray.size_append];omega)) only [ga hk,pZ hk,aT,b1,b2,b4,aX,aK,da,ag]
theorem yv {k:Nat} (hk:2 ^ 50≤k) (x y:Int):du.f k [x,y]=some (gu x++gu y,()):=by
 have v1:=bA x
 have v2:=bA y
 obtain ⟨q,hq⟩:∃ q,k=q+3:=⟨k-3,by omega⟩
 refine (congrArg (fun z=>du.l0 k z ⟨#[]⟩ [x,y] 2 0) hq).trans ?_
 rw [show du.l0 k (q+3) ⟨#[]⟩ [x,y] 2 0=(fH.f k x).bind (fun r1=>kX ⟨#[]⟩ r1.1 (du.l0 k (q+2) (⟨#[]⟩++r1.1) [x,y] 2 1)) from rfl]
 rw [nB hk,aT]
 simp only []
 rw [da (by rw [show (⟨#[]⟩:ByteArray).size=0 from rfl];omega),pH]
 rw [show du.l0 k (q+2) (gu x) [x,y] 2 1=(fH.f k y).bind (fun r1=>kX (gu x) r1.1 (du.l0 k (q+1) (gu x++r1.1) [x,y] 2 2)) from rfl]
 rw [nB hk,aT]
 simp only []
 rw [da (by omega)]
 rfl
theorem mI {k:Nat} (hk:2 ^ 50≤k) {s:ByteArray} (hs:s.size≤1099511627776):ea.f k s=some (j5 s,()):=by
 have:=bA (s.size:Int)
 unfold ea.f ea.t j5
 simp (disch:=omega) only [nB hk,aT,da]
theorem nL {k:Nat} (hk:2 ^ 50≤k) (a:Ty.den am):fY.f k a=some (aF a,()):=by
 unfold fY.f fY.t aF
 rw [i7,aT]
 cases hr:fG a with
 | false=>rfl
 | true =>
  have v1:=bA a.1
  have v2:=bA a.2.1
  have v3:=lq a.2.2.1
  have v4:=lq a.2.2.2.1
  have v5:=bA a.2.2.2.2.1
  have v6:=jH a.2.2.2.2.2.1
  simp only [fb,aK,if_true,yv hk,aT]
  rcases mY hr with ⟨c,h⟩ | ⟨c,h⟩ | ⟨c,h⟩
  · rw [if_pos c]
    rcases c with c | c
    · have b1:(a.1==1)=true:=by rw [c];rfl
      simp (disch:=first | omega | (simp only [ByteArray.size_append];omega)) only [mI hk,aT,b1,aX,da,ag]
    · have b1:(a.1==1)=false:=by rw [c];rfl
      have b4:(a.1==4)=true:=by rw [c];rfl
      simp (disch:=first | omega | (simp only [ByteArray.size_append];omega)) only [mI hk,aT,b1,b4,aX,aK,da,ag]
  · have b1:(a.1==1)=false:=by rw [c];rfl
    have b4:(a.1==4)=false:=by rw [c];rfl
    have b2:(a.1==2)=true:=by rw [c];rfl
    rw [if_neg (show ¬ (a.1=1∨a.1=4) by rw [c];decide),if_pos c]
    simp (disch:=first | omega | (simp only [ByteArray.size_append];omega)) only [mI hk,aT,b1,b2,b4,aX,aK,da,ag]
  · have b1:(a.1==1)=false:=by rcases c with c | c <;> rw [c] <;> rfl
    have b4:(a.1==4)=false:=by rcases c with c | c <;> rw [c] <;> rfl
    have b2:(a.1==2)=false:=by rcases c with c | c <;> rw [c] <;> rfl
    rw [if_neg (show ¬ (a.1=1∨a.1=4) by rcases c with c | c <;> rw [c] <;> decide),if_neg (show ¬ a.1=2 by rcases c with c | c <;> rw [c] <;> decide)]
    obtain ⟨_,_,_,_,z1,z2,_⟩:=h
    simp (disch:=first | assumption | omega | (simp only [ByteArray.size_append];omega)) only [nB hk,tM hk,aT,b1,b2,b4,aX,aK,da,ag]
theorem kP (a:Ty.den am):(aF a).size≤60:=by
 unfold aF
 split
 · rename_i hr
   have v1:=bA a.1
   have v2:=bA a.2.1
   have v3:=lq a.2.2.1
   have v4:=lq a.2.2.2.1
   have v5:=bA a.2.2.2.2.1
   have v6:=jH a.2.2.2.2.2.1
   rcases mY hr with ⟨c,h⟩ | ⟨c,h⟩ | ⟨c,h⟩
   · rw [if_pos c]
     simp only [ByteArray.size_append];omega
   · rw [if_neg (show ¬ (a.1=1∨a.1=4) by rw [c];decide),if_pos c]
     simp only [ByteArray.size_append];omega
   · rw [if_neg (show ¬ (a.1=1∨a.1=4) by rcases c with c | c <;> rw [c] <;> decide),if_neg (show ¬ a.1=2 by rcases c with c | c <;> rw [c] <;> decide)]
     simp only [ByteArray.size_append];omega
 · exact Nat.zero_le _
def o9:List (Ty.den am)→ByteArray
 | []=>⟨#[]⟩
 | a::l=>aF a++o9 l
def xA (l:List (Ty.den am)):Int:=pn (o9 l)
theorem Hg (l:List (Ty.den am)):0≤xA l∧xA l≤4294967295:=sS _
theorem pS {k:Nat} (hk:2 ^ 50≤k) {l:List (Ty.den am)} (hl:l.length≤1073741824):fh.f k l=some (xA l,()):=by
 refine (eV (L:=fun n i s=>fh.l0 k n l s i) (R:=fun l s=>some (pn (s++o9 l),())) (Ty.dflt am) l (fun i s=>(s.size:Int)≤60*i) (fun n s hs=>?_) (fun n i s x rest h0 h1 hx hr hp ih=>?_) (n:=k) (s:=⟨#[]⟩) (by omega) (by decide)).trans (by rw [pH];rfl)
 · simp (disch:=omega) only [fh.l0,fh.b0,aQ,aK,rx hk,aT,o9,j0]
 · have hz:=kP x
   simp (disch:=omega) only [fh.l0,fh.b0,aM,aX,aG,hx,dJ hk,aT,da,aE]
   rw [ih _ (by rw [ByteArray.size_append];omega),o9,ag]
theorem zu {k:Nat} (hk:2 ^ 50≤k) {l:List (Ty.den am)} (hl:l.length≤1073741824):iQ.f k l=some (xA l,()):=by
 refine (eV (L:=fun n i s=>iQ.l0 k n s l l.length i) (R:=fun l s=>some (pn (s++o9 l),())) (Ty.dflt am) l (fun i s=>(s.size:Int)≤60*i) (fun n s hs=>?_) (fun n i s x rest h0 h1 hx hr hp ih=>?_) (n:=k) (s:=⟨#[]⟩) (by omega) (by decide)).trans (by rw [pH];rfl)
 · simp (disch:=omega) only [iQ.l0,iQ.b0,aQ,aK,vn hk,aT,o9,j0]
 · have hz:=kP x
   simp (disch:=omega) only [iQ.l0,iQ.b0,aM,aX,aG,hx,nL hk,aT,da,aE]
   rw [ih _ (by rw [ByteArray.size_append];omega),o9,ag]
end Go.Proofs.YtdbekilnpjmeaaaGreatDoor.G
namespace Go.Proofs.YtdbekilnpjmeaaaGreatDoor.G
open Go.V
theorem zQ {s:ByteArray} (hs:s.size≤4611686018427387904) (k:Nat):∀ (d i acc n:Nat),i+d=7→acc<128 ^ i→d<n →
 cV.l0 k n s (acc:Int) (i:Int)=some (match rv d ((nb s).drop i) with
  | some (a,m)=>if a=0∧0<i then (0,(0,())) else (((acc+a*128 ^ i:Nat):Int),(((i+m:Nat):Int),()))
  | none=>(0,(0,()))):=by
 intro d
 induction d with
 | zero =>
  intro i acc n h1 h2 h3
  obtain ⟨n,rfl⟩:∃ q,n=q+1:=⟨n-1,by omega⟩
  simp (disch:=omega) only [cV.l0,cV.b0,aQ,aK,rv]
 | succ d ih =>
  intro i acc n h1 h2 h3
  obtain ⟨n,rfl⟩:∃ q,n=q+1:=⟨n-1,by omega⟩
  by_cases hlt:i<s.size
  case neg =>
   rw [List.drop_eq_nil_of_le (by rw [cY];omega)]
   simp (disch:=omega) only [cV.l0,cV.b0,aM,aQ,aX,aK,rv]
  have hb:=ir s i
  have hat:=vY hlt
  have ih:=ih (i+1)
  rw [rD hlt]
  generalize (nb s).getD i 0=b at hb hat
  have e8:aH (7*(i:Int))=((7*i:Nat):Int):=by rw [aE (by omega) (by omega)];omega
  have emin:min (7*i) (IntKind.bits .i64)=7*i:=by have:IntKind.bits .i64=64:=rfl;rw [this];omega
  have ep:(2:Int) ^ (7*i)=((128 ^ i:Nat):Int):=by rw [Int.pow_mul,Int.natCast_pow];rfl
  have hp:128 ^ i≤128 ^ 6:=Nat.pow_le_pow_right (by decide) (by omega)
  rw [show (128:Nat) ^ 6=4398046511104 by decide] at hp
  have hps:128 ^ (i+1)=128 ^ i*128:=Nat.pow_succ ..
  have hb2:(b % 128)*128 ^ i≤127*128 ^ i:=Nat.mul_le_mul (by omega) (Nat.le_refl _)
  have ev:aH ((acc:Int)+aH (Int.tmod (b:Int) 128*2 ^ (7*i)))=((acc+b % 128*128 ^ i:Nat):Int):=by
   have e:Int.tmod (b:Int) 128*2 ^ (7*i)=((b % 128*128 ^ i:Nat):Int):=by
    rw [ep,Int.natCast_mul]
    rfl
   rw [e,aE (n:=((b % 128*128 ^ i:Nat):Int)) (by omega) (by omega),aE (by omega) (by omega)]
   omega
  have eb:aH ((b:Nat):Int)=(b:Int):=aE (by omega) (by omega)
  have ei:aH ((i:Int)+1)=((i+1:Nat):Int):=by rw [aE (by omega) (by omega)];omega
  have ih:=ih (acc+b % 128*128 ^ i) n (by omega) (by omega) (by omega)
  simp (disch:=omega) only [cV.l0,cV.b0,aM,aX,aG,hat,eb,e8,ni,emin,ev,ei]
  rw [aQ (by omega),aK]
  by_cases c:b≥128
  · rw [aM (show (b:Int)≥128 by omega),aX,ih,rv,if_pos c]
    cases q:rv d ((nb s).drop (i+1)) with
    | none=>rfl
    | some p =>
     obtain ⟨a,m⟩:=p
     simp only []
     by_cases z:a=0
     · simp [z]
     · have hm:a*128 ^ (i+1)=128*a*128 ^ i:=by rw [hps,Nat.mul_comm (128 ^ i),← Nat.mul_assoc,Nat.mul_comm a]
       rw [if_neg (by omega),if_neg z]
       simp only []
       rw [if_neg (by omega)]
       have e1:acc+b % 128*128 ^ i+a*128 ^ (i+1)=acc+(b % 128+128*a)*128 ^ i:=by rw [hm,Nat.add_mul];omega
       have e2:i+1+m=i+(m+1):=by omega
       rw [e1,e2]
  · have em:b % 128=b:=by omega
    rw [aQ (show ¬ (b:Int)≥128 by omega),aK,rv,if_neg c,em]
    by_cases z:b=0
    · subst z
      rw [show ((((0:Nat):Int)==0))=true from rfl,aX]
      by_cases hi:0<i
      · rw [aM (show (i:Int) > 0 by omega),aX]
        simp [hi]
      · rw [aQ (show ¬ (i:Int) > 0 by omega),aK]
        simp [hi]
    · rw [show ((b:Int)==0)=false from mm (by omega),aK]
      simp [z]
theorem nA {k:Nat} (hk:2 ^ 50≤k) {s:ByteArray} (hs:s.size≤4611686018427387904):cV.f k s=some (Db (rv 7 (nb s))):=by
 unfold cV.f cV.t
 refine (zQ hs k 7 0 0 k (by omega) (by decide) (by omega)).trans ?_
 rw [List.drop_zero]
 cases rv 7 (nb s) with
 | none=>rfl
 | some p=>simp [Db]
theorem EO {k:Nat} {L0:ByteArray→Int→Option (Int × Int × Unit)} {s:ByteArray} {n:Nat}:∀ (j x m:Nat),j<m→j≤s.size→j≤7→(x+1)*128 ^ j≤562949953421312 →
 aa.l1 k L0 m s (n:Int) (x:Int) ((j:Int)-1)=aa.l1 k L0 (m-j) s (n:Int) ((x*128 ^ j+rL ((nb s).take j):Nat):Int) (-1)
 | 0,x,m,hm,hs,h7,hx=>by simp [rL]
 | j+1,x,m,hm,hs,h7,hx=>by
  obtain ⟨m,rfl⟩:∃ q,m=q+1:=⟨m-1,by omega⟩
  have hj:j<s.size:=by omega
  have hb:=ir s j
  rw [Nat.pow_succ,← Nat.mul_assoc,Nat.mul_comm _ 128,← Nat.mul_assoc] at hx
  have hpos:1≤128 ^ j:=Nat.one_le_pow _ _ (by decide)
  have hx2:(128*(x+1))*1≤(128*(x+1))*128 ^ j:=Nat.mul_le_mul (Nat.le_refl _) hpos
  have hat:=vY hj
  have e0:((j+1:Nat):Int)-1=(j:Int):=by omega
  have c:(j:Int)≥0:=by omega
  have c2:(j:Int)<(s.size:Int):=by omega
  rw [Ft hj,Bu,List.length_take,cY,Nat.min_eq_left (by omega)]
  generalize (nb s).getD j 0=b at hb hat ⊢
  have w1:aH (((b:Nat):Int))=(b:Int):=aE (by omega) (by omega)
  have w2:aH ((x:Int)*128)=(x:Int)*128:=aE (by omega) (by omega)
  have w3:aH ((x:Int)*128+Int.tmod (b:Int) 128)=((x*128+b % 128:Nat):Int):=by
   have e:(x:Int)*128+Int.tmod (b:Int) 128=((x*128+b % 128:Nat):Int):=by
    show (x:Int)*128+((b % 128:Nat):Int)=_
    omega
   rw [e]
   exact aE (by omega) (by omega)
  have w4:aH ((j:Int)-1)=(j:Int)-1:=aE (by omega) (by omega)
  have hx3:(x*128+b % 128+1)*128 ^ j≤(128*(x+1))*128 ^ j:=Nat.mul_le_mul (by omega) (Nat.le_refl _)
  have ih:=EO (k:=k) (L0:=L0) (s:=s) (n:=n) j (x*128+b % 128) m (by omega) (by omega) (by omega) (by omega)
  rw [e0]
  simp only [aa.l1,aa.b1,decide_eq_true c,aX,aG c c2,hat,w1,w2,w3,w4]
  rw [ih,show m+1-(j+1)=m-j by omega]
  congr 2
  rw [Nat.pow_succ,Nat.add_mul,Nat.mul_assoc,Nat.mul_comm 128 (128 ^ j),Nat.mul_comm (b % 128)]
  omega
theorem Kk {s:ByteArray} {n:Nat} (h7:n≤7):rL ((nb s).take n)<562949953421312:=by
 have:=AH ((nb s).take n)
 have h1:((nb s).take n).length≤7:=by rw [List.length_take];omega
 have h2:(128:Nat) ^ ((nb s).take n).length≤128 ^ 7:=Nat.pow_le_pow_right (by decide) h1
 rw [show (128:Nat) ^ 7=562949953421312 by decide] at h2
 omega
theorem zd {k:Nat} (hk:2 ^ 50≤k) {s:ByteArray}:∀ (d i n:Nat),i+d=8→1≤i→d<n →
 aa.l0 k n s (i:Int)=some (match rv 7 (nb s) with | some (a,m)=>if i≤m then ((a:Int),((m:Int),())) else (0,(0,())) | none=>(0,(0,()))):=by
 have stop:∀ i,(7<i∨s.size<i)→(match rv 7 (nb s) with | some (a,m)=>if i≤m then ((a:Int),((m:Int),())) else (0,(0,())) | none=>(0,(0,())))=((0:Int),((0:Int),())):=by
  intro i hi
  cases q:rv 7 (nb s) with
  | none=>rfl
  | some p =>
   obtain ⟨a,m⟩:=p
   obtain ⟨_,_,_,h4,_,h6⟩:=pG 6 (nb s) a m (rz s) q
   rw [cY] at h4
   exact if_neg (by omega)
 intro d
 induction d with
 | zero =>
  intro i n h1 h2 h3
  obtain ⟨n,rfl⟩:∃ q,n=q+1:=⟨n-1,by omega⟩
  rw [stop i (by omega)]
  simp (disch:=omega) only [aa.l0,aa.b0,aQ,aK]
 | succ d ih =>
  intro i n h1 h2 h3
  obtain ⟨n,rfl⟩:∃ q,n=q+1:=⟨n-1,by omega⟩
  by_cases hs:i≤s.size
  case neg =>
   rw [stop i (by omega)]
   simp (disch:=omega) only [aa.l0,aa.b0,aM,aQ,aX,aK]
  have hp:(128:Nat) ^ i≤128 ^ 7:=Nat.pow_le_pow_right (by decide) (by omega)
  rw [show (128:Nat) ^ 7=562949953421312 by decide] at hp
  simp (disch:=omega) only [aa.l0,aa.b0,aM,aX,aE]
  refine (EO (k:=k) (L0:=aa.l0 k n) (s:=s) (n:=i) i 0 k (by omega) hs (by omega) (by omega)).trans ?_
  obtain ⟨m,hm⟩:∃ m,k-i=m+1:=⟨k-i-1,by omega⟩
  have hd7:=Kk (s:=s) (n:=i) (by omega)
  have hc:=Es (s:=s) (n:=i) h2 (by omega) hs
  rw [hm,Nat.zero_mul,Nat.zero_add]
  simp only [aa.l1,aa.b1,show decide ((-1:Int)≥0)=false by decide,aK,ga hk,aT,db hd7]
  rw [cD (by omega) (by omega),ni,hc,aE (by omega) (by omega)]
  have hw:=Ia (nb s) (rz s) 6 i h2 (by omega) (by rw [cY];exact hs)
  cases hq:qM ((nb s).take i) with
  | true =>
   obtain ⟨a,ha⟩:=hw.1 hq
   rw [aX,ha]
   simp only []
   rw [if_pos (Nat.le_refl _),JH (rz s) ha]
  | false =>
   have hnot:∀ a,rv 7 (nb s)≠some (a,i):=fun a ha=>by
    have:=hw.2 ⟨a,ha⟩
    rw [hq] at this
    cases this
   rw [aK]
   refine (ih (i+1) n (by omega) (by omega) (by omega)).trans ?_
   cases q:rv 7 (nb s) with
   | none=>rfl
   | some p =>
    obtain ⟨a,m'⟩:=p
    have:m'≠i:=fun e=>hnot a (by rw [q,e])
    simp only []
    by_cases c:i≤m'
    · rw [if_pos c,if_pos (by omega)]
    · rw [if_neg c,if_neg (by omega)]
theorem fO {k:Nat} (hk:2 ^ 50≤k) (s:ByteArray):aa.f k s=some (Db (rv 7 (nb s))):=by
 unfold aa.f aa.t
 refine (zd hk 7 1 k (by omega) (by omega) (by omega)).trans ?_
 cases q:rv 7 (nb s) with
 | none=>rfl
 | some p =>
  obtain ⟨a,m⟩:=p
  obtain ⟨_,_,_,_,h5,_⟩:=pG 6 (nb s) a m (rz s) q
  simp only [Db]
  rw [if_pos h5]
end Go.Proofs.YtdbekilnpjmeaaaGreatDoor.G
namespace Go.Proofs.YtdbekilnpjmeaaaGreatDoor.G
open Go.V
theorem oh {k:Nat} (hk:2 ^ 50≤k) {x:Nat} (hx:x<4294967296) (t:ByteArray):bP.f k (eY x++t) 4=some ((x:Int),(true,())):=by
 have hz:=mZ x t
 have st:∀ (q a j:Nat),j<4→a<4294967296→bP.l0 k (q+1) (eY x++t) 4 (a:Int) (j:Int)=bP.l0 k q (eY x++t) 4 ((a*256+(nb (eY x++t)).getD j 0:Nat):Int) ((j+1:Nat):Int):=fun q a j hj ha=>by
  have hb:=ir (eY x++t) j
  have hat:=vY (s:=eY x++t) (i:=j) (by omega)
  generalize (nb (eY x++t)).getD j 0=b at *
  have e1:aH (aH ((a:Int)*256)+aH (b:Int))=((a*256+b:Nat):Int):=by
   rw [aE (n:=(a:Int)*256) (by omega) (by omega),aE (n:=(b:Int)) (by omega) (by omega),aE (by omega) (by omega)]
   omega
  have ej:aH ((j:Int)+1)=((j+1:Nat):Int):=by rw [aE (by omega) (by omega)];omega
  simp (disch:=omega) only [bP.l0,bP.b0,aM,aX,aG,hat,e1,ej]
 unfold bP.f bP.t
 rw [oB,aT]
 simp only [show decide ((1:Int)≤4∧(4:Int)≤7)=true by decide,fb,aK,aQ (show ¬ (((eY x++t).size:Int)<4) by omega)]
 obtain ⟨q,hq⟩:∃ q,k=q+5:=⟨k-5,by omega⟩
 refine (congrArg (fun z=>bP.l0 k z (eY x++t) 4 0 0) hq).trans ?_
 refine (st (q+4) 0 0 (by omega) (by omega)).trans ?_
 rw [uZ]
 simp only [List.getD_cons_zero,Nat.zero_mul,Nat.zero_add]
 refine (st (q+3) _ 1 (by omega) (by omega)).trans ?_
 rw [uZ]
 simp only [List.getD_cons_zero,List.getD_cons_succ]
 refine (st (q+2) _ 2 (by omega) (by omega)).trans ?_
 rw [uZ]
 simp only [List.getD_cons_zero,List.getD_cons_succ]
 refine (st (q+1) _ 3 (by omega) (by omega)).trans ?_
 rw [uZ]
 simp only [List.getD_cons_zero,List.getD_cons_succ]
 simp only [bP.l0,bP.b0,show decide ((((3+1:Nat)):Int)<4)=false by decide,aK]
 congr 3
 omega
theorem ot {k:Nat} (hk:2 ^ 50≤k) {x:Nat} (hx:x<4294967296) (t:ByteArray):bh.f k (eY x++t) 4=some ((x:Int),(true,())):=by
 have hz:=mZ x t
 have st:∀ (q a j:Nat),j<4→a<16777216→bh.l0 k (q+1) (eY x++t) (a:Int) 4 (j:Int)=bh.l0 k q (eY x++t) ((a*256+(nb (eY x++t)).getD j 0:Nat):Int) 4 ((j+1:Nat):Int):=fun q a j hj ha=>by
  have hb:=ir (eY x++t) j
  have hat:=vY (s:=eY x++t) (i:=j) (by omega)
  generalize (nb (eY x++t)).getD j 0=b at *
  have e0:aH ((a:Int)*2 ^ min (Int.toNat 8) (IntKind.bits .i64))=((a*256:Nat):Int):=by
   rw [show (2:Int) ^ min (Int.toNat 8) (IntKind.bits .i64)=256 by decide,aE (by omega) (by omega)]
   omega
  have e2:aH (b:Int)=(b:Int):=aE (by omega) (by omega)
  have ej:aH ((j:Int)+1)=((j+1:Nat):Int):=by rw [aE (by omega) (by omega)];omega
  simp (disch:=omega) only [bh.l0,bh.b0,aM,aX,aG,hat,e0,e2,ej]
  rw [Kj (by omega) hb]
 unfold bh.f bh.t
 rw [rO,aT]
 simp only [show decide ((1:Int)≤4∧(4:Int)≤7)=true by decide,fb,aK,aQ (show ¬ (((eY x++t).size:Int)<4) by omega)]
 obtain ⟨q,hq⟩:∃ q,k=q+5:=⟨k-5,by omega⟩
 refine (congrArg (fun z=>bh.l0 k z (eY x++t) 0 4 0) hq).trans ?_
 refine (st (q+4) 0 0 (by omega) (by omega)).trans ?_
 rw [uZ]
 simp only [List.getD_cons_zero,Nat.zero_mul,Nat.zero_add]
 refine (st (q+3) _ 1 (by omega) (by omega)).trans ?_
 rw [uZ]
 simp only [List.getD_cons_zero,List.getD_cons_succ]
 refine (st (q+2) _ 2 (by omega) (by omega)).trans ?_
 rw [uZ]
 simp only [List.getD_cons_zero,List.getD_cons_succ]
 refine (st (q+1) _ 3 (by omega) (by omega)).trans ?_
 rw [uZ]
 simp only [List.getD_cons_zero,List.getD_cons_succ]
 simp only [bh.l0,bh.b0,show decide ((((3+1:Nat)):Int)<4)=false by decide,aK]
 congr 3
 omega
theorem tL (k:Nat) {s:ByteArray} (h:s.size<4):bP.f k s 4=some (0,(false,())):=by
 unfold bP.f bP.t
 rw [oB,aT]
 simp only [show decide ((1:Int)≤4∧(4:Int)≤7)=true by decide,fb,aK,aM (show (s.size:Int)<4 by omega),aX]
theorem t6 (k:Nat) {s:ByteArray} (h:s.size<4):bh.f k s 4=some (0,(false,())):=by
 unfold bh.f bh.t
 rw [rO,aT]
 simp only [show decide ((1:Int)≤4∧(4:Int)≤7)=true by decide,fb,aK,aM (show (s.size:Int)<4 by omega),aX]
end Go.Proofs.YtdbekilnpjmeaaaGreatDoor.G
namespace Go.Proofs.YtdbekilnpjmeaaaGreatDoor.G
open Go.V
def aN (s:ByteArray):ByteArray:=if s.size > 200 then ⟨#[]⟩ else tV (pn (j5 s))++j5 s
theorem lL (s:ByteArray):(aN s).size≤211:=by
 unfold aN
 split
 · exact Nat.zero_le _
 · have:=lq s
   rw [ByteArray.size_append,jH];omega
theorem kx {s:ByteArray} (h:s.size≤200):5≤(aN s).size:=by
 unfold aN
 rw [if_neg (by omega),ByteArray.size_append,jH]
 unfold j5
 rw [db (by omega),ByteArray.size_append]
 have:=ah s.size
 omega
theorem lQ {k:Nat} (hk:2 ^ 50≤k) (s:ByteArray):eP.f k s=some (aN s,()):=by
 unfold eP.f eP.t aN
 by_cases c:s.size > 200
 · rw [aM (show (s.size:Int) > 200 by omega),aX,if_pos c]
 · have h1:=bA (s.size:Int)
   have h2:=sS (gu (s.size:Int)++s)
   rw [aQ (show ¬ (s.size:Int) > 200 by omega),aK,if_neg c]
   unfold j5
   simp (disch:=first | omega | (simp only [ByteArray.size_append,jH];omega)) only [ga hk,aT,da,rx hk]
   rw [pZ hk h2.1 h2.2,aT,da (by simp only [ByteArray.size_append,jH];omega)]
theorem mn {k:Nat} (hk:2 ^ 50≤k) (s:ByteArray):gA.f k s=some (aN s,()):=by
 unfold gA.f gA.t aN
 by_cases c:s.size > 200
 · rw [aM (show (s.size:Int) > 200 by omega),aX,if_pos c]
 · have h1:=lq s
   have h2:=sS (j5 s)
   rw [aQ (show ¬ (s.size:Int) > 200 by omega),aK,if_neg c]
   simp (disch:=omega) only [mI hk,aT,vn hk]
   rw [tM hk h2.1 h2.2,aT,da (by rw [jH];omega)]
end Go.Proofs.YtdbekilnpjmeaaaGreatDoor.G
namespace Go.Proofs.YtdbekilnpjmeaaaGreatDoor.G
open Go.V
theorem aO (a b:ByteArray):(a++b).size=a.size+b.size:=ByteArray.size_append ..
theorem qP (a b t:ByteArray):ByteArray.extract (a++(b++t)) (a.size+b.size) (a++(b++t)).size=t:=by
 have:=eU (a++b) t
 rw [aO,ag] at this
 exact this
theorem Kh (a b t:ByteArray):ByteArray.extract (a++(b++t)) a.size (a.size+b.size)=b:=kV (by
 rw [ri,iT,iT,List.take_append,List.take_of_length_le (by rw [cY];omega),cY,show a.size+b.size-a.size=b.size by omega,List.drop_left' (cY a),List.take_left' (cY b)])
theorem tI (a b:Nat):((a:Int)+(b:Int))=((a+b:Nat):Int):=rfl
theorem ng {k:Nat} (hk:2 ^ 50≤k) {a:Nat} {t:ByteArray} (ha:a<562949953421312) (hs:t.size≤1099511627776):cV.f k (bE a++t)=some ((a:Int),(((bE a).size:Int),())):=by
 have:=ah a
 rw [nA hk (by rw [aO];omega),qi ha];rfl
theorem md {k:Nat} (hk:2 ^ 50≤k) {s:ByteArray} (h:rv 7 (nb s)=none) (hs:s.size≤1099511627776):cV.f k s=some (0,(0,())):=by
 rw [nA hk (by omega),h];rfl
theorem cN {k:Nat} (hk:2 ^ 50≤k) {a:Nat} {t:ByteArray} (ha:a<562949953421312):aa.f k (bE a++t)=some ((a:Int),(((bE a).size:Int),())):=by
 rw [fO hk,qi ha];rfl
theorem jY {k:Nat} (hk:2 ^ 50≤k) {s:ByteArray} (h:rv 7 (nb s)=none):aa.f k s=some (0,(0,())):=by
 rw [fO hk,h];rfl
theorem iv {k:Nat} (hk:2 ^ 50≤k) {a:Nat} {t:ByteArray} (ha:a<562949953421312) (hs:t.size≤1099511627776):aw.f k (bE a++t,(false,()))=some ((t,(false,())),((a:Int),())):=by
 have h1:=ah a
 unfold aw.f aw.t
 rw [ng hk ha hs,aT]
 simp only [aK]
 rw [show (((bE a).size:Int)==0)=false from mm (by omega),aK,cD (by omega) (by rw [aO];omega),ni,eU]
theorem pM {k:Nat} (hk:2 ^ 50≤k) {s:ByteArray} (h:rv 7 (nb s)=none) (hs:s.size≤1099511627776):aw.f k (s,(false,()))=some ((s,(true,())),(0,())):=by
 unfold aw.f aw.t
 rw [md hk h hs,aT]
 rfl
theorem GK {k:Nat} (hk:2 ^ 50≤k) {s:ByteArray} (hs:s.size≤1099511627776):aw.f k (s,(true,()))=some ((s,(true,())),(0,())):=by
 unfold aw.f aw.t
 rw [nA hk (show s.size≤_ by omega),aT]
 rfl
theorem wl (k:Nat) (u t:ByteArray):aq.f k (u++t,(false,())) (u.size:Int)=some ((t,(false,())),(u,())):=by
 unfold aq.f aq.t
 simp only [aK]
 rw [aQ (by rw [aO];omega),aK,cD (by omega) (by rw [aO];omega),cD (by omega) (by rw [aO];omega),ni,eU,BA]
theorem yE (k:Nat) {s:ByteArray} {n:Int} (h:n > (s.size:Int)):aq.f k (s,(false,())) n=some ((s,(true,())),(⟨#[]⟩,())):=by
 unfold aq.f aq.t
 simp only [aK]
 rw [aM h,aX]
theorem sj (k:Nat) (s:ByteArray) (n:Int):aq.f k (s,(true,())) n=some ((s,(true,())),(⟨#[]⟩,())):=by
 unfold aq.f aq.t
 rfl
theorem nV (s:ByteArray):(∃ u t,u.size<562949953421312∧s=bE u.size++(u++t))∨rv 7 (nb s)=none∨(∃ a t,a<562949953421312∧s=bE a++t∧t.size<a):=by
 rcases mU s with ⟨a,t,ha,rfl⟩ | h
 · by_cases c:t.size<a
   · exact .inr (.inr ⟨a,t,ha,rfl,c⟩)
   · have e:=B_ t (n:=a) (by omega)
     have hz:(ByteArray.extract t 0 a).size=a:=by rw [← cY,nW,List.length_take,cY];omega
     exact .inl ⟨_,_,by rw [hz];exact ha,by rw [hz,← e]⟩
 · exact .inr (.inl h)
theorem np {k:Nat} (hk:2 ^ 50≤k) {u t:ByteArray} (hu:u.size<562949953421312) (hs:(u++t).size≤1099511627776):aj.f k (bE u.size++(u++t),(false,()))=some ((t,(false,())),(u,())):=by
 unfold aj.f aj.t
 rw [iv hk hu hs,aT]
 simp only []
 rw [wl,aT]
theorem vq {k:Nat} (hk:2 ^ 50≤k) {s:ByteArray} (hs:s.size≤1099511627776):aj.f k (s,(true,()))=some ((s,(true,())),(⟨#[]⟩,())):=by
 unfold aj.f aj.t
 rw [GK hk hs,aT]
 simp only []
 rw [sj,aT]
theorem wW {k:Nat} (hk:2 ^ 50≤k) {s:ByteArray} (hs:s.size≤1099511627776) (h:rv 7 (nb s)=none∨(∃ a t,a<562949953421312∧s=bE a++t∧t.size<a)):∃ s',s'.size≤1099511627776∧aj.f k (s,(false,()))=some ((s',(true,())),(⟨#[]⟩,())):=by
 unfold aj.f aj.t
 rcases h with h | ⟨a,t,ha,rfl,ht⟩
 · refine ⟨s,hs,?_⟩
   rw [pM hk h hs,aT]
   simp only []
   rw [sj,aT]
 · have:=ah a
   rw [aO] at hs
   refine ⟨t,by omega,?_⟩
   rw [iv hk ha (by omega),aT]
   simp only []
   rw [yE k (by omega),aT]
theorem uE {k:Nat} (hk:2 ^ 50≤k) {u t:ByteArray} (hu:u.size<562949953421312) (hs:(u++t).size≤1099511627776):cJ.f k (bE u.size++(u++t))=some (u,(t,(true,()))):=by
 have h1:=ah u.size
 have h2:(bE u.size++(u++t)).size=(bE u.size).size+(u.size+t.size):=by rw [aO,aO]
 rw [aO] at hs
 unfold cJ.f cJ.t
 rw [cN hk hu,aT]
 simp only []
 rw [show (((bE u.size).size:Int)==0)=false from mm (by omega),aK,aE (by omega) (by omega),aQ (by omega),aK,tI,aE (by omega) (by omega),
  tR (by omega) (by omega) (by omega),cD (by omega) (by omega),ni,ni,Kh,qP]
theorem vi {k:Nat} (hk:2 ^ 50≤k) {s:ByteArray} (hs:s.size≤1099511627776) (h:rv 7 (nb s)=none∨(∃ a t,a<562949953421312∧s=bE a++t∧t.size<a)):cJ.f k s=some (⟨#[]⟩,(⟨#[]⟩,(false,()))):=by
 unfold cJ.f cJ.t
 rcases h with h | ⟨a,t,ha,rfl,ht⟩
 · rw [jY hk h,aT];rfl
 · have:=ah a
   rw [aO] at hs
   rw [cN hk ha,aT]
   simp only []
   rw [show (((bE a).size:Int)==0)=false from mm (by omega),aK,aE (by rw [aO];omega) (by rw [aO];omega),aM (by rw [aO];omega),aX]
section
open Classical
variable {α:Type}
noncomputable def oL (ok:α→Prop) (shw:α→ByteArray) (z:α) (s:ByteArray):α × Bool:=if h:∃ r,ok r∧shw r=s then (h.choose,true) else (z,false)
theorem AX {ok:α→Prop} {shw:α→ByteArray} {z:α} {s:ByteArray} {r:α} (h:oL ok shw z s=(r,true)):ok r∧shw r=s:=by
 unfold oL at h
 split at h
 · rename_i q
   obtain rfl:=(Prod.mk.inj h).1
   exact q.choose_spec
 · cases (Prod.mk.inj h).2
theorem Dp {ok:α→Prop} {shw:α→ByteArray} {z:α} {s:ByteArray} (h:(oL ok shw z s).2=false):oL ok shw z s=(z,false):=by
 unfold oL at h ⊢
 split
 · rename_i q;rw [dif_pos q] at h;cases h
 · rfl
theorem m6 (ok:α→Prop) (shw:α→ByteArray) (z:α) (s:ByteArray):(∃ r,ok r∧shw r=s∧oL ok shw z s=(r,true))∨oL ok shw z s=(z,false):=by
 cases h:(oL ok shw z s).2 with
 | false=>exact .inr (Dp h)
 | true =>
  have e:oL ok shw z s=((oL ok shw z s).1,true):=by rw [← h]
  exact .inl ⟨_,(AX e).1,(AX e).2,e⟩
theorem rF {ok:α→Prop} {shw:α→ByteArray} {z:α} {s:ByteArray} {f:Option (α × Bool × Unit)} (h1:∀ r,ok r→shw r=s→f=some (r,(true,())))
 (h2:(∃ r,ok r∧shw r=s∧f=some (r,(true,())))∨f=some (z,(false,()))):f=some ((oL ok shw z s).1,((oL ok shw z s).2,())):=by
 rcases m6 ok shw z s with ⟨r,a,b,e⟩ | e
 · rw [e,h1 r a b]
 · rcases h2 with ⟨r,a,b,_⟩ | h2
   · unfold oL at e
     rw [dif_pos ⟨r,a,b⟩] at e
     cases (Prod.mk.inj e).2
   · rw [e,h2]
theorem Dx {ok:α→Prop} {shw:α→ByteArray} {z:α} {r:α} (hi:∀ a b,ok a→ok b→shw a=shw b→a=b) (h:ok r):oL ok shw z (shw r)=(r,true):=by
 rcases m6 ok shw z (shw r) with ⟨q,a,b,e⟩ | e
 · rw [e,hi q r a h b]
 · unfold oL at e
   rw [dif_pos ⟨r,h,rfl⟩] at e
   cases (Prod.mk.inj e).2
end
abbrev s8:Ty.den am:=(0,(0,(ByteArray.empty,(ByteArray.empty,(0,(0,()))))))
theorem yt {a:Ty.den am} (h:fG a=true) :
 (∃ (b:Nat) (kd:Nat),(kd=1∨kd=4)∧b≤1000000∧a=((kd:Int),((b:Int),(a.2.2.1,(a.2.2.2.1,(0,(0,()))))))∧a.2.2.1.size≤8∧a.2.2.2.1.size≤24 ∧
  aF a=bE kd++(bE b++(bE a.2.2.1.size++(a.2.2.1++(bE a.2.2.2.1.size++(a.2.2.2.1++⟨#[]⟩)))))) ∨
 (∃ (b:Nat),b≤1000000∧a=(2,((b:Int),(a.2.2.1,(ByteArray.empty,(0,(0,()))))))∧a.2.2.1.size≤8∧aF a=bE 2++(bE b++(bE a.2.2.1.size++(a.2.2.1++⟨#[]⟩)))) ∨
 (∃ (b kd c x:Nat),(kd=3∨kd=5)∧b≤1000000∧c≤20∧x<4294967296∧a=((kd:Int),((b:Int),(ByteArray.empty,(ByteArray.empty,((c:Int),((x:Int),()))))))∧aF a=bE kd++(bE b++(bE c++(eY x++⟨#[]⟩)))):=by
 have hh:=h
 obtain ⟨kd,b,key,val,c,x,u⟩:=a
 change Int at kd b c x
 change ByteArray at key val
 rcases vD h with ⟨hc,h⟩ | ⟨hc,h⟩ | ⟨hc,h⟩
 · obtain ⟨z1,z2,z3,z4,z5,z6,z7⟩:=h
   subst z4;subst z5
   obtain ⟨b,rfl⟩:=Int.eq_ofNat_of_zero_le (show 0≤b by omega)
   left
   refine ⟨b,kd.toNat,by omega,by omega,?_,z2,z3,?_⟩
   · rw [show ((kd.toNat:Nat):Int)=kd by omega]
   · unfold aF
     rw [if_pos hh,if_pos hc]
     simp only [j5]
     rw [db (by omega),db (by omega),db (by omega),j0,ag,show gu kd=bE kd.toNat by rw [← db (show kd.toNat<562949953421312 by omega)];congr 1;omega]
 · obtain ⟨z1,z2,z3,z4,z5,z6,z7⟩:=h
   subst z3;subst z4;subst z5;subst hc
   obtain ⟨b,rfl⟩:=Int.eq_ofNat_of_zero_le (show 0≤b by omega)
   right;left
   refine ⟨b,by omega,rfl,z2,?_⟩
   unfold aF
   rw [if_pos hh,if_neg (show ¬ ((2:Int)=1∨(2:Int)=4) by decide),if_pos rfl]
   simp only [j5]
   rw [db (by omega),db (by omega),j0]
   rfl
 · obtain ⟨z1,z2,z3,z4,z5,z6,z7,z8⟩:=h
   subst z1;subst z2
   obtain ⟨b,rfl⟩:=Int.eq_ofNat_of_zero_le (show 0≤b by omega)
   obtain ⟨c,rfl⟩:=Int.eq_ofNat_of_zero_le (show 0≤c by omega)
   obtain ⟨x,rfl⟩:=Int.eq_ofNat_of_zero_le (show 0≤x by omega)
   right;right
   refine ⟨b,kd.toNat,c,x,by omega,by omega,by omega,by omega,?_,?_⟩
   · rw [show ((kd.toNat:Nat):Int)=kd by omega];rfl
   · unfold aF
     rw [if_pos hh,if_neg (show ¬ (kd=1∨kd=4) by omega),if_neg (show ¬ kd=2 by omega)]
     simp only []
     rw [db (by omega),db (by omega),j0,show gu kd=bE kd.toNat by rw [← db (show kd.toNat<562949953421312 by omega)];congr 1;omega]
     rfl
theorem Cl {a:Ty.den am} {s:ByteArray} (h:aF a=s) (hs:s≠⟨#[]⟩):fG a=true:=by
 cases c:fG a with
 | true=>rfl
 | false=>unfold aF at h;rw [c] at h;exact absurd h.symm hs
theorem Iw {kd:Nat} (h:kd≠1):((kd:Int)==1)=false:=mm (by omega)
theorem JD {kd:Nat} (h:kd≠2):((kd:Int)==2)=false:=mm (by omega)
theorem Iy {kd:Nat} (h:kd≠4):((kd:Int)==4)=false:=mm (by omega)
theorem Js:(((1:Nat):Int)==1)=true:=rfl
theorem Jd:(((4:Nat):Int)==1)=false:=rfl
theorem K2:(((4:Nat):Int)==4)=true:=rfl
theorem Jk:(((2:Nat):Int)==1)=false:=rfl
theorem K3:(((2:Nat):Int)==2)=true:=rfl
theorem Jn:(((2:Nat):Int)==4)=false:=rfl
theorem Ky:((0:Int)==1)=false:=rfl
theorem Kx:((0:Int)==4)=false:=rfl
theorem Kv:((0:Int)==2)=false:=rfl
theorem e0:(⟨#[]⟩:ByteArray).size=0:=rfl
theorem Gc {kd b:Nat} {key val:ByteArray} (hb:b<562949953421312) (hc:kd=1∨kd=4) (h:fG ((kd:Int),((b:Int),(key,(val,(0,(0,()))))))=true) :
 aF ((kd:Int),((b:Int),(key,(val,(0,(0,()))))))=bE kd++(bE b++(bE key.size++(key++(bE val.size++(val++⟨#[]⟩))))):=by
 rcases vD h with ⟨_,h1⟩ | ⟨h0,_⟩ | ⟨h0,_⟩
 · unfold aF
   rw [if_pos h,if_pos (show ((kd:Int)=1∨(kd:Int)=4) by omega)]
   simp only [j5]
   rw [db (by omega),db hb,db (by omega),db (by omega),j0,ag]
 · omega
 · omega
theorem G1 {b:Nat} {key:ByteArray} (hb:b<562949953421312) (h:fG (((2:Nat):Int),((b:Int),(key,(ByteArray.empty,(0,(0,()))))))=true) :
 aF (((2:Nat):Int),((b:Int),(key,(ByteArray.empty,(0,(0,()))))))=bE 2++(bE b++(bE key.size++(key++⟨#[]⟩))):=by
 rcases vD h with ⟨h0,_⟩ | ⟨_,h1⟩ | ⟨h0,_⟩
 · omega
 · unfold aF
   rw [if_pos h,if_neg (show ¬ (((2:Nat):Int)=1∨((2:Nat):Int)=4) by decide),if_pos (show ((2:Nat):Int)=2 from rfl)]
   simp only [j5]
   rw [db (by omega),db hb,db (by omega),j0]
 · omega
theorem HS {kd b c x:Nat} (hb:b<562949953421312) (hx:c<562949953421312) (hc:kd≠1∧kd≠2∧kd≠4) (h:fG ((kd:Int),((b:Int),(ByteArray.empty,(ByteArray.empty,((c:Int),((x:Int),()))))))=true) :
 aF ((kd:Int),((b:Int),(ByteArray.empty,(ByteArray.empty,((c:Int),((x:Int),()))))))=bE kd++(bE b++(bE c++(eY x++⟨#[]⟩))):=by
 rcases vD h with ⟨h0,_⟩ | ⟨h0,_⟩ | ⟨_,h1⟩
 · omega
 · omega
 · unfold aF
   rw [if_pos h,if_neg (show ¬ ((kd:Int)=1∨(kd:Int)=4) by omega),if_neg (show ¬ (kd:Int)=2 by omega)]
   simp only []
   have hk5:kd≤5:=by omega
   rw [db (by omega),db hb,db hx,j0]
   rfl
theorem oG {k:Nat} (hk:2 ^ 50≤k) {a:Ty.den am} (h:fG a=true):cW.f k (aF a)=some (a,(true,())):=by
 unfold cW.f cW.t
 rcases yt h with ⟨b,kd,hc,hb,ha,z1,z2,e⟩ | ⟨b,hb,ha,z1,e⟩ | ⟨b,kd,c,x,hc,hb,z1,z2,ha,e⟩
 · rw [e]
   rw [ha] at h
   conv=>rhs;rw [ha]
   have v1:=ah kd
   have v2:=ah b
   have v3:=ah a.2.2.1.size
   have v4:=ah a.2.2.2.1.size
   rcases hc with rfl | rfl
   · simp (disch:=first | omega | (simp only [aO,e0];omega)) only [iv hk,np hk,aT,aX,aK,Js,c9,fb,i7,h]
   · simp (disch:=first | omega | (simp only [aO,e0];omega)) only [iv hk,np hk,aT,aX,aK,Jd,K2,c9,fb,i7,h]
 · rw [e]
   rw [ha] at h
   conv=>rhs;rw [ha]
   have v1:=ah 2
   have v2:=ah b
   have v3:=ah a.2.2.1.size
   simp (disch:=first | omega | (simp only [aO,e0];omega)) only [iv hk,np hk,aT,aX,aK,Jk,K3,Jn,c9,fb,i7]
   rw [show ((2:Nat):Int)=2 from rfl,h]
   rfl
 · rw [e,ha]
   rw [ha] at h
   have v1:=ah kd
   have v2:=ah b
   have v3:=ah c
   have v4:=lx x
   have hby:=wl k (eY x) ⟨#[]⟩
   rw [lx] at hby
   have hrf:=ot hk z2 ⟨#[]⟩
   rw [j0] at hrf
   rw [show (((4:Nat)):Int)=4 from rfl] at hby
   simp (disch:=first | omega | (simp only [aO,e0];omega)) only [iv hk,hby,hrf,aT,aX,aK,Iw,JD,Iy,c9,fb,i7,h]
theorem vB {k:Nat} (hk:2 ^ 50≤k) {s:ByteArray} (hs:s.size≤1099511627776) :
 (∃ r,fG r=true∧aF r=s∧cW.f k s=some (r,(true,())))∨cW.f k s=some (s8,(false,())):=by
 have rf0:=t6 k (s:=⟨#[]⟩) (by decide)
 unfold cW.f cW.t
 rcases mU s with ⟨kd,t,hkd,rfl⟩ | h0
 case inr =>
  right
  simp (disch:=first | omega | (simp only [aO,e0];omega)) only [pM hk h0,GK hk,sj k,rf0,aT,aX,aK,Ky,Kv,Kx]
 have v1:=ah kd
 rw [aO] at hs
 rcases mU t with ⟨b,t2,hb,rfl⟩ | h1
 case inr =>
  right
  by_cases c1:kd=1
  · subst c1
    simp (disch:=first | omega | (simp only [aO,e0];omega)) only [iv hk,pM hk h1,vq hk,aT,aX,aK,Js]
  by_cases c4:kd=4
  · subst c4
    simp (disch:=first | omega | (simp only [aO,e0];omega)) only [iv hk,pM hk h1,vq hk,aT,aX,aK,Jd,K2]
  by_cases c2:kd=2
  · subst c2
    simp (disch:=first | omega | (simp only [aO,e0];omega)) only [iv hk,pM hk h1,vq hk,aT,aX,aK,Jk,Jn,K3]
  · simp (disch:=first | omega | (simp only [aO,e0];omega)) only [iv hk,pM hk h1,GK hk,sj k,rf0,aT,aX,aK,Iw c1,JD c2,Iy c4]
 have v2:=ah b
 rw [aO] at hs
 by_cases c2:kd=2
 · subst c2
   rcases nV t2 with ⟨key,t3,hu,rfl⟩ | bad
   case inr =>
    right
    obtain ⟨s',hs',e⟩:=wW hk (by omega) bad
    simp (disch:=first | omega | (simp only [aO,e0];omega)) only [iv hk,e,aT,aX,aK,Jk,Jn,K3]
   have v3:=ah key.size
   simp only [aO] at hs
   simp (disch:=first | omega | (simp only [aO,e0];omega)) only [iv hk,np hk,aT,aX,aK,Jk,Jn,K3]
   by_cases c:t3=⟨#[]⟩
   · subst c
     simp only [c9,fb,aK,i7,aT]
     cases hr:fG (((2:Nat):Int),((b:Int),(key,(ByteArray.empty,(0,(0,())))))) with
     | true=>exact .inl ⟨_,hr,G1 hb hr,rfl⟩
     | false=>exact .inr rfl
   · rw [kh c]
     exact .inr rfl
 by_cases c1:kd=1∨kd=4
 · have hcc:(bif ((kd:Int)==1) then true else ((kd:Int)==4))=true:=by rcases c1 with rfl | rfl <;> rfl
   rcases nV t2 with ⟨key,t3,hu,rfl⟩ | bad
   case inr =>
    right
    obtain ⟨s',hs',e⟩:=wW hk (by omega) bad
    rcases c1 with rfl | rfl
    · simp (disch:=first | omega | (simp only [aO,e0];omega)) only [iv hk,e,vq hk hs',aT,aX,aK,Js]
    · simp (disch:=first | omega | (simp only [aO,e0];omega)) only [iv hk,e,vq hk hs',aT,aX,aK,Jd,K2]
   have v3:=ah key.size
   simp only [aO] at hs
   rcases nV t3 with ⟨val,t4,hv,rfl⟩ | bad
   case inr =>
    right
    obtain ⟨s',hs',e⟩:=wW hk (by omega) bad
    rcases c1 with rfl | rfl
    · simp (disch:=first | omega | (simp only [aO,e0];omega)) only [iv hk,np hk,e,aT,aX,aK,Js]
    · simp (disch:=first | omega | (simp only [aO,e0];omega)) only [iv hk,np hk,e,aT,aX,aK,Jd,K2]
   have v4:=ah val.size
   simp only [aO] at hs
   have fin:(bif !seq t4 ⟨#[]⟩ then some (s8,(false,())) else bif !fG ((kd:Int),((b:Int),(key,(val,(0,(0,())))))) then some (s8,(false,())) else some (((kd:Int),((b:Int),(key,(val,(0,(0,())))))),(true,())))=cW.t k (bE kd++(bE b++(bE key.size++(key++(bE val.size++(val++t4)))))):=by
    unfold cW.t
    rcases c1 with rfl | rfl
    · simp (disch:=first | omega | (simp only [aO,e0];omega)) only [iv hk,np hk,aT,aX,aK,Js,i7]
    · simp (disch:=first | omega | (simp only [aO,e0];omega)) only [iv hk,np hk,aT,aX,aK,Jd,K2,i7]
   change (∃ r,fG r=true∧aF r=_∧cW.t k _=some (r,(true,())))∨cW.t k _=some (s8,(false,()))
   rw [← fin]
   by_cases c:t4=⟨#[]⟩
   · subst c
     simp only [c9,fb,aK]
     cases hr:fG ((kd:Int),((b:Int),(key,(val,(0,(0,())))))) with
     | true=>exact .inl ⟨_,hr,Gc hb c1 hr,rfl⟩
     | false=>exact .inr rfl
   · rw [kh c]
     exact .inr rfl
 have d1:kd≠1:=fun q=>c1 (.inl q)
 have d4:kd≠4:=fun q=>c1 (.inr q)
 rcases mU t2 with ⟨c,t3,hc,rfl⟩ | h2
 case inr =>
  right
  simp (disch:=first | omega | (simp only [aO,e0];omega)) only [iv hk,pM hk h2,sj k,rf0,aT,aX,aK,Iw d1,JD c2,Iy d4]
 have v3:=ah c
 rw [aO] at hs
 rcases wS t3 with ⟨x,t4,hx,rfl⟩ | h3
 case inr =>
  right
  have e:=yE k (s:=t3) (n:=4) (by omega)
  simp (disch:=first | omega | (simp only [aO,e0];omega)) only [iv hk,e,rf0,aT,aX,aK,Iw d1,JD c2,Iy d4]
 rw [mZ] at hs
 have hby:=wl k (eY x) t4
 rw [lx,show (((4:Nat)):Int)=4 from rfl] at hby
 have hrf:=ot hk hx ⟨#[]⟩
 rw [j0] at hrf
 simp (disch:=first | omega | (simp only [aO,e0,lx];omega)) only [iv hk,hby,hrf,aT,aK,Iw d1,JD c2,Iy d4,i7]
 by_cases cc:t4=⟨#[]⟩
 · subst cc
   simp only [c9,fb,aK]
   cases hr:fG ((kd:Int),((b:Int),(ByteArray.empty,(ByteArray.empty,((c:Int),((x:Int),())))))) with
   | true=>exact .inl ⟨_,hr,HS hb hc ⟨d1,c2,d4⟩ hr,rfl⟩
   | false=>exact .inr rfl
 · rw [kh cc]
   exact .inr rfl
end Go.Proofs.YtdbekilnpjmeaaaGreatDoor.G
namespace Go.Proofs.YtdbekilnpjmeaaaGreatDoor.G
open Go.V
theorem jh (a b:Nat):Int.toNat ((a:Int)+(b:Int))=a+b:=by omega
theorem vz (a:Nat):(((bE a).size:Int)==0)=false:=mm (by have:=ah a;omega)
theorem oO (a:Nat) (t:ByteArray):bE a++t≠⟨#[]⟩:=fun h=>by
 have:=congrArg ByteArray.size h
 rw [aO,e0] at this
 have:=ah a
 omega
theorem oo {r:Ty.den am} {s:ByteArray} (hs:s≠⟨#[]⟩) :
 (∃ r',fG r'=true∧aF r'=s∧(bif !seq (aF r) s then some (s8,(false,())) else bif seq s ⟨#[]⟩ then some (s8,(false,())) else some (r,(true,())))=some (r',(true,()))) ∨
 (bif !seq (aF r) s then some (s8,(false,())) else bif seq s ⟨#[]⟩ then some (s8,(false,())) else some (r,(true,())))=some (s8,(false,())):=by
 by_cases c:aF r=s
 · exact .inl ⟨r,Cl c hs,c,by rw [IW c,kh hs];rfl⟩
 · rw [kh c];exact .inr rfl
theorem xV {k:Nat} (hk:2 ^ 50≤k) {a:Ty.den am} (h:fG a=true):e9.f k (aF a)=some (a,(true,())):=by
 unfold e9.f e9.t
 rcases yt h with ⟨b,kd,hc,hb,ha,z1,z2,e⟩ | ⟨b,hb,ha,z1,e⟩ | ⟨b,kd,c,x,hc,hb,z1,z2,ha,e⟩
 · have hs:aF ((kd:Int),((b:Int),(a.2.2.1,(a.2.2.2.1,(0,(0,()))))))=bE kd++(bE b++(bE a.2.2.1.size++(a.2.2.1++(bE a.2.2.2.1.size++(a.2.2.2.1++⟨#[]⟩))))):=by rw [← ha];exact e
   rw [e]
   conv=>rhs;rw [ha]
   have v1:=ah kd
   have v2:=ah b
   have v3:=ah a.2.2.1.size
   have v4:=ah a.2.2.2.1.size
   rcases hc with rfl | rfl
   · simp (disch:=first | omega | (simp only [aO,e0];omega)) only [cN hk,uE hk,aT,ni,eU,vz,aX,aK,aE,cD,jh,qP,Js,dJ hk,hs,c9,fb,kh (oO _ _)]
   · simp (disch:=first | omega | (simp only [aO,e0];omega)) only [cN hk,uE hk,aT,ni,eU,vz,aX,aK,aE,cD,jh,qP,Jd,K2,dJ hk,hs,c9,fb,kh (oO _ _)]
 · have hs:aF (((2:Nat):Int),((b:Int),(a.2.2.1,(ByteArray.empty,(0,(0,()))))))=bE 2++(bE b++(bE a.2.2.1.size++(a.2.2.1++⟨#[]⟩))):=by rw [show ((2:Nat):Int)=2 from rfl,← ha];exact e
   rw [e]
   conv=>rhs;rw [ha]
   have v1:=ah 2
   have v2:=ah b
   have v3:=ah a.2.2.1.size
   simp (disch:=first | omega | (simp only [aO,e0];omega)) only [cN hk,uE hk,aT,ni,eU,vz,aX,aK,aE,cD,jh,qP,Jk,Jn,K3,dJ hk,hs,c9,fb,kh (oO _ _)]
   rfl
 · have hs:aF ((kd:Int),((b:Int),(ByteArray.empty,(ByteArray.empty,((c:Int),((x:Int),()))))))=bE kd++(bE b++(bE c++(eY x++⟨#[]⟩))):=by rw [← ha];exact e
   rw [e,ha]
   have v1:=ah kd
   have v2:=ah b
   have v3:=ah c
   have v4:=lx x
   simp (disch:=first | omega | (simp only [aO,e0];omega)) only [cN hk,oh hk z2,aT,ni,eU,vz,aX,aK,aE,cD,jh,qP,Iw,JD,Iy,dJ hk,hs,c9,fb,kh (oO _ _)]
theorem v7 {k:Nat} (hk:2 ^ 50≤k) {s:ByteArray} (hs:s.size≤1099511627776) :
 (∃ r,fG r=true∧aF r=s∧e9.f k s=some (r,(true,())))∨e9.f k s=some (s8,(false,())):=by
 unfold e9.f e9.t
 rcases mU s with ⟨kd,t,hkd,rfl⟩ | h0
 case inr =>
  right
  rw [jY hk h0,aT]
  simp only []
  rw [cD (by omega) (by omega),fO hk,aT]
  rfl
 have v1:=ah kd
 rw [aO] at hs
 rcases mU t with ⟨b,t2,hb,rfl⟩ | h1
 case inr =>
  right
  simp (disch:=first | omega | (simp only [aO,e0];omega)) only [cN hk,jY hk h1,aT,ni,eU,vz,aX,aK,aE,cD,show (((0:Int)==0))=true from rfl]
 have v2:=ah b
 rw [aO] at hs
 by_cases c2:kd=2
 · subst c2
   rcases nV t2 with ⟨key,t3,hu,rfl⟩ | bad
   · simp only [aO] at hs
     simp (disch:=first | omega | (simp only [aO,e0];omega)) only [cN hk,uE hk,aT,ni,eU,vz,aX,aK,aE,cD,jh,qP,Jk,Jn,K3,dJ hk]
     exact oo (oO _ _)
   · have hb5:=vi hk (by omega) bad
     simp (disch:=first | omega | (simp only [aO,e0];omega)) only [cN hk,hb5,aT,ni,eU,vz,aX,aK,aE,cD,jh,qP,Jk,Jn,K3,dJ hk]
     exact oo (oO _ _)
 by_cases c1:kd=1∨kd=4
 · have em:cJ.f k ⟨#[]⟩=some (⟨#[]⟩,(⟨#[]⟩,(false,()))):=vi hk (by decide) (.inl rfl)
   obtain ⟨u,l,bb,hl,e⟩:∃ u l bb,l.size≤1099511627776∧cJ.f k t2=some (u,(l,(bb,()))):=by
    rcases nV t2 with ⟨key,t3,hu,rfl⟩ | bad
    · simp only [aO] at hs
      exact ⟨_,_,_,by omega,uE hk hu (by simp only [aO];omega)⟩
    · exact ⟨_,_,_,by decide,vi hk (by omega) bad⟩
   obtain ⟨u2,l2,bb2,e2⟩:∃ u l' bb,cJ.f k l=some (u,(l',(bb,()))):=by
    rcases nV l with ⟨key,t3,hu,rfl⟩ | bad
    · exact ⟨_,_,_,uE hk hu (by simp only [aO] at hl ⊢;omega)⟩
    · exact ⟨_,_,_,vi hk hl bad⟩
   rcases c1 with rfl | rfl
   · simp (disch:=first | omega | (simp only [aO,e0];omega)) only [cN hk,e,e2,aT,ni,eU,vz,aX,aK,aE,cD,jh,qP,Js,dJ hk]
     exact oo (oO _ _)
   · simp (disch:=first | omega | (simp only [aO,e0];omega)) only [cN hk,e,e2,aT,ni,eU,vz,aX,aK,aE,cD,jh,qP,Jd,K2,dJ hk]
     exact oo (oO _ _)
 have d1:kd≠1:=fun q=>c1 (.inl q)
 have d4:kd≠4:=fun q=>c1 (.inr q)
 have rf:∀ u:ByteArray,∃ z zb,bP.f k u 4=some (z,(zb,())):=fun u=>by
  rcases wS u with ⟨x,t,hx,rfl⟩ | q
  · exact ⟨_,_,oh hk hx t⟩
  · exact ⟨_,_,tL k q⟩
 rcases mU t2 with ⟨c,t3,hc,rfl⟩ | h2
 · have v3:=ah c
   rw [aO] at hs
   obtain ⟨z,zb,e⟩:=rf t3
   simp (disch:=first | omega | (simp only [aO,e0];omega)) only [cN hk,e,aT,ni,eU,vz,aX,aK,aE,cD,jh,qP,Iw d1,JD c2,Iy d4,dJ hk]
   exact oo (oO _ _)
 · obtain ⟨z,zb,e⟩:=rf (ByteArray.extract t2 (Int.toNat 0) t2.size)
   simp (disch:=first | omega | (simp only [aO,e0];omega)) only [cN hk,jY hk h2,e,aT,ni,eU,vz,aX,aK,aE,cD,jh,qP,Iw d1,JD c2,Iy d4,dJ hk]
   exact oo (oO _ _)
noncomputable def i6 (s:ByteArray):Ty.den am × Bool:=oL (fun r=>fG r=true) aF s8 s
theorem pz {k:Nat} (hk:2 ^ 50≤k) {s:ByteArray} (hs:s.size≤1099511627776):cW.f k s=some ((i6 s).1,((i6 s).2,())) :=
 rF (fun r h1 h2=>by rw [← h2];exact oG hk h1) (vB hk hs)
theorem qc {k:Nat} (hk:2 ^ 50≤k) {s:ByteArray} (hs:s.size≤1099511627776):e9.f k s=some ((i6 s).1,((i6 s).2,())) :=
 rF (fun r h1 h2=>by rw [← h2];exact xV hk h1) (v7 hk hs)
theorem BK {a b:Ty.den am} (ha:fG a=true) (hb:fG b=true) (h:aF a=aF b):a=b:=by
 have h1:=oG (k:=2 ^ 50) (Nat.le_refl _) ha
 rw [h,oG (Nat.le_refl _) hb] at h1
 exact (Prod.mk.inj (Option.some.inj h1)).1.symm
theorem tS {a:Ty.den am} (h:fG a=true):i6 (aF a)=(a,true):=Dx (fun _ _ ha hb=>BK ha hb) h
theorem CM {s:ByteArray} {r:Ty.den am} (h:i6 s=(r,true)):fG r=true∧aF r=s:=AX h
theorem pa {t:ByteArray} (h:t.size≤200):∃ x,x<4294967296∧aN t=eY x++(bE t.size++t):=by
 have:=sS (j5 t)
 refine ⟨(pn (j5 t)).toNat,by omega,?_⟩
 unfold aN tV
 rw [if_neg (by omega)]
 unfold j5
 rw [db (by omega)]
theorem Ff {t u s r:ByteArray} (ht:t.size≤200) (hu:u.size≤200) (h:aN t++s=aN u++r):t=u∧s=r:=by
 obtain ⟨x,hx,e⟩:=pa ht
 obtain ⟨y,hy,f⟩:=pa hu
 rw [e,f,ag,ag,ag,ag] at h
 have h2:=(rA h rfl).2
 obtain ⟨h3,h4⟩:=wL (by omega) (by omega) h2
 exact rA h4 h3
theorem ye (x:Nat) (u:ByteArray):ByteArray.extract (eY x++u) 4 (eY x++u).size=u:=eU (eY x) u
theorem KR (x:Nat) (v t r:ByteArray):ByteArray.extract (eY x++(v++(t++r))) (4+v.size) (4+v.size+t.size)=t:=by
 have:=Kh (eY x++v) t r
 rw [aO,lx,ag] at this
 exact this
theorem Iu (x:Nat) (v t r:ByteArray):ByteArray.extract (eY x++(v++(t++r))) 0 (4+v.size+t.size)=eY x++(v++t):=by
 have:=BA (eY x++(v++t)) r
 rw [aO,aO,lx,ag,ag,← Nat.add_assoc] at this
 exact this
theorem c4 (a:Nat):(4:Int)+(a:Int)=((4+a:Nat):Int):=rfl
theorem w7 {k:Nat} (hk:2 ^ 50≤k) {x:Nat} {t r:ByteArray} (ht:t.size≤200) (hr:t.size+r.size≤1099511627776) :
 eS.f k (eY x++(bE t.size++(t++r)))=bif !seq (aN t) (eY x++(bE t.size++t)) then some (⟨#[]⟩,(0,())) else some (t,(((4+(bE t.size).size+t.size:Nat):Int),())):=by
 have v1:=ah t.size
 have z1:(eY x++(bE t.size++(t++r))).size=4+((bE t.size).size+(t.size+r.size)):=by rw [mZ,aO,aO]
 unfold eS.f eS.t
 rw [aQ (by omega),aK,cD (by omega) (by omega),ye,ng hk (by omega) (by rw [aO];omega),aT]
 simp only [vz,aK]
 rw [aQ (by omega),aK,aE (n:=((eY x++(bE t.size++(t++r))).size:Int)-4) (by omega) (by omega),aE (n:=((eY x++(bE t.size++(t++r))).size:Int)-4-_) (by omega) (by omega),aQ (by omega),aK,
  c4,aE (by omega) (by omega),tI,aE (by omega) (by omega),tR (by omega) (by omega) (by omega),ni,ni,KR,mn hk,aT,cD (by omega) (by omega),Iu]
theorem wq {k:Nat} (hk:2 ^ 50≤k) {x:Nat} {t r:ByteArray} (ht:t.size≤200) (hr:t.size+r.size≤1099511627776) :
 dU.f k (eY x++(bE t.size++(t++r)))=bif !seq (aN t) (eY x++(bE t.size++t)) then some (⟨#[]⟩,(0,())) else some (t,(((4+(bE t.size).size+t.size:Nat):Int),())):=by
 have v1:=ah t.size
 have z1:(eY x++(bE t.size++(t++r))).size=4+((bE t.size).size+(t.size+r.size)):=by rw [mZ,aO,aO]
 unfold dU.f dU.t
 rw [aQ (by omega),aK,cD (by omega) (by omega),ye,cN hk (by omega),aT]
 simp only [vz,aK]
 rw [aQ (by omega),aK,aE (n:=((eY x++(bE t.size++(t++r))).size:Int)-4) (by omega) (by omega),aE (n:=((eY x++(bE t.size++(t++r))).size:Int)-4-_) (by omega) (by omega),aQ (by omega),aK,
  c4,aE (by omega) (by omega),tI,aE (by omega) (by omega),tR (by omega) (by omega) (by omega),ni,ni,KR,lQ hk,cD (by omega) (by omega),aT,Iu,
  show seq (eY x++(bE t.size++t)) (aN t)=seq (aN t) (eY x++(bE t.size++t)) by rw [EJ,EJ];exact decide_eq_decide.2 ⟨Eq.symm,Eq.symm⟩]
theorem H5 (s:ByteArray) (hs:s.size≤1099511627776):(∃ x t r,x<4294967296∧t.size≤200∧t.size+r.size≤1099511627776∧s=eY x++(bE t.size++(t++r)))∨s.size<5∨(∃ x u,x<4294967296∧s=eY x++u∧1≤u.size∧rv 7 (nb u)=none) ∨
 (∃ x a u,x<4294967296∧a<562949953421312∧s=eY x++(bE a++u)∧(200<a∨u.size<a)):=by
 rcases wS s with ⟨x,u,hx,rfl⟩ | h
 · rw [mZ] at hs
   rcases mU u with ⟨a,v,ha,rfl⟩ | h
   · rw [aO] at hs
     by_cases c:200<a∨v.size<a
     · exact .inr (.inr (.inr ⟨x,a,v,hx,ha,rfl,c⟩))
     · left
       have e:=B_ v (n:=a) (by omega)
       have hz:(ByteArray.extract v 0 a).size=a:=by rw [← cY,nW,List.length_take,cY];omega
       refine ⟨x,ByteArray.extract v 0 a,ByteArray.extract v a v.size,hx,by omega,?_,by rw [hz,← e]⟩
       have:=congrArg ByteArray.size e
       rw [aO] at this
       omega
   · by_cases c:1≤u.size
     · exact .inr (.inr (.inl ⟨x,u,hx,rfl,c,h⟩))
     · exact .inr (.inl (by rw [mZ];omega))
 · exact .inr (.inl (by omega))
theorem uq {k:Nat} (hk:2 ^ 50≤k) {s:ByteArray} (hs:s.size≤1099511627776) (h:s.size<5∨(∃ x u,x<4294967296∧s=eY x++u∧1≤u.size∧rv 7 (nb u)=none) ∨
 (∃ x a u,x<4294967296∧a<562949953421312∧s=eY x++(bE a++u)∧(200<a∨u.size<a))):eS.f k s=some (⟨#[]⟩,(0,())):=by
 unfold eS.f eS.t
 rcases h with h | ⟨x,u,hx,rfl,hu,h⟩ | ⟨x,a,u,hx,ha,rfl,h⟩
 · by_cases c:s.size<4
   · rw [aM (by omega),aX]
   · have e:ByteArray.extract s 4 s.size=⟨#[]⟩:=kV (by rw [ig,List.drop_eq_nil_of_le (by rw [cY];omega)];rfl)
     rw [aQ (by omega),aK,cD (by omega) (by omega),e,md hk rfl (by decide),aT]
     rfl
 · rw [mZ] at hs
   rw [aQ (by rw [mZ];omega),aK,cD (by omega) (by rw [mZ];omega),ye,md hk h (by omega),aT]
   rfl
 · have v1:=ah a
   have z1:(eY x++(bE a++u)).size=4+((bE a).size+u.size):=by rw [mZ,aO]
   rw [aQ (by omega),aK,cD (by omega) (by omega),ye,ng hk ha (by omega),aT]
   simp only [vz,aK]
   by_cases c:200<a
   · rw [aM (by omega),aX]
   · rw [aQ (by omega),aK,aE (n:=((eY x++(bE a++u)).size:Int)-4) (by omega) (by omega),aE (n:=((eY x++(bE a++u)).size:Int)-4-_) (by omega) (by omega),aM (by omega),aX]
theorem v_ {k:Nat} (hk:2 ^ 50≤k) {s:ByteArray} (hs:s.size≤1099511627776) (h:s.size<5∨(∃ x u,x<4294967296∧s=eY x++u∧1≤u.size∧rv 7 (nb u)=none) ∨
 (∃ x a u,x<4294967296∧a<562949953421312∧s=eY x++(bE a++u)∧(200<a∨u.size<a))):dU.f k s=some (⟨#[]⟩,(0,())):=by
 unfold dU.f dU.t
 rcases h with h | ⟨x,u,hx,rfl,hu,h⟩ | ⟨x,a,u,hx,ha,rfl,h⟩
 · rw [aM (by omega),aX]
 · rw [mZ] at hs
   rw [aQ (by rw [mZ];omega),aK,cD (by omega) (by rw [mZ];omega),ye,jY hk h,aT]
   rfl
 · have v1:=ah a
   have z1:(eY x++(bE a++u)).size=4+((bE a).size+u.size):=by rw [mZ,aO]
   rw [aQ (by omega),aK,cD (by omega) (by omega),ye,cN hk ha,aT]
   simp only [vz,aK]
   by_cases c:200<a
   · rw [aM (by omega),aX]
   · rw [aQ (by omega),aK,aE (n:=((eY x++(bE a++u)).size:Int)-4) (by omega) (by omega),aE (n:=((eY x++(bE a++u)).size:Int)-4-_) (by omega) (by omega),aM (by omega),aX]
section
open Classical
noncomputable def iV (s:ByteArray):ByteArray × Int:=if h:∃ t r,t.size≤200∧s=aN t++r then (h.choose,((aN h.choose).size:Int)) else (⟨#[]⟩,0)
theorem ox {t:ByteArray} (r:ByteArray) (h:t.size≤200):iV (aN t++r)=(t,((aN t).size:Int)):=by
 have q:∃ u v,u.size≤200∧aN t++r=aN u++v:=⟨t,r,h,rfl⟩
 unfold iV
 rw [dif_pos q]
 obtain ⟨v,h1,h2⟩:=q.choose_spec
 have:=(Ff h h1 h2).1
 rw [← this]
theorem og (s:ByteArray):(∃ t r,t.size≤200∧s=aN t++r∧iV s=(t,((aN t).size:Int)))∨(iV s=(⟨#[]⟩,0)∧∀ t r,t.size≤200→s≠aN t++r):=by
 by_cases q:∃ t r,t.size≤200∧s=aN t++r
 · obtain ⟨t,r,h,rfl⟩:=q
   exact .inl ⟨t,r,h,rfl,ox r h⟩
 · right
   refine ⟨?_,fun t r h e=>q ⟨t,r,h,e⟩⟩
   unfold iV
   rw [dif_neg q]
end
theorem J_ {k:Nat} {f:ByteArray→Option (ByteArray × Int × Unit)} (h1:∀ x t r,x<4294967296→t.size≤200→t.size+r.size≤1099511627776→f (eY x++(bE t.size++(t++r)))=bif !seq (aN t) (eY x++(bE t.size++t)) then some (⟨#[]⟩,(0,())) else some (t,(((4+(bE t.size).size+t.size:Nat):Int),())))
 (h2:∀ s,s.size≤1099511627776→(s.size<5∨(∃ x u,x<4294967296∧s=eY x++u∧1≤u.size∧rv 7 (nb u)=none)∨(∃ x a u,x<4294967296∧a<562949953421312∧s=eY x++(bE a++u)∧(200<a∨u.size<a)))→f s=some (⟨#[]⟩,(0,())))
 {s:ByteArray} (hs:s.size≤1099511627776):f s=some ((iV s).1,((iV s).2,())):=by
 rcases H5 s hs with ⟨x,t,r,hx,ht,hr,rfl⟩ | h
 · rw [h1 x t r hx ht hr]
   by_cases c:aN t=eY x++(bE t.size++t)
   · have e:eY x++(bE t.size++(t++r))=aN t++r:=by rw [c,ag,ag]
     rw [IW c,e,ox r ht,c,mZ,aO,Nat.add_assoc]
     rfl
   · rw [kh c]
     rcases og (eY x++(bE t.size++(t++r))) with ⟨t',r',ht',e,_⟩ | ⟨e,_⟩
     · exfalso
       obtain ⟨y,hy,f'⟩:=pa ht'
       rw [f',ag,ag] at e
       have h3:=rA e rfl
       obtain ⟨h4,h5⟩:=wL (by omega) (by omega) h3.2
       have h6:=rA h5 h4
       apply c
       rw [h6.1,f',h3.1]
     · rw [e];rfl
 · rw [h2 s hs h]
   rcases og s with ⟨t',r',ht',e,_⟩ | ⟨e,_⟩
   · exfalso
     obtain ⟨y,hy,f'⟩:=pa ht'
     have hp:=kx ht'
     rw [f',ag,ag] at e
     rcases h with h | ⟨x,u,hx,e2,hu,h⟩ | ⟨x,a,u,hx,ha,e2,h⟩
     · rw [e,mZ,aO] at h
       have:=ah t'.size
       omega
     · rw [e2] at e
       rw [(rA e rfl).2,qi (by omega)] at h
       cases h
     · rw [e2] at e
       obtain ⟨h4,h5⟩:=wL ha (by omega) (rA e rfl).2
       rw [h5,h4,aO] at h
       omega
   · rw [e]
theorem qE {k:Nat} (hk:2 ^ 50≤k) {s:ByteArray} (hs:s.size≤1099511627776):eS.f k s=some ((iV s).1,((iV s).2,())) :=
 J_ (k:=k) (fun x t r _ ht hr=>w7 hk ht hr) (fun s hs h=>uq hk hs h) hs
theorem lR {k:Nat} (hk:2 ^ 50≤k) {s:ByteArray} (hs:s.size≤1099511627776):dU.f k s=some ((iV s).1,((iV s).2,())) :=
 J_ (k:=k) (fun x t r _ ht hr=>wq hk ht hr) (fun s hs h=>v_ hk hs h) hs
theorem n8 (s:ByteArray):(iV s).1.size≤200∧((iV s).2=0∨5≤(iV s).2)∧(iV s).2≤s.size∧(iV s).2≤211:=by
 rcases og s with ⟨t,r,h,rfl,e⟩ | ⟨e,_⟩
 · rw [e,aO]
   have:=kx h
   have:=lL t
   refine ⟨h,?_,?_,?_⟩ <;> simp only [] <;> omega
 · rw [e]
   refine ⟨by simp only [e0];omega,.inl rfl,by simp only [];omega,by simp only [];omega⟩
theorem Ds:iV ⟨#[]⟩=(⟨#[]⟩,0):=by
 rcases og ⟨#[]⟩ with ⟨t,r,h,e,_⟩ | ⟨e,_⟩
 · have:=congrArg ByteArray.size e
   rw [aO,e0] at this
   have:=kx h
   omega
 · exact e
noncomputable def kT (s:ByteArray):Nat→Int→List (Ty.den dD) × Int
 | 0,at_=>([],at_)
 | d+1,at_ =>
  if (iV (ByteArray.extract s at_.toNat s.size)).2=0 then ([],at_)
  else if (i6 (iV (ByteArray.extract s at_.toNat s.size)).1).2=false then ([],at_)
  else (((at_,((iV (ByteArray.extract s at_.toNat s.size)).2,((i6 (iV (ByteArray.extract s at_.toNat s.size)).1).1,()))):Ty.den dD)::(kT s d (at_+(iV (ByteArray.extract s at_.toNat s.size)).2)).1,
   (kT s d (at_+(iV (ByteArray.extract s at_.toNat s.size)).2)).2)
noncomputable def dq (s:ByteArray):List (Ty.den dD) × Int:=kT s (s.size+1) 0
theorem qh (s:ByteArray) (n:Nat):(ByteArray.extract s n s.size).size=s.size-n:=by rw [← cY,ig,List.length_drop,cY]
theorem It {k:Nat} (hk:2 ^ 50≤k) {s:ByteArray} (hs:s.size≤1099511627776):∀ (d n:Nat) (i:Int) (out:List (Ty.den dD)),0≤i→i≤s.size→(s.size:Int)-i<d→d≤n→(out.length:Int)≤i →
 eH.l0 k n s i out=some (out++(kT s d i).1,((kT s d i).2,()))∧bO.l0 k n s i out=some (out++(kT s d i).1,((kT s d i).2,())):=by
 intro d
 induction d with
 | zero=>intro n i out h0 h1 h2;omega
 | succ d ih =>
  intro n i out h0 h1 h2 h3 h4
  obtain ⟨n,rfl⟩:∃ q,n=q+1:=⟨n-1,by omega⟩
  have hz:=qh s i.toNat
  have hu:=n8 (ByteArray.extract s i.toNat s.size)
  have e1:=qE hk (s:=ByteArray.extract s i.toNat s.size) (by omega)
  have e2:=lR hk (s:=ByteArray.extract s i.toNat s.size) (by omega)
  have hnil:i=s.size→(iV (ByteArray.extract s i.toNat s.size)).2=0:=fun q=>by
   have:ByteArray.extract s i.toNat s.size=⟨#[]⟩:=kV (by rw [ig,List.drop_eq_nil_of_le (by rw [cY];omega)];rfl)
   rw [this,Ds]
  simp only [kT]
  generalize iV (ByteArray.extract s i.toNat s.size)=u at *
  have e3:=pz hk (s:=u.1) (by omega)
  have e4:=qc hk (s:=u.1) (by omega)
  generalize i6 u.1=r at *
  by_cases c:u.2=0
  · rw [if_pos c]
    have cb:(u.2==0)=true:=by rw [c];rfl
    simp only [List.append_nil]
    constructor
    · simp (disch:=omega) only [eH.l0,eH.b0,cD,e1,e3,aT,cb,aX]
    · by_cases q:i<s.size
      · simp (disch:=omega) only [bO.l0,bO.b0,aM,cD,e2,e4,aT,cb,aX]
      · simp (disch:=omega) only [bO.l0,bO.b0,aQ,aK]
  · rw [if_neg c]
    have cb:(u.2==0)=false:=mm c
    have hlt:i<s.size:=by
     rcases Int.lt_or_eq_of_le h1 with q | q
     · exact q
     · exact absurd (hnil q) c
    cases hr:r.2 with
    | false =>
     simp only [if_true,List.append_nil]
     constructor
     · simp (disch:=omega) only [eH.l0,eH.b0,cD,e1,e3,aT,cb,aX,aK,hr,tD]
     · simp (disch:=omega) only [bO.l0,bO.b0,aM,cD,e2,e4,aT,cb,aX,aK,hr,tD]
    | true =>
     rw [if_neg (by decide)]
     have hlen:out.length+1≤1099511627777:=by omega
     have ih:=ih n (i+u.2) (out++[(i,(u.2,(r.1,())))]) (by omega) (by omega) (by omega) (by omega) (by rw [sG];show ((out.length+1:Nat):Int)≤_;omega)
     simp only [rW,List.cons_append,List.nil_append] at ih
     constructor
     · simp (disch:=first | omega | decide) only [eH.l0,eH.b0,cD,e1,e3,aT,cb,aX,aK,hr,fb,bm,aE]
       exact ih.1
     · simp (disch:=first | omega | decide) only [bO.l0,bO.b0,aM,cD,e2,e4,aT,cb,aX,aK,hr,fb,bm,aE]
       exact ih.2
theorem BF {k:Nat} (hk:2 ^ 50≤k) {s:ByteArray} (hs:s.size≤1099511627775):eH.f k s=some ((dq s).1,((dq s).2,())) :=
 (It hk (by omega) (s.size+1) k 0 [] (by omega) (by omega) (by omega) (by omega) (by simp)).1
theorem mV {k:Nat} (hk:2 ^ 50≤k) {s:ByteArray} (hs:s.size≤1099511627775):bO.f k s=some ((dq s).1,((dq s).2,())) :=
 (It hk (by omega) (s.size+1) k 0 [] (by omega) (by omega) (by omega) (by omega) (by simp)).2
theorem yO (s:ByteArray):∀ (d:Nat) (i:Int),0≤i→i≤s.size→((kT s d i).1.length:Int)≤s.size-i∧i≤(kT s d i).2∧(kT s d i).2≤s.size
 | 0,i,h0,h1=>by simp only [kT,List.length_nil];omega
 | d+1,i,h0,h1=>by
  have hu:=n8 (ByteArray.extract s i.toNat s.size)
  have hz:=qh s i.toNat
  rw [kT]
  split
  · simp only [List.length_nil];omega
  · split
    · simp only [List.length_nil];omega
    · rename_i c1 c2
      have ih:=yO s d (i+(iV (ByteArray.extract s i.toNat s.size)).2) (by omega) (by omega)
      simp only [lP]
      omega
theorem mz (s:ByteArray):(dq s).1.length≤s.size∧0≤(dq s).2∧(dq s).2≤s.size:=by
 have:=yO s (s.size+1) 0 (by omega) (by omega)
 unfold dq
 omega
end Go.Proofs.YtdbekilnpjmeaaaGreatDoor.G
namespace Go.Proofs.YtdbekilnpjmeaaaGreatDoor.G
open Go.V
theorem IL (d:Nat) {a:Nat} (h:a<128):(vl d a).length=1:=by
 cases d with
 | zero=>rfl
 | succ d=>unfold vl;rw [if_neg (by omega)];rfl
theorem Iq {a:Nat} (h:a<2097152):(vl 6 a).length≤3:=by
 unfold vl
 split
 · rw [lP]
   unfold vl
   split
   · rw [lP,IL 4 (by omega)]
     omega
   · simp
 · simp
theorem rY {a:Int} (h0:0≤a) (h1:a≤100000):(gu a).size≤3:=by
 obtain ⟨n,rfl⟩:=Int.eq_ofNat_of_zero_le h0
 rw [db (by omega),← qG (by omega)]
 exact Iq (by omega)
def fN:List Int→ByteArray
 | []=>⟨#[]⟩
 | x::l=>gu x++fN l
theorem uV:∀ (l:List Int),(∀ x ∈ l,0≤x∧x≤100000)→(fN l).size≤3*l.length
 | [],_=>Nat.le_refl _
 | x::l,h=>by
  have h1:=rY (h x (oX ..)).1 (h x (oX ..)).2
  have h2:=uV l fun y hy=>h y (qS _ hy)
  rw [fN,aO,lP]
  omega
theorem rt:∀ (l:List Int),(fN l).size≤7*l.length
 | []=>Nat.le_refl _
 | x::l=>by
  have h1:=bA x
  have h2:=rt l
  rw [fN,aO,lP]
  omega
def oZ (v:Ty.den bj):ByteArray:=gu v.1++(gu (v.2.1.length:Int)++fN v.2.1)
def bw (v:Ty.den bj):ByteArray:=if cP v=true then aN (oZ v) else ⟨#[]⟩
theorem ck {nx:Int} {ids:List Int} (h:cP (nx,(ids,()))=true):1≤nx∧nx≤100000∧1≤ids.length∧ids.length≤60∧∀ x ∈ ids,0≤x∧x≤100000:=by
 unfold cP at h
 simp only [im,decide_eq_true_eq] at h
 obtain ⟨h1,h2,h3⟩:=h
 have h1a:1≤nx:=h1.1
 have h1b:nx≤100000:=h1.2
 refine ⟨h1a,h1b,by omega,by omega,fun x hx=>?_⟩
 obtain ⟨p,hp⟩:=vO h3 hx
 unfold nG at hp
 rw [im,decide_eq_true_eq] at hp
 have hw:aH (nx-1)=nx-1:=aE (by omega) (by omega)
 have h4:x≤aH (nx-1):=hp.1.2
 have h5:1≤x:=hp.1.1
 omega
theorem CO {nx:Int} {ids:List Int} (h:cP (nx,(ids,()))=true):(oZ (nx,(ids,()))).size≤200:=by
 obtain ⟨h1,h2,h3,h4,h5⟩:=ck h
 have a:=rY (a:=nx) (by omega) h2
 have b:=rY (a:=(ids.length:Int)) (by omega) (by omega)
 have c:=uV ids h5
 unfold oZ
 rw [aO,aO]
 simp only []
 omega
theorem kp {k:Nat} (hk:2 ^ 50≤k) (v:Ty.den bj):d9.f k v=some (bw v,()):=by
 unfold d9.f d9.t bw
 rw [q_ hk,aT]
 cases c:cP v with
 | false=>rfl
 | true =>
  obtain ⟨h1,h2,h3,h4,h5⟩:=ck (nx:=v.1) (ids:=v.2.1) c
  have a:=bA v.1
  have b:=bA (v.2.1.length:Int)
  rw [fb,aK,ga hk,aT,ga hk,aT,if_pos rfl]
  simp only []
  rw [da (by omega)]
  refine (eV (L:=fun n i s=>d9.l0 k n s i v.1 v.2.1) (R:=fun r s=>some (aN (s++fN r),())) (Ty.dflt (.int .i64)) v.2.1 (fun i s=>(s.size:Int)≤14+7*i) (fun n s hs=>?_) (fun n i s x rest g0 g1 hx hr hs ih=>?_) (n:=k) (by omega) (by rw [aO];omega)).trans (by rw [ag];rfl)
  · simp (disch:=omega) only [d9.l0,d9.b0,aQ,aK,lQ hk,aT]
    rw [show fN []=⟨#[]⟩ from rfl,j0]
  · have hv:=bA x
    have ih:=ih (s++gu x) (by rw [aO];omega)
    simp (disch:=omega) only [d9.l0,d9.b0,aM g1,aX,aG,hx,ga hk,aT,da,aE,ih]
    rw [ag]
    rfl
noncomputable def lK (s:ByteArray):Ty.den bj × Bool:=oL (fun v=>cP v=true) bw (0,([],())) s
theorem zt (s:ByteArray):0≤(Db (rv 7 (nb s))).2.1∧(Db (rv 7 (nb s))).2.1≤(s.size:Int):=by
 cases h:rv 7 (nb s) with
 | none=>exact ⟨Int.le_refl _,by show (0:Int)≤_;omega⟩
 | some p =>
  obtain ⟨a,n⟩:=p
  obtain ⟨h1,h2,h3,h4,h5,h6⟩:=pG 6 (nb s) a n (rz s) h
  rw [cY] at h4
  exact ⟨by show (0:Int)≤(n:Int);omega,by show (n:Int)≤_;omega⟩
def Ks:Option (Ty.den bj × Bool × Unit):=some ((0,([],())),(false,()))
theorem zJ {k:Nat} (hk:2 ^ 50≤k) {s t:ByteArray} (ht:t.size≤200) (c nx:Int):∀ (d n:Nat) (pos j:Int) (out:List Int),60-j=d→d<n→0≤pos→pos≤t.size→0≤j→(out.length:Int)≤j →
 ∃ o,bH.l0 k n s t c pos j [] 0 out nx=bif !seq (bw (nx,(o,()))) s then Ks else some ((nx,(o,())),(true,())):=by
 intro d
 induction d with
 | zero =>
  intro n pos j out hj hn h0 h1 h2 h3
  obtain ⟨n,rfl⟩:∃ q,n=q+1:=⟨n-1,by omega⟩
  refine ⟨out,?_⟩
  simp only [bH.l0,bH.b0]
  rw [aQ (show ¬ j<60 by omega),aK,kp hk,aT]
  cases decide (j<c) <;> cases seq (bw (nx,(out,()))) s <;> rfl
 | succ d ih =>
  intro n pos j out hj hn h0 h1 h2 h3
  obtain ⟨n,rfl⟩:∃ q,n=q+1:=⟨n-1,by omega⟩
  by_cases c1:j<c
  · have hr:=zt (ByteArray.extract t pos.toNat t.size)
    have he:(ByteArray.extract t pos.toNat t.size).size=t.size-pos.toNat:=by rw [← cY,ig,List.length_drop,cY]
    rw [he] at hr
    obtain ⟨o,ho⟩:=ih n (pos+(Db (rv 7 (nb (ByteArray.extract t pos.toNat t.size)))).2.1) (j+1) (out++[(Db (rv 7 (nb (ByteArray.extract t pos.toNat t.size)))).1]) (by omega) (by omega) (by omega) (by omega) (by omega) (by rw [cS];omega)
    refine ⟨o,?_⟩
    simp only [bH.l0,bH.b0]
    rw [aM c1,aM (show j<60 by omega),aX,aX,cD h0 h1,fO hk,aT,bm (by omega) (by decide),aE (n:=pos+_) (by omega) (by omega),aE (n:=j+1) (by omega) (by omega)]
    exact ho
  · refine ⟨out,?_⟩
    simp only [bH.l0,bH.b0]
    rw [aQ c1,aK,kp hk,aT]
    cases seq (bw (nx,(out,()))) s <;> rfl
theorem wg {x:Int} (h0:0≤x) (h1:x≤100000):∃ n:Nat,n<562949953421312∧x=(n:Int)∧gu x=bE n:=by
 obtain ⟨n,rfl⟩:=Int.eq_ofNat_of_zero_le h0
 exact ⟨n,by omega,rfl,db (by omega)⟩
theorem BU {k:Nat} (hk:2 ^ 50≤k) {s:ByteArray} (nx:Int):∀ (ids:List Int) (pre:ByteArray) (n:Nat) (j c:Int) (out:List Int),(∀ x ∈ ids,0≤x∧x≤100000)→ids.length<n→0≤j→c=j+ids.length→c≤60→pre.size+7*ids.length≤1000→(out.length:Int)≤j →
 bH.l0 k n s (pre++fN ids) c (pre.size:Int) j [] 0 out nx=bif !seq (bw (nx,(out++ids,()))) s then Ks else some ((nx,(out++ids,())),(true,())):=by
 intro ids
 induction ids with
 | nil =>
  intro pre n j c out h hn h0 hc h1 hp ho
  obtain ⟨n,rfl⟩:∃ q,n=q+1:=⟨n-1,by omega⟩
  rw [List.length_nil] at hc
  simp only [bH.l0,bH.b0]
  rw [aQ (show ¬ j<c by omega),aK,kp hk,aT,List.append_nil]
  cases seq (bw (nx,(out,()))) s <;> rfl
 | cons x ids ih =>
  intro pre n j c out h hn h0 hc h1 hp ho
  rw [lP] at hn hc
  obtain ⟨n,rfl⟩:∃ q,n=q+1:=⟨n-1,by omega⟩
  obtain ⟨a,ha,hx,hv⟩:=wg (h x (oX ..)).1 (h x (oX ..)).2
  have hvs:=ah a
  have hts:=rt (x::ids)
  rw [lP] at hts
  have ih:=ih (pre++bE a) n (j+1) c (out++[x]) (fun y hy=>h y (qS _ hy)) (by omega) (by omega) (by omega) h1 ?_ (by rw [cS];omega)
  · have he:ByteArray.extract (pre++fN (x::ids)) pre.size (pre++fN (x::ids)).size=bE a++fN ids:=by rw [eU,fN,hv]
    simp only [bH.l0,bH.b0]
    rw [aM (show j<c by omega),aM (show j<60 by omega),aX,aX,cD (by omega) (by rw [aO];omega),Int.toNat_natCast,he,fO hk,aT,qi ha]
    simp only [Db]
    rw [bm (by omega) (by decide),aE (by omega) (by omega),aE (by omega) (by omega),← hx,show (pre.size:Int)+((bE a).size:Int)=((pre++bE a).size:Int) by rw [aO];omega]
    rw [show pre++fN (x::ids)=pre++bE a++fN ids by rw [fN,hv,ag],ih,rW]
    rfl
  · rw [aO]
    rw [lP] at hp
    omega
theorem wt {k:Nat} (hk:2 ^ 50≤k) {nx:Int} {ids:List Int} (h:cP (nx,(ids,()))=true):bH.f k (bw (nx,(ids,())))=some ((nx,(ids,())),(true,())):=by
 obtain ⟨g1,g2,g3,g4,g5⟩:=ck h
 have hz:=CO h
 have hf:=kx hz
 have hfs:=lL (oZ (nx,(ids,())))
 have hu:=ox ⟨#[]⟩ hz
 rw [j0] at hu
 have e:bw (nx,(ids,()))=aN (oZ (nx,(ids,()))):=if_pos h
 obtain ⟨a,ha,hx,hv⟩:=wg (x:=nx) (by omega) g2
 obtain ⟨b,hb,hy,hw⟩:=wg (x:=(ids.length:Int)) (by omega) (by omega)
 have ht:oZ (nx,(ids,()))=bE a++bE b++fN ids:=by
  unfold oZ
  rw [ag,← hv,← hw]
 have hva:=ah a
 have hvb:=ah b
 have hl:=BU hk (s:=bw (nx,(ids,()))) nx ids (bE a++bE b) k 0 (b:Int) [] g5 (by omega) (by omega) (by omega) (by omega) (by rw [aO];omega) (by simp)
 rw [← ht,List.nil_append,c9] at hl
 unfold bH.f bH.t
 rw [lR hk (by rw [e];omega),aT]
 have hu1:iV (bw (nx,(ids,())))=(oZ (nx,(ids,())),((bw (nx,(ids,()))).size:Int)):=by rw [e];exact hu
 have r1:rv 7 (nb (oZ (nx,(ids,()))))=some (a,(bE a).size):=by rw [ht,ag];exact qi ha _
 have r2:rv 7 (nb (ByteArray.extract (oZ (nx,(ids,()))) (bE a).size (oZ (nx,(ids,()))).size))=some (b,(bE b).size):=by rw [ht,ag,eU];exact qi hb _
 have hsz:(oZ (nx,(ids,()))).size=(bE a).size+(bE b).size+(fN ids).size:=by rw [ht,aO,aO]
 rw [hu1]
 simp only []
 rw [fO hk,aT,r1]
 simp only [Db]
 rw [show (((bw (nx,(ids,()))).size:Int) != ((bw (nx,(ids,()))).size:Int))=false by simp,aK,
  show (((bw (nx,(ids,()))).size:Int)==0)=false from mm (by rw [e];omega),aK,show (((bE a).size:Int)==0)=false from mm (by omega),aK,
  cD (by omega) (by omega),Int.toNat_natCast,fO hk,aT,r2]
 simp only [Db]
 rw [aE (by omega) (by omega),show ((bE a).size:Int)+((bE b).size:Int)=((bE a++bE b).size:Int) by rw [aO];omega,← hx]
 exact hl
theorem ux {k:Nat} (hk:2 ^ 50≤k) {s:ByteArray} (hs:s.size≤1099511627776):bH.f k s=some ((lK s).1,((lK s).2,())):=by
 refine rF (fun v h1 h2=>?_) ?_
 · subst h2
   exact wt hk (nx:=v.1) (ids:=v.2.1) h1
 · unfold bH.f bH.t
   rw [lR hk hs,aT]
   have hu:=n8 s
   generalize iV s=u at hu
   obtain ⟨t,m⟩:=u
   simp only [] at hu ⊢
   rw [fO hk,aT]
   have h1:=zt t
   generalize Db (rv 7 (nb t))=q at h1
   obtain ⟨nx,p,_⟩:=q
   simp only [] at h1 ⊢
   by_cases c1:m=(s.size:Int)
   case neg=>rw [show (m != (s.size:Int))=true from bne_iff_ne.2 c1];exact .inr rfl
   rw [show (m != (s.size:Int))=false by rw [c1];simp,aK]
   by_cases c2:m=0
   case pos=>rw [show (m==0)=true from beq_iff_eq.2 c2];exact .inr rfl
   rw [show (m==0)=false from mm c2,aK]
   by_cases c3:p=0
   case pos=>rw [show (p==0)=true from beq_iff_eq.2 c3];exact .inr rfl
   rw [show (p==0)=false from mm c3,aK,cD h1.1 h1.2,fO hk,aT]
   have h2:=zt (ByteArray.extract t p.toNat t.size)
   have he:(ByteArray.extract t p.toNat t.size).size=t.size-p.toNat:=by rw [← cY,ig,List.length_drop,cY]
   rw [he] at h2
   rw [aE (by omega) (by omega)]
   obtain ⟨o,ho⟩:=zJ hk (s:=s) hu.1 (Db (rv 7 (nb (ByteArray.extract t p.toNat t.size)))).1 nx 60 k (p+(Db (rv 7 (nb (ByteArray.extract t p.toNat t.size)))).2.1) 0 [] (by omega) (by omega) (by omega) (by omega) (by omega) (by simp)
   rw [ho]
   cases c4:seq (bw (nx,(o,()))) s with
   | false=>exact .inr rfl
   | true =>
    refine .inl ⟨(nx,(o,())),?_,eT.1 c4,rfl⟩
    cases c5:cP (nx,(o,())) with
    | true=>rfl
    | false =>
     have:=eT.1 c4
     unfold bw at this
     rw [c5,if_neg (by decide)] at this
     rw [← this] at c1
     exact absurd c1 c2
end Go.Proofs.YtdbekilnpjmeaaaGreatDoor.G
namespace Go.V
def K7 (n:Int):Prop := -999999999≤n∧n≤999999999
def dg:List Nat→Nat→Nat→Nat × Nat
 | [],a,c=>(a,c)
 | b::l,a,c=>if 48≤b∧b≤57 then dg l (a*10+(b-48)) (c+1) else dg l a c
theorem u7:∀ (l:List Nat) (a c:Nat),(∀ b ∈ l,48≤b∧b≤57)→dg l a c=(qR l a,c+l.length)
 | [],a,c,_=>rfl
 | b::l,a,c,h=>by
  rw [dg,if_pos (h b (oX ..)),u7 l _ _ fun x hx=>h x (qS _ hx),qR,lP]
  congr 1
  omega
theorem xS:∀ (l:List Nat) (a c:Nat),a+1≤10 ^ c→(dg l a c).1+1≤10 ^ (dg l a c).2
 | [],a,c,h=>h
 | b::l,a,c,h=>by
  unfold dg
  split
  · rename_i q
    exact xS l _ _ (by rw [Nat.pow_succ];omega)
  · exact xS l _ _ h
theorem Bb (u:Nat):∀ b ∈ (Lib.decDigits u).map UInt8.toNat,48≤b∧b≤57:=by
 intro b hb
 obtain ⟨x,hx,rfl⟩:=List.mem_map.1 hb
 exact mb u x hx
def J9 (s:ByteArray) (a:Nat):Int:=bif decide ((s.size:Int) > 0)&&(e6 s 0==45) then -(a:Int) else (a:Int)
theorem J4 {s:ByteArray} (h:0<s.size):e6 s 0=(((nb s).getD 0 0:Nat):Int):=vY (i:=0) h
theorem I_ {n:Int}:J9 (gM n) n.natAbs=n:=by
 have hb:=pF n
 have hl:=cY (gM n)
 unfold J9
 by_cases c:n<0
 · rw [if_pos c] at hb
   rw [hb,lP] at hl
   rw [aM (by omega),J4 (by omega),hb]
   show (bif true&&(((45:Nat):Int)==45) then _ else _)=n
   show -((n.natAbs:Nat):Int)=n
   omega
 · rw [if_neg c] at hb
   have:(e6 (gM n) 0==45)=false:=by
    cases q:Lib.decDigits n.toNat with
    | nil=>exact absurd q (sU _)
    | cons x r =>
     have hx:=mb n.toNat x (by rw [q];exact oX ..)
     rw [q,List.map_cons] at hb
     rw [hb,lP] at hl
     rw [J4 (by omega),hb]
     refine mm ?_
     show ((x.toNat:Nat):Int)≠45
     omega
   rw [this,Bool.and_false,aK]
   omega
theorem IC {n:Int} (h:K7 n):(gM n).size≤10:=Fh (by have:=h.1;omega) (by have:=h.2;omega)
theorem JR {n:Int} (h:K7 n):∃ c,dg (nb (gM n)) 0 0=(n.natAbs,c)∧c≤9:=by
 obtain ⟨h0,h1⟩:=h
 rw [pF]
 by_cases c:n<0
 · rw [if_pos c]
   refine ⟨(Lib.decDigits n.natAbs).length,?_,iG 8 _ (by rw [show (10:Nat) ^ (8+1)=1000000000 by decide];omega)⟩
   rw [dg,if_neg (by omega),u7 _ _ _ (Bb _),qw,List.length_map,Nat.zero_add]
 · rw [if_neg c]
   refine ⟨(Lib.decDigits n.toNat).length,?_,iG 8 _ (by rw [show (10:Nat) ^ (8+1)=1000000000 by decide];omega)⟩
   rw [u7 _ _ _ (Bb _),qw,List.length_map,Nat.zero_add,show n.toNat=n.natAbs by omega]
theorem BZ {c:Nat} (h:c≤11):10 ^ c≤100000000000:=Nat.le_trans (Nat.pow_le_pow_right (by decide) h) (by decide)
theorem Ig {c:Nat} (h:c≤9):10 ^ c≤1000000000:=Nat.le_trans (Nat.pow_le_pow_right (by decide) h) (by decide)
end Go.V
namespace Go.Proofs.YtdbekilnpjmeaaaGreatDoor.G
open Go.V
noncomputable def jF (s:ByteArray):Int × Bool:=oL K7 gM 0 s
def FY (s:ByteArray) (q:Nat × Nat):Option (Int × Bool × Unit) :=
 bif decide ((q.2:Int) > 9)||(decide ((s.size:Int) > 10)||!seq (gM (J9 s q.1)) s) then some (0,(false,())) else some (J9 s q.1,(true,()))
theorem Jw {k:Nat} (hk:2 ^ 50≤k) (s:ByteArray) {q:Nat × Nat} (hq:q.1≤1000000000000) :
 (bif (decide ((ByteArray.size s:Int) > 0)) then (bX 0 (ByteArray.size s:Int) (bif ((e6 s 0)==45) then (bif (decide ((q.2:Int) > 9)) then (some (0,(false,()))) else (bif (decide ((ByteArray.size s:Int) > 10)) then (some (0,(false,()))) else (Option.bind (dA.f k (aH (0-(q.1:Int)))) fun r1=>(bif (!(seq r1.1 s)) then (some (0,(false,()))) else (some ((aH (0-(q.1:Int))),(true,()))))))) else
  (bif (decide ((q.2:Int) > 9)) then (some (0,(false,()))) else (bif (decide ((ByteArray.size s:Int) > 10)) then (some (0,(false,()))) else (Option.bind (dA.f k (q.1:Int)) fun r2=>(bif (!(seq r2.1 s)) then (some (0,(false,()))) else (some ((q.1:Int),(true,())))))))))
 else (bif (decide ((q.2:Int) > 9)) then (some (0,(false,()))) else (bif (decide ((ByteArray.size s:Int) > 10)) then (some (0,(false,()))) else (Option.bind (dA.f k (q.1:Int)) fun r3=>(bif (!(seq r3.1 s)) then (some (0,(false,()))) else (some ((q.1:Int),(true,()))))))))=FY s q:=by
 have hn:aH (0-(q.1:Int)) = -(q.1:Int):=by rw [aE (by omega) (by omega)];omega
 rw [hn,lu hk (n:=(q.1:Int)) (by omega) (by omega),lu hk (n := -(q.1:Int)) (by omega) (by omega)]
 simp only [aT]
 unfold FY J9
 by_cases c0:(s.size:Int) > 0
 · rw [aM c0,aX,aG (by omega) (by omega),Bool.true_and]
   cases e6 s 0==45 <;> cases decide ((q.2:Int) > 9) <;> cases decide ((s.size:Int) > 10)
   all_goals simp only [aX,aK,Bool.true_or,Bool.false_or]
   all_goals first | rfl | (cases seq (gM (q.1:Int)) s <;> rfl) | (cases seq (gM (-(q.1:Int))) s <;> rfl)
 · rw [aQ c0,aK,Bool.false_and,aK]
   cases decide ((q.2:Int) > 9) <;> cases decide ((s.size:Int) > 10)
   all_goals simp only [aX,aK,Bool.true_or,Bool.false_or]
   all_goals first | rfl | (cases seq (gM (q.1:Int)) s <;> rfl)
theorem vA {k:Nat} (hk:2 ^ 50≤k) {s:ByteArray} (hs:s.size≤1099511627776):eR.f k s=FY s (dg ((nb s).take 11) 0 0):=by
 unfold eR.f eR.t
 have hn:=cY s
 have hl:((nb s).take 11).length=min 11 s.size:=by rw [List.length_take,hn]
 refine eV (L:=fun n i (q:Nat × Nat)=>eR.l0 k n s (q.1:Int) (q.2:Int) i) (R:=fun r q=>FY s (dg r q.1 q.2)) 0 ((nb s).take 11) (fun i q=>q.1+1≤10 ^ q.2∧(q.2:Int)≤i) (fun n q hq=>?_) (fun n i q x rest h0 h1 hx hr hq ih=>?_) (n:=k) (s:=(0,0)) (by omega) ⟨by decide,by decide⟩
 · obtain ⟨g1,g2⟩:=hq
   have hp:=BZ (c:=q.2) (by omega)
   rw [show dg [] q.1 q.2=q from rfl]
   refine Eq.trans ?_ (Jw hk s (q:=q) (by omega))
   simp only [eR.l0,eR.b0]
   rcases Nat.lt_or_ge 11 s.size with c | c
   · rw [hl,Nat.min_eq_left (by omega),aM (show ((11:Nat):Int)<(s.size:Int) by omega),aQ (show ¬ ((11:Nat):Int)<11 by omega)]
     rfl
   · rw [hl,Nat.min_eq_right c,aQ (show ¬ (s.size:Int)<(s.size:Int) by omega)]
     rfl
 · obtain ⟨g1,g2⟩:=hq
   have hp:=BZ (c:=q.2) (by omega)
   rw [hl] at h1
   have hi:i<11:=by omega
   have hsz:i<(s.size:Int):=by omega
   have hx':(nb s).getD i.toNat 0=x:=by rw [← hx,my (by omega)]
   have hb:=AN (s:=s) (x:=x) h0 (by rw [hn];exact hsz) hx'
   have hx256:x<256:=by rw [← hx'];exact ir s _
   simp only [eR.l0,eR.b0]
   rw [aM hsz,aM hi,aX,aX,aG h0 hsz,hb]
   have iN:=ih q ⟨g1,by omega⟩
   by_cases c1:48≤x
   · rw [aM (show (x:Int)≥48 by omega),aX]
     by_cases c2:x≤57
     · rw [aG h0 hsz,aM (show (x:Int)≤57 by omega),aX,aG h0 hsz]
       have iY:=ih (q.1*10+(x-48),q.2+1) ⟨by rw [Nat.pow_succ];omega,by simp only [];omega⟩
       rw [oQ (n:=(x:Int)-48) (by omega) (by omega),aE (n:=(x:Int)-48) (by omega) (by omega),aE (n:=(q.1:Int)*10) (by omega) (by omega),aE (by omega) (by omega),aE (n:=(q.2:Int)+1) (by omega) (by omega),aE (n:=i+1) (by omega) (by omega)]
       rw [show dg (x::rest) q.1 q.2=dg rest (q.1*10+(x-48)) (q.2+1) from if_pos ⟨c1,c2⟩]
       rw [show (q.1:Int)*10+((x:Int)-48)=((q.1*10+(x-48):Nat):Int) by omega,show (q.2:Int)+1=((q.2+1:Nat):Int) by omega]
       exact iY
     · rw [aG h0 hsz,aQ (show ¬ (x:Int)≤57 by omega),aK,aE (n:=i+1) (by omega) (by omega),show dg (x::rest) q.1 q.2=dg rest q.1 q.2 from if_neg (fun h=>c2 h.2)]
       exact iN
   · rw [aQ (show ¬ (x:Int)≥48 by omega),aK,aE (n:=i+1) (by omega) (by omega),show dg (x::rest) q.1 q.2=dg rest q.1 q.2 from if_neg (fun h=>c1 h.1)]
     exact iN
theorem wY {k:Nat} (hk:2 ^ 50≤k) {s:ByteArray} (hs:s.size≤1099511627776):eR.f k s=some ((jF s).1,((jF s).2,())):=by
 rw [vA hk hs]
 refine rF (fun n h1 h2=>?_) ?_
 · subst h2
   have hz:=IC h1
   obtain ⟨c,e,hc⟩:=JR h1
   rw [List.take_of_length_le (by rw [cY];omega),e]
   unfold FY
   simp only []
   rw [aQ (by omega),aQ (by omega),I_,c9]
   rfl
 · have hb:=xS ((nb s).take 11) 0 0 (by decide)
   generalize dg ((nb s).take 11) 0 0=q at hb
   unfold FY
   by_cases c:q.2≤9
   · have hp:=Ig c
     cases e:(decide ((q.2:Int) > 9)||(decide ((s.size:Int) > 10)||!seq (gM (J9 s q.1)) s)) with
     | true=>exact .inr rfl
     | false =>
      simp only [Bool.or_eq_false_iff,Bool.not_eq_false'] at e
      refine .inl ⟨J9 s q.1,?_,eT.1 e.2.2,rfl⟩
      unfold J9 K7
      cases decide ((s.size:Int) > 0)&&(e6 s 0==45)
      · rw [aK];omega
      · rw [aX];omega
   · rw [aM (show (q.2:Int) > 9 by omega)]
     exact .inr rfl
theorem BN {n:Int} (h:K7 n):jF (gM n)=(n,true):=Dx (fun _ _ _ _ e=>va e) h
end Go.Proofs.YtdbekilnpjmeaaaGreatDoor.G
namespace Go.Proofs.YtdbekilnpjmeaaaGreatDoor.G
open Go.V
def zo (l:List Int) (x:Int):Bool:=l.any fun y=>y==x
end Go.Proofs.YtdbekilnpjmeaaaGreatDoor.G
namespace Go.Proofs.YtdbekilnpjmeaaaGreatDoor.G
open Go.V
def dR:ByteArray:=⟨#[104,105,110,116]⟩
theorem iW {k:Nat} (hk:2 ^ 50≤k) (n:Int):cX.f k n=some (aB dR n,()):=by
 unfold cX.f cX.t aB
 rw [g_,aT]
 by_cases c:(1:Int)≤n∧n≤100000
 · have hz:=l7 (n:=n) (by omega) (by omega)
   rw [aM c]
   simp only [fb,aK,aX]
   rw [lu hk (by omega) (by omega),aT,da (by show 4+(gM n).size≤_;omega)]
   rfl
 · rw [aQ c]
   rfl
def Ie (s:ByteArray) (n:Int):Prop:=1≤n∧n≤100000∧(s=aI++gM n∨s=dR++gM n)
theorem BR (a b:ByteArray):aI++a≠dR++b:=fun h=>by
 have:=congrArg nb h
 rw [iT,iT,show nb aI=[115,101,103] from rfl,show nb dR=[104,105,110,116] from rfl] at this
 simp at this
theorem Dg {s:ByteArray} {n m:Int} (h:Ie s n) (g:Ie s m):n=m:=by
 rcases h.2.2 with h1 | h1 <;> rcases g.2.2 with g1 | g1
 · exact va (rr (h1.symm.trans g1))
 · exact absurd (h1.symm.trans g1) (BR _ _)
 · exact absurd (g1.symm.trans h1) (BR _ _)
 · exact va (rr (h1.symm.trans g1))
theorem FX {s:ByteArray} {n:Int} (hs:0<s.size) (h:(seq (aB aI n) s||seq (aB dR n) s)=true):Ie s n:=by
 unfold aB at h
 by_cases c:(1:Int)≤n∧n≤100000
 · rw [aM c,Bool.or_eq_true] at h
   exact ⟨c.1,c.2,h.imp (fun q=>(eT.1 q).symm) (fun q=>(eT.1 q).symm)⟩
 · rw [aQ c,Bool.or_eq_true] at h
   rcases h with q | q
   · rw [← eT.1 q] at hs;exact absurd hs (Nat.lt_irrefl 0)
   · rw [← eT.1 q] at hs;exact absurd hs (Nat.lt_irrefl 0)
theorem Eg {s:ByteArray} {n:Int} (h:Ie s n):(seq (aB aI n) s||seq (aB dR n) s)=true:=by
 obtain ⟨h0,h1,h2⟩:=h
 unfold aB
 rw [aM ⟨h0,h1⟩,Bool.or_eq_true]
 exact h2.imp (fun q=>eT.2 q.symm) (fun q=>eT.2 q.symm)
noncomputable def JB (s:ByteArray):Int × Bool:=oL (Ie s) (fun _=>s) 0 s
theorem Gq (n:Int):0<(gM n).size:=by
 rw [← cY,pF]
 split
 · rw [lP];omega
 · rw [List.length_map]
   exact List.length_pos_iff.2 (sU _)
theorem Em (s:ByteArray) (n:Nat):(ByteArray.extract s n s.size).size=s.size-n:=by rw [← cY,ig,List.length_drop,cY]
noncomputable def wo (s:ByteArray) (i:Nat):Bool :=
 decide ((s.size:Int) > (i:Int))&&((jF (ByteArray.extract s i s.size)).2&&(decide ((jF (ByteArray.extract s i s.size)).1≥1)&&(seq (aB aI (jF (ByteArray.extract s i s.size)).1) s||seq (aB dR (jF (ByteArray.extract s i s.size)).1) s)))
theorem Dn {k:Nat} (hk:2 ^ 50≤k) {s:ByteArray} (hs:s.size≤1099511627776) (m i:Nat) (hi:i≤4) :
 gy.l0 k (m+1) s (i:Int)=bif wo s i then some ((jF (ByteArray.extract s i s.size)).1,(true,())) else gy.l0 k m s ((i+1:Nat):Int):=by
 have hz:=Em s i
 simp only [gy.l0,gy.b0]
 rw [aM (show (i:Int)≤4 by omega),aX,aE (by omega) (by omega),show (i:Int)+1=((i+1:Nat):Int) by omega]
 unfold wo
 by_cases c:(s.size:Int) > (i:Int)
 · rw [aM c,aX,cD (by omega) (by omega),Int.toNat_natCast,wY hk (by omega),aT]
   simp only [bK hk,iW hk,aT]
   generalize jF (ByteArray.extract s i s.size)=r
   cases r.2 <;> cases decide (r.1≥1) <;> cases seq (aB aI r.1) s <;> cases seq (aB dR r.1) s <;> rfl
 · rw [aQ c]
   rfl
theorem zg {s:ByteArray} {i:Nat} (h:wo s i=true):Ie s (jF (ByteArray.extract s i s.size)).1:=by
 unfold wo at h
 simp only [im,decide_eq_true_eq] at h
 exact FX (by omega) h.2.2.2
theorem GZ {p:ByteArray} {n:Int} (h:Ie (p++gM n) n):wo (p++gM n) p.size=true∧(jF (ByteArray.extract (p++gM n) p.size (p++gM n).size)).1=n:=by
 have hd:K7 n:=⟨by have:=h.1;omega,by have:=h.2.1;omega⟩
 have hp:=Gq n
 rw [show ByteArray.extract (p++gM n) p.size (p++gM n).size=gM n from eU p (gM n)]
 unfold wo
 rw [show ByteArray.extract (p++gM n) p.size (p++gM n).size=gM n from eU p (gM n),BN hd]
 refine ⟨?_,rfl⟩
 simp only []
 rw [Eg h,aM (by rw [ByteArray.size_append];omega),aM h.1]
 rfl
theorem F5 {k:Nat} (hk:2 ^ 50≤k) {s:ByteArray} (hs:s.size≤1099511627776):gy.f k s=some ((JB s).1,((JB s).2,())):=by
 have e:gy.f k s=bif wo s 3 then some ((jF (ByteArray.extract s 3 s.size)).1,(true,())) else bif wo s 4 then some ((jF (ByteArray.extract s 4 s.size)).1,(true,())) else some (0,(false,())):=by
  unfold gy.f gy.t
  obtain ⟨m,hm⟩:∃ m,k=m+3:=⟨k-3,by omega⟩
  have h3:=Dn hk hs (m+2) 3 (by omega)
  have h4:=Dn hk hs (m+1) 4 (by omega)
  have h5:gy.l0 k (m+1) s ((5:Nat):Int)=some (0,(false,())):=rfl
  rw [← hm] at h3
  rw [show (3:Int)=((3:Nat):Int) from rfl,h3,h4,h5]
 rw [e]
 refine rF (fun n h1 _=>?_) ?_
 · rcases h1.2.2 with q | q
   · have:=GZ (p:=aI) (n:=n) (by rw [← q];exact h1)
     rw [← q,show aI.size=3 from rfl] at this
     rw [this.1,this.2]
     rfl
   · cases c:wo s 3 with
     | true=>rw [Dg h1 (zg c)];rfl
     | false =>
      have:=GZ (p:=dR) (n:=n) (by rw [← q];exact h1)
      rw [← q,show dR.size=4 from rfl] at this
      rw [this.1,this.2]
      rfl
 · cases c:wo s 3 with
   | true=>exact .inl ⟨_,zg c,rfl,rfl⟩
   | false =>
    cases c4:wo s 4 with
    | true=>exact .inl ⟨_,zg c4,rfl,rfl⟩
    | false=>exact .inr rfl
def fA:ByteArray:=⟨#[116,101,109,112]⟩
noncomputable def nU (ids:List Int) (f:Ty.den aD):Bool:=((JB f.1).2&&!zo ids (JB f.1).1)||seq f.1 fA
noncomputable def qT (ids:List Int):bN→List ByteArray→List ByteArray
 | [],acc=>acc
 | f::l,acc=>qT ids l (bif nU ids f then acc++[f.1] else acc)
noncomputable def o8 (d:Ty.den a_) (ids:List Int):List ByteArray:=bif iB d then qT ids d.1 [] else []
theorem EW {d:Ty.den a_} (h:iB d=true):d.1.length≤130:=by
 unfold iB at h
 rw [im,decide_eq_true_eq] at h
 exact h.1
theorem uQ {k:Nat} (hk:2 ^ 50≤k) {d:Ty.den a_} {v:Ty.den bj} (hu:dz d.1≤1099511627776) (hn:ik d.1≤1099511627776) (hv:v.2.1.length≤1099511627776):b9.f k d v=some (o8 d v.2.1,()):=by
 unfold b9.f b9.t o8
 rw [lB hk hu hn,aT]
 cases cd:iB d with
 | false=>rfl
 | true =>
  have hl:=EW cd
  rw [fb,aK,aX]
  refine eV (L:=fun n i s=>b9.l0 k n i d.1 d.2.1 d.2.2.1 d.2.2.2.1 v.1 v.2.1 s) (R:=fun r s=>some (qT v.2.1 r s,())) (Ty.dflt aD) d.1 (fun i s=>(s.length:Int)≤i) (fun n s hs=>?_) (fun n i s x rest h0 h1 hx hr hs ih=>?_) (n:=k) (s:=[]) (by omega) (by simp)
  · simp (disch:=omega) only [b9.l0,b9.b0,aQ,aK,qT]
  · have hm:x ∈ d.1:=by rw [← hx];exact iP (by omega)
    have hz:=n5 hm
    have iY:=ih (s++[x.1]) (by rw [cS];omega)
    have iN:=ih s (by omega)
    have key:∀ (id:Int) (is:Bool),b9.l1 k (b9.l0 k n) k i id is false 0 d.1 d.2.1 d.2.2.1 d.2.2.2.1 v.1 v.2.1 s =
     bif (is&&!zo v.2.1 id)||seq x.1 fA then b9.l0 k n (i+1) d.1 d.2.1 d.2.2.1 d.2.2.2.1 v.1 v.2.1 (s++[x.1]) else b9.l0 k n (i+1) d.1 d.2.1 d.2.2.1 d.2.2.2.1 v.1 v.2.1 s:=fun id is=>by
     refine (eV (L:=fun m j lv=>b9.l1 k (b9.l0 k n) m i id is lv j d.1 d.2.1 d.2.2.1 d.2.2.2.1 v.1 v.2.1 s) (R:=fun r lv=>bif (is&&!(lv||zo r id))||seq x.1 fA then b9.l0 k n (i+1) d.1 d.2.1 d.2.2.1 d.2.2.2.1 v.1 v.2.1 (s++[x.1]) else b9.l0 k n (i+1) d.1 d.2.1 d.2.2.1 d.2.2.2.1 v.1 v.2.1 s) (Ty.dflt (.int .i64)) v.2.1 (fun _ _=>True) (fun m lv _=>?_) (fun m j lv y r2 g0 g1 gx gr _ ih2=>?_) (n:=k) (s:=false) (by omega) trivial)
     · simp (disch:=first | omega | decide) only [b9.l1,b9.b1,aQ,aK,aG,hx,bm,aE]
       rw [show zo [] id=false from rfl,show (⟨#[116,101,109,112]⟩:ByteArray)=fA from rfl]
       cases is <;> cases lv <;> cases seq x.1 fA <;> rfl
     · have e:zo (y::r2) id=((y==id)||zo r2 id):=rfl
       simp (disch:=omega) only [b9.l1,b9.b1,aM g1,aX,aG,gx,aE,e]
       cases lv with
       | true=>exact (ih2 true trivial)
       | false =>
        have:=ih2 (y==id) trivial
        simp only [aK,Bool.false_or]
        exact this
    simp (disch:=omega) only [b9.l0,b9.b0,aM h1,aX,aG,hx,F5 hk,aT,key]
    rw [show qT v.2.1 (x::rest) s=qT v.2.1 rest (bif nU v.2.1 x then s++[x.1] else s) from rfl]
    unfold nU
    cases ((JB x.1).2&&!zo v.2.1 (JB x.1).1)||seq x.1 fA
    · exact iN
    · exact iY
end Go.Proofs.YtdbekilnpjmeaaaGreatDoor.G
namespace Go.Proofs.YtdbekilnpjmeaaaGreatDoor.G
open Go.V
theorem Ax {k:Nat} (hk:2 ^ 50≤k) {l:List Int} (hl:l.length≤1073741824):du.f k l=some (fN l,()):=by
 unfold du.f du.t
 refine (eV (L:=fun n i s=>du.l0 k n s l l.length i) (R:=fun r s=>some (s++fN r,())) (Ty.dflt (.int .i64)) l (fun i s=>(s.size:Int)≤7*i) (fun n s hs=>?_) (fun n i s x rest g0 g1 hx hr hs ih=>?_) (n:=k) (s:=⟨#[]⟩) (by omega) (by decide)).trans (by rw [pH])
 · simp (disch:=omega) only [du.l0,du.b0,aQ,aK]
   rw [show fN []=⟨#[]⟩ from rfl,j0]
 · have hv:=bA x
   have ih:=ih (s++gu x) (by rw [aO];omega)
   simp (disch:=omega) only [du.l0,du.b0,aM g1,aX,aG,hx,nB hk,aT,da,aE,ih]
   rw [ag]
   rfl
theorem uz {k:Nat} (hk:2 ^ 50≤k) (v:Ty.den bj) (hl:v.2.1.length≤1073741824):iA.f k v=some (bw v,()):=by
 unfold iA.f iA.t bw
 rw [uY hk (by omega),aT]
 cases c:cP v with
 | false=>rfl
 | true =>
  have a:=bA v.1
  have b:=bA (v.2.1.length:Int)
  have d:=rt v.2.1
  rw [fb,aK,yv hk,aT,Ax hk hl,aT,if_pos rfl]
  simp only []
  rw [da (by rw [aO];omega),mn hk,aT,ag]
  rfl
theorem uX (v:Ty.den bj):(bw v).size≤1099511627776:=by
 unfold bw
 split
 · have:=lL (oZ v);omega
 · decide
theorem uC {p:ByteArray} (hp:p=aI∨p=dR) (n:Int):(aB p n).size≤1000:=by
 have hs:p.size≤4:=by rcases hp with q | q <;> rw [q] <;> decide
 unfold aB
 by_cases h:(1:Int)≤n∧n≤100000
 · have:=l7 (n:=n) (by omega) (by omega)
   rw [aM h,aX,ByteArray.size_append]
   omega
 · rw [aQ h,aK];decide
end Go.Proofs.YtdbekilnpjmeaaaGreatDoor.G

/- Plain laws, merged; what is proved here is told ahead of each part. -/
import Derived.Test.YtmakghhmpgfboaaGreatZPE
import Derived.Lib.ItoaNum
import Derived.Lib.AtoiAll
import Derived.Lib.AtoiAllCases
import Derived.Test.YtmakghhmpgfboaaGreatVPure
import Derived.Test.YtmakghhmpgfboaaGreatXLib
set_option linter.unusedVariables false
set_option linter.unusedSimpArgs false
namespace Go.V
theorem o_s {α β:Type} {a:α} {f:α→Option β}:Option.bind (some a) f=f a:=rfl
theorem c_f {α:Type} {a b:α}:cond false a b=b:=rfl
theorem c_t {α:Type} {a b:α}:cond true a b=a:=rfl
theorem n_t:(!true)=false:=rfl
theorem n_f:(!false)=true:=rfl
theorem q_f {α:Type} [BEq α] [LawfulBEq α] {a b:α} (h:a≠b):(a==b)=false:=beq_eq_false_iff_ne.2 h
theorem n_n (i:Nat):Int.toNat (i:Int)=i:=Int.toNat_natCast i
theorem l_c {α:Type} {a:α} {l:List α}:(a::l).length=l.length+1:=rfl
theorem l_a {α:Type} {l m:List α}:(l++m).length=l.length+m.length:=List.length_append
theorem a_a {α:Type} (l m n:List α):l++m++n=l++(m++n):=List.append_assoc l m n
theorem q_t {α:Type} [BEq α] [LawfulBEq α] {a b:α} (h:(a==b)=true):a=b:=beq_iff_eq.1 h
theorem b_a (a b:Bool):((a&&b)=true)=(a=true∧b=true):=Bool.and_eq_true a b
theorem m_s {α:Type} {a:α} {l:List α}:a ∈ a::l:=List.mem_cons_self
theorem m_m {α:Type} (y:α) {a:α} {l:List α} (h:a ∈ l):a ∈ y::l:=List.mem_cons_of_mem y h
end Go.V
namespace Go.V
theorem decT {p:Prop} [Decidable p] (h:p):decide p=true:=decide_eq_true h
theorem decF {p:Prop} [Decidable p] (h:¬ p):decide p=false:=decide_eq_false h
theorem rm_ok {R:Type} {b n:Nat} {k:Option R} (h:n≤1099511627776) (hb:b≤128):rm b n k=k :=
 rm_eq (Nat.le_trans (Nat.mul_le_mul h hb) (by decide)) (by omega)
theorem cat_ok {R:Type} {a b:ByteArray} {k:Option R} (h:a.size+b.size≤4611686018427387904):cat a b k=k:=cat_eq (by omega)
theorem mks_ok {R:Type} {b:Nat} {n:Int} {k:Option R} (h0:0≤n) (h:n≤1099511627776) (hb:b≤128):mks b n k=k :=
 mks_eq h0 (Nat.le_trans (Nat.mul_le_mul (show n.toNat≤1099511627776 by omega) hb) (by decide)) (by omega)
theorem wu32_ok {n:Int} (h0:0≤n) (h1:n≤4294967295):IntKind.wrap .u32 n=n:=by
 unfold IntKind.wrap
 simp [IntKind.bits,IntKind.signed]
 omega
theorem wu8_ok {n:Int} (h0:0≤n) (h1:n≤255):IntKind.wrap .u8 n=n:=by
 unfold IntKind.wrap
 simp [IntKind.bits,IntKind.signed]
 omega
theorem ev_big {α:Type} {g:Nat→Option α} {r:α} (h:∀ k,2 ^ 50≤k→g k=some r):Ev g r:=⟨2 ^ 50,h⟩
section
variable {α σ ρ:Type}
theorem forM {L:Nat→σ→Option ρ} {R:σ→Option ρ} (μ:σ→Nat) (P:σ→Prop)
 (h:∀ n s,P s→(∀ s',P s'→μ s' < μ s→L n s'=R s')→L (n+1) s=R s):∀ n s,P s→μ s<n→L n s=R s
 | 0,s,_,hn=>by omega
 | n+1,s,hs,hn=>h n s hs fun s' h1 h2=>forM μ P h n s' h1 (by omega)
theorem forI {L:Nat→Int→σ→Option ρ} {R:Int→σ→Option ρ} (N:Int) (P:Int→σ→Prop)
 (h0:∀ (n:Nat) s,P N s→L (n+1) N s=R N s)
 (h1:∀ (n:Nat) (i:Int) s,0≤i→i<N→P i s→(∀ s',P (i+1) s'→L n (i+1) s'=R (i+1) s')→L (n+1) i s=R i s) :
 ∀ (n:Nat) (i:Int) s,0≤i→i≤N→N-i<n→P i s→L n i s=R i s
 | 0,i,s,hi,hN,hn,_=>by omega
 | n+1,i,s,hi,hN,hn,hs=>by
  by_cases c:i=N
  · subst c;exact h0 n s hs
  · exact h1 n i s hi (by omega) hs fun s' q=>forI N P h0 h1 n (i+1) s' (by omega) (by omega) (by omega) q
theorem forL {L:Nat→Int→σ→Option ρ} {R:List α→σ→Option ρ} (z:α) (l:List α) (P:Int→σ→Prop)
 (h0:∀ (n:Nat) s,P l.length s→L (n+1) l.length s=R [] s)
 (h1:∀ (n:Nat) (i:Int) s x rest,0≤i→i<l.length→l.getD i.toNat z=x→l.drop i.toNat=x::rest→P i s→(∀ s',P (i+1) s'→L n (i+1) s'=R rest s')→L (n+1) i s=R (x::rest) s) :
 ∀ (n:Nat) (i:Int) s,0≤i→i≤l.length→(l.length:Int)-i<n→P i s→L n i s=R (l.drop i.toNat) s:=by
 intro n i s hi hN hn hs
 refine forI (L:=L) (R:=fun i s=>R (l.drop i.toNat) s) l.length P (fun n s q=>?_) (fun n i s hi hlt q ih=>?_) n i s hi hN hn hs
 · rw [h0 n s q,Int.toNat_natCast,List.drop_length]
 · have hl:i.toNat<l.length:=by omega
   have e:l.drop i.toNat=l.getD i.toNat z::l.drop (i+1).toNat:=by
    rw [List.drop_eq_getElem_cons hl,show (i+1).toNat=i.toNat+1 by omega]
    simp [List.getD,hl]
   show _=R (l.drop i.toNat) s
   rw [e]
   exact h1 n i s _ _ hi hlt rfl e q ih
theorem forL0 {L:Nat→Int→σ→Option ρ} {R:List α→σ→Option ρ} (z:α) (l:List α) (P:Int→σ→Prop)
 (h0:∀ (n:Nat) s,P l.length s→L (n+1) l.length s=R [] s)
 (h1:∀ (n:Nat) (i:Int) s x rest,0≤i→i<l.length→l.getD i.toNat z=x→l.drop i.toNat=x::rest→P i s→(∀ s',P (i+1) s'→L n (i+1) s'=R rest s')→L (n+1) i s=R (x::rest) s)
 {n:Nat} {s:σ} (hn:l.length<n) (hs:P 0 s):L n 0 s=R l s:=by
 have:=forL z l P h0 h1 n 0 s (by omega) (by omega) (by omega) hs
 simpa using this
end
theorem seqF {a b:ByteArray} (h:a≠b):seq a b=false:=by
 cases c:seq a b
 · rfl
 · exact absurd (seq_iff.1 c) h
theorem seqT {a b:ByteArray} (h:a=b):seq a b=true:=seq_iff.2 h
theorem seq_dec (a b:ByteArray):seq a b=decide (a=b):=by
 by_cases h:a=b
 · rw [seqT h,decT h]
 · rw [seqF h,decF h]
theorem drop_lt {α:Type} {l:List α} {i:Nat} {x:α} {rest:List α} (h:l.drop i=x::rest):i<l.length:=by
 rcases Nat.lt_or_ge i l.length with q | q
 · exact q
 · rw [List.drop_eq_nil_of_le q] at h;cases h
end Go.V
namespace Go.V
def vl:Nat→Nat→List Nat
 | 0,a=>[a]
 | d+1,a=>if a≥128 then (128+a % 128)::vl d (a/128) else [a]
def dec:List Nat→Nat
 | []=>0
 | b::p=>b % 128+128*dec p
def wcan:List Nat→Bool
 | []=>false
 | [b]=>decide (b<128)
 | b::c::p=>decide (128≤b)&&(decide (b<256)&&(wcan (c::p)&&!(decide (p=[])&&c==0)))
theorem vl_wcan:∀ (d a:Nat),a<128 ^ (d+1)→wcan (vl d a)=true∧dec (vl d a)=a∧(vl d a=[0]→a=0)
 | 0,a,h=>by
  have:a<128:=by simpa using h
  refine ⟨by simp [vl,wcan,this],by simp [vl,dec];omega,fun q=>by simpa [vl] using q⟩
 | d+1,a,h=>by
  unfold vl
  by_cases c:a≥128
  · rw [if_pos c]
    obtain ⟨h1,h2,h3⟩:=vl_wcan d (a/128) (by rw [Nat.pow_succ] at h;omega)
    refine ⟨?_,by rw [dec,h2];omega,fun q=>by have:=(List.cons.inj q).1;omega⟩
    generalize vl d (a/128)=l at h1 h2 h3
    match l,h1 with
    | x::p,h1 =>
     simp only [wcan,h1]
     have e1:decide (128≤128+a % 128)=true:=decide_eq_true (by omega)
     have e2:decide (128+a % 128<256)=true:=decide_eq_true (by omega)
     rw [e1,e2]
     cases hp:(decide (p=[])&&x==0)
     · rfl
     · simp only [b_a,decide_eq_true_eq,beq_iff_eq] at hp
       have:=h3 (by rw [hp.1,hp.2])
       omega
  · rw [if_neg c]
    have:a<128:=by omega
    exact ⟨by simp [wcan,this],by simp [dec];omega,fun q=>by simpa using q⟩
theorem wcan_pos:∀ (p:List Nat),wcan p=true→p≠[0]→1≤dec p
 | [],h,_=>by simp [wcan] at h
 | [b],h,q=>by
  simp only [wcan,decide_eq_true_eq] at h
  simp only [dec]
  have:b≠0:=fun e=>q (by rw [e])
  omega
 | b::c::p,h,_=>by
  simp only [wcan,b_a,decide_eq_true_eq,Bool.not_eq_true'] at h
  have ih:=wcan_pos (c::p) h.2.2.1 (fun e=>by
   have e1:c=0:=(List.cons.inj e).1
   have e2:p=[]:=(List.cons.inj e).2
   have:=h.2.2.2
   rw [e1,e2] at this
   simp at this)
  rw [dec]
  omega
theorem wcan_vl:∀ (d:Nat) (p:List Nat),wcan p=true→p.length≤d+1→vl d (dec p)=p
 | _,[],h,_=>by simp [wcan] at h
 | 0,[b],h,_=>by
  simp only [wcan,decide_eq_true_eq] at h
  simp [vl,dec];omega
 | d+1,[b],h,_=>by
  simp only [wcan,decide_eq_true_eq] at h
  have e:dec [b]=b:=by simp [dec];omega
  rw [e,vl,if_neg (by omega)]
 | 0,b::c::p,_,hl=>by simp at hl
 | d+1,b::c::p,h,hl=>by
  have h0:=h
  simp only [wcan,b_a,decide_eq_true_eq,Bool.not_eq_true'] at h
  have hp:=wcan_pos (c::p) h.2.2.1 (fun e=>by
   have e1:c=0:=(List.cons.inj e).1
   have e2:p=[]:=(List.cons.inj e).2
   have:=h.2.2.2
   rw [e1,e2] at this
   simp at this)
  have ih:=wcan_vl d (c::p) h.2.2.1 (by simp at hl ⊢;omega)
  rw [dec,vl,if_pos (by omega)]
  rw [show (b % 128+128*dec (c::p))/128=dec (c::p) by omega,ih]
  congr 1
  omega
theorem dec_snoc:∀ (p:List Nat) (b:Nat),dec (p++[b])=dec p+128 ^ p.length*(b % 128)
 | [],b=>by simp [dec]
 | a::p,b=>by
  rw [List.cons_append,dec,dec_snoc p b,dec,l_c,Nat.pow_succ,Nat.mul_add,Nat.mul_comm (128 ^ p.length) 128,Nat.mul_assoc]
  omega
theorem dec_lt:∀ (p:List Nat),dec p<128 ^ p.length
 | []=>by simp [dec]
 | a::p=>by
  have:=dec_lt p
  rw [dec,l_c,Nat.pow_succ]
  omega
def nb (s:ByteArray):List Nat:=s.data.toList.map UInt8.toNat
theorem nb_len (s:ByteArray):(nb s).length=s.size:=by
 unfold nb
 rw [List.length_map,Array.length_toList]
 rfl
theorem nb_lt {s:ByteArray} {x:Nat} (h:x ∈ nb s):x<256:=by
 unfold nb at h
 rw [List.mem_map] at h
 obtain ⟨y,_,rfl⟩:=h
 exact UInt8.toNat_lt y
theorem nb_inj {a b:ByteArray} (h:nb a=nb b):a=b:=by
 unfold nb at h
 have h1:a.data.toList=b.data.toList:=List.map_inj_right (fun x y e=>UInt8.toNat_inj.1 e) |>.1 h
 exact ByteArray.ext (Array.toList_inj.1 h1)
theorem nb_at {s:ByteArray} {i:Nat} (h:i<s.size):byteAt s (i:Int)=(((nb s).getD i 0:Nat):Int):=by
 unfold byteAt nb
 have h1:i<s.data.toList.length:=by rw [Array.length_toList];exact h
 rw [Int.toNat_natCast,List.getD,List.getD,List.getElem?_map,List.getElem?_eq_getElem h1]
 rfl
theorem nb_bytes {l:List Nat} (h:∀ x ∈ l,x<256):nb (bytesOf (l.map Int.ofNat))=l:=by
 unfold nb bytesOf
 simp only [List.map_map,List.toList_toArray]
 induction l with
 | nil=>rfl
 | cons x l ih =>
  rw [List.map_cons,ih (fun y hy=>h y (m_m _ hy))]
  have:=h x (m_s ..)
  congr 1
  show (UInt8.ofNat (Int.toNat (x:Int))).toNat=x
  rw [Int.toNat_natCast]
  simp
  omega
theorem nb_extract (s:ByteArray) (n:Nat):nb (ByteArray.extract s 0 n)=(nb s).take n:=by
 unfold nb
 simp [ByteArray.data_extract,List.map_take]
theorem vl_lt:∀ (d a:Nat),a<128 ^ (d+1)→∀ x ∈ vl d a,x<256
 | 0,a,h,x,hx=>by simp [vl] at hx;subst hx;simp at h;omega
 | d+1,a,h,x,hx=>by
  unfold vl at hx
  split at hx
  · rcases List.mem_cons.1 hx with q | q
    · subst q;omega
    · exact vl_lt d _ (by rw [Nat.pow_succ] at h;omega) x q
  · simp at hx;subst hx;omega
def varT (a:Nat):ByteArray:=bytesOf ((vl 6 a).map Int.ofNat)
theorem nb_varT {a:Nat} (h:a<562949953421312):nb (varT a)=vl 6 a:=nb_bytes (vl_lt 6 a (by rw [show (128:Nat) ^ (6+1)=562949953421312 by decide];exact h))
theorem var_check {s:ByteArray} {n:Nat} (h0:1≤n) (h7:n≤7) (hs:n≤s.size):seq (varT (dec ((nb s).take n))) (ByteArray.extract s 0 n)=wcan ((nb s).take n):=by
 have hl:((nb s).take n).length=n:=by rw [List.length_take,nb_len];omega
 have hd:dec ((nb s).take n)<562949953421312:=by
  have:=dec_lt ((nb s).take n)
  rw [hl] at this
  have h2:(128:Nat) ^ n≤128 ^ 7:=Nat.pow_le_pow_right (by decide) h7
  rw [show (128:Nat) ^ 7=562949953421312 by decide] at h2
  omega
 rw [Bool.eq_iff_iff,seq_iff]
 constructor
 · intro e
   have e1:nb (varT (dec ((nb s).take n)))=(nb s).take n:=by rw [e,nb_extract]
   rw [nb_varT hd] at e1
   have:=(vl_wcan 6 (dec ((nb s).take n)) (by rw [show (128:Nat) ^ (6+1)=562949953421312 by decide];exact hd)).1
   rw [e1] at this
   exact this
 · intro c
   refine nb_inj ?_
   rw [nb_varT hd,nb_extract]
   exact wcan_vl 6 _ c (by omega)
end Go.V
namespace Go.V
open Go
def decB (n:Int):ByteArray:=⟨(Lib.itoa n).toArray⟩
def digs (u:Nat):List UInt8:=if u=0 then [] else Lib.decDigits u
theorem digs_zero:digs 0=[]:=rfl
theorem digs_pos {u:Nat} (h:u≠0):digs u=Lib.decDigits u:=if_neg h
theorem digs_step {u:Nat} (h:u≠0):digs u=digs (u/10)++[UInt8.ofNat (48+u % 10)]:=by
 rw [digs_pos h,Lib.decDigits]
 by_cases c:u<10
 · rw [dif_pos c,show u/10=0 by omega,digs_zero,List.nil_append,Nat.mod_eq_of_lt c]
 · rw [dif_neg c,digs_pos (by omega)]
theorem decDigits_ne (u:Nat):Lib.decDigits u≠[]:=by
 rw [Lib.decDigits]
 split <;> simp
theorem decDigits_zero:Lib.decDigits 0=[48]:=by
 rw [Lib.decDigits,dif_pos (by omega)]
 rfl
theorem digit_nat {d:Nat} (h:d<10):(UInt8.ofNat (48+d)).toNat=48+d:=by
 simp
 omega
theorem decDigits_digit (u:Nat):∀ b ∈ Lib.decDigits u,48≤b.toNat∧b.toNat≤57:=by
 induction u using Nat.strongRecOn with
 | _ u ih =>
  intro b hb
  rw [Lib.decDigits] at hb
  split at hb
  · rename_i h
    rw [List.mem_singleton] at hb
    subst hb
    rw [digit_nat h]
    omega
  · rename_i h
    rcases List.mem_append.1 hb with q | q
    · exact ih (u/10) (by omega) b q
    · rw [List.mem_singleton] at q
      subst q
      rw [digit_nat (by omega)]
      omega
def spell:List Nat→Nat→Nat
 | [],a=>a
 | b::l,a=>spell l (a*10+(b-48))
theorem spell_app:∀ (l m:List Nat) (a:Nat),spell (l++m) a=spell m (spell l a)
 | [],m,a=>rfl
 | b::l,m,a=>spell_app l m _
theorem spell_dec (u:Nat):spell ((Lib.decDigits u).map UInt8.toNat) 0=u:=by
 induction u using Nat.strongRecOn with
 | _ u ih =>
  rw [Lib.decDigits]
  split
  · rename_i h
    simp only [List.map_cons,List.map_nil,spell,digit_nat h]
    omega
  · rename_i h
    rw [List.map_append,spell_app,ih (u/10) (by omega)]
    simp only [List.map_cons,List.map_nil,spell,digit_nat (show u % 10<10 by omega)]
    omega
theorem decDigits_len:∀ (k u:Nat),u<10 ^ (k+1)→(Lib.decDigits u).length≤k+1
 | 0,u,h=>by
  rw [Lib.decDigits,dif_pos (by simpa using h)]
  simp
 | k+1,u,h=>by
  rw [Lib.decDigits]
  split
  · simp
  · have:=decDigits_len k (u/10) (by rw [Nat.pow_succ] at h;omega)
    rw [l_a]
    show _+1≤_
    omega
theorem nb_decB (n:Int):nb (decB n)=if n<0 then 45::(Lib.decDigits n.natAbs).map UInt8.toNat else (Lib.decDigits n.toNat).map UInt8.toNat:=by
 unfold nb decB Lib.itoa
 split <;> simp
theorem decB_inj {a b:Int} (h:decB a=decB b):a=b:=by
 have h1:=congrArg nb h
 rw [nb_decB,nb_decB] at h1
 have hd:∀ u:Nat,∀ l,(Lib.decDigits u).map UInt8.toNat≠45::l:=fun u l q=>by
  have hm:(45:Nat) ∈ (Lib.decDigits u).map UInt8.toNat:=by rw [q];exact m_s ..
  obtain ⟨x,hx,e⟩:=List.mem_map.1 hm
  have:=decDigits_digit u x hx
  omega
 by_cases ca:a<0
 · rw [if_pos ca] at h1
   by_cases cb:b<0
   · rw [if_pos cb] at h1
     have h2:=(List.cons.inj h1).2
     have h3:=congrArg (fun l=>spell l 0) h2
     simp only [spell_dec] at h3
     omega
   · rw [if_neg cb] at h1
     exact absurd h1.symm (hd _ _)
 · rw [if_neg ca] at h1
   by_cases cb:b<0
   · rw [if_pos cb] at h1
     exact absurd h1 (hd _ _)
   · rw [if_neg cb] at h1
     have h3:=congrArg (fun l=>spell l 0) h1
     simp only [spell_dec] at h3
     omega
theorem decB_size {n:Int} (h0 : -1000000000<n) (h1:n<1000000000):(decB n).size≤10:=by
 rw [← nb_len,nb_decB]
 split
 · have:=decDigits_len 8 n.natAbs (by rw [show (10:Nat) ^ (8+1)=1000000000 by decide];omega)
   rw [l_c,List.length_map]
   omega
 · have:=decDigits_len 8 n.toNat (by rw [show (10:Nat) ^ (8+1)=1000000000 by decide];omega)
   rw [List.length_map]
   omega
theorem decB_size20 (n:Int) (h0 : -9223372036854775808≤n) (h1:n≤9223372036854775807):(decB n).size≤20:=by
 rw [← nb_len,nb_decB]
 split
 · have:=decDigits_len 18 n.natAbs (by rw [show (10:Nat) ^ (18+1)=10000000000000000000 by decide];omega)
   rw [l_c,List.length_map]
   omega
 · have:=decDigits_len 18 n.toNat (by rw [show (10:Nat) ^ (18+1)=10000000000000000000 by decide];omega)
   rw [List.length_map]
   omega
end Go.V
namespace Go.V
section
variable {α ρ:Type}
def adj (ok:Option α→α→Bool):Option α→List α→Bool
 | _,[]=>true
 | p,x::l=>ok p x&&adj ok (some x) l
theorem forAdj {L:Nat→Int→Option ρ} (z:α) (l:List α) (ok:Option α→α→Bool) (yes no:Option ρ) (h0:∀ (n:Nat),L (n+1) l.length=yes)
 (h1:∀ (n:Nat) x,0<l.length→l.getD (Int.toNat 0) z=x→L (n+1) 0=bif ok none x then L n 1 else no)
 (h2:∀ (n:Nat) (i:Int) x y,0<i→i<l.length→l.getD i.toNat z=x→l.getD (i-1).toNat z=y→L (n+1) i=bif ok (some y) x then L n (i+1) else no)
 {n:Nat} (hn:l.length<n):L n 0=bif adj ok none l then yes else no:=by
 have key:∀ (d i n:Nat),l.length=i+d→0<i→d<n→L n (i:Int)=bif adj ok (some (l.getD (i-1) z)) (l.drop i) then yes else no:=by
  intro d
  induction d with
  | zero =>
   intro i n h h' hn
   obtain ⟨n,rfl⟩:∃ q,n=q+1:=⟨n-1,by omega⟩
   have:i=l.length:=by omega
   subst this
   rw [h0 n,List.drop_length]
   rfl
  | succ d ih =>
   intro i n h h' hn
   obtain ⟨n,rfl⟩:∃ q,n=q+1:=⟨n-1,by omega⟩
   have hl:i<l.length:=by omega
   have e:l.drop i=l.getD i z::l.drop (i+1):=by
    rw [List.drop_eq_getElem_cons hl]
    simp [List.getD,hl]
   have ih:=ih (i+1) n (by omega) (by omega) (by omega)
   rw [h2 n i (l.getD i z) (l.getD (i-1) z) (by omega) (by omega) (by rw [Int.toNat_natCast]) (by rw [show ((i:Int)-1).toNat=i-1 by omega]),e,adj]
   rw [show ((i:Int)+1)=((i+1:Nat):Int) by omega,ih,show i+1-1=i by omega]
   cases ok (some (l.getD (i-1) z)) (l.getD i z) <;> rfl
 obtain ⟨n,rfl⟩:∃ q,n=q+1:=⟨n-1,by omega⟩
 cases l with
 | nil=>exact h0 n
 | cons x l =>
  rw [h1 n x (by simp) rfl,adj]
  have:=key l.length 1 n (by rw [l_c];omega) (by omega) (by rw [l_c] at hn;omega)
  rw [show ((1:Nat):Int)=1 from rfl] at this
  rw [this]
  cases ok none x <;> rfl
theorem adj_all {ok:Option α→α→Bool} {l:List α} {p:Option α} (h:adj ok p l=true) {x:α} (hx:x ∈ l):∃ q,ok q x=true:=by
 induction l generalizing p with
 | nil=>cases hx
 | cons y l ih =>
  rw [adj,b_a] at h
  rcases List.mem_cons.1 hx with e | e
  · subst e;exact ⟨p,h.1⟩
  · exact ih h.2 e
end
theorem getD_take {α:Type} {l:List α} {n i:Nat} {z:α} (h:i<n):(l.take n).getD i z=l.getD i z:=by
 simp [List.getD,List.getElem?_take,h]
theorem take_succ_getD {α:Type} {l:List α} {i:Nat} {z:α} (h:i<l.length):l.take (i+1)=l.take i++[l.getD i z]:=by
 rw [List.take_succ_eq_append_getElem h]
 simp [List.getD,h]
theorem len_snoc {α:Type} (l:List α) (x:α):(l++[x]).length=l.length+1:=by simp
end Go.V
namespace Go.V
def dB (l:List UInt8):ByteArray:=⟨l.toArray⟩
theorem dB_app (a b:List UInt8):dB a++dB b=dB (a++b):=by
 apply ByteArray.ext
 simp [dB,ByteArray.data_append]
theorem dB_size (l:List UInt8):(dB l).size=l.length:=by simp [dB,ByteArray.size]
theorem ba_nil (s:ByteArray):dB []++s=s:=by
 apply ByteArray.ext
 simp [dB,ByteArray.data_append]
theorem ba_end (s:ByteArray):s++dB []=s:=by
 apply ByteArray.ext
 simp [dB,ByteArray.data_append]
theorem ba_assoc (a b c:ByteArray):a++b++c=a++(b++c):=by
 apply ByteArray.ext
 simp [ByteArray.data_append]
theorem decB_eq (n:Int) (h:n≠0):decB n=(bif decide (n<0) then dB [45] else dB [])++dB (digs n.natAbs):=by
 unfold decB Lib.itoa
 by_cases c:n<0
 · rw [if_pos c,decT c,c_t,dB_app,digs_pos (by omega)]
   rfl
 · rw [if_neg c,decF c,c_f,ba_nil,digs_pos (by omega),show n.natAbs=n.toNat by omega]
   rfl
theorem digs_len {u:Nat} (h:u≤9223372036854775808):(digs u).length≤19:=by
 by_cases c:u=0
 · subst c;decide
 · rw [digs_pos c]
   exact decDigits_len 18 u (by rw [show (10:Nat) ^ (18+1)=10000000000000000000 by decide];omega)
theorem decB_small {n:Int} (h0 : -9223372036854775808≤n) (h1:n≤9223372036854775807):(decB n).size≤20:=decB_size20 n h0 h1
def nmBytes:List Nat→Bool
 | []=>true
 | b::l=>(decide (97≤b∧b≤122)||decide (48≤b∧b≤57))&&nmBytes l
def nameM (s:ByteArray):Bool:=nmBytes (nb s)&&decide (1≤s.size∧s.size≤12)
end Go.V
namespace Go.Proofs.YtmakghhmpgfboaaGreat.G
open Go.V
theorem specDec_eq {k:Nat} (hk:2 ^ 50≤k) {n:Int} (h0 : -9223372036854775808≤n) (h1:n≤9223372036854775807):spec_Dec.f k n=some (decB n,()):=by
 unfold spec_Dec.f spec_Dec.t
 by_cases c:n=0
 · subst c
   have:decB 0=(⟨#[48]⟩:ByteArray):=by
    unfold decB Lib.itoa
    rw [if_neg (by decide),show (0:Int).toNat=0 from rfl,decDigits_zero]
   rw [this]
   rfl
 · rw [show (n==0)=false from q_f c,c_f]
   have key:=forM (L:=fun m (s:Int × ByteArray)=>spec_Dec.l0 k m s.1 s.2 (decide (n<0))) (R:=fun s=>some ((bif decide (n<0) then dB [45] else dB [])++(dB (digs s.1.natAbs)++s.2),()))
    (fun s=>(digs s.1.natAbs).length) (fun s => -9223372036854775808≤s.1∧s.1≤9223372036854775807∧s.2.size+(digs s.1.natAbs).length≤1000) ?_ k (n,(⟨#[]⟩:ByteArray))
    ⟨h0,h1,by have:=digs_len (u:=n.natAbs) (by omega);show 0+(digs n.natAbs).length≤1000;omega⟩ (by have:=digs_len (u:=n.natAbs) (by omega);show (digs n.natAbs).length<k;omega)
   · refine key.trans ?_
     simp only []
     rw [decB_eq n c,show (⟨#[]⟩:ByteArray)=dB [] from rfl,ba_end]
   · intro m s hs ih
     obtain ⟨x,acc⟩:=s
     obtain ⟨g0,g1,g2⟩:=hs
     simp only [] at g0 g1 g2 ih ⊢
     by_cases cx:x=0
     · subst cx
       have hz:digs (Int.natAbs 0)=[]:=rfl
       rw [hz] at g2 ⊢
       rw [ba_nil]
       unfold spec_Dec.l0 spec_Dec.b0
       rw [show ((0:Int) != 0)=false from rfl,c_f]
       cases decide (n<0)
       · rw [c_f,c_f,ba_nil]
       · rw [c_t,c_t,cat_ok (by rw [show (⟨#[45]⟩:ByteArray).size=1 from rfl];omega)]
         rfl
     · have hd:=digs_step (u:=x.natAbs) (by omega)
       have hb:bytesOf [48+((x.natAbs % 10:Nat):Int)]=dB [UInt8.ofNat (48+x.natAbs % 10)]:=rfl
       have hm:x.natAbs % 10<10:=Nat.mod_lt _ (by decide)
       have hl:(digs x.natAbs).length=(digs (x.natAbs/10)).length+1:=by rw [hd,l_a];rfl
       have hr:(dB [UInt8.ofNat (48+x.natAbs % 10)]++acc).size=1+acc.size:=by rw [ByteArray.size_append];rfl
       have fin:∀ y:Int,y.natAbs=x.natAbs/10 → -9223372036854775808≤y→y≤9223372036854775807 →
        spec_Dec.l0 k m (w64 y) (dB [UInt8.ofNat (48+x.natAbs % 10)]++acc) (decide (n<0))=some ((bif decide (n<0) then dB [45] else dB [])++(dB (digs x.natAbs)++acc),()):=fun y hy q0 q1=>by
        rw [w64_eq q0 q1]
        have:=ih (y,dB [UInt8.ofNat (48+x.natAbs % 10)]++acc) ⟨q0,q1,by simp only [];rw [hr,hy];omega⟩ (by simp only [];rw [hy];omega)
        simp only [] at this
        rw [this,hy,hd,← dB_app,ba_assoc]
       unfold spec_Dec.l0 spec_Dec.b0
       rw [show (x != 0)=true from bne_iff_ne.2 cx,c_t]
       obtain ⟨u,rfl | rfl⟩:=Int.eq_nat_or_neg x
       · have e1:Int.tmod (u:Int) 10=((u % 10:Nat):Int):=rfl
         have e2:Int.tdiv (u:Int) 10=((u/10:Nat):Int):=rfl
         rw [Int.natAbs_natCast] at *
         rw [e1,e2,decF (by omega),c_f,w64_eq (n:=48+((u % 10:Nat):Int)) (by omega) (by omega),wu8_ok (by omega) (by omega),hb,cat_ok (by rw [dB_size];simp only [List.length_singleton];omega)]
         exact fin _ (by omega) (by omega) (by omega)
       · have e1:Int.tmod (-(u:Int)) 10 = -((u % 10:Nat):Int):=Int.neg_tmod (a:=(u:Int)) (b:=10)
         have e2:Int.tdiv (-(u:Int)) 10 = -((u/10:Nat):Int):=Int.neg_tdiv (u:Int) 10
         rw [Int.natAbs_neg,Int.natAbs_natCast] at *
         rw [e1,e2]
         by_cases cz:u % 10=0
         · rw [decF (by omega),c_f,show (48:Int) + -((u % 10:Nat):Int)=48+((u % 10:Nat):Int) by omega,w64_eq (n:=48+((u % 10:Nat):Int)) (by omega) (by omega),wu8_ok (by omega) (by omega),hb,cat_ok (by rw [dB_size];simp only [List.length_singleton];omega)]
           exact fin _ (by omega) (by omega) (by omega)
         · rw [decT (by omega),c_t,w64_eq (n:=0 - -((u % 10:Nat):Int)) (by omega) (by omega),show (48:Int)+(0 - -((u % 10:Nat):Int))=48+((u % 10:Nat):Int) by omega,w64_eq (n:=48+((u % 10:Nat):Int)) (by omega) (by omega),wu8_ok (by omega) (by omega),hb,cat_ok (by rw [dB_size];simp only [List.length_singleton];omega)]
           exact fin _ (by omega) (by omega) (by omega)
theorem inD_eq (k:Nat) (a b c:Int):impl_in.f k a b c=some (decide (b≤a∧a≤c),()):=by
 unfold impl_in.f impl_in.t
 by_cases h:a≥b
 · rw [decT h,c_t,decide_eq_decide.2 (show (b≤a∧a≤c)↔a≤c from ⟨fun q=>q.2,fun q=>⟨h,q⟩⟩)]
 · rw [decF h,c_f,decF (fun q=>h q.1)]
theorem l1InD_eq (k:Nat) (a b c:Int):spec_l1In.f k a b c=some (decide (b≤a∧a≤c),()):=by
 unfold spec_l1In.f spec_l1In.t
 by_cases h:a≥b
 · rw [decT h,c_t,decide_eq_decide.2 (show (b≤a∧a≤c)↔a≤c from ⟨fun q=>q.2,fun q=>⟨h,q⟩⟩)]
 · rw [decF h,c_f,decF (fun q=>h q.1)]
theorem nb_byte {s:ByteArray} {i:Int} {x:Nat} (h0:0≤i) (h1:i<((nb s).length:Int)) (hx:(nb s).getD i.toNat 0=x):byteAt s i=(x:Int):=by
 rw [nb_len] at h1
 have:=nb_at (s:=s) (i:=i.toNat) (by omega)
 rw [show ((i.toNat:Nat):Int)=i by omega,hx] at this
 exact this
theorem nameM_eq {s:ByteArray}:(some ((bif nmBytes (nb s) then decide (1≤(s.size:Int)∧(s.size:Int)≤12) else false),()):Option (Bool × Unit))=some (nameM s,()):=by
 unfold nameM
 rw [decide_eq_decide.2 (show (1≤(s.size:Int)∧(s.size:Int)≤12)↔(1≤s.size∧s.size≤12) by omega)]
 cases nmBytes (nb s) <;> rfl
theorem specName_eq {k:Nat} (hk:2 ^ 50≤k) {s:ByteArray} (hs:s.size≤1099511627776):spec_NameOk.f k s=some (nameM s,()):=by
 unfold spec_NameOk.f spec_NameOk.t
 have hn:=nb_len s
 refine (forL0 (L:=fun n i (_:Unit)=>spec_NameOk.l0 k n s i) (R:=fun r _=>some ((bif nmBytes r then decide (1≤(s.size:Int)∧(s.size:Int)≤12) else false),())) 0 (nb s) (fun _ _=>True) (fun n _ _=>?_) (fun n i _ x rest h0 h1 hx hr hp ih=>?_) (n:=k) (s:=()) (by omega) trivial).trans nameM_eq
 · simp only [hn]
   simp (disch:=omega) only [spec_NameOk.l0,spec_NameOk.b0,decF,c_f,l1InD_eq k,o_s,nmBytes,c_t]
 · have hb:=nb_byte h0 h1 hx
   have ih:=ih () trivial
   simp only [hn] at *
   simp (disch:=omega) only [spec_NameOk.l0,spec_NameOk.b0,decT h1,c_t,inb_eq,hb,w64_eq,ih,nmBytes]
   by_cases c1:97≤x
   · rw [decT (show (x:Int)≥97 by omega),c_t]
     by_cases c2:x≤122
     · rw [decT (show (x:Int)≤122 by omega),c_t,decT (show 97≤x∧x≤122 from ⟨c1,c2⟩)]
       rfl
     · rw [decF (show ¬ (x:Int)≤122 by omega),c_f,decF (show ¬ (97≤x∧x≤122) by omega),decT (show (x:Int)≥48 by omega),c_t,decF (show ¬ (x:Int)≤57 by omega),decF (show ¬ (48≤x∧x≤57) by omega)]
       rfl
   · rw [decF (show ¬ (x:Int)≥97 by omega),c_f,decF (show ¬ (97≤x∧x≤122) by omega)]
     by_cases c3:48≤x
     · rw [decT (show (x:Int)≥48 by omega),c_t]
       by_cases c4:x≤57
       · rw [decT (show (x:Int)≤57 by omega),decT (show 48≤x∧x≤57 from ⟨c3,c4⟩)]
         rfl
       · rw [decF (show ¬ (x:Int)≤57 by omega),decF (show ¬ (48≤x∧x≤57) by omega)]
         rfl
     · rw [decF (show ¬ (x:Int)≥48 by omega),c_f,decF (show ¬ (48≤x∧x≤57) by omega)]
       rfl
abbrev FileL:=List (Ty.den TFile)
def used (l:FileL):Nat:=(l.map fun f=>f.2.1.size).sum
def names (l:FileL):Nat:=(l.map fun f=>f.1.size).sum
theorem used_cons (x:Ty.den TFile) (l:FileL):used (x::l)=x.2.1.size+used l:=by unfold used;rw [List.map_cons,List.sum_cons]
theorem used_nil:used []=0:=rfl
theorem names_cons (x:Ty.den TFile) (l:FileL):names (x::l)=x.1.size+names l:=by unfold names;rw [List.map_cons,List.sum_cons]
theorem used_mem {l:FileL} {x:Ty.den TFile} (h:x ∈ l):x.2.1.size≤used l:=by
 induction l with
 | nil=>cases h
 | cons y l ih =>
  rw [used_cons]
  rcases List.mem_cons.1 h with e | e
  · subst e;omega
  · have:=ih e;omega
theorem names_mem {l:FileL} {x:Ty.den TFile} (h:x ∈ l):x.1.size≤names l:=by
 induction l with
 | nil=>cases h
 | cons y l ih =>
  rw [names_cons]
  rcases List.mem_cons.1 h with e | e
  · subst e;omega
  · have:=ih e;omega
def fileOk (p:Option (Ty.den TFile)) (x:Ty.den TFile):Bool :=
 nameM x.1&&(decide ((0:Int)≤x.2.2.1∧x.2.2.1≤(x.2.1.size:Int))&&(match p with | none=>true | some y=>sls y.1 x.1))
def diskM (d:Ty.den TDisk):Bool :=
 decide (d.1.length≤130)&&(decide ((0:Int)≤d.2.1∧d.2.1≤(100000:Int))&&(decide ((-1:Int)≤d.2.2.1∧d.2.2.1≤(100000:Int))&&(decide ((used d.1:Int)≤d.2.1)&&adj fileOk none d.1)))
theorem specUsed_eq {k:Nat} (hk:2 ^ 50≤k) {d:Ty.den TDisk} (hl:d.1.length≤1099511627776) (hu:used d.1≤1099511627776):spec_l3Used.f k d=some ((used d.1:Int),()):=by
 unfold spec_l3Used.f spec_l3Used.t
 refine (forL0 (L:=fun n i s=>spec_l3Used.l0 k n s i d.1 d.2.1 d.2.2.1 d.2.2.2.1) (R:=fun r s=>some (s+(used r:Int),())) (Ty.dflt TFile) d.1 (fun i s=>0≤s∧s+(used (d.1.drop i.toNat):Int)≤1099511627776) (fun n s hs=>?_) (fun n i s x rest h0 h1 hx hr hp ih=>?_) (n:=k) (s:=0) (by omega) ⟨by omega,by rw [show d.1.drop (Int.toNat 0)=d.1 from rfl];omega⟩).trans (by rw [Int.zero_add])
 · simp (disch:=omega) only [spec_l3Used.l0,spec_l3Used.b0,decF,c_f]
   show some (s,())=some (s+((0:Nat):Int),())
   rw [show s+((0:Nat):Int)=s by omega]
 · have hrest:d.1.drop (i+1).toNat=rest:=by
    have:=congrArg (List.drop 1) hr
    rw [List.drop_drop,List.drop_one,List.tail_cons] at this
    rw [show (i+1).toNat=i.toNat+1 by omega]
    exact this
   rw [hr,used_cons] at hp
   have ih:=ih (s+(x.2.1.size:Int)) ⟨by omega,by rw [hrest];omega⟩
   simp (disch:=omega) only [spec_l3Used.l0,spec_l3Used.b0,decT h1,c_t,inb_eq,hx,w64_eq,ih]
   rw [show s+(x.2.1.size:Int)+(used rest:Int)=s+((x.2.1.size+used rest:Nat):Int) by omega]
   show _=some (s+((used (x::rest):Nat):Int),())
   rw [used_cons]
theorem specDisk_eq {k:Nat} (hk:2 ^ 50≤k) {d:Ty.den TDisk} (hu:used d.1≤1099511627776) (hn:names d.1≤1099511627776):spec_DiskOk.f k d=some (diskM d,()):=by
 unfold spec_DiskOk.f spec_DiskOk.t diskM
 by_cases c:d.1.length > 130
 · rw [decT (by omega),c_t,decF (by omega),Bool.false_and]
 · rw [decF (by omega),c_f,decT (by omega),Bool.true_and,l1InD_eq,o_s]
   cases decide ((0:Int)≤d.2.1∧d.2.1≤(100000:Int)) with
   | false=>rfl
   | true =>
    rw [n_t,c_f,l1InD_eq,o_s,Bool.true_and]
    cases decide ((-1:Int)≤d.2.2.1∧d.2.2.1≤(100000:Int)) with
    | false=>rfl
    | true =>
     rw [n_t,c_f,specUsed_eq hk (by omega) hu,o_s,Bool.true_and]
     simp only []
     by_cases cu:(used d.1:Int) > d.2.1
     · rw [decT cu,c_t,decF (by omega),Bool.false_and]
     · rw [decF cu,c_f,decT (by omega),Bool.true_and]
       refine (forAdj (L:=fun n i=>spec_DiskOk.l0 k n i d.1 d.2.1 d.2.2.1 d.2.2.2.1) (Ty.dflt TFile) d.1 fileOk (some (true,())) (some (false,())) (fun n=>?_) (fun n x h hx=>?_) (fun n i x y h0 h1 hx hy=>?_) (n:=k) (by omega)).trans (by cases adj fileOk none d.1 <;> rfl)
       · simp (disch:=omega) only [spec_DiskOk.l0,spec_DiskOk.b0,decF,c_f]
       · have hm:x ∈ d.1:=by rw [← hx];exact getD_mem (by omega)
         have hs:=names_mem hm
         simp (disch:=omega) only [spec_DiskOk.l0,spec_DiskOk.b0,decT (show (0:Int)<(d.1.length:Int) by omega),c_t,inb_eq,hx,specName_eq hk,l1InD_eq k,o_s,decF (show ¬ (0:Int) > 0 by omega),c_f,w64_eq,fileOk]
         cases nameM x.1 <;> cases decide ((0:Int)≤x.2.2.1∧x.2.2.1≤(x.2.1.size:Int)) <;> rfl
       · have hm:x ∈ d.1:=by rw [← hx];exact getD_mem (by omega)
         have hs:=names_mem hm
         simp (disch:=omega) only [spec_DiskOk.l0,spec_DiskOk.b0,decT h1,c_t,inb_eq,hx,hy,specName_eq hk,l1InD_eq k,o_s,decT (show i > 0 by omega),c_f,w64_eq,fileOk,sls_total]
         cases nameM x.1 <;> cases decide ((0:Int)≤x.2.2.1∧x.2.2.1≤(x.2.1.size:Int)) <;> cases sls y.1 x.1 <;> rfl
def findI:FileL→ByteArray→Int→Int
 | [],_,_ => -1
 | f::l,s,i=>bif seq f.1 s then i else findI l s (i+1)
def getM:FileL→ByteArray→Option (Ty.den TFile)
 | [],_=>none
 | f::l,s=>bif seq f.1 s then some f else getM l s
theorem find_get:∀ (l:FileL) (s:ByteArray) (i:Int),(getM l s=none∧findI l s i = -1)∨(∃ f,getM l s=some f∧i≤findI l s i∧findI l s i<i+(l.length:Int)∧l.getD (findI l s i-i).toNat (Ty.dflt TFile)=f∧f ∈ l)
 | [],s,i => .inl ⟨rfl,rfl⟩
 | f::l,s,i=>by
  unfold findI getM
  cases c:seq f.1 s with
  | true=>exact .inr ⟨f,rfl,Int.le_refl _,by rw [c_t,l_c];omega,by rw [c_t,show (i-i).toNat=0 by omega];rfl,m_s ..⟩
  | false =>
   rw [c_f,c_f]
   rcases find_get l s (i+1) with h | ⟨g,h1,h2,h3,h4,h5⟩
   · exact .inl h
   · refine .inr ⟨g,h1,by omega,by rw [l_c];omega,?_,m_m _ h5⟩
     rw [show (findI l s (i+1)-i).toNat=(findI l s (i+1)-(i+1)).toNat+1 by omega]
     exact h4
theorem specFind_eq {k:Nat} (hk:2 ^ 50≤k) {d:Ty.den TDisk} (hl:d.1.length≤1099511627776) (s:ByteArray):spec_l3Find.f k d s=some (findI d.1 s 0,()):=by
 unfold spec_l3Find.f spec_l3Find.t
 refine forL0 (L:=fun n i (_:Int)=>spec_l3Find.l0 k n s i d.1 d.2.1 d.2.2.1 d.2.2.2.1) (R:=fun r j=>some (findI r s j,())) (Ty.dflt TFile) d.1 (fun i j=>j=i) (fun n j hj=>?_) (fun n i j x rest h0 h1 hx hr hp ih=>?_) (n:=k) (s:=0) (by omega) rfl
 · simp (disch:=omega) only [spec_l3Find.l0,spec_l3Find.b0,decF,c_f,findI]
 · have ih:=ih (i+1) rfl
   subst hp
   simp (disch:=omega) only [spec_l3Find.l0,spec_l3Find.b0,decT h1,c_t,inb_eq,hx,w64_eq,ih,findI]
   cases seq x.1 s <;> rfl
def textM (d:Ty.den TDisk) (s:ByteArray):ByteArray × Bool :=
 bif diskM d then (match getM d.1 s with | none=>(⟨#[]⟩,false) | some f=>(f.2.1,true)) else (⟨#[]⟩,false)
theorem textM_size (d:Ty.den TDisk) (s:ByteArray):(textM d s).1.size≤used d.1:=by
 unfold textM
 cases diskM d with
 | false=>exact Nat.zero_le _
 | true =>
  rw [c_t]
  rcases find_get d.1 s 0 with h | ⟨f,h1,_,_,_,h5⟩
  · rw [h.1];exact Nat.zero_le _
  · rw [h1];exact used_mem h5
theorem specText_eq {k:Nat} (hk:2 ^ 50≤k) {d:Ty.den TDisk} (hl:d.1.length≤1099511627776) (hu:used d.1≤1099511627776) (hn:names d.1≤1099511627776) (s:ByteArray) :
 spec_FileText.f k d s=some ((textM d s).1,((textM d s).2,())):=by
 unfold spec_FileText.f spec_FileText.t textM
 rw [specDisk_eq hk hu hn,o_s]
 cases diskM d with
 | false=>rfl
 | true =>
  rw [specFind_eq hk hl]
  simp only [o_s,n_t,c_f,c_t]
  rcases find_get d.1 s 0 with h | ⟨f,h1,h2,h3,h4,h5⟩
  · rw [h.1,h.2];rfl
  · rw [h1,decF (by omega),c_f,inb_eq h2 (by omega)]
    rw [Int.sub_zero] at h4
    rw [h4]
def namedM (p:ByteArray) (n:Int):ByteArray:=bif decide ((1:Int)≤n∧n≤100000) then p++decB n else ⟨#[]⟩
def segB:ByteArray:=⟨#[115,101,103]⟩
theorem specSegName_eq {k:Nat} (hk:2 ^ 50≤k) (n:Int):spec_SegName.f k n=some (namedM segB n,()):=by
 unfold spec_SegName.f spec_SegName.t namedM
 rw [l1InD_eq,o_s]
 by_cases c:(1:Int)≤n∧n≤100000
 · have hz:=decB_small (n:=n) (by omega) (by omega)
   rw [decT c]
   simp only [n_t,c_f,c_t]
   rw [specDec_eq hk (by omega) (by omega),o_s,cat_ok (by show 3+(decB n).size≤_;omega)]
   rfl
 · rw [decF c]
   rfl
structure DSz (d:Ty.den TDisk):Prop where
 l:d.1.length≤1073741824
 u:used d.1≤1073741824
 n:names d.1≤1073741824
end Go.Proofs.YtmakghhmpgfboaaGreat.G
namespace Go.V
theorem less_trans:∀ a b c:List UInt8,Op.bytesLess a b=true→Op.bytesLess b c=true→Op.bytesLess a c=true
 | a,b,[],_,h2=>by cases b <;> simp [Op.bytesLess] at h2
 | [],b,z::c,_,_=>by simp [Op.bytesLess]
 | x::a,[],z::c,h1,_=>by simp [Op.bytesLess] at h1
 | x::a,y::b,z::c,h1,h2=>by
  simp only [Op.bytesLess] at h1 h2 ⊢
  have ih:=less_trans a b c
  simp only [Bool.or_eq_true,b_a,decide_eq_true_eq,beq_iff_eq] at h1 h2 ⊢
  rcases h1 with g1 | ⟨rfl,g1⟩
  · rcases h2 with g2 | ⟨rfl,g2⟩
    · exact Or.inl (UInt8.lt_trans g1 g2)
    · exact Or.inl g1
  · rcases h2 with g2 | ⟨rfl,g2⟩
    · exact Or.inl g2
    · exact Or.inr ⟨rfl,ih g1 g2⟩
theorem sls_trans {a b c:ByteArray} (h1:sls a b=true) (h2:sls b c=true):sls a c=true:=less_trans _ _ _ h1 h2
theorem sls_irrefl (a:ByteArray):sls a a=false:=by
 have:=sls_total a a
 rw [seq_refl] at this
 cases h:sls a a with
 | false=>rfl
 | true=>rw [h] at this;cases this
def KeysOk (K:List ByteArray):Prop:=K.Pairwise (fun a b=>sls a b=true)
end Go.V
namespace Go.Proofs.YtmakghhmpgfboaaGreat.G
open Go.V
def insF:FileL→Ty.den TFile→FileL
 | [],f=>[f]
 | g::l,f=>bif sls f.1 g.1 then f::g::l else g::insF l f
def delF:FileL→ByteArray→FileL
 | [],_=>[]
 | g::l,s=>bif seq g.1 s then l else g::delF l s
def updF (h:Ty.den TFile→Ty.den TFile):FileL→ByteArray→FileL
 | [],_=>[]
 | g::l,s=>bif seq g.1 s then h g::l else g::updF h l s
def begM (d:Ty.den TDisk):Ty.den TDisk × Int :=
 bif !diskM d then (d,5) else bif d.2.2.2.1 then ((d.1,(d.2.1,(d.2.2.1,(true,())))),1) else bif (d.2.2.1==0) then ((d.1,(d.2.1,(d.2.2.1,(true,())))),1) else
 bif decide ((d.2.2.1:Int) > 0) then ((d.1,(d.2.1,(w64 (d.2.2.1-1),d.2.2.2))),0) else (d,0)
def stepM (d:Ty.den TDisk) (g:FileL→Int→FileL × Int):Ty.den TDisk × Int :=
 bif (begM d).2 != 0 then begM d else (((g d.1 d.2.1).1,(begM d).1.2),(g d.1 d.2.1).2)
def creG (s:ByteArray) (l:FileL) (c:Int):FileL × Int :=
 bif !nameM s then (l,5) else bif (getM l s).isSome then (l,4) else bif decide ((l.length:Int)≥130) then (l,2) else (insF l (s,(ByteArray.empty,(0,()))),0)
def appG (s t:ByteArray) (l:FileL) (c:Int):FileL × Int :=
 bif (getM l s).isNone then (l,3) else bif decide ((t.size:Int) > w64 (c-(used l:Int))) then (l,2) else (updF (fun f=>(f.1,(f.2.1++t,f.2.2))) l s,0)
def synG (s:ByteArray) (l:FileL) (c:Int):FileL × Int :=
 bif (getM l s).isNone then (l,3) else (updF (fun f=>(f.1,(f.2.1,((f.2.1.size:Int),f.2.2.2)))) l s,0)
def renG (a b:ByteArray) (l:FileL) (c:Int):FileL × Int :=
 bif !nameM b then (l,5) else match getM l a with
 | none=>(l,3)
 | some f=>bif seq a b then (l,0) else (insF (delF (delF l a) b) (b,f.2),0)
def remG (s:ByteArray) (l:FileL) (c:Int):FileL × Int :=
 bif (getM l s).isNone then (l,3) else (delF l s,0)
def truG (s:ByteArray) (n:Int) (l:FileL) (c:Int):FileL × Int :=
 match getM l s with
 | none=>(l,3)
 | some f=>bif !decide (0≤n∧n≤(f.2.1.size:Int)) then (l,5) else (updF (fun f=>(f.1,(ByteArray.extract f.2.1 0 n.toNat,((if n<f.2.2.1 then n else f.2.2.1),f.2.2.2)))) l s,0)
def creM (d:Ty.den TDisk) (s:ByteArray):=stepM d (creG s)
def appM (d:Ty.den TDisk) (s t:ByteArray):=stepM d (appG s t)
def synM (d:Ty.den TDisk) (s:ByteArray):=stepM d (synG s)
def renM (d:Ty.den TDisk) (a b:ByteArray):=stepM d (renG a b)
def remM (d:Ty.den TDisk) (s:ByteArray):=stepM d (remG s)
def truM (d:Ty.den TDisk) (s:ByteArray) (n:Int):=stepM d (truG s n)
theorem begM_files (d:Ty.den TDisk):(begM d).1.1=d.1:=by
 unfold begM
 cases diskM d <;> cases d.2.2.2.1 <;> cases d.2.2.1==0 <;> cases decide ((d.2.2.1:Int) > 0) <;> rfl
theorem begM_cap (d:Ty.den TDisk):(begM d).1.2.1=d.2.1:=by
 unfold begM
 cases diskM d <;> cases d.2.2.2.1 <;> cases d.2.2.1==0 <;> cases decide ((d.2.2.1:Int) > 0) <;> rfl
theorem find_at:∀ (l:FileL) (s:ByteArray) (j:Int),(getM l s=none∧findI l s j = -1∧delF l s=l∧∀ h,updF h l s=l) ∨
 (∃ n:Nat,n<l.length∧findI l s j=j+n∧getM l s=some (l.getD n (Ty.dflt TFile))∧l.take n++l.drop (n+1)=delF l s∧(l.getD n (Ty.dflt TFile)).1=s∧(∀ h,l.set n (h (l.getD n (Ty.dflt TFile)))=updF h l s))
 | [],s,j => .inl ⟨rfl,rfl,rfl,fun _=>rfl⟩
 | g::l,s,j=>by
  unfold findI getM delF updF
  cases c:seq g.1 s with
  | true =>
   refine .inr ⟨0,by rw [l_c];omega,?_,rfl,rfl,seq_iff.1 c,fun h=>rfl⟩
   show j=j+((0:Nat):Int)
   omega
  | false =>
   simp only [c_f]
   rcases find_at l s (j+1) with ⟨h1,h2,h3,h4⟩ | ⟨n,h1,h2,h3,h4,h5,h6⟩
   · exact .inl ⟨h1,h2,by rw [h3],fun h=>by rw [h4]⟩
   · refine .inr ⟨n+1,by rw [l_c];omega,by rw [h2];omega,h3,?_,h5,fun h=>?_⟩
     · rw [List.take_succ_cons,List.drop_succ_cons,List.cons_append,h4]
     · show g::l.set n (h (l.getD n (Ty.dflt TFile)))=_
       rw [h6]
def FO (f:Ty.den TFile):Prop:=nameM f.1=true∧LE.le (α:=Int) 0 f.2.2.1∧LE.le (α:=Int) f.2.2.1 f.2.1.size
def nmsF (l:FileL):List ByteArray:=l.map (·.1)
theorem adj_file:∀ (l:FileL) (p:Option (Ty.den TFile)),adj fileOk p l=true↔((∀ f ∈ l,FO f)∧KeysOk (nmsF l)∧(∀ q,p=some q→∀ f ∈ l,sls q.1 f.1=true))
 | [],p=>by
  constructor
  · intro _
    exact ⟨fun f h=>(by cases h),List.Pairwise.nil,fun q _ f h=>(by cases h)⟩
  · intro _;rfl
 | g::l,p=>by
  have ih:=adj_file l (some g)
  unfold adj
  rw [b_a,ih]
  have hf:fileOk p g=true↔(FO g∧(∀ q,p=some q→sls q.1 g.1=true)):=by
   unfold fileOk FO
   rw [b_a,b_a,decide_eq_true_eq]
   cases p with
   | none=>exact ⟨fun h=>⟨⟨h.1,h.2.1⟩,fun q hq=>(by cases hq)⟩,fun h=>⟨h.1.1,h.1.2,rfl⟩⟩
   | some q=>exact ⟨fun h=>⟨⟨h.1,h.2.1⟩,fun q' hq=>(by cases hq;exact h.2.2)⟩,fun h=>⟨h.1.1,h.1.2,h.2 q rfl⟩⟩
  rw [hf]
  constructor
  · rintro ⟨⟨h1,h2⟩,h3,h4,h5⟩
    refine ⟨fun f hf=>?_,?_,fun q hq f hf=>?_⟩
    · rcases List.mem_cons.1 hf with e | e
      · rw [e];exact h1
      · exact h3 f e
    · unfold KeysOk nmsF
      rw [List.map_cons,List.pairwise_cons]
      refine ⟨fun x hx=>?_,h4⟩
      obtain ⟨f,hf,rfl⟩:=List.mem_map.1 hx
      exact h5 g rfl f hf
    · rcases List.mem_cons.1 hf with e | e
      · rw [e];exact h2 q hq
      · exact sls_trans (h2 q hq) (h5 g rfl f e)
  · rintro ⟨h1,h2,h3⟩
    unfold KeysOk nmsF at h2
    rw [List.map_cons,List.pairwise_cons] at h2
    refine ⟨⟨h1 g (m_s ..),fun q hq=>h3 q hq g (m_s ..)⟩,fun f hf=>h1 f (m_m _ hf),h2.2,fun q hq f hf=>?_⟩
    cases hq
    exact h2.1 f.1 (List.mem_map.2 ⟨f,hf,rfl⟩)
structure DR (d:Ty.den TDisk):Prop where
 len:d.1.length≤130
 cap0:LE.le (α:=Int) 0 d.2.1
 cap1:LE.le (α:=Int) d.2.1 100000
 fu0:LE.le (α:=Int) (-1) d.2.2.1
 fu1:LE.le (α:=Int) d.2.2.1 100000
 use:LE.le (α:=Int) (used d.1) d.2.1
 all:∀ f ∈ d.1,FO f
 keys:KeysOk (nmsF d.1)
theorem disk_iff {d:Ty.den TDisk}:diskM d=true↔DR d:=by
 unfold diskM
 rw [b_a,b_a,b_a,b_a,decide_eq_true_eq,decide_eq_true_eq,decide_eq_true_eq,decide_eq_true_eq,adj_file]
 constructor
 · rintro ⟨h1,⟨h2,h3⟩,⟨h4,h5⟩,h6,h7,h8,_⟩
   exact ⟨h1,h2,h3,h4,h5,h6,h7,h8⟩
 · intro h
   exact ⟨h.len,⟨h.cap0,h.cap1⟩,⟨h.fu0,h.fu1⟩,h.use,h.all,h.keys,fun q hq=>(by cases hq)⟩
theorem nameM_size {s:ByteArray} (h:nameM s=true):1≤s.size∧s.size≤12:=by
 unfold nameM at h
 rw [b_a,decide_eq_true_eq] at h
 exact h.2
theorem names_le:∀ l:FileL,(∀ f ∈ l,FO f)→names l≤12*l.length
 | [],_=>Nat.le_refl _
 | f::l,h=>by
  have:=names_le l fun g hg=>h g (m_m _ hg)
  have:=(nameM_size (h f (m_s ..)).1).2
  rw [names_cons,l_c]
  omega
theorem DR.sz {d:Ty.den TDisk} (h:DR d):DSz d:=by
 have h1:=h.len
 have h2:=h.use
 have h3:=h.cap1
 have h4:=names_le d.1 h.all
 exact ⟨by omega,by omega,by omega⟩
theorem mem_ins {l:FileL} {f x:Ty.den TFile}:x ∈ insF l f↔x=f∨x ∈ l:=by
 induction l with
 | nil=>simp [insF]
 | cons g l ih =>
  unfold insF
  cases sls f.1 g.1
  · simp only [c_f,List.mem_cons,ih]
    exact ⟨fun h=>h.elim (fun q => .inr (.inl q)) (fun q=>q.elim .inl (fun q => .inr (.inr q))),fun h=>h.elim (fun q => .inr (.inl q)) (fun q=>q.elim .inl (fun q => .inr (.inr q)))⟩
  · simp only [c_t,List.mem_cons]
theorem del_sub:∀ (l:FileL) (s:ByteArray),(delF l s).Sublist l
 | [],s=>List.Sublist.slnil
 | g::l,s=>by
  unfold delF
  cases seq g.1 s
  · exact (del_sub l s).cons_cons g
  · exact (List.Sublist.refl l).cons g
theorem upd_nms {h:Ty.den TFile→Ty.den TFile} (hh:∀ f,(h f).1=f.1):∀ (l:FileL) (s:ByteArray),nmsF (updF h l s)=nmsF l
 | [],s=>rfl
 | g::l,s=>by
  unfold updF
  cases seq g.1 s
  · show g.1::nmsF (updF h l s)=g.1::nmsF l
    rw [upd_nms hh l s]
  · show (h g).1::nmsF l=g.1::nmsF l
    rw [hh]
theorem keys_upd {h:Ty.den TFile→Ty.den TFile} (hh:∀ f,(h f).1=f.1) {l:FileL} {s:ByteArray} (hk:KeysOk (nmsF l)):KeysOk (nmsF (updF h l s)):=by
 rw [upd_nms hh]
 exact hk
theorem upd_mem {h:Ty.den TFile→Ty.den TFile}:∀ {l:FileL} {s:ByteArray} {x:Ty.den TFile},x ∈ updF h l s→x ∈ l∨∃ f,getM l s=some f∧x=h f
 | [],s,x,hx => .inl hx
 | g::l,s,x,hx=>by
  unfold updF at hx
  unfold getM
  cases c:seq g.1 s with
  | true =>
   rw [c,c_t] at hx
   rcases List.mem_cons.1 hx with e | e
   · exact .inr ⟨g,rfl,e⟩
   · exact .inl (m_m _ e)
  | false =>
   rw [c,c_f] at hx
   rcases List.mem_cons.1 hx with e | e
   · exact .inl (by rw [e];exact m_s ..)
   · rcases upd_mem e with q | ⟨f,q1,q2⟩
     · exact .inl (m_m _ q)
     · exact .inr ⟨f,q1,q2⟩
theorem used_upd {h:Ty.den TFile→Ty.den TFile}:∀ {l:FileL} {s:ByteArray} {f:Ty.den TFile},getM l s=some f→used (updF h l s)+f.2.1.size=used l+(h f).2.1.size
 | [],s,f,hf=>by cases hf
 | g::l,s,f,hf=>by
  unfold getM at hf
  unfold updF
  cases c:seq g.1 s with
  | true =>
   rw [c] at hf
   cases hf
   rw [c_t,used_cons,used_cons]
   omega
  | false =>
   rw [c] at hf
   have:=used_upd (h:=h) hf
   rw [c_f,used_cons,used_cons]
   omega
theorem used_ins:∀ (l:FileL) (f:Ty.den TFile),used (insF l f)=used l+f.2.1.size
 | [],f=>by unfold insF;rw [used_cons,used_nil,Nat.add_comm]
 | g::l,f=>by
  unfold insF
  cases sls f.1 g.1
  · rw [c_f,used_cons,used_cons,used_ins l f];omega
  · rw [c_t,used_cons,used_cons];omega
theorem used_del:∀ {l:FileL} {s:ByteArray} {f:Ty.den TFile},getM l s=some f→used (delF l s)+f.2.1.size=used l
 | [],s,f,hf=>by cases hf
 | g::l,s,f,hf=>by
  unfold getM at hf
  unfold delF
  cases c:seq g.1 s with
  | true=>rw [c] at hf;cases hf;rw [c_t,used_cons];omega
  | false =>
   rw [c] at hf
   have:=used_del hf
   rw [c_f,used_cons,used_cons]
   omega
theorem used_del_le (l:FileL) (s:ByteArray):used (delF l s)≤used l:=by
 cases h:getM l s with
 | some f=>have:=used_del h;omega
 | none =>
  rcases find_at l s 0 with ⟨_,_,h3,_⟩ | ⟨n,_,_,h3,_⟩
  · rw [h3];exact Nat.le_refl _
  · rw [h] at h3;cases h3
theorem len_ins:∀ (l:FileL) (f:Ty.den TFile),(insF l f).length=l.length+1
 | [],f=>rfl
 | g::l,f=>by
  unfold insF
  cases sls f.1 g.1
  · rw [c_f,l_c,len_ins l f,l_c]
  · rw [c_t,l_c,l_c]
theorem len_upd (h:Ty.den TFile→Ty.den TFile):∀ (l:FileL) (s:ByteArray),(updF h l s).length=l.length
 | [],s=>rfl
 | g::l,s=>by
  unfold updF
  cases seq g.1 s
  · rw [c_f,l_c,len_upd h l s,l_c]
  · rw [c_t,l_c,l_c]
theorem get_mem:∀ {l:FileL} {s:ByteArray} {f:Ty.den TFile},getM l s=some f→f ∈ l∧f.1=s
 | [],s,f,h=>by cases h
 | g::l,s,f,h=>by
  unfold getM at h
  cases c:seq g.1 s with
  | true=>rw [c] at h;cases h;exact ⟨m_s ..,seq_iff.1 c⟩
  | false =>
   rw [c] at h
   exact ⟨m_m _ (get_mem h).1,(get_mem h).2⟩
theorem get_none:∀ {l:FileL} {s:ByteArray},getM l s=none↔∀ f ∈ l,f.1≠s
 | [],s=>⟨fun _ f h=>(by cases h),fun _=>rfl⟩
 | g::l,s=>by
  unfold getM
  cases c:seq g.1 s with
  | true =>
   constructor
   · intro h;cases h
   · intro h;exact absurd (seq_iff.1 c) (h g (m_s ..))
  | false =>
   rw [c_f,get_none]
   constructor
   · intro h f hf
     rcases List.mem_cons.1 hf with e | e
     · rw [e];intro q;rw [seqT q] at c;cases c
     · exact h f e
   · intro h f hf;exact h f (m_m _ hf)
theorem keys_ins {f:Ty.den TFile}:∀ {l:FileL},KeysOk (nmsF l)→(∀ g ∈ l,g.1≠f.1)→KeysOk (nmsF (insF l f))
 | [],_,_=>by unfold insF;exact List.pairwise_singleton ..
 | g::l,h,hn=>by
  unfold KeysOk nmsF at h
  rw [List.map_cons,List.pairwise_cons] at h
  unfold insF
  cases c:sls f.1 g.1 with
  | true =>
   rw [c_t]
   unfold KeysOk nmsF
   rw [List.map_cons,List.pairwise_cons]
   refine ⟨fun x hx=>?_,by rw [List.map_cons,List.pairwise_cons];exact h⟩
   rw [List.map_cons] at hx
   rcases List.mem_cons.1 hx with e | e
   · rw [e];exact c
   · exact sls_trans c (h.1 x e)
  | false =>
   rw [c_f]
   have ih:=keys_ins (f:=f) (l:=l) h.2 fun g' hg=>hn g' (m_m _ hg)
   unfold KeysOk nmsF
   rw [List.map_cons,List.pairwise_cons]
   refine ⟨fun x hx=>?_,ih⟩
   obtain ⟨y,hy,rfl⟩:=List.mem_map.1 hx
   rcases mem_ins.1 hy with e | e
   · rw [e]
     have ht:=sls_total g.1 f.1
     rw [c,seqF (hn g (m_s ..))] at ht
     cases q:sls g.1 f.1 with
     | true=>rfl
     | false=>rw [q] at ht;cases ht
   · exact h.1 y.1 (List.mem_map.2 ⟨y,e,rfl⟩)
theorem keys_sub {l m:FileL} (h:m.Sublist l) (hk:KeysOk (nmsF l)):KeysOk (nmsF m):=List.Pairwise.sublist (h.map _) hk
theorem keys_ne {l:FileL} (hk:KeysOk (nmsF l)) {s:ByteArray} {f:Ty.den TFile} (h:getM l s=some f):getM (delF l s) s=none:=by
 induction l with
 | nil=>cases h
 | cons g l ih =>
  unfold KeysOk nmsF at hk
  rw [List.map_cons,List.pairwise_cons] at hk
  unfold getM at h
  unfold delF
  cases c:seq g.1 s with
  | true =>
   rw [c_t,get_none]
   intro x hx e
   have:=hk.1 x.1 (List.mem_map.2 ⟨x,hx,rfl⟩)
   rw [e,seq_iff.1 c,sls_irrefl] at this
   cases this
  | false =>
   rw [c] at h
   rw [c_f]
   unfold getM
   rw [c,c_f]
   exact ih hk.2 h
theorem del_none {l:FileL} (hk:KeysOk (nmsF l)) (s:ByteArray):getM (delF l s) s=none:=by
 cases h:getM l s with
 | some f=>exact keys_ne hk h
 | none =>
  rcases find_at l s 0 with ⟨h1,_,h3,_⟩ | ⟨n,_,_,h3,_⟩
  · rw [h3];exact h1
  · rw [h] at h3;cases h3
def GR (g:FileL→Int→FileL × Int):Prop:=∀ l c,l.length≤130→(0:Int)≤c→c≤100000→(used l:Int)≤c→(∀ f ∈ l,FO f)→KeysOk (nmsF l) →
 (g l c).1.length≤130∧(used (g l c).1:Int)≤c∧(∀ f ∈ (g l c).1,FO f)∧KeysOk (nmsF (g l c).1)
theorem begM_DR {d:Ty.den TDisk} (h:DR d):DR (begM d).1:=by
 have hd:=disk_iff.2 h
 have g0:=h.fu0
 have g1:=h.fu1
 unfold begM
 rw [hd]
 cases c1:d.2.2.2.1 with
 | true=>exact ⟨h.len,h.cap0,h.cap1,h.fu0,h.fu1,h.use,h.all,h.keys⟩
 | false =>
  cases c2:d.2.2.1==0 with
  | true=>exact ⟨h.len,h.cap0,h.cap1,h.fu0,h.fu1,h.use,h.all,h.keys⟩
  | false =>
   by_cases c3:(d.2.2.1:Int) > 0
   · have e:∀ x:Int,x > 0→x≤100000 → -1≤w64 (x-1)∧w64 (x-1)≤100000:=fun x q1 q2=>by
      rw [w64_eq (by omega) (by omega)]
      omega
     have e:=e d.2.2.1 c3 g1
     rw [decT c3]
     exact ⟨h.len,h.cap0,h.cap1,e.1,e.2,h.use,h.all,h.keys⟩
   · rw [decF c3]
     exact h
theorem step_DR {g:FileL→Int→FileL × Int} (hg:GR g) {d:Ty.den TDisk} (h:DR d):DR (stepM d g).1:=by
 have hb:=begM_DR h
 unfold stepM
 cases c:(begM d).2 != 0 with
 | true=>exact hb
 | false =>
  have hk:(begM d).1.2.1=d.2.1:=begM_cap d
  obtain ⟨g1,g2,g3,g4⟩:=hg d.1 d.2.1 h.len h.cap0 h.cap1 h.use h.all h.keys
  exact ⟨g1,hb.cap0,hb.cap1,hb.fu0,hb.fu1,by show (used (g d.1 d.2.1).1:Int)≤(begM d).1.2.1;rw [hk];exact g2,g3,g4⟩
theorem GR_cre (s:ByteArray):GR (creG s):=by
 intro l c h1 h2 h3 h4 h5 h6
 unfold creG
 cases hn:nameM s with
 | false=>exact ⟨h1,h4,h5,h6⟩
 | true =>
  cases hs:(getM l s).isSome with
  | true=>exact ⟨h1,h4,h5,h6⟩
  | false =>
   by_cases hl:(l.length:Int)≥130
   · rw [decT hl];exact ⟨h1,h4,h5,h6⟩
   · rw [decF hl]
     have hnone:getM l s=none:=by
      cases q:getM l s with
      | none=>rfl
      | some f=>rw [q] at hs;cases hs
     refine ⟨by show (insF l _).length≤130;rw [len_ins];omega,by show (used (insF l _):Int)≤c;rw [used_ins];exact h4,fun f hf=>?_,keys_ins h6 (get_none.1 hnone)⟩
     rcases mem_ins.1 hf with e | e
     · rw [e];exact ⟨hn,Int.le_refl _,by show (0:Int)≤_;omega⟩
     · exact h5 f e
theorem GR_app (s t:ByteArray):GR (appG s t):=by
 intro l c h1 h2 h3 h4 h5 h6
 unfold appG
 cases hs:getM l s with
 | none=>exact ⟨h1,h4,h5,h6⟩
 | some f =>
  simp only [Option.isNone_some,c_f]
  rw [w64_eq (by omega) (by omega)]
  by_cases ht:(t.size:Int) > c-(used l:Int)
  · rw [decT ht];exact ⟨h1,h4,h5,h6⟩
  · rw [decF ht]
    have hu:=used_upd (h:=fun f=>(f.1,(f.2.1++t,f.2.2))) hs
    have hz:(f.2.1++t).size=f.2.1.size+t.size:=ByteArray.size_append ..
    simp only [hz] at hu
    refine ⟨by show (updF _ l s).length≤130;rw [len_upd];exact h1,by show (used (updF _ l s):Int)≤c;omega,fun x hx=>?_,keys_upd (by intro f;rfl) h6⟩
    rcases upd_mem hx with q | ⟨y,q1,q2⟩
    · exact h5 x q
    · obtain ⟨a,b,c'⟩:=h5 y (get_mem q1).1
      rw [q2]
      refine ⟨a,b,?_⟩
      show LE.le (α:=Int) y.2.2.1 ((y.2.1++t).size:Int)
      have:(y.2.1++t).size=y.2.1.size+t.size:=ByteArray.size_append ..
      omega
theorem GR_syn (s:ByteArray):GR (synG s):=by
 intro l c h1 h2 h3 h4 h5 h6
 unfold synG
 cases hs:getM l s with
 | none=>exact ⟨h1,h4,h5,h6⟩
 | some f =>
  simp only [Option.isNone_some,c_f]
  have hu:=used_upd (h:=fun f=>(f.1,(f.2.1,((f.2.1.size:Int),f.2.2.2)))) hs
  refine ⟨by show (updF _ l s).length≤130;rw [len_upd];exact h1,by show (used (updF _ l s):Int)≤c;simp only [] at hu;omega,fun x hx=>?_,keys_upd (by intro f;rfl) h6⟩
  rcases upd_mem hx with q | ⟨y,q1,q2⟩
  · exact h5 x q
  · obtain ⟨a,b,c'⟩:=h5 y (get_mem q1).1
    rw [q2]
    exact ⟨a,by show (0:Int)≤(y.2.1.size:Int);omega,Int.le_refl _⟩
theorem GR_rem (s:ByteArray):GR (remG s):=by
 intro l c h1 h2 h3 h4 h5 h6
 unfold remG
 cases hs:getM l s with
 | none=>exact ⟨h1,h4,h5,h6⟩
 | some f =>
  have hd:=del_sub l s
  have hu:=used_del_le l s
  exact ⟨Nat.le_trans hd.length_le h1,by show (used (delF l s):Int)≤c;omega,fun x hx=>h5 x (hd.subset hx),keys_sub hd h6⟩
theorem ext0_size (s:ByteArray) {n:Nat} (h:n≤s.size):(ByteArray.extract s 0 n).size=n:=by
 rw [ByteArray.size_extract]
 omega
theorem GR_tru (s:ByteArray) (n:Int):GR (truG s n):=by
 intro l c h1 h2 h3 h4 h5 h6
 unfold truG
 cases hs:getM l s with
 | none=>exact ⟨h1,h4,h5,h6⟩
 | some f =>
  simp only []
  by_cases hn:0≤n∧n≤(f.2.1.size:Int)
  · rw [decT hn]
    have hu:=used_upd (h:=fun f=>(f.1,(ByteArray.extract f.2.1 0 n.toNat,((if n<f.2.2.1 then n else f.2.2.1),f.2.2.2)))) hs
    have hz:=ext0_size f.2.1 (n:=n.toNat) (by omega)
    simp only [hz] at hu
    refine ⟨by show (updF _ l s).length≤130;rw [len_upd];exact h1,by show (used (updF _ l s):Int)≤c;omega,fun x hx=>?_,keys_upd (by intro f;rfl) h6⟩
    rcases upd_mem hx with q | ⟨y,q1,q2⟩
    · exact h5 x q
    · rw [hs] at q1
      cases q1
      obtain ⟨a,b,c'⟩:=h5 f (get_mem hs).1
      rw [q2]
      refine ⟨a,?_,?_⟩
      · show (0:Int)≤if n<f.2.2.1 then n else f.2.2.1
        split <;> omega
      · show (if n<f.2.2.1 then n else f.2.2.1)≤((ByteArray.extract f.2.1 0 n.toNat).size:Int)
        rw [hz]
        split <;> omega
  · rw [decF hn];exact ⟨h1,h4,h5,h6⟩
theorem GR_ren (a b:ByteArray):GR (renG a b):=by
 intro l c h1 h2 h3 h4 h5 h6
 unfold renG
 cases hn:nameM b with
 | false=>exact ⟨h1,h4,h5,h6⟩
 | true =>
  simp only [n_t,c_f]
  cases hs:getM l a with
  | none=>exact ⟨h1,h4,h5,h6⟩
  | some f =>
   simp only []
   cases seq a b with
   | true=>exact ⟨h1,h4,h5,h6⟩
   | false =>
    simp only [c_f]
    have hd:=del_sub l a
    have hd2:=del_sub (delF l a) b
    have hu:=used_del hs
    have hu2:=used_del_le (delF l a) b
    have hk2:=keys_sub (hd2.trans hd) h6
    have hl:=find_at l a 0
    have hlen:(delF l a).length+1=l.length:=by
     rcases find_at l a 0 with ⟨q,_⟩ | ⟨n,q1,_,_,q4,_⟩
     · rw [hs] at q;cases q
     · rw [← q4,l_a,List.length_take,List.length_drop];omega
    have hlen2:=hd2.length_le
    refine ⟨by rw [len_ins];omega,by rw [used_ins];show ((used (delF (delF l a) b)+f.2.1.size:Nat):Int)≤c;omega,fun x hx=>?_,keys_ins hk2 (get_none.1 (del_none (keys_sub hd h6) b))⟩
    rcases mem_ins.1 hx with e | e
    · rw [e]
      exact ⟨hn,(h5 f (get_mem hs).1).2.1,(h5 f (get_mem hs).1).2.2⟩
    · exact h5 x ((hd2.trans hd).subset e)
theorem cre_DR {d:Ty.den TDisk} (h:DR d) (s:ByteArray):DR (creM d s).1:=step_DR (GR_cre s) h
theorem app_DR {d:Ty.den TDisk} (h:DR d) (s t:ByteArray):DR (appM d s t).1:=step_DR (GR_app s t) h
theorem syn_DR {d:Ty.den TDisk} (h:DR d) (s:ByteArray):DR (synM d s).1:=step_DR (GR_syn s) h
theorem ren_DR {d:Ty.den TDisk} (h:DR d) (a b:ByteArray):DR (renM d a b).1:=step_DR (GR_ren a b) h
theorem rem_DR {d:Ty.den TDisk} (h:DR d) (s:ByteArray):DR (remM d s).1:=step_DR (GR_rem s) h
theorem tru_DR {d:Ty.den TDisk} (h:DR d) (s:ByteArray) (n:Int):DR (truM d s n).1:=step_DR (GR_tru s n) h
end Go.Proofs.YtmakghhmpgfboaaGreat.G
namespace Go.Proofs.YtmakghhmpgfboaaGreat.G
open Go.V
theorem specCopyD_eq (k:Nat) {d:Ty.den TDisk} (hd:DSz d):spec_l3Copy.f k d=some (d,()):=by
 have hl:=hd.l
 unfold spec_l3Copy.f spec_l3Copy.t
 rw [rm_ok (by omega) (by decide),List.nil_append]
theorem specBegin_eq {k:Nat} (hk:2 ^ 50≤k) {d:Ty.den TDisk} (hd:DSz d):spec_l3Begin.f k d=some ((begM d).1,((begM d).2,())):=by
 have hu:=hd.u
 have hn:=hd.n
 unfold spec_l3Begin.f spec_l3Begin.t begM
 rw [specCopyD_eq k hd,o_s,specDisk_eq hk (by omega) (by omega),o_s]
 cases diskM d <;> cases d.2.2.2.1 <;> cases d.2.2.1==0 <;> cases decide ((d.2.2.1:Int) > 0) <;> rfl
theorem specInsert_eq {k:Nat} (hk:2 ^ 50≤k) {l:FileL} (f:Ty.den TFile) (hl:l.length≤1073741824):spec_l3Insert.f k l f=some (insF l f,()):=by
 unfold spec_l3Insert.f spec_l3Insert.t
 refine (forL0 (L:=fun n i (s:Bool × FileL)=>spec_l3Insert.l0 k n l s.1 i f.1 f.2.1 f.2.2.1 s.2) (R:=fun r s=>some (s.2++(bif s.1 then r else insF r f),())) (Ty.dflt TFile) l (fun i s=>(s.2.length:Int)≤i+1∧(s.1=false→(s.2.length:Int)≤i)) (fun n s hs=>?_) (fun n i s x rest h0 h1 hx hr hs ih=>?_) (n:=k) (s:=(false,[])) (by omega) ⟨by simp,by simp⟩).trans ?_
 · obtain ⟨b,o⟩:=s
   simp only [] at hs
   simp only [spec_l3Insert.l0,spec_l3Insert.b0]
   rw [decF (by omega),c_f]
   cases b with
   | true=>simp only [n_t,c_f,c_t,List.append_nil]
   | false=>simp only [n_f,c_f,c_t];rw [rm_ok (by omega) (by decide)];rfl
 · obtain ⟨b,o⟩:=s
   simp only [] at hs ih
   simp only [spec_l3Insert.l0,spec_l3Insert.b0]
   rw [decT h1,c_t]
   have hlo:(o++[(f.1,(f.2.1,(f.2.2.1,())))]).length=o.length+1:=by simp
   obtain ⟨hs1,hs2⟩:=hs
   simp (disch:=first | omega | decide) only [inb_eq,hx,rm_ok,w64_eq,sls_total,Bool.not_not]
   cases b with
   | true =>
    have i1:=ih (true,o++[x]) ⟨by simp only [len_snoc];omega,fun q=>(by cases q)⟩
    simp only [] at i1
    simp only [n_t,c_f,c_t]
    rw [i1]
    simp only [c_t,a_a,List.singleton_append]
   | false =>
    have hs2:=hs2 rfl
    have i2:=ih (false,o++[x]) ⟨by simp only [len_snoc];omega,fun _=>by simp only [len_snoc];omega⟩
    simp only [] at i2
    simp only [n_f,c_t,c_f]
    unfold insF
    cases c:sls f.1 x.1 with
    | true =>
     simp only [c_t]
     have i3:=ih (true,(o++[(f.1,(f.2.1,(f.2.2.1,())))])++[x]) ⟨by simp only [len_snoc];omega,fun q=>(by cases q)⟩
     simp only [] at i3
     rw [i3]
     simp only [c_t,a_a,List.singleton_append]
     rfl
    | false =>
     simp only [c_f]
     rw [i2]
     simp only [c_f,a_a,List.singleton_append]
 · simp only [c_f,List.nil_append]
theorem specWithout_eq (k:Nat) {l:FileL} {n:Nat} (hn:n<l.length) (hl:l.length≤1073741824):spec_l3Without.f k l (n:Int)=some (l.take n++l.drop (n+1),()):=by
 unfold spec_l3Without.f spec_l3Without.t
 have e:w64 ((n:Int)+1)=((n+1:Nat):Int):=by rw [w64_eq (by omega) (by omega)];omega
 rw [e,n_n,n_n,inc_eq (by omega) (by omega),inc_eq (by omega) (by omega),rm_ok (by rw [List.length_take];omega) (by decide),rm_ok (by rw [l_a,List.length_take,List.length_drop];simp only [List.length_nil];omega) (by decide),List.nil_append]
theorem beg_split (d:Ty.den TDisk):∃ b2,(begM d).1=(d.1,b2):=⟨(begM d).1.2,Prod.ext (begM_files d) rfl⟩
theorem specCre_eq {k:Nat} (hk:2 ^ 50≤k) {d:Ty.den TDisk} (hd:DSz d) {s:ByteArray} (hs:s.size≤1099511627776):spec_Create.f k d s=some ((creM d s).1,((creM d s).2,())):=by
 have hl:=hd.l
 unfold spec_Create.f spec_Create.t creM stepM
 rw [specBegin_eq hk hd,o_s]
 obtain ⟨b2,hb⟩:=beg_split d
 simp only [hb]
 cases c:(begM d).2 != 0 with
 | true=>rw [c_t,c_t,hb]
 | false =>
  rw [c_f,c_f,specName_eq hk hs,o_s]
  unfold creG
  cases nameM s with
  | false=>rfl
  | true =>
   simp only [n_t,c_f]
   rw [specFind_eq hk (by omega),o_s]
   rcases find_at d.1 s 0 with ⟨h1,h2,_⟩ | ⟨n,h1,h2,h3,_⟩
   · rw [h1,h2]
     simp only [Option.isSome_none,c_f]
     rw [decF (by decide),c_f]
     by_cases cl:(d.1.length:Int)≥130
     · rw [decT cl];rfl
     · rw [decF cl,c_f,c_f,specInsert_eq hk _ (by omega),o_s]
   · rw [h2,h3]
     simp only [Option.isSome_some,c_t]
     rw [decT (by omega),c_t]
theorem specApp_eq {k:Nat} (hk:2 ^ 50≤k) {d:Ty.den TDisk} (hd:DSz d) (s:ByteArray) {t:ByteArray} (ht:t.size≤1099511627776):spec_Append.f k d s t=some ((appM d s t).1,((appM d s t).2,())):=by
 have hl:=hd.l
 have hu:=hd.u
 unfold spec_Append.f spec_Append.t appM stepM
 rw [specBegin_eq hk hd,o_s]
 obtain ⟨b2,hb⟩:=beg_split d
 simp only [hb]
 cases c:(begM d).2 != 0 with
 | true=>rw [c_t,c_t,hb]
 | false =>
  rw [c_f,c_f,specFind_eq hk (by omega),o_s]
  unfold appG
  rcases find_at d.1 s 0 with ⟨h1,h2,_⟩ | ⟨n,h1,h2,h3,_,_,h6⟩
  · rw [h1,h2]
    simp only [Option.isNone_none,c_t]
    rw [decT (by decide),c_t]
  · rw [Int.zero_add] at h2
    rw [h2,h3]
    simp only [Option.isNone_some,c_f]
    rw [decF (by omega),c_f,specUsed_eq hk (by omega) (by omega),o_s]
    simp only []
    cases decide ((t.size:Int) > w64 (d.2.1-(used d.1:Int))) with
    | true=>rfl
    | false =>
     have hm:=used_mem (get_mem h3).1
     rw [c_f,c_f,n_n,inb_eq (by omega) (by omega),inb_eq (by omega) (by omega),cat_ok (Nat.le_trans (Nat.add_le_add (Nat.le_trans hm hu) ht) (by decide)),← h6]
theorem specSyn_eq {k:Nat} (hk:2 ^ 50≤k) {d:Ty.den TDisk} (hd:DSz d) (s:ByteArray):spec_Sync.f k d s=some ((synM d s).1,((synM d s).2,())):=by
 have hl:=hd.l
 unfold spec_Sync.f spec_Sync.t synM stepM
 rw [specBegin_eq hk hd,o_s]
 obtain ⟨b2,hb⟩:=beg_split d
 simp only [hb]
 cases c:(begM d).2 != 0 with
 | true=>rw [c_t,c_t,hb]
 | false =>
  rw [c_f,c_f,specFind_eq hk (by omega),o_s]
  unfold synG
  rcases find_at d.1 s 0 with ⟨h1,h2,_⟩ | ⟨n,h1,h2,h3,_,_,h6⟩
  · rw [h1,h2]
    simp only [Option.isNone_none,c_t]
    rw [decT (by decide),c_t]
  · rw [Int.zero_add] at h2
    rw [h2,h3]
    simp only [Option.isNone_some,c_f]
    rw [decF (by omega),c_f,n_n,inb_eq (by omega) (by omega),inb_eq (by omega) (by omega),← h6]
theorem specRen_eq {k:Nat} (hk:2 ^ 50≤k) {d:Ty.den TDisk} (hd:DSz d) (a:ByteArray) {b:ByteArray} (hs:b.size≤1099511627776):spec_Rename.f k d a b=some ((renM d a b).1,((renM d a b).2,())):=by
 have hl:=hd.l
 unfold spec_Rename.f spec_Rename.t renM stepM
 rw [specBegin_eq hk hd,o_s]
 obtain ⟨b2,hb⟩:=beg_split d
 simp only [hb]
 cases c:(begM d).2 != 0 with
 | true=>rw [c_t,c_t,hb]
 | false =>
  rw [c_f,c_f,specName_eq hk hs,o_s]
  unfold renG
  cases nameM b with
  | false=>rfl
  | true =>
   simp only [n_t,c_f]
   rw [specFind_eq hk (by omega),o_s]
   rcases find_at d.1 a 0 with ⟨h1,h2,_⟩ | ⟨n,h1,h2,h3,h4,_,_⟩
   · rw [h1,h2]
     simp only []
     rw [decT (by decide),c_t]
   · rw [Int.zero_add] at h2
     rw [h2,h3]
     simp only []
     rw [decF (by omega),c_f]
     cases seq a b with
     | true=>rfl
     | false =>
      have hd1:=(del_sub d.1 a).length_le
      rw [c_f,c_f,n_n,inb_eq (by omega) (by omega),specWithout_eq k h1 (by omega),o_s,h4]
      simp only []
      rw [specFind_eq hk (d:=(delF d.1 a,b2)) (by show (delF d.1 a).length≤_;omega),o_s]
      simp only []
      rcases find_at (delF d.1 a) b 0 with ⟨g1,g2,g3,_⟩ | ⟨m,g1,g2,g3,g4,_⟩
      · rw [g2,g3,decF (by decide),c_f,specInsert_eq hk _ (by omega),o_s]
      · rw [Int.zero_add] at g2
        have hd2:=(del_sub (delF d.1 a) b).length_le
        rw [g2,decT (by omega),c_t,specWithout_eq k g1 (by omega),o_s,g4]
        simp only []
        rw [specInsert_eq hk _ (by omega),o_s]
end Go.Proofs.YtmakghhmpgfboaaGreat.G
namespace Go.Proofs.YtmakghhmpgfboaaGreat.G
open Go.V
theorem specRem_eq {k:Nat} (hk:2 ^ 50≤k) {d:Ty.den TDisk} (hd:DSz d) (s:ByteArray):spec_Remove.f k d s=some ((remM d s).1,((remM d s).2,())):=by
 have hl:=hd.l
 unfold spec_Remove.f spec_Remove.t remM stepM
 rw [specBegin_eq hk hd,o_s]
 obtain ⟨b2,hb⟩:=beg_split d
 simp only [hb]
 cases c:(begM d).2 != 0 with
 | true=>rw [c_t,c_t,hb]
 | false =>
  rw [c_f,c_f,specFind_eq hk (by omega),o_s]
  unfold remG
  rcases find_at d.1 s 0 with ⟨h1,h2,_⟩ | ⟨n,h1,h2,h3,h4,_⟩
  · rw [h1,h2]
    simp only [Option.isNone_none,c_t]
    rw [decT (by decide),c_t]
  · rw [Int.zero_add] at h2
    rw [h2,h3]
    simp only [Option.isNone_some,c_f]
    rw [decF (by omega),c_f,specWithout_eq k h1 (by omega),o_s,h4]
theorem getD_set {l:FileL} {n:Nat} (h:n<l.length) (x z:Ty.den TFile):(l.set n x).getD n z=x:=by
 simp [List.getD,h]
theorem set_set {l:FileL} {n:Nat} (x y:Ty.den TFile):(l.set n x).set n y=l.set n y:=by simp
theorem specTru_eq {k:Nat} (hk:2 ^ 50≤k) {d:Ty.den TDisk} (hd:DSz d) (s:ByteArray) (m:Int):spec_Truncate.f k d s m=some ((truM d s m).1,((truM d s m).2,())):=by
 have hl:=hd.l
 unfold spec_Truncate.f spec_Truncate.t truM stepM
 rw [specBegin_eq hk hd,o_s]
 obtain ⟨b2,hb⟩:=beg_split d
 simp only [hb]
 cases c:(begM d).2 != 0 with
 | true=>rw [c_t,c_t,hb]
 | false =>
  rw [c_f,c_f,specFind_eq hk (by omega),o_s]
  unfold truG
  rcases find_at d.1 s 0 with ⟨h1,h2,_⟩ | ⟨n,h1,h2,h3,_,_,h6⟩
  · rw [h1,h2]
    simp only []
    rw [decT (by decide),c_t]
  · rw [Int.zero_add] at h2
    rw [h2,h3]
    simp only []
    rw [decF (by omega),c_f,n_n,inb_eq (by omega) (by omega),l1InD_eq,o_s]
    by_cases hm:0≤m∧m≤((d.1.getD n (Ty.dflt TFile)).2.1.size:Int)
    · rw [decT hm]
      simp only [n_t,c_f]
      rw [inb_eq (by omega) (by omega),inc_eq hm.1 hm.2,inb_eq (by omega) (by omega),inb_eq (by omega) (by omega),inb_eq (by omega) (by rw [List.length_set];omega),getD_set h1,set_set,← h6]
    · rw [decF hm]
      rfl
end Go.Proofs.YtmakghhmpgfboaaGreat.G
namespace Go.Proofs.YtmakghhmpgfboaaGreat.G
open Go.V
def idOk (lim:Int) (p:Option Int) (x:Int):Bool:=decide ((1:Int)≤x∧x≤lim)&&(match p with | none=>true | some y=>decide (y<x))
def liveM (v:Ty.den TLive):Bool:=decide ((1:Int)≤v.1∧v.1≤100000)&&(decide ((1:Int)≤(v.2.1.length:Int)∧(v.2.1.length:Int)≤60)&&adj (idOk (w64 (v.1-1))) none v.2.1)
theorem specLive_eq {k:Nat} (hk:2 ^ 50≤k) (v:Ty.den TLive):spec_LiveOk.f k v=some (liveM v,()):=by
 unfold spec_LiveOk.f spec_LiveOk.t liveM
 rw [l1InD_eq,o_s]
 cases decide ((1:Int)≤v.1∧v.1≤100000) with
 | false=>rfl
 | true =>
  rw [n_t,c_f,l1InD_eq,o_s,Bool.true_and]
  by_cases c:(1:Int)≤(v.2.1.length:Int)∧(v.2.1.length:Int)≤60
  case neg=>rw [decF c];rfl
  rw [decT c,n_t,c_f,Bool.true_and]
  refine (forAdj (L:=fun n i=>spec_LiveOk.l0 k n i v.1 v.2.1) (Ty.dflt (.int .i64)) v.2.1 (idOk (w64 (v.1-1))) (some (true,())) (some (false,())) (fun n=>?_) (fun n x h hx=>?_) (fun n i x y h0 h1 hx hy=>?_) (n:=k) (by omega)).trans (by cases adj (idOk (w64 (v.1-1))) none v.2.1 <;> rfl)
  · simp (disch:=omega) only [spec_LiveOk.l0,spec_LiveOk.b0,decF,c_f]
  · simp (disch:=omega) only [spec_LiveOk.l0,spec_LiveOk.b0,decT (show (0:Int)<(v.2.1.length:Int) by omega),c_t,inb_eq,hx,l1InD_eq k,o_s,decF (show ¬ (0:Int) > 0 by omega),c_f,w64_eq (n:=(0:Int)+1),idOk]
    cases decide ((1:Int)≤x∧x≤w64 (v.1-1)) <;> rfl
  · simp (disch:=omega) only [spec_LiveOk.l0,spec_LiveOk.b0,decT h1,c_t,inb_eq,hx,l1InD_eq k,o_s,decT (show i > 0 by omega),c_f,w64_eq (n:=i+1),w64_eq (n:=i-1),hy,idOk]
    cases decide ((1:Int)≤x∧x≤w64 (v.1-1)) with
    | false=>rfl
    | true =>
     by_cases q:y<x
     · rw [decT q,decF (show ¬ x≤y from Int.not_le.2 q)];rfl
     · rw [decF q,decT (show x≤y from Int.not_lt.1 q)];rfl
theorem implLive_eq {k:Nat} (hk:2 ^ 50≤k) {v:Ty.den TLive} (hl:v.2.1.length≤1099511627776):impl_LiveOk.f k v=some (liveM v,()):=by
 unfold impl_LiveOk.f impl_LiveOk.t liveM
 refine (forAdj (L:=fun n i=>impl_LiveOk.l0 k n v.2.1 v.2.1.length i v.1 v.2.1) (Ty.dflt (.int .i64)) v.2.1 (idOk (w64 (v.1-1))) (some (decide ((1:Int)≤v.1∧v.1≤100000)&&decide ((1:Int)≤(v.2.1.length:Int)∧(v.2.1.length:Int)≤60),())) (some (false,())) (fun n=>?_) (fun n x h hx=>?_) (fun n i x y h0 h1 hx hy=>?_) (n:=k) (by omega)).trans
  (by cases adj (idOk (w64 (v.1-1))) none v.2.1 <;> cases decide ((1:Int)≤v.1∧v.1≤100000) <;> cases decide ((1:Int)≤(v.2.1.length:Int)∧(v.2.1.length:Int)≤60) <;> rfl)
 · simp (disch:=omega) only [impl_LiveOk.l0,impl_LiveOk.b0,decF,c_f,inD_eq k,o_s]
   cases decide ((1:Int)≤v.1∧v.1≤100000) <;> rfl
 · simp (disch:=omega) only [impl_LiveOk.l0,impl_LiveOk.b0,decT (show (0:Int)<(v.2.1.length:Int) by omega),c_t,inb_eq,hx,inD_eq k,o_s,decF (show ¬ (0:Int) > 0 by omega),c_f,w64_eq (n:=(0:Int)+1),idOk]
   cases decide ((1:Int)≤x∧x≤w64 (v.1-1)) <;> rfl
 · simp (disch:=omega) only [impl_LiveOk.l0,impl_LiveOk.b0,decT h1,c_t,inb_eq,hx,inD_eq k,o_s,decT (show i > 0 by omega),c_f,w64_eq (n:=i+1),w64_eq (n:=i-1),hy,idOk]
   cases decide ((1:Int)≤x∧x≤w64 (v.1-1)) with
   | false=>rfl
   | true =>
    by_cases q:y<x
    · rw [decT q,decF (show ¬ y≥x from Int.not_le.2 q)];rfl
    · rw [decF q,decT (show y≥x from Int.not_lt.1 q)];rfl
end Go.Proofs.YtmakghhmpgfboaaGreat.G
namespace Go.V
theorem bytesOf_size (l:List Int):(bytesOf l).size=l.length:=by simp [bytesOf,ByteArray.size]
theorem xor64 {n m:Nat} (hn:n<4294967296) (hm:m<4294967296):w64 (((BitVec.ofInt (IntKind.bits .i64) (n:Int) ^^^ BitVec.ofInt (IntKind.bits .i64) (m:Int)).toNat:Int))=((n ^^^ m:Nat):Int):=by
 have h:n ^^^ m<2 ^ 32:=Nat.xor_lt_two_pow (by omega) (by omega)
 show w64 (((BitVec.ofInt 64 (n:Int) ^^^ BitVec.ofInt 64 (m:Int)).toNat:Int))=_
 rw [BitVec.ofInt_natCast,BitVec.ofInt_natCast,BitVec.toNat_xor,BitVec.toNat_ofNat,BitVec.toNat_ofNat,Nat.mod_eq_of_lt (by omega),Nat.mod_eq_of_lt (by omega)]
 exact w64_eq (by omega) (by omega)
theorem xor32 {n m:Nat} (hn:n<4294967296) (hm:m<4294967296):IntKind.wrap .u32 (((BitVec.ofInt (IntKind.bits .u32) (n:Int) ^^^ BitVec.ofInt (IntKind.bits .u32) (m:Int)).toNat:Int))=((n ^^^ m:Nat):Int):=by
 have h:n ^^^ m<2 ^ 32:=Nat.xor_lt_two_pow (by omega) (by omega)
 show IntKind.wrap .u32 (((BitVec.ofInt 32 (n:Int) ^^^ BitVec.ofInt 32 (m:Int)).toNat:Int))=_
 rw [BitVec.ofInt_natCast,BitVec.ofInt_natCast,BitVec.toNat_xor,BitVec.toNat_ofNat,BitVec.toNat_ofNat,Nat.mod_eq_of_lt (by omega),Nat.mod_eq_of_lt (by omega)]
 exact wu32_ok (by omega) (by omega)
theorem or64 {n b:Nat} (hn:n<4294967296) (hb:b<256):w64 (((BitVec.ofInt (IntKind.bits .i64) ((n*256:Nat):Int) ||| BitVec.ofInt (IntKind.bits .i64) (b:Int)).toNat:Int))=((n*256+b:Nat):Int):=by
 have h:n*256 ||| b=n*256+b:=by
  have:=Nat.shiftLeft_add_eq_or_of_lt (i:=8) (b:=b) (by omega) n
  rw [Nat.shiftLeft_eq,show (2:Nat) ^ 8=256 by decide] at this
  omega
 show w64 (((BitVec.ofInt 64 ((n*256:Nat):Int) ||| BitVec.ofInt 64 (b:Int)).toNat:Int))=_
 rw [BitVec.ofInt_natCast,BitVec.ofInt_natCast,BitVec.toNat_or,BitVec.toNat_ofNat,BitVec.toNat_ofNat,Nat.mod_eq_of_lt (by omega),Nat.mod_eq_of_lt (by omega),h]
 exact w64_eq (by omega) (by omega)
theorem and32 {n:Nat} (hn:n<4294967296):IntKind.wrap .u32 (((BitVec.ofInt (IntKind.bits .u32) (n:Int) &&& BitVec.ofInt (IntKind.bits .u32) 1).toNat:Int))=((n % 2:Nat):Int):=by
 show IntKind.wrap .u32 (((BitVec.ofInt 32 (n:Int) &&& BitVec.ofInt 32 ((1:Nat):Int)).toNat:Int))=_
 rw [BitVec.ofInt_natCast,BitVec.ofInt_natCast,BitVec.toNat_and,BitVec.toNat_ofNat,BitVec.toNat_ofNat,Nat.mod_eq_of_lt (by omega),Nat.mod_eq_of_lt (show 1<2 ^ 32 by omega),Nat.and_one_is_mod]
 exact wu32_ok (by omega) (by omega)
theorem not32 {n:Nat} (hn:n<4294967296):bitNot .u32 (n:Int)=4294967295-(n:Int):=by
 unfold bitNot
 show IntKind.wrap .u32 (((BitVec.allOnes 32 ^^^ BitVec.ofInt 32 (n:Int)).toNat:Int))=_
 rw [BitVec.ofInt_natCast,BitVec.allOnes_xor,BitVec.toNat_not,BitVec.toNat_ofNat,Nat.mod_eq_of_lt (by omega)]
 rw [wu32_ok (by omega) (by omega)]
 omega
theorem app_nil (s:ByteArray):(⟨#[]⟩:ByteArray)++s=s:=by
 apply ByteArray.ext
 simp [ByteArray.data_append]
theorem nil_app (s:ByteArray):s++(⟨#[]⟩:ByteArray)=s:=by
 apply ByteArray.ext
 simp [ByteArray.data_append]
theorem app_assoc (a b c:ByteArray):a++b++c=a++(b++c):=by
 apply ByteArray.ext
 simp [ByteArray.data_append]
theorem nb_app (a b:ByteArray):nb (a++b)=nb a++nb b:=by
 unfold nb
 rw [ByteArray.data_append,Array.toList_append,List.map_append]
theorem nb_ext (s:ByteArray) (i j:Nat):nb (ByteArray.extract s i j)=((nb s).take j).drop i:=by
 unfold nb
 simp [ByteArray.data_extract,List.map_take,List.map_drop]
 rw [List.drop_take]
theorem ext_tail (s:ByteArray) (n:Nat):nb (ByteArray.extract s n s.size)=(nb s).drop n:=by
 rw [nb_ext,List.take_of_length_le (by rw [nb_len];omega)]
theorem app_tail (a t:ByteArray):ByteArray.extract (a++t) a.size (a++t).size=t:=nb_inj (by rw [ext_tail,nb_app,List.drop_left' (nb_len a)])
theorem app_head (a t:ByteArray):ByteArray.extract (a++t) 0 a.size=a:=nb_inj (by rw [nb_ext,nb_app,List.take_left' (nb_len a),List.drop_zero])
theorem split_at (s:ByteArray) {n:Nat} (h:n≤s.size):s=ByteArray.extract s 0 n++ByteArray.extract s n s.size:=nb_inj (by rw [nb_app,ext_tail,nb_extract,List.take_append_drop])
theorem app_cancel {a b c:ByteArray} (h:a++b=a++c):b=c:=nb_inj (by
 have:=congrArg nb h
 rw [nb_app,nb_app] at this
 exact List.append_cancel_left this)
theorem app_inj {a b c d:ByteArray} (h:a++b=c++d) (hs:a.size=c.size):a=c∧b=d:=by
 have:=congrArg nb h
 rw [nb_app,nb_app] at this
 have:=List.append_inj this (by rw [nb_len,nb_len,hs])
 exact ⟨nb_inj this.1,nb_inj this.2⟩
def rv:Nat→List Nat→Option (Nat × Nat)
 | 0,_=>none
 | _+1,[]=>none
 | d+1,b::l=>if b≥128 then (match rv d l with | some (a,n)=>if a=0 then none else some (b % 128+128*a,n+1) | none=>none) else some (b,1)
theorem rv_vl:∀ (d a:Nat) (t:List Nat),a<128 ^ (d+1)→rv (d+1) (vl d a++t)=some (a,(vl d a).length)
 | 0,a,t,h=>by
  have:¬ a≥128:=by simpa using h
  simp [vl,rv,this]
 | d+1,a,t,h=>by
  unfold vl
  by_cases c:a≥128
  · have ih:=rv_vl d (a/128) t (by rw [Nat.pow_succ] at h;omega)
    rw [if_pos c,List.cons_append,rv,if_pos (by omega),ih]
    simp only []
    rw [if_neg (by omega),l_c]
    congr 2
    omega
  · rw [if_neg c,List.cons_append,rv,if_neg c]
    rfl
theorem rv_some:∀ (d:Nat) (l:List Nat) (a n:Nat),(∀ x ∈ l,x<256)→rv (d+1) l=some (a,n)→l.take n=vl d a∧a<128 ^ (d+1)∧n=(vl d a).length∧n≤l.length∧1≤n∧n≤d+1
 | _,[],a,n,_,h=>by simp [rv] at h
 | 0,b::l,a,n,hb,h=>by
  unfold rv at h
  by_cases c:b≥128
  · simp [c,rv] at h
  · simp [c] at h
    obtain ⟨rfl,rfl⟩:=h
    refine ⟨by simp [vl],by simpa using c,by simp [vl],by simp,by omega,by omega⟩
 | d+1,b::l,a,n,hb,h=>by
  unfold rv at h
  by_cases c:b≥128
  · rw [if_pos c] at h
    cases q:rv (d+1) l with
    | none=>rw [q] at h;simp at h
    | some p =>
     obtain ⟨a',n'⟩:=p
     obtain ⟨h1,h2,h3,h4,h5,h6⟩:=rv_some d l a' n' (fun x hx=>hb x (m_m _ hx)) q
     rw [q] at h
     simp only [] at h
     by_cases z:a'=0
     · simp [z] at h
     · rw [if_neg z] at h
       simp only [Option.some.injEq,Prod.mk.injEq] at h
       obtain ⟨rfl,rfl⟩:=h
       have hb:=hb b (m_s ..)
       have e1:(b % 128+128*a')/128=a':=by omega
       have e2:128+(b % 128+128*a') % 128=b:=by omega
       have hv:vl (d+1) (b % 128+128*a')=b::vl d a':=by
        rw [vl,if_pos (by omega),e1,e2]
       rw [hv]
       refine ⟨by rw [List.take_succ_cons,h1],by rw [Nat.pow_succ];omega,by rw [l_c,h3],by rw [l_c];omega,by omega,by omega⟩
  · rw [if_neg c] at h
    simp only [Option.some.injEq,Prod.mk.injEq] at h
    obtain ⟨rfl,rfl⟩:=h
    have hv:vl (d+1) b=[b]:=by rw [vl,if_neg c]
    rw [hv]
    refine ⟨by simp,?_,by simp,by simp,by omega,by omega⟩
    have:(128:Nat) ^ 1≤128 ^ (d+1+1):=Nat.pow_le_pow_right (by decide) (by omega)
    omega
theorem vl_ne {d a:Nat}:vl d a≠[]:=by
 cases d with
 | zero=>simp [vl]
 | succ d=>unfold vl;split <;> simp
theorem rv_wcan (l:List Nat) (hb:∀ x ∈ l,x<256) (d n:Nat) (h0:1≤n) (h1:n≤d+1) (h2:n≤l.length):wcan (l.take n)=true↔∃ a,rv (d+1) l=some (a,n):=by
 constructor
 · intro h
   have e:=wcan_vl d (l.take n) h (by rw [List.length_take];omega)
   have hd:dec (l.take n)<128 ^ (d+1):=Nat.lt_of_lt_of_le (dec_lt _) (Nat.pow_le_pow_right (by decide) (by rw [List.length_take];omega))
   have:=rv_vl d (dec (l.take n)) (l.drop n) hd
   rw [e,List.take_append_drop,List.length_take,Nat.min_eq_left h2] at this
   exact ⟨_,this⟩
 · rintro ⟨a,h⟩
   obtain ⟨e1,e2,_⟩:=rv_some d l a n hb h
   rw [e1]
   exact (vl_wcan d a e2).1
theorem rv_dec {l:List Nat} (hb:∀ x ∈ l,x<256) {d a n:Nat} (h:rv (d+1) l=some (a,n)):a=dec (l.take n):=by
 obtain ⟨e1,e2,_⟩:=rv_some d l a n hb h
 rw [e1]
 exact (vl_wcan d a e2).2.1.symm
theorem nb_lt' (s:ByteArray):∀ x ∈ nb s,x<256:=fun _ h=>nb_lt h
theorem varT_size (a:Nat):1≤(varT a).size∧(varT a).size≤7:=by
 unfold varT
 rw [bytesOf_size,List.length_map]
 have h:∀ d a,(vl d a).length≤d+1:=by
  intro d
  induction d with
  | zero=>intro a;simp [vl]
  | succ d ih=>intro a;unfold vl;split <;> simp;have:=ih (a/128);omega
 have h2:=h 6 a
 have h3:(vl 6 a).length≠0:=fun q=>vl_ne (List.length_eq_zero_iff.1 q)
 omega
theorem varT_len {a:Nat} (h:a<562949953421312):(vl 6 a).length=(varT a).size:=by rw [← nb_varT h,nb_len]
theorem rv_app {a:Nat} (h:a<562949953421312) (t:ByteArray):rv 7 (nb (varT a++t))=some (a,(varT a).size):=by
 rw [nb_app,nb_varT h,← varT_len h]
 exact rv_vl 6 a _ (by rw [show (128:Nat) ^ (6+1)=562949953421312 by decide];exact h)
theorem rv_view {s:ByteArray} {a n:Nat} (h:rv 7 (nb s)=some (a,n)):∃ t,a<562949953421312∧n=(varT a).size∧s=varT a++t:=by
 obtain ⟨h1,h2,h3,h4,h5,h6⟩:=rv_some 6 (nb s) a n (nb_lt' s) h
 rw [show (128:Nat) ^ (6+1)=562949953421312 by decide] at h2
 refine ⟨ByteArray.extract s n s.size,h2,by rw [h3,varT_len h2],nb_inj ?_⟩
 rw [nb_app,nb_varT h2,ext_tail,← h1,List.take_append_drop]
theorem rv_cases (s:ByteArray):(∃ a t,a<562949953421312∧s=varT a++t)∨rv 7 (nb s)=none:=by
 cases h:rv 7 (nb s) with
 | none=>exact .inr rfl
 | some p =>
  obtain ⟨a,n⟩:=p
  obtain ⟨t,h1,_,h3⟩:=rv_view h
  exact .inl ⟨a,t,h1,h3⟩
theorem varT_inj {a b:Nat} {s t:ByteArray} (ha:a<562949953421312) (hb:b<562949953421312) (h:varT a++s=varT b++t):a=b∧s=t:=by
 have h1:=rv_app ha s
 rw [h,rv_app hb t] at h1
 simp only [Option.some.injEq,Prod.mk.injEq] at h1
 obtain ⟨rfl,_⟩:=h1
 exact ⟨rfl,app_cancel h⟩
def rvR:Option (Nat × Nat)→Int × Int × Unit
 | some p=>((p.1:Int),((p.2:Int),()))
 | none=>(0,(0,()))
end Go.V
namespace Go.Proofs.YtmakghhmpgfboaaGreat.G
open Go.V
theorem l1In_eq (k:Nat) (a b c:Int):spec_l1In.f k a b c=some (decide (b≤a∧a≤c),()):=by
 unfold spec_l1In.f spec_l1In.t
 by_cases h:b≤a <;> simp [h]
theorem in_eq (k:Nat) (a b c:Int):impl_in.f k a b c=some (decide (b≤a∧a≤c),()):=by
 unfold impl_in.f impl_in.t
 by_cases h:b≤a <;> simp [h]
def varB (a:Int):ByteArray:=if 0≤a∧a≤562949953421311 then varT a.toNat else ⟨#[]⟩
theorem varB_size (a:Int):(varB a).size≤7:=by
 unfold varB
 split
 · exact (varT_size _).2
 · exact Nat.zero_le _
theorem varB_nat {a:Nat} (h:a<562949953421312):varB (a:Int)=varT a:=by
 unfold varB
 rw [if_pos (by omega),Int.toNat_natCast]
theorem varL:∀ (d a n:Nat) (xs:List Int),a<128 ^ (d+1)→a<562949953421312→d<n→xs.length+d≤100→∀ k,
 spec_Var.l0 k n (a:Int) xs=some (bytesOf (xs++(vl d a).map Int.ofNat),())∧impl_Var.l0 k n (a:Int) xs=some (bytesOf (xs++(vl d a).map Int.ofNat),()):=by
 intro d
 induction d with
 | zero =>
  intro a n xs h1 h2 h3 h4 k
  obtain ⟨n,rfl⟩:∃ q,n=q+1:=⟨n-1,by omega⟩
  simp only [Nat.zero_add,Nat.pow_one] at h1
  constructor
  · simp (disch:=first | omega | decide) only [spec_Var.l0,spec_Var.b0,decF,c_f,rm_ok,wu8_ok]
    rfl
  · simp (disch:=first | omega | decide) only [impl_Var.l0,impl_Var.b0,decF,c_f,rm_ok,wu8_ok]
    rfl
 | succ d ih =>
  intro a n xs h1 h2 h3 h4 k
  obtain ⟨n,rfl⟩:∃ q,n=q+1:=⟨n-1,by omega⟩
  unfold vl
  by_cases c:a≥128
  · have hd:w64 (Int.tdiv (a:Int) 128)=((a/128:Nat):Int):=w64_eq (n:=((a/128:Nat):Int)) (by omega) (by omega)
    have hw:IntKind.wrap .u8 (w64 (128+Int.tmod (a:Int) 128))=((128+a % 128:Nat):Int):=by
     have e:128+Int.tmod (a:Int) 128=((128+a % 128:Nat):Int):=by
      show 128+((a % 128:Nat):Int)=_
      omega
     rw [e,w64_eq (by omega) (by omega)]
     exact wu8_ok (by omega) (by omega)
    have ih:=ih (a/128) n (xs++[((128+a % 128:Nat):Int)]) (by rw [Nat.pow_succ] at h1;omega) (by omega) (by omega) (by rw [l_a];show _+1+d≤_;omega) k
    rw [if_pos c]
    rw [a_a] at ih
    constructor
    · simp (disch:=first | omega | decide) only [spec_Var.l0,spec_Var.b0,decT,c_t,rm_ok,hd,hw]
      exact ih.1
    · simp (disch:=first | omega | decide) only [impl_Var.l0,impl_Var.b0,decT,c_t,rm_ok,hd,Int.add_comm (Int.tmod (a:Int) 128) 128,hw]
      exact ih.2
  · rw [if_neg c]
    constructor
    · simp (disch:=first | omega | decide) only [spec_Var.l0,spec_Var.b0,decF,c_f,rm_ok,wu8_ok]
      rfl
    · simp (disch:=first | omega | decide) only [impl_Var.l0,impl_Var.b0,decF,c_f,rm_ok,wu8_ok]
      rfl
theorem specVar_eq {k:Nat} (hk:2 ^ 50≤k) (a:Int):spec_Var.f k a=some (varB a,()):=by
 unfold spec_Var.f spec_Var.t varB
 rw [l1In_eq,o_s]
 by_cases h:0≤a∧a≤562949953421311
 · obtain ⟨n,rfl⟩:=Int.eq_ofNat_of_zero_le h.1
   have hn:n<562949953421312:=by omega
   simp only [decT h,n_t,c_f,if_pos h,Int.toNat_natCast]
   exact (varL 6 n k [] (by rw [show (128:Nat) ^ (6+1)=562949953421312 by decide];exact hn) hn (by omega) (by decide) k).1
 · simp only [decF h,n_f,c_t,if_neg h]
theorem implVar_eq {k:Nat} (hk:2 ^ 50≤k) (a:Int):impl_Var.f k a=some (varB a,()):=by
 unfold impl_Var.f impl_Var.t varB
 rw [in_eq,o_s]
 by_cases h:0≤a∧a≤562949953421311
 · obtain ⟨n,rfl⟩:=Int.eq_ofNat_of_zero_le h.1
   have hn:n<562949953421312:=by omega
   simp only [decT h,n_t,c_f,if_pos h,Int.toNat_natCast]
   exact (varL 6 n k [] (by rw [show (128:Nat) ^ (6+1)=562949953421312 by decide];exact hn) hn (by omega) (by decide) k).2
 · simp only [decF h,n_f,c_t,if_neg h]
theorem take_one {s:ByteArray} {i:Nat} (h:i<s.size):(nb s).take (i+1)=(nb s).take i++[(nb s).getD i 0]:=by
 have h1:i<(nb s).length:=by rw [nb_len];exact h
 rw [List.take_succ_eq_append_getElem h1]
 simp [List.getD,h1]
theorem nb_getD_lt (s:ByteArray) (i:Nat):(nb s).getD i 0<256:=by
 by_cases h1:i<(nb s).length
 · rw [show (nb s).getD i 0=(nb s)[i] by simp [List.getD,h1]]
   exact nb_lt (List.getElem_mem h1)
 · simp [List.getD,List.getElem?_eq_none (by omega:(nb s).length≤i)]
theorem nb_drop {s:ByteArray} {i:Nat} (h:i<s.size):(nb s).drop i=(nb s).getD i 0::(nb s).drop (i+1):=by
 have h1:i<(nb s).length:=by rw [nb_len];exact h
 rw [List.drop_eq_getElem_cons h1]
 simp [List.getD,h1]
def crcR (n:Nat):Nat:=if n % 2=1 then n/2 ^^^ 2197175160 else n/2
def crcN:Nat→Nat→Nat
 | 0,n=>n
 | d+1,n=>crcN d (crcR n)
theorem crcR_lt {n:Nat} (h:n<4294967296):crcR n<4294967296:=by
 unfold crcR
 split
 · exact Nat.xor_lt_two_pow (n:=32) (by omega) (by omega)
 · omega
theorem crcN_lt:∀ {d n:Nat},n<4294967296→crcN d n<4294967296
 | 0,_,h=>h
 | d+1,_,h=>crcN_lt (d:=d) (crcR_lt h)
def crcS:List Nat→Nat→Nat
 | [],n=>n
 | b::l,n=>crcS l (crcN 8 (n ^^^ b))
theorem crcS_lt:∀ {l:List Nat} {n:Nat},n<4294967296→(∀ b ∈ l,b<256)→crcS l n<4294967296
 | [],_,h,_=>h
 | b::l,n,h,hb=>by
  have:=hb b (m_s ..)
  exact crcS_lt (l:=l) (crcN_lt (Nat.xor_lt_two_pow (n:=32) (by omega) (by omega))) (fun x hx=>hb x (m_m _ hx))
def crcM (s:ByteArray):Int:=4294967295-(crcS (nb s) 4294967295:Int)
theorem crcM_in (s:ByteArray):0≤crcM s∧crcM s≤4294967295:=by
 have:=crcS_lt (l:=nb s) (n:=4294967295) (by omega) (nb_lt' s)
 unfold crcM
 omega
theorem specBit {k:Nat} {L0:ByteArray→Int→Int→Option (Int × Unit)} {s:ByteArray} {i:Int}:∀ (d j m n:Nat),8-j=d→j≤8→d<m→n<4294967296→spec_Crc.l1 k L0 m s (n:Int) i (j:Int)=L0 s ((crcN d n:Nat):Int) (w64 (i+1))
 | 0,j,m,n,hd,hj,hm,hn=>by
  obtain ⟨m,rfl⟩:∃ q,m=q+1:=⟨m-1,by omega⟩
  have c:¬ ((j:Int)<8):=by omega
  simp only [spec_Crc.l1,spec_Crc.b1,decide_eq_false c,c_f,crcN]
 | d+1,j,m,n,hd,hj,hm,hn=>by
  obtain ⟨m,rfl⟩:∃ q,m=q+1:=⟨m-1,by omega⟩
  have c:((j:Int)<8):=by omega
  have ih:=specBit (k:=k) (L0:=L0) (s:=s) (i:=i) d (j+1) m (crcR n) (by omega) (by omega) (by omega) (crcR_lt hn)
  have hd2:w64 (Int.tdiv (n:Int) 2)=((n/2:Nat):Int):=w64_eq (n:=((n/2:Nat):Int)) (by omega) (by omega)
  have hx:=xor64 (n:=n/2) (m:=2197175160) (by omega) (by omega)
  have hm2:Int.tmod (n:Int) 2=((n % 2:Nat):Int):=rfl
  have hj1:w64 ((j:Int)+1)=((j+1:Nat):Int):=by rw [w64_eq (by omega) (by omega)];omega
  simp only [spec_Crc.l1,spec_Crc.b1,decide_eq_true c,c_t,hj1,hd2,hm2,crcN]
  rw [← ih]
  unfold crcR
  by_cases q:n % 2=1
  · rw [if_pos q,q,← hx]
    rfl
  · rw [if_neg q,show n % 2=0 by omega]
    rfl
theorem implBit {k:Nat} {L0:ByteArray→Int→Int→Option (Int × Unit)} {s:ByteArray} {i:Int}:∀ (d j m n:Nat),8-j=d→j≤8→d<m→n<4294967296→impl_Crc.l1 k L0 m s (n:Int) i (j:Int)=L0 s ((crcN d n:Nat):Int) (w64 (i+1))
 | 0,j,m,n,hd,hj,hm,hn=>by
  obtain ⟨m,rfl⟩:∃ q,m=q+1:=⟨m-1,by omega⟩
  have c:¬ ((j:Int)<8):=by omega
  simp only [impl_Crc.l1,impl_Crc.b1,decide_eq_false c,c_f,crcN]
 | d+1,j,m,n,hd,hj,hm,hn=>by
  obtain ⟨m,rfl⟩:∃ q,m=q+1:=⟨m-1,by omega⟩
  have c:((j:Int)<8):=by omega
  have ih:=implBit (k:=k) (L0:=L0) (s:=s) (i:=i) d (j+1) m (crcR n) (by omega) (by omega) (by omega) (crcR_lt hn)
  have hd2:Int.fdiv (n:Int) (2 ^ (Int.toNat 1))=((n/2:Nat):Int):=by
   show Int.fdiv (n:Int) 2=_
   rw [Int.fdiv_eq_ediv_of_nonneg _ (by omega)]
   omega
  have hx:=xor32 (n:=n/2) (m:=2197175160) (by omega) (by omega)
  have hj1:w64 ((j:Int)+1)=((j+1:Nat):Int):=by rw [w64_eq (by omega) (by omega)];omega
  simp only [impl_Crc.l1,impl_Crc.b1,decide_eq_true c,c_t,hj1,hd2,and32 hn,crcN]
  rw [← ih]
  unfold crcR
  by_cases q:n % 2=1
  · rw [if_pos q,q,← hx]
    rfl
  · rw [if_neg q,show n % 2=0 by omega]
    rfl
theorem crcL {k:Nat} (hk:2 ^ 50≤k) {s:ByteArray} (hs:s.size≤1099511627776):∀ (d i n m:Nat),s.size-i=d→i≤s.size→n<4294967296→d<m →
 spec_Crc.l0 k m s (n:Int) (i:Int)=some (4294967295-(crcS ((nb s).drop i) n:Int),())∧impl_Crc.l0 k m s (n:Int) (i:Int)=some (4294967295-(crcS ((nb s).drop i) n:Int),())
 | 0,i,n,m,hd,hi,hn,hm=>by
  obtain ⟨m,rfl⟩:∃ q,m=q+1:=⟨m-1,by omega⟩
  have c:¬ ((i:Int)<(s.size:Int)):=by omega
  have e1:w64 (4294967295-(n:Int))=4294967295-(n:Int):=w64_eq (by omega) (by omega)
  rw [List.drop_eq_nil_of_le (by rw [nb_len];omega)]
  constructor
  · simp only [spec_Crc.l0,spec_Crc.b0,decide_eq_false c,c_f,e1,crcS]
  · simp only [impl_Crc.l0,impl_Crc.b0,decide_eq_false c,c_f,not32 hn,e1,crcS]
 | d+1,i,n,m,hd,hi,hn,hm=>by
  obtain ⟨m,rfl⟩:∃ q,m=q+1:=⟨m-1,by omega⟩
  have hlt:i<s.size:=by omega
  have c:((i:Int)<(s.size:Int)):=by omega
  have h0:=Int.natCast_nonneg i
  have hb:=nb_getD_lt s i
  have hat:=nb_at hlt
  rw [nb_drop hlt]
  generalize (nb s).getD i 0=b at hb hat
  have w1:w64 (b:Int)=(b:Int):=w64_eq (by omega) (by omega)
  have w2:IntKind.wrap .u32 (b:Int)=(b:Int):=wu32_ok (by omega) (by omega)
  have hnb:n ^^^ b<4294967296:=Nat.xor_lt_two_pow (n:=32) (by omega) (by omega)
  have up:w64 ((i:Int)+1)=((i+1:Nat):Int):=by rw [w64_eq (by omega) (by omega)];omega
  obtain ⟨s1,s2⟩:=crcL hk hs d (i+1) (crcN 8 (n ^^^ b)) m (by omega) (by omega) (crcN_lt hnb) (by omega)
  constructor
  · simp only [spec_Crc.l0,spec_Crc.b0,decide_eq_true c,c_t,inb_eq h0 c,hat,w1,xor64 hn (show b<4294967296 by omega)]
    refine (specBit 8 0 k (n ^^^ b) (by omega) (by omega) (by omega) hnb).trans ?_
    rw [up]
    exact s1
  · simp only [impl_Crc.l0,impl_Crc.b0,decide_eq_true c,c_t,inb_eq h0 c,hat,w2,xor32 hn (show b<4294967296 by omega)]
    refine (implBit 8 0 k (n ^^^ b) (by omega) (by omega) (by omega) hnb).trans ?_
    rw [up]
    exact s2
theorem specCrc_eq {k:Nat} (hk:2 ^ 50≤k) {s:ByteArray} (hs:s.size≤1099511627776):spec_Crc.f k s=some (crcM s,()):=by
 have:=(crcL hk hs s.size 0 4294967295 k (by omega) (by omega) (by omega) (by omega)).1
 rw [List.drop_zero] at this
 exact this
theorem implCrc_eq {k:Nat} (hk:2 ^ 50≤k) {s:ByteArray} (hs:s.size≤1099511627776):impl_Crc.f k s=some (crcM s,()):=by
 have:=(crcL hk hs s.size 0 4294967295 k (by omega) (by omega) (by omega) (by omega)).2
 rw [List.drop_zero] at this
 exact this
end Go.Proofs.YtmakghhmpgfboaaGreat.G
namespace Go.Proofs.YtmakghhmpgfboaaGreat.G
open Go.V
def fixT (n:Nat):ByteArray:=bytesOf [((n/16777216 % 256:Nat):Int),((n/65536 % 256:Nat):Int),((n/256 % 256:Nat):Int),((n % 256:Nat):Int)]
theorem fixT_size (n:Nat):(fixT n).size=4:=rfl
theorem nb_fixT (n:Nat):nb (fixT n)=[n/16777216 % 256,n/65536 % 256,n/256 % 256,n % 256] :=
 nb_bytes (l:=[n/16777216 % 256,n/65536 % 256,n/256 % 256,n % 256]) (by simp;omega)
theorem specFixed4 {k:Nat} (hk:2 ^ 50≤k) {n:Nat} (h1:n<4294967296):spec_Fixed.f k (n:Int) 4=some (fixT n,()):=by
 have sz1:∀ x:Int,(bytesOf [x]).size=1:=fun x=>rfl
 have st:∀ (q m:Nat) (t:ByteArray) (j:Nat),m<4294967296→j<4→t.size≤100→spec_Fixed.l0 k (q+1) (m:Int) 4 t (j:Int)=spec_Fixed.l0 k q ((m/256:Nat):Int) 4 (bytesOf [((m % 256:Nat):Int)]++t) ((j+1:Nat):Int):=fun q m t j hm hj ht=>by
  have wd:w64 (Int.tdiv (m:Int) 256)=((m/256:Nat):Int):=w64_eq (n:=((m/256:Nat):Int)) (by omega) (by omega)
  have wm:IntKind.wrap .u8 (Int.tmod (m:Int) 256)=((m % 256:Nat):Int):=wu8_ok (n:=((m % 256:Nat):Int)) (by omega) (by omega)
  have wj:w64 ((j:Int)+1)=((j+1:Nat):Int):=by rw [w64_eq (by omega) (by omega)];omega
  simp (disch:=omega) only [spec_Fixed.l0,spec_Fixed.b0,decT,c_t,wd,wm,wj]
  rw [cat_ok (by rw [sz1];omega)]
 unfold spec_Fixed.f spec_Fixed.t
 rw [l1In_eq,o_s]
 simp only [show decide ((1:Int)≤4∧(4:Int)≤7)=true by decide,n_t,c_f,decF (show ¬ ((n:Int)<0) by omega)]
 obtain ⟨q,hq⟩:∃ q,k=q+5:=⟨k-5,by omega⟩
 refine (congrArg (fun z=>spec_Fixed.l0 k z (n:Int) 4 ⟨#[]⟩ 0) hq).trans ?_
 refine (st (q+4) n _ 0 h1 (by omega) (by decide)).trans ?_
 refine (st (q+3) (n/256) _ 1 (by omega) (by omega) (by rw [ByteArray.size_append,sz1];decide)).trans ?_
 refine (st (q+2) (n/256/256) _ 2 (by omega) (by omega) (by rw [ByteArray.size_append,ByteArray.size_append,sz1,sz1];decide)).trans ?_
 refine (st (q+1) (n/256/256/256) _ 3 (by omega) (by omega) (by rw [ByteArray.size_append,ByteArray.size_append,ByteArray.size_append,sz1,sz1,sz1];decide)).trans ?_
 have c:¬ ((((3+1:Nat)):Int)<4):=by omega
 have c2:¬ (((n/256/256/256/256:Nat):Int) > 0):=by omega
 simp only [spec_Fixed.l0,spec_Fixed.b0,decF c,decF c2,c_f]
 unfold fixT
 congr 2
 rw [show n/256/256/256=n/16777216 by omega,show n/256/256=n/65536 by omega]
 apply ByteArray.ext
 simp [bytesOf,ByteArray.data_append]
theorem implFixed4 {k:Nat} (hk:2 ^ 50≤k) {n:Nat} (h1:n<4294967296):impl_Fixed.f k (n:Int) 4=some (fixT n,()):=by
 have st:∀ (q j p:Nat) (i':Int) (xs:List Int),j≤3→p=2 ^ (8*j)→i'=(j:Int)-1→xs.length≤100→impl_Fixed.l0 k (q+1) (n:Int) (j:Int) xs=impl_Fixed.l0 k q (n:Int) i' (xs++[((n/p % 256:Nat):Int)]):=fun q j p i' xs hj hp hi hx=>by
  have e8:w64 (8*(j:Int))=((8*j:Nat):Int):=by rw [w64_eq (by omega) (by omega)];omega
  have e1:w64 ((j:Int)-1)=i':=by rw [hi];exact w64_eq (by omega) (by omega)
  have emin:min (8*j) (IntKind.bits .i64)=8*j:=by have:IntKind.bits .i64=64:=rfl;rw [this];omega
  have ew:IntKind.wrap .u8 (Int.fdiv (n:Int) (2 ^ (8*j)))=((n/p % 256:Nat):Int):=by
   have e2:((2:Int) ^ (8*j))=((p:Nat):Int):=by rw [hp,Int.natCast_pow];rfl
   rw [e2,Int.fdiv_eq_ediv_of_nonneg _ (by omega),← Int.natCast_ediv]
   generalize n/p=z
   unfold IntKind.wrap
   simp [IntKind.bits,IntKind.signed]
  simp (disch:=first | omega | decide) only [impl_Fixed.l0,impl_Fixed.b0,decT,c_t,e8,rm_ok,e1,n_n,emin,ew]
  rw [decF (by omega),c_f]
 unfold impl_Fixed.f impl_Fixed.t
 rw [in_eq,o_s]
 have c0:¬ (w64 (8*4)<0):=by decide
 simp only [show decide ((1:Int)≤4∧(4:Int)≤7)=true by decide,n_t,c_f,decF c0,show w64 (w64 (1*2 ^ min (Int.toNat (w64 (8*4))) (IntKind.bits .i64))-1)=4294967295 by decide,in_eq,o_s]
 rw [decT (show (0:Int)≤(n:Int)∧(n:Int)≤4294967295 by omega)]
 simp only [n_t,c_f,show w64 ((4:Int)-1)=((3:Nat):Int) by decide]
 obtain ⟨q,hq⟩:∃ q,k=q+5:=⟨k-5,by omega⟩
 refine (congrArg (fun z=>impl_Fixed.l0 k z (n:Int) ((3:Nat):Int) []) hq).trans ?_
 refine (st (q+4) 3 16777216 ((2:Nat):Int) _ (by omega) (by decide) (by decide) (by decide)).trans ?_
 refine (st (q+3) 2 65536 ((1:Nat):Int) _ (by omega) (by decide) (by decide) (by simp)).trans ?_
 refine (st (q+2) 1 256 ((0:Nat):Int) _ (by omega) (by decide) (by decide) (by simp)).trans ?_
 refine (st (q+1) 0 1 (-1) _ (by omega) (by decide) (by decide) (by simp)).trans ?_
 simp only [impl_Fixed.l0,impl_Fixed.b0,show decide ((-1:Int)≥0)=false by decide,c_f,Nat.div_one]
 rfl
def fix4 (a:Int):ByteArray:=fixT a.toNat
theorem fix4_size (a:Int):(fix4 a).size=4:=rfl
theorem specFixed_eq {k:Nat} (hk:2 ^ 50≤k) {a:Int} (h0:0≤a) (h1:a≤4294967295):spec_Fixed.f k a 4=some (fix4 a,()):=by
 obtain ⟨n,rfl⟩:=Int.eq_ofNat_of_zero_le h0
 exact specFixed4 hk (by omega)
theorem implFixed_eq {k:Nat} (hk:2 ^ 50≤k) {a:Int} (h0:0≤a) (h1:a≤4294967295):impl_Fixed.f k a 4=some (fix4 a,()):=by
 obtain ⟨n,rfl⟩:=Int.eq_ofNat_of_zero_le h0
 exact implFixed4 hk (by omega)
theorem fx_cases (s:ByteArray):(∃ x t,x<4294967296∧s=fixT x++t)∨s.size<4:=by
 by_cases c:s.size<4
 · exact .inr c
 · left
   have h0:=nb_drop (s:=s) (i:=0) (by omega)
   have h1:=nb_drop (s:=s) (i:=1) (by omega)
   have h2:=nb_drop (s:=s) (i:=2) (by omega)
   have h3:=nb_drop (s:=s) (i:=3) (by omega)
   have b0:=nb_getD_lt s 0
   have b1:=nb_getD_lt s 1
   have b2:=nb_getD_lt s 2
   have b3:=nb_getD_lt s 3
   rw [h1,h2,h3,List.drop_zero] at h0
   generalize (nb s).getD 0 0=x0 at *
   generalize (nb s).getD 1 0=x1 at *
   generalize (nb s).getD 2 0=x2 at *
   generalize (nb s).getD 3 0=x3 at *
   refine ⟨((x0*256+x1)*256+x2)*256+x3,ByteArray.extract s 4 s.size,by omega,nb_inj ?_⟩
   rw [nb_app,nb_fixT,ext_tail,h0]
   simp only [List.cons_append,List.nil_append,List.drop_succ_cons,List.drop_zero,List.cons.injEq,and_true]
   refine ⟨?_,?_,?_,?_⟩ <;> omega
theorem fx_at (x:Nat) (t:ByteArray):nb (fixT x++t)=(x/16777216 % 256)::(x/65536 % 256)::(x/256 % 256)::(x % 256)::nb t:=by
 rw [nb_app,nb_fixT];rfl
theorem fx_sz (x:Nat) (t:ByteArray):(fixT x++t).size=4+t.size:=by rw [ByteArray.size_append];rfl
theorem specKeyOk_eq (k:Nat) (s:ByteArray):spec_KeyOk.f k s=some (decide (1≤(s.size:Int)∧(s.size:Int)≤8),()):=by
 unfold spec_KeyOk.f spec_KeyOk.t
 rw [l1In_eq];rfl
theorem implKeyOk_eq (k:Nat) (s:ByteArray):impl_KeyOk.f k s=some (decide (1≤(s.size:Int)∧(s.size:Int)≤8),()):=by
 unfold impl_KeyOk.f impl_KeyOk.t
 rw [in_eq];rfl
def recOk (a:Ty.den TRec):Bool :=
 bif a.1==1||a.1==4 then decide (1≤(a.2.2.1.size:Int)∧(a.2.2.1.size:Int)≤8)&&(decide ((a.2.2.2.1.size:Int)≤24)&&((a.2.2.2.2.1==0)&&((a.2.2.2.2.2.1==0)&&decide (1≤a.2.1∧a.2.1≤1000000))))
 else bif a.1==2 then decide (1≤(a.2.2.1.size:Int)∧(a.2.2.1.size:Int)≤8)&&(seq a.2.2.2.1 ⟨#[]⟩&&((a.2.2.2.2.1==0)&&((a.2.2.2.2.2.1==0)&&decide (1≤a.2.1∧a.2.1≤1000000))))
 else bif a.1==3 then seq a.2.2.1 ⟨#[]⟩&&(seq a.2.2.2.1 ⟨#[]⟩&&(decide (0≤a.2.2.2.2.1∧a.2.2.2.2.1≤8)&&(decide (0≤a.2.2.2.2.2.1∧a.2.2.2.2.2.1≤4294967295)&&decide (1≤a.2.1∧a.2.1≤1000000))))
 else bif a.1==5 then seq a.2.2.1 ⟨#[]⟩&&(seq a.2.2.2.1 ⟨#[]⟩&&(decide (0≤a.2.2.2.2.1∧a.2.2.2.2.1≤20)&&(decide (0≤a.2.2.2.2.2.1∧a.2.2.2.2.2.1≤4294967295)&&decide (0≤a.2.1∧a.2.1≤1000000))))
 else false
theorem seq_empty (s:ByteArray):seq s ByteArray.empty=seq s ⟨#[]⟩:=rfl
theorem implRecOk_eq (k:Nat) (a:Ty.den TRec):impl_RecOk.f k a=some (recOk a,()):=by
 obtain ⟨ty,tx,key,tt,n,sm,u⟩:=a
 unfold impl_RecOk.f impl_RecOk.t recOk
 simp only [in_eq,implKeyOk_eq,o_s,seq_refl,seq_empty]
 change Int at ty tx n sm
 change ByteArray at key tt
 generalize decide (1≤(key.size:Int)∧(key.size:Int)≤8)=K
 generalize decide ((tt.size:Int)≤24)=L
 generalize decide (1≤tx∧tx≤1000000)=T1
 generalize decide (0≤tx∧tx≤1000000)=T0
 generalize decide (0≤n∧n≤8)=N1
 generalize decide (0≤n∧n≤20)=N2
 generalize decide (0≤sm∧sm≤4294967295)=S
 generalize (n==0)=Z1
 generalize (sm==0)=Z2
 generalize seq key ⟨#[]⟩=E1
 generalize seq tt ⟨#[]⟩=E2
 by_cases h1:ty=1
 · subst h1;simp;cases K <;> cases L <;> cases T1 <;> cases Z1 <;> cases Z2 <;> rfl
 by_cases h4:ty=4
 · subst h4;simp;cases K <;> cases L <;> cases T1 <;> cases Z1 <;> cases Z2 <;> rfl
 by_cases h2:ty=2
 · subst h2;simp;cases K <;> cases E2 <;> cases T1 <;> cases Z1 <;> cases Z2 <;> rfl
 by_cases h3:ty=3
 · subst h3;simp;cases E1 <;> cases E2 <;> cases T1 <;> cases N1 <;> cases S <;> rfl
 by_cases h5:ty=5
 · subst h5;simp;cases E1 <;> cases E2 <;> cases T0 <;> cases N2 <;> cases S <;> rfl
 have b1:(ty==1)=false:=q_f h1
 have b2:(ty==2)=false:=q_f h2
 have b3:(ty==3)=false:=q_f h3
 have b4:(ty==4)=false:=q_f h4
 have b5:(ty==5)=false:=q_f h5
 have b6:(ty != 5)=true:=bne_iff_ne.2 h5
 simp only [b1,b2,b3,b4,b5,b6,Bool.or_false,c_f,c_t]
theorem specRecOk_eq (k:Nat) (a:Ty.den TRec):spec_RecOk.f k a=some (recOk a,()):=by
 obtain ⟨ty,tx,key,tt,n,sm,u⟩:=a
 unfold spec_RecOk.f spec_RecOk.t recOk
 simp only [l1In_eq,specKeyOk_eq,o_s]
 change Int at ty tx n sm
 change ByteArray at key tt
 have q:decide (1≤tx∧tx≤1000000)=(decide (0≤tx∧tx≤1000000)&&!(tx==0)):=by
  rw [Bool.eq_iff_iff];simp;omega
 rw [q]
 generalize decide (1≤(key.size:Int)∧(key.size:Int)≤8)=K
 generalize decide ((tt.size:Int)≤24)=L
 generalize decide (0≤tx∧tx≤1000000)=T0
 generalize (tx==0)=T
 generalize decide (0≤n∧n≤8)=N1
 generalize decide (0≤n∧n≤20)=N2
 generalize decide (0≤sm∧sm≤4294967295)=S
 generalize (n==0)=Z1
 generalize (sm==0)=Z2
 generalize seq key ⟨#[]⟩=E1
 generalize seq tt ⟨#[]⟩=E2
 by_cases h1:ty=1
 · subst h1;simp;cases T0 <;> cases T <;> cases K <;> cases L <;> cases Z1 <;> cases Z2 <;> rfl
 by_cases h4:ty=4
 · subst h4;simp;cases T0 <;> cases T <;> cases K <;> cases L <;> cases Z1 <;> cases Z2 <;> rfl
 by_cases h2:ty=2
 · subst h2;simp;cases T0 <;> cases T <;> cases K <;> cases E2 <;> cases Z1 <;> cases Z2 <;> rfl
 by_cases h3:ty=3
 · subst h3;simp;cases T0 <;> cases T <;> cases E1 <;> cases E2 <;> cases N1 <;> cases S <;> rfl
 by_cases h5:ty=5
 · subst h5;simp;cases T0 <;> cases T <;> cases E1 <;> cases E2 <;> cases N2 <;> cases S <;> rfl
 have b1:(ty==1)=false:=q_f h1
 have b2:(ty==2)=false:=q_f h2
 have b3:(ty==3)=false:=q_f h3
 have b4:(ty==4)=false:=q_f h4
 have b5:(ty==5)=false:=q_f h5
 have b6:(ty != 5)=true:=bne_iff_ne.2 h5
 simp only [b1,b2,b3,b4,b5,b6,Bool.or_false,c_f,c_t]
 cases T0 <;> cases T <;> rfl
def textB (s:ByteArray):ByteArray:=varB (s.size:Int)++s
theorem textB_size (s:ByteArray):(textB s).size≤7+s.size:=by
 unfold textB
 have:=varB_size (s.size:Int)
 rw [ByteArray.size_append]
 omega
def showRec (a:Ty.den TRec):ByteArray :=
 if recOk a=true then
  if a.1=1∨a.1=4 then varB a.1++(varB a.2.1++(textB a.2.2.1++textB a.2.2.2.1))
  else if a.1=2 then varB a.1++(varB a.2.1++textB a.2.2.1)
  else varB a.1++(varB a.2.1++(varB a.2.2.2.2.1++fix4 a.2.2.2.2.2.1))
 else ⟨#[]⟩
theorem recOk_cases {a:Ty.den TRec} (h:recOk a=true) :
 ((a.1=1∨a.1=4)∧1≤a.2.2.1.size∧a.2.2.1.size≤8∧a.2.2.2.1.size≤24∧a.2.2.2.2.1=0∧a.2.2.2.2.2.1=0∧1≤a.2.1∧a.2.1≤1000000) ∨
 (a.1=2∧1≤a.2.2.1.size∧a.2.2.1.size≤8∧a.2.2.2.1=⟨#[]⟩∧a.2.2.2.2.1=0∧a.2.2.2.2.2.1=0∧1≤a.2.1∧a.2.1≤1000000) ∨
 ((a.1=3∨a.1=5)∧a.2.2.1=⟨#[]⟩∧a.2.2.2.1=⟨#[]⟩∧0≤a.2.2.2.2.1∧a.2.2.2.2.1≤20∧0≤a.2.2.2.2.2.1∧a.2.2.2.2.2.1≤4294967295∧0≤a.2.1∧a.2.1≤1000000):=by
 obtain ⟨kd,bt,key,val,cn,sm,u⟩:=a
 change Int at kd bt cn sm
 change ByteArray at key val
 unfold recOk at h
 simp only [] at h ⊢
 by_cases c:kd=1∨kd=4
 · have b:(kd==1||kd==4)=true:=by rcases c with c | c <;> rw [c] <;> rfl
   rw [b,c_t] at h
   simp only [b_a,decide_eq_true_eq,beq_iff_eq] at h
   exact .inl ⟨c,by omega,by omega,by omega,h.2.2.1,h.2.2.2.1,h.2.2.2.2⟩
 · have b1:(kd==1)=false:=q_f fun h=>c (.inl h)
   have b4:(kd==4)=false:=q_f fun h=>c (.inr h)
   simp only [b1,b4,Bool.or_false,c_f] at h
   cases b2:(kd==2) with
   | true =>
    rw [b2,c_t] at h
    simp only [b_a,decide_eq_true_eq,beq_iff_eq,seq_iff] at h
    exact .inr (.inl ⟨eq_of_beq b2,by omega,by omega,h.2.1,h.2.2.1,h.2.2.2.1,h.2.2.2.2⟩)
   | false =>
    rw [b2,c_f] at h
    cases b3:(kd==3) with
    | true =>
     rw [b3,c_t] at h
     simp only [b_a,decide_eq_true_eq,seq_iff] at h
     exact .inr (.inr ⟨.inl (eq_of_beq b3),h.1,h.2.1,h.2.2.1.1,Int.le_trans h.2.2.1.2 (by decide),h.2.2.2.1.1,h.2.2.2.1.2,Int.le_trans (by decide) h.2.2.2.2.1,h.2.2.2.2.2⟩)
    | false =>
     rw [b3,c_f] at h
     cases b5:(kd==5) with
     | true =>
      rw [b5,c_t] at h
      simp only [b_a,decide_eq_true_eq,seq_iff] at h
      exact .inr (.inr ⟨.inr (eq_of_beq b5),h.1,h.2.1,h.2.2.1.1,h.2.2.1.2,h.2.2.2.1.1,h.2.2.2.1.2,h.2.2.2.2.1,h.2.2.2.2.2⟩)
     | false =>
      rw [b5,c_f] at h
      cases h
theorem recOk_i {kd b cn sm:Int} {key val:ByteArray} (h:recOk (kd,(b,(key,(val,(cn,(sm,()))))))=true) :
 ((kd=1∨kd=4)∧1≤key.size∧key.size≤8∧val.size≤24∧cn=0∧sm=0∧1≤b∧b≤1000000) ∨
 (kd=2∧1≤key.size∧key.size≤8∧val=⟨#[]⟩∧cn=0∧sm=0∧1≤b∧b≤1000000) ∨
 ((kd=3∨kd=5)∧key=⟨#[]⟩∧val=⟨#[]⟩∧0≤cn∧cn≤20∧0≤sm∧sm≤4294967295∧0≤b∧b≤1000000):=recOk_cases h
theorem specShowRec_eq {k:Nat} (hk:2 ^ 50≤k) (a:Ty.den TRec):spec_ShowRec.f k a=some (showRec a,()):=by
 unfold spec_ShowRec.f spec_ShowRec.t showRec
 rw [specRecOk_eq,o_s]
 cases hr:recOk a with
 | false=>rfl
 | true =>
  have v1:=varB_size a.1
  have v2:=varB_size a.2.1
  have v3:=varB_size (a.2.2.1.size:Int)
  have v4:=varB_size (a.2.2.2.1.size:Int)
  have v5:=varB_size a.2.2.2.2.1
  have v6:=fix4_size a.2.2.2.2.2.1
  simp only [n_t,c_f,if_true,textB]
  rcases recOk_cases hr with ⟨c,h⟩ | ⟨c,h⟩ | ⟨c,h⟩
  · rw [if_pos c]
    rcases c with c | c
    · have b1:(a.1==1)=true:=by rw [c];rfl
      simp (disch:=first | omega | (simp only [ByteArray.size_append];omega)) only [specVar_eq hk,o_s,b1,c_t,cat_ok,app_assoc]
    · have b1:(a.1==1)=false:=by rw [c];rfl
      have b4:(a.1==4)=true:=by rw [c];rfl
      simp (disch:=first | omega | (simp only [ByteArray.size_append];omega)) only [specVar_eq hk,o_s,b1,b4,c_t,c_f,cat_ok,app_assoc]
  · have b1:(a.1==1)=false:=by rw [c];rfl
    have b4:(a.1==4)=false:=by rw [c];rfl
    have b2:(a.1==2)=true:=by rw [c];rfl
    rw [if_neg (show ¬ (a.1=1∨a.1=4) by rw [c];decide),if_pos c]
    simp (disch:=first | omega | (simp only [ByteArray.size_append];omega)) only [specVar_eq hk,o_s,b1,b2,b4,c_t,c_f,cat_ok,app_assoc]
  · have b1:(a.1==1)=false:=by rcases c with c | c <;> rw [c] <;> rfl
    have b4:(a.1==4)=false:=by rcases c with c | c <;> rw [c] <;> rfl
    have b2:(a.1==2)=false:=by rcases c with c | c <;> rw [c] <;> rfl
    rw [if_neg (show ¬ (a.1=1∨a.1=4) by rcases c with c | c <;> rw [c] <;> decide),if_neg (show ¬ a.1=2 by rcases c with c | c <;> rw [c] <;> decide)]
    obtain ⟨_,_,_,_,z1,z2,_⟩:=h
    simp (disch:=first | assumption | omega | (simp only [ByteArray.size_append];omega)) only [specVar_eq hk,specFixed_eq hk,o_s,b1,b2,b4,c_t,c_f,cat_ok,app_assoc]
theorem implVars2 {k:Nat} (hk:2 ^ 50≤k) (x y:Int):impl_vars.f k [x,y]=some (varB x++varB y,()):=by
 have v1:=varB_size x
 have v2:=varB_size y
 obtain ⟨q,hq⟩:∃ q,k=q+3:=⟨k-3,by omega⟩
 refine (congrArg (fun z=>impl_vars.l0 k z ⟨#[]⟩ [x,y] 2 0) hq).trans ?_
 rw [show impl_vars.l0 k (q+3) ⟨#[]⟩ [x,y] 2 0=(impl_Var.f k x).bind (fun r1=>cat ⟨#[]⟩ r1.1 (impl_vars.l0 k (q+2) (⟨#[]⟩++r1.1) [x,y] 2 1)) from rfl]
 rw [implVar_eq hk,o_s]
 simp only []
 rw [cat_ok (by rw [show (⟨#[]⟩:ByteArray).size=0 from rfl];omega),app_nil]
 rw [show impl_vars.l0 k (q+2) (varB x) [x,y] 2 1=(impl_Var.f k y).bind (fun r1=>cat (varB x) r1.1 (impl_vars.l0 k (q+1) (varB x++r1.1) [x,y] 2 2)) from rfl]
 rw [implVar_eq hk,o_s]
 simp only []
 rw [cat_ok (by omega)]
 rfl
theorem implTextOf_eq {k:Nat} (hk:2 ^ 50≤k) {s:ByteArray} (hs:s.size≤1099511627776):impl_textOf.f k s=some (textB s,()):=by
 have:=varB_size (s.size:Int)
 unfold impl_textOf.f impl_textOf.t textB
 simp (disch:=omega) only [implVar_eq hk,o_s,cat_ok]
theorem implShowRec_eq {k:Nat} (hk:2 ^ 50≤k) (a:Ty.den TRec):impl_ShowRec.f k a=some (showRec a,()):=by
 unfold impl_ShowRec.f impl_ShowRec.t showRec
 rw [implRecOk_eq,o_s]
 cases hr:recOk a with
 | false=>rfl
 | true =>
  have v1:=varB_size a.1
  have v2:=varB_size a.2.1
  have v3:=textB_size a.2.2.1
  have v4:=textB_size a.2.2.2.1
  have v5:=varB_size a.2.2.2.2.1
  have v6:=fix4_size a.2.2.2.2.2.1
  simp only [n_t,c_f,if_true,implVars2 hk,o_s]
  rcases recOk_cases hr with ⟨c,h⟩ | ⟨c,h⟩ | ⟨c,h⟩
  · rw [if_pos c]
    rcases c with c | c
    · have b1:(a.1==1)=true:=by rw [c];rfl
      simp (disch:=first | omega | (simp only [ByteArray.size_append];omega)) only [implTextOf_eq hk,o_s,b1,c_t,cat_ok,app_assoc]
    · have b1:(a.1==1)=false:=by rw [c];rfl
      have b4:(a.1==4)=true:=by rw [c];rfl
      simp (disch:=first | omega | (simp only [ByteArray.size_append];omega)) only [implTextOf_eq hk,o_s,b1,b4,c_t,c_f,cat_ok,app_assoc]
  · have b1:(a.1==1)=false:=by rw [c];rfl
    have b4:(a.1==4)=false:=by rw [c];rfl
    have b2:(a.1==2)=true:=by rw [c];rfl
    rw [if_neg (show ¬ (a.1=1∨a.1=4) by rw [c];decide),if_pos c]
    simp (disch:=first | omega | (simp only [ByteArray.size_append];omega)) only [implTextOf_eq hk,o_s,b1,b2,b4,c_t,c_f,cat_ok,app_assoc]
  · have b1:(a.1==1)=false:=by rcases c with c | c <;> rw [c] <;> rfl
    have b4:(a.1==4)=false:=by rcases c with c | c <;> rw [c] <;> rfl
    have b2:(a.1==2)=false:=by rcases c with c | c <;> rw [c] <;> rfl
    rw [if_neg (show ¬ (a.1=1∨a.1=4) by rcases c with c | c <;> rw [c] <;> decide),if_neg (show ¬ a.1=2 by rcases c with c | c <;> rw [c] <;> decide)]
    obtain ⟨_,_,_,_,z1,z2,_⟩:=h
    simp (disch:=first | assumption | omega | (simp only [ByteArray.size_append];omega)) only [implVar_eq hk,implFixed_eq hk,o_s,b1,b2,b4,c_t,c_f,cat_ok,app_assoc]
theorem showRec_size (a:Ty.den TRec):(showRec a).size≤60:=by
 unfold showRec
 split
 · rename_i hr
   have v1:=varB_size a.1
   have v2:=varB_size a.2.1
   have v3:=textB_size a.2.2.1
   have v4:=textB_size a.2.2.2.1
   have v5:=varB_size a.2.2.2.2.1
   have v6:=fix4_size a.2.2.2.2.2.1
   rcases recOk_cases hr with ⟨c,h⟩ | ⟨c,h⟩ | ⟨c,h⟩
   · rw [if_pos c]
     simp only [ByteArray.size_append];omega
   · rw [if_neg (show ¬ (a.1=1∨a.1=4) by rw [c];decide),if_pos c]
     simp only [ByteArray.size_append];omega
   · rw [if_neg (show ¬ (a.1=1∨a.1=4) by rcases c with c | c <;> rw [c] <;> decide),if_neg (show ¬ a.1=2 by rcases c with c | c <;> rw [c] <;> decide)]
     simp only [ByteArray.size_append];omega
 · exact Nat.zero_le _
def showAll:List (Ty.den TRec)→ByteArray
 | []=>⟨#[]⟩
 | a::l=>showRec a++showAll l
def sumM (l:List (Ty.den TRec)):Int:=crcM (showAll l)
theorem specSumOf_eq {k:Nat} (hk:2 ^ 50≤k) {l:List (Ty.den TRec)} (hl:l.length≤1073741824):spec_SumOf.f k l=some (sumM l,()):=by
 refine (forL0 (L:=fun n i s=>spec_SumOf.l0 k n l s i) (R:=fun l s=>some (crcM (s++showAll l),())) (Ty.dflt TRec) l (fun i s=>(s.size:Int)≤60*i) (fun n s hs=>?_) (fun n i s x rest h0 h1 hx hr hp ih=>?_) (n:=k) (s:=⟨#[]⟩) (by omega) (by decide)).trans (by rw [app_nil];rfl)
 · simp (disch:=omega) only [spec_SumOf.l0,spec_SumOf.b0,decF,c_f,specCrc_eq hk,o_s,showAll,nil_app]
 · have hz:=showRec_size x
   simp (disch:=omega) only [spec_SumOf.l0,spec_SumOf.b0,decT,c_t,inb_eq,hx,specShowRec_eq hk,o_s,cat_ok,w64_eq]
   rw [ih _ (by rw [ByteArray.size_append];omega),showAll,app_assoc]
theorem implSumOf_eq {k:Nat} (hk:2 ^ 50≤k) {l:List (Ty.den TRec)} (hl:l.length≤1073741824):impl_SumOf.f k l=some (sumM l,()):=by
 refine (forL0 (L:=fun n i s=>impl_SumOf.l0 k n s l l.length i) (R:=fun l s=>some (crcM (s++showAll l),())) (Ty.dflt TRec) l (fun i s=>(s.size:Int)≤60*i) (fun n s hs=>?_) (fun n i s x rest h0 h1 hx hr hp ih=>?_) (n:=k) (s:=⟨#[]⟩) (by omega) (by decide)).trans (by rw [app_nil];rfl)
 · simp (disch:=omega) only [impl_SumOf.l0,impl_SumOf.b0,decF,c_f,implCrc_eq hk,o_s,showAll,nil_app]
 · have hz:=showRec_size x
   simp (disch:=omega) only [impl_SumOf.l0,impl_SumOf.b0,decT,c_t,inb_eq,hx,implShowRec_eq hk,o_s,cat_ok,w64_eq]
   rw [ih _ (by rw [ByteArray.size_append];omega),showAll,app_assoc]
end Go.Proofs.YtmakghhmpgfboaaGreat.G
namespace Go.Proofs.YtmakghhmpgfboaaGreat.G
open Go.V
theorem implReadVarL {s:ByteArray} (hs:s.size≤4611686018427387904) (k:Nat):∀ (d i acc n:Nat),i+d=7→acc<128 ^ i→d<n →
 impl_ReadVar.l0 k n s (acc:Int) (i:Int)=some (match rv d ((nb s).drop i) with
  | some (a,m)=>if a=0∧0<i then (0,(0,())) else (((acc+a*128 ^ i:Nat):Int),(((i+m:Nat):Int),()))
  | none=>(0,(0,()))):=by
 intro d
 induction d with
 | zero =>
  intro i acc n h1 h2 h3
  obtain ⟨n,rfl⟩:∃ q,n=q+1:=⟨n-1,by omega⟩
  simp (disch:=omega) only [impl_ReadVar.l0,impl_ReadVar.b0,decF,c_f,rv]
 | succ d ih =>
  intro i acc n h1 h2 h3
  obtain ⟨n,rfl⟩:∃ q,n=q+1:=⟨n-1,by omega⟩
  by_cases hlt:i<s.size
  case neg =>
   rw [List.drop_eq_nil_of_le (by rw [nb_len];omega)]
   simp (disch:=omega) only [impl_ReadVar.l0,impl_ReadVar.b0,decT,decF,c_t,c_f,rv]
  have hb:=nb_getD_lt s i
  have hat:=nb_at hlt
  have ih:=ih (i+1)
  rw [nb_drop hlt]
  generalize (nb s).getD i 0=b at hb hat
  have e8:w64 (7*(i:Int))=((7*i:Nat):Int):=by rw [w64_eq (by omega) (by omega)];omega
  have emin:min (7*i) (IntKind.bits .i64)=7*i:=by have:IntKind.bits .i64=64:=rfl;rw [this];omega
  have ep:(2:Int) ^ (7*i)=((128 ^ i:Nat):Int):=by rw [Int.pow_mul,Int.natCast_pow];rfl
  have hp:128 ^ i≤128 ^ 6:=Nat.pow_le_pow_right (by decide) (by omega)
  rw [show (128:Nat) ^ 6=4398046511104 by decide] at hp
  have hps:128 ^ (i+1)=128 ^ i*128:=Nat.pow_succ ..
  have hb2:(b % 128)*128 ^ i≤127*128 ^ i:=Nat.mul_le_mul (by omega) (Nat.le_refl _)
  have ev:w64 ((acc:Int)+w64 (Int.tmod (b:Int) 128*2 ^ (7*i)))=((acc+b % 128*128 ^ i:Nat):Int):=by
   have e:Int.tmod (b:Int) 128*2 ^ (7*i)=((b % 128*128 ^ i:Nat):Int):=by
    rw [ep,Int.natCast_mul]
    rfl
   rw [e,w64_eq (n:=((b % 128*128 ^ i:Nat):Int)) (by omega) (by omega),w64_eq (by omega) (by omega)]
   omega
  have eb:w64 ((b:Nat):Int)=(b:Int):=w64_eq (by omega) (by omega)
  have ei:w64 ((i:Int)+1)=((i+1:Nat):Int):=by rw [w64_eq (by omega) (by omega)];omega
  have ih:=ih (acc+b % 128*128 ^ i) n (by omega) (by omega) (by omega)
  simp (disch:=omega) only [impl_ReadVar.l0,impl_ReadVar.b0,decT,c_t,inb_eq,hat,eb,e8,n_n,emin,ev,ei]
  rw [decF (by omega),c_f]
  by_cases c:b≥128
  · rw [decT (show (b:Int)≥128 by omega),c_t,ih,rv,if_pos c]
    cases q:rv d ((nb s).drop (i+1)) with
    | none=>rfl
    | some p =>
     obtain ⟨a,m⟩:=p
     simp only []
     by_cases z:a=0
     · simp [z]
     · have hm:a*128 ^ (i+1)=128*a*128 ^ i:=by rw [hps,Nat.mul_comm (128 ^ i),← Nat.mul_assoc,Nat.mul_comm a]
       rw [if_neg (by omega),if_neg z]
       simp only []
       rw [if_neg (by omega)]
       have e1:acc+b % 128*128 ^ i+a*128 ^ (i+1)=acc+(b % 128+128*a)*128 ^ i:=by rw [hm,Nat.add_mul];omega
       have e2:i+1+m=i+(m+1):=by omega
       rw [e1,e2]
  · have em:b % 128=b:=by omega
    rw [decF (show ¬ (b:Int)≥128 by omega),c_f,rv,if_neg c,em]
    by_cases z:b=0
    · subst z
      rw [show ((((0:Nat):Int)==0))=true from rfl,c_t]
      by_cases hi:0<i
      · rw [decT (show (i:Int) > 0 by omega),c_t]
        simp [hi]
      · rw [decF (show ¬ (i:Int) > 0 by omega),c_f]
        simp [hi]
    · rw [show ((b:Int)==0)=false from q_f (by omega),c_f]
      simp [z]
theorem implReadVar_rv {k:Nat} (hk:2 ^ 50≤k) {s:ByteArray} (hs:s.size≤4611686018427387904):impl_ReadVar.f k s=some (rvR (rv 7 (nb s))):=by
 unfold impl_ReadVar.f impl_ReadVar.t
 refine (implReadVarL hs k 7 0 0 k (by omega) (by decide) (by omega)).trans ?_
 rw [List.drop_zero]
 cases rv 7 (nb s) with
 | none=>rfl
 | some p=>simp [rvR]
theorem specDig {k:Nat} {L0:ByteArray→Int→Option (Int × Int × Unit)} {s:ByteArray} {n:Nat}:∀ (j x m:Nat),j<m→j≤s.size→j≤7→(x+1)*128 ^ j≤562949953421312 →
 spec_ReadVar.l1 k L0 m s (n:Int) (x:Int) ((j:Int)-1)=spec_ReadVar.l1 k L0 (m-j) s (n:Int) ((x*128 ^ j+dec ((nb s).take j):Nat):Int) (-1)
 | 0,x,m,hm,hs,h7,hx=>by simp [dec]
 | j+1,x,m,hm,hs,h7,hx=>by
  obtain ⟨m,rfl⟩:∃ q,m=q+1:=⟨m-1,by omega⟩
  have hj:j<s.size:=by omega
  have hb:=nb_getD_lt s j
  rw [Nat.pow_succ,← Nat.mul_assoc,Nat.mul_comm _ 128,← Nat.mul_assoc] at hx
  have hpos:1≤128 ^ j:=Nat.one_le_pow _ _ (by decide)
  have hx2:(128*(x+1))*1≤(128*(x+1))*128 ^ j:=Nat.mul_le_mul (Nat.le_refl _) hpos
  have hat:=nb_at hj
  have e0:((j+1:Nat):Int)-1=(j:Int):=by omega
  have c:(j:Int)≥0:=by omega
  have c2:(j:Int)<(s.size:Int):=by omega
  rw [take_one hj,dec_snoc,List.length_take,nb_len,Nat.min_eq_left (by omega)]
  generalize (nb s).getD j 0=b at hb hat ⊢
  have w1:w64 (((b:Nat):Int))=(b:Int):=w64_eq (by omega) (by omega)
  have w2:w64 ((x:Int)*128)=(x:Int)*128:=w64_eq (by omega) (by omega)
  have w3:w64 ((x:Int)*128+Int.tmod (b:Int) 128)=((x*128+b % 128:Nat):Int):=by
   have e:(x:Int)*128+Int.tmod (b:Int) 128=((x*128+b % 128:Nat):Int):=by
    show (x:Int)*128+((b % 128:Nat):Int)=_
    omega
   rw [e]
   exact w64_eq (by omega) (by omega)
  have w4:w64 ((j:Int)-1)=(j:Int)-1:=w64_eq (by omega) (by omega)
  have hx3:(x*128+b % 128+1)*128 ^ j≤(128*(x+1))*128 ^ j:=Nat.mul_le_mul (by omega) (Nat.le_refl _)
  have ih:=specDig (k:=k) (L0:=L0) (s:=s) (n:=n) j (x*128+b % 128) m (by omega) (by omega) (by omega) (by omega)
  rw [e0]
  simp only [spec_ReadVar.l1,spec_ReadVar.b1,decide_eq_true c,c_t,inb_eq c c2,hat,w1,w2,w3,w4]
  rw [ih,show m+1-(j+1)=m-j by omega]
  congr 2
  rw [Nat.pow_succ,Nat.add_mul,Nat.mul_assoc,Nat.mul_comm 128 (128 ^ j),Nat.mul_comm (b % 128)]
  omega
theorem dec7 {s:ByteArray} {n:Nat} (h7:n≤7):dec ((nb s).take n)<562949953421312:=by
 have:=dec_lt ((nb s).take n)
 have h1:((nb s).take n).length≤7:=by rw [List.length_take];omega
 have h2:(128:Nat) ^ ((nb s).take n).length≤128 ^ 7:=Nat.pow_le_pow_right (by decide) h1
 rw [show (128:Nat) ^ 7=562949953421312 by decide] at h2
 omega
theorem specReadVarL {k:Nat} (hk:2 ^ 50≤k) {s:ByteArray}:∀ (d i n:Nat),i+d=8→1≤i→d<n →
 spec_ReadVar.l0 k n s (i:Int)=some (match rv 7 (nb s) with | some (a,m)=>if i≤m then ((a:Int),((m:Int),())) else (0,(0,())) | none=>(0,(0,()))):=by
 have stop:∀ i,(7<i∨s.size<i)→(match rv 7 (nb s) with | some (a,m)=>if i≤m then ((a:Int),((m:Int),())) else (0,(0,())) | none=>(0,(0,())))=((0:Int),((0:Int),())):=by
  intro i hi
  cases q:rv 7 (nb s) with
  | none=>rfl
  | some p =>
   obtain ⟨a,m⟩:=p
   obtain ⟨_,_,_,h4,_,h6⟩:=rv_some 6 (nb s) a m (nb_lt' s) q
   rw [nb_len] at h4
   exact if_neg (by omega)
 intro d
 induction d with
 | zero =>
  intro i n h1 h2 h3
  obtain ⟨n,rfl⟩:∃ q,n=q+1:=⟨n-1,by omega⟩
  rw [stop i (by omega)]
  simp (disch:=omega) only [spec_ReadVar.l0,spec_ReadVar.b0,decF,c_f]
 | succ d ih =>
  intro i n h1 h2 h3
  obtain ⟨n,rfl⟩:∃ q,n=q+1:=⟨n-1,by omega⟩
  by_cases hs:i≤s.size
  case neg =>
   rw [stop i (by omega)]
   simp (disch:=omega) only [spec_ReadVar.l0,spec_ReadVar.b0,decT,decF,c_t,c_f]
  have hp:(128:Nat) ^ i≤128 ^ 7:=Nat.pow_le_pow_right (by decide) (by omega)
  rw [show (128:Nat) ^ 7=562949953421312 by decide] at hp
  simp (disch:=omega) only [spec_ReadVar.l0,spec_ReadVar.b0,decT,c_t,w64_eq]
  refine (specDig (k:=k) (L0:=spec_ReadVar.l0 k n) (s:=s) (n:=i) i 0 k (by omega) hs (by omega) (by omega)).trans ?_
  obtain ⟨m,hm⟩:∃ m,k-i=m+1:=⟨k-i-1,by omega⟩
  have hd7:=dec7 (s:=s) (n:=i) (by omega)
  have hc:=var_check (s:=s) (n:=i) h2 (by omega) hs
  rw [hm,Nat.zero_mul,Nat.zero_add]
  simp only [spec_ReadVar.l1,spec_ReadVar.b1,show decide ((-1:Int)≥0)=false by decide,c_f,specVar_eq hk,o_s,varB_nat hd7]
  rw [inc_eq (by omega) (by omega),n_n,hc,w64_eq (by omega) (by omega)]
  have hw:=rv_wcan (nb s) (nb_lt' s) 6 i h2 (by omega) (by rw [nb_len];exact hs)
  cases hq:wcan ((nb s).take i) with
  | true =>
   obtain ⟨a,ha⟩:=hw.1 hq
   rw [c_t,ha]
   simp only []
   rw [if_pos (Nat.le_refl _),rv_dec (nb_lt' s) ha]
  | false =>
   have hnot:∀ a,rv 7 (nb s)≠some (a,i):=fun a ha=>by
    have:=hw.2 ⟨a,ha⟩
    rw [hq] at this
    cases this
   rw [c_f]
   refine (ih (i+1) n (by omega) (by omega) (by omega)).trans ?_
   cases q:rv 7 (nb s) with
   | none=>rfl
   | some p =>
    obtain ⟨a,m'⟩:=p
    have:m'≠i:=fun e=>hnot a (by rw [q,e])
    simp only []
    by_cases c:i≤m'
    · rw [if_pos c,if_pos (by omega)]
    · rw [if_neg c,if_neg (by omega)]
theorem specReadVar_rv {k:Nat} (hk:2 ^ 50≤k) (s:ByteArray):spec_ReadVar.f k s=some (rvR (rv 7 (nb s))):=by
 unfold spec_ReadVar.f spec_ReadVar.t
 refine (specReadVarL hk 7 1 k (by omega) (by omega) (by omega)).trans ?_
 cases q:rv 7 (nb s) with
 | none=>rfl
 | some p =>
  obtain ⟨a,m⟩:=p
  obtain ⟨_,_,_,_,h5,_⟩:=rv_some 6 (nb s) a m (nb_lt' s) q
  simp only [rvR]
  rw [if_pos h5]
end Go.Proofs.YtmakghhmpgfboaaGreat.G
namespace Go.Proofs.YtmakghhmpgfboaaGreat.G
open Go.V
theorem specReadFixed_ok {k:Nat} (hk:2 ^ 50≤k) {x:Nat} (hx:x<4294967296) (t:ByteArray):spec_ReadFixed.f k (fixT x++t) 4=some ((x:Int),(true,())):=by
 have hz:=fx_sz x t
 have st:∀ (q a j:Nat),j<4→a<4294967296→spec_ReadFixed.l0 k (q+1) (fixT x++t) 4 (a:Int) (j:Int)=spec_ReadFixed.l0 k q (fixT x++t) 4 ((a*256+(nb (fixT x++t)).getD j 0:Nat):Int) ((j+1:Nat):Int):=fun q a j hj ha=>by
  have hb:=nb_getD_lt (fixT x++t) j
  have hat:=nb_at (s:=fixT x++t) (i:=j) (by omega)
  generalize (nb (fixT x++t)).getD j 0=b at *
  have e1:w64 (w64 ((a:Int)*256)+w64 (b:Int))=((a*256+b:Nat):Int):=by
   rw [w64_eq (n:=(a:Int)*256) (by omega) (by omega),w64_eq (n:=(b:Int)) (by omega) (by omega),w64_eq (by omega) (by omega)]
   omega
  have ej:w64 ((j:Int)+1)=((j+1:Nat):Int):=by rw [w64_eq (by omega) (by omega)];omega
  simp (disch:=omega) only [spec_ReadFixed.l0,spec_ReadFixed.b0,decT,c_t,inb_eq,hat,e1,ej]
 unfold spec_ReadFixed.f spec_ReadFixed.t
 rw [l1In_eq,o_s]
 simp only [show decide ((1:Int)≤4∧(4:Int)≤7)=true by decide,n_t,c_f,decF (show ¬ (((fixT x++t).size:Int)<4) by omega)]
 obtain ⟨q,hq⟩:∃ q,k=q+5:=⟨k-5,by omega⟩
 refine (congrArg (fun z=>spec_ReadFixed.l0 k z (fixT x++t) 4 0 0) hq).trans ?_
 refine (st (q+4) 0 0 (by omega) (by omega)).trans ?_
 rw [fx_at]
 simp only [List.getD_cons_zero,Nat.zero_mul,Nat.zero_add]
 refine (st (q+3) _ 1 (by omega) (by omega)).trans ?_
 rw [fx_at]
 simp only [List.getD_cons_zero,List.getD_cons_succ]
 refine (st (q+2) _ 2 (by omega) (by omega)).trans ?_
 rw [fx_at]
 simp only [List.getD_cons_zero,List.getD_cons_succ]
 refine (st (q+1) _ 3 (by omega) (by omega)).trans ?_
 rw [fx_at]
 simp only [List.getD_cons_zero,List.getD_cons_succ]
 simp only [spec_ReadFixed.l0,spec_ReadFixed.b0,show decide ((((3+1:Nat)):Int)<4)=false by decide,c_f]
 congr 3
 omega
theorem implReadFixed_ok {k:Nat} (hk:2 ^ 50≤k) {x:Nat} (hx:x<4294967296) (t:ByteArray):impl_ReadFixed.f k (fixT x++t) 4=some ((x:Int),(true,())):=by
 have hz:=fx_sz x t
 have st:∀ (q a j:Nat),j<4→a<16777216→impl_ReadFixed.l0 k (q+1) (fixT x++t) (a:Int) 4 (j:Int)=impl_ReadFixed.l0 k q (fixT x++t) ((a*256+(nb (fixT x++t)).getD j 0:Nat):Int) 4 ((j+1:Nat):Int):=fun q a j hj ha=>by
  have hb:=nb_getD_lt (fixT x++t) j
  have hat:=nb_at (s:=fixT x++t) (i:=j) (by omega)
  generalize (nb (fixT x++t)).getD j 0=b at *
  have e0:w64 ((a:Int)*2 ^ min (Int.toNat 8) (IntKind.bits .i64))=((a*256:Nat):Int):=by
   rw [show (2:Int) ^ min (Int.toNat 8) (IntKind.bits .i64)=256 by decide,w64_eq (by omega) (by omega)]
   omega
  have e2:w64 (b:Int)=(b:Int):=w64_eq (by omega) (by omega)
  have ej:w64 ((j:Int)+1)=((j+1:Nat):Int):=by rw [w64_eq (by omega) (by omega)];omega
  simp (disch:=omega) only [impl_ReadFixed.l0,impl_ReadFixed.b0,decT,c_t,inb_eq,hat,e0,e2,ej]
  rw [or64 (by omega) hb]
 unfold impl_ReadFixed.f impl_ReadFixed.t
 rw [in_eq,o_s]
 simp only [show decide ((1:Int)≤4∧(4:Int)≤7)=true by decide,n_t,c_f,decF (show ¬ (((fixT x++t).size:Int)<4) by omega)]
 obtain ⟨q,hq⟩:∃ q,k=q+5:=⟨k-5,by omega⟩
 refine (congrArg (fun z=>impl_ReadFixed.l0 k z (fixT x++t) 0 4 0) hq).trans ?_
 refine (st (q+4) 0 0 (by omega) (by omega)).trans ?_
 rw [fx_at]
 simp only [List.getD_cons_zero,Nat.zero_mul,Nat.zero_add]
 refine (st (q+3) _ 1 (by omega) (by omega)).trans ?_
 rw [fx_at]
 simp only [List.getD_cons_zero,List.getD_cons_succ]
 refine (st (q+2) _ 2 (by omega) (by omega)).trans ?_
 rw [fx_at]
 simp only [List.getD_cons_zero,List.getD_cons_succ]
 refine (st (q+1) _ 3 (by omega) (by omega)).trans ?_
 rw [fx_at]
 simp only [List.getD_cons_zero,List.getD_cons_succ]
 simp only [impl_ReadFixed.l0,impl_ReadFixed.b0,show decide ((((3+1:Nat)):Int)<4)=false by decide,c_f]
 congr 3
 omega
theorem specReadFixed_bad (k:Nat) {s:ByteArray} (h:s.size<4):spec_ReadFixed.f k s 4=some (0,(false,())):=by
 unfold spec_ReadFixed.f spec_ReadFixed.t
 rw [l1In_eq,o_s]
 simp only [show decide ((1:Int)≤4∧(4:Int)≤7)=true by decide,n_t,c_f,decT (show (s.size:Int)<4 by omega),c_t]
theorem implReadFixed_bad (k:Nat) {s:ByteArray} (h:s.size<4):impl_ReadFixed.f k s 4=some (0,(false,())):=by
 unfold impl_ReadFixed.f impl_ReadFixed.t
 rw [in_eq,o_s]
 simp only [show decide ((1:Int)≤4∧(4:Int)≤7)=true by decide,n_t,c_f,decT (show (s.size:Int)<4 by omega),c_t]
end Go.Proofs.YtmakghhmpgfboaaGreat.G
namespace Go.Proofs.YtmakghhmpgfboaaGreat.G
open Go.V
def frameM (s:ByteArray):ByteArray:=if s.size > 200 then ⟨#[]⟩ else fix4 (crcM (textB s))++textB s
theorem frameM_size (s:ByteArray):(frameM s).size≤211:=by
 unfold frameM
 split
 · exact Nat.zero_le _
 · have:=textB_size s
   rw [ByteArray.size_append,fix4_size];omega
theorem frameM_pos {s:ByteArray} (h:s.size≤200):5≤(frameM s).size:=by
 unfold frameM
 rw [if_neg (by omega),ByteArray.size_append,fix4_size]
 unfold textB
 rw [varB_nat (by omega),ByteArray.size_append]
 have:=varT_size s.size
 omega
theorem specFrame_eq {k:Nat} (hk:2 ^ 50≤k) (s:ByteArray):spec_Frame.f k s=some (frameM s,()):=by
 unfold spec_Frame.f spec_Frame.t frameM
 by_cases c:s.size > 200
 · rw [decT (show (s.size:Int) > 200 by omega),c_t,if_pos c]
 · have h1:=varB_size (s.size:Int)
   have h2:=crcM_in (varB (s.size:Int)++s)
   rw [decF (show ¬ (s.size:Int) > 200 by omega),c_f,if_neg c]
   unfold textB
   simp (disch:=first | omega | (simp only [ByteArray.size_append,fix4_size];omega)) only [specVar_eq hk,o_s,cat_ok,specCrc_eq hk]
   rw [specFixed_eq hk h2.1 h2.2,o_s,cat_ok (by simp only [ByteArray.size_append,fix4_size];omega)]
theorem implFrame_eq {k:Nat} (hk:2 ^ 50≤k) (s:ByteArray):impl_Frame.f k s=some (frameM s,()):=by
 unfold impl_Frame.f impl_Frame.t frameM
 by_cases c:s.size > 200
 · rw [decT (show (s.size:Int) > 200 by omega),c_t,if_pos c]
 · have h1:=textB_size s
   have h2:=crcM_in (textB s)
   rw [decF (show ¬ (s.size:Int) > 200 by omega),c_f,if_neg c]
   simp (disch:=omega) only [implTextOf_eq hk,o_s,implCrc_eq hk]
   rw [implFixed_eq hk h2.1 h2.2,o_s,cat_ok (by rw [fix4_size];omega)]
end Go.Proofs.YtmakghhmpgfboaaGreat.G
namespace Go.Proofs.YtmakghhmpgfboaaGreat.G
open Go.V
theorem sz_app (a b:ByteArray):(a++b).size=a.size+b.size:=ByteArray.size_append ..
theorem tail2 (a b t:ByteArray):ByteArray.extract (a++(b++t)) (a.size+b.size) (a++(b++t)).size=t:=by
 have:=app_tail (a++b) t
 rw [sz_app,app_assoc] at this
 exact this
theorem mid (a b t:ByteArray):ByteArray.extract (a++(b++t)) a.size (a.size+b.size)=b:=nb_inj (by
 rw [nb_ext,nb_app,nb_app,List.take_append,List.take_of_length_le (by rw [nb_len];omega),nb_len,show a.size+b.size-a.size=b.size by omega,List.drop_left' (nb_len a),List.take_left' (nb_len b)])
theorem cast_add (a b:Nat):((a:Int)+(b:Int))=((a+b:Nat):Int):=rfl
theorem implReadVar_ok {k:Nat} (hk:2 ^ 50≤k) {a:Nat} {t:ByteArray} (ha:a<562949953421312) (hs:t.size≤1099511627776):impl_ReadVar.f k (varT a++t)=some ((a:Int),(((varT a).size:Int),())):=by
 have:=varT_size a
 rw [implReadVar_rv hk (by rw [sz_app];omega),rv_app ha];rfl
theorem implReadVar_bad {k:Nat} (hk:2 ^ 50≤k) {s:ByteArray} (h:rv 7 (nb s)=none) (hs:s.size≤1099511627776):impl_ReadVar.f k s=some (0,(0,())):=by
 rw [implReadVar_rv hk (by omega),h];rfl
theorem specReadVar_ok {k:Nat} (hk:2 ^ 50≤k) {a:Nat} {t:ByteArray} (ha:a<562949953421312):spec_ReadVar.f k (varT a++t)=some ((a:Int),(((varT a).size:Int),())):=by
 rw [specReadVar_rv hk,rv_app ha];rfl
theorem specReadVar_bad {k:Nat} (hk:2 ^ 50≤k) {s:ByteArray} (h:rv 7 (nb s)=none):spec_ReadVar.f k s=some (0,(0,())):=by
 rw [specReadVar_rv hk,h];rfl
theorem num_ok {k:Nat} (hk:2 ^ 50≤k) {a:Nat} {t:ByteArray} (ha:a<562949953421312) (hs:t.size≤1099511627776):impl_scanner__num.f k (varT a++t,(false,()))=some ((t,(false,())),((a:Int),())):=by
 have h1:=varT_size a
 unfold impl_scanner__num.f impl_scanner__num.t
 rw [implReadVar_ok hk ha hs,o_s]
 simp only [c_f]
 rw [show (((varT a).size:Int)==0)=false from q_f (by omega),c_f,inc_eq (by omega) (by rw [sz_app];omega),n_n,app_tail]
theorem num_bad {k:Nat} (hk:2 ^ 50≤k) {s:ByteArray} (h:rv 7 (nb s)=none) (hs:s.size≤1099511627776):impl_scanner__num.f k (s,(false,()))=some ((s,(true,())),(0,())):=by
 unfold impl_scanner__num.f impl_scanner__num.t
 rw [implReadVar_bad hk h hs,o_s]
 rfl
theorem num_b {k:Nat} (hk:2 ^ 50≤k) {s:ByteArray} (hs:s.size≤1099511627776):impl_scanner__num.f k (s,(true,()))=some ((s,(true,())),(0,())):=by
 unfold impl_scanner__num.f impl_scanner__num.t
 rw [implReadVar_rv hk (show s.size≤_ by omega),o_s]
 rfl
theorem bytes_ok (k:Nat) (u t:ByteArray):impl_scanner__bytes.f k (u++t,(false,())) (u.size:Int)=some ((t,(false,())),(u,())):=by
 unfold impl_scanner__bytes.f impl_scanner__bytes.t
 simp only [c_f]
 rw [decF (by rw [sz_app];omega),c_f,inc_eq (by omega) (by rw [sz_app];omega),inc_eq (by omega) (by rw [sz_app];omega),n_n,app_tail,app_head]
theorem bytes_bad (k:Nat) {s:ByteArray} {n:Int} (h:n > (s.size:Int)):impl_scanner__bytes.f k (s,(false,())) n=some ((s,(true,())),(⟨#[]⟩,())):=by
 unfold impl_scanner__bytes.f impl_scanner__bytes.t
 simp only [c_f]
 rw [decT h,c_t]
theorem bytes_b (k:Nat) (s:ByteArray) (n:Int):impl_scanner__bytes.f k (s,(true,())) n=some ((s,(true,())),(⟨#[]⟩,())):=by
 unfold impl_scanner__bytes.f impl_scanner__bytes.t
 rfl
theorem tx_cases (s:ByteArray):(∃ u t,u.size<562949953421312∧s=varT u.size++(u++t))∨rv 7 (nb s)=none∨(∃ a t,a<562949953421312∧s=varT a++t∧t.size<a):=by
 rcases rv_cases s with ⟨a,t,ha,rfl⟩ | h
 · by_cases c:t.size<a
   · exact .inr (.inr ⟨a,t,ha,rfl,c⟩)
   · have e:=split_at t (n:=a) (by omega)
     have hz:(ByteArray.extract t 0 a).size=a:=by rw [← nb_len,nb_extract,List.length_take,nb_len];omega
     exact .inl ⟨_,_,by rw [hz];exact ha,by rw [hz,← e]⟩
 · exact .inr (.inl h)
theorem text_ok {k:Nat} (hk:2 ^ 50≤k) {u t:ByteArray} (hu:u.size<562949953421312) (hs:(u++t).size≤1099511627776):impl_scanner__text.f k (varT u.size++(u++t),(false,()))=some ((t,(false,())),(u,())):=by
 unfold impl_scanner__text.f impl_scanner__text.t
 rw [num_ok hk hu hs,o_s]
 simp only []
 rw [bytes_ok,o_s]
theorem text_b {k:Nat} (hk:2 ^ 50≤k) {s:ByteArray} (hs:s.size≤1099511627776):impl_scanner__text.f k (s,(true,()))=some ((s,(true,())),(⟨#[]⟩,())):=by
 unfold impl_scanner__text.f impl_scanner__text.t
 rw [num_b hk hs,o_s]
 simp only []
 rw [bytes_b,o_s]
theorem text_bad {k:Nat} (hk:2 ^ 50≤k) {s:ByteArray} (hs:s.size≤1099511627776) (h:rv 7 (nb s)=none∨(∃ a t,a<562949953421312∧s=varT a++t∧t.size<a)):∃ s',s'.size≤1099511627776∧impl_scanner__text.f k (s,(false,()))=some ((s',(true,())),(⟨#[]⟩,())):=by
 unfold impl_scanner__text.f impl_scanner__text.t
 rcases h with h | ⟨a,t,ha,rfl,ht⟩
 · refine ⟨s,hs,?_⟩
   rw [num_bad hk h hs,o_s]
   simp only []
   rw [bytes_b,o_s]
 · have:=varT_size a
   rw [sz_app] at hs
   refine ⟨t,by omega,?_⟩
   rw [num_ok hk ha (by omega),o_s]
   simp only []
   rw [bytes_bad k (by omega),o_s]
theorem l5_ok {k:Nat} (hk:2 ^ 50≤k) {u t:ByteArray} (hu:u.size<562949953421312) (hs:(u++t).size≤1099511627776):spec_l5Text.f k (varT u.size++(u++t))=some (u,(t,(true,()))):=by
 have h1:=varT_size u.size
 have h2:(varT u.size++(u++t)).size=(varT u.size).size+(u.size+t.size):=by rw [sz_app,sz_app]
 rw [sz_app] at hs
 unfold spec_l5Text.f spec_l5Text.t
 rw [specReadVar_ok hk hu,o_s]
 simp only []
 rw [show (((varT u.size).size:Int)==0)=false from q_f (by omega),c_f,w64_eq (by omega) (by omega),decF (by omega),c_f,cast_add,w64_eq (by omega) (by omega),
  inc2_eq (by omega) (by omega) (by omega),inc_eq (by omega) (by omega),n_n,n_n,mid,tail2]
theorem l5_bad {k:Nat} (hk:2 ^ 50≤k) {s:ByteArray} (hs:s.size≤1099511627776) (h:rv 7 (nb s)=none∨(∃ a t,a<562949953421312∧s=varT a++t∧t.size<a)):spec_l5Text.f k s=some (⟨#[]⟩,(⟨#[]⟩,(false,()))):=by
 unfold spec_l5Text.f spec_l5Text.t
 rcases h with h | ⟨a,t,ha,rfl,ht⟩
 · rw [specReadVar_bad hk h,o_s];rfl
 · have:=varT_size a
   rw [sz_app] at hs
   rw [specReadVar_ok hk ha,o_s]
   simp only []
   rw [show (((varT a).size:Int)==0)=false from q_f (by omega),c_f,w64_eq (by rw [sz_app];omega) (by rw [sz_app];omega),decT (by rw [sz_app];omega),c_t]
section
open Classical
variable {α:Type}
noncomputable def undo (ok:α→Prop) (shw:α→ByteArray) (z:α) (s:ByteArray):α × Bool:=if h:∃ r,ok r∧shw r=s then (h.choose,true) else (z,false)
theorem undo_ok {ok:α→Prop} {shw:α→ByteArray} {z:α} {s:ByteArray} {r:α} (h:undo ok shw z s=(r,true)):ok r∧shw r=s:=by
 unfold undo at h
 split at h
 · rename_i q
   obtain rfl:=(Prod.mk.inj h).1
   exact q.choose_spec
 · cases (Prod.mk.inj h).2
theorem undo_no {ok:α→Prop} {shw:α→ByteArray} {z:α} {s:ByteArray} (h:(undo ok shw z s).2=false):undo ok shw z s=(z,false):=by
 unfold undo at h ⊢
 split
 · rename_i q;rw [dif_pos q] at h;cases h
 · rfl
theorem undo_cases (ok:α→Prop) (shw:α→ByteArray) (z:α) (s:ByteArray):(∃ r,ok r∧shw r=s∧undo ok shw z s=(r,true))∨undo ok shw z s=(z,false):=by
 cases h:(undo ok shw z s).2 with
 | false=>exact .inr (undo_no h)
 | true =>
  have e:undo ok shw z s=((undo ok shw z s).1,true):=by rw [← h]
  exact .inl ⟨_,(undo_ok e).1,(undo_ok e).2,e⟩
theorem undo_of {ok:α→Prop} {shw:α→ByteArray} {z:α} {s:ByteArray} {f:Option (α × Bool × Unit)} (h1:∀ r,ok r→shw r=s→f=some (r,(true,())))
 (h2:(∃ r,ok r∧shw r=s∧f=some (r,(true,())))∨f=some (z,(false,()))):f=some ((undo ok shw z s).1,((undo ok shw z s).2,())):=by
 rcases undo_cases ok shw z s with ⟨r,a,b,e⟩ | e
 · rw [e,h1 r a b]
 · rcases h2 with ⟨r,a,b,_⟩ | h2
   · unfold undo at e
     rw [dif_pos ⟨r,a,b⟩] at e
     cases (Prod.mk.inj e).2
   · rw [e,h2]
theorem undo_eq {ok:α→Prop} {shw:α→ByteArray} {z:α} {r:α} (hi:∀ a b,ok a→ok b→shw a=shw b→a=b) (h:ok r):undo ok shw z (shw r)=(r,true):=by
 rcases undo_cases ok shw z (shw r) with ⟨q,a,b,e⟩ | e
 · rw [e,hi q r a h b]
 · unfold undo at e
   rw [dif_pos ⟨r,h,rfl⟩] at e
   cases (Prod.mk.inj e).2
end
abbrev zRec:Ty.den TRec:=(0,(0,(ByteArray.empty,(ByteArray.empty,(0,(0,()))))))
theorem show_form {a:Ty.den TRec} (h:recOk a=true) :
 (∃ (b:Nat) (kd:Nat),(kd=1∨kd=4)∧b≤1000000∧a=((kd:Int),((b:Int),(a.2.2.1,(a.2.2.2.1,(0,(0,()))))))∧a.2.2.1.size≤8∧a.2.2.2.1.size≤24 ∧
  showRec a=varT kd++(varT b++(varT a.2.2.1.size++(a.2.2.1++(varT a.2.2.2.1.size++(a.2.2.2.1++⟨#[]⟩)))))) ∨
 (∃ (b:Nat),b≤1000000∧a=(2,((b:Int),(a.2.2.1,(ByteArray.empty,(0,(0,()))))))∧a.2.2.1.size≤8∧showRec a=varT 2++(varT b++(varT a.2.2.1.size++(a.2.2.1++⟨#[]⟩)))) ∨
 (∃ (b kd c x:Nat),(kd=3∨kd=5)∧b≤1000000∧c≤20∧x<4294967296∧a=((kd:Int),((b:Int),(ByteArray.empty,(ByteArray.empty,((c:Int),((x:Int),()))))))∧showRec a=varT kd++(varT b++(varT c++(fixT x++⟨#[]⟩)))):=by
 have hh:=h
 obtain ⟨kd,b,key,val,c,x,u⟩:=a
 change Int at kd b c x
 change ByteArray at key val
 rcases recOk_i h with ⟨hc,h⟩ | ⟨hc,h⟩ | ⟨hc,h⟩
 · obtain ⟨z1,z2,z3,z4,z5,z6,z7⟩:=h
   subst z4;subst z5
   obtain ⟨b,rfl⟩:=Int.eq_ofNat_of_zero_le (show 0≤b by omega)
   left
   refine ⟨b,kd.toNat,by omega,by omega,?_,z2,z3,?_⟩
   · rw [show ((kd.toNat:Nat):Int)=kd by omega]
   · unfold showRec
     rw [if_pos hh,if_pos hc]
     simp only [textB]
     rw [varB_nat (by omega),varB_nat (by omega),varB_nat (by omega),nil_app,app_assoc,show varB kd=varT kd.toNat by rw [← varB_nat (show kd.toNat<562949953421312 by omega)];congr 1;omega]
 · obtain ⟨z1,z2,z3,z4,z5,z6,z7⟩:=h
   subst z3;subst z4;subst z5;subst hc
   obtain ⟨b,rfl⟩:=Int.eq_ofNat_of_zero_le (show 0≤b by omega)
   right;left
   refine ⟨b,by omega,rfl,z2,?_⟩
   unfold showRec
   rw [if_pos hh,if_neg (show ¬ ((2:Int)=1∨(2:Int)=4) by decide),if_pos rfl]
   simp only [textB]
   rw [varB_nat (by omega),varB_nat (by omega),nil_app]
   rfl
 · obtain ⟨z1,z2,z3,z4,z5,z6,z7,z8⟩:=h
   subst z1;subst z2
   obtain ⟨b,rfl⟩:=Int.eq_ofNat_of_zero_le (show 0≤b by omega)
   obtain ⟨c,rfl⟩:=Int.eq_ofNat_of_zero_le (show 0≤c by omega)
   obtain ⟨x,rfl⟩:=Int.eq_ofNat_of_zero_le (show 0≤x by omega)
   right;right
   refine ⟨b,kd.toNat,c,x,by omega,by omega,by omega,by omega,?_,?_⟩
   · rw [show ((kd.toNat:Nat):Int)=kd by omega];rfl
   · unfold showRec
     rw [if_pos hh,if_neg (show ¬ (kd=1∨kd=4) by omega),if_neg (show ¬ kd=2 by omega)]
     simp only []
     rw [varB_nat (by omega),varB_nat (by omega),nil_app,show varB kd=varT kd.toNat by rw [← varB_nat (show kd.toNat<562949953421312 by omega)];congr 1;omega]
     rfl
theorem ok_of_show {a:Ty.den TRec} {s:ByteArray} (h:showRec a=s) (hs:s≠⟨#[]⟩):recOk a=true:=by
 cases c:recOk a with
 | true=>rfl
 | false=>unfold showRec at h;rw [c] at h;exact absurd h.symm hs
theorem kb1 {kd:Nat} (h:kd≠1):((kd:Int)==1)=false:=q_f (by omega)
theorem kb2 {kd:Nat} (h:kd≠2):((kd:Int)==2)=false:=q_f (by omega)
theorem kb4 {kd:Nat} (h:kd≠4):((kd:Int)==4)=false:=q_f (by omega)
theorem k11:(((1:Nat):Int)==1)=true:=rfl
theorem k41:(((4:Nat):Int)==1)=false:=rfl
theorem k44:(((4:Nat):Int)==4)=true:=rfl
theorem k21:(((2:Nat):Int)==1)=false:=rfl
theorem k22:(((2:Nat):Int)==2)=true:=rfl
theorem k24:(((2:Nat):Int)==4)=false:=rfl
theorem k01:((0:Int)==1)=false:=rfl
theorem k04:((0:Int)==4)=false:=rfl
theorem k02:((0:Int)==2)=false:=rfl
theorem e0:(⟨#[]⟩:ByteArray).size=0:=rfl
theorem show_mk1 {kd b:Nat} {key val:ByteArray} (hb:b<562949953421312) (hc:kd=1∨kd=4) (h:recOk ((kd:Int),((b:Int),(key,(val,(0,(0,()))))))=true) :
 showRec ((kd:Int),((b:Int),(key,(val,(0,(0,()))))))=varT kd++(varT b++(varT key.size++(key++(varT val.size++(val++⟨#[]⟩))))):=by
 rcases recOk_i h with ⟨_,h1⟩ | ⟨h0,_⟩ | ⟨h0,_⟩
 · unfold showRec
   rw [if_pos h,if_pos (show ((kd:Int)=1∨(kd:Int)=4) by omega)]
   simp only [textB]
   rw [varB_nat (by omega),varB_nat hb,varB_nat (by omega),varB_nat (by omega),nil_app,app_assoc]
 · omega
 · omega
theorem show_mk2 {b:Nat} {key:ByteArray} (hb:b<562949953421312) (h:recOk (((2:Nat):Int),((b:Int),(key,(ByteArray.empty,(0,(0,()))))))=true) :
 showRec (((2:Nat):Int),((b:Int),(key,(ByteArray.empty,(0,(0,()))))))=varT 2++(varT b++(varT key.size++(key++⟨#[]⟩))):=by
 rcases recOk_i h with ⟨h0,_⟩ | ⟨_,h1⟩ | ⟨h0,_⟩
 · omega
 · unfold showRec
   rw [if_pos h,if_neg (show ¬ (((2:Nat):Int)=1∨((2:Nat):Int)=4) by decide),if_pos (show ((2:Nat):Int)=2 from rfl)]
   simp only [textB]
   rw [varB_nat (by omega),varB_nat hb,varB_nat (by omega),nil_app]
 · omega
theorem show_mk3 {kd b c x:Nat} (hb:b<562949953421312) (hx:c<562949953421312) (hc:kd≠1∧kd≠2∧kd≠4) (h:recOk ((kd:Int),((b:Int),(ByteArray.empty,(ByteArray.empty,((c:Int),((x:Int),()))))))=true) :
 showRec ((kd:Int),((b:Int),(ByteArray.empty,(ByteArray.empty,((c:Int),((x:Int),()))))))=varT kd++(varT b++(varT c++(fixT x++⟨#[]⟩))):=by
 rcases recOk_i h with ⟨h0,_⟩ | ⟨h0,_⟩ | ⟨_,h1⟩
 · omega
 · omega
 · unfold showRec
   rw [if_pos h,if_neg (show ¬ ((kd:Int)=1∨(kd:Int)=4) by omega),if_neg (show ¬ (kd:Int)=2 by omega)]
   simp only []
   have hk5:kd≤5:=by omega
   rw [varB_nat (by omega),varB_nat hb,varB_nat hx,nil_app]
   rfl
theorem implReadRec_1 {k:Nat} (hk:2 ^ 50≤k) {a:Ty.den TRec} (h:recOk a=true):impl_ReadRec.f k (showRec a)=some (a,(true,())):=by
 unfold impl_ReadRec.f impl_ReadRec.t
 rcases show_form h with ⟨b,kd,hc,hb,ha,z1,z2,e⟩ | ⟨b,hb,ha,z1,e⟩ | ⟨b,kd,c,x,hc,hb,z1,z2,ha,e⟩
 · rw [e]
   rw [ha] at h
   conv=>rhs;rw [ha]
   have v1:=varT_size kd
   have v2:=varT_size b
   have v3:=varT_size a.2.2.1.size
   have v4:=varT_size a.2.2.2.1.size
   rcases hc with rfl | rfl
   · simp (disch:=first | omega | (simp only [sz_app,e0];omega)) only [num_ok hk,text_ok hk,o_s,c_t,c_f,k11,seq_refl,n_t,implRecOk_eq,h]
   · simp (disch:=first | omega | (simp only [sz_app,e0];omega)) only [num_ok hk,text_ok hk,o_s,c_t,c_f,k41,k44,seq_refl,n_t,implRecOk_eq,h]
 · rw [e]
   rw [ha] at h
   conv=>rhs;rw [ha]
   have v1:=varT_size 2
   have v2:=varT_size b
   have v3:=varT_size a.2.2.1.size
   simp (disch:=first | omega | (simp only [sz_app,e0];omega)) only [num_ok hk,text_ok hk,o_s,c_t,c_f,k21,k22,k24,seq_refl,n_t,implRecOk_eq]
   rw [show ((2:Nat):Int)=2 from rfl,h]
   rfl
 · rw [e,ha]
   rw [ha] at h
   have v1:=varT_size kd
   have v2:=varT_size b
   have v3:=varT_size c
   have v4:=fixT_size x
   have hby:=bytes_ok k (fixT x) ⟨#[]⟩
   rw [fixT_size] at hby
   have hrf:=implReadFixed_ok hk z2 ⟨#[]⟩
   rw [nil_app] at hrf
   rw [show (((4:Nat)):Int)=4 from rfl] at hby
   simp (disch:=first | omega | (simp only [sz_app,e0];omega)) only [num_ok hk,hby,hrf,o_s,c_t,c_f,kb1,kb2,kb4,seq_refl,n_t,implRecOk_eq,h]
theorem implReadRec_any {k:Nat} (hk:2 ^ 50≤k) {s:ByteArray} (hs:s.size≤1099511627776) :
 (∃ r,recOk r=true∧showRec r=s∧impl_ReadRec.f k s=some (r,(true,())))∨impl_ReadRec.f k s=some (zRec,(false,())):=by
 have rf0:=implReadFixed_bad k (s:=⟨#[]⟩) (by decide)
 unfold impl_ReadRec.f impl_ReadRec.t
 rcases rv_cases s with ⟨kd,t,hkd,rfl⟩ | h0
 case inr =>
  right
  simp (disch:=first | omega | (simp only [sz_app,e0];omega)) only [num_bad hk h0,num_b hk,bytes_b k,rf0,o_s,c_t,c_f,k01,k02,k04]
 have v1:=varT_size kd
 rw [sz_app] at hs
 rcases rv_cases t with ⟨b,t2,hb,rfl⟩ | h1
 case inr =>
  right
  by_cases c1:kd=1
  · subst c1
    simp (disch:=first | omega | (simp only [sz_app,e0];omega)) only [num_ok hk,num_bad hk h1,text_b hk,o_s,c_t,c_f,k11]
  by_cases c4:kd=4
  · subst c4
    simp (disch:=first | omega | (simp only [sz_app,e0];omega)) only [num_ok hk,num_bad hk h1,text_b hk,o_s,c_t,c_f,k41,k44]
  by_cases c2:kd=2
  · subst c2
    simp (disch:=first | omega | (simp only [sz_app,e0];omega)) only [num_ok hk,num_bad hk h1,text_b hk,o_s,c_t,c_f,k21,k24,k22]
  · simp (disch:=first | omega | (simp only [sz_app,e0];omega)) only [num_ok hk,num_bad hk h1,num_b hk,bytes_b k,rf0,o_s,c_t,c_f,kb1 c1,kb2 c2,kb4 c4]
 have v2:=varT_size b
 rw [sz_app] at hs
 by_cases c2:kd=2
 · subst c2
   rcases tx_cases t2 with ⟨key,t3,hu,rfl⟩ | bad
   case inr =>
    right
    obtain ⟨s',hs',e⟩:=text_bad hk (by omega) bad
    simp (disch:=first | omega | (simp only [sz_app,e0];omega)) only [num_ok hk,e,o_s,c_t,c_f,k21,k24,k22]
   have v3:=varT_size key.size
   simp only [sz_app] at hs
   simp (disch:=first | omega | (simp only [sz_app,e0];omega)) only [num_ok hk,text_ok hk,o_s,c_t,c_f,k21,k24,k22]
   by_cases c:t3=⟨#[]⟩
   · subst c
     simp only [seq_refl,n_t,c_f,implRecOk_eq,o_s]
     cases hr:recOk (((2:Nat):Int),((b:Int),(key,(ByteArray.empty,(0,(0,())))))) with
     | true=>exact .inl ⟨_,hr,show_mk2 hb hr,rfl⟩
     | false=>exact .inr rfl
   · rw [seqF c]
     exact .inr rfl
 by_cases c1:kd=1∨kd=4
 · have hcc:(bif ((kd:Int)==1) then true else ((kd:Int)==4))=true:=by rcases c1 with rfl | rfl <;> rfl
   rcases tx_cases t2 with ⟨key,t3,hu,rfl⟩ | bad
   case inr =>
    right
    obtain ⟨s',hs',e⟩:=text_bad hk (by omega) bad
    rcases c1 with rfl | rfl
    · simp (disch:=first | omega | (simp only [sz_app,e0];omega)) only [num_ok hk,e,text_b hk hs',o_s,c_t,c_f,k11]
    · simp (disch:=first | omega | (simp only [sz_app,e0];omega)) only [num_ok hk,e,text_b hk hs',o_s,c_t,c_f,k41,k44]
   have v3:=varT_size key.size
   simp only [sz_app] at hs
   rcases tx_cases t3 with ⟨val,t4,hv,rfl⟩ | bad
   case inr =>
    right
    obtain ⟨s',hs',e⟩:=text_bad hk (by omega) bad
    rcases c1 with rfl | rfl
    · simp (disch:=first | omega | (simp only [sz_app,e0];omega)) only [num_ok hk,text_ok hk,e,o_s,c_t,c_f,k11]
    · simp (disch:=first | omega | (simp only [sz_app,e0];omega)) only [num_ok hk,text_ok hk,e,o_s,c_t,c_f,k41,k44]
   have v4:=varT_size val.size
   simp only [sz_app] at hs
   have fin:(bif !seq t4 ⟨#[]⟩ then some (zRec,(false,())) else bif !recOk ((kd:Int),((b:Int),(key,(val,(0,(0,())))))) then some (zRec,(false,())) else some (((kd:Int),((b:Int),(key,(val,(0,(0,())))))),(true,())))=impl_ReadRec.t k (varT kd++(varT b++(varT key.size++(key++(varT val.size++(val++t4)))))):=by
    unfold impl_ReadRec.t
    rcases c1 with rfl | rfl
    · simp (disch:=first | omega | (simp only [sz_app,e0];omega)) only [num_ok hk,text_ok hk,o_s,c_t,c_f,k11,implRecOk_eq]
    · simp (disch:=first | omega | (simp only [sz_app,e0];omega)) only [num_ok hk,text_ok hk,o_s,c_t,c_f,k41,k44,implRecOk_eq]
   change (∃ r,recOk r=true∧showRec r=_∧impl_ReadRec.t k _=some (r,(true,())))∨impl_ReadRec.t k _=some (zRec,(false,()))
   rw [← fin]
   by_cases c:t4=⟨#[]⟩
   · subst c
     simp only [seq_refl,n_t,c_f]
     cases hr:recOk ((kd:Int),((b:Int),(key,(val,(0,(0,())))))) with
     | true=>exact .inl ⟨_,hr,show_mk1 hb c1 hr,rfl⟩
     | false=>exact .inr rfl
   · rw [seqF c]
     exact .inr rfl
 have d1:kd≠1:=fun q=>c1 (.inl q)
 have d4:kd≠4:=fun q=>c1 (.inr q)
 rcases rv_cases t2 with ⟨c,t3,hc,rfl⟩ | h2
 case inr =>
  right
  simp (disch:=first | omega | (simp only [sz_app,e0];omega)) only [num_ok hk,num_bad hk h2,bytes_b k,rf0,o_s,c_t,c_f,kb1 d1,kb2 c2,kb4 d4]
 have v3:=varT_size c
 rw [sz_app] at hs
 rcases fx_cases t3 with ⟨x,t4,hx,rfl⟩ | h3
 case inr =>
  right
  have e:=bytes_bad k (s:=t3) (n:=4) (by omega)
  simp (disch:=first | omega | (simp only [sz_app,e0];omega)) only [num_ok hk,e,rf0,o_s,c_t,c_f,kb1 d1,kb2 c2,kb4 d4]
 rw [fx_sz] at hs
 have hby:=bytes_ok k (fixT x) t4
 rw [fixT_size,show (((4:Nat)):Int)=4 from rfl] at hby
 have hrf:=implReadFixed_ok hk hx ⟨#[]⟩
 rw [nil_app] at hrf
 simp (disch:=first | omega | (simp only [sz_app,e0,fixT_size];omega)) only [num_ok hk,hby,hrf,o_s,c_f,kb1 d1,kb2 c2,kb4 d4,implRecOk_eq]
 by_cases cc:t4=⟨#[]⟩
 · subst cc
   simp only [seq_refl,n_t,c_f]
   cases hr:recOk ((kd:Int),((b:Int),(ByteArray.empty,(ByteArray.empty,((c:Int),((x:Int),())))))) with
   | true=>exact .inl ⟨_,hr,show_mk3 hb hc ⟨d1,c2,d4⟩ hr,rfl⟩
   | false=>exact .inr rfl
 · rw [seqF cc]
   exact .inr rfl
end Go.Proofs.YtmakghhmpgfboaaGreat.G
namespace Go.Proofs.YtmakghhmpgfboaaGreat.G
open Go.V
theorem toNat_add (a b:Nat):Int.toNat ((a:Int)+(b:Int))=a+b:=by omega
theorem vz (a:Nat):(((varT a).size:Int)==0)=false:=q_f (by have:=varT_size a;omega)
theorem var_ne (a:Nat) (t:ByteArray):varT a++t≠⟨#[]⟩:=fun h=>by
 have:=congrArg ByteArray.size h
 rw [sz_app,e0] at this
 have:=varT_size a
 omega
theorem spec_end {r:Ty.den TRec} {s:ByteArray} (hs:s≠⟨#[]⟩) :
 (∃ r',recOk r'=true∧showRec r'=s∧(bif !seq (showRec r) s then some (zRec,(false,())) else bif seq s ⟨#[]⟩ then some (zRec,(false,())) else some (r,(true,())))=some (r',(true,()))) ∨
 (bif !seq (showRec r) s then some (zRec,(false,())) else bif seq s ⟨#[]⟩ then some (zRec,(false,())) else some (r,(true,())))=some (zRec,(false,())):=by
 by_cases c:showRec r=s
 · exact .inl ⟨r,ok_of_show c hs,c,by rw [seqT c,seqF hs];rfl⟩
 · rw [seqF c];exact .inr rfl
theorem specReadRec_1 {k:Nat} (hk:2 ^ 50≤k) {a:Ty.den TRec} (h:recOk a=true):spec_ReadRec.f k (showRec a)=some (a,(true,())):=by
 unfold spec_ReadRec.f spec_ReadRec.t
 rcases show_form h with ⟨b,kd,hc,hb,ha,z1,z2,e⟩ | ⟨b,hb,ha,z1,e⟩ | ⟨b,kd,c,x,hc,hb,z1,z2,ha,e⟩
 · have hs:showRec ((kd:Int),((b:Int),(a.2.2.1,(a.2.2.2.1,(0,(0,()))))))=varT kd++(varT b++(varT a.2.2.1.size++(a.2.2.1++(varT a.2.2.2.1.size++(a.2.2.2.1++⟨#[]⟩))))):=by rw [← ha];exact e
   rw [e]
   conv=>rhs;rw [ha]
   have v1:=varT_size kd
   have v2:=varT_size b
   have v3:=varT_size a.2.2.1.size
   have v4:=varT_size a.2.2.2.1.size
   rcases hc with rfl | rfl
   · simp (disch:=first | omega | (simp only [sz_app,e0];omega)) only [specReadVar_ok hk,l5_ok hk,o_s,n_n,app_tail,vz,c_t,c_f,w64_eq,inc_eq,toNat_add,tail2,k11,specShowRec_eq hk,hs,seq_refl,n_t,seqF (var_ne _ _)]
   · simp (disch:=first | omega | (simp only [sz_app,e0];omega)) only [specReadVar_ok hk,l5_ok hk,o_s,n_n,app_tail,vz,c_t,c_f,w64_eq,inc_eq,toNat_add,tail2,k41,k44,specShowRec_eq hk,hs,seq_refl,n_t,seqF (var_ne _ _)]
 · have hs:showRec (((2:Nat):Int),((b:Int),(a.2.2.1,(ByteArray.empty,(0,(0,()))))))=varT 2++(varT b++(varT a.2.2.1.size++(a.2.2.1++⟨#[]⟩))):=by rw [show ((2:Nat):Int)=2 from rfl,← ha];exact e
   rw [e]
   conv=>rhs;rw [ha]
   have v1:=varT_size 2
   have v2:=varT_size b
   have v3:=varT_size a.2.2.1.size
   simp (disch:=first | omega | (simp only [sz_app,e0];omega)) only [specReadVar_ok hk,l5_ok hk,o_s,n_n,app_tail,vz,c_t,c_f,w64_eq,inc_eq,toNat_add,tail2,k21,k24,k22,specShowRec_eq hk,hs,seq_refl,n_t,seqF (var_ne _ _)]
   rfl
 · have hs:showRec ((kd:Int),((b:Int),(ByteArray.empty,(ByteArray.empty,((c:Int),((x:Int),()))))))=varT kd++(varT b++(varT c++(fixT x++⟨#[]⟩))):=by rw [← ha];exact e
   rw [e,ha]
   have v1:=varT_size kd
   have v2:=varT_size b
   have v3:=varT_size c
   have v4:=fixT_size x
   simp (disch:=first | omega | (simp only [sz_app,e0];omega)) only [specReadVar_ok hk,specReadFixed_ok hk z2,o_s,n_n,app_tail,vz,c_t,c_f,w64_eq,inc_eq,toNat_add,tail2,kb1,kb2,kb4,specShowRec_eq hk,hs,seq_refl,n_t,seqF (var_ne _ _)]
theorem specReadRec_any {k:Nat} (hk:2 ^ 50≤k) {s:ByteArray} (hs:s.size≤1099511627776) :
 (∃ r,recOk r=true∧showRec r=s∧spec_ReadRec.f k s=some (r,(true,())))∨spec_ReadRec.f k s=some (zRec,(false,())):=by
 unfold spec_ReadRec.f spec_ReadRec.t
 rcases rv_cases s with ⟨kd,t,hkd,rfl⟩ | h0
 case inr =>
  right
  rw [specReadVar_bad hk h0,o_s]
  simp only []
  rw [inc_eq (by omega) (by omega),specReadVar_rv hk,o_s]
  rfl
 have v1:=varT_size kd
 rw [sz_app] at hs
 rcases rv_cases t with ⟨b,t2,hb,rfl⟩ | h1
 case inr =>
  right
  simp (disch:=first | omega | (simp only [sz_app,e0];omega)) only [specReadVar_ok hk,specReadVar_bad hk h1,o_s,n_n,app_tail,vz,c_t,c_f,w64_eq,inc_eq,show (((0:Int)==0))=true from rfl]
 have v2:=varT_size b
 rw [sz_app] at hs
 by_cases c2:kd=2
 · subst c2
   rcases tx_cases t2 with ⟨key,t3,hu,rfl⟩ | bad
   · simp only [sz_app] at hs
     simp (disch:=first | omega | (simp only [sz_app,e0];omega)) only [specReadVar_ok hk,l5_ok hk,o_s,n_n,app_tail,vz,c_t,c_f,w64_eq,inc_eq,toNat_add,tail2,k21,k24,k22,specShowRec_eq hk]
     exact spec_end (var_ne _ _)
   · have hb5:=l5_bad hk (by omega) bad
     simp (disch:=first | omega | (simp only [sz_app,e0];omega)) only [specReadVar_ok hk,hb5,o_s,n_n,app_tail,vz,c_t,c_f,w64_eq,inc_eq,toNat_add,tail2,k21,k24,k22,specShowRec_eq hk]
     exact spec_end (var_ne _ _)
 by_cases c1:kd=1∨kd=4
 · have em:spec_l5Text.f k ⟨#[]⟩=some (⟨#[]⟩,(⟨#[]⟩,(false,()))):=l5_bad hk (by decide) (.inl rfl)
   obtain ⟨u,l,bb,hl,e⟩:∃ u l bb,l.size≤1099511627776∧spec_l5Text.f k t2=some (u,(l,(bb,()))):=by
    rcases tx_cases t2 with ⟨key,t3,hu,rfl⟩ | bad
    · simp only [sz_app] at hs
      exact ⟨_,_,_,by omega,l5_ok hk hu (by simp only [sz_app];omega)⟩
    · exact ⟨_,_,_,by decide,l5_bad hk (by omega) bad⟩
   obtain ⟨u2,l2,bb2,e2⟩:∃ u l' bb,spec_l5Text.f k l=some (u,(l',(bb,()))):=by
    rcases tx_cases l with ⟨key,t3,hu,rfl⟩ | bad
    · exact ⟨_,_,_,l5_ok hk hu (by simp only [sz_app] at hl ⊢;omega)⟩
    · exact ⟨_,_,_,l5_bad hk hl bad⟩
   rcases c1 with rfl | rfl
   · simp (disch:=first | omega | (simp only [sz_app,e0];omega)) only [specReadVar_ok hk,e,e2,o_s,n_n,app_tail,vz,c_t,c_f,w64_eq,inc_eq,toNat_add,tail2,k11,specShowRec_eq hk]
     exact spec_end (var_ne _ _)
   · simp (disch:=first | omega | (simp only [sz_app,e0];omega)) only [specReadVar_ok hk,e,e2,o_s,n_n,app_tail,vz,c_t,c_f,w64_eq,inc_eq,toNat_add,tail2,k41,k44,specShowRec_eq hk]
     exact spec_end (var_ne _ _)
 have d1:kd≠1:=fun q=>c1 (.inl q)
 have d4:kd≠4:=fun q=>c1 (.inr q)
 have rf:∀ u:ByteArray,∃ z zb,spec_ReadFixed.f k u 4=some (z,(zb,())):=fun u=>by
  rcases fx_cases u with ⟨x,t,hx,rfl⟩ | q
  · exact ⟨_,_,specReadFixed_ok hk hx t⟩
  · exact ⟨_,_,specReadFixed_bad k q⟩
 rcases rv_cases t2 with ⟨c,t3,hc,rfl⟩ | h2
 · have v3:=varT_size c
   rw [sz_app] at hs
   obtain ⟨z,zb,e⟩:=rf t3
   simp (disch:=first | omega | (simp only [sz_app,e0];omega)) only [specReadVar_ok hk,e,o_s,n_n,app_tail,vz,c_t,c_f,w64_eq,inc_eq,toNat_add,tail2,kb1 d1,kb2 c2,kb4 d4,specShowRec_eq hk]
   exact spec_end (var_ne _ _)
 · obtain ⟨z,zb,e⟩:=rf (ByteArray.extract t2 (Int.toNat 0) t2.size)
   simp (disch:=first | omega | (simp only [sz_app,e0];omega)) only [specReadVar_ok hk,specReadVar_bad hk h2,e,o_s,n_n,app_tail,vz,c_t,c_f,w64_eq,inc_eq,toNat_add,tail2,kb1 d1,kb2 c2,kb4 d4,specShowRec_eq hk]
   exact spec_end (var_ne _ _)
noncomputable def readRecM (s:ByteArray):Ty.den TRec × Bool:=undo (fun r=>recOk r=true) showRec zRec s
theorem implReadRec_eq {k:Nat} (hk:2 ^ 50≤k) {s:ByteArray} (hs:s.size≤1099511627776):impl_ReadRec.f k s=some ((readRecM s).1,((readRecM s).2,())) :=
 undo_of (fun r h1 h2=>by rw [← h2];exact implReadRec_1 hk h1) (implReadRec_any hk hs)
theorem specReadRec_eq {k:Nat} (hk:2 ^ 50≤k) {s:ByteArray} (hs:s.size≤1099511627776):spec_ReadRec.f k s=some ((readRecM s).1,((readRecM s).2,())) :=
 undo_of (fun r h1 h2=>by rw [← h2];exact specReadRec_1 hk h1) (specReadRec_any hk hs)
theorem frame_form {t:ByteArray} (h:t.size≤200):∃ x,x<4294967296∧frameM t=fixT x++(varT t.size++t):=by
 have:=crcM_in (textB t)
 refine ⟨(crcM (textB t)).toNat,by omega,?_⟩
 unfold frameM fix4
 rw [if_neg (by omega)]
 unfold textB
 rw [varB_nat (by omega)]
theorem frame_inj {t u s r:ByteArray} (ht:t.size≤200) (hu:u.size≤200) (h:frameM t++s=frameM u++r):t=u∧s=r:=by
 obtain ⟨x,hx,e⟩:=frame_form ht
 obtain ⟨y,hy,f⟩:=frame_form hu
 rw [e,f,app_assoc,app_assoc,app_assoc,app_assoc] at h
 have h2:=(app_inj h rfl).2
 obtain ⟨h3,h4⟩:=varT_inj (by omega) (by omega) h2
 exact app_inj h4 h3
theorem tail4 (x:Nat) (u:ByteArray):ByteArray.extract (fixT x++u) 4 (fixT x++u).size=u:=app_tail (fixT x) u
theorem mid4 (x:Nat) (v t r:ByteArray):ByteArray.extract (fixT x++(v++(t++r))) (4+v.size) (4+v.size+t.size)=t:=by
 have:=mid (fixT x++v) t r
 rw [sz_app,fixT_size,app_assoc] at this
 exact this
theorem head4 (x:Nat) (v t r:ByteArray):ByteArray.extract (fixT x++(v++(t++r))) 0 (4+v.size+t.size)=fixT x++(v++t):=by
 have:=app_head (fixT x++(v++t)) r
 rw [sz_app,sz_app,fixT_size,app_assoc,app_assoc,← Nat.add_assoc] at this
 exact this
theorem c4 (a:Nat):(4:Int)+(a:Int)=((4+a:Nat):Int):=rfl
theorem implUnframe_at {k:Nat} (hk:2 ^ 50≤k) {x:Nat} {t r:ByteArray} (ht:t.size≤200) (hr:t.size+r.size≤1099511627776) :
 impl_Unframe.f k (fixT x++(varT t.size++(t++r)))=bif !seq (frameM t) (fixT x++(varT t.size++t)) then some (⟨#[]⟩,(0,())) else some (t,(((4+(varT t.size).size+t.size:Nat):Int),())):=by
 have v1:=varT_size t.size
 have z1:(fixT x++(varT t.size++(t++r))).size=4+((varT t.size).size+(t.size+r.size)):=by rw [fx_sz,sz_app,sz_app]
 unfold impl_Unframe.f impl_Unframe.t
 rw [decF (by omega),c_f,inc_eq (by omega) (by omega),tail4,implReadVar_ok hk (by omega) (by rw [sz_app];omega),o_s]
 simp only [vz,c_f]
 rw [decF (by omega),c_f,w64_eq (n:=((fixT x++(varT t.size++(t++r))).size:Int)-4) (by omega) (by omega),w64_eq (n:=((fixT x++(varT t.size++(t++r))).size:Int)-4-_) (by omega) (by omega),decF (by omega),c_f,
  c4,w64_eq (by omega) (by omega),cast_add,w64_eq (by omega) (by omega),inc2_eq (by omega) (by omega) (by omega),n_n,n_n,mid4,implFrame_eq hk,o_s,inc_eq (by omega) (by omega),head4]
theorem specUnframe_at {k:Nat} (hk:2 ^ 50≤k) {x:Nat} {t r:ByteArray} (ht:t.size≤200) (hr:t.size+r.size≤1099511627776) :
 spec_Unframe.f k (fixT x++(varT t.size++(t++r)))=bif !seq (frameM t) (fixT x++(varT t.size++t)) then some (⟨#[]⟩,(0,())) else some (t,(((4+(varT t.size).size+t.size:Nat):Int),())):=by
 have v1:=varT_size t.size
 have z1:(fixT x++(varT t.size++(t++r))).size=4+((varT t.size).size+(t.size+r.size)):=by rw [fx_sz,sz_app,sz_app]
 unfold spec_Unframe.f spec_Unframe.t
 rw [decF (by omega),c_f,inc_eq (by omega) (by omega),tail4,specReadVar_ok hk (by omega),o_s]
 simp only [vz,c_f]
 rw [decF (by omega),c_f,w64_eq (n:=((fixT x++(varT t.size++(t++r))).size:Int)-4) (by omega) (by omega),w64_eq (n:=((fixT x++(varT t.size++(t++r))).size:Int)-4-_) (by omega) (by omega),decF (by omega),c_f,
  c4,w64_eq (by omega) (by omega),cast_add,w64_eq (by omega) (by omega),inc2_eq (by omega) (by omega) (by omega),n_n,n_n,mid4,specFrame_eq hk,inc_eq (by omega) (by omega),o_s,head4,
  show seq (fixT x++(varT t.size++t)) (frameM t)=seq (frameM t) (fixT x++(varT t.size++t)) by rw [seq_dec,seq_dec];exact decide_eq_decide.2 ⟨Eq.symm,Eq.symm⟩]
theorem un_cases (s:ByteArray) (hs:s.size≤1099511627776):(∃ x t r,x<4294967296∧t.size≤200∧t.size+r.size≤1099511627776∧s=fixT x++(varT t.size++(t++r)))∨s.size<5∨(∃ x u,x<4294967296∧s=fixT x++u∧1≤u.size∧rv 7 (nb u)=none) ∨
 (∃ x a u,x<4294967296∧a<562949953421312∧s=fixT x++(varT a++u)∧(200<a∨u.size<a)):=by
 rcases fx_cases s with ⟨x,u,hx,rfl⟩ | h
 · rw [fx_sz] at hs
   rcases rv_cases u with ⟨a,v,ha,rfl⟩ | h
   · rw [sz_app] at hs
     by_cases c:200<a∨v.size<a
     · exact .inr (.inr (.inr ⟨x,a,v,hx,ha,rfl,c⟩))
     · left
       have e:=split_at v (n:=a) (by omega)
       have hz:(ByteArray.extract v 0 a).size=a:=by rw [← nb_len,nb_extract,List.length_take,nb_len];omega
       refine ⟨x,ByteArray.extract v 0 a,ByteArray.extract v a v.size,hx,by omega,?_,by rw [hz,← e]⟩
       have:=congrArg ByteArray.size e
       rw [sz_app] at this
       omega
   · by_cases c:1≤u.size
     · exact .inr (.inr (.inl ⟨x,u,hx,rfl,c,h⟩))
     · exact .inr (.inl (by rw [fx_sz];omega))
 · exact .inr (.inl (by omega))
theorem implUnframe_bad {k:Nat} (hk:2 ^ 50≤k) {s:ByteArray} (hs:s.size≤1099511627776) (h:s.size<5∨(∃ x u,x<4294967296∧s=fixT x++u∧1≤u.size∧rv 7 (nb u)=none) ∨
 (∃ x a u,x<4294967296∧a<562949953421312∧s=fixT x++(varT a++u)∧(200<a∨u.size<a))):impl_Unframe.f k s=some (⟨#[]⟩,(0,())):=by
 unfold impl_Unframe.f impl_Unframe.t
 rcases h with h | ⟨x,u,hx,rfl,hu,h⟩ | ⟨x,a,u,hx,ha,rfl,h⟩
 · by_cases c:s.size<4
   · rw [decT (by omega),c_t]
   · have e:ByteArray.extract s 4 s.size=⟨#[]⟩:=nb_inj (by rw [ext_tail,List.drop_eq_nil_of_le (by rw [nb_len];omega)];rfl)
     rw [decF (by omega),c_f,inc_eq (by omega) (by omega),e,implReadVar_bad hk rfl (by decide),o_s]
     rfl
 · rw [fx_sz] at hs
   rw [decF (by rw [fx_sz];omega),c_f,inc_eq (by omega) (by rw [fx_sz];omega),tail4,implReadVar_bad hk h (by omega),o_s]
   rfl
 · have v1:=varT_size a
   have z1:(fixT x++(varT a++u)).size=4+((varT a).size+u.size):=by rw [fx_sz,sz_app]
   rw [decF (by omega),c_f,inc_eq (by omega) (by omega),tail4,implReadVar_ok hk ha (by omega),o_s]
   simp only [vz,c_f]
   by_cases c:200<a
   · rw [decT (by omega),c_t]
   · rw [decF (by omega),c_f,w64_eq (n:=((fixT x++(varT a++u)).size:Int)-4) (by omega) (by omega),w64_eq (n:=((fixT x++(varT a++u)).size:Int)-4-_) (by omega) (by omega),decT (by omega),c_t]
theorem specUnframe_bad {k:Nat} (hk:2 ^ 50≤k) {s:ByteArray} (hs:s.size≤1099511627776) (h:s.size<5∨(∃ x u,x<4294967296∧s=fixT x++u∧1≤u.size∧rv 7 (nb u)=none) ∨
 (∃ x a u,x<4294967296∧a<562949953421312∧s=fixT x++(varT a++u)∧(200<a∨u.size<a))):spec_Unframe.f k s=some (⟨#[]⟩,(0,())):=by
 unfold spec_Unframe.f spec_Unframe.t
 rcases h with h | ⟨x,u,hx,rfl,hu,h⟩ | ⟨x,a,u,hx,ha,rfl,h⟩
 · rw [decT (by omega),c_t]
 · rw [fx_sz] at hs
   rw [decF (by rw [fx_sz];omega),c_f,inc_eq (by omega) (by rw [fx_sz];omega),tail4,specReadVar_bad hk h,o_s]
   rfl
 · have v1:=varT_size a
   have z1:(fixT x++(varT a++u)).size=4+((varT a).size+u.size):=by rw [fx_sz,sz_app]
   rw [decF (by omega),c_f,inc_eq (by omega) (by omega),tail4,specReadVar_ok hk ha,o_s]
   simp only [vz,c_f]
   by_cases c:200<a
   · rw [decT (by omega),c_t]
   · rw [decF (by omega),c_f,w64_eq (n:=((fixT x++(varT a++u)).size:Int)-4) (by omega) (by omega),w64_eq (n:=((fixT x++(varT a++u)).size:Int)-4-_) (by omega) (by omega),decT (by omega),c_t]
section
open Classical
noncomputable def unfM (s:ByteArray):ByteArray × Int:=if h:∃ t r,t.size≤200∧s=frameM t++r then (h.choose,((frameM h.choose).size:Int)) else (⟨#[]⟩,0)
theorem unf_frame {t:ByteArray} (r:ByteArray) (h:t.size≤200):unfM (frameM t++r)=(t,((frameM t).size:Int)):=by
 have q:∃ u v,u.size≤200∧frameM t++r=frameM u++v:=⟨t,r,h,rfl⟩
 unfold unfM
 rw [dif_pos q]
 obtain ⟨v,h1,h2⟩:=q.choose_spec
 have:=(frame_inj h h1 h2).1
 rw [← this]
theorem unf_cases (s:ByteArray):(∃ t r,t.size≤200∧s=frameM t++r∧unfM s=(t,((frameM t).size:Int)))∨(unfM s=(⟨#[]⟩,0)∧∀ t r,t.size≤200→s≠frameM t++r):=by
 by_cases q:∃ t r,t.size≤200∧s=frameM t++r
 · obtain ⟨t,r,h,rfl⟩:=q
   exact .inl ⟨t,r,h,rfl,unf_frame r h⟩
 · right
   refine ⟨?_,fun t r h e=>q ⟨t,r,h,e⟩⟩
   unfold unfM
   rw [dif_neg q]
end
theorem un_of {k:Nat} {f:ByteArray→Option (ByteArray × Int × Unit)} (h1:∀ x t r,x<4294967296→t.size≤200→t.size+r.size≤1099511627776→f (fixT x++(varT t.size++(t++r)))=bif !seq (frameM t) (fixT x++(varT t.size++t)) then some (⟨#[]⟩,(0,())) else some (t,(((4+(varT t.size).size+t.size:Nat):Int),())))
 (h2:∀ s,s.size≤1099511627776→(s.size<5∨(∃ x u,x<4294967296∧s=fixT x++u∧1≤u.size∧rv 7 (nb u)=none)∨(∃ x a u,x<4294967296∧a<562949953421312∧s=fixT x++(varT a++u)∧(200<a∨u.size<a)))→f s=some (⟨#[]⟩,(0,())))
 {s:ByteArray} (hs:s.size≤1099511627776):f s=some ((unfM s).1,((unfM s).2,())):=by
 rcases un_cases s hs with ⟨x,t,r,hx,ht,hr,rfl⟩ | h
 · rw [h1 x t r hx ht hr]
   by_cases c:frameM t=fixT x++(varT t.size++t)
   · have e:fixT x++(varT t.size++(t++r))=frameM t++r:=by rw [c,app_assoc,app_assoc]
     rw [seqT c,e,unf_frame r ht,c,fx_sz,sz_app,Nat.add_assoc]
     rfl
   · rw [seqF c]
     rcases unf_cases (fixT x++(varT t.size++(t++r))) with ⟨t',r',ht',e,_⟩ | ⟨e,_⟩
     · exfalso
       obtain ⟨y,hy,f'⟩:=frame_form ht'
       rw [f',app_assoc,app_assoc] at e
       have h3:=app_inj e rfl
       obtain ⟨h4,h5⟩:=varT_inj (by omega) (by omega) h3.2
       have h6:=app_inj h5 h4
       apply c
       rw [h6.1,f',h3.1]
     · rw [e];rfl
 · rw [h2 s hs h]
   rcases unf_cases s with ⟨t',r',ht',e,_⟩ | ⟨e,_⟩
   · exfalso
     obtain ⟨y,hy,f'⟩:=frame_form ht'
     have hp:=frameM_pos ht'
     rw [f',app_assoc,app_assoc] at e
     rcases h with h | ⟨x,u,hx,e2,hu,h⟩ | ⟨x,a,u,hx,ha,e2,h⟩
     · rw [e,fx_sz,sz_app] at h
       have:=varT_size t'.size
       omega
     · rw [e2] at e
       rw [(app_inj e rfl).2,rv_app (by omega)] at h
       cases h
     · rw [e2] at e
       obtain ⟨h4,h5⟩:=varT_inj ha (by omega) (app_inj e rfl).2
       rw [h5,h4,sz_app] at h
       omega
   · rw [e]
theorem implUnframe_eq {k:Nat} (hk:2 ^ 50≤k) {s:ByteArray} (hs:s.size≤1099511627776):impl_Unframe.f k s=some ((unfM s).1,((unfM s).2,())) :=
 un_of (k:=k) (fun x t r _ ht hr=>implUnframe_at hk ht hr) (fun s hs h=>implUnframe_bad hk hs h) hs
theorem specUnframe_eq {k:Nat} (hk:2 ^ 50≤k) {s:ByteArray} (hs:s.size≤1099511627776):spec_Unframe.f k s=some ((unfM s).1,((unfM s).2,())) :=
 un_of (k:=k) (fun x t r _ ht hr=>specUnframe_at hk ht hr) (fun s hs h=>specUnframe_bad hk hs h) hs
theorem unf_bound (s:ByteArray):(unfM s).1.size≤200∧((unfM s).2=0∨5≤(unfM s).2)∧(unfM s).2≤s.size∧(unfM s).2≤211:=by
 rcases unf_cases s with ⟨t,r,h,rfl,e⟩ | ⟨e,_⟩
 · rw [e,sz_app]
   have:=frameM_pos h
   have:=frameM_size t
   refine ⟨h,?_,?_,?_⟩ <;> simp only [] <;> omega
 · rw [e]
   refine ⟨by simp only [e0];omega,.inl rfl,by simp only [];omega,by simp only [];omega⟩
theorem unf_nil:unfM ⟨#[]⟩=(⟨#[]⟩,0):=by
 rcases unf_cases ⟨#[]⟩ with ⟨t,r,h,e,_⟩ | ⟨e,_⟩
 · have:=congrArg ByteArray.size e
   rw [sz_app,e0] at this
   have:=frameM_pos h
   omega
 · exact e
noncomputable def scanN (s:ByteArray):Nat→Int→List (Ty.den TSpot) × Int
 | 0,at_=>([],at_)
 | d+1,at_ =>
  if (unfM (ByteArray.extract s at_.toNat s.size)).2=0 then ([],at_)
  else if (readRecM (unfM (ByteArray.extract s at_.toNat s.size)).1).2=false then ([],at_)
  else (((at_,((unfM (ByteArray.extract s at_.toNat s.size)).2,((readRecM (unfM (ByteArray.extract s at_.toNat s.size)).1).1,()))):Ty.den TSpot)::(scanN s d (at_+(unfM (ByteArray.extract s at_.toNat s.size)).2)).1,
   (scanN s d (at_+(unfM (ByteArray.extract s at_.toNat s.size)).2)).2)
noncomputable def scanM (s:ByteArray):List (Ty.den TSpot) × Int:=scanN s (s.size+1) 0
theorem ext_size (s:ByteArray) (n:Nat):(ByteArray.extract s n s.size).size=s.size-n:=by rw [← nb_len,ext_tail,List.length_drop,nb_len]
theorem scanL {k:Nat} (hk:2 ^ 50≤k) {s:ByteArray} (hs:s.size≤1099511627776):∀ (d n:Nat) (i:Int) (out:List (Ty.den TSpot)),0≤i→i≤s.size→(s.size:Int)-i<d→d≤n→(out.length:Int)≤i →
 impl_ScanRecs.l0 k n s i out=some (out++(scanN s d i).1,((scanN s d i).2,()))∧spec_ScanRecs.l0 k n s i out=some (out++(scanN s d i).1,((scanN s d i).2,())):=by
 intro d
 induction d with
 | zero=>intro n i out h0 h1 h2;omega
 | succ d ih =>
  intro n i out h0 h1 h2 h3 h4
  obtain ⟨n,rfl⟩:∃ q,n=q+1:=⟨n-1,by omega⟩
  have hz:=ext_size s i.toNat
  have hu:=unf_bound (ByteArray.extract s i.toNat s.size)
  have e1:=implUnframe_eq hk (s:=ByteArray.extract s i.toNat s.size) (by omega)
  have e2:=specUnframe_eq hk (s:=ByteArray.extract s i.toNat s.size) (by omega)
  have hnil:i=s.size→(unfM (ByteArray.extract s i.toNat s.size)).2=0:=fun q=>by
   have:ByteArray.extract s i.toNat s.size=⟨#[]⟩:=nb_inj (by rw [ext_tail,List.drop_eq_nil_of_le (by rw [nb_len];omega)];rfl)
   rw [this,unf_nil]
  simp only [scanN]
  generalize unfM (ByteArray.extract s i.toNat s.size)=u at *
  have e3:=implReadRec_eq hk (s:=u.1) (by omega)
  have e4:=specReadRec_eq hk (s:=u.1) (by omega)
  generalize readRecM u.1=r at *
  by_cases c:u.2=0
  · rw [if_pos c]
    have cb:(u.2==0)=true:=by rw [c];rfl
    simp only [List.append_nil]
    constructor
    · simp (disch:=omega) only [impl_ScanRecs.l0,impl_ScanRecs.b0,inc_eq,e1,e3,o_s,cb,c_t]
    · by_cases q:i<s.size
      · simp (disch:=omega) only [spec_ScanRecs.l0,spec_ScanRecs.b0,decT,inc_eq,e2,e4,o_s,cb,c_t]
      · simp (disch:=omega) only [spec_ScanRecs.l0,spec_ScanRecs.b0,decF,c_f]
  · rw [if_neg c]
    have cb:(u.2==0)=false:=q_f c
    have hlt:i<s.size:=by
     rcases Int.lt_or_eq_of_le h1 with q | q
     · exact q
     · exact absurd (hnil q) c
    cases hr:r.2 with
    | false =>
     simp only [if_true,List.append_nil]
     constructor
     · simp (disch:=omega) only [impl_ScanRecs.l0,impl_ScanRecs.b0,inc_eq,e1,e3,o_s,cb,c_t,c_f,hr,n_f]
     · simp (disch:=omega) only [spec_ScanRecs.l0,spec_ScanRecs.b0,decT,inc_eq,e2,e4,o_s,cb,c_t,c_f,hr,n_f]
    | true =>
     rw [if_neg (by decide)]
     have hlen:out.length+1≤1099511627777:=by omega
     have ih:=ih n (i+u.2) (out++[(i,(u.2,(r.1,())))]) (by omega) (by omega) (by omega) (by omega) (by rw [l_a];show ((out.length+1:Nat):Int)≤_;omega)
     simp only [a_a,List.cons_append,List.nil_append] at ih
     constructor
     · simp (disch:=first | omega | decide) only [impl_ScanRecs.l0,impl_ScanRecs.b0,inc_eq,e1,e3,o_s,cb,c_t,c_f,hr,n_t,rm_ok,w64_eq]
       exact ih.1
     · simp (disch:=first | omega | decide) only [spec_ScanRecs.l0,spec_ScanRecs.b0,decT,inc_eq,e2,e4,o_s,cb,c_t,c_f,hr,n_t,rm_ok,w64_eq]
       exact ih.2
theorem implScan_eq {k:Nat} (hk:2 ^ 50≤k) {s:ByteArray} (hs:s.size≤1099511627775):impl_ScanRecs.f k s=some ((scanM s).1,((scanM s).2,())) :=
 (scanL hk (by omega) (s.size+1) k 0 [] (by omega) (by omega) (by omega) (by omega) (by simp)).1
theorem specScan_eq {k:Nat} (hk:2 ^ 50≤k) {s:ByteArray} (hs:s.size≤1099511627775):spec_ScanRecs.f k s=some ((scanM s).1,((scanM s).2,())) :=
 (scanL hk (by omega) (s.size+1) k 0 [] (by omega) (by omega) (by omega) (by omega) (by simp)).2
theorem scanN_len (s:ByteArray):∀ (d:Nat) (i:Int),0≤i→i≤s.size→((scanN s d i).1.length:Int)≤s.size-i∧i≤(scanN s d i).2∧(scanN s d i).2≤s.size
 | 0,i,h0,h1=>by simp only [scanN,List.length_nil];omega
 | d+1,i,h0,h1=>by
  have hu:=unf_bound (ByteArray.extract s i.toNat s.size)
  have hz:=ext_size s i.toNat
  rw [scanN]
  split
  · simp only [List.length_nil];omega
  · split
    · simp only [List.length_nil];omega
    · rename_i c1 c2
      have ih:=scanN_len s d (i+(unfM (ByteArray.extract s i.toNat s.size)).2) (by omega) (by omega)
      simp only [l_c]
      omega
theorem scanM_len (s:ByteArray):(scanM s).1.length≤s.size∧0≤(scanM s).2∧(scanM s).2≤s.size:=by
 have:=scanN_len s (s.size+1) 0 (by omega) (by omega)
 unfold scanM
 omega
end Go.Proofs.YtmakghhmpgfboaaGreat.G
namespace Go.Proofs.YtmakghhmpgfboaaGreat.G
open Go.V
theorem vl_len1 (d:Nat) {a:Nat} (h:a<128):(vl d a).length=1:=by
 cases d with
 | zero=>rfl
 | succ d=>unfold vl;rw [if_neg (by omega)];rfl
theorem vl_len3 {a:Nat} (h:a<2097152):(vl 6 a).length≤3:=by
 unfold vl
 split
 · rw [l_c]
   unfold vl
   split
   · rw [l_c,vl_len1 4 (by omega)]
     omega
   · simp
 · simp
theorem varB_small {a:Int} (h0:0≤a) (h1:a≤100000):(varB a).size≤3:=by
 obtain ⟨n,rfl⟩:=Int.eq_ofNat_of_zero_le h0
 rw [varB_nat (by omega),← varT_len (by omega)]
 exact vl_len3 (by omega)
def varsT:List Int→ByteArray
 | []=>⟨#[]⟩
 | x::l=>varB x++varsT l
theorem varsT_small:∀ (l:List Int),(∀ x ∈ l,0≤x∧x≤100000)→(varsT l).size≤3*l.length
 | [],_=>Nat.le_refl _
 | x::l,h=>by
  have h1:=varB_small (h x (m_s ..)).1 (h x (m_s ..)).2
  have h2:=varsT_small l fun y hy=>h y (m_m _ hy)
  rw [varsT,sz_app,l_c]
  omega
theorem varsT_size:∀ (l:List Int),(varsT l).size≤7*l.length
 | []=>Nat.le_refl _
 | x::l=>by
  have h1:=varB_size x
  have h2:=varsT_size l
  rw [varsT,sz_app,l_c]
  omega
def liveT (v:Ty.den TLive):ByteArray:=varB v.1++(varB (v.2.1.length:Int)++varsT v.2.1)
def showLiveM (v:Ty.den TLive):ByteArray:=if liveM v=true then frameM (liveT v) else ⟨#[]⟩
theorem live_facts {nx:Int} {ids:List Int} (h:liveM (nx,(ids,()))=true):1≤nx∧nx≤100000∧1≤ids.length∧ids.length≤60∧∀ x ∈ ids,0≤x∧x≤100000:=by
 unfold liveM at h
 simp only [b_a,decide_eq_true_eq] at h
 obtain ⟨h1,h2,h3⟩:=h
 have h1a:1≤nx:=h1.1
 have h1b:nx≤100000:=h1.2
 refine ⟨h1a,h1b,by omega,by omega,fun x hx=>?_⟩
 obtain ⟨p,hp⟩:=adj_all h3 hx
 unfold idOk at hp
 rw [b_a,decide_eq_true_eq] at hp
 have hw:w64 (nx-1)=nx-1:=w64_eq (by omega) (by omega)
 have h4:x≤w64 (nx-1):=hp.1.2
 have h5:1≤x:=hp.1.1
 omega
theorem liveT_size {nx:Int} {ids:List Int} (h:liveM (nx,(ids,()))=true):(liveT (nx,(ids,()))).size≤200:=by
 obtain ⟨h1,h2,h3,h4,h5⟩:=live_facts h
 have a:=varB_small (a:=nx) (by omega) h2
 have b:=varB_small (a:=(ids.length:Int)) (by omega) (by omega)
 have c:=varsT_small ids h5
 unfold liveT
 rw [sz_app,sz_app]
 simp only []
 omega
theorem specShowLive_eq {k:Nat} (hk:2 ^ 50≤k) (v:Ty.den TLive):spec_ShowLive.f k v=some (showLiveM v,()):=by
 unfold spec_ShowLive.f spec_ShowLive.t showLiveM
 rw [specLive_eq hk,o_s]
 cases c:liveM v with
 | false=>rfl
 | true =>
  obtain ⟨h1,h2,h3,h4,h5⟩:=live_facts (nx:=v.1) (ids:=v.2.1) c
  have a:=varB_size v.1
  have b:=varB_size (v.2.1.length:Int)
  rw [n_t,c_f,specVar_eq hk,o_s,specVar_eq hk,o_s,if_pos rfl]
  simp only []
  rw [cat_ok (by omega)]
  refine (forL0 (L:=fun n i s=>spec_ShowLive.l0 k n s i v.1 v.2.1) (R:=fun r s=>some (frameM (s++varsT r),())) (Ty.dflt (.int .i64)) v.2.1 (fun i s=>(s.size:Int)≤14+7*i) (fun n s hs=>?_) (fun n i s x rest g0 g1 hx hr hs ih=>?_) (n:=k) (by omega) (by rw [sz_app];omega)).trans (by rw [app_assoc];rfl)
  · simp (disch:=omega) only [spec_ShowLive.l0,spec_ShowLive.b0,decF,c_f,specFrame_eq hk,o_s]
    rw [show varsT []=⟨#[]⟩ from rfl,nil_app]
  · have hv:=varB_size x
    have ih:=ih (s++varB x) (by rw [sz_app];omega)
    simp (disch:=omega) only [spec_ShowLive.l0,spec_ShowLive.b0,decT g1,c_t,inb_eq,hx,specVar_eq hk,o_s,cat_ok,w64_eq,ih]
    rw [app_assoc]
    rfl
noncomputable def readLiveM (s:ByteArray):Ty.den TLive × Bool:=undo (fun v=>liveM v=true) showLiveM (0,([],())) s
theorem rvR_in (s:ByteArray):0≤(rvR (rv 7 (nb s))).2.1∧(rvR (rv 7 (nb s))).2.1≤(s.size:Int):=by
 cases h:rv 7 (nb s) with
 | none=>exact ⟨Int.le_refl _,by show (0:Int)≤_;omega⟩
 | some p =>
  obtain ⟨a,n⟩:=p
  obtain ⟨h1,h2,h3,h4,h5,h6⟩:=rv_some 6 (nb s) a n (nb_lt' s) h
  rw [nb_len] at h4
  exact ⟨by show (0:Int)≤(n:Int);omega,by show (n:Int)≤_;omega⟩
def Lno:Option (Ty.den TLive × Bool × Unit):=some ((0,([],())),(false,()))
theorem specLoop_any {k:Nat} (hk:2 ^ 50≤k) {s t:ByteArray} (ht:t.size≤200) (c nx:Int):∀ (d n:Nat) (pos j:Int) (out:List Int),60-j=d→d<n→0≤pos→pos≤t.size→0≤j→(out.length:Int)≤j →
 ∃ o,spec_ReadLive.l0 k n s t c pos j [] 0 out nx=bif !seq (showLiveM (nx,(o,()))) s then Lno else some ((nx,(o,())),(true,())):=by
 intro d
 induction d with
 | zero =>
  intro n pos j out hj hn h0 h1 h2 h3
  obtain ⟨n,rfl⟩:∃ q,n=q+1:=⟨n-1,by omega⟩
  refine ⟨out,?_⟩
  simp only [spec_ReadLive.l0,spec_ReadLive.b0]
  rw [decF (show ¬ j<60 by omega),c_f,specShowLive_eq hk,o_s]
  cases decide (j<c) <;> cases seq (showLiveM (nx,(out,()))) s <;> rfl
 | succ d ih =>
  intro n pos j out hj hn h0 h1 h2 h3
  obtain ⟨n,rfl⟩:∃ q,n=q+1:=⟨n-1,by omega⟩
  by_cases c1:j<c
  · have hr:=rvR_in (ByteArray.extract t pos.toNat t.size)
    have he:(ByteArray.extract t pos.toNat t.size).size=t.size-pos.toNat:=by rw [← nb_len,ext_tail,List.length_drop,nb_len]
    rw [he] at hr
    obtain ⟨o,ho⟩:=ih n (pos+(rvR (rv 7 (nb (ByteArray.extract t pos.toNat t.size)))).2.1) (j+1) (out++[(rvR (rv 7 (nb (ByteArray.extract t pos.toNat t.size)))).1]) (by omega) (by omega) (by omega) (by omega) (by omega) (by rw [len_snoc];omega)
    refine ⟨o,?_⟩
    simp only [spec_ReadLive.l0,spec_ReadLive.b0]
    rw [decT c1,decT (show j<60 by omega),c_t,c_t,inc_eq h0 h1,specReadVar_rv hk,o_s,rm_ok (by omega) (by decide),w64_eq (n:=pos+_) (by omega) (by omega),w64_eq (n:=j+1) (by omega) (by omega)]
    exact ho
  · refine ⟨out,?_⟩
    simp only [spec_ReadLive.l0,spec_ReadLive.b0]
    rw [decF c1,c_f,specShowLive_eq hk,o_s]
    cases seq (showLiveM (nx,(out,()))) s <;> rfl
theorem varB_int {x:Int} (h0:0≤x) (h1:x≤100000):∃ n:Nat,n<562949953421312∧x=(n:Int)∧varB x=varT n:=by
 obtain ⟨n,rfl⟩:=Int.eq_ofNat_of_zero_le h0
 exact ⟨n,by omega,rfl,varB_nat (by omega)⟩
theorem specLoop_ok {k:Nat} (hk:2 ^ 50≤k) {s:ByteArray} (nx:Int):∀ (ids:List Int) (pre:ByteArray) (n:Nat) (j c:Int) (out:List Int),(∀ x ∈ ids,0≤x∧x≤100000)→ids.length<n→0≤j→c=j+ids.length→c≤60→pre.size+7*ids.length≤1000→(out.length:Int)≤j →
 spec_ReadLive.l0 k n s (pre++varsT ids) c (pre.size:Int) j [] 0 out nx=bif !seq (showLiveM (nx,(out++ids,()))) s then Lno else some ((nx,(out++ids,())),(true,())):=by
 intro ids
 induction ids with
 | nil =>
  intro pre n j c out h hn h0 hc h1 hp ho
  obtain ⟨n,rfl⟩:∃ q,n=q+1:=⟨n-1,by omega⟩
  rw [List.length_nil] at hc
  simp only [spec_ReadLive.l0,spec_ReadLive.b0]
  rw [decF (show ¬ j<c by omega),c_f,specShowLive_eq hk,o_s,List.append_nil]
  cases seq (showLiveM (nx,(out,()))) s <;> rfl
 | cons x ids ih =>
  intro pre n j c out h hn h0 hc h1 hp ho
  rw [l_c] at hn hc
  obtain ⟨n,rfl⟩:∃ q,n=q+1:=⟨n-1,by omega⟩
  obtain ⟨a,ha,hx,hv⟩:=varB_int (h x (m_s ..)).1 (h x (m_s ..)).2
  have hvs:=varT_size a
  have hts:=varsT_size (x::ids)
  rw [l_c] at hts
  have ih:=ih (pre++varT a) n (j+1) c (out++[x]) (fun y hy=>h y (m_m _ hy)) (by omega) (by omega) (by omega) h1 ?_ (by rw [len_snoc];omega)
  · have he:ByteArray.extract (pre++varsT (x::ids)) pre.size (pre++varsT (x::ids)).size=varT a++varsT ids:=by rw [app_tail,varsT,hv]
    simp only [spec_ReadLive.l0,spec_ReadLive.b0]
    rw [decT (show j<c by omega),decT (show j<60 by omega),c_t,c_t,inc_eq (by omega) (by rw [sz_app];omega),Int.toNat_natCast,he,specReadVar_rv hk,o_s,rv_app ha]
    simp only [rvR]
    rw [rm_ok (by omega) (by decide),w64_eq (by omega) (by omega),w64_eq (by omega) (by omega),← hx,show (pre.size:Int)+((varT a).size:Int)=((pre++varT a).size:Int) by rw [sz_app];omega]
    rw [show pre++varsT (x::ids)=pre++varT a++varsT ids by rw [varsT,hv,app_assoc],ih,a_a]
    rfl
  · rw [sz_app]
    rw [l_c] at hp
    omega
theorem specReadLive_1 {k:Nat} (hk:2 ^ 50≤k) {nx:Int} {ids:List Int} (h:liveM (nx,(ids,()))=true):spec_ReadLive.f k (showLiveM (nx,(ids,())))=some ((nx,(ids,())),(true,())):=by
 obtain ⟨g1,g2,g3,g4,g5⟩:=live_facts h
 have hz:=liveT_size h
 have hf:=frameM_pos hz
 have hfs:=frameM_size (liveT (nx,(ids,())))
 have hu:=unf_frame ⟨#[]⟩ hz
 rw [nil_app] at hu
 have e:showLiveM (nx,(ids,()))=frameM (liveT (nx,(ids,()))):=if_pos h
 obtain ⟨a,ha,hx,hv⟩:=varB_int (x:=nx) (by omega) g2
 obtain ⟨b,hb,hy,hw⟩:=varB_int (x:=(ids.length:Int)) (by omega) (by omega)
 have ht:liveT (nx,(ids,()))=varT a++varT b++varsT ids:=by
  unfold liveT
  rw [app_assoc,← hv,← hw]
 have hva:=varT_size a
 have hvb:=varT_size b
 have hl:=specLoop_ok hk (s:=showLiveM (nx,(ids,()))) nx ids (varT a++varT b) k 0 (b:Int) [] g5 (by omega) (by omega) (by omega) (by omega) (by rw [sz_app];omega) (by simp)
 rw [← ht,List.nil_append,seq_refl] at hl
 unfold spec_ReadLive.f spec_ReadLive.t
 rw [specUnframe_eq hk (by rw [e];omega),o_s]
 have hu1:unfM (showLiveM (nx,(ids,())))=(liveT (nx,(ids,())),((showLiveM (nx,(ids,()))).size:Int)):=by rw [e];exact hu
 have r1:rv 7 (nb (liveT (nx,(ids,()))))=some (a,(varT a).size):=by rw [ht,app_assoc];exact rv_app ha _
 have r2:rv 7 (nb (ByteArray.extract (liveT (nx,(ids,()))) (varT a).size (liveT (nx,(ids,()))).size))=some (b,(varT b).size):=by rw [ht,app_assoc,app_tail];exact rv_app hb _
 have hsz:(liveT (nx,(ids,()))).size=(varT a).size+(varT b).size+(varsT ids).size:=by rw [ht,sz_app,sz_app]
 rw [hu1]
 simp only []
 rw [specReadVar_rv hk,o_s,r1]
 simp only [rvR]
 rw [show (((showLiveM (nx,(ids,()))).size:Int) != ((showLiveM (nx,(ids,()))).size:Int))=false by simp,c_f,
  show (((showLiveM (nx,(ids,()))).size:Int)==0)=false from q_f (by rw [e];omega),c_f,show (((varT a).size:Int)==0)=false from q_f (by omega),c_f,
  inc_eq (by omega) (by omega),Int.toNat_natCast,specReadVar_rv hk,o_s,r2]
 simp only [rvR]
 rw [w64_eq (by omega) (by omega),show ((varT a).size:Int)+((varT b).size:Int)=((varT a++varT b).size:Int) by rw [sz_app];omega,← hx]
 exact hl
theorem specReadLive_eq {k:Nat} (hk:2 ^ 50≤k) {s:ByteArray} (hs:s.size≤1099511627776):spec_ReadLive.f k s=some ((readLiveM s).1,((readLiveM s).2,())):=by
 refine undo_of (fun v h1 h2=>?_) ?_
 · subst h2
   exact specReadLive_1 hk (nx:=v.1) (ids:=v.2.1) h1
 · unfold spec_ReadLive.f spec_ReadLive.t
   rw [specUnframe_eq hk hs,o_s]
   have hu:=unf_bound s
   generalize unfM s=u at hu
   obtain ⟨t,m⟩:=u
   simp only [] at hu ⊢
   rw [specReadVar_rv hk,o_s]
   have h1:=rvR_in t
   generalize rvR (rv 7 (nb t))=q at h1
   obtain ⟨nx,p,_⟩:=q
   simp only [] at h1 ⊢
   by_cases c1:m=(s.size:Int)
   case neg=>rw [show (m != (s.size:Int))=true from bne_iff_ne.2 c1];exact .inr rfl
   rw [show (m != (s.size:Int))=false by rw [c1];simp,c_f]
   by_cases c2:m=0
   case pos=>rw [show (m==0)=true from beq_iff_eq.2 c2];exact .inr rfl
   rw [show (m==0)=false from q_f c2,c_f]
   by_cases c3:p=0
   case pos=>rw [show (p==0)=true from beq_iff_eq.2 c3];exact .inr rfl
   rw [show (p==0)=false from q_f c3,c_f,inc_eq h1.1 h1.2,specReadVar_rv hk,o_s]
   have h2:=rvR_in (ByteArray.extract t p.toNat t.size)
   have he:(ByteArray.extract t p.toNat t.size).size=t.size-p.toNat:=by rw [← nb_len,ext_tail,List.length_drop,nb_len]
   rw [he] at h2
   rw [w64_eq (by omega) (by omega)]
   obtain ⟨o,ho⟩:=specLoop_any hk (s:=s) hu.1 (rvR (rv 7 (nb (ByteArray.extract t p.toNat t.size)))).1 nx 60 k (p+(rvR (rv 7 (nb (ByteArray.extract t p.toNat t.size)))).2.1) 0 [] (by omega) (by omega) (by omega) (by omega) (by omega) (by simp)
   rw [ho]
   cases c4:seq (showLiveM (nx,(o,()))) s with
   | false=>exact .inr rfl
   | true =>
    refine .inl ⟨(nx,(o,())),?_,seq_iff.1 c4,rfl⟩
    cases c5:liveM (nx,(o,())) with
    | true=>rfl
    | false =>
     have:=seq_iff.1 c4
     unfold showLiveM at this
     rw [c5,if_neg (by decide)] at this
     rw [← this] at c1
     exact absurd c1 c2
end Go.Proofs.YtmakghhmpgfboaaGreat.G
namespace Go.V
def dOk (n:Int):Prop := -999999999≤n∧n≤999999999
def dg:List Nat→Nat→Nat→Nat × Nat
 | [],a,c=>(a,c)
 | b::l,a,c=>if 48≤b∧b≤57 then dg l (a*10+(b-48)) (c+1) else dg l a c
theorem dg_digits:∀ (l:List Nat) (a c:Nat),(∀ b ∈ l,48≤b∧b≤57)→dg l a c=(spell l a,c+l.length)
 | [],a,c,_=>rfl
 | b::l,a,c,h=>by
  rw [dg,if_pos (h b (m_s ..)),dg_digits l _ _ fun x hx=>h x (m_m _ hx),spell,l_c]
  congr 1
  omega
theorem dg_bound:∀ (l:List Nat) (a c:Nat),a+1≤10 ^ c→(dg l a c).1+1≤10 ^ (dg l a c).2
 | [],a,c,h=>h
 | b::l,a,c,h=>by
  unfold dg
  split
  · rename_i q
    exact dg_bound l _ _ (by rw [Nat.pow_succ];omega)
  · exact dg_bound l _ _ h
theorem digs_nat (u:Nat):∀ b ∈ (Lib.decDigits u).map UInt8.toNat,48≤b∧b≤57:=by
 intro b hb
 obtain ⟨x,hx,rfl⟩:=List.mem_map.1 hb
 exact decDigits_digit u x hx
def sgn (s:ByteArray) (a:Nat):Int:=bif decide ((s.size:Int) > 0)&&(byteAt s 0==45) then -(a:Int) else (a:Int)
theorem byte0 {s:ByteArray} (h:0<s.size):byteAt s 0=(((nb s).getD 0 0:Nat):Int):=nb_at (i:=0) h
theorem sgn_dec {n:Int}:sgn (decB n) n.natAbs=n:=by
 have hb:=nb_decB n
 have hl:=nb_len (decB n)
 unfold sgn
 by_cases c:n<0
 · rw [if_pos c] at hb
   rw [hb,l_c] at hl
   rw [decT (by omega),byte0 (by omega),hb]
   show (bif true&&(((45:Nat):Int)==45) then _ else _)=n
   show -((n.natAbs:Nat):Int)=n
   omega
 · rw [if_neg c] at hb
   have:(byteAt (decB n) 0==45)=false:=by
    cases q:Lib.decDigits n.toNat with
    | nil=>exact absurd q (decDigits_ne _)
    | cons x r =>
     have hx:=decDigits_digit n.toNat x (by rw [q];exact m_s ..)
     rw [q,List.map_cons] at hb
     rw [hb,l_c] at hl
     rw [byte0 (by omega),hb]
     refine q_f ?_
     show ((x.toNat:Nat):Int)≠45
     omega
   rw [this,Bool.and_false,c_f]
   omega
theorem decB_10 {n:Int} (h:dOk n):(decB n).size≤10:=decB_size (by have:=h.1;omega) (by have:=h.2;omega)
theorem dg_dec {n:Int} (h:dOk n):∃ c,dg (nb (decB n)) 0 0=(n.natAbs,c)∧c≤9:=by
 obtain ⟨h0,h1⟩:=h
 rw [nb_decB]
 by_cases c:n<0
 · rw [if_pos c]
   refine ⟨(Lib.decDigits n.natAbs).length,?_,decDigits_len 8 _ (by rw [show (10:Nat) ^ (8+1)=1000000000 by decide];omega)⟩
   rw [dg,if_neg (by omega),dg_digits _ _ _ (digs_nat _),spell_dec,List.length_map,Nat.zero_add]
 · rw [if_neg c]
   refine ⟨(Lib.decDigits n.toNat).length,?_,decDigits_len 8 _ (by rw [show (10:Nat) ^ (8+1)=1000000000 by decide];omega)⟩
   rw [dg_digits _ _ _ (digs_nat _),spell_dec,List.length_map,Nat.zero_add,show n.toNat=n.natAbs by omega]
theorem pow_le11 {c:Nat} (h:c≤11):10 ^ c≤100000000000:=Nat.le_trans (Nat.pow_le_pow_right (by decide) h) (by decide)
theorem pow_le9 {c:Nat} (h:c≤9):10 ^ c≤1000000000:=Nat.le_trans (Nat.pow_le_pow_right (by decide) h) (by decide)
end Go.V
namespace Go.Proofs.YtmakghhmpgfboaaGreat.G
open Go.V
noncomputable def readDecM (s:ByteArray):Int × Bool:=undo dOk decB 0 s
def finM (s:ByteArray) (q:Nat × Nat):Option (Int × Bool × Unit) :=
 bif decide ((q.2:Int) > 9)||(decide ((s.size:Int) > 10)||!seq (decB (sgn s q.1)) s) then some (0,(false,())) else some (sgn s q.1,(true,()))
theorem fin_eq {k:Nat} (hk:2 ^ 50≤k) (s:ByteArray) {q:Nat × Nat} (hq:q.1≤1000000000000) :
 (bif (decide ((ByteArray.size s:Int) > 0)) then (inb 0 (ByteArray.size s:Int) (bif ((byteAt s 0)==45) then (bif (decide ((q.2:Int) > 9)) then (some (0,(false,()))) else (bif (decide ((ByteArray.size s:Int) > 10)) then (some (0,(false,()))) else (Option.bind (spec_Dec.f k (w64 (0-(q.1:Int)))) fun r1=>(bif (!(seq r1.1 s)) then (some (0,(false,()))) else (some ((w64 (0-(q.1:Int))),(true,()))))))) else
  (bif (decide ((q.2:Int) > 9)) then (some (0,(false,()))) else (bif (decide ((ByteArray.size s:Int) > 10)) then (some (0,(false,()))) else (Option.bind (spec_Dec.f k (q.1:Int)) fun r2=>(bif (!(seq r2.1 s)) then (some (0,(false,()))) else (some ((q.1:Int),(true,())))))))))
 else (bif (decide ((q.2:Int) > 9)) then (some (0,(false,()))) else (bif (decide ((ByteArray.size s:Int) > 10)) then (some (0,(false,()))) else (Option.bind (spec_Dec.f k (q.1:Int)) fun r3=>(bif (!(seq r3.1 s)) then (some (0,(false,()))) else (some ((q.1:Int),(true,()))))))))=finM s q:=by
 have hn:w64 (0-(q.1:Int)) = -(q.1:Int):=by rw [w64_eq (by omega) (by omega)];omega
 rw [hn,specDec_eq hk (n:=(q.1:Int)) (by omega) (by omega),specDec_eq hk (n := -(q.1:Int)) (by omega) (by omega)]
 simp only [o_s]
 unfold finM sgn
 by_cases c0:(s.size:Int) > 0
 · rw [decT c0,c_t,inb_eq (by omega) (by omega),Bool.true_and]
   cases byteAt s 0==45 <;> cases decide ((q.2:Int) > 9) <;> cases decide ((s.size:Int) > 10)
   all_goals simp only [c_t,c_f,Bool.true_or,Bool.false_or]
   all_goals first | rfl | (cases seq (decB (q.1:Int)) s <;> rfl) | (cases seq (decB (-(q.1:Int))) s <;> rfl)
 · rw [decF c0,c_f,Bool.false_and,c_f]
   cases decide ((q.2:Int) > 9) <;> cases decide ((s.size:Int) > 10)
   all_goals simp only [c_t,c_f,Bool.true_or,Bool.false_or]
   all_goals first | rfl | (cases seq (decB (q.1:Int)) s <;> rfl)
theorem specReadDec_fin {k:Nat} (hk:2 ^ 50≤k) {s:ByteArray} (hs:s.size≤1099511627776):spec_ReadDec.f k s=finM s (dg ((nb s).take 11) 0 0):=by
 unfold spec_ReadDec.f spec_ReadDec.t
 have hn:=nb_len s
 have hl:((nb s).take 11).length=min 11 s.size:=by rw [List.length_take,hn]
 refine forL0 (L:=fun n i (q:Nat × Nat)=>spec_ReadDec.l0 k n s (q.1:Int) (q.2:Int) i) (R:=fun r q=>finM s (dg r q.1 q.2)) 0 ((nb s).take 11) (fun i q=>q.1+1≤10 ^ q.2∧(q.2:Int)≤i) (fun n q hq=>?_) (fun n i q x rest h0 h1 hx hr hq ih=>?_) (n:=k) (s:=(0,0)) (by omega) ⟨by decide,by decide⟩
 · obtain ⟨g1,g2⟩:=hq
   have hp:=pow_le11 (c:=q.2) (by omega)
   rw [show dg [] q.1 q.2=q from rfl]
   refine Eq.trans ?_ (fin_eq hk s (q:=q) (by omega))
   simp only [spec_ReadDec.l0,spec_ReadDec.b0]
   rcases Nat.lt_or_ge 11 s.size with c | c
   · rw [hl,Nat.min_eq_left (by omega),decT (show ((11:Nat):Int)<(s.size:Int) by omega),decF (show ¬ ((11:Nat):Int)<11 by omega)]
     rfl
   · rw [hl,Nat.min_eq_right c,decF (show ¬ (s.size:Int)<(s.size:Int) by omega)]
     rfl
 · obtain ⟨g1,g2⟩:=hq
   have hp:=pow_le11 (c:=q.2) (by omega)
   rw [hl] at h1
   have hi:i<11:=by omega
   have hsz:i<(s.size:Int):=by omega
   have hx':(nb s).getD i.toNat 0=x:=by rw [← hx,getD_take (by omega)]
   have hb:=nb_byte (s:=s) (x:=x) h0 (by rw [hn];exact hsz) hx'
   have hx256:x<256:=by rw [← hx'];exact nb_getD_lt s _
   simp only [spec_ReadDec.l0,spec_ReadDec.b0]
   rw [decT hsz,decT hi,c_t,c_t,inb_eq h0 hsz,hb]
   have iN:=ih q ⟨g1,by omega⟩
   by_cases c1:48≤x
   · rw [decT (show (x:Int)≥48 by omega),c_t]
     by_cases c2:x≤57
     · rw [inb_eq h0 hsz,decT (show (x:Int)≤57 by omega),c_t,inb_eq h0 hsz]
       have iY:=ih (q.1*10+(x-48),q.2+1) ⟨by rw [Nat.pow_succ];omega,by simp only [];omega⟩
       rw [wu8_ok (n:=(x:Int)-48) (by omega) (by omega),w64_eq (n:=(x:Int)-48) (by omega) (by omega),w64_eq (n:=(q.1:Int)*10) (by omega) (by omega),w64_eq (by omega) (by omega),w64_eq (n:=(q.2:Int)+1) (by omega) (by omega),w64_eq (n:=i+1) (by omega) (by omega)]
       rw [show dg (x::rest) q.1 q.2=dg rest (q.1*10+(x-48)) (q.2+1) from if_pos ⟨c1,c2⟩]
       rw [show (q.1:Int)*10+((x:Int)-48)=((q.1*10+(x-48):Nat):Int) by omega,show (q.2:Int)+1=((q.2+1:Nat):Int) by omega]
       exact iY
     · rw [inb_eq h0 hsz,decF (show ¬ (x:Int)≤57 by omega),c_f,w64_eq (n:=i+1) (by omega) (by omega),show dg (x::rest) q.1 q.2=dg rest q.1 q.2 from if_neg (fun h=>c2 h.2)]
       exact iN
   · rw [decF (show ¬ (x:Int)≥48 by omega),c_f,w64_eq (n:=i+1) (by omega) (by omega),show dg (x::rest) q.1 q.2=dg rest q.1 q.2 from if_neg (fun h=>c1 h.1)]
     exact iN
theorem specReadDec_eq {k:Nat} (hk:2 ^ 50≤k) {s:ByteArray} (hs:s.size≤1099511627776):spec_ReadDec.f k s=some ((readDecM s).1,((readDecM s).2,())):=by
 rw [specReadDec_fin hk hs]
 refine undo_of (fun n h1 h2=>?_) ?_
 · subst h2
   have hz:=decB_10 h1
   obtain ⟨c,e,hc⟩:=dg_dec h1
   rw [List.take_of_length_le (by rw [nb_len];omega),e]
   unfold finM
   simp only []
   rw [decF (by omega),decF (by omega),sgn_dec,seq_refl]
   rfl
 · have hb:=dg_bound ((nb s).take 11) 0 0 (by decide)
   generalize dg ((nb s).take 11) 0 0=q at hb
   unfold finM
   by_cases c:q.2≤9
   · have hp:=pow_le9 c
     cases e:(decide ((q.2:Int) > 9)||(decide ((s.size:Int) > 10)||!seq (decB (sgn s q.1)) s)) with
     | true=>exact .inr rfl
     | false =>
      simp only [Bool.or_eq_false_iff,Bool.not_eq_false'] at e
      refine .inl ⟨sgn s q.1,?_,seq_iff.1 e.2.2,rfl⟩
      unfold sgn dOk
      cases decide ((s.size:Int) > 0)&&(byteAt s 0==45)
      · rw [c_f];omega
      · rw [c_t];omega
   · rw [decT (show (q.2:Int) > 9 by omega)]
     exact .inr rfl
theorem readDec_dec {n:Int} (h:dOk n):readDecM (decB n)=(n,true):=undo_eq (fun _ _ _ _ e=>decB_inj e) h
end Go.Proofs.YtmakghhmpgfboaaGreat.G
namespace Go.Proofs.YtmakghhmpgfboaaGreat.G
open Go.V
def preB (s p:ByteArray):Bool:=decide (p.size≤s.size)&&seq (ByteArray.extract s 0 p.size) p
theorem ext_all (s:ByteArray):ByteArray.extract s 0 s.size=s:=nb_inj (by rw [ext_tail,List.drop_zero])
end Go.Proofs.YtmakghhmpgfboaaGreat.G
namespace Go.Proofs.YtmakghhmpgfboaaGreat.G
open Go.V
def hasN (l:List Int) (x:Int):Bool:=l.any fun y=>y==x
end Go.Proofs.YtmakghhmpgfboaaGreat.G
namespace Go.Proofs.YtmakghhmpgfboaaGreat.G
open Go.V
def hintB:ByteArray:=⟨#[104,105,110,116]⟩
theorem specHintName_eq {k:Nat} (hk:2 ^ 50≤k) (n:Int):spec_HintName.f k n=some (namedM hintB n,()):=by
 unfold spec_HintName.f spec_HintName.t namedM
 rw [l1InD_eq,o_s]
 by_cases c:(1:Int)≤n∧n≤100000
 · have hz:=decB_small (n:=n) (by omega) (by omega)
   rw [decT c]
   simp only [n_t,c_f,c_t]
   rw [specDec_eq hk (by omega) (by omega),o_s,cat_ok (by show 4+(decB n).size≤_;omega)]
   rfl
 · rw [decF c]
   rfl
def Pid (s:ByteArray) (n:Int):Prop:=1≤n∧n≤100000∧(s=segB++decB n∨s=hintB++decB n)
theorem seg_hint (a b:ByteArray):segB++a≠hintB++b:=fun h=>by
 have:=congrArg nb h
 rw [nb_app,nb_app,show nb segB=[115,101,103] from rfl,show nb hintB=[104,105,110,116] from rfl] at this
 simp at this
theorem pid_one {s:ByteArray} {n m:Int} (h:Pid s n) (g:Pid s m):n=m:=by
 rcases h.2.2 with h1 | h1 <;> rcases g.2.2 with g1 | g1
 · exact decB_inj (app_cancel (h1.symm.trans g1))
 · exact absurd (h1.symm.trans g1) (seg_hint _ _)
 · exact absurd (g1.symm.trans h1) (seg_hint _ _)
 · exact decB_inj (app_cancel (h1.symm.trans g1))
theorem named_pid {s:ByteArray} {n:Int} (hs:0<s.size) (h:(seq (namedM segB n) s||seq (namedM hintB n) s)=true):Pid s n:=by
 unfold namedM at h
 by_cases c:(1:Int)≤n∧n≤100000
 · rw [decT c,Bool.or_eq_true] at h
   exact ⟨c.1,c.2,h.imp (fun q=>(seq_iff.1 q).symm) (fun q=>(seq_iff.1 q).symm)⟩
 · rw [decF c,Bool.or_eq_true] at h
   rcases h with q | q
   · rw [← seq_iff.1 q] at hs;exact absurd hs (Nat.lt_irrefl 0)
   · rw [← seq_iff.1 q] at hs;exact absurd hs (Nat.lt_irrefl 0)
theorem pid_named {s:ByteArray} {n:Int} (h:Pid s n):(seq (namedM segB n) s||seq (namedM hintB n) s)=true:=by
 obtain ⟨h0,h1,h2⟩:=h
 unfold namedM
 rw [decT ⟨h0,h1⟩,Bool.or_eq_true]
 exact h2.imp (fun q=>seq_iff.2 q.symm) (fun q=>seq_iff.2 q.symm)
noncomputable def idM (s:ByteArray):Int × Bool:=undo (Pid s) (fun _=>s) 0 s
theorem decB_pos (n:Int):0<(decB n).size:=by
 rw [← nb_len,nb_decB]
 split
 · rw [l_c];omega
 · rw [List.length_map]
   exact List.length_pos_iff.2 (decDigits_ne _)
theorem extL_size (s:ByteArray) (n:Nat):(ByteArray.extract s n s.size).size=s.size-n:=by rw [← nb_len,ext_tail,List.length_drop,nb_len]
noncomputable def hitM (s:ByteArray) (i:Nat):Bool :=
 decide ((s.size:Int) > (i:Int))&&((readDecM (ByteArray.extract s i s.size)).2&&(decide ((readDecM (ByteArray.extract s i s.size)).1≥1)&&(seq (namedM segB (readDecM (ByteArray.extract s i s.size)).1) s||seq (namedM hintB (readDecM (ByteArray.extract s i s.size)).1) s)))
theorem id_step {k:Nat} (hk:2 ^ 50≤k) {s:ByteArray} (hs:s.size≤1099511627776) (m i:Nat) (hi:i≤4) :
 spec_IdOf.l0 k (m+1) s (i:Int)=bif hitM s i then some ((readDecM (ByteArray.extract s i s.size)).1,(true,())) else spec_IdOf.l0 k m s ((i+1:Nat):Int):=by
 have hz:=extL_size s i
 simp only [spec_IdOf.l0,spec_IdOf.b0]
 rw [decT (show (i:Int)≤4 by omega),c_t,w64_eq (by omega) (by omega),show (i:Int)+1=((i+1:Nat):Int) by omega]
 unfold hitM
 by_cases c:(s.size:Int) > (i:Int)
 · rw [decT c,c_t,inc_eq (by omega) (by omega),Int.toNat_natCast,specReadDec_eq hk (by omega),o_s]
   simp only [specSegName_eq hk,specHintName_eq hk,o_s]
   generalize readDecM (ByteArray.extract s i s.size)=r
   cases r.2 <;> cases decide (r.1≥1) <;> cases seq (namedM segB r.1) s <;> cases seq (namedM hintB r.1) s <;> rfl
 · rw [decF c]
   rfl
theorem hit_pid {s:ByteArray} {i:Nat} (h:hitM s i=true):Pid s (readDecM (ByteArray.extract s i s.size)).1:=by
 unfold hitM at h
 simp only [b_a,decide_eq_true_eq] at h
 exact named_pid (by omega) h.2.2.2
theorem hit_of {p:ByteArray} {n:Int} (h:Pid (p++decB n) n):hitM (p++decB n) p.size=true∧(readDecM (ByteArray.extract (p++decB n) p.size (p++decB n).size)).1=n:=by
 have hd:dOk n:=⟨by have:=h.1;omega,by have:=h.2.1;omega⟩
 have hp:=decB_pos n
 rw [show ByteArray.extract (p++decB n) p.size (p++decB n).size=decB n from app_tail p (decB n)]
 unfold hitM
 rw [show ByteArray.extract (p++decB n) p.size (p++decB n).size=decB n from app_tail p (decB n),readDec_dec hd]
 refine ⟨?_,rfl⟩
 simp only []
 rw [pid_named h,decT (by rw [ByteArray.size_append];omega),decT h.1]
 rfl
theorem specId_eq {k:Nat} (hk:2 ^ 50≤k) {s:ByteArray} (hs:s.size≤1099511627776):spec_IdOf.f k s=some ((idM s).1,((idM s).2,())):=by
 have e:spec_IdOf.f k s=bif hitM s 3 then some ((readDecM (ByteArray.extract s 3 s.size)).1,(true,())) else bif hitM s 4 then some ((readDecM (ByteArray.extract s 4 s.size)).1,(true,())) else some (0,(false,())):=by
  unfold spec_IdOf.f spec_IdOf.t
  obtain ⟨m,hm⟩:∃ m,k=m+3:=⟨k-3,by omega⟩
  have h3:=id_step hk hs (m+2) 3 (by omega)
  have h4:=id_step hk hs (m+1) 4 (by omega)
  have h5:spec_IdOf.l0 k (m+1) s ((5:Nat):Int)=some (0,(false,())):=rfl
  rw [← hm] at h3
  rw [show (3:Int)=((3:Nat):Int) from rfl,h3,h4,h5]
 rw [e]
 refine undo_of (fun n h1 _=>?_) ?_
 · rcases h1.2.2 with q | q
   · have:=hit_of (p:=segB) (n:=n) (by rw [← q];exact h1)
     rw [← q,show segB.size=3 from rfl] at this
     rw [this.1,this.2]
     rfl
   · cases c:hitM s 3 with
     | true=>rw [pid_one h1 (hit_pid c)];rfl
     | false =>
      have:=hit_of (p:=hintB) (n:=n) (by rw [← q];exact h1)
      rw [← q,show hintB.size=4 from rfl] at this
      rw [this.1,this.2]
      rfl
 · cases c:hitM s 3 with
   | true=>exact .inl ⟨_,hit_pid c,rfl,rfl⟩
   | false =>
    cases c4:hitM s 4 with
    | true=>exact .inl ⟨_,hit_pid c4,rfl,rfl⟩
    | false=>exact .inr rfl
def tempB:ByteArray:=⟨#[116,101,109,112]⟩
noncomputable def isOrph (ids:List Int) (f:Ty.den TFile):Bool:=((idM f.1).2&&!hasN ids (idM f.1).1)||seq f.1 tempB
noncomputable def orphL (ids:List Int):FileL→List ByteArray→List ByteArray
 | [],acc=>acc
 | f::l,acc=>orphL ids l (bif isOrph ids f then acc++[f.1] else acc)
noncomputable def orphM (d:Ty.den TDisk) (ids:List Int):List ByteArray:=bif diskM d then orphL ids d.1 [] else []
theorem diskM_len {d:Ty.den TDisk} (h:diskM d=true):d.1.length≤130:=by
 unfold diskM at h
 rw [b_a,decide_eq_true_eq] at h
 exact h.1
theorem specOrph_eq {k:Nat} (hk:2 ^ 50≤k) {d:Ty.den TDisk} {v:Ty.den TLive} (hu:used d.1≤1099511627776) (hn:names d.1≤1099511627776) (hv:v.2.1.length≤1099511627776):spec_Orphans.f k d v=some (orphM d v.2.1,()):=by
 unfold spec_Orphans.f spec_Orphans.t orphM
 rw [specDisk_eq hk hu hn,o_s]
 cases cd:diskM d with
 | false=>rfl
 | true =>
  have hl:=diskM_len cd
  rw [n_t,c_f,c_t]
  refine forL0 (L:=fun n i s=>spec_Orphans.l0 k n i d.1 d.2.1 d.2.2.1 d.2.2.2.1 v.1 v.2.1 s) (R:=fun r s=>some (orphL v.2.1 r s,())) (Ty.dflt TFile) d.1 (fun i s=>(s.length:Int)≤i) (fun n s hs=>?_) (fun n i s x rest h0 h1 hx hr hs ih=>?_) (n:=k) (s:=[]) (by omega) (by simp)
  · simp (disch:=omega) only [spec_Orphans.l0,spec_Orphans.b0,decF,c_f,orphL]
  · have hm:x ∈ d.1:=by rw [← hx];exact getD_mem (by omega)
    have hz:=names_mem hm
    have iY:=ih (s++[x.1]) (by rw [len_snoc];omega)
    have iN:=ih s (by omega)
    have key:∀ (id:Int) (is:Bool),spec_Orphans.l1 k (spec_Orphans.l0 k n) k i id is false 0 d.1 d.2.1 d.2.2.1 d.2.2.2.1 v.1 v.2.1 s =
     bif (is&&!hasN v.2.1 id)||seq x.1 tempB then spec_Orphans.l0 k n (i+1) d.1 d.2.1 d.2.2.1 d.2.2.2.1 v.1 v.2.1 (s++[x.1]) else spec_Orphans.l0 k n (i+1) d.1 d.2.1 d.2.2.1 d.2.2.2.1 v.1 v.2.1 s:=fun id is=>by
     refine (forL0 (L:=fun m j lv=>spec_Orphans.l1 k (spec_Orphans.l0 k n) m i id is lv j d.1 d.2.1 d.2.2.1 d.2.2.2.1 v.1 v.2.1 s) (R:=fun r lv=>bif (is&&!(lv||hasN r id))||seq x.1 tempB then spec_Orphans.l0 k n (i+1) d.1 d.2.1 d.2.2.1 d.2.2.2.1 v.1 v.2.1 (s++[x.1]) else spec_Orphans.l0 k n (i+1) d.1 d.2.1 d.2.2.1 d.2.2.2.1 v.1 v.2.1 s) (Ty.dflt (.int .i64)) v.2.1 (fun _ _=>True) (fun m lv _=>?_) (fun m j lv y r2 g0 g1 gx gr _ ih2=>?_) (n:=k) (s:=false) (by omega) trivial)
     · simp (disch:=first | omega | decide) only [spec_Orphans.l1,spec_Orphans.b1,decF,c_f,inb_eq,hx,rm_ok,w64_eq]
       rw [show hasN [] id=false from rfl,show (⟨#[116,101,109,112]⟩:ByteArray)=tempB from rfl]
       cases is <;> cases lv <;> cases seq x.1 tempB <;> rfl
     · have e:hasN (y::r2) id=((y==id)||hasN r2 id):=rfl
       simp (disch:=omega) only [spec_Orphans.l1,spec_Orphans.b1,decT g1,c_t,inb_eq,gx,w64_eq,e]
       cases lv with
       | true=>exact (ih2 true trivial)
       | false =>
        have:=ih2 (y==id) trivial
        simp only [c_f,Bool.false_or]
        exact this
    simp (disch:=omega) only [spec_Orphans.l0,spec_Orphans.b0,decT h1,c_t,inb_eq,hx,specId_eq hk,o_s,key]
    rw [show orphL v.2.1 (x::rest) s=orphL v.2.1 rest (bif isOrph v.2.1 x then s++[x.1] else s) from rfl]
    unfold isOrph
    cases ((idM x.1).2&&!hasN v.2.1 (idM x.1).1)||seq x.1 tempB
    · exact iN
    · exact iY
end Go.Proofs.YtmakghhmpgfboaaGreat.G
namespace Go.Proofs.YtmakghhmpgfboaaGreat.G
open Go.V
theorem showLive_sz (v:Ty.den TLive):(showLiveM v).size≤1099511627776:=by
 unfold showLiveM
 split
 · have:=frameM_size (liveT v);omega
 · decide
theorem named_small {p:ByteArray} (hp:p=segB∨p=hintB) (n:Int):(namedM p n).size≤1000:=by
 have hs:p.size≤4:=by rcases hp with q | q <;> rw [q] <;> decide
 unfold namedM
 by_cases h:(1:Int)≤n∧n≤100000
 · have:=decB_small (n:=n) (by omega) (by omega)
   rw [decT h,c_t,ByteArray.size_append]
   omega
 · rw [decF h,c_f];decide
end Go.Proofs.YtmakghhmpgfboaaGreat.G
namespace Go.Proofs.YtmakghhmpgfboaaGreat.G
open Go.V
abbrev RD:=Ty.den TDisk × Int
def seqR (r:RD) (f:Ty.den TDisk→RD):RD:=bif r.2==0 then f r.1 else r
def toldM (c:Int):Int:=bif c==0 then 0 else bif c==1 then 1 else bif c==2 then 2 else 3
def liveB:ByteArray:=⟨#[108,105,118,101]⟩
def goneR (s:ByteArray) (d:Ty.den TDisk):RD:=bif (getM d.1 s).isSome then remM d s else (d,0)
def freshR (s:ByteArray) (d:Ty.den TDisk):RD:=seqR (goneR s d) fun x=>creM x s
def fileR (s t:ByteArray) (d:Ty.den TDisk):RD:=seqR (seqR (freshR s d) fun x=>appM x s t) fun x=>synM x s
def putLiveR (v:Ty.den TLive) (d:Ty.den TDisk):RD:=seqR (fileR tempB (showLiveM v) d) fun x=>renM x tempB liveB
def dropsR:List ByteArray→Ty.den TDisk→RD
 | [],d=>(d,0)
 | s::l,d=>seqR (goneR s d) (dropsR l)
noncomputable def sweepR (ids:List Int) (d:Ty.den TDisk):RD:=dropsR (orphM d ids) d
theorem toldM_zero (c:Int):(toldM c==0)=(c==0):=by
 unfold toldM
 cases h:c==0 with
 | true=>rfl
 | false =>
  cases c==1
  · cases c==2 <;> rfl
  · rfl
theorem seqR_DR {r:RD} {f:Ty.den TDisk→RD} (h:DR r.1) (hf:∀ x,DR x→DR (f x).1):DR (seqR r f).1:=by
 unfold seqR
 cases r.2==0
 · exact h
 · exact hf _ h
theorem gone_DR (s:ByteArray) (d:Ty.den TDisk) (h:DR d):DR (goneR s d).1:=by
 unfold goneR
 cases (getM d.1 s).isSome
 · exact h
 · exact rem_DR h s
theorem fresh_DR (s:ByteArray) (d:Ty.den TDisk) (h:DR d):DR (freshR s d).1:=seqR_DR (gone_DR s d h) fun x hx=>cre_DR hx s
theorem file_DR (s t:ByteArray) (d:Ty.den TDisk) (h:DR d):DR (fileR s t d).1:=seqR_DR (seqR_DR (fresh_DR s d h) fun x hx=>app_DR hx s t) fun x hx=>syn_DR hx s
theorem putLive_DR (v:Ty.den TLive) (d:Ty.den TDisk) (h:DR d):DR (putLiveR v d).1:=seqR_DR (file_DR _ _ d h) fun x hx=>ren_DR hx _ _
theorem drops_DR:∀ (l:List ByteArray) (d:Ty.den TDisk),DR d→DR (dropsR l d).1
 | [],d,h=>h
 | s::l,d,h=>seqR_DR (gone_DR s d h) (drops_DR l)
theorem sweep_DR (ids:List Int) (d:Ty.den TDisk) (h:DR d):DR (sweepR ids d).1:=drops_DR _ d h
theorem specCode_eq (k:Nat) (c:Int):spec_l11Code.f k c=some (toldM c,()):=by
 unfold spec_l11Code.f spec_l11Code.t toldM
 cases c==0 <;> cases c==1 <;> cases c==2 <;> rfl
theorem find_some {l:FileL} {s:ByteArray}:decide (findI l s 0≥0)=(getM l s).isSome:=by
 rcases find_at l s 0 with ⟨h1,h2,_⟩ | ⟨n,h1,h2,h3,_⟩
 · rw [h1,h2];rfl
 · rw [h2,h3,decT (by omega)];rfl
theorem find_none {l:FileL} {s:ByteArray}:decide (findI l s 0<0)=!(getM l s).isSome:=by
 rcases find_at l s 0 with ⟨h1,h2,_⟩ | ⟨n,h1,h2,h3,_⟩
 · rw [h1,h2];rfl
 · rw [h2,h3,decF (by omega)];rfl
theorem specFresh_eq {k:Nat} (hk:2 ^ 50≤k) {d:Ty.den TDisk} (h:DR d) {s:ByteArray} (hs:s.size≤1099511627776):spec_l11Fresh.f k d s=some ((freshR s d).1,((freshR s d).2,())):=by
 have hl:=h.sz.l
 unfold spec_l11Fresh.f spec_l11Fresh.t freshR goneR
 rw [specFind_eq hk (by omega),o_s]
 simp only [find_some]
 cases (getM d.1 s).isSome with
 | false =>
  simp only [c_f]
  rw [specCre_eq hk h.sz hs]
  rfl
 | true =>
  simp only [c_t]
  rw [specRem_eq hk h.sz,o_s]
  unfold seqR
  simp only [bne]
  cases c:(remM d s).2==0 with
  | false=>rfl
  | true =>
   simp only [n_t,c_f,c_t]
   rw [specCre_eq hk (rem_DR h s).sz hs]
   rfl
theorem specFile_eq {k:Nat} (hk:2 ^ 50≤k) {d:Ty.den TDisk} (h:DR d) {s t:ByteArray} (hs:s.size≤1099511627776) (ht:t.size≤1099511627776):spec_l11File.f k d s t=some ((fileR s t d).1,((fileR s t d).2,())):=by
 have h1:=fresh_DR s d h
 unfold spec_l11File.f spec_l11File.t fileR
 rw [specFresh_eq hk h hs,o_s]
 simp only []
 generalize freshR s d=r at h1 ⊢
 unfold seqR
 cases c:r.2==0 with
 | false=>simp only [c_f,c]
 | true =>
  simp only [c_t]
  rw [specApp_eq hk h1.sz s ht,o_s]
  simp only []
  cases c2:(appM r.1 s t).2==0 with
  | false=>rfl
  | true =>
   simp only [c_t]
   rw [specSyn_eq hk (app_DR h1 s t).sz]
   rfl
theorem specPutLive_eq {k:Nat} (hk:2 ^ 50≤k) {d:Ty.den TDisk} (h:DR d) {v:Ty.den TLive} (hv:liveM v=true):spec_PutLive.f k d v=some ((putLiveR v d).1,(toldM (putLiveR v d).2,())):=by
 have hu:=h.sz.u
 have hn:=h.sz.n
 have h1:=file_DR tempB (showLiveM v) d h
 unfold spec_PutLive.f spec_PutLive.t putLiveR
 rw [specDisk_eq hk (by omega) (by omega),o_s,disk_iff.2 h]
 simp only [n_t,c_f]
 rw [specLive_eq hk,o_s,hv]
 simp only [n_t,c_f]
 rw [specShowLive_eq hk,o_s,show (⟨#[116,101,109,112]⟩:ByteArray)=tempB from rfl,show (⟨#[108,105,118,101]⟩:ByteArray)=liveB from rfl]
 simp only []
 rw [specFile_eq hk h (s:=tempB) (t:=showLiveM v) (by decide) (showLive_sz v),o_s]
 simp only []
 generalize fileR tempB (showLiveM v) d=r at h1 ⊢
 unfold seqR
 cases c:r.2==0 with
 | false=>simp only [c_f,specCode_eq,o_s]
 | true =>
  simp only [c_t]
  rw [specRen_eq hk h1.sz tempB (b:=liveB) (by decide),o_s]
  simp only [specCode_eq,o_s]
theorem specDrops_eq {k:Nat} (hk:2 ^ 50≤k) {d:Ty.den TDisk} (h:DR d) {l:List ByteArray} (hl:l.length≤1073741824):spec_l14Drop_g.f k d l=some ((dropsR l d).1,((dropsR l d).2,())):=by
 unfold spec_l14Drop_g.f spec_l14Drop_g.t
 refine forL0 (L:=fun n i (x:Ty.den TDisk)=>spec_l14Drop_g.l0 k n l i x.1 x.2.1 x.2.2.1 x.2.2.2.1 [] 0 0 false) (R:=fun r x=>some ((dropsR r x).1,((dropsR r x).2,()))) (Ty.dflt .str) l (fun _ x=>DR x) (fun n x hx=>?_) (fun n i x y rest h0 h1 hy hr hx ih=>?_) (n:=k) (s:=d) (by omega) h
 · simp only [spec_l14Drop_g.l0,spec_l14Drop_g.b0]
   rw [decF (by omega),c_f]
   rfl
 · have hlx:=hx.sz.l
   simp only [spec_l14Drop_g.l0,spec_l14Drop_g.b0]
   rw [decT h1,c_t,inb_eq h0 h1,hy,show (x.1,(x.2.1,(x.2.2.1,(x.2.2.2.1,()))))=x from rfl,specFind_eq hk (by omega),o_s,inb_eq h0 h1,w64_eq (n:=i+1) (by omega) (by omega)]
   simp only [find_none,dropsR,goneR,seqR]
   cases (getM x.1 y).isSome with
   | false =>
    simp only [n_f,c_t,c_f]
    exact ih x hx
   | true =>
    simp only [n_t,c_f,c_t]
    rw [specRem_eq hk hx.sz,o_s]
    simp only [bne]
    cases c:(remM x y).2==0 with
    | false=>rfl
    | true =>
     simp only [n_t,c_f,c_t]
     exact ih _ (rem_DR hx y)
theorem orphL_eq (ids:List Int):∀ (l:FileL) (acc:List ByteArray),orphL ids l acc=acc++(l.filter (isOrph ids)).map (·.1)
 | [],acc=>by unfold orphL;simp
 | f::l,acc=>by
  unfold orphL
  rw [orphL_eq ids l]
  cases c:isOrph ids f
  · rw [c_f,List.filter_cons_of_neg (by rw [c];decide)]
  · rw [c_t,List.filter_cons_of_pos c,List.map_cons,a_a];rfl
theorem orph_sub {d:Ty.den TDisk} (ids:List Int):(orphM d ids).Sublist (nmsF d.1):=by
 unfold orphM
 cases diskM d
 · exact List.nil_sublist _
 · rw [c_t,orphL_eq,List.nil_append]
   exact (List.filter_sublist).map _
theorem get_del {l:FileL} {s t:ByteArray} (h:t≠s):getM (delF l s) t=getM l t:=by
 induction l with
 | nil=>rfl
 | cons g l ih =>
  unfold delF
  cases c:seq g.1 s with
  | true =>
   rw [c_t,getM.eq_2,seqF (fun q=>h (by rw [← q,seq_iff.1 c])),c_f]
  | false =>
   rw [c_f,getM.eq_2,getM.eq_2,ih]
theorem nms_get {l:FileL} {s:ByteArray} (h:s ∈ nmsF l):(getM l s).isSome=true:=by
 cases q:getM l s with
 | some f=>rfl
 | none =>
  obtain ⟨f,h1,h2⟩:=List.mem_map.1 h
  exact absurd h2 (get_none.1 q f h1)
theorem rem_keep {d:Ty.den TDisk} {s t:ByteArray} (h:t≠s) (ht:(getM d.1 t).isSome=true):(getM (remM d s).1.1 t).isSome=true:=by
 unfold remM stepM
 cases (begM d).2 != 0 with
 | true=>rw [c_t,begM_files];exact ht
 | false =>
  show (getM (remG s d.1 d.2.1).1 t).isSome=true
  unfold remG
  cases (getM d.1 s).isNone
  · show (getM (delF d.1 s) t).isSome=true
    rw [get_del h]
    exact ht
  · exact ht
theorem specSweep_eq {k:Nat} (hk:2 ^ 50≤k) {d:Ty.den TDisk} (h:DR d) {v:Ty.den TLive} (hv:v.2.1.length≤1099511627776):spec_l11Sweep_g.f k d v=some ((sweepR v.2.1 d).1,(toldM (sweepR v.2.1 d).2,())):=by
 have hu:=h.sz.u
 have hn:=h.sz.n
 have hl:=h.len
 have hsub:=orph_sub (d:=d) v.2.1
 have hlen:=hsub.length_le
 unfold nmsF at hlen
 rw [List.length_map] at hlen
 have hne:(orphM d v.2.1).Pairwise (fun a b=>a≠b):=(List.Pairwise.sublist hsub h.keys).imp fun {a b} q e=>by rw [e,sls_irrefl] at q;cases q
 have hall:∀ s ∈ orphM d v.2.1,(getM d.1 s).isSome=true:=fun s hs=>nms_get (hsub.subset hs)
 unfold spec_l11Sweep_g.f spec_l11Sweep_g.t sweepR
 rw [specOrph_eq hk (by omega) (by omega) hv,o_s]
 simp only []
 generalize orphM d v.2.1=l at hlen hne hall ⊢
 refine forL0 (L:=fun n i (x:Ty.den TDisk)=>spec_l11Sweep_g.l0 k n i x.1 x.2.1 x.2.2.1 x.2.2.2.1 [] 0 0 false l) (R:=fun r x=>some ((dropsR r x).1,(toldM (dropsR r x).2,()))) (Ty.dflt .str) l (fun i x=>DR x∧∀ s ∈ l.drop i.toNat,(getM x.1 s).isSome=true) (fun n x hx=>?_) (fun n i x y rest h0 h1 hy hr hx ih=>?_) (n:=k) (s:=d) (by omega) ⟨h,fun s hs=>hall s (List.mem_of_mem_drop hs)⟩
 · simp only [spec_l11Sweep_g.l0,spec_l11Sweep_g.b0]
   rw [decF (by omega),c_f]
   rfl
 · obtain ⟨hd,ha⟩:=hx
   have hp:(y::rest).Pairwise (fun a b=>a≠b):=by rw [← hr];exact hne.drop
   have hdr:l.drop (i+1).toNat=rest:=by
    have:=congrArg (List.drop 1) hr
    rw [List.drop_drop,List.drop_one,List.tail_cons] at this
    rw [show (i+1).toNat=i.toNat+1 by omega]
    exact this
   have hy1:(getM x.1 y).isSome=true:=ha y (by rw [hr];exact m_s ..)
   simp only [spec_l11Sweep_g.l0,spec_l11Sweep_g.b0]
   rw [decT h1,c_t,inb_eq h0 h1,hy,show (x.1,(x.2.1,(x.2.2.1,(x.2.2.2.1,()))))=x from rfl,specRem_eq hk hd.sz,o_s,w64_eq (n:=i+1) (by omega) (by omega)]
   simp only [dropsR,goneR,seqR,hy1,c_t,bne,specCode_eq]
   cases c:(remM x y).2==0 with
   | false=>rfl
   | true =>
    simp only [n_t,c_f,c_t]
    refine ih (remM x y).1 ⟨rem_DR hd y,fun s hs=>?_⟩
    rw [hdr] at hs
    exact rem_keep (fun e=>(List.pairwise_cons.1 hp).1 s hs e.symm) (ha s (by rw [hr];exact m_m _ hs))
end Go.Proofs.YtmakghhmpgfboaaGreat.G
namespace Go.Proofs.YtmakghhmpgfboaaGreat.G
open Go.V
abbrev RecL:=List (Ty.den TRec)
def sealR (kind batch:Int) (l:RecL):Ty.den TRec:=(kind,(batch,(ByteArray.empty,(ByteArray.empty,((l.length:Int),(sumM l,()))))))
theorem specSeal_eq {k:Nat} (hk:2 ^ 50≤k) {l:RecL} (hl:l.length≤1073741824) (b kd:Int):spec_l9Seal.f k l b kd=some (sealR kd b l,()):=by
 unfold spec_l9Seal.f spec_l9Seal.t
 rw [specSumOf_eq hk hl,o_s]
 rfl
end Go.Proofs.YtmakghhmpgfboaaGreat.G
namespace Go.Proofs.YtmakghhmpgfboaaGreat.G
open Go.V
abbrev PairL:=List (Ty.den TPair)
def keyOkB (s:ByteArray):Bool:=decide (1≤(s.size:Int)∧(s.size:Int)≤8)
def keepR (p:Ty.den TPair):Ty.den TRec:=(4,(p.2.2.1,(p.1,(p.2.1,(0,(0,()))))))
def keepsM (l:PairL) (mark:Int):RecL:=l.map keepR++[sealR 5 mark (l.map keepR)]
def framesM:RecL→ByteArray
 | []=>⟨#[]⟩
 | r::l=>frameM (showRec r)++framesM l
theorem framesM_app:∀ l m:RecL,framesM (l++m)=framesM l++framesM m
 | [],m=>by rw [List.nil_append,framesM,app_nil]
 | r::l,m=>by rw [List.cons_append,framesM,framesM_app l m,framesM,app_assoc]
end Go.Proofs.YtmakghhmpgfboaaGreat.G
namespace Go.Proofs.YtmakghhmpgfboaaGreat.G
open Go.V
abbrev EntryL:=List (Ty.den TEntry)
end Go.Proofs.YtmakghhmpgfboaaGreat.G
namespace Go.Proofs.YtmakghhmpgfboaaGreat.G
open Go.V
noncomputable def recAtM (s:ByteArray) (i n:Int):Ty.den TRec × Bool :=
 if 0≤i∧i≤s.size∧1≤n∧n≤s.size-i then (if (unfM (ByteArray.extract s i.toNat (i+n).toNat)).2=n then readRecM (unfM (ByteArray.extract s i.toNat (i+n).toNat)).1 else (zRec,false)) else (zRec,false)
theorem readRec_no {s:ByteArray} (h:(readRecM s).2=false):readRecM s=(zRec,false):=undo_no h
theorem ext_le (s:ByteArray) (i j:Nat):(ByteArray.extract s i j).size≤s.size:=by
 rw [← nb_len,nb_ext,List.length_drop,List.length_take,nb_len];omega
theorem specRecAt_eq {k:Nat} (hk:2 ^ 50≤k) {s:ByteArray} (i n:Int) (hs:s.size≤1099511627775):spec_RecAt.f k s i n=some ((recAtM s i n).1,((recAtM s i n).2,())):=by
 unfold spec_RecAt.f spec_RecAt.t recAtM
 rw [l1In_eq,o_s]
 by_cases c1:0≤i∧i≤s.size
 case neg=>rw [decF c1,if_neg (fun h=>c1 ⟨h.1,h.2.1⟩)];rfl
 rw [decT c1,n_t,c_f,l1In_eq,o_s,w64_eq (by omega) (by omega)]
 by_cases c2:1≤n∧n≤s.size-i
 case neg=>rw [decF c2,if_neg (fun h=>c2 ⟨h.2.2.1,h.2.2.2⟩)];rfl
 have hz:=ext_le s i.toNat (i+n).toNat
 have hu:=unf_bound (ByteArray.extract s i.toNat (i+n).toNat)
 rw [decT c2,n_t,c_f,w64_eq (by omega) (by omega),inc2_eq (by omega) (by omega) (by omega),if_pos ⟨c1.1,c1.2,c2⟩,specUnframe_eq hk (by omega),o_s]
 simp only []
 rw [specReadRec_eq hk (by omega),o_s]
 by_cases c3:(unfM (ByteArray.extract s i.toNat (i+n).toNat)).2=n
 · rw [if_pos c3]
   simp only [show ((unfM (ByteArray.extract s i.toNat (i+n).toNat)).2 != n)=false by rw [c3];simp,c_f]
   cases c4:(readRecM (unfM (ByteArray.extract s i.toNat (i+n).toNat)).1).2 with
   | true=>rfl
   | false=>rw [readRec_no c4];rfl
 · rw [if_neg c3]
   simp only [show ((unfM (ByteArray.extract s i.toNat (i+n).toNat)).2 != n)=true from bne_iff_ne.2 c3,c_t]
theorem implRecAt_eq {k:Nat} (hk:2 ^ 50≤k) {s:ByteArray} (i n:Int) (hs:s.size≤1099511627775):impl_RecAt.f k s i n=some ((recAtM s i n).1,((recAtM s i n).2,())):=by
 unfold impl_RecAt.f impl_RecAt.t recAtM
 rw [in_eq,o_s]
 by_cases c1:0≤i∧i≤s.size
 case neg=>rw [decF c1,if_neg (fun h=>c1 ⟨h.1,h.2.1⟩)];rfl
 rw [decT c1,n_t,c_f,in_eq,o_s,w64_eq (by omega) (by omega)]
 by_cases c2:0≤n∧n≤s.size-i
 case neg=>rw [decF c2,if_neg (fun h=>c2 ⟨by omega,h.2.2.2⟩)];rfl
 have hz:=ext_le s i.toNat (i+n).toNat
 have hu:=unf_bound (ByteArray.extract s i.toNat (i+n).toNat)
 have hsz:(ByteArray.extract s i.toNat (i+n).toNat).size≤(i+n).toNat-i.toNat:=by rw [← nb_len,nb_ext,List.length_drop,List.length_take];omega
 rw [decT c2,n_t,c_f,w64_eq (by omega) (by omega),inc2_eq (by omega) (by omega) (by omega),implUnframe_eq hk (by omega),o_s]
 simp only []
 by_cases c0:(unfM (ByteArray.extract s i.toNat (i+n).toNat)).2=0
 · rw [show ((unfM (ByteArray.extract s i.toNat (i+n).toNat)).2==0)=true by rw [c0];rfl,c_t]
   split
   · rename_i h
     rw [if_neg (by omega)]
   · rfl
 · rw [show ((unfM (ByteArray.extract s i.toNat (i+n).toNat)).2==0)=false from q_f c0,c_f,if_pos ⟨c1.1,c1.2,by omega,c2.2⟩]
   by_cases c3:(unfM (ByteArray.extract s i.toNat (i+n).toNat)).2=n
   · rw [if_pos c3]
     simp only [show ((unfM (ByteArray.extract s i.toNat (i+n).toNat)).2 != n)=false by rw [c3];simp,c_f]
     rw [implReadRec_eq hk (by omega),o_s]
   · rw [if_neg c3]
     simp only [show ((unfM (ByteArray.extract s i.toNat (i+n).toNat)).2 != n)=true from bne_iff_ne.2 c3,c_t]
end Go.Proofs.YtmakghhmpgfboaaGreat.G
namespace Go.Proofs.YtmakghhmpgfboaaGreat.G
open Go.V
def entOk (p:Option (Ty.den TEntry)) (x:Ty.den TEntry):Bool :=
 keyOkB x.1&&(decide ((1:Int)≤x.2.1∧x.2.1≤100000)&&(!decide (x.2.2.1<(0:Int))&&(decide ((1:Int)≤x.2.2.2.1∧x.2.2.2.1≤210)&&(decide ((1:Int)≤x.2.2.2.2.1∧x.2.2.2.2.1≤1000000)&&(match p with | none=>true | some y=>sls y.1 x.1)))))
def dirM (l:EntryL):Bool:=decide ((l.length:Int)≤20)&&adj entOk none l
theorem specDir_eq {k:Nat} (hk:2 ^ 50≤k) (l:EntryL):spec_DirOk.f k l=some (dirM l,()):=by
 unfold spec_DirOk.f spec_DirOk.t dirM
 by_cases c:l.length > 20
 · rw [decT (by omega),c_t,decF (by omega),Bool.false_and]
 · rw [decF (by omega),c_f,decT (by omega),Bool.true_and]
   refine (forAdj (L:=fun n i=>spec_DirOk.l0 k n l i) (Ty.dflt TEntry) l entOk (some (true,())) (some (false,())) (fun n=>?_) (fun n x h hx=>?_) (fun n i x y h0 h1 hx hy=>?_) (n:=k) (by omega)).trans (by cases adj entOk none l <;> rfl)
   · simp (disch:=omega) only [spec_DirOk.l0,spec_DirOk.b0,decF,c_f]
   · simp (disch:=omega) only [spec_DirOk.l0,spec_DirOk.b0,decT (show (0:Int)<(l.length:Int) by omega),c_t,inb_eq,hx,specKeyOk_eq k,l1InD_eq k,o_s,decF (show ¬ (0:Int) > 0 by omega),c_f,w64_eq,entOk,keyOkB]
     cases decide (1≤(x.1.size:Int)∧(x.1.size:Int)≤8) <;> cases decide ((1:Int)≤x.2.1∧x.2.1≤100000) <;> cases decide (x.2.2.1<(0:Int)) <;> cases decide ((1:Int)≤x.2.2.2.1∧x.2.2.2.1≤210) <;> cases decide ((1:Int)≤x.2.2.2.2.1∧x.2.2.2.2.1≤1000000) <;> rfl
   · simp (disch:=omega) only [spec_DirOk.l0,spec_DirOk.b0,decT h1,c_t,inb_eq,hx,hy,specKeyOk_eq k,l1InD_eq k,o_s,decT (show i > 0 by omega),c_f,w64_eq,entOk,keyOkB,sls_total]
     cases decide (1≤(x.1.size:Int)∧(x.1.size:Int)≤8) <;> cases decide ((1:Int)≤x.2.1∧x.2.1≤100000) <;> cases decide (x.2.2.1<(0:Int)) <;> cases decide ((1:Int)≤x.2.2.2.1∧x.2.2.2.1≤210) <;> cases decide ((1:Int)≤x.2.2.2.2.1∧x.2.2.2.2.1≤1000000) <;> cases sls y.1 x.1 <;> rfl
def getE:EntryL→ByteArray→Option (Ty.den TEntry)
 | [],_=>none
 | e::l,s=>bif seq e.1 s then some e else getE l s
def zEntry:Ty.den TEntry:=(ByteArray.empty,(0,(0,(0,(0,())))))
def getR:Option (Ty.den TEntry)→Option (Ty.den TEntry × Bool × Unit)
 | none=>some (zEntry,(false,()))
 | some e=>some (e,(true,()))
theorem specDirGet_eq {k:Nat} (hk:2 ^ 50≤k) {l:EntryL} (hl:l.length≤1099511627776) (s:ByteArray):spec_DirGet.f k l s=getR (getE l s):=by
 unfold spec_DirGet.f spec_DirGet.t
 refine forL0 (L:=fun n i (_:Unit)=>spec_DirGet.l0 k n l s i ByteArray.empty 0 0 0 0) (R:=fun r _=>getR (getE r s)) (Ty.dflt TEntry) l (fun _ _=>True) (fun n _ _=>?_) (fun n i _ x rest h0 h1 hx hr hp ih=>?_) (n:=k) (s:=()) (by omega) trivial
 · simp (disch:=omega) only [spec_DirGet.l0,spec_DirGet.b0,decF,c_f,getE]
   rfl
 · have ih:=ih () trivial
   simp (disch:=omega) only [spec_DirGet.l0,spec_DirGet.b0,decT h1,c_t,inb_eq,hx,w64_eq,ih,getE]
   cases seq x.1 s <;> rfl
def zPair:Ty.den TPair:=(ByteArray.empty,(ByteArray.empty,(0,())))
noncomputable def recE (d:Ty.den TDisk) (e:Ty.den TEntry):Ty.den TRec × Bool:=recAtM (textM d (namedM segB e.2.1)).1 e.2.2.1 e.2.2.2.1
noncomputable def getP (l:EntryL) (d:Ty.den TDisk) (key:ByteArray):Ty.den TPair × Int :=
 match getE l key with
 | none=>(zPair,8)
 | some e=>bif (recE d e).2&&(seq (recE d e).1.2.2.1 key&&(((recE d e).1.1==1)||((recE d e).1.1==4))) then ((key,((recE d e).1.2.2.2.1,((recE d e).1.2.1,()))),0) else (zPair,3)
theorem recAt_empty (i n:Int):recAtM ⟨#[]⟩ i n=(zRec,false):=by
 unfold recAtM
 rw [if_neg]
 rintro ⟨h1,h2,h3,h4⟩
 have:((⟨#[]⟩:ByteArray).size:Int)=0:=rfl
 omega
theorem text_no {d:Ty.den TDisk} {s:ByteArray} (h:(textM d s).2=false):(textM d s).1=⟨#[]⟩:=by
 unfold textM at h ⊢
 generalize diskM d=b at h ⊢
 generalize getM d.1 s=o at h ⊢
 cases b <;> cases o <;> first | rfl | cases h
theorem recE_text {d:Ty.den TDisk} {e:Ty.den TEntry} (h:(recE d e).2=true):(textM d (namedM segB e.2.1)).2=true:=by
 cases c:(textM d (namedM segB e.2.1)).2 with
 | true=>rfl
 | false =>
  unfold recE at h
  rw [text_no c,recAt_empty] at h
  cases h
theorem specGet_eq {k:Nat} (hk:2 ^ 50≤k) {st:Ty.den TStore} {d:Ty.den TDisk} (hd:DSz d) (hl:st.2.1.length≤1099511627776) (key:ByteArray):spec_Get.f k st d key=some ((getP st.2.1 d key).1,((getP st.2.1 d key).2,())):=by
 have:=hd.l;have:=hd.u;have:=hd.n
 unfold spec_Get.f spec_Get.t getP
 rw [specDirGet_eq hk hl]
 cases getE st.2.1 key with
 | none=>rfl
 | some e =>
  unfold getR
  have hz:=textM_size d (namedM segB e.2.1)
  simp only [o_s,n_t,c_f,specSegName_eq hk]
  rw [specText_eq hk (by omega) (by omega) (by omega),o_s]
  simp only []
  rw [specRecAt_eq hk _ _ (by omega),o_s]
  change (bif !(textM d (namedM segB e.2.1)).2 then _ else bif !(recE d e).2 then _ else bif !seq (recE d e).1.2.2.1 key then _ else bif !((recE d e).1.1==1) then bif !((recE d e).1.1==4) then _ else some ((key,((recE d e).1.2.2.2.1,((recE d e).1.2.1,()))),(0,())) else some ((key,((recE d e).1.2.2.2.1,((recE d e).1.2.1,()))),(0,())))=_
  cases c:(recE d e).2 with
  | false=>cases (textM d (namedM segB e.2.1)).2 <;> rfl
  | true =>
   rw [recE_text c]
   cases seq (recE d e).1.2.2.1 key <;> cases ((recE d e).1.1==1) <;> cases ((recE d e).1.1==4) <;> rfl
noncomputable def dumpL (l:EntryL) (d:Ty.den TDisk):List ByteArray→PairL→PairL × Int
 | [],acc=>(acc,0)
 | key::r,acc=>bif (getP l d key).2 != 0 then ([],(getP l d key).2) else dumpL l d r (acc++[(getP l d key).1])
noncomputable def dumpM (l:EntryL) (d:Ty.den TDisk):PairL × Int:=dumpL l d (l.map (·.1)) []
theorem dumpL_len (l:EntryL) (d:Ty.den TDisk):∀ (r:List ByteArray) (acc:PairL),(dumpL l d r acc).1.length≤acc.length+r.length
 | [],acc=>Nat.le_refl _
 | key::r,acc=>by
  unfold dumpL
  cases (getP l d key).2 != 0 with
  | true=>exact Nat.zero_le _
  | false =>
   have:=dumpL_len l d r (acc++[(getP l d key).1])
   rw [len_snoc] at this
   rw [c_f,l_c]
   omega
theorem dumpM_len (l:EntryL) (d:Ty.den TDisk):(dumpM l d).1.length≤l.length:=by
 have:=dumpL_len l d (l.map (·.1)) []
 rw [List.length_map,List.length_nil] at this
 unfold dumpM
 omega
theorem specDump_eq {k:Nat} (hk:2 ^ 50≤k) {st:Ty.den TStore} {d:Ty.den TDisk} (hd:DSz d) (hl:st.2.1.length≤1099511627775):spec_Dump.f k st d=some ((dumpM st.2.1 d).1,((dumpM st.2.1 d).2,())):=by
 unfold spec_Dump.f spec_Dump.t dumpM
 refine forL0 (L:=fun n i s=>spec_Dump.l0 k n i st.1.1 st.1.2.1 st.2.1 st.2.2.1 st.2.2.2.1 st.2.2.2.2.1 d.1 d.2.1 d.2.2.1 d.2.2.2.1 s) (R:=fun r s=>some ((dumpL st.2.1 d (r.map (·.1)) s).1,((dumpL st.2.1 d (r.map (·.1)) s).2,()))) (Ty.dflt TEntry) st.2.1 (fun i s=>(s.length:Int)=i) (fun n s hs=>?_) (fun n i s x rest h0 h1 hx hr hp ih=>?_) (n:=k) (s:=[]) (by omega) rfl
 · simp (disch:=omega) only [spec_Dump.l0,spec_Dump.b0,decF,c_f,List.map_nil,dumpL]
 · have hg:=specGet_eq hk (st:=st) (d:=d) hd (by omega) x.1
   have ih:=ih (s++[(getP st.2.1 d x.1).1]) (by rw [len_snoc];omega)
   simp (disch:=first | omega | decide) only [spec_Dump.l0,spec_Dump.b0,decT h1,c_t,inb_eq,hx,hg,o_s,rm_ok,w64_eq,ih,List.map_cons,dumpL]
   cases (getP st.2.1 d x.1).2 != 0 <;> rfl
noncomputable def segOk (d:Ty.den TDisk) (tail:Int) (x:Int) (last:Bool):Bool :=
 (textM d (namedM segB x)).2&&(decide ((scanM (textM d (namedM segB x)).1).2=((textM d (namedM segB x)).1.size:Int))&&(!last||(tail==((textM d (namedM segB x)).1.size:Int))))
noncomputable def segsOk (d:Ty.den TDisk) (tail:Int):List Int→Bool
 | []=>true
 | x::l=>segOk d tail x l.isEmpty&&segsOk d tail l
noncomputable def entIn (d:Ty.den TDisk) (next:Int) (e:Ty.den TEntry):Bool :=
 (recE d e).2&&(seq (recE d e).1.2.2.1 e.1&&(((recE d e).1.2.1==e.2.2.2.2.1)&&((((recE d e).1.1==1)||((recE d e).1.1==4))&&!decide (e.2.2.2.2.1≥next))))
noncomputable def storeM (st:Ty.den TStore) (d:Ty.den TDisk):Bool :=
 diskM d&&(liveM st.1&&(dirM st.2.1&&(decide ((1:Int)≤st.2.2.1∧st.2.2.1≤1000001)&&(segsOk d st.2.2.2.1 st.1.2.1&&st.2.1.all (entIn d st.2.2.1)))))
theorem last_iff {α:Type} {l:List α} {i:Int} {x:α} {rest:List α} (h0:0≤i) (h:l.drop i.toNat=x::rest):rest.isEmpty=decide (i+1=(l.length:Int)):=by
 have:=congrArg List.length h
 rw [List.length_drop,l_c] at this
 cases rest with
 | nil=>rw [decT (by rw [List.length_nil] at this;omega)];rfl
 | cons y r=>rw [decF (by rw [l_c] at this;omega)];rfl
theorem specStore_eq {k:Nat} (hk:2 ^ 50≤k) {st:Ty.den TStore} {d:Ty.den TDisk} (hd:DSz d):spec_StoreOk.f k st d=some (storeM st d,()):=by
 have:=hd.l;have:=hd.u;have:=hd.n
 unfold spec_StoreOk.f spec_StoreOk.t storeM
 rw [specDisk_eq hk (by omega) (by omega),o_s]
 cases diskM d with
 | false=>rfl
 | true =>
  rw [n_t,c_f,specLive_eq hk,o_s,Bool.true_and]
  cases cl:liveM st.1 with
  | false=>rfl
  | true =>
   rw [n_t,c_f,specDir_eq hk,o_s,Bool.true_and]
   cases cd:dirM st.2.1 with
   | false=>rfl
   | true =>
    rw [n_t,c_f,l1InD_eq,o_s,Bool.true_and]
    cases decide ((1:Int)≤st.2.2.1∧st.2.2.1≤1000001) with
    | false=>rfl
    | true =>
     rw [n_t,c_f,Bool.true_and]
     have hl:st.1.2.1.length≤60:=by
      unfold liveM at cl
      rw [b_a,b_a,decide_eq_true_eq,decide_eq_true_eq] at cl
      omega
     have he:st.2.1.length≤20:=by
      unfold dirM at cd
      rw [b_a,decide_eq_true_eq] at cd
      omega
     have l1:spec_StoreOk.l1 k k 0 st.1.1 st.1.2.1 st.2.1 st.2.2.1 st.2.2.2.1 st.2.2.2.2.1 d.1 d.2.1 d.2.2.1 d.2.2.2.1=some (st.2.1.all (entIn d st.2.2.1),()):=by
      refine forL0 (L:=fun n i (_:Unit)=>spec_StoreOk.l1 k n i st.1.1 st.1.2.1 st.2.1 st.2.2.1 st.2.2.2.1 st.2.2.2.2.1 d.1 d.2.1 d.2.2.1 d.2.2.2.1) (R:=fun r _=>some (r.all (entIn d st.2.2.1),())) (Ty.dflt TEntry) st.2.1 (fun _ _=>True) (fun n _ _=>?_) (fun n i _ x rest h0 h1 hx hr hp ih=>?_) (n:=k) (s:=()) (by omega) trivial
      · simp (disch:=omega) only [spec_StoreOk.l1,spec_StoreOk.b1,decF,c_f,List.all_nil]
      · have ih:=ih () trivial
        have hz:=textM_size d (namedM segB x.2.1)
        have ht:=specText_eq hk (d:=d) (by omega) (by omega) (by omega) (namedM segB x.2.1)
        have hr:=specRecAt_eq hk (s:=(textM d (namedM segB x.2.1)).1) x.2.2.1 x.2.2.2.1 (by omega)
        simp (disch:=omega) only [spec_StoreOk.l1,spec_StoreOk.b1,decT h1,c_t,inb_eq,hx,specSegName_eq hk,o_s,ht,hr,w64_eq,ih,List.all_cons,entIn,recE,bne]
        cases (recAtM (textM d (namedM segB x.2.1)).1 x.2.2.1 x.2.2.2.1).2 <;> cases seq (recAtM (textM d (namedM segB x.2.1)).1 x.2.2.1 x.2.2.2.1).1.2.2.1 x.1 <;> cases ((recAtM (textM d (namedM segB x.2.1)).1 x.2.2.1 x.2.2.2.1).1.2.1==x.2.2.2.2.1) <;>
         cases ((recAtM (textM d (namedM segB x.2.1)).1 x.2.2.1 x.2.2.2.1).1.1==1) <;> cases ((recAtM (textM d (namedM segB x.2.1)).1 x.2.2.1 x.2.2.2.1).1.1==4) <;> cases decide (x.2.2.2.2.1≥st.2.2.1) <;> rfl
     refine (forL0 (L:=fun n i (_:Unit)=>spec_StoreOk.l0 k n i st.1.1 st.1.2.1 st.2.1 st.2.2.1 st.2.2.2.1 st.2.2.2.2.1 d.1 d.2.1 d.2.2.1 d.2.2.2.1) (R:=fun r _=>some (segsOk d st.2.2.2.1 r&&st.2.1.all (entIn d st.2.2.1),())) (Ty.dflt (.int .i64)) st.1.2.1 (fun _ _=>True) (fun n _ _=>?_) (fun n i _ x rest h0 h1 hx hr hp ih=>?_) (n:=k) (s:=()) (by omega) trivial)
     · simp (disch:=omega) only [spec_StoreOk.l0,spec_StoreOk.b0,decF,c_f,segsOk,l1,Bool.true_and]
     · have ih:=ih () trivial
       have hz:=textM_size d (namedM segB x)
       have ht:=specText_eq hk (d:=d) (by omega) (by omega) (by omega) (namedM segB x)
       have hs:=specScan_eq hk (s:=(textM d (namedM segB x)).1) (by omega)
       have hle:=(scanM_len (textM d (namedM segB x)).1).2.2
       have hlast:=last_iff h0 hr
       simp (disch:=omega) only [spec_StoreOk.l0,spec_StoreOk.b0,decT h1,c_t,inb_eq,hx,specSegName_eq hk,o_s,ht,hs,w64_eq,ih,segsOk,segOk,bne,hlast]
       rw [show ((i+1:Int)==(st.1.2.1.length:Int))=decide (i+1=(st.1.2.1.length:Int)) from rfl]
       cases (textM d (namedM segB x)).2 with
       | false=>rfl
       | true =>
        by_cases q:(scanM (textM d (namedM segB x)).1).2=((textM d (namedM segB x)).1.size:Int)
        · rw [decT q,decF (by omega)]
          cases decide (i+1=(st.1.2.1.length:Int)) <;> cases (st.2.2.2.1==((textM d (namedM segB x)).1.size:Int)) <;> rfl
        · rw [decF q,decT (by omega)]
          rfl
end Go.Proofs.YtmakghhmpgfboaaGreat.G
namespace Go.Proofs.YtmakghhmpgfboaaGreat.G
open Go.V
theorem get_upd {h:Ty.den TFile→Ty.den TFile} (hh:∀ f,(h f).1=f.1):∀ (l:FileL) (s t:ByteArray),getM (updF h l s) t=bif seq t s then (getM l s).map h else getM l t
 | [],s,t=>by cases seq t s <;> rfl
 | g::l,s,t=>by
  unfold updF
  cases c:seq g.1 s with
  | true =>
   have e:=seq_iff.1 c
   rw [c_t,getM.eq_2,hh,getM.eq_2,c,c_t]
   by_cases q:t=s
   · rw [e,q,seq_refl];rfl
   · rw [seqF q,c_f,getM.eq_2]
     rw [e,seqF (fun w=>q w.symm)]
     rfl
  | false =>
   rw [c_f,getM.eq_2,getM.eq_2,c,c_f,get_upd hh l s t,getM.eq_2]
   by_cases q:t=s
   · rw [q,seq_refl,c];rfl
   · rw [seqF q];rfl
theorem step_zero {d:Ty.den TDisk} {g:FileL→Int→FileL × Int} (h:(stepM d g).2=0):(g d.1 d.2.1).2=0∧(stepM d g).1.1=(g d.1 d.2.1).1:=by
 unfold stepM at h ⊢
 cases c:(begM d).2 != 0 with
 | true =>
  rw [c,c_t] at h
  rw [h] at c
  cases c
 | false=>rw [c] at h;exact ⟨h,rfl⟩
theorem seqR_zero {r:RD} {f:Ty.den TDisk→RD} (h:(seqR r f).2=0):r.2=0∧seqR r f=f r.1∧(f r.1).2=0:=by
 unfold seqR at h ⊢
 cases c:r.2==0 with
 | true=>rw [c] at h;exact ⟨q_t c,rfl,h⟩
 | false =>
  rw [c] at h
  rw [c_f] at h
  rw [h] at c
  cases c
noncomputable def segT (d:Ty.den TDisk) (x:Int):ByteArray:=(textM d (namedM segB x)).1
def lastI (ids:List Int):Int:=ids.getD (ids.length-1) 0
noncomputable def fixR (x:Int) (d:Ty.den TDisk):RD :=
 seqR (bif decide ((scanM (segT d x)).2<((segT d x).size:Int)) then truM d (namedM segB x) (scanM (segT d x)).2 else (d,0)) fun y=>synM y (namedM segB x)
theorem fix_DR (x:Int) {d:Ty.den TDisk} (h:DR d):DR (fixR x d).1:=by
 unfold fixR
 refine seqR_DR ?_ fun y hy=>syn_DR hy _
 cases decide ((scanM (segT d x)).2<((segT d x).size:Int))
 · exact h
 · exact tru_DR h _ _
end Go.Proofs.YtmakghhmpgfboaaGreat.G

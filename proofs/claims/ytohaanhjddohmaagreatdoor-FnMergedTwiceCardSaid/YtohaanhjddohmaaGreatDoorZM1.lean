/- Plain laws, merged; what is proved here is told ahead of each part. -/
import Derived.Test.YtohaanhjddohmaaGreatDoorZME
import Derived.Lib.ItoaNum
import Derived.Lib.AtoiAll
import Derived.Lib.AtoiAllCases
import Derived.Test.YtohaanhjddohmaaGreatDoorVPure
import Derived.Test.YtohaanhjddohmaaGreatDoorXLib
set_option linter.unusedVariables false
set_option linter.unusedSimpArgs false
namespace Go.V
theorem aO {α β:Type} {a:α} {f:α→Option β}:Option.bind (some a) f=f a:=rfl
theorem aM {α:Type} {a b:α}:cond false a b=b:=rfl
theorem aX {α:Type} {a b:α}:cond true a b=a:=rfl
theorem ft:(!true)=false:=rfl
theorem tI:(!false)=true:=rfl
theorem mJ {α:Type} [BEq α] [LawfulBEq α] {a b:α} (h:a≠b):(a==b)=false:=beq_eq_false_iff_ne.2 h
theorem ng (i:Nat):Int.toNat (i:Int)=i:=Int.toNat_natCast i
theorem lB {α:Type} {a:α} {l:List α}:(a::l).length=l.length+1:=rfl
theorem xS {α:Type} {l m:List α}:(l++m).length=l.length+m.length:=List.length_append
theorem sy {α:Type} (l m n:List α):l++m++n=l++(m++n):=List.append_assoc l m n
theorem GU {α:Type} [BEq α] [LawfulBEq α] {a b:α} (h:(a==b)=true):a=b:=beq_iff_eq.1 h
theorem j6 (a b:Bool):((a&&b)=true)=(a=true∧b=true):=Bool.and_eq_true a b
theorem oE {α:Type} {a:α} {l:List α}:a ∈ a::l:=List.mem_cons_self
theorem qy {α:Type} (y:α) {a:α} {l:List α} (h:a ∈ l):a ∈ y::l:=List.mem_cons_of_mem y h
end Go.V
namespace Go.V
theorem aN {p:Prop} [Decidable p] (h:p):decide p=true:=decide_eq_true h
theorem aP {p:Prop} [Decidable p] (h:¬ p):decide p=false:=decide_eq_false h
theorem ba {R:Type} {b n:Nat} {k:Option R} (h:n≤1099511627776) (hb:b≤128):rm b n k=k :=
 Ju (Nat.le_trans (Nat.mul_le_mul h hb) (by decide)) (by omega)
theorem dL {R:Type} {a b:ByteArray} {k:Option R} (h:a.size+b.size≤4611686018427387904):k_ a b k=k:=zY (by omega)
theorem J_ {R:Type} {b:Nat} {n:Int} {k:Option R} (h0:0≤n) (h:n≤1099511627776) (hb:b≤128):JU b n k=k :=
 CS h0 (Nat.le_trans (Nat.mul_le_mul (show n.toNat≤1099511627776 by omega) hb) (by decide)) (by omega)
theorem vH {n:Int} (h0:0≤n) (h1:n≤4294967295):IntKind.wrap .u32 n=n:=by
 unfold IntKind.wrap
 simp [IntKind.bits,IntKind.signed]
 omega
theorem o9 {n:Int} (h0:0≤n) (h1:n≤255):IntKind.wrap .u8 n=n:=by
 unfold IntKind.wrap
 simp [IntKind.bits,IntKind.signed]
 omega
theorem JN {α:Type} {g:Nat→Option α} {r:α} (h:∀ k,2 ^ 50≤k→g k=some r):Ev g r:=⟨2 ^ 50,h⟩
section
variable {α σ ρ:Type}
theorem Je {L:Nat→σ→Option ρ} {R:σ→Option ρ} (μ:σ→Nat) (P:σ→Prop)
 (h:∀ n s,P s→(∀ s',P s'→μ s' < μ s→L n s'=R s')→L (n+1) s=R s):∀ n s,P s→μ s<n→L n s=R s
 | 0,s,_,hn=>by omega
 | n+1,s,hs,hn=>h n s hs fun s' h1 h2=>Je μ P h n s' h1 (by omega)
theorem HJ {L:Nat→Int→σ→Option ρ} {R:Int→σ→Option ρ} (N:Int) (P:Int→σ→Prop)
 (h0:∀ (n:Nat) s,P N s→L (n+1) N s=R N s)
 (h1:∀ (n:Nat) (i:Int) s,0≤i→i<N→P i s→(∀ s',P (i+1) s'→L n (i+1) s'=R (i+1) s')→L (n+1) i s=R i s) :
 ∀ (n:Nat) (i:Int) s,0≤i→i≤N→N-i<n→P i s→L n i s=R i s
 | 0,i,s,hi,hN,hn,_=>by omega
 | n+1,i,s,hi,hN,hn,hs=>by
  by_cases c:i=N
  · subst c;exact h0 n s hs
  · exact h1 n i s hi (by omega) hs fun s' q=>HJ N P h0 h1 n (i+1) s' (by omega) (by omega) (by omega) q
theorem Gk {L:Nat→Int→σ→Option ρ} {R:List α→σ→Option ρ} (z:α) (l:List α) (P:Int→σ→Prop)
 (h0:∀ (n:Nat) s,P l.length s→L (n+1) l.length s=R [] s)
 (h1:∀ (n:Nat) (i:Int) s x rest,0≤i→i<l.length→l.getD i.toNat z=x→l.drop i.toNat=x::rest→P i s→(∀ s',P (i+1) s'→L n (i+1) s'=R rest s')→L (n+1) i s=R (x::rest) s) :
 ∀ (n:Nat) (i:Int) s,0≤i→i≤l.length→(l.length:Int)-i<n→P i s→L n i s=R (l.drop i.toNat) s:=by
 intro n i s hi hN hn hs
 refine HJ (L:=L) (R:=fun i s=>R (l.drop i.toNat) s) l.length P (fun n s q=>?_) (fun n i s hi hlt q ih=>?_) n i s hi hN hn hs
 · rw [h0 n s q,Int.toNat_natCast,List.drop_length]
 · have hl:i.toNat<l.length:=by omega
   have e:l.drop i.toNat=l.getD i.toNat z::l.drop (i+1).toNat:=by
    rw [List.drop_eq_getElem_cons hl,show (i+1).toNat=i.toNat+1 by omega]
    simp [List.getD,hl]
   show _=R (l.drop i.toNat) s
   rw [e]
   exact h1 n i s _ _ hi hlt rfl e q ih
theorem dZ {L:Nat→Int→σ→Option ρ} {R:List α→σ→Option ρ} (z:α) (l:List α) (P:Int→σ→Prop)
 (h0:∀ (n:Nat) s,P l.length s→L (n+1) l.length s=R [] s)
 (h1:∀ (n:Nat) (i:Int) s x rest,0≤i→i<l.length→l.getD i.toNat z=x→l.drop i.toNat=x::rest→P i s→(∀ s',P (i+1) s'→L n (i+1) s'=R rest s')→L (n+1) i s=R (x::rest) s)
 {n:Nat} {s:σ} (hn:l.length<n) (hs:P 0 s):L n 0 s=R l s:=by
 have:=Gk z l P h0 h1 n 0 s (by omega) (by omega) (by omega) hs
 simpa using this
end
theorem mH {a b:ByteArray} (h:a≠b):seq a b=false:=by
 cases c:seq a b
 · rfl
 · exact absurd (dS.1 c) h
theorem I9 {a b:ByteArray} (h:a=b):seq a b=true:=dS.2 h
theorem Du (a b:ByteArray):seq a b=decide (a=b):=by
 by_cases h:a=b
 · rw [I9 h,aN h]
 · rw [mH h,aP h]
theorem Hj {α:Type} {l:List α} {i:Nat} {x:α} {rest:List α} (h:l.drop i=x::rest):i<l.length:=by
 rcases Nat.lt_or_ge i l.length with q | q
 · exact q
 · rw [List.drop_eq_nil_of_le q] at h;cases h
end Go.V
namespace Go.V
def vl:Nat→Nat→List Nat
 | 0,a=>[a]
 | d+1,a=>if a≥128 then (128+a % 128)::vl d (a/128) else [a]
def qu:List Nat→Nat
 | []=>0
 | b::p=>b % 128+128*qu p
def qD:List Nat→Bool
 | []=>false
 | [b]=>decide (b<128)
 | b::c::p=>decide (128≤b)&&(decide (b<256)&&(qD (c::p)&&!(decide (p=[])&&c==0)))
theorem vE:∀ (d a:Nat),a<128 ^ (d+1)→qD (vl d a)=true∧qu (vl d a)=a∧(vl d a=[0]→a=0)
 | 0,a,h=>by
  have:a<128:=by simpa using h
  refine ⟨by simp [vl,qD,this],by simp [vl,qu];omega,fun q=>by simpa [vl] using q⟩
 | d+1,a,h=>by
  unfold vl
  by_cases c:a≥128
  · rw [if_pos c]
    obtain ⟨h1,h2,h3⟩:=vE d (a/128) (by rw [Nat.pow_succ] at h;omega)
    refine ⟨?_,by rw [qu,h2];omega,fun q=>by have:=(List.cons.inj q).1;omega⟩
    generalize vl d (a/128)=l at h1 h2 h3
    match l,h1 with
    | x::p,h1 =>
     simp only [qD,h1]
     have e1:decide (128≤128+a % 128)=true:=decide_eq_true (by omega)
     have e2:decide (128+a % 128<256)=true:=decide_eq_true (by omega)
     rw [e1,e2]
     cases hp:(decide (p=[])&&x==0)
     · rfl
     · simp only [j6,decide_eq_true_eq,beq_iff_eq] at hp
       have:=h3 (by rw [hp.1,hp.2])
       omega
  · rw [if_neg c]
    have:a<128:=by omega
    exact ⟨by simp [qD,this],by simp [qu];omega,fun q=>by simpa using q⟩
theorem Be:∀ (p:List Nat),qD p=true→p≠[0]→1≤qu p
 | [],h,_=>by simp [qD] at h
 | [b],h,q=>by
  simp only [qD,decide_eq_true_eq] at h
  simp only [qu]
  have:b≠0:=fun e=>q (by rw [e])
  omega
 | b::c::p,h,_=>by
  simp only [qD,j6,decide_eq_true_eq,Bool.not_eq_true'] at h
  have ih:=Be (c::p) h.2.2.1 (fun e=>by
   have e1:c=0:=(List.cons.inj e).1
   have e2:p=[]:=(List.cons.inj e).2
   have:=h.2.2.2
   rw [e1,e2] at this
   simp at this)
  rw [qu]
  omega
theorem AN:∀ (d:Nat) (p:List Nat),qD p=true→p.length≤d+1→vl d (qu p)=p
 | _,[],h,_=>by simp [qD] at h
 | 0,[b],h,_=>by
  simp only [qD,decide_eq_true_eq] at h
  simp [vl,qu];omega
 | d+1,[b],h,_=>by
  simp only [qD,decide_eq_true_eq] at h
  have e:qu [b]=b:=by simp [qu];omega
  rw [e,vl,if_neg (by omega)]
 | 0,b::c::p,_,hl=>by simp at hl
 | d+1,b::c::p,h,hl=>by
  have h0:=h
  simp only [qD,j6,decide_eq_true_eq,Bool.not_eq_true'] at h
  have hp:=Be (c::p) h.2.2.1 (fun e=>by
   have e1:c=0:=(List.cons.inj e).1
   have e2:p=[]:=(List.cons.inj e).2
   have:=h.2.2.2
   rw [e1,e2] at this
   simp at this)
  have ih:=AN d (c::p) h.2.2.1 (by simp at hl ⊢;omega)
  rw [qu,vl,if_pos (by omega)]
  rw [show (b % 128+128*qu (c::p))/128=qu (c::p) by omega,ih]
  congr 1
  omega
theorem C7:∀ (p:List Nat) (b:Nat),qu (p++[b])=qu p+128 ^ p.length*(b % 128)
 | [],b=>by simp [qu]
 | a::p,b=>by
  rw [List.cons_append,qu,C7 p b,qu,lB,Nat.pow_succ,Nat.mul_add,Nat.mul_comm (128 ^ p.length) 128,Nat.mul_assoc]
  omega
theorem AO:∀ (p:List Nat),qu p<128 ^ p.length
 | []=>by simp [qu]
 | a::p=>by
  have:=AO p
  rw [qu,lB,Nat.pow_succ]
  omega
def nb (s:ByteArray):List Nat:=s.data.toList.map UInt8.toNat
theorem cj (s:ByteArray):(nb s).length=s.size:=by
 unfold nb
 rw [List.length_map,Array.length_toList]
 rfl
theorem IZ {s:ByteArray} {x:Nat} (h:x ∈ nb s):x<256:=by
 unfold nb at h
 rw [List.mem_map] at h
 obtain ⟨y,_,rfl⟩:=h
 exact UInt8.toNat_lt y
theorem kh {a b:ByteArray} (h:nb a=nb b):a=b:=by
 unfold nb at h
 have h1:a.data.toList=b.data.toList:=List.map_inj_right (fun x y e=>UInt8.toNat_inj.1 e) |>.1 h
 exact ByteArray.ext (Array.toList_inj.1 h1)
theorem vr {s:ByteArray} {i:Nat} (h:i<s.size):dr s (i:Int)=(((nb s).getD i 0:Nat):Int):=by
 unfold dr nb
 have h1:i<s.data.toList.length:=by rw [Array.length_toList];exact h
 rw [Int.toNat_natCast,List.getD,List.getD,List.getElem?_map,List.getElem?_eq_getElem h1]
 rfl
theorem B_ {l:List Nat} (h:∀ x ∈ l,x<256):nb (bytesOf (l.map Int.ofNat))=l:=by
 unfold nb bytesOf
 simp only [List.map_map,List.toList_toArray]
 induction l with
 | nil=>rfl
 | cons x l ih =>
  rw [List.map_cons,ih (fun y hy=>h y (qy _ hy))]
  have:=h x (oE ..)
  congr 1
  show (UInt8.ofNat (Int.toNat (x:Int))).toNat=x
  rw [Int.toNat_natCast]
  simp
  omega
theorem nF (s:ByteArray) (n:Nat):nb (ByteArray.extract s 0 n)=(nb s).take n:=by
 unfold nb
 simp [ByteArray.data_extract,List.map_take]
theorem Ib:∀ (d a:Nat),a<128 ^ (d+1)→∀ x ∈ vl d a,x<256
 | 0,a,h,x,hx=>by simp [vl] at hx;subst hx;simp at h;omega
 | d+1,a,h,x,hx=>by
  unfold vl at hx
  split at hx
  · rcases List.mem_cons.1 hx with q | q
    · subst q;omega
    · exact Ib d _ (by rw [Nat.pow_succ] at h;omega) x q
  · simp at hx;subst hx;omega
def b_ (a:Nat):ByteArray:=bytesOf ((vl 6 a).map Int.ofNat)
theorem sg {a:Nat} (h:a<562949953421312):nb (b_ a)=vl 6 a:=B_ (Ib 6 a (by rw [show (128:Nat) ^ (6+1)=562949953421312 by decide];exact h))
theorem Et {s:ByteArray} {n:Nat} (h0:1≤n) (h7:n≤7) (hs:n≤s.size):seq (b_ (qu ((nb s).take n))) (ByteArray.extract s 0 n)=qD ((nb s).take n):=by
 have hl:((nb s).take n).length=n:=by rw [List.length_take,cj];omega
 have hd:qu ((nb s).take n)<562949953421312:=by
  have:=AO ((nb s).take n)
  rw [hl] at this
  have h2:(128:Nat) ^ n≤128 ^ 7:=Nat.pow_le_pow_right (by decide) h7
  rw [show (128:Nat) ^ 7=562949953421312 by decide] at h2
  omega
 rw [Bool.eq_iff_iff,dS]
 constructor
 · intro e
   have e1:nb (b_ (qu ((nb s).take n)))=(nb s).take n:=by rw [e,nF]
   rw [sg hd] at e1
   have:=(vE 6 (qu ((nb s).take n)) (by rw [show (128:Nat) ^ (6+1)=562949953421312 by decide];exact hd)).1
   rw [e1] at this
   exact this
 · intro c
   refine kh ?_
   rw [sg hd,nF]
   exact AN 6 _ c (by omega)
end Go.V
namespace Go.V
open Go
def fb (n:Int):ByteArray:=⟨(Lib.itoa n).toArray⟩
def rZ (u:Nat):List UInt8:=if u=0 then [] else Lib.decDigits u
theorem Ep:rZ 0=[]:=rfl
theorem po {u:Nat} (h:u≠0):rZ u=Lib.decDigits u:=if_neg h
theorem En {u:Nat} (h:u≠0):rZ u=rZ (u/10)++[UInt8.ofNat (48+u % 10)]:=by
 rw [po h,Lib.decDigits]
 by_cases c:u<10
 · rw [dif_pos c,show u/10=0 by omega,Ep,List.nil_append,Nat.mod_eq_of_lt c]
 · rw [dif_neg c,po (by omega)]
theorem mY (u:Nat):Lib.decDigits u≠[]:=by
 rw [Lib.decDigits]
 split <;> simp
theorem wh:Lib.decDigits 0=[48]:=by
 rw [Lib.decDigits,dif_pos (by omega)]
 rfl
theorem qY {d:Nat} (h:d<10):(UInt8.ofNat (48+d)).toNat=48+d:=by
 simp
 omega
theorem jO (u:Nat):∀ b ∈ Lib.decDigits u,48≤b.toNat∧b.toNat≤57:=by
 induction u using Nat.strongRecOn with
 | _ u ih =>
  intro b hb
  rw [Lib.decDigits] at hb
  split at hb
  · rename_i h
    rw [List.mem_singleton] at hb
    subst hb
    rw [qY h]
    omega
  · rename_i h
    rcases List.mem_append.1 hb with q | q
    · exact ih (u/10) (by omega) b q
    · rw [List.mem_singleton] at q
      subst q
      rw [qY (by omega)]
      omega
def oL:List Nat→Nat→Nat
 | [],a=>a
 | b::l,a=>oL l (a*10+(b-48))
theorem yM:∀ (l m:List Nat) (a:Nat),oL (l++m) a=oL m (oL l a)
 | [],m,a=>rfl
 | b::l,m,a=>yM l m _
theorem oU (u:Nat):oL ((Lib.decDigits u).map UInt8.toNat) 0=u:=by
 induction u using Nat.strongRecOn with
 | _ u ih =>
  rw [Lib.decDigits]
  split
  · rename_i h
    simp only [List.map_cons,List.map_nil,oL,qY h]
    omega
  · rename_i h
    rw [List.map_append,yM,ih (u/10) (by omega)]
    simp only [List.map_cons,List.map_nil,oL,qY (show u % 10<10 by omega)]
    omega
theorem gX:∀ (k u:Nat),u<10 ^ (k+1)→(Lib.decDigits u).length≤k+1
 | 0,u,h=>by
  rw [Lib.decDigits,dif_pos (by simpa using h)]
  simp
 | k+1,u,h=>by
  rw [Lib.decDigits]
  split
  · simp
  · have:=gX k (u/10) (by rw [Nat.pow_succ] at h;omega)
    rw [xS]
    show _+1≤_
    omega
theorem p8 (n:Int):nb (fb n)=if n<0 then 45::(Lib.decDigits n.natAbs).map UInt8.toNat else (Lib.decDigits n.toNat).map UInt8.toNat:=by
 unfold nb fb Lib.itoa
 split <;> simp
theorem xA {a b:Int} (h:fb a=fb b):a=b:=by
 have h1:=congrArg nb h
 rw [p8,p8] at h1
 have hd:∀ u:Nat,∀ l,(Lib.decDigits u).map UInt8.toNat≠45::l:=fun u l q=>by
  have hm:(45:Nat) ∈ (Lib.decDigits u).map UInt8.toNat:=by rw [q];exact oE ..
  obtain ⟨x,hx,e⟩:=List.mem_map.1 hm
  have:=jO u x hx
  omega
 by_cases ca:a<0
 · rw [if_pos ca] at h1
   by_cases cb:b<0
   · rw [if_pos cb] at h1
     have h2:=(List.cons.inj h1).2
     have h3:=congrArg (fun l=>oL l 0) h2
     simp only [oU] at h3
     omega
   · rw [if_neg cb] at h1
     exact absurd h1.symm (hd _ _)
 · rw [if_neg ca] at h1
   by_cases cb:b<0
   · rw [if_pos cb] at h1
     exact absurd h1 (hd _ _)
   · rw [if_neg cb] at h1
     have h3:=congrArg (fun l=>oL l 0) h1
     simp only [oU] at h3
     omega
theorem FH {n:Int} (h0 : -1000000000<n) (h1:n<1000000000):(fb n).size≤10:=by
 rw [← cj,p8]
 split
 · have:=gX 8 n.natAbs (by rw [show (10:Nat) ^ (8+1)=1000000000 by decide];omega)
   rw [lB,List.length_map]
   omega
 · have:=gX 8 n.toNat (by rw [show (10:Nat) ^ (8+1)=1000000000 by decide];omega)
   rw [List.length_map]
   omega
theorem CC (n:Int) (h0 : -9223372036854775808≤n) (h1:n≤9223372036854775807):(fb n).size≤20:=by
 rw [← cj,p8]
 split
 · have:=gX 18 n.natAbs (by rw [show (10:Nat) ^ (18+1)=10000000000000000000 by decide];omega)
   rw [lB,List.length_map]
   omega
 · have:=gX 18 n.toNat (by rw [show (10:Nat) ^ (18+1)=10000000000000000000 by decide];omega)
   rw [List.length_map]
   omega
theorem uR:∀ (l:List UInt8) (a:Nat),(∀ b ∈ l,48≤b.toNat∧b.toNat≤57)→(a+1)*10 ^ l.length≤1000000000000000000→Lib.parseUint10 a l = .ok (oL (l.map UInt8.toNat) a)
 | [],a,_,_=>rfl
 | c::l,a,h,hb=>by
  have hc:=h c (oE ..)
  rw [lB,Nat.pow_succ,Nat.mul_comm (10 ^ l.length) 10,← Nat.mul_assoc] at hb
  have hp:1≤10 ^ l.length:=Nat.one_le_pow _ _ (by decide)
  have h1:(a+1)*10*1≤(a+1)*10*10 ^ l.length:=Nat.mul_le_mul (Nat.le_refl _) hp
  have ih:=uR l (a*10+(c.toNat-48)) (fun x hx=>h x (qy _ hx)) (Nat.le_trans (Nat.mul_le_mul (by omega) (Nat.le_refl _)) hb)
  rw [Lib.parseUint10,if_pos hc,if_neg (by omega),if_neg (by omega),ih,List.map_cons,oL]
theorem zB {u:Nat} (h:u<1000000000):Lib.parseMag (Lib.decDigits u) = .ok u:=by
 have hl:=gX 8 u (by rw [show (10:Nat) ^ (8+1)=1000000000 by decide];exact h)
 have hp:10 ^ (Lib.decDigits u).length≤10 ^ 9:=Nat.pow_le_pow_right (by decide) hl
 rw [show (10:Nat) ^ 9=1000000000 by decide] at hp
 unfold Lib.parseMag
 rw [if_neg (mY u),uR _ 0 (jO u) (by omega),oU]
theorem Ga {n:Int} (h0 : -1000000000<n) (h1:n<1000000000):Lib.atoiAll (Lib.itoa n) = .ok n:=by
 unfold Lib.itoa
 by_cases c:n<0
 · rw [if_pos c,Lib.atoiAll_minus,zB (by omega)]
   simp only [Lib.signed]
   rw [if_neg (by omega)]
   congr 1
   omega
 · rw [if_neg c]
   have hp:=zB (u:=n.toNat) (by omega)
   cases q:Lib.decDigits n.toNat with
   | nil=>exact absurd q (mY _)
   | cons d r =>
    have hd:=jO n.toNat d (by rw [q];exact oE ..)
    rw [q] at hp
    rw [Lib.atoiAll_plain d r (by omega) (by omega),hp]
    simp only [Lib.signless]
    rw [if_neg (by omega)]
    congr 1
    omega
end Go.V
namespace Go.V
section
variable {α ρ:Type}
def pG (ok:Option α→α→Bool):Option α→List α→Bool
 | _,[]=>true
 | p,x::l=>ok p x&&pG ok (some x) l
theorem ol {L:Nat→Int→Option ρ} (z:α) (l:List α) (ok:Option α→α→Bool) (yes no:Option ρ) (h0:∀ (n:Nat),L (n+1) l.length=yes)
 (h1:∀ (n:Nat) x,0<l.length→l.getD (Int.toNat 0) z=x→L (n+1) 0=bif ok none x then L n 1 else no)
 (h2:∀ (n:Nat) (i:Int) x y,0<i→i<l.length→l.getD i.toNat z=x→l.getD (i-1).toNat z=y→L (n+1) i=bif ok (some y) x then L n (i+1) else no)
 {n:Nat} (hn:l.length<n):L n 0=bif pG ok none l then yes else no:=by
 have key:∀ (d i n:Nat),l.length=i+d→0<i→d<n→L n (i:Int)=bif pG ok (some (l.getD (i-1) z)) (l.drop i) then yes else no:=by
  intro d
  induction d with
  | zero =>
   intro i n h h' hn
   obtain ⟨n,rfl⟩:∃ q,n=q+1:=⟨n-1,by omega⟩
   have:i=l.length:=by omega
   subst this
   rw [h0 n,List.drop_length]
   rfl
  | succ d ih =>
   intro i n h h' hn
   obtain ⟨n,rfl⟩:∃ q,n=q+1:=⟨n-1,by omega⟩
   have hl:i<l.length:=by omega
   have e:l.drop i=l.getD i z::l.drop (i+1):=by
    rw [List.drop_eq_getElem_cons hl]
    simp [List.getD,hl]
   have ih:=ih (i+1) n (by omega) (by omega) (by omega)
   rw [h2 n i (l.getD i z) (l.getD (i-1) z) (by omega) (by omega) (by rw [Int.toNat_natCast]) (by rw [show ((i:Int)-1).toNat=i-1 by omega]),e,pG]
   rw [show ((i:Int)+1)=((i+1:Nat):Int) by omega,ih,show i+1-1=i by omega]
   cases ok (some (l.getD (i-1) z)) (l.getD i z) <;> rfl
 obtain ⟨n,rfl⟩:∃ q,n=q+1:=⟨n-1,by omega⟩
 cases l with
 | nil=>exact h0 n
 | cons x l =>
  rw [h1 n x (by simp) rfl,pG]
  have:=key l.length 1 n (by rw [lB];omega) (by omega) (by rw [lB] at hn;omega)
  rw [show ((1:Nat):Int)=1 from rfl] at this
  rw [this]
  cases ok none x <;> rfl
theorem zV {ok:Option α→α→Bool} {l:List α} {p:Option α} (h:pG ok p l=true) {x:α} (hx:x ∈ l):∃ q,ok q x=true:=by
 induction l generalizing p with
 | nil=>cases hx
 | cons y l ih =>
  rw [pG,j6] at h
  rcases List.mem_cons.1 hx with e | e
  · subst e;exact ⟨p,h.1⟩
  · exact ih h.2 e
end
theorem kJ {α:Type} {l:List α} {n i:Nat} {z:α} (h:i<n):(l.take n).getD i z=l.getD i z:=by
 simp [List.getD,List.getElem?_take,h]
theorem jk {α:Type} {l:List α} {i:Nat} {z:α} (h:i<l.length):l.take (i+1)=l.take i++[l.getD i z]:=by
 rw [List.take_succ_eq_append_getElem h]
 simp [List.getD,h]
theorem cB {α:Type} (l:List α) (x:α):(l++[x]).length=l.length+1:=by simp
end Go.V
namespace Go.V
def dB (l:List UInt8):ByteArray:=⟨l.toArray⟩
theorem Fj (a b:List UInt8):dB a++dB b=dB (a++b):=by
 apply ByteArray.ext
 simp [dB,ByteArray.data_append]
theorem ze (l:List UInt8):(dB l).size=l.length:=by simp [dB,ByteArray.size]
theorem tN (s:ByteArray):dB []++s=s:=by
 apply ByteArray.ext
 simp [dB,ByteArray.data_append]
theorem Cz (s:ByteArray):s++dB []=s:=by
 apply ByteArray.ext
 simp [dB,ByteArray.data_append]
theorem sF (a b c:ByteArray):a++b++c=a++(b++c):=by
 apply ByteArray.ext
 simp [ByteArray.data_append]
theorem Hr (n:Int) (h:n≠0):fb n=(bif decide (n<0) then dB [45] else dB [])++dB (rZ n.natAbs):=by
 unfold fb Lib.itoa
 by_cases c:n<0
 · rw [if_pos c,aN c,aX,Fj,po (by omega)]
   rfl
 · rw [if_neg c,aP c,aM,tN,po (by omega),show n.natAbs=n.toNat by omega]
   rfl
theorem B1 {u:Nat} (h:u≤9223372036854775808):(rZ u).length≤19:=by
 by_cases c:u=0
 · subst c;decide
 · rw [po c]
   exact gX 18 u (by rw [show (10:Nat) ^ (18+1)=10000000000000000000 by decide];omega)
theorem kq {n:Int} (h0 : -9223372036854775808≤n) (h1:n≤9223372036854775807):(fb n).size≤20:=CC n h0 h1
def ly:List Nat→Bool
 | []=>true
 | b::l=>(decide (97≤b∧b≤122)||decide (48≤b∧b≤57))&&ly l
def jc (s:ByteArray):Bool:=ly (nb s)&&decide (1≤s.size∧s.size≤12)
end Go.V
namespace Go.Proofs.YtohaanhjddohmaaGreatDoor.G
open Go.V
theorem mm {k:Nat} (hk:2 ^ 50≤k) {n:Int} (h0 : -9223372036854775808≤n) (h1:n≤9223372036854775807):dO.f k n=some (fb n,()):=by
 unfold dO.f dO.t
 by_cases c:n=0
 · subst c
   have:fb 0=(⟨#[48]⟩:ByteArray):=by
    unfold fb Lib.itoa
    rw [if_neg (by decide),show (0:Int).toNat=0 from rfl,wh]
   rw [this]
   rfl
 · rw [show (n==0)=false from mJ c,aM]
   have key:=Je (L:=fun m (s:Int × ByteArray)=>dO.l0 k m s.1 s.2 (decide (n<0))) (R:=fun s=>some ((bif decide (n<0) then dB [45] else dB [])++(dB (rZ s.1.natAbs)++s.2),()))
    (fun s=>(rZ s.1.natAbs).length) (fun s => -9223372036854775808≤s.1∧s.1≤9223372036854775807∧s.2.size+(rZ s.1.natAbs).length≤1000) ?_ k (n,(⟨#[]⟩:ByteArray))
    ⟨h0,h1,by have:=B1 (u:=n.natAbs) (by omega);show 0+(rZ n.natAbs).length≤1000;omega⟩ (by have:=B1 (u:=n.natAbs) (by omega);show (rZ n.natAbs).length<k;omega)
   · refine key.trans ?_
     simp only []
     rw [Hr n c,show (⟨#[]⟩:ByteArray)=dB [] from rfl,Cz]
   · intro m s hs ih
     obtain ⟨x,acc⟩:=s
     obtain ⟨g0,g1,g2⟩:=hs
     simp only [] at g0 g1 g2 ih ⊢
     by_cases cx:x=0
     · subst cx
       have hz:rZ (Int.natAbs 0)=[]:=rfl
       rw [hz] at g2 ⊢
       rw [tN]
       unfold dO.l0 dO.b0
       rw [show ((0:Int) != 0)=false from rfl,aM]
       cases decide (n<0)
       · rw [aM,aM,tN]
       · rw [aX,aX,dL (by rw [show (⟨#[45]⟩:ByteArray).size=1 from rfl];omega)]
         rfl
     · have hd:=En (u:=x.natAbs) (by omega)
       have hb:bytesOf [48+((x.natAbs % 10:Nat):Int)]=dB [UInt8.ofNat (48+x.natAbs % 10)]:=rfl
       have hm:x.natAbs % 10<10:=Nat.mod_lt _ (by decide)
       have hl:(rZ x.natAbs).length=(rZ (x.natAbs/10)).length+1:=by rw [hd,xS];rfl
       have hr:(dB [UInt8.ofNat (48+x.natAbs % 10)]++acc).size=1+acc.size:=by rw [ByteArray.size_append];rfl
       have fin:∀ y:Int,y.natAbs=x.natAbs/10 → -9223372036854775808≤y→y≤9223372036854775807 →
        dO.l0 k m (aH y) (dB [UInt8.ofNat (48+x.natAbs % 10)]++acc) (decide (n<0))=some ((bif decide (n<0) then dB [45] else dB [])++(dB (rZ x.natAbs)++acc),()):=fun y hy q0 q1=>by
        rw [aC q0 q1]
        have:=ih (y,dB [UInt8.ofNat (48+x.natAbs % 10)]++acc) ⟨q0,q1,by simp only [];rw [hr,hy];omega⟩ (by simp only [];rw [hy];omega)
        simp only [] at this
        rw [this,hy,hd,← Fj,sF]
       unfold dO.l0 dO.b0
       rw [show (x != 0)=true from bne_iff_ne.2 cx,aX]
       obtain ⟨u,rfl | rfl⟩:=Int.eq_nat_or_neg x
       · have e1:Int.tmod (u:Int) 10=((u % 10:Nat):Int):=rfl
         have e2:Int.tdiv (u:Int) 10=((u/10:Nat):Int):=rfl
         rw [Int.natAbs_natCast] at *
         rw [e1,e2,aP (by omega),aM,aC (n:=48+((u % 10:Nat):Int)) (by omega) (by omega),o9 (by omega) (by omega),hb,dL (by rw [ze];simp only [List.length_singleton];omega)]
         exact fin _ (by omega) (by omega) (by omega)
       · have e1:Int.tmod (-(u:Int)) 10 = -((u % 10:Nat):Int):=Int.neg_tmod (a:=(u:Int)) (b:=10)
         have e2:Int.tdiv (-(u:Int)) 10 = -((u/10:Nat):Int):=Int.neg_tdiv (u:Int) 10
         rw [Int.natAbs_neg,Int.natAbs_natCast] at *
         rw [e1,e2]
         by_cases cz:u % 10=0
         · rw [aP (by omega),aM,show (48:Int) + -((u % 10:Nat):Int)=48+((u % 10:Nat):Int) by omega,aC (n:=48+((u % 10:Nat):Int)) (by omega) (by omega),o9 (by omega) (by omega),hb,dL (by rw [ze];simp only [List.length_singleton];omega)]
           exact fin _ (by omega) (by omega) (by omega)
         · rw [aN (by omega),aX,aC (n:=0 - -((u % 10:Nat):Int)) (by omega) (by omega),show (48:Int)+(0 - -((u % 10:Nat):Int))=48+((u % 10:Nat):Int) by omega,aC (n:=48+((u % 10:Nat):Int)) (by omega) (by omega),o9 (by omega) (by omega),hb,dL (by rw [ze];simp only [List.length_singleton];omega)]
           exact fin _ (by omega) (by omega) (by omega)
theorem CO (k:Nat) {n:Int} (h0 : -9223372036854775808≤n) (h1:n≤9223372036854775807):m4.f k n=some (fb n,()):=by
 unfold m4.f m4.t m6.f
 rw [aN ⟨h0,h1⟩]
 rfl
theorem jr (k:Nat) (a b c:Int):ah.f k a b c=some (decide (b≤a∧a≤c),()):=by
 unfold ah.f ah.t
 by_cases h:a≥b
 · rw [aN h,aX,decide_eq_decide.2 (show (b≤a∧a≤c)↔a≤c from ⟨fun q=>q.2,fun q=>⟨h,q⟩⟩)]
 · rw [aP h,aM,aP (fun q=>h q.1)]
theorem fz (k:Nat) (a b c:Int):aR.f k a b c=some (decide (b≤a∧a≤c),()):=by
 unfold aR.f aR.t
 by_cases h:a≥b
 · rw [aN h,aX,decide_eq_decide.2 (show (b≤a∧a≤c)↔a≤c from ⟨fun q=>q.2,fun q=>⟨h,q⟩⟩)]
 · rw [aP h,aM,aP (fun q=>h q.1)]
theorem zf {s:ByteArray} {i:Int} {x:Nat} (h0:0≤i) (h1:i<((nb s).length:Int)) (hx:(nb s).getD i.toNat 0=x):dr s i=(x:Int):=by
 rw [cj] at h1
 have:=vr (s:=s) (i:=i.toNat) (by omega)
 rw [show ((i.toNat:Nat):Int)=i by omega,hx] at this
 exact this
theorem CH {s:ByteArray}:(some ((bif ly (nb s) then decide (1≤(s.size:Int)∧(s.size:Int)≤12) else false),()):Option (Bool × Unit))=some (jc s,()):=by
 unfold jc
 rw [decide_eq_decide.2 (show (1≤(s.size:Int)∧(s.size:Int)≤12)↔(1≤s.size∧s.size≤12) by omega)]
 cases ly (nb s) <;> rfl
theorem nW {k:Nat} (hk:2 ^ 50≤k) {s:ByteArray} (hs:s.size≤1099511627776):dq.f k s=some (jc s,()):=by
 unfold dq.f dq.t
 have hn:=cj s
 refine (dZ (L:=fun n i (_:Unit)=>dq.l0 k n s i) (R:=fun r _=>some ((bif ly r then decide (1≤(s.size:Int)∧(s.size:Int)≤12) else false),())) 0 (nb s) (fun _ _=>True) (fun n _ _=>?_) (fun n i _ x rest h0 h1 hx hr hp ih=>?_) (n:=k) (s:=()) (by omega) trivial).trans CH
 · simp only [hn]
   simp (disch:=omega) only [dq.l0,dq.b0,aP,aM,fz k,aO,ly,aX]
 · have hb:=zf h0 h1 hx
   have ih:=ih () trivial
   simp only [hn] at *
   simp (disch:=omega) only [dq.l0,dq.b0,aN h1,aX,aG,hb,aC,ih,ly]
   by_cases c1:97≤x
   · rw [aN (show (x:Int)≥97 by omega),aX]
     by_cases c2:x≤122
     · rw [aN (show (x:Int)≤122 by omega),aX,aN (show 97≤x∧x≤122 from ⟨c1,c2⟩)]
       rfl
     · rw [aP (show ¬ (x:Int)≤122 by omega),aM,aP (show ¬ (97≤x∧x≤122) by omega),aN (show (x:Int)≥48 by omega),aX,aP (show ¬ (x:Int)≤57 by omega),aP (show ¬ (48≤x∧x≤57) by omega)]
       rfl
   · rw [aP (show ¬ (x:Int)≥97 by omega),aM,aP (show ¬ (97≤x∧x≤122) by omega)]
     by_cases c3:48≤x
     · rw [aN (show (x:Int)≥48 by omega),aX]
       by_cases c4:x≤57
       · rw [aN (show (x:Int)≤57 by omega),aN (show 48≤x∧x≤57 from ⟨c3,c4⟩)]
         rfl
       · rw [aP (show ¬ (x:Int)≤57 by omega),aP (show ¬ (48≤x∧x≤57) by omega)]
         rfl
     · rw [aP (show ¬ (x:Int)≥48 by omega),aM,aP (show ¬ (48≤x∧x≤57) by omega)]
       rfl
theorem np {k:Nat} (hk:2 ^ 50≤k) {s:ByteArray} (hs:s.size≤1099511627776):dl.f k s=some (jc s,()):=by
 unfold dl.f dl.t
 have hn:=cj s
 refine (dZ (L:=fun n i (_:Unit)=>dl.l0 k n s i) (R:=fun r _=>some ((bif ly r then decide (1≤(s.size:Int)∧(s.size:Int)≤12) else false),())) 0 (nb s) (fun _ _=>True) (fun n _ _=>?_) (fun n i _ x rest h0 h1 hx hr hp ih=>?_) (n:=k) (s:=()) (by omega) trivial).trans CH
 · simp only [hn]
   simp (disch:=omega) only [dl.l0,dl.b0,aP,aM,jr k,aO,ly,aX]
 · have hb:=zf h0 h1 hx
   have ih:=ih () trivial
   simp only [hn] at *
   simp (disch:=omega) only [dl.l0,dl.b0,aN h1,aX,aG,hb,aC,ih,ly]
   by_cases c1:97≤x
   · rw [aN (show (x:Int)≥97 by omega),aX]
     by_cases c2:x≤122
     · rw [aN (show (x:Int)≤122 by omega),aN (show 97≤x∧x≤122 from ⟨c1,c2⟩)]
       rfl
     · rw [aP (show ¬ (x:Int)≤122 by omega),aP (show ¬ (97≤x∧x≤122) by omega),aN (show (x:Int)≥48 by omega),aP (show ¬ (x:Int)≤57 by omega),aP (show ¬ (48≤x∧x≤57) by omega)]
       rfl
   · rw [aP (show ¬ (x:Int)≥97 by omega),aM,aP (show ¬ (97≤x∧x≤122) by omega)]
     by_cases c3:48≤x
     · rw [aN (show (x:Int)≥48 by omega),aX]
       by_cases c4:x≤57
       · rw [aN (show (x:Int)≤57 by omega),aN (show 48≤x∧x≤57 from ⟨c3,c4⟩)]
         rfl
       · rw [aP (show ¬ (x:Int)≤57 by omega),aP (show ¬ (48≤x∧x≤57) by omega)]
         rfl
     · rw [aP (show ¬ (x:Int)≥48 by omega),aM,aP (show ¬ (48≤x∧x≤57) by omega)]
       rfl
abbrev bW:=List (Ty.den bp)
def dR (l:bW):Nat:=(l.map fun f=>f.2.1.size).sum
def i7 (l:bW):Nat:=(l.map fun f=>f.1.size).sum
theorem dY (x:Ty.den bp) (l:bW):dR (x::l)=x.2.1.size+dR l:=by unfold dR;rw [List.map_cons,List.sum_cons]
theorem sU:dR []=0:=rfl
theorem ki (x:Ty.den bp) (l:bW):i7 (x::l)=x.1.size+i7 l:=by unfold i7;rw [List.map_cons,List.sum_cons]
theorem sS:∀ l m:bW,dR (l++m)=dR l+dR m
 | [],m=>by rw [List.nil_append,sU,Nat.zero_add]
 | x::l,m=>by rw [List.cons_append,dY,dY,sS l m];omega
theorem mn {l:bW} {x:Ty.den bp} (h:x ∈ l):x.2.1.size≤dR l:=by
 induction l with
 | nil=>cases h
 | cons y l ih =>
  rw [dY]
  rcases List.mem_cons.1 h with e | e
  · subst e;omega
  · have:=ih e;omega
theorem ln {l:bW} {x:Ty.den bp} (h:x ∈ l):x.1.size≤i7 l:=by
 induction l with
 | nil=>cases h
 | cons y l ih =>
  rw [ki]
  rcases List.mem_cons.1 h with e | e
  · subst e;omega
  · have:=ih e;omega
def mK (p:Option (Ty.den bp)) (x:Ty.den bp):Bool :=
 jc x.1&&(decide ((0:Int)≤x.2.2.1∧x.2.2.1≤(x.2.1.size:Int))&&(match p with | none=>true | some y=>mN y.1 x.1))
def gw (d:Ty.den a_):Bool :=
 decide (d.1.length≤130)&&(decide ((0:Int)≤d.2.1∧d.2.1≤(100000:Int))&&(decide ((-1:Int)≤d.2.2.1∧d.2.2.1≤(100000:Int))&&(decide ((dR d.1:Int)≤d.2.1)&&pG mK none d.1)))
theorem nq {k:Nat} (hk:2 ^ 50≤k) {d:Ty.den a_} (hl:d.1.length≤1099511627776) (hu:dR d.1≤1099511627776):dP.f k d=some ((dR d.1:Int),()):=by
 unfold dP.f dP.t
 refine (dZ (L:=fun n i s=>dP.l0 k n s i d.1 d.2.1 d.2.2.1 d.2.2.2.1) (R:=fun r s=>some (s+(dR r:Int),())) (Ty.dflt bp) d.1 (fun i s=>0≤s∧s+(dR (d.1.drop i.toNat):Int)≤1099511627776) (fun n s hs=>?_) (fun n i s x rest h0 h1 hx hr hp ih=>?_) (n:=k) (s:=0) (by omega) ⟨by omega,by rw [show d.1.drop (Int.toNat 0)=d.1 from rfl];omega⟩).trans (by rw [Int.zero_add])
 · simp (disch:=omega) only [dP.l0,dP.b0,aP,aM]
   show some (s,())=some (s+((0:Nat):Int),())
   rw [show s+((0:Nat):Int)=s by omega]
 · have hrest:d.1.drop (i+1).toNat=rest:=by
    have:=congrArg (List.drop 1) hr
    rw [List.drop_drop,List.drop_one,List.tail_cons] at this
    rw [show (i+1).toNat=i.toNat+1 by omega]
    exact this
   rw [hr,dY] at hp
   have ih:=ih (s+(x.2.1.size:Int)) ⟨by omega,by rw [hrest];omega⟩
   simp (disch:=omega) only [dP.l0,dP.b0,aN h1,aX,aG,hx,aC,ih]
   rw [show s+(x.2.1.size:Int)+(dR rest:Int)=s+((x.2.1.size+dR rest:Nat):Int) by omega]
   show _=some (s+((dR (x::rest):Nat):Int),())
   rw [dY]
theorem kx {k:Nat} (hk:2 ^ 50≤k) {d:Ty.den a_} (hu:dR d.1≤1099511627776) (hn:i7 d.1≤1099511627776):bd.f k d=some (gw d,()):=by
 unfold bd.f bd.t gw
 by_cases c:d.1.length > 130
 · rw [aN (by omega),aX,aP (by omega),Bool.false_and]
 · rw [aP (by omega),aM,aN (by omega),Bool.true_and,fz,aO]
   cases decide ((0:Int)≤d.2.1∧d.2.1≤(100000:Int)) with
   | false=>rfl
   | true =>
    rw [ft,aM,fz,aO,Bool.true_and]
    cases decide ((-1:Int)≤d.2.2.1∧d.2.2.1≤(100000:Int)) with
    | false=>rfl
    | true =>
     rw [ft,aM,nq hk (by omega) hu,aO,Bool.true_and]
     simp only []
     by_cases cu:(dR d.1:Int) > d.2.1
     · rw [aN cu,aX,aP (by omega),Bool.false_and]
     · rw [aP cu,aM,aN (by omega),Bool.true_and]
       refine (ol (L:=fun n i=>bd.l0 k n i d.1 d.2.1 d.2.2.1 d.2.2.2.1) (Ty.dflt bp) d.1 mK (some (true,())) (some (false,())) (fun n=>?_) (fun n x h hx=>?_) (fun n i x y h0 h1 hx hy=>?_) (n:=k) (by omega)).trans (by cases pG mK none d.1 <;> rfl)
       · simp (disch:=omega) only [bd.l0,bd.b0,aP,aM]
       · have hm:x ∈ d.1:=by rw [← hx];exact gb (by omega)
         have hs:=ln hm
         simp (disch:=omega) only [bd.l0,bd.b0,aN (show (0:Int)<(d.1.length:Int) by omega),aX,aG,hx,nW hk,fz k,aO,aP (show ¬ (0:Int) > 0 by omega),aM,aC,mK]
         cases jc x.1 <;> cases decide ((0:Int)≤x.2.2.1∧x.2.2.1≤(x.2.1.size:Int)) <;> rfl
       · have hm:x ∈ d.1:=by rw [← hx];exact gb (by omega)
         have hs:=ln hm
         simp (disch:=omega) only [bd.l0,bd.b0,aN h1,aX,aG,hx,hy,nW hk,fz k,aO,aN (show i > 0 by omega),aM,aC,mK,lf]
         cases jc x.1 <;> cases decide ((0:Int)≤x.2.2.1∧x.2.2.1≤(x.2.1.size:Int)) <;> cases mN y.1 x.1 <;> rfl
theorem yb {l:bW} {i:Nat} {x:Ty.den bp} (h:i<l.length) (hx:l.getD i (Ty.dflt bp)=x):dR (l.take (i+1))=dR (l.take i)+x.2.1.size:=by
 rw [List.take_add_one,sS]
 congr 1
 simp only [List.getD,List.getElem?_eq_getElem h,Option.getD_some] at hx
 rw [List.getElem?_eq_getElem h,hx]
 show dR [x]=_
 rw [dY,sU,Nat.add_zero]
theorem sa (l:bW) (i:Nat):dR (l.take i)≤dR l:=by
 have:=sS (l.take i) (l.drop i)
 rw [List.take_append_drop] at this
 omega
theorem jE {k:Nat} (hk:2 ^ 50≤k) {d:Ty.den a_} (hu:dR d.1≤1099511627776) (hn:i7 d.1≤1099511627776):bC.f k d=some (gw d,()):=by
 unfold bC.f bC.t gw
 by_cases c:d.1.length > 130
 · rw [aN (by omega),aX,aP (by omega),Bool.false_and]
 · rw [aP (by omega),aM,aN (by omega),Bool.true_and,jr,aO]
   cases decide ((0:Int)≤d.2.1∧d.2.1≤(100000:Int)) with
   | false=>rfl
   | true =>
    rw [ft,aM,jr,aO,Bool.true_and]
    cases decide ((-1:Int)≤d.2.2.1∧d.2.2.1≤(100000:Int)) with
    | false=>rfl
    | true =>
     rw [ft,aM,Bool.true_and]
     refine (ol (L:=fun n i=>bC.l0 k n (dR (d.1.take i.toNat):Int) d.1 d.1.length i d.1 d.2.1 d.2.2.1 d.2.2.2.1) (Ty.dflt bp) d.1 mK (some (decide ((dR d.1:Int)≤d.2.1),())) (some (false,())) (fun n=>?_) (fun n x h hx=>?_) (fun n i x y h0 h1 hx hy=>?_) (n:=k) (by omega)).trans
      (by cases pG mK none d.1 <;> cases decide ((dR d.1:Int)≤d.2.1) <;> rfl)
     · rw [Int.toNat_natCast,List.take_length]
       simp (disch:=omega) only [bC.l0,bC.b0,aP,aM]
     · have hm:x ∈ d.1:=by rw [← hx];exact gb (by omega)
       have hs:=ln hm
       have ht:=yb (l:=d.1) (i:=0) h hx
       have hle:=sa d.1 0
       have hz:=mn hm
       rw [show Int.toNat 1=0+1 from rfl,ht]
       simp only [show Int.toNat 0=0 from rfl] at hx ⊢
       simp (disch:=omega) only [bC.l0,bC.b0,aN (show (0:Int)<(d.1.length:Int) by omega),aX,aG,show Int.toNat 0=0 from rfl,hx,np hk,jr k,aO,aP (show ¬ (0:Int) > 0 by omega),aM,aC,mK]
       rw [show (dR (d.1.take 0):Int)+(x.2.1.size:Int)=((dR (d.1.take 0)+x.2.1.size:Nat):Int) by omega]
       cases jc x.1 <;> cases decide ((0:Int)≤x.2.2.1∧x.2.2.1≤(x.2.1.size:Int)) <;> rfl
     · have hm:x ∈ d.1:=by rw [← hx];exact gb (by omega)
       have hs:=ln hm
       have ht:=yb (l:=d.1) (i:=i.toNat) (by omega) hx
       have hle:=sa d.1 i.toNat
       have hz:=mn hm
       rw [show Int.toNat (i+1)=i.toNat+1 by omega,ht]
       simp (disch:=omega) only [bC.l0,bC.b0,aN h1,aX,aG,hx,hy,np hk,jr k,aO,aN (show i > 0 by omega),aM,aC,mK]
       rw [show (dR (d.1.take i.toNat):Int)+(x.2.1.size:Int)=((dR (d.1.take i.toNat)+x.2.1.size:Nat):Int) by omega]
       cases jc x.1 <;> cases decide ((0:Int)≤x.2.2.1∧x.2.2.1≤(x.2.1.size:Int)) <;> cases mN y.1 x.1 <;> rfl
def kR:bW→ByteArray→Int→Int
 | [],_,_ => -1
 | f::l,s,i=>bif seq f.1 s then i else kR l s (i+1)
def bq:bW→ByteArray→Option (Ty.den bp)
 | [],_=>none
 | f::l,s=>bif seq f.1 s then some f else bq l s
theorem t8:∀ (l:bW) (s:ByteArray) (i:Int),(bq l s=none∧kR l s i = -1)∨(∃ f,bq l s=some f∧i≤kR l s i∧kR l s i<i+(l.length:Int)∧l.getD (kR l s i-i).toNat (Ty.dflt bp)=f∧f ∈ l)
 | [],s,i => .inl ⟨rfl,rfl⟩
 | f::l,s,i=>by
  unfold kR bq
  cases c:seq f.1 s with
  | true=>exact .inr ⟨f,rfl,Int.le_refl _,by rw [aX,lB];omega,by rw [aX,show (i-i).toNat=0 by omega];rfl,oE ..⟩
  | false =>
   rw [aM,aM]
   rcases t8 l s (i+1) with h | ⟨g,h1,h2,h3,h4,h5⟩
   · exact .inl h
   · refine .inr ⟨g,h1,by omega,by rw [lB];omega,?_,qy _ h5⟩
     rw [show (kR l s (i+1)-i).toNat=(kR l s (i+1)-(i+1)).toNat+1 by omega]
     exact h4
theorem i6 {k:Nat} (hk:2 ^ 50≤k) {d:Ty.den a_} (hl:d.1.length≤1099511627776) (s:ByteArray):bA.f k d s=some (kR d.1 s 0,()):=by
 unfold bA.f bA.t
 refine dZ (L:=fun n i (_:Int)=>bA.l0 k n s i d.1 d.2.1 d.2.2.1 d.2.2.2.1) (R:=fun r j=>some (kR r s j,())) (Ty.dflt bp) d.1 (fun i j=>j=i) (fun n j hj=>?_) (fun n i j x rest h0 h1 hx hr hp ih=>?_) (n:=k) (s:=0) (by omega) rfl
 · simp (disch:=omega) only [bA.l0,bA.b0,aP,aM,kR]
 · have ih:=ih (i+1) rfl
   subst hp
   simp (disch:=omega) only [bA.l0,bA.b0,aN h1,aX,aG,hx,aC,ih,kR]
   cases seq x.1 s <;> rfl
theorem jD {k:Nat} (hk:2 ^ 50≤k) {d:Ty.den a_} (hl:d.1.length≤1099511627776) (s:ByteArray):bO.f k d s=some (kR d.1 s 0,()):=by
 unfold bO.f bO.t
 refine dZ (L:=fun n i (_:Int)=>bO.l0 k n s d.1 d.1.length i) (R:=fun r j=>some (kR r s j,())) (Ty.dflt bp) d.1 (fun i j=>j=i) (fun n j hj=>?_) (fun n i j x rest h0 h1 hx hr hp ih=>?_) (n:=k) (s:=0) (by omega) rfl
 · simp (disch:=omega) only [bO.l0,bO.b0,aP,aM,kR]
 · have ih:=ih (i+1) rfl
   subst hp
   simp (disch:=omega) only [bO.l0,bO.b0,aN h1,aX,aG,hx,aC,ih,kR]
   cases seq x.1 s <;> rfl
def aV (d:Ty.den a_) (s:ByteArray):ByteArray × Bool :=
 bif gw d then (match bq d.1 s with | none=>(⟨#[]⟩,false) | some f=>(f.2.1,true)) else (⟨#[]⟩,false)
theorem eL (d:Ty.den a_) (s:ByteArray):(aV d s).1.size≤dR d.1:=by
 unfold aV
 cases gw d with
 | false=>exact Nat.zero_le _
 | true =>
  rw [aX]
  rcases t8 d.1 s 0 with h | ⟨f,h1,_,_,_,h5⟩
  · rw [h.1];exact Nat.zero_le _
  · rw [h1];exact mn h5
theorem gB {k:Nat} (hk:2 ^ 50≤k) {d:Ty.den a_} (hl:d.1.length≤1099511627776) (hu:dR d.1≤1099511627776) (hn:i7 d.1≤1099511627776) (s:ByteArray) :
 bF.f k d s=some ((aV d s).1,((aV d s).2,())):=by
 unfold bF.f bF.t aV
 rw [kx hk hu hn,aO]
 cases gw d with
 | false=>rfl
 | true =>
  rw [i6 hk hl]
  simp only [aO,ft,aM,aX]
  rcases t8 d.1 s 0 with h | ⟨f,h1,h2,h3,h4,h5⟩
  · rw [h.1,h.2];rfl
  · rw [h1,aP (by omega),aM,aG h2 (by omega)]
    rw [Int.sub_zero] at h4
    rw [h4]
theorem jt {k:Nat} (hk:2 ^ 50≤k) {d:Ty.den a_} (hl:d.1.length≤1099511627776) (hu:dR d.1≤1099511627776) (hn:i7 d.1≤1099511627776) (s:ByteArray) :
 cI.f k d s=some ((aV d s).1,((aV d s).2,())):=by
 unfold cI.f cI.t aV
 rw [jD hk hl,aO]
 simp only []
 rcases t8 d.1 s 0 with h | ⟨f,h1,h2,h3,h4,h5⟩
 · rw [h.1,h.2]
   cases gw d <;> rfl
 · rw [h1,aP (by omega),aM,jE hk hu hn,aO]
   cases gw d with
   | false=>rfl
   | true =>
    simp only [ft,aM,aX]
    rw [aG h2 (by omega)]
    rw [Int.sub_zero] at h4
    rw [h4]
def aA (p:ByteArray) (n:Int):ByteArray:=bif decide ((1:Int)≤n∧n≤100000) then p++fb n else ⟨#[]⟩
def aI:ByteArray:=⟨#[115,101,103]⟩
theorem bG {k:Nat} (hk:2 ^ 50≤k) (n:Int):aQ.f k n=some (aA aI n,()):=by
 unfold aQ.f aQ.t aA
 rw [fz,aO]
 by_cases c:(1:Int)≤n∧n≤100000
 · have hz:=kq (n:=n) (by omega) (by omega)
   rw [aN c]
   simp only [ft,aM,aX]
   rw [mm hk (by omega) (by omega),aO,dL (by show 3+(fb n).size≤_;omega)]
   rfl
 · rw [aP c]
   rfl
theorem sH (k:Nat) {p:ByteArray} (hp:p.size≤1000) (n:Int):ic.f k p n=some (aA p n,()):=by
 unfold ic.f ic.t aA
 rw [jr,aO]
 by_cases c:(1:Int)≤n∧n≤100000
 · have hz:=kq (n:=n) (by omega) (by omega)
   rw [aN c]
   simp only [ft,aM,aX]
   rw [CO k (by omega) (by omega),aO,dL (by show p.size+(fb n).size≤_;omega)]
 · rw [aP c]
   rfl
theorem dX (k:Nat) (n:Int):ao.f k n=some (aA aI n,()):=by
 unfold ao.f ao.t
 rw [sH k (by decide) n]
 rfl
structure ta (d:Ty.den a_):Prop where
 l:d.1.length≤1073741824
 u:dR d.1≤1073741824
 n:i7 d.1≤1073741824
end Go.Proofs.YtohaanhjddohmaaGreatDoor.G
namespace Go.V
theorem wc:∀ a b c:List UInt8,Op.bytesLess a b=true→Op.bytesLess b c=true→Op.bytesLess a c=true
 | a,b,[],_,h2=>by cases b <;> simp [Op.bytesLess] at h2
 | [],b,z::c,_,_=>by simp [Op.bytesLess]
 | x::a,[],z::c,h1,_=>by simp [Op.bytesLess] at h1
 | x::a,y::b,z::c,h1,h2=>by
  simp only [Op.bytesLess] at h1 h2 ⊢
  have ih:=wc a b c
  simp only [Bool.or_eq_true,j6,decide_eq_true_eq,beq_iff_eq] at h1 h2 ⊢
  rcases h1 with g1 | ⟨rfl,g1⟩
  · rcases h2 with g2 | ⟨rfl,g2⟩
    · exact Or.inl (UInt8.lt_trans g1 g2)
    · exact Or.inl g1
  · rcases h2 with g2 | ⟨rfl,g2⟩
    · exact Or.inl g2
    · exact Or.inr ⟨rfl,ih g1 g2⟩
theorem qg {a b c:ByteArray} (h1:mN a b=true) (h2:mN b c=true):mN a c=true:=wc _ _ _ h1 h2
theorem pC (a:ByteArray):mN a a=false:=by
 have:=lf a a
 rw [cY] at this
 cases h:mN a a with
 | false=>rfl
 | true=>rw [h] at this;cases this
theorem EU {a b:ByteArray} (h:mN a b=true):mN b a=false:=by
 cases c:mN b a with
 | false=>rfl
 | true=>have:=qg h c;rw [pC] at this;cases this
def fp (K:List ByteArray):Prop:=K.Pairwise (fun a b=>mN a b=true)
end Go.V
namespace Go.Proofs.YtohaanhjddohmaaGreatDoor.G
open Go.V
def kE:bW→Ty.den bp→bW
 | [],f=>[f]
 | g::l,f=>bif mN f.1 g.1 then f::g::l else g::kE l f
def iD:bW→ByteArray→bW
 | [],_=>[]
 | g::l,s=>bif seq g.1 s then l else g::iD l s
def lY (h:Ty.den bp→Ty.den bp):bW→ByteArray→bW
 | [],_=>[]
 | g::l,s=>bif seq g.1 s then h g::l else g::lY h l s
def jd (d:Ty.den a_):Ty.den a_ × Int :=
 bif !gw d then (d,5) else bif d.2.2.2.1 then ((d.1,(d.2.1,(d.2.2.1,(true,())))),1) else bif (d.2.2.1==0) then ((d.1,(d.2.1,(d.2.2.1,(true,())))),1) else
 bif decide ((d.2.2.1:Int) > 0) then ((d.1,(d.2.1,(aH (d.2.2.1-1),d.2.2.2))),0) else (d,0)
def iR (d:Ty.den a_) (g:bW→Int→bW × Int):Ty.den a_ × Int :=
 bif (jd d).2 != 0 then jd d else (((g d.1 d.2.1).1,(jd d).1.2),(g d.1 d.2.1).2)
def wq (s:ByteArray) (l:bW) (c:Int):bW × Int :=
 bif !jc s then (l,5) else bif (bq l s).isSome then (l,4) else bif decide ((l.length:Int)≥130) then (l,2) else (kE l (s,(ByteArray.empty,(0,()))),0)
def xm (s t:ByteArray) (l:bW) (c:Int):bW × Int :=
 bif (bq l s).isNone then (l,3) else bif decide ((t.size:Int) > aH (c-(dR l:Int))) then (l,2) else (lY (fun f=>(f.1,(f.2.1++t,f.2.2))) l s,0)
def Bm (s:ByteArray) (l:bW) (c:Int):bW × Int :=
 bif (bq l s).isNone then (l,3) else (lY (fun f=>(f.1,(f.2.1,((f.2.1.size:Int),f.2.2.2)))) l s,0)
def xn (a b:ByteArray) (l:bW) (c:Int):bW × Int :=
 bif !jc b then (l,5) else match bq l a with
 | none=>(l,3)
 | some f=>bif seq a b then (l,0) else (kE (iD (iD l a) b) (b,f.2),0)
def ub (s:ByteArray) (l:bW) (c:Int):bW × Int :=
 bif (bq l s).isNone then (l,3) else (iD l s,0)
def IA (s:ByteArray) (n:Int) (l:bW) (c:Int):bW × Int :=
 match bq l s with
 | none=>(l,3)
 | some f=>bif !decide (0≤n∧n≤(f.2.1.size:Int)) then (l,5) else (lY (fun f=>(f.1,(ByteArray.extract f.2.1 0 n.toNat,((if n<f.2.2.1 then n else f.2.2.1),f.2.2.2)))) l s,0)
def tv (d:Ty.den a_) (s:ByteArray):=iR d (wq s)
def h_ (d:Ty.den a_) (s t:ByteArray):=iR d (xm s t)
def iq (d:Ty.den a_) (s:ByteArray):=iR d (Bm s)
def uc (d:Ty.den a_) (a b:ByteArray):=iR d (xn a b)
def pW (d:Ty.den a_) (s:ByteArray):=iR d (ub s)
def Ca (d:Ty.den a_) (s:ByteArray) (n:Int):=iR d (IA s n)
theorem ow (d:Ty.den a_):(jd d).1.1=d.1:=by
 unfold jd
 cases gw d <;> cases d.2.2.2.1 <;> cases d.2.2.1==0 <;> cases decide ((d.2.2.1:Int) > 0) <;> rfl
theorem GW (d:Ty.den a_):(jd d).1.2.1=d.2.1:=by
 unfold jd
 cases gw d <;> cases d.2.2.2.1 <;> cases d.2.2.1==0 <;> cases decide ((d.2.2.1:Int) > 0) <;> rfl
theorem gU:∀ (l:bW) (s:ByteArray) (j:Int),(bq l s=none∧kR l s j = -1∧iD l s=l∧∀ h,lY h l s=l) ∨
 (∃ n:Nat,n<l.length∧kR l s j=j+n∧bq l s=some (l.getD n (Ty.dflt bp))∧l.take n++l.drop (n+1)=iD l s∧(l.getD n (Ty.dflt bp)).1=s∧(∀ h,l.set n (h (l.getD n (Ty.dflt bp)))=lY h l s))
 | [],s,j => .inl ⟨rfl,rfl,rfl,fun _=>rfl⟩
 | g::l,s,j=>by
  unfold kR bq iD lY
  cases c:seq g.1 s with
  | true =>
   refine .inr ⟨0,by rw [lB];omega,?_,rfl,rfl,dS.1 c,fun h=>rfl⟩
   show j=j+((0:Nat):Int)
   omega
  | false =>
   simp only [aM]
   rcases gU l s (j+1) with ⟨h1,h2,h3,h4⟩ | ⟨n,h1,h2,h3,h4,h5,h6⟩
   · exact .inl ⟨h1,h2,by rw [h3],fun h=>by rw [h4]⟩
   · refine .inr ⟨n+1,by rw [lB];omega,by rw [h2];omega,h3,?_,h5,fun h=>?_⟩
     · rw [List.take_succ_cons,List.drop_succ_cons,List.cons_append,h4]
     · show g::l.set n (h (l.getD n (Ty.dflt bp)))=_
       rw [h6]
def FO (f:Ty.den bp):Prop:=jc f.1=true∧LE.le (α:=Int) 0 f.2.2.1∧LE.le (α:=Int) f.2.2.1 f.2.1.size
def kQ (l:bW):List ByteArray:=l.map (·.1)
theorem Bi:∀ (l:bW) (p:Option (Ty.den bp)),pG mK p l=true↔((∀ f ∈ l,FO f)∧fp (kQ l)∧(∀ q,p=some q→∀ f ∈ l,mN q.1 f.1=true))
 | [],p=>by
  constructor
  · intro _
    exact ⟨fun f h=>(by cases h),List.Pairwise.nil,fun q _ f h=>(by cases h)⟩
  · intro _;rfl
 | g::l,p=>by
  have ih:=Bi l (some g)
  unfold pG
  rw [j6,ih]
  have hf:mK p g=true↔(FO g∧(∀ q,p=some q→mN q.1 g.1=true)):=by
   unfold mK FO
   rw [j6,j6,decide_eq_true_eq]
   cases p with
   | none=>exact ⟨fun h=>⟨⟨h.1,h.2.1⟩,fun q hq=>(by cases hq)⟩,fun h=>⟨h.1.1,h.1.2,rfl⟩⟩
   | some q=>exact ⟨fun h=>⟨⟨h.1,h.2.1⟩,fun q' hq=>(by cases hq;exact h.2.2)⟩,fun h=>⟨h.1.1,h.1.2,h.2 q rfl⟩⟩
  rw [hf]
  constructor
  · rintro ⟨⟨h1,h2⟩,h3,h4,h5⟩
    refine ⟨fun f hf=>?_,?_,fun q hq f hf=>?_⟩
    · rcases List.mem_cons.1 hf with e | e
      · rw [e];exact h1
      · exact h3 f e
    · unfold fp kQ
      rw [List.map_cons,List.pairwise_cons]
      refine ⟨fun x hx=>?_,h4⟩
      obtain ⟨f,hf,rfl⟩:=List.mem_map.1 hx
      exact h5 g rfl f hf
    · rcases List.mem_cons.1 hf with e | e
      · rw [e];exact h2 q hq
      · exact qg (h2 q hq) (h5 g rfl f e)
  · rintro ⟨h1,h2,h3⟩
    unfold fp kQ at h2
    rw [List.map_cons,List.pairwise_cons] at h2
    refine ⟨⟨h1 g (oE ..),fun q hq=>h3 q hq g (oE ..)⟩,fun f hf=>h1 f (qy _ hf),h2.2,fun q hq f hf=>?_⟩
    cases hq
    exact h2.1 f.1 (List.mem_map.2 ⟨f,hf,rfl⟩)
structure DR (d:Ty.den a_):Prop where
 len:d.1.length≤130
 cap0:LE.le (α:=Int) 0 d.2.1
 cap1:LE.le (α:=Int) d.2.1 100000
 fu0:LE.le (α:=Int) (-1) d.2.2.1
 fu1:LE.le (α:=Int) d.2.2.1 100000
 use:LE.le (α:=Int) (dR d.1) d.2.1
 all:∀ f ∈ d.1,FO f
 keys:fp (kQ d.1)
theorem jh {d:Ty.den a_}:gw d=true↔DR d:=by
 unfold gw
 rw [j6,j6,j6,j6,decide_eq_true_eq,decide_eq_true_eq,decide_eq_true_eq,decide_eq_true_eq,Bi]
 constructor
 · rintro ⟨h1,⟨h2,h3⟩,⟨h4,h5⟩,h6,h7,h8,_⟩
   exact ⟨h1,h2,h3,h4,h5,h6,h7,h8⟩
 · intro h
   exact ⟨h.len,⟨h.cap0,h.cap1⟩,⟨h.fu0,h.fu1⟩,h.use,h.all,h.keys,fun q hq=>(by cases hq)⟩
theorem De {s:ByteArray} (h:jc s=true):1≤s.size∧s.size≤12:=by
 unfold jc at h
 rw [j6,decide_eq_true_eq] at h
 exact h.2
theorem sv:∀ l:bW,(∀ f ∈ l,FO f)→i7 l≤12*l.length
 | [],_=>Nat.le_refl _
 | f::l,h=>by
  have:=sv l fun g hg=>h g (qy _ hg)
  have:=(De (h f (oE ..)).1).2
  rw [ki,lB]
  omega
theorem DR.sz {d:Ty.den a_} (h:DR d):ta d:=by
 have h1:=h.len
 have h2:=h.use
 have h3:=h.cap1
 have h4:=sv d.1 h.all
 exact ⟨by omega,by omega,by omega⟩
theorem zy {l:bW} {f x:Ty.den bp}:x ∈ kE l f↔x=f∨x ∈ l:=by
 induction l with
 | nil=>simp [kE]
 | cons g l ih =>
  unfold kE
  cases mN f.1 g.1
  · simp only [aM,List.mem_cons,ih]
    exact ⟨fun h=>h.elim (fun q => .inr (.inl q)) (fun q=>q.elim .inl (fun q => .inr (.inr q))),fun h=>h.elim (fun q => .inr (.inl q)) (fun q=>q.elim .inl (fun q => .inr (.inr q)))⟩
  · simp only [aX,List.mem_cons]
theorem mS:∀ (l:bW) (s:ByteArray),(iD l s).Sublist l
 | [],s=>List.Sublist.slnil
 | g::l,s=>by
  unfold iD
  cases seq g.1 s
  · exact (mS l s).cons_cons g
  · exact (List.Sublist.refl l).cons g
theorem E4 {h:Ty.den bp→Ty.den bp} (hh:∀ f,(h f).1=f.1):∀ (l:bW) (s:ByteArray),kQ (lY h l s)=kQ l
 | [],s=>rfl
 | g::l,s=>by
  unfold lY
  cases seq g.1 s
  · show g.1::kQ (lY h l s)=g.1::kQ l
    rw [E4 hh l s]
  · show (h g).1::kQ l=g.1::kQ l
    rw [hh]
theorem wB {h:Ty.den bp→Ty.den bp} (hh:∀ f,(h f).1=f.1) {l:bW} {s:ByteArray} (hk:fp (kQ l)):fp (kQ (lY h l s)):=by
 rw [E4 hh]
 exact hk
theorem vF {h:Ty.den bp→Ty.den bp}:∀ {l:bW} {s:ByteArray} {x:Ty.den bp},x ∈ lY h l s→x ∈ l∨∃ f,bq l s=some f∧x=h f
 | [],s,x,hx => .inl hx
 | g::l,s,x,hx=>by
  unfold lY at hx
  unfold bq
  cases c:seq g.1 s with
  | true =>
   rw [c,aX] at hx
   rcases List.mem_cons.1 hx with e | e
   · exact .inr ⟨g,rfl,e⟩
   · exact .inl (qy _ e)
  | false =>
   rw [c,aM] at hx
   rcases List.mem_cons.1 hx with e | e
   · exact .inl (by rw [e];exact oE ..)
   · rcases vF e with q | ⟨f,q1,q2⟩
     · exact .inl (qy _ q)
     · exact .inr ⟨f,q1,q2⟩
theorem sL {h:Ty.den bp→Ty.den bp}:∀ {l:bW} {s:ByteArray} {f:Ty.den bp},bq l s=some f→dR (lY h l s)+f.2.1.size=dR l+(h f).2.1.size
 | [],s,f,hf=>by cases hf
 | g::l,s,f,hf=>by
  unfold bq at hf
  unfold lY
  cases c:seq g.1 s with
  | true =>
   rw [c] at hf
   cases hf
   rw [aX,dY,dY]
   omega
  | false =>
   rw [c] at hf
   have:=sL (h:=h) hf
   rw [aM,dY,dY]
   omega
theorem vd:∀ (l:bW) (f:Ty.den bp),dR (kE l f)=dR l+f.2.1.size
 | [],f=>by unfold kE;rw [dY,sU,Nat.add_comm]
 | g::l,f=>by
  unfold kE
  cases mN f.1 g.1
  · rw [aM,dY,dY,vd l f];omega
  · rw [aX,dY,dY];omega
theorem va:∀ {l:bW} {s:ByteArray} {f:Ty.den bp},bq l s=some f→dR (iD l s)+f.2.1.size=dR l
 | [],s,f,hf=>by cases hf
 | g::l,s,f,hf=>by
  unfold bq at hf
  unfold iD
  cases c:seq g.1 s with
  | true=>rw [c] at hf;cases hf;rw [aX,dY];omega
  | false =>
   rw [c] at hf
   have:=va hf
   rw [aM,dY,dY]
   omega
theorem uU (l:bW) (s:ByteArray):dR (iD l s)≤dR l:=by
 cases h:bq l s with
 | some f=>have:=va h;omega
 | none =>
  rcases gU l s 0 with ⟨_,_,h3,_⟩ | ⟨n,_,_,h3,_⟩
  · rw [h3];exact Nat.le_refl _
  · rw [h] at h3;cases h3
theorem zS:∀ (l:bW) (f:Ty.den bp),(kE l f).length=l.length+1
 | [],f=>rfl
 | g::l,f=>by
  unfold kE
  cases mN f.1 g.1
  · rw [aM,lB,zS l f,lB]
  · rw [aX,lB,lB]
theorem v7 (h:Ty.den bp→Ty.den bp):∀ (l:bW) (s:ByteArray),(lY h l s).length=l.length
 | [],s=>rfl
 | g::l,s=>by
  unfold lY
  cases seq g.1 s
  · rw [aM,lB,v7 h l s,lB]
  · rw [aX,lB,lB]
theorem lx:∀ {l:bW} {s:ByteArray} {f:Ty.den bp},bq l s=some f→f ∈ l∧f.1=s
 | [],s,f,h=>by cases h
 | g::l,s,f,h=>by
  unfold bq at h
  cases c:seq g.1 s with
  | true=>rw [c] at h;cases h;exact ⟨oE ..,dS.1 c⟩
  | false =>
   rw [c] at h
   exact ⟨qy _ (lx h).1,(lx h).2⟩
theorem nH:∀ {l:bW} {s:ByteArray},bq l s=none↔∀ f ∈ l,f.1≠s
 | [],s=>⟨fun _ f h=>(by cases h),fun _=>rfl⟩
 | g::l,s=>by
  unfold bq
  cases c:seq g.1 s with
  | true =>
   constructor
   · intro h;cases h
   · intro h;exact absurd (dS.1 c) (h g (oE ..))
  | false =>
   rw [aM,nH]
   constructor
   · intro h f hf
     rcases List.mem_cons.1 hf with e | e
     · rw [e];intro q;rw [I9 q] at c;cases c
     · exact h f e
   · intro h f hf;exact h f (qy _ hf)
theorem xH {f:Ty.den bp}:∀ {l:bW},fp (kQ l)→(∀ g ∈ l,g.1≠f.1)→fp (kQ (kE l f))
 | [],_,_=>by unfold kE;exact List.pairwise_singleton ..
 | g::l,h,hn=>by
  unfold fp kQ at h
  rw [List.map_cons,List.pairwise_cons] at h
  unfold kE
  cases c:mN f.1 g.1 with
  | true =>
   rw [aX]
   unfold fp kQ
   rw [List.map_cons,List.pairwise_cons]
   refine ⟨fun x hx=>?_,by rw [List.map_cons,List.pairwise_cons];exact h⟩
   rw [List.map_cons] at hx
   rcases List.mem_cons.1 hx with e | e
   · rw [e];exact c
   · exact qg c (h.1 x e)
  | false =>
   rw [aM]
   have ih:=xH (f:=f) (l:=l) h.2 fun g' hg=>hn g' (qy _ hg)
   unfold fp kQ
   rw [List.map_cons,List.pairwise_cons]
   refine ⟨fun x hx=>?_,ih⟩
   obtain ⟨y,hy,rfl⟩:=List.mem_map.1 hx
   rcases zy.1 hy with e | e
   · rw [e]
     have ht:=lf g.1 f.1
     rw [c,mH (hn g (oE ..))] at ht
     cases q:mN g.1 f.1 with
     | true=>rfl
     | false=>rw [q] at ht;cases ht
   · exact h.1 y.1 (List.mem_map.2 ⟨y,e,rfl⟩)
theorem qL {l m:bW} (h:m.Sublist l) (hk:fp (kQ l)):fp (kQ m):=List.Pairwise.sublist (h.map _) hk
theorem I3 {l:bW} (hk:fp (kQ l)) {s:ByteArray} {f:Ty.den bp} (h:bq l s=some f):bq (iD l s) s=none:=by
 induction l with
 | nil=>cases h
 | cons g l ih =>
  unfold fp kQ at hk
  rw [List.map_cons,List.pairwise_cons] at hk
  unfold bq at h
  unfold iD
  cases c:seq g.1 s with
  | true =>
   rw [aX,nH]
   intro x hx e
   have:=hk.1 x.1 (List.mem_map.2 ⟨x,hx,rfl⟩)
   rw [e,dS.1 c,pC] at this
   cases this
  | false =>
   rw [c] at h
   rw [aM]
   unfold bq
   rw [c,aM]
   exact ih hk.2 h
theorem sQ {l:bW} (hk:fp (kQ l)) (s:ByteArray):bq (iD l s) s=none:=by
 cases h:bq l s with
 | some f=>exact I3 hk h
 | none =>
  rcases gU l s 0 with ⟨h1,_,h3,_⟩ | ⟨n,_,_,h3,_⟩
  · rw [h3];exact h1
  · rw [h] at h3;cases h3
def GR (g:bW→Int→bW × Int):Prop:=∀ l c,l.length≤130→(0:Int)≤c→c≤100000→(dR l:Int)≤c→(∀ f ∈ l,FO f)→fp (kQ l) →
 (g l c).1.length≤130∧(dR (g l c).1:Int)≤c∧(∀ f ∈ (g l c).1,FO f)∧fp (kQ (g l c).1)
theorem Hn {d:Ty.den a_} (h:DR d):DR (jd d).1:=by
 have hd:=jh.2 h
 have g0:=h.fu0
 have g1:=h.fu1
 unfold jd
 rw [hd]
 cases c1:d.2.2.2.1 with
 | true=>exact ⟨h.len,h.cap0,h.cap1,h.fu0,h.fu1,h.use,h.all,h.keys⟩
 | false =>
  cases c2:d.2.2.1==0 with
  | true=>exact ⟨h.len,h.cap0,h.cap1,h.fu0,h.fu1,h.use,h.all,h.keys⟩
  | false =>
   by_cases c3:(d.2.2.1:Int) > 0
   · have e:∀ x:Int,x > 0→x≤100000 → -1≤aH (x-1)∧aH (x-1)≤100000:=fun x q1 q2=>by
      rw [aC (by omega) (by omega)]
      omega
     have e:=e d.2.2.1 c3 g1
     rw [aN c3]
     exact ⟨h.len,h.cap0,h.cap1,e.1,e.2,h.use,h.all,h.keys⟩
   · rw [aP c3]
     exact h
theorem qn {g:bW→Int→bW × Int} (hg:GR g) {d:Ty.den a_} (h:DR d):DR (iR d g).1:=by
 have hb:=Hn h
 unfold iR
 cases c:(jd d).2 != 0 with
 | true=>exact hb
 | false =>
  have hk:(jd d).1.2.1=d.2.1:=GW d
  obtain ⟨g1,g2,g3,g4⟩:=hg d.1 d.2.1 h.len h.cap0 h.cap1 h.use h.all h.keys
  exact ⟨g1,hb.cap0,hb.cap1,hb.fu0,hb.fu1,by show (dR (g d.1 d.2.1).1:Int)≤(jd d).1.2.1;rw [hk];exact g2,g3,g4⟩
theorem Iv (s:ByteArray):GR (wq s):=by
 intro l c h1 h2 h3 h4 h5 h6
 unfold wq
 cases hn:jc s with
 | false=>exact ⟨h1,h4,h5,h6⟩
 | true =>
  cases hs:(bq l s).isSome with
  | true=>exact ⟨h1,h4,h5,h6⟩
  | false =>
   by_cases hl:(l.length:Int)≥130
   · rw [aN hl];exact ⟨h1,h4,h5,h6⟩
   · rw [aP hl]
     have hnone:bq l s=none:=by
      cases q:bq l s with
      | none=>rfl
      | some f=>rw [q] at hs;cases hs
     refine ⟨by show (kE l _).length≤130;rw [zS];omega,by show (dR (kE l _):Int)≤c;rw [vd];exact h4,fun f hf=>?_,xH h6 (nH.1 hnone)⟩
     rcases zy.1 hf with e | e
     · rw [e];exact ⟨hn,Int.le_refl _,by show (0:Int)≤_;omega⟩
     · exact h5 f e
theorem JK (s t:ByteArray):GR (xm s t):=by
 intro l c h1 h2 h3 h4 h5 h6
 unfold xm
 cases hs:bq l s with
 | none=>exact ⟨h1,h4,h5,h6⟩
 | some f =>
  simp only [Option.isNone_some,aM]
  rw [aC (by omega) (by omega)]
  by_cases ht:(t.size:Int) > c-(dR l:Int)
  · rw [aN ht];exact ⟨h1,h4,h5,h6⟩
  · rw [aP ht]
    have hu:=sL (h:=fun f=>(f.1,(f.2.1++t,f.2.2))) hs
    have hz:(f.2.1++t).size=f.2.1.size+t.size:=ByteArray.size_append ..
    simp only [hz] at hu
    refine ⟨by show (lY _ l s).length≤130;rw [v7];exact h1,by show (dR (lY _ l s):Int)≤c;omega,fun x hx=>?_,wB (by intro f;rfl) h6⟩
    rcases vF hx with q | ⟨y,q1,q2⟩
    · exact h5 x q
    · obtain ⟨a,b,c'⟩:=h5 y (lx q1).1
      rw [q2]
      refine ⟨a,b,?_⟩
      show LE.le (α:=Int) y.2.2.1 ((y.2.1++t).size:Int)
      have:(y.2.1++t).size=y.2.1.size+t.size:=ByteArray.size_append ..
      omega
theorem JM (s:ByteArray):GR (Bm s):=by
 intro l c h1 h2 h3 h4 h5 h6
 unfold Bm
 cases hs:bq l s with
 | none=>exact ⟨h1,h4,h5,h6⟩
 | some f =>
  simp only [Option.isNone_some,aM]
  have hu:=sL (h:=fun f=>(f.1,(f.2.1,((f.2.1.size:Int),f.2.2.2)))) hs
  refine ⟨by show (lY _ l s).length≤130;rw [v7];exact h1,by show (dR (lY _ l s):Int)≤c;simp only [] at hu;omega,fun x hx=>?_,wB (by intro f;rfl) h6⟩
  rcases vF hx with q | ⟨y,q1,q2⟩
  · exact h5 x q
  · obtain ⟨a,b,c'⟩:=h5 y (lx q1).1
    rw [q2]
    exact ⟨a,by show (0:Int)≤(y.2.1.size:Int);omega,Int.le_refl _⟩
theorem Ie (s:ByteArray):GR (ub s):=by
 intro l c h1 h2 h3 h4 h5 h6
 unfold ub
 cases hs:bq l s with
 | none=>exact ⟨h1,h4,h5,h6⟩
 | some f =>
  have hd:=mS l s
  have hu:=uU l s
  exact ⟨Nat.le_trans hd.length_le h1,by show (dR (iD l s):Int)≤c;omega,fun x hx=>h5 x (hd.subset hx),qL hd h6⟩
theorem EQ (s:ByteArray) {n:Nat} (h:n≤s.size):(ByteArray.extract s 0 n).size=n:=by
 rw [ByteArray.size_extract]
 omega
theorem J4 (s:ByteArray) (n:Int):GR (IA s n):=by
 intro l c h1 h2 h3 h4 h5 h6
 unfold IA
 cases hs:bq l s with
 | none=>exact ⟨h1,h4,h5,h6⟩
 | some f =>
  simp only []
  by_cases hn:0≤n∧n≤(f.2.1.size:Int)
  · rw [aN hn]
    have hu:=sL (h:=fun f=>(f.1,(ByteArray.extract f.2.1 0 n.toNat,((if n<f.2.2.1 then n else f.2.2.1),f.2.2.2)))) hs
    have hz:=EQ f.2.1 (n:=n.toNat) (by omega)
    simp only [hz] at hu
    refine ⟨by show (lY _ l s).length≤130;rw [v7];exact h1,by show (dR (lY _ l s):Int)≤c;omega,fun x hx=>?_,wB (by intro f;rfl) h6⟩
    rcases vF hx with q | ⟨y,q1,q2⟩
    · exact h5 x q
    · rw [hs] at q1
      cases q1
      obtain ⟨a,b,c'⟩:=h5 f (lx hs).1
      rw [q2]
      refine ⟨a,?_,?_⟩
      · show (0:Int)≤if n<f.2.2.1 then n else f.2.2.1
        split <;> omega
      · show (if n<f.2.2.1 then n else f.2.2.1)≤((ByteArray.extract f.2.1 0 n.toNat).size:Int)
        rw [hz]
        split <;> omega
  · rw [aP hn];exact ⟨h1,h4,h5,h6⟩
theorem JE (a b:ByteArray):GR (xn a b):=by
 intro l c h1 h2 h3 h4 h5 h6
 unfold xn
 cases hn:jc b with
 | false=>exact ⟨h1,h4,h5,h6⟩
 | true =>
  simp only [ft,aM]
  cases hs:bq l a with
  | none=>exact ⟨h1,h4,h5,h6⟩
  | some f =>
   simp only []
   cases seq a b with
   | true=>exact ⟨h1,h4,h5,h6⟩
   | false =>
    simp only [aM]
    have hd:=mS l a
    have hd2:=mS (iD l a) b
    have hu:=va hs
    have hu2:=uU (iD l a) b
    have hk2:=qL (hd2.trans hd) h6
    have hl:=gU l a 0
    have hlen:(iD l a).length+1=l.length:=by
     rcases gU l a 0 with ⟨q,_⟩ | ⟨n,q1,_,_,q4,_⟩
     · rw [hs] at q;cases q
     · rw [← q4,xS,List.length_take,List.length_drop];omega
    have hlen2:=hd2.length_le
    refine ⟨by rw [zS];omega,by rw [vd];show ((dR (iD (iD l a) b)+f.2.1.size:Nat):Int)≤c;omega,fun x hx=>?_,xH hk2 (nH.1 (sQ (qL hd h6) b))⟩
    rcases zy.1 hx with e | e
    · rw [e]
      exact ⟨hn,(h5 f (lx hs).1).2.1,(h5 f (lx hs).1).2.2⟩
    · exact h5 x ((hd2.trans hd).subset e)
theorem A7 {d:Ty.den a_} (h:DR d) (s:ByteArray):DR (tv d s).1:=qn (Iv s) h
theorem o5 {d:Ty.den a_} (h:DR d) (s t:ByteArray):DR (h_ d s t).1:=qn (JK s t) h
theorem nB {d:Ty.den a_} (h:DR d) (s:ByteArray):DR (iq d s).1:=qn (JM s) h
theorem H2 {d:Ty.den a_} (h:DR d) (a b:ByteArray):DR (uc d a b).1:=qn (JE a b) h
theorem za {d:Ty.den a_} (h:DR d) (s:ByteArray):DR (pW d s).1:=qn (Ie s) h
theorem Gn {d:Ty.den a_} (h:DR d) (s:ByteArray) (n:Int):DR (Ca d s n).1:=qn (J4 s n) h
end Go.Proofs.YtohaanhjddohmaaGreatDoor.G
namespace Go.Proofs.YtohaanhjddohmaaGreatDoor.G
open Go.V
theorem kI (k:Nat) {d:Ty.den a_} (hd:ta d):cL.f k d=some (d,()):=by
 have hl:=hd.l
 unfold cL.f cL.t
 rw [ba (by omega) (by decide),List.nil_append]
theorem kF {k:Nat} (hk:2 ^ 50≤k) {d:Ty.den a_} (hd:ta d):cm.f k d=some ((jd d).1,((jd d).2,())):=by
 have hu:=hd.u
 have hn:=hd.n
 unfold cm.f cm.t jd
 rw [kI k hd,aO,kx hk (by omega) (by omega),aO]
 cases gw d <;> cases d.2.2.2.1 <;> cases d.2.2.1==0 <;> cases decide ((d.2.2.1:Int) > 0) <;> rfl
theorem nu {k:Nat} (hk:2 ^ 50≤k) {l:bW} (f:Ty.den bp) (hl:l.length≤1073741824):cy.f k l f=some (kE l f,()):=by
 unfold cy.f cy.t
 refine (dZ (L:=fun n i (s:Bool × bW)=>cy.l0 k n l s.1 i f.1 f.2.1 f.2.2.1 s.2) (R:=fun r s=>some (s.2++(bif s.1 then r else kE r f),())) (Ty.dflt bp) l (fun i s=>(s.2.length:Int)≤i+1∧(s.1=false→(s.2.length:Int)≤i)) (fun n s hs=>?_) (fun n i s x rest h0 h1 hx hr hs ih=>?_) (n:=k) (s:=(false,[])) (by omega) ⟨by simp,by simp⟩).trans ?_
 · obtain ⟨b,o⟩:=s
   simp only [] at hs
   simp only [cy.l0,cy.b0]
   rw [aP (by omega),aM]
   cases b with
   | true=>simp only [ft,aM,aX,List.append_nil]
   | false=>simp only [tI,aM,aX];rw [ba (by omega) (by decide)];rfl
 · obtain ⟨b,o⟩:=s
   simp only [] at hs ih
   simp only [cy.l0,cy.b0]
   rw [aN h1,aX]
   have hlo:(o++[(f.1,(f.2.1,(f.2.2.1,())))]).length=o.length+1:=by simp
   obtain ⟨hs1,hs2⟩:=hs
   simp (disch:=first | omega | decide) only [aG,hx,ba,aC,lf,Bool.not_not]
   cases b with
   | true =>
    have i1:=ih (true,o++[x]) ⟨by simp only [cB];omega,fun q=>(by cases q)⟩
    simp only [] at i1
    simp only [ft,aM,aX]
    rw [i1]
    simp only [aX,sy,List.singleton_append]
   | false =>
    have hs2:=hs2 rfl
    have i2:=ih (false,o++[x]) ⟨by simp only [cB];omega,fun _=>by simp only [cB];omega⟩
    simp only [] at i2
    simp only [tI,aX,aM]
    unfold kE
    cases c:mN f.1 x.1 with
    | true =>
     simp only [aX]
     have i3:=ih (true,(o++[(f.1,(f.2.1,(f.2.2.1,())))])++[x]) ⟨by simp only [cB];omega,fun q=>(by cases q)⟩
     simp only [] at i3
     rw [i3]
     simp only [aX,sy,List.singleton_append]
     rfl
    | false =>
     simp only [aM]
     rw [i2]
     simp only [aM,sy,List.singleton_append]
 · simp only [aM,List.nil_append]
theorem nM (k:Nat) {l:bW} {n:Nat} (hn:n<l.length) (hl:l.length≤1073741824):eV.f k l (n:Int)=some (l.take n++l.drop (n+1),()):=by
 unfold eV.f eV.t
 have e:aH ((n:Int)+1)=((n+1:Nat):Int):=by rw [aC (by omega) (by omega)];omega
 rw [e,ng,ng,c_ (by omega) (by omega),c_ (by omega) (by omega),ba (by rw [List.length_take];omega) (by decide),ba (by rw [xS,List.length_take,List.length_drop];simp only [List.length_nil];omega) (by decide),List.nil_append]
theorem mc (d:Ty.den a_):∃ b2,(jd d).1=(d.1,b2):=⟨(jd d).1.2,Prod.ext (ow d) rfl⟩
theorem ov {k:Nat} (hk:2 ^ 50≤k) {d:Ty.den a_} (hd:ta d) {s:ByteArray} (hs:s.size≤1099511627776):eY.f k d s=some ((tv d s).1,((tv d s).2,())):=by
 have hl:=hd.l
 unfold eY.f eY.t tv iR
 rw [kF hk hd,aO]
 obtain ⟨b2,hb⟩:=mc d
 simp only [hb]
 cases c:(jd d).2 != 0 with
 | true=>rw [aX,aX,hb]
 | false =>
  rw [aM,aM,nW hk hs,aO]
  unfold wq
  cases jc s with
  | false=>rfl
  | true =>
   simp only [ft,aM]
   rw [i6 hk (by omega),aO]
   rcases gU d.1 s 0 with ⟨h1,h2,_⟩ | ⟨n,h1,h2,h3,_⟩
   · rw [h1,h2]
     simp only [Option.isSome_none,aM]
     rw [aP (by decide),aM]
     by_cases cl:(d.1.length:Int)≥130
     · rw [aN cl];rfl
     · rw [aP cl,aM,aM,nu hk _ (by omega),aO]
   · rw [h2,h3]
     simp only [Option.isSome_some,aX]
     rw [aN (by omega),aX]
theorem nD {k:Nat} (hk:2 ^ 50≤k) {d:Ty.den a_} (hd:ta d) (s:ByteArray) {t:ByteArray} (ht:t.size≤1099511627776):cA.f k d s t=some ((h_ d s t).1,((h_ d s t).2,())):=by
 have hl:=hd.l
 have hu:=hd.u
 unfold cA.f cA.t h_ iR
 rw [kF hk hd,aO]
 obtain ⟨b2,hb⟩:=mc d
 simp only [hb]
 cases c:(jd d).2 != 0 with
 | true=>rw [aX,aX,hb]
 | false =>
  rw [aM,aM,i6 hk (by omega),aO]
  unfold xm
  rcases gU d.1 s 0 with ⟨h1,h2,_⟩ | ⟨n,h1,h2,h3,_,_,h6⟩
  · rw [h1,h2]
    simp only [Option.isNone_none,aX]
    rw [aN (by decide),aX]
  · rw [Int.zero_add] at h2
    rw [h2,h3]
    simp only [Option.isNone_some,aM]
    rw [aP (by omega),aM,nq hk (by omega) (by omega),aO]
    simp only []
    cases decide ((t.size:Int) > aH (d.2.1-(dR d.1:Int))) with
    | true=>rfl
    | false =>
     have hm:=mn (lx h3).1
     rw [aM,aM,ng,aG (by omega) (by omega),aG (by omega) (by omega),dL (Nat.le_trans (Nat.add_le_add (Nat.le_trans hm hu) ht) (by decide)),← h6]
theorem kn {k:Nat} (hk:2 ^ 50≤k) {d:Ty.den a_} (hd:ta d) (s:ByteArray):cg.f k d s=some ((iq d s).1,((iq d s).2,())):=by
 have hl:=hd.l
 unfold cg.f cg.t iq iR
 rw [kF hk hd,aO]
 obtain ⟨b2,hb⟩:=mc d
 simp only [hb]
 cases c:(jd d).2 != 0 with
 | true=>rw [aX,aX,hb]
 | false =>
  rw [aM,aM,i6 hk (by omega),aO]
  unfold Bm
  rcases gU d.1 s 0 with ⟨h1,h2,_⟩ | ⟨n,h1,h2,h3,_,_,h6⟩
  · rw [h1,h2]
    simp only [Option.isNone_none,aX]
    rw [aN (by decide),aX]
  · rw [Int.zero_add] at h2
    rw [h2,h3]
    simp only [Option.isNone_some,aM]
    rw [aP (by omega),aM,ng,aG (by omega) (by omega),aG (by omega) (by omega),← h6]
theorem wQ {k:Nat} (hk:2 ^ 50≤k) {d:Ty.den a_} (hd:ta d) (a:ByteArray) {b:ByteArray} (hs:b.size≤1099511627776):fJ.f k d a b=some ((uc d a b).1,((uc d a b).2,())):=by
 have hl:=hd.l
 unfold fJ.f fJ.t uc iR
 rw [kF hk hd,aO]
 obtain ⟨b2,hb⟩:=mc d
 simp only [hb]
 cases c:(jd d).2 != 0 with
 | true=>rw [aX,aX,hb]
 | false =>
  rw [aM,aM,nW hk hs,aO]
  unfold xn
  cases jc b with
  | false=>rfl
  | true =>
   simp only [ft,aM]
   rw [i6 hk (by omega),aO]
   rcases gU d.1 a 0 with ⟨h1,h2,_⟩ | ⟨n,h1,h2,h3,h4,_,_⟩
   · rw [h1,h2]
     simp only []
     rw [aN (by decide),aX]
   · rw [Int.zero_add] at h2
     rw [h2,h3]
     simp only []
     rw [aP (by omega),aM]
     cases seq a b with
     | true=>rfl
     | false =>
      have hd1:=(mS d.1 a).length_le
      rw [aM,aM,ng,aG (by omega) (by omega),nM k h1 (by omega),aO,h4]
      simp only []
      rw [i6 hk (d:=(iD d.1 a,b2)) (by show (iD d.1 a).length≤_;omega),aO]
      simp only []
      rcases gU (iD d.1 a) b 0 with ⟨g1,g2,g3,_⟩ | ⟨m,g1,g2,g3,g4,_⟩
      · rw [g2,g3,aP (by decide),aM,nu hk _ (by omega),aO]
      · rw [Int.zero_add] at g2
        have hd2:=(mS (iD d.1 a) b).length_le
        rw [g2,aN (by omega),aX,nM k g1 (by omega),aO,g4]
        simp only []
        rw [nu hk _ (by omega),aO]
end Go.Proofs.YtohaanhjddohmaaGreatDoor.G
namespace Go.Proofs.YtohaanhjddohmaaGreatDoor.G
open Go.V
theorem rI {k:Nat} (hk:2 ^ 50≤k) {d:Ty.den a_} (hd:ta d) (s:ByteArray):g_.f k d s=some ((pW d s).1,((pW d s).2,())):=by
 have hl:=hd.l
 unfold g_.f g_.t pW iR
 rw [kF hk hd,aO]
 obtain ⟨b2,hb⟩:=mc d
 simp only [hb]
 cases c:(jd d).2 != 0 with
 | true=>rw [aX,aX,hb]
 | false =>
  rw [aM,aM,i6 hk (by omega),aO]
  unfold ub
  rcases gU d.1 s 0 with ⟨h1,h2,_⟩ | ⟨n,h1,h2,h3,h4,_⟩
  · rw [h1,h2]
    simp only [Option.isNone_none,aX]
    rw [aN (by decide),aX]
  · rw [Int.zero_add] at h2
    rw [h2,h3]
    simp only [Option.isNone_some,aM]
    rw [aP (by omega),aM,nM k h1 (by omega),aO,h4]
theorem sG {l:bW} {n:Nat} (h:n<l.length) (x z:Ty.den bp):(l.set n x).getD n z=x:=by
 simp [List.getD,h]
theorem Hh {l:bW} {n:Nat} (x y:Ty.den bp):(l.set n x).set n y=l.set n y:=by simp
theorem Cu {k:Nat} (hk:2 ^ 50≤k) {d:Ty.den a_} (hd:ta d) (s:ByteArray) (m:Int):i_.f k d s m=some ((Ca d s m).1,((Ca d s m).2,())):=by
 have hl:=hd.l
 unfold i_.f i_.t Ca iR
 rw [kF hk hd,aO]
 obtain ⟨b2,hb⟩:=mc d
 simp only [hb]
 cases c:(jd d).2 != 0 with
 | true=>rw [aX,aX,hb]
 | false =>
  rw [aM,aM,i6 hk (by omega),aO]
  unfold IA
  rcases gU d.1 s 0 with ⟨h1,h2,_⟩ | ⟨n,h1,h2,h3,_,_,h6⟩
  · rw [h1,h2]
    simp only []
    rw [aN (by decide),aX]
  · rw [Int.zero_add] at h2
    rw [h2,h3]
    simp only []
    rw [aP (by omega),aM,ng,aG (by omega) (by omega),fz,aO]
    by_cases hm:0≤m∧m≤((d.1.getD n (Ty.dflt bp)).2.1.size:Int)
    · rw [aN hm]
      simp only [ft,aM]
      rw [aG (by omega) (by omega),c_ hm.1 hm.2,aG (by omega) (by omega),aG (by omega) (by omega),aG (by omega) (by rw [List.length_set];omega),sG h1,Hh,← h6]
    · rw [aP hm]
      rfl
end Go.Proofs.YtohaanhjddohmaaGreatDoor.G
namespace Go.Proofs.YtohaanhjddohmaaGreatDoor.G
open Go.V
theorem k7 (k:Nat) {d:Ty.den a_} (hl:d.1.length≤1073741824):cH.f k d=some (d,()):=by
 unfold cH.f cH.t
 rw [ba (by omega) (by decide)]
theorem sW:∀ {l:bW} {a:ByteArray} {f:Ty.den bp},fp (kQ l)→bq l a=some f→kE (iD l a) (a,f.2)=l
 | [],a,f,_,h=>by cases h
 | g::l,a,f,hk,h=>by
  have hk':(∀ x ∈ kQ l,mN g.1 x=true)∧fp (kQ l):=List.pairwise_cons.1 hk
  unfold bq at h
  unfold iD
  cases c:seq g.1 a with
  | true =>
   rw [c] at h
   cases h
   rw [aX]
   have e:=dS.1 c
   subst e
   cases l with
   | nil=>rfl
   | cons x l =>
    have:=hk'.1 x.1 (oE ..)
    unfold kE
    rw [this]
    rfl
  | false =>
   rw [c] at h
   rw [aM]
   have hm:=lx h
   have h1:mN g.1 a=true:=by have:=hk'.1 f.1 (List.mem_map.2 ⟨f,hm.1,rfl⟩);rw [hm.2] at this;exact this
   unfold kE
   rw [EU h1,aM,sW hk'.2 h]
theorem qJ {k:Nat} (hk:2 ^ 50≤k) {d:Ty.den a_} (hl:d.1.length≤1073741824) (s:ByteArray):e6.f k d s=some ((iD d.1 s,d.2),()):=by
 unfold e6.f e6.t
 rw [jD hk (by omega),aO]
 rcases gU d.1 s 0 with ⟨h1,h2,h3,_⟩ | ⟨n,h1,h2,h3,h4,_⟩
 · rw [h2,h3]
   simp only []
   rw [aP (by decide),aM]
 · rw [Int.zero_add] at h2
   rw [h2,← h4]
   have e:aH ((n:Int)+1)=((n+1:Nat):Int):=by rw [aC (by omega) (by omega)];omega
   simp only [e,ng]
   rw [aN (by omega),aX,c_ (by omega) (by omega),ba (by rw [List.length_take];omega) (by decide),c_ (by omega) (by omega),ba (by rw [List.length_take,List.length_drop];omega) (by decide)]
theorem wi {k:Nat} (hk:2 ^ 50≤k) {d:Ty.den a_} (hl:d.1.length≤1073741824) (f:Ty.den bp) (hn:∀ g ∈ d.1,g.1≠f.1):ck.f k d f=some ((kE d.1 f,d.2),()):=by
 unfold ck.f ck.t
 have key:=HJ (L:=fun n i (_:Unit)=>ck.l0 k n i d.1 d.2.1 d.2.2.1 d.2.2.2.1 f.1 f.2.1 f.2.2.1) (R:=fun i _=>some ((d.1.take i.toNat++kE (d.1.drop i.toNat) f,d.2),())) d.1.length (fun _ _=>True) (fun n _ _=>?_) (fun n i _ h0 h1 _ ih=>?_) k 0 () (by omega) (by omega) (by omega) trivial
 · rw [show (0:Int).toNat=0 from rfl,List.take_zero,List.nil_append,List.drop_zero] at key
   exact key
 · simp only [ck.l0,ck.b0]
   rw [aP (by omega),aM,ng,c_ (by omega) (by omega),ba (by rw [List.length_take];omega) (by decide),ba (by rw [List.length_take];omega) (by decide),c_ (by omega) (by omega),ba (by rw [xS,List.length_take,List.length_drop];simp only [List.length_singleton];omega) (by decide),List.drop_length,List.append_nil]
   rfl
 · have ih:=ih () trivial
   have hlt:i.toNat<d.1.length:=by omega
   have e:d.1.drop i.toNat=d.1.getD i.toNat (Ty.dflt bp)::d.1.drop (i.toNat+1):=by
    rw [List.drop_eq_getElem_cons hlt]
    simp [List.getD,hlt]
   have hne:(d.1.getD i.toNat (Ty.dflt bp)).1≠f.1:=hn _ (gb hlt)
   have ht:=lf (d.1.getD i.toNat (Ty.dflt bp)).1 f.1
   rw [mH hne,Bool.or_false] at ht
   simp only [ck.l0,ck.b0]
   rw [aN h1,aX,aG h0 h1,aC (n:=i+1) (by omega) (by omega),ih]
   rw [show kE (d.1.drop i.toNat) f=bif mN f.1 (d.1.getD i.toNat (Ty.dflt bp)).1 then f::d.1.drop i.toNat else d.1.getD i.toNat (Ty.dflt bp)::kE (d.1.drop (i.toNat+1)) f by rw [e];rfl]
   rw [show mN (List.getD d.1 i.toNat (Ty.dflt bp)).1 f.1=!mN f.1 (d.1.getD i.toNat (Ty.dflt bp)).1 from ht]
   cases c:mN f.1 (d.1.getD i.toNat (Ty.dflt bp)).1 with
   | false =>
    rw [show (i+1).toNat=i.toNat+1 by omega,jk (z:=Ty.dflt bp) hlt,sy]
    rfl
   | true =>
    rw [ft,aM,aX,c_ h0 (by omega),ba (by rw [List.length_take];omega) (by decide),ba (by rw [List.length_take];omega) (by decide),c_ h0 (by omega),ba (by rw [xS,List.length_take,List.length_drop];simp only [List.length_singleton];omega) (by decide),sy]
    rfl
theorem AM {k:Nat} (hk:2 ^ 50≤k) {d:Ty.den a_} (hl:d.1.length≤1073741824) (hu:dR d.1≤1073741824):iC.f k d=some ((dR d.1:Int),()):=by
 unfold iC.f iC.t
 refine (dZ (L:=fun n i s=>iC.l0 k n s d.1 d.1.length i) (R:=fun r s=>some (s+(dR r:Int),())) (Ty.dflt bp) d.1 (fun i s=>0≤s∧s+(dR (d.1.drop i.toNat):Int)≤1099511627776) (fun n s hs=>?_) (fun n i s x rest h0 h1 hx hr hp ih=>?_) (n:=k) (s:=0) (by omega) ⟨by omega,by rw [show d.1.drop (Int.toNat 0)=d.1 from rfl];omega⟩).trans (by rw [Int.zero_add])
 · simp (disch:=omega) only [iC.l0,iC.b0,aP,aM]
   show some (s,())=some (s+((0:Nat):Int),())
   rw [show s+((0:Nat):Int)=s by omega]
 · have hrest:d.1.drop (i+1).toNat=rest:=by
    have:=congrArg (List.drop 1) hr
    rw [List.drop_drop,List.drop_one,List.tail_cons] at this
    rw [show (i+1).toNat=i.toNat+1 by omega]
    exact this
   rw [hr,dY] at hp
   have ih:=ih (s+(x.2.1.size:Int)) ⟨by omega,by rw [hrest];omega⟩
   simp (disch:=omega) only [iC.l0,iC.b0,aN h1,aX,aG,hx,aC,ih]
   rw [show s+(x.2.1.size:Int)+(dR rest:Int)=s+((x.2.1.size+dR rest:Nat):Int) by omega]
   show _=some (s+((dR (x::rest):Nat):Int),())
   rw [dY]
theorem GZ {k:Nat} (hk:2 ^ 50≤k) {d:Ty.den a_} (hl:d.1.length≤1073741824) {s:ByteArray} (hs:s.size≤1099511627776) :
 fM.f k d s=some (((wq s d.1 d.2.1).1,d.2),(s,((wq s d.1 d.2.1).2,()))):=by
 unfold fM.f fM.t wq
 rw [np hk hs,aO]
 cases jc s with
 | false=>rfl
 | true =>
  simp only [ft,aM]
  rw [jD hk (by omega),aO]
  rcases gU d.1 s 0 with ⟨h1,h2,_⟩ | ⟨n,h1,h2,h3,_⟩
  · rw [h1,h2]
    simp only [Option.isSome_none,aM]
    rw [aP (by decide),aM]
    by_cases cl:(d.1.length:Int)≥130
    · rw [aN cl];rfl
    · rw [aP cl,aM,aM,wi hk hl _ (nH.1 h1),aO]
  · rw [h2,h3]
    simp only [Option.isSome_some,aX]
    rw [aN (by omega),aX]
theorem GG {k:Nat} (hk:2 ^ 50≤k) {d:Ty.den a_} (hl:d.1.length≤1073741824) (hu:dR d.1≤1073741824) (s:ByteArray) {t:ByteArray} (ht:t.size≤1099511627776) :
 fL.f k d s t=some (((xm s t d.1 d.2.1).1,d.2),(s,(t,((xm s t d.1 d.2.1).2,())))):=by
 unfold fL.f fL.t xm
 rw [jD hk (by omega),aO]
 rcases gU d.1 s 0 with ⟨h1,h2,_⟩ | ⟨n,h1,h2,h3,_,_,h6⟩
 · rw [h1,h2]
   simp only [Option.isNone_none,aX]
   rw [aN (by decide),aX]
 · rw [Int.zero_add] at h2
   rw [h2,h3]
   simp only [Option.isNone_some,aM]
   rw [aP (by omega),aM,AM hk hl hu,aO]
   simp only []
   cases decide ((t.size:Int) > aH (d.2.1-(dR d.1:Int))) with
   | true=>rfl
   | false =>
    have hm:=mn (lx h3).1
    rw [aM,aM,ng,aG (by omega) (by omega),dL (Nat.le_trans (Nat.add_le_add (Nat.le_trans hm hu) ht) (by decide)),aG (by omega) (by omega),← h6]
theorem Gc {k:Nat} (hk:2 ^ 50≤k) {d:Ty.den a_} (hl:d.1.length≤1073741824) (s:ByteArray) :
 gh.f k d s=some (((Bm s d.1 d.2.1).1,d.2),(s,((Bm s d.1 d.2.1).2,()))):=by
 unfold gh.f gh.t Bm
 rw [jD hk (by omega),aO]
 rcases gU d.1 s 0 with ⟨h1,h2,_⟩ | ⟨n,h1,h2,h3,_,_,h6⟩
 · rw [h1,h2]
   simp only [Option.isNone_none,aX]
   rw [aN (by decide),aX]
 · rw [Int.zero_add] at h2
   rw [h2,h3]
   simp only [Option.isNone_some,aM]
   rw [aP (by omega),aM,ng,aG (by omega) (by omega),aG (by omega) (by omega),← h6]
theorem G6 {k:Nat} (hk:2 ^ 50≤k) {d:Ty.den a_} (hl:d.1.length≤1073741824) (s:ByteArray) :
 fN.f k d s=some (((ub s d.1 d.2.1).1,d.2),(s,((ub s d.1 d.2.1).2,()))):=by
 unfold fN.f fN.t ub
 rw [jD hk (by omega),aO]
 rcases gU d.1 s 0 with ⟨h1,h2,_⟩ | ⟨n,h1,h2,h3,_⟩
 · rw [h1,h2]
   simp only [Option.isNone_none,aX]
   rw [aN (by decide),aX]
 · rw [Int.zero_add] at h2
   rw [h2,h3]
   simp only [Option.isNone_some,aM]
   rw [aP (by omega),aM,qJ hk hl,aO]
theorem G1 {k:Nat} (hk:2 ^ 50≤k) {d:Ty.den a_} (hl:d.1.length≤1073741824) (hs:fp (kQ d.1)) (a:ByteArray) {b:ByteArray} (hb:b.size≤1099511627776) :
 fP.f k d a b=some (((xn a b d.1 d.2.1).1,d.2),(a,(b,((xn a b d.1 d.2.1).2,())))):=by
 unfold fP.f fP.t xn
 rw [jD hk (by omega),aO,np hk hb,aO]
 cases jc b with
 | false=>rfl
 | true =>
  simp only [ft,aM]
  rcases gU d.1 a 0 with ⟨h1,h2,_⟩ | ⟨n,h1,h2,h3,_,_,_⟩
  · rw [h1,h2,aN (by decide),aX]
  · have hd1:=mS d.1 a
    have hd2:=mS (iD d.1 a) b
    have l1:=hd1.length_le
    have l2:=hd2.length_le
    rw [Int.zero_add] at h2
    rw [h2,h3]
    simp only []
    rw [aP (by omega),aM,aG (by omega) (by omega),qJ hk hl,aO]
    simp only []
    rw [qJ hk (d:=(iD d.1 a,d.2)) (by show (iD d.1 a).length≤_;omega),aO]
    simp only []
    rw [wi hk (d:=(iD (iD d.1 a) b,d.2)) (by show (iD (iD d.1 a) b).length≤_;omega) _ (nH.1 (sQ (qL hd1 hs) b)),aO,ng]
    cases c:seq a b with
    | false=>rfl
    | true =>
     have e:=dS.1 c
     subst e
     have hg:iD (iD d.1 a) a=iD d.1 a:=by
      rcases gU (iD d.1 a) a 0 with ⟨_,_,g3,_⟩ | ⟨m,_,_,g3,_⟩
      · exact g3
      · rw [sQ hs a] at g3;cases g3
     have hi:=sW hs h3
     simp only [hg,aX]
     rw [hi]
theorem CN {k:Nat} (hk:2 ^ 50≤k) {d:Ty.den a_} (hd:ta d) {s:ByteArray} (hs:s.size≤1099511627776):j7.f k d s=some ((tv d s).1,((tv d s).2,())):=by
 have hl:=hd.l
 have hu:=hd.u
 have hn:=hd.n
 have h1:∀ b2,fM.f k (d.1,b2) s=_:=fun b2=>GZ hk (d:=(d.1,b2)) hl hs
 unfold j7.f j7.t fa.f fa.t tv iR jd
 rw [k7 k hl,aO,jE hk (by omega) (by omega),aO]
 simp only [h1,aO,show fM.f k d s=_ from h1 d.2]
 cases gw d <;> cases d.2.2.2.1 <;> cases d.2.2.1==0 <;> cases decide ((d.2.2.1:Int) > 0) <;> rfl
theorem Cx {k:Nat} (hk:2 ^ 50≤k) {d:Ty.den a_} (hd:ta d) (s:ByteArray) {t:ByteArray} (ht:t.size≤1099511627776):jA.f k d s t=some ((h_ d s t).1,((h_ d s t).2,())):=by
 have hl:=hd.l
 have hu:=hd.u
 have hn:=hd.n
 have h1:∀ b2,fL.f k (d.1,b2) s t=_:=fun b2=>GG hk (d:=(d.1,b2)) hl hu s ht
 unfold jA.f jA.t fV.f fV.t h_ iR jd
 rw [k7 k hl,aO,jE hk (by omega) (by omega),aO]
 simp only [h1,aO,show fL.f k d s t=_ from h1 d.2]
 cases gw d <;> cases d.2.2.2.1 <;> cases d.2.2.1==0 <;> cases decide ((d.2.2.1:Int) > 0) <;> rfl
theorem Dc {k:Nat} (hk:2 ^ 50≤k) {d:Ty.den a_} (hd:ta d) (s:ByteArray):kt.f k d s=some ((iq d s).1,((iq d s).2,())):=by
 have hl:=hd.l
 have hu:=hd.u
 have hn:=hd.n
 have h1:∀ b2,gh.f k (d.1,b2) s=_:=fun b2=>Gc hk (d:=(d.1,b2)) hl s
 unfold kt.f kt.t gI.f gI.t iq iR jd
 rw [k7 k hl,aO,jE hk (by omega) (by omega),aO]
 simp only [h1,aO,show gh.f k d s=_ from h1 d.2]
 cases gw d <;> cases d.2.2.2.1 <;> cases d.2.2.1==0 <;> cases decide ((d.2.2.1:Int) > 0) <;> rfl
theorem CX {k:Nat} (hk:2 ^ 50≤k) {d:Ty.den a_} (hd:ta d) (s:ByteArray):jC.f k d s=some ((pW d s).1,((pW d s).2,())):=by
 have hl:=hd.l
 have hu:=hd.u
 have hn:=hd.n
 have h1:∀ b2,fN.f k (d.1,b2) s=_:=fun b2=>G6 hk (d:=(d.1,b2)) hl s
 unfold jC.f jC.t fS.f fS.t pW iR jd
 rw [k7 k hl,aO,jE hk (by omega) (by omega),aO]
 simp only [h1,aO,show fN.f k d s=_ from h1 d.2]
 cases gw d <;> cases d.2.2.2.1 <;> cases d.2.2.1==0 <;> cases decide ((d.2.2.1:Int) > 0) <;> rfl
theorem Cq {k:Nat} (hk:2 ^ 50≤k) {d:Ty.den a_} (hd:ta d) (a:ByteArray) {b:ByteArray} (hb:b.size≤1099511627776):j8.f k d a b=some ((uc d a b).1,((uc d a b).2,())):=by
 have hl:=hd.l
 have hu:=hd.u
 have hn:=hd.n
 unfold j8.f j8.t fX.f fX.t uc iR jd
 rw [k7 k hl,aO,jE hk (by omega) (by omega),aO]
 cases c:gw d with
 | false=>rfl
 | true =>
  have h1:∀ b2,fP.f k (d.1,b2) a b=_:=fun b2=>G1 hk (d:=(d.1,b2)) hl (jh.1 c).keys a hb
  simp only [h1,aO,show fP.f k d a b=_ from h1 d.2]
  cases d.2.2.2.1 <;> cases d.2.2.1==0 <;> cases decide ((d.2.2.1:Int) > 0) <;> rfl
end Go.Proofs.YtohaanhjddohmaaGreatDoor.G
namespace Go.Proofs.YtohaanhjddohmaaGreatDoor.G
open Go.V
def mr (lim:Int) (p:Option Int) (x:Int):Bool:=decide ((1:Int)≤x∧x≤lim)&&(match p with | none=>true | some y=>decide (y<x))
def d5 (v:Ty.den bE):Bool:=decide ((1:Int)≤v.1∧v.1≤100000)&&(decide ((1:Int)≤(v.2.1.length:Int)∧(v.2.1.length:Int)≤60)&&pG (mr (aH (v.1-1))) none v.2.1)
theorem pi {k:Nat} (hk:2 ^ 50≤k) (v:Ty.den bE):dC.f k v=some (d5 v,()):=by
 unfold dC.f dC.t d5
 rw [fz,aO]
 cases decide ((1:Int)≤v.1∧v.1≤100000) with
 | false=>rfl
 | true =>
  rw [ft,aM,fz,aO,Bool.true_and]
  by_cases c:(1:Int)≤(v.2.1.length:Int)∧(v.2.1.length:Int)≤60
  case neg=>rw [aP c];rfl
  rw [aN c,ft,aM,Bool.true_and]
  refine (ol (L:=fun n i=>dC.l0 k n i v.1 v.2.1) (Ty.dflt (.int .i64)) v.2.1 (mr (aH (v.1-1))) (some (true,())) (some (false,())) (fun n=>?_) (fun n x h hx=>?_) (fun n i x y h0 h1 hx hy=>?_) (n:=k) (by omega)).trans (by cases pG (mr (aH (v.1-1))) none v.2.1 <;> rfl)
  · simp (disch:=omega) only [dC.l0,dC.b0,aP,aM]
  · simp (disch:=omega) only [dC.l0,dC.b0,aN (show (0:Int)<(v.2.1.length:Int) by omega),aX,aG,hx,fz k,aO,aP (show ¬ (0:Int) > 0 by omega),aM,aC (n:=(0:Int)+1),mr]
    cases decide ((1:Int)≤x∧x≤aH (v.1-1)) <;> rfl
  · simp (disch:=omega) only [dC.l0,dC.b0,aN h1,aX,aG,hx,fz k,aO,aN (show i > 0 by omega),aM,aC (n:=i+1),aC (n:=i-1),hy,mr]
    cases decide ((1:Int)≤x∧x≤aH (v.1-1)) with
    | false=>rfl
    | true =>
     by_cases q:y<x
     · rw [aN q,aP (show ¬ x≤y from Int.not_le.2 q)];rfl
     · rw [aP q,aN (show x≤y from Int.not_lt.1 q)];rfl
theorem py {k:Nat} (hk:2 ^ 50≤k) {v:Ty.den bE} (hl:v.2.1.length≤1099511627776):cU.f k v=some (d5 v,()):=by
 unfold cU.f cU.t d5
 refine (ol (L:=fun n i=>cU.l0 k n v.2.1 v.2.1.length i v.1 v.2.1) (Ty.dflt (.int .i64)) v.2.1 (mr (aH (v.1-1))) (some (decide ((1:Int)≤v.1∧v.1≤100000)&&decide ((1:Int)≤(v.2.1.length:Int)∧(v.2.1.length:Int)≤60),())) (some (false,())) (fun n=>?_) (fun n x h hx=>?_) (fun n i x y h0 h1 hx hy=>?_) (n:=k) (by omega)).trans
  (by cases pG (mr (aH (v.1-1))) none v.2.1 <;> cases decide ((1:Int)≤v.1∧v.1≤100000) <;> cases decide ((1:Int)≤(v.2.1.length:Int)∧(v.2.1.length:Int)≤60) <;> rfl)
 · simp (disch:=omega) only [cU.l0,cU.b0,aP,aM,jr k,aO]
   cases decide ((1:Int)≤v.1∧v.1≤100000) <;> rfl
 · simp (disch:=omega) only [cU.l0,cU.b0,aN (show (0:Int)<(v.2.1.length:Int) by omega),aX,aG,hx,jr k,aO,aP (show ¬ (0:Int) > 0 by omega),aM,aC (n:=(0:Int)+1),mr]
   cases decide ((1:Int)≤x∧x≤aH (v.1-1)) <;> rfl
 · simp (disch:=omega) only [cU.l0,cU.b0,aN h1,aX,aG,hx,jr k,aO,aN (show i > 0 by omega),aM,aC (n:=i+1),aC (n:=i-1),hy,mr]
   cases decide ((1:Int)≤x∧x≤aH (v.1-1)) with
   | false=>rfl
   | true =>
    by_cases q:y<x
    · rw [aN q,aP (show ¬ y≥x from Int.not_le.2 q)];rfl
    · rw [aP q,aN (show y≥x from Int.not_lt.1 q)];rfl
end Go.Proofs.YtohaanhjddohmaaGreatDoor.G
namespace Go.V
theorem zR (l:List Int):(bytesOf l).size=l.length:=by simp [bytesOf,ByteArray.size]
theorem IW {n m:Nat} (hn:n<4294967296) (hm:m<4294967296):aH (((BitVec.ofInt (IntKind.bits .i64) (n:Int) ^^^ BitVec.ofInt (IntKind.bits .i64) (m:Int)).toNat:Int))=((n ^^^ m:Nat):Int):=by
 have h:n ^^^ m<2 ^ 32:=Nat.xor_lt_two_pow (by omega) (by omega)
 show aH (((BitVec.ofInt 64 (n:Int) ^^^ BitVec.ofInt 64 (m:Int)).toNat:Int))=_
 rw [BitVec.ofInt_natCast,BitVec.ofInt_natCast,BitVec.toNat_xor,BitVec.toNat_ofNat,BitVec.toNat_ofNat,Nat.mod_eq_of_lt (by omega),Nat.mod_eq_of_lt (by omega)]
 exact aC (by omega) (by omega)
theorem IL {n m:Nat} (hn:n<4294967296) (hm:m<4294967296):IntKind.wrap .u32 (((BitVec.ofInt (IntKind.bits .u32) (n:Int) ^^^ BitVec.ofInt (IntKind.bits .u32) (m:Int)).toNat:Int))=((n ^^^ m:Nat):Int):=by
 have h:n ^^^ m<2 ^ 32:=Nat.xor_lt_two_pow (by omega) (by omega)
 show IntKind.wrap .u32 (((BitVec.ofInt 32 (n:Int) ^^^ BitVec.ofInt 32 (m:Int)).toNat:Int))=_
 rw [BitVec.ofInt_natCast,BitVec.ofInt_natCast,BitVec.toNat_xor,BitVec.toNat_ofNat,BitVec.toNat_ofNat,Nat.mod_eq_of_lt (by omega),Nat.mod_eq_of_lt (by omega)]
 exact vH (by omega) (by omega)
theorem KC {n b:Nat} (hn:n<4294967296) (hb:b<256):aH (((BitVec.ofInt (IntKind.bits .i64) ((n*256:Nat):Int) ||| BitVec.ofInt (IntKind.bits .i64) (b:Int)).toNat:Int))=((n*256+b:Nat):Int):=by
 have h:n*256 ||| b=n*256+b:=by
  have:=Nat.shiftLeft_add_eq_or_of_lt (i:=8) (b:=b) (by omega) n
  rw [Nat.shiftLeft_eq,show (2:Nat) ^ 8=256 by decide] at this
  omega
 show aH (((BitVec.ofInt 64 ((n*256:Nat):Int) ||| BitVec.ofInt 64 (b:Int)).toNat:Int))=_
 rw [BitVec.ofInt_natCast,BitVec.ofInt_natCast,BitVec.toNat_or,BitVec.toNat_ofNat,BitVec.toNat_ofNat,Nat.mod_eq_of_lt (by omega),Nat.mod_eq_of_lt (by omega),h]
 exact aC (by omega) (by omega)
theorem Ja {n:Nat} (hn:n<4294967296):IntKind.wrap .u32 (((BitVec.ofInt (IntKind.bits .u32) (n:Int) &&& BitVec.ofInt (IntKind.bits .u32) 1).toNat:Int))=((n % 2:Nat):Int):=by
 show IntKind.wrap .u32 (((BitVec.ofInt 32 (n:Int) &&& BitVec.ofInt 32 ((1:Nat):Int)).toNat:Int))=_
 rw [BitVec.ofInt_natCast,BitVec.ofInt_natCast,BitVec.toNat_and,BitVec.toNat_ofNat,BitVec.toNat_ofNat,Nat.mod_eq_of_lt (by omega),Nat.mod_eq_of_lt (show 1<2 ^ 32 by omega),Nat.and_one_is_mod]
 exact vH (by omega) (by omega)
theorem Jr {n:Nat} (hn:n<4294967296):DU .u32 (n:Int)=4294967295-(n:Int):=by
 unfold DU
 show IntKind.wrap .u32 (((BitVec.allOnes 32 ^^^ BitVec.ofInt 32 (n:Int)).toNat:Int))=_
 rw [BitVec.ofInt_natCast,BitVec.allOnes_xor,BitVec.toNat_not,BitVec.toNat_ofNat,Nat.mod_eq_of_lt (by omega)]
 rw [vH (by omega) (by omega)]
 omega
theorem mT (s:ByteArray):(⟨#[]⟩:ByteArray)++s=s:=by
 apply ByteArray.ext
 simp [ByteArray.data_append]
theorem gG (s:ByteArray):s++(⟨#[]⟩:ByteArray)=s:=by
 apply ByteArray.ext
 simp [ByteArray.data_append]
theorem af (a b c:ByteArray):a++b++c=a++(b++c):=by
 apply ByteArray.ext
 simp [ByteArray.data_append]
theorem iZ (a b:ByteArray):nb (a++b)=nb a++nb b:=by
 unfold nb
 rw [ByteArray.data_append,Array.toList_append,List.map_append]
theorem rj (s:ByteArray) (i j:Nat):nb (ByteArray.extract s i j)=((nb s).take j).drop i:=by
 unfold nb
 simp [ByteArray.data_extract,List.map_take,List.map_drop]
 rw [List.drop_take]
theorem jo (s:ByteArray) (n:Nat):nb (ByteArray.extract s n s.size)=(nb s).drop n:=by
 rw [rj,List.take_of_length_le (by rw [cj];omega)]
theorem e9 (a t:ByteArray):ByteArray.extract (a++t) a.size (a++t).size=t:=kh (by rw [jo,iZ,List.drop_left' (cj a)])
theorem wR (a t:ByteArray):ByteArray.extract (a++t) 0 a.size=a:=kh (by rw [rj,iZ,List.take_left' (cj a),List.drop_zero])
theorem vQ (s:ByteArray) {n:Nat} (h:n≤s.size):s=ByteArray.extract s 0 n++ByteArray.extract s n s.size:=kh (by rw [iZ,jo,nF,List.take_append_drop])
theorem rP {a b c:ByteArray} (h:a++b=a++c):b=c:=kh (by
 have:=congrArg nb h
 rw [iZ,iZ] at this
 exact List.append_cancel_left this)
theorem qV {a b c d:ByteArray} (h:a++b=c++d) (hs:a.size=c.size):a=c∧b=d:=by
 have:=congrArg nb h
 rw [iZ,iZ] at this
 have:=List.append_inj this (by rw [cj,cj,hs])
 exact ⟨kh this.1,kh this.2⟩
def rv:Nat→List Nat→Option (Nat × Nat)
 | 0,_=>none
 | _+1,[]=>none
 | d+1,b::l=>if b≥128 then (match rv d l with | some (a,n)=>if a=0 then none else some (b % 128+128*a,n+1) | none=>none) else some (b,1)
theorem Gw:∀ (d a:Nat) (t:List Nat),a<128 ^ (d+1)→rv (d+1) (vl d a++t)=some (a,(vl d a).length)
 | 0,a,t,h=>by
  have:¬ a≥128:=by simpa using h
  simp [vl,rv,this]
 | d+1,a,t,h=>by
  unfold vl
  by_cases c:a≥128
  · have ih:=Gw d (a/128) t (by rw [Nat.pow_succ] at h;omega)
    rw [if_pos c,List.cons_append,rv,if_pos (by omega),ih]
    simp only []
    rw [if_neg (by omega),lB]
    congr 2
    omega
  · rw [if_neg c,List.cons_append,rv,if_neg c]
    rfl
theorem p5:∀ (d:Nat) (l:List Nat) (a n:Nat),(∀ x ∈ l,x<256)→rv (d+1) l=some (a,n)→l.take n=vl d a∧a<128 ^ (d+1)∧n=(vl d a).length∧n≤l.length∧1≤n∧n≤d+1
 | _,[],a,n,_,h=>by simp [rv] at h
 | 0,b::l,a,n,hb,h=>by
  unfold rv at h
  by_cases c:b≥128
  · simp [c,rv] at h
  · simp [c] at h
    obtain ⟨rfl,rfl⟩:=h
    refine ⟨by simp [vl],by simpa using c,by simp [vl],by simp,by omega,by omega⟩
 | d+1,b::l,a,n,hb,h=>by
  unfold rv at h
  by_cases c:b≥128
  · rw [if_pos c] at h
    cases q:rv (d+1) l with
    | none=>rw [q] at h;simp at h
    | some p =>
     obtain ⟨a',n'⟩:=p
     obtain ⟨h1,h2,h3,h4,h5,h6⟩:=p5 d l a' n' (fun x hx=>hb x (qy _ hx)) q
     rw [q] at h
     simp only [] at h
     by_cases z:a'=0
     · simp [z] at h
     · rw [if_neg z] at h
       simp only [Option.some.injEq,Prod.mk.injEq] at h
       obtain ⟨rfl,rfl⟩:=h
       have hb:=hb b (oE ..)
       have e1:(b % 128+128*a')/128=a':=by omega
       have e2:128+(b % 128+128*a') % 128=b:=by omega
       have hv:vl (d+1) (b % 128+128*a')=b::vl d a':=by
        rw [vl,if_pos (by omega),e1,e2]
       rw [hv]
       refine ⟨by rw [List.take_succ_cons,h1],by rw [Nat.pow_succ];omega,by rw [lB,h3],by rw [lB];omega,by omega,by omega⟩
  · rw [if_neg c] at h
    simp only [Option.some.injEq,Prod.mk.injEq] at h
    obtain ⟨rfl,rfl⟩:=h
    have hv:vl (d+1) b=[b]:=by rw [vl,if_neg c]
    rw [hv]
    refine ⟨by simp,?_,by simp,by simp,by omega,by omega⟩
    have:(128:Nat) ^ 1≤128 ^ (d+1+1):=Nat.pow_le_pow_right (by decide) (by omega)
    omega
theorem Jw {d a:Nat}:vl d a≠[]:=by
 cases d with
 | zero=>simp [vl]
 | succ d=>unfold vl;split <;> simp
theorem He (l:List Nat) (hb:∀ x ∈ l,x<256) (d n:Nat) (h0:1≤n) (h1:n≤d+1) (h2:n≤l.length):qD (l.take n)=true↔∃ a,rv (d+1) l=some (a,n):=by
 constructor
 · intro h
   have e:=AN d (l.take n) h (by rw [List.length_take];omega)
   have hd:qu (l.take n)<128 ^ (d+1):=Nat.lt_of_lt_of_le (AO _) (Nat.pow_le_pow_right (by decide) (by rw [List.length_take];omega))
   have:=Gw d (qu (l.take n)) (l.drop n) hd
   rw [e,List.take_append_drop,List.length_take,Nat.min_eq_left h2] at this
   exact ⟨_,this⟩
 · rintro ⟨a,h⟩
   obtain ⟨e1,e2,_⟩:=p5 d l a n hb h
   rw [e1]
   exact (vE d a e2).1
theorem Ip {l:List Nat} (hb:∀ x ∈ l,x<256) {d a n:Nat} (h:rv (d+1) l=some (a,n)):a=qu (l.take n):=by
 obtain ⟨e1,e2,_⟩:=p5 d l a n hb h
 rw [e1]
 exact (vE d a e2).2.1.symm
theorem rq (s:ByteArray):∀ x ∈ nb s,x<256:=fun _ h=>IZ h
theorem ag (a:Nat):1≤(b_ a).size∧(b_ a).size≤7:=by
 unfold b_
 rw [zR,List.length_map]
 have h:∀ d a,(vl d a).length≤d+1:=by
  intro d
  induction d with
  | zero=>intro a;simp [vl]
  | succ d ih=>intro a;unfold vl;split <;> simp;have:=ih (a/128);omega
 have h2:=h 6 a
 have h3:(vl 6 a).length≠0:=fun q=>Jw (List.length_eq_zero_iff.1 q)
 omega
theorem qI {a:Nat} (h:a<562949953421312):(vl 6 a).length=(b_ a).size:=by rw [← sg h,cj]
theorem pa {a:Nat} (h:a<562949953421312) (t:ByteArray):rv 7 (nb (b_ a++t))=some (a,(b_ a).size):=by
 rw [iZ,sg h,← qI h]
 exact Gw 6 a _ (by rw [show (128:Nat) ^ (6+1)=562949953421312 by decide];exact h)
theorem HY {s:ByteArray} {a n:Nat} (h:rv 7 (nb s)=some (a,n)):∃ t,a<562949953421312∧n=(b_ a).size∧s=b_ a++t:=by
 obtain ⟨h1,h2,h3,h4,h5,h6⟩:=p5 6 (nb s) a n (rq s) h
 rw [show (128:Nat) ^ (6+1)=562949953421312 by decide] at h2
 refine ⟨ByteArray.extract s n s.size,h2,by rw [h3,qI h2],kh ?_⟩
 rw [iZ,sg h2,jo,← h1,List.take_append_drop]
theorem jm (s:ByteArray):(∃ a t,a<562949953421312∧s=b_ a++t)∨rv 7 (nb s)=none:=by
 cases h:rv 7 (nb s) with
 | none=>exact .inr rfl
 | some p =>
  obtain ⟨a,n⟩:=p
  obtain ⟨t,h1,_,h3⟩:=HY h
  exact .inl ⟨a,t,h1,h3⟩
theorem vj {a b:Nat} {s t:ByteArray} (ha:a<562949953421312) (hb:b<562949953421312) (h:b_ a++s=b_ b++t):a=b∧s=t:=by
 have h1:=pa ha s
 rw [h,pa hb t] at h1
 simp only [Option.some.injEq,Prod.mk.injEq] at h1
 obtain ⟨rfl,_⟩:=h1
 exact ⟨rfl,rP h⟩
def D8:Option (Nat × Nat)→Int × Int × Unit
 | some p=>((p.1:Int),((p.2:Int),()))
 | none=>(0,(0,()))
end Go.V
namespace Go.Proofs.YtohaanhjddohmaaGreatDoor.G
open Go.V
theorem nV (k:Nat) (a b c:Int):aR.f k a b c=some (decide (b≤a∧a≤c),()):=by
 unfold aR.f aR.t
 by_cases h:b≤a <;> simp [h]
theorem tD (k:Nat) (a b c:Int):ah.f k a b c=some (decide (b≤a∧a≤c),()):=by
 unfold ah.f ah.t
 by_cases h:b≤a <;> simp [h]
def gk (a:Int):ByteArray:=if 0≤a∧a≤562949953421311 then b_ a.toNat else ⟨#[]⟩
theorem ai (a:Int):(gk a).size≤7:=by
 unfold gk
 split
 · exact (ag _).2
 · exact Nat.zero_le _
theorem dD {a:Nat} (h:a<562949953421312):gk (a:Int)=b_ a:=by
 unfold gk
 rw [if_pos (by omega),Int.toNat_natCast]
theorem Jf:∀ (d a n:Nat) (xs:List Int),a<128 ^ (d+1)→a<562949953421312→d<n→xs.length+d≤100→∀ k,
 bP.l0 k n (a:Int) xs=some (bytesOf (xs++(vl d a).map Int.ofNat),())∧fE.l0 k n (a:Int) xs=some (bytesOf (xs++(vl d a).map Int.ofNat),()):=by
 intro d
 induction d with
 | zero =>
  intro a n xs h1 h2 h3 h4 k
  obtain ⟨n,rfl⟩:∃ q,n=q+1:=⟨n-1,by omega⟩
  simp only [Nat.zero_add,Nat.pow_one] at h1
  constructor
  · simp (disch:=first | omega | decide) only [bP.l0,bP.b0,aP,aM,ba,o9]
    rfl
  · simp (disch:=first | omega | decide) only [fE.l0,fE.b0,aP,aM,ba,o9]
    rfl
 | succ d ih =>
  intro a n xs h1 h2 h3 h4 k
  obtain ⟨n,rfl⟩:∃ q,n=q+1:=⟨n-1,by omega⟩
  unfold vl
  by_cases c:a≥128
  · have hd:aH (Int.tdiv (a:Int) 128)=((a/128:Nat):Int):=aC (n:=((a/128:Nat):Int)) (by omega) (by omega)
    have hw:IntKind.wrap .u8 (aH (128+Int.tmod (a:Int) 128))=((128+a % 128:Nat):Int):=by
     have e:128+Int.tmod (a:Int) 128=((128+a % 128:Nat):Int):=by
      show 128+((a % 128:Nat):Int)=_
      omega
     rw [e,aC (by omega) (by omega)]
     exact o9 (by omega) (by omega)
    have ih:=ih (a/128) n (xs++[((128+a % 128:Nat):Int)]) (by rw [Nat.pow_succ] at h1;omega) (by omega) (by omega) (by rw [xS];show _+1+d≤_;omega) k
    rw [if_pos c]
    rw [sy] at ih
    constructor
    · simp (disch:=first | omega | decide) only [bP.l0,bP.b0,aN,aX,ba,hd,hw]
      exact ih.1
    · simp (disch:=first | omega | decide) only [fE.l0,fE.b0,aN,aX,ba,hd,Int.add_comm (Int.tmod (a:Int) 128) 128,hw]
      exact ih.2
  · rw [if_neg c]
    constructor
    · simp (disch:=first | omega | decide) only [bP.l0,bP.b0,aP,aM,ba,o9]
      rfl
    · simp (disch:=first | omega | decide) only [fE.l0,fE.b0,aP,aM,ba,o9]
      rfl
theorem gK {k:Nat} (hk:2 ^ 50≤k) (a:Int):bP.f k a=some (gk a,()):=by
 unfold bP.f bP.t gk
 rw [nV,aO]
 by_cases h:0≤a∧a≤562949953421311
 · obtain ⟨n,rfl⟩:=Int.eq_ofNat_of_zero_le h.1
   have hn:n<562949953421312:=by omega
   simp only [aN h,ft,aM,if_pos h,Int.toNat_natCast]
   exact (Jf 6 n k [] (by rw [show (128:Nat) ^ (6+1)=562949953421312 by decide];exact hn) hn (by omega) (by decide) k).1
 · simp only [aP h,tI,aX,if_neg h]
theorem nE {k:Nat} (hk:2 ^ 50≤k) (a:Int):fE.f k a=some (gk a,()):=by
 unfold fE.f fE.t gk
 rw [tD,aO]
 by_cases h:0≤a∧a≤562949953421311
 · obtain ⟨n,rfl⟩:=Int.eq_ofNat_of_zero_le h.1
   have hn:n<562949953421312:=by omega
   simp only [aN h,ft,aM,if_pos h,Int.toNat_natCast]
   exact (Jf 6 n k [] (by rw [show (128:Nat) ^ (6+1)=562949953421312 by decide];exact hn) hn (by omega) (by decide) k).2
 · simp only [aP h,tI,aX,if_neg h]
theorem Fx {s:ByteArray} {i:Nat} (h:i<s.size):(nb s).take (i+1)=(nb s).take i++[(nb s).getD i 0]:=by
 have h1:i<(nb s).length:=by rw [cj];exact h
 rw [List.take_succ_eq_append_getElem h1]
 simp [List.getD,h1]
theorem ia (s:ByteArray) (i:Nat):(nb s).getD i 0<256:=by
 by_cases h1:i<(nb s).length
 · rw [show (nb s).getD i 0=(nb s)[i] by simp [List.getD,h1]]
   exact IZ (List.getElem_mem h1)
 · simp [List.getD,List.getElem?_eq_none (by omega:(nb s).length≤i)]
theorem qX {s:ByteArray} {i:Nat} (h:i<s.size):(nb s).drop i=(nb s).getD i 0::(nb s).drop (i+1):=by
 have h1:i<(nb s).length:=by rw [cj];exact h
 rw [List.drop_eq_getElem_cons h1]
 simp [List.getD,h1]
def CM (n:Nat):Nat:=if n % 2=1 then n/2 ^^^ 2197175160 else n/2
def xu:Nat→Nat→Nat
 | 0,n=>n
 | d+1,n=>xu d (CM n)
theorem AK {n:Nat} (h:n<4294967296):CM n<4294967296:=by
 unfold CM
 split
 · exact Nat.xor_lt_two_pow (n:=32) (by omega) (by omega)
 · omega
theorem AJ:∀ {d n:Nat},n<4294967296→xu d n<4294967296
 | 0,_,h=>h
 | d+1,_,h=>AJ (d:=d) (AK h)
def Cl:List Nat→Nat→Nat
 | [],n=>n
 | b::l,n=>Cl l (xu 8 (n ^^^ b))
theorem Dj:∀ {l:List Nat} {n:Nat},n<4294967296→(∀ b ∈ l,b<256)→Cl l n<4294967296
 | [],_,h,_=>h
 | b::l,n,h,hb=>by
  have:=hb b (oE ..)
  exact Dj (l:=l) (AJ (Nat.xor_lt_two_pow (n:=32) (by omega) (by omega))) (fun x hx=>hb x (qy _ hx))
def oX (s:ByteArray):Int:=4294967295-(Cl (nb s) 4294967295:Int)
theorem qk (s:ByteArray):0≤oX s∧oX s≤4294967295:=by
 have:=Dj (l:=nb s) (n:=4294967295) (by omega) (rq s)
 unfold oX
 omega
theorem E8 {k:Nat} {L0:ByteArray→Int→Int→Option (Int × Unit)} {s:ByteArray} {i:Int}:∀ (d j m n:Nat),8-j=d→j≤8→d<m→n<4294967296→fg.l1 k L0 m s (n:Int) i (j:Int)=L0 s ((xu d n:Nat):Int) (aH (i+1))
 | 0,j,m,n,hd,hj,hm,hn=>by
  obtain ⟨m,rfl⟩:∃ q,m=q+1:=⟨m-1,by omega⟩
  have c:¬ ((j:Int)<8):=by omega
  simp only [fg.l1,fg.b1,decide_eq_false c,aM,xu]
 | d+1,j,m,n,hd,hj,hm,hn=>by
  obtain ⟨m,rfl⟩:∃ q,m=q+1:=⟨m-1,by omega⟩
  have c:((j:Int)<8):=by omega
  have ih:=E8 (k:=k) (L0:=L0) (s:=s) (i:=i) d (j+1) m (CM n) (by omega) (by omega) (by omega) (AK hn)
  have hd2:aH (Int.tdiv (n:Int) 2)=((n/2:Nat):Int):=aC (n:=((n/2:Nat):Int)) (by omega) (by omega)
  have hx:=IW (n:=n/2) (m:=2197175160) (by omega) (by omega)
  have hm2:Int.tmod (n:Int) 2=((n % 2:Nat):Int):=rfl
  have hj1:aH ((j:Int)+1)=((j+1:Nat):Int):=by rw [aC (by omega) (by omega)];omega
  simp only [fg.l1,fg.b1,decide_eq_true c,aX,hj1,hd2,hm2,xu]
  rw [← ih]
  unfold CM
  by_cases q:n % 2=1
  · rw [if_pos q,q,← hx]
    rfl
  · rw [if_neg q,show n % 2=0 by omega]
    rfl
theorem EA {k:Nat} {L0:ByteArray→Int→Int→Option (Int × Unit)} {s:ByteArray} {i:Int}:∀ (d j m n:Nat),8-j=d→j≤8→d<m→n<4294967296→fe.l1 k L0 m s (n:Int) i (j:Int)=L0 s ((xu d n:Nat):Int) (aH (i+1))
 | 0,j,m,n,hd,hj,hm,hn=>by
  obtain ⟨m,rfl⟩:∃ q,m=q+1:=⟨m-1,by omega⟩
  have c:¬ ((j:Int)<8):=by omega
  simp only [fe.l1,fe.b1,decide_eq_false c,aM,xu]
 | d+1,j,m,n,hd,hj,hm,hn=>by
  obtain ⟨m,rfl⟩:∃ q,m=q+1:=⟨m-1,by omega⟩
  have c:((j:Int)<8):=by omega
  have ih:=EA (k:=k) (L0:=L0) (s:=s) (i:=i) d (j+1) m (CM n) (by omega) (by omega) (by omega) (AK hn)
  have hd2:Int.fdiv (n:Int) (2 ^ (Int.toNat 1))=((n/2:Nat):Int):=by
   show Int.fdiv (n:Int) 2=_
   rw [Int.fdiv_eq_ediv_of_nonneg _ (by omega)]
   omega
  have hx:=IL (n:=n/2) (m:=2197175160) (by omega) (by omega)
  have hj1:aH ((j:Int)+1)=((j+1:Nat):Int):=by rw [aC (by omega) (by omega)];omega
  simp only [fe.l1,fe.b1,decide_eq_true c,aX,hj1,hd2,Ja hn,xu]
  rw [← ih]
  unfold CM
  by_cases q:n % 2=1
  · rw [if_pos q,q,← hx]
    rfl
  · rw [if_neg q,show n % 2=0 by omega]
    rfl
theorem Ig {k:Nat} (hk:2 ^ 50≤k) {s:ByteArray} (hs:s.size≤1099511627776):∀ (d i n m:Nat),s.size-i=d→i≤s.size→n<4294967296→d<m →
 fg.l0 k m s (n:Int) (i:Int)=some (4294967295-(Cl ((nb s).drop i) n:Int),())∧fe.l0 k m s (n:Int) (i:Int)=some (4294967295-(Cl ((nb s).drop i) n:Int),())
 | 0,i,n,m,hd,hi,hn,hm=>by
  obtain ⟨m,rfl⟩:∃ q,m=q+1:=⟨m-1,by omega⟩
  have c:¬ ((i:Int)<(s.size:Int)):=by omega
  have e1:aH (4294967295-(n:Int))=4294967295-(n:Int):=aC (by omega) (by omega)
  rw [List.drop_eq_nil_of_le (by rw [cj];omega)]
  constructor
  · simp only [fg.l0,fg.b0,decide_eq_false c,aM,e1,Cl]
  · simp only [fe.l0,fe.b0,decide_eq_false c,aM,Jr hn,e1,Cl]
 | d+1,i,n,m,hd,hi,hn,hm=>by
  obtain ⟨m,rfl⟩:∃ q,m=q+1:=⟨m-1,by omega⟩
  have hlt:i<s.size:=by omega
  have c:((i:Int)<(s.size:Int)):=by omega
  have h0:=Int.natCast_nonneg i
  have hb:=ia s i
  have hat:=vr hlt
  rw [qX hlt]
  generalize (nb s).getD i 0=b at hb hat
  have w1:aH (b:Int)=(b:Int):=aC (by omega) (by omega)
  have w2:IntKind.wrap .u32 (b:Int)=(b:Int):=vH (by omega) (by omega)
  have hnb:n ^^^ b<4294967296:=Nat.xor_lt_two_pow (n:=32) (by omega) (by omega)
  have up:aH ((i:Int)+1)=((i+1:Nat):Int):=by rw [aC (by omega) (by omega)];omega
  obtain ⟨s1,s2⟩:=Ig hk hs d (i+1) (xu 8 (n ^^^ b)) m (by omega) (by omega) (AJ hnb) (by omega)
  constructor
  · simp only [fg.l0,fg.b0,decide_eq_true c,aX,aG h0 c,hat,w1,IW hn (show b<4294967296 by omega)]
    refine (E8 8 0 k (n ^^^ b) (by omega) (by omega) (by omega) hnb).trans ?_
    rw [up]
    exact s1
  · simp only [fe.l0,fe.b0,decide_eq_true c,aX,aG h0 c,hat,w2,IL hn (show b<4294967296 by omega)]
    refine (EA 8 0 k (n ^^^ b) (by omega) (by omega) (by omega) hnb).trans ?_
    rw [up]
    exact s2
theorem rW {k:Nat} (hk:2 ^ 50≤k) {s:ByteArray} (hs:s.size≤1099511627776):fg.f k s=some (oX s,()):=by
 have:=(Ig hk hs s.size 0 4294967295 k (by omega) (by omega) (by omega) (by omega)).1
 rw [List.drop_zero] at this
 exact this
theorem rh {k:Nat} (hk:2 ^ 50≤k) {s:ByteArray} (hs:s.size≤1099511627776):fe.f k s=some (oX s,()):=by
 have:=(Ig hk hs s.size 0 4294967295 k (by omega) (by omega) (by omega) (by omega)).2
 rw [List.drop_zero] at this
 exact this
end Go.Proofs.YtohaanhjddohmaaGreatDoor.G
namespace Go.Proofs.YtohaanhjddohmaaGreatDoor.G
open Go.V
def eR (n:Nat):ByteArray:=bytesOf [((n/16777216 % 256:Nat):Int),((n/65536 % 256:Nat):Int),((n/256 % 256:Nat):Int),((n % 256:Nat):Int)]
theorem lp (n:Nat):(eR n).size=4:=rfl
theorem ED (n:Nat):nb (eR n)=[n/16777216 % 256,n/65536 % 256,n/256 % 256,n % 256] :=
 B_ (l:=[n/16777216 % 256,n/65536 % 256,n/256 % 256,n % 256]) (by simp;omega)
theorem DY {k:Nat} (hk:2 ^ 50≤k) {n:Nat} (h1:n<4294967296):dI.f k (n:Int) 4=some (eR n,()):=by
 have sz1:∀ x:Int,(bytesOf [x]).size=1:=fun x=>rfl
 have st:∀ (q m:Nat) (t:ByteArray) (j:Nat),m<4294967296→j<4→t.size≤100→dI.l0 k (q+1) (m:Int) 4 t (j:Int)=dI.l0 k q ((m/256:Nat):Int) 4 (bytesOf [((m % 256:Nat):Int)]++t) ((j+1:Nat):Int):=fun q m t j hm hj ht=>by
  have wd:aH (Int.tdiv (m:Int) 256)=((m/256:Nat):Int):=aC (n:=((m/256:Nat):Int)) (by omega) (by omega)
  have wm:IntKind.wrap .u8 (Int.tmod (m:Int) 256)=((m % 256:Nat):Int):=o9 (n:=((m % 256:Nat):Int)) (by omega) (by omega)
  have wj:aH ((j:Int)+1)=((j+1:Nat):Int):=by rw [aC (by omega) (by omega)];omega
  simp (disch:=omega) only [dI.l0,dI.b0,aN,aX,wd,wm,wj]
  rw [dL (by rw [sz1];omega)]
 unfold dI.f dI.t
 rw [nV,aO]
 simp only [show decide ((1:Int)≤4∧(4:Int)≤7)=true by decide,ft,aM,aP (show ¬ ((n:Int)<0) by omega)]
 obtain ⟨q,hq⟩:∃ q,k=q+5:=⟨k-5,by omega⟩
 refine (congrArg (fun z=>dI.l0 k z (n:Int) 4 ⟨#[]⟩ 0) hq).trans ?_
 refine (st (q+4) n _ 0 h1 (by omega) (by decide)).trans ?_
 refine (st (q+3) (n/256) _ 1 (by omega) (by omega) (by rw [ByteArray.size_append,sz1];decide)).trans ?_
 refine (st (q+2) (n/256/256) _ 2 (by omega) (by omega) (by rw [ByteArray.size_append,ByteArray.size_append,sz1,sz1];decide)).trans ?_
 refine (st (q+1) (n/256/256/256) _ 3 (by omega) (by omega) (by rw [ByteArray.size_append,ByteArray.size_append,ByteArray.size_append,sz1,sz1,sz1];decide)).trans ?_
 have c:¬ ((((3+1:Nat)):Int)<4):=by omega
 have c2:¬ (((n/256/256/256/256:Nat):Int) > 0):=by omega
 simp only [dI.l0,dI.b0,aP c,aP c2,aM]
 unfold eR
 congr 2
 rw [show n/256/256/256=n/16777216 by omega,show n/256/256=n/65536 by omega]
 apply ByteArray.ext
 simp [bytesOf,ByteArray.data_append]
theorem DV {k:Nat} (hk:2 ^ 50≤k) {n:Nat} (h1:n<4294967296):dJ.f k (n:Int) 4=some (eR n,()):=by
 have st:∀ (q j p:Nat) (i':Int) (xs:List Int),j≤3→p=2 ^ (8*j)→i'=(j:Int)-1→xs.length≤100→dJ.l0 k (q+1) (n:Int) (j:Int) xs=dJ.l0 k q (n:Int) i' (xs++[((n/p % 256:Nat):Int)]):=fun q j p i' xs hj hp hi hx=>by
  have e8:aH (8*(j:Int))=((8*j:Nat):Int):=by rw [aC (by omega) (by omega)];omega
  have e1:aH ((j:Int)-1)=i':=by rw [hi];exact aC (by omega) (by omega)
  have emin:min (8*j) (IntKind.bits .i64)=8*j:=by have:IntKind.bits .i64=64:=rfl;rw [this];omega
  have ew:IntKind.wrap .u8 (Int.fdiv (n:Int) (2 ^ (8*j)))=((n/p % 256:Nat):Int):=by
   have e2:((2:Int) ^ (8*j))=((p:Nat):Int):=by rw [hp,Int.natCast_pow];rfl
   rw [e2,Int.fdiv_eq_ediv_of_nonneg _ (by omega),← Int.natCast_ediv]
   generalize n/p=z
   unfold IntKind.wrap
   simp [IntKind.bits,IntKind.signed]
  simp (disch:=first | omega | decide) only [dJ.l0,dJ.b0,aN,aX,e8,ba,e1,ng,emin,ew]
  rw [aP (by omega),aM]
 unfold dJ.f dJ.t
 rw [tD,aO]
 have c0:¬ (aH (8*4)<0):=by decide
 simp only [show decide ((1:Int)≤4∧(4:Int)≤7)=true by decide,ft,aM,aP c0,show aH (aH (1*2 ^ min (Int.toNat (aH (8*4))) (IntKind.bits .i64))-1)=4294967295 by decide,tD,aO]
 rw [aN (show (0:Int)≤(n:Int)∧(n:Int)≤4294967295 by omega)]
 simp only [ft,aM,show aH ((4:Int)-1)=((3:Nat):Int) by decide]
 obtain ⟨q,hq⟩:∃ q,k=q+5:=⟨k-5,by omega⟩
 refine (congrArg (fun z=>dJ.l0 k z (n:Int) ((3:Nat):Int) []) hq).trans ?_
 refine (st (q+4) 3 16777216 ((2:Nat):Int) _ (by omega) (by decide) (by decide) (by decide)).trans ?_
 refine (st (q+3) 2 65536 ((1:Nat):Int) _ (by omega) (by decide) (by decide) (by simp)).trans ?_
 refine (st (q+2) 1 256 ((0:Nat):Int) _ (by omega) (by decide) (by decide) (by simp)).trans ?_
 refine (st (q+1) 0 1 (-1) _ (by omega) (by decide) (by decide) (by simp)).trans ?_
 simp only [dJ.l0,dJ.b0,show decide ((-1:Int)≥0)=false by decide,aM,Nat.div_one]
 rfl
def qs (a:Int):ByteArray:=eR a.toNat
theorem ip (a:Int):(qs a).size=4:=rfl
theorem oh {k:Nat} (hk:2 ^ 50≤k) {a:Int} (h0:0≤a) (h1:a≤4294967295):dI.f k a 4=some (qs a,()):=by
 obtain ⟨n,rfl⟩:=Int.eq_ofNat_of_zero_le h0
 exact DY hk (by omega)
theorem pJ {k:Nat} (hk:2 ^ 50≤k) {a:Int} (h0:0≤a) (h1:a≤4294967295):dJ.f k a 4=some (qs a,()):=by
 obtain ⟨n,rfl⟩:=Int.eq_ofNat_of_zero_le h0
 exact DV hk (by omega)
theorem wz (s:ByteArray):(∃ x t,x<4294967296∧s=eR x++t)∨s.size<4:=by
 by_cases c:s.size<4
 · exact .inr c
 · left
   have h0:=qX (s:=s) (i:=0) (by omega)
   have h1:=qX (s:=s) (i:=1) (by omega)
   have h2:=qX (s:=s) (i:=2) (by omega)
   have h3:=qX (s:=s) (i:=3) (by omega)
   have b0:=ia s 0
   have b1:=ia s 1
   have b2:=ia s 2
   have b3:=ia s 3
   rw [h1,h2,h3,List.drop_zero] at h0
   generalize (nb s).getD 0 0=x0 at *
   generalize (nb s).getD 1 0=x1 at *
   generalize (nb s).getD 2 0=x2 at *
   generalize (nb s).getD 3 0=x3 at *
   refine ⟨((x0*256+x1)*256+x2)*256+x3,ByteArray.extract s 4 s.size,by omega,kh ?_⟩
   rw [iZ,ED,jo,h0]
   simp only [List.cons_append,List.nil_append,List.drop_succ_cons,List.drop_zero,List.cons.injEq,and_true]
   refine ⟨?_,?_,?_,?_⟩ <;> omega
theorem uQ (x:Nat) (t:ByteArray):nb (eR x++t)=(x/16777216 % 256)::(x/65536 % 256)::(x/256 % 256)::(x % 256)::nb t:=by
 rw [iZ,ED];rfl
theorem m_ (x:Nat) (t:ByteArray):(eR x++t).size=4+t.size:=by rw [ByteArray.size_append];rfl
theorem mV (k:Nat) (s:ByteArray):dt.f k s=some (decide (1≤(s.size:Int)∧(s.size:Int)≤8),()):=by
 unfold dt.f dt.t
 rw [nV];rfl
theorem pA (k:Nat) (s:ByteArray):gL.f k s=some (decide (1≤(s.size:Int)∧(s.size:Int)≤8),()):=by
 unfold gL.f gL.t
 rw [tD];rfl
def eo (a:Ty.den ax):Bool :=
 bif a.1==1||a.1==4 then decide (1≤(a.2.2.1.size:Int)∧(a.2.2.1.size:Int)≤8)&&(decide ((a.2.2.2.1.size:Int)≤24)&&((a.2.2.2.2.1==0)&&((a.2.2.2.2.2.1==0)&&decide (1≤a.2.1∧a.2.1≤1000000))))
 else bif a.1==2 then decide (1≤(a.2.2.1.size:Int)∧(a.2.2.1.size:Int)≤8)&&(seq a.2.2.2.1 ⟨#[]⟩&&((a.2.2.2.2.1==0)&&((a.2.2.2.2.2.1==0)&&decide (1≤a.2.1∧a.2.1≤1000000))))
 else bif a.1==3 then seq a.2.2.1 ⟨#[]⟩&&(seq a.2.2.2.1 ⟨#[]⟩&&(decide (0≤a.2.2.2.2.1∧a.2.2.2.2.1≤8)&&(decide (0≤a.2.2.2.2.2.1∧a.2.2.2.2.2.1≤4294967295)&&decide (1≤a.2.1∧a.2.1≤1000000))))
 else bif a.1==5 then seq a.2.2.1 ⟨#[]⟩&&(seq a.2.2.2.1 ⟨#[]⟩&&(decide (0≤a.2.2.2.2.1∧a.2.2.2.2.1≤20)&&(decide (0≤a.2.2.2.2.2.1∧a.2.2.2.2.2.1≤4294967295)&&decide (0≤a.2.1∧a.2.1≤1000000))))
 else false
theorem FD (s:ByteArray):seq s ByteArray.empty=seq s ⟨#[]⟩:=rfl
theorem h9 (k:Nat) (a:Ty.den ax):fU.f k a=some (eo a,()):=by
 obtain ⟨ty,tx,key,tt,n,sm,u⟩:=a
 unfold fU.f fU.t eo
 simp only [tD,pA,aO,cY,FD]
 change Int at ty tx n sm
 change ByteArray at key tt
 generalize decide (1≤(key.size:Int)∧(key.size:Int)≤8)=K
 generalize decide ((tt.size:Int)≤24)=L
 generalize decide (1≤tx∧tx≤1000000)=T1
 generalize decide (0≤tx∧tx≤1000000)=T0
 generalize decide (0≤n∧n≤8)=N1
 generalize decide (0≤n∧n≤20)=N2
 generalize decide (0≤sm∧sm≤4294967295)=S
 generalize (n==0)=Z1
 generalize (sm==0)=Z2
 generalize seq key ⟨#[]⟩=E1
 generalize seq tt ⟨#[]⟩=E2
 by_cases h1:ty=1
 · subst h1;simp;cases K <;> cases L <;> cases T1 <;> cases Z1 <;> cases Z2 <;> rfl
 by_cases h4:ty=4
 · subst h4;simp;cases K <;> cases L <;> cases T1 <;> cases Z1 <;> cases Z2 <;> rfl
 by_cases h2:ty=2
 · subst h2;simp;cases K <;> cases E2 <;> cases T1 <;> cases Z1 <;> cases Z2 <;> rfl
 by_cases h3:ty=3
 · subst h3;simp;cases E1 <;> cases E2 <;> cases T1 <;> cases N1 <;> cases S <;> rfl
 by_cases h5:ty=5
 · subst h5;simp;cases E1 <;> cases E2 <;> cases T0 <;> cases N2 <;> cases S <;> rfl
 have b1:(ty==1)=false:=mJ h1
 have b2:(ty==2)=false:=mJ h2
 have b3:(ty==3)=false:=mJ h3
 have b4:(ty==4)=false:=mJ h4
 have b5:(ty==5)=false:=mJ h5
 have b6:(ty != 5)=true:=bne_iff_ne.2 h5
 simp only [b1,b2,b3,b4,b5,b6,Bool.or_false,aM,aX]
theorem AB (k:Nat) (a:Ty.den ax):jg.f k a=some (eo a,()):=by
 obtain ⟨ty,tx,key,tt,n,sm,u⟩:=a
 unfold jg.f jg.t eo
 simp only [nV,mV,aO]
 change Int at ty tx n sm
 change ByteArray at key tt
 have q:decide (1≤tx∧tx≤1000000)=(decide (0≤tx∧tx≤1000000)&&!(tx==0)):=by
  rw [Bool.eq_iff_iff];simp;omega
 rw [q]
 generalize decide (1≤(key.size:Int)∧(key.size:Int)≤8)=K
 generalize decide ((tt.size:Int)≤24)=L
 generalize decide (0≤tx∧tx≤1000000)=T0
 generalize (tx==0)=T
 generalize decide (0≤n∧n≤8)=N1
 generalize decide (0≤n∧n≤20)=N2
 generalize decide (0≤sm∧sm≤4294967295)=S
 generalize (n==0)=Z1
 generalize (sm==0)=Z2
 generalize seq key ⟨#[]⟩=E1
 generalize seq tt ⟨#[]⟩=E2
 by_cases h1:ty=1
 · subst h1;simp;cases T0 <;> cases T <;> cases K <;> cases L <;> cases Z1 <;> cases Z2 <;> rfl
 by_cases h4:ty=4
 · subst h4;simp;cases T0 <;> cases T <;> cases K <;> cases L <;> cases Z1 <;> cases Z2 <;> rfl
 by_cases h2:ty=2
 · subst h2;simp;cases T0 <;> cases T <;> cases K <;> cases E2 <;> cases Z1 <;> cases Z2 <;> rfl
 by_cases h3:ty=3
 · subst h3;simp;cases T0 <;> cases T <;> cases E1 <;> cases E2 <;> cases N1 <;> cases S <;> rfl
 by_cases h5:ty=5
 · subst h5;simp;cases T0 <;> cases T <;> cases E1 <;> cases E2 <;> cases N2 <;> cases S <;> rfl
 have b1:(ty==1)=false:=mJ h1
 have b2:(ty==2)=false:=mJ h2
 have b3:(ty==3)=false:=mJ h3
 have b4:(ty==4)=false:=mJ h4
 have b5:(ty==5)=false:=mJ h5
 have b6:(ty != 5)=true:=bne_iff_ne.2 h5
 simp only [b1,b2,b3,b4,b5,b6,Bool.or_false,aM,aX]
 cases T0 <;> cases T <;> rfl
def iT (s:ByteArray):ByteArray:=gk (s.size:Int)++s
theorem lm (s:ByteArray):(iT s).size≤7+s.size:=by
 unfold iT
 have:=ai (s.size:Int)
 rw [ByteArray.size_append]
 omega
def aJ (a:Ty.den ax):ByteArray :=
 if eo a=true then
  if a.1=1∨a.1=4 then gk a.1++(gk a.2.1++(iT a.2.2.1++iT a.2.2.2.1))
  else if a.1=2 then gk a.1++(gk a.2.1++iT a.2.2.1)
  else gk a.1++(gk a.2.1++(gk a.2.2.2.2.1++qs a.2.2.2.2.2.1))
 else ⟨#[]⟩
theorem m3 {a:Ty.den ax} (h:eo a=true) :
 ((a.1=1∨a.1=4)∧1≤a.2.2.1.size∧a.2.2.1.size≤8∧a.2.2.2.1.size≤24∧a.2.2.2.2.1=0∧a.2.2.2.2.2.1=0∧1≤a.2.1∧a.2.1≤1000000) ∨
 (a.1=2∧1≤a.2.2.1.size∧a.2.2.1.size≤8∧a.2.2.2.1=⟨#[]⟩∧a.2.2.2.2.1=0∧a.2.2.2.2.2.1=0∧1≤a.2.1∧a.2.1≤1000000) ∨
 ((a.1=3∨a.1=5)∧a.2.2.1=⟨#[]⟩∧a.2.2.2.1=⟨#[]⟩∧0≤a.2.2.2.2.1∧a.2.2.2.2.1≤20∧0≤a.2.2.2.2.2.1∧a.2.2.2.2.2.1≤4294967295∧0≤a.2.1∧a.2.1≤1000000):=by
 obtain ⟨kd,bt,key,val,cn,sm,u⟩:=a
 change Int at kd bt cn sm
 change ByteArray at key val
 unfold eo at h
 simp only [] at h ⊢
 by_cases c:kd=1∨kd=4
 · have b:(kd==1||kd==4)=true:=by rcases c with c | c <;> rw [c] <;> rfl
   rw [b,aX] at h
   simp only [j6,decide_eq_true_eq,beq_iff_eq] at h
   exact .inl ⟨c,by omega,by omega,by omega,h.2.2.1,h.2.2.2.1,h.2.2.2.2⟩
 · have b1:(kd==1)=false:=mJ fun h=>c (.inl h)
   have b4:(kd==4)=false:=mJ fun h=>c (.inr h)
   simp only [b1,b4,Bool.or_false,aM] at h
   cases b2:(kd==2) with
   | true =>
    rw [b2,aX] at h
    simp only [j6,decide_eq_true_eq,beq_iff_eq,dS] at h
    exact .inr (.inl ⟨eq_of_beq b2,by omega,by omega,h.2.1,h.2.2.1,h.2.2.2.1,h.2.2.2.2⟩)
   | false =>
    rw [b2,aM] at h
    cases b3:(kd==3) with
    | true =>
     rw [b3,aX] at h
     simp only [j6,decide_eq_true_eq,dS] at h
     exact .inr (.inr ⟨.inl (eq_of_beq b3),h.1,h.2.1,h.2.2.1.1,Int.le_trans h.2.2.1.2 (by decide),h.2.2.2.1.1,h.2.2.2.1.2,Int.le_trans (by decide) h.2.2.2.2.1,h.2.2.2.2.2⟩)
    | false =>
     rw [b3,aM] at h
     cases b5:(kd==5) with
     | true =>
      rw [b5,aX] at h
      simp only [j6,decide_eq_true_eq,dS] at h
      exact .inr (.inr ⟨.inr (eq_of_beq b5),h.1,h.2.1,h.2.2.1.1,h.2.2.1.2,h.2.2.2.1.1,h.2.2.2.1.2,h.2.2.2.2.1,h.2.2.2.2.2⟩)
     | false =>
      rw [b5,aM] at h
      cases h
theorem vI {kd b cn sm:Int} {key val:ByteArray} (h:eo (kd,(b,(key,(val,(cn,(sm,()))))))=true) :
 ((kd=1∨kd=4)∧1≤key.size∧key.size≤8∧val.size≤24∧cn=0∧sm=0∧1≤b∧b≤1000000) ∨
 (kd=2∧1≤key.size∧key.size≤8∧val=⟨#[]⟩∧cn=0∧sm=0∧1≤b∧b≤1000000) ∨
 ((kd=3∨kd=5)∧key=⟨#[]⟩∧val=⟨#[]⟩∧0≤cn∧cn≤20∧0≤sm∧sm≤4294967295∧0≤b∧b≤1000000):=m3 h
theorem dE {k:Nat} (hk:2 ^ 50≤k) (a:Ty.den ax):c8.f k a=some (aJ a,()):=by
 unfold c8.f c8.t aJ
 rw [AB,aO]
 cases hr:eo a with
 | false=>rfl
 | true =>
  have v1:=ai a.1
  have v2:=ai a.2.1
  have v3:=ai (a.2.2.1.size:Int)
  have v4:=ai (a.2.2.2.1.size:Int)
  have v5:=ai a.2.2.2.2.1
  have v6:=ip a.2.2.2.2.2.1
  simp only [ft,aM,if_true,iT]
  rcases m3 hr with ⟨c,h⟩ | ⟨c,h⟩ | ⟨c,h⟩
  · rw [if_pos c]
    rcases c with c | c
    · have b1:(a.1==1)=true:=by rw [c];rfl
      simp (disch:=first | omega | (simp only [ByteArray.size_append];omega)) only [gK hk,aO,b1,aX,dL,af]
    · have b1:(a.1==1)=false:=by rw [c];rfl
      have b4:(a.1==4)=true:=by rw [c];rfl
      simp (disch:=first | omega | (simp only [ByteArray.size_append];omega)) only [gK hk,aO,b1,b4,aX,aM,dL,af]
  · have b1:(a.1==1)=false:=by rw [c];rfl
    have b4:(a.1==4)=false:=by rw [c];rfl
    have b2:(a.1==2)=true:=by rw [c];rfl
    rw [if_neg (show ¬ (a.1=1∨a.1=4) by rw [c];decide),if_pos c]
    simp (disch:=first | omega | (simp only [ByteArray.size_append];omega)) only [gK hk,aO,b1,b2,b4,aX,aM,dL,af]
  · have b1:(a.1==1)=false:=by rcases c with c | c <;> rw [c] <;> rfl
    have b4:(a.1==4)=false:=by rcases c with c | c <;> rw [c] <;> rfl
    have b2:(a.1==2)=false:=by rcases c with c | c <;> rw [c] <;> rfl
    rw [if_neg (show ¬ (a.1=1∨a.1=4) by rcases c with c | c <;> rw [c] <;> decide),if_neg (show ¬ a.1=2 by rcases c with c | c <;> rw [c] <;> decide)]
    obtain ⟨_,_,_,_,z1,z2,_⟩:=h
    simp (disch:=first | assumption | omega | (simp only [ByteArray.size_append];omega)) only [gK hk,oh hk,aO,b1,b2,b4,aX,aM,dL,af]
theorem zC {k:Nat} (hk:2 ^ 50≤k) (x y:Int):d6.f k [x,y]=some (gk x++gk y,()):=by
 have v1:=ai x
 have v2:=ai y
 obtain ⟨q,hq⟩:∃ q,k=q+3:=⟨k-3,by omega⟩
 refine (congrArg (fun z=>d6.l0 k z ⟨#[]⟩ [x,y] 2 0) hq).trans ?_
 rw [show d6.l0 k (q+3) ⟨#[]⟩ [x,y] 2 0=(fE.f k x).bind (fun r1=>k_ ⟨#[]⟩ r1.1 (d6.l0 k (q+2) (⟨#[]⟩++r1.1) [x,y] 2 1)) from rfl]
 rw [nE hk,aO]
 simp only []
 rw [dL (by rw [show (⟨#[]⟩:ByteArray).size=0 from rfl];omega),mT]
 rw [show d6.l0 k (q+2) (gk x) [x,y] 2 1=(fE.f k y).bind (fun r1=>k_ (gk x) r1.1 (d6.l0 k (q+1) (gk x++r1.1) [x,y] 2 2)) from rfl]
 rw [nE hk,aO]
 simp only []
 rw [dL (by omega)]
 rfl
theorem kS {k:Nat} (hk:2 ^ 50≤k) {s:ByteArray} (hs:s.size≤1099511627776):dp.f k s=some (iT s,()):=by
 have:=ai (s.size:Int)
 unfold dp.f dp.t iT
 simp (disch:=omega) only [nE hk,aO,dL]
theorem mw {k:Nat} (hk:2 ^ 50≤k) (a:Ty.den ax):fQ.f k a=some (aJ a,()):=by
 unfold fQ.f fQ.t aJ
 rw [h9,aO]
 cases hr:eo a with
 | false=>rfl
 | true =>
  have v1:=ai a.1
  have v2:=ai a.2.1
  have v3:=lm a.2.2.1
  have v4:=lm a.2.2.2.1
  have v5:=ai a.2.2.2.2.1
  have v6:=ip a.2.2.2.2.2.1
  simp only [ft,aM,if_true,zC hk,aO]
  rcases m3 hr with ⟨c,h⟩ | ⟨c,h⟩ | ⟨c,h⟩
  · rw [if_pos c]
    rcases c with c | c
    · have b1:(a.1==1)=true:=by rw [c];rfl
      simp (disch:=first | omega | (simp only [ByteArray.size_append];omega)) only [kS hk,aO,b1,aX,dL,af]
    · have b1:(a.1==1)=false:=by rw [c];rfl
      have b4:(a.1==4)=true:=by rw [c];rfl
      simp (disch:=first | omega | (simp only [ByteArray.size_append];omega)) only [kS hk,aO,b1,b4,aX,aM,dL,af]
  · have b1:(a.1==1)=false:=by rw [c];rfl
    have b4:(a.1==4)=false:=by rw [c];rfl
    have b2:(a.1==2)=true:=by rw [c];rfl
    rw [if_neg (show ¬ (a.1=1∨a.1=4) by rw [c];decide),if_pos c]
    simp (disch:=first | omega | (simp only [ByteArray.size_append];omega)) only [kS hk,aO,b1,b2,b4,aX,aM,dL,af]
  · have b1:(a.1==1)=false:=by rcases c with c | c <;> rw [c] <;> rfl
    have b4:(a.1==4)=false:=by rcases c with c | c <;> rw [c] <;> rfl
    have b2:(a.1==2)=false:=by rcases c with c | c <;> rw [c] <;> rfl
    rw [if_neg (show ¬ (a.1=1∨a.1=4) by rcases c with c | c <;> rw [c] <;> decide),if_neg (show ¬ a.1=2 by rcases c with c | c <;> rw [c] <;> decide)]
    obtain ⟨_,_,_,_,z1,z2,_⟩:=h
    simp (disch:=first | assumption | omega | (simp only [ByteArray.size_append];omega)) only [nE hk,pJ hk,aO,b1,b2,b4,aX,aM,dL,af]
theorem kK (a:Ty.den ax):(aJ a).size≤60:=by
 unfold aJ
 split
 · rename_i hr
   have v1:=ai a.1
   have v2:=ai a.2.1
   have v3:=lm a.2.2.1
   have v4:=lm a.2.2.2.1
   have v5:=ai a.2.2.2.2.1
   have v6:=ip a.2.2.2.2.2.1
   rcases m3 hr with ⟨c,h⟩ | ⟨c,h⟩ | ⟨c,h⟩
   · rw [if_pos c]
     simp only [ByteArray.size_append];omega
   · rw [if_neg (show ¬ (a.1=1∨a.1=4) by rw [c];decide),if_pos c]
     simp only [ByteArray.size_append];omega
   · rw [if_neg (show ¬ (a.1=1∨a.1=4) by rcases c with c | c <;> rw [c] <;> decide),if_neg (show ¬ a.1=2 by rcases c with c | c <;> rw [c] <;> decide)]
     simp only [ByteArray.size_append];omega
 · exact Nat.zero_le _
def nr:List (Ty.den ax)→ByteArray
 | []=>⟨#[]⟩
 | a::l=>aJ a++nr l
def xT (l:List (Ty.den ax)):Int:=oX (nr l)
theorem HD (l:List (Ty.den ax)):0≤xT l∧xT l≤4294967295:=qk _
theorem p_ {k:Nat} (hk:2 ^ 50≤k) {l:List (Ty.den ax)} (hl:l.length≤1073741824):fY.f k l=some (xT l,()):=by
 refine (dZ (L:=fun n i s=>fY.l0 k n l s i) (R:=fun l s=>some (oX (s++nr l),())) (Ty.dflt ax) l (fun i s=>(s.size:Int)≤60*i) (fun n s hs=>?_) (fun n i s x rest h0 h1 hx hr hp ih=>?_) (n:=k) (s:=⟨#[]⟩) (by omega) (by decide)).trans (by rw [mT];rfl)
 · simp (disch:=omega) only [fY.l0,fY.b0,aP,aM,rW hk,aO,nr,gG]
 · have hz:=kK x
   simp (disch:=omega) only [fY.l0,fY.b0,aN,aX,aG,hx,dE hk,aO,dL,aC]
   rw [ih _ (by rw [ByteArray.size_append];omega),nr,af]
theorem ry {k:Nat} (hk:2 ^ 50≤k) {l:List (Ty.den ax)} (hl:l.length≤1073741824):gT.f k l=some (xT l,()):=by
 refine (dZ (L:=fun n i s=>gT.l0 k n s l l.length i) (R:=fun l s=>some (oX (s++nr l),())) (Ty.dflt ax) l (fun i s=>(s.size:Int)≤60*i) (fun n s hs=>?_) (fun n i s x rest h0 h1 hx hr hp ih=>?_) (n:=k) (s:=⟨#[]⟩) (by omega) (by decide)).trans (by rw [mT];rfl)
 · simp (disch:=omega) only [gT.l0,gT.b0,aP,aM,rh hk,aO,nr,gG]
 · have hz:=kK x
   simp (disch:=omega) only [gT.l0,gT.b0,aN,aX,aG,hx,mw hk,aO,dL,aC]
   rw [ih _ (by rw [ByteArray.size_append];omega),nr,af]
end Go.Proofs.YtohaanhjddohmaaGreatDoor.G
namespace Go.Proofs.YtohaanhjddohmaaGreatDoor.G
open Go.V
theorem zZ {s:ByteArray} (hs:s.size≤4611686018427387904) (k:Nat):∀ (d i acc n:Nat),i+d=7→acc<128 ^ i→d<n →
 cS.l0 k n s (acc:Int) (i:Int)=some (match rv d ((nb s).drop i) with
  | some (a,m)=>if a=0∧0<i then (0,(0,())) else (((acc+a*128 ^ i:Nat):Int),(((i+m:Nat):Int),()))
  | none=>(0,(0,()))):=by
 intro d
 induction d with
 | zero =>
  intro i acc n h1 h2 h3
  obtain ⟨n,rfl⟩:∃ q,n=q+1:=⟨n-1,by omega⟩
  simp (disch:=omega) only [cS.l0,cS.b0,aP,aM,rv]
 | succ d ih =>
  intro i acc n h1 h2 h3
  obtain ⟨n,rfl⟩:∃ q,n=q+1:=⟨n-1,by omega⟩
  by_cases hlt:i<s.size
  case neg =>
   rw [List.drop_eq_nil_of_le (by rw [cj];omega)]
   simp (disch:=omega) only [cS.l0,cS.b0,aN,aP,aX,aM,rv]
  have hb:=ia s i
  have hat:=vr hlt
  have ih:=ih (i+1)
  rw [qX hlt]
  generalize (nb s).getD i 0=b at hb hat
  have e8:aH (7*(i:Int))=((7*i:Nat):Int):=by rw [aC (by omega) (by omega)];omega
  have emin:min (7*i) (IntKind.bits .i64)=7*i:=by have:IntKind.bits .i64=64:=rfl;rw [this];omega
  have ep:(2:Int) ^ (7*i)=((128 ^ i:Nat):Int):=by rw [Int.pow_mul,Int.natCast_pow];rfl
  have hp:128 ^ i≤128 ^ 6:=Nat.pow_le_pow_right (by decide) (by omega)
  rw [show (128:Nat) ^ 6=4398046511104 by decide] at hp
  have hps:128 ^ (i+1)=128 ^ i*128:=Nat.pow_succ ..
  have hb2:(b % 128)*128 ^ i≤127*128 ^ i:=Nat.mul_le_mul (by omega) (Nat.le_refl _)
  have ev:aH ((acc:Int)+aH (Int.tmod (b:Int) 128*2 ^ (7*i)))=((acc+b % 128*128 ^ i:Nat):Int):=by
   have e:Int.tmod (b:Int) 128*2 ^ (7*i)=((b % 128*128 ^ i:Nat):Int):=by
    rw [ep,Int.natCast_mul]
    rfl
   rw [e,aC (n:=((b % 128*128 ^ i:Nat):Int)) (by omega) (by omega),aC (by omega) (by omega)]
   omega
  have eb:aH ((b:Nat):Int)=(b:Int):=aC (by omega) (by omega)
  have ei:aH ((i:Int)+1)=((i+1:Nat):Int):=by rw [aC (by omega) (by omega)];omega
  have ih:=ih (acc+b % 128*128 ^ i) n (by omega) (by omega) (by omega)
  simp (disch:=omega) only [cS.l0,cS.b0,aN,aX,aG,hat,eb,e8,ng,emin,ev,ei]
  rw [aP (by omega),aM]
  by_cases c:b≥128
  · rw [aN (show (b:Int)≥128 by omega),aX,ih,rv,if_pos c]
    cases q:rv d ((nb s).drop (i+1)) with
    | none=>rfl
    | some p =>
     obtain ⟨a,m⟩:=p
     simp only []
     by_cases z:a=0
     · simp [z]
     · have hm:a*128 ^ (i+1)=128*a*128 ^ i:=by rw [hps,Nat.mul_comm (128 ^ i),← Nat.mul_assoc,Nat.mul_comm a]
       rw [if_neg (by omega),if_neg z]
       simp only []
       rw [if_neg (by omega)]
       have e1:acc+b % 128*128 ^ i+a*128 ^ (i+1)=acc+(b % 128+128*a)*128 ^ i:=by rw [hm,Nat.add_mul];omega
       have e2:i+1+m=i+(m+1):=by omega
       rw [e1,e2]
  · have em:b % 128=b:=by omega
    rw [aP (show ¬ (b:Int)≥128 by omega),aM,rv,if_neg c,em]
    by_cases z:b=0
    · subst z
      rw [show ((((0:Nat):Int)==0))=true from rfl,aX]
      by_cases hi:0<i
      · rw [aN (show (i:Int) > 0 by omega),aX]
        simp [hi]
      · rw [aP (show ¬ (i:Int) > 0 by omega),aM]
        simp [hi]
    · rw [show ((b:Int)==0)=false from mJ (by omega),aM]
      simp [z]
theorem n_ {k:Nat} (hk:2 ^ 50≤k) {s:ByteArray} (hs:s.size≤4611686018427387904):cS.f k s=some (D8 (rv 7 (nb s))):=by
 unfold cS.f cS.t
 refine (zZ hs k 7 0 0 k (by omega) (by decide) (by omega)).trans ?_
 rw [List.drop_zero]
 cases rv 7 (nb s) with
 | none=>rfl
 | some p=>simp [D8]
theorem EM {k:Nat} {L0:ByteArray→Int→Option (Int × Int × Unit)} {s:ByteArray} {n:Nat}:∀ (j x m:Nat),j<m→j≤s.size→j≤7→(x+1)*128 ^ j≤562949953421312 →
 ab.l1 k L0 m s (n:Int) (x:Int) ((j:Int)-1)=ab.l1 k L0 (m-j) s (n:Int) ((x*128 ^ j+qu ((nb s).take j):Nat):Int) (-1)
 | 0,x,m,hm,hs,h7,hx=>by simp [qu]
 | j+1,x,m,hm,hs,h7,hx=>by
  obtain ⟨m,rfl⟩:∃ q,m=q+1:=⟨m-1,by omega⟩
  have hj:j<s.size:=by omega
  have hb:=ia s j
  rw [Nat.pow_succ,← Nat.mul_assoc,Nat.mul_comm _ 128,← Nat.mul_assoc] at hx
  have hpos:1≤128 ^ j:=Nat.one_le_pow _ _ (by decide)
  have hx2:(128*(x+1))*1≤(128*(x+1))*128 ^ j:=Nat.mul_le_mul (Nat.le_refl _) hpos
  have hat:=vr hj
  have e0:((j+1:Nat):Int)-1=(j:Int):=by omega
  have c:(j:Int)≥0:=by omega
  have c2:(j:Int)<(s.size:Int):=by omega
  rw [Fx hj,C7,List.length_take,cj,Nat.min_eq_left (by omega)]
  generalize (nb s).getD j 0=b at hb hat ⊢
  have w1:aH (((b:Nat):Int))=(b:Int):=aC (by omega) (by omega)
  have w2:aH ((x:Int)*128)=(x:Int)*128:=aC (by omega) (by omega)
  have w3:aH ((x:Int)*128+Int.tmod (b:Int) 128)=((x*128+b % 128:Nat):Int):=by
   have e:(x:Int)*128+Int.tmod (b:Int) 128=((x*128+b % 128:Nat):Int):=by
    show (x:Int)*128+((b % 128:Nat):Int)=_
    omega
   rw [e]
   exact aC (by omega) (by omega)
  have w4:aH ((j:Int)-1)=(j:Int)-1:=aC (by omega) (by omega)
  have hx3:(x*128+b % 128+1)*128 ^ j≤(128*(x+1))*128 ^ j:=Nat.mul_le_mul (by omega) (Nat.le_refl _)
  have ih:=EM (k:=k) (L0:=L0) (s:=s) (n:=n) j (x*128+b % 128) m (by omega) (by omega) (by omega) (by omega)
  rw [e0]
  simp only [ab.l1,ab.b1,decide_eq_true c,aX,aG c c2,hat,w1,w2,w3,w4]
  rw [ih,show m+1-(j+1)=m-j by omega]
  congr 2
  rw [Nat.pow_succ,Nat.add_mul,Nat.mul_assoc,Nat.mul_comm 128 (128 ^ j),Nat.mul_comm (b % 128)]
  omega
theorem KG {s:ByteArray} {n:Nat} (h7:n≤7):qu ((nb s).take n)<562949953421312:=by
 have:=AO ((nb s).take n)
 have h1:((nb s).take n).length≤7:=by rw [List.length_take];omega
 have h2:(128:Nat) ^ ((nb s).take n).length≤128 ^ 7:=Nat.pow_le_pow_right (by decide) h1
 rw [show (128:Nat) ^ 7=562949953421312 by decide] at h2
 omega
theorem zq {k:Nat} (hk:2 ^ 50≤k) {s:ByteArray}:∀ (d i n:Nat),i+d=8→1≤i→d<n →
 ab.l0 k n s (i:Int)=some (match rv 7 (nb s) with | some (a,m)=>if i≤m then ((a:Int),((m:Int),())) else (0,(0,())) | none=>(0,(0,()))):=by
 have stop:∀ i,(7<i∨s.size<i)→(match rv 7 (nb s) with | some (a,m)=>if i≤m then ((a:Int),((m:Int),())) else (0,(0,())) | none=>(0,(0,())))=((0:Int),((0:Int),())):=by
  intro i hi
  cases q:rv 7 (nb s) with
  | none=>rfl
  | some p =>
   obtain ⟨a,m⟩:=p
   obtain ⟨_,_,_,h4,_,h6⟩:=p5 6 (nb s) a m (rq s) q
   rw [cj] at h4
   exact if_neg (by omega)
 intro d
 induction d with
 | zero =>
  intro i n h1 h2 h3
  obtain ⟨n,rfl⟩:∃ q,n=q+1:=⟨n-1,by omega⟩
  rw [stop i (by omega)]
  simp (disch:=omega) only [ab.l0,ab.b0,aP,aM]
 | succ d ih =>
  intro i n h1 h2 h3
  obtain ⟨n,rfl⟩:∃ q,n=q+1:=⟨n-1,by omega⟩
  by_cases hs:i≤s.size
  case neg =>
   rw [stop i (by omega)]
   simp (disch:=omega) only [ab.l0,ab.b0,aN,aP,aX,aM]
  have hp:(128:Nat) ^ i≤128 ^ 7:=Nat.pow_le_pow_right (by decide) (by omega)
  rw [show (128:Nat) ^ 7=562949953421312 by decide] at hp
  simp (disch:=omega) only [ab.l0,ab.b0,aN,aX,aC]
  refine (EM (k:=k) (L0:=ab.l0 k n) (s:=s) (n:=i) i 0 k (by omega) hs (by omega) (by omega)).trans ?_
  obtain ⟨m,hm⟩:∃ m,k-i=m+1:=⟨k-i-1,by omega⟩
  have hd7:=KG (s:=s) (n:=i) (by omega)
  have hc:=Et (s:=s) (n:=i) h2 (by omega) hs
  rw [hm,Nat.zero_mul,Nat.zero_add]
  simp only [ab.l1,ab.b1,show decide ((-1:Int)≥0)=false by decide,aM,gK hk,aO,dD hd7]
  rw [c_ (by omega) (by omega),ng,hc,aC (by omega) (by omega)]
  have hw:=He (nb s) (rq s) 6 i h2 (by omega) (by rw [cj];exact hs)
  cases hq:qD ((nb s).take i) with
  | true =>
   obtain ⟨a,ha⟩:=hw.1 hq
   rw [aX,ha]
   simp only []
   rw [if_pos (Nat.le_refl _),Ip (rq s) ha]
  | false =>
   have hnot:∀ a,rv 7 (nb s)≠some (a,i):=fun a ha=>by
    have:=hw.2 ⟨a,ha⟩
    rw [hq] at this
    cases this
   rw [aM]
   refine (ih (i+1) n (by omega) (by omega) (by omega)).trans ?_
   cases q:rv 7 (nb s) with
   | none=>rfl
   | some p =>
    obtain ⟨a,m'⟩:=p
    have:m'≠i:=fun e=>hnot a (by rw [q,e])
    simp only []
    by_cases c:i≤m'
    · rw [if_pos c,if_pos (by omega)]
    · rw [if_neg c,if_neg (by omega)]
theorem fO {k:Nat} (hk:2 ^ 50≤k) (s:ByteArray):ab.f k s=some (D8 (rv 7 (nb s))):=by
 unfold ab.f ab.t
 refine (zq hk 7 1 k (by omega) (by omega) (by omega)).trans ?_
 cases q:rv 7 (nb s) with
 | none=>rfl
 | some p =>
  obtain ⟨a,m⟩:=p
  obtain ⟨_,_,_,_,h5,_⟩:=p5 6 (nb s) a m (rq s) q
  simp only [D8]
  rw [if_pos h5]
end Go.Proofs.YtohaanhjddohmaaGreatDoor.G
namespace Go.Proofs.YtohaanhjddohmaaGreatDoor.G
open Go.V
theorem oa {k:Nat} (hk:2 ^ 50≤k) {x:Nat} (hx:x<4294967296) (t:ByteArray):bR.f k (eR x++t) 4=some ((x:Int),(true,())):=by
 have hz:=m_ x t
 have st:∀ (q a j:Nat),j<4→a<4294967296→bR.l0 k (q+1) (eR x++t) 4 (a:Int) (j:Int)=bR.l0 k q (eR x++t) 4 ((a*256+(nb (eR x++t)).getD j 0:Nat):Int) ((j+1:Nat):Int):=fun q a j hj ha=>by
  have hb:=ia (eR x++t) j
  have hat:=vr (s:=eR x++t) (i:=j) (by omega)
  generalize (nb (eR x++t)).getD j 0=b at *
  have e1:aH (aH ((a:Int)*256)+aH (b:Int))=((a*256+b:Nat):Int):=by
   rw [aC (n:=(a:Int)*256) (by omega) (by omega),aC (n:=(b:Int)) (by omega) (by omega),aC (by omega) (by omega)]
   omega
  have ej:aH ((j:Int)+1)=((j+1:Nat):Int):=by rw [aC (by omega) (by omega)];omega
  simp (disch:=omega) only [bR.l0,bR.b0,aN,aX,aG,hat,e1,ej]
 unfold bR.f bR.t
 rw [nV,aO]
 simp only [show decide ((1:Int)≤4∧(4:Int)≤7)=true by decide,ft,aM,aP (show ¬ (((eR x++t).size:Int)<4) by omega)]
 obtain ⟨q,hq⟩:∃ q,k=q+5:=⟨k-5,by omega⟩
 refine (congrArg (fun z=>bR.l0 k z (eR x++t) 4 0 0) hq).trans ?_
 refine (st (q+4) 0 0 (by omega) (by omega)).trans ?_
 rw [uQ]
 simp only [List.getD_cons_zero,Nat.zero_mul,Nat.zero_add]
 refine (st (q+3) _ 1 (by omega) (by omega)).trans ?_
 rw [uQ]
 simp only [List.getD_cons_zero,List.getD_cons_succ]
 refine (st (q+2) _ 2 (by omega) (by omega)).trans ?_
 rw [uQ]
 simp only [List.getD_cons_zero,List.getD_cons_succ]
 refine (st (q+1) _ 3 (by omega) (by omega)).trans ?_
 rw [uQ]
 simp only [List.getD_cons_zero,List.getD_cons_succ]
 simp only [bR.l0,bR.b0,show decide ((((3+1:Nat)):Int)<4)=false by decide,aM]
 congr 3
 omega
theorem oG {k:Nat} (hk:2 ^ 50≤k) {x:Nat} (hx:x<4294967296) (t:ByteArray):bZ.f k (eR x++t) 4=some ((x:Int),(true,())):=by
 have hz:=m_ x t
 have st:∀ (q a j:Nat),j<4→a<16777216→bZ.l0 k (q+1) (eR x++t) (a:Int) 4 (j:Int)=bZ.l0 k q (eR x++t) ((a*256+(nb (eR x++t)).getD j 0:Nat):Int) 4 ((j+1:Nat):Int):=fun q a j hj ha=>by
  have hb:=ia (eR x++t) j
  have hat:=vr (s:=eR x++t) (i:=j) (by omega)
  generalize (nb (eR x++t)).getD j 0=b at *
  have e0:aH ((a:Int)*2 ^ min (Int.toNat 8) (IntKind.bits .i64))=((a*256:Nat):Int):=by
   rw [show (2:Int) ^ min (Int.toNat 8) (IntKind.bits .i64)=256 by decide,aC (by omega) (by omega)]
   omega
  have e2:aH (b:Int)=(b:Int):=aC (by omega) (by omega)
  have ej:aH ((j:Int)+1)=((j+1:Nat):Int):=by rw [aC (by omega) (by omega)];omega
  simp (disch:=omega) only [bZ.l0,bZ.b0,aN,aX,aG,hat,e0,e2,ej]
  rw [KC (by omega) hb]
 unfold bZ.f bZ.t
 rw [tD,aO]
 simp only [show decide ((1:Int)≤4∧(4:Int)≤7)=true by decide,ft,aM,aP (show ¬ (((eR x++t).size:Int)<4) by omega)]
 obtain ⟨q,hq⟩:∃ q,k=q+5:=⟨k-5,by omega⟩
 refine (congrArg (fun z=>bZ.l0 k z (eR x++t) 0 4 0) hq).trans ?_
 refine (st (q+4) 0 0 (by omega) (by omega)).trans ?_
 rw [uQ]
 simp only [List.getD_cons_zero,Nat.zero_mul,Nat.zero_add]
 refine (st (q+3) _ 1 (by omega) (by omega)).trans ?_
 rw [uQ]
 simp only [List.getD_cons_zero,List.getD_cons_succ]
 refine (st (q+2) _ 2 (by omega) (by omega)).trans ?_
 rw [uQ]
 simp only [List.getD_cons_zero,List.getD_cons_succ]
 refine (st (q+1) _ 3 (by omega) (by omega)).trans ?_
 rw [uQ]
 simp only [List.getD_cons_zero,List.getD_cons_succ]
 simp only [bZ.l0,bZ.b0,show decide ((((3+1:Nat)):Int)<4)=false by decide,aM]
 congr 3
 omega
theorem t7 (k:Nat) {s:ByteArray} (h:s.size<4):bR.f k s 4=some (0,(false,())):=by
 unfold bR.f bR.t
 rw [nV,aO]
 simp only [show decide ((1:Int)≤4∧(4:Int)≤7)=true by decide,ft,aM,aN (show (s.size:Int)<4 by omega),aX]
theorem sf (k:Nat) {s:ByteArray} (h:s.size<4):bZ.f k s 4=some (0,(false,())):=by
 unfold bZ.f bZ.t
 rw [tD,aO]
 simp only [show decide ((1:Int)≤4∧(4:Int)≤7)=true by decide,ft,aM,aN (show (s.size:Int)<4 by omega),aX]
end Go.Proofs.YtohaanhjddohmaaGreatDoor.G
namespace Go.Proofs.YtohaanhjddohmaaGreatDoor.G
open Go.V
def aT (s:ByteArray):ByteArray:=if s.size > 200 then ⟨#[]⟩ else qs (oX (iT s))++iT s
theorem j9 (s:ByteArray):(aT s).size≤211:=by
 unfold aT
 split
 · exact Nat.zero_le _
 · have:=lm s
   rw [ByteArray.size_append,ip];omega
theorem je {s:ByteArray} (h:s.size≤200):5≤(aT s).size:=by
 unfold aT
 rw [if_neg (by omega),ByteArray.size_append,ip]
 unfold iT
 rw [dD (by omega),ByteArray.size_append]
 have:=ag s.size
 omega
theorem lQ {k:Nat} (hk:2 ^ 50≤k) (s:ByteArray):fG.f k s=some (aT s,()):=by
 unfold fG.f fG.t aT
 by_cases c:s.size > 200
 · rw [aN (show (s.size:Int) > 200 by omega),aX,if_pos c]
 · have h1:=ai (s.size:Int)
   have h2:=qk (gk (s.size:Int)++s)
   rw [aP (show ¬ (s.size:Int) > 200 by omega),aM,if_neg c]
   unfold iT
   simp (disch:=first | omega | (simp only [ByteArray.size_append,ip];omega)) only [gK hk,aO,dL,rW hk]
   rw [oh hk h2.1 h2.2,aO,dL (by simp only [ByteArray.size_append,ip];omega)]
theorem mR {k:Nat} (hk:2 ^ 50≤k) (s:ByteArray):fw.f k s=some (aT s,()):=by
 unfold fw.f fw.t aT
 by_cases c:s.size > 200
 · rw [aN (show (s.size:Int) > 200 by omega),aX,if_pos c]
 · have h1:=lm s
   have h2:=qk (iT s)
   rw [aP (show ¬ (s.size:Int) > 200 by omega),aM,if_neg c]
   simp (disch:=omega) only [kS hk,aO,rh hk]
   rw [pJ hk h2.1 h2.2,aO,dL (by rw [ip];omega)]
end Go.Proofs.YtohaanhjddohmaaGreatDoor.G
namespace Go.Proofs.YtohaanhjddohmaaGreatDoor.G
open Go.V
theorem aL (a b:ByteArray):(a++b).size=a.size+b.size:=ByteArray.size_append ..
theorem pn (a b t:ByteArray):ByteArray.extract (a++(b++t)) (a.size+b.size) (a++(b++t)).size=t:=by
 have:=e9 (a++b) t
 rw [aL,af] at this
 exact this
theorem K4 (a b t:ByteArray):ByteArray.extract (a++(b++t)) a.size (a.size+b.size)=b:=kh (by
 rw [rj,iZ,iZ,List.take_append,List.take_of_length_le (by rw [cj];omega),cj,show a.size+b.size-a.size=b.size by omega,List.drop_left' (cj a),List.take_left' (cj b)])
theorem s8 (a b:Nat):((a:Int)+(b:Int))=((a+b:Nat):Int):=rfl
theorem nJ {k:Nat} (hk:2 ^ 50≤k) {a:Nat} {t:ByteArray} (ha:a<562949953421312) (hs:t.size≤1099511627776):cS.f k (b_ a++t)=some ((a:Int),(((b_ a).size:Int),())):=by
 have:=ag a
 rw [n_ hk (by rw [aL];omega),pa ha];rfl
theorem mI {k:Nat} (hk:2 ^ 50≤k) {s:ByteArray} (h:rv 7 (nb s)=none) (hs:s.size≤1099511627776):cS.f k s=some (0,(0,())):=by
 rw [n_ hk (by omega),h];rfl
theorem cQ {k:Nat} (hk:2 ^ 50≤k) {a:Nat} {t:ByteArray} (ha:a<562949953421312):ab.f k (b_ a++t)=some ((a:Int),(((b_ a).size:Int),())):=by
 rw [fO hk,pa ha];rfl
theorem jS {k:Nat} (hk:2 ^ 50≤k) {s:ByteArray} (h:rv 7 (nb s)=none):ab.f k s=some (0,(0,())):=by
 rw [fO hk,h];rfl
theorem gR {k:Nat} (hk:2 ^ 50≤k) {a:Nat} {t:ByteArray} (ha:a<562949953421312) (hs:t.size≤1099511627776):aZ.f k (b_ a++t,(false,()))=some ((t,(false,())),((a:Int),())):=by
 have h1:=ag a
 unfold aZ.f aZ.t
 rw [nJ hk ha hs,aO]
 simp only [aM]
 rw [show (((b_ a).size:Int)==0)=false from mJ (by omega),aM,c_ (by omega) (by rw [aL];omega),ng,e9]
theorem lr {k:Nat} (hk:2 ^ 50≤k) {s:ByteArray} (h:rv 7 (nb s)=none) (hs:s.size≤1099511627776):aZ.f k (s,(false,()))=some ((s,(true,())),(0,())):=by
 unfold aZ.f aZ.t
 rw [mI hk h hs,aO]
 rfl
theorem EI {k:Nat} (hk:2 ^ 50≤k) {s:ByteArray} (hs:s.size≤1099511627776):aZ.f k (s,(true,()))=some ((s,(true,())),(0,())):=by
 unfold aZ.f aZ.t
 rw [n_ hk (show s.size≤_ by omega),aO]
 rfl
theorem vw (k:Nat) (u t:ByteArray):au.f k (u++t,(false,())) (u.size:Int)=some ((t,(false,())),(u,())):=by
 unfold au.f au.t
 simp only [aM]
 rw [aP (by rw [aL];omega),aM,c_ (by omega) (by rw [aL];omega),c_ (by omega) (by rw [aL];omega),ng,e9,wR]
theorem yI (k:Nat) {s:ByteArray} {n:Int} (h:n > (s.size:Int)):au.f k (s,(false,())) n=some ((s,(true,())),(⟨#[]⟩,())):=by
 unfold au.f au.t
 simp only [aM]
 rw [aN h,aX]
theorem tF (k:Nat) (s:ByteArray) (n:Int):au.f k (s,(true,())) n=some ((s,(true,())),(⟨#[]⟩,())):=by
 unfold au.f au.t
 rfl
theorem my (s:ByteArray):(∃ u t,u.size<562949953421312∧s=b_ u.size++(u++t))∨rv 7 (nb s)=none∨(∃ a t,a<562949953421312∧s=b_ a++t∧t.size<a):=by
 rcases jm s with ⟨a,t,ha,rfl⟩ | h
 · by_cases c:t.size<a
   · exact .inr (.inr ⟨a,t,ha,rfl,c⟩)
   · have e:=vQ t (n:=a) (by omega)
     have hz:(ByteArray.extract t 0 a).size=a:=by rw [← cj,nF,List.length_take,cj];omega
     exact .inl ⟨_,_,by rw [hz];exact ha,by rw [hz,← e]⟩
 · exact .inr (.inl h)
theorem nd {k:Nat} (hk:2 ^ 50≤k) {u t:ByteArray} (hu:u.size<562949953421312) (hs:(u++t).size≤1099511627776):an.f k (b_ u.size++(u++t),(false,()))=some ((t,(false,())),(u,())):=by
 unfold an.f an.t
 rw [gR hk hu hs,aO]
 simp only []
 rw [vw,aO]
theorem wo {k:Nat} (hk:2 ^ 50≤k) {s:ByteArray} (hs:s.size≤1099511627776):an.f k (s,(true,()))=some ((s,(true,())),(⟨#[]⟩,())):=by
 unfold an.f an.t
 rw [EI hk hs,aO]
 simp only []
 rw [tF,aO]
theorem wu {k:Nat} (hk:2 ^ 50≤k) {s:ByteArray} (hs:s.size≤1099511627776) (h:rv 7 (nb s)=none∨(∃ a t,a<562949953421312∧s=b_ a++t∧t.size<a)):∃ s',s'.size≤1099511627776∧an.f k (s,(false,()))=some ((s',(true,())),(⟨#[]⟩,())):=by
 unfold an.f an.t
 rcases h with h | ⟨a,t,ha,rfl,ht⟩
 · refine ⟨s,hs,?_⟩
   rw [lr hk h hs,aO]
   simp only []
   rw [tF,aO]
 · have:=ag a
   rw [aL] at hs
   refine ⟨t,by omega,?_⟩
   rw [gR hk ha (by omega),aO]
   simp only []
   rw [yI k (by omega),aO]
theorem u3 {k:Nat} (hk:2 ^ 50≤k) {u t:ByteArray} (hu:u.size<562949953421312) (hs:(u++t).size≤1099511627776):cK.f k (b_ u.size++(u++t))=some (u,(t,(true,()))):=by
 have h1:=ag u.size
 have h2:(b_ u.size++(u++t)).size=(b_ u.size).size+(u.size+t.size):=by rw [aL,aL]
 rw [aL] at hs
 unfold cK.f cK.t
 rw [cQ hk hu,aO]
 simp only []
 rw [show (((b_ u.size).size:Int)==0)=false from mJ (by omega),aM,aC (by omega) (by omega),aP (by omega),aM,s8,aC (by omega) (by omega),
  tE (by omega) (by omega) (by omega),c_ (by omega) (by omega),ng,ng,K4,pn]
theorem vu {k:Nat} (hk:2 ^ 50≤k) {s:ByteArray} (hs:s.size≤1099511627776) (h:rv 7 (nb s)=none∨(∃ a t,a<562949953421312∧s=b_ a++t∧t.size<a)):cK.f k s=some (⟨#[]⟩,(⟨#[]⟩,(false,()))):=by
 unfold cK.f cK.t
 rcases h with h | ⟨a,t,ha,rfl,ht⟩
 · rw [jS hk h,aO];rfl
 · have:=ag a
   rw [aL] at hs
   rw [cQ hk ha,aO]
   simp only []
   rw [show (((b_ a).size:Int)==0)=false from mJ (by omega),aM,aC (by rw [aL];omega) (by rw [aL];omega),aN (by rw [aL];omega),aX]
section
open Classical
variable {α:Type}
noncomputable def o_ (ok:α→Prop) (shw:α→ByteArray) (z:α) (s:ByteArray):α × Bool:=if h:∃ r,ok r∧shw r=s then (h.choose,true) else (z,false)
theorem vG {ok:α→Prop} {shw:α→ByteArray} {z:α} {s:ByteArray} {r:α} (h:o_ ok shw z s=(r,true)):ok r∧shw r=s:=by
 unfold o_ at h
 split at h
 · rename_i q
   obtain rfl:=(Prod.mk.inj h).1
   exact q.choose_spec
 · cases (Prod.mk.inj h).2
theorem EB {ok:α→Prop} {shw:α→ByteArray} {z:α} {s:ByteArray} (h:(o_ ok shw z s).2=false):o_ ok shw z s=(z,false):=by
 unfold o_ at h ⊢
 split
 · rename_i q;rw [dif_pos q] at h;cases h
 · rfl
theorem km (ok:α→Prop) (shw:α→ByteArray) (z:α) (s:ByteArray):(∃ r,ok r∧shw r=s∧o_ ok shw z s=(r,true))∨o_ ok shw z s=(z,false):=by
 cases h:(o_ ok shw z s).2 with
 | false=>exact .inr (EB h)
 | true =>
  have e:o_ ok shw z s=((o_ ok shw z s).1,true):=by rw [← h]
  exact .inl ⟨_,(vG e).1,(vG e).2,e⟩
theorem mW {ok:α→Prop} {shw:α→ByteArray} {z:α} {s:ByteArray} {f:Option (α × Bool × Unit)} (h1:∀ r,ok r→shw r=s→f=some (r,(true,())))
 (h2:(∃ r,ok r∧shw r=s∧f=some (r,(true,())))∨f=some (z,(false,()))):f=some ((o_ ok shw z s).1,((o_ ok shw z s).2,())):=by
 rcases km ok shw z s with ⟨r,a,b,e⟩ | e
 · rw [e,h1 r a b]
 · rcases h2 with ⟨r,a,b,_⟩ | h2
   · unfold o_ at e
     rw [dif_pos ⟨r,a,b⟩] at e
     cases (Prod.mk.inj e).2
   · rw [e,h2]
theorem zc {ok:α→Prop} {shw:α→ByteArray} {z:α} {r:α} (hi:∀ a b,ok a→ok b→shw a=shw b→a=b) (h:ok r):o_ ok shw z (shw r)=(r,true):=by
 rcases km ok shw z (shw r) with ⟨q,a,b,e⟩ | e
 · rw [e,hi q r a h b]
 · unfold o_ at e
   rw [dif_pos ⟨r,h,rfl⟩] at e
   cases (Prod.mk.inj e).2
end
abbrev rp:Ty.den ax:=(0,(0,(ByteArray.empty,(ByteArray.empty,(0,(0,()))))))
theorem yQ {a:Ty.den ax} (h:eo a=true) :
 (∃ (b:Nat) (kd:Nat),(kd=1∨kd=4)∧b≤1000000∧a=((kd:Int),((b:Int),(a.2.2.1,(a.2.2.2.1,(0,(0,()))))))∧a.2.2.1.size≤8∧a.2.2.2.1.size≤24 ∧
  aJ a=b_ kd++(b_ b++(b_ a.2.2.1.size++(a.2.2.1++(b_ a.2.2.2.1.size++(a.2.2.2.1++⟨#[]⟩)))))) ∨
 (∃ (b:Nat),b≤1000000∧a=(2,((b:Int),(a.2.2.1,(ByteArray.empty,(0,(0,()))))))∧a.2.2.1.size≤8∧aJ a=b_ 2++(b_ b++(b_ a.2.2.1.size++(a.2.2.1++⟨#[]⟩)))) ∨
 (∃ (b kd c x:Nat),(kd=3∨kd=5)∧b≤1000000∧c≤20∧x<4294967296∧a=((kd:Int),((b:Int),(ByteArray.empty,(ByteArray.empty,((c:Int),((x:Int),()))))))∧aJ a=b_ kd++(b_ b++(b_ c++(eR x++⟨#[]⟩)))):=by
 have hh:=h
 obtain ⟨kd,b,key,val,c,x,u⟩:=a
 change Int at kd b c x
 change ByteArray at key val
 rcases vI h with ⟨hc,h⟩ | ⟨hc,h⟩ | ⟨hc,h⟩
 · obtain ⟨z1,z2,z3,z4,z5,z6,z7⟩:=h
   subst z4;subst z5
   obtain ⟨b,rfl⟩:=Int.eq_ofNat_of_zero_le (show 0≤b by omega)
   left
   refine ⟨b,kd.toNat,by omega,by omega,?_,z2,z3,?_⟩
   · rw [show ((kd.toNat:Nat):Int)=kd by omega]
   · unfold aJ
     rw [if_pos hh,if_pos hc]
     simp only [iT]
     rw [dD (by omega),dD (by omega),dD (by omega),gG,af,show gk kd=b_ kd.toNat by rw [← dD (show kd.toNat<562949953421312 by omega)];congr 1;omega]
 · obtain ⟨z1,z2,z3,z4,z5,z6,z7⟩:=h
   subst z3;subst z4;subst z5;subst hc
   obtain ⟨b,rfl⟩:=Int.eq_ofNat_of_zero_le (show 0≤b by omega)
   right;left
   refine ⟨b,by omega,rfl,z2,?_⟩
   unfold aJ
   rw [if_pos hh,if_neg (show ¬ ((2:Int)=1∨(2:Int)=4) by decide),if_pos rfl]
   simp only [iT]
   rw [dD (by omega),dD (by omega),gG]
   rfl
 · obtain ⟨z1,z2,z3,z4,z5,z6,z7,z8⟩:=h
   subst z1;subst z2
   obtain ⟨b,rfl⟩:=Int.eq_ofNat_of_zero_le (show 0≤b by omega)
   obtain ⟨c,rfl⟩:=Int.eq_ofNat_of_zero_le (show 0≤c by omega)
   obtain ⟨x,rfl⟩:=Int.eq_ofNat_of_zero_le (show 0≤x by omega)
   right;right
   refine ⟨b,kd.toNat,c,x,by omega,by omega,by omega,by omega,?_,?_⟩
   · rw [show ((kd.toNat:Nat):Int)=kd by omega];rfl
   · unfold aJ
     rw [if_pos hh,if_neg (show ¬ (kd=1∨kd=4) by omega),if_neg (show ¬ kd=2 by omega)]
     simp only []
     rw [dD (by omega),dD (by omega),gG,show gk kd=b_ kd.toNat by rw [← dD (show kd.toNat<562949953421312 by omega)];congr 1;omega]
     rfl
theorem Co {a:Ty.den ax} {s:ByteArray} (h:aJ a=s) (hs:s≠⟨#[]⟩):eo a=true:=by
 cases c:eo a with
 | true=>rfl
 | false=>unfold aJ at h;rw [c] at h;exact absurd h.symm hs
theorem II {kd:Nat} (h:kd≠1):((kd:Int)==1)=false:=mJ (by omega)
theorem IY {kd:Nat} (h:kd≠2):((kd:Int)==2)=false:=mJ (by omega)
theorem IK {kd:Nat} (h:kd≠4):((kd:Int)==4)=false:=mJ (by omega)
theorem Iz:(((1:Nat):Int)==1)=true:=rfl
theorem Im:(((4:Nat):Int)==1)=false:=rfl
theorem J6:(((4:Nat):Int)==4)=true:=rfl
theorem JQ:(((2:Nat):Int)==1)=false:=rfl
theorem Iq:(((2:Nat):Int)==2)=true:=rfl
theorem J2:(((2:Nat):Int)==4)=false:=rfl
theorem KJ:((0:Int)==1)=false:=rfl
theorem KL:((0:Int)==4)=false:=rfl
theorem KN:((0:Int)==2)=false:=rfl
theorem e0:(⟨#[]⟩:ByteArray).size=0:=rfl
theorem Gz {kd b:Nat} {key val:ByteArray} (hb:b<562949953421312) (hc:kd=1∨kd=4) (h:eo ((kd:Int),((b:Int),(key,(val,(0,(0,()))))))=true) :
 aJ ((kd:Int),((b:Int),(key,(val,(0,(0,()))))))=b_ kd++(b_ b++(b_ key.size++(key++(b_ val.size++(val++⟨#[]⟩))))):=by
 rcases vI h with ⟨_,h1⟩ | ⟨h0,_⟩ | ⟨h0,_⟩
 · unfold aJ
   rw [if_pos h,if_pos (show ((kd:Int)=1∨(kd:Int)=4) by omega)]
   simp only [iT]
   rw [dD (by omega),dD hb,dD (by omega),dD (by omega),gG,af]
 · omega
 · omega
theorem G3 {b:Nat} {key:ByteArray} (hb:b<562949953421312) (h:eo (((2:Nat):Int),((b:Int),(key,(ByteArray.empty,(0,(0,()))))))=true) :
 aJ (((2:Nat):Int),((b:Int),(key,(ByteArray.empty,(0,(0,()))))))=b_ 2++(b_ b++(b_ key.size++(key++⟨#[]⟩))):=by
 rcases vI h with ⟨h0,_⟩ | ⟨_,h1⟩ | ⟨h0,_⟩
 · omega
 · unfold aJ
   rw [if_pos h,if_neg (show ¬ (((2:Nat):Int)=1∨((2:Nat):Int)=4) by decide),if_pos (show ((2:Nat):Int)=2 from rfl)]
   simp only [iT]
   rw [dD (by omega),dD hb,dD (by omega),gG]
 · omega
theorem GB {kd b c x:Nat} (hb:b<562949953421312) (hx:c<562949953421312) (hc:kd≠1∧kd≠2∧kd≠4) (h:eo ((kd:Int),((b:Int),(ByteArray.empty,(ByteArray.empty,((c:Int),((x:Int),()))))))=true) :
 aJ ((kd:Int),((b:Int),(ByteArray.empty,(ByteArray.empty,((c:Int),((x:Int),()))))))=b_ kd++(b_ b++(b_ c++(eR x++⟨#[]⟩))):=by
 rcases vI h with ⟨h0,_⟩ | ⟨h0,_⟩ | ⟨_,h1⟩
 · omega
 · omega
 · unfold aJ
   rw [if_pos h,if_neg (show ¬ ((kd:Int)=1∨(kd:Int)=4) by omega),if_neg (show ¬ (kd:Int)=2 by omega)]
   simp only []
   have hk5:kd≤5:=by omega
   rw [dD (by omega),dD hb,dD hx,gG]
   rfl
theorem ny {k:Nat} (hk:2 ^ 50≤k) {a:Ty.den ax} (h:eo a=true):cT.f k (aJ a)=some (a,(true,())):=by
 unfold cT.f cT.t
 rcases yQ h with ⟨b,kd,hc,hb,ha,z1,z2,e⟩ | ⟨b,hb,ha,z1,e⟩ | ⟨b,kd,c,x,hc,hb,z1,z2,ha,e⟩
 · rw [e]
   rw [ha] at h
   conv=>rhs;rw [ha]
   have v1:=ag kd
   have v2:=ag b
   have v3:=ag a.2.2.1.size
   have v4:=ag a.2.2.2.1.size
   rcases hc with rfl | rfl
   · simp (disch:=first | omega | (simp only [aL,e0];omega)) only [gR hk,nd hk,aO,aX,aM,Iz,cY,ft,h9,h]
   · simp (disch:=first | omega | (simp only [aL,e0];omega)) only [gR hk,nd hk,aO,aX,aM,Im,J6,cY,ft,h9,h]
 · rw [e]
   rw [ha] at h
   conv=>rhs;rw [ha]
   have v1:=ag 2
   have v2:=ag b
   have v3:=ag a.2.2.1.size
   simp (disch:=first | omega | (simp only [aL,e0];omega)) only [gR hk,nd hk,aO,aX,aM,JQ,Iq,J2,cY,ft,h9]
   rw [show ((2:Nat):Int)=2 from rfl,h]
   rfl
 · rw [e,ha]
   rw [ha] at h
   have v1:=ag kd
   have v2:=ag b
   have v3:=ag c
   have v4:=lp x
   have hby:=vw k (eR x) ⟨#[]⟩
   rw [lp] at hby
   have hrf:=oG hk z2 ⟨#[]⟩
   rw [gG] at hrf
   rw [show (((4:Nat)):Int)=4 from rfl] at hby
   simp (disch:=first | omega | (simp only [aL,e0];omega)) only [gR hk,hby,hrf,aO,aX,aM,II,IY,IK,cY,ft,h9,h]
theorem uf {k:Nat} (hk:2 ^ 50≤k) {s:ByteArray} (hs:s.size≤1099511627776) :
 (∃ r,eo r=true∧aJ r=s∧cT.f k s=some (r,(true,())))∨cT.f k s=some (rp,(false,())):=by
 have rf0:=sf k (s:=⟨#[]⟩) (by decide)
 unfold cT.f cT.t
 rcases jm s with ⟨kd,t,hkd,rfl⟩ | h0
 case inr =>
  right
  simp (disch:=first | omega | (simp only [aL,e0];omega)) only [lr hk h0,EI hk,tF k,rf0,aO,aX,aM,KJ,KN,KL]
 have v1:=ag kd
 rw [aL] at hs
 rcases jm t with ⟨b,t2,hb,rfl⟩ | h1
 case inr =>
  right
  by_cases c1:kd=1
  · subst c1
    simp (disch:=first | omega | (simp only [aL,e0];omega)) only [gR hk,lr hk h1,wo hk,aO,aX,aM,Iz]
  by_cases c4:kd=4
  · subst c4
    simp (disch:=first | omega | (simp only [aL,e0];omega)) only [gR hk,lr hk h1,wo hk,aO,aX,aM,Im,J6]
  by_cases c2:kd=2
  · subst c2
    simp (disch:=first | omega | (simp only [aL,e0];omega)) only [gR hk,lr hk h1,wo hk,aO,aX,aM,JQ,J2,Iq]
  · simp (disch:=first | omega | (simp only [aL,e0];omega)) only [gR hk,lr hk h1,EI hk,tF k,rf0,aO,aX,aM,II c1,IY c2,IK c4]
 have v2:=ag b
 rw [aL] at hs
 by_cases c2:kd=2
 · subst c2
   rcases my t2 with ⟨key,t3,hu,rfl⟩ | bad
   case inr =>
    right
    obtain ⟨s',hs',e⟩:=wu hk (by omega) bad
    simp (disch:=first | omega | (simp only [aL,e0];omega)) only [gR hk,e,aO,aX,aM,JQ,J2,Iq]
   have v3:=ag key.size
   simp only [aL] at hs
   simp (disch:=first | omega | (simp only [aL,e0];omega)) only [gR hk,nd hk,aO,aX,aM,JQ,J2,Iq]
   by_cases c:t3=⟨#[]⟩
   · subst c
     simp only [cY,ft,aM,h9,aO]
     cases hr:eo (((2:Nat):Int),((b:Int),(key,(ByteArray.empty,(0,(0,())))))) with
     | true=>exact .inl ⟨_,hr,G3 hb hr,rfl⟩
     | false=>exact .inr rfl
   · rw [mH c]
     exact .inr rfl
 by_cases c1:kd=1∨kd=4
 · have hcc:(bif ((kd:Int)==1) then true else ((kd:Int)==4))=true:=by rcases c1 with rfl | rfl <;> rfl
   rcases my t2 with ⟨key,t3,hu,rfl⟩ | bad
   case inr =>
    right
    obtain ⟨s',hs',e⟩:=wu hk (by omega) bad
    rcases c1 with rfl | rfl
    · simp (disch:=first | omega | (simp only [aL,e0];omega)) only [gR hk,e,wo hk hs',aO,aX,aM,Iz]
    · simp (disch:=first | omega | (simp only [aL,e0];omega)) only [gR hk,e,wo hk hs',aO,aX,aM,Im,J6]
   have v3:=ag key.size
   simp only [aL] at hs
   rcases my t3 with ⟨val,t4,hv,rfl⟩ | bad
   case inr =>
    right
    obtain ⟨s',hs',e⟩:=wu hk (by omega) bad
    rcases c1 with rfl | rfl
    · simp (disch:=first | omega | (simp only [aL,e0];omega)) only [gR hk,nd hk,e,aO,aX,aM,Iz]
    · simp (disch:=first | omega | (simp only [aL,e0];omega)) only [gR hk,nd hk,e,aO,aX,aM,Im,J6]
   have v4:=ag val.size
   simp only [aL] at hs
   have fin:(bif !seq t4 ⟨#[]⟩ then some (rp,(false,())) else bif !eo ((kd:Int),((b:Int),(key,(val,(0,(0,())))))) then some (rp,(false,())) else some (((kd:Int),((b:Int),(key,(val,(0,(0,())))))),(true,())))=cT.t k (b_ kd++(b_ b++(b_ key.size++(key++(b_ val.size++(val++t4)))))):=by
    unfold cT.t
    rcases c1 with rfl | rfl
    · simp (disch:=first | omega | (simp only [aL,e0];omega)) only [gR hk,nd hk,aO,aX,aM,Iz,h9]
    · simp (disch:=first | omega | (simp only [aL,e0];omega)) only [gR hk,nd hk,aO,aX,aM,Im,J6,h9]
   change (∃ r,eo r=true∧aJ r=_∧cT.t k _=some (r,(true,())))∨cT.t k _=some (rp,(false,()))
   rw [← fin]
   by_cases c:t4=⟨#[]⟩
   · subst c
     simp only [cY,ft,aM]
     cases hr:eo ((kd:Int),((b:Int),(key,(val,(0,(0,())))))) with
     | true=>exact .inl ⟨_,hr,Gz hb c1 hr,rfl⟩
     | false=>exact .inr rfl
   · rw [mH c]
     exact .inr rfl
 have d1:kd≠1:=fun q=>c1 (.inl q)
 have d4:kd≠4:=fun q=>c1 (.inr q)
 rcases jm t2 with ⟨c,t3,hc,rfl⟩ | h2
 case inr =>
  right
  simp (disch:=first | omega | (simp only [aL,e0];omega)) only [gR hk,lr hk h2,tF k,rf0,aO,aX,aM,II d1,IY c2,IK d4]
 have v3:=ag c
 rw [aL] at hs
 rcases wz t3 with ⟨x,t4,hx,rfl⟩ | h3
 case inr =>
  right
  have e:=yI k (s:=t3) (n:=4) (by omega)
  simp (disch:=first | omega | (simp only [aL,e0];omega)) only [gR hk,e,rf0,aO,aX,aM,II d1,IY c2,IK d4]
 rw [m_] at hs
 have hby:=vw k (eR x) t4
 rw [lp,show (((4:Nat)):Int)=4 from rfl] at hby
 have hrf:=oG hk hx ⟨#[]⟩
 rw [gG] at hrf
 simp (disch:=first | omega | (simp only [aL,e0,lp];omega)) only [gR hk,hby,hrf,aO,aM,II d1,IY c2,IK d4,h9]
 by_cases cc:t4=⟨#[]⟩
 · subst cc
   simp only [cY,ft,aM]
   cases hr:eo ((kd:Int),((b:Int),(ByteArray.empty,(ByteArray.empty,((c:Int),((x:Int),())))))) with
   | true=>exact .inl ⟨_,hr,GB hb hc ⟨d1,c2,d4⟩ hr,rfl⟩
   | false=>exact .inr rfl
 · rw [mH cc]
   exact .inr rfl
end Go.Proofs.YtohaanhjddohmaaGreatDoor.G
namespace Go.Proofs.YtohaanhjddohmaaGreatDoor.G
open Go.V
theorem jX (a b:Nat):Int.toNat ((a:Int)+(b:Int))=a+b:=by omega
theorem vz (a:Nat):(((b_ a).size:Int)==0)=false:=mJ (by have:=ag a;omega)
theorem oD (a:Nat) (t:ByteArray):b_ a++t≠⟨#[]⟩:=fun h=>by
 have:=congrArg ByteArray.size h
 rw [aL,e0] at this
 have:=ag a
 omega
theorem oe {r:Ty.den ax} {s:ByteArray} (hs:s≠⟨#[]⟩) :
 (∃ r',eo r'=true∧aJ r'=s∧(bif !seq (aJ r) s then some (rp,(false,())) else bif seq s ⟨#[]⟩ then some (rp,(false,())) else some (r,(true,())))=some (r',(true,()))) ∨
 (bif !seq (aJ r) s then some (rp,(false,())) else bif seq s ⟨#[]⟩ then some (rp,(false,())) else some (r,(true,())))=some (rp,(false,())):=by
 by_cases c:aJ r=s
 · exact .inl ⟨r,Co c hs,c,by rw [I9 c,mH hs];rfl⟩
 · rw [mH c];exact .inr rfl
theorem xa {k:Nat} (hk:2 ^ 50≤k) {a:Ty.den ax} (h:eo a=true):du.f k (aJ a)=some (a,(true,())):=by
 unfold du.f du.t
 rcases yQ h with ⟨b,kd,hc,hb,ha,z1,z2,e⟩ | ⟨b,hb,ha,z1,e⟩ | ⟨b,kd,c,x,hc,hb,z1,z2,ha,e⟩
 · have hs:aJ ((kd:Int),((b:Int),(a.2.2.1,(a.2.2.2.1,(0,(0,()))))))=b_ kd++(b_ b++(b_ a.2.2.1.size++(a.2.2.1++(b_ a.2.2.2.1.size++(a.2.2.2.1++⟨#[]⟩))))):=by rw [← ha];exact e
   rw [e]
   conv=>rhs;rw [ha]
   have v1:=ag kd
   have v2:=ag b
   have v3:=ag a.2.2.1.size
   have v4:=ag a.2.2.2.1.size
   rcases hc with rfl | rfl
   · simp (disch:=first | omega | (simp only [aL,e0];omega)) only [cQ hk,u3 hk,aO,ng,e9,vz,aX,aM,aC,c_,jX,pn,Iz,dE hk,hs,cY,ft,mH (oD _ _)]
   · simp (disch:=first | omega | (simp only [aL,e0];omega)) only [cQ hk,u3 hk,aO,ng,e9,vz,aX,aM,aC,c_,jX,pn,Im,J6,dE hk,hs,cY,ft,mH (oD _ _)]
 · have hs:aJ (((2:Nat):Int),((b:Int),(a.2.2.1,(ByteArray.empty,(0,(0,()))))))=b_ 2++(b_ b++(b_ a.2.2.1.size++(a.2.2.1++⟨#[]⟩))):=by rw [show ((2:Nat):Int)=2 from rfl,← ha];exact e
   rw [e]
   conv=>rhs;rw [ha]
   have v1:=ag 2
   have v2:=ag b
   have v3:=ag a.2.2.1.size
   simp (disch:=first | omega | (simp only [aL,e0];omega)) only [cQ hk,u3 hk,aO,ng,e9,vz,aX,aM,aC,c_,jX,pn,JQ,J2,Iq,dE hk,hs,cY,ft,mH (oD _ _)]
   rfl
 · have hs:aJ ((kd:Int),((b:Int),(ByteArray.empty,(ByteArray.empty,((c:Int),((x:Int),()))))))=b_ kd++(b_ b++(b_ c++(eR x++⟨#[]⟩))):=by rw [← ha];exact e
   rw [e,ha]
   have v1:=ag kd
   have v2:=ag b
   have v3:=ag c
   have v4:=lp x
   simp (disch:=first | omega | (simp only [aL,e0];omega)) only [cQ hk,oa hk z2,aO,ng,e9,vz,aX,aM,aC,c_,jX,pn,II,IY,IK,dE hk,hs,cY,ft,mH (oD _ _)]
theorem ue {k:Nat} (hk:2 ^ 50≤k) {s:ByteArray} (hs:s.size≤1099511627776) :
 (∃ r,eo r=true∧aJ r=s∧du.f k s=some (r,(true,())))∨du.f k s=some (rp,(false,())):=by
 unfold du.f du.t
 rcases jm s with ⟨kd,t,hkd,rfl⟩ | h0
 case inr =>
  right
  rw [jS hk h0,aO]
  simp only []
  rw [c_ (by omega) (by omega),fO hk,aO]
  rfl
 have v1:=ag kd
 rw [aL] at hs
 rcases jm t with ⟨b,t2,hb,rfl⟩ | h1
 case inr =>
  right
  simp (disch:=first | omega | (simp only [aL,e0];omega)) only [cQ hk,jS hk h1,aO,ng,e9,vz,aX,aM,aC,c_,show (((0:Int)==0))=true from rfl]
 have v2:=ag b
 rw [aL] at hs
 by_cases c2:kd=2
 · subst c2
   rcases my t2 with ⟨key,t3,hu,rfl⟩ | bad
   · simp only [aL] at hs
     simp (disch:=first | omega | (simp only [aL,e0];omega)) only [cQ hk,u3 hk,aO,ng,e9,vz,aX,aM,aC,c_,jX,pn,JQ,J2,Iq,dE hk]
     exact oe (oD _ _)
   · have hb5:=vu hk (by omega) bad
     simp (disch:=first | omega | (simp only [aL,e0];omega)) only [cQ hk,hb5,aO,ng,e9,vz,aX,aM,aC,c_,jX,pn,JQ,J2,Iq,dE hk]
     exact oe (oD _ _)
 by_cases c1:kd=1∨kd=4
 · have em:cK.f k ⟨#[]⟩=some (⟨#[]⟩,(⟨#[]⟩,(false,()))):=vu hk (by decide) (.inl rfl)
   obtain ⟨u,l,bb,hl,e⟩:∃ u l bb,l.size≤1099511627776∧cK.f k t2=some (u,(l,(bb,()))):=by
    rcases my t2 with ⟨key,t3,hu,rfl⟩ | bad
    · simp only [aL] at hs
      exact ⟨_,_,_,by omega,u3 hk hu (by simp only [aL];omega)⟩
    · exact ⟨_,_,_,by decide,vu hk (by omega) bad⟩
   obtain ⟨u2,l2,bb2,e2⟩:∃ u l' bb,cK.f k l=some (u,(l',(bb,()))):=by
    rcases my l with ⟨key,t3,hu,rfl⟩ | bad
    · exact ⟨_,_,_,u3 hk hu (by simp only [aL] at hl ⊢;omega)⟩
    · exact ⟨_,_,_,vu hk hl bad⟩
   rcases c1 with rfl | rfl
   · simp (disch:=first | omega | (simp only [aL,e0];omega)) only [cQ hk,e,e2,aO,ng,e9,vz,aX,aM,aC,c_,jX,pn,Iz,dE hk]
     exact oe (oD _ _)
   · simp (disch:=first | omega | (simp only [aL,e0];omega)) only [cQ hk,e,e2,aO,ng,e9,vz,aX,aM,aC,c_,jX,pn,Im,J6,dE hk]
     exact oe (oD _ _)
 have d1:kd≠1:=fun q=>c1 (.inl q)
 have d4:kd≠4:=fun q=>c1 (.inr q)
 have rf:∀ u:ByteArray,∃ z zb,bR.f k u 4=some (z,(zb,())):=fun u=>by
  rcases wz u with ⟨x,t,hx,rfl⟩ | q
  · exact ⟨_,_,oa hk hx t⟩
  · exact ⟨_,_,t7 k q⟩
 rcases jm t2 with ⟨c,t3,hc,rfl⟩ | h2
 · have v3:=ag c
   rw [aL] at hs
   obtain ⟨z,zb,e⟩:=rf t3
   simp (disch:=first | omega | (simp only [aL,e0];omega)) only [cQ hk,e,aO,ng,e9,vz,aX,aM,aC,c_,jX,pn,II d1,IY c2,IK d4,dE hk]
   exact oe (oD _ _)
 · obtain ⟨z,zb,e⟩:=rf (ByteArray.extract t2 (Int.toNat 0) t2.size)
   simp (disch:=first | omega | (simp only [aL,e0];omega)) only [cQ hk,jS hk h2,e,aO,ng,e9,vz,aX,aM,aC,c_,jX,pn,II d1,IY c2,IK d4,dE hk]
   exact oe (oD _ _)
noncomputable def j5 (s:ByteArray):Ty.den ax × Bool:=o_ (fun r=>eo r=true) aJ rp s
theorem qF {k:Nat} (hk:2 ^ 50≤k) {s:ByteArray} (hs:s.size≤1099511627776):cT.f k s=some ((j5 s).1,((j5 s).2,())) :=
 mW (fun r h1 h2=>by rw [← h2];exact ny hk h1) (uf hk hs)
theorem qE {k:Nat} (hk:2 ^ 50≤k) {s:ByteArray} (hs:s.size≤1099511627776):du.f k s=some ((j5 s).1,((j5 s).2,())) :=
 mW (fun r h1 h2=>by rw [← h2];exact xa hk h1) (ue hk hs)
theorem Bj {a b:Ty.den ax} (ha:eo a=true) (hb:eo b=true) (h:aJ a=aJ b):a=b:=by
 have h1:=ny (k:=2 ^ 50) (Nat.le_refl _) ha
 rw [h,ny (Nat.le_refl _) hb] at h1
 exact (Prod.mk.inj (Option.some.inj h1)).1.symm
theorem sB {a:Ty.den ax} (h:eo a=true):j5 (aJ a)=(a,true):=zc (fun _ _ ha hb=>Bj ha hb) h
theorem DG {s:ByteArray} {r:Ty.den ax} (h:j5 s=(r,true)):eo r=true∧aJ r=s:=vG h
theorem pE {t:ByteArray} (h:t.size≤200):∃ x,x<4294967296∧aT t=eR x++(b_ t.size++t):=by
 have:=qk (iT t)
 refine ⟨(oX (iT t)).toNat,by omega,?_⟩
 unfold aT qs
 rw [if_neg (by omega)]
 unfold iT
 rw [dD (by omega)]
theorem ER {t u s r:ByteArray} (ht:t.size≤200) (hu:u.size≤200) (h:aT t++s=aT u++r):t=u∧s=r:=by
 obtain ⟨x,hx,e⟩:=pE ht
 obtain ⟨y,hy,f⟩:=pE hu
 rw [e,f,af,af,af,af] at h
 have h2:=(qV h rfl).2
 obtain ⟨h3,h4⟩:=vj (by omega) (by omega) h2
 exact qV h4 h3
theorem yl (x:Nat) (u:ByteArray):ByteArray.extract (eR x++u) 4 (eR x++u).size=u:=e9 (eR x) u
theorem Jd (x:Nat) (v t r:ByteArray):ByteArray.extract (eR x++(v++(t++r))) (4+v.size) (4+v.size+t.size)=t:=by
 have:=K4 (eR x++v) t r
 rw [aL,lp,af] at this
 exact this
theorem Ic (x:Nat) (v t r:ByteArray):ByteArray.extract (eR x++(v++(t++r))) 0 (4+v.size+t.size)=eR x++(v++t):=by
 have:=wR (eR x++(v++t)) r
 rw [aL,aL,lp,af,af,← Nat.add_assoc] at this
 exact this
theorem c4 (a:Nat):(4:Int)+(a:Int)=((4+a:Nat):Int):=rfl
theorem wb {k:Nat} (hk:2 ^ 50≤k) {x:Nat} {t r:ByteArray} (ht:t.size≤200) (hr:t.size+r.size≤1099511627776) :
 dU.f k (eR x++(b_ t.size++(t++r)))=bif !seq (aT t) (eR x++(b_ t.size++t)) then some (⟨#[]⟩,(0,())) else some (t,(((4+(b_ t.size).size+t.size:Nat):Int),())):=by
 have v1:=ag t.size
 have z1:(eR x++(b_ t.size++(t++r))).size=4+((b_ t.size).size+(t.size+r.size)):=by rw [m_,aL,aL]
 unfold dU.f dU.t
 rw [aP (by omega),aM,c_ (by omega) (by omega),yl,nJ hk (by omega) (by rw [aL];omega),aO]
 simp only [vz,aM]
 rw [aP (by omega),aM,aC (n:=((eR x++(b_ t.size++(t++r))).size:Int)-4) (by omega) (by omega),aC (n:=((eR x++(b_ t.size++(t++r))).size:Int)-4-_) (by omega) (by omega),aP (by omega),aM,
  c4,aC (by omega) (by omega),s8,aC (by omega) (by omega),tE (by omega) (by omega) (by omega),ng,ng,Jd,mR hk,aO,c_ (by omega) (by omega),Ic]
theorem wH {k:Nat} (hk:2 ^ 50≤k) {x:Nat} {t r:ByteArray} (ht:t.size≤200) (hr:t.size+r.size≤1099511627776) :
 dT.f k (eR x++(b_ t.size++(t++r)))=bif !seq (aT t) (eR x++(b_ t.size++t)) then some (⟨#[]⟩,(0,())) else some (t,(((4+(b_ t.size).size+t.size:Nat):Int),())):=by
 have v1:=ag t.size
 have z1:(eR x++(b_ t.size++(t++r))).size=4+((b_ t.size).size+(t.size+r.size)):=by rw [m_,aL,aL]
 unfold dT.f dT.t
 rw [aP (by omega),aM,c_ (by omega) (by omega),yl,cQ hk (by omega),aO]
 simp only [vz,aM]
 rw [aP (by omega),aM,aC (n:=((eR x++(b_ t.size++(t++r))).size:Int)-4) (by omega) (by omega),aC (n:=((eR x++(b_ t.size++(t++r))).size:Int)-4-_) (by omega) (by omega),aP (by omega),aM,
  c4,aC (by omega) (by omega),s8,aC (by omega) (by omega),tE (by omega) (by omega) (by omega),ng,ng,Jd,lQ hk,c_ (by omega) (by omega),aO,Ic,
  show seq (eR x++(b_ t.size++t)) (aT t)=seq (aT t) (eR x++(b_ t.size++t)) by rw [Du,Du];exact decide_eq_decide.2 ⟨Eq.symm,Eq.symm⟩]
theorem Fq (s:ByteArray) (hs:s.size≤1099511627776):(∃ x t r,x<4294967296∧t.size≤200∧t.size+r.size≤1099511627776∧s=eR x++(b_ t.size++(t++r)))∨s.size<5∨(∃ x u,x<4294967296∧s=eR x++u∧1≤u.size∧rv 7 (nb u)=none) ∨
 (∃ x a u,x<4294967296∧a<562949953421312∧s=eR x++(b_ a++u)∧(200<a∨u.size<a)):=by
 rcases wz s with ⟨x,u,hx,rfl⟩ | h
 · rw [m_] at hs
   rcases jm u with ⟨a,v,ha,rfl⟩ | h
   · rw [aL] at hs
     by_cases c:200<a∨v.size<a
     · exact .inr (.inr (.inr ⟨x,a,v,hx,ha,rfl,c⟩))
     · left
       have e:=vQ v (n:=a) (by omega)
       have hz:(ByteArray.extract v 0 a).size=a:=by rw [← cj,nF,List.length_take,cj];omega
       refine ⟨x,ByteArray.extract v 0 a,ByteArray.extract v a v.size,hx,by omega,?_,by rw [hz,← e]⟩
       have:=congrArg ByteArray.size e
       rw [aL] at this
       omega
   · by_cases c:1≤u.size
     · exact .inr (.inr (.inl ⟨x,u,hx,rfl,c,h⟩))
     · exact .inr (.inl (by rw [m_];omega))
 · exact .inr (.inl (by omega))
theorem uv {k:Nat} (hk:2 ^ 50≤k) {s:ByteArray} (hs:s.size≤1099511627776) (h:s.size<5∨(∃ x u,x<4294967296∧s=eR x++u∧1≤u.size∧rv 7 (nb u)=none) ∨
 (∃ x a u,x<4294967296∧a<562949953421312∧s=eR x++(b_ a++u)∧(200<a∨u.size<a))):dU.f k s=some (⟨#[]⟩,(0,())):=by
 unfold dU.f dU.t
 rcases h with h | ⟨x,u,hx,rfl,hu,h⟩ | ⟨x,a,u,hx,ha,rfl,h⟩
 · by_cases c:s.size<4
   · rw [aN (by omega),aX]
   · have e:ByteArray.extract s 4 s.size=⟨#[]⟩:=kh (by rw [jo,List.drop_eq_nil_of_le (by rw [cj];omega)];rfl)
     rw [aP (by omega),aM,c_ (by omega) (by omega),e,mI hk rfl (by decide),aO]
     rfl
 · rw [m_] at hs
   rw [aP (by rw [m_];omega),aM,c_ (by omega) (by rw [m_];omega),yl,mI hk h (by omega),aO]
   rfl
 · have v1:=ag a
   have z1:(eR x++(b_ a++u)).size=4+((b_ a).size+u.size):=by rw [m_,aL]
   rw [aP (by omega),aM,c_ (by omega) (by omega),yl,nJ hk ha (by omega),aO]
   simp only [vz,aM]
   by_cases c:200<a
   · rw [aN (by omega),aX]
   · rw [aP (by omega),aM,aC (n:=((eR x++(b_ a++u)).size:Int)-4) (by omega) (by omega),aC (n:=((eR x++(b_ a++u)).size:Int)-4-_) (by omega) (by omega),aN (by omega),aX]
theorem ud {k:Nat} (hk:2 ^ 50≤k) {s:ByteArray} (hs:s.size≤1099511627776) (h:s.size<5∨(∃ x u,x<4294967296∧s=eR x++u∧1≤u.size∧rv 7 (nb u)=none) ∨
 (∃ x a u,x<4294967296∧a<562949953421312∧s=eR x++(b_ a++u)∧(200<a∨u.size<a))):dT.f k s=some (⟨#[]⟩,(0,())):=by
 unfold dT.f dT.t
 rcases h with h | ⟨x,u,hx,rfl,hu,h⟩ | ⟨x,a,u,hx,ha,rfl,h⟩
 · rw [aN (by omega),aX]
 · rw [m_] at hs
   rw [aP (by rw [m_];omega),aM,c_ (by omega) (by rw [m_];omega),yl,jS hk h,aO]
   rfl
 · have v1:=ag a
   have z1:(eR x++(b_ a++u)).size=4+((b_ a).size+u.size):=by rw [m_,aL]
   rw [aP (by omega),aM,c_ (by omega) (by omega),yl,cQ hk ha,aO]
   simp only [vz,aM]
   by_cases c:200<a
   · rw [aN (by omega),aX]
   · rw [aP (by omega),aM,aC (n:=((eR x++(b_ a++u)).size:Int)-4) (by omega) (by omega),aC (n:=((eR x++(b_ a++u)).size:Int)-4-_) (by omega) (by omega),aN (by omega),aX]
section
open Classical
noncomputable def iO (s:ByteArray):ByteArray × Int:=if h:∃ t r,t.size≤200∧s=aT t++r then (h.choose,((aT h.choose).size:Int)) else (⟨#[]⟩,0)
theorem mf {t:ByteArray} (r:ByteArray) (h:t.size≤200):iO (aT t++r)=(t,((aT t).size:Int)):=by
 have q:∃ u v,u.size≤200∧aT t++r=aT u++v:=⟨t,r,h,rfl⟩
 unfold iO
 rw [dif_pos q]
 obtain ⟨v,h1,h2⟩:=q.choose_spec
 have:=(ER h h1 h2).1
 rw [← this]
theorem oP (s:ByteArray):(∃ t r,t.size≤200∧s=aT t++r∧iO s=(t,((aT t).size:Int)))∨(iO s=(⟨#[]⟩,0)∧∀ t r,t.size≤200→s≠aT t++r):=by
 by_cases q:∃ t r,t.size≤200∧s=aT t++r
 · obtain ⟨t,r,h,rfl⟩:=q
   exact .inl ⟨t,r,h,rfl,mf r h⟩
 · right
   refine ⟨?_,fun t r h e=>q ⟨t,r,h,e⟩⟩
   unfold iO
   rw [dif_neg q]
end
theorem IP {k:Nat} {f:ByteArray→Option (ByteArray × Int × Unit)} (h1:∀ x t r,x<4294967296→t.size≤200→t.size+r.size≤1099511627776→f (eR x++(b_ t.size++(t++r)))=bif !seq (aT t) (eR x++(b_ t.size++t)) then some (⟨#[]⟩,(0,())) else some (t,(((4+(b_ t.size).size+t.size:Nat):Int),())))
 (h2:∀ s,s.size≤1099511627776→(s.size<5∨(∃ x u,x<4294967296∧s=eR x++u∧1≤u.size∧rv 7 (nb u)=none)∨(∃ x a u,x<4294967296∧a<562949953421312∧s=eR x++(b_ a++u)∧(200<a∨u.size<a)))→f s=some (⟨#[]⟩,(0,())))
 {s:ByteArray} (hs:s.size≤1099511627776):f s=some ((iO s).1,((iO s).2,())):=by
 rcases Fq s hs with ⟨x,t,r,hx,ht,hr,rfl⟩ | h
 · rw [h1 x t r hx ht hr]
   by_cases c:aT t=eR x++(b_ t.size++t)
   · have e:eR x++(b_ t.size++(t++r))=aT t++r:=by rw [c,af,af]
     rw [I9 c,e,mf r ht,c,m_,aL,Nat.add_assoc]
     rfl
   · rw [mH c]
     rcases oP (eR x++(b_ t.size++(t++r))) with ⟨t',r',ht',e,_⟩ | ⟨e,_⟩
     · exfalso
       obtain ⟨y,hy,f'⟩:=pE ht'
       rw [f',af,af] at e
       have h3:=qV e rfl
       obtain ⟨h4,h5⟩:=vj (by omega) (by omega) h3.2
       have h6:=qV h5 h4
       apply c
       rw [h6.1,f',h3.1]
     · rw [e];rfl
 · rw [h2 s hs h]
   rcases oP s with ⟨t',r',ht',e,_⟩ | ⟨e,_⟩
   · exfalso
     obtain ⟨y,hy,f'⟩:=pE ht'
     have hp:=je ht'
     rw [f',af,af] at e
     rcases h with h | ⟨x,u,hx,e2,hu,h⟩ | ⟨x,a,u,hx,ha,e2,h⟩
     · rw [e,m_,aL] at h
       have:=ag t'.size
       omega
     · rw [e2] at e
       rw [(qV e rfl).2,pa (by omega)] at h
       cases h
     · rw [e2] at e
       obtain ⟨h4,h5⟩:=vj ha (by omega) (qV e rfl).2
       rw [h5,h4,aL] at h
       omega
   · rw [e]
theorem lJ {k:Nat} (hk:2 ^ 50≤k) {s:ByteArray} (hs:s.size≤1099511627776):dU.f k s=some ((iO s).1,((iO s).2,())) :=
 IP (k:=k) (fun x t r _ ht hr=>wb hk ht hr) (fun s hs h=>uv hk hs h) hs
theorem lP {k:Nat} (hk:2 ^ 50≤k) {s:ByteArray} (hs:s.size≤1099511627776):dT.f k s=some ((iO s).1,((iO s).2,())) :=
 IP (k:=k) (fun x t r _ ht hr=>wH hk ht hr) (fun s hs h=>ud hk hs h) hs
theorem me (s:ByteArray):(iO s).1.size≤200∧((iO s).2=0∨5≤(iO s).2)∧(iO s).2≤s.size∧(iO s).2≤211:=by
 rcases oP s with ⟨t,r,h,rfl,e⟩ | ⟨e,_⟩
 · rw [e,aL]
   have:=je h
   have:=j9 t
   refine ⟨h,?_,?_,?_⟩ <;> simp only [] <;> omega
 · rw [e]
   refine ⟨by simp only [e0];omega,.inl rfl,by simp only [];omega,by simp only [];omega⟩
theorem Dk:iO ⟨#[]⟩=(⟨#[]⟩,0):=by
 rcases oP ⟨#[]⟩ with ⟨t,r,h,e,_⟩ | ⟨e,_⟩
 · have:=congrArg ByteArray.size e
   rw [aL,e0] at this
   have:=je h
   omega
 · exact e
noncomputable def kw (s:ByteArray):Nat→Int→List (Ty.den b9) × Int
 | 0,at_=>([],at_)
 | d+1,at_ =>
  if (iO (ByteArray.extract s at_.toNat s.size)).2=0 then ([],at_)
  else if (j5 (iO (ByteArray.extract s at_.toNat s.size)).1).2=false then ([],at_)
  else (((at_,((iO (ByteArray.extract s at_.toNat s.size)).2,((j5 (iO (ByteArray.extract s at_.toNat s.size)).1).1,()))):Ty.den b9)::(kw s d (at_+(iO (ByteArray.extract s at_.toNat s.size)).2)).1,
   (kw s d (at_+(iO (ByteArray.extract s at_.toNat s.size)).2)).2)
noncomputable def cW (s:ByteArray):List (Ty.den b9) × Int:=kw s (s.size+1) 0
theorem sV (s:ByteArray) (n:Nat):(ByteArray.extract s n s.size).size=s.size-n:=by rw [← cj,jo,List.length_drop,cj]
theorem IR {k:Nat} (hk:2 ^ 50≤k) {s:ByteArray} (hs:s.size≤1099511627776):∀ (d n:Nat) (i:Int) (out:List (Ty.den b9)),0≤i→i≤s.size→(s.size:Int)-i<d→d≤n→(out.length:Int)≤i →
 cX.l0 k n s i out=some (out++(kw s d i).1,((kw s d i).2,()))∧bN.l0 k n s i out=some (out++(kw s d i).1,((kw s d i).2,())):=by
 intro d
 induction d with
 | zero=>intro n i out h0 h1 h2;omega
 | succ d ih =>
  intro n i out h0 h1 h2 h3 h4
  obtain ⟨n,rfl⟩:∃ q,n=q+1:=⟨n-1,by omega⟩
  have hz:=sV s i.toNat
  have hu:=me (ByteArray.extract s i.toNat s.size)
  have e1:=lJ hk (s:=ByteArray.extract s i.toNat s.size) (by omega)
  have e2:=lP hk (s:=ByteArray.extract s i.toNat s.size) (by omega)
  have hnil:i=s.size→(iO (ByteArray.extract s i.toNat s.size)).2=0:=fun q=>by
   have:ByteArray.extract s i.toNat s.size=⟨#[]⟩:=kh (by rw [jo,List.drop_eq_nil_of_le (by rw [cj];omega)];rfl)
   rw [this,Dk]
  simp only [kw]
  generalize iO (ByteArray.extract s i.toNat s.size)=u at *
  have e3:=qF hk (s:=u.1) (by omega)
  have e4:=qE hk (s:=u.1) (by omega)
  generalize j5 u.1=r at *
  by_cases c:u.2=0
  · rw [if_pos c]
    have cb:(u.2==0)=true:=by rw [c];rfl
    simp only [List.append_nil]
    constructor
    · simp (disch:=omega) only [cX.l0,cX.b0,c_,e1,e3,aO,cb,aX]
    · by_cases q:i<s.size
      · simp (disch:=omega) only [bN.l0,bN.b0,aN,c_,e2,e4,aO,cb,aX]
      · simp (disch:=omega) only [bN.l0,bN.b0,aP,aM]
  · rw [if_neg c]
    have cb:(u.2==0)=false:=mJ c
    have hlt:i<s.size:=by
     rcases Int.lt_or_eq_of_le h1 with q | q
     · exact q
     · exact absurd (hnil q) c
    cases hr:r.2 with
    | false =>
     simp only [if_true,List.append_nil]
     constructor
     · simp (disch:=omega) only [cX.l0,cX.b0,c_,e1,e3,aO,cb,aX,aM,hr,tI]
     · simp (disch:=omega) only [bN.l0,bN.b0,aN,c_,e2,e4,aO,cb,aX,aM,hr,tI]
    | true =>
     rw [if_neg (by decide)]
     have hlen:out.length+1≤1099511627777:=by omega
     have ih:=ih n (i+u.2) (out++[(i,(u.2,(r.1,())))]) (by omega) (by omega) (by omega) (by omega) (by rw [xS];show ((out.length+1:Nat):Int)≤_;omega)
     simp only [sy,List.cons_append,List.nil_append] at ih
     constructor
     · simp (disch:=first | omega | decide) only [cX.l0,cX.b0,c_,e1,e3,aO,cb,aX,aM,hr,ft,ba,aC]
       exact ih.1
     · simp (disch:=first | omega | decide) only [bN.l0,bN.b0,aN,c_,e2,e4,aO,cb,aX,aM,hr,ft,ba,aC]
       exact ih.2
theorem pY {k:Nat} (hk:2 ^ 50≤k) {s:ByteArray} (hs:s.size≤1099511627775):cX.f k s=some ((cW s).1,((cW s).2,())) :=
 (IR hk (by omega) (s.size+1) k 0 [] (by omega) (by omega) (by omega) (by omega) (by simp)).1
theorem m8 {k:Nat} (hk:2 ^ 50≤k) {s:ByteArray} (hs:s.size≤1099511627775):bN.f k s=some ((cW s).1,((cW s).2,())) :=
 (IR hk (by omega) (s.size+1) k 0 [] (by omega) (by omega) (by omega) (by omega) (by simp)).2
theorem yZ (s:ByteArray):∀ (d:Nat) (i:Int),0≤i→i≤s.size→((kw s d i).1.length:Int)≤s.size-i∧i≤(kw s d i).2∧(kw s d i).2≤s.size
 | 0,i,h0,h1=>by simp only [kw,List.length_nil];omega
 | d+1,i,h0,h1=>by
  have hu:=me (ByteArray.extract s i.toNat s.size)
  have hz:=sV s i.toNat
  rw [kw]
  split
  · simp only [List.length_nil];omega
  · split
    · simp only [List.length_nil];omega
    · rename_i c1 c2
      have ih:=yZ s d (i+(iO (ByteArray.extract s i.toNat s.size)).2) (by omega) (by omega)
      simp only [lB]
      omega
theorem jW (s:ByteArray):(cW s).1.length≤s.size∧0≤(cW s).2∧(cW s).2≤s.size:=by
 have:=yZ s (s.size+1) 0 (by omega) (by omega)
 unfold cW
 omega
end Go.Proofs.YtohaanhjddohmaaGreatDoor.G
namespace Go.Proofs.YtohaanhjddohmaaGreatDoor.G
open Go.V
theorem Hw (d:Nat) {a:Nat} (h:a<128):(vl d a).length=1:=by
 cases d with
 | zero=>rfl
 | succ d=>unfold vl;rw [if_neg (by omega)];rfl
theorem Hz {a:Nat} (h:a<2097152):(vl 6 a).length≤3:=by
 unfold vl
 split
 · rw [lB]
   unfold vl
   split
   · rw [lB,Hw 4 (by omega)]
     omega
   · simp
 · simp
theorem rN {a:Int} (h0:0≤a) (h1:a≤100000):(gk a).size≤3:=by
 obtain ⟨n,rfl⟩:=Int.eq_ofNat_of_zero_le h0
 rw [dD (by omega),← qI (by omega)]
 exact Hz (by omega)
def dH:List Int→ByteArray
 | []=>⟨#[]⟩
 | x::l=>gk x++dH l
theorem uS:∀ (l:List Int),(∀ x ∈ l,0≤x∧x≤100000)→(dH l).size≤3*l.length
 | [],_=>Nat.le_refl _
 | x::l,h=>by
  have h1:=rN (h x (oE ..)).1 (h x (oE ..)).2
  have h2:=uS l fun y hy=>h y (qy _ hy)
  rw [dH,aL,lB]
  omega
theorem mh:∀ (l:List Int),(dH l).size≤7*l.length
 | []=>Nat.le_refl _
 | x::l=>by
  have h1:=ai x
  have h2:=mh l
  rw [dH,aL,lB]
  omega
def kr (v:Ty.den bE):ByteArray:=gk v.1++(gk (v.2.1.length:Int)++dH v.2.1)
def ae (v:Ty.den bE):ByteArray:=if d5 v=true then aT (kr v) else ⟨#[]⟩
theorem dW {nx:Int} {ids:List Int} (h:d5 (nx,(ids,()))=true):1≤nx∧nx≤100000∧1≤ids.length∧ids.length≤60∧∀ x ∈ ids,0≤x∧x≤100000:=by
 unfold d5 at h
 simp only [j6,decide_eq_true_eq] at h
 obtain ⟨h1,h2,h3⟩:=h
 have h1a:1≤nx:=h1.1
 have h1b:nx≤100000:=h1.2
 refine ⟨h1a,h1b,by omega,by omega,fun x hx=>?_⟩
 obtain ⟨p,hp⟩:=zV h3 hx
 unfold mr at hp
 rw [j6,decide_eq_true_eq] at hp
 have hw:aH (nx-1)=nx-1:=aC (by omega) (by omega)
 have h4:x≤aH (nx-1):=hp.1.2
 have h5:1≤x:=hp.1.1
 omega
theorem w_ {nx:Int} {ids:List Int} (h:d5 (nx,(ids,()))=true):(kr (nx,(ids,()))).size≤200:=by
 obtain ⟨h1,h2,h3,h4,h5⟩:=dW h
 have a:=rN (a:=nx) (by omega) h2
 have b:=rN (a:=(ids.length:Int)) (by omega) (by omega)
 have c:=uS ids h5
 unfold kr
 rw [aL,aL]
 simp only []
 omega
theorem kZ {k:Nat} (hk:2 ^ 50≤k) (v:Ty.den bE):cr.f k v=some (ae v,()):=by
 unfold cr.f cr.t ae
 rw [pi hk,aO]
 cases c:d5 v with
 | false=>rfl
 | true =>
  obtain ⟨h1,h2,h3,h4,h5⟩:=dW (nx:=v.1) (ids:=v.2.1) c
  have a:=ai v.1
  have b:=ai (v.2.1.length:Int)
  rw [ft,aM,gK hk,aO,gK hk,aO,if_pos rfl]
  simp only []
  rw [dL (by omega)]
  refine (dZ (L:=fun n i s=>cr.l0 k n s i v.1 v.2.1) (R:=fun r s=>some (aT (s++dH r),())) (Ty.dflt (.int .i64)) v.2.1 (fun i s=>(s.size:Int)≤14+7*i) (fun n s hs=>?_) (fun n i s x rest g0 g1 hx hr hs ih=>?_) (n:=k) (by omega) (by rw [aL];omega)).trans (by rw [af];rfl)
  · simp (disch:=omega) only [cr.l0,cr.b0,aP,aM,lQ hk,aO]
    rw [show dH []=⟨#[]⟩ from rfl,gG]
  · have hv:=ai x
    have ih:=ih (s++gk x) (by rw [aL];omega)
    simp (disch:=omega) only [cr.l0,cr.b0,aN g1,aX,aG,hx,gK hk,aO,dL,aC,ih]
    rw [af]
    rfl
noncomputable def fK (s:ByteArray):Ty.den bE × Bool:=o_ (fun v=>d5 v=true) ae (0,([],())) s
theorem A0 (s:ByteArray):0≤(D8 (rv 7 (nb s))).2.1∧(D8 (rv 7 (nb s))).2.1≤(s.size:Int):=by
 cases h:rv 7 (nb s) with
 | none=>exact ⟨Int.le_refl _,by show (0:Int)≤_;omega⟩
 | some p =>
  obtain ⟨a,n⟩:=p
  obtain ⟨h1,h2,h3,h4,h5,h6⟩:=p5 6 (nb s) a n (rq s) h
  rw [cj] at h4
  exact ⟨by show (0:Int)≤(n:Int);omega,by show (n:Int)≤_;omega⟩
def H_:Option (Ty.den bE × Bool × Unit):=some ((0,([],())),(false,()))
theorem zP {k:Nat} (hk:2 ^ 50≤k) {s t:ByteArray} (ht:t.size≤200) (c nx:Int):∀ (d n:Nat) (pos j:Int) (out:List Int),60-j=d→d<n→0≤pos→pos≤t.size→0≤j→(out.length:Int)≤j →
 ∃ o,bI.l0 k n s t c pos j [] 0 out nx=bif !seq (ae (nx,(o,()))) s then H_ else some ((nx,(o,())),(true,())):=by
 intro d
 induction d with
 | zero =>
  intro n pos j out hj hn h0 h1 h2 h3
  obtain ⟨n,rfl⟩:∃ q,n=q+1:=⟨n-1,by omega⟩
  refine ⟨out,?_⟩
  simp only [bI.l0,bI.b0]
  rw [aP (show ¬ j<60 by omega),aM,kZ hk,aO]
  cases decide (j<c) <;> cases seq (ae (nx,(out,()))) s <;> rfl
 | succ d ih =>
  intro n pos j out hj hn h0 h1 h2 h3
  obtain ⟨n,rfl⟩:∃ q,n=q+1:=⟨n-1,by omega⟩
  by_cases c1:j<c
  · have hr:=A0 (ByteArray.extract t pos.toNat t.size)
    have he:(ByteArray.extract t pos.toNat t.size).size=t.size-pos.toNat:=by rw [← cj,jo,List.length_drop,cj]
    rw [he] at hr
    obtain ⟨o,ho⟩:=ih n (pos+(D8 (rv 7 (nb (ByteArray.extract t pos.toNat t.size)))).2.1) (j+1) (out++[(D8 (rv 7 (nb (ByteArray.extract t pos.toNat t.size)))).1]) (by omega) (by omega) (by omega) (by omega) (by omega) (by rw [cB];omega)
    refine ⟨o,?_⟩
    simp only [bI.l0,bI.b0]
    rw [aN c1,aN (show j<60 by omega),aX,aX,c_ h0 h1,fO hk,aO,ba (by omega) (by decide),aC (n:=pos+_) (by omega) (by omega),aC (n:=j+1) (by omega) (by omega)]
    exact ho
  · refine ⟨out,?_⟩
    simp only [bI.l0,bI.b0]
    rw [aP c1,aM,kZ hk,aO]
    cases seq (ae (nx,(out,()))) s <;> rfl
theorem oF {x:Int} (h0:0≤x) (h1:x≤100000):∃ n:Nat,n<562949953421312∧x=(n:Int)∧gk x=b_ n:=by
 obtain ⟨n,rfl⟩:=Int.eq_ofNat_of_zero_le h0
 exact ⟨n,by omega,rfl,dD (by omega)⟩
theorem Ak {k:Nat} (hk:2 ^ 50≤k) {s:ByteArray} (nx:Int):∀ (ids:List Int) (pre:ByteArray) (n:Nat) (j c:Int) (out:List Int),(∀ x ∈ ids,0≤x∧x≤100000)→ids.length<n→0≤j→c=j+ids.length→c≤60→pre.size+7*ids.length≤1000→(out.length:Int)≤j →
 bI.l0 k n s (pre++dH ids) c (pre.size:Int) j [] 0 out nx=bif !seq (ae (nx,(out++ids,()))) s then H_ else some ((nx,(out++ids,())),(true,())):=by
 intro ids
 induction ids with
 | nil =>
  intro pre n j c out h hn h0 hc h1 hp ho
  obtain ⟨n,rfl⟩:∃ q,n=q+1:=⟨n-1,by omega⟩
  rw [List.length_nil] at hc
  simp only [bI.l0,bI.b0]
  rw [aP (show ¬ j<c by omega),aM,kZ hk,aO,List.append_nil]
  cases seq (ae (nx,(out,()))) s <;> rfl
 | cons x ids ih =>
  intro pre n j c out h hn h0 hc h1 hp ho
  rw [lB] at hn hc
  obtain ⟨n,rfl⟩:∃ q,n=q+1:=⟨n-1,by omega⟩
  obtain ⟨a,ha,hx,hv⟩:=oF (h x (oE ..)).1 (h x (oE ..)).2
  have hvs:=ag a
  have hts:=mh (x::ids)
  rw [lB] at hts
  have ih:=ih (pre++b_ a) n (j+1) c (out++[x]) (fun y hy=>h y (qy _ hy)) (by omega) (by omega) (by omega) h1 ?_ (by rw [cB];omega)
  · have he:ByteArray.extract (pre++dH (x::ids)) pre.size (pre++dH (x::ids)).size=b_ a++dH ids:=by rw [e9,dH,hv]
    simp only [bI.l0,bI.b0]
    rw [aN (show j<c by omega),aN (show j<60 by omega),aX,aX,c_ (by omega) (by rw [aL];omega),Int.toNat_natCast,he,fO hk,aO,pa ha]
    simp only [D8]
    rw [ba (by omega) (by decide),aC (by omega) (by omega),aC (by omega) (by omega),← hx,show (pre.size:Int)+((b_ a).size:Int)=((pre++b_ a).size:Int) by rw [aL];omega]
    rw [show pre++dH (x::ids)=pre++b_ a++dH ids by rw [dH,hv,af],ih,sy]
    rfl
  · rw [aL]
    rw [lB] at hp
    omega
theorem xP {k:Nat} (hk:2 ^ 50≤k) {nx:Int} {ids:List Int} (h:d5 (nx,(ids,()))=true):bI.f k (ae (nx,(ids,())))=some ((nx,(ids,())),(true,())):=by
 obtain ⟨g1,g2,g3,g4,g5⟩:=dW h
 have hz:=w_ h
 have hf:=je hz
 have hfs:=j9 (kr (nx,(ids,())))
 have hu:=mf ⟨#[]⟩ hz
 rw [gG] at hu
 have e:ae (nx,(ids,()))=aT (kr (nx,(ids,()))):=if_pos h
 obtain ⟨a,ha,hx,hv⟩:=oF (x:=nx) (by omega) g2
 obtain ⟨b,hb,hy,hw⟩:=oF (x:=(ids.length:Int)) (by omega) (by omega)
 have ht:kr (nx,(ids,()))=b_ a++b_ b++dH ids:=by
  unfold kr
  rw [af,← hv,← hw]
 have hva:=ag a
 have hvb:=ag b
 have hl:=Ak hk (s:=ae (nx,(ids,()))) nx ids (b_ a++b_ b) k 0 (b:Int) [] g5 (by omega) (by omega) (by omega) (by omega) (by rw [aL];omega) (by simp)
 rw [← ht,List.nil_append,cY] at hl
 unfold bI.f bI.t
 rw [lP hk (by rw [e];omega),aO]
 have hu1:iO (ae (nx,(ids,())))=(kr (nx,(ids,())),((ae (nx,(ids,()))).size:Int)):=by rw [e];exact hu
 have r1:rv 7 (nb (kr (nx,(ids,()))))=some (a,(b_ a).size):=by rw [ht,af];exact pa ha _
 have r2:rv 7 (nb (ByteArray.extract (kr (nx,(ids,()))) (b_ a).size (kr (nx,(ids,()))).size))=some (b,(b_ b).size):=by rw [ht,af,e9];exact pa hb _
 have hsz:(kr (nx,(ids,()))).size=(b_ a).size+(b_ b).size+(dH ids).size:=by rw [ht,aL,aL]
 rw [hu1]
 simp only []
 rw [fO hk,aO,r1]
 simp only [D8]
 rw [show (((ae (nx,(ids,()))).size:Int) != ((ae (nx,(ids,()))).size:Int))=false by simp,aM,
  show (((ae (nx,(ids,()))).size:Int)==0)=false from mJ (by rw [e];omega),aM,show (((b_ a).size:Int)==0)=false from mJ (by omega),aM,
  c_ (by omega) (by omega),Int.toNat_natCast,fO hk,aO,r2]
 simp only [D8]
 rw [aC (by omega) (by omega),show ((b_ a).size:Int)+((b_ b).size:Int)=((b_ a++b_ b).size:Int) by rw [aL];omega,← hx]
 exact hl
theorem ux {k:Nat} (hk:2 ^ 50≤k) {s:ByteArray} (hs:s.size≤1099511627776):bI.f k s=some ((fK s).1,((fK s).2,())):=by
 refine mW (fun v h1 h2=>?_) ?_
 · subst h2
   exact xP hk (nx:=v.1) (ids:=v.2.1) h1
 · unfold bI.f bI.t
   rw [lP hk hs,aO]
   have hu:=me s
   generalize iO s=u at hu
   obtain ⟨t,m⟩:=u
   simp only [] at hu ⊢
   rw [fO hk,aO]
   have h1:=A0 t
   generalize D8 (rv 7 (nb t))=q at h1
   obtain ⟨nx,p,_⟩:=q
   simp only [] at h1 ⊢
   by_cases c1:m=(s.size:Int)
   case neg=>rw [show (m != (s.size:Int))=true from bne_iff_ne.2 c1];exact .inr rfl
   rw [show (m != (s.size:Int))=false by rw [c1];simp,aM]
   by_cases c2:m=0
   case pos=>rw [show (m==0)=true from beq_iff_eq.2 c2];exact .inr rfl
   rw [show (m==0)=false from mJ c2,aM]
   by_cases c3:p=0
   case pos=>rw [show (p==0)=true from beq_iff_eq.2 c3];exact .inr rfl
   rw [show (p==0)=false from mJ c3,aM,c_ h1.1 h1.2,fO hk,aO]
   have h2:=A0 (ByteArray.extract t p.toNat t.size)
   have he:(ByteArray.extract t p.toNat t.size).size=t.size-p.toNat:=by rw [← cj,jo,List.length_drop,cj]
   rw [he] at h2
   rw [aC (by omega) (by omega)]
   obtain ⟨o,ho⟩:=zP hk (s:=s) hu.1 (D8 (rv 7 (nb (ByteArray.extract t p.toNat t.size)))).1 nx 60 k (p+(D8 (rv 7 (nb (ByteArray.extract t p.toNat t.size)))).2.1) 0 [] (by omega) (by omega) (by omega) (by omega) (by omega) (by simp)
   rw [ho]
   cases c4:seq (ae (nx,(o,()))) s with
   | false=>exact .inr rfl
   | true =>
    refine .inl ⟨(nx,(o,())),?_,dS.1 c4,rfl⟩
    cases c5:d5 (nx,(o,())) with
    | true=>rfl
    | false =>
     have:=dS.1 c4
     unfold ae at this
     rw [c5,if_neg (by decide)] at this
     rw [← this] at c1
     exact absurd c1 c2
def IM (s:ByteArray) (m a:Int) (out:List Int) (r:ByteArray) (bad:Bool):Option (Ty.den bE × Bool × Unit) :=
 bif m==0 then H_ else bif m != (s.size:Int) then H_ else bif bad then H_ else bif !seq r ⟨#[]⟩ then H_ else bif !d5 (a,(out,())) then H_ else some ((a,(out,())),(true,()))
theorem vA {k:Nat} (hk:2 ^ 50≤k) {s r:ByteArray} {m a:Int} {out:List Int} {bad:Bool} (ho:out.length≤1099511627776) :
 @Eq (Option (Ty.den bE × Bool × Unit)) (bif (m==0) then (some ((0,([],())),(false,()))) else (bif (m != (ByteArray.size s:Int)) then (some ((0,([],())),(false,()))) else (bif bad then (some ((0,([],())),(false,()))) else (bif (!(seq r (⟨#[]⟩:ByteArray))) then (some ((0,([],())),(false,()))) else (Option.bind (cU.f k (a,(out,()))) fun r5=>(bif (!r5.1) then (some ((0,([],())),(false,()))) else (some ((a,(out,())),(true,()))))))))) (IM s m a out r bad):=by
 rw [py hk (v:=(a,(out,()))) ho]
 rfl
theorem B3 {k:Nat} (hk:2 ^ 50≤k) {s:ByteArray} (m a:Int):∀ (ids:List Int) (n:Nat) (j c:Int) (out:List Int),(∀ x ∈ ids,0≤x∧x≤100000)→ids.length<n→0≤j→c=j+ids.length→c≤60→(out.length:Int)≤j →
 aj.l0 k n s m c j [] 0 (dH ids) false out a=IM s m a (out++ids) ⟨#[]⟩ false:=by
 intro ids
 induction ids with
 | nil =>
  intro n j c out h hn h0 hc h1 ho
  obtain ⟨n,rfl⟩:∃ q,n=q+1:=⟨n-1,by omega⟩
  rw [List.length_nil] at hc
  simp only [aj.l0,aj.b0]
  rw [aP (show ¬ j<c by omega),aM,List.append_nil]
  exact vA hk (bad:=false) (by omega)
 | cons x ids ih =>
  intro n j c out h hn h0 hc h1 ho
  rw [lB] at hn hc
  obtain ⟨n,rfl⟩:∃ q,n=q+1:=⟨n-1,by omega⟩
  obtain ⟨b,hb,hx,hv⟩:=oF (h x (oE ..)).1 (h x (oE ..)).2
  have hts:=mh ids
  have ih:=ih n (j+1) c (out++[x]) (fun y hy=>h y (qy _ hy)) (by omega) (by omega) (by omega) h1 (by rw [cB];omega)
  simp only [aj.l0,aj.b0]
  rw [aN (show j<c by omega),aX,tI,aX,show dH (x::ids)=b_ b++dH ids by rw [dH,hv],gR hk hb (by omega),aO]
  simp only []
  rw [ba (by omega) (by decide),aC (by omega) (by omega),← hx,ih,sy]
  rfl
theorem n5 {k:Nat} (hk:2 ^ 50≤k) {nx:Int} {ids:List Int} (h:d5 (nx,(ids,()))=true):aj.f k (ae (nx,(ids,())))=some ((nx,(ids,())),(true,())):=by
 obtain ⟨g1,g2,g3,g4,g5⟩:=dW h
 have hz:=w_ h
 have hf:=je hz
 have hfs:=j9 (kr (nx,(ids,())))
 have hu:=mf ⟨#[]⟩ hz
 rw [gG] at hu
 have e:ae (nx,(ids,()))=aT (kr (nx,(ids,()))):=if_pos h
 obtain ⟨a,ha,hx,hv⟩:=oF (x:=nx) (by omega) g2
 obtain ⟨b,hb,hy,hw⟩:=oF (x:=(ids.length:Int)) (by omega) (by omega)
 have ht:kr (nx,(ids,()))=b_ a++(b_ b++dH ids):=by
  unfold kr
  rw [← hv,← hw]
 have hvs:=mh ids
 have hvb:=ag b
 have hl:=B3 hk (s:=ae (nx,(ids,()))) ((ae (nx,(ids,()))).size:Int) nx ids k 0 (b:Int) [] g5 (by omega) (by omega) (by omega) (by omega) (by simp)
 have hu1:iO (ae (nx,(ids,())))=(kr (nx,(ids,())),((ae (nx,(ids,()))).size:Int)):=by rw [e];exact hu
 unfold aj.f aj.t
 rw [lJ hk (by rw [e];omega),aO,hu1]
 simp only []
 rw [ht,gR hk ha (by rw [aL];omega),aO]
 simp only []
 rw [gR hk hb (by omega),aO]
 simp only []
 rw [← hx,hl,List.nil_append]
 unfold IM
 rw [show (((ae (nx,(ids,()))).size:Int)==0)=false from mJ (by rw [e];omega),show (((ae (nx,(ids,()))).size:Int) != ((ae (nx,(ids,()))).size:Int))=false by simp,cY,h]
 rfl
theorem AR {k:Nat} (hk:2 ^ 50≤k) {s:ByteArray} (m a c:Int):∀ (n:Nat) (rest:ByteArray) (j:Int) (out:List Int),rest.size+2≤n→0≤j→j≤c→c<562949953421312→out.length+rest.size≤1000000 →
 (∃ xs r,rest=dH xs++r∧(xs.length:Int)=c-j∧aj.l0 k n s m c j [] 0 rest false out a=IM s m a (out++xs) r false)∨(∃ o r,aj.l0 k n s m c j [] 0 rest false out a=IM s m a o r true):=by
 intro n
 induction n with
 | zero=>intro rest j out h1;omega
 | succ n ih =>
  intro rest j out h1 h2 h3 h4 h5
  by_cases c1:j<c
  · rcases jm rest with ⟨b,t,hb,rfl⟩ | hbad
    · have hvb:=ag b
      rw [aL] at h1 h5
      have e:aj.l0 k (n+1) s m c j [] 0 (b_ b++t) false out a=aj.l0 k n s m c (j+1) [] 0 t false (out++[(b:Int)]) a:=by
       simp only [aj.l0,aj.b0]
       rw [aN c1,aX,tI,aX,gR hk hb (by omega),aO]
       simp only []
       rw [ba (by omega) (by decide),aC (by omega) (by omega)]
      rw [e]
      rcases ih t (j+1) (out++[(b:Int)]) (by omega) (by omega) (by omega) h4 (by rw [cB];omega) with ⟨xs,r,g1,g2,g3⟩ | g
      · refine .inl ⟨(b:Int)::xs,r,?_,by rw [lB];omega,?_⟩
        · rw [dH,dD hb,g1,af]
        · rw [g3,sy];rfl
      · exact .inr g
    · refine .inr ?_
      obtain ⟨n,rfl⟩:∃ q,n=q+1:=⟨n-1,by omega⟩
      refine ⟨out++[0],rest,?_⟩
      simp only [aj.l0,aj.b0]
      rw [aN c1,aX,tI,aX,lr hk hbad (by omega),aO]
      simp only []
      rw [ba (by omega) (by decide),aC (by omega) (by omega),ft,aM]
      rw [vA hk (bad:=true) (by rw [cB];omega)]
      cases decide (j+1<c) <;> rfl
  · refine .inl ⟨[],rest,by rw [dH,mT],by rw [List.length_nil];omega,?_⟩
    simp only [aj.l0,aj.b0]
    rw [aP c1,aM,List.append_nil]
    exact vA hk (bad:=false) (by omega)
theorem E7 (s:ByteArray) (m a:Int) (o:List Int) (r:ByteArray):IM s m a o r true=H_:=by
 unfold IM
 cases m==0 <;> cases m != (s.size:Int) <;> rfl
theorem si {k:Nat} (hk:2 ^ 50≤k) (s:ByteArray) (m a c:Int) (r:ByteArray):aj.l0 k k s m c 0 [] 0 r true [] a=H_:=by
 obtain ⟨n,hn⟩:∃ q,k=q+1:=⟨k-1,by omega⟩
 have e:aj.l0 k (n+1) s m c 0 [] 0 r true [] a=H_:=by
  simp only [aj.l0,aj.b0]
  rw [ft,aM,vA hk (bad:=true) (by simp),E7]
  cases decide (0<c) <;> rfl
 rw [← hn] at e
 exact e
theorem uq {k:Nat} (hk:2 ^ 50≤k) {s:ByteArray} (hs:s.size≤1099511627776):aj.f k s=some ((fK s).1,((fK s).2,())):=by
 refine mW (fun v h1 h2=>?_) ?_
 · subst h2
   exact n5 hk (nx:=v.1) (ids:=v.2.1) h1
 · unfold aj.f aj.t
   rw [lJ hk hs,aO]
   have hu:=me s
   have hc:=oP s
   generalize iO s=u at hu hc
   obtain ⟨t,m⟩:=u
   simp only [] at hu ⊢
   rcases jm t with ⟨a,t1,ha,e1⟩ | hb
   case inr =>
    rw [lr hk hb (by omega),aO]
    simp only []
    rw [EI hk (by omega),aO]
    simp only []
    rw [si hk]
    exact .inr rfl
   have z1:t.size=(b_ a).size+t1.size:=by rw [e1,aL]
   rw [show aZ.f k (t,(false,()))=some ((t1,(false,())),((a:Int),())) by rw [e1];exact gR hk ha (by omega),aO]
   simp only []
   rcases jm t1 with ⟨c,t2,hcl,e2⟩ | hb
   case inr =>
    rw [lr hk hb (by omega),aO]
    simp only []
    rw [si hk]
    exact .inr rfl
   have z2:t1.size=(b_ c).size+t2.size:=by rw [e2,aL]
   rw [show aZ.f k (t1,(false,()))=some ((t2,(false,())),((c:Int),())) by rw [e2];exact gR hk hcl (by omega),aO]
   simp only []
   rcases AR hk (s:=s) m (a:Int) (c:Int) k t2 0 [] (by omega) (by omega) (by omega) (by omega) (by rw [List.length_nil];omega) with ⟨xs,r,g1,g2,g3⟩ | ⟨o,r,g⟩
   case inr=>rw [g,E7];exact .inr rfl
   rw [g3,List.nil_append]
   unfold IM
   by_cases c2:m=0
   case pos=>rw [show (m==0)=true from beq_iff_eq.2 c2];exact .inr rfl
   rw [show (m==0)=false from mJ c2,aM]
   by_cases c1:m=(s.size:Int)
   case neg=>rw [show (m != (s.size:Int))=true from bne_iff_ne.2 c1];exact .inr rfl
   rw [show (m != (s.size:Int))=false by rw [c1];simp,aM,aM]
   cases c3:seq r ⟨#[]⟩ with
   | false=>exact .inr rfl
   | true =>
    rw [ft,aM]
    cases c4:d5 ((a:Int),(xs,())) with
    | false=>exact .inr rfl
    | true =>
     refine .inl ⟨((a:Int),(xs,())),c4,?_,rfl⟩
     have hr:=dS.1 c3
     subst hr
     rw [gG] at g1
     rcases hc with ⟨t',r',h1,h2,h3⟩ | ⟨h1,_⟩
     · obtain ⟨rfl,hm⟩:=Prod.mk.inj h3
       have hr':r'=⟨#[]⟩:=by
        have hsz:=congrArg ByteArray.size h2
        rw [aL] at hsz
        have:r'.size=0:=by omega
        exact kh (by
         have hn:=cj r'
         rw [this] at hn
         rw [List.length_eq_zero_iff.1 hn]
         rfl)
       rw [h2,hr',gG]
       show ae ((a:Int),(xs,()))=aT t
       rw [show ae ((a:Int),(xs,()))=aT (kr ((a:Int),(xs,()))) from if_pos c4]
       congr 1
       rw [e1,e2,g1]
       unfold kr
       simp only []
       rw [dD ha,show (xs.length:Int)=(c:Int) by omega,dD hcl]
     · exact absurd (Prod.mk.inj h1).2 c2
end Go.Proofs.YtohaanhjddohmaaGreatDoor.G
namespace Go.V
def JW (n:Int):Prop := -999999999≤n∧n≤999999999
def dg:List Nat→Nat→Nat→Nat × Nat
 | [],a,c=>(a,c)
 | b::l,a,c=>if 48≤b∧b≤57 then dg l (a*10+(b-48)) (c+1) else dg l a c
theorem tK:∀ (l:List Nat) (a c:Nat),(∀ b ∈ l,48≤b∧b≤57)→dg l a c=(oL l a,c+l.length)
 | [],a,c,_=>rfl
 | b::l,a,c,h=>by
  rw [dg,if_pos (h b (oE ..)),tK l _ _ fun x hx=>h x (qy _ hx),oL,lB]
  congr 1
  omega
theorem vS:∀ (l:List Nat) (a c:Nat),a+1≤10 ^ c→(dg l a c).1+1≤10 ^ (dg l a c).2
 | [],a,c,h=>h
 | b::l,a,c,h=>by
  unfold dg
  split
  · rename_i q
    exact vS l _ _ (by rw [Nat.pow_succ];omega)
  · exact vS l _ _ h
theorem Aq (u:Nat):∀ b ∈ (Lib.decDigits u).map UInt8.toNat,48≤b∧b≤57:=by
 intro b hb
 obtain ⟨x,hx,rfl⟩:=List.mem_map.1 hb
 exact jO u x hx
def ID (s:ByteArray) (a:Nat):Int:=bif decide ((s.size:Int) > 0)&&(dr s 0==45) then -(a:Int) else (a:Int)
theorem IF {s:ByteArray} (h:0<s.size):dr s 0=(((nb s).getD 0 0:Nat):Int):=vr (i:=0) h
theorem HT {n:Int}:ID (fb n) n.natAbs=n:=by
 have hb:=p8 n
 have hl:=cj (fb n)
 unfold ID
 by_cases c:n<0
 · rw [if_pos c] at hb
   rw [hb,lB] at hl
   rw [aN (by omega),IF (by omega),hb]
   show (bif true&&(((45:Nat):Int)==45) then _ else _)=n
   show -((n.natAbs:Nat):Int)=n
   omega
 · rw [if_neg c] at hb
   have:(dr (fb n) 0==45)=false:=by
    cases q:Lib.decDigits n.toNat with
    | nil=>exact absurd q (mY _)
    | cons x r =>
     have hx:=jO n.toNat x (by rw [q];exact oE ..)
     rw [q,List.map_cons] at hb
     rw [hb,lB] at hl
     rw [IF (by omega),hb]
     refine mJ ?_
     show ((x.toNat:Nat):Int)≠45
     omega
   rw [this,Bool.and_false,aM]
   omega
theorem I4 {n:Int} (h:JW n):(fb n).size≤10:=FH (by have:=h.1;omega) (by have:=h.2;omega)
theorem JI {n:Int} (h:JW n):∃ c,dg (nb (fb n)) 0 0=(n.natAbs,c)∧c≤9:=by
 obtain ⟨h0,h1⟩:=h
 rw [p8]
 by_cases c:n<0
 · rw [if_pos c]
   refine ⟨(Lib.decDigits n.natAbs).length,?_,gX 8 _ (by rw [show (10:Nat) ^ (8+1)=1000000000 by decide];omega)⟩
   rw [dg,if_neg (by omega),tK _ _ _ (Aq _),oU,List.length_map,Nat.zero_add]
 · rw [if_neg c]
   refine ⟨(Lib.decDigits n.toNat).length,?_,gX 8 _ (by rw [show (10:Nat) ^ (8+1)=1000000000 by decide];omega)⟩
   rw [tK _ _ _ (Aq _),oU,List.length_map,Nat.zero_add,show n.toNat=n.natAbs by omega]
theorem Ap {c:Nat} (h:c≤11):10 ^ c≤100000000000:=Nat.le_trans (Nat.pow_le_pow_right (by decide) h) (by decide)
theorem HE {c:Nat} (h:c≤9):10 ^ c≤1000000000:=Nat.le_trans (Nat.pow_le_pow_right (by decide) h) (by decide)
end Go.V
namespace Go.Proofs.YtohaanhjddohmaaGreatDoor.G
open Go.V
noncomputable def dj (s:ByteArray):Int × Bool:=o_ JW fb 0 s
def F9 (s:ByteArray) (q:Nat × Nat):Option (Int × Bool × Unit) :=
 bif decide ((q.2:Int) > 9)||(decide ((s.size:Int) > 10)||!seq (fb (ID s q.1)) s) then some (0,(false,())) else some (ID s q.1,(true,()))
theorem Ix {k:Nat} (hk:2 ^ 50≤k) (s:ByteArray) {q:Nat × Nat} (hq:q.1≤1000000000000) :
 (bif (decide ((ByteArray.size s:Int) > 0)) then (bi 0 (ByteArray.size s:Int) (bif ((dr s 0)==45) then (bif (decide ((q.2:Int) > 9)) then (some (0,(false,()))) else (bif (decide ((ByteArray.size s:Int) > 10)) then (some (0,(false,()))) else (Option.bind (dO.f k (aH (0-(q.1:Int)))) fun r1=>(bif (!(seq r1.1 s)) then (some (0,(false,()))) else (some ((aH (0-(q.1:Int))),(true,()))))))) else
  (bif (decide ((q.2:Int) > 9)) then (some (0,(false,()))) else (bif (decide ((ByteArray.size s:Int) > 10)) then (some (0,(false,()))) else (Option.bind (dO.f k (q.1:Int)) fun r2=>(bif (!(seq r2.1 s)) then (some (0,(false,()))) else (some ((q.1:Int),(true,())))))))))
 else (bif (decide ((q.2:Int) > 9)) then (some (0,(false,()))) else (bif (decide ((ByteArray.size s:Int) > 10)) then (some (0,(false,()))) else (Option.bind (dO.f k (q.1:Int)) fun r3=>(bif (!(seq r3.1 s)) then (some (0,(false,()))) else (some ((q.1:Int),(true,()))))))))=F9 s q:=by
 have hn:aH (0-(q.1:Int)) = -(q.1:Int):=by rw [aC (by omega) (by omega)];omega
 rw [hn,mm hk (n:=(q.1:Int)) (by omega) (by omega),mm hk (n := -(q.1:Int)) (by omega) (by omega)]
 simp only [aO]
 unfold F9 ID
 by_cases c0:(s.size:Int) > 0
 · rw [aN c0,aX,aG (by omega) (by omega),Bool.true_and]
   cases dr s 0==45 <;> cases decide ((q.2:Int) > 9) <;> cases decide ((s.size:Int) > 10)
   all_goals simp only [aX,aM,Bool.true_or,Bool.false_or]
   all_goals first | rfl | (cases seq (fb (q.1:Int)) s <;> rfl) | (cases seq (fb (-(q.1:Int))) s <;> rfl)
 · rw [aP c0,aM,Bool.false_and,aM]
   cases decide ((q.2:Int) > 9) <;> cases decide ((s.size:Int) > 10)
   all_goals simp only [aX,aM,Bool.true_or,Bool.false_or]
   all_goals first | rfl | (cases seq (fb (q.1:Int)) s <;> rfl)
theorem uz {k:Nat} (hk:2 ^ 50≤k) {s:ByteArray} (hs:s.size≤1099511627776):eO.f k s=F9 s (dg ((nb s).take 11) 0 0):=by
 unfold eO.f eO.t
 have hn:=cj s
 have hl:((nb s).take 11).length=min 11 s.size:=by rw [List.length_take,hn]
 refine dZ (L:=fun n i (q:Nat × Nat)=>eO.l0 k n s (q.1:Int) (q.2:Int) i) (R:=fun r q=>F9 s (dg r q.1 q.2)) 0 ((nb s).take 11) (fun i q=>q.1+1≤10 ^ q.2∧(q.2:Int)≤i) (fun n q hq=>?_) (fun n i q x rest h0 h1 hx hr hq ih=>?_) (n:=k) (s:=(0,0)) (by omega) ⟨by decide,by decide⟩
 · obtain ⟨g1,g2⟩:=hq
   have hp:=Ap (c:=q.2) (by omega)
   rw [show dg [] q.1 q.2=q from rfl]
   refine Eq.trans ?_ (Ix hk s (q:=q) (by omega))
   simp only [eO.l0,eO.b0]
   rcases Nat.lt_or_ge 11 s.size with c | c
   · rw [hl,Nat.min_eq_left (by omega),aN (show ((11:Nat):Int)<(s.size:Int) by omega),aP (show ¬ ((11:Nat):Int)<11 by omega)]
     rfl
   · rw [hl,Nat.min_eq_right c,aP (show ¬ (s.size:Int)<(s.size:Int) by omega)]
     rfl
 · obtain ⟨g1,g2⟩:=hq
   have hp:=Ap (c:=q.2) (by omega)
   rw [hl] at h1
   have hi:i<11:=by omega
   have hsz:i<(s.size:Int):=by omega
   have hx':(nb s).getD i.toNat 0=x:=by rw [← hx,kJ (by omega)]
   have hb:=zf (s:=s) (x:=x) h0 (by rw [hn];exact hsz) hx'
   have hx256:x<256:=by rw [← hx'];exact ia s _
   simp only [eO.l0,eO.b0]
   rw [aN hsz,aN hi,aX,aX,aG h0 hsz,hb]
   have iN:=ih q ⟨g1,by omega⟩
   by_cases c1:48≤x
   · rw [aN (show (x:Int)≥48 by omega),aX]
     by_cases c2:x≤57
     · rw [aG h0 hsz,aN (show (x:Int)≤57 by omega),aX,aG h0 hsz]
       have iY:=ih (q.1*10+(x-48),q.2+1) ⟨by rw [Nat.pow_succ];omega,by simp only [];omega⟩
       rw [o9 (n:=(x:Int)-48) (by omega) (by omega),aC (n:=(x:Int)-48) (by omega) (by omega),aC (n:=(q.1:Int)*10) (by omega) (by omega),aC (by omega) (by omega),aC (n:=(q.2:Int)+1) (by omega) (by omega),aC (n:=i+1) (by omega) (by omega)]
       rw [show dg (x::rest) q.1 q.2=dg rest (q.1*10+(x-48)) (q.2+1) from if_pos ⟨c1,c2⟩]
       rw [show (q.1:Int)*10+((x:Int)-48)=((q.1*10+(x-48):Nat):Int) by omega,show (q.2:Int)+1=((q.2+1:Nat):Int) by omega]
       exact iY
     · rw [aG h0 hsz,aP (show ¬ (x:Int)≤57 by omega),aM,aC (n:=i+1) (by omega) (by omega),show dg (x::rest) q.1 q.2=dg rest q.1 q.2 from if_neg (fun h=>c2 h.2)]
       exact iN
   · rw [aP (show ¬ (x:Int)≥48 by omega),aM,aC (n:=i+1) (by omega) (by omega),show dg (x::rest) q.1 q.2=dg rest q.1 q.2 from if_neg (fun h=>c1 h.1)]
     exact iN
theorem xK {k:Nat} (hk:2 ^ 50≤k) {s:ByteArray} (hs:s.size≤1099511627776):eO.f k s=some ((dj s).1,((dj s).2,())):=by
 rw [uz hk hs]
 refine mW (fun n h1 h2=>?_) ?_
 · subst h2
   have hz:=I4 h1
   obtain ⟨c,e,hc⟩:=JI h1
   rw [List.take_of_length_le (by rw [cj];omega),e]
   unfold F9
   simp only []
   rw [aP (by omega),aP (by omega),HT,cY]
   rfl
 · have hb:=vS ((nb s).take 11) 0 0 (by decide)
   generalize dg ((nb s).take 11) 0 0=q at hb
   unfold F9
   by_cases c:q.2≤9
   · have hp:=HE c
     cases e:(decide ((q.2:Int) > 9)||(decide ((s.size:Int) > 10)||!seq (fb (ID s q.1)) s)) with
     | true=>exact .inr rfl
     | false =>
      simp only [Bool.or_eq_false_iff,Bool.not_eq_false'] at e
      refine .inl ⟨ID s q.1,?_,dS.1 e.2.2,rfl⟩
      unfold ID JW
      cases decide ((s.size:Int) > 0)&&(dr s 0==45)
      · rw [aM];omega
      · rw [aX];omega
   · rw [aN (show (q.2:Int) > 9 by omega)]
     exact .inr rfl
theorem n7 (k:Nat) {s:ByteArray} (hs:s.size≤281474976710656):cF.f k s=some ((dj s).1,((dj s).2,())):=by
 unfold cF.f
 rw [aN hs,aX]
 refine mW (fun n h1 h2=>?_) ?_
 · obtain ⟨g0,g1⟩:=h1
   have he:s.data.toList=Go.Lib.itoa n:=by rw [← h2];unfold fb;rw [List.toList_toArray]
   rw [he,Ga (by omega) (by omega)]
   unfold cF.r
   simp only []
   rw [show seq ⟨(Go.Lib.itoa n).toArray⟩ s=true from dS.2 h2,aN ⟨g0,g1⟩]
   rfl
 · cases Go.Lib.atoiAll s.data.toList with
   | ok v =>
    unfold cF.r
    simp only []
    cases e:seq ⟨(Go.Lib.itoa v).toArray⟩ s&&decide (-999999999≤v∧v≤999999999) with
    | false=>exact .inr rfl
    | true =>
     rw [j6,decide_eq_true_eq] at e
     exact .inl ⟨v,e.2,dS.1 e.1,rfl⟩
   | _=>exact .inr rfl
theorem u7 {n:Int} (h:JW n):dj (fb n)=(n,true):=zc (fun _ _ _ _ e=>xA e) h
end Go.Proofs.YtohaanhjddohmaaGreatDoor.G
namespace Go.Proofs.YtohaanhjddohmaaGreatDoor.G
open Go.V
def pT (s p:ByteArray):Bool:=decide (p.size≤s.size)&&seq (ByteArray.extract s 0 p.size) p
theorem I2 (s p:ByteArray):Go.Lib.hasPrefix s.data.toList p.data.toList=pT s p:=(Go.Lib.hasPrefix_raw s p).symm
theorem Hk {s p:ByteArray} (h:pT s p=true):p.size≤s.size:=by
 unfold pT at h
 rw [j6,decide_eq_true_eq] at h
 exact h.1
theorem BC (p t:ByteArray):pT (p++t) p=true:=by
 unfold pT
 rw [aN (by rw [ByteArray.size_append];omega),wR,cY]
 rfl
theorem vi {s p:ByteArray} (h:pT s p=true):s=p++ByteArray.extract s p.size s.size:=by
 have hl:=Hk h
 unfold pT at h
 rw [j6] at h
 have e:=dS.1 h.2
 have:=vQ s hl
 rw [e] at this
 exact this
theorem ss (k:Nat) (s p:ByteArray):gW.f k s p=some (bif pT s p then ByteArray.extract s p.size s.size else s,(pT s p,())):=by
 unfold gW.f Go.Lib.trimPrefix
 rw [I2]
 cases pT s p with
 | false=>rfl
 | true =>
  have:(⟨(if true=true then List.drop p.data.toList.length s.data.toList else s.data.toList).toArray⟩:ByteArray)=ByteArray.extract s p.size s.size:=by
   rw [if_pos rfl]
   apply kh
   rw [jo]
   unfold nb
   rw [List.toList_toArray,List.map_drop,Array.length_toList]
   rfl
  rw [this]
  rfl
end Go.Proofs.YtohaanhjddohmaaGreatDoor.G
namespace Go.Proofs.YtohaanhjddohmaaGreatDoor.G
open Go.V
def rt (l:List Int) (x:Int):Bool:=l.any fun y=>y==x
end Go.Proofs.YtohaanhjddohmaaGreatDoor.G

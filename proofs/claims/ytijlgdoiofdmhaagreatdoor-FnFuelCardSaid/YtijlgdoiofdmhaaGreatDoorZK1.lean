/- Plain laws, merged; what is proved here is told ahead of each part. -/
import Derived.Test.YtijlgdoiofdmhaaGreatDoorZKE
import Derived.Lib.ItoaNum
import Derived.Lib.AtoiAll
import Derived.Lib.AtoiAllCases
import Derived.Test.YtijlgdoiofdmhaaGreatDoorVPure
import Derived.Test.YtijlgdoiofdmhaaGreatDoorXLib
set_option linter.unusedVariables false
set_option linter.unusedSimpArgs false
namespace Go.V
theorem aJ {α β:Type} {a:α} {f:α→Option β}:Option.bind (some a) f=f a:=rfl
theorem aI {α:Type} {a b:α}:cond false a b=b:=rfl
theorem aU {α:Type} {a b:α}:cond true a b=a:=rfl
theorem eQ:(!true)=false:=rfl
theorem rB:(!false)=true:=rfl
theorem n_ {α:Type} [BEq α] [LawfulBEq α] {a b:α} (h:a≠b):(a==b)=false:=beq_eq_false_iff_ne.2 h
theorem p5 (i:Nat):Int.toNat (i:Int)=i:=Int.toNat_natCast i
theorem lq {α:Type} {a:α} {l:List α}:(a::l).length=l.length+1:=rfl
theorem sF {α:Type} {l m:List α}:(l++m).length=l.length+m.length:=List.length_append
theorem py {α:Type} (l m n:List α):l++m++n=l++(m++n):=List.append_assoc l m n
theorem Aw {α:Type} [BEq α] [LawfulBEq α] {a b:α} (h:(a==b)=true):a=b:=beq_iff_eq.1 h
theorem lP (a b:Bool):((a&&b)=true)=(a=true∧b=true):=Bool.and_eq_true a b
theorem sM {α:Type} {a:α} {l:List α}:a ∈ a::l:=List.mem_cons_self
theorem wW {α:Type} (y:α) {a:α} {l:List α} (h:a ∈ l):a ∈ y::l:=List.mem_cons_of_mem y h
theorem aK {p:Prop} [Decidable p] (h:p):decide p=true:=decide_eq_true h
theorem aN {p:Prop} [Decidable p] (h:¬ p):decide p=false:=decide_eq_false h
theorem b7 {R:Type} {b n:Nat} {k:Option R} (h:n≤1099511627776) (hb:b≤128):rm b n k=k :=
 O3 (Nat.le_trans (Nat.mul_le_mul h hb) (by decide)) (by omega)
theorem eL {R:Type} {a b:ByteArray} {k:Option R} (h:a.size+b.size≤4611686018427387904):mK a b k=k:=Cz (by omega)
theorem xE {R:Type} {b:Nat} {n:Int} {k:Option R} (h0:0≤n) (h:n≤1099511627776) (hb:b≤128):xG b n k=k :=
 GI h0 (Nat.le_trans (Nat.mul_le_mul (show n.toNat≤1099511627776 by omega) hb) (by decide)) (by omega)
theorem yR {n:Int} (h0:0≤n) (h1:n≤4294967295):IntKind.wrap .u32 n=n:=by unfold IntKind.wrap;simp [IntKind.bits,IntKind.signed];omega
theorem qT {n:Int} (h0:0≤n) (h1:n≤255):IntKind.wrap .u8 n=n:=by unfold IntKind.wrap;simp [IntKind.bits,IntKind.signed];omega
theorem N6 {α:Type} {g:Nat→Option α} {r:α} (h:∀ k,2 ^ 50≤k→g k=some r):Ev g r:=⟨2 ^ 50,h⟩
section
variable {α σ ρ:Type}
theorem Nl {L:Nat→σ→Option ρ} {R:σ→Option ρ} (μ:σ→Nat) (P:σ→Prop)
 (h:∀ n s,P s→(∀ s',P s'→μ s' < μ s→L n s'=R s')→L (n+1) s=R s):∀ n s,P s→μ s<n→L n s=R s
 | 0,s,_,hn=>by omega
 | n+1,s,hs,hn=>h n s hs fun s' h1 h2=>Nl μ P h n s' h1 (by omega)
theorem Ir {L:Nat→Int→σ→Option ρ} {R:Int→σ→Option ρ} (N:Int) (P:Int→σ→Prop)
 (h0:∀ (n:Nat) s,P N s→L (n+1) N s=R N s)
 (h1:∀ (n:Nat) (i:Int) s,0≤i→i<N→P i s→(∀ s',P (i+1) s'→L n (i+1) s'=R (i+1) s')→L (n+1) i s=R i s) :
 ∀ (n:Nat) (i:Int) s,0≤i→i≤N→N-i<n→P i s→L n i s=R i s
 | 0,i,s,hi,hN,hn,_=>by omega
 | n+1,i,s,hi,hN,hn,hs=>by
  by_cases c:i=N
  · subst c;exact h0 n s hs
  · exact h1 n i s hi (by omega) hs fun s' q=>Ir N P h0 h1 n (i+1) s' (by omega) (by omega) (by omega) q
theorem Ig {L:Nat→Int→σ→Option ρ} {R:List α→σ→Option ρ} (z:α) (l:List α) (P:Int→σ→Prop)
 (h0:∀ (n:Nat) s,P l.length s→L (n+1) l.length s=R [] s)
 (h1:∀ (n:Nat) (i:Int) s x rest,0≤i→i<l.length→l.getD i.toNat z=x→l.drop i.toNat=x::rest→P i s→(∀ s',P (i+1) s'→L n (i+1) s'=R rest s')→L (n+1) i s=R (x::rest) s) :
 ∀ (n:Nat) (i:Int) s,0≤i→i≤l.length→(l.length:Int)-i<n→P i s→L n i s=R (l.drop i.toNat) s:=by
 intro n i s hi hN hn hs;refine Ir (L:=L) (R:=fun i s=>R (l.drop i.toNat) s) l.length P (fun n s q=>?_) (fun n i s hi hlt q ih=>?_) n i s hi hN hn hs
 · rw [h0 n s q,Int.toNat_natCast,List.drop_length]
 · have hl:i.toNat<l.length:=by omega
   have e:l.drop i.toNat=l.getD i.toNat z::l.drop (i+1).toNat:=by rw [List.drop_eq_getElem_cons hl,show (i+1).toNat=i.toNat+1 by omega];simp [List.getD,hl]
   show _=R (l.drop i.toNat) s;rw [e];exact h1 n i s _ _ hi hlt rfl e q ih
theorem dG {L:Nat→Int→σ→Option ρ} {R:List α→σ→Option ρ} (z:α) (l:List α) (P:Int→σ→Prop)
 (h0:∀ (n:Nat) s,P l.length s→L (n+1) l.length s=R [] s)
 (h1:∀ (n:Nat) (i:Int) s x rest,0≤i→i<l.length→l.getD i.toNat z=x→l.drop i.toNat=x::rest→P i s→(∀ s',P (i+1) s'→L n (i+1) s'=R rest s')→L (n+1) i s=R (x::rest) s)
 {n:Nat} {s:σ} (hn:l.length<n) (hs:P 0 s):L n 0 s=R l s:=by
 have:=Ig z l P h0 h1 n 0 s (by omega) (by omega) (by omega) hs;simpa using this
end
theorem n8 {a b:ByteArray} (h:a≠b):seq a b=false:=by
 cases c:seq a b
 · rfl
 · exact absurd (dT.1 c) h
theorem Fz {a b:ByteArray} (h:a=b):seq a b=true:=dT.2 h
theorem Hq (a b:ByteArray):seq a b=decide (a=b):=by
 by_cases h:a=b
 · rw [Fz h,aK h]
 · rw [n8 h,aN h]
theorem Lh {α:Type} {l:List α} {i:Nat} {x:α} {rest:List α} (h:l.drop i=x::rest):i<l.length:=by
 rcases Nat.lt_or_ge i l.length with q | q
 · exact q
 · rw [List.drop_eq_nil_of_le q] at h;cases h
def vl:Nat→Nat→List Nat
 | 0,a=>[a]
 | d+1,a=>if a≥128 then (128+a % 128)::vl d (a/128) else [a]
def uC:List Nat→Nat
 | []=>0
 | b::p=>b % 128+128*uC p
def sg:List Nat→Bool
 | []=>false
 | [b]=>decide (b<128)
 | b::c::p=>decide (128≤b)&&(decide (b<256)&&(sg (c::p)&&!(decide (p=[])&&c==0)))
theorem yU:∀ (d a:Nat),a<128 ^ (d+1)→sg (vl d a)=true∧uC (vl d a)=a∧(vl d a=[0]→a=0)
 | 0,a,h=>by
  have:a<128:=by simpa using h
  refine ⟨by simp [vl,sg,this],by simp [vl,uC];omega,fun q=>by simpa [vl] using q⟩
 | d+1,a,h=>by
  unfold vl;by_cases c:a≥128
  · rw [if_pos c];obtain ⟨h1,h2,h3⟩:=yU d (a/128) (by rw [Nat.pow_succ] at h;omega);refine ⟨?_,by rw [uC,h2];omega,fun q=>by have:=(List.cons.inj q).1;omega⟩;generalize vl d (a/128)=l at h1 h2 h3
    match l,h1 with
    | x::p,h1 =>
     simp only [sg,h1];have e1:decide (128≤128+a % 128)=true:=decide_eq_true (by omega);have e2:decide (128+a % 128<256)=true:=decide_eq_true (by omega);rw [e1,e2];cases hp:(decide (p=[])&&x==0)
     · rfl
     · simp only [lP,decide_eq_true_eq,beq_iff_eq] at hp;have:=h3 (by rw [hp.1,hp.2]);omega
  · rw [if_neg c];have:a<128:=by omega
    exact ⟨by simp [sg,this],by simp [uC];omega,fun q=>by simpa using q⟩
theorem FQ:∀ (p:List Nat),sg p=true→p≠[0]→1≤uC p
 | [],h,_=>by simp [sg] at h
 | [b],h,q=>by
  simp only [sg,decide_eq_true_eq] at h;simp only [uC];have:b≠0:=fun e=>q (by rw [e])
  omega
 | b::c::p,h,_=>by
  simp only [sg,lP,decide_eq_true_eq,Bool.not_eq_true'] at h;have ih:=FQ (c::p) h.2.2.1 (fun e=>by
   have e1:c=0:=(List.cons.inj e).1;have e2:p=[]:=(List.cons.inj e).2;have:=h.2.2.2;rw [e1,e2] at this;simp at this)
  rw [uC];omega
theorem CX:∀ (d:Nat) (p:List Nat),sg p=true→p.length≤d+1→vl d (uC p)=p
 | _,[],h,_=>by simp [sg] at h
 | 0,[b],h,_=>by simp only [sg,decide_eq_true_eq] at h;simp [vl,uC];omega
 | d+1,[b],h,_=>by
  simp only [sg,decide_eq_true_eq] at h;have e:uC [b]=b:=by simp [uC];omega
  rw [e,vl,if_neg (by omega)]
 | 0,b::c::p,_,hl=>by simp at hl
 | d+1,b::c::p,h,hl=>by
  have h0:=h;simp only [sg,lP,decide_eq_true_eq,Bool.not_eq_true'] at h;have hp:=FQ (c::p) h.2.2.1 (fun e=>by
   have e1:c=0:=(List.cons.inj e).1;have e2:p=[]:=(List.cons.inj e).2;have:=h.2.2.2;rw [e1,e2] at this;simp at this)
  have ih:=CX d (c::p) h.2.2.1 (by simp at hl ⊢;omega);rw [uC,vl,if_pos (by omega)];rw [show (b % 128+128*uC (c::p))/128=uC (c::p) by omega,ih];congr 1;omega
theorem Fh:∀ (p:List Nat) (b:Nat),uC (p++[b])=uC p+128 ^ p.length*(b % 128)
 | [],b=>by simp [uC]
 | a::p,b=>by rw [List.cons_append,uC,Fh p b,uC,lq,Nat.pow_succ,Nat.mul_add,Nat.mul_comm (128 ^ p.length) 128,Nat.mul_assoc];omega
theorem Cl:∀ (p:List Nat),uC p<128 ^ p.length
 | []=>by simp [uC]
 | a::p=>by have:=Cl p;rw [uC,lq,Nat.pow_succ];omega
def nb (s:ByteArray):List Nat:=s.data.toList.map UInt8.toNat
theorem dD (s:ByteArray):(nb s).length=s.size:=by unfold nb;rw [List.length_map,Array.length_toList];rfl
theorem MS {s:ByteArray} {x:Nat} (h:x ∈ nb s):x<256:=by unfold nb at h;rw [List.mem_map] at h;obtain ⟨y,_,rfl⟩:=h;exact UInt8.toNat_lt y
theorem mI {a b:ByteArray} (h:nb a=nb b):a=b:=by
 unfold nb at h;have h1:a.data.toList=b.data.toList:=List.map_inj_right (fun x y e=>UInt8.toNat_inj.1 e) |>.1 h
 exact ByteArray.ext (Array.toList_inj.1 h1)
theorem ym {s:ByteArray} {i:Nat} (h:i<s.size):fG s (i:Int)=(((nb s).getD i 0:Nat):Int):=by
 unfold fG nb;have h1:i<s.data.toList.length:=by rw [Array.length_toList];exact h
 rw [Int.toNat_natCast,List.getD,List.getD,List.getElem?_map,List.getElem?_eq_getElem h1];rfl
theorem G0 {l:List Nat} (h:∀ x ∈ l,x<256):nb (bytesOf (l.map Int.ofNat))=l:=by
 unfold nb bytesOf;simp only [List.map_map,List.toList_toArray]
 induction l with
 | nil=>rfl
 | cons x l ih =>rw [List.map_cons,ih (fun y hy=>h y (wW _ hy))];have:=h x (sM ..);congr 1;show (UInt8.ofNat (Int.toNat (x:Int))).toNat=x;rw [Int.toNat_natCast];simp;omega
theorem lZ (s:ByteArray) (n:Nat):nb (ByteArray.extract s 0 n)=(nb s).take n:=by unfold nb;simp [ByteArray.data_extract,List.map_take]
theorem MF:∀ (d a:Nat),a<128 ^ (d+1)→∀ x ∈ vl d a,x<256
 | 0,a,h,x,hx=>by simp [vl] at hx;subst hx;simp at h;omega
 | d+1,a,h,x,hx=>by
  unfold vl at hx;split at hx
  · rcases List.mem_cons.1 hx with q | q
    · subst q;omega
    · exact MF d _ (by rw [Nat.pow_succ] at h;omega) x q
  · simp at hx;subst hx;omega
def bJ (a:Nat):ByteArray:=bytesOf ((vl 6 a).map Int.ofNat)
theorem vX {a:Nat} (h:a<562949953421312):nb (bJ a)=vl 6 a:=G0 (MF 6 a (by rw [show (128:Nat) ^ (6+1)=562949953421312 by decide];exact h))
theorem JM {s:ByteArray} {n:Nat} (h0:1≤n) (h7:n≤7) (hs:n≤s.size):seq (bJ (uC ((nb s).take n))) (ByteArray.extract s 0 n)=sg ((nb s).take n):=by
 have hl:((nb s).take n).length=n:=by rw [List.length_take,dD];omega
 have hd:uC ((nb s).take n)<562949953421312:=by have:=Cl ((nb s).take n);rw [hl] at this;have h2:(128:Nat) ^ n≤128 ^ 7:=Nat.pow_le_pow_right (by decide) h7;rw [show (128:Nat) ^ 7=562949953421312 by decide] at h2;omega
 rw [Bool.eq_iff_iff,dT];constructor
 · intro e;have e1:nb (bJ (uC ((nb s).take n)))=(nb s).take n:=by rw [e,lZ]
   rw [vX hd] at e1;have:=(yU 6 (uC ((nb s).take n)) (by rw [show (128:Nat) ^ (6+1)=562949953421312 by decide];exact hd)).1;rw [e1] at this;exact this
 · intro c;refine mI ?_;rw [vX hd,lZ];exact CX 6 _ c (by omega)
open Go
def hZ (n:Int):ByteArray:=⟨(Lib.itoa n).toArray⟩
def uz (u:Nat):List UInt8:=if u=0 then [] else Lib.decDigits u
theorem J_:uz 0=[]:=rfl
theorem ss {u:Nat} (h:u≠0):uz u=Lib.decDigits u:=if_neg h
theorem JN {u:Nat} (h:u≠0):uz u=uz (u/10)++[UInt8.ofNat (48+u % 10)]:=by
 rw [ss h,Lib.decDigits];by_cases c:u<10
 · rw [dif_pos c,show u/10=0 by omega,J_,List.nil_append,Nat.mod_eq_of_lt c]
 · rw [dif_neg c,ss (by omega)]
theorem oy (u:Nat):Lib.decDigits u≠[]:=by rw [Lib.decDigits];split <;> simp
theorem yu:Lib.decDigits 0=[48]:=by rw [Lib.decDigits,dif_pos (by omega)];rfl
theorem tZ {d:Nat} (h:d<10):(UInt8.ofNat (48+d)).toNat=48+d:=by simp;omega
theorem lB (u:Nat):∀ b ∈ Lib.decDigits u,48≤b.toNat∧b.toNat≤57:=by
 induction u using Nat.strongRecOn with
 | _ u ih =>
  intro b hb;rw [Lib.decDigits] at hb;split at hb
  · rename_i h;rw [List.mem_singleton] at hb;subst hb;rw [tZ h];omega
  · rename_i h;rcases List.mem_append.1 hb with q | q
    · exact ih (u/10) (by omega) b q
    · rw [List.mem_singleton] at q;subst q;rw [tZ (by omega)];omega
def qp:List Nat→Nat→Nat
 | [],a=>a
 | b::l,a=>qp l (a*10+(b-48))
theorem Bv:∀ (l m:List Nat) (a:Nat),qp (l++m) a=qp m (qp l a)
 | [],m,a=>rfl
 | b::l,m,a=>Bv l m _
theorem rD (u:Nat):qp ((Lib.decDigits u).map UInt8.toNat) 0=u:=by
 induction u using Nat.strongRecOn with
 | _ u ih =>
  rw [Lib.decDigits];split
  · rename_i h;simp only [List.map_cons,List.map_nil,qp,tZ h];omega
  · rename_i h;rw [List.map_append,Bv,ih (u/10) (by omega)];simp only [List.map_cons,List.map_nil,qp,tZ (show u % 10<10 by omega)];omega
theorem ij:∀ (k u:Nat),u<10 ^ (k+1)→(Lib.decDigits u).length≤k+1
 | 0,u,h=>by rw [Lib.decDigits,dif_pos (by simpa using h)];simp
 | k+1,u,h=>by
  rw [Lib.decDigits];split
  · simp
  · have:=ij k (u/10) (by rw [Nat.pow_succ] at h;omega);rw [sF];show _+1≤_;omega
theorem rX (n:Int):nb (hZ n)=if n<0 then 45::(Lib.decDigits n.natAbs).map UInt8.toNat else (Lib.decDigits n.toNat).map UInt8.toNat:=by unfold nb hZ Lib.itoa;split <;> simp
theorem zv {a b:Int} (h:hZ a=hZ b):a=b:=by
 have h1:=congrArg nb h;rw [rX,rX] at h1;have hd:∀ u:Nat,∀ l,(Lib.decDigits u).map UInt8.toNat≠45::l:=fun u l q=>by
  have hm:(45:Nat) ∈ (Lib.decDigits u).map UInt8.toNat:=by rw [q];exact sM ..
  obtain ⟨x,hx,e⟩:=List.mem_map.1 hm;have:=lB u x hx;omega
 by_cases ca:a<0
 · rw [if_pos ca] at h1;by_cases cb:b<0
   · rw [if_pos cb] at h1;have h2:=(List.cons.inj h1).2;have h3:=congrArg (fun l=>qp l 0) h2;simp only [rD] at h3;omega
   · rw [if_neg cb] at h1;exact absurd h1.symm (hd _ _)
 · rw [if_neg ca] at h1;by_cases cb:b<0
   · rw [if_pos cb] at h1;exact absurd h1 (hd _ _)
   · rw [if_neg cb] at h1;have h3:=congrArg (fun l=>qp l 0) h1;simp only [rD] at h3;omega
theorem Iw {n:Int} (h0 : -1000000000<n) (h1:n<1000000000):(hZ n).size≤10:=by
 rw [← dD,rX];split
 · have:=ij 8 n.natAbs (by rw [show (10:Nat) ^ (8+1)=1000000000 by decide];omega);rw [lq,List.length_map];omega
 · have:=ij 8 n.toNat (by rw [show (10:Nat) ^ (8+1)=1000000000 by decide];omega);rw [List.length_map];omega
theorem FV (n:Int) (h0 : -9223372036854775808≤n) (h1:n≤9223372036854775807):(hZ n).size≤20:=by
 rw [← dD,rX];split
 · have:=ij 18 n.natAbs (by rw [show (10:Nat) ^ (18+1)=10000000000000000000 by decide];omega);rw [lq,List.length_map];omega
 · have:=ij 18 n.toNat (by rw [show (10:Nat) ^ (18+1)=10000000000000000000 by decide];omega);rw [List.length_map];omega
theorem xW:∀ (l:List UInt8) (a:Nat),(∀ b ∈ l,48≤b.toNat∧b.toNat≤57)→(a+1)*10 ^ l.length≤1000000000000000000→Lib.parseUint10 a l = .ok (qp (l.map UInt8.toNat) a)
 | [],a,_,_=>rfl
 | c::l,a,h,hb=>by have hc:=h c (sM ..);rw [lq,Nat.pow_succ,Nat.mul_comm (10 ^ l.length) 10,← Nat.mul_assoc] at hb;have hp:1≤10 ^ l.length:=Nat.one_le_pow _ _ (by decide);have h1:(a+1)*10*1≤(a+1)*10*10 ^ l.length:=Nat.mul_le_mul (Nat.le_refl _) hp;have ih:=xW l (a*10+(c.toNat-48)) (fun x hx=>h x (wW _ hx)) (Nat.le_trans (Nat.mul_le_mul (by omega) (Nat.le_refl _)) hb);rw [Lib.parseUint10,if_pos hc,if_neg (by omega),if_neg (by omega),ih,List.map_cons,qp]
theorem CP {u:Nat} (h:u<1000000000):Lib.parseMag (Lib.decDigits u) = .ok u:=by have hl:=ij 8 u (by rw [show (10:Nat) ^ (8+1)=1000000000 by decide];exact h);have hp:10 ^ (Lib.decDigits u).length≤10 ^ 9:=Nat.pow_le_pow_right (by decide) hl;rw [show (10:Nat) ^ 9=1000000000 by decide] at hp;unfold Lib.parseMag;rw [if_neg (oy u),xW _ 0 (lB u) (by omega),rD]
theorem Kh {n:Int} (h0 : -1000000000<n) (h1:n<1000000000):Lib.atoiAll (Lib.itoa n) = .ok n:=by
 unfold Lib.itoa;by_cases c:n<0
 · rw [if_pos c,Lib.atoiAll_minus,CP (by omega)];simp only [Lib.signed];rw [if_neg (by omega)];congr 1;omega
 · rw [if_neg c];have hp:=CP (u:=n.toNat) (by omega);cases q:Lib.decDigits n.toNat with
   | nil=>exact absurd q (oy _)
   | cons d r =>have hd:=lB n.toNat d (by rw [q];exact sM ..);rw [q] at hp;rw [Lib.atoiAll_plain d r (by omega) (by omega),hp];simp only [Lib.signless];rw [if_neg (by omega)];congr 1;omega
section
variable {α ρ:Type}
def sD (ok:Option α→α→Bool):Option α→List α→Bool
 | _,[]=>true
 | p,x::l=>ok p x&&sD ok (some x) l
theorem qU {L:Nat→Int→Option ρ} (z:α) (l:List α) (ok:Option α→α→Bool) (yes no:Option ρ) (h0:∀ (n:Nat),L (n+1) l.length=yes)
 (h1:∀ (n:Nat) x,0<l.length→l.getD (Int.toNat 0) z=x→L (n+1) 0=bif ok none x then L n 1 else no)
 (h2:∀ (n:Nat) (i:Int) x y,0<i→i<l.length→l.getD i.toNat z=x→l.getD (i-1).toNat z=y→L (n+1) i=bif ok (some y) x then L n (i+1) else no)
 {n:Nat} (hn:l.length<n):L n 0=bif sD ok none l then yes else no:=by
 have key:∀ (d i n:Nat),l.length=i+d→0<i→d<n→L n (i:Int)=bif sD ok (some (l.getD (i-1) z)) (l.drop i) then yes else no:=by
  intro d
  induction d with
  | zero =>
   intro i n h h' hn;obtain ⟨n,rfl⟩:∃ q,n=q+1:=⟨n-1,by omega⟩;have:i=l.length:=by omega
   subst this;rw [h0 n,List.drop_length];rfl
  | succ d ih =>
   intro i n h h' hn;obtain ⟨n,rfl⟩:∃ q,n=q+1:=⟨n-1,by omega⟩;have hl:i<l.length:=by omega
   have e:l.drop i=l.getD i z::l.drop (i+1):=by rw [List.drop_eq_getElem_cons hl];simp [List.getD,hl]
   have ih:=ih (i+1) n (by omega) (by omega) (by omega);rw [h2 n i (l.getD i z) (l.getD (i-1) z) (by omega) (by omega) (by rw [Int.toNat_natCast]) (by rw [show ((i:Int)-1).toNat=i-1 by omega]),e,sD];rw [show ((i:Int)+1)=((i+1:Nat):Int) by omega,ih,show i+1-1=i by omega];cases ok (some (l.getD (i-1) z)) (l.getD i z) <;> rfl
 obtain ⟨n,rfl⟩:∃ q,n=q+1:=⟨n-1,by omega⟩;cases l with
 | nil=>exact h0 n
 | cons x l =>rw [h1 n x (by simp) rfl,sD];have:=key l.length 1 n (by rw [lq];omega) (by omega) (by rw [lq] at hn;omega);rw [show ((1:Nat):Int)=1 from rfl] at this;rw [this];cases ok none x <;> rfl
theorem DC {ok:Option α→α→Bool} {l:List α} {p:Option α} (h:sD ok p l=true) {x:α} (hx:x ∈ l):∃ q,ok q x=true:=by
 induction l generalizing p with
 | nil=>cases hx
 | cons y l ih =>
  rw [sD,lP] at h;rcases List.mem_cons.1 hx with e | e
  · subst e;exact ⟨p,h.1⟩
  · exact ih h.2 e
end
theorem m7 {α:Type} {l:List α} {n i:Nat} {z:α} (h:i<n):(l.take n).getD i z=l.getD i z:=by simp [List.getD,List.getElem?_take,h]
theorem kY {α:Type} {l:List α} {i:Nat} {z:α} (h:i<l.length):l.take (i+1)=l.take i++[l.getD i z]:=by rw [List.take_succ_eq_append_getElem h];simp [List.getD,h]
theorem bK {α:Type} (l:List α) (x:α):(l++[x]).length=l.length+1:=by simp
def dB (l:List UInt8):ByteArray:=⟨l.toArray⟩
theorem Jf (a b:List UInt8):dB a++dB b=dB (a++b):=by apply ByteArray.ext;simp [dB,ByteArray.data_append]
theorem D4 (l:List UInt8):(dB l).size=l.length:=by simp [dB,ByteArray.size]
theorem AJ (s:ByteArray):dB []++s=s:=by apply ByteArray.ext;simp [dB,ByteArray.data_append]
theorem Jl (s:ByteArray):s++dB []=s:=by apply ByteArray.ext;simp [dB,ByteArray.data_append]
theorem Fy (a b c:ByteArray):a++b++c=a++(b++c):=by apply ByteArray.ext;simp [ByteArray.data_append]
theorem Lx (n:Int) (h:n≠0):hZ n=(bif decide (n<0) then dB [45] else dB [])++dB (uz n.natAbs):=by
 unfold hZ Lib.itoa;by_cases c:n<0
 · rw [if_pos c,aK c,aU,Jf,ss (by omega)];rfl
 · rw [if_neg c,aN c,aI,AJ,ss (by omega),show n.natAbs=n.toNat by omega];rfl
theorem FM {u:Nat} (h:u≤9223372036854775808):(uz u).length≤19:=by
 by_cases c:u=0
 · subst c;decide
 · rw [ss c];exact ij 18 u (by rw [show (10:Nat) ^ (18+1)=10000000000000000000 by decide];omega)
theorem ny {n:Int} (h0 : -9223372036854775808≤n) (h1:n≤9223372036854775807):(hZ n).size≤20:=FV n h0 h1
def oD:List Nat→Bool
 | []=>true
 | b::l=>(decide (97≤b∧b≤122)||decide (48≤b∧b≤57))&&oD l
def kq (s:ByteArray):Bool:=oD (nb s)&&decide (1≤s.size∧s.size≤12)
end Go.V
namespace Go.Proofs.YtijlgdoiofdmhaaGreatDoor.G
open Go.V
theorem s5 {k:Nat} (hk:2 ^ 50≤k) {n:Int} (h0 : -9223372036854775808≤n) (h1:n≤9223372036854775807):ek.f k n=some (hZ n,()):=by
 unfold ek.f ek.t;by_cases c:n=0
 · subst c;have:hZ 0=(⟨#[48]⟩:ByteArray):=by
    unfold hZ Lib.itoa;rw [if_neg (by decide),show (0:Int).toNat=0 from rfl,yu]
   rw [this];rfl
 · rw [show (n==0)=false from n_ c,aI];have key:=Nl (L:=fun m (s:Int × ByteArray)=>ek.l0 k m s.1 s.2 (decide (n<0))) (R:=fun s=>some ((bif decide (n<0) then dB [45] else dB [])++(dB (uz s.1.natAbs)++s.2),()))
    (fun s=>(uz s.1.natAbs).length) (fun s => -9223372036854775808≤s.1∧s.1≤9223372036854775807∧s.2.size+(uz s.1.natAbs).length≤1000) ?_ k (n,(⟨#[]⟩:ByteArray))
    ⟨h0,h1,by have:=FM (u:=n.natAbs) (by omega);show 0+(uz n.natAbs).length≤1000;omega⟩ (by have:=FM (u:=n.natAbs) (by omega);show (uz n.natAbs).length<k;omega)
   · refine key.trans ?_;simp only [];rw [Lx n c,show (⟨#[]⟩:ByteArray)=dB [] from rfl,Jl]
   · intro m s hs ih;obtain ⟨x,acc⟩:=s;obtain ⟨g0,g1,g2⟩:=hs;simp only [] at g0 g1 g2 ih ⊢;by_cases cx:x=0
     · subst cx;have hz:uz (Int.natAbs 0)=[]:=rfl;rw [hz] at g2 ⊢;rw [AJ];unfold ek.l0 ek.b0;rw [show ((0:Int) != 0)=false from rfl,aI];cases decide (n<0)
       · rw [aI,aI,AJ]
       · rw [aU,aU,eL (by rw [show (⟨#[45]⟩:ByteArray).size=1 from rfl];omega)];rfl
     · have hd:=JN (u:=x.natAbs) (by omega);have hb:bytesOf [48+((x.natAbs % 10:Nat):Int)]=dB [UInt8.ofNat (48+x.natAbs % 10)]:=rfl;have hm:x.natAbs % 10<10:=Nat.mod_lt _ (by decide);have hl:(uz x.natAbs).length=(uz (x.natAbs/10)).length+1:=by rw [hd,sF];rfl
       have hr:(dB [UInt8.ofNat (48+x.natAbs % 10)]++acc).size=1+acc.size:=by rw [ByteArray.size_append];rfl
       have fin:∀ y:Int,y.natAbs=x.natAbs/10 → -9223372036854775808≤y→y≤9223372036854775807 →
        ek.l0 k m (aH y) (dB [UInt8.ofNat (48+x.natAbs % 10)]++acc) (decide (n<0))=some ((bif decide (n<0) then dB [45] else dB [])++(dB (uz x.natAbs)++acc),()):=fun y hy q0 q1=>by
        rw [aC q0 q1];have:=ih (y,dB [UInt8.ofNat (48+x.natAbs % 10)]++acc) ⟨q0,q1,by simp only [];rw [hr,hy];omega⟩ (by simp only [];rw [hy];omega);simp only [] at this;rw [this,hy,hd,← Jf,Fy]
       unfold ek.l0 ek.b0;rw [show (x != 0)=true from bne_iff_ne.2 cx,aU];obtain ⟨u,rfl | rfl⟩:=Int.eq_nat_or_neg x
       · have e1:Int.tmod (u:Int) 10=((u % 10:Nat):Int):=rfl;have e2:Int.tdiv (u:Int) 10=((u/10:Nat):Int):=rfl;rw [Int.natAbs_natCast] at *;rw [e1,e2,aN (by omega),aI,aC (n:=48+((u % 10:Nat):Int)) (by omega) (by omega),qT (by omega) (by omega),hb,eL (by rw [D4];simp only [List.length_singleton];omega)];exact fin _ (by omega) (by omega) (by omega)
       · have e1:Int.tmod (-(u:Int)) 10 = -((u % 10:Nat):Int):=Int.neg_tmod (a:=(u:Int)) (b:=10);have e2:Int.tdiv (-(u:Int)) 10 = -((u/10:Nat):Int):=Int.neg_tdiv (u:Int) 10;rw [Int.natAbs_neg,Int.natAbs_natCast] at *;rw [e1,e2];by_cases cz:u % 10=0
         · rw [aN (by omega),aI,show (48:Int) + -((u % 10:Nat):Int)=48+((u % 10:Nat):Int) by omega,aC (n:=48+((u % 10:Nat):Int)) (by omega) (by omega),qT (by omega) (by omega),hb,eL (by rw [D4];simp only [List.length_singleton];omega)];exact fin _ (by omega) (by omega) (by omega)
         · rw [aK (by omega),aU,aC (n:=0 - -((u % 10:Nat):Int)) (by omega) (by omega),show (48:Int)+(0 - -((u % 10:Nat):Int))=48+((u % 10:Nat):Int) by omega,aC (n:=48+((u % 10:Nat):Int)) (by omega) (by omega),qT (by omega) (by omega),hb,eL (by rw [D4];simp only [List.length_singleton];omega)];exact fin _ (by omega) (by omega) (by omega)
theorem HG (k:Nat) {n:Int} (h0 : -9223372036854775808≤n) (h1:n≤9223372036854775807):oI.f k n=some (hZ n,()):=by unfold oI.f oI.t oO.f;rw [aK ⟨h0,h1⟩];rfl
theorem iq (k:Nat) (a b c:Int):ab.f k a b c=some (decide (b≤a∧a≤c),()):=by
 unfold ab.f ab.t;by_cases h:a≥b
 · rw [aK h,aU,decide_eq_decide.2 (show (b≤a∧a≤c)↔a≤c from ⟨fun q=>q.2,fun q=>⟨h,q⟩⟩)]
 · rw [aN h,aI,aN (fun q=>h q.1)]
theorem fC (k:Nat) (a b c:Int):aS.f k a b c=some (decide (b≤a∧a≤c),()):=by
 unfold aS.f aS.t;by_cases h:a≥b
 · rw [aK h,aU,decide_eq_decide.2 (show (b≤a∧a≤c)↔a≤c from ⟨fun q=>q.2,fun q=>⟨h,q⟩⟩)]
 · rw [aN h,aI,aN (fun q=>h q.1)]
theorem DN {s:ByteArray} {i:Int} {x:Nat} (h0:0≤i) (h1:i<((nb s).length:Int)) (hx:(nb s).getD i.toNat 0=x):fG s i=(x:Int):=by rw [dD] at h1;have:=ym (s:=s) (i:=i.toNat) (by omega);rw [show ((i.toNat:Nat):Int)=i by omega,hx] at this;exact this
theorem FH {s:ByteArray}:(some ((bif oD (nb s) then decide (1≤(s.size:Int)∧(s.size:Int)≤12) else false),()):Option (Bool × Unit))=some (kq s,()):=by unfold kq;rw [decide_eq_decide.2 (show (1≤(s.size:Int)∧(s.size:Int)≤12)↔(1≤s.size∧s.size≤12) by omega)];cases oD (nb s) <;> rfl
theorem pr {k:Nat} (hk:2 ^ 50≤k) {s:ByteArray} (hs:s.size≤1099511627776):eg.f k s=some (kq s,()):=by
 unfold eg.f eg.t;have hn:=dD s;refine (dG (L:=fun n i (_:Unit)=>eg.l0 k n s i) (R:=fun r _=>some ((bif oD r then decide (1≤(s.size:Int)∧(s.size:Int)≤12) else false),())) 0 (nb s) (fun _ _=>True) (fun n _ _=>?_) (fun n i _ x rest h0 h1 hx hr hp ih=>?_) (n:=k) (s:=()) (by omega) trivial).trans FH
 · simp only [hn];simp (disch:=omega) only [eg.l0,eg.b0,aN,aI,fC k,aJ,oD,aU]
 · have hb:=DN h0 h1 hx;have ih:=ih () trivial;simp only [hn] at *;simp (disch:=omega) only [eg.l0,eg.b0,aK h1,aU,aF,hb,aC,ih,oD];by_cases c1:97≤x
   · rw [aK (show (x:Int)≥97 by omega),aU];by_cases c2:x≤122
     · rw [aK (show (x:Int)≤122 by omega),aU,aK (show 97≤x∧x≤122 from ⟨c1,c2⟩)];rfl
     · rw [aN (show ¬ (x:Int)≤122 by omega),aI,aN (show ¬ (97≤x∧x≤122) by omega),aK (show (x:Int)≥48 by omega),aU,aN (show ¬ (x:Int)≤57 by omega),aN (show ¬ (48≤x∧x≤57) by omega)];rfl
   · rw [aN (show ¬ (x:Int)≥97 by omega),aI,aN (show ¬ (97≤x∧x≤122) by omega)];by_cases c3:48≤x
     · rw [aK (show (x:Int)≥48 by omega),aU];by_cases c4:x≤57
       · rw [aK (show (x:Int)≤57 by omega),aK (show 48≤x∧x≤57 from ⟨c3,c4⟩)];rfl
       · rw [aN (show ¬ (x:Int)≤57 by omega),aN (show ¬ (48≤x∧x≤57) by omega)];rfl
     · rw [aN (show ¬ (x:Int)≥48 by omega),aI,aN (show ¬ (48≤x∧x≤57) by omega)];rfl
theorem pt {k:Nat} (hk:2 ^ 50≤k) {s:ByteArray} (hs:s.size≤1099511627776):fA.f k s=some (kq s,()):=by
 unfold fA.f fA.t;have hn:=dD s;refine (dG (L:=fun n i (_:Unit)=>fA.l0 k n s i) (R:=fun r _=>some ((bif oD r then decide (1≤(s.size:Int)∧(s.size:Int)≤12) else false),())) 0 (nb s) (fun _ _=>True) (fun n _ _=>?_) (fun n i _ x rest h0 h1 hx hr hp ih=>?_) (n:=k) (s:=()) (by omega) trivial).trans FH
 · simp only [hn];simp (disch:=omega) only [fA.l0,fA.b0,aN,aI,iq k,aJ,oD,aU]
 · have hb:=DN h0 h1 hx;have ih:=ih () trivial;simp only [hn] at *;simp (disch:=omega) only [fA.l0,fA.b0,aK h1,aU,aF,hb,aC,ih,oD];by_cases c1:97≤x
   · rw [aK (show (x:Int)≥97 by omega),aU];by_cases c2:x≤122
     · rw [aK (show (x:Int)≤122 by omega),aK (show 97≤x∧x≤122 from ⟨c1,c2⟩)];rfl
     · rw [aN (show ¬ (x:Int)≤122 by omega),aN (show ¬ (97≤x∧x≤122) by omega),aK (show (x:Int)≥48 by omega),aN (show ¬ (x:Int)≤57 by omega),aN (show ¬ (48≤x∧x≤57) by omega)];rfl
   · rw [aN (show ¬ (x:Int)≥97 by omega),aI,aN (show ¬ (97≤x∧x≤122) by omega)];by_cases c3:48≤x
     · rw [aK (show (x:Int)≥48 by omega),aU];by_cases c4:x≤57
       · rw [aK (show (x:Int)≤57 by omega),aK (show 48≤x∧x≤57 from ⟨c3,c4⟩)];rfl
       · rw [aN (show ¬ (x:Int)≤57 by omega),aN (show ¬ (48≤x∧x≤57) by omega)];rfl
     · rw [aN (show ¬ (x:Int)≥48 by omega),aI,aN (show ¬ (48≤x∧x≤57) by omega)];rfl
abbrev bo:=List (Ty.d aE)
def dS (l:bo):Nat:=(l.map fun f=>f.2.1.size).sum
def s9 (l:bo):Nat:=(l.map fun f=>f.1.size).sum
theorem fe (x:Ty.d aE) (l:bo):dS (x::l)=x.2.1.size+dS l:=by unfold dS;rw [List.map_cons,List.sum_cons]
theorem zR:dS []=0:=rfl
theorem zp (x:Ty.d aE) (l:bo):s9 (x::l)=x.1.size+s9 l:=by unfold s9;rw [List.map_cons,List.sum_cons]
theorem Ao:∀ l m:bo,dS (l++m)=dS l+dS m
 | [],m=>by rw [List.nil_append,zR,Nat.zero_add]
 | x::l,m=>by rw [List.cons_append,fe,fe,Ao l m];omega
theorem tI {l:bo} {x:Ty.d aE} (h:x ∈ l):x.2.1.size≤dS l:=by
 induction l with
 | nil=>cases h
 | cons y l ih =>
  rw [fe];rcases List.mem_cons.1 h with e | e
  · subst e;omega
  · have:=ih e;omega
theorem pA {l:bo} {x:Ty.d aE} (h:x ∈ l):x.1.size≤s9 l:=by
 induction l with
 | nil=>cases h
 | cons y l ih =>
  rw [zp];rcases List.mem_cons.1 h with e | e
  · subst e;omega
  · have:=ih e;omega
def oU (p:Option (Ty.d aE)) (x:Ty.d aE):Bool :=
 kq x.1&&(decide ((0:Int)≤x.2.2.1∧x.2.2.1≤(x.2.1.size:Int))&&(match p with | none=>true | some y=>ox y.1 x.1))
def gP (d:Ty.d aA):Bool :=
 decide (d.1.length≤130)&&(decide ((0:Int)≤d.2.1∧d.2.1≤(100000:Int))&&(decide ((-1:Int)≤d.2.2.1∧d.2.2.1≤(100000:Int))&&(decide ((dS d.1:Int)≤d.2.1)&&sD oU none d.1)))
theorem tA {k:Nat} (hk:2 ^ 50≤k) {d:Ty.d aA} (hl:d.1.length≤1099511627776) (hu:dS d.1≤1099511627776):eh.f k d=some ((dS d.1:Int),()):=by
 unfold eh.f eh.t;refine (dG (L:=fun n i s=>eh.l0 k n s i d.1 d.2.1 d.2.2.1 d.2.2.2.1) (R:=fun r s=>some (s+(dS r:Int),())) (Ty.z aE) d.1 (fun i s=>0≤s∧s+(dS (d.1.drop i.toNat):Int)≤1099511627776) (fun n s hs=>?_) (fun n i s x rest h0 h1 hx hr hp ih=>?_) (n:=k) (s:=0) (by omega) ⟨by omega,by rw [show d.1.drop (Int.toNat 0)=d.1 from rfl];omega⟩).trans (by rw [Int.zero_add])
 · simp (disch:=omega) only [eh.l0,eh.b0,aN,aI];show some (s,())=some (s+((0:Nat):Int),());rw [show s+((0:Nat):Int)=s by omega]
 · have hrest:d.1.drop (i+1).toNat=rest:=by
    have:=congrArg (List.drop 1) hr;rw [List.drop_drop,List.drop_one,List.tail_cons] at this;rw [show (i+1).toNat=i.toNat+1 by omega];exact this
   rw [hr,fe] at hp;have ih:=ih (s+(x.2.1.size:Int)) ⟨by omega,by rw [hrest];omega⟩;simp (disch:=omega) only [eh.l0,eh.b0,aK h1,aU,aF,hx,aC,ih];rw [show s+(x.2.1.size:Int)+(dS rest:Int)=s+((x.2.1.size+dS rest:Nat):Int) by omega];show _=some (s+((dS (x::rest):Nat):Int),());rw [fe]
theorem kB {k:Nat} (hk:2 ^ 50≤k) {d:Ty.d aA} (hu:dS d.1≤1099511627776) (hn:s9 d.1≤1099511627776):bQ.f k d=some (gP d,()):=by
 unfold bQ.f bQ.t gP;by_cases c:d.1.length > 130
 · rw [aK (by omega),aU,aN (by omega),Bool.false_and]
 · rw [aN (by omega),aI,aK (by omega),Bool.true_and,fC,aJ];cases decide ((0:Int)≤d.2.1∧d.2.1≤(100000:Int)) with
   | false=>rfl
   | true =>
    rw [eQ,aI,fC,aJ,Bool.true_and];cases decide ((-1:Int)≤d.2.2.1∧d.2.2.1≤(100000:Int)) with
    | false=>rfl
    | true =>
     rw [eQ,aI,tA hk (by omega) hu,aJ,Bool.true_and];simp only [];by_cases cu:(dS d.1:Int) > d.2.1
     · rw [aK cu,aU,aN (by omega),Bool.false_and]
     · rw [aN cu,aI,aK (by omega),Bool.true_and];refine (qU (L:=fun n i=>bQ.l0 k n i d.1 d.2.1 d.2.2.1 d.2.2.2.1) (Ty.z aE) d.1 oU (some (true,())) (some (false,())) (fun n=>?_) (fun n x h hx=>?_) (fun n i x y h0 h1 hx hy=>?_) (n:=k) (by omega)).trans (by cases sD oU none d.1 <;> rfl)
       · simp (disch:=omega) only [bQ.l0,bQ.b0,aN,aI]
       · have hm:x ∈ d.1:=by rw [← hx];exact fv (by omega)
         have hs:=pA hm;simp (disch:=omega) only [bQ.l0,bQ.b0,aK (show (0:Int)<(d.1.length:Int) by omega),aU,aF,hx,pr hk,fC k,aJ,aN (show ¬ (0:Int) > 0 by omega),aI,aC,oU];cases kq x.1 <;> cases decide ((0:Int)≤x.2.2.1∧x.2.2.1≤(x.2.1.size:Int)) <;> rfl
       · have hm:x ∈ d.1:=by rw [← hx];exact fv (by omega)
         have hs:=pA hm;simp (disch:=omega) only [bQ.l0,bQ.b0,aK h1,aU,aF,hx,hy,pr hk,fC k,aJ,aK (show i > 0 by omega),aI,aC,oU,nk];cases kq x.1 <;> cases decide ((0:Int)≤x.2.2.1∧x.2.2.1≤(x.2.1.size:Int)) <;> cases ox y.1 x.1 <;> rfl
theorem CF {l:bo} {i:Nat} {x:Ty.d aE} (h:i<l.length) (hx:l.getD i (Ty.z aE)=x):dS (l.take (i+1))=dS (l.take i)+x.2.1.size:=by rw [List.take_add_one,Ao];congr 1;simp only [List.getD,List.getElem?_eq_getElem h,Option.getD_some] at hx;rw [List.getElem?_eq_getElem h,hx];show dS [x]=_;rw [fe,zR,Nat.add_zero]
theorem wU (l:bo) (i:Nat):dS (l.take i)≤dS l:=by have:=Ao (l.take i) (l.drop i);rw [List.take_append_drop] at this;omega
theorem iI {k:Nat} (hk:2 ^ 50≤k) {d:Ty.d aA} (hu:dS d.1≤1099511627776) (hn:s9 d.1≤1099511627776):b8.f k d=some (gP d,()):=by
 unfold b8.f b8.t gP;by_cases c:d.1.length > 130
 · rw [aK (by omega),aU,aN (by omega),Bool.false_and]
 · rw [aN (by omega),aI,aK (by omega),Bool.true_and,iq,aJ];cases decide ((0:Int)≤d.2.1∧d.2.1≤(100000:Int)) with
   | false=>rfl
   | true =>
    rw [eQ,aI,iq,aJ,Bool.true_and];cases decide ((-1:Int)≤d.2.2.1∧d.2.2.1≤(100000:Int)) with
    | false=>rfl
    | true =>
     rw [eQ,aI,Bool.true_and];refine (qU (L:=fun n i=>b8.l0 k n (dS (d.1.take i.toNat):Int) d.1 d.1.length i d.1 d.2.1 d.2.2.1 d.2.2.2.1) (Ty.z aE) d.1 oU (some (decide ((dS d.1:Int)≤d.2.1),())) (some (false,())) (fun n=>?_) (fun n x h hx=>?_) (fun n i x y h0 h1 hx hy=>?_) (n:=k) (by omega)).trans
      (by cases sD oU none d.1 <;> cases decide ((dS d.1:Int)≤d.2.1) <;> rfl)
     · rw [Int.toNat_natCast,List.take_length];simp (disch:=omega) only [b8.l0,b8.b0,aN,aI]
     · have hm:x ∈ d.1:=by rw [← hx];exact fv (by omega)
       have hs:=pA hm;have ht:=CF (l:=d.1) (i:=0) h hx;have hle:=wU d.1 0;have hz:=tI hm;rw [show Int.toNat 1=0+1 from rfl,ht];simp only [show Int.toNat 0=0 from rfl] at hx ⊢;simp (disch:=omega) only [b8.l0,b8.b0,aK (show (0:Int)<(d.1.length:Int) by omega),aU,aF,show Int.toNat 0=0 from rfl,hx,pt hk,iq k,aJ,aN (show ¬ (0:Int) > 0 by omega),aI,aC,oU];rw [show (dS (d.1.take 0):Int)+(x.2.1.size:Int)=((dS (d.1.take 0)+x.2.1.size:Nat):Int) by omega];cases kq x.1 <;> cases decide ((0:Int)≤x.2.2.1∧x.2.2.1≤(x.2.1.size:Int)) <;> rfl
     · have hm:x ∈ d.1:=by rw [← hx];exact fv (by omega)
       have hs:=pA hm;have ht:=CF (l:=d.1) (i:=i.toNat) (by omega) hx;have hle:=wU d.1 i.toNat;have hz:=tI hm;rw [show Int.toNat (i+1)=i.toNat+1 by omega,ht];simp (disch:=omega) only [b8.l0,b8.b0,aK h1,aU,aF,hx,hy,pt hk,iq k,aJ,aK (show i > 0 by omega),aI,aC,oU];rw [show (dS (d.1.take i.toNat):Int)+(x.2.1.size:Int)=((dS (d.1.take i.toNat)+x.2.1.size:Nat):Int) by omega];cases kq x.1 <;> cases decide ((0:Int)≤x.2.2.1∧x.2.2.1≤(x.2.1.size:Int)) <;> cases ox y.1 x.1 <;> rfl
def mO:bo→ByteArray→Int→Int
 | [],_,_ => -1
 | f::l,s,i=>bif seq f.1 s then i else mO l s (i+1)
def cB:bo→ByteArray→Option (Ty.d aE)
 | [],_=>none
 | f::l,s=>bif seq f.1 s then some f else cB l s
theorem vV:∀ (l:bo) (s:ByteArray) (i:Int),(cB l s=none∧mO l s i = -1)∨(∃ f,cB l s=some f∧i≤mO l s i∧mO l s i<i+(l.length:Int)∧l.getD (mO l s i-i).toNat (Ty.z aE)=f∧f ∈ l)
 | [],s,i => .inl ⟨rfl,rfl⟩
 | f::l,s,i=>by
  unfold mO cB;cases c:seq f.1 s with
  | true=>exact .inr ⟨f,rfl,Int.le_refl _,by rw [aU,lq];omega,by rw [aU,show (i-i).toNat=0 by omega];rfl,sM ..⟩
  | false =>
   rw [aI,aI];rcases vV l s (i+1) with h | ⟨g,h1,h2,h3,h4,h5⟩
   · exact .inl h
   · refine .inr ⟨g,h1,by omega,by rw [lq];omega,?_,wW _ h5⟩;rw [show (mO l s (i+1)-i).toNat=(mO l s (i+1)-(i+1)).toNat+1 by omega];exact h4
theorem jP {k:Nat} (hk:2 ^ 50≤k) {d:Ty.d aA} (hl:d.1.length≤1099511627776) (s:ByteArray):bY.f k d s=some (mO d.1 s 0,()):=by
 unfold bY.f bY.t;refine dG (L:=fun n i (_:Int)=>bY.l0 k n s i d.1 d.2.1 d.2.2.1 d.2.2.2.1) (R:=fun r j=>some (mO r s j,())) (Ty.z aE) d.1 (fun i j=>j=i) (fun n j hj=>?_) (fun n i j x rest h0 h1 hx hr hp ih=>?_) (n:=k) (s:=0) (by omega) rfl
 · simp (disch:=omega) only [bY.l0,bY.b0,aN,aI,mO]
 · have ih:=ih (i+1) rfl;subst hp;simp (disch:=omega) only [bY.l0,bY.b0,aK h1,aU,aF,hx,aC,ih,mO];cases seq x.1 s <;> rfl
theorem k7 {k:Nat} (hk:2 ^ 50≤k) {d:Ty.d aA} (hl:d.1.length≤1099511627776) (s:ByteArray):ba.f k d s=some (mO d.1 s 0,()):=by
 unfold ba.f ba.t;refine dG (L:=fun n i (_:Int)=>ba.l0 k n s d.1 d.1.length i) (R:=fun r j=>some (mO r s j,())) (Ty.z aE) d.1 (fun i j=>j=i) (fun n j hj=>?_) (fun n i j x rest h0 h1 hx hr hp ih=>?_) (n:=k) (s:=0) (by omega) rfl
 · simp (disch:=omega) only [ba.l0,ba.b0,aN,aI,mO]
 · have ih:=ih (i+1) rfl;subst hp;simp (disch:=omega) only [ba.l0,ba.b0,aK h1,aU,aF,hx,aC,ih,mO];cases seq x.1 s <;> rfl
def ao (d:Ty.d aA) (s:ByteArray):ByteArray × Bool :=
 bif gP d then (match cB d.1 s with | none=>(⟨#[]⟩,false) | some f=>(f.2.1,true)) else (⟨#[]⟩,false)
theorem gw (d:Ty.d aA) (s:ByteArray):(ao d s).1.size≤dS d.1:=by
 unfold ao;cases gP d with
 | false=>exact Nat.zero_le _
 | true =>
  rw [aU];rcases vV d.1 s 0 with h | ⟨f,h1,_,_,_,h5⟩
  · rw [h.1];exact Nat.zero_le _
  · rw [h1];exact tI h5
theorem iu {k:Nat} (hk:2 ^ 50≤k) {d:Ty.d aA} (hl:d.1.length≤1099511627776) (hu:dS d.1≤1099511627776) (hn:s9 d.1≤1099511627776) (s:ByteArray) :
 cD.f k d s=some ((ao d s).1,((ao d s).2,())):=by
 unfold cD.f cD.t ao;rw [kB hk hu hn,aJ];cases gP d with
 | false=>rfl
 | true =>
  rw [jP hk hl];simp only [aJ,eQ,aI,aU];rcases vV d.1 s 0 with h | ⟨f,h1,h2,h3,h4,h5⟩
  · rw [h.1,h.2];rfl
  · rw [h1,aN (by omega),aI,aF h2 (by omega)];rw [Int.sub_zero] at h4;rw [h4]
theorem jv {k:Nat} (hk:2 ^ 50≤k) {d:Ty.d aA} (hl:d.1.length≤1099511627776) (hu:dS d.1≤1099511627776) (hn:s9 d.1≤1099511627776) (s:ByteArray) :
 bq.f k d s=some ((ao d s).1,((ao d s).2,())):=by
 unfold bq.f bq.t ao;rw [k7 hk hl,aJ];simp only [];rcases vV d.1 s 0 with h | ⟨f,h1,h2,h3,h4,h5⟩
 · rw [h.1,h.2];cases gP d <;> rfl
 · rw [h1,aN (by omega),aI,iI hk hu hn,aJ];cases gP d with
   | false=>rfl
   | true =>simp only [eQ,aI,aU];rw [aF h2 (by omega)];rw [Int.sub_zero] at h4;rw [h4]
def aB (p:ByteArray) (n:Int):ByteArray:=bif decide ((1:Int)≤n∧n≤100000) then p++hZ n else ⟨#[]⟩
def aO:ByteArray:=⟨#[115,101,103]⟩
theorem c8 {k:Nat} (hk:2 ^ 50≤k) (n:Int):aa.f k n=some (aB aO n,()):=by
 unfold aa.f aa.t aB;rw [fC,aJ];by_cases c:(1:Int)≤n∧n≤100000
 · have hz:=ny (n:=n) (by omega) (by omega);rw [aK c];simp only [eQ,aI,aU];rw [s5 hk (by omega) (by omega),aJ,eL (by show 3+(hZ n).size≤_;omega)];rfl
 · rw [aN c];rfl
theorem wB (k:Nat) {p:ByteArray} (hp:p.size≤1000) (n:Int):kG.f k p n=some (aB p n,()):=by
 unfold kG.f kG.t aB;rw [iq,aJ];by_cases c:(1:Int)≤n∧n≤100000
 · have hz:=ny (n:=n) (by omega) (by omega);rw [aK c];simp only [eQ,aI,aU];rw [HG k (by omega) (by omega),aJ,eL (by show p.size+(hZ n).size≤_;omega)]
 · rw [aN c];rfl
theorem cr (k:Nat) (n:Int):ar.f k n=some (aB aO n,()):=by unfold ar.f ar.t;rw [wB k (by decide) n];rfl
structure uN (d:Ty.d aA):Prop where
 l:d.1.length≤1073741824
 u:dS d.1≤1073741824
 n:s9 d.1≤1073741824
end Go.Proofs.YtijlgdoiofdmhaaGreatDoor.G
namespace Go.V
theorem ze:∀ a b c:List UInt8,Op.bytesLess a b=true→Op.bytesLess b c=true→Op.bytesLess a c=true
 | a,b,[],_,h2=>by cases b <;> simp [Op.bytesLess] at h2
 | [],b,z::c,_,_=>by simp [Op.bytesLess]
 | x::a,[],z::c,h1,_=>by simp [Op.bytesLess] at h1
 | x::a,y::b,z::c,h1,h2=>by
  simp only [Op.bytesLess] at h1 h2 ⊢;have ih:=ze a b c;simp only [Bool.or_eq_true,lP,decide_eq_true_eq,beq_iff_eq] at h1 h2 ⊢;rcases h1 with g1 | ⟨rfl,g1⟩
  · rcases h2 with g2 | ⟨rfl,g2⟩
    · exact Or.inl (UInt8.lt_trans g1 g2)
    · exact Or.inl g1
  · rcases h2 with g2 | ⟨rfl,g2⟩
    · exact Or.inl g2
    · exact Or.inr ⟨rfl,ih g1 g2⟩
theorem wn {a b c:ByteArray} (h1:ox a b=true) (h2:ox b c=true):ox a c=true:=ze _ _ _ h1 h2
theorem ul (a:ByteArray):ox a a=false:=by
 have:=nk a a;rw [cZ] at this;cases h:ox a a with
 | false=>rfl
 | true=>rw [h] at this;cases this
theorem IW {a b:ByteArray} (h:ox a b=true):ox b a=false:=by
 cases c:ox b a with
 | false=>rfl
 | true=>have:=wn h c;rw [ul] at this;cases this
def jp (K:List ByteArray):Prop:=K.Pairwise (fun a b=>ox a b=true)
end Go.V
namespace Go.Proofs.YtijlgdoiofdmhaaGreatDoor.G
open Go.V
def m4:bo→Ty.d aE→bo
 | [],f=>[f]
 | g::l,f=>bif ox f.1 g.1 then f::g::l else g::m4 l f
def jZ:bo→ByteArray→bo
 | [],_=>[]
 | g::l,s=>bif seq g.1 s then l else g::jZ l s
def nV (h:Ty.d aE→Ty.d aE):bo→ByteArray→bo
 | [],_=>[]
 | g::l,s=>bif seq g.1 s then h g::l else g::nV h l s
def jG (d:Ty.d aA):Ty.d aA × Int :=
 bif !gP d then (d,5) else bif d.2.2.2.1 then ((d.1,(d.2.1,(d.2.2.1,(true,())))),1) else bif (d.2.2.1==0) then ((d.1,(d.2.1,(d.2.2.1,(true,())))),1) else
 bif decide ((d.2.2.1:Int) > 0) then ((d.1,(d.2.1,(aH (d.2.2.1-1),d.2.2.2))),0) else (d,0)
def iZ (d:Ty.d aA) (g:bo→Int→bo × Int):Ty.d aA × Int :=
 bif (jG d).2 != 0 then jG d else (((g d.1 d.2.1).1,(jG d).1.2),(g d.1 d.2.1).2)
def wc (s:ByteArray) (l:bo) (c:Int):bo × Int :=
 bif !kq s then (l,5) else bif (cB l s).isSome then (l,4) else bif decide ((l.length:Int)≥130) then (l,2) else (m4 l (s,(ByteArray.empty,(0,()))),0)
def AK (s t:ByteArray) (l:bo) (c:Int):bo × Int :=
 bif (cB l s).isNone then (l,3) else bif decide ((t.size:Int) > aH (c-(dS l:Int))) then (l,2) else (nV (fun f=>(f.1,(f.2.1++t,f.2.2))) l s,0)
def Av (s:ByteArray) (l:bo) (c:Int):bo × Int :=
 bif (cB l s).isNone then (l,3) else (nV (fun f=>(f.1,(f.2.1,((f.2.1.size:Int),f.2.2.2)))) l s,0)
def y_ (a b:ByteArray) (l:bo) (c:Int):bo × Int :=
 bif !kq b then (l,5) else match cB l a with
 | none=>(l,3)
 | some f=>bif seq a b then (l,0) else (m4 (jZ (jZ l a) b) (b,f.2),0)
def vn (s:ByteArray) (l:bo) (c:Int):bo × Int :=
 bif (cB l s).isNone then (l,3) else (jZ l s,0)
def B3 (s:ByteArray) (n:Int) (l:bo) (c:Int):bo × Int :=
 match cB l s with
 | none=>(l,3)
 | some f=>bif !decide (0≤n∧n≤(f.2.1.size:Int)) then (l,5) else (nV (fun f=>(f.1,(ByteArray.extract f.2.1 0 n.toNat,((if n<f.2.2.1 then n else f.2.2.1),f.2.2.2)))) l s,0)
def vF (d:Ty.d aA) (s:ByteArray):=iZ d (wc s)
def j3 (d:Ty.d aA) (s t:ByteArray):=iZ d (AK s t)
def jB (d:Ty.d aA) (s:ByteArray):=iZ d (Av s)
def wq (d:Ty.d aA) (a b:ByteArray):=iZ d (y_ a b)
def rO (d:Ty.d aA) (s:ByteArray):=iZ d (vn s)
def oW (d:Ty.d aA) (s:ByteArray) (n:Int):=iZ d (B3 s n)
theorem ru (d:Ty.d aA):(jG d).1.1=d.1:=by unfold jG;cases gP d <;> cases d.2.2.2.1 <;> cases d.2.2.1==0 <;> cases decide ((d.2.2.1:Int) > 0) <;> rfl
theorem KN (d:Ty.d aA):(jG d).1.2.1=d.2.1:=by unfold jG;cases gP d <;> cases d.2.2.2.1 <;> cases d.2.2.1==0 <;> cases decide ((d.2.2.1:Int) > 0) <;> rfl
theorem iL:∀ (l:bo) (s:ByteArray) (j:Int),(cB l s=none∧mO l s j = -1∧jZ l s=l∧∀ h,nV h l s=l) ∨
 (∃ n:Nat,n<l.length∧mO l s j=j+n∧cB l s=some (l.getD n (Ty.z aE))∧l.take n++l.drop (n+1)=jZ l s∧(l.getD n (Ty.z aE)).1=s∧(∀ h,l.set n (h (l.getD n (Ty.z aE)))=nV h l s))
 | [],s,j => .inl ⟨rfl,rfl,rfl,fun _=>rfl⟩
 | g::l,s,j=>by
  unfold mO cB jZ nV;cases c:seq g.1 s with
  | true =>refine .inr ⟨0,by rw [lq];omega,?_,rfl,rfl,dT.1 c,fun h=>rfl⟩;show j=j+((0:Nat):Int);omega
  | false =>
   simp only [aI];rcases iL l s (j+1) with ⟨h1,h2,h3,h4⟩ | ⟨n,h1,h2,h3,h4,h5,h6⟩
   · exact .inl ⟨h1,h2,by rw [h3],fun h=>by rw [h4]⟩
   · refine .inr ⟨n+1,by rw [lq];omega,by rw [h2];omega,h3,?_,h5,fun h=>?_⟩
     · rw [List.take_succ_cons,List.drop_succ_cons,List.cons_append,h4]
     · show g::l.set n (h (l.getD n (Ty.z aE)))=_;rw [h6]
def FO (f:Ty.d aE):Prop:=kq f.1=true∧LE.le (α:=Int) 0 f.2.2.1∧LE.le (α:=Int) f.2.2.1 f.2.1.size
def mJ (l:bo):List ByteArray:=l.map (·.1)
theorem Ey:∀ (l:bo) (p:Option (Ty.d aE)),sD oU p l=true↔((∀ f ∈ l,FO f)∧jp (mJ l)∧(∀ q,p=some q→∀ f ∈ l,ox q.1 f.1=true))
 | [],p=>by
  constructor
  · intro _;exact ⟨fun f h=>(by cases h),List.Pairwise.nil,fun q _ f h=>(by cases h)⟩
  · intro _;rfl
 | g::l,p=>by
  have ih:=Ey l (some g);unfold sD;rw [lP,ih];have hf:oU p g=true↔(FO g∧(∀ q,p=some q→ox q.1 g.1=true)):=by
   unfold oU FO;rw [lP,lP,decide_eq_true_eq];cases p with
   | none=>exact ⟨fun h=>⟨⟨h.1,h.2.1⟩,fun q hq=>(by cases hq)⟩,fun h=>⟨h.1.1,h.1.2,rfl⟩⟩
   | some q=>exact ⟨fun h=>⟨⟨h.1,h.2.1⟩,fun q' hq=>(by cases hq;exact h.2.2)⟩,fun h=>⟨h.1.1,h.1.2,h.2 q rfl⟩⟩
  rw [hf];constructor
  · rintro ⟨⟨h1,h2⟩,h3,h4,h5⟩
    refine ⟨fun f hf=>?_,?_,fun q hq f hf=>?_⟩
    · rcases List.mem_cons.1 hf with e | e
      · rw [e];exact h1
      · exact h3 f e
    · unfold jp mJ;rw [List.map_cons,List.pairwise_cons];refine ⟨fun x hx=>?_,h4⟩;obtain ⟨f,hf,rfl⟩:=List.mem_map.1 hx;exact h5 g rfl f hf
    · rcases List.mem_cons.1 hf with e | e
      · rw [e];exact h2 q hq
      · exact wn (h2 q hq) (h5 g rfl f e)
  · rintro ⟨h1,h2,h3⟩
    unfold jp mJ at h2;rw [List.map_cons,List.pairwise_cons] at h2;refine ⟨⟨h1 g (sM ..),fun q hq=>h3 q hq g (sM ..)⟩,fun f hf=>h1 f (wW _ hf),h2.2,fun q hq f hf=>?_⟩;cases hq;exact h2.1 f.1 (List.mem_map.2 ⟨f,hf,rfl⟩)
structure DR (d:Ty.d aA):Prop where
 len:d.1.length≤130
 cap0:LE.le (α:=Int) 0 d.2.1
 cap1:LE.le (α:=Int) d.2.1 100000
 fu0:LE.le (α:=Int) (-1) d.2.2.1
 fu1:LE.le (α:=Int) d.2.2.1 100000
 use:LE.le (α:=Int) (dS d.1) d.2.1
 all:∀ f ∈ d.1,FO f
 keys:jp (mJ d.1)
theorem lH {d:Ty.d aA}:gP d=true↔DR d:=by
 unfold gP;rw [lP,lP,lP,lP,decide_eq_true_eq,decide_eq_true_eq,decide_eq_true_eq,decide_eq_true_eq,Ey];constructor
 · rintro ⟨h1,⟨h2,h3⟩,⟨h4,h5⟩,h6,h7,h8,_⟩
   exact ⟨h1,h2,h3,h4,h5,h6,h7,h8⟩
 · intro h;exact ⟨h.len,⟨h.cap0,h.cap1⟩,⟨h.fu0,h.fu1⟩,h.use,h.all,h.keys,fun q hq=>(by cases hq)⟩
theorem Gq {s:ByteArray} (h:kq s=true):1≤s.size∧s.size≤12:=by unfold kq at h;rw [lP,decide_eq_true_eq] at h;exact h.2
theorem EO:∀ l:bo,(∀ f ∈ l,FO f)→s9 l≤12*l.length
 | [],_=>Nat.le_refl _
 | f::l,h=>by
  have:=EO l fun g hg=>h g (wW _ hg)
  have:=(Gq (h f (sM ..)).1).2;rw [zp,lq];omega
theorem DR.sz {d:Ty.d aA} (h:DR d):uN d:=by have h1:=h.len;have h2:=h.use;have h3:=h.cap1;have h4:=EO d.1 h.all;exact ⟨by omega,by omega,by omega⟩
theorem Cq {l:bo} {f x:Ty.d aE}:x ∈ m4 l f↔x=f∨x ∈ l:=by
 induction l with
 | nil=>simp [m4]
 | cons g l ih =>
  unfold m4;cases ox f.1 g.1
  · simp only [aI,List.mem_cons,ih];exact ⟨fun h=>h.elim (fun q => .inr (.inl q)) (fun q=>q.elim .inl (fun q => .inr (.inr q))),fun h=>h.elim (fun q => .inr (.inl q)) (fun q=>q.elim .inl (fun q => .inr (.inr q)))⟩
  · simp only [aU,List.mem_cons]
theorem om:∀ (l:bo) (s:ByteArray),(jZ l s).Sublist l
 | [],s=>List.Sublist.slnil
 | g::l,s=>by
  unfold jZ;cases seq g.1 s
  · exact (om l s).cons_cons g
  · exact (List.Sublist.refl l).cons g
theorem IB {h:Ty.d aE→Ty.d aE} (hh:∀ f,(h f).1=f.1):∀ (l:bo) (s:ByteArray),mJ (nV h l s)=mJ l
 | [],s=>rfl
 | g::l,s=>by
  unfold nV;cases seq g.1 s
  · show g.1::mJ (nV h l s)=g.1::mJ l;rw [IB hh l s]
  · show (h g).1::mJ l=g.1::mJ l;rw [hh]
theorem A5 {h:Ty.d aE→Ty.d aE} (hh:∀ f,(h f).1=f.1) {l:bo} {s:ByteArray} (hk:jp (mJ l)):jp (mJ (nV h l s)):=by rw [IB hh];exact hk
theorem yX {h:Ty.d aE→Ty.d aE}:∀ {l:bo} {s:ByteArray} {x:Ty.d aE},x ∈ nV h l s→x ∈ l∨∃ f,cB l s=some f∧x=h f
 | [],s,x,hx => .inl hx
 | g::l,s,x,hx=>by
  unfold nV at hx;unfold cB;cases c:seq g.1 s with
  | true =>
   rw [c,aU] at hx;rcases List.mem_cons.1 hx with e | e
   · exact .inr ⟨g,rfl,e⟩
   · exact .inl (wW _ e)
  | false =>
   rw [c,aI] at hx;rcases List.mem_cons.1 hx with e | e
   · exact .inl (by rw [e];exact sM ..)
   · rcases yX e with q | ⟨f,q1,q2⟩
     · exact .inl (wW _ q)
     · exact .inr ⟨f,q1,q2⟩
theorem vW {h:Ty.d aE→Ty.d aE}:∀ {l:bo} {s:ByteArray} {f:Ty.d aE},cB l s=some f→dS (nV h l s)+f.2.1.size=dS l+(h f).2.1.size
 | [],s,f,hf=>by cases hf
 | g::l,s,f,hf=>by
  unfold cB at hf;unfold nV;cases c:seq g.1 s with
  | true =>rw [c] at hf;cases hf;rw [aU,fe,fe];omega
  | false =>rw [c] at hf;have:=vW (h:=h) hf;rw [aI,fe,fe];omega
theorem Au:∀ (l:bo) (f:Ty.d aE),dS (m4 l f)=dS l+f.2.1.size
 | [],f=>by unfold m4;rw [fe,zR,Nat.add_comm]
 | g::l,f=>by
  unfold m4;cases ox f.1 g.1
  · rw [aI,fe,fe,Au l f];omega
  · rw [aU,fe,fe];omega
theorem AD:∀ {l:bo} {s:ByteArray} {f:Ty.d aE},cB l s=some f→dS (jZ l s)+f.2.1.size=dS l
 | [],s,f,hf=>by cases hf
 | g::l,s,f,hf=>by
  unfold cB at hf;unfold jZ;cases c:seq g.1 s with
  | true=>rw [c] at hf;cases hf;rw [aU,fe];omega
  | false =>rw [c] at hf;have:=AD hf;rw [aI,fe,fe];omega
theorem xj (l:bo) (s:ByteArray):dS (jZ l s)≤dS l:=by
 cases h:cB l s with
 | some f=>have:=AD h;omega
 | none =>
  rcases iL l s 0 with ⟨_,_,h3,_⟩ | ⟨n,_,_,h3,_⟩
  · rw [h3];exact Nat.le_refl _
  · rw [h] at h3;cases h3
theorem Cf:∀ (l:bo) (f:Ty.d aE),(m4 l f).length=l.length+1
 | [],f=>rfl
 | g::l,f=>by
  unfold m4;cases ox f.1 g.1
  · rw [aI,lq,Cf l f,lq]
  · rw [aU,lq,lq]
theorem yN (h:Ty.d aE→Ty.d aE):∀ (l:bo) (s:ByteArray),(nV h l s).length=l.length
 | [],s=>rfl
 | g::l,s=>by
  unfold nV;cases seq g.1 s
  · rw [aI,lq,yN h l s,lq]
  · rw [aU,lq,lq]
theorem oC:∀ {l:bo} {s:ByteArray} {f:Ty.d aE},cB l s=some f→f ∈ l∧f.1=s
 | [],s,f,h=>by cases h
 | g::l,s,f,h=>by
  unfold cB at h;cases c:seq g.1 s with
  | true=>rw [c] at h;cases h;exact ⟨sM ..,dT.1 c⟩
  | false =>rw [c] at h;exact ⟨wW _ (oC h).1,(oC h).2⟩
theorem pP:∀ {l:bo} {s:ByteArray},cB l s=none↔∀ f ∈ l,f.1≠s
 | [],s=>⟨fun _ f h=>(by cases h),fun _=>rfl⟩
 | g::l,s=>by
  unfold cB;cases c:seq g.1 s with
  | true =>
   constructor
   · intro h;cases h
   · intro h;exact absurd (dT.1 c) (h g (sM ..))
  | false =>
   rw [aI,pP];constructor
   · intro h f hf;rcases List.mem_cons.1 hf with e | e
     · rw [e];intro q;rw [Fz q] at c;cases c
     · exact h f e
   · intro h f hf;exact h f (wW _ hf)
theorem zg {f:Ty.d aE}:∀ {l:bo},jp (mJ l)→(∀ g ∈ l,g.1≠f.1)→jp (mJ (m4 l f))
 | [],_,_=>by unfold m4;exact List.pairwise_singleton ..
 | g::l,h,hn=>by
  unfold jp mJ at h;rw [List.map_cons,List.pairwise_cons] at h;unfold m4;cases c:ox f.1 g.1 with
  | true =>
   rw [aU];unfold jp mJ;rw [List.map_cons,List.pairwise_cons];refine ⟨fun x hx=>?_,by rw [List.map_cons,List.pairwise_cons];exact h⟩;rw [List.map_cons] at hx;rcases List.mem_cons.1 hx with e | e
   · rw [e];exact c
   · exact wn c (h.1 x e)
  | false =>
   rw [aI];have ih:=zg (f:=f) (l:=l) h.2 fun g' hg=>hn g' (wW _ hg)
   unfold jp mJ;rw [List.map_cons,List.pairwise_cons];refine ⟨fun x hx=>?_,ih⟩;obtain ⟨y,hy,rfl⟩:=List.mem_map.1 hx;rcases Cq.1 hy with e | e
   · rw [e];have ht:=nk g.1 f.1;rw [c,n8 (hn g (sM ..))] at ht;cases q:ox g.1 f.1 with
     | true=>rfl
     | false=>rw [q] at ht;cases ht
   · exact h.1 y.1 (List.mem_map.2 ⟨y,e,rfl⟩)
theorem tF {l m:bo} (h:m.Sublist l) (hk:jp (mJ l)):jp (mJ m):=List.Pairwise.sublist (h.map _) hk
theorem M5 {l:bo} (hk:jp (mJ l)) {s:ByteArray} {f:Ty.d aE} (h:cB l s=some f):cB (jZ l s) s=none:=by
 induction l with
 | nil=>cases h
 | cons g l ih =>
  unfold jp mJ at hk;rw [List.map_cons,List.pairwise_cons] at hk;unfold cB at h;unfold jZ;cases c:seq g.1 s with
  | true =>rw [aU,pP];intro x hx e;have:=hk.1 x.1 (List.mem_map.2 ⟨x,hx,rfl⟩);rw [e,dT.1 c,ul] at this;cases this
  | false =>rw [c] at h;rw [aI];unfold cB;rw [c,aI];exact ih hk.2 h
theorem vh {l:bo} (hk:jp (mJ l)) (s:ByteArray):cB (jZ l s) s=none:=by
 cases h:cB l s with
 | some f=>exact M5 hk h
 | none =>
  rcases iL l s 0 with ⟨h1,_,h3,_⟩ | ⟨n,_,_,h3,_⟩
  · rw [h3];exact h1
  · rw [h] at h3;cases h3
def GR (g:bo→Int→bo × Int):Prop:=∀ l c,l.length≤130→(0:Int)≤c→c≤100000→(dS l:Int)≤c→(∀ f ∈ l,FO f)→jp (mJ l) →
 (g l c).1.length≤130∧(dS (g l c).1:Int)≤c∧(∀ f ∈ (g l c).1,FO f)∧jp (mJ (g l c).1)
theorem M7 {d:Ty.d aA} (h:DR d):DR (jG d).1:=by
 have hd:=lH.2 h;have g0:=h.fu0;have g1:=h.fu1;unfold jG;rw [hd];cases c1:d.2.2.2.1 with
 | true=>exact ⟨h.len,h.cap0,h.cap1,h.fu0,h.fu1,h.use,h.all,h.keys⟩
 | false =>
  cases c2:d.2.2.1==0 with
  | true=>exact ⟨h.len,h.cap0,h.cap1,h.fu0,h.fu1,h.use,h.all,h.keys⟩
  | false =>
   by_cases c3:(d.2.2.1:Int) > 0
   · have e:∀ x:Int,x > 0→x≤100000 → -1≤aH (x-1)∧aH (x-1)≤100000:=fun x q1 q2=>by
      rw [aC (by omega) (by omega)];omega
     have e:=e d.2.2.1 c3 g1;rw [aK c3];exact ⟨h.len,h.cap0,h.cap1,e.1,e.2,h.use,h.all,h.keys⟩
   · rw [aN c3];exact h
theorem ta {g:bo→Int→bo × Int} (hg:GR g) {d:Ty.d aA} (h:DR d):DR (iZ d g).1:=by
 have hb:=M7 h;unfold iZ;cases c:(jG d).2 != 0 with
 | true=>exact hb
 | false =>have hk:(jG d).1.2.1=d.2.1:=KN d;obtain ⟨g1,g2,g3,g4⟩:=hg d.1 d.2.1 h.len h.cap0 h.cap1 h.use h.all h.keys;exact ⟨g1,hb.cap0,hb.cap1,hb.fu0,hb.fu1,by show (dS (g d.1 d.2.1).1:Int)≤(jG d).1.2.1;rw [hk];exact g2,g3,g4⟩
theorem Mt (s:ByteArray):GR (wc s):=by
 intro l c h1 h2 h3 h4 h5 h6;unfold wc;cases hn:kq s with
 | false=>exact ⟨h1,h4,h5,h6⟩
 | true =>
  cases hs:(cB l s).isSome with
  | true=>exact ⟨h1,h4,h5,h6⟩
  | false =>
   by_cases hl:(l.length:Int)≥130
   · rw [aK hl];exact ⟨h1,h4,h5,h6⟩
   · rw [aN hl];have hnone:cB l s=none:=by
      cases q:cB l s with
      | none=>rfl
      | some f=>rw [q] at hs;cases hs
     refine ⟨by show (m4 l _).length≤130;rw [Cf];omega,by show (dS (m4 l _):Int)≤c;rw [Au];exact h4,fun f hf=>?_,zg h6 (pP.1 hnone)⟩;rcases Cq.1 hf with e | e
     · rw [e];exact ⟨hn,Int.le_refl _,by show (0:Int)≤_;omega⟩
     · exact h5 f e
theorem Mv (s t:ByteArray):GR (AK s t):=by
 intro l c h1 h2 h3 h4 h5 h6;unfold AK;cases hs:cB l s with
 | none=>exact ⟨h1,h4,h5,h6⟩
 | some f =>
  simp only [Option.isNone_some,aI];rw [aC (by omega) (by omega)];by_cases ht:(t.size:Int) > c-(dS l:Int)
  · rw [aK ht];exact ⟨h1,h4,h5,h6⟩
  · rw [aN ht];have hu:=vW (h:=fun f=>(f.1,(f.2.1++t,f.2.2))) hs;have hz:(f.2.1++t).size=f.2.1.size+t.size:=ByteArray.size_append ..;simp only [hz] at hu;refine ⟨by show (nV _ l s).length≤130;rw [yN];exact h1,by show (dS (nV _ l s):Int)≤c;omega,fun x hx=>?_,A5 (by intro f;rfl) h6⟩;rcases yX hx with q | ⟨y,q1,q2⟩
    · exact h5 x q
    · obtain ⟨a,b,c'⟩:=h5 y (oC q1).1;rw [q2];refine ⟨a,b,?_⟩;show LE.le (α:=Int) y.2.2.1 ((y.2.1++t).size:Int);have:(y.2.1++t).size=y.2.1.size+t.size:=ByteArray.size_append ..;omega
theorem NF (s:ByteArray):GR (Av s):=by
 intro l c h1 h2 h3 h4 h5 h6;unfold Av;cases hs:cB l s with
 | none=>exact ⟨h1,h4,h5,h6⟩
 | some f =>
  simp only [Option.isNone_some,aI];have hu:=vW (h:=fun f=>(f.1,(f.2.1,((f.2.1.size:Int),f.2.2.2)))) hs;refine ⟨by show (nV _ l s).length≤130;rw [yN];exact h1,by show (dS (nV _ l s):Int)≤c;simp only [] at hu;omega,fun x hx=>?_,A5 (by intro f;rfl) h6⟩;rcases yX hx with q | ⟨y,q1,q2⟩
  · exact h5 x q
  · obtain ⟨a,b,c'⟩:=h5 y (oC q1).1;rw [q2];exact ⟨a,by show (0:Int)≤(y.2.1.size:Int);omega,Int.le_refl _⟩
theorem Mp (s:ByteArray):GR (vn s):=by
 intro l c h1 h2 h3 h4 h5 h6;unfold vn;cases hs:cB l s with
 | none=>exact ⟨h1,h4,h5,h6⟩
 | some f =>have hd:=om l s;have hu:=xj l s;exact ⟨Nat.le_trans hd.length_le h1,by show (dS (jZ l s):Int)≤c;omega,fun x hx=>h5 x (hd.subset hx),tF hd h6⟩
theorem wa (s:ByteArray) {n:Nat} (h:n≤s.size):(ByteArray.extract s 0 n).size=n:=by rw [ByteArray.size_extract];omega
theorem Mm (s:ByteArray) (n:Int):GR (B3 s n):=by
 intro l c h1 h2 h3 h4 h5 h6;unfold B3;cases hs:cB l s with
 | none=>exact ⟨h1,h4,h5,h6⟩
 | some f =>
  simp only [];by_cases hn:0≤n∧n≤(f.2.1.size:Int)
  · rw [aK hn];have hu:=vW (h:=fun f=>(f.1,(ByteArray.extract f.2.1 0 n.toNat,((if n<f.2.2.1 then n else f.2.2.1),f.2.2.2)))) hs;have hz:=wa f.2.1 (n:=n.toNat) (by omega);simp only [hz] at hu;refine ⟨by show (nV _ l s).length≤130;rw [yN];exact h1,by show (dS (nV _ l s):Int)≤c;omega,fun x hx=>?_,A5 (by intro f;rfl) h6⟩;rcases yX hx with q | ⟨y,q1,q2⟩
    · exact h5 x q
    · rw [hs] at q1;cases q1;obtain ⟨a,b,c'⟩:=h5 f (oC hs).1;rw [q2];refine ⟨a,?_,?_⟩
      · show (0:Int)≤if n<f.2.2.1 then n else f.2.2.1
        split <;> omega
      · show (if n<f.2.2.1 then n else f.2.2.1)≤((ByteArray.extract f.2.1 0 n.toNat).size:Int);rw [hz];split <;> omega
  · rw [aN hn];exact ⟨h1,h4,h5,h6⟩
theorem MZ (a b:ByteArray):GR (y_ a b):=by
 intro l c h1 h2 h3 h4 h5 h6;unfold y_;cases hn:kq b with
 | false=>exact ⟨h1,h4,h5,h6⟩
 | true =>
  simp only [eQ,aI];cases hs:cB l a with
  | none=>exact ⟨h1,h4,h5,h6⟩
  | some f =>
   simp only [];cases seq a b with
   | true=>exact ⟨h1,h4,h5,h6⟩
   | false =>
    simp only [aI];have hd:=om l a;have hd2:=om (jZ l a) b;have hu:=AD hs;have hu2:=xj (jZ l a) b;have hk2:=tF (hd2.trans hd) h6;have hl:=iL l a 0;have hlen:(jZ l a).length+1=l.length:=by
     rcases iL l a 0 with ⟨q,_⟩ | ⟨n,q1,_,_,q4,_⟩
     · rw [hs] at q;cases q
     · rw [← q4,sF,List.length_take,List.length_drop];omega
    have hlen2:=hd2.length_le;refine ⟨by rw [Cf];omega,by rw [Au];show ((dS (jZ (jZ l a) b)+f.2.1.size:Nat):Int)≤c;omega,fun x hx=>?_,zg hk2 (pP.1 (vh (tF hd h6) b))⟩;rcases Cq.1 hx with e | e
    · rw [e];exact ⟨hn,(h5 f (oC hs).1).2.1,(h5 f (oC hs).1).2.2⟩
    · exact h5 x ((hd2.trans hd).subset e)
theorem CV {d:Ty.d aA} (h:DR d) (s:ByteArray):DR (vF d s).1:=ta (Mt s) h
theorem rQ {d:Ty.d aA} (h:DR d) (s t:ByteArray):DR (j3 d s t).1:=ta (Mv s t) h
theorem oY {d:Ty.d aA} (h:DR d) (s:ByteArray):DR (jB d s).1:=ta (NF s) h
theorem NZ {d:Ty.d aA} (h:DR d) (a b:ByteArray):DR (wq d a b).1:=ta (MZ a b) h
theorem DU {d:Ty.d aA} (h:DR d) (s:ByteArray):DR (rO d s).1:=ta (Mp s) h
theorem Aa {d:Ty.d aA} (h:DR d) (s:ByteArray) (n:Int):DR (oW d s n).1:=ta (Mm s n) h
theorem ju (k:Nat) {d:Ty.d aA} (hd:uN d):cC.f k d=some (d,()):=by have hl:=hd.l;unfold cC.f cC.t;rw [b7 (by omega) (by decide),List.nil_append]
theorem m8 {k:Nat} (hk:2 ^ 50≤k) {d:Ty.d aA} (hd:uN d):dZ.f k d=some ((jG d).1,((jG d).2,())):=by have hu:=hd.u;have hn:=hd.n;unfold dZ.f dZ.t jG;rw [ju k hd,aJ,kB hk (by omega) (by omega),aJ];cases gP d <;> cases d.2.2.2.1 <;> cases d.2.2.1==0 <;> cases decide ((d.2.2.1:Int) > 0) <;> rfl
theorem qa {k:Nat} (hk:2 ^ 50≤k) {l:bo} (f:Ty.d aE) (hl:l.length≤1073741824):dm.f k l f=some (m4 l f,()):=by
 unfold dm.f dm.t;refine (dG (L:=fun n i (s:Bool × bo)=>dm.l0 k n l s.1 i f.1 f.2.1 f.2.2.1 s.2) (R:=fun r s=>some (s.2++(bif s.1 then r else m4 r f),())) (Ty.z aE) l (fun i s=>(s.2.length:Int)≤i+1∧(s.1=false→(s.2.length:Int)≤i)) (fun n s hs=>?_) (fun n i s x rest h0 h1 hx hr hs ih=>?_) (n:=k) (s:=(false,[])) (by omega) ⟨by simp,by simp⟩).trans ?_
 · obtain ⟨b,o⟩:=s;simp only [] at hs;simp only [dm.l0,dm.b0];rw [aN (by omega),aI];cases b with
   | true=>simp only [eQ,aI,aU,List.append_nil]
   | false=>simp only [rB,aI,aU];rw [b7 (by omega) (by decide)];rfl
 · obtain ⟨b,o⟩:=s;simp only [] at hs ih;simp only [dm.l0,dm.b0];rw [aK h1,aU];have hlo:(o++[(f.1,(f.2.1,(f.2.2.1,())))]).length=o.length+1:=by simp
   obtain ⟨hs1,hs2⟩:=hs;simp (disch:=first | omega | decide) only [aF,hx,b7,aC,nk,Bool.not_not];cases b with
   | true =>have i1:=ih (true,o++[x]) ⟨by simp only [bK];omega,fun q=>(by cases q)⟩;simp only [] at i1;simp only [eQ,aI,aU];rw [i1];simp only [aU,py,List.singleton_append]
   | false =>
    have hs2:=hs2 rfl;have i2:=ih (false,o++[x]) ⟨by simp only [bK];omega,fun _=>by simp only [bK];omega⟩;simp only [] at i2;simp only [rB,aU,aI];unfold m4;cases c:ox f.1 x.1 with
    | true =>simp only [aU];have i3:=ih (true,(o++[(f.1,(f.2.1,(f.2.2.1,())))])++[x]) ⟨by simp only [bK];omega,fun q=>(by cases q)⟩;simp only [] at i3;rw [i3];simp only [aU,py,List.singleton_append];rfl
    | false =>simp only [aI];rw [i2];simp only [aI,py,List.singleton_append]
 · simp only [aI,List.nil_append]
theorem pR (k:Nat) {l:bo} {n:Nat} (hn:n<l.length) (hl:l.length≤1073741824):fo.f k l (n:Int)=some (l.take n++l.drop (n+1),()):=by
 unfold fo.f fo.t;have e:aH ((n:Int)+1)=((n+1:Nat):Int):=by rw [aC (by omega) (by omega)];omega
 rw [e,p5,p5,bv (by omega) (by omega),bv (by omega) (by omega),b7 (by rw [List.length_take];omega) (by decide),b7 (by rw [sF,List.length_take,List.length_drop];simp only [List.length_nil];omega) (by decide),List.nil_append]
theorem p8 (d:Ty.d aA):∃ b2,(jG d).1=(d.1,b2):=⟨(jG d).1.2,Prod.ext (ru d) rfl⟩
theorem uy {k:Nat} (hk:2 ^ 50≤k) {d:Ty.d aA} (hd:uN d) {s:ByteArray} (hs:s.size≤1099511627776):iv.f k d s=some ((vF d s).1,((vF d s).2,())):=by
 have hl:=hd.l;unfold iv.f iv.t vF iZ;rw [m8 hk hd,aJ];obtain ⟨b2,hb⟩:=p8 d;simp only [hb];cases c:(jG d).2 != 0 with
 | true=>rw [aU,aU,hb]
 | false =>
  rw [aI,aI,pr hk hs,aJ];unfold wc;cases kq s with
  | false=>rfl
  | true =>
   simp only [eQ,aI];rw [jP hk (by omega),aJ];rcases iL d.1 s 0 with ⟨h1,h2,_⟩ | ⟨n,h1,h2,h3,_⟩
   · rw [h1,h2];simp only [Option.isSome_none,aI];rw [aN (by decide),aI];by_cases cl:(d.1.length:Int)≥130
     · rw [aK cl];rfl
     · rw [aN cl,aI,aI,qa hk _ (by omega),aJ]
   · rw [h2,h3];simp only [Option.isSome_some,aU];rw [aK (by omega),aU]
theorem rl {k:Nat} (hk:2 ^ 50≤k) {d:Ty.d aA} (hd:uN d) (s:ByteArray) {t:ByteArray} (ht:t.size≤1099511627776):eo.f k d s t=some ((j3 d s t).1,((j3 d s t).2,())):=by
 have hl:=hd.l;have hu:=hd.u;unfold eo.f eo.t j3 iZ;rw [m8 hk hd,aJ];obtain ⟨b2,hb⟩:=p8 d;simp only [hb];cases c:(jG d).2 != 0 with
 | true=>rw [aU,aU,hb]
 | false =>
  rw [aI,aI,jP hk (by omega),aJ];unfold AK;rcases iL d.1 s 0 with ⟨h1,h2,_⟩ | ⟨n,h1,h2,h3,_,_,h6⟩
  · rw [h1,h2];simp only [Option.isNone_none,aU];rw [aK (by decide),aU]
  · rw [Int.zero_add] at h2;rw [h2,h3];simp only [Option.isNone_some,aI];rw [aN (by omega),aI,tA hk (by omega) (by omega),aJ];simp only [];cases decide ((t.size:Int) > aH (d.2.1-(dS d.1:Int))) with
    | true=>rfl
    | false =>have hm:=tI (oC h3).1;rw [aI,aI,p5,aF (by omega) (by omega),aF (by omega) (by omega),eL (Nat.le_trans (Nat.add_le_add (Nat.le_trans hm hu) ht) (by decide)),← h6]
theorem np {k:Nat} (hk:2 ^ 50≤k) {d:Ty.d aA} (hd:uN d) (s:ByteArray):fN.f k d s=some ((jB d s).1,((jB d s).2,())):=by
 have hl:=hd.l;unfold fN.f fN.t jB iZ;rw [m8 hk hd,aJ];obtain ⟨b2,hb⟩:=p8 d;simp only [hb];cases c:(jG d).2 != 0 with
 | true=>rw [aU,aU,hb]
 | false =>
  rw [aI,aI,jP hk (by omega),aJ];unfold Av;rcases iL d.1 s 0 with ⟨h1,h2,_⟩ | ⟨n,h1,h2,h3,_,_,h6⟩
  · rw [h1,h2];simp only [Option.isNone_none,aU];rw [aK (by decide),aU]
  · rw [Int.zero_add] at h2;rw [h2,h3];simp only [Option.isNone_some,aI];rw [aN (by omega),aI,p5,aF (by omega) (by omega),aF (by omega) (by omega),← h6]
theorem GH {k:Nat} (hk:2 ^ 50≤k) {d:Ty.d aA} (hd:uN d) (a:ByteArray) {b:ByteArray} (hs:b.size≤1099511627776):kl.f k d a b=some ((wq d a b).1,((wq d a b).2,())):=by
 have hl:=hd.l;unfold kl.f kl.t wq iZ;rw [m8 hk hd,aJ];obtain ⟨b2,hb⟩:=p8 d;simp only [hb];cases c:(jG d).2 != 0 with
 | true=>rw [aU,aU,hb]
 | false =>
  rw [aI,aI,pr hk hs,aJ];unfold y_;cases kq b with
  | false=>rfl
  | true =>
   simp only [eQ,aI];rw [jP hk (by omega),aJ];rcases iL d.1 a 0 with ⟨h1,h2,_⟩ | ⟨n,h1,h2,h3,h4,_,_⟩
   · rw [h1,h2];simp only [];rw [aK (by decide),aU]
   · rw [Int.zero_add] at h2;rw [h2,h3];simp only [];rw [aN (by omega),aI];cases seq a b with
     | true=>rfl
     | false =>
      have hd1:=(om d.1 a).length_le;rw [aI,aI,p5,aF (by omega) (by omega),pR k h1 (by omega),aJ,h4];simp only [];rw [jP hk (d:=(jZ d.1 a,b2)) (by show (jZ d.1 a).length≤_;omega),aJ];simp only [];rcases iL (jZ d.1 a) b 0 with ⟨g1,g2,g3,_⟩ | ⟨m,g1,g2,g3,g4,_⟩
      · rw [g2,g3,aN (by decide),aI,qa hk _ (by omega),aJ]
      · rw [Int.zero_add] at g2;have hd2:=(om (jZ d.1 a) b).length_le;rw [g2,aK (by omega),aU,pR k g1 (by omega),aJ,g4];simp only [];rw [qa hk _ (by omega),aJ]
theorem un {k:Nat} (hk:2 ^ 50≤k) {d:Ty.d aA} (hd:uN d) (s:ByteArray):fp.f k d s=some ((rO d s).1,((rO d s).2,())):=by
 have hl:=hd.l;unfold fp.f fp.t rO iZ;rw [m8 hk hd,aJ];obtain ⟨b2,hb⟩:=p8 d;simp only [hb];cases c:(jG d).2 != 0 with
 | true=>rw [aU,aU,hb]
 | false =>
  rw [aI,aI,jP hk (by omega),aJ];unfold vn;rcases iL d.1 s 0 with ⟨h1,h2,_⟩ | ⟨n,h1,h2,h3,h4,_⟩
  · rw [h1,h2];simp only [Option.isNone_none,aU];rw [aK (by decide),aU]
  · rw [Int.zero_add] at h2;rw [h2,h3];simp only [Option.isNone_some,aI];rw [aN (by omega),aI,pR k h1 (by omega),aJ,h4]
theorem vw {l:bo} {n:Nat} (h:n<l.length) (x z:Ty.d aE):(l.set n x).getD n z=x:=by simp [List.getD,h]
theorem set_set {l:bo} {n:Nat} (x y:Ty.d aE):(l.set n x).set n y=l.set n y:=by simp
theorem G5 {k:Nat} (hk:2 ^ 50≤k) {d:Ty.d aA} (hd:uN d) (s:ByteArray) (m:Int):jR.f k d s m=some ((oW d s m).1,((oW d s m).2,())):=by
 have hl:=hd.l;unfold jR.f jR.t oW iZ;rw [m8 hk hd,aJ];obtain ⟨b2,hb⟩:=p8 d;simp only [hb];cases c:(jG d).2 != 0 with
 | true=>rw [aU,aU,hb]
 | false =>
  rw [aI,aI,jP hk (by omega),aJ];unfold B3;rcases iL d.1 s 0 with ⟨h1,h2,_⟩ | ⟨n,h1,h2,h3,_,_,h6⟩
  · rw [h1,h2];simp only [];rw [aK (by decide),aU]
  · rw [Int.zero_add] at h2;rw [h2,h3];simp only [];rw [aN (by omega),aI,p5,aF (by omega) (by omega),fC,aJ];by_cases hm:0≤m∧m≤((d.1.getD n (Ty.z aE)).2.1.size:Int)
    · rw [aK hm];simp only [eQ,aI];rw [aF (by omega) (by omega),bv hm.1 hm.2,aF (by omega) (by omega),aF (by omega) (by omega),aF (by omega) (by rw [List.length_set];omega),vw h1,set_set,← h6]
    · rw [aN hm];rfl
theorem iA (k:Nat) {d:Ty.d aA} (hl:d.1.length≤1073741824):bE.f k d=some (d,()):=by unfold bE.f bE.t;rw [b7 (by omega) (by decide)]
theorem vU:∀ {l:bo} {a:ByteArray} {f:Ty.d aE},jp (mJ l)→cB l a=some f→m4 (jZ l a) (a,f.2)=l
 | [],a,f,_,h=>by cases h
 | g::l,a,f,hk,h=>by
  have hk':(∀ x ∈ mJ l,ox g.1 x=true)∧jp (mJ l):=List.pairwise_cons.1 hk;unfold cB at h;unfold jZ;cases c:seq g.1 a with
  | true =>
   rw [c] at h;cases h;rw [aU];have e:=dT.1 c;subst e;cases l with
   | nil=>rfl
   | cons x l =>have:=hk'.1 x.1 (sM ..);unfold m4;rw [this];rfl
  | false =>
   rw [c] at h;rw [aI];have hm:=oC h;have h1:ox g.1 a=true:=by have:=hk'.1 f.1 (List.mem_map.2 ⟨f,hm.1,rfl⟩);rw [hm.2] at this;exact this
   unfold m4;rw [IW h1,aI,vU hk'.2 h]
theorem sk {k:Nat} (hk:2 ^ 50≤k) {d:Ty.d aA} (hl:d.1.length≤1073741824) (s:ByteArray):fI.f k d s=some ((jZ d.1 s,d.2),()):=by
 unfold fI.f fI.t;rw [k7 hk (by omega),aJ];rcases iL d.1 s 0 with ⟨h1,h2,h3,_⟩ | ⟨n,h1,h2,h3,h4,_⟩
 · rw [h2,h3];simp only [];rw [aN (by decide),aI]
 · rw [Int.zero_add] at h2;rw [h2,← h4];have e:aH ((n:Int)+1)=((n+1:Nat):Int):=by rw [aC (by omega) (by omega)];omega
   simp only [e,p5];rw [aK (by omega),aU,bv (by omega) (by omega),b7 (by rw [List.length_take];omega) (by decide),bv (by omega) (by omega),b7 (by rw [List.length_take,List.length_drop];omega) (by decide)]
theorem A6 {k:Nat} (hk:2 ^ 50≤k) {d:Ty.d aA} (hl:d.1.length≤1073741824) (f:Ty.d aE) (hn:∀ g ∈ d.1,g.1≠f.1):dY.f k d f=some ((m4 d.1 f,d.2),()):=by
 unfold dY.f dY.t;have key:=Ir (L:=fun n i (_:Unit)=>dY.l0 k n i d.1 d.2.1 d.2.2.1 d.2.2.2.1 f.1 f.2.1 f.2.2.1) (R:=fun i _=>some ((d.1.take i.toNat++m4 (d.1.drop i.toNat) f,d.2),())) d.1.length (fun _ _=>True) (fun n _ _=>?_) (fun n i _ h0 h1 _ ih=>?_) k 0 () (by omega) (by omega) (by omega) trivial
 · rw [show (0:Int).toNat=0 from rfl,List.take_zero,List.nil_append,List.drop_zero] at key;exact key
 · simp only [dY.l0,dY.b0];rw [aN (by omega),aI,p5,bv (by omega) (by omega),b7 (by rw [List.length_take];omega) (by decide),b7 (by rw [List.length_take];omega) (by decide),bv (by omega) (by omega),b7 (by rw [sF,List.length_take,List.length_drop];simp only [List.length_singleton];omega) (by decide),List.drop_length,List.append_nil];rfl
 · have ih:=ih () trivial;have hlt:i.toNat<d.1.length:=by omega
   have e:d.1.drop i.toNat=d.1.getD i.toNat (Ty.z aE)::d.1.drop (i.toNat+1):=by rw [List.drop_eq_getElem_cons hlt];simp [List.getD,hlt]
   have hne:(d.1.getD i.toNat (Ty.z aE)).1≠f.1:=hn _ (fv hlt);have ht:=nk (d.1.getD i.toNat (Ty.z aE)).1 f.1;rw [n8 hne,Bool.or_false] at ht;simp only [dY.l0,dY.b0];rw [aK h1,aU,aF h0 h1,aC (n:=i+1) (by omega) (by omega),ih];rw [show m4 (d.1.drop i.toNat) f=bif ox f.1 (d.1.getD i.toNat (Ty.z aE)).1 then f::d.1.drop i.toNat else d.1.getD i.toNat (Ty.z aE)::m4 (d.1.drop (i.toNat+1)) f by rw [e];rfl];rw [show ox (List.getD d.1 i.toNat (Ty.z aE)).1 f.1=!ox f.1 (d.1.getD i.toNat (Ty.z aE)).1 from ht];cases c:ox f.1 (d.1.getD i.toNat (Ty.z aE)).1 with
   | false =>rw [show (i+1).toNat=i.toNat+1 by omega,kY (z:=Ty.z aE) hlt,py];rfl
   | true =>rw [eQ,aI,aU,bv h0 (by omega),b7 (by rw [List.length_take];omega) (by decide),b7 (by rw [List.length_take];omega) (by decide),bv h0 (by omega),b7 (by rw [sF,List.length_take,List.length_drop];simp only [List.length_singleton];omega) (by decide),py];rfl
theorem vS {k:Nat} (hk:2 ^ 50≤k) {d:Ty.d aA} (hl:d.1.length≤1073741824) (hu:dS d.1≤1073741824):iE.f k d=some ((dS d.1:Int),()):=by
 unfold iE.f iE.t;refine (dG (L:=fun n i s=>iE.l0 k n s d.1 d.1.length i) (R:=fun r s=>some (s+(dS r:Int),())) (Ty.z aE) d.1 (fun i s=>0≤s∧s+(dS (d.1.drop i.toNat):Int)≤1099511627776) (fun n s hs=>?_) (fun n i s x rest h0 h1 hx hr hp ih=>?_) (n:=k) (s:=0) (by omega) ⟨by omega,by rw [show d.1.drop (Int.toNat 0)=d.1 from rfl];omega⟩).trans (by rw [Int.zero_add])
 · simp (disch:=omega) only [iE.l0,iE.b0,aN,aI];show some (s,())=some (s+((0:Nat):Int),());rw [show s+((0:Nat):Int)=s by omega]
 · have hrest:d.1.drop (i+1).toNat=rest:=by
    have:=congrArg (List.drop 1) hr;rw [List.drop_drop,List.drop_one,List.tail_cons] at this;rw [show (i+1).toNat=i.toNat+1 by omega];exact this
   rw [hr,fe] at hp;have ih:=ih (s+(x.2.1.size:Int)) ⟨by omega,by rw [hrest];omega⟩;simp (disch:=omega) only [iE.l0,iE.b0,aK h1,aU,aF,hx,aC,ih];rw [show s+(x.2.1.size:Int)+(dS rest:Int)=s+((x.2.1.size+dS rest:Nat):Int) by omega];show _=some (s+((dS (x::rest):Nat):Int),());rw [fe]
theorem Jz {k:Nat} (hk:2 ^ 50≤k) {d:Ty.d aA} (hl:d.1.length≤1073741824) {s:ByteArray} (hs:s.size≤1099511627776) :
 gY.f k d s=some (((wc s d.1 d.2.1).1,d.2),(s,((wc s d.1 d.2.1).2,()))):=by
 unfold gY.f gY.t wc;rw [pt hk hs,aJ];cases kq s with
 | false=>rfl
 | true =>
  simp only [eQ,aI];rw [k7 hk (by omega),aJ];rcases iL d.1 s 0 with ⟨h1,h2,_⟩ | ⟨n,h1,h2,h3,_⟩
  · rw [h1,h2];simp only [Option.isSome_none,aI];rw [aN (by decide),aI];by_cases cl:(d.1.length:Int)≥130
    · rw [aK cl];rfl
    · rw [aN cl,aI,aI,A6 hk hl _ (pP.1 h1),aJ]
  · rw [h2,h3];simp only [Option.isSome_some,aU];rw [aK (by omega),aU]
theorem K_ {k:Nat} (hk:2 ^ 50≤k) {d:Ty.d aA} (hl:d.1.length≤1073741824) (hu:dS d.1≤1073741824) (s:ByteArray) {t:ByteArray} (ht:t.size≤1099511627776) :
 ga.f k d s t=some (((AK s t d.1 d.2.1).1,d.2),(s,(t,((AK s t d.1 d.2.1).2,())))):=by
 unfold ga.f ga.t AK;rw [k7 hk (by omega),aJ];rcases iL d.1 s 0 with ⟨h1,h2,_⟩ | ⟨n,h1,h2,h3,_,_,h6⟩
 · rw [h1,h2];simp only [Option.isNone_none,aU];rw [aK (by decide),aU]
 · rw [Int.zero_add] at h2;rw [h2,h3];simp only [Option.isNone_some,aI];rw [aN (by omega),aI,vS hk hl hu,aJ];simp only [];cases decide ((t.size:Int) > aH (d.2.1-(dS d.1:Int))) with
   | true=>rfl
   | false =>have hm:=tI (oC h3).1;rw [aI,aI,p5,aF (by omega) (by omega),eL (Nat.le_trans (Nat.add_le_add (Nat.le_trans hm hu) ht) (by decide)),aF (by omega) (by omega),← h6]
theorem K6 {k:Nat} (hk:2 ^ 50≤k) {d:Ty.d aA} (hl:d.1.length≤1073741824) (s:ByteArray) :
 il.f k d s=some (((Av s d.1 d.2.1).1,d.2),(s,((Av s d.1 d.2.1).2,()))):=by
 unfold il.f il.t Av;rw [k7 hk (by omega),aJ];rcases iL d.1 s 0 with ⟨h1,h2,_⟩ | ⟨n,h1,h2,h3,_,_,h6⟩
 · rw [h1,h2];simp only [Option.isNone_none,aU];rw [aK (by decide),aU]
 · rw [Int.zero_add] at h2;rw [h2,h3];simp only [Option.isNone_some,aI];rw [aN (by omega),aI,p5,aF (by omega) (by omega),aF (by omega) (by omega),← h6]
theorem Kn {k:Nat} (hk:2 ^ 50≤k) {d:Ty.d aA} (hl:d.1.length≤1073741824) (s:ByteArray) :
 gW.f k d s=some (((vn s d.1 d.2.1).1,d.2),(s,((vn s d.1 d.2.1).2,()))):=by
 unfold gW.f gW.t vn;rw [k7 hk (by omega),aJ];rcases iL d.1 s 0 with ⟨h1,h2,_⟩ | ⟨n,h1,h2,h3,_⟩
 · rw [h1,h2];simp only [Option.isNone_none,aU];rw [aK (by decide),aU]
 · rw [Int.zero_add] at h2;rw [h2,h3];simp only [Option.isNone_some,aI];rw [aN (by omega),aI,sk hk hl,aJ]
theorem KX {k:Nat} (hk:2 ^ 50≤k) {d:Ty.d aA} (hl:d.1.length≤1073741824) (s:ByteArray) (m:Int) :
 fK.f k d s m=some (((B3 s m d.1 d.2.1).1,d.2),(s,(m,((B3 s m d.1 d.2.1).2,())))):=by
 unfold fK.f fK.t B3;rw [k7 hk (by omega),aJ];rcases iL d.1 s 0 with ⟨h1,h2,_⟩ | ⟨n,h1,h2,h3,_,_,h6⟩
 · rw [h1,h2];simp only [];rw [aK (by decide),aU]
 · rw [Int.zero_add] at h2;rw [h2,h3];simp only [];rw [aN (by omega),aI,p5,aF (by omega) (by omega),iq,aJ];by_cases hm:0≤m∧m≤((d.1.getD n (Ty.z aE)).2.1.size:Int)
   · rw [aK hm];simp only [eQ,aI];rw [bv hm.1 hm.2,← h6];have g:∀ x z:Ty.d aE,(d.1.set n x).getD n z=x:=fun x z=>by simp [List.getD,h1]
     rw [g,List.set_set]
   · rw [aN hm];rfl
theorem L4 {k:Nat} (hk:2 ^ 50≤k) {d:Ty.d aA} (hl:d.1.length≤1073741824) (hs:jp (mJ d.1)) (a:ByteArray) {b:ByteArray} (hb:b.size≤1099511627776) :
 gd.f k d a b=some (((y_ a b d.1 d.2.1).1,d.2),(a,(b,((y_ a b d.1 d.2.1).2,())))):=by
 unfold gd.f gd.t y_;rw [k7 hk (by omega),aJ,pt hk hb,aJ];cases kq b with
 | false=>rfl
 | true =>
  simp only [eQ,aI];rcases iL d.1 a 0 with ⟨h1,h2,_⟩ | ⟨n,h1,h2,h3,_,_,_⟩
  · rw [h1,h2,aK (by decide),aU]
  · have hd1:=om d.1 a;have hd2:=om (jZ d.1 a) b;have l1:=hd1.length_le;have l2:=hd2.length_le;rw [Int.zero_add] at h2;rw [h2,h3];simp only [];rw [aN (by omega),aI,aF (by omega) (by omega),sk hk hl,aJ];simp only [];rw [sk hk (d:=(jZ d.1 a,d.2)) (by show (jZ d.1 a).length≤_;omega),aJ];simp only [];rw [A6 hk (d:=(jZ (jZ d.1 a) b,d.2)) (by show (jZ (jZ d.1 a) b).length≤_;omega) _ (pP.1 (vh (tF hd1 hs) b)),aJ,p5];cases c:seq a b with
    | false=>rfl
    | true =>
     have e:=dT.1 c;subst e;have hg:jZ (jZ d.1 a) a=jZ d.1 a:=by
      rcases iL (jZ d.1 a) a 0 with ⟨_,_,g3,_⟩ | ⟨m,_,_,g3,_⟩
      · exact g3
      · rw [vh hs a] at g3;cases g3
     have hi:=vU hs h3;simp only [hg,aU];rw [hi]
theorem Gh {k:Nat} (hk:2 ^ 50≤k) {d:Ty.d aA} (hd:uN d) {s:ByteArray} (hs:s.size≤1099511627776):kj.f k d s=some ((vF d s).1,((vF d s).2,())):=by
 have hl:=hd.l;have hu:=hd.u;have hn:=hd.n;have h1:∀ b2,gY.f k (d.1,b2) s=_:=fun b2=>Jz hk (d:=(d.1,b2)) hl hs
 unfold kj.f kj.t gj.f gj.t vF iZ jG;rw [iA k hl,aJ,iI hk (by omega) (by omega),aJ];simp only [h1,aJ,show gY.f k d s=_ from h1 d.2];cases gP d <;> cases d.2.2.2.1 <;> cases d.2.2.1==0 <;> cases decide ((d.2.2.1:Int) > 0) <;> rfl
theorem Gg {k:Nat} (hk:2 ^ 50≤k) {d:Ty.d aA} (hd:uN d) (s:ByteArray) {t:ByteArray} (ht:t.size≤1099511627776):km.f k d s t=some ((j3 d s t).1,((j3 d s t).2,())):=by
 have hl:=hd.l;have hu:=hd.u;have hn:=hd.n;have h1:∀ b2,ga.f k (d.1,b2) s t=_:=fun b2=>K_ hk (d:=(d.1,b2)) hl hu s ht
 unfold km.f km.t gm.f gm.t j3 iZ jG;rw [iA k hl,aJ,iI hk (by omega) (by omega),aJ];simp only [h1,aJ,show ga.f k d s t=_ from h1 d.2];cases gP d <;> cases d.2.2.2.1 <;> cases d.2.2.1==0 <;> cases decide ((d.2.2.1:Int) > 0) <;> rfl
theorem GV {k:Nat} (hk:2 ^ 50≤k) {d:Ty.d aA} (hd:uN d) (s:ByteArray):mr.f k d s=some ((jB d s).1,((jB d s).2,())):=by
 have hl:=hd.l;have hu:=hd.u;have hn:=hd.n;have h1:∀ b2,il.f k (d.1,b2) s=_:=fun b2=>K6 hk (d:=(d.1,b2)) hl s
 unfold mr.f mr.t iR.f iR.t jB iZ jG;rw [iA k hl,aJ,iI hk (by omega) (by omega),aJ];simp only [h1,aJ,show il.f k d s=_ from h1 d.2];cases gP d <;> cases d.2.2.2.1 <;> cases d.2.2.1==0 <;> cases decide ((d.2.2.1:Int) > 0) <;> rfl
theorem HM {k:Nat} (hk:2 ^ 50≤k) {d:Ty.d aA} (hd:uN d) (s:ByteArray):kr.f k d s=some ((rO d s).1,((rO d s).2,())):=by
 have hl:=hd.l;have hu:=hd.u;have hn:=hd.n;have h1:∀ b2,gW.f k (d.1,b2) s=_:=fun b2=>Kn hk (d:=(d.1,b2)) hl s
 unfold kr.f kr.t gn.f gn.t rO iZ jG;rw [iA k hl,aJ,iI hk (by omega) (by omega),aJ];simp only [h1,aJ,show gW.f k d s=_ from h1 d.2];cases gP d <;> cases d.2.2.2.1 <;> cases d.2.2.1==0 <;> cases decide ((d.2.2.1:Int) > 0) <;> rfl
theorem Gx {k:Nat} (hk:2 ^ 50≤k) {d:Ty.d aA} (hd:uN d) (s:ByteArray) (m:Int):jO.f k d s m=some ((oW d s m).1,((oW d s m).2,())):=by
 have hl:=hd.l;have hu:=hd.u;have hn:=hd.n;have h1:∀ b2,fK.f k (d.1,b2) s m=_:=fun b2=>KX hk (d:=(d.1,b2)) hl s m
 unfold jO.f jO.t fg.f fg.t oW iZ jG;rw [iA k hl,aJ,iI hk (by omega) (by omega),aJ];simp only [h1,aJ,show fK.f k d s m=_ from h1 d.2];cases gP d <;> cases d.2.2.2.1 <;> cases d.2.2.1==0 <;> cases decide ((d.2.2.1:Int) > 0) <;> rfl
theorem Gy {k:Nat} (hk:2 ^ 50≤k) {d:Ty.d aA} (hd:uN d) (a:ByteArray) {b:ByteArray} (hb:b.size≤1099511627776):kp.f k d a b=some ((wq d a b).1,((wq d a b).2,())):=by
 have hl:=hd.l;have hu:=hd.u;have hn:=hd.n;unfold kp.f kp.t gi.f gi.t wq iZ jG;rw [iA k hl,aJ,iI hk (by omega) (by omega),aJ];cases c:gP d with
 | false=>rfl
 | true =>
  have h1:∀ b2,gd.f k (d.1,b2) a b=_:=fun b2=>L4 hk (d:=(d.1,b2)) hl (lH.1 c).keys a hb
  simp only [h1,aJ,show gd.f k d a b=_ from h1 d.2];cases d.2.2.2.1 <;> cases d.2.2.1==0 <;> cases decide ((d.2.2.1:Int) > 0) <;> rfl
theorem Gn (k:Nat) {n:Int} (h0:0≤n) (h1:n≤100000):k0.f k n=some (([],(n,(-1,(false,())))),()):=by unfold k0.f k0.t;rw [iq,aJ,aK ⟨h0,h1⟩];rfl
def pF (lim:Int) (p:Option Int) (x:Int):Bool:=decide ((1:Int)≤x∧x≤lim)&&(match p with | none=>true | some y=>decide (y<x))
def dp (v:Ty.d bL):Bool:=decide ((1:Int)≤v.1∧v.1≤100000)&&(decide ((1:Int)≤(v.2.1.length:Int)∧(v.2.1.length:Int)≤60)&&sD (pF (aH (v.1-1))) none v.2.1)
theorem su {k:Nat} (hk:2 ^ 50≤k) (v:Ty.d bL):dy.f k v=some (dp v,()):=by
 unfold dy.f dy.t dp;rw [fC,aJ];cases decide ((1:Int)≤v.1∧v.1≤100000) with
 | false=>rfl
 | true =>
  rw [eQ,aI,fC,aJ,Bool.true_and];by_cases c:(1:Int)≤(v.2.1.length:Int)∧(v.2.1.length:Int)≤60
  case neg=>rw [aN c];rfl
  rw [aK c,eQ,aI,Bool.true_and];refine (qU (L:=fun n i=>dy.l0 k n i v.1 v.2.1) (Ty.z (.int .i64)) v.2.1 (pF (aH (v.1-1))) (some (true,())) (some (false,())) (fun n=>?_) (fun n x h hx=>?_) (fun n i x y h0 h1 hx hy=>?_) (n:=k) (by omega)).trans (by cases sD (pF (aH (v.1-1))) none v.2.1 <;> rfl)
  · simp (disch:=omega) only [dy.l0,dy.b0,aN,aI]
  · simp (disch:=omega) only [dy.l0,dy.b0,aK (show (0:Int)<(v.2.1.length:Int) by omega),aU,aF,hx,fC k,aJ,aN (show ¬ (0:Int) > 0 by omega),aI,aC (n:=(0:Int)+1),pF];cases decide ((1:Int)≤x∧x≤aH (v.1-1)) <;> rfl
  · simp (disch:=omega) only [dy.l0,dy.b0,aK h1,aU,aF,hx,fC k,aJ,aK (show i > 0 by omega),aI,aC (n:=i+1),aC (n:=i-1),hy,pF];cases decide ((1:Int)≤x∧x≤aH (v.1-1)) with
    | false=>rfl
    | true =>
     by_cases q:y<x
     · rw [aK q,aN (show ¬ x≤y from Int.not_le.2 q)];rfl
     · rw [aN q,aK (show x≤y from Int.not_lt.1 q)];rfl
theorem sy {k:Nat} (hk:2 ^ 50≤k) {v:Ty.d bL} (hl:v.2.1.length≤1099511627776):dR.f k v=some (dp v,()):=by
 unfold dR.f dR.t dp;refine (qU (L:=fun n i=>dR.l0 k n v.2.1 v.2.1.length i v.1 v.2.1) (Ty.z (.int .i64)) v.2.1 (pF (aH (v.1-1))) (some (decide ((1:Int)≤v.1∧v.1≤100000)&&decide ((1:Int)≤(v.2.1.length:Int)∧(v.2.1.length:Int)≤60),())) (some (false,())) (fun n=>?_) (fun n x h hx=>?_) (fun n i x y h0 h1 hx hy=>?_) (n:=k) (by omega)).trans
  (by cases sD (pF (aH (v.1-1))) none v.2.1 <;> cases decide ((1:Int)≤v.1∧v.1≤100000) <;> cases decide ((1:Int)≤(v.2.1.length:Int)∧(v.2.1.length:Int)≤60) <;> rfl)
 · simp (disch:=omega) only [dR.l0,dR.b0,aN,aI,iq k,aJ];cases decide ((1:Int)≤v.1∧v.1≤100000) <;> rfl
 · simp (disch:=omega) only [dR.l0,dR.b0,aK (show (0:Int)<(v.2.1.length:Int) by omega),aU,aF,hx,iq k,aJ,aN (show ¬ (0:Int) > 0 by omega),aI,aC (n:=(0:Int)+1),pF];cases decide ((1:Int)≤x∧x≤aH (v.1-1)) <;> rfl
 · simp (disch:=omega) only [dR.l0,dR.b0,aK h1,aU,aF,hx,iq k,aJ,aK (show i > 0 by omega),aI,aC (n:=i+1),aC (n:=i-1),hy,pF];cases decide ((1:Int)≤x∧x≤aH (v.1-1)) with
   | false=>rfl
   | true =>
    by_cases q:y<x
    · rw [aK q,aN (show ¬ y≥x from Int.not_le.2 q)];rfl
    · rw [aN q,aK (show y≥x from Int.not_lt.1 q)];rfl
end Go.Proofs.YtijlgdoiofdmhaaGreatDoor.G
namespace Go.V
theorem De (l:List Int):(bytesOf l).size=l.length:=by simp [bytesOf,ByteArray.size]
theorem MW {n m:Nat} (hn:n<4294967296) (hm:m<4294967296):aH (((BitVec.ofInt (IntKind.bits .i64) (n:Int) ^^^ BitVec.ofInt (IntKind.bits .i64) (m:Int)).toNat:Int))=((n ^^^ m:Nat):Int):=by have h:n ^^^ m<2 ^ 32:=Nat.xor_lt_two_pow (by omega) (by omega);show aH (((BitVec.ofInt 64 (n:Int) ^^^ BitVec.ofInt 64 (m:Int)).toNat:Int))=_;rw [BitVec.ofInt_natCast,BitVec.ofInt_natCast,BitVec.toNat_xor,BitVec.toNat_ofNat,BitVec.toNat_ofNat,Nat.mod_eq_of_lt (by omega),Nat.mod_eq_of_lt (by omega)];exact aC (by omega) (by omega)
theorem MX {n m:Nat} (hn:n<4294967296) (hm:m<4294967296):IntKind.wrap .u32 (((BitVec.ofInt (IntKind.bits .u32) (n:Int) ^^^ BitVec.ofInt (IntKind.bits .u32) (m:Int)).toNat:Int))=((n ^^^ m:Nat):Int):=by have h:n ^^^ m<2 ^ 32:=Nat.xor_lt_two_pow (by omega) (by omega);show IntKind.wrap .u32 (((BitVec.ofInt 32 (n:Int) ^^^ BitVec.ofInt 32 (m:Int)).toNat:Int))=_;rw [BitVec.ofInt_natCast,BitVec.ofInt_natCast,BitVec.toNat_xor,BitVec.toNat_ofNat,BitVec.toNat_ofNat,Nat.mod_eq_of_lt (by omega),Nat.mod_eq_of_lt (by omega)];exact yR (by omega) (by omega)
theorem OX {n b:Nat} (hn:n<4294967296) (hb:b<256):aH (((BitVec.ofInt (IntKind.bits .i64) ((n*256:Nat):Int) ||| BitVec.ofInt (IntKind.bits .i64) (b:Int)).toNat:Int))=((n*256+b:Nat):Int):=by
 have h:n*256 ||| b=n*256+b:=by have:=Nat.shiftLeft_add_eq_or_of_lt (i:=8) (b:=b) (by omega) n;rw [Nat.shiftLeft_eq,show (2:Nat) ^ 8=256 by decide] at this;omega
 show aH (((BitVec.ofInt 64 ((n*256:Nat):Int) ||| BitVec.ofInt 64 (b:Int)).toNat:Int))=_;rw [BitVec.ofInt_natCast,BitVec.ofInt_natCast,BitVec.toNat_or,BitVec.toNat_ofNat,BitVec.toNat_ofNat,Nat.mod_eq_of_lt (by omega),Nat.mod_eq_of_lt (by omega),h];exact aC (by omega) (by omega)
theorem OC {n:Nat} (hn:n<4294967296):IntKind.wrap .u32 (((BitVec.ofInt (IntKind.bits .u32) (n:Int) &&& BitVec.ofInt (IntKind.bits .u32) 1).toNat:Int))=((n % 2:Nat):Int):=by show IntKind.wrap .u32 (((BitVec.ofInt 32 (n:Int) &&& BitVec.ofInt 32 ((1:Nat):Int)).toNat:Int))=_;rw [BitVec.ofInt_natCast,BitVec.ofInt_natCast,BitVec.toNat_and,BitVec.toNat_ofNat,BitVec.toNat_ofNat,Nat.mod_eq_of_lt (by omega),Nat.mod_eq_of_lt (show 1<2 ^ 32 by omega),Nat.and_one_is_mod];exact yR (by omega) (by omega)
theorem O7 {n:Nat} (hn:n<4294967296):Ga .u32 (n:Int)=4294967295-(n:Int):=by unfold Ga;show IntKind.wrap .u32 (((BitVec.allOnes 32 ^^^ BitVec.ofInt 32 (n:Int)).toNat:Int))=_;rw [BitVec.ofInt_natCast,BitVec.allOnes_xor,BitVec.toNat_not,BitVec.toNat_ofNat,Nat.mod_eq_of_lt (by omega)];rw [yR (by omega) (by omega)];omega
theorem pz (s:ByteArray):(⟨#[]⟩:ByteArray)++s=s:=by apply ByteArray.ext;simp [ByteArray.data_append]
theorem hO (s:ByteArray):s++(⟨#[]⟩:ByteArray)=s:=by apply ByteArray.ext;simp [ByteArray.data_append]
theorem az (a b c:ByteArray):a++b++c=a++(b++c):=by apply ByteArray.ext;simp [ByteArray.data_append]
theorem jr (a b:ByteArray):nb (a++b)=nb a++nb b:=by unfold nb;rw [ByteArray.data_append,Array.toList_append,List.map_append]
theorem yf (s:ByteArray) (i j:Nat):nb (ByteArray.extract s i j)=((nb s).take j).drop i:=by unfold nb;simp [ByteArray.data_extract,List.map_take,List.map_drop];rw [List.drop_take]
theorem k8 (s:ByteArray) (n:Nat):nb (ByteArray.extract s n s.size)=(nb s).drop n:=by rw [yf,List.take_of_length_le (by rw [dD];omega)]
theorem gO (a t:ByteArray):ByteArray.extract (a++t) a.size (a++t).size=t:=mI (by rw [k8,jr,List.drop_left' (dD a)])
theorem A7 (a t:ByteArray):ByteArray.extract (a++t) 0 a.size=a:=mI (by rw [yf,jr,List.take_left' (dD a),List.drop_zero])
theorem vm (s:ByteArray) {n:Nat} (h:n≤s.size):s=ByteArray.extract s 0 n++ByteArray.extract s n s.size:=mI (by rw [jr,k8,lZ,List.take_append_drop])
theorem v_ {a b c:ByteArray} (h:a++b=a++c):b=c:=mI (by
 have:=congrArg nb h;rw [jr,jr] at this;exact List.append_cancel_left this)
theorem tq {a b c d:ByteArray} (h:a++b=c++d) (hs:a.size=c.size):a=c∧b=d:=by have:=congrArg nb h;rw [jr,jr] at this;have:=List.append_inj this (by rw [dD,dD,hs]);exact ⟨mI this.1,mI this.2⟩
def rv:Nat→List Nat→Option (Nat × Nat)
 | 0,_=>none
 | _+1,[]=>none
 | d+1,b::l=>if b≥128 then (match rv d l with | some (a,n)=>if a=0 then none else some (b % 128+128*a,n+1) | none=>none) else some (b,1)
theorem KL:∀ (d a:Nat) (t:List Nat),a<128 ^ (d+1)→rv (d+1) (vl d a++t)=some (a,(vl d a).length)
 | 0,a,t,h=>by
  have:¬ a≥128:=by simpa using h
  simp [vl,rv,this]
 | d+1,a,t,h=>by
  unfold vl;by_cases c:a≥128
  · have ih:=KL d (a/128) t (by rw [Nat.pow_succ] at h;omega);rw [if_pos c,List.cons_append,rv,if_pos (by omega),ih];simp only [];rw [if_neg (by omega),lq];congr 2;omega
  · rw [if_neg c,List.cons_append,rv,if_neg c];rfl
theorem rq:∀ (d:Nat) (l:List Nat) (a n:Nat),(∀ x ∈ l,x<256)→rv (d+1) l=some (a,n)→l.take n=vl d a∧a<128 ^ (d+1)∧n=(vl d a).length∧n≤l.length∧1≤n∧n≤d+1
 | _,[],a,n,_,h=>by simp [rv] at h
 | 0,b::l,a,n,hb,h=>by
  unfold rv at h;by_cases c:b≥128
  · simp [c,rv] at h
  · simp [c] at h;obtain ⟨rfl,rfl⟩:=h;refine ⟨by simp [vl],by simpa using c,by simp [vl],by simp,by omega,by omega⟩
 | d+1,b::l,a,n,hb,h=>by
  unfold rv at h;by_cases c:b≥128
  · rw [if_pos c] at h;cases q:rv (d+1) l with
    | none=>rw [q] at h;simp at h
    | some p =>
     obtain ⟨a',n'⟩:=p;obtain ⟨h1,h2,h3,h4,h5,h6⟩:=rq d l a' n' (fun x hx=>hb x (wW _ hx)) q;rw [q] at h;simp only [] at h;by_cases z:a'=0
     · simp [z] at h
     · rw [if_neg z] at h;simp only [Option.some.injEq,Prod.mk.injEq] at h;obtain ⟨rfl,rfl⟩:=h;have hb:=hb b (sM ..);have e1:(b % 128+128*a')/128=a':=by omega
       have e2:128+(b % 128+128*a') % 128=b:=by omega
       have hv:vl (d+1) (b % 128+128*a')=b::vl d a':=by rw [vl,if_pos (by omega),e1,e2]
       rw [hv];refine ⟨by rw [List.take_succ_cons,h1],by rw [Nat.pow_succ];omega,by rw [lq,h3],by rw [lq];omega,by omega,by omega⟩
  · rw [if_neg c] at h;simp only [Option.some.injEq,Prod.mk.injEq] at h;obtain ⟨rfl,rfl⟩:=h;have hv:vl (d+1) b=[b]:=by rw [vl,if_neg c]
    rw [hv];refine ⟨by simp,?_,by simp,by simp,by omega,by omega⟩;have:(128:Nat) ^ 1≤128 ^ (d+1+1):=Nat.pow_le_pow_right (by decide) (by omega);omega
theorem Nt {d a:Nat}:vl d a≠[]:=by
 cases d with
 | zero=>simp [vl]
 | succ d=>unfold vl;split <;> simp
theorem M0 (l:List Nat) (hb:∀ x ∈ l,x<256) (d n:Nat) (h0:1≤n) (h1:n≤d+1) (h2:n≤l.length):sg (l.take n)=true↔∃ a,rv (d+1) l=some (a,n):=by
 constructor
 · intro h;have e:=CX d (l.take n) h (by rw [List.length_take];omega);have hd:uC (l.take n)<128 ^ (d+1):=Nat.lt_of_lt_of_le (Cl _) (Nat.pow_le_pow_right (by decide) (by rw [List.length_take];omega));have:=KL d (uC (l.take n)) (l.drop n) hd;rw [e,List.take_append_drop,List.length_take,Nat.min_eq_left h2] at this;exact ⟨_,this⟩
 · rintro ⟨a,h⟩
   obtain ⟨e1,e2,_⟩:=rq d l a n hb h;rw [e1];exact (yU d a e2).1
theorem Mh {l:List Nat} (hb:∀ x ∈ l,x<256) {d a n:Nat} (h:rv (d+1) l=some (a,n)):a=uC (l.take n):=by obtain ⟨e1,e2,_⟩:=rq d l a n hb h;rw [e1];exact (yU d a e2).2.1.symm
theorem uw (s:ByteArray):∀ x ∈ nb s,x<256:=fun _ h=>MS h
theorem ap (a:Nat):1≤(bJ a).size∧(bJ a).size≤7:=by
 unfold bJ;rw [De,List.length_map];have h:∀ d a,(vl d a).length≤d+1:=by
  intro d
  induction d with
  | zero=>intro a;simp [vl]
  | succ d ih=>intro a;unfold vl;split <;> simp;have:=ih (a/128);omega
 have h2:=h 6 a;have h3:(vl 6 a).length≠0:=fun q=>Nt (List.length_eq_zero_iff.1 q)
 omega
theorem si {a:Nat} (h:a<562949953421312):(vl 6 a).length=(bJ a).size:=by rw [← vX h,dD]
theorem sN {a:Nat} (h:a<562949953421312) (t:ByteArray):rv 7 (nb (bJ a++t))=some (a,(bJ a).size):=by rw [jr,vX h,← si h];exact KL 6 a _ (by rw [show (128:Nat) ^ (6+1)=562949953421312 by decide];exact h)
theorem LQ {s:ByteArray} {a n:Nat} (h:rv 7 (nb s)=some (a,n)):∃ t,a<562949953421312∧n=(bJ a).size∧s=bJ a++t:=by obtain ⟨h1,h2,h3,h4,h5,h6⟩:=rq 6 (nb s) a n (uw s) h;rw [show (128:Nat) ^ (6+1)=562949953421312 by decide] at h2;refine ⟨ByteArray.extract s n s.size,h2,by rw [h3,si h2],mI ?_⟩;rw [jr,vX h2,k8,← h1,List.take_append_drop]
theorem lI (s:ByteArray):(∃ a t,a<562949953421312∧s=bJ a++t)∨rv 7 (nb s)=none:=by
 cases h:rv 7 (nb s) with
 | none=>exact .inr rfl
 | some p =>obtain ⟨a,n⟩:=p;obtain ⟨t,h1,_,h3⟩:=LQ h;exact .inl ⟨a,t,h1,h3⟩
theorem zl {a b:Nat} {s t:ByteArray} (ha:a<562949953421312) (hb:b<562949953421312) (h:bJ a++s=bJ b++t):a=b∧s=t:=by have h1:=sN ha s;rw [h,sN hb t] at h1;simp only [Option.some.injEq,Prod.mk.injEq] at h1;obtain ⟨rfl,_⟩:=h1;exact ⟨rfl,v_ h⟩
def Gs:Option (Nat × Nat)→Int × Int × Unit
 | some p=>((p.1:Int),((p.2:Int),()))
 | none=>(0,(0,()))
end Go.V
namespace Go.Proofs.YtijlgdoiofdmhaaGreatDoor.G
open Go.V
theorem q8 (k:Nat) (a b c:Int):aS.f k a b c=some (decide (b≤a∧a≤c),()):=by unfold aS.f aS.t;by_cases h:b≤a <;> simp [h]
theorem wS (k:Nat) (a b c:Int):ab.f k a b c=some (decide (b≤a∧a≤c),()):=by unfold ab.f ab.t;by_cases h:b≤a <;> simp [h]
def ix (a:Int):ByteArray:=if 0≤a∧a≤562949953421311 then bJ a.toNat else ⟨#[]⟩
theorem bB (a:Int):(ix a).size≤7:=by
 unfold ix;split
 · exact (ap _).2
 · exact Nat.zero_le _
theorem du {a:Nat} (h:a<562949953421312):ix (a:Int)=bJ a:=by unfold ix;rw [if_pos (by omega),Int.toNat_natCast]
theorem O6:∀ (d a n:Nat) (xs:List Int),a<128 ^ (d+1)→a<562949953421312→d<n→xs.length+d≤100→∀ k,
 bw.l0 k n (a:Int) xs=some (bytesOf (xs++(vl d a).map Int.ofNat),())∧gN.l0 k n (a:Int) xs=some (bytesOf (xs++(vl d a).map Int.ofNat),()):=by
 intro d
 induction d with
 | zero =>
  intro a n xs h1 h2 h3 h4 k;obtain ⟨n,rfl⟩:∃ q,n=q+1:=⟨n-1,by omega⟩;simp only [Nat.zero_add,Nat.pow_one] at h1;constructor
  · simp (disch:=first | omega | decide) only [bw.l0,bw.b0,aN,aI,b7,qT];rfl
  · simp (disch:=first | omega | decide) only [gN.l0,gN.b0,aN,aI,b7,qT];rfl
 | succ d ih =>
  intro a n xs h1 h2 h3 h4 k;obtain ⟨n,rfl⟩:∃ q,n=q+1:=⟨n-1,by omega⟩;unfold vl;by_cases c:a≥128
  · have hd:aH (Int.tdiv (a:Int) 128)=((a/128:Nat):Int):=aC (n:=((a/128:Nat):Int)) (by omega) (by omega);have hw:IntKind.wrap .u8 (aH (128+Int.tmod (a:Int) 128))=((128+a % 128:Nat):Int):=by
     have e:128+Int.tmod (a:Int) 128=((128+a % 128:Nat):Int):=by show 128+((a % 128:Nat):Int)=_;omega
     rw [e,aC (by omega) (by omega)];exact qT (by omega) (by omega)
    have ih:=ih (a/128) n (xs++[((128+a % 128:Nat):Int)]) (by rw [Nat.pow_succ] at h1;omega) (by omega) (by omega) (by rw [sF];show _+1+d≤_;omega) k;rw [if_pos c];rw [py] at ih;constructor
    · simp (disch:=first | omega | decide) only [bw.l0,bw.b0,aK,aU,b7,hd,hw];exact ih.1
    · simp (disch:=first | omega | decide) only [gN.l0,gN.b0,aK,aU,b7,hd,Int.add_comm (Int.tmod (a:Int) 128) 128,hw];exact ih.2
  · rw [if_neg c];constructor
    · simp (disch:=first | omega | decide) only [bw.l0,bw.b0,aN,aI,b7,qT];rfl
    · simp (disch:=first | omega | decide) only [gN.l0,gN.b0,aN,aI,b7,qT];rfl
theorem iV {k:Nat} (hk:2 ^ 50≤k) (a:Int):bw.f k a=some (ix a,()):=by
 unfold bw.f bw.t ix;rw [q8,aJ];by_cases h:0≤a∧a≤562949953421311
 · obtain ⟨n,rfl⟩:=Int.eq_ofNat_of_zero_le h.1;have hn:n<562949953421312:=by omega
   simp only [aK h,eQ,aI,if_pos h,Int.toNat_natCast];exact (O6 6 n k [] (by rw [show (128:Nat) ^ (6+1)=562949953421312 by decide];exact hn) hn (by omega) (by decide) k).1
 · simp only [aN h,rB,aU,if_neg h]
theorem pe {k:Nat} (hk:2 ^ 50≤k) (a:Int):gN.f k a=some (ix a,()):=by
 unfold gN.f gN.t ix;rw [wS,aJ];by_cases h:0≤a∧a≤562949953421311
 · obtain ⟨n,rfl⟩:=Int.eq_ofNat_of_zero_le h.1;have hn:n<562949953421312:=by omega
   simp only [aK h,eQ,aI,if_pos h,Int.toNat_natCast];exact (O6 6 n k [] (by rw [show (128:Nat) ^ (6+1)=562949953421312 by decide];exact hn) hn (by omega) (by decide) k).2
 · simp only [aN h,rB,aU,if_neg h]
theorem Ku {s:ByteArray} {i:Nat} (h:i<s.size):(nb s).take (i+1)=(nb s).take i++[(nb s).getD i 0]:=by
 have h1:i<(nb s).length:=by rw [dD];exact h
 rw [List.take_succ_eq_append_getElem h1];simp [List.getD,h1]
theorem kI (s:ByteArray) (i:Nat):(nb s).getD i 0<256:=by
 by_cases h1:i<(nb s).length
 · rw [show (nb s).getD i 0=(nb s)[i] by simp [List.getD,h1]];exact MS (List.getElem_mem h1)
 · simp [List.getD,List.getElem?_eq_none (by omega:(nb s).length≤i)]
theorem tT {s:ByteArray} {i:Nat} (h:i<s.size):(nb s).drop i=(nb s).getD i 0::(nb s).drop (i+1):=by
 have h1:i<(nb s).length:=by rw [dD];exact h
 rw [List.drop_eq_getElem_cons h1];simp [List.getD,h1]
def HD (n:Nat):Nat:=if n % 2=1 then n/2 ^^^ 2197175160 else n/2
def BI:Nat→Nat→Nat
 | 0,n=>n
 | d+1,n=>BI d (HD n)
theorem E7 {n:Nat} (h:n<4294967296):HD n<4294967296:=by
 unfold HD;split
 · exact Nat.xor_lt_two_pow (n:=32) (by omega) (by omega)
 · omega
theorem D5:∀ {d n:Nat},n<4294967296→BI d n<4294967296
 | 0,_,h=>h
 | d+1,_,h=>D5 (d:=d) (E7 h)
def GG:List Nat→Nat→Nat
 | [],n=>n
 | b::l,n=>GG l (BI 8 (n ^^^ b))
theorem HT:∀ {l:List Nat} {n:Nat},n<4294967296→(∀ b ∈ l,b<256)→GG l n<4294967296
 | [],_,h,_=>h
 | b::l,n,h,hb=>by have:=hb b (sM ..);exact HT (l:=l) (D5 (Nat.xor_lt_two_pow (n:=32) (by omega) (by omega))) (fun x hx=>hb x (wW _ hx))
def qc (s:ByteArray):Int:=4294967295-(GG (nb s) 4294967295:Int)
theorem vQ (s:ByteArray):0≤qc s∧qc s≤4294967295:=by have:=HT (l:=nb s) (n:=4294967295) (by omega) (uw s);unfold qc;omega
theorem IL {k:Nat} {L0:ByteArray→Int→Int→Option (Int × Unit)} {s:ByteArray} {i:Int}:∀ (d j m n:Nat),8-j=d→j≤8→d<m→n<4294967296→gz.l1 k L0 m s (n:Int) i (j:Int)=L0 s ((BI d n:Nat):Int) (aH (i+1))
 | 0,j,m,n,hd,hj,hm,hn=>by
  obtain ⟨m,rfl⟩:∃ q,m=q+1:=⟨m-1,by omega⟩;have c:¬ ((j:Int)<8):=by omega
  simp only [gz.l1,gz.b1,decide_eq_false c,aI,BI]
 | d+1,j,m,n,hd,hj,hm,hn=>by
  obtain ⟨m,rfl⟩:∃ q,m=q+1:=⟨m-1,by omega⟩;have c:((j:Int)<8):=by omega
  have ih:=IL (k:=k) (L0:=L0) (s:=s) (i:=i) d (j+1) m (HD n) (by omega) (by omega) (by omega) (E7 hn);have hd2:aH (Int.tdiv (n:Int) 2)=((n/2:Nat):Int):=aC (n:=((n/2:Nat):Int)) (by omega) (by omega);have hx:=MW (n:=n/2) (m:=2197175160) (by omega) (by omega);have hm2:Int.tmod (n:Int) 2=((n % 2:Nat):Int):=rfl;have hj1:aH ((j:Int)+1)=((j+1:Nat):Int):=by rw [aC (by omega) (by omega)];omega
  simp only [gz.l1,gz.b1,decide_eq_true c,aU,hj1,hd2,hm2,BI];rw [← ih];unfold HD;by_cases q:n % 2=1
  · rw [if_pos q,q,← hx];rfl
  · rw [if_neg q,show n % 2=0 by omega];rfl
theorem Hn {k:Nat} {L0:ByteArray→Int→Int→Option (Int × Unit)} {s:ByteArray} {i:Int}:∀ (d j m n:Nat),8-j=d→j≤8→d<m→n<4294967296→gy.l1 k L0 m s (n:Int) i (j:Int)=L0 s ((BI d n:Nat):Int) (aH (i+1))
 | 0,j,m,n,hd,hj,hm,hn=>by
  obtain ⟨m,rfl⟩:∃ q,m=q+1:=⟨m-1,by omega⟩;have c:¬ ((j:Int)<8):=by omega
  simp only [gy.l1,gy.b1,decide_eq_false c,aI,BI]
 | d+1,j,m,n,hd,hj,hm,hn=>by
  obtain ⟨m,rfl⟩:∃ q,m=q+1:=⟨m-1,by omega⟩;have c:((j:Int)<8):=by omega
  have ih:=Hn (k:=k) (L0:=L0) (s:=s) (i:=i) d (j+1) m (HD n) (by omega) (by omega) (by omega) (E7 hn);have hd2:Int.fdiv (n:Int) (2 ^ (Int.toNat 1))=((n/2:Nat):Int):=by show Int.fdiv (n:Int) 2=_;rw [Int.fdiv_eq_ediv_of_nonneg _ (by omega)];omega
  have hx:=MX (n:=n/2) (m:=2197175160) (by omega) (by omega);have hj1:aH ((j:Int)+1)=((j+1:Nat):Int):=by rw [aC (by omega) (by omega)];omega
  simp only [gy.l1,gy.b1,decide_eq_true c,aU,hj1,hd2,OC hn,BI];rw [← ih];unfold HD;by_cases q:n % 2=1
  · rw [if_pos q,q,← hx];rfl
  · rw [if_neg q,show n % 2=0 by omega];rfl
theorem NR {k:Nat} (hk:2 ^ 50≤k) {s:ByteArray} (hs:s.size≤1099511627776):∀ (d i n m:Nat),s.size-i=d→i≤s.size→n<4294967296→d<m →
 gz.l0 k m s (n:Int) (i:Int)=some (4294967295-(GG ((nb s).drop i) n:Int),())∧gy.l0 k m s (n:Int) (i:Int)=some (4294967295-(GG ((nb s).drop i) n:Int),())
 | 0,i,n,m,hd,hi,hn,hm=>by
  obtain ⟨m,rfl⟩:∃ q,m=q+1:=⟨m-1,by omega⟩;have c:¬ ((i:Int)<(s.size:Int)):=by omega
  have e1:aH (4294967295-(n:Int))=4294967295-(n:Int):=aC (by omega) (by omega);rw [List.drop_eq_nil_of_le (by rw [dD];omega)];constructor
  · simp only [gz.l0,gz.b0,decide_eq_false c,aI,e1,GG]
  · simp only [gy.l0,gy.b0,decide_eq_false c,aI,O7 hn,e1,GG]
 | d+1,i,n,m,hd,hi,hn,hm=>by
  obtain ⟨m,rfl⟩:∃ q,m=q+1:=⟨m-1,by omega⟩;have hlt:i<s.size:=by omega
  have c:((i:Int)<(s.size:Int)):=by omega
  have h0:=Int.natCast_nonneg i;have hb:=kI s i;have hat:=ym hlt;rw [tT hlt];generalize (nb s).getD i 0=b at hb hat;have w1:aH (b:Int)=(b:Int):=aC (by omega) (by omega);have w2:IntKind.wrap .u32 (b:Int)=(b:Int):=yR (by omega) (by omega);have hnb:n ^^^ b<4294967296:=Nat.xor_lt_two_pow (n:=32) (by omega) (by omega);have up:aH ((i:Int)+1)=((i+1:Nat):Int):=by rw [aC (by omega) (by omega)];omega
  obtain ⟨s1,s2⟩:=NR hk hs d (i+1) (BI 8 (n ^^^ b)) m (by omega) (by omega) (D5 hnb) (by omega);constructor
  · simp only [gz.l0,gz.b0,decide_eq_true c,aU,aF h0 c,hat,w1,MW hn (show b<4294967296 by omega)];refine (IL 8 0 k (n ^^^ b) (by omega) (by omega) (by omega) hnb).trans ?_;rw [up];exact s1
  · simp only [gy.l0,gy.b0,decide_eq_true c,aU,aF h0 c,hat,w2,MX hn (show b<4294967296 by omega)];refine (Hn 8 0 k (n ^^^ b) (by omega) (by omega) (by omega) hnb).trans ?_;rw [up];exact s2
theorem ub {k:Nat} (hk:2 ^ 50≤k) {s:ByteArray} (hs:s.size≤1099511627776):gz.f k s=some (qc s,()):=by have:=(NR hk hs s.size 0 4294967295 k (by omega) (by omega) (by omega) (by omega)).1;rw [List.drop_zero] at this;exact this
theorem uv {k:Nat} (hk:2 ^ 50≤k) {s:ByteArray} (hs:s.size≤1099511627776):gy.f k s=some (qc s,()):=by have:=(NR hk hs s.size 0 4294967295 k (by omega) (by omega) (by omega) (by omega)).2;rw [List.drop_zero] at this;exact this
def fb (n:Nat):ByteArray:=bytesOf [((n/16777216 % 256:Nat):Int),((n/65536 % 256:Nat):Int),((n/256 % 256:Nat):Int),((n % 256:Nat):Int)]
theorem nw (n:Nat):(fb n).size=4:=rfl
theorem IA (n:Nat):nb (fb n)=[n/16777216 % 256,n/65536 % 256,n/256 % 256,n % 256] :=
 G0 (l:=[n/16777216 % 256,n/65536 % 256,n/256 % 256,n % 256]) (by simp;omega)
theorem GA {k:Nat} (hk:2 ^ 50≤k) {n:Nat} (h1:n<4294967296):eH.f k (n:Int) 4=some (fb n,()):=by
 have sz1:∀ x:Int,(bytesOf [x]).size=1:=fun x=>rfl
 have st:∀ (q m:Nat) (t:ByteArray) (j:Nat),m<4294967296→j<4→t.size≤100→eH.l0 k (q+1) (m:Int) 4 t (j:Int)=eH.l0 k q ((m/256:Nat):Int) 4 (bytesOf [((m % 256:Nat):Int)]++t) ((j+1:Nat):Int):=fun q m t j hm hj ht=>by
  have wd:aH (Int.tdiv (m:Int) 256)=((m/256:Nat):Int):=aC (n:=((m/256:Nat):Int)) (by omega) (by omega);have wm:IntKind.wrap .u8 (Int.tmod (m:Int) 256)=((m % 256:Nat):Int):=qT (n:=((m % 256:Nat):Int)) (by omega) (by omega);have wj:aH ((j:Int)+1)=((j+1:Nat):Int):=by rw [aC (by omega) (by omega)];omega
  simp (disch:=omega) only [eH.l0,eH.b0,aK,aU,wd,wm,wj];rw [eL (by rw [sz1];omega)]
 unfold eH.f eH.t;rw [q8,aJ];simp only [show decide ((1:Int)≤4∧(4:Int)≤7)=true by decide,eQ,aI,aN (show ¬ ((n:Int)<0) by omega)];obtain ⟨q,hq⟩:∃ q,k=q+5:=⟨k-5,by omega⟩;refine (congrArg (fun z=>eH.l0 k z (n:Int) 4 ⟨#[]⟩ 0) hq).trans ?_;refine (st (q+4) n _ 0 h1 (by omega) (by decide)).trans ?_;refine (st (q+3) (n/256) _ 1 (by omega) (by omega) (by rw [ByteArray.size_append,sz1];decide)).trans ?_;refine (st (q+2) (n/256/256) _ 2 (by omega) (by omega) (by rw [ByteArray.size_append,ByteArray.size_append,sz1,sz1];decide)).trans ?_;refine (st (q+1) (n/256/256/256) _ 3 (by omega) (by omega) (by rw [ByteArray.size_append,ByteArray.size_append,ByteArray.size_append,sz1,sz1,sz1];decide)).trans ?_;have c:¬ ((((3+1:Nat)):Int)<4):=by omega
 have c2:¬ (((n/256/256/256/256:Nat):Int) > 0):=by omega
 simp only [eH.l0,eH.b0,aN c,aN c2,aI];unfold fb;congr 2;rw [show n/256/256/256=n/16777216 by omega,show n/256/256=n/65536 by omega];apply ByteArray.ext;simp [bytesOf,ByteArray.data_append]
theorem H5 {k:Nat} (hk:2 ^ 50≤k) {n:Nat} (h1:n<4294967296):eF.f k (n:Int) 4=some (fb n,()):=by
 have st:∀ (q j p:Nat) (i':Int) (xs:List Int),j≤3→p=2 ^ (8*j)→i'=(j:Int)-1→xs.length≤100→eF.l0 k (q+1) (n:Int) (j:Int) xs=eF.l0 k q (n:Int) i' (xs++[((n/p % 256:Nat):Int)]):=fun q j p i' xs hj hp hi hx=>by
  have e8:aH (8*(j:Int))=((8*j:Nat):Int):=by rw [aC (by omega) (by omega)];omega
  have e1:aH ((j:Int)-1)=i':=by rw [hi];exact aC (by omega) (by omega)
  have emin:min (8*j) (IntKind.bits .i64)=8*j:=by have:IntKind.bits .i64=64:=rfl;rw [this];omega
  have ew:IntKind.wrap .u8 (Int.fdiv (n:Int) (2 ^ (8*j)))=((n/p % 256:Nat):Int):=by
   have e2:((2:Int) ^ (8*j))=((p:Nat):Int):=by rw [hp,Int.natCast_pow];rfl
   rw [e2,Int.fdiv_eq_ediv_of_nonneg _ (by omega),← Int.natCast_ediv];generalize n/p=z;unfold IntKind.wrap;simp [IntKind.bits,IntKind.signed]
  simp (disch:=first | omega | decide) only [eF.l0,eF.b0,aK,aU,e8,b7,e1,p5,emin,ew];rw [aN (by omega),aI]
 unfold eF.f eF.t;rw [wS,aJ];have c0:¬ (aH (8*4)<0):=by decide
 simp only [show decide ((1:Int)≤4∧(4:Int)≤7)=true by decide,eQ,aI,aN c0,show aH (aH (1*2 ^ min (Int.toNat (aH (8*4))) (IntKind.bits .i64))-1)=4294967295 by decide,wS,aJ];rw [aK (show (0:Int)≤(n:Int)∧(n:Int)≤4294967295 by omega)];simp only [eQ,aI,show aH ((4:Int)-1)=((3:Nat):Int) by decide];obtain ⟨q,hq⟩:∃ q,k=q+5:=⟨k-5,by omega⟩;refine (congrArg (fun z=>eF.l0 k z (n:Int) ((3:Nat):Int) []) hq).trans ?_;refine (st (q+4) 3 16777216 ((2:Nat):Int) _ (by omega) (by decide) (by decide) (by decide)).trans ?_;refine (st (q+3) 2 65536 ((1:Nat):Int) _ (by omega) (by decide) (by decide) (by simp)).trans ?_;refine (st (q+2) 1 256 ((0:Nat):Int) _ (by omega) (by decide) (by decide) (by simp)).trans ?_;refine (st (q+1) 0 1 (-1) _ (by omega) (by decide) (by decide) (by simp)).trans ?_;simp only [eF.l0,eF.b0,show decide ((-1:Int)≥0)=false by decide,aI,Nat.div_one];rfl
def sL (a:Int):ByteArray:=fb a.toNat
theorem lK (a:Int):(sL a).size=4:=rfl
theorem s6 {k:Nat} (hk:2 ^ 50≤k) {a:Int} (h0:0≤a) (h1:a≤4294967295):eH.f k a 4=some (sL a,()):=by obtain ⟨n,rfl⟩:=Int.eq_ofNat_of_zero_le h0;exact GA hk (by omega)
theorem rt {k:Nat} (hk:2 ^ 50≤k) {a:Int} (h0:0≤a) (h1:a≤4294967295):eF.f k a 4=some (sL a,()):=by obtain ⟨n,rfl⟩:=Int.eq_ofNat_of_zero_le h0;exact H5 hk (by omega)
theorem zh (s:ByteArray):(∃ x t,x<4294967296∧s=fb x++t)∨s.size<4:=by
 by_cases c:s.size<4
 · exact .inr c
 · left;have h0:=tT (s:=s) (i:=0) (by omega);have h1:=tT (s:=s) (i:=1) (by omega);have h2:=tT (s:=s) (i:=2) (by omega);have h3:=tT (s:=s) (i:=3) (by omega);have b0:=kI s 0;have b1:=kI s 1;have b2:=kI s 2;have b3:=kI s 3;rw [h1,h2,h3,List.drop_zero] at h0;generalize (nb s).getD 0 0=x0 at *;generalize (nb s).getD 1 0=x1 at *;generalize (nb s).getD 2 0=x2 at *;generalize (nb s).getD 3 0=x3 at *;refine ⟨((x0*256+x1)*256+x2)*256+x3,ByteArray.extract s 4 s.size,by omega,mI ?_⟩;rw [jr,IA,k8,h0];simp only [List.cons_append,List.nil_append,List.drop_succ_cons,List.drop_zero,List.cons.injEq,and_true];refine ⟨?_,?_,?_,?_⟩ <;> omega
theorem xd (x:Nat) (t:ByteArray):nb (fb x++t)=(x/16777216 % 256)::(x/65536 % 256)::(x/256 % 256)::(x % 256)::nb t:=by rw [jr,IA];rfl
theorem oR (x:Nat) (t:ByteArray):(fb x++t).size=4+t.size:=by rw [ByteArray.size_append];rfl
theorem m0 (k:Nat) (s:ByteArray):dA.f k s=some (decide (1≤(s.size:Int)∧(s.size:Int)≤8),()):=by unfold dA.f dA.t;rw [q8];rfl
theorem kv (k:Nat) (s:ByteArray):eI.f k s=some (decide (1≤(s.size:Int)∧(s.size:Int)≤8),()):=by unfold eI.f eI.t;rw [wS];rfl
def k_ (a:Ty.d bR):Bool :=
 bif a.1==1||a.1==4 then decide (1≤(a.2.2.1.size:Int)∧(a.2.2.1.size:Int)≤8)&&(decide ((a.2.2.2.1.size:Int)≤24)&&((a.2.2.2.2.1==0)&&((a.2.2.2.2.2.1==0)&&decide (1≤a.2.1∧a.2.1≤1000000))))
 else bif a.1==2 then decide (1≤(a.2.2.1.size:Int)∧(a.2.2.1.size:Int)≤8)&&(seq a.2.2.2.1 ⟨#[]⟩&&((a.2.2.2.2.1==0)&&((a.2.2.2.2.2.1==0)&&decide (1≤a.2.1∧a.2.1≤1000000))))
 else bif a.1==3 then seq a.2.2.1 ⟨#[]⟩&&(seq a.2.2.2.1 ⟨#[]⟩&&(decide (0≤a.2.2.2.2.1∧a.2.2.2.2.1≤8)&&(decide (0≤a.2.2.2.2.2.1∧a.2.2.2.2.2.1≤4294967295)&&decide (1≤a.2.1∧a.2.1≤1000000))))
 else bif a.1==5 then seq a.2.2.1 ⟨#[]⟩&&(seq a.2.2.2.1 ⟨#[]⟩&&(decide (0≤a.2.2.2.2.1∧a.2.2.2.2.1≤20)&&(decide (0≤a.2.2.2.2.2.1∧a.2.2.2.2.2.1≤4294967295)&&decide (0≤a.2.1∧a.2.1≤1000000))))
 else false
theorem J5 (s:ByteArray):seq s ByteArray.empty=seq s ⟨#[]⟩:=rfl
theorem jH (k:Nat) (a:Ty.d bR):gl.f k a=some (k_ a,()):=by
 obtain ⟨ty,tx,key,tt,n,sm,u⟩:=a;unfold gl.f gl.t k_;simp only [wS,kv,aJ,cZ,J5];change Int at ty tx n sm;change ByteArray at key tt;generalize decide (1≤(key.size:Int)∧(key.size:Int)≤8)=K;generalize decide ((tt.size:Int)≤24)=L;generalize decide (1≤tx∧tx≤1000000)=T1;generalize decide (0≤tx∧tx≤1000000)=T0;generalize decide (0≤n∧n≤8)=N1;generalize decide (0≤n∧n≤20)=N2;generalize decide (0≤sm∧sm≤4294967295)=S;generalize (n==0)=Z1;generalize (sm==0)=Z2;generalize seq key ⟨#[]⟩=E1;generalize seq tt ⟨#[]⟩=E2;by_cases h1:ty=1
 · subst h1;simp;cases K <;> cases L <;> cases T1 <;> cases Z1 <;> cases Z2 <;> rfl
 by_cases h4:ty=4
 · subst h4;simp;cases K <;> cases L <;> cases T1 <;> cases Z1 <;> cases Z2 <;> rfl
 by_cases h2:ty=2
 · subst h2;simp;cases K <;> cases E2 <;> cases T1 <;> cases Z1 <;> cases Z2 <;> rfl
 by_cases h3:ty=3
 · subst h3;simp;cases E1 <;> cases E2 <;> cases T1 <;> cases N1 <;> cases S <;> rfl
 by_cases h5:ty=5
 · subst h5;simp;cases E1 <;> cases E2 <;> cases T0 <;> cases N2 <;> cases S <;> rfl
 have b1:(ty==1)=false:=n_ h1;have b2:(ty==2)=false:=n_ h2;have b3:(ty==3)=false:=n_ h3;have b4:(ty==4)=false:=n_ h4;have b5:(ty==5)=false:=n_ h5;have b6:(ty != 5)=true:=bne_iff_ne.2 h5;simp only [b1,b2,b3,b4,b5,b6,Bool.or_false,aI,aU]
theorem D9 (k:Nat) (a:Ty.d bR):ll.f k a=some (k_ a,()):=by
 obtain ⟨ty,tx,key,tt,n,sm,u⟩:=a;unfold ll.f ll.t k_;simp only [q8,m0,aJ];change Int at ty tx n sm;change ByteArray at key tt;have q:decide (1≤tx∧tx≤1000000)=(decide (0≤tx∧tx≤1000000)&&!(tx==0)):=by rw [Bool.eq_iff_iff];simp;omega
 rw [q];generalize decide (1≤(key.size:Int)∧(key.size:Int)≤8)=K;generalize decide ((tt.size:Int)≤24)=L;generalize decide (0≤tx∧tx≤1000000)=T0;generalize (tx==0)=T;generalize decide (0≤n∧n≤8)=N1;generalize decide (0≤n∧n≤20)=N2;generalize decide (0≤sm∧sm≤4294967295)=S;generalize (n==0)=Z1;generalize (sm==0)=Z2;generalize seq key ⟨#[]⟩=E1;generalize seq tt ⟨#[]⟩=E2;by_cases h1:ty=1
 · subst h1;simp;cases T0 <;> cases T <;> cases K <;> cases L <;> cases Z1 <;> cases Z2 <;> rfl
 by_cases h4:ty=4
 · subst h4;simp;cases T0 <;> cases T <;> cases K <;> cases L <;> cases Z1 <;> cases Z2 <;> rfl
 by_cases h2:ty=2
 · subst h2;simp;cases T0 <;> cases T <;> cases K <;> cases E2 <;> cases Z1 <;> cases Z2 <;> rfl
 by_cases h3:ty=3
 · subst h3;simp;cases T0 <;> cases T <;> cases E1 <;> cases E2 <;> cases N1 <;> cases S <;> rfl
 by_cases h5:ty=5
 · subst h5;simp;cases T0 <;> cases T <;> cases E1 <;> cases E2 <;> cases N2 <;> cases S <;> rfl
 have b1:(ty==1)=false:=n_ h1;have b2:(ty==2)=false:=n_ h2;have b3:(ty==3)=false:=n_ h3;have b4:(ty==4)=false:=n_ h4;have b5:(ty==5)=false:=n_ h5;have b6:(ty != 5)=true:=bne_iff_ne.2 h5;simp only [b1,b2,b3,b4,b5,b6,Bool.or_false,aI,aU];cases T0 <;> cases T <;> rfl
def kT (s:ByteArray):ByteArray:=ix (s.size:Int)++s
theorem nq (s:ByteArray):(kT s).size≤7+s.size:=by unfold kT;have:=bB (s.size:Int);rw [ByteArray.size_append];omega
def aV (a:Ty.d bR):ByteArray :=
 if k_ a=true then
  if a.1=1∨a.1=4 then ix a.1++(ix a.2.1++(kT a.2.2.1++kT a.2.2.2.1))
  else if a.1=2 then ix a.1++(ix a.2.1++kT a.2.2.1)
  else ix a.1++(ix a.2.1++(ix a.2.2.2.2.1++sL a.2.2.2.2.2.1))
 else ⟨#[]⟩
theorem oF {a:Ty.d bR} (h:k_ a=true) :
 ((a.1=1∨a.1=4)∧1≤a.2.2.1.size∧a.2.2.1.size≤8∧a.2.2.2.1.size≤24∧a.2.2.2.2.1=0∧a.2.2.2.2.2.1=0∧1≤a.2.1∧a.2.1≤1000000) ∨
 (a.1=2∧1≤a.2.2.1.size∧a.2.2.1.size≤8∧a.2.2.2.1=⟨#[]⟩∧a.2.2.2.2.1=0∧a.2.2.2.2.2.1=0∧1≤a.2.1∧a.2.1≤1000000) ∨
 ((a.1=3∨a.1=5)∧a.2.2.1=⟨#[]⟩∧a.2.2.2.1=⟨#[]⟩∧0≤a.2.2.2.2.1∧a.2.2.2.2.1≤20∧0≤a.2.2.2.2.2.1∧a.2.2.2.2.2.1≤4294967295∧0≤a.2.1∧a.2.1≤1000000):=by
 obtain ⟨kd,bt,key,val,cn,sm,u⟩:=a;change Int at kd bt cn sm;change ByteArray at key val;unfold k_ at h;simp only [] at h ⊢;by_cases c:kd=1∨kd=4
 · have b:(kd==1||kd==4)=true:=by rcases c with c | c <;> rw [c] <;> rfl
   rw [b,aU] at h;simp only [lP,decide_eq_true_eq,beq_iff_eq] at h;exact .inl ⟨c,by omega,by omega,by omega,h.2.2.1,h.2.2.2.1,h.2.2.2.2⟩
 · have b1:(kd==1)=false:=n_ fun h=>c (.inl h)
   have b4:(kd==4)=false:=n_ fun h=>c (.inr h)
   simp only [b1,b4,Bool.or_false,aI] at h;cases b2:(kd==2) with
   | true =>rw [b2,aU] at h;simp only [lP,decide_eq_true_eq,beq_iff_eq,dT] at h;exact .inr (.inl ⟨eq_of_beq b2,by omega,by omega,h.2.1,h.2.2.1,h.2.2.2.1,h.2.2.2.2⟩)
   | false =>
    rw [b2,aI] at h;cases b3:(kd==3) with
    | true =>rw [b3,aU] at h;simp only [lP,decide_eq_true_eq,dT] at h;exact .inr (.inr ⟨.inl (eq_of_beq b3),h.1,h.2.1,h.2.2.1.1,Int.le_trans h.2.2.1.2 (by decide),h.2.2.2.1.1,h.2.2.2.1.2,Int.le_trans (by decide) h.2.2.2.2.1,h.2.2.2.2.2⟩)
    | false =>
     rw [b3,aI] at h;cases b5:(kd==5) with
     | true =>rw [b5,aU] at h;simp only [lP,decide_eq_true_eq,dT] at h;exact .inr (.inr ⟨.inr (eq_of_beq b5),h.1,h.2.1,h.2.2.1.1,h.2.2.1.2,h.2.2.2.1.1,h.2.2.2.1.2,h.2.2.2.2.1,h.2.2.2.2.2⟩)
     | false =>rw [b5,aI] at h;cases h
theorem yO {kd b cn sm:Int} {key val:ByteArray} (h:k_ (kd,(b,(key,(val,(cn,(sm,()))))))=true) :
 ((kd=1∨kd=4)∧1≤key.size∧key.size≤8∧val.size≤24∧cn=0∧sm=0∧1≤b∧b≤1000000) ∨
 (kd=2∧1≤key.size∧key.size≤8∧val=⟨#[]⟩∧cn=0∧sm=0∧1≤b∧b≤1000000) ∨
 ((kd=3∨kd=5)∧key=⟨#[]⟩∧val=⟨#[]⟩∧0≤cn∧cn≤20∧0≤sm∧sm≤4294967295∧0≤b∧b≤1000000):=oF h
theorem dx {k:Nat} (hk:2 ^ 50≤k) (a:Ty.d bR):cg.f k a=some (aV a,()):=by
 unfold cg.f cg.t aV;rw [D9,aJ];cases hr:k_ a with
 | false=>rfl
 | true =>
  have v1:=bB a.1;have v2:=bB a.2.1;have v3:=bB (a.2.2.1.size:Int);have v4:=bB (a.2.2.2.1.size:Int);have v5:=bB a.2.2.2.2.1;have v6:=lK a.2.2.2.2.2.1;simp only [eQ,aI,if_true,kT];rcases oF hr with ⟨c,h⟩ | ⟨c,h⟩ | ⟨c,h⟩
  · rw [if_pos c];rcases c with c | c
    · have b1:(a.1==1)=true:=by rw [c];rfl
      simp (disch:=first | omega | (simp only [ByteArray.size_append];omega)) only [iV hk,aJ,b1,aU,eL,az]
    · have b1:(a.1==1)=false:=by rw [c];rfl
      have b4:(a.1==4)=true:=by rw [c];rfl
      simp (disch:=first | omega | (simp only [ByteArray.size_append];omega)) only [iV hk,aJ,b1,b4,aU,aI,eL,az]
  · have b1:(a.1==1)=false:=by rw [c];rfl
    have b4:(a.1==4)=false:=by rw [c];rfl
    have b2:(a.1==2)=true:=by rw [c];rfl
    rw [if_neg (show ¬ (a.1=1∨a.1=4) by rw [c];decide),if_pos c];simp (disch:=first | omega | (simp only [ByteArray.size_append];omega)) only [iV hk,aJ,b1,b2,b4,aU,aI,eL,az]
  · have b1:(a.1==1)=false:=by rcases c with c | c <;> rw [c] <;> rfl
    have b4:(a.1==4)=false:=by rcases c with c | c <;> rw [c] <;> rfl
    have b2:(a.1==2)=false:=by rcases c with c | c <;> rw [c] <;> rfl
    rw [if_neg (show ¬ (a.1=1∨a.1=4) by rcases c with c | c <;> rw [c] <;> decide),if_neg (show ¬ a.1=2 by rcases c with c | c <;> rw [c] <;> decide)];obtain ⟨_,_,_,_,z1,z2,_⟩:=h;simp (disch:=first | assumption | omega | (simp only [ByteArray.size_append];omega)) only [iV hk,s6 hk,aJ,b1,b2,b4,aU,aI,eL,az]
theorem C2 {k:Nat} (hk:2 ^ 50≤k) (x y:Int):dt.f k [x,y]=some (ix x++ix y,()):=by have v1:=bB x;have v2:=bB y;obtain ⟨q,hq⟩:∃ q,k=q+3:=⟨k-3,by omega⟩;refine (congrArg (fun z=>dt.l0 k z ⟨#[]⟩ [x,y] 2 0) hq).trans ?_;rw [show dt.l0 k (q+3) ⟨#[]⟩ [x,y] 2 0=(gN.f k x).bind (fun r1=>mK ⟨#[]⟩ r1.1 (dt.l0 k (q+2) (⟨#[]⟩++r1.1) [x,y] 2 1)) from rfl];rw [pe hk,aJ];simp only [];rw [eL (by rw [show (⟨#[]⟩:ByteArray).size=0 from rfl];omega),pz];rw [show dt.l0 k (q+2) (ix x) [x,y] 2 1=(gN.f k y).bind (fun r1=>mK (ix x) r1.1 (dt.l0 k (q+1) (ix x++r1.1) [x,y] 2 2)) from rfl];rw [pe hk,aJ];simp only [];rw [eL (by omega)];rfl
theorem mQ {k:Nat} (hk:2 ^ 50≤k) {s:ByteArray} (hs:s.size≤1099511627776):ez.f k s=some (kT s,()):=by have:=bB (s.size:Int);unfold ez.f ez.t kT;simp (disch:=omega) only [pe hk,aJ,eL]
theorem pG {k:Nat} (hk:2 ^ 50≤k) (a:Ty.d bR):gg.f k a=some (aV a,()):=by
 unfold gg.f gg.t aV;rw [jH,aJ];cases hr:k_ a with
 | false=>rfl
 | true =>
  have v1:=bB a.1;have v2:=bB a.2.1;have v3:=nq a.2.2.1;have v4:=nq a.2.2.2.1;have v5:=bB a.2.2.2.2.1;have v6:=lK a.2.2.2.2.2.1;simp only [eQ,aI,if_true,C2 hk,aJ];rcases oF hr with ⟨c,h⟩ | ⟨c,h⟩ | ⟨c,h⟩
  · rw [if_pos c];rcases c with c | c
    · have b1:(a.1==1)=true:=by rw [c];rfl
      simp (disch:=first | omega | (simp only [ByteArray.size_append];omega)) only [mQ hk,aJ,b1,aU,eL,az]
    · have b1:(a.1==1)=false:=by rw [c];rfl
      have b4:(a.1==4)=true:=by rw [c];rfl
      simp (disch:=first | omega | (simp only [ByteArray.size_append];omega)) only [mQ hk,aJ,b1,b4,aU,aI,eL,az]
  · have b1:(a.1==1)=false:=by rw [c];rfl
    have b4:(a.1==4)=false:=by rw [c];rfl
    have b2:(a.1==2)=true:=by rw [c];rfl
    rw [if_neg (show ¬ (a.1=1∨a.1=4) by rw [c];decide),if_pos c];simp (disch:=first | omega | (simp only [ByteArray.size_append];omega)) only [mQ hk,aJ,b1,b2,b4,aU,aI,eL,az]
  · have b1:(a.1==1)=false:=by rcases c with c | c <;> rw [c] <;> rfl
    have b4:(a.1==4)=false:=by rcases c with c | c <;> rw [c] <;> rfl
    have b2:(a.1==2)=false:=by rcases c with c | c <;> rw [c] <;> rfl
    rw [if_neg (show ¬ (a.1=1∨a.1=4) by rcases c with c | c <;> rw [c] <;> decide),if_neg (show ¬ a.1=2 by rcases c with c | c <;> rw [c] <;> decide)];obtain ⟨_,_,_,_,z1,z2,_⟩:=h;simp (disch:=first | assumption | omega | (simp only [ByteArray.size_append];omega)) only [pe hk,rt hk,aJ,b1,b2,b4,aU,aI,eL,az]
theorem vv (a:Ty.d bR):(aV a).size≤60:=by
 unfold aV;split
 · rename_i hr;have v1:=bB a.1;have v2:=bB a.2.1;have v3:=nq a.2.2.1;have v4:=nq a.2.2.2.1;have v5:=bB a.2.2.2.2.1;have v6:=lK a.2.2.2.2.2.1;rcases oF hr with ⟨c,h⟩ | ⟨c,h⟩ | ⟨c,h⟩
   · rw [if_pos c];simp only [ByteArray.size_append];omega
   · rw [if_neg (show ¬ (a.1=1∨a.1=4) by rw [c];decide),if_pos c];simp only [ByteArray.size_append];omega
   · rw [if_neg (show ¬ (a.1=1∨a.1=4) by rcases c with c | c <;> rw [c] <;> decide),if_neg (show ¬ a.1=2 by rcases c with c | c <;> rw [c] <;> decide)];simp only [ByteArray.size_append];omega
 · exact Nat.zero_le _
def qG:List (Ty.d bR)→ByteArray
 | []=>⟨#[]⟩
 | a::l=>aV a++qG l
def EM (l:List (Ty.d bR)):Int:=qc (qG l)
theorem rI {k:Nat} (hk:2 ^ 50≤k) {l:List (Ty.d bR)} (hl:l.length≤1073741824):gu.f k l=some (EM l,()):=by
 refine (dG (L:=fun n i s=>gu.l0 k n l s i) (R:=fun l s=>some (qc (s++qG l),())) (Ty.z bR) l (fun i s=>(s.size:Int)≤60*i) (fun n s hs=>?_) (fun n i s x rest h0 h1 hx hr hp ih=>?_) (n:=k) (s:=⟨#[]⟩) (by omega) (by decide)).trans (by rw [pz];rfl)
 · simp (disch:=omega) only [gu.l0,gu.b0,aN,aI,ub hk,aJ,qG,hO]
 · have hz:=vv x;simp (disch:=omega) only [gu.l0,gu.b0,aK,aU,aF,hx,dx hk,aJ,eL,aC];rw [ih _ (by rw [ByteArray.size_append];omega),qG,az]
theorem rj {k:Nat} (hk:2 ^ 50≤k) {l:List (Ty.d bR)} (hl:l.length≤1073741824):gk.f k l=some (EM l,()):=by
 refine (dG (L:=fun n i s=>gk.l0 k n s l l.length i) (R:=fun l s=>some (qc (s++qG l),())) (Ty.z bR) l (fun i s=>(s.size:Int)≤60*i) (fun n s hs=>?_) (fun n i s x rest h0 h1 hx hr hp ih=>?_) (n:=k) (s:=⟨#[]⟩) (by omega) (by decide)).trans (by rw [pz];rfl)
 · simp (disch:=omega) only [gk.l0,gk.b0,aN,aI,uv hk,aJ,qG,hO]
 · have hz:=vv x;simp (disch:=omega) only [gk.l0,gk.b0,aK,aU,aF,hx,pG hk,aJ,eL,aC];rw [ih _ (by rw [ByteArray.size_append];omega),qG,az]
theorem DY {s:ByteArray} (hs:s.size≤4611686018427387904) (k:Nat):∀ (d i acc n:Nat),i+d=7→acc<128 ^ i→d<n →
 dK.l0 k n s (acc:Int) (i:Int)=some (match rv d ((nb s).drop i) with
  | some (a,m)=>if a=0∧0<i then (0,(0,())) else (((acc+a*128 ^ i:Nat):Int),(((i+m:Nat):Int),()))
  | none=>(0,(0,()))):=by
 intro d
 induction d with
 | zero =>intro i acc n h1 h2 h3;obtain ⟨n,rfl⟩:∃ q,n=q+1:=⟨n-1,by omega⟩;simp (disch:=omega) only [dK.l0,dK.b0,aN,aI,rv]
 | succ d ih =>
  intro i acc n h1 h2 h3;obtain ⟨n,rfl⟩:∃ q,n=q+1:=⟨n-1,by omega⟩;by_cases hlt:i<s.size
  case neg =>rw [List.drop_eq_nil_of_le (by rw [dD];omega)];simp (disch:=omega) only [dK.l0,dK.b0,aK,aN,aU,aI,rv]
  have hb:=kI s i;have hat:=ym hlt;have ih:=ih (i+1);rw [tT hlt];generalize (nb s).getD i 0=b at hb hat;have e8:aH (7*(i:Int))=((7*i:Nat):Int):=by rw [aC (by omega) (by omega)];omega
  have emin:min (7*i) (IntKind.bits .i64)=7*i:=by have:IntKind.bits .i64=64:=rfl;rw [this];omega
  have ep:(2:Int) ^ (7*i)=((128 ^ i:Nat):Int):=by rw [Int.pow_mul,Int.natCast_pow];rfl
  have hp:128 ^ i≤128 ^ 6:=Nat.pow_le_pow_right (by decide) (by omega);rw [show (128:Nat) ^ 6=4398046511104 by decide] at hp;have hps:128 ^ (i+1)=128 ^ i*128:=Nat.pow_succ ..;have hb2:(b % 128)*128 ^ i≤127*128 ^ i:=Nat.mul_le_mul (by omega) (Nat.le_refl _);have ev:aH ((acc:Int)+aH (Int.tmod (b:Int) 128*2 ^ (7*i)))=((acc+b % 128*128 ^ i:Nat):Int):=by
   have e:Int.tmod (b:Int) 128*2 ^ (7*i)=((b % 128*128 ^ i:Nat):Int):=by rw [ep,Int.natCast_mul];rfl
   rw [e,aC (n:=((b % 128*128 ^ i:Nat):Int)) (by omega) (by omega),aC (by omega) (by omega)];omega
  have eb:aH ((b:Nat):Int)=(b:Int):=aC (by omega) (by omega);have ei:aH ((i:Int)+1)=((i+1:Nat):Int):=by rw [aC (by omega) (by omega)];omega
  have ih:=ih (acc+b % 128*128 ^ i) n (by omega) (by omega) (by omega);simp (disch:=omega) only [dK.l0,dK.b0,aK,aU,aF,hat,eb,e8,p5,emin,ev,ei];rw [aN (by omega),aI];by_cases c:b≥128
  · rw [aK (show (b:Int)≥128 by omega),aU,ih,rv,if_pos c];cases q:rv d ((nb s).drop (i+1)) with
    | none=>rfl
    | some p =>
     obtain ⟨a,m⟩:=p;simp only [];by_cases z:a=0
     · simp [z]
     · have hm:a*128 ^ (i+1)=128*a*128 ^ i:=by rw [hps,Nat.mul_comm (128 ^ i),← Nat.mul_assoc,Nat.mul_comm a]
       rw [if_neg (by omega),if_neg z];simp only [];rw [if_neg (by omega)];have e1:acc+b % 128*128 ^ i+a*128 ^ (i+1)=acc+(b % 128+128*a)*128 ^ i:=by rw [hm,Nat.add_mul];omega
       have e2:i+1+m=i+(m+1):=by omega
       rw [e1,e2]
  · have em:b % 128=b:=by omega
    rw [aN (show ¬ (b:Int)≥128 by omega),aI,rv,if_neg c,em];by_cases z:b=0
    · subst z;rw [show ((((0:Nat):Int)==0))=true from rfl,aU];by_cases hi:0<i
      · rw [aK (show (i:Int) > 0 by omega),aU];simp [hi]
      · rw [aN (show ¬ (i:Int) > 0 by omega),aI];simp [hi]
    · rw [show ((b:Int)==0)=false from n_ (by omega),aI];simp [z]
theorem pT {k:Nat} (hk:2 ^ 50≤k) {s:ByteArray} (hs:s.size≤4611686018427387904):dK.f k s=some (Gs (rv 7 (nb s))):=by
 unfold dK.f dK.t;refine (DY hs k 7 0 0 k (by omega) (by decide) (by omega)).trans ?_;rw [List.drop_zero];cases rv 7 (nb s) with
 | none=>rfl
 | some p=>simp [Gs]
theorem Hg {k:Nat} {L0:ByteArray→Int→Option (Int × Int × Unit)} {s:ByteArray} {n:Nat}:∀ (j x m:Nat),j<m→j≤s.size→j≤7→(x+1)*128 ^ j≤562949953421312 →
 aw.l1 k L0 m s (n:Int) (x:Int) ((j:Int)-1)=aw.l1 k L0 (m-j) s (n:Int) ((x*128 ^ j+uC ((nb s).take j):Nat):Int) (-1)
 | 0,x,m,hm,hs,h7,hx=>by simp [uC]
 | j+1,x,m,hm,hs,h7,hx=>by
  obtain ⟨m,rfl⟩:∃ q,m=q+1:=⟨m-1,by omega⟩;have hj:j<s.size:=by omega
  have hb:=kI s j;rw [Nat.pow_succ,← Nat.mul_assoc,Nat.mul_comm _ 128,← Nat.mul_assoc] at hx;have hpos:1≤128 ^ j:=Nat.one_le_pow _ _ (by decide);have hx2:(128*(x+1))*1≤(128*(x+1))*128 ^ j:=Nat.mul_le_mul (Nat.le_refl _) hpos;have hat:=ym hj;have e0:((j+1:Nat):Int)-1=(j:Int):=by omega
  have c:(j:Int)≥0:=by omega
  have c2:(j:Int)<(s.size:Int):=by omega
  rw [Ku hj,Fh,List.length_take,dD,Nat.min_eq_left (by omega)];generalize (nb s).getD j 0=b at hb hat ⊢;have w1:aH (((b:Nat):Int))=(b:Int):=aC (by omega) (by omega);have w2:aH ((x:Int)*128)=(x:Int)*128:=aC (by omega) (by omega);have w3:aH ((x:Int)*128+Int.tmod (b:Int) 128)=((x*128+b % 128:Nat):Int):=by
   have e:(x:Int)*128+Int.tmod (b:Int) 128=((x*128+b % 128:Nat):Int):=by show (x:Int)*128+((b % 128:Nat):Int)=_;omega
   rw [e];exact aC (by omega) (by omega)
  have w4:aH ((j:Int)-1)=(j:Int)-1:=aC (by omega) (by omega);have hx3:(x*128+b % 128+1)*128 ^ j≤(128*(x+1))*128 ^ j:=Nat.mul_le_mul (by omega) (Nat.le_refl _);have ih:=Hg (k:=k) (L0:=L0) (s:=s) (n:=n) j (x*128+b % 128) m (by omega) (by omega) (by omega) (by omega);rw [e0];simp only [aw.l1,aw.b1,decide_eq_true c,aU,aF c c2,hat,w1,w2,w3,w4];rw [ih,show m+1-(j+1)=m-j by omega];congr 2;rw [Nat.pow_succ,Nat.add_mul,Nat.mul_assoc,Nat.mul_comm 128 (128 ^ j),Nat.mul_comm (b % 128)];omega
theorem OQ {s:ByteArray} {n:Nat} (h7:n≤7):uC ((nb s).take n)<562949953421312:=by
 have:=Cl ((nb s).take n);have h1:((nb s).take n).length≤7:=by rw [List.length_take];omega
 have h2:(128:Nat) ^ ((nb s).take n).length≤128 ^ 7:=Nat.pow_le_pow_right (by decide) h1;rw [show (128:Nat) ^ 7=562949953421312 by decide] at h2;omega
theorem DJ {k:Nat} (hk:2 ^ 50≤k) {s:ByteArray}:∀ (d i n:Nat),i+d=8→1≤i→d<n →
 aw.l0 k n s (i:Int)=some (match rv 7 (nb s) with | some (a,m)=>if i≤m then ((a:Int),((m:Int),())) else (0,(0,())) | none=>(0,(0,()))):=by
 have stop:∀ i,(7<i∨s.size<i)→(match rv 7 (nb s) with | some (a,m)=>if i≤m then ((a:Int),((m:Int),())) else (0,(0,())) | none=>(0,(0,())))=((0:Int),((0:Int),())):=by
  intro i hi;cases q:rv 7 (nb s) with
  | none=>rfl
  | some p =>obtain ⟨a,m⟩:=p;obtain ⟨_,_,_,h4,_,h6⟩:=rq 6 (nb s) a m (uw s) q;rw [dD] at h4;exact if_neg (by omega)
 intro d
 induction d with
 | zero =>intro i n h1 h2 h3;obtain ⟨n,rfl⟩:∃ q,n=q+1:=⟨n-1,by omega⟩;rw [stop i (by omega)];simp (disch:=omega) only [aw.l0,aw.b0,aN,aI]
 | succ d ih =>
  intro i n h1 h2 h3;obtain ⟨n,rfl⟩:∃ q,n=q+1:=⟨n-1,by omega⟩;by_cases hs:i≤s.size
  case neg =>rw [stop i (by omega)];simp (disch:=omega) only [aw.l0,aw.b0,aK,aN,aU,aI]
  have hp:(128:Nat) ^ i≤128 ^ 7:=Nat.pow_le_pow_right (by decide) (by omega);rw [show (128:Nat) ^ 7=562949953421312 by decide] at hp;simp (disch:=omega) only [aw.l0,aw.b0,aK,aU,aC];refine (Hg (k:=k) (L0:=aw.l0 k n) (s:=s) (n:=i) i 0 k (by omega) hs (by omega) (by omega)).trans ?_;obtain ⟨m,hm⟩:∃ m,k-i=m+1:=⟨k-i-1,by omega⟩;have hd7:=OQ (s:=s) (n:=i) (by omega);have hc:=JM (s:=s) (n:=i) h2 (by omega) hs;rw [hm,Nat.zero_mul,Nat.zero_add];simp only [aw.l1,aw.b1,show decide ((-1:Int)≥0)=false by decide,aI,iV hk,aJ,du hd7];rw [bv (by omega) (by omega),p5,hc,aC (by omega) (by omega)];have hw:=M0 (nb s) (uw s) 6 i h2 (by omega) (by rw [dD];exact hs);cases hq:sg ((nb s).take i) with
  | true =>obtain ⟨a,ha⟩:=hw.1 hq;rw [aU,ha];simp only [];rw [if_pos (Nat.le_refl _),Mh (uw s) ha]
  | false =>
   have hnot:∀ a,rv 7 (nb s)≠some (a,i):=fun a ha=>by have:=hw.2 ⟨a,ha⟩;rw [hq] at this;cases this
   rw [aI];refine (ih (i+1) n (by omega) (by omega) (by omega)).trans ?_;cases q:rv 7 (nb s) with
   | none=>rfl
   | some p =>
    obtain ⟨a,m'⟩:=p;have:m'≠i:=fun e=>hnot a (by rw [q,e])
    simp only [];by_cases c:i≤m'
    · rw [if_pos c,if_pos (by omega)]
    · rw [if_neg c,if_neg (by omega)]
theorem gZ {k:Nat} (hk:2 ^ 50≤k) (s:ByteArray):aw.f k s=some (Gs (rv 7 (nb s))):=by
 unfold aw.f aw.t;refine (DJ hk 7 1 k (by omega) (by omega) (by omega)).trans ?_;cases q:rv 7 (nb s) with
 | none=>rfl
 | some p =>obtain ⟨a,m⟩:=p;obtain ⟨_,_,_,_,h5,_⟩:=rq 6 (nb s) a m (uw s) q;simp only [Gs];rw [if_pos h5]
theorem r_ {k:Nat} (hk:2 ^ 50≤k) {x:Nat} (hx:x<4294967296) (t:ByteArray):br.f k (fb x++t) 4=some ((x:Int),(true,())):=by
 have hz:=oR x t;have st:∀ (q a j:Nat),j<4→a<4294967296→br.l0 k (q+1) (fb x++t) 4 (a:Int) (j:Int)=br.l0 k q (fb x++t) 4 ((a*256+(nb (fb x++t)).getD j 0:Nat):Int) ((j+1:Nat):Int):=fun q a j hj ha=>by
  have hb:=kI (fb x++t) j;have hat:=ym (s:=fb x++t) (i:=j) (by omega);generalize (nb (fb x++t)).getD j 0=b at *;have e1:aH (aH ((a:Int)*256)+aH (b:Int))=((a*256+b:Nat):Int):=by rw [aC (n:=(a:Int)*256) (by omega) (by omega),aC (n:=(b:Int)) (by omega) (by omega),aC (by omega) (by omega)];omega
  have ej:aH ((j:Int)+1)=((j+1:Nat):Int):=by rw [aC (by omega) (by omega)];omega
  simp (disch:=omega) only [br.l0,br.b0,aK,aU,aF,hat,e1,ej]
 unfold br.f br.t;rw [q8,aJ];simp only [show decide ((1:Int)≤4∧(4:Int)≤7)=true by decide,eQ,aI,aN (show ¬ (((fb x++t).size:Int)<4) by omega)];obtain ⟨q,hq⟩:∃ q,k=q+5:=⟨k-5,by omega⟩;refine (congrArg (fun z=>br.l0 k z (fb x++t) 4 0 0) hq).trans ?_;refine (st (q+4) 0 0 (by omega) (by omega)).trans ?_;rw [xd];simp only [List.getD_cons_zero,Nat.zero_mul,Nat.zero_add];refine (st (q+3) _ 1 (by omega) (by omega)).trans ?_;rw [xd];simp only [List.getD_cons_zero,List.getD_cons_succ];refine (st (q+2) _ 2 (by omega) (by omega)).trans ?_;rw [xd];simp only [List.getD_cons_zero,List.getD_cons_succ];refine (st (q+1) _ 3 (by omega) (by omega)).trans ?_;rw [xd];simp only [List.getD_cons_zero,List.getD_cons_succ];simp only [br.l0,br.b0,show decide ((((3+1:Nat)):Int)<4)=false by decide,aI];congr 3;omega
theorem qg {k:Nat} (hk:2 ^ 50≤k) {x:Nat} (hx:x<4294967296) (t:ByteArray):cE.f k (fb x++t) 4=some ((x:Int),(true,())):=by
 have hz:=oR x t;have st:∀ (q a j:Nat),j<4→a<16777216→cE.l0 k (q+1) (fb x++t) (a:Int) 4 (j:Int)=cE.l0 k q (fb x++t) ((a*256+(nb (fb x++t)).getD j 0:Nat):Int) 4 ((j+1:Nat):Int):=fun q a j hj ha=>by
  have hb:=kI (fb x++t) j;have hat:=ym (s:=fb x++t) (i:=j) (by omega);generalize (nb (fb x++t)).getD j 0=b at *;have e0:aH ((a:Int)*2 ^ min (Int.toNat 8) (IntKind.bits .i64))=((a*256:Nat):Int):=by rw [show (2:Int) ^ min (Int.toNat 8) (IntKind.bits .i64)=256 by decide,aC (by omega) (by omega)];omega
  have e2:aH (b:Int)=(b:Int):=aC (by omega) (by omega);have ej:aH ((j:Int)+1)=((j+1:Nat):Int):=by rw [aC (by omega) (by omega)];omega
  simp (disch:=omega) only [cE.l0,cE.b0,aK,aU,aF,hat,e0,e2,ej];rw [OX (by omega) hb]
 unfold cE.f cE.t;rw [wS,aJ];simp only [show decide ((1:Int)≤4∧(4:Int)≤7)=true by decide,eQ,aI,aN (show ¬ (((fb x++t).size:Int)<4) by omega)];obtain ⟨q,hq⟩:∃ q,k=q+5:=⟨k-5,by omega⟩;refine (congrArg (fun z=>cE.l0 k z (fb x++t) 0 4 0) hq).trans ?_;refine (st (q+4) 0 0 (by omega) (by omega)).trans ?_;rw [xd];simp only [List.getD_cons_zero,Nat.zero_mul,Nat.zero_add];refine (st (q+3) _ 1 (by omega) (by omega)).trans ?_;rw [xd];simp only [List.getD_cons_zero,List.getD_cons_succ];refine (st (q+2) _ 2 (by omega) (by omega)).trans ?_;rw [xd];simp only [List.getD_cons_zero,List.getD_cons_succ];refine (st (q+1) _ 3 (by omega) (by omega)).trans ?_;rw [xd];simp only [List.getD_cons_zero,List.getD_cons_succ];simp only [cE.l0,cE.b0,show decide ((((3+1:Nat)):Int)<4)=false by decide,aI];congr 3;omega
theorem wI (k:Nat) {s:ByteArray} (h:s.size<4):br.f k s 4=some (0,(false,())):=by unfold br.f br.t;rw [q8,aJ];simp only [show decide ((1:Int)≤4∧(4:Int)≤7)=true by decide,eQ,aI,aK (show (s.size:Int)<4 by omega),aU]
theorem vp (k:Nat) {s:ByteArray} (h:s.size<4):cE.f k s 4=some (0,(false,())):=by unfold cE.f cE.t;rw [wS,aJ];simp only [show decide ((1:Int)≤4∧(4:Int)≤7)=true by decide,eQ,aI,aK (show (s.size:Int)<4 by omega),aU]
def am (s:ByteArray):ByteArray:=if s.size > 200 then ⟨#[]⟩ else sL (qc (kT s))++kT s
theorem ln (s:ByteArray):(am s).size≤211:=by
 unfold am;split
 · exact Nat.zero_le _
 · have:=nq s;rw [ByteArray.size_append,lK];omega
theorem pS {s:ByteArray} (h:s.size≤200):5≤(am s).size:=by unfold am;rw [if_neg (by omega),ByteArray.size_append,lK];unfold kT;rw [du (by omega),ByteArray.size_append];have:=ap s.size;omega
theorem nJ {k:Nat} (hk:2 ^ 50≤k) (s:ByteArray):gR.f k s=some (am s,()):=by
 unfold gR.f gR.t am;by_cases c:s.size > 200
 · rw [aK (show (s.size:Int) > 200 by omega),aU,if_pos c]
 · have h1:=bB (s.size:Int);have h2:=vQ (ix (s.size:Int)++s);rw [aN (show ¬ (s.size:Int) > 200 by omega),aI,if_neg c];unfold kT;simp (disch:=first | omega | (simp only [ByteArray.size_append,lK];omega)) only [iV hk,aJ,eL,ub hk];rw [s6 hk h2.1 h2.2,aJ,eL (by simp only [ByteArray.size_append,lK];omega)]
theorem oq {k:Nat} (hk:2 ^ 50≤k) (s:ByteArray):i_.f k s=some (am s,()):=by
 unfold i_.f i_.t am;by_cases c:s.size > 200
 · rw [aK (show (s.size:Int) > 200 by omega),aU,if_pos c]
 · have h1:=nq s;have h2:=vQ (kT s);rw [aN (show ¬ (s.size:Int) > 200 by omega),aI,if_neg c];simp (disch:=omega) only [mQ hk,aJ,uv hk];rw [rt hk h2.1 h2.2,aJ,eL (by rw [lK];omega)]
theorem aP (a b:ByteArray):(a++b).size=a.size+b.size:=ByteArray.size_append ..
theorem tN (a b t:ByteArray):ByteArray.extract (a++(b++t)) (a.size+b.size) (a++(b++t)).size=t:=by have:=gO (a++b) t;rw [aP,az] at this;exact this
theorem OM (a b t:ByteArray):ByteArray.extract (a++(b++t)) a.size (a.size+b.size)=b:=mI (by
 rw [yf,jr,jr,List.take_append,List.take_of_length_le (by rw [dD];omega),dD,show a.size+b.size-a.size=b.size by omega,List.drop_left' (dD a),List.take_left' (dD b)])
theorem vq (a b:Nat):((a:Int)+(b:Int))=((a+b:Nat):Int):=rfl
theorem pL {k:Nat} (hk:2 ^ 50≤k) {a:Nat} {t:ByteArray} (ha:a<562949953421312) (hs:t.size≤1099511627776):dK.f k (bJ a++t)=some ((a:Int),(((bJ a).size:Int),())):=by have:=ap a;rw [pT hk (by rw [aP];omega),sN ha];rfl
theorem ob {k:Nat} (hk:2 ^ 50≤k) {s:ByteArray} (h:rv 7 (nb s)=none) (hs:s.size≤1099511627776):dK.f k s=some (0,(0,())):=by rw [pT hk (by omega),h];rfl
theorem dJ {k:Nat} (hk:2 ^ 50≤k) {a:Nat} {t:ByteArray} (ha:a<562949953421312):aw.f k (bJ a++t)=some ((a:Int),(((bJ a).size:Int),())):=by rw [gZ hk,sN ha];rfl
theorem lD {k:Nat} (hk:2 ^ 50≤k) {s:ByteArray} (h:rv 7 (nb s)=none):aw.f k s=some (0,(0,())):=by rw [gZ hk,h];rfl
theorem fj {k:Nat} (hk:2 ^ 50≤k) {a:Nat} {t:ByteArray} (ha:a<562949953421312) (hs:t.size≤1099511627776):aL.f k (bJ a++t,(false,()))=some ((t,(false,())),((a:Int),())):=by have h1:=ap a;unfold aL.f aL.t;rw [pL hk ha hs,aJ];simp only [aI];rw [show (((bJ a).size:Int)==0)=false from n_ (by omega),aI,bv (by omega) (by rw [aP];omega),p5,gO]
theorem nD {k:Nat} (hk:2 ^ 50≤k) {s:ByteArray} (h:rv 7 (nb s)=none) (hs:s.size≤1099511627776):aL.f k (s,(false,()))=some ((s,(true,())),(0,())):=by unfold aL.f aL.t;rw [ob hk h hs,aJ];rfl
theorem xP {k:Nat} (hk:2 ^ 50≤k) {s:ByteArray} (hs:s.size≤1099511627776):aL.f k (s,(true,()))=some ((s,(true,())),(0,())):=by unfold aL.f aL.t;rw [pT hk (show s.size≤_ by omega),aJ];rfl
theorem sP (k:Nat) (u t:ByteArray):ax.f k (u++t,(false,())) (u.size:Int)=some ((t,(false,())),(u,())):=by unfold ax.f ax.t;simp only [aI];rw [aN (by rw [aP];omega),aI,bv (by omega) (by rw [aP];omega),bv (by omega) (by rw [aP];omega),p5,gO,A7]
theorem tX (k:Nat) {s:ByteArray} {n:Int} (h:n > (s.size:Int)):ax.f k (s,(false,())) n=some ((s,(true,())),(⟨#[]⟩,())):=by unfold ax.f ax.t;simp only [aI];rw [aK h,aU]
theorem tp (k:Nat) (s:ByteArray) (n:Int):ax.f k (s,(true,())) n=some ((s,(true,())),(⟨#[]⟩,())):=by unfold ax.f ax.t;rfl
theorem pQ (s:ByteArray):(∃ u t,u.size<562949953421312∧s=bJ u.size++(u++t))∨rv 7 (nb s)=none∨(∃ a t,a<562949953421312∧s=bJ a++t∧t.size<a):=by
 rcases lI s with ⟨a,t,ha,rfl⟩ | h
 · by_cases c:t.size<a
   · exact .inr (.inr ⟨a,t,ha,rfl,c⟩)
   · have e:=vm t (n:=a) (by omega);have hz:(ByteArray.extract t 0 a).size=a:=by rw [← dD,lZ,List.length_take,dD];omega
     exact .inl ⟨_,_,by rw [hz];exact ha,by rw [hz,← e]⟩
 · exact .inr (.inl h)
theorem ou {k:Nat} (hk:2 ^ 50≤k) {u t:ByteArray} (hu:u.size<562949953421312) (hs:(u++t).size≤1099511627776):aq.f k (bJ u.size++(u++t),(false,()))=some ((t,(false,())),(u,())):=by unfold aq.f aq.t;rw [fj hk hu hs,aJ];simp only [];rw [sP,aJ]
theorem Aj {k:Nat} (hk:2 ^ 50≤k) {s:ByteArray} (hs:s.size≤1099511627776):aq.f k (s,(true,()))=some ((s,(true,())),(⟨#[]⟩,())):=by unfold aq.f aq.t;rw [xP hk hs,aJ];simp only [];rw [tp,aJ]
theorem zO {k:Nat} (hk:2 ^ 50≤k) {s:ByteArray} (hs:s.size≤1099511627776) (h:rv 7 (nb s)=none∨(∃ a t,a<562949953421312∧s=bJ a++t∧t.size<a)):∃ s',s'.size≤1099511627776∧aq.f k (s,(false,()))=some ((s',(true,())),(⟨#[]⟩,())):=by
 unfold aq.f aq.t;rcases h with h | ⟨a,t,ha,rfl,ht⟩
 · refine ⟨s,hs,?_⟩;rw [nD hk h hs,aJ];simp only [];rw [tp,aJ]
 · have:=ap a;rw [aP] at hs;refine ⟨t,by omega,?_⟩;rw [fj hk ha (by omega),aJ];simp only [];rw [tX k (by omega),aJ]
theorem xO {k:Nat} (hk:2 ^ 50≤k) {u t:ByteArray} (hu:u.size<562949953421312) (hs:(u++t).size≤1099511627776):dE.f k (bJ u.size++(u++t))=some (u,(t,(true,()))):=by
 have h1:=ap u.size;have h2:(bJ u.size++(u++t)).size=(bJ u.size).size+(u.size+t.size):=by rw [aP,aP]
 rw [aP] at hs;unfold dE.f dE.t;rw [dJ hk hu,aJ];simp only [];rw [show (((bJ u.size).size:Int)==0)=false from n_ (by omega),aI,aC (by omega) (by omega),aN (by omega),aI,vq,aC (by omega) (by omega),
  va (by omega) (by omega) (by omega),bv (by omega) (by omega),p5,p5,OM,tN]
theorem zD {k:Nat} (hk:2 ^ 50≤k) {s:ByteArray} (hs:s.size≤1099511627776) (h:rv 7 (nb s)=none∨(∃ a t,a<562949953421312∧s=bJ a++t∧t.size<a)):dE.f k s=some (⟨#[]⟩,(⟨#[]⟩,(false,()))):=by
 unfold dE.f dE.t;rcases h with h | ⟨a,t,ha,rfl,ht⟩
 · rw [lD hk h,aJ];rfl
 · have:=ap a;rw [aP] at hs;rw [dJ hk ha,aJ];simp only [];rw [show (((bJ a).size:Int)==0)=false from n_ (by omega),aI,aC (by rw [aP];omega) (by rw [aP];omega),aK (by rw [aP];omega),aU]
section
open Classical
variable {α:Type}
noncomputable def qN (ok:α→Prop) (shw:α→ByteArray) (z:α) (s:ByteArray):α × Bool:=if h:∃ r,ok r∧shw r=s then (h.choose,true) else (z,false)
theorem Ci {ok:α→Prop} {shw:α→ByteArray} {z:α} {s:ByteArray} {r:α} (h:qN ok shw z s=(r,true)):ok r∧shw r=s:=by
 unfold qN at h;split at h
 · rename_i q;obtain rfl:=(Prod.mk.inj h).1;exact q.choose_spec
 · cases (Prod.mk.inj h).2
theorem IE {ok:α→Prop} {shw:α→ByteArray} {z:α} {s:ByteArray} (h:(qN ok shw z s).2=false):qN ok shw z s=(z,false):=by
 unfold qN at h ⊢;split
 · rename_i q;rw [dif_pos q] at h;cases h
 · rfl
theorem lg (ok:α→Prop) (shw:α→ByteArray) (z:α) (s:ByteArray):(∃ r,ok r∧shw r=s∧qN ok shw z s=(r,true))∨qN ok shw z s=(z,false):=by
 cases h:(qN ok shw z s).2 with
 | false=>exact .inr (IE h)
 | true =>
  have e:qN ok shw z s=((qN ok shw z s).1,true):=by rw [← h]
  exact .inl ⟨_,(Ci e).1,(Ci e).2,e⟩
theorem oA {ok:α→Prop} {shw:α→ByteArray} {z:α} {s:ByteArray} {f:Option (α × Bool × Unit)} (h1:∀ r,ok r→shw r=s→f=some (r,(true,())))
 (h2:(∃ r,ok r∧shw r=s∧f=some (r,(true,())))∨f=some (z,(false,()))):f=some ((qN ok shw z s).1,((qN ok shw z s).2,())):=by
 rcases lg ok shw z s with ⟨r,a,b,e⟩ | e
 · rw [e,h1 r a b]
 · rcases h2 with ⟨r,a,b,_⟩ | h2
   · unfold qN at e;rw [dif_pos ⟨r,a,b⟩] at e;cases (Prod.mk.inj e).2
   · rw [e,h2]
theorem Lp {ok:α→Prop} {shw:α→ByteArray} {z:α} {r:α} (hi:∀ a b,ok a→ok b→shw a=shw b→a=b) (h:ok r):qN ok shw z (shw r)=(r,true):=by
 rcases lg ok shw z (shw r) with ⟨q,a,b,e⟩ | e
 · rw [e,hi q r a h b]
 · unfold qN at e;rw [dif_pos ⟨r,h,rfl⟩] at e;cases (Prod.mk.inj e).2
end
abbrev ur:Ty.d bR:=(0,(0,(ByteArray.empty,(ByteArray.empty,(0,(0,()))))))
theorem Bh {a:Ty.d bR} (h:k_ a=true) :
 (∃ (b:Nat) (kd:Nat),(kd=1∨kd=4)∧b≤1000000∧a=((kd:Int),((b:Int),(a.2.2.1,(a.2.2.2.1,(0,(0,()))))))∧a.2.2.1.size≤8∧a.2.2.2.1.size≤24 ∧
  aV a=bJ kd++(bJ b++(bJ a.2.2.1.size++(a.2.2.1++(bJ a.2.2.2.1.size++(a.2.2.2.1++⟨#[]⟩)))))) ∨
 (∃ (b:Nat),b≤1000000∧a=(2,((b:Int),(a.2.2.1,(ByteArray.empty,(0,(0,()))))))∧a.2.2.1.size≤8∧aV a=bJ 2++(bJ b++(bJ a.2.2.1.size++(a.2.2.1++⟨#[]⟩)))) ∨
 (∃ (b kd c x:Nat),(kd=3∨kd=5)∧b≤1000000∧c≤20∧x<4294967296∧a=((kd:Int),((b:Int),(ByteArray.empty,(ByteArray.empty,((c:Int),((x:Int),()))))))∧aV a=bJ kd++(bJ b++(bJ c++(fb x++⟨#[]⟩)))):=by
 have hh:=h;obtain ⟨kd,b,key,val,c,x,u⟩:=a;change Int at kd b c x;change ByteArray at key val;rcases yO h with ⟨hc,h⟩ | ⟨hc,h⟩ | ⟨hc,h⟩
 · obtain ⟨z1,z2,z3,z4,z5,z6,z7⟩:=h;subst z4;subst z5;obtain ⟨b,rfl⟩:=Int.eq_ofNat_of_zero_le (show 0≤b by omega);left;refine ⟨b,kd.toNat,by omega,by omega,?_,z2,z3,?_⟩
   · rw [show ((kd.toNat:Nat):Int)=kd by omega]
   · unfold aV;rw [if_pos hh,if_pos hc];simp only [kT];rw [du (by omega),du (by omega),du (by omega),hO,az,show ix kd=bJ kd.toNat by rw [← du (show kd.toNat<562949953421312 by omega)];congr 1;omega]
 · obtain ⟨z1,z2,z3,z4,z5,z6,z7⟩:=h;subst z3;subst z4;subst z5;subst hc;obtain ⟨b,rfl⟩:=Int.eq_ofNat_of_zero_le (show 0≤b by omega);right;left;refine ⟨b,by omega,rfl,z2,?_⟩;unfold aV;rw [if_pos hh,if_neg (show ¬ ((2:Int)=1∨(2:Int)=4) by decide),if_pos rfl];simp only [kT];rw [du (by omega),du (by omega),hO];rfl
 · obtain ⟨z1,z2,z3,z4,z5,z6,z7,z8⟩:=h;subst z1;subst z2;obtain ⟨b,rfl⟩:=Int.eq_ofNat_of_zero_le (show 0≤b by omega);obtain ⟨c,rfl⟩:=Int.eq_ofNat_of_zero_le (show 0≤c by omega);obtain ⟨x,rfl⟩:=Int.eq_ofNat_of_zero_le (show 0≤x by omega);right;right;refine ⟨b,kd.toNat,c,x,by omega,by omega,by omega,by omega,?_,?_⟩
   · rw [show ((kd.toNat:Nat):Int)=kd by omega];rfl
   · unfold aV;rw [if_pos hh,if_neg (show ¬ (kd=1∨kd=4) by omega),if_neg (show ¬ kd=2 by omega)];simp only [];rw [du (by omega),du (by omega),hO,show ix kd=bJ kd.toNat by rw [← du (show kd.toNat<562949953421312 by omega)];congr 1;omega];rfl
theorem GD {a:Ty.d bR} {s:ByteArray} (h:aV a=s) (hs:s≠⟨#[]⟩):k_ a=true:=by
 cases c:k_ a with
 | true=>rfl
 | false=>unfold aV at h;rw [c] at h;exact absurd h.symm hs
theorem MU {kd:Nat} (h:kd≠1):((kd:Int)==1)=false:=n_ (by omega)
theorem MR {kd:Nat} (h:kd≠2):((kd:Int)==2)=false:=n_ (by omega)
theorem MN {kd:Nat} (h:kd≠4):((kd:Int)==4)=false:=n_ (by omega)
theorem Mr:(((1:Nat):Int)==1)=true:=rfl
theorem NW:(((4:Nat):Int)==1)=false:=rfl
theorem NT:(((4:Nat):Int)==4)=true:=rfl
theorem NB:(((2:Nat):Int)==1)=false:=rfl
theorem Md:(((2:Nat):Int)==2)=true:=rfl
theorem Ms:(((2:Nat):Int)==4)=false:=rfl
theorem Of:((0:Int)==1)=false:=rfl
theorem Oh:((0:Int)==4)=false:=rfl
theorem Og:((0:Int)==2)=false:=rfl
theorem e0:(⟨#[]⟩:ByteArray).size=0:=rfl
theorem KG {kd b:Nat} {key val:ByteArray} (hb:b<562949953421312) (hc:kd=1∨kd=4) (h:k_ ((kd:Int),((b:Int),(key,(val,(0,(0,()))))))=true) :
 aV ((kd:Int),((b:Int),(key,(val,(0,(0,()))))))=bJ kd++(bJ b++(bJ key.size++(key++(bJ val.size++(val++⟨#[]⟩))))):=by
 rcases yO h with ⟨_,h1⟩ | ⟨h0,_⟩ | ⟨h0,_⟩
 · unfold aV;rw [if_pos h,if_pos (show ((kd:Int)=1∨(kd:Int)=4) by omega)];simp only [kT];rw [du (by omega),du hb,du (by omega),du (by omega),hO,az]
 · omega
 · omega
theorem Jc {b:Nat} {key:ByteArray} (hb:b<562949953421312) (h:k_ (((2:Nat):Int),((b:Int),(key,(ByteArray.empty,(0,(0,()))))))=true) :
 aV (((2:Nat):Int),((b:Int),(key,(ByteArray.empty,(0,(0,()))))))=bJ 2++(bJ b++(bJ key.size++(key++⟨#[]⟩))):=by
 rcases yO h with ⟨h0,_⟩ | ⟨_,h1⟩ | ⟨h0,_⟩
 · omega
 · unfold aV;rw [if_pos h,if_neg (show ¬ (((2:Nat):Int)=1∨((2:Nat):Int)=4) by decide),if_pos (show ((2:Nat):Int)=2 from rfl)];simp only [kT];rw [du (by omega),du hb,du (by omega),hO]
 · omega
theorem Jj {kd b c x:Nat} (hb:b<562949953421312) (hx:c<562949953421312) (hc:kd≠1∧kd≠2∧kd≠4) (h:k_ ((kd:Int),((b:Int),(ByteArray.empty,(ByteArray.empty,((c:Int),((x:Int),()))))))=true) :
 aV ((kd:Int),((b:Int),(ByteArray.empty,(ByteArray.empty,((c:Int),((x:Int),()))))))=bJ kd++(bJ b++(bJ c++(fb x++⟨#[]⟩))):=by
 rcases yO h with ⟨h0,_⟩ | ⟨h0,_⟩ | ⟨_,h1⟩
 · omega
 · omega
 · unfold aV;rw [if_pos h,if_neg (show ¬ ((kd:Int)=1∨(kd:Int)=4) by omega),if_neg (show ¬ (kd:Int)=2 by omega)];simp only [];have hk5:kd≤5:=by omega
   rw [du (by omega),du hb,du hx,hO];rfl
theorem B5 {k:Nat} (hk:2 ^ 50≤k) {a:Ty.d bR} (h:k_ a=true):dL.f k (aV a)=some (a,(true,())):=by
 unfold dL.f dL.t;rcases Bh h with ⟨b,kd,hc,hb,ha,z1,z2,e⟩ | ⟨b,hb,ha,z1,e⟩ | ⟨b,kd,c,x,hc,hb,z1,z2,ha,e⟩
 · rw [e];rw [ha] at h
   conv=>rhs;rw [ha]
   have v1:=ap kd;have v2:=ap b;have v3:=ap a.2.2.1.size;have v4:=ap a.2.2.2.1.size;rcases hc with rfl | rfl
   · simp (disch:=first | omega | (simp only [aP,e0];omega)) only [fj hk,ou hk,aJ,aU,aI,Mr,cZ,eQ,jH,h]
   · simp (disch:=first | omega | (simp only [aP,e0];omega)) only [fj hk,ou hk,aJ,aU,aI,NW,NT,cZ,eQ,jH,h]
 · rw [e];rw [ha] at h
   conv=>rhs;rw [ha]
   have v1:=ap 2;have v2:=ap b;have v3:=ap a.2.2.1.size;simp (disch:=first | omega | (simp only [aP,e0];omega)) only [fj hk,ou hk,aJ,aU,aI,NB,Md,Ms,cZ,eQ,jH];rw [show ((2:Nat):Int)=2 from rfl,h];rfl
 · rw [e,ha];rw [ha] at h;have v1:=ap kd;have v2:=ap b;have v3:=ap c;have v4:=nw x;have hby:=sP k (fb x) ⟨#[]⟩;rw [nw] at hby;have hrf:=qg hk z2 ⟨#[]⟩;rw [hO] at hrf;rw [show (((4:Nat)):Int)=4 from rfl] at hby;simp (disch:=first | omega | (simp only [aP,e0];omega)) only [fj hk,hby,hrf,aJ,aU,aI,MU,MR,MN,cZ,eQ,jH,h]
theorem xz {k:Nat} (hk:2 ^ 50≤k) {s:ByteArray} (hs:s.size≤1099511627776) :
 (∃ r,k_ r=true∧aV r=s∧dL.f k s=some (r,(true,())))∨dL.f k s=some (ur,(false,())):=by
 have rf0:=vp k (s:=⟨#[]⟩) (by decide);unfold dL.f dL.t;rcases lI s with ⟨kd,t,hkd,rfl⟩ | h0
 case inr =>right;simp (disch:=first | omega | (simp only [aP,e0];omega)) only [nD hk h0,xP hk,tp k,rf0,aJ,aU,aI,Of,Og,Oh]
 have v1:=ap kd;rw [aP] at hs;rcases lI t with ⟨b,t2,hb,rfl⟩ | h1
 case inr =>
  right;by_cases c1:kd=1
  · subst c1;simp (disch:=first | omega | (simp only [aP,e0];omega)) only [fj hk,nD hk h1,Aj hk,aJ,aU,aI,Mr]
  by_cases c4:kd=4
  · subst c4;simp (disch:=first | omega | (simp only [aP,e0];omega)) only [fj hk,nD hk h1,Aj hk,aJ,aU,aI,NW,NT]
  by_cases c2:kd=2
  · subst c2;simp (disch:=first | omega | (simp only [aP,e0];omega)) only [fj hk,nD hk h1,Aj hk,aJ,aU,aI,NB,Ms,Md]
  · simp (disch:=first | omega | (simp only [aP,e0];omega)) only [fj hk,nD hk h1,xP hk,tp k,rf0,aJ,aU,aI,MU c1,MR c2,MN c4]
 have v2:=ap b;rw [aP] at hs;by_cases c2:kd=2
 · subst c2;rcases pQ t2 with ⟨key,t3,hu,rfl⟩ | bad
   case inr =>right;obtain ⟨s',hs',e⟩:=zO hk (by omega) bad;simp (disch:=first | omega | (simp only [aP,e0];omega)) only [fj hk,e,aJ,aU,aI,NB,Ms,Md]
   have v3:=ap key.size;simp only [aP] at hs;simp (disch:=first | omega | (simp only [aP,e0];omega)) only [fj hk,ou hk,aJ,aU,aI,NB,Ms,Md];by_cases c:t3=⟨#[]⟩
   · subst c;simp only [cZ,eQ,aI,jH,aJ];cases hr:k_ (((2:Nat):Int),((b:Int),(key,(ByteArray.empty,(0,(0,())))))) with
     | true=>exact .inl ⟨_,hr,Jc hb hr,rfl⟩
     | false=>exact .inr rfl
   · rw [n8 c];exact .inr rfl
 by_cases c1:kd=1∨kd=4
 · have hcc:(bif ((kd:Int)==1) then true else ((kd:Int)==4))=true:=by rcases c1 with rfl | rfl <;> rfl
   rcases pQ t2 with ⟨key,t3,hu,rfl⟩ | bad
   case inr =>
    right;obtain ⟨s',hs',e⟩:=zO hk (by omega) bad;rcases c1 with rfl | rfl
    · simp (disch:=first | omega | (simp only [aP,e0];omega)) only [fj hk,e,Aj hk hs',aJ,aU,aI,Mr]
    · simp (disch:=first | omega | (simp only [aP,e0];omega)) only [fj hk,e,Aj hk hs',aJ,aU,aI,NW,NT]
   have v3:=ap key.size;simp only [aP] at hs;rcases pQ t3 with ⟨val,t4,hv,rfl⟩ | bad
   case inr =>
    right;obtain ⟨s',hs',e⟩:=zO hk (by omega) bad;rcases c1 with rfl | rfl
    · simp (disch:=first | omega | (simp only [aP,e0];omega)) only [fj hk,ou hk,e,aJ,aU,aI,Mr]
    · simp (disch:=first | omega | (simp only [aP,e0];omega)) only [fj hk,ou hk,e,aJ,aU,aI,NW,NT]
   have v4:=ap val.size;simp only [aP] at hs;have fin:(bif !seq t4 ⟨#[]⟩ then some (ur,(false,())) else bif !k_ ((kd:Int),((b:Int),(key,(val,(0,(0,())))))) then some (ur,(false,())) else some (((kd:Int),((b:Int),(key,(val,(0,(0,())))))),(true,())))=dL.t k (bJ kd++(bJ b++(bJ key.size++(key++(bJ val.size++(val++t4)))))):=by
    unfold dL.t;rcases c1 with rfl | rfl
    · simp (disch:=first | omega | (simp only [aP,e0];omega)) only [fj hk,ou hk,aJ,aU,aI,Mr,jH]
    · simp (disch:=first | omega | (simp only [aP,e0];omega)) only [fj hk,ou hk,aJ,aU,aI,NW,NT,jH]
   change (∃ r,k_ r=true∧aV r=_∧dL.t k _=some (r,(true,())))∨dL.t k _=some (ur,(false,()));rw [← fin];by_cases c:t4=⟨#[]⟩
   · subst c;simp only [cZ,eQ,aI];cases hr:k_ ((kd:Int),((b:Int),(key,(val,(0,(0,())))))) with
     | true=>exact .inl ⟨_,hr,KG hb c1 hr,rfl⟩
     | false=>exact .inr rfl
   · rw [n8 c];exact .inr rfl
 have d1:kd≠1:=fun q=>c1 (.inl q)
 have d4:kd≠4:=fun q=>c1 (.inr q)
 rcases lI t2 with ⟨c,t3,hc,rfl⟩ | h2
 case inr =>right;simp (disch:=first | omega | (simp only [aP,e0];omega)) only [fj hk,nD hk h2,tp k,rf0,aJ,aU,aI,MU d1,MR c2,MN d4]
 have v3:=ap c;rw [aP] at hs;rcases zh t3 with ⟨x,t4,hx,rfl⟩ | h3
 case inr =>right;have e:=tX k (s:=t3) (n:=4) (by omega);simp (disch:=first | omega | (simp only [aP,e0];omega)) only [fj hk,e,rf0,aJ,aU,aI,MU d1,MR c2,MN d4]
 rw [oR] at hs;have hby:=sP k (fb x) t4;rw [nw,show (((4:Nat)):Int)=4 from rfl] at hby;have hrf:=qg hk hx ⟨#[]⟩;rw [hO] at hrf;simp (disch:=first | omega | (simp only [aP,e0,nw];omega)) only [fj hk,hby,hrf,aJ,aI,MU d1,MR c2,MN d4,jH];by_cases cc:t4=⟨#[]⟩
 · subst cc;simp only [cZ,eQ,aI];cases hr:k_ ((kd:Int),((b:Int),(ByteArray.empty,(ByteArray.empty,((c:Int),((x:Int),())))))) with
   | true=>exact .inl ⟨_,hr,Jj hb hc ⟨d1,c2,d4⟩ hr,rfl⟩
   | false=>exact .inr rfl
 · rw [n8 cc];exact .inr rfl
theorem lN (a b:Nat):Int.toNat ((a:Int)+(b:Int))=a+b:=by omega
theorem vz (a:Nat):(((bJ a).size:Int)==0)=false:=n_ (by have:=ap a;omega)
theorem qQ (a:Nat) (t:ByteArray):bJ a++t≠⟨#[]⟩:=fun h=>by have:=congrArg ByteArray.size h;rw [aP,e0] at this;have:=ap a;omega
theorem qi {r:Ty.d bR} {s:ByteArray} (hs:s≠⟨#[]⟩) :
 (∃ r',k_ r'=true∧aV r'=s∧(bif !seq (aV r) s then some (ur,(false,())) else bif seq s ⟨#[]⟩ then some (ur,(false,())) else some (r,(true,())))=some (r',(true,()))) ∨
 (bif !seq (aV r) s then some (ur,(false,())) else bif seq s ⟨#[]⟩ then some (ur,(false,())) else some (r,(true,())))=some (ur,(false,())):=by
 by_cases c:aV r=s
 · exact .inl ⟨r,GD c hs,c,by rw [Fz c,n8 hs];rfl⟩
 · rw [n8 c];exact .inr rfl
theorem BJ {k:Nat} (hk:2 ^ 50≤k) {a:Ty.d bR} (h:k_ a=true):fE.f k (aV a)=some (a,(true,())):=by
 unfold fE.f fE.t;rcases Bh h with ⟨b,kd,hc,hb,ha,z1,z2,e⟩ | ⟨b,hb,ha,z1,e⟩ | ⟨b,kd,c,x,hc,hb,z1,z2,ha,e⟩
 · have hs:aV ((kd:Int),((b:Int),(a.2.2.1,(a.2.2.2.1,(0,(0,()))))))=bJ kd++(bJ b++(bJ a.2.2.1.size++(a.2.2.1++(bJ a.2.2.2.1.size++(a.2.2.2.1++⟨#[]⟩))))):=by rw [← ha];exact e
   rw [e]
   conv=>rhs;rw [ha]
   have v1:=ap kd;have v2:=ap b;have v3:=ap a.2.2.1.size;have v4:=ap a.2.2.2.1.size;rcases hc with rfl | rfl
   · simp (disch:=first | omega | (simp only [aP,e0];omega)) only [dJ hk,xO hk,aJ,p5,gO,vz,aU,aI,aC,bv,lN,tN,Mr,dx hk,hs,cZ,eQ,n8 (qQ _ _)]
   · simp (disch:=first | omega | (simp only [aP,e0];omega)) only [dJ hk,xO hk,aJ,p5,gO,vz,aU,aI,aC,bv,lN,tN,NW,NT,dx hk,hs,cZ,eQ,n8 (qQ _ _)]
 · have hs:aV (((2:Nat):Int),((b:Int),(a.2.2.1,(ByteArray.empty,(0,(0,()))))))=bJ 2++(bJ b++(bJ a.2.2.1.size++(a.2.2.1++⟨#[]⟩))):=by rw [show ((2:Nat):Int)=2 from rfl,← ha];exact e
   rw [e]
   conv=>rhs;rw [ha]
   have v1:=ap 2;have v2:=ap b;have v3:=ap a.2.2.1.size;simp (disch:=first | omega | (simp only [aP,e0];omega)) only [dJ hk,xO hk,aJ,p5,gO,vz,aU,aI,aC,bv,lN,tN,NB,Ms,Md,dx hk,hs,cZ,eQ,n8 (qQ _ _)];rfl
 · have hs:aV ((kd:Int),((b:Int),(ByteArray.empty,(ByteArray.empty,((c:Int),((x:Int),()))))))=bJ kd++(bJ b++(bJ c++(fb x++⟨#[]⟩))):=by rw [← ha];exact e
   rw [e,ha];have v1:=ap kd;have v2:=ap b;have v3:=ap c;have v4:=nw x;simp (disch:=first | omega | (simp only [aP,e0];omega)) only [dJ hk,r_ hk z2,aJ,p5,gO,vz,aU,aI,aC,bv,lN,tN,MU,MR,MN,dx hk,hs,cZ,eQ,n8 (qQ _ _)]
theorem xy {k:Nat} (hk:2 ^ 50≤k) {s:ByteArray} (hs:s.size≤1099511627776) :
 (∃ r,k_ r=true∧aV r=s∧fE.f k s=some (r,(true,())))∨fE.f k s=some (ur,(false,())):=by
 unfold fE.f fE.t;rcases lI s with ⟨kd,t,hkd,rfl⟩ | h0
 case inr =>right;rw [lD hk h0,aJ];simp only [];rw [bv (by omega) (by omega),gZ hk,aJ];rfl
 have v1:=ap kd;rw [aP] at hs;rcases lI t with ⟨b,t2,hb,rfl⟩ | h1
 case inr =>right;simp (disch:=first | omega | (simp only [aP,e0];omega)) only [dJ hk,lD hk h1,aJ,p5,gO,vz,aU,aI,aC,bv,show (((0:Int)==0))=true from rfl]
 have v2:=ap b;rw [aP] at hs;by_cases c2:kd=2
 · subst c2;rcases pQ t2 with ⟨key,t3,hu,rfl⟩ | bad
   · simp only [aP] at hs;simp (disch:=first | omega | (simp only [aP,e0];omega)) only [dJ hk,xO hk,aJ,p5,gO,vz,aU,aI,aC,bv,lN,tN,NB,Ms,Md,dx hk];exact qi (qQ _ _)
   · have hb5:=zD hk (by omega) bad;simp (disch:=first | omega | (simp only [aP,e0];omega)) only [dJ hk,hb5,aJ,p5,gO,vz,aU,aI,aC,bv,lN,tN,NB,Ms,Md,dx hk];exact qi (qQ _ _)
 by_cases c1:kd=1∨kd=4
 · have em:dE.f k ⟨#[]⟩=some (⟨#[]⟩,(⟨#[]⟩,(false,()))):=zD hk (by decide) (.inl rfl);obtain ⟨u,l,bb,hl,e⟩:∃ u l bb,l.size≤1099511627776∧dE.f k t2=some (u,(l,(bb,()))):=by
    rcases pQ t2 with ⟨key,t3,hu,rfl⟩ | bad
    · simp only [aP] at hs;exact ⟨_,_,_,by omega,xO hk hu (by simp only [aP];omega)⟩
    · exact ⟨_,_,_,by decide,zD hk (by omega) bad⟩
   obtain ⟨u2,l2,bb2,e2⟩:∃ u l' bb,dE.f k l=some (u,(l',(bb,()))):=by
    rcases pQ l with ⟨key,t3,hu,rfl⟩ | bad
    · exact ⟨_,_,_,xO hk hu (by simp only [aP] at hl ⊢;omega)⟩
    · exact ⟨_,_,_,zD hk hl bad⟩
   rcases c1 with rfl | rfl
   · simp (disch:=first | omega | (simp only [aP,e0];omega)) only [dJ hk,e,e2,aJ,p5,gO,vz,aU,aI,aC,bv,lN,tN,Mr,dx hk];exact qi (qQ _ _)
   · simp (disch:=first | omega | (simp only [aP,e0];omega)) only [dJ hk,e,e2,aJ,p5,gO,vz,aU,aI,aC,bv,lN,tN,NW,NT,dx hk];exact qi (qQ _ _)
 have d1:kd≠1:=fun q=>c1 (.inl q)
 have d4:kd≠4:=fun q=>c1 (.inr q)
 have rf:∀ u:ByteArray,∃ z zb,br.f k u 4=some (z,(zb,())):=fun u=>by
  rcases zh u with ⟨x,t,hx,rfl⟩ | q
  · exact ⟨_,_,r_ hk hx t⟩
  · exact ⟨_,_,wI k q⟩
 rcases lI t2 with ⟨c,t3,hc,rfl⟩ | h2
 · have v3:=ap c;rw [aP] at hs;obtain ⟨z,zb,e⟩:=rf t3;simp (disch:=first | omega | (simp only [aP,e0];omega)) only [dJ hk,e,aJ,p5,gO,vz,aU,aI,aC,bv,lN,tN,MU d1,MR c2,MN d4,dx hk];exact qi (qQ _ _)
 · obtain ⟨z,zb,e⟩:=rf (ByteArray.extract t2 (Int.toNat 0) t2.size);simp (disch:=first | omega | (simp only [aP,e0];omega)) only [dJ hk,lD hk h2,e,aJ,p5,gO,vz,aU,aI,aC,bv,lN,tN,MU d1,MR c2,MN d4,dx hk];exact qi (qQ _ _)
noncomputable def kV (s:ByteArray):Ty.d bR × Bool:=qN (fun r=>k_ r=true) aV ur s
theorem sx {k:Nat} (hk:2 ^ 50≤k) {s:ByteArray} (hs:s.size≤1099511627776):dL.f k s=some ((kV s).1,((kV s).2,())) :=
 oA (fun r h1 h2=>by rw [← h2];exact B5 hk h1) (xz hk hs)
theorem tL {k:Nat} (hk:2 ^ 50≤k) {s:ByteArray} (hs:s.size≤1099511627776):fE.f k s=some ((kV s).1,((kV s).2,())) :=
 oA (fun r h1 h2=>by rw [← h2];exact BJ hk h1) (xy hk hs)
theorem ra {t:ByteArray} (h:t.size≤200):∃ x,x<4294967296∧am t=fb x++(bJ t.size++t):=by have:=vQ (kT t);refine ⟨(qc (kT t)).toNat,by omega,?_⟩;unfold am sL;rw [if_neg (by omega)];unfold kT;rw [du (by omega)]
theorem J3 {t u s r:ByteArray} (ht:t.size≤200) (hu:u.size≤200) (h:am t++s=am u++r):t=u∧s=r:=by obtain ⟨x,hx,e⟩:=ra ht;obtain ⟨y,hy,f⟩:=ra hu;rw [e,f,az,az,az,az] at h;have h2:=(tq h rfl).2;obtain ⟨h3,h4⟩:=zl (by omega) (by omega) h2;exact tq h4 h3
theorem Bl (x:Nat) (u:ByteArray):ByteArray.extract (fb x++u) 4 (fb x++u).size=u:=gO (fb x) u
theorem Nm (x:Nat) (v t r:ByteArray):ByteArray.extract (fb x++(v++(t++r))) (4+v.size) (4+v.size+t.size)=t:=by have:=OM (fb x++v) t r;rw [aP,nw,az] at this;exact this
theorem MH (x:Nat) (v t r:ByteArray):ByteArray.extract (fb x++(v++(t++r))) 0 (4+v.size+t.size)=fb x++(v++t):=by have:=A7 (fb x++(v++t)) r;rw [aP,aP,nw,az,az,← Nat.add_assoc] at this;exact this
theorem c4 (a:Nat):(4:Int)+(a:Int)=((4+a:Nat):Int):=rfl
theorem ye {k:Nat} (hk:2 ^ 50≤k) {x:Nat} {t r:ByteArray} (ht:t.size≤200) (hr:t.size+r.size≤1099511627776) :
 eS.f k (fb x++(bJ t.size++(t++r)))=bif !seq (am t) (fb x++(bJ t.size++t)) then some (⟨#[]⟩,(0,())) else some (t,(((4+(bJ t.size).size+t.size:Nat):Int),())):=by
 have v1:=ap t.size;have z1:(fb x++(bJ t.size++(t++r))).size=4+((bJ t.size).size+(t.size+r.size)):=by rw [oR,aP,aP]
 unfold eS.f eS.t;rw [aN (by omega),aI,bv (by omega) (by omega),Bl,pL hk (by omega) (by rw [aP];omega),aJ];simp only [vz,aI];rw [aN (by omega),aI,aC (n:=((fb x++(bJ t.size++(t++r))).size:Int)-4) (by omega) (by omega),aC (n:=((fb x++(bJ t.size++(t++r))).size:Int)-4-_) (by omega) (by omega),aN (by omega),aI,
  c4,aC (by omega) (by omega),vq,aC (by omega) (by omega),va (by omega) (by omega) (by omega),p5,p5,Nm,oq hk,aJ,bv (by omega) (by omega),MH]
theorem yj {k:Nat} (hk:2 ^ 50≤k) {x:Nat} {t r:ByteArray} (ht:t.size≤200) (hr:t.size+r.size≤1099511627776) :
 eP.f k (fb x++(bJ t.size++(t++r)))=bif !seq (am t) (fb x++(bJ t.size++t)) then some (⟨#[]⟩,(0,())) else some (t,(((4+(bJ t.size).size+t.size:Nat):Int),())):=by
 have v1:=ap t.size;have z1:(fb x++(bJ t.size++(t++r))).size=4+((bJ t.size).size+(t.size+r.size)):=by rw [oR,aP,aP]
 unfold eP.f eP.t;rw [aN (by omega),aI,bv (by omega) (by omega),Bl,dJ hk (by omega),aJ];simp only [vz,aI];rw [aN (by omega),aI,aC (n:=((fb x++(bJ t.size++(t++r))).size:Int)-4) (by omega) (by omega),aC (n:=((fb x++(bJ t.size++(t++r))).size:Int)-4-_) (by omega) (by omega),aN (by omega),aI,
  c4,aC (by omega) (by omega),vq,aC (by omega) (by omega),va (by omega) (by omega) (by omega),p5,p5,Nm,nJ hk,bv (by omega) (by omega),aJ,MH,
  show seq (fb x++(bJ t.size++t)) (am t)=seq (am t) (fb x++(bJ t.size++t)) by rw [Hq,Hq];exact decide_eq_decide.2 ⟨Eq.symm,Eq.symm⟩]
theorem LI (s:ByteArray) (hs:s.size≤1099511627776):(∃ x t r,x<4294967296∧t.size≤200∧t.size+r.size≤1099511627776∧s=fb x++(bJ t.size++(t++r)))∨s.size<5∨(∃ x u,x<4294967296∧s=fb x++u∧1≤u.size∧rv 7 (nb u)=none) ∨
 (∃ x a u,x<4294967296∧a<562949953421312∧s=fb x++(bJ a++u)∧(200<a∨u.size<a)):=by
 rcases zh s with ⟨x,u,hx,rfl⟩ | h
 · rw [oR] at hs;rcases lI u with ⟨a,v,ha,rfl⟩ | h
   · rw [aP] at hs;by_cases c:200<a∨v.size<a
     · exact .inr (.inr (.inr ⟨x,a,v,hx,ha,rfl,c⟩))
     · left;have e:=vm v (n:=a) (by omega);have hz:(ByteArray.extract v 0 a).size=a:=by rw [← dD,lZ,List.length_take,dD];omega
       refine ⟨x,ByteArray.extract v 0 a,ByteArray.extract v a v.size,hx,by omega,?_,by rw [hz,← e]⟩;have:=congrArg ByteArray.size e;rw [aP] at this;omega
   · by_cases c:1≤u.size
     · exact .inr (.inr (.inl ⟨x,u,hx,rfl,c,h⟩))
     · exact .inr (.inl (by rw [oR];omega))
 · exact .inr (.inl (by omega))
theorem y6 {k:Nat} (hk:2 ^ 50≤k) {s:ByteArray} (hs:s.size≤1099511627776) (h:s.size<5∨(∃ x u,x<4294967296∧s=fb x++u∧1≤u.size∧rv 7 (nb u)=none) ∨
 (∃ x a u,x<4294967296∧a<562949953421312∧s=fb x++(bJ a++u)∧(200<a∨u.size<a))):eS.f k s=some (⟨#[]⟩,(0,())):=by
 unfold eS.f eS.t;rcases h with h | ⟨x,u,hx,rfl,hu,h⟩ | ⟨x,a,u,hx,ha,rfl,h⟩
 · by_cases c:s.size<4
   · rw [aK (by omega),aU]
   · have e:ByteArray.extract s 4 s.size=⟨#[]⟩:=mI (by rw [k8,List.drop_eq_nil_of_le (by rw [dD];omega)];rfl);rw [aN (by omega),aI,bv (by omega) (by omega),e,ob hk rfl (by decide),aJ];rfl
 · rw [oR] at hs;rw [aN (by rw [oR];omega),aI,bv (by omega) (by rw [oR];omega),Bl,ob hk h (by omega),aJ];rfl
 · have v1:=ap a;have z1:(fb x++(bJ a++u)).size=4+((bJ a).size+u.size):=by rw [oR,aP]
   rw [aN (by omega),aI,bv (by omega) (by omega),Bl,pL hk ha (by omega),aJ];simp only [vz,aI];by_cases c:200<a
   · rw [aK (by omega),aU]
   · rw [aN (by omega),aI,aC (n:=((fb x++(bJ a++u)).size:Int)-4) (by omega) (by omega),aC (n:=((fb x++(bJ a++u)).size:Int)-4-_) (by omega) (by omega),aK (by omega),aU]
theorem xw {k:Nat} (hk:2 ^ 50≤k) {s:ByteArray} (hs:s.size≤1099511627776) (h:s.size<5∨(∃ x u,x<4294967296∧s=fb x++u∧1≤u.size∧rv 7 (nb u)=none) ∨
 (∃ x a u,x<4294967296∧a<562949953421312∧s=fb x++(bJ a++u)∧(200<a∨u.size<a))):eP.f k s=some (⟨#[]⟩,(0,())):=by
 unfold eP.f eP.t;rcases h with h | ⟨x,u,hx,rfl,hu,h⟩ | ⟨x,a,u,hx,ha,rfl,h⟩
 · rw [aK (by omega),aU]
 · rw [oR] at hs;rw [aN (by rw [oR];omega),aI,bv (by omega) (by rw [oR];omega),Bl,lD hk h,aJ];rfl
 · have v1:=ap a;have z1:(fb x++(bJ a++u)).size=4+((bJ a).size+u.size):=by rw [oR,aP]
   rw [aN (by omega),aI,bv (by omega) (by omega),Bl,dJ hk ha,aJ];simp only [vz,aI];by_cases c:200<a
   · rw [aK (by omega),aU]
   · rw [aN (by omega),aI,aC (n:=((fb x++(bJ a++u)).size:Int)-4) (by omega) (by omega),aC (n:=((fb x++(bJ a++u)).size:Int)-4-_) (by omega) (by omega),aK (by omega),aU]
section
open Classical
noncomputable def iU (s:ByteArray):ByteArray × Int:=if h:∃ t r,t.size≤200∧s=am t++r then (h.choose,((am h.choose).size:Int)) else (⟨#[]⟩,0)
theorem qn {t:ByteArray} (r:ByteArray) (h:t.size≤200):iU (am t++r)=(t,((am t).size:Int)):=by have q:∃ u v,u.size≤200∧am t++r=am u++v:=⟨t,r,h,rfl⟩;unfold iU;rw [dif_pos q];obtain ⟨v,h1,h2⟩:=q.choose_spec;have:=(J3 h h1 h2).1;rw [← this]
theorem p_ (s:ByteArray):(∃ t r,t.size≤200∧s=am t++r∧iU s=(t,((am t).size:Int)))∨(iU s=(⟨#[]⟩,0)∧∀ t r,t.size≤200→s≠am t++r):=by
 by_cases q:∃ t r,t.size≤200∧s=am t++r
 · obtain ⟨t,r,h,rfl⟩:=q;exact .inl ⟨t,r,h,rfl,qn r h⟩
 · right;refine ⟨?_,fun t r h e=>q ⟨t,r,h,e⟩⟩;unfold iU;rw [dif_neg q]
end
theorem MQ {k:Nat} {f:ByteArray→Option (ByteArray × Int × Unit)} (h1:∀ x t r,x<4294967296→t.size≤200→t.size+r.size≤1099511627776→f (fb x++(bJ t.size++(t++r)))=bif !seq (am t) (fb x++(bJ t.size++t)) then some (⟨#[]⟩,(0,())) else some (t,(((4+(bJ t.size).size+t.size:Nat):Int),())))
 (h2:∀ s,s.size≤1099511627776→(s.size<5∨(∃ x u,x<4294967296∧s=fb x++u∧1≤u.size∧rv 7 (nb u)=none)∨(∃ x a u,x<4294967296∧a<562949953421312∧s=fb x++(bJ a++u)∧(200<a∨u.size<a)))→f s=some (⟨#[]⟩,(0,())))
 {s:ByteArray} (hs:s.size≤1099511627776):f s=some ((iU s).1,((iU s).2,())):=by
 rcases LI s hs with ⟨x,t,r,hx,ht,hr,rfl⟩ | h
 · rw [h1 x t r hx ht hr];by_cases c:am t=fb x++(bJ t.size++t)
   · have e:fb x++(bJ t.size++(t++r))=am t++r:=by rw [c,az,az]
     rw [Fz c,e,qn r ht,c,oR,aP,Nat.add_assoc];rfl
   · rw [n8 c];rcases p_ (fb x++(bJ t.size++(t++r))) with ⟨t',r',ht',e,_⟩ | ⟨e,_⟩
     · exfalso;obtain ⟨y,hy,f'⟩:=ra ht';rw [f',az,az] at e;have h3:=tq e rfl;obtain ⟨h4,h5⟩:=zl (by omega) (by omega) h3.2;have h6:=tq h5 h4;apply c;rw [h6.1,f',h3.1]
     · rw [e];rfl
 · rw [h2 s hs h];rcases p_ s with ⟨t',r',ht',e,_⟩ | ⟨e,_⟩
   · exfalso;obtain ⟨y,hy,f'⟩:=ra ht';have hp:=pS ht';rw [f',az,az] at e;rcases h with h | ⟨x,u,hx,e2,hu,h⟩ | ⟨x,a,u,hx,ha,e2,h⟩
     · rw [e,oR,aP] at h;have:=ap t'.size;omega
     · rw [e2] at e;rw [(tq e rfl).2,sN (by omega)] at h;cases h
     · rw [e2] at e;obtain ⟨h4,h5⟩:=zl ha (by omega) (tq e rfl).2;rw [h5,h4,aP] at h;omega
   · rw [e]
theorem nN {k:Nat} (hk:2 ^ 50≤k) {s:ByteArray} (hs:s.size≤1099511627776):eS.f k s=some ((iU s).1,((iU s).2,())) :=
 MQ (k:=k) (fun x t r _ ht hr=>ye hk ht hr) (fun s hs h=>y6 hk hs h) hs
theorem nB {k:Nat} (hk:2 ^ 50≤k) {s:ByteArray} (hs:s.size≤1099511627776):eP.f k s=some ((iU s).1,((iU s).2,())) :=
 MQ (k:=k) (fun x t r _ ht hr=>yj hk ht hr) (fun s hs h=>xw hk hs h) hs
theorem nv (s:ByteArray):(iU s).1.size≤200∧((iU s).2=0∨5≤(iU s).2)∧(iU s).2≤s.size∧(iU s).2≤211:=by
 rcases p_ s with ⟨t,r,h,rfl,e⟩ | ⟨e,_⟩
 · rw [e,aP];have:=pS h;have:=ln t;refine ⟨h,?_,?_,?_⟩ <;> simp only [] <;> omega
 · rw [e];refine ⟨by simp only [e0];omega,.inl rfl,by simp only [];omega,by simp only [];omega⟩
theorem HX:iU ⟨#[]⟩=(⟨#[]⟩,0):=by
 rcases p_ ⟨#[]⟩ with ⟨t,r,h,e,_⟩ | ⟨e,_⟩
 · have:=congrArg ByteArray.size e;rw [aP,e0] at this;have:=pS h;omega
 · exact e
noncomputable def jg (s:ByteArray):Nat→Int→List (Ty.d bU) × Int
 | 0,at_=>([],at_)
 | d+1,at_ =>
  if (iU (ByteArray.extract s at_.toNat s.size)).2=0 then ([],at_)
  else if (kV (iU (ByteArray.extract s at_.toNat s.size)).1).2=false then ([],at_)
  else (((at_,((iU (ByteArray.extract s at_.toNat s.size)).2,((kV (iU (ByteArray.extract s at_.toNat s.size)).1).1,()))):Ty.d bU)::(jg s d (at_+(iU (ByteArray.extract s at_.toNat s.size)).2)).1,
   (jg s d (at_+(iU (ByteArray.extract s at_.toNat s.size)).2)).2)
noncomputable def cL (s:ByteArray):List (Ty.d bU) × Int:=jg s (s.size+1) 0
theorem rE (s:ByteArray) (n:Nat):(ByteArray.extract s n s.size).size=s.size-n:=by rw [← dD,k8,List.length_drop,dD]
theorem MM {k:Nat} (hk:2 ^ 50≤k) {s:ByteArray} (hs:s.size≤1099511627776):∀ (d n:Nat) (i:Int) (out:List (Ty.d bU)),0≤i→i≤s.size→(s.size:Int)-i<d→d≤n→(out.length:Int)≤i →
 dP.l0 k n s i out=some (out++(jg s d i).1,((jg s d i).2,()))∧bp.l0 k n s i out=some (out++(jg s d i).1,((jg s d i).2,())):=by
 intro d
 induction d with
 | zero=>intro n i out h0 h1 h2;omega
 | succ d ih =>
  intro n i out h0 h1 h2 h3 h4;obtain ⟨n,rfl⟩:∃ q,n=q+1:=⟨n-1,by omega⟩;have hz:=rE s i.toNat;have hu:=nv (ByteArray.extract s i.toNat s.size);have e1:=nN hk (s:=ByteArray.extract s i.toNat s.size) (by omega);have e2:=nB hk (s:=ByteArray.extract s i.toNat s.size) (by omega);have hnil:i=s.size→(iU (ByteArray.extract s i.toNat s.size)).2=0:=fun q=>by have:ByteArray.extract s i.toNat s.size=⟨#[]⟩:=mI (by rw [k8,List.drop_eq_nil_of_le (by rw [dD];omega)];rfl);rw [this,HX]
  simp only [jg];generalize iU (ByteArray.extract s i.toNat s.size)=u at *;have e3:=sx hk (s:=u.1) (by omega);have e4:=tL hk (s:=u.1) (by omega);generalize kV u.1=r at *;by_cases c:u.2=0
  · rw [if_pos c];have cb:(u.2==0)=true:=by rw [c];rfl
    simp only [List.append_nil];constructor
    · simp (disch:=omega) only [dP.l0,dP.b0,bv,e1,e3,aJ,cb,aU]
    · by_cases q:i<s.size
      · simp (disch:=omega) only [bp.l0,bp.b0,aK,bv,e2,e4,aJ,cb,aU]
      · simp (disch:=omega) only [bp.l0,bp.b0,aN,aI]
  · rw [if_neg c];have cb:(u.2==0)=false:=n_ c;have hlt:i<s.size:=by
     rcases Int.lt_or_eq_of_le h1 with q | q
     · exact q
     · exact absurd (hnil q) c
    cases hr:r.2 with
    | false =>
     simp only [if_true,List.append_nil];constructor
     · simp (disch:=omega) only [dP.l0,dP.b0,bv,e1,e3,aJ,cb,aU,aI,hr,rB]
     · simp (disch:=omega) only [bp.l0,bp.b0,aK,bv,e2,e4,aJ,cb,aU,aI,hr,rB]
    | true =>
     rw [if_neg (by decide)];have hlen:out.length+1≤1099511627777:=by omega
     have ih:=ih n (i+u.2) (out++[(i,(u.2,(r.1,())))]) (by omega) (by omega) (by omega) (by omega) (by rw [sF];show ((out.length+1:Nat):Int)≤_;omega);simp only [py,List.cons_append,List.nil_append] at ih;constructor
     · simp (disch:=first | omega | decide) only [dP.l0,dP.b0,bv,e1,e3,aJ,cb,aU,aI,hr,eQ,b7,aC];exact ih.1
     · simp (disch:=first | omega | decide) only [bp.l0,bp.b0,aK,bv,e2,e4,aJ,cb,aU,aI,hr,eQ,b7,aC];exact ih.2
theorem tE {k:Nat} (hk:2 ^ 50≤k) {s:ByteArray} (hs:s.size≤1099511627775):dP.f k s=some ((cL s).1,((cL s).2,())) :=
 (MM hk (by omega) (s.size+1) k 0 [] (by omega) (by omega) (by omega) (by omega) (by simp)).1
theorem oP {k:Nat} (hk:2 ^ 50≤k) {s:ByteArray} (hs:s.size≤1099511627775):bp.f k s=some ((cL s).1,((cL s).2,())) :=
 (MM hk (by omega) (s.size+1) k 0 [] (by omega) (by omega) (by omega) (by omega) (by simp)).2
theorem xB (s:ByteArray):∀ (d:Nat) (i:Int),0≤i→i≤s.size→((jg s d i).1.length:Int)≤s.size-i∧i≤(jg s d i).2∧(jg s d i).2≤s.size
 | 0,i,h0,h1=>by simp only [jg,List.length_nil];omega
 | d+1,i,h0,h1=>by
  have hu:=nv (ByteArray.extract s i.toNat s.size);have hz:=rE s i.toNat;rw [jg];split
  · simp only [List.length_nil];omega
  · split
    · simp only [List.length_nil];omega
    · rename_i c1 c2;have ih:=xB s d (i+(iU (ByteArray.extract s i.toNat s.size)).2) (by omega) (by omega);simp only [lq];omega
theorem kS (s:ByteArray):(cL s).1.length≤s.size∧0≤(cL s).2∧(cL s).2≤s.size:=by have:=xB s (s.size+1) 0 (by omega) (by omega);unfold cL;omega
theorem Ls (d:Nat) {a:Nat} (h:a<128):(vl d a).length=1:=by
 cases d with
 | zero=>rfl
 | succ d=>unfold vl;rw [if_neg (by omega)];rfl
theorem M8 {a:Nat} (h:a<2097152):(vl 6 a).length≤3:=by
 unfold vl;split
 · rw [lq];unfold vl;split
   · rw [lq,Ls 4 (by omega)];omega
   · simp
 · simp
theorem vB {a:Int} (h0:0≤a) (h1:a≤100000):(ix a).size≤3:=by obtain ⟨n,rfl⟩:=Int.eq_ofNat_of_zero_le h0;rw [du (by omega),← si (by omega)];exact M8 (by omega)
def dq:List Int→ByteArray
 | []=>⟨#[]⟩
 | x::l=>ix x++dq l
theorem xR:∀ (l:List Int),(∀ x ∈ l,0≤x∧x≤100000)→(dq l).size≤3*l.length
 | [],_=>Nat.le_refl _
 | x::l,h=>by
  have h1:=vB (h x (sM ..)).1 (h x (sM ..)).2;have h2:=xR l fun y hy=>h y (wW _ hy)
  rw [dq,aP,lq];omega
theorem pb:∀ (l:List Int),(dq l).size≤7*l.length
 | []=>Nat.le_refl _
 | x::l=>by have h1:=bB x;have h2:=pb l;rw [dq,aP,lq];omega
def mq (v:Ty.d bL):ByteArray:=ix v.1++(ix (v.2.1.length:Int)++dq v.2.1)
def bF (v:Ty.d bL):ByteArray:=if dp v=true then am (mq v) else ⟨#[]⟩
theorem eD {nx:Int} {ids:List Int} (h:dp (nx,(ids,()))=true):1≤nx∧nx≤100000∧1≤ids.length∧ids.length≤60∧∀ x ∈ ids,0≤x∧x≤100000:=by unfold dp at h;simp only [lP,decide_eq_true_eq] at h;obtain ⟨h1,h2,h3⟩:=h;have h1a:1≤nx:=h1.1;have h1b:nx≤100000:=h1.2;refine ⟨h1a,h1b,by omega,by omega,fun x hx=>?_⟩;obtain ⟨p,hp⟩:=DC h3 hx;unfold pF at hp;rw [lP,decide_eq_true_eq] at hp;have hw:aH (nx-1)=nx-1:=aC (by omega) (by omega);have h4:x≤aH (nx-1):=hp.1.2;have h5:1≤x:=hp.1.1;omega
theorem zi {nx:Int} {ids:List Int} (h:dp (nx,(ids,()))=true):(mq (nx,(ids,()))).size≤200:=by obtain ⟨h1,h2,h3,h4,h5⟩:=eD h;have a:=vB (a:=nx) (by omega) h2;have b:=vB (a:=(ids.length:Int)) (by omega) (by omega);have c:=xR ids h5;unfold mq;rw [aP,aP];simp only [];omega
theorem mZ {k:Nat} (hk:2 ^ 50≤k) (v:Ty.d bL):dk.f k v=some (bF v,()):=by
 unfold dk.f dk.t bF;rw [su hk,aJ];cases c:dp v with
 | false=>rfl
 | true =>
  obtain ⟨h1,h2,h3,h4,h5⟩:=eD (nx:=v.1) (ids:=v.2.1) c;have a:=bB v.1;have b:=bB (v.2.1.length:Int);rw [eQ,aI,iV hk,aJ,iV hk,aJ,if_pos rfl];simp only [];rw [eL (by omega)];refine (dG (L:=fun n i s=>dk.l0 k n s i v.1 v.2.1) (R:=fun r s=>some (am (s++dq r),())) (Ty.z (.int .i64)) v.2.1 (fun i s=>(s.size:Int)≤14+7*i) (fun n s hs=>?_) (fun n i s x rest g0 g1 hx hr hs ih=>?_) (n:=k) (by omega) (by rw [aP];omega)).trans (by rw [az];rfl)
  · simp (disch:=omega) only [dk.l0,dk.b0,aN,aI,nJ hk,aJ];rw [show dq []=⟨#[]⟩ from rfl,hO]
  · have hv:=bB x;have ih:=ih (s++ix x) (by rw [aP];omega);simp (disch:=omega) only [dk.l0,dk.b0,aK g1,aU,aF,hx,iV hk,aJ,eL,aC,ih];rw [az];rfl
noncomputable def fQ (s:ByteArray):Ty.d bL × Bool:=qN (fun v=>dp v=true) bF (0,([],())) s
theorem Cc (s:ByteArray):0≤(Gs (rv 7 (nb s))).2.1∧(Gs (rv 7 (nb s))).2.1≤(s.size:Int):=by
 cases h:rv 7 (nb s) with
 | none=>exact ⟨Int.le_refl _,by show (0:Int)≤_;omega⟩
 | some p =>obtain ⟨a,n⟩:=p;obtain ⟨h1,h2,h3,h4,h5,h6⟩:=rq 6 (nb s) a n (uw s) h;rw [dD] at h4;exact ⟨by show (0:Int)≤(n:Int);omega,by show (n:Int)≤_;omega⟩
def LN:Option (Ty.d bL × Bool × Unit):=some ((0,([],())),(false,()))
theorem DW {k:Nat} (hk:2 ^ 50≤k) {s t:ByteArray} (ht:t.size≤200) (c nx:Int):∀ (d n:Nat) (pos j:Int) (out:List Int),60-j=d→d<n→0≤pos→pos≤t.size→0≤j→(out.length:Int)≤j →
 ∃ o,bf.l0 k n s t c pos j [] 0 out nx=bif !seq (bF (nx,(o,()))) s then LN else some ((nx,(o,())),(true,())):=by
 intro d
 induction d with
 | zero =>intro n pos j out hj hn h0 h1 h2 h3;obtain ⟨n,rfl⟩:∃ q,n=q+1:=⟨n-1,by omega⟩;refine ⟨out,?_⟩;simp only [bf.l0,bf.b0];rw [aN (show ¬ j<60 by omega),aI,mZ hk,aJ];cases decide (j<c) <;> cases seq (bF (nx,(out,()))) s <;> rfl
 | succ d ih =>
  intro n pos j out hj hn h0 h1 h2 h3;obtain ⟨n,rfl⟩:∃ q,n=q+1:=⟨n-1,by omega⟩;by_cases c1:j<c
  · have hr:=Cc (ByteArray.extract t pos.toNat t.size);have he:(ByteArray.extract t pos.toNat t.size).size=t.size-pos.toNat:=by rw [← dD,k8,List.length_drop,dD]
    rw [he] at hr;obtain ⟨o,ho⟩:=ih n (pos+(Gs (rv 7 (nb (ByteArray.extract t pos.toNat t.size)))).2.1) (j+1) (out++[(Gs (rv 7 (nb (ByteArray.extract t pos.toNat t.size)))).1]) (by omega) (by omega) (by omega) (by omega) (by omega) (by rw [bK];omega);refine ⟨o,?_⟩;simp only [bf.l0,bf.b0];rw [aK c1,aK (show j<60 by omega),aU,aU,bv h0 h1,gZ hk,aJ,b7 (by omega) (by decide),aC (n:=pos+_) (by omega) (by omega),aC (n:=j+1) (by omega) (by omega)];exact ho
  · refine ⟨out,?_⟩;simp only [bf.l0,bf.b0];rw [aN c1,aI,mZ hk,aJ];cases seq (bF (nx,(out,()))) s <;> rfl
theorem qw {x:Int} (h0:0≤x) (h1:x≤100000):∃ n:Nat,n<562949953421312∧x=(n:Int)∧ix x=bJ n:=by obtain ⟨n,rfl⟩:=Int.eq_ofNat_of_zero_le h0;exact ⟨n,by omega,rfl,du (by omega)⟩
theorem Fw {k:Nat} (hk:2 ^ 50≤k) {s:ByteArray} (nx:Int):∀ (ids:List Int) (pre:ByteArray) (n:Nat) (j c:Int) (out:List Int),(∀ x ∈ ids,0≤x∧x≤100000)→ids.length<n→0≤j→c=j+ids.length→c≤60→pre.size+7*ids.length≤1000→(out.length:Int)≤j →
 bf.l0 k n s (pre++dq ids) c (pre.size:Int) j [] 0 out nx=bif !seq (bF (nx,(out++ids,()))) s then LN else some ((nx,(out++ids,())),(true,())):=by
 intro ids
 induction ids with
 | nil =>intro pre n j c out h hn h0 hc h1 hp ho;obtain ⟨n,rfl⟩:∃ q,n=q+1:=⟨n-1,by omega⟩;rw [List.length_nil] at hc;simp only [bf.l0,bf.b0];rw [aN (show ¬ j<c by omega),aI,mZ hk,aJ,List.append_nil];cases seq (bF (nx,(out,()))) s <;> rfl
 | cons x ids ih =>
  intro pre n j c out h hn h0 hc h1 hp ho;rw [lq] at hn hc;obtain ⟨n,rfl⟩:∃ q,n=q+1:=⟨n-1,by omega⟩;obtain ⟨a,ha,hx,hv⟩:=qw (h x (sM ..)).1 (h x (sM ..)).2;have hvs:=ap a;have hts:=pb (x::ids);rw [lq] at hts;have ih:=ih (pre++bJ a) n (j+1) c (out++[x]) (fun y hy=>h y (wW _ hy)) (by omega) (by omega) (by omega) h1 ?_ (by rw [bK];omega)
  · have he:ByteArray.extract (pre++dq (x::ids)) pre.size (pre++dq (x::ids)).size=bJ a++dq ids:=by rw [gO,dq,hv]
    simp only [bf.l0,bf.b0];rw [aK (show j<c by omega),aK (show j<60 by omega),aU,aU,bv (by omega) (by rw [aP];omega),Int.toNat_natCast,he,gZ hk,aJ,sN ha];simp only [Gs];rw [b7 (by omega) (by decide),aC (by omega) (by omega),aC (by omega) (by omega),← hx,show (pre.size:Int)+((bJ a).size:Int)=((pre++bJ a).size:Int) by rw [aP];omega];rw [show pre++dq (x::ids)=pre++bJ a++dq ids by rw [dq,hv,az],ih,py];rfl
  · rw [aP];rw [lq] at hp;omega
theorem AH {k:Nat} (hk:2 ^ 50≤k) {nx:Int} {ids:List Int} (h:dp (nx,(ids,()))=true):bf.f k (bF (nx,(ids,())))=some ((nx,(ids,())),(true,())):=by
 obtain ⟨g1,g2,g3,g4,g5⟩:=eD h;have hz:=zi h;have hf:=pS hz;have hfs:=ln (mq (nx,(ids,())));have hu:=qn ⟨#[]⟩ hz;rw [hO] at hu;have e:bF (nx,(ids,()))=am (mq (nx,(ids,()))):=if_pos h;obtain ⟨a,ha,hx,hv⟩:=qw (x:=nx) (by omega) g2;obtain ⟨b,hb,hy,hw⟩:=qw (x:=(ids.length:Int)) (by omega) (by omega);have ht:mq (nx,(ids,()))=bJ a++bJ b++dq ids:=by unfold mq;rw [az,← hv,← hw]
 have hva:=ap a;have hvb:=ap b;have hl:=Fw hk (s:=bF (nx,(ids,()))) nx ids (bJ a++bJ b) k 0 (b:Int) [] g5 (by omega) (by omega) (by omega) (by omega) (by rw [aP];omega) (by simp);rw [← ht,List.nil_append,cZ] at hl;unfold bf.f bf.t;rw [nB hk (by rw [e];omega),aJ];have hu1:iU (bF (nx,(ids,())))=(mq (nx,(ids,())),((bF (nx,(ids,()))).size:Int)):=by rw [e];exact hu
 have r1:rv 7 (nb (mq (nx,(ids,()))))=some (a,(bJ a).size):=by rw [ht,az];exact sN ha _
 have r2:rv 7 (nb (ByteArray.extract (mq (nx,(ids,()))) (bJ a).size (mq (nx,(ids,()))).size))=some (b,(bJ b).size):=by rw [ht,az,gO];exact sN hb _
 have hsz:(mq (nx,(ids,()))).size=(bJ a).size+(bJ b).size+(dq ids).size:=by rw [ht,aP,aP]
 rw [hu1];simp only [];rw [gZ hk,aJ,r1];simp only [Gs];rw [show (((bF (nx,(ids,()))).size:Int) != ((bF (nx,(ids,()))).size:Int))=false by simp,aI,
  show (((bF (nx,(ids,()))).size:Int)==0)=false from n_ (by rw [e];omega),aI,show (((bJ a).size:Int)==0)=false from n_ (by omega),aI,
  bv (by omega) (by omega),Int.toNat_natCast,gZ hk,aJ,r2]
 simp only [Gs];rw [aC (by omega) (by omega),show ((bJ a).size:Int)+((bJ b).size:Int)=((bJ a++bJ b).size:Int) by rw [aP];omega,← hx];exact hl
theorem y7 {k:Nat} (hk:2 ^ 50≤k) {s:ByteArray} (hs:s.size≤1099511627776):bf.f k s=some ((fQ s).1,((fQ s).2,())):=by
 refine oA (fun v h1 h2=>?_) ?_
 · subst h2;exact AH hk (nx:=v.1) (ids:=v.2.1) h1
 · unfold bf.f bf.t;rw [nB hk hs,aJ];have hu:=nv s;generalize iU s=u at hu;obtain ⟨t,m⟩:=u;simp only [] at hu ⊢;rw [gZ hk,aJ];have h1:=Cc t;generalize Gs (rv 7 (nb t))=q at h1;obtain ⟨nx,p,_⟩:=q;simp only [] at h1 ⊢;by_cases c1:m=(s.size:Int)
   case neg=>rw [show (m != (s.size:Int))=true from bne_iff_ne.2 c1];exact .inr rfl
   rw [show (m != (s.size:Int))=false by rw [c1];simp,aI];by_cases c2:m=0
   case pos=>rw [show (m==0)=true from beq_iff_eq.2 c2];exact .inr rfl
   rw [show (m==0)=false from n_ c2,aI];by_cases c3:p=0
   case pos=>rw [show (p==0)=true from beq_iff_eq.2 c3];exact .inr rfl
   rw [show (p==0)=false from n_ c3,aI,bv h1.1 h1.2,gZ hk,aJ];have h2:=Cc (ByteArray.extract t p.toNat t.size);have he:(ByteArray.extract t p.toNat t.size).size=t.size-p.toNat:=by rw [← dD,k8,List.length_drop,dD]
   rw [he] at h2;rw [aC (by omega) (by omega)];obtain ⟨o,ho⟩:=DW hk (s:=s) hu.1 (Gs (rv 7 (nb (ByteArray.extract t p.toNat t.size)))).1 nx 60 k (p+(Gs (rv 7 (nb (ByteArray.extract t p.toNat t.size)))).2.1) 0 [] (by omega) (by omega) (by omega) (by omega) (by omega) (by simp);rw [ho];cases c4:seq (bF (nx,(o,()))) s with
   | false=>exact .inr rfl
   | true =>
    refine .inl ⟨(nx,(o,())),?_,dT.1 c4,rfl⟩;cases c5:dp (nx,(o,())) with
    | true=>rfl
    | false =>have:=dT.1 c4;unfold bF at this;rw [c5,if_neg (by decide)] at this;rw [← this] at c1;exact absurd c1 c2
def MP (s:ByteArray) (m a:Int) (out:List Int) (r:ByteArray) (bad:Bool):Option (Ty.d bL × Bool × Unit) :=
 bif m==0 then LN else bif m != (s.size:Int) then LN else bif bad then LN else bif !seq r ⟨#[]⟩ then LN else bif !dp (a,(out,())) then LN else some ((a,(out,())),(true,()))
theorem yY {k:Nat} (hk:2 ^ 50≤k) {s r:ByteArray} {m a:Int} {out:List Int} {bad:Bool} (ho:out.length≤1099511627776) :
 @Eq (Option (Ty.d bL × Bool × Unit)) (bif (m==0) then (some ((0,([],())),(false,()))) else (bif (m != (ByteArray.size s:Int)) then (some ((0,([],())),(false,()))) else (bif bad then (some ((0,([],())),(false,()))) else (bif (!(seq r (⟨#[]⟩:ByteArray))) then (some ((0,([],())),(false,()))) else (Option.bind (dR.f k (a,(out,()))) fun r5=>(bif (!r5.1) then (some ((0,([],())),(false,()))) else (some ((a,(out,())),(true,()))))))))) (MP s m a out r bad):=by
 rw [sy hk (v:=(a,(out,()))) ho];rfl
theorem Ek {k:Nat} (hk:2 ^ 50≤k) {s:ByteArray} (m a:Int):∀ (ids:List Int) (n:Nat) (j c:Int) (out:List Int),(∀ x ∈ ids,0≤x∧x≤100000)→ids.length<n→0≤j→c=j+ids.length→c≤60→(out.length:Int)≤j →
 bA.l0 k n s m c j [] 0 (dq ids) false out a=MP s m a (out++ids) ⟨#[]⟩ false:=by
 intro ids
 induction ids with
 | nil =>intro n j c out h hn h0 hc h1 ho;obtain ⟨n,rfl⟩:∃ q,n=q+1:=⟨n-1,by omega⟩;rw [List.length_nil] at hc;simp only [bA.l0,bA.b0];rw [aN (show ¬ j<c by omega),aI,List.append_nil];exact yY hk (bad:=false) (by omega)
 | cons x ids ih =>intro n j c out h hn h0 hc h1 ho;rw [lq] at hn hc;obtain ⟨n,rfl⟩:∃ q,n=q+1:=⟨n-1,by omega⟩;obtain ⟨b,hb,hx,hv⟩:=qw (h x (sM ..)).1 (h x (sM ..)).2;have hts:=pb ids;have ih:=ih n (j+1) c (out++[x]) (fun y hy=>h y (wW _ hy)) (by omega) (by omega) (by omega) h1 (by rw [bK];omega);simp only [bA.l0,bA.b0];rw [aK (show j<c by omega),aU,rB,aU,show dq (x::ids)=bJ b++dq ids by rw [dq,hv],fj hk hb (by omega),aJ];simp only [];rw [b7 (by omega) (by decide),aC (by omega) (by omega),← hx,ih,py];rfl
theorem yw {k:Nat} (hk:2 ^ 50≤k) {nx:Int} {ids:List Int} (h:dp (nx,(ids,()))=true):bA.f k (bF (nx,(ids,())))=some ((nx,(ids,())),(true,())):=by
 obtain ⟨g1,g2,g3,g4,g5⟩:=eD h;have hz:=zi h;have hf:=pS hz;have hfs:=ln (mq (nx,(ids,())));have hu:=qn ⟨#[]⟩ hz;rw [hO] at hu;have e:bF (nx,(ids,()))=am (mq (nx,(ids,()))):=if_pos h;obtain ⟨a,ha,hx,hv⟩:=qw (x:=nx) (by omega) g2;obtain ⟨b,hb,hy,hw⟩:=qw (x:=(ids.length:Int)) (by omega) (by omega);have ht:mq (nx,(ids,()))=bJ a++(bJ b++dq ids):=by unfold mq;rw [← hv,← hw]
 have hvs:=pb ids;have hvb:=ap b;have hl:=Ek hk (s:=bF (nx,(ids,()))) ((bF (nx,(ids,()))).size:Int) nx ids k 0 (b:Int) [] g5 (by omega) (by omega) (by omega) (by omega) (by simp);have hu1:iU (bF (nx,(ids,())))=(mq (nx,(ids,())),((bF (nx,(ids,()))).size:Int)):=by rw [e];exact hu
 unfold bA.f bA.t;rw [nN hk (by rw [e];omega),aJ,hu1];simp only [];rw [ht,fj hk ha (by rw [aP];omega),aJ];simp only [];rw [fj hk hb (by omega),aJ];simp only [];rw [← hx,hl,List.nil_append];unfold MP;rw [show (((bF (nx,(ids,()))).size:Int)==0)=false from n_ (by rw [e];omega),show (((bF (nx,(ids,()))).size:Int) != ((bF (nx,(ids,()))).size:Int))=false by simp,cZ,h];rfl
theorem Dx {k:Nat} (hk:2 ^ 50≤k) {s:ByteArray} (m a c:Int):∀ (n:Nat) (rest:ByteArray) (j:Int) (out:List Int),rest.size+2≤n→0≤j→j≤c→c<562949953421312→out.length+rest.size≤1000000 →
 (∃ xs r,rest=dq xs++r∧(xs.length:Int)=c-j∧bA.l0 k n s m c j [] 0 rest false out a=MP s m a (out++xs) r false)∨(∃ o r,bA.l0 k n s m c j [] 0 rest false out a=MP s m a o r true):=by
 intro n
 induction n with
 | zero=>intro rest j out h1;omega
 | succ n ih =>
  intro rest j out h1 h2 h3 h4 h5;by_cases c1:j<c
  · rcases lI rest with ⟨b,t,hb,rfl⟩ | hbad
    · have hvb:=ap b;rw [aP] at h1 h5;have e:bA.l0 k (n+1) s m c j [] 0 (bJ b++t) false out a=bA.l0 k n s m c (j+1) [] 0 t false (out++[(b:Int)]) a:=by
       simp only [bA.l0,bA.b0];rw [aK c1,aU,rB,aU,fj hk hb (by omega),aJ];simp only [];rw [b7 (by omega) (by decide),aC (by omega) (by omega)]
      rw [e];rcases ih t (j+1) (out++[(b:Int)]) (by omega) (by omega) (by omega) h4 (by rw [bK];omega) with ⟨xs,r,g1,g2,g3⟩ | g
      · refine .inl ⟨(b:Int)::xs,r,?_,by rw [lq];omega,?_⟩
        · rw [dq,du hb,g1,az]
        · rw [g3,py];rfl
      · exact .inr g
    · refine .inr ?_;obtain ⟨n,rfl⟩:∃ q,n=q+1:=⟨n-1,by omega⟩;refine ⟨out++[0],rest,?_⟩;simp only [bA.l0,bA.b0];rw [aK c1,aU,rB,aU,nD hk hbad (by omega),aJ];simp only [];rw [b7 (by omega) (by decide),aC (by omega) (by omega),eQ,aI];rw [yY hk (bad:=true) (by rw [bK];omega)];cases decide (j+1<c) <;> rfl
  · refine .inl ⟨[],rest,by rw [dq,pz],by rw [List.length_nil];omega,?_⟩;simp only [bA.l0,bA.b0];rw [aN c1,aI,List.append_nil];exact yY hk (bad:=false) (by omega)
theorem Ho (s:ByteArray) (m a:Int) (o:List Int) (r:ByteArray):MP s m a o r true=LN:=by unfold MP;cases m==0 <;> cases m != (s.size:Int) <;> rfl
theorem vc {k:Nat} (hk:2 ^ 50≤k) (s:ByteArray) (m a c:Int) (r:ByteArray):bA.l0 k k s m c 0 [] 0 r true [] a=LN:=by
 obtain ⟨n,hn⟩:∃ q,k=q+1:=⟨k-1,by omega⟩;have e:bA.l0 k (n+1) s m c 0 [] 0 r true [] a=LN:=by simp only [bA.l0,bA.b0];rw [eQ,aI,yY hk (bad:=true) (by simp),Ho];cases decide (0<c) <;> rfl
 rw [← hn] at e;exact e
theorem y4 {k:Nat} (hk:2 ^ 50≤k) {s:ByteArray} (hs:s.size≤1099511627776):bA.f k s=some ((fQ s).1,((fQ s).2,())):=by
 refine oA (fun v h1 h2=>?_) ?_
 · subst h2;exact yw hk (nx:=v.1) (ids:=v.2.1) h1
 · unfold bA.f bA.t;rw [nN hk hs,aJ];have hu:=nv s;have hc:=p_ s;generalize iU s=u at hu hc;obtain ⟨t,m⟩:=u;simp only [] at hu ⊢;rcases lI t with ⟨a,t1,ha,e1⟩ | hb
   case inr =>rw [nD hk hb (by omega),aJ];simp only [];rw [xP hk (by omega),aJ];simp only [];rw [vc hk];exact .inr rfl
   have z1:t.size=(bJ a).size+t1.size:=by rw [e1,aP]
   rw [show aL.f k (t,(false,()))=some ((t1,(false,())),((a:Int),())) by rw [e1];exact fj hk ha (by omega),aJ];simp only [];rcases lI t1 with ⟨c,t2,hcl,e2⟩ | hb
   case inr =>rw [nD hk hb (by omega),aJ];simp only [];rw [vc hk];exact .inr rfl
   have z2:t1.size=(bJ c).size+t2.size:=by rw [e2,aP]
   rw [show aL.f k (t1,(false,()))=some ((t2,(false,())),((c:Int),())) by rw [e2];exact fj hk hcl (by omega),aJ];simp only [];rcases Dx hk (s:=s) m (a:Int) (c:Int) k t2 0 [] (by omega) (by omega) (by omega) (by omega) (by rw [List.length_nil];omega) with ⟨xs,r,g1,g2,g3⟩ | ⟨o,r,g⟩
   case inr=>rw [g,Ho];exact .inr rfl
   rw [g3,List.nil_append];unfold MP;by_cases c2:m=0
   case pos=>rw [show (m==0)=true from beq_iff_eq.2 c2];exact .inr rfl
   rw [show (m==0)=false from n_ c2,aI];by_cases c1:m=(s.size:Int)
   case neg=>rw [show (m != (s.size:Int))=true from bne_iff_ne.2 c1];exact .inr rfl
   rw [show (m != (s.size:Int))=false by rw [c1];simp,aI,aI];cases c3:seq r ⟨#[]⟩ with
   | false=>exact .inr rfl
   | true =>
    rw [eQ,aI];cases c4:dp ((a:Int),(xs,())) with
    | false=>exact .inr rfl
    | true =>
     refine .inl ⟨((a:Int),(xs,())),c4,?_,rfl⟩;have hr:=dT.1 c3;subst hr;rw [hO] at g1;rcases hc with ⟨t',r',h1,h2,h3⟩ | ⟨h1,_⟩
     · obtain ⟨rfl,hm⟩:=Prod.mk.inj h3;have hr':r'=⟨#[]⟩:=by
        have hsz:=congrArg ByteArray.size h2;rw [aP] at hsz;have:r'.size=0:=by omega
        exact mI (by
         have hn:=dD r';rw [this] at hn;rw [List.length_eq_zero_iff.1 hn];rfl)
       rw [h2,hr',hO];show bF ((a:Int),(xs,()))=am t;rw [show bF ((a:Int),(xs,()))=am (mq ((a:Int),(xs,()))) from if_pos c4];congr 1;rw [e1,e2,g1];unfold mq;simp only [];rw [du ha,show (xs.length:Int)=(c:Int) by omega,du hcl]
     · exact absurd (Prod.mk.inj h1).2 c2
end Go.Proofs.YtijlgdoiofdmhaaGreatDoor.G
namespace Go.V
def Nh (n:Int):Prop := -999999999≤n∧n≤999999999
def dg:List Nat→Nat→Nat→Nat × Nat
 | [],a,c=>(a,c)
 | b::l,a,c=>if 48≤b∧b≤57 then dg l (a*10+(b-48)) (c+1) else dg l a c
theorem wu:∀ (l:List Nat) (a c:Nat),(∀ b ∈ l,48≤b∧b≤57)→dg l a c=(qp l a,c+l.length)
 | [],a,c,_=>rfl
 | b::l,a,c,h=>by rw [dg,if_pos (h b (sM ..)),wu l _ _ fun x hx=>h x (wW _ hx),qp,lq];congr 1;omega
theorem yx:∀ (l:List Nat) (a c:Nat),a+1≤10 ^ c→(dg l a c).1+1≤10 ^ (dg l a c).2
 | [],a,c,h=>h
 | b::l,a,c,h=>by
  unfold dg;split
  · rename_i q;exact yx l _ _ (by rw [Nat.pow_succ];omega)
  · exact yx l _ _ h
theorem EK (u:Nat):∀ b ∈ (Lib.decDigits u).map UInt8.toNat,48≤b∧b≤57:=by intro b hb;obtain ⟨x,hx,rfl⟩:=List.mem_map.1 hb;exact lB u x hx
def MO (s:ByteArray) (a:Nat):Int:=bif decide ((s.size:Int) > 0)&&(fG s 0==45) then -(a:Int) else (a:Int)
theorem M_ {s:ByteArray} (h:0<s.size):fG s 0=(((nb s).getD 0 0:Nat):Int):=ym (i:=0) h
theorem LR {n:Int}:MO (hZ n) n.natAbs=n:=by
 have hb:=rX n;have hl:=dD (hZ n);unfold MO;by_cases c:n<0
 · rw [if_pos c] at hb;rw [hb,lq] at hl;rw [aK (by omega),M_ (by omega),hb];show (bif true&&(((45:Nat):Int)==45) then _ else _)=n;show -((n.natAbs:Nat):Int)=n;omega
 · rw [if_neg c] at hb;have:(fG (hZ n) 0==45)=false:=by
    cases q:Lib.decDigits n.toNat with
    | nil=>exact absurd q (oy _)
    | cons x r =>have hx:=lB n.toNat x (by rw [q];exact sM ..);rw [q,List.map_cons] at hb;rw [hb,lq] at hl;rw [M_ (by omega),hb];refine n_ ?_;show ((x.toNat:Nat):Int)≠45;omega
   rw [this,Bool.and_false,aI];omega
theorem LP {n:Int} (h:Nh n):(hZ n).size≤10:=Iw (by have:=h.1;omega) (by have:=h.2;omega)
theorem NX {n:Int} (h:Nh n):∃ c,dg (nb (hZ n)) 0 0=(n.natAbs,c)∧c≤9:=by
 obtain ⟨h0,h1⟩:=h;rw [rX];by_cases c:n<0
 · rw [if_pos c];refine ⟨(Lib.decDigits n.natAbs).length,?_,ij 8 _ (by rw [show (10:Nat) ^ (8+1)=1000000000 by decide];omega)⟩;rw [dg,if_neg (by omega),wu _ _ _ (EK _),rD,List.length_map,Nat.zero_add]
 · rw [if_neg c];refine ⟨(Lib.decDigits n.toNat).length,?_,ij 8 _ (by rw [show (10:Nat) ^ (8+1)=1000000000 by decide];omega)⟩;rw [wu _ _ _ (EK _),rD,List.length_map,Nat.zero_add,show n.toNat=n.natAbs by omega]
theorem EF {c:Nat} (h:c≤11):10 ^ c≤100000000000:=Nat.le_trans (Nat.pow_le_pow_right (by decide) h) (by decide)
theorem Li {c:Nat} (h:c≤9):10 ^ c≤1000000000:=Nat.le_trans (Nat.pow_le_pow_right (by decide) h) (by decide)
end Go.V
namespace Go.Proofs.YtijlgdoiofdmhaaGreatDoor.G
open Go.V
noncomputable def f_ (s:ByteArray):Int × Bool:=qN Nh hZ 0 s
def Is (s:ByteArray) (q:Nat × Nat):Option (Int × Bool × Unit) :=
 bif decide ((q.2:Int) > 9)||(decide ((s.size:Int) > 10)||!seq (hZ (MO s q.1)) s) then some (0,(false,())) else some (MO s q.1,(true,()))
theorem N8 {k:Nat} (hk:2 ^ 50≤k) (s:ByteArray) {q:Nat × Nat} (hq:q.1≤1000000000000) :
 (bif (decide ((ByteArray.size s:Int) > 0)) then (b9 0 (ByteArray.size s:Int) (bif ((fG s 0)==45) then (bif (decide ((q.2:Int) > 9)) then (some (0,(false,()))) else (bif (decide ((ByteArray.size s:Int) > 10)) then (some (0,(false,()))) else (Option.bind (ek.f k (aH (0-(q.1:Int)))) fun r1=>(bif (!(seq r1.1 s)) then (some (0,(false,()))) else (some ((aH (0-(q.1:Int))),(true,()))))))) else
  (bif (decide ((q.2:Int) > 9)) then (some (0,(false,()))) else (bif (decide ((ByteArray.size s:Int) > 10)) then (some (0,(false,()))) else (Option.bind (ek.f k (q.1:Int)) fun r2=>(bif (!(seq r2.1 s)) then (some (0,(false,()))) else (some ((q.1:Int),(true,())))))))))
 else (bif (decide ((q.2:Int) > 9)) then (some (0,(false,()))) else (bif (decide ((ByteArray.size s:Int) > 10)) then (some (0,(false,()))) else (Option.bind (ek.f k (q.1:Int)) fun r3=>(bif (!(seq r3.1 s)) then (some (0,(false,()))) else (some ((q.1:Int),(true,()))))))))=Is s q:=by
 have hn:aH (0-(q.1:Int)) = -(q.1:Int):=by rw [aC (by omega) (by omega)];omega
 rw [hn,s5 hk (n:=(q.1:Int)) (by omega) (by omega),s5 hk (n := -(q.1:Int)) (by omega) (by omega)];simp only [aJ];unfold Is MO;by_cases c0:(s.size:Int) > 0
 · rw [aK c0,aU,aF (by omega) (by omega),Bool.true_and];cases fG s 0==45 <;> cases decide ((q.2:Int) > 9) <;> cases decide ((s.size:Int) > 10)
   all_goals simp only [aU,aI,Bool.true_or,Bool.false_or]
   all_goals first | rfl | (cases seq (hZ (q.1:Int)) s <;> rfl) | (cases seq (hZ (-(q.1:Int))) s <;> rfl)
 · rw [aN c0,aI,Bool.false_and,aI];cases decide ((q.2:Int) > 9) <;> cases decide ((s.size:Int) > 10)
   all_goals simp only [aU,aI,Bool.true_or,Bool.false_or]
   all_goals first | rfl | (cases seq (hZ (q.1:Int)) s <;> rfl)
theorem y9 {k:Nat} (hk:2 ^ 50≤k) {s:ByteArray} (hs:s.size≤1099511627776):fZ.f k s=Is s (dg ((nb s).take 11) 0 0):=by
 unfold fZ.f fZ.t;have hn:=dD s;have hl:((nb s).take 11).length=min 11 s.size:=by rw [List.length_take,hn]
 refine dG (L:=fun n i (q:Nat × Nat)=>fZ.l0 k n s (q.1:Int) (q.2:Int) i) (R:=fun r q=>Is s (dg r q.1 q.2)) 0 ((nb s).take 11) (fun i q=>q.1+1≤10 ^ q.2∧(q.2:Int)≤i) (fun n q hq=>?_) (fun n i q x rest h0 h1 hx hr hq ih=>?_) (n:=k) (s:=(0,0)) (by omega) ⟨by decide,by decide⟩
 · obtain ⟨g1,g2⟩:=hq;have hp:=EF (c:=q.2) (by omega);rw [show dg [] q.1 q.2=q from rfl];refine Eq.trans ?_ (N8 hk s (q:=q) (by omega));simp only [fZ.l0,fZ.b0];rcases Nat.lt_or_ge 11 s.size with c | c
   · rw [hl,Nat.min_eq_left (by omega),aK (show ((11:Nat):Int)<(s.size:Int) by omega),aN (show ¬ ((11:Nat):Int)<11 by omega)];rfl
   · rw [hl,Nat.min_eq_right c,aN (show ¬ (s.size:Int)<(s.size:Int) by omega)];rfl
 · obtain ⟨g1,g2⟩:=hq;have hp:=EF (c:=q.2) (by omega);rw [hl] at h1;have hi:i<11:=by omega
   have hsz:i<(s.size:Int):=by omega
   have hx':(nb s).getD i.toNat 0=x:=by rw [← hx,m7 (by omega)]
   have hb:=DN (s:=s) (x:=x) h0 (by rw [hn];exact hsz) hx';have hx256:x<256:=by rw [← hx'];exact kI s _
   simp only [fZ.l0,fZ.b0];rw [aK hsz,aK hi,aU,aU,aF h0 hsz,hb];have iN:=ih q ⟨g1,by omega⟩;by_cases c1:48≤x
   · rw [aK (show (x:Int)≥48 by omega),aU];by_cases c2:x≤57
     · rw [aF h0 hsz,aK (show (x:Int)≤57 by omega),aU,aF h0 hsz];have iY:=ih (q.1*10+(x-48),q.2+1) ⟨by rw [Nat.pow_succ];omega,by simp only [];omega⟩;rw [qT (n:=(x:Int)-48) (by omega) (by omega),aC (n:=(x:Int)-48) (by omega) (by omega),aC (n:=(q.1:Int)*10) (by omega) (by omega),aC (by omega) (by omega),aC (n:=(q.2:Int)+1) (by omega) (by omega),aC (n:=i+1) (by omega) (by omega)];rw [show dg (x::rest) q.1 q.2=dg rest (q.1*10+(x-48)) (q.2+1) from if_pos ⟨c1,c2⟩];rw [show (q.1:Int)*10+((x:Int)-48)=((q.1*10+(x-48):Nat):Int) by omega,show (q.2:Int)+1=((q.2+1:Nat):Int) by omega];exact iY
     · rw [aF h0 hsz,aN (show ¬ (x:Int)≤57 by omega),aI,aC (n:=i+1) (by omega) (by omega),show dg (x::rest) q.1 q.2=dg rest q.1 q.2 from if_neg (fun h=>c2 h.2)];exact iN
   · rw [aN (show ¬ (x:Int)≥48 by omega),aI,aC (n:=i+1) (by omega) (by omega),show dg (x::rest) q.1 q.2=dg rest q.1 q.2 from if_neg (fun h=>c1 h.1)];exact iN
theorem A0 {k:Nat} (hk:2 ^ 50≤k) {s:ByteArray} (hs:s.size≤1099511627776):fZ.f k s=some ((f_ s).1,((f_ s).2,())):=by
 rw [y9 hk hs];refine oA (fun n h1 h2=>?_) ?_
 · subst h2;have hz:=LP h1;obtain ⟨c,e,hc⟩:=NX h1;rw [List.take_of_length_le (by rw [dD];omega),e];unfold Is;simp only [];rw [aN (by omega),aN (by omega),LR,cZ];rfl
 · have hb:=yx ((nb s).take 11) 0 0 (by decide);generalize dg ((nb s).take 11) 0 0=q at hb;unfold Is;by_cases c:q.2≤9
   · have hp:=Li c;cases e:(decide ((q.2:Int) > 9)||(decide ((s.size:Int) > 10)||!seq (hZ (MO s q.1)) s)) with
     | true=>exact .inr rfl
     | false =>
      simp only [Bool.or_eq_false_iff,Bool.not_eq_false'] at e;refine .inl ⟨MO s q.1,?_,dT.1 e.2.2,rfl⟩;unfold MO Nh;cases decide ((s.size:Int) > 0)&&(fG s 0==45)
      · rw [aI];omega
      · rw [aU];omega
   · rw [aK (show (q.2:Int) > 9 by omega)];exact .inr rfl
theorem pX (k:Nat) {s:ByteArray} (hs:s.size≤281474976710656):d8.f k s=some ((f_ s).1,((f_ s).2,())):=by
 unfold d8.f;rw [aK hs,aU];refine oA (fun n h1 h2=>?_) ?_
 · obtain ⟨g0,g1⟩:=h1;have he:s.data.toList=Go.Lib.itoa n:=by rw [← h2];unfold hZ;rw [List.toList_toArray]
   rw [he,Kh (by omega) (by omega)];unfold d8.r;simp only [];rw [show seq ⟨(Go.Lib.itoa n).toArray⟩ s=true from dT.2 h2,aK ⟨g0,g1⟩];rfl
 · cases Go.Lib.atoiAll s.data.toList with
   | ok v =>
    unfold d8.r;simp only [];cases e:seq ⟨(Go.Lib.itoa v).toArray⟩ s&&decide (-999999999≤v∧v≤999999999) with
    | false=>exact .inr rfl
    | true =>rw [lP,decide_eq_true_eq] at e;exact .inl ⟨v,e.2,dT.1 e.1,rfl⟩
   | _=>exact .inr rfl
theorem xq {n:Int} (h:Nh n):f_ (hZ n)=(n,true):=Lp (fun _ _ _ _ e=>zv e) h
def sI (s p:ByteArray):Bool:=decide (p.size≤s.size)&&seq (ByteArray.extract s 0 p.size) p
theorem LU (s p:ByteArray):Go.Lib.hasPrefix s.data.toList p.data.toList=sI s p:=(Go.Lib.hasPrefix_raw s p).symm
theorem Lg {s p:ByteArray} (h:sI s p=true):p.size≤s.size:=by unfold sI at h;rw [lP,decide_eq_true_eq] at h;exact h.1
theorem Fp (p t:ByteArray):sI (p++t) p=true:=by unfold sI;rw [aK (by rw [ByteArray.size_append];omega),A7,cZ];rfl
theorem AZ {s p:ByteArray} (h:sI s p=true):s=p++ByteArray.extract s p.size s.size:=by have hl:=Lg h;unfold sI at h;rw [lP] at h;have e:=dT.1 h.2;have:=vm s hl;rw [e] at this;exact this
theorem vg (k:Nat) (s p:ByteArray):ia.f k s p=some (bif sI s p then ByteArray.extract s p.size s.size else s,(sI s p,())):=by
 unfold ia.f Go.Lib.trimPrefix;rw [LU];cases sI s p with
 | false=>rfl
 | true =>
  have:(⟨(if true=true then List.drop p.data.toList.length s.data.toList else s.data.toList).toArray⟩:ByteArray)=ByteArray.extract s p.size s.size:=by rw [if_pos rfl];apply mI;rw [k8];unfold nb;rw [List.toList_toArray,List.map_drop,Array.length_toList];rfl
  rw [this];rfl
def yF (l:List Int) (x:Int):Bool:=l.any fun y=>y==x
end Go.Proofs.YtijlgdoiofdmhaaGreatDoor.G

/- Plain laws, merged; what is proved here is told ahead of each part. -/
import Derived.Test.YteejjngdagmofaaGreatDoorZKE
import Derived.Lib.ItoaNum
import Derived.Lib.AtoiAll
import Derived.Lib.AtoiAllCases
import Derived.Lib.Split
import Derived.Lib.CountLaws
import Derived.Lib.IndexBytes
import Derived.KernelRfl
import Derived.Test.YteejjngdagmofaaGreatDoorVPure
import Derived.Test.YteejjngdagmofaaGreatDoorXLib
import Derived.Test.YteejjngdagmofaaGreatDoorVWords
set_option linter.unusedVariables false
set_option linter.unusedSimpArgs false
namespace Go.V
theorem ac {α β:Type} {a:α} {f:α→Option β}:Option.bind (some a) f=f a:=rfl
theorem aH {α:Type} {a b:α}:cond false a b=b:=rfl
theorem ae {α:Type} {a b:α}:cond true a b=a:=rfl
theorem g9:(!true)=false:=rfl
theorem yO:(!false)=true:=rfl
theorem pG {α:Type} [BEq α] [LawfulBEq α] {a b:α} (h:a≠b):(a==b)=false:=beq_eq_false_iff_ne.2 h
theorem qX (i:Nat):Int.toNat (i:Int)=i:=Int.toNat_natCast i
theorem kM {α:Type} {a:α} {l:List α}:(a::l).length=l.length+1:=rfl
theorem rt {α:Type} {l m:List α}:(l++m).length=l.length+m.length:=List.length_append
theorem qY {α:Type} (l m n:List α):l++m++n=l++(m++n):=List.append_assoc l m n
theorem BU {α:Type} [BEq α] [LawfulBEq α] {a b:α} (h:(a==b)=true):a=b:=beq_iff_eq.1 h
theorem gY (a b:Bool):((a&&b)=true)=(a=true∧b=true):=Bool.and_eq_true a b
theorem iF {α:Type} {a:α} {l:List α}:a ∈ a::l:=List.mem_cons_self
theorem jF {α:Type} (y:α) {a:α} {l:List α} (h:a ∈ l):a ∈ y::l:=List.mem_cons_of_mem y h
theorem aX {p:Prop} [Decidable p] (h:p):decide p=true:=decide_eq_true h
theorem aZ {p:Prop} [Decidable p] (h:¬ p):decide p=false:=decide_eq_false h
theorem dT {R:Type} {b n:Nat} {k:Option R} (h:n≤1099511627776) (hb:b≤128):rm b n k=k :=
 Ss (Nat.le_trans (Nat.mul_le_mul h hb) (by decide)) (by omega)
theorem eZ {R:Type} {a b:ByteArray} {k:Option R} (h:a.size+b.size≤4611686018427387904):jm a b k=k:=F_ (by omega)
theorem MZ {R:Type} {b:Nat} {n:Int} {k:Option R} (h0:0≤n) (h:n≤1099511627776) (hb:b≤128):Qs b n k=k :=
 JD h0 (Nat.le_trans (Nat.mul_le_mul (show n.toNat≤1099511627776 by omega) hb) (by decide)) (by omega)
theorem yh {n:Int} (h0:0≤n) (h1:n≤4294967295):IntKind.wrap .u32 n=n:=by unfold IntKind.wrap;simp [IntKind.bits,IntKind.signed];omega
theorem qf {n:Int} (h0:0≤n) (h1:n≤255):IntKind.wrap .u8 n=n:=by unfold IntKind.wrap;simp [IntKind.bits,IntKind.signed];omega
theorem S5 {α:Type} {g:Nat→Option α} {r:α} (h:∀ k,2 ^ 50≤k→g k=some r):Ev g r:=⟨2 ^ 50,h⟩
section
variable {α σ ρ:Type}
theorem TC {L:Nat→σ→Option ρ} {R:σ→Option ρ} (μ:σ→Nat) (P:σ→Prop)
 (h:∀ n s,P s→(∀ s',P s'→μ s' < μ s→L n s'=R s')→L (n+1) s=R s):∀ n s,P s→μ s<n→L n s=R s
 | 0,s,_,hn=>by omega
 | n+1,s,hs,hn=>h n s hs fun s' h1 h2=>TC μ P h n s' h1 (by omega)
theorem M_ {L:Nat→Int→σ→Option ρ} {R:Int→σ→Option ρ} (N:Int) (P:Int→σ→Prop)
 (h0:∀ (n:Nat) s,P N s→L (n+1) N s=R N s)
 (h1:∀ (n:Nat) (i:Int) s,0≤i→i<N→P i s→(∀ s',P (i+1) s'→L n (i+1) s'=R (i+1) s')→L (n+1) i s=R i s) :
 ∀ (n:Nat) (i:Int) s,0≤i→i≤N→N-i<n→P i s→L n i s=R i s
 | 0,i,s,hi,hN,hn,_=>by omega
 | n+1,i,s,hi,hN,hn,hs=>by
  by_cases c:i=N
  · subst c;exact h0 n s hs
  · exact h1 n i s hi (by omega) hs fun s' q=>M_ N P h0 h1 n (i+1) s' (by omega) (by omega) (by omega) q
theorem Rp {L:Nat→Int→σ→Option ρ} {R:List α→σ→Option ρ} (z:α) (l:List α) (P:Int→σ→Prop)
 (h0:∀ (n:Nat) s,P l.length s→L (n+1) l.length s=R [] s)
 (h1:∀ (n:Nat) (i:Int) s x rest,0≤i→i<l.length→l.getD i.toNat z=x→l.drop i.toNat=x::rest→P i s→(∀ s',P (i+1) s'→L n (i+1) s'=R rest s')→L (n+1) i s=R (x::rest) s) :
 ∀ (n:Nat) (i:Int) s,0≤i→i≤l.length→(l.length:Int)-i<n→P i s→L n i s=R (l.drop i.toNat) s:=by
 intro n i s hi hN hn hs;refine M_ (L:=L) (R:=fun i s=>R (l.drop i.toNat) s) l.length P (fun n s q=>?_) (fun n i s hi hlt q ih=>?_) n i s hi hN hn hs
 · rw [h0 n s q,Int.toNat_natCast,List.drop_length]
 · have hl:i.toNat<l.length:=by omega
   have e:l.drop i.toNat=l.getD i.toNat z::l.drop (i+1).toNat:=by rw [List.drop_eq_getElem_cons hl,show (i+1).toNat=i.toNat+1 by omega];simp [List.getD,hl]
   show _=R (l.drop i.toNat) s;rw [e];exact h1 n i s _ _ hi hlt rfl e q ih
theorem iZ {L:Nat→Int→σ→Option ρ} {R:List α→σ→Option ρ} (z:α) (l:List α) (P:Int→σ→Prop)
 (h0:∀ (n:Nat) s,P l.length s→L (n+1) l.length s=R [] s)
 (h1:∀ (n:Nat) (i:Int) s x rest,0≤i→i<l.length→l.getD i.toNat z=x→l.drop i.toNat=x::rest→P i s→(∀ s',P (i+1) s'→L n (i+1) s'=R rest s')→L (n+1) i s=R (x::rest) s)
 {n:Nat} {s:σ} (hn:l.length<n) (hs:P 0 s):L n 0 s=R l s:=by
 have:=Rp z l P h0 h1 n 0 s (by omega) (by omega) (by omega) hs;simpa using this
end
theorem jr {a b:ByteArray} (h:a≠b):seq a b=false:=by
 cases c:seq a b
 · rfl
 · exact absurd (cF.1 c) h
theorem H9 {a b:ByteArray} (h:a=b):seq a b=true:=cF.2 h
theorem Kw (a b:ByteArray):seq a b=decide (a=b):=by
 by_cases h:a=b
 · rw [H9 h,aX h]
 · rw [jr h,aZ h]
def vl:Nat→Nat→List Nat
 | 0,a=>[a]
 | d+1,a=>if a≥128 then (128+a % 128)::vl d (a/128) else [a]
def uH:List Nat→Nat
 | []=>0
 | b::p=>b % 128+128*uH p
def sC:List Nat→Bool
 | []=>false
 | [b]=>decide (b<128)
 | b::c::p=>decide (128≤b)&&(decide (b<256)&&(sC (c::p)&&!(decide (p=[])&&c==0)))
theorem yw:∀ (d a:Nat),a<128 ^ (d+1)→sC (vl d a)=true∧uH (vl d a)=a∧(vl d a=[0]→a=0)
 | 0,a,h=>by
  have:a<128:=by simpa using h
  refine ⟨by simp [vl,sC,this],by simp [vl,uH];omega,fun q=>by simpa [vl] using q⟩
 | d+1,a,h=>by
  unfold vl;by_cases c:a≥128
  · rw [if_pos c];obtain ⟨h1,h2,h3⟩:=yw d (a/128) (by rw [Nat.pow_succ] at h;omega);refine ⟨?_,by rw [uH,h2];omega,fun q=>by have:=(List.cons.inj q).1;omega⟩;generalize vl d (a/128)=l at h1 h2 h3
    match l,h1 with
    | x::p,h1 =>
     simp only [sC,h1];have e1:decide (128≤128+a % 128)=true:=decide_eq_true (by omega);have e2:decide (128+a % 128<256)=true:=decide_eq_true (by omega);rw [e1,e2];cases hp:(decide (p=[])&&x==0)
     · rfl
     · simp only [gY,decide_eq_true_eq,beq_iff_eq] at hp;have:=h3 (by rw [hp.1,hp.2]);omega
  · rw [if_neg c];have:a<128:=by omega
    exact ⟨by simp [sC,this],by simp [uH];omega,fun q=>by simpa using q⟩
theorem G0:∀ (p:List Nat),sC p=true→p≠[0]→1≤uH p
 | [],h,_=>by simp [sC] at h
 | [b],h,q=>by
  simp only [sC,decide_eq_true_eq] at h;simp only [uH];have:b≠0:=fun e=>q (by rw [e])
  omega
 | b::c::p,h,_=>by
  simp only [sC,gY,decide_eq_true_eq,Bool.not_eq_true'] at h;have ih:=G0 (c::p) h.2.2.1 (fun e=>by
   have e1:c=0:=(List.cons.inj e).1;have e2:p=[]:=(List.cons.inj e).2;have:=h.2.2.2;rw [e1,e2] at this;simp at this)
  rw [uH];omega
theorem Ei:∀ (d:Nat) (p:List Nat),sC p=true→p.length≤d+1→vl d (uH p)=p
 | _,[],h,_=>by simp [sC] at h
 | 0,[b],h,_=>by simp only [sC,decide_eq_true_eq] at h;simp [vl,uH];omega
 | d+1,[b],h,_=>by
  simp only [sC,decide_eq_true_eq] at h;have e:uH [b]=b:=by simp [uH];omega
  rw [e,vl,if_neg (by omega)]
 | 0,b::c::p,_,hl=>by simp at hl
 | d+1,b::c::p,h,hl=>by
  have h0:=h;simp only [sC,gY,decide_eq_true_eq,Bool.not_eq_true'] at h;have hp:=G0 (c::p) h.2.2.1 (fun e=>by
   have e1:c=0:=(List.cons.inj e).1;have e2:p=[]:=(List.cons.inj e).2;have:=h.2.2.2;rw [e1,e2] at this;simp at this)
  have ih:=Ei d (c::p) h.2.2.1 (by simp at hl ⊢;omega);rw [uH,vl,if_pos (by omega)];rw [show (b % 128+128*uH (c::p))/128=uH (c::p) by omega,ih];congr 1;omega
theorem GO:∀ (p:List Nat) (b:Nat),uH (p++[b])=uH p+128 ^ p.length*(b % 128)
 | [],b=>by simp [uH]
 | a::p,b=>by rw [List.cons_append,uH,GO p b,uH,kM,Nat.pow_succ,Nat.mul_add,Nat.mul_comm (128 ^ p.length) 128,Nat.mul_assoc];omega
theorem Es:∀ (p:List Nat),uH p<128 ^ p.length
 | []=>by simp [uH]
 | a::p=>by have:=Es p;rw [uH,kM,Nat.pow_succ];omega
def nb (s:ByteArray):List Nat:=s.data.toList.map UInt8.toNat
theorem dD (s:ByteArray):(nb s).length=s.size:=by unfold nb;rw [List.length_map,Array.length_toList];rfl
theorem Qx {s:ByteArray} {x:Nat} (h:x ∈ nb s):x<256:=by unfold nb at h;rw [List.mem_map] at h;obtain ⟨y,_,rfl⟩:=h;exact UInt8.toNat_lt y
theorem jt {a b:ByteArray} (h:nb a=nb b):a=b:=by
 unfold nb at h;have h1:a.data.toList=b.data.toList:=List.map_inj_right (fun x y e=>UInt8.toNat_inj.1 e) |>.1 h
 exact ByteArray.ext (Array.toList_inj.1 h1)
theorem Cy {s:ByteArray} {i:Nat} (h:i<s.size):jJ s (i:Int)=(((nb s).getD i 0:Nat):Int):=by
 unfold jJ nb;have h1:i<s.data.toList.length:=by rw [Array.length_toList];exact h
 rw [Int.toNat_natCast,List.getD,List.getD,List.getElem?_map,List.getElem?_eq_getElem h1];rfl
theorem Gt {l:List Nat} (h:∀ x ∈ l,x<256):nb (bytesOf (l.map Int.ofNat))=l:=by
 unfold nb bytesOf;simp only [List.map_map,List.toList_toArray]
 induction l with
 | nil=>rfl
 | cons x l ih =>rw [List.map_cons,ih (fun y hy=>h y (jF _ hy))];have:=h x (iF ..);congr 1;show (UInt8.ofNat (Int.toNat (x:Int))).toNat=x;rw [Int.toNat_natCast];simp;omega
theorem lC (s:ByteArray) (n:Nat):nb (ByteArray.extract s 0 n)=(nb s).take n:=by unfold nb;simp [ByteArray.data_extract,List.map_take]
theorem Qy:∀ (d a:Nat),a<128 ^ (d+1)→∀ x ∈ vl d a,x<256
 | 0,a,h,x,hx=>by simp [vl] at hx;subst hx;simp at h;omega
 | d+1,a,h,x,hx=>by
  unfold vl at hx;split at hx
  · rcases List.mem_cons.1 hx with q | q
    · subst q;omega
    · exact Qy d _ (by rw [Nat.pow_succ] at h;omega) x q
  · simp at hx;subst hx;omega
def bg (a:Nat):ByteArray:=bytesOf ((vl 6 a).map Int.ofNat)
theorem wh {a:Nat} (h:a<562949953421312):nb (bg a)=vl 6 a:=Gt (Qy 6 a (by rw [show (128:Nat) ^ (6+1)=562949953421312 by decide];exact h))
theorem M3 {s:ByteArray} {n:Nat} (h0:1≤n) (h7:n≤7) (hs:n≤s.size):seq (bg (uH ((nb s).take n))) (ByteArray.extract s 0 n)=sC ((nb s).take n):=by
 have hl:((nb s).take n).length=n:=by rw [List.length_take,dD];omega
 have hd:uH ((nb s).take n)<562949953421312:=by have:=Es ((nb s).take n);rw [hl] at this;have h2:(128:Nat) ^ n≤128 ^ 7:=Nat.pow_le_pow_right (by decide) h7;rw [show (128:Nat) ^ 7=562949953421312 by decide] at h2;omega
 rw [Bool.eq_iff_iff,cF];constructor
 · intro e;have e1:nb (bg (uH ((nb s).take n)))=(nb s).take n:=by rw [e,lC]
   rw [wh hd] at e1;have:=(yw 6 (uH ((nb s).take n)) (by rw [show (128:Nat) ^ (6+1)=562949953421312 by decide];exact hd)).1;rw [e1] at this;exact this
 · intro c;refine jt ?_;rw [wh hd,lC];exact Ei 6 _ c (by omega)
open Go
def dp (n:Int):ByteArray:=⟨(Lib.itoa n).toArray⟩
def uv (u:Nat):List UInt8:=if u=0 then [] else Lib.decDigits u
theorem Lf:uv 0=[]:=rfl
theorem sN {u:Nat} (h:u≠0):uv u=Lib.decDigits u:=if_neg h
theorem MW {u:Nat} (h:u≠0):uv u=uv (u/10)++[UInt8.ofNat (48+u % 10)]:=by
 rw [sN h,Lib.decDigits];by_cases c:u<10
 · rw [dif_pos c,show u/10=0 by omega,Lf,List.nil_append,Nat.mod_eq_of_lt c]
 · rw [dif_neg c,sN (by omega)]
theorem rN (u:Nat):Lib.decDigits u≠[]:=by rw [Lib.decDigits];split <;> simp
theorem AP:Lib.decDigits 0=[48]:=by rw [Lib.decDigits,dif_pos (by omega)];rfl
theorem tZ {d:Nat} (h:d<10):(UInt8.ofNat (48+d)).toNat=48+d:=by simp;omega
theorem kY (u:Nat):∀ b ∈ Lib.decDigits u,48≤b.toNat∧b.toNat≤57:=by
 induction u using Nat.strongRecOn with
 | _ u ih =>
  intro b hb;rw [Lib.decDigits] at hb;split at hb
  · rename_i h;rw [List.mem_singleton] at hb;subst hb;rw [tZ h];omega
  · rename_i h;rcases List.mem_append.1 hb with q | q
    · exact ih (u/10) (by omega) b q
    · rw [List.mem_singleton] at q;subst q;rw [tZ (by omega)];omega
def t7:List Nat→Nat→Nat
 | [],a=>a
 | b::l,a=>t7 l (a*10+(b-48))
theorem Db:∀ (l m:List Nat) (a:Nat),t7 (l++m) a=t7 m (t7 l a)
 | [],m,a=>rfl
 | b::l,m,a=>Db l m _
theorem xK (u:Nat):t7 ((Lib.decDigits u).map UInt8.toNat) 0=u:=by
 induction u using Nat.strongRecOn with
 | _ u ih =>
  rw [Lib.decDigits];split
  · rename_i h;simp only [List.map_cons,List.map_nil,t7,tZ h];omega
  · rename_i h;rw [List.map_append,Db,ih (u/10) (by omega)];simp only [List.map_cons,List.map_nil,t7,tZ (show u % 10<10 by omega)];omega
theorem jf:∀ (k u:Nat),u<10 ^ (k+1)→(Lib.decDigits u).length≤k+1
 | 0,u,h=>by rw [Lib.decDigits,dif_pos (by simpa using h)];simp
 | k+1,u,h=>by
  rw [Lib.decDigits];split
  · simp
  · have:=jf k (u/10) (by rw [Nat.pow_succ] at h;omega);rw [rt];show _+1≤_;omega
theorem pX (n:Int):nb (dp n)=if n<0 then 45::(Lib.decDigits n.natAbs).map UInt8.toNat else (Lib.decDigits n.toNat).map UInt8.toNat:=by unfold nb dp Lib.itoa;split <;> simp
theorem zl {a b:Int} (h:dp a=dp b):a=b:=by
 have h1:=congrArg nb h;rw [pX,pX] at h1;have hd:∀ u:Nat,∀ l,(Lib.decDigits u).map UInt8.toNat≠45::l:=fun u l q=>by
  have hm:(45:Nat) ∈ (Lib.decDigits u).map UInt8.toNat:=by rw [q];exact iF ..
  obtain ⟨x,hx,e⟩:=List.mem_map.1 hm;have:=kY u x hx;omega
 by_cases ca:a<0
 · rw [if_pos ca] at h1;by_cases cb:b<0
   · rw [if_pos cb] at h1;have h2:=(List.cons.inj h1).2;have h3:=congrArg (fun l=>t7 l 0) h2;simp only [xK] at h3;omega
   · rw [if_neg cb] at h1;exact absurd h1.symm (hd _ _)
 · rw [if_neg ca] at h1;by_cases cb:b<0
   · rw [if_pos cb] at h1;exact absurd h1 (hd _ _)
   · rw [if_neg cb] at h1;have h3:=congrArg (fun l=>t7 l 0) h1;simp only [xK] at h3;omega
theorem G7 (n:Int) (h0 : -9223372036854775808≤n) (h1:n≤9223372036854775807):(dp n).size≤20:=by
 rw [← dD,pX];split
 · have:=jf 18 n.natAbs (by rw [show (10:Nat) ^ (18+1)=10000000000000000000 by decide];omega);rw [kM,List.length_map];omega
 · have:=jf 18 n.toNat (by rw [show (10:Nat) ^ (18+1)=10000000000000000000 by decide];omega);rw [List.length_map];omega
theorem yG:∀ (l:List UInt8) (a:Nat),(∀ b ∈ l,48≤b.toNat∧b.toNat≤57)→(a+1)*10 ^ l.length≤1000000000000000000→Lib.parseUint10 a l = .ok (t7 (l.map UInt8.toNat) a)
 | [],a,_,_=>rfl
 | c::l,a,h,hb=>by have hc:=h c (iF ..);rw [kM,Nat.pow_succ,Nat.mul_comm (10 ^ l.length) 10,← Nat.mul_assoc] at hb;have hp:1≤10 ^ l.length:=Nat.one_le_pow _ _ (by decide);have h1:(a+1)*10*1≤(a+1)*10*10 ^ l.length:=Nat.mul_le_mul (Nat.le_refl _) hp;have ih:=yG l (a*10+(c.toNat-48)) (fun x hx=>h x (jF _ hx)) (Nat.le_trans (Nat.mul_le_mul (by omega) (Nat.le_refl _)) hb);rw [Lib.parseUint10,if_pos hc,if_neg (by omega),if_neg (by omega),ih,List.map_cons,t7]
theorem CU {u:Nat} (h:u<1000000000):Lib.parseMag (Lib.decDigits u) = .ok u:=by have hl:=jf 8 u (by rw [show (10:Nat) ^ (8+1)=1000000000 by decide];exact h);have hp:10 ^ (Lib.decDigits u).length≤10 ^ 9:=Nat.pow_le_pow_right (by decide) hl;rw [show (10:Nat) ^ 9=1000000000 by decide] at hp;unfold Lib.parseMag;rw [if_neg (rN u),yG _ 0 (kY u) (by omega),xK]
theorem Ml {n:Int} (h0 : -1000000000<n) (h1:n<1000000000):Lib.atoiAll (Lib.itoa n) = .ok n:=by
 unfold Lib.itoa;by_cases c:n<0
 · rw [if_pos c,Lib.atoiAll_minus,CU (by omega)];simp only [Lib.signed];rw [if_neg (by omega)];congr 1;omega
 · rw [if_neg c];have hp:=CU (u:=n.toNat) (by omega);cases q:Lib.decDigits n.toNat with
   | nil=>exact absurd q (rN _)
   | cons d r =>have hd:=kY n.toNat d (by rw [q];exact iF ..);rw [q] at hp;rw [Lib.atoiAll_plain d r (by omega) (by omega),hp];simp only [Lib.signless];rw [if_neg (by omega)];congr 1;omega
section
variable {α ρ:Type}
def pB (ok:Option α→α→Bool):Option α→List α→Bool
 | _,[]=>true
 | p,x::l=>ok p x&&pB ok (some x) l
theorem BM {L:Nat→Int→Option ρ} (z:α) (l:List α) (ok:Option α→α→Bool) (yes no:Option ρ) (h0:∀ (n:Nat),L (n+1) l.length=yes)
 (h1:∀ (n:Nat) x,0<l.length→l.getD (Int.toNat 0) z=x→L (n+1) 0=bif ok none x then L n 1 else no)
 (h2:∀ (n:Nat) (i:Int) x y,0<i→i<l.length→l.getD i.toNat z=x→l.getD (i-1).toNat z=y→L (n+1) i=bif ok (some y) x then L n (i+1) else no)
 {n:Nat} (hn:l.length<n):L n 0=bif pB ok none l then yes else no:=by
 have key:∀ (d i n:Nat),l.length=i+d→0<i→d<n→L n (i:Int)=bif pB ok (some (l.getD (i-1) z)) (l.drop i) then yes else no:=by
  intro d
  induction d with
  | zero =>
   intro i n h h' hn;obtain ⟨n,rfl⟩:∃ q,n=q+1:=⟨n-1,by omega⟩;have:i=l.length:=by omega
   subst this;rw [h0 n,List.drop_length];rfl
  | succ d ih =>
   intro i n h h' hn;obtain ⟨n,rfl⟩:∃ q,n=q+1:=⟨n-1,by omega⟩;have hl:i<l.length:=by omega
   have e:l.drop i=l.getD i z::l.drop (i+1):=by rw [List.drop_eq_getElem_cons hl];simp [List.getD,hl]
   have ih:=ih (i+1) n (by omega) (by omega) (by omega);rw [h2 n i (l.getD i z) (l.getD (i-1) z) (by omega) (by omega) (by rw [Int.toNat_natCast]) (by rw [show ((i:Int)-1).toNat=i-1 by omega]),e,pB];rw [show ((i:Int)+1)=((i+1:Nat):Int) by omega,ih,show i+1-1=i by omega];cases ok (some (l.getD (i-1) z)) (l.getD i z) <;> rfl
 obtain ⟨n,rfl⟩:∃ q,n=q+1:=⟨n-1,by omega⟩;cases l with
 | nil=>exact h0 n
 | cons x l =>rw [h1 n x (by simp) rfl,pB];have:=key l.length 1 n (by rw [kM];omega) (by omega) (by rw [kM] at hn;omega);rw [show ((1:Nat):Int)=1 from rfl] at this;rw [this];cases ok none x <;> rfl
theorem vt {ok:Option α→α→Bool} {l:List α} {p:Option α} (h:pB ok p l=true) {x:α} (hx:x ∈ l):∃ q,ok q x=true:=by
 induction l generalizing p with
 | nil=>cases hx
 | cons y l ih =>
  rw [pB,gY] at h;rcases List.mem_cons.1 hx with e | e
  · subst e;exact ⟨p,h.1⟩
  · exact ih h.2 e
end
theorem xL {α:Type} {l:List α} {n i:Nat} {z:α} (h:i<n):(l.take n).getD i z=l.getD i z:=by simp [List.getD,List.getElem?_take,h]
theorem kv {α:Type} {l:List α} {i:Nat} {z:α} (h:i<l.length):l.take (i+1)=l.take i++[l.getD i z]:=by rw [List.take_succ_eq_append_getElem h];simp [List.getD,h]
theorem fq {α:Type} (l:List α) (x:α):(l++[x]).length=l.length+1:=by simp
def dB (l:List UInt8):ByteArray:=⟨l.toArray⟩
theorem OB (a b:List UInt8):dB a++dB b=dB (a++b):=by apply ByteArray.ext;simp [dB,ByteArray.data_append]
theorem Ek (l:List UInt8):(dB l).size=l.length:=by simp [dB,ByteArray.size]
theorem ut (s:ByteArray):dB []++s=s:=by apply ByteArray.ext;simp [dB,ByteArray.data_append]
theorem JE (s:ByteArray):s++dB []=s:=by apply ByteArray.ext;simp [dB,ByteArray.data_append]
theorem nT (a b c:ByteArray):a++b++c=a++(b++c):=by apply ByteArray.ext;simp [ByteArray.data_append]
theorem PZ (n:Int) (h:n≠0):dp n=(bif decide (n<0) then dB [45] else dB [])++dB (uv n.natAbs):=by
 unfold dp Lib.itoa;by_cases c:n<0
 · rw [if_pos c,aX c,ae,OB,sN (by omega)];rfl
 · rw [if_neg c,aZ c,aH,ut,sN (by omega),show n.natAbs=n.toNat by omega];rfl
theorem H1 {u:Nat} (h:u≤9223372036854775808):(uv u).length≤19:=by
 by_cases c:u=0
 · subst c;decide
 · rw [sN c];exact jf 18 u (by rw [show (10:Nat) ^ (18+1)=10000000000000000000 by decide];omega)
theorem m0 {n:Int} (h0 : -9223372036854775808≤n) (h1:n≤9223372036854775807):(dp n).size≤20:=G7 n h0 h1
def lU:List Nat→Bool
 | []=>true
 | b::l=>(decide (97≤b∧b≤122)||decide (48≤b∧b≤57))&&lU l
def ib (s:ByteArray):Bool:=lU (nb s)&&decide (1≤s.size∧s.size≤12)
end Go.V
namespace Go.Proofs.YteejjngdagmofaaGreatDoor.G
open Go.V
theorem B8 {k:Nat} (hk:2 ^ 50≤k) {n:Int} (h0 : -9223372036854775808≤n) (h1:n≤9223372036854775807):iM.f k n=some (dp n,()):=by
 unfold iM.f iM.t;by_cases c:n=0
 · subst c;have:dp 0=(⟨#[48]⟩:ByteArray):=by
    unfold dp Lib.itoa;rw [if_neg (by decide),show (0:Int).toNat=0 from rfl,AP]
   rw [this];rfl
 · rw [show (n==0)=false from pG c,aH];have key:=TC (L:=fun m (s:Int × ByteArray)=>iM.l0 k m s.1 s.2 (decide (n<0))) (R:=fun s=>some ((bif decide (n<0) then dB [45] else dB [])++(dB (uv s.1.natAbs)++s.2),()))
    (fun s=>(uv s.1.natAbs).length) (fun s => -9223372036854775808≤s.1∧s.1≤9223372036854775807∧s.2.size+(uv s.1.natAbs).length≤1000) ?_ k (n,(⟨#[]⟩:ByteArray))
    ⟨h0,h1,by have:=H1 (u:=n.natAbs) (by omega);show 0+(uv n.natAbs).length≤1000;omega⟩ (by have:=H1 (u:=n.natAbs) (by omega);show (uv n.natAbs).length<k;omega)
   · refine key.trans ?_;simp only [];rw [PZ n c,show (⟨#[]⟩:ByteArray)=dB [] from rfl,JE]
   · intro m s hs ih;obtain ⟨x,acc⟩:=s;obtain ⟨g0,g1,g2⟩:=hs;simp only [] at g0 g1 g2 ih ⊢;by_cases cx:x=0
     · subst cx;have hz:uv (Int.natAbs 0)=[]:=rfl;rw [hz] at g2 ⊢;rw [ut];unfold iM.l0 iM.b0;rw [show ((0:Int) != 0)=false from rfl,aH];cases decide (n<0)
       · rw [aH,aH,ut]
       · rw [ae,ae,eZ (by rw [show (⟨#[45]⟩:ByteArray).size=1 from rfl];omega)];rfl
     · have hd:=MW (u:=x.natAbs) (by omega);have hb:bytesOf [48+((x.natAbs % 10:Nat):Int)]=dB [UInt8.ofNat (48+x.natAbs % 10)]:=rfl;have hm:x.natAbs % 10<10:=Nat.mod_lt _ (by decide);have hl:(uv x.natAbs).length=(uv (x.natAbs/10)).length+1:=by rw [hd,rt];rfl
       have hr:(dB [UInt8.ofNat (48+x.natAbs % 10)]++acc).size=1+acc.size:=by rw [ByteArray.size_append];rfl
       have fin:∀ y:Int,y.natAbs=x.natAbs/10 → -9223372036854775808≤y→y≤9223372036854775807 →
        iM.l0 k m (aU y) (dB [UInt8.ofNat (48+x.natAbs % 10)]++acc) (decide (n<0))=some ((bif decide (n<0) then dB [45] else dB [])++(dB (uv x.natAbs)++acc),()):=fun y hy q0 q1=>by
        rw [aG q0 q1];have:=ih (y,dB [UInt8.ofNat (48+x.natAbs % 10)]++acc) ⟨q0,q1,by simp only [];rw [hr,hy];omega⟩ (by simp only [];rw [hy];omega);simp only [] at this;rw [this,hy,hd,← OB,nT]
       unfold iM.l0 iM.b0;rw [show (x != 0)=true from bne_iff_ne.2 cx,ae];obtain ⟨u,rfl | rfl⟩:=Int.eq_nat_or_neg x
       · have e1:Int.tmod (u:Int) 10=((u % 10:Nat):Int):=rfl;have e2:Int.tdiv (u:Int) 10=((u/10:Nat):Int):=rfl;rw [Int.natAbs_natCast] at *;rw [e1,e2,aZ (by omega),aH,aG (n:=48+((u % 10:Nat):Int)) (by omega) (by omega),qf (by omega) (by omega),hb,eZ (by rw [Ek];simp only [List.length_singleton];omega)];exact fin _ (by omega) (by omega) (by omega)
       · have e1:Int.tmod (-(u:Int)) 10 = -((u % 10:Nat):Int):=Int.neg_tmod (a:=(u:Int)) (b:=10);have e2:Int.tdiv (-(u:Int)) 10 = -((u/10:Nat):Int):=Int.neg_tdiv (u:Int) 10;rw [Int.natAbs_neg,Int.natAbs_natCast] at *;rw [e1,e2];by_cases cz:u % 10=0
         · rw [aZ (by omega),aH,show (48:Int) + -((u % 10:Nat):Int)=48+((u % 10:Nat):Int) by omega,aG (n:=48+((u % 10:Nat):Int)) (by omega) (by omega),qf (by omega) (by omega),hb,eZ (by rw [Ek];simp only [List.length_singleton];omega)];exact fin _ (by omega) (by omega) (by omega)
         · rw [aX (by omega),ae,aG (n:=0 - -((u % 10:Nat):Int)) (by omega) (by omega),show (48:Int)+(0 - -((u % 10:Nat):Int))=48+((u % 10:Nat):Int) by omega,aG (n:=48+((u % 10:Nat):Int)) (by omega) (by omega),qf (by omega) (by omega),hb,eZ (by rw [Ek];simp only [List.length_singleton];omega)];exact fin _ (by omega) (by omega) (by omega)
theorem AX (k:Nat) {n:Int} (h0 : -9223372036854775808≤n) (h1:n≤9223372036854775807):lf.f k n=some (dp n,()):=by unfold lf.f lf.t nN.f;rw [aX ⟨h0,h1⟩];rfl
theorem iU (k:Nat) (a b c:Int):aa.f k a b c=some (decide (b≤a∧a≤c),()):=by
 unfold aa.f aa.t;by_cases h:a≥b
 · rw [aX h,ae,decide_eq_decide.2 (show (b≤a∧a≤c)↔a≤c from ⟨fun q=>q.2,fun q=>⟨h,q⟩⟩)]
 · rw [aZ h,aH,aZ (fun q=>h q.1)]
theorem Pl {s:ByteArray} {i:Int} {x:Nat} (h0:0≤i) (h1:i<((nb s).length:Int)) (hx:(nb s).getD i.toNat 0=x):jJ s i=(x:Int):=by rw [dD] at h1;have:=Cy (s:=s) (i:=i.toNat) (by omega);rw [show ((i.toNat:Nat):Int)=i by omega,hx] at this;exact this
theorem NZ {s:ByteArray}:(some ((bif lU (nb s) then decide (1≤(s.size:Int)∧(s.size:Int)≤12) else false),()):Option (Bool × Unit))=some (ib s,()):=by unfold ib;rw [decide_eq_decide.2 (show (1≤(s.size:Int)∧(s.size:Int)≤12)↔(1≤s.size∧s.size≤12) by omega)];cases lU (nb s) <;> rfl
theorem pT {k:Nat} (hk:2 ^ 50≤k) {s:ByteArray} (hs:s.size≤1099511627776):dr.f k s=some (ib s,()):=by
 unfold dr.f dr.t;have hn:=dD s;refine (iZ (L:=fun n i (_:Unit)=>dr.l0 k n s i) (R:=fun r _=>some ((bif lU r then decide (1≤(s.size:Int)∧(s.size:Int)≤12) else false),())) 0 (nb s) (fun _ _=>True) (fun n _ _=>?_) (fun n i _ x rest h0 h1 hx hr hp ih=>?_) (n:=k) (s:=()) (by omega) trivial).trans NZ
 · simp only [hn];simp (disch:=omega) only [dr.l0,dr.b0,aZ,aH,iU k,ac,lU,ae]
 · have hb:=Pl h0 h1 hx;have ih:=ih () trivial;simp only [hn] at *;simp (disch:=omega) only [dr.l0,dr.b0,aX h1,ae,aY,hb,aG,ih,lU];by_cases c1:97≤x
   · rw [aX (show (x:Int)≥97 by omega),ae];by_cases c2:x≤122
     · rw [aX (show (x:Int)≤122 by omega),aX (show 97≤x∧x≤122 from ⟨c1,c2⟩)];rfl
     · rw [aZ (show ¬ (x:Int)≤122 by omega),aZ (show ¬ (97≤x∧x≤122) by omega),aX (show (x:Int)≥48 by omega),aZ (show ¬ (x:Int)≤57 by omega),aZ (show ¬ (48≤x∧x≤57) by omega)];rfl
   · rw [aZ (show ¬ (x:Int)≥97 by omega),aH,aZ (show ¬ (97≤x∧x≤122) by omega)];by_cases c3:48≤x
     · rw [aX (show (x:Int)≥48 by omega),ae];by_cases c4:x≤57
       · rw [aX (show (x:Int)≤57 by omega),aX (show 48≤x∧x≤57 from ⟨c3,c4⟩)];rfl
       · rw [aZ (show ¬ (x:Int)≤57 by omega),aZ (show ¬ (48≤x∧x≤57) by omega)];rfl
     · rw [aZ (show ¬ (x:Int)≥48 by omega),aH,aZ (show ¬ (48≤x∧x≤57) by omega)];rfl
abbrev ao:=List (Ty.d aF)
def bv (l:ao):Nat:=(l.map fun f=>f.2.1.size).sum
def uN (l:ao):Nat:=(l.map fun f=>f.1.size).sum
theorem eh (x:Ty.d aF) (l:ao):bv (x::l)=x.2.1.size+bv l:=by unfold bv;rw [List.map_cons,List.sum_cons]
theorem Ab:bv []=0:=rfl
theorem AA (x:Ty.d aF) (l:ao):uN (x::l)=x.1.size+uN l:=by unfold uN;rw [List.map_cons,List.sum_cons]
theorem BF:∀ l m:ao,bv (l++m)=bv l+bv m
 | [],m=>by rw [List.nil_append,Ab,Nat.zero_add]
 | x::l,m=>by rw [List.cons_append,eh,eh,BF l m];omega
theorem s5 {l:ao} {x:Ty.d aF} (h:x ∈ l):x.2.1.size≤bv l:=by
 induction l with
 | nil=>cases h
 | cons y l ih =>
  rw [eh];rcases List.mem_cons.1 h with e | e
  · subst e;omega
  · have:=ih e;omega
theorem xB {l:ao} {x:Ty.d aF} (h:x ∈ l):x.1.size≤uN l:=by
 induction l with
 | nil=>cases h
 | cons y l ih =>
  rw [AA];rcases List.mem_cons.1 h with e | e
  · subst e;omega
  · have:=ih e;omega
def sW (p:Option (Ty.d aF)) (x:Ty.d aF):Bool :=
 ib x.1&&(decide ((0:Int)≤x.2.2.1∧x.2.2.1≤(x.2.1.size:Int))&&(match p with | none=>true | some y=>nS y.1 x.1))
def fZ (d:Ty.d aA):Bool :=
 decide (d.1.length≤130)&&(decide ((0:Int)≤d.2.1∧d.2.1≤(100000:Int))&&(decide ((-1:Int)≤d.2.2.1∧d.2.2.1≤(100000:Int))&&(decide ((bv d.1:Int)≤d.2.1)&&pB sW none d.1)))
theorem CF {l:ao} {i:Nat} {x:Ty.d aF} (h:i<l.length) (hx:l.getD i (Ty.z aF)=x):bv (l.take (i+1))=bv (l.take i)+x.2.1.size:=by rw [List.take_add_one,BF];congr 1;simp only [List.getD,List.getElem?_eq_getElem h,Option.getD_some] at hx;rw [List.getElem?_eq_getElem h,hx];show bv [x]=_;rw [eh,Ab,Nat.add_zero]
theorem wH (l:ao) (i:Nat):bv (l.take i)≤bv l:=by have:=BF (l.take i) (l.drop i);rw [List.take_append_drop] at this;omega
theorem fa {k:Nat} (hk:2 ^ 50≤k) {d:Ty.d aA} (hu:bv d.1≤1099511627776) (hn:uN d.1≤1099511627776):am.f k d=some (fZ d,()):=by
 unfold am.f am.t fZ;by_cases c:d.1.length > 130
 · rw [aX (by omega),ae,aZ (by omega),Bool.false_and]
 · rw [aZ (by omega),aH,aX (by omega),Bool.true_and,iU,ac];cases decide ((0:Int)≤d.2.1∧d.2.1≤(100000:Int)) with
   | false=>rfl
   | true =>
    rw [g9,aH,iU,ac,Bool.true_and];cases decide ((-1:Int)≤d.2.2.1∧d.2.2.1≤(100000:Int)) with
    | false=>rfl
    | true =>
     rw [g9,aH,Bool.true_and];refine (BM (L:=fun n i=>am.l0 k n (bv (d.1.take i.toNat):Int) d.1 d.1.length i d.1 d.2.1 d.2.2.1 d.2.2.2.1) (Ty.z aF) d.1 sW (some (decide ((bv d.1:Int)≤d.2.1),())) (some (false,())) (fun n=>?_) (fun n x h hx=>?_) (fun n i x y h0 h1 hx hy=>?_) (n:=k) (by omega)).trans
      (by cases pB sW none d.1 <;> cases decide ((bv d.1:Int)≤d.2.1) <;> rfl)
     · rw [Int.toNat_natCast,List.take_length];simp (disch:=omega) only [am.l0,am.b0,aZ,aH]
     · have hm:x ∈ d.1:=by rw [← hx];exact eE (by omega)
       have hs:=xB hm;have ht:=CF (l:=d.1) (i:=0) h hx;have hle:=wH d.1 0;have hz:=s5 hm;rw [show Int.toNat 1=0+1 from rfl,ht];simp only [show Int.toNat 0=0 from rfl] at hx ⊢;simp (disch:=omega) only [am.l0,am.b0,aX (show (0:Int)<(d.1.length:Int) by omega),ae,aY,show Int.toNat 0=0 from rfl,hx,pT hk,iU k,ac,aZ (show ¬ (0:Int) > 0 by omega),aH,aG,sW];rw [show (bv (d.1.take 0):Int)+(x.2.1.size:Int)=((bv (d.1.take 0)+x.2.1.size:Nat):Int) by omega];cases ib x.1 <;> cases decide ((0:Int)≤x.2.2.1∧x.2.2.1≤(x.2.1.size:Int)) <;> rfl
     · have hm:x ∈ d.1:=by rw [← hx];exact eE (by omega)
       have hs:=xB hm;have ht:=CF (l:=d.1) (i:=i.toNat) (by omega) hx;have hle:=wH d.1 i.toNat;have hz:=s5 hm;rw [show Int.toNat (i+1)=i.toNat+1 by omega,ht];simp (disch:=omega) only [am.l0,am.b0,aX h1,ae,aY,hx,hy,pT hk,iU k,ac,aX (show i > 0 by omega),aH,aG,sW];rw [show (bv (d.1.take i.toNat):Int)+(x.2.1.size:Int)=((bv (d.1.take i.toNat)+x.2.1.size:Nat):Int) by omega];cases ib x.1 <;> cases decide ((0:Int)≤x.2.2.1∧x.2.2.1≤(x.2.1.size:Int)) <;> cases nS y.1 x.1 <;> rfl
def nl:ao→ByteArray→Int→Int
 | [],_,_ => -1
 | f::l,s,i=>bif seq f.1 s then i else nl l s (i+1)
def b8:ao→ByteArray→Option (Ty.d aF)
 | [],_=>none
 | f::l,s=>bif seq f.1 s then some f else b8 l s
theorem Ad:∀ (l:ao) (s:ByteArray) (i:Int),(b8 l s=none∧nl l s i = -1)∨(∃ f,b8 l s=some f∧i≤nl l s i∧nl l s i<i+(l.length:Int)∧l.getD (nl l s i-i).toNat (Ty.z aF)=f∧f ∈ l)
 | [],s,i => .inl ⟨rfl,rfl⟩
 | f::l,s,i=>by
  unfold nl b8;cases c:seq f.1 s with
  | true=>exact .inr ⟨f,rfl,Int.le_refl _,by rw [ae,kM];omega,by rw [ae,show (i-i).toNat=0 by omega];rfl,iF ..⟩
  | false =>
   rw [aH,aH];rcases Ad l s (i+1) with h | ⟨g,h1,h2,h3,h4,h5⟩
   · exact .inl h
   · refine .inr ⟨g,h1,by omega,by rw [kM];omega,?_,jF _ h5⟩;rw [show (nl l s (i+1)-i).toNat=(nl l s (i+1)-(i+1)).toNat+1 by omega];exact h4
theorem jW {k:Nat} (hk:2 ^ 50≤k) {d:Ty.d aA} (hl:d.1.length≤1099511627776) (s:ByteArray):bV.f k d s=some (nl d.1 s 0,()):=by
 unfold bV.f bV.t;refine iZ (L:=fun n i (_:Int)=>bV.l0 k n s d.1 d.1.length i) (R:=fun r j=>some (nl r s j,())) (Ty.z aF) d.1 (fun i j=>j=i) (fun n j hj=>?_) (fun n i j x rest h0 h1 hx hr hp ih=>?_) (n:=k) (s:=0) (by omega) rfl
 · simp (disch:=omega) only [bV.l0,bV.b0,aZ,aH,nl]
 · have ih:=ih (i+1) rfl;subst hp;simp (disch:=omega) only [bV.l0,bV.b0,aX h1,ae,aY,hx,aG,ih,nl];cases seq x.1 s <;> rfl
def aW (d:Ty.d aA) (s:ByteArray):ByteArray × Bool :=
 bif fZ d then (match b8 d.1 s with | none=>(⟨#[]⟩,false) | some f=>(f.2.1,true)) else (⟨#[]⟩,false)
theorem kz (d:Ty.d aA) (s:ByteArray):(aW d s).1.size≤bv d.1:=by
 unfold aW;cases fZ d with
 | false=>exact Nat.zero_le _
 | true =>
  rw [ae];rcases Ad d.1 s 0 with h | ⟨f,h1,_,_,_,h5⟩
  · rw [h.1];exact Nat.zero_le _
  · rw [h1];exact s5 h5
theorem jR {k:Nat} (hk:2 ^ 50≤k) {d:Ty.d aA} (hl:d.1.length≤1099511627776) (hu:bv d.1≤1099511627776) (hn:uN d.1≤1099511627776) (s:ByteArray) :
 bh.f k d s=some ((aW d s).1,((aW d s).2,())):=by
 unfold bh.f bh.t aW;rw [jW hk hl,ac];simp only [];rcases Ad d.1 s 0 with h | ⟨f,h1,h2,h3,h4,h5⟩
 · rw [h.1,h.2];cases fZ d <;> rfl
 · rw [h1,aZ (by omega),aH,fa hk hu hn,ac];cases fZ d with
   | false=>rfl
   | true =>simp only [g9,aH,ae];rw [aY h2 (by omega)];rw [Int.sub_zero] at h4;rw [h4]
def a_ (p:ByteArray) (n:Int):ByteArray:=bif decide ((1:Int)≤n∧n≤100000) then p++dp n else ⟨#[]⟩
def aD:ByteArray:=⟨#[115,101,103]⟩
theorem wQ (k:Nat) {p:ByteArray} (hp:p.size≤1000) (n:Int):jg.f k p n=some (a_ p n,()):=by
 unfold jg.f jg.t a_;rw [iU,ac];by_cases c:(1:Int)≤n∧n≤100000
 · have hz:=m0 (n:=n) (by omega) (by omega);rw [aX c];simp only [g9,aH,ae];rw [AX k (by omega) (by omega),ac,eZ (by show p.size+(dp n).size≤_;omega)]
 · rw [aZ c];rfl
theorem cP (k:Nat) (n:Int):ai.f k n=some (a_ aD n,()):=by unfold ai.f ai.t;rw [wQ k (by decide) n];rfl
structure Ey (d:Ty.d aA):Prop where
 l:d.1.length≤1073741824
 u:bv d.1≤1073741824
 n:uN d.1≤1073741824
end Go.Proofs.YteejjngdagmofaaGreatDoor.G
namespace Go.V
theorem zx:∀ a b c:List UInt8,Op.bytesLess a b=true→Op.bytesLess b c=true→Op.bytesLess a c=true
 | a,b,[],_,h2=>by cases b <;> simp [Op.bytesLess] at h2
 | [],b,z::c,_,_=>by simp [Op.bytesLess]
 | x::a,[],z::c,h1,_=>by simp [Op.bytesLess] at h1
 | x::a,y::b,z::c,h1,h2=>by
  simp only [Op.bytesLess] at h1 h2 ⊢;have ih:=zx a b c;simp only [Bool.or_eq_true,gY,decide_eq_true_eq,beq_iff_eq] at h1 h2 ⊢;rcases h1 with g1 | ⟨rfl,g1⟩
  · rcases h2 with g2 | ⟨rfl,g2⟩
    · exact Or.inl (UInt8.lt_trans g1 g2)
    · exact Or.inl g1
  · rcases h2 with g2 | ⟨rfl,g2⟩
    · exact Or.inl g2
    · exact Or.inr ⟨rfl,ih g1 g2⟩
theorem o9 {a b c:ByteArray} (h1:nS a b=true) (h2:nS b c=true):nS a c=true:=zx _ _ _ h1 h2
theorem ly (a:ByteArray):nS a a=false:=by
 have:=tu a a;rw [bB] at this;cases h:nS a a with
 | false=>rfl
 | true=>rw [h] at this;cases this
theorem LV {a b:ByteArray} (h:nS a b=true):nS b a=false:=by
 cases c:nS b a with
 | false=>rfl
 | true=>have:=o9 h c;rw [ly] at this;cases this
def cB (K:List ByteArray):Prop:=K.Pairwise (fun a b=>nS a b=true)
end Go.V
namespace Go.Proofs.YteejjngdagmofaaGreatDoor.G
open Go.V
def kD:ao→Ty.d aF→ao
 | [],f=>[f]
 | g::l,f=>bif nS f.1 g.1 then f::g::l else g::kD l f
def gP:ao→ByteArray→ao
 | [],_=>[]
 | g::l,s=>bif seq g.1 s then l else g::gP l s
def iT (h:Ty.d aF→Ty.d aF):ao→ByteArray→ao
 | [],_=>[]
 | g::l,s=>bif seq g.1 s then h g::l else g::iT h l s
def jC (d:Ty.d aA):Ty.d aA × Int :=
 bif !fZ d then (d,5) else bif d.2.2.2.1 then ((d.1,(d.2.1,(d.2.2.1,(true,())))),1) else bif (d.2.2.1==0) then ((d.1,(d.2.1,(d.2.2.1,(true,())))),1) else
 bif decide ((d.2.2.1:Int) > 0) then ((d.1,(d.2.1,(aU (d.2.2.1-1),d.2.2.2))),0) else (d,0)
def fA (d:Ty.d aA) (g:ao→Int→ao × Int):Ty.d aA × Int :=
 bif (jC d).2 != 0 then jC d else (((g d.1 d.2.1).1,(jC d).1.2),(g d.1 d.2.1).2)
def qK (s:ByteArray) (l:ao) (c:Int):ao × Int :=
 bif !ib s then (l,5) else bif (b8 l s).isSome then (l,4) else bif decide ((l.length:Int)≥130) then (l,2) else (kD l (s,(ByteArray.empty,(0,()))),0)
def rl (s t:ByteArray) (l:ao) (c:Int):ao × Int :=
 bif (b8 l s).isNone then (l,3) else bif decide ((t.size:Int) > aU (c-(bv l:Int))) then (l,2) else (iT (fun f=>(f.1,(f.2.1++t,f.2.2))) l s,0)
def qV (s:ByteArray) (l:ao) (c:Int):ao × Int :=
 bif (b8 l s).isNone then (l,3) else (iT (fun f=>(f.1,(f.2.1,((f.2.1.size:Int),f.2.2.2)))) l s,0)
def sA (a b:ByteArray) (l:ao) (c:Int):ao × Int :=
 bif !ib b then (l,5) else match b8 l a with
 | none=>(l,3)
 | some f=>bif seq a b then (l,0) else (kD (gP (gP l a) b) (b,f.2),0)
def rr (s:ByteArray) (l:ao) (c:Int):ao × Int :=
 bif (b8 l s).isNone then (l,3) else (gP l s,0)
def Hg (s:ByteArray) (n:Int) (l:ao) (c:Int):ao × Int :=
 match b8 l s with
 | none=>(l,3)
 | some f=>bif !decide (0≤n∧n≤(f.2.1.size:Int)) then (l,5) else (iT (fun f=>(f.1,(ByteArray.extract f.2.1 0 n.toNat,((if n<f.2.2.1 then n else f.2.2.1),f.2.2.2)))) l s,0)
def nh (d:Ty.d aA) (s:ByteArray):=fA d (qK s)
def h_ (d:Ty.d aA) (s t:ByteArray):=fA d (rl s t)
def cQ (d:Ty.d aA) (s:ByteArray):=fA d (qV s)
def uC (d:Ty.d aA) (a b:ByteArray):=fA d (sA a b)
def ui (d:Ty.d aA) (s:ByteArray):=fA d (rr s)
def qG (d:Ty.d aA) (s:ByteArray) (n:Int):=fA d (Hg s n)
theorem vD (d:Ty.d aA):(jC d).1.1=d.1:=by unfold jC;cases fZ d <;> cases d.2.2.2.1 <;> cases d.2.2.1==0 <;> cases decide ((d.2.2.1:Int) > 0) <;> rfl
theorem NS (d:Ty.d aA):(jC d).1.2.1=d.2.1:=by unfold jC;cases fZ d <;> cases d.2.2.2.1 <;> cases d.2.2.1==0 <;> cases decide ((d.2.2.1:Int) > 0) <;> rfl
theorem kp:∀ (l:ao) (s:ByteArray) (j:Int),(b8 l s=none∧nl l s j = -1∧gP l s=l∧∀ h,iT h l s=l) ∨
 (∃ n:Nat,n<l.length∧nl l s j=j+n∧b8 l s=some (l.getD n (Ty.z aF))∧l.take n++l.drop (n+1)=gP l s∧(l.getD n (Ty.z aF)).1=s∧(∀ h,l.set n (h (l.getD n (Ty.z aF)))=iT h l s))
 | [],s,j => .inl ⟨rfl,rfl,rfl,fun _=>rfl⟩
 | g::l,s,j=>by
  unfold nl b8 gP iT;cases c:seq g.1 s with
  | true =>refine .inr ⟨0,by rw [kM];omega,?_,rfl,rfl,cF.1 c,fun h=>rfl⟩;show j=j+((0:Nat):Int);omega
  | false =>
   simp only [aH];rcases kp l s (j+1) with ⟨h1,h2,h3,h4⟩ | ⟨n,h1,h2,h3,h4,h5,h6⟩
   · exact .inl ⟨h1,h2,by rw [h3],fun h=>by rw [h4]⟩
   · refine .inr ⟨n+1,by rw [kM];omega,by rw [h2];omega,h3,?_,h5,fun h=>?_⟩
     · rw [List.take_succ_cons,List.drop_succ_cons,List.cons_append,h4]
     · show g::l.set n (h (l.getD n (Ty.z aF)))=_;rw [h6]
def FO (f:Ty.d aF):Prop:=ib f.1=true∧LE.le (α:=Int) 0 f.2.2.1∧LE.le (α:=Int) f.2.2.1 f.2.1.size
def je (l:ao):List ByteArray:=l.map (·.1)
theorem HH:∀ (l:ao) (p:Option (Ty.d aF)),pB sW p l=true↔((∀ f ∈ l,FO f)∧cB (je l)∧(∀ q,p=some q→∀ f ∈ l,nS q.1 f.1=true))
 | [],p=>by
  constructor
  · intro _;exact ⟨fun f h=>(by cases h),List.Pairwise.nil,fun q _ f h=>(by cases h)⟩
  · intro _;rfl
 | g::l,p=>by
  have ih:=HH l (some g);unfold pB;rw [gY,ih];have hf:sW p g=true↔(FO g∧(∀ q,p=some q→nS q.1 g.1=true)):=by
   unfold sW FO;rw [gY,gY,decide_eq_true_eq];cases p with
   | none=>exact ⟨fun h=>⟨⟨h.1,h.2.1⟩,fun q hq=>(by cases hq)⟩,fun h=>⟨h.1.1,h.1.2,rfl⟩⟩
   | some q=>exact ⟨fun h=>⟨⟨h.1,h.2.1⟩,fun q' hq=>(by cases hq;exact h.2.2)⟩,fun h=>⟨h.1.1,h.1.2,h.2 q rfl⟩⟩
  rw [hf];constructor
  · rintro ⟨⟨h1,h2⟩,h3,h4,h5⟩
    refine ⟨fun f hf=>?_,?_,fun q hq f hf=>?_⟩
    · rcases List.mem_cons.1 hf with e | e
      · rw [e];exact h1
      · exact h3 f e
    · unfold cB je;rw [List.map_cons,List.pairwise_cons];refine ⟨fun x hx=>?_,h4⟩;obtain ⟨f,hf,rfl⟩:=List.mem_map.1 hx;exact h5 g rfl f hf
    · rcases List.mem_cons.1 hf with e | e
      · rw [e];exact h2 q hq
      · exact o9 (h2 q hq) (h5 g rfl f e)
  · rintro ⟨h1,h2,h3⟩
    unfold cB je at h2;rw [List.map_cons,List.pairwise_cons] at h2;refine ⟨⟨h1 g (iF ..),fun q hq=>h3 q hq g (iF ..)⟩,fun f hf=>h1 f (jF _ hf),h2.2,fun q hq f hf=>?_⟩;cases hq;exact h2.1 f.1 (List.mem_map.2 ⟨f,hf,rfl⟩)
structure DR (d:Ty.d aA):Prop where
 len:d.1.length≤130
 cap0:LE.le (α:=Int) 0 d.2.1
 cap1:LE.le (α:=Int) d.2.1 100000
 fu0:LE.le (α:=Int) (-1) d.2.2.1
 fu1:LE.le (α:=Int) d.2.2.1 100000
 use:LE.le (α:=Int) (bv d.1) d.2.1
 all:∀ f ∈ d.1,FO f
 keys:cB (je d.1)
theorem dH {d:Ty.d aA}:fZ d=true↔DR d:=by
 unfold fZ;rw [gY,gY,gY,gY,decide_eq_true_eq,decide_eq_true_eq,decide_eq_true_eq,decide_eq_true_eq,HH];constructor
 · rintro ⟨h1,⟨h2,h3⟩,⟨h4,h5⟩,h6,h7,h8,_⟩
   exact ⟨h1,h2,h3,h4,h5,h6,h7,h8⟩
 · intro h;exact ⟨h.len,⟨h.cap0,h.cap1⟩,⟨h.fu0,h.fu1⟩,h.use,h.all,h.keys,fun q hq=>(by cases hq)⟩
theorem Hv {s:ByteArray} (h:ib s=true):1≤s.size∧s.size≤12:=by unfold ib at h;rw [gY,decide_eq_true_eq] at h;exact h.2
theorem Gh:∀ l:ao,(∀ f ∈ l,FO f)→uN l≤12*l.length
 | [],_=>Nat.le_refl _
 | f::l,h=>by
  have:=Gh l fun g hg=>h g (jF _ hg)
  have:=(Hv (h f (iF ..)).1).2;rw [AA,kM];omega
theorem DR.sz {d:Ty.d aA} (h:DR d):Ey d:=by have h1:=h.len;have h2:=h.use;have h3:=h.cap1;have h4:=Gh d.1 h.all;exact ⟨by omega,by omega,by omega⟩
theorem F5 {l:ao} {f x:Ty.d aF}:x ∈ kD l f↔x=f∨x ∈ l:=by
 induction l with
 | nil=>simp [kD]
 | cons g l ih =>
  unfold kD;cases nS f.1 g.1
  · simp only [aH,List.mem_cons,ih];exact ⟨fun h=>h.elim (fun q => .inr (.inl q)) (fun q=>q.elim .inl (fun q => .inr (.inr q))),fun h=>h.elim (fun q => .inr (.inl q)) (fun q=>q.elim .inl (fun q => .inr (.inr q)))⟩
  · simp only [ae,List.mem_cons]
theorem qv:∀ (l:ao) (s:ByteArray),(gP l s).Sublist l
 | [],s=>List.Sublist.slnil
 | g::l,s=>by
  unfold gP;cases seq g.1 s
  · exact (qv l s).cons_cons g
  · exact (List.Sublist.refl l).cons g
theorem Ku {h:Ty.d aF→Ty.d aF} (hh:∀ f,(h f).1=f.1):∀ (l:ao) (s:ByteArray),je (iT h l s)=je l
 | [],s=>rfl
 | g::l,s=>by
  unfold iT;cases seq g.1 s
  · show g.1::je (iT h l s)=g.1::je l;rw [Ku hh l s]
  · show (h g).1::je l=g.1::je l;rw [hh]
theorem zm {h:Ty.d aF→Ty.d aF} (hh:∀ f,(h f).1=f.1) {l:ao} {s:ByteArray} (hk:cB (je l)):cB (je (iT h l s)):=by rw [Ku hh];exact hk
theorem rD {h:Ty.d aF→Ty.d aF}:∀ {l:ao} {s:ByteArray} {x:Ty.d aF},x ∈ iT h l s→x ∈ l∨∃ f,b8 l s=some f∧x=h f
 | [],s,x,hx => .inl hx
 | g::l,s,x,hx=>by
  unfold iT at hx;unfold b8;cases c:seq g.1 s with
  | true =>
   rw [c,ae] at hx;rcases List.mem_cons.1 hx with e | e
   · exact .inr ⟨g,rfl,e⟩
   · exact .inl (jF _ e)
  | false =>
   rw [c,aH] at hx;rcases List.mem_cons.1 hx with e | e
   · exact .inl (by rw [e];exact iF ..)
   · rcases rD e with q | ⟨f,q1,q2⟩
     · exact .inl (jF _ q)
     · exact .inr ⟨f,q1,q2⟩
theorem ox {h:Ty.d aF→Ty.d aF}:∀ {l:ao} {s:ByteArray} {f:Ty.d aF},b8 l s=some f→bv (iT h l s)+f.2.1.size=bv l+(h f).2.1.size
 | [],s,f,hf=>by cases hf
 | g::l,s,f,hf=>by
  unfold b8 at hf;unfold iT;cases c:seq g.1 s with
  | true =>rw [c] at hf;cases hf;rw [ae,eh,eh];omega
  | false =>rw [c] at hf;have:=ox (h:=h) hf;rw [aH,eh,eh];omega
theorem ru:∀ (l:ao) (f:Ty.d aF),bv (kD l f)=bv l+f.2.1.size
 | [],f=>by unfold kD;rw [eh,Ab,Nat.add_comm]
 | g::l,f=>by
  unfold kD;cases nS f.1 g.1
  · rw [aH,eh,eh,ru l f];omega
  · rw [ae,eh,eh];omega
theorem vQ:∀ {l:ao} {s:ByteArray} {f:Ty.d aF},b8 l s=some f→bv (gP l s)+f.2.1.size=bv l
 | [],s,f,hf=>by cases hf
 | g::l,s,f,hf=>by
  unfold b8 at hf;unfold gP;cases c:seq g.1 s with
  | true=>rw [c] at hf;cases hf;rw [ae,eh];omega
  | false =>rw [c] at hf;have:=vQ hf;rw [aH,eh,eh];omega
theorem pW (l:ao) (s:ByteArray):bv (gP l s)≤bv l:=by
 cases h:b8 l s with
 | some f=>have:=vQ h;omega
 | none =>
  rcases kp l s 0 with ⟨_,_,h3,_⟩ | ⟨n,_,_,h3,_⟩
  · rw [h3];exact Nat.le_refl _
  · rw [h] at h3;cases h3
theorem wV:∀ (l:ao) (f:Ty.d aF),(kD l f).length=l.length+1
 | [],f=>rfl
 | g::l,f=>by
  unfold kD;cases nS f.1 g.1
  · rw [aH,kM,wV l f,kM]
  · rw [ae,kM,kM]
theorem tp (h:Ty.d aF→Ty.d aF):∀ (l:ao) (s:ByteArray),(iT h l s).length=l.length
 | [],s=>rfl
 | g::l,s=>by
  unfold iT;cases seq g.1 s
  · rw [aH,kM,tp h l s,kM]
  · rw [ae,kM,kM]
theorem lS:∀ {l:ao} {s:ByteArray} {f:Ty.d aF},b8 l s=some f→f ∈ l∧f.1=s
 | [],s,f,h=>by cases h
 | g::l,s,f,h=>by
  unfold b8 at h;cases c:seq g.1 s with
  | true=>rw [c] at h;cases h;exact ⟨iF ..,cF.1 c⟩
  | false =>rw [c] at h;exact ⟨jF _ (lS h).1,(lS h).2⟩
theorem qE:∀ {l:ao} {s:ByteArray},b8 l s=none↔∀ f ∈ l,f.1≠s
 | [],s=>⟨fun _ f h=>(by cases h),fun _=>rfl⟩
 | g::l,s=>by
  unfold b8;cases c:seq g.1 s with
  | true =>
   constructor
   · intro h;cases h
   · intro h;exact absurd (cF.1 c) (h g (iF ..))
  | false =>
   rw [aH,qE];constructor
   · intro h f hf;rcases List.mem_cons.1 hf with e | e
     · rw [e];intro q;rw [H9 q] at c;cases c
     · exact h f e
   · intro h f hf;exact h f (jF _ hf)
theorem AM {f:Ty.d aF}:∀ {l:ao},cB (je l)→(∀ g ∈ l,g.1≠f.1)→cB (je (kD l f))
 | [],_,_=>by unfold kD;exact List.pairwise_singleton ..
 | g::l,h,hn=>by
  unfold cB je at h;rw [List.map_cons,List.pairwise_cons] at h;unfold kD;cases c:nS f.1 g.1 with
  | true =>
   rw [ae];unfold cB je;rw [List.map_cons,List.pairwise_cons];refine ⟨fun x hx=>?_,by rw [List.map_cons,List.pairwise_cons];exact h⟩;rw [List.map_cons] at hx;rcases List.mem_cons.1 hx with e | e
   · rw [e];exact c
   · exact o9 c (h.1 x e)
  | false =>
   rw [aH];have ih:=AM (f:=f) (l:=l) h.2 fun g' hg=>hn g' (jF _ hg)
   unfold cB je;rw [List.map_cons,List.pairwise_cons];refine ⟨fun x hx=>?_,ih⟩;obtain ⟨y,hy,rfl⟩:=List.mem_map.1 hx;rcases F5.1 hy with e | e
   · rw [e];have ht:=tu g.1 f.1;rw [c,jr (hn g (iF ..))] at ht;cases q:nS g.1 f.1 with
     | true=>rfl
     | false=>rw [q] at ht;cases ht
   · exact h.1 y.1 (List.mem_map.2 ⟨y,e,rfl⟩)
theorem tE {l m:ao} (h:m.Sublist l) (hk:cB (je l)):cB (je m):=List.Pairwise.sublist (h.map _) hk
theorem P5 {l:ao} (hk:cB (je l)) {s:ByteArray} {f:Ty.d aF} (h:b8 l s=some f):b8 (gP l s) s=none:=by
 induction l with
 | nil=>cases h
 | cons g l ih =>
  unfold cB je at hk;rw [List.map_cons,List.pairwise_cons] at hk;unfold b8 at h;unfold gP;cases c:seq g.1 s with
  | true =>rw [ae,qE];intro x hx e;have:=hk.1 x.1 (List.mem_map.2 ⟨x,hx,rfl⟩);rw [e,cF.1 c,ly] at this;cases this
  | false =>rw [c] at h;rw [aH];unfold b8;rw [c,aH];exact ih hk.2 h
theorem oh {l:ao} (hk:cB (je l)) (s:ByteArray):b8 (gP l s) s=none:=by
 cases h:b8 l s with
 | some f=>exact P5 hk h
 | none =>
  rcases kp l s 0 with ⟨h1,_,h3,_⟩ | ⟨n,_,_,h3,_⟩
  · rw [h3];exact h1
  · rw [h] at h3;cases h3
theorem v_ {l:ao} (hk:cB (je l)) {f:Ty.d aF} (h:f ∈ l):b8 l f.1=some f:=by
 induction l with
 | nil=>cases h
 | cons g l ih =>
  unfold cB je at hk;rw [List.map_cons,List.pairwise_cons] at hk;unfold b8;rcases List.mem_cons.1 h with e | e
  · rw [e,bB];rfl
  · have:=hk.1 f.1 (List.mem_map.2 ⟨f,e,rfl⟩);rw [jr (fun q=>by rw [q,ly] at this;cases this),aH];exact ih hk.2 e
def GR (g:ao→Int→ao × Int):Prop:=∀ l c,l.length≤130→(0:Int)≤c→c≤100000→(bv l:Int)≤c→(∀ f ∈ l,FO f)→cB (je l) →
 (g l c).1.length≤130∧(bv (g l c).1:Int)≤c∧(∀ f ∈ (g l c).1,FO f)∧cB (je (g l c).1)
theorem QR {d:Ty.d aA} (h:DR d):DR (jC d).1:=by
 have hd:=dH.2 h;have g0:=h.fu0;have g1:=h.fu1;unfold jC;rw [hd];cases c1:d.2.2.2.1 with
 | true=>exact ⟨h.len,h.cap0,h.cap1,h.fu0,h.fu1,h.use,h.all,h.keys⟩
 | false =>
  cases c2:d.2.2.1==0 with
  | true=>exact ⟨h.len,h.cap0,h.cap1,h.fu0,h.fu1,h.use,h.all,h.keys⟩
  | false =>
   by_cases c3:(d.2.2.1:Int) > 0
   · have e:∀ x:Int,x > 0→x≤100000 → -1≤aU (x-1)∧aU (x-1)≤100000:=fun x q1 q2=>by
      rw [aG (by omega) (by omega)];omega
     have e:=e d.2.2.1 c3 g1;rw [aX c3];exact ⟨h.len,h.cap0,h.cap1,e.1,e.2,h.use,h.all,h.keys⟩
   · rw [aZ c3];exact h
theorem tU {g:ao→Int→ao × Int} (hg:GR g) {d:Ty.d aA} (h:DR d):DR (fA d g).1:=by
 have hb:=QR h;unfold fA;cases c:(jC d).2 != 0 with
 | true=>exact hb
 | false =>have hk:(jC d).1.2.1=d.2.1:=NS d;obtain ⟨g1,g2,g3,g4⟩:=hg d.1 d.2.1 h.len h.cap0 h.cap1 h.use h.all h.keys;exact ⟨g1,hb.cap0,hb.cap1,hb.fu0,hb.fu1,by show (bv (g d.1 d.2.1).1:Int)≤(jC d).1.2.1;rw [hk];exact g2,g3,g4⟩
theorem RS (s:ByteArray):GR (qK s):=by
 intro l c h1 h2 h3 h4 h5 h6;unfold qK;cases hn:ib s with
 | false=>exact ⟨h1,h4,h5,h6⟩
 | true =>
  cases hs:(b8 l s).isSome with
  | true=>exact ⟨h1,h4,h5,h6⟩
  | false =>
   by_cases hl:(l.length:Int)≥130
   · rw [aX hl];exact ⟨h1,h4,h5,h6⟩
   · rw [aZ hl];have hnone:b8 l s=none:=by
      cases q:b8 l s with
      | none=>rfl
      | some f=>rw [q] at hs;cases hs
     refine ⟨by show (kD l _).length≤130;rw [wV];omega,by show (bv (kD l _):Int)≤c;rw [ru];exact h4,fun f hf=>?_,AM h6 (qE.1 hnone)⟩;rcases F5.1 hf with e | e
     · rw [e];exact ⟨hn,Int.le_refl _,by show (0:Int)≤_;omega⟩
     · exact h5 f e
theorem RP (s t:ByteArray):GR (rl s t):=by
 intro l c h1 h2 h3 h4 h5 h6;unfold rl;cases hs:b8 l s with
 | none=>exact ⟨h1,h4,h5,h6⟩
 | some f =>
  simp only [Option.isNone_some,aH];rw [aG (by omega) (by omega)];by_cases ht:(t.size:Int) > c-(bv l:Int)
  · rw [aX ht];exact ⟨h1,h4,h5,h6⟩
  · rw [aZ ht];have hu:=ox (h:=fun f=>(f.1,(f.2.1++t,f.2.2))) hs;have hz:(f.2.1++t).size=f.2.1.size+t.size:=ByteArray.size_append ..;simp only [hz] at hu;refine ⟨by show (iT _ l s).length≤130;rw [tp];exact h1,by show (bv (iT _ l s):Int)≤c;omega,fun x hx=>?_,zm (by intro f;rfl) h6⟩;rcases rD hx with q | ⟨y,q1,q2⟩
    · exact h5 x q
    · obtain ⟨a,b,c'⟩:=h5 y (lS q1).1;rw [q2];refine ⟨a,b,?_⟩;show LE.le (α:=Int) y.2.2.1 ((y.2.1++t).size:Int);have:(y.2.1++t).size=y.2.1.size+t.size:=ByteArray.size_append ..;omega
theorem R5 (s:ByteArray):GR (qV s):=by
 intro l c h1 h2 h3 h4 h5 h6;unfold qV;cases hs:b8 l s with
 | none=>exact ⟨h1,h4,h5,h6⟩
 | some f =>
  simp only [Option.isNone_some,aH];have hu:=ox (h:=fun f=>(f.1,(f.2.1,((f.2.1.size:Int),f.2.2.2)))) hs;refine ⟨by show (iT _ l s).length≤130;rw [tp];exact h1,by show (bv (iT _ l s):Int)≤c;simp only [] at hu;omega,fun x hx=>?_,zm (by intro f;rfl) h6⟩;rcases rD hx with q | ⟨y,q1,q2⟩
  · exact h5 x q
  · obtain ⟨a,b,c'⟩:=h5 y (lS q1).1;rw [q2];exact ⟨a,by show (0:Int)≤(y.2.1.size:Int);omega,Int.le_refl _⟩
theorem R9 (s:ByteArray):GR (rr s):=by
 intro l c h1 h2 h3 h4 h5 h6;unfold rr;cases hs:b8 l s with
 | none=>exact ⟨h1,h4,h5,h6⟩
 | some f =>have hd:=qv l s;have hu:=pW l s;exact ⟨Nat.le_trans hd.length_le h1,by show (bv (gP l s):Int)≤c;omega,fun x hx=>h5 x (hd.subset hx),tE hd h6⟩
theorem qN (s:ByteArray) {n:Nat} (h:n≤s.size):(ByteArray.extract s 0 n).size=n:=by rw [ByteArray.size_extract];omega
theorem R8 (s:ByteArray) (n:Int):GR (Hg s n):=by
 intro l c h1 h2 h3 h4 h5 h6;unfold Hg;cases hs:b8 l s with
 | none=>exact ⟨h1,h4,h5,h6⟩
 | some f =>
  simp only [];by_cases hn:0≤n∧n≤(f.2.1.size:Int)
  · rw [aX hn];have hu:=ox (h:=fun f=>(f.1,(ByteArray.extract f.2.1 0 n.toNat,((if n<f.2.2.1 then n else f.2.2.1),f.2.2.2)))) hs;have hz:=qN f.2.1 (n:=n.toNat) (by omega);simp only [hz] at hu;refine ⟨by show (iT _ l s).length≤130;rw [tp];exact h1,by show (bv (iT _ l s):Int)≤c;omega,fun x hx=>?_,zm (by intro f;rfl) h6⟩;rcases rD hx with q | ⟨y,q1,q2⟩
    · exact h5 x q
    · rw [hs] at q1;cases q1;obtain ⟨a,b,c'⟩:=h5 f (lS hs).1;rw [q2];refine ⟨a,?_,?_⟩
      · show (0:Int)≤if n<f.2.2.1 then n else f.2.2.1
        split <;> omega
      · show (if n<f.2.2.1 then n else f.2.2.1)≤((ByteArray.extract f.2.1 0 n.toNat).size:Int);rw [hz];split <;> omega
  · rw [aZ hn];exact ⟨h1,h4,h5,h6⟩
theorem S1 (a b:ByteArray):GR (sA a b):=by
 intro l c h1 h2 h3 h4 h5 h6;unfold sA;cases hn:ib b with
 | false=>exact ⟨h1,h4,h5,h6⟩
 | true =>
  simp only [g9,aH];cases hs:b8 l a with
  | none=>exact ⟨h1,h4,h5,h6⟩
  | some f =>
   simp only [];cases seq a b with
   | true=>exact ⟨h1,h4,h5,h6⟩
   | false =>
    simp only [aH];have hd:=qv l a;have hd2:=qv (gP l a) b;have hu:=vQ hs;have hu2:=pW (gP l a) b;have hk2:=tE (hd2.trans hd) h6;have hl:=kp l a 0;have hlen:(gP l a).length+1=l.length:=by
     rcases kp l a 0 with ⟨q,_⟩ | ⟨n,q1,_,_,q4,_⟩
     · rw [hs] at q;cases q
     · rw [← q4,rt,List.length_take,List.length_drop];omega
    have hlen2:=hd2.length_le;refine ⟨by rw [wV];omega,by rw [ru];show ((bv (gP (gP l a) b)+f.2.1.size:Nat):Int)≤c;omega,fun x hx=>?_,AM hk2 (qE.1 (oh (tE hd h6) b))⟩;rcases F5.1 hx with e | e
    · rw [e];exact ⟨hn,(h5 f (lS hs).1).2.1,(h5 f (lS hs).1).2.2⟩
    · exact h5 x ((hd2.trans hd).subset e)
theorem xY {d:Ty.d aA} (h:DR d) (s:ByteArray):DR (nh d s).1:=tU (RS s) h
theorem oP {d:Ty.d aA} (h:DR d) (s t:ByteArray):DR (h_ d s t).1:=tU (RP s t) h
theorem m9 {d:Ty.d aA} (h:DR d) (s:ByteArray):DR (cQ d s).1:=tU (R5 s) h
theorem O7 {d:Ty.d aA} (h:DR d) (a b:ByteArray):DR (uC d a b).1:=tU (S1 a b) h
theorem IJ {d:Ty.d aA} (h:DR d) (s:ByteArray):DR (ui d s).1:=tU (R9 s) h
theorem AO {d:Ty.d aA} (h:DR d) (s:ByteArray) (n:Int):DR (qG d s n).1:=tU (R8 s n) h
theorem set_set {l:ao} {n:Nat} (x y:Ty.d aF):(l.set n x).set n y=l.set n y:=by simp
theorem gi (k:Nat) {d:Ty.d aA} (hl:d.1.length≤1073741824):az.f k d=some (d,()):=by unfold az.f az.t;rw [dT (by omega) (by decide)]
theorem wI:∀ {l:ao} {a:ByteArray} {f:Ty.d aF},cB (je l)→b8 l a=some f→kD (gP l a) (a,f.2)=l
 | [],a,f,_,h=>by cases h
 | g::l,a,f,hk,h=>by
  have hk':(∀ x ∈ je l,nS g.1 x=true)∧cB (je l):=List.pairwise_cons.1 hk;unfold b8 at h;unfold gP;cases c:seq g.1 a with
  | true =>
   rw [c] at h;cases h;rw [ae];have e:=cF.1 c;subst e;cases l with
   | nil=>rfl
   | cons x l =>have:=hk'.1 x.1 (iF ..);unfold kD;rw [this];rfl
  | false =>
   rw [c] at h;rw [aH];have hm:=lS h;have h1:nS g.1 a=true:=by have:=hk'.1 f.1 (List.mem_map.2 ⟨f,hm.1,rfl⟩);rw [hm.2] at this;exact this
   unfold kD;rw [LV h1,aH,wI hk'.2 h]
theorem sT {k:Nat} (hk:2 ^ 50≤k) {d:Ty.d aA} (hl:d.1.length≤1073741824) (s:ByteArray):e_.f k d s=some ((gP d.1 s,d.2),()):=by
 unfold e_.f e_.t;rw [jW hk (by omega),ac];rcases kp d.1 s 0 with ⟨h1,h2,h3,_⟩ | ⟨n,h1,h2,h3,h4,_⟩
 · rw [h2,h3];simp only [];rw [aZ (by decide),aH]
 · rw [Int.zero_add] at h2;rw [h2,← h4];have e:aU ((n:Int)+1)=((n+1:Nat):Int):=by rw [aG (by omega) (by omega)];omega
   simp only [e,qX];rw [aX (by omega),ae,d7 (by omega) (by omega),dT (by rw [List.length_take];omega) (by decide),d7 (by omega) (by omega),dT (by rw [List.length_take,List.length_drop];omega) (by decide)]
theorem BH {k:Nat} (hk:2 ^ 50≤k) {d:Ty.d aA} (hl:d.1.length≤1073741824) (f:Ty.d aF) (hn:∀ g ∈ d.1,g.1≠f.1):d_.f k d f=some ((kD d.1 f,d.2),()):=by
 unfold d_.f d_.t;have key:=M_ (L:=fun n i (_:Unit)=>d_.l0 k n i d.1 d.2.1 d.2.2.1 d.2.2.2.1 f.1 f.2.1 f.2.2.1) (R:=fun i _=>some ((d.1.take i.toNat++kD (d.1.drop i.toNat) f,d.2),())) d.1.length (fun _ _=>True) (fun n _ _=>?_) (fun n i _ h0 h1 _ ih=>?_) k 0 () (by omega) (by omega) (by omega) trivial
 · rw [show (0:Int).toNat=0 from rfl,List.take_zero,List.nil_append,List.drop_zero] at key;exact key
 · simp only [d_.l0,d_.b0];rw [aZ (by omega),aH,qX,d7 (by omega) (by omega),dT (by rw [List.length_take];omega) (by decide),dT (by rw [List.length_take];omega) (by decide),d7 (by omega) (by omega),dT (by rw [rt,List.length_take,List.length_drop];simp only [List.length_singleton];omega) (by decide),List.drop_length,List.append_nil];rfl
 · have ih:=ih () trivial;have hlt:i.toNat<d.1.length:=by omega
   have e:d.1.drop i.toNat=d.1.getD i.toNat (Ty.z aF)::d.1.drop (i.toNat+1):=by rw [List.drop_eq_getElem_cons hlt];simp [List.getD,hlt]
   have hne:(d.1.getD i.toNat (Ty.z aF)).1≠f.1:=hn _ (eE hlt);have ht:=tu (d.1.getD i.toNat (Ty.z aF)).1 f.1;rw [jr hne,Bool.or_false] at ht;simp only [d_.l0,d_.b0];rw [aX h1,ae,aY h0 h1,aG (n:=i+1) (by omega) (by omega),ih];rw [show kD (d.1.drop i.toNat) f=bif nS f.1 (d.1.getD i.toNat (Ty.z aF)).1 then f::d.1.drop i.toNat else d.1.getD i.toNat (Ty.z aF)::kD (d.1.drop (i.toNat+1)) f by rw [e];rfl];rw [show nS (List.getD d.1 i.toNat (Ty.z aF)).1 f.1=!nS f.1 (d.1.getD i.toNat (Ty.z aF)).1 from ht];cases c:nS f.1 (d.1.getD i.toNat (Ty.z aF)).1 with
   | false =>rw [show (i+1).toNat=i.toNat+1 by omega,kv (z:=Ty.z aF) hlt,qY];rfl
   | true =>rw [g9,aH,ae,d7 h0 (by omega),dT (by rw [List.length_take];omega) (by decide),dT (by rw [List.length_take];omega) (by decide),d7 h0 (by omega),dT (by rw [rt,List.length_take,List.length_drop];simp only [List.length_singleton];omega) (by decide),qY];rfl
theorem rJ {k:Nat} (hk:2 ^ 50≤k) {d:Ty.d aA} (hl:d.1.length≤1073741824) (hu:bv d.1≤1073741824):fe.f k d=some ((bv d.1:Int),()):=by
 unfold fe.f fe.t;refine (iZ (L:=fun n i s=>fe.l0 k n s d.1 d.1.length i) (R:=fun r s=>some (s+(bv r:Int),())) (Ty.z aF) d.1 (fun i s=>0≤s∧s+(bv (d.1.drop i.toNat):Int)≤1099511627776) (fun n s hs=>?_) (fun n i s x rest h0 h1 hx hr hp ih=>?_) (n:=k) (s:=0) (by omega) ⟨by omega,by rw [show d.1.drop (Int.toNat 0)=d.1 from rfl];omega⟩).trans (by rw [Int.zero_add])
 · simp (disch:=omega) only [fe.l0,fe.b0,aZ,aH];show some (s,())=some (s+((0:Nat):Int),());rw [show s+((0:Nat):Int)=s by omega]
 · have hrest:d.1.drop (i+1).toNat=rest:=by
    have:=congrArg (List.drop 1) hr;rw [List.drop_drop,List.drop_one,List.tail_cons] at this;rw [show (i+1).toNat=i.toNat+1 by omega];exact this
   rw [hr,eh] at hp;have ih:=ih (s+(x.2.1.size:Int)) ⟨by omega,by rw [hrest];omega⟩;simp (disch:=omega) only [fe.l0,fe.b0,aX h1,ae,aY,hx,aG,ih];rw [show s+(x.2.1.size:Int)+(bv rest:Int)=s+((x.2.1.size+bv rest:Nat):Int) by omega];show _=some (s+((bv (x::rest):Nat):Int),());rw [eh]
theorem Ou {k:Nat} (hk:2 ^ 50≤k) {d:Ty.d aA} (hl:d.1.length≤1073741824) {s:ByteArray} (hs:s.size≤1099511627776) :
 fp.f k d s=some (((qK s d.1 d.2.1).1,d.2),(s,((qK s d.1 d.2.1).2,()))):=by
 unfold fp.f fp.t qK;rw [pT hk hs,ac];cases ib s with
 | false=>rfl
 | true =>
  simp only [g9,aH];rw [jW hk (by omega),ac];rcases kp d.1 s 0 with ⟨h1,h2,_⟩ | ⟨n,h1,h2,h3,_⟩
  · rw [h1,h2];simp only [Option.isSome_none,aH];rw [aZ (by decide),aH];by_cases cl:(d.1.length:Int)≥130
    · rw [aX cl];rfl
    · rw [aZ cl,aH,aH,BH hk hl _ (qE.1 h1),ac]
  · rw [h2,h3];simp only [Option.isSome_some,ae];rw [aX (by omega),ae]
theorem Oa {k:Nat} (hk:2 ^ 50≤k) {d:Ty.d aA} (hl:d.1.length≤1073741824) (hu:bv d.1≤1073741824) (s:ByteArray) {t:ByteArray} (ht:t.size≤1099511627776) :
 fo.f k d s t=some (((rl s t d.1 d.2.1).1,d.2),(s,(t,((rl s t d.1 d.2.1).2,())))):=by
 unfold fo.f fo.t rl;rw [jW hk (by omega),ac];rcases kp d.1 s 0 with ⟨h1,h2,_⟩ | ⟨n,h1,h2,h3,_,_,h6⟩
 · rw [h1,h2];simp only [Option.isNone_none,ae];rw [aX (by decide),ae]
 · rw [Int.zero_add] at h2;rw [h2,h3];simp only [Option.isNone_some,aH];rw [aZ (by omega),aH,rJ hk hl hu,ac];simp only [];cases decide ((t.size:Int) > aU (d.2.1-(bv d.1:Int))) with
   | true=>rfl
   | false =>have hm:=s5 (lS h3).1;rw [aH,aH,qX,aY (by omega) (by omega),eZ (Nat.le_trans (Nat.add_le_add (Nat.le_trans hm hu) ht) (by decide)),aY (by omega) (by omega),← h6]
theorem Og {k:Nat} (hk:2 ^ 50≤k) {d:Ty.d aA} (hl:d.1.length≤1073741824) (s:ByteArray) :
 iO.f k d s=some (((qV s d.1 d.2.1).1,d.2),(s,((qV s d.1 d.2.1).2,()))):=by
 unfold iO.f iO.t qV;rw [jW hk (by omega),ac];rcases kp d.1 s 0 with ⟨h1,h2,_⟩ | ⟨n,h1,h2,h3,_,_,h6⟩
 · rw [h1,h2];simp only [Option.isNone_none,ae];rw [aX (by decide),ae]
 · rw [Int.zero_add] at h2;rw [h2,h3];simp only [Option.isNone_some,aH];rw [aZ (by omega),aH,qX,aY (by omega) (by omega),aY (by omega) (by omega),← h6]
theorem NM {k:Nat} (hk:2 ^ 50≤k) {d:Ty.d aA} (hl:d.1.length≤1073741824) (s:ByteArray) :
 fm.f k d s=some (((rr s d.1 d.2.1).1,d.2),(s,((rr s d.1 d.2.1).2,()))):=by
 unfold fm.f fm.t rr;rw [jW hk (by omega),ac];rcases kp d.1 s 0 with ⟨h1,h2,_⟩ | ⟨n,h1,h2,h3,_⟩
 · rw [h1,h2];simp only [Option.isNone_none,ae];rw [aX (by decide),ae]
 · rw [Int.zero_add] at h2;rw [h2,h3];simp only [Option.isNone_some,aH];rw [aZ (by omega),aH,sT hk hl,ac]
theorem NY {k:Nat} (hk:2 ^ 50≤k) {d:Ty.d aA} (hl:d.1.length≤1073741824) (s:ByteArray) (m:Int) :
 eF.f k d s m=some (((Hg s m d.1 d.2.1).1,d.2),(s,(m,((Hg s m d.1 d.2.1).2,())))):=by
 unfold eF.f eF.t Hg;rw [jW hk (by omega),ac];rcases kp d.1 s 0 with ⟨h1,h2,_⟩ | ⟨n,h1,h2,h3,_,_,h6⟩
 · rw [h1,h2];simp only [];rw [aX (by decide),ae]
 · rw [Int.zero_add] at h2;rw [h2,h3];simp only [];rw [aZ (by omega),aH,qX,aY (by omega) (by omega),iU,ac];by_cases hm:0≤m∧m≤((d.1.getD n (Ty.z aF)).2.1.size:Int)
   · rw [aX hm];simp only [g9,aH];rw [d7 hm.1 hm.2,← h6];have g:∀ x z:Ty.d aF,(d.1.set n x).getD n z=x:=fun x z=>by simp [List.getD,h1]
     rw [g,List.set_set]
   · rw [aZ hm];rfl
theorem Nb {k:Nat} (hk:2 ^ 50≤k) {d:Ty.d aA} (hl:d.1.length≤1073741824) (hs:cB (je d.1)) (a:ByteArray) {b:ByteArray} (hb:b.size≤1099511627776) :
 ff.f k d a b=some (((sA a b d.1 d.2.1).1,d.2),(a,(b,((sA a b d.1 d.2.1).2,())))):=by
 unfold ff.f ff.t sA;rw [jW hk (by omega),ac,pT hk hb,ac];cases ib b with
 | false=>rfl
 | true =>
  simp only [g9,aH];rcases kp d.1 a 0 with ⟨h1,h2,_⟩ | ⟨n,h1,h2,h3,_,_,_⟩
  · rw [h1,h2,aX (by decide),ae]
  · have hd1:=qv d.1 a;have hd2:=qv (gP d.1 a) b;have l1:=hd1.length_le;have l2:=hd2.length_le;rw [Int.zero_add] at h2;rw [h2,h3];simp only [];rw [aZ (by omega),aH,aY (by omega) (by omega),sT hk hl,ac];simp only [];rw [sT hk (d:=(gP d.1 a,d.2)) (by show (gP d.1 a).length≤_;omega),ac];simp only [];rw [BH hk (d:=(gP (gP d.1 a) b,d.2)) (by show (gP (gP d.1 a) b).length≤_;omega) _ (qE.1 (oh (tE hd1 hs) b)),ac,qX];cases c:seq a b with
    | false=>rfl
    | true =>
     have e:=cF.1 c;subst e;have hg:gP (gP d.1 a) a=gP d.1 a:=by
      rcases kp (gP d.1 a) a 0 with ⟨_,_,g3,_⟩ | ⟨m,_,_,g3,_⟩
      · exact g3
      · rw [oh hs a] at g3;cases g3
     have hi:=wI hs h3;simp only [hg,ae];rw [hi]
theorem IK {k:Nat} (hk:2 ^ 50≤k) {d:Ty.d aA} (hd:Ey d) {s:ByteArray} (hs:s.size≤1099511627776):kH.f k d s=some ((nh d s).1,((nh d s).2,())):=by
 have hl:=hd.l;have hu:=hd.u;have hn:=hd.n;have h1:∀ b2,fp.f k (d.1,b2) s=_:=fun b2=>Ou hk (d:=(d.1,b2)) hl hs
 unfold kH.f kH.t gH.f gH.t nh fA jC;rw [gi k hl,ac,fa hk (by omega) (by omega),ac];simp only [h1,ac,show fp.f k d s=_ from h1 d.2];cases fZ d <;> cases d.2.2.2.1 <;> cases d.2.2.1==0 <;> cases decide ((d.2.2.1:Int) > 0) <;> rfl
theorem Iq {k:Nat} (hk:2 ^ 50≤k) {d:Ty.d aA} (hd:Ey d) (s:ByteArray) {t:ByteArray} (ht:t.size≤1099511627776):kE.f k d s t=some ((h_ d s t).1,((h_ d s t).2,())):=by
 have hl:=hd.l;have hu:=hd.u;have hn:=hd.n;have h1:∀ b2,fo.f k (d.1,b2) s t=_:=fun b2=>Oa hk (d:=(d.1,b2)) hl hu s ht
 unfold kE.f kE.t gK.f gK.t h_ fA jC;rw [gi k hl,ac,fa hk (by omega) (by omega),ac];simp only [h1,ac,show fo.f k d s t=_ from h1 d.2];cases fZ d <;> cases d.2.2.2.1 <;> cases d.2.2.1==0 <;> cases decide ((d.2.2.1:Int) > 0) <;> rfl
theorem I1 {k:Nat} (hk:2 ^ 50≤k) {d:Ty.d aA} (hd:Ey d) (s:ByteArray):mD.f k d s=some ((cQ d s).1,((cQ d s).2,())):=by
 have hl:=hd.l;have hu:=hd.u;have hn:=hd.n;have h1:∀ b2,iO.f k (d.1,b2) s=_:=fun b2=>Og hk (d:=(d.1,b2)) hl s
 unfold mD.f mD.t iC.f iC.t cQ fA jC;rw [gi k hl,ac,fa hk (by omega) (by omega),ac];simp only [h1,ac,show iO.f k d s=_ from h1 d.2];cases fZ d <;> cases d.2.2.2.1 <;> cases d.2.2.1==0 <;> cases decide ((d.2.2.1:Int) > 0) <;> rfl
theorem J9 {k:Nat} (hk:2 ^ 50≤k) {d:Ty.d aA} (hd:Ey d) (s:ByteArray):kI.f k d s=some ((ui d s).1,((ui d s).2,())):=by
 have hl:=hd.l;have hu:=hd.u;have hn:=hd.n;have h1:∀ b2,fm.f k (d.1,b2) s=_:=fun b2=>NM hk (d:=(d.1,b2)) hl s
 unfold kI.f kI.t gE.f gE.t ui fA jC;rw [gi k hl,ac,fa hk (by omega) (by omega),ac];simp only [h1,ac,show fm.f k d s=_ from h1 d.2];cases fZ d <;> cases d.2.2.2.1 <;> cases d.2.2.1==0 <;> cases decide ((d.2.2.1:Int) > 0) <;> rfl
theorem Hs {k:Nat} (hk:2 ^ 50≤k) {d:Ty.d aA} (hd:Ey d) (s:ByteArray) (m:Int):ir.f k d s m=some ((qG d s m).1,((qG d s m).2,())):=by
 have hl:=hd.l;have hu:=hd.u;have hn:=hd.n;have h1:∀ b2,eF.f k (d.1,b2) s m=_:=fun b2=>NY hk (d:=(d.1,b2)) hl s m
 unfold ir.f ir.t f_.f f_.t qG fA jC;rw [gi k hl,ac,fa hk (by omega) (by omega),ac];simp only [h1,ac,show eF.f k d s m=_ from h1 d.2];cases fZ d <;> cases d.2.2.2.1 <;> cases d.2.2.1==0 <;> cases decide ((d.2.2.1:Int) > 0) <;> rfl
theorem JM {k:Nat} (hk:2 ^ 50≤k) {d:Ty.d aA} (hd:Ey d) (a:ByteArray) {b:ByteArray} (hb:b.size≤1099511627776):kK.f k d a b=some ((uC d a b).1,((uC d a b).2,())):=by
 have hl:=hd.l;have hu:=hd.u;have hn:=hd.n;unfold kK.f kK.t gI.f gI.t uC fA jC;rw [gi k hl,ac,fa hk (by omega) (by omega),ac];cases c:fZ d with
 | false=>rfl
 | true =>
  have h1:∀ b2,ff.f k (d.1,b2) a b=_:=fun b2=>Nb hk (d:=(d.1,b2)) hl (dH.1 c).keys a hb
  simp only [h1,ac,show ff.f k d a b=_ from h1 d.2];cases d.2.2.2.1 <;> cases d.2.2.1==0 <;> cases decide ((d.2.2.1:Int) > 0) <;> rfl
theorem Ig (k:Nat) {n:Int} (h0:0≤n) (h1:n≤100000):jP.f k n=some (([],(n,(-1,(false,())))),()):=by unfold jP.f jP.t;rw [iU,ac,aX ⟨h0,h1⟩];rfl
def qO (lim:Int) (p:Option Int) (x:Int):Bool:=decide ((1:Int)≤x∧x≤lim)&&(match p with | none=>true | some y=>decide (y<x))
def dK (v:Ty.d cC):Bool:=decide ((1:Int)≤v.1∧v.1≤100000)&&(decide ((1:Int)≤(v.2.1.length:Int)∧(v.2.1.length:Int)≤60)&&pB (qO (aU (v.1-1))) none v.2.1)
theorem sG {k:Nat} (hk:2 ^ 50≤k) {v:Ty.d cC} (hl:v.2.1.length≤1099511627776):cw.f k v=some (dK v,()):=by
 unfold cw.f cw.t dK;refine (BM (L:=fun n i=>cw.l0 k n v.2.1 v.2.1.length i v.1 v.2.1) (Ty.z (.int .i64)) v.2.1 (qO (aU (v.1-1))) (some (decide ((1:Int)≤v.1∧v.1≤100000)&&decide ((1:Int)≤(v.2.1.length:Int)∧(v.2.1.length:Int)≤60),())) (some (false,())) (fun n=>?_) (fun n x h hx=>?_) (fun n i x y h0 h1 hx hy=>?_) (n:=k) (by omega)).trans
  (by cases pB (qO (aU (v.1-1))) none v.2.1 <;> cases decide ((1:Int)≤v.1∧v.1≤100000) <;> cases decide ((1:Int)≤(v.2.1.length:Int)∧(v.2.1.length:Int)≤60) <;> rfl)
 · simp (disch:=omega) only [cw.l0,cw.b0,aZ,aH,iU k,ac];cases decide ((1:Int)≤v.1∧v.1≤100000) <;> rfl
 · simp (disch:=omega) only [cw.l0,cw.b0,aX (show (0:Int)<(v.2.1.length:Int) by omega),ae,aY,hx,iU k,ac,aZ (show ¬ (0:Int) > 0 by omega),aH,aG (n:=(0:Int)+1),qO];cases decide ((1:Int)≤x∧x≤aU (v.1-1)) <;> rfl
 · simp (disch:=omega) only [cw.l0,cw.b0,aX h1,ae,aY,hx,iU k,ac,aX (show i > 0 by omega),aH,aG (n:=i+1),aG (n:=i-1),hy,qO];cases decide ((1:Int)≤x∧x≤aU (v.1-1)) with
   | false=>rfl
   | true =>
    by_cases q:y<x
    · rw [aX q,aZ (show ¬ y≥x from Int.not_le.2 q)];rfl
    · rw [aZ q,aX (show y≥x from Int.not_lt.1 q)];rfl
end Go.Proofs.YteejjngdagmofaaGreatDoor.G
namespace Go.V
theorem F4 (l:List Int):(bytesOf l).size=l.length:=by simp [bytesOf,ByteArray.size]
theorem QY {n m:Nat} (hn:n<4294967296) (hm:m<4294967296):aU (((BitVec.ofInt (IntKind.bits .i64) (n:Int) ^^^ BitVec.ofInt (IntKind.bits .i64) (m:Int)).toNat:Int))=((n ^^^ m:Nat):Int):=by have h:n ^^^ m<2 ^ 32:=Nat.xor_lt_two_pow (by omega) (by omega);show aU (((BitVec.ofInt 64 (n:Int) ^^^ BitVec.ofInt 64 (m:Int)).toNat:Int))=_;rw [BitVec.ofInt_natCast,BitVec.ofInt_natCast,BitVec.toNat_xor,BitVec.toNat_ofNat,BitVec.toNat_ofNat,Nat.mod_eq_of_lt (by omega),Nat.mod_eq_of_lt (by omega)];exact aG (by omega) (by omega)
theorem Qf {n m:Nat} (hn:n<4294967296) (hm:m<4294967296):IntKind.wrap .u32 (((BitVec.ofInt (IntKind.bits .u32) (n:Int) ^^^ BitVec.ofInt (IntKind.bits .u32) (m:Int)).toNat:Int))=((n ^^^ m:Nat):Int):=by have h:n ^^^ m<2 ^ 32:=Nat.xor_lt_two_pow (by omega) (by omega);show IntKind.wrap .u32 (((BitVec.ofInt 32 (n:Int) ^^^ BitVec.ofInt 32 (m:Int)).toNat:Int))=_;rw [BitVec.ofInt_natCast,BitVec.ofInt_natCast,BitVec.toNat_xor,BitVec.toNat_ofNat,BitVec.toNat_ofNat,Nat.mod_eq_of_lt (by omega),Nat.mod_eq_of_lt (by omega)];exact yh (by omega) (by omega)
theorem To {n b:Nat} (hn:n<4294967296) (hb:b<256):aU (((BitVec.ofInt (IntKind.bits .i64) ((n*256:Nat):Int) ||| BitVec.ofInt (IntKind.bits .i64) (b:Int)).toNat:Int))=((n*256+b:Nat):Int):=by
 have h:n*256 ||| b=n*256+b:=by have:=Nat.shiftLeft_add_eq_or_of_lt (i:=8) (b:=b) (by omega) n;rw [Nat.shiftLeft_eq,show (2:Nat) ^ 8=256 by decide] at this;omega
 show aU (((BitVec.ofInt 64 ((n*256:Nat):Int) ||| BitVec.ofInt 64 (b:Int)).toNat:Int))=_;rw [BitVec.ofInt_natCast,BitVec.ofInt_natCast,BitVec.toNat_or,BitVec.toNat_ofNat,BitVec.toNat_ofNat,Nat.mod_eq_of_lt (by omega),Nat.mod_eq_of_lt (by omega),h];exact aG (by omega) (by omega)
theorem TJ {n:Nat} (hn:n<4294967296):IntKind.wrap .u32 (((BitVec.ofInt (IntKind.bits .u32) (n:Int) &&& BitVec.ofInt (IntKind.bits .u32) 1).toNat:Int))=((n % 2:Nat):Int):=by show IntKind.wrap .u32 (((BitVec.ofInt 32 (n:Int) &&& BitVec.ofInt 32 ((1:Nat):Int)).toNat:Int))=_;rw [BitVec.ofInt_natCast,BitVec.ofInt_natCast,BitVec.toNat_and,BitVec.toNat_ofNat,BitVec.toNat_ofNat,Nat.mod_eq_of_lt (by omega),Nat.mod_eq_of_lt (show 1<2 ^ 32 by omega),Nat.and_one_is_mod];exact yh (by omega) (by omega)
theorem Sr {n:Nat} (hn:n<4294967296):IX .u32 (n:Int)=4294967295-(n:Int):=by unfold IX;show IntKind.wrap .u32 (((BitVec.allOnes 32 ^^^ BitVec.ofInt 32 (n:Int)).toNat:Int))=_;rw [BitVec.ofInt_natCast,BitVec.allOnes_xor,BitVec.toNat_not,BitVec.toNat_ofNat,Nat.mod_eq_of_lt (by omega)];rw [yh (by omega) (by omega)];omega
theorem nr (s:ByteArray):(⟨#[]⟩:ByteArray)++s=s:=by apply ByteArray.ext;simp [ByteArray.data_append]
theorem iR (s:ByteArray):s++(⟨#[]⟩:ByteArray)=s:=by apply ByteArray.ext;simp [ByteArray.data_append]
theorem bY (a b c:ByteArray):a++b++c=a++(b++c):=by apply ByteArray.ext;simp [ByteArray.data_append]
theorem gS (a b:ByteArray):nb (a++b)=nb a++nb b:=by unfold nb;rw [ByteArray.data_append,Array.toList_append,List.map_append]
theorem ss (s:ByteArray) (i j:Nat):nb (ByteArray.extract s i j)=((nb s).take j).drop i:=by unfold nb;simp [ByteArray.data_extract,List.map_take,List.map_drop];rw [List.drop_take]
theorem j7 (s:ByteArray) (n:Nat):nb (ByteArray.extract s n s.size)=(nb s).drop n:=by rw [ss,List.take_of_length_le (by rw [dD];omega)]
theorem gO (a t:ByteArray):ByteArray.extract (a++t) a.size (a++t).size=t:=jt (by rw [j7,gS,List.drop_left' (dD a)])
theorem AW (a t:ByteArray):ByteArray.extract (a++t) 0 a.size=a:=jt (by rw [ss,gS,List.take_left' (dD a),List.drop_zero])
theorem vX (s:ByteArray) {n:Nat} (h:n≤s.size):s=ByteArray.extract s 0 n++ByteArray.extract s n s.size:=jt (by rw [gS,j7,lC,List.take_append_drop])
theorem um {a b c:ByteArray} (h:a++b=a++c):b=c:=jt (by
 have:=congrArg nb h;rw [gS,gS] at this;exact List.append_cancel_left this)
theorem th {a b c d:ByteArray} (h:a++b=c++d) (hs:a.size=c.size):a=c∧b=d:=by have:=congrArg nb h;rw [gS,gS] at this;have:=List.append_inj this (by rw [dD,dD,hs]);exact ⟨jt this.1,jt this.2⟩
def rv:Nat→List Nat→Option (Nat × Nat)
 | 0,_=>none
 | _+1,[]=>none
 | d+1,b::l=>if b≥128 then (match rv d l with | some (a,n)=>if a=0 then none else some (b % 128+128*a,n+1) | none=>none) else some (b,1)
theorem O8:∀ (d a:Nat) (t:List Nat),a<128 ^ (d+1)→rv (d+1) (vl d a++t)=some (a,(vl d a).length)
 | 0,a,t,h=>by
  have:¬ a≥128:=by simpa using h
  simp [vl,rv,this]
 | d+1,a,t,h=>by
  unfold vl;by_cases c:a≥128
  · have ih:=O8 d (a/128) t (by rw [Nat.pow_succ] at h;omega);rw [if_pos c,List.cons_append,rv,if_pos (by omega),ih];simp only [];rw [if_neg (by omega),kM];congr 2;omega
  · rw [if_neg c,List.cons_append,rv,if_neg c];rfl
theorem tQ:∀ (d:Nat) (l:List Nat) (a n:Nat),(∀ x ∈ l,x<256)→rv (d+1) l=some (a,n)→l.take n=vl d a∧a<128 ^ (d+1)∧n=(vl d a).length∧n≤l.length∧1≤n∧n≤d+1
 | _,[],a,n,_,h=>by simp [rv] at h
 | 0,b::l,a,n,hb,h=>by
  unfold rv at h;by_cases c:b≥128
  · simp [c,rv] at h
  · simp [c] at h;obtain ⟨rfl,rfl⟩:=h;refine ⟨by simp [vl],by simpa using c,by simp [vl],by simp,by omega,by omega⟩
 | d+1,b::l,a,n,hb,h=>by
  unfold rv at h;by_cases c:b≥128
  · rw [if_pos c] at h;cases q:rv (d+1) l with
    | none=>rw [q] at h;simp at h
    | some p =>
     obtain ⟨a',n'⟩:=p;obtain ⟨h1,h2,h3,h4,h5,h6⟩:=tQ d l a' n' (fun x hx=>hb x (jF _ hx)) q;rw [q] at h;simp only [] at h;by_cases z:a'=0
     · simp [z] at h
     · rw [if_neg z] at h;simp only [Option.some.injEq,Prod.mk.injEq] at h;obtain ⟨rfl,rfl⟩:=h;have hb:=hb b (iF ..);have e1:(b % 128+128*a')/128=a':=by omega
       have e2:128+(b % 128+128*a') % 128=b:=by omega
       have hv:vl (d+1) (b % 128+128*a')=b::vl d a':=by rw [vl,if_pos (by omega),e1,e2]
       rw [hv];refine ⟨by rw [List.take_succ_cons,h1],by rw [Nat.pow_succ];omega,by rw [kM,h3],by rw [kM];omega,by omega,by omega⟩
  · rw [if_neg c] at h;simp only [Option.some.injEq,Prod.mk.injEq] at h;obtain ⟨rfl,rfl⟩:=h;have hv:vl (d+1) b=[b]:=by rw [vl,if_neg c]
    rw [hv];refine ⟨by simp,?_,by simp,by simp,by omega,by omega⟩;have:(128:Nat) ^ 1≤128 ^ (d+1+1):=Nat.pow_le_pow_right (by decide) (by omega);omega
theorem Sy {d a:Nat}:vl d a≠[]:=by
 cases d with
 | zero=>simp [vl]
 | succ d=>unfold vl;split <;> simp
theorem PQ (l:List Nat) (hb:∀ x ∈ l,x<256) (d n:Nat) (h0:1≤n) (h1:n≤d+1) (h2:n≤l.length):sC (l.take n)=true↔∃ a,rv (d+1) l=some (a,n):=by
 constructor
 · intro h;have e:=Ei d (l.take n) h (by rw [List.length_take];omega);have hd:uH (l.take n)<128 ^ (d+1):=Nat.lt_of_lt_of_le (Es _) (Nat.pow_le_pow_right (by decide) (by rw [List.length_take];omega));have:=O8 d (uH (l.take n)) (l.drop n) hd;rw [e,List.take_append_drop,List.length_take,Nat.min_eq_left h2] at this;exact ⟨_,this⟩
 · rintro ⟨a,h⟩
   obtain ⟨e1,e2,_⟩:=tQ d l a n hb h;rw [e1];exact (yw d a e2).1
theorem Rn {l:List Nat} (hb:∀ x ∈ l,x<256) {d a n:Nat} (h:rv (d+1) l=some (a,n)):a=uH (l.take n):=by obtain ⟨e1,e2,_⟩:=tQ d l a n hb h;rw [e1];exact (yw d a e2).2.1.symm
theorem xb (s:ByteArray):∀ x ∈ nb s,x<256:=fun _ h=>Qx h
theorem ap (a:Nat):1≤(bg a).size∧(bg a).size≤7:=by
 unfold bg;rw [F4,List.length_map];have h:∀ d a,(vl d a).length≤d+1:=by
  intro d
  induction d with
  | zero=>intro a;simp [vl]
  | succ d ih=>intro a;unfold vl;split <;> simp;have:=ih (a/128);omega
 have h2:=h 6 a;have h3:(vl 6 a).length≠0:=fun q=>Sy (List.length_eq_zero_iff.1 q)
 omega
theorem tB {a:Nat} (h:a<562949953421312):(vl 6 a).length=(bg a).size:=by rw [← wh h,dD]
theorem zc {a:Nat} (h:a<562949953421312) (t:ByteArray):rv 7 (nb (bg a++t))=some (a,(bg a).size):=by rw [gS,wh h,← tB h];exact O8 6 a _ (by rw [show (128:Nat) ^ (6+1)=562949953421312 by decide];exact h)
theorem QH {s:ByteArray} {a n:Nat} (h:rv 7 (nb s)=some (a,n)):∃ t,a<562949953421312∧n=(bg a).size∧s=bg a++t:=by obtain ⟨h1,h2,h3,h4,h5,h6⟩:=tQ 6 (nb s) a n (xb s) h;rw [show (128:Nat) ^ (6+1)=562949953421312 by decide] at h2;refine ⟨ByteArray.extract s n s.size,h2,by rw [h3,tB h2],jt ?_⟩;rw [gS,wh h2,j7,← h1,List.take_append_drop]
theorem kc (s:ByteArray):(∃ a t,a<562949953421312∧s=bg a++t)∨rv 7 (nb s)=none:=by
 cases h:rv 7 (nb s) with
 | none=>exact .inr rfl
 | some p =>obtain ⟨a,n⟩:=p;obtain ⟨t,h1,_,h3⟩:=QH h;exact .inl ⟨a,t,h1,h3⟩
theorem AC {a b:Nat} {s t:ByteArray} (ha:a<562949953421312) (hb:b<562949953421312) (h:bg a++s=bg b++t):a=b∧s=t:=by have h1:=zc ha s;rw [h,zc hb t] at h1;simp only [Option.some.injEq,Prod.mk.injEq] at h1;obtain ⟨rfl,_⟩:=h1;exact ⟨rfl,um h⟩
def Tc:Option (Nat × Nat)→Int × Int × Unit
 | some p=>((p.1:Int),((p.2:Int),()))
 | none=>(0,(0,()))
end Go.V
namespace Go.Proofs.YteejjngdagmofaaGreatDoor.G
open Go.V
theorem tT (k:Nat) (a b c:Int):dL.f k a b c=some (decide (b≤a∧a≤c),()):=by unfold dL.f dL.t;by_cases h:b≤a <;> simp [h]
theorem wR (k:Nat) (a b c:Int):aa.f k a b c=some (decide (b≤a∧a≤c),()):=by unfold aa.f aa.t;by_cases h:b≤a <;> simp [h]
def jK (a:Int):ByteArray:=if 0≤a∧a≤562949953421311 then bg a.toNat else ⟨#[]⟩
theorem bL (a:Int):(jK a).size≤7:=by
 unfold jK;split
 · exact (ap _).2
 · exact Nat.zero_le _
theorem dN {a:Nat} (h:a<562949953421312):jK (a:Int)=bg a:=by unfold jK;rw [if_pos (by omega),Int.toNat_natCast]
theorem Sg:∀ (d a n:Nat) (xs:List Int),a<128 ^ (d+1)→a<562949953421312→d<n→xs.length+d≤100→∀ k,
 fI.l0 k n (a:Int) xs=some (bytesOf (xs++(vl d a).map Int.ofNat),())∧fS.l0 k n (a:Int) xs=some (bytesOf (xs++(vl d a).map Int.ofNat),()):=by
 intro d
 induction d with
 | zero =>
  intro a n xs h1 h2 h3 h4 k;obtain ⟨n,rfl⟩:∃ q,n=q+1:=⟨n-1,by omega⟩;simp only [Nat.zero_add,Nat.pow_one] at h1;constructor
  · simp (disch:=first | omega | decide) only [fI.l0,fI.b0,aZ,aH,dT,qf];rfl
  · simp (disch:=first | omega | decide) only [fS.l0,fS.b0,aZ,aH,dT,qf];rfl
 | succ d ih =>
  intro a n xs h1 h2 h3 h4 k;obtain ⟨n,rfl⟩:∃ q,n=q+1:=⟨n-1,by omega⟩;unfold vl;by_cases c:a≥128
  · have hd:aU (Int.tdiv (a:Int) 128)=((a/128:Nat):Int):=aG (n:=((a/128:Nat):Int)) (by omega) (by omega);have hw:IntKind.wrap .u8 (aU (128+Int.tmod (a:Int) 128))=((128+a % 128:Nat):Int):=by
     have e:128+Int.tmod (a:Int) 128=((128+a % 128:Nat):Int):=by show 128+((a % 128:Nat):Int)=_;omega
     rw [e,aG (by omega) (by omega)];exact qf (by omega) (by omega)
    have ih:=ih (a/128) n (xs++[((128+a % 128:Nat):Int)]) (by rw [Nat.pow_succ] at h1;omega) (by omega) (by omega) (by rw [rt];show _+1+d≤_;omega) k;rw [if_pos c];rw [qY] at ih;constructor
    · simp (disch:=first | omega | decide) only [fI.l0,fI.b0,aX,ae,dT,hd,hw];exact ih.1
    · simp (disch:=first | omega | decide) only [fS.l0,fS.b0,aX,ae,dT,hd,Int.add_comm (Int.tmod (a:Int) 128) 128,hw];exact ih.2
  · rw [if_neg c];constructor
    · simp (disch:=first | omega | decide) only [fI.l0,fI.b0,aZ,aH,dT,qf];rfl
    · simp (disch:=first | omega | decide) only [fS.l0,fS.b0,aZ,aH,dT,qf];rfl
theorem mq {k:Nat} (hk:2 ^ 50≤k) (a:Int):fI.f k a=some (jK a,()):=by
 unfold fI.f fI.t jK;rw [tT,ac];by_cases h:0≤a∧a≤562949953421311
 · obtain ⟨n,rfl⟩:=Int.eq_ofNat_of_zero_le h.1;have hn:n<562949953421312:=by omega
   simp only [aX h,g9,aH,if_pos h,Int.toNat_natCast];exact (Sg 6 n k [] (by rw [show (128:Nat) ^ (6+1)=562949953421312 by decide];exact hn) hn (by omega) (by decide) k).1
 · simp only [aZ h,yO,ae,if_neg h]
theorem oU {k:Nat} (hk:2 ^ 50≤k) (a:Int):fS.f k a=some (jK a,()):=by
 unfold fS.f fS.t jK;rw [wR,ac];by_cases h:0≤a∧a≤562949953421311
 · obtain ⟨n,rfl⟩:=Int.eq_ofNat_of_zero_le h.1;have hn:n<562949953421312:=by omega
   simp only [aX h,g9,aH,if_pos h,Int.toNat_natCast];exact (Sg 6 n k [] (by rw [show (128:Nat) ^ (6+1)=562949953421312 by decide];exact hn) hn (by omega) (by decide) k).2
 · simp only [aZ h,yO,ae,if_neg h]
theorem Mi {s:ByteArray} {i:Nat} (h:i<s.size):(nb s).take (i+1)=(nb s).take i++[(nb s).getD i 0]:=by
 have h1:i<(nb s).length:=by rw [dD];exact h
 rw [List.take_succ_eq_append_getElem h1];simp [List.getD,h1]
theorem kN (s:ByteArray) (i:Nat):(nb s).getD i 0<256:=by
 by_cases h1:i<(nb s).length
 · rw [show (nb s).getD i 0=(nb s)[i] by simp [List.getD,h1]];exact Qx (List.getElem_mem h1)
 · simp [List.getD,List.getElem?_eq_none (by omega:(nb s).length≤i)]
theorem tf {s:ByteArray} {i:Nat} (h:i<s.size):(nb s).drop i=(nb s).getD i 0::(nb s).drop (i+1):=by
 have h1:i<(nb s).length:=by rw [dD];exact h
 rw [List.drop_eq_getElem_cons h1];simp [List.getD,h1]
def Ih (n:Nat):Nat:=if n % 2=1 then n/2 ^^^ 2197175160 else n/2
def Bu:Nat→Nat→Nat
 | 0,n=>n
 | d+1,n=>Bu d (Ih n)
theorem FA {n:Nat} (h:n<4294967296):Ih n<4294967296:=by
 unfold Ih;split
 · exact Nat.xor_lt_two_pow (n:=32) (by omega) (by omega)
 · omega
theorem F8:∀ {d n:Nat},n<4294967296→Bu d n<4294967296
 | 0,_,h=>h
 | d+1,_,h=>F8 (d:=d) (FA h)
def Ir:List Nat→Nat→Nat
 | [],n=>n
 | b::l,n=>Ir l (Bu 8 (n ^^^ b))
theorem K8:∀ {l:List Nat} {n:Nat},n<4294967296→(∀ b ∈ l,b<256)→Ir l n<4294967296
 | [],_,h,_=>h
 | b::l,n,h,hb=>by have:=hb b (iF ..);exact K8 (l:=l) (F8 (Nat.xor_lt_two_pow (n:=32) (by omega) (by omega))) (fun x hx=>hb x (jF _ hx))
def sw (s:ByteArray):Int:=4294967295-(Ir (nb s) 4294967295:Int)
theorem vu (s:ByteArray):0≤sw s∧sw s≤4294967295:=by have:=K8 (l:=nb s) (n:=4294967295) (by omega) (xb s);unfold sw;omega
theorem Jn {k:Nat} {L0:ByteArray→Int→Int→Option (Int × Unit)} {s:ByteArray} {i:Int}:∀ (d j m n:Nat),8-j=d→j≤8→d<m→n<4294967296→k6.l1 k L0 m s (n:Int) i (j:Int)=L0 s ((Bu d n:Nat):Int) (aU (i+1))
 | 0,j,m,n,hd,hj,hm,hn=>by
  obtain ⟨m,rfl⟩:∃ q,m=q+1:=⟨m-1,by omega⟩;have c:¬ ((j:Int)<8):=by omega
  simp only [k6.l1,k6.b1,decide_eq_false c,aH,Bu]
 | d+1,j,m,n,hd,hj,hm,hn=>by
  obtain ⟨m,rfl⟩:∃ q,m=q+1:=⟨m-1,by omega⟩;have c:((j:Int)<8):=by omega
  have ih:=Jn (k:=k) (L0:=L0) (s:=s) (i:=i) d (j+1) m (Ih n) (by omega) (by omega) (by omega) (FA hn);have hd2:aU (Int.tdiv (n:Int) 2)=((n/2:Nat):Int):=aG (n:=((n/2:Nat):Int)) (by omega) (by omega);have hx:=QY (n:=n/2) (m:=2197175160) (by omega) (by omega);have hm2:Int.tmod (n:Int) 2=((n % 2:Nat):Int):=rfl;have hj1:aU ((j:Int)+1)=((j+1:Nat):Int):=by rw [aG (by omega) (by omega)];omega
  simp only [k6.l1,k6.b1,decide_eq_true c,ae,hj1,hd2,hm2,Bu];rw [← ih];unfold Ih;by_cases q:n % 2=1
  · rw [if_pos q,q,← hx];rfl
  · rw [if_neg q,show n % 2=0 by omega];rfl
theorem KW {k:Nat} {L0:ByteArray→Int→Int→Option (Int × Unit)} {s:ByteArray} {i:Int}:∀ (d j m n:Nat),8-j=d→j≤8→d<m→n<4294967296→gN.l1 k L0 m s (n:Int) i (j:Int)=L0 s ((Bu d n:Nat):Int) (aU (i+1))
 | 0,j,m,n,hd,hj,hm,hn=>by
  obtain ⟨m,rfl⟩:∃ q,m=q+1:=⟨m-1,by omega⟩;have c:¬ ((j:Int)<8):=by omega
  simp only [gN.l1,gN.b1,decide_eq_false c,aH,Bu]
 | d+1,j,m,n,hd,hj,hm,hn=>by
  obtain ⟨m,rfl⟩:∃ q,m=q+1:=⟨m-1,by omega⟩;have c:((j:Int)<8):=by omega
  have ih:=KW (k:=k) (L0:=L0) (s:=s) (i:=i) d (j+1) m (Ih n) (by omega) (by omega) (by omega) (FA hn);have hd2:Int.fdiv (n:Int) (2 ^ (Int.toNat 1))=((n/2:Nat):Int):=by show Int.fdiv (n:Int) 2=_;rw [Int.fdiv_eq_ediv_of_nonneg _ (by omega)];omega
  have hx:=Qf (n:=n/2) (m:=2197175160) (by omega) (by omega);have hj1:aU ((j:Int)+1)=((j+1:Nat):Int):=by rw [aG (by omega) (by omega)];omega
  simp only [gN.l1,gN.b1,decide_eq_true c,ae,hj1,hd2,TJ hn,Bu];rw [← ih];unfold Ih;by_cases q:n % 2=1
  · rw [if_pos q,q,← hx];rfl
  · rw [if_neg q,show n % 2=0 by omega];rfl
theorem Rv {k:Nat} (hk:2 ^ 50≤k) {s:ByteArray} (hs:s.size≤1099511627776):∀ (d i n m:Nat),s.size-i=d→i≤s.size→n<4294967296→d<m →
 k6.l0 k m s (n:Int) (i:Int)=some (4294967295-(Ir ((nb s).drop i) n:Int),())∧gN.l0 k m s (n:Int) (i:Int)=some (4294967295-(Ir ((nb s).drop i) n:Int),())
 | 0,i,n,m,hd,hi,hn,hm=>by
  obtain ⟨m,rfl⟩:∃ q,m=q+1:=⟨m-1,by omega⟩;have c:¬ ((i:Int)<(s.size:Int)):=by omega
  have e1:aU (4294967295-(n:Int))=4294967295-(n:Int):=aG (by omega) (by omega);rw [List.drop_eq_nil_of_le (by rw [dD];omega)];constructor
  · simp only [k6.l0,k6.b0,decide_eq_false c,aH,e1,Ir]
  · simp only [gN.l0,gN.b0,decide_eq_false c,aH,Sr hn,e1,Ir]
 | d+1,i,n,m,hd,hi,hn,hm=>by
  obtain ⟨m,rfl⟩:∃ q,m=q+1:=⟨m-1,by omega⟩;have hlt:i<s.size:=by omega
  have c:((i:Int)<(s.size:Int)):=by omega
  have h0:=Int.natCast_nonneg i;have hb:=kN s i;have hat:=Cy hlt;rw [tf hlt];generalize (nb s).getD i 0=b at hb hat;have w1:aU (b:Int)=(b:Int):=aG (by omega) (by omega);have w2:IntKind.wrap .u32 (b:Int)=(b:Int):=yh (by omega) (by omega);have hnb:n ^^^ b<4294967296:=Nat.xor_lt_two_pow (n:=32) (by omega) (by omega);have up:aU ((i:Int)+1)=((i+1:Nat):Int):=by rw [aG (by omega) (by omega)];omega
  obtain ⟨s1,s2⟩:=Rv hk hs d (i+1) (Bu 8 (n ^^^ b)) m (by omega) (by omega) (F8 hnb) (by omega);constructor
  · simp only [k6.l0,k6.b0,decide_eq_true c,ae,aY h0 c,hat,w1,QY hn (show b<4294967296 by omega)];refine (Jn 8 0 k (n ^^^ b) (by omega) (by omega) (by omega) hnb).trans ?_;rw [up];exact s1
  · simp only [gN.l0,gN.b0,decide_eq_true c,ae,aY h0 c,hat,w2,Qf hn (show b<4294967296 by omega)];refine (KW 8 0 k (n ^^^ b) (by omega) (by omega) (by omega) hnb).trans ?_;rw [up];exact s2
theorem JW {k:Nat} (hk:2 ^ 50≤k) {s:ByteArray} (hs:s.size≤1099511627776):k6.f k s=some (sw s,()):=by have:=(Rv hk hs s.size 0 4294967295 k (by omega) (by omega) (by omega) (by omega)).1;rw [List.drop_zero] at this;exact this
theorem ux {k:Nat} (hk:2 ^ 50≤k) {s:ByteArray} (hs:s.size≤1099511627776):gN.f k s=some (sw s,()):=by have:=(Rv hk hs s.size 0 4294967295 k (by omega) (by omega) (by omega) (by omega)).2;rw [List.drop_zero] at this;exact this
def eW (n:Nat):ByteArray:=bytesOf [((n/16777216 % 256:Nat):Int),((n/65536 % 256:Nat):Int),((n/256 % 256:Nat):Int),((n % 256:Nat):Int)]
theorem mn (n:Nat):(eW n).size=4:=rfl
theorem KC (n:Nat):nb (eW n)=[n/16777216 % 256,n/65536 % 256,n/256 % 256,n % 256] :=
 Gt (l:=[n/16777216 % 256,n/65536 % 256,n/256 % 256,n % 256]) (by simp;omega)
theorem Io {k:Nat} (hk:2 ^ 50≤k) {n:Nat} (h1:n<4294967296):gD.f k (n:Int) 4=some (eW n,()):=by
 have sz1:∀ x:Int,(bytesOf [x]).size=1:=fun x=>rfl
 have st:∀ (q m:Nat) (t:ByteArray) (j:Nat),m<4294967296→j<4→t.size≤100→gD.l0 k (q+1) (m:Int) 4 t (j:Int)=gD.l0 k q ((m/256:Nat):Int) 4 (bytesOf [((m % 256:Nat):Int)]++t) ((j+1:Nat):Int):=fun q m t j hm hj ht=>by
  have wd:aU (Int.tdiv (m:Int) 256)=((m/256:Nat):Int):=aG (n:=((m/256:Nat):Int)) (by omega) (by omega);have wm:IntKind.wrap .u8 (Int.tmod (m:Int) 256)=((m % 256:Nat):Int):=qf (n:=((m % 256:Nat):Int)) (by omega) (by omega);have wj:aU ((j:Int)+1)=((j+1:Nat):Int):=by rw [aG (by omega) (by omega)];omega
  simp (disch:=omega) only [gD.l0,gD.b0,aX,ae,wd,wm,wj];rw [eZ (by rw [sz1];omega)]
 unfold gD.f gD.t;rw [tT,ac];simp only [show decide ((1:Int)≤4∧(4:Int)≤7)=true by decide,g9,aH,aZ (show ¬ ((n:Int)<0) by omega)];obtain ⟨q,hq⟩:∃ q,k=q+5:=⟨k-5,by omega⟩;refine (congrArg (fun z=>gD.l0 k z (n:Int) 4 ⟨#[]⟩ 0) hq).trans ?_;refine (st (q+4) n _ 0 h1 (by omega) (by decide)).trans ?_;refine (st (q+3) (n/256) _ 1 (by omega) (by omega) (by rw [ByteArray.size_append,sz1];decide)).trans ?_;refine (st (q+2) (n/256/256) _ 2 (by omega) (by omega) (by rw [ByteArray.size_append,ByteArray.size_append,sz1,sz1];decide)).trans ?_;refine (st (q+1) (n/256/256/256) _ 3 (by omega) (by omega) (by rw [ByteArray.size_append,ByteArray.size_append,ByteArray.size_append,sz1,sz1,sz1];decide)).trans ?_;have c:¬ ((((3+1:Nat)):Int)<4):=by omega
 have c2:¬ (((n/256/256/256/256:Nat):Int) > 0):=by omega
 simp only [gD.l0,gD.b0,aZ c,aZ c2,aH];unfold eW;congr 2;rw [show n/256/256/256=n/16777216 by omega,show n/256/256=n/65536 by omega];apply ByteArray.ext;simp [bytesOf,ByteArray.data_append]
theorem Hu {k:Nat} (hk:2 ^ 50≤k) {n:Nat} (h1:n<4294967296):dV.f k (n:Int) 4=some (eW n,()):=by
 have st:∀ (q j p:Nat) (i':Int) (xs:List Int),j≤3→p=2 ^ (8*j)→i'=(j:Int)-1→xs.length≤100→dV.l0 k (q+1) (n:Int) (j:Int) xs=dV.l0 k q (n:Int) i' (xs++[((n/p % 256:Nat):Int)]):=fun q j p i' xs hj hp hi hx=>by
  have e8:aU (8*(j:Int))=((8*j:Nat):Int):=by rw [aG (by omega) (by omega)];omega
  have e1:aU ((j:Int)-1)=i':=by rw [hi];exact aG (by omega) (by omega)
  have emin:min (8*j) (IntKind.bits .i64)=8*j:=by have:IntKind.bits .i64=64:=rfl;rw [this];omega
  have ew:IntKind.wrap .u8 (Int.fdiv (n:Int) (2 ^ (8*j)))=((n/p % 256:Nat):Int):=by
   have e2:((2:Int) ^ (8*j))=((p:Nat):Int):=by rw [hp,Int.natCast_pow];rfl
   rw [e2,Int.fdiv_eq_ediv_of_nonneg _ (by omega),← Int.natCast_ediv];generalize n/p=z;unfold IntKind.wrap;simp [IntKind.bits,IntKind.signed]
  simp (disch:=first | omega | decide) only [dV.l0,dV.b0,aX,ae,e8,dT,e1,qX,emin,ew];rw [aZ (by omega),aH]
 unfold dV.f dV.t;rw [wR,ac];have c0:¬ (aU (8*4)<0):=by decide
 simp only [show decide ((1:Int)≤4∧(4:Int)≤7)=true by decide,g9,aH,aZ c0,show aU (aU (1*2 ^ min (Int.toNat (aU (8*4))) (IntKind.bits .i64))-1)=4294967295 by decide,wR,ac];rw [aX (show (0:Int)≤(n:Int)∧(n:Int)≤4294967295 by omega)];simp only [g9,aH,show aU ((4:Int)-1)=((3:Nat):Int) by decide];obtain ⟨q,hq⟩:∃ q,k=q+5:=⟨k-5,by omega⟩;refine (congrArg (fun z=>dV.l0 k z (n:Int) ((3:Nat):Int) []) hq).trans ?_;refine (st (q+4) 3 16777216 ((2:Nat):Int) _ (by omega) (by decide) (by decide) (by decide)).trans ?_;refine (st (q+3) 2 65536 ((1:Nat):Int) _ (by omega) (by decide) (by decide) (by simp)).trans ?_;refine (st (q+2) 1 256 ((0:Nat):Int) _ (by omega) (by decide) (by decide) (by simp)).trans ?_;refine (st (q+1) 0 1 (-1) _ (by omega) (by decide) (by decide) (by simp)).trans ?_;simp only [dV.l0,dV.b0,show decide ((-1:Int)≥0)=false by decide,aH,Nat.div_one];rfl
def vh (a:Int):ByteArray:=eW a.toNat
theorem gu (a:Int):(vh a).size=4:=rfl
theorem vw {k:Nat} (hk:2 ^ 50≤k) {a:Int} (h0:0≤a) (h1:a≤4294967295):gD.f k a 4=some (vh a,()):=by obtain ⟨n,rfl⟩:=Int.eq_ofNat_of_zero_le h0;exact Io hk (by omega)
theorem qw {k:Nat} (hk:2 ^ 50≤k) {a:Int} (h0:0≤a) (h1:a≤4294967295):dV.f k a 4=some (vh a,()):=by obtain ⟨n,rfl⟩:=Int.eq_ofNat_of_zero_le h0;exact Hu hk (by omega)
theorem A9 (s:ByteArray):(∃ x t,x<4294967296∧s=eW x++t)∨s.size<4:=by
 by_cases c:s.size<4
 · exact .inr c
 · left;have h0:=tf (s:=s) (i:=0) (by omega);have h1:=tf (s:=s) (i:=1) (by omega);have h2:=tf (s:=s) (i:=2) (by omega);have h3:=tf (s:=s) (i:=3) (by omega);have b0:=kN s 0;have b1:=kN s 1;have b2:=kN s 2;have b3:=kN s 3;rw [h1,h2,h3,List.drop_zero] at h0;generalize (nb s).getD 0 0=x0 at *;generalize (nb s).getD 1 0=x1 at *;generalize (nb s).getD 2 0=x2 at *;generalize (nb s).getD 3 0=x3 at *;refine ⟨((x0*256+x1)*256+x2)*256+x3,ByteArray.extract s 4 s.size,by omega,jt ?_⟩;rw [gS,KC,j7,h0];simp only [List.cons_append,List.nil_append,List.drop_succ_cons,List.drop_zero,List.cons.injEq,and_true];refine ⟨?_,?_,?_,?_⟩ <;> omega
theorem yL (x:Nat) (t:ByteArray):nb (eW x++t)=(x/16777216 % 256)::(x/65536 % 256)::(x/256 % 256)::(x % 256)::nb t:=by rw [gS,KC];rfl
theorem nG (x:Nat) (t:ByteArray):(eW x++t).size=4+t.size:=by rw [ByteArray.size_append];rfl
theorem EK (k:Nat) (s:ByteArray):iS.f k s=some (decide (1≤(s.size:Int)∧(s.size:Int)≤8),()):=by unfold iS.f iS.t;rw [tT];rfl
theorem kO (k:Nat) (s:ByteArray):dU.f k s=some (decide (1≤(s.size:Int)∧(s.size:Int)≤8),()):=by unfold dU.f dU.t;rw [wR];rfl
def bN (a:Ty.d bQ):Bool :=
 bif a.1==1||a.1==4 then decide (1≤(a.2.2.1.size:Int)∧(a.2.2.1.size:Int)≤8)&&(decide ((a.2.2.2.1.size:Int)≤24)&&((a.2.2.2.2.1==0)&&((a.2.2.2.2.2.1==0)&&decide (1≤a.2.1∧a.2.1≤1000000))))
 else bif a.1==2 then decide (1≤(a.2.2.1.size:Int)∧(a.2.2.1.size:Int)≤8)&&(seq a.2.2.2.1 ⟨#[]⟩&&((a.2.2.2.2.1==0)&&((a.2.2.2.2.2.1==0)&&decide (1≤a.2.1∧a.2.1≤1000000))))
 else bif a.1==3 then seq a.2.2.1 ⟨#[]⟩&&(seq a.2.2.2.1 ⟨#[]⟩&&(decide (0≤a.2.2.2.2.1∧a.2.2.2.2.1≤8)&&(decide (0≤a.2.2.2.2.2.1∧a.2.2.2.2.2.1≤4294967295)&&decide (1≤a.2.1∧a.2.1≤1000000))))
 else bif a.1==5 then seq a.2.2.1 ⟨#[]⟩&&(seq a.2.2.2.1 ⟨#[]⟩&&(decide (0≤a.2.2.2.2.1∧a.2.2.2.2.1≤20)&&(decide (0≤a.2.2.2.2.2.1∧a.2.2.2.2.2.1≤4294967295)&&decide (0≤a.2.1∧a.2.1≤1000000))))
 else false
theorem M8 (s:ByteArray):seq s ByteArray.empty=seq s ⟨#[]⟩:=rfl
theorem ii (k:Nat) (a:Ty.d bQ):gM.f k a=some (bN a,()):=by
 obtain ⟨ty,tx,key,tt,n,sm,u⟩:=a;unfold gM.f gM.t bN;simp only [wR,kO,ac,bB,M8];change Int at ty tx n sm;change ByteArray at key tt;generalize decide (1≤(key.size:Int)∧(key.size:Int)≤8)=K;generalize decide ((tt.size:Int)≤24)=L;generalize decide (1≤tx∧tx≤1000000)=T1;generalize decide (0≤tx∧tx≤1000000)=T0;generalize decide (0≤n∧n≤8)=N1;generalize decide (0≤n∧n≤20)=N2;generalize decide (0≤sm∧sm≤4294967295)=S;generalize (n==0)=Z1;generalize (sm==0)=Z2;generalize seq key ⟨#[]⟩=E1;generalize seq tt ⟨#[]⟩=E2;by_cases h1:ty=1
 · subst h1;simp;cases K <;> cases L <;> cases T1 <;> cases Z1 <;> cases Z2 <;> rfl
 by_cases h4:ty=4
 · subst h4;simp;cases K <;> cases L <;> cases T1 <;> cases Z1 <;> cases Z2 <;> rfl
 by_cases h2:ty=2
 · subst h2;simp;cases K <;> cases E2 <;> cases T1 <;> cases Z1 <;> cases Z2 <;> rfl
 by_cases h3:ty=3
 · subst h3;simp;cases E1 <;> cases E2 <;> cases T1 <;> cases N1 <;> cases S <;> rfl
 by_cases h5:ty=5
 · subst h5;simp;cases E1 <;> cases E2 <;> cases T0 <;> cases N2 <;> cases S <;> rfl
 have b1:(ty==1)=false:=pG h1;have b2:(ty==2)=false:=pG h2;have b3:(ty==3)=false:=pG h3;have b4:(ty==4)=false:=pG h4;have b5:(ty==5)=false:=pG h5;have b6:(ty != 5)=true:=bne_iff_ne.2 h5;simp only [b1,b2,b3,b4,b5,b6,Bool.or_false,aH,ae]
theorem FG (k:Nat) (a:Ty.d bQ):oj.f k a=some (bN a,()):=by
 obtain ⟨ty,tx,key,tt,n,sm,u⟩:=a;unfold oj.f oj.t bN;simp only [tT,EK,ac];change Int at ty tx n sm;change ByteArray at key tt;have q:decide (1≤tx∧tx≤1000000)=(decide (0≤tx∧tx≤1000000)&&!(tx==0)):=by rw [Bool.eq_iff_iff];simp;omega
 rw [q];generalize decide (1≤(key.size:Int)∧(key.size:Int)≤8)=K;generalize decide ((tt.size:Int)≤24)=L;generalize decide (0≤tx∧tx≤1000000)=T0;generalize (tx==0)=T;generalize decide (0≤n∧n≤8)=N1;generalize decide (0≤n∧n≤20)=N2;generalize decide (0≤sm∧sm≤4294967295)=S;generalize (n==0)=Z1;generalize (sm==0)=Z2;generalize seq key ⟨#[]⟩=E1;generalize seq tt ⟨#[]⟩=E2;by_cases h1:ty=1
 · subst h1;simp;cases T0 <;> cases T <;> cases K <;> cases L <;> cases Z1 <;> cases Z2 <;> rfl
 by_cases h4:ty=4
 · subst h4;simp;cases T0 <;> cases T <;> cases K <;> cases L <;> cases Z1 <;> cases Z2 <;> rfl
 by_cases h2:ty=2
 · subst h2;simp;cases T0 <;> cases T <;> cases K <;> cases E2 <;> cases Z1 <;> cases Z2 <;> rfl
 by_cases h3:ty=3
 · subst h3;simp;cases T0 <;> cases T <;> cases E1 <;> cases E2 <;> cases N1 <;> cases S <;> rfl
 by_cases h5:ty=5
 · subst h5;simp;cases T0 <;> cases T <;> cases E1 <;> cases E2 <;> cases N2 <;> cases S <;> rfl
 have b1:(ty==1)=false:=pG h1;have b2:(ty==2)=false:=pG h2;have b3:(ty==3)=false:=pG h3;have b4:(ty==4)=false:=pG h4;have b5:(ty==5)=false:=pG h5;have b6:(ty != 5)=true:=bne_iff_ne.2 h5;simp only [b1,b2,b3,b4,b5,b6,Bool.or_false,aH,ae];cases T0 <;> cases T <;> rfl
def jG (s:ByteArray):ByteArray:=jK (s.size:Int)++s
theorem j9 (s:ByteArray):(jG s).size≤7+s.size:=by unfold jG;have:=bL (s.size:Int);rw [ByteArray.size_append];omega
def aE (a:Ty.d bQ):ByteArray :=
 if bN a=true then
  if a.1=1∨a.1=4 then jK a.1++(jK a.2.1++(jG a.2.2.1++jG a.2.2.2.1))
  else if a.1=2 then jK a.1++(jK a.2.1++jG a.2.2.1)
  else jK a.1++(jK a.2.1++(jK a.2.2.2.2.1++vh a.2.2.2.2.2.1))
 else ⟨#[]⟩
theorem nR {a:Ty.d bQ} (h:bN a=true) :
 ((a.1=1∨a.1=4)∧1≤a.2.2.1.size∧a.2.2.1.size≤8∧a.2.2.2.1.size≤24∧a.2.2.2.2.1=0∧a.2.2.2.2.2.1=0∧1≤a.2.1∧a.2.1≤1000000) ∨
 (a.1=2∧1≤a.2.2.1.size∧a.2.2.1.size≤8∧a.2.2.2.1=⟨#[]⟩∧a.2.2.2.2.1=0∧a.2.2.2.2.2.1=0∧1≤a.2.1∧a.2.1≤1000000) ∨
 ((a.1=3∨a.1=5)∧a.2.2.1=⟨#[]⟩∧a.2.2.2.1=⟨#[]⟩∧0≤a.2.2.2.2.1∧a.2.2.2.2.1≤20∧0≤a.2.2.2.2.2.1∧a.2.2.2.2.2.1≤4294967295∧0≤a.2.1∧a.2.1≤1000000):=by
 obtain ⟨kd,bt,key,val,cn,sm,u⟩:=a;change Int at kd bt cn sm;change ByteArray at key val;unfold bN at h;simp only [] at h ⊢;by_cases c:kd=1∨kd=4
 · have b:(kd==1||kd==4)=true:=by rcases c with c | c <;> rw [c] <;> rfl
   rw [b,ae] at h;simp only [gY,decide_eq_true_eq,beq_iff_eq] at h;exact .inl ⟨c,by omega,by omega,by omega,h.2.2.1,h.2.2.2.1,h.2.2.2.2⟩
 · have b1:(kd==1)=false:=pG fun h=>c (.inl h)
   have b4:(kd==4)=false:=pG fun h=>c (.inr h)
   simp only [b1,b4,Bool.or_false,aH] at h;cases b2:(kd==2) with
   | true =>rw [b2,ae] at h;simp only [gY,decide_eq_true_eq,beq_iff_eq,cF] at h;exact .inr (.inl ⟨eq_of_beq b2,by omega,by omega,h.2.1,h.2.2.1,h.2.2.2.1,h.2.2.2.2⟩)
   | false =>
    rw [b2,aH] at h;cases b3:(kd==3) with
    | true =>rw [b3,ae] at h;simp only [gY,decide_eq_true_eq,cF] at h;exact .inr (.inr ⟨.inl (eq_of_beq b3),h.1,h.2.1,h.2.2.1.1,Int.le_trans h.2.2.1.2 (by decide),h.2.2.2.1.1,h.2.2.2.1.2,Int.le_trans (by decide) h.2.2.2.2.1,h.2.2.2.2.2⟩)
    | false =>
     rw [b3,aH] at h;cases b5:(kd==5) with
     | true =>rw [b5,ae] at h;simp only [gY,decide_eq_true_eq,cF] at h;exact .inr (.inr ⟨.inr (eq_of_beq b5),h.1,h.2.1,h.2.2.1.1,h.2.2.1.2,h.2.2.2.1.1,h.2.2.2.1.2,h.2.2.2.2.1,h.2.2.2.2.2⟩)
     | false =>rw [b5,aH] at h;cases h
theorem yv {kd b cn sm:Int} {key val:ByteArray} (h:bN (kd,(b,(key,(val,(cn,(sm,()))))))=true) :
 ((kd=1∨kd=4)∧1≤key.size∧key.size≤8∧val.size≤24∧cn=0∧sm=0∧1≤b∧b≤1000000) ∨
 (kd=2∧1≤key.size∧key.size≤8∧val=⟨#[]⟩∧cn=0∧sm=0∧1≤b∧b≤1000000) ∨
 ((kd=3∨kd=5)∧key=⟨#[]⟩∧val=⟨#[]⟩∧0≤cn∧cn≤20∧0≤sm∧sm≤4294967295∧0≤b∧b≤1000000):=nR h
theorem fh {k:Nat} (hk:2 ^ 50≤k) (a:Ty.d bQ):iH.f k a=some (aE a,()):=by
 unfold iH.f iH.t aE;rw [FG,ac];cases hr:bN a with
 | false=>rfl
 | true =>
  have v1:=bL a.1;have v2:=bL a.2.1;have v3:=bL (a.2.2.1.size:Int);have v4:=bL (a.2.2.2.1.size:Int);have v5:=bL a.2.2.2.2.1;have v6:=gu a.2.2.2.2.2.1;simp only [g9,aH,if_true,jG];rcases nR hr with ⟨c,h⟩ | ⟨c,h⟩ | ⟨c,h⟩
  · rw [if_pos c];rcases c with c | c
    · have b1:(a.1==1)=true:=by rw [c];rfl
      simp (disch:=first | omega | (simp only [ByteArray.size_append];omega)) only [mq hk,ac,b1,ae,eZ,bY]
    · have b1:(a.1==1)=false:=by rw [c];rfl
      have b4:(a.1==4)=true:=by rw [c];rfl
      simp (disch:=first | omega | (simp only [ByteArray.size_append];omega)) only [mq hk,ac,b1,b4,ae,aH,eZ,bY]
  · have b1:(a.1==1)=false:=by rw [c];rfl
    have b4:(a.1==4)=false:=by rw [c];rfl
    have b2:(a.1==2)=true:=by rw [c];rfl
    rw [if_neg (show ¬ (a.1=1∨a.1=4) by rw [c];decide),if_pos c];simp (disch:=first | omega | (simp only [ByteArray.size_append];omega)) only [mq hk,ac,b1,b2,b4,ae,aH,eZ,bY]
  · have b1:(a.1==1)=false:=by rcases c with c | c <;> rw [c] <;> rfl
    have b4:(a.1==4)=false:=by rcases c with c | c <;> rw [c] <;> rfl
    have b2:(a.1==2)=false:=by rcases c with c | c <;> rw [c] <;> rfl
    rw [if_neg (show ¬ (a.1=1∨a.1=4) by rcases c with c | c <;> rw [c] <;> decide),if_neg (show ¬ a.1=2 by rcases c with c | c <;> rw [c] <;> decide)];obtain ⟨_,_,_,_,z1,z2,_⟩:=h;simp (disch:=first | assumption | omega | (simp only [ByteArray.size_append];omega)) only [mq hk,vw hk,ac,b1,b2,b4,ae,aH,eZ,bY]
theorem C0 {k:Nat} (hk:2 ^ 50≤k) (x y:Int):dM.f k [x,y]=some (jK x++jK y,()):=by have v1:=bL x;have v2:=bL y;obtain ⟨q,hq⟩:∃ q,k=q+3:=⟨k-3,by omega⟩;refine (congrArg (fun z=>dM.l0 k z ⟨#[]⟩ [x,y] 2 0) hq).trans ?_;rw [show dM.l0 k (q+3) ⟨#[]⟩ [x,y] 2 0=(fS.f k x).bind (fun r1=>jm ⟨#[]⟩ r1.1 (dM.l0 k (q+2) (⟨#[]⟩++r1.1) [x,y] 2 1)) from rfl];rw [oU hk,ac];simp only [];rw [eZ (by rw [show (⟨#[]⟩:ByteArray).size=0 from rfl];omega),nr];rw [show dM.l0 k (q+2) (jK x) [x,y] 2 1=(fS.f k y).bind (fun r1=>jm (jK x) r1.1 (dM.l0 k (q+1) (jK x++r1.1) [x,y] 2 2)) from rfl];rw [oU hk,ac];simp only [];rw [eZ (by omega)];rfl
theorem lj {k:Nat} (hk:2 ^ 50≤k) {s:ByteArray} (hs:s.size≤1099511627776):du.f k s=some (jG s,()):=by have:=bL (s.size:Int);unfold du.f du.t jG;simp (disch:=omega) only [oU hk,ac,eZ]
theorem oH {k:Nat} (hk:2 ^ 50≤k) (a:Ty.d bQ):g6.f k a=some (aE a,()):=by
 unfold g6.f g6.t aE;rw [ii,ac];cases hr:bN a with
 | false=>rfl
 | true =>
  have v1:=bL a.1;have v2:=bL a.2.1;have v3:=j9 a.2.2.1;have v4:=j9 a.2.2.2.1;have v5:=bL a.2.2.2.2.1;have v6:=gu a.2.2.2.2.2.1;simp only [g9,aH,if_true,C0 hk,ac];rcases nR hr with ⟨c,h⟩ | ⟨c,h⟩ | ⟨c,h⟩
  · rw [if_pos c];rcases c with c | c
    · have b1:(a.1==1)=true:=by rw [c];rfl
      simp (disch:=first | omega | (simp only [ByteArray.size_append];omega)) only [lj hk,ac,b1,ae,eZ,bY]
    · have b1:(a.1==1)=false:=by rw [c];rfl
      have b4:(a.1==4)=true:=by rw [c];rfl
      simp (disch:=first | omega | (simp only [ByteArray.size_append];omega)) only [lj hk,ac,b1,b4,ae,aH,eZ,bY]
  · have b1:(a.1==1)=false:=by rw [c];rfl
    have b4:(a.1==4)=false:=by rw [c];rfl
    have b2:(a.1==2)=true:=by rw [c];rfl
    rw [if_neg (show ¬ (a.1=1∨a.1=4) by rw [c];decide),if_pos c];simp (disch:=first | omega | (simp only [ByteArray.size_append];omega)) only [lj hk,ac,b1,b2,b4,ae,aH,eZ,bY]
  · have b1:(a.1==1)=false:=by rcases c with c | c <;> rw [c] <;> rfl
    have b4:(a.1==4)=false:=by rcases c with c | c <;> rw [c] <;> rfl
    have b2:(a.1==2)=false:=by rcases c with c | c <;> rw [c] <;> rfl
    rw [if_neg (show ¬ (a.1=1∨a.1=4) by rcases c with c | c <;> rw [c] <;> decide),if_neg (show ¬ a.1=2 by rcases c with c | c <;> rw [c] <;> decide)];obtain ⟨_,_,_,_,z1,z2,_⟩:=h;simp (disch:=first | assumption | omega | (simp only [ByteArray.size_append];omega)) only [oU hk,qw hk,ac,b1,b2,b4,ae,aH,eZ,bY]
theorem lO (a:Ty.d bQ):(aE a).size≤60:=by
 unfold aE;split
 · rename_i hr;have v1:=bL a.1;have v2:=bL a.2.1;have v3:=j9 a.2.2.1;have v4:=j9 a.2.2.2.1;have v5:=bL a.2.2.2.2.1;have v6:=gu a.2.2.2.2.2.1;rcases nR hr with ⟨c,h⟩ | ⟨c,h⟩ | ⟨c,h⟩
   · rw [if_pos c];simp only [ByteArray.size_append];omega
   · rw [if_neg (show ¬ (a.1=1∨a.1=4) by rw [c];decide),if_pos c];simp only [ByteArray.size_append];omega
   · rw [if_neg (show ¬ (a.1=1∨a.1=4) by rcases c with c | c <;> rw [c] <;> decide),if_neg (show ¬ a.1=2 by rcases c with c | c <;> rw [c] <;> decide)];simp only [ByteArray.size_append];omega
 · exact Nat.zero_le _
def wT:List (Ty.d bQ)→ByteArray
 | []=>⟨#[]⟩
 | a::l=>aE a++wT l
def Gi (l:List (Ty.d bQ)):Int:=sw (wT l)
theorem Jx (l:List (Ty.d bQ)):0≤Gi l∧Gi l≤4294967295:=vu _
theorem rF {k:Nat} (hk:2 ^ 50≤k) {l:List (Ty.d bQ)} (hl:l.length≤1073741824):gC.f k l=some (Gi l,()):=by
 refine (iZ (L:=fun n i s=>gC.l0 k n s l l.length i) (R:=fun l s=>some (sw (s++wT l),())) (Ty.z bQ) l (fun i s=>(s.size:Int)≤60*i) (fun n s hs=>?_) (fun n i s x rest h0 h1 hx hr hp ih=>?_) (n:=k) (s:=⟨#[]⟩) (by omega) (by decide)).trans (by rw [nr];rfl)
 · simp (disch:=omega) only [gC.l0,gC.b0,aZ,aH,ux hk,ac,wT,iR]
 · have hz:=lO x;simp (disch:=omega) only [gC.l0,gC.b0,aX,ae,aY,hx,oH hk,ac,eZ,aG];rw [ih _ (by rw [ByteArray.size_append];omega),wT,bY]
theorem Du {s:ByteArray} (hs:s.size≤4611686018427387904) (k:Nat):∀ (d i acc n:Nat),i+d=7→acc<128 ^ i→d<n →
 co.l0 k n s (acc:Int) (i:Int)=some (match rv d ((nb s).drop i) with
  | some (a,m)=>if a=0∧0<i then (0,(0,())) else (((acc+a*128 ^ i:Nat):Int),(((i+m:Nat):Int),()))
  | none=>(0,(0,()))):=by
 intro d
 induction d with
 | zero =>intro i acc n h1 h2 h3;obtain ⟨n,rfl⟩:∃ q,n=q+1:=⟨n-1,by omega⟩;simp (disch:=omega) only [co.l0,co.b0,aZ,aH,rv]
 | succ d ih =>
  intro i acc n h1 h2 h3;obtain ⟨n,rfl⟩:∃ q,n=q+1:=⟨n-1,by omega⟩;by_cases hlt:i<s.size
  case neg =>rw [List.drop_eq_nil_of_le (by rw [dD];omega)];simp (disch:=omega) only [co.l0,co.b0,aX,aZ,ae,aH,rv]
  have hb:=kN s i;have hat:=Cy hlt;have ih:=ih (i+1);rw [tf hlt];generalize (nb s).getD i 0=b at hb hat;have e8:aU (7*(i:Int))=((7*i:Nat):Int):=by rw [aG (by omega) (by omega)];omega
  have emin:min (7*i) (IntKind.bits .i64)=7*i:=by have:IntKind.bits .i64=64:=rfl;rw [this];omega
  have ep:(2:Int) ^ (7*i)=((128 ^ i:Nat):Int):=by rw [Int.pow_mul,Int.natCast_pow];rfl
  have hp:128 ^ i≤128 ^ 6:=Nat.pow_le_pow_right (by decide) (by omega);rw [show (128:Nat) ^ 6=4398046511104 by decide] at hp;have hps:128 ^ (i+1)=128 ^ i*128:=Nat.pow_succ ..;have hb2:(b % 128)*128 ^ i≤127*128 ^ i:=Nat.mul_le_mul (by omega) (Nat.le_refl _);have ev:aU ((acc:Int)+aU (Int.tmod (b:Int) 128*2 ^ (7*i)))=((acc+b % 128*128 ^ i:Nat):Int):=by
   have e:Int.tmod (b:Int) 128*2 ^ (7*i)=((b % 128*128 ^ i:Nat):Int):=by rw [ep,Int.natCast_mul];rfl
   rw [e,aG (n:=((b % 128*128 ^ i:Nat):Int)) (by omega) (by omega),aG (by omega) (by omega)];omega
  have eb:aU ((b:Nat):Int)=(b:Int):=aG (by omega) (by omega);have ei:aU ((i:Int)+1)=((i+1:Nat):Int):=by rw [aG (by omega) (by omega)];omega
  have ih:=ih (acc+b % 128*128 ^ i) n (by omega) (by omega) (by omega);simp (disch:=omega) only [co.l0,co.b0,aX,ae,aY,hat,eb,e8,qX,emin,ev,ei];rw [aZ (by omega),aH];by_cases c:b≥128
  · rw [aX (show (b:Int)≥128 by omega),ae,ih,rv,if_pos c];cases q:rv d ((nb s).drop (i+1)) with
    | none=>rfl
    | some p =>
     obtain ⟨a,m⟩:=p;simp only [];by_cases z:a=0
     · simp [z]
     · have hm:a*128 ^ (i+1)=128*a*128 ^ i:=by rw [hps,Nat.mul_comm (128 ^ i),← Nat.mul_assoc,Nat.mul_comm a]
       rw [if_neg (by omega),if_neg z];simp only [];rw [if_neg (by omega)];have e1:acc+b % 128*128 ^ i+a*128 ^ (i+1)=acc+(b % 128+128*a)*128 ^ i:=by rw [hm,Nat.add_mul];omega
       have e2:i+1+m=i+(m+1):=by omega
       rw [e1,e2]
  · have em:b % 128=b:=by omega
    rw [aZ (show ¬ (b:Int)≥128 by omega),aH,rv,if_neg c,em];by_cases z:b=0
    · subst z;rw [show ((((0:Nat):Int)==0))=true from rfl,ae];by_cases hi:0<i
      · rw [aX (show (i:Int) > 0 by omega),ae];simp [hi]
      · rw [aZ (show ¬ (i:Int) > 0 by omega),aH];simp [hi]
    · rw [show ((b:Int)==0)=false from pG (by omega),aH];simp [z]
theorem p9 {k:Nat} (hk:2 ^ 50≤k) {s:ByteArray} (hs:s.size≤4611686018427387904):co.f k s=some (Tc (rv 7 (nb s))):=by
 unfold co.f co.t;refine (Du hs k 7 0 0 k (by omega) (by decide) (by omega)).trans ?_;rw [List.drop_zero];cases rv 7 (nb s) with
 | none=>rfl
 | some p=>simp [Tc]
theorem Kg {k:Nat} {L0:ByteArray→Int→Option (Int × Int × Unit)} {s:ByteArray} {n:Nat}:∀ (j x m:Nat),j<m→j≤s.size→j≤7→(x+1)*128 ^ j≤562949953421312 →
 bW.l1 k L0 m s (n:Int) (x:Int) ((j:Int)-1)=bW.l1 k L0 (m-j) s (n:Int) ((x*128 ^ j+uH ((nb s).take j):Nat):Int) (-1)
 | 0,x,m,hm,hs,h7,hx=>by simp [uH]
 | j+1,x,m,hm,hs,h7,hx=>by
  obtain ⟨m,rfl⟩:∃ q,m=q+1:=⟨m-1,by omega⟩;have hj:j<s.size:=by omega
  have hb:=kN s j;rw [Nat.pow_succ,← Nat.mul_assoc,Nat.mul_comm _ 128,← Nat.mul_assoc] at hx;have hpos:1≤128 ^ j:=Nat.one_le_pow _ _ (by decide);have hx2:(128*(x+1))*1≤(128*(x+1))*128 ^ j:=Nat.mul_le_mul (Nat.le_refl _) hpos;have hat:=Cy hj;have e0:((j+1:Nat):Int)-1=(j:Int):=by omega
  have c:(j:Int)≥0:=by omega
  have c2:(j:Int)<(s.size:Int):=by omega
  rw [Mi hj,GO,List.length_take,dD,Nat.min_eq_left (by omega)];generalize (nb s).getD j 0=b at hb hat ⊢;have w1:aU (((b:Nat):Int))=(b:Int):=aG (by omega) (by omega);have w2:aU ((x:Int)*128)=(x:Int)*128:=aG (by omega) (by omega);have w3:aU ((x:Int)*128+Int.tmod (b:Int) 128)=((x*128+b % 128:Nat):Int):=by
   have e:(x:Int)*128+Int.tmod (b:Int) 128=((x*128+b % 128:Nat):Int):=by show (x:Int)*128+((b % 128:Nat):Int)=_;omega
   rw [e];exact aG (by omega) (by omega)
  have w4:aU ((j:Int)-1)=(j:Int)-1:=aG (by omega) (by omega);have hx3:(x*128+b % 128+1)*128 ^ j≤(128*(x+1))*128 ^ j:=Nat.mul_le_mul (by omega) (Nat.le_refl _);have ih:=Kg (k:=k) (L0:=L0) (s:=s) (n:=n) j (x*128+b % 128) m (by omega) (by omega) (by omega) (by omega);rw [e0];simp only [bW.l1,bW.b1,decide_eq_true c,ae,aY c c2,hat,w1,w2,w3,w4];rw [ih,show m+1-(j+1)=m-j by omega];congr 2;rw [Nat.pow_succ,Nat.add_mul,Nat.mul_assoc,Nat.mul_comm 128 (128 ^ j),Nat.mul_comm (b % 128)];omega
theorem Tn {s:ByteArray} {n:Nat} (h7:n≤7):uH ((nb s).take n)<562949953421312:=by
 have:=Es ((nb s).take n);have h1:((nb s).take n).length≤7:=by rw [List.length_take];omega
 have h2:(128:Nat) ^ ((nb s).take n).length≤128 ^ 7:=Nat.pow_le_pow_right (by decide) h1;rw [show (128:Nat) ^ 7=562949953421312 by decide] at h2;omega
theorem Dl {k:Nat} (hk:2 ^ 50≤k) {s:ByteArray}:∀ (d i n:Nat),i+d=8→1≤i→d<n →
 bW.l0 k n s (i:Int)=some (match rv 7 (nb s) with | some (a,m)=>if i≤m then ((a:Int),((m:Int),())) else (0,(0,())) | none=>(0,(0,()))):=by
 have stop:∀ i,(7<i∨s.size<i)→(match rv 7 (nb s) with | some (a,m)=>if i≤m then ((a:Int),((m:Int),())) else (0,(0,())) | none=>(0,(0,())))=((0:Int),((0:Int),())):=by
  intro i hi;cases q:rv 7 (nb s) with
  | none=>rfl
  | some p =>obtain ⟨a,m⟩:=p;obtain ⟨_,_,_,h4,_,h6⟩:=tQ 6 (nb s) a m (xb s) q;rw [dD] at h4;exact if_neg (by omega)
 intro d
 induction d with
 | zero =>intro i n h1 h2 h3;obtain ⟨n,rfl⟩:∃ q,n=q+1:=⟨n-1,by omega⟩;rw [stop i (by omega)];simp (disch:=omega) only [bW.l0,bW.b0,aZ,aH]
 | succ d ih =>
  intro i n h1 h2 h3;obtain ⟨n,rfl⟩:∃ q,n=q+1:=⟨n-1,by omega⟩;by_cases hs:i≤s.size
  case neg =>rw [stop i (by omega)];simp (disch:=omega) only [bW.l0,bW.b0,aX,aZ,ae,aH]
  have hp:(128:Nat) ^ i≤128 ^ 7:=Nat.pow_le_pow_right (by decide) (by omega);rw [show (128:Nat) ^ 7=562949953421312 by decide] at hp;simp (disch:=omega) only [bW.l0,bW.b0,aX,ae,aG];refine (Kg (k:=k) (L0:=bW.l0 k n) (s:=s) (n:=i) i 0 k (by omega) hs (by omega) (by omega)).trans ?_;obtain ⟨m,hm⟩:∃ m,k-i=m+1:=⟨k-i-1,by omega⟩;have hd7:=Tn (s:=s) (n:=i) (by omega);have hc:=M3 (s:=s) (n:=i) h2 (by omega) hs;rw [hm,Nat.zero_mul,Nat.zero_add];simp only [bW.l1,bW.b1,show decide ((-1:Int)≥0)=false by decide,aH,mq hk,ac,dN hd7];rw [d7 (by omega) (by omega),qX,hc,aG (by omega) (by omega)];have hw:=PQ (nb s) (xb s) 6 i h2 (by omega) (by rw [dD];exact hs);cases hq:sC ((nb s).take i) with
  | true =>obtain ⟨a,ha⟩:=hw.1 hq;rw [ae,ha];simp only [];rw [if_pos (Nat.le_refl _),Rn (xb s) ha]
  | false =>
   have hnot:∀ a,rv 7 (nb s)≠some (a,i):=fun a ha=>by have:=hw.2 ⟨a,ha⟩;rw [hq] at this;cases this
   rw [aH];refine (ih (i+1) n (by omega) (by omega) (by omega)).trans ?_;cases q:rv 7 (nb s) with
   | none=>rfl
   | some p =>
    obtain ⟨a,m'⟩:=p;have:m'≠i:=fun e=>hnot a (by rw [q,e])
    simp only [];by_cases c:i≤m'
    · rw [if_pos c,if_pos (by omega)]
    · rw [if_neg c,if_neg (by omega)]
theorem ou {k:Nat} (hk:2 ^ 50≤k) (s:ByteArray):bW.f k s=some (Tc (rv 7 (nb s))):=by
 unfold bW.f bW.t;refine (Dl hk 7 1 k (by omega) (by omega) (by omega)).trans ?_;cases q:rv 7 (nb s) with
 | none=>rfl
 | some p =>obtain ⟨a,m⟩:=p;obtain ⟨_,_,_,_,h5,_⟩:=tQ 6 (nb s) a m (xb s) q;simp only [Tc];rw [if_pos h5]
theorem qH {k:Nat} (hk:2 ^ 50≤k) {x:Nat} (hx:x<4294967296) (t:ByteArray):cO.f k (eW x++t) 4=some ((x:Int),(true,())):=by
 have hz:=nG x t;have st:∀ (q a j:Nat),j<4→a<4294967296→cO.l0 k (q+1) (eW x++t) 4 (a:Int) (j:Int)=cO.l0 k q (eW x++t) 4 ((a*256+(nb (eW x++t)).getD j 0:Nat):Int) ((j+1:Nat):Int):=fun q a j hj ha=>by
  have hb:=kN (eW x++t) j;have hat:=Cy (s:=eW x++t) (i:=j) (by omega);generalize (nb (eW x++t)).getD j 0=b at *;have e1:aU (aU ((a:Int)*256)+aU (b:Int))=((a*256+b:Nat):Int):=by rw [aG (n:=(a:Int)*256) (by omega) (by omega),aG (n:=(b:Int)) (by omega) (by omega),aG (by omega) (by omega)];omega
  have ej:aU ((j:Int)+1)=((j+1:Nat):Int):=by rw [aG (by omega) (by omega)];omega
  simp (disch:=omega) only [cO.l0,cO.b0,aX,ae,aY,hat,e1,ej]
 unfold cO.f cO.t;rw [tT,ac];simp only [show decide ((1:Int)≤4∧(4:Int)≤7)=true by decide,g9,aH,aZ (show ¬ (((eW x++t).size:Int)<4) by omega)];obtain ⟨q,hq⟩:∃ q,k=q+5:=⟨k-5,by omega⟩;refine (congrArg (fun z=>cO.l0 k z (eW x++t) 4 0 0) hq).trans ?_;refine (st (q+4) 0 0 (by omega) (by omega)).trans ?_;rw [yL];simp only [List.getD_cons_zero,Nat.zero_mul,Nat.zero_add];refine (st (q+3) _ 1 (by omega) (by omega)).trans ?_;rw [yL];simp only [List.getD_cons_zero,List.getD_cons_succ];refine (st (q+2) _ 2 (by omega) (by omega)).trans ?_;rw [yL];simp only [List.getD_cons_zero,List.getD_cons_succ];refine (st (q+1) _ 3 (by omega) (by omega)).trans ?_;rw [yL];simp only [List.getD_cons_zero,List.getD_cons_succ];simp only [cO.l0,cO.b0,show decide ((((3+1:Nat)):Int)<4)=false by decide,aH];congr 3;omega
theorem qM {k:Nat} (hk:2 ^ 50≤k) {x:Nat} (hx:x<4294967296) (t:ByteArray):bu.f k (eW x++t) 4=some ((x:Int),(true,())):=by
 have hz:=nG x t;have st:∀ (q a j:Nat),j<4→a<16777216→bu.l0 k (q+1) (eW x++t) (a:Int) 4 (j:Int)=bu.l0 k q (eW x++t) ((a*256+(nb (eW x++t)).getD j 0:Nat):Int) 4 ((j+1:Nat):Int):=fun q a j hj ha=>by
  have hb:=kN (eW x++t) j;have hat:=Cy (s:=eW x++t) (i:=j) (by omega);generalize (nb (eW x++t)).getD j 0=b at *;have e0:aU ((a:Int)*2 ^ min (Int.toNat 8) (IntKind.bits .i64))=((a*256:Nat):Int):=by rw [show (2:Int) ^ min (Int.toNat 8) (IntKind.bits .i64)=256 by decide,aG (by omega) (by omega)];omega
  have e2:aU (b:Int)=(b:Int):=aG (by omega) (by omega);have ej:aU ((j:Int)+1)=((j+1:Nat):Int):=by rw [aG (by omega) (by omega)];omega
  simp (disch:=omega) only [bu.l0,bu.b0,aX,ae,aY,hat,e0,e2,ej];rw [To (by omega) hb]
 unfold bu.f bu.t;rw [wR,ac];simp only [show decide ((1:Int)≤4∧(4:Int)≤7)=true by decide,g9,aH,aZ (show ¬ (((eW x++t).size:Int)<4) by omega)];obtain ⟨q,hq⟩:∃ q,k=q+5:=⟨k-5,by omega⟩;refine (congrArg (fun z=>bu.l0 k z (eW x++t) 0 4 0) hq).trans ?_;refine (st (q+4) 0 0 (by omega) (by omega)).trans ?_;rw [yL];simp only [List.getD_cons_zero,Nat.zero_mul,Nat.zero_add];refine (st (q+3) _ 1 (by omega) (by omega)).trans ?_;rw [yL];simp only [List.getD_cons_zero,List.getD_cons_succ];refine (st (q+2) _ 2 (by omega) (by omega)).trans ?_;rw [yL];simp only [List.getD_cons_zero,List.getD_cons_succ];refine (st (q+1) _ 3 (by omega) (by omega)).trans ?_;rw [yL];simp only [List.getD_cons_zero,List.getD_cons_succ];simp only [bu.l0,bu.b0,show decide ((((3+1:Nat)):Int)<4)=false by decide,aH];congr 3;omega
theorem wW (k:Nat) {s:ByteArray} (h:s.size<4):cO.f k s 4=some (0,(false,())):=by unfold cO.f cO.t;rw [tT,ac];simp only [show decide ((1:Int)≤4∧(4:Int)≤7)=true by decide,g9,aH,aX (show (s.size:Int)<4 by omega),ae]
theorem wC (k:Nat) {s:ByteArray} (h:s.size<4):bu.f k s 4=some (0,(false,())):=by unfold bu.f bu.t;rw [wR,ac];simp only [show decide ((1:Int)≤4∧(4:Int)≤7)=true by decide,g9,aH,aX (show (s.size:Int)<4 by omega),ae]
def aM (s:ByteArray):ByteArray:=if s.size > 200 then ⟨#[]⟩ else vh (sw (jG s))++jG s
theorem mL (s:ByteArray):(aM s).size≤211:=by
 unfold aM;split
 · exact Nat.zero_le _
 · have:=j9 s;rw [ByteArray.size_append,gu];omega
theorem lE {s:ByteArray} (h:s.size≤200):5≤(aM s).size:=by unfold aM;rw [if_neg (by omega),ByteArray.size_append,gu];unfold jG;rw [dN (by omega),ByteArray.size_append];have:=ap s.size;omega
theorem E9 {k:Nat} (hk:2 ^ 50≤k) (s:ByteArray):p8.f k s=some (aM s,()):=by
 unfold p8.f p8.t aM;by_cases c:s.size > 200
 · rw [aX (show (s.size:Int) > 200 by omega),ae,if_pos c]
 · have h1:=bL (s.size:Int);have h2:=vu (jK (s.size:Int)++s);rw [aZ (show ¬ (s.size:Int) > 200 by omega),aH,if_neg c];unfold jG;simp (disch:=first | omega | (simp only [ByteArray.size_append,gu];omega)) only [mq hk,ac,eZ,JW hk];rw [vw hk h2.1 h2.2,ac,eZ (by simp only [ByteArray.size_append,gu];omega)]
theorem o5 {k:Nat} (hk:2 ^ 50≤k) (s:ByteArray):gf.f k s=some (aM s,()):=by
 unfold gf.f gf.t aM;by_cases c:s.size > 200
 · rw [aX (show (s.size:Int) > 200 by omega),ae,if_pos c]
 · have h1:=j9 s;have h2:=vu (jG s);rw [aZ (show ¬ (s.size:Int) > 200 by omega),aH,if_neg c];simp (disch:=omega) only [lj hk,ac,ux hk];rw [qw hk h2.1 h2.2,ac,eZ (by rw [gu];omega)]
theorem aV (a b:ByteArray):(a++b).size=a.size+b.size:=ByteArray.size_append ..
theorem si (a b t:ByteArray):ByteArray.extract (a++(b++t)) (a.size+b.size) (a++(b++t)).size=t:=by have:=gO (a++b) t;rw [aV,bY] at this;exact this
theorem TZ (a b t:ByteArray):ByteArray.extract (a++(b++t)) a.size (a.size+b.size)=b:=jt (by
 rw [ss,gS,gS,List.take_append,List.take_of_length_le (by rw [dD];omega),dD,show a.size+b.size-a.size=b.size by omega,List.drop_left' (dD a),List.take_left' (dD b)])
theorem za (a b:Nat):((a:Int)+(b:Int))=((a+b:Nat):Int):=rfl
theorem oQ {k:Nat} (hk:2 ^ 50≤k) {a:Nat} {t:ByteArray} (ha:a<562949953421312) (hs:t.size≤1099511627776):co.f k (bg a++t)=some ((a:Int),(((bg a).size:Int),())):=by have:=ap a;rw [p9 hk (by rw [aV];omega),zc ha];rfl
theorem nc {k:Nat} (hk:2 ^ 50≤k) {s:ByteArray} (h:rv 7 (nb s)=none) (hs:s.size≤1099511627776):co.f k s=some (0,(0,())):=by rw [p9 hk (by omega),h];rfl
theorem d9 {k:Nat} (hk:2 ^ 50≤k) {a:Nat} {t:ByteArray} (ha:a<562949953421312):bW.f k (bg a++t)=some ((a:Int),(((bg a).size:Int),())):=by rw [ou hk,zc ha];rfl
theorem kW {k:Nat} (hk:2 ^ 50≤k) {s:ByteArray} (h:rv 7 (nb s)=none):bW.f k s=some (0,(0,())):=by rw [ou hk,h];rfl
theorem fF {k:Nat} (hk:2 ^ 50≤k) {a:Nat} {t:ByteArray} (ha:a<562949953421312) (hs:t.size≤1099511627776):aJ.f k (bg a++t,(false,()))=some ((t,(false,())),((a:Int),())):=by have h1:=ap a;unfold aJ.f aJ.t;rw [oQ hk ha hs,ac];simp only [aH];rw [show (((bg a).size:Int)==0)=false from pG (by omega),aH,d7 (by omega) (by rw [aV];omega),qX,gO]
theorem mg {k:Nat} (hk:2 ^ 50≤k) {s:ByteArray} (h:rv 7 (nb s)=none) (hs:s.size≤1099511627776):aJ.f k (s,(false,()))=some ((s,(true,())),(0,())):=by unfold aJ.f aJ.t;rw [nc hk h hs,ac];rfl
theorem y6 {k:Nat} (hk:2 ^ 50≤k) {s:ByteArray} (hs:s.size≤1099511627776):aJ.f k (s,(true,()))=some ((s,(true,())),(0,())):=by unfold aJ.f aJ.t;rw [p9 hk (show s.size≤_ by omega),ac];rfl
theorem tI (k:Nat) (u t:ByteArray):ar.f k (u++t,(false,())) (u.size:Int)=some ((t,(false,())),(u,())):=by unfold ar.f ar.t;simp only [aH];rw [aZ (by rw [aV];omega),aH,d7 (by omega) (by rw [aV];omega),d7 (by omega) (by rw [aV];omega),qX,gO,AW]
theorem tW (k:Nat) {s:ByteArray} {n:Int} (h:n > (s.size:Int)):ar.f k (s,(false,())) n=some ((s,(true,())),(⟨#[]⟩,())):=by unfold ar.f ar.t;simp only [aH];rw [aX h,ae]
theorem tN (k:Nat) (s:ByteArray) (n:Int):ar.f k (s,(true,())) n=some ((s,(true,())),(⟨#[]⟩,())):=by unfold ar.f ar.t;rfl
theorem qI (s:ByteArray):(∃ u t,u.size<562949953421312∧s=bg u.size++(u++t))∨rv 7 (nb s)=none∨(∃ a t,a<562949953421312∧s=bg a++t∧t.size<a):=by
 rcases kc s with ⟨a,t,ha,rfl⟩ | h
 · by_cases c:t.size<a
   · exact .inr (.inr ⟨a,t,ha,rfl,c⟩)
   · have e:=vX t (n:=a) (by omega);have hz:(ByteArray.extract t 0 a).size=a:=by rw [← dD,lC,List.length_take,dD];omega
     exact .inl ⟨_,_,by rw [hz];exact ha,by rw [hz,← e]⟩
 · exact .inr (.inl h)
theorem nv {k:Nat} (hk:2 ^ 50≤k) {u t:ByteArray} (hu:u.size<562949953421312) (hs:(u++t).size≤1099511627776):ah.f k (bg u.size++(u++t),(false,()))=some ((t,(false,())),(u,())):=by unfold ah.f ah.t;rw [fF hk hu hs,ac];simp only [];rw [tI,ac]
theorem Aw {k:Nat} (hk:2 ^ 50≤k) {s:ByteArray} (hs:s.size≤1099511627776):ah.f k (s,(true,()))=some ((s,(true,())),(⟨#[]⟩,())):=by unfold ah.f ah.t;rw [y6 hk hs,ac];simp only [];rw [tN,ac]
theorem BK {k:Nat} (hk:2 ^ 50≤k) {s:ByteArray} (hs:s.size≤1099511627776) (h:rv 7 (nb s)=none∨(∃ a t,a<562949953421312∧s=bg a++t∧t.size<a)):∃ s',s'.size≤1099511627776∧ah.f k (s,(false,()))=some ((s',(true,())),(⟨#[]⟩,())):=by
 unfold ah.f ah.t;rcases h with h | ⟨a,t,ha,rfl,ht⟩
 · refine ⟨s,hs,?_⟩;rw [mg hk h hs,ac];simp only [];rw [tN,ac]
 · have:=ap a;rw [aV] at hs;refine ⟨t,by omega,?_⟩;rw [fF hk ha (by omega),ac];simp only [];rw [tW k (by omega),ac]
theorem Co {k:Nat} (hk:2 ^ 50≤k) {u t:ByteArray} (hu:u.size<562949953421312) (hs:(u++t).size≤1099511627776):eP.f k (bg u.size++(u++t))=some (u,(t,(true,()))):=by
 have h1:=ap u.size;have h2:(bg u.size++(u++t)).size=(bg u.size).size+(u.size+t.size):=by rw [aV,aV]
 rw [aV] at hs;unfold eP.f eP.t;rw [d9 hk hu,ac];simp only [];rw [show (((bg u.size).size:Int)==0)=false from pG (by omega),aH,aG (by omega) (by omega),aZ (by omega),aH,za,aG (by omega) (by omega),
  yg (by omega) (by omega) (by omega),d7 (by omega) (by omega),qX,qX,TZ,si]
theorem Ew {k:Nat} (hk:2 ^ 50≤k) {s:ByteArray} (hs:s.size≤1099511627776) (h:rv 7 (nb s)=none∨(∃ a t,a<562949953421312∧s=bg a++t∧t.size<a)):eP.f k s=some (⟨#[]⟩,(⟨#[]⟩,(false,()))):=by
 unfold eP.f eP.t;rcases h with h | ⟨a,t,ha,rfl,ht⟩
 · rw [kW hk h,ac];rfl
 · have:=ap a;rw [aV] at hs;rw [d9 hk ha,ac];simp only [];rw [show (((bg a).size:Int)==0)=false from pG (by omega),aH,aG (by rw [aV];omega) (by rw [aV];omega),aX (by rw [aV];omega),ae]
section
open Classical
variable {α:Type}
noncomputable def pg (ok:α→Prop) (shw:α→ByteArray) (z:α) (s:ByteArray):α × Bool:=if h:∃ r,ok r∧shw r=s then (h.choose,true) else (z,false)
theorem yl {ok:α→Prop} {shw:α→ByteArray} {z:α} {s:ByteArray} {r:α} (h:pg ok shw z s=(r,true)):ok r∧shw r=s:=by
 unfold pg at h;split at h
 · rename_i q;obtain rfl:=(Prod.mk.inj h).1;exact q.choose_spec
 · cases (Prod.mk.inj h).2
theorem Pz {ok:α→Prop} {shw:α→ByteArray} {z:α} {s:ByteArray} (h:(pg ok shw z s).2=false):pg ok shw z s=(z,false):=by
 unfold pg at h ⊢;split
 · rename_i q;rw [dif_pos q] at h;cases h
 · rfl
theorem j6 (ok:α→Prop) (shw:α→ByteArray) (z:α) (s:ByteArray):(∃ r,ok r∧shw r=s∧pg ok shw z s=(r,true))∨pg ok shw z s=(z,false):=by
 cases h:(pg ok shw z s).2 with
 | false=>exact .inr (Pz h)
 | true =>
  have e:pg ok shw z s=((pg ok shw z s).1,true):=by rw [← h]
  exact .inl ⟨_,(yl e).1,(yl e).2,e⟩
theorem u6 {ok:α→Prop} {shw:α→ByteArray} {z:α} {s:ByteArray} {f:Option (α × Bool × Unit)} (h1:∀ r,ok r→shw r=s→f=some (r,(true,())))
 (h2:(∃ r,ok r∧shw r=s∧f=some (r,(true,())))∨f=some (z,(false,()))):f=some ((pg ok shw z s).1,((pg ok shw z s).2,())):=by
 rcases j6 ok shw z s with ⟨r,a,b,e⟩ | e
 · rw [e,h1 r a b]
 · rcases h2 with ⟨r,a,b,_⟩ | h2
   · unfold pg at e;rw [dif_pos ⟨r,a,b⟩] at e;cases (Prod.mk.inj e).2
   · rw [e,h2]
theorem F7 {ok:α→Prop} {shw:α→ByteArray} {z:α} {r:α} (hi:∀ a b,ok a→ok b→shw a=shw b→a=b) (h:ok r):pg ok shw z (shw r)=(r,true):=by
 rcases j6 ok shw z (shw r) with ⟨q,a,b,e⟩ | e
 · rw [e,hi q r a h b]
 · unfold pg at e;rw [dif_pos ⟨r,h,rfl⟩] at e;cases (Prod.mk.inj e).2
end
abbrev uh:Ty.d bQ:=(0,(0,(ByteArray.empty,(ByteArray.empty,(0,(0,()))))))
theorem Cw {a:Ty.d bQ} (h:bN a=true) :
 (∃ (b:Nat) (kd:Nat),(kd=1∨kd=4)∧b≤1000000∧a=((kd:Int),((b:Int),(a.2.2.1,(a.2.2.2.1,(0,(0,()))))))∧a.2.2.1.size≤8∧a.2.2.2.1.size≤24 ∧
  aE a=bg kd++(bg b++(bg a.2.2.1.size++(a.2.2.1++(bg a.2.2.2.1.size++(a.2.2.2.1++⟨#[]⟩)))))) ∨
 (∃ (b:Nat),b≤1000000∧a=(2,((b:Int),(a.2.2.1,(ByteArray.empty,(0,(0,()))))))∧a.2.2.1.size≤8∧aE a=bg 2++(bg b++(bg a.2.2.1.size++(a.2.2.1++⟨#[]⟩)))) ∨
 (∃ (b kd c x:Nat),(kd=3∨kd=5)∧b≤1000000∧c≤20∧x<4294967296∧a=((kd:Int),((b:Int),(ByteArray.empty,(ByteArray.empty,((c:Int),((x:Int),()))))))∧aE a=bg kd++(bg b++(bg c++(eW x++⟨#[]⟩)))):=by
 have hh:=h;obtain ⟨kd,b,key,val,c,x,u⟩:=a;change Int at kd b c x;change ByteArray at key val;rcases yv h with ⟨hc,h⟩ | ⟨hc,h⟩ | ⟨hc,h⟩
 · obtain ⟨z1,z2,z3,z4,z5,z6,z7⟩:=h;subst z4;subst z5;obtain ⟨b,rfl⟩:=Int.eq_ofNat_of_zero_le (show 0≤b by omega);left;refine ⟨b,kd.toNat,by omega,by omega,?_,z2,z3,?_⟩
   · rw [show ((kd.toNat:Nat):Int)=kd by omega]
   · unfold aE;rw [if_pos hh,if_pos hc];simp only [jG];rw [dN (by omega),dN (by omega),dN (by omega),iR,bY,show jK kd=bg kd.toNat by rw [← dN (show kd.toNat<562949953421312 by omega)];congr 1;omega]
 · obtain ⟨z1,z2,z3,z4,z5,z6,z7⟩:=h;subst z3;subst z4;subst z5;subst hc;obtain ⟨b,rfl⟩:=Int.eq_ofNat_of_zero_le (show 0≤b by omega);right;left;refine ⟨b,by omega,rfl,z2,?_⟩;unfold aE;rw [if_pos hh,if_neg (show ¬ ((2:Int)=1∨(2:Int)=4) by decide),if_pos rfl];simp only [jG];rw [dN (by omega),dN (by omega),iR];rfl
 · obtain ⟨z1,z2,z3,z4,z5,z6,z7,z8⟩:=h;subst z1;subst z2;obtain ⟨b,rfl⟩:=Int.eq_ofNat_of_zero_le (show 0≤b by omega);obtain ⟨c,rfl⟩:=Int.eq_ofNat_of_zero_le (show 0≤c by omega);obtain ⟨x,rfl⟩:=Int.eq_ofNat_of_zero_le (show 0≤x by omega);right;right;refine ⟨b,kd.toNat,c,x,by omega,by omega,by omega,by omega,?_,?_⟩
   · rw [show ((kd.toNat:Nat):Int)=kd by omega];rfl
   · unfold aE;rw [if_pos hh,if_neg (show ¬ (kd=1∨kd=4) by omega),if_neg (show ¬ kd=2 by omega)];simp only [];rw [dN (by omega),dN (by omega),iR,show jK kd=bg kd.toNat by rw [← dN (show kd.toNat<562949953421312 by omega)];congr 1;omega];rfl
theorem IF {a:Ty.d bQ} {s:ByteArray} (h:aE a=s) (hs:s≠⟨#[]⟩):bN a=true:=by
 cases c:bN a with
 | true=>rfl
 | false=>unfold aE at h;rw [c] at h;exact absurd h.symm hs
theorem Qh {kd:Nat} (h:kd≠1):((kd:Int)==1)=false:=pG (by omega)
theorem Qm {kd:Nat} (h:kd≠2):((kd:Int)==2)=false:=pG (by omega)
theorem Qc {kd:Nat} (h:kd≠4):((kd:Int)==4)=false:=pG (by omega)
theorem P0:(((1:Nat):Int)==1)=true:=rfl
theorem RU:(((4:Nat):Int)==1)=false:=rfl
theorem RG:(((4:Nat):Int)==4)=true:=rfl
theorem SE:(((2:Nat):Int)==1)=false:=rfl
theorem R2:(((2:Nat):Int)==2)=true:=rfl
theorem RO:(((2:Nat):Int)==4)=false:=rfl
theorem U4:((0:Int)==1)=false:=rfl
theorem U8:((0:Int)==4)=false:=rfl
theorem UI:((0:Int)==2)=false:=rfl
theorem e0:(⟨#[]⟩:ByteArray).size=0:=rfl
theorem Nc {kd b:Nat} {key val:ByteArray} (hb:b<562949953421312) (hc:kd=1∨kd=4) (h:bN ((kd:Int),((b:Int),(key,(val,(0,(0,()))))))=true) :
 aE ((kd:Int),((b:Int),(key,(val,(0,(0,()))))))=bg kd++(bg b++(bg key.size++(key++(bg val.size++(val++⟨#[]⟩))))):=by
 rcases yv h with ⟨_,h1⟩ | ⟨h0,_⟩ | ⟨h0,_⟩
 · unfold aE;rw [if_pos h,if_pos (show ((kd:Int)=1∨(kd:Int)=4) by omega)];simp only [jG];rw [dN (by omega),dN hb,dN (by omega),dN (by omega),iR,bY]
 · omega
 · omega
theorem Mk {b:Nat} {key:ByteArray} (hb:b<562949953421312) (h:bN (((2:Nat):Int),((b:Int),(key,(ByteArray.empty,(0,(0,()))))))=true) :
 aE (((2:Nat):Int),((b:Int),(key,(ByteArray.empty,(0,(0,()))))))=bg 2++(bg b++(bg key.size++(key++⟨#[]⟩))):=by
 rcases yv h with ⟨h0,_⟩ | ⟨_,h1⟩ | ⟨h0,_⟩
 · omega
 · unfold aE;rw [if_pos h,if_neg (show ¬ (((2:Nat):Int)=1∨((2:Nat):Int)=4) by decide),if_pos (show ((2:Nat):Int)=2 from rfl)];simp only [jG];rw [dN (by omega),dN hb,dN (by omega),iR]
 · omega
theorem Mo {kd b c x:Nat} (hb:b<562949953421312) (hx:c<562949953421312) (hc:kd≠1∧kd≠2∧kd≠4) (h:bN ((kd:Int),((b:Int),(ByteArray.empty,(ByteArray.empty,((c:Int),((x:Int),()))))))=true) :
 aE ((kd:Int),((b:Int),(ByteArray.empty,(ByteArray.empty,((c:Int),((x:Int),()))))))=bg kd++(bg b++(bg c++(eW x++⟨#[]⟩))):=by
 rcases yv h with ⟨h0,_⟩ | ⟨h0,_⟩ | ⟨_,h1⟩
 · omega
 · omega
 · unfold aE;rw [if_pos h,if_neg (show ¬ ((kd:Int)=1∨(kd:Int)=4) by omega),if_neg (show ¬ (kd:Int)=2 by omega)];simp only [];have hk5:kd≤5:=by omega
   rw [dN (by omega),dN hb,dN hx,iR];rfl
theorem pZ {k:Nat} (hk:2 ^ 50≤k) {a:Ty.d bQ} (h:bN a=true):cm.f k (aE a)=some (a,(true,())):=by
 unfold cm.f cm.t;rcases Cw h with ⟨b,kd,hc,hb,ha,z1,z2,e⟩ | ⟨b,hb,ha,z1,e⟩ | ⟨b,kd,c,x,hc,hb,z1,z2,ha,e⟩
 · rw [e];rw [ha] at h
   conv=>rhs;rw [ha]
   have v1:=ap kd;have v2:=ap b;have v3:=ap a.2.2.1.size;have v4:=ap a.2.2.2.1.size;rcases hc with rfl | rfl
   · simp (disch:=first | omega | (simp only [aV,e0];omega)) only [fF hk,nv hk,ac,ae,aH,P0,bB,g9,ii,h]
   · simp (disch:=first | omega | (simp only [aV,e0];omega)) only [fF hk,nv hk,ac,ae,aH,RU,RG,bB,g9,ii,h]
 · rw [e];rw [ha] at h
   conv=>rhs;rw [ha]
   have v1:=ap 2;have v2:=ap b;have v3:=ap a.2.2.1.size;simp (disch:=first | omega | (simp only [aV,e0];omega)) only [fF hk,nv hk,ac,ae,aH,SE,R2,RO,bB,g9,ii];rw [show ((2:Nat):Int)=2 from rfl,h];rfl
 · rw [e,ha];rw [ha] at h;have v1:=ap kd;have v2:=ap b;have v3:=ap c;have v4:=mn x;have hby:=tI k (eW x) ⟨#[]⟩;rw [mn] at hby;have hrf:=qM hk z2 ⟨#[]⟩;rw [iR] at hrf;rw [show (((4:Nat)):Int)=4 from rfl] at hby;simp (disch:=first | omega | (simp only [aV,e0];omega)) only [fF hk,hby,hrf,ac,ae,aH,Qh,Qm,Qc,bB,g9,ii,h]
theorem yW {k:Nat} (hk:2 ^ 50≤k) {s:ByteArray} (hs:s.size≤1099511627776) :
 (∃ r,bN r=true∧aE r=s∧cm.f k s=some (r,(true,())))∨cm.f k s=some (uh,(false,())):=by
 have rf0:=wC k (s:=⟨#[]⟩) (by decide);unfold cm.f cm.t;rcases kc s with ⟨kd,t,hkd,rfl⟩ | h0
 case inr =>right;simp (disch:=first | omega | (simp only [aV,e0];omega)) only [mg hk h0,y6 hk,tN k,rf0,ac,ae,aH,U4,UI,U8]
 have v1:=ap kd;rw [aV] at hs;rcases kc t with ⟨b,t2,hb,rfl⟩ | h1
 case inr =>
  right;by_cases c1:kd=1
  · subst c1;simp (disch:=first | omega | (simp only [aV,e0];omega)) only [fF hk,mg hk h1,Aw hk,ac,ae,aH,P0]
  by_cases c4:kd=4
  · subst c4;simp (disch:=first | omega | (simp only [aV,e0];omega)) only [fF hk,mg hk h1,Aw hk,ac,ae,aH,RU,RG]
  by_cases c2:kd=2
  · subst c2;simp (disch:=first | omega | (simp only [aV,e0];omega)) only [fF hk,mg hk h1,Aw hk,ac,ae,aH,SE,RO,R2]
  · simp (disch:=first | omega | (simp only [aV,e0];omega)) only [fF hk,mg hk h1,y6 hk,tN k,rf0,ac,ae,aH,Qh c1,Qm c2,Qc c4]
 have v2:=ap b;rw [aV] at hs;by_cases c2:kd=2
 · subst c2;rcases qI t2 with ⟨key,t3,hu,rfl⟩ | bad
   case inr =>right;obtain ⟨s',hs',e⟩:=BK hk (by omega) bad;simp (disch:=first | omega | (simp only [aV,e0];omega)) only [fF hk,e,ac,ae,aH,SE,RO,R2]
   have v3:=ap key.size;simp only [aV] at hs;simp (disch:=first | omega | (simp only [aV,e0];omega)) only [fF hk,nv hk,ac,ae,aH,SE,RO,R2];by_cases c:t3=⟨#[]⟩
   · subst c;simp only [bB,g9,aH,ii,ac];cases hr:bN (((2:Nat):Int),((b:Int),(key,(ByteArray.empty,(0,(0,())))))) with
     | true=>exact .inl ⟨_,hr,Mk hb hr,rfl⟩
     | false=>exact .inr rfl
   · rw [jr c];exact .inr rfl
 by_cases c1:kd=1∨kd=4
 · have hcc:(bif ((kd:Int)==1) then true else ((kd:Int)==4))=true:=by rcases c1 with rfl | rfl <;> rfl
   rcases qI t2 with ⟨key,t3,hu,rfl⟩ | bad
   case inr =>
    right;obtain ⟨s',hs',e⟩:=BK hk (by omega) bad;rcases c1 with rfl | rfl
    · simp (disch:=first | omega | (simp only [aV,e0];omega)) only [fF hk,e,Aw hk hs',ac,ae,aH,P0]
    · simp (disch:=first | omega | (simp only [aV,e0];omega)) only [fF hk,e,Aw hk hs',ac,ae,aH,RU,RG]
   have v3:=ap key.size;simp only [aV] at hs;rcases qI t3 with ⟨val,t4,hv,rfl⟩ | bad
   case inr =>
    right;obtain ⟨s',hs',e⟩:=BK hk (by omega) bad;rcases c1 with rfl | rfl
    · simp (disch:=first | omega | (simp only [aV,e0];omega)) only [fF hk,nv hk,e,ac,ae,aH,P0]
    · simp (disch:=first | omega | (simp only [aV,e0];omega)) only [fF hk,nv hk,e,ac,ae,aH,RU,RG]
   have v4:=ap val.size;simp only [aV] at hs;have fin:(bif !seq t4 ⟨#[]⟩ then some (uh,(false,())) else bif !bN ((kd:Int),((b:Int),(key,(val,(0,(0,())))))) then some (uh,(false,())) else some (((kd:Int),((b:Int),(key,(val,(0,(0,())))))),(true,())))=cm.t k (bg kd++(bg b++(bg key.size++(key++(bg val.size++(val++t4)))))):=by
    unfold cm.t;rcases c1 with rfl | rfl
    · simp (disch:=first | omega | (simp only [aV,e0];omega)) only [fF hk,nv hk,ac,ae,aH,P0,ii]
    · simp (disch:=first | omega | (simp only [aV,e0];omega)) only [fF hk,nv hk,ac,ae,aH,RU,RG,ii]
   change (∃ r,bN r=true∧aE r=_∧cm.t k _=some (r,(true,())))∨cm.t k _=some (uh,(false,()));rw [← fin];by_cases c:t4=⟨#[]⟩
   · subst c;simp only [bB,g9,aH];cases hr:bN ((kd:Int),((b:Int),(key,(val,(0,(0,())))))) with
     | true=>exact .inl ⟨_,hr,Nc hb c1 hr,rfl⟩
     | false=>exact .inr rfl
   · rw [jr c];exact .inr rfl
 have d1:kd≠1:=fun q=>c1 (.inl q)
 have d4:kd≠4:=fun q=>c1 (.inr q)
 rcases kc t2 with ⟨c,t3,hc,rfl⟩ | h2
 case inr =>right;simp (disch:=first | omega | (simp only [aV,e0];omega)) only [fF hk,mg hk h2,tN k,rf0,ac,ae,aH,Qh d1,Qm c2,Qc d4]
 have v3:=ap c;rw [aV] at hs;rcases A9 t3 with ⟨x,t4,hx,rfl⟩ | h3
 case inr =>right;have e:=tW k (s:=t3) (n:=4) (by omega);simp (disch:=first | omega | (simp only [aV,e0];omega)) only [fF hk,e,rf0,ac,ae,aH,Qh d1,Qm c2,Qc d4]
 rw [nG] at hs;have hby:=tI k (eW x) t4;rw [mn,show (((4:Nat)):Int)=4 from rfl] at hby;have hrf:=qM hk hx ⟨#[]⟩;rw [iR] at hrf;simp (disch:=first | omega | (simp only [aV,e0,mn];omega)) only [fF hk,hby,hrf,ac,aH,Qh d1,Qm c2,Qc d4,ii];by_cases cc:t4=⟨#[]⟩
 · subst cc;simp only [bB,g9,aH];cases hr:bN ((kd:Int),((b:Int),(ByteArray.empty,(ByteArray.empty,((c:Int),((x:Int),())))))) with
   | true=>exact .inl ⟨_,hr,Mo hb hc ⟨d1,c2,d4⟩ hr,rfl⟩
   | false=>exact .inr rfl
 · rw [jr cc];exact .inr rfl
theorem ki (a b:Nat):Int.toNat ((a:Int)+(b:Int))=a+b:=by omega
theorem vz (a:Nat):(((bg a).size:Int)==0)=false:=pG (by have:=ap a;omega)
theorem pu (a:Nat) (t:ByteArray):bg a++t≠⟨#[]⟩:=fun h=>by have:=congrArg ByteArray.size h;rw [aV,e0] at this;have:=ap a;omega
theorem qA {r:Ty.d bQ} {s:ByteArray} (hs:s≠⟨#[]⟩) :
 (∃ r',bN r'=true∧aE r'=s∧(bif !seq (aE r) s then some (uh,(false,())) else bif seq s ⟨#[]⟩ then some (uh,(false,())) else some (r,(true,())))=some (r',(true,()))) ∨
 (bif !seq (aE r) s then some (uh,(false,())) else bif seq s ⟨#[]⟩ then some (uh,(false,())) else some (r,(true,())))=some (uh,(false,())):=by
 by_cases c:aE r=s
 · exact .inl ⟨r,IF c hs,c,by rw [H9 c,jr hs];rfl⟩
 · rw [jr c];exact .inr rfl
theorem BV {k:Nat} (hk:2 ^ 50≤k) {a:Ty.d bQ} (h:bN a=true):iJ.f k (aE a)=some (a,(true,())):=by
 unfold iJ.f iJ.t;rcases Cw h with ⟨b,kd,hc,hb,ha,z1,z2,e⟩ | ⟨b,hb,ha,z1,e⟩ | ⟨b,kd,c,x,hc,hb,z1,z2,ha,e⟩
 · have hs:aE ((kd:Int),((b:Int),(a.2.2.1,(a.2.2.2.1,(0,(0,()))))))=bg kd++(bg b++(bg a.2.2.1.size++(a.2.2.1++(bg a.2.2.2.1.size++(a.2.2.2.1++⟨#[]⟩))))):=by rw [← ha];exact e
   rw [e]
   conv=>rhs;rw [ha]
   have v1:=ap kd;have v2:=ap b;have v3:=ap a.2.2.1.size;have v4:=ap a.2.2.2.1.size;rcases hc with rfl | rfl
   · simp (disch:=first | omega | (simp only [aV,e0];omega)) only [d9 hk,Co hk,ac,qX,gO,vz,ae,aH,aG,d7,ki,si,P0,fh hk,hs,bB,g9,jr (pu _ _)]
   · simp (disch:=first | omega | (simp only [aV,e0];omega)) only [d9 hk,Co hk,ac,qX,gO,vz,ae,aH,aG,d7,ki,si,RU,RG,fh hk,hs,bB,g9,jr (pu _ _)]
 · have hs:aE (((2:Nat):Int),((b:Int),(a.2.2.1,(ByteArray.empty,(0,(0,()))))))=bg 2++(bg b++(bg a.2.2.1.size++(a.2.2.1++⟨#[]⟩))):=by rw [show ((2:Nat):Int)=2 from rfl,← ha];exact e
   rw [e]
   conv=>rhs;rw [ha]
   have v1:=ap 2;have v2:=ap b;have v3:=ap a.2.2.1.size;simp (disch:=first | omega | (simp only [aV,e0];omega)) only [d9 hk,Co hk,ac,qX,gO,vz,ae,aH,aG,d7,ki,si,SE,RO,R2,fh hk,hs,bB,g9,jr (pu _ _)];rfl
 · have hs:aE ((kd:Int),((b:Int),(ByteArray.empty,(ByteArray.empty,((c:Int),((x:Int),()))))))=bg kd++(bg b++(bg c++(eW x++⟨#[]⟩))):=by rw [← ha];exact e
   rw [e,ha];have v1:=ap kd;have v2:=ap b;have v3:=ap c;have v4:=mn x;simp (disch:=first | omega | (simp only [aV,e0];omega)) only [d9 hk,qH hk z2,ac,qX,gO,vz,ae,aH,aG,d7,ki,si,Qh,Qm,Qc,fh hk,hs,bB,g9,jr (pu _ _)]
theorem yT {k:Nat} (hk:2 ^ 50≤k) {s:ByteArray} (hs:s.size≤1099511627776) :
 (∃ r,bN r=true∧aE r=s∧iJ.f k s=some (r,(true,())))∨iJ.f k s=some (uh,(false,())):=by
 unfold iJ.f iJ.t;rcases kc s with ⟨kd,t,hkd,rfl⟩ | h0
 case inr =>right;rw [kW hk h0,ac];simp only [];rw [d7 (by omega) (by omega),ou hk,ac];rfl
 have v1:=ap kd;rw [aV] at hs;rcases kc t with ⟨b,t2,hb,rfl⟩ | h1
 case inr =>right;simp (disch:=first | omega | (simp only [aV,e0];omega)) only [d9 hk,kW hk h1,ac,qX,gO,vz,ae,aH,aG,d7,show (((0:Int)==0))=true from rfl]
 have v2:=ap b;rw [aV] at hs;by_cases c2:kd=2
 · subst c2;rcases qI t2 with ⟨key,t3,hu,rfl⟩ | bad
   · simp only [aV] at hs;simp (disch:=first | omega | (simp only [aV,e0];omega)) only [d9 hk,Co hk,ac,qX,gO,vz,ae,aH,aG,d7,ki,si,SE,RO,R2,fh hk];exact qA (pu _ _)
   · have hb5:=Ew hk (by omega) bad;simp (disch:=first | omega | (simp only [aV,e0];omega)) only [d9 hk,hb5,ac,qX,gO,vz,ae,aH,aG,d7,ki,si,SE,RO,R2,fh hk];exact qA (pu _ _)
 by_cases c1:kd=1∨kd=4
 · have em:eP.f k ⟨#[]⟩=some (⟨#[]⟩,(⟨#[]⟩,(false,()))):=Ew hk (by decide) (.inl rfl);obtain ⟨u,l,bb,hl,e⟩:∃ u l bb,l.size≤1099511627776∧eP.f k t2=some (u,(l,(bb,()))):=by
    rcases qI t2 with ⟨key,t3,hu,rfl⟩ | bad
    · simp only [aV] at hs;exact ⟨_,_,_,by omega,Co hk hu (by simp only [aV];omega)⟩
    · exact ⟨_,_,_,by decide,Ew hk (by omega) bad⟩
   obtain ⟨u2,l2,bb2,e2⟩:∃ u l' bb,eP.f k l=some (u,(l',(bb,()))):=by
    rcases qI l with ⟨key,t3,hu,rfl⟩ | bad
    · exact ⟨_,_,_,Co hk hu (by simp only [aV] at hl ⊢;omega)⟩
    · exact ⟨_,_,_,Ew hk hl bad⟩
   rcases c1 with rfl | rfl
   · simp (disch:=first | omega | (simp only [aV,e0];omega)) only [d9 hk,e,e2,ac,qX,gO,vz,ae,aH,aG,d7,ki,si,P0,fh hk];exact qA (pu _ _)
   · simp (disch:=first | omega | (simp only [aV,e0];omega)) only [d9 hk,e,e2,ac,qX,gO,vz,ae,aH,aG,d7,ki,si,RU,RG,fh hk];exact qA (pu _ _)
 have d1:kd≠1:=fun q=>c1 (.inl q)
 have d4:kd≠4:=fun q=>c1 (.inr q)
 have rf:∀ u:ByteArray,∃ z zb,cO.f k u 4=some (z,(zb,())):=fun u=>by
  rcases A9 u with ⟨x,t,hx,rfl⟩ | q
  · exact ⟨_,_,qH hk hx t⟩
  · exact ⟨_,_,wW k q⟩
 rcases kc t2 with ⟨c,t3,hc,rfl⟩ | h2
 · have v3:=ap c;rw [aV] at hs;obtain ⟨z,zb,e⟩:=rf t3;simp (disch:=first | omega | (simp only [aV,e0];omega)) only [d9 hk,e,ac,qX,gO,vz,ae,aH,aG,d7,ki,si,Qh d1,Qm c2,Qc d4,fh hk];exact qA (pu _ _)
 · obtain ⟨z,zb,e⟩:=rf (ByteArray.extract t2 (Int.toNat 0) t2.size);simp (disch:=first | omega | (simp only [aV,e0];omega)) only [d9 hk,kW hk h2,e,ac,qX,gO,vz,ae,aH,aG,d7,ki,si,Qh d1,Qm c2,Qc d4,fh hk];exact qA (pu _ _)
noncomputable def gq (s:ByteArray):Ty.d bQ × Bool:=pg (fun r=>bN r=true) aE uh s
theorem sa {k:Nat} (hk:2 ^ 50≤k) {s:ByteArray} (hs:s.size≤1099511627776):cm.f k s=some ((gq s).1,((gq s).2,())) :=
 u6 (fun r h1 h2=>by rw [← h2];exact pZ hk h1) (yW hk hs)
theorem zO {k:Nat} (hk:2 ^ 50≤k) {s:ByteArray} (hs:s.size≤1099511627776):iJ.f k s=some ((gq s).1,((gq s).2,())) :=
 u6 (fun r h1 h2=>by rw [← h2];exact BV hk h1) (yT hk hs)
theorem Gx {a b:Ty.d bQ} (ha:bN a=true) (hb:bN b=true) (h:aE a=aE b):a=b:=by have h1:=pZ (k:=2 ^ 50) (Nat.le_refl _) ha;rw [h,pZ (Nat.le_refl _) hb] at h1;exact (Prod.mk.inj (Option.some.inj h1)).1.symm
theorem wY {a:Ty.d bQ} (h:bN a=true):gq (aE a)=(a,true):=F7 (fun _ _ ha hb=>Gx ha hb) h
theorem zV {s:ByteArray} {r:Ty.d bQ} (h:gq s=(r,true)):bN r=true∧aE r=s:=yl h
theorem qz {t:ByteArray} (h:t.size≤200):∃ x,x<4294967296∧aM t=eW x++(bg t.size++t):=by have:=vu (jG t);refine ⟨(sw (jG t)).toNat,by omega,?_⟩;unfold aM vh;rw [if_neg (by omega)];unfold jG;rw [dN (by omega)]
theorem MG {t u s r:ByteArray} (ht:t.size≤200) (hu:u.size≤200) (h:aM t++s=aM u++r):t=u∧s=r:=by obtain ⟨x,hx,e⟩:=qz ht;obtain ⟨y,hy,f⟩:=qz hu;rw [e,f,bY,bY,bY,bY] at h;have h2:=(th h rfl).2;obtain ⟨h3,h4⟩:=AC (by omega) (by omega) h2;exact th h4 h3
theorem Bz (x:Nat) (u:ByteArray):ByteArray.extract (eW x++u) 4 (eW x++u).size=u:=gO (eW x) u
theorem Sx (x:Nat) (v t r:ByteArray):ByteArray.extract (eW x++(v++(t++r))) (4+v.size) (4+v.size+t.size)=t:=by have:=TZ (eW x++v) t r;rw [aV,mn,bY] at this;exact this
theorem QZ (x:Nat) (v t r:ByteArray):ByteArray.extract (eW x++(v++(t++r))) 0 (4+v.size+t.size)=eW x++(v++t):=by have:=AW (eW x++(v++t)) r;rw [aV,aV,mn,bY,bY,← Nat.add_assoc] at this;exact this
theorem c4 (a:Nat):(4:Int)+(a:Int)=((4+a:Nat):Int):=rfl
theorem AY {k:Nat} (hk:2 ^ 50≤k) {x:Nat} {t r:ByteArray} (ht:t.size≤200) (hr:t.size+r.size≤1099511627776) :
 dZ.f k (eW x++(bg t.size++(t++r)))=bif !seq (aM t) (eW x++(bg t.size++t)) then some (⟨#[]⟩,(0,())) else some (t,(((4+(bg t.size).size+t.size:Nat):Int),())):=by
 have v1:=ap t.size;have z1:(eW x++(bg t.size++(t++r))).size=4+((bg t.size).size+(t.size+r.size)):=by rw [nG,aV,aV]
 unfold dZ.f dZ.t;rw [aZ (by omega),aH,d7 (by omega) (by omega),Bz,oQ hk (by omega) (by rw [aV];omega),ac];simp only [vz,aH];rw [aZ (by omega),aH,aG (n:=((eW x++(bg t.size++(t++r))).size:Int)-4) (by omega) (by omega),aG (n:=((eW x++(bg t.size++(t++r))).size:Int)-4-_) (by omega) (by omega),aZ (by omega),aH,
  c4,aG (by omega) (by omega),za,aG (by omega) (by omega),yg (by omega) (by omega) (by omega),qX,qX,Sx,o5 hk,ac,d7 (by omega) (by omega),QZ]
theorem Ak {k:Nat} (hk:2 ^ 50≤k) {x:Nat} {t r:ByteArray} (ht:t.size≤200) (hr:t.size+r.size≤1099511627776) :
 ik.f k (eW x++(bg t.size++(t++r)))=bif !seq (aM t) (eW x++(bg t.size++t)) then some (⟨#[]⟩,(0,())) else some (t,(((4+(bg t.size).size+t.size:Nat):Int),())):=by
 have v1:=ap t.size;have z1:(eW x++(bg t.size++(t++r))).size=4+((bg t.size).size+(t.size+r.size)):=by rw [nG,aV,aV]
 unfold ik.f ik.t;rw [aZ (by omega),aH,d7 (by omega) (by omega),Bz,d9 hk (by omega),ac];simp only [vz,aH];rw [aZ (by omega),aH,aG (n:=((eW x++(bg t.size++(t++r))).size:Int)-4) (by omega) (by omega),aG (n:=((eW x++(bg t.size++(t++r))).size:Int)-4-_) (by omega) (by omega),aZ (by omega),aH,
  c4,aG (by omega) (by omega),za,aG (by omega) (by omega),yg (by omega) (by omega) (by omega),qX,qX,Sx,E9 hk,d7 (by omega) (by omega),ac,QZ,
  show seq (eW x++(bg t.size++t)) (aM t)=seq (aM t) (eW x++(bg t.size++t)) by rw [Kw,Kw];exact decide_eq_decide.2 ⟨Eq.symm,Eq.symm⟩]
theorem OC (s:ByteArray) (hs:s.size≤1099511627776):(∃ x t r,x<4294967296∧t.size≤200∧t.size+r.size≤1099511627776∧s=eW x++(bg t.size++(t++r)))∨s.size<5∨(∃ x u,x<4294967296∧s=eW x++u∧1≤u.size∧rv 7 (nb u)=none) ∨
 (∃ x a u,x<4294967296∧a<562949953421312∧s=eW x++(bg a++u)∧(200<a∨u.size<a)):=by
 rcases A9 s with ⟨x,u,hx,rfl⟩ | h
 · rw [nG] at hs;rcases kc u with ⟨a,v,ha,rfl⟩ | h
   · rw [aV] at hs;by_cases c:200<a∨v.size<a
     · exact .inr (.inr (.inr ⟨x,a,v,hx,ha,rfl,c⟩))
     · left;have e:=vX v (n:=a) (by omega);have hz:(ByteArray.extract v 0 a).size=a:=by rw [← dD,lC,List.length_take,dD];omega
       refine ⟨x,ByteArray.extract v 0 a,ByteArray.extract v a v.size,hx,by omega,?_,by rw [hz,← e]⟩;have:=congrArg ByteArray.size e;rw [aV] at this;omega
   · by_cases c:1≤u.size
     · exact .inr (.inr (.inl ⟨x,u,hx,rfl,c,h⟩))
     · exact .inr (.inl (by rw [nG];omega))
 · exact .inr (.inl (by omega))
theorem yc {k:Nat} (hk:2 ^ 50≤k) {s:ByteArray} (hs:s.size≤1099511627776) (h:s.size<5∨(∃ x u,x<4294967296∧s=eW x++u∧1≤u.size∧rv 7 (nb u)=none) ∨
 (∃ x a u,x<4294967296∧a<562949953421312∧s=eW x++(bg a++u)∧(200<a∨u.size<a))):dZ.f k s=some (⟨#[]⟩,(0,())):=by
 unfold dZ.f dZ.t;rcases h with h | ⟨x,u,hx,rfl,hu,h⟩ | ⟨x,a,u,hx,ha,rfl,h⟩
 · by_cases c:s.size<4
   · rw [aX (by omega),ae]
   · have e:ByteArray.extract s 4 s.size=⟨#[]⟩:=jt (by rw [j7,List.drop_eq_nil_of_le (by rw [dD];omega)];rfl);rw [aZ (by omega),aH,d7 (by omega) (by omega),e,nc hk rfl (by decide),ac];rfl
 · rw [nG] at hs;rw [aZ (by rw [nG];omega),aH,d7 (by omega) (by rw [nG];omega),Bz,nc hk h (by omega),ac];rfl
 · have v1:=ap a;have z1:(eW x++(bg a++u)).size=4+((bg a).size+u.size):=by rw [nG,aV]
   rw [aZ (by omega),aH,d7 (by omega) (by omega),Bz,oQ hk ha (by omega),ac];simp only [vz,aH];by_cases c:200<a
   · rw [aX (by omega),ae]
   · rw [aZ (by omega),aH,aG (n:=((eW x++(bg a++u)).size:Int)-4) (by omega) (by omega),aG (n:=((eW x++(bg a++u)).size:Int)-4-_) (by omega) (by omega),aX (by omega),ae]
theorem ya {k:Nat} (hk:2 ^ 50≤k) {s:ByteArray} (hs:s.size≤1099511627776) (h:s.size<5∨(∃ x u,x<4294967296∧s=eW x++u∧1≤u.size∧rv 7 (nb u)=none) ∨
 (∃ x a u,x<4294967296∧a<562949953421312∧s=eW x++(bg a++u)∧(200<a∨u.size<a))):ik.f k s=some (⟨#[]⟩,(0,())):=by
 unfold ik.f ik.t;rcases h with h | ⟨x,u,hx,rfl,hu,h⟩ | ⟨x,a,u,hx,ha,rfl,h⟩
 · rw [aX (by omega),ae]
 · rw [nG] at hs;rw [aZ (by rw [nG];omega),aH,d7 (by omega) (by rw [nG];omega),Bz,kW hk h,ac];rfl
 · have v1:=ap a;have z1:(eW x++(bg a++u)).size=4+((bg a).size+u.size):=by rw [nG,aV]
   rw [aZ (by omega),aH,d7 (by omega) (by omega),Bz,d9 hk ha,ac];simp only [vz,aH];by_cases c:200<a
   · rw [aX (by omega),ae]
   · rw [aZ (by omega),aH,aG (n:=((eW x++(bg a++u)).size:Int)-4) (by omega) (by omega),aG (n:=((eW x++(bg a++u)).size:Int)-4-_) (by omega) (by omega),aX (by omega),ae]
section
open Classical
noncomputable def i_ (s:ByteArray):ByteArray × Int:=if h:∃ t r,t.size≤200∧s=aM t++r then (h.choose,((aM h.choose).size:Int)) else (⟨#[]⟩,0)
theorem oA {t:ByteArray} (r:ByteArray) (h:t.size≤200):i_ (aM t++r)=(t,((aM t).size:Int)):=by have q:∃ u v,u.size≤200∧aM t++r=aM u++v:=⟨t,r,h,rfl⟩;unfold i_;rw [dif_pos q];obtain ⟨v,h1,h2⟩:=q.choose_spec;have:=(MG h h1 h2).1;rw [← this]
theorem n7 (s:ByteArray):(∃ t r,t.size≤200∧s=aM t++r∧i_ s=(t,((aM t).size:Int)))∨(i_ s=(⟨#[]⟩,0)∧∀ t r,t.size≤200→s≠aM t++r):=by
 by_cases q:∃ t r,t.size≤200∧s=aM t++r
 · obtain ⟨t,r,h,rfl⟩:=q;exact .inl ⟨t,r,h,rfl,oA r h⟩
 · right;refine ⟨?_,fun t r h e=>q ⟨t,r,h,e⟩⟩;unfold i_;rw [dif_neg q]
end
theorem Qk {k:Nat} {f:ByteArray→Option (ByteArray × Int × Unit)} (h1:∀ x t r,x<4294967296→t.size≤200→t.size+r.size≤1099511627776→f (eW x++(bg t.size++(t++r)))=bif !seq (aM t) (eW x++(bg t.size++t)) then some (⟨#[]⟩,(0,())) else some (t,(((4+(bg t.size).size+t.size:Nat):Int),())))
 (h2:∀ s,s.size≤1099511627776→(s.size<5∨(∃ x u,x<4294967296∧s=eW x++u∧1≤u.size∧rv 7 (nb u)=none)∨(∃ x a u,x<4294967296∧a<562949953421312∧s=eW x++(bg a++u)∧(200<a∨u.size<a)))→f s=some (⟨#[]⟩,(0,())))
 {s:ByteArray} (hs:s.size≤1099511627776):f s=some ((i_ s).1,((i_ s).2,())):=by
 rcases OC s hs with ⟨x,t,r,hx,ht,hr,rfl⟩ | h
 · rw [h1 x t r hx ht hr];by_cases c:aM t=eW x++(bg t.size++t)
   · have e:eW x++(bg t.size++(t++r))=aM t++r:=by rw [c,bY,bY]
     rw [H9 c,e,oA r ht,c,nG,aV,Nat.add_assoc];rfl
   · rw [jr c];rcases n7 (eW x++(bg t.size++(t++r))) with ⟨t',r',ht',e,_⟩ | ⟨e,_⟩
     · exfalso;obtain ⟨y,hy,f'⟩:=qz ht';rw [f',bY,bY] at e;have h3:=th e rfl;obtain ⟨h4,h5⟩:=AC (by omega) (by omega) h3.2;have h6:=th h5 h4;apply c;rw [h6.1,f',h3.1]
     · rw [e];rfl
 · rw [h2 s hs h];rcases n7 s with ⟨t',r',ht',e,_⟩ | ⟨e,_⟩
   · exfalso;obtain ⟨y,hy,f'⟩:=qz ht';have hp:=lE ht';rw [f',bY,bY] at e;rcases h with h | ⟨x,u,hx,e2,hu,h⟩ | ⟨x,a,u,hx,ha,e2,h⟩
     · rw [e,nG,aV] at h;have:=ap t'.size;omega
     · rw [e2] at e;rw [(th e rfl).2,zc (by omega)] at h;cases h
     · rw [e2] at e;obtain ⟨h4,h5⟩:=AC ha (by omega) (th e rfl).2;rw [h5,h4,aV] at h;omega
   · rw [e]
theorem mU {k:Nat} (hk:2 ^ 50≤k) {s:ByteArray} (hs:s.size≤1099511627776):dZ.f k s=some ((i_ s).1,((i_ s).2,())) :=
 Qk (k:=k) (fun x t r _ ht hr=>AY hk ht hr) (fun s hs h=>yc hk hs h) hs
theorem Ah {k:Nat} (hk:2 ^ 50≤k) {s:ByteArray} (hs:s.size≤1099511627776):ik.f k s=some ((i_ s).1,((i_ s).2,())) :=
 Qk (k:=k) (fun x t r _ ht hr=>Ak hk ht hr) (fun s hs h=>ya hk hs h) hs
theorem oB (s:ByteArray):(i_ s).1.size≤200∧((i_ s).2=0∨5≤(i_ s).2)∧(i_ s).2≤s.size∧(i_ s).2≤211:=by
 rcases n7 s with ⟨t,r,h,rfl,e⟩ | ⟨e,_⟩
 · rw [e,aV];have:=lE h;have:=mL t;refine ⟨h,?_,?_,?_⟩ <;> simp only [] <;> omega
 · rw [e];refine ⟨by simp only [e0];omega,.inl rfl,by simp only [];omega,by simp only [];omega⟩
theorem yk:i_ ⟨#[]⟩=(⟨#[]⟩,0):=by
 rcases n7 ⟨#[]⟩ with ⟨t,r,h,e,_⟩ | ⟨e,_⟩
 · have:=congrArg ByteArray.size e;rw [aV,e0] at this;have:=lE h;omega
 · exact e
noncomputable def fU (s:ByteArray):Nat→Int→List (Ty.d cX) × Int
 | 0,at_=>([],at_)
 | d+1,at_ =>
  if (i_ (ByteArray.extract s at_.toNat s.size)).2=0 then ([],at_)
  else if (gq (i_ (ByteArray.extract s at_.toNat s.size)).1).2=false then ([],at_)
  else (((at_,((i_ (ByteArray.extract s at_.toNat s.size)).2,((gq (i_ (ByteArray.extract s at_.toNat s.size)).1).1,()))):Ty.d cX)::(fU s d (at_+(i_ (ByteArray.extract s at_.toNat s.size)).2)).1,
   (fU s d (at_+(i_ (ByteArray.extract s at_.toNat s.size)).2)).2)
noncomputable def b9 (s:ByteArray):List (Ty.d cX) × Int:=fU s (s.size+1) 0
theorem tH (s:ByteArray) (n:Nat):(ByteArray.extract s n s.size).size=s.size-n:=by rw [← dD,j7,List.length_drop,dD]
theorem TP {k:Nat} (hk:2 ^ 50≤k) {s:ByteArray} (hs:s.size≤1099511627776):∀ (d n:Nat) (i:Int) (out:List (Ty.d cX)),0≤i→i≤s.size→(s.size:Int)-i<d→d≤n→(out.length:Int)≤i →
 cu.l0 k n s i out=some (out++(fU s d i).1,((fU s d i).2,()))∧gX.l0 k n s i out=some (out++(fU s d i).1,((fU s d i).2,())):=by
 intro d
 induction d with
 | zero=>intro n i out h0 h1 h2;omega
 | succ d ih =>
  intro n i out h0 h1 h2 h3 h4;obtain ⟨n,rfl⟩:∃ q,n=q+1:=⟨n-1,by omega⟩;have hz:=tH s i.toNat;have hu:=oB (ByteArray.extract s i.toNat s.size);have e1:=mU hk (s:=ByteArray.extract s i.toNat s.size) (by omega);have e2:=Ah hk (s:=ByteArray.extract s i.toNat s.size) (by omega);have hnil:i=s.size→(i_ (ByteArray.extract s i.toNat s.size)).2=0:=fun q=>by have:ByteArray.extract s i.toNat s.size=⟨#[]⟩:=jt (by rw [j7,List.drop_eq_nil_of_le (by rw [dD];omega)];rfl);rw [this,yk]
  simp only [fU];generalize i_ (ByteArray.extract s i.toNat s.size)=u at *;have e3:=sa hk (s:=u.1) (by omega);have e4:=zO hk (s:=u.1) (by omega);generalize gq u.1=r at *;by_cases c:u.2=0
  · rw [if_pos c];have cb:(u.2==0)=true:=by rw [c];rfl
    simp only [List.append_nil];constructor
    · simp (disch:=omega) only [cu.l0,cu.b0,d7,e1,e3,ac,cb,ae]
    · by_cases q:i<s.size
      · simp (disch:=omega) only [gX.l0,gX.b0,aX,d7,e2,e4,ac,cb,ae]
      · simp (disch:=omega) only [gX.l0,gX.b0,aZ,aH]
  · rw [if_neg c];have cb:(u.2==0)=false:=pG c;have hlt:i<s.size:=by
     rcases Int.lt_or_eq_of_le h1 with q | q
     · exact q
     · exact absurd (hnil q) c
    cases hr:r.2 with
    | false =>
     simp only [if_true,List.append_nil];constructor
     · simp (disch:=omega) only [cu.l0,cu.b0,d7,e1,e3,ac,cb,ae,aH,hr,yO]
     · simp (disch:=omega) only [gX.l0,gX.b0,aX,d7,e2,e4,ac,cb,ae,aH,hr,yO]
    | true =>
     rw [if_neg (by decide)];have hlen:out.length+1≤1099511627777:=by omega
     have ih:=ih n (i+u.2) (out++[(i,(u.2,(r.1,())))]) (by omega) (by omega) (by omega) (by omega) (by rw [rt];show ((out.length+1:Nat):Int)≤_;omega);simp only [qY,List.cons_append,List.nil_append] at ih;constructor
     · simp (disch:=first | omega | decide) only [cu.l0,cu.b0,d7,e1,e3,ac,cb,ae,aH,hr,g9,dT,aG];exact ih.1
     · simp (disch:=first | omega | decide) only [gX.l0,gX.b0,aX,d7,e2,e4,ac,cb,ae,aH,hr,g9,dT,aG];exact ih.2
theorem sH {k:Nat} (hk:2 ^ 50≤k) {s:ByteArray} (hs:s.size≤1099511627775):cu.f k s=some ((b9 s).1,((b9 s).2,())) :=
 (TP hk (by omega) (s.size+1) k 0 [] (by omega) (by omega) (by omega) (by omega) (by simp)).1
theorem xc (s:ByteArray):∀ (d:Nat) (i:Int),0≤i→i≤s.size→((fU s d i).1.length:Int)≤s.size-i∧i≤(fU s d i).2∧(fU s d i).2≤s.size
 | 0,i,h0,h1=>by simp only [fU,List.length_nil];omega
 | d+1,i,h0,h1=>by
  have hu:=oB (ByteArray.extract s i.toNat s.size);have hz:=tH s i.toNat;rw [fU];split
  · simp only [List.length_nil];omega
  · split
    · simp only [List.length_nil];omega
    · rename_i c1 c2;have ih:=xc s d (i+(i_ (ByteArray.extract s i.toNat s.size)).2) (by omega) (by omega);simp only [kM];omega
theorem lW (s:ByteArray):(b9 s).1.length≤s.size∧0≤(b9 s).2∧(b9 s).2≤s.size:=by have:=xc s (s.size+1) 0 (by omega) (by omega);unfold b9;omega
theorem PY (d:Nat) {a:Nat} (h:a<128):(vl d a).length=1:=by
 cases d with
 | zero=>rfl
 | succ d=>unfold vl;rw [if_neg (by omega)];rfl
theorem PI {a:Nat} (h:a<2097152):(vl 6 a).length≤3:=by
 unfold vl;split
 · rw [kM];unfold vl;split
   · rw [kM,PY 4 (by omega)];omega
   · simp
 · simp
theorem vE {a:Int} (h0:0≤a) (h1:a≤100000):(jK a).size≤3:=by obtain ⟨n,rfl⟩:=Int.eq_ofNat_of_zero_le h0;rw [dN (by omega),← tB (by omega)];exact PI (by omega)
def jV:List Int→ByteArray
 | []=>⟨#[]⟩
 | x::l=>jK x++jV l
theorem xv:∀ (l:List Int),(∀ x ∈ l,0≤x∧x≤100000)→(jV l).size≤3*l.length
 | [],_=>Nat.le_refl _
 | x::l,h=>by
  have h1:=vE (h x (iF ..)).1 (h x (iF ..)).2;have h2:=xv l fun y hy=>h y (jF _ hy)
  rw [jV,aV,kM];omega
theorem ql:∀ (l:List Int),(jV l).size≤7*l.length
 | []=>Nat.le_refl _
 | x::l=>by have h1:=bL x;have h2:=ql l;rw [jV,aV,kM];omega
def rY (v:Ty.d cC):ByteArray:=jK v.1++(jK (v.2.1.length:Int)++jV v.2.1)
def bZ (v:Ty.d cC):ByteArray:=if dK v=true then aM (rY v) else ⟨#[]⟩
theorem bD {nx:Int} {ids:List Int} (h:dK (nx,(ids,()))=true):1≤nx∧nx≤100000∧1≤ids.length∧ids.length≤60∧∀ x ∈ ids,0≤x∧x≤100000:=by unfold dK at h;simp only [gY,decide_eq_true_eq] at h;obtain ⟨h1,h2,h3⟩:=h;have h1a:1≤nx:=h1.1;have h1b:nx≤100000:=h1.2;refine ⟨h1a,h1b,by omega,by omega,fun x hx=>?_⟩;obtain ⟨p,hp⟩:=vt h3 hx;unfold qO at hp;rw [gY,decide_eq_true_eq] at hp;have hw:aU (nx-1)=nx-1:=aG (by omega) (by omega);have h4:x≤aU (nx-1):=hp.1.2;have h5:1≤x:=hp.1.1;omega
theorem Ik {nx:Int} {ids:List Int} (h:dK (nx,(ids,()))=true):(rY (nx,(ids,()))).size≤200:=by obtain ⟨h1,h2,h3,h4,h5⟩:=bD h;have a:=vE (a:=nx) (by omega) h2;have b:=vE (a:=(ids.length:Int)) (by omega) (by omega);have c:=xv ids h5;unfold rY;rw [aV,aV];simp only [];omega
noncomputable def dW (s:ByteArray):Ty.d cC × Bool:=pg (fun v=>dK v=true) bZ (0,([],())) s
def Qj:Option (Ty.d cC × Bool × Unit):=some ((0,([],())),(false,()))
theorem AE {x:Int} (h0:0≤x) (h1:x≤100000):∃ n:Nat,n<562949953421312∧x=(n:Int)∧jK x=bg n:=by obtain ⟨n,rfl⟩:=Int.eq_ofNat_of_zero_le h0;exact ⟨n,by omega,rfl,dN (by omega)⟩
def Qz (s:ByteArray) (m a:Int) (out:List Int) (r:ByteArray) (bad:Bool):Option (Ty.d cC × Bool × Unit) :=
 bif m==0 then Qj else bif m != (s.size:Int) then Qj else bif bad then Qj else bif !seq r ⟨#[]⟩ then Qj else bif !dK (a,(out,())) then Qj else some ((a,(out,())),(true,()))
theorem yz {k:Nat} (hk:2 ^ 50≤k) {s r:ByteArray} {m a:Int} {out:List Int} {bad:Bool} (ho:out.length≤1099511627776) :
 @Eq (Option (Ty.d cC × Bool × Unit)) (bif (m==0) then (some ((0,([],())),(false,()))) else (bif (m != (ByteArray.size s:Int)) then (some ((0,([],())),(false,()))) else (bif bad then (some ((0,([],())),(false,()))) else (bif (!(seq r (⟨#[]⟩:ByteArray))) then (some ((0,([],())),(false,()))) else (Option.bind (cw.f k (a,(out,()))) fun r5=>(bif (!r5.1) then (some ((0,([],())),(false,()))) else (some ((a,(out,())),(true,()))))))))) (Qz s m a out r bad):=by
 rw [sG hk (v:=(a,(out,()))) ho];rfl
theorem Fs {k:Nat} (hk:2 ^ 50≤k) {s:ByteArray} (m a:Int):∀ (ids:List Int) (n:Nat) (j c:Int) (out:List Int),(∀ x ∈ ids,0≤x∧x≤100000)→ids.length<n→0≤j→c=j+ids.length→c≤60→(out.length:Int)≤j →
 ax.l0 k n s m c j [] 0 (jV ids) false out a=Qz s m a (out++ids) ⟨#[]⟩ false:=by
 intro ids
 induction ids with
 | nil =>intro n j c out h hn h0 hc h1 ho;obtain ⟨n,rfl⟩:∃ q,n=q+1:=⟨n-1,by omega⟩;rw [List.length_nil] at hc;simp only [ax.l0,ax.b0];rw [aZ (show ¬ j<c by omega),aH,List.append_nil];exact yz hk (bad:=false) (by omega)
 | cons x ids ih =>intro n j c out h hn h0 hc h1 ho;rw [kM] at hn hc;obtain ⟨n,rfl⟩:∃ q,n=q+1:=⟨n-1,by omega⟩;obtain ⟨b,hb,hx,hv⟩:=AE (h x (iF ..)).1 (h x (iF ..)).2;have hts:=ql ids;have ih:=ih n (j+1) c (out++[x]) (fun y hy=>h y (jF _ hy)) (by omega) (by omega) (by omega) h1 (by rw [fq];omega);simp only [ax.l0,ax.b0];rw [aX (show j<c by omega),ae,yO,ae,show jV (x::ids)=bg b++jV ids by rw [jV,hv],fF hk hb (by omega),ac];simp only [];rw [dT (by omega) (by decide),aG (by omega) (by omega),← hx,ih,qY];rfl
theorem oY {k:Nat} (hk:2 ^ 50≤k) {nx:Int} {ids:List Int} (h:dK (nx,(ids,()))=true):ax.f k (bZ (nx,(ids,())))=some ((nx,(ids,())),(true,())):=by
 obtain ⟨g1,g2,g3,g4,g5⟩:=bD h;have hz:=Ik h;have hf:=lE hz;have hfs:=mL (rY (nx,(ids,())));have hu:=oA ⟨#[]⟩ hz;rw [iR] at hu;have e:bZ (nx,(ids,()))=aM (rY (nx,(ids,()))):=if_pos h;obtain ⟨a,ha,hx,hv⟩:=AE (x:=nx) (by omega) g2;obtain ⟨b,hb,hy,hw⟩:=AE (x:=(ids.length:Int)) (by omega) (by omega);have ht:rY (nx,(ids,()))=bg a++(bg b++jV ids):=by unfold rY;rw [← hv,← hw]
 have hvs:=ql ids;have hvb:=ap b;have hl:=Fs hk (s:=bZ (nx,(ids,()))) ((bZ (nx,(ids,()))).size:Int) nx ids k 0 (b:Int) [] g5 (by omega) (by omega) (by omega) (by omega) (by simp);have hu1:i_ (bZ (nx,(ids,())))=(rY (nx,(ids,())),((bZ (nx,(ids,()))).size:Int)):=by rw [e];exact hu
 unfold ax.f ax.t;rw [mU hk (by rw [e];omega),ac,hu1];simp only [];rw [ht,fF hk ha (by rw [aV];omega),ac];simp only [];rw [fF hk hb (by omega),ac];simp only [];rw [← hx,hl,List.nil_append];unfold Qz;rw [show (((bZ (nx,(ids,()))).size:Int)==0)=false from pG (by rw [e];omega),show (((bZ (nx,(ids,()))).size:Int) != ((bZ (nx,(ids,()))).size:Int))=false by simp,bB,h];rfl
theorem Dz {k:Nat} (hk:2 ^ 50≤k) {s:ByteArray} (m a c:Int):∀ (n:Nat) (rest:ByteArray) (j:Int) (out:List Int),rest.size+2≤n→0≤j→j≤c→c<562949953421312→out.length+rest.size≤1000000 →
 (∃ xs r,rest=jV xs++r∧(xs.length:Int)=c-j∧ax.l0 k n s m c j [] 0 rest false out a=Qz s m a (out++xs) r false)∨(∃ o r,ax.l0 k n s m c j [] 0 rest false out a=Qz s m a o r true):=by
 intro n
 induction n with
 | zero=>intro rest j out h1;omega
 | succ n ih =>
  intro rest j out h1 h2 h3 h4 h5;by_cases c1:j<c
  · rcases kc rest with ⟨b,t,hb,rfl⟩ | hbad
    · have hvb:=ap b;rw [aV] at h1 h5;have e:ax.l0 k (n+1) s m c j [] 0 (bg b++t) false out a=ax.l0 k n s m c (j+1) [] 0 t false (out++[(b:Int)]) a:=by
       simp only [ax.l0,ax.b0];rw [aX c1,ae,yO,ae,fF hk hb (by omega),ac];simp only [];rw [dT (by omega) (by decide),aG (by omega) (by omega)]
      rw [e];rcases ih t (j+1) (out++[(b:Int)]) (by omega) (by omega) (by omega) h4 (by rw [fq];omega) with ⟨xs,r,g1,g2,g3⟩ | g
      · refine .inl ⟨(b:Int)::xs,r,?_,by rw [kM];omega,?_⟩
        · rw [jV,dN hb,g1,bY]
        · rw [g3,qY];rfl
      · exact .inr g
    · refine .inr ?_;obtain ⟨n,rfl⟩:∃ q,n=q+1:=⟨n-1,by omega⟩;refine ⟨out++[0],rest,?_⟩;simp only [ax.l0,ax.b0];rw [aX c1,ae,yO,ae,mg hk hbad (by omega),ac];simp only [];rw [dT (by omega) (by decide),aG (by omega) (by omega),g9,aH];rw [yz hk (bad:=true) (by rw [fq];omega)];cases decide (j+1<c) <;> rfl
  · refine .inl ⟨[],rest,by rw [jV,nr],by rw [List.length_nil];omega,?_⟩;simp only [ax.l0,ax.b0];rw [aZ c1,aH,List.append_nil];exact yz hk (bad:=false) (by omega)
theorem Jp (s:ByteArray) (m a:Int) (o:List Int) (r:ByteArray):Qz s m a o r true=Qj:=by unfold Qz;cases m==0 <;> cases m != (s.size:Int) <;> rfl
theorem wi {k:Nat} (hk:2 ^ 50≤k) (s:ByteArray) (m a c:Int) (r:ByteArray):ax.l0 k k s m c 0 [] 0 r true [] a=Qj:=by
 obtain ⟨n,hn⟩:∃ q,k=q+1:=⟨k-1,by omega⟩;have e:ax.l0 k (n+1) s m c 0 [] 0 r true [] a=Qj:=by simp only [ax.l0,ax.b0];rw [g9,aH,yz hk (bad:=true) (by simp),Jp];cases decide (0<c) <;> rfl
 rw [← hn] at e;exact e
theorem yR {k:Nat} (hk:2 ^ 50≤k) {s:ByteArray} (hs:s.size≤1099511627776):ax.f k s=some ((dW s).1,((dW s).2,())):=by
 refine u6 (fun v h1 h2=>?_) ?_
 · subst h2;exact oY hk (nx:=v.1) (ids:=v.2.1) h1
 · unfold ax.f ax.t;rw [mU hk hs,ac];have hu:=oB s;have hc:=n7 s;generalize i_ s=u at hu hc;obtain ⟨t,m⟩:=u;simp only [] at hu ⊢;rcases kc t with ⟨a,t1,ha,e1⟩ | hb
   case inr =>rw [mg hk hb (by omega),ac];simp only [];rw [y6 hk (by omega),ac];simp only [];rw [wi hk];exact .inr rfl
   have z1:t.size=(bg a).size+t1.size:=by rw [e1,aV]
   rw [show aJ.f k (t,(false,()))=some ((t1,(false,())),((a:Int),())) by rw [e1];exact fF hk ha (by omega),ac];simp only [];rcases kc t1 with ⟨c,t2,hcl,e2⟩ | hb
   case inr =>rw [mg hk hb (by omega),ac];simp only [];rw [wi hk];exact .inr rfl
   have z2:t1.size=(bg c).size+t2.size:=by rw [e2,aV]
   rw [show aJ.f k (t1,(false,()))=some ((t2,(false,())),((c:Int),())) by rw [e2];exact fF hk hcl (by omega),ac];simp only [];rcases Dz hk (s:=s) m (a:Int) (c:Int) k t2 0 [] (by omega) (by omega) (by omega) (by omega) (by rw [List.length_nil];omega) with ⟨xs,r,g1,g2,g3⟩ | ⟨o,r,g⟩
   case inr=>rw [g,Jp];exact .inr rfl
   rw [g3,List.nil_append];unfold Qz;by_cases c2:m=0
   case pos=>rw [show (m==0)=true from beq_iff_eq.2 c2];exact .inr rfl
   rw [show (m==0)=false from pG c2,aH];by_cases c1:m=(s.size:Int)
   case neg=>rw [show (m != (s.size:Int))=true from bne_iff_ne.2 c1];exact .inr rfl
   rw [show (m != (s.size:Int))=false by rw [c1];simp,aH,aH];cases c3:seq r ⟨#[]⟩ with
   | false=>exact .inr rfl
   | true =>
    rw [g9,aH];cases c4:dK ((a:Int),(xs,())) with
    | false=>exact .inr rfl
    | true =>
     refine .inl ⟨((a:Int),(xs,())),c4,?_,rfl⟩;have hr:=cF.1 c3;subst hr;rw [iR] at g1;rcases hc with ⟨t',r',h1,h2,h3⟩ | ⟨h1,_⟩
     · obtain ⟨rfl,hm⟩:=Prod.mk.inj h3;have hr':r'=⟨#[]⟩:=by
        have hsz:=congrArg ByteArray.size h2;rw [aV] at hsz;have:r'.size=0:=by omega
        exact jt (by
         have hn:=dD r';rw [this] at hn;rw [List.length_eq_zero_iff.1 hn];rfl)
       rw [h2,hr',iR];show bZ ((a:Int),(xs,()))=aM t;rw [show bZ ((a:Int),(xs,()))=aM (rY ((a:Int),(xs,()))) from if_pos c4];congr 1;rw [e1,e2,g1];unfold rY;simp only [];rw [dN ha,show (xs.length:Int)=(c:Int) by omega,dN hcl]
     · exact absurd (Prod.mk.inj h1).2 c2
end Go.Proofs.YteejjngdagmofaaGreatDoor.G
namespace Go.V
def Tu (n:Int):Prop := -999999999≤n∧n≤999999999
end Go.V
namespace Go.Proofs.YteejjngdagmofaaGreatDoor.G
open Go.V
noncomputable def cY (s:ByteArray):Int × Bool:=pg Tu dp 0 s
theorem l_ (k:Nat) {s:ByteArray} (hs:s.size≤281474976710656):bj.f k s=some ((cY s).1,((cY s).2,())):=by
 unfold bj.f;rw [aX hs,ae];refine u6 (fun n h1 h2=>?_) ?_
 · obtain ⟨g0,g1⟩:=h1;have he:s.data.toList=Go.Lib.itoa n:=by rw [← h2];unfold dp;rw [List.toList_toArray]
   rw [he,Ml (by omega) (by omega)];unfold bj.r;simp only [];rw [show seq ⟨(Go.Lib.itoa n).toArray⟩ s=true from cF.2 h2,aX ⟨g0,g1⟩];rfl
 · cases Go.Lib.atoiAll s.data.toList with
   | ok v =>
    unfold bj.r;simp only [];cases e:seq ⟨(Go.Lib.itoa v).toArray⟩ s&&decide (-999999999≤v∧v≤999999999) with
    | false=>exact .inr rfl
    | true =>rw [gY,decide_eq_true_eq] at e;exact .inl ⟨v,e.2,cF.1 e.1,rfl⟩
   | _=>exact .inr rfl
theorem pU {n:Int} (h:Tu n):cY (dp n)=(n,true):=F7 (fun _ _ _ _ e=>zl e) h
def rj (s p:ByteArray):Bool:=decide (p.size≤s.size)&&seq (ByteArray.extract s 0 p.size) p
theorem QT (s p:ByteArray):Go.Lib.hasPrefix s.data.toList p.data.toList=rj s p:=(Go.Lib.hasPrefix_raw s p).symm
theorem Po {s p:ByteArray} (h:rj s p=true):p.size≤s.size:=by unfold rj at h;rw [gY,decide_eq_true_eq] at h;exact h.1
theorem H_ (p t:ByteArray):rj (p++t) p=true:=by unfold rj;rw [aX (by rw [ByteArray.size_append];omega),AW,bB];rfl
theorem zt {s p:ByteArray} (h:rj s p=true):s=p++ByteArray.extract s p.size s.size:=by have hl:=Po h;unfold rj at h;rw [gY] at h;have e:=cF.1 h.2;have:=vX s hl;rw [e] at this;exact this
theorem wF (k:Nat) (s p:ByteArray):iK.f k s p=some (bif rj s p then ByteArray.extract s p.size s.size else s,(rj s p,())):=by
 unfold iK.f Go.Lib.trimPrefix;rw [QT];cases rj s p with
 | false=>rfl
 | true =>
  have:(⟨(if true=true then List.drop p.data.toList.length s.data.toList else s.data.toList).toArray⟩:ByteArray)=ByteArray.extract s p.size s.size:=by rw [if_pos rfl];apply jt;rw [j7];unfold nb;rw [List.toList_toArray,List.map_drop,Array.length_toList];rfl
  rw [this];rfl
def uF (l:List Int) (x:Int):Bool:=l.any fun y=>y==x
def bG:ByteArray:=⟨#[104,105,110,116]⟩
def SK (s:ByteArray) (n:Int):Prop:=1≤n∧n≤100000∧(s=aD++dp n∨s=bG++dp n)
theorem BP (a b:ByteArray):aD++a≠bG++b:=fun h=>by have:=congrArg nb h;rw [gS,gS,show nb aD=[115,101,103] from rfl,show nb bG=[104,105,110,116] from rfl] at this;simp at this
theorem QA {s:ByteArray} {n m:Int} (h:SK s n) (g:SK s m):n=m:=by
 rcases h.2.2 with h1 | h1 <;> rcases g.2.2 with g1 | g1
 · exact zl (um (h1.symm.trans g1))
 · exact absurd (h1.symm.trans g1) (BP _ _)
 · exact absurd (g1.symm.trans h1) (BP _ _)
 · exact zl (um (h1.symm.trans g1))
noncomputable def Kh (s:ByteArray):Int × Bool:=pg (SK s) (fun _=>s) 0 s
theorem OS (n:Int):0<(dp n).size:=by
 rw [← dD,pX];split
 · rw [kM];omega
 · rw [List.length_map];exact List.length_pos_iff.2 (rN _)
theorem Cd (s:ByteArray) (n:Nat):(ByteArray.extract s n s.size).size=s.size-n:=by rw [← dD,j7,List.length_drop,dD]
noncomputable def Bn (s p:ByteArray):Option (Int × Bool × Unit) :=
 bif rj s p&&((cY (ByteArray.extract s p.size s.size)).2&&decide ((1:Int)≤(cY (ByteArray.extract s p.size s.size)).1∧(cY (ByteArray.extract s p.size s.size)).1≤100000)) then some ((cY (ByteArray.extract s p.size s.size)).1,(true,())) else some (0,(false,()))
theorem NL {s p:ByteArray} (h:Bn s p≠some (0,(false,()))):∃ n,1≤n∧n≤100000∧s=p++dp n∧Bn s p=some (n,(true,())):=by
 unfold Bn at h ⊢;cases c:rj s p&&((cY (ByteArray.extract s p.size s.size)).2&&decide ((1:Int)≤(cY (ByteArray.extract s p.size s.size)).1∧(cY (ByteArray.extract s p.size s.size)).1≤100000)) with
 | false=>rw [c] at h;exact absurd rfl h
 | true =>
  simp only [gY,decide_eq_true_eq] at c;obtain ⟨c1,c2,c3⟩:=c;have e:cY (ByteArray.extract s p.size s.size)=((cY (ByteArray.extract s p.size s.size)).1,true):=by rw [← c2]
  have q:=yl e;exact ⟨_,c3.1,c3.2,by rw [q.2];exact zt c1,rfl⟩
theorem O5 {p:ByteArray} {n:Int} (h0:1≤n) (h1:n≤100000):Bn (p++dp n) p=some (n,(true,())):=by unfold Bn;rw [H_,show ByteArray.extract (p++dp n) p.size (p++dp n).size=dp n from gO p (dp n),pU ⟨by omega,by omega⟩];simp only [];rw [aX ⟨h0,h1⟩];rfl
theorem Lw (k:Nat) {s:ByteArray} (hs:s.size≤281474976710656):lT.f k s=some ((Kh s).1,((Kh s).2,())):=by
 have e:lT.f k s=bif rj s aD then Bn s aD else Bn s bG:=by
  unfold lT.f lT.t;rw [show (⟨#[115,101,103]⟩:ByteArray)=aD from rfl,show (⟨#[104,105,110,116]⟩:ByteArray)=bG from rfl,wF,wF];simp only [ac];unfold Bn;have h3:=Cd s aD.size;have h4:=Cd s bG.size;cases rj s aD with
  | true =>simp only [g9,aH,ae,Bool.true_and];rw [l_ k (by omega),ac];simp only [iU k,ac];generalize cY (ByteArray.extract s aD.size s.size)=r;cases r.2 <;> cases decide ((1:Int)≤r.1∧r.1≤100000) <;> rfl
  | false =>
   simp only [yO,aH,ae];cases rj s bG with
   | true =>simp only [g9,aH,ae,Bool.true_and];rw [l_ k (by omega),ac];simp only [iU k,ac];generalize cY (ByteArray.extract s bG.size s.size)=r;cases r.2 <;> cases decide ((1:Int)≤r.1∧r.1≤100000) <;> rfl
   | false =>simp only [yO,aH,ae,Bool.false_and];rw [l_ k hs,ac]
 rw [e];refine u6 (fun n h1 _=>?_) ?_
 · rcases h1.2.2 with q | q
   · rw [q,H_,ae,O5 h1.1 h1.2.1]
   · have hp:rj s aD=false:=by
      cases c:rj s aD with
      | false=>rfl
      | true=>exact absurd ((zt c).symm.trans q) (BP _ _)
     rw [hp,aH,q,O5 h1.1 h1.2.1]
 · cases rj s aD with
   | true =>
    rw [ae];by_cases c:Bn s aD=some (0,(false,()))
    · exact .inr c
    · obtain ⟨n,h0,h1,h2,h3⟩:=NL c;exact .inl ⟨n,⟨h0,h1,.inl h2⟩,rfl,h3⟩
   | false =>
    rw [aH];by_cases c:Bn s bG=some (0,(false,()))
    · exact .inr c
    · obtain ⟨n,h0,h1,h2,h3⟩:=NL c;exact .inl ⟨n,⟨h0,h1,.inr h2⟩,rfl,h3⟩
theorem Fe {k:Nat} (hk:2 ^ 50≤k) {l:List Int} (hl:l.length≤1099511627776) (x:Int):gQ.f k l x=some (uF l x,()):=by
 unfold gQ.f gQ.t;refine iZ (L:=fun n i (_:Unit)=>gQ.l0 k n x l l.length i) (R:=fun r _=>some (uF r x,())) (Ty.z (.int .i64)) l (fun _ _=>True) (fun n _ _=>?_) (fun n i _ y rest h0 h1 hx hr hp ih=>?_) (n:=k) (s:=()) (by omega) trivial
 · simp (disch:=omega) only [gQ.l0,gQ.b0,aZ,aH];rfl
 · have ih:=ih () trivial;have e:uF (y::rest) x=((y==x)||uF rest x):=rfl;simp (disch:=omega) only [gQ.l0,gQ.b0,aX h1,ae,aY,hx,aG,ih,e];cases y==x <;> rfl
def gT:ByteArray:=⟨#[116,101,109,112]⟩
noncomputable def na (ids:List Int) (f:Ty.d aF):Bool:=((Kh f.1).2&&!uF ids (Kh f.1).1)||seq f.1 gT
noncomputable def qP (ids:List Int):ao→List ByteArray→List ByteArray
 | [],acc=>acc
 | f::l,acc=>qP ids l (bif na ids f then acc++[f.1] else acc)
noncomputable def rW (d:Ty.d aA) (ids:List Int):List ByteArray:=bif fZ d then qP ids d.1 [] else []
theorem MK {d:Ty.d aA} (h:fZ d=true):d.1.length≤130:=by unfold fZ at h;rw [gY,decide_eq_true_eq] at h;exact h.1
theorem Ga {k:Nat} (hk:2 ^ 50≤k) {d:Ty.d aA} {v:Ty.d cC} (hu:bv d.1≤1099511627776) (hn:uN d.1≤1099511627776) (hv:v.2.1.length≤1099511627776):fM.f k d v=some (rW d v.2.1,()):=by
 unfold fM.f fM.t rW;rw [fa hk hu hn,ac];cases cd:fZ d with
 | false=>rfl
 | true =>
  have hl:=MK cd;rw [g9,aH,ae];refine iZ (L:=fun n i s=>fM.l0 k n d.1 d.1.length i v.1 v.2.1 s) (R:=fun r s=>some (qP v.2.1 r s,())) (Ty.z aF) d.1 (fun i s=>(s.length:Int)≤i) (fun n s hs=>?_) (fun n i s x rest h0 h1 hx hr hs ih=>?_) (n:=k) (s:=[]) (by omega) (by simp)
  · simp (disch:=omega) only [fM.l0,fM.b0,aZ,aH,qP]
  · have hm:x ∈ d.1:=by rw [← hx];exact eE (by omega)
    have hz:=xB hm;have iY:=ih (s++[x.1]) (by rw [fq];omega);have iN:=ih s (by omega);simp (disch:=first | omega | decide) only [fM.l0,fM.b0,aX h1,ae,aY,hx,Lw k,ac,Fe hk hv,dT,aG,iY,iN];rw [show qP v.2.1 (x::rest) s=qP v.2.1 rest (bif na v.2.1 x then s++[x.1] else s) from rfl,show (⟨#[116,101,109,112]⟩:ByteArray)=gT from rfl];unfold na;cases (Kh x.1).2 <;> cases uF v.2.1 (Kh x.1).1 <;> cases seq x.1 gT <;> rfl
theorem sQ {k:Nat} (hk:2 ^ 50≤k) {l:List Int} (hl:l.length≤1073741824):dM.f k l=some (jV l,()):=by
 unfold dM.f dM.t;refine (iZ (L:=fun n i s=>dM.l0 k n s l l.length i) (R:=fun r s=>some (s++jV r,())) (Ty.z (.int .i64)) l (fun i s=>(s.size:Int)≤7*i) (fun n s hs=>?_) (fun n i s x rest g0 g1 hx hr hs ih=>?_) (n:=k) (s:=⟨#[]⟩) (by omega) (by decide)).trans (by rw [nr])
 · simp (disch:=omega) only [dM.l0,dM.b0,aZ,aH];rw [show jV []=⟨#[]⟩ from rfl,iR]
 · have hv:=bL x;have ih:=ih (s++jK x) (by rw [aV];omega);simp (disch:=omega) only [dM.l0,dM.b0,aX g1,ae,aY,hx,oU hk,ac,eZ,aG,ih];rw [bY];rfl
theorem yU {k:Nat} (hk:2 ^ 50≤k) (v:Ty.d cC) (hl:v.2.1.length≤1073741824):ip.f k v=some (bZ v,()):=by
 unfold ip.f ip.t bZ;rw [sG hk (by omega),ac];cases c:dK v with
 | false=>rfl
 | true =>have a:=bL v.1;have b:=bL (v.2.1.length:Int);have d:=ql v.2.1;rw [g9,aH,C0 hk,ac,sQ hk hl,ac,if_pos rfl];simp only [];rw [eZ (by rw [aV];omega),o5 hk,ac,bY];rfl
theorem lk (k:Nat) (n:Int):dF.f k n=some (a_ bG n,()):=by unfold dF.f dF.t;rw [show (⟨#[104,105,110,116]⟩:ByteArray)=bG from rfl,wQ k (by decide) n];rfl
theorem Fg (v:Ty.d cC):(bZ v).size≤1099511627776:=by
 unfold bZ;split
 · have:=mL (rY v);omega
 · decide
theorem FX {p:ByteArray} (hp:p=aD∨p=bG) (n:Int):(a_ p n).size≤1000:=by
 have hs:p.size≤4:=by rcases hp with q | q <;> rw [q] <;> decide
 unfold a_;by_cases h:(1:Int)≤n∧n≤100000
 · have:=m0 (n:=n) (by omega) (by omega);rw [aX h,ae,ByteArray.size_append];omega
 · rw [aZ h,aH];decide
abbrev RD:=Ty.d aA × Int
def dz (r:RD) (f:Ty.d aA→RD):RD:=bif r.2==0 then f r.1 else r
def fj (c:Int):Int:=bif c==0 then 0 else bif c==1 then 1 else bif c==2 then 2 else 3
def wk (f:Ty.d aA→RD) (r:RD):RD:=bif r.2==0 then ((f r.1).1,fj (f r.1).2) else r
def wO (r:RD):Ty.d aj:=(r.1,(r.2,()))
def c_:ByteArray:=⟨#[108,105,118,101]⟩
def fG (s:ByteArray) (d:Ty.d aA):RD:=bif (b8 d.1 s).isSome then ui d s else (d,0)
def ak (s:ByteArray) (d:Ty.d aA):RD:=dz (fG s d) fun x=>nh x s
def jw (s t:ByteArray) (d:Ty.d aA):RD:=dz (dz (ak s d) fun x=>h_ x s t) fun x=>cQ x s
def an (v:Ty.d cC) (d:Ty.d aA):RD:=dz (jw gT (bZ v) d) fun x=>uC x gT c_
def bX:List ByteArray→Ty.d aA→RD
 | [],d=>(d,0)
 | s::l,d=>dz (fG s d) (bX l)
noncomputable def fw (ids:List Int) (d:Ty.d aA):RD:=bX (rW d ids) d
theorem fV (c:Int):(fj c==0)=(c==0):=by
 unfold fj;cases h:c==0 with
 | true=>rfl
 | false =>
  cases c==1
  · cases c==2 <;> rfl
  · rfl
theorem rG (f g:Ty.d aA→RD) (r:RD):wk (fun x=>dz (f x) g) r=wk g (wk f r):=by
 unfold wk dz;cases h:r.2==0 with
 | false=>simp only [aH,h]
 | true =>simp only [ae,fV];cases (f r.1).2==0 <;> rfl
theorem Ej (r:RD):wk (fun d=>(d,0)) r=r:=by
 unfold wk;cases h:r.2==0 with
 | false=>rfl
 | true=>exact Prod.ext rfl (by show fj 0=r.2;rw [BU h];rfl)
theorem iI {r:RD} {f:Ty.d aA→RD} (h:DR r.1) (hf:∀ x,DR x→DR (f x).1):DR (dz r f).1:=by
 unfold dz;cases r.2==0
 · exact h
 · exact hf _ h
theorem rZ {r:RD} {f:Ty.d aA→RD} (h:DR r.1) (hf:∀ x,DR x→DR (f x).1):DR (wk f r).1:=by
 unfold wk;cases r.2==0
 · exact h
 · exact hf _ h
theorem nF (s:ByteArray) (d:Ty.d aA) (h:DR d):DR (fG s d).1:=by
 unfold fG;cases (b8 d.1 s).isSome
 · exact h
 · exact IJ h s
theorem j8 (s:ByteArray) (d:Ty.d aA) (h:DR d):DR (ak s d).1:=iI (nF s d h) fun x hx=>xY hx s
theorem jj (s t:ByteArray) (d:Ty.d aA) (h:DR d):DR (jw s t d).1:=iI (iI (j8 s d h) fun x hx=>oP hx s t) fun x hx=>m9 hx s
theorem kR (v:Ty.d cC) (d:Ty.d aA) (h:DR d):DR (an v d).1:=iI (jj _ _ d h) fun x hx=>O7 hx _ _
theorem jy:∀ (l:List ByteArray) (d:Ty.d aA),DR d→DR (bX l d).1
 | [],d,h=>h
 | s::l,d,h=>iI (nF s d h) (jy l)
theorem t_ (ids:List Int) (d:Ty.d aA) (h:DR d):DR (fw ids d).1:=jy _ d h
theorem LN {l:ao} {s:ByteArray}:decide (nl l s 0≥0)=(b8 l s).isSome:=by
 rcases kp l s 0 with ⟨h1,h2,_⟩ | ⟨n,h1,h2,h3,_⟩
 · rw [h1,h2];rfl
 · rw [h2,h3,aX (by omega)];rfl
theorem GC (ids:List Int):∀ (l:ao) (acc:List ByteArray),qP ids l acc=acc++(l.filter (na ids)).map (·.1)
 | [],acc=>by unfold qP;simp
 | f::l,acc=>by
  unfold qP;rw [GC ids l];cases c:na ids f
  · rw [aH,List.filter_cons_of_neg (by rw [c];decide)]
  · rw [ae,List.filter_cons_of_pos c,List.map_cons,qY];rfl
theorem Ma {d:Ty.d aA} (ids:List Int):(rW d ids).Sublist (je d.1):=by
 unfold rW;cases fZ d
 · exact List.nil_sublist _
 · rw [ae,GC,List.nil_append];exact (List.filter_sublist).map _
theorem yf {l:ao} {s t:ByteArray} (h:t≠s):b8 (gP l s) t=b8 l t:=by
 induction l with
 | nil=>rfl
 | cons g l ih =>
  unfold gP;cases c:seq g.1 s with
  | true =>rw [ae,b8.eq_2,jr (fun q=>h (by rw [← q,cF.1 c])),aH]
  | false =>rw [aH,b8.eq_2,b8.eq_2,ih]
theorem H5 (k:Nat) (c:Int):mK.f k c=some (fj c,()):=by unfold mK.f mK.t fj;cases c==0 <;> cases c==1 <;> cases c==2 <;> rfl
theorem tq (k:Nat) (w:Ty.d aj) (d:Ty.d aA) (c:Int):aw.f k w d c=some ((d,(fj c,())),()):=by unfold aw.f aw.t;rw [H5,ac]
theorem DF {k:Nat} (hk:2 ^ 50≤k) (r:RD) (h:DR r.1) {s:ByteArray} (hs:s.size≤1099511627776):dG.f k (wO r) s=some (wO (wk (fun x=>nh x s) r),()):=by
 unfold dG.f dG.t wk wO;simp only [];cases c:r.2==0 with
 | false=>rfl
 | true=>rw [ae,ae,IK hk h.sz hs,ac,tq,ac]
theorem wu {k:Nat} (hk:2 ^ 50≤k) (r:RD) (h:DR r.1) (s:ByteArray) {t:ByteArray} (ht:t.size≤1099511627776):cJ.f k (wO r) s t=some (wO (wk (fun x=>h_ x s t) r),()):=by
 unfold cJ.f cJ.t wk wO;simp only [];cases c:r.2==0 with
 | false=>rfl
 | true=>rw [ae,ae,Iq hk h.sz s ht,ac,tq,ac]
theorem o7 {k:Nat} (hk:2 ^ 50≤k) (r:RD) (h:DR r.1) (s:ByteArray):bM.f k (wO r) s=some (wO (wk (fun x=>cQ x s) r),()):=by
 unfold bM.f bM.t wk wO;simp only [];cases c:r.2==0 with
 | false=>rfl
 | true=>rw [ae,ae,I1 hk h.sz s,ac,tq,ac]
theorem LX {k:Nat} (hk:2 ^ 50≤k) (r:RD) (h:DR r.1) (a:ByteArray) {b:ByteArray} (hb:b.size≤1099511627776):eQ.f k (wO r) a b=some (wO (wk (fun x=>uC x a b) r),()):=by
 unfold eQ.f eQ.t wk wO;simp only [];cases c:r.2==0 with
 | false=>rfl
 | true=>rw [ae,ae,JM hk h.sz a hb,ac,tq,ac]
theorem m_ {k:Nat} (hk:2 ^ 50≤k) (r:RD) (h:DR r.1) (s:ByteArray):bA.f k (wO r) s=some (wO (wk (fG s) r),()):=by
 have hl:=h.sz.l;unfold bA.f bA.t wk wO fG;simp only [];cases c:r.2==0 with
 | false=>rfl
 | true =>
  rw [ae,ae,jW hk (by omega),ac];simp only [LN];cases (b8 r.1.1 s).isSome with
  | true=>rw [ae,ae,J9 hk h.sz s,ac,tq,ac]
  | false =>simp only [aH];rw [BU c];rfl
theorem qx {k:Nat} (hk:2 ^ 50≤k) (r:RD) (h:DR r.1) {s:ByteArray} (hs:s.size≤1099511627776):cV.f k (wO r) s=some (wO (wk (ak s) r),()):=by unfold cV.f cV.t;rw [m_ hk r h,ac];simp only [];rw [DF hk _ (rZ h (nF s)) hs,ac,← rG];rfl
theorem B1 {k:Nat} (hk:2 ^ 50≤k) (r:RD) (h:DR r.1) {s t:ByteArray} (hs:s.size≤1099511627776) (ht:t.size≤1099511627776):dE.f k (wO r) s t=some (wO (wk (jw s t) r),()):=by unfold dE.f dE.t;rw [qx hk r h hs,ac];simp only [];have h1:=rZ (r:=r) h (j8 s);rw [wu hk _ h1 s ht,ac];simp only [];rw [o7 hk _ (rZ h1 fun x hx=>oP hx s t) s,ac,← rG (ak s) (fun x=>h_ x s t),← rG];rfl
theorem q7 {k:Nat} (hk:2 ^ 50≤k) (r:RD) (h:DR r.1) {v:Ty.d cC} (hv:v.2.1.length≤1073741824):bx.f k (wO r) v=some (wO (wk (an v) r),()):=by unfold bx.f bx.t;rw [yU hk v hv,ac,show (⟨#[116,101,109,112]⟩:ByteArray)=gT from rfl,show (⟨#[108,105,118,101]⟩:ByteArray)=c_ from rfl];simp only [];rw [B1 hk r h (s:=gT) (t:=bZ v) (by decide) (Fg v),ac];simp only [];rw [LX hk _ (rZ h (jj _ _)) gT (b:=c_) (by decide),ac,← rG];rfl
theorem z_ (s:ByteArray) (l:List ByteArray) (r:RD):wk (bX (s::l)) r=wk (bX l) (wk (fG s) r):=rG (fG s) (bX l) r
theorem Al {k:Nat} (hk:2 ^ 50≤k) (r:RD) (h:DR r.1) {v:Ty.d cC} (hv:v.2.1.length≤1099511627776):ag.f k (wO r) v=some (wO (wk (fw v.2.1) r),()):=by
 have hu:=h.sz.u;have hn:=h.sz.n;have hlen:=(Ma (d:=r.1) v.2.1).length_le;have hl:=h.len;unfold je at hlen;rw [List.length_map] at hlen;unfold ag.f ag.t;rw [show (wO r).1=r.1 from rfl,Ga hk (by omega) (by omega) hv,ac];simp only [];have key:∀ l:List ByteArray,l.length≤1000→ag.l0 k k l.length 0 r.1.1 r.1.2.1 r.1.2.2.1 r.1.2.2.2.1 r.2 l=some (wO (wk (bX l) r),()):=fun l hl=>by
  refine iZ (L:=fun n i (x:RD)=>ag.l0 k n l.length i x.1.1 x.1.2.1 x.1.2.2.1 x.1.2.2.2.1 x.2 l) (R:=fun q x=>some (wO (wk (bX q) x),())) (Ty.z .str) l (fun i x=>DR x.1) (fun n x hx=>?_) (fun n i x y rest h0 h1 hy hr hx ih=>?_) (n:=k) (s:=r) (by omega) h
  · simp only [ag.l0,ag.b0];rw [aZ (by omega),aH,show bX []=fun d=>(d,0) from rfl,Ej];rfl
  · simp only [ag.l0,ag.b0];rw [aX h1,ae,aY h0 h1,hy,show ((x.1.1,(x.1.2.1,(x.1.2.2.1,(x.1.2.2.2.1,())))),(x.2,()))=wO x from rfl,m_ hk x hx,ac,aG (n:=i+1) (by omega) (by omega),z_];exact ih (wk (fG y) x) (rZ hx (nF y))
 rw [show (wO r).2.1=r.2 from rfl];rw [key (rW r.1 v.2.1) (by omega)];unfold wk fw;rfl
theorem yI {k:Nat} (hk:2 ^ 50≤k) (r:RD) (h:DR r.1) {l:List ByteArray} (hl:l.length≤1000):af.f k (wO r) l =
 some (wO (bif r.2==2 then ((bX l r.1).1,bif (bX l r.1).2==0 then 2 else fj (bX l r.1).2) else r),()):=by
 unfold af.f af.t;rw [show (wO r).2.1=r.2 from rfl];simp only [bne];cases c:r.2==2 with
 | false=>rfl
 | true =>
  simp only [g9,aH,ae];have e2:r.2=2:=BU c;have key:∀ (n:Nat) (i:Int) (x:RD),0≤i→i≤(l.length:Int)→(l.length:Int)-i<n→DR x.1→af.l1 k n l l.length i r.1.2.1 r.1.2.2.1 r.1.2.2.2.1 2 x.1.1 x.1.2.1 x.1.2.2.1 x.1.2.2.2.1 x.2 =
   some (wO (bif (wk (bX (l.drop i.toNat)) x).2==0 then ((wk (bX (l.drop i.toNat)) x).1,2) else wk (bX (l.drop i.toNat)) x),()):=fun n i x h0 h1 h2 hx=>by
   refine Rp (L:=fun n i (x:RD)=>af.l1 k n l l.length i r.1.2.1 r.1.2.2.1 r.1.2.2.2.1 2 x.1.1 x.1.2.1 x.1.2.2.1 x.1.2.2.2.1 x.2) (R:=fun q x=>some (wO (bif (wk (bX q) x).2==0 then ((wk (bX q) x).1,2) else wk (bX q) x),())) (Ty.z .str) l (fun i x=>DR x.1) (fun n x hx=>?_) (fun n i x y rest h0 h1 hy hr hx ih=>?_) n i x h0 h1 h2 hx
   · simp only [af.l1,af.b1];rw [aZ (by omega),aH,show bX []=fun d=>(d,0) from rfl,Ej];simp only [bne];cases x.2==0 <;> rfl
   · simp only [af.l1,af.b1];rw [aX h1,ae,aY h0 h1,hy,show ((x.1.1,(x.1.2.1,(x.1.2.2.1,(x.1.2.2.2.1,())))),(x.2,()))=wO x from rfl,m_ hk x hx,ac,aG (n:=i+1) (by omega) (by omega),z_];exact ih (wk (fG y) x) (rZ hx (nF y))
  obtain ⟨q,hq⟩:∃ q,k=q+1:=⟨k-1,by omega⟩;have fin:af.l0 k (q+1) l l.length 0 r.1.1 r.1.2.1 r.1.2.2.1 r.1.2.2.2.1 2 r.1.2.1 r.1.2.2.1 r.1.2.2.2.1 0=some (wO (bif (wk (bX l) (r.1,0)).2==0 then ((wk (bX l) (r.1,0)).1,2) else wk (bX l) (r.1,0)),()):=by
   have k1:=key (q+1+1) 0 (r.1,0) (by omega) (by omega) (by omega) h;rw [show l.drop (0:Int).toNat=l from rfl] at k1;refine Eq.trans ?_ k1;simp only [af.l0,af.b0,af.l1,af.b1];by_cases hz:(0:Int)<(l.length:Int)
   · rw [aX hz,ae,ae,aY (by omega) hz,aY (by omega) hz];have e1:bA.f k ((r.1.1,(r.1.2.1,(r.1.2.2.1,(r.1.2.2.2.1,())))),(0,())) (List.getD l (Int.toNat 0) (Ty.z .str))=_:=m_ hk (r.1,0) h (List.getD l (Int.toNat 0) (Ty.z .str));rw [e1,ac,ac,aG (n:=(0:Int)+1) (by omega) (by omega)];have d1:=rZ (r:=((r.1,0):RD)) h (nF (List.getD l (Int.toNat 0) (Ty.z .str)));have a1:=key q 1 (wk (fG (List.getD l (Int.toNat 0) (Ty.z .str))) (r.1,0)) (by omega) (by omega) (by omega) d1;have a2:=key (q+1) 1 (wk (fG (List.getD l (Int.toNat 0) (Ty.z .str))) (r.1,0)) (by omega) (by omega) (by omega) d1;exact a1.trans a2.symm
   · rw [aZ hz,aH,aH]
  rw [show (wO r).1=r.1 from rfl,e2];have fin2:af.l0 k k l l.length 0 r.1.1 r.1.2.1 r.1.2.2.1 r.1.2.2.2.1 2 r.1.2.1 r.1.2.2.1 r.1.2.2.2.1 0=_:=(congrArg (fun z=>af.l0 k z l l.length 0 r.1.1 r.1.2.1 r.1.2.2.1 r.1.2.2.2.1 2 r.1.2.1 r.1.2.2.1 r.1.2.2.2.1 0) hq).trans fin;rw [fin2];unfold wk;simp only [beq_self_eq_true,ae,fV];cases c3:(bX l r.1).2==0 <;> rfl
abbrev ij:=List (Ty.d bQ)
def gB (kind batch:Int) (l:ij):Ty.d bQ:=(kind,(batch,(ByteArray.empty,(ByteArray.empty,((l.length:Int),(Gi l,()))))))
abbrev fL:=List (Ty.d ml)
def fg (s:ByteArray):Bool:=decide (1≤(s.size:Int)∧(s.size:Int)≤8)
def bz (p:Ty.d ml):Ty.d bQ:=(4,(p.2.2.1,(p.1,(p.2.1,(0,(0,()))))))
def fK (l:fL) (mark:Int):ij:=l.map bz++[gB 5 mark (l.map bz)]
theorem Dj {k:Nat} (hk:2 ^ 50≤k) {l:fL} (hl:l.length≤1073741823) (mark:Int):iB.f k l mark=some (fK l mark,()):=by
 unfold iB.f iB.t;refine (iZ (L:=fun n i s=>iB.l0 k n l mark l l.length i s) (R:=fun r s=>some (s++r.map bz++[gB 5 mark (s++r.map bz)],())) (Ty.z ml) l (fun i s=>(s.length:Int)=i) (fun n s hs=>?_) (fun n i s x rest h0 h1 hx hr hp ih=>?_) (n:=k) (s:=[]) (by omega) (by decide)).trans (by rw [List.nil_append];rfl)
 · simp (disch:=first | omega | decide) only [iB.l0,iB.b0,aZ,aH,rF hk,ac,dT,List.map_nil,List.append_nil,gB,hs]
 · have ih:=ih (s++[bz x]) (by rw [rt];show ((s.length+1:Nat):Int)=_;omega);simp (disch:=first | omega | decide) only [iB.l0,iB.b0,aX,ae,aY,hx,dT,aG];refine ih.trans ?_;simp only [List.map_cons,qY,List.cons_append,List.nil_append]
def aR:ij→ByteArray
 | []=>⟨#[]⟩
 | r::l=>aM (aE r)++aR l
theorem wM:∀ l:ij,(aR l).size≤211*l.length
 | []=>Nat.le_refl _
 | r::l=>by have h1:=mL (aE r);have h2:=wM l;rw [aR,aV,kM];omega
theorem nH:∀ l m:ij,aR (l++m)=aR l++aR m
 | [],m=>by rw [List.nil_append,aR,nr]
 | r::l,m=>by rw [List.cons_append,aR,nH l m,aR,bY]
abbrev aO:=List (Ty.d aB)
noncomputable def iE (s:ByteArray) (i n:Int):Ty.d bQ × Bool :=
 if 0≤i∧i≤s.size∧1≤n∧n≤s.size-i then (if (i_ (ByteArray.extract s i.toNat (i+n).toNat)).2=n then gq (i_ (ByteArray.extract s i.toNat (i+n).toNat)).1 else (uh,false)) else (uh,false)
theorem IA (s:ByteArray) (i j:Nat):(ByteArray.extract s i j).size≤s.size:=by rw [← dD,ss,List.length_drop,List.length_take,dD];omega
theorem wG {k:Nat} (hk:2 ^ 50≤k) {s:ByteArray} (i n:Int) (hs:s.size≤1099511627775):jX.f k s i n=some ((iE s i n).1,((iE s i n).2,())):=by
 unfold jX.f jX.t iE;rw [wR,ac];by_cases c1:0≤i∧i≤s.size
 case neg=>rw [aZ c1,if_neg (fun h=>c1 ⟨h.1,h.2.1⟩)];rfl
 rw [aX c1,g9,aH,wR,ac,aG (by omega) (by omega)];by_cases c2:0≤n∧n≤s.size-i
 case neg=>rw [aZ c2,if_neg (fun h=>c2 ⟨by omega,h.2.2.2⟩)];rfl
 have hz:=IA s i.toNat (i+n).toNat;have hu:=oB (ByteArray.extract s i.toNat (i+n).toNat);have hsz:(ByteArray.extract s i.toNat (i+n).toNat).size≤(i+n).toNat-i.toNat:=by rw [← dD,ss,List.length_drop,List.length_take];omega
 rw [aX c2,g9,aH,aG (by omega) (by omega),yg (by omega) (by omega) (by omega),mU hk (by omega),ac];simp only [];by_cases c0:(i_ (ByteArray.extract s i.toNat (i+n).toNat)).2=0
 · rw [show ((i_ (ByteArray.extract s i.toNat (i+n).toNat)).2==0)=true by rw [c0];rfl,ae];split
   · rename_i h;rw [if_neg (by omega)]
   · rfl
 · rw [show ((i_ (ByteArray.extract s i.toNat (i+n).toNat)).2==0)=false from pG c0,aH,if_pos ⟨c1.1,c1.2,by omega,c2.2⟩];by_cases c3:(i_ (ByteArray.extract s i.toNat (i+n).toNat)).2=n
   · rw [if_pos c3];simp only [show ((i_ (ByteArray.extract s i.toNat (i+n).toNat)).2 != n)=false by rw [c3];simp,aH];rw [sa hk (by omega),ac]
   · rw [if_neg c3];simp only [show ((i_ (ByteArray.extract s i.toNat (i+n).toNat)).2 != n)=true from bne_iff_ne.2 c3,ae]
def uR (p:Option (Ty.d aB)) (x:Ty.d aB):Bool :=
 fg x.1&&(decide ((1:Int)≤x.2.1∧x.2.1≤100000)&&(!decide (x.2.2.1<(0:Int))&&(decide ((1:Int)≤x.2.2.2.1∧x.2.2.2.1≤210)&&(decide ((1:Int)≤x.2.2.2.2.1∧x.2.2.2.2.1≤1000000)&&(match p with | none=>true | some y=>nS y.1 x.1)))))
def rp (l:aO):Bool:=decide ((l.length:Int)≤20)&&pB uR none l
theorem zL {k:Nat} (hk:2 ^ 50≤k) {l:aO} (hl:l.length≤1099511627776):dy.f k l=some (rp l,()):=by
 unfold dy.f dy.t rp;refine (BM (L:=fun n i=>dy.l0 k n l l l.length i) (Ty.z aB) l uR (some (decide ((l.length:Int)≤20),())) (some (false,())) (fun n=>?_) (fun n x h hx=>?_) (fun n i x y h0 h1 hx hy=>?_) (n:=k) (by omega)).trans (by cases pB uR none l <;> cases decide ((l.length:Int)≤20) <;> rfl)
 · simp (disch:=omega) only [dy.l0,dy.b0,aZ (show ¬ (l.length:Int)<(l.length:Int) by omega),aH]
 · simp (disch:=omega) only [dy.l0,dy.b0,aX (show (0:Int)<(l.length:Int) by omega),ae,aY,hx,kO k,iU k,ac,aZ (show ¬ (0:Int) > 0 by omega),aH,aG,uR,fg];cases decide (1≤(x.1.size:Int)∧(x.1.size:Int)≤8) <;> cases decide ((1:Int)≤x.2.1∧x.2.1≤100000) <;> cases decide (x.2.2.1<(0:Int)) <;> cases decide ((1:Int)≤x.2.2.2.1∧x.2.2.2.1≤210) <;> cases decide ((1:Int)≤x.2.2.2.2.1∧x.2.2.2.2.1≤1000000) <;> rfl
 · simp (disch:=omega) only [dy.l0,dy.b0,aX h1,ae,aY,hx,hy,kO k,iU k,ac,aX (show i > 0 by omega),aH,aG,uR,fg];cases decide (1≤(x.1.size:Int)∧(x.1.size:Int)≤8) <;> cases decide ((1:Int)≤x.2.1∧x.2.1≤100000) <;> cases decide (x.2.2.1<(0:Int)) <;> cases decide ((1:Int)≤x.2.2.2.1∧x.2.2.2.1≤210) <;> cases decide ((1:Int)≤x.2.2.2.2.1∧x.2.2.2.2.1≤1000000) <;> cases nS y.1 x.1 <;> rfl
def uI:aO→ByteArray→Option (Ty.d aB)
 | [],_=>none
 | e::l,s=>bif seq e.1 s then some e else uI l s
def S3:Ty.d aB:=(ByteArray.empty,(0,(0,(0,(0,())))))
def QG:Option (Ty.d aB)→Option (Ty.d aB × Bool × Unit)
 | none=>some (S3,(false,()))
 | some e=>some (e,(true,()))
theorem uT {k:Nat} (hk:2 ^ 50≤k) {l:aO} (hl:l.length≤1099511627776) (s:ByteArray):fH.f k l s=QG (uI l s):=by
 unfold fH.f fH.t;refine iZ (L:=fun n i (_:Unit)=>fH.l0 k n s l l.length i ByteArray.empty 0 0 0 0) (R:=fun r _=>QG (uI r s)) (Ty.z aB) l (fun _ _=>True) (fun n _ _=>?_) (fun n i _ x rest h0 h1 hx hr hp ih=>?_) (n:=k) (s:=()) (by omega) trivial
 · simp (disch:=omega) only [fH.l0,fH.b0,aZ,aH,uI];rfl
 · have ih:=ih () trivial;simp (disch:=omega) only [fH.l0,fH.b0,aX h1,ae,aY,hx,aG,ih,uI];cases seq x.1 s <;> rfl
def Qw:Ty.d ml:=(ByteArray.empty,(ByteArray.empty,(0,())))
noncomputable def d6 (d:Ty.d aA) (e:Ty.d aB):Ty.d bQ × Bool:=iE (aW d (a_ aD e.2.1)).1 e.2.2.1 e.2.2.2.1
noncomputable def kT (l:aO) (d:Ty.d aA) (key:ByteArray):Ty.d ml × Int :=
 match uI l key with
 | none=>(Qw,8)
 | some e=>bif (d6 d e).2&&(seq (d6 d e).1.2.2.1 key&&(((d6 d e).1.1==1)||((d6 d e).1.1==4))) then ((key,((d6 d e).1.2.2.2.1,((d6 d e).1.2.1,()))),0) else (Qw,3)
theorem FY (i n:Int):iE ⟨#[]⟩ i n=(uh,false):=by
 unfold iE;rw [if_neg]
 rintro ⟨h1,h2,h3,h4⟩
 have:((⟨#[]⟩:ByteArray).size:Int)=0:=rfl;omega
theorem PG {d:Ty.d aA} {s:ByteArray} (h:(aW d s).2=false):(aW d s).1=⟨#[]⟩:=by
 unfold aW at h ⊢;generalize fZ d=b at h ⊢;generalize b8 d.1 s=o at h ⊢;cases b <;> cases o <;> first | rfl | cases h
theorem zv {k:Nat} (hk:2 ^ 50≤k) {st:Ty.d aC} {d:Ty.d aA} (hd:Ey d) (hl:st.2.1.length≤1099511627776) (key:ByteArray):lg.f k st d key=some ((kT st.2.1 d key).1,((kT st.2.1 d key).2,())):=by
 have:=hd.l;have:=hd.u;have:=hd.n;unfold lg.f lg.t kT;rw [uT hk hl];cases uI st.2.1 key with
 | none=>rfl
 | some e =>
  unfold QG;have hz:=kz d (a_ aD e.2.1);simp only [ac,g9,aH,cP k];rw [jR hk (by omega) (by omega) (by omega),ac];simp only [];rw [wG hk _ _ (by omega),ac];change (bif !(d6 d e).2 then _ else bif !((d6 d e).1.1==1) then bif !((d6 d e).1.1==4) then _ else bif !seq (d6 d e).1.2.2.1 key then _ else some (((d6 d e).1.2.2.1,((d6 d e).1.2.2.2.1,((d6 d e).1.2.1,()))),(0,())) else bif !seq (d6 d e).1.2.2.1 key then _ else some (((d6 d e).1.2.2.1,((d6 d e).1.2.2.2.1,((d6 d e).1.2.1,()))),(0,())))=_;cases c:(d6 d e).2 with
  | false=>rfl
  | true =>
   cases q:seq (d6 d e).1.2.2.1 key with
   | false=>cases ((d6 d e).1.1==1) <;> cases ((d6 d e).1.1==4) <;> rfl
   | true =>rw [cF.1 q];cases ((d6 d e).1.1==1) <;> cases ((d6 d e).1.1==4) <;> rfl
noncomputable def nn (l:aO) (d:Ty.d aA):List ByteArray→fL→fL × Int
 | [],acc=>(acc,0)
 | key::r,acc=>bif (kT l d key).2 != 0 then ([],(kT l d key).2) else nn l d r (acc++[(kT l d key).1])
noncomputable def bH (l:aO) (d:Ty.d aA):fL × Int:=nn l d (l.map (·.1)) []
theorem CW (l:aO) (d:Ty.d aA):∀ (r:List ByteArray) (acc:fL),(nn l d r acc).1.length≤acc.length+r.length
 | [],acc=>Nat.le_refl _
 | key::r,acc=>by
  unfold nn;cases (kT l d key).2 != 0 with
  | true=>exact Nat.zero_le _
  | false =>have:=CW l d r (acc++[(kT l d key).1]);rw [fq] at this;rw [aH,kM];omega
theorem qQ (l:aO) (d:Ty.d aA):(bH l d).1.length≤l.length:=by have:=CW l d (l.map (·.1)) [];rw [List.length_map,List.length_nil] at this;unfold bH;omega
theorem y9 {k:Nat} (hk:2 ^ 50≤k) {l:aO} (hl:l.length≤1099511627775):dc.f k l=some (l.map (·.1),()):=by
 unfold dc.f dc.t;refine iZ (L:=fun n i s=>dc.l0 k n l l.length i s) (R:=fun r s=>some (s++r.map (·.1),())) (Ty.z aB) l (fun i s=>(s.length:Int)=i) (fun n s hs=>?_) (fun n i s x rest h0 h1 hx hr hp ih=>?_) (n:=k) (s:=[]) (by omega) rfl
 · simp (disch:=omega) only [dc.l0,dc.b0,aZ,aH,List.map_nil,List.append_nil]
 · have ih:=ih (s++[x.1]) (by rw [fq];omega);simp (disch:=first | omega | decide) only [dc.l0,dc.b0,aX h1,ae,aY,hx,dT,aG,ih,List.map_cons];rw [qY];rfl
theorem G8 {k:Nat} (hk:2 ^ 50≤k) {st:Ty.d aC} {d:Ty.d aA} (hd:Ey d) (hl:st.2.1.length≤1099511627775):iy.f k st d=some ((bH st.2.1 d).1,((bH st.2.1 d).2,())):=by
 unfold iy.f iy.t bH;rw [y9 hk hl,ac];have hm:(st.2.1.map (·.1)).length=st.2.1.length:=List.length_map ..;refine iZ (L:=fun n i s=>iy.l0 k n (st.2.1.map (·.1)).length i st.1.1 st.1.2.1 st.2.1 st.2.2.1 st.2.2.2.1 st.2.2.2.2.1 d.1 d.2.1 d.2.2.1 d.2.2.2.1 s (st.2.1.map (·.1))) (R:=fun r s=>some ((nn st.2.1 d r s).1,((nn st.2.1 d r s).2,()))) (Ty.z .str) (st.2.1.map (·.1)) (fun i s=>(s.length:Int)=i) (fun n s hs=>?_) (fun n i s x rest h0 h1 hx hr hp ih=>?_) (n:=k) (s:=[]) (by omega) rfl
 · simp (disch:=omega) only [iy.l0,iy.b0,aZ,aH,nn]
 · have hg:=zv hk (st:=st) (d:=d) hd (by omega) x;have ih:=ih (s++[(kT st.2.1 d x).1]) (by rw [fq];omega);simp (disch:=first | omega | decide) only [iy.l0,iy.b0,aX h1,ae,aY,hx,hg,ac,dT,aG,ih,nn];cases (kT st.2.1 d x).2 != 0 <;> rfl
noncomputable def DY (d:Ty.d aA) (tail:Int) (x:Int) (last:Bool):Bool :=
 (aW d (a_ aD x)).2&&(decide ((b9 (aW d (a_ aD x)).1).2=((aW d (a_ aD x)).1.size:Int))&&(!last||(tail==((aW d (a_ aD x)).1.size:Int))))
noncomputable def lx (d:Ty.d aA) (tail:Int):List Int→Bool
 | []=>true
 | x::l=>DY d tail x l.isEmpty&&lx d tail l
noncomputable def nV (d:Ty.d aA) (next:Int) (e:Ty.d aB):Bool :=
 (d6 d e).2&&(seq (d6 d e).1.2.2.1 e.1&&(((d6 d e).1.2.1==e.2.2.2.2.1)&&((((d6 d e).1.1==1)||((d6 d e).1.1==4))&&!decide (e.2.2.2.2.1≥next))))
noncomputable def bo (st:Ty.d aC) (d:Ty.d aA):Bool :=
 fZ d&&(dK st.1&&(rp st.2.1&&(decide ((1:Int)≤st.2.2.1∧st.2.2.1≤1000001)&&(lx d st.2.2.2.1 st.1.2.1&&st.2.1.all (nV d st.2.2.1)))))
theorem FR {α:Type} {l:List α} {i:Int} {x:α} {rest:List α} (h0:0≤i) (h:l.drop i.toNat=x::rest):rest.isEmpty=decide (i+1=(l.length:Int)):=by
 have:=congrArg List.length h;rw [List.length_drop,kM] at this;cases rest with
 | nil=>rw [aX (by rw [List.length_nil] at this;omega)];rfl
 | cons y r=>rw [aZ (by rw [kM] at this;omega)];rfl
theorem vr {k:Nat} (hk:2 ^ 50≤k) {st:Ty.d aC} {d:Ty.d aA} (hd:Ey d) (hv:st.1.2.1.length≤1099511627776) (hw:st.2.1.length≤1099511627776):cN.f k st d=some (bo st d,()):=by
 have:=hd.l;have:=hd.u;have:=hd.n;unfold cN.f cN.t bo;rw [fa hk (by omega) (by omega),ac];cases fZ d with
 | false=>rfl
 | true =>
  rw [g9,aH,sG hk hv,ac,Bool.true_and];cases cl:dK st.1 with
  | false=>rfl
  | true =>
   rw [g9,aH,zL hk hw,ac,Bool.true_and];cases cd:rp st.2.1 with
   | false=>rfl
   | true =>
    rw [g9,aH,iU,ac,Bool.true_and];cases decide ((1:Int)≤st.2.2.1∧st.2.2.1≤1000001) with
    | false=>rfl
    | true =>
     rw [g9,aH,Bool.true_and];have hl:st.1.2.1.length≤60:=by unfold dK at cl;rw [gY,gY,decide_eq_true_eq,decide_eq_true_eq] at cl;omega
     have he:st.2.1.length≤20:=by unfold rp at cd;rw [gY,decide_eq_true_eq] at cd;omega
     have l1:cN.l1 k k st.2.1 st.2.1.length 0 st.1.1 st.1.2.1 st.2.1 st.2.2.1 st.2.2.2.1 st.2.2.2.2.1 d.1 d.2.1 d.2.2.1 d.2.2.2.1=some (st.2.1.all (nV d st.2.2.1),()):=by
      refine iZ (L:=fun n i (_:Unit)=>cN.l1 k n st.2.1 st.2.1.length i st.1.1 st.1.2.1 st.2.1 st.2.2.1 st.2.2.2.1 st.2.2.2.2.1 d.1 d.2.1 d.2.2.1 d.2.2.2.1) (R:=fun r _=>some (r.all (nV d st.2.2.1),())) (Ty.z aB) st.2.1 (fun _ _=>True) (fun n _ _=>?_) (fun n i _ x rest h0 h1 hx hr hp ih=>?_) (n:=k) (s:=()) (by omega) trivial
      · simp (disch:=omega) only [cN.l1,cN.b1,aZ,aH,List.all_nil]
      · have ih:=ih () trivial;have hz:=kz d (a_ aD x.2.1);have ht:=jR hk (d:=d) (by omega) (by omega) (by omega) (a_ aD x.2.1);have hr:=wG hk (s:=(aW d (a_ aD x.2.1)).1) x.2.2.1 x.2.2.2.1 (by omega);simp (disch:=omega) only [cN.l1,cN.b1,aX h1,ae,aY,hx,cP k,ac,ht,hr,aG,ih,List.all_cons,nV,d6,bne];cases (iE (aW d (a_ aD x.2.1)).1 x.2.2.1 x.2.2.2.1).2 <;> cases seq (iE (aW d (a_ aD x.2.1)).1 x.2.2.1 x.2.2.2.1).1.2.2.1 x.1 <;> cases ((iE (aW d (a_ aD x.2.1)).1 x.2.2.1 x.2.2.2.1).1.2.1==x.2.2.2.2.1) <;>
         cases ((iE (aW d (a_ aD x.2.1)).1 x.2.2.1 x.2.2.2.1).1.1==1) <;> cases ((iE (aW d (a_ aD x.2.1)).1 x.2.2.1 x.2.2.2.1).1.1==4) <;> cases decide (x.2.2.2.2.1≥st.2.2.1) <;> rfl
     refine (iZ (L:=fun n i (_:Unit)=>cN.l0 k n st.1.2.1 st.1.2.1.length i st.1.1 st.1.2.1 st.2.1 st.2.2.1 st.2.2.2.1 st.2.2.2.2.1 d.1 d.2.1 d.2.2.1 d.2.2.2.1) (R:=fun r _=>some (lx d st.2.2.2.1 r&&st.2.1.all (nV d st.2.2.1),())) (Ty.z (.int .i64)) st.1.2.1 (fun _ _=>True) (fun n _ _=>?_) (fun n i _ x rest h0 h1 hx hr hp ih=>?_) (n:=k) (s:=()) (by omega) trivial)
     · simp (disch:=omega) only [cN.l0,cN.b0,aZ,aH,lx,l1,Bool.true_and]
     · have ih:=ih () trivial;have hz:=kz d (a_ aD x);have ht:=jR hk (d:=d) (by omega) (by omega) (by omega) (a_ aD x);have hs:=sH hk (s:=(aW d (a_ aD x)).1) (by omega);have hlast:=FR h0 hr;simp (disch:=omega) only [cN.l0,cN.b0,aX h1,ae,aY,hx,cP k,ac,ht,hs,aG,ih,lx,DY,bne,hlast];rw [show (i==(st.1.2.1.length:Int)-1)=decide (i+1=(st.1.2.1.length:Int)) from (show decide (i=(st.1.2.1.length:Int)-1)=_ from decide_eq_decide.2 (by omega))];cases (aW d (a_ aD x)).2 with
       | false=>rfl
       | true =>
        by_cases q:(b9 (aW d (a_ aD x)).1).2=((aW d (a_ aD x)).1.size:Int)
        · rw [aX q,show ((b9 (aW d (a_ aD x)).1).2==((aW d (a_ aD x)).1.size:Int))=true from beq_iff_eq.2 q,q];cases decide (i+1=(st.1.2.1.length:Int)) <;> cases (st.2.2.2.1==((aW d (a_ aD x)).1.size:Int)) <;> rfl
        · rw [aZ q,show ((b9 (aW d (a_ aD x)).1).2==((aW d (a_ aD x)).1.size:Int))=false from pG q];rfl
end Go.Proofs.YteejjngdagmofaaGreatDoor.G

/- Plain laws, merged; what is proved here is told ahead of each part. -/
import Derived.Test.YtaaincbnjkmapaaGreatDoorZSE
import Derived.Lib.ItoaNum
import Derived.Lib.AtoiAll
import Derived.Lib.AtoiAllCases
import Derived.Test.YtaaincbnjkmapaaGreatDoorVPure
import Derived.Test.YtaaincbnjkmapaaGreatDoorXLib
set_option linter.unusedVariables false
set_option linter.unusedSimpArgs false
namespace Go.V
theorem ac {α β:Type} {a:α} {f:α→Option β}:Option.bind (some a) f=f a:=rfl
theorem aJ {α:Type} {a b:α}:cond false a b=b:=rfl
theorem aa {α:Type} {a b:α}:cond true a b=a:=rfl
theorem fw:(!true)=false:=rfl
theorem ue:(!false)=true:=rfl
theorem qi {α:Type} [BEq α] [LawfulBEq α] {a b:α} (h:a≠b):(a==b)=false:=beq_eq_false_iff_ne.2 h
theorem s5 (i:Nat):Int.toNat (i:Int)=i:=Int.toNat_natCast i
theorem j7 {α:Type} {a:α} {l:List α}:(a::l).length=l.length+1:=rfl
theorem nE {α:Type} {l m:List α}:(l++m).length=l.length+m.length:=List.length_append
theorem oK {α:Type} (l m n:List α):l++m++n=l++(m++n):=List.append_assoc l m n
theorem yd {α:Type} [BEq α] [LawfulBEq α] {a b:α} (h:(a==b)=true):a=b:=beq_iff_eq.1 h
theorem iE (a b:Bool):((a&&b)=true)=(a=true∧b=true):=Bool.and_eq_true a b
theorem il {α:Type} {a:α} {l:List α}:a ∈ a::l:=List.mem_cons_self
theorem kS {α:Type} (y:α) {a:α} {l:List α} (h:a ∈ l):a ∈ y::l:=List.mem_cons_of_mem y h
theorem aW {p:Prop} [Decidable p] (h:p):decide p=true:=decide_eq_true h
theorem aY {p:Prop} [Decidable p] (h:¬ p):decide p=false:=decide_eq_false h
theorem bn {R:Type} {b n:Nat} {k:Option R} (h:n≤1099511627776) (hb:b≤128):rm b n k=k :=
 Qi (Nat.le_trans (Nat.mul_le_mul h hb) (by decide)) (by omega)
theorem jI {R:Type} {a b:ByteArray} {k:Option R} (h:a.size+b.size≤4611686018427387904):oV a b k=k:=Di (by omega)
theorem IQ {R:Type} {b:Nat} {n:Int} {k:Option R} (h0:0≤n) (h:n≤1099511627776) (hb:b≤128):yl b n k=k :=
 HC h0 (Nat.le_trans (Nat.mul_le_mul (show n.toNat≤1099511627776 by omega) hb) (by decide)) (by omega)
theorem zA {n:Int} (h0:0≤n) (h1:n≤4294967295):IntKind.wrap .u32 n=n:=by unfold IntKind.wrap;simp [IntKind.bits,IntKind.signed];omega
theorem xc {n:Int} (h0:0≤n) (h1:n≤255):IntKind.wrap .u8 n=n:=by unfold IntKind.wrap;simp [IntKind.bits,IntKind.signed];omega
theorem QP {α:Type} {g:Nat→Option α} {r:α} (h:∀ k,2 ^ 50≤k→g k=some r):Ev g r:=⟨2 ^ 50,h⟩
section
variable {α σ ρ:Type}
theorem M7 {L:Nat→Int→σ→Option ρ} {R:Int→σ→Option ρ} (N:Int) (P:Int→σ→Prop)
 (h0:∀ (n:Nat) s,P N s→L (n+1) N s=R N s)
 (h1:∀ (n:Nat) (i:Int) s,0≤i→i<N→P i s→(∀ s',P (i+1) s'→L n (i+1) s'=R (i+1) s')→L (n+1) i s=R i s) :
 ∀ (n:Nat) (i:Int) s,0≤i→i≤N→N-i<n→P i s→L n i s=R i s
 | 0,i,s,hi,hN,hn,_=>by omega
 | n+1,i,s,hi,hN,hn,hs=>by
  by_cases c:i=N
  · subst c;exact h0 n s hs
  · exact h1 n i s hi (by omega) hs fun s' q=>M7 N P h0 h1 n (i+1) s' (by omega) (by omega) (by omega) q
theorem Py {L:Nat→Int→σ→Option ρ} {R:List α→σ→Option ρ} (z:α) (l:List α) (P:Int→σ→Prop)
 (h0:∀ (n:Nat) s,P l.length s→L (n+1) l.length s=R [] s)
 (h1:∀ (n:Nat) (i:Int) s x rest,0≤i→i<l.length→l.getD i.toNat z=x→l.drop i.toNat=x::rest→P i s→(∀ s',P (i+1) s'→L n (i+1) s'=R rest s')→L (n+1) i s=R (x::rest) s) :
 ∀ (n:Nat) (i:Int) s,0≤i→i≤l.length→(l.length:Int)-i<n→P i s→L n i s=R (l.drop i.toNat) s:=by
 intro n i s hi hN hn hs;refine M7 (L:=L) (R:=fun i s=>R (l.drop i.toNat) s) l.length P (fun n s q=>?_) (fun n i s hi hlt q ih=>?_) n i s hi hN hn hs
 · rw [h0 n s q,Int.toNat_natCast,List.drop_length]
 · have hl:i.toNat<l.length:=by omega
   have e:l.drop i.toNat=l.getD i.toNat z::l.drop (i+1).toNat:=by rw [List.drop_eq_getElem_cons hl,show (i+1).toNat=i.toNat+1 by omega];simp [List.getD,hl]
   show _=R (l.drop i.toNat) s;rw [e];exact h1 n i s _ _ hi hlt rfl e q ih
theorem fj {L:Nat→Int→σ→Option ρ} {R:List α→σ→Option ρ} (z:α) (l:List α) (P:Int→σ→Prop)
 (h0:∀ (n:Nat) s,P l.length s→L (n+1) l.length s=R [] s)
 (h1:∀ (n:Nat) (i:Int) s x rest,0≤i→i<l.length→l.getD i.toNat z=x→l.drop i.toNat=x::rest→P i s→(∀ s',P (i+1) s'→L n (i+1) s'=R rest s')→L (n+1) i s=R (x::rest) s)
 {n:Nat} {s:σ} (hn:l.length<n) (hs:P 0 s):L n 0 s=R l s:=by
 have:=Py z l P h0 h1 n 0 s (by omega) (by omega) (by omega) hs;simpa using this
end
theorem kZ {a b:ByteArray} (h:a≠b):seq a b=false:=by
 cases c:seq a b
 · rfl
 · exact absurd (db.1 c) h
theorem Gp {a b:ByteArray} (h:a=b):seq a b=true:=db.2 h
theorem Is (a b:ByteArray):seq a b=decide (a=b):=by
 by_cases h:a=b
 · rw [Gp h,aW h]
 · rw [kZ h,aY h]
def vl:Nat→Nat→List Nat
 | 0,a=>[a]
 | d+1,a=>if a≥128 then (128+a % 128)::vl d (a/128) else [a]
def uF:List Nat→Nat
 | []=>0
 | b::p=>b % 128+128*uF p
def tH:List Nat→Bool
 | []=>false
 | [b]=>decide (b<128)
 | b::c::p=>decide (128≤b)&&(decide (b<256)&&(tH (c::p)&&!(decide (p=[])&&c==0)))
theorem yx:∀ (d a:Nat),a<128 ^ (d+1)→tH (vl d a)=true∧uF (vl d a)=a∧(vl d a=[0]→a=0)
 | 0,a,h=>by
  have:a<128:=by simpa using h
  refine ⟨by simp [vl,tH,this],by simp [vl,uF];omega,fun q=>by simpa [vl] using q⟩
 | d+1,a,h=>by
  unfold vl;by_cases c:a≥128
  · rw [if_pos c];obtain ⟨h1,h2,h3⟩:=yx d (a/128) (by rw [Nat.pow_succ] at h;omega);refine ⟨?_,by rw [uF,h2];omega,fun q=>by have:=(List.cons.inj q).1;omega⟩;generalize vl d (a/128)=l at h1 h2 h3
    match l,h1 with
    | x::p,h1 =>
     simp only [tH,h1];have e1:decide (128≤128+a % 128)=true:=decide_eq_true (by omega);have e2:decide (128+a % 128<256)=true:=decide_eq_true (by omega);rw [e1,e2];cases hp:(decide (p=[])&&x==0)
     · rfl
     · simp only [iE,decide_eq_true_eq,beq_iff_eq] at hp;have:=h3 (by rw [hp.1,hp.2]);omega
  · rw [if_neg c];have:a<128:=by omega
    exact ⟨by simp [tH,this],by simp [uF];omega,fun q=>by simpa using q⟩
theorem Gk:∀ (p:List Nat),tH p=true→p≠[0]→1≤uF p
 | [],h,_=>by simp [tH] at h
 | [b],h,q=>by
  simp only [tH,decide_eq_true_eq] at h;simp only [uF];have:b≠0:=fun e=>q (by rw [e])
  omega
 | b::c::p,h,_=>by
  simp only [tH,iE,decide_eq_true_eq,Bool.not_eq_true'] at h;have ih:=Gk (c::p) h.2.2.1 (fun e=>by
   have e1:c=0:=(List.cons.inj e).1;have e2:p=[]:=(List.cons.inj e).2;have:=h.2.2.2;rw [e1,e2] at this;simp at this)
  rw [uF];omega
theorem Et:∀ (d:Nat) (p:List Nat),tH p=true→p.length≤d+1→vl d (uF p)=p
 | _,[],h,_=>by simp [tH] at h
 | 0,[b],h,_=>by simp only [tH,decide_eq_true_eq] at h;simp [vl,uF];omega
 | d+1,[b],h,_=>by
  simp only [tH,decide_eq_true_eq] at h;have e:uF [b]=b:=by simp [uF];omega
  rw [e,vl,if_neg (by omega)]
 | 0,b::c::p,_,hl=>by simp at hl
 | d+1,b::c::p,h,hl=>by
  have h0:=h;simp only [tH,iE,decide_eq_true_eq,Bool.not_eq_true'] at h;have hp:=Gk (c::p) h.2.2.1 (fun e=>by
   have e1:c=0:=(List.cons.inj e).1;have e2:p=[]:=(List.cons.inj e).2;have:=h.2.2.2;rw [e1,e2] at this;simp at this)
  have ih:=Et d (c::p) h.2.2.1 (by simp at hl ⊢;omega);rw [uF,vl,if_pos (by omega)];rw [show (b % 128+128*uF (c::p))/128=uF (c::p) by omega,ih];congr 1;omega
theorem Gt:∀ (p:List Nat) (b:Nat),uF (p++[b])=uF p+128 ^ p.length*(b % 128)
 | [],b=>by simp [uF]
 | a::p,b=>by rw [List.cons_append,uF,Gt p b,uF,j7,Nat.pow_succ,Nat.mul_add,Nat.mul_comm (128 ^ p.length) 128,Nat.mul_assoc];omega
theorem E9:∀ (p:List Nat),uF p<128 ^ p.length
 | []=>by simp [uF]
 | a::p=>by have:=E9 p;rw [uF,j7,Nat.pow_succ];omega
def nb (s:ByteArray):List Nat:=s.data.toList.map UInt8.toNat
theorem df (s:ByteArray):(nb s).length=s.size:=by unfold nb;rw [List.length_map,Array.length_toList];rfl
theorem P6 {s:ByteArray} {x:Nat} (h:x ∈ nb s):x<256:=by unfold nb at h;rw [List.mem_map] at h;obtain ⟨y,_,rfl⟩:=h;exact UInt8.toNat_lt y
theorem kh {a b:ByteArray} (h:nb a=nb b):a=b:=by
 unfold nb at h;have h1:a.data.toList=b.data.toList:=List.map_inj_right (fun x y e=>UInt8.toNat_inj.1 e) |>.1 h
 exact ByteArray.ext (Array.toList_inj.1 h1)
theorem C8 {s:ByteArray} {i:Nat} (h:i<s.size):jT s (i:Int)=(((nb s).getD i 0:Nat):Int):=by
 unfold jT nb;have h1:i<s.data.toList.length:=by rw [Array.length_toList];exact h
 rw [Int.toNat_natCast,List.getD,List.getD,List.getElem?_map,List.getElem?_eq_getElem h1];rfl
theorem GM {l:List Nat} (h:∀ x ∈ l,x<256):nb (bytesOf (l.map Int.ofNat))=l:=by
 unfold nb bytesOf;simp only [List.map_map,List.toList_toArray]
 induction l with
 | nil=>rfl
 | cons x l ih =>rw [List.map_cons,ih (fun y hy=>h y (kS _ hy))];have:=h x (il ..);congr 1;show (UInt8.ofNat (Int.toNat (x:Int))).toNat=x;rw [Int.toNat_natCast];simp;omega
theorem lY (s:ByteArray) (n:Nat):nb (ByteArray.extract s 0 n)=(nb s).take n:=by unfold nb;simp [ByteArray.data_extract,List.map_take]
theorem Ox:∀ (d a:Nat),a<128 ^ (d+1)→∀ x ∈ vl d a,x<256
 | 0,a,h,x,hx=>by simp [vl] at hx;subst hx;simp at h;omega
 | d+1,a,h,x,hx=>by
  unfold vl at hx;split at hx
  · rcases List.mem_cons.1 hx with q | q
    · subst q;omega
    · exact Ox d _ (by rw [Nat.pow_succ] at h;omega) x q
  · simp at hx;subst hx;omega
def br (a:Nat):ByteArray:=bytesOf ((vl 6 a).map Int.ofNat)
theorem vH {a:Nat} (h:a<562949953421312):nb (br a)=vl 6 a:=GM (Ox 6 a (by rw [show (128:Nat) ^ (6+1)=562949953421312 by decide];exact h))
theorem K8 {s:ByteArray} {n:Nat} (h0:1≤n) (h7:n≤7) (hs:n≤s.size):seq (br (uF ((nb s).take n))) (ByteArray.extract s 0 n)=tH ((nb s).take n):=by
 have hl:((nb s).take n).length=n:=by rw [List.length_take,df];omega
 have hd:uF ((nb s).take n)<562949953421312:=by have:=E9 ((nb s).take n);rw [hl] at this;have h2:(128:Nat) ^ n≤128 ^ 7:=Nat.pow_le_pow_right (by decide) h7;rw [show (128:Nat) ^ 7=562949953421312 by decide] at h2;omega
 rw [Bool.eq_iff_iff,db];constructor
 · intro e;have e1:nb (br (uF ((nb s).take n)))=(nb s).take n:=by rw [e,lY]
   rw [vH hd] at e1;have:=(yx 6 (uF ((nb s).take n)) (by rw [show (128:Nat) ^ (6+1)=562949953421312 by decide];exact hd)).1;rw [e1] at this;exact this
 · intro c;refine kh ?_;rw [vH hd,lY];exact Et 6 _ c (by omega)
open Go
def kA (n:Int):ByteArray:=⟨(Lib.itoa n).toArray⟩
theorem rY (u:Nat):Lib.decDigits u≠[]:=by rw [Lib.decDigits];split <;> simp
theorem ta {d:Nat} (h:d<10):(UInt8.ofNat (48+d)).toNat=48+d:=by simp;omega
theorem ku (u:Nat):∀ b ∈ Lib.decDigits u,48≤b.toNat∧b.toNat≤57:=by
 induction u using Nat.strongRecOn with
 | _ u ih =>
  intro b hb;rw [Lib.decDigits] at hb;split at hb
  · rename_i h;rw [List.mem_singleton] at hb;subst hb;rw [ta h];omega
  · rename_i h;rcases List.mem_append.1 hb with q | q
    · exact ih (u/10) (by omega) b q
    · rw [List.mem_singleton] at q;subst q;rw [ta (by omega)];omega
def sQ:List Nat→Nat→Nat
 | [],a=>a
 | b::l,a=>sQ l (a*10+(b-48))
theorem Bw:∀ (l m:List Nat) (a:Nat),sQ (l++m) a=sQ m (sQ l a)
 | [],m,a=>rfl
 | b::l,m,a=>Bw l m _
theorem xD (u:Nat):sQ ((Lib.decDigits u).map UInt8.toNat) 0=u:=by
 induction u using Nat.strongRecOn with
 | _ u ih =>
  rw [Lib.decDigits];split
  · rename_i h;simp only [List.map_cons,List.map_nil,sQ,ta h];omega
  · rename_i h;rw [List.map_append,Bw,ih (u/10) (by omega)];simp only [List.map_cons,List.map_nil,sQ,ta (show u % 10<10 by omega)];omega
theorem kz:∀ (k u:Nat),u<10 ^ (k+1)→(Lib.decDigits u).length≤k+1
 | 0,u,h=>by rw [Lib.decDigits,dif_pos (by simpa using h)];simp
 | k+1,u,h=>by
  rw [Lib.decDigits];split
  · simp
  · have:=kz k (u/10) (by rw [Nat.pow_succ] at h;omega);rw [nE];show _+1≤_;omega
theorem pu (n:Int):nb (kA n)=if n<0 then 45::(Lib.decDigits n.natAbs).map UInt8.toNat else (Lib.decDigits n.toNat).map UInt8.toNat:=by unfold nb kA Lib.itoa;split <;> simp
theorem BH {a b:Int} (h:kA a=kA b):a=b:=by
 have h1:=congrArg nb h;rw [pu,pu] at h1;have hd:∀ u:Nat,∀ l,(Lib.decDigits u).map UInt8.toNat≠45::l:=fun u l q=>by
  have hm:(45:Nat) ∈ (Lib.decDigits u).map UInt8.toNat:=by rw [q];exact il ..
  obtain ⟨x,hx,e⟩:=List.mem_map.1 hm;have:=ku u x hx;omega
 by_cases ca:a<0
 · rw [if_pos ca] at h1;by_cases cb:b<0
   · rw [if_pos cb] at h1;have h2:=(List.cons.inj h1).2;have h3:=congrArg (fun l=>sQ l 0) h2;simp only [xD] at h3;omega
   · rw [if_neg cb] at h1;exact absurd h1.symm (hd _ _)
 · rw [if_neg ca] at h1;by_cases cb:b<0
   · rw [if_pos cb] at h1;exact absurd h1 (hd _ _)
   · rw [if_neg cb] at h1;have h3:=congrArg (fun l=>sQ l 0) h1;simp only [xD] at h3;omega
theorem Fz (n:Int) (h0 : -9223372036854775808≤n) (h1:n≤9223372036854775807):(kA n).size≤20:=by
 rw [← df,pu];split
 · have:=kz 18 n.natAbs (by rw [show (10:Nat) ^ (18+1)=10000000000000000000 by decide];omega);rw [j7,List.length_map];omega
 · have:=kz 18 n.toNat (by rw [show (10:Nat) ^ (18+1)=10000000000000000000 by decide];omega);rw [List.length_map];omega
theorem yB:∀ (l:List UInt8) (a:Nat),(∀ b ∈ l,48≤b.toNat∧b.toNat≤57)→(a+1)*10 ^ l.length≤1000000000000000000→Lib.parseUint10 a l = .ok (sQ (l.map UInt8.toNat) a)
 | [],a,_,_=>rfl
 | c::l,a,h,hb=>by have hc:=h c (il ..);rw [j7,Nat.pow_succ,Nat.mul_comm (10 ^ l.length) 10,← Nat.mul_assoc] at hb;have hp:1≤10 ^ l.length:=Nat.one_le_pow _ _ (by decide);have h1:(a+1)*10*1≤(a+1)*10*10 ^ l.length:=Nat.mul_le_mul (Nat.le_refl _) hp;have ih:=yB l (a*10+(c.toNat-48)) (fun x hx=>h x (kS _ hx)) (Nat.le_trans (Nat.mul_le_mul (by omega) (Nat.le_refl _)) hb);rw [Lib.parseUint10,if_pos hc,if_neg (by omega),if_neg (by omega),ih,List.map_cons,sQ]
theorem Bz {u:Nat} (h:u<1000000000):Lib.parseMag (Lib.decDigits u) = .ok u:=by have hl:=kz 8 u (by rw [show (10:Nat) ^ (8+1)=1000000000 by decide];exact h);have hp:10 ^ (Lib.decDigits u).length≤10 ^ 9:=Nat.pow_le_pow_right (by decide) hl;rw [show (10:Nat) ^ 9=1000000000 by decide] at hp;unfold Lib.parseMag;rw [if_neg (rY u),yB _ 0 (ku u) (by omega),xD]
theorem MC {n:Int} (h0 : -1000000000<n) (h1:n<1000000000):Lib.atoiAll (Lib.itoa n) = .ok n:=by
 unfold Lib.itoa;by_cases c:n<0
 · rw [if_pos c,Lib.atoiAll_minus,Bz (by omega)];simp only [Lib.signed];rw [if_neg (by omega)];congr 1;omega
 · rw [if_neg c];have hp:=Bz (u:=n.toNat) (by omega);cases q:Lib.decDigits n.toNat with
   | nil=>exact absurd q (rY _)
   | cons d r =>have hd:=ku n.toNat d (by rw [q];exact il ..);rw [q] at hp;rw [Lib.atoiAll_plain d r (by omega) (by omega),hp];simp only [Lib.signless];rw [if_neg (by omega)];congr 1;omega
section
variable {α ρ:Type}
def qM (ok:Option α→α→Bool):Option α→List α→Bool
 | _,[]=>true
 | p,x::l=>ok p x&&qM ok (some x) l
theorem Aj {L:Nat→Int→Option ρ} (z:α) (l:List α) (ok:Option α→α→Bool) (yes no:Option ρ) (h0:∀ (n:Nat),L (n+1) l.length=yes)
 (h1:∀ (n:Nat) x,0<l.length→l.getD (Int.toNat 0) z=x→L (n+1) 0=bif ok none x then L n 1 else no)
 (h2:∀ (n:Nat) (i:Int) x y,0<i→i<l.length→l.getD i.toNat z=x→l.getD (i-1).toNat z=y→L (n+1) i=bif ok (some y) x then L n (i+1) else no)
 {n:Nat} (hn:l.length<n):L n 0=bif qM ok none l then yes else no:=by
 have key:∀ (d i n:Nat),l.length=i+d→0<i→d<n→L n (i:Int)=bif qM ok (some (l.getD (i-1) z)) (l.drop i) then yes else no:=by
  intro d
  induction d with
  | zero =>
   intro i n h h' hn;obtain ⟨n,rfl⟩:∃ q,n=q+1:=⟨n-1,by omega⟩;have:i=l.length:=by omega
   subst this;rw [h0 n,List.drop_length];rfl
  | succ d ih =>
   intro i n h h' hn;obtain ⟨n,rfl⟩:∃ q,n=q+1:=⟨n-1,by omega⟩;have hl:i<l.length:=by omega
   have e:l.drop i=l.getD i z::l.drop (i+1):=by rw [List.drop_eq_getElem_cons hl];simp [List.getD,hl]
   have ih:=ih (i+1) n (by omega) (by omega) (by omega);rw [h2 n i (l.getD i z) (l.getD (i-1) z) (by omega) (by omega) (by rw [Int.toNat_natCast]) (by rw [show ((i:Int)-1).toNat=i-1 by omega]),e,qM];rw [show ((i:Int)+1)=((i+1:Nat):Int) by omega,ih,show i+1-1=i by omega];cases ok (some (l.getD (i-1) z)) (l.getD i z) <;> rfl
 obtain ⟨n,rfl⟩:∃ q,n=q+1:=⟨n-1,by omega⟩;cases l with
 | nil=>exact h0 n
 | cons x l =>rw [h1 n x (by simp) rfl,qM];have:=key l.length 1 n (by rw [j7];omega) (by omega) (by rw [j7] at hn;omega);rw [show ((1:Nat):Int)=1 from rfl] at this;rw [this];cases ok none x <;> rfl
theorem Dx {ok:Option α→α→Bool} {l:List α} {p:Option α} (h:qM ok p l=true) {x:α} (hx:x ∈ l):∃ q,ok q x=true:=by
 induction l generalizing p with
 | nil=>cases hx
 | cons y l ih =>
  rw [qM,iE] at h;rcases List.mem_cons.1 hx with e | e
  · subst e;exact ⟨p,h.1⟩
  · exact ih h.2 e
end
theorem xF {α:Type} {l:List α} {n i:Nat} {z:α} (h:i<n):(l.take n).getD i z=l.getD i z:=by simp [List.getD,List.getElem?_take,h]
theorem mh {α:Type} {l:List α} {i:Nat} {z:α} (h:i<l.length):l.take (i+1)=l.take i++[l.getD i z]:=by rw [List.take_succ_eq_append_getElem h];simp [List.getD,h]
theorem dt {α:Type} (l:List α) (x:α):(l++[x]).length=l.length+1:=by simp
def dB (l:List UInt8):ByteArray:=⟨l.toArray⟩
theorem Ew (s:ByteArray):dB []++s=s:=by apply ByteArray.ext;simp [dB,ByteArray.data_append]
theorem Mf (s:ByteArray):s++dB []=s:=by apply ByteArray.ext;simp [dB,ByteArray.data_append]
theorem pK (a b c:ByteArray):a++b++c=a++(b++c):=by apply ByteArray.ext;simp [ByteArray.data_append]
theorem nT {n:Int} (h0 : -9223372036854775808≤n) (h1:n≤9223372036854775807):(kA n).size≤20:=Fz n h0 h1
def ly:List Nat→Bool
 | []=>true
 | b::l=>(decide (97≤b∧b≤122)||decide (48≤b∧b≤57))&&ly l
def jQ (s:ByteArray):Bool:=ly (nb s)&&decide (1≤s.size∧s.size≤12)
end Go.V
namespace Go.Proofs.YtaaincbnjkmapaaGreatDoor.G
open Go.V
theorem HP (k:Nat) {n:Int} (h0 : -9223372036854775808≤n) (h1:n≤9223372036854775807):nj.f k n=some (kA n,()):=by unfold nj.f nj.t nt.f;rw [aW ⟨h0,h1⟩];rfl
theorem iL (k:Nat) (a b c:Int):aZ.f k a b c=some (decide (b≤a∧a≤c),()):=by
 unfold aZ.f aZ.t;by_cases h:a≥b
 · rw [aW h,aa,decide_eq_decide.2 (show (b≤a∧a≤c)↔a≤c from ⟨fun q=>q.2,fun q=>⟨h,q⟩⟩)]
 · rw [aY h,aJ,aY (fun q=>h q.1)]
theorem ML (k:Nat) (a b c:Int):cK.f k a b c=some (decide (b≤a∧a≤c),()):=by
 unfold cK.f cK.t;by_cases h:a≥b
 · rw [aW h,aa,decide_eq_decide.2 (show (b≤a∧a≤c)↔a≤c from ⟨fun q=>q.2,fun q=>⟨h,q⟩⟩)]
 · rw [aY h,aJ,aY (fun q=>h q.1)]
theorem O1 {s:ByteArray} {i:Int} {x:Nat} (h0:0≤i) (h1:i<((nb s).length:Int)) (hx:(nb s).getD i.toNat 0=x):jT s i=(x:Int):=by rw [df] at h1;have:=C8 (s:=s) (i:=i.toNat) (by omega);rw [show ((i.toNat:Nat):Int)=i by omega,hx] at this;exact this
theorem Mx {s:ByteArray}:(some ((bif ly (nb s) then decide (1≤(s.size:Int)∧(s.size:Int)≤12) else false),()):Option (Bool × Unit))=some (jQ s,()):=by unfold jQ;rw [decide_eq_decide.2 (show (1≤(s.size:Int)∧(s.size:Int)≤12)↔(1≤s.size∧s.size≤12) by omega)];cases ly (nb s) <;> rfl
theorem pZ {k:Nat} (hk:2 ^ 50≤k) {s:ByteArray} (hs:s.size≤1099511627776):eN.f k s=some (jQ s,()):=by
 unfold eN.f eN.t;have hn:=df s;refine (fj (L:=fun n i (_:Unit)=>eN.l0 k n s i) (R:=fun r _=>some ((bif ly r then decide (1≤(s.size:Int)∧(s.size:Int)≤12) else false),())) 0 (nb s) (fun _ _=>True) (fun n _ _=>?_) (fun n i _ x rest h0 h1 hx hr hp ih=>?_) (n:=k) (s:=()) (by omega) trivial).trans Mx
 · simp only [hn];simp (disch:=omega) only [eN.l0,eN.b0,aY,aJ,iL k,ac,ly,aa]
 · have hb:=O1 h0 h1 hx;have ih:=ih () trivial;simp only [hn] at *;simp (disch:=omega) only [eN.l0,eN.b0,aW h1,aa,aT,hb,aF,ih,ly];by_cases c1:97≤x
   · rw [aW (show (x:Int)≥97 by omega),aa];by_cases c2:x≤122
     · rw [aW (show (x:Int)≤122 by omega),aW (show 97≤x∧x≤122 from ⟨c1,c2⟩)];rfl
     · rw [aY (show ¬ (x:Int)≤122 by omega),aY (show ¬ (97≤x∧x≤122) by omega),aW (show (x:Int)≥48 by omega),aY (show ¬ (x:Int)≤57 by omega),aY (show ¬ (48≤x∧x≤57) by omega)];rfl
   · rw [aY (show ¬ (x:Int)≥97 by omega),aJ,aY (show ¬ (97≤x∧x≤122) by omega)];by_cases c3:48≤x
     · rw [aW (show (x:Int)≥48 by omega),aa];by_cases c4:x≤57
       · rw [aW (show (x:Int)≤57 by omega),aW (show 48≤x∧x≤57 from ⟨c3,c4⟩)];rfl
       · rw [aY (show ¬ (x:Int)≤57 by omega),aY (show ¬ (48≤x∧x≤57) by omega)];rfl
     · rw [aY (show ¬ (x:Int)≥48 by omega),aJ,aY (show ¬ (48≤x∧x≤57) by omega)];rfl
abbrev bq:=List (Ty.d cI)
def du (l:bq):Nat:=(l.map fun f=>f.2.1.size).sum
def uO (l:bq):Nat:=(l.map fun f=>f.1.size).sum
theorem fy (x:Ty.d cI) (l:bq):du (x::l)=x.2.1.size+du l:=by unfold du;rw [List.map_cons,List.sum_cons]
theorem B5:du []=0:=rfl
theorem AO (x:Ty.d cI) (l:bq):uO (x::l)=x.1.size+uO l:=by unfold uO;rw [List.map_cons,List.sum_cons]
theorem Ap:∀ l m:bq,du (l++m)=du l+du m
 | [],m=>by rw [List.nil_append,B5,Nat.zero_add]
 | x::l,m=>by rw [List.cons_append,fy,fy,Ap l m];omega
theorem vM {l:bq} {x:Ty.d cI} (h:x ∈ l):x.2.1.size≤du l:=by
 induction l with
 | nil=>cases h
 | cons y l ih =>
  rw [fy];rcases List.mem_cons.1 h with e | e
  · subst e;omega
  · have:=ih e;omega
theorem xA {l:bq} {x:Ty.d cI} (h:x ∈ l):x.1.size≤uO l:=by
 induction l with
 | nil=>cases h
 | cons y l ih =>
  rw [AO];rcases List.mem_cons.1 h with e | e
  · subst e;omega
  · have:=ih e;omega
def sa (p:Option (Ty.d cI)) (x:Ty.d cI):Bool :=
 jQ x.1&&(decide ((0:Int)≤x.2.2.1∧x.2.2.1≤(x.2.1.size:Int))&&(match p with | none=>true | some y=>nd y.1 x.1))
def jO (d:Ty.d aA):Bool :=
 decide (d.1.length≤130)&&(decide ((0:Int)≤d.2.1∧d.2.1≤(100000:Int))&&(decide ((-1:Int)≤d.2.2.1∧d.2.2.1≤(100000:Int))&&(decide ((du d.1:Int)≤d.2.1)&&qM sa none d.1)))
theorem DI {l:bq} {i:Nat} {x:Ty.d cI} (h:i<l.length) (hx:l.getD i (Ty.z cI)=x):du (l.take (i+1))=du (l.take i)+x.2.1.size:=by rw [List.take_add_one,Ap];congr 1;simp only [List.getD,List.getElem?_eq_getElem h,Option.getD_some] at hx;rw [List.getElem?_eq_getElem h,hx];show du [x]=_;rw [fy,B5,Nat.add_zero]
theorem wG (l:bq) (i:Nat):du (l.take i)≤du l:=by have:=Ap (l.take i) (l.drop i);rw [List.take_append_drop] at this;omega
theorem iV {k:Nat} (hk:2 ^ 50≤k) {d:Ty.d aA} (hu:du d.1≤1099511627776) (hn:uO d.1≤1099511627776):ay.f k d=some (jO d,()):=by
 unfold ay.f ay.t jO;by_cases c:d.1.length > 130
 · rw [aW (by omega),aa,aY (by omega),Bool.false_and]
 · rw [aY (by omega),aJ,aW (by omega),Bool.true_and,iL,ac];cases decide ((0:Int)≤d.2.1∧d.2.1≤(100000:Int)) with
   | false=>rfl
   | true =>
    rw [fw,aJ,iL,ac,Bool.true_and];cases decide ((-1:Int)≤d.2.2.1∧d.2.2.1≤(100000:Int)) with
    | false=>rfl
    | true =>
     rw [fw,aJ,Bool.true_and];refine (Aj (L:=fun n i=>ay.l0 k n (du (d.1.take i.toNat):Int) d.1 d.1.length i d.1 d.2.1 d.2.2.1 d.2.2.2.1) (Ty.z cI) d.1 sa (some (decide ((du d.1:Int)≤d.2.1),())) (some (false,())) (fun n=>?_) (fun n x h hx=>?_) (fun n i x y h0 h1 hx hy=>?_) (n:=k) (by omega)).trans
      (by cases qM sa none d.1 <;> cases decide ((du d.1:Int)≤d.2.1) <;> rfl)
     · rw [Int.toNat_natCast,List.take_length];simp (disch:=omega) only [ay.l0,ay.b0,aY,aJ]
     · have hm:x ∈ d.1:=by rw [← hx];exact gR (by omega)
       have hs:=xA hm;have ht:=DI (l:=d.1) (i:=0) h hx;have hle:=wG d.1 0;have hz:=vM hm;rw [show Int.toNat 1=0+1 from rfl,ht];simp only [show Int.toNat 0=0 from rfl] at hx ⊢;simp (disch:=omega) only [ay.l0,ay.b0,aW (show (0:Int)<(d.1.length:Int) by omega),aa,aT,show Int.toNat 0=0 from rfl,hx,pZ hk,iL k,ac,aY (show ¬ (0:Int) > 0 by omega),aJ,aF,sa];rw [show (du (d.1.take 0):Int)+(x.2.1.size:Int)=((du (d.1.take 0)+x.2.1.size:Nat):Int) by omega];cases jQ x.1 <;> cases decide ((0:Int)≤x.2.2.1∧x.2.2.1≤(x.2.1.size:Int)) <;> rfl
     · have hm:x ∈ d.1:=by rw [← hx];exact gR (by omega)
       have hs:=xA hm;have ht:=DI (l:=d.1) (i:=i.toNat) (by omega) hx;have hle:=wG d.1 i.toNat;have hz:=vM hm;rw [show Int.toNat (i+1)=i.toNat+1 by omega,ht];simp (disch:=omega) only [ay.l0,ay.b0,aW h1,aa,aT,hx,hy,pZ hk,iL k,ac,aW (show i > 0 by omega),aJ,aF,sa];rw [show (du (d.1.take i.toNat):Int)+(x.2.1.size:Int)=((du (d.1.take i.toNat)+x.2.1.size:Nat):Int) by omega];cases jQ x.1 <;> cases decide ((0:Int)≤x.2.2.1∧x.2.2.1≤(x.2.1.size:Int)) <;> cases nd y.1 x.1 <;> rfl
def oG:bq→ByteArray→Int→Int
 | [],_,_ => -1
 | f::l,s,i=>bif seq f.1 s then i else oG l s (i+1)
def bU:bq→ByteArray→Option (Ty.d cI)
 | [],_=>none
 | f::l,s=>bif seq f.1 s then some f else bU l s
theorem Ax:∀ (l:bq) (s:ByteArray) (i:Int),(bU l s=none∧oG l s i = -1)∨(∃ f,bU l s=some f∧i≤oG l s i∧oG l s i<i+(l.length:Int)∧l.getD (oG l s i-i).toNat (Ty.z cI)=f∧f ∈ l)
 | [],s,i => .inl ⟨rfl,rfl⟩
 | f::l,s,i=>by
  unfold oG bU;cases c:seq f.1 s with
  | true=>exact .inr ⟨f,rfl,Int.le_refl _,by rw [aa,j7];omega,by rw [aa,show (i-i).toNat=0 by omega];rfl,il ..⟩
  | false =>
   rw [aJ,aJ];rcases Ax l s (i+1) with h | ⟨g,h1,h2,h3,h4,h5⟩
   · exact .inl h
   · refine .inr ⟨g,h1,by omega,by rw [j7];omega,?_,kS _ h5⟩;rw [show (oG l s (i+1)-i).toNat=(oG l s (i+1)-(i+1)).toNat+1 by omega];exact h4
theorem jd {k:Nat} (hk:2 ^ 50≤k) {d:Ty.d aA} (hl:d.1.length≤1099511627776) (s:ByteArray):bd.f k d s=some (oG d.1 s 0,()):=by
 unfold bd.f bd.t;refine fj (L:=fun n i (_:Int)=>bd.l0 k n s d.1 d.1.length i) (R:=fun r j=>some (oG r s j,())) (Ty.z cI) d.1 (fun i j=>j=i) (fun n j hj=>?_) (fun n i j x rest h0 h1 hx hr hp ih=>?_) (n:=k) (s:=0) (by omega) rfl
 · simp (disch:=omega) only [bd.l0,bd.b0,aY,aJ,oG]
 · have ih:=ih (i+1) rfl;subst hp;simp (disch:=omega) only [bd.l0,bd.b0,aW h1,aa,aT,hx,aF,ih,oG];cases seq x.1 s <;> rfl
def bJ (d:Ty.d aA) (s:ByteArray):ByteArray × Bool :=
 bif jO d then (match bU d.1 s with | none=>(⟨#[]⟩,false) | some f=>(f.2.1,true)) else (⟨#[]⟩,false)
theorem lS (d:Ty.d aA) (s:ByteArray):(bJ d s).1.size≤du d.1:=by
 unfold bJ;cases jO d with
 | false=>exact Nat.zero_le _
 | true =>
  rw [aa];rcases Ax d.1 s 0 with h | ⟨f,h1,_,_,_,h5⟩
  · rw [h.1];exact Nat.zero_le _
  · rw [h1];exact vM h5
theorem jY {k:Nat} (hk:2 ^ 50≤k) {d:Ty.d aA} (hl:d.1.length≤1099511627776) (hu:du d.1≤1099511627776) (hn:uO d.1≤1099511627776) (s:ByteArray) :
 bu.f k d s=some ((bJ d s).1,((bJ d s).2,())):=by
 unfold bu.f bu.t bJ;rw [jd hk hl,ac];simp only [];rcases Ax d.1 s 0 with h | ⟨f,h1,h2,h3,h4,h5⟩
 · rw [h.1,h.2];cases jO d <;> rfl
 · rw [h1,aY (by omega),aJ,iV hk hu hn,ac];cases jO d with
   | false=>rfl
   | true =>simp only [fw,aJ,aa];rw [aT h2 (by omega)];rw [Int.sub_zero] at h4;rw [h4]
def a_ (p:ByteArray) (n:Int):ByteArray:=bif decide ((1:Int)≤n∧n≤100000) then p++kA n else ⟨#[]⟩
def aG:ByteArray:=⟨#[115,101,103]⟩
theorem vo (k:Nat) {p:ByteArray} (hp:p.size≤1000) (n:Int):jl.f k p n=some (a_ p n,()):=by
 unfold jl.f jl.t a_;rw [iL,ac];by_cases c:(1:Int)≤n∧n≤100000
 · have hz:=nT (n:=n) (by omega) (by omega);rw [aW c];simp only [fw,aJ,aa];rw [HP k (by omega) (by omega),ac,jI (by show p.size+(kA n).size≤_;omega)]
 · rw [aY c];rfl
theorem ch (k:Nat) (n:Int):ai.f k n=some (a_ aG n,()):=by unfold ai.f ai.t;rw [vo k (by decide) n];rfl
structure F3 (d:Ty.d aA):Prop where
 l:d.1.length≤1073741824
 u:du d.1≤1073741824
 n:uO d.1≤1073741824
end Go.Proofs.YtaaincbnjkmapaaGreatDoor.G
namespace Go.V
theorem Aw:∀ a b c:List UInt8,Op.bytesLess a b=true→Op.bytesLess b c=true→Op.bytesLess a c=true
 | a,b,[],_,h2=>by cases b <;> simp [Op.bytesLess] at h2
 | [],b,z::c,_,_=>by simp [Op.bytesLess]
 | x::a,[],z::c,h1,_=>by simp [Op.bytesLess] at h1
 | x::a,y::b,z::c,h1,h2=>by
  simp only [Op.bytesLess] at h1 h2 ⊢;have ih:=Aw a b c;simp only [Bool.or_eq_true,iE,decide_eq_true_eq,beq_iff_eq] at h1 h2 ⊢;rcases h1 with g1 | ⟨rfl,g1⟩
  · rcases h2 with g2 | ⟨rfl,g2⟩
    · exact Or.inl (UInt8.lt_trans g1 g2)
    · exact Or.inl g1
  · rcases h2 with g2 | ⟨rfl,g2⟩
    · exact Or.inl g2
    · exact Or.inr ⟨rfl,ih g1 g2⟩
theorem od {a b c:ByteArray} (h1:nd a b=true) (h2:nd b c=true):nd a c=true:=Aw _ _ _ h1 h2
theorem nM (a:ByteArray):nd a a=false:=by
 have:=tY a a;rw [bQ] at this;cases h:nd a a with
 | false=>rfl
 | true=>rw [h] at this;cases this
theorem KV {a b:ByteArray} (h:nd a b=true):nd b a=false:=by
 cases c:nd b a with
 | false=>rfl
 | true=>have:=od h c;rw [nM] at this;cases this
def cW (K:List ByteArray):Prop:=K.Pairwise (fun a b=>nd a b=true)
end Go.V
namespace Go.Proofs.YtaaincbnjkmapaaGreatDoor.G
open Go.V
def kv:bq→Ty.d cI→bq
 | [],f=>[f]
 | g::l,f=>bif nd f.1 g.1 then f::g::l else g::kv l f
def gi:bq→ByteArray→bq
 | [],_=>[]
 | g::l,s=>bif seq g.1 s then l else g::gi l s
def lQ (h:Ty.d cI→Ty.d cI):bq→ByteArray→bq
 | [],_=>[]
 | g::l,s=>bif seq g.1 s then h g::l else g::lQ h l s
def m6 (d:Ty.d aA):Ty.d aA × Int :=
 bif !jO d then (d,5) else bif d.2.2.2.1 then ((d.1,(d.2.1,(d.2.2.1,(true,())))),1) else bif (d.2.2.1==0) then ((d.1,(d.2.1,(d.2.2.1,(true,())))),1) else
 bif decide ((d.2.2.1:Int) > 0) then ((d.1,(d.2.1,(aQ (d.2.2.1-1),d.2.2.2))),0) else (d,0)
def iQ (d:Ty.d aA) (g:bq→Int→bq × Int):Ty.d aA × Int :=
 bif (m6 d).2 != 0 then m6 d else (((g d.1 d.2.1).1,(m6 d).1.2),(g d.1 d.2.1).2)
def uE (s:ByteArray) (l:bq) (c:Int):bq × Int :=
 bif !jQ s then (l,5) else bif (bU l s).isSome then (l,4) else bif decide ((l.length:Int)≥130) then (l,2) else (kv l (s,(ByteArray.empty,(0,()))),0)
def An (s t:ByteArray) (l:bq) (c:Int):bq × Int :=
 bif (bU l s).isNone then (l,3) else bif decide ((t.size:Int) > aQ (c-(du l:Int))) then (l,2) else (lQ (fun f=>(f.1,(f.2.1++t,f.2.2))) l s,0)
def wC (s:ByteArray) (l:bq) (c:Int):bq × Int :=
 bif (bU l s).isNone then (l,3) else (lQ (fun f=>(f.1,(f.2.1,((f.2.1.size:Int),f.2.2.2)))) l s,0)
def wB (a b:ByteArray) (l:bq) (c:Int):bq × Int :=
 bif !jQ b then (l,5) else match bU l a with
 | none=>(l,3)
 | some f=>bif seq a b then (l,0) else (kv (gi (gi l a) b) (b,f.2),0)
def v7 (s:ByteArray) (l:bq) (c:Int):bq × Int :=
 bif (bU l s).isNone then (l,3) else (gi l s,0)
def Hh (s:ByteArray) (n:Int) (l:bq) (c:Int):bq × Int :=
 match bU l s with
 | none=>(l,3)
 | some f=>bif !decide (0≤n∧n≤(f.2.1.size:Int)) then (l,5) else (lQ (fun f=>(f.1,(ByteArray.extract f.2.1 0 n.toNat,((if n<f.2.2.1 then n else f.2.2.1),f.2.2.2)))) l s,0)
def rk (d:Ty.d aA) (s:ByteArray):=iQ d (uE s)
def jS (d:Ty.d aA) (s t:ByteArray):=iQ d (An s t)
def dY (d:Ty.d aA) (s:ByteArray):=iQ d (wC s)
def xS (d:Ty.d aA) (a b:ByteArray):=iQ d (wB a b)
def yU (d:Ty.d aA) (s:ByteArray):=iQ d (v7 s)
def rK (d:Ty.d aA) (s:ByteArray) (n:Int):=iQ d (Hh s n)
theorem zE (d:Ty.d aA):(m6 d).1.1=d.1:=by unfold m6;cases jO d <;> cases d.2.2.2.1 <;> cases d.2.2.1==0 <;> cases decide ((d.2.2.1:Int) > 0) <;> rfl
theorem Mm (d:Ty.d aA):(m6 d).1.2.1=d.2.1:=by unfold m6;cases jO d <;> cases d.2.2.2.1 <;> cases d.2.2.1==0 <;> cases decide ((d.2.2.1:Int) > 0) <;> rfl
theorem lL:∀ (l:bq) (s:ByteArray) (j:Int),(bU l s=none∧oG l s j = -1∧gi l s=l∧∀ h,lQ h l s=l) ∨
 (∃ n:Nat,n<l.length∧oG l s j=j+n∧bU l s=some (l.getD n (Ty.z cI))∧l.take n++l.drop (n+1)=gi l s∧(l.getD n (Ty.z cI)).1=s∧(∀ h,l.set n (h (l.getD n (Ty.z cI)))=lQ h l s))
 | [],s,j => .inl ⟨rfl,rfl,rfl,fun _=>rfl⟩
 | g::l,s,j=>by
  unfold oG bU gi lQ;cases c:seq g.1 s with
  | true =>refine .inr ⟨0,by rw [j7];omega,?_,rfl,rfl,db.1 c,fun h=>rfl⟩;show j=j+((0:Nat):Int);omega
  | false =>
   simp only [aJ];rcases lL l s (j+1) with ⟨h1,h2,h3,h4⟩ | ⟨n,h1,h2,h3,h4,h5,h6⟩
   · exact .inl ⟨h1,h2,by rw [h3],fun h=>by rw [h4]⟩
   · refine .inr ⟨n+1,by rw [j7];omega,by rw [h2];omega,h3,?_,h5,fun h=>?_⟩
     · rw [List.take_succ_cons,List.drop_succ_cons,List.cons_append,h4]
     · show g::l.set n (h (l.getD n (Ty.z cI)))=_;rw [h6]
def FO (f:Ty.d cI):Prop:=jQ f.1=true∧LE.le (α:=Int) 0 f.2.2.1∧LE.le (α:=Int) f.2.2.1 f.2.1.size
def lU (l:bq):List ByteArray:=l.map (·.1)
theorem Fw:∀ (l:bq) (p:Option (Ty.d cI)),qM sa p l=true↔((∀ f ∈ l,FO f)∧cW (lU l)∧(∀ q,p=some q→∀ f ∈ l,nd q.1 f.1=true))
 | [],p=>by
  constructor
  · intro _;exact ⟨fun f h=>(by cases h),List.Pairwise.nil,fun q _ f h=>(by cases h)⟩
  · intro _;rfl
 | g::l,p=>by
  have ih:=Fw l (some g);unfold qM;rw [iE,ih];have hf:sa p g=true↔(FO g∧(∀ q,p=some q→nd q.1 g.1=true)):=by
   unfold sa FO;rw [iE,iE,decide_eq_true_eq];cases p with
   | none=>exact ⟨fun h=>⟨⟨h.1,h.2.1⟩,fun q hq=>(by cases hq)⟩,fun h=>⟨h.1.1,h.1.2,rfl⟩⟩
   | some q=>exact ⟨fun h=>⟨⟨h.1,h.2.1⟩,fun q' hq=>(by cases hq;exact h.2.2)⟩,fun h=>⟨h.1.1,h.1.2,h.2 q rfl⟩⟩
  rw [hf];constructor
  · rintro ⟨⟨h1,h2⟩,h3,h4,h5⟩
    refine ⟨fun f hf=>?_,?_,fun q hq f hf=>?_⟩
    · rcases List.mem_cons.1 hf with e | e
      · rw [e];exact h1
      · exact h3 f e
    · unfold cW lU;rw [List.map_cons,List.pairwise_cons];refine ⟨fun x hx=>?_,h4⟩;obtain ⟨f,hf,rfl⟩:=List.mem_map.1 hx;exact h5 g rfl f hf
    · rcases List.mem_cons.1 hf with e | e
      · rw [e];exact h2 q hq
      · exact od (h2 q hq) (h5 g rfl f e)
  · rintro ⟨h1,h2,h3⟩
    unfold cW lU at h2;rw [List.map_cons,List.pairwise_cons] at h2;refine ⟨⟨h1 g (il ..),fun q hq=>h3 q hq g (il ..)⟩,fun f hf=>h1 f (kS _ hf),h2.2,fun q hq f hf=>?_⟩;cases hq;exact h2.1 f.1 (List.mem_map.2 ⟨f,hf,rfl⟩)
structure DR (d:Ty.d aA):Prop where
 len:d.1.length≤130
 cap0:LE.le (α:=Int) 0 d.2.1
 cap1:LE.le (α:=Int) d.2.1 100000
 fu0:LE.le (α:=Int) (-1) d.2.2.1
 fu1:LE.le (α:=Int) d.2.2.1 100000
 use:LE.le (α:=Int) (du d.1) d.2.1
 all:∀ f ∈ d.1,FO f
 keys:cW (lU d.1)
theorem jX {d:Ty.d aA}:jO d=true↔DR d:=by
 unfold jO;rw [iE,iE,iE,iE,decide_eq_true_eq,decide_eq_true_eq,decide_eq_true_eq,decide_eq_true_eq,Fw];constructor
 · rintro ⟨h1,⟨h2,h3⟩,⟨h4,h5⟩,h6,h7,h8,_⟩
   exact ⟨h1,h2,h3,h4,h5,h6,h7,h8⟩
 · intro h;exact ⟨h.len,⟨h.cap0,h.cap1⟩,⟨h.fu0,h.fu1⟩,h.use,h.all,h.keys,fun q hq=>(by cases hq)⟩
theorem Hq {s:ByteArray} (h:jQ s=true):1≤s.size∧s.size≤12:=by unfold jQ at h;rw [iE,decide_eq_true_eq] at h;exact h.2
theorem FW:∀ l:bq,(∀ f ∈ l,FO f)→uO l≤12*l.length
 | [],_=>Nat.le_refl _
 | f::l,h=>by
  have:=FW l fun g hg=>h g (kS _ hg)
  have:=(Hq (h f (il ..)).1).2;rw [AO,j7];omega
theorem DR.sz {d:Ty.d aA} (h:DR d):F3 d:=by have h1:=h.len;have h2:=h.use;have h3:=h.cap1;have h4:=FW d.1 h.all;exact ⟨by omega,by omega,by omega⟩
theorem Du {l:bq} {f x:Ty.d cI}:x ∈ kv l f↔x=f∨x ∈ l:=by
 induction l with
 | nil=>simp [kv]
 | cons g l ih =>
  unfold kv;cases nd f.1 g.1
  · simp only [aJ,List.mem_cons,ih];exact ⟨fun h=>h.elim (fun q => .inr (.inl q)) (fun q=>q.elim .inl (fun q => .inr (.inr q))),fun h=>h.elim (fun q => .inr (.inl q)) (fun q=>q.elim .inl (fun q => .inr (.inr q)))⟩
  · simp only [aa,List.mem_cons]
theorem qw:∀ (l:bq) (s:ByteArray),(gi l s).Sublist l
 | [],s=>List.Sublist.slnil
 | g::l,s=>by
  unfold gi;cases seq g.1 s
  · exact (qw l s).cons_cons g
  · exact (List.Sublist.refl l).cons g
theorem Ik {h:Ty.d cI→Ty.d cI} (hh:∀ f,(h f).1=f.1):∀ (l:bq) (s:ByteArray),lU (lQ h l s)=lU l
 | [],s=>rfl
 | g::l,s=>by
  unfold lQ;cases seq g.1 s
  · show g.1::lU (lQ h l s)=g.1::lU l;rw [Ik hh l s]
  · show (h g).1::lU l=g.1::lU l;rw [hh]
theorem zg {h:Ty.d cI→Ty.d cI} (hh:∀ f,(h f).1=f.1) {l:bq} {s:ByteArray} (hk:cW (lU l)):cW (lU (lQ h l s)):=by rw [Ik hh];exact hk
theorem wD {h:Ty.d cI→Ty.d cI}:∀ {l:bq} {s:ByteArray} {x:Ty.d cI},x ∈ lQ h l s→x ∈ l∨∃ f,bU l s=some f∧x=h f
 | [],s,x,hx => .inl hx
 | g::l,s,x,hx=>by
  unfold lQ at hx;unfold bU;cases c:seq g.1 s with
  | true =>
   rw [c,aa] at hx;rcases List.mem_cons.1 hx with e | e
   · exact .inr ⟨g,rfl,e⟩
   · exact .inl (kS _ e)
  | false =>
   rw [c,aJ] at hx;rcases List.mem_cons.1 hx with e | e
   · exact .inl (by rw [e];exact il ..)
   · rcases wD e with q | ⟨f,q1,q2⟩
     · exact .inl (kS _ q)
     · exact .inr ⟨f,q1,q2⟩
theorem qZ {h:Ty.d cI→Ty.d cI}:∀ {l:bq} {s:ByteArray} {f:Ty.d cI},bU l s=some f→du (lQ h l s)+f.2.1.size=du l+(h f).2.1.size
 | [],s,f,hf=>by cases hf
 | g::l,s,f,hf=>by
  unfold bU at hf;unfold lQ;cases c:seq g.1 s with
  | true =>rw [c] at hf;cases hf;rw [aa,fy,fy];omega
  | false =>rw [c] at hf;have:=qZ (h:=h) hf;rw [aJ,fy,fy];omega
theorem sL:∀ (l:bq) (f:Ty.d cI),du (kv l f)=du l+f.2.1.size
 | [],f=>by unfold kv;rw [fy,B5,Nat.add_comm]
 | g::l,f=>by
  unfold kv;cases nd f.1 g.1
  · rw [aJ,fy,fy,sL l f];omega
  · rw [aa,fy,fy];omega
theorem vI:∀ {l:bq} {s:ByteArray} {f:Ty.d cI},bU l s=some f→du (gi l s)+f.2.1.size=du l
 | [],s,f,hf=>by cases hf
 | g::l,s,f,hf=>by
  unfold bU at hf;unfold gi;cases c:seq g.1 s with
  | true=>rw [c] at hf;cases hf;rw [aa,fy];omega
  | false =>rw [c] at hf;have:=vI hf;rw [aJ,fy,fy];omega
theorem py (l:bq) (s:ByteArray):du (gi l s)≤du l:=by
 cases h:bU l s with
 | some f=>have:=vI h;omega
 | none =>
  rcases lL l s 0 with ⟨_,_,h3,_⟩ | ⟨n,_,_,h3,_⟩
  · rw [h3];exact Nat.le_refl _
  · rw [h] at h3;cases h3
theorem vO:∀ (l:bq) (f:Ty.d cI),(kv l f).length=l.length+1
 | [],f=>rfl
 | g::l,f=>by
  unfold kv;cases nd f.1 g.1
  · rw [aJ,j7,vO l f,j7]
  · rw [aa,j7,j7]
theorem tw (h:Ty.d cI→Ty.d cI):∀ (l:bq) (s:ByteArray),(lQ h l s).length=l.length
 | [],s=>rfl
 | g::l,s=>by
  unfold lQ;cases seq g.1 s
  · rw [aJ,j7,tw h l s,j7]
  · rw [aa,j7,j7]
theorem nB:∀ {l:bq} {s:ByteArray} {f:Ty.d cI},bU l s=some f→f ∈ l∧f.1=s
 | [],s,f,h=>by cases h
 | g::l,s,f,h=>by
  unfold bU at h;cases c:seq g.1 s with
  | true=>rw [c] at h;cases h;exact ⟨il ..,db.1 c⟩
  | false =>rw [c] at h;exact ⟨kS _ (nB h).1,(nB h).2⟩
theorem qV:∀ {l:bq} {s:ByteArray},bU l s=none↔∀ f ∈ l,f.1≠s
 | [],s=>⟨fun _ f h=>(by cases h),fun _=>rfl⟩
 | g::l,s=>by
  unfold bU;cases c:seq g.1 s with
  | true =>
   constructor
   · intro h;cases h
   · intro h;exact absurd (db.1 c) (h g (il ..))
  | false =>
   rw [aJ,qV];constructor
   · intro h f hf;rcases List.mem_cons.1 hf with e | e
     · rw [e];intro q;rw [Gp q] at c;cases c
     · exact h f e
   · intro h f hf;exact h f (kS _ hf)
theorem Ac {f:Ty.d cI}:∀ {l:bq},cW (lU l)→(∀ g ∈ l,g.1≠f.1)→cW (lU (kv l f))
 | [],_,_=>by unfold kv;exact List.pairwise_singleton ..
 | g::l,h,hn=>by
  unfold cW lU at h;rw [List.map_cons,List.pairwise_cons] at h;unfold kv;cases c:nd f.1 g.1 with
  | true =>
   rw [aa];unfold cW lU;rw [List.map_cons,List.pairwise_cons];refine ⟨fun x hx=>?_,by rw [List.map_cons,List.pairwise_cons];exact h⟩;rw [List.map_cons] at hx;rcases List.mem_cons.1 hx with e | e
   · rw [e];exact c
   · exact od c (h.1 x e)
  | false =>
   rw [aJ];have ih:=Ac (f:=f) (l:=l) h.2 fun g' hg=>hn g' (kS _ hg)
   unfold cW lU;rw [List.map_cons,List.pairwise_cons];refine ⟨fun x hx=>?_,ih⟩;obtain ⟨y,hy,rfl⟩:=List.mem_map.1 hx;rcases Du.1 hy with e | e
   · rw [e];have ht:=tY g.1 f.1;rw [c,kZ (hn g (il ..))] at ht;cases q:nd g.1 f.1 with
     | true=>rfl
     | false=>rw [q] at ht;cases ht
   · exact h.1 y.1 (List.mem_map.2 ⟨y,e,rfl⟩)
theorem sR {l m:bq} (h:m.Sublist l) (hk:cW (lU l)):cW (lU m):=List.Pairwise.sublist (h.map _) hk
theorem On {l:bq} (hk:cW (lU l)) {s:ByteArray} {f:Ty.d cI} (h:bU l s=some f):bU (gi l s) s=none:=by
 induction l with
 | nil=>cases h
 | cons g l ih =>
  unfold cW lU at hk;rw [List.map_cons,List.pairwise_cons] at hk;unfold bU at h;unfold gi;cases c:seq g.1 s with
  | true =>rw [aa,qV];intro x hx e;have:=hk.1 x.1 (List.mem_map.2 ⟨x,hx,rfl⟩);rw [e,db.1 c,nM] at this;cases this
  | false =>rw [c] at h;rw [aJ];unfold bU;rw [c,aJ];exact ih hk.2 h
theorem pA {l:bq} (hk:cW (lU l)) (s:ByteArray):bU (gi l s) s=none:=by
 cases h:bU l s with
 | some f=>exact On hk h
 | none =>
  rcases lL l s 0 with ⟨h1,_,h3,_⟩ | ⟨n,_,_,h3,_⟩
  · rw [h3];exact h1
  · rw [h] at h3;cases h3
theorem I1 {l:bq} (hk:cW (lU l)) {f:Ty.d cI} (h:f ∈ l):bU l f.1=some f:=by
 induction l with
 | nil=>cases h
 | cons g l ih =>
  unfold cW lU at hk;rw [List.map_cons,List.pairwise_cons] at hk;unfold bU;rcases List.mem_cons.1 h with e | e
  · rw [e,bQ];rfl
  · have:=hk.1 f.1 (List.mem_map.2 ⟨f,e,rfl⟩);rw [kZ (fun q=>by rw [q,nM] at this;cases this),aJ];exact ih hk.2 e
def GR (g:bq→Int→bq × Int):Prop:=∀ l c,l.length≤130→(0:Int)≤c→c≤100000→(du l:Int)≤c→(∀ f ∈ l,FO f)→cW (lU l) →
 (g l c).1.length≤130∧(du (g l c).1:Int)≤c∧(∀ f ∈ (g l c).1,FO f)∧cW (lU (g l c).1)
theorem Ob {d:Ty.d aA} (h:DR d):DR (m6 d).1:=by
 have hd:=jX.2 h;have g0:=h.fu0;have g1:=h.fu1;unfold m6;rw [hd];cases c1:d.2.2.2.1 with
 | true=>exact ⟨h.len,h.cap0,h.cap1,h.fu0,h.fu1,h.use,h.all,h.keys⟩
 | false =>
  cases c2:d.2.2.1==0 with
  | true=>exact ⟨h.len,h.cap0,h.cap1,h.fu0,h.fu1,h.use,h.all,h.keys⟩
  | false =>
   by_cases c3:(d.2.2.1:Int) > 0
   · have e:∀ x:Int,x > 0→x≤100000 → -1≤aQ (x-1)∧aQ (x-1)≤100000:=fun x q1 q2=>by
      rw [aF (by omega) (by omega)];omega
     have e:=e d.2.2.1 c3 g1;rw [aW c3];exact ⟨h.len,h.cap0,h.cap1,e.1,e.2,h.use,h.all,h.keys⟩
   · rw [aY c3];exact h
theorem tk {g:bq→Int→bq × Int} (hg:GR g) {d:Ty.d aA} (h:DR d):DR (iQ d g).1:=by
 have hb:=Ob h;unfold iQ;cases c:(m6 d).2 != 0 with
 | true=>exact hb
 | false =>have hk:(m6 d).1.2.1=d.2.1:=Mm d;obtain ⟨g1,g2,g3,g4⟩:=hg d.1 d.2.1 h.len h.cap0 h.cap1 h.use h.all h.keys;exact ⟨g1,hb.cap0,hb.cap1,hb.fu0,hb.fu1,by show (du (g d.1 d.2.1).1:Int)≤(m6 d).1.2.1;rw [hk];exact g2,g3,g4⟩
theorem PU (s:ByteArray):GR (uE s):=by
 intro l c h1 h2 h3 h4 h5 h6;unfold uE;cases hn:jQ s with
 | false=>exact ⟨h1,h4,h5,h6⟩
 | true =>
  cases hs:(bU l s).isSome with
  | true=>exact ⟨h1,h4,h5,h6⟩
  | false =>
   by_cases hl:(l.length:Int)≥130
   · rw [aW hl];exact ⟨h1,h4,h5,h6⟩
   · rw [aY hl];have hnone:bU l s=none:=by
      cases q:bU l s with
      | none=>rfl
      | some f=>rw [q] at hs;cases hs
     refine ⟨by show (kv l _).length≤130;rw [vO];omega,by show (du (kv l _):Int)≤c;rw [sL];exact h4,fun f hf=>?_,Ac h6 (qV.1 hnone)⟩;rcases Du.1 hf with e | e
     · rw [e];exact ⟨hn,Int.le_refl _,by show (0:Int)≤_;omega⟩
     · exact h5 f e
theorem QQ (s t:ByteArray):GR (An s t):=by
 intro l c h1 h2 h3 h4 h5 h6;unfold An;cases hs:bU l s with
 | none=>exact ⟨h1,h4,h5,h6⟩
 | some f =>
  simp only [Option.isNone_some,aJ];rw [aF (by omega) (by omega)];by_cases ht:(t.size:Int) > c-(du l:Int)
  · rw [aW ht];exact ⟨h1,h4,h5,h6⟩
  · rw [aY ht];have hu:=qZ (h:=fun f=>(f.1,(f.2.1++t,f.2.2))) hs;have hz:(f.2.1++t).size=f.2.1.size+t.size:=ByteArray.size_append ..;simp only [hz] at hu;refine ⟨by show (lQ _ l s).length≤130;rw [tw];exact h1,by show (du (lQ _ l s):Int)≤c;omega,fun x hx=>?_,zg (by intro f;rfl) h6⟩;rcases wD hx with q | ⟨y,q1,q2⟩
    · exact h5 x q
    · obtain ⟨a,b,c'⟩:=h5 y (nB q1).1;rw [q2];refine ⟨a,b,?_⟩;show LE.le (α:=Int) y.2.2.1 ((y.2.1++t).size:Int);have:(y.2.1++t).size=y.2.1.size+t.size:=ByteArray.size_append ..;omega
theorem QG (s:ByteArray):GR (wC s):=by
 intro l c h1 h2 h3 h4 h5 h6;unfold wC;cases hs:bU l s with
 | none=>exact ⟨h1,h4,h5,h6⟩
 | some f =>
  simp only [Option.isNone_some,aJ];have hu:=qZ (h:=fun f=>(f.1,(f.2.1,((f.2.1.size:Int),f.2.2.2)))) hs;refine ⟨by show (lQ _ l s).length≤130;rw [tw];exact h1,by show (du (lQ _ l s):Int)≤c;simp only [] at hu;omega,fun x hx=>?_,zg (by intro f;rfl) h6⟩;rcases wD hx with q | ⟨y,q1,q2⟩
  · exact h5 x q
  · obtain ⟨a,b,c'⟩:=h5 y (nB q1).1;rw [q2];exact ⟨a,by show (0:Int)≤(y.2.1.size:Int);omega,Int.le_refl _⟩
theorem QJ (s:ByteArray):GR (v7 s):=by
 intro l c h1 h2 h3 h4 h5 h6;unfold v7;cases hs:bU l s with
 | none=>exact ⟨h1,h4,h5,h6⟩
 | some f =>have hd:=qw l s;have hu:=py l s;exact ⟨Nat.le_trans hd.length_le h1,by show (du (gi l s):Int)≤c;omega,fun x hx=>h5 x (hd.subset hx),sR hd h6⟩
theorem wy (s:ByteArray) {n:Nat} (h:n≤s.size):(ByteArray.extract s 0 n).size=n:=by rw [ByteArray.size_extract];omega
theorem QI (s:ByteArray) (n:Int):GR (Hh s n):=by
 intro l c h1 h2 h3 h4 h5 h6;unfold Hh;cases hs:bU l s with
 | none=>exact ⟨h1,h4,h5,h6⟩
 | some f =>
  simp only [];by_cases hn:0≤n∧n≤(f.2.1.size:Int)
  · rw [aW hn];have hu:=qZ (h:=fun f=>(f.1,(ByteArray.extract f.2.1 0 n.toNat,((if n<f.2.2.1 then n else f.2.2.1),f.2.2.2)))) hs;have hz:=wy f.2.1 (n:=n.toNat) (by omega);simp only [hz] at hu;refine ⟨by show (lQ _ l s).length≤130;rw [tw];exact h1,by show (du (lQ _ l s):Int)≤c;omega,fun x hx=>?_,zg (by intro f;rfl) h6⟩;rcases wD hx with q | ⟨y,q1,q2⟩
    · exact h5 x q
    · rw [hs] at q1;cases q1;obtain ⟨a,b,c'⟩:=h5 f (nB hs).1;rw [q2];refine ⟨a,?_,?_⟩
      · show (0:Int)≤if n<f.2.2.1 then n else f.2.2.1
        split <;> omega
      · show (if n<f.2.2.1 then n else f.2.2.1)≤((ByteArray.extract f.2.1 0 n.toNat).size:Int);rw [hz];split <;> omega
  · rw [aY hn];exact ⟨h1,h4,h5,h6⟩
theorem QX (a b:ByteArray):GR (wB a b):=by
 intro l c h1 h2 h3 h4 h5 h6;unfold wB;cases hn:jQ b with
 | false=>exact ⟨h1,h4,h5,h6⟩
 | true =>
  simp only [fw,aJ];cases hs:bU l a with
  | none=>exact ⟨h1,h4,h5,h6⟩
  | some f =>
   simp only [];cases seq a b with
   | true=>exact ⟨h1,h4,h5,h6⟩
   | false =>
    simp only [aJ];have hd:=qw l a;have hd2:=qw (gi l a) b;have hu:=vI hs;have hu2:=py (gi l a) b;have hk2:=sR (hd2.trans hd) h6;have hl:=lL l a 0;have hlen:(gi l a).length+1=l.length:=by
     rcases lL l a 0 with ⟨q,_⟩ | ⟨n,q1,_,_,q4,_⟩
     · rw [hs] at q;cases q
     · rw [← q4,nE,List.length_take,List.length_drop];omega
    have hlen2:=hd2.length_le;refine ⟨by rw [vO];omega,by rw [sL];show ((du (gi (gi l a) b)+f.2.1.size:Nat):Int)≤c;omega,fun x hx=>?_,Ac hk2 (qV.1 (pA (sR hd h6) b))⟩;rcases Du.1 hx with e | e
    · rw [e];exact ⟨hn,(h5 f (nB hs).1).2.1,(h5 f (nB hs).1).2.2⟩
    · exact h5 x ((hd2.trans hd).subset e)
theorem I2 {d:Ty.d aA} (h:DR d) (s:ByteArray):DR (rk d s).1:=tk (PU s) h
theorem qs {d:Ty.d aA} (h:DR d) (s t:ByteArray):DR (jS d s t).1:=tk (QQ s t) h
theorem mj {d:Ty.d aA} (h:DR d) (s:ByteArray):DR (dY d s).1:=tk (QG s) h
theorem NG {d:Ty.d aA} (h:DR d) (a b:ByteArray):DR (xS d a b).1:=tk (QX a b) h
theorem Lx {d:Ty.d aA} (h:DR d) (s:ByteArray):DR (yU d s).1:=tk (QJ s) h
theorem Df {d:Ty.d aA} (h:DR d) (s:ByteArray) (n:Int):DR (rK d s n).1:=tk (QI s n) h
theorem set_set {l:bq} {n:Nat} (x y:Ty.d cI):(l.set n x).set n y=l.set n y:=by simp
theorem gm (k:Nat) {d:Ty.d aA} (hl:d.1.length≤1073741824):bD.f k d=some (d,()):=by unfold bD.f bD.t;rw [bn (by omega) (by decide)]
theorem vF:∀ {l:bq} {a:ByteArray} {f:Ty.d cI},cW (lU l)→bU l a=some f→kv (gi l a) (a,f.2)=l
 | [],a,f,_,h=>by cases h
 | g::l,a,f,hk,h=>by
  have hk':(∀ x ∈ lU l,nd g.1 x=true)∧cW (lU l):=List.pairwise_cons.1 hk;unfold bU at h;unfold gi;cases c:seq g.1 a with
  | true =>
   rw [c] at h;cases h;rw [aa];have e:=db.1 c;subst e;cases l with
   | nil=>rfl
   | cons x l =>have:=hk'.1 x.1 (il ..);unfold kv;rw [this];rfl
  | false =>
   rw [c] at h;rw [aJ];have hm:=nB h;have h1:nd g.1 a=true:=by have:=hk'.1 f.1 (List.mem_map.2 ⟨f,hm.1,rfl⟩);rw [hm.2] at this;exact this
   unfold kv;rw [KV h1,aJ,vF hk'.2 h]
theorem sS {k:Nat} (hk:2 ^ 50≤k) {d:Ty.d aA} (hl:d.1.length≤1073741824) (s:ByteArray):eV.f k d s=some ((gi d.1 s,d.2),()):=by
 unfold eV.f eV.t;rw [jd hk (by omega),ac];rcases lL d.1 s 0 with ⟨h1,h2,h3,_⟩ | ⟨n,h1,h2,h3,h4,_⟩
 · rw [h2,h3];simp only [];rw [aY (by decide),aJ]
 · rw [Int.zero_add] at h2;rw [h2,← h4];have e:aQ ((n:Int)+1)=((n+1:Nat):Int):=by rw [aF (by omega) (by omega)];omega
   simp only [e,s5];rw [aW (by omega),aa,d7 (by omega) (by omega),bn (by rw [List.length_take];omega) (by decide),d7 (by omega) (by omega),bn (by rw [List.length_take,List.length_drop];omega) (by decide)]
theorem zZ {k:Nat} (hk:2 ^ 50≤k) {d:Ty.d aA} (hl:d.1.length≤1073741824) (f:Ty.d cI) (hn:∀ g ∈ d.1,g.1≠f.1):dP.f k d f=some ((kv d.1 f,d.2),()):=by
 unfold dP.f dP.t;have key:=M7 (L:=fun n i (_:Unit)=>dP.l0 k n i d.1 d.2.1 d.2.2.1 d.2.2.2.1 f.1 f.2.1 f.2.2.1) (R:=fun i _=>some ((d.1.take i.toNat++kv (d.1.drop i.toNat) f,d.2),())) d.1.length (fun _ _=>True) (fun n _ _=>?_) (fun n i _ h0 h1 _ ih=>?_) k 0 () (by omega) (by omega) (by omega) trivial
 · rw [show (0:Int).toNat=0 from rfl,List.take_zero,List.nil_append,List.drop_zero] at key;exact key
 · simp only [dP.l0,dP.b0];rw [aY (by omega),aJ,s5,d7 (by omega) (by omega),bn (by rw [List.length_take];omega) (by decide),bn (by rw [List.length_take];omega) (by decide),d7 (by omega) (by omega),bn (by rw [nE,List.length_take,List.length_drop];simp only [List.length_singleton];omega) (by decide),List.drop_length,List.append_nil];rfl
 · have ih:=ih () trivial;have hlt:i.toNat<d.1.length:=by omega
   have e:d.1.drop i.toNat=d.1.getD i.toNat (Ty.z cI)::d.1.drop (i.toNat+1):=by rw [List.drop_eq_getElem_cons hlt];simp [List.getD,hlt]
   have hne:(d.1.getD i.toNat (Ty.z cI)).1≠f.1:=hn _ (gR hlt);have ht:=tY (d.1.getD i.toNat (Ty.z cI)).1 f.1;rw [kZ hne,Bool.or_false] at ht;simp only [dP.l0,dP.b0];rw [aW h1,aa,aT h0 h1,aF (n:=i+1) (by omega) (by omega),ih];rw [show kv (d.1.drop i.toNat) f=bif nd f.1 (d.1.getD i.toNat (Ty.z cI)).1 then f::d.1.drop i.toNat else d.1.getD i.toNat (Ty.z cI)::kv (d.1.drop (i.toNat+1)) f by rw [e];rfl];rw [show nd (List.getD d.1 i.toNat (Ty.z cI)).1 f.1=!nd f.1 (d.1.getD i.toNat (Ty.z cI)).1 from ht];cases c:nd f.1 (d.1.getD i.toNat (Ty.z cI)).1 with
   | false =>rw [show (i+1).toNat=i.toNat+1 by omega,mh (z:=Ty.z cI) hlt,oK];rfl
   | true =>rw [fw,aJ,aa,d7 h0 (by omega),bn (by rw [List.length_take];omega) (by decide),bn (by rw [List.length_take];omega) (by decide),d7 h0 (by omega),bn (by rw [nE,List.length_take,List.length_drop];simp only [List.length_singleton];omega) (by decide),oK];rfl
theorem Es {k:Nat} (hk:2 ^ 50≤k) {d:Ty.d aA} (hl:d.1.length≤1073741824) (hu:du d.1≤1073741824):hO.f k d=some ((du d.1:Int),()):=by
 unfold hO.f hO.t;refine (fj (L:=fun n i s=>hO.l0 k n s d.1 d.1.length i) (R:=fun r s=>some (s+(du r:Int),())) (Ty.z cI) d.1 (fun i s=>0≤s∧s+(du (d.1.drop i.toNat):Int)≤1099511627776) (fun n s hs=>?_) (fun n i s x rest h0 h1 hx hr hp ih=>?_) (n:=k) (s:=0) (by omega) ⟨by omega,by rw [show d.1.drop (Int.toNat 0)=d.1 from rfl];omega⟩).trans (by rw [Int.zero_add])
 · simp (disch:=omega) only [hO.l0,hO.b0,aY,aJ];show some (s,())=some (s+((0:Nat):Int),());rw [show s+((0:Nat):Int)=s by omega]
 · have hrest:d.1.drop (i+1).toNat=rest:=by
    have:=congrArg (List.drop 1) hr;rw [List.drop_drop,List.drop_one,List.tail_cons] at this;rw [show (i+1).toNat=i.toNat+1 by omega];exact this
   rw [hr,fy] at hp;have ih:=ih (s+(x.2.1.size:Int)) ⟨by omega,by rw [hrest];omega⟩;simp (disch:=omega) only [hO.l0,hO.b0,aW h1,aa,aT,hx,aF,ih];rw [show s+(x.2.1.size:Int)+(du rest:Int)=s+((x.2.1.size+du rest:Nat):Int) by omega];show _=some (s+((du (x::rest):Nat):Int),());rw [fy]
theorem NF {k:Nat} (hk:2 ^ 50≤k) {d:Ty.d aA} (hl:d.1.length≤1073741824) {s:ByteArray} (hs:s.size≤1099511627776) :
 gA.f k d s=some (((uE s d.1 d.2.1).1,d.2),(s,((uE s d.1 d.2.1).2,()))):=by
 unfold gA.f gA.t uE;rw [pZ hk hs,ac];cases jQ s with
 | false=>rfl
 | true =>
  simp only [fw,aJ];rw [jd hk (by omega),ac];rcases lL d.1 s 0 with ⟨h1,h2,_⟩ | ⟨n,h1,h2,h3,_⟩
  · rw [h1,h2];simp only [Option.isSome_none,aJ];rw [aY (by decide),aJ];by_cases cl:(d.1.length:Int)≥130
    · rw [aW cl];rfl
    · rw [aY cl,aJ,aJ,zZ hk hl _ (qV.1 h1),ac]
  · rw [h2,h3];simp only [Option.isSome_some,aa];rw [aW (by omega),aa]
theorem N7 {k:Nat} (hk:2 ^ 50≤k) {d:Ty.d aA} (hl:d.1.length≤1073741824) (hu:du d.1≤1073741824) (s:ByteArray) {t:ByteArray} (ht:t.size≤1099511627776) :
 g7.f k d s t=some (((An s t d.1 d.2.1).1,d.2),(s,(t,((An s t d.1 d.2.1).2,())))):=by
 unfold g7.f g7.t An;rw [jd hk (by omega),ac];rcases lL d.1 s 0 with ⟨h1,h2,_⟩ | ⟨n,h1,h2,h3,_,_,h6⟩
 · rw [h1,h2];simp only [Option.isNone_none,aa];rw [aW (by decide),aa]
 · rw [Int.zero_add] at h2;rw [h2,h3];simp only [Option.isNone_some,aJ];rw [aY (by omega),aJ,Es hk hl hu,ac];simp only [];cases decide ((t.size:Int) > aQ (d.2.1-(du d.1:Int))) with
   | true=>rfl
   | false =>have hm:=vM (nB h3).1;rw [aJ,aJ,s5,aT (by omega) (by omega),jI (Nat.le_trans (Nat.add_le_add (Nat.le_trans hm hu) ht) (by decide)),aT (by omega) (by omega),← h6]
theorem My {k:Nat} (hk:2 ^ 50≤k) {d:Ty.d aA} (hl:d.1.length≤1073741824) (s:ByteArray) :
 iX.f k d s=some (((wC s d.1 d.2.1).1,d.2),(s,((wC s d.1 d.2.1).2,()))):=by
 unfold iX.f iX.t wC;rw [jd hk (by omega),ac];rcases lL d.1 s 0 with ⟨h1,h2,_⟩ | ⟨n,h1,h2,h3,_,_,h6⟩
 · rw [h1,h2];simp only [Option.isNone_none,aa];rw [aW (by decide),aa]
 · rw [Int.zero_add] at h2;rw [h2,h3];simp only [Option.isNone_some,aJ];rw [aY (by omega),aJ,s5,aT (by omega) (by omega),aT (by omega) (by omega),← h6]
theorem Lc {k:Nat} (hk:2 ^ 50≤k) {d:Ty.d aA} (hl:d.1.length≤1073741824) (s:ByteArray) :
 g9.f k d s=some (((v7 s d.1 d.2.1).1,d.2),(s,((v7 s d.1 d.2.1).2,()))):=by
 unfold g9.f g9.t v7;rw [jd hk (by omega),ac];rcases lL d.1 s 0 with ⟨h1,h2,_⟩ | ⟨n,h1,h2,h3,_⟩
 · rw [h1,h2];simp only [Option.isNone_none,aa];rw [aW (by decide),aa]
 · rw [Int.zero_add] at h2;rw [h2,h3];simp only [Option.isNone_some,aJ];rw [aY (by omega),aJ,sS hk hl,ac]
theorem Mp {k:Nat} (hk:2 ^ 50≤k) {d:Ty.d aA} (hl:d.1.length≤1073741824) (s:ByteArray) (m:Int) :
 eY.f k d s m=some (((Hh s m d.1 d.2.1).1,d.2),(s,(m,((Hh s m d.1 d.2.1).2,())))):=by
 unfold eY.f eY.t Hh;rw [jd hk (by omega),ac];rcases lL d.1 s 0 with ⟨h1,h2,_⟩ | ⟨n,h1,h2,h3,_,_,h6⟩
 · rw [h1,h2];simp only [];rw [aW (by decide),aa]
 · rw [Int.zero_add] at h2;rw [h2,h3];simp only [];rw [aY (by omega),aJ,s5,aT (by omega) (by omega),iL,ac];by_cases hm:0≤m∧m≤((d.1.getD n (Ty.z cI)).2.1.size:Int)
   · rw [aW hm];simp only [fw,aJ];rw [d7 hm.1 hm.2,← h6];have g:∀ x z:Ty.d cI,(d.1.set n x).getD n z=x:=fun x z=>by simp [List.getD,h1]
     rw [g,List.set_set]
   · rw [aY hm];rfl
theorem NN {k:Nat} (hk:2 ^ 50≤k) {d:Ty.d aA} (hl:d.1.length≤1073741824) (hs:cW (lU d.1)) (a:ByteArray) {b:ByteArray} (hb:b.size≤1099511627776) :
 g_.f k d a b=some (((wB a b d.1 d.2.1).1,d.2),(a,(b,((wB a b d.1 d.2.1).2,())))):=by
 unfold g_.f g_.t wB;rw [jd hk (by omega),ac,pZ hk hb,ac];cases jQ b with
 | false=>rfl
 | true =>
  simp only [fw,aJ];rcases lL d.1 a 0 with ⟨h1,h2,_⟩ | ⟨n,h1,h2,h3,_,_,_⟩
  · rw [h1,h2,aW (by decide),aa]
  · have hd1:=qw d.1 a;have hd2:=qw (gi d.1 a) b;have l1:=hd1.length_le;have l2:=hd2.length_le;rw [Int.zero_add] at h2;rw [h2,h3];simp only [];rw [aY (by omega),aJ,aT (by omega) (by omega),sS hk hl,ac];simp only [];rw [sS hk (d:=(gi d.1 a,d.2)) (by show (gi d.1 a).length≤_;omega),ac];simp only [];rw [zZ hk (d:=(gi (gi d.1 a) b,d.2)) (by show (gi (gi d.1 a) b).length≤_;omega) _ (qV.1 (pA (sR hd1 hs) b)),ac,s5];cases c:seq a b with
    | false=>rfl
    | true =>
     have e:=db.1 c;subst e;have hg:gi (gi d.1 a) a=gi d.1 a:=by
      rcases lL (gi d.1 a) a 0 with ⟨_,_,g3,_⟩ | ⟨m,_,_,g3,_⟩
      · exact g3
      · rw [pA hs a] at g3;cases g3
     have hi:=vF hs h3;simp only [hg,aa];rw [hi]
theorem I_ {k:Nat} (hk:2 ^ 50≤k) {d:Ty.d aA} (hd:F3 d) {s:ByteArray} (hs:s.size≤1099511627776):kL.f k d s=some ((rk d s).1,((rk d s).2,())):=by
 have hl:=hd.l;have hu:=hd.u;have hn:=hd.n;have h1:∀ b2,gA.f k (d.1,b2) s=_:=fun b2=>NF hk (d:=(d.1,b2)) hl hs
 unfold kL.f kL.t gP.f gP.t rk iQ m6;rw [gm k hl,ac,iV hk (by omega) (by omega),ac];simp only [h1,ac,show gA.f k d s=_ from h1 d.2];cases jO d <;> cases d.2.2.2.1 <;> cases d.2.2.1==0 <;> cases decide ((d.2.2.1:Int) > 0) <;> rfl
theorem Hw {k:Nat} (hk:2 ^ 50≤k) {d:Ty.d aA} (hd:F3 d) (s:ByteArray) {t:ByteArray} (ht:t.size≤1099511627776):kP.f k d s t=some ((jS d s t).1,((jS d s t).2,())):=by
 have hl:=hd.l;have hu:=hd.u;have hn:=hd.n;have h1:∀ b2,g7.f k (d.1,b2) s t=_:=fun b2=>N7 hk (d:=(d.1,b2)) hl hu s ht
 unfold kP.f kP.t gL.f gL.t jS iQ m6;rw [gm k hl,ac,iV hk (by omega) (by omega),ac];simp only [h1,ac,show g7.f k d s t=_ from h1 d.2];cases jO d <;> cases d.2.2.2.1 <;> cases d.2.2.1==0 <;> cases decide ((d.2.2.1:Int) > 0) <;> rfl
theorem II {k:Nat} (hk:2 ^ 50≤k) {d:Ty.d aA} (hd:F3 d) (s:ByteArray):mU.f k d s=some ((dY d s).1,((dY d s).2,())):=by
 have hl:=hd.l;have hu:=hd.u;have hn:=hd.n;have h1:∀ b2,iX.f k (d.1,b2) s=_:=fun b2=>My hk (d:=(d.1,b2)) hl s
 unfold mU.f mU.t iM.f iM.t dY iQ m6;rw [gm k hl,ac,iV hk (by omega) (by omega),ac];simp only [h1,ac,show iX.f k d s=_ from h1 d.2];cases jO d <;> cases d.2.2.2.1 <;> cases d.2.2.1==0 <;> cases decide ((d.2.2.1:Int) > 0) <;> rfl
theorem HT {k:Nat} (hk:2 ^ 50≤k) {d:Ty.d aA} (hd:F3 d) (s:ByteArray):kK.f k d s=some ((yU d s).1,((yU d s).2,())):=by
 have hl:=hd.l;have hu:=hd.u;have hn:=hd.n;have h1:∀ b2,g9.f k (d.1,b2) s=_:=fun b2=>Lc hk (d:=(d.1,b2)) hl s
 unfold kK.f kK.t gM.f gM.t yU iQ m6;rw [gm k hl,ac,iV hk (by omega) (by omega),ac];simp only [h1,ac,show g9.f k d s=_ from h1 d.2];cases jO d <;> cases d.2.2.2.1 <;> cases d.2.2.1==0 <;> cases decide ((d.2.2.1:Int) > 0) <;> rfl
theorem HY {k:Nat} (hk:2 ^ 50≤k) {d:Ty.d aA} (hd:F3 d) (s:ByteArray) (m:Int):j8.f k d s m=some ((rK d s m).1,((rK d s m).2,())):=by
 have hl:=hd.l;have hu:=hd.u;have hn:=hd.n;have h1:∀ b2,eY.f k (d.1,b2) s m=_:=fun b2=>Mp hk (d:=(d.1,b2)) hl s m
 unfold j8.f j8.t fK.f fK.t rK iQ m6;rw [gm k hl,ac,iV hk (by omega) (by omega),ac];simp only [h1,ac,show eY.f k d s m=_ from h1 d.2];cases jO d <;> cases d.2.2.2.1 <;> cases d.2.2.1==0 <;> cases decide ((d.2.2.1:Int) > 0) <;> rfl
theorem IR {k:Nat} (hk:2 ^ 50≤k) {d:Ty.d aA} (hd:F3 d) (a:ByteArray) {b:ByteArray} (hb:b.size≤1099511627776):kN.f k d a b=some ((xS d a b).1,((xS d a b).2,())):=by
 have hl:=hd.l;have hu:=hd.u;have hn:=hd.n;unfold kN.f kN.t gK.f gK.t xS iQ m6;rw [gm k hl,ac,iV hk (by omega) (by omega),ac];cases c:jO d with
 | false=>rfl
 | true =>
  have h1:∀ b2,g_.f k (d.1,b2) a b=_:=fun b2=>NN hk (d:=(d.1,b2)) hl (jX.1 c).keys a hb
  simp only [h1,ac,show g_.f k d a b=_ from h1 d.2];cases d.2.2.2.1 <;> cases d.2.2.1==0 <;> cases decide ((d.2.2.1:Int) > 0) <;> rfl
theorem IC (k:Nat) {n:Int} (h0:0≤n) (h1:n≤100000):jh.f k n=some (([],(n,(-1,(false,())))),()):=by unfold jh.f jh.t;rw [iL,ac,aW ⟨h0,h1⟩];rfl
def qd (lim:Int) (p:Option Int) (x:Int):Bool:=decide ((1:Int)≤x∧x≤lim)&&(match p with | none=>true | some y=>decide (y<x))
def dz (v:Ty.d cv):Bool:=decide ((1:Int)≤v.1∧v.1≤100000)&&(decide ((1:Int)≤(v.2.1.length:Int)∧(v.2.1.length:Int)≤60)&&qM (qd (aQ (v.1-1))) none v.2.1)
theorem ss {k:Nat} (hk:2 ^ 50≤k) {v:Ty.d cv} (hl:v.2.1.length≤1099511627776):dM.f k v=some (dz v,()):=by
 unfold dM.f dM.t dz;refine (Aj (L:=fun n i=>dM.l0 k n v.2.1 v.2.1.length i v.1 v.2.1) (Ty.z (.int .i64)) v.2.1 (qd (aQ (v.1-1))) (some (decide ((1:Int)≤v.1∧v.1≤100000)&&decide ((1:Int)≤(v.2.1.length:Int)∧(v.2.1.length:Int)≤60),())) (some (false,())) (fun n=>?_) (fun n x h hx=>?_) (fun n i x y h0 h1 hx hy=>?_) (n:=k) (by omega)).trans
  (by cases qM (qd (aQ (v.1-1))) none v.2.1 <;> cases decide ((1:Int)≤v.1∧v.1≤100000) <;> cases decide ((1:Int)≤(v.2.1.length:Int)∧(v.2.1.length:Int)≤60) <;> rfl)
 · simp (disch:=omega) only [dM.l0,dM.b0,aY,aJ,iL k,ac];cases decide ((1:Int)≤v.1∧v.1≤100000) <;> rfl
 · simp (disch:=omega) only [dM.l0,dM.b0,aW (show (0:Int)<(v.2.1.length:Int) by omega),aa,aT,hx,iL k,ac,aY (show ¬ (0:Int) > 0 by omega),aJ,aF (n:=(0:Int)+1),qd];cases decide ((1:Int)≤x∧x≤aQ (v.1-1)) <;> rfl
 · simp (disch:=omega) only [dM.l0,dM.b0,aW h1,aa,aT,hx,iL k,ac,aW (show i > 0 by omega),aJ,aF (n:=i+1),aF (n:=i-1),hy,qd];cases decide ((1:Int)≤x∧x≤aQ (v.1-1)) with
   | false=>rfl
   | true =>
    by_cases q:y<x
    · rw [aW q,aY (show ¬ y≥x from Int.not_le.2 q)];rfl
    · rw [aY q,aW (show y≥x from Int.not_lt.1 q)];rfl
end Go.Proofs.YtaaincbnjkmapaaGreatDoor.G
namespace Go.V
theorem Dq (l:List Int):(bytesOf l).size=l.length:=by simp [bytesOf,ByteArray.size]
theorem P_ {n m:Nat} (hn:n<4294967296) (hm:m<4294967296):aQ (((BitVec.ofInt (IntKind.bits .i64) (n:Int) ^^^ BitVec.ofInt (IntKind.bits .i64) (m:Int)).toNat:Int))=((n ^^^ m:Nat):Int):=by have h:n ^^^ m<2 ^ 32:=Nat.xor_lt_two_pow (by omega) (by omega);show aQ (((BitVec.ofInt 64 (n:Int) ^^^ BitVec.ofInt 64 (m:Int)).toNat:Int))=_;rw [BitVec.ofInt_natCast,BitVec.ofInt_natCast,BitVec.toNat_xor,BitVec.toNat_ofNat,BitVec.toNat_ofNat,Nat.mod_eq_of_lt (by omega),Nat.mod_eq_of_lt (by omega)];exact aF (by omega) (by omega)
theorem P0 {n m:Nat} (hn:n<4294967296) (hm:m<4294967296):IntKind.wrap .u32 (((BitVec.ofInt (IntKind.bits .u32) (n:Int) ^^^ BitVec.ofInt (IntKind.bits .u32) (m:Int)).toNat:Int))=((n ^^^ m:Nat):Int):=by have h:n ^^^ m<2 ^ 32:=Nat.xor_lt_two_pow (by omega) (by omega);show IntKind.wrap .u32 (((BitVec.ofInt 32 (n:Int) ^^^ BitVec.ofInt 32 (m:Int)).toNat:Int))=_;rw [BitVec.ofInt_natCast,BitVec.ofInt_natCast,BitVec.toNat_xor,BitVec.toNat_ofNat,BitVec.toNat_ofNat,Nat.mod_eq_of_lt (by omega),Nat.mod_eq_of_lt (by omega)];exact zA (by omega) (by omega)
theorem Ra {n b:Nat} (hn:n<4294967296) (hb:b<256):aQ (((BitVec.ofInt (IntKind.bits .i64) ((n*256:Nat):Int) ||| BitVec.ofInt (IntKind.bits .i64) (b:Int)).toNat:Int))=((n*256+b:Nat):Int):=by
 have h:n*256 ||| b=n*256+b:=by have:=Nat.shiftLeft_add_eq_or_of_lt (i:=8) (b:=b) (by omega) n;rw [Nat.shiftLeft_eq,show (2:Nat) ^ 8=256 by decide] at this;omega
 show aQ (((BitVec.ofInt 64 ((n*256:Nat):Int) ||| BitVec.ofInt 64 (b:Int)).toNat:Int))=_;rw [BitVec.ofInt_natCast,BitVec.ofInt_natCast,BitVec.toNat_or,BitVec.toNat_ofNat,BitVec.toNat_ofNat,Nat.mod_eq_of_lt (by omega),Nat.mod_eq_of_lt (by omega),h];exact aF (by omega) (by omega)
theorem RA {n:Nat} (hn:n<4294967296):IntKind.wrap .u32 (((BitVec.ofInt (IntKind.bits .u32) (n:Int) &&& BitVec.ofInt (IntKind.bits .u32) 1).toNat:Int))=((n % 2:Nat):Int):=by show IntKind.wrap .u32 (((BitVec.ofInt 32 (n:Int) &&& BitVec.ofInt 32 ((1:Nat):Int)).toNat:Int))=_;rw [BitVec.ofInt_natCast,BitVec.ofInt_natCast,BitVec.toNat_and,BitVec.toNat_ofNat,BitVec.toNat_ofNat,Nat.mod_eq_of_lt (by omega),Nat.mod_eq_of_lt (show 1<2 ^ 32 by omega),Nat.and_one_is_mod];exact zA (by omega) (by omega)
theorem Qh {n:Nat} (hn:n<4294967296):He .u32 (n:Int)=4294967295-(n:Int):=by unfold He;show IntKind.wrap .u32 (((BitVec.allOnes 32 ^^^ BitVec.ofInt 32 (n:Int)).toNat:Int))=_;rw [BitVec.ofInt_natCast,BitVec.allOnes_xor,BitVec.toNat_not,BitVec.toNat_ofNat,Nat.mod_eq_of_lt (by omega)];rw [zA (by omega) (by omega)];omega
theorem oX (s:ByteArray):(⟨#[]⟩:ByteArray)++s=s:=by apply ByteArray.ext;simp [ByteArray.data_append]
theorem ii (s:ByteArray):s++(⟨#[]⟩:ByteArray)=s:=by apply ByteArray.ext;simp [ByteArray.data_append]
theorem bh (a b c:ByteArray):a++b++c=a++(b++c):=by apply ByteArray.ext;simp [ByteArray.data_append]
theorem gw (a b:ByteArray):nb (a++b)=nb a++nb b:=by unfold nb;rw [ByteArray.data_append,Array.toList_append,List.map_append]
theorem vB (s:ByteArray) (i j:Nat):nb (ByteArray.extract s i j)=((nb s).take j).drop i:=by unfold nb;simp [ByteArray.data_extract,List.map_take,List.map_drop];rw [List.drop_take]
theorem jK (s:ByteArray) (n:Nat):nb (ByteArray.extract s n s.size)=(nb s).drop n:=by rw [vB,List.take_of_length_le (by rw [df];omega)]
theorem gS (a t:ByteArray):ByteArray.extract (a++t) a.size (a++t).size=t:=kh (by rw [jK,gw,List.drop_left' (df a)])
theorem AE (a t:ByteArray):ByteArray.extract (a++t) 0 a.size=a:=kh (by rw [vB,gw,List.take_left' (df a),List.drop_zero])
theorem wH (s:ByteArray) {n:Nat} (h:n≤s.size):s=ByteArray.extract s 0 n++ByteArray.extract s n s.size:=kh (by rw [gw,jK,lY,List.take_append_drop])
theorem um {a b c:ByteArray} (h:a++b=a++c):b=c:=kh (by
 have:=congrArg nb h;rw [gw,gw] at this;exact List.append_cancel_left this)
theorem tM {a b c d:ByteArray} (h:a++b=c++d) (hs:a.size=c.size):a=c∧b=d:=by have:=congrArg nb h;rw [gw,gw] at this;have:=List.append_inj this (by rw [df,df,hs]);exact ⟨kh this.1,kh this.2⟩
def rv:Nat→List Nat→Option (Nat × Nat)
 | 0,_=>none
 | _+1,[]=>none
 | d+1,b::l=>if b≥128 then (match rv d l with | some (a,n)=>if a=0 then none else some (b % 128+128*a,n+1) | none=>none) else some (b,1)
theorem LF:∀ (d a:Nat) (t:List Nat),a<128 ^ (d+1)→rv (d+1) (vl d a++t)=some (a,(vl d a).length)
 | 0,a,t,h=>by
  have:¬ a≥128:=by simpa using h
  simp [vl,rv,this]
 | d+1,a,t,h=>by
  unfold vl;by_cases c:a≥128
  · have ih:=LF d (a/128) t (by rw [Nat.pow_succ] at h;omega);rw [if_pos c,List.cons_append,rv,if_pos (by omega),ih];simp only [];rw [if_neg (by omega),j7];congr 2;omega
  · rw [if_neg c,List.cons_append,rv,if_neg c];rfl
theorem tj:∀ (d:Nat) (l:List Nat) (a n:Nat),(∀ x ∈ l,x<256)→rv (d+1) l=some (a,n)→l.take n=vl d a∧a<128 ^ (d+1)∧n=(vl d a).length∧n≤l.length∧1≤n∧n≤d+1
 | _,[],a,n,_,h=>by simp [rv] at h
 | 0,b::l,a,n,hb,h=>by
  unfold rv at h;by_cases c:b≥128
  · simp [c,rv] at h
  · simp [c] at h;obtain ⟨rfl,rfl⟩:=h;refine ⟨by simp [vl],by simpa using c,by simp [vl],by simp,by omega,by omega⟩
 | d+1,b::l,a,n,hb,h=>by
  unfold rv at h;by_cases c:b≥128
  · rw [if_pos c] at h;cases q:rv (d+1) l with
    | none=>rw [q] at h;simp at h
    | some p =>
     obtain ⟨a',n'⟩:=p;obtain ⟨h1,h2,h3,h4,h5,h6⟩:=tj d l a' n' (fun x hx=>hb x (kS _ hx)) q;rw [q] at h;simp only [] at h;by_cases z:a'=0
     · simp [z] at h
     · rw [if_neg z] at h;simp only [Option.some.injEq,Prod.mk.injEq] at h;obtain ⟨rfl,rfl⟩:=h;have hb:=hb b (il ..);have e1:(b % 128+128*a')/128=a':=by omega
       have e2:128+(b % 128+128*a') % 128=b:=by omega
       have hv:vl (d+1) (b % 128+128*a')=b::vl d a':=by rw [vl,if_pos (by omega),e1,e2]
       rw [hv];refine ⟨by rw [List.take_succ_cons,h1],by rw [Nat.pow_succ];omega,by rw [j7,h3],by rw [j7];omega,by omega,by omega⟩
  · rw [if_neg c] at h;simp only [Option.some.injEq,Prod.mk.injEq] at h;obtain ⟨rfl,rfl⟩:=h;have hv:vl (d+1) b=[b]:=by rw [vl,if_neg c]
    rw [hv];refine ⟨by simp,?_,by simp,by simp,by omega,by omega⟩;have:(128:Nat) ^ 1≤128 ^ (d+1+1):=Nat.pow_le_pow_right (by decide) (by omega);omega
theorem R2 {d a:Nat}:vl d a≠[]:=by
 cases d with
 | zero=>simp [vl]
 | succ d=>unfold vl;split <;> simp
theorem Oj (l:List Nat) (hb:∀ x ∈ l,x<256) (d n:Nat) (h0:1≤n) (h1:n≤d+1) (h2:n≤l.length):tH (l.take n)=true↔∃ a,rv (d+1) l=some (a,n):=by
 constructor
 · intro h;have e:=Et d (l.take n) h (by rw [List.length_take];omega);have hd:uF (l.take n)<128 ^ (d+1):=Nat.lt_of_lt_of_le (E9 _) (Nat.pow_le_pow_right (by decide) (by rw [List.length_take];omega));have:=LF d (uF (l.take n)) (l.drop n) hd;rw [e,List.take_append_drop,List.length_take,Nat.min_eq_left h2] at this;exact ⟨_,this⟩
 · rintro ⟨a,h⟩
   obtain ⟨e1,e2,_⟩:=tj d l a n hb h;rw [e1];exact (yx d a e2).1
theorem Pz {l:List Nat} (hb:∀ x ∈ l,x<256) {d a n:Nat} (h:rv (d+1) l=some (a,n)):a=uF (l.take n):=by obtain ⟨e1,e2,_⟩:=tj d l a n hb h;rw [e1];exact (yx d a e2).2.1.symm
theorem wx (s:ByteArray):∀ x ∈ nb s,x<256:=fun _ h=>P6 h
theorem ao (a:Nat):1≤(br a).size∧(br a).size≤7:=by
 unfold br;rw [Dq,List.length_map];have h:∀ d a,(vl d a).length≤d+1:=by
  intro d
  induction d with
  | zero=>intro a;simp [vl]
  | succ d ih=>intro a;unfold vl;split <;> simp;have:=ih (a/128);omega
 have h2:=h 6 a;have h3:(vl 6 a).length≠0:=fun q=>R2 (List.length_eq_zero_iff.1 q)
 omega
theorem sb {a:Nat} (h:a<562949953421312):(vl 6 a).length=(br a).size:=by rw [← vH h,df]
theorem B4 {a:Nat} (h:a<562949953421312) (t:ByteArray):rv 7 (nb (br a++t))=some (a,(br a).size):=by rw [gw,vH h,← sb h];exact LF 6 a _ (by rw [show (128:Nat) ^ (6+1)=562949953421312 by decide];exact h)
theorem Nw {s:ByteArray} {a n:Nat} (h:rv 7 (nb s)=some (a,n)):∃ t,a<562949953421312∧n=(br a).size∧s=br a++t:=by obtain ⟨h1,h2,h3,h4,h5,h6⟩:=tj 6 (nb s) a n (wx s) h;rw [show (128:Nat) ^ (6+1)=562949953421312 by decide] at h2;refine ⟨ByteArray.extract s n s.size,h2,by rw [h3,sb h2],kh ?_⟩;rw [gw,vH h2,jK,← h1,List.take_append_drop]
theorem kx (s:ByteArray):(∃ a t,a<562949953421312∧s=br a++t)∨rv 7 (nb s)=none:=by
 cases h:rv 7 (nb s) with
 | none=>exact .inr rfl
 | some p =>obtain ⟨a,n⟩:=p;obtain ⟨t,h1,_,h3⟩:=Nw h;exact .inl ⟨a,t,h1,h3⟩
theorem zc {a b:Nat} {s t:ByteArray} (ha:a<562949953421312) (hb:b<562949953421312) (h:br a++s=br b++t):a=b∧s=t:=by have h1:=B4 ha s;rw [h,B4 hb t] at h1;simp only [Option.some.injEq,Prod.mk.injEq] at h1;obtain ⟨rfl,_⟩:=h1;exact ⟨rfl,um h⟩
def RF:Option (Nat × Nat)→Int × Int × Unit
 | some p=>((p.1:Int),((p.2:Int),()))
 | none=>(0,(0,()))
end Go.V
namespace Go.Proofs.YtaaincbnjkmapaaGreatDoor.G
open Go.V
theorem tX (k:Nat) (a b c:Int):cK.f k a b c=some (decide (b≤a∧a≤c),()):=by unfold cK.f cK.t;by_cases h:b≤a <;> simp [h]
theorem wb (k:Nat) (a b c:Int):aZ.f k a b c=some (decide (b≤a∧a≤c),()):=by unfold aZ.f aZ.t;by_cases h:b≤a <;> simp [h]
def jo (a:Int):ByteArray:=if 0≤a∧a≤562949953421311 then br a.toNat else ⟨#[]⟩
theorem bN (a:Int):(jo a).size≤7:=by
 unfold jo;split
 · exact (ao _).2
 · exact Nat.zero_le _
theorem dj {a:Nat} (h:a<562949953421312):jo (a:Int)=br a:=by unfold jo;rw [if_pos (by omega),Int.toNat_natCast]
theorem Qz:∀ (d a n:Nat) (xs:List Int),a<128 ^ (d+1)→a<562949953421312→d<n→xs.length+d≤100→∀ k,
 fO.l0 k n (a:Int) xs=some (bytesOf (xs++(vl d a).map Int.ofNat),())∧fi.l0 k n (a:Int) xs=some (bytesOf (xs++(vl d a).map Int.ofNat),()):=by
 intro d
 induction d with
 | zero =>
  intro a n xs h1 h2 h3 h4 k;obtain ⟨n,rfl⟩:∃ q,n=q+1:=⟨n-1,by omega⟩;simp only [Nat.zero_add,Nat.pow_one] at h1;constructor
  · simp (disch:=first | omega | decide) only [fO.l0,fO.b0,aY,aJ,bn,xc];rfl
  · simp (disch:=first | omega | decide) only [fi.l0,fi.b0,aY,aJ,bn,xc];rfl
 | succ d ih =>
  intro a n xs h1 h2 h3 h4 k;obtain ⟨n,rfl⟩:∃ q,n=q+1:=⟨n-1,by omega⟩;unfold vl;by_cases c:a≥128
  · have hd:aQ (Int.tdiv (a:Int) 128)=((a/128:Nat):Int):=aF (n:=((a/128:Nat):Int)) (by omega) (by omega);have hw:IntKind.wrap .u8 (aQ (128+Int.tmod (a:Int) 128))=((128+a % 128:Nat):Int):=by
     have e:128+Int.tmod (a:Int) 128=((128+a % 128:Nat):Int):=by show 128+((a % 128:Nat):Int)=_;omega
     rw [e,aF (by omega) (by omega)];exact xc (by omega) (by omega)
    have ih:=ih (a/128) n (xs++[((128+a % 128:Nat):Int)]) (by rw [Nat.pow_succ] at h1;omega) (by omega) (by omega) (by rw [nE];show _+1+d≤_;omega) k;rw [if_pos c];rw [oK] at ih;constructor
    · simp (disch:=first | omega | decide) only [fO.l0,fO.b0,aW,aa,bn,hd,hw];exact ih.1
    · simp (disch:=first | omega | decide) only [fi.l0,fi.b0,aW,aa,bn,hd,Int.add_comm (Int.tmod (a:Int) 128) 128,hw];exact ih.2
  · rw [if_neg c];constructor
    · simp (disch:=first | omega | decide) only [fO.l0,fO.b0,aY,aJ,bn,xc];rfl
    · simp (disch:=first | omega | decide) only [fi.l0,fi.b0,aY,aJ,bn,xc];rfl
theorem nO {k:Nat} (hk:2 ^ 50≤k) (a:Int):fO.f k a=some (jo a,()):=by
 unfold fO.f fO.t jo;rw [tX,ac];by_cases h:0≤a∧a≤562949953421311
 · obtain ⟨n,rfl⟩:=Int.eq_ofNat_of_zero_le h.1;have hn:n<562949953421312:=by omega
   simp only [aW h,fw,aJ,if_pos h,Int.toNat_natCast];exact (Qz 6 n k [] (by rw [show (128:Nat) ^ (6+1)=562949953421312 by decide];exact hn) hn (by omega) (by decide) k).1
 · simp only [aY h,ue,aa,if_neg h]
theorem pI {k:Nat} (hk:2 ^ 50≤k) (a:Int):fi.f k a=some (jo a,()):=by
 unfold fi.f fi.t jo;rw [wb,ac];by_cases h:0≤a∧a≤562949953421311
 · obtain ⟨n,rfl⟩:=Int.eq_ofNat_of_zero_le h.1;have hn:n<562949953421312:=by omega
   simp only [aW h,fw,aJ,if_pos h,Int.toNat_natCast];exact (Qz 6 n k [] (by rw [show (128:Nat) ^ (6+1)=562949953421312 by decide];exact hn) hn (by omega) (by decide) k).2
 · simp only [aY h,ue,aa,if_neg h]
theorem Ll {s:ByteArray} {i:Nat} (h:i<s.size):(nb s).take (i+1)=(nb s).take i++[(nb s).getD i 0]:=by
 have h1:i<(nb s).length:=by rw [df];exact h
 rw [List.take_succ_eq_append_getElem h1];simp [List.getD,h1]
theorem kT (s:ByteArray) (i:Nat):(nb s).getD i 0<256:=by
 by_cases h1:i<(nb s).length
 · rw [show (nb s).getD i 0=(nb s)[i] by simp [List.getD,h1]];exact P6 (List.getElem_mem h1)
 · simp [List.getD,List.getElem?_eq_none (by omega:(nb s).length≤i)]
theorem tr {s:ByteArray} {i:Nat} (h:i<s.size):(nb s).drop i=(nb s).getD i 0::(nb s).drop (i+1):=by
 have h1:i<(nb s).length:=by rw [df];exact h
 rw [List.drop_eq_getElem_cons h1];simp [List.getD,h1]
def Hk (n:Nat):Nat:=if n % 2=1 then n/2 ^^^ 2197175160 else n/2
def BU:Nat→Nat→Nat
 | 0,n=>n
 | d+1,n=>BU d (Hk n)
theorem E4 {n:Nat} (h:n<4294967296):Hk n<4294967296:=by
 unfold Hk;split
 · exact Nat.xor_lt_two_pow (n:=32) (by omega) (by omega)
 · omega
theorem Do:∀ {d n:Nat},n<4294967296→BU d n<4294967296
 | 0,_,h=>h
 | d+1,_,h=>Do (d:=d) (E4 h)
def HQ:List Nat→Nat→Nat
 | [],n=>n
 | b::l,n=>HQ l (BU 8 (n ^^^ b))
theorem Ic:∀ {l:List Nat} {n:Nat},n<4294967296→(∀ b ∈ l,b<256)→HQ l n<4294967296
 | [],_,h,_=>h
 | b::l,n,h,hb=>by have:=hb b (il ..);exact Ic (l:=l) (Do (Nat.xor_lt_two_pow (n:=32) (by omega) (by omega))) (fun x hx=>hb x (kS _ hx))
def tB (s:ByteArray):Int:=4294967295-(HQ (nb s) 4294967295:Int)
theorem vZ (s:ByteArray):0≤tB s∧tB s≤4294967295:=by have:=Ic (l:=nb s) (n:=4294967295) (by omega) (wx s);unfold tB;omega
theorem Ij {k:Nat} {L0:ByteArray→Int→Int→Option (Int × Unit)} {s:ByteArray} {i:Int}:∀ (d j m n:Nat),8-j=d→j≤8→d<m→n<4294967296→k7.l1 k L0 m s (n:Int) i (j:Int)=L0 s ((BU d n:Nat):Int) (aQ (i+1))
 | 0,j,m,n,hd,hj,hm,hn=>by
  obtain ⟨m,rfl⟩:∃ q,m=q+1:=⟨m-1,by omega⟩;have c:¬ ((j:Int)<8):=by omega
  simp only [k7.l1,k7.b1,decide_eq_false c,aJ,BU]
 | d+1,j,m,n,hd,hj,hm,hn=>by
  obtain ⟨m,rfl⟩:∃ q,m=q+1:=⟨m-1,by omega⟩;have c:((j:Int)<8):=by omega
  have ih:=Ij (k:=k) (L0:=L0) (s:=s) (i:=i) d (j+1) m (Hk n) (by omega) (by omega) (by omega) (E4 hn);have hd2:aQ (Int.tdiv (n:Int) 2)=((n/2:Nat):Int):=aF (n:=((n/2:Nat):Int)) (by omega) (by omega);have hx:=P_ (n:=n/2) (m:=2197175160) (by omega) (by omega);have hm2:Int.tmod (n:Int) 2=((n % 2:Nat):Int):=rfl;have hj1:aQ ((j:Int)+1)=((j+1:Nat):Int):=by rw [aF (by omega) (by omega)];omega
  simp only [k7.l1,k7.b1,decide_eq_true c,aa,hj1,hd2,hm2,BU];rw [← ih];unfold Hk;by_cases q:n % 2=1
  · rw [if_pos q,q,← hx];rfl
  · rw [if_neg q,show n % 2=0 by omega];rfl
theorem JH {k:Nat} {L0:ByteArray→Int→Int→Option (Int × Unit)} {s:ByteArray} {i:Int}:∀ (d j m n:Nat),8-j=d→j≤8→d<m→n<4294967296→gT.l1 k L0 m s (n:Int) i (j:Int)=L0 s ((BU d n:Nat):Int) (aQ (i+1))
 | 0,j,m,n,hd,hj,hm,hn=>by
  obtain ⟨m,rfl⟩:∃ q,m=q+1:=⟨m-1,by omega⟩;have c:¬ ((j:Int)<8):=by omega
  simp only [gT.l1,gT.b1,decide_eq_false c,aJ,BU]
 | d+1,j,m,n,hd,hj,hm,hn=>by
  obtain ⟨m,rfl⟩:∃ q,m=q+1:=⟨m-1,by omega⟩;have c:((j:Int)<8):=by omega
  have ih:=JH (k:=k) (L0:=L0) (s:=s) (i:=i) d (j+1) m (Hk n) (by omega) (by omega) (by omega) (E4 hn);have hd2:Int.fdiv (n:Int) (2 ^ (Int.toNat 1))=((n/2:Nat):Int):=by show Int.fdiv (n:Int) 2=_;rw [Int.fdiv_eq_ediv_of_nonneg _ (by omega)];omega
  have hx:=P0 (n:=n/2) (m:=2197175160) (by omega) (by omega);have hj1:aQ ((j:Int)+1)=((j+1:Nat):Int):=by rw [aF (by omega) (by omega)];omega
  simp only [gT.l1,gT.b1,decide_eq_true c,aa,hj1,hd2,RA hn,BU];rw [← ih];unfold Hk;by_cases q:n % 2=1
  · rw [if_pos q,q,← hx];rfl
  · rw [if_neg q,show n % 2=0 by omega];rfl
theorem PT {k:Nat} (hk:2 ^ 50≤k) {s:ByteArray} (hs:s.size≤1099511627776):∀ (d i n m:Nat),s.size-i=d→i≤s.size→n<4294967296→d<m →
 k7.l0 k m s (n:Int) (i:Int)=some (4294967295-(HQ ((nb s).drop i) n:Int),())∧gT.l0 k m s (n:Int) (i:Int)=some (4294967295-(HQ ((nb s).drop i) n:Int),())
 | 0,i,n,m,hd,hi,hn,hm=>by
  obtain ⟨m,rfl⟩:∃ q,m=q+1:=⟨m-1,by omega⟩;have c:¬ ((i:Int)<(s.size:Int)):=by omega
  have e1:aQ (4294967295-(n:Int))=4294967295-(n:Int):=aF (by omega) (by omega);rw [List.drop_eq_nil_of_le (by rw [df];omega)];constructor
  · simp only [k7.l0,k7.b0,decide_eq_false c,aJ,e1,HQ]
  · simp only [gT.l0,gT.b0,decide_eq_false c,aJ,Qh hn,e1,HQ]
 | d+1,i,n,m,hd,hi,hn,hm=>by
  obtain ⟨m,rfl⟩:∃ q,m=q+1:=⟨m-1,by omega⟩;have hlt:i<s.size:=by omega
  have c:((i:Int)<(s.size:Int)):=by omega
  have h0:=Int.natCast_nonneg i;have hb:=kT s i;have hat:=C8 hlt;rw [tr hlt];generalize (nb s).getD i 0=b at hb hat;have w1:aQ (b:Int)=(b:Int):=aF (by omega) (by omega);have w2:IntKind.wrap .u32 (b:Int)=(b:Int):=zA (by omega) (by omega);have hnb:n ^^^ b<4294967296:=Nat.xor_lt_two_pow (n:=32) (by omega) (by omega);have up:aQ ((i:Int)+1)=((i+1:Nat):Int):=by rw [aF (by omega) (by omega)];omega
  obtain ⟨s1,s2⟩:=PT hk hs d (i+1) (BU 8 (n ^^^ b)) m (by omega) (by omega) (Do hnb) (by omega);constructor
  · simp only [k7.l0,k7.b0,decide_eq_true c,aa,aT h0 c,hat,w1,P_ hn (show b<4294967296 by omega)];refine (Ij 8 0 k (n ^^^ b) (by omega) (by omega) (by omega) hnb).trans ?_;rw [up];exact s1
  · simp only [gT.l0,gT.b0,decide_eq_true c,aa,aT h0 c,hat,w2,P0 hn (show b<4294967296 by omega)];refine (JH 8 0 k (n ^^^ b) (by omega) (by omega) (by omega) hnb).trans ?_;rw [up];exact s2
theorem IX {k:Nat} (hk:2 ^ 50≤k) {s:ByteArray} (hs:s.size≤1099511627776):k7.f k s=some (tB s,()):=by have:=(PT hk hs s.size 0 4294967295 k (by omega) (by omega) (by omega) (by omega)).1;rw [List.drop_zero] at this;exact this
theorem uk {k:Nat} (hk:2 ^ 50≤k) {s:ByteArray} (hs:s.size≤1099511627776):gT.f k s=some (tB s,()):=by have:=(PT hk hs s.size 0 4294967295 k (by omega) (by omega) (by omega) (by omega)).2;rw [List.drop_zero] at this;exact this
def fF (n:Nat):ByteArray:=bytesOf [((n/16777216 % 256:Nat):Int),((n/65536 % 256:Nat):Int),((n/256 % 256:Nat):Int),((n % 256:Nat):Int)]
theorem nY (n:Nat):(fF n).size=4:=rfl
theorem J5 (n:Nat):nb (fF n)=[n/16777216 % 256,n/65536 % 256,n/256 % 256,n % 256] :=
 GM (l:=[n/16777216 % 256,n/65536 % 256,n/256 % 256,n % 256]) (by simp;omega)
theorem IP {k:Nat} (hk:2 ^ 50≤k) {n:Nat} (h1:n<4294967296):gQ.f k (n:Int) 4=some (fF n,()):=by
 have sz1:∀ x:Int,(bytesOf [x]).size=1:=fun x=>rfl
 have st:∀ (q m:Nat) (t:ByteArray) (j:Nat),m<4294967296→j<4→t.size≤100→gQ.l0 k (q+1) (m:Int) 4 t (j:Int)=gQ.l0 k q ((m/256:Nat):Int) 4 (bytesOf [((m % 256:Nat):Int)]++t) ((j+1:Nat):Int):=fun q m t j hm hj ht=>by
  have wd:aQ (Int.tdiv (m:Int) 256)=((m/256:Nat):Int):=aF (n:=((m/256:Nat):Int)) (by omega) (by omega);have wm:IntKind.wrap .u8 (Int.tmod (m:Int) 256)=((m % 256:Nat):Int):=xc (n:=((m % 256:Nat):Int)) (by omega) (by omega);have wj:aQ ((j:Int)+1)=((j+1:Nat):Int):=by rw [aF (by omega) (by omega)];omega
  simp (disch:=omega) only [gQ.l0,gQ.b0,aW,aa,wd,wm,wj];rw [jI (by rw [sz1];omega)]
 unfold gQ.f gQ.t;rw [tX,ac];simp only [show decide ((1:Int)≤4∧(4:Int)≤7)=true by decide,fw,aJ,aY (show ¬ ((n:Int)<0) by omega)];obtain ⟨q,hq⟩:∃ q,k=q+5:=⟨k-5,by omega⟩;refine (congrArg (fun z=>gQ.l0 k z (n:Int) 4 ⟨#[]⟩ 0) hq).trans ?_;refine (st (q+4) n _ 0 h1 (by omega) (by decide)).trans ?_;refine (st (q+3) (n/256) _ 1 (by omega) (by omega) (by rw [ByteArray.size_append,sz1];decide)).trans ?_;refine (st (q+2) (n/256/256) _ 2 (by omega) (by omega) (by rw [ByteArray.size_append,ByteArray.size_append,sz1,sz1];decide)).trans ?_;refine (st (q+1) (n/256/256/256) _ 3 (by omega) (by omega) (by rw [ByteArray.size_append,ByteArray.size_append,ByteArray.size_append,sz1,sz1,sz1];decide)).trans ?_;have c:¬ ((((3+1:Nat)):Int)<4):=by omega
 have c2:¬ (((n/256/256/256/256:Nat):Int) > 0):=by omega
 simp only [gQ.l0,gQ.b0,aY c,aY c2,aJ];unfold fF;congr 2;rw [show n/256/256/256=n/16777216 by omega,show n/256/256=n/65536 by omega];apply ByteArray.ext;simp [bytesOf,ByteArray.data_append]
theorem H_ {k:Nat} (hk:2 ^ 50≤k) {n:Nat} (h1:n<4294967296):dm.f k (n:Int) 4=some (fF n,()):=by
 have st:∀ (q j p:Nat) (i':Int) (xs:List Int),j≤3→p=2 ^ (8*j)→i'=(j:Int)-1→xs.length≤100→dm.l0 k (q+1) (n:Int) (j:Int) xs=dm.l0 k q (n:Int) i' (xs++[((n/p % 256:Nat):Int)]):=fun q j p i' xs hj hp hi hx=>by
  have e8:aQ (8*(j:Int))=((8*j:Nat):Int):=by rw [aF (by omega) (by omega)];omega
  have e1:aQ ((j:Int)-1)=i':=by rw [hi];exact aF (by omega) (by omega)
  have emin:min (8*j) (IntKind.bits .i64)=8*j:=by have:IntKind.bits .i64=64:=rfl;rw [this];omega
  have ew:IntKind.wrap .u8 (Int.fdiv (n:Int) (2 ^ (8*j)))=((n/p % 256:Nat):Int):=by
   have e2:((2:Int) ^ (8*j))=((p:Nat):Int):=by rw [hp,Int.natCast_pow];rfl
   rw [e2,Int.fdiv_eq_ediv_of_nonneg _ (by omega),← Int.natCast_ediv];generalize n/p=z;unfold IntKind.wrap;simp [IntKind.bits,IntKind.signed]
  simp (disch:=first | omega | decide) only [dm.l0,dm.b0,aW,aa,e8,bn,e1,s5,emin,ew];rw [aY (by omega),aJ]
 unfold dm.f dm.t;rw [wb,ac];have c0:¬ (aQ (8*4)<0):=by decide
 simp only [show decide ((1:Int)≤4∧(4:Int)≤7)=true by decide,fw,aJ,aY c0,show aQ (aQ (1*2 ^ min (Int.toNat (aQ (8*4))) (IntKind.bits .i64))-1)=4294967295 by decide,wb,ac];rw [aW (show (0:Int)≤(n:Int)∧(n:Int)≤4294967295 by omega)];simp only [fw,aJ,show aQ ((4:Int)-1)=((3:Nat):Int) by decide];obtain ⟨q,hq⟩:∃ q,k=q+5:=⟨k-5,by omega⟩;refine (congrArg (fun z=>dm.l0 k z (n:Int) ((3:Nat):Int) []) hq).trans ?_;refine (st (q+4) 3 16777216 ((2:Nat):Int) _ (by omega) (by decide) (by decide) (by decide)).trans ?_;refine (st (q+3) 2 65536 ((1:Nat):Int) _ (by omega) (by decide) (by decide) (by simp)).trans ?_;refine (st (q+2) 1 256 ((0:Nat):Int) _ (by omega) (by decide) (by decide) (by simp)).trans ?_;refine (st (q+1) 0 1 (-1) _ (by omega) (by decide) (by decide) (by simp)).trans ?_;simp only [dm.l0,dm.b0,show decide ((-1:Int)≥0)=false by decide,aJ,Nat.div_one];rfl
def vY (a:Int):ByteArray:=fF a.toNat
theorem jB (a:Int):(vY a).size=4:=rfl
theorem vS {k:Nat} (hk:2 ^ 50≤k) {a:Int} (h0:0≤a) (h1:a≤4294967295):gQ.f k a 4=some (vY a,()):=by obtain ⟨n,rfl⟩:=Int.eq_ofNat_of_zero_le h0;exact IP hk (by omega)
theorem rO {k:Nat} (hk:2 ^ 50≤k) {a:Int} (h0:0≤a) (h1:a≤4294967295):dm.f k a 4=some (vY a,()):=by obtain ⟨n,rfl⟩:=Int.eq_ofNat_of_zero_le h0;exact H_ hk (by omega)
theorem Ah (s:ByteArray):(∃ x t,x<4294967296∧s=fF x++t)∨s.size<4:=by
 by_cases c:s.size<4
 · exact .inr c
 · left;have h0:=tr (s:=s) (i:=0) (by omega);have h1:=tr (s:=s) (i:=1) (by omega);have h2:=tr (s:=s) (i:=2) (by omega);have h3:=tr (s:=s) (i:=3) (by omega);have b0:=kT s 0;have b1:=kT s 1;have b2:=kT s 2;have b3:=kT s 3;rw [h1,h2,h3,List.drop_zero] at h0;generalize (nb s).getD 0 0=x0 at *;generalize (nb s).getD 1 0=x1 at *;generalize (nb s).getD 2 0=x2 at *;generalize (nb s).getD 3 0=x3 at *;refine ⟨((x0*256+x1)*256+x2)*256+x3,ByteArray.extract s 4 s.size,by omega,kh ?_⟩;rw [gw,J5,jK,h0];simp only [List.cons_append,List.nil_append,List.drop_succ_cons,List.drop_zero,List.cons.injEq,and_true];refine ⟨?_,?_,?_,?_⟩ <;> omega
theorem xl (x:Nat) (t:ByteArray):nb (fF x++t)=(x/16777216 % 256)::(x/65536 % 256)::(x/256 % 256)::(x % 256)::nb t:=by rw [gw,J5];rfl
theorem ny (x:Nat) (t:ByteArray):(fF x++t).size=4+t.size:=by rw [ByteArray.size_append];rfl
theorem Eo (k:Nat) (s:ByteArray):im.f k s=some (decide (1≤(s.size:Int)∧(s.size:Int)≤8),()):=by unfold im.f im.t;rw [tX];rfl
theorem kf (k:Nat) (s:ByteArray):dp.f k s=some (decide (1≤(s.size:Int)∧(s.size:Int)≤8),()):=by unfold dp.f dp.t;rw [wb];rfl
def bg (a:Ty.d bf):Bool :=
 bif a.1==1||a.1==4 then decide (1≤(a.2.2.1.size:Int)∧(a.2.2.1.size:Int)≤8)&&(decide ((a.2.2.2.1.size:Int)≤24)&&((a.2.2.2.2.1==0)&&((a.2.2.2.2.2.1==0)&&decide (1≤a.2.1∧a.2.1≤1000000))))
 else bif a.1==2 then decide (1≤(a.2.2.1.size:Int)∧(a.2.2.1.size:Int)≤8)&&(seq a.2.2.2.1 ⟨#[]⟩&&((a.2.2.2.2.1==0)&&((a.2.2.2.2.2.1==0)&&decide (1≤a.2.1∧a.2.1≤1000000))))
 else bif a.1==3 then seq a.2.2.1 ⟨#[]⟩&&(seq a.2.2.2.1 ⟨#[]⟩&&(decide (0≤a.2.2.2.2.1∧a.2.2.2.2.1≤8)&&(decide (0≤a.2.2.2.2.2.1∧a.2.2.2.2.2.1≤4294967295)&&decide (1≤a.2.1∧a.2.1≤1000000))))
 else bif a.1==5 then seq a.2.2.1 ⟨#[]⟩&&(seq a.2.2.2.1 ⟨#[]⟩&&(decide (0≤a.2.2.2.2.1∧a.2.2.2.2.1≤20)&&(decide (0≤a.2.2.2.2.2.1∧a.2.2.2.2.2.1≤4294967295)&&decide (0≤a.2.1∧a.2.1≤1000000))))
 else false
theorem K7 (s:ByteArray):seq s ByteArray.empty=seq s ⟨#[]⟩:=rfl
theorem iu (k:Nat) (a:Ty.d bf):gJ.f k a=some (bg a,()):=by
 obtain ⟨ty,tx,key,tt,n,sm,u⟩:=a;unfold gJ.f gJ.t bg;simp only [wb,kf,ac,bQ,K7];change Int at ty tx n sm;change ByteArray at key tt;generalize decide (1≤(key.size:Int)∧(key.size:Int)≤8)=K;generalize decide ((tt.size:Int)≤24)=L;generalize decide (1≤tx∧tx≤1000000)=T1;generalize decide (0≤tx∧tx≤1000000)=T0;generalize decide (0≤n∧n≤8)=N1;generalize decide (0≤n∧n≤20)=N2;generalize decide (0≤sm∧sm≤4294967295)=S;generalize (n==0)=Z1;generalize (sm==0)=Z2;generalize seq key ⟨#[]⟩=E1;generalize seq tt ⟨#[]⟩=E2;by_cases h1:ty=1
 · subst h1;simp;cases K <;> cases L <;> cases T1 <;> cases Z1 <;> cases Z2 <;> rfl
 by_cases h4:ty=4
 · subst h4;simp;cases K <;> cases L <;> cases T1 <;> cases Z1 <;> cases Z2 <;> rfl
 by_cases h2:ty=2
 · subst h2;simp;cases K <;> cases E2 <;> cases T1 <;> cases Z1 <;> cases Z2 <;> rfl
 by_cases h3:ty=3
 · subst h3;simp;cases E1 <;> cases E2 <;> cases T1 <;> cases N1 <;> cases S <;> rfl
 by_cases h5:ty=5
 · subst h5;simp;cases E1 <;> cases E2 <;> cases T0 <;> cases N2 <;> cases S <;> rfl
 have b1:(ty==1)=false:=qi h1;have b2:(ty==2)=false:=qi h2;have b3:(ty==3)=false:=qi h3;have b4:(ty==4)=false:=qi h4;have b5:(ty==5)=false:=qi h5;have b6:(ty != 5)=true:=bne_iff_ne.2 h5;simp only [b1,b2,b3,b4,b5,b6,Bool.or_false,aJ,aa]
theorem Db (k:Nat) (a:Ty.d bf):p8.f k a=some (bg a,()):=by
 obtain ⟨ty,tx,key,tt,n,sm,u⟩:=a;unfold p8.f p8.t bg;simp only [tX,Eo,ac];change Int at ty tx n sm;change ByteArray at key tt;have q:decide (1≤tx∧tx≤1000000)=(decide (0≤tx∧tx≤1000000)&&!(tx==0)):=by rw [Bool.eq_iff_iff];simp;omega
 rw [q];generalize decide (1≤(key.size:Int)∧(key.size:Int)≤8)=K;generalize decide ((tt.size:Int)≤24)=L;generalize decide (0≤tx∧tx≤1000000)=T0;generalize (tx==0)=T;generalize decide (0≤n∧n≤8)=N1;generalize decide (0≤n∧n≤20)=N2;generalize decide (0≤sm∧sm≤4294967295)=S;generalize (n==0)=Z1;generalize (sm==0)=Z2;generalize seq key ⟨#[]⟩=E1;generalize seq tt ⟨#[]⟩=E2;by_cases h1:ty=1
 · subst h1;simp;cases T0 <;> cases T <;> cases K <;> cases L <;> cases Z1 <;> cases Z2 <;> rfl
 by_cases h4:ty=4
 · subst h4;simp;cases T0 <;> cases T <;> cases K <;> cases L <;> cases Z1 <;> cases Z2 <;> rfl
 by_cases h2:ty=2
 · subst h2;simp;cases T0 <;> cases T <;> cases K <;> cases E2 <;> cases Z1 <;> cases Z2 <;> rfl
 by_cases h3:ty=3
 · subst h3;simp;cases T0 <;> cases T <;> cases E1 <;> cases E2 <;> cases N1 <;> cases S <;> rfl
 by_cases h5:ty=5
 · subst h5;simp;cases T0 <;> cases T <;> cases E1 <;> cases E2 <;> cases N2 <;> cases S <;> rfl
 have b1:(ty==1)=false:=qi h1;have b2:(ty==2)=false:=qi h2;have b3:(ty==3)=false:=qi h3;have b4:(ty==4)=false:=qi h4;have b5:(ty==5)=false:=qi h5;have b6:(ty != 5)=true:=bne_iff_ne.2 h5;simp only [b1,b2,b3,b4,b5,b6,Bool.or_false,aJ,aa];cases T0 <;> cases T <;> rfl
def js (s:ByteArray):ByteArray:=jo (s.size:Int)++s
theorem kY (s:ByteArray):(js s).size≤7+s.size:=by unfold js;have:=bN (s.size:Int);rw [ByteArray.size_append];omega
def aI (a:Ty.d bf):ByteArray :=
 if bg a=true then
  if a.1=1∨a.1=4 then jo a.1++(jo a.2.1++(js a.2.2.1++js a.2.2.2.1))
  else if a.1=2 then jo a.1++(jo a.2.1++js a.2.2.1)
  else jo a.1++(jo a.2.1++(jo a.2.2.2.2.1++vY a.2.2.2.2.2.1))
 else ⟨#[]⟩
theorem ni {a:Ty.d bf} (h:bg a=true) :
 ((a.1=1∨a.1=4)∧1≤a.2.2.1.size∧a.2.2.1.size≤8∧a.2.2.2.1.size≤24∧a.2.2.2.2.1=0∧a.2.2.2.2.2.1=0∧1≤a.2.1∧a.2.1≤1000000) ∨
 (a.1=2∧1≤a.2.2.1.size∧a.2.2.1.size≤8∧a.2.2.2.1=⟨#[]⟩∧a.2.2.2.2.1=0∧a.2.2.2.2.2.1=0∧1≤a.2.1∧a.2.1≤1000000) ∨
 ((a.1=3∨a.1=5)∧a.2.2.1=⟨#[]⟩∧a.2.2.2.1=⟨#[]⟩∧0≤a.2.2.2.2.1∧a.2.2.2.2.1≤20∧0≤a.2.2.2.2.2.1∧a.2.2.2.2.2.1≤4294967295∧0≤a.2.1∧a.2.1≤1000000):=by
 obtain ⟨kd,bt,key,val,cn,sm,u⟩:=a;change Int at kd bt cn sm;change ByteArray at key val;unfold bg at h;simp only [] at h ⊢;by_cases c:kd=1∨kd=4
 · have b:(kd==1||kd==4)=true:=by rcases c with c | c <;> rw [c] <;> rfl
   rw [b,aa] at h;simp only [iE,decide_eq_true_eq,beq_iff_eq] at h;exact .inl ⟨c,by omega,by omega,by omega,h.2.2.1,h.2.2.2.1,h.2.2.2.2⟩
 · have b1:(kd==1)=false:=qi fun h=>c (.inl h)
   have b4:(kd==4)=false:=qi fun h=>c (.inr h)
   simp only [b1,b4,Bool.or_false,aJ] at h;cases b2:(kd==2) with
   | true =>rw [b2,aa] at h;simp only [iE,decide_eq_true_eq,beq_iff_eq,db] at h;exact .inr (.inl ⟨eq_of_beq b2,by omega,by omega,h.2.1,h.2.2.1,h.2.2.2.1,h.2.2.2.2⟩)
   | false =>
    rw [b2,aJ] at h;cases b3:(kd==3) with
    | true =>rw [b3,aa] at h;simp only [iE,decide_eq_true_eq,db] at h;exact .inr (.inr ⟨.inl (eq_of_beq b3),h.1,h.2.1,h.2.2.1.1,Int.le_trans h.2.2.1.2 (by decide),h.2.2.2.1.1,h.2.2.2.1.2,Int.le_trans (by decide) h.2.2.2.2.1,h.2.2.2.2.2⟩)
    | false =>
     rw [b3,aJ] at h;cases b5:(kd==5) with
     | true =>rw [b5,aa] at h;simp only [iE,decide_eq_true_eq,db] at h;exact .inr (.inr ⟨.inr (eq_of_beq b5),h.1,h.2.1,h.2.2.1.1,h.2.2.1.2,h.2.2.2.1.1,h.2.2.2.1.2,h.2.2.2.2.1,h.2.2.2.2.2⟩)
     | false =>rw [b5,aJ] at h;cases h
theorem yi {kd b cn sm:Int} {key val:ByteArray} (h:bg (kd,(b,(key,(val,(cn,(sm,()))))))=true) :
 ((kd=1∨kd=4)∧1≤key.size∧key.size≤8∧val.size≤24∧cn=0∧sm=0∧1≤b∧b≤1000000) ∨
 (kd=2∧1≤key.size∧key.size≤8∧val=⟨#[]⟩∧cn=0∧sm=0∧1≤b∧b≤1000000) ∨
 ((kd=3∨kd=5)∧key=⟨#[]⟩∧val=⟨#[]⟩∧0≤cn∧cn≤20∧0≤sm∧sm≤4294967295∧0≤b∧b≤1000000):=ni h
theorem g8 {k:Nat} (hk:2 ^ 50≤k) (a:Ty.d bf):iT.f k a=some (aI a,()):=by
 unfold iT.f iT.t aI;rw [Db,ac];cases hr:bg a with
 | false=>rfl
 | true =>
  have v1:=bN a.1;have v2:=bN a.2.1;have v3:=bN (a.2.2.1.size:Int);have v4:=bN (a.2.2.2.1.size:Int);have v5:=bN a.2.2.2.2.1;have v6:=jB a.2.2.2.2.2.1;simp only [fw,aJ,if_true,js];rcases ni hr with ⟨c,h⟩ | ⟨c,h⟩ | ⟨c,h⟩
  · rw [if_pos c];rcases c with c | c
    · have b1:(a.1==1)=true:=by rw [c];rfl
      simp (disch:=first | omega | (simp only [ByteArray.size_append];omega)) only [nO hk,ac,b1,aa,jI,bh]
    · have b1:(a.1==1)=false:=by rw [c];rfl
      have b4:(a.1==4)=true:=by rw [c];rfl
      simp (disch:=first | omega | (simp only [ByteArray.size_append];omega)) only [nO hk,ac,b1,b4,aa,aJ,jI,bh]
  · have b1:(a.1==1)=false:=by rw [c];rfl
    have b4:(a.1==4)=false:=by rw [c];rfl
    have b2:(a.1==2)=true:=by rw [c];rfl
    rw [if_neg (show ¬ (a.1=1∨a.1=4) by rw [c];decide),if_pos c];simp (disch:=first | omega | (simp only [ByteArray.size_append];omega)) only [nO hk,ac,b1,b2,b4,aa,aJ,jI,bh]
  · have b1:(a.1==1)=false:=by rcases c with c | c <;> rw [c] <;> rfl
    have b4:(a.1==4)=false:=by rcases c with c | c <;> rw [c] <;> rfl
    have b2:(a.1==2)=false:=by rcases c with c | c <;> rw [c] <;> rfl
    rw [if_neg (show ¬ (a.1=1∨a.1=4) by rcases c with c | c <;> rw [c] <;> decide),if_neg (show ¬ a.1=2 by rcases c with c | c <;> rw [c] <;> decide)];obtain ⟨_,_,_,_,z1,z2,_⟩:=h;simp (disch:=first | assumption | omega | (simp only [ByteArray.size_append];omega)) only [nO hk,vS hk,ac,b1,b2,b4,aa,aJ,jI,bh]
theorem Cb {k:Nat} (hk:2 ^ 50≤k) (x y:Int):dh.f k [x,y]=some (jo x++jo y,()):=by have v1:=bN x;have v2:=bN y;obtain ⟨q,hq⟩:∃ q,k=q+3:=⟨k-3,by omega⟩;refine (congrArg (fun z=>dh.l0 k z ⟨#[]⟩ [x,y] 2 0) hq).trans ?_;rw [show dh.l0 k (q+3) ⟨#[]⟩ [x,y] 2 0=(fi.f k x).bind (fun r1=>oV ⟨#[]⟩ r1.1 (dh.l0 k (q+2) (⟨#[]⟩++r1.1) [x,y] 2 1)) from rfl];rw [pI hk,ac];simp only [];rw [jI (by rw [show (⟨#[]⟩:ByteArray).size=0 from rfl];omega),oX];rw [show dh.l0 k (q+2) (jo x) [x,y] 2 1=(fi.f k y).bind (fun r1=>oV (jo x) r1.1 (dh.l0 k (q+1) (jo x++r1.1) [x,y] 2 2)) from rfl];rw [pI hk,ac];simp only [];rw [jI (by omega)];rfl
theorem mD {k:Nat} (hk:2 ^ 50≤k) {s:ByteArray} (hs:s.size≤1099511627776):eJ.f k s=some (js s,()):=by have:=bN (s.size:Int);unfold eJ.f eJ.t js;simp (disch:=omega) only [pI hk,ac,jI]
theorem oq {k:Nat} (hk:2 ^ 50≤k) (a:Ty.d bf):gD.f k a=some (aI a,()):=by
 unfold gD.f gD.t aI;rw [iu,ac];cases hr:bg a with
 | false=>rfl
 | true =>
  have v1:=bN a.1;have v2:=bN a.2.1;have v3:=kY a.2.2.1;have v4:=kY a.2.2.2.1;have v5:=bN a.2.2.2.2.1;have v6:=jB a.2.2.2.2.2.1;simp only [fw,aJ,if_true,Cb hk,ac];rcases ni hr with ⟨c,h⟩ | ⟨c,h⟩ | ⟨c,h⟩
  · rw [if_pos c];rcases c with c | c
    · have b1:(a.1==1)=true:=by rw [c];rfl
      simp (disch:=first | omega | (simp only [ByteArray.size_append];omega)) only [mD hk,ac,b1,aa,jI,bh]
    · have b1:(a.1==1)=false:=by rw [c];rfl
      have b4:(a.1==4)=true:=by rw [c];rfl
      simp (disch:=first | omega | (simp only [ByteArray.size_append];omega)) only [mD hk,ac,b1,b4,aa,aJ,jI,bh]
  · have b1:(a.1==1)=false:=by rw [c];rfl
    have b4:(a.1==4)=false:=by rw [c];rfl
    have b2:(a.1==2)=true:=by rw [c];rfl
    rw [if_neg (show ¬ (a.1=1∨a.1=4) by rw [c];decide),if_pos c];simp (disch:=first | omega | (simp only [ByteArray.size_append];omega)) only [mD hk,ac,b1,b2,b4,aa,aJ,jI,bh]
  · have b1:(a.1==1)=false:=by rcases c with c | c <;> rw [c] <;> rfl
    have b4:(a.1==4)=false:=by rcases c with c | c <;> rw [c] <;> rfl
    have b2:(a.1==2)=false:=by rcases c with c | c <;> rw [c] <;> rfl
    rw [if_neg (show ¬ (a.1=1∨a.1=4) by rcases c with c | c <;> rw [c] <;> decide),if_neg (show ¬ a.1=2 by rcases c with c | c <;> rw [c] <;> decide)];obtain ⟨_,_,_,_,z1,z2,_⟩:=h;simp (disch:=first | assumption | omega | (simp only [ByteArray.size_append];omega)) only [pI hk,rO hk,ac,b1,b2,b4,aa,aJ,jI,bh]
theorem lm (a:Ty.d bf):(aI a).size≤60:=by
 unfold aI;split
 · rename_i hr;have v1:=bN a.1;have v2:=bN a.2.1;have v3:=kY a.2.2.1;have v4:=kY a.2.2.2.1;have v5:=bN a.2.2.2.2.1;have v6:=jB a.2.2.2.2.2.1;rcases ni hr with ⟨c,h⟩ | ⟨c,h⟩ | ⟨c,h⟩
   · rw [if_pos c];simp only [ByteArray.size_append];omega
   · rw [if_neg (show ¬ (a.1=1∨a.1=4) by rw [c];decide),if_pos c];simp only [ByteArray.size_append];omega
   · rw [if_neg (show ¬ (a.1=1∨a.1=4) by rcases c with c | c <;> rw [c] <;> decide),if_neg (show ¬ a.1=2 by rcases c with c | c <;> rw [c] <;> decide)];simp only [ByteArray.size_append];omega
 · exact Nat.zero_le _
def wi:List (Ty.d bf)→ByteArray
 | []=>⟨#[]⟩
 | a::l=>aI a++wi l
def FY (l:List (Ty.d bf)):Int:=tB (wi l)
theorem JB (l:List (Ty.d bf)):0≤FY l∧FY l≤4294967295:=vZ _
theorem qu {k:Nat} (hk:2 ^ 50≤k) {l:List (Ty.d bf)} (hl:l.length≤1073741824):gN.f k l=some (FY l,()):=by
 refine (fj (L:=fun n i s=>gN.l0 k n s l l.length i) (R:=fun l s=>some (tB (s++wi l),())) (Ty.z bf) l (fun i s=>(s.size:Int)≤60*i) (fun n s hs=>?_) (fun n i s x rest h0 h1 hx hr hp ih=>?_) (n:=k) (s:=⟨#[]⟩) (by omega) (by decide)).trans (by rw [oX];rfl)
 · simp (disch:=omega) only [gN.l0,gN.b0,aY,aJ,uk hk,ac,wi,ii]
 · have hz:=lm x;simp (disch:=omega) only [gN.l0,gN.b0,aW,aa,aT,hx,oq hk,ac,jI,aF];rw [ih _ (by rw [ByteArray.size_append];omega),wi,bh]
theorem Dd {s:ByteArray} (hs:s.size≤4611686018427387904) (k:Nat):∀ (d i acc n:Nat),i+d=7→acc<128 ^ i→d<n →
 dE.l0 k n s (acc:Int) (i:Int)=some (match rv d ((nb s).drop i) with
  | some (a,m)=>if a=0∧0<i then (0,(0,())) else (((acc+a*128 ^ i:Nat):Int),(((i+m:Nat):Int),()))
  | none=>(0,(0,()))):=by
 intro d
 induction d with
 | zero =>intro i acc n h1 h2 h3;obtain ⟨n,rfl⟩:∃ q,n=q+1:=⟨n-1,by omega⟩;simp (disch:=omega) only [dE.l0,dE.b0,aY,aJ,rv]
 | succ d ih =>
  intro i acc n h1 h2 h3;obtain ⟨n,rfl⟩:∃ q,n=q+1:=⟨n-1,by omega⟩;by_cases hlt:i<s.size
  case neg =>rw [List.drop_eq_nil_of_le (by rw [df];omega)];simp (disch:=omega) only [dE.l0,dE.b0,aW,aY,aa,aJ,rv]
  have hb:=kT s i;have hat:=C8 hlt;have ih:=ih (i+1);rw [tr hlt];generalize (nb s).getD i 0=b at hb hat;have e8:aQ (7*(i:Int))=((7*i:Nat):Int):=by rw [aF (by omega) (by omega)];omega
  have emin:min (7*i) (IntKind.bits .i64)=7*i:=by have:IntKind.bits .i64=64:=rfl;rw [this];omega
  have ep:(2:Int) ^ (7*i)=((128 ^ i:Nat):Int):=by rw [Int.pow_mul,Int.natCast_pow];rfl
  have hp:128 ^ i≤128 ^ 6:=Nat.pow_le_pow_right (by decide) (by omega);rw [show (128:Nat) ^ 6=4398046511104 by decide] at hp;have hps:128 ^ (i+1)=128 ^ i*128:=Nat.pow_succ ..;have hb2:(b % 128)*128 ^ i≤127*128 ^ i:=Nat.mul_le_mul (by omega) (Nat.le_refl _);have ev:aQ ((acc:Int)+aQ (Int.tmod (b:Int) 128*2 ^ (7*i)))=((acc+b % 128*128 ^ i:Nat):Int):=by
   have e:Int.tmod (b:Int) 128*2 ^ (7*i)=((b % 128*128 ^ i:Nat):Int):=by rw [ep,Int.natCast_mul];rfl
   rw [e,aF (n:=((b % 128*128 ^ i:Nat):Int)) (by omega) (by omega),aF (by omega) (by omega)];omega
  have eb:aQ ((b:Nat):Int)=(b:Int):=aF (by omega) (by omega);have ei:aQ ((i:Int)+1)=((i+1:Nat):Int):=by rw [aF (by omega) (by omega)];omega
  have ih:=ih (acc+b % 128*128 ^ i) n (by omega) (by omega) (by omega);simp (disch:=omega) only [dE.l0,dE.b0,aW,aa,aT,hat,eb,e8,s5,emin,ev,ei];rw [aY (by omega),aJ];by_cases c:b≥128
  · rw [aW (show (b:Int)≥128 by omega),aa,ih,rv,if_pos c];cases q:rv d ((nb s).drop (i+1)) with
    | none=>rfl
    | some p =>
     obtain ⟨a,m⟩:=p;simp only [];by_cases z:a=0
     · simp [z]
     · have hm:a*128 ^ (i+1)=128*a*128 ^ i:=by rw [hps,Nat.mul_comm (128 ^ i),← Nat.mul_assoc,Nat.mul_comm a]
       rw [if_neg (by omega),if_neg z];simp only [];rw [if_neg (by omega)];have e1:acc+b % 128*128 ^ i+a*128 ^ (i+1)=acc+(b % 128+128*a)*128 ^ i:=by rw [hm,Nat.add_mul];omega
       have e2:i+1+m=i+(m+1):=by omega
       rw [e1,e2]
  · have em:b % 128=b:=by omega
    rw [aY (show ¬ (b:Int)≥128 by omega),aJ,rv,if_neg c,em];by_cases z:b=0
    · subst z;rw [show ((((0:Nat):Int)==0))=true from rfl,aa];by_cases hi:0<i
      · rw [aW (show (i:Int) > 0 by omega),aa];simp [hi]
      · rw [aY (show ¬ (i:Int) > 0 by omega),aJ];simp [hi]
    · rw [show ((b:Int)==0)=false from qi (by omega),aJ];simp [z]
theorem pH {k:Nat} (hk:2 ^ 50≤k) {s:ByteArray} (hs:s.size≤4611686018427387904):dE.f k s=some (RF (rv 7 (nb s))):=by
 unfold dE.f dE.t;refine (Dd hs k 7 0 0 k (by omega) (by decide) (by omega)).trans ?_;rw [List.drop_zero];cases rv 7 (nb s) with
 | none=>rfl
 | some p=>simp [RF]
theorem JV {k:Nat} {L0:ByteArray→Int→Option (Int × Int × Unit)} {s:ByteArray} {n:Nat}:∀ (j x m:Nat),j<m→j≤s.size→j≤7→(x+1)*128 ^ j≤562949953421312 →
 ba.l1 k L0 m s (n:Int) (x:Int) ((j:Int)-1)=ba.l1 k L0 (m-j) s (n:Int) ((x*128 ^ j+uF ((nb s).take j):Nat):Int) (-1)
 | 0,x,m,hm,hs,h7,hx=>by simp [uF]
 | j+1,x,m,hm,hs,h7,hx=>by
  obtain ⟨m,rfl⟩:∃ q,m=q+1:=⟨m-1,by omega⟩;have hj:j<s.size:=by omega
  have hb:=kT s j;rw [Nat.pow_succ,← Nat.mul_assoc,Nat.mul_comm _ 128,← Nat.mul_assoc] at hx;have hpos:1≤128 ^ j:=Nat.one_le_pow _ _ (by decide);have hx2:(128*(x+1))*1≤(128*(x+1))*128 ^ j:=Nat.mul_le_mul (Nat.le_refl _) hpos;have hat:=C8 hj;have e0:((j+1:Nat):Int)-1=(j:Int):=by omega
  have c:(j:Int)≥0:=by omega
  have c2:(j:Int)<(s.size:Int):=by omega
  rw [Ll hj,Gt,List.length_take,df,Nat.min_eq_left (by omega)];generalize (nb s).getD j 0=b at hb hat ⊢;have w1:aQ (((b:Nat):Int))=(b:Int):=aF (by omega) (by omega);have w2:aQ ((x:Int)*128)=(x:Int)*128:=aF (by omega) (by omega);have w3:aQ ((x:Int)*128+Int.tmod (b:Int) 128)=((x*128+b % 128:Nat):Int):=by
   have e:(x:Int)*128+Int.tmod (b:Int) 128=((x*128+b % 128:Nat):Int):=by show (x:Int)*128+((b % 128:Nat):Int)=_;omega
   rw [e];exact aF (by omega) (by omega)
  have w4:aQ ((j:Int)-1)=(j:Int)-1:=aF (by omega) (by omega);have hx3:(x*128+b % 128+1)*128 ^ j≤(128*(x+1))*128 ^ j:=Nat.mul_le_mul (by omega) (Nat.le_refl _);have ih:=JV (k:=k) (L0:=L0) (s:=s) (n:=n) j (x*128+b % 128) m (by omega) (by omega) (by omega) (by omega);rw [e0];simp only [ba.l1,ba.b1,decide_eq_true c,aa,aT c c2,hat,w1,w2,w3,w4];rw [ih,show m+1-(j+1)=m-j by omega];congr 2;rw [Nat.pow_succ,Nat.add_mul,Nat.mul_assoc,Nat.mul_comm 128 (128 ^ j),Nat.mul_comm (b % 128)];omega
theorem Rh {s:ByteArray} {n:Nat} (h7:n≤7):uF ((nb s).take n)<562949953421312:=by
 have:=E9 ((nb s).take n);have h1:((nb s).take n).length≤7:=by rw [List.length_take];omega
 have h2:(128:Nat) ^ ((nb s).take n).length≤128 ^ 7:=Nat.pow_le_pow_right (by decide) h1;rw [show (128:Nat) ^ 7=562949953421312 by decide] at h2;omega
theorem Ea {k:Nat} (hk:2 ^ 50≤k) {s:ByteArray}:∀ (d i n:Nat),i+d=8→1≤i→d<n →
 ba.l0 k n s (i:Int)=some (match rv 7 (nb s) with | some (a,m)=>if i≤m then ((a:Int),((m:Int),())) else (0,(0,())) | none=>(0,(0,()))):=by
 have stop:∀ i,(7<i∨s.size<i)→(match rv 7 (nb s) with | some (a,m)=>if i≤m then ((a:Int),((m:Int),())) else (0,(0,())) | none=>(0,(0,())))=((0:Int),((0:Int),())):=by
  intro i hi;cases q:rv 7 (nb s) with
  | none=>rfl
  | some p =>obtain ⟨a,m⟩:=p;obtain ⟨_,_,_,h4,_,h6⟩:=tj 6 (nb s) a m (wx s) q;rw [df] at h4;exact if_neg (by omega)
 intro d
 induction d with
 | zero =>intro i n h1 h2 h3;obtain ⟨n,rfl⟩:∃ q,n=q+1:=⟨n-1,by omega⟩;rw [stop i (by omega)];simp (disch:=omega) only [ba.l0,ba.b0,aY,aJ]
 | succ d ih =>
  intro i n h1 h2 h3;obtain ⟨n,rfl⟩:∃ q,n=q+1:=⟨n-1,by omega⟩;by_cases hs:i≤s.size
  case neg =>rw [stop i (by omega)];simp (disch:=omega) only [ba.l0,ba.b0,aW,aY,aa,aJ]
  have hp:(128:Nat) ^ i≤128 ^ 7:=Nat.pow_le_pow_right (by decide) (by omega);rw [show (128:Nat) ^ 7=562949953421312 by decide] at hp;simp (disch:=omega) only [ba.l0,ba.b0,aW,aa,aF];refine (JV (k:=k) (L0:=ba.l0 k n) (s:=s) (n:=i) i 0 k (by omega) hs (by omega) (by omega)).trans ?_;obtain ⟨m,hm⟩:∃ m,k-i=m+1:=⟨k-i-1,by omega⟩;have hd7:=Rh (s:=s) (n:=i) (by omega);have hc:=K8 (s:=s) (n:=i) h2 (by omega) hs;rw [hm,Nat.zero_mul,Nat.zero_add];simp only [ba.l1,ba.b1,show decide ((-1:Int)≥0)=false by decide,aJ,nO hk,ac,dj hd7];rw [d7 (by omega) (by omega),s5,hc,aF (by omega) (by omega)];have hw:=Oj (nb s) (wx s) 6 i h2 (by omega) (by rw [df];exact hs);cases hq:tH ((nb s).take i) with
  | true =>obtain ⟨a,ha⟩:=hw.1 hq;rw [aa,ha];simp only [];rw [if_pos (Nat.le_refl _),Pz (wx s) ha]
  | false =>
   have hnot:∀ a,rv 7 (nb s)≠some (a,i):=fun a ha=>by have:=hw.2 ⟨a,ha⟩;rw [hq] at this;cases this
   rw [aJ];refine (ih (i+1) n (by omega) (by omega) (by omega)).trans ?_;cases q:rv 7 (nb s) with
   | none=>rfl
   | some p =>
    obtain ⟨a,m'⟩:=p;have:m'≠i:=fun e=>hnot a (by rw [q,e])
    simp only [];by_cases c:i≤m'
    · rw [if_pos c,if_pos (by omega)]
    · rw [if_neg c,if_neg (by omega)]
theorem pE {k:Nat} (hk:2 ^ 50≤k) (s:ByteArray):ba.f k s=some (RF (rv 7 (nb s))):=by
 unfold ba.f ba.t;refine (Ea hk 7 1 k (by omega) (by omega) (by omega)).trans ?_;cases q:rv 7 (nb s) with
 | none=>rfl
 | some p =>obtain ⟨a,m⟩:=p;obtain ⟨_,_,_,_,h5,_⟩:=tj 6 (nb s) a m (wx s) q;simp only [RF];rw [if_pos h5]
theorem qc {k:Nat} (hk:2 ^ 50≤k) {x:Nat} (hx:x<4294967296) (t:ByteArray):cm.f k (fF x++t) 4=some ((x:Int),(true,())):=by
 have hz:=ny x t;have st:∀ (q a j:Nat),j<4→a<4294967296→cm.l0 k (q+1) (fF x++t) 4 (a:Int) (j:Int)=cm.l0 k q (fF x++t) 4 ((a*256+(nb (fF x++t)).getD j 0:Nat):Int) ((j+1:Nat):Int):=fun q a j hj ha=>by
  have hb:=kT (fF x++t) j;have hat:=C8 (s:=fF x++t) (i:=j) (by omega);generalize (nb (fF x++t)).getD j 0=b at *;have e1:aQ (aQ ((a:Int)*256)+aQ (b:Int))=((a*256+b:Nat):Int):=by rw [aF (n:=(a:Int)*256) (by omega) (by omega),aF (n:=(b:Int)) (by omega) (by omega),aF (by omega) (by omega)];omega
  have ej:aQ ((j:Int)+1)=((j+1:Nat):Int):=by rw [aF (by omega) (by omega)];omega
  simp (disch:=omega) only [cm.l0,cm.b0,aW,aa,aT,hat,e1,ej]
 unfold cm.f cm.t;rw [tX,ac];simp only [show decide ((1:Int)≤4∧(4:Int)≤7)=true by decide,fw,aJ,aY (show ¬ (((fF x++t).size:Int)<4) by omega)];obtain ⟨q,hq⟩:∃ q,k=q+5:=⟨k-5,by omega⟩;refine (congrArg (fun z=>cm.l0 k z (fF x++t) 4 0 0) hq).trans ?_;refine (st (q+4) 0 0 (by omega) (by omega)).trans ?_;rw [xl];simp only [List.getD_cons_zero,Nat.zero_mul,Nat.zero_add];refine (st (q+3) _ 1 (by omega) (by omega)).trans ?_;rw [xl];simp only [List.getD_cons_zero,List.getD_cons_succ];refine (st (q+2) _ 2 (by omega) (by omega)).trans ?_;rw [xl];simp only [List.getD_cons_zero,List.getD_cons_succ];refine (st (q+1) _ 3 (by omega) (by omega)).trans ?_;rw [xl];simp only [List.getD_cons_zero,List.getD_cons_succ];simp only [cm.l0,cm.b0,show decide ((((3+1:Nat)):Int)<4)=false by decide,aJ];congr 3;omega
theorem ql {k:Nat} (hk:2 ^ 50≤k) {x:Nat} (hx:x<4294967296) (t:ByteArray):cD.f k (fF x++t) 4=some ((x:Int),(true,())):=by
 have hz:=ny x t;have st:∀ (q a j:Nat),j<4→a<16777216→cD.l0 k (q+1) (fF x++t) (a:Int) 4 (j:Int)=cD.l0 k q (fF x++t) ((a*256+(nb (fF x++t)).getD j 0:Nat):Int) 4 ((j+1:Nat):Int):=fun q a j hj ha=>by
  have hb:=kT (fF x++t) j;have hat:=C8 (s:=fF x++t) (i:=j) (by omega);generalize (nb (fF x++t)).getD j 0=b at *;have e0:aQ ((a:Int)*2 ^ min (Int.toNat 8) (IntKind.bits .i64))=((a*256:Nat):Int):=by rw [show (2:Int) ^ min (Int.toNat 8) (IntKind.bits .i64)=256 by decide,aF (by omega) (by omega)];omega
  have e2:aQ (b:Int)=(b:Int):=aF (by omega) (by omega);have ej:aQ ((j:Int)+1)=((j+1:Nat):Int):=by rw [aF (by omega) (by omega)];omega
  simp (disch:=omega) only [cD.l0,cD.b0,aW,aa,aT,hat,e0,e2,ej];rw [Ra (by omega) hb]
 unfold cD.f cD.t;rw [wb,ac];simp only [show decide ((1:Int)≤4∧(4:Int)≤7)=true by decide,fw,aJ,aY (show ¬ (((fF x++t).size:Int)<4) by omega)];obtain ⟨q,hq⟩:∃ q,k=q+5:=⟨k-5,by omega⟩;refine (congrArg (fun z=>cD.l0 k z (fF x++t) 0 4 0) hq).trans ?_;refine (st (q+4) 0 0 (by omega) (by omega)).trans ?_;rw [xl];simp only [List.getD_cons_zero,Nat.zero_mul,Nat.zero_add];refine (st (q+3) _ 1 (by omega) (by omega)).trans ?_;rw [xl];simp only [List.getD_cons_zero,List.getD_cons_succ];refine (st (q+2) _ 2 (by omega) (by omega)).trans ?_;rw [xl];simp only [List.getD_cons_zero,List.getD_cons_succ];refine (st (q+1) _ 3 (by omega) (by omega)).trans ?_;rw [xl];simp only [List.getD_cons_zero,List.getD_cons_succ];simp only [cD.l0,cD.b0,show decide ((((3+1:Nat)):Int)<4)=false by decide,aJ];congr 3;omega
theorem vQ (k:Nat) {s:ByteArray} (h:s.size<4):cm.f k s 4=some (0,(false,())):=by unfold cm.f cm.t;rw [tX,ac];simp only [show decide ((1:Int)≤4∧(4:Int)≤7)=true by decide,fw,aJ,aW (show (s.size:Int)<4 by omega),aa]
theorem vd (k:Nat) {s:ByteArray} (h:s.size<4):cD.f k s 4=some (0,(false,())):=by unfold cD.f cD.t;rw [wb,ac];simp only [show decide ((1:Int)≤4∧(4:Int)≤7)=true by decide,fw,aJ,aW (show (s.size:Int)<4 by omega),aa]
def aS (s:ByteArray):ByteArray:=if s.size > 200 then ⟨#[]⟩ else vY (tB (js s))++js s
theorem mT (s:ByteArray):(aS s).size≤211:=by
 unfold aS;split
 · exact Nat.zero_le _
 · have:=kY s;rw [ByteArray.size_append,jB];omega
theorem li {s:ByteArray} (h:s.size≤200):5≤(aS s).size:=by unfold aS;rw [if_neg (by omega),ByteArray.size_append,jB];unfold js;rw [dj (by omega),ByteArray.size_append];have:=ao s.size;omega
theorem E_ {k:Nat} (hk:2 ^ 50≤k) (s:ByteArray):oz.f k s=some (aS s,()):=by
 unfold oz.f oz.t aS;by_cases c:s.size > 200
 · rw [aW (show (s.size:Int) > 200 by omega),aa,if_pos c]
 · have h1:=bN (s.size:Int);have h2:=vZ (jo (s.size:Int)++s);rw [aY (show ¬ (s.size:Int) > 200 by omega),aJ,if_neg c];unfold js;simp (disch:=first | omega | (simp only [ByteArray.size_append,jB];omega)) only [nO hk,ac,jI,IX hk];rw [vS hk h2.1 h2.2,ac,jI (by simp only [ByteArray.size_append,jB];omega)]
theorem oL {k:Nat} (hk:2 ^ 50≤k) (s:ByteArray):gk.f k s=some (aS s,()):=by
 unfold gk.f gk.t aS;by_cases c:s.size > 200
 · rw [aW (show (s.size:Int) > 200 by omega),aa,if_pos c]
 · have h1:=kY s;have h2:=vZ (js s);rw [aY (show ¬ (s.size:Int) > 200 by omega),aJ,if_neg c];simp (disch:=omega) only [mD hk,ac,uk hk];rw [rO hk h2.1 h2.2,ac,jI (by rw [jB];omega)]
theorem aX (a b:ByteArray):(a++b).size=a.size+b.size:=ByteArray.size_append ..
theorem t_ (a b t:ByteArray):ByteArray.extract (a++(b++t)) (a.size+b.size) (a++(b++t)).size=t:=by have:=gS (a++b) t;rw [aX,bh] at this;exact this
theorem RV (a b t:ByteArray):ByteArray.extract (a++(b++t)) a.size (a.size+b.size)=b:=kh (by
 rw [vB,gw,gw,List.take_append,List.take_of_length_le (by rw [df];omega),df,show a.size+b.size-a.size=b.size by omega,List.drop_left' (df a),List.take_left' (df b)])
theorem A_ (a b:Nat):((a:Int)+(b:Int))=((a+b:Nat):Int):=rfl
theorem pN {k:Nat} (hk:2 ^ 50≤k) {a:Nat} {t:ByteArray} (ha:a<562949953421312) (hs:t.size≤1099511627776):dE.f k (br a++t)=some ((a:Int),(((br a).size:Int),())):=by have:=ao a;rw [pH hk (by rw [aX];omega),B4 ha];rfl
theorem oB {k:Nat} (hk:2 ^ 50≤k) {s:ByteArray} (h:rv 7 (nb s)=none) (hs:s.size≤1099511627776):dE.f k s=some (0,(0,())):=by rw [pH hk (by omega),h];rfl
theorem dN {k:Nat} (hk:2 ^ 50≤k) {a:Nat} {t:ByteArray} (ha:a<562949953421312):ba.f k (br a++t)=some ((a:Int),(((br a).size:Int),())):=by rw [pE hk,B4 ha];rfl
theorem kp {k:Nat} (hk:2 ^ 50≤k) {s:ByteArray} (h:rv 7 (nb s)=none):ba.f k s=some (0,(0,())):=by rw [pE hk,h];rfl
theorem fY {k:Nat} (hk:2 ^ 50≤k) {a:Nat} {t:ByteArray} (ha:a<562949953421312) (hs:t.size≤1099511627776):aN.f k (br a++t,(false,()))=some ((t,(false,())),((a:Int),())):=by have h1:=ao a;unfold aN.f aN.t;rw [pN hk ha hs,ac];simp only [aJ];rw [show (((br a).size:Int)==0)=false from qi (by omega),aJ,d7 (by omega) (by rw [aX];omega),s5,gS]
theorem mq {k:Nat} (hk:2 ^ 50≤k) {s:ByteArray} (h:rv 7 (nb s)=none) (hs:s.size≤1099511627776):aN.f k (s,(false,()))=some ((s,(true,())),(0,())):=by unfold aN.f aN.t;rw [oB hk h hs,ac];rfl
theorem xx {k:Nat} (hk:2 ^ 50≤k) {s:ByteArray} (hs:s.size≤1099511627776):aN.f k (s,(true,()))=some ((s,(true,())),(0,())):=by unfold aN.f aN.t;rw [pH hk (show s.size≤_ by omega),ac];rfl
theorem t6 (k:Nat) (u t:ByteArray):aq.f k (u++t,(false,())) (u.size:Int)=some ((t,(false,())),(u,())):=by unfold aq.f aq.t;simp only [aJ];rw [aY (by rw [aX];omega),aJ,d7 (by omega) (by rw [aX];omega),d7 (by omega) (by rw [aX];omega),s5,gS,AE]
theorem tR (k:Nat) {s:ByteArray} {n:Int} (h:n > (s.size:Int)):aq.f k (s,(false,())) n=some ((s,(true,())),(⟨#[]⟩,())):=by unfold aq.f aq.t;simp only [aJ];rw [aW h,aa]
theorem tT (k:Nat) (s:ByteArray) (n:Int):aq.f k (s,(true,())) n=some ((s,(true,())),(⟨#[]⟩,())):=by unfold aq.f aq.t;rfl
theorem qf (s:ByteArray):(∃ u t,u.size<562949953421312∧s=br u.size++(u++t))∨rv 7 (nb s)=none∨(∃ a t,a<562949953421312∧s=br a++t∧t.size<a):=by
 rcases kx s with ⟨a,t,ha,rfl⟩ | h
 · by_cases c:t.size<a
   · exact .inr (.inr ⟨a,t,ha,rfl,c⟩)
   · have e:=wH t (n:=a) (by omega);have hz:(ByteArray.extract t 0 a).size=a:=by rw [← df,lY,List.length_take,df];omega
     exact .inl ⟨_,_,by rw [hz];exact ha,by rw [hz,← e]⟩
 · exact .inr (.inl h)
theorem oQ {k:Nat} (hk:2 ^ 50≤k) {u t:ByteArray} (hu:u.size<562949953421312) (hs:(u++t).size≤1099511627776):aj.f k (br u.size++(u++t),(false,()))=some ((t,(false,())),(u,())):=by unfold aj.f aj.t;rw [fY hk hu hs,ac];simp only [];rw [t6,ac]
theorem AM {k:Nat} (hk:2 ^ 50≤k) {s:ByteArray} (hs:s.size≤1099511627776):aj.f k (s,(true,()))=some ((s,(true,())),(⟨#[]⟩,())):=by unfold aj.f aj.t;rw [xx hk hs,ac];simp only [];rw [tT,ac]
theorem A4 {k:Nat} (hk:2 ^ 50≤k) {s:ByteArray} (hs:s.size≤1099511627776) (h:rv 7 (nb s)=none∨(∃ a t,a<562949953421312∧s=br a++t∧t.size<a)):∃ s',s'.size≤1099511627776∧aj.f k (s,(false,()))=some ((s',(true,())),(⟨#[]⟩,())):=by
 unfold aj.f aj.t;rcases h with h | ⟨a,t,ha,rfl,ht⟩
 · refine ⟨s,hs,?_⟩;rw [mq hk h hs,ac];simp only [];rw [tT,ac]
 · have:=ao a;rw [aX] at hs;refine ⟨t,by omega,?_⟩;rw [fY hk ha (by omega),ac];simp only [];rw [tR k (by omega),ac]
theorem D8 {k:Nat} (hk:2 ^ 50≤k) {u t:ByteArray} (hu:u.size<562949953421312) (hs:(u++t).size≤1099511627776):f_.f k (br u.size++(u++t))=some (u,(t,(true,()))):=by
 have h1:=ao u.size;have h2:(br u.size++(u++t)).size=(br u.size).size+(u.size+t.size):=by rw [aX,aX]
 rw [aX] at hs;unfold f_.f f_.t;rw [dN hk hu,ac];simp only [];rw [show (((br u.size).size:Int)==0)=false from qi (by omega),aJ,aF (by omega) (by omega),aY (by omega),aJ,A_,aF (by omega) (by omega),
  yu (by omega) (by omega) (by omega),d7 (by omega) (by omega),s5,s5,RV,t_]
theorem EA {k:Nat} (hk:2 ^ 50≤k) {s:ByteArray} (hs:s.size≤1099511627776) (h:rv 7 (nb s)=none∨(∃ a t,a<562949953421312∧s=br a++t∧t.size<a)):f_.f k s=some (⟨#[]⟩,(⟨#[]⟩,(false,()))):=by
 unfold f_.f f_.t;rcases h with h | ⟨a,t,ha,rfl,ht⟩
 · rw [kp hk h,ac];rfl
 · have:=ao a;rw [aX] at hs;rw [dN hk ha,ac];simp only [];rw [show (((br a).size:Int)==0)=false from qi (by omega),aJ,aF (by rw [aX];omega) (by rw [aX];omega),aW (by rw [aX];omega),aa]
section
open Classical
variable {α:Type}
noncomputable def qC (ok:α→Prop) (shw:α→ByteArray) (z:α) (s:ByteArray):α × Bool:=if h:∃ r,ok r∧shw r=s then (h.choose,true) else (z,false)
theorem yn {ok:α→Prop} {shw:α→ByteArray} {z:α} {s:ByteArray} {r:α} (h:qC ok shw z s=(r,true)):ok r∧shw r=s:=by
 unfold qC at h;split at h
 · rename_i q;obtain rfl:=(Prod.mk.inj h).1;exact q.choose_spec
 · cases (Prod.mk.inj h).2
theorem Ny {ok:α→Prop} {shw:α→ByteArray} {z:α} {s:ByteArray} (h:(qC ok shw z s).2=false):qC ok shw z s=(z,false):=by
 unfold qC at h ⊢;split
 · rename_i q;rw [dif_pos q] at h;cases h
 · rfl
theorem nI (ok:α→Prop) (shw:α→ByteArray) (z:α) (s:ByteArray):(∃ r,ok r∧shw r=s∧qC ok shw z s=(r,true))∨qC ok shw z s=(z,false):=by
 cases h:(qC ok shw z s).2 with
 | false=>exact .inr (Ny h)
 | true =>
  have e:qC ok shw z s=((qC ok shw z s).1,true):=by rw [← h]
  exact .inl ⟨_,(yn e).1,(yn e).2,e⟩
theorem uC {ok:α→Prop} {shw:α→ByteArray} {z:α} {s:ByteArray} {f:Option (α × Bool × Unit)} (h1:∀ r,ok r→shw r=s→f=some (r,(true,())))
 (h2:(∃ r,ok r∧shw r=s∧f=some (r,(true,())))∨f=some (z,(false,()))):f=some ((qC ok shw z s).1,((qC ok shw z s).2,())):=by
 rcases nI ok shw z s with ⟨r,a,b,e⟩ | e
 · rw [e,h1 r a b]
 · rcases h2 with ⟨r,a,b,_⟩ | h2
   · unfold qC at e;rw [dif_pos ⟨r,a,b⟩] at e;cases (Prod.mk.inj e).2
   · rw [e,h2]
theorem EO {ok:α→Prop} {shw:α→ByteArray} {z:α} {r:α} (hi:∀ a b,ok a→ok b→shw a=shw b→a=b) (h:ok r):qC ok shw z (shw r)=(r,true):=by
 rcases nI ok shw z (shw r) with ⟨q,a,b,e⟩ | e
 · rw [e,hi q r a h b]
 · unfold qC at e;rw [dif_pos ⟨r,h,rfl⟩] at e;cases (Prod.mk.inj e).2
end
abbrev vN:Ty.d bf:=(0,(0,(ByteArray.empty,(ByteArray.empty,(0,(0,()))))))
theorem D1 {a:Ty.d bf} (h:bg a=true) :
 (∃ (b:Nat) (kd:Nat),(kd=1∨kd=4)∧b≤1000000∧a=((kd:Int),((b:Int),(a.2.2.1,(a.2.2.2.1,(0,(0,()))))))∧a.2.2.1.size≤8∧a.2.2.2.1.size≤24 ∧
  aI a=br kd++(br b++(br a.2.2.1.size++(a.2.2.1++(br a.2.2.2.1.size++(a.2.2.2.1++⟨#[]⟩)))))) ∨
 (∃ (b:Nat),b≤1000000∧a=(2,((b:Int),(a.2.2.1,(ByteArray.empty,(0,(0,()))))))∧a.2.2.1.size≤8∧aI a=br 2++(br b++(br a.2.2.1.size++(a.2.2.1++⟨#[]⟩)))) ∨
 (∃ (b kd c x:Nat),(kd=3∨kd=5)∧b≤1000000∧c≤20∧x<4294967296∧a=((kd:Int),((b:Int),(ByteArray.empty,(ByteArray.empty,((c:Int),((x:Int),()))))))∧aI a=br kd++(br b++(br c++(fF x++⟨#[]⟩)))):=by
 have hh:=h;obtain ⟨kd,b,key,val,c,x,u⟩:=a;change Int at kd b c x;change ByteArray at key val;rcases yi h with ⟨hc,h⟩ | ⟨hc,h⟩ | ⟨hc,h⟩
 · obtain ⟨z1,z2,z3,z4,z5,z6,z7⟩:=h;subst z4;subst z5;obtain ⟨b,rfl⟩:=Int.eq_ofNat_of_zero_le (show 0≤b by omega);left;refine ⟨b,kd.toNat,by omega,by omega,?_,z2,z3,?_⟩
   · rw [show ((kd.toNat:Nat):Int)=kd by omega]
   · unfold aI;rw [if_pos hh,if_pos hc];simp only [js];rw [dj (by omega),dj (by omega),dj (by omega),ii,bh,show jo kd=br kd.toNat by rw [← dj (show kd.toNat<562949953421312 by omega)];congr 1;omega]
 · obtain ⟨z1,z2,z3,z4,z5,z6,z7⟩:=h;subst z3;subst z4;subst z5;subst hc;obtain ⟨b,rfl⟩:=Int.eq_ofNat_of_zero_le (show 0≤b by omega);right;left;refine ⟨b,by omega,rfl,z2,?_⟩;unfold aI;rw [if_pos hh,if_neg (show ¬ ((2:Int)=1∨(2:Int)=4) by decide),if_pos rfl];simp only [js];rw [dj (by omega),dj (by omega),ii];rfl
 · obtain ⟨z1,z2,z3,z4,z5,z6,z7,z8⟩:=h;subst z1;subst z2;obtain ⟨b,rfl⟩:=Int.eq_ofNat_of_zero_le (show 0≤b by omega);obtain ⟨c,rfl⟩:=Int.eq_ofNat_of_zero_le (show 0≤c by omega);obtain ⟨x,rfl⟩:=Int.eq_ofNat_of_zero_le (show 0≤x by omega);right;right;refine ⟨b,kd.toNat,c,x,by omega,by omega,by omega,by omega,?_,?_⟩
   · rw [show ((kd.toNat:Nat):Int)=kd by omega];rfl
   · unfold aI;rw [if_pos hh,if_neg (show ¬ (kd=1∨kd=4) by omega),if_neg (show ¬ kd=2 by omega)];simp only [];rw [dj (by omega),dj (by omega),ii,show jo kd=br kd.toNat by rw [← dj (show kd.toNat<562949953421312 by omega)];congr 1;omega];rfl
theorem Hy {a:Ty.d bf} {s:ByteArray} (h:aI a=s) (hs:s≠⟨#[]⟩):bg a=true:=by
 cases c:bg a with
 | true=>rfl
 | false=>unfold aI at h;rw [c] at h;exact absurd h.symm hs
theorem PM {kd:Nat} (h:kd≠1):((kd:Int)==1)=false:=qi (by omega)
theorem P1 {kd:Nat} (h:kd≠2):((kd:Int)==2)=false:=qi (by omega)
theorem PH {kd:Nat} (h:kd≠4):((kd:Int)==4)=false:=qi (by omega)
theorem Pv:(((1:Nat):Int)==1)=true:=rfl
theorem Q7:(((4:Nat):Int)==1)=false:=rfl
theorem Pr:(((4:Nat):Int)==4)=true:=rfl
theorem QW:(((2:Nat):Int)==1)=false:=rfl
theorem Po:(((2:Nat):Int)==2)=true:=rfl
theorem QZ:(((2:Nat):Int)==4)=false:=rfl
theorem Rt:((0:Int)==1)=false:=rfl
theorem Rw:((0:Int)==4)=false:=rfl
theorem Rv:((0:Int)==2)=false:=rfl
theorem e0:(⟨#[]⟩:ByteArray).size=0:=rfl
theorem M_ {kd b:Nat} {key val:ByteArray} (hb:b<562949953421312) (hc:kd=1∨kd=4) (h:bg ((kd:Int),((b:Int),(key,(val,(0,(0,()))))))=true) :
 aI ((kd:Int),((b:Int),(key,(val,(0,(0,()))))))=br kd++(br b++(br key.size++(key++(br val.size++(val++⟨#[]⟩))))):=by
 rcases yi h with ⟨_,h1⟩ | ⟨h0,_⟩ | ⟨h0,_⟩
 · unfold aI;rw [if_pos h,if_pos (show ((kd:Int)=1∨(kd:Int)=4) by omega)];simp only [js];rw [dj (by omega),dj hb,dj (by omega),dj (by omega),ii,bh]
 · omega
 · omega
theorem ME {b:Nat} {key:ByteArray} (hb:b<562949953421312) (h:bg (((2:Nat):Int),((b:Int),(key,(ByteArray.empty,(0,(0,()))))))=true) :
 aI (((2:Nat):Int),((b:Int),(key,(ByteArray.empty,(0,(0,()))))))=br 2++(br b++(br key.size++(key++⟨#[]⟩))):=by
 rcases yi h with ⟨h0,_⟩ | ⟨_,h1⟩ | ⟨h0,_⟩
 · omega
 · unfold aI;rw [if_pos h,if_neg (show ¬ (((2:Nat):Int)=1∨((2:Nat):Int)=4) by decide),if_pos (show ((2:Nat):Int)=2 from rfl)];simp only [js];rw [dj (by omega),dj hb,dj (by omega),ii]
 · omega
theorem Ml {kd b c x:Nat} (hb:b<562949953421312) (hx:c<562949953421312) (hc:kd≠1∧kd≠2∧kd≠4) (h:bg ((kd:Int),((b:Int),(ByteArray.empty,(ByteArray.empty,((c:Int),((x:Int),()))))))=true) :
 aI ((kd:Int),((b:Int),(ByteArray.empty,(ByteArray.empty,((c:Int),((x:Int),()))))))=br kd++(br b++(br c++(fF x++⟨#[]⟩))):=by
 rcases yi h with ⟨h0,_⟩ | ⟨h0,_⟩ | ⟨_,h1⟩
 · omega
 · omega
 · unfold aI;rw [if_pos h,if_neg (show ¬ ((kd:Int)=1∨(kd:Int)=4) by omega),if_neg (show ¬ (kd:Int)=2 by omega)];simp only [];have hk5:kd≤5:=by omega
   rw [dj (by omega),dj hb,dj hx,ii];rfl
theorem qD {k:Nat} (hk:2 ^ 50≤k) {a:Ty.d bf} (h:bg a=true):dF.f k (aI a)=some (a,(true,())):=by
 unfold dF.f dF.t;rcases D1 h with ⟨b,kd,hc,hb,ha,z1,z2,e⟩ | ⟨b,hb,ha,z1,e⟩ | ⟨b,kd,c,x,hc,hb,z1,z2,ha,e⟩
 · rw [e];rw [ha] at h
   conv=>rhs;rw [ha]
   have v1:=ao kd;have v2:=ao b;have v3:=ao a.2.2.1.size;have v4:=ao a.2.2.2.1.size;rcases hc with rfl | rfl
   · simp (disch:=first | omega | (simp only [aX,e0];omega)) only [fY hk,oQ hk,ac,aa,aJ,Pv,bQ,fw,iu,h]
   · simp (disch:=first | omega | (simp only [aX,e0];omega)) only [fY hk,oQ hk,ac,aa,aJ,Q7,Pr,bQ,fw,iu,h]
 · rw [e];rw [ha] at h
   conv=>rhs;rw [ha]
   have v1:=ao 2;have v2:=ao b;have v3:=ao a.2.2.1.size;simp (disch:=first | omega | (simp only [aX,e0];omega)) only [fY hk,oQ hk,ac,aa,aJ,QW,Po,QZ,bQ,fw,iu];rw [show ((2:Nat):Int)=2 from rfl,h];rfl
 · rw [e,ha];rw [ha] at h;have v1:=ao kd;have v2:=ao b;have v3:=ao c;have v4:=nY x;have hby:=t6 k (fF x) ⟨#[]⟩;rw [nY] at hby;have hrf:=ql hk z2 ⟨#[]⟩;rw [ii] at hrf;rw [show (((4:Nat)):Int)=4 from rfl] at hby;simp (disch:=first | omega | (simp only [aX,e0];omega)) only [fY hk,hby,hrf,ac,aa,aJ,PM,P1,PH,bQ,fw,iu,h]
theorem yL {k:Nat} (hk:2 ^ 50≤k) {s:ByteArray} (hs:s.size≤1099511627776) :
 (∃ r,bg r=true∧aI r=s∧dF.f k s=some (r,(true,())))∨dF.f k s=some (vN,(false,())):=by
 have rf0:=vd k (s:=⟨#[]⟩) (by decide);unfold dF.f dF.t;rcases kx s with ⟨kd,t,hkd,rfl⟩ | h0
 case inr =>right;simp (disch:=first | omega | (simp only [aX,e0];omega)) only [mq hk h0,xx hk,tT k,rf0,ac,aa,aJ,Rt,Rv,Rw]
 have v1:=ao kd;rw [aX] at hs;rcases kx t with ⟨b,t2,hb,rfl⟩ | h1
 case inr =>
  right;by_cases c1:kd=1
  · subst c1;simp (disch:=first | omega | (simp only [aX,e0];omega)) only [fY hk,mq hk h1,AM hk,ac,aa,aJ,Pv]
  by_cases c4:kd=4
  · subst c4;simp (disch:=first | omega | (simp only [aX,e0];omega)) only [fY hk,mq hk h1,AM hk,ac,aa,aJ,Q7,Pr]
  by_cases c2:kd=2
  · subst c2;simp (disch:=first | omega | (simp only [aX,e0];omega)) only [fY hk,mq hk h1,AM hk,ac,aa,aJ,QW,QZ,Po]
  · simp (disch:=first | omega | (simp only [aX,e0];omega)) only [fY hk,mq hk h1,xx hk,tT k,rf0,ac,aa,aJ,PM c1,P1 c2,PH c4]
 have v2:=ao b;rw [aX] at hs;by_cases c2:kd=2
 · subst c2;rcases qf t2 with ⟨key,t3,hu,rfl⟩ | bad
   case inr =>right;obtain ⟨s',hs',e⟩:=A4 hk (by omega) bad;simp (disch:=first | omega | (simp only [aX,e0];omega)) only [fY hk,e,ac,aa,aJ,QW,QZ,Po]
   have v3:=ao key.size;simp only [aX] at hs;simp (disch:=first | omega | (simp only [aX,e0];omega)) only [fY hk,oQ hk,ac,aa,aJ,QW,QZ,Po];by_cases c:t3=⟨#[]⟩
   · subst c;simp only [bQ,fw,aJ,iu,ac];cases hr:bg (((2:Nat):Int),((b:Int),(key,(ByteArray.empty,(0,(0,())))))) with
     | true=>exact .inl ⟨_,hr,ME hb hr,rfl⟩
     | false=>exact .inr rfl
   · rw [kZ c];exact .inr rfl
 by_cases c1:kd=1∨kd=4
 · have hcc:(bif ((kd:Int)==1) then true else ((kd:Int)==4))=true:=by rcases c1 with rfl | rfl <;> rfl
   rcases qf t2 with ⟨key,t3,hu,rfl⟩ | bad
   case inr =>
    right;obtain ⟨s',hs',e⟩:=A4 hk (by omega) bad;rcases c1 with rfl | rfl
    · simp (disch:=first | omega | (simp only [aX,e0];omega)) only [fY hk,e,AM hk hs',ac,aa,aJ,Pv]
    · simp (disch:=first | omega | (simp only [aX,e0];omega)) only [fY hk,e,AM hk hs',ac,aa,aJ,Q7,Pr]
   have v3:=ao key.size;simp only [aX] at hs;rcases qf t3 with ⟨val,t4,hv,rfl⟩ | bad
   case inr =>
    right;obtain ⟨s',hs',e⟩:=A4 hk (by omega) bad;rcases c1 with rfl | rfl
    · simp (disch:=first | omega | (simp only [aX,e0];omega)) only [fY hk,oQ hk,e,ac,aa,aJ,Pv]
    · simp (disch:=first | omega | (simp only [aX,e0];omega)) only [fY hk,oQ hk,e,ac,aa,aJ,Q7,Pr]
   have v4:=ao val.size;simp only [aX] at hs;have fin:(bif !seq t4 ⟨#[]⟩ then some (vN,(false,())) else bif !bg ((kd:Int),((b:Int),(key,(val,(0,(0,())))))) then some (vN,(false,())) else some (((kd:Int),((b:Int),(key,(val,(0,(0,())))))),(true,())))=dF.t k (br kd++(br b++(br key.size++(key++(br val.size++(val++t4)))))):=by
    unfold dF.t;rcases c1 with rfl | rfl
    · simp (disch:=first | omega | (simp only [aX,e0];omega)) only [fY hk,oQ hk,ac,aa,aJ,Pv,iu]
    · simp (disch:=first | omega | (simp only [aX,e0];omega)) only [fY hk,oQ hk,ac,aa,aJ,Q7,Pr,iu]
   change (∃ r,bg r=true∧aI r=_∧dF.t k _=some (r,(true,())))∨dF.t k _=some (vN,(false,()));rw [← fin];by_cases c:t4=⟨#[]⟩
   · subst c;simp only [bQ,fw,aJ];cases hr:bg ((kd:Int),((b:Int),(key,(val,(0,(0,())))))) with
     | true=>exact .inl ⟨_,hr,M_ hb c1 hr,rfl⟩
     | false=>exact .inr rfl
   · rw [kZ c];exact .inr rfl
 have d1:kd≠1:=fun q=>c1 (.inl q)
 have d4:kd≠4:=fun q=>c1 (.inr q)
 rcases kx t2 with ⟨c,t3,hc,rfl⟩ | h2
 case inr =>right;simp (disch:=first | omega | (simp only [aX,e0];omega)) only [fY hk,mq hk h2,tT k,rf0,ac,aa,aJ,PM d1,P1 c2,PH d4]
 have v3:=ao c;rw [aX] at hs;rcases Ah t3 with ⟨x,t4,hx,rfl⟩ | h3
 case inr =>right;have e:=tR k (s:=t3) (n:=4) (by omega);simp (disch:=first | omega | (simp only [aX,e0];omega)) only [fY hk,e,rf0,ac,aa,aJ,PM d1,P1 c2,PH d4]
 rw [ny] at hs;have hby:=t6 k (fF x) t4;rw [nY,show (((4:Nat)):Int)=4 from rfl] at hby;have hrf:=ql hk hx ⟨#[]⟩;rw [ii] at hrf;simp (disch:=first | omega | (simp only [aX,e0,nY];omega)) only [fY hk,hby,hrf,ac,aJ,PM d1,P1 c2,PH d4,iu];by_cases cc:t4=⟨#[]⟩
 · subst cc;simp only [bQ,fw,aJ];cases hr:bg ((kd:Int),((b:Int),(ByteArray.empty,(ByteArray.empty,((c:Int),((x:Int),())))))) with
   | true=>exact .inl ⟨_,hr,Ml hb hc ⟨d1,c2,d4⟩ hr,rfl⟩
   | false=>exact .inr rfl
 · rw [kZ cc];exact .inr rfl
theorem ky (a b:Nat):Int.toNat ((a:Int)+(b:Int))=a+b:=by omega
theorem vz (a:Nat):(((br a).size:Int)==0)=false:=qi (by have:=ao a;omega)
theorem qK (a:Nat) (t:ByteArray):br a++t≠⟨#[]⟩:=fun h=>by have:=congrArg ByteArray.size h;rw [aX,e0] at this;have:=ao a;omega
theorem qj {r:Ty.d bf} {s:ByteArray} (hs:s≠⟨#[]⟩) :
 (∃ r',bg r'=true∧aI r'=s∧(bif !seq (aI r) s then some (vN,(false,())) else bif seq s ⟨#[]⟩ then some (vN,(false,())) else some (r,(true,())))=some (r',(true,()))) ∨
 (bif !seq (aI r) s then some (vN,(false,())) else bif seq s ⟨#[]⟩ then some (vN,(false,())) else some (r,(true,())))=some (vN,(false,())):=by
 by_cases c:aI r=s
 · exact .inl ⟨r,Hy c hs,c,by rw [Gp c,kZ hs];rfl⟩
 · rw [kZ c];exact .inr rfl
theorem Bh {k:Nat} (hk:2 ^ 50≤k) {a:Ty.d bf} (h:bg a=true):iR.f k (aI a)=some (a,(true,())):=by
 unfold iR.f iR.t;rcases D1 h with ⟨b,kd,hc,hb,ha,z1,z2,e⟩ | ⟨b,hb,ha,z1,e⟩ | ⟨b,kd,c,x,hc,hb,z1,z2,ha,e⟩
 · have hs:aI ((kd:Int),((b:Int),(a.2.2.1,(a.2.2.2.1,(0,(0,()))))))=br kd++(br b++(br a.2.2.1.size++(a.2.2.1++(br a.2.2.2.1.size++(a.2.2.2.1++⟨#[]⟩))))):=by rw [← ha];exact e
   rw [e]
   conv=>rhs;rw [ha]
   have v1:=ao kd;have v2:=ao b;have v3:=ao a.2.2.1.size;have v4:=ao a.2.2.2.1.size;rcases hc with rfl | rfl
   · simp (disch:=first | omega | (simp only [aX,e0];omega)) only [dN hk,D8 hk,ac,s5,gS,vz,aa,aJ,aF,d7,ky,t_,Pv,g8 hk,hs,bQ,fw,kZ (qK _ _)]
   · simp (disch:=first | omega | (simp only [aX,e0];omega)) only [dN hk,D8 hk,ac,s5,gS,vz,aa,aJ,aF,d7,ky,t_,Q7,Pr,g8 hk,hs,bQ,fw,kZ (qK _ _)]
 · have hs:aI (((2:Nat):Int),((b:Int),(a.2.2.1,(ByteArray.empty,(0,(0,()))))))=br 2++(br b++(br a.2.2.1.size++(a.2.2.1++⟨#[]⟩))):=by rw [show ((2:Nat):Int)=2 from rfl,← ha];exact e
   rw [e]
   conv=>rhs;rw [ha]
   have v1:=ao 2;have v2:=ao b;have v3:=ao a.2.2.1.size;simp (disch:=first | omega | (simp only [aX,e0];omega)) only [dN hk,D8 hk,ac,s5,gS,vz,aa,aJ,aF,d7,ky,t_,QW,QZ,Po,g8 hk,hs,bQ,fw,kZ (qK _ _)];rfl
 · have hs:aI ((kd:Int),((b:Int),(ByteArray.empty,(ByteArray.empty,((c:Int),((x:Int),()))))))=br kd++(br b++(br c++(fF x++⟨#[]⟩))):=by rw [← ha];exact e
   rw [e,ha];have v1:=ao kd;have v2:=ao b;have v3:=ao c;have v4:=nY x;simp (disch:=first | omega | (simp only [aX,e0];omega)) only [dN hk,qc hk z2,ac,s5,gS,vz,aa,aJ,aF,d7,ky,t_,PM,P1,PH,g8 hk,hs,bQ,fw,kZ (qK _ _)]
theorem yK {k:Nat} (hk:2 ^ 50≤k) {s:ByteArray} (hs:s.size≤1099511627776) :
 (∃ r,bg r=true∧aI r=s∧iR.f k s=some (r,(true,())))∨iR.f k s=some (vN,(false,())):=by
 unfold iR.f iR.t;rcases kx s with ⟨kd,t,hkd,rfl⟩ | h0
 case inr =>right;rw [kp hk h0,ac];simp only [];rw [d7 (by omega) (by omega),pE hk,ac];rfl
 have v1:=ao kd;rw [aX] at hs;rcases kx t with ⟨b,t2,hb,rfl⟩ | h1
 case inr =>right;simp (disch:=first | omega | (simp only [aX,e0];omega)) only [dN hk,kp hk h1,ac,s5,gS,vz,aa,aJ,aF,d7,show (((0:Int)==0))=true from rfl]
 have v2:=ao b;rw [aX] at hs;by_cases c2:kd=2
 · subst c2;rcases qf t2 with ⟨key,t3,hu,rfl⟩ | bad
   · simp only [aX] at hs;simp (disch:=first | omega | (simp only [aX,e0];omega)) only [dN hk,D8 hk,ac,s5,gS,vz,aa,aJ,aF,d7,ky,t_,QW,QZ,Po,g8 hk];exact qj (qK _ _)
   · have hb5:=EA hk (by omega) bad;simp (disch:=first | omega | (simp only [aX,e0];omega)) only [dN hk,hb5,ac,s5,gS,vz,aa,aJ,aF,d7,ky,t_,QW,QZ,Po,g8 hk];exact qj (qK _ _)
 by_cases c1:kd=1∨kd=4
 · have em:f_.f k ⟨#[]⟩=some (⟨#[]⟩,(⟨#[]⟩,(false,()))):=EA hk (by decide) (.inl rfl);obtain ⟨u,l,bb,hl,e⟩:∃ u l bb,l.size≤1099511627776∧f_.f k t2=some (u,(l,(bb,()))):=by
    rcases qf t2 with ⟨key,t3,hu,rfl⟩ | bad
    · simp only [aX] at hs;exact ⟨_,_,_,by omega,D8 hk hu (by simp only [aX];omega)⟩
    · exact ⟨_,_,_,by decide,EA hk (by omega) bad⟩
   obtain ⟨u2,l2,bb2,e2⟩:∃ u l' bb,f_.f k l=some (u,(l',(bb,()))):=by
    rcases qf l with ⟨key,t3,hu,rfl⟩ | bad
    · exact ⟨_,_,_,D8 hk hu (by simp only [aX] at hl ⊢;omega)⟩
    · exact ⟨_,_,_,EA hk hl bad⟩
   rcases c1 with rfl | rfl
   · simp (disch:=first | omega | (simp only [aX,e0];omega)) only [dN hk,e,e2,ac,s5,gS,vz,aa,aJ,aF,d7,ky,t_,Pv,g8 hk];exact qj (qK _ _)
   · simp (disch:=first | omega | (simp only [aX,e0];omega)) only [dN hk,e,e2,ac,s5,gS,vz,aa,aJ,aF,d7,ky,t_,Q7,Pr,g8 hk];exact qj (qK _ _)
 have d1:kd≠1:=fun q=>c1 (.inl q)
 have d4:kd≠4:=fun q=>c1 (.inr q)
 have rf:∀ u:ByteArray,∃ z zb,cm.f k u 4=some (z,(zb,())):=fun u=>by
  rcases Ah u with ⟨x,t,hx,rfl⟩ | q
  · exact ⟨_,_,qc hk hx t⟩
  · exact ⟨_,_,vQ k q⟩
 rcases kx t2 with ⟨c,t3,hc,rfl⟩ | h2
 · have v3:=ao c;rw [aX] at hs;obtain ⟨z,zb,e⟩:=rf t3;simp (disch:=first | omega | (simp only [aX,e0];omega)) only [dN hk,e,ac,s5,gS,vz,aa,aJ,aF,d7,ky,t_,PM d1,P1 c2,PH d4,g8 hk];exact qj (qK _ _)
 · obtain ⟨z,zb,e⟩:=rf (ByteArray.extract t2 (Int.toNat 0) t2.size);simp (disch:=first | omega | (simp only [aX,e0];omega)) only [dN hk,kp hk h2,e,ac,s5,gS,vz,aa,aJ,aF,d7,ky,t_,PM d1,P1 c2,PH d4,g8 hk];exact qj (qK _ _)
noncomputable def jL (s:ByteArray):Ty.d bf × Bool:=qC (fun r=>bg r=true) aI vN s
theorem tI {k:Nat} (hk:2 ^ 50≤k) {s:ByteArray} (hs:s.size≤1099511627776):dF.f k s=some ((jL s).1,((jL s).2,())) :=
 uC (fun r h1 h2=>by rw [← h2];exact qD hk h1) (yL hk hs)
theorem zX {k:Nat} (hk:2 ^ 50≤k) {s:ByteArray} (hs:s.size≤1099511627776):iR.f k s=some ((jL s).1,((jL s).2,())) :=
 uC (fun r h1 h2=>by rw [← h2];exact Bh hk h1) (yK hk hs)
theorem Fl {a b:Ty.d bf} (ha:bg a=true) (hb:bg b=true) (h:aI a=aI b):a=b:=by have h1:=qD (k:=2 ^ 50) (Nat.le_refl _) ha;rw [h,qD (Nat.le_refl _) hb] at h1;exact (Prod.mk.inj (Option.some.inj h1)).1.symm
theorem vh {a:Ty.d bf} (h:bg a=true):jL (aI a)=(a,true):=EO (fun _ _ ha hb=>Fl ha hb) h
theorem zW {s:ByteArray} {r:Ty.d bf} (h:jL s=(r,true)):bg r=true∧aI r=s:=yn h
theorem rW {t:ByteArray} (h:t.size≤200):∃ x,x<4294967296∧aS t=fF x++(br t.size++t):=by have:=vZ (js t);refine ⟨(tB (js t)).toNat,by omega,?_⟩;unfold aS vY;rw [if_neg (by omega)];unfold js;rw [dj (by omega)]
theorem Ks {t u s r:ByteArray} (ht:t.size≤200) (hu:u.size≤200) (h:aS t++s=aS u++r):t=u∧s=r:=by obtain ⟨x,hx,e⟩:=rW ht;obtain ⟨y,hy,f⟩:=rW hu;rw [e,f,bh,bh,bh,bh] at h;have h2:=(tM h rfl).2;obtain ⟨h3,h4⟩:=zc (by omega) (by omega) h2;exact tM h4 h3
theorem Ck (x:Nat) (u:ByteArray):ByteArray.extract (fF x++u) 4 (fF x++u).size=u:=gS (fF x) u
theorem Qr (x:Nat) (v t r:ByteArray):ByteArray.extract (fF x++(v++(t++r))) (4+v.size) (4+v.size+t.size)=t:=by have:=RV (fF x++v) t r;rw [aX,nY,bh] at this;exact this
theorem PD (x:Nat) (v t r:ByteArray):ByteArray.extract (fF x++(v++(t++r))) 0 (4+v.size+t.size)=fF x++(v++t):=by have:=AE (fF x++(v++t)) r;rw [aX,aX,nY,bh,bh,← Nat.add_assoc] at this;exact this
theorem c4 (a:Nat):(4:Int)+(a:Int)=((4+a:Nat):Int):=rfl
theorem B3 {k:Nat} (hk:2 ^ 50≤k) {x:Nat} {t r:ByteArray} (ht:t.size≤200) (hr:t.size+r.size≤1099511627776) :
 eC.f k (fF x++(br t.size++(t++r)))=bif !seq (aS t) (fF x++(br t.size++t)) then some (⟨#[]⟩,(0,())) else some (t,(((4+(br t.size).size+t.size:Nat):Int),())):=by
 have v1:=ao t.size;have z1:(fF x++(br t.size++(t++r))).size=4+((br t.size).size+(t.size+r.size)):=by rw [ny,aX,aX]
 unfold eC.f eC.t;rw [aY (by omega),aJ,d7 (by omega) (by omega),Ck,pN hk (by omega) (by rw [aX];omega),ac];simp only [vz,aJ];rw [aY (by omega),aJ,aF (n:=((fF x++(br t.size++(t++r))).size:Int)-4) (by omega) (by omega),aF (n:=((fF x++(br t.size++(t++r))).size:Int)-4-_) (by omega) (by omega),aY (by omega),aJ,
  c4,aF (by omega) (by omega),A_,aF (by omega) (by omega),yu (by omega) (by omega) (by omega),s5,s5,Qr,oL hk,ac,d7 (by omega) (by omega),PD]
theorem Ak {k:Nat} (hk:2 ^ 50≤k) {x:Nat} {t r:ByteArray} (ht:t.size≤200) (hr:t.size+r.size≤1099511627776) :
 iy.f k (fF x++(br t.size++(t++r)))=bif !seq (aS t) (fF x++(br t.size++t)) then some (⟨#[]⟩,(0,())) else some (t,(((4+(br t.size).size+t.size:Nat):Int),())):=by
 have v1:=ao t.size;have z1:(fF x++(br t.size++(t++r))).size=4+((br t.size).size+(t.size+r.size)):=by rw [ny,aX,aX]
 unfold iy.f iy.t;rw [aY (by omega),aJ,d7 (by omega) (by omega),Ck,dN hk (by omega),ac];simp only [vz,aJ];rw [aY (by omega),aJ,aF (n:=((fF x++(br t.size++(t++r))).size:Int)-4) (by omega) (by omega),aF (n:=((fF x++(br t.size++(t++r))).size:Int)-4-_) (by omega) (by omega),aY (by omega),aJ,
  c4,aF (by omega) (by omega),A_,aF (by omega) (by omega),yu (by omega) (by omega) (by omega),s5,s5,Qr,E_ hk,d7 (by omega) (by omega),ac,PD,
  show seq (fF x++(br t.size++t)) (aS t)=seq (aS t) (fF x++(br t.size++t)) by rw [Is,Is];exact decide_eq_decide.2 ⟨Eq.symm,Eq.symm⟩]
theorem Kx (s:ByteArray) (hs:s.size≤1099511627776):(∃ x t r,x<4294967296∧t.size≤200∧t.size+r.size≤1099511627776∧s=fF x++(br t.size++(t++r)))∨s.size<5∨(∃ x u,x<4294967296∧s=fF x++u∧1≤u.size∧rv 7 (nb u)=none) ∨
 (∃ x a u,x<4294967296∧a<562949953421312∧s=fF x++(br a++u)∧(200<a∨u.size<a)):=by
 rcases Ah s with ⟨x,u,hx,rfl⟩ | h
 · rw [ny] at hs;rcases kx u with ⟨a,v,ha,rfl⟩ | h
   · rw [aX] at hs;by_cases c:200<a∨v.size<a
     · exact .inr (.inr (.inr ⟨x,a,v,hx,ha,rfl,c⟩))
     · left;have e:=wH v (n:=a) (by omega);have hz:(ByteArray.extract v 0 a).size=a:=by rw [← df,lY,List.length_take,df];omega
       refine ⟨x,ByteArray.extract v 0 a,ByteArray.extract v a v.size,hx,by omega,?_,by rw [hz,← e]⟩;have:=congrArg ByteArray.size e;rw [aX] at this;omega
   · by_cases c:1≤u.size
     · exact .inr (.inr (.inl ⟨x,u,hx,rfl,c,h⟩))
     · exact .inr (.inl (by rw [ny];omega))
 · exact .inr (.inl (by omega))
theorem yN {k:Nat} (hk:2 ^ 50≤k) {s:ByteArray} (hs:s.size≤1099511627776) (h:s.size<5∨(∃ x u,x<4294967296∧s=fF x++u∧1≤u.size∧rv 7 (nb u)=none) ∨
 (∃ x a u,x<4294967296∧a<562949953421312∧s=fF x++(br a++u)∧(200<a∨u.size<a))):eC.f k s=some (⟨#[]⟩,(0,())):=by
 unfold eC.f eC.t;rcases h with h | ⟨x,u,hx,rfl,hu,h⟩ | ⟨x,a,u,hx,ha,rfl,h⟩
 · by_cases c:s.size<4
   · rw [aW (by omega),aa]
   · have e:ByteArray.extract s 4 s.size=⟨#[]⟩:=kh (by rw [jK,List.drop_eq_nil_of_le (by rw [df];omega)];rfl);rw [aY (by omega),aJ,d7 (by omega) (by omega),e,oB hk rfl (by decide),ac];rfl
 · rw [ny] at hs;rw [aY (by rw [ny];omega),aJ,d7 (by omega) (by rw [ny];omega),Ck,oB hk h (by omega),ac];rfl
 · have v1:=ao a;have z1:(fF x++(br a++u)).size=4+((br a).size+u.size):=by rw [ny,aX]
   rw [aY (by omega),aJ,d7 (by omega) (by omega),Ck,pN hk ha (by omega),ac];simp only [vz,aJ];by_cases c:200<a
   · rw [aW (by omega),aa]
   · rw [aY (by omega),aJ,aF (n:=((fF x++(br a++u)).size:Int)-4) (by omega) (by omega),aF (n:=((fF x++(br a++u)).size:Int)-4-_) (by omega) (by omega),aW (by omega),aa]
theorem yX {k:Nat} (hk:2 ^ 50≤k) {s:ByteArray} (hs:s.size≤1099511627776) (h:s.size<5∨(∃ x u,x<4294967296∧s=fF x++u∧1≤u.size∧rv 7 (nb u)=none) ∨
 (∃ x a u,x<4294967296∧a<562949953421312∧s=fF x++(br a++u)∧(200<a∨u.size<a))):iy.f k s=some (⟨#[]⟩,(0,())):=by
 unfold iy.f iy.t;rcases h with h | ⟨x,u,hx,rfl,hu,h⟩ | ⟨x,a,u,hx,ha,rfl,h⟩
 · rw [aW (by omega),aa]
 · rw [ny] at hs;rw [aY (by rw [ny];omega),aJ,d7 (by omega) (by rw [ny];omega),Ck,kp hk h,ac];rfl
 · have v1:=ao a;have z1:(fF x++(br a++u)).size=4+((br a).size+u.size):=by rw [ny,aX]
   rw [aY (by omega),aJ,d7 (by omega) (by omega),Ck,dN hk ha,ac];simp only [vz,aJ];by_cases c:200<a
   · rw [aW (by omega),aa]
   · rw [aY (by omega),aJ,aF (n:=((fF x++(br a++u)).size:Int)-4) (by omega) (by omega),aF (n:=((fF x++(br a++u)).size:Int)-4-_) (by omega) (by omega),aW (by omega),aa]
section
open Classical
noncomputable def iG (s:ByteArray):ByteArray × Int:=if h:∃ t r,t.size≤200∧s=aS t++r then (h.choose,((aS h.choose).size:Int)) else (⟨#[]⟩,0)
theorem oe {t:ByteArray} (r:ByteArray) (h:t.size≤200):iG (aS t++r)=(t,((aS t).size:Int)):=by have q:∃ u v,u.size≤200∧aS t++r=aS u++v:=⟨t,r,h,rfl⟩;unfold iG;rw [dif_pos q];obtain ⟨v,h1,h2⟩:=q.choose_spec;have:=(Ks h h1 h2).1;rw [← this]
theorem nR (s:ByteArray):(∃ t r,t.size≤200∧s=aS t++r∧iG s=(t,((aS t).size:Int)))∨(iG s=(⟨#[]⟩,0)∧∀ t r,t.size≤200→s≠aS t++r):=by
 by_cases q:∃ t r,t.size≤200∧s=aS t++r
 · obtain ⟨t,r,h,rfl⟩:=q;exact .inl ⟨t,r,h,rfl,oe r h⟩
 · right;refine ⟨?_,fun t r h e=>q ⟨t,r,h,e⟩⟩;unfold iG;rw [dif_neg q]
end
theorem PC {k:Nat} {f:ByteArray→Option (ByteArray × Int × Unit)} (h1:∀ x t r,x<4294967296→t.size≤200→t.size+r.size≤1099511627776→f (fF x++(br t.size++(t++r)))=bif !seq (aS t) (fF x++(br t.size++t)) then some (⟨#[]⟩,(0,())) else some (t,(((4+(br t.size).size+t.size:Nat):Int),())))
 (h2:∀ s,s.size≤1099511627776→(s.size<5∨(∃ x u,x<4294967296∧s=fF x++u∧1≤u.size∧rv 7 (nb u)=none)∨(∃ x a u,x<4294967296∧a<562949953421312∧s=fF x++(br a++u)∧(200<a∨u.size<a)))→f s=some (⟨#[]⟩,(0,())))
 {s:ByteArray} (hs:s.size≤1099511627776):f s=some ((iG s).1,((iG s).2,())):=by
 rcases Kx s hs with ⟨x,t,r,hx,ht,hr,rfl⟩ | h
 · rw [h1 x t r hx ht hr];by_cases c:aS t=fF x++(br t.size++t)
   · have e:fF x++(br t.size++(t++r))=aS t++r:=by rw [c,bh,bh]
     rw [Gp c,e,oe r ht,c,ny,aX,Nat.add_assoc];rfl
   · rw [kZ c];rcases nR (fF x++(br t.size++(t++r))) with ⟨t',r',ht',e,_⟩ | ⟨e,_⟩
     · exfalso;obtain ⟨y,hy,f'⟩:=rW ht';rw [f',bh,bh] at e;have h3:=tM e rfl;obtain ⟨h4,h5⟩:=zc (by omega) (by omega) h3.2;have h6:=tM h5 h4;apply c;rw [h6.1,f',h3.1]
     · rw [e];rfl
 · rw [h2 s hs h];rcases nR s with ⟨t',r',ht',e,_⟩ | ⟨e,_⟩
   · exfalso;obtain ⟨y,hy,f'⟩:=rW ht';have hp:=li ht';rw [f',bh,bh] at e;rcases h with h | ⟨x,u,hx,e2,hu,h⟩ | ⟨x,a,u,hx,ha,e2,h⟩
     · rw [e,ny,aX] at h;have:=ao t'.size;omega
     · rw [e2] at e;rw [(tM e rfl).2,B4 (by omega)] at h;cases h
     · rw [e2] at e;obtain ⟨h4,h5⟩:=zc ha (by omega) (tM e rfl).2;rw [h5,h4,aX] at h;omega
   · rw [e]
theorem mz {k:Nat} (hk:2 ^ 50≤k) {s:ByteArray} (hs:s.size≤1099511627776):eC.f k s=some ((iG s).1,((iG s).2,())) :=
 PC (k:=k) (fun x t r _ ht hr=>B3 hk ht hr) (fun s hs h=>yN hk hs h) hs
theorem zv {k:Nat} (hk:2 ^ 50≤k) {s:ByteArray} (hs:s.size≤1099511627776):iy.f k s=some ((iG s).1,((iG s).2,())) :=
 PC (k:=k) (fun x t r _ ht hr=>Ak hk ht hr) (fun s hs h=>yX hk hs h) hs
theorem oh (s:ByteArray):(iG s).1.size≤200∧((iG s).2=0∨5≤(iG s).2)∧(iG s).2≤s.size∧(iG s).2≤211:=by
 rcases nR s with ⟨t,r,h,rfl,e⟩ | ⟨e,_⟩
 · rw [e,aX];have:=li h;have:=mT t;refine ⟨h,?_,?_,?_⟩ <;> simp only [] <;> omega
 · rw [e];refine ⟨by simp only [e0];omega,.inl rfl,by simp only [];omega,by simp only [];omega⟩
theorem yq:iG ⟨#[]⟩=(⟨#[]⟩,0):=by
 rcases nR ⟨#[]⟩ with ⟨t,r,h,e,_⟩ | ⟨e,_⟩
 · have:=congrArg ByteArray.size e;rw [aX,e0] at this;have:=li h;omega
 · exact e
noncomputable def gH (s:ByteArray):Nat→Int→List (Ty.d d_) × Int
 | 0,at_=>([],at_)
 | d+1,at_ =>
  if (iG (ByteArray.extract s at_.toNat s.size)).2=0 then ([],at_)
  else if (jL (iG (ByteArray.extract s at_.toNat s.size)).1).2=false then ([],at_)
  else (((at_,((iG (ByteArray.extract s at_.toNat s.size)).2,((jL (iG (ByteArray.extract s at_.toNat s.size)).1).1,()))):Ty.d d_)::(gH s d (at_+(iG (ByteArray.extract s at_.toNat s.size)).2)).1,
   (gH s d (at_+(iG (ByteArray.extract s at_.toNat s.size)).2)).2)
noncomputable def c_ (s:ByteArray):List (Ty.d d_) × Int:=gH s (s.size+1) 0
theorem sZ (s:ByteArray) (n:Nat):(ByteArray.extract s n s.size).size=s.size-n:=by rw [← df,jK,List.length_drop,df]
theorem Qt {k:Nat} (hk:2 ^ 50≤k) {s:ByteArray} (hs:s.size≤1099511627776):∀ (d n:Nat) (i:Int) (out:List (Ty.d d_)),0≤i→i≤s.size→(s.size:Int)-i<d→d≤n→(out.length:Int)≤i →
 dL.l0 k n s i out=some (out++(gH s d i).1,((gH s d i).2,()))∧gj.l0 k n s i out=some (out++(gH s d i).1,((gH s d i).2,())):=by
 intro d
 induction d with
 | zero=>intro n i out h0 h1 h2;omega
 | succ d ih =>
  intro n i out h0 h1 h2 h3 h4;obtain ⟨n,rfl⟩:∃ q,n=q+1:=⟨n-1,by omega⟩;have hz:=sZ s i.toNat;have hu:=oh (ByteArray.extract s i.toNat s.size);have e1:=mz hk (s:=ByteArray.extract s i.toNat s.size) (by omega);have e2:=zv hk (s:=ByteArray.extract s i.toNat s.size) (by omega);have hnil:i=s.size→(iG (ByteArray.extract s i.toNat s.size)).2=0:=fun q=>by have:ByteArray.extract s i.toNat s.size=⟨#[]⟩:=kh (by rw [jK,List.drop_eq_nil_of_le (by rw [df];omega)];rfl);rw [this,yq]
  simp only [gH];generalize iG (ByteArray.extract s i.toNat s.size)=u at *;have e3:=tI hk (s:=u.1) (by omega);have e4:=zX hk (s:=u.1) (by omega);generalize jL u.1=r at *;by_cases c:u.2=0
  · rw [if_pos c];have cb:(u.2==0)=true:=by rw [c];rfl
    simp only [List.append_nil];constructor
    · simp (disch:=omega) only [dL.l0,dL.b0,d7,e1,e3,ac,cb,aa]
    · by_cases q:i<s.size
      · simp (disch:=omega) only [gj.l0,gj.b0,aW,d7,e2,e4,ac,cb,aa]
      · simp (disch:=omega) only [gj.l0,gj.b0,aY,aJ]
  · rw [if_neg c];have cb:(u.2==0)=false:=qi c;have hlt:i<s.size:=by
     rcases Int.lt_or_eq_of_le h1 with q | q
     · exact q
     · exact absurd (hnil q) c
    cases hr:r.2 with
    | false =>
     simp only [if_true,List.append_nil];constructor
     · simp (disch:=omega) only [dL.l0,dL.b0,d7,e1,e3,ac,cb,aa,aJ,hr,ue]
     · simp (disch:=omega) only [gj.l0,gj.b0,aW,d7,e2,e4,ac,cb,aa,aJ,hr,ue]
    | true =>
     rw [if_neg (by decide)];have hlen:out.length+1≤1099511627777:=by omega
     have ih:=ih n (i+u.2) (out++[(i,(u.2,(r.1,())))]) (by omega) (by omega) (by omega) (by omega) (by rw [nE];show ((out.length+1:Nat):Int)≤_;omega);simp only [oK,List.cons_append,List.nil_append] at ih;constructor
     · simp (disch:=first | omega | decide) only [dL.l0,dL.b0,d7,e1,e3,ac,cb,aa,aJ,hr,fw,bn,aF];exact ih.1
     · simp (disch:=first | omega | decide) only [gj.l0,gj.b0,aW,d7,e2,e4,ac,cb,aa,aJ,hr,fw,bn,aF];exact ih.2
theorem sx {k:Nat} (hk:2 ^ 50≤k) {s:ByteArray} (hs:s.size≤1099511627775):dL.f k s=some ((c_ s).1,((c_ s).2,())) :=
 (Qt hk (by omega) (s.size+1) k 0 [] (by omega) (by omega) (by omega) (by omega) (by simp)).1
theorem wn (s:ByteArray):∀ (d:Nat) (i:Int),0≤i→i≤s.size→((gH s d i).1.length:Int)≤s.size-i∧i≤(gH s d i).2∧(gH s d i).2≤s.size
 | 0,i,h0,h1=>by simp only [gH,List.length_nil];omega
 | d+1,i,h0,h1=>by
  have hu:=oh (ByteArray.extract s i.toNat s.size);have hz:=sZ s i.toNat;rw [gH];split
  · simp only [List.length_nil];omega
  · split
    · simp only [List.length_nil];omega
    · rename_i c1 c2;have ih:=wn s d (i+(iG (ByteArray.extract s i.toNat s.size)).2) (by omega) (by omega);simp only [j7];omega
theorem na (s:ByteArray):(c_ s).1.length≤s.size∧0≤(c_ s).2∧(c_ s).2≤s.size:=by have:=wn s (s.size+1) 0 (by omega) (by omega);unfold c_;omega
theorem OX (d:Nat) {a:Nat} (h:a<128):(vl d a).length=1:=by
 cases d with
 | zero=>rfl
 | succ d=>unfold vl;rw [if_neg (by omega)];rfl
theorem Nr {a:Nat} (h:a<2097152):(vl 6 a).length≤3:=by
 unfold vl;split
 · rw [j7];unfold vl;split
   · rw [j7,OX 4 (by omega)];omega
   · simp
 · simp
theorem ul {a:Int} (h0:0≤a) (h1:a≤100000):(jo a).size≤3:=by obtain ⟨n,rfl⟩:=Int.eq_ofNat_of_zero_le h0;rw [dj (by omega),← sb (by omega)];exact Nr (by omega)
def jg:List Int→ByteArray
 | []=>⟨#[]⟩
 | x::l=>jo x++jg l
theorem xz:∀ (l:List Int),(∀ x ∈ l,0≤x∧x≤100000)→(jg l).size≤3*l.length
 | [],_=>Nat.le_refl _
 | x::l,h=>by
  have h1:=ul (h x (il ..)).1 (h x (il ..)).2;have h2:=xz l fun y hy=>h y (kS _ hy)
  rw [jg,aX,j7];omega
theorem qx:∀ (l:List Int),(jg l).size≤7*l.length
 | []=>Nat.le_refl _
 | x::l=>by have h1:=bN x;have h2:=qx l;rw [jg,aX,j7];omega
def rp (v:Ty.d cv):ByteArray:=jo v.1++(jo (v.2.1.length:Int)++jg v.2.1)
def cA (v:Ty.d cv):ByteArray:=if dz v=true then aS (rp v) else ⟨#[]⟩
theorem bo {nx:Int} {ids:List Int} (h:dz (nx,(ids,()))=true):1≤nx∧nx≤100000∧1≤ids.length∧ids.length≤60∧∀ x ∈ ids,0≤x∧x≤100000:=by unfold dz at h;simp only [iE,decide_eq_true_eq] at h;obtain ⟨h1,h2,h3⟩:=h;have h1a:1≤nx:=h1.1;have h1b:nx≤100000:=h1.2;refine ⟨h1a,h1b,by omega,by omega,fun x hx=>?_⟩;obtain ⟨p,hp⟩:=Dx h3 hx;unfold qd at hp;rw [iE,decide_eq_true_eq] at hp;have hw:aQ (nx-1)=nx-1:=aF (by omega) (by omega);have h4:x≤aQ (nx-1):=hp.1.2;have h5:1≤x:=hp.1.1;omega
theorem I0 {nx:Int} {ids:List Int} (h:dz (nx,(ids,()))=true):(rp (nx,(ids,()))).size≤200:=by obtain ⟨h1,h2,h3,h4,h5⟩:=bo h;have a:=ul (a:=nx) (by omega) h2;have b:=ul (a:=(ids.length:Int)) (by omega) (by omega);have c:=xz ids h5;unfold rp;rw [aX,aX];simp only [];omega
noncomputable def lp (s:ByteArray):Ty.d cv × Bool:=qC (fun v=>dz v=true) cA (0,([],())) s
def PN:Option (Ty.d cv × Bool × Unit):=some ((0,([],())),(false,()))
theorem zL {x:Int} (h0:0≤x) (h1:x≤100000):∃ n:Nat,n<562949953421312∧x=(n:Int)∧jo x=br n:=by obtain ⟨n,rfl⟩:=Int.eq_ofNat_of_zero_le h0;exact ⟨n,by omega,rfl,dj (by omega)⟩
def PP (s:ByteArray) (m a:Int) (out:List Int) (r:ByteArray) (bad:Bool):Option (Ty.d cv × Bool × Unit) :=
 bif m==0 then PN else bif m != (s.size:Int) then PN else bif bad then PN else bif !seq r ⟨#[]⟩ then PN else bif !dz (a,(out,())) then PN else some ((a,(out,())),(true,()))
theorem yt {k:Nat} (hk:2 ^ 50≤k) {s r:ByteArray} {m a:Int} {out:List Int} {bad:Bool} (ho:out.length≤1099511627776) :
 @Eq (Option (Ty.d cv × Bool × Unit)) (bif (m==0) then (some ((0,([],())),(false,()))) else (bif (m != (ByteArray.size s:Int)) then (some ((0,([],())),(false,()))) else (bif bad then (some ((0,([],())),(false,()))) else (bif (!(seq r (⟨#[]⟩:ByteArray))) then (some ((0,([],())),(false,()))) else (Option.bind (dM.f k (a,(out,()))) fun r5=>(bif (!r5.1) then (some ((0,([],())),(false,()))) else (some ((a,(out,())),(true,()))))))))) (PP s m a out r bad):=by
 rw [ss hk (v:=(a,(out,()))) ho];rfl
theorem Fa {k:Nat} (hk:2 ^ 50≤k) {s:ByteArray} (m a:Int):∀ (ids:List Int) (n:Nat) (j c:Int) (out:List Int),(∀ x ∈ ids,0≤x∧x≤100000)→ids.length<n→0≤j→c=j+ids.length→c≤60→(out.length:Int)≤j →
 bA.l0 k n s m c j [] 0 (jg ids) false out a=PP s m a (out++ids) ⟨#[]⟩ false:=by
 intro ids
 induction ids with
 | nil =>intro n j c out h hn h0 hc h1 ho;obtain ⟨n,rfl⟩:∃ q,n=q+1:=⟨n-1,by omega⟩;rw [List.length_nil] at hc;simp only [bA.l0,bA.b0];rw [aY (show ¬ j<c by omega),aJ,List.append_nil];exact yt hk (bad:=false) (by omega)
 | cons x ids ih =>intro n j c out h hn h0 hc h1 ho;rw [j7] at hn hc;obtain ⟨n,rfl⟩:∃ q,n=q+1:=⟨n-1,by omega⟩;obtain ⟨b,hb,hx,hv⟩:=zL (h x (il ..)).1 (h x (il ..)).2;have hts:=qx ids;have ih:=ih n (j+1) c (out++[x]) (fun y hy=>h y (kS _ hy)) (by omega) (by omega) (by omega) h1 (by rw [dt];omega);simp only [bA.l0,bA.b0];rw [aW (show j<c by omega),aa,ue,aa,show jg (x::ids)=br b++jg ids by rw [jg,hv],fY hk hb (by omega),ac];simp only [];rw [bn (by omega) (by decide),aF (by omega) (by omega),← hx,ih,oK];rfl
theorem p_ {k:Nat} (hk:2 ^ 50≤k) {nx:Int} {ids:List Int} (h:dz (nx,(ids,()))=true):bA.f k (cA (nx,(ids,())))=some ((nx,(ids,())),(true,())):=by
 obtain ⟨g1,g2,g3,g4,g5⟩:=bo h;have hz:=I0 h;have hf:=li hz;have hfs:=mT (rp (nx,(ids,())));have hu:=oe ⟨#[]⟩ hz;rw [ii] at hu;have e:cA (nx,(ids,()))=aS (rp (nx,(ids,()))):=if_pos h;obtain ⟨a,ha,hx,hv⟩:=zL (x:=nx) (by omega) g2;obtain ⟨b,hb,hy,hw⟩:=zL (x:=(ids.length:Int)) (by omega) (by omega);have ht:rp (nx,(ids,()))=br a++(br b++jg ids):=by unfold rp;rw [← hv,← hw]
 have hvs:=qx ids;have hvb:=ao b;have hl:=Fa hk (s:=cA (nx,(ids,()))) ((cA (nx,(ids,()))).size:Int) nx ids k 0 (b:Int) [] g5 (by omega) (by omega) (by omega) (by omega) (by simp);have hu1:iG (cA (nx,(ids,())))=(rp (nx,(ids,())),((cA (nx,(ids,()))).size:Int)):=by rw [e];exact hu
 unfold bA.f bA.t;rw [mz hk (by rw [e];omega),ac,hu1];simp only [];rw [ht,fY hk ha (by rw [aX];omega),ac];simp only [];rw [fY hk hb (by omega),ac];simp only [];rw [← hx,hl,List.nil_append];unfold PP;rw [show (((cA (nx,(ids,()))).size:Int)==0)=false from qi (by rw [e];omega),show (((cA (nx,(ids,()))).size:Int) != ((cA (nx,(ids,()))).size:Int))=false by simp,bQ,h];rfl
theorem DV {k:Nat} (hk:2 ^ 50≤k) {s:ByteArray} (m a c:Int):∀ (n:Nat) (rest:ByteArray) (j:Int) (out:List Int),rest.size+2≤n→0≤j→j≤c→c<562949953421312→out.length+rest.size≤1000000 →
 (∃ xs r,rest=jg xs++r∧(xs.length:Int)=c-j∧bA.l0 k n s m c j [] 0 rest false out a=PP s m a (out++xs) r false)∨(∃ o r,bA.l0 k n s m c j [] 0 rest false out a=PP s m a o r true):=by
 intro n
 induction n with
 | zero=>intro rest j out h1;omega
 | succ n ih =>
  intro rest j out h1 h2 h3 h4 h5;by_cases c1:j<c
  · rcases kx rest with ⟨b,t,hb,rfl⟩ | hbad
    · have hvb:=ao b;rw [aX] at h1 h5;have e:bA.l0 k (n+1) s m c j [] 0 (br b++t) false out a=bA.l0 k n s m c (j+1) [] 0 t false (out++[(b:Int)]) a:=by
       simp only [bA.l0,bA.b0];rw [aW c1,aa,ue,aa,fY hk hb (by omega),ac];simp only [];rw [bn (by omega) (by decide),aF (by omega) (by omega)]
      rw [e];rcases ih t (j+1) (out++[(b:Int)]) (by omega) (by omega) (by omega) h4 (by rw [dt];omega) with ⟨xs,r,g1,g2,g3⟩ | g
      · refine .inl ⟨(b:Int)::xs,r,?_,by rw [j7];omega,?_⟩
        · rw [jg,dj hb,g1,bh]
        · rw [g3,oK];rfl
      · exact .inr g
    · refine .inr ?_;obtain ⟨n,rfl⟩:∃ q,n=q+1:=⟨n-1,by omega⟩;refine ⟨out++[0],rest,?_⟩;simp only [bA.l0,bA.b0];rw [aW c1,aa,ue,aa,mq hk hbad (by omega),ac];simp only [];rw [bn (by omega) (by decide),aF (by omega) (by omega),fw,aJ];rw [yt hk (bad:=true) (by rw [dt];omega)];cases decide (j+1<c) <;> rfl
  · refine .inl ⟨[],rest,by rw [jg,oX],by rw [List.length_nil];omega,?_⟩;simp only [bA.l0,bA.b0];rw [aY c1,aJ,List.append_nil];exact yt hk (bad:=false) (by omega)
theorem JJ (s:ByteArray) (m a:Int) (o:List Int) (r:ByteArray):PP s m a o r true=PN:=by unfold PP;cases m==0 <;> cases m != (s.size:Int) <;> rfl
theorem wX {k:Nat} (hk:2 ^ 50≤k) (s:ByteArray) (m a c:Int) (r:ByteArray):bA.l0 k k s m c 0 [] 0 r true [] a=PN:=by
 obtain ⟨n,hn⟩:∃ q,k=q+1:=⟨k-1,by omega⟩;have e:bA.l0 k (n+1) s m c 0 [] 0 r true [] a=PN:=by simp only [bA.l0,bA.b0];rw [fw,aJ,yt hk (bad:=true) (by simp),JJ];cases decide (0<c) <;> rfl
 rw [← hn] at e;exact e
theorem yO {k:Nat} (hk:2 ^ 50≤k) {s:ByteArray} (hs:s.size≤1099511627776):bA.f k s=some ((lp s).1,((lp s).2,())):=by
 refine uC (fun v h1 h2=>?_) ?_
 · subst h2;exact p_ hk (nx:=v.1) (ids:=v.2.1) h1
 · unfold bA.f bA.t;rw [mz hk hs,ac];have hu:=oh s;have hc:=nR s;generalize iG s=u at hu hc;obtain ⟨t,m⟩:=u;simp only [] at hu ⊢;rcases kx t with ⟨a,t1,ha,e1⟩ | hb
   case inr =>rw [mq hk hb (by omega),ac];simp only [];rw [xx hk (by omega),ac];simp only [];rw [wX hk];exact .inr rfl
   have z1:t.size=(br a).size+t1.size:=by rw [e1,aX]
   rw [show aN.f k (t,(false,()))=some ((t1,(false,())),((a:Int),())) by rw [e1];exact fY hk ha (by omega),ac];simp only [];rcases kx t1 with ⟨c,t2,hcl,e2⟩ | hb
   case inr =>rw [mq hk hb (by omega),ac];simp only [];rw [wX hk];exact .inr rfl
   have z2:t1.size=(br c).size+t2.size:=by rw [e2,aX]
   rw [show aN.f k (t1,(false,()))=some ((t2,(false,())),((c:Int),())) by rw [e2];exact fY hk hcl (by omega),ac];simp only [];rcases DV hk (s:=s) m (a:Int) (c:Int) k t2 0 [] (by omega) (by omega) (by omega) (by omega) (by rw [List.length_nil];omega) with ⟨xs,r,g1,g2,g3⟩ | ⟨o,r,g⟩
   case inr=>rw [g,JJ];exact .inr rfl
   rw [g3,List.nil_append];unfold PP;by_cases c2:m=0
   case pos=>rw [show (m==0)=true from beq_iff_eq.2 c2];exact .inr rfl
   rw [show (m==0)=false from qi c2,aJ];by_cases c1:m=(s.size:Int)
   case neg=>rw [show (m != (s.size:Int))=true from bne_iff_ne.2 c1];exact .inr rfl
   rw [show (m != (s.size:Int))=false by rw [c1];simp,aJ,aJ];cases c3:seq r ⟨#[]⟩ with
   | false=>exact .inr rfl
   | true =>
    rw [fw,aJ];cases c4:dz ((a:Int),(xs,())) with
    | false=>exact .inr rfl
    | true =>
     refine .inl ⟨((a:Int),(xs,())),c4,?_,rfl⟩;have hr:=db.1 c3;subst hr;rw [ii] at g1;rcases hc with ⟨t',r',h1,h2,h3⟩ | ⟨h1,_⟩
     · obtain ⟨rfl,hm⟩:=Prod.mk.inj h3;have hr':r'=⟨#[]⟩:=by
        have hsz:=congrArg ByteArray.size h2;rw [aX] at hsz;have:r'.size=0:=by omega
        exact kh (by
         have hn:=df r';rw [this] at hn;rw [List.length_eq_zero_iff.1 hn];rfl)
       rw [h2,hr',ii];show cA ((a:Int),(xs,()))=aS t;rw [show cA ((a:Int),(xs,()))=aS (rp ((a:Int),(xs,()))) from if_pos c4];congr 1;rw [e1,e2,g1];unfold rp;simp only [];rw [dj ha,show (xs.length:Int)=(c:Int) by omega,dj hcl]
     · exact absurd (Prod.mk.inj h1).2 c2
end Go.Proofs.YtaaincbnjkmapaaGreatDoor.G
namespace Go.V
def Rq (n:Int):Prop := -999999999≤n∧n≤999999999
end Go.V
namespace Go.Proofs.YtaaincbnjkmapaaGreatDoor.G
open Go.V
noncomputable def ji (s:ByteArray):Int × Bool:=qC Rq kA 0 s
theorem ow (k:Nat) {s:ByteArray} (hs:s.size≤281474976710656):d5.f k s=some ((ji s).1,((ji s).2,())):=by
 unfold d5.f;rw [aW hs,aa];refine uC (fun n h1 h2=>?_) ?_
 · obtain ⟨g0,g1⟩:=h1;have he:s.data.toList=Go.Lib.itoa n:=by rw [← h2];unfold kA;rw [List.toList_toArray]
   rw [he,MC (by omega) (by omega)];unfold d5.r;simp only [];rw [show seq ⟨(Go.Lib.itoa n).toArray⟩ s=true from db.2 h2,aW ⟨g0,g1⟩];rfl
 · cases Go.Lib.atoiAll s.data.toList with
   | ok v =>
    unfold d5.r;simp only [];cases e:seq ⟨(Go.Lib.itoa v).toArray⟩ s&&decide (-999999999≤v∧v≤999999999) with
    | false=>exact .inr rfl
    | true =>rw [iE,decide_eq_true_eq] at e;exact .inl ⟨v,e.2,db.1 e.1,rfl⟩
   | _=>exact .inr rfl
theorem Gq {n:Int} (h:Rq n):ji (kA n)=(n,true):=EO (fun _ _ _ _ e=>BH e) h
def sD (s p:ByteArray):Bool:=decide (p.size≤s.size)&&seq (ByteArray.extract s 0 p.size) p
theorem Nj (s p:ByteArray):Go.Lib.hasPrefix s.data.toList p.data.toList=sD s p:=(Go.Lib.hasPrefix_raw s p).symm
theorem Nq {s p:ByteArray} (h:sD s p=true):p.size≤s.size:=by unfold sD at h;rw [iE,decide_eq_true_eq] at h;exact h.1
theorem GP (p t:ByteArray):sD (p++t) p=true:=by unfold sD;rw [aW (by rw [ByteArray.size_append];omega),AE,bQ];rfl
theorem As {s p:ByteArray} (h:sD s p=true):s=p++ByteArray.extract s p.size s.size:=by have hl:=Nq h;unfold sD at h;rw [iE] at h;have e:=db.1 h.2;have:=wH s hl;rw [e] at this;exact this
theorem vK (k:Nat) (s p:ByteArray):iU.f k s p=some (bif sD s p then ByteArray.extract s p.size s.size else s,(sD s p,())):=by
 unfold iU.f Go.Lib.trimPrefix;rw [Nj];cases sD s p with
 | false=>rfl
 | true =>
  have:(⟨(if true=true then List.drop p.data.toList.length s.data.toList else s.data.toList).toArray⟩:ByteArray)=ByteArray.extract s p.size s.size:=by rw [if_pos rfl];apply kh;rw [jK];unfold nb;rw [List.toList_toArray,List.map_drop,Array.length_toList];rfl
  rw [this];rfl
def yM (l:List Int) (x:Int):Bool:=l.any fun y=>y==x
def bO:ByteArray:=⟨#[104,105,110,116]⟩
def Qg (s:ByteArray) (n:Int):Prop:=1≤n∧n≤100000∧(s=aG++kA n∨s=bO++kA n)
theorem zf (a b:ByteArray):aG++a≠bO++b:=fun h=>by have:=congrArg nb h;rw [gw,gw,show nb aG=[115,101,103] from rfl,show nb bO=[104,105,110,116] from rfl] at this;simp at this
theorem OT {s:ByteArray} {n m:Int} (h:Qg s n) (g:Qg s m):n=m:=by
 rcases h.2.2 with h1 | h1 <;> rcases g.2.2 with g1 | g1
 · exact BH (um (h1.symm.trans g1))
 · exact absurd (h1.symm.trans g1) (zf _ _)
 · exact absurd (g1.symm.trans h1) (zf _ _)
 · exact BH (um (h1.symm.trans g1))
noncomputable def NY (s:ByteArray):Int × Bool:=qC (Qg s) (fun _=>s) 0 s
theorem Mw (n:Int):0<(kA n).size:=by
 rw [← df,pu];split
 · rw [j7];omega
 · rw [List.length_map];exact List.length_pos_iff.2 (rY _)
theorem C1 (s:ByteArray) (n:Nat):(ByteArray.extract s n s.size).size=s.size-n:=by rw [← df,jK,List.length_drop,df]
noncomputable def Bp (s p:ByteArray):Option (Int × Bool × Unit) :=
 bif sD s p&&((ji (ByteArray.extract s p.size s.size)).2&&decide ((1:Int)≤(ji (ByteArray.extract s p.size s.size)).1∧(ji (ByteArray.extract s p.size s.size)).1≤100000)) then some ((ji (ByteArray.extract s p.size s.size)).1,(true,())) else some (0,(false,()))
theorem Mb {s p:ByteArray} (h:Bp s p≠some (0,(false,()))):∃ n,1≤n∧n≤100000∧s=p++kA n∧Bp s p=some (n,(true,())):=by
 unfold Bp at h ⊢;cases c:sD s p&&((ji (ByteArray.extract s p.size s.size)).2&&decide ((1:Int)≤(ji (ByteArray.extract s p.size s.size)).1∧(ji (ByteArray.extract s p.size s.size)).1≤100000)) with
 | false=>rw [c] at h;exact absurd rfl h
 | true =>
  simp only [iE,decide_eq_true_eq] at c;obtain ⟨c1,c2,c3⟩:=c;have e:ji (ByteArray.extract s p.size s.size)=((ji (ByteArray.extract s p.size s.size)).1,true):=by rw [← c2]
  have q:=yn e;exact ⟨_,c3.1,c3.2,by rw [q.2];exact As c1,rfl⟩
theorem LQ {p:ByteArray} {n:Int} (h0:1≤n) (h1:n≤100000):Bp (p++kA n) p=some (n,(true,())):=by unfold Bp;rw [GP,show ByteArray.extract (p++kA n) p.size (p++kA n).size=kA n from gS p (kA n),Gq ⟨by omega,by omega⟩];simp only [];rw [aW ⟨h0,h1⟩];rfl
theorem Ju (k:Nat) {s:ByteArray} (hs:s.size≤281474976710656):ln.f k s=some ((NY s).1,((NY s).2,())):=by
 have e:ln.f k s=bif sD s aG then Bp s aG else Bp s bO:=by
  unfold ln.f ln.t;rw [show (⟨#[115,101,103]⟩:ByteArray)=aG from rfl,show (⟨#[104,105,110,116]⟩:ByteArray)=bO from rfl,vK,vK];simp only [ac];unfold Bp;have h3:=C1 s aG.size;have h4:=C1 s bO.size;cases sD s aG with
  | true =>simp only [fw,aJ,aa,Bool.true_and];rw [ow k (by omega),ac];simp only [iL k,ac];generalize ji (ByteArray.extract s aG.size s.size)=r;cases r.2 <;> cases decide ((1:Int)≤r.1∧r.1≤100000) <;> rfl
  | false =>
   simp only [ue,aJ,aa];cases sD s bO with
   | true =>simp only [fw,aJ,aa,Bool.true_and];rw [ow k (by omega),ac];simp only [iL k,ac];generalize ji (ByteArray.extract s bO.size s.size)=r;cases r.2 <;> cases decide ((1:Int)≤r.1∧r.1≤100000) <;> rfl
   | false =>simp only [ue,aJ,aa,Bool.false_and];rw [ow k hs,ac]
 rw [e];refine uC (fun n h1 _=>?_) ?_
 · rcases h1.2.2 with q | q
   · rw [q,GP,aa,LQ h1.1 h1.2.1]
   · have hp:sD s aG=false:=by
      cases c:sD s aG with
      | false=>rfl
      | true=>exact absurd ((As c).symm.trans q) (zf _ _)
     rw [hp,aJ,q,LQ h1.1 h1.2.1]
 · cases sD s aG with
   | true =>
    rw [aa];by_cases c:Bp s aG=some (0,(false,()))
    · exact .inr c
    · obtain ⟨n,h0,h1,h2,h3⟩:=Mb c;exact .inl ⟨n,⟨h0,h1,.inl h2⟩,rfl,h3⟩
   | false =>
    rw [aJ];by_cases c:Bp s bO=some (0,(false,()))
    · exact .inr c
    · obtain ⟨n,h0,h1,h2,h3⟩:=Mb c;exact .inl ⟨n,⟨h0,h1,.inr h2⟩,rfl,h3⟩
theorem FC {k:Nat} (hk:2 ^ 50≤k) {l:List Int} (hl:l.length≤1099511627776) (x:Int):gX.f k l x=some (yM l x,()):=by
 unfold gX.f gX.t;refine fj (L:=fun n i (_:Unit)=>gX.l0 k n x l l.length i) (R:=fun r _=>some (yM r x,())) (Ty.z (.int .i64)) l (fun _ _=>True) (fun n _ _=>?_) (fun n i _ y rest h0 h1 hx hr hp ih=>?_) (n:=k) (s:=()) (by omega) trivial
 · simp (disch:=omega) only [gX.l0,gX.b0,aY,aJ];rfl
 · have ih:=ih () trivial;have e:yM (y::rest) x=((y==x)||yM rest x):=rfl;simp (disch:=omega) only [gX.l0,gX.b0,aW h1,aa,aT,hx,aF,ih,e];cases y==x <;> rfl
def ib:ByteArray:=⟨#[116,101,109,112]⟩
noncomputable def ou (ids:List Int) (f:Ty.d cI):Bool:=((NY f.1).2&&!yM ids (NY f.1).1)||seq f.1 ib
noncomputable def sy (ids:List Int):bq→List ByteArray→List ByteArray
 | [],acc=>acc
 | f::l,acc=>sy ids l (bif ou ids f then acc++[f.1] else acc)
noncomputable def va (d:Ty.d aA) (ids:List Int):List ByteArray:=bif jO d then sy ids d.1 [] else []
theorem Ko {d:Ty.d aA} (h:jO d=true):d.1.length≤130:=by unfold jO at h;rw [iE,decide_eq_true_eq] at h;exact h.1
theorem Gc {k:Nat} (hk:2 ^ 50≤k) {d:Ty.d aA} {v:Ty.d cv} (hu:du d.1≤1099511627776) (hn:uO d.1≤1099511627776) (hv:v.2.1.length≤1099511627776):ff.f k d v=some (va d v.2.1,()):=by
 unfold ff.f ff.t va;rw [iV hk hu hn,ac];cases cd:jO d with
 | false=>rfl
 | true =>
  have hl:=Ko cd;rw [fw,aJ,aa];refine fj (L:=fun n i s=>ff.l0 k n d.1 d.1.length i v.1 v.2.1 s) (R:=fun r s=>some (sy v.2.1 r s,())) (Ty.z cI) d.1 (fun i s=>(s.length:Int)≤i) (fun n s hs=>?_) (fun n i s x rest h0 h1 hx hr hs ih=>?_) (n:=k) (s:=[]) (by omega) (by simp)
  · simp (disch:=omega) only [ff.l0,ff.b0,aY,aJ,sy]
  · have hm:x ∈ d.1:=by rw [← hx];exact gR (by omega)
    have hz:=xA hm;have iY:=ih (s++[x.1]) (by rw [dt];omega);have iN:=ih s (by omega);simp (disch:=first | omega | decide) only [ff.l0,ff.b0,aW h1,aa,aT,hx,Ju k,ac,FC hk hv,bn,aF,iY,iN];rw [show sy v.2.1 (x::rest) s=sy v.2.1 rest (bif ou v.2.1 x then s++[x.1] else s) from rfl,show (⟨#[116,101,109,112]⟩:ByteArray)=ib from rfl];unfold ou;cases (NY x.1).2 <;> cases yM v.2.1 (NY x.1).1 <;> cases seq x.1 ib <;> rfl
theorem sJ {k:Nat} (hk:2 ^ 50≤k) {l:List Int} (hl:l.length≤1073741824):dh.f k l=some (jg l,()):=by
 unfold dh.f dh.t;refine (fj (L:=fun n i s=>dh.l0 k n s l l.length i) (R:=fun r s=>some (s++jg r,())) (Ty.z (.int .i64)) l (fun i s=>(s.size:Int)≤7*i) (fun n s hs=>?_) (fun n i s x rest g0 g1 hx hr hs ih=>?_) (n:=k) (s:=⟨#[]⟩) (by omega) (by decide)).trans (by rw [oX])
 · simp (disch:=omega) only [dh.l0,dh.b0,aY,aJ];rw [show jg []=⟨#[]⟩ from rfl,ii]
 · have hv:=bN x;have ih:=ih (s++jo x) (by rw [aX];omega);simp (disch:=omega) only [dh.l0,dh.b0,aW g1,aa,aT,hx,pI hk,ac,jI,aF,ih];rw [bh];rfl
theorem yc {k:Nat} (hk:2 ^ 50≤k) (v:Ty.d cv) (hl:v.2.1.length≤1073741824):j9.f k v=some (cA v,()):=by
 unfold j9.f j9.t cA;rw [ss hk (by omega),ac];cases c:dz v with
 | false=>rfl
 | true =>have a:=bN v.1;have b:=bN (v.2.1.length:Int);have d:=qx v.2.1;rw [fw,aJ,Cb hk,ac,sJ hk hl,ac,if_pos rfl];simp only [];rw [jI (by rw [aX];omega),oL hk,ac,bh];rfl
theorem mH (k:Nat) (n:Int):dW.f k n=some (a_ bO n,()):=by unfold dW.f dW.t;rw [show (⟨#[104,105,110,116]⟩:ByteArray)=bO from rfl,vo k (by decide) n];rfl
theorem G1 (v:Ty.d cv):(cA v).size≤1099511627776:=by
 unfold cA;split
 · have:=mT (rp v);omega
 · decide
theorem GC {p:ByteArray} (hp:p=aG∨p=bO) (n:Int):(a_ p n).size≤1000:=by
 have hs:p.size≤4:=by rcases hp with q | q <;> rw [q] <;> decide
 unfold a_;by_cases h:(1:Int)≤n∧n≤100000
 · have:=nT (n:=n) (by omega) (by omega);rw [aW h,aa,ByteArray.size_append];omega
 · rw [aY h,aJ];decide
abbrev RD:=Ty.d aA × Int
def fD (r:RD) (f:Ty.d aA→RD):RD:=bif r.2==0 then f r.1 else r
def gh (c:Int):Int:=bif c==0 then 0 else bif c==1 then 1 else bif c==2 then 2 else 3
def wk (f:Ty.d aA→RD) (r:RD):RD:=bif r.2==0 then ((f r.1).1,gh (f r.1).2) else r
def wO (r:RD):Ty.d am:=(r.1,(r.2,()))
def gg:ByteArray:=⟨#[108,105,118,101]⟩
def gU (s:ByteArray) (d:Ty.d aA):RD:=bif (bU d.1 s).isSome then yU d s else (d,0)
def ax (s:ByteArray) (d:Ty.d aA):RD:=fD (gU s d) fun x=>rk x s
def lM (s t:ByteArray) (d:Ty.d aA):RD:=fD (fD (ax s d) fun x=>jS x s t) fun x=>dY x s
def bE (v:Ty.d cv) (d:Ty.d aA):RD:=fD (lM ib (cA v) d) fun x=>xS x ib gg
def bj:List ByteArray→Ty.d aA→RD
 | [],d=>(d,0)
 | s::l,d=>fD (gU s d) (bj l)
noncomputable def m7 (ids:List Int) (d:Ty.d aA):RD:=bj (va d ids) d
theorem iO (c:Int):(gh c==0)=(c==0):=by
 unfold gh;cases h:c==0 with
 | true=>rfl
 | false =>
  cases c==1
  · cases c==2 <;> rfl
  · rfl
theorem rU (f g:Ty.d aA→RD) (r:RD):wk (fun x=>fD (f x) g) r=wk g (wk f r):=by
 unfold wk fD;cases h:r.2==0 with
 | false=>simp only [aJ,h]
 | true =>simp only [aa,iO];cases (f r.1).2==0 <;> rfl
theorem Ds (r:RD):wk (fun d=>(d,0)) r=r:=by
 unfold wk;cases h:r.2==0 with
 | false=>rfl
 | true=>exact Prod.ext rfl (by show gh 0=r.2;rw [yd h];rfl)
theorem jc {r:RD} {f:Ty.d aA→RD} (h:DR r.1) (hf:∀ x,DR x→DR (f x).1):DR (fD r f).1:=by
 unfold fD;cases r.2==0
 · exact h
 · exact hf _ h
theorem ru {r:RD} {f:Ty.d aA→RD} (h:DR r.1) (hf:∀ x,DR x→DR (f x).1):DR (wk f r).1:=by
 unfold wk;cases r.2==0
 · exact h
 · exact hf _ h
theorem nf (s:ByteArray) (d:Ty.d aA) (h:DR d):DR (gU s d).1:=by
 unfold gU;cases (bU d.1 s).isSome
 · exact h
 · exact Lx h s
theorem jF (s:ByteArray) (d:Ty.d aA) (h:DR d):DR (ax s d).1:=jc (nf s d h) fun x hx=>I2 hx s
theorem jv (s t:ByteArray) (d:Ty.d aA) (h:DR d):DR (lM s t d).1:=jc (jc (jF s d h) fun x hx=>qs hx s t) fun x hx=>mj hx s
theorem mP (v:Ty.d cv) (d:Ty.d aA) (h:DR d):DR (bE v d).1:=jc (jv _ _ d h) fun x hx=>NG hx _ _
theorem k9:∀ (l:List ByteArray) (d:Ty.d aA),DR d→DR (bj l d).1
 | [],d,h=>h
 | s::l,d,h=>jc (nf s d h) (k9 l)
theorem Mz (ids:List Int) (d:Ty.d aA) (h:DR d):DR (m7 ids d).1:=k9 _ d h
theorem Ke {l:bq} {s:ByteArray}:decide (oG l s 0≥0)=(bU l s).isSome:=by
 rcases lL l s 0 with ⟨h1,h2,_⟩ | ⟨n,h1,h2,h3,_⟩
 · rw [h1,h2];rfl
 · rw [h2,h3,aW (by omega)];rfl
theorem FS (ids:List Int):∀ (l:bq) (acc:List ByteArray),sy ids l acc=acc++(l.filter (ou ids)).map (·.1)
 | [],acc=>by unfold sy;simp
 | f::l,acc=>by
  unfold sy;rw [FS ids l];cases c:ou ids f
  · rw [aJ,List.filter_cons_of_neg (by rw [c];decide)]
  · rw [aa,List.filter_cons_of_pos c,List.map_cons,oK];rfl
theorem Lt {d:Ty.d aA} (ids:List Int):(va d ids).Sublist (lU d.1):=by
 unfold va;cases jO d
 · exact List.nil_sublist _
 · rw [aa,FS,List.nil_append];exact (List.filter_sublist).map _
theorem ym {l:bq} {s t:ByteArray} (h:t≠s):bU (gi l s) t=bU l t:=by
 induction l with
 | nil=>rfl
 | cons g l ih =>
  unfold gi;cases c:seq g.1 s with
  | true =>rw [aa,bU.eq_2,kZ (fun q=>h (by rw [← q,db.1 c])),aJ]
  | false =>rw [aJ,bU.eq_2,bU.eq_2,ih]
theorem GJ (k:Nat) (c:Int):mY.f k c=some (gh c,()):=by unfold mY.f mY.t gh;cases c==0 <;> cases c==1 <;> cases c==2 <;> rfl
theorem tU (k:Nat) (w:Ty.d am) (d:Ty.d aA) (c:Int):az.f k w d c=some ((d,(gh c,())),()):=by unfold az.f az.t;rw [GJ,ac]
theorem CH {k:Nat} (hk:2 ^ 50≤k) (r:RD) (h:DR r.1) {s:ByteArray} (hs:s.size≤1099511627776):dU.f k (wO r) s=some (wO (wk (fun x=>rk x s) r),()):=by
 unfold dU.f dU.t wk wO;simp only [];cases c:r.2==0 with
 | false=>rfl
 | true=>rw [aa,aa,I_ hk h.sz hs,ac,tU,ac]
theorem xP {k:Nat} (hk:2 ^ 50≤k) (r:RD) (h:DR r.1) (s:ByteArray) {t:ByteArray} (ht:t.size≤1099511627776):cU.f k (wO r) s t=some (wO (wk (fun x=>jS x s t) r),()):=by
 unfold cU.f cU.t wk wO;simp only [];cases c:r.2==0 with
 | false=>rfl
 | true=>rw [aa,aa,Hw hk h.sz s ht,ac,tU,ac]
theorem ob {k:Nat} (hk:2 ^ 50≤k) (r:RD) (h:DR r.1) (s:ByteArray):bP.f k (wO r) s=some (wO (wk (fun x=>dY x s) r),()):=by
 unfold bP.f bP.t wk wO;simp only [];cases c:r.2==0 with
 | false=>rfl
 | true=>rw [aa,aa,II hk h.sz s,ac,tU,ac]
theorem KE {k:Nat} (hk:2 ^ 50≤k) (r:RD) (h:DR r.1) (a:ByteArray) {b:ByteArray} (hb:b.size≤1099511627776):f9.f k (wO r) a b=some (wO (wk (fun x=>xS x a b) r),()):=by
 unfold f9.f f9.t wk wO;simp only [];cases c:r.2==0 with
 | false=>rfl
 | true=>rw [aa,aa,IR hk h.sz a hb,ac,tU,ac]
theorem mQ {k:Nat} (hk:2 ^ 50≤k) (r:RD) (h:DR r.1) (s:ByteArray):bH.f k (wO r) s=some (wO (wk (gU s) r),()):=by
 have hl:=h.sz.l;unfold bH.f bH.t wk wO gU;simp only [];cases c:r.2==0 with
 | false=>rfl
 | true =>
  rw [aa,aa,jd hk (by omega),ac];simp only [Ke];cases (bU r.1.1 s).isSome with
  | true=>rw [aa,aa,HT hk h.sz s,ac,tU,ac]
  | false =>simp only [aJ];rw [yd c];rfl
theorem rN {k:Nat} (hk:2 ^ 50≤k) (r:RD) (h:DR r.1) {s:ByteArray} (hs:s.size≤1099511627776):cu.f k (wO r) s=some (wO (wk (ax s) r),()):=by unfold cu.f cu.t;rw [mQ hk r h,ac];simp only [];rw [CH hk _ (ru h (nf s)) hs,ac,← rU];rfl
theorem zY {k:Nat} (hk:2 ^ 50≤k) (r:RD) (h:DR r.1) {s t:ByteArray} (hs:s.size≤1099511627776) (ht:t.size≤1099511627776):dV.f k (wO r) s t=some (wO (wk (lM s t) r),()):=by unfold dV.f dV.t;rw [rN hk r h hs,ac];simp only [];have h1:=ru (r:=r) h (jF s);rw [xP hk _ h1 s ht,ac];simp only [];rw [ob hk _ (ru h1 fun x hx=>qs hx s t) s,ac,← rU (ax s) (fun x=>jS x s t),← rU];rfl
theorem qA {k:Nat} (hk:2 ^ 50≤k) (r:RD) (h:DR r.1) {v:Ty.d cv} (hv:v.2.1.length≤1073741824):cH.f k (wO r) v=some (wO (wk (bE v) r),()):=by unfold cH.f cH.t;rw [yc hk v hv,ac,show (⟨#[116,101,109,112]⟩:ByteArray)=ib from rfl,show (⟨#[108,105,118,101]⟩:ByteArray)=gg from rfl];simp only [];rw [zY hk r h (s:=ib) (t:=cA v) (by decide) (G1 v),ac];simp only [];rw [KE hk _ (ru h (jv _ _)) ib (b:=gg) (by decide),ac,← rU];rfl
theorem yj (s:ByteArray) (l:List ByteArray) (r:RD):wk (bj (s::l)) r=wk (bj l) (wk (gU s) r):=rU (gU s) (bj l) r
theorem Aq {k:Nat} (hk:2 ^ 50≤k) (r:RD) (h:DR r.1) {v:Ty.d cv} (hv:v.2.1.length≤1099511627776):af.f k (wO r) v=some (wO (wk (m7 v.2.1) r),()):=by
 have hu:=h.sz.u;have hn:=h.sz.n;have hlen:=(Lt (d:=r.1) v.2.1).length_le;have hl:=h.len;unfold lU at hlen;rw [List.length_map] at hlen;unfold af.f af.t;rw [show (wO r).1=r.1 from rfl,Gc hk (by omega) (by omega) hv,ac];simp only [];have key:∀ l:List ByteArray,l.length≤1000→af.l0 k k l.length 0 r.1.1 r.1.2.1 r.1.2.2.1 r.1.2.2.2.1 r.2 l=some (wO (wk (bj l) r),()):=fun l hl=>by
  refine fj (L:=fun n i (x:RD)=>af.l0 k n l.length i x.1.1 x.1.2.1 x.1.2.2.1 x.1.2.2.2.1 x.2 l) (R:=fun q x=>some (wO (wk (bj q) x),())) (Ty.z .str) l (fun i x=>DR x.1) (fun n x hx=>?_) (fun n i x y rest h0 h1 hy hr hx ih=>?_) (n:=k) (s:=r) (by omega) h
  · simp only [af.l0,af.b0];rw [aY (by omega),aJ,show bj []=fun d=>(d,0) from rfl,Ds];rfl
  · simp only [af.l0,af.b0];rw [aW h1,aa,aT h0 h1,hy,show ((x.1.1,(x.1.2.1,(x.1.2.2.1,(x.1.2.2.2.1,())))),(x.2,()))=wO x from rfl,mQ hk x hx,ac,aF (n:=i+1) (by omega) (by omega),yj];exact ih (wk (gU y) x) (ru hx (nf y))
 rw [show (wO r).2.1=r.2 from rfl];rw [key (va r.1 v.2.1) (by omega)];unfold wk m7;rfl
theorem xd {k:Nat} (hk:2 ^ 50≤k) (r:RD) (h:DR r.1) {l:List ByteArray} (hl:l.length≤1000):ae.f k (wO r) l =
 some (wO (bif r.2==2 then ((bj l r.1).1,bif (bj l r.1).2==0 then 2 else gh (bj l r.1).2) else r),()):=by
 unfold ae.f ae.t;rw [show (wO r).2.1=r.2 from rfl];simp only [bne];cases c:r.2==2 with
 | false=>rfl
 | true =>
  simp only [fw,aJ,aa];have e2:r.2=2:=yd c;have key:∀ (n:Nat) (i:Int) (x:RD),0≤i→i≤(l.length:Int)→(l.length:Int)-i<n→DR x.1→ae.l1 k n l l.length i r.1.2.1 r.1.2.2.1 r.1.2.2.2.1 2 x.1.1 x.1.2.1 x.1.2.2.1 x.1.2.2.2.1 x.2 =
   some (wO (bif (wk (bj (l.drop i.toNat)) x).2==0 then ((wk (bj (l.drop i.toNat)) x).1,2) else wk (bj (l.drop i.toNat)) x),()):=fun n i x h0 h1 h2 hx=>by
   refine Py (L:=fun n i (x:RD)=>ae.l1 k n l l.length i r.1.2.1 r.1.2.2.1 r.1.2.2.2.1 2 x.1.1 x.1.2.1 x.1.2.2.1 x.1.2.2.2.1 x.2) (R:=fun q x=>some (wO (bif (wk (bj q) x).2==0 then ((wk (bj q) x).1,2) else wk (bj q) x),())) (Ty.z .str) l (fun i x=>DR x.1) (fun n x hx=>?_) (fun n i x y rest h0 h1 hy hr hx ih=>?_) n i x h0 h1 h2 hx
   · simp only [ae.l1,ae.b1];rw [aY (by omega),aJ,show bj []=fun d=>(d,0) from rfl,Ds];simp only [bne];cases x.2==0 <;> rfl
   · simp only [ae.l1,ae.b1];rw [aW h1,aa,aT h0 h1,hy,show ((x.1.1,(x.1.2.1,(x.1.2.2.1,(x.1.2.2.2.1,())))),(x.2,()))=wO x from rfl,mQ hk x hx,ac,aF (n:=i+1) (by omega) (by omega),yj];exact ih (wk (gU y) x) (ru hx (nf y))
  obtain ⟨q,hq⟩:∃ q,k=q+1:=⟨k-1,by omega⟩;have fin:ae.l0 k (q+1) l l.length 0 r.1.1 r.1.2.1 r.1.2.2.1 r.1.2.2.2.1 2 r.1.2.1 r.1.2.2.1 r.1.2.2.2.1 0=some (wO (bif (wk (bj l) (r.1,0)).2==0 then ((wk (bj l) (r.1,0)).1,2) else wk (bj l) (r.1,0)),()):=by
   have k1:=key (q+1+1) 0 (r.1,0) (by omega) (by omega) (by omega) h;rw [show l.drop (0:Int).toNat=l from rfl] at k1;refine Eq.trans ?_ k1;simp only [ae.l0,ae.b0,ae.l1,ae.b1];by_cases hz:(0:Int)<(l.length:Int)
   · rw [aW hz,aa,aa,aT (by omega) hz,aT (by omega) hz];have e1:bH.f k ((r.1.1,(r.1.2.1,(r.1.2.2.1,(r.1.2.2.2.1,())))),(0,())) (List.getD l (Int.toNat 0) (Ty.z .str))=_:=mQ hk (r.1,0) h (List.getD l (Int.toNat 0) (Ty.z .str));rw [e1,ac,ac,aF (n:=(0:Int)+1) (by omega) (by omega)];have d1:=ru (r:=((r.1,0):RD)) h (nf (List.getD l (Int.toNat 0) (Ty.z .str)));have a1:=key q 1 (wk (gU (List.getD l (Int.toNat 0) (Ty.z .str))) (r.1,0)) (by omega) (by omega) (by omega) d1;have a2:=key (q+1) 1 (wk (gU (List.getD l (Int.toNat 0) (Ty.z .str))) (r.1,0)) (by omega) (by omega) (by omega) d1;exact a1.trans a2.symm
   · rw [aY hz,aJ,aJ]
  rw [show (wO r).1=r.1 from rfl,e2];have fin2:ae.l0 k k l l.length 0 r.1.1 r.1.2.1 r.1.2.2.1 r.1.2.2.2.1 2 r.1.2.1 r.1.2.2.1 r.1.2.2.2.1 0=_:=(congrArg (fun z=>ae.l0 k z l l.length 0 r.1.1 r.1.2.1 r.1.2.2.1 r.1.2.2.2.1 2 r.1.2.1 r.1.2.2.1 r.1.2.2.2.1 0) hq).trans fin;rw [fin2];unfold wk;simp only [beq_self_eq_true,aa,iO];cases c3:(bj l r.1).2==0 <;> rfl
abbrev ja:=List (Ty.d bf)
def i_ (kind batch:Int) (l:ja):Ty.d bf:=(kind,(batch,(ByteArray.empty,(ByteArray.empty,((l.length:Int),(FY l,()))))))
abbrev bV:=List (Ty.d aB)
def gB (s:ByteArray):Bool:=decide (1≤(s.size:Int)∧(s.size:Int)≤8)
def cJ (p:Ty.d aB):Ty.d bf:=(4,(p.2.2.1,(p.1,(p.2.1,(0,(0,()))))))
def fV (l:bV) (mark:Int):ja:=l.map cJ++[i_ 5 mark (l.map cJ)]
theorem EV {k:Nat} (hk:2 ^ 50≤k) {l:bV} (hl:l.length≤1073741823) (mark:Int):iI.f k l mark=some (fV l mark,()):=by
 unfold iI.f iI.t;refine (fj (L:=fun n i s=>iI.l0 k n l mark l l.length i s) (R:=fun r s=>some (s++r.map cJ++[i_ 5 mark (s++r.map cJ)],())) (Ty.z aB) l (fun i s=>(s.length:Int)=i) (fun n s hs=>?_) (fun n i s x rest h0 h1 hx hr hp ih=>?_) (n:=k) (s:=[]) (by omega) (by decide)).trans (by rw [List.nil_append];rfl)
 · simp (disch:=first | omega | decide) only [iI.l0,iI.b0,aY,aJ,qu hk,ac,bn,List.map_nil,List.append_nil,i_,hs]
 · have ih:=ih (s++[cJ x]) (by rw [nE];show ((s.length+1:Nat):Int)=_;omega);simp (disch:=first | omega | decide) only [iI.l0,iI.b0,aW,aa,aT,hx,bn,aF];refine ih.trans ?_;simp only [List.map_cons,oK,List.cons_append,List.nil_append]
def aU:ja→ByteArray
 | []=>⟨#[]⟩
 | r::l=>aS (aI r)++aU l
theorem wV:∀ l:ja,(aU l).size≤211*l.length
 | []=>Nat.le_refl _
 | r::l=>by have h1:=mT (aI r);have h2:=wV l;rw [aU,aX,j7];omega
theorem nn:∀ l m:ja,aU (l++m)=aU l++aU m
 | [],m=>by rw [List.nil_append,aU,oX]
 | r::l,m=>by rw [List.cons_append,aU,nn l m,aU,bh]
abbrev aR:=List (Ty.d aC)
noncomputable def iw (s:ByteArray) (i n:Int):Ty.d bf × Bool :=
 if 0≤i∧i≤s.size∧1≤n∧n≤s.size-i then (if (iG (ByteArray.extract s i.toNat (i+n).toNat)).2=n then jL (iG (ByteArray.extract s i.toNat (i+n).toNat)).1 else (vN,false)) else (vN,false)
theorem QF (s:ByteArray) (i j:Nat):(ByteArray.extract s i j).size≤s.size:=by rw [← df,vB,List.length_drop,List.length_take,df];omega
theorem wE {k:Nat} (hk:2 ^ 50≤k) {s:ByteArray} (i n:Int) (hs:s.size≤1099511627775):jm.f k s i n=some ((iw s i n).1,((iw s i n).2,())):=by
 unfold jm.f jm.t iw;rw [wb,ac];by_cases c1:0≤i∧i≤s.size
 case neg=>rw [aY c1,if_neg (fun h=>c1 ⟨h.1,h.2.1⟩)];rfl
 rw [aW c1,fw,aJ,wb,ac,aF (by omega) (by omega)];by_cases c2:0≤n∧n≤s.size-i
 case neg=>rw [aY c2,if_neg (fun h=>c2 ⟨by omega,h.2.2.2⟩)];rfl
 have hz:=QF s i.toNat (i+n).toNat;have hu:=oh (ByteArray.extract s i.toNat (i+n).toNat);have hsz:(ByteArray.extract s i.toNat (i+n).toNat).size≤(i+n).toNat-i.toNat:=by rw [← df,vB,List.length_drop,List.length_take];omega
 rw [aW c2,fw,aJ,aF (by omega) (by omega),yu (by omega) (by omega) (by omega),mz hk (by omega),ac];simp only [];by_cases c0:(iG (ByteArray.extract s i.toNat (i+n).toNat)).2=0
 · rw [show ((iG (ByteArray.extract s i.toNat (i+n).toNat)).2==0)=true by rw [c0];rfl,aa];split
   · rename_i h;rw [if_neg (by omega)]
   · rfl
 · rw [show ((iG (ByteArray.extract s i.toNat (i+n).toNat)).2==0)=false from qi c0,aJ,if_pos ⟨c1.1,c1.2,by omega,c2.2⟩];by_cases c3:(iG (ByteArray.extract s i.toNat (i+n).toNat)).2=n
   · rw [if_pos c3];simp only [show ((iG (ByteArray.extract s i.toNat (i+n).toNat)).2 != n)=false by rw [c3];simp,aJ];rw [tI hk (by omega),ac]
   · rw [if_neg c3];simp only [show ((iG (ByteArray.extract s i.toNat (i+n).toNat)).2 != n)=true from bne_iff_ne.2 c3,aa]
def vy (p:Option (Ty.d aC)) (x:Ty.d aC):Bool :=
 gB x.1&&(decide ((1:Int)≤x.2.1∧x.2.1≤100000)&&(!decide (x.2.2.1<(0:Int))&&(decide ((1:Int)≤x.2.2.2.1∧x.2.2.2.1≤210)&&(decide ((1:Int)≤x.2.2.2.2.1∧x.2.2.2.2.1≤1000000)&&(match p with | none=>true | some y=>nd y.1 x.1)))))
def uG (l:aR):Bool:=decide ((l.length:Int)≤20)&&qM vy none l
theorem za {k:Nat} (hk:2 ^ 50≤k) {l:aR} (hl:l.length≤1099511627776):eS.f k l=some (uG l,()):=by
 unfold eS.f eS.t uG;refine (Aj (L:=fun n i=>eS.l0 k n l l l.length i) (Ty.z aC) l vy (some (decide ((l.length:Int)≤20),())) (some (false,())) (fun n=>?_) (fun n x h hx=>?_) (fun n i x y h0 h1 hx hy=>?_) (n:=k) (by omega)).trans (by cases qM vy none l <;> cases decide ((l.length:Int)≤20) <;> rfl)
 · simp (disch:=omega) only [eS.l0,eS.b0,aY (show ¬ (l.length:Int)<(l.length:Int) by omega),aJ]
 · simp (disch:=omega) only [eS.l0,eS.b0,aW (show (0:Int)<(l.length:Int) by omega),aa,aT,hx,kf k,iL k,ac,aY (show ¬ (0:Int) > 0 by omega),aJ,aF,vy,gB];cases decide (1≤(x.1.size:Int)∧(x.1.size:Int)≤8) <;> cases decide ((1:Int)≤x.2.1∧x.2.1≤100000) <;> cases decide (x.2.2.1<(0:Int)) <;> cases decide ((1:Int)≤x.2.2.2.1∧x.2.2.2.1≤210) <;> cases decide ((1:Int)≤x.2.2.2.2.1∧x.2.2.2.2.1≤1000000) <;> rfl
 · simp (disch:=omega) only [eS.l0,eS.b0,aW h1,aa,aT,hx,hy,kf k,iL k,ac,aW (show i > 0 by omega),aJ,aF,vy,gB];cases decide (1≤(x.1.size:Int)∧(x.1.size:Int)≤8) <;> cases decide ((1:Int)≤x.2.1∧x.2.1≤100000) <;> cases decide (x.2.2.1<(0:Int)) <;> cases decide ((1:Int)≤x.2.2.2.1∧x.2.2.2.1≤210) <;> cases decide ((1:Int)≤x.2.2.2.2.1∧x.2.2.2.2.1≤1000000) <;> cases nd y.1 x.1 <;> rfl
def ui:aR→ByteArray→Option (Ty.d aC)
 | [],_=>none
 | e::l,s=>bif seq e.1 s then some e else ui l s
def Pq:Ty.d aC:=(ByteArray.empty,(0,(0,(0,(0,())))))
def Nx:Option (Ty.d aC)→Option (Ty.d aC × Bool × Unit)
 | none=>some (Pq,(false,()))
 | some e=>some (e,(true,()))
theorem uS {k:Nat} (hk:2 ^ 50≤k) {l:aR} (hl:l.length≤1099511627776) (s:ByteArray):fP.f k l s=Nx (ui l s):=by
 unfold fP.f fP.t;refine fj (L:=fun n i (_:Unit)=>fP.l0 k n s l l.length i ByteArray.empty 0 0 0 0) (R:=fun r _=>Nx (ui r s)) (Ty.z aC) l (fun _ _=>True) (fun n _ _=>?_) (fun n i _ x rest h0 h1 hx hr hp ih=>?_) (n:=k) (s:=()) (by omega) trivial
 · simp (disch:=omega) only [fP.l0,fP.b0,aY,aJ,ui];rfl
 · have ih:=ih () trivial;simp (disch:=omega) only [fP.l0,fP.b0,aW h1,aa,aT,hx,aF,ih,ui];cases seq x.1 s <;> rfl
def P5:Ty.d aB:=(ByteArray.empty,(ByteArray.empty,(0,())))
noncomputable def dq (d:Ty.d aA) (e:Ty.d aC):Ty.d bf × Bool:=iw (bJ d (a_ aG e.2.1)).1 e.2.2.1 e.2.2.2.1
noncomputable def rB (l:aR) (d:Ty.d aA) (key:ByteArray):Ty.d aB × Int :=
 match ui l key with
 | none=>(P5,8)
 | some e=>bif (dq d e).2&&(seq (dq d e).1.2.2.1 key&&(((dq d e).1.1==1)||((dq d e).1.1==4))) then ((key,((dq d e).1.2.2.2.1,((dq d e).1.2.1,()))),0) else (P5,3)
theorem Fo (i n:Int):iw ⟨#[]⟩ i n=(vN,false):=by
 unfold iw;rw [if_neg]
 rintro ⟨h1,h2,h3,h4⟩
 have:((⟨#[]⟩:ByteArray).size:Int)=0:=rfl;omega
theorem OD {d:Ty.d aA} {s:ByteArray} (h:(bJ d s).2=false):(bJ d s).1=⟨#[]⟩:=by
 unfold bJ at h ⊢;generalize jO d=b at h ⊢;generalize bU d.1 s=o at h ⊢;cases b <;> cases o <;> first | rfl | cases h
theorem zP {k:Nat} (hk:2 ^ 50≤k) {st:Ty.d aE} {d:Ty.d aA} (hd:F3 d) (hl:st.2.1.length≤1099511627776) (key:ByteArray):mF.f k st d key=some ((rB st.2.1 d key).1,((rB st.2.1 d key).2,())):=by
 have:=hd.l;have:=hd.u;have:=hd.n;unfold mF.f mF.t rB;rw [uS hk hl];cases ui st.2.1 key with
 | none=>rfl
 | some e =>
  unfold Nx;have hz:=lS d (a_ aG e.2.1);simp only [ac,fw,aJ,ch k];rw [jY hk (by omega) (by omega) (by omega),ac];simp only [];rw [wE hk _ _ (by omega),ac];change (bif !(dq d e).2 then _ else bif !((dq d e).1.1==1) then bif !((dq d e).1.1==4) then _ else bif !seq (dq d e).1.2.2.1 key then _ else some (((dq d e).1.2.2.1,((dq d e).1.2.2.2.1,((dq d e).1.2.1,()))),(0,())) else bif !seq (dq d e).1.2.2.1 key then _ else some (((dq d e).1.2.2.1,((dq d e).1.2.2.2.1,((dq d e).1.2.1,()))),(0,())))=_;cases c:(dq d e).2 with
  | false=>rfl
  | true =>
   cases q:seq (dq d e).1.2.2.1 key with
   | false=>cases ((dq d e).1.1==1) <;> cases ((dq d e).1.1==4) <;> rfl
   | true =>rw [db.1 q];cases ((dq d e).1.1==1) <;> cases ((dq d e).1.1==4) <;> rfl
noncomputable def pk (l:aR) (d:Ty.d aA):List ByteArray→bV→bV × Int
 | [],acc=>(acc,0)
 | key::r,acc=>bif (rB l d key).2 != 0 then ([],(rB l d key).2) else pk l d r (acc++[(rB l d key).1])
noncomputable def bY (l:aR) (d:Ty.d aA):bV × Int:=pk l d (l.map (·.1)) []
theorem Ca (l:aR) (d:Ty.d aA):∀ (r:List ByteArray) (acc:bV),(pk l d r acc).1.length≤acc.length+r.length
 | [],acc=>Nat.le_refl _
 | key::r,acc=>by
  unfold pk;cases (rB l d key).2 != 0 with
  | true=>exact Nat.zero_le _
  | false =>have:=Ca l d r (acc++[(rB l d key).1]);rw [dt] at this;rw [aJ,j7];omega
theorem tW (l:aR) (d:Ty.d aA):(bY l d).1.length≤l.length:=by have:=Ca l d (l.map (·.1)) [];rw [List.length_map,List.length_nil] at this;unfold bY;omega
theorem xr {k:Nat} (hk:2 ^ 50≤k) {l:aR} (hl:l.length≤1099511627775):e_.f k l=some (l.map (·.1),()):=by
 unfold e_.f e_.t;refine fj (L:=fun n i s=>e_.l0 k n l l.length i s) (R:=fun r s=>some (s++r.map (·.1),())) (Ty.z aC) l (fun i s=>(s.length:Int)=i) (fun n s hs=>?_) (fun n i s x rest h0 h1 hx hr hp ih=>?_) (n:=k) (s:=[]) (by omega) rfl
 · simp (disch:=omega) only [e_.l0,e_.b0,aY,aJ,List.map_nil,List.append_nil]
 · have ih:=ih (s++[x.1]) (by rw [dt];omega);simp (disch:=first | omega | decide) only [e_.l0,e_.b0,aW h1,aa,aT,hx,bn,aF,ih,List.map_cons];rw [oK];rfl
theorem yA {k:Nat} (hk:2 ^ 50≤k) {st:Ty.d aE} {d:Ty.d aA} (hd:F3 d) (hl:st.2.1.length≤1099511627775):iK.f k st d=some ((bY st.2.1 d).1,((bY st.2.1 d).2,())):=by
 unfold iK.f iK.t bY;rw [xr hk hl,ac];have hm:(st.2.1.map (·.1)).length=st.2.1.length:=List.length_map ..;refine fj (L:=fun n i s=>iK.l0 k n (st.2.1.map (·.1)).length i st.1.1 st.1.2.1 st.2.1 st.2.2.1 st.2.2.2.1 st.2.2.2.2.1 d.1 d.2.1 d.2.2.1 d.2.2.2.1 s (st.2.1.map (·.1))) (R:=fun r s=>some ((pk st.2.1 d r s).1,((pk st.2.1 d r s).2,()))) (Ty.z .str) (st.2.1.map (·.1)) (fun i s=>(s.length:Int)=i) (fun n s hs=>?_) (fun n i s x rest h0 h1 hx hr hp ih=>?_) (n:=k) (s:=[]) (by omega) rfl
 · simp (disch:=omega) only [iK.l0,iK.b0,aY,aJ,pk]
 · have hg:=zP hk (st:=st) (d:=d) hd (by omega) x;have ih:=ih (s++[(rB st.2.1 d x).1]) (by rw [dt];omega);simp (disch:=first | omega | decide) only [iK.l0,iK.b0,aW h1,aa,aT,hx,hg,ac,bn,aF,ih,pk];cases (rB st.2.1 d x).2 != 0 <;> rfl
noncomputable def JN (d:Ty.d aA) (tail:Int) (x:Int) (last:Bool):Bool :=
 (bJ d (a_ aG x)).2&&(decide ((c_ (bJ d (a_ aG x)).1).2=((bJ d (a_ aG x)).1.size:Int))&&(!last||(tail==((bJ d (a_ aG x)).1.size:Int))))
noncomputable def qB (d:Ty.d aA) (tail:Int):List Int→Bool
 | []=>true
 | x::l=>JN d tail x l.isEmpty&&qB d tail l
noncomputable def pc (d:Ty.d aA) (next:Int) (e:Ty.d aC):Bool :=
 (dq d e).2&&(seq (dq d e).1.2.2.1 e.1&&(((dq d e).1.2.1==e.2.2.2.2.1)&&((((dq d e).1.1==1)||((dq d e).1.1==4))&&!decide (e.2.2.2.2.1≥next))))
noncomputable def dw (st:Ty.d aE) (d:Ty.d aA):Bool :=
 jO d&&(dz st.1&&(uG st.2.1&&(decide ((1:Int)≤st.2.2.1∧st.2.2.1≤1000001)&&(qB d st.2.2.2.1 st.1.2.1&&st.2.1.all (pc d st.2.2.1)))))
theorem Fv {α:Type} {l:List α} {i:Int} {x:α} {rest:List α} (h0:0≤i) (h:l.drop i.toNat=x::rest):rest.isEmpty=decide (i+1=(l.length:Int)):=by
 have:=congrArg List.length h;rw [List.length_drop,j7] at this;cases rest with
 | nil=>rw [aW (by rw [List.length_nil] at this;omega)];rfl
 | cons y r=>rw [aY (by rw [j7] at this;omega)];rfl
theorem wc {k:Nat} (hk:2 ^ 50≤k) {st:Ty.d aE} {d:Ty.d aA} (hd:F3 d) (hv:st.1.2.1.length≤1099511627776) (hw:st.2.1.length≤1099511627776):cg.f k st d=some (dw st d,()):=by
 have:=hd.l;have:=hd.u;have:=hd.n;unfold cg.f cg.t dw;rw [iV hk (by omega) (by omega),ac];cases jO d with
 | false=>rfl
 | true =>
  rw [fw,aJ,ss hk hv,ac,Bool.true_and];cases cl:dz st.1 with
  | false=>rfl
  | true =>
   rw [fw,aJ,za hk hw,ac,Bool.true_and];cases cd:uG st.2.1 with
   | false=>rfl
   | true =>
    rw [fw,aJ,iL,ac,Bool.true_and];cases decide ((1:Int)≤st.2.2.1∧st.2.2.1≤1000001) with
    | false=>rfl
    | true =>
     rw [fw,aJ,Bool.true_and];have hl:st.1.2.1.length≤60:=by unfold dz at cl;rw [iE,iE,decide_eq_true_eq,decide_eq_true_eq] at cl;omega
     have he:st.2.1.length≤20:=by unfold uG at cd;rw [iE,decide_eq_true_eq] at cd;omega
     have l1:cg.l1 k k st.2.1 st.2.1.length 0 st.1.1 st.1.2.1 st.2.1 st.2.2.1 st.2.2.2.1 st.2.2.2.2.1 d.1 d.2.1 d.2.2.1 d.2.2.2.1=some (st.2.1.all (pc d st.2.2.1),()):=by
      refine fj (L:=fun n i (_:Unit)=>cg.l1 k n st.2.1 st.2.1.length i st.1.1 st.1.2.1 st.2.1 st.2.2.1 st.2.2.2.1 st.2.2.2.2.1 d.1 d.2.1 d.2.2.1 d.2.2.2.1) (R:=fun r _=>some (r.all (pc d st.2.2.1),())) (Ty.z aC) st.2.1 (fun _ _=>True) (fun n _ _=>?_) (fun n i _ x rest h0 h1 hx hr hp ih=>?_) (n:=k) (s:=()) (by omega) trivial
      · simp (disch:=omega) only [cg.l1,cg.b1,aY,aJ,List.all_nil]
      · have ih:=ih () trivial;have hz:=lS d (a_ aG x.2.1);have ht:=jY hk (d:=d) (by omega) (by omega) (by omega) (a_ aG x.2.1);have hr:=wE hk (s:=(bJ d (a_ aG x.2.1)).1) x.2.2.1 x.2.2.2.1 (by omega);simp (disch:=omega) only [cg.l1,cg.b1,aW h1,aa,aT,hx,ch k,ac,ht,hr,aF,ih,List.all_cons,pc,dq,bne];cases (iw (bJ d (a_ aG x.2.1)).1 x.2.2.1 x.2.2.2.1).2 <;> cases seq (iw (bJ d (a_ aG x.2.1)).1 x.2.2.1 x.2.2.2.1).1.2.2.1 x.1 <;> cases ((iw (bJ d (a_ aG x.2.1)).1 x.2.2.1 x.2.2.2.1).1.2.1==x.2.2.2.2.1) <;>
         cases ((iw (bJ d (a_ aG x.2.1)).1 x.2.2.1 x.2.2.2.1).1.1==1) <;> cases ((iw (bJ d (a_ aG x.2.1)).1 x.2.2.1 x.2.2.2.1).1.1==4) <;> cases decide (x.2.2.2.2.1≥st.2.2.1) <;> rfl
     refine (fj (L:=fun n i (_:Unit)=>cg.l0 k n st.1.2.1 st.1.2.1.length i st.1.1 st.1.2.1 st.2.1 st.2.2.1 st.2.2.2.1 st.2.2.2.2.1 d.1 d.2.1 d.2.2.1 d.2.2.2.1) (R:=fun r _=>some (qB d st.2.2.2.1 r&&st.2.1.all (pc d st.2.2.1),())) (Ty.z (.int .i64)) st.1.2.1 (fun _ _=>True) (fun n _ _=>?_) (fun n i _ x rest h0 h1 hx hr hp ih=>?_) (n:=k) (s:=()) (by omega) trivial)
     · simp (disch:=omega) only [cg.l0,cg.b0,aY,aJ,qB,l1,Bool.true_and]
     · have ih:=ih () trivial;have hz:=lS d (a_ aG x);have ht:=jY hk (d:=d) (by omega) (by omega) (by omega) (a_ aG x);have hs:=sx hk (s:=(bJ d (a_ aG x)).1) (by omega);have hlast:=Fv h0 hr;simp (disch:=omega) only [cg.l0,cg.b0,aW h1,aa,aT,hx,ch k,ac,ht,hs,aF,ih,qB,JN,bne,hlast];rw [show (i==(st.1.2.1.length:Int)-1)=decide (i+1=(st.1.2.1.length:Int)) from (show decide (i=(st.1.2.1.length:Int)-1)=_ from decide_eq_decide.2 (by omega))];cases (bJ d (a_ aG x)).2 with
       | false=>rfl
       | true =>
        by_cases q:(c_ (bJ d (a_ aG x)).1).2=((bJ d (a_ aG x)).1.size:Int)
        · rw [aW q,show ((c_ (bJ d (a_ aG x)).1).2==((bJ d (a_ aG x)).1.size:Int))=true from beq_iff_eq.2 q,q];cases decide (i+1=(st.1.2.1.length:Int)) <;> cases (st.2.2.2.1==((bJ d (a_ aG x)).1.size:Int)) <;> rfl
        · rw [aY q,show ((c_ (bJ d (a_ aG x)).1).2==((bJ d (a_ aG x)).1.size:Int))=false from qi q];rfl
theorem G2 (s:ByteArray):ByteArray.extract s s.size s.size=⟨#[]⟩:=kh (by rw [jK,List.drop_eq_nil_of_le (by rw [df];omega)];rfl)
theorem Jc (s:ByteArray):∀ (d d':Nat) (i:Int),0≤i→i≤s.size→(s.size:Int)-i<d→(gH s d i).2-i<d'→gH (ByteArray.extract s 0 (gH s d i).2.toNat) d' i=gH s d i:=by
 intro d
 induction d with
 | zero=>intro d' i h0 h1 h2;omega
 | succ d ih =>
  intro d' i h0 h1 h2 h3;have hu:=oh (ByteArray.extract s i.toNat s.size);have hz:=sZ s i.toNat;have stop:∀ d':Nat,0<d'→gH (ByteArray.extract s 0 i.toNat) d' i=([],i):=fun d' hd=>by
   obtain ⟨n,rfl⟩:∃ q,d'=q+1:=⟨d'-1,by omega⟩;have hs:(ByteArray.extract s 0 i.toNat).size=i.toNat:=wy s (by omega);have e:ByteArray.extract (ByteArray.extract s 0 i.toNat) i.toNat (ByteArray.extract s 0 i.toNat).size=⟨#[]⟩:=by have:=G2 (ByteArray.extract s 0 i.toNat);rw [hs] at this ⊢;exact this
   rw [gH,e,yq,if_pos rfl]
  by_cases c1:(iG (ByteArray.extract s i.toNat s.size)).2=0
  · have e:gH s (d+1) i=([],i):=by rw [gH,if_pos c1]
    rw [e] at h3 ⊢;exact stop d' (by simp only [] at h3;omega)
  · cases c2:(jL (iG (ByteArray.extract s i.toNat s.size)).1).2 with
    | false =>
     have e:gH s (d+1) i=([],i):=by rw [gH,if_neg c1,if_pos c2]
     rw [e] at h3 ⊢;exact stop d' (by simp only [] at h3;omega)
    | true =>
     have e:gH s (d+1) i=(((i,((iG (ByteArray.extract s i.toNat s.size)).2,((jL (iG (ByteArray.extract s i.toNat s.size)).1).1,()))):Ty.d d_)::(gH s d (i+(iG (ByteArray.extract s i.toNat s.size)).2)).1,(gH s d (i+(iG (ByteArray.extract s i.toNat s.size)).2)).2):=by rw [gH,if_neg c1,if_neg (by rw [c2];decide)]
     rw [e] at h3 ⊢;simp only [] at h3 ⊢;have hl:=wn s d (i+(iG (ByteArray.extract s i.toNat s.size)).2) (by omega) (by omega);obtain ⟨n,rfl⟩:∃ q,d'=q+1:=⟨d'-1,by omega⟩;have ih:=ih n (i+(iG (ByteArray.extract s i.toNat s.size)).2) (by omega) (by omega) (by omega) (by omega);have key:iG (ByteArray.extract (ByteArray.extract s 0 (gH s d (i+(iG (ByteArray.extract s i.toNat s.size)).2)).2.toNat) i.toNat (ByteArray.extract s 0 (gH s d (i+(iG (ByteArray.extract s i.toNat s.size)).2)).2.toNat).size)=iG (ByteArray.extract s i.toNat s.size):=by
      generalize (gH s d (i+(iG (ByteArray.extract s i.toNat s.size)).2)).2=x at hl ⊢;rcases nR (ByteArray.extract s i.toNat s.size) with ⟨t,r,ht,e1,e2⟩ | ⟨e2,_⟩
      · rw [e2] at hl ⊢;simp only [] at hl;have e3:ByteArray.extract (ByteArray.extract s 0 x.toNat) i.toNat (ByteArray.extract s 0 x.toNat).size=aS t++ByteArray.extract r 0 (x.toNat-i.toNat-(aS t).size):=by
         apply kh;have hnb:=congrArg nb e1;rw [jK,gw] at hnb;rw [jK,lY,gw,lY,List.drop_take,hnb,List.take_append,df,List.take_of_length_le (by rw [df];omega)]
        rw [e3,oe _ ht]
      · exact absurd (by rw [e2]) c1
     rw [gH,key,if_neg c1,if_neg (by rw [c2];decide),ih]
theorem Kk (s:ByteArray):c_ (ByteArray.extract s 0 (c_ s).2.toNat)=c_ s:=by have hl:=na s;have:=Jc s (s.size+1) ((c_ s).2.toNat+1) 0 (by omega) (by omega) (by omega) (by show (c_ s).2-0<_;omega);have hz:=wy s (n:=(c_ s).2.toNat) (by omega);unfold c_ at hz ⊢;rw [hz];exact this
theorem tn {h:Ty.d cI→Ty.d cI} (hh:∀ f,(h f).1=f.1):∀ (l:bq) (s t:ByteArray),bU (lQ h l s) t=bif seq t s then (bU l s).map h else bU l t
 | [],s,t=>by cases seq t s <;> rfl
 | g::l,s,t=>by
  unfold lQ;cases c:seq g.1 s with
  | true =>
   have e:=db.1 c;rw [aa,bU.eq_2,hh,bU.eq_2,c,aa];by_cases q:t=s
   · rw [e,q,bQ];rfl
   · rw [kZ q,aJ,bU.eq_2];rw [e,kZ (fun w=>q w.symm)];rfl
  | false =>
   rw [aJ,bU.eq_2,bU.eq_2,c,aJ,tn hh l s t,bU.eq_2];by_cases q:t=s
   · rw [q,bQ,c];rfl
   · rw [kZ q];rfl
theorem nL {d:Ty.d aA} {g:bq→Int→bq × Int} (h:(iQ d g).2=0):(g d.1 d.2.1).2=0∧(iQ d g).1.1=(g d.1 d.2.1).1:=by
 unfold iQ at h ⊢;cases c:(m6 d).2 != 0 with
 | true =>rw [c,aa] at h;rw [h] at c;cases c
 | false=>rw [c] at h;exact ⟨h,rfl⟩
theorem mO {d:Ty.d aA} (h:DR d) (s:ByteArray):bJ d s=match bU d.1 s with | none=>(⟨#[]⟩,false) | some f=>(f.2.1,true):=by unfold bJ;rw [jX.2 h];rfl
theorem GI {d:Ty.d aA} (h:DR d) {n:ByteArray} (c:(dY d n).2=0) (s:ByteArray):bJ (dY d n).1 s=bJ d s:=by
 obtain ⟨c1,c2⟩:=nL c;rw [mO (mj h n),mO h];unfold dY;rw [c2];unfold wC at c1 ⊢;cases hg:(bU d.1 n).isNone with
 | true=>rfl
 | false =>
  rw [aJ];show (match bU (lQ _ d.1 n) s with | none=>_ | some f=>_)=_;rw [tn (by intro f;rfl)];by_cases q:s=n
  · rw [q,bQ,aa];cases bU d.1 n <;> rfl
  · rw [kZ q,aJ]
theorem LU {d:Ty.d aA} (h:DR d) {n:ByteArray} {m:Int} (c:(rK d n m).2=0) (s:ByteArray):bJ (rK d n m).1 s=bif seq s n then (ByteArray.extract (bJ d n).1 0 m.toNat,true) else bJ d s:=by
 obtain ⟨c1,c2⟩:=nL c;rw [mO (Df h n m),mO h,mO h];unfold rK;rw [c2];unfold Hh at c1 ⊢;cases hg:bU d.1 n with
 | none=>rw [hg] at c1;cases c1
 | some f =>
  rw [hg] at c1;simp only [] at c1 ⊢;cases hm:decide (0≤m∧m≤(f.2.1.size:Int)) with
  | false=>rw [hm] at c1;cases c1
  | true =>
   simp only [fw,aJ];rw [tn (by intro f;rfl)];by_cases q:s=n
   · rw [q,bQ,aa,hg];rfl
   · rw [kZ q,aJ,aJ]
theorem lD {r:RD} {f:Ty.d aA→RD} (h:(fD r f).2=0):r.2=0∧fD r f=f r.1∧(f r.1).2=0:=by
 unfold fD at h ⊢;cases c:r.2==0 with
 | true=>rw [c] at h;exact ⟨yd c,rfl,h⟩
 | false =>rw [c] at h;rw [aJ] at h;rw [h] at c;cases c
noncomputable def gf (d:Ty.d aA) (x:Int):ByteArray:=(bJ d (a_ aG x)).1
def bi (ids:List Int):Int:=ids.getD (ids.length-1) 0
noncomputable def mf (x:Int) (d:Ty.d aA):RD :=
 fD (bif decide ((c_ (gf d x)).2<((gf d x).size:Int)) then rK d (a_ aG x) (c_ (gf d x)).2 else (d,0)) fun y=>dY y (a_ aG x)
theorem Q8 (x:Int) {d:Ty.d aA} (h:DR d):DR (mf x d).1:=by
 unfold mf;refine jc ?_ fun y hy=>mj hy _
 cases decide ((c_ (gf d x)).2<((gf d x).size:Int))
 · exact h
 · exact Df h _ _
theorem Lf {d:Ty.d aA} (h:DR d) {x:Int} (c:(mf x d).2=0) (s:ByteArray):(bJ (mf x d).1 s).2=(bJ d s).2∧c_ (bJ (mf x d).1 s).1=c_ (bJ d s).1:=by
 obtain ⟨c1,c2,c3⟩:=lD c;have e:mf x d=_:=c2;rw [e];by_cases hb:(c_ (gf d x)).2<((gf d x).size:Int)
 · simp only [aW hb,aa] at c1 c3 ⊢;rw [GI (Df h _ _) c3,LU h c1];by_cases q:s=a_ aG x
   · rw [q,bQ,aa];refine ⟨?_,Kk (gf d x)⟩;cases hq:(bJ d (a_ aG x)).2 with
     | true=>rfl
     | false =>exfalso;unfold gf at hb;have hl:=na (bJ d (a_ aG x)).1;rw [OD hq] at hb hl;rw [e0] at hb;omega
   · rw [kZ q];exact ⟨rfl,rfl⟩
 · simp only [aY hb,aJ] at c1 c3 ⊢;rw [GI h c3];exact ⟨rfl,rfl⟩
end Go.Proofs.YtaaincbnjkmapaaGreatDoor.G

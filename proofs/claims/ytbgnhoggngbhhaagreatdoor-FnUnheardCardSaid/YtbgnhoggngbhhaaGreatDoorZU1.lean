/- Plain laws, merged; what is proved here is told ahead of each part. -/
import Derived.Test.YtbgnhoggngbhhaaGreatDoorZUE
import Derived.Lib.ItoaNum
import Derived.Lib.AtoiAll
import Derived.Lib.AtoiAllCases
import Derived.Test.YtbgnhoggngbhhaaGreatDoorVPure
import Derived.Test.YtbgnhoggngbhhaaGreatDoorXLib
set_option linter.unusedVariables false
set_option linter.unusedSimpArgs false
namespace Go.V
theorem aX {α β:Type} {a:α} {f:α→Option β}:Option.bind (some a) f=f a:=rfl
theorem aJ {α:Type} {a b:α}:cond false a b=b:=rfl
theorem aa {α:Type} {a b:α}:cond true a b=a:=rfl
theorem fN:(!true)=false:=rfl
theorem tR:(!false)=true:=rfl
theorem pz {α:Type} [BEq α] [LawfulBEq α] {a b:α} (h:a≠b):(a==b)=false:=beq_eq_false_iff_ne.2 h
theorem rI (i:Nat):Int.toNat (i:Int)=i:=Int.toNat_natCast i
theorem jj {α:Type} {a:α} {l:List α}:(a::l).length=l.length+1:=rfl
theorem py {α:Type} {l m:List α}:(l++m).length=l.length+m.length:=List.length_append
theorem nw {α:Type} (l m n:List α):l++m++n=l++(m++n):=List.append_assoc l m n
theorem C9 {α:Type} [BEq α] [LawfulBEq α] {a b:α} (h:(a==b)=true):a=b:=beq_iff_eq.1 h
theorem iA (a b:Bool):((a&&b)=true)=(a=true∧b=true):=Bool.and_eq_true a b
theorem ii {α:Type} {a:α} {l:List α}:a ∈ a::l:=List.mem_cons_self
theorem kR {α:Type} (y:α) {a:α} {l:List α} (h:a ∈ l):a ∈ y::l:=List.mem_cons_of_mem y h
theorem aV {p:Prop} [Decidable p] (h:p):decide p=true:=decide_eq_true h
theorem aY {p:Prop} [Decidable p] (h:¬ p):decide p=false:=decide_eq_false h
theorem bf {R:Type} {b n:Nat} {k:Option R} (h:n≤1099511627776) (hb:b≤128):rm b n k=k :=
 Pt (Nat.le_trans (Nat.mul_le_mul h hb) (by decide)) (by omega)
theorem iz {R:Type} {a b:ByteArray} {k:Option R} (h:a.size+b.size≤4611686018427387904):o8 a b k=k:=Co (by omega)
theorem pV {R:Type} {b:Nat} {n:Int} {k:Option R} (h0:0≤n) (h:n≤1099511627776) (hb:b≤128):u7 b n k=k :=
 HT h0 (Nat.le_trans (Nat.mul_le_mul (show n.toNat≤1099511627776 by omega) hb) (by decide)) (by omega)
theorem yR {n:Int} (h0:0≤n) (h1:n≤4294967295):IntKind.wrap .u32 n=n:=by
 unfold IntKind.wrap
 simp [IntKind.bits,IntKind.signed]
 omega
theorem w_ {n:Int} (h0:0≤n) (h1:n≤255):IntKind.wrap .u8 n=n:=by
 unfold IntKind.wrap
 simp [IntKind.bits,IntKind.signed]
 omega
theorem Og {α:Type} {g:Nat→Option α} {r:α} (h:∀ k,2 ^ 50≤k→g k=some r):Ev g r:=⟨2 ^ 50,h⟩
section
variable {α σ ρ:Type}
theorem MO {L:Nat→Int→σ→Option ρ} {R:Int→σ→Option ρ} (N:Int) (P:Int→σ→Prop)
 (h0:∀ (n:Nat) s,P N s→L (n+1) N s=R N s)
 (h1:∀ (n:Nat) (i:Int) s,0≤i→i<N→P i s→(∀ s',P (i+1) s'→L n (i+1) s'=R (i+1) s')→L (n+1) i s=R i s) :
 ∀ (n:Nat) (i:Int) s,0≤i→i≤N→N-i<n→P i s→L n i s=R i s
 | 0,i,s,hi,hN,hn,_=>by omega
 | n+1,i,s,hi,hN,hn,hs=>by
  by_cases c:i=N
  · subst c;exact h0 n s hs
  · exact h1 n i s hi (by omega) hs fun s' q=>MO N P h0 h1 n (i+1) s' (by omega) (by omega) (by omega) q
theorem Oo {L:Nat→Int→σ→Option ρ} {R:List α→σ→Option ρ} (z:α) (l:List α) (P:Int→σ→Prop)
 (h0:∀ (n:Nat) s,P l.length s→L (n+1) l.length s=R [] s)
 (h1:∀ (n:Nat) (i:Int) s x rest,0≤i→i<l.length→l.getD i.toNat z=x→l.drop i.toNat=x::rest→P i s→(∀ s',P (i+1) s'→L n (i+1) s'=R rest s')→L (n+1) i s=R (x::rest) s) :
 ∀ (n:Nat) (i:Int) s,0≤i→i≤l.length→(l.length:Int)-i<n→P i s→L n i s=R (l.drop i.toNat) s:=by
 intro n i s hi hN hn hs
 refine MO (L:=L) (R:=fun i s=>R (l.drop i.toNat) s) l.length P (fun n s q=>?_) (fun n i s hi hlt q ih=>?_) n i s hi hN hn hs
 · rw [h0 n s q,Int.toNat_natCast,List.drop_length]
 · have hl:i.toNat<l.length:=by omega
   have e:l.drop i.toNat=l.getD i.toNat z::l.drop (i+1).toNat:=by
    rw [List.drop_eq_getElem_cons hl,show (i+1).toNat=i.toNat+1 by omega]
    simp [List.getD,hl]
   show _=R (l.drop i.toNat) s
   rw [e]
   exact h1 n i s _ _ hi hlt rfl e q ih
theorem fe {L:Nat→Int→σ→Option ρ} {R:List α→σ→Option ρ} (z:α) (l:List α) (P:Int→σ→Prop)
 (h0:∀ (n:Nat) s,P l.length s→L (n+1) l.length s=R [] s)
 (h1:∀ (n:Nat) (i:Int) s x rest,0≤i→i<l.length→l.getD i.toNat z=x→l.drop i.toNat=x::rest→P i s→(∀ s',P (i+1) s'→L n (i+1) s'=R rest s')→L (n+1) i s=R (x::rest) s)
 {n:Nat} {s:σ} (hn:l.length<n) (hs:P 0 s):L n 0 s=R l s:=by
 have:=Oo z l P h0 h1 n 0 s (by omega) (by omega) (by omega) hs
 simpa using this
end
theorem kE {a b:ByteArray} (h:a≠b):seq a b=false:=by
 cases c:seq a b
 · rfl
 · exact absurd (eE.1 c) h
theorem FV {a b:ByteArray} (h:a=b):seq a b=true:=eE.2 h
theorem I8 (a b:ByteArray):seq a b=decide (a=b):=by
 by_cases h:a=b
 · rw [FV h,aV h]
 · rw [kE h,aY h]
def vl:Nat→Nat→List Nat
 | 0,a=>[a]
 | d+1,a=>if a≥128 then (128+a % 128)::vl d (a/128) else [a]
def tJ:List Nat→Nat
 | []=>0
 | b::p=>b % 128+128*tJ p
def rU:List Nat→Bool
 | []=>false
 | [b]=>decide (b<128)
 | b::c::p=>decide (128≤b)&&(decide (b<256)&&(rU (c::p)&&!(decide (p=[])&&c==0)))
theorem yC:∀ (d a:Nat),a<128 ^ (d+1)→rU (vl d a)=true∧tJ (vl d a)=a∧(vl d a=[0]→a=0)
 | 0,a,h=>by
  have:a<128:=by simpa using h
  refine ⟨by simp [vl,rU,this],by simp [vl,tJ];omega,fun q=>by simpa [vl] using q⟩
 | d+1,a,h=>by
  unfold vl
  by_cases c:a≥128
  · rw [if_pos c]
    obtain ⟨h1,h2,h3⟩:=yC d (a/128) (by rw [Nat.pow_succ] at h;omega)
    refine ⟨?_,by rw [tJ,h2];omega,fun q=>by have:=(List.cons.inj q).1;omega⟩
    generalize vl d (a/128)=l at h1 h2 h3
    match l,h1 with
    | x::p,h1 =>
     simp only [rU,h1]
     have e1:decide (128≤128+a % 128)=true:=decide_eq_true (by omega)
     have e2:decide (128+a % 128<256)=true:=decide_eq_true (by omega)
     rw [e1,e2]
     cases hp:(decide (p=[])&&x==0)
     · rfl
     · simp only [iA,decide_eq_true_eq,beq_iff_eq] at hp
       have:=h3 (by rw [hp.1,hp.2])
       omega
  · rw [if_neg c]
    have:a<128:=by omega
    exact ⟨by simp [rU,this],by simp [tJ];omega,fun q=>by simpa using q⟩
theorem Ea:∀ (p:List Nat),rU p=true→p≠[0]→1≤tJ p
 | [],h,_=>by simp [rU] at h
 | [b],h,q=>by
  simp only [rU,decide_eq_true_eq] at h
  simp only [tJ]
  have:b≠0:=fun e=>q (by rw [e])
  omega
 | b::c::p,h,_=>by
  simp only [rU,iA,decide_eq_true_eq,Bool.not_eq_true'] at h
  have ih:=Ea (c::p) h.2.2.1 (fun e=>by
   have e1:c=0:=(List.cons.inj e).1
   have e2:p=[]:=(List.cons.inj e).2
   have:=h.2.2.2
   rw [e1,e2] at this
   simp at this)
  rw [tJ]
  omega
theorem Dm:∀ (d:Nat) (p:List Nat),rU p=true→p.length≤d+1→vl d (tJ p)=p
 | _,[],h,_=>by simp [rU] at h
 | 0,[b],h,_=>by
  simp only [rU,decide_eq_true_eq] at h
  simp [vl,tJ];omega
 | d+1,[b],h,_=>by
  simp only [rU,decide_eq_true_eq] at h
  have e:tJ [b]=b:=by simp [tJ];omega
  rw [e,vl,if_neg (by omega)]
 | 0,b::c::p,_,hl=>by simp at hl
 | d+1,b::c::p,h,hl=>by
  have h0:=h
  simp only [rU,iA,decide_eq_true_eq,Bool.not_eq_true'] at h
  have hp:=Ea (c::p) h.2.2.1 (fun e=>by
   have e1:c=0:=(List.cons.inj e).1
   have e2:p=[]:=(List.cons.inj e).2
   have:=h.2.2.2
   rw [e1,e2] at this
   simp at this)
  have ih:=Dm d (c::p) h.2.2.1 (by simp at hl ⊢;omega)
  rw [tJ,vl,if_pos (by omega)]
  rw [show (b % 128+128*tJ (c::p))/128=tJ (c::p) by omega,ih]
  congr 1
  omega
theorem EJ:∀ (p:List Nat) (b:Nat),tJ (p++[b])=tJ p+128 ^ p.length*(b % 128)
 | [],b=>by simp [tJ]
 | a::p,b=>by
  rw [List.cons_append,tJ,EJ p b,tJ,jj,Nat.pow_succ,Nat.mul_add,Nat.mul_comm (128 ^ p.length) 128,Nat.mul_assoc]
  omega
theorem Dh:∀ (p:List Nat),tJ p<128 ^ p.length
 | []=>by simp [tJ]
 | a::p=>by
  have:=Dh p
  rw [tJ,jj,Nat.pow_succ]
  omega
def nb (s:ByteArray):List Nat:=s.data.toList.map UInt8.toNat
theorem dW (s:ByteArray):(nb s).length=s.size:=by
 unfold nb
 rw [List.length_map,Array.length_toList]
 rfl
theorem OK {s:ByteArray} {x:Nat} (h:x ∈ nb s):x<256:=by
 unfold nb at h
 rw [List.mem_map] at h
 obtain ⟨y,_,rfl⟩:=h
 exact UInt8.toNat_lt y
theorem kJ {a b:ByteArray} (h:nb a=nb b):a=b:=by
 unfold nb at h
 have h1:a.data.toList=b.data.toList:=List.map_inj_right (fun x y e=>UInt8.toNat_inj.1 e) |>.1 h
 exact ByteArray.ext (Array.toList_inj.1 h1)
theorem Bm {s:ByteArray} {i:Nat} (h:i<s.size):jC s (i:Int)=(((nb s).getD i 0:Nat):Int):=by
 unfold jC nb
 have h1:i<s.data.toList.length:=by rw [Array.length_toList];exact h
 rw [Int.toNat_natCast,List.getD,List.getD,List.getElem?_map,List.getElem?_eq_getElem h1]
 rfl
theorem G5 {l:List Nat} (h:∀ x ∈ l,x<256):nb (bytesOf (l.map Int.ofNat))=l:=by
 unfold nb bytesOf
 simp only [List.map_map,List.toList_toArray]
 induction l with
 | nil=>rfl
 | cons x l ih =>
  rw [List.map_cons,ih (fun y hy=>h y (kR _ hy))]
  have:=h x (ii ..)
  congr 1
  show (UInt8.ofNat (Int.toNat (x:Int))).toNat=x
  rw [Int.toNat_natCast]
  simp
  omega
theorem lB (s:ByteArray) (n:Nat):nb (ByteArray.extract s 0 n)=(nb s).take n:=by
 unfold nb
 simp [ByteArray.data_extract,List.map_take]
theorem OB:∀ (d a:Nat),a<128 ^ (d+1)→∀ x ∈ vl d a,x<256
 | 0,a,h,x,hx=>by simp [vl] at hx;subst hx;simp at h;omega
 | d+1,a,h,x,hx=>by
  unfold vl at hx
  split at hx
  · rcases List.mem_cons.1 hx with q | q
    · subst q;omega
    · exact OB d _ (by rw [Nat.pow_succ] at h;omega) x q
  · simp at hx;subst hx;omega
def bp (a:Nat):ByteArray:=bytesOf ((vl 6 a).map Int.ofNat)
theorem vx {a:Nat} (h:a<562949953421312):nb (bp a)=vl 6 a:=G5 (OB 6 a (by rw [show (128:Nat) ^ (6+1)=562949953421312 by decide];exact h))
theorem JS {s:ByteArray} {n:Nat} (h0:1≤n) (h7:n≤7) (hs:n≤s.size):seq (bp (tJ ((nb s).take n))) (ByteArray.extract s 0 n)=rU ((nb s).take n):=by
 have hl:((nb s).take n).length=n:=by rw [List.length_take,dW];omega
 have hd:tJ ((nb s).take n)<562949953421312:=by
  have:=Dh ((nb s).take n)
  rw [hl] at this
  have h2:(128:Nat) ^ n≤128 ^ 7:=Nat.pow_le_pow_right (by decide) h7
  rw [show (128:Nat) ^ 7=562949953421312 by decide] at h2
  omega
 rw [Bool.eq_iff_iff,eE]
 constructor
 · intro e
   have e1:nb (bp (tJ ((nb s).take n)))=(nb s).take n:=by rw [e,lB]
   rw [vx hd] at e1
   have:=(yC 6 (tJ ((nb s).take n)) (by rw [show (128:Nat) ^ (6+1)=562949953421312 by decide];exact hd)).1
   rw [e1] at this
   exact this
 · intro c
   refine kJ ?_
   rw [vx hd,lB]
   exact Dm 6 _ c (by omega)
open Go
def jl (n:Int):ByteArray:=⟨(Lib.itoa n).toArray⟩
theorem qz (u:Nat):Lib.decDigits u≠[]:=by
 rw [Lib.decDigits]
 split <;> simp
theorem sW {d:Nat} (h:d<10):(UInt8.ofNat (48+d)).toNat=48+d:=by
 simp
 omega
theorem kX (u:Nat):∀ b ∈ Lib.decDigits u,48≤b.toNat∧b.toNat≤57:=by
 induction u using Nat.strongRecOn with
 | _ u ih =>
  intro b hb
  rw [Lib.decDigits] at hb
  split at hb
  · rename_i h
    rw [List.mem_singleton] at hb
    subst hb
    rw [sW h]
    omega
  · rename_i h
    rcases List.mem_append.1 hb with q | q
    · exact ih (u/10) (by omega) b q
    · rw [List.mem_singleton] at q
      subst q
      rw [sW (by omega)]
      omega
def sO:List Nat→Nat→Nat
 | [],a=>a
 | b::l,a=>sO l (a*10+(b-48))
theorem Br:∀ (l m:List Nat) (a:Nat),sO (l++m) a=sO m (sO l a)
 | [],m,a=>rfl
 | b::l,m,a=>Br l m _
theorem wn (u:Nat):sO ((Lib.decDigits u).map UInt8.toNat) 0=u:=by
 induction u using Nat.strongRecOn with
 | _ u ih =>
  rw [Lib.decDigits]
  split
  · rename_i h
    simp only [List.map_cons,List.map_nil,sO,sW h]
    omega
  · rename_i h
    rw [List.map_append,Br,ih (u/10) (by omega)]
    simp only [List.map_cons,List.map_nil,sO,sW (show u % 10<10 by omega)]
    omega
theorem kh:∀ (k u:Nat),u<10 ^ (k+1)→(Lib.decDigits u).length≤k+1
 | 0,u,h=>by
  rw [Lib.decDigits,dif_pos (by simpa using h)]
  simp
 | k+1,u,h=>by
  rw [Lib.decDigits]
  split
  · simp
  · have:=kh k (u/10) (by rw [Nat.pow_succ] at h;omega)
    rw [py]
    show _+1≤_
    omega
theorem pF (n:Int):nb (jl n)=if n<0 then 45::(Lib.decDigits n.natAbs).map UInt8.toNat else (Lib.decDigits n.toNat).map UInt8.toNat:=by
 unfold nb jl Lib.itoa
 split <;> simp
theorem Ac {a b:Int} (h:jl a=jl b):a=b:=by
 have h1:=congrArg nb h
 rw [pF,pF] at h1
 have hd:∀ u:Nat,∀ l,(Lib.decDigits u).map UInt8.toNat≠45::l:=fun u l q=>by
  have hm:(45:Nat) ∈ (Lib.decDigits u).map UInt8.toNat:=by rw [q];exact ii ..
  obtain ⟨x,hx,e⟩:=List.mem_map.1 hm
  have:=kX u x hx
  omega
 by_cases ca:a<0
 · rw [if_pos ca] at h1
   by_cases cb:b<0
   · rw [if_pos cb] at h1
     have h2:=(List.cons.inj h1).2
     have h3:=congrArg (fun l=>sO l 0) h2
     simp only [wn] at h3
     omega
   · rw [if_neg cb] at h1
     exact absurd h1.symm (hd _ _)
 · rw [if_neg ca] at h1
   by_cases cb:b<0
   · rw [if_pos cb] at h1
     exact absurd h1 (hd _ _)
   · rw [if_neg cb] at h1
     have h3:=congrArg (fun l=>sO l 0) h1
     simp only [wn] at h3
     omega
theorem FK (n:Int) (h0 : -9223372036854775808≤n) (h1:n≤9223372036854775807):(jl n).size≤20:=by
 rw [← dW,pF]
 split
 · have:=kh 18 n.natAbs (by rw [show (10:Nat) ^ (18+1)=10000000000000000000 by decide];omega)
   rw [jj,List.length_map]
   omega
 · have:=kh 18 n.toNat (by rw [show (10:Nat) ^ (18+1)=10000000000000000000 by decide];omega)
   rw [List.length_map]
   omega
theorem xC:∀ (l:List UInt8) (a:Nat),(∀ b ∈ l,48≤b.toNat∧b.toNat≤57)→(a+1)*10 ^ l.length≤1000000000000000000→Lib.parseUint10 a l = .ok (sO (l.map UInt8.toNat) a)
 | [],a,_,_=>rfl
 | c::l,a,h,hb=>by
  have hc:=h c (ii ..)
  rw [jj,Nat.pow_succ,Nat.mul_comm (10 ^ l.length) 10,← Nat.mul_assoc] at hb
  have hp:1≤10 ^ l.length:=Nat.one_le_pow _ _ (by decide)
  have h1:(a+1)*10*1≤(a+1)*10*10 ^ l.length:=Nat.mul_le_mul (Nat.le_refl _) hp
  have ih:=xC l (a*10+(c.toNat-48)) (fun x hx=>h x (kR _ hx)) (Nat.le_trans (Nat.mul_le_mul (by omega) (Nat.le_refl _)) hb)
  rw [Lib.parseUint10,if_pos hc,if_neg (by omega),if_neg (by omega),ih,List.map_cons,sO]
theorem C7 {u:Nat} (h:u<1000000000):Lib.parseMag (Lib.decDigits u) = .ok u:=by
 have hl:=kh 8 u (by rw [show (10:Nat) ^ (8+1)=1000000000 by decide];exact h)
 have hp:10 ^ (Lib.decDigits u).length≤10 ^ 9:=Nat.pow_le_pow_right (by decide) hl
 rw [show (10:Nat) ^ 9=1000000000 by decide] at hp
 unfold Lib.parseMag
 rw [if_neg (qz u),xC _ 0 (kX u) (by omega),wn]
theorem Kn {n:Int} (h0 : -1000000000<n) (h1:n<1000000000):Lib.atoiAll (Lib.itoa n) = .ok n:=by
 unfold Lib.itoa
 by_cases c:n<0
 · rw [if_pos c,Lib.atoiAll_minus,C7 (by omega)]
   simp only [Lib.signed]
   rw [if_neg (by omega)]
   congr 1
   omega
 · rw [if_neg c]
   have hp:=C7 (u:=n.toNat) (by omega)
   cases q:Lib.decDigits n.toNat with
   | nil=>exact absurd q (qz _)
   | cons d r =>
    have hd:=kX n.toNat d (by rw [q];exact ii ..)
    rw [q] at hp
    rw [Lib.atoiAll_plain d r (by omega) (by omega),hp]
    simp only [Lib.signless]
    rw [if_neg (by omega)]
    congr 1
    omega
section
variable {α ρ:Type}
def pR (ok:Option α→α→Bool):Option α→List α→Bool
 | _,[]=>true
 | p,x::l=>ok p x&&pR ok (some x) l
theorem wo {L:Nat→Int→Option ρ} (z:α) (l:List α) (ok:Option α→α→Bool) (yes no:Option ρ) (h0:∀ (n:Nat),L (n+1) l.length=yes)
 (h1:∀ (n:Nat) x,0<l.length→l.getD (Int.toNat 0) z=x→L (n+1) 0=bif ok none x then L n 1 else no)
 (h2:∀ (n:Nat) (i:Int) x y,0<i→i<l.length→l.getD i.toNat z=x→l.getD (i-1).toNat z=y→L (n+1) i=bif ok (some y) x then L n (i+1) else no)
 {n:Nat} (hn:l.length<n):L n 0=bif pR ok none l then yes else no:=by
 have key:∀ (d i n:Nat),l.length=i+d→0<i→d<n→L n (i:Int)=bif pR ok (some (l.getD (i-1) z)) (l.drop i) then yes else no:=by
  intro d
  induction d with
  | zero =>
   intro i n h h' hn
   obtain ⟨n,rfl⟩:∃ q,n=q+1:=⟨n-1,by omega⟩
   have:i=l.length:=by omega
   subst this
   rw [h0 n,List.drop_length]
   rfl
  | succ d ih =>
   intro i n h h' hn
   obtain ⟨n,rfl⟩:∃ q,n=q+1:=⟨n-1,by omega⟩
   have hl:i<l.length:=by omega
   have e:l.drop i=l.getD i z::l.drop (i+1):=by
    rw [List.drop_eq_getElem_cons hl]
    simp [List.getD,hl]
   have ih:=ih (i+1) n (by omega) (by omega) (by omega)
   rw [h2 n i (l.getD i z) (l.getD (i-1) z) (by omega) (by omega) (by rw [Int.toNat_natCast]) (by rw [show ((i:Int)-1).toNat=i-1 by omega]),e,pR]
   rw [show ((i:Int)+1)=((i+1:Nat):Int) by omega,ih,show i+1-1=i by omega]
   cases ok (some (l.getD (i-1) z)) (l.getD i z) <;> rfl
 obtain ⟨n,rfl⟩:∃ q,n=q+1:=⟨n-1,by omega⟩
 cases l with
 | nil=>exact h0 n
 | cons x l =>
  rw [h1 n x (by simp) rfl,pR]
  have:=key l.length 1 n (by rw [jj];omega) (by omega) (by rw [jj] at hn;omega)
  rw [show ((1:Nat):Int)=1 from rfl] at this
  rw [this]
  cases ok none x <;> rfl
theorem Cg {ok:Option α→α→Bool} {l:List α} {p:Option α} (h:pR ok p l=true) {x:α} (hx:x ∈ l):∃ q,ok q x=true:=by
 induction l generalizing p with
 | nil=>cases hx
 | cons y l ih =>
  rw [pR,iA] at h
  rcases List.mem_cons.1 hx with e | e
  · subst e;exact ⟨p,h.1⟩
  · exact ih h.2 e
end
theorem wZ {α:Type} {l:List α} {n i:Nat} {z:α} (h:i<n):(l.take n).getD i z=l.getD i z:=by
 simp [List.getD,List.getElem?_take,h]
theorem mX {α:Type} {l:List α} {i:Nat} {z:α} (h:i<l.length):l.take (i+1)=l.take i++[l.getD i z]:=by
 rw [List.take_succ_eq_append_getElem h]
 simp [List.getD,h]
theorem d8 {α:Type} (l:List α) (x:α):(l++[x]).length=l.length+1:=by simp
def dB (l:List UInt8):ByteArray:=⟨l.toArray⟩
theorem Df (s:ByteArray):dB []++s=s:=by
 apply ByteArray.ext
 simp [dB,ByteArray.data_append]
theorem Kp (s:ByteArray):s++dB []=s:=by
 apply ByteArray.ext
 simp [dB,ByteArray.data_append]
theorem oe (a b c:ByteArray):a++b++c=a++(b++c):=by
 apply ByteArray.ext
 simp [ByteArray.data_append]
theorem mw {n:Int} (h0 : -9223372036854775808≤n) (h1:n≤9223372036854775807):(jl n).size≤20:=FK n h0 h1
def lV:List Nat→Bool
 | []=>true
 | b::l=>(decide (97≤b∧b≤122)||decide (48≤b∧b≤57))&&lV l
def j9 (s:ByteArray):Bool:=lV (nb s)&&decide (1≤s.size∧s.size≤12)
end Go.V
namespace Go.Proofs.YtbgnhoggngbhhaaGreatDoor.G
open Go.V
theorem HO (k:Nat) {n:Int} (h0 : -9223372036854775808≤n) (h1:n≤9223372036854775807):nY.f k n=some (jl n,()):=by
 unfold nY.f nY.t nW.f
 rw [aV ⟨h0,h1⟩]
 rfl
theorem iQ (k:Nat) (a b c:Int):ac.f k a b c=some (decide (b≤a∧a≤c),()):=by
 unfold ac.f ac.t
 by_cases h:a≥b
 · rw [aV h,aa,decide_eq_decide.2 (show (b≤a∧a≤c)↔a≤c from ⟨fun q=>q.2,fun q=>⟨h,q⟩⟩)]
 · rw [aY h,aJ,aY (fun q=>h q.1)]
theorem ot (k:Nat) (a b c:Int):bP.f k a b c=some (decide (b≤a∧a≤c),()):=by
 unfold bP.f bP.t
 by_cases h:a≥b
 · rw [aV h,aa,decide_eq_decide.2 (show (b≤a∧a≤c)↔a≤c from ⟨fun q=>q.2,fun q=>⟨h,q⟩⟩)]
 · rw [aY h,aJ,aY (fun q=>h q.1)]
theorem Nk {s:ByteArray} {i:Int} {x:Nat} (h0:0≤i) (h1:i<((nb s).length:Int)) (hx:(nb s).getD i.toNat 0=x):jC s i=(x:Int):=by
 rw [dW] at h1
 have:=Bm (s:=s) (i:=i.toNat) (by omega)
 rw [show ((i.toNat:Nat):Int)=i by omega,hx] at this
 exact this
theorem MJ {s:ByteArray}:(some ((bif lV (nb s) then decide (1≤(s.size:Int)∧(s.size:Int)≤12) else false),()):Option (Bool × Unit))=some (j9 s,()):=by
 unfold j9
 rw [decide_eq_decide.2 (show (1≤(s.size:Int)∧(s.size:Int)≤12)↔(1≤s.size∧s.size≤12) by omega)]
 cases lV (nb s) <;> rfl
theorem pJ {k:Nat} (hk:2 ^ 50≤k) {s:ByteArray} (hs:s.size≤1099511627776):eC.f k s=some (j9 s,()):=by
 unfold eC.f eC.t
 have hn:=dW s
 refine (fe (L:=fun n i (_:Unit)=>eC.l0 k n s i) (R:=fun r _=>some ((bif lV r then decide (1≤(s.size:Int)∧(s.size:Int)≤12) else false),())) 0 (nb s) (fun _ _=>True) (fun n _ _=>?_) (fun n i _ x rest h0 h1 hx hr hp ih=>?_) (n:=k) (s:=()) (by omega) trivial).trans MJ
 · simp only [hn]
   simp (disch:=omega) only [eC.l0,eC.b0,aY,aJ,iQ k,aX,lV,aa]
 · have hb:=Nk h0 h1 hx
   have ih:=ih () trivial
   simp only [hn] at *
   simp (disch:=omega) only [eC.l0,eC.b0,aV h1,aa,aN,hb,aE,ih,lV]
   by_cases c1:97≤x
   · rw [aV (show (x:Int)≥97 by omega),aa]
     by_cases c2:x≤122
     · rw [aV (show (x:Int)≤122 by omega),aV (show 97≤x∧x≤122 from ⟨c1,c2⟩)]
       rfl
     · rw [aY (show ¬ (x:Int)≤122 by omega),aY (show ¬ (97≤x∧x≤122) by omega),aV (show (x:Int)≥48 by omega),aY (show ¬ (x:Int)≤57 by omega),aY (show ¬ (48≤x∧x≤57) by omega)]
       rfl
   · rw [aY (show ¬ (x:Int)≥97 by omega),aJ,aY (show ¬ (97≤x∧x≤122) by omega)]
     by_cases c3:48≤x
     · rw [aV (show (x:Int)≥48 by omega),aa]
       by_cases c4:x≤57
       · rw [aV (show (x:Int)≤57 by omega),aV (show 48≤x∧x≤57 from ⟨c3,c4⟩)]
         rfl
       · rw [aY (show ¬ (x:Int)≤57 by omega),aY (show ¬ (48≤x∧x≤57) by omega)]
         rfl
     · rw [aY (show ¬ (x:Int)≥48 by omega),aJ,aY (show ¬ (48≤x∧x≤57) by omega)]
       rfl
abbrev bo:=List (Ty.d cE)
def di (l:bo):Nat:=(l.map fun f=>f.2.1.size).sum
def tY (l:bo):Nat:=(l.map fun f=>f.1.size).sum
theorem ff (x:Ty.d cE) (l:bo):di (x::l)=x.2.1.size+di l:=by unfold di;rw [List.map_cons,List.sum_cons]
theorem AC:di []=0:=rfl
theorem AN (x:Ty.d cE) (l:bo):tY (x::l)=x.1.size+tY l:=by unfold tY;rw [List.map_cons,List.sum_cons]
theorem zO:∀ l m:bo,di (l++m)=di l+di m
 | [],m=>by rw [List.nil_append,AC,Nat.zero_add]
 | x::l,m=>by rw [List.cons_append,ff,ff,zO l m];omega
theorem vZ {l:bo} {x:Ty.d cE} (h:x ∈ l):x.2.1.size≤di l:=by
 induction l with
 | nil=>cases h
 | cons y l ih =>
  rw [ff]
  rcases List.mem_cons.1 h with e | e
  · subst e;omega
  · have:=ih e;omega
theorem wL {l:bo} {x:Ty.d cE} (h:x ∈ l):x.1.size≤tY l:=by
 induction l with
 | nil=>cases h
 | cons y l ih =>
  rw [AN]
  rcases List.mem_cons.1 h with e | e
  · subst e;omega
  · have:=ih e;omega
def sC (p:Option (Ty.d cE)) (x:Ty.d cE):Bool :=
 j9 x.1&&(decide ((0:Int)≤x.2.2.1∧x.2.2.1≤(x.2.1.size:Int))&&(match p with | none=>true | some y=>nT y.1 x.1))
def j6 (d:Ty.d aA):Bool :=
 decide (d.1.length≤130)&&(decide ((0:Int)≤d.2.1∧d.2.1≤(100000:Int))&&(decide ((-1:Int)≤d.2.2.1∧d.2.2.1≤(100000:Int))&&(decide ((di d.1:Int)≤d.2.1)&&pR sC none d.1)))
theorem BO {l:bo} {i:Nat} {x:Ty.d cE} (h:i<l.length) (hx:l.getD i (Ty.z cE)=x):di (l.take (i+1))=di (l.take i)+x.2.1.size:=by
 rw [List.take_add_one,zO]
 congr 1
 simp only [List.getD,List.getElem?_eq_getElem h,Option.getD_some] at hx
 rw [List.getElem?_eq_getElem h,hx]
 show di [x]=_
 rw [ff,AC,Nat.add_zero]
theorem vj (l:bo) (i:Nat):di (l.take i)≤di l:=by
 have:=zO (l.take i) (l.drop i)
 rw [List.take_append_drop] at this
 omega
theorem iG {k:Nat} (hk:2 ^ 50≤k) {d:Ty.d aA} (hu:di d.1≤1099511627776) (hn:tY d.1≤1099511627776):ay.f k d=some (j6 d,()):=by
 unfold ay.f ay.t j6
 by_cases c:d.1.length > 130
 · rw [aV (by omega),aa,aY (by omega),Bool.false_and]
 · rw [aY (by omega),aJ,aV (by omega),Bool.true_and,iQ,aX]
   cases decide ((0:Int)≤d.2.1∧d.2.1≤(100000:Int)) with
   | false=>rfl
   | true =>
    rw [fN,aJ,iQ,aX,Bool.true_and]
    cases decide ((-1:Int)≤d.2.2.1∧d.2.2.1≤(100000:Int)) with
    | false=>rfl
    | true =>
     rw [fN,aJ,Bool.true_and]
     refine (wo (L:=fun n i=>ay.l0 k n (di (d.1.take i.toNat):Int) d.1 d.1.length i d.1 d.2.1 d.2.2.1 d.2.2.2.1) (Ty.z cE) d.1 sC (some (decide ((di d.1:Int)≤d.2.1),())) (some (false,())) (fun n=>?_) (fun n x h hx=>?_) (fun n i x y h0 h1 hx hy=>?_) (n:=k) (by omega)).trans
      (by cases pR sC none d.1 <;> cases decide ((di d.1:Int)≤d.2.1) <;> rfl)
     · rw [Int.toNat_natCast,List.take_length]
       simp (disch:=omega) only [ay.l0,ay.b0,aY,aJ]
     · have hm:x ∈ d.1:=by rw [← hx];exact fX (by omega)
       have hs:=wL hm
       have ht:=BO (l:=d.1) (i:=0) h hx
       have hle:=vj d.1 0
       have hz:=vZ hm
       rw [show Int.toNat 1=0+1 from rfl,ht]
       simp only [show Int.toNat 0=0 from rfl] at hx ⊢
       simp (disch:=omega) only [ay.l0,ay.b0,aV (show (0:Int)<(d.1.length:Int) by omega),aa,aN,show Int.toNat 0=0 from rfl,hx,pJ hk,iQ k,aX,aY (show ¬ (0:Int) > 0 by omega),aJ,aE,sC]
       rw [show (di (d.1.take 0):Int)+(x.2.1.size:Int)=((di (d.1.take 0)+x.2.1.size:Nat):Int) by omega]
       cases j9 x.1 <;> cases decide ((0:Int)≤x.2.2.1∧x.2.2.1≤(x.2.1.size:Int)) <;> rfl
     · have hm:x ∈ d.1:=by rw [← hx];exact fX (by omega)
       have hs:=wL hm
       have ht:=BO (l:=d.1) (i:=i.toNat) (by omega) hx
       have hle:=vj d.1 i.toNat
       have hz:=vZ hm
       rw [show Int.toNat (i+1)=i.toNat+1 by omega,ht]
       simp (disch:=omega) only [ay.l0,ay.b0,aV h1,aa,aN,hx,hy,pJ hk,iQ k,aX,aV (show i > 0 by omega),aJ,aE,sC]
       rw [show (di (d.1.take i.toNat):Int)+(x.2.1.size:Int)=((di (d.1.take i.toNat)+x.2.1.size:Nat):Int) by omega]
       cases j9 x.1 <;> cases decide ((0:Int)≤x.2.2.1∧x.2.2.1≤(x.2.1.size:Int)) <;> cases nT y.1 x.1 <;> rfl
def nu:bo→ByteArray→Int→Int
 | [],_,_ => -1
 | f::l,s,i=>bif seq f.1 s then i else nu l s (i+1)
def bS:bo→ByteArray→Option (Ty.d cE)
 | [],_=>none
 | f::l,s=>bif seq f.1 s then some f else bS l s
theorem zI:∀ (l:bo) (s:ByteArray) (i:Int),(bS l s=none∧nu l s i = -1)∨(∃ f,bS l s=some f∧i≤nu l s i∧nu l s i<i+(l.length:Int)∧l.getD (nu l s i-i).toNat (Ty.z cE)=f∧f ∈ l)
 | [],s,i => .inl ⟨rfl,rfl⟩
 | f::l,s,i=>by
  unfold nu bS
  cases c:seq f.1 s with
  | true=>exact .inr ⟨f,rfl,Int.le_refl _,by rw [aa,jj];omega,by rw [aa,show (i-i).toNat=0 by omega];rfl,ii ..⟩
  | false =>
   rw [aJ,aJ]
   rcases zI l s (i+1) with h | ⟨g,h1,h2,h3,h4,h5⟩
   · exact .inl h
   · refine .inr ⟨g,h1,by omega,by rw [jj];omega,?_,kR _ h5⟩
     rw [show (nu l s (i+1)-i).toNat=(nu l s (i+1)-(i+1)).toNat+1 by omega]
     exact h4
theorem jJ {k:Nat} (hk:2 ^ 50≤k) {d:Ty.d aA} (hl:d.1.length≤1099511627776) (s:ByteArray):bW.f k d s=some (nu d.1 s 0,()):=by
 unfold bW.f bW.t
 refine fe (L:=fun n i (_:Int)=>bW.l0 k n s d.1 d.1.length i) (R:=fun r j=>some (nu r s j,())) (Ty.z cE) d.1 (fun i j=>j=i) (fun n j hj=>?_) (fun n i j x rest h0 h1 hx hr hp ih=>?_) (n:=k) (s:=0) (by omega) rfl
 · simp (disch:=omega) only [bW.l0,bW.b0,aY,aJ,nu]
 · have ih:=ih (i+1) rfl
   subst hp
   simp (disch:=omega) only [bW.l0,bW.b0,aV h1,aa,aN,hx,aE,ih,nu]
   cases seq x.1 s <;> rfl
def bG (d:Ty.d aA) (s:ByteArray):ByteArray × Bool :=
 bif j6 d then (match bS d.1 s with | none=>(⟨#[]⟩,false) | some f=>(f.2.1,true)) else (⟨#[]⟩,false)
theorem lA (d:Ty.d aA) (s:ByteArray):(bG d s).1.size≤di d.1:=by
 unfold bG
 cases j6 d with
 | false=>exact Nat.zero_le _
 | true =>
  rw [aa]
  rcases zI d.1 s 0 with h | ⟨f,h1,_,_,_,h5⟩
  · rw [h.1];exact Nat.zero_le _
  · rw [h1];exact vZ h5
theorem jQ {k:Nat} (hk:2 ^ 50≤k) {d:Ty.d aA} (hl:d.1.length≤1099511627776) (hu:di d.1≤1099511627776) (hn:tY d.1≤1099511627776) (s:ByteArray) :
 bq.f k d s=some ((bG d s).1,((bG d s).2,())):=by
 unfold bq.f bq.t bG
 rw [jJ hk hl,aX]
 simp only []
 rcases zI d.1 s 0 with h | ⟨f,h1,h2,h3,h4,h5⟩
 · rw [h.1,h.2]
   cases j6 d <;> rfl
 · rw [h1,aY (by omega),aJ,iG hk hu hn,aX]
   cases j6 d with
   | false=>rfl
   | true =>
    simp only [fN,aJ,aa]
    rw [aN h2 (by omega)]
    rw [Int.sub_zero] at h4
    rw [h4]
def a_ (p:ByteArray) (n:Int):ByteArray:=bif decide ((1:Int)≤n∧n≤100000) then p++jl n else ⟨#[]⟩
def aF:ByteArray:=⟨#[115,101,103]⟩
theorem uc (k:Nat) {p:ByteArray} (hp:p.size≤1000) (n:Int):jZ.f k p n=some (a_ p n,()):=by
 unfold jZ.f jZ.t a_
 rw [iQ,aX]
 by_cases c:(1:Int)≤n∧n≤100000
 · have hz:=mw (n:=n) (by omega) (by omega)
   rw [aV c]
   simp only [fN,aJ,aa]
   rw [HO k (by omega) (by omega),aX,iz (by show p.size+(jl n).size≤_;omega)]
 · rw [aY c]
   rfl
theorem cX (k:Nat) (n:Int):aj.f k n=some (a_ aF n,()):=by
 unfold aj.f aj.t
 rw [uc k (by decide) n]
 rfl
structure ED (d:Ty.d aA):Prop where
 l:d.1.length≤1073741824
 u:di d.1≤1073741824
 n:tY d.1≤1073741824
end Go.Proofs.YtbgnhoggngbhhaaGreatDoor.G
namespace Go.V
theorem zx:∀ a b c:List UInt8,Op.bytesLess a b=true→Op.bytesLess b c=true→Op.bytesLess a c=true
 | a,b,[],_,h2=>by cases b <;> simp [Op.bytesLess] at h2
 | [],b,z::c,_,_=>by simp [Op.bytesLess]
 | x::a,[],z::c,h1,_=>by simp [Op.bytesLess] at h1
 | x::a,y::b,z::c,h1,h2=>by
  simp only [Op.bytesLess] at h1 h2 ⊢
  have ih:=zx a b c
  simp only [Bool.or_eq_true,iA,decide_eq_true_eq,beq_iff_eq] at h1 h2 ⊢
  rcases h1 with g1 | ⟨rfl,g1⟩
  · rcases h2 with g2 | ⟨rfl,g2⟩
    · exact Or.inl (UInt8.lt_trans g1 g2)
    · exact Or.inl g1
  · rcases h2 with g2 | ⟨rfl,g2⟩
    · exact Or.inl g2
    · exact Or.inr ⟨rfl,ih g1 g2⟩
theorem oL {a b c:ByteArray} (h1:nT a b=true) (h2:nT b c=true):nT a c=true:=zx _ _ _ h1 h2
theorem nM (a:ByteArray):nT a a=false:=by
 have:=sx a a
 rw [bZ] at this
 cases h:nT a a with
 | false=>rfl
 | true=>rw [h] at this;cases this
theorem J7 {a b:ByteArray} (h:nT a b=true):nT b a=false:=by
 cases c:nT b a with
 | false=>rfl
 | true=>have:=oL h c;rw [nM] at this;cases this
def cU (K:List ByteArray):Prop:=K.Pairwise (fun a b=>nT a b=true)
end Go.V
namespace Go.Proofs.YtbgnhoggngbhhaaGreatDoor.G
open Go.V
def kc:bo→Ty.d cE→bo
 | [],f=>[f]
 | g::l,f=>bif nT f.1 g.1 then f::g::l else g::kc l f
def gR:bo→ByteArray→bo
 | [],_=>[]
 | g::l,s=>bif seq g.1 s then l else g::gR l s
def ky (h:Ty.d cE→Ty.d cE):bo→ByteArray→bo
 | [],_=>[]
 | g::l,s=>bif seq g.1 s then h g::l else g::ky h l s
def li (d:Ty.d aA):Ty.d aA × Int :=
 bif !j6 d then (d,5) else bif d.2.2.2.1 then ((d.1,(d.2.1,(d.2.2.1,(true,())))),1) else bif (d.2.2.1==0) then ((d.1,(d.2.1,(d.2.2.1,(true,())))),1) else
 bif decide ((d.2.2.1:Int) > 0) then ((d.1,(d.2.1,(aQ (d.2.2.1-1),d.2.2.2))),0) else (d,0)
def i_ (d:Ty.d aA) (g:bo→Int→bo × Int):Ty.d aA × Int :=
 bif (li d).2 != 0 then li d else (((g d.1 d.2.1).1,(li d).1.2),(g d.1 d.2.1).2)
def tN (s:ByteArray) (l:bo) (c:Int):bo × Int :=
 bif !j9 s then (l,5) else bif (bS l s).isSome then (l,4) else bif decide ((l.length:Int)≥130) then (l,2) else (kc l (s,(ByteArray.empty,(0,()))),0)
def yZ (s t:ByteArray) (l:bo) (c:Int):bo × Int :=
 bif (bS l s).isNone then (l,3) else bif decide ((t.size:Int) > aQ (c-(di l:Int))) then (l,2) else (ky (fun f=>(f.1,(f.2.1++t,f.2.2))) l s,0)
def va (s:ByteArray) (l:bo) (c:Int):bo × Int :=
 bif (bS l s).isNone then (l,3) else (ky (fun f=>(f.1,(f.2.1,((f.2.1.size:Int),f.2.2.2)))) l s,0)
def uf (a b:ByteArray) (l:bo) (c:Int):bo × Int :=
 bif !j9 b then (l,5) else match bS l a with
 | none=>(l,3)
 | some f=>bif seq a b then (l,0) else (kc (gR (gR l a) b) (b,f.2),0)
def uN (s:ByteArray) (l:bo) (c:Int):bo × Int :=
 bif (bS l s).isNone then (l,3) else (gR l s,0)
def He (s:ByteArray) (n:Int) (l:bo) (c:Int):bo × Int :=
 match bS l s with
 | none=>(l,3)
 | some f=>bif !decide (0≤n∧n≤(f.2.1.size:Int)) then (l,5) else (ky (fun f=>(f.1,(ByteArray.extract f.2.1 0 n.toNat,((if n<f.2.2.1 then n else f.2.2.1),f.2.2.2)))) l s,0)
def qX (d:Ty.d aA) (s:ByteArray):=i_ d (tN s)
def jA (d:Ty.d aA) (s t:ByteArray):=i_ d (yZ s t)
def dS (d:Ty.d aA) (s:ByteArray):=i_ d (va s)
def wB (d:Ty.d aA) (a b:ByteArray):=i_ d (uf a b)
def xw (d:Ty.d aA) (s:ByteArray):=i_ d (uN s)
def qT (d:Ty.d aA) (s:ByteArray) (n:Int):=i_ d (He s n)
theorem zQ (d:Ty.d aA):(li d).1.1=d.1:=by
 unfold li
 cases j6 d <;> cases d.2.2.2.1 <;> cases d.2.2.1==0 <;> cases decide ((d.2.2.1:Int) > 0) <;> rfl
theorem KY (d:Ty.d aA):(li d).1.2.1=d.2.1:=by
 unfold li
 cases j6 d <;> cases d.2.2.2.1 <;> cases d.2.2.1==0 <;> cases decide ((d.2.2.1:Int) > 0) <;> rfl
theorem kw:∀ (l:bo) (s:ByteArray) (j:Int),(bS l s=none∧nu l s j = -1∧gR l s=l∧∀ h,ky h l s=l) ∨
 (∃ n:Nat,n<l.length∧nu l s j=j+n∧bS l s=some (l.getD n (Ty.z cE))∧l.take n++l.drop (n+1)=gR l s∧(l.getD n (Ty.z cE)).1=s∧(∀ h,l.set n (h (l.getD n (Ty.z cE)))=ky h l s))
 | [],s,j => .inl ⟨rfl,rfl,rfl,fun _=>rfl⟩
 | g::l,s,j=>by
  unfold nu bS gR ky
  cases c:seq g.1 s with
  | true =>
   refine .inr ⟨0,by rw [jj];omega,?_,rfl,rfl,eE.1 c,fun h=>rfl⟩
   show j=j+((0:Nat):Int)
   omega
  | false =>
   simp only [aJ]
   rcases kw l s (j+1) with ⟨h1,h2,h3,h4⟩ | ⟨n,h1,h2,h3,h4,h5,h6⟩
   · exact .inl ⟨h1,h2,by rw [h3],fun h=>by rw [h4]⟩
   · refine .inr ⟨n+1,by rw [jj];omega,by rw [h2];omega,h3,?_,h5,fun h=>?_⟩
     · rw [List.take_succ_cons,List.drop_succ_cons,List.cons_append,h4]
     · show g::l.set n (h (l.getD n (Ty.z cE)))=_
       rw [h6]
def FO (f:Ty.d cE):Prop:=j9 f.1=true∧LE.le (α:=Int) 0 f.2.2.1∧LE.le (α:=Int) f.2.2.1 f.2.1.size
def lH (l:bo):List ByteArray:=l.map (·.1)
theorem EQ:∀ (l:bo) (p:Option (Ty.d cE)),pR sC p l=true↔((∀ f ∈ l,FO f)∧cU (lH l)∧(∀ q,p=some q→∀ f ∈ l,nT q.1 f.1=true))
 | [],p=>by
  constructor
  · intro _
    exact ⟨fun f h=>(by cases h),List.Pairwise.nil,fun q _ f h=>(by cases h)⟩
  · intro _;rfl
 | g::l,p=>by
  have ih:=EQ l (some g)
  unfold pR
  rw [iA,ih]
  have hf:sC p g=true↔(FO g∧(∀ q,p=some q→nT q.1 g.1=true)):=by
   unfold sC FO
   rw [iA,iA,decide_eq_true_eq]
   cases p with
   | none=>exact ⟨fun h=>⟨⟨h.1,h.2.1⟩,fun q hq=>(by cases hq)⟩,fun h=>⟨h.1.1,h.1.2,rfl⟩⟩
   | some q=>exact ⟨fun h=>⟨⟨h.1,h.2.1⟩,fun q' hq=>(by cases hq;exact h.2.2)⟩,fun h=>⟨h.1.1,h.1.2,h.2 q rfl⟩⟩
  rw [hf]
  constructor
  · rintro ⟨⟨h1,h2⟩,h3,h4,h5⟩
    refine ⟨fun f hf=>?_,?_,fun q hq f hf=>?_⟩
    · rcases List.mem_cons.1 hf with e | e
      · rw [e];exact h1
      · exact h3 f e
    · unfold cU lH
      rw [List.map_cons,List.pairwise_cons]
      refine ⟨fun x hx=>?_,h4⟩
      obtain ⟨f,hf,rfl⟩:=List.mem_map.1 hx
      exact h5 g rfl f hf
    · rcases List.mem_cons.1 hf with e | e
      · rw [e];exact h2 q hq
      · exact oL (h2 q hq) (h5 g rfl f e)
  · rintro ⟨h1,h2,h3⟩
    unfold cU lH at h2
    rw [List.map_cons,List.pairwise_cons] at h2
    refine ⟨⟨h1 g (ii ..),fun q hq=>h3 q hq g (ii ..)⟩,fun f hf=>h1 f (kR _ hf),h2.2,fun q hq f hf=>?_⟩
    cases hq
    exact h2.1 f.1 (List.mem_map.2 ⟨f,hf,rfl⟩)
structure DR (d:Ty.d aA):Prop where
 len:d.1.length≤130
 cap0:LE.le (α:=Int) 0 d.2.1
 cap1:LE.le (α:=Int) d.2.1 100000
 fu0:LE.le (α:=Int) (-1) d.2.2.1
 fu1:LE.le (α:=Int) d.2.2.1 100000
 use:LE.le (α:=Int) (di d.1) d.2.1
 all:∀ f ∈ d.1,FO f
 keys:cU (lH d.1)
theorem jL {d:Ty.d aA}:j6 d=true↔DR d:=by
 unfold j6
 rw [iA,iA,iA,iA,decide_eq_true_eq,decide_eq_true_eq,decide_eq_true_eq,decide_eq_true_eq,EQ]
 constructor
 · rintro ⟨h1,⟨h2,h3⟩,⟨h4,h5⟩,h6,h7,h8,_⟩
   exact ⟨h1,h2,h3,h4,h5,h6,h7,h8⟩
 · intro h
   exact ⟨h.len,⟨h.cap0,h.cap1⟩,⟨h.fu0,h.fu1⟩,h.use,h.all,h.keys,fun q hq=>(by cases hq)⟩
theorem GN {s:ByteArray} (h:j9 s=true):1≤s.size∧s.size≤12:=by
 unfold j9 at h
 rw [iA,decide_eq_true_eq] at h
 exact h.2
theorem EE:∀ l:bo,(∀ f ∈ l,FO f)→tY l≤12*l.length
 | [],_=>Nat.le_refl _
 | f::l,h=>by
  have:=EE l fun g hg=>h g (kR _ hg)
  have:=(GN (h f (ii ..)).1).2
  rw [AN,jj]
  omega
theorem DR.sz {d:Ty.d aA} (h:DR d):ED d:=by
 have h1:=h.len
 have h2:=h.use
 have h3:=h.cap1
 have h4:=EE d.1 h.all
 exact ⟨by omega,by omega,by omega⟩
theorem DJ {l:bo} {f x:Ty.d cE}:x ∈ kc l f↔x=f∨x ∈ l:=by
 induction l with
 | nil=>simp [kc]
 | cons g l ih =>
  unfold kc
  cases nT f.1 g.1
  · simp only [aJ,List.mem_cons,ih]
    exact ⟨fun h=>h.elim (fun q => .inr (.inl q)) (fun q=>q.elim .inl (fun q => .inr (.inr q))),fun h=>h.elim (fun q => .inr (.inl q)) (fun q=>q.elim .inl (fun q => .inr (.inr q)))⟩
  · simp only [aa,List.mem_cons]
theorem rD:∀ (l:bo) (s:ByteArray),(gR l s).Sublist l
 | [],s=>List.Sublist.slnil
 | g::l,s=>by
  unfold gR
  cases seq g.1 s
  · exact (rD l s).cons_cons g
  · exact (List.Sublist.refl l).cons g
theorem IQ {h:Ty.d cE→Ty.d cE} (hh:∀ f,(h f).1=f.1):∀ (l:bo) (s:ByteArray),lH (ky h l s)=lH l
 | [],s=>rfl
 | g::l,s=>by
  unfold ky
  cases seq g.1 s
  · show g.1::lH (ky h l s)=g.1::lH l
    rw [IQ hh l s]
  · show (h g).1::lH l=g.1::lH l
    rw [hh]
theorem zY {h:Ty.d cE→Ty.d cE} (hh:∀ f,(h f).1=f.1) {l:bo} {s:ByteArray} (hk:cU (lH l)):cU (lH (ky h l s)):=by
 rw [IQ hh]
 exact hk
theorem uz {h:Ty.d cE→Ty.d cE}:∀ {l:bo} {s:ByteArray} {x:Ty.d cE},x ∈ ky h l s→x ∈ l∨∃ f,bS l s=some f∧x=h f
 | [],s,x,hx => .inl hx
 | g::l,s,x,hx=>by
  unfold ky at hx
  unfold bS
  cases c:seq g.1 s with
  | true =>
   rw [c,aa] at hx
   rcases List.mem_cons.1 hx with e | e
   · exact .inr ⟨g,rfl,e⟩
   · exact .inl (kR _ e)
  | false =>
   rw [c,aJ] at hx
   rcases List.mem_cons.1 hx with e | e
   · exact .inl (by rw [e];exact ii ..)
   · rcases uz e with q | ⟨f,q1,q2⟩
     · exact .inl (kR _ q)
     · exact .inr ⟨f,q1,q2⟩
theorem qH {h:Ty.d cE→Ty.d cE}:∀ {l:bo} {s:ByteArray} {f:Ty.d cE},bS l s=some f→di (ky h l s)+f.2.1.size=di l+(h f).2.1.size
 | [],s,f,hf=>by cases hf
 | g::l,s,f,hf=>by
  unfold bS at hf
  unfold ky
  cases c:seq g.1 s with
  | true =>
   rw [c] at hf
   cases hf
   rw [aa,ff,ff]
   omega
  | false =>
   rw [c] at hf
   have:=qH (h:=h) hf
   rw [aJ,ff,ff]
   omega
theorem sJ:∀ (l:bo) (f:Ty.d cE),di (kc l f)=di l+f.2.1.size
 | [],f=>by unfold kc;rw [ff,AC,Nat.add_comm]
 | g::l,f=>by
  unfold kc
  cases nT f.1 g.1
  · rw [aJ,ff,ff,sJ l f];omega
  · rw [aa,ff,ff];omega
theorem vR:∀ {l:bo} {s:ByteArray} {f:Ty.d cE},bS l s=some f→di (gR l s)+f.2.1.size=di l
 | [],s,f,hf=>by cases hf
 | g::l,s,f,hf=>by
  unfold bS at hf
  unfold gR
  cases c:seq g.1 s with
  | true=>rw [c] at hf;cases hf;rw [aa,ff];omega
  | false =>
   rw [c] at hf
   have:=vR hf
   rw [aJ,ff,ff]
   omega
theorem pU (l:bo) (s:ByteArray):di (gR l s)≤di l:=by
 cases h:bS l s with
 | some f=>have:=vR h;omega
 | none =>
  rcases kw l s 0 with ⟨_,_,h3,_⟩ | ⟨n,_,_,h3,_⟩
  · rw [h3];exact Nat.le_refl _
  · rw [h] at h3;cases h3
theorem vL:∀ (l:bo) (f:Ty.d cE),(kc l f).length=l.length+1
 | [],f=>rfl
 | g::l,f=>by
  unfold kc
  cases nT f.1 g.1
  · rw [aJ,jj,vL l f,jj]
  · rw [aa,jj,jj]
theorem tC (h:Ty.d cE→Ty.d cE):∀ (l:bo) (s:ByteArray),(ky h l s).length=l.length
 | [],s=>rfl
 | g::l,s=>by
  unfold ky
  cases seq g.1 s
  · rw [aJ,jj,tC h l s,jj]
  · rw [aa,jj,jj]
theorem mT:∀ {l:bo} {s:ByteArray} {f:Ty.d cE},bS l s=some f→f ∈ l∧f.1=s
 | [],s,f,h=>by cases h
 | g::l,s,f,h=>by
  unfold bS at h
  cases c:seq g.1 s with
  | true=>rw [c] at h;cases h;exact ⟨ii ..,eE.1 c⟩
  | false =>
   rw [c] at h
   exact ⟨kR _ (mT h).1,(mT h).2⟩
theorem qK:∀ {l:bo} {s:ByteArray},bS l s=none↔∀ f ∈ l,f.1≠s
 | [],s=>⟨fun _ f h=>(by cases h),fun _=>rfl⟩
 | g::l,s=>by
  unfold bS
  cases c:seq g.1 s with
  | true =>
   constructor
   · intro h;cases h
   · intro h;exact absurd (eE.1 c) (h g (ii ..))
  | false =>
   rw [aJ,qK]
   constructor
   · intro h f hf
     rcases List.mem_cons.1 hf with e | e
     · rw [e];intro q;rw [FV q] at c;cases c
     · exact h f e
   · intro h f hf;exact h f (kR _ hf)
theorem yx {f:Ty.d cE}:∀ {l:bo},cU (lH l)→(∀ g ∈ l,g.1≠f.1)→cU (lH (kc l f))
 | [],_,_=>by unfold kc;exact List.pairwise_singleton ..
 | g::l,h,hn=>by
  unfold cU lH at h
  rw [List.map_cons,List.pairwise_cons] at h
  unfold kc
  cases c:nT f.1 g.1 with
  | true =>
   rw [aa]
   unfold cU lH
   rw [List.map_cons,List.pairwise_cons]
   refine ⟨fun x hx=>?_,by rw [List.map_cons,List.pairwise_cons];exact h⟩
   rw [List.map_cons] at hx
   rcases List.mem_cons.1 hx with e | e
   · rw [e];exact c
   · exact oL c (h.1 x e)
  | false =>
   rw [aJ]
   have ih:=yx (f:=f) (l:=l) h.2 fun g' hg=>hn g' (kR _ hg)
   unfold cU lH
   rw [List.map_cons,List.pairwise_cons]
   refine ⟨fun x hx=>?_,ih⟩
   obtain ⟨y,hy,rfl⟩:=List.mem_map.1 hx
   rcases DJ.1 hy with e | e
   · rw [e]
     have ht:=sx g.1 f.1
     rw [c,kE (hn g (ii ..))] at ht
     cases q:nT g.1 f.1 with
     | true=>rfl
     | false=>rw [q] at ht;cases ht
   · exact h.1 y.1 (List.mem_map.2 ⟨y,e,rfl⟩)
theorem s9 {l m:bo} (h:m.Sublist l) (hk:cU (lH l)):cU (lH m):=List.Pairwise.sublist (h.map _) hk
theorem NQ {l:bo} (hk:cU (lH l)) {s:ByteArray} {f:Ty.d cE} (h:bS l s=some f):bS (gR l s) s=none:=by
 induction l with
 | nil=>cases h
 | cons g l ih =>
  unfold cU lH at hk
  rw [List.map_cons,List.pairwise_cons] at hk
  unfold bS at h
  unfold gR
  cases c:seq g.1 s with
  | true =>
   rw [aa,qK]
   intro x hx e
   have:=hk.1 x.1 (List.mem_map.2 ⟨x,hx,rfl⟩)
   rw [e,eE.1 c,nM] at this
   cases this
  | false =>
   rw [c] at h
   rw [aJ]
   unfold bS
   rw [c,aJ]
   exact ih hk.2 h
theorem p8 {l:bo} (hk:cU (lH l)) (s:ByteArray):bS (gR l s) s=none:=by
 cases h:bS l s with
 | some f=>exact NQ hk h
 | none =>
  rcases kw l s 0 with ⟨h1,_,h3,_⟩ | ⟨n,_,_,h3,_⟩
  · rw [h3];exact h1
  · rw [h] at h3;cases h3
theorem HD {l:bo} (hk:cU (lH l)) {f:Ty.d cE} (h:f ∈ l):bS l f.1=some f:=by
 induction l with
 | nil=>cases h
 | cons g l ih =>
  unfold cU lH at hk
  rw [List.map_cons,List.pairwise_cons] at hk
  unfold bS
  rcases List.mem_cons.1 h with e | e
  · rw [e,bZ];rfl
  · have:=hk.1 f.1 (List.mem_map.2 ⟨f,e,rfl⟩)
    rw [kE (fun q=>by rw [q,nM] at this;cases this),aJ]
    exact ih hk.2 e
def GR (g:bo→Int→bo × Int):Prop:=∀ l c,l.length≤130→(0:Int)≤c→c≤100000→(di l:Int)≤c→(∀ f ∈ l,FO f)→cU (lH l) →
 (g l c).1.length≤130∧(di (g l c).1:Int)≤c∧(∀ f ∈ (g l c).1,FO f)∧cU (lH (g l c).1)
theorem NX {d:Ty.d aA} (h:DR d):DR (li d).1:=by
 have hd:=jL.2 h
 have g0:=h.fu0
 have g1:=h.fu1
 unfold li
 rw [hd]
 cases c1:d.2.2.2.1 with
 | true=>exact ⟨h.len,h.cap0,h.cap1,h.fu0,h.fu1,h.use,h.all,h.keys⟩
 | false =>
  cases c2:d.2.2.1==0 with
  | true=>exact ⟨h.len,h.cap0,h.cap1,h.fu0,h.fu1,h.use,h.all,h.keys⟩
  | false =>
   by_cases c3:(d.2.2.1:Int) > 0
   · have e:∀ x:Int,x > 0→x≤100000 → -1≤aQ (x-1)∧aQ (x-1)≤100000:=fun x q1 q2=>by
      rw [aE (by omega) (by omega)]
      omega
     have e:=e d.2.2.1 c3 g1
     rw [aV c3]
     exact ⟨h.len,h.cap0,h.cap1,e.1,e.2,h.use,h.all,h.keys⟩
   · rw [aY c3]
     exact h
theorem sw {g:bo→Int→bo × Int} (hg:GR g) {d:Ty.d aA} (h:DR d):DR (i_ d g).1:=by
 have hb:=NX h
 unfold i_
 cases c:(li d).2 != 0 with
 | true=>exact hb
 | false =>
  have hk:(li d).1.2.1=d.2.1:=KY d
  obtain ⟨g1,g2,g3,g4⟩:=hg d.1 d.2.1 h.len h.cap0 h.cap1 h.use h.all h.keys
  exact ⟨g1,hb.cap0,hb.cap1,hb.fu0,hb.fu1,by show (di (g d.1 d.2.1).1:Int)≤(li d).1.2.1;rw [hk];exact g2,g3,g4⟩
theorem Ow (s:ByteArray):GR (tN s):=by
 intro l c h1 h2 h3 h4 h5 h6
 unfold tN
 cases hn:j9 s with
 | false=>exact ⟨h1,h4,h5,h6⟩
 | true =>
  cases hs:(bS l s).isSome with
  | true=>exact ⟨h1,h4,h5,h6⟩
  | false =>
   by_cases hl:(l.length:Int)≥130
   · rw [aV hl];exact ⟨h1,h4,h5,h6⟩
   · rw [aY hl]
     have hnone:bS l s=none:=by
      cases q:bS l s with
      | none=>rfl
      | some f=>rw [q] at hs;cases hs
     refine ⟨by show (kc l _).length≤130;rw [vL];omega,by show (di (kc l _):Int)≤c;rw [sJ];exact h4,fun f hf=>?_,yx h6 (qK.1 hnone)⟩
     rcases DJ.1 hf with e | e
     · rw [e];exact ⟨hn,Int.le_refl _,by show (0:Int)≤_;omega⟩
     · exact h5 f e
theorem PC (s t:ByteArray):GR (yZ s t):=by
 intro l c h1 h2 h3 h4 h5 h6
 unfold yZ
 cases hs:bS l s with
 | none=>exact ⟨h1,h4,h5,h6⟩
 | some f =>
  simp only [Option.isNone_some,aJ]
  rw [aE (by omega) (by omega)]
  by_cases ht:(t.size:Int) > c-(di l:Int)
  · rw [aV ht];exact ⟨h1,h4,h5,h6⟩
  · rw [aY ht]
    have hu:=qH (h:=fun f=>(f.1,(f.2.1++t,f.2.2))) hs
    have hz:(f.2.1++t).size=f.2.1.size+t.size:=ByteArray.size_append ..
    simp only [hz] at hu
    refine ⟨by show (ky _ l s).length≤130;rw [tC];exact h1,by show (di (ky _ l s):Int)≤c;omega,fun x hx=>?_,zY (by intro f;rfl) h6⟩
    rcases uz hx with q | ⟨y,q1,q2⟩
    · exact h5 x q
    · obtain ⟨a,b,c'⟩:=h5 y (mT q1).1
      rw [q2]
      refine ⟨a,b,?_⟩
      show LE.le (α:=Int) y.2.2.1 ((y.2.1++t).size:Int)
      have:(y.2.1++t).size=y.2.1.size+t.size:=ByteArray.size_append ..
      omega
theorem PM (s:ByteArray):GR (va s):=by
 intro l c h1 h2 h3 h4 h5 h6
 unfold va
 cases hs:bS l s with
 | none=>exact ⟨h1,h4,h5,h6⟩
 | some f =>
  simp only [Option.isNone_some,aJ]
  have hu:=qH (h:=fun f=>(f.1,(f.2.1,((f.2.1.size:Int),f.2.2.2)))) hs
  refine ⟨by show (ky _ l s).length≤130;rw [tC];exact h1,by show (di (ky _ l s):Int)≤c;simp only [] at hu;omega,fun x hx=>?_,zY (by intro f;rfl) h6⟩
  rcases uz hx with q | ⟨y,q1,q2⟩
  · exact h5 x q
  · obtain ⟨a,b,c'⟩:=h5 y (mT q1).1
    rw [q2]
    exact ⟨a,by show (0:Int)≤(y.2.1.size:Int);omega,Int.le_refl _⟩
theorem Pe (s:ByteArray):GR (uN s):=by
 intro l c h1 h2 h3 h4 h5 h6
 unfold uN
 cases hs:bS l s with
 | none=>exact ⟨h1,h4,h5,h6⟩
 | some f =>
  have hd:=rD l s
  have hu:=pU l s
  exact ⟨Nat.le_trans hd.length_le h1,by show (di (gR l s):Int)≤c;omega,fun x hx=>h5 x (hd.subset hx),s9 hd h6⟩
theorem wt (s:ByteArray) {n:Nat} (h:n≤s.size):(ByteArray.extract s 0 n).size=n:=by
 rw [ByteArray.size_extract]
 omega
theorem PX (s:ByteArray) (n:Int):GR (He s n):=by
 intro l c h1 h2 h3 h4 h5 h6
 unfold He
 cases hs:bS l s with
 | none=>exact ⟨h1,h4,h5,h6⟩
 | some f =>
  simp only []
  by_cases hn:0≤n∧n≤(f.2.1.size:Int)
  · rw [aV hn]
    have hu:=qH (h:=fun f=>(f.1,(ByteArray.extract f.2.1 0 n.toNat,((if n<f.2.2.1 then n else f.2.2.1),f.2.2.2)))) hs
    have hz:=wt f.2.1 (n:=n.toNat) (by omega)
    simp only [hz] at hu
    refine ⟨by show (ky _ l s).length≤130;rw [tC];exact h1,by show (di (ky _ l s):Int)≤c;omega,fun x hx=>?_,zY (by intro f;rfl) h6⟩
    rcases uz hx with q | ⟨y,q1,q2⟩
    · exact h5 x q
    · rw [hs] at q1
      cases q1
      obtain ⟨a,b,c'⟩:=h5 f (mT hs).1
      rw [q2]
      refine ⟨a,?_,?_⟩
      · show (0:Int)≤if n<f.2.2.1 then n else f.2.2.1
        split <;> omega
      · show (if n<f.2.2.1 then n else f.2.2.1)≤((ByteArray.extract f.2.1 0 n.toNat).size:Int)
        rw [hz]
        split <;> omega
  · rw [aY hn];exact ⟨h1,h4,h5,h6⟩
theorem PQ (a b:ByteArray):GR (uf a b):=by
 intro l c h1 h2 h3 h4 h5 h6
 unfold uf
 cases hn:j9 b with
 | false=>exact ⟨h1,h4,h5,h6⟩
 | true =>
  simp only [fN,aJ]
  cases hs:bS l a with
  | none=>exact ⟨h1,h4,h5,h6⟩
  | some f =>
   simp only []
   cases seq a b with
   | true=>exact ⟨h1,h4,h5,h6⟩
   | false =>
    simp only [aJ]
    have hd:=rD l a
    have hd2:=rD (gR l a) b
    have hu:=vR hs
    have hu2:=pU (gR l a) b
    have hk2:=s9 (hd2.trans hd) h6
    have hl:=kw l a 0
    have hlen:(gR l a).length+1=l.length:=by
     rcases kw l a 0 with ⟨q,_⟩ | ⟨n,q1,_,_,q4,_⟩
     · rw [hs] at q;cases q
     · rw [← q4,py,List.length_take,List.length_drop];omega
    have hlen2:=hd2.length_le
    refine ⟨by rw [vL];omega,by rw [sJ];show ((di (gR (gR l a) b)+f.2.1.size:Nat):Int)≤c;omega,fun x hx=>?_,yx hk2 (qK.1 (p8 (s9 hd h6) b))⟩
    rcases DJ.1 hx with e | e
    · rw [e]
      exact ⟨hn,(h5 f (mT hs).1).2.1,(h5 f (mT hs).1).2.2⟩
    · exact h5 x ((hd2.trans hd).subset e)
theorem HJ {d:Ty.d aA} (h:DR d) (s:ByteArray):DR (qX d s).1:=sw (Ow s) h
theorem qm {d:Ty.d aA} (h:DR d) (s t:ByteArray):DR (jA d s t).1:=sw (PC s t) h
theorem md {d:Ty.d aA} (h:DR d) (s:ByteArray):DR (dS d s).1:=sw (PM s) h
theorem Ky {d:Ty.d aA} (h:DR d) (a b:ByteArray):DR (wB d a b).1:=sw (PQ a b) h
theorem KU {d:Ty.d aA} (h:DR d) (s:ByteArray):DR (xw d s).1:=sw (Pe s) h
theorem Dg {d:Ty.d aA} (h:DR d) (s:ByteArray) (n:Int):DR (qT d s n).1:=sw (PX s n) h
theorem set_set {l:bo} {n:Nat} (x y:Ty.d cE):(l.set n x).set n y=l.set n y:=by simp
theorem gV (k:Nat) {d:Ty.d aA} (hl:d.1.length≤1073741824):bA.f k d=some (d,()):=by
 unfold bA.f bA.t
 rw [bf (by omega) (by decide)]
theorem vC:∀ {l:bo} {a:ByteArray} {f:Ty.d cE},cU (lH l)→bS l a=some f→kc (gR l a) (a,f.2)=l
 | [],a,f,_,h=>by cases h
 | g::l,a,f,hk,h=>by
  have hk':(∀ x ∈ lH l,nT g.1 x=true)∧cU (lH l):=List.pairwise_cons.1 hk
  unfold bS at h
  unfold gR
  cases c:seq g.1 a with
  | true =>
   rw [c] at h
   cases h
   rw [aa]
   have e:=eE.1 c
   subst e
   cases l with
   | nil=>rfl
   | cons x l =>
    have:=hk'.1 x.1 (ii ..)
    unfold kc
    rw [this]
    rfl
  | false =>
   rw [c] at h
   rw [aJ]
   have hm:=mT h
   have h1:nT g.1 a=true:=by have:=hk'.1 f.1 (List.mem_map.2 ⟨f,hm.1,rfl⟩);rw [hm.2] at this;exact this
   unfold kc
   rw [J7 h1,aJ,vC hk'.2 h]
theorem ri {k:Nat} (hk:2 ^ 50≤k) {d:Ty.d aA} (hl:d.1.length≤1073741824) (s:ByteArray):eG.f k d s=some ((gR d.1 s,d.2),()):=by
 unfold eG.f eG.t
 rw [jJ hk (by omega),aX]
 rcases kw d.1 s 0 with ⟨h1,h2,h3,_⟩ | ⟨n,h1,h2,h3,h4,_⟩
 · rw [h2,h3]
   simp only []
   rw [aY (by decide),aJ]
 · rw [Int.zero_add] at h2
   rw [h2,← h4]
   have e:aQ ((n:Int)+1)=((n+1:Nat):Int):=by rw [aE (by omega) (by omega)];omega
   simp only [e,rI]
   rw [aV (by omega),aa,dL (by omega) (by omega),bf (by rw [List.length_take];omega) (by decide),dL (by omega) (by omega),bf (by rw [List.length_take,List.length_drop];omega) (by decide)]
theorem AH {k:Nat} (hk:2 ^ 50≤k) {d:Ty.d aA} (hl:d.1.length≤1073741824) (f:Ty.d cE) (hn:∀ g ∈ d.1,g.1≠f.1):dJ.f k d f=some ((kc d.1 f,d.2),()):=by
 unfold dJ.f dJ.t
 have key:=MO (L:=fun n i (_:Unit)=>dJ.l0 k n i d.1 d.2.1 d.2.2.1 d.2.2.2.1 f.1 f.2.1 f.2.2.1) (R:=fun i _=>some ((d.1.take i.toNat++kc (d.1.drop i.toNat) f,d.2),())) d.1.length (fun _ _=>True) (fun n _ _=>?_) (fun n i _ h0 h1 _ ih=>?_) k 0 () (by omega) (by omega) (by omega) trivial
 · rw [show (0:Int).toNat=0 from rfl,List.take_zero,List.nil_append,List.drop_zero] at key
   exact key
 · simp only [dJ.l0,dJ.b0]
   rw [aY (by omega),aJ,rI,dL (by omega) (by omega),bf (by rw [List.length_take];omega) (by decide),bf (by rw [List.length_take];omega) (by decide),dL (by omega) (by omega),bf (by rw [py,List.length_take,List.length_drop];simp only [List.length_singleton];omega) (by decide),List.drop_length,List.append_nil]
   rfl
 · have ih:=ih () trivial
   have hlt:i.toNat<d.1.length:=by omega
   have e:d.1.drop i.toNat=d.1.getD i.toNat (Ty.z cE)::d.1.drop (i.toNat+1):=by
    rw [List.drop_eq_getElem_cons hlt]
    simp [List.getD,hlt]
   have hne:(d.1.getD i.toNat (Ty.z cE)).1≠f.1:=hn _ (fX hlt)
   have ht:=sx (d.1.getD i.toNat (Ty.z cE)).1 f.1
   rw [kE hne,Bool.or_false] at ht
   simp only [dJ.l0,dJ.b0]
   rw [aV h1,aa,aN h0 h1,aE (n:=i+1) (by omega) (by omega),ih]
   rw [show kc (d.1.drop i.toNat) f=bif nT f.1 (d.1.getD i.toNat (Ty.z cE)).1 then f::d.1.drop i.toNat else d.1.getD i.toNat (Ty.z cE)::kc (d.1.drop (i.toNat+1)) f by rw [e];rfl]
   rw [show nT (List.getD d.1 i.toNat (Ty.z cE)).1 f.1=!nT f.1 (d.1.getD i.toNat (Ty.z cE)).1 from ht]
   cases c:nT f.1 (d.1.getD i.toNat (Ty.z cE)).1 with
   | false =>
    rw [show (i+1).toNat=i.toNat+1 by omega,mX (z:=Ty.z cE) hlt,nw]
    rfl
   | true =>
    rw [fN,aJ,aa,dL h0 (by omega),bf (by rw [List.length_take];omega) (by decide),bf (by rw [List.length_take];omega) (by decide),dL h0 (by omega),bf (by rw [py,List.length_take,List.length_drop];simp only [List.length_singleton];omega) (by decide),nw]
    rfl
theorem E0 {k:Nat} (hk:2 ^ 50≤k) {d:Ty.d aA} (hl:d.1.length≤1073741824) (hu:di d.1≤1073741824):gi.f k d=some ((di d.1:Int),()):=by
 unfold gi.f gi.t
 refine (fe (L:=fun n i s=>gi.l0 k n s d.1 d.1.length i) (R:=fun r s=>some (s+(di r:Int),())) (Ty.z cE) d.1 (fun i s=>0≤s∧s+(di (d.1.drop i.toNat):Int)≤1099511627776) (fun n s hs=>?_) (fun n i s x rest h0 h1 hx hr hp ih=>?_) (n:=k) (s:=0) (by omega) ⟨by omega,by rw [show d.1.drop (Int.toNat 0)=d.1 from rfl];omega⟩).trans (by rw [Int.zero_add])
 · simp (disch:=omega) only [gi.l0,gi.b0,aY,aJ]
   show some (s,())=some (s+((0:Nat):Int),())
   rw [show s+((0:Nat):Int)=s by omega]
 · have hrest:d.1.drop (i+1).toNat=rest:=by
    have:=congrArg (List.drop 1) hr
    rw [List.drop_drop,List.drop_one,List.tail_cons] at this
    rw [show (i+1).toNat=i.toNat+1 by omega]
    exact this
   rw [hr,ff] at hp
   have ih:=ih (s+(x.2.1.size:Int)) ⟨by omega,by rw [hrest];omega⟩
   simp (disch:=omega) only [gi.l0,gi.b0,aV h1,aa,aN,hx,aE,ih]
   rw [show s+(x.2.1.size:Int)+(di rest:Int)=s+((x.2.1.size+di rest:Nat):Int) by omega]
   show _=some (s+((di (x::rest):Nat):Int),())
   rw [ff]
theorem MK {k:Nat} (hk:2 ^ 50≤k) {d:Ty.d aA} (hl:d.1.length≤1073741824) {s:ByteArray} (hs:s.size≤1099511627776) :
 fp.f k d s=some (((tN s d.1 d.2.1).1,d.2),(s,((tN s d.1 d.2.1).2,()))):=by
 unfold fp.f fp.t tN
 rw [pJ hk hs,aX]
 cases j9 s with
 | false=>rfl
 | true =>
  simp only [fN,aJ]
  rw [jJ hk (by omega),aX]
  rcases kw d.1 s 0 with ⟨h1,h2,_⟩ | ⟨n,h1,h2,h3,_⟩
  · rw [h1,h2]
    simp only [Option.isSome_none,aJ]
    rw [aY (by decide),aJ]
    by_cases cl:(d.1.length:Int)≥130
    · rw [aV cl];rfl
    · rw [aY cl,aJ,aJ,AH hk hl _ (qK.1 h1),aX]
  · rw [h2,h3]
    simp only [Option.isSome_some,aa]
    rw [aV (by omega),aa]
theorem Ls {k:Nat} (hk:2 ^ 50≤k) {d:Ty.d aA} (hl:d.1.length≤1073741824) (hu:di d.1≤1073741824) (s:ByteArray) {t:ByteArray} (ht:t.size≤1099511627776) :
 fu.f k d s t=some (((yZ s t d.1 d.2.1).1,d.2),(s,(t,((yZ s t d.1 d.2.1).2,())))):=by
 unfold fu.f fu.t yZ
 rw [jJ hk (by omega),aX]
 rcases kw d.1 s 0 with ⟨h1,h2,_⟩ | ⟨n,h1,h2,h3,_,_,h6⟩
 · rw [h1,h2]
   simp only [Option.isNone_none,aa]
   rw [aV (by decide),aa]
 · rw [Int.zero_add] at h2
   rw [h2,h3]
   simp only [Option.isNone_some,aJ]
   rw [aY (by omega),aJ,E0 hk hl hu,aX]
   simp only []
   cases decide ((t.size:Int) > aQ (d.2.1-(di d.1:Int))) with
   | true=>rfl
   | false =>
    have hm:=vZ (mT h3).1
    rw [aJ,aJ,rI,aN (by omega) (by omega),iz (Nat.le_trans (Nat.add_le_add (Nat.le_trans hm hu) ht) (by decide)),aN (by omega) (by omega),← h6]
theorem KS {k:Nat} (hk:2 ^ 50≤k) {d:Ty.d aA} (hl:d.1.length≤1073741824) (s:ByteArray) :
 iL.f k d s=some (((va s d.1 d.2.1).1,d.2),(s,((va s d.1 d.2.1).2,()))):=by
 unfold iL.f iL.t va
 rw [jJ hk (by omega),aX]
 rcases kw d.1 s 0 with ⟨h1,h2,_⟩ | ⟨n,h1,h2,h3,_,_,h6⟩
 · rw [h1,h2]
   simp only [Option.isNone_none,aa]
   rw [aV (by decide),aa]
 · rw [Int.zero_add] at h2
   rw [h2,h3]
   simp only [Option.isNone_some,aJ]
   rw [aY (by omega),aJ,rI,aN (by omega) (by omega),aN (by omega) (by omega),← h6]
theorem Lf {k:Nat} (hk:2 ^ 50≤k) {d:Ty.d aA} (hl:d.1.length≤1073741824) (s:ByteArray) :
 fh.f k d s=some (((uN s d.1 d.2.1).1,d.2),(s,((uN s d.1 d.2.1).2,()))):=by
 unfold fh.f fh.t uN
 rw [jJ hk (by omega),aX]
 rcases kw d.1 s 0 with ⟨h1,h2,_⟩ | ⟨n,h1,h2,h3,_⟩
 · rw [h1,h2]
   simp only [Option.isNone_none,aa]
   rw [aV (by decide),aa]
 · rw [Int.zero_add] at h2
   rw [h2,h3]
   simp only [Option.isNone_some,aJ]
   rw [aY (by omega),aJ,ri hk hl,aX]
theorem Mf {k:Nat} (hk:2 ^ 50≤k) {d:Ty.d aA} (hl:d.1.length≤1073741824) (s:ByteArray) (m:Int) :
 eH.f k d s m=some (((He s m d.1 d.2.1).1,d.2),(s,(m,((He s m d.1 d.2.1).2,())))):=by
 unfold eH.f eH.t He
 rw [jJ hk (by omega),aX]
 rcases kw d.1 s 0 with ⟨h1,h2,_⟩ | ⟨n,h1,h2,h3,_,_,h6⟩
 · rw [h1,h2]
   simp only []
   rw [aV (by decide),aa]
 · rw [Int.zero_add] at h2
   rw [h2,h3]
   simp only []
   rw [aY (by omega),aJ,rI,aN (by omega) (by omega),iQ,aX]
   by_cases hm:0≤m∧m≤((d.1.getD n (Ty.z cE)).2.1.size:Int)
   · rw [aV hm]
     simp only [fN,aJ]
     rw [dL hm.1 hm.2,← h6]
     have g:∀ x z:Ty.d cE,(d.1.set n x).getD n z=x:=fun x z=>by simp [List.getD,h1]
     rw [g,List.set_set]
   · rw [aY hm]
     rfl
theorem Kb {k:Nat} (hk:2 ^ 50≤k) {d:Ty.d aA} (hl:d.1.length≤1073741824) (hs:cU (lH d.1)) (a:ByteArray) {b:ByteArray} (hb:b.size≤1099511627776) :
 fo.f k d a b=some (((uf a b d.1 d.2.1).1,d.2),(a,(b,((uf a b d.1 d.2.1).2,())))):=by
 unfold fo.f fo.t uf
 rw [jJ hk (by omega),aX,pJ hk hb,aX]
 cases j9 b with
 | false=>rfl
 | true =>
  simp only [fN,aJ]
  rcases kw d.1 a 0 with ⟨h1,h2,_⟩ | ⟨n,h1,h2,h3,_,_,_⟩
  · rw [h1,h2,aV (by decide),aa]
  · have hd1:=rD d.1 a
    have hd2:=rD (gR d.1 a) b
    have l1:=hd1.length_le
    have l2:=hd2.length_le
    rw [Int.zero_add] at h2
    rw [h2,h3]
    simp only []
    rw [aY (by omega),aJ,aN (by omega) (by omega),ri hk hl,aX]
    simp only []
    rw [ri hk (d:=(gR d.1 a,d.2)) (by show (gR d.1 a).length≤_;omega),aX]
    simp only []
    rw [AH hk (d:=(gR (gR d.1 a) b,d.2)) (by show (gR (gR d.1 a) b).length≤_;omega) _ (qK.1 (p8 (s9 hd1 hs) b)),aX,rI]
    cases c:seq a b with
    | false=>rfl
    | true =>
     have e:=eE.1 c
     subst e
     have hg:gR (gR d.1 a) a=gR d.1 a:=by
      rcases kw (gR d.1 a) a 0 with ⟨_,_,g3,_⟩ | ⟨m,_,_,g3,_⟩
      · exact g3
      · rw [p8 hs a] at g3;cases g3
     have hi:=vC hs h3
     simp only [hg,aa]
     rw [hi]
theorem HR {k:Nat} (hk:2 ^ 50≤k) {d:Ty.d aA} (hd:ED d) {s:ByteArray} (hs:s.size≤1099511627776):k_.f k d s=some ((qX d s).1,((qX d s).2,())):=by
 have hl:=hd.l
 have hu:=hd.u
 have hn:=hd.n
 have h1:∀ b2,fp.f k (d.1,b2) s=_:=fun b2=>MK hk (d:=(d.1,b2)) hl hs
 unfold k_.f k_.t gE.f gE.t qX i_ li
 rw [gV k hl,aX,iG hk (by omega) (by omega),aX]
 simp only [h1,aX,show fp.f k d s=_ from h1 d.2]
 cases j6 d <;> cases d.2.2.2.1 <;> cases d.2.2.1==0 <;> cases decide ((d.2.2.1:Int) > 0) <;> rfl
theorem H6 {k:Nat} (hk:2 ^ 50≤k) {d:Ty.d aA} (hd:ED d) (s:ByteArray) {t:ByteArray} (ht:t.size≤1099511627776):kB.f k d s t=some ((jA d s t).1,((jA d s t).2,())):=by
 have hl:=hd.l
 have hu:=hd.u
 have hn:=hd.n
 have h1:∀ b2,fu.f k (d.1,b2) s t=_:=fun b2=>Ls hk (d:=(d.1,b2)) hl hu s ht
 unfold kB.f kB.t g9.f g9.t jA i_ li
 rw [gV k hl,aX,iG hk (by omega) (by omega),aX]
 simp only [h1,aX,show fu.f k d s t=_ from h1 d.2]
 cases j6 d <;> cases d.2.2.2.1 <;> cases d.2.2.1==0 <;> cases decide ((d.2.2.1:Int) > 0) <;> rfl
theorem GW {k:Nat} (hk:2 ^ 50≤k) {d:Ty.d aA} (hd:ED d) (s:ByteArray):mA.f k d s=some ((dS d s).1,((dS d s).2,())):=by
 have hl:=hd.l
 have hu:=hd.u
 have hn:=hd.n
 have h1:∀ b2,iL.f k (d.1,b2) s=_:=fun b2=>KS hk (d:=(d.1,b2)) hl s
 unfold mA.f mA.t i7.f i7.t dS i_ li
 rw [gV k hl,aX,iG hk (by omega) (by omega),aX]
 simp only [h1,aX,show iL.f k d s=_ from h1 d.2]
 cases j6 d <;> cases d.2.2.2.1 <;> cases d.2.2.1==0 <;> cases decide ((d.2.2.1:Int) > 0) <;> rfl
theorem H4 {k:Nat} (hk:2 ^ 50≤k) {d:Ty.d aA} (hd:ED d) (s:ByteArray):k9.f k d s=some ((xw d s).1,((xw d s).2,())):=by
 have hl:=hd.l
 have hu:=hd.u
 have hn:=hd.n
 have h1:∀ b2,fh.f k (d.1,b2) s=_:=fun b2=>Lf hk (d:=(d.1,b2)) hl s
 unfold k9.f k9.t gB.f gB.t xw i_ li
 rw [gV k hl,aX,iG hk (by omega) (by omega),aX]
 simp only [h1,aX,show fh.f k d s=_ from h1 d.2]
 cases j6 d <;> cases d.2.2.2.1 <;> cases d.2.2.1==0 <;> cases decide ((d.2.2.1:Int) > 0) <;> rfl
theorem HI {k:Nat} (hk:2 ^ 50≤k) {d:Ty.d aA} (hd:ED d) (s:ByteArray) (m:Int):ic.f k d s m=some ((qT d s m).1,((qT d s m).2,())):=by
 have hl:=hd.l
 have hu:=hd.u
 have hn:=hd.n
 have h1:∀ b2,eH.f k (d.1,b2) s m=_:=fun b2=>Mf hk (d:=(d.1,b2)) hl s m
 unfold ic.f ic.t fJ.f fJ.t qT i_ li
 rw [gV k hl,aX,iG hk (by omega) (by omega),aX]
 simp only [h1,aX,show eH.f k d s m=_ from h1 d.2]
 cases j6 d <;> cases d.2.2.2.1 <;> cases d.2.2.1==0 <;> cases decide ((d.2.2.1:Int) > 0) <;> rfl
theorem Gv {k:Nat} (hk:2 ^ 50≤k) {d:Ty.d aA} (hd:ED d) (a:ByteArray) {b:ByteArray} (hb:b.size≤1099511627776):kC.f k d a b=some ((wB d a b).1,((wB d a b).2,())):=by
 have hl:=hd.l
 have hu:=hd.u
 have hn:=hd.n
 unfold kC.f kC.t g8.f g8.t wB i_ li
 rw [gV k hl,aX,iG hk (by omega) (by omega),aX]
 cases c:j6 d with
 | false=>rfl
 | true =>
  have h1:∀ b2,fo.f k (d.1,b2) a b=_:=fun b2=>Kb hk (d:=(d.1,b2)) hl (jL.1 c).keys a hb
  simp only [h1,aX,show fo.f k d a b=_ from h1 d.2]
  cases d.2.2.2.1 <;> cases d.2.2.1==0 <;> cases decide ((d.2.2.1:Int) > 0) <;> rfl
theorem GH (k:Nat) {n:Int} (h0:0≤n) (h1:n≤100000):jS.f k n=some (([],(n,(-1,(false,())))),()):=by
 unfold jS.f jS.t
 rw [iQ,aX,aV ⟨h0,h1⟩]
 rfl
def qA (lim:Int) (p:Option Int) (x:Int):Bool:=decide ((1:Int)≤x∧x≤lim)&&(match p with | none=>true | some y=>decide (y<x))
def dl (v:Ty.d ch):Bool:=decide ((1:Int)≤v.1∧v.1≤100000)&&(decide ((1:Int)≤(v.2.1.length:Int)∧(v.2.1.length:Int)≤60)&&pR (qA (aQ (v.1-1))) none v.2.1)
theorem rh {k:Nat} (hk:2 ^ 50≤k) {v:Ty.d ch} (hl:v.2.1.length≤1099511627776):dE.f k v=some (dl v,()):=by
 unfold dE.f dE.t dl
 refine (wo (L:=fun n i=>dE.l0 k n v.2.1 v.2.1.length i v.1 v.2.1) (Ty.z (.int .i64)) v.2.1 (qA (aQ (v.1-1))) (some (decide ((1:Int)≤v.1∧v.1≤100000)&&decide ((1:Int)≤(v.2.1.length:Int)∧(v.2.1.length:Int)≤60),())) (some (false,())) (fun n=>?_) (fun n x h hx=>?_) (fun n i x y h0 h1 hx hy=>?_) (n:=k) (by omega)).trans
  (by cases pR (qA (aQ (v.1-1))) none v.2.1 <;> cases decide ((1:Int)≤v.1∧v.1≤100000) <;> cases decide ((1:Int)≤(v.2.1.length:Int)∧(v.2.1.length:Int)≤60) <;> rfl)
 · simp (disch:=omega) only [dE.l0,dE.b0,aY,aJ,iQ k,aX]
   cases decide ((1:Int)≤v.1∧v.1≤100000) <;> rfl
 · simp (disch:=omega) only [dE.l0,dE.b0,aV (show (0:Int)<(v.2.1.length:Int) by omega),aa,aN,hx,iQ k,aX,aY (show ¬ (0:Int) > 0 by omega),aJ,aE (n:=(0:Int)+1),qA]
   cases decide ((1:Int)≤x∧x≤aQ (v.1-1)) <;> rfl
 · simp (disch:=omega) only [dE.l0,dE.b0,aV h1,aa,aN,hx,iQ k,aX,aV (show i > 0 by omega),aJ,aE (n:=i+1),aE (n:=i-1),hy,qA]
   cases decide ((1:Int)≤x∧x≤aQ (v.1-1)) with
   | false=>rfl
   | true =>
    by_cases q:y<x
    · rw [aV q,aY (show ¬ y≥x from Int.not_le.2 q)];rfl
    · rw [aY q,aV (show y≥x from Int.not_lt.1 q)];rfl
end Go.Proofs.YtbgnhoggngbhhaaGreatDoor.G
namespace Go.V
theorem D5 (l:List Int):(bytesOf l).size=l.length:=by simp [bytesOf,ByteArray.size]
theorem O5 {n m:Nat} (hn:n<4294967296) (hm:m<4294967296):aQ (((BitVec.ofInt (IntKind.bits .i64) (n:Int) ^^^ BitVec.ofInt (IntKind.bits .i64) (m:Int)).toNat:Int))=((n ^^^ m:Nat):Int):=by
 have h:n ^^^ m<2 ^ 32:=Nat.xor_lt_two_pow (by omega) (by omega)
 show aQ (((BitVec.ofInt 64 (n:Int) ^^^ BitVec.ofInt 64 (m:Int)).toNat:Int))=_
 rw [BitVec.ofInt_natCast,BitVec.ofInt_natCast,BitVec.toNat_xor,BitVec.toNat_ofNat,BitVec.toNat_ofNat,Nat.mod_eq_of_lt (by omega),Nat.mod_eq_of_lt (by omega)]
 exact aE (by omega) (by omega)
theorem OD {n m:Nat} (hn:n<4294967296) (hm:m<4294967296):IntKind.wrap .u32 (((BitVec.ofInt (IntKind.bits .u32) (n:Int) ^^^ BitVec.ofInt (IntKind.bits .u32) (m:Int)).toNat:Int))=((n ^^^ m:Nat):Int):=by
 have h:n ^^^ m<2 ^ 32:=Nat.xor_lt_two_pow (by omega) (by omega)
 show IntKind.wrap .u32 (((BitVec.ofInt 32 (n:Int) ^^^ BitVec.ofInt 32 (m:Int)).toNat:Int))=_
 rw [BitVec.ofInt_natCast,BitVec.ofInt_natCast,BitVec.toNat_xor,BitVec.toNat_ofNat,BitVec.toNat_ofNat,Nat.mod_eq_of_lt (by omega),Nat.mod_eq_of_lt (by omega)]
 exact yR (by omega) (by omega)
theorem Qd {n b:Nat} (hn:n<4294967296) (hb:b<256):aQ (((BitVec.ofInt (IntKind.bits .i64) ((n*256:Nat):Int) ||| BitVec.ofInt (IntKind.bits .i64) (b:Int)).toNat:Int))=((n*256+b:Nat):Int):=by
 have h:n*256 ||| b=n*256+b:=by
  have:=Nat.shiftLeft_add_eq_or_of_lt (i:=8) (b:=b) (by omega) n
  rw [Nat.shiftLeft_eq,show (2:Nat) ^ 8=256 by decide] at this
  omega
 show aQ (((BitVec.ofInt 64 ((n*256:Nat):Int) ||| BitVec.ofInt 64 (b:Int)).toNat:Int))=_
 rw [BitVec.ofInt_natCast,BitVec.ofInt_natCast,BitVec.toNat_or,BitVec.toNat_ofNat,BitVec.toNat_ofNat,Nat.mod_eq_of_lt (by omega),Nat.mod_eq_of_lt (by omega),h]
 exact aE (by omega) (by omega)
theorem QF {n:Nat} (hn:n<4294967296):IntKind.wrap .u32 (((BitVec.ofInt (IntKind.bits .u32) (n:Int) &&& BitVec.ofInt (IntKind.bits .u32) 1).toNat:Int))=((n % 2:Nat):Int):=by
 show IntKind.wrap .u32 (((BitVec.ofInt 32 (n:Int) &&& BitVec.ofInt 32 ((1:Nat):Int)).toNat:Int))=_
 rw [BitVec.ofInt_natCast,BitVec.ofInt_natCast,BitVec.toNat_and,BitVec.toNat_ofNat,BitVec.toNat_ofNat,Nat.mod_eq_of_lt (by omega),Nat.mod_eq_of_lt (show 1<2 ^ 32 by omega),Nat.and_one_is_mod]
 exact yR (by omega) (by omega)
theorem QA {n:Nat} (hn:n<4294967296):Ha .u32 (n:Int)=4294967295-(n:Int):=by
 unfold Ha
 show IntKind.wrap .u32 (((BitVec.allOnes 32 ^^^ BitVec.ofInt 32 (n:Int)).toNat:Int))=_
 rw [BitVec.ofInt_natCast,BitVec.allOnes_xor,BitVec.toNat_not,BitVec.toNat_ofNat,Nat.mod_eq_of_lt (by omega)]
 rw [yR (by omega) (by omega)]
 omega
theorem oE (s:ByteArray):(⟨#[]⟩:ByteArray)++s=s:=by
 apply ByteArray.ext
 simp [ByteArray.data_append]
theorem iO (s:ByteArray):s++(⟨#[]⟩:ByteArray)=s:=by
 apply ByteArray.ext
 simp [ByteArray.data_append]
theorem bg (a b c:ByteArray):a++b++c=a++(b++c):=by
 apply ByteArray.ext
 simp [ByteArray.data_append]
theorem gX (a b:ByteArray):nb (a++b)=nb a++nb b:=by
 unfold nb
 rw [ByteArray.data_append,Array.toList_append,List.map_append]
theorem uI (s:ByteArray) (i j:Nat):nb (ByteArray.extract s i j)=((nb s).take j).drop i:=by
 unfold nb
 simp [ByteArray.data_extract,List.map_take,List.map_drop]
 rw [List.drop_take]
theorem j7 (s:ByteArray) (n:Nat):nb (ByteArray.extract s n s.size)=(nb s).drop n:=by
 rw [uI,List.take_of_length_le (by rw [dW];omega)]
theorem gJ (a t:ByteArray):ByteArray.extract (a++t) a.size (a++t).size=t:=kJ (by rw [j7,gX,List.drop_left' (dW a)])
theorem ye (a t:ByteArray):ByteArray.extract (a++t) 0 a.size=a:=kJ (by rw [uI,gX,List.take_left' (dW a),List.drop_zero])
theorem vK (s:ByteArray) {n:Nat} (h:n≤s.size):s=ByteArray.extract s 0 n++ByteArray.extract s n s.size:=kJ (by rw [gX,j7,lB,List.take_append_drop])
theorem tu {a b c:ByteArray} (h:a++b=a++c):b=c:=kJ (by
 have:=congrArg nb h
 rw [gX,gX] at this
 exact List.append_cancel_left this)
theorem t6 {a b c d:ByteArray} (h:a++b=c++d) (hs:a.size=c.size):a=c∧b=d:=by
 have:=congrArg nb h
 rw [gX,gX] at this
 have:=List.append_inj this (by rw [dW,dW,hs])
 exact ⟨kJ this.1,kJ this.2⟩
def rv:Nat→List Nat→Option (Nat × Nat)
 | 0,_=>none
 | _+1,[]=>none
 | d+1,b::l=>if b≥128 then (match rv d l with | some (a,n)=>if a=0 then none else some (b % 128+128*a,n+1) | none=>none) else some (b,1)
theorem Lx:∀ (d a:Nat) (t:List Nat),a<128 ^ (d+1)→rv (d+1) (vl d a++t)=some (a,(vl d a).length)
 | 0,a,t,h=>by
  have:¬ a≥128:=by simpa using h
  simp [vl,rv,this]
 | d+1,a,t,h=>by
  unfold vl
  by_cases c:a≥128
  · have ih:=Lx d (a/128) t (by rw [Nat.pow_succ] at h;omega)
    rw [if_pos c,List.cons_append,rv,if_pos (by omega),ih]
    simp only []
    rw [if_neg (by omega),jj]
    congr 2
    omega
  · rw [if_neg c,List.cons_append,rv,if_neg c]
    rfl
theorem sv:∀ (d:Nat) (l:List Nat) (a n:Nat),(∀ x ∈ l,x<256)→rv (d+1) l=some (a,n)→l.take n=vl d a∧a<128 ^ (d+1)∧n=(vl d a).length∧n≤l.length∧1≤n∧n≤d+1
 | _,[],a,n,_,h=>by simp [rv] at h
 | 0,b::l,a,n,hb,h=>by
  unfold rv at h
  by_cases c:b≥128
  · simp [c,rv] at h
  · simp [c] at h
    obtain ⟨rfl,rfl⟩:=h
    refine ⟨by simp [vl],by simpa using c,by simp [vl],by simp,by omega,by omega⟩
 | d+1,b::l,a,n,hb,h=>by
  unfold rv at h
  by_cases c:b≥128
  · rw [if_pos c] at h
    cases q:rv (d+1) l with
    | none=>rw [q] at h;simp at h
    | some p =>
     obtain ⟨a',n'⟩:=p
     obtain ⟨h1,h2,h3,h4,h5,h6⟩:=sv d l a' n' (fun x hx=>hb x (kR _ hx)) q
     rw [q] at h
     simp only [] at h
     by_cases z:a'=0
     · simp [z] at h
     · rw [if_neg z] at h
       simp only [Option.some.injEq,Prod.mk.injEq] at h
       obtain ⟨rfl,rfl⟩:=h
       have hb:=hb b (ii ..)
       have e1:(b % 128+128*a')/128=a':=by omega
       have e2:128+(b % 128+128*a') % 128=b:=by omega
       have hv:vl (d+1) (b % 128+128*a')=b::vl d a':=by
        rw [vl,if_pos (by omega),e1,e2]
       rw [hv]
       refine ⟨by rw [List.take_succ_cons,h1],by rw [Nat.pow_succ];omega,by rw [jj,h3],by rw [jj];omega,by omega,by omega⟩
  · rw [if_neg c] at h
    simp only [Option.some.injEq,Prod.mk.injEq] at h
    obtain ⟨rfl,rfl⟩:=h
    have hv:vl (d+1) b=[b]:=by rw [vl,if_neg c]
    rw [hv]
    refine ⟨by simp,?_,by simp,by simp,by omega,by omega⟩
    have:(128:Nat) ^ 1≤128 ^ (d+1+1):=Nat.pow_le_pow_right (by decide) (by omega)
    omega
theorem Q2 {d a:Nat}:vl d a≠[]:=by
 cases d with
 | zero=>simp [vl]
 | succ d=>unfold vl;split <;> simp
theorem NV (l:List Nat) (hb:∀ x ∈ l,x<256) (d n:Nat) (h0:1≤n) (h1:n≤d+1) (h2:n≤l.length):rU (l.take n)=true↔∃ a,rv (d+1) l=some (a,n):=by
 constructor
 · intro h
   have e:=Dm d (l.take n) h (by rw [List.length_take];omega)
   have hd:tJ (l.take n)<128 ^ (d+1):=Nat.lt_of_lt_of_le (Dh _) (Nat.pow_le_pow_right (by decide) (by rw [List.length_take];omega))
   have:=Lx d (tJ (l.take n)) (l.drop n) hd
   rw [e,List.take_append_drop,List.length_take,Nat.min_eq_left h2] at this
   exact ⟨_,this⟩
 · rintro ⟨a,h⟩
   obtain ⟨e1,e2,_⟩:=sv d l a n hb h
   rw [e1]
   exact (yC d a e2).1
theorem PS {l:List Nat} (hb:∀ x ∈ l,x<256) {d a n:Nat} (h:rv (d+1) l=some (a,n)):a=tJ (l.take n):=by
 obtain ⟨e1,e2,_⟩:=sv d l a n hb h
 rw [e1]
 exact (yC d a e2).2.1.symm
theorem wM (s:ByteArray):∀ x ∈ nb s,x<256:=fun _ h=>OK h
theorem ao (a:Nat):1≤(bp a).size∧(bp a).size≤7:=by
 unfold bp
 rw [D5,List.length_map]
 have h:∀ d a,(vl d a).length≤d+1:=by
  intro d
  induction d with
  | zero=>intro a;simp [vl]
  | succ d ih=>intro a;unfold vl;split <;> simp;have:=ih (a/128);omega
 have h2:=h 6 a
 have h3:(vl 6 a).length≠0:=fun q=>Q2 (List.length_eq_zero_iff.1 q)
 omega
theorem rW {a:Nat} (h:a<562949953421312):(vl 6 a).length=(bp a).size:=by rw [← vx h,dW]
theorem ya {a:Nat} (h:a<562949953421312) (t:ByteArray):rv 7 (nb (bp a++t))=some (a,(bp a).size):=by
 rw [gX,vx h,← rW h]
 exact Lx 6 a _ (by rw [show (128:Nat) ^ (6+1)=562949953421312 by decide];exact h)
theorem Mt {s:ByteArray} {a n:Nat} (h:rv 7 (nb s)=some (a,n)):∃ t,a<562949953421312∧n=(bp a).size∧s=bp a++t:=by
 obtain ⟨h1,h2,h3,h4,h5,h6⟩:=sv 6 (nb s) a n (wM s) h
 rw [show (128:Nat) ^ (6+1)=562949953421312 by decide] at h2
 refine ⟨ByteArray.extract s n s.size,h2,by rw [h3,rW h2],kJ ?_⟩
 rw [gX,vx h2,j7,← h1,List.take_append_drop]
theorem ke (s:ByteArray):(∃ a t,a<562949953421312∧s=bp a++t)∨rv 7 (nb s)=none:=by
 cases h:rv 7 (nb s) with
 | none=>exact .inr rfl
 | some p =>
  obtain ⟨a,n⟩:=p
  obtain ⟨t,h1,_,h3⟩:=Mt h
  exact .inl ⟨a,t,h1,h3⟩
theorem AE {a b:Nat} {s t:ByteArray} (ha:a<562949953421312) (hb:b<562949953421312) (h:bp a++s=bp b++t):a=b∧s=t:=by
 have h1:=ya ha s
 rw [h,ya hb t] at h1
 simp only [Option.some.injEq,Prod.mk.injEq] at h1
 obtain ⟨rfl,_⟩:=h1
 exact ⟨rfl,tu h⟩
def QP:Option (Nat × Nat)→Int × Int × Unit
 | some p=>((p.1:Int),((p.2:Int),()))
 | none=>(0,(0,()))
end Go.V
namespace Go.Proofs.YtbgnhoggngbhhaaGreatDoor.G
open Go.V
theorem sy (k:Nat) (a b c:Int):bP.f k a b c=some (decide (b≤a∧a≤c),()):=by
 unfold bP.f bP.t
 by_cases h:b≤a <;> simp [h]
theorem vE (k:Nat) (a b c:Int):ac.f k a b c=some (decide (b≤a∧a≤c),()):=by
 unfold ac.f ac.t
 by_cases h:b≤a <;> simp [h]
def jX (a:Int):ByteArray:=if 0≤a∧a≤562949953421311 then bp a.toNat else ⟨#[]⟩
theorem bK (a:Int):(jX a).size≤7:=by
 unfold jX
 split
 · exact (ao _).2
 · exact Nat.zero_le _
theorem da {a:Nat} (h:a<562949953421312):jX (a:Int)=bp a:=by
 unfold jX
 rw [if_pos (by omega),Int.toNat_natCast]
theorem Pq:∀ (d a n:Nat) (xs:List Int),a<128 ^ (d+1)→a<562949953421312→d<n→xs.length+d≤100→∀ k,
 fF.l0 k n (a:Int) xs=some (bytesOf (xs++(vl d a).map Int.ofNat),())∧fW.l0 k n (a:Int) xs=some (bytesOf (xs++(vl d a).map Int.ofNat),()):=by
 intro d
 induction d with
 | zero =>
  intro a n xs h1 h2 h3 h4 k
  obtain ⟨n,rfl⟩:∃ q,n=q+1:=⟨n-1,by omega⟩
  simp only [Nat.zero_add,Nat.pow_one] at h1
  constructor
  · simp (disch:=first | omega | decide) only [fF.l0,fF.b0,aY,aJ,bf,w_]
    rfl
  · simp (disch:=first | omega | decide) only [fW.l0,fW.b0,aY,aJ,bf,w_]
    rfl
 | succ d ih =>
  intro a n xs h1 h2 h3 h4 k
  obtain ⟨n,rfl⟩:∃ q,n=q+1:=⟨n-1,by omega⟩
  unfold vl
  by_cases c:a≥128
  · have hd:aQ (Int.tdiv (a:Int) 128)=((a/128:Nat):Int):=aE (n:=((a/128:Nat):Int)) (by omega) (by omega)
    have hw:IntKind.wrap .u8 (aQ (128+Int.tmod (a:Int) 128))=((128+a % 128:Nat):Int):=by
     have e:128+Int.tmod (a:Int) 128=((128+a % 128:Nat):Int):=by
      show 128+((a % 128:Nat):Int)=_
      omega
     rw [e,aE (by omega) (by omega)]
     exact w_ (by omega) (by omega)
    have ih:=ih (a/128) n (xs++[((128+a % 128:Nat):Int)]) (by rw [Nat.pow_succ] at h1;omega) (by omega) (by omega) (by rw [py];show _+1+d≤_;omega) k
    rw [if_pos c]
    rw [nw] at ih
    constructor
    · simp (disch:=first | omega | decide) only [fF.l0,fF.b0,aV,aa,bf,hd,hw]
      exact ih.1
    · simp (disch:=first | omega | decide) only [fW.l0,fW.b0,aV,aa,bf,hd,Int.add_comm (Int.tmod (a:Int) 128) 128,hw]
      exact ih.2
  · rw [if_neg c]
    constructor
    · simp (disch:=first | omega | decide) only [fF.l0,fF.b0,aY,aJ,bf,w_]
      rfl
    · simp (disch:=first | omega | decide) only [fW.l0,fW.b0,aY,aJ,bf,w_]
      rfl
theorem nE {k:Nat} (hk:2 ^ 50≤k) (a:Int):fF.f k a=some (jX a,()):=by
 unfold fF.f fF.t jX
 rw [sy,aX]
 by_cases h:0≤a∧a≤562949953421311
 · obtain ⟨n,rfl⟩:=Int.eq_ofNat_of_zero_le h.1
   have hn:n<562949953421312:=by omega
   simp only [aV h,fN,aJ,if_pos h,Int.toNat_natCast]
   exact (Pq 6 n k [] (by rw [show (128:Nat) ^ (6+1)=562949953421312 by decide];exact hn) hn (by omega) (by decide) k).1
 · simp only [aY h,tR,aa,if_neg h]
theorem oq {k:Nat} (hk:2 ^ 50≤k) (a:Int):fW.f k a=some (jX a,()):=by
 unfold fW.f fW.t jX
 rw [vE,aX]
 by_cases h:0≤a∧a≤562949953421311
 · obtain ⟨n,rfl⟩:=Int.eq_ofNat_of_zero_le h.1
   have hn:n<562949953421312:=by omega
   simp only [aV h,fN,aJ,if_pos h,Int.toNat_natCast]
   exact (Pq 6 n k [] (by rw [show (128:Nat) ^ (6+1)=562949953421312 by decide];exact hn) hn (by omega) (by decide) k).2
 · simp only [aY h,tR,aa,if_neg h]
theorem M5 {s:ByteArray} {i:Nat} (h:i<s.size):(nb s).take (i+1)=(nb s).take i++[(nb s).getD i 0]:=by
 have h1:i<(nb s).length:=by rw [dW];exact h
 rw [List.take_succ_eq_append_getElem h1]
 simp [List.getD,h1]
theorem kP (s:ByteArray) (i:Nat):(nb s).getD i 0<256:=by
 by_cases h1:i<(nb s).length
 · rw [show (nb s).getD i 0=(nb s)[i] by simp [List.getD,h1]]
   exact OK (List.getElem_mem h1)
 · simp [List.getD,List.getElem?_eq_none (by omega:(nb s).length≤i)]
theorem si {s:ByteArray} {i:Nat} (h:i<s.size):(nb s).drop i=(nb s).getD i 0::(nb s).drop (i+1):=by
 have h1:i<(nb s).length:=by rw [dW];exact h
 rw [List.drop_eq_getElem_cons h1]
 simp [List.getD,h1]
def GU (n:Nat):Nat:=if n % 2=1 then n/2 ^^^ 2197175160 else n/2
def Ax:Nat→Nat→Nat
 | 0,n=>n
 | d+1,n=>Ax d (GU n)
theorem DT {n:Nat} (h:n<4294967296):GU n<4294967296:=by
 unfold GU
 split
 · exact Nat.xor_lt_two_pow (n:=32) (by omega) (by omega)
 · omega
theorem Cm:∀ {d n:Nat},n<4294967296→Ax d n<4294967296
 | 0,_,h=>h
 | d+1,_,h=>Cm (d:=d) (DT h)
def GM:List Nat→Nat→Nat
 | [],n=>n
 | b::l,n=>GM l (Ax 8 (n ^^^ b))
theorem I_:∀ {l:List Nat} {n:Nat},n<4294967296→(∀ b ∈ l,b<256)→GM l n<4294967296
 | [],_,h,_=>h
 | b::l,n,h,hb=>by
  have:=hb b (ii ..)
  exact I_ (l:=l) (Cm (Nat.xor_lt_two_pow (n:=32) (by omega) (by omega))) (fun x hx=>hb x (kR _ hx))
def sP (s:ByteArray):Int:=4294967295-(GM (nb s) 4294967295:Int)
theorem vu (s:ByteArray):0≤sP s∧sP s≤4294967295:=by
 have:=I_ (l:=nb s) (n:=4294967295) (by omega) (wM s)
 unfold sP
 omega
theorem Ik {k:Nat} {L0:ByteArray→Int→Int→Option (Int × Unit)} {s:ByteArray} {i:Int}:∀ (d j m n:Nat),8-j=d→j≤8→d<m→n<4294967296→jk.l1 k L0 m s (n:Int) i (j:Int)=L0 s ((Ax d n:Nat):Int) (aQ (i+1))
 | 0,j,m,n,hd,hj,hm,hn=>by
  obtain ⟨m,rfl⟩:∃ q,m=q+1:=⟨m-1,by omega⟩
  have c:¬ ((j:Int)<8):=by omega
  simp only [jk.l1,jk.b1,decide_eq_false c,aJ,Ax]
 | d+1,j,m,n,hd,hj,hm,hn=>by
  obtain ⟨m,rfl⟩:∃ q,m=q+1:=⟨m-1,by omega⟩
  have c:((j:Int)<8):=by omega
  have ih:=Ik (k:=k) (L0:=L0) (s:=s) (i:=i) d (j+1) m (GU n) (by omega) (by omega) (by omega) (DT hn)
  have hd2:aQ (Int.tdiv (n:Int) 2)=((n/2:Nat):Int):=aE (n:=((n/2:Nat):Int)) (by omega) (by omega)
  have hx:=O5 (n:=n/2) (m:=2197175160) (by omega) (by omega)
  have hm2:Int.tmod (n:Int) 2=((n % 2:Nat):Int):=rfl
  have hj1:aQ ((j:Int)+1)=((j+1:Nat):Int):=by rw [aE (by omega) (by omega)];omega
  simp only [jk.l1,jk.b1,decide_eq_true c,aa,hj1,hd2,hm2,Ax]
  rw [← ih]
  unfold GU
  by_cases q:n % 2=1
  · rw [if_pos q,q,← hx]
    rfl
  · rw [if_neg q,show n % 2=0 by omega]
    rfl
theorem Hl {k:Nat} {L0:ByteArray→Int→Int→Option (Int × Unit)} {s:ByteArray} {i:Int}:∀ (d j m n:Nat),8-j=d→j≤8→d<m→n<4294967296→gI.l1 k L0 m s (n:Int) i (j:Int)=L0 s ((Ax d n:Nat):Int) (aQ (i+1))
 | 0,j,m,n,hd,hj,hm,hn=>by
  obtain ⟨m,rfl⟩:∃ q,m=q+1:=⟨m-1,by omega⟩
  have c:¬ ((j:Int)<8):=by omega
  simp only [gI.l1,gI.b1,decide_eq_false c,aJ,Ax]
 | d+1,j,m,n,hd,hj,hm,hn=>by
  obtain ⟨m,rfl⟩:∃ q,m=q+1:=⟨m-1,by omega⟩
  have c:((j:Int)<8):=by omega
  have ih:=Hl (k:=k) (L0:=L0) (s:=s) (i:=i) d (j+1) m (GU n) (by omega) (by omega) (by omega) (DT hn)
  have hd2:Int.fdiv (n:Int) (2 ^ (Int.toNat 1))=((n/2:Nat):Int):=by
   show Int.fdiv (n:Int) 2=_
   rw [Int.fdiv_eq_ediv_of_nonneg _ (by omega)]
   omega
  have hx:=OD (n:=n/2) (m:=2197175160) (by omega) (by omega)
  have hj1:aQ ((j:Int)+1)=((j+1:Nat):Int):=by rw [aE (by omega) (by omega)];omega
  simp only [gI.l1,gI.b1,decide_eq_true c,aa,hj1,hd2,QF hn,Ax]
  rw [← ih]
  unfold GU
  by_cases q:n % 2=1
  · rw [if_pos q,q,← hx]
    rfl
  · rw [if_neg q,show n % 2=0 by omega]
    rfl
theorem PG {k:Nat} (hk:2 ^ 50≤k) {s:ByteArray} (hs:s.size≤1099511627776):∀ (d i n m:Nat),s.size-i=d→i≤s.size→n<4294967296→d<m →
 jk.l0 k m s (n:Int) (i:Int)=some (4294967295-(GM ((nb s).drop i) n:Int),())∧gI.l0 k m s (n:Int) (i:Int)=some (4294967295-(GM ((nb s).drop i) n:Int),())
 | 0,i,n,m,hd,hi,hn,hm=>by
  obtain ⟨m,rfl⟩:∃ q,m=q+1:=⟨m-1,by omega⟩
  have c:¬ ((i:Int)<(s.size:Int)):=by omega
  have e1:aQ (4294967295-(n:Int))=4294967295-(n:Int):=aE (by omega) (by omega)
  rw [List.drop_eq_nil_of_le (by rw [dW];omega)]
  constructor
  · simp only [jk.l0,jk.b0,decide_eq_false c,aJ,e1,GM]
  · simp only [gI.l0,gI.b0,decide_eq_false c,aJ,QA hn,e1,GM]
 | d+1,i,n,m,hd,hi,hn,hm=>by
  obtain ⟨m,rfl⟩:∃ q,m=q+1:=⟨m-1,by omega⟩
  have hlt:i<s.size:=by omega
  have c:((i:Int)<(s.size:Int)):=by omega
  have h0:=Int.natCast_nonneg i
  have hb:=kP s i
  have hat:=Bm hlt
  rw [si hlt]
  generalize (nb s).getD i 0=b at hb hat
  have w1:aQ (b:Int)=(b:Int):=aE (by omega) (by omega)
  have w2:IntKind.wrap .u32 (b:Int)=(b:Int):=yR (by omega) (by omega)
  have hnb:n ^^^ b<4294967296:=Nat.xor_lt_two_pow (n:=32) (by omega) (by omega)
  have up:aQ ((i:Int)+1)=((i+1:Nat):Int):=by rw [aE (by omega) (by omega)];omega
  obtain ⟨s1,s2⟩:=PG hk hs d (i+1) (Ax 8 (n ^^^ b)) m (by omega) (by omega) (Cm hnb) (by omega)
  constructor
  · simp only [jk.l0,jk.b0,decide_eq_true c,aa,aN h0 c,hat,w1,O5 hn (show b<4294967296 by omega)]
    refine (Ik 8 0 k (n ^^^ b) (by omega) (by omega) (by omega) hnb).trans ?_
    rw [up]
    exact s1
  · simp only [gI.l0,gI.b0,decide_eq_true c,aa,aN h0 c,hat,w2,OD hn (show b<4294967296 by omega)]
    refine (Hl 8 0 k (n ^^^ b) (by omega) (by omega) (by omega) hnb).trans ?_
    rw [up]
    exact s2
theorem Hb {k:Nat} (hk:2 ^ 50≤k) {s:ByteArray} (hs:s.size≤1099511627776):jk.f k s=some (sP s,()):=by
 have:=(PG hk hs s.size 0 4294967295 k (by omega) (by omega) (by omega) (by omega)).1
 rw [List.drop_zero] at this
 exact this
theorem uK {k:Nat} (hk:2 ^ 50≤k) {s:ByteArray} (hs:s.size≤1099511627776):gI.f k s=some (sP s,()):=by
 have:=(PG hk hs s.size 0 4294967295 k (by omega) (by omega) (by omega) (by omega)).2
 rw [List.drop_zero] at this
 exact this
def eu (n:Nat):ByteArray:=bytesOf [((n/16777216 % 256:Nat):Int),((n/65536 % 256:Nat):Int),((n/256 % 256:Nat):Int),((n % 256:Nat):Int)]
theorem mo (n:Nat):(eu n).size=4:=rfl
theorem IB (n:Nat):nb (eu n)=[n/16777216 % 256,n/65536 % 256,n/256 % 256,n % 256] :=
 G5 (l:=[n/16777216 % 256,n/65536 % 256,n/256 % 256,n % 256]) (by simp;omega)
theorem H2 {k:Nat} (hk:2 ^ 50≤k) {n:Nat} (h1:n<4294967296):g_.f k (n:Int) 4=some (eu n,()):=by
 have sz1:∀ x:Int,(bytesOf [x]).size=1:=fun x=>rfl
 have st:∀ (q m:Nat) (t:ByteArray) (j:Nat),m<4294967296→j<4→t.size≤100→g_.l0 k (q+1) (m:Int) 4 t (j:Int)=g_.l0 k q ((m/256:Nat):Int) 4 (bytesOf [((m % 256:Nat):Int)]++t) ((j+1:Nat):Int):=fun q m t j hm hj ht=>by
  have wd:aQ (Int.tdiv (m:Int) 256)=((m/256:Nat):Int):=aE (n:=((m/256:Nat):Int)) (by omega) (by omega)
  have wm:IntKind.wrap .u8 (Int.tmod (m:Int) 256)=((m % 256:Nat):Int):=w_ (n:=((m % 256:Nat):Int)) (by omega) (by omega)
  have wj:aQ ((j:Int)+1)=((j+1:Nat):Int):=by rw [aE (by omega) (by omega)];omega
  simp (disch:=omega) only [g_.l0,g_.b0,aV,aa,wd,wm,wj]
  rw [iz (by rw [sz1];omega)]
 unfold g_.f g_.t
 rw [sy,aX]
 simp only [show decide ((1:Int)≤4∧(4:Int)≤7)=true by decide,fN,aJ,aY (show ¬ ((n:Int)<0) by omega)]
 obtain ⟨q,hq⟩:∃ q,k=q+5:=⟨k-5,by omega⟩
 refine (congrArg (fun z=>g_.l0 k z (n:Int) 4 ⟨#[]⟩ 0) hq).trans ?_
 refine (st (q+4) n _ 0 h1 (by omega) (by decide)).trans ?_
 refine (st (q+3) (n/256) _ 1 (by omega) (by omega) (by rw [ByteArray.size_append,sz1];decide)).trans ?_
 refine (st (q+2) (n/256/256) _ 2 (by omega) (by omega) (by rw [ByteArray.size_append,ByteArray.size_append,sz1,sz1];decide)).trans ?_
 refine (st (q+1) (n/256/256/256) _ 3 (by omega) (by omega) (by rw [ByteArray.size_append,ByteArray.size_append,ByteArray.size_append,sz1,sz1,sz1];decide)).trans ?_
 have c:¬ ((((3+1:Nat)):Int)<4):=by omega
 have c2:¬ (((n/256/256/256/256:Nat):Int) > 0):=by omega
 simp only [g_.l0,g_.b0,aY c,aY c2,aJ]
 unfold eu
 congr 2
 rw [show n/256/256/256=n/16777216 by omega,show n/256/256=n/65536 by omega]
 apply ByteArray.ext
 simp [bytesOf,ByteArray.data_append]
theorem HL {k:Nat} (hk:2 ^ 50≤k) {n:Nat} (h1:n<4294967296):dh.f k (n:Int) 4=some (eu n,()):=by
 have st:∀ (q j p:Nat) (i':Int) (xs:List Int),j≤3→p=2 ^ (8*j)→i'=(j:Int)-1→xs.length≤100→dh.l0 k (q+1) (n:Int) (j:Int) xs=dh.l0 k q (n:Int) i' (xs++[((n/p % 256:Nat):Int)]):=fun q j p i' xs hj hp hi hx=>by
  have e8:aQ (8*(j:Int))=((8*j:Nat):Int):=by rw [aE (by omega) (by omega)];omega
  have e1:aQ ((j:Int)-1)=i':=by rw [hi];exact aE (by omega) (by omega)
  have emin:min (8*j) (IntKind.bits .i64)=8*j:=by have:IntKind.bits .i64=64:=rfl;rw [this];omega
  have ew:IntKind.wrap .u8 (Int.fdiv (n:Int) (2 ^ (8*j)))=((n/p % 256:Nat):Int):=by
   have e2:((2:Int) ^ (8*j))=((p:Nat):Int):=by rw [hp,Int.natCast_pow];rfl
   rw [e2,Int.fdiv_eq_ediv_of_nonneg _ (by omega),← Int.natCast_ediv]
   generalize n/p=z
   unfold IntKind.wrap
   simp [IntKind.bits,IntKind.signed]
  simp (disch:=first | omega | decide) only [dh.l0,dh.b0,aV,aa,e8,bf,e1,rI,emin,ew]
  rw [aY (by omega),aJ]
 unfold dh.f dh.t
 rw [vE,aX]
 have c0:¬ (aQ (8*4)<0):=by decide
 simp only [show decide ((1:Int)≤4∧(4:Int)≤7)=true by decide,fN,aJ,aY c0,show aQ (aQ (1*2 ^ min (Int.toNat (aQ (8*4))) (IntKind.bits .i64))-1)=4294967295 by decide,vE,aX]
 rw [aV (show (0:Int)≤(n:Int)∧(n:Int)≤4294967295 by omega)]
 simp only [fN,aJ,show aQ ((4:Int)-1)=((3:Nat):Int) by decide]
 obtain ⟨q,hq⟩:∃ q,k=q+5:=⟨k-5,by omega⟩
 refine (congrArg (fun z=>dh.l0 k z (n:Int) ((3:Nat):Int) []) hq).trans ?_
 refine (st (q+4) 3 16777216 ((2:Nat):Int) _ (by omega) (by decide) (by decide) (by decide)).trans ?_
 refine (st (q+3) 2 65536 ((1:Nat):Int) _ (by omega) (by decide) (by decide) (by simp)).trans ?_
 refine (st (q+2) 1 256 ((0:Nat):Int) _ (by omega) (by decide) (by decide) (by simp)).trans ?_
 refine (st (q+1) 0 1 (-1) _ (by omega) (by decide) (by decide) (by simp)).trans ?_
 simp only [dh.l0,dh.b0,show decide ((-1:Int)≥0)=false by decide,aJ,Nat.div_one]
 rfl
def v7 (a:Int):ByteArray:=eu a.toNat
theorem im (a:Int):(v7 a).size=4:=rfl
theorem vW {k:Nat} (hk:2 ^ 50≤k) {a:Int} (h0:0≤a) (h1:a≤4294967295):g_.f k a 4=some (v7 a,()):=by
 obtain ⟨n,rfl⟩:=Int.eq_ofNat_of_zero_le h0
 exact H2 hk (by omega)
theorem qc {k:Nat} (hk:2 ^ 50≤k) {a:Int} (h0:0≤a) (h1:a≤4294967295):dh.f k a 4=some (v7 a,()):=by
 obtain ⟨n,rfl⟩:=Int.eq_ofNat_of_zero_le h0
 exact HL hk (by omega)
theorem AA (s:ByteArray):(∃ x t,x<4294967296∧s=eu x++t)∨s.size<4:=by
 by_cases c:s.size<4
 · exact .inr c
 · left
   have h0:=si (s:=s) (i:=0) (by omega)
   have h1:=si (s:=s) (i:=1) (by omega)
   have h2:=si (s:=s) (i:=2) (by omega)
   have h3:=si (s:=s) (i:=3) (by omega)
   have b0:=kP s 0
   have b1:=kP s 1
   have b2:=kP s 2
   have b3:=kP s 3
   rw [h1,h2,h3,List.drop_zero] at h0
   generalize (nb s).getD 0 0=x0 at *
   generalize (nb s).getD 1 0=x1 at *
   generalize (nb s).getD 2 0=x2 at *
   generalize (nb s).getD 3 0=x3 at *
   refine ⟨((x0*256+x1)*256+x2)*256+x3,ByteArray.extract s 4 s.size,by omega,kJ ?_⟩
   rw [gX,IB,j7,h0]
   simp only [List.cons_append,List.nil_append,List.drop_succ_cons,List.drop_zero,List.cons.injEq,and_true]
   refine ⟨?_,?_,?_,?_⟩ <;> omega
theorem xb (x:Nat) (t:ByteArray):nb (eu x++t)=(x/16777216 % 256)::(x/65536 % 256)::(x/256 % 256)::(x % 256)::nb t:=by
 rw [gX,IB];rfl
theorem nR (x:Nat) (t:ByteArray):(eu x++t).size=4+t.size:=by rw [ByteArray.size_append];rfl
theorem o7 (k:Nat) (s:ByteArray):dX.f k s=some (decide (1≤(s.size:Int)∧(s.size:Int)≤8),()):=by
 unfold dX.f dX.t
 rw [sy];rfl
theorem kN (k:Nat) (s:ByteArray):df.f k s=some (decide (1≤(s.size:Int)∧(s.size:Int)≤8),()):=by
 unfold df.f df.t
 rw [vE];rfl
def bd (a:Ty.d ba):Bool :=
 bif a.1==1||a.1==4 then decide (1≤(a.2.2.1.size:Int)∧(a.2.2.1.size:Int)≤8)&&(decide ((a.2.2.2.1.size:Int)≤24)&&((a.2.2.2.2.1==0)&&((a.2.2.2.2.2.1==0)&&decide (1≤a.2.1∧a.2.1≤1000000))))
 else bif a.1==2 then decide (1≤(a.2.2.1.size:Int)∧(a.2.2.1.size:Int)≤8)&&(seq a.2.2.2.1 ⟨#[]⟩&&((a.2.2.2.2.1==0)&&((a.2.2.2.2.2.1==0)&&decide (1≤a.2.1∧a.2.1≤1000000))))
 else bif a.1==3 then seq a.2.2.1 ⟨#[]⟩&&(seq a.2.2.2.1 ⟨#[]⟩&&(decide (0≤a.2.2.2.2.1∧a.2.2.2.2.1≤8)&&(decide (0≤a.2.2.2.2.2.1∧a.2.2.2.2.2.1≤4294967295)&&decide (1≤a.2.1∧a.2.1≤1000000))))
 else bif a.1==5 then seq a.2.2.1 ⟨#[]⟩&&(seq a.2.2.2.1 ⟨#[]⟩&&(decide (0≤a.2.2.2.2.1∧a.2.2.2.2.1≤20)&&(decide (0≤a.2.2.2.2.2.1∧a.2.2.2.2.2.1≤4294967295)&&decide (0≤a.2.1∧a.2.1≤1000000))))
 else false
theorem JE (s:ByteArray):seq s ByteArray.empty=seq s ⟨#[]⟩:=rfl
theorem iW (k:Nat) (a:Ty.d ba):gD.f k a=some (bd a,()):=by
 obtain ⟨ty,tx,key,tt,n,sm,u⟩:=a
 unfold gD.f gD.t bd
 simp only [vE,kN,aX,bZ,JE]
 change Int at ty tx n sm
 change ByteArray at key tt
 generalize decide (1≤(key.size:Int)∧(key.size:Int)≤8)=K
 generalize decide ((tt.size:Int)≤24)=L
 generalize decide (1≤tx∧tx≤1000000)=T1
 generalize decide (0≤tx∧tx≤1000000)=T0
 generalize decide (0≤n∧n≤8)=N1
 generalize decide (0≤n∧n≤20)=N2
 generalize decide (0≤sm∧sm≤4294967295)=S
 generalize (n==0)=Z1
 generalize (sm==0)=Z2
 generalize seq key ⟨#[]⟩=E1
 generalize seq tt ⟨#[]⟩=E2
 by_cases h1:ty=1
 · subst h1;simp;cases K <;> cases L <;> cases T1 <;> cases Z1 <;> cases Z2 <;> rfl
 by_cases h4:ty=4
 · subst h4;simp;cases K <;> cases L <;> cases T1 <;> cases Z1 <;> cases Z2 <;> rfl
 by_cases h2:ty=2
 · subst h2;simp;cases K <;> cases E2 <;> cases T1 <;> cases Z1 <;> cases Z2 <;> rfl
 by_cases h3:ty=3
 · subst h3;simp;cases E1 <;> cases E2 <;> cases T1 <;> cases N1 <;> cases S <;> rfl
 by_cases h5:ty=5
 · subst h5;simp;cases E1 <;> cases E2 <;> cases T0 <;> cases N2 <;> cases S <;> rfl
 have b1:(ty==1)=false:=pz h1
 have b2:(ty==2)=false:=pz h2
 have b3:(ty==3)=false:=pz h3
 have b4:(ty==4)=false:=pz h4
 have b5:(ty==5)=false:=pz h5
 have b6:(ty != 5)=true:=bne_iff_ne.2 h5
 simp only [b1,b2,b3,b4,b5,b6,Bool.or_false,aJ,aa]
theorem Ck (k:Nat) (a:Ty.d ba):oa.f k a=some (bd a,()):=by
 obtain ⟨ty,tx,key,tt,n,sm,u⟩:=a
 unfold oa.f oa.t bd
 simp only [sy,o7,aX]
 change Int at ty tx n sm
 change ByteArray at key tt
 have q:decide (1≤tx∧tx≤1000000)=(decide (0≤tx∧tx≤1000000)&&!(tx==0)):=by
  rw [Bool.eq_iff_iff];simp;omega
 rw [q]
 generalize decide (1≤(key.size:Int)∧(key.size:Int)≤8)=K
 generalize decide ((tt.size:Int)≤24)=L
 generalize decide (0≤tx∧tx≤1000000)=T0
 generalize (tx==0)=T
 generalize decide (0≤n∧n≤8)=N1
 generalize decide (0≤n∧n≤20)=N2
 generalize decide (0≤sm∧sm≤4294967295)=S
 generalize (n==0)=Z1
 generalize (sm==0)=Z2
 generalize seq key ⟨#[]⟩=E1
 generalize seq tt ⟨#[]⟩=E2
 by_cases h1:ty=1
 · subst h1;simp;cases T0 <;> cases T <;> cases K <;> cases L <;> cases Z1 <;> cases Z2 <;> rfl
 by_cases h4:ty=4
 · subst h4;simp;cases T0 <;> cases T <;> cases K <;> cases L <;> cases Z1 <;> cases Z2 <;> rfl
 by_cases h2:ty=2
 · subst h2;simp;cases T0 <;> cases T <;> cases K <;> cases E2 <;> cases Z1 <;> cases Z2 <;> rfl
 by_cases h3:ty=3
 · subst h3;simp;cases T0 <;> cases T <;> cases E1 <;> cases E2 <;> cases N1 <;> cases S <;> rfl
 by_cases h5:ty=5
 · subst h5;simp;cases T0 <;> cases T <;> cases E1 <;> cases E2 <;> cases N2 <;> cases S <;> rfl
 have b1:(ty==1)=false:=pz h1
 have b2:(ty==2)=false:=pz h2
 have b3:(ty==3)=false:=pz h3
 have b4:(ty==4)=false:=pz h4
 have b5:(ty==5)=false:=pz h5
 have b6:(ty != 5)=true:=bne_iff_ne.2 h5
 simp only [b1,b2,b3,b4,b5,b6,Bool.or_false,aJ,aa]
 cases T0 <;> cases T <;> rfl
def jf (s:ByteArray):ByteArray:=jX (s.size:Int)++s
theorem kG (s:ByteArray):(jf s).size≤7+s.size:=by
 unfold jf
 have:=bK (s.size:Int)
 rw [ByteArray.size_append]
 omega
def aI (a:Ty.d ba):ByteArray :=
 if bd a=true then
  if a.1=1∨a.1=4 then jX a.1++(jX a.2.1++(jf a.2.2.1++jf a.2.2.2.1))
  else if a.1=2 then jX a.1++(jX a.2.1++jf a.2.2.1)
  else jX a.1++(jX a.2.1++(jX a.2.2.2.2.1++v7 a.2.2.2.2.2.1))
 else ⟨#[]⟩
theorem nX {a:Ty.d ba} (h:bd a=true) :
 ((a.1=1∨a.1=4)∧1≤a.2.2.1.size∧a.2.2.1.size≤8∧a.2.2.2.1.size≤24∧a.2.2.2.2.1=0∧a.2.2.2.2.2.1=0∧1≤a.2.1∧a.2.1≤1000000) ∨
 (a.1=2∧1≤a.2.2.1.size∧a.2.2.1.size≤8∧a.2.2.2.1=⟨#[]⟩∧a.2.2.2.2.1=0∧a.2.2.2.2.2.1=0∧1≤a.2.1∧a.2.1≤1000000) ∨
 ((a.1=3∨a.1=5)∧a.2.2.1=⟨#[]⟩∧a.2.2.2.1=⟨#[]⟩∧0≤a.2.2.2.2.1∧a.2.2.2.2.1≤20∧0≤a.2.2.2.2.2.1∧a.2.2.2.2.2.1≤4294967295∧0≤a.2.1∧a.2.1≤1000000):=by
 obtain ⟨kd,bt,key,val,cn,sm,u⟩:=a
 change Int at kd bt cn sm
 change ByteArray at key val
 unfold bd at h
 simp only [] at h ⊢
 by_cases c:kd=1∨kd=4
 · have b:(kd==1||kd==4)=true:=by rcases c with c | c <;> rw [c] <;> rfl
   rw [b,aa] at h
   simp only [iA,decide_eq_true_eq,beq_iff_eq] at h
   exact .inl ⟨c,by omega,by omega,by omega,h.2.2.1,h.2.2.2.1,h.2.2.2.2⟩
 · have b1:(kd==1)=false:=pz fun h=>c (.inl h)
   have b4:(kd==4)=false:=pz fun h=>c (.inr h)
   simp only [b1,b4,Bool.or_false,aJ] at h
   cases b2:(kd==2) with
   | true =>
    rw [b2,aa] at h
    simp only [iA,decide_eq_true_eq,beq_iff_eq,eE] at h
    exact .inr (.inl ⟨eq_of_beq b2,by omega,by omega,h.2.1,h.2.2.1,h.2.2.2.1,h.2.2.2.2⟩)
   | false =>
    rw [b2,aJ] at h
    cases b3:(kd==3) with
    | true =>
     rw [b3,aa] at h
     simp only [iA,decide_eq_true_eq,eE] at h
     exact .inr (.inr ⟨.inl (eq_of_beq b3),h.1,h.2.1,h.2.2.1.1,Int.le_trans h.2.2.1.2 (by decide),h.2.2.2.1.1,h.2.2.2.1.2,Int.le_trans (by decide) h.2.2.2.2.1,h.2.2.2.2.2⟩)
    | false =>
     rw [b3,aJ] at h
     cases b5:(kd==5) with
     | true =>
      rw [b5,aa] at h
      simp only [iA,decide_eq_true_eq,eE] at h
      exact .inr (.inr ⟨.inr (eq_of_beq b5),h.1,h.2.1,h.2.2.1.1,h.2.2.1.2,h.2.2.2.1.1,h.2.2.2.1.2,h.2.2.2.2.1,h.2.2.2.2.2⟩)
     | false =>
      rw [b5,aJ] at h
      cases h
theorem yH {kd b cn sm:Int} {key val:ByteArray} (h:bd (kd,(b,(key,(val,(cn,(sm,()))))))=true) :
 ((kd=1∨kd=4)∧1≤key.size∧key.size≤8∧val.size≤24∧cn=0∧sm=0∧1≤b∧b≤1000000) ∨
 (kd=2∧1≤key.size∧key.size≤8∧val=⟨#[]⟩∧cn=0∧sm=0∧1≤b∧b≤1000000) ∨
 ((kd=3∨kd=5)∧key=⟨#[]⟩∧val=⟨#[]⟩∧0≤cn∧cn≤20∧0≤sm∧sm≤4294967295∧0≤b∧b≤1000000):=nX h
theorem fg {k:Nat} (hk:2 ^ 50≤k) (a:Ty.d ba):iE.f k a=some (aI a,()):=by
 unfold iE.f iE.t aI
 rw [Ck,aX]
 cases hr:bd a with
 | false=>rfl
 | true =>
  have v1:=bK a.1
  have v2:=bK a.2.1
  have v3:=bK (a.2.2.1.size:Int)
  have v4:=bK (a.2.2.2.1.size:Int)
  have v5:=bK a.2.2.2.2.1
  have v6:=im a.2.2.2.2.2.1
  simp only [fN,aJ,if_true,jf]
  rcases nX hr with ⟨c,h⟩ | ⟨c,h⟩ | ⟨c,h⟩
  · rw [if_pos c]
    rcases c with c | c
    · have b1:(a.1==1)=true:=by rw [c];rfl
      simp (disch:=first | omega | (simp only [ByteArray.size_append];omega)) only [nE hk,aX,b1,aa,iz,bg]
    · have b1:(a.1==1)=false:=by rw [c];rfl
      have b4:(a.1==4)=true:=by rw [c];rfl
      simp (disch:=first | omega | (simp only [ByteArray.size_append];omega)) only [nE hk,aX,b1,b4,aa,aJ,iz,bg]
  · have b1:(a.1==1)=false:=by rw [c];rfl
    have b4:(a.1==4)=false:=by rw [c];rfl
    have b2:(a.1==2)=true:=by rw [c];rfl
    rw [if_neg (show ¬ (a.1=1∨a.1=4) by rw [c];decide),if_pos c]
    simp (disch:=first | omega | (simp only [ByteArray.size_append];omega)) only [nE hk,aX,b1,b2,b4,aa,aJ,iz,bg]
  · have b1:(a.1==1)=false:=by rcases c with c | c <;> rw [c] <;> rfl
    have b4:(a.1==4)=false:=by rcases c with c | c <;> rw [c] <;> rfl
    have b2:(a.1==2)=false:=by rcases c with c | c <;> rw [c] <;> rfl
    rw [if_neg (show ¬ (a.1=1∨a.1=4) by rcases c with c | c <;> rw [c] <;> decide),if_neg (show ¬ a.1=2 by rcases c with c | c <;> rw [c] <;> decide)]
    obtain ⟨_,_,_,_,z1,z2,_⟩:=h
    simp (disch:=first | assumption | omega | (simp only [ByteArray.size_append];omega)) only [nE hk,vW hk,aX,b1,b2,b4,aa,aJ,iz,bg]
theorem C2 {k:Nat} (hk:2 ^ 50≤k) (x y:Int):dY.f k [x,y]=some (jX x++jX y,()):=by
 have v1:=bK x
 have v2:=bK y
 obtain ⟨q,hq⟩:∃ q,k=q+3:=⟨k-3,by omega⟩
 refine (congrArg (fun z=>dY.l0 k z ⟨#[]⟩ [x,y] 2 0) hq).trans ?_
 rw [show dY.l0 k (q+3) ⟨#[]⟩ [x,y] 2 0=(fW.f k x).bind (fun r1=>o8 ⟨#[]⟩ r1.1 (dY.l0 k (q+2) (⟨#[]⟩++r1.1) [x,y] 2 1)) from rfl]
 rw [oq hk,aX]
 simp only []
 rw [iz (by rw [show (⟨#[]⟩:ByteArray).size=0 from rfl];omega),oE]
 rw [show dY.l0 k (q+2) (jX x) [x,y] 2 1=(fW.f k y).bind (fun r1=>o8 (jX x) r1.1 (dY.l0 k (q+1) (jX x++r1.1) [x,y] 2 2)) from rfl]
 rw [oq hk,aX]
 simp only []
 rw [iz (by omega)]
 rfl
theorem lq {k:Nat} (hk:2 ^ 50≤k) {s:ByteArray} (hs:s.size≤1099511627776):dz.f k s=some (jf s,()):=by
 have:=bK (s.size:Int)
 unfold dz.f dz.t jf
 simp (disch:=omega) only [oq hk,aX,iz]
theorem p5 {k:Nat} (hk:2 ^ 50≤k) (a:Ty.d ba):fw.f k a=some (aI a,()):=by
 unfold fw.f fw.t aI
 rw [iW,aX]
 cases hr:bd a with
 | false=>rfl
 | true =>
  have v1:=bK a.1
  have v2:=bK a.2.1
  have v3:=kG a.2.2.1
  have v4:=kG a.2.2.2.1
  have v5:=bK a.2.2.2.2.1
  have v6:=im a.2.2.2.2.2.1
  simp only [fN,aJ,if_true,C2 hk,aX]
  rcases nX hr with ⟨c,h⟩ | ⟨c,h⟩ | ⟨c,h⟩
  · rw [if_pos c]
    rcases c with c | c
    · have b1:(a.1==1)=true:=by rw [c];rfl
      simp (disch:=first | omega | (simp only [ByteArray.size_append];omega)) only [lq hk,aX,b1,aa,iz,bg]
    · have b1:(a.1==1)=false:=by rw [c];rfl
      have b4:(a.1==4)=true:=by rw [c];rfl
      simp (disch:=first | omega | (simp only [ByteArray.size_append];omega)) only [lq hk,aX,b1,b4,aa,aJ,iz,bg]
  · have b1:(a.1==1)=false:=by rw [c];rfl
    have b4:(a.1==4)=false:=by rw [c];rfl
    have b2:(a.1==2)=true:=by rw [c];rfl
    rw [if_neg (show ¬ (a.1=1∨a.1=4) by rw [c];decide),if_pos c]
    simp (disch:=first | omega | (simp only [ByteArray.size_append];omega)) only [lq hk,aX,b1,b2,b4,aa,aJ,iz,bg]
  · have b1:(a.1==1)=false:=by rcases c with c | c <;> rw [c] <;> rfl
    have b4:(a.1==4)=false:=by rcases c with c | c <;> rw [c] <;> rfl
    have b2:(a.1==2)=false:=by rcases c with c | c <;> rw [c] <;> rfl
    rw [if_neg (show ¬ (a.1=1∨a.1=4) by rcases c with c | c <;> rw [c] <;> decide),if_neg (show ¬ a.1=2 by rcases c with c | c <;> rw [c] <;> decide)]
    obtain ⟨_,_,_,_,z1,z2,_⟩:=h
    simp (disch:=first | assumption | omega | (simp only [ByteArray.size_append];omega)) only [oq hk,qc hk,aX,b1,b2,b4,aa,aJ,iz,bg]
theorem lU (a:Ty.d ba):(aI a).size≤60:=by
 unfold aI
 split
 · rename_i hr
   have v1:=bK a.1
   have v2:=bK a.2.1
   have v3:=kG a.2.2.1
   have v4:=kG a.2.2.2.1
   have v5:=bK a.2.2.2.2.1
   have v6:=im a.2.2.2.2.2.1
   rcases nX hr with ⟨c,h⟩ | ⟨c,h⟩ | ⟨c,h⟩
   · rw [if_pos c]
     simp only [ByteArray.size_append];omega
   · rw [if_neg (show ¬ (a.1=1∨a.1=4) by rw [c];decide),if_pos c]
     simp only [ByteArray.size_append];omega
   · rw [if_neg (show ¬ (a.1=1∨a.1=4) by rcases c with c | c <;> rw [c] <;> decide),if_neg (show ¬ a.1=2 by rcases c with c | c <;> rw [c] <;> decide)]
     simp only [ByteArray.size_append];omega
 · exact Nat.zero_le _
def un:List (Ty.d ba)→ByteArray
 | []=>⟨#[]⟩
 | a::l=>aI a++un l
def Ez (l:List (Ty.d ba)):Int:=sP (un l)
theorem I3 (l:List (Ty.d ba)):0≤Ez l∧Ez l≤4294967295:=vu _
theorem qu {k:Nat} (hk:2 ^ 50≤k) {l:List (Ty.d ba)} (hl:l.length≤1073741824):gC.f k l=some (Ez l,()):=by
 refine (fe (L:=fun n i s=>gC.l0 k n s l l.length i) (R:=fun l s=>some (sP (s++un l),())) (Ty.z ba) l (fun i s=>(s.size:Int)≤60*i) (fun n s hs=>?_) (fun n i s x rest h0 h1 hx hr hp ih=>?_) (n:=k) (s:=⟨#[]⟩) (by omega) (by decide)).trans (by rw [oE];rfl)
 · simp (disch:=omega) only [gC.l0,gC.b0,aY,aJ,uK hk,aX,un,iO]
 · have hz:=lU x
   simp (disch:=omega) only [gC.l0,gC.b0,aV,aa,aN,hx,p5 hk,aX,iz,aE]
   rw [ih _ (by rw [ByteArray.size_append];omega),un,bg]
theorem DD {s:ByteArray} (hs:s.size≤4611686018427387904) (k:Nat):∀ (d i acc n:Nat),i+d=7→acc<128 ^ i→d<n →
 d9.l0 k n s (acc:Int) (i:Int)=some (match rv d ((nb s).drop i) with
  | some (a,m)=>if a=0∧0<i then (0,(0,())) else (((acc+a*128 ^ i:Nat):Int),(((i+m:Nat):Int),()))
  | none=>(0,(0,()))):=by
 intro d
 induction d with
 | zero =>
  intro i acc n h1 h2 h3
  obtain ⟨n,rfl⟩:∃ q,n=q+1:=⟨n-1,by omega⟩
  simp (disch:=omega) only [d9.l0,d9.b0,aY,aJ,rv]
 | succ d ih =>
  intro i acc n h1 h2 h3
  obtain ⟨n,rfl⟩:∃ q,n=q+1:=⟨n-1,by omega⟩
  by_cases hlt:i<s.size
  case neg =>
   rw [List.drop_eq_nil_of_le (by rw [dW];omega)]
   simp (disch:=omega) only [d9.l0,d9.b0,aV,aY,aa,aJ,rv]
  have hb:=kP s i
  have hat:=Bm hlt
  have ih:=ih (i+1)
  rw [si hlt]
  generalize (nb s).getD i 0=b at hb hat
  have e8:aQ (7*(i:Int))=((7*i:Nat):Int):=by rw [aE (by omega) (by omega)];omega
  have emin:min (7*i) (IntKind.bits .i64)=7*i:=by have:IntKind.bits .i64=64:=rfl;rw [this];omega
  have ep:(2:Int) ^ (7*i)=((128 ^ i:Nat):Int):=by rw [Int.pow_mul,Int.natCast_pow];rfl
  have hp:128 ^ i≤128 ^ 6:=Nat.pow_le_pow_right (by decide) (by omega)
  rw [show (128:Nat) ^ 6=4398046511104 by decide] at hp
  have hps:128 ^ (i+1)=128 ^ i*128:=Nat.pow_succ ..
  have hb2:(b % 128)*128 ^ i≤127*128 ^ i:=Nat.mul_le_mul (by omega) (Nat.le_refl _)
  have ev:aQ ((acc:Int)+aQ (Int.tmod (b:Int) 128*2 ^ (7*i)))=((acc+b % 128*128 ^ i:Nat):Int):=by
   have e:Int.tmod (b:Int) 128*2 ^ (7*i)=((b % 128*128 ^ i:Nat):Int):=by
    rw [ep,Int.natCast_mul]
    rfl
   rw [e,aE (n:=((b % 128*128 ^ i:Nat):Int)) (by omega) (by omega),aE (by omega) (by omega)]
   omega
  have eb:aQ ((b:Nat):Int)=(b:Int):=aE (by omega) (by omega)
  have ei:aQ ((i:Int)+1)=((i+1:Nat):Int):=by rw [aE (by omega) (by omega)];omega
  have ih:=ih (acc+b % 128*128 ^ i) n (by omega) (by omega) (by omega)
  simp (disch:=omega) only [d9.l0,d9.b0,aV,aa,aN,hat,eb,e8,rI,emin,ev,ei]
  rw [aY (by omega),aJ]
  by_cases c:b≥128
  · rw [aV (show (b:Int)≥128 by omega),aa,ih,rv,if_pos c]
    cases q:rv d ((nb s).drop (i+1)) with
    | none=>rfl
    | some p =>
     obtain ⟨a,m⟩:=p
     simp only []
     by_cases z:a=0
     · simp [z]
     · have hm:a*128 ^ (i+1)=128*a*128 ^ i:=by rw [hps,Nat.mul_comm (128 ^ i),← Nat.mul_assoc,Nat.mul_comm a]
       rw [if_neg (by omega),if_neg z]
       simp only []
       rw [if_neg (by omega)]
       have e1:acc+b % 128*128 ^ i+a*128 ^ (i+1)=acc+(b % 128+128*a)*128 ^ i:=by rw [hm,Nat.add_mul];omega
       have e2:i+1+m=i+(m+1):=by omega
       rw [e1,e2]
  · have em:b % 128=b:=by omega
    rw [aY (show ¬ (b:Int)≥128 by omega),aJ,rv,if_neg c,em]
    by_cases z:b=0
    · subst z
      rw [show ((((0:Nat):Int)==0))=true from rfl,aa]
      by_cases hi:0<i
      · rw [aV (show (i:Int) > 0 by omega),aa]
        simp [hi]
      · rw [aY (show ¬ (i:Int) > 0 by omega),aJ]
        simp [hi]
    · rw [show ((b:Int)==0)=false from pz (by omega),aJ]
      simp [z]
theorem p9 {k:Nat} (hk:2 ^ 50≤k) {s:ByteArray} (hs:s.size≤4611686018427387904):d9.f k s=some (QP (rv 7 (nb s))):=by
 unfold d9.f d9.t
 refine (DD hs k 7 0 0 k (by omega) (by decide) (by omega)).trans ?_
 rw [List.drop_zero]
 cases rv 7 (nb s) with
 | none=>rfl
 | some p=>simp [QP]
theorem Hr {k:Nat} {L0:ByteArray→Int→Option (Int × Int × Unit)} {s:ByteArray} {n:Nat}:∀ (j x m:Nat),j<m→j≤s.size→j≤7→(x+1)*128 ^ j≤562949953421312 →
 bV.l1 k L0 m s (n:Int) (x:Int) ((j:Int)-1)=bV.l1 k L0 (m-j) s (n:Int) ((x*128 ^ j+tJ ((nb s).take j):Nat):Int) (-1)
 | 0,x,m,hm,hs,h7,hx=>by simp [tJ]
 | j+1,x,m,hm,hs,h7,hx=>by
  obtain ⟨m,rfl⟩:∃ q,m=q+1:=⟨m-1,by omega⟩
  have hj:j<s.size:=by omega
  have hb:=kP s j
  rw [Nat.pow_succ,← Nat.mul_assoc,Nat.mul_comm _ 128,← Nat.mul_assoc] at hx
  have hpos:1≤128 ^ j:=Nat.one_le_pow _ _ (by decide)
  have hx2:(128*(x+1))*1≤(128*(x+1))*128 ^ j:=Nat.mul_le_mul (Nat.le_refl _) hpos
  have hat:=Bm hj
  have e0:((j+1:Nat):Int)-1=(j:Int):=by omega
  have c:(j:Int)≥0:=by omega
  have c2:(j:Int)<(s.size:Int):=by omega
  rw [M5 hj,EJ,List.length_take,dW,Nat.min_eq_left (by omega)]
  generalize (nb s).getD j 0=b at hb hat ⊢
  have w1:aQ (((b:Nat):Int))=(b:Int):=aE (by omega) (by omega)
  have w2:aQ ((x:Int)*128)=(x:Int)*128:=aE (by omega) (by omega)
  have w3:aQ ((x:Int)*128+Int.tmod (b:Int) 128)=((x*128+b % 128:Nat):Int):=by
   have e:(x:Int)*128+Int.tmod (b:Int) 128=((x*128+b % 128:Nat):Int):=by
    show (x:Int)*128+((b % 128:Nat):Int)=_
    omega
   rw [e]
   exact aE (by omega) (by omega)
  have w4:aQ ((j:Int)-1)=(j:Int)-1:=aE (by omega) (by omega)
  have hx3:(x*128+b % 128+1)*128 ^ j≤(128*(x+1))*128 ^ j:=Nat.mul_le_mul (by omega) (Nat.le_refl _)
  have ih:=Hr (k:=k) (L0:=L0) (s:=s) (n:=n) j (x*128+b % 128) m (by omega) (by omega) (by omega) (by omega)
  rw [e0]
  simp only [bV.l1,bV.b1,decide_eq_true c,aa,aN c c2,hat,w1,w2,w3,w4]
  rw [ih,show m+1-(j+1)=m-j by omega]
  congr 2
  rw [Nat.pow_succ,Nat.add_mul,Nat.mul_assoc,Nat.mul_comm 128 (128 ^ j),Nat.mul_comm (b % 128)]
  omega
theorem Qh {s:ByteArray} {n:Nat} (h7:n≤7):tJ ((nb s).take n)<562949953421312:=by
 have:=Dh ((nb s).take n)
 have h1:((nb s).take n).length≤7:=by rw [List.length_take];omega
 have h2:(128:Nat) ^ ((nb s).take n).length≤128 ^ 7:=Nat.pow_le_pow_right (by decide) h1
 rw [show (128:Nat) ^ 7=562949953421312 by decide] at h2
 omega
theorem Du {k:Nat} (hk:2 ^ 50≤k) {s:ByteArray}:∀ (d i n:Nat),i+d=8→1≤i→d<n →
 bV.l0 k n s (i:Int)=some (match rv 7 (nb s) with | some (a,m)=>if i≤m then ((a:Int),((m:Int),())) else (0,(0,())) | none=>(0,(0,()))):=by
 have stop:∀ i,(7<i∨s.size<i)→(match rv 7 (nb s) with | some (a,m)=>if i≤m then ((a:Int),((m:Int),())) else (0,(0,())) | none=>(0,(0,())))=((0:Int),((0:Int),())):=by
  intro i hi
  cases q:rv 7 (nb s) with
  | none=>rfl
  | some p =>
   obtain ⟨a,m⟩:=p
   obtain ⟨_,_,_,h4,_,h6⟩:=sv 6 (nb s) a m (wM s) q
   rw [dW] at h4
   exact if_neg (by omega)
 intro d
 induction d with
 | zero =>
  intro i n h1 h2 h3
  obtain ⟨n,rfl⟩:∃ q,n=q+1:=⟨n-1,by omega⟩
  rw [stop i (by omega)]
  simp (disch:=omega) only [bV.l0,bV.b0,aY,aJ]
 | succ d ih =>
  intro i n h1 h2 h3
  obtain ⟨n,rfl⟩:∃ q,n=q+1:=⟨n-1,by omega⟩
  by_cases hs:i≤s.size
  case neg =>
   rw [stop i (by omega)]
   simp (disch:=omega) only [bV.l0,bV.b0,aV,aY,aa,aJ]
  have hp:(128:Nat) ^ i≤128 ^ 7:=Nat.pow_le_pow_right (by decide) (by omega)
  rw [show (128:Nat) ^ 7=562949953421312 by decide] at hp
  simp (disch:=omega) only [bV.l0,bV.b0,aV,aa,aE]
  refine (Hr (k:=k) (L0:=bV.l0 k n) (s:=s) (n:=i) i 0 k (by omega) hs (by omega) (by omega)).trans ?_
  obtain ⟨m,hm⟩:∃ m,k-i=m+1:=⟨k-i-1,by omega⟩
  have hd7:=Qh (s:=s) (n:=i) (by omega)
  have hc:=JS (s:=s) (n:=i) h2 (by omega) hs
  rw [hm,Nat.zero_mul,Nat.zero_add]
  simp only [bV.l1,bV.b1,show decide ((-1:Int)≥0)=false by decide,aJ,nE hk,aX,da hd7]
  rw [dL (by omega) (by omega),rI,hc,aE (by omega) (by omega)]
  have hw:=NV (nb s) (wM s) 6 i h2 (by omega) (by rw [dW];exact hs)
  cases hq:rU ((nb s).take i) with
  | true =>
   obtain ⟨a,ha⟩:=hw.1 hq
   rw [aa,ha]
   simp only []
   rw [if_pos (Nat.le_refl _),PS (wM s) ha]
  | false =>
   have hnot:∀ a,rv 7 (nb s)≠some (a,i):=fun a ha=>by
    have:=hw.2 ⟨a,ha⟩
    rw [hq] at this
    cases this
   rw [aJ]
   refine (ih (i+1) n (by omega) (by omega) (by omega)).trans ?_
   cases q:rv 7 (nb s) with
   | none=>rfl
   | some p =>
    obtain ⟨a,m'⟩:=p
    have:m'≠i:=fun e=>hnot a (by rw [q,e])
    simp only []
    by_cases c:i≤m'
    · rw [if_pos c,if_pos (by omega)]
    · rw [if_neg c,if_neg (by omega)]
theorem oy {k:Nat} (hk:2 ^ 50≤k) (s:ByteArray):bV.f k s=some (QP (rv 7 (nb s))):=by
 unfold bV.f bV.t
 refine (Du hk 7 1 k (by omega) (by omega) (by omega)).trans ?_
 cases q:rv 7 (nb s) with
 | none=>rfl
 | some p =>
  obtain ⟨a,m⟩:=p
  obtain ⟨_,_,_,_,h5,_⟩:=sv 6 (nb s) a m (wM s) q
  simp only [QP]
  rw [if_pos h5]
theorem qG {k:Nat} (hk:2 ^ 50≤k) {x:Nat} (hx:x<4294967296) (t:ByteArray):cZ.f k (eu x++t) 4=some ((x:Int),(true,())):=by
 have hz:=nR x t
 have st:∀ (q a j:Nat),j<4→a<4294967296→cZ.l0 k (q+1) (eu x++t) 4 (a:Int) (j:Int)=cZ.l0 k q (eu x++t) 4 ((a*256+(nb (eu x++t)).getD j 0:Nat):Int) ((j+1:Nat):Int):=fun q a j hj ha=>by
  have hb:=kP (eu x++t) j
  have hat:=Bm (s:=eu x++t) (i:=j) (by omega)
  generalize (nb (eu x++t)).getD j 0=b at *
  have e1:aQ (aQ ((a:Int)*256)+aQ (b:Int))=((a*256+b:Nat):Int):=by
   rw [aE (n:=(a:Int)*256) (by omega) (by omega),aE (n:=(b:Int)) (by omega) (by omega),aE (by omega) (by omega)]
   omega
  have ej:aQ ((j:Int)+1)=((j+1:Nat):Int):=by rw [aE (by omega) (by omega)];omega
  simp (disch:=omega) only [cZ.l0,cZ.b0,aV,aa,aN,hat,e1,ej]
 unfold cZ.f cZ.t
 rw [sy,aX]
 simp only [show decide ((1:Int)≤4∧(4:Int)≤7)=true by decide,fN,aJ,aY (show ¬ (((eu x++t).size:Int)<4) by omega)]
 obtain ⟨q,hq⟩:∃ q,k=q+5:=⟨k-5,by omega⟩
 refine (congrArg (fun z=>cZ.l0 k z (eu x++t) 4 0 0) hq).trans ?_
 refine (st (q+4) 0 0 (by omega) (by omega)).trans ?_
 rw [xb]
 simp only [List.getD_cons_zero,Nat.zero_mul,Nat.zero_add]
 refine (st (q+3) _ 1 (by omega) (by omega)).trans ?_
 rw [xb]
 simp only [List.getD_cons_zero,List.getD_cons_succ]
 refine (st (q+2) _ 2 (by omega) (by omega)).trans ?_
 rw [xb]
 simp only [List.getD_cons_zero,List.getD_cons_succ]
 refine (st (q+1) _ 3 (by omega) (by omega)).trans ?_
 rw [xb]
 simp only [List.getD_cons_zero,List.getD_cons_succ]
 simp only [cZ.l0,cZ.b0,show decide ((((3+1:Nat)):Int)<4)=false by decide,aJ]
 congr 3
 omega
theorem q8 {k:Nat} (hk:2 ^ 50≤k) {x:Nat} (hx:x<4294967296) (t:ByteArray):cC.f k (eu x++t) 4=some ((x:Int),(true,())):=by
 have hz:=nR x t
 have st:∀ (q a j:Nat),j<4→a<16777216→cC.l0 k (q+1) (eu x++t) (a:Int) 4 (j:Int)=cC.l0 k q (eu x++t) ((a*256+(nb (eu x++t)).getD j 0:Nat):Int) 4 ((j+1:Nat):Int):=fun q a j hj ha=>by
  have hb:=kP (eu x++t) j
  have hat:=Bm (s:=eu x++t) (i:=j) (by omega)
  generalize (nb (eu x++t)).getD j 0=b at *
  have e0:aQ ((a:Int)*2 ^ min (Int.toNat 8) (IntKind.bits .i64))=((a*256:Nat):Int):=by
   rw [show (2:Int) ^ min (Int.toNat 8) (IntKind.bits .i64)=256 by decide,aE (by omega) (by omega)]
   omega
  have e2:aQ (b:Int)=(b:Int):=aE (by omega) (by omega)
  have ej:aQ ((j:Int)+1)=((j+1:Nat):Int):=by rw [aE (by omega) (by omega)];omega
  simp (disch:=omega) only [cC.l0,cC.b0,aV,aa,aN,hat,e0,e2,ej]
  rw [Qd (by omega) hb]
 unfold cC.f cC.t
 rw [vE,aX]
 simp only [show decide ((1:Int)≤4∧(4:Int)≤7)=true by decide,fN,aJ,aY (show ¬ (((eu x++t).size:Int)<4) by omega)]
 obtain ⟨q,hq⟩:∃ q,k=q+5:=⟨k-5,by omega⟩
 refine (congrArg (fun z=>cC.l0 k z (eu x++t) 0 4 0) hq).trans ?_
 refine (st (q+4) 0 0 (by omega) (by omega)).trans ?_
 rw [xb]
 simp only [List.getD_cons_zero,Nat.zero_mul,Nat.zero_add]
 refine (st (q+3) _ 1 (by omega) (by omega)).trans ?_
 rw [xb]
 simp only [List.getD_cons_zero,List.getD_cons_succ]
 refine (st (q+2) _ 2 (by omega) (by omega)).trans ?_
 rw [xb]
 simp only [List.getD_cons_zero,List.getD_cons_succ]
 refine (st (q+1) _ 3 (by omega) (by omega)).trans ?_
 rw [xb]
 simp only [List.getD_cons_zero,List.getD_cons_succ]
 simp only [cC.l0,cC.b0,show decide ((((3+1:Nat)):Int)<4)=false by decide,aJ]
 congr 3
 omega
theorem ve (k:Nat) {s:ByteArray} (h:s.size<4):cZ.f k s 4=some (0,(false,())):=by
 unfold cZ.f cZ.t
 rw [sy,aX]
 simp only [show decide ((1:Int)≤4∧(4:Int)≤7)=true by decide,fN,aJ,aV (show (s.size:Int)<4 by omega),aa]
theorem vJ (k:Nat) {s:ByteArray} (h:s.size<4):cC.f k s 4=some (0,(false,())):=by
 unfold cC.f cC.t
 rw [vE,aX]
 simp only [show decide ((1:Int)≤4∧(4:Int)≤7)=true by decide,fN,aJ,aV (show (s.size:Int)<4 by omega),aa]
def aT (s:ByteArray):ByteArray:=if s.size > 200 then ⟨#[]⟩ else v7 (sP (jf s))++jf s
theorem m9 (s:ByteArray):(aT s).size≤211:=by
 unfold aT
 split
 · exact Nat.zero_le _
 · have:=kG s
   rw [ByteArray.size_append,im];omega
theorem lG {s:ByteArray} (h:s.size≤200):5≤(aT s).size:=by
 unfold aT
 rw [if_neg (by omega),ByteArray.size_append,im]
 unfold jf
 rw [da (by omega),ByteArray.size_append]
 have:=ao s.size
 omega
theorem DW {k:Nat} (hk:2 ^ 50≤k) (s:ByteArray):ou.f k s=some (aT s,()):=by
 unfold ou.f ou.t aT
 by_cases c:s.size > 200
 · rw [aV (show (s.size:Int) > 200 by omega),aa,if_pos c]
 · have h1:=bK (s.size:Int)
   have h2:=vu (jX (s.size:Int)++s)
   rw [aY (show ¬ (s.size:Int) > 200 by omega),aJ,if_neg c]
   unfold jf
   simp (disch:=first | omega | (simp only [ByteArray.size_append,im];omega)) only [nE hk,aX,iz,Hb hk]
   rw [vW hk h2.1 h2.2,aX,iz (by simp only [ByteArray.size_append,im];omega)]
theorem oG {k:Nat} (hk:2 ^ 50≤k) (s:ByteArray):gY.f k s=some (aT s,()):=by
 unfold gY.f gY.t aT
 by_cases c:s.size > 200
 · rw [aV (show (s.size:Int) > 200 by omega),aa,if_pos c]
 · have h1:=kG s
   have h2:=vu (jf s)
   rw [aY (show ¬ (s.size:Int) > 200 by omega),aJ,if_neg c]
   simp (disch:=omega) only [lq hk,aX,uK hk]
   rw [qc hk h2.1 h2.2,aX,iz (by rw [im];omega)]
theorem aZ (a b:ByteArray):(a++b).size=a.size+b.size:=ByteArray.size_append ..
theorem sH (a b t:ByteArray):ByteArray.extract (a++(b++t)) (a.size+b.size) (a++(b++t)).size=t:=by
 have:=gJ (a++b) t
 rw [aZ,bg] at this
 exact this
theorem QV (a b t:ByteArray):ByteArray.extract (a++(b++t)) a.size (a.size+b.size)=b:=kJ (by
 rw [uI,gX,gX,List.take_append,List.take_of_length_le (by rw [dW];omega),dW,show a.size+b.size-a.size=b.size by omega,List.drop_left' (dW a),List.take_left' (dW b)])
theorem zk (a b:Nat):((a:Int)+(b:Int))=((a+b:Nat):Int):=rfl
theorem oh {k:Nat} (hk:2 ^ 50≤k) {a:Nat} {t:ByteArray} (ha:a<562949953421312) (hs:t.size≤1099511627776):d9.f k (bp a++t)=some ((a:Int),(((bp a).size:Int),())):=by
 have:=ao a
 rw [p9 hk (by rw [aZ];omega),ya ha];rfl
theorem nt {k:Nat} (hk:2 ^ 50≤k) {s:ByteArray} (h:rv 7 (nb s)=none) (hs:s.size≤1099511627776):d9.f k s=some (0,(0,())):=by
 rw [p9 hk (by omega),h];rfl
theorem dI {k:Nat} (hk:2 ^ 50≤k) {a:Nat} {t:ByteArray} (ha:a<562949953421312):bV.f k (bp a++t)=some ((a:Int),(((bp a).size:Int),())):=by
 rw [oy hk,ya ha];rfl
theorem kV {k:Nat} (hk:2 ^ 50≤k) {s:ByteArray} (h:rv 7 (nb s)=none):bV.f k s=some (0,(0,())):=by
 rw [oy hk,h];rfl
theorem fE {k:Nat} (hk:2 ^ 50≤k) {a:Nat} {t:ByteArray} (ha:a<562949953421312) (hs:t.size≤1099511627776):aO.f k (bp a++t,(false,()))=some ((t,(false,())),((a:Int),())):=by
 have h1:=ao a
 unfold aO.f aO.t
 rw [oh hk ha hs,aX]
 simp only [aJ]
 rw [show (((bp a).size:Int)==0)=false from pz (by omega),aJ,dL (by omega) (by rw [aZ];omega),rI,gJ]
theorem mY {k:Nat} (hk:2 ^ 50≤k) {s:ByteArray} (h:rv 7 (nb s)=none) (hs:s.size≤1099511627776):aO.f k (s,(false,()))=some ((s,(true,())),(0,())):=by
 unfold aO.f aO.t
 rw [nt hk h hs,aX]
 rfl
theorem xP {k:Nat} (hk:2 ^ 50≤k) {s:ByteArray} (hs:s.size≤1099511627776):aO.f k (s,(true,()))=some ((s,(true,())),(0,())):=by
 unfold aO.f aO.t
 rw [p9 hk (show s.size≤_ by omega),aX]
 rfl
theorem rr (k:Nat) (u t:ByteArray):aq.f k (u++t,(false,())) (u.size:Int)=some ((t,(false,())),(u,())):=by
 unfold aq.f aq.t
 simp only [aJ]
 rw [aY (by rw [aZ];omega),aJ,dL (by omega) (by rw [aZ];omega),dL (by omega) (by rw [aZ];omega),rI,gJ,ye]
theorem tD (k:Nat) {s:ByteArray} {n:Int} (h:n > (s.size:Int)):aq.f k (s,(false,())) n=some ((s,(true,())),(⟨#[]⟩,())):=by
 unfold aq.f aq.t
 simp only [aJ]
 rw [aV h,aa]
theorem sX (k:Nat) (s:ByteArray) (n:Int):aq.f k (s,(true,())) n=some ((s,(true,())),(⟨#[]⟩,())):=by
 unfold aq.f aq.t
 rfl
theorem qI (s:ByteArray):(∃ u t,u.size<562949953421312∧s=bp u.size++(u++t))∨rv 7 (nb s)=none∨(∃ a t,a<562949953421312∧s=bp a++t∧t.size<a):=by
 rcases ke s with ⟨a,t,ha,rfl⟩ | h
 · by_cases c:t.size<a
   · exact .inr (.inr ⟨a,t,ha,rfl,c⟩)
   · have e:=vK t (n:=a) (by omega)
     have hz:(ByteArray.extract t 0 a).size=a:=by rw [← dW,lB,List.length_take,dW];omega
     exact .inl ⟨_,_,by rw [hz];exact ha,by rw [hz,← e]⟩
 · exact .inr (.inl h)
theorem oA {k:Nat} (hk:2 ^ 50≤k) {u t:ByteArray} (hu:u.size<562949953421312) (hs:(u++t).size≤1099511627776):am.f k (bp u.size++(u++t),(false,()))=some ((t,(false,())),(u,())):=by
 unfold am.f am.t
 rw [fE hk hu hs,aX]
 simp only []
 rw [rr,aX]
theorem Ad {k:Nat} (hk:2 ^ 50≤k) {s:ByteArray} (hs:s.size≤1099511627776):am.f k (s,(true,()))=some ((s,(true,())),(⟨#[]⟩,())):=by
 unfold am.f am.t
 rw [xP hk hs,aX]
 simp only []
 rw [sX,aX]
theorem zc {k:Nat} (hk:2 ^ 50≤k) {s:ByteArray} (hs:s.size≤1099511627776) (h:rv 7 (nb s)=none∨(∃ a t,a<562949953421312∧s=bp a++t∧t.size<a)):∃ s',s'.size≤1099511627776∧am.f k (s,(false,()))=some ((s',(true,())),(⟨#[]⟩,())):=by
 unfold am.f am.t
 rcases h with h | ⟨a,t,ha,rfl,ht⟩
 · refine ⟨s,hs,?_⟩
   rw [mY hk h hs,aX]
   simp only []
   rw [sX,aX]
 · have:=ao a
   rw [aZ] at hs
   refine ⟨t,by omega,?_⟩
   rw [fE hk ha (by omega),aX]
   simp only []
   rw [tD k (by omega),aX]
theorem BF {k:Nat} (hk:2 ^ 50≤k) {u t:ByteArray} (hu:u.size<562949953421312) (hs:(u++t).size≤1099511627776):eS.f k (bp u.size++(u++t))=some (u,(t,(true,()))):=by
 have h1:=ao u.size
 have h2:(bp u.size++(u++t)).size=(bp u.size).size+(u.size+t.size):=by rw [aZ,aZ]
 rw [aZ] at hs
 unfold eS.f eS.t
 rw [dI hk hu,aX]
 simp only []
 rw [show (((bp u.size).size:Int)==0)=false from pz (by omega),aJ,aE (by omega) (by omega),aY (by omega),aJ,zk,aE (by omega) (by omega),
  yM (by omega) (by omega) (by omega),dL (by omega) (by omega),rI,rI,QV,sH]
theorem DZ {k:Nat} (hk:2 ^ 50≤k) {s:ByteArray} (hs:s.size≤1099511627776) (h:rv 7 (nb s)=none∨(∃ a t,a<562949953421312∧s=bp a++t∧t.size<a)):eS.f k s=some (⟨#[]⟩,(⟨#[]⟩,(false,()))):=by
 unfold eS.f eS.t
 rcases h with h | ⟨a,t,ha,rfl,ht⟩
 · rw [kV hk h,aX];rfl
 · have:=ao a
   rw [aZ] at hs
   rw [dI hk ha,aX]
   simp only []
   rw [show (((bp a).size:Int)==0)=false from pz (by omega),aJ,aE (by rw [aZ];omega) (by rw [aZ];omega),aV (by rw [aZ];omega),aa]
section
open Classical
variable {α:Type}
noncomputable def pg (ok:α→Prop) (shw:α→ByteArray) (z:α) (s:ByteArray):α × Bool:=if h:∃ r,ok r∧shw r=s then (h.choose,true) else (z,false)
theorem yK {ok:α→Prop} {shw:α→ByteArray} {z:α} {s:ByteArray} {r:α} (h:pg ok shw z s=(r,true)):ok r∧shw r=s:=by
 unfold pg at h
 split at h
 · rename_i q
   obtain rfl:=(Prod.mk.inj h).1
   exact q.choose_spec
 · cases (Prod.mk.inj h).2
theorem Na {ok:α→Prop} {shw:α→ByteArray} {z:α} {s:ByteArray} (h:(pg ok shw z s).2=false):pg ok shw z s=(z,false):=by
 unfold pg at h ⊢
 split
 · rename_i q;rw [dif_pos q] at h;cases h
 · rfl
theorem nF (ok:α→Prop) (shw:α→ByteArray) (z:α) (s:ByteArray):(∃ r,ok r∧shw r=s∧pg ok shw z s=(r,true))∨pg ok shw z s=(z,false):=by
 cases h:(pg ok shw z s).2 with
 | false=>exact .inr (Na h)
 | true =>
  have e:pg ok shw z s=((pg ok shw z s).1,true):=by rw [← h]
  exact .inl ⟨_,(yK e).1,(yK e).2,e⟩
theorem tA {ok:α→Prop} {shw:α→ByteArray} {z:α} {s:ByteArray} {f:Option (α × Bool × Unit)} (h1:∀ r,ok r→shw r=s→f=some (r,(true,())))
 (h2:(∃ r,ok r∧shw r=s∧f=some (r,(true,())))∨f=some (z,(false,()))):f=some ((pg ok shw z s).1,((pg ok shw z s).2,())):=by
 rcases nF ok shw z s with ⟨r,a,b,e⟩ | e
 · rw [e,h1 r a b]
 · rcases h2 with ⟨r,a,b,_⟩ | h2
   · unfold pg at e
     rw [dif_pos ⟨r,a,b⟩] at e
     cases (Prod.mk.inj e).2
   · rw [e,h2]
theorem Ch {ok:α→Prop} {shw:α→ByteArray} {z:α} {r:α} (hi:∀ a b,ok a→ok b→shw a=shw b→a=b) (h:ok r):pg ok shw z (shw r)=(r,true):=by
 rcases nF ok shw z (shw r) with ⟨q,a,b,e⟩ | e
 · rw [e,hi q r a h b]
 · unfold pg at e
   rw [dif_pos ⟨r,h,rfl⟩] at e
   cases (Prod.mk.inj e).2
end
abbrev vT:Ty.d ba:=(0,(0,(ByteArray.empty,(ByteArray.empty,(0,(0,()))))))
theorem Bo {a:Ty.d ba} (h:bd a=true) :
 (∃ (b:Nat) (kd:Nat),(kd=1∨kd=4)∧b≤1000000∧a=((kd:Int),((b:Int),(a.2.2.1,(a.2.2.2.1,(0,(0,()))))))∧a.2.2.1.size≤8∧a.2.2.2.1.size≤24 ∧
  aI a=bp kd++(bp b++(bp a.2.2.1.size++(a.2.2.1++(bp a.2.2.2.1.size++(a.2.2.2.1++⟨#[]⟩)))))) ∨
 (∃ (b:Nat),b≤1000000∧a=(2,((b:Int),(a.2.2.1,(ByteArray.empty,(0,(0,()))))))∧a.2.2.1.size≤8∧aI a=bp 2++(bp b++(bp a.2.2.1.size++(a.2.2.1++⟨#[]⟩)))) ∨
 (∃ (b kd c x:Nat),(kd=3∨kd=5)∧b≤1000000∧c≤20∧x<4294967296∧a=((kd:Int),((b:Int),(ByteArray.empty,(ByteArray.empty,((c:Int),((x:Int),()))))))∧aI a=bp kd++(bp b++(bp c++(eu x++⟨#[]⟩)))):=by
 have hh:=h
 obtain ⟨kd,b,key,val,c,x,u⟩:=a
 change Int at kd b c x
 change ByteArray at key val
 rcases yH h with ⟨hc,h⟩ | ⟨hc,h⟩ | ⟨hc,h⟩
 · obtain ⟨z1,z2,z3,z4,z5,z6,z7⟩:=h
   subst z4;subst z5
   obtain ⟨b,rfl⟩:=Int.eq_ofNat_of_zero_le (show 0≤b by omega)
   left
   refine ⟨b,kd.toNat,by omega,by omega,?_,z2,z3,?_⟩
   · rw [show ((kd.toNat:Nat):Int)=kd by omega]
   · unfold aI
     rw [if_pos hh,if_pos hc]
     simp only [jf]
     rw [da (by omega),da (by omega),da (by omega),iO,bg,show jX kd=bp kd.toNat by rw [← da (show kd.toNat<562949953421312 by omega)];congr 1;omega]
 · obtain ⟨z1,z2,z3,z4,z5,z6,z7⟩:=h
   subst z3;subst z4;subst z5;subst hc
   obtain ⟨b,rfl⟩:=Int.eq_ofNat_of_zero_le (show 0≤b by omega)
   right;left
   refine ⟨b,by omega,rfl,z2,?_⟩
   unfold aI
   rw [if_pos hh,if_neg (show ¬ ((2:Int)=1∨(2:Int)=4) by decide),if_pos rfl]
   simp only [jf]
   rw [da (by omega),da (by omega),iO]
   rfl
 · obtain ⟨z1,z2,z3,z4,z5,z6,z7,z8⟩:=h
   subst z1;subst z2
   obtain ⟨b,rfl⟩:=Int.eq_ofNat_of_zero_le (show 0≤b by omega)
   obtain ⟨c,rfl⟩:=Int.eq_ofNat_of_zero_le (show 0≤c by omega)
   obtain ⟨x,rfl⟩:=Int.eq_ofNat_of_zero_le (show 0≤x by omega)
   right;right
   refine ⟨b,kd.toNat,c,x,by omega,by omega,by omega,by omega,?_,?_⟩
   · rw [show ((kd.toNat:Nat):Int)=kd by omega];rfl
   · unfold aI
     rw [if_pos hh,if_neg (show ¬ (kd=1∨kd=4) by omega),if_neg (show ¬ kd=2 by omega)]
     simp only []
     rw [da (by omega),da (by omega),iO,show jX kd=bp kd.toNat by rw [← da (show kd.toNat<562949953421312 by omega)];congr 1;omega]
     rfl
theorem HH {a:Ty.d ba} {s:ByteArray} (h:aI a=s) (hs:s≠⟨#[]⟩):bd a=true:=by
 cases c:bd a with
 | true=>rfl
 | false=>unfold aI at h;rw [c] at h;exact absurd h.symm hs
theorem OM {kd:Nat} (h:kd≠1):((kd:Int)==1)=false:=pz (by omega)
theorem OE {kd:Nat} (h:kd≠2):((kd:Int)==2)=false:=pz (by omega)
theorem OG {kd:Nat} (h:kd≠4):((kd:Int)==4)=false:=pz (by omega)
theorem P9:(((1:Nat):Int)==1)=true:=rfl
theorem Oc:(((4:Nat):Int)==1)=false:=rfl
theorem Ph:(((4:Nat):Int)==4)=true:=rfl
theorem On:(((2:Nat):Int)==1)=false:=rfl
theorem OW:(((2:Nat):Int)==2)=true:=rfl
theorem Pf:(((2:Nat):Int)==4)=false:=rfl
theorem Qp:((0:Int)==1)=false:=rfl
theorem Qo:((0:Int)==4)=false:=rfl
theorem Qn:((0:Int)==2)=false:=rfl
theorem e0:(⟨#[]⟩:ByteArray).size=0:=rfl
theorem Ma {kd b:Nat} {key val:ByteArray} (hb:b<562949953421312) (hc:kd=1∨kd=4) (h:bd ((kd:Int),((b:Int),(key,(val,(0,(0,()))))))=true) :
 aI ((kd:Int),((b:Int),(key,(val,(0,(0,()))))))=bp kd++(bp b++(bp key.size++(key++(bp val.size++(val++⟨#[]⟩))))):=by
 rcases yH h with ⟨_,h1⟩ | ⟨h0,_⟩ | ⟨h0,_⟩
 · unfold aI
   rw [if_pos h,if_pos (show ((kd:Int)=1∨(kd:Int)=4) by omega)]
   simp only [jf]
   rw [da (by omega),da hb,da (by omega),da (by omega),iO,bg]
 · omega
 · omega
theorem LZ {b:Nat} {key:ByteArray} (hb:b<562949953421312) (h:bd (((2:Nat):Int),((b:Int),(key,(ByteArray.empty,(0,(0,()))))))=true) :
 aI (((2:Nat):Int),((b:Int),(key,(ByteArray.empty,(0,(0,()))))))=bp 2++(bp b++(bp key.size++(key++⟨#[]⟩))):=by
 rcases yH h with ⟨h0,_⟩ | ⟨_,h1⟩ | ⟨h0,_⟩
 · omega
 · unfold aI
   rw [if_pos h,if_neg (show ¬ (((2:Nat):Int)=1∨((2:Nat):Int)=4) by decide),if_pos (show ((2:Nat):Int)=2 from rfl)]
   simp only [jf]
   rw [da (by omega),da hb,da (by omega),iO]
 · omega
theorem Lg {kd b c x:Nat} (hb:b<562949953421312) (hx:c<562949953421312) (hc:kd≠1∧kd≠2∧kd≠4) (h:bd ((kd:Int),((b:Int),(ByteArray.empty,(ByteArray.empty,((c:Int),((x:Int),()))))))=true) :
 aI ((kd:Int),((b:Int),(ByteArray.empty,(ByteArray.empty,((c:Int),((x:Int),()))))))=bp kd++(bp b++(bp c++(eu x++⟨#[]⟩))):=by
 rcases yH h with ⟨h0,_⟩ | ⟨h0,_⟩ | ⟨_,h1⟩
 · omega
 · omega
 · unfold aI
   rw [if_pos h,if_neg (show ¬ ((kd:Int)=1∨(kd:Int)=4) by omega),if_neg (show ¬ (kd:Int)=2 by omega)]
   simp only []
   have hk5:kd≤5:=by omega
   rw [da (by omega),da hb,da hx,iO]
   rfl
theorem pe {k:Nat} (hk:2 ^ 50≤k) {a:Ty.d ba} (h:bd a=true):d_.f k (aI a)=some (a,(true,())):=by
 unfold d_.f d_.t
 rcases Bo h with ⟨b,kd,hc,hb,ha,z1,z2,e⟩ | ⟨b,hb,ha,z1,e⟩ | ⟨b,kd,c,x,hc,hb,z1,z2,ha,e⟩
 · rw [e]
   rw [ha] at h
   conv=>rhs;rw [ha]
   have v1:=ao kd
   have v2:=ao b
   have v3:=ao a.2.2.1.size
   have v4:=ao a.2.2.2.1.size
   rcases hc with rfl | rfl
   · simp (disch:=first | omega | (simp only [aZ,e0];omega)) only [fE hk,oA hk,aX,aa,aJ,P9,bZ,fN,iW,h]
   · simp (disch:=first | omega | (simp only [aZ,e0];omega)) only [fE hk,oA hk,aX,aa,aJ,Oc,Ph,bZ,fN,iW,h]
 · rw [e]
   rw [ha] at h
   conv=>rhs;rw [ha]
   have v1:=ao 2
   have v2:=ao b
   have v3:=ao a.2.2.1.size
   simp (disch:=first | omega | (simp only [aZ,e0];omega)) only [fE hk,oA hk,aX,aa,aJ,On,OW,Pf,bZ,fN,iW]
   rw [show ((2:Nat):Int)=2 from rfl,h]
   rfl
 · rw [e,ha]
   rw [ha] at h
   have v1:=ao kd
   have v2:=ao b
   have v3:=ao c
   have v4:=mo x
   have hby:=rr k (eu x) ⟨#[]⟩
   rw [mo] at hby
   have hrf:=q8 hk z2 ⟨#[]⟩
   rw [iO] at hrf
   rw [show (((4:Nat)):Int)=4 from rfl] at hby
   simp (disch:=first | omega | (simp only [aZ,e0];omega)) only [fE hk,hby,hrf,aX,aa,aJ,OM,OE,OG,bZ,fN,iW,h]
theorem y6 {k:Nat} (hk:2 ^ 50≤k) {s:ByteArray} (hs:s.size≤1099511627776) :
 (∃ r,bd r=true∧aI r=s∧d_.f k s=some (r,(true,())))∨d_.f k s=some (vT,(false,())):=by
 have rf0:=vJ k (s:=⟨#[]⟩) (by decide)
 unfold d_.f d_.t
 rcases ke s with ⟨kd,t,hkd,rfl⟩ | h0
 case inr =>
  right
  simp (disch:=first | omega | (simp only [aZ,e0];omega)) only [mY hk h0,xP hk,sX k,rf0,aX,aa,aJ,Qp,Qn,Qo]
 have v1:=ao kd
 rw [aZ] at hs
 rcases ke t with ⟨b,t2,hb,rfl⟩ | h1
 case inr =>
  right
  by_cases c1:kd=1
  · subst c1
    simp (disch:=first | omega | (simp only [aZ,e0];omega)) only [fE hk,mY hk h1,Ad hk,aX,aa,aJ,P9]
  by_cases c4:kd=4
  · subst c4
    simp (disch:=first | omega | (simp only [aZ,e0];omega)) only [fE hk,mY hk h1,Ad hk,aX,aa,aJ,Oc,Ph]
  by_cases c2:kd=2
  · subst c2
    simp (disch:=first | omega | (simp only [aZ,e0];omega)) only [fE hk,mY hk h1,Ad hk,aX,aa,aJ,On,Pf,OW]
  · simp (disch:=first | omega | (simp only [aZ,e0];omega)) only [fE hk,mY hk h1,xP hk,sX k,rf0,aX,aa,aJ,OM c1,OE c2,OG c4]
 have v2:=ao b
 rw [aZ] at hs
 by_cases c2:kd=2
 · subst c2
   rcases qI t2 with ⟨key,t3,hu,rfl⟩ | bad
   case inr =>
    right
    obtain ⟨s',hs',e⟩:=zc hk (by omega) bad
    simp (disch:=first | omega | (simp only [aZ,e0];omega)) only [fE hk,e,aX,aa,aJ,On,Pf,OW]
   have v3:=ao key.size
   simp only [aZ] at hs
   simp (disch:=first | omega | (simp only [aZ,e0];omega)) only [fE hk,oA hk,aX,aa,aJ,On,Pf,OW]
   by_cases c:t3=⟨#[]⟩
   · subst c
     simp only [bZ,fN,aJ,iW,aX]
     cases hr:bd (((2:Nat):Int),((b:Int),(key,(ByteArray.empty,(0,(0,())))))) with
     | true=>exact .inl ⟨_,hr,LZ hb hr,rfl⟩
     | false=>exact .inr rfl
   · rw [kE c]
     exact .inr rfl
 by_cases c1:kd=1∨kd=4
 · have hcc:(bif ((kd:Int)==1) then true else ((kd:Int)==4))=true:=by rcases c1 with rfl | rfl <;> rfl
   rcases qI t2 with ⟨key,t3,hu,rfl⟩ | bad
   case inr =>
    right
    obtain ⟨s',hs',e⟩:=zc hk (by omega) bad
    rcases c1 with rfl | rfl
    · simp (disch:=first | omega | (simp only [aZ,e0];omega)) only [fE hk,e,Ad hk hs',aX,aa,aJ,P9]
    · simp (disch:=first | omega | (simp only [aZ,e0];omega)) only [fE hk,e,Ad hk hs',aX,aa,aJ,Oc,Ph]
   have v3:=ao key.size
   simp only [aZ] at hs
   rcases qI t3 with ⟨val,t4,hv,rfl⟩ | bad
   case inr =>
    right
    obtain ⟨s',hs',e⟩:=zc hk (by omega) bad
    rcases c1 with rfl | rfl
    · simp (disch:=first | omega | (simp only [aZ,e0];omega)) only [fE hk,oA hk,e,aX,aa,aJ,P9]
    · simp (disch:=first | omega | (simp only [aZ,e0];omega)) only [fE hk,oA hk,e,aX,aa,aJ,Oc,Ph]
   have v4:=ao val.size
   simp only [aZ] at hs
   have fin:(bif !seq t4 ⟨#[]⟩ then some (vT,(false,())) else bif !bd ((kd:Int),((b:Int),(key,(val,(0,(0,())))))) then some (vT,(false,())) else some (((kd:Int),((b:Int),(key,(val,(0,(0,())))))),(true,())))=d_.t k (bp kd++(bp b++(bp key.size++(key++(bp val.size++(val++t4)))))):=by
    unfold d_.t
    rcases c1 with rfl | rfl
    · simp (disch:=first | omega | (simp only [aZ,e0];omega)) only [fE hk,oA hk,aX,aa,aJ,P9,iW]
    · simp (disch:=first | omega | (simp only [aZ,e0];omega)) only [fE hk,oA hk,aX,aa,aJ,Oc,Ph,iW]
   change (∃ r,bd r=true∧aI r=_∧d_.t k _=some (r,(true,())))∨d_.t k _=some (vT,(false,()))
   rw [← fin]
   by_cases c:t4=⟨#[]⟩
   · subst c
     simp only [bZ,fN,aJ]
     cases hr:bd ((kd:Int),((b:Int),(key,(val,(0,(0,())))))) with
     | true=>exact .inl ⟨_,hr,Ma hb c1 hr,rfl⟩
     | false=>exact .inr rfl
   · rw [kE c]
     exact .inr rfl
 have d1:kd≠1:=fun q=>c1 (.inl q)
 have d4:kd≠4:=fun q=>c1 (.inr q)
 rcases ke t2 with ⟨c,t3,hc,rfl⟩ | h2
 case inr =>
  right
  simp (disch:=first | omega | (simp only [aZ,e0];omega)) only [fE hk,mY hk h2,sX k,rf0,aX,aa,aJ,OM d1,OE c2,OG d4]
 have v3:=ao c
 rw [aZ] at hs
 rcases AA t3 with ⟨x,t4,hx,rfl⟩ | h3
 case inr =>
  right
  have e:=tD k (s:=t3) (n:=4) (by omega)
  simp (disch:=first | omega | (simp only [aZ,e0];omega)) only [fE hk,e,rf0,aX,aa,aJ,OM d1,OE c2,OG d4]
 rw [nR] at hs
 have hby:=rr k (eu x) t4
 rw [mo,show (((4:Nat)):Int)=4 from rfl] at hby
 have hrf:=q8 hk hx ⟨#[]⟩
 rw [iO] at hrf
 simp (disch:=first | omega | (simp only [aZ,e0,mo];omega)) only [fE hk,hby,hrf,aX,aJ,OM d1,OE c2,OG d4,iW]
 by_cases cc:t4=⟨#[]⟩
 · subst cc
   simp only [bZ,fN,aJ]
   cases hr:bd ((kd:Int),((b:Int),(ByteArray.empty,(ByteArray.empty,((c:Int),((x:Int),())))))) with
   | true=>exact .inl ⟨_,hr,Lg hb hc ⟨d1,c2,d4⟩ hr,rfl⟩
   | false=>exact .inr rfl
 · rw [kE cc]
   exact .inr rfl
theorem ki (a b:Nat):Int.toNat ((a:Int)+(b:Int))=a+b:=by omega
theorem vz (a:Nat):(((bp a).size:Int)==0)=false:=pz (by have:=ao a;omega)
theorem pt (a:Nat) (t:ByteArray):bp a++t≠⟨#[]⟩:=fun h=>by
 have:=congrArg ByteArray.size h
 rw [aZ,e0] at this
 have:=ao a
 omega
theorem qD {r:Ty.d ba} {s:ByteArray} (hs:s≠⟨#[]⟩) :
 (∃ r',bd r'=true∧aI r'=s∧(bif !seq (aI r) s then some (vT,(false,())) else bif seq s ⟨#[]⟩ then some (vT,(false,())) else some (r,(true,())))=some (r',(true,()))) ∨
 (bif !seq (aI r) s then some (vT,(false,())) else bif seq s ⟨#[]⟩ then some (vT,(false,())) else some (r,(true,())))=some (vT,(false,())):=by
 by_cases c:aI r=s
 · exact .inl ⟨r,HH c hs,c,by rw [FV c,kE hs];rfl⟩
 · rw [kE c];exact .inr rfl
theorem B7 {k:Nat} (hk:2 ^ 50≤k) {a:Ty.d ba} (h:bd a=true):iB.f k (aI a)=some (a,(true,())):=by
 unfold iB.f iB.t
 rcases Bo h with ⟨b,kd,hc,hb,ha,z1,z2,e⟩ | ⟨b,hb,ha,z1,e⟩ | ⟨b,kd,c,x,hc,hb,z1,z2,ha,e⟩
 · have hs:aI ((kd:Int),((b:Int),(a.2.2.1,(a.2.2.2.1,(0,(0,()))))))=bp kd++(bp b++(bp a.2.2.1.size++(a.2.2.1++(bp a.2.2.2.1.size++(a.2.2.2.1++⟨#[]⟩))))):=by rw [← ha];exact e
   rw [e]
   conv=>rhs;rw [ha]
   have v1:=ao kd
   have v2:=ao b
   have v3:=ao a.2.2.1.size
   have v4:=ao a.2.2.2.1.size
   rcases hc with rfl | rfl
   · simp (disch:=first | omega | (simp only [aZ,e0];omega)) only [dI hk,BF hk,aX,rI,gJ,vz,aa,aJ,aE,dL,ki,sH,P9,fg hk,hs,bZ,fN,kE (pt _ _)]
   · simp (disch:=first | omega | (simp only [aZ,e0];omega)) only [dI hk,BF hk,aX,rI,gJ,vz,aa,aJ,aE,dL,ki,sH,Oc,Ph,fg hk,hs,bZ,fN,kE (pt _ _)]
 · have hs:aI (((2:Nat):Int),((b:Int),(a.2.2.1,(ByteArray.empty,(0,(0,()))))))=bp 2++(bp b++(bp a.2.2.1.size++(a.2.2.1++⟨#[]⟩))):=by rw [show ((2:Nat):Int)=2 from rfl,← ha];exact e
   rw [e]
   conv=>rhs;rw [ha]
   have v1:=ao 2
   have v2:=ao b
   have v3:=ao a.2.2.1.size
   simp (disch:=first | omega | (simp only [aZ,e0];omega)) only [dI hk,BF hk,aX,rI,gJ,vz,aa,aJ,aE,dL,ki,sH,On,Pf,OW,fg hk,hs,bZ,fN,kE (pt _ _)]
   rfl
 · have hs:aI ((kd:Int),((b:Int),(ByteArray.empty,(ByteArray.empty,((c:Int),((x:Int),()))))))=bp kd++(bp b++(bp c++(eu x++⟨#[]⟩))):=by rw [← ha];exact e
   rw [e,ha]
   have v1:=ao kd
   have v2:=ao b
   have v3:=ao c
   have v4:=mo x
   simp (disch:=first | omega | (simp only [aZ,e0];omega)) only [dI hk,qG hk z2,aX,rI,gJ,vz,aa,aJ,aE,dL,ki,sH,OM,OE,OG,fg hk,hs,bZ,fN,kE (pt _ _)]
theorem xv {k:Nat} (hk:2 ^ 50≤k) {s:ByteArray} (hs:s.size≤1099511627776) :
 (∃ r,bd r=true∧aI r=s∧iB.f k s=some (r,(true,())))∨iB.f k s=some (vT,(false,())):=by
 unfold iB.f iB.t
 rcases ke s with ⟨kd,t,hkd,rfl⟩ | h0
 case inr =>
  right
  rw [kV hk h0,aX]
  simp only []
  rw [dL (by omega) (by omega),oy hk,aX]
  rfl
 have v1:=ao kd
 rw [aZ] at hs
 rcases ke t with ⟨b,t2,hb,rfl⟩ | h1
 case inr =>
  right
  simp (disch:=first | omega | (simp only [aZ,e0];omega)) only [dI hk,kV hk h1,aX,rI,gJ,vz,aa,aJ,aE,dL,show (((0:Int)==0))=true from rfl]
 have v2:=ao b
 rw [aZ] at hs
 by_cases c2:kd=2
 · subst c2
   rcases qI t2 with ⟨key,t3,hu,rfl⟩ | bad
   · simp only [aZ] at hs
     simp (disch:=first | omega | (simp only [aZ,e0];omega)) only [dI hk,BF hk,aX,rI,gJ,vz,aa,aJ,aE,dL,ki,sH,On,Pf,OW,fg hk]
     exact qD (pt _ _)
   · have hb5:=DZ hk (by omega) bad
     simp (disch:=first | omega | (simp only [aZ,e0];omega)) only [dI hk,hb5,aX,rI,gJ,vz,aa,aJ,aE,dL,ki,sH,On,Pf,OW,fg hk]
     exact qD (pt _ _)
 by_cases c1:kd=1∨kd=4
 · have em:eS.f k ⟨#[]⟩=some (⟨#[]⟩,(⟨#[]⟩,(false,()))):=DZ hk (by decide) (.inl rfl)
   obtain ⟨u,l,bb,hl,e⟩:∃ u l bb,l.size≤1099511627776∧eS.f k t2=some (u,(l,(bb,()))):=by
    rcases qI t2 with ⟨key,t3,hu,rfl⟩ | bad
    · simp only [aZ] at hs
      exact ⟨_,_,_,by omega,BF hk hu (by simp only [aZ];omega)⟩
    · exact ⟨_,_,_,by decide,DZ hk (by omega) bad⟩
   obtain ⟨u2,l2,bb2,e2⟩:∃ u l' bb,eS.f k l=some (u,(l',(bb,()))):=by
    rcases qI l with ⟨key,t3,hu,rfl⟩ | bad
    · exact ⟨_,_,_,BF hk hu (by simp only [aZ] at hl ⊢;omega)⟩
    · exact ⟨_,_,_,DZ hk hl bad⟩
   rcases c1 with rfl | rfl
   · simp (disch:=first | omega | (simp only [aZ,e0];omega)) only [dI hk,e,e2,aX,rI,gJ,vz,aa,aJ,aE,dL,ki,sH,P9,fg hk]
     exact qD (pt _ _)
   · simp (disch:=first | omega | (simp only [aZ,e0];omega)) only [dI hk,e,e2,aX,rI,gJ,vz,aa,aJ,aE,dL,ki,sH,Oc,Ph,fg hk]
     exact qD (pt _ _)
 have d1:kd≠1:=fun q=>c1 (.inl q)
 have d4:kd≠4:=fun q=>c1 (.inr q)
 have rf:∀ u:ByteArray,∃ z zb,cZ.f k u 4=some (z,(zb,())):=fun u=>by
  rcases AA u with ⟨x,t,hx,rfl⟩ | q
  · exact ⟨_,_,qG hk hx t⟩
  · exact ⟨_,_,ve k q⟩
 rcases ke t2 with ⟨c,t3,hc,rfl⟩ | h2
 · have v3:=ao c
   rw [aZ] at hs
   obtain ⟨z,zb,e⟩:=rf t3
   simp (disch:=first | omega | (simp only [aZ,e0];omega)) only [dI hk,e,aX,rI,gJ,vz,aa,aJ,aE,dL,ki,sH,OM d1,OE c2,OG d4,fg hk]
   exact qD (pt _ _)
 · obtain ⟨z,zb,e⟩:=rf (ByteArray.extract t2 (Int.toNat 0) t2.size)
   simp (disch:=first | omega | (simp only [aZ,e0];omega)) only [dI hk,kV hk h2,e,aX,rI,gJ,vz,aa,aJ,aE,dL,ki,sH,OM d1,OE c2,OG d4,fg hk]
   exact qD (pt _ _)
noncomputable def iw (s:ByteArray):Ty.d ba × Bool:=pg (fun r=>bd r=true) aI vT s
theorem s6 {k:Nat} (hk:2 ^ 50≤k) {s:ByteArray} (hs:s.size≤1099511627776):d_.f k s=some ((iw s).1,((iw s).2,())) :=
 tA (fun r h1 h2=>by rw [← h2];exact pe hk h1) (y6 hk hs)
theorem yg {k:Nat} (hk:2 ^ 50≤k) {s:ByteArray} (hs:s.size≤1099511627776):iB.f k s=some ((iw s).1,((iw s).2,())) :=
 tA (fun r h1 h2=>by rw [← h2];exact B7 hk h1) (xv hk hs)
theorem Ec {a b:Ty.d ba} (ha:bd a=true) (hb:bd b=true) (h:aI a=aI b):a=b:=by
 have h1:=pe (k:=2 ^ 50) (Nat.le_refl _) ha
 rw [h,pe (Nat.le_refl _) hb] at h1
 exact (Prod.mk.inj (Option.some.inj h1)).1.symm
theorem vN {a:Ty.d ba} (h:bd a=true):iw (aI a)=(a,true):=Ch (fun _ _ ha hb=>Ec ha hb) h
theorem zH {s:ByteArray} {r:Ty.d ba} (h:iw s=(r,true)):bd r=true∧aI r=s:=yK h
theorem qb {t:ByteArray} (h:t.size≤200):∃ x,x<4294967296∧aT t=eu x++(bp t.size++t):=by
 have:=vu (jf t)
 refine ⟨(sP (jf t)).toNat,by omega,?_⟩
 unfold aT v7
 rw [if_neg (by omega)]
 unfold jf
 rw [da (by omega)]
theorem Ju {t u s r:ByteArray} (ht:t.size≤200) (hu:u.size≤200) (h:aT t++s=aT u++r):t=u∧s=r:=by
 obtain ⟨x,hx,e⟩:=qb ht
 obtain ⟨y,hy,f⟩:=qb hu
 rw [e,f,bg,bg,bg,bg] at h
 have h2:=(t6 h rfl).2
 obtain ⟨h3,h4⟩:=AE (by omega) (by omega) h2
 exact t6 h4 h3
theorem Bh (x:Nat) (u:ByteArray):ByteArray.extract (eu x++u) 4 (eu x++u).size=u:=gJ (eu x) u
theorem QH (x:Nat) (v t r:ByteArray):ByteArray.extract (eu x++(v++(t++r))) (4+v.size) (4+v.size+t.size)=t:=by
 have:=QV (eu x++v) t r
 rw [aZ,mo,bg] at this
 exact this
theorem O6 (x:Nat) (v t r:ByteArray):ByteArray.extract (eu x++(v++(t++r))) 0 (4+v.size+t.size)=eu x++(v++t):=by
 have:=ye (eu x++(v++t)) r
 rw [aZ,aZ,mo,bg,bg,← Nat.add_assoc] at this
 exact this
theorem c4 (a:Nat):(4:Int)+(a:Int)=((4+a:Nat):Int):=rfl
theorem zw {k:Nat} (hk:2 ^ 50≤k) {x:Nat} {t r:ByteArray} (ht:t.size≤200) (hr:t.size+r.size≤1099511627776) :
 dm.f k (eu x++(bp t.size++(t++r)))=bif !seq (aT t) (eu x++(bp t.size++t)) then some (⟨#[]⟩,(0,())) else some (t,(((4+(bp t.size).size+t.size:Nat):Int),())):=by
 have v1:=ao t.size
 have z1:(eu x++(bp t.size++(t++r))).size=4+((bp t.size).size+(t.size+r.size)):=by rw [nR,aZ,aZ]
 unfold dm.f dm.t
 rw [aY (by omega),aJ,dL (by omega) (by omega),Bh,oh hk (by omega) (by rw [aZ];omega),aX]
 simp only [vz,aJ]
 rw [aY (by omega),aJ,aE (n:=((eu x++(bp t.size++(t++r))).size:Int)-4) (by omega) (by omega),aE (n:=((eu x++(bp t.size++(t++r))).size:Int)-4-_) (by omega) (by omega),aY (by omega),aJ,
  c4,aE (by omega) (by omega),zk,aE (by omega) (by omega),yM (by omega) (by omega) (by omega),rI,rI,QH,oG hk,aX,dL (by omega) (by omega),O6]
theorem A0 {k:Nat} (hk:2 ^ 50≤k) {x:Nat} {t r:ByteArray} (ht:t.size≤200) (hr:t.size+r.size≤1099511627776) :
 iZ.f k (eu x++(bp t.size++(t++r)))=bif !seq (aT t) (eu x++(bp t.size++t)) then some (⟨#[]⟩,(0,())) else some (t,(((4+(bp t.size).size+t.size:Nat):Int),())):=by
 have v1:=ao t.size
 have z1:(eu x++(bp t.size++(t++r))).size=4+((bp t.size).size+(t.size+r.size)):=by rw [nR,aZ,aZ]
 unfold iZ.f iZ.t
 rw [aY (by omega),aJ,dL (by omega) (by omega),Bh,dI hk (by omega),aX]
 simp only [vz,aJ]
 rw [aY (by omega),aJ,aE (n:=((eu x++(bp t.size++(t++r))).size:Int)-4) (by omega) (by omega),aE (n:=((eu x++(bp t.size++(t++r))).size:Int)-4-_) (by omega) (by omega),aY (by omega),aJ,
  c4,aE (by omega) (by omega),zk,aE (by omega) (by omega),yM (by omega) (by omega) (by omega),rI,rI,QH,DW hk,dL (by omega) (by omega),aX,O6,
  show seq (eu x++(bp t.size++t)) (aT t)=seq (aT t) (eu x++(bp t.size++t)) by rw [I8,I8];exact decide_eq_decide.2 ⟨Eq.symm,Eq.symm⟩]
theorem Lr (s:ByteArray) (hs:s.size≤1099511627776):(∃ x t r,x<4294967296∧t.size≤200∧t.size+r.size≤1099511627776∧s=eu x++(bp t.size++(t++r)))∨s.size<5∨(∃ x u,x<4294967296∧s=eu x++u∧1≤u.size∧rv 7 (nb u)=none) ∨
 (∃ x a u,x<4294967296∧a<562949953421312∧s=eu x++(bp a++u)∧(200<a∨u.size<a)):=by
 rcases AA s with ⟨x,u,hx,rfl⟩ | h
 · rw [nR] at hs
   rcases ke u with ⟨a,v,ha,rfl⟩ | h
   · rw [aZ] at hs
     by_cases c:200<a∨v.size<a
     · exact .inr (.inr (.inr ⟨x,a,v,hx,ha,rfl,c⟩))
     · left
       have e:=vK v (n:=a) (by omega)
       have hz:(ByteArray.extract v 0 a).size=a:=by rw [← dW,lB,List.length_take,dW];omega
       refine ⟨x,ByteArray.extract v 0 a,ByteArray.extract v a v.size,hx,by omega,?_,by rw [hz,← e]⟩
       have:=congrArg ByteArray.size e
       rw [aZ] at this
       omega
   · by_cases c:1≤u.size
     · exact .inr (.inr (.inl ⟨x,u,hx,rfl,c,h⟩))
     · exact .inr (.inl (by rw [nR];omega))
 · exact .inr (.inl (by omega))
theorem xn {k:Nat} (hk:2 ^ 50≤k) {s:ByteArray} (hs:s.size≤1099511627776) (h:s.size<5∨(∃ x u,x<4294967296∧s=eu x++u∧1≤u.size∧rv 7 (nb u)=none) ∨
 (∃ x a u,x<4294967296∧a<562949953421312∧s=eu x++(bp a++u)∧(200<a∨u.size<a))):dm.f k s=some (⟨#[]⟩,(0,())):=by
 unfold dm.f dm.t
 rcases h with h | ⟨x,u,hx,rfl,hu,h⟩ | ⟨x,a,u,hx,ha,rfl,h⟩
 · by_cases c:s.size<4
   · rw [aV (by omega),aa]
   · have e:ByteArray.extract s 4 s.size=⟨#[]⟩:=kJ (by rw [j7,List.drop_eq_nil_of_le (by rw [dW];omega)];rfl)
     rw [aY (by omega),aJ,dL (by omega) (by omega),e,nt hk rfl (by decide),aX]
     rfl
 · rw [nR] at hs
   rw [aY (by rw [nR];omega),aJ,dL (by omega) (by rw [nR];omega),Bh,nt hk h (by omega),aX]
   rfl
 · have v1:=ao a
   have z1:(eu x++(bp a++u)).size=4+((bp a).size+u.size):=by rw [nR,aZ]
   rw [aY (by omega),aJ,dL (by omega) (by omega),Bh,oh hk ha (by omega),aX]
   simp only [vz,aJ]
   by_cases c:200<a
   · rw [aV (by omega),aa]
   · rw [aY (by omega),aJ,aE (n:=((eu x++(bp a++u)).size:Int)-4) (by omega) (by omega),aE (n:=((eu x++(bp a++u)).size:Int)-4-_) (by omega) (by omega),aV (by omega),aa]
theorem xu {k:Nat} (hk:2 ^ 50≤k) {s:ByteArray} (hs:s.size≤1099511627776) (h:s.size<5∨(∃ x u,x<4294967296∧s=eu x++u∧1≤u.size∧rv 7 (nb u)=none) ∨
 (∃ x a u,x<4294967296∧a<562949953421312∧s=eu x++(bp a++u)∧(200<a∨u.size<a))):iZ.f k s=some (⟨#[]⟩,(0,())):=by
 unfold iZ.f iZ.t
 rcases h with h | ⟨x,u,hx,rfl,hu,h⟩ | ⟨x,a,u,hx,ha,rfl,h⟩
 · rw [aV (by omega),aa]
 · rw [nR] at hs
   rw [aY (by rw [nR];omega),aJ,dL (by omega) (by rw [nR];omega),Bh,kV hk h,aX]
   rfl
 · have v1:=ao a
   have z1:(eu x++(bp a++u)).size=4+((bp a).size+u.size):=by rw [nR,aZ]
   rw [aY (by omega),aJ,dL (by omega) (by omega),Bh,dI hk ha,aX]
   simp only [vz,aJ]
   by_cases c:200<a
   · rw [aV (by omega),aa]
   · rw [aY (by omega),aJ,aE (n:=((eu x++(bp a++u)).size:Int)-4) (by omega) (by omega),aE (n:=((eu x++(bp a++u)).size:Int)-4-_) (by omega) (by omega),aV (by omega),aa]
section
open Classical
noncomputable def h_ (s:ByteArray):ByteArray × Int:=if h:∃ t r,t.size≤200∧s=aT t++r then (h.choose,((aT h.choose).size:Int)) else (⟨#[]⟩,0)
theorem oI {t:ByteArray} (r:ByteArray) (h:t.size≤200):h_ (aT t++r)=(t,((aT t).size:Int)):=by
 have q:∃ u v,u.size≤200∧aT t++r=aT u++v:=⟨t,r,h,rfl⟩
 unfold h_
 rw [dif_pos q]
 obtain ⟨v,h1,h2⟩:=q.choose_spec
 have:=(Ju h h1 h2).1
 rw [← this]
theorem nK (s:ByteArray):(∃ t r,t.size≤200∧s=aT t++r∧h_ s=(t,((aT t).size:Int)))∨(h_ s=(⟨#[]⟩,0)∧∀ t r,t.size≤200→s≠aT t++r):=by
 by_cases q:∃ t r,t.size≤200∧s=aT t++r
 · obtain ⟨t,r,h,rfl⟩:=q
   exact .inl ⟨t,r,h,rfl,oI r h⟩
 · right
   refine ⟨?_,fun t r h e=>q ⟨t,r,h,e⟩⟩
   unfold h_
   rw [dif_neg q]
end
theorem OL {k:Nat} {f:ByteArray→Option (ByteArray × Int × Unit)} (h1:∀ x t r,x<4294967296→t.size≤200→t.size+r.size≤1099511627776→f (eu x++(bp t.size++(t++r)))=bif !seq (aT t) (eu x++(bp t.size++t)) then some (⟨#[]⟩,(0,())) else some (t,(((4+(bp t.size).size+t.size:Nat):Int),())))
 (h2:∀ s,s.size≤1099511627776→(s.size<5∨(∃ x u,x<4294967296∧s=eu x++u∧1≤u.size∧rv 7 (nb u)=none)∨(∃ x a u,x<4294967296∧a<562949953421312∧s=eu x++(bp a++u)∧(200<a∨u.size<a)))→f s=some (⟨#[]⟩,(0,())))
 {s:ByteArray} (hs:s.size≤1099511627776):f s=some ((h_ s).1,((h_ s).2,())):=by
 rcases Lr s hs with ⟨x,t,r,hx,ht,hr,rfl⟩ | h
 · rw [h1 x t r hx ht hr]
   by_cases c:aT t=eu x++(bp t.size++t)
   · have e:eu x++(bp t.size++(t++r))=aT t++r:=by rw [c,bg,bg]
     rw [FV c,e,oI r ht,c,nR,aZ,Nat.add_assoc]
     rfl
   · rw [kE c]
     rcases nK (eu x++(bp t.size++(t++r))) with ⟨t',r',ht',e,_⟩ | ⟨e,_⟩
     · exfalso
       obtain ⟨y,hy,f'⟩:=qb ht'
       rw [f',bg,bg] at e
       have h3:=t6 e rfl
       obtain ⟨h4,h5⟩:=AE (by omega) (by omega) h3.2
       have h6:=t6 h5 h4
       apply c
       rw [h6.1,f',h3.1]
     · rw [e];rfl
 · rw [h2 s hs h]
   rcases nK s with ⟨t',r',ht',e,_⟩ | ⟨e,_⟩
   · exfalso
     obtain ⟨y,hy,f'⟩:=qb ht'
     have hp:=lG ht'
     rw [f',bg,bg] at e
     rcases h with h | ⟨x,u,hx,e2,hu,h⟩ | ⟨x,a,u,hx,ha,e2,h⟩
     · rw [e,nR,aZ] at h
       have:=ao t'.size
       omega
     · rw [e2] at e
       rw [(t6 e rfl).2,ya (by omega)] at h
       cases h
     · rw [e2] at e
       obtain ⟨h4,h5⟩:=AE ha (by omega) (t6 e rfl).2
       rw [h5,h4,aZ] at h
       omega
   · rw [e]
theorem mc {k:Nat} (hk:2 ^ 50≤k) {s:ByteArray} (hs:s.size≤1099511627776):dm.f k s=some ((h_ s).1,((h_ s).2,())) :=
 OL (k:=k) (fun x t r _ ht hr=>zw hk ht hr) (fun s hs h=>xn hk hs h) hs
theorem AR {k:Nat} (hk:2 ^ 50≤k) {s:ByteArray} (hs:s.size≤1099511627776):iZ.f k s=some ((h_ s).1,((h_ s).2,())) :=
 OL (k:=k) (fun x t r _ ht hr=>A0 hk ht hr) (fun s hs h=>xu hk hs h) hs
theorem oQ (s:ByteArray):(h_ s).1.size≤200∧((h_ s).2=0∨5≤(h_ s).2)∧(h_ s).2≤s.size∧(h_ s).2≤211:=by
 rcases nK s with ⟨t,r,h,rfl,e⟩ | ⟨e,_⟩
 · rw [e,aZ]
   have:=lG h
   have:=m9 t
   refine ⟨h,?_,?_,?_⟩ <;> simp only [] <;> omega
 · rw [e]
   refine ⟨by simp only [e0];omega,.inl rfl,by simp only [];omega,by simp only [];omega⟩
theorem yE:h_ ⟨#[]⟩=(⟨#[]⟩,0):=by
 rcases nK ⟨#[]⟩ with ⟨t,r,h,e,_⟩ | ⟨e,_⟩
 · have:=congrArg ByteArray.size e
   rw [aZ,e0] at this
   have:=lG h
   omega
 · exact e
noncomputable def g7 (s:ByteArray):Nat→Int→List (Ty.d cz) × Int
 | 0,at_=>([],at_)
 | d+1,at_ =>
  if (h_ (ByteArray.extract s at_.toNat s.size)).2=0 then ([],at_)
  else if (iw (h_ (ByteArray.extract s at_.toNat s.size)).1).2=false then ([],at_)
  else (((at_,((h_ (ByteArray.extract s at_.toNat s.size)).2,((iw (h_ (ByteArray.extract s at_.toNat s.size)).1).1,()))):Ty.d cz)::(g7 s d (at_+(h_ (ByteArray.extract s at_.toNat s.size)).2)).1,
   (g7 s d (at_+(h_ (ByteArray.extract s at_.toNat s.size)).2)).2)
noncomputable def bx (s:ByteArray):List (Ty.d cz) × Int:=g7 s (s.size+1) 0
theorem sB (s:ByteArray) (n:Nat):(ByteArray.extract s n s.size).size=s.size-n:=by rw [← dW,j7,List.length_drop,dW]
theorem Q9 {k:Nat} (hk:2 ^ 50≤k) {s:ByteArray} (hs:s.size≤1099511627776):∀ (d n:Nat) (i:Int) (out:List (Ty.d cz)),0≤i→i≤s.size→(s.size:Int)-i<d→d≤n→(out.length:Int)≤i →
 dD.l0 k n s i out=some (out++(g7 s d i).1,((g7 s d i).2,()))∧gS.l0 k n s i out=some (out++(g7 s d i).1,((g7 s d i).2,())):=by
 intro d
 induction d with
 | zero=>intro n i out h0 h1 h2;omega
 | succ d ih =>
  intro n i out h0 h1 h2 h3 h4
  obtain ⟨n,rfl⟩:∃ q,n=q+1:=⟨n-1,by omega⟩
  have hz:=sB s i.toNat
  have hu:=oQ (ByteArray.extract s i.toNat s.size)
  have e1:=mc hk (s:=ByteArray.extract s i.toNat s.size) (by omega)
  have e2:=AR hk (s:=ByteArray.extract s i.toNat s.size) (by omega)
  have hnil:i=s.size→(h_ (ByteArray.extract s i.toNat s.size)).2=0:=fun q=>by
   have:ByteArray.extract s i.toNat s.size=⟨#[]⟩:=kJ (by rw [j7,List.drop_eq_nil_of_le (by rw [dW];omega)];rfl)
   rw [this,yE]
  simp only [g7]
  generalize h_ (ByteArray.extract s i.toNat s.size)=u at *
  have e3:=s6 hk (s:=u.1) (by omega)
  have e4:=yg hk (s:=u.1) (by omega)
  generalize iw u.1=r at *
  by_cases c:u.2=0
  · rw [if_pos c]
    have cb:(u.2==0)=true:=by rw [c];rfl
    simp only [List.append_nil]
    constructor
    · simp (disch:=omega) only [dD.l0,dD.b0,dL,e1,e3,aX,cb,aa]
    · by_cases q:i<s.size
      · simp (disch:=omega) only [gS.l0,gS.b0,aV,dL,e2,e4,aX,cb,aa]
      · simp (disch:=omega) only [gS.l0,gS.b0,aY,aJ]
  · rw [if_neg c]
    have cb:(u.2==0)=false:=pz c
    have hlt:i<s.size:=by
     rcases Int.lt_or_eq_of_le h1 with q | q
     · exact q
     · exact absurd (hnil q) c
    cases hr:r.2 with
    | false =>
     simp only [if_true,List.append_nil]
     constructor
     · simp (disch:=omega) only [dD.l0,dD.b0,dL,e1,e3,aX,cb,aa,aJ,hr,tR]
     · simp (disch:=omega) only [gS.l0,gS.b0,aV,dL,e2,e4,aX,cb,aa,aJ,hr,tR]
    | true =>
     rw [if_neg (by decide)]
     have hlen:out.length+1≤1099511627777:=by omega
     have ih:=ih n (i+u.2) (out++[(i,(u.2,(r.1,())))]) (by omega) (by omega) (by omega) (by omega) (by rw [py];show ((out.length+1:Nat):Int)≤_;omega)
     simp only [nw,List.cons_append,List.nil_append] at ih
     constructor
     · simp (disch:=first | omega | decide) only [dD.l0,dD.b0,dL,e1,e3,aX,cb,aa,aJ,hr,fN,bf,aE]
       exact ih.1
     · simp (disch:=first | omega | decide) only [gS.l0,gS.b0,aV,dL,e2,e4,aX,cb,aa,aJ,hr,fN,bf,aE]
       exact ih.2
theorem sF {k:Nat} (hk:2 ^ 50≤k) {s:ByteArray} (hs:s.size≤1099511627775):dD.f k s=some ((bx s).1,((bx s).2,())) :=
 (Q9 hk (by omega) (s.size+1) k 0 [] (by omega) (by omega) (by omega) (by omega) (by simp)).1
theorem wA (s:ByteArray):∀ (d:Nat) (i:Int),0≤i→i≤s.size→((g7 s d i).1.length:Int)≤s.size-i∧i≤(g7 s d i).2∧(g7 s d i).2≤s.size
 | 0,i,h0,h1=>by simp only [g7,List.length_nil];omega
 | d+1,i,h0,h1=>by
  have hu:=oQ (ByteArray.extract s i.toNat s.size)
  have hz:=sB s i.toNat
  rw [g7]
  split
  · simp only [List.length_nil];omega
  · split
    · simp only [List.length_nil];omega
    · rename_i c1 c2
      have ih:=wA s d (i+(h_ (ByteArray.extract s i.toNat s.size)).2) (by omega) (by omega)
      simp only [jj]
      omega
theorem my (s:ByteArray):(bx s).1.length≤s.size∧0≤(bx s).2∧(bx s).2≤s.size:=by
 have:=wA s (s.size+1) 0 (by omega) (by omega)
 unfold bx
 omega
theorem NK (d:Nat) {a:Nat} (h:a<128):(vl d a).length=1:=by
 cases d with
 | zero=>rfl
 | succ d=>unfold vl;rw [if_neg (by omega)];rfl
theorem Nj {a:Nat} (h:a<2097152):(vl 6 a).length≤3:=by
 unfold vl
 split
 · rw [jj]
   unfold vl
   split
   · rw [jj,NK 4 (by omega)]
     omega
   · simp
 · simp
theorem tp {a:Int} (h0:0≤a) (h1:a≤100000):(jX a).size≤3:=by
 obtain ⟨n,rfl⟩:=Int.eq_ofNat_of_zero_le h0
 rw [da (by omega),← rW (by omega)]
 exact Nj (by omega)
def jT:List Int→ByteArray
 | []=>⟨#[]⟩
 | x::l=>jX x++jT l
theorem xT:∀ (l:List Int),(∀ x ∈ l,0≤x∧x≤100000)→(jT l).size≤3*l.length
 | [],_=>Nat.le_refl _
 | x::l,h=>by
  have h1:=tp (h x (ii ..)).1 (h x (ii ..)).2
  have h2:=xT l fun y hy=>h y (kR _ hy)
  rw [jT,aZ,jj]
  omega
theorem rF:∀ (l:List Int),(jT l).size≤7*l.length
 | []=>Nat.le_refl _
 | x::l=>by
  have h1:=bK x
  have h2:=rF l
  rw [jT,aZ,jj]
  omega
def rN (v:Ty.d ch):ByteArray:=jX v.1++(jX (v.2.1.length:Int)++jT v.2.1)
def c_ (v:Ty.d ch):ByteArray:=if dl v=true then aT (rN v) else ⟨#[]⟩
theorem bm {nx:Int} {ids:List Int} (h:dl (nx,(ids,()))=true):1≤nx∧nx≤100000∧1≤ids.length∧ids.length≤60∧∀ x ∈ ids,0≤x∧x≤100000:=by
 unfold dl at h
 simp only [iA,decide_eq_true_eq] at h
 obtain ⟨h1,h2,h3⟩:=h
 have h1a:1≤nx:=h1.1
 have h1b:nx≤100000:=h1.2
 refine ⟨h1a,h1b,by omega,by omega,fun x hx=>?_⟩
 obtain ⟨p,hp⟩:=Cg h3 hx
 unfold qA at hp
 rw [iA,decide_eq_true_eq] at hp
 have hw:aQ (nx-1)=nx-1:=aE (by omega) (by omega)
 have h4:x≤aQ (nx-1):=hp.1.2
 have h5:1≤x:=hp.1.1
 omega
theorem HP {nx:Int} {ids:List Int} (h:dl (nx,(ids,()))=true):(rN (nx,(ids,()))).size≤200:=by
 obtain ⟨h1,h2,h3,h4,h5⟩:=bm h
 have a:=tp (a:=nx) (by omega) h2
 have b:=tp (a:=(ids.length:Int)) (by omega) (by omega)
 have c:=xT ids h5
 unfold rN
 rw [aZ,aZ]
 simp only []
 omega
noncomputable def lP (s:ByteArray):Ty.d ch × Bool:=pg (fun v=>dl v=true) c_ (0,([],())) s
def O_:Option (Ty.d ch × Bool × Unit):=some ((0,([],())),(false,()))
theorem zV {x:Int} (h0:0≤x) (h1:x≤100000):∃ n:Nat,n<562949953421312∧x=(n:Int)∧jX x=bp n:=by
 obtain ⟨n,rfl⟩:=Int.eq_ofNat_of_zero_le h0
 exact ⟨n,by omega,rfl,da (by omega)⟩
def OJ (s:ByteArray) (m a:Int) (out:List Int) (r:ByteArray) (bad:Bool):Option (Ty.d ch × Bool × Unit) :=
 bif m==0 then O_ else bif m != (s.size:Int) then O_ else bif bad then O_ else bif !seq r ⟨#[]⟩ then O_ else bif !dl (a,(out,())) then O_ else some ((a,(out,())),(true,()))
theorem y8 {k:Nat} (hk:2 ^ 50≤k) {s r:ByteArray} {m a:Int} {out:List Int} {bad:Bool} (ho:out.length≤1099511627776) :
 @Eq (Option (Ty.d ch × Bool × Unit)) (bif (m==0) then (some ((0,([],())),(false,()))) else (bif (m != (ByteArray.size s:Int)) then (some ((0,([],())),(false,()))) else (bif bad then (some ((0,([],())),(false,()))) else (bif (!(seq r (⟨#[]⟩:ByteArray))) then (some ((0,([],())),(false,()))) else (Option.bind (dE.f k (a,(out,()))) fun r5=>(bif (!r5.1) then (some ((0,([],())),(false,()))) else (some ((a,(out,())),(true,()))))))))) (OJ s m a out r bad):=by
 rw [rh hk (v:=(a,(out,()))) ho]
 rfl
theorem EZ {k:Nat} (hk:2 ^ 50≤k) {s:ByteArray} (m a:Int):∀ (ids:List Int) (n:Nat) (j c:Int) (out:List Int),(∀ x ∈ ids,0≤x∧x≤100000)→ids.length<n→0≤j→c=j+ids.length→c≤60→(out.length:Int)≤j →
 b9.l0 k n s m c j [] 0 (jT ids) false out a=OJ s m a (out++ids) ⟨#[]⟩ false:=by
 intro ids
 induction ids with
 | nil =>
  intro n j c out h hn h0 hc h1 ho
  obtain ⟨n,rfl⟩:∃ q,n=q+1:=⟨n-1,by omega⟩
  rw [List.length_nil] at hc
  simp only [b9.l0,b9.b0]
  rw [aY (show ¬ j<c by omega),aJ,List.append_nil]
  exact y8 hk (bad:=false) (by omega)
 | cons x ids ih =>
  intro n j c out h hn h0 hc h1 ho
  rw [jj] at hn hc
  obtain ⟨n,rfl⟩:∃ q,n=q+1:=⟨n-1,by omega⟩
  obtain ⟨b,hb,hx,hv⟩:=zV (h x (ii ..)).1 (h x (ii ..)).2
  have hts:=rF ids
  have ih:=ih n (j+1) c (out++[x]) (fun y hy=>h y (kR _ hy)) (by omega) (by omega) (by omega) h1 (by rw [d8];omega)
  simp only [b9.l0,b9.b0]
  rw [aV (show j<c by omega),aa,tR,aa,show jT (x::ids)=bp b++jT ids by rw [jT,hv],fE hk hb (by omega),aX]
  simp only []
  rw [bf (by omega) (by decide),aE (by omega) (by omega),← hx,ih,nw]
  rfl
theorem oT {k:Nat} (hk:2 ^ 50≤k) {nx:Int} {ids:List Int} (h:dl (nx,(ids,()))=true):b9.f k (c_ (nx,(ids,())))=some ((nx,(ids,())),(true,())):=by
 obtain ⟨g1,g2,g3,g4,g5⟩:=bm h
 have hz:=HP h
 have hf:=lG hz
 have hfs:=m9 (rN (nx,(ids,())))
 have hu:=oI ⟨#[]⟩ hz
 rw [iO] at hu
 have e:c_ (nx,(ids,()))=aT (rN (nx,(ids,()))):=if_pos h
 obtain ⟨a,ha,hx,hv⟩:=zV (x:=nx) (by omega) g2
 obtain ⟨b,hb,hy,hw⟩:=zV (x:=(ids.length:Int)) (by omega) (by omega)
 have ht:rN (nx,(ids,()))=bp a++(bp b++jT ids):=by
  unfold rN
  rw [← hv,← hw]
 have hvs:=rF ids
 have hvb:=ao b
 have hl:=EZ hk (s:=c_ (nx,(ids,()))) ((c_ (nx,(ids,()))).size:Int) nx ids k 0 (b:Int) [] g5 (by omega) (by omega) (by omega) (by omega) (by simp)
 have hu1:h_ (c_ (nx,(ids,())))=(rN (nx,(ids,())),((c_ (nx,(ids,()))).size:Int)):=by rw [e];exact hu
 unfold b9.f b9.t
 rw [mc hk (by rw [e];omega),aX,hu1]
 simp only []
 rw [ht,fE hk ha (by rw [aZ];omega),aX]
 simp only []
 rw [fE hk hb (by omega),aX]
 simp only []
 rw [← hx,hl,List.nil_append]
 unfold OJ
 rw [show (((c_ (nx,(ids,()))).size:Int)==0)=false from pz (by rw [e];omega),show (((c_ (nx,(ids,()))).size:Int) != ((c_ (nx,(ids,()))).size:Int))=false by simp,bZ,h]
 rfl
theorem Dt {k:Nat} (hk:2 ^ 50≤k) {s:ByteArray} (m a c:Int):∀ (n:Nat) (rest:ByteArray) (j:Int) (out:List Int),rest.size+2≤n→0≤j→j≤c→c<562949953421312→out.length+rest.size≤1000000 →
 (∃ xs r,rest=jT xs++r∧(xs.length:Int)=c-j∧b9.l0 k n s m c j [] 0 rest false out a=OJ s m a (out++xs) r false)∨(∃ o r,b9.l0 k n s m c j [] 0 rest false out a=OJ s m a o r true):=by
 intro n
 induction n with
 | zero=>intro rest j out h1;omega
 | succ n ih =>
  intro rest j out h1 h2 h3 h4 h5
  by_cases c1:j<c
  · rcases ke rest with ⟨b,t,hb,rfl⟩ | hbad
    · have hvb:=ao b
      rw [aZ] at h1 h5
      have e:b9.l0 k (n+1) s m c j [] 0 (bp b++t) false out a=b9.l0 k n s m c (j+1) [] 0 t false (out++[(b:Int)]) a:=by
       simp only [b9.l0,b9.b0]
       rw [aV c1,aa,tR,aa,fE hk hb (by omega),aX]
       simp only []
       rw [bf (by omega) (by decide),aE (by omega) (by omega)]
      rw [e]
      rcases ih t (j+1) (out++[(b:Int)]) (by omega) (by omega) (by omega) h4 (by rw [d8];omega) with ⟨xs,r,g1,g2,g3⟩ | g
      · refine .inl ⟨(b:Int)::xs,r,?_,by rw [jj];omega,?_⟩
        · rw [jT,da hb,g1,bg]
        · rw [g3,nw];rfl
      · exact .inr g
    · refine .inr ?_
      obtain ⟨n,rfl⟩:∃ q,n=q+1:=⟨n-1,by omega⟩
      refine ⟨out++[0],rest,?_⟩
      simp only [b9.l0,b9.b0]
      rw [aV c1,aa,tR,aa,mY hk hbad (by omega),aX]
      simp only []
      rw [bf (by omega) (by decide),aE (by omega) (by omega),fN,aJ]
      rw [y8 hk (bad:=true) (by rw [d8];omega)]
      cases decide (j+1<c) <;> rfl
  · refine .inl ⟨[],rest,by rw [jT,oE],by rw [List.length_nil];omega,?_⟩
    simp only [b9.l0,b9.b0]
    rw [aY c1,aJ,List.append_nil]
    exact y8 hk (bad:=false) (by omega)
theorem IL (s:ByteArray) (m a:Int) (o:List Int) (r:ByteArray):OJ s m a o r true=O_:=by
 unfold OJ
 cases m==0 <;> cases m != (s.size:Int) <;> rfl
theorem ua {k:Nat} (hk:2 ^ 50≤k) (s:ByteArray) (m a c:Int) (r:ByteArray):b9.l0 k k s m c 0 [] 0 r true [] a=O_:=by
 obtain ⟨n,hn⟩:∃ q,k=q+1:=⟨k-1,by omega⟩
 have e:b9.l0 k (n+1) s m c 0 [] 0 r true [] a=O_:=by
  simp only [b9.l0,b9.b0]
  rw [fN,aJ,y8 hk (bad:=true) (by simp),IL]
  cases decide (0<c) <;> rfl
 rw [← hn] at e
 exact e
theorem xz {k:Nat} (hk:2 ^ 50≤k) {s:ByteArray} (hs:s.size≤1099511627776):b9.f k s=some ((lP s).1,((lP s).2,())):=by
 refine tA (fun v h1 h2=>?_) ?_
 · subst h2
   exact oT hk (nx:=v.1) (ids:=v.2.1) h1
 · unfold b9.f b9.t
   rw [mc hk hs,aX]
   have hu:=oQ s
   have hc:=nK s
   generalize h_ s=u at hu hc
   obtain ⟨t,m⟩:=u
   simp only [] at hu ⊢
   rcases ke t with ⟨a,t1,ha,e1⟩ | hb
   case inr =>
    rw [mY hk hb (by omega),aX]
    simp only []
    rw [xP hk (by omega),aX]
    simp only []
    rw [ua hk]
    exact .inr rfl
   have z1:t.size=(bp a).size+t1.size:=by rw [e1,aZ]
   rw [show aO.f k (t,(false,()))=some ((t1,(false,())),((a:Int),())) by rw [e1];exact fE hk ha (by omega),aX]
   simp only []
   rcases ke t1 with ⟨c,t2,hcl,e2⟩ | hb
   case inr =>
    rw [mY hk hb (by omega),aX]
    simp only []
    rw [ua hk]
    exact .inr rfl
   have z2:t1.size=(bp c).size+t2.size:=by rw [e2,aZ]
   rw [show aO.f k (t1,(false,()))=some ((t2,(false,())),((c:Int),())) by rw [e2];exact fE hk hcl (by omega),aX]
   simp only []
   rcases Dt hk (s:=s) m (a:Int) (c:Int) k t2 0 [] (by omega) (by omega) (by omega) (by omega) (by rw [List.length_nil];omega) with ⟨xs,r,g1,g2,g3⟩ | ⟨o,r,g⟩
   case inr=>rw [g,IL];exact .inr rfl
   rw [g3,List.nil_append]
   unfold OJ
   by_cases c2:m=0
   case pos=>rw [show (m==0)=true from beq_iff_eq.2 c2];exact .inr rfl
   rw [show (m==0)=false from pz c2,aJ]
   by_cases c1:m=(s.size:Int)
   case neg=>rw [show (m != (s.size:Int))=true from bne_iff_ne.2 c1];exact .inr rfl
   rw [show (m != (s.size:Int))=false by rw [c1];simp,aJ,aJ]
   cases c3:seq r ⟨#[]⟩ with
   | false=>exact .inr rfl
   | true =>
    rw [fN,aJ]
    cases c4:dl ((a:Int),(xs,())) with
    | false=>exact .inr rfl
    | true =>
     refine .inl ⟨((a:Int),(xs,())),c4,?_,rfl⟩
     have hr:=eE.1 c3
     subst hr
     rw [iO] at g1
     rcases hc with ⟨t',r',h1,h2,h3⟩ | ⟨h1,_⟩
     · obtain ⟨rfl,hm⟩:=Prod.mk.inj h3
       have hr':r'=⟨#[]⟩:=by
        have hsz:=congrArg ByteArray.size h2
        rw [aZ] at hsz
        have:r'.size=0:=by omega
        exact kJ (by
         have hn:=dW r'
         rw [this] at hn
         rw [List.length_eq_zero_iff.1 hn]
         rfl)
       rw [h2,hr',iO]
       show c_ ((a:Int),(xs,()))=aT t
       rw [show c_ ((a:Int),(xs,()))=aT (rN ((a:Int),(xs,()))) from if_pos c4]
       congr 1
       rw [e1,e2,g1]
       unfold rN
       simp only []
       rw [da ha,show (xs.length:Int)=(c:Int) by omega,da hcl]
     · exact absurd (Prod.mk.inj h1).2 c2
end Go.Proofs.YtbgnhoggngbhhaaGreatDoor.G
namespace Go.V
def Qk (n:Int):Prop := -999999999≤n∧n≤999999999
end Go.V
namespace Go.Proofs.YtbgnhoggngbhhaaGreatDoor.G
open Go.V
noncomputable def jH (s:ByteArray):Int × Bool:=pg Qk jl 0 s
theorem om (k:Nat) {s:ByteArray} (hs:s.size≤281474976710656):co.f k s=some ((jH s).1,((jH s).2,())):=by
 unfold co.f
 rw [aV hs,aa]
 refine tA (fun n h1 h2=>?_) ?_
 · obtain ⟨g0,g1⟩:=h1
   have he:s.data.toList=Go.Lib.itoa n:=by rw [← h2];unfold jl;rw [List.toList_toArray]
   rw [he,Kn (by omega) (by omega)]
   unfold co.r
   simp only []
   rw [show seq ⟨(Go.Lib.itoa n).toArray⟩ s=true from eE.2 h2,aV ⟨g0,g1⟩]
   rfl
 · cases Go.Lib.atoiAll s.data.toList with
   | ok v =>
    unfold co.r
    simp only []
    cases e:seq ⟨(Go.Lib.itoa v).toArray⟩ s&&decide (-999999999≤v∧v≤999999999) with
    | false=>exact .inr rfl
    | true =>
     rw [iA,decide_eq_true_eq] at e
     exact .inl ⟨v,e.2,eE.1 e.1,rfl⟩
   | _=>exact .inr rfl
theorem G9 {n:Int} (h:Qk n):jH (jl n)=(n,true):=Ch (fun _ _ _ _ e=>Ac e) h
def rR (s p:ByteArray):Bool:=decide (p.size≤s.size)&&seq (ByteArray.extract s 0 p.size) p
theorem NZ (s p:ByteArray):Go.Lib.hasPrefix s.data.toList p.data.toList=rR s p:=(Go.Lib.hasPrefix_raw s p).symm
theorem Nq {s p:ByteArray} (h:rR s p=true):p.size≤s.size:=by
 unfold rR at h
 rw [iA,decide_eq_true_eq] at h
 exact h.1
theorem Es (p t:ByteArray):rR (p++t) p=true:=by
 unfold rR
 rw [aV (by rw [ByteArray.size_append];omega),ye,bZ]
 rfl
theorem zE {s p:ByteArray} (h:rR s p=true):s=p++ByteArray.extract s p.size s.size:=by
 have hl:=Nq h
 unfold rR at h
 rw [iA] at h
 have e:=eE.1 h.2
 have:=vK s hl
 rw [e] at this
 exact this
theorem vi (k:Nat) (s p:ByteArray):iD.f k s p=some (bif rR s p then ByteArray.extract s p.size s.size else s,(rR s p,())):=by
 unfold iD.f Go.Lib.trimPrefix
 rw [NZ]
 cases rR s p with
 | false=>rfl
 | true =>
  have:(⟨(if true=true then List.drop p.data.toList.length s.data.toList else s.data.toList).toArray⟩:ByteArray)=ByteArray.extract s p.size s.size:=by
   rw [if_pos rfl]
   apply kJ
   rw [j7]
   unfold nb
   rw [List.toList_toArray,List.map_drop,Array.length_toList]
   rfl
  rw [this]
  rfl
def xj (l:List Int) (x:Int):Bool:=l.any fun y=>y==x
def bM:ByteArray:=⟨#[104,105,110,116]⟩
def Po (s:ByteArray) (n:Int):Prop:=1≤n∧n≤100000∧(s=aF++jl n∨s=bM++jl n)
theorem AP (a b:ByteArray):aF++a≠bM++b:=fun h=>by
 have:=congrArg nb h
 rw [gX,gX,show nb aF=[115,101,103] from rfl,show nb bM=[104,105,110,116] from rfl] at this
 simp at this
theorem NF {s:ByteArray} {n m:Int} (h:Po s n) (g:Po s m):n=m:=by
 rcases h.2.2 with h1 | h1 <;> rcases g.2.2 with g1 | g1
 · exact Ac (tu (h1.symm.trans g1))
 · exact absurd (h1.symm.trans g1) (AP _ _)
 · exact absurd (g1.symm.trans h1) (AP _ _)
 · exact Ac (tu (h1.symm.trans g1))
noncomputable def Mi (s:ByteArray):Int × Bool:=pg (Po s) (fun _=>s) 0 s
theorem MS (n:Int):0<(jl n).size:=by
 rw [← dW,pF]
 split
 · rw [jj];omega
 · rw [List.length_map]
   exact List.length_pos_iff.2 (qz _)
theorem CE (s:ByteArray) (n:Nat):(ByteArray.extract s n s.size).size=s.size-n:=by rw [← dW,j7,List.length_drop,dW]
noncomputable def BA (s p:ByteArray):Option (Int × Bool × Unit) :=
 bif rR s p&&((jH (ByteArray.extract s p.size s.size)).2&&decide ((1:Int)≤(jH (ByteArray.extract s p.size s.size)).1∧(jH (ByteArray.extract s p.size s.size)).1≤100000)) then some ((jH (ByteArray.extract s p.size s.size)).1,(true,())) else some (0,(false,()))
theorem MR {s p:ByteArray} (h:BA s p≠some (0,(false,()))):∃ n,1≤n∧n≤100000∧s=p++jl n∧BA s p=some (n,(true,())):=by
 unfold BA at h ⊢
 cases c:rR s p&&((jH (ByteArray.extract s p.size s.size)).2&&decide ((1:Int)≤(jH (ByteArray.extract s p.size s.size)).1∧(jH (ByteArray.extract s p.size s.size)).1≤100000)) with
 | false=>rw [c] at h;exact absurd rfl h
 | true =>
  simp only [iA,decide_eq_true_eq] at c
  obtain ⟨c1,c2,c3⟩:=c
  have e:jH (ByteArray.extract s p.size s.size)=((jH (ByteArray.extract s p.size s.size)).1,true):=by rw [← c2]
  have q:=yK e
  exact ⟨_,c3.1,c3.2,by rw [q.2];exact zE c1,rfl⟩
theorem M3 {p:ByteArray} {n:Int} (h0:1≤n) (h1:n≤100000):BA (p++jl n) p=some (n,(true,())):=by
 unfold BA
 rw [Es,show ByteArray.extract (p++jl n) p.size (p++jl n).size=jl n from gJ p (jl n),G9 ⟨by omega,by omega⟩]
 simp only []
 rw [aV ⟨h0,h1⟩]
 rfl
theorem JC (k:Nat) {s:ByteArray} (hs:s.size≤281474976710656):lW.f k s=some ((Mi s).1,((Mi s).2,())):=by
 have e:lW.f k s=bif rR s aF then BA s aF else BA s bM:=by
  unfold lW.f lW.t
  rw [show (⟨#[115,101,103]⟩:ByteArray)=aF from rfl,show (⟨#[104,105,110,116]⟩:ByteArray)=bM from rfl,vi,vi]
  simp only [aX]
  unfold BA
  have h3:=CE s aF.size
  have h4:=CE s bM.size
  cases rR s aF with
  | true =>
   simp only [fN,aJ,aa,Bool.true_and]
   rw [om k (by omega),aX]
   simp only [iQ k,aX]
   generalize jH (ByteArray.extract s aF.size s.size)=r
   cases r.2 <;> cases decide ((1:Int)≤r.1∧r.1≤100000) <;> rfl
  | false =>
   simp only [tR,aJ,aa]
   cases rR s bM with
   | true =>
    simp only [fN,aJ,aa,Bool.true_and]
    rw [om k (by omega),aX]
    simp only [iQ k,aX]
    generalize jH (ByteArray.extract s bM.size s.size)=r
    cases r.2 <;> cases decide ((1:Int)≤r.1∧r.1≤100000) <;> rfl
   | false =>
    simp only [tR,aJ,aa,Bool.false_and]
    rw [om k hs,aX]
 rw [e]
 refine tA (fun n h1 _=>?_) ?_
 · rcases h1.2.2 with q | q
   · rw [q,Es,aa,M3 h1.1 h1.2.1]
   · have hp:rR s aF=false:=by
      cases c:rR s aF with
      | false=>rfl
      | true=>exact absurd ((zE c).symm.trans q) (AP _ _)
     rw [hp,aJ,q,M3 h1.1 h1.2.1]
 · cases rR s aF with
   | true =>
    rw [aa]
    by_cases c:BA s aF=some (0,(false,()))
    · exact .inr c
    · obtain ⟨n,h0,h1,h2,h3⟩:=MR c
      exact .inl ⟨n,⟨h0,h1,.inl h2⟩,rfl,h3⟩
   | false =>
    rw [aJ]
    by_cases c:BA s bM=some (0,(false,()))
    · exact .inr c
    · obtain ⟨n,h0,h1,h2,h3⟩:=MR c
      exact .inl ⟨n,⟨h0,h1,.inr h2⟩,rfl,h3⟩
theorem FQ {k:Nat} (hk:2 ^ 50≤k) {l:List Int} (hl:l.length≤1099511627776) (x:Int):gK.f k l x=some (xj l x,()):=by
 unfold gK.f gK.t
 refine fe (L:=fun n i (_:Unit)=>gK.l0 k n x l l.length i) (R:=fun r _=>some (xj r x,())) (Ty.z (.int .i64)) l (fun _ _=>True) (fun n _ _=>?_) (fun n i _ y rest h0 h1 hx hr hp ih=>?_) (n:=k) (s:=()) (by omega) trivial
 · simp (disch:=omega) only [gK.l0,gK.b0,aY,aJ]
   rfl
 · have ih:=ih () trivial
   have e:xj (y::rest) x=((y==x)||xj rest x):=rfl
   simp (disch:=omega) only [gK.l0,gK.b0,aV h1,aa,aN,hx,aE,ih,e]
   cases y==x <;> rfl
def iH:ByteArray:=⟨#[116,101,109,112]⟩
noncomputable def p7 (ids:List Int) (f:Ty.d cE):Bool:=((Mi f.1).2&&!xj ids (Mi f.1).1)||seq f.1 iH
noncomputable def s5 (ids:List Int):bo→List ByteArray→List ByteArray
 | [],acc=>acc
 | f::l,acc=>s5 ids l (bif p7 ids f then acc++[f.1] else acc)
noncomputable def vP (d:Ty.d aA) (ids:List Int):List ByteArray:=bif j6 d then s5 ids d.1 [] else []
theorem JU {d:Ty.d aA} (h:j6 d=true):d.1.length≤130:=by
 unfold j6 at h
 rw [iA,decide_eq_true_eq] at h
 exact h.1
theorem FM {k:Nat} (hk:2 ^ 50≤k) {d:Ty.d aA} {v:Ty.d ch} (hu:di d.1≤1099511627776) (hn:tY d.1≤1099511627776) (hv:v.2.1.length≤1099511627776):fP.f k d v=some (vP d v.2.1,()):=by
 unfold fP.f fP.t vP
 rw [iG hk hu hn,aX]
 cases cd:j6 d with
 | false=>rfl
 | true =>
  have hl:=JU cd
  rw [fN,aJ,aa]
  refine fe (L:=fun n i s=>fP.l0 k n d.1 d.1.length i v.1 v.2.1 s) (R:=fun r s=>some (s5 v.2.1 r s,())) (Ty.z cE) d.1 (fun i s=>(s.length:Int)≤i) (fun n s hs=>?_) (fun n i s x rest h0 h1 hx hr hs ih=>?_) (n:=k) (s:=[]) (by omega) (by simp)
  · simp (disch:=omega) only [fP.l0,fP.b0,aY,aJ,s5]
  · have hm:x ∈ d.1:=by rw [← hx];exact fX (by omega)
    have hz:=wL hm
    have iY:=ih (s++[x.1]) (by rw [d8];omega)
    have iN:=ih s (by omega)
    simp (disch:=first | omega | decide) only [fP.l0,fP.b0,aV h1,aa,aN,hx,JC k,aX,FQ hk hv,bf,aE,iY,iN]
    rw [show s5 v.2.1 (x::rest) s=s5 v.2.1 rest (bif p7 v.2.1 x then s++[x.1] else s) from rfl,show (⟨#[116,101,109,112]⟩:ByteArray)=iH from rfl]
    unfold p7
    cases (Mi x.1).2 <;> cases xj v.2.1 (Mi x.1).1 <;> cases seq x.1 iH <;> rfl
theorem sE {k:Nat} (hk:2 ^ 50≤k) {l:List Int} (hl:l.length≤1073741824):dY.f k l=some (jT l,()):=by
 unfold dY.f dY.t
 refine (fe (L:=fun n i s=>dY.l0 k n s l l.length i) (R:=fun r s=>some (s++jT r,())) (Ty.z (.int .i64)) l (fun i s=>(s.size:Int)≤7*i) (fun n s hs=>?_) (fun n i s x rest g0 g1 hx hr hs ih=>?_) (n:=k) (s:=⟨#[]⟩) (by omega) (by decide)).trans (by rw [oE])
 · simp (disch:=omega) only [dY.l0,dY.b0,aY,aJ]
   rw [show jT []=⟨#[]⟩ from rfl,iO]
 · have hv:=bK x
   have ih:=ih (s++jX x) (by rw [aZ];omega)
   simp (disch:=omega) only [dY.l0,dY.b0,aV g1,aa,aN,hx,oq hk,aX,iz,aE,ih]
   rw [bg]
   rfl
theorem xi {k:Nat} (hk:2 ^ 50≤k) (v:Ty.d ch) (hl:v.2.1.length≤1073741824):ib.f k v=some (c_ v,()):=by
 unfold ib.f ib.t c_
 rw [rh hk (by omega),aX]
 cases c:dl v with
 | false=>rfl
 | true =>
  have a:=bK v.1
  have b:=bK (v.2.1.length:Int)
  have d:=rF v.2.1
  rw [fN,aJ,C2 hk,aX,sE hk hl,aX,if_pos rfl]
  simp only []
  rw [iz (by rw [aZ];omega),oG hk,aX,bg]
  rfl
theorem lz (k:Nat) (n:Int):dP.f k n=some (a_ bM n,()):=by
 unfold dP.f dP.t
 rw [show (⟨#[104,105,110,116]⟩:ByteArray)=bM from rfl,uc k (by decide) n]
 rfl
theorem FS (v:Ty.d ch):(c_ v).size≤1099511627776:=by
 unfold c_
 split
 · have:=m9 (rN v);omega
 · decide
theorem Fl {p:ByteArray} (hp:p=aF∨p=bM) (n:Int):(a_ p n).size≤1000:=by
 have hs:p.size≤4:=by rcases hp with q | q <;> rw [q] <;> decide
 unfold a_
 by_cases h:(1:Int)≤n∧n≤100000
 · have:=mw (n:=n) (by omega) (by omega)
   rw [aV h,aa,ByteArray.size_append]
   omega
 · rw [aY h,aJ];decide
abbrev RD:=Ty.d aA × Int
def eW (r:RD) (f:Ty.d aA→RD):RD:=bif r.2==0 then f r.1 else r
def gQ (c:Int):Int:=bif c==0 then 0 else bif c==1 then 1 else bif c==2 then 2 else 3
def wk (f:Ty.d aA→RD) (r:RD):RD:=bif r.2==0 then ((f r.1).1,gQ (f r.1).2) else r
def wO (r:RD):Ty.d an:=(r.1,(r.2,()))
def gP:ByteArray:=⟨#[108,105,118,101]⟩
def gF (s:ByteArray) (d:Ty.d aA):RD:=bif (bS d.1 s).isSome then xw d s else (d,0)
def aw (s:ByteArray) (d:Ty.d aA):RD:=eW (gF s d) fun x=>qX x s
def kv (s t:ByteArray) (d:Ty.d aA):RD:=eW (eW (aw s d) fun x=>jA x s t) fun x=>dS x s
def bB (v:Ty.d ch) (d:Ty.d aA):RD:=eW (kv iH (c_ v) d) fun x=>wB x iH gP
def bi:List ByteArray→Ty.d aA→RD
 | [],d=>(d,0)
 | s::l,d=>eW (gF s d) (bi l)
noncomputable def lk (ids:List Int) (d:Ty.d aA):RD:=bi (vP d ids) d
theorem hZ (c:Int):(gQ c==0)=(c==0):=by
 unfold gQ
 cases h:c==0 with
 | true=>rfl
 | false =>
  cases c==1
  · cases c==2 <;> rfl
  · rfl
theorem ql (f g:Ty.d aA→RD) (r:RD):wk (fun x=>eW (f x) g) r=wk g (wk f r):=by
 unfold wk eW
 cases h:r.2==0 with
 | false=>simp only [aJ,h]
 | true =>
  simp only [aa,hZ]
  cases (f r.1).2==0 <;> rfl
theorem Cd (r:RD):wk (fun d=>(d,0)) r=r:=by
 unfold wk
 cases h:r.2==0 with
 | false=>rfl
 | true=>exact Prod.ext rfl (by show gQ 0=r.2;rw [C9 h];rfl)
theorem jN {r:RD} {f:Ty.d aA→RD} (h:DR r.1) (hf:∀ x,DR x→DR (f x).1):DR (eW r f).1:=by
 unfold eW
 cases r.2==0
 · exact h
 · exact hf _ h
theorem rM {r:RD} {f:Ty.d aA→RD} (h:DR r.1) (hf:∀ x,DR x→DR (f x).1):DR (wk f r).1:=by
 unfold wk
 cases r.2==0
 · exact h
 · exact hf _ h
theorem nP (s:ByteArray) (d:Ty.d aA) (h:DR d):DR (gF s d).1:=by
 unfold gF
 cases (bS d.1 s).isSome
 · exact h
 · exact KU h s
theorem j3 (s:ByteArray) (d:Ty.d aA) (h:DR d):DR (aw s d).1:=jN (nP s d h) fun x hx=>HJ hx s
theorem jh (s t:ByteArray) (d:Ty.d aA) (h:DR d):DR (kv s t d).1:=jN (jN (j3 s d h) fun x hx=>qm hx s t) fun x hx=>md hx s
theorem m3 (v:Ty.d ch) (d:Ty.d aA) (h:DR d):DR (bB v d).1:=jN (jh _ _ d h) fun x hx=>Ky hx _ _
theorem jv:∀ (l:List ByteArray) (d:Ty.d aA),DR d→DR (bi l d).1
 | [],d,h=>h
 | s::l,d,h=>jN (nP s d h) (jv l)
theorem KJ (ids:List Int) (d:Ty.d aA) (h:DR d):DR (lk ids d).1:=jv _ d h
theorem JW {l:bo} {s:ByteArray}:decide (nu l s 0≥0)=(bS l s).isSome:=by
 rcases kw l s 0 with ⟨h1,h2,_⟩ | ⟨n,h1,h2,h3,_⟩
 · rw [h1,h2];rfl
 · rw [h2,h3,aV (by omega)];rfl
theorem EH (ids:List Int):∀ (l:bo) (acc:List ByteArray),s5 ids l acc=acc++(l.filter (p7 ids)).map (·.1)
 | [],acc=>by unfold s5;simp
 | f::l,acc=>by
  unfold s5
  rw [EH ids l]
  cases c:p7 ids f
  · rw [aJ,List.filter_cons_of_neg (by rw [c];decide)]
  · rw [aa,List.filter_cons_of_pos c,List.map_cons,nw];rfl
theorem M0 {d:Ty.d aA} (ids:List Int):(vP d ids).Sublist (lH d.1):=by
 unfold vP
 cases j6 d
 · exact List.nil_sublist _
 · rw [aa,EH,List.nil_append]
   exact (List.filter_sublist).map _
theorem yP {l:bo} {s t:ByteArray} (h:t≠s):bS (gR l s) t=bS l t:=by
 induction l with
 | nil=>rfl
 | cons g l ih =>
  unfold gR
  cases c:seq g.1 s with
  | true =>
   rw [aa,bS.eq_2,kE (fun q=>h (by rw [← q,eE.1 c])),aJ]
  | false =>
   rw [aJ,bS.eq_2,bS.eq_2,ih]
theorem F5 (k:Nat) (c:Int):mG.f k c=some (gQ c,()):=by
 unfold mG.f mG.t gQ
 cases c==0 <;> cases c==1 <;> cases c==2 <;> rfl
theorem sr (k:Nat) (w:Ty.d an) (d:Ty.d aA) (c:Int):az.f k w d c=some ((d,(gQ c,())),()):=by
 unfold az.f az.t
 rw [F5,aX]
theorem CQ {k:Nat} (hk:2 ^ 50≤k) (r:RD) (h:DR r.1) {s:ByteArray} (hs:s.size≤1099511627776):dQ.f k (wO r) s=some (wO (wk (fun x=>qX x s) r),()):=by
 unfold dQ.f dQ.t wk wO
 simp only []
 cases c:r.2==0 with
 | false=>rfl
 | true=>rw [aa,aa,HR hk h.sz hs,aX,sr,aX]
theorem wv {k:Nat} (hk:2 ^ 50≤k) (r:RD) (h:DR r.1) (s:ByteArray) {t:ByteArray} (ht:t.size≤1099511627776):cT.f k (wO r) s t=some (wO (wk (fun x=>jA x s t) r),()):=by
 unfold cT.f cT.t wk wO
 simp only []
 cases c:r.2==0 with
 | false=>rfl
 | true=>rw [aa,aa,H6 hk h.sz s ht,aX,sr,aX]
theorem oK {k:Nat} (hk:2 ^ 50≤k) (r:RD) (h:DR r.1) (s:ByteArray):bL.f k (wO r) s=some (wO (wk (fun x=>dS x s) r),()):=by
 unfold bL.f bL.t wk wO
 simp only []
 cases c:r.2==0 with
 | false=>rfl
 | true=>rw [aa,aa,GW hk h.sz s,aX,sr,aX]
theorem KG {k:Nat} (hk:2 ^ 50≤k) (r:RD) (h:DR r.1) (a:ByteArray) {b:ByteArray} (hb:b.size≤1099511627776):eR.f k (wO r) a b=some (wO (wk (fun x=>wB x a b) r),()):=by
 unfold eR.f eR.t wk wO
 simp only []
 cases c:r.2==0 with
 | false=>rfl
 | true=>rw [aa,aa,Gv hk h.sz a hb,aX,sr,aX]
theorem m4 {k:Nat} (hk:2 ^ 50≤k) (r:RD) (h:DR r.1) (s:ByteArray):bD.f k (wO r) s=some (wO (wk (gF s) r),()):=by
 have hl:=h.sz.l
 unfold bD.f bD.t wk wO gF
 simp only []
 cases c:r.2==0 with
 | false=>rfl
 | true =>
  rw [aa,aa,jJ hk (by omega),aX]
  simp only [JW]
  cases (bS r.1.1 s).isSome with
  | true=>rw [aa,aa,H4 hk h.sz s,aX,sr,aX]
  | false =>
   simp only [aJ]
   rw [C9 c]
   rfl
theorem qa {k:Nat} (hk:2 ^ 50≤k) (r:RD) (h:DR r.1) {s:ByteArray} (hs:s.size≤1099511627776):ck.f k (wO r) s=some (wO (wk (aw s) r),()):=by
 unfold ck.f ck.t
 rw [m4 hk r h,aX]
 simp only []
 rw [CQ hk _ (rM h (nP s)) hs,aX,← ql]
 rfl
theorem AD {k:Nat} (hk:2 ^ 50≤k) (r:RD) (h:DR r.1) {s t:ByteArray} (hs:s.size≤1099511627776) (ht:t.size≤1099511627776):dO.f k (wO r) s t=some (wO (wk (kv s t) r),()):=by
 unfold dO.f dO.t
 rw [qa hk r h hs,aX]
 simp only []
 have h1:=rM (r:=r) h (j3 s)
 rw [wv hk _ h1 s ht,aX]
 simp only []
 rw [oK hk _ (rM h1 fun x hx=>qm hx s t) s,aX,← ql (aw s) (fun x=>jA x s t),← ql]
 rfl
theorem pc {k:Nat} (hk:2 ^ 50≤k) (r:RD) (h:DR r.1) {v:Ty.d ch} (hv:v.2.1.length≤1073741824):cG.f k (wO r) v=some (wO (wk (bB v) r),()):=by
 unfold cG.f cG.t
 rw [xi hk v hv,aX,show (⟨#[116,101,109,112]⟩:ByteArray)=iH from rfl,show (⟨#[108,105,118,101]⟩:ByteArray)=gP from rfl]
 simp only []
 rw [AD hk r h (s:=iH) (t:=c_ v) (by decide) (FS v),aX]
 simp only []
 rw [KG hk _ (rM h (jh _ _)) iH (b:=gP) (by decide),aX,← ql]
 rfl
theorem y9 (s:ByteArray) (l:List ByteArray) (r:RD):wk (bi (s::l)) r=wk (bi l) (wk (gF s) r):=ql (gF s) (bi l) r
theorem za {k:Nat} (hk:2 ^ 50≤k) (r:RD) (h:DR r.1) {v:Ty.d ch} (hv:v.2.1.length≤1099511627776):ag.f k (wO r) v=some (wO (wk (lk v.2.1) r),()):=by
 have hu:=h.sz.u
 have hn:=h.sz.n
 have hlen:=(M0 (d:=r.1) v.2.1).length_le
 have hl:=h.len
 unfold lH at hlen
 rw [List.length_map] at hlen
 unfold ag.f ag.t
 rw [show (wO r).1=r.1 from rfl,FM hk (by omega) (by omega) hv,aX]
 simp only []
 have key:∀ l:List ByteArray,l.length≤1000→ag.l0 k k l.length 0 r.1.1 r.1.2.1 r.1.2.2.1 r.1.2.2.2.1 r.2 l=some (wO (wk (bi l) r),()):=fun l hl=>by
  refine fe (L:=fun n i (x:RD)=>ag.l0 k n l.length i x.1.1 x.1.2.1 x.1.2.2.1 x.1.2.2.2.1 x.2 l) (R:=fun q x=>some (wO (wk (bi q) x),())) (Ty.z .str) l (fun i x=>DR x.1) (fun n x hx=>?_) (fun n i x y rest h0 h1 hy hr hx ih=>?_) (n:=k) (s:=r) (by omega) h
  · simp only [ag.l0,ag.b0]
    rw [aY (by omega),aJ,show bi []=fun d=>(d,0) from rfl,Cd]
    rfl
  · simp only [ag.l0,ag.b0]
    rw [aV h1,aa,aN h0 h1,hy,show ((x.1.1,(x.1.2.1,(x.1.2.2.1,(x.1.2.2.2.1,())))),(x.2,()))=wO x from rfl,m4 hk x hx,aX,aE (n:=i+1) (by omega) (by omega),y9]
    exact ih (wk (gF y) x) (rM hx (nP y))
 rw [show (wO r).2.1=r.2 from rfl]
 rw [key (vP r.1 v.2.1) (by omega)]
 unfold wk lk
 rfl
theorem xh {k:Nat} (hk:2 ^ 50≤k) (r:RD) (h:DR r.1) {l:List ByteArray} (hl:l.length≤1000):ae.f k (wO r) l =
 some (wO (bif r.2==2 then ((bi l r.1).1,bif (bi l r.1).2==0 then 2 else gQ (bi l r.1).2) else r),()):=by
 unfold ae.f ae.t
 rw [show (wO r).2.1=r.2 from rfl]
 simp only [bne]
 cases c:r.2==2 with
 | false=>rfl
 | true =>
  simp only [fN,aJ,aa]
  have e2:r.2=2:=C9 c
  have key:∀ (n:Nat) (i:Int) (x:RD),0≤i→i≤(l.length:Int)→(l.length:Int)-i<n→DR x.1→ae.l1 k n l l.length i r.1.2.1 r.1.2.2.1 r.1.2.2.2.1 2 x.1.1 x.1.2.1 x.1.2.2.1 x.1.2.2.2.1 x.2 =
   some (wO (bif (wk (bi (l.drop i.toNat)) x).2==0 then ((wk (bi (l.drop i.toNat)) x).1,2) else wk (bi (l.drop i.toNat)) x),()):=fun n i x h0 h1 h2 hx=>by
   refine Oo (L:=fun n i (x:RD)=>ae.l1 k n l l.length i r.1.2.1 r.1.2.2.1 r.1.2.2.2.1 2 x.1.1 x.1.2.1 x.1.2.2.1 x.1.2.2.2.1 x.2) (R:=fun q x=>some (wO (bif (wk (bi q) x).2==0 then ((wk (bi q) x).1,2) else wk (bi q) x),())) (Ty.z .str) l (fun i x=>DR x.1) (fun n x hx=>?_) (fun n i x y rest h0 h1 hy hr hx ih=>?_) n i x h0 h1 h2 hx
   · simp only [ae.l1,ae.b1]
     rw [aY (by omega),aJ,show bi []=fun d=>(d,0) from rfl,Cd]
     simp only [bne]
     cases x.2==0 <;> rfl
   · simp only [ae.l1,ae.b1]
     rw [aV h1,aa,aN h0 h1,hy,show ((x.1.1,(x.1.2.1,(x.1.2.2.1,(x.1.2.2.2.1,())))),(x.2,()))=wO x from rfl,m4 hk x hx,aX,aE (n:=i+1) (by omega) (by omega),y9]
     exact ih (wk (gF y) x) (rM hx (nP y))
  obtain ⟨q,hq⟩:∃ q,k=q+1:=⟨k-1,by omega⟩
  have fin:ae.l0 k (q+1) l l.length 0 r.1.1 r.1.2.1 r.1.2.2.1 r.1.2.2.2.1 2 r.1.2.1 r.1.2.2.1 r.1.2.2.2.1 0=some (wO (bif (wk (bi l) (r.1,0)).2==0 then ((wk (bi l) (r.1,0)).1,2) else wk (bi l) (r.1,0)),()):=by
   have k1:=key (q+1+1) 0 (r.1,0) (by omega) (by omega) (by omega) h
   rw [show l.drop (0:Int).toNat=l from rfl] at k1
   refine Eq.trans ?_ k1
   simp only [ae.l0,ae.b0,ae.l1,ae.b1]
   by_cases hz:(0:Int)<(l.length:Int)
   · rw [aV hz,aa,aa,aN (by omega) hz,aN (by omega) hz]
     have e1:bD.f k ((r.1.1,(r.1.2.1,(r.1.2.2.1,(r.1.2.2.2.1,())))),(0,())) (List.getD l (Int.toNat 0) (Ty.z .str))=_:=m4 hk (r.1,0) h (List.getD l (Int.toNat 0) (Ty.z .str))
     rw [e1,aX,aX,aE (n:=(0:Int)+1) (by omega) (by omega)]
     have d1:=rM (r:=((r.1,0):RD)) h (nP (List.getD l (Int.toNat 0) (Ty.z .str)))
     have a1:=key q 1 (wk (gF (List.getD l (Int.toNat 0) (Ty.z .str))) (r.1,0)) (by omega) (by omega) (by omega) d1
     have a2:=key (q+1) 1 (wk (gF (List.getD l (Int.toNat 0) (Ty.z .str))) (r.1,0)) (by omega) (by omega) (by omega) d1
     exact a1.trans a2.symm
   · rw [aY hz,aJ,aJ]
  rw [show (wO r).1=r.1 from rfl,e2]
  have fin2:ae.l0 k k l l.length 0 r.1.1 r.1.2.1 r.1.2.2.1 r.1.2.2.2.1 2 r.1.2.1 r.1.2.2.1 r.1.2.2.2.1 0=_:=(congrArg (fun z=>ae.l0 k z l l.length 0 r.1.1 r.1.2.1 r.1.2.2.1 r.1.2.2.2.1 2 r.1.2.1 r.1.2.2.1 r.1.2.2.2.1 0) hq).trans fin
  rw [fin2]
  unfold wk
  simp only [beq_self_eq_true,aa,hZ]
  cases c3:(bi l r.1).2==0 <;> rfl
abbrev jM:=List (Ty.d ba)
def gp (kind batch:Int) (l:jM):Ty.d ba:=(kind,(batch,(ByteArray.empty,(ByteArray.empty,((l.length:Int),(Ez l,()))))))
abbrev du:=List (Ty.d aL)
def eT (s:ByteArray):Bool:=decide (1≤(s.size:Int)∧(s.size:Int)≤8)
def cI (p:Ty.d aL):Ty.d ba:=(4,(p.2.2.1,(p.1,(p.2.1,(0,(0,()))))))
def fI (l:du) (mark:Int):jM:=l.map cI++[gp 5 mark (l.map cI)]
theorem Dk {k:Nat} (hk:2 ^ 50≤k) {l:du} (hl:l.length≤1073741823) (mark:Int):i8.f k l mark=some (fI l mark,()):=by
 unfold i8.f i8.t
 refine (fe (L:=fun n i s=>i8.l0 k n l mark l l.length i s) (R:=fun r s=>some (s++r.map cI++[gp 5 mark (s++r.map cI)],())) (Ty.z aL) l (fun i s=>(s.length:Int)=i) (fun n s hs=>?_) (fun n i s x rest h0 h1 hx hr hp ih=>?_) (n:=k) (s:=[]) (by omega) (by decide)).trans (by rw [List.nil_append];rfl)
 · simp (disch:=first | omega | decide) only [i8.l0,i8.b0,aY,aJ,qu hk,aX,bf,List.map_nil,List.append_nil,gp,hs]
 · have ih:=ih (s++[cI x]) (by rw [py];show ((s.length+1:Nat):Int)=_;omega)
   simp (disch:=first | omega | decide) only [i8.l0,i8.b0,aV,aa,aN,hx,bf,aE]
   refine ih.trans ?_
   simp only [List.map_cons,nw,List.cons_append,List.nil_append]
def aU:jM→ByteArray
 | []=>⟨#[]⟩
 | r::l=>aT (aI r)++aU l
theorem uy:∀ l:jM,(aU l).size≤211*l.length
 | []=>Nat.le_refl _
 | r::l=>by
  have h1:=m9 (aI r)
  have h2:=uy l
  rw [aU,aZ,jj]
  omega
theorem nU:∀ l m:jM,aU (l++m)=aU l++aU m
 | [],m=>by rw [List.nil_append,aU,oE]
 | r::l,m=>by rw [List.cons_append,aU,nU l m,aU,bg]
abbrev aS:=List (Ty.d aB)
noncomputable def iU (s:ByteArray) (i n:Int):Ty.d ba × Bool :=
 if 0≤i∧i≤s.size∧1≤n∧n≤s.size-i then (if (h_ (ByteArray.extract s i.toNat (i+n).toNat)).2=n then iw (h_ (ByteArray.extract s i.toNat (i+n).toNat)).1 else (vT,false)) else (vT,false)
theorem OR (s:ByteArray) (i j:Nat):(ByteArray.extract s i j).size≤s.size:=by
 rw [← dW,uI,List.length_drop,List.length_take,dW];omega
theorem vh {k:Nat} (hk:2 ^ 50≤k) {s:ByteArray} (i n:Int) (hs:s.size≤1099511627775):jc.f k s i n=some ((iU s i n).1,((iU s i n).2,())):=by
 unfold jc.f jc.t iU
 rw [vE,aX]
 by_cases c1:0≤i∧i≤s.size
 case neg=>rw [aY c1,if_neg (fun h=>c1 ⟨h.1,h.2.1⟩)];rfl
 rw [aV c1,fN,aJ,vE,aX,aE (by omega) (by omega)]
 by_cases c2:0≤n∧n≤s.size-i
 case neg=>rw [aY c2,if_neg (fun h=>c2 ⟨by omega,h.2.2.2⟩)];rfl
 have hz:=OR s i.toNat (i+n).toNat
 have hu:=oQ (ByteArray.extract s i.toNat (i+n).toNat)
 have hsz:(ByteArray.extract s i.toNat (i+n).toNat).size≤(i+n).toNat-i.toNat:=by rw [← dW,uI,List.length_drop,List.length_take];omega
 rw [aV c2,fN,aJ,aE (by omega) (by omega),yM (by omega) (by omega) (by omega),mc hk (by omega),aX]
 simp only []
 by_cases c0:(h_ (ByteArray.extract s i.toNat (i+n).toNat)).2=0
 · rw [show ((h_ (ByteArray.extract s i.toNat (i+n).toNat)).2==0)=true by rw [c0];rfl,aa]
   split
   · rename_i h
     rw [if_neg (by omega)]
   · rfl
 · rw [show ((h_ (ByteArray.extract s i.toNat (i+n).toNat)).2==0)=false from pz c0,aJ,if_pos ⟨c1.1,c1.2,by omega,c2.2⟩]
   by_cases c3:(h_ (ByteArray.extract s i.toNat (i+n).toNat)).2=n
   · rw [if_pos c3]
     simp only [show ((h_ (ByteArray.extract s i.toNat (i+n).toNat)).2 != n)=false by rw [c3];simp,aJ]
     rw [s6 hk (by omega),aX]
   · rw [if_neg c3]
     simp only [show ((h_ (ByteArray.extract s i.toNat (i+n).toNat)).2 != n)=true from bne_iff_ne.2 c3,aa]
def ug (p:Option (Ty.d aB)) (x:Ty.d aB):Bool :=
 eT x.1&&(decide ((1:Int)≤x.2.1∧x.2.1≤100000)&&(!decide (x.2.2.1<(0:Int))&&(decide ((1:Int)≤x.2.2.2.1∧x.2.2.2.1≤210)&&(decide ((1:Int)≤x.2.2.2.2.1∧x.2.2.2.2.1≤1000000)&&(match p with | none=>true | some y=>nT y.1 x.1)))))
def tL (l:aS):Bool:=decide ((l.length:Int)≤20)&&pR ug none l
theorem AK {k:Nat} (hk:2 ^ 50≤k) {l:aS} (hl:l.length≤1099511627776):eD.f k l=some (tL l,()):=by
 unfold eD.f eD.t tL
 refine (wo (L:=fun n i=>eD.l0 k n l l l.length i) (Ty.z aB) l ug (some (decide ((l.length:Int)≤20),())) (some (false,())) (fun n=>?_) (fun n x h hx=>?_) (fun n i x y h0 h1 hx hy=>?_) (n:=k) (by omega)).trans (by cases pR ug none l <;> cases decide ((l.length:Int)≤20) <;> rfl)
 · simp (disch:=omega) only [eD.l0,eD.b0,aY (show ¬ (l.length:Int)<(l.length:Int) by omega),aJ]
 · simp (disch:=omega) only [eD.l0,eD.b0,aV (show (0:Int)<(l.length:Int) by omega),aa,aN,hx,kN k,iQ k,aX,aY (show ¬ (0:Int) > 0 by omega),aJ,aE,ug,eT]
   cases decide (1≤(x.1.size:Int)∧(x.1.size:Int)≤8) <;> cases decide ((1:Int)≤x.2.1∧x.2.1≤100000) <;> cases decide (x.2.2.1<(0:Int)) <;> cases decide ((1:Int)≤x.2.2.2.1∧x.2.2.2.1≤210) <;> cases decide ((1:Int)≤x.2.2.2.2.1∧x.2.2.2.2.1≤1000000) <;> rfl
 · simp (disch:=omega) only [eD.l0,eD.b0,aV h1,aa,aN,hx,hy,kN k,iQ k,aX,aV (show i > 0 by omega),aJ,aE,ug,eT]
   cases decide (1≤(x.1.size:Int)∧(x.1.size:Int)≤8) <;> cases decide ((1:Int)≤x.2.1∧x.2.1≤100000) <;> cases decide (x.2.2.1<(0:Int)) <;> cases decide ((1:Int)≤x.2.2.2.1∧x.2.2.2.1≤210) <;> cases decide ((1:Int)≤x.2.2.2.2.1∧x.2.2.2.2.1≤1000000) <;> cases nT y.1 x.1 <;> rfl
def qp:aS→ByteArray→Option (Ty.d aB)
 | [],_=>none
 | e::l,s=>bif seq e.1 s then some e else qp l s
def Om:Ty.d aB:=(ByteArray.empty,(0,(0,(0,(0,())))))
def JJ:Option (Ty.d aB)→Option (Ty.d aB × Bool × Unit)
 | none=>some (Om,(false,()))
 | some e=>some (e,(true,()))
theorem Ao {k:Nat} (hk:2 ^ 50≤k) {l:aS} (hl:l.length≤1099511627776) (s:ByteArray):gM.f k l s=JJ (qp l s):=by
 unfold gM.f gM.t
 refine fe (L:=fun n i (_:Unit)=>gM.l0 k n l s i ByteArray.empty 0 0 0 0) (R:=fun r _=>JJ (qp r s)) (Ty.z aB) l (fun _ _=>True) (fun n _ _=>?_) (fun n i _ x rest h0 h1 hx hr hp ih=>?_) (n:=k) (s:=()) (by omega) trivial
 · simp (disch:=omega) only [gM.l0,gM.b0,aY,aJ,qp]
   rfl
 · have ih:=ih () trivial
   simp (disch:=omega) only [gM.l0,gM.b0,aV h1,aa,aN,hx,aE,ih,qp]
   cases seq x.1 s <;> rfl
theorem tZ {k:Nat} (hk:2 ^ 50≤k) {l:aS} (hl:l.length≤1099511627776) (s:ByteArray):fD.f k l s=JJ (qp l s):=by
 unfold fD.f fD.t
 refine fe (L:=fun n i (_:Unit)=>fD.l0 k n s l l.length i ByteArray.empty 0 0 0 0) (R:=fun r _=>JJ (qp r s)) (Ty.z aB) l (fun _ _=>True) (fun n _ _=>?_) (fun n i _ x rest h0 h1 hx hr hp ih=>?_) (n:=k) (s:=()) (by omega) trivial
 · simp (disch:=omega) only [fD.l0,fD.b0,aY,aJ,qp]
   rfl
 · have ih:=ih () trivial
   simp (disch:=omega) only [fD.l0,fD.b0,aV h1,aa,aN,hx,aE,ih,qp]
   cases seq x.1 s <;> rfl
def O8:Ty.d aL:=(ByteArray.empty,(ByteArray.empty,(0,())))
noncomputable def dc (d:Ty.d aA) (e:Ty.d aB):Ty.d ba × Bool:=iU (bG d (a_ aF e.2.1)).1 e.2.2.1 e.2.2.2.1
noncomputable def rG (l:aS) (d:Ty.d aA) (key:ByteArray):Ty.d aL × Int :=
 match qp l key with
 | none=>(O8,8)
 | some e=>bif (dc d e).2&&(seq (dc d e).1.2.2.1 key&&(((dc d e).1.1==1)||((dc d e).1.1==4))) then ((key,((dc d e).1.2.2.2.1,((dc d e).1.2.1,()))),0) else (O8,3)
theorem Ed (i n:Int):iU ⟨#[]⟩ i n=(vT,false):=by
 unfold iU
 rw [if_neg]
 rintro ⟨h1,h2,h3,h4⟩
 have:((⟨#[]⟩:ByteArray).size:Int)=0:=rfl
 omega
theorem Np {d:Ty.d aA} {s:ByteArray} (h:(bG d s).2=false):(bG d s).1=⟨#[]⟩:=by
 unfold bG at h ⊢
 generalize j6 d=b at h ⊢
 generalize bS d.1 s=o at h ⊢
 cases b <;> cases o <;> first | rfl | cases h
theorem yU {k:Nat} (hk:2 ^ 50≤k) {st:Ty.d aD} {d:Ty.d aA} (hd:ED d) (hl:st.2.1.length≤1099511627776) (key:ByteArray):ll.f k st d key=some ((rG st.2.1 d key).1,((rG st.2.1 d key).2,())):=by
 have:=hd.l;have:=hd.u;have:=hd.n
 unfold ll.f ll.t rG
 rw [tZ hk hl]
 cases qp st.2.1 key with
 | none=>rfl
 | some e =>
  unfold JJ
  have hz:=lA d (a_ aF e.2.1)
  simp only [aX,fN,aJ,cX k]
  rw [jQ hk (by omega) (by omega) (by omega),aX]
  simp only []
  rw [vh hk _ _ (by omega),aX]
  change (bif !(dc d e).2 then _ else bif !((dc d e).1.1==1) then bif !((dc d e).1.1==4) then _ else bif !seq (dc d e).1.2.2.1 key then _ else some (((dc d e).1.2.2.1,((dc d e).1.2.2.2.1,((dc d e).1.2.1,()))),(0,())) else bif !seq (dc d e).1.2.2.1 key then _ else some (((dc d e).1.2.2.1,((dc d e).1.2.2.2.1,((dc d e).1.2.1,()))),(0,())))=_
  cases c:(dc d e).2 with
  | false=>rfl
  | true =>
   cases q:seq (dc d e).1.2.2.1 key with
   | false=>cases ((dc d e).1.1==1) <;> cases ((dc d e).1.1==4) <;> rfl
   | true =>
    rw [eE.1 q]
    cases ((dc d e).1.1==1) <;> cases ((dc d e).1.1==4) <;> rfl
noncomputable def pE (l:aS) (d:Ty.d aA):List ByteArray→du→du × Int
 | [],acc=>(acc,0)
 | key::r,acc=>bif (rG l d key).2 != 0 then ([],(rG l d key).2) else pE l d r (acc++[(rG l d key).1])
noncomputable def bX (l:aS) (d:Ty.d aA):du × Int:=pE l d (l.map (·.1)) []
theorem BG (l:aS) (d:Ty.d aA):∀ (r:List ByteArray) (acc:du),(pE l d r acc).1.length≤acc.length+r.length
 | [],acc=>Nat.le_refl _
 | key::r,acc=>by
  unfold pE
  cases (rG l d key).2 != 0 with
  | true=>exact Nat.zero_le _
  | false =>
   have:=BG l d r (acc++[(rG l d key).1])
   rw [d8] at this
   rw [aJ,jj]
   omega
theorem sk (l:aS) (d:Ty.d aA):(bX l d).1.length≤l.length:=by
 have:=BG l d (l.map (·.1)) []
 rw [List.length_map,List.length_nil] at this
 unfold bX
 omega
theorem xN {k:Nat} (hk:2 ^ 50≤k) {l:aS} (hl:l.length≤1099511627775):dq.f k l=some (l.map (·.1),()):=by
 unfold dq.f dq.t
 refine fe (L:=fun n i s=>dq.l0 k n l l.length i s) (R:=fun r s=>some (s++r.map (·.1),())) (Ty.z aB) l (fun i s=>(s.length:Int)=i) (fun n s hs=>?_) (fun n i s x rest h0 h1 hx hr hp ih=>?_) (n:=k) (s:=[]) (by omega) rfl
 · simp (disch:=omega) only [dq.l0,dq.b0,aY,aJ,List.map_nil,List.append_nil]
 · have ih:=ih (s++[x.1]) (by rw [d8];omega)
   simp (disch:=first | omega | decide) only [dq.l0,dq.b0,aV h1,aa,aN,hx,bf,aE,ih,List.map_cons]
   rw [nw]
   rfl
theorem F2 {k:Nat} (hk:2 ^ 50≤k) {st:Ty.d aD} {d:Ty.d aA} (hd:ED d) (hl:st.2.1.length≤1099511627775):ir.f k st d=some ((bX st.2.1 d).1,((bX st.2.1 d).2,())):=by
 unfold ir.f ir.t bX
 rw [xN hk hl,aX]
 have hm:(st.2.1.map (·.1)).length=st.2.1.length:=List.length_map ..
 refine fe (L:=fun n i s=>ir.l0 k n (st.2.1.map (·.1)).length i st.1.1 st.1.2.1 st.2.1 st.2.2.1 st.2.2.2.1 st.2.2.2.2.1 d.1 d.2.1 d.2.2.1 d.2.2.2.1 s (st.2.1.map (·.1))) (R:=fun r s=>some ((pE st.2.1 d r s).1,((pE st.2.1 d r s).2,()))) (Ty.z .str) (st.2.1.map (·.1)) (fun i s=>(s.length:Int)=i) (fun n s hs=>?_) (fun n i s x rest h0 h1 hx hr hp ih=>?_) (n:=k) (s:=[]) (by omega) rfl
 · simp (disch:=omega) only [ir.l0,ir.b0,aY,aJ,pE]
 · have hg:=yU hk (st:=st) (d:=d) hd (by omega) x
   have ih:=ih (s++[(rG st.2.1 d x).1]) (by rw [d8];omega)
   simp (disch:=first | omega | decide) only [ir.l0,ir.b0,aV h1,aa,aN,hx,hg,aX,bf,aE,ih,pE]
   cases (rG st.2.1 d x).2 != 0 <;> rfl
noncomputable def IE (d:Ty.d aA) (tail:Int) (x:Int) (last:Bool):Bool :=
 (bG d (a_ aF x)).2&&(decide ((bx (bG d (a_ aF x)).1).2=((bG d (a_ aF x)).1.size:Int))&&(!last||(tail==((bG d (a_ aF x)).1.size:Int))))
noncomputable def pf (d:Ty.d aA) (tail:Int):List Int→Bool
 | []=>true
 | x::l=>IE d tail x l.isEmpty&&pf d tail l
noncomputable def pI (d:Ty.d aA) (next:Int) (e:Ty.d aB):Bool :=
 (dc d e).2&&(seq (dc d e).1.2.2.1 e.1&&(((dc d e).1.2.1==e.2.2.2.2.1)&&((((dc d e).1.1==1)||((dc d e).1.1==4))&&!decide (e.2.2.2.2.1≥next))))
noncomputable def dj (st:Ty.d aD) (d:Ty.d aA):Bool :=
 j6 d&&(dl st.1&&(tL st.2.1&&(decide ((1:Int)≤st.2.2.1∧st.2.2.1≤1000001)&&(pf d st.2.2.2.1 st.1.2.1&&st.2.1.all (pI d st.2.2.1)))))
theorem EL {α:Type} {l:List α} {i:Int} {x:α} {rest:List α} (h0:0≤i) (h:l.drop i.toNat=x::rest):rest.isEmpty=decide (i+1=(l.length:Int)):=by
 have:=congrArg List.length h
 rw [List.length_drop,jj] at this
 cases rest with
 | nil=>rw [aV (by rw [List.length_nil] at this;omega)];rfl
 | cons y r=>rw [aY (by rw [jj] at this;omega)];rfl
theorem ub {k:Nat} (hk:2 ^ 50≤k) {st:Ty.d aD} {d:Ty.d aA} (hd:ED d) (hv:st.1.2.1.length≤1099511627776) (hw:st.2.1.length≤1099511627776):cW.f k st d=some (dj st d,()):=by
 have:=hd.l;have:=hd.u;have:=hd.n
 unfold cW.f cW.t dj
 rw [iG hk (by omega) (by omega),aX]
 cases j6 d with
 | false=>rfl
 | true =>
  rw [fN,aJ,rh hk hv,aX,Bool.true_and]
  cases cl:dl st.1 with
  | false=>rfl
  | true =>
   rw [fN,aJ,AK hk hw,aX,Bool.true_and]
   cases cd:tL st.2.1 with
   | false=>rfl
   | true =>
    rw [fN,aJ,iQ,aX,Bool.true_and]
    cases decide ((1:Int)≤st.2.2.1∧st.2.2.1≤1000001) with
    | false=>rfl
    | true =>
     rw [fN,aJ,Bool.true_and]
     have hl:st.1.2.1.length≤60:=by
      unfold dl at cl
      rw [iA,iA,decide_eq_true_eq,decide_eq_true_eq] at cl
      omega
     have he:st.2.1.length≤20:=by
      unfold tL at cd
      rw [iA,decide_eq_true_eq] at cd
      omega
     have l1:cW.l1 k k st.2.1 st.2.1.length 0 st.1.1 st.1.2.1 st.2.1 st.2.2.1 st.2.2.2.1 st.2.2.2.2.1 d.1 d.2.1 d.2.2.1 d.2.2.2.1=some (st.2.1.all (pI d st.2.2.1),()):=by
      refine fe (L:=fun n i (_:Unit)=>cW.l1 k n st.2.1 st.2.1.length i st.1.1 st.1.2.1 st.2.1 st.2.2.1 st.2.2.2.1 st.2.2.2.2.1 d.1 d.2.1 d.2.2.1 d.2.2.2.1) (R:=fun r _=>some (r.all (pI d st.2.2.1),())) (Ty.z aB) st.2.1 (fun _ _=>True) (fun n _ _=>?_) (fun n i _ x rest h0 h1 hx hr hp ih=>?_) (n:=k) (s:=()) (by omega) trivial
      · simp (disch:=omega) only [cW.l1,cW.b1,aY,aJ,List.all_nil]
      · have ih:=ih () trivial
        have hz:=lA d (a_ aF x.2.1)
        have ht:=jQ hk (d:=d) (by omega) (by omega) (by omega) (a_ aF x.2.1)
        have hr:=vh hk (s:=(bG d (a_ aF x.2.1)).1) x.2.2.1 x.2.2.2.1 (by omega)
        simp (disch:=omega) only [cW.l1,cW.b1,aV h1,aa,aN,hx,cX k,aX,ht,hr,aE,ih,List.all_cons,pI,dc,bne]
        cases (iU (bG d (a_ aF x.2.1)).1 x.2.2.1 x.2.2.2.1).2 <;> cases seq (iU (bG d (a_ aF x.2.1)).1 x.2.2.1 x.2.2.2.1).1.2.2.1 x.1 <;> cases ((iU (bG d (a_ aF x.2.1)).1 x.2.2.1 x.2.2.2.1).1.2.1==x.2.2.2.2.1) <;>
         cases ((iU (bG d (a_ aF x.2.1)).1 x.2.2.1 x.2.2.2.1).1.1==1) <;> cases ((iU (bG d (a_ aF x.2.1)).1 x.2.2.1 x.2.2.2.1).1.1==4) <;> cases decide (x.2.2.2.2.1≥st.2.2.1) <;> rfl
     refine (fe (L:=fun n i (_:Unit)=>cW.l0 k n st.1.2.1 st.1.2.1.length i st.1.1 st.1.2.1 st.2.1 st.2.2.1 st.2.2.2.1 st.2.2.2.2.1 d.1 d.2.1 d.2.2.1 d.2.2.2.1) (R:=fun r _=>some (pf d st.2.2.2.1 r&&st.2.1.all (pI d st.2.2.1),())) (Ty.z (.int .i64)) st.1.2.1 (fun _ _=>True) (fun n _ _=>?_) (fun n i _ x rest h0 h1 hx hr hp ih=>?_) (n:=k) (s:=()) (by omega) trivial)
     · simp (disch:=omega) only [cW.l0,cW.b0,aY,aJ,pf,l1,Bool.true_and]
     · have ih:=ih () trivial
       have hz:=lA d (a_ aF x)
       have ht:=jQ hk (d:=d) (by omega) (by omega) (by omega) (a_ aF x)
       have hs:=sF hk (s:=(bG d (a_ aF x)).1) (by omega)
       have hlast:=EL h0 hr
       simp (disch:=omega) only [cW.l0,cW.b0,aV h1,aa,aN,hx,cX k,aX,ht,hs,aE,ih,pf,IE,bne,hlast]
       rw [show (i==(st.1.2.1.length:Int)-1)=decide (i+1=(st.1.2.1.length:Int)) from (show decide (i=(st.1.2.1.length:Int)-1)=_ from decide_eq_decide.2 (by omega))]
       cases (bG d (a_ aF x)).2 with
       | false=>rfl
       | true =>
        by_cases q:(bx (bG d (a_ aF x)).1).2=((bG d (a_ aF x)).1.size:Int)
        · rw [aV q,show ((bx (bG d (a_ aF x)).1).2==((bG d (a_ aF x)).1.size:Int))=true from beq_iff_eq.2 q,q]
          cases decide (i+1=(st.1.2.1.length:Int)) <;> cases (st.2.2.2.1==((bG d (a_ aF x)).1.size:Int)) <;> rfl
        · rw [aY q,show ((bx (bG d (a_ aF x)).1).2==((bG d (a_ aF x)).1.size:Int))=false from pz q]
          rfl
theorem Eu (s:ByteArray):ByteArray.extract s s.size s.size=⟨#[]⟩:=kJ (by rw [j7,List.drop_eq_nil_of_le (by rw [dW];omega)];rfl)
theorem JP (s:ByteArray):∀ (d d':Nat) (i:Int),0≤i→i≤s.size→(s.size:Int)-i<d→(g7 s d i).2-i<d'→g7 (ByteArray.extract s 0 (g7 s d i).2.toNat) d' i=g7 s d i:=by
 intro d
 induction d with
 | zero=>intro d' i h0 h1 h2;omega
 | succ d ih =>
  intro d' i h0 h1 h2 h3
  have hu:=oQ (ByteArray.extract s i.toNat s.size)
  have hz:=sB s i.toNat
  have stop:∀ d':Nat,0<d'→g7 (ByteArray.extract s 0 i.toNat) d' i=([],i):=fun d' hd=>by
   obtain ⟨n,rfl⟩:∃ q,d'=q+1:=⟨d'-1,by omega⟩
   have hs:(ByteArray.extract s 0 i.toNat).size=i.toNat:=wt s (by omega)
   have e:ByteArray.extract (ByteArray.extract s 0 i.toNat) i.toNat (ByteArray.extract s 0 i.toNat).size=⟨#[]⟩:=by
    have:=Eu (ByteArray.extract s 0 i.toNat)
    rw [hs] at this ⊢
    exact this
   rw [g7,e,yE,if_pos rfl]
  by_cases c1:(h_ (ByteArray.extract s i.toNat s.size)).2=0
  · have e:g7 s (d+1) i=([],i):=by rw [g7,if_pos c1]
    rw [e] at h3 ⊢
    exact stop d' (by simp only [] at h3;omega)
  · cases c2:(iw (h_ (ByteArray.extract s i.toNat s.size)).1).2 with
    | false =>
     have e:g7 s (d+1) i=([],i):=by rw [g7,if_neg c1,if_pos c2]
     rw [e] at h3 ⊢
     exact stop d' (by simp only [] at h3;omega)
    | true =>
     have e:g7 s (d+1) i=(((i,((h_ (ByteArray.extract s i.toNat s.size)).2,((iw (h_ (ByteArray.extract s i.toNat s.size)).1).1,()))):Ty.d cz)::(g7 s d (i+(h_ (ByteArray.extract s i.toNat s.size)).2)).1,(g7 s d (i+(h_ (ByteArray.extract s i.toNat s.size)).2)).2):=by
      rw [g7,if_neg c1,if_neg (by rw [c2];decide)]
     rw [e] at h3 ⊢
     simp only [] at h3 ⊢
     have hl:=wA s d (i+(h_ (ByteArray.extract s i.toNat s.size)).2) (by omega) (by omega)
     obtain ⟨n,rfl⟩:∃ q,d'=q+1:=⟨d'-1,by omega⟩
     have ih:=ih n (i+(h_ (ByteArray.extract s i.toNat s.size)).2) (by omega) (by omega) (by omega) (by omega)
     have key:h_ (ByteArray.extract (ByteArray.extract s 0 (g7 s d (i+(h_ (ByteArray.extract s i.toNat s.size)).2)).2.toNat) i.toNat (ByteArray.extract s 0 (g7 s d (i+(h_ (ByteArray.extract s i.toNat s.size)).2)).2.toNat).size)=h_ (ByteArray.extract s i.toNat s.size):=by
      generalize (g7 s d (i+(h_ (ByteArray.extract s i.toNat s.size)).2)).2=x at hl ⊢
      rcases nK (ByteArray.extract s i.toNat s.size) with ⟨t,r,ht,e1,e2⟩ | ⟨e2,_⟩
      · rw [e2] at hl ⊢
        simp only [] at hl
        have e3:ByteArray.extract (ByteArray.extract s 0 x.toNat) i.toNat (ByteArray.extract s 0 x.toNat).size=aT t++ByteArray.extract r 0 (x.toNat-i.toNat-(aT t).size):=by
         apply kJ
         have hnb:=congrArg nb e1
         rw [j7,gX] at hnb
         rw [j7,lB,gX,lB,List.drop_take,hnb,List.take_append,dW,List.take_of_length_le (by rw [dW];omega)]
        rw [e3,oI _ ht]
      · exact absurd (by rw [e2]) c1
     rw [g7,key,if_neg c1,if_neg (by rw [c2];decide),ih]
theorem K9 (s:ByteArray):bx (ByteArray.extract s 0 (bx s).2.toNat)=bx s:=by
 have hl:=my s
 have:=JP s (s.size+1) ((bx s).2.toNat+1) 0 (by omega) (by omega) (by omega) (by show (bx s).2-0<_;omega)
 have hz:=wt s (n:=(bx s).2.toNat) (by omega)
 unfold bx at hz ⊢
 rw [hz]
 exact this
theorem sj {h:Ty.d cE→Ty.d cE} (hh:∀ f,(h f).1=f.1):∀ (l:bo) (s t:ByteArray),bS (ky h l s) t=bif seq t s then (bS l s).map h else bS l t
 | [],s,t=>by cases seq t s <;> rfl
 | g::l,s,t=>by
  unfold ky
  cases c:seq g.1 s with
  | true =>
   have e:=eE.1 c
   rw [aa,bS.eq_2,hh,bS.eq_2,c,aa]
   by_cases q:t=s
   · rw [e,q,bZ];rfl
   · rw [kE q,aJ,bS.eq_2]
     rw [e,kE (fun w=>q w.symm)]
     rfl
  | false =>
   rw [aJ,bS.eq_2,bS.eq_2,c,aJ,sj hh l s t,bS.eq_2]
   by_cases q:t=s
   · rw [q,bZ,c];rfl
   · rw [kE q];rfl
theorem nL {d:Ty.d aA} {g:bo→Int→bo × Int} (h:(i_ d g).2=0):(g d.1 d.2.1).2=0∧(i_ d g).1.1=(g d.1 d.2.1).1:=by
 unfold i_ at h ⊢
 cases c:(li d).2 != 0 with
 | true =>
  rw [c,aa] at h
  rw [h] at c
  cases c
 | false=>rw [c] at h;exact ⟨h,rfl⟩
theorem m6 {d:Ty.d aA} (h:DR d) (s:ByteArray):bG d s=match bS d.1 s with | none=>(⟨#[]⟩,false) | some f=>(f.2.1,true):=by
 unfold bG
 rw [jL.2 h]
 rfl
theorem EY {d:Ty.d aA} (h:DR d) {n:ByteArray} (c:(dS d n).2=0) (s:ByteArray):bG (dS d n).1 s=bG d s:=by
 obtain ⟨c1,c2⟩:=nL c
 rw [m6 (md h n),m6 h]
 unfold dS
 rw [c2]
 unfold va at c1 ⊢
 cases hg:(bS d.1 n).isNone with
 | true=>rfl
 | false =>
  rw [aJ]
  show (match bS (ky _ d.1 n) s with | none=>_ | some f=>_)=_
  rw [sj (by intro f;rfl)]
  by_cases q:s=n
  · rw [q,bZ,aa]
    cases bS d.1 n <;> rfl
  · rw [kE q,aJ]
theorem LI {d:Ty.d aA} (h:DR d) {n:ByteArray} {m:Int} (c:(qT d n m).2=0) (s:ByteArray):bG (qT d n m).1 s=bif seq s n then (ByteArray.extract (bG d n).1 0 m.toNat,true) else bG d s:=by
 obtain ⟨c1,c2⟩:=nL c
 rw [m6 (Dg h n m),m6 h,m6 h]
 unfold qT
 rw [c2]
 unfold He at c1 ⊢
 cases hg:bS d.1 n with
 | none=>rw [hg] at c1;cases c1
 | some f =>
  rw [hg] at c1
  simp only [] at c1 ⊢
  cases hm:decide (0≤m∧m≤(f.2.1.size:Int)) with
  | false=>rw [hm] at c1;cases c1
  | true =>
   simp only [fN,aJ]
   rw [sj (by intro f;rfl)]
   by_cases q:s=n
   · rw [q,bZ,aa,hg];rfl
   · rw [kE q,aJ,aJ]
theorem kf {r:RD} {f:Ty.d aA→RD} (h:(eW r f).2=0):r.2=0∧eW r f=f r.1∧(f r.1).2=0:=by
 unfold eW at h ⊢
 cases c:r.2==0 with
 | true=>rw [c] at h;exact ⟨C9 c,rfl,h⟩
 | false =>
  rw [c] at h
  rw [aJ] at h
  rw [h] at c
  cases c
noncomputable def gO (d:Ty.d aA) (x:Int):ByteArray:=(bG d (a_ aF x)).1
def bj (ids:List Int):Int:=ids.getD (ids.length-1) 0
noncomputable def mK (x:Int) (d:Ty.d aA):RD :=
 eW (bif decide ((bx (gO d x)).2<((gO d x).size:Int)) then qT d (a_ aF x) (bx (gO d x)).2 else (d,0)) fun y=>dS y (a_ aF x)
theorem PW (x:Int) {d:Ty.d aA} (h:DR d):DR (mK x d).1:=by
 unfold mK
 refine jN ?_ fun y hy=>md hy _
 cases decide ((bx (gO d x)).2<((gO d x).size:Int))
 · exact h
 · exact Dg h _ _
theorem LM {d:Ty.d aA} (h:DR d) {x:Int} (c:(mK x d).2=0) (s:ByteArray):(bG (mK x d).1 s).2=(bG d s).2∧bx (bG (mK x d).1 s).1=bx (bG d s).1:=by
 obtain ⟨c1,c2,c3⟩:=kf c
 have e:mK x d=_:=c2
 rw [e]
 by_cases hb:(bx (gO d x)).2<((gO d x).size:Int)
 · simp only [aV hb,aa] at c1 c3 ⊢
   rw [EY (Dg h _ _) c3,LI h c1]
   by_cases q:s=a_ aF x
   · rw [q,bZ,aa]
     refine ⟨?_,K9 (gO d x)⟩
     cases hq:(bG d (a_ aF x)).2 with
     | true=>rfl
     | false =>
      exfalso
      unfold gO at hb
      have hl:=my (bG d (a_ aF x)).1
      rw [Np hq] at hb hl
      rw [e0] at hb
      omega
   · rw [kE q];exact ⟨rfl,rfl⟩
 · simp only [aY hb,aJ] at c1 c3 ⊢
   rw [EY h c3]
   exact ⟨rfl,rfl⟩
end Go.Proofs.YtbgnhoggngbhhaaGreatDoor.G

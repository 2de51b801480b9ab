/- Plain laws, merged; what is proved here is told ahead of each part. -/
import Derived.Test.YtgnakpiicdfpkaaGreatDoorZUE
import Derived.Lib.ItoaNum
import Derived.Lib.AtoiAll
import Derived.Lib.AtoiAllCases
import Derived.Test.YtgnakpiicdfpkaaGreatDoorVPure
import Derived.Test.YtgnakpiicdfpkaaGreatDoorXLib
set_option linter.unusedVariables false
set_option linter.unusedSimpArgs false
namespace Go.V
theorem aQ {α β:Type} {a:α} {f:α→Option β}:Option.bind (some a) f=f a:=rfl
theorem aK {α:Type} {a b:α}:cond false a b=b:=rfl
theorem aY {α:Type} {a b:α}:cond true a b=a:=rfl
theorem ff:(!true)=false:=rfl
theorem qj:(!false)=true:=rfl
theorem nw {α:Type} [BEq α] [LawfulBEq α] {a b:α} (h:a≠b):(a==b)=false:=beq_eq_false_iff_ne.2 h
theorem nU (i:Nat):Int.toNat (i:Int)=i:=Int.toNat_natCast i
theorem lQ {α:Type} {a:α} {l:List α}:(a::l).length=l.length+1:=rfl
theorem xF {α:Type} {l m:List α}:(l++m).length=l.length+m.length:=List.length_append
theorem s7 {α:Type} (l m n:List α):l++m++n=l++(m++n):=List.append_assoc l m n
theorem Gj {α:Type} [BEq α] [LawfulBEq α] {a b:α} (h:(a==b)=true):a=b:=beq_iff_eq.1 h
theorem ke (a b:Bool):((a&&b)=true)=(a=true∧b=true):=Bool.and_eq_true a b
theorem oh {α:Type} {a:α} {l:List α}:a ∈ a::l:=List.mem_cons_self
theorem qu {α:Type} (y:α) {a:α} {l:List α} (h:a ∈ l):a ∈ y::l:=List.mem_cons_of_mem y h
theorem aO {p:Prop} [Decidable p] (h:p):decide p=true:=decide_eq_true h
theorem aP {p:Prop} [Decidable p] (h:¬ p):decide p=false:=decide_eq_false h
theorem bO {R:Type} {b n:Nat} {k:Option R} (h:n≤1099511627776) (hb:b≤128):rm b n k=k :=
 MI (Nat.le_trans (Nat.mul_le_mul h hb) (by decide)) (by omega)
theorem dV {R:Type} {a b:ByteArray} {k:Option R} (h:a.size+b.size≤4611686018427387904):kC a b k=k:=Bu (by omega)
theorem Fc {R:Type} {b:Nat} {n:Int} {k:Option R} (h0:0≤n) (h:n≤1099511627776) (hb:b≤128):Ks b n k=k :=
 Eb h0 (Nat.le_trans (Nat.mul_le_mul (show n.toNat≤1099511627776 by omega) hb) (by decide)) (by omega)
theorem xC {n:Int} (h0:0≤n) (h1:n≤4294967295):IntKind.wrap .u32 n=n:=by
 unfold IntKind.wrap
 simp [IntKind.bits,IntKind.signed]
 omega
theorem pA {n:Int} (h0:0≤n) (h1:n≤255):IntKind.wrap .u8 n=n:=by
 unfold IntKind.wrap
 simp [IntKind.bits,IntKind.signed]
 omega
theorem LQ {α:Type} {g:Nat→Option α} {r:α} (h:∀ k,2 ^ 50≤k→g k=some r):Ev g r:=⟨2 ^ 50,h⟩
section
variable {α σ ρ:Type}
theorem MC {L:Nat→σ→Option ρ} {R:σ→Option ρ} (μ:σ→Nat) (P:σ→Prop)
 (h:∀ n s,P s→(∀ s',P s'→μ s' < μ s→L n s'=R s')→L (n+1) s=R s):∀ n s,P s→μ s<n→L n s=R s
 | 0,s,_,hn=>by omega
 | n+1,s,hs,hn=>h n s hs fun s' h1 h2=>MC μ P h n s' h1 (by omega)
theorem FY {L:Nat→Int→σ→Option ρ} {R:Int→σ→Option ρ} (N:Int) (P:Int→σ→Prop)
 (h0:∀ (n:Nat) s,P N s→L (n+1) N s=R N s)
 (h1:∀ (n:Nat) (i:Int) s,0≤i→i<N→P i s→(∀ s',P (i+1) s'→L n (i+1) s'=R (i+1) s')→L (n+1) i s=R i s) :
 ∀ (n:Nat) (i:Int) s,0≤i→i≤N→N-i<n→P i s→L n i s=R i s
 | 0,i,s,hi,hN,hn,_=>by omega
 | n+1,i,s,hi,hN,hn,hs=>by
  by_cases c:i=N
  · subst c;exact h0 n s hs
  · exact h1 n i s hi (by omega) hs fun s' q=>FY N P h0 h1 n (i+1) s' (by omega) (by omega) (by omega) q
theorem Is {L:Nat→Int→σ→Option ρ} {R:List α→σ→Option ρ} (z:α) (l:List α) (P:Int→σ→Prop)
 (h0:∀ (n:Nat) s,P l.length s→L (n+1) l.length s=R [] s)
 (h1:∀ (n:Nat) (i:Int) s x rest,0≤i→i<l.length→l.getD i.toNat z=x→l.drop i.toNat=x::rest→P i s→(∀ s',P (i+1) s'→L n (i+1) s'=R rest s')→L (n+1) i s=R (x::rest) s) :
 ∀ (n:Nat) (i:Int) s,0≤i→i≤l.length→(l.length:Int)-i<n→P i s→L n i s=R (l.drop i.toNat) s:=by
 intro n i s hi hN hn hs
 refine FY (L:=L) (R:=fun i s=>R (l.drop i.toNat) s) l.length P (fun n s q=>?_) (fun n i s hi hlt q ih=>?_) n i s hi hN hn hs
 · rw [h0 n s q,Int.toNat_natCast,List.drop_length]
 · have hl:i.toNat<l.length:=by omega
   have e:l.drop i.toNat=l.getD i.toNat z::l.drop (i+1).toNat:=by
    rw [List.drop_eq_getElem_cons hl,show (i+1).toNat=i.toNat+1 by omega]
    simp [List.getD,hl]
   show _=R (l.drop i.toNat) s
   rw [e]
   exact h1 n i s _ _ hi hlt rfl e q ih
theorem eV {L:Nat→Int→σ→Option ρ} {R:List α→σ→Option ρ} (z:α) (l:List α) (P:Int→σ→Prop)
 (h0:∀ (n:Nat) s,P l.length s→L (n+1) l.length s=R [] s)
 (h1:∀ (n:Nat) (i:Int) s x rest,0≤i→i<l.length→l.getD i.toNat z=x→l.drop i.toNat=x::rest→P i s→(∀ s',P (i+1) s'→L n (i+1) s'=R rest s')→L (n+1) i s=R (x::rest) s)
 {n:Nat} {s:σ} (hn:l.length<n) (hs:P 0 s):L n 0 s=R l s:=by
 have:=Is z l P h0 h1 n 0 s (by omega) (by omega) (by omega) hs
 simpa using this
end
theorem lW {a b:ByteArray} (h:a≠b):seq a b=false:=by
 cases c:seq a b
 · rfl
 · exact absurd (cS.1 c) h
theorem KD {a b:ByteArray} (h:a=b):seq a b=true:=cS.2 h
theorem GO (a b:ByteArray):seq a b=decide (a=b):=by
 by_cases h:a=b
 · rw [KD h,aO h]
 · rw [lW h,aP h]
theorem Jy {α:Type} {l:List α} {i:Nat} {x:α} {rest:List α} (h:l.drop i=x::rest):i<l.length:=by
 rcases Nat.lt_or_ge i l.length with q | q
 · exact q
 · rw [List.drop_eq_nil_of_le q] at h;cases h
def vl:Nat→Nat→List Nat
 | 0,a=>[a]
 | d+1,a=>if a≥128 then (128+a % 128)::vl d (a/128) else [a]
def sb:List Nat→Nat
 | []=>0
 | b::p=>b % 128+128*sb p
def rj:List Nat→Bool
 | []=>false
 | [b]=>decide (b<128)
 | b::c::p=>decide (128≤b)&&(decide (b<256)&&(rj (c::p)&&!(decide (p=[])&&c==0)))
theorem ww:∀ (d a:Nat),a<128 ^ (d+1)→rj (vl d a)=true∧sb (vl d a)=a∧(vl d a=[0]→a=0)
 | 0,a,h=>by
  have:a<128:=by simpa using h
  refine ⟨by simp [vl,rj,this],by simp [vl,sb];omega,fun q=>by simpa [vl] using q⟩
 | d+1,a,h=>by
  unfold vl
  by_cases c:a≥128
  · rw [if_pos c]
    obtain ⟨h1,h2,h3⟩:=ww d (a/128) (by rw [Nat.pow_succ] at h;omega)
    refine ⟨?_,by rw [sb,h2];omega,fun q=>by have:=(List.cons.inj q).1;omega⟩
    generalize vl d (a/128)=l at h1 h2 h3
    match l,h1 with
    | x::p,h1 =>
     simp only [rj,h1]
     have e1:decide (128≤128+a % 128)=true:=decide_eq_true (by omega)
     have e2:decide (128+a % 128<256)=true:=decide_eq_true (by omega)
     rw [e1,e2]
     cases hp:(decide (p=[])&&x==0)
     · rfl
     · simp only [ke,decide_eq_true_eq,beq_iff_eq] at hp
       have:=h3 (by rw [hp.1,hp.2])
       omega
  · rw [if_neg c]
    have:a<128:=by omega
    exact ⟨by simp [rj,this],by simp [sb];omega,fun q=>by simpa using q⟩
theorem Cv:∀ (p:List Nat),rj p=true→p≠[0]→1≤sb p
 | [],h,_=>by simp [rj] at h
 | [b],h,q=>by
  simp only [rj,decide_eq_true_eq] at h
  simp only [sb]
  have:b≠0:=fun e=>q (by rw [e])
  omega
 | b::c::p,h,_=>by
  simp only [rj,ke,decide_eq_true_eq,Bool.not_eq_true'] at h
  have ih:=Cv (c::p) h.2.2.1 (fun e=>by
   have e1:c=0:=(List.cons.inj e).1
   have e2:p=[]:=(List.cons.inj e).2
   have:=h.2.2.2
   rw [e1,e2] at this
   simp at this)
  rw [sb]
  omega
theorem BX:∀ (d:Nat) (p:List Nat),rj p=true→p.length≤d+1→vl d (sb p)=p
 | _,[],h,_=>by simp [rj] at h
 | 0,[b],h,_=>by
  simp only [rj,decide_eq_true_eq] at h
  simp [vl,sb];omega
 | d+1,[b],h,_=>by
  simp only [rj,decide_eq_true_eq] at h
  have e:sb [b]=b:=by simp [sb];omega
  rw [e,vl,if_neg (by omega)]
 | 0,b::c::p,_,hl=>by simp at hl
 | d+1,b::c::p,h,hl=>by
  have h0:=h
  simp only [rj,ke,decide_eq_true_eq,Bool.not_eq_true'] at h
  have hp:=Cv (c::p) h.2.2.1 (fun e=>by
   have e1:c=0:=(List.cons.inj e).1
   have e2:p=[]:=(List.cons.inj e).2
   have:=h.2.2.2
   rw [e1,e2] at this
   simp at this)
  have ih:=BX d (c::p) h.2.2.1 (by simp at hl ⊢;omega)
  rw [sb,vl,if_pos (by omega)]
  rw [show (b % 128+128*sb (c::p))/128=sb (c::p) by omega,ih]
  congr 1
  omega
theorem Ck:∀ (p:List Nat) (b:Nat),sb (p++[b])=sb p+128 ^ p.length*(b % 128)
 | [],b=>by simp [sb]
 | a::p,b=>by
  rw [List.cons_append,sb,Ck p b,sb,lQ,Nat.pow_succ,Nat.mul_add,Nat.mul_comm (128 ^ p.length) 128,Nat.mul_assoc]
  omega
theorem CE:∀ (p:List Nat),sb p<128 ^ p.length
 | []=>by simp [sb]
 | a::p=>by
  have:=CE p
  rw [sb,lQ,Nat.pow_succ]
  omega
def nb (s:ByteArray):List Nat:=s.data.toList.map UInt8.toNat
theorem cW (s:ByteArray):(nb s).length=s.size:=by
 unfold nb
 rw [List.length_map,Array.length_toList]
 rfl
theorem Kl {s:ByteArray} {x:Nat} (h:x ∈ nb s):x<256:=by
 unfold nb at h
 rw [List.mem_map] at h
 obtain ⟨y,_,rfl⟩:=h
 exact UInt8.toNat_lt y
theorem kt {a b:ByteArray} (h:nb a=nb b):a=b:=by
 unfold nb at h
 have h1:a.data.toList=b.data.toList:=List.map_inj_right (fun x y e=>UInt8.toNat_inj.1 e) |>.1 h
 exact ByteArray.ext (Array.toList_inj.1 h1)
theorem yl {s:ByteArray} {i:Nat} (h:i<s.size):dc s (i:Int)=(((nb s).getD i 0:Nat):Int):=by
 unfold dc nb
 have h1:i<s.data.toList.length:=by rw [Array.length_toList];exact h
 rw [Int.toNat_natCast,List.getD,List.getD,List.getElem?_map,List.getElem?_eq_getElem h1]
 rfl
theorem Di {l:List Nat} (h:∀ x ∈ l,x<256):nb (bytesOf (l.map Int.ofNat))=l:=by
 unfold nb bytesOf
 simp only [List.map_map,List.toList_toArray]
 induction l with
 | nil=>rfl
 | cons x l ih =>
  rw [List.map_cons,ih (fun y hy=>h y (qu _ hy))]
  have:=h x (oh ..)
  congr 1
  show (UInt8.ofNat (Int.toNat (x:Int))).toNat=x
  rw [Int.toNat_natCast]
  simp
  omega
theorem ky (s:ByteArray) (n:Nat):nb (ByteArray.extract s 0 n)=(nb s).take n:=by
 unfold nb
 simp [ByteArray.data_extract,List.map_take]
theorem Ko:∀ (d a:Nat),a<128 ^ (d+1)→∀ x ∈ vl d a,x<256
 | 0,a,h,x,hx=>by simp [vl] at hx;subst hx;simp at h;omega
 | d+1,a,h,x,hx=>by
  unfold vl at hx
  split at hx
  · rcases List.mem_cons.1 hx with q | q
    · subst q;omega
    · exact Ko d _ (by rw [Nat.pow_succ] at h;omega) x q
  · simp at hx;subst hx;omega
def bI (a:Nat):ByteArray:=bytesOf ((vl 6 a).map Int.ofNat)
theorem tu {a:Nat} (h:a<562949953421312):nb (bI a)=vl 6 a:=Di (Ko 6 a (by rw [show (128:Nat) ^ (6+1)=562949953421312 by decide];exact h))
theorem H0 {s:ByteArray} {n:Nat} (h0:1≤n) (h7:n≤7) (hs:n≤s.size):seq (bI (sb ((nb s).take n))) (ByteArray.extract s 0 n)=rj ((nb s).take n):=by
 have hl:((nb s).take n).length=n:=by rw [List.length_take,cW];omega
 have hd:sb ((nb s).take n)<562949953421312:=by
  have:=CE ((nb s).take n)
  rw [hl] at this
  have h2:(128:Nat) ^ n≤128 ^ 7:=Nat.pow_le_pow_right (by decide) h7
  rw [show (128:Nat) ^ 7=562949953421312 by decide] at h2
  omega
 rw [Bool.eq_iff_iff,cS]
 constructor
 · intro e
   have e1:nb (bI (sb ((nb s).take n)))=(nb s).take n:=by rw [e,ky]
   rw [tu hd] at e1
   have:=(ww 6 (sb ((nb s).take n)) (by rw [show (128:Nat) ^ (6+1)=562949953421312 by decide];exact hd)).1
   rw [e1] at this
   exact this
 · intro c
   refine kt ?_
   rw [tu hd,ky]
   exact BX 6 _ c (by omega)
open Go
def g_ (n:Int):ByteArray:=⟨(Lib.itoa n).toArray⟩
def tC (u:Nat):List UInt8:=if u=0 then [] else Lib.decDigits u
theorem HX:tC 0=[]:=rfl
theorem rz {u:Nat} (h:u≠0):tC u=Lib.decDigits u:=if_neg h
theorem H_ {u:Nat} (h:u≠0):tC u=tC (u/10)++[UInt8.ofNat (48+u % 10)]:=by
 rw [rz h,Lib.decDigits]
 by_cases c:u<10
 · rw [dif_pos c,show u/10=0 by omega,HX,List.nil_append,Nat.mod_eq_of_lt c]
 · rw [dif_neg c,rz (by omega)]
theorem ni (u:Nat):Lib.decDigits u≠[]:=by
 rw [Lib.decDigits]
 split <;> simp
theorem xM:Lib.decDigits 0=[48]:=by
 rw [Lib.decDigits,dif_pos (by omega)]
 rfl
theorem sO {d:Nat} (h:d<10):(UInt8.ofNat (48+d)).toNat=48+d:=by
 simp
 omega
theorem kL (u:Nat):∀ b ∈ Lib.decDigits u,48≤b.toNat∧b.toNat≤57:=by
 induction u using Nat.strongRecOn with
 | _ u ih =>
  intro b hb
  rw [Lib.decDigits] at hb
  split at hb
  · rename_i h
    rw [List.mem_singleton] at hb
    subst hb
    rw [sO h]
    omega
  · rename_i h
    rcases List.mem_append.1 hb with q | q
    · exact ih (u/10) (by omega) b q
    · rw [List.mem_singleton] at q
      subst q
      rw [sO (by omega)]
      omega
def pS:List Nat→Nat→Nat
 | [],a=>a
 | b::l,a=>pS l (a*10+(b-48))
theorem AJ:∀ (l m:List Nat) (a:Nat),pS (l++m) a=pS m (pS l a)
 | [],m,a=>rfl
 | b::l,m,a=>AJ l m _
theorem pZ (u:Nat):pS ((Lib.decDigits u).map UInt8.toNat) 0=u:=by
 induction u using Nat.strongRecOn with
 | _ u ih =>
  rw [Lib.decDigits]
  split
  · rename_i h
    simp only [List.map_cons,List.map_nil,pS,sO h]
    omega
  · rename_i h
    rw [List.map_append,AJ,ih (u/10) (by omega)]
    simp only [List.map_cons,List.map_nil,pS,sO (show u % 10<10 by omega)]
    omega
theorem i7:∀ (k u:Nat),u<10 ^ (k+1)→(Lib.decDigits u).length≤k+1
 | 0,u,h=>by
  rw [Lib.decDigits,dif_pos (by simpa using h)]
  simp
 | k+1,u,h=>by
  rw [Lib.decDigits]
  split
  · simp
  · have:=i7 k (u/10) (by rw [Nat.pow_succ] at h;omega)
    rw [xF]
    show _+1≤_
    omega
theorem qI (n:Int):nb (g_ n)=if n<0 then 45::(Lib.decDigits n.natAbs).map UInt8.toNat else (Lib.decDigits n.toNat).map UInt8.toNat:=by
 unfold nb g_ Lib.itoa
 split <;> simp
theorem zJ {a b:Int} (h:g_ a=g_ b):a=b:=by
 have h1:=congrArg nb h
 rw [qI,qI] at h1
 have hd:∀ u:Nat,∀ l,(Lib.decDigits u).map UInt8.toNat≠45::l:=fun u l q=>by
  have hm:(45:Nat) ∈ (Lib.decDigits u).map UInt8.toNat:=by rw [q];exact oh ..
  obtain ⟨x,hx,e⟩:=List.mem_map.1 hm
  have:=kL u x hx
  omega
 by_cases ca:a<0
 · rw [if_pos ca] at h1
   by_cases cb:b<0
   · rw [if_pos cb] at h1
     have h2:=(List.cons.inj h1).2
     have h3:=congrArg (fun l=>pS l 0) h2
     simp only [pZ] at h3
     omega
   · rw [if_neg cb] at h1
     exact absurd h1.symm (hd _ _)
 · rw [if_neg ca] at h1
   by_cases cb:b<0
   · rw [if_pos cb] at h1
     exact absurd h1 (hd _ _)
   · rw [if_neg cb] at h1
     have h3:=congrArg (fun l=>pS l 0) h1
     simp only [pZ] at h3
     omega
theorem H1 {n:Int} (h0 : -1000000000<n) (h1:n<1000000000):(g_ n).size≤10:=by
 rw [← cW,qI]
 split
 · have:=i7 8 n.natAbs (by rw [show (10:Nat) ^ (8+1)=1000000000 by decide];omega)
   rw [lQ,List.length_map]
   omega
 · have:=i7 8 n.toNat (by rw [show (10:Nat) ^ (8+1)=1000000000 by decide];omega)
   rw [List.length_map]
   omega
theorem D7 (n:Int) (h0 : -9223372036854775808≤n) (h1:n≤9223372036854775807):(g_ n).size≤20:=by
 rw [← cW,qI]
 split
 · have:=i7 18 n.natAbs (by rw [show (10:Nat) ^ (18+1)=10000000000000000000 by decide];omega)
   rw [lQ,List.length_map]
   omega
 · have:=i7 18 n.toNat (by rw [show (10:Nat) ^ (18+1)=10000000000000000000 by decide];omega)
   rw [List.length_map]
   omega
theorem w6:∀ (l:List UInt8) (a:Nat),(∀ b ∈ l,48≤b.toNat∧b.toNat≤57)→(a+1)*10 ^ l.length≤1000000000000000000→Lib.parseUint10 a l = .ok (pS (l.map UInt8.toNat) a)
 | [],a,_,_=>rfl
 | c::l,a,h,hb=>by
  have hc:=h c (oh ..)
  rw [lQ,Nat.pow_succ,Nat.mul_comm (10 ^ l.length) 10,← Nat.mul_assoc] at hb
  have hp:1≤10 ^ l.length:=Nat.one_le_pow _ _ (by decide)
  have h1:(a+1)*10*1≤(a+1)*10*10 ^ l.length:=Nat.mul_le_mul (Nat.le_refl _) hp
  have ih:=w6 l (a*10+(c.toNat-48)) (fun x hx=>h x (qu _ hx)) (Nat.le_trans (Nat.mul_le_mul (by omega) (Nat.le_refl _)) hb)
  rw [Lib.parseUint10,if_pos hc,if_neg (by omega),if_neg (by omega),ih,List.map_cons,pS]
theorem As {u:Nat} (h:u<1000000000):Lib.parseMag (Lib.decDigits u) = .ok u:=by
 have hl:=i7 8 u (by rw [show (10:Nat) ^ (8+1)=1000000000 by decide];exact h)
 have hp:10 ^ (Lib.decDigits u).length≤10 ^ 9:=Nat.pow_le_pow_right (by decide) hl
 rw [show (10:Nat) ^ 9=1000000000 by decide] at hp
 unfold Lib.parseMag
 rw [if_neg (ni u),w6 _ 0 (kL u) (by omega),pZ]
theorem IF {n:Int} (h0 : -1000000000<n) (h1:n<1000000000):Lib.atoiAll (Lib.itoa n) = .ok n:=by
 unfold Lib.itoa
 by_cases c:n<0
 · rw [if_pos c,Lib.atoiAll_minus,As (by omega)]
   simp only [Lib.signed]
   rw [if_neg (by omega)]
   congr 1
   omega
 · rw [if_neg c]
   have hp:=As (u:=n.toNat) (by omega)
   cases q:Lib.decDigits n.toNat with
   | nil=>exact absurd q (ni _)
   | cons d r =>
    have hd:=kL n.toNat d (by rw [q];exact oh ..)
    rw [q] at hp
    rw [Lib.atoiAll_plain d r (by omega) (by omega),hp]
    simp only [Lib.signless]
    rw [if_neg (by omega)]
    congr 1
    omega
section
variable {α ρ:Type}
def qs (ok:Option α→α→Bool):Option α→List α→Bool
 | _,[]=>true
 | p,x::l=>ok p x&&qs ok (some x) l
theorem qD {L:Nat→Int→Option ρ} (z:α) (l:List α) (ok:Option α→α→Bool) (yes no:Option ρ) (h0:∀ (n:Nat),L (n+1) l.length=yes)
 (h1:∀ (n:Nat) x,0<l.length→l.getD (Int.toNat 0) z=x→L (n+1) 0=bif ok none x then L n 1 else no)
 (h2:∀ (n:Nat) (i:Int) x y,0<i→i<l.length→l.getD i.toNat z=x→l.getD (i-1).toNat z=y→L (n+1) i=bif ok (some y) x then L n (i+1) else no)
 {n:Nat} (hn:l.length<n):L n 0=bif qs ok none l then yes else no:=by
 have key:∀ (d i n:Nat),l.length=i+d→0<i→d<n→L n (i:Int)=bif qs ok (some (l.getD (i-1) z)) (l.drop i) then yes else no:=by
  intro d
  induction d with
  | zero =>
   intro i n h h' hn
   obtain ⟨n,rfl⟩:∃ q,n=q+1:=⟨n-1,by omega⟩
   have:i=l.length:=by omega
   subst this
   rw [h0 n,List.drop_length]
   rfl
  | succ d ih =>
   intro i n h h' hn
   obtain ⟨n,rfl⟩:∃ q,n=q+1:=⟨n-1,by omega⟩
   have hl:i<l.length:=by omega
   have e:l.drop i=l.getD i z::l.drop (i+1):=by
    rw [List.drop_eq_getElem_cons hl]
    simp [List.getD,hl]
   have ih:=ih (i+1) n (by omega) (by omega) (by omega)
   rw [h2 n i (l.getD i z) (l.getD (i-1) z) (by omega) (by omega) (by rw [Int.toNat_natCast]) (by rw [show ((i:Int)-1).toNat=i-1 by omega]),e,qs]
   rw [show ((i:Int)+1)=((i+1:Nat):Int) by omega,ih,show i+1-1=i by omega]
   cases ok (some (l.getD (i-1) z)) (l.getD i z) <;> rfl
 obtain ⟨n,rfl⟩:∃ q,n=q+1:=⟨n-1,by omega⟩
 cases l with
 | nil=>exact h0 n
 | cons x l =>
  rw [h1 n x (by simp) rfl,qs]
  have:=key l.length 1 n (by rw [lQ];omega) (by omega) (by rw [lQ] at hn;omega)
  rw [show ((1:Nat):Int)=1 from rfl] at this
  rw [this]
  cases ok none x <;> rfl
theorem Bv {ok:Option α→α→Bool} {l:List α} {p:Option α} (h:qs ok p l=true) {x:α} (hx:x ∈ l):∃ q,ok q x=true:=by
 induction l generalizing p with
 | nil=>cases hx
 | cons y l ih =>
  rw [qs,ke] at h
  rcases List.mem_cons.1 hx with e | e
  · subst e;exact ⟨p,h.1⟩
  · exact ih h.2 e
end
theorem lH {α:Type} {l:List α} {n i:Nat} {z:α} (h:i<n):(l.take n).getD i z=l.getD i z:=by
 simp [List.getD,List.getElem?_take,h]
theorem j3 {α:Type} {l:List α} {i:Nat} {z:α} (h:i<l.length):l.take (i+1)=l.take i++[l.getD i z]:=by
 rw [List.take_succ_eq_append_getElem h]
 simp [List.getD,h]
theorem bK {α:Type} (l:List α) (x:α):(l++[x]).length=l.length+1:=by simp
def dB (l:List UInt8):ByteArray:=⟨l.toArray⟩
theorem Iv (a b:List UInt8):dB a++dB b=dB (a++b):=by
 apply ByteArray.ext
 simp [dB,ByteArray.data_append]
theorem BE (l:List UInt8):(dB l).size=l.length:=by simp [dB,ByteArray.size]
theorem zN (s:ByteArray):dB []++s=s:=by
 apply ByteArray.ext
 simp [dB,ByteArray.data_append]
theorem Ik (s:ByteArray):s++dB []=s:=by
 apply ByteArray.ext
 simp [dB,ByteArray.data_append]
theorem DK (a b c:ByteArray):a++b++c=a++(b++c):=by
 apply ByteArray.ext
 simp [ByteArray.data_append]
theorem Jm (n:Int) (h:n≠0):g_ n=(bif decide (n<0) then dB [45] else dB [])++dB (tC n.natAbs):=by
 unfold g_ Lib.itoa
 by_cases c:n<0
 · rw [if_pos c,aO c,aY,Iv,rz (by omega)]
   rfl
 · rw [if_neg c,aP c,aK,zN,rz (by omega),show n.natAbs=n.toNat by omega]
   rfl
theorem E9 {u:Nat} (h:u≤9223372036854775808):(tC u).length≤19:=by
 by_cases c:u=0
 · subst c;decide
 · rw [rz c]
   exact i7 18 u (by rw [show (10:Nat) ^ (18+1)=10000000000000000000 by decide];omega)
theorem lm {n:Int} (h0 : -9223372036854775808≤n) (h1:n≤9223372036854775807):(g_ n).size≤20:=D7 n h0 h1
def mz:List Nat→Bool
 | []=>true
 | b::l=>(decide (97≤b∧b≤122)||decide (48≤b∧b≤57))&&mz l
def jk (s:ByteArray):Bool:=mz (nb s)&&decide (1≤s.size∧s.size≤12)
end Go.V
namespace Go.Proofs.YtgnakpiicdfpkaaGreatDoor.G
open Go.V
theorem oN {k:Nat} (hk:2 ^ 50≤k) {n:Int} (h0 : -9223372036854775808≤n) (h1:n≤9223372036854775807):da.f k n=some (g_ n,()):=by
 unfold da.f da.t
 by_cases c:n=0
 · subst c
   have:g_ 0=(⟨#[48]⟩:ByteArray):=by
    unfold g_ Lib.itoa
    rw [if_neg (by decide),show (0:Int).toNat=0 from rfl,xM]
   rw [this]
   rfl
 · rw [show (n==0)=false from nw c,aK]
   have key:=MC (L:=fun m (s:Int × ByteArray)=>da.l0 k m s.1 s.2 (decide (n<0))) (R:=fun s=>some ((bif decide (n<0) then dB [45] else dB [])++(dB (tC s.1.natAbs)++s.2),()))
    (fun s=>(tC s.1.natAbs).length) (fun s => -9223372036854775808≤s.1∧s.1≤9223372036854775807∧s.2.size+(tC s.1.natAbs).length≤1000) ?_ k (n,(⟨#[]⟩:ByteArray))
    ⟨h0,h1,by have:=E9 (u:=n.natAbs) (by omega);show 0+(tC n.natAbs).length≤1000;omega⟩ (by have:=E9 (u:=n.natAbs) (by omega);show (tC n.natAbs).length<k;omega)
   · refine key.trans ?_
     simp only []
     rw [Jm n c,show (⟨#[]⟩:ByteArray)=dB [] from rfl,Ik]
   · intro m s hs ih
     obtain ⟨x,acc⟩:=s
     obtain ⟨g0,g1,g2⟩:=hs
     simp only [] at g0 g1 g2 ih ⊢
     by_cases cx:x=0
     · subst cx
       have hz:tC (Int.natAbs 0)=[]:=rfl
       rw [hz] at g2 ⊢
       rw [zN]
       unfold da.l0 da.b0
       rw [show ((0:Int) != 0)=false from rfl,aK]
       cases decide (n<0)
       · rw [aK,aK,zN]
       · rw [aY,aY,dV (by rw [show (⟨#[45]⟩:ByteArray).size=1 from rfl];omega)]
         rfl
     · have hd:=H_ (u:=x.natAbs) (by omega)
       have hb:bytesOf [48+((x.natAbs % 10:Nat):Int)]=dB [UInt8.ofNat (48+x.natAbs % 10)]:=rfl
       have hm:x.natAbs % 10<10:=Nat.mod_lt _ (by decide)
       have hl:(tC x.natAbs).length=(tC (x.natAbs/10)).length+1:=by rw [hd,xF];rfl
       have hr:(dB [UInt8.ofNat (48+x.natAbs % 10)]++acc).size=1+acc.size:=by rw [ByteArray.size_append];rfl
       have fin:∀ y:Int,y.natAbs=x.natAbs/10 → -9223372036854775808≤y→y≤9223372036854775807 →
        da.l0 k m (aF y) (dB [UInt8.ofNat (48+x.natAbs % 10)]++acc) (decide (n<0))=some ((bif decide (n<0) then dB [45] else dB [])++(dB (tC x.natAbs)++acc),()):=fun y hy q0 q1=>by
        rw [aE q0 q1]
        have:=ih (y,dB [UInt8.ofNat (48+x.natAbs % 10)]++acc) ⟨q0,q1,by simp only [];rw [hr,hy];omega⟩ (by simp only [];rw [hy];omega)
        simp only [] at this
        rw [this,hy,hd,← Iv,DK]
       unfold da.l0 da.b0
       rw [show (x != 0)=true from bne_iff_ne.2 cx,aY]
       obtain ⟨u,rfl | rfl⟩:=Int.eq_nat_or_neg x
       · have e1:Int.tmod (u:Int) 10=((u % 10:Nat):Int):=rfl
         have e2:Int.tdiv (u:Int) 10=((u/10:Nat):Int):=rfl
         rw [Int.natAbs_natCast] at *
         rw [e1,e2,aP (by omega),aK,aE (n:=48+((u % 10:Nat):Int)) (by omega) (by omega),pA (by omega) (by omega),hb,dV (by rw [BE];simp only [List.length_singleton];omega)]
         exact fin _ (by omega) (by omega) (by omega)
       · have e1:Int.tmod (-(u:Int)) 10 = -((u % 10:Nat):Int):=Int.neg_tmod (a:=(u:Int)) (b:=10)
         have e2:Int.tdiv (-(u:Int)) 10 = -((u/10:Nat):Int):=Int.neg_tdiv (u:Int) 10
         rw [Int.natAbs_neg,Int.natAbs_natCast] at *
         rw [e1,e2]
         by_cases cz:u % 10=0
         · rw [aP (by omega),aK,show (48:Int) + -((u % 10:Nat):Int)=48+((u % 10:Nat):Int) by omega,aE (n:=48+((u % 10:Nat):Int)) (by omega) (by omega),pA (by omega) (by omega),hb,dV (by rw [BE];simp only [List.length_singleton];omega)]
           exact fin _ (by omega) (by omega) (by omega)
         · rw [aO (by omega),aY,aE (n:=0 - -((u % 10:Nat):Int)) (by omega) (by omega),show (48:Int)+(0 - -((u % 10:Nat):Int))=48+((u % 10:Nat):Int) by omega,aE (n:=48+((u % 10:Nat):Int)) (by omega) (by omega),pA (by omega) (by omega),hb,dV (by rw [BE];simp only [List.length_singleton];omega)]
           exact fin _ (by omega) (by omega) (by omega)
theorem EI (k:Nat) {n:Int} (h0 : -9223372036854775808≤n) (h1:n≤9223372036854775807):nA.f k n=some (g_ n,()):=by
 unfold nA.f nA.t nG.f
 rw [aO ⟨h0,h1⟩]
 rfl
theorem kc (k:Nat) (a b c:Int):au.f k a b c=some (decide (b≤a∧a≤c),()):=by
 unfold au.f au.t
 by_cases h:a≥b
 · rw [aO h,aY,decide_eq_decide.2 (show (b≤a∧a≤c)↔a≤c from ⟨fun q=>q.2,fun q=>⟨h,q⟩⟩)]
 · rw [aP h,aK,aP (fun q=>h q.1)]
theorem ga (k:Nat) (a b c:Int):aZ.f k a b c=some (decide (b≤a∧a≤c),()):=by
 unfold aZ.f aZ.t
 by_cases h:a≥b
 · rw [aO h,aY,decide_eq_decide.2 (show (b≤a∧a≤c)↔a≤c from ⟨fun q=>q.2,fun q=>⟨h,q⟩⟩)]
 · rw [aP h,aK,aP (fun q=>h q.1)]
theorem C9 {s:ByteArray} {i:Int} {x:Nat} (h0:0≤i) (h1:i<((nb s).length:Int)) (hx:(nb s).getD i.toNat 0=x):dc s i=(x:Int):=by
 rw [cW] at h1
 have:=yl (s:=s) (i:=i.toNat) (by omega)
 rw [show ((i.toNat:Nat):Int)=i by omega,hx] at this
 exact this
theorem Cu {s:ByteArray}:(some ((bif mz (nb s) then decide (1≤(s.size:Int)∧(s.size:Int)≤12) else false),()):Option (Bool × Unit))=some (jk s,()):=by
 unfold jk
 rw [decide_eq_decide.2 (show (1≤(s.size:Int)∧(s.size:Int)≤12)↔(1≤s.size∧s.size≤12) by omega)]
 cases mz (nb s) <;> rfl
theorem om {k:Nat} (hk:2 ^ 50≤k) {s:ByteArray} (hs:s.size≤1099511627776):eE.f k s=some (jk s,()):=by
 unfold eE.f eE.t
 have hn:=cW s
 refine (eV (L:=fun n i (_:Unit)=>eE.l0 k n s i) (R:=fun r _=>some ((bif mz r then decide (1≤(s.size:Int)∧(s.size:Int)≤12) else false),())) 0 (nb s) (fun _ _=>True) (fun n _ _=>?_) (fun n i _ x rest h0 h1 hx hr hp ih=>?_) (n:=k) (s:=()) (by omega) trivial).trans Cu
 · simp only [hn]
   simp (disch:=omega) only [eE.l0,eE.b0,aP,aK,ga k,aQ,mz,aY]
 · have hb:=C9 h0 h1 hx
   have ih:=ih () trivial
   simp only [hn] at *
   simp (disch:=omega) only [eE.l0,eE.b0,aO h1,aY,aH,hb,aE,ih,mz]
   by_cases c1:97≤x
   · rw [aO (show (x:Int)≥97 by omega),aY]
     by_cases c2:x≤122
     · rw [aO (show (x:Int)≤122 by omega),aY,aO (show 97≤x∧x≤122 from ⟨c1,c2⟩)]
       rfl
     · rw [aP (show ¬ (x:Int)≤122 by omega),aK,aP (show ¬ (97≤x∧x≤122) by omega),aO (show (x:Int)≥48 by omega),aY,aP (show ¬ (x:Int)≤57 by omega),aP (show ¬ (48≤x∧x≤57) by omega)]
       rfl
   · rw [aP (show ¬ (x:Int)≥97 by omega),aK,aP (show ¬ (97≤x∧x≤122) by omega)]
     by_cases c3:48≤x
     · rw [aO (show (x:Int)≥48 by omega),aY]
       by_cases c4:x≤57
       · rw [aO (show (x:Int)≤57 by omega),aO (show 48≤x∧x≤57 from ⟨c3,c4⟩)]
         rfl
       · rw [aP (show ¬ (x:Int)≤57 by omega),aP (show ¬ (48≤x∧x≤57) by omega)]
         rfl
     · rw [aP (show ¬ (x:Int)≥48 by omega),aK,aP (show ¬ (48≤x∧x≤57) by omega)]
       rfl
theorem oz {k:Nat} (hk:2 ^ 50≤k) {s:ByteArray} (hs:s.size≤1099511627776):eI.f k s=some (jk s,()):=by
 unfold eI.f eI.t
 have hn:=cW s
 refine (eV (L:=fun n i (_:Unit)=>eI.l0 k n s i) (R:=fun r _=>some ((bif mz r then decide (1≤(s.size:Int)∧(s.size:Int)≤12) else false),())) 0 (nb s) (fun _ _=>True) (fun n _ _=>?_) (fun n i _ x rest h0 h1 hx hr hp ih=>?_) (n:=k) (s:=()) (by omega) trivial).trans Cu
 · simp only [hn]
   simp (disch:=omega) only [eI.l0,eI.b0,aP,aK,kc k,aQ,mz,aY]
 · have hb:=C9 h0 h1 hx
   have ih:=ih () trivial
   simp only [hn] at *
   simp (disch:=omega) only [eI.l0,eI.b0,aO h1,aY,aH,hb,aE,ih,mz]
   by_cases c1:97≤x
   · rw [aO (show (x:Int)≥97 by omega),aY]
     by_cases c2:x≤122
     · rw [aO (show (x:Int)≤122 by omega),aO (show 97≤x∧x≤122 from ⟨c1,c2⟩)]
       rfl
     · rw [aP (show ¬ (x:Int)≤122 by omega),aP (show ¬ (97≤x∧x≤122) by omega),aO (show (x:Int)≥48 by omega),aP (show ¬ (x:Int)≤57 by omega),aP (show ¬ (48≤x∧x≤57) by omega)]
       rfl
   · rw [aP (show ¬ (x:Int)≥97 by omega),aK,aP (show ¬ (97≤x∧x≤122) by omega)]
     by_cases c3:48≤x
     · rw [aO (show (x:Int)≥48 by omega),aY]
       by_cases c4:x≤57
       · rw [aO (show (x:Int)≤57 by omega),aO (show 48≤x∧x≤57 from ⟨c3,c4⟩)]
         rfl
       · rw [aP (show ¬ (x:Int)≤57 by omega),aP (show ¬ (48≤x∧x≤57) by omega)]
         rfl
     · rw [aP (show ¬ (x:Int)≥48 by omega),aK,aP (show ¬ (48≤x∧x≤57) by omega)]
       rfl
abbrev aW:=List (Ty.d aB)
def cO (l:aW):Nat:=(l.map fun f=>f.2.1.size).sum
def dz (l:aW):Nat:=(l.map fun f=>f.1.size).sum
theorem dL (x:Ty.d aB) (l:aW):cO (x::l)=x.2.1.size+cO l:=by unfold cO;rw [List.map_cons,List.sum_cons]
theorem uj:cO []=0:=rfl
theorem iP (x:Ty.d aB) (l:aW):dz (x::l)=x.1.size+dz l:=by unfold dz;rw [List.map_cons,List.sum_cons]
theorem oB:∀ l m:aW,cO (l++m)=cO l+cO m
 | [],m=>by rw [List.nil_append,uj,Nat.zero_add]
 | x::l,m=>by rw [List.cons_append,dL,dL,oB l m];omega
theorem mE {l:aW} {x:Ty.d aB} (h:x ∈ l):x.2.1.size≤cO l:=by
 induction l with
 | nil=>cases h
 | cons y l ih =>
  rw [dL]
  rcases List.mem_cons.1 h with e | e
  · subst e;omega
  · have:=ih e;omega
theorem mZ {l:aW} {x:Ty.d aB} (h:x ∈ l):x.1.size≤dz l:=by
 induction l with
 | nil=>cases h
 | cons y l ih =>
  rw [iP]
  rcases List.mem_cons.1 h with e | e
  · subst e;omega
  · have:=ih e;omega
def nQ (p:Option (Ty.d aB)) (x:Ty.d aB):Bool :=
 jk x.1&&(decide ((0:Int)≤x.2.2.1∧x.2.2.1≤(x.2.1.size:Int))&&(match p with | none=>true | some y=>nO y.1 x.1))
def fJ (d:Ty.d a_):Bool :=
 decide (d.1.length≤130)&&(decide ((0:Int)≤d.2.1∧d.2.1≤(100000:Int))&&(decide ((-1:Int)≤d.2.2.1∧d.2.2.1≤(100000:Int))&&(decide ((cO d.1:Int)≤d.2.1)&&qs nQ none d.1)))
theorem ol {k:Nat} (hk:2 ^ 50≤k) {d:Ty.d a_} (hl:d.1.length≤1099511627776) (hu:cO d.1≤1099511627776):dl.f k d=some ((cO d.1:Int),()):=by
 unfold dl.f dl.t
 refine (eV (L:=fun n i s=>dl.l0 k n s i d.1 d.2.1 d.2.2.1 d.2.2.2.1) (R:=fun r s=>some (s+(cO r:Int),())) (Ty.z aB) d.1 (fun i s=>0≤s∧s+(cO (d.1.drop i.toNat):Int)≤1099511627776) (fun n s hs=>?_) (fun n i s x rest h0 h1 hx hr hp ih=>?_) (n:=k) (s:=0) (by omega) ⟨by omega,by rw [show d.1.drop (Int.toNat 0)=d.1 from rfl];omega⟩).trans (by rw [Int.zero_add])
 · simp (disch:=omega) only [dl.l0,dl.b0,aP,aK]
   show some (s,())=some (s+((0:Nat):Int),())
   rw [show s+((0:Nat):Int)=s by omega]
 · have hrest:d.1.drop (i+1).toNat=rest:=by
    have:=congrArg (List.drop 1) hr
    rw [List.drop_drop,List.drop_one,List.tail_cons] at this
    rw [show (i+1).toNat=i.toNat+1 by omega]
    exact this
   rw [hr,dL] at hp
   have ih:=ih (s+(x.2.1.size:Int)) ⟨by omega,by rw [hrest];omega⟩
   simp (disch:=omega) only [dl.l0,dl.b0,aO h1,aY,aH,hx,aE,ih]
   rw [show s+(x.2.1.size:Int)+(cO rest:Int)=s+((x.2.1.size+cO rest:Nat):Int) by omega]
   show _=some (s+((cO (x::rest):Nat):Int),())
   rw [dL]
theorem kw {k:Nat} (hk:2 ^ 50≤k) {d:Ty.d a_} (hu:cO d.1≤1099511627776) (hn:dz d.1≤1099511627776):bh.f k d=some (fJ d,()):=by
 unfold bh.f bh.t fJ
 by_cases c:d.1.length > 130
 · rw [aO (by omega),aY,aP (by omega),Bool.false_and]
 · rw [aP (by omega),aK,aO (by omega),Bool.true_and,ga,aQ]
   cases decide ((0:Int)≤d.2.1∧d.2.1≤(100000:Int)) with
   | false=>rfl
   | true =>
    rw [ff,aK,ga,aQ,Bool.true_and]
    cases decide ((-1:Int)≤d.2.2.1∧d.2.2.1≤(100000:Int)) with
    | false=>rfl
    | true =>
     rw [ff,aK,ol hk (by omega) hu,aQ,Bool.true_and]
     simp only []
     by_cases cu:(cO d.1:Int) > d.2.1
     · rw [aO cu,aY,aP (by omega),Bool.false_and]
     · rw [aP cu,aK,aO (by omega),Bool.true_and]
       refine (qD (L:=fun n i=>bh.l0 k n i d.1 d.2.1 d.2.2.1 d.2.2.2.1) (Ty.z aB) d.1 nQ (some (true,())) (some (false,())) (fun n=>?_) (fun n x h hx=>?_) (fun n i x y h0 h1 hx hy=>?_) (n:=k) (by omega)).trans (by cases qs nQ none d.1 <;> rfl)
       · simp (disch:=omega) only [bh.l0,bh.b0,aP,aK]
       · have hm:x ∈ d.1:=by rw [← hx];exact dx (by omega)
         have hs:=mZ hm
         simp (disch:=omega) only [bh.l0,bh.b0,aO (show (0:Int)<(d.1.length:Int) by omega),aY,aH,hx,om hk,ga k,aQ,aP (show ¬ (0:Int) > 0 by omega),aK,aE,nQ]
         cases jk x.1 <;> cases decide ((0:Int)≤x.2.2.1∧x.2.2.1≤(x.2.1.size:Int)) <;> rfl
       · have hm:x ∈ d.1:=by rw [← hx];exact dx (by omega)
         have hs:=mZ hm
         simp (disch:=omega) only [bh.l0,bh.b0,aO h1,aY,aH,hx,hy,om hk,ga k,aQ,aO (show i > 0 by omega),aK,aE,nQ,md]
         cases jk x.1 <;> cases decide ((0:Int)≤x.2.2.1∧x.2.2.1≤(x.2.1.size:Int)) <;> cases nO y.1 x.1 <;> rfl
theorem Ax {l:aW} {i:Nat} {x:Ty.d aB} (h:i<l.length) (hx:l.getD i (Ty.z aB)=x):cO (l.take (i+1))=cO (l.take i)+x.2.1.size:=by
 rw [List.take_add_one,oB]
 congr 1
 simp only [List.getD,List.getElem?_eq_getElem h,Option.getD_some] at hx
 rw [List.getElem?_eq_getElem h,hx]
 show cO [x]=_
 rw [dL,uj,Nat.add_zero]
theorem uv (l:aW) (i:Nat):cO (l.take i)≤cO l:=by
 have:=oB (l.take i) (l.drop i)
 rw [List.take_append_drop] at this
 omega
theorem iE {k:Nat} (hk:2 ^ 50≤k) {d:Ty.d a_} (hu:cO d.1≤1099511627776) (hn:dz d.1≤1099511627776):bC.f k d=some (fJ d,()):=by
 unfold bC.f bC.t fJ
 by_cases c:d.1.length > 130
 · rw [aO (by omega),aY,aP (by omega),Bool.false_and]
 · rw [aP (by omega),aK,aO (by omega),Bool.true_and,kc,aQ]
   cases decide ((0:Int)≤d.2.1∧d.2.1≤(100000:Int)) with
   | false=>rfl
   | true =>
    rw [ff,aK,kc,aQ,Bool.true_and]
    cases decide ((-1:Int)≤d.2.2.1∧d.2.2.1≤(100000:Int)) with
    | false=>rfl
    | true =>
     rw [ff,aK,Bool.true_and]
     refine (qD (L:=fun n i=>bC.l0 k n (cO (d.1.take i.toNat):Int) d.1 d.1.length i d.1 d.2.1 d.2.2.1 d.2.2.2.1) (Ty.z aB) d.1 nQ (some (decide ((cO d.1:Int)≤d.2.1),())) (some (false,())) (fun n=>?_) (fun n x h hx=>?_) (fun n i x y h0 h1 hx hy=>?_) (n:=k) (by omega)).trans
      (by cases qs nQ none d.1 <;> cases decide ((cO d.1:Int)≤d.2.1) <;> rfl)
     · rw [Int.toNat_natCast,List.take_length]
       simp (disch:=omega) only [bC.l0,bC.b0,aP,aK]
     · have hm:x ∈ d.1:=by rw [← hx];exact dx (by omega)
       have hs:=mZ hm
       have ht:=Ax (l:=d.1) (i:=0) h hx
       have hle:=uv d.1 0
       have hz:=mE hm
       rw [show Int.toNat 1=0+1 from rfl,ht]
       simp only [show Int.toNat 0=0 from rfl] at hx ⊢
       simp (disch:=omega) only [bC.l0,bC.b0,aO (show (0:Int)<(d.1.length:Int) by omega),aY,aH,show Int.toNat 0=0 from rfl,hx,oz hk,kc k,aQ,aP (show ¬ (0:Int) > 0 by omega),aK,aE,nQ]
       rw [show (cO (d.1.take 0):Int)+(x.2.1.size:Int)=((cO (d.1.take 0)+x.2.1.size:Nat):Int) by omega]
       cases jk x.1 <;> cases decide ((0:Int)≤x.2.2.1∧x.2.2.1≤(x.2.1.size:Int)) <;> rfl
     · have hm:x ∈ d.1:=by rw [← hx];exact dx (by omega)
       have hs:=mZ hm
       have ht:=Ax (l:=d.1) (i:=i.toNat) (by omega) hx
       have hle:=uv d.1 i.toNat
       have hz:=mE hm
       rw [show Int.toNat (i+1)=i.toNat+1 by omega,ht]
       simp (disch:=omega) only [bC.l0,bC.b0,aO h1,aY,aH,hx,hy,oz hk,kc k,aQ,aO (show i > 0 by omega),aK,aE,nQ]
       rw [show (cO (d.1.take i.toNat):Int)+(x.2.1.size:Int)=((cO (d.1.take i.toNat)+x.2.1.size:Nat):Int) by omega]
       cases jk x.1 <;> cases decide ((0:Int)≤x.2.2.1∧x.2.2.1≤(x.2.1.size:Int)) <;> cases nO y.1 x.1 <;> rfl
def lY:aW→ByteArray→Int→Int
 | [],_,_ => -1
 | f::l,s,i=>bif seq f.1 s then i else lY l s (i+1)
def ax:aW→ByteArray→Option (Ty.d aB)
 | [],_=>none
 | f::l,s=>bif seq f.1 s then some f else ax l s
theorem tn:∀ (l:aW) (s:ByteArray) (i:Int),(ax l s=none∧lY l s i = -1)∨(∃ f,ax l s=some f∧i≤lY l s i∧lY l s i<i+(l.length:Int)∧l.getD (lY l s i-i).toNat (Ty.z aB)=f∧f ∈ l)
 | [],s,i => .inl ⟨rfl,rfl⟩
 | f::l,s,i=>by
  unfold lY ax
  cases c:seq f.1 s with
  | true=>exact .inr ⟨f,rfl,Int.le_refl _,by rw [aY,lQ];omega,by rw [aY,show (i-i).toNat=0 by omega];rfl,oh ..⟩
  | false =>
   rw [aK,aK]
   rcases tn l s (i+1) with h | ⟨g,h1,h2,h3,h4,h5⟩
   · exact .inl h
   · refine .inr ⟨g,h1,by omega,by rw [lQ];omega,?_,qu _ h5⟩
     rw [show (lY l s (i+1)-i).toNat=(lY l s (i+1)-(i+1)).toNat+1 by omega]
     exact h4
theorem ij {k:Nat} (hk:2 ^ 50≤k) {d:Ty.d a_} (hl:d.1.length≤1099511627776) (s:ByteArray):bS.f k d s=some (lY d.1 s 0,()):=by
 unfold bS.f bS.t
 refine eV (L:=fun n i (_:Int)=>bS.l0 k n s i d.1 d.2.1 d.2.2.1 d.2.2.2.1) (R:=fun r j=>some (lY r s j,())) (Ty.z aB) d.1 (fun i j=>j=i) (fun n j hj=>?_) (fun n i j x rest h0 h1 hx hr hp ih=>?_) (n:=k) (s:=0) (by omega) rfl
 · simp (disch:=omega) only [bS.l0,bS.b0,aP,aK,lY]
 · have ih:=ih (i+1) rfl
   subst hp
   simp (disch:=omega) only [bS.l0,bS.b0,aO h1,aY,aH,hx,aE,ih,lY]
   cases seq x.1 s <;> rfl
theorem jO {k:Nat} (hk:2 ^ 50≤k) {d:Ty.d a_} (hl:d.1.length≤1099511627776) (s:ByteArray):bV.f k d s=some (lY d.1 s 0,()):=by
 unfold bV.f bV.t
 refine eV (L:=fun n i (_:Int)=>bV.l0 k n s d.1 d.1.length i) (R:=fun r j=>some (lY r s j,())) (Ty.z aB) d.1 (fun i j=>j=i) (fun n j hj=>?_) (fun n i j x rest h0 h1 hx hr hp ih=>?_) (n:=k) (s:=0) (by omega) rfl
 · simp (disch:=omega) only [bV.l0,bV.b0,aP,aK,lY]
 · have ih:=ih (i+1) rfl
   subst hp
   simp (disch:=omega) only [bV.l0,bV.b0,aO h1,aY,aH,hx,aE,ih,lY]
   cases seq x.1 s <;> rfl
def ae (d:Ty.d a_) (s:ByteArray):ByteArray × Bool :=
 bif fJ d then (match ax d.1 s with | none=>(⟨#[]⟩,false) | some f=>(f.2.1,true)) else (⟨#[]⟩,false)
theorem iS (d:Ty.d a_) (s:ByteArray):(ae d s).1.size≤cO d.1:=by
 unfold ae
 cases fJ d with
 | false=>exact Nat.zero_le _
 | true =>
  rw [aY]
  rcases tn d.1 s 0 with h | ⟨f,h1,_,_,_,h5⟩
  · rw [h.1];exact Nat.zero_le _
  · rw [h1];exact mE h5
theorem iF {k:Nat} (hk:2 ^ 50≤k) {d:Ty.d a_} (hl:d.1.length≤1099511627776) (hu:cO d.1≤1099511627776) (hn:dz d.1≤1099511627776) (s:ByteArray) :
 bu.f k d s=some ((ae d s).1,((ae d s).2,())):=by
 unfold bu.f bu.t ae
 rw [kw hk hu hn,aQ]
 cases fJ d with
 | false=>rfl
 | true =>
  rw [ij hk hl]
  simp only [aQ,ff,aK,aY]
  rcases tn d.1 s 0 with h | ⟨f,h1,h2,h3,h4,h5⟩
  · rw [h.1,h.2];rfl
  · rw [h1,aP (by omega),aK,aH h2 (by omega)]
    rw [Int.sub_zero] at h4
    rw [h4]
theorem ly {k:Nat} (hk:2 ^ 50≤k) {d:Ty.d a_} (hl:d.1.length≤1099511627776) (hu:cO d.1≤1099511627776) (hn:dz d.1≤1099511627776) (s:ByteArray) :
 cy.f k d s=some ((ae d s).1,((ae d s).2,())):=by
 unfold cy.f cy.t ae
 rw [jO hk hl,aQ]
 simp only []
 rcases tn d.1 s 0 with h | ⟨f,h1,h2,h3,h4,h5⟩
 · rw [h.1,h.2]
   cases fJ d <;> rfl
 · rw [h1,aP (by omega),aK,iE hk hu hn,aQ]
   cases fJ d with
   | false=>rfl
   | true =>
    simp only [ff,aK,aY]
    rw [aH h2 (by omega)]
    rw [Int.sub_zero] at h4
    rw [h4]
def aC (p:ByteArray) (n:Int):ByteArray:=bif decide ((1:Int)≤n∧n≤100000) then p++g_ n else ⟨#[]⟩
def aL:ByteArray:=⟨#[115,101,103]⟩
theorem ba {k:Nat} (hk:2 ^ 50≤k) (n:Int):aV.f k n=some (aC aL n,()):=by
 unfold aV.f aV.t aC
 rw [ga,aQ]
 by_cases c:(1:Int)≤n∧n≤100000
 · have hz:=lm (n:=n) (by omega) (by omega)
   rw [aO c]
   simp only [ff,aK,aY]
   rw [oN hk (by omega) (by omega),aQ,dV (by show 3+(g_ n).size≤_;omega)]
   rfl
 · rw [aP c]
   rfl
theorem tr (k:Nat) {p:ByteArray} (hp:p.size≤1000) (n:Int):jV.f k p n=some (aC p n,()):=by
 unfold jV.f jV.t aC
 rw [kc,aQ]
 by_cases c:(1:Int)≤n∧n≤100000
 · have hz:=lm (n:=n) (by omega) (by omega)
   rw [aO c]
   simp only [ff,aK,aY]
   rw [EI k (by omega) (by omega),aQ,dV (by show p.size+(g_ n).size≤_;omega)]
 · rw [aP c]
   rfl
theorem kv (k:Nat) (n:Int):dp.f k n=some (aC aL n,()):=by
 unfold dp.f dp.t
 rw [tr k (by decide) n]
 rfl
structure p6 (d:Ty.d a_):Prop where
 l:d.1.length≤1073741824
 u:cO d.1≤1073741824
 n:dz d.1≤1073741824
end Go.Proofs.YtgnakpiicdfpkaaGreatDoor.G
namespace Go.V
theorem xt:∀ a b c:List UInt8,Op.bytesLess a b=true→Op.bytesLess b c=true→Op.bytesLess a c=true
 | a,b,[],_,h2=>by cases b <;> simp [Op.bytesLess] at h2
 | [],b,z::c,_,_=>by simp [Op.bytesLess]
 | x::a,[],z::c,h1,_=>by simp [Op.bytesLess] at h1
 | x::a,y::b,z::c,h1,h2=>by
  simp only [Op.bytesLess] at h1 h2 ⊢
  have ih:=xt a b c
  simp only [Bool.or_eq_true,ke,decide_eq_true_eq,beq_iff_eq] at h1 h2 ⊢
  rcases h1 with g1 | ⟨rfl,g1⟩
  · rcases h2 with g2 | ⟨rfl,g2⟩
    · exact Or.inl (UInt8.lt_trans g1 g2)
    · exact Or.inl g1
  · rcases h2 with g2 | ⟨rfl,g2⟩
    · exact Or.inl g2
    · exact Or.inr ⟨rfl,ih g1 g2⟩
theorem vY {a b c:ByteArray} (h1:nO a b=true) (h2:nO b c=true):nO a c=true:=xt _ _ _ h1 h2
theorem qS (a:ByteArray):nO a a=false:=by
 have:=md a a
 rw [cF] at this
 cases h:nO a a with
 | false=>rfl
 | true=>rw [h] at this;cases this
theorem H6 {a b:ByteArray} (h:nO a b=true):nO b a=false:=by
 cases c:nO b a with
 | false=>rfl
 | true=>have:=vY h c;rw [qS] at this;cases this
def iI (K:List ByteArray):Prop:=K.Pairwise (fun a b=>nO a b=true)
end Go.V
namespace Go.Proofs.YtgnakpiicdfpkaaGreatDoor.G
open Go.V
def gh:aW→Ty.d aB→aW
 | [],f=>[f]
 | g::l,f=>bif nO f.1 g.1 then f::g::l else g::gh l f
def gm:aW→ByteArray→aW
 | [],_=>[]
 | g::l,s=>bif seq g.1 s then l else g::gm l s
def fH (h:Ty.d aB→Ty.d aB):aW→ByteArray→aW
 | [],_=>[]
 | g::l,s=>bif seq g.1 s then h g::l else g::fH h l s
def jf (d:Ty.d a_):Ty.d a_ × Int :=
 bif !fJ d then (d,5) else bif d.2.2.2.1 then ((d.1,(d.2.1,(d.2.2.1,(true,())))),1) else bif (d.2.2.1==0) then ((d.1,(d.2.1,(d.2.2.1,(true,())))),1) else
 bif decide ((d.2.2.1:Int) > 0) then ((d.1,(d.2.1,(aF (d.2.2.1-1),d.2.2.2))),0) else (d,0)
def gA (d:Ty.d a_) (g:aW→Int→aW × Int):Ty.d a_ × Int :=
 bif (jf d).2 != 0 then jf d else (((g d.1 d.2.1).1,(jf d).1.2),(g d.1 d.2.1).2)
def sa (s:ByteArray) (l:aW) (c:Int):aW × Int :=
 bif !jk s then (l,5) else bif (ax l s).isSome then (l,4) else bif decide ((l.length:Int)≥130) then (l,2) else (gh l (s,(ByteArray.empty,(0,()))),0)
def wg (s t:ByteArray) (l:aW) (c:Int):aW × Int :=
 bif (ax l s).isNone then (l,3) else bif decide ((t.size:Int) > aF (c-(cO l:Int))) then (l,2) else (fH (fun f=>(f.1,(f.2.1++t,f.2.2))) l s,0)
def tI (s:ByteArray) (l:aW) (c:Int):aW × Int :=
 bif (ax l s).isNone then (l,3) else (fH (fun f=>(f.1,(f.2.1,((f.2.1.size:Int),f.2.2.2)))) l s,0)
def uz (a b:ByteArray) (l:aW) (c:Int):aW × Int :=
 bif !jk b then (l,5) else match ax l a with
 | none=>(l,3)
 | some f=>bif seq a b then (l,0) else (gh (gm (gm l a) b) (b,f.2),0)
def ul (s:ByteArray) (l:aW) (c:Int):aW × Int :=
 bif (ax l s).isNone then (l,3) else (gm l s,0)
def xa (s:ByteArray) (n:Int) (l:aW) (c:Int):aW × Int :=
 match ax l s with
 | none=>(l,3)
 | some f=>bif !decide (0≤n∧n≤(f.2.1.size:Int)) then (l,5) else (fH (fun f=>(f.1,(ByteArray.extract f.2.1 0 n.toNat,((if n<f.2.2.1 then n else f.2.2.1),f.2.2.2)))) l s,0)
def pQ (d:Ty.d a_) (s:ByteArray):=gA d (sa s)
def jI (d:Ty.d a_) (s t:ByteArray):=gA d (wg s t)
def iv (d:Ty.d a_) (s:ByteArray):=gA d (tI s)
def tE (d:Ty.d a_) (a b:ByteArray):=gA d (uz a b)
def se (d:Ty.d a_) (s:ByteArray):=gA d (ul s)
def mN (d:Ty.d a_) (s:ByteArray) (n:Int):=gA d (xa s n)
theorem mY (d:Ty.d a_):(jf d).1.1=d.1:=by
 unfold jf
 cases fJ d <;> cases d.2.2.2.1 <;> cases d.2.2.1==0 <;> cases decide ((d.2.2.1:Int) > 0) <;> rfl
theorem xN (d:Ty.d a_):(jf d).1.2.1=d.2.1:=by
 unfold jf
 cases fJ d <;> cases d.2.2.2.1 <;> cases d.2.2.1==0 <;> cases decide ((d.2.2.1:Int) > 0) <;> rfl
theorem gW:∀ (l:aW) (s:ByteArray) (j:Int),(ax l s=none∧lY l s j = -1∧gm l s=l∧∀ h,fH h l s=l) ∨
 (∃ n:Nat,n<l.length∧lY l s j=j+n∧ax l s=some (l.getD n (Ty.z aB))∧l.take n++l.drop (n+1)=gm l s∧(l.getD n (Ty.z aB)).1=s∧(∀ h,l.set n (h (l.getD n (Ty.z aB)))=fH h l s))
 | [],s,j => .inl ⟨rfl,rfl,rfl,fun _=>rfl⟩
 | g::l,s,j=>by
  unfold lY ax gm fH
  cases c:seq g.1 s with
  | true =>
   refine .inr ⟨0,by rw [lQ];omega,?_,rfl,rfl,cS.1 c,fun h=>rfl⟩
   show j=j+((0:Nat):Int)
   omega
  | false =>
   simp only [aK]
   rcases gW l s (j+1) with ⟨h1,h2,h3,h4⟩ | ⟨n,h1,h2,h3,h4,h5,h6⟩
   · exact .inl ⟨h1,h2,by rw [h3],fun h=>by rw [h4]⟩
   · refine .inr ⟨n+1,by rw [lQ];omega,by rw [h2];omega,h3,?_,h5,fun h=>?_⟩
     · rw [List.take_succ_cons,List.drop_succ_cons,List.cons_append,h4]
     · show g::l.set n (h (l.getD n (Ty.z aB)))=_
       rw [h6]
def FO (f:Ty.d aB):Prop:=jk f.1=true∧LE.le (α:=Int) 0 f.2.2.1∧LE.le (α:=Int) f.2.2.1 f.2.1.size
def jr (l:aW):List ByteArray:=l.map (·.1)
theorem Cw:∀ (l:aW) (p:Option (Ty.d aB)),qs nQ p l=true↔((∀ f ∈ l,FO f)∧iI (jr l)∧(∀ q,p=some q→∀ f ∈ l,nO q.1 f.1=true))
 | [],p=>by
  constructor
  · intro _
    exact ⟨fun f h=>(by cases h),List.Pairwise.nil,fun q _ f h=>(by cases h)⟩
  · intro _;rfl
 | g::l,p=>by
  have ih:=Cw l (some g)
  unfold qs
  rw [ke,ih]
  have hf:nQ p g=true↔(FO g∧(∀ q,p=some q→nO q.1 g.1=true)):=by
   unfold nQ FO
   rw [ke,ke,decide_eq_true_eq]
   cases p with
   | none=>exact ⟨fun h=>⟨⟨h.1,h.2.1⟩,fun q hq=>(by cases hq)⟩,fun h=>⟨h.1.1,h.1.2,rfl⟩⟩
   | some q=>exact ⟨fun h=>⟨⟨h.1,h.2.1⟩,fun q' hq=>(by cases hq;exact h.2.2)⟩,fun h=>⟨h.1.1,h.1.2,h.2 q rfl⟩⟩
  rw [hf]
  constructor
  · rintro ⟨⟨h1,h2⟩,h3,h4,h5⟩
    refine ⟨fun f hf=>?_,?_,fun q hq f hf=>?_⟩
    · rcases List.mem_cons.1 hf with e | e
      · rw [e];exact h1
      · exact h3 f e
    · unfold iI jr
      rw [List.map_cons,List.pairwise_cons]
      refine ⟨fun x hx=>?_,h4⟩
      obtain ⟨f,hf,rfl⟩:=List.mem_map.1 hx
      exact h5 g rfl f hf
    · rcases List.mem_cons.1 hf with e | e
      · rw [e];exact h2 q hq
      · exact vY (h2 q hq) (h5 g rfl f e)
  · rintro ⟨h1,h2,h3⟩
    unfold iI jr at h2
    rw [List.map_cons,List.pairwise_cons] at h2
    refine ⟨⟨h1 g (oh ..),fun q hq=>h3 q hq g (oh ..)⟩,fun f hf=>h1 f (qu _ hf),h2.2,fun q hq f hf=>?_⟩
    cases hq
    exact h2.1 f.1 (List.mem_map.2 ⟨f,hf,rfl⟩)
structure DR (d:Ty.d a_):Prop where
 len:d.1.length≤130
 cap0:LE.le (α:=Int) 0 d.2.1
 cap1:LE.le (α:=Int) d.2.1 100000
 fu0:LE.le (α:=Int) (-1) d.2.2.1
 fu1:LE.le (α:=Int) d.2.2.1 100000
 use:LE.le (α:=Int) (cO d.1) d.2.1
 all:∀ f ∈ d.1,FO f
 keys:iI (jr d.1)
theorem dO {d:Ty.d a_}:fJ d=true↔DR d:=by
 unfold fJ
 rw [ke,ke,ke,ke,decide_eq_true_eq,decide_eq_true_eq,decide_eq_true_eq,decide_eq_true_eq,Cw]
 constructor
 · rintro ⟨h1,⟨h2,h3⟩,⟨h4,h5⟩,h6,h7,h8,_⟩
   exact ⟨h1,h2,h3,h4,h5,h6,h7,h8⟩
 · intro h
   exact ⟨h.len,⟨h.cap0,h.cap1⟩,⟨h.fu0,h.fu1⟩,h.use,h.all,h.keys,fun q hq=>(by cases hq)⟩
theorem Ej {s:ByteArray} (h:jk s=true):1≤s.size∧s.size≤12:=by
 unfold jk at h
 rw [ke,decide_eq_true_eq] at h
 exact h.2
theorem uX:∀ l:aW,(∀ f ∈ l,FO f)→dz l≤12*l.length
 | [],_=>Nat.le_refl _
 | f::l,h=>by
  have:=uX l fun g hg=>h g (qu _ hg)
  have:=(Ej (h f (oh ..)).1).2
  rw [iP,lQ]
  omega
theorem DR.sz {d:Ty.d a_} (h:DR d):p6 d:=by
 have h1:=h.len
 have h2:=h.use
 have h3:=h.cap1
 have h4:=uX d.1 h.all
 exact ⟨by omega,by omega,by omega⟩
theorem xD {l:aW} {f x:Ty.d aB}:x ∈ gh l f↔x=f∨x ∈ l:=by
 induction l with
 | nil=>simp [gh]
 | cons g l ih =>
  unfold gh
  cases nO f.1 g.1
  · simp only [aK,List.mem_cons,ih]
    exact ⟨fun h=>h.elim (fun q => .inr (.inl q)) (fun q=>q.elim .inl (fun q => .inr (.inr q))),fun h=>h.elim (fun q => .inr (.inl q)) (fun q=>q.elim .inl (fun q => .inr (.inr q)))⟩
  · simp only [aY,List.mem_cons]
theorem n5:∀ (l:aW) (s:ByteArray),(gm l s).Sublist l
 | [],s=>List.Sublist.slnil
 | g::l,s=>by
  unfold gm
  cases seq g.1 s
  · exact (n5 l s).cons_cons g
  · exact (List.Sublist.refl l).cons g
theorem Fj {h:Ty.d aB→Ty.d aB} (hh:∀ f,(h f).1=f.1):∀ (l:aW) (s:ByteArray),jr (fH h l s)=jr l
 | [],s=>rfl
 | g::l,s=>by
  unfold fH
  cases seq g.1 s
  · show g.1::jr (fH h l s)=g.1::jr l
    rw [Fj hh l s]
  · show (h g).1::jr l=g.1::jr l
    rw [hh]
theorem zA {h:Ty.d aB→Ty.d aB} (hh:∀ f,(h f).1=f.1) {l:aW} {s:ByteArray} (hk:iI (jr l)):iI (jr (fH h l s)):=by
 rw [Fj hh]
 exact hk
theorem sZ {h:Ty.d aB→Ty.d aB}:∀ {l:aW} {s:ByteArray} {x:Ty.d aB},x ∈ fH h l s→x ∈ l∨∃ f,ax l s=some f∧x=h f
 | [],s,x,hx => .inl hx
 | g::l,s,x,hx=>by
  unfold fH at hx
  unfold ax
  cases c:seq g.1 s with
  | true =>
   rw [c,aY] at hx
   rcases List.mem_cons.1 hx with e | e
   · exact .inr ⟨g,rfl,e⟩
   · exact .inl (qu _ e)
  | false =>
   rw [c,aK] at hx
   rcases List.mem_cons.1 hx with e | e
   · exact .inl (by rw [e];exact oh ..)
   · rcases sZ e with q | ⟨f,q1,q2⟩
     · exact .inl (qu _ q)
     · exact .inr ⟨f,q1,q2⟩
theorem uN {h:Ty.d aB→Ty.d aB}:∀ {l:aW} {s:ByteArray} {f:Ty.d aB},ax l s=some f→cO (fH h l s)+f.2.1.size=cO l+(h f).2.1.size
 | [],s,f,hf=>by cases hf
 | g::l,s,f,hf=>by
  unfold ax at hf
  unfold fH
  cases c:seq g.1 s with
  | true =>
   rw [c] at hf
   cases hf
   rw [aY,dL,dL]
   omega
  | false =>
   rw [c] at hf
   have:=uN (h:=h) hf
   rw [aK,dL,dL]
   omega
theorem oT:∀ (l:aW) (f:Ty.d aB),cO (gh l f)=cO l+f.2.1.size
 | [],f=>by unfold gh;rw [dL,uj,Nat.add_comm]
 | g::l,f=>by
  unfold gh
  cases nO f.1 g.1
  · rw [aK,dL,dL,oT l f];omega
  · rw [aY,dL,dL];omega
theorem zK:∀ {l:aW} {s:ByteArray} {f:Ty.d aB},ax l s=some f→cO (gm l s)+f.2.1.size=cO l
 | [],s,f,hf=>by cases hf
 | g::l,s,f,hf=>by
  unfold ax at hf
  unfold gm
  cases c:seq g.1 s with
  | true=>rw [c] at hf;cases hf;rw [aY,dL];omega
  | false =>
   rw [c] at hf
   have:=zK hf
   rw [aK,dL,dL]
   omega
theorem vo (l:aW) (s:ByteArray):cO (gm l s)≤cO l:=by
 cases h:ax l s with
 | some f=>have:=zK h;omega
 | none =>
  rcases gW l s 0 with ⟨_,_,h3,_⟩ | ⟨n,_,_,h3,_⟩
  · rw [h3];exact Nat.le_refl _
  · rw [h] at h3;cases h3
theorem qK:∀ (l:aW) (f:Ty.d aB),(gh l f).length=l.length+1
 | [],f=>rfl
 | g::l,f=>by
  unfold gh
  cases nO f.1 g.1
  · rw [aK,lQ,qK l f,lQ]
  · rw [aY,lQ,lQ]
theorem xG (h:Ty.d aB→Ty.d aB):∀ (l:aW) (s:ByteArray),(fH h l s).length=l.length
 | [],s=>rfl
 | g::l,s=>by
  unfold fH
  cases seq g.1 s
  · rw [aK,lQ,xG h l s,lQ]
  · rw [aY,lQ,lQ]
theorem kA:∀ {l:aW} {s:ByteArray} {f:Ty.d aB},ax l s=some f→f ∈ l∧f.1=s
 | [],s,f,h=>by cases h
 | g::l,s,f,h=>by
  unfold ax at h
  cases c:seq g.1 s with
  | true=>rw [c] at h;cases h;exact ⟨oh ..,cS.1 c⟩
  | false =>
   rw [c] at h
   exact ⟨qu _ (kA h).1,(kA h).2⟩
theorem oP:∀ {l:aW} {s:ByteArray},ax l s=none↔∀ f ∈ l,f.1≠s
 | [],s=>⟨fun _ f h=>(by cases h),fun _=>rfl⟩
 | g::l,s=>by
  unfold ax
  cases c:seq g.1 s with
  | true =>
   constructor
   · intro h;cases h
   · intro h;exact absurd (cS.1 c) (h g (oh ..))
  | false =>
   rw [aK,oP]
   constructor
   · intro h f hf
     rcases List.mem_cons.1 hf with e | e
     · rw [e];intro q;rw [KD q] at c;cases c
     · exact h f e
   · intro h f hf;exact h f (qu _ hf)
theorem xm {f:Ty.d aB}:∀ {l:aW},iI (jr l)→(∀ g ∈ l,g.1≠f.1)→iI (jr (gh l f))
 | [],_,_=>by unfold gh;exact List.pairwise_singleton ..
 | g::l,h,hn=>by
  unfold iI jr at h
  rw [List.map_cons,List.pairwise_cons] at h
  unfold gh
  cases c:nO f.1 g.1 with
  | true =>
   rw [aY]
   unfold iI jr
   rw [List.map_cons,List.pairwise_cons]
   refine ⟨fun x hx=>?_,by rw [List.map_cons,List.pairwise_cons];exact h⟩
   rw [List.map_cons] at hx
   rcases List.mem_cons.1 hx with e | e
   · rw [e];exact c
   · exact vY c (h.1 x e)
  | false =>
   rw [aK]
   have ih:=xm (f:=f) (l:=l) h.2 fun g' hg=>hn g' (qu _ hg)
   unfold iI jr
   rw [List.map_cons,List.pairwise_cons]
   refine ⟨fun x hx=>?_,ih⟩
   obtain ⟨y,hy,rfl⟩:=List.mem_map.1 hx
   rcases xD.1 hy with e | e
   · rw [e]
     have ht:=md g.1 f.1
     rw [c,lW (hn g (oh ..))] at ht
     cases q:nO g.1 f.1 with
     | true=>rfl
     | false=>rw [q] at ht;cases ht
   · exact h.1 y.1 (List.mem_map.2 ⟨y,e,rfl⟩)
theorem pr {l m:aW} (h:m.Sublist l) (hk:iI (jr l)):iI (jr m):=List.Pairwise.sublist (h.map _) hk
theorem Ji {l:aW} (hk:iI (jr l)) {s:ByteArray} {f:Ty.d aB} (h:ax l s=some f):ax (gm l s) s=none:=by
 induction l with
 | nil=>cases h
 | cons g l ih =>
  unfold iI jr at hk
  rw [List.map_cons,List.pairwise_cons] at hk
  unfold ax at h
  unfold gm
  cases c:seq g.1 s with
  | true =>
   rw [aY,oP]
   intro x hx e
   have:=hk.1 x.1 (List.mem_map.2 ⟨x,hx,rfl⟩)
   rw [e,cS.1 c,qS] at this
   cases this
  | false =>
   rw [c] at h
   rw [aK]
   unfold ax
   rw [c,aK]
   exact ih hk.2 h
theorem uc {l:aW} (hk:iI (jr l)) (s:ByteArray):ax (gm l s) s=none:=by
 cases h:ax l s with
 | some f=>exact Ji hk h
 | none =>
  rcases gW l s 0 with ⟨h1,_,h3,_⟩ | ⟨n,_,_,h3,_⟩
  · rw [h3];exact h1
  · rw [h] at h3;cases h3
def GR (g:aW→Int→aW × Int):Prop:=∀ l c,l.length≤130→(0:Int)≤c→c≤100000→(cO l:Int)≤c→(∀ f ∈ l,FO f)→iI (jr l) →
 (g l c).1.length≤130∧(cO (g l c).1:Int)≤c∧(∀ f ∈ (g l c).1,FO f)∧iI (jr (g l c).1)
theorem Jr {d:Ty.d a_} (h:DR d):DR (jf d).1:=by
 have hd:=dO.2 h
 have g0:=h.fu0
 have g1:=h.fu1
 unfold jf
 rw [hd]
 cases c1:d.2.2.2.1 with
 | true=>exact ⟨h.len,h.cap0,h.cap1,h.fu0,h.fu1,h.use,h.all,h.keys⟩
 | false =>
  cases c2:d.2.2.1==0 with
  | true=>exact ⟨h.len,h.cap0,h.cap1,h.fu0,h.fu1,h.use,h.all,h.keys⟩
  | false =>
   by_cases c3:(d.2.2.1:Int) > 0
   · have e:∀ x:Int,x > 0→x≤100000 → -1≤aF (x-1)∧aF (x-1)≤100000:=fun x q1 q2=>by
      rw [aE (by omega) (by omega)]
      omega
     have e:=e d.2.2.1 c3 g1
     rw [aO c3]
     exact ⟨h.len,h.cap0,h.cap1,e.1,e.2,h.use,h.all,h.keys⟩
   · rw [aP c3]
     exact h
theorem sM {g:aW→Int→aW × Int} (hg:GR g) {d:Ty.d a_} (h:DR d):DR (gA d g).1:=by
 have hb:=Jr h
 unfold gA
 cases c:(jf d).2 != 0 with
 | true=>exact hb
 | false =>
  have hk:(jf d).1.2.1=d.2.1:=xN d
  obtain ⟨g1,g2,g3,g4⟩:=hg d.1 d.2.1 h.len h.cap0 h.cap1 h.use h.all h.keys
  exact ⟨g1,hb.cap0,hb.cap1,hb.fu0,hb.fu1,by show (cO (g d.1 d.2.1).1:Int)≤(jf d).1.2.1;rw [hk];exact g2,g3,g4⟩
theorem LS (s:ByteArray):GR (sa s):=by
 intro l c h1 h2 h3 h4 h5 h6
 unfold sa
 cases hn:jk s with
 | false=>exact ⟨h1,h4,h5,h6⟩
 | true =>
  cases hs:(ax l s).isSome with
  | true=>exact ⟨h1,h4,h5,h6⟩
  | false =>
   by_cases hl:(l.length:Int)≥130
   · rw [aO hl];exact ⟨h1,h4,h5,h6⟩
   · rw [aP hl]
     have hnone:ax l s=none:=by
      cases q:ax l s with
      | none=>rfl
      | some f=>rw [q] at hs;cases hs
     refine ⟨by show (gh l _).length≤130;rw [qK];omega,by show (cO (gh l _):Int)≤c;rw [oT];exact h4,fun f hf=>?_,xm h6 (oP.1 hnone)⟩
     rcases xD.1 hf with e | e
     · rw [e];exact ⟨hn,Int.le_refl _,by show (0:Int)≤_;omega⟩
     · exact h5 f e
theorem Ly (s t:ByteArray):GR (wg s t):=by
 intro l c h1 h2 h3 h4 h5 h6
 unfold wg
 cases hs:ax l s with
 | none=>exact ⟨h1,h4,h5,h6⟩
 | some f =>
  simp only [Option.isNone_some,aK]
  rw [aE (by omega) (by omega)]
  by_cases ht:(t.size:Int) > c-(cO l:Int)
  · rw [aO ht];exact ⟨h1,h4,h5,h6⟩
  · rw [aP ht]
    have hu:=uN (h:=fun f=>(f.1,(f.2.1++t,f.2.2))) hs
    have hz:(f.2.1++t).size=f.2.1.size+t.size:=ByteArray.size_append ..
    simp only [hz] at hu
    refine ⟨by show (fH _ l s).length≤130;rw [xG];exact h1,by show (cO (fH _ l s):Int)≤c;omega,fun x hx=>?_,zA (by intro f;rfl) h6⟩
    rcases sZ hx with q | ⟨y,q1,q2⟩
    · exact h5 x q
    · obtain ⟨a,b,c'⟩:=h5 y (kA q1).1
      rw [q2]
      refine ⟨a,b,?_⟩
      show LE.le (α:=Int) y.2.2.1 ((y.2.1++t).size:Int)
      have:(y.2.1++t).size=y.2.1.size+t.size:=ByteArray.size_append ..
      omega
theorem LC (s:ByteArray):GR (tI s):=by
 intro l c h1 h2 h3 h4 h5 h6
 unfold tI
 cases hs:ax l s with
 | none=>exact ⟨h1,h4,h5,h6⟩
 | some f =>
  simp only [Option.isNone_some,aK]
  have hu:=uN (h:=fun f=>(f.1,(f.2.1,((f.2.1.size:Int),f.2.2.2)))) hs
  refine ⟨by show (fH _ l s).length≤130;rw [xG];exact h1,by show (cO (fH _ l s):Int)≤c;simp only [] at hu;omega,fun x hx=>?_,zA (by intro f;rfl) h6⟩
  rcases sZ hx with q | ⟨y,q1,q2⟩
  · exact h5 x q
  · obtain ⟨a,b,c'⟩:=h5 y (kA q1).1
    rw [q2]
    exact ⟨a,by show (0:Int)≤(y.2.1.size:Int);omega,Int.le_refl _⟩
theorem M3 (s:ByteArray):GR (ul s):=by
 intro l c h1 h2 h3 h4 h5 h6
 unfold ul
 cases hs:ax l s with
 | none=>exact ⟨h1,h4,h5,h6⟩
 | some f =>
  have hd:=n5 l s
  have hu:=vo l s
  exact ⟨Nat.le_trans hd.length_le h1,by show (cO (gm l s):Int)≤c;omega,fun x hx=>h5 x (hd.subset hx),pr hd h6⟩
theorem nt (s:ByteArray) {n:Nat} (h:n≤s.size):(ByteArray.extract s 0 n).size=n:=by
 rw [ByteArray.size_extract]
 omega
theorem Ln (s:ByteArray) (n:Int):GR (xa s n):=by
 intro l c h1 h2 h3 h4 h5 h6
 unfold xa
 cases hs:ax l s with
 | none=>exact ⟨h1,h4,h5,h6⟩
 | some f =>
  simp only []
  by_cases hn:0≤n∧n≤(f.2.1.size:Int)
  · rw [aO hn]
    have hu:=uN (h:=fun f=>(f.1,(ByteArray.extract f.2.1 0 n.toNat,((if n<f.2.2.1 then n else f.2.2.1),f.2.2.2)))) hs
    have hz:=nt f.2.1 (n:=n.toNat) (by omega)
    simp only [hz] at hu
    refine ⟨by show (fH _ l s).length≤130;rw [xG];exact h1,by show (cO (fH _ l s):Int)≤c;omega,fun x hx=>?_,zA (by intro f;rfl) h6⟩
    rcases sZ hx with q | ⟨y,q1,q2⟩
    · exact h5 x q
    · rw [hs] at q1
      cases q1
      obtain ⟨a,b,c'⟩:=h5 f (kA hs).1
      rw [q2]
      refine ⟨a,?_,?_⟩
      · show (0:Int)≤if n<f.2.2.1 then n else f.2.2.1
        split <;> omega
      · show (if n<f.2.2.1 then n else f.2.2.1)≤((ByteArray.extract f.2.1 0 n.toNat).size:Int)
        rw [hz]
        split <;> omega
  · rw [aP hn];exact ⟨h1,h4,h5,h6⟩
theorem LV (a b:ByteArray):GR (uz a b):=by
 intro l c h1 h2 h3 h4 h5 h6
 unfold uz
 cases hn:jk b with
 | false=>exact ⟨h1,h4,h5,h6⟩
 | true =>
  simp only [ff,aK]
  cases hs:ax l a with
  | none=>exact ⟨h1,h4,h5,h6⟩
  | some f =>
   simp only []
   cases seq a b with
   | true=>exact ⟨h1,h4,h5,h6⟩
   | false =>
    simp only [aK]
    have hd:=n5 l a
    have hd2:=n5 (gm l a) b
    have hu:=zK hs
    have hu2:=vo (gm l a) b
    have hk2:=pr (hd2.trans hd) h6
    have hl:=gW l a 0
    have hlen:(gm l a).length+1=l.length:=by
     rcases gW l a 0 with ⟨q,_⟩ | ⟨n,q1,_,_,q4,_⟩
     · rw [hs] at q;cases q
     · rw [← q4,xF,List.length_take,List.length_drop];omega
    have hlen2:=hd2.length_le
    refine ⟨by rw [qK];omega,by rw [oT];show ((cO (gm (gm l a) b)+f.2.1.size:Nat):Int)≤c;omega,fun x hx=>?_,xm hk2 (oP.1 (uc (pr hd h6) b))⟩
    rcases xD.1 hx with e | e
    · rw [e]
      exact ⟨hn,(h5 f (kA hs).1).2.1,(h5 f (kA hs).1).2.2⟩
    · exact h5 x ((hd2.trans hd).subset e)
theorem tA {d:Ty.d a_} (h:DR d) (s:ByteArray):DR (pQ d s).1:=sM (LS s) h
theorem pJ {d:Ty.d a_} (h:DR d) (s t:ByteArray):DR (jI d s t).1:=sM (Ly s t) h
theorem nP {d:Ty.d a_} (h:DR d) (s:ByteArray):DR (iv d s).1:=sM (LC s) h
theorem FB {d:Ty.d a_} (h:DR d) (a b:ByteArray):DR (tE d a b).1:=sM (LV a b) h
theorem xV {d:Ty.d a_} (h:DR d) (s:ByteArray):DR (se d s).1:=sM (M3 s) h
theorem vL {d:Ty.d a_} (h:DR d) (s:ByteArray) (n:Int):DR (mN d s n).1:=sM (Ln s n) h
theorem kD (k:Nat) {d:Ty.d a_} (hd:p6 d):cI.f k d=some (d,()):=by
 have hl:=hd.l
 unfold cI.f cI.t
 rw [bO (by omega) (by decide),List.nil_append]
theorem lI {k:Nat} (hk:2 ^ 50≤k) {d:Ty.d a_} (hd:p6 d):dE.f k d=some ((jf d).1,((jf d).2,())):=by
 have hu:=hd.u
 have hn:=hd.n
 unfold dE.f dE.t jf
 rw [kD k hd,aQ,kw hk (by omega) (by omega),aQ]
 cases fJ d <;> cases d.2.2.2.1 <;> cases d.2.2.1==0 <;> cases decide ((d.2.2.1:Int) > 0) <;> rfl
theorem kT {k:Nat} (hk:2 ^ 50≤k) {l:aW} (f:Ty.d aB) (hl:l.length≤1073741824):b_.f k l f=some (gh l f,()):=by
 unfold b_.f b_.t
 refine (eV (L:=fun n i (s:Bool × aW)=>b_.l0 k n l s.1 i f.1 f.2.1 f.2.2.1 s.2) (R:=fun r s=>some (s.2++(bif s.1 then r else gh r f),())) (Ty.z aB) l (fun i s=>(s.2.length:Int)≤i+1∧(s.1=false→(s.2.length:Int)≤i)) (fun n s hs=>?_) (fun n i s x rest h0 h1 hx hr hs ih=>?_) (n:=k) (s:=(false,[])) (by omega) ⟨by simp,by simp⟩).trans ?_
 · obtain ⟨b,o⟩:=s
   simp only [] at hs
   simp only [b_.l0,b_.b0]
   rw [aP (by omega),aK]
   cases b with
   | true=>simp only [ff,aK,aY,List.append_nil]
   | false=>simp only [qj,aK,aY];rw [bO (by omega) (by decide)];rfl
 · obtain ⟨b,o⟩:=s
   simp only [] at hs ih
   simp only [b_.l0,b_.b0]
   rw [aO h1,aY]
   have hlo:(o++[(f.1,(f.2.1,(f.2.2.1,())))]).length=o.length+1:=by simp
   obtain ⟨hs1,hs2⟩:=hs
   simp (disch:=first | omega | decide) only [aH,hx,bO,aE,md,Bool.not_not]
   cases b with
   | true =>
    have i1:=ih (true,o++[x]) ⟨by simp only [bK];omega,fun q=>(by cases q)⟩
    simp only [] at i1
    simp only [ff,aK,aY]
    rw [i1]
    simp only [aY,s7,List.singleton_append]
   | false =>
    have hs2:=hs2 rfl
    have i2:=ih (false,o++[x]) ⟨by simp only [bK];omega,fun _=>by simp only [bK];omega⟩
    simp only [] at i2
    simp only [qj,aY,aK]
    unfold gh
    cases c:nO f.1 x.1 with
    | true =>
     simp only [aY]
     have i3:=ih (true,(o++[(f.1,(f.2.1,(f.2.2.1,())))])++[x]) ⟨by simp only [bK];omega,fun q=>(by cases q)⟩
     simp only [] at i3
     rw [i3]
     simp only [aY,s7,List.singleton_append]
     rfl
    | false =>
     simp only [aK]
     rw [i2]
     simp only [aK,s7,List.singleton_append]
 · simp only [aK,List.nil_append]
theorem mQ (k:Nat) {l:aW} {n:Nat} (hn:n<l.length) (hl:l.length≤1073741824):du.f k l (n:Int)=some (l.take n++l.drop (n+1),()):=by
 unfold du.f du.t
 have e:aF ((n:Int)+1)=((n+1:Nat):Int):=by rw [aE (by omega) (by omega)];omega
 rw [e,nU,nU,bq (by omega) (by omega),bq (by omega) (by omega),bO (by rw [List.length_take];omega) (by decide),bO (by rw [xF,List.length_take,List.length_drop];simp only [List.length_nil];omega) (by decide),List.nil_append]
theorem nv (d:Ty.d a_):∃ b2,(jf d).1=(d.1,b2):=⟨(jf d).1.2,Prod.ext (mY d) rfl⟩
theorem o_ {k:Nat} (hk:2 ^ 50≤k) {d:Ty.d a_} (hd:p6 d) {s:ByteArray} (hs:s.size≤1099511627776):eG.f k d s=some ((pQ d s).1,((pQ d s).2,())):=by
 have hl:=hd.l
 unfold eG.f eG.t pQ gA
 rw [lI hk hd,aQ]
 obtain ⟨b2,hb⟩:=nv d
 simp only [hb]
 cases c:(jf d).2 != 0 with
 | true=>rw [aY,aY,hb]
 | false =>
  rw [aK,aK,om hk hs,aQ]
  unfold sa
  cases jk s with
  | false=>rfl
  | true =>
   simp only [ff,aK]
   rw [ij hk (by omega),aQ]
   rcases gW d.1 s 0 with ⟨h1,h2,_⟩ | ⟨n,h1,h2,h3,_⟩
   · rw [h1,h2]
     simp only [Option.isSome_none,aK]
     rw [aP (by decide),aK]
     by_cases cl:(d.1.length:Int)≥130
     · rw [aO cl];rfl
     · rw [aP cl,aK,aK,kT hk _ (by omega),aQ]
   · rw [h2,h3]
     simp only [Option.isSome_some,aY]
     rw [aO (by omega),aY]
theorem oI {k:Nat} (hk:2 ^ 50≤k) {d:Ty.d a_} (hd:p6 d) (s:ByteArray) {t:ByteArray} (ht:t.size≤1099511627776):cQ.f k d s t=some ((jI d s t).1,((jI d s t).2,())):=by
 have hl:=hd.l
 have hu:=hd.u
 unfold cQ.f cQ.t jI gA
 rw [lI hk hd,aQ]
 obtain ⟨b2,hb⟩:=nv d
 simp only [hb]
 cases c:(jf d).2 != 0 with
 | true=>rw [aY,aY,hb]
 | false =>
  rw [aK,aK,ij hk (by omega),aQ]
  unfold wg
  rcases gW d.1 s 0 with ⟨h1,h2,_⟩ | ⟨n,h1,h2,h3,_,_,h6⟩
  · rw [h1,h2]
    simp only [Option.isNone_none,aY]
    rw [aO (by decide),aY]
  · rw [Int.zero_add] at h2
    rw [h2,h3]
    simp only [Option.isNone_some,aK]
    rw [aP (by omega),aK,ol hk (by omega) (by omega),aQ]
    simp only []
    cases decide ((t.size:Int) > aF (d.2.1-(cO d.1:Int))) with
    | true=>rfl
    | false =>
     have hm:=mE (kA h3).1
     rw [aK,aK,nU,aH (by omega) (by omega),aH (by omega) (by omega),dV (Nat.le_trans (Nat.add_le_add (Nat.le_trans hm hu) ht) (by decide)),← h6]
theorem lq {k:Nat} (hk:2 ^ 50≤k) {d:Ty.d a_} (hd:p6 d) (s:ByteArray):d6.f k d s=some ((iv d s).1,((iv d s).2,())):=by
 have hl:=hd.l
 unfold d6.f d6.t iv gA
 rw [lI hk hd,aQ]
 obtain ⟨b2,hb⟩:=nv d
 simp only [hb]
 cases c:(jf d).2 != 0 with
 | true=>rw [aY,aY,hb]
 | false =>
  rw [aK,aK,ij hk (by omega),aQ]
  unfold tI
  rcases gW d.1 s 0 with ⟨h1,h2,_⟩ | ⟨n,h1,h2,h3,_,_,h6⟩
  · rw [h1,h2]
    simp only [Option.isNone_none,aY]
    rw [aO (by decide),aY]
  · rw [Int.zero_add] at h2
    rw [h2,h3]
    simp only [Option.isNone_some,aK]
    rw [aP (by omega),aK,nU,aH (by omega) (by omega),aH (by omega) (by omega),← h6]
theorem xn {k:Nat} (hk:2 ^ 50≤k) {d:Ty.d a_} (hd:p6 d) (a:ByteArray) {b:ByteArray} (hs:b.size≤1099511627776):fk.f k d a b=some ((tE d a b).1,((tE d a b).2,())):=by
 have hl:=hd.l
 unfold fk.f fk.t tE gA
 rw [lI hk hd,aQ]
 obtain ⟨b2,hb⟩:=nv d
 simp only [hb]
 cases c:(jf d).2 != 0 with
 | true=>rw [aY,aY,hb]
 | false =>
  rw [aK,aK,om hk hs,aQ]
  unfold uz
  cases jk b with
  | false=>rfl
  | true =>
   simp only [ff,aK]
   rw [ij hk (by omega),aQ]
   rcases gW d.1 a 0 with ⟨h1,h2,_⟩ | ⟨n,h1,h2,h3,h4,_,_⟩
   · rw [h1,h2]
     simp only []
     rw [aO (by decide),aY]
   · rw [Int.zero_add] at h2
     rw [h2,h3]
     simp only []
     rw [aP (by omega),aK]
     cases seq a b with
     | true=>rfl
     | false =>
      have hd1:=(n5 d.1 a).length_le
      rw [aK,aK,nU,aH (by omega) (by omega),mQ k h1 (by omega),aQ,h4]
      simp only []
      rw [ij hk (d:=(gm d.1 a,b2)) (by show (gm d.1 a).length≤_;omega),aQ]
      simp only []
      rcases gW (gm d.1 a) b 0 with ⟨g1,g2,g3,_⟩ | ⟨m,g1,g2,g3,g4,_⟩
      · rw [g2,g3,aP (by decide),aK,kT hk _ (by omega),aQ]
      · rw [Int.zero_add] at g2
        have hd2:=(n5 (gm d.1 a) b).length_le
        rw [g2,aO (by omega),aY,mQ k g1 (by omega),aQ,g4]
        simp only []
        rw [kT hk _ (by omega),aQ]
theorem tZ {k:Nat} (hk:2 ^ 50≤k) {d:Ty.d a_} (hd:p6 d) (s:ByteArray):fL.f k d s=some ((se d s).1,((se d s).2,())):=by
 have hl:=hd.l
 unfold fL.f fL.t se gA
 rw [lI hk hd,aQ]
 obtain ⟨b2,hb⟩:=nv d
 simp only [hb]
 cases c:(jf d).2 != 0 with
 | true=>rw [aY,aY,hb]
 | false =>
  rw [aK,aK,ij hk (by omega),aQ]
  unfold ul
  rcases gW d.1 s 0 with ⟨h1,h2,_⟩ | ⟨n,h1,h2,h3,h4,_⟩
  · rw [h1,h2]
    simp only [Option.isNone_none,aY]
    rw [aO (by decide),aY]
  · rw [Int.zero_add] at h2
    rw [h2,h3]
    simp only [Option.isNone_some,aK]
    rw [aP (by omega),aK,mQ k h1 (by omega),aQ,h4]
theorem uE {l:aW} {n:Nat} (h:n<l.length) (x z:Ty.d aB):(l.set n x).getD n z=x:=by
 simp [List.getD,h]
theorem set_set {l:aW} {n:Nat} (x y:Ty.d aB):(l.set n x).set n y=l.set n y:=by simp
theorem FM {k:Nat} (hk:2 ^ 50≤k) {d:Ty.d a_} (hd:p6 d) (s:ByteArray) (m:Int):ip.f k d s m=some ((mN d s m).1,((mN d s m).2,())):=by
 have hl:=hd.l
 unfold ip.f ip.t mN gA
 rw [lI hk hd,aQ]
 obtain ⟨b2,hb⟩:=nv d
 simp only [hb]
 cases c:(jf d).2 != 0 with
 | true=>rw [aY,aY,hb]
 | false =>
  rw [aK,aK,ij hk (by omega),aQ]
  unfold xa
  rcases gW d.1 s 0 with ⟨h1,h2,_⟩ | ⟨n,h1,h2,h3,_,_,h6⟩
  · rw [h1,h2]
    simp only []
    rw [aO (by decide),aY]
  · rw [Int.zero_add] at h2
    rw [h2,h3]
    simp only []
    rw [aP (by omega),aK,nU,aH (by omega) (by omega),ga,aQ]
    by_cases hm:0≤m∧m≤((d.1.getD n (Ty.z aB)).2.1.size:Int)
    · rw [aO hm]
      simp only [ff,aK]
      rw [aH (by omega) (by omega),bq hm.1 hm.2,aH (by omega) (by omega),aH (by omega) (by omega),aH (by omega) (by rw [List.length_set];omega),uE h1,set_set,← h6]
    · rw [aP hm]
      rfl
theorem ie (k:Nat) {d:Ty.d a_} (hl:d.1.length≤1073741824):bU.f k d=some (d,()):=by
 unfold bU.f bU.t
 rw [bO (by omega) (by decide)]
theorem tq:∀ {l:aW} {a:ByteArray} {f:Ty.d aB},iI (jr l)→ax l a=some f→gh (gm l a) (a,f.2)=l
 | [],a,f,_,h=>by cases h
 | g::l,a,f,hk,h=>by
  have hk':(∀ x ∈ jr l,nO g.1 x=true)∧iI (jr l):=List.pairwise_cons.1 hk
  unfold ax at h
  unfold gm
  cases c:seq g.1 a with
  | true =>
   rw [c] at h
   cases h
   rw [aY]
   have e:=cS.1 c
   subst e
   cases l with
   | nil=>rfl
   | cons x l =>
    have:=hk'.1 x.1 (oh ..)
    unfold gh
    rw [this]
    rfl
  | false =>
   rw [c] at h
   rw [aK]
   have hm:=kA h
   have h1:nO g.1 a=true:=by have:=hk'.1 f.1 (List.mem_map.2 ⟨f,hm.1,rfl⟩);rw [hm.2] at this;exact this
   unfold gh
   rw [H6 h1,aK,tq hk'.2 h]
theorem rJ {k:Nat} (hk:2 ^ 50≤k) {d:Ty.d a_} (hl:d.1.length≤1073741824) (s:ByteArray):eW.f k d s=some ((gm d.1 s,d.2),()):=by
 unfold eW.f eW.t
 rw [jO hk (by omega),aQ]
 rcases gW d.1 s 0 with ⟨h1,h2,h3,_⟩ | ⟨n,h1,h2,h3,h4,_⟩
 · rw [h2,h3]
   simp only []
   rw [aP (by decide),aK]
 · rw [Int.zero_add] at h2
   rw [h2,← h4]
   have e:aF ((n:Int)+1)=((n+1:Nat):Int):=by rw [aE (by omega) (by omega)];omega
   simp only [e,nU]
   rw [aO (by omega),aY,bq (by omega) (by omega),bO (by rw [List.length_take];omega) (by decide),bq (by omega) (by omega),bO (by rw [List.length_take,List.length_drop];omega) (by decide)]
theorem yi {k:Nat} (hk:2 ^ 50≤k) {d:Ty.d a_} (hl:d.1.length≤1073741824) (f:Ty.d aB) (hn:∀ g ∈ d.1,g.1≠f.1):dA.f k d f=some ((gh d.1 f,d.2),()):=by
 unfold dA.f dA.t
 have key:=FY (L:=fun n i (_:Unit)=>dA.l0 k n i d.1 d.2.1 d.2.2.1 d.2.2.2.1 f.1 f.2.1 f.2.2.1) (R:=fun i _=>some ((d.1.take i.toNat++gh (d.1.drop i.toNat) f,d.2),())) d.1.length (fun _ _=>True) (fun n _ _=>?_) (fun n i _ h0 h1 _ ih=>?_) k 0 () (by omega) (by omega) (by omega) trivial
 · rw [show (0:Int).toNat=0 from rfl,List.take_zero,List.nil_append,List.drop_zero] at key
   exact key
 · simp only [dA.l0,dA.b0]
   rw [aP (by omega),aK,nU,bq (by omega) (by omega),bO (by rw [List.length_take];omega) (by decide),bO (by rw [List.length_take];omega) (by decide),bq (by omega) (by omega),bO (by rw [xF,List.length_take,List.length_drop];simp only [List.length_singleton];omega) (by decide),List.drop_length,List.append_nil]
   rfl
 · have ih:=ih () trivial
   have hlt:i.toNat<d.1.length:=by omega
   have e:d.1.drop i.toNat=d.1.getD i.toNat (Ty.z aB)::d.1.drop (i.toNat+1):=by
    rw [List.drop_eq_getElem_cons hlt]
    simp [List.getD,hlt]
   have hne:(d.1.getD i.toNat (Ty.z aB)).1≠f.1:=hn _ (dx hlt)
   have ht:=md (d.1.getD i.toNat (Ty.z aB)).1 f.1
   rw [lW hne,Bool.or_false] at ht
   simp only [dA.l0,dA.b0]
   rw [aO h1,aY,aH h0 h1,aE (n:=i+1) (by omega) (by omega),ih]
   rw [show gh (d.1.drop i.toNat) f=bif nO f.1 (d.1.getD i.toNat (Ty.z aB)).1 then f::d.1.drop i.toNat else d.1.getD i.toNat (Ty.z aB)::gh (d.1.drop (i.toNat+1)) f by rw [e];rfl]
   rw [show nO (List.getD d.1 i.toNat (Ty.z aB)).1 f.1=!nO f.1 (d.1.getD i.toNat (Ty.z aB)).1 from ht]
   cases c:nO f.1 (d.1.getD i.toNat (Ty.z aB)).1 with
   | false =>
    rw [show (i+1).toNat=i.toNat+1 by omega,j3 (z:=Ty.z aB) hlt,s7]
    rfl
   | true =>
    rw [ff,aK,aY,bq h0 (by omega),bO (by rw [List.length_take];omega) (by decide),bO (by rw [List.length_take];omega) (by decide),bq h0 (by omega),bO (by rw [xF,List.length_take,List.length_drop];simp only [List.length_singleton];omega) (by decide),s7]
    rfl
theorem Bm {k:Nat} (hk:2 ^ 50≤k) {d:Ty.d a_} (hl:d.1.length≤1073741824) (hu:cO d.1≤1073741824):ix.f k d=some ((cO d.1:Int),()):=by
 unfold ix.f ix.t
 refine (eV (L:=fun n i s=>ix.l0 k n s d.1 d.1.length i) (R:=fun r s=>some (s+(cO r:Int),())) (Ty.z aB) d.1 (fun i s=>0≤s∧s+(cO (d.1.drop i.toNat):Int)≤1099511627776) (fun n s hs=>?_) (fun n i s x rest h0 h1 hx hr hp ih=>?_) (n:=k) (s:=0) (by omega) ⟨by omega,by rw [show d.1.drop (Int.toNat 0)=d.1 from rfl];omega⟩).trans (by rw [Int.zero_add])
 · simp (disch:=omega) only [ix.l0,ix.b0,aP,aK]
   show some (s,())=some (s+((0:Nat):Int),())
   rw [show s+((0:Nat):Int)=s by omega]
 · have hrest:d.1.drop (i+1).toNat=rest:=by
    have:=congrArg (List.drop 1) hr
    rw [List.drop_drop,List.drop_one,List.tail_cons] at this
    rw [show (i+1).toNat=i.toNat+1 by omega]
    exact this
   rw [hr,dL] at hp
   have ih:=ih (s+(x.2.1.size:Int)) ⟨by omega,by rw [hrest];omega⟩
   simp (disch:=omega) only [ix.l0,ix.b0,aO h1,aY,aH,hx,aE,ih]
   rw [show s+(x.2.1.size:Int)+(cO rest:Int)=s+((x.2.1.size+cO rest:Nat):Int) by omega]
   show _=some (s+((cO (x::rest):Nat):Int),())
   rw [dL]
theorem IX {k:Nat} (hk:2 ^ 50≤k) {d:Ty.d a_} (hl:d.1.length≤1073741824) {s:ByteArray} (hs:s.size≤1099511627776) :
 g8.f k d s=some (((sa s d.1 d.2.1).1,d.2),(s,((sa s d.1 d.2.1).2,()))):=by
 unfold g8.f g8.t sa
 rw [oz hk hs,aQ]
 cases jk s with
 | false=>rfl
 | true =>
  simp only [ff,aK]
  rw [jO hk (by omega),aQ]
  rcases gW d.1 s 0 with ⟨h1,h2,_⟩ | ⟨n,h1,h2,h3,_⟩
  · rw [h1,h2]
    simp only [Option.isSome_none,aK]
    rw [aP (by decide),aK]
    by_cases cl:(d.1.length:Int)≥130
    · rw [aO cl];rfl
    · rw [aP cl,aK,aK,yi hk hl _ (oP.1 h1),aQ]
  · rw [h2,h3]
    simp only [Option.isSome_some,aY]
    rw [aO (by omega),aY]
theorem I7 {k:Nat} (hk:2 ^ 50≤k) {d:Ty.d a_} (hl:d.1.length≤1073741824) (hu:cO d.1≤1073741824) (s:ByteArray) {t:ByteArray} (ht:t.size≤1099511627776) :
 fw.f k d s t=some (((wg s t d.1 d.2.1).1,d.2),(s,(t,((wg s t d.1 d.2.1).2,())))):=by
 unfold fw.f fw.t wg
 rw [jO hk (by omega),aQ]
 rcases gW d.1 s 0 with ⟨h1,h2,_⟩ | ⟨n,h1,h2,h3,_,_,h6⟩
 · rw [h1,h2]
   simp only [Option.isNone_none,aY]
   rw [aO (by decide),aY]
 · rw [Int.zero_add] at h2
   rw [h2,h3]
   simp only [Option.isNone_some,aK]
   rw [aP (by omega),aK,Bm hk hl hu,aQ]
   simp only []
   cases decide ((t.size:Int) > aF (d.2.1-(cO d.1:Int))) with
   | true=>rfl
   | false =>
    have hm:=mE (kA h3).1
    rw [aK,aK,nU,aH (by omega) (by omega),dV (Nat.le_trans (Nat.add_le_add (Nat.le_trans hm hu) ht) (by decide)),aH (by omega) (by omega),← h6]
theorem ID {k:Nat} (hk:2 ^ 50≤k) {d:Ty.d a_} (hl:d.1.length≤1073741824) (s:ByteArray) :
 iH.f k d s=some (((tI s d.1 d.2.1).1,d.2),(s,((tI s d.1 d.2.1).2,()))):=by
 unfold iH.f iH.t tI
 rw [jO hk (by omega),aQ]
 rcases gW d.1 s 0 with ⟨h1,h2,_⟩ | ⟨n,h1,h2,h3,_,_,h6⟩
 · rw [h1,h2]
   simp only [Option.isNone_none,aY]
   rw [aO (by decide),aY]
 · rw [Int.zero_add] at h2
   rw [h2,h3]
   simp only [Option.isNone_some,aK]
   rw [aP (by omega),aK,nU,aH (by omega) (by omega),aH (by omega) (by omega),← h6]
theorem JM {k:Nat} (hk:2 ^ 50≤k) {d:Ty.d a_} (hl:d.1.length≤1073741824) (s:ByteArray) :
 fz.f k d s=some (((ul s d.1 d.2.1).1,d.2),(s,((ul s d.1 d.2.1).2,()))):=by
 unfold fz.f fz.t ul
 rw [jO hk (by omega),aQ]
 rcases gW d.1 s 0 with ⟨h1,h2,_⟩ | ⟨n,h1,h2,h3,_⟩
 · rw [h1,h2]
   simp only [Option.isNone_none,aY]
   rw [aO (by decide),aY]
 · rw [Int.zero_add] at h2
   rw [h2,h3]
   simp only [Option.isNone_some,aK]
   rw [aP (by omega),aK,rJ hk hl,aQ]
theorem IJ {k:Nat} (hk:2 ^ 50≤k) {d:Ty.d a_} (hl:d.1.length≤1073741824) (s:ByteArray) (m:Int) :
 ea.f k d s m=some (((xa s m d.1 d.2.1).1,d.2),(s,(m,((xa s m d.1 d.2.1).2,())))):=by
 unfold ea.f ea.t xa
 rw [jO hk (by omega),aQ]
 rcases gW d.1 s 0 with ⟨h1,h2,_⟩ | ⟨n,h1,h2,h3,_,_,h6⟩
 · rw [h1,h2]
   simp only []
   rw [aO (by decide),aY]
 · rw [Int.zero_add] at h2
   rw [h2,h3]
   simp only []
   rw [aP (by omega),aK,nU,aH (by omega) (by omega),kc,aQ]
   by_cases hm:0≤m∧m≤((d.1.getD n (Ty.z aB)).2.1.size:Int)
   · rw [aO hm]
     simp only [ff,aK]
     rw [bq hm.1 hm.2,← h6]
     have g:∀ x z:Ty.d aB,(d.1.set n x).getD n z=x:=fun x z=>by simp [List.getD,h1]
     rw [g,List.set_set]
   · rw [aP hm]
     rfl
theorem JP {k:Nat} (hk:2 ^ 50≤k) {d:Ty.d a_} (hl:d.1.length≤1073741824) (hs:iI (jr d.1)) (a:ByteArray) {b:ByteArray} (hb:b.size≤1099511627776) :
 g7.f k d a b=some (((uz a b d.1 d.2.1).1,d.2),(a,(b,((uz a b d.1 d.2.1).2,())))):=by
 unfold g7.f g7.t uz
 rw [jO hk (by omega),aQ,oz hk hb,aQ]
 cases jk b with
 | false=>rfl
 | true =>
  simp only [ff,aK]
  rcases gW d.1 a 0 with ⟨h1,h2,_⟩ | ⟨n,h1,h2,h3,_,_,_⟩
  · rw [h1,h2,aO (by decide),aY]
  · have hd1:=n5 d.1 a
    have hd2:=n5 (gm d.1 a) b
    have l1:=hd1.length_le
    have l2:=hd2.length_le
    rw [Int.zero_add] at h2
    rw [h2,h3]
    simp only []
    rw [aP (by omega),aK,aH (by omega) (by omega),rJ hk hl,aQ]
    simp only []
    rw [rJ hk (d:=(gm d.1 a,d.2)) (by show (gm d.1 a).length≤_;omega),aQ]
    simp only []
    rw [yi hk (d:=(gm (gm d.1 a) b,d.2)) (by show (gm (gm d.1 a) b).length≤_;omega) _ (oP.1 (uc (pr hd1 hs) b)),aQ,nU]
    cases c:seq a b with
    | false=>rfl
    | true =>
     have e:=cS.1 c
     subst e
     have hg:gm (gm d.1 a) a=gm d.1 a:=by
      rcases gW (gm d.1 a) a 0 with ⟨_,_,g3,_⟩ | ⟨m,_,_,g3,_⟩
      · exact g3
      · rw [uc hs a] at g3;cases g3
     have hi:=tq hs h3
     simp only [hg,aY]
     rw [hi]
theorem El {k:Nat} (hk:2 ^ 50≤k) {d:Ty.d a_} (hd:p6 d) {s:ByteArray} (hs:s.size≤1099511627776):k6.f k d s=some ((pQ d s).1,((pQ d s).2,())):=by
 have hl:=hd.l
 have hu:=hd.u
 have hn:=hd.n
 have h1:∀ b2,g8.f k (d.1,b2) s=_:=fun b2=>IX hk (d:=(d.1,b2)) hl hs
 unfold k6.f k6.t gH.f gH.t pQ gA jf
 rw [ie k hl,aQ,iE hk (by omega) (by omega),aQ]
 simp only [h1,aQ,show g8.f k d s=_ from h1 d.2]
 cases fJ d <;> cases d.2.2.2.1 <;> cases d.2.2.1==0 <;> cases decide ((d.2.2.1:Int) > 0) <;> rfl
theorem FZ {k:Nat} (hk:2 ^ 50≤k) {d:Ty.d a_} (hd:p6 d) (s:ByteArray) {t:ByteArray} (ht:t.size≤1099511627776):k8.f k d s t=some ((jI d s t).1,((jI d s t).2,())):=by
 have hl:=hd.l
 have hu:=hd.u
 have hn:=hd.n
 have h1:∀ b2,fw.f k (d.1,b2) s t=_:=fun b2=>I7 hk (d:=(d.1,b2)) hl hu s ht
 unfold k8.f k8.t gC.f gC.t jI gA jf
 rw [ie k hl,aQ,iE hk (by omega) (by omega),aQ]
 simp only [h1,aQ,show fw.f k d s t=_ from h1 d.2]
 cases fJ d <;> cases d.2.2.2.1 <;> cases d.2.2.1==0 <;> cases decide ((d.2.2.1:Int) > 0) <;> rfl
theorem Et {k:Nat} (hk:2 ^ 50≤k) {d:Ty.d a_} (hd:p6 d) (s:ByteArray):lz.f k d s=some ((iv d s).1,((iv d s).2,())):=by
 have hl:=hd.l
 have hu:=hd.u
 have hn:=hd.n
 have h1:∀ b2,iH.f k (d.1,b2) s=_:=fun b2=>ID hk (d:=(d.1,b2)) hl s
 unfold lz.f lz.t hZ.f hZ.t iv gA jf
 rw [ie k hl,aQ,iE hk (by omega) (by omega),aQ]
 simp only [h1,aQ,show iH.f k d s=_ from h1 d.2]
 cases fJ d <;> cases d.2.2.2.1 <;> cases d.2.2.1==0 <;> cases decide ((d.2.2.1:Int) > 0) <;> rfl
theorem Ef {k:Nat} (hk:2 ^ 50≤k) {d:Ty.d a_} (hd:p6 d) (s:ByteArray):jy.f k d s=some ((se d s).1,((se d s).2,())):=by
 have hl:=hd.l
 have hu:=hd.u
 have hn:=hd.n
 have h1:∀ b2,fz.f k (d.1,b2) s=_:=fun b2=>JM hk (d:=(d.1,b2)) hl s
 unfold jy.f jy.t gE.f gE.t se gA jf
 rw [ie k hl,aQ,iE hk (by omega) (by omega),aQ]
 simp only [h1,aQ,show fz.f k d s=_ from h1 d.2]
 cases fJ d <;> cases d.2.2.2.1 <;> cases d.2.2.1==0 <;> cases decide ((d.2.2.1:Int) > 0) <;> rfl
theorem Ez {k:Nat} (hk:2 ^ 50≤k) {d:Ty.d a_} (hd:p6 d) (s:ByteArray) (m:Int):iu.f k d s m=some ((mN d s m).1,((mN d s m).2,())):=by
 have hl:=hd.l
 have hu:=hd.u
 have hn:=hd.n
 have h1:∀ b2,ea.f k (d.1,b2) s m=_:=fun b2=>IJ hk (d:=(d.1,b2)) hl s m
 unfold iu.f iu.t fN.f fN.t mN gA jf
 rw [ie k hl,aQ,iE hk (by omega) (by omega),aQ]
 simp only [h1,aQ,show ea.f k d s m=_ from h1 d.2]
 cases fJ d <;> cases d.2.2.2.1 <;> cases d.2.2.1==0 <;> cases decide ((d.2.2.1:Int) > 0) <;> rfl
theorem FP {k:Nat} (hk:2 ^ 50≤k) {d:Ty.d a_} (hd:p6 d) (a:ByteArray) {b:ByteArray} (hb:b.size≤1099511627776):k7.f k d a b=some ((tE d a b).1,((tE d a b).2,())):=by
 have hl:=hd.l
 have hu:=hd.u
 have hn:=hd.n
 unfold k7.f k7.t gI.f gI.t tE gA jf
 rw [ie k hl,aQ,iE hk (by omega) (by omega),aQ]
 cases c:fJ d with
 | false=>rfl
 | true =>
  have h1:∀ b2,g7.f k (d.1,b2) a b=_:=fun b2=>JP hk (d:=(d.1,b2)) hl (dO.1 c).keys a hb
  simp only [h1,aQ,show g7.f k d a b=_ from h1 d.2]
  cases d.2.2.2.1 <;> cases d.2.2.1==0 <;> cases decide ((d.2.2.1:Int) > 0) <;> rfl
def nz (lim:Int) (p:Option Int) (x:Int):Bool:=decide ((1:Int)≤x∧x≤lim)&&(match p with | none=>true | some y=>decide (y<x))
def dG (v:Ty.d ay):Bool:=decide ((1:Int)≤v.1∧v.1≤100000)&&(decide ((1:Int)≤(v.2.1.length:Int)∧(v.2.1.length:Int)≤60)&&qs (nz (aF (v.1-1))) none v.2.1)
theorem rW {k:Nat} (hk:2 ^ 50≤k) (v:Ty.d ay):dR.f k v=some (dG v,()):=by
 unfold dR.f dR.t dG
 rw [ga,aQ]
 cases decide ((1:Int)≤v.1∧v.1≤100000) with
 | false=>rfl
 | true =>
  rw [ff,aK,ga,aQ,Bool.true_and]
  by_cases c:(1:Int)≤(v.2.1.length:Int)∧(v.2.1.length:Int)≤60
  case neg=>rw [aP c];rfl
  rw [aO c,ff,aK,Bool.true_and]
  refine (qD (L:=fun n i=>dR.l0 k n i v.1 v.2.1) (Ty.z (.int .i64)) v.2.1 (nz (aF (v.1-1))) (some (true,())) (some (false,())) (fun n=>?_) (fun n x h hx=>?_) (fun n i x y h0 h1 hx hy=>?_) (n:=k) (by omega)).trans (by cases qs (nz (aF (v.1-1))) none v.2.1 <;> rfl)
  · simp (disch:=omega) only [dR.l0,dR.b0,aP,aK]
  · simp (disch:=omega) only [dR.l0,dR.b0,aO (show (0:Int)<(v.2.1.length:Int) by omega),aY,aH,hx,ga k,aQ,aP (show ¬ (0:Int) > 0 by omega),aK,aE (n:=(0:Int)+1),nz]
    cases decide ((1:Int)≤x∧x≤aF (v.1-1)) <;> rfl
  · simp (disch:=omega) only [dR.l0,dR.b0,aO h1,aY,aH,hx,ga k,aQ,aO (show i > 0 by omega),aK,aE (n:=i+1),aE (n:=i-1),hy,nz]
    cases decide ((1:Int)≤x∧x≤aF (v.1-1)) with
    | false=>rfl
    | true =>
     by_cases q:y<x
     · rw [aO q,aP (show ¬ x≤y from Int.not_le.2 q)];rfl
     · rw [aP q,aO (show x≤y from Int.not_lt.1 q)];rfl
theorem vq {k:Nat} (hk:2 ^ 50≤k) {v:Ty.d ay} (hl:v.2.1.length≤1099511627776):dQ.f k v=some (dG v,()):=by
 unfold dQ.f dQ.t dG
 refine (qD (L:=fun n i=>dQ.l0 k n v.2.1 v.2.1.length i v.1 v.2.1) (Ty.z (.int .i64)) v.2.1 (nz (aF (v.1-1))) (some (decide ((1:Int)≤v.1∧v.1≤100000)&&decide ((1:Int)≤(v.2.1.length:Int)∧(v.2.1.length:Int)≤60),())) (some (false,())) (fun n=>?_) (fun n x h hx=>?_) (fun n i x y h0 h1 hx hy=>?_) (n:=k) (by omega)).trans
  (by cases qs (nz (aF (v.1-1))) none v.2.1 <;> cases decide ((1:Int)≤v.1∧v.1≤100000) <;> cases decide ((1:Int)≤(v.2.1.length:Int)∧(v.2.1.length:Int)≤60) <;> rfl)
 · simp (disch:=omega) only [dQ.l0,dQ.b0,aP,aK,kc k,aQ]
   cases decide ((1:Int)≤v.1∧v.1≤100000) <;> rfl
 · simp (disch:=omega) only [dQ.l0,dQ.b0,aO (show (0:Int)<(v.2.1.length:Int) by omega),aY,aH,hx,kc k,aQ,aP (show ¬ (0:Int) > 0 by omega),aK,aE (n:=(0:Int)+1),nz]
   cases decide ((1:Int)≤x∧x≤aF (v.1-1)) <;> rfl
 · simp (disch:=omega) only [dQ.l0,dQ.b0,aO h1,aY,aH,hx,kc k,aQ,aO (show i > 0 by omega),aK,aE (n:=i+1),aE (n:=i-1),hy,nz]
   cases decide ((1:Int)≤x∧x≤aF (v.1-1)) with
   | false=>rfl
   | true =>
    by_cases q:y<x
    · rw [aO q,aP (show ¬ y≥x from Int.not_le.2 q)];rfl
    · rw [aP q,aO (show y≥x from Int.not_lt.1 q)];rfl
end Go.Proofs.YtgnakpiicdfpkaaGreatDoor.G
namespace Go.V
theorem Bb (l:List Int):(bytesOf l).size=l.length:=by simp [bytesOf,ByteArray.size]
theorem Ky {n m:Nat} (hn:n<4294967296) (hm:m<4294967296):aF (((BitVec.ofInt (IntKind.bits .i64) (n:Int) ^^^ BitVec.ofInt (IntKind.bits .i64) (m:Int)).toNat:Int))=((n ^^^ m:Nat):Int):=by
 have h:n ^^^ m<2 ^ 32:=Nat.xor_lt_two_pow (by omega) (by omega)
 show aF (((BitVec.ofInt 64 (n:Int) ^^^ BitVec.ofInt 64 (m:Int)).toNat:Int))=_
 rw [BitVec.ofInt_natCast,BitVec.ofInt_natCast,BitVec.toNat_xor,BitVec.toNat_ofNat,BitVec.toNat_ofNat,Nat.mod_eq_of_lt (by omega),Nat.mod_eq_of_lt (by omega)]
 exact aE (by omega) (by omega)
theorem L8 {n m:Nat} (hn:n<4294967296) (hm:m<4294967296):IntKind.wrap .u32 (((BitVec.ofInt (IntKind.bits .u32) (n:Int) ^^^ BitVec.ofInt (IntKind.bits .u32) (m:Int)).toNat:Int))=((n ^^^ m:Nat):Int):=by
 have h:n ^^^ m<2 ^ 32:=Nat.xor_lt_two_pow (by omega) (by omega)
 show IntKind.wrap .u32 (((BitVec.ofInt 32 (n:Int) ^^^ BitVec.ofInt 32 (m:Int)).toNat:Int))=_
 rw [BitVec.ofInt_natCast,BitVec.ofInt_natCast,BitVec.toNat_xor,BitVec.toNat_ofNat,BitVec.toNat_ofNat,Nat.mod_eq_of_lt (by omega),Nat.mod_eq_of_lt (by omega)]
 exact xC (by omega) (by omega)
theorem N0 {n b:Nat} (hn:n<4294967296) (hb:b<256):aF (((BitVec.ofInt (IntKind.bits .i64) ((n*256:Nat):Int) ||| BitVec.ofInt (IntKind.bits .i64) (b:Int)).toNat:Int))=((n*256+b:Nat):Int):=by
 have h:n*256 ||| b=n*256+b:=by
  have:=Nat.shiftLeft_add_eq_or_of_lt (i:=8) (b:=b) (by omega) n
  rw [Nat.shiftLeft_eq,show (2:Nat) ^ 8=256 by decide] at this
  omega
 show aF (((BitVec.ofInt 64 ((n*256:Nat):Int) ||| BitVec.ofInt 64 (b:Int)).toNat:Int))=_
 rw [BitVec.ofInt_natCast,BitVec.ofInt_natCast,BitVec.toNat_or,BitVec.toNat_ofNat,BitVec.toNat_ofNat,Nat.mod_eq_of_lt (by omega),Nat.mod_eq_of_lt (by omega),h]
 exact aE (by omega) (by omega)
theorem MM {n:Nat} (hn:n<4294967296):IntKind.wrap .u32 (((BitVec.ofInt (IntKind.bits .u32) (n:Int) &&& BitVec.ofInt (IntKind.bits .u32) 1).toNat:Int))=((n % 2:Nat):Int):=by
 show IntKind.wrap .u32 (((BitVec.ofInt 32 (n:Int) &&& BitVec.ofInt 32 ((1:Nat):Int)).toNat:Int))=_
 rw [BitVec.ofInt_natCast,BitVec.ofInt_natCast,BitVec.toNat_and,BitVec.toNat_ofNat,BitVec.toNat_ofNat,Nat.mod_eq_of_lt (by omega),Nat.mod_eq_of_lt (show 1<2 ^ 32 by omega),Nat.and_one_is_mod]
 exact xC (by omega) (by omega)
theorem MQ {n:Nat} (hn:n<4294967296):Fa .u32 (n:Int)=4294967295-(n:Int):=by
 unfold Fa
 show IntKind.wrap .u32 (((BitVec.allOnes 32 ^^^ BitVec.ofInt 32 (n:Int)).toNat:Int))=_
 rw [BitVec.ofInt_natCast,BitVec.allOnes_xor,BitVec.toNat_not,BitVec.toNat_ofNat,Nat.mod_eq_of_lt (by omega)]
 rw [xC (by omega) (by omega)]
 omega
theorem od (s:ByteArray):(⟨#[]⟩:ByteArray)++s=s:=by
 apply ByteArray.ext
 simp [ByteArray.data_append]
theorem gS (s:ByteArray):s++(⟨#[]⟩:ByteArray)=s:=by
 apply ByteArray.ext
 simp [ByteArray.data_append]
theorem ar (a b c:ByteArray):a++b++c=a++(b++c):=by
 apply ByteArray.ext
 simp [ByteArray.data_append]
theorem iT (a b:ByteArray):nb (a++b)=nb a++nb b:=by
 unfold nb
 rw [ByteArray.data_append,Array.toList_append,List.map_append]
theorem xz (s:ByteArray) (i j:Nat):nb (ByteArray.extract s i j)=((nb s).take j).drop i:=by
 unfold nb
 simp [ByteArray.data_extract,List.map_take,List.map_drop]
 rw [List.drop_take]
theorem jC (s:ByteArray) (n:Nat):nb (ByteArray.extract s n s.size)=(nb s).drop n:=by
 rw [xz,List.take_of_length_le (by rw [cW];omega)]
theorem fh (a t:ByteArray):ByteArray.extract (a++t) a.size (a++t).size=t:=kt (by rw [jC,iT,List.drop_left' (cW a)])
theorem zX (a t:ByteArray):ByteArray.extract (a++t) 0 a.size=a:=kt (by rw [xz,iT,List.take_left' (cW a),List.drop_zero])
theorem uC (s:ByteArray) {n:Nat} (h:n≤s.size):s=ByteArray.extract s 0 n++ByteArray.extract s n s.size:=kt (by rw [iT,jC,ky,List.take_append_drop])
theorem tX {a b c:ByteArray} (h:a++b=a++c):b=c:=kt (by
 have:=congrArg nb h
 rw [iT,iT] at this
 exact List.append_cancel_left this)
theorem sI {a b c d:ByteArray} (h:a++b=c++d) (hs:a.size=c.size):a=c∧b=d:=by
 have:=congrArg nb h
 rw [iT,iT] at this
 have:=List.append_inj this (by rw [cW,cW,hs])
 exact ⟨kt this.1,kt this.2⟩
def rv:Nat→List Nat→Option (Nat × Nat)
 | 0,_=>none
 | _+1,[]=>none
 | d+1,b::l=>if b≥128 then (match rv d l with | some (a,n)=>if a=0 then none else some (b % 128+128*a,n+1) | none=>none) else some (b,1)
theorem J0:∀ (d a:Nat) (t:List Nat),a<128 ^ (d+1)→rv (d+1) (vl d a++t)=some (a,(vl d a).length)
 | 0,a,t,h=>by
  have:¬ a≥128:=by simpa using h
  simp [vl,rv,this]
 | d+1,a,t,h=>by
  unfold vl
  by_cases c:a≥128
  · have ih:=J0 d (a/128) t (by rw [Nat.pow_succ] at h;omega)
    rw [if_pos c,List.cons_append,rv,if_pos (by omega),ih]
    simp only []
    rw [if_neg (by omega),lQ]
    congr 2
    omega
  · rw [if_neg c,List.cons_append,rv,if_neg c]
    rfl
theorem q_:∀ (d:Nat) (l:List Nat) (a n:Nat),(∀ x ∈ l,x<256)→rv (d+1) l=some (a,n)→l.take n=vl d a∧a<128 ^ (d+1)∧n=(vl d a).length∧n≤l.length∧1≤n∧n≤d+1
 | _,[],a,n,_,h=>by simp [rv] at h
 | 0,b::l,a,n,hb,h=>by
  unfold rv at h
  by_cases c:b≥128
  · simp [c,rv] at h
  · simp [c] at h
    obtain ⟨rfl,rfl⟩:=h
    refine ⟨by simp [vl],by simpa using c,by simp [vl],by simp,by omega,by omega⟩
 | d+1,b::l,a,n,hb,h=>by
  unfold rv at h
  by_cases c:b≥128
  · rw [if_pos c] at h
    cases q:rv (d+1) l with
    | none=>rw [q] at h;simp at h
    | some p =>
     obtain ⟨a',n'⟩:=p
     obtain ⟨h1,h2,h3,h4,h5,h6⟩:=q_ d l a' n' (fun x hx=>hb x (qu _ hx)) q
     rw [q] at h
     simp only [] at h
     by_cases z:a'=0
     · simp [z] at h
     · rw [if_neg z] at h
       simp only [Option.some.injEq,Prod.mk.injEq] at h
       obtain ⟨rfl,rfl⟩:=h
       have hb:=hb b (oh ..)
       have e1:(b % 128+128*a')/128=a':=by omega
       have e2:128+(b % 128+128*a') % 128=b:=by omega
       have hv:vl (d+1) (b % 128+128*a')=b::vl d a':=by
        rw [vl,if_pos (by omega),e1,e2]
       rw [hv]
       refine ⟨by rw [List.take_succ_cons,h1],by rw [Nat.pow_succ];omega,by rw [lQ,h3],by rw [lQ];omega,by omega,by omega⟩
  · rw [if_neg c] at h
    simp only [Option.some.injEq,Prod.mk.injEq] at h
    obtain ⟨rfl,rfl⟩:=h
    have hv:vl (d+1) b=[b]:=by rw [vl,if_neg c]
    rw [hv]
    refine ⟨by simp,?_,by simp,by simp,by omega,by omega⟩
    have:(128:Nat) ^ 1≤128 ^ (d+1+1):=Nat.pow_le_pow_right (by decide) (by omega)
    omega
theorem MO {d a:Nat}:vl d a≠[]:=by
 cases d with
 | zero=>simp [vl]
 | succ d=>unfold vl;split <;> simp
theorem KH (l:List Nat) (hb:∀ x ∈ l,x<256) (d n:Nat) (h0:1≤n) (h1:n≤d+1) (h2:n≤l.length):rj (l.take n)=true↔∃ a,rv (d+1) l=some (a,n):=by
 constructor
 · intro h
   have e:=BX d (l.take n) h (by rw [List.length_take];omega)
   have hd:sb (l.take n)<128 ^ (d+1):=Nat.lt_of_lt_of_le (CE _) (Nat.pow_le_pow_right (by decide) (by rw [List.length_take];omega))
   have:=J0 d (sb (l.take n)) (l.drop n) hd
   rw [e,List.take_append_drop,List.length_take,Nat.min_eq_left h2] at this
   exact ⟨_,this⟩
 · rintro ⟨a,h⟩
   obtain ⟨e1,e2,_⟩:=q_ d l a n hb h
   rw [e1]
   exact (ww d a e2).1
theorem LL {l:List Nat} (hb:∀ x ∈ l,x<256) {d a n:Nat} (h:rv (d+1) l=some (a,n)):a=sb (l.take n):=by
 obtain ⟨e1,e2,_⟩:=q_ d l a n hb h
 rw [e1]
 exact (ww d a e2).2.1.symm
theorem tF (s:ByteArray):∀ x ∈ nb s,x<256:=fun _ h=>Kl h
theorem ah (a:Nat):1≤(bI a).size∧(bI a).size≤7:=by
 unfold bI
 rw [Bb,List.length_map]
 have h:∀ d a,(vl d a).length≤d+1:=by
  intro d
  induction d with
  | zero=>intro a;simp [vl]
  | succ d ih=>intro a;unfold vl;split <;> simp;have:=ih (a/128);omega
 have h2:=h 6 a
 have h3:(vl 6 a).length≠0:=fun q=>MO (List.length_eq_zero_iff.1 q)
 omega
theorem s8 {a:Nat} (h:a<562949953421312):(vl 6 a).length=(bI a).size:=by rw [← tu h,cW]
theorem rD {a:Nat} (h:a<562949953421312) (t:ByteArray):rv 7 (nb (bI a++t))=some (a,(bI a).size):=by
 rw [iT,tu h,← s8 h]
 exact J0 6 a _ (by rw [show (128:Nat) ^ (6+1)=562949953421312 by decide];exact h)
theorem Kb {s:ByteArray} {a n:Nat} (h:rv 7 (nb s)=some (a,n)):∃ t,a<562949953421312∧n=(bI a).size∧s=bI a++t:=by
 obtain ⟨h1,h2,h3,h4,h5,h6⟩:=q_ 6 (nb s) a n (tF s) h
 rw [show (128:Nat) ^ (6+1)=562949953421312 by decide] at h2
 refine ⟨ByteArray.extract s n s.size,h2,by rw [h3,s8 h2],kt ?_⟩
 rw [iT,tu h2,jC,← h1,List.take_append_drop]
theorem kN (s:ByteArray):(∃ a t,a<562949953421312∧s=bI a++t)∨rv 7 (nb s)=none:=by
 cases h:rv 7 (nb s) with
 | none=>exact .inr rfl
 | some p =>
  obtain ⟨a,n⟩:=p
  obtain ⟨t,h1,_,h3⟩:=Kb h
  exact .inl ⟨a,t,h1,h3⟩
theorem yF {a b:Nat} {s t:ByteArray} (ha:a<562949953421312) (hb:b<562949953421312) (h:bI a++s=bI b++t):a=b∧s=t:=by
 have h1:=rD ha s
 rw [h,rD hb t] at h1
 simp only [Option.some.injEq,Prod.mk.injEq] at h1
 obtain ⟨rfl,_⟩:=h1
 exact ⟨rfl,tX h⟩
def FG:Option (Nat × Nat)→Int × Int × Unit
 | some p=>((p.1:Int),((p.2:Int),()))
 | none=>(0,(0,()))
end Go.V
namespace Go.Proofs.YtgnakpiicdfpkaaGreatDoor.G
open Go.V
theorem oo (k:Nat) (a b c:Int):aZ.f k a b c=some (decide (b≤a∧a≤c),()):=by
 unfold aZ.f aZ.t
 by_cases h:b≤a <;> simp [h]
theorem uA (k:Nat) (a b c:Int):au.f k a b c=some (decide (b≤a∧a≤c),()):=by
 unfold au.f au.t
 by_cases h:b≤a <;> simp [h]
def iL (a:Int):ByteArray:=if 0≤a∧a≤562949953421311 then bI a.toNat else ⟨#[]⟩
theorem b9 (a:Int):(iL a).size≤7:=by
 unfold iL
 split
 · exact (ah _).2
 · exact Nat.zero_le _
theorem dS {a:Nat} (h:a<562949953421312):iL (a:Int)=bI a:=by
 unfold iL
 rw [if_pos (by omega),Int.toNat_natCast]
theorem MD:∀ (d a n:Nat) (xs:List Int),a<128 ^ (d+1)→a<562949953421312→d<n→xs.length+d≤100→∀ k,
 bn.l0 k n (a:Int) xs=some (bytesOf (xs++(vl d a).map Int.ofNat),())∧fg.l0 k n (a:Int) xs=some (bytesOf (xs++(vl d a).map Int.ofNat),()):=by
 intro d
 induction d with
 | zero =>
  intro a n xs h1 h2 h3 h4 k
  obtain ⟨n,rfl⟩:∃ q,n=q+1:=⟨n-1,by omega⟩
  simp only [Nat.zero_add,Nat.pow_one] at h1
  constructor
  · simp (disch:=first | omega | decide) only [bn.l0,bn.b0,aP,aK,bO,pA]
    rfl
  · simp (disch:=first | omega | decide) only [fg.l0,fg.b0,aP,aK,bO,pA]
    rfl
 | succ d ih =>
  intro a n xs h1 h2 h3 h4 k
  obtain ⟨n,rfl⟩:∃ q,n=q+1:=⟨n-1,by omega⟩
  unfold vl
  by_cases c:a≥128
  · have hd:aF (Int.tdiv (a:Int) 128)=((a/128:Nat):Int):=aE (n:=((a/128:Nat):Int)) (by omega) (by omega)
    have hw:IntKind.wrap .u8 (aF (128+Int.tmod (a:Int) 128))=((128+a % 128:Nat):Int):=by
     have e:128+Int.tmod (a:Int) 128=((128+a % 128:Nat):Int):=by
      show 128+((a % 128:Nat):Int)=_
      omega
     rw [e,aE (by omega) (by omega)]
     exact pA (by omega) (by omega)
    have ih:=ih (a/128) n (xs++[((128+a % 128:Nat):Int)]) (by rw [Nat.pow_succ] at h1;omega) (by omega) (by omega) (by rw [xF];show _+1+d≤_;omega) k
    rw [if_pos c]
    rw [s7] at ih
    constructor
    · simp (disch:=first | omega | decide) only [bn.l0,bn.b0,aO,aY,bO,hd,hw]
      exact ih.1
    · simp (disch:=first | omega | decide) only [fg.l0,fg.b0,aO,aY,bO,hd,Int.add_comm (Int.tmod (a:Int) 128) 128,hw]
      exact ih.2
  · rw [if_neg c]
    constructor
    · simp (disch:=first | omega | decide) only [bn.l0,bn.b0,aP,aK,bO,pA]
      rfl
    · simp (disch:=first | omega | decide) only [fg.l0,fg.b0,aP,aK,bO,pA]
      rfl
theorem h9 {k:Nat} (hk:2 ^ 50≤k) (a:Int):bn.f k a=some (iL a,()):=by
 unfold bn.f bn.t iL
 rw [oo,aQ]
 by_cases h:0≤a∧a≤562949953421311
 · obtain ⟨n,rfl⟩:=Int.eq_ofNat_of_zero_le h.1
   have hn:n<562949953421312:=by omega
   simp only [aO h,ff,aK,if_pos h,Int.toNat_natCast]
   exact (MD 6 n k [] (by rw [show (128:Nat) ^ (6+1)=562949953421312 by decide];exact hn) hn (by omega) (by decide) k).1
 · simp only [aP h,qj,aY,if_neg h]
theorem oE {k:Nat} (hk:2 ^ 50≤k) (a:Int):fg.f k a=some (iL a,()):=by
 unfold fg.f fg.t iL
 rw [uA,aQ]
 by_cases h:0≤a∧a≤562949953421311
 · obtain ⟨n,rfl⟩:=Int.eq_ofNat_of_zero_le h.1
   have hn:n<562949953421312:=by omega
   simp only [aO h,ff,aK,if_pos h,Int.toNat_natCast]
   exact (MD 6 n k [] (by rw [show (128:Nat) ^ (6+1)=562949953421312 by decide];exact hn) hn (by omega) (by decide) k).2
 · simp only [aP h,qj,aY,if_neg h]
theorem I0 {s:ByteArray} {i:Nat} (h:i<s.size):(nb s).take (i+1)=(nb s).take i++[(nb s).getD i 0]:=by
 have h1:i<(nb s).length:=by rw [cW];exact h
 rw [List.take_succ_eq_append_getElem h1]
 simp [List.getD,h1]
theorem jZ (s:ByteArray) (i:Nat):(nb s).getD i 0<256:=by
 by_cases h1:i<(nb s).length
 · rw [show (nb s).getD i 0=(nb s)[i] by simp [List.getD,h1]]
   exact Kl (List.getElem_mem h1)
 · simp [List.getD,List.getElem?_eq_none (by omega:(nb s).length≤i)]
theorem sC {s:ByteArray} {i:Nat} (h:i<s.size):(nb s).drop i=(nb s).getD i 0::(nb s).drop (i+1):=by
 have h1:i<(nb s).length:=by rw [cW];exact h
 rw [List.drop_eq_getElem_cons h1]
 simp [List.getD,h1]
def EP (n:Nat):Nat:=if n % 2=1 then n/2 ^^^ 2197175160 else n/2
def zp:Nat→Nat→Nat
 | 0,n=>n
 | d+1,n=>zp d (EP n)
theorem Bf {n:Nat} (h:n<4294967296):EP n<4294967296:=by
 unfold EP
 split
 · exact Nat.xor_lt_two_pow (n:=32) (by omega) (by omega)
 · omega
theorem Bh:∀ {d n:Nat},n<4294967296→zp d n<4294967296
 | 0,_,h=>h
 | d+1,_,h=>Bh (d:=d) (Bf h)
def EF:List Nat→Nat→Nat
 | [],n=>n
 | b::l,n=>EF l (zp 8 (n ^^^ b))
theorem Ff:∀ {l:List Nat} {n:Nat},n<4294967296→(∀ b ∈ l,b<256)→EF l n<4294967296
 | [],_,h,_=>h
 | b::l,n,h,hb=>by
  have:=hb b (oh ..)
  exact Ff (l:=l) (Bh (Nat.xor_lt_two_pow (n:=32) (by omega) (by omega))) (fun x hx=>hb x (qu _ hx))
def p9 (s:ByteArray):Int:=4294967295-(EF (nb s) 4294967295:Int)
theorem um (s:ByteArray):0≤p9 s∧p9 s≤4294967295:=by
 have:=Ff (l:=nb s) (n:=4294967295) (by omega) (tF s)
 unfold p9
 omega
theorem G6 {k:Nat} {L0:ByteArray→Int→Int→Option (Int × Unit)} {s:ByteArray} {i:Int}:∀ (d j m n:Nat),8-j=d→j≤8→d<m→n<4294967296→gO.l1 k L0 m s (n:Int) i (j:Int)=L0 s ((zp d n:Nat):Int) (aF (i+1))
 | 0,j,m,n,hd,hj,hm,hn=>by
  obtain ⟨m,rfl⟩:∃ q,m=q+1:=⟨m-1,by omega⟩
  have c:¬ ((j:Int)<8):=by omega
  simp only [gO.l1,gO.b1,decide_eq_false c,aK,zp]
 | d+1,j,m,n,hd,hj,hm,hn=>by
  obtain ⟨m,rfl⟩:∃ q,m=q+1:=⟨m-1,by omega⟩
  have c:((j:Int)<8):=by omega
  have ih:=G6 (k:=k) (L0:=L0) (s:=s) (i:=i) d (j+1) m (EP n) (by omega) (by omega) (by omega) (Bf hn)
  have hd2:aF (Int.tdiv (n:Int) 2)=((n/2:Nat):Int):=aE (n:=((n/2:Nat):Int)) (by omega) (by omega)
  have hx:=Ky (n:=n/2) (m:=2197175160) (by omega) (by omega)
  have hm2:Int.tmod (n:Int) 2=((n % 2:Nat):Int):=rfl
  have hj1:aF ((j:Int)+1)=((j+1:Nat):Int):=by rw [aE (by omega) (by omega)];omega
  simp only [gO.l1,gO.b1,decide_eq_true c,aY,hj1,hd2,hm2,zp]
  rw [← ih]
  unfold EP
  by_cases q:n % 2=1
  · rw [if_pos q,q,← hx]
    rfl
  · rw [if_neg q,show n % 2=0 by omega]
    rfl
theorem GM {k:Nat} {L0:ByteArray→Int→Int→Option (Int × Unit)} {s:ByteArray} {i:Int}:∀ (d j m n:Nat),8-j=d→j≤8→d<m→n<4294967296→gL.l1 k L0 m s (n:Int) i (j:Int)=L0 s ((zp d n:Nat):Int) (aF (i+1))
 | 0,j,m,n,hd,hj,hm,hn=>by
  obtain ⟨m,rfl⟩:∃ q,m=q+1:=⟨m-1,by omega⟩
  have c:¬ ((j:Int)<8):=by omega
  simp only [gL.l1,gL.b1,decide_eq_false c,aK,zp]
 | d+1,j,m,n,hd,hj,hm,hn=>by
  obtain ⟨m,rfl⟩:∃ q,m=q+1:=⟨m-1,by omega⟩
  have c:((j:Int)<8):=by omega
  have ih:=GM (k:=k) (L0:=L0) (s:=s) (i:=i) d (j+1) m (EP n) (by omega) (by omega) (by omega) (Bf hn)
  have hd2:Int.fdiv (n:Int) (2 ^ (Int.toNat 1))=((n/2:Nat):Int):=by
   show Int.fdiv (n:Int) 2=_
   rw [Int.fdiv_eq_ediv_of_nonneg _ (by omega)]
   omega
  have hx:=L8 (n:=n/2) (m:=2197175160) (by omega) (by omega)
  have hj1:aF ((j:Int)+1)=((j+1:Nat):Int):=by rw [aE (by omega) (by omega)];omega
  simp only [gL.l1,gL.b1,decide_eq_true c,aY,hj1,hd2,MM hn,zp]
  rw [← ih]
  unfold EP
  by_cases q:n % 2=1
  · rw [if_pos q,q,← hx]
    rfl
  · rw [if_neg q,show n % 2=0 by omega]
    rfl
theorem Ls {k:Nat} (hk:2 ^ 50≤k) {s:ByteArray} (hs:s.size≤1099511627776):∀ (d i n m:Nat),s.size-i=d→i≤s.size→n<4294967296→d<m →
 gO.l0 k m s (n:Int) (i:Int)=some (4294967295-(EF ((nb s).drop i) n:Int),())∧gL.l0 k m s (n:Int) (i:Int)=some (4294967295-(EF ((nb s).drop i) n:Int),())
 | 0,i,n,m,hd,hi,hn,hm=>by
  obtain ⟨m,rfl⟩:∃ q,m=q+1:=⟨m-1,by omega⟩
  have c:¬ ((i:Int)<(s.size:Int)):=by omega
  have e1:aF (4294967295-(n:Int))=4294967295-(n:Int):=aE (by omega) (by omega)
  rw [List.drop_eq_nil_of_le (by rw [cW];omega)]
  constructor
  · simp only [gO.l0,gO.b0,decide_eq_false c,aK,e1,EF]
  · simp only [gL.l0,gL.b0,decide_eq_false c,aK,MQ hn,e1,EF]
 | d+1,i,n,m,hd,hi,hn,hm=>by
  obtain ⟨m,rfl⟩:∃ q,m=q+1:=⟨m-1,by omega⟩
  have hlt:i<s.size:=by omega
  have c:((i:Int)<(s.size:Int)):=by omega
  have h0:=Int.natCast_nonneg i
  have hb:=jZ s i
  have hat:=yl hlt
  rw [sC hlt]
  generalize (nb s).getD i 0=b at hb hat
  have w1:aF (b:Int)=(b:Int):=aE (by omega) (by omega)
  have w2:IntKind.wrap .u32 (b:Int)=(b:Int):=xC (by omega) (by omega)
  have hnb:n ^^^ b<4294967296:=Nat.xor_lt_two_pow (n:=32) (by omega) (by omega)
  have up:aF ((i:Int)+1)=((i+1:Nat):Int):=by rw [aE (by omega) (by omega)];omega
  obtain ⟨s1,s2⟩:=Ls hk hs d (i+1) (zp 8 (n ^^^ b)) m (by omega) (by omega) (Bh hnb) (by omega)
  constructor
  · simp only [gO.l0,gO.b0,decide_eq_true c,aY,aH h0 c,hat,w1,Ky hn (show b<4294967296 by omega)]
    refine (G6 8 0 k (n ^^^ b) (by omega) (by omega) (by omega) hnb).trans ?_
    rw [up]
    exact s1
  · simp only [gL.l0,gL.b0,decide_eq_true c,aY,aH h0 c,hat,w2,L8 hn (show b<4294967296 by omega)]
    refine (GM 8 0 k (n ^^^ b) (by omega) (by omega) (by omega) hnb).trans ?_
    rw [up]
    exact s2
theorem tL {k:Nat} (hk:2 ^ 50≤k) {s:ByteArray} (hs:s.size≤1099511627776):gO.f k s=some (p9 s,()):=by
 have:=(Ls hk hs s.size 0 4294967295 k (by omega) (by omega) (by omega) (by omega)).1
 rw [List.drop_zero] at this
 exact this
theorem ta {k:Nat} (hk:2 ^ 50≤k) {s:ByteArray} (hs:s.size≤1099511627776):gL.f k s=some (p9 s,()):=by
 have:=(Ls hk hs s.size 0 4294967295 k (by omega) (by omega) (by omega) (by omega)).2
 rw [List.drop_zero] at this
 exact this
def fI (n:Nat):ByteArray:=bytesOf [((n/16777216 % 256:Nat):Int),((n/65536 % 256:Nat):Int),((n/256 % 256:Nat):Int),((n % 256:Nat):Int)]
theorem ml (n:Nat):(fI n).size=4:=rfl
theorem G5 (n:Nat):nb (fI n)=[n/16777216 % 256,n/65536 % 256,n/256 % 256,n % 256] :=
 Di (l:=[n/16777216 % 256,n/65536 % 256,n/256 % 256,n % 256]) (by simp;omega)
theorem Fb {k:Nat} (hk:2 ^ 50≤k) {n:Nat} (h1:n<4294967296):dU.f k (n:Int) 4=some (fI n,()):=by
 have sz1:∀ x:Int,(bytesOf [x]).size=1:=fun x=>rfl
 have st:∀ (q m:Nat) (t:ByteArray) (j:Nat),m<4294967296→j<4→t.size≤100→dU.l0 k (q+1) (m:Int) 4 t (j:Int)=dU.l0 k q ((m/256:Nat):Int) 4 (bytesOf [((m % 256:Nat):Int)]++t) ((j+1:Nat):Int):=fun q m t j hm hj ht=>by
  have wd:aF (Int.tdiv (m:Int) 256)=((m/256:Nat):Int):=aE (n:=((m/256:Nat):Int)) (by omega) (by omega)
  have wm:IntKind.wrap .u8 (Int.tmod (m:Int) 256)=((m % 256:Nat):Int):=pA (n:=((m % 256:Nat):Int)) (by omega) (by omega)
  have wj:aF ((j:Int)+1)=((j+1:Nat):Int):=by rw [aE (by omega) (by omega)];omega
  simp (disch:=omega) only [dU.l0,dU.b0,aO,aY,wd,wm,wj]
  rw [dV (by rw [sz1];omega)]
 unfold dU.f dU.t
 rw [oo,aQ]
 simp only [show decide ((1:Int)≤4∧(4:Int)≤7)=true by decide,ff,aK,aP (show ¬ ((n:Int)<0) by omega)]
 obtain ⟨q,hq⟩:∃ q,k=q+5:=⟨k-5,by omega⟩
 refine (congrArg (fun z=>dU.l0 k z (n:Int) 4 ⟨#[]⟩ 0) hq).trans ?_
 refine (st (q+4) n _ 0 h1 (by omega) (by decide)).trans ?_
 refine (st (q+3) (n/256) _ 1 (by omega) (by omega) (by rw [ByteArray.size_append,sz1];decide)).trans ?_
 refine (st (q+2) (n/256/256) _ 2 (by omega) (by omega) (by rw [ByteArray.size_append,ByteArray.size_append,sz1,sz1];decide)).trans ?_
 refine (st (q+1) (n/256/256/256) _ 3 (by omega) (by omega) (by rw [ByteArray.size_append,ByteArray.size_append,ByteArray.size_append,sz1,sz1,sz1];decide)).trans ?_
 have c:¬ ((((3+1:Nat)):Int)<4):=by omega
 have c2:¬ (((n/256/256/256/256:Nat):Int) > 0):=by omega
 simp only [dU.l0,dU.b0,aP c,aP c2,aK]
 unfold fI
 congr 2
 rw [show n/256/256/256=n/16777216 by omega,show n/256/256=n/65536 by omega]
 apply ByteArray.ext
 simp [bytesOf,ByteArray.data_append]
theorem Eg {k:Nat} (hk:2 ^ 50≤k) {n:Nat} (h1:n<4294967296):dX.f k (n:Int) 4=some (fI n,()):=by
 have st:∀ (q j p:Nat) (i':Int) (xs:List Int),j≤3→p=2 ^ (8*j)→i'=(j:Int)-1→xs.length≤100→dX.l0 k (q+1) (n:Int) (j:Int) xs=dX.l0 k q (n:Int) i' (xs++[((n/p % 256:Nat):Int)]):=fun q j p i' xs hj hp hi hx=>by
  have e8:aF (8*(j:Int))=((8*j:Nat):Int):=by rw [aE (by omega) (by omega)];omega
  have e1:aF ((j:Int)-1)=i':=by rw [hi];exact aE (by omega) (by omega)
  have emin:min (8*j) (IntKind.bits .i64)=8*j:=by have:IntKind.bits .i64=64:=rfl;rw [this];omega
  have ew:IntKind.wrap .u8 (Int.fdiv (n:Int) (2 ^ (8*j)))=((n/p % 256:Nat):Int):=by
   have e2:((2:Int) ^ (8*j))=((p:Nat):Int):=by rw [hp,Int.natCast_pow];rfl
   rw [e2,Int.fdiv_eq_ediv_of_nonneg _ (by omega),← Int.natCast_ediv]
   generalize n/p=z
   unfold IntKind.wrap
   simp [IntKind.bits,IntKind.signed]
  simp (disch:=first | omega | decide) only [dX.l0,dX.b0,aO,aY,e8,bO,e1,nU,emin,ew]
  rw [aP (by omega),aK]
 unfold dX.f dX.t
 rw [uA,aQ]
 have c0:¬ (aF (8*4)<0):=by decide
 simp only [show decide ((1:Int)≤4∧(4:Int)≤7)=true by decide,ff,aK,aP c0,show aF (aF (1*2 ^ min (Int.toNat (aF (8*4))) (IntKind.bits .i64))-1)=4294967295 by decide,uA,aQ]
 rw [aO (show (0:Int)≤(n:Int)∧(n:Int)≤4294967295 by omega)]
 simp only [ff,aK,show aF ((4:Int)-1)=((3:Nat):Int) by decide]
 obtain ⟨q,hq⟩:∃ q,k=q+5:=⟨k-5,by omega⟩
 refine (congrArg (fun z=>dX.l0 k z (n:Int) ((3:Nat):Int) []) hq).trans ?_
 refine (st (q+4) 3 16777216 ((2:Nat):Int) _ (by omega) (by decide) (by decide) (by decide)).trans ?_
 refine (st (q+3) 2 65536 ((1:Nat):Int) _ (by omega) (by decide) (by decide) (by simp)).trans ?_
 refine (st (q+2) 1 256 ((0:Nat):Int) _ (by omega) (by decide) (by decide) (by simp)).trans ?_
 refine (st (q+1) 0 1 (-1) _ (by omega) (by decide) (by decide) (by simp)).trans ?_
 simp only [dX.l0,dX.b0,show decide ((-1:Int)≥0)=false by decide,aK,Nat.div_one]
 rfl
def qn (a:Int):ByteArray:=fI a.toNat
theorem kU (a:Int):(qn a).size=4:=rfl
theorem pz {k:Nat} (hk:2 ^ 50≤k) {a:Int} (h0:0≤a) (h1:a≤4294967295):dU.f k a 4=some (qn a,()):=by
 obtain ⟨n,rfl⟩:=Int.eq_ofNat_of_zero_le h0
 exact Fb hk (by omega)
theorem qV {k:Nat} (hk:2 ^ 50≤k) {a:Int} (h0:0≤a) (h1:a≤4294967295):dX.f k a 4=some (qn a,()):=by
 obtain ⟨n,rfl⟩:=Int.eq_ofNat_of_zero_le h0
 exact Eg hk (by omega)
theorem xr (s:ByteArray):(∃ x t,x<4294967296∧s=fI x++t)∨s.size<4:=by
 by_cases c:s.size<4
 · exact .inr c
 · left
   have h0:=sC (s:=s) (i:=0) (by omega)
   have h1:=sC (s:=s) (i:=1) (by omega)
   have h2:=sC (s:=s) (i:=2) (by omega)
   have h3:=sC (s:=s) (i:=3) (by omega)
   have b0:=jZ s 0
   have b1:=jZ s 1
   have b2:=jZ s 2
   have b3:=jZ s 3
   rw [h1,h2,h3,List.drop_zero] at h0
   generalize (nb s).getD 0 0=x0 at *
   generalize (nb s).getD 1 0=x1 at *
   generalize (nb s).getD 2 0=x2 at *
   generalize (nb s).getD 3 0=x3 at *
   refine ⟨((x0*256+x1)*256+x2)*256+x3,ByteArray.extract s 4 s.size,by omega,kt ?_⟩
   rw [iT,G5,jC,h0]
   simp only [List.cons_append,List.nil_append,List.drop_succ_cons,List.drop_zero,List.cons.injEq,and_true]
   refine ⟨?_,?_,?_,?_⟩ <;> omega
theorem vn (x:Nat) (t:ByteArray):nb (fI x++t)=(x/16777216 % 256)::(x/65536 % 256)::(x/256 % 256)::(x % 256)::nb t:=by
 rw [iT,G5];rfl
theorem nL (x:Nat) (t:ByteArray):(fI x++t).size=4+t.size:=by rw [ByteArray.size_append];rfl
theorem nc (k:Nat) (s:ByteArray):eO.f k s=some (decide (1≤(s.size:Int)∧(s.size:Int)≤8),()):=by
 unfold eO.f eO.t
 rw [oo];rfl
theorem qP (k:Nat) (s:ByteArray):h_.f k s=some (decide (1≤(s.size:Int)∧(s.size:Int)≤8),()):=by
 unfold h_.f h_.t
 rw [uA];rfl
def j9 (a:Ty.d bP):Bool :=
 bif a.1==1||a.1==4 then decide (1≤(a.2.2.1.size:Int)∧(a.2.2.1.size:Int)≤8)&&(decide ((a.2.2.2.1.size:Int)≤24)&&((a.2.2.2.2.1==0)&&((a.2.2.2.2.2.1==0)&&decide (1≤a.2.1∧a.2.1≤1000000))))
 else bif a.1==2 then decide (1≤(a.2.2.1.size:Int)∧(a.2.2.1.size:Int)≤8)&&(seq a.2.2.2.1 ⟨#[]⟩&&((a.2.2.2.2.1==0)&&((a.2.2.2.2.2.1==0)&&decide (1≤a.2.1∧a.2.1≤1000000))))
 else bif a.1==3 then seq a.2.2.1 ⟨#[]⟩&&(seq a.2.2.2.1 ⟨#[]⟩&&(decide (0≤a.2.2.2.2.1∧a.2.2.2.2.1≤8)&&(decide (0≤a.2.2.2.2.2.1∧a.2.2.2.2.2.1≤4294967295)&&decide (1≤a.2.1∧a.2.1≤1000000))))
 else bif a.1==5 then seq a.2.2.1 ⟨#[]⟩&&(seq a.2.2.2.1 ⟨#[]⟩&&(decide (0≤a.2.2.2.2.1∧a.2.2.2.2.1≤20)&&(decide (0≤a.2.2.2.2.2.1∧a.2.2.2.2.2.1≤4294967295)&&decide (0≤a.2.1∧a.2.1≤1000000))))
 else false
theorem Hm (s:ByteArray):seq s ByteArray.empty=seq s ⟨#[]⟩:=rfl
theorem ig (k:Nat) (a:Ty.d bP):gF.f k a=some (j9 a,()):=by
 obtain ⟨ty,tx,key,tt,n,sm,u⟩:=a
 unfold gF.f gF.t j9
 simp only [uA,qP,aQ,cF,Hm]
 change Int at ty tx n sm
 change ByteArray at key tt
 generalize decide (1≤(key.size:Int)∧(key.size:Int)≤8)=K
 generalize decide ((tt.size:Int)≤24)=L
 generalize decide (1≤tx∧tx≤1000000)=T1
 generalize decide (0≤tx∧tx≤1000000)=T0
 generalize decide (0≤n∧n≤8)=N1
 generalize decide (0≤n∧n≤20)=N2
 generalize decide (0≤sm∧sm≤4294967295)=S
 generalize (n==0)=Z1
 generalize (sm==0)=Z2
 generalize seq key ⟨#[]⟩=E1
 generalize seq tt ⟨#[]⟩=E2
 by_cases h1:ty=1
 · subst h1;simp;cases K <;> cases L <;> cases T1 <;> cases Z1 <;> cases Z2 <;> rfl
 by_cases h4:ty=4
 · subst h4;simp;cases K <;> cases L <;> cases T1 <;> cases Z1 <;> cases Z2 <;> rfl
 by_cases h2:ty=2
 · subst h2;simp;cases K <;> cases E2 <;> cases T1 <;> cases Z1 <;> cases Z2 <;> rfl
 by_cases h3:ty=3
 · subst h3;simp;cases E1 <;> cases E2 <;> cases T1 <;> cases N1 <;> cases S <;> rfl
 by_cases h5:ty=5
 · subst h5;simp;cases E1 <;> cases E2 <;> cases T0 <;> cases N2 <;> cases S <;> rfl
 have b1:(ty==1)=false:=nw h1
 have b2:(ty==2)=false:=nw h2
 have b3:(ty==3)=false:=nw h3
 have b4:(ty==4)=false:=nw h4
 have b5:(ty==5)=false:=nw h5
 have b6:(ty != 5)=true:=bne_iff_ne.2 h5
 simp only [b1,b2,b3,b4,b5,b6,Bool.or_false,aK,aY]
theorem BQ (k:Nat) (a:Ty.d bP):kx.f k a=some (j9 a,()):=by
 obtain ⟨ty,tx,key,tt,n,sm,u⟩:=a
 unfold kx.f kx.t j9
 simp only [oo,nc,aQ]
 change Int at ty tx n sm
 change ByteArray at key tt
 have q:decide (1≤tx∧tx≤1000000)=(decide (0≤tx∧tx≤1000000)&&!(tx==0)):=by
  rw [Bool.eq_iff_iff];simp;omega
 rw [q]
 generalize decide (1≤(key.size:Int)∧(key.size:Int)≤8)=K
 generalize decide ((tt.size:Int)≤24)=L
 generalize decide (0≤tx∧tx≤1000000)=T0
 generalize (tx==0)=T
 generalize decide (0≤n∧n≤8)=N1
 generalize decide (0≤n∧n≤20)=N2
 generalize decide (0≤sm∧sm≤4294967295)=S
 generalize (n==0)=Z1
 generalize (sm==0)=Z2
 generalize seq key ⟨#[]⟩=E1
 generalize seq tt ⟨#[]⟩=E2
 by_cases h1:ty=1
 · subst h1;simp;cases T0 <;> cases T <;> cases K <;> cases L <;> cases Z1 <;> cases Z2 <;> rfl
 by_cases h4:ty=4
 · subst h4;simp;cases T0 <;> cases T <;> cases K <;> cases L <;> cases Z1 <;> cases Z2 <;> rfl
 by_cases h2:ty=2
 · subst h2;simp;cases T0 <;> cases T <;> cases K <;> cases E2 <;> cases Z1 <;> cases Z2 <;> rfl
 by_cases h3:ty=3
 · subst h3;simp;cases T0 <;> cases T <;> cases E1 <;> cases E2 <;> cases N1 <;> cases S <;> rfl
 by_cases h5:ty=5
 · subst h5;simp;cases T0 <;> cases T <;> cases E1 <;> cases E2 <;> cases N2 <;> cases S <;> rfl
 have b1:(ty==1)=false:=nw h1
 have b2:(ty==2)=false:=nw h2
 have b3:(ty==3)=false:=nw h3
 have b4:(ty==4)=false:=nw h4
 have b5:(ty==5)=false:=nw h5
 have b6:(ty != 5)=true:=bne_iff_ne.2 h5
 simp only [b1,b2,b3,b4,b5,b6,Bool.or_false,aK,aY]
 cases T0 <;> cases T <;> rfl
def jq (s:ByteArray):ByteArray:=iL (s.size:Int)++s
theorem mb (s:ByteArray):(jq s).size≤7+s.size:=by
 unfold jq
 have:=b9 (s.size:Int)
 rw [ByteArray.size_append]
 omega
def aU (a:Ty.d bP):ByteArray :=
 if j9 a=true then
  if a.1=1∨a.1=4 then iL a.1++(iL a.2.1++(jq a.2.2.1++jq a.2.2.2.1))
  else if a.1=2 then iL a.1++(iL a.2.1++jq a.2.2.1)
  else iL a.1++(iL a.2.1++(iL a.2.2.2.2.1++qn a.2.2.2.2.2.1))
 else ⟨#[]⟩
theorem nM {a:Ty.d bP} (h:j9 a=true) :
 ((a.1=1∨a.1=4)∧1≤a.2.2.1.size∧a.2.2.1.size≤8∧a.2.2.2.1.size≤24∧a.2.2.2.2.1=0∧a.2.2.2.2.2.1=0∧1≤a.2.1∧a.2.1≤1000000) ∨
 (a.1=2∧1≤a.2.2.1.size∧a.2.2.1.size≤8∧a.2.2.2.1=⟨#[]⟩∧a.2.2.2.2.1=0∧a.2.2.2.2.2.1=0∧1≤a.2.1∧a.2.1≤1000000) ∨
 ((a.1=3∨a.1=5)∧a.2.2.1=⟨#[]⟩∧a.2.2.2.1=⟨#[]⟩∧0≤a.2.2.2.2.1∧a.2.2.2.2.1≤20∧0≤a.2.2.2.2.2.1∧a.2.2.2.2.2.1≤4294967295∧0≤a.2.1∧a.2.1≤1000000):=by
 obtain ⟨kd,bt,key,val,cn,sm,u⟩:=a
 change Int at kd bt cn sm
 change ByteArray at key val
 unfold j9 at h
 simp only [] at h ⊢
 by_cases c:kd=1∨kd=4
 · have b:(kd==1||kd==4)=true:=by rcases c with c | c <;> rw [c] <;> rfl
   rw [b,aY] at h
   simp only [ke,decide_eq_true_eq,beq_iff_eq] at h
   exact .inl ⟨c,by omega,by omega,by omega,h.2.2.1,h.2.2.2.1,h.2.2.2.2⟩
 · have b1:(kd==1)=false:=nw fun h=>c (.inl h)
   have b4:(kd==4)=false:=nw fun h=>c (.inr h)
   simp only [b1,b4,Bool.or_false,aK] at h
   cases b2:(kd==2) with
   | true =>
    rw [b2,aY] at h
    simp only [ke,decide_eq_true_eq,beq_iff_eq,cS] at h
    exact .inr (.inl ⟨eq_of_beq b2,by omega,by omega,h.2.1,h.2.2.1,h.2.2.2.1,h.2.2.2.2⟩)
   | false =>
    rw [b2,aK] at h
    cases b3:(kd==3) with
    | true =>
     rw [b3,aY] at h
     simp only [ke,decide_eq_true_eq,cS] at h
     exact .inr (.inr ⟨.inl (eq_of_beq b3),h.1,h.2.1,h.2.2.1.1,Int.le_trans h.2.2.1.2 (by decide),h.2.2.2.1.1,h.2.2.2.1.2,Int.le_trans (by decide) h.2.2.2.2.1,h.2.2.2.2.2⟩)
    | false =>
     rw [b3,aK] at h
     cases b5:(kd==5) with
     | true =>
      rw [b5,aY] at h
      simp only [ke,decide_eq_true_eq,cS] at h
      exact .inr (.inr ⟨.inr (eq_of_beq b5),h.1,h.2.1,h.2.2.1.1,h.2.2.1.2,h.2.2.2.1.1,h.2.2.2.1.2,h.2.2.2.2.1,h.2.2.2.2.2⟩)
     | false =>
      rw [b5,aK] at h
      cases h
theorem xB {kd b cn sm:Int} {key val:ByteArray} (h:j9 (kd,(b,(key,(val,(cn,(sm,()))))))=true) :
 ((kd=1∨kd=4)∧1≤key.size∧key.size≤8∧val.size≤24∧cn=0∧sm=0∧1≤b∧b≤1000000) ∨
 (kd=2∧1≤key.size∧key.size≤8∧val=⟨#[]⟩∧cn=0∧sm=0∧1≤b∧b≤1000000) ∨
 ((kd=3∨kd=5)∧key=⟨#[]⟩∧val=⟨#[]⟩∧0≤cn∧cn≤20∧0≤sm∧sm≤4294967295∧0≤b∧b≤1000000):=nM h
theorem cR {k:Nat} (hk:2 ^ 50≤k) (a:Ty.d bP):bL.f k a=some (aU a,()):=by
 unfold bL.f bL.t aU
 rw [BQ,aQ]
 cases hr:j9 a with
 | false=>rfl
 | true =>
  have v1:=b9 a.1
  have v2:=b9 a.2.1
  have v3:=b9 (a.2.2.1.size:Int)
  have v4:=b9 (a.2.2.2.1.size:Int)
  have v5:=b9 a.2.2.2.2.1
  have v6:=kU a.2.2.2.2.2.1
  simp only [ff,aK,if_true,jq]
  rcases nM hr with ⟨c,h⟩ | ⟨c,h⟩ | ⟨c,h⟩
  · rw [if_pos c]
    rcases c with c | c
    · have b1:(a.1==1)=true:=by rw [c];rfl
      simp (disch:=first | omega | (simp only [ByteArray.size_append];omega)) only [h9 hk,aQ,b1,aY,dV,ar]
    · have b1:(a.1==1)=false:=by rw [c];rfl
      have b4:(a.1==4)=true:=by rw [c];rfl
      simp (disch:=first | omega | (simp only [ByteArray.size_append];omega)) only [h9 hk,aQ,b1,b4,aY,aK,dV,ar]
  · have b1:(a.1==1)=false:=by rw [c];rfl
    have b4:(a.1==4)=false:=by rw [c];rfl
    have b2:(a.1==2)=true:=by rw [c];rfl
    rw [if_neg (show ¬ (a.1=1∨a.1=4) by rw [c];decide),if_pos c]
    simp (disch:=first | omega | (simp only [ByteArray.size_append];omega)) only [h9 hk,aQ,b1,b2,b4,aY,aK,dV,ar]
  · have b1:(a.1==1)=false:=by rcases c with c | c <;> rw [c] <;> rfl
    have b4:(a.1==4)=false:=by rcases c with c | c <;> rw [c] <;> rfl
    have b2:(a.1==2)=false:=by rcases c with c | c <;> rw [c] <;> rfl
    rw [if_neg (show ¬ (a.1=1∨a.1=4) by rcases c with c | c <;> rw [c] <;> decide),if_neg (show ¬ a.1=2 by rcases c with c | c <;> rw [c] <;> decide)]
    obtain ⟨_,_,_,_,z1,z2,_⟩:=h
    simp (disch:=first | assumption | omega | (simp only [ByteArray.size_append];omega)) only [h9 hk,pz hk,aQ,b1,b2,b4,aY,aK,dV,ar]
theorem A_ {k:Nat} (hk:2 ^ 50≤k) (x y:Int):dM.f k [x,y]=some (iL x++iL y,()):=by
 have v1:=b9 x
 have v2:=b9 y
 obtain ⟨q,hq⟩:∃ q,k=q+3:=⟨k-3,by omega⟩
 refine (congrArg (fun z=>dM.l0 k z ⟨#[]⟩ [x,y] 2 0) hq).trans ?_
 rw [show dM.l0 k (q+3) ⟨#[]⟩ [x,y] 2 0=(fg.f k x).bind (fun r1=>kC ⟨#[]⟩ r1.1 (dM.l0 k (q+2) (⟨#[]⟩++r1.1) [x,y] 2 1)) from rfl]
 rw [oE hk,aQ]
 simp only []
 rw [dV (by rw [show (⟨#[]⟩:ByteArray).size=0 from rfl];omega),od]
 rw [show dM.l0 k (q+2) (iL x) [x,y] 2 1=(fg.f k y).bind (fun r1=>kC (iL x) r1.1 (dM.l0 k (q+1) (iL x++r1.1) [x,y] 2 2)) from rfl]
 rw [oE hk,aQ]
 simp only []
 rw [dV (by omega)]
 rfl
theorem lX {k:Nat} (hk:2 ^ 50≤k) {s:ByteArray} (hs:s.size≤1099511627776):eH.f k s=some (jq s,()):=by
 have:=b9 (s.size:Int)
 unfold eH.f eH.t jq
 simp (disch:=omega) only [oE hk,aQ,dV]
theorem yn {k:Nat} (hk:2 ^ 50≤k) (a:Ty.d bP):jN.f k a=some (aU a,()):=by
 unfold jN.f jN.t aU
 rw [ig,aQ]
 cases hr:j9 a with
 | false=>rfl
 | true =>
  have v1:=b9 a.1
  have v2:=b9 a.2.1
  have v3:=mb a.2.2.1
  have v4:=mb a.2.2.2.1
  have v5:=b9 a.2.2.2.2.1
  have v6:=kU a.2.2.2.2.2.1
  simp only [ff,aK,if_true,A_ hk,aQ]
  rcases nM hr with ⟨c,h⟩ | ⟨c,h⟩ | ⟨c,h⟩
  · rw [if_pos c]
    rcases c with c | c
    · have b1:(a.1==1)=true:=by rw [c];rfl
      simp (disch:=first | omega | (simp only [ByteArray.size_append];omega)) only [lX hk,aQ,b1,aY,dV,ar]
    · have b1:(a.1==1)=false:=by rw [c];rfl
      have b4:(a.1==4)=true:=by rw [c];rfl
      simp (disch:=first | omega | (simp only [ByteArray.size_append];omega)) only [lX hk,aQ,b1,b4,aY,aK,dV,ar]
  · have b1:(a.1==1)=false:=by rw [c];rfl
    have b4:(a.1==4)=false:=by rw [c];rfl
    have b2:(a.1==2)=true:=by rw [c];rfl
    rw [if_neg (show ¬ (a.1=1∨a.1=4) by rw [c];decide),if_pos c]
    simp (disch:=first | omega | (simp only [ByteArray.size_append];omega)) only [lX hk,aQ,b1,b2,b4,aY,aK,dV,ar]
  · have b1:(a.1==1)=false:=by rcases c with c | c <;> rw [c] <;> rfl
    have b4:(a.1==4)=false:=by rcases c with c | c <;> rw [c] <;> rfl
    have b2:(a.1==2)=false:=by rcases c with c | c <;> rw [c] <;> rfl
    rw [if_neg (show ¬ (a.1=1∨a.1=4) by rcases c with c | c <;> rw [c] <;> decide),if_neg (show ¬ a.1=2 by rcases c with c | c <;> rw [c] <;> decide)]
    obtain ⟨_,_,_,_,z1,z2,_⟩:=h
    simp (disch:=first | assumption | omega | (simp only [ByteArray.size_append];omega)) only [oE hk,qV hk,aQ,b1,b2,b4,aY,aK,dV,ar]
theorem uq (a:Ty.d bP):(aU a).size≤60:=by
 unfold aU
 split
 · rename_i hr
   have v1:=b9 a.1
   have v2:=b9 a.2.1
   have v3:=mb a.2.2.1
   have v4:=mb a.2.2.2.1
   have v5:=b9 a.2.2.2.2.1
   have v6:=kU a.2.2.2.2.2.1
   rcases nM hr with ⟨c,h⟩ | ⟨c,h⟩ | ⟨c,h⟩
   · rw [if_pos c]
     simp only [ByteArray.size_append];omega
   · rw [if_neg (show ¬ (a.1=1∨a.1=4) by rw [c];decide),if_pos c]
     simp only [ByteArray.size_append];omega
   · rw [if_neg (show ¬ (a.1=1∨a.1=4) by rcases c with c | c <;> rw [c] <;> decide),if_neg (show ¬ a.1=2 by rcases c with c | c <;> rw [c] <;> decide)]
     simp only [ByteArray.size_append];omega
 · exact Nat.zero_le _
def oe:List (Ty.d bP)→ByteArray
 | []=>⟨#[]⟩
 | a::l=>aU a++oe l
def CP (l:List (Ty.d bP)):Int:=p9 (oe l)
theorem qM {k:Nat} (hk:2 ^ 50≤k) {l:List (Ty.d bP)} (hl:l.length≤1073741824):gG.f k l=some (CP l,()):=by
 refine (eV (L:=fun n i s=>gG.l0 k n l s i) (R:=fun l s=>some (p9 (s++oe l),())) (Ty.z bP) l (fun i s=>(s.size:Int)≤60*i) (fun n s hs=>?_) (fun n i s x rest h0 h1 hx hr hp ih=>?_) (n:=k) (s:=⟨#[]⟩) (by omega) (by decide)).trans (by rw [od];rfl)
 · simp (disch:=omega) only [gG.l0,gG.b0,aP,aK,tL hk,aQ,oe,gS]
 · have hz:=uq x
   simp (disch:=omega) only [gG.l0,gG.b0,aO,aY,aH,hx,cR hk,aQ,dV,aE]
   rw [ih _ (by rw [ByteArray.size_append];omega),oe,ar]
theorem BP {k:Nat} (hk:2 ^ 50≤k) {l:List (Ty.d bP)} (hl:l.length≤1073741824):jE.f k l=some (CP l,()):=by
 refine (eV (L:=fun n i s=>jE.l0 k n s l l.length i) (R:=fun l s=>some (p9 (s++oe l),())) (Ty.z bP) l (fun i s=>(s.size:Int)≤60*i) (fun n s hs=>?_) (fun n i s x rest h0 h1 hx hr hp ih=>?_) (n:=k) (s:=⟨#[]⟩) (by omega) (by decide)).trans (by rw [od];rfl)
 · simp (disch:=omega) only [jE.l0,jE.b0,aP,aK,ta hk,aQ,oe,gS]
 · have hz:=uq x
   simp (disch:=omega) only [jE.l0,jE.b0,aO,aY,aH,hx,yn hk,aQ,dV,aE]
   rw [ih _ (by rw [ByteArray.size_append];omega),oe,ar]
theorem BL {s:ByteArray} (hs:s.size≤4611686018427387904) (k:Nat):∀ (d i acc n:Nat),i+d=7→acc<128 ^ i→d<n →
 cw.l0 k n s (acc:Int) (i:Int)=some (match rv d ((nb s).drop i) with
  | some (a,m)=>if a=0∧0<i then (0,(0,())) else (((acc+a*128 ^ i:Nat):Int),(((i+m:Nat):Int),()))
  | none=>(0,(0,()))):=by
 intro d
 induction d with
 | zero =>
  intro i acc n h1 h2 h3
  obtain ⟨n,rfl⟩:∃ q,n=q+1:=⟨n-1,by omega⟩
  simp (disch:=omega) only [cw.l0,cw.b0,aP,aK,rv]
 | succ d ih =>
  intro i acc n h1 h2 h3
  obtain ⟨n,rfl⟩:∃ q,n=q+1:=⟨n-1,by omega⟩
  by_cases hlt:i<s.size
  case neg =>
   rw [List.drop_eq_nil_of_le (by rw [cW];omega)]
   simp (disch:=omega) only [cw.l0,cw.b0,aO,aP,aY,aK,rv]
  have hb:=jZ s i
  have hat:=yl hlt
  have ih:=ih (i+1)
  rw [sC hlt]
  generalize (nb s).getD i 0=b at hb hat
  have e8:aF (7*(i:Int))=((7*i:Nat):Int):=by rw [aE (by omega) (by omega)];omega
  have emin:min (7*i) (IntKind.bits .i64)=7*i:=by have:IntKind.bits .i64=64:=rfl;rw [this];omega
  have ep:(2:Int) ^ (7*i)=((128 ^ i:Nat):Int):=by rw [Int.pow_mul,Int.natCast_pow];rfl
  have hp:128 ^ i≤128 ^ 6:=Nat.pow_le_pow_right (by decide) (by omega)
  rw [show (128:Nat) ^ 6=4398046511104 by decide] at hp
  have hps:128 ^ (i+1)=128 ^ i*128:=Nat.pow_succ ..
  have hb2:(b % 128)*128 ^ i≤127*128 ^ i:=Nat.mul_le_mul (by omega) (Nat.le_refl _)
  have ev:aF ((acc:Int)+aF (Int.tmod (b:Int) 128*2 ^ (7*i)))=((acc+b % 128*128 ^ i:Nat):Int):=by
   have e:Int.tmod (b:Int) 128*2 ^ (7*i)=((b % 128*128 ^ i:Nat):Int):=by
    rw [ep,Int.natCast_mul]
    rfl
   rw [e,aE (n:=((b % 128*128 ^ i:Nat):Int)) (by omega) (by omega),aE (by omega) (by omega)]
   omega
  have eb:aF ((b:Nat):Int)=(b:Int):=aE (by omega) (by omega)
  have ei:aF ((i:Int)+1)=((i+1:Nat):Int):=by rw [aE (by omega) (by omega)];omega
  have ih:=ih (acc+b % 128*128 ^ i) n (by omega) (by omega) (by omega)
  simp (disch:=omega) only [cw.l0,cw.b0,aO,aY,aH,hat,eb,e8,nU,emin,ev,ei]
  rw [aP (by omega),aK]
  by_cases c:b≥128
  · rw [aO (show (b:Int)≥128 by omega),aY,ih,rv,if_pos c]
    cases q:rv d ((nb s).drop (i+1)) with
    | none=>rfl
    | some p =>
     obtain ⟨a,m⟩:=p
     simp only []
     by_cases z:a=0
     · simp [z]
     · have hm:a*128 ^ (i+1)=128*a*128 ^ i:=by rw [hps,Nat.mul_comm (128 ^ i),← Nat.mul_assoc,Nat.mul_comm a]
       rw [if_neg (by omega),if_neg z]
       simp only []
       rw [if_neg (by omega)]
       have e1:acc+b % 128*128 ^ i+a*128 ^ (i+1)=acc+(b % 128+128*a)*128 ^ i:=by rw [hm,Nat.add_mul];omega
       have e2:i+1+m=i+(m+1):=by omega
       rw [e1,e2]
  · have em:b % 128=b:=by omega
    rw [aP (show ¬ (b:Int)≥128 by omega),aK,rv,if_neg c,em]
    by_cases z:b=0
    · subst z
      rw [show ((((0:Nat):Int)==0))=true from rfl,aY]
      by_cases hi:0<i
      · rw [aO (show (i:Int) > 0 by omega),aY]
        simp [hi]
      · rw [aP (show ¬ (i:Int) > 0 by omega),aK]
        simp [hi]
    · rw [show ((b:Int)==0)=false from nw (by omega),aK]
      simp [z]
theorem oW {k:Nat} (hk:2 ^ 50≤k) {s:ByteArray} (hs:s.size≤4611686018427387904):cw.f k s=some (FG (rv 7 (nb s))):=by
 unfold cw.f cw.t
 refine (BL hs k 7 0 0 k (by omega) (by decide) (by omega)).trans ?_
 rw [List.drop_zero]
 cases rv 7 (nb s) with
 | none=>rfl
 | some p=>simp [FG]
theorem GD {k:Nat} {L0:ByteArray→Int→Option (Int × Int × Unit)} {s:ByteArray} {n:Nat}:∀ (j x m:Nat),j<m→j≤s.size→j≤7→(x+1)*128 ^ j≤562949953421312 →
 am.l1 k L0 m s (n:Int) (x:Int) ((j:Int)-1)=am.l1 k L0 (m-j) s (n:Int) ((x*128 ^ j+sb ((nb s).take j):Nat):Int) (-1)
 | 0,x,m,hm,hs,h7,hx=>by simp [sb]
 | j+1,x,m,hm,hs,h7,hx=>by
  obtain ⟨m,rfl⟩:∃ q,m=q+1:=⟨m-1,by omega⟩
  have hj:j<s.size:=by omega
  have hb:=jZ s j
  rw [Nat.pow_succ,← Nat.mul_assoc,Nat.mul_comm _ 128,← Nat.mul_assoc] at hx
  have hpos:1≤128 ^ j:=Nat.one_le_pow _ _ (by decide)
  have hx2:(128*(x+1))*1≤(128*(x+1))*128 ^ j:=Nat.mul_le_mul (Nat.le_refl _) hpos
  have hat:=yl hj
  have e0:((j+1:Nat):Int)-1=(j:Int):=by omega
  have c:(j:Int)≥0:=by omega
  have c2:(j:Int)<(s.size:Int):=by omega
  rw [I0 hj,Ck,List.length_take,cW,Nat.min_eq_left (by omega)]
  generalize (nb s).getD j 0=b at hb hat ⊢
  have w1:aF (((b:Nat):Int))=(b:Int):=aE (by omega) (by omega)
  have w2:aF ((x:Int)*128)=(x:Int)*128:=aE (by omega) (by omega)
  have w3:aF ((x:Int)*128+Int.tmod (b:Int) 128)=((x*128+b % 128:Nat):Int):=by
   have e:(x:Int)*128+Int.tmod (b:Int) 128=((x*128+b % 128:Nat):Int):=by
    show (x:Int)*128+((b % 128:Nat):Int)=_
    omega
   rw [e]
   exact aE (by omega) (by omega)
  have w4:aF ((j:Int)-1)=(j:Int)-1:=aE (by omega) (by omega)
  have hx3:(x*128+b % 128+1)*128 ^ j≤(128*(x+1))*128 ^ j:=Nat.mul_le_mul (by omega) (Nat.le_refl _)
  have ih:=GD (k:=k) (L0:=L0) (s:=s) (n:=n) j (x*128+b % 128) m (by omega) (by omega) (by omega) (by omega)
  rw [e0]
  simp only [am.l1,am.b1,decide_eq_true c,aY,aH c c2,hat,w1,w2,w3,w4]
  rw [ih,show m+1-(j+1)=m-j by omega]
  congr 2
  rw [Nat.pow_succ,Nat.add_mul,Nat.mul_assoc,Nat.mul_comm 128 (128 ^ j),Nat.mul_comm (b % 128)]
  omega
theorem Mq {s:ByteArray} {n:Nat} (h7:n≤7):sb ((nb s).take n)<562949953421312:=by
 have:=CE ((nb s).take n)
 have h1:((nb s).take n).length≤7:=by rw [List.length_take];omega
 have h2:(128:Nat) ^ ((nb s).take n).length≤128 ^ 7:=Nat.pow_le_pow_right (by decide) h1
 rw [show (128:Nat) ^ 7=562949953421312 by decide] at h2
 omega
theorem B6 {k:Nat} (hk:2 ^ 50≤k) {s:ByteArray}:∀ (d i n:Nat),i+d=8→1≤i→d<n →
 am.l0 k n s (i:Int)=some (match rv 7 (nb s) with | some (a,m)=>if i≤m then ((a:Int),((m:Int),())) else (0,(0,())) | none=>(0,(0,()))):=by
 have stop:∀ i,(7<i∨s.size<i)→(match rv 7 (nb s) with | some (a,m)=>if i≤m then ((a:Int),((m:Int),())) else (0,(0,())) | none=>(0,(0,())))=((0:Int),((0:Int),())):=by
  intro i hi
  cases q:rv 7 (nb s) with
  | none=>rfl
  | some p =>
   obtain ⟨a,m⟩:=p
   obtain ⟨_,_,_,h4,_,h6⟩:=q_ 6 (nb s) a m (tF s) q
   rw [cW] at h4
   exact if_neg (by omega)
 intro d
 induction d with
 | zero =>
  intro i n h1 h2 h3
  obtain ⟨n,rfl⟩:∃ q,n=q+1:=⟨n-1,by omega⟩
  rw [stop i (by omega)]
  simp (disch:=omega) only [am.l0,am.b0,aP,aK]
 | succ d ih =>
  intro i n h1 h2 h3
  obtain ⟨n,rfl⟩:∃ q,n=q+1:=⟨n-1,by omega⟩
  by_cases hs:i≤s.size
  case neg =>
   rw [stop i (by omega)]
   simp (disch:=omega) only [am.l0,am.b0,aO,aP,aY,aK]
  have hp:(128:Nat) ^ i≤128 ^ 7:=Nat.pow_le_pow_right (by decide) (by omega)
  rw [show (128:Nat) ^ 7=562949953421312 by decide] at hp
  simp (disch:=omega) only [am.l0,am.b0,aO,aY,aE]
  refine (GD (k:=k) (L0:=am.l0 k n) (s:=s) (n:=i) i 0 k (by omega) hs (by omega) (by omega)).trans ?_
  obtain ⟨m,hm⟩:∃ m,k-i=m+1:=⟨k-i-1,by omega⟩
  have hd7:=Mq (s:=s) (n:=i) (by omega)
  have hc:=H0 (s:=s) (n:=i) h2 (by omega) hs
  rw [hm,Nat.zero_mul,Nat.zero_add]
  simp only [am.l1,am.b1,show decide ((-1:Int)≥0)=false by decide,aK,h9 hk,aQ,dS hd7]
  rw [bq (by omega) (by omega),nU,hc,aE (by omega) (by omega)]
  have hw:=KH (nb s) (tF s) 6 i h2 (by omega) (by rw [cW];exact hs)
  cases hq:rj ((nb s).take i) with
  | true =>
   obtain ⟨a,ha⟩:=hw.1 hq
   rw [aY,ha]
   simp only []
   rw [if_pos (Nat.le_refl _),LL (tF s) ha]
  | false =>
   have hnot:∀ a,rv 7 (nb s)≠some (a,i):=fun a ha=>by
    have:=hw.2 ⟨a,ha⟩
    rw [hq] at this
    cases this
   rw [aK]
   refine (ih (i+1) n (by omega) (by omega) (by omega)).trans ?_
   cases q:rv 7 (nb s) with
   | none=>rfl
   | some p =>
    obtain ⟨a,m'⟩:=p
    have:m'≠i:=fun e=>hnot a (by rw [q,e])
    simp only []
    by_cases c:i≤m'
    · rw [if_pos c,if_pos (by omega)]
    · rw [if_neg c,if_neg (by omega)]
theorem fy {k:Nat} (hk:2 ^ 50≤k) (s:ByteArray):am.f k s=some (FG (rv 7 (nb s))):=by
 unfold am.f am.t
 refine (B6 hk 7 1 k (by omega) (by omega) (by omega)).trans ?_
 cases q:rv 7 (nb s) with
 | none=>rfl
 | some p =>
  obtain ⟨a,m⟩:=p
  obtain ⟨_,_,_,_,h5,_⟩:=q_ 6 (nb s) a m (tF s) q
  simp only [FG]
  rw [if_pos h5]
theorem pX {k:Nat} (hk:2 ^ 50≤k) {x:Nat} (hx:x<4294967296) (t:ByteArray):bj.f k (fI x++t) 4=some ((x:Int),(true,())):=by
 have hz:=nL x t
 have st:∀ (q a j:Nat),j<4→a<4294967296→bj.l0 k (q+1) (fI x++t) 4 (a:Int) (j:Int)=bj.l0 k q (fI x++t) 4 ((a*256+(nb (fI x++t)).getD j 0:Nat):Int) ((j+1:Nat):Int):=fun q a j hj ha=>by
  have hb:=jZ (fI x++t) j
  have hat:=yl (s:=fI x++t) (i:=j) (by omega)
  generalize (nb (fI x++t)).getD j 0=b at *
  have e1:aF (aF ((a:Int)*256)+aF (b:Int))=((a*256+b:Nat):Int):=by
   rw [aE (n:=(a:Int)*256) (by omega) (by omega),aE (n:=(b:Int)) (by omega) (by omega),aE (by omega) (by omega)]
   omega
  have ej:aF ((j:Int)+1)=((j+1:Nat):Int):=by rw [aE (by omega) (by omega)];omega
  simp (disch:=omega) only [bj.l0,bj.b0,aO,aY,aH,hat,e1,ej]
 unfold bj.f bj.t
 rw [oo,aQ]
 simp only [show decide ((1:Int)≤4∧(4:Int)≤7)=true by decide,ff,aK,aP (show ¬ (((fI x++t).size:Int)<4) by omega)]
 obtain ⟨q,hq⟩:∃ q,k=q+5:=⟨k-5,by omega⟩
 refine (congrArg (fun z=>bj.l0 k z (fI x++t) 4 0 0) hq).trans ?_
 refine (st (q+4) 0 0 (by omega) (by omega)).trans ?_
 rw [vn]
 simp only [List.getD_cons_zero,Nat.zero_mul,Nat.zero_add]
 refine (st (q+3) _ 1 (by omega) (by omega)).trans ?_
 rw [vn]
 simp only [List.getD_cons_zero,List.getD_cons_succ]
 refine (st (q+2) _ 2 (by omega) (by omega)).trans ?_
 rw [vn]
 simp only [List.getD_cons_zero,List.getD_cons_succ]
 refine (st (q+1) _ 3 (by omega) (by omega)).trans ?_
 rw [vn]
 simp only [List.getD_cons_zero,List.getD_cons_succ]
 simp only [bj.l0,bj.b0,show decide ((((3+1:Nat)):Int)<4)=false by decide,aK]
 congr 3
 omega
theorem pP {k:Nat} (hk:2 ^ 50≤k) {x:Nat} (hx:x<4294967296) (t:ByteArray):bw.f k (fI x++t) 4=some ((x:Int),(true,())):=by
 have hz:=nL x t
 have st:∀ (q a j:Nat),j<4→a<16777216→bw.l0 k (q+1) (fI x++t) (a:Int) 4 (j:Int)=bw.l0 k q (fI x++t) ((a*256+(nb (fI x++t)).getD j 0:Nat):Int) 4 ((j+1:Nat):Int):=fun q a j hj ha=>by
  have hb:=jZ (fI x++t) j
  have hat:=yl (s:=fI x++t) (i:=j) (by omega)
  generalize (nb (fI x++t)).getD j 0=b at *
  have e0:aF ((a:Int)*2 ^ min (Int.toNat 8) (IntKind.bits .i64))=((a*256:Nat):Int):=by
   rw [show (2:Int) ^ min (Int.toNat 8) (IntKind.bits .i64)=256 by decide,aE (by omega) (by omega)]
   omega
  have e2:aF (b:Int)=(b:Int):=aE (by omega) (by omega)
  have ej:aF ((j:Int)+1)=((j+1:Nat):Int):=by rw [aE (by omega) (by omega)];omega
  simp (disch:=omega) only [bw.l0,bw.b0,aO,aY,aH,hat,e0,e2,ej]
  rw [N0 (by omega) hb]
 unfold bw.f bw.t
 rw [uA,aQ]
 simp only [show decide ((1:Int)≤4∧(4:Int)≤7)=true by decide,ff,aK,aP (show ¬ (((fI x++t).size:Int)<4) by omega)]
 obtain ⟨q,hq⟩:∃ q,k=q+5:=⟨k-5,by omega⟩
 refine (congrArg (fun z=>bw.l0 k z (fI x++t) 0 4 0) hq).trans ?_
 refine (st (q+4) 0 0 (by omega) (by omega)).trans ?_
 rw [vn]
 simp only [List.getD_cons_zero,Nat.zero_mul,Nat.zero_add]
 refine (st (q+3) _ 1 (by omega) (by omega)).trans ?_
 rw [vn]
 simp only [List.getD_cons_zero,List.getD_cons_succ]
 refine (st (q+2) _ 2 (by omega) (by omega)).trans ?_
 rw [vn]
 simp only [List.getD_cons_zero,List.getD_cons_succ]
 refine (st (q+1) _ 3 (by omega) (by omega)).trans ?_
 rw [vn]
 simp only [List.getD_cons_zero,List.getD_cons_succ]
 simp only [bw.l0,bw.b0,show decide ((((3+1:Nat)):Int)<4)=false by decide,aK]
 congr 3
 omega
theorem uf (k:Nat) {s:ByteArray} (h:s.size<4):bj.f k s 4=some (0,(false,())):=by
 unfold bj.f bj.t
 rw [oo,aQ]
 simp only [show decide ((1:Int)≤4∧(4:Int)≤7)=true by decide,ff,aK,aO (show (s.size:Int)<4 by omega),aY]
theorem uU (k:Nat) {s:ByteArray} (h:s.size<4):bw.f k s 4=some (0,(false,())):=by
 unfold bw.f bw.t
 rw [uA,aQ]
 simp only [show decide ((1:Int)≤4∧(4:Int)≤7)=true by decide,ff,aK,aO (show (s.size:Int)<4 by omega),aY]
def aj (s:ByteArray):ByteArray:=if s.size > 200 then ⟨#[]⟩ else qn (p9 (jq s))++jq s
theorem iK (s:ByteArray):(aj s).size≤211:=by
 unfold aj
 split
 · exact Nat.zero_le _
 · have:=mb s
   rw [ByteArray.size_append,kU];omega
theorem o5 {s:ByteArray} (h:s.size≤200):5≤(aj s).size:=by
 unfold aj
 rw [if_neg (by omega),ByteArray.size_append,kU]
 unfold jq
 rw [dS (by omega),ByteArray.size_append]
 have:=ah s.size
 omega
theorem jP {k:Nat} (hk:2 ^ 50≤k) (s:ByteArray):d8.f k s=some (aj s,()):=by
 unfold d8.f d8.t aj
 by_cases c:s.size > 200
 · rw [aO (show (s.size:Int) > 200 by omega),aY,if_pos c]
 · have h1:=b9 (s.size:Int)
   have h2:=um (iL (s.size:Int)++s)
   rw [aP (show ¬ (s.size:Int) > 200 by omega),aK,if_neg c]
   unfold jq
   simp (disch:=first | omega | (simp only [ByteArray.size_append,kU];omega)) only [h9 hk,aQ,dV,tL hk]
   rw [pz hk h2.1 h2.2,aQ,dV (by simp only [ByteArray.size_append,kU];omega)]
theorem ux {k:Nat} (hk:2 ^ 50≤k) (s:ByteArray):jU.f k s=some (aj s,()):=by
 unfold jU.f jU.t aj
 by_cases c:s.size > 200
 · rw [aO (show (s.size:Int) > 200 by omega),aY,if_pos c]
 · have h1:=mb s
   have h2:=um (jq s)
   rw [aP (show ¬ (s.size:Int) > 200 by omega),aK,if_neg c]
   simp (disch:=omega) only [lX hk,aQ,ta hk]
   rw [qV hk h2.1 h2.2,aQ,dV (by rw [kU];omega)]
theorem aN (a b:ByteArray):(a++b).size=a.size+b.size:=ByteArray.size_append ..
theorem qx (a b t:ByteArray):ByteArray.extract (a++(b++t)) (a.size+b.size) (a++(b++t)).size=t:=by
 have:=fh (a++b) t
 rw [aN,ar] at this
 exact this
theorem Ml (a b t:ByteArray):ByteArray.extract (a++(b++t)) a.size (a.size+b.size)=b:=kt (by
 rw [xz,iT,iT,List.take_append,List.take_of_length_le (by rw [cW];omega),cW,show a.size+b.size-a.size=b.size by omega,List.drop_left' (cW a),List.take_left' (cW b)])
theorem uF (a b:Nat):((a:Int)+(b:Int))=((a+b:Nat):Int):=rfl
theorem oX {k:Nat} (hk:2 ^ 50≤k) {a:Nat} {t:ByteArray} (ha:a<562949953421312) (hs:t.size≤1099511627776):cw.f k (bI a++t)=some ((a:Int),(((bI a).size:Int),())):=by
 have:=ah a
 rw [oW hk (by rw [aN];omega),rD ha];rfl
theorem nS {k:Nat} (hk:2 ^ 50≤k) {s:ByteArray} (h:rv 7 (nb s)=none) (hs:s.size≤1099511627776):cw.f k s=some (0,(0,())):=by
 rw [oW hk (by omega),h];rfl
theorem ch {k:Nat} (hk:2 ^ 50≤k) {a:Nat} {t:ByteArray} (ha:a<562949953421312):am.f k (bI a++t)=some ((a:Int),(((bI a).size:Int),())):=by
 rw [fy hk,rD ha];rfl
theorem kO {k:Nat} (hk:2 ^ 50≤k) {s:ByteArray} (h:rv 7 (nb s)=none):am.f k s=some (0,(0,())):=by
 rw [fy hk,h];rfl
theorem fW {k:Nat} (hk:2 ^ 50≤k) {a:Nat} {t:ByteArray} (ha:a<562949953421312) (hs:t.size≤1099511627776):aJ.f k (bI a++t,(false,()))=some ((t,(false,())),((a:Int),())):=by
 have h1:=ah a
 unfold aJ.f aJ.t
 rw [oX hk ha hs,aQ]
 simp only [aK]
 rw [show (((bI a).size:Int)==0)=false from nw (by omega),aK,bq (by omega) (by rw [aN];omega),nU,fh]
theorem m8 {k:Nat} (hk:2 ^ 50≤k) {s:ByteArray} (h:rv 7 (nb s)=none) (hs:s.size≤1099511627776):aJ.f k (s,(false,()))=some ((s,(true,())),(0,())):=by
 unfold aJ.f aJ.t
 rw [nS hk h hs,aQ]
 rfl
theorem vr {k:Nat} (hk:2 ^ 50≤k) {s:ByteArray} (hs:s.size≤1099511627776):aJ.f k (s,(true,()))=some ((s,(true,())),(0,())):=by
 unfold aJ.f aJ.t
 rw [oW hk (show s.size≤_ by omega),aQ]
 rfl
theorem s5 (k:Nat) (u t:ByteArray):an.f k (u++t,(false,())) (u.size:Int)=some ((t,(false,())),(u,())):=by
 unfold an.f an.t
 simp only [aK]
 rw [aP (by rw [aN];omega),aK,bq (by omega) (by rw [aN];omega),bq (by omega) (by rw [aN];omega),nU,fh,zX]
theorem sF (k:Nat) {s:ByteArray} {n:Int} (h:n > (s.size:Int)):an.f k (s,(false,())) n=some ((s,(true,())),(⟨#[]⟩,())):=by
 unfold an.f an.t
 simp only [aK]
 rw [aO h,aY]
theorem sG (k:Nat) (s:ByteArray) (n:Int):an.f k (s,(true,())) n=some ((s,(true,())),(⟨#[]⟩,())):=by
 unfold an.f an.t
 rfl
theorem o8 (s:ByteArray):(∃ u t,u.size<562949953421312∧s=bI u.size++(u++t))∨rv 7 (nb s)=none∨(∃ a t,a<562949953421312∧s=bI a++t∧t.size<a):=by
 rcases kN s with ⟨a,t,ha,rfl⟩ | h
 · by_cases c:t.size<a
   · exact .inr (.inr ⟨a,t,ha,rfl,c⟩)
   · have e:=uC t (n:=a) (by omega)
     have hz:(ByteArray.extract t 0 a).size=a:=by rw [← cW,ky,List.length_take,cW];omega
     exact .inl ⟨_,_,by rw [hz];exact ha,by rw [hz,← e]⟩
 · exact .inr (.inl h)
theorem nk {k:Nat} (hk:2 ^ 50≤k) {u t:ByteArray} (hu:u.size<562949953421312) (hs:(u++t).size≤1099511627776):ai.f k (bI u.size++(u++t),(false,()))=some ((t,(false,())),(u,())):=by
 unfold ai.f ai.t
 rw [fW hk hu hs,aQ]
 simp only []
 rw [s5,aQ]
theorem yR {k:Nat} (hk:2 ^ 50≤k) {s:ByteArray} (hs:s.size≤1099511627776):ai.f k (s,(true,()))=some ((s,(true,())),(⟨#[]⟩,())):=by
 unfold ai.f ai.t
 rw [vr hk hs,aQ]
 simp only []
 rw [sG,aQ]
theorem xv {k:Nat} (hk:2 ^ 50≤k) {s:ByteArray} (hs:s.size≤1099511627776) (h:rv 7 (nb s)=none∨(∃ a t,a<562949953421312∧s=bI a++t∧t.size<a)):∃ s',s'.size≤1099511627776∧ai.f k (s,(false,()))=some ((s',(true,())),(⟨#[]⟩,())):=by
 unfold ai.f ai.t
 rcases h with h | ⟨a,t,ha,rfl,ht⟩
 · refine ⟨s,hs,?_⟩
   rw [m8 hk h hs,aQ]
   simp only []
   rw [sG,aQ]
 · have:=ah a
   rw [aN] at hs
   refine ⟨t,by omega,?_⟩
   rw [fW hk ha (by omega),aQ]
   simp only []
   rw [sF k (by omega),aQ]
theorem vm {k:Nat} (hk:2 ^ 50≤k) {u t:ByteArray} (hu:u.size<562949953421312) (hs:(u++t).size≤1099511627776):cY.f k (bI u.size++(u++t))=some (u,(t,(true,()))):=by
 have h1:=ah u.size
 have h2:(bI u.size++(u++t)).size=(bI u.size).size+(u.size+t.size):=by rw [aN,aN]
 rw [aN] at hs
 unfold cY.f cY.t
 rw [ch hk hu,aQ]
 simp only []
 rw [show (((bI u.size).size:Int)==0)=false from nw (by omega),aK,aE (by omega) (by omega),aP (by omega),aK,uF,aE (by omega) (by omega),
  v8 (by omega) (by omega) (by omega),bq (by omega) (by omega),nU,nU,Ml,qx]
theorem yu {k:Nat} (hk:2 ^ 50≤k) {s:ByteArray} (hs:s.size≤1099511627776) (h:rv 7 (nb s)=none∨(∃ a t,a<562949953421312∧s=bI a++t∧t.size<a)):cY.f k s=some (⟨#[]⟩,(⟨#[]⟩,(false,()))):=by
 unfold cY.f cY.t
 rcases h with h | ⟨a,t,ha,rfl,ht⟩
 · rw [kO hk h,aQ];rfl
 · have:=ah a
   rw [aN] at hs
   rw [ch hk ha,aQ]
   simp only []
   rw [show (((bI a).size:Int)==0)=false from nw (by omega),aK,aE (by rw [aN];omega) (by rw [aN];omega),aO (by rw [aN];omega),aY]
section
open Classical
variable {α:Type}
noncomputable def pB (ok:α→Prop) (shw:α→ByteArray) (z:α) (s:ByteArray):α × Bool:=if h:∃ r,ok r∧shw r=s then (h.choose,true) else (z,false)
theorem C0 {ok:α→Prop} {shw:α→ByteArray} {z:α} {s:ByteArray} {r:α} (h:pB ok shw z s=(r,true)):ok r∧shw r=s:=by
 unfold pB at h
 split at h
 · rename_i q
   obtain rfl:=(Prod.mk.inj h).1
   exact q.choose_spec
 · cases (Prod.mk.inj h).2
theorem GY {ok:α→Prop} {shw:α→ByteArray} {z:α} {s:ByteArray} (h:(pB ok shw z s).2=false):pB ok shw z s=(z,false):=by
 unfold pB at h ⊢
 split
 · rename_i q;rw [dif_pos q] at h;cases h
 · rfl
theorem iU (ok:α→Prop) (shw:α→ByteArray) (z:α) (s:ByteArray):(∃ r,ok r∧shw r=s∧pB ok shw z s=(r,true))∨pB ok shw z s=(z,false):=by
 cases h:(pB ok shw z s).2 with
 | false=>exact .inr (GY h)
 | true =>
  have e:pB ok shw z s=((pB ok shw z s).1,true):=by rw [← h]
  exact .inl ⟨_,(C0 e).1,(C0 e).2,e⟩
theorem my {ok:α→Prop} {shw:α→ByteArray} {z:α} {s:ByteArray} {f:Option (α × Bool × Unit)} (h1:∀ r,ok r→shw r=s→f=some (r,(true,())))
 (h2:(∃ r,ok r∧shw r=s∧f=some (r,(true,())))∨f=some (z,(false,()))):f=some ((pB ok shw z s).1,((pB ok shw z s).2,())):=by
 rcases iU ok shw z s with ⟨r,a,b,e⟩ | e
 · rw [e,h1 r a b]
 · rcases h2 with ⟨r,a,b,_⟩ | h2
   · unfold pB at e
     rw [dif_pos ⟨r,a,b⟩] at e
     cases (Prod.mk.inj e).2
   · rw [e,h2]
theorem Kc {ok:α→Prop} {shw:α→ByteArray} {z:α} {r:α} (hi:∀ a b,ok a→ok b→shw a=shw b→a=b) (h:ok r):pB ok shw z (shw r)=(r,true):=by
 rcases iU ok shw z (shw r) with ⟨q,a,b,e⟩ | e
 · rw [e,hi q r a h b]
 · unfold pB at e
   rw [dif_pos ⟨r,h,rfl⟩] at e
   cases (Prod.mk.inj e).2
end
abbrev tP:Ty.d bP:=(0,(0,(ByteArray.empty,(ByteArray.empty,(0,(0,()))))))
theorem AW {a:Ty.d bP} (h:j9 a=true) :
 (∃ (b:Nat) (kd:Nat),(kd=1∨kd=4)∧b≤1000000∧a=((kd:Int),((b:Int),(a.2.2.1,(a.2.2.2.1,(0,(0,()))))))∧a.2.2.1.size≤8∧a.2.2.2.1.size≤24 ∧
  aU a=bI kd++(bI b++(bI a.2.2.1.size++(a.2.2.1++(bI a.2.2.2.1.size++(a.2.2.2.1++⟨#[]⟩)))))) ∨
 (∃ (b:Nat),b≤1000000∧a=(2,((b:Int),(a.2.2.1,(ByteArray.empty,(0,(0,()))))))∧a.2.2.1.size≤8∧aU a=bI 2++(bI b++(bI a.2.2.1.size++(a.2.2.1++⟨#[]⟩)))) ∨
 (∃ (b kd c x:Nat),(kd=3∨kd=5)∧b≤1000000∧c≤20∧x<4294967296∧a=((kd:Int),((b:Int),(ByteArray.empty,(ByteArray.empty,((c:Int),((x:Int),()))))))∧aU a=bI kd++(bI b++(bI c++(fI x++⟨#[]⟩)))):=by
 have hh:=h
 obtain ⟨kd,b,key,val,c,x,u⟩:=a
 change Int at kd b c x
 change ByteArray at key val
 rcases xB h with ⟨hc,h⟩ | ⟨hc,h⟩ | ⟨hc,h⟩
 · obtain ⟨z1,z2,z3,z4,z5,z6,z7⟩:=h
   subst z4;subst z5
   obtain ⟨b,rfl⟩:=Int.eq_ofNat_of_zero_le (show 0≤b by omega)
   left
   refine ⟨b,kd.toNat,by omega,by omega,?_,z2,z3,?_⟩
   · rw [show ((kd.toNat:Nat):Int)=kd by omega]
   · unfold aU
     rw [if_pos hh,if_pos hc]
     simp only [jq]
     rw [dS (by omega),dS (by omega),dS (by omega),gS,ar,show iL kd=bI kd.toNat by rw [← dS (show kd.toNat<562949953421312 by omega)];congr 1;omega]
 · obtain ⟨z1,z2,z3,z4,z5,z6,z7⟩:=h
   subst z3;subst z4;subst z5;subst hc
   obtain ⟨b,rfl⟩:=Int.eq_ofNat_of_zero_le (show 0≤b by omega)
   right;left
   refine ⟨b,by omega,rfl,z2,?_⟩
   unfold aU
   rw [if_pos hh,if_neg (show ¬ ((2:Int)=1∨(2:Int)=4) by decide),if_pos rfl]
   simp only [jq]
   rw [dS (by omega),dS (by omega),gS]
   rfl
 · obtain ⟨z1,z2,z3,z4,z5,z6,z7,z8⟩:=h
   subst z1;subst z2
   obtain ⟨b,rfl⟩:=Int.eq_ofNat_of_zero_le (show 0≤b by omega)
   obtain ⟨c,rfl⟩:=Int.eq_ofNat_of_zero_le (show 0≤c by omega)
   obtain ⟨x,rfl⟩:=Int.eq_ofNat_of_zero_le (show 0≤x by omega)
   right;right
   refine ⟨b,kd.toNat,c,x,by omega,by omega,by omega,by omega,?_,?_⟩
   · rw [show ((kd.toNat:Nat):Int)=kd by omega];rfl
   · unfold aU
     rw [if_pos hh,if_neg (show ¬ (kd=1∨kd=4) by omega),if_neg (show ¬ kd=2 by omega)]
     simp only []
     rw [dS (by omega),dS (by omega),gS,show iL kd=bI kd.toNat by rw [← dS (show kd.toNat<562949953421312 by omega)];congr 1;omega]
     rfl
theorem FA {a:Ty.d bP} {s:ByteArray} (h:aU a=s) (hs:s≠⟨#[]⟩):j9 a=true:=by
 cases c:j9 a with
 | true=>rfl
 | false=>unfold aU at h;rw [c] at h;exact absurd h.symm hs
theorem Kn {kd:Nat} (h:kd≠1):((kd:Int)==1)=false:=nw (by omega)
theorem Kq {kd:Nat} (h:kd≠2):((kd:Int)==2)=false:=nw (by omega)
theorem Kp {kd:Nat} (h:kd≠4):((kd:Int)==4)=false:=nw (by omega)
theorem M0:(((1:Nat):Int)==1)=true:=rfl
theorem LN:(((4:Nat):Int)==1)=false:=rfl
theorem Lo:(((4:Nat):Int)==4)=true:=rfl
theorem Lb:(((2:Nat):Int)==1)=false:=rfl
theorem Lp:(((2:Nat):Int)==2)=true:=rfl
theorem M2:(((2:Nat):Int)==4)=false:=rfl
theorem N7:((0:Int)==1)=false:=rfl
theorem N6:((0:Int)==4)=false:=rfl
theorem N5:((0:Int)==2)=false:=rfl
theorem e0:(⟨#[]⟩:ByteArray).size=0:=rfl
theorem JH {kd b:Nat} {key val:ByteArray} (hb:b<562949953421312) (hc:kd=1∨kd=4) (h:j9 ((kd:Int),((b:Int),(key,(val,(0,(0,()))))))=true) :
 aU ((kd:Int),((b:Int),(key,(val,(0,(0,()))))))=bI kd++(bI b++(bI key.size++(key++(bI val.size++(val++⟨#[]⟩))))):=by
 rcases xB h with ⟨_,h1⟩ | ⟨h0,_⟩ | ⟨h0,_⟩
 · unfold aU
   rw [if_pos h,if_pos (show ((kd:Int)=1∨(kd:Int)=4) by omega)]
   simp only [jq]
   rw [dS (by omega),dS hb,dS (by omega),dS (by omega),gS,ar]
 · omega
 · omega
theorem JA {b:Nat} {key:ByteArray} (hb:b<562949953421312) (h:j9 (((2:Nat):Int),((b:Int),(key,(ByteArray.empty,(0,(0,()))))))=true) :
 aU (((2:Nat):Int),((b:Int),(key,(ByteArray.empty,(0,(0,()))))))=bI 2++(bI b++(bI key.size++(key++⟨#[]⟩))):=by
 rcases xB h with ⟨h0,_⟩ | ⟨_,h1⟩ | ⟨h0,_⟩
 · omega
 · unfold aU
   rw [if_pos h,if_neg (show ¬ (((2:Nat):Int)=1∨((2:Nat):Int)=4) by decide),if_pos (show ((2:Nat):Int)=2 from rfl)]
   simp only [jq]
   rw [dS (by omega),dS hb,dS (by omega),gS]
 · omega
theorem IZ {kd b c x:Nat} (hb:b<562949953421312) (hx:c<562949953421312) (hc:kd≠1∧kd≠2∧kd≠4) (h:j9 ((kd:Int),((b:Int),(ByteArray.empty,(ByteArray.empty,((c:Int),((x:Int),()))))))=true) :
 aU ((kd:Int),((b:Int),(ByteArray.empty,(ByteArray.empty,((c:Int),((x:Int),()))))))=bI kd++(bI b++(bI c++(fI x++⟨#[]⟩))):=by
 rcases xB h with ⟨h0,_⟩ | ⟨h0,_⟩ | ⟨_,h1⟩
 · omega
 · omega
 · unfold aU
   rw [if_pos h,if_neg (show ¬ ((kd:Int)=1∨(kd:Int)=4) by omega),if_neg (show ¬ (kd:Int)=2 by omega)]
   simp only []
   have hk5:kd≤5:=by omega
   rw [dS (by omega),dS hb,dS hx,gS]
   rfl
theorem A4 {k:Nat} (hk:2 ^ 50≤k) {a:Ty.d bP} (h:j9 a=true):cv.f k (aU a)=some (a,(true,())):=by
 unfold cv.f cv.t
 rcases AW h with ⟨b,kd,hc,hb,ha,z1,z2,e⟩ | ⟨b,hb,ha,z1,e⟩ | ⟨b,kd,c,x,hc,hb,z1,z2,ha,e⟩
 · rw [e]
   rw [ha] at h
   conv=>rhs;rw [ha]
   have v1:=ah kd
   have v2:=ah b
   have v3:=ah a.2.2.1.size
   have v4:=ah a.2.2.2.1.size
   rcases hc with rfl | rfl
   · simp (disch:=first | omega | (simp only [aN,e0];omega)) only [fW hk,nk hk,aQ,aY,aK,M0,cF,ff,ig,h]
   · simp (disch:=first | omega | (simp only [aN,e0];omega)) only [fW hk,nk hk,aQ,aY,aK,LN,Lo,cF,ff,ig,h]
 · rw [e]
   rw [ha] at h
   conv=>rhs;rw [ha]
   have v1:=ah 2
   have v2:=ah b
   have v3:=ah a.2.2.1.size
   simp (disch:=first | omega | (simp only [aN,e0];omega)) only [fW hk,nk hk,aQ,aY,aK,Lb,Lp,M2,cF,ff,ig]
   rw [show ((2:Nat):Int)=2 from rfl,h]
   rfl
 · rw [e,ha]
   rw [ha] at h
   have v1:=ah kd
   have v2:=ah b
   have v3:=ah c
   have v4:=ml x
   have hby:=s5 k (fI x) ⟨#[]⟩
   rw [ml] at hby
   have hrf:=pP hk z2 ⟨#[]⟩
   rw [gS] at hrf
   rw [show (((4:Nat)):Int)=4 from rfl] at hby
   simp (disch:=first | omega | (simp only [aN,e0];omega)) only [fW hk,hby,hrf,aQ,aY,aK,Kn,Kq,Kp,cF,ff,ig,h]
theorem wY {k:Nat} (hk:2 ^ 50≤k) {s:ByteArray} (hs:s.size≤1099511627776) :
 (∃ r,j9 r=true∧aU r=s∧cv.f k s=some (r,(true,())))∨cv.f k s=some (tP,(false,())):=by
 have rf0:=uU k (s:=⟨#[]⟩) (by decide)
 unfold cv.f cv.t
 rcases kN s with ⟨kd,t,hkd,rfl⟩ | h0
 case inr =>
  right
  simp (disch:=first | omega | (simp only [aN,e0];omega)) only [m8 hk h0,vr hk,sG k,rf0,aQ,aY,aK,N7,N5,N6]
 have v1:=ah kd
 rw [aN] at hs
 rcases kN t with ⟨b,t2,hb,rfl⟩ | h1
 case inr =>
  right
  by_cases c1:kd=1
  · subst c1
    simp (disch:=first | omega | (simp only [aN,e0];omega)) only [fW hk,m8 hk h1,yR hk,aQ,aY,aK,M0]
  by_cases c4:kd=4
  · subst c4
    simp (disch:=first | omega | (simp only [aN,e0];omega)) only [fW hk,m8 hk h1,yR hk,aQ,aY,aK,LN,Lo]
  by_cases c2:kd=2
  · subst c2
    simp (disch:=first | omega | (simp only [aN,e0];omega)) only [fW hk,m8 hk h1,yR hk,aQ,aY,aK,Lb,M2,Lp]
  · simp (disch:=first | omega | (simp only [aN,e0];omega)) only [fW hk,m8 hk h1,vr hk,sG k,rf0,aQ,aY,aK,Kn c1,Kq c2,Kp c4]
 have v2:=ah b
 rw [aN] at hs
 by_cases c2:kd=2
 · subst c2
   rcases o8 t2 with ⟨key,t3,hu,rfl⟩ | bad
   case inr =>
    right
    obtain ⟨s',hs',e⟩:=xv hk (by omega) bad
    simp (disch:=first | omega | (simp only [aN,e0];omega)) only [fW hk,e,aQ,aY,aK,Lb,M2,Lp]
   have v3:=ah key.size
   simp only [aN] at hs
   simp (disch:=first | omega | (simp only [aN,e0];omega)) only [fW hk,nk hk,aQ,aY,aK,Lb,M2,Lp]
   by_cases c:t3=⟨#[]⟩
   · subst c
     simp only [cF,ff,aK,ig,aQ]
     cases hr:j9 (((2:Nat):Int),((b:Int),(key,(ByteArray.empty,(0,(0,())))))) with
     | true=>exact .inl ⟨_,hr,JA hb hr,rfl⟩
     | false=>exact .inr rfl
   · rw [lW c]
     exact .inr rfl
 by_cases c1:kd=1∨kd=4
 · have hcc:(bif ((kd:Int)==1) then true else ((kd:Int)==4))=true:=by rcases c1 with rfl | rfl <;> rfl
   rcases o8 t2 with ⟨key,t3,hu,rfl⟩ | bad
   case inr =>
    right
    obtain ⟨s',hs',e⟩:=xv hk (by omega) bad
    rcases c1 with rfl | rfl
    · simp (disch:=first | omega | (simp only [aN,e0];omega)) only [fW hk,e,yR hk hs',aQ,aY,aK,M0]
    · simp (disch:=first | omega | (simp only [aN,e0];omega)) only [fW hk,e,yR hk hs',aQ,aY,aK,LN,Lo]
   have v3:=ah key.size
   simp only [aN] at hs
   rcases o8 t3 with ⟨val,t4,hv,rfl⟩ | bad
   case inr =>
    right
    obtain ⟨s',hs',e⟩:=xv hk (by omega) bad
    rcases c1 with rfl | rfl
    · simp (disch:=first | omega | (simp only [aN,e0];omega)) only [fW hk,nk hk,e,aQ,aY,aK,M0]
    · simp (disch:=first | omega | (simp only [aN,e0];omega)) only [fW hk,nk hk,e,aQ,aY,aK,LN,Lo]
   have v4:=ah val.size
   simp only [aN] at hs
   have fin:(bif !seq t4 ⟨#[]⟩ then some (tP,(false,())) else bif !j9 ((kd:Int),((b:Int),(key,(val,(0,(0,())))))) then some (tP,(false,())) else some (((kd:Int),((b:Int),(key,(val,(0,(0,())))))),(true,())))=cv.t k (bI kd++(bI b++(bI key.size++(key++(bI val.size++(val++t4)))))):=by
    unfold cv.t
    rcases c1 with rfl | rfl
    · simp (disch:=first | omega | (simp only [aN,e0];omega)) only [fW hk,nk hk,aQ,aY,aK,M0,ig]
    · simp (disch:=first | omega | (simp only [aN,e0];omega)) only [fW hk,nk hk,aQ,aY,aK,LN,Lo,ig]
   change (∃ r,j9 r=true∧aU r=_∧cv.t k _=some (r,(true,())))∨cv.t k _=some (tP,(false,()))
   rw [← fin]
   by_cases c:t4=⟨#[]⟩
   · subst c
     simp only [cF,ff,aK]
     cases hr:j9 ((kd:Int),((b:Int),(key,(val,(0,(0,())))))) with
     | true=>exact .inl ⟨_,hr,JH hb c1 hr,rfl⟩
     | false=>exact .inr rfl
   · rw [lW c]
     exact .inr rfl
 have d1:kd≠1:=fun q=>c1 (.inl q)
 have d4:kd≠4:=fun q=>c1 (.inr q)
 rcases kN t2 with ⟨c,t3,hc,rfl⟩ | h2
 case inr =>
  right
  simp (disch:=first | omega | (simp only [aN,e0];omega)) only [fW hk,m8 hk h2,sG k,rf0,aQ,aY,aK,Kn d1,Kq c2,Kp d4]
 have v3:=ah c
 rw [aN] at hs
 rcases xr t3 with ⟨x,t4,hx,rfl⟩ | h3
 case inr =>
  right
  have e:=sF k (s:=t3) (n:=4) (by omega)
  simp (disch:=first | omega | (simp only [aN,e0];omega)) only [fW hk,e,rf0,aQ,aY,aK,Kn d1,Kq c2,Kp d4]
 rw [nL] at hs
 have hby:=s5 k (fI x) t4
 rw [ml,show (((4:Nat)):Int)=4 from rfl] at hby
 have hrf:=pP hk hx ⟨#[]⟩
 rw [gS] at hrf
 simp (disch:=first | omega | (simp only [aN,e0,ml];omega)) only [fW hk,hby,hrf,aQ,aK,Kn d1,Kq c2,Kp d4,ig]
 by_cases cc:t4=⟨#[]⟩
 · subst cc
   simp only [cF,ff,aK]
   cases hr:j9 ((kd:Int),((b:Int),(ByteArray.empty,(ByteArray.empty,((c:Int),((x:Int),())))))) with
   | true=>exact .inl ⟨_,hr,IZ hb hc ⟨d1,c2,d4⟩ hr,rfl⟩
   | false=>exact .inr rfl
 · rw [lW cc]
   exact .inr rfl
theorem kV (a b:Nat):Int.toNat ((a:Int)+(b:Int))=a+b:=by omega
theorem vz (a:Nat):(((bI a).size:Int)==0)=false:=nw (by have:=ah a;omega)
theorem pH (a:Nat) (t:ByteArray):bI a++t≠⟨#[]⟩:=fun h=>by
 have:=congrArg ByteArray.size h
 rw [aN,e0] at this
 have:=ah a
 omega
theorem pi {r:Ty.d bP} {s:ByteArray} (hs:s≠⟨#[]⟩) :
 (∃ r',j9 r'=true∧aU r'=s∧(bif !seq (aU r) s then some (tP,(false,())) else bif seq s ⟨#[]⟩ then some (tP,(false,())) else some (r,(true,())))=some (r',(true,()))) ∨
 (bif !seq (aU r) s then some (tP,(false,())) else bif seq s ⟨#[]⟩ then some (tP,(false,())) else some (r,(true,())))=some (tP,(false,())):=by
 by_cases c:aU r=s
 · exact .inl ⟨r,FA c hs,c,by rw [KD c,lW hs];rfl⟩
 · rw [lW c];exact .inr rfl
theorem A0 {k:Nat} (hk:2 ^ 50≤k) {a:Ty.d bP} (h:j9 a=true):eS.f k (aU a)=some (a,(true,())):=by
 unfold eS.f eS.t
 rcases AW h with ⟨b,kd,hc,hb,ha,z1,z2,e⟩ | ⟨b,hb,ha,z1,e⟩ | ⟨b,kd,c,x,hc,hb,z1,z2,ha,e⟩
 · have hs:aU ((kd:Int),((b:Int),(a.2.2.1,(a.2.2.2.1,(0,(0,()))))))=bI kd++(bI b++(bI a.2.2.1.size++(a.2.2.1++(bI a.2.2.2.1.size++(a.2.2.2.1++⟨#[]⟩))))):=by rw [← ha];exact e
   rw [e]
   conv=>rhs;rw [ha]
   have v1:=ah kd
   have v2:=ah b
   have v3:=ah a.2.2.1.size
   have v4:=ah a.2.2.2.1.size
   rcases hc with rfl | rfl
   · simp (disch:=first | omega | (simp only [aN,e0];omega)) only [ch hk,vm hk,aQ,nU,fh,vz,aY,aK,aE,bq,kV,qx,M0,cR hk,hs,cF,ff,lW (pH _ _)]
   · simp (disch:=first | omega | (simp only [aN,e0];omega)) only [ch hk,vm hk,aQ,nU,fh,vz,aY,aK,aE,bq,kV,qx,LN,Lo,cR hk,hs,cF,ff,lW (pH _ _)]
 · have hs:aU (((2:Nat):Int),((b:Int),(a.2.2.1,(ByteArray.empty,(0,(0,()))))))=bI 2++(bI b++(bI a.2.2.1.size++(a.2.2.1++⟨#[]⟩))):=by rw [show ((2:Nat):Int)=2 from rfl,← ha];exact e
   rw [e]
   conv=>rhs;rw [ha]
   have v1:=ah 2
   have v2:=ah b
   have v3:=ah a.2.2.1.size
   simp (disch:=first | omega | (simp only [aN,e0];omega)) only [ch hk,vm hk,aQ,nU,fh,vz,aY,aK,aE,bq,kV,qx,Lb,M2,Lp,cR hk,hs,cF,ff,lW (pH _ _)]
   rfl
 · have hs:aU ((kd:Int),((b:Int),(ByteArray.empty,(ByteArray.empty,((c:Int),((x:Int),()))))))=bI kd++(bI b++(bI c++(fI x++⟨#[]⟩))):=by rw [← ha];exact e
   rw [e,ha]
   have v1:=ah kd
   have v2:=ah b
   have v3:=ah c
   have v4:=ml x
   simp (disch:=first | omega | (simp only [aN,e0];omega)) only [ch hk,pX hk z2,aQ,nU,fh,vz,aY,aK,aE,bq,kV,qx,Kn,Kq,Kp,cR hk,hs,cF,ff,lW (pH _ _)]
theorem we {k:Nat} (hk:2 ^ 50≤k) {s:ByteArray} (hs:s.size≤1099511627776) :
 (∃ r,j9 r=true∧aU r=s∧eS.f k s=some (r,(true,())))∨eS.f k s=some (tP,(false,())):=by
 unfold eS.f eS.t
 rcases kN s with ⟨kd,t,hkd,rfl⟩ | h0
 case inr =>
  right
  rw [kO hk h0,aQ]
  simp only []
  rw [bq (by omega) (by omega),fy hk,aQ]
  rfl
 have v1:=ah kd
 rw [aN] at hs
 rcases kN t with ⟨b,t2,hb,rfl⟩ | h1
 case inr =>
  right
  simp (disch:=first | omega | (simp only [aN,e0];omega)) only [ch hk,kO hk h1,aQ,nU,fh,vz,aY,aK,aE,bq,show (((0:Int)==0))=true from rfl]
 have v2:=ah b
 rw [aN] at hs
 by_cases c2:kd=2
 · subst c2
   rcases o8 t2 with ⟨key,t3,hu,rfl⟩ | bad
   · simp only [aN] at hs
     simp (disch:=first | omega | (simp only [aN,e0];omega)) only [ch hk,vm hk,aQ,nU,fh,vz,aY,aK,aE,bq,kV,qx,Lb,M2,Lp,cR hk]
     exact pi (pH _ _)
   · have hb5:=yu hk (by omega) bad
     simp (disch:=first | omega | (simp only [aN,e0];omega)) only [ch hk,hb5,aQ,nU,fh,vz,aY,aK,aE,bq,kV,qx,Lb,M2,Lp,cR hk]
     exact pi (pH _ _)
 by_cases c1:kd=1∨kd=4
 · have em:cY.f k ⟨#[]⟩=some (⟨#[]⟩,(⟨#[]⟩,(false,()))):=yu hk (by decide) (.inl rfl)
   obtain ⟨u,l,bb,hl,e⟩:∃ u l bb,l.size≤1099511627776∧cY.f k t2=some (u,(l,(bb,()))):=by
    rcases o8 t2 with ⟨key,t3,hu,rfl⟩ | bad
    · simp only [aN] at hs
      exact ⟨_,_,_,by omega,vm hk hu (by simp only [aN];omega)⟩
    · exact ⟨_,_,_,by decide,yu hk (by omega) bad⟩
   obtain ⟨u2,l2,bb2,e2⟩:∃ u l' bb,cY.f k l=some (u,(l',(bb,()))):=by
    rcases o8 l with ⟨key,t3,hu,rfl⟩ | bad
    · exact ⟨_,_,_,vm hk hu (by simp only [aN] at hl ⊢;omega)⟩
    · exact ⟨_,_,_,yu hk hl bad⟩
   rcases c1 with rfl | rfl
   · simp (disch:=first | omega | (simp only [aN,e0];omega)) only [ch hk,e,e2,aQ,nU,fh,vz,aY,aK,aE,bq,kV,qx,M0,cR hk]
     exact pi (pH _ _)
   · simp (disch:=first | omega | (simp only [aN,e0];omega)) only [ch hk,e,e2,aQ,nU,fh,vz,aY,aK,aE,bq,kV,qx,LN,Lo,cR hk]
     exact pi (pH _ _)
 have d1:kd≠1:=fun q=>c1 (.inl q)
 have d4:kd≠4:=fun q=>c1 (.inr q)
 have rf:∀ u:ByteArray,∃ z zb,bj.f k u 4=some (z,(zb,())):=fun u=>by
  rcases xr u with ⟨x,t,hx,rfl⟩ | q
  · exact ⟨_,_,pX hk hx t⟩
  · exact ⟨_,_,uf k q⟩
 rcases kN t2 with ⟨c,t3,hc,rfl⟩ | h2
 · have v3:=ah c
   rw [aN] at hs
   obtain ⟨z,zb,e⟩:=rf t3
   simp (disch:=first | omega | (simp only [aN,e0];omega)) only [ch hk,e,aQ,nU,fh,vz,aY,aK,aE,bq,kV,qx,Kn d1,Kq c2,Kp d4,cR hk]
   exact pi (pH _ _)
 · obtain ⟨z,zb,e⟩:=rf (ByteArray.extract t2 (Int.toNat 0) t2.size)
   simp (disch:=first | omega | (simp only [aN,e0];omega)) only [ch hk,kO hk h2,e,aQ,nU,fh,vz,aY,aK,aE,bq,kV,qx,Kn d1,Kq c2,Kp d4,cR hk]
   exact pi (pH _ _)
noncomputable def jj (s:ByteArray):Ty.d bP × Bool:=pB (fun r=>j9 r=true) aU tP s
theorem rS {k:Nat} (hk:2 ^ 50≤k) {s:ByteArray} (hs:s.size≤1099511627776):cv.f k s=some ((jj s).1,((jj s).2,())) :=
 my (fun r h1 h2=>by rw [← h2];exact A4 hk h1) (wY hk hs)
theorem rl {k:Nat} (hk:2 ^ 50≤k) {s:ByteArray} (hs:s.size≤1099511627776):eS.f k s=some ((jj s).1,((jj s).2,())) :=
 my (fun r h1 h2=>by rw [← h2];exact A0 hk h1) (we hk hs)
theorem qa {t:ByteArray} (h:t.size≤200):∃ x,x<4294967296∧aj t=fI x++(bI t.size++t):=by
 have:=um (jq t)
 refine ⟨(p9 (jq t)).toNat,by omega,?_⟩
 unfold aj qn
 rw [if_neg (by omega)]
 unfold jq
 rw [dS (by omega)]
theorem Gt {t u s r:ByteArray} (ht:t.size≤200) (hu:u.size≤200) (h:aj t++s=aj u++r):t=u∧s=r:=by
 obtain ⟨x,hx,e⟩:=qa ht
 obtain ⟨y,hy,f⟩:=qa hu
 rw [e,f,ar,ar,ar,ar] at h
 have h2:=(sI h rfl).2
 obtain ⟨h3,h4⟩:=yF (by omega) (by omega) h2
 exact sI h4 h3
theorem AK (x:Nat) (u:ByteArray):ByteArray.extract (fI x++u) 4 (fI x++u).size=u:=fh (fI x) u
theorem MH (x:Nat) (v t r:ByteArray):ByteArray.extract (fI x++(v++(t++r))) (4+v.size) (4+v.size+t.size)=t:=by
 have:=Ml (fI x++v) t r
 rw [aN,ml,ar] at this
 exact this
theorem Kj (x:Nat) (v t r:ByteArray):ByteArray.extract (fI x++(v++(t++r))) 0 (4+v.size+t.size)=fI x++(v++t):=by
 have:=zX (fI x++(v++t)) r
 rw [aN,aN,ml,ar,ar,← Nat.add_assoc] at this
 exact this
theorem c4 (a:Nat):(4:Int)+(a:Int)=((4+a:Nat):Int):=rfl
theorem xb {k:Nat} (hk:2 ^ 50≤k) {x:Nat} {t r:ByteArray} (ht:t.size≤200) (hr:t.size+r.size≤1099511627776) :
 dq.f k (fI x++(bI t.size++(t++r)))=bif !seq (aj t) (fI x++(bI t.size++t)) then some (⟨#[]⟩,(0,())) else some (t,(((4+(bI t.size).size+t.size:Nat):Int),())):=by
 have v1:=ah t.size
 have z1:(fI x++(bI t.size++(t++r))).size=4+((bI t.size).size+(t.size+r.size)):=by rw [nL,aN,aN]
 unfold dq.f dq.t
 rw [aP (by omega),aK,bq (by omega) (by omega),AK,oX hk (by omega) (by rw [aN];omega),aQ]
 simp only [vz,aK]
 rw [aP (by omega),aK,aE (n:=((fI x++(bI t.size++(t++r))).size:Int)-4) (by omega) (by omega),aE (n:=((fI x++(bI t.size++(t++r))).size:Int)-4-_) (by omega) (by omega),aP (by omega),aK,
  c4,aE (by omega) (by omega),uF,aE (by omega) (by omega),v8 (by omega) (by omega) (by omega),nU,nU,MH,ux hk,aQ,bq (by omega) (by omega),Kj]
theorem zC {k:Nat} (hk:2 ^ 50≤k) {x:Nat} {t r:ByteArray} (ht:t.size≤200) (hr:t.size+r.size≤1099511627776) :
 dm.f k (fI x++(bI t.size++(t++r)))=bif !seq (aj t) (fI x++(bI t.size++t)) then some (⟨#[]⟩,(0,())) else some (t,(((4+(bI t.size).size+t.size:Nat):Int),())):=by
 have v1:=ah t.size
 have z1:(fI x++(bI t.size++(t++r))).size=4+((bI t.size).size+(t.size+r.size)):=by rw [nL,aN,aN]
 unfold dm.f dm.t
 rw [aP (by omega),aK,bq (by omega) (by omega),AK,ch hk (by omega),aQ]
 simp only [vz,aK]
 rw [aP (by omega),aK,aE (n:=((fI x++(bI t.size++(t++r))).size:Int)-4) (by omega) (by omega),aE (n:=((fI x++(bI t.size++(t++r))).size:Int)-4-_) (by omega) (by omega),aP (by omega),aK,
  c4,aE (by omega) (by omega),uF,aE (by omega) (by omega),v8 (by omega) (by omega) (by omega),nU,nU,MH,jP hk,bq (by omega) (by omega),aQ,Kj,
  show seq (fI x++(bI t.size++t)) (aj t)=seq (aj t) (fI x++(bI t.size++t)) by rw [GO,GO];exact decide_eq_decide.2 ⟨Eq.symm,Eq.symm⟩]
theorem Ir (s:ByteArray) (hs:s.size≤1099511627776):(∃ x t r,x<4294967296∧t.size≤200∧t.size+r.size≤1099511627776∧s=fI x++(bI t.size++(t++r)))∨s.size<5∨(∃ x u,x<4294967296∧s=fI x++u∧1≤u.size∧rv 7 (nb u)=none) ∨
 (∃ x a u,x<4294967296∧a<562949953421312∧s=fI x++(bI a++u)∧(200<a∨u.size<a)):=by
 rcases xr s with ⟨x,u,hx,rfl⟩ | h
 · rw [nL] at hs
   rcases kN u with ⟨a,v,ha,rfl⟩ | h
   · rw [aN] at hs
     by_cases c:200<a∨v.size<a
     · exact .inr (.inr (.inr ⟨x,a,v,hx,ha,rfl,c⟩))
     · left
       have e:=uC v (n:=a) (by omega)
       have hz:(ByteArray.extract v 0 a).size=a:=by rw [← cW,ky,List.length_take,cW];omega
       refine ⟨x,ByteArray.extract v 0 a,ByteArray.extract v a v.size,hx,by omega,?_,by rw [hz,← e]⟩
       have:=congrArg ByteArray.size e
       rw [aN] at this
       omega
   · by_cases c:1≤u.size
     · exact .inr (.inr (.inl ⟨x,u,hx,rfl,c,h⟩))
     · exact .inr (.inl (by rw [nL];omega))
 · exact .inr (.inl (by omega))
theorem wR {k:Nat} (hk:2 ^ 50≤k) {s:ByteArray} (hs:s.size≤1099511627776) (h:s.size<5∨(∃ x u,x<4294967296∧s=fI x++u∧1≤u.size∧rv 7 (nb u)=none) ∨
 (∃ x a u,x<4294967296∧a<562949953421312∧s=fI x++(bI a++u)∧(200<a∨u.size<a))):dq.f k s=some (⟨#[]⟩,(0,())):=by
 unfold dq.f dq.t
 rcases h with h | ⟨x,u,hx,rfl,hu,h⟩ | ⟨x,a,u,hx,ha,rfl,h⟩
 · by_cases c:s.size<4
   · rw [aO (by omega),aY]
   · have e:ByteArray.extract s 4 s.size=⟨#[]⟩:=kt (by rw [jC,List.drop_eq_nil_of_le (by rw [cW];omega)];rfl)
     rw [aP (by omega),aK,bq (by omega) (by omega),e,nS hk rfl (by decide),aQ]
     rfl
 · rw [nL] at hs
   rw [aP (by rw [nL];omega),aK,bq (by omega) (by rw [nL];omega),AK,nS hk h (by omega),aQ]
   rfl
 · have v1:=ah a
   have z1:(fI x++(bI a++u)).size=4+((bI a).size+u.size):=by rw [nL,aN]
   rw [aP (by omega),aK,bq (by omega) (by omega),AK,oX hk ha (by omega),aQ]
   simp only [vz,aK]
   by_cases c:200<a
   · rw [aO (by omega),aY]
   · rw [aP (by omega),aK,aE (n:=((fI x++(bI a++u)).size:Int)-4) (by omega) (by omega),aE (n:=((fI x++(bI a++u)).size:Int)-4-_) (by omega) (by omega),aO (by omega),aY]
theorem wN {k:Nat} (hk:2 ^ 50≤k) {s:ByteArray} (hs:s.size≤1099511627776) (h:s.size<5∨(∃ x u,x<4294967296∧s=fI x++u∧1≤u.size∧rv 7 (nb u)=none) ∨
 (∃ x a u,x<4294967296∧a<562949953421312∧s=fI x++(bI a++u)∧(200<a∨u.size<a))):dm.f k s=some (⟨#[]⟩,(0,())):=by
 unfold dm.f dm.t
 rcases h with h | ⟨x,u,hx,rfl,hu,h⟩ | ⟨x,a,u,hx,ha,rfl,h⟩
 · rw [aO (by omega),aY]
 · rw [nL] at hs
   rw [aP (by rw [nL];omega),aK,bq (by omega) (by rw [nL];omega),AK,kO hk h,aQ]
   rfl
 · have v1:=ah a
   have z1:(fI x++(bI a++u)).size=4+((bI a).size+u.size):=by rw [nL,aN]
   rw [aP (by omega),aK,bq (by omega) (by omega),AK,ch hk ha,aQ]
   simp only [vz,aK]
   by_cases c:200<a
   · rw [aO (by omega),aY]
   · rw [aP (by omega),aK,aE (n:=((fI x++(bI a++u)).size:Int)-4) (by omega) (by omega),aE (n:=((fI x++(bI a++u)).size:Int)-4-_) (by omega) (by omega),aO (by omega),aY]
section
open Classical
noncomputable def hF (s:ByteArray):ByteArray × Int:=if h:∃ t r,t.size≤200∧s=aj t++r then (h.choose,((aj h.choose).size:Int)) else (⟨#[]⟩,0)
theorem pt {t:ByteArray} (r:ByteArray) (h:t.size≤200):hF (aj t++r)=(t,((aj t).size:Int)):=by
 have q:∃ u v,u.size≤200∧aj t++r=aj u++v:=⟨t,r,h,rfl⟩
 unfold hF
 rw [dif_pos q]
 obtain ⟨v,h1,h2⟩:=q.choose_spec
 have:=(Gt h h1 h2).1
 rw [← this]
theorem nu (s:ByteArray):(∃ t r,t.size≤200∧s=aj t++r∧hF s=(t,((aj t).size:Int)))∨(hF s=(⟨#[]⟩,0)∧∀ t r,t.size≤200→s≠aj t++r):=by
 by_cases q:∃ t r,t.size≤200∧s=aj t++r
 · obtain ⟨t,r,h,rfl⟩:=q
   exact .inl ⟨t,r,h,rfl,pt r h⟩
 · right
   refine ⟨?_,fun t r h e=>q ⟨t,r,h,e⟩⟩
   unfold hF
   rw [dif_neg q]
end
theorem Ku {k:Nat} {f:ByteArray→Option (ByteArray × Int × Unit)} (h1:∀ x t r,x<4294967296→t.size≤200→t.size+r.size≤1099511627776→f (fI x++(bI t.size++(t++r)))=bif !seq (aj t) (fI x++(bI t.size++t)) then some (⟨#[]⟩,(0,())) else some (t,(((4+(bI t.size).size+t.size:Nat):Int),())))
 (h2:∀ s,s.size≤1099511627776→(s.size<5∨(∃ x u,x<4294967296∧s=fI x++u∧1≤u.size∧rv 7 (nb u)=none)∨(∃ x a u,x<4294967296∧a<562949953421312∧s=fI x++(bI a++u)∧(200<a∨u.size<a)))→f s=some (⟨#[]⟩,(0,())))
 {s:ByteArray} (hs:s.size≤1099511627776):f s=some ((hF s).1,((hF s).2,())):=by
 rcases Ir s hs with ⟨x,t,r,hx,ht,hr,rfl⟩ | h
 · rw [h1 x t r hx ht hr]
   by_cases c:aj t=fI x++(bI t.size++t)
   · have e:fI x++(bI t.size++(t++r))=aj t++r:=by rw [c,ar,ar]
     rw [KD c,e,pt r ht,c,nL,aN,Nat.add_assoc]
     rfl
   · rw [lW c]
     rcases nu (fI x++(bI t.size++(t++r))) with ⟨t',r',ht',e,_⟩ | ⟨e,_⟩
     · exfalso
       obtain ⟨y,hy,f'⟩:=qa ht'
       rw [f',ar,ar] at e
       have h3:=sI e rfl
       obtain ⟨h4,h5⟩:=yF (by omega) (by omega) h3.2
       have h6:=sI h5 h4
       apply c
       rw [h6.1,f',h3.1]
     · rw [e];rfl
 · rw [h2 s hs h]
   rcases nu s with ⟨t',r',ht',e,_⟩ | ⟨e,_⟩
   · exfalso
     obtain ⟨y,hy,f'⟩:=qa ht'
     have hp:=o5 ht'
     rw [f',ar,ar] at e
     rcases h with h | ⟨x,u,hx,e2,hu,h⟩ | ⟨x,a,u,hx,ha,e2,h⟩
     · rw [e,nL,aN] at h
       have:=ah t'.size
       omega
     · rw [e2] at e
       rw [(sI e rfl).2,rD (by omega)] at h
       cases h
     · rw [e2] at e
       obtain ⟨h4,h5⟩:=yF ha (by omega) (sI e rfl).2
       rw [h5,h4,aN] at h
       omega
   · rw [e]
theorem mA {k:Nat} (hk:2 ^ 50≤k) {s:ByteArray} (hs:s.size≤1099511627776):dq.f k s=some ((hF s).1,((hF s).2,())) :=
 Ku (k:=k) (fun x t r _ ht hr=>xb hk ht hr) (fun s hs h=>wR hk hs h) hs
theorem mJ {k:Nat} (hk:2 ^ 50≤k) {s:ByteArray} (hs:s.size≤1099511627776):dm.f k s=some ((hF s).1,((hF s).2,())) :=
 Ku (k:=k) (fun x t r _ ht hr=>zC hk ht hr) (fun s hs h=>wN hk hs h) hs
theorem mf (s:ByteArray):(hF s).1.size≤200∧((hF s).2=0∨5≤(hF s).2)∧(hF s).2≤s.size∧(hF s).2≤211:=by
 rcases nu s with ⟨t,r,h,rfl,e⟩ | ⟨e,_⟩
 · rw [e,aN]
   have:=o5 h
   have:=iK t
   refine ⟨h,?_,?_,?_⟩ <;> simp only [] <;> omega
 · rw [e]
   refine ⟨by simp only [e0];omega,.inl rfl,by simp only [];omega,by simp only [];omega⟩
theorem GQ:hF ⟨#[]⟩=(⟨#[]⟩,0):=by
 rcases nu ⟨#[]⟩ with ⟨t,r,h,e,_⟩ | ⟨e,_⟩
 · have:=congrArg ByteArray.size e
   rw [aN,e0] at this
   have:=o5 h
   omega
 · exact e
noncomputable def jB (s:ByteArray):Nat→Int→List (Ty.d bM) × Int
 | 0,at_=>([],at_)
 | d+1,at_ =>
  if (hF (ByteArray.extract s at_.toNat s.size)).2=0 then ([],at_)
  else if (jj (hF (ByteArray.extract s at_.toNat s.size)).1).2=false then ([],at_)
  else (((at_,((hF (ByteArray.extract s at_.toNat s.size)).2,((jj (hF (ByteArray.extract s at_.toNat s.size)).1).1,()))):Ty.d bM)::(jB s d (at_+(hF (ByteArray.extract s at_.toNat s.size)).2)).1,
   (jB s d (at_+(hF (ByteArray.extract s at_.toNat s.size)).2)).2)
noncomputable def aw (s:ByteArray):List (Ty.d bM) × Int:=jB s (s.size+1) 0
theorem pa (s:ByteArray) (n:Nat):(ByteArray.extract s n s.size).size=s.size-n:=by rw [← cW,jC,List.length_drop,cW]
theorem Kw {k:Nat} (hk:2 ^ 50≤k) {s:ByteArray} (hs:s.size≤1099511627776):∀ (d n:Nat) (i:Int) (out:List (Ty.d bM)),0≤i→i≤s.size→(s.size:Int)-i<d→d≤n→(out.length:Int)≤i →
 dZ.l0 k n s i out=some (out++(jB s d i).1,((jB s d i).2,()))∧bg.l0 k n s i out=some (out++(jB s d i).1,((jB s d i).2,())):=by
 intro d
 induction d with
 | zero=>intro n i out h0 h1 h2;omega
 | succ d ih =>
  intro n i out h0 h1 h2 h3 h4
  obtain ⟨n,rfl⟩:∃ q,n=q+1:=⟨n-1,by omega⟩
  have hz:=pa s i.toNat
  have hu:=mf (ByteArray.extract s i.toNat s.size)
  have e1:=mA hk (s:=ByteArray.extract s i.toNat s.size) (by omega)
  have e2:=mJ hk (s:=ByteArray.extract s i.toNat s.size) (by omega)
  have hnil:i=s.size→(hF (ByteArray.extract s i.toNat s.size)).2=0:=fun q=>by
   have:ByteArray.extract s i.toNat s.size=⟨#[]⟩:=kt (by rw [jC,List.drop_eq_nil_of_le (by rw [cW];omega)];rfl)
   rw [this,GQ]
  simp only [jB]
  generalize hF (ByteArray.extract s i.toNat s.size)=u at *
  have e3:=rS hk (s:=u.1) (by omega)
  have e4:=rl hk (s:=u.1) (by omega)
  generalize jj u.1=r at *
  by_cases c:u.2=0
  · rw [if_pos c]
    have cb:(u.2==0)=true:=by rw [c];rfl
    simp only [List.append_nil]
    constructor
    · simp (disch:=omega) only [dZ.l0,dZ.b0,bq,e1,e3,aQ,cb,aY]
    · by_cases q:i<s.size
      · simp (disch:=omega) only [bg.l0,bg.b0,aO,bq,e2,e4,aQ,cb,aY]
      · simp (disch:=omega) only [bg.l0,bg.b0,aP,aK]
  · rw [if_neg c]
    have cb:(u.2==0)=false:=nw c
    have hlt:i<s.size:=by
     rcases Int.lt_or_eq_of_le h1 with q | q
     · exact q
     · exact absurd (hnil q) c
    cases hr:r.2 with
    | false =>
     simp only [if_true,List.append_nil]
     constructor
     · simp (disch:=omega) only [dZ.l0,dZ.b0,bq,e1,e3,aQ,cb,aY,aK,hr,qj]
     · simp (disch:=omega) only [bg.l0,bg.b0,aO,bq,e2,e4,aQ,cb,aY,aK,hr,qj]
    | true =>
     rw [if_neg (by decide)]
     have hlen:out.length+1≤1099511627777:=by omega
     have ih:=ih n (i+u.2) (out++[(i,(u.2,(r.1,())))]) (by omega) (by omega) (by omega) (by omega) (by rw [xF];show ((out.length+1:Nat):Int)≤_;omega)
     simp only [s7,List.cons_append,List.nil_append] at ih
     constructor
     · simp (disch:=first | omega | decide) only [dZ.l0,dZ.b0,bq,e1,e3,aQ,cb,aY,aK,hr,ff,bO,aE]
       exact ih.1
     · simp (disch:=first | omega | decide) only [bg.l0,bg.b0,aO,bq,e2,e4,aQ,cb,aY,aK,hr,ff,bO,aE]
       exact ih.2
theorem vp {k:Nat} (hk:2 ^ 50≤k) {s:ByteArray} (hs:s.size≤1099511627775):dZ.f k s=some ((aw s).1,((aw s).2,())) :=
 (Kw hk (by omega) (s.size+1) k 0 [] (by omega) (by omega) (by omega) (by omega) (by simp)).1
theorem nB {k:Nat} (hk:2 ^ 50≤k) {s:ByteArray} (hs:s.size≤1099511627775):bg.f k s=some ((aw s).1,((aw s).2,())) :=
 (Kw hk (by omega) (s.size+1) k 0 [] (by omega) (by omega) (by omega) (by omega) (by simp)).2
theorem vK (s:ByteArray):∀ (d:Nat) (i:Int),0≤i→i≤s.size→((jB s d i).1.length:Int)≤s.size-i∧i≤(jB s d i).2∧(jB s d i).2≤s.size
 | 0,i,h0,h1=>by simp only [jB,List.length_nil];omega
 | d+1,i,h0,h1=>by
  have hu:=mf (ByteArray.extract s i.toNat s.size)
  have hz:=pa s i.toNat
  rw [jB]
  split
  · simp only [List.length_nil];omega
  · split
    · simp only [List.length_nil];omega
    · rename_i c1 c2
      have ih:=vK s d (i+(hF (ByteArray.extract s i.toNat s.size)).2) (by omega) (by omega)
      simp only [lQ]
      omega
theorem gz (s:ByteArray):(aw s).1.length≤s.size∧0≤(aw s).2∧(aw s).2≤s.size:=by
 have:=vK s (s.size+1) 0 (by omega) (by omega)
 unfold aw
 omega
theorem Jq (d:Nat) {a:Nat} (h:a<128):(vl d a).length=1:=by
 cases d with
 | zero=>rfl
 | succ d=>unfold vl;rw [if_neg (by omega)];rfl
theorem KN {a:Nat} (h:a<2097152):(vl 6 a).length≤3:=by
 unfold vl
 split
 · rw [lQ]
   unfold vl
   split
   · rw [lQ,Jq 4 (by omega)]
     omega
   · simp
 · simp
theorem tB {a:Int} (h0:0≤a) (h1:a≤100000):(iL a).size≤3:=by
 obtain ⟨n,rfl⟩:=Int.eq_ofNat_of_zero_le h0
 rw [dS (by omega),← s8 (by omega)]
 exact KN (by omega)
def dK:List Int→ByteArray
 | []=>⟨#[]⟩
 | x::l=>iL x++dK l
theorem wH:∀ (l:List Int),(∀ x ∈ l,0≤x∧x≤100000)→(dK l).size≤3*l.length
 | [],_=>Nat.le_refl _
 | x::l,h=>by
  have h1:=tB (h x (oh ..)).1 (h x (oh ..)).2
  have h2:=wH l fun y hy=>h y (qu _ hy)
  rw [dK,aN,lQ]
  omega
theorem oJ:∀ (l:List Int),(dK l).size≤7*l.length
 | []=>Nat.le_refl _
 | x::l=>by
  have h1:=b9 x
  have h2:=oJ l
  rw [dK,aN,lQ]
  omega
def lf (v:Ty.d ay):ByteArray:=iL v.1++(iL (v.2.1.length:Int)++dK v.2.1)
def ap (v:Ty.d ay):ByteArray:=if dG v=true then aj (lf v) else ⟨#[]⟩
theorem dY {nx:Int} {ids:List Int} (h:dG (nx,(ids,()))=true):1≤nx∧nx≤100000∧1≤ids.length∧ids.length≤60∧∀ x ∈ ids,0≤x∧x≤100000:=by
 unfold dG at h
 simp only [ke,decide_eq_true_eq] at h
 obtain ⟨h1,h2,h3⟩:=h
 have h1a:1≤nx:=h1.1
 have h1b:nx≤100000:=h1.2
 refine ⟨h1a,h1b,by omega,by omega,fun x hx=>?_⟩
 obtain ⟨p,hp⟩:=Bv h3 hx
 unfold nz at hp
 rw [ke,decide_eq_true_eq] at hp
 have hw:aF (nx-1)=nx-1:=aE (by omega) (by omega)
 have h4:x≤aF (nx-1):=hp.1.2
 have h5:1≤x:=hp.1.1
 omega
theorem zQ {nx:Int} {ids:List Int} (h:dG (nx,(ids,()))=true):(lf (nx,(ids,()))).size≤200:=by
 obtain ⟨h1,h2,h3,h4,h5⟩:=dY h
 have a:=tB (a:=nx) (by omega) h2
 have b:=tB (a:=(ids.length:Int)) (by omega) (by omega)
 have c:=wH ids h5
 unfold lf
 rw [aN,aN]
 simp only []
 omega
theorem kP {k:Nat} (hk:2 ^ 50≤k) (v:Ty.d ay):cV.f k v=some (ap v,()):=by
 unfold cV.f cV.t ap
 rw [rW hk,aQ]
 cases c:dG v with
 | false=>rfl
 | true =>
  obtain ⟨h1,h2,h3,h4,h5⟩:=dY (nx:=v.1) (ids:=v.2.1) c
  have a:=b9 v.1
  have b:=b9 (v.2.1.length:Int)
  rw [ff,aK,h9 hk,aQ,h9 hk,aQ,if_pos rfl]
  simp only []
  rw [dV (by omega)]
  refine (eV (L:=fun n i s=>cV.l0 k n s i v.1 v.2.1) (R:=fun r s=>some (aj (s++dK r),())) (Ty.z (.int .i64)) v.2.1 (fun i s=>(s.size:Int)≤14+7*i) (fun n s hs=>?_) (fun n i s x rest g0 g1 hx hr hs ih=>?_) (n:=k) (by omega) (by rw [aN];omega)).trans (by rw [ar];rfl)
  · simp (disch:=omega) only [cV.l0,cV.b0,aP,aK,jP hk,aQ]
    rw [show dK []=⟨#[]⟩ from rfl,gS]
  · have hv:=b9 x
    have ih:=ih (s++iL x) (by rw [aN];omega)
    simp (disch:=omega) only [cV.l0,cV.b0,aO g1,aY,aH,hx,h9 hk,aQ,dV,aE,ih]
    rw [ar]
    rfl
noncomputable def cr (s:ByteArray):Ty.d ay × Bool:=pB (fun v=>dG v=true) ap (0,([],())) s
theorem C7 (s:ByteArray):0≤(FG (rv 7 (nb s))).2.1∧(FG (rv 7 (nb s))).2.1≤(s.size:Int):=by
 cases h:rv 7 (nb s) with
 | none=>exact ⟨Int.le_refl _,by show (0:Int)≤_;omega⟩
 | some p =>
  obtain ⟨a,n⟩:=p
  obtain ⟨h1,h2,h3,h4,h5,h6⟩:=q_ 6 (nb s) a n (tF s) h
  rw [cW] at h4
  exact ⟨by show (0:Int)≤(n:Int);omega,by show (n:Int)≤_;omega⟩
def Ja:Option (Ty.d ay × Bool × Unit):=some ((0,([],())),(false,()))
theorem BJ {k:Nat} (hk:2 ^ 50≤k) {s t:ByteArray} (ht:t.size≤200) (c nx:Int):∀ (d n:Nat) (pos j:Int) (out:List Int),60-j=d→d<n→0≤pos→pos≤t.size→0≤j→(out.length:Int)≤j →
 ∃ o,bY.l0 k n s t c pos j [] 0 out nx=bif !seq (ap (nx,(o,()))) s then Ja else some ((nx,(o,())),(true,())):=by
 intro d
 induction d with
 | zero =>
  intro n pos j out hj hn h0 h1 h2 h3
  obtain ⟨n,rfl⟩:∃ q,n=q+1:=⟨n-1,by omega⟩
  refine ⟨out,?_⟩
  simp only [bY.l0,bY.b0]
  rw [aP (show ¬ j<60 by omega),aK,kP hk,aQ]
  cases decide (j<c) <;> cases seq (ap (nx,(out,()))) s <;> rfl
 | succ d ih =>
  intro n pos j out hj hn h0 h1 h2 h3
  obtain ⟨n,rfl⟩:∃ q,n=q+1:=⟨n-1,by omega⟩
  by_cases c1:j<c
  · have hr:=C7 (ByteArray.extract t pos.toNat t.size)
    have he:(ByteArray.extract t pos.toNat t.size).size=t.size-pos.toNat:=by rw [← cW,jC,List.length_drop,cW]
    rw [he] at hr
    obtain ⟨o,ho⟩:=ih n (pos+(FG (rv 7 (nb (ByteArray.extract t pos.toNat t.size)))).2.1) (j+1) (out++[(FG (rv 7 (nb (ByteArray.extract t pos.toNat t.size)))).1]) (by omega) (by omega) (by omega) (by omega) (by omega) (by rw [bK];omega)
    refine ⟨o,?_⟩
    simp only [bY.l0,bY.b0]
    rw [aO c1,aO (show j<60 by omega),aY,aY,bq h0 h1,fy hk,aQ,bO (by omega) (by decide),aE (n:=pos+_) (by omega) (by omega),aE (n:=j+1) (by omega) (by omega)]
    exact ho
  · refine ⟨out,?_⟩
    simp only [bY.l0,bY.b0]
    rw [aP c1,aK,kP hk,aQ]
    cases seq (ap (nx,(out,()))) s <;> rfl
theorem pg {x:Int} (h0:0≤x) (h1:x≤100000):∃ n:Nat,n<562949953421312∧x=(n:Int)∧iL x=bI n:=by
 obtain ⟨n,rfl⟩:=Int.eq_ofNat_of_zero_le h0
 exact ⟨n,by omega,rfl,dS (by omega)⟩
theorem Du {k:Nat} (hk:2 ^ 50≤k) {s:ByteArray} (nx:Int):∀ (ids:List Int) (pre:ByteArray) (n:Nat) (j c:Int) (out:List Int),(∀ x ∈ ids,0≤x∧x≤100000)→ids.length<n→0≤j→c=j+ids.length→c≤60→pre.size+7*ids.length≤1000→(out.length:Int)≤j →
 bY.l0 k n s (pre++dK ids) c (pre.size:Int) j [] 0 out nx=bif !seq (ap (nx,(out++ids,()))) s then Ja else some ((nx,(out++ids,())),(true,())):=by
 intro ids
 induction ids with
 | nil =>
  intro pre n j c out h hn h0 hc h1 hp ho
  obtain ⟨n,rfl⟩:∃ q,n=q+1:=⟨n-1,by omega⟩
  rw [List.length_nil] at hc
  simp only [bY.l0,bY.b0]
  rw [aP (show ¬ j<c by omega),aK,kP hk,aQ,List.append_nil]
  cases seq (ap (nx,(out,()))) s <;> rfl
 | cons x ids ih =>
  intro pre n j c out h hn h0 hc h1 hp ho
  rw [lQ] at hn hc
  obtain ⟨n,rfl⟩:∃ q,n=q+1:=⟨n-1,by omega⟩
  obtain ⟨a,ha,hx,hv⟩:=pg (h x (oh ..)).1 (h x (oh ..)).2
  have hvs:=ah a
  have hts:=oJ (x::ids)
  rw [lQ] at hts
  have ih:=ih (pre++bI a) n (j+1) c (out++[x]) (fun y hy=>h y (qu _ hy)) (by omega) (by omega) (by omega) h1 ?_ (by rw [bK];omega)
  · have he:ByteArray.extract (pre++dK (x::ids)) pre.size (pre++dK (x::ids)).size=bI a++dK ids:=by rw [fh,dK,hv]
    simp only [bY.l0,bY.b0]
    rw [aO (show j<c by omega),aO (show j<60 by omega),aY,aY,bq (by omega) (by rw [aN];omega),Int.toNat_natCast,he,fy hk,aQ,rD ha]
    simp only [FG]
    rw [bO (by omega) (by decide),aE (by omega) (by omega),aE (by omega) (by omega),← hx,show (pre.size:Int)+((bI a).size:Int)=((pre++bI a).size:Int) by rw [aN];omega]
    rw [show pre++dK (x::ids)=pre++bI a++dK ids by rw [dK,hv,ar],ih,s7]
    rfl
  · rw [aN]
    rw [lQ] at hp
    omega
theorem yv {k:Nat} (hk:2 ^ 50≤k) {nx:Int} {ids:List Int} (h:dG (nx,(ids,()))=true):bY.f k (ap (nx,(ids,())))=some ((nx,(ids,())),(true,())):=by
 obtain ⟨g1,g2,g3,g4,g5⟩:=dY h
 have hz:=zQ h
 have hf:=o5 hz
 have hfs:=iK (lf (nx,(ids,())))
 have hu:=pt ⟨#[]⟩ hz
 rw [gS] at hu
 have e:ap (nx,(ids,()))=aj (lf (nx,(ids,()))):=if_pos h
 obtain ⟨a,ha,hx,hv⟩:=pg (x:=nx) (by omega) g2
 obtain ⟨b,hb,hy,hw⟩:=pg (x:=(ids.length:Int)) (by omega) (by omega)
 have ht:lf (nx,(ids,()))=bI a++bI b++dK ids:=by
  unfold lf
  rw [ar,← hv,← hw]
 have hva:=ah a
 have hvb:=ah b
 have hl:=Du hk (s:=ap (nx,(ids,()))) nx ids (bI a++bI b) k 0 (b:Int) [] g5 (by omega) (by omega) (by omega) (by omega) (by rw [aN];omega) (by simp)
 rw [← ht,List.nil_append,cF] at hl
 unfold bY.f bY.t
 rw [mJ hk (by rw [e];omega),aQ]
 have hu1:hF (ap (nx,(ids,())))=(lf (nx,(ids,())),((ap (nx,(ids,()))).size:Int)):=by rw [e];exact hu
 have r1:rv 7 (nb (lf (nx,(ids,()))))=some (a,(bI a).size):=by rw [ht,ar];exact rD ha _
 have r2:rv 7 (nb (ByteArray.extract (lf (nx,(ids,()))) (bI a).size (lf (nx,(ids,()))).size))=some (b,(bI b).size):=by rw [ht,ar,fh];exact rD hb _
 have hsz:(lf (nx,(ids,()))).size=(bI a).size+(bI b).size+(dK ids).size:=by rw [ht,aN,aN]
 rw [hu1]
 simp only []
 rw [fy hk,aQ,r1]
 simp only [FG]
 rw [show (((ap (nx,(ids,()))).size:Int) != ((ap (nx,(ids,()))).size:Int))=false by simp,aK,
  show (((ap (nx,(ids,()))).size:Int)==0)=false from nw (by rw [e];omega),aK,show (((bI a).size:Int)==0)=false from nw (by omega),aK,
  bq (by omega) (by omega),Int.toNat_natCast,fy hk,aQ,r2]
 simp only [FG]
 rw [aE (by omega) (by omega),show ((bI a).size:Int)+((bI b).size:Int)=((bI a++bI b).size:Int) by rw [aN];omega,← hx]
 exact hl
theorem wn {k:Nat} (hk:2 ^ 50≤k) {s:ByteArray} (hs:s.size≤1099511627776):bY.f k s=some ((cr s).1,((cr s).2,())):=by
 refine my (fun v h1 h2=>?_) ?_
 · subst h2
   exact yv hk (nx:=v.1) (ids:=v.2.1) h1
 · unfold bY.f bY.t
   rw [mJ hk hs,aQ]
   have hu:=mf s
   generalize hF s=u at hu
   obtain ⟨t,m⟩:=u
   simp only [] at hu ⊢
   rw [fy hk,aQ]
   have h1:=C7 t
   generalize FG (rv 7 (nb t))=q at h1
   obtain ⟨nx,p,_⟩:=q
   simp only [] at h1 ⊢
   by_cases c1:m=(s.size:Int)
   case neg=>rw [show (m != (s.size:Int))=true from bne_iff_ne.2 c1];exact .inr rfl
   rw [show (m != (s.size:Int))=false by rw [c1];simp,aK]
   by_cases c2:m=0
   case pos=>rw [show (m==0)=true from beq_iff_eq.2 c2];exact .inr rfl
   rw [show (m==0)=false from nw c2,aK]
   by_cases c3:p=0
   case pos=>rw [show (p==0)=true from beq_iff_eq.2 c3];exact .inr rfl
   rw [show (p==0)=false from nw c3,aK,bq h1.1 h1.2,fy hk,aQ]
   have h2:=C7 (ByteArray.extract t p.toNat t.size)
   have he:(ByteArray.extract t p.toNat t.size).size=t.size-p.toNat:=by rw [← cW,jC,List.length_drop,cW]
   rw [he] at h2
   rw [aE (by omega) (by omega)]
   obtain ⟨o,ho⟩:=BJ hk (s:=s) hu.1 (FG (rv 7 (nb (ByteArray.extract t p.toNat t.size)))).1 nx 60 k (p+(FG (rv 7 (nb (ByteArray.extract t p.toNat t.size)))).2.1) 0 [] (by omega) (by omega) (by omega) (by omega) (by omega) (by simp)
   rw [ho]
   cases c4:seq (ap (nx,(o,()))) s with
   | false=>exact .inr rfl
   | true =>
    refine .inl ⟨(nx,(o,())),?_,cS.1 c4,rfl⟩
    cases c5:dG (nx,(o,())) with
    | true=>rfl
    | false =>
     have:=cS.1 c4
     unfold ap at this
     rw [c5,if_neg (by decide)] at this
     rw [← this] at c1
     exact absurd c1 c2
def Kg (s:ByteArray) (m a:Int) (out:List Int) (r:ByteArray) (bad:Bool):Option (Ty.d ay × Bool × Unit) :=
 bif m==0 then Ja else bif m != (s.size:Int) then Ja else bif bad then Ja else bif !seq r ⟨#[]⟩ then Ja else bif !dG (a,(out,())) then Ja else some ((a,(out,())),(true,()))
theorem xA {k:Nat} (hk:2 ^ 50≤k) {s r:ByteArray} {m a:Int} {out:List Int} {bad:Bool} (ho:out.length≤1099511627776) :
 @Eq (Option (Ty.d ay × Bool × Unit)) (bif (m==0) then (some ((0,([],())),(false,()))) else (bif (m != (ByteArray.size s:Int)) then (some ((0,([],())),(false,()))) else (bif bad then (some ((0,([],())),(false,()))) else (bif (!(seq r (⟨#[]⟩:ByteArray))) then (some ((0,([],())),(false,()))) else (Option.bind (dQ.f k (a,(out,()))) fun r5=>(bif (!r5.1) then (some ((0,([],())),(false,()))) else (some ((a,(out,())),(true,()))))))))) (Kg s m a out r bad):=by
 rw [vq hk (v:=(a,(out,()))) ho]
 rfl
theorem DL {k:Nat} (hk:2 ^ 50≤k) {s:ByteArray} (m a:Int):∀ (ids:List Int) (n:Nat) (j c:Int) (out:List Int),(∀ x ∈ ids,0≤x∧x≤100000)→ids.length<n→0≤j→c=j+ids.length→c≤60→(out.length:Int)≤j →
 b7.l0 k n s m c j [] 0 (dK ids) false out a=Kg s m a (out++ids) ⟨#[]⟩ false:=by
 intro ids
 induction ids with
 | nil =>
  intro n j c out h hn h0 hc h1 ho
  obtain ⟨n,rfl⟩:∃ q,n=q+1:=⟨n-1,by omega⟩
  rw [List.length_nil] at hc
  simp only [b7.l0,b7.b0]
  rw [aP (show ¬ j<c by omega),aK,List.append_nil]
  exact xA hk (bad:=false) (by omega)
 | cons x ids ih =>
  intro n j c out h hn h0 hc h1 ho
  rw [lQ] at hn hc
  obtain ⟨n,rfl⟩:∃ q,n=q+1:=⟨n-1,by omega⟩
  obtain ⟨b,hb,hx,hv⟩:=pg (h x (oh ..)).1 (h x (oh ..)).2
  have hts:=oJ ids
  have ih:=ih n (j+1) c (out++[x]) (fun y hy=>h y (qu _ hy)) (by omega) (by omega) (by omega) h1 (by rw [bK];omega)
  simp only [b7.l0,b7.b0]
  rw [aO (show j<c by omega),aY,qj,aY,show dK (x::ids)=bI b++dK ids by rw [dK,hv],fW hk hb (by omega),aQ]
  simp only []
  rw [bO (by omega) (by decide),aE (by omega) (by omega),← hx,ih,s7]
  rfl
theorem yd {k:Nat} (hk:2 ^ 50≤k) {nx:Int} {ids:List Int} (h:dG (nx,(ids,()))=true):b7.f k (ap (nx,(ids,())))=some ((nx,(ids,())),(true,())):=by
 obtain ⟨g1,g2,g3,g4,g5⟩:=dY h
 have hz:=zQ h
 have hf:=o5 hz
 have hfs:=iK (lf (nx,(ids,())))
 have hu:=pt ⟨#[]⟩ hz
 rw [gS] at hu
 have e:ap (nx,(ids,()))=aj (lf (nx,(ids,()))):=if_pos h
 obtain ⟨a,ha,hx,hv⟩:=pg (x:=nx) (by omega) g2
 obtain ⟨b,hb,hy,hw⟩:=pg (x:=(ids.length:Int)) (by omega) (by omega)
 have ht:lf (nx,(ids,()))=bI a++(bI b++dK ids):=by
  unfold lf
  rw [← hv,← hw]
 have hvs:=oJ ids
 have hvb:=ah b
 have hl:=DL hk (s:=ap (nx,(ids,()))) ((ap (nx,(ids,()))).size:Int) nx ids k 0 (b:Int) [] g5 (by omega) (by omega) (by omega) (by omega) (by simp)
 have hu1:hF (ap (nx,(ids,())))=(lf (nx,(ids,())),((ap (nx,(ids,()))).size:Int)):=by rw [e];exact hu
 unfold b7.f b7.t
 rw [mA hk (by rw [e];omega),aQ,hu1]
 simp only []
 rw [ht,fW hk ha (by rw [aN];omega),aQ]
 simp only []
 rw [fW hk hb (by omega),aQ]
 simp only []
 rw [← hx,hl,List.nil_append]
 unfold Kg
 rw [show (((ap (nx,(ids,()))).size:Int)==0)=false from nw (by rw [e];omega),show (((ap (nx,(ids,()))).size:Int) != ((ap (nx,(ids,()))).size:Int))=false by simp,cF,h]
 rfl
theorem C4 {k:Nat} (hk:2 ^ 50≤k) {s:ByteArray} (m a c:Int):∀ (n:Nat) (rest:ByteArray) (j:Int) (out:List Int),rest.size+2≤n→0≤j→j≤c→c<562949953421312→out.length+rest.size≤1000000 →
 (∃ xs r,rest=dK xs++r∧(xs.length:Int)=c-j∧b7.l0 k n s m c j [] 0 rest false out a=Kg s m a (out++xs) r false)∨(∃ o r,b7.l0 k n s m c j [] 0 rest false out a=Kg s m a o r true):=by
 intro n
 induction n with
 | zero=>intro rest j out h1;omega
 | succ n ih =>
  intro rest j out h1 h2 h3 h4 h5
  by_cases c1:j<c
  · rcases kN rest with ⟨b,t,hb,rfl⟩ | hbad
    · have hvb:=ah b
      rw [aN] at h1 h5
      have e:b7.l0 k (n+1) s m c j [] 0 (bI b++t) false out a=b7.l0 k n s m c (j+1) [] 0 t false (out++[(b:Int)]) a:=by
       simp only [b7.l0,b7.b0]
       rw [aO c1,aY,qj,aY,fW hk hb (by omega),aQ]
       simp only []
       rw [bO (by omega) (by decide),aE (by omega) (by omega)]
      rw [e]
      rcases ih t (j+1) (out++[(b:Int)]) (by omega) (by omega) (by omega) h4 (by rw [bK];omega) with ⟨xs,r,g1,g2,g3⟩ | g
      · refine .inl ⟨(b:Int)::xs,r,?_,by rw [lQ];omega,?_⟩
        · rw [dK,dS hb,g1,ar]
        · rw [g3,s7];rfl
      · exact .inr g
    · refine .inr ?_
      obtain ⟨n,rfl⟩:∃ q,n=q+1:=⟨n-1,by omega⟩
      refine ⟨out++[0],rest,?_⟩
      simp only [b7.l0,b7.b0]
      rw [aO c1,aY,qj,aY,m8 hk hbad (by omega),aQ]
      simp only []
      rw [bO (by omega) (by decide),aE (by omega) (by omega),ff,aK]
      rw [xA hk (bad:=true) (by rw [bK];omega)]
      cases decide (j+1<c) <;> rfl
  · refine .inl ⟨[],rest,by rw [dK,od],by rw [List.length_nil];omega,?_⟩
    simp only [b7.l0,b7.b0]
    rw [aP c1,aK,List.append_nil]
    exact xA hk (bad:=false) (by omega)
theorem GK (s:ByteArray) (m a:Int) (o:List Int) (r:ByteArray):Kg s m a o r true=Ja:=by
 unfold Kg
 cases m==0 <;> cases m != (s.size:Int) <;> rfl
theorem uy {k:Nat} (hk:2 ^ 50≤k) (s:ByteArray) (m a c:Int) (r:ByteArray):b7.l0 k k s m c 0 [] 0 r true [] a=Ja:=by
 obtain ⟨n,hn⟩:∃ q,k=q+1:=⟨k-1,by omega⟩
 have e:b7.l0 k (n+1) s m c 0 [] 0 r true [] a=Ja:=by
  simp only [b7.l0,b7.b0]
  rw [ff,aK,xA hk (bad:=true) (by simp),GK]
  cases decide (0<c) <;> rfl
 rw [← hn] at e
 exact e
theorem wt {k:Nat} (hk:2 ^ 50≤k) {s:ByteArray} (hs:s.size≤1099511627776):b7.f k s=some ((cr s).1,((cr s).2,())):=by
 refine my (fun v h1 h2=>?_) ?_
 · subst h2
   exact yd hk (nx:=v.1) (ids:=v.2.1) h1
 · unfold b7.f b7.t
   rw [mA hk hs,aQ]
   have hu:=mf s
   have hc:=nu s
   generalize hF s=u at hu hc
   obtain ⟨t,m⟩:=u
   simp only [] at hu ⊢
   rcases kN t with ⟨a,t1,ha,e1⟩ | hb
   case inr =>
    rw [m8 hk hb (by omega),aQ]
    simp only []
    rw [vr hk (by omega),aQ]
    simp only []
    rw [uy hk]
    exact .inr rfl
   have z1:t.size=(bI a).size+t1.size:=by rw [e1,aN]
   rw [show aJ.f k (t,(false,()))=some ((t1,(false,())),((a:Int),())) by rw [e1];exact fW hk ha (by omega),aQ]
   simp only []
   rcases kN t1 with ⟨c,t2,hcl,e2⟩ | hb
   case inr =>
    rw [m8 hk hb (by omega),aQ]
    simp only []
    rw [uy hk]
    exact .inr rfl
   have z2:t1.size=(bI c).size+t2.size:=by rw [e2,aN]
   rw [show aJ.f k (t1,(false,()))=some ((t2,(false,())),((c:Int),())) by rw [e2];exact fW hk hcl (by omega),aQ]
   simp only []
   rcases C4 hk (s:=s) m (a:Int) (c:Int) k t2 0 [] (by omega) (by omega) (by omega) (by omega) (by rw [List.length_nil];omega) with ⟨xs,r,g1,g2,g3⟩ | ⟨o,r,g⟩
   case inr=>rw [g,GK];exact .inr rfl
   rw [g3,List.nil_append]
   unfold Kg
   by_cases c2:m=0
   case pos=>rw [show (m==0)=true from beq_iff_eq.2 c2];exact .inr rfl
   rw [show (m==0)=false from nw c2,aK]
   by_cases c1:m=(s.size:Int)
   case neg=>rw [show (m != (s.size:Int))=true from bne_iff_ne.2 c1];exact .inr rfl
   rw [show (m != (s.size:Int))=false by rw [c1];simp,aK,aK]
   cases c3:seq r ⟨#[]⟩ with
   | false=>exact .inr rfl
   | true =>
    rw [ff,aK]
    cases c4:dG ((a:Int),(xs,())) with
    | false=>exact .inr rfl
    | true =>
     refine .inl ⟨((a:Int),(xs,())),c4,?_,rfl⟩
     have hr:=cS.1 c3
     subst hr
     rw [gS] at g1
     rcases hc with ⟨t',r',h1,h2,h3⟩ | ⟨h1,_⟩
     · obtain ⟨rfl,hm⟩:=Prod.mk.inj h3
       have hr':r'=⟨#[]⟩:=by
        have hsz:=congrArg ByteArray.size h2
        rw [aN] at hsz
        have:r'.size=0:=by omega
        exact kt (by
         have hn:=cW r'
         rw [this] at hn
         rw [List.length_eq_zero_iff.1 hn]
         rfl)
       rw [h2,hr',gS]
       show ap ((a:Int),(xs,()))=aj t
       rw [show ap ((a:Int),(xs,()))=aj (lf ((a:Int),(xs,()))) from if_pos c4]
       congr 1
       rw [e1,e2,g1]
       unfold lf
       simp only []
       rw [dS ha,show (xs.length:Int)=(c:Int) by omega,dS hcl]
     · exact absurd (Prod.mk.inj h1).2 c2
end Go.Proofs.YtgnakpiicdfpkaaGreatDoor.G
namespace Go.V
def M9 (n:Int):Prop := -999999999≤n∧n≤999999999
def dg:List Nat→Nat→Nat→Nat × Nat
 | [],a,c=>(a,c)
 | b::l,a,c=>if 48≤b∧b≤57 then dg l (a*10+(b-48)) (c+1) else dg l a c
theorem va:∀ (l:List Nat) (a c:Nat),(∀ b ∈ l,48≤b∧b≤57)→dg l a c=(pS l a,c+l.length)
 | [],a,c,_=>rfl
 | b::l,a,c,h=>by
  rw [dg,if_pos (h b (oh ..)),va l _ _ fun x hx=>h x (qu _ hx),pS,lQ]
  congr 1
  omega
theorem yN:∀ (l:List Nat) (a c:Nat),a+1≤10 ^ c→(dg l a c).1+1≤10 ^ (dg l a c).2
 | [],a,c,h=>h
 | b::l,a,c,h=>by
  unfold dg
  split
  · rename_i q
    exact yN l _ _ (by rw [Nat.pow_succ];omega)
  · exact yN l _ _ h
theorem DF (u:Nat):∀ b ∈ (Lib.decDigits u).map UInt8.toNat,48≤b∧b≤57:=by
 intro b hb
 obtain ⟨x,hx,rfl⟩:=List.mem_map.1 hb
 exact kL u x hx
def Kk (s:ByteArray) (a:Nat):Int:=bif decide ((s.size:Int) > 0)&&(dc s 0==45) then -(a:Int) else (a:Int)
theorem Kt {s:ByteArray} (h:0<s.size):dc s 0=(((nb s).getD 0 0:Nat):Int):=yl (i:=0) h
theorem Kd {n:Int}:Kk (g_ n) n.natAbs=n:=by
 have hb:=qI n
 have hl:=cW (g_ n)
 unfold Kk
 by_cases c:n<0
 · rw [if_pos c] at hb
   rw [hb,lQ] at hl
   rw [aO (by omega),Kt (by omega),hb]
   show (bif true&&(((45:Nat):Int)==45) then _ else _)=n
   show -((n.natAbs:Nat):Int)=n
   omega
 · rw [if_neg c] at hb
   have:(dc (g_ n) 0==45)=false:=by
    cases q:Lib.decDigits n.toNat with
    | nil=>exact absurd q (ni _)
    | cons x r =>
     have hx:=kL n.toNat x (by rw [q];exact oh ..)
     rw [q,List.map_cons] at hb
     rw [hb,lQ] at hl
     rw [Kt (by omega),hb]
     refine nw ?_
     show ((x.toNat:Nat):Int)≠45
     omega
   rw [this,Bool.and_false,aK]
   omega
theorem Ka {n:Int} (h:M9 n):(g_ n).size≤10:=H1 (by have:=h.1;omega) (by have:=h.2;omega)
theorem Li {n:Int} (h:M9 n):∃ c,dg (nb (g_ n)) 0 0=(n.natAbs,c)∧c≤9:=by
 obtain ⟨h0,h1⟩:=h
 rw [qI]
 by_cases c:n<0
 · rw [if_pos c]
   refine ⟨(Lib.decDigits n.natAbs).length,?_,i7 8 _ (by rw [show (10:Nat) ^ (8+1)=1000000000 by decide];omega)⟩
   rw [dg,if_neg (by omega),va _ _ _ (DF _),pZ,List.length_map,Nat.zero_add]
 · rw [if_neg c]
   refine ⟨(Lib.decDigits n.toNat).length,?_,i7 8 _ (by rw [show (10:Nat) ^ (8+1)=1000000000 by decide];omega)⟩
   rw [va _ _ _ (DF _),pZ,List.length_map,Nat.zero_add,show n.toNat=n.natAbs by omega]
theorem Dy {c:Nat} (h:c≤11):10 ^ c≤100000000000:=Nat.le_trans (Nat.pow_le_pow_right (by decide) h) (by decide)
theorem KB {c:Nat} (h:c≤9):10 ^ c≤1000000000:=Nat.le_trans (Nat.pow_le_pow_right (by decide) h) (by decide)
end Go.V
namespace Go.Proofs.YtgnakpiicdfpkaaGreatDoor.G
open Go.V
noncomputable def eF (s:ByteArray):Int × Bool:=pB M9 g_ 0 s
def Gm (s:ByteArray) (q:Nat × Nat):Option (Int × Bool × Unit) :=
 bif decide ((q.2:Int) > 9)||(decide ((s.size:Int) > 10)||!seq (g_ (Kk s q.1)) s) then some (0,(false,())) else some (Kk s q.1,(true,()))
theorem Lf {k:Nat} (hk:2 ^ 50≤k) (s:ByteArray) {q:Nat × Nat} (hq:q.1≤1000000000000) :
 (bif (decide ((ByteArray.size s:Int) > 0)) then (bW 0 (ByteArray.size s:Int) (bif ((dc s 0)==45) then (bif (decide ((q.2:Int) > 9)) then (some (0,(false,()))) else (bif (decide ((ByteArray.size s:Int) > 10)) then (some (0,(false,()))) else (Option.bind (da.f k (aF (0-(q.1:Int)))) fun r1=>(bif (!(seq r1.1 s)) then (some (0,(false,()))) else (some ((aF (0-(q.1:Int))),(true,()))))))) else
  (bif (decide ((q.2:Int) > 9)) then (some (0,(false,()))) else (bif (decide ((ByteArray.size s:Int) > 10)) then (some (0,(false,()))) else (Option.bind (da.f k (q.1:Int)) fun r2=>(bif (!(seq r2.1 s)) then (some (0,(false,()))) else (some ((q.1:Int),(true,())))))))))
 else (bif (decide ((q.2:Int) > 9)) then (some (0,(false,()))) else (bif (decide ((ByteArray.size s:Int) > 10)) then (some (0,(false,()))) else (Option.bind (da.f k (q.1:Int)) fun r3=>(bif (!(seq r3.1 s)) then (some (0,(false,()))) else (some ((q.1:Int),(true,()))))))))=Gm s q:=by
 have hn:aF (0-(q.1:Int)) = -(q.1:Int):=by rw [aE (by omega) (by omega)];omega
 rw [hn,oN hk (n:=(q.1:Int)) (by omega) (by omega),oN hk (n := -(q.1:Int)) (by omega) (by omega)]
 simp only [aQ]
 unfold Gm Kk
 by_cases c0:(s.size:Int) > 0
 · rw [aO c0,aY,aH (by omega) (by omega),Bool.true_and]
   cases dc s 0==45 <;> cases decide ((q.2:Int) > 9) <;> cases decide ((s.size:Int) > 10)
   all_goals simp only [aY,aK,Bool.true_or,Bool.false_or]
   all_goals first | rfl | (cases seq (g_ (q.1:Int)) s <;> rfl) | (cases seq (g_ (-(q.1:Int))) s <;> rfl)
 · rw [aP c0,aK,Bool.false_and,aK]
   cases decide ((q.2:Int) > 9) <;> cases decide ((s.size:Int) > 10)
   all_goals simp only [aY,aK,Bool.true_or,Bool.false_or]
   all_goals first | rfl | (cases seq (g_ (q.1:Int)) s <;> rfl)
theorem wa {k:Nat} (hk:2 ^ 50≤k) {s:ByteArray} (hs:s.size≤1099511627776):fG.f k s=Gm s (dg ((nb s).take 11) 0 0):=by
 unfold fG.f fG.t
 have hn:=cW s
 have hl:((nb s).take 11).length=min 11 s.size:=by rw [List.length_take,hn]
 refine eV (L:=fun n i (q:Nat × Nat)=>fG.l0 k n s (q.1:Int) (q.2:Int) i) (R:=fun r q=>Gm s (dg r q.1 q.2)) 0 ((nb s).take 11) (fun i q=>q.1+1≤10 ^ q.2∧(q.2:Int)≤i) (fun n q hq=>?_) (fun n i q x rest h0 h1 hx hr hq ih=>?_) (n:=k) (s:=(0,0)) (by omega) ⟨by decide,by decide⟩
 · obtain ⟨g1,g2⟩:=hq
   have hp:=Dy (c:=q.2) (by omega)
   rw [show dg [] q.1 q.2=q from rfl]
   refine Eq.trans ?_ (Lf hk s (q:=q) (by omega))
   simp only [fG.l0,fG.b0]
   rcases Nat.lt_or_ge 11 s.size with c | c
   · rw [hl,Nat.min_eq_left (by omega),aO (show ((11:Nat):Int)<(s.size:Int) by omega),aP (show ¬ ((11:Nat):Int)<11 by omega)]
     rfl
   · rw [hl,Nat.min_eq_right c,aP (show ¬ (s.size:Int)<(s.size:Int) by omega)]
     rfl
 · obtain ⟨g1,g2⟩:=hq
   have hp:=Dy (c:=q.2) (by omega)
   rw [hl] at h1
   have hi:i<11:=by omega
   have hsz:i<(s.size:Int):=by omega
   have hx':(nb s).getD i.toNat 0=x:=by rw [← hx,lH (by omega)]
   have hb:=C9 (s:=s) (x:=x) h0 (by rw [hn];exact hsz) hx'
   have hx256:x<256:=by rw [← hx'];exact jZ s _
   simp only [fG.l0,fG.b0]
   rw [aO hsz,aO hi,aY,aY,aH h0 hsz,hb]
   have iN:=ih q ⟨g1,by omega⟩
   by_cases c1:48≤x
   · rw [aO (show (x:Int)≥48 by omega),aY]
     by_cases c2:x≤57
     · rw [aH h0 hsz,aO (show (x:Int)≤57 by omega),aY,aH h0 hsz]
       have iY:=ih (q.1*10+(x-48),q.2+1) ⟨by rw [Nat.pow_succ];omega,by simp only [];omega⟩
       rw [pA (n:=(x:Int)-48) (by omega) (by omega),aE (n:=(x:Int)-48) (by omega) (by omega),aE (n:=(q.1:Int)*10) (by omega) (by omega),aE (by omega) (by omega),aE (n:=(q.2:Int)+1) (by omega) (by omega),aE (n:=i+1) (by omega) (by omega)]
       rw [show dg (x::rest) q.1 q.2=dg rest (q.1*10+(x-48)) (q.2+1) from if_pos ⟨c1,c2⟩]
       rw [show (q.1:Int)*10+((x:Int)-48)=((q.1*10+(x-48):Nat):Int) by omega,show (q.2:Int)+1=((q.2+1:Nat):Int) by omega]
       exact iY
     · rw [aH h0 hsz,aP (show ¬ (x:Int)≤57 by omega),aK,aE (n:=i+1) (by omega) (by omega),show dg (x::rest) q.1 q.2=dg rest q.1 q.2 from if_neg (fun h=>c2 h.2)]
       exact iN
   · rw [aP (show ¬ (x:Int)≥48 by omega),aK,aE (n:=i+1) (by omega) (by omega),show dg (x::rest) q.1 q.2=dg rest q.1 q.2 from if_neg (fun h=>c1 h.1)]
     exact iN
theorem yx {k:Nat} (hk:2 ^ 50≤k) {s:ByteArray} (hs:s.size≤1099511627776):fG.f k s=some ((eF s).1,((eF s).2,())):=by
 rw [wa hk hs]
 refine my (fun n h1 h2=>?_) ?_
 · subst h2
   have hz:=Ka h1
   obtain ⟨c,e,hc⟩:=Li h1
   rw [List.take_of_length_le (by rw [cW];omega),e]
   unfold Gm
   simp only []
   rw [aP (by omega),aP (by omega),Kd,cF]
   rfl
 · have hb:=yN ((nb s).take 11) 0 0 (by decide)
   generalize dg ((nb s).take 11) 0 0=q at hb
   unfold Gm
   by_cases c:q.2≤9
   · have hp:=KB c
     cases e:(decide ((q.2:Int) > 9)||(decide ((s.size:Int) > 10)||!seq (g_ (Kk s q.1)) s)) with
     | true=>exact .inr rfl
     | false =>
      simp only [Bool.or_eq_false_iff,Bool.not_eq_false'] at e
      refine .inl ⟨Kk s q.1,?_,cS.1 e.2.2,rfl⟩
      unfold Kk M9
      cases decide ((s.size:Int) > 0)&&(dc s 0==45)
      · rw [aK];omega
      · rw [aY];omega
   · rw [aO (show (q.2:Int) > 9 by omega)]
     exact .inr rfl
theorem oD (k:Nat) {s:ByteArray} (hs:s.size≤281474976710656):cT.f k s=some ((eF s).1,((eF s).2,())):=by
 unfold cT.f
 rw [aO hs,aY]
 refine my (fun n h1 h2=>?_) ?_
 · obtain ⟨g0,g1⟩:=h1
   have he:s.data.toList=Go.Lib.itoa n:=by rw [← h2];unfold g_;rw [List.toList_toArray]
   rw [he,IF (by omega) (by omega)]
   unfold cT.r
   simp only []
   rw [show seq ⟨(Go.Lib.itoa n).toArray⟩ s=true from cS.2 h2,aO ⟨g0,g1⟩]
   rfl
 · cases Go.Lib.atoiAll s.data.toList with
   | ok v =>
    unfold cT.r
    simp only []
    cases e:seq ⟨(Go.Lib.itoa v).toArray⟩ s&&decide (-999999999≤v∧v≤999999999) with
    | false=>exact .inr rfl
    | true =>
     rw [ke,decide_eq_true_eq] at e
     exact .inl ⟨v,e.2,cS.1 e.1,rfl⟩
   | _=>exact .inr rfl
theorem wC {n:Int} (h:M9 n):eF (g_ n)=(n,true):=Kc (fun _ _ _ _ e=>zJ e) h
def qp (s p:ByteArray):Bool:=decide (p.size≤s.size)&&seq (ByteArray.extract s 0 p.size) p
theorem Jn (s p:ByteArray):Go.Lib.hasPrefix s.data.toList p.data.toList=qp s p:=(Go.Lib.hasPrefix_raw s p).symm
theorem KP {s p:ByteArray} (h:qp s p=true):p.size≤s.size:=by
 unfold qp at h
 rw [ke,decide_eq_true_eq] at h
 exact h.1
theorem CN (p t:ByteArray):qp (p++t) p=true:=by
 unfold qp
 rw [aO (by rw [ByteArray.size_append];omega),zX,cF]
 rfl
theorem yp {s p:ByteArray} (h:qp s p=true):s=p++ByteArray.extract s p.size s.size:=by
 have hl:=KP h
 unfold qp at h
 rw [ke] at h
 have e:=cS.1 h.2
 have:=uC s hl
 rw [e] at this
 exact this
theorem uM (k:Nat) (s p:ByteArray):iB.f k s p=some (bif qp s p then ByteArray.extract s p.size s.size else s,(qp s p,())):=by
 unfold iB.f Go.Lib.trimPrefix
 rw [Jn]
 cases qp s p with
 | false=>rfl
 | true =>
  have:(⟨(if true=true then List.drop p.data.toList.length s.data.toList else s.data.toList).toArray⟩:ByteArray)=ByteArray.extract s p.size s.size:=by
   rw [if_pos rfl]
   apply kt
   rw [jC]
   unfold nb
   rw [List.toList_toArray,List.map_drop,Array.length_toList]
   rfl
  rw [this]
  rfl
def pW (l:List Int) (x:Int):Bool:=l.any fun y=>y==x
end Go.Proofs.YtgnakpiicdfpkaaGreatDoor.G

/- V: plain laws for rows that are marked, and held against their marks. -/
import Derived.Test.YtohaanhjddohmaaGreatDoorVPure
namespace Go.V
def JZ:Nat→Int→ByteArray→ByteArray
 | 0,_,s=>(⟨#[109]⟩:ByteArray)++s
 | d+1,a,s=>if a > 0 then JZ d (Int.tdiv a 10) (bytesOf [IntKind.wrap .u8 (aH (48+Int.tmod a 10))]++s) else (⟨#[109]⟩:ByteArray)++s
def mt (a:Int):ByteArray:=if a≤0 then ⟨#[109,48]⟩ else JZ 20 a ⟨#[]⟩
theorem Ff {l:Nat→Nat→Int→ByteArray→Option (ByteArray × Unit)}
 (hl:∀ k n a s,l k (n+1) a s=bif decide (a > 0) then k_ (bytesOf [IntKind.wrap .u8 (aH (48+Int.tmod a 10))]) s (l k n (aH (Int.tdiv a 10)) (bytesOf [IntKind.wrap .u8 (aH (48+Int.tmod a 10))]++s))
  else k_ (⟨#[109]⟩:ByteArray) s (some ((⟨#[109]⟩:ByteArray)++s,()))) :
 ∀ (d:Nat) (a:Int) (s:ByteArray),0≤a→a<10 ^ d→d≤18→s.size+d≤1000→∀ e,d≤e→o8 (fun k n=>l k n a s) (JZ e a s,())
 | 0,a,s,h0,h1,hd,hs,e,he=>by
  refine o8.step (fun k n=>hl k n a s) (o8.of fun k n=>?_)
  have:¬ a > 0:=by omega
  rw [decide_eq_false this,cond_false,zY (by have:(⟨#[109]⟩:ByteArray).size=1:=rfl;omega)]
  cases e with
  | zero=>rfl
  | succ e=>simp only [JZ,if_neg this]
 | d+1,a,s,h0,h1,hd,hs,e,he=>by
  obtain ⟨e,rfl⟩:∃ m,e=m+1:=⟨e-1,by omega⟩
  refine o8.step (fun k n=>hl k n a s) ?_
  by_cases hp:a > 0
  · have hsz:(bytesOf [IntKind.wrap .u8 (aH (48+Int.tmod a 10))]).size=1:=rfl
    have ha:a<1000000000000000000:=Int.lt_of_lt_of_le h1 (by
     have h2:(10:Nat) ^ (d+1)≤1000000000000000000:=Nat.le_trans (Nat.pow_le_pow_right (by decide) (show d+1≤18 by omega)) (by decide)
     have h3:((10 ^ (d+1):Nat):Int)≤((1000000000000000000:Nat):Int):=Int.ofNat_le.2 h2
     rw [Int.natCast_pow] at h3
     exact h3)
    have hq:Int.tdiv a 10=a/10:=Int.tdiv_eq_ediv_of_nonneg h0
    have hw:aH (Int.tdiv a 10)=Int.tdiv a 10:=aC (by omega) (by omega)
    simp only [decide_eq_true hp,cond_true,hw,JZ,if_pos hp]
    refine o8.eq ?_ (fun k n=>zY (by omega))
    refine Ff hl d _ _ (by omega) ?_ (by omega) (by rw [ByteArray.size_append,hsz];omega) e (by omega)
    rw [hq]
    have:(10:Int) ^ (d+1)=10 ^ d*10:=Int.pow_succ ..
    omega
  · simp only [decide_eq_false hp,cond_false,JZ,if_neg hp]
    exact o8.of fun k n=>zY (by have:(⟨#[109]⟩:ByteArray).size=1:=rfl;omega)
theorem KI {l:Nat→Nat→Int→ByteArray→Option (ByteArray × Unit)} {g:Nat→Option (ByteArray × Unit)} {a:Int}
 (hl:∀ k n a s,l k (n+1) a s=bif decide (a > 0) then k_ (bytesOf [IntKind.wrap .u8 (aH (48+Int.tmod a 10))]) s (l k n (aH (Int.tdiv a 10)) (bytesOf [IntKind.wrap .u8 (aH (48+Int.tmod a 10))]++s))
  else k_ (⟨#[109]⟩:ByteArray) s (some ((⟨#[109]⟩:ByteArray)++s,())))
 (hg:∀ k,g k=bif decide (a≤0) then some ((⟨#[109,48]⟩:ByteArray),()) else l k k a (⟨#[]⟩:ByteArray)) (h1:a≤1125899906842624):Ev g (mt a,()):=by
 refine Ev.eq ?_ hg
 unfold mt
 by_cases h:a≤0
 · rw [if_pos h]
   exact Ev.of fun k=>by rw [decide_eq_true h,cond_true]
 · rw [if_neg h]
   simp only [decide_eq_false h,cond_false]
   exact (Ff hl 18 a ⟨#[]⟩ (by omega) (by omega) (by omega) (by decide) 20 (by omega)).diag
section
variable {t:Ty}
def Hy (M:Int→t.den→t.den) (c:Nat):Nat→Nat→Int→List t.den→List t.den
 | 0,_,_,xs=>xs
 | d+1,i,kk,xs=>Hy M c d (i+1) (kk+c) (xs.set i (M kk (xs.getD i t.dflt)))
theorem AH {M:Int→t.den→t.den} {c:Nat}:∀ {d i:Nat} {kk:Int} {xs:List t.den},(Hy M c d i kk xs).length=xs.length
 | 0,_,_,_=>rfl
 | d+1,i,kk,xs=>by simp only [Hy];rw [AH,List.length_set]
theorem sG {xs:List t.den} {i j:Nat} {y z:t.den}:(xs.set i y).getD j z=if i=j∧j<xs.length then y else xs.getD j z:=by
 simp only [List.getD,List.getElem?_set]
 by_cases h:i=j
 · subst h
   by_cases q:i<xs.length
   · simp [q]
   · simp [q]
 · simp [h]
theorem H9 {xs:List t.den} {i:Nat} {y z:t.den} (h:i<xs.length):(xs.set i y).getD i z=y:=by rw [sG,if_pos ⟨rfl,h⟩]
theorem Dr {M:Int→t.den→t.den} {c:Nat}:∀ {d i:Nat} {kk:Int} {xs:List t.den} {j:Nat},i+d≤xs.length→(Hy M c d i kk xs).getD j t.dflt=if i≤j∧j<i+d then M (kk+c*((j-i:Nat):Int)) (xs.getD j t.dflt) else xs.getD j t.dflt
 | 0,i,kk,xs,j,h=>by
  rw [if_neg (by omega)];rfl
 | d+1,i,kk,xs,j,h=>by
  simp only [Hy]
  rw [Dr (by rw [List.length_set];omega),sG]
  by_cases q:i=j
  · subst q
    rw [if_neg (by omega),if_pos ⟨rfl,by omega⟩,if_pos ⟨Nat.le_refl _,by omega⟩,Nat.sub_self]
    simp
  · rw [if_neg (by omega:¬ (i=j∧j<xs.length))]
    by_cases q2:i≤j∧j<i+(d+1)
    · rw [if_pos (by omega),if_pos q2]
      congr 1
      have:((j-i:Nat):Int)=((j-(i+1):Nat):Int)+1:=by omega
      rw [this,Int.mul_add]
      omega
    · rw [if_neg (by omega),if_neg q2]
theorem Gq {l:Nat→Nat→Int→Int→List t.den→Option (List t.den × Int × Unit)} {M:Int→t.den→t.den} {c:Nat}
 (hround:∀ (kk:Int) (i:Nat) (xs:List t.den),i<xs.length→xs.length≤4398046511104→0≤kk→kk≤562949953421312→∀ r,o8 (fun k n=>l k n (kk+c) ((i+1:Nat):Int) (xs.set i (M kk (xs.getD i t.dflt)))) r→o8 (fun k n=>l k n kk (i:Int) xs) r)
 (hend:∀ (kk:Int) (i:Nat) (xs:List t.den),xs.length≤i→o8 (fun k n=>l k n kk (i:Int) xs) (xs,(kk,()))) :
 ∀ (d i:Nat) (kk:Int) (xs:List t.den),xs.length-i=d→i≤xs.length→xs.length≤4398046511104→0≤kk→kk+c*d≤562949953421312→o8 (fun k n=>l k n kk (i:Int) xs) (Hy M c d i kk xs,(kk+c*d,()))
 | 0,i,kk,xs,hd,hi,hl,h0,h1=>by
  have:=hend kk i xs (by omega)
  simpa [Hy] using this
 | d+1,i,kk,xs,hd,hi,hl,h0,h1=>by
  have e:((d+1:Nat):Int)=(d:Int)+1:=rfl
  rw [e,Int.mul_add] at h1
  have hcd:(0:Int)≤c*(d:Int):=Int.mul_nonneg (by omega) (by omega)
  refine hround kk i xs (by omega) hl h0 (by omega) _ ?_
  have ih:=Gq hround hend d (i+1) (kk+c) (xs.set i (M kk (xs.getD i t.dflt))) (by rw [List.length_set];omega) (by rw [List.length_set];omega) (by rw [List.length_set];omega) (by omega) (by omega)
  simp only [Hy]
  rw [show kk+c*(((d+1:Nat):Int))=kk+c+c*(d:Int) by rw [e,Int.mul_add];omega]
  exact ih
theorem Gh {l:Nat→Nat→List t.den→Int→Int→Option (Int × Unit)} {M:Int→t.den→t.den} {c:Nat} {xs:List t.den} (hl:xs.length≤4398046511104)
 (hround:∀ (kk:Int) (i:Nat),i<xs.length→0≤kk→kk≤562949953421312→(∃ y,xs.getD i t.dflt=M kk y)→∀ r,o8 (fun k n=>l k n xs (kk+c) ((i+1:Nat):Int)) r→o8 (fun k n=>l k n xs kk (i:Int)) r)
 (hend:∀ (kk:Int) (i:Nat),xs.length≤i→o8 (fun k n=>l k n xs kk (i:Int)) (kk,())) :
 ∀ (d i:Nat) (kk:Int),xs.length-i=d→i≤xs.length→0≤kk→kk+c*d≤562949953421312→(∀ j,i≤j→j<xs.length→∃ y,xs.getD j t.dflt=M (kk+c*((j-i:Nat):Int)) y) →
  o8 (fun k n=>l k n xs kk (i:Int)) (kk+c*d,())
 | 0,i,kk,hd,hi,h0,h1,hM=>by
  have:=hend kk i (by omega)
  simpa using this
 | d+1,i,kk,hd,hi,h0,h1,hM=>by
  have e:((d+1:Nat):Int)=(d:Int)+1:=rfl
  rw [e,Int.mul_add] at h1
  have hcd:(0:Int)≤c*(d:Int):=Int.mul_nonneg (by omega) (by omega)
  refine hround kk i (by omega) h0 (by omega) (by simpa using hM i (Nat.le_refl _) (by omega)) _ ?_
  have ih:=Gh hl hround hend d (i+1) (kk+c) (by omega) (by omega) (by omega) (by omega) fun j h2 h3=>by
   obtain ⟨y,hy⟩:=hM j (by omega) h3
   refine ⟨y,?_⟩
   rw [hy]
   congr 1
   have:((j-i:Nat):Int)=((j-(i+1):Nat):Int)+1:=by omega
   rw [this,Int.mul_add]
   omega
  rw [show kk+c*(((d+1:Nat):Int))=kk+c+c*(d:Int) by rw [e,Int.mul_add];omega]
  exact ih
def zW (M:Int→t.den→t.den) (c:Nat) (kk:Int) (xs:List t.den):List t.den:=Hy M c xs.length 0 kk xs
theorem IJ {M:Int→t.den→t.den} {c:Nat} {kk:Int} {xs:List t.den}:∀ j,0≤j→j<(zW M c kk xs).length→∃ y,(zW M c kk xs).getD j t.dflt=M (kk+c*((j-0:Nat):Int)) y:=fun j _ h=>by
 unfold zW at h ⊢
 rw [AH] at h
 exact ⟨_,by rw [Dr (by omega),if_pos ⟨Nat.zero_le _,by omega⟩]⟩
theorem Ir {M:Int→t.den→t.den} {c:Nat} {kk:Int} {xs:List t.den}:(zW M c kk xs).length=xs.length:=AH
end
end Go.V

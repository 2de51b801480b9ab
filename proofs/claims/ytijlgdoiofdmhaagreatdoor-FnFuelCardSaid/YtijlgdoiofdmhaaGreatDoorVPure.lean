/- V: plain laws for printed functions: rounds enough, texts, rows that are copied, weighed and compared. -/
import Derived.Test.YtijlgdoiofdmhaaGreatDoorVWords
import Derived.Laws.Strings
namespace Go.V
def Ev {α:Type} (g:Nat→Option α) (r:α):Prop:=∃ K,∀ k,K≤k→g k=some r
def qb {α:Type} (g:Nat→Nat→Option α) (r:α):Prop:=∃ K,∀ k n,K≤k→K≤n→g k n=some r
section
variable {α β:Type}
theorem Ev.of {g:Nat→Option α} {r:α} (h:∀ k,g k=some r):Ev g r:=⟨0,fun k _=>h k⟩
theorem Ev.bind {g:Nat→Option α} {r:α} {h:Nat→α→Option β} {s:β} (h1:Ev g r) (h2:Ev (fun k=>h k r) s):Ev (fun k=>(g k).bind (h k)) s:=by
 obtain ⟨a,ha⟩:=h1
 obtain ⟨b,hb⟩:=h2
 exact ⟨max a b,fun k hk=>by show (g k).bind (h k)=_;rw [ha k (by omega),Option.bind_some];exact hb k (by omega)⟩
theorem Ev.eq {g g':Nat→Option α} {r:α} (h:Ev g r) (e:∀ k,g' k=g k):Ev g' r:=by
 obtain ⟨a,ha⟩:=h
 exact ⟨a,fun k hk=>(e k).trans (ha k hk)⟩
theorem Ev.some {g:Nat→Option α} {r:α} (h:Ev g r):∃ k,g k=some r:=by
 obtain ⟨a,ha⟩:=h
 exact ⟨a,ha a (Nat.le_refl _)⟩
theorem qb.of {g:Nat→Nat→Option α} {r:α} (h:∀ k n,g k n=some r):qb g r:=⟨0,fun k n _ _=>h k n⟩
theorem qb.eq {g g':Nat→Nat→Option α} {r:α} (h:qb g r) (e:∀ k n,g' k n=g k n):qb g' r:=by
 obtain ⟨a,ha⟩:=h
 exact ⟨a,fun k n hk hn=>(e k n).trans (ha k n hk hn)⟩
theorem qb.bind {g:Nat→Option α} {r:α} {h:Nat→Nat→α→Option β} {s:β} (h1:Ev g r) (h2:qb (fun k n=>h k n r) s):qb (fun k n=>(g k).bind (h k n)) s:=by
 obtain ⟨a,ha⟩:=h1
 obtain ⟨b,hb⟩:=h2
 exact ⟨max a b,fun k n hk hn=>by show (g k).bind (h k n)=_;rw [ha k (by omega),Option.bind_some];exact hb k n (by omega) (by omega)⟩
theorem qb.step {l b:Nat→Nat→Option α} {r:α} (e:∀ k n,l k (n+1)=b k n) (h:qb b r):qb l r:=by
 obtain ⟨a,ha⟩:=h
 refine ⟨a+1,fun k n hk hn=>?_⟩
 obtain ⟨m,rfl⟩:∃ m,n=m+1:=⟨n-1,by omega⟩
 rw [e]
 exact ha k m (by omega) (by omega)
end
theorem dT {a b:ByteArray}:seq a b=true↔a=b:=by
 unfold seq
 rw [beq_iff_eq,ByteArray.toList_eq,ByteArray.toList_eq]
 constructor
 · intro h;cases a;cases b;simp at h;rw [h]
 · rintro rfl;rfl
theorem cZ (a:ByteArray):seq a a=true:=dT.2 rfl
theorem Al:∀ a b:List UInt8,(Op.bytesLess a b||a==b)=!(Op.bytesLess b a)
 | [],[]=>rfl
 | [],_::_=>by simp [Op.bytesLess]
 | _::_,[]=>by simp [Op.bytesLess]
 | a::x,b::y=>by
  simp only [Op.bytesLess]
  have ih:=Al x y
  rcases Nat.lt_trichotomy a.toNat b.toNat with h | h | h
  · have h1:a<b:=by simpa [UInt8.lt_iff_toNat_lt] using h
    have h2:¬ b<a:=by simp [UInt8.lt_iff_toNat_lt];omega
    have h3:(b==a)=false:=by rw [beq_eq_false_iff_ne];rintro rfl;omega
    simp [h1,h2,h3]
  · have h1:a=b:=UInt8.toNat_inj.1 h
    subst h1
    have h2:¬ a<a:=by simp
    simpa [h2] using ih
  · have h1:b<a:=by simpa [UInt8.lt_iff_toNat_lt] using h
    have h2:¬ a<b:=by simp [UInt8.lt_iff_toNat_lt];omega
    have h3:(a==b)=false:=by rw [beq_eq_false_iff_ne];rintro rfl;omega
    simp [h1,h2,h3]
theorem nk (a b:ByteArray):(ox a b||seq a b)=!(ox b a):=Al a.toList b.toList
def sz (w:Nat) (left:Int):Int:=if left-w<0 then -1 else left-w
section
variable {t:Ty}
theorem fv {α:Type} {l:List α} {i:Nat} {z:α} (h:i<l.length):l.getD i z ∈ l:=by
 simp only [List.getD,List.getElem?_eq_getElem h,Option.getD_some]
 exact List.getElem_mem h
theorem toNat_ofNat (i:Nat):Int.toNat (i:Int)=i:=Int.toNat_natCast i
def wp:(t:Ty)→t.d→Nat
 | .slice e,l=>l.length+(l.map (wp e)).sum
 | .pair a b,x=>wp a x.1+wp b x.2
 | _,_=>0
def flat:Ty→Bool
 | .slice _=>false
 | .pair a b=>flat a&&flat b
 | _=>true
end
section
variable {α:Type} {r:α}
theorem Ev.skip {a:Int} {x y:Nat→Option α} (h:0≤a) (hy:Ev y r):Ev (fun k=>bif decide (a<0) then x k else y k) r :=
 hy.eq fun k=>by rw [decide_eq_false (by omega),cond_false]
end
end Go.V

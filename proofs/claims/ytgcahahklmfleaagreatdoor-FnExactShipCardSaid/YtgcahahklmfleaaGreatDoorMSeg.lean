/- M: SegBytes: what it answers, in both readings. -/
import Derived.Test.YtgcahahklmfleaaGreatDoorMDisk
set_option linter.unusedVariables false
set_option linter.unusedSimpArgs false
namespace Go.Proofs.YtgcahahklmfleaaGreatDoor.G
open Go.V
/-- The bytes of the first of a store's segments. -/
def segSum (d : Ty.den TDisk) : Nat → List Int → Nat
  | 0, _ => 0
  | _ + 1, [] => 0
  | n + 1, x :: l => (textM d (namedM segB x)).1.size + segSum d n l
theorem specSegBytes_eq {k : Nat} (hk : 2 ^ 50 ≤ k) {st : Ty.den TStore} {d : Ty.den TDisk} (hi : st.1.2.1.length ≤ 1099511627776) (hl : d.1.length ≤ 1099511627776) (hu : used d.1 ≤ 1099511627776) (hn : names d.1 ≤ 1099511627776) :
    spec_SegBytes.f k st d = some ((segSum d 60 st.1.2.1 : Int), ()) := by
  unfold spec_SegBytes.f spec_SegBytes.t
  refine (forL0 (L := fun n i (s : Int × Nat) => spec_SegBytes.l0 k n s.1 i st.1.1 st.1.2.1 st.2.1 st.2.2.1 st.2.2.2.1 st.2.2.2.2.1 d.1 d.2.1 d.2.2.1 d.2.2.2.1) (R := fun r s => some (s.1 + (segSum d (60 - s.2) r : Int), ())) (Ty.dflt (.int .i64)) st.1.2.1
    (fun i s => (s.2 : Int) = i ∧ 0 ≤ s.1 ∧ s.1 ≤ i * 1099511627776) (fun n s hs => ?_) (fun n i s x rest h0 h1 hx hr hp ih => ?_) (n := k) (s := (0, 0)) (by omega) ⟨rfl, by simp, by simp⟩).trans (by simp)
  · simp (disch := omega) only [spec_SegBytes.l0, spec_SegBytes.b0, decF, cond_false]
    cases 60 - s.2 <;> simp [segSum]
  · obtain ⟨s, j⟩ := s
    obtain ⟨g0, g1, g2⟩ := hp
    simp only [] at g0 g1 g2 ih ⊢
    by_cases c : i < 60
    · have ht := specText_eq hk (d := d) hl hu hn (namedM segB x)
      have hz := textM_size d (namedM segB x)
      have ih := ih (s + ((textM d (namedM segB x)).1.size : Int), j + 1) ⟨by omega, by simp only []; omega, by simp only []; omega⟩
      simp only [] at ih
      simp (disch := omega) only [spec_SegBytes.l0, spec_SegBytes.b0, decT h1, decT c, cond_true, inb_eq, hx, specSegName_eq hk, Option.bind_some, ht, w64_eq, ih]
      rw [show 60 - j = (60 - (j + 1)) + 1 by omega, segSum]
      congr 2
      omega
    · simp (disch := omega) only [spec_SegBytes.l0, spec_SegBytes.b0, decT h1, decF c, cond_true, cond_false]
      rw [show 60 - j = 0 by omega]
      simp [segSum]
theorem implSegBytes_eq {k : Nat} (hk : 2 ^ 50 ≤ k) {st : Ty.den TStore} {d : Ty.den TDisk} (hi : st.1.2.1.length ≤ 1048576) (hl : d.1.length ≤ 1099511627776) (hu : used d.1 ≤ 1099511627776) (hn : names d.1 ≤ 1099511627776) :
    impl_SegBytes.f k st d = some ((segSum d 60 st.1.2.1 : Int), ()) := by
  unfold impl_SegBytes.f impl_SegBytes.t
  refine (forL0 (L := fun n i (s : Int × Nat) => impl_SegBytes.l0 k n s.1 st.1.2.1 st.1.2.1.length i d.1 d.2.1 d.2.2.1 d.2.2.2.1) (R := fun r s => some (s.1 + (segSum d (60 - s.2) r : Int), ())) (Ty.dflt (.int .i64)) st.1.2.1
    (fun i s => (s.2 : Int) = i ∧ 0 ≤ s.1 ∧ s.1 ≤ i * 1099511627776) (fun n s hs => ?_) (fun n i s x rest h0 h1 hx hr hp ih => ?_) (n := k) (s := (0, 0)) (by omega) ⟨rfl, by simp, by simp⟩).trans (by simp)
  · simp (disch := omega) only [impl_SegBytes.l0, impl_SegBytes.b0, decF, cond_false]
    cases 60 - s.2 <;> simp [segSum]
  · obtain ⟨s, j⟩ := s
    obtain ⟨g0, g1, g2⟩ := hp
    simp only [] at g0 g1 g2 ih ⊢
    by_cases c : i < 60
    · have ht := implText_eq hk (d := d) hl hu hn (namedM segB x)
      have hz := textM_size d (namedM segB x)
      have ih := ih (s + ((textM d (namedM segB x)).1.size : Int), j + 1) ⟨by omega, by simp only []; omega, by simp only []; omega⟩
      simp only [] at ih
      simp (disch := omega) only [impl_SegBytes.l0, impl_SegBytes.b0, decT h1, decT c, cond_true, inb_eq, hx, implSegName_eq k, Option.bind_some, ht, w64_eq, ih]
      rw [show 60 - j = (60 - (j + 1)) + 1 by omega, segSum]
      congr 2
      omega
    · have ih := ih (s, j + 1) ⟨by omega, by simp only []; omega, by simp only []; omega⟩
      simp only [] at ih
      simp (disch := omega) only [impl_SegBytes.l0, impl_SegBytes.b0, decT h1, decF c, cond_true, cond_false, inb_eq, w64_eq, ih]
      rw [show 60 - j = 0 by omega, show 60 - (j + 1) = 0 by omega]
      simp [segSum]
theorem store_weight {st : Ty.den TStore} (h : weight TStore st ≤ 1048576) : st.1.2.1.length ≤ 1048576 ∧ st.2.1.length ≤ 1048576 := by
  have hw : weight TStore st = (0 + (weight (.slice (.int .i64)) st.1.2.1 + 0)) + (weight (.slice TEntry) st.2.1 + (0 + (0 + (0 + 0)))) := rfl
  exact ⟨weight_len (t := .int .i64) (l := st.1.2.1) (by omega), weight_len (t := TEntry) (l := st.2.1) (by omega)⟩
end Go.Proofs.YtgcahahklmfleaaGreatDoor.G

/- The plain law of RangeOf and Page: both readings answer alike. -/
import Derived.Test.YtlbpalfjmjmimaaEQ2
set_option linter.unusedVariables false
set_option linter.unusedSimpArgs false
namespace Go.Proofs.Ytlbpalfjmjmimaa.G
open Go.V
theorem up64 {i : Nat} (h : i ≤ 4398046511104) : w64 ((i : Int) + 1) = ((i + 1 : Nat) : Int) := by rw [w64_eq (by omega) (by omega)]; rfl
theorem rangeL {a0 : List (Ty.den TEntry)} {a1 a2 : ByteArray} (hl : a0.length ≤ 1048576) : ∀ (d i : Nat) (out : List ByteArray), a0.length - i = d → i ≤ a0.length → out.length ≤ i →
    ∃ r, Ev2 (fun k n => spec_RangeOf.l0 k n a0 a1 a2 (i : Int) out) r ∧ Ev2 (fun k n => impl_RangeOf.l0 k n a1 a2 a0 (a0.length : Int) (i : Int) out) r ∧ r.1.length ≤ 1048576
  | 0, i, out, hd, hi, ho => by
    have h2 : ¬ ((i : Int) < (a0.length : Int)) := by omega
    refine ⟨(out, ()), Ev2.step (fun k n => rfl) ?_, Ev2.step (fun k n => rfl) ?_, by show out.length ≤ _; omega⟩
    · simp only [spec_RangeOf.l0, spec_RangeOf.b0, decide_eq_false h2, cond_false]
      exact Ev2.of fun _ _ => rfl
    · simp only [impl_RangeOf.l0, impl_RangeOf.b0, decide_eq_false h2, cond_false]
      exact Ev2.of fun _ _ => rfl
  | d + 1, i, out, hd, hi, ho => by
    have h2 : ((i : Int) < (a0.length : Int)) := by omega
    have hr : (out.length + 1) * Ty.bytes .str ≤ 140737488355328 := by have : Ty.bytes .str = 16 := rfl; rw [this]; omega
    have h0 := Int.natCast_nonneg i
    obtain ⟨r1, s1, i1, b1⟩ := rangeL (a1 := a1) (a2 := a2) hl d (i + 1) out (by omega) (by omega) (by omega)
    obtain ⟨r2, s2, i2, b2⟩ := rangeL (a1 := a1) (a2 := a2) hl d (i + 1) (out ++ [(a0.getD i (Ty.dflt TEntry)).1]) (by omega) (by omega) (by rw [List.length_append]; show _ + 1 ≤ _; omega)
    have main : ∀ r, (Ev2 (fun k n => spec_RangeOf.b0 k (spec_RangeOf.l0 k n) a0 a1 a2 (i : Int) out) r ∧ Ev2 (fun k n => impl_RangeOf.b0 k (impl_RangeOf.l0 k n) a1 a2 a0 (a0.length : Int) (i : Int) out) r ∧ r.1.length ≤ 1048576) →
      ∃ r, Ev2 (fun k n => spec_RangeOf.l0 k n a0 a1 a2 (i : Int) out) r ∧ Ev2 (fun k n => impl_RangeOf.l0 k n a1 a2 a0 (a0.length : Int) (i : Int) out) r ∧ r.1.length ≤ 1048576 :=
      fun r h => ⟨r, Ev2.step (fun k n => rfl) h.1, Ev2.step (fun k n => rfl) h.2.1, h.2.2⟩
    unfold spec_RangeOf.b0 impl_RangeOf.b0 at main
    simp only [decide_eq_true h2, cond_true, inb_eq h0 h2, toNat_ofNat, up64 (show i ≤ 4398046511104 by omega), rm_eq hr (show out.length + 1 ≤ 140737488355328 by omega)] at main
    cases c1 : sls (a0.getD i (Ty.dflt TEntry)).1 a1 <;> cases c2 : seq a2 ⟨#[]⟩ <;> cases c3 : sls (a0.getD i (Ty.dflt TEntry)).1 a2 <;> simp only [c1, c2, c3, Bool.not_true, Bool.not_false, cond_true, cond_false] at main <;>
      first | exact main r1 ⟨s1, i1, b1⟩ | exact main r2 ⟨s2, i2, b2⟩
theorem core_FnExactRangeOf {a0 : List (Ty.den TEntry)} {a1 a2 : ByteArray} (f0 : Wf (.slice TEntry) a0) (f1 : Wf .str a1) (f2 : Wf .str a2) (w0 : weight (.slice TEntry) a0 ≤ 1048576) (w1 : a1.size ≤ 1048576) (w2 : a2.size ≤ 1048576) :
    ∃ r, Ev (fun k => spec_RangeOf.f k a0 a1 a2) r ∧ Ev (fun k => impl_RangeOf.f k a0 a1 a2) r ∧ wp (.slice .str) r.1 ≤ 4398046511104 := by
  obtain ⟨r, h1, h2, h3⟩ := rangeL (a1 := a1) (a2 := a2) (weight_len w0) a0.length 0 [] (by omega) (by omega) (by decide)
  exact ⟨r, h1.diag, h2.diag, by rw [wp_flatS (t := .str) rfl]; omega⟩
theorem pageL {a0 : List (Ty.den TEntry)} {a1 : ByteArray} {m : Int} (hl : a0.length ≤ 1048576) : ∀ (d i : Nat) (nx : ByteArray) (out : List ByteArray), a0.length - i = d → i ≤ a0.length → out.length ≤ i →
    ∃ r, Ev2 (fun k n => spec_Page.l0 k n a0 a1 m nx (i : Int) out) r ∧ Ev2 (fun k n => impl_Page.l0 k n a1 m nx a0 (a0.length : Int) (i : Int) out) r ∧ r.1.length ≤ a0.length
  | 0, i, nx, out, hd, hi, ho => by
    have h2 : ¬ ((i : Int) < (a0.length : Int)) := by omega
    refine ⟨(out, (nx, ())), Ev2.step (fun k n => rfl) ?_, Ev2.step (fun k n => rfl) ?_, by show out.length ≤ _; omega⟩
    · simp only [spec_Page.l0, spec_Page.b0, decide_eq_false h2, cond_false]
      exact Ev2.of fun _ _ => rfl
    · simp only [impl_Page.l0, impl_Page.b0, decide_eq_false h2, cond_false]
      exact Ev2.of fun _ _ => rfl
  | d + 1, i, nx, out, hd, hi, ho => by
    have h2 : ((i : Int) < (a0.length : Int)) := by omega
    have hr : (out.length + 1) * Ty.bytes .str ≤ 140737488355328 := by have : Ty.bytes .str = 16 := rfl; rw [this]; omega
    have h0 := Int.natCast_nonneg i
    obtain ⟨r1, s1, i1, b1⟩ := pageL (a1 := a1) (m := m) hl d (i + 1) nx out (by omega) (by omega) (by omega)
    obtain ⟨r2, s2, i2, b2⟩ := pageL (a1 := a1) (m := m) hl d (i + 1) (a0.getD i (Ty.dflt TEntry)).1 (out ++ [(a0.getD i (Ty.dflt TEntry)).1]) (by omega) (by omega) (by rw [List.length_append]; show _ + 1 ≤ _; omega)
    have main : ∀ r, (Ev2 (fun k n => spec_Page.b0 k (spec_Page.l0 k n) a0 a1 m nx (i : Int) out) r ∧ Ev2 (fun k n => impl_Page.b0 k (impl_Page.l0 k n) a1 m nx a0 (a0.length : Int) (i : Int) out) r ∧ r.1.length ≤ a0.length) →
      ∃ r, Ev2 (fun k n => spec_Page.l0 k n a0 a1 m nx (i : Int) out) r ∧ Ev2 (fun k n => impl_Page.l0 k n a1 m nx a0 (a0.length : Int) (i : Int) out) r ∧ r.1.length ≤ a0.length :=
      fun r h => ⟨r, Ev2.step (fun k n => rfl) h.1, Ev2.step (fun k n => rfl) h.2.1, h.2.2⟩
    unfold spec_Page.b0 impl_Page.b0 at main
    simp only [decide_eq_true h2, cond_true, inb_eq h0 h2, toNat_ofNat, up64 (show i ≤ 4398046511104 by omega), rm_eq hr (show out.length + 1 ≤ 140737488355328 by omega)] at main
    cases c1 : (sls (a0.getD i (Ty.dflt TEntry)).1 a1 || seq (a0.getD i (Ty.dflt TEntry)).1 a1) <;> cases c2 : decide ((out.length : Int) < m) <;> simp only [c1, c2, Bool.not_true, Bool.not_false, cond_true, cond_false] at main <;>
      first | exact main r1 ⟨s1, i1, b1⟩ | exact main r2 ⟨s2, i2, b2⟩
theorem page_ev {a0 : List (Ty.den TEntry)} (a1 : ByteArray) (m : Int) (hl : a0.length ≤ 1048576) : ∃ r, Ev (fun k => spec_Page.f k a0 a1 m) r ∧ Ev (fun k => impl_Page.f k a0 a1 m) r ∧ r.1.length ≤ a0.length := by
  obtain ⟨r, h1, h2, h3⟩ := pageL (a1 := a1) (m := m) hl a0.length 0 ⟨#[]⟩ [] (by omega) (by omega) (by decide)
  exact ⟨r, h1.diag, h2.diag, h3⟩
theorem core_FnExactPage {a0 : List (Ty.den TEntry)} {a1 : ByteArray} {a2 : Int} (f0 : Wf (.slice TEntry) a0) (f1 : Wf .str a1) (f2 : Wf (.int .i64) a2) (w0 : weight (.slice TEntry) a0 ≤ 1048576) (w1 : a1.size ≤ 1048576) :
    ∃ r, Ev (fun k => spec_Page.f k a0 a1 a2) r ∧ Ev (fun k => impl_Page.f k a0 a1 a2) r ∧ wp (.slice .str) r.1 ≤ 4398046511104 := by
  have hl := weight_len w0
  obtain ⟨r, h1, h2, h3⟩ := page_ev (a0 := a0) a1 a2 hl
  exact ⟨r, h1, h2, by rw [wp_flatS (t := .str) rfl]; omega⟩
end Go.Proofs.Ytlbpalfjmjmimaa.G

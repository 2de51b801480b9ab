/- The plain law of Diff: both readings answer alike. -/
import Derived.Test.YtlbpalfjmjmimaaCoRange
set_option linter.unusedVariables false
set_option linter.unusedSimpArgs false
namespace Go.Proofs.Ytlbpalfjmjmimaa.G
open Go.V
theorem Ev2.one {α : Type} {g : Nat → Option α} {r : α} (h : Ev g r) : Ev2 (fun k _ => g k) r := by
  obtain ⟨a, ha⟩ := h
  exact ⟨a, fun k n hk _ => ha k hk⟩
theorem findL {a : List (Ty.den TPair)} {key z1 z2 : ByteArray} {z3 : Int} (hl : a.length ≤ 1048576) : ∀ (d i : Nat), a.length - i = d → i ≤ a.length →
    ∃ rs ri, Ev2 (fun k n => spec_l17Find.l0 k n a key (i : Int) z1 z2 z3) rs ∧ Ev2 (fun k n => impl_pairAt.l0 k n key a (a.length : Int) (i : Int) z1 z2 z3) ri ∧ (rs.2.1 != 0) = (!ri.2.1) ∧ rs.1.2.1 = ri.1.2.1
  | 0, i, hd, hi => by
    have h2 : ¬ ((i : Int) < (a.length : Int)) := by omega
    refine ⟨_, _, Ev2.step (b := fun k n => spec_l17Find.b0 k (spec_l17Find.l0 k n) a key (i : Int) z1 z2 z3) (fun k n => rfl) (r := ((ByteArray.empty, (ByteArray.empty, (0, ()))), (8, ()))) ?_,
      Ev2.step (b := fun k n => impl_pairAt.b0 k (impl_pairAt.l0 k n) key a (a.length : Int) (i : Int) z1 z2 z3) (fun k n => rfl) (r := ((ByteArray.empty, (ByteArray.empty, (0, ()))), (false, ()))) ?_, by decide, rfl⟩
    · unfold spec_l17Find.b0
      simp only [decide_eq_false h2, cond_false]
      exact Ev2.of fun _ _ => rfl
    · unfold impl_pairAt.b0
      simp only [decide_eq_false h2, cond_false]
      exact Ev2.of fun _ _ => rfl
  | d + 1, i, hd, hi => by
    have h2 : ((i : Int) < (a.length : Int)) := by omega
    have h0 := Int.natCast_nonneg i
    obtain ⟨rs, ri, s1, s2, s3, s4⟩ := findL (a := a) (key := key) (z1 := z1) (z2 := z2) (z3 := z3) hl d (i + 1) (by omega) (by omega)
    have main : ∀ rs ri, (Ev2 (fun k n => spec_l17Find.b0 k (spec_l17Find.l0 k n) a key (i : Int) z1 z2 z3) rs ∧ Ev2 (fun k n => impl_pairAt.b0 k (impl_pairAt.l0 k n) key a (a.length : Int) (i : Int) z1 z2 z3) ri ∧ (rs.2.1 != 0) = (!ri.2.1) ∧ rs.1.2.1 = ri.1.2.1) →
      ∃ rs ri, Ev2 (fun k n => spec_l17Find.l0 k n a key (i : Int) z1 z2 z3) rs ∧ Ev2 (fun k n => impl_pairAt.l0 k n key a (a.length : Int) (i : Int) z1 z2 z3) ri ∧ (rs.2.1 != 0) = (!ri.2.1) ∧ rs.1.2.1 = ri.1.2.1 :=
      fun rs ri h => ⟨rs, ri, Ev2.step (fun k n => rfl) h.1, Ev2.step (fun k n => rfl) h.2.1, h.2.2⟩
    unfold spec_l17Find.b0 impl_pairAt.b0 at main
    simp only [decide_eq_true h2, cond_true, inb_eq h0 h2, toNat_ofNat, up64 (show i ≤ 4398046511104 by omega)] at main
    cases c1 : seq (a.getD i (Ty.dflt TPair)).1 key <;> simp only [c1, cond_true, cond_false] at main
    · exact main rs ri ⟨s1, s2, s3, s4⟩
    · exact main (a.getD i (Ty.dflt TPair), (0, ())) (a.getD i (Ty.dflt TPair), (true, ())) ⟨Ev2.of fun _ _ => rfl, Ev2.of fun _ _ => rfl, by simp, rfl⟩
theorem find_ev (a : List (Ty.den TPair)) (key : ByteArray) (hl : a.length ≤ 1048576) : ∃ rs ri, Ev (fun k => spec_l17Find.f k a key) rs ∧ Ev (fun k => impl_pairAt.f k a key) ri ∧ (rs.2.1 != 0) = (!ri.2.1) ∧ rs.1.2.1 = ri.1.2.1 := by
  obtain ⟨rs, ri, s1, s2, s3⟩ := findL (a := a) (key := key) (z1 := ByteArray.empty) (z2 := ByteArray.empty) (z3 := 0) hl a.length 0 (by omega) (by omega)
  exact ⟨rs, ri, s1.diag, s2.diag, s3⟩
theorem diff2 {a b : List (Ty.den TPair)} (hl : a.length ≤ 1048576) (hb : b.length ≤ 1048576) : ∀ (d i : Nat) (out : List (Ty.den TPut)), b.length - i = d → i ≤ b.length → out.length ≤ i + 1048576 →
    ∃ r, Ev2 (fun k n => spec_Diff.l1 k n a b (i : Int) out) r ∧ Ev2 (fun k n => impl_Diff.l1 k n a b (b.length : Int) (i : Int) out) r ∧ r.1.length ≤ 2097152
  | 0, i, out, hd, hi, ho => by
    have h2 : ¬ ((i : Int) < (b.length : Int)) := by omega
    refine ⟨(out, ()), Ev2.step (fun k n => rfl) ?_, Ev2.step (fun k n => rfl) ?_, by show out.length ≤ _; omega⟩
    · simp only [spec_Diff.l1, spec_Diff.b1, decide_eq_false h2, cond_false]
      exact Ev2.of fun _ _ => rfl
    · simp only [impl_Diff.l1, impl_Diff.b1, decide_eq_false h2, cond_false]
      exact Ev2.of fun _ _ => rfl
  | d + 1, i, out, hd, hi, ho => by
    have h2 : ((i : Int) < (b.length : Int)) := by omega
    have hr : (out.length + 1) * Ty.bytes TPut ≤ 140737488355328 := by have : Ty.bytes TPut = 40 := rfl; rw [this]; omega
    have h0 := Int.natCast_nonneg i
    obtain ⟨rs, ri, f1, f2, f3, f4⟩ := find_ev a (b.getD i (Ty.dflt TPair)).1 hl
    obtain ⟨r1, s1, i1, b1⟩ := diff2 (a := a) hl hb d (i + 1) out (by omega) (by omega) (by omega)
    obtain ⟨r2, s2, i2, b2⟩ := diff2 (a := a) hl hb d (i + 1) (out ++ [((b.getD i (Ty.dflt TPair)).1, (false, ((b.getD i (Ty.dflt TPair)).2.1, ())))]) (by omega) (by omega) (by rw [List.length_append]; show _ + 1 ≤ _; omega)
    have main : ∀ r, (Ev2 (fun k n => spec_Diff.b1 k (spec_Diff.l1 k n) a b (i : Int) out) r ∧ Ev2 (fun k n => impl_Diff.b1 k (impl_Diff.l1 k n) a b (b.length : Int) (i : Int) out) r ∧ r.1.length ≤ 2097152) →
      ∃ r, Ev2 (fun k n => spec_Diff.l1 k n a b (i : Int) out) r ∧ Ev2 (fun k n => impl_Diff.l1 k n a b (b.length : Int) (i : Int) out) r ∧ r.1.length ≤ 2097152 :=
      fun r h => ⟨r, Ev2.step (fun k n => rfl) h.1, Ev2.step (fun k n => rfl) h.2.1, h.2.2⟩
    unfold spec_Diff.b1 impl_Diff.b1 at main
    simp only [decide_eq_true h2, cond_true, inb_eq h0 h2, toNat_ofNat, up64 (show i ≤ 4398046511104 by omega), rm_eq hr (show out.length + 1 ≤ 140737488355328 by omega)] at main
    cases c : ri.2.1
    · refine main r2 ⟨Ev2.bind f1 ?_, Ev2.bind f2 ?_, b2⟩
      · simp only [f3, c, Bool.not_false, cond_true]; exact s2
      · simp only [c, Bool.not_false, cond_true]; exact i2
    · cases q : seq ri.1.2.1 (b.getD i (Ty.dflt TPair)).2.1
      · refine main r2 ⟨Ev2.bind f1 ?_, Ev2.bind f2 ?_, b2⟩
        · simp only [f3, f4, c, q, Bool.not_false, Bool.not_true, cond_true, cond_false]; exact s2
        · simp only [c, q, Bool.not_false, Bool.not_true, cond_true, cond_false]; exact i2
      · refine main r1 ⟨Ev2.bind f1 ?_, Ev2.bind f2 ?_, b1⟩
        · simp only [f3, f4, c, q, Bool.not_false, Bool.not_true, cond_true, cond_false]; exact s1
        · simp only [c, q, Bool.not_false, Bool.not_true, cond_true, cond_false]; exact i1
theorem diff1 {a b : List (Ty.den TPair)} (hl : a.length ≤ 1048576) (hb : b.length ≤ 1048576) : ∀ (d i : Nat) (out : List (Ty.den TPut)), a.length - i = d → i ≤ a.length → out.length ≤ i →
    ∃ r, Ev2 (fun k n => spec_Diff.l0 k n a b (i : Int) out) r ∧ Ev2 (fun k n => impl_Diff.l0 k n a b a (a.length : Int) (i : Int) out) r ∧ r.1.length ≤ 2097152
  | 0, i, out, hd, hi, ho => by
    have h2 : ¬ ((i : Int) < (a.length : Int)) := by omega
    obtain ⟨r, s, t, u⟩ := diff2 (a := a) hl hb b.length 0 out (by omega) (by omega) (by omega)
    refine ⟨r, Ev2.step (fun k n => rfl) ?_, Ev2.step (fun k n => rfl) ?_, u⟩
    · simp only [spec_Diff.l0, spec_Diff.b0, decide_eq_false h2, cond_false]
      exact Ev2.one s.diag
    · simp only [impl_Diff.l0, impl_Diff.b0, decide_eq_false h2, cond_false]
      exact Ev2.one t.diag
  | d + 1, i, out, hd, hi, ho => by
    have h2 : ((i : Int) < (a.length : Int)) := by omega
    have hr : (out.length + 1) * Ty.bytes TPut ≤ 140737488355328 := by have : Ty.bytes TPut = 40 := rfl; rw [this]; omega
    have h0 := Int.natCast_nonneg i
    obtain ⟨rs, ri, f1, f2, f3, f4⟩ := find_ev b (a.getD i (Ty.dflt TPair)).1 hb
    obtain ⟨r1, s1, i1, b1⟩ := diff1 (b := b) hl hb d (i + 1) out (by omega) (by omega) (by omega)
    obtain ⟨r2, s2, i2, b2⟩ := diff1 (b := b) hl hb d (i + 1) (out ++ [((a.getD i (Ty.dflt TPair)).1, (true, (ByteArray.empty, ())))]) (by omega) (by omega) (by rw [List.length_append]; show _ + 1 ≤ _; omega)
    have main : ∀ r, (Ev2 (fun k n => spec_Diff.b0 k (spec_Diff.l1 k k) (spec_Diff.l0 k n) a b (i : Int) out) r ∧ Ev2 (fun k n => impl_Diff.b0 k (impl_Diff.l1 k k) (impl_Diff.l0 k n) a b a (a.length : Int) (i : Int) out) r ∧ r.1.length ≤ 2097152) →
      ∃ r, Ev2 (fun k n => spec_Diff.l0 k n a b (i : Int) out) r ∧ Ev2 (fun k n => impl_Diff.l0 k n a b a (a.length : Int) (i : Int) out) r ∧ r.1.length ≤ 2097152 :=
      fun r h => ⟨r, Ev2.step (fun k n => rfl) h.1, Ev2.step (fun k n => rfl) h.2.1, h.2.2⟩
    unfold spec_Diff.b0 impl_Diff.b0 at main
    simp only [decide_eq_true h2, cond_true, inb_eq h0 h2, toNat_ofNat, up64 (show i ≤ 4398046511104 by omega), rm_eq hr (show out.length + 1 ≤ 140737488355328 by omega)] at main
    cases c : ri.2.1
    · refine main r2 ⟨Ev2.bind f1 ?_, Ev2.bind f2 ?_, b2⟩
      · simp only [f3, c, Bool.not_false, cond_true]; exact s2
      · simp only [c, Bool.not_false, cond_true]; exact i2
    · refine main r1 ⟨Ev2.bind f1 ?_, Ev2.bind f2 ?_, b1⟩
      · simp only [f3, c, Bool.not_true, cond_false]; exact s1
      · simp only [c, Bool.not_true, cond_false]; exact i1
theorem core_FnExactDiff {a0 a1 : List (Ty.den TPair)} (f0 : Wf (.slice TPair) a0) (f1 : Wf (.slice TPair) a1) (w0 : weight (.slice TPair) a0 ≤ 1048576) (w1 : weight (.slice TPair) a1 ≤ 1048576) :
    ∃ r, Ev (fun k => spec_Diff.f k a0 a1) r ∧ Ev (fun k => impl_Diff.f k a0 a1) r ∧ wp (.slice TPut) r.1 ≤ 4398046511104 := by
  obtain ⟨r, h1, h2, h3⟩ := diff1 (weight_len w0) (weight_len w1) a0.length 0 [] (by omega) (by omega) (by decide)
  exact ⟨r, h1.diag, h2.diag, by rw [wp_flatS (t := TPut) rfl]; omega⟩
end Go.Proofs.Ytlbpalfjmjmimaa.G

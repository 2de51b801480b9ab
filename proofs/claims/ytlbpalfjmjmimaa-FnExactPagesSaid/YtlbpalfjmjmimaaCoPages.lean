/- The plain law of Pages: both readings answer alike, for each page's cursor is greater than the one before. -/
import Derived.Test.YtlbpalfjmjmimaaCoRange
set_option linter.unusedVariables false
set_option linter.unusedSimpArgs false
namespace Go.V
theorem less_trans : ∀ (a b c : List UInt8), Op.bytesLess a b = true → Op.bytesLess b c = true → Op.bytesLess a c = true
  | a, [], c, h, _ => by cases a <;> simp [Op.bytesLess] at h
  | _, _ :: _, [], _, h => by simp [Op.bytesLess] at h
  | [], _ :: _, _ :: _, _, _ => rfl
  | a :: x, b :: y, c :: z, h1, h2 => by
    have ih := less_trans x y z
    simp only [Op.bytesLess, Bool.or_eq_true, Bool.and_eq_true, decide_eq_true_eq, beq_iff_eq] at h1 h2 ⊢
    rcases h1 with h1 | ⟨rfl, h1⟩
    · rcases h2 with h2 | ⟨rfl, h2⟩
      · left; rw [UInt8.lt_iff_toNat_lt] at *; omega
      · exact .inl h1
    · rcases h2 with h2 | ⟨rfl, h2⟩
      · exact .inl h2
      · exact .inr ⟨rfl, ih h1 h2⟩
theorem less_irrefl : ∀ a : List UInt8, Op.bytesLess a a = false
  | [] => rfl
  | a :: x => by
    have : ¬ a < a := by rw [UInt8.lt_iff_toNat_lt]; omega
    simp [Op.bytesLess, less_irrefl x, this]
theorem sls_nil (a : ByteArray) : sls a ⟨#[]⟩ = false := by
  unfold sls
  have : (⟨#[]⟩ : ByteArray).toList = [] := by rw [ByteArray.toList_eq]
  rw [this]
  cases a.toList <;> rfl
theorem countP_lt {α : Type} {p q : α → Bool} : ∀ {l : List α}, (∀ x, q x = true → p x = true) → (∃ e, e ∈ l ∧ p e = true ∧ q e = false) → l.countP q < l.countP p
  | [], _, ⟨e, h, _⟩ => by cases h
  | x :: l, hqp, ⟨e, h, hp, hq⟩ => by
    rw [List.countP_cons, List.countP_cons]
    rcases List.mem_cons.1 h with rfl | h'
    · have := List.countP_mono_left (l := l) (p := q) (q := p) (fun x _ => hqp x)
      rw [hp, hq]
      simp
      omega
    · have ih := countP_lt hqp ⟨e, h', hp, hq⟩
      cases hx : q x
      · cases p x <;> simp <;> omega
      · rw [hqp x hx]; simp; omega
theorem Ev.unique {α : Type} {g : Nat → Option α} {r s : α} (h1 : Ev g r) (h2 : Ev g s) : r = s := by
  obtain ⟨a, ha⟩ := h1
  obtain ⟨b, hb⟩ := h2
  have := (ha (max a b) (by omega)).symm.trans (hb (max a b) (by omega))
  exact Option.some.inj this
end Go.V
namespace Go.Proofs.Ytlbpalfjmjmimaa.G
open Go.V
def pgOk (a0 : List (Ty.den TEntry)) (a1 : ByteArray) (out : List ByteArray) (nx : ByteArray) : Prop := (out = [] ∧ nx = ⟨#[]⟩) ∨ (out ≠ [] ∧ ∃ e, e ∈ a0 ∧ nx = e.1 ∧ sls a1 e.1 = true)
theorem pageP {a0 : List (Ty.den TEntry)} {a1 : ByteArray} {m : Int} (hl : a0.length ≤ 1048576) : ∀ (d i : Nat) (nx : ByteArray) (out : List ByteArray), a0.length - i = d → i ≤ a0.length → out.length ≤ i → pgOk a0 a1 out nx →
    ∃ r, Ev2 (fun k n => spec_Page.l0 k n a0 a1 m nx (i : Int) out) r ∧ pgOk a0 a1 r.1 r.2.1
  | 0, i, nx, out, hd, hi, ho, hp => by
    have h2 : ¬ ((i : Int) < (a0.length : Int)) := by omega
    refine ⟨(out, (nx, ())), Ev2.step (fun k n => rfl) ?_, hp⟩
    simp only [spec_Page.l0, spec_Page.b0, decide_eq_false h2, cond_false]
    exact Ev2.of fun _ _ => rfl
  | d + 1, i, nx, out, hd, hi, ho, hp => by
    have h2 : ((i : Int) < (a0.length : Int)) := by omega
    have hr : (out.length + 1) * Ty.bytes .str ≤ 140737488355328 := by have : Ty.bytes .str = 16 := rfl; rw [this]; omega
    have h0 := Int.natCast_nonneg i
    have main : ∀ r, (Ev2 (fun k n => spec_Page.b0 k (spec_Page.l0 k n) a0 a1 m nx (i : Int) out) r ∧ pgOk a0 a1 r.1 r.2.1) →
      ∃ r, Ev2 (fun k n => spec_Page.l0 k n a0 a1 m nx (i : Int) out) r ∧ pgOk a0 a1 r.1 r.2.1 :=
      fun r h => ⟨r, Ev2.step (fun k n => rfl) h.1, h.2⟩
    unfold spec_Page.b0 at main
    simp only [decide_eq_true h2, cond_true, inb_eq h0 h2, toNat_ofNat, up64 (show i ≤ 4398046511104 by omega), rm_eq hr (show out.length + 1 ≤ 140737488355328 by omega)] at main
    cases c1 : (sls (a0.getD i (Ty.dflt TEntry)).1 a1 || seq (a0.getD i (Ty.dflt TEntry)).1 a1)
    · cases c2 : decide ((out.length : Int) < m)
      · obtain ⟨r1, s1, b1⟩ := pageP (a1 := a1) (m := m) hl d (i + 1) nx out (by omega) (by omega) (by omega) hp
        simp only [c1, c2, cond_true, cond_false] at main
        exact main r1 ⟨s1, b1⟩
      · rw [sls_total, Bool.not_eq_false'] at c1
        obtain ⟨r2, s2, b2⟩ := pageP (a1 := a1) (m := m) hl d (i + 1) (a0.getD i (Ty.dflt TEntry)).1 (out ++ [(a0.getD i (Ty.dflt TEntry)).1]) (by omega) (by omega) (by rw [List.length_append]; show _ + 1 ≤ _; omega)
          (.inr ⟨by simp, _, getD_mem (show i < a0.length by omega), rfl, c1⟩)
        simp only [sls_total, c1, c2, Bool.not_true, cond_true, cond_false] at main
        exact main r2 ⟨s2, b2⟩
    · obtain ⟨r1, s1, b1⟩ := pageP (a1 := a1) (m := m) hl d (i + 1) nx out (by omega) (by omega) (by omega) hp
      simp only [c1, cond_true, cond_false] at main
      exact main r1 ⟨s1, b1⟩
theorem page_ok (a0 : List (Ty.den TEntry)) (a1 : ByteArray) (m : Int) (hl : a0.length ≤ 1048576) : ∃ r, Ev (fun k => spec_Page.f k a0 a1 m) r ∧ Ev (fun k => impl_Page.f k a0 a1 m) r ∧ r.1.length ≤ a0.length ∧ pgOk a0 a1 r.1 r.2.1 := by
  obtain ⟨r, h1, h2, h3⟩ := page_ev (a0 := a0) a1 m hl
  obtain ⟨s, q1, q2⟩ := pageP (a1 := a1) (m := m) hl a0.length 0 ⟨#[]⟩ [] (by omega) (by omega) (by decide) (.inl ⟨rfl, rfl⟩)
  have e : r = s := h1.unique (q1.diag : Ev (fun k => spec_Page.f k a0 a1 m) s)
  exact ⟨r, h1, h2, h3, e ▸ q2⟩
def cnt (a0 : List (Ty.den TEntry)) (af : ByteArray) : Nat := a0.countP fun e => sls af e.1
theorem cnt_lt {a0 : List (Ty.den TEntry)} {af : ByteArray} {e : Ty.den TEntry} (h : e ∈ a0) (hs : sls af e.1 = true) : cnt a0 e.1 < cnt a0 af :=
  countP_lt (fun x hx => less_trans _ _ _ hs hx) ⟨e, h, hs, less_irrefl _⟩
theorem pagesL {a0 : List (Ty.den TEntry)} {m : Int} (hm : m > 0) (hl : a0.length ≤ 1048576) : ∀ (c i : Nat) (af : ByteArray) (out : List ByteArray), cnt a0 af ≤ c → i + c ≤ a0.length → out.length ≤ i * a0.length →
    ∃ r, Ev2 (fun k n => spec_Pages.l0 k n a0 m af (i : Int) out) r ∧ Ev2 (fun k n => impl_Pages.l0 k n a0 m af out) r ∧ r.1.length ≤ 1099511627776 := by
  intro c
  induction c with
  | zero =>
    intro i af out hc hi ho
    have hsq : i * a0.length ≤ 1048576 * 1048576 := Nat.mul_le_mul (by omega) hl
    obtain ⟨r, h1, h2, h3, h4⟩ := page_ok a0 af m hl
    have hz : r.1 = [] ∧ r.2.1 = ⟨#[]⟩ := by
      rcases h4 with h | ⟨_, e, he, _, hs⟩
      · exact h
      · have := cnt_lt he hs; omega
    have h5 : (i : Int) ≤ (a0.length : Int) := by omega
    have hr : (out.length + 0) * Ty.bytes .str ≤ 140737488355328 := by have : Ty.bytes .str = 16 := rfl; rw [this]; omega
    refine ⟨(out, ()), Ev2.step (b := fun k n => spec_Pages.b0 k (spec_Pages.l0 k n) a0 m af (i : Int) out) (fun k n => rfl) ?_, Ev2.step (b := fun k n => impl_Pages.b0 k (impl_Pages.l0 k n) a0 m af out) (fun k n => rfl) ?_, by show out.length ≤ _; omega⟩
    · unfold spec_Pages.b0
      simp only [decide_eq_true h5, decide_eq_true hm, cond_true]
      refine Ev2.bind h1 (Ev2.of fun k n => ?_)
      rw [hz.1, hz.2, seq_refl, cond_true, List.length_nil, rm_eq hr (by omega), List.append_nil]
    · unfold impl_Pages.b0
      simp only [decide_eq_true hm, cond_true]
      refine Ev2.bind h2 (Ev2.of fun k n => ?_)
      rw [hz.1]
      rfl
  | succ c ih =>
    intro i af out hc hi ho
    have hsq : i * a0.length ≤ 1048576 * 1048576 := Nat.mul_le_mul (by omega) hl
    obtain ⟨r, h1, h2, h3, h4⟩ := page_ok a0 af m hl
    have h5 : (i : Int) ≤ (a0.length : Int) := by omega
    have hr : (out.length + r.1.length) * Ty.bytes .str ≤ 140737488355328 := by have : Ty.bytes .str = 16 := rfl; rw [this]; omega
    have main : ∀ s, (Ev2 (fun k n => spec_Pages.b0 k (spec_Pages.l0 k n) a0 m af (i : Int) out) s ∧ Ev2 (fun k n => impl_Pages.b0 k (impl_Pages.l0 k n) a0 m af out) s ∧ s.1.length ≤ 1099511627776) →
      ∃ r, Ev2 (fun k n => spec_Pages.l0 k n a0 m af (i : Int) out) r ∧ Ev2 (fun k n => impl_Pages.l0 k n a0 m af out) r ∧ r.1.length ≤ 1099511627776 :=
      fun s h => ⟨s, Ev2.step (fun k n => rfl) h.1, Ev2.step (fun k n => rfl) h.2.1, h.2.2⟩
    unfold spec_Pages.b0 impl_Pages.b0 at main
    simp only [decide_eq_true h5, decide_eq_true hm, cond_true, up64 (show i ≤ 4398046511104 by omega)] at main
    rcases h4 with hz | ⟨hne, e, he, hnx, hs⟩
    · refine main (out, ()) ⟨Ev2.bind h1 (Ev2.of fun k n => ?_), Ev2.bind h2 (Ev2.of fun k n => ?_), by show out.length ≤ _; omega⟩
      · rw [rm_eq hr (by omega), hz.1, hz.2, seq_refl, cond_true, List.append_nil]
      · rw [hz.1]
        rfl
    · have hlt := cnt_lt he hs
      obtain ⟨s, s1, s2, s3⟩ := ih (i + 1) r.2.1 (out ++ r.1) (by rw [hnx]; omega) (by omega) (by rw [List.length_append, Nat.succ_mul]; omega)
      have hq : seq r.2.1 ⟨#[]⟩ = false := by
        cases q : seq r.2.1 ⟨#[]⟩
        · rfl
        · rw [seq_iff.1 q] at hnx
          rw [← hnx, sls_nil] at hs
          cases hs
      have hlen : r.1.length ≠ 0 := fun h => hne (List.length_eq_zero_iff.1 h)
      have hq2 : ((r.1.length : Int) == 0) = false := by rw [beq_eq_false_iff_ne]; omega
      refine main s ⟨Ev2.bind h1 ?_, Ev2.bind h2 ?_, s3⟩
      · simp only [rm_eq hr (show out.length + r.1.length ≤ 140737488355328 by omega), hq, cond_false]
        exact s1
      · simp only [rm_eq hr (show out.length + r.1.length ≤ 140737488355328 by omega), hq2, cond_false]
        exact s2
theorem core_FnExactPages {a0 : List (Ty.den TEntry)} {a1 : Int} (f0 : Wf (.slice TEntry) a0) (f1 : Wf (.int .i64) a1) (w0 : weight (.slice TEntry) a0 ≤ 1048576) :
    ∃ r, Ev (fun k => spec_Pages.f k a0 a1) r ∧ Ev (fun k => impl_Pages.f k a0 a1) r ∧ wp (.slice .str) r.1 ≤ 4398046511104 := by
  have hl := weight_len w0
  by_cases hm : a1 > 0
  · obtain ⟨r, h1, h2, h3⟩ := pagesL hm hl (cnt a0 ⟨#[]⟩) 0 ⟨#[]⟩ [] (Nat.le_refl _) (by have : cnt a0 ⟨#[]⟩ ≤ a0.length := List.countP_le_length; omega) (by simp)
    exact ⟨r, h1.diag, h2.diag, by rw [wp_flatS (t := .str) rfl]; omega⟩
  · have h5 : ((0 : Nat) : Int) ≤ (a0.length : Int) := by omega
    refine ⟨([], ()), (Ev2.step (l := fun k n => spec_Pages.l0 k n a0 a1 ⟨#[]⟩ 0 []) (b := fun k n => spec_Pages.b0 k (spec_Pages.l0 k n) a0 a1 ⟨#[]⟩ ((0 : Nat) : Int) []) (fun k n => rfl) (Ev2.of fun k n => ?_)).diag,
      (Ev2.step (l := fun k n => impl_Pages.l0 k n a0 a1 ⟨#[]⟩ []) (b := fun k n => impl_Pages.b0 k (impl_Pages.l0 k n) a0 a1 ⟨#[]⟩ []) (fun k n => rfl) (Ev2.of fun k n => ?_)).diag, by decide⟩
    · unfold spec_Pages.b0
      rw [decide_eq_true h5, decide_eq_false hm]
      rfl
    · unfold impl_Pages.b0
      rw [decide_eq_false hm]
      rfl
end Go.Proofs.Ytlbpalfjmjmimaa.G

/- M: keys in order, and their pages: plain laws. -/
import Derived.Test.YtegeiflafmpefaaVPure
set_option linter.unusedVariables false
set_option linter.unusedSimpArgs false
namespace Go.V
theorem less_trans : ∀ a b c : List UInt8, Op.bytesLess a b = true → Op.bytesLess b c = true → Op.bytesLess a c = true
  | a, b, [], _, h2 => by cases b <;> simp [Op.bytesLess] at h2
  | [], b, z :: c, _, _ => by simp [Op.bytesLess]
  | x :: a, [], z :: c, h1, _ => by simp [Op.bytesLess] at h1
  | x :: a, y :: b, z :: c, h1, h2 => by
    simp only [Op.bytesLess] at h1 h2 ⊢
    have ih := less_trans a b c
    simp only [Bool.or_eq_true, Bool.and_eq_true, decide_eq_true_eq, beq_iff_eq] at h1 h2 ⊢
    rcases h1 with g1 | ⟨rfl, g1⟩
    · rcases h2 with g2 | ⟨rfl, g2⟩
      · exact Or.inl (UInt8.lt_trans g1 g2)
      · exact Or.inl g1
    · rcases h2 with g2 | ⟨rfl, g2⟩
      · exact Or.inl g2
      · exact Or.inr ⟨rfl, ih g1 g2⟩
theorem sls_trans {a b c : ByteArray} (h1 : sls a b = true) (h2 : sls b c = true) : sls a c = true := less_trans _ _ _ h1 h2
theorem sls_irrefl (a : ByteArray) : sls a a = false := by
  have := sls_total a a
  rw [seq_refl] at this
  cases h : sls a a with
  | false => rfl
  | true => rw [h] at this; cases this
theorem sls_asymm {a b : ByteArray} (h : sls a b = true) : sls b a = false := by
  cases c : sls b a with
  | false => rfl
  | true => have := sls_trans h c; rw [sls_irrefl] at this; cases this
/-- Keys behind one. -/
def gtK (after : ByteArray) (K : List ByteArray) : List ByteArray := K.filter (sls after)
def KeysOk (K : List ByteArray) : Prop := K.Pairwise (fun a b => sls a b = true)
theorem gt_split {A B : List ByteArray} {x : ByteArray} (h : KeysOk (A ++ [x] ++ B)) : gtK x (A ++ [x] ++ B) = B := by
  unfold gtK
  unfold KeysOk at h
  rw [List.pairwise_append] at h
  obtain ⟨h1, h2, h3⟩ := h
  rw [List.filter_append]
  have e1 : (A ++ [x]).filter (sls x) = [] := by
    rw [List.filter_eq_nil_iff]
    intro y hy
    rw [List.pairwise_append] at h1
    rcases List.mem_append.1 hy with q | q
    · rw [sls_asymm (h1.2.2 y q x (by simp))]; decide
    · rw [List.mem_singleton] at q
      subst q
      rw [sls_irrefl]; decide
  have e2 : B.filter (sls x) = B := by
    rw [List.filter_eq_self]
    intro y hy
    exact h3 x (by simp) y hy
  rw [e1, e2, List.nil_append]
/-- Page by page. -/
def pagesL (K : List ByteArray) (n : Nat) : Nat → ByteArray → List ByteArray
  | 0, _ => []
  | f + 1, after => match (gtK after K).take n with
    | [] => []
    | y :: r => (y :: r) ++ pagesL K n f ((y :: r).getLast (by simp))
theorem pages_all {K : List ByteArray} {n : Nat} (hK : KeysOk K) (hn : 1 ≤ n) : ∀ (f : Nat) (A B : List ByteArray) (after : ByteArray), K = A ++ B → gtK after K = B → B.length < f → pagesL K n f after = B := by
  intro f
  induction f with
  | zero => intro A B after _ _ h; omega
  | succ f ih =>
    intro A B after hA hg hf
    unfold pagesL
    rw [hg]
    split
    · rename_i h
      rcases List.take_eq_nil_iff.1 h with q | q
      · omega
      · exact q.symm
    · rename_i y r h
      have hB : B = (y :: r) ++ B.drop n := by rw [← h, List.take_append_drop]
      have hlast : (y :: r) = (y :: r).dropLast ++ [(y :: r).getLast (by simp)] := (List.dropLast_concat_getLast (by simp)).symm
      generalize hz : (y :: r).getLast (by simp) = z at hlast
      have hlen : (B.drop n).length < f := by
        have := congrArg List.length hB
        rw [List.length_append, List.length_cons] at this
        omega
      have hK2 : K = (A ++ (y :: r).dropLast) ++ [z] ++ B.drop n := by
        rw [hA]
        conv => lhs; rw [hB, hlast]
        simp only [List.append_assoc]
      have hg2 : gtK z K = B.drop n := by
        have := gt_split (A := A ++ (y :: r).dropLast) (B := B.drop n) (x := z) (by rw [← hK2]; exact hK)
        rw [← hK2] at this
        exact this
      rw [ih ((A ++ (y :: r).dropLast) ++ [z]) (B.drop n) z hK2 hg2 hlen]
      exact hB.symm
theorem nil_toList : (⟨#[]⟩ : ByteArray).toList = [] := by rw [ByteArray.toList_eq]
theorem sls_none (a : ByteArray) : sls a ⟨#[]⟩ = false := by
  unfold sls
  rw [nil_toList]
  cases a.toList <;> simp [Op.bytesLess]
theorem sls_pos {a : ByteArray} (h : 0 < a.size) : sls ⟨#[]⟩ a = true := by
  have := sls_total ⟨#[]⟩ a
  rw [sls_none] at this
  cases c : seq ⟨#[]⟩ a with
  | false => rw [c] at this; simpa using this
  | true =>
    rw [← seq_iff.1 c] at h
    exact absurd h (Nat.lt_irrefl 0)
/-- Keys between two. -/
def inR (from_ to_ k : ByteArray) : Bool := !sls k from_ && (seq to_ ⟨#[]⟩ || sls k to_)
def rangeK (from_ to_ : ByteArray) (K : List ByteArray) : List ByteArray := K.filter (inR from_ to_)
theorem range_all (K : List ByteArray) : rangeK ⟨#[]⟩ ⟨#[]⟩ K = K := by
  unfold rangeK
  rw [List.filter_eq_self]
  intro x _
  unfold inR
  rw [sls_none, seq_refl]
  rfl
theorem range_ok {from_ to_ : ByteArray} {K : List ByteArray} (h : KeysOk K) : KeysOk (rangeK from_ to_ K) := List.Pairwise.filter _ h
theorem range_mem {from_ to_ k : ByteArray} {K : List ByteArray} (h : k ∈ rangeK from_ to_ K) : k ∈ K ∧ sls k from_ = false ∧ (seq to_ ⟨#[]⟩ = true ∨ sls k to_ = true) := by
  unfold rangeK at h
  rw [List.mem_filter] at h
  obtain ⟨h1, h2⟩ := h
  unfold inR at h2
  simp only [Bool.and_eq_true, Bool.not_eq_true', Bool.or_eq_true] at h2
  exact ⟨h1, h2.1, h2.2⟩
theorem filter_le {α : Type} {p q : α → Bool} (h : ∀ x, p x = true → q x = true) : ∀ l : List α, (l.filter p).length ≤ (l.filter q).length
  | [] => Nat.le_refl _
  | x :: l => by
    have ih := filter_le h l
    cases c : p x with
    | true => rw [List.filter_cons_of_pos c, List.filter_cons_of_pos (h x c), List.length_cons, List.length_cons]; omega
    | false =>
      rw [List.filter_cons_of_neg (by rw [c]; decide)]
      cases c2 : q x with
      | true => rw [List.filter_cons_of_pos c2, List.length_cons]; omega
      | false => rw [List.filter_cons_of_neg (by rw [c2]; decide)]; exact ih
theorem range_lens (from_ to_ : ByteArray) (K : List ByteArray) : (rangeK from_ to_ K).length + (rangeK ⟨#[]⟩ from_ K).length ≤ K.length + (rangeK from_ ⟨#[]⟩ K).length := by
  have h1 : (rangeK from_ to_ K).length ≤ (rangeK from_ ⟨#[]⟩ K).length := filter_le (fun x hx => by
    unfold inR at hx ⊢
    rw [Bool.and_eq_true] at hx
    rw [hx.1, seq_refl]
    rfl) K
  have h2 : (rangeK ⟨#[]⟩ from_ K).length ≤ K.length := List.length_filter_le ..
  omega
theorem gt_none {K : List ByteArray} (h : ∀ k ∈ K, 0 < k.size) : gtK ⟨#[]⟩ K = K := by
  unfold gtK
  rw [List.filter_eq_self]
  exact fun k hk => sls_pos (h k hk)
end Go.V

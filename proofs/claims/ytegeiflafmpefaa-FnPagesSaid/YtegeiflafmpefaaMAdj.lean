/- M: rows whose places are right beside the ones ahead. -/
import Derived.Test.YtegeiflafmpefaaMBase
set_option linter.unusedVariables false
set_option linter.unusedSimpArgs false
namespace Go.V
section
variable {α ρ : Type}
/-- A row is right if each of its places is right beside the one ahead. -/
def adj (ok : Option α → α → Bool) : Option α → List α → Bool
  | _, [] => true
  | p, x :: l => ok p x && adj ok (some x) l
theorem forAdj {L : Nat → Int → Option ρ} (z : α) (l : List α) (ok : Option α → α → Bool) (yes no : Option ρ) (h0 : ∀ (n : Nat), L (n + 1) l.length = yes)
    (h1 : ∀ (n : Nat) x, 0 < l.length → l.getD (Int.toNat 0) z = x → L (n + 1) 0 = bif ok none x then L n 1 else no)
    (h2 : ∀ (n : Nat) (i : Int) x y, 0 < i → i < l.length → l.getD i.toNat z = x → l.getD (i - 1).toNat z = y → L (n + 1) i = bif ok (some y) x then L n (i + 1) else no)
    {n : Nat} (hn : l.length < n) : L n 0 = bif adj ok none l then yes else no := by
  have key : ∀ (d i n : Nat), l.length = i + d → 0 < i → d < n → L n (i : Int) = bif adj ok (some (l.getD (i - 1) z)) (l.drop i) then yes else no := by
    intro d
    induction d with
    | zero =>
      intro i n h h' hn
      obtain ⟨n, rfl⟩ : ∃ q, n = q + 1 := ⟨n - 1, by omega⟩
      have : i = l.length := by omega
      subst this
      rw [h0 n, List.drop_length]
      rfl
    | succ d ih =>
      intro i n h h' hn
      obtain ⟨n, rfl⟩ : ∃ q, n = q + 1 := ⟨n - 1, by omega⟩
      have hl : i < l.length := by omega
      have e : l.drop i = l.getD i z :: l.drop (i + 1) := by
        rw [List.drop_eq_getElem_cons hl]
        simp [List.getD, hl]
      have ih := ih (i + 1) n (by omega) (by omega) (by omega)
      rw [h2 n i (l.getD i z) (l.getD (i - 1) z) (by omega) (by omega) (by rw [Int.toNat_natCast]) (by rw [show ((i : Int) - 1).toNat = i - 1 by omega]), e, adj]
      rw [show ((i : Int) + 1) = ((i + 1 : Nat) : Int) by omega, ih, show i + 1 - 1 = i by omega]
      cases ok (some (l.getD (i - 1) z)) (l.getD i z) <;> rfl
  obtain ⟨n, rfl⟩ : ∃ q, n = q + 1 := ⟨n - 1, by omega⟩
  cases l with
  | nil => exact h0 n
  | cons x l =>
    rw [h1 n x (by simp) rfl, adj]
    have := key l.length 1 n (by rw [List.length_cons]; omega) (by omega) (by rw [List.length_cons] at hn; omega)
    rw [show ((1 : Nat) : Int) = 1 from rfl] at this
    rw [this]
    cases ok none x <;> rfl
theorem adj_all {ok : Option α → α → Bool} {l : List α} {p : Option α} (h : adj ok p l = true) {x : α} (hx : x ∈ l) : ∃ q, ok q x = true := by
  induction l generalizing p with
  | nil => cases hx
  | cons y l ih =>
    rw [adj, Bool.and_eq_true] at h
    rcases List.mem_cons.1 hx with e | e
    · subst e; exact ⟨p, h.1⟩
    · exact ih h.2 e
end
end Go.V
namespace Go.V
theorem getD_take {α : Type} {l : List α} {n i : Nat} {z : α} (h : i < n) : (l.take n).getD i z = l.getD i z := by
  simp [List.getD, List.getElem?_take, h]
theorem take_succ_getD {α : Type} {l : List α} {i : Nat} {z : α} (h : i < l.length) : l.take (i + 1) = l.take i ++ [l.getD i z] := by
  rw [List.take_succ_eq_append_getElem h]
  simp [List.getD, h]
theorem len_snoc {α : Type} (l : List α) (x : α) : (l ++ [x]).length = l.length + 1 := by simp
end Go.V

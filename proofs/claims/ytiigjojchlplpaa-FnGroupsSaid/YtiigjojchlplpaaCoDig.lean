/- Numbers' digits of seven bits, and texts' bytes. -/
import Derived.Test.YtiigjojchlplpaaVPure
set_option linter.unusedVariables false
set_option linter.unusedSimpArgs false
namespace Go.V
/-- A number's digits of seven bits, each but the last with the mark 128. -/
def vl : Nat → Nat → List Nat
  | 0, a => [a]
  | d + 1, a => if a ≥ 128 then (128 + a % 128) :: vl d (a / 128) else [a]
/-- The number of the first n digits. -/
def dec : List Nat → Nat
  | [] => 0
  | b :: p => b % 128 + 128 * dec p
/-- It is how a number is written. -/
def wcan : List Nat → Bool
  | [] => false
  | [b] => decide (b < 128)
  | b :: c :: p => decide (128 ≤ b) && (decide (b < 256) && (wcan (c :: p) && !(decide (p = []) && c == 0)))
theorem vl_wcan : ∀ (d a : Nat), a < 128 ^ (d + 1) → wcan (vl d a) = true ∧ dec (vl d a) = a ∧ (vl d a = [0] → a = 0)
  | 0, a, h => by
    have : a < 128 := by simpa using h
    refine ⟨by simp [vl, wcan, this], by simp [vl, dec]; omega, fun q => by simpa [vl] using q⟩
  | d + 1, a, h => by
    unfold vl
    by_cases c : a ≥ 128
    · rw [if_pos c]
      obtain ⟨h1, h2, h3⟩ := vl_wcan d (a / 128) (by rw [Nat.pow_succ] at h; omega)
      refine ⟨?_, by rw [dec, h2]; omega, fun q => by have := (List.cons.inj q).1; omega⟩
      generalize vl d (a / 128) = l at h1 h2 h3
      match l, h1 with
      | x :: p, h1 =>
        simp only [wcan, h1]
        have e1 : decide (128 ≤ 128 + a % 128) = true := decide_eq_true (by omega)
        have e2 : decide (128 + a % 128 < 256) = true := decide_eq_true (by omega)
        rw [e1, e2]
        cases hp : (decide (p = []) && x == 0)
        · rfl
        · simp only [Bool.and_eq_true, decide_eq_true_eq, beq_iff_eq] at hp
          have := h3 (by rw [hp.1, hp.2])
          omega
    · rw [if_neg c]
      have : a < 128 := by omega
      exact ⟨by simp [wcan, this], by simp [dec]; omega, fun q => by simpa using q⟩
theorem wcan_pos : ∀ (p : List Nat), wcan p = true → p ≠ [0] → 1 ≤ dec p
  | [], h, _ => by simp [wcan] at h
  | [b], h, q => by
    simp only [wcan, decide_eq_true_eq] at h
    simp only [dec]
    have : b ≠ 0 := fun e => q (by rw [e])
    omega
  | b :: c :: p, h, _ => by
    simp only [wcan, Bool.and_eq_true, decide_eq_true_eq, Bool.not_eq_true'] at h
    have ih := wcan_pos (c :: p) h.2.2.1 (fun e => by
      have e1 : c = 0 := (List.cons.inj e).1
      have e2 : p = [] := (List.cons.inj e).2
      have := h.2.2.2
      rw [e1, e2] at this
      simp at this)
    rw [dec]
    omega
theorem wcan_vl : ∀ (d : Nat) (p : List Nat), wcan p = true → p.length ≤ d + 1 → vl d (dec p) = p
  | _, [], h, _ => by simp [wcan] at h
  | 0, [b], h, _ => by
    simp only [wcan, decide_eq_true_eq] at h
    simp [vl, dec]; omega
  | d + 1, [b], h, _ => by
    simp only [wcan, decide_eq_true_eq] at h
    have e : dec [b] = b := by simp [dec]; omega
    rw [e, vl, if_neg (by omega)]
  | 0, b :: c :: p, _, hl => by simp at hl
  | d + 1, b :: c :: p, h, hl => by
    have h0 := h
    simp only [wcan, Bool.and_eq_true, decide_eq_true_eq, Bool.not_eq_true'] at h
    have hp := wcan_pos (c :: p) h.2.2.1 (fun e => by
      have e1 : c = 0 := (List.cons.inj e).1
      have e2 : p = [] := (List.cons.inj e).2
      have := h.2.2.2
      rw [e1, e2] at this
      simp at this)
    have ih := wcan_vl d (c :: p) h.2.2.1 (by simp at hl ⊢; omega)
    rw [dec, vl, if_pos (by omega)]
    rw [show (b % 128 + 128 * dec (c :: p)) / 128 = dec (c :: p) by omega, ih]
    congr 1
    omega
theorem wcan_low : ∀ (p q : List Nat) (b : Nat), q ≠ [] → b < 128 → wcan (p ++ b :: q) = false
  | [], q, b, hq, hb => by
    cases q with
    | nil => exact absurd rfl hq
    | cons c q => simp [wcan]; omega
  | [a], q, b, hq, hb => by
    have ih := wcan_low [] q b hq hb
    simp only [List.nil_append, List.cons_append] at ih ⊢
    rw [wcan, ih]
    simp
  | a :: a' :: p, q, b, hq, hb => by
    have ih := wcan_low (a' :: p) q b hq hb
    simp only [List.cons_append] at ih ⊢
    simp [wcan, ih]
/-- Marked digits, and one more. -/
theorem wcan_snoc : ∀ (p : List Nat) (b : Nat), (∀ x ∈ p, 128 ≤ x ∧ x < 256) → wcan (p ++ [b]) = (decide (b < 128) && (decide (p = []) || !(b == 0)))
  | [], b, _ => by simp [wcan]
  | [a], b, h => by
    have := h a (by simp)
    simp [wcan, this.1, this.2]
  | a :: a' :: p, b, h => by
    have ih := wcan_snoc (a' :: p) b (fun x hx => h x (by simp at hx ⊢; right; exact hx))
    have ha := h a (by simp)
    have hne : p ++ [b] ≠ [] := by simp
    simp only [List.cons_append] at ih ⊢
    rw [wcan, ih]
    simp [ha.1, ha.2]
theorem dec_snoc : ∀ (p : List Nat) (b : Nat), dec (p ++ [b]) = dec p + 128 ^ p.length * (b % 128)
  | [], b => by simp [dec]
  | a :: p, b => by
    rw [List.cons_append, dec, dec_snoc p b, dec, List.length_cons, Nat.pow_succ, Nat.mul_add, Nat.mul_comm (128 ^ p.length) 128, Nat.mul_assoc]
    omega
theorem dec_lt : ∀ (p : List Nat), dec p < 128 ^ p.length
  | [] => by simp [dec]
  | a :: p => by
    have := dec_lt p
    rw [dec, List.length_cons, Nat.pow_succ]
    omega
end Go.V
namespace Go.V
/-- A text's bytes. -/
def nb (s : ByteArray) : List Nat := s.data.toList.map UInt8.toNat
theorem nb_len (s : ByteArray) : (nb s).length = s.size := by
  unfold nb
  rw [List.length_map, Array.length_toList]
  rfl
theorem nb_lt {s : ByteArray} {x : Nat} (h : x ∈ nb s) : x < 256 := by
  unfold nb at h
  rw [List.mem_map] at h
  obtain ⟨y, _, rfl⟩ := h
  exact UInt8.toNat_lt y
theorem nb_inj {a b : ByteArray} (h : nb a = nb b) : a = b := by
  unfold nb at h
  have h1 : a.data.toList = b.data.toList := List.map_inj_right (fun x y e => UInt8.toNat_inj.1 e) |>.1 h
  exact ByteArray.ext (Array.toList_inj.1 h1)
theorem nb_at {s : ByteArray} {i : Nat} (h : i < s.size) : byteAt s (i : Int) = (((nb s).getD i 0 : Nat) : Int) := by
  unfold byteAt nb
  have h1 : i < s.data.toList.length := by rw [Array.length_toList]; exact h
  rw [Int.toNat_natCast, List.getD, List.getD, List.getElem?_map, List.getElem?_eq_getElem h1]
  rfl
theorem nb_bytes {l : List Nat} (h : ∀ x ∈ l, x < 256) : nb (bytesOf (l.map Int.ofNat)) = l := by
  unfold nb bytesOf
  simp only [List.map_map, List.toList_toArray]
  induction l with
  | nil => rfl
  | cons x l ih =>
    rw [List.map_cons, ih (fun y hy => h y (List.mem_cons_of_mem _ hy))]
    have := h x (List.mem_cons_self ..)
    congr 1
    show (UInt8.ofNat (Int.toNat (x : Int))).toNat = x
    rw [Int.toNat_natCast]
    simp
    omega
theorem nb_extract (s : ByteArray) (n : Nat) : nb (ByteArray.extract s 0 n) = (nb s).take n := by
  unfold nb
  simp [ByteArray.data_extract, List.map_take]
theorem vl_lt : ∀ (d a : Nat), a < 128 ^ (d + 1) → ∀ x ∈ vl d a, x < 256
  | 0, a, h, x, hx => by simp [vl] at hx; subst hx; simp at h; omega
  | d + 1, a, h, x, hx => by
    unfold vl at hx
    split at hx
    · rcases List.mem_cons.1 hx with q | q
      · subst q; omega
      · exact vl_lt d _ (by rw [Nat.pow_succ] at h; omega) x q
    · simp at hx; subst hx; omega
/-- A number's text. -/
def varT (a : Nat) : ByteArray := bytesOf ((vl 6 a).map Int.ofNat)
theorem nb_varT {a : Nat} (h : a < 562949953421312) : nb (varT a) = vl 6 a := nb_bytes (vl_lt 6 a (by rw [show (128 : Nat) ^ (6 + 1) = 562949953421312 by decide]; exact h))
theorem var_check {s : ByteArray} {n : Nat} (h0 : 1 ≤ n) (h7 : n ≤ 7) (hs : n ≤ s.size) : seq (varT (dec ((nb s).take n))) (ByteArray.extract s 0 n) = wcan ((nb s).take n) := by
  have hl : ((nb s).take n).length = n := by rw [List.length_take, nb_len]; omega
  have hd : dec ((nb s).take n) < 562949953421312 := by
    have := dec_lt ((nb s).take n)
    rw [hl] at this
    have h2 : (128 : Nat) ^ n ≤ 128 ^ 7 := Nat.pow_le_pow_right (by decide) h7
    rw [show (128 : Nat) ^ 7 = 562949953421312 by decide] at h2
    omega
  rw [Bool.eq_iff_iff, seq_iff]
  constructor
  · intro e
    have e1 : nb (varT (dec ((nb s).take n))) = (nb s).take n := by rw [e, nb_extract]
    rw [nb_varT hd] at e1
    have := (vl_wcan 6 (dec ((nb s).take n)) (by rw [show (128 : Nat) ^ (6 + 1) = 562949953421312 by decide]; exact hd)).1
    rw [e1] at this
    exact this
  · intro c
    refine nb_inj ?_
    rw [nb_varT hd, nb_extract]
    exact wcan_vl 6 _ c (by omega)
end Go.V

/- M: decimal numerals: plain laws. -/
import Derived.Test.YtgcahahklmfleaaGreatDoorMBase
import Derived.Test.YtgcahahklmfleaaGreatDoorCoDig
import Derived.Lib.ItoaNum
import Derived.Lib.AtoiAll
import Derived.Lib.AtoiAllCases
set_option linter.unusedVariables false
set_option linter.unusedSimpArgs false
namespace Go.V
open Go
/-- A numeral's text. -/
def decB (n : Int) : ByteArray := ⟨(Lib.itoa n).toArray⟩
/-- Digits, none for nought. -/
def digs (u : Nat) : List UInt8 := if u = 0 then [] else Lib.decDigits u
theorem digs_zero : digs 0 = [] := rfl
theorem digs_pos {u : Nat} (h : u ≠ 0) : digs u = Lib.decDigits u := if_neg h
theorem digs_step {u : Nat} (h : u ≠ 0) : digs u = digs (u / 10) ++ [UInt8.ofNat (48 + u % 10)] := by
  rw [digs_pos h, Lib.decDigits]
  by_cases c : u < 10
  · rw [dif_pos c, show u / 10 = 0 by omega, digs_zero, List.nil_append, Nat.mod_eq_of_lt c]
  · rw [dif_neg c, digs_pos (by omega)]
theorem decDigits_ne (u : Nat) : Lib.decDigits u ≠ [] := by
  rw [Lib.decDigits]
  split <;> simp
theorem decDigits_zero : Lib.decDigits 0 = [48] := by
  rw [Lib.decDigits, dif_pos (by omega)]
  rfl
theorem digit_nat {d : Nat} (h : d < 10) : (UInt8.ofNat (48 + d)).toNat = 48 + d := by
  simp
  omega
theorem decDigits_digit (u : Nat) : ∀ b ∈ Lib.decDigits u, 48 ≤ b.toNat ∧ b.toNat ≤ 57 := by
  induction u using Nat.strongRecOn with
  | _ u ih =>
    intro b hb
    rw [Lib.decDigits] at hb
    split at hb
    · rename_i h
      rw [List.mem_singleton] at hb
      subst hb
      rw [digit_nat h]
      omega
    · rename_i h
      rcases List.mem_append.1 hb with q | q
      · exact ih (u / 10) (by omega) b q
      · rw [List.mem_singleton] at q
        subst q
        rw [digit_nat (by omega)]
        omega
/-- What digits spell, and how many they are. -/
def spell : List Nat → Nat → Nat
  | [], a => a
  | b :: l, a => spell l (a * 10 + (b - 48))
theorem spell_app : ∀ (l m : List Nat) (a : Nat), spell (l ++ m) a = spell m (spell l a)
  | [], m, a => rfl
  | b :: l, m, a => spell_app l m _
theorem spell_dec (u : Nat) : spell ((Lib.decDigits u).map UInt8.toNat) 0 = u := by
  induction u using Nat.strongRecOn with
  | _ u ih =>
    rw [Lib.decDigits]
    split
    · rename_i h
      simp only [List.map_cons, List.map_nil, spell, digit_nat h]
      omega
    · rename_i h
      rw [List.map_append, spell_app, ih (u / 10) (by omega)]
      simp only [List.map_cons, List.map_nil, spell, digit_nat (show u % 10 < 10 by omega)]
      omega
theorem spell_lt : ∀ (l : List Nat) (a : Nat), (∀ b ∈ l, 48 ≤ b ∧ b ≤ 57) → spell l a < (a + 1) * 10 ^ l.length
  | [], a, _ => by simp [spell]
  | b :: l, a, h => by
    have hb := h b (List.mem_cons_self ..)
    have ih := spell_lt l (a * 10 + (b - 48)) fun x hx => h x (List.mem_cons_of_mem _ hx)
    rw [spell, List.length_cons, Nat.pow_succ, Nat.mul_comm (10 ^ l.length) 10, ← Nat.mul_assoc]
    exact Nat.lt_of_lt_of_le ih (Nat.mul_le_mul (by omega) (Nat.le_refl _))
theorem decDigits_len : ∀ (k u : Nat), u < 10 ^ (k + 1) → (Lib.decDigits u).length ≤ k + 1
  | 0, u, h => by
    rw [Lib.decDigits, dif_pos (by simpa using h)]
    simp
  | k + 1, u, h => by
    rw [Lib.decDigits]
    split
    · simp
    · have := decDigits_len k (u / 10) (by rw [Nat.pow_succ] at h; omega)
      rw [List.length_append]
      show _ + 1 ≤ _
      omega
theorem nb_decB (n : Int) : nb (decB n) = if n < 0 then 45 :: (Lib.decDigits n.natAbs).map UInt8.toNat else (Lib.decDigits n.toNat).map UInt8.toNat := by
  unfold nb decB Lib.itoa
  split <;> simp
theorem decB_inj {a b : Int} (h : decB a = decB b) : a = b := by
  have h1 := congrArg nb h
  rw [nb_decB, nb_decB] at h1
  have hd : ∀ u : Nat, ∀ l, (Lib.decDigits u).map UInt8.toNat ≠ 45 :: l := fun u l q => by
    have hm : (45 : Nat) ∈ (Lib.decDigits u).map UInt8.toNat := by rw [q]; exact List.mem_cons_self ..
    obtain ⟨x, hx, e⟩ := List.mem_map.1 hm
    have := decDigits_digit u x hx
    omega
  by_cases ca : a < 0
  · rw [if_pos ca] at h1
    by_cases cb : b < 0
    · rw [if_pos cb] at h1
      have h2 := (List.cons.inj h1).2
      have h3 := congrArg (fun l => spell l 0) h2
      simp only [spell_dec] at h3
      omega
    · rw [if_neg cb] at h1
      exact absurd h1.symm (hd _ _)
  · rw [if_neg ca] at h1
    by_cases cb : b < 0
    · rw [if_pos cb] at h1
      exact absurd h1 (hd _ _)
    · rw [if_neg cb] at h1
      have h3 := congrArg (fun l => spell l 0) h1
      simp only [spell_dec] at h3
      omega
theorem decB_size {n : Int} (h0 : -1000000000 < n) (h1 : n < 1000000000) : (decB n).size ≤ 10 := by
  rw [← nb_len, nb_decB]
  split
  · have := decDigits_len 8 n.natAbs (by rw [show (10 : Nat) ^ (8 + 1) = 1000000000 by decide]; omega)
    rw [List.length_cons, List.length_map]
    omega
  · have := decDigits_len 8 n.toNat (by rw [show (10 : Nat) ^ (8 + 1) = 1000000000 by decide]; omega)
    rw [List.length_map]
    omega
theorem decB_size20 (n : Int) (h0 : -9223372036854775808 ≤ n) (h1 : n ≤ 9223372036854775807) : (decB n).size ≤ 20 := by
  rw [← nb_len, nb_decB]
  split
  · have := decDigits_len 18 n.natAbs (by rw [show (10 : Nat) ^ (18 + 1) = 10000000000000000000 by decide]; omega)
    rw [List.length_cons, List.length_map]
    omega
  · have := decDigits_len 18 n.toNat (by rw [show (10 : Nat) ^ (18 + 1) = 10000000000000000000 by decide]; omega)
    rw [List.length_map]
    omega
theorem parse_spell : ∀ (l : List UInt8) (a : Nat), (∀ b ∈ l, 48 ≤ b.toNat ∧ b.toNat ≤ 57) → (a + 1) * 10 ^ l.length ≤ 1000000000000000000 → Lib.parseUint10 a l = .ok (spell (l.map UInt8.toNat) a)
  | [], a, _, _ => rfl
  | c :: l, a, h, hb => by
    have hc := h c (List.mem_cons_self ..)
    rw [List.length_cons, Nat.pow_succ, Nat.mul_comm (10 ^ l.length) 10, ← Nat.mul_assoc] at hb
    have hp : 1 ≤ 10 ^ l.length := Nat.one_le_pow _ _ (by decide)
    have h1 : (a + 1) * 10 * 1 ≤ (a + 1) * 10 * 10 ^ l.length := Nat.mul_le_mul (Nat.le_refl _) hp
    have ih := parse_spell l (a * 10 + (c.toNat - 48)) (fun x hx => h x (List.mem_cons_of_mem _ hx)) (Nat.le_trans (Nat.mul_le_mul (by omega) (Nat.le_refl _)) hb)
    rw [Lib.parseUint10, if_pos hc, if_neg (by omega), if_neg (by omega), ih, List.map_cons, spell]
theorem parse_dec {u : Nat} (h : u < 1000000000) : Lib.parseMag (Lib.decDigits u) = .ok u := by
  have hl := decDigits_len 8 u (by rw [show (10 : Nat) ^ (8 + 1) = 1000000000 by decide]; exact h)
  have hp : 10 ^ (Lib.decDigits u).length ≤ 10 ^ 9 := Nat.pow_le_pow_right (by decide) hl
  rw [show (10 : Nat) ^ 9 = 1000000000 by decide] at hp
  unfold Lib.parseMag
  rw [if_neg (decDigits_ne u), parse_spell _ 0 (decDigits_digit u) (by omega), spell_dec]
theorem atoi_dec {n : Int} (h0 : -1000000000 < n) (h1 : n < 1000000000) : Lib.atoiAll (Lib.itoa n) = .ok n := by
  unfold Lib.itoa
  by_cases c : n < 0
  · rw [if_pos c, Lib.atoiAll_minus, parse_dec (by omega)]
    simp only [Lib.signed]
    rw [if_neg (by omega)]
    congr 1
    omega
  · rw [if_neg c]
    have hp := parse_dec (u := n.toNat) (by omega)
    cases q : Lib.decDigits n.toNat with
    | nil => exact absurd q (decDigits_ne _)
    | cons d r =>
      have hd := decDigits_digit n.toNat d (by rw [q]; exact List.mem_cons_self ..)
      rw [q] at hp
      rw [Lib.atoiAll_plain d r (by omega) (by omega), hp]
      simp only [Lib.signless]
      rw [if_neg (by omega)]
      congr 1
      omega
end Go.V

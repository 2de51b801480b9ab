/- Plain laws, merged; what is proved here is told ahead of each part. -/
import Derived.Test.YtccccehgfmphjaaDoorZNamesE
import Derived.Lib.ItoaNum
import Derived.Lib.AtoiAll
import Derived.Lib.AtoiAllCases
import Derived.Test.YtccccehgfmphjaaDoorVPure
import Derived.Test.YtccccehgfmphjaaDoorXLib
/- M: plain laws with one bound on rounds: a printed function that is given 2^50 rounds answers. General loops; words. -/
set_option linter.unusedVariables false
set_option linter.unusedSimpArgs false
namespace Go.V

theorem decT {p : Prop} [Decidable p] (h : p) : decide p = true := decide_eq_true h
theorem decF {p : Prop} [Decidable p] (h : ¬ p) : decide p = false := decide_eq_false h
theorem rm_ok {R : Type} {b n : Nat} {k : Option R} (h : n ≤ 1099511627776) (hb : b ≤ 128) : rm b n k = k :=
  rm_eq (Nat.le_trans (Nat.mul_le_mul h hb) (by decide)) (by omega)
theorem cat_ok {R : Type} {a b : ByteArray} {k : Option R} (h : a.size + b.size ≤ 4611686018427387904) : cat a b k = k := cat_eq (by omega)
theorem wu32_ok {n : Int} (h0 : 0 ≤ n) (h1 : n ≤ 4294967295) : IntKind.wrap .u32 n = n := by
  unfold IntKind.wrap
  simp [IntKind.bits, IntKind.signed]
  omega
theorem wu8_ok {n : Int} (h0 : 0 ≤ n) (h1 : n ≤ 255) : IntKind.wrap .u8 n = n := by
  unfold IntKind.wrap
  simp [IntKind.bits, IntKind.signed]
  omega
theorem ev_big {α : Type} {g : Nat → Option α} {r : α} (h : ∀ k, 2 ^ 50 ≤ k → g k = some r) : Ev g r := ⟨2 ^ 50, h⟩
section
variable {α σ ρ : Type}
/-- A loop whose measure falls. -/
theorem forM {L : Nat → σ → Option ρ} {R : σ → Option ρ} (μ : σ → Nat) (P : σ → Prop)
    (h : ∀ n s, P s → (∀ s', P s' → μ s' < μ s → L n s' = R s') → L (n + 1) s = R s) : ∀ n s, P s → μ s < n → L n s = R s
  | 0, s, _, hn => by omega
  | n + 1, s, hs, hn => h n s hs fun s' h1 h2 => forM μ P h n s' h1 (by omega)
/-- A loop over the places 0 .. N-1. -/
theorem forI {L : Nat → Int → σ → Option ρ} {R : Int → σ → Option ρ} (N : Int) (P : Int → σ → Prop)
    (h0 : ∀ (n : Nat) s, P N s → L (n + 1) N s = R N s)
    (h1 : ∀ (n : Nat) (i : Int) s, 0 ≤ i → i < N → P i s → (∀ s', P (i + 1) s' → L n (i + 1) s' = R (i + 1) s') → L (n + 1) i s = R i s) :
    ∀ (n : Nat) (i : Int) s, 0 ≤ i → i ≤ N → N - i < n → P i s → L n i s = R i s
  | 0, i, s, hi, hN, hn, _ => by omega
  | n + 1, i, s, hi, hN, hn, hs => by
    by_cases c : i = N
    · subst c; exact h0 n s hs
    · exact h1 n i s hi (by omega) hs fun s' q => forI N P h0 h1 n (i + 1) s' (by omega) (by omega) (by omega) q
/-- A loop over a row. -/
theorem forL {L : Nat → Int → σ → Option ρ} {R : List α → σ → Option ρ} (z : α) (l : List α) (P : Int → σ → Prop)
    (h0 : ∀ (n : Nat) s, P l.length s → L (n + 1) l.length s = R [] s)
    (h1 : ∀ (n : Nat) (i : Int) s x rest, 0 ≤ i → i < l.length → l.getD i.toNat z = x → l.drop i.toNat = x :: rest → P i s → (∀ s', P (i + 1) s' → L n (i + 1) s' = R rest s') → L (n + 1) i s = R (x :: rest) s) :
    ∀ (n : Nat) (i : Int) s, 0 ≤ i → i ≤ l.length → (l.length : Int) - i < n → P i s → L n i s = R (l.drop i.toNat) s := by
  intro n i s hi hN hn hs
  refine forI (L := L) (R := fun i s => R (l.drop i.toNat) s) l.length P (fun n s q => ?_) (fun n i s hi hlt q ih => ?_) n i s hi hN hn hs
  · rw [h0 n s q, Int.toNat_natCast, List.drop_length]
  · have hl : i.toNat < l.length := by omega
    have e : l.drop i.toNat = l.getD i.toNat z :: l.drop (i + 1).toNat := by
      rw [List.drop_eq_getElem_cons hl, show (i + 1).toNat = i.toNat + 1 by omega]
      simp [List.getD, hl]
    show _ = R (l.drop i.toNat) s
    rw [e]
    exact h1 n i s _ _ hi hlt rfl e q ih
/-- A whole row's loop. -/
theorem forL0 {L : Nat → Int → σ → Option ρ} {R : List α → σ → Option ρ} (z : α) (l : List α) (P : Int → σ → Prop)
    (h0 : ∀ (n : Nat) s, P l.length s → L (n + 1) l.length s = R [] s)
    (h1 : ∀ (n : Nat) (i : Int) s x rest, 0 ≤ i → i < l.length → l.getD i.toNat z = x → l.drop i.toNat = x :: rest → P i s → (∀ s', P (i + 1) s' → L n (i + 1) s' = R rest s') → L (n + 1) i s = R (x :: rest) s)
    {n : Nat} {s : σ} (hn : l.length < n) (hs : P 0 s) : L n 0 s = R l s := by
  have := forL z l P h0 h1 n 0 s (by omega) (by omega) (by omega) hs
  simpa using this
end
theorem seqF {a b : ByteArray} (h : a ≠ b) : seq a b = false := by
  cases c : seq a b
  · rfl
  · exact absurd (seq_iff.1 c) h
theorem seqT {a b : ByteArray} (h : a = b) : seq a b = true := seq_iff.2 h
end Go.V

/- Numbers' digits of seven bits, and texts' bytes. -/
set_option linter.unusedVariables false
set_option linter.unusedSimpArgs false
namespace Go.V
/-- A number's digits of seven bits, each but the last with the mark 128. -/
def vl : Nat → Nat → List Nat
  | 0, a => [a]
  | d + 1, a => if a ≥ 128 then (128 + a % 128) :: vl d (a / 128) else [a]
end Go.V
namespace Go.V
/-- A text's bytes. -/
def nb (s : ByteArray) : List Nat := s.data.toList.map UInt8.toNat
theorem nb_len (s : ByteArray) : (nb s).length = s.size := by
  unfold nb
  rw [List.length_map, Array.length_toList]
  rfl
theorem nb_lt {s : ByteArray} {x : Nat} (h : x ∈ nb s) : x < 256 := by
  unfold nb at h
  rw [List.mem_map] at h
  obtain ⟨y, _, rfl⟩ := h
  exact UInt8.toNat_lt y
theorem nb_inj {a b : ByteArray} (h : nb a = nb b) : a = b := by
  unfold nb at h
  have h1 : a.data.toList = b.data.toList := List.map_inj_right (fun x y e => UInt8.toNat_inj.1 e) |>.1 h
  exact ByteArray.ext (Array.toList_inj.1 h1)
theorem nb_at {s : ByteArray} {i : Nat} (h : i < s.size) : byteAt s (i : Int) = (((nb s).getD i 0 : Nat) : Int) := by
  unfold byteAt nb
  have h1 : i < s.data.toList.length := by rw [Array.length_toList]; exact h
  rw [Int.toNat_natCast, List.getD, List.getD, List.getElem?_map, List.getElem?_eq_getElem h1]
  rfl
theorem nb_bytes {l : List Nat} (h : ∀ x ∈ l, x < 256) : nb (bytesOf (l.map Int.ofNat)) = l := by
  unfold nb bytesOf
  simp only [List.map_map, List.toList_toArray]
  induction l with
  | nil => rfl
  | cons x l ih =>
    rw [List.map_cons, ih (fun y hy => h y (List.mem_cons_of_mem _ hy))]
    have := h x (List.mem_cons_self ..)
    congr 1
    show (UInt8.ofNat (Int.toNat (x : Int))).toNat = x
    rw [Int.toNat_natCast]
    simp
    omega
theorem nb_extract (s : ByteArray) (n : Nat) : nb (ByteArray.extract s 0 n) = (nb s).take n := by
  unfold nb
  simp [ByteArray.data_extract, List.map_take]
theorem vl_lt : ∀ (d a : Nat), a < 128 ^ (d + 1) → ∀ x ∈ vl d a, x < 256
  | 0, a, h, x, hx => by simp [vl] at hx; subst hx; simp at h; omega
  | d + 1, a, h, x, hx => by
    unfold vl at hx
    split at hx
    · rcases List.mem_cons.1 hx with q | q
      · subst q; omega
      · exact vl_lt d _ (by rw [Nat.pow_succ] at h; omega) x q
    · simp at hx; subst hx; omega
/-- A number's text. -/
def varT (a : Nat) : ByteArray := bytesOf ((vl 6 a).map Int.ofNat)
theorem nb_varT {a : Nat} (h : a < 562949953421312) : nb (varT a) = vl 6 a := nb_bytes (vl_lt 6 a (by rw [show (128 : Nat) ^ (6 + 1) = 562949953421312 by decide]; exact h))
end Go.V

/- M: decimal numerals: plain laws. -/
set_option linter.unusedVariables false
set_option linter.unusedSimpArgs false
namespace Go.V
open Go
/-- A numeral's text. -/
def decB (n : Int) : ByteArray := ⟨(Lib.itoa n).toArray⟩
/-- Digits, none for nought. -/
def digs (u : Nat) : List UInt8 := if u = 0 then [] else Lib.decDigits u
theorem digs_zero : digs 0 = [] := rfl
theorem digs_pos {u : Nat} (h : u ≠ 0) : digs u = Lib.decDigits u := if_neg h
theorem digs_step {u : Nat} (h : u ≠ 0) : digs u = digs (u / 10) ++ [UInt8.ofNat (48 + u % 10)] := by
  rw [digs_pos h, Lib.decDigits]
  by_cases c : u < 10
  · rw [dif_pos c, show u / 10 = 0 by omega, digs_zero, List.nil_append, Nat.mod_eq_of_lt c]
  · rw [dif_neg c, digs_pos (by omega)]
theorem decDigits_ne (u : Nat) : Lib.decDigits u ≠ [] := by
  rw [Lib.decDigits]
  split <;> simp
theorem decDigits_zero : Lib.decDigits 0 = [48] := by
  rw [Lib.decDigits, dif_pos (by omega)]
  rfl
theorem digit_nat {d : Nat} (h : d < 10) : (UInt8.ofNat (48 + d)).toNat = 48 + d := by
  simp
  omega
theorem decDigits_digit (u : Nat) : ∀ b ∈ Lib.decDigits u, 48 ≤ b.toNat ∧ b.toNat ≤ 57 := by
  induction u using Nat.strongRecOn with
  | _ u ih =>
    intro b hb
    rw [Lib.decDigits] at hb
    split at hb
    · rename_i h
      rw [List.mem_singleton] at hb
      subst hb
      rw [digit_nat h]
      omega
    · rename_i h
      rcases List.mem_append.1 hb with q | q
      · exact ih (u / 10) (by omega) b q
      · rw [List.mem_singleton] at q
        subst q
        rw [digit_nat (by omega)]
        omega
/-- What digits spell, and how many they are. -/
def spell : List Nat → Nat → Nat
  | [], a => a
  | b :: l, a => spell l (a * 10 + (b - 48))
theorem spell_app : ∀ (l m : List Nat) (a : Nat), spell (l ++ m) a = spell m (spell l a)
  | [], m, a => rfl
  | b :: l, m, a => spell_app l m _
theorem spell_dec (u : Nat) : spell ((Lib.decDigits u).map UInt8.toNat) 0 = u := by
  induction u using Nat.strongRecOn with
  | _ u ih =>
    rw [Lib.decDigits]
    split
    · rename_i h
      simp only [List.map_cons, List.map_nil, spell, digit_nat h]
      omega
    · rename_i h
      rw [List.map_append, spell_app, ih (u / 10) (by omega)]
      simp only [List.map_cons, List.map_nil, spell, digit_nat (show u % 10 < 10 by omega)]
      omega
theorem decDigits_len : ∀ (k u : Nat), u < 10 ^ (k + 1) → (Lib.decDigits u).length ≤ k + 1
  | 0, u, h => by
    rw [Lib.decDigits, dif_pos (by simpa using h)]
    simp
  | k + 1, u, h => by
    rw [Lib.decDigits]
    split
    · simp
    · have := decDigits_len k (u / 10) (by rw [Nat.pow_succ] at h; omega)
      rw [List.length_append]
      show _ + 1 ≤ _
      omega
theorem nb_decB (n : Int) : nb (decB n) = if n < 0 then 45 :: (Lib.decDigits n.natAbs).map UInt8.toNat else (Lib.decDigits n.toNat).map UInt8.toNat := by
  unfold nb decB Lib.itoa
  split <;> simp
theorem decB_inj {a b : Int} (h : decB a = decB b) : a = b := by
  have h1 := congrArg nb h
  rw [nb_decB, nb_decB] at h1
  have hd : ∀ u : Nat, ∀ l, (Lib.decDigits u).map UInt8.toNat ≠ 45 :: l := fun u l q => by
    have hm : (45 : Nat) ∈ (Lib.decDigits u).map UInt8.toNat := by rw [q]; exact List.mem_cons_self ..
    obtain ⟨x, hx, e⟩ := List.mem_map.1 hm
    have := decDigits_digit u x hx
    omega
  by_cases ca : a < 0
  · rw [if_pos ca] at h1
    by_cases cb : b < 0
    · rw [if_pos cb] at h1
      have h2 := (List.cons.inj h1).2
      have h3 := congrArg (fun l => spell l 0) h2
      simp only [spell_dec] at h3
      omega
    · rw [if_neg cb] at h1
      exact absurd h1.symm (hd _ _)
  · rw [if_neg ca] at h1
    by_cases cb : b < 0
    · rw [if_pos cb] at h1
      exact absurd h1 (hd _ _)
    · rw [if_neg cb] at h1
      have h3 := congrArg (fun l => spell l 0) h1
      simp only [spell_dec] at h3
      omega
theorem decB_size {n : Int} (h0 : -1000000000 < n) (h1 : n < 1000000000) : (decB n).size ≤ 10 := by
  rw [← nb_len, nb_decB]
  split
  · have := decDigits_len 8 n.natAbs (by rw [show (10 : Nat) ^ (8 + 1) = 1000000000 by decide]; omega)
    rw [List.length_cons, List.length_map]
    omega
  · have := decDigits_len 8 n.toNat (by rw [show (10 : Nat) ^ (8 + 1) = 1000000000 by decide]; omega)
    rw [List.length_map]
    omega
theorem decB_size20 (n : Int) (h0 : -9223372036854775808 ≤ n) (h1 : n ≤ 9223372036854775807) : (decB n).size ≤ 20 := by
  rw [← nb_len, nb_decB]
  split
  · have := decDigits_len 18 n.natAbs (by rw [show (10 : Nat) ^ (18 + 1) = 10000000000000000000 by decide]; omega)
    rw [List.length_cons, List.length_map]
    omega
  · have := decDigits_len 18 n.toNat (by rw [show (10 : Nat) ^ (18 + 1) = 10000000000000000000 by decide]; omega)
    rw [List.length_map]
    omega
theorem parse_spell : ∀ (l : List UInt8) (a : Nat), (∀ b ∈ l, 48 ≤ b.toNat ∧ b.toNat ≤ 57) → (a + 1) * 10 ^ l.length ≤ 1000000000000000000 → Lib.parseUint10 a l = .ok (spell (l.map UInt8.toNat) a)
  | [], a, _, _ => rfl
  | c :: l, a, h, hb => by
    have hc := h c (List.mem_cons_self ..)
    rw [List.length_cons, Nat.pow_succ, Nat.mul_comm (10 ^ l.length) 10, ← Nat.mul_assoc] at hb
    have hp : 1 ≤ 10 ^ l.length := Nat.one_le_pow _ _ (by decide)
    have h1 : (a + 1) * 10 * 1 ≤ (a + 1) * 10 * 10 ^ l.length := Nat.mul_le_mul (Nat.le_refl _) hp
    have ih := parse_spell l (a * 10 + (c.toNat - 48)) (fun x hx => h x (List.mem_cons_of_mem _ hx)) (Nat.le_trans (Nat.mul_le_mul (by omega) (Nat.le_refl _)) hb)
    rw [Lib.parseUint10, if_pos hc, if_neg (by omega), if_neg (by omega), ih, List.map_cons, spell]
theorem parse_dec {u : Nat} (h : u < 1000000000) : Lib.parseMag (Lib.decDigits u) = .ok u := by
  have hl := decDigits_len 8 u (by rw [show (10 : Nat) ^ (8 + 1) = 1000000000 by decide]; exact h)
  have hp : 10 ^ (Lib.decDigits u).length ≤ 10 ^ 9 := Nat.pow_le_pow_right (by decide) hl
  rw [show (10 : Nat) ^ 9 = 1000000000 by decide] at hp
  unfold Lib.parseMag
  rw [if_neg (decDigits_ne u), parse_spell _ 0 (decDigits_digit u) (by omega), spell_dec]
theorem atoi_dec {n : Int} (h0 : -1000000000 < n) (h1 : n < 1000000000) : Lib.atoiAll (Lib.itoa n) = .ok n := by
  unfold Lib.itoa
  by_cases c : n < 0
  · rw [if_pos c, Lib.atoiAll_minus, parse_dec (by omega)]
    simp only [Lib.signed]
    rw [if_neg (by omega)]
    congr 1
    omega
  · rw [if_neg c]
    have hp := parse_dec (u := n.toNat) (by omega)
    cases q : Lib.decDigits n.toNat with
    | nil => exact absurd q (decDigits_ne _)
    | cons d r =>
      have hd := decDigits_digit n.toNat d (by rw [q]; exact List.mem_cons_self ..)
      rw [q] at hp
      rw [Lib.atoiAll_plain d r (by omega) (by omega), hp]
      simp only [Lib.signless]
      rw [if_neg (by omega)]
      congr 1
      omega
end Go.V

/- M: rows whose places are right beside the ones ahead. -/
set_option linter.unusedVariables false
set_option linter.unusedSimpArgs false
namespace Go.V
section
variable {α ρ : Type}
/-- A row is right if each of its places is right beside the one ahead. -/
def adj (ok : Option α → α → Bool) : Option α → List α → Bool
  | _, [] => true
  | p, x :: l => ok p x && adj ok (some x) l
theorem forAdj {L : Nat → Int → Option ρ} (z : α) (l : List α) (ok : Option α → α → Bool) (yes no : Option ρ) (h0 : ∀ (n : Nat), L (n + 1) l.length = yes)
    (h1 : ∀ (n : Nat) x, 0 < l.length → l.getD (Int.toNat 0) z = x → L (n + 1) 0 = bif ok none x then L n 1 else no)
    (h2 : ∀ (n : Nat) (i : Int) x y, 0 < i → i < l.length → l.getD i.toNat z = x → l.getD (i - 1).toNat z = y → L (n + 1) i = bif ok (some y) x then L n (i + 1) else no)
    {n : Nat} (hn : l.length < n) : L n 0 = bif adj ok none l then yes else no := by
  have key : ∀ (d i n : Nat), l.length = i + d → 0 < i → d < n → L n (i : Int) = bif adj ok (some (l.getD (i - 1) z)) (l.drop i) then yes else no := by
    intro d
    induction d with
    | zero =>
      intro i n h h' hn
      obtain ⟨n, rfl⟩ : ∃ q, n = q + 1 := ⟨n - 1, by omega⟩
      have : i = l.length := by omega
      subst this
      rw [h0 n, List.drop_length]
      rfl
    | succ d ih =>
      intro i n h h' hn
      obtain ⟨n, rfl⟩ : ∃ q, n = q + 1 := ⟨n - 1, by omega⟩
      have hl : i < l.length := by omega
      have e : l.drop i = l.getD i z :: l.drop (i + 1) := by
        rw [List.drop_eq_getElem_cons hl]
        simp [List.getD, hl]
      have ih := ih (i + 1) n (by omega) (by omega) (by omega)
      rw [h2 n i (l.getD i z) (l.getD (i - 1) z) (by omega) (by omega) (by rw [Int.toNat_natCast]) (by rw [show ((i : Int) - 1).toNat = i - 1 by omega]), e, adj]
      rw [show ((i : Int) + 1) = ((i + 1 : Nat) : Int) by omega, ih, show i + 1 - 1 = i by omega]
      cases ok (some (l.getD (i - 1) z)) (l.getD i z) <;> rfl
  obtain ⟨n, rfl⟩ : ∃ q, n = q + 1 := ⟨n - 1, by omega⟩
  cases l with
  | nil => exact h0 n
  | cons x l =>
    rw [h1 n x (by simp) rfl, adj]
    have := key l.length 1 n (by rw [List.length_cons]; omega) (by omega) (by rw [List.length_cons] at hn; omega)
    rw [show ((1 : Nat) : Int) = 1 from rfl] at this
    rw [this]
    cases ok none x <;> rfl
theorem adj_all {ok : Option α → α → Bool} {l : List α} {p : Option α} (h : adj ok p l = true) {x : α} (hx : x ∈ l) : ∃ q, ok q x = true := by
  induction l generalizing p with
  | nil => cases hx
  | cons y l ih =>
    rw [adj, Bool.and_eq_true] at h
    rcases List.mem_cons.1 hx with e | e
    · subst e; exact ⟨p, h.1⟩
    · exact ih h.2 e
end
end Go.V
namespace Go.V
theorem getD_take {α : Type} {l : List α} {n i : Nat} {z : α} (h : i < n) : (l.take n).getD i z = l.getD i z := by
  simp [List.getD, List.getElem?_take, h]
theorem len_snoc {α : Type} (l : List α) (x : α) : (l ++ [x]).length = l.length + 1 := by simp
end Go.V

/- M: Dec, NameOk, DiskOk, FileText, SegName, SegBytes, DeadBytes: what they answer, in both readings. -/
set_option linter.unusedVariables false
set_option linter.unusedSimpArgs false
namespace Go.V
def dB (l : List UInt8) : ByteArray := ⟨l.toArray⟩
theorem dB_app (a b : List UInt8) : dB a ++ dB b = dB (a ++ b) := by
  apply ByteArray.ext
  simp [dB, ByteArray.data_append]
theorem dB_size (l : List UInt8) : (dB l).size = l.length := by simp [dB, ByteArray.size]
theorem ba_nil (s : ByteArray) : dB [] ++ s = s := by
  apply ByteArray.ext
  simp [dB, ByteArray.data_append]
theorem ba_end (s : ByteArray) : s ++ dB [] = s := by
  apply ByteArray.ext
  simp [dB, ByteArray.data_append]
theorem ba_assoc (a b c : ByteArray) : a ++ b ++ c = a ++ (b ++ c) := by
  apply ByteArray.ext
  simp [ByteArray.data_append]
theorem decB_eq (n : Int) (h : n ≠ 0) : decB n = (bif decide (n < 0) then dB [45] else dB []) ++ dB (digs n.natAbs) := by
  unfold decB Lib.itoa
  by_cases c : n < 0
  · rw [if_pos c, decT c, cond_true, dB_app, digs_pos (by omega)]
    rfl
  · rw [if_neg c, decF c, cond_false, ba_nil, digs_pos (by omega), show n.natAbs = n.toNat by omega]
    rfl
theorem digs_len {u : Nat} (h : u ≤ 9223372036854775808) : (digs u).length ≤ 19 := by
  by_cases c : u = 0
  · subst c; decide
  · rw [digs_pos c]
    exact decDigits_len 18 u (by rw [show (10 : Nat) ^ (18 + 1) = 10000000000000000000 by decide]; omega)
theorem decB_small {n : Int} (h0 : -9223372036854775808 ≤ n) (h1 : n ≤ 9223372036854775807) : (decB n).size ≤ 20 := decB_size20 n h0 h1
/-- A name: of small letters and digits. -/
def nmBytes : List Nat → Bool
  | [] => true
  | b :: l => (decide (97 ≤ b ∧ b ≤ 122) || decide (48 ≤ b ∧ b ≤ 57)) && nmBytes l
def nameM (s : ByteArray) : Bool := nmBytes (nb s) && decide (1 ≤ s.size ∧ s.size ≤ 12)
end Go.V
namespace Go.Proofs.YtccccehgfmphjaaDoor.G
open Go.V
theorem specDec_eq {k : Nat} (hk : 2 ^ 50 ≤ k) {n : Int} (h0 : -9223372036854775808 ≤ n) (h1 : n ≤ 9223372036854775807) : spec_Dec.f k n = some (decB n, ()) := by
  unfold spec_Dec.f spec_Dec.t
  by_cases c : n = 0
  · subst c
    have : decB 0 = (⟨#[48]⟩ : ByteArray) := by
      unfold decB Lib.itoa
      rw [if_neg (by decide), show (0 : Int).toNat = 0 from rfl, decDigits_zero]
    rw [this]
    rfl
  · rw [show (n == 0) = false from beq_eq_false_iff_ne.2 c, cond_false]
    have key := forM (L := fun m (s : Int × ByteArray) => spec_Dec.l0 k m s.1 s.2 (decide (n < 0))) (R := fun s => some ((bif decide (n < 0) then dB [45] else dB []) ++ (dB (digs s.1.natAbs) ++ s.2), ()))
      (fun s => (digs s.1.natAbs).length) (fun s => -9223372036854775808 ≤ s.1 ∧ s.1 ≤ 9223372036854775807 ∧ s.2.size + (digs s.1.natAbs).length ≤ 1000) ?_ k (n, (⟨#[]⟩ : ByteArray))
      ⟨h0, h1, by have := digs_len (u := n.natAbs) (by omega); show 0 + (digs n.natAbs).length ≤ 1000; omega⟩ (by have := digs_len (u := n.natAbs) (by omega); show (digs n.natAbs).length < k; omega)
    · refine key.trans ?_
      simp only []
      rw [decB_eq n c, show (⟨#[]⟩ : ByteArray) = dB [] from rfl, ba_end]
    · intro m s hs ih
      obtain ⟨x, acc⟩ := s
      obtain ⟨g0, g1, g2⟩ := hs
      simp only [] at g0 g1 g2 ih ⊢
      by_cases cx : x = 0
      · subst cx
        have hz : digs (Int.natAbs 0) = [] := rfl
        rw [hz] at g2 ⊢
        rw [ba_nil]
        unfold spec_Dec.l0 spec_Dec.b0
        rw [show ((0 : Int) != 0) = false from rfl, cond_false]
        cases decide (n < 0)
        · rw [cond_false, cond_false, ba_nil]
        · rw [cond_true, cond_true, cat_ok (by rw [show (⟨#[45]⟩ : ByteArray).size = 1 from rfl]; omega)]
          rfl
      · have hd := digs_step (u := x.natAbs) (by omega)
        have hb : bytesOf [48 + ((x.natAbs % 10 : Nat) : Int)] = dB [UInt8.ofNat (48 + x.natAbs % 10)] := rfl
        have hm : x.natAbs % 10 < 10 := Nat.mod_lt _ (by decide)
        have hl : (digs x.natAbs).length = (digs (x.natAbs / 10)).length + 1 := by rw [hd, List.length_append]; rfl
        have hr : (dB [UInt8.ofNat (48 + x.natAbs % 10)] ++ acc).size = 1 + acc.size := by rw [ByteArray.size_append]; rfl
        have fin : ∀ y : Int, y.natAbs = x.natAbs / 10 → -9223372036854775808 ≤ y → y ≤ 9223372036854775807 →
            spec_Dec.l0 k m (w64 y) (dB [UInt8.ofNat (48 + x.natAbs % 10)] ++ acc) (decide (n < 0)) = some ((bif decide (n < 0) then dB [45] else dB []) ++ (dB (digs x.natAbs) ++ acc), ()) := fun y hy q0 q1 => by
          rw [w64_eq q0 q1]
          have := ih (y, dB [UInt8.ofNat (48 + x.natAbs % 10)] ++ acc) ⟨q0, q1, by simp only []; rw [hr, hy]; omega⟩ (by simp only []; rw [hy]; omega)
          simp only [] at this
          rw [this, hy, hd, ← dB_app, ba_assoc]
        unfold spec_Dec.l0 spec_Dec.b0
        rw [show (x != 0) = true from bne_iff_ne.2 cx, cond_true]
        obtain ⟨u, rfl | rfl⟩ := Int.eq_nat_or_neg x
        · have e1 : Int.tmod (u : Int) 10 = ((u % 10 : Nat) : Int) := rfl
          have e2 : Int.tdiv (u : Int) 10 = ((u / 10 : Nat) : Int) := rfl
          rw [Int.natAbs_natCast] at *
          rw [e1, e2, decF (by omega), cond_false, w64_eq (n := 48 + ((u % 10 : Nat) : Int)) (by omega) (by omega), wu8_ok (by omega) (by omega), hb, cat_ok (by rw [dB_size]; simp only [List.length_singleton]; omega)]
          exact fin _ (by omega) (by omega) (by omega)
        · have e1 : Int.tmod (-(u : Int)) 10 = -((u % 10 : Nat) : Int) := Int.neg_tmod (a := (u : Int)) (b := 10)
          have e2 : Int.tdiv (-(u : Int)) 10 = -((u / 10 : Nat) : Int) := Int.neg_tdiv (u : Int) 10
          rw [Int.natAbs_neg, Int.natAbs_natCast] at *
          rw [e1, e2]
          by_cases cz : u % 10 = 0
          · rw [decF (by omega), cond_false, show (48 : Int) + -((u % 10 : Nat) : Int) = 48 + ((u % 10 : Nat) : Int) by omega, w64_eq (n := 48 + ((u % 10 : Nat) : Int)) (by omega) (by omega), wu8_ok (by omega) (by omega), hb, cat_ok (by rw [dB_size]; simp only [List.length_singleton]; omega)]
            exact fin _ (by omega) (by omega) (by omega)
          · rw [decT (by omega), cond_true, w64_eq (n := 0 - -((u % 10 : Nat) : Int)) (by omega) (by omega), show (48 : Int) + (0 - -((u % 10 : Nat) : Int)) = 48 + ((u % 10 : Nat) : Int) by omega, w64_eq (n := 48 + ((u % 10 : Nat) : Int)) (by omega) (by omega), wu8_ok (by omega) (by omega), hb, cat_ok (by rw [dB_size]; simp only [List.length_singleton]; omega)]
            exact fin _ (by omega) (by omega) (by omega)
theorem implDec_eq (k : Nat) {n : Int} (h0 : -9223372036854775808 ≤ n) (h1 : n ≤ 9223372036854775807) : impl_Dec.f k n = some (decB n, ()) := by
  unfold impl_Dec.f impl_Dec.t lib_Itoa.f
  rw [decT ⟨h0, h1⟩]
  rfl
theorem inD_eq (k : Nat) (a b c : Int) : impl_in.f k a b c = some (decide (b ≤ a ∧ a ≤ c), ()) := by
  unfold impl_in.f impl_in.t
  by_cases h : a ≥ b
  · rw [decT h, cond_true, decide_eq_decide.2 (show (b ≤ a ∧ a ≤ c) ↔ a ≤ c from ⟨fun q => q.2, fun q => ⟨h, q⟩⟩)]
  · rw [decF h, cond_false, decF (fun q => h q.1)]
theorem l1InD_eq (k : Nat) (a b c : Int) : spec_l1In.f k a b c = some (decide (b ≤ a ∧ a ≤ c), ()) := by
  unfold spec_l1In.f spec_l1In.t
  by_cases h : a ≥ b
  · rw [decT h, cond_true, decide_eq_decide.2 (show (b ≤ a ∧ a ≤ c) ↔ a ≤ c from ⟨fun q => q.2, fun q => ⟨h, q⟩⟩)]
  · rw [decF h, cond_false, decF (fun q => h q.1)]
/- Names. -/
theorem nb_byte {s : ByteArray} {i : Int} {x : Nat} (h0 : 0 ≤ i) (h1 : i < ((nb s).length : Int)) (hx : (nb s).getD i.toNat 0 = x) : byteAt s i = (x : Int) := by
  rw [nb_len] at h1
  have := nb_at (s := s) (i := i.toNat) (by omega)
  rw [show ((i.toNat : Nat) : Int) = i by omega, hx] at this
  exact this
theorem nameM_eq {s : ByteArray} : (some ((bif nmBytes (nb s) then decide (1 ≤ (s.size : Int) ∧ (s.size : Int) ≤ 12) else false), ()) : Option (Bool × Unit)) = some (nameM s, ()) := by
  unfold nameM
  rw [decide_eq_decide.2 (show (1 ≤ (s.size : Int) ∧ (s.size : Int) ≤ 12) ↔ (1 ≤ s.size ∧ s.size ≤ 12) by omega)]
  cases nmBytes (nb s) <;> rfl
theorem specName_eq {k : Nat} (hk : 2 ^ 50 ≤ k) {s : ByteArray} (hs : s.size ≤ 1099511627776) : spec_NameOk.f k s = some (nameM s, ()) := by
  unfold spec_NameOk.f spec_NameOk.t
  have hn := nb_len s
  refine (forL0 (L := fun n i (_ : Unit) => spec_NameOk.l0 k n s i) (R := fun r _ => some ((bif nmBytes r then decide (1 ≤ (s.size : Int) ∧ (s.size : Int) ≤ 12) else false), ())) 0 (nb s) (fun _ _ => True) (fun n _ _ => ?_) (fun n i _ x rest h0 h1 hx hr hp ih => ?_) (n := k) (s := ()) (by omega) trivial).trans nameM_eq
  · simp only [hn]
    simp (disch := omega) only [spec_NameOk.l0, spec_NameOk.b0, decF, cond_false, l1InD_eq k, Option.bind_some, nmBytes, cond_true]
  · have hb := nb_byte h0 h1 hx
    have ih := ih () trivial
    simp only [hn] at *
    simp (disch := omega) only [spec_NameOk.l0, spec_NameOk.b0, decT h1, cond_true, inb_eq, hb, w64_eq, ih, nmBytes]
    by_cases c1 : 97 ≤ x
    · rw [decT (show (x : Int) ≥ 97 by omega), cond_true]
      by_cases c2 : x ≤ 122
      · rw [decT (show (x : Int) ≤ 122 by omega), cond_true, decT (show 97 ≤ x ∧ x ≤ 122 from ⟨c1, c2⟩)]
        rfl
      · rw [decF (show ¬ (x : Int) ≤ 122 by omega), cond_false, decF (show ¬ (97 ≤ x ∧ x ≤ 122) by omega), decT (show (x : Int) ≥ 48 by omega), cond_true, decF (show ¬ (x : Int) ≤ 57 by omega), decF (show ¬ (48 ≤ x ∧ x ≤ 57) by omega)]
        rfl
    · rw [decF (show ¬ (x : Int) ≥ 97 by omega), cond_false, decF (show ¬ (97 ≤ x ∧ x ≤ 122) by omega)]
      by_cases c3 : 48 ≤ x
      · rw [decT (show (x : Int) ≥ 48 by omega), cond_true]
        by_cases c4 : x ≤ 57
        · rw [decT (show (x : Int) ≤ 57 by omega), decT (show 48 ≤ x ∧ x ≤ 57 from ⟨c3, c4⟩)]
          rfl
        · rw [decF (show ¬ (x : Int) ≤ 57 by omega), decF (show ¬ (48 ≤ x ∧ x ≤ 57) by omega)]
          rfl
      · rw [decF (show ¬ (x : Int) ≥ 48 by omega), cond_false, decF (show ¬ (48 ≤ x ∧ x ≤ 57) by omega)]
        rfl
theorem implName_eq {k : Nat} (hk : 2 ^ 50 ≤ k) {s : ByteArray} (hs : s.size ≤ 1099511627776) : impl_NameOk.f k s = some (nameM s, ()) := by
  unfold impl_NameOk.f impl_NameOk.t
  have hn := nb_len s
  refine (forL0 (L := fun n i (_ : Unit) => impl_NameOk.l0 k n s i) (R := fun r _ => some ((bif nmBytes r then decide (1 ≤ (s.size : Int) ∧ (s.size : Int) ≤ 12) else false), ())) 0 (nb s) (fun _ _ => True) (fun n _ _ => ?_) (fun n i _ x rest h0 h1 hx hr hp ih => ?_) (n := k) (s := ()) (by omega) trivial).trans nameM_eq
  · simp only [hn]
    simp (disch := omega) only [impl_NameOk.l0, impl_NameOk.b0, decF, cond_false, inD_eq k, Option.bind_some, nmBytes, cond_true]
  · have hb := nb_byte h0 h1 hx
    have ih := ih () trivial
    simp only [hn] at *
    simp (disch := omega) only [impl_NameOk.l0, impl_NameOk.b0, decT h1, cond_true, inb_eq, hb, w64_eq, ih, nmBytes]
    by_cases c1 : 97 ≤ x
    · rw [decT (show (x : Int) ≥ 97 by omega), cond_true]
      by_cases c2 : x ≤ 122
      · rw [decT (show (x : Int) ≤ 122 by omega), decT (show 97 ≤ x ∧ x ≤ 122 from ⟨c1, c2⟩)]
        rfl
      · rw [decF (show ¬ (x : Int) ≤ 122 by omega), decF (show ¬ (97 ≤ x ∧ x ≤ 122) by omega), decT (show (x : Int) ≥ 48 by omega), decF (show ¬ (x : Int) ≤ 57 by omega), decF (show ¬ (48 ≤ x ∧ x ≤ 57) by omega)]
        rfl
    · rw [decF (show ¬ (x : Int) ≥ 97 by omega), cond_false, decF (show ¬ (97 ≤ x ∧ x ≤ 122) by omega)]
      by_cases c3 : 48 ≤ x
      · rw [decT (show (x : Int) ≥ 48 by omega), cond_true]
        by_cases c4 : x ≤ 57
        · rw [decT (show (x : Int) ≤ 57 by omega), decT (show 48 ≤ x ∧ x ≤ 57 from ⟨c3, c4⟩)]
          rfl
        · rw [decF (show ¬ (x : Int) ≤ 57 by omega), decF (show ¬ (48 ≤ x ∧ x ≤ 57) by omega)]
          rfl
      · rw [decF (show ¬ (x : Int) ≥ 48 by omega), cond_false, decF (show ¬ (48 ≤ x ∧ x ≤ 57) by omega)]
        rfl
/- Disks. -/
abbrev FileL := List (Ty.den TFile)
/-- How many bytes a disk's texts have; how many its names. -/
def used (l : FileL) : Nat := (l.map fun f => f.2.1.size).sum
def names (l : FileL) : Nat := (l.map fun f => f.1.size).sum
theorem used_cons (x : Ty.den TFile) (l : FileL) : used (x :: l) = x.2.1.size + used l := by unfold used; rw [List.map_cons, List.sum_cons]
theorem used_nil : used [] = 0 := rfl
theorem names_cons (x : Ty.den TFile) (l : FileL) : names (x :: l) = x.1.size + names l := by unfold names; rw [List.map_cons, List.sum_cons]
theorem used_app : ∀ l m : FileL, used (l ++ m) = used l + used m
  | [], m => by rw [List.nil_append, used_nil, Nat.zero_add]
  | x :: l, m => by rw [List.cons_append, used_cons, used_cons, used_app l m]; omega
theorem used_mem {l : FileL} {x : Ty.den TFile} (h : x ∈ l) : x.2.1.size ≤ used l := by
  induction l with
  | nil => cases h
  | cons y l ih =>
    rw [used_cons]
    rcases List.mem_cons.1 h with e | e
    · subst e; omega
    · have := ih e; omega
theorem names_mem {l : FileL} {x : Ty.den TFile} (h : x ∈ l) : x.1.size ≤ names l := by
  induction l with
  | nil => cases h
  | cons y l ih =>
    rw [names_cons]
    rcases List.mem_cons.1 h with e | e
    · subst e; omega
    · have := ih e; omega
def fileOk (p : Option (Ty.den TFile)) (x : Ty.den TFile) : Bool :=
  nameM x.1 && (decide ((0 : Int) ≤ x.2.2.1 ∧ x.2.2.1 ≤ (x.2.1.size : Int)) && (match p with | none => true | some y => sls y.1 x.1))
def diskM (d : Ty.den TDisk) : Bool :=
  decide (d.1.length ≤ 130) && (decide ((0 : Int) ≤ d.2.1 ∧ d.2.1 ≤ (100000 : Int)) && (decide ((-1 : Int) ≤ d.2.2.1 ∧ d.2.2.1 ≤ (100000 : Int)) && (decide ((used d.1 : Int) ≤ d.2.1) && adj fileOk none d.1)))
theorem specUsed_eq {k : Nat} (hk : 2 ^ 50 ≤ k) {d : Ty.den TDisk} (hl : d.1.length ≤ 1099511627776) (hu : used d.1 ≤ 1099511627776) : spec_l3Used.f k d = some ((used d.1 : Int), ()) := by
  unfold spec_l3Used.f spec_l3Used.t
  refine (forL0 (L := fun n i s => spec_l3Used.l0 k n s i d.1 d.2.1 d.2.2.1 d.2.2.2.1) (R := fun r s => some (s + (used r : Int), ())) (Ty.dflt TFile) d.1 (fun i s => 0 ≤ s ∧ s + (used (d.1.drop i.toNat) : Int) ≤ 1099511627776) (fun n s hs => ?_) (fun n i s x rest h0 h1 hx hr hp ih => ?_) (n := k) (s := 0) (by omega) ⟨by omega, by rw [show d.1.drop (Int.toNat 0) = d.1 from rfl]; omega⟩).trans (by rw [Int.zero_add])
  · simp (disch := omega) only [spec_l3Used.l0, spec_l3Used.b0, decF, cond_false]
    show some (s, ()) = some (s + ((0 : Nat) : Int), ())
    rw [show s + ((0 : Nat) : Int) = s by omega]
  · have hrest : d.1.drop (i + 1).toNat = rest := by
      have := congrArg (List.drop 1) hr
      rw [List.drop_drop, List.drop_one, List.tail_cons] at this
      rw [show (i + 1).toNat = i.toNat + 1 by omega]
      exact this
    rw [hr, used_cons] at hp
    have ih := ih (s + (x.2.1.size : Int)) ⟨by omega, by rw [hrest]; omega⟩
    simp (disch := omega) only [spec_l3Used.l0, spec_l3Used.b0, decT h1, cond_true, inb_eq, hx, w64_eq, ih]
    rw [show s + (x.2.1.size : Int) + (used rest : Int) = s + ((x.2.1.size + used rest : Nat) : Int) by omega]
    show _ = some (s + ((used (x :: rest) : Nat) : Int), ())
    rw [used_cons]
theorem specDisk_eq {k : Nat} (hk : 2 ^ 50 ≤ k) {d : Ty.den TDisk} (hu : used d.1 ≤ 1099511627776) (hn : names d.1 ≤ 1099511627776) : spec_DiskOk.f k d = some (diskM d, ()) := by
  unfold spec_DiskOk.f spec_DiskOk.t diskM
  by_cases c : d.1.length > 130
  · rw [decT (by omega), cond_true, decF (by omega), Bool.false_and]
  · rw [decF (by omega), cond_false, decT (by omega), Bool.true_and, l1InD_eq, Option.bind_some]
    cases decide ((0 : Int) ≤ d.2.1 ∧ d.2.1 ≤ (100000 : Int)) with
    | false => rfl
    | true =>
      rw [Bool.not_true, cond_false, l1InD_eq, Option.bind_some, Bool.true_and]
      cases decide ((-1 : Int) ≤ d.2.2.1 ∧ d.2.2.1 ≤ (100000 : Int)) with
      | false => rfl
      | true =>
        rw [Bool.not_true, cond_false, specUsed_eq hk (by omega) hu, Option.bind_some, Bool.true_and]
        simp only []
        by_cases cu : (used d.1 : Int) > d.2.1
        · rw [decT cu, cond_true, decF (by omega), Bool.false_and]
        · rw [decF cu, cond_false, decT (by omega), Bool.true_and]
          refine (forAdj (L := fun n i => spec_DiskOk.l0 k n i d.1 d.2.1 d.2.2.1 d.2.2.2.1) (Ty.dflt TFile) d.1 fileOk (some (true, ())) (some (false, ())) (fun n => ?_) (fun n x h hx => ?_) (fun n i x y h0 h1 hx hy => ?_) (n := k) (by omega)).trans (by cases adj fileOk none d.1 <;> rfl)
          · simp (disch := omega) only [spec_DiskOk.l0, spec_DiskOk.b0, decF, cond_false]
          · have hm : x ∈ d.1 := by rw [← hx]; exact getD_mem (by omega)
            have hs := names_mem hm
            simp (disch := omega) only [spec_DiskOk.l0, spec_DiskOk.b0, decT (show (0 : Int) < (d.1.length : Int) by omega), cond_true, inb_eq, hx, specName_eq hk, l1InD_eq k, Option.bind_some, decF (show ¬ (0 : Int) > 0 by omega), cond_false, w64_eq, fileOk]
            cases nameM x.1 <;> cases decide ((0 : Int) ≤ x.2.2.1 ∧ x.2.2.1 ≤ (x.2.1.size : Int)) <;> rfl
          · have hm : x ∈ d.1 := by rw [← hx]; exact getD_mem (by omega)
            have hs := names_mem hm
            simp (disch := omega) only [spec_DiskOk.l0, spec_DiskOk.b0, decT h1, cond_true, inb_eq, hx, hy, specName_eq hk, l1InD_eq k, Option.bind_some, decT (show i > 0 by omega), cond_false, w64_eq, fileOk, sls_total]
            cases nameM x.1 <;> cases decide ((0 : Int) ≤ x.2.2.1 ∧ x.2.2.1 ≤ (x.2.1.size : Int)) <;> cases sls y.1 x.1 <;> rfl
theorem used_take {l : FileL} {i : Nat} {x : Ty.den TFile} (h : i < l.length) (hx : l.getD i (Ty.dflt TFile) = x) : used (l.take (i + 1)) = used (l.take i) + x.2.1.size := by
  rw [List.take_add_one, used_app]
  congr 1
  simp only [List.getD, List.getElem?_eq_getElem h, Option.getD_some] at hx
  rw [List.getElem?_eq_getElem h, hx]
  show used [x] = _
  rw [used_cons, used_nil, Nat.add_zero]
theorem used_take_le (l : FileL) (i : Nat) : used (l.take i) ≤ used l := by
  have := used_app (l.take i) (l.drop i)
  rw [List.take_append_drop] at this
  omega
theorem implDisk_eq {k : Nat} (hk : 2 ^ 50 ≤ k) {d : Ty.den TDisk} (hu : used d.1 ≤ 1099511627776) (hn : names d.1 ≤ 1099511627776) : impl_DiskOk.f k d = some (diskM d, ()) := by
  unfold impl_DiskOk.f impl_DiskOk.t diskM
  by_cases c : d.1.length > 130
  · rw [decT (by omega), cond_true, decF (by omega), Bool.false_and]
  · rw [decF (by omega), cond_false, decT (by omega), Bool.true_and, inD_eq, Option.bind_some]
    cases decide ((0 : Int) ≤ d.2.1 ∧ d.2.1 ≤ (100000 : Int)) with
    | false => rfl
    | true =>
      rw [Bool.not_true, cond_false, inD_eq, Option.bind_some, Bool.true_and]
      cases decide ((-1 : Int) ≤ d.2.2.1 ∧ d.2.2.1 ≤ (100000 : Int)) with
      | false => rfl
      | true =>
        rw [Bool.not_true, cond_false, Bool.true_and]
        refine (forAdj (L := fun n i => impl_DiskOk.l0 k n (used (d.1.take i.toNat) : Int) d.1 d.1.length i d.1 d.2.1 d.2.2.1 d.2.2.2.1) (Ty.dflt TFile) d.1 fileOk (some (decide ((used d.1 : Int) ≤ d.2.1), ())) (some (false, ())) (fun n => ?_) (fun n x h hx => ?_) (fun n i x y h0 h1 hx hy => ?_) (n := k) (by omega)).trans
          (by cases adj fileOk none d.1 <;> cases decide ((used d.1 : Int) ≤ d.2.1) <;> rfl)
        · rw [Int.toNat_natCast, List.take_length]
          simp (disch := omega) only [impl_DiskOk.l0, impl_DiskOk.b0, decF, cond_false]
        · have hm : x ∈ d.1 := by rw [← hx]; exact getD_mem (by omega)
          have hs := names_mem hm
          have ht := used_take (l := d.1) (i := 0) h hx
          have hle := used_take_le d.1 0
          have hz := used_mem hm
          rw [show Int.toNat 1 = 0 + 1 from rfl, ht]
          simp only [show Int.toNat 0 = 0 from rfl] at hx ⊢
          simp (disch := omega) only [impl_DiskOk.l0, impl_DiskOk.b0, decT (show (0 : Int) < (d.1.length : Int) by omega), cond_true, inb_eq, show Int.toNat 0 = 0 from rfl, hx, implName_eq hk, inD_eq k, Option.bind_some, decF (show ¬ (0 : Int) > 0 by omega), cond_false, w64_eq, fileOk]
          rw [show (used (d.1.take 0) : Int) + (x.2.1.size : Int) = ((used (d.1.take 0) + x.2.1.size : Nat) : Int) by omega]
          cases nameM x.1 <;> cases decide ((0 : Int) ≤ x.2.2.1 ∧ x.2.2.1 ≤ (x.2.1.size : Int)) <;> rfl
        · have hm : x ∈ d.1 := by rw [← hx]; exact getD_mem (by omega)
          have hs := names_mem hm
          have ht := used_take (l := d.1) (i := i.toNat) (by omega) hx
          have hle := used_take_le d.1 i.toNat
          have hz := used_mem hm
          rw [show Int.toNat (i + 1) = i.toNat + 1 by omega, ht]
          simp (disch := omega) only [impl_DiskOk.l0, impl_DiskOk.b0, decT h1, cond_true, inb_eq, hx, hy, implName_eq hk, inD_eq k, Option.bind_some, decT (show i > 0 by omega), cond_false, w64_eq, fileOk]
          rw [show (used (d.1.take i.toNat) : Int) + (x.2.1.size : Int) = ((used (d.1.take i.toNat) + x.2.1.size : Nat) : Int) by omega]
          cases nameM x.1 <;> cases decide ((0 : Int) ≤ x.2.2.1 ∧ x.2.2.1 ≤ (x.2.1.size : Int)) <;> cases sls y.1 x.1 <;> rfl
/- A file of a name. -/
def findI : FileL → ByteArray → Int → Int
  | [], _, _ => -1
  | f :: l, s, i => bif seq f.1 s then i else findI l s (i + 1)
def getM : FileL → ByteArray → Option (Ty.den TFile)
  | [], _ => none
  | f :: l, s => bif seq f.1 s then some f else getM l s
theorem specFind_eq {k : Nat} (hk : 2 ^ 50 ≤ k) {d : Ty.den TDisk} (hl : d.1.length ≤ 1099511627776) (s : ByteArray) : spec_l3Find.f k d s = some (findI d.1 s 0, ()) := by
  unfold spec_l3Find.f spec_l3Find.t
  refine forL0 (L := fun n i (_ : Int) => spec_l3Find.l0 k n s i d.1 d.2.1 d.2.2.1 d.2.2.2.1) (R := fun r j => some (findI r s j, ())) (Ty.dflt TFile) d.1 (fun i j => j = i) (fun n j hj => ?_) (fun n i j x rest h0 h1 hx hr hp ih => ?_) (n := k) (s := 0) (by omega) rfl
  · simp (disch := omega) only [spec_l3Find.l0, spec_l3Find.b0, decF, cond_false, findI]
  · have ih := ih (i + 1) rfl
    subst hp
    simp (disch := omega) only [spec_l3Find.l0, spec_l3Find.b0, decT h1, cond_true, inb_eq, hx, w64_eq, ih, findI]
    cases seq x.1 s <;> rfl
/- Names of segments. -/
def namedM (p : ByteArray) (n : Int) : ByteArray := bif decide ((1 : Int) ≤ n ∧ n ≤ 100000) then p ++ decB n else ⟨#[]⟩
def segB : ByteArray := ⟨#[115, 101, 103]⟩
theorem specSegName_eq {k : Nat} (hk : 2 ^ 50 ≤ k) (n : Int) : spec_SegName.f k n = some (namedM segB n, ()) := by
  unfold spec_SegName.f spec_SegName.t namedM
  rw [l1InD_eq, Option.bind_some]
  by_cases c : (1 : Int) ≤ n ∧ n ≤ 100000
  · have hz := decB_small (n := n) (by omega) (by omega)
    rw [decT c]
    simp only [Bool.not_true, cond_false, cond_true]
    rw [specDec_eq hk (by omega) (by omega), Option.bind_some, cat_ok (by show 3 + (decB n).size ≤ _; omega)]
    rfl
  · rw [decF c]
    rfl
theorem implNamed_eq (k : Nat) {p : ByteArray} (hp : p.size ≤ 1000) (n : Int) : impl_named.f k p n = some (namedM p n, ()) := by
  unfold impl_named.f impl_named.t namedM
  rw [inD_eq, Option.bind_some]
  by_cases c : (1 : Int) ≤ n ∧ n ≤ 100000
  · have hz := decB_small (n := n) (by omega) (by omega)
    rw [decT c]
    simp only [Bool.not_true, cond_false, cond_true]
    rw [implDec_eq k (by omega) (by omega), Option.bind_some, cat_ok (by show p.size + (decB n).size ≤ _; omega)]
  · rw [decF c]
    rfl
theorem implSegName_eq (k : Nat) (n : Int) : impl_SegName.f k n = some (namedM segB n, ()) := by
  unfold impl_SegName.f impl_SegName.t
  rw [implNamed_eq k (by decide) n]
  rfl
/-- What memory serves for a disk. -/
structure DSz (d : Ty.den TDisk) : Prop where
  l : d.1.length ≤ 1073741824
  u : used d.1 ≤ 1073741824
  n : names d.1 ≤ 1073741824
/- What is weighed. -/
end Go.Proofs.YtccccehgfmphjaaDoor.G

/- M: LiveOk: what it answers, in both readings. -/
set_option linter.unusedVariables false
set_option linter.unusedSimpArgs false
namespace Go.Proofs.YtccccehgfmphjaaDoor.G
open Go.V
/- Lists of segments. -/
def idOk (lim : Int) (p : Option Int) (x : Int) : Bool := decide ((1 : Int) ≤ x ∧ x ≤ lim) && (match p with | none => true | some y => decide (y < x))
def liveM (v : Ty.den TLive) : Bool := decide ((1 : Int) ≤ v.1 ∧ v.1 ≤ 100000) && (decide ((1 : Int) ≤ (v.2.1.length : Int) ∧ (v.2.1.length : Int) ≤ 60) && adj (idOk (w64 (v.1 - 1))) none v.2.1)
theorem specLive_eq {k : Nat} (hk : 2 ^ 50 ≤ k) (v : Ty.den TLive) : spec_LiveOk.f k v = some (liveM v, ()) := by
  unfold spec_LiveOk.f spec_LiveOk.t liveM
  rw [l1InD_eq, Option.bind_some]
  cases decide ((1 : Int) ≤ v.1 ∧ v.1 ≤ 100000) with
  | false => rfl
  | true =>
    rw [Bool.not_true, cond_false, l1InD_eq, Option.bind_some, Bool.true_and]
    by_cases c : (1 : Int) ≤ (v.2.1.length : Int) ∧ (v.2.1.length : Int) ≤ 60
    case neg => rw [decF c]; rfl
    rw [decT c, Bool.not_true, cond_false, Bool.true_and]
    refine (forAdj (L := fun n i => spec_LiveOk.l0 k n i v.1 v.2.1) (Ty.dflt (.int .i64)) v.2.1 (idOk (w64 (v.1 - 1))) (some (true, ())) (some (false, ())) (fun n => ?_) (fun n x h hx => ?_) (fun n i x y h0 h1 hx hy => ?_) (n := k) (by omega)).trans (by cases adj (idOk (w64 (v.1 - 1))) none v.2.1 <;> rfl)
    · simp (disch := omega) only [spec_LiveOk.l0, spec_LiveOk.b0, decF, cond_false]
    · simp (disch := omega) only [spec_LiveOk.l0, spec_LiveOk.b0, decT (show (0 : Int) < (v.2.1.length : Int) by omega), cond_true, inb_eq, hx, l1InD_eq k, Option.bind_some, decF (show ¬ (0 : Int) > 0 by omega), cond_false, w64_eq (n := (0 : Int) + 1), idOk]
      cases decide ((1 : Int) ≤ x ∧ x ≤ w64 (v.1 - 1)) <;> rfl
    · simp (disch := omega) only [spec_LiveOk.l0, spec_LiveOk.b0, decT h1, cond_true, inb_eq, hx, l1InD_eq k, Option.bind_some, decT (show i > 0 by omega), cond_false, w64_eq (n := i + 1), w64_eq (n := i - 1), hy, idOk]
      cases decide ((1 : Int) ≤ x ∧ x ≤ w64 (v.1 - 1)) with
      | false => rfl
      | true =>
        by_cases q : y < x
        · rw [decT q, decF (show ¬ x ≤ y from Int.not_le.2 q)]; rfl
        · rw [decF q, decT (show x ≤ y from Int.not_lt.1 q)]; rfl
theorem implLive_eq {k : Nat} (hk : 2 ^ 50 ≤ k) {v : Ty.den TLive} (hl : v.2.1.length ≤ 1099511627776) : impl_LiveOk.f k v = some (liveM v, ()) := by
  unfold impl_LiveOk.f impl_LiveOk.t liveM
  refine (forAdj (L := fun n i => impl_LiveOk.l0 k n v.2.1 v.2.1.length i v.1 v.2.1) (Ty.dflt (.int .i64)) v.2.1 (idOk (w64 (v.1 - 1))) (some (decide ((1 : Int) ≤ v.1 ∧ v.1 ≤ 100000) && decide ((1 : Int) ≤ (v.2.1.length : Int) ∧ (v.2.1.length : Int) ≤ 60), ())) (some (false, ())) (fun n => ?_) (fun n x h hx => ?_) (fun n i x y h0 h1 hx hy => ?_) (n := k) (by omega)).trans
    (by cases adj (idOk (w64 (v.1 - 1))) none v.2.1 <;> cases decide ((1 : Int) ≤ v.1 ∧ v.1 ≤ 100000) <;> cases decide ((1 : Int) ≤ (v.2.1.length : Int) ∧ (v.2.1.length : Int) ≤ 60) <;> rfl)
  · simp (disch := omega) only [impl_LiveOk.l0, impl_LiveOk.b0, decF, cond_false, inD_eq k, Option.bind_some]
    cases decide ((1 : Int) ≤ v.1 ∧ v.1 ≤ 100000) <;> rfl
  · simp (disch := omega) only [impl_LiveOk.l0, impl_LiveOk.b0, decT (show (0 : Int) < (v.2.1.length : Int) by omega), cond_true, inb_eq, hx, inD_eq k, Option.bind_some, decF (show ¬ (0 : Int) > 0 by omega), cond_false, w64_eq (n := (0 : Int) + 1), idOk]
    cases decide ((1 : Int) ≤ x ∧ x ≤ w64 (v.1 - 1)) <;> rfl
  · simp (disch := omega) only [impl_LiveOk.l0, impl_LiveOk.b0, decT h1, cond_true, inb_eq, hx, inD_eq k, Option.bind_some, decT (show i > 0 by omega), cond_false, w64_eq (n := i + 1), w64_eq (n := i - 1), hy, idOk]
    cases decide ((1 : Int) ≤ x ∧ x ≤ w64 (v.1 - 1)) with
    | false => rfl
    | true =>
      by_cases q : y < x
      · rw [decT q, decF (show ¬ y ≥ x from Int.not_le.2 q)]; rfl
      · rw [decF q, decT (show y ≥ x from Int.not_lt.1 q)]; rfl
end Go.Proofs.YtccccehgfmphjaaDoor.G

/- M: Var, ReadVar, Crc, Fixed and ReadFixed of four bytes: what they answer, in both readings. -/
set_option linter.unusedVariables false
set_option linter.unusedSimpArgs false
namespace Go.V
theorem bytesOf_size (l : List Int) : (bytesOf l).size = l.length := by simp [bytesOf, ByteArray.size]
theorem xor64 {n m : Nat} (hn : n < 4294967296) (hm : m < 4294967296) : w64 (((BitVec.ofInt (IntKind.bits .i64) (n : Int) ^^^ BitVec.ofInt (IntKind.bits .i64) (m : Int)).toNat : Int)) = ((n ^^^ m : Nat) : Int) := by
  have h : n ^^^ m < 2 ^ 32 := Nat.xor_lt_two_pow (by omega) (by omega)
  show w64 (((BitVec.ofInt 64 (n : Int) ^^^ BitVec.ofInt 64 (m : Int)).toNat : Int)) = _
  rw [BitVec.ofInt_natCast, BitVec.ofInt_natCast, BitVec.toNat_xor, BitVec.toNat_ofNat, BitVec.toNat_ofNat, Nat.mod_eq_of_lt (by omega), Nat.mod_eq_of_lt (by omega)]
  exact w64_eq (by omega) (by omega)
theorem xor32 {n m : Nat} (hn : n < 4294967296) (hm : m < 4294967296) : IntKind.wrap .u32 (((BitVec.ofInt (IntKind.bits .u32) (n : Int) ^^^ BitVec.ofInt (IntKind.bits .u32) (m : Int)).toNat : Int)) = ((n ^^^ m : Nat) : Int) := by
  have h : n ^^^ m < 2 ^ 32 := Nat.xor_lt_two_pow (by omega) (by omega)
  show IntKind.wrap .u32 (((BitVec.ofInt 32 (n : Int) ^^^ BitVec.ofInt 32 (m : Int)).toNat : Int)) = _
  rw [BitVec.ofInt_natCast, BitVec.ofInt_natCast, BitVec.toNat_xor, BitVec.toNat_ofNat, BitVec.toNat_ofNat, Nat.mod_eq_of_lt (by omega), Nat.mod_eq_of_lt (by omega)]
  exact wu32_ok (by omega) (by omega)
theorem and32 {n : Nat} (hn : n < 4294967296) : IntKind.wrap .u32 (((BitVec.ofInt (IntKind.bits .u32) (n : Int) &&& BitVec.ofInt (IntKind.bits .u32) 1).toNat : Int)) = ((n % 2 : Nat) : Int) := by
  show IntKind.wrap .u32 (((BitVec.ofInt 32 (n : Int) &&& BitVec.ofInt 32 ((1 : Nat) : Int)).toNat : Int)) = _
  rw [BitVec.ofInt_natCast, BitVec.ofInt_natCast, BitVec.toNat_and, BitVec.toNat_ofNat, BitVec.toNat_ofNat, Nat.mod_eq_of_lt (by omega), Nat.mod_eq_of_lt (show 1 < 2 ^ 32 by omega), Nat.and_one_is_mod]
  exact wu32_ok (by omega) (by omega)
theorem not32 {n : Nat} (hn : n < 4294967296) : bitNot .u32 (n : Int) = 4294967295 - (n : Int) := by
  unfold bitNot
  show IntKind.wrap .u32 (((BitVec.allOnes 32 ^^^ BitVec.ofInt 32 (n : Int)).toNat : Int)) = _
  rw [BitVec.ofInt_natCast, BitVec.allOnes_xor, BitVec.toNat_not, BitVec.toNat_ofNat, Nat.mod_eq_of_lt (by omega)]
  rw [wu32_ok (by omega) (by omega)]
  omega
theorem app_nil (s : ByteArray) : (⟨#[]⟩ : ByteArray) ++ s = s := by
  apply ByteArray.ext
  simp [ByteArray.data_append]
theorem nil_app (s : ByteArray) : s ++ (⟨#[]⟩ : ByteArray) = s := by
  apply ByteArray.ext
  simp [ByteArray.data_append]
theorem app_assoc (a b c : ByteArray) : a ++ b ++ c = a ++ (b ++ c) := by
  apply ByteArray.ext
  simp [ByteArray.data_append]
theorem nb_app (a b : ByteArray) : nb (a ++ b) = nb a ++ nb b := by
  unfold nb
  rw [ByteArray.data_append, Array.toList_append, List.map_append]
theorem nb_ext (s : ByteArray) (i j : Nat) : nb (ByteArray.extract s i j) = ((nb s).take j).drop i := by
  unfold nb
  simp [ByteArray.data_extract, List.map_take, List.map_drop]
  rw [List.drop_take]
theorem ext_tail (s : ByteArray) (n : Nat) : nb (ByteArray.extract s n s.size) = (nb s).drop n := by
  rw [nb_ext, List.take_of_length_le (by rw [nb_len]; omega)]
theorem app_tail (a t : ByteArray) : ByteArray.extract (a ++ t) a.size (a ++ t).size = t := nb_inj (by rw [ext_tail, nb_app, List.drop_left' (nb_len a)])
theorem app_head (a t : ByteArray) : ByteArray.extract (a ++ t) 0 a.size = a := nb_inj (by rw [nb_ext, nb_app, List.take_left' (nb_len a), List.drop_zero])
theorem split_at (s : ByteArray) {n : Nat} (h : n ≤ s.size) : s = ByteArray.extract s 0 n ++ ByteArray.extract s n s.size := nb_inj (by rw [nb_app, ext_tail, nb_extract, List.take_append_drop])
theorem app_cancel {a b c : ByteArray} (h : a ++ b = a ++ c) : b = c := nb_inj (by
  have := congrArg nb h
  rw [nb_app, nb_app] at this
  exact List.append_cancel_left this)
theorem app_inj {a b c d : ByteArray} (h : a ++ b = c ++ d) (hs : a.size = c.size) : a = c ∧ b = d := by
  have := congrArg nb h
  rw [nb_app, nb_app] at this
  have := List.append_inj this (by rw [nb_len, nb_len, hs])
  exact ⟨nb_inj this.1, nb_inj this.2⟩
/-- How a number is read. -/
def rv : Nat → List Nat → Option (Nat × Nat)
  | 0, _ => none
  | _ + 1, [] => none
  | d + 1, b :: l => if b ≥ 128 then (match rv d l with | some (a, n) => if a = 0 then none else some (b % 128 + 128 * a, n + 1) | none => none) else some (b, 1)
theorem rv_vl : ∀ (d a : Nat) (t : List Nat), a < 128 ^ (d + 1) → rv (d + 1) (vl d a ++ t) = some (a, (vl d a).length)
  | 0, a, t, h => by
    have : ¬ a ≥ 128 := by simpa using h
    simp [vl, rv, this]
  | d + 1, a, t, h => by
    unfold vl
    by_cases c : a ≥ 128
    · have ih := rv_vl d (a / 128) t (by rw [Nat.pow_succ] at h; omega)
      rw [if_pos c, List.cons_append, rv, if_pos (by omega), ih]
      simp only []
      rw [if_neg (by omega), List.length_cons]
      congr 2
      omega
    · rw [if_neg c, List.cons_append, rv, if_neg c]
      rfl
theorem rv_some : ∀ (d : Nat) (l : List Nat) (a n : Nat), (∀ x ∈ l, x < 256) → rv (d + 1) l = some (a, n) → l.take n = vl d a ∧ a < 128 ^ (d + 1) ∧ n = (vl d a).length ∧ n ≤ l.length ∧ 1 ≤ n ∧ n ≤ d + 1
  | _, [], a, n, _, h => by simp [rv] at h
  | 0, b :: l, a, n, hb, h => by
    unfold rv at h
    by_cases c : b ≥ 128
    · simp [c, rv] at h
    · simp [c] at h
      obtain ⟨rfl, rfl⟩ := h
      refine ⟨by simp [vl], by simpa using c, by simp [vl], by simp, by omega, by omega⟩
  | d + 1, b :: l, a, n, hb, h => by
    unfold rv at h
    by_cases c : b ≥ 128
    · rw [if_pos c] at h
      cases q : rv (d + 1) l with
      | none => rw [q] at h; simp at h
      | some p =>
        obtain ⟨a', n'⟩ := p
        obtain ⟨h1, h2, h3, h4, h5, h6⟩ := rv_some d l a' n' (fun x hx => hb x (List.mem_cons_of_mem _ hx)) q
        rw [q] at h
        simp only [] at h
        by_cases z : a' = 0
        · simp [z] at h
        · rw [if_neg z] at h
          simp only [Option.some.injEq, Prod.mk.injEq] at h
          obtain ⟨rfl, rfl⟩ := h
          have hb := hb b (List.mem_cons_self ..)
          have e1 : (b % 128 + 128 * a') / 128 = a' := by omega
          have e2 : 128 + (b % 128 + 128 * a') % 128 = b := by omega
          have hv : vl (d + 1) (b % 128 + 128 * a') = b :: vl d a' := by
            rw [vl, if_pos (by omega), e1, e2]
          rw [hv]
          refine ⟨by rw [List.take_succ_cons, h1], by rw [Nat.pow_succ]; omega, by rw [List.length_cons, h3], by rw [List.length_cons]; omega, by omega, by omega⟩
    · rw [if_neg c] at h
      simp only [Option.some.injEq, Prod.mk.injEq] at h
      obtain ⟨rfl, rfl⟩ := h
      have hv : vl (d + 1) b = [b] := by rw [vl, if_neg c]
      rw [hv]
      refine ⟨by simp, ?_, by simp, by simp, by omega, by omega⟩
      have : (128 : Nat) ^ 1 ≤ 128 ^ (d + 1 + 1) := Nat.pow_le_pow_right (by decide) (by omega)
      omega
theorem vl_ne {d a : Nat} : vl d a ≠ [] := by
  cases d with
  | zero => simp [vl]
  | succ d => unfold vl; split <;> simp
theorem nb_lt' (s : ByteArray) : ∀ x ∈ nb s, x < 256 := fun _ h => nb_lt h
theorem varT_size (a : Nat) : 1 ≤ (varT a).size ∧ (varT a).size ≤ 7 := by
  unfold varT
  rw [bytesOf_size, List.length_map]
  have h : ∀ d a, (vl d a).length ≤ d + 1 := by
    intro d
    induction d with
    | zero => intro a; simp [vl]
    | succ d ih => intro a; unfold vl; split <;> simp; have := ih (a / 128); omega
  have h2 := h 6 a
  have h3 : (vl 6 a).length ≠ 0 := fun q => vl_ne (List.length_eq_zero_iff.1 q)
  omega
theorem varT_len {a : Nat} (h : a < 562949953421312) : (vl 6 a).length = (varT a).size := by rw [← nb_varT h, nb_len]
theorem rv_app {a : Nat} (h : a < 562949953421312) (t : ByteArray) : rv 7 (nb (varT a ++ t)) = some (a, (varT a).size) := by
  rw [nb_app, nb_varT h, ← varT_len h]
  exact rv_vl 6 a _ (by rw [show (128 : Nat) ^ (6 + 1) = 562949953421312 by decide]; exact h)
theorem rv_view {s : ByteArray} {a n : Nat} (h : rv 7 (nb s) = some (a, n)) : ∃ t, a < 562949953421312 ∧ n = (varT a).size ∧ s = varT a ++ t := by
  obtain ⟨h1, h2, h3, h4, h5, h6⟩ := rv_some 6 (nb s) a n (nb_lt' s) h
  rw [show (128 : Nat) ^ (6 + 1) = 562949953421312 by decide] at h2
  refine ⟨ByteArray.extract s n s.size, h2, by rw [h3, varT_len h2], nb_inj ?_⟩
  rw [nb_app, nb_varT h2, ext_tail, ← h1, List.take_append_drop]
/-- A number ahead, or none. -/
theorem rv_cases (s : ByteArray) : (∃ a t, a < 562949953421312 ∧ s = varT a ++ t) ∨ rv 7 (nb s) = none := by
  cases h : rv 7 (nb s) with
  | none => exact .inr rfl
  | some p =>
    obtain ⟨a, n⟩ := p
    obtain ⟨t, h1, _, h3⟩ := rv_view h
    exact .inl ⟨a, t, h1, h3⟩
theorem varT_inj {a b : Nat} {s t : ByteArray} (ha : a < 562949953421312) (hb : b < 562949953421312) (h : varT a ++ s = varT b ++ t) : a = b ∧ s = t := by
  have h1 := rv_app ha s
  rw [h, rv_app hb t] at h1
  simp only [Option.some.injEq, Prod.mk.injEq] at h1
  obtain ⟨rfl, _⟩ := h1
  exact ⟨rfl, app_cancel h⟩
def rvR : Option (Nat × Nat) → Int × Int × Unit
  | some p => ((p.1 : Int), ((p.2 : Int), ()))
  | none => (0, (0, ()))
end Go.V
namespace Go.Proofs.YtccccehgfmphjaaDoor.G
open Go.V
theorem in_eq (k : Nat) (a b c : Int) : impl_in.f k a b c = some (decide (b ≤ a ∧ a ≤ c), ()) := by
  unfold impl_in.f impl_in.t
  by_cases h : b ≤ a <;> simp [h]
/- Var. -/
def varB (a : Int) : ByteArray := if 0 ≤ a ∧ a ≤ 562949953421311 then varT a.toNat else ⟨#[]⟩
theorem varB_size (a : Int) : (varB a).size ≤ 7 := by
  unfold varB
  split
  · exact (varT_size _).2
  · exact Nat.zero_le _
theorem varB_nat {a : Nat} (h : a < 562949953421312) : varB (a : Int) = varT a := by
  unfold varB
  rw [if_pos (by omega), Int.toNat_natCast]
theorem varL : ∀ (d a n : Nat) (xs : List Int), a < 128 ^ (d + 1) → a < 562949953421312 → d < n → xs.length + d ≤ 100 → ∀ k,
    spec_Var.l0 k n (a : Int) xs = some (bytesOf (xs ++ (vl d a).map Int.ofNat), ()) ∧ impl_Var.l0 k n (a : Int) xs = some (bytesOf (xs ++ (vl d a).map Int.ofNat), ()) := by
  intro d
  induction d with
  | zero =>
    intro a n xs h1 h2 h3 h4 k
    obtain ⟨n, rfl⟩ : ∃ q, n = q + 1 := ⟨n - 1, by omega⟩
    simp only [Nat.zero_add, Nat.pow_one] at h1
    constructor
    · simp (disch := first | omega | decide) only [spec_Var.l0, spec_Var.b0, decF, cond_false, rm_ok, wu8_ok]
      rfl
    · simp (disch := first | omega | decide) only [impl_Var.l0, impl_Var.b0, decF, cond_false, rm_ok, wu8_ok]
      rfl
  | succ d ih =>
    intro a n xs h1 h2 h3 h4 k
    obtain ⟨n, rfl⟩ : ∃ q, n = q + 1 := ⟨n - 1, by omega⟩
    unfold vl
    by_cases c : a ≥ 128
    · have hd : w64 (Int.tdiv (a : Int) 128) = ((a / 128 : Nat) : Int) := w64_eq (n := ((a / 128 : Nat) : Int)) (by omega) (by omega)
      have hw : IntKind.wrap .u8 (w64 (128 + Int.tmod (a : Int) 128)) = ((128 + a % 128 : Nat) : Int) := by
        have e : 128 + Int.tmod (a : Int) 128 = ((128 + a % 128 : Nat) : Int) := by
          show 128 + ((a % 128 : Nat) : Int) = _
          omega
        rw [e, w64_eq (by omega) (by omega)]
        exact wu8_ok (by omega) (by omega)
      have ih := ih (a / 128) n (xs ++ [((128 + a % 128 : Nat) : Int)]) (by rw [Nat.pow_succ] at h1; omega) (by omega) (by omega) (by rw [List.length_append]; show _ + 1 + d ≤ _; omega) k
      rw [if_pos c]
      rw [List.append_assoc] at ih
      constructor
      · simp (disch := first | omega | decide) only [spec_Var.l0, spec_Var.b0, decT, cond_true, rm_ok, hd, hw]
        exact ih.1
      · simp (disch := first | omega | decide) only [impl_Var.l0, impl_Var.b0, decT, cond_true, rm_ok, hd, Int.add_comm (Int.tmod (a : Int) 128) 128, hw]
        exact ih.2
    · rw [if_neg c]
      constructor
      · simp (disch := first | omega | decide) only [spec_Var.l0, spec_Var.b0, decF, cond_false, rm_ok, wu8_ok]
        rfl
      · simp (disch := first | omega | decide) only [impl_Var.l0, impl_Var.b0, decF, cond_false, rm_ok, wu8_ok]
        rfl
theorem implVar_eq {k : Nat} (hk : 2 ^ 50 ≤ k) (a : Int) : impl_Var.f k a = some (varB a, ()) := by
  unfold impl_Var.f impl_Var.t varB
  rw [in_eq, Option.bind_some]
  by_cases h : 0 ≤ a ∧ a ≤ 562949953421311
  · obtain ⟨n, rfl⟩ := Int.eq_ofNat_of_zero_le h.1
    have hn : n < 562949953421312 := by omega
    simp only [decT h, Bool.not_true, cond_false, if_pos h, Int.toNat_natCast]
    exact (varL 6 n k [] (by rw [show (128 : Nat) ^ (6 + 1) = 562949953421312 by decide]; exact hn) hn (by omega) (by decide) k).2
  · simp only [decF h, Bool.not_false, cond_true, if_neg h]
/- ReadVar. -/
theorem nb_getD_lt (s : ByteArray) (i : Nat) : (nb s).getD i 0 < 256 := by
  by_cases h1 : i < (nb s).length
  · rw [show (nb s).getD i 0 = (nb s)[i] by simp [List.getD, h1]]
    exact nb_lt (List.getElem_mem h1)
  · simp [List.getD, List.getElem?_eq_none (by omega : (nb s).length ≤ i)]
theorem nb_drop {s : ByteArray} {i : Nat} (h : i < s.size) : (nb s).drop i = (nb s).getD i 0 :: (nb s).drop (i + 1) := by
  have h1 : i < (nb s).length := by rw [nb_len]; exact h
  rw [List.drop_eq_getElem_cons h1]
  simp [List.getD, h1]
def crcR (n : Nat) : Nat := if n % 2 = 1 then n / 2 ^^^ 2197175160 else n / 2
def crcN : Nat → Nat → Nat
  | 0, n => n
  | d + 1, n => crcN d (crcR n)
theorem crcR_lt {n : Nat} (h : n < 4294967296) : crcR n < 4294967296 := by
  unfold crcR
  split
  · exact Nat.xor_lt_two_pow (n := 32) (by omega) (by omega)
  · omega
theorem crcN_lt : ∀ {d n : Nat}, n < 4294967296 → crcN d n < 4294967296
  | 0, _, h => h
  | d + 1, _, h => crcN_lt (d := d) (crcR_lt h)
def crcS : List Nat → Nat → Nat
  | [], n => n
  | b :: l, n => crcS l (crcN 8 (n ^^^ b))
theorem crcS_lt : ∀ {l : List Nat} {n : Nat}, n < 4294967296 → (∀ b ∈ l, b < 256) → crcS l n < 4294967296
  | [], _, h, _ => h
  | b :: l, n, h, hb => by
    have := hb b (List.mem_cons_self ..)
    exact crcS_lt (l := l) (crcN_lt (Nat.xor_lt_two_pow (n := 32) (by omega) (by omega))) (fun x hx => hb x (List.mem_cons_of_mem _ hx))
def crcM (s : ByteArray) : Int := 4294967295 - (crcS (nb s) 4294967295 : Int)
theorem crcM_in (s : ByteArray) : 0 ≤ crcM s ∧ crcM s ≤ 4294967295 := by
  have := crcS_lt (l := nb s) (n := 4294967295) (by omega) (nb_lt' s)
  unfold crcM
  omega
theorem specBit {k : Nat} {L0 : ByteArray → Int → Int → Option (Int × Unit)} {s : ByteArray} {i : Int} : ∀ (d j m n : Nat), 8 - j = d → j ≤ 8 → d < m → n < 4294967296 → spec_Crc.l1 k L0 m s (n : Int) i (j : Int) = L0 s ((crcN d n : Nat) : Int) (w64 (i + 1))
  | 0, j, m, n, hd, hj, hm, hn => by
    obtain ⟨m, rfl⟩ : ∃ q, m = q + 1 := ⟨m - 1, by omega⟩
    have c : ¬ ((j : Int) < 8) := by omega
    simp only [spec_Crc.l1, spec_Crc.b1, decide_eq_false c, cond_false, crcN]
  | d + 1, j, m, n, hd, hj, hm, hn => by
    obtain ⟨m, rfl⟩ : ∃ q, m = q + 1 := ⟨m - 1, by omega⟩
    have c : ((j : Int) < 8) := by omega
    have ih := specBit (k := k) (L0 := L0) (s := s) (i := i) d (j + 1) m (crcR n) (by omega) (by omega) (by omega) (crcR_lt hn)
    have hd2 : w64 (Int.tdiv (n : Int) 2) = ((n / 2 : Nat) : Int) := w64_eq (n := ((n / 2 : Nat) : Int)) (by omega) (by omega)
    have hx := xor64 (n := n / 2) (m := 2197175160) (by omega) (by omega)
    have hm2 : Int.tmod (n : Int) 2 = ((n % 2 : Nat) : Int) := rfl
    have hj1 : w64 ((j : Int) + 1) = ((j + 1 : Nat) : Int) := by rw [w64_eq (by omega) (by omega)]; omega
    simp only [spec_Crc.l1, spec_Crc.b1, decide_eq_true c, cond_true, hj1, hd2, hm2, crcN]
    rw [← ih]
    unfold crcR
    by_cases q : n % 2 = 1
    · rw [if_pos q, q, ← hx]
      rfl
    · rw [if_neg q, show n % 2 = 0 by omega]
      rfl
theorem implBit {k : Nat} {L0 : ByteArray → Int → Int → Option (Int × Unit)} {s : ByteArray} {i : Int} : ∀ (d j m n : Nat), 8 - j = d → j ≤ 8 → d < m → n < 4294967296 → impl_Crc.l1 k L0 m s (n : Int) i (j : Int) = L0 s ((crcN d n : Nat) : Int) (w64 (i + 1))
  | 0, j, m, n, hd, hj, hm, hn => by
    obtain ⟨m, rfl⟩ : ∃ q, m = q + 1 := ⟨m - 1, by omega⟩
    have c : ¬ ((j : Int) < 8) := by omega
    simp only [impl_Crc.l1, impl_Crc.b1, decide_eq_false c, cond_false, crcN]
  | d + 1, j, m, n, hd, hj, hm, hn => by
    obtain ⟨m, rfl⟩ : ∃ q, m = q + 1 := ⟨m - 1, by omega⟩
    have c : ((j : Int) < 8) := by omega
    have ih := implBit (k := k) (L0 := L0) (s := s) (i := i) d (j + 1) m (crcR n) (by omega) (by omega) (by omega) (crcR_lt hn)
    have hd2 : Int.fdiv (n : Int) (2 ^ (Int.toNat 1)) = ((n / 2 : Nat) : Int) := by
      show Int.fdiv (n : Int) 2 = _
      rw [Int.fdiv_eq_ediv_of_nonneg _ (by omega)]
      omega
    have hx := xor32 (n := n / 2) (m := 2197175160) (by omega) (by omega)
    have hj1 : w64 ((j : Int) + 1) = ((j + 1 : Nat) : Int) := by rw [w64_eq (by omega) (by omega)]; omega
    simp only [impl_Crc.l1, impl_Crc.b1, decide_eq_true c, cond_true, hj1, hd2, and32 hn, crcN]
    rw [← ih]
    unfold crcR
    by_cases q : n % 2 = 1
    · rw [if_pos q, q, ← hx]
      rfl
    · rw [if_neg q, show n % 2 = 0 by omega]
      rfl
theorem crcL {k : Nat} (hk : 2 ^ 50 ≤ k) {s : ByteArray} (hs : s.size ≤ 1099511627776) : ∀ (d i n m : Nat), s.size - i = d → i ≤ s.size → n < 4294967296 → d < m →
    spec_Crc.l0 k m s (n : Int) (i : Int) = some (4294967295 - (crcS ((nb s).drop i) n : Int), ()) ∧ impl_Crc.l0 k m s (n : Int) (i : Int) = some (4294967295 - (crcS ((nb s).drop i) n : Int), ())
  | 0, i, n, m, hd, hi, hn, hm => by
    obtain ⟨m, rfl⟩ : ∃ q, m = q + 1 := ⟨m - 1, by omega⟩
    have c : ¬ ((i : Int) < (s.size : Int)) := by omega
    have e1 : w64 (4294967295 - (n : Int)) = 4294967295 - (n : Int) := w64_eq (by omega) (by omega)
    rw [List.drop_eq_nil_of_le (by rw [nb_len]; omega)]
    constructor
    · simp only [spec_Crc.l0, spec_Crc.b0, decide_eq_false c, cond_false, e1, crcS]
    · simp only [impl_Crc.l0, impl_Crc.b0, decide_eq_false c, cond_false, not32 hn, e1, crcS]
  | d + 1, i, n, m, hd, hi, hn, hm => by
    obtain ⟨m, rfl⟩ : ∃ q, m = q + 1 := ⟨m - 1, by omega⟩
    have hlt : i < s.size := by omega
    have c : ((i : Int) < (s.size : Int)) := by omega
    have h0 := Int.natCast_nonneg i
    have hb := nb_getD_lt s i
    have hat := nb_at hlt
    rw [nb_drop hlt]
    generalize (nb s).getD i 0 = b at hb hat
    have w1 : w64 (b : Int) = (b : Int) := w64_eq (by omega) (by omega)
    have w2 : IntKind.wrap .u32 (b : Int) = (b : Int) := wu32_ok (by omega) (by omega)
    have hnb : n ^^^ b < 4294967296 := Nat.xor_lt_two_pow (n := 32) (by omega) (by omega)
    have up : w64 ((i : Int) + 1) = ((i + 1 : Nat) : Int) := by rw [w64_eq (by omega) (by omega)]; omega
    obtain ⟨s1, s2⟩ := crcL hk hs d (i + 1) (crcN 8 (n ^^^ b)) m (by omega) (by omega) (crcN_lt hnb) (by omega)
    constructor
    · simp only [spec_Crc.l0, spec_Crc.b0, decide_eq_true c, cond_true, inb_eq h0 c, hat, w1, xor64 hn (show b < 4294967296 by omega)]
      refine (specBit 8 0 k (n ^^^ b) (by omega) (by omega) (by omega) hnb).trans ?_
      rw [up]
      exact s1
    · simp only [impl_Crc.l0, impl_Crc.b0, decide_eq_true c, cond_true, inb_eq h0 c, hat, w2, xor32 hn (show b < 4294967296 by omega)]
      refine (implBit 8 0 k (n ^^^ b) (by omega) (by omega) (by omega) hnb).trans ?_
      rw [up]
      exact s2
theorem implCrc_eq {k : Nat} (hk : 2 ^ 50 ≤ k) {s : ByteArray} (hs : s.size ≤ 1099511627776) : impl_Crc.f k s = some (crcM s, ()) := by
  have := (crcL hk hs s.size 0 4294967295 k (by omega) (by omega) (by omega) (by omega)).2
  rw [List.drop_zero] at this
  exact this
end Go.Proofs.YtccccehgfmphjaaDoor.G

/- M: Fixed and ReadFixed of four bytes, records and frames: what they answer, in both readings. -/
set_option linter.unusedVariables false
set_option linter.unusedSimpArgs false
namespace Go.Proofs.YtccccehgfmphjaaDoor.G
open Go.V
/- Fixed, of four bytes. -/
def fixT (n : Nat) : ByteArray := bytesOf [((n / 16777216 % 256 : Nat) : Int), ((n / 65536 % 256 : Nat) : Int), ((n / 256 % 256 : Nat) : Int), ((n % 256 : Nat) : Int)]
theorem fixT_size (n : Nat) : (fixT n).size = 4 := rfl
theorem nb_fixT (n : Nat) : nb (fixT n) = [n / 16777216 % 256, n / 65536 % 256, n / 256 % 256, n % 256] :=
  nb_bytes (l := [n / 16777216 % 256, n / 65536 % 256, n / 256 % 256, n % 256]) (by simp; omega)
theorem implFixed4 {k : Nat} (hk : 2 ^ 50 ≤ k) {n : Nat} (h1 : n < 4294967296) : impl_Fixed.f k (n : Int) 4 = some (fixT n, ()) := by
  have st : ∀ (q j p : Nat) (i' : Int) (xs : List Int), j ≤ 3 → p = 2 ^ (8 * j) → i' = (j : Int) - 1 → xs.length ≤ 100 → impl_Fixed.l0 k (q + 1) (n : Int) (j : Int) xs = impl_Fixed.l0 k q (n : Int) i' (xs ++ [((n / p % 256 : Nat) : Int)]) := fun q j p i' xs hj hp hi hx => by
    have e8 : w64 (8 * (j : Int)) = ((8 * j : Nat) : Int) := by rw [w64_eq (by omega) (by omega)]; omega
    have e1 : w64 ((j : Int) - 1) = i' := by rw [hi]; exact w64_eq (by omega) (by omega)
    have emin : min (8 * j) (IntKind.bits .i64) = 8 * j := by have : IntKind.bits .i64 = 64 := rfl; rw [this]; omega
    have ew : IntKind.wrap .u8 (Int.fdiv (n : Int) (2 ^ (8 * j))) = ((n / p % 256 : Nat) : Int) := by
      have e2 : ((2 : Int) ^ (8 * j)) = ((p : Nat) : Int) := by rw [hp, Int.natCast_pow]; rfl
      rw [e2, Int.fdiv_eq_ediv_of_nonneg _ (by omega), ← Int.natCast_ediv]
      generalize n / p = z
      unfold IntKind.wrap
      simp [IntKind.bits, IntKind.signed]
    simp (disch := first | omega | decide) only [impl_Fixed.l0, impl_Fixed.b0, decT, cond_true, e8, rm_ok, e1, toNat_ofNat, emin, ew]
    rw [decF (by omega), cond_false]
  unfold impl_Fixed.f impl_Fixed.t
  rw [in_eq, Option.bind_some]
  have c0 : ¬ (w64 (8 * 4) < 0) := by decide
  simp only [show decide ((1 : Int) ≤ 4 ∧ (4 : Int) ≤ 7) = true by decide, Bool.not_true, cond_false, decF c0, show w64 (w64 (1 * 2 ^ min (Int.toNat (w64 (8 * 4))) (IntKind.bits .i64)) - 1) = 4294967295 by decide, in_eq, Option.bind_some]
  rw [decT (show (0 : Int) ≤ (n : Int) ∧ (n : Int) ≤ 4294967295 by omega)]
  simp only [Bool.not_true, cond_false, show w64 ((4 : Int) - 1) = ((3 : Nat) : Int) by decide]
  obtain ⟨q, hq⟩ : ∃ q, k = q + 5 := ⟨k - 5, by omega⟩
  refine (congrArg (fun z => impl_Fixed.l0 k z (n : Int) ((3 : Nat) : Int) []) hq).trans ?_
  refine (st (q + 4) 3 16777216 ((2 : Nat) : Int) _ (by omega) (by decide) (by decide) (by decide)).trans ?_
  refine (st (q + 3) 2 65536 ((1 : Nat) : Int) _ (by omega) (by decide) (by decide) (by simp)).trans ?_
  refine (st (q + 2) 1 256 ((0 : Nat) : Int) _ (by omega) (by decide) (by decide) (by simp)).trans ?_
  refine (st (q + 1) 0 1 (-1) _ (by omega) (by decide) (by decide) (by simp)).trans ?_
  simp only [impl_Fixed.l0, impl_Fixed.b0, show decide ((-1 : Int) ≥ 0) = false by decide, cond_false, Nat.div_one]
  rfl
def fix4 (a : Int) : ByteArray := fixT a.toNat
theorem fix4_size (a : Int) : (fix4 a).size = 4 := rfl
theorem implFixed_eq {k : Nat} (hk : 2 ^ 50 ≤ k) {a : Int} (h0 : 0 ≤ a) (h1 : a ≤ 4294967295) : impl_Fixed.f k a 4 = some (fix4 a, ()) := by
  obtain ⟨n, rfl⟩ := Int.eq_ofNat_of_zero_le h0
  exact implFixed4 hk (by omega)
/- ReadFixed, of four bytes. -/
theorem fx_cases (s : ByteArray) : (∃ x t, x < 4294967296 ∧ s = fixT x ++ t) ∨ s.size < 4 := by
  by_cases c : s.size < 4
  · exact .inr c
  · left
    have h0 := nb_drop (s := s) (i := 0) (by omega)
    have h1 := nb_drop (s := s) (i := 1) (by omega)
    have h2 := nb_drop (s := s) (i := 2) (by omega)
    have h3 := nb_drop (s := s) (i := 3) (by omega)
    have b0 := nb_getD_lt s 0
    have b1 := nb_getD_lt s 1
    have b2 := nb_getD_lt s 2
    have b3 := nb_getD_lt s 3
    rw [h1, h2, h3, List.drop_zero] at h0
    generalize (nb s).getD 0 0 = x0 at *
    generalize (nb s).getD 1 0 = x1 at *
    generalize (nb s).getD 2 0 = x2 at *
    generalize (nb s).getD 3 0 = x3 at *
    refine ⟨((x0 * 256 + x1) * 256 + x2) * 256 + x3, ByteArray.extract s 4 s.size, by omega, nb_inj ?_⟩
    rw [nb_app, nb_fixT, ext_tail, h0]
    simp only [List.cons_append, List.nil_append, List.drop_succ_cons, List.drop_zero, List.cons.injEq, and_true]
    refine ⟨?_, ?_, ?_, ?_⟩ <;> omega
theorem fx_sz (x : Nat) (t : ByteArray) : (fixT x ++ t).size = 4 + t.size := by rw [ByteArray.size_append]; rfl
/- Records. -/
/- ShowRec. -/
def textB (s : ByteArray) : ByteArray := varB (s.size : Int) ++ s
theorem textB_size (s : ByteArray) : (textB s).size ≤ 7 + s.size := by
  unfold textB
  have := varB_size (s.size : Int)
  rw [ByteArray.size_append]
  omega
theorem implVars2 {k : Nat} (hk : 2 ^ 50 ≤ k) (x y : Int) : impl_vars.f k [x, y] = some (varB x ++ varB y, ()) := by
  have v1 := varB_size x
  have v2 := varB_size y
  obtain ⟨q, hq⟩ : ∃ q, k = q + 3 := ⟨k - 3, by omega⟩
  refine (congrArg (fun z => impl_vars.l0 k z ⟨#[]⟩ [x, y] 2 0) hq).trans ?_
  rw [show impl_vars.l0 k (q + 3) ⟨#[]⟩ [x, y] 2 0 = (impl_Var.f k x).bind (fun r1 => cat ⟨#[]⟩ r1.1 (impl_vars.l0 k (q + 2) (⟨#[]⟩ ++ r1.1) [x, y] 2 1)) from rfl]
  rw [implVar_eq hk, Option.bind_some]
  simp only []
  rw [cat_ok (by rw [show (⟨#[]⟩ : ByteArray).size = 0 from rfl]; omega), app_nil]
  rw [show impl_vars.l0 k (q + 2) (varB x) [x, y] 2 1 = (impl_Var.f k y).bind (fun r1 => cat (varB x) r1.1 (impl_vars.l0 k (q + 1) (varB x ++ r1.1) [x, y] 2 2)) from rfl]
  rw [implVar_eq hk, Option.bind_some]
  simp only []
  rw [cat_ok (by omega)]
  rfl
theorem implTextOf_eq {k : Nat} (hk : 2 ^ 50 ≤ k) {s : ByteArray} (hs : s.size ≤ 1099511627776) : impl_textOf.f k s = some (textB s, ()) := by
  have := varB_size (s.size : Int)
  unfold impl_textOf.f impl_textOf.t textB
  simp (disch := omega) only [implVar_eq hk, Option.bind_some, cat_ok]
/- Frame and SumOf. -/
end Go.Proofs.YtccccehgfmphjaaDoor.G

/- M: ReadVar: what it answers, in both readings. -/
set_option linter.unusedVariables false
set_option linter.unusedSimpArgs false
namespace Go.Proofs.YtccccehgfmphjaaDoor.G
open Go.V
theorem implReadVarL {s : ByteArray} (hs : s.size ≤ 4611686018427387904) (k : Nat) : ∀ (d i acc n : Nat), i + d = 7 → acc < 128 ^ i → d < n →
    impl_ReadVar.l0 k n s (acc : Int) (i : Int) = some (match rv d ((nb s).drop i) with
      | some (a, m) => if a = 0 ∧ 0 < i then (0, (0, ())) else (((acc + a * 128 ^ i : Nat) : Int), (((i + m : Nat) : Int), ()))
      | none => (0, (0, ()))) := by
  intro d
  induction d with
  | zero =>
    intro i acc n h1 h2 h3
    obtain ⟨n, rfl⟩ : ∃ q, n = q + 1 := ⟨n - 1, by omega⟩
    simp (disch := omega) only [impl_ReadVar.l0, impl_ReadVar.b0, decF, cond_false, rv]
  | succ d ih =>
    intro i acc n h1 h2 h3
    obtain ⟨n, rfl⟩ : ∃ q, n = q + 1 := ⟨n - 1, by omega⟩
    by_cases hlt : i < s.size
    case neg =>
      rw [List.drop_eq_nil_of_le (by rw [nb_len]; omega)]
      simp (disch := omega) only [impl_ReadVar.l0, impl_ReadVar.b0, decT, decF, cond_true, cond_false, rv]
    have hb := nb_getD_lt s i
    have hat := nb_at hlt
    have ih := ih (i + 1)
    rw [nb_drop hlt]
    generalize (nb s).getD i 0 = b at hb hat
    have e8 : w64 (7 * (i : Int)) = ((7 * i : Nat) : Int) := by rw [w64_eq (by omega) (by omega)]; omega
    have emin : min (7 * i) (IntKind.bits .i64) = 7 * i := by have : IntKind.bits .i64 = 64 := rfl; rw [this]; omega
    have ep : (2 : Int) ^ (7 * i) = ((128 ^ i : Nat) : Int) := by rw [Int.pow_mul, Int.natCast_pow]; rfl
    have hp : 128 ^ i ≤ 128 ^ 6 := Nat.pow_le_pow_right (by decide) (by omega)
    rw [show (128 : Nat) ^ 6 = 4398046511104 by decide] at hp
    have hps : 128 ^ (i + 1) = 128 ^ i * 128 := Nat.pow_succ ..
    have hb2 : (b % 128) * 128 ^ i ≤ 127 * 128 ^ i := Nat.mul_le_mul (by omega) (Nat.le_refl _)
    have ev : w64 ((acc : Int) + w64 (Int.tmod (b : Int) 128 * 2 ^ (7 * i))) = ((acc + b % 128 * 128 ^ i : Nat) : Int) := by
      have e : Int.tmod (b : Int) 128 * 2 ^ (7 * i) = ((b % 128 * 128 ^ i : Nat) : Int) := by
        rw [ep, Int.natCast_mul]
        rfl
      rw [e, w64_eq (n := ((b % 128 * 128 ^ i : Nat) : Int)) (by omega) (by omega), w64_eq (by omega) (by omega)]
      omega
    have eb : w64 ((b : Nat) : Int) = (b : Int) := w64_eq (by omega) (by omega)
    have ei : w64 ((i : Int) + 1) = ((i + 1 : Nat) : Int) := by rw [w64_eq (by omega) (by omega)]; omega
    have ih := ih (acc + b % 128 * 128 ^ i) n (by omega) (by omega) (by omega)
    simp (disch := omega) only [impl_ReadVar.l0, impl_ReadVar.b0, decT, cond_true, inb_eq, hat, eb, e8, toNat_ofNat, emin, ev, ei]
    rw [decF (by omega), cond_false]
    by_cases c : b ≥ 128
    · rw [decT (show (b : Int) ≥ 128 by omega), cond_true, ih, rv, if_pos c]
      cases q : rv d ((nb s).drop (i + 1)) with
      | none => rfl
      | some p =>
        obtain ⟨a, m⟩ := p
        simp only []
        by_cases z : a = 0
        · simp [z]
        · have hm : a * 128 ^ (i + 1) = 128 * a * 128 ^ i := by rw [hps, Nat.mul_comm (128 ^ i), ← Nat.mul_assoc, Nat.mul_comm a]
          rw [if_neg (by omega), if_neg z]
          simp only []
          rw [if_neg (by omega)]
          have e1 : acc + b % 128 * 128 ^ i + a * 128 ^ (i + 1) = acc + (b % 128 + 128 * a) * 128 ^ i := by rw [hm, Nat.add_mul]; omega
          have e2 : i + 1 + m = i + (m + 1) := by omega
          rw [e1, e2]
    · have em : b % 128 = b := by omega
      rw [decF (show ¬ (b : Int) ≥ 128 by omega), cond_false, rv, if_neg c, em]
      by_cases z : b = 0
      · subst z
        rw [show ((((0 : Nat) : Int) == 0)) = true from rfl, cond_true]
        by_cases hi : 0 < i
        · rw [decT (show (i : Int) > 0 by omega), cond_true]
          simp [hi]
        · rw [decF (show ¬ (i : Int) > 0 by omega), cond_false]
          simp [hi]
      · rw [show ((b : Int) == 0) = false from beq_eq_false_iff_ne.2 (by omega), cond_false]
        simp [z]
theorem implReadVar_rv {k : Nat} (hk : 2 ^ 50 ≤ k) {s : ByteArray} (hs : s.size ≤ 4611686018427387904) : impl_ReadVar.f k s = some (rvR (rv 7 (nb s))) := by
  unfold impl_ReadVar.f impl_ReadVar.t
  refine (implReadVarL hs k 7 0 0 k (by omega) (by decide) (by omega)).trans ?_
  rw [List.drop_zero]
  cases rv 7 (nb s) with
  | none => rfl
  | some p => simp [rvR]
/- Crc. -/
end Go.Proofs.YtccccehgfmphjaaDoor.G

/- M: Frame. -/
set_option linter.unusedVariables false
set_option linter.unusedSimpArgs false
namespace Go.Proofs.YtccccehgfmphjaaDoor.G
open Go.V
def frameM (s : ByteArray) : ByteArray := if s.size > 200 then ⟨#[]⟩ else fix4 (crcM (textB s)) ++ textB s
theorem frameM_size (s : ByteArray) : (frameM s).size ≤ 211 := by
  unfold frameM
  split
  · exact Nat.zero_le _
  · have := textB_size s
    rw [ByteArray.size_append, fix4_size]; omega
theorem frameM_pos {s : ByteArray} (h : s.size ≤ 200) : 5 ≤ (frameM s).size := by
  unfold frameM
  rw [if_neg (by omega), ByteArray.size_append, fix4_size]
  unfold textB
  rw [varB_nat (by omega), ByteArray.size_append]
  have := varT_size s.size
  omega
theorem implFrame_eq {k : Nat} (hk : 2 ^ 50 ≤ k) (s : ByteArray) : impl_Frame.f k s = some (frameM s, ()) := by
  unfold impl_Frame.f impl_Frame.t frameM
  by_cases c : s.size > 200
  · rw [decT (show (s.size : Int) > 200 by omega), cond_true, if_pos c]
  · have h1 := textB_size s
    have h2 := crcM_in (textB s)
    rw [decF (show ¬ (s.size : Int) > 200 by omega), cond_false, if_neg c]
    simp (disch := omega) only [implTextOf_eq hk, Option.bind_some, implCrc_eq hk]
    rw [implFixed_eq hk h2.1 h2.2, Option.bind_some, cat_ok (by rw [fix4_size]; omega)]
end Go.Proofs.YtccccehgfmphjaaDoor.G

/- M: ReadRec, Unframe, ScanRecs and RecAt: what they answer, in both readings. -/
set_option linter.unusedVariables false
set_option linter.unusedSimpArgs false
namespace Go.Proofs.YtccccehgfmphjaaDoor.G
open Go.V
theorem sz_app (a b : ByteArray) : (a ++ b).size = a.size + b.size := ByteArray.size_append ..
theorem mid (a b t : ByteArray) : ByteArray.extract (a ++ (b ++ t)) a.size (a.size + b.size) = b := nb_inj (by
  rw [nb_ext, nb_app, nb_app, List.take_append, List.take_of_length_le (by rw [nb_len]; omega), nb_len, show a.size + b.size - a.size = b.size by omega, List.drop_left' (nb_len a), List.take_left' (nb_len b)])
theorem cast_add (a b : Nat) : ((a : Int) + (b : Int)) = ((a + b : Nat) : Int) := rfl
/- The readings of a number ahead. -/
theorem implReadVar_ok {k : Nat} (hk : 2 ^ 50 ≤ k) {a : Nat} {t : ByteArray} (ha : a < 562949953421312) (hs : t.size ≤ 1099511627776) : impl_ReadVar.f k (varT a ++ t) = some ((a : Int), (((varT a).size : Int), ())) := by
  have := varT_size a
  rw [implReadVar_rv hk (by rw [sz_app]; omega), rv_app ha]; rfl
theorem implReadVar_bad {k : Nat} (hk : 2 ^ 50 ≤ k) {s : ByteArray} (h : rv 7 (nb s) = none) (hs : s.size ≤ 1099511627776) : impl_ReadVar.f k s = some (0, (0, ())) := by
  rw [implReadVar_rv hk (by omega), h]; rfl
/- Scanner. -/
theorem num_ok {k : Nat} (hk : 2 ^ 50 ≤ k) {a : Nat} {t : ByteArray} (ha : a < 562949953421312) (hs : t.size ≤ 1099511627776) : impl_scanner__num.f k (varT a ++ t, (false, ())) = some ((t, (false, ())), ((a : Int), ())) := by
  have h1 := varT_size a
  unfold impl_scanner__num.f impl_scanner__num.t
  rw [implReadVar_ok hk ha hs, Option.bind_some]
  simp only [cond_false]
  rw [show (((varT a).size : Int) == 0) = false from beq_eq_false_iff_ne.2 (by omega), cond_false, inc_eq (by omega) (by rw [sz_app]; omega), toNat_ofNat, app_tail]
theorem num_bad {k : Nat} (hk : 2 ^ 50 ≤ k) {s : ByteArray} (h : rv 7 (nb s) = none) (hs : s.size ≤ 1099511627776) : impl_scanner__num.f k (s, (false, ())) = some ((s, (true, ())), (0, ())) := by
  unfold impl_scanner__num.f impl_scanner__num.t
  rw [implReadVar_bad hk h hs, Option.bind_some]
  rfl
theorem num_b {k : Nat} (hk : 2 ^ 50 ≤ k) {s : ByteArray} (hs : s.size ≤ 1099511627776) : impl_scanner__num.f k (s, (true, ())) = some ((s, (true, ())), (0, ())) := by
  unfold impl_scanner__num.f impl_scanner__num.t
  rw [implReadVar_rv hk (show s.size ≤ _ by omega), Option.bind_some]
  rfl
/- What a reading is that is undone by writing. -/
section
open Classical
variable {α : Type}
noncomputable def undo (ok : α → Prop) (shw : α → ByteArray) (z : α) (s : ByteArray) : α × Bool := if h : ∃ r, ok r ∧ shw r = s then (h.choose, true) else (z, false)
theorem undo_ok {ok : α → Prop} {shw : α → ByteArray} {z : α} {s : ByteArray} {r : α} (h : undo ok shw z s = (r, true)) : ok r ∧ shw r = s := by
  unfold undo at h
  split at h
  · rename_i q
    obtain rfl := (Prod.mk.inj h).1
    exact q.choose_spec
  · cases (Prod.mk.inj h).2
theorem undo_no {ok : α → Prop} {shw : α → ByteArray} {z : α} {s : ByteArray} (h : (undo ok shw z s).2 = false) : undo ok shw z s = (z, false) := by
  unfold undo at h ⊢
  split
  · rename_i q; rw [dif_pos q] at h; cases h
  · rfl
theorem undo_cases (ok : α → Prop) (shw : α → ByteArray) (z : α) (s : ByteArray) : (∃ r, ok r ∧ shw r = s ∧ undo ok shw z s = (r, true)) ∨ undo ok shw z s = (z, false) := by
  cases h : (undo ok shw z s).2 with
  | false => exact .inr (undo_no h)
  | true =>
    have e : undo ok shw z s = ((undo ok shw z s).1, true) := by rw [← h]
    exact .inl ⟨_, (undo_ok e).1, (undo_ok e).2, e⟩
theorem undo_of {ok : α → Prop} {shw : α → ByteArray} {z : α} {s : ByteArray} {f : Option (α × Bool × Unit)} (h1 : ∀ r, ok r → shw r = s → f = some (r, (true, ())))
    (h2 : (∃ r, ok r ∧ shw r = s ∧ f = some (r, (true, ()))) ∨ f = some (z, (false, ()))) : f = some ((undo ok shw z s).1, ((undo ok shw z s).2, ())) := by
  rcases undo_cases ok shw z s with ⟨r, a, b, e⟩ | e
  · rw [e, h1 r a b]
  · rcases h2 with ⟨r, a, b, _⟩ | h2
    · unfold undo at e
      rw [dif_pos ⟨r, a, b⟩] at e
      cases (Prod.mk.inj e).2
    · rw [e, h2]
/-- What is written is read back, where no two are written alike. -/
theorem undo_eq {ok : α → Prop} {shw : α → ByteArray} {z : α} {r : α} (hi : ∀ a b, ok a → ok b → shw a = shw b → a = b) (h : ok r) : undo ok shw z (shw r) = (r, true) := by
  rcases undo_cases ok shw z (shw r) with ⟨q, a, b, e⟩ | e
  · rw [e, hi q r a h b]
  · unfold undo at e
    rw [dif_pos ⟨r, h, rfl⟩] at e
    cases (Prod.mk.inj e).2
end
theorem e0 : (⟨#[]⟩ : ByteArray).size = 0 := rfl
end Go.Proofs.YtccccehgfmphjaaDoor.G

/- M: the reference's ReadRec; Unframe, ScanRecs and RecAt: what they answer, in both readings. -/
set_option linter.unusedVariables false
set_option linter.unusedSimpArgs false
namespace Go.Proofs.YtccccehgfmphjaaDoor.G
open Go.V
theorem vz (a : Nat) : (((varT a).size : Int) == 0) = false := beq_eq_false_iff_ne.2 (by have := varT_size a; omega)
/- Unframe. -/
theorem frame_form {t : ByteArray} (h : t.size ≤ 200) : ∃ x, x < 4294967296 ∧ frameM t = fixT x ++ (varT t.size ++ t) := by
  have := crcM_in (textB t)
  refine ⟨(crcM (textB t)).toNat, by omega, ?_⟩
  unfold frameM fix4
  rw [if_neg (by omega)]
  unfold textB
  rw [varB_nat (by omega)]
theorem frame_inj {t u s r : ByteArray} (ht : t.size ≤ 200) (hu : u.size ≤ 200) (h : frameM t ++ s = frameM u ++ r) : t = u ∧ s = r := by
  obtain ⟨x, hx, e⟩ := frame_form ht
  obtain ⟨y, hy, f⟩ := frame_form hu
  rw [e, f, app_assoc, app_assoc, app_assoc, app_assoc] at h
  have h2 := (app_inj h rfl).2
  obtain ⟨h3, h4⟩ := varT_inj (by omega) (by omega) h2
  exact app_inj h4 h3
theorem tail4 (x : Nat) (u : ByteArray) : ByteArray.extract (fixT x ++ u) 4 (fixT x ++ u).size = u := app_tail (fixT x) u
theorem mid4 (x : Nat) (v t r : ByteArray) : ByteArray.extract (fixT x ++ (v ++ (t ++ r))) (4 + v.size) (4 + v.size + t.size) = t := by
  have := mid (fixT x ++ v) t r
  rw [sz_app, fixT_size, app_assoc] at this
  exact this
theorem head4 (x : Nat) (v t r : ByteArray) : ByteArray.extract (fixT x ++ (v ++ (t ++ r))) 0 (4 + v.size + t.size) = fixT x ++ (v ++ t) := by
  have := app_head (fixT x ++ (v ++ t)) r
  rw [sz_app, sz_app, fixT_size, app_assoc, app_assoc, ← Nat.add_assoc] at this
  exact this
theorem c4 (a : Nat) : (4 : Int) + (a : Int) = ((4 + a : Nat) : Int) := rfl
theorem implUnframe_at {k : Nat} (hk : 2 ^ 50 ≤ k) {x : Nat} {t r : ByteArray} (ht : t.size ≤ 200) (hr : t.size + r.size ≤ 1099511627776) :
    impl_Unframe.f k (fixT x ++ (varT t.size ++ (t ++ r))) = bif !seq (frameM t) (fixT x ++ (varT t.size ++ t)) then some (⟨#[]⟩, (0, ())) else some (t, (((4 + (varT t.size).size + t.size : Nat) : Int), ())) := by
  have v1 := varT_size t.size
  have z1 : (fixT x ++ (varT t.size ++ (t ++ r))).size = 4 + ((varT t.size).size + (t.size + r.size)) := by rw [fx_sz, sz_app, sz_app]
  unfold impl_Unframe.f impl_Unframe.t
  rw [decF (by omega), cond_false, inc_eq (by omega) (by omega), tail4, implReadVar_ok hk (by omega) (by rw [sz_app]; omega), Option.bind_some]
  simp only [vz, cond_false]
  rw [decF (by omega), cond_false, w64_eq (n := ((fixT x ++ (varT t.size ++ (t ++ r))).size : Int) - 4) (by omega) (by omega), w64_eq (n := ((fixT x ++ (varT t.size ++ (t ++ r))).size : Int) - 4 - _) (by omega) (by omega), decF (by omega), cond_false,
    c4, w64_eq (by omega) (by omega), cast_add, w64_eq (by omega) (by omega), inc2_eq (by omega) (by omega) (by omega), toNat_ofNat, toNat_ofNat, mid4, implFrame_eq hk, Option.bind_some, inc_eq (by omega) (by omega), head4]
/-- A number, a text of that length, and what is behind. -/
theorem un_cases (s : ByteArray) (hs : s.size ≤ 1099511627776) : (∃ x t r, x < 4294967296 ∧ t.size ≤ 200 ∧ t.size + r.size ≤ 1099511627776 ∧ s = fixT x ++ (varT t.size ++ (t ++ r))) ∨ s.size < 5 ∨ (∃ x u, x < 4294967296 ∧ s = fixT x ++ u ∧ 1 ≤ u.size ∧ rv 7 (nb u) = none) ∨
    (∃ x a u, x < 4294967296 ∧ a < 562949953421312 ∧ s = fixT x ++ (varT a ++ u) ∧ (200 < a ∨ u.size < a)) := by
  rcases fx_cases s with ⟨x, u, hx, rfl⟩ | h
  · rw [fx_sz] at hs
    rcases rv_cases u with ⟨a, v, ha, rfl⟩ | h
    · rw [sz_app] at hs
      by_cases c : 200 < a ∨ v.size < a
      · exact .inr (.inr (.inr ⟨x, a, v, hx, ha, rfl, c⟩))
      · left
        have e := split_at v (n := a) (by omega)
        have hz : (ByteArray.extract v 0 a).size = a := by rw [← nb_len, nb_extract, List.length_take, nb_len]; omega
        refine ⟨x, ByteArray.extract v 0 a, ByteArray.extract v a v.size, hx, by omega, ?_, by rw [hz, ← e]⟩
        have := congrArg ByteArray.size e
        rw [sz_app] at this
        omega
    · by_cases c : 1 ≤ u.size
      · exact .inr (.inr (.inl ⟨x, u, hx, rfl, c, h⟩))
      · exact .inr (.inl (by rw [fx_sz]; omega))
  · exact .inr (.inl (by omega))
theorem implUnframe_bad {k : Nat} (hk : 2 ^ 50 ≤ k) {s : ByteArray} (hs : s.size ≤ 1099511627776) (h : s.size < 5 ∨ (∃ x u, x < 4294967296 ∧ s = fixT x ++ u ∧ 1 ≤ u.size ∧ rv 7 (nb u) = none) ∨
    (∃ x a u, x < 4294967296 ∧ a < 562949953421312 ∧ s = fixT x ++ (varT a ++ u) ∧ (200 < a ∨ u.size < a))) : impl_Unframe.f k s = some (⟨#[]⟩, (0, ())) := by
  unfold impl_Unframe.f impl_Unframe.t
  rcases h with h | ⟨x, u, hx, rfl, hu, h⟩ | ⟨x, a, u, hx, ha, rfl, h⟩
  · by_cases c : s.size < 4
    · rw [decT (by omega), cond_true]
    · have e : ByteArray.extract s 4 s.size = ⟨#[]⟩ := nb_inj (by rw [ext_tail, List.drop_eq_nil_of_le (by rw [nb_len]; omega)]; rfl)
      rw [decF (by omega), cond_false, inc_eq (by omega) (by omega), e, implReadVar_bad hk rfl (by decide), Option.bind_some]
      rfl
  · rw [fx_sz] at hs
    rw [decF (by rw [fx_sz]; omega), cond_false, inc_eq (by omega) (by rw [fx_sz]; omega), tail4, implReadVar_bad hk h (by omega), Option.bind_some]
    rfl
  · have v1 := varT_size a
    have z1 : (fixT x ++ (varT a ++ u)).size = 4 + ((varT a).size + u.size) := by rw [fx_sz, sz_app]
    rw [decF (by omega), cond_false, inc_eq (by omega) (by omega), tail4, implReadVar_ok hk ha (by omega), Option.bind_some]
    simp only [vz, cond_false]
    by_cases c : 200 < a
    · rw [decT (by omega), cond_true]
    · rw [decF (by omega), cond_false, w64_eq (n := ((fixT x ++ (varT a ++ u)).size : Int) - 4) (by omega) (by omega), w64_eq (n := ((fixT x ++ (varT a ++ u)).size : Int) - 4 - _) (by omega) (by omega), decT (by omega), cond_true]
section
open Classical
noncomputable def unfM (s : ByteArray) : ByteArray × Int := if h : ∃ t r, t.size ≤ 200 ∧ s = frameM t ++ r then (h.choose, ((frameM h.choose).size : Int)) else (⟨#[]⟩, 0)
theorem unf_frame {t : ByteArray} (r : ByteArray) (h : t.size ≤ 200) : unfM (frameM t ++ r) = (t, ((frameM t).size : Int)) := by
  have q : ∃ u v, u.size ≤ 200 ∧ frameM t ++ r = frameM u ++ v := ⟨t, r, h, rfl⟩
  unfold unfM
  rw [dif_pos q]
  obtain ⟨v, h1, h2⟩ := q.choose_spec
  have := (frame_inj h h1 h2).1
  rw [← this]
theorem unf_cases (s : ByteArray) : (∃ t r, t.size ≤ 200 ∧ s = frameM t ++ r ∧ unfM s = (t, ((frameM t).size : Int))) ∨ (unfM s = (⟨#[]⟩, 0) ∧ ∀ t r, t.size ≤ 200 → s ≠ frameM t ++ r) := by
  by_cases q : ∃ t r, t.size ≤ 200 ∧ s = frameM t ++ r
  · obtain ⟨t, r, h, rfl⟩ := q
    exact .inl ⟨t, r, h, rfl, unf_frame r h⟩
  · right
    refine ⟨?_, fun t r h e => q ⟨t, r, h, e⟩⟩
    unfold unfM
    rw [dif_neg q]
end
theorem un_of {k : Nat} {f : ByteArray → Option (ByteArray × Int × Unit)} (h1 : ∀ x t r, x < 4294967296 → t.size ≤ 200 → t.size + r.size ≤ 1099511627776 → f (fixT x ++ (varT t.size ++ (t ++ r))) = bif !seq (frameM t) (fixT x ++ (varT t.size ++ t)) then some (⟨#[]⟩, (0, ())) else some (t, (((4 + (varT t.size).size + t.size : Nat) : Int), ())))
    (h2 : ∀ s, s.size ≤ 1099511627776 → (s.size < 5 ∨ (∃ x u, x < 4294967296 ∧ s = fixT x ++ u ∧ 1 ≤ u.size ∧ rv 7 (nb u) = none) ∨ (∃ x a u, x < 4294967296 ∧ a < 562949953421312 ∧ s = fixT x ++ (varT a ++ u) ∧ (200 < a ∨ u.size < a))) → f s = some (⟨#[]⟩, (0, ())))
    {s : ByteArray} (hs : s.size ≤ 1099511627776) : f s = some ((unfM s).1, ((unfM s).2, ())) := by
  rcases un_cases s hs with ⟨x, t, r, hx, ht, hr, rfl⟩ | h
  · rw [h1 x t r hx ht hr]
    by_cases c : frameM t = fixT x ++ (varT t.size ++ t)
    · have e : fixT x ++ (varT t.size ++ (t ++ r)) = frameM t ++ r := by rw [c, app_assoc, app_assoc]
      rw [seqT c, e, unf_frame r ht, c, fx_sz, sz_app, Nat.add_assoc]
      rfl
    · rw [seqF c]
      rcases unf_cases (fixT x ++ (varT t.size ++ (t ++ r))) with ⟨t', r', ht', e, _⟩ | ⟨e, _⟩
      · exfalso
        obtain ⟨y, hy, f'⟩ := frame_form ht'
        rw [f', app_assoc, app_assoc] at e
        have h3 := app_inj e rfl
        obtain ⟨h4, h5⟩ := varT_inj (by omega) (by omega) h3.2
        have h6 := app_inj h5 h4
        apply c
        rw [h6.1, f', h3.1]
      · rw [e]; rfl
  · rw [h2 s hs h]
    rcases unf_cases s with ⟨t', r', ht', e, _⟩ | ⟨e, _⟩
    · exfalso
      obtain ⟨y, hy, f'⟩ := frame_form ht'
      have hp := frameM_pos ht'
      rw [f', app_assoc, app_assoc] at e
      rcases h with h | ⟨x, u, hx, e2, hu, h⟩ | ⟨x, a, u, hx, ha, e2, h⟩
      · rw [e, fx_sz, sz_app] at h
        have := varT_size t'.size
        omega
      · rw [e2] at e
        rw [(app_inj e rfl).2, rv_app (by omega)] at h
        cases h
      · rw [e2] at e
        obtain ⟨h4, h5⟩ := varT_inj ha (by omega) (app_inj e rfl).2
        rw [h5, h4, sz_app] at h
        omega
    · rw [e]
theorem implUnframe_eq {k : Nat} (hk : 2 ^ 50 ≤ k) {s : ByteArray} (hs : s.size ≤ 1099511627776) : impl_Unframe.f k s = some ((unfM s).1, ((unfM s).2, ())) :=
  un_of (k := k) (fun x t r _ ht hr => implUnframe_at hk ht hr) (fun s hs h => implUnframe_bad hk hs h) hs
theorem unf_bound (s : ByteArray) : (unfM s).1.size ≤ 200 ∧ ((unfM s).2 = 0 ∨ 5 ≤ (unfM s).2) ∧ (unfM s).2 ≤ s.size ∧ (unfM s).2 ≤ 211 := by
  rcases unf_cases s with ⟨t, r, h, rfl, e⟩ | ⟨e, _⟩
  · rw [e, sz_app]
    have := frameM_pos h
    have := frameM_size t
    refine ⟨h, ?_, ?_, ?_⟩ <;> simp only [] <;> omega
  · rw [e]
    refine ⟨by simp only [e0]; omega, .inl rfl, by simp only []; omega, by simp only []; omega⟩
/- ScanRecs. -/
end Go.Proofs.YtccccehgfmphjaaDoor.G

/- M: ShowLive, ReadLive: what they answer, in both readings. -/
set_option linter.unusedVariables false
set_option linter.unusedSimpArgs false
namespace Go.Proofs.YtccccehgfmphjaaDoor.G
open Go.V
theorem vl_len1 (d : Nat) {a : Nat} (h : a < 128) : (vl d a).length = 1 := by
  cases d with
  | zero => rfl
  | succ d => unfold vl; rw [if_neg (by omega)]; rfl
theorem vl_len3 {a : Nat} (h : a < 2097152) : (vl 6 a).length ≤ 3 := by
  unfold vl
  split
  · rw [List.length_cons]
    unfold vl
    split
    · rw [List.length_cons, vl_len1 4 (by omega)]
      omega
    · simp
  · simp
theorem varB_small {a : Int} (h0 : 0 ≤ a) (h1 : a ≤ 100000) : (varB a).size ≤ 3 := by
  obtain ⟨n, rfl⟩ := Int.eq_ofNat_of_zero_le h0
  rw [varB_nat (by omega), ← varT_len (by omega)]
  exact vl_len3 (by omega)
def varsT : List Int → ByteArray
  | [] => ⟨#[]⟩
  | x :: l => varB x ++ varsT l
theorem varsT_small : ∀ (l : List Int), (∀ x ∈ l, 0 ≤ x ∧ x ≤ 100000) → (varsT l).size ≤ 3 * l.length
  | [], _ => Nat.le_refl _
  | x :: l, h => by
    have h1 := varB_small (h x (List.mem_cons_self ..)).1 (h x (List.mem_cons_self ..)).2
    have h2 := varsT_small l fun y hy => h y (List.mem_cons_of_mem _ hy)
    rw [varsT, sz_app, List.length_cons]
    omega
theorem varsT_size : ∀ (l : List Int), (varsT l).size ≤ 7 * l.length
  | [] => Nat.le_refl _
  | x :: l => by
    have h1 := varB_size x
    have h2 := varsT_size l
    rw [varsT, sz_app, List.length_cons]
    omega
def liveT (v : Ty.den TLive) : ByteArray := varB v.1 ++ (varB (v.2.1.length : Int) ++ varsT v.2.1)
def showLiveM (v : Ty.den TLive) : ByteArray := if liveM v = true then frameM (liveT v) else ⟨#[]⟩
theorem live_facts {nx : Int} {ids : List Int} (h : liveM (nx, (ids, ())) = true) : 1 ≤ nx ∧ nx ≤ 100000 ∧ 1 ≤ ids.length ∧ ids.length ≤ 60 ∧ ∀ x ∈ ids, 0 ≤ x ∧ x ≤ 100000 := by
  unfold liveM at h
  simp only [Bool.and_eq_true, decide_eq_true_eq] at h
  obtain ⟨h1, h2, h3⟩ := h
  have h1a : 1 ≤ nx := h1.1
  have h1b : nx ≤ 100000 := h1.2
  refine ⟨h1a, h1b, by omega, by omega, fun x hx => ?_⟩
  obtain ⟨p, hp⟩ := adj_all h3 hx
  unfold idOk at hp
  rw [Bool.and_eq_true, decide_eq_true_eq] at hp
  have hw : w64 (nx - 1) = nx - 1 := w64_eq (by omega) (by omega)
  have h4 : x ≤ w64 (nx - 1) := hp.1.2
  have h5 : 1 ≤ x := hp.1.1
  omega
theorem liveT_size {nx : Int} {ids : List Int} (h : liveM (nx, (ids, ())) = true) : (liveT (nx, (ids, ()))).size ≤ 200 := by
  obtain ⟨h1, h2, h3, h4, h5⟩ := live_facts h
  have a := varB_small (a := nx) (by omega) h2
  have b := varB_small (a := (ids.length : Int)) (by omega) (by omega)
  have c := varsT_small ids h5
  unfold liveT
  rw [sz_app, sz_app]
  simp only []
  omega
noncomputable def readLiveM (s : ByteArray) : Ty.den TLive × Bool := undo (fun v => liveM v = true) showLiveM (0, ([], ())) s
def Lno : Option (Ty.den TLive × Bool × Unit) := some ((0, ([], ())), (false, ()))
theorem varB_int {x : Int} (h0 : 0 ≤ x) (h1 : x ≤ 100000) : ∃ n : Nat, n < 562949953421312 ∧ x = (n : Int) ∧ varB x = varT n := by
  obtain ⟨n, rfl⟩ := Int.eq_ofNat_of_zero_le h0
  exact ⟨n, by omega, rfl, varB_nat (by omega)⟩
/- As the program reads it. -/
def fiL (s : ByteArray) (m a : Int) (out : List Int) (r : ByteArray) (bad : Bool) : Option (Ty.den TLive × Bool × Unit) :=
  bif m == 0 then Lno else bif m != (s.size : Int) then Lno else bif bad then Lno else bif !seq r ⟨#[]⟩ then Lno else bif !liveM (a, (out, ())) then Lno else some ((a, (out, ())), (true, ()))
theorem fiL_end {k : Nat} (hk : 2 ^ 50 ≤ k) {s r : ByteArray} {m a : Int} {out : List Int} {bad : Bool} (ho : out.length ≤ 1099511627776) :
    @Eq (Option (Ty.den TLive × Bool × Unit)) (bif (m == 0) then (some ((0, ([], ())), (false, ()))) else (bif (m != (ByteArray.size s : Int)) then (some ((0, ([], ())), (false, ()))) else (bif bad then (some ((0, ([], ())), (false, ()))) else (bif (!(seq r (⟨#[]⟩ : ByteArray))) then (some ((0, ([], ())), (false, ()))) else (Option.bind (impl_LiveOk.f k (a, (out, ()))) fun r5 => (bif (!r5.1) then (some ((0, ([], ())), (false, ()))) else (some ((a, (out, ())), (true, ()))))))))) (fiL s m a out r bad) := by
  rw [implLive_eq hk (v := (a, (out, ()))) ho]
  rfl
theorem implLoop_ok {k : Nat} (hk : 2 ^ 50 ≤ k) {s : ByteArray} (m a : Int) : ∀ (ids : List Int) (n : Nat) (j c : Int) (out : List Int), (∀ x ∈ ids, 0 ≤ x ∧ x ≤ 100000) → ids.length < n → 0 ≤ j → c = j + ids.length → c ≤ 60 → (out.length : Int) ≤ j →
    impl_ReadLive.l0 k n s m c j [] 0 (varsT ids) false out a = fiL s m a (out ++ ids) ⟨#[]⟩ false := by
  intro ids
  induction ids with
  | nil =>
    intro n j c out h hn h0 hc h1 ho
    obtain ⟨n, rfl⟩ : ∃ q, n = q + 1 := ⟨n - 1, by omega⟩
    rw [List.length_nil] at hc
    simp only [impl_ReadLive.l0, impl_ReadLive.b0]
    rw [decF (show ¬ j < c by omega), cond_false, List.append_nil]
    exact fiL_end hk (bad := false) (by omega)
  | cons x ids ih =>
    intro n j c out h hn h0 hc h1 ho
    rw [List.length_cons] at hn hc
    obtain ⟨n, rfl⟩ : ∃ q, n = q + 1 := ⟨n - 1, by omega⟩
    obtain ⟨b, hb, hx, hv⟩ := varB_int (h x (List.mem_cons_self ..)).1 (h x (List.mem_cons_self ..)).2
    have hts := varsT_size ids
    have ih := ih n (j + 1) c (out ++ [x]) (fun y hy => h y (List.mem_cons_of_mem _ hy)) (by omega) (by omega) (by omega) h1 (by rw [len_snoc]; omega)
    simp only [impl_ReadLive.l0, impl_ReadLive.b0]
    rw [decT (show j < c by omega), cond_true, Bool.not_false, cond_true, show varsT (x :: ids) = varT b ++ varsT ids by rw [varsT, hv], num_ok hk hb (by omega), Option.bind_some]
    simp only []
    rw [rm_ok (by omega) (by decide), w64_eq (by omega) (by omega), ← hx, ih, List.append_assoc]
    rfl
theorem implReadLive_1 {k : Nat} (hk : 2 ^ 50 ≤ k) {nx : Int} {ids : List Int} (h : liveM (nx, (ids, ())) = true) : impl_ReadLive.f k (showLiveM (nx, (ids, ()))) = some ((nx, (ids, ())), (true, ())) := by
  obtain ⟨g1, g2, g3, g4, g5⟩ := live_facts h
  have hz := liveT_size h
  have hf := frameM_pos hz
  have hfs := frameM_size (liveT (nx, (ids, ())))
  have hu := unf_frame ⟨#[]⟩ hz
  rw [nil_app] at hu
  have e : showLiveM (nx, (ids, ())) = frameM (liveT (nx, (ids, ()))) := if_pos h
  obtain ⟨a, ha, hx, hv⟩ := varB_int (x := nx) (by omega) g2
  obtain ⟨b, hb, hy, hw⟩ := varB_int (x := (ids.length : Int)) (by omega) (by omega)
  have ht : liveT (nx, (ids, ())) = varT a ++ (varT b ++ varsT ids) := by
    unfold liveT
    rw [← hv, ← hw]
  have hvs := varsT_size ids
  have hvb := varT_size b
  have hl := implLoop_ok hk (s := showLiveM (nx, (ids, ()))) ((showLiveM (nx, (ids, ()))).size : Int) nx ids k 0 (b : Int) [] g5 (by omega) (by omega) (by omega) (by omega) (by simp)
  have hu1 : unfM (showLiveM (nx, (ids, ()))) = (liveT (nx, (ids, ())), ((showLiveM (nx, (ids, ()))).size : Int)) := by rw [e]; exact hu
  unfold impl_ReadLive.f impl_ReadLive.t
  rw [implUnframe_eq hk (by rw [e]; omega), Option.bind_some, hu1]
  simp only []
  rw [ht, num_ok hk ha (by rw [sz_app]; omega), Option.bind_some]
  simp only []
  rw [num_ok hk hb (by omega), Option.bind_some]
  simp only []
  rw [← hx, hl, List.nil_append]
  unfold fiL
  rw [show (((showLiveM (nx, (ids, ()))).size : Int) == 0) = false from beq_eq_false_iff_ne.2 (by rw [e]; omega), show (((showLiveM (nx, (ids, ()))).size : Int) != ((showLiveM (nx, (ids, ()))).size : Int)) = false by simp, seq_refl, h]
  rfl
theorem implLoop_any {k : Nat} (hk : 2 ^ 50 ≤ k) {s : ByteArray} (m a c : Int) : ∀ (n : Nat) (rest : ByteArray) (j : Int) (out : List Int), rest.size + 2 ≤ n → 0 ≤ j → j ≤ c → c < 562949953421312 → out.length + rest.size ≤ 1000000 →
    (∃ xs r, rest = varsT xs ++ r ∧ (xs.length : Int) = c - j ∧ impl_ReadLive.l0 k n s m c j [] 0 rest false out a = fiL s m a (out ++ xs) r false) ∨ (∃ o r, impl_ReadLive.l0 k n s m c j [] 0 rest false out a = fiL s m a o r true) := by
  intro n
  induction n with
  | zero => intro rest j out h1; omega
  | succ n ih =>
    intro rest j out h1 h2 h3 h4 h5
    by_cases c1 : j < c
    · rcases rv_cases rest with ⟨b, t, hb, rfl⟩ | hbad
      · have hvb := varT_size b
        rw [sz_app] at h1 h5
        have e : impl_ReadLive.l0 k (n + 1) s m c j [] 0 (varT b ++ t) false out a = impl_ReadLive.l0 k n s m c (j + 1) [] 0 t false (out ++ [(b : Int)]) a := by
          simp only [impl_ReadLive.l0, impl_ReadLive.b0]
          rw [decT c1, cond_true, Bool.not_false, cond_true, num_ok hk hb (by omega), Option.bind_some]
          simp only []
          rw [rm_ok (by omega) (by decide), w64_eq (by omega) (by omega)]
        rw [e]
        rcases ih t (j + 1) (out ++ [(b : Int)]) (by omega) (by omega) (by omega) h4 (by rw [len_snoc]; omega) with ⟨xs, r, g1, g2, g3⟩ | g
        · refine .inl ⟨(b : Int) :: xs, r, ?_, by rw [List.length_cons]; omega, ?_⟩
          · rw [varsT, varB_nat hb, g1, app_assoc]
          · rw [g3, List.append_assoc]; rfl
        · exact .inr g
      · refine .inr ?_
        obtain ⟨n, rfl⟩ : ∃ q, n = q + 1 := ⟨n - 1, by omega⟩
        refine ⟨out ++ [0], rest, ?_⟩
        simp only [impl_ReadLive.l0, impl_ReadLive.b0]
        rw [decT c1, cond_true, Bool.not_false, cond_true, num_bad hk hbad (by omega), Option.bind_some]
        simp only []
        rw [rm_ok (by omega) (by decide), w64_eq (by omega) (by omega), Bool.not_true, cond_false]
        rw [fiL_end hk (bad := true) (by rw [len_snoc]; omega)]
        cases decide (j + 1 < c) <;> rfl
    · refine .inl ⟨[], rest, by rw [varsT, app_nil], by rw [List.length_nil]; omega, ?_⟩
      simp only [impl_ReadLive.l0, impl_ReadLive.b0]
      rw [decF c1, cond_false, List.append_nil]
      exact fiL_end hk (bad := false) (by omega)
theorem fiL_bad (s : ByteArray) (m a : Int) (o : List Int) (r : ByteArray) : fiL s m a o r true = Lno := by
  unfold fiL
  cases m == 0 <;> cases m != (s.size : Int) <;> rfl
theorem implLoop_bad {k : Nat} (hk : 2 ^ 50 ≤ k) (s : ByteArray) (m a c : Int) (r : ByteArray) : impl_ReadLive.l0 k k s m c 0 [] 0 r true [] a = Lno := by
  obtain ⟨n, hn⟩ : ∃ q, k = q + 1 := ⟨k - 1, by omega⟩
  have e : impl_ReadLive.l0 k (n + 1) s m c 0 [] 0 r true [] a = Lno := by
    simp only [impl_ReadLive.l0, impl_ReadLive.b0]
    rw [Bool.not_true, cond_false, fiL_end hk (bad := true) (by simp), fiL_bad]
    cases decide (0 < c) <;> rfl
  rw [← hn] at e
  exact e
theorem implReadLive_eq {k : Nat} (hk : 2 ^ 50 ≤ k) {s : ByteArray} (hs : s.size ≤ 1099511627776) : impl_ReadLive.f k s = some ((readLiveM s).1, ((readLiveM s).2, ())) := by
  refine undo_of (fun v h1 h2 => ?_) ?_
  · subst h2
    exact implReadLive_1 hk (nx := v.1) (ids := v.2.1) h1
  · unfold impl_ReadLive.f impl_ReadLive.t
    rw [implUnframe_eq hk hs, Option.bind_some]
    have hu := unf_bound s
    have hc := unf_cases s
    generalize unfM s = u at hu hc
    obtain ⟨t, m⟩ := u
    simp only [] at hu ⊢
    rcases rv_cases t with ⟨a, t1, ha, e1⟩ | hb
    case inr =>
      rw [num_bad hk hb (by omega), Option.bind_some]
      simp only []
      rw [num_b hk (by omega), Option.bind_some]
      simp only []
      rw [implLoop_bad hk]
      exact .inr rfl
    have z1 : t.size = (varT a).size + t1.size := by rw [e1, sz_app]
    rw [show impl_scanner__num.f k (t, (false, ())) = some ((t1, (false, ())), ((a : Int), ())) by rw [e1]; exact num_ok hk ha (by omega), Option.bind_some]
    simp only []
    rcases rv_cases t1 with ⟨c, t2, hcl, e2⟩ | hb
    case inr =>
      rw [num_bad hk hb (by omega), Option.bind_some]
      simp only []
      rw [implLoop_bad hk]
      exact .inr rfl
    have z2 : t1.size = (varT c).size + t2.size := by rw [e2, sz_app]
    rw [show impl_scanner__num.f k (t1, (false, ())) = some ((t2, (false, ())), ((c : Int), ())) by rw [e2]; exact num_ok hk hcl (by omega), Option.bind_some]
    simp only []
    rcases implLoop_any hk (s := s) m (a : Int) (c : Int) k t2 0 [] (by omega) (by omega) (by omega) (by omega) (by rw [List.length_nil]; omega) with ⟨xs, r, g1, g2, g3⟩ | ⟨o, r, g⟩
    case inr => rw [g, fiL_bad]; exact .inr rfl
    rw [g3, List.nil_append]
    unfold fiL
    by_cases c2 : m = 0
    case pos => rw [show (m == 0) = true from beq_iff_eq.2 c2]; exact .inr rfl
    rw [show (m == 0) = false from beq_eq_false_iff_ne.2 c2, cond_false]
    by_cases c1 : m = (s.size : Int)
    case neg => rw [show (m != (s.size : Int)) = true from bne_iff_ne.2 c1]; exact .inr rfl
    rw [show (m != (s.size : Int)) = false by rw [c1]; simp, cond_false, cond_false]
    cases c3 : seq r ⟨#[]⟩ with
    | false => exact .inr rfl
    | true =>
      rw [Bool.not_true, cond_false]
      cases c4 : liveM ((a : Int), (xs, ())) with
      | false => exact .inr rfl
      | true =>
        refine .inl ⟨((a : Int), (xs, ())), c4, ?_, rfl⟩
        have hr := seq_iff.1 c3
        subst hr
        rw [nil_app] at g1
        rcases hc with ⟨t', r', h1, h2, h3⟩ | ⟨h1, _⟩
        · obtain ⟨rfl, hm⟩ := Prod.mk.inj h3
          have hr' : r' = ⟨#[]⟩ := by
            have hsz := congrArg ByteArray.size h2
            rw [sz_app] at hsz
            have : r'.size = 0 := by omega
            exact nb_inj (by
              have hn := nb_len r'
              rw [this] at hn
              rw [List.length_eq_zero_iff.1 hn]
              rfl)
          rw [h2, hr', nil_app]
          show showLiveM ((a : Int), (xs, ())) = frameM t
          rw [show showLiveM ((a : Int), (xs, ())) = frameM (liveT ((a : Int), (xs, ()))) from if_pos c4]
          congr 1
          rw [e1, e2, g1]
          unfold liveT
          simp only []
          rw [varB_nat ha, show (xs.length : Int) = (c : Int) by omega, varB_nat hcl]
        · exact absurd (Prod.mk.inj h1).2 c2
end Go.Proofs.YtccccehgfmphjaaDoor.G

/- M: ReadDec: what it answers, in both readings. -/
set_option linter.unusedVariables false
set_option linter.unusedSimpArgs false
namespace Go.V
def dOk (n : Int) : Prop := -999999999 ≤ n ∧ n ≤ 999999999
/-- What the digits of bytes spell, and how many they are. -/
def dg : List Nat → Nat → Nat → Nat × Nat
  | [], a, c => (a, c)
  | b :: l, a, c => if 48 ≤ b ∧ b ≤ 57 then dg l (a * 10 + (b - 48)) (c + 1) else dg l a c
theorem dg_digits : ∀ (l : List Nat) (a c : Nat), (∀ b ∈ l, 48 ≤ b ∧ b ≤ 57) → dg l a c = (spell l a, c + l.length)
  | [], a, c, _ => rfl
  | b :: l, a, c, h => by
    rw [dg, if_pos (h b (List.mem_cons_self ..)), dg_digits l _ _ fun x hx => h x (List.mem_cons_of_mem _ hx), spell, List.length_cons]
    congr 1
    omega
theorem dg_bound : ∀ (l : List Nat) (a c : Nat), a + 1 ≤ 10 ^ c → (dg l a c).1 + 1 ≤ 10 ^ (dg l a c).2
  | [], a, c, h => h
  | b :: l, a, c, h => by
    unfold dg
    split
    · rename_i q
      exact dg_bound l _ _ (by rw [Nat.pow_succ]; omega)
    · exact dg_bound l _ _ h
theorem digs_nat (u : Nat) : ∀ b ∈ (Lib.decDigits u).map UInt8.toNat, 48 ≤ b ∧ b ≤ 57 := by
  intro b hb
  obtain ⟨x, hx, rfl⟩ := List.mem_map.1 hb
  exact decDigits_digit u x hx
def sgn (s : ByteArray) (a : Nat) : Int := bif decide ((s.size : Int) > 0) && (byteAt s 0 == 45) then -(a : Int) else (a : Int)
theorem byte0 {s : ByteArray} (h : 0 < s.size) : byteAt s 0 = (((nb s).getD 0 0 : Nat) : Int) := nb_at (i := 0) h
theorem sgn_dec {n : Int} : sgn (decB n) n.natAbs = n := by
  have hb := nb_decB n
  have hl := nb_len (decB n)
  unfold sgn
  by_cases c : n < 0
  · rw [if_pos c] at hb
    rw [hb, List.length_cons] at hl
    rw [decT (by omega), byte0 (by omega), hb]
    show (bif true && (((45 : Nat) : Int) == 45) then _ else _) = n
    show -((n.natAbs : Nat) : Int) = n
    omega
  · rw [if_neg c] at hb
    have : (byteAt (decB n) 0 == 45) = false := by
      cases q : Lib.decDigits n.toNat with
      | nil => exact absurd q (decDigits_ne _)
      | cons x r =>
        have hx := decDigits_digit n.toNat x (by rw [q]; exact List.mem_cons_self ..)
        rw [q, List.map_cons] at hb
        rw [hb, List.length_cons] at hl
        rw [byte0 (by omega), hb]
        refine beq_eq_false_iff_ne.2 ?_
        show ((x.toNat : Nat) : Int) ≠ 45
        omega
    rw [this, Bool.and_false, cond_false]
    omega
theorem decB_10 {n : Int} (h : dOk n) : (decB n).size ≤ 10 := decB_size (by have := h.1; omega) (by have := h.2; omega)
theorem dg_dec {n : Int} (h : dOk n) : ∃ c, dg (nb (decB n)) 0 0 = (n.natAbs, c) ∧ c ≤ 9 := by
  obtain ⟨h0, h1⟩ := h
  rw [nb_decB]
  by_cases c : n < 0
  · rw [if_pos c]
    refine ⟨(Lib.decDigits n.natAbs).length, ?_, decDigits_len 8 _ (by rw [show (10 : Nat) ^ (8 + 1) = 1000000000 by decide]; omega)⟩
    rw [dg, if_neg (by omega), dg_digits _ _ _ (digs_nat _), spell_dec, List.length_map, Nat.zero_add]
  · rw [if_neg c]
    refine ⟨(Lib.decDigits n.toNat).length, ?_, decDigits_len 8 _ (by rw [show (10 : Nat) ^ (8 + 1) = 1000000000 by decide]; omega)⟩
    rw [dg_digits _ _ _ (digs_nat _), spell_dec, List.length_map, Nat.zero_add, show n.toNat = n.natAbs by omega]
theorem pow_le11 {c : Nat} (h : c ≤ 11) : 10 ^ c ≤ 100000000000 := Nat.le_trans (Nat.pow_le_pow_right (by decide) h) (by decide)
theorem pow_le9 {c : Nat} (h : c ≤ 9) : 10 ^ c ≤ 1000000000 := Nat.le_trans (Nat.pow_le_pow_right (by decide) h) (by decide)
end Go.V
namespace Go.Proofs.YtccccehgfmphjaaDoor.G
open Go.V
noncomputable def readDecM (s : ByteArray) : Int × Bool := undo dOk decB 0 s
def finM (s : ByteArray) (q : Nat × Nat) : Option (Int × Bool × Unit) :=
  bif decide ((q.2 : Int) > 9) || (decide ((s.size : Int) > 10) || !seq (decB (sgn s q.1)) s) then some (0, (false, ())) else some (sgn s q.1, (true, ()))
theorem fin_eq {k : Nat} (hk : 2 ^ 50 ≤ k) (s : ByteArray) {q : Nat × Nat} (hq : q.1 ≤ 1000000000000) :
    (bif (decide ((ByteArray.size s : Int) > 0)) then (inb 0 (ByteArray.size s : Int) (bif ((byteAt s 0) == 45) then (bif (decide ((q.2 : Int) > 9)) then (some (0, (false, ()))) else (bif (decide ((ByteArray.size s : Int) > 10)) then (some (0, (false, ()))) else (Option.bind (spec_Dec.f k (w64 (0 - (q.1 : Int)))) fun r1 => (bif (!(seq r1.1 s)) then (some (0, (false, ()))) else (some ((w64 (0 - (q.1 : Int))), (true, ()))))))) else
      (bif (decide ((q.2 : Int) > 9)) then (some (0, (false, ()))) else (bif (decide ((ByteArray.size s : Int) > 10)) then (some (0, (false, ()))) else (Option.bind (spec_Dec.f k (q.1 : Int)) fun r2 => (bif (!(seq r2.1 s)) then (some (0, (false, ()))) else (some ((q.1 : Int), (true, ())))))))))
    else (bif (decide ((q.2 : Int) > 9)) then (some (0, (false, ()))) else (bif (decide ((ByteArray.size s : Int) > 10)) then (some (0, (false, ()))) else (Option.bind (spec_Dec.f k (q.1 : Int)) fun r3 => (bif (!(seq r3.1 s)) then (some (0, (false, ()))) else (some ((q.1 : Int), (true, ())))))))) = finM s q := by
  have hn : w64 (0 - (q.1 : Int)) = -(q.1 : Int) := by rw [w64_eq (by omega) (by omega)]; omega
  rw [hn, specDec_eq hk (n := (q.1 : Int)) (by omega) (by omega), specDec_eq hk (n := -(q.1 : Int)) (by omega) (by omega)]
  simp only [Option.bind_some]
  unfold finM sgn
  by_cases c0 : (s.size : Int) > 0
  · rw [decT c0, cond_true, inb_eq (by omega) (by omega), Bool.true_and]
    cases byteAt s 0 == 45 <;> cases decide ((q.2 : Int) > 9) <;> cases decide ((s.size : Int) > 10)
    all_goals simp only [cond_true, cond_false, Bool.true_or, Bool.false_or]
    all_goals first | rfl | (cases seq (decB (q.1 : Int)) s <;> rfl) | (cases seq (decB (-(q.1 : Int))) s <;> rfl)
  · rw [decF c0, cond_false, Bool.false_and, cond_false]
    cases decide ((q.2 : Int) > 9) <;> cases decide ((s.size : Int) > 10)
    all_goals simp only [cond_true, cond_false, Bool.true_or, Bool.false_or]
    all_goals first | rfl | (cases seq (decB (q.1 : Int)) s <;> rfl)
theorem specReadDec_fin {k : Nat} (hk : 2 ^ 50 ≤ k) {s : ByteArray} (hs : s.size ≤ 1099511627776) : spec_ReadDec.f k s = finM s (dg ((nb s).take 11) 0 0) := by
  unfold spec_ReadDec.f spec_ReadDec.t
  have hn := nb_len s
  have hl : ((nb s).take 11).length = min 11 s.size := by rw [List.length_take, hn]
  refine forL0 (L := fun n i (q : Nat × Nat) => spec_ReadDec.l0 k n s (q.1 : Int) (q.2 : Int) i) (R := fun r q => finM s (dg r q.1 q.2)) 0 ((nb s).take 11) (fun i q => q.1 + 1 ≤ 10 ^ q.2 ∧ (q.2 : Int) ≤ i) (fun n q hq => ?_) (fun n i q x rest h0 h1 hx hr hq ih => ?_) (n := k) (s := (0, 0)) (by omega) ⟨by decide, by decide⟩
  · obtain ⟨g1, g2⟩ := hq
    have hp := pow_le11 (c := q.2) (by omega)
    rw [show dg [] q.1 q.2 = q from rfl]
    refine Eq.trans ?_ (fin_eq hk s (q := q) (by omega))
    simp only [spec_ReadDec.l0, spec_ReadDec.b0]
    rcases Nat.lt_or_ge 11 s.size with c | c
    · rw [hl, Nat.min_eq_left (by omega), decT (show ((11 : Nat) : Int) < (s.size : Int) by omega), decF (show ¬ ((11 : Nat) : Int) < 11 by omega)]
      rfl
    · rw [hl, Nat.min_eq_right c, decF (show ¬ (s.size : Int) < (s.size : Int) by omega)]
      rfl
  · obtain ⟨g1, g2⟩ := hq
    have hp := pow_le11 (c := q.2) (by omega)
    rw [hl] at h1
    have hi : i < 11 := by omega
    have hsz : i < (s.size : Int) := by omega
    have hx' : (nb s).getD i.toNat 0 = x := by rw [← hx, getD_take (by omega)]
    have hb := nb_byte (s := s) (x := x) h0 (by rw [hn]; exact hsz) hx'
    have hx256 : x < 256 := by rw [← hx']; exact nb_getD_lt s _
    simp only [spec_ReadDec.l0, spec_ReadDec.b0]
    rw [decT hsz, decT hi, cond_true, cond_true, inb_eq h0 hsz, hb]
    have iN := ih q ⟨g1, by omega⟩
    by_cases c1 : 48 ≤ x
    · rw [decT (show (x : Int) ≥ 48 by omega), cond_true]
      by_cases c2 : x ≤ 57
      · rw [inb_eq h0 hsz, decT (show (x : Int) ≤ 57 by omega), cond_true, inb_eq h0 hsz]
        have iY := ih (q.1 * 10 + (x - 48), q.2 + 1) ⟨by rw [Nat.pow_succ]; omega, by simp only []; omega⟩
        rw [wu8_ok (n := (x : Int) - 48) (by omega) (by omega), w64_eq (n := (x : Int) - 48) (by omega) (by omega), w64_eq (n := (q.1 : Int) * 10) (by omega) (by omega), w64_eq (by omega) (by omega), w64_eq (n := (q.2 : Int) + 1) (by omega) (by omega), w64_eq (n := i + 1) (by omega) (by omega)]
        rw [show dg (x :: rest) q.1 q.2 = dg rest (q.1 * 10 + (x - 48)) (q.2 + 1) from if_pos ⟨c1, c2⟩]
        rw [show (q.1 : Int) * 10 + ((x : Int) - 48) = ((q.1 * 10 + (x - 48) : Nat) : Int) by omega, show (q.2 : Int) + 1 = ((q.2 + 1 : Nat) : Int) by omega]
        exact iY
      · rw [inb_eq h0 hsz, decF (show ¬ (x : Int) ≤ 57 by omega), cond_false, w64_eq (n := i + 1) (by omega) (by omega), show dg (x :: rest) q.1 q.2 = dg rest q.1 q.2 from if_neg (fun h => c2 h.2)]
        exact iN
    · rw [decF (show ¬ (x : Int) ≥ 48 by omega), cond_false, w64_eq (n := i + 1) (by omega) (by omega), show dg (x :: rest) q.1 q.2 = dg rest q.1 q.2 from if_neg (fun h => c1 h.1)]
      exact iN
theorem specReadDec_eq {k : Nat} (hk : 2 ^ 50 ≤ k) {s : ByteArray} (hs : s.size ≤ 1099511627776) : spec_ReadDec.f k s = some ((readDecM s).1, ((readDecM s).2, ())) := by
  rw [specReadDec_fin hk hs]
  refine undo_of (fun n h1 h2 => ?_) ?_
  · subst h2
    have hz := decB_10 h1
    obtain ⟨c, e, hc⟩ := dg_dec h1
    rw [List.take_of_length_le (by rw [nb_len]; omega), e]
    unfold finM
    simp only []
    rw [decF (by omega), decF (by omega), sgn_dec, seq_refl]
    rfl
  · have hb := dg_bound ((nb s).take 11) 0 0 (by decide)
    generalize dg ((nb s).take 11) 0 0 = q at hb
    unfold finM
    by_cases c : q.2 ≤ 9
    · have hp := pow_le9 c
      cases e : (decide ((q.2 : Int) > 9) || (decide ((s.size : Int) > 10) || !seq (decB (sgn s q.1)) s)) with
      | true => exact .inr rfl
      | false =>
        simp only [Bool.or_eq_false_iff, Bool.not_eq_false'] at e
        refine .inl ⟨sgn s q.1, ?_, seq_iff.1 e.2.2, rfl⟩
        unfold sgn dOk
        cases decide ((s.size : Int) > 0) && (byteAt s 0 == 45)
        · rw [cond_false]; omega
        · rw [cond_true]; omega
    · rw [decT (show (q.2 : Int) > 9 by omega)]
      exact .inr rfl
theorem implReadDec_eq (k : Nat) {s : ByteArray} (hs : s.size ≤ 281474976710656) : impl_ReadDec.f k s = some ((readDecM s).1, ((readDecM s).2, ())) := by
  unfold impl_ReadDec.f
  rw [decT hs, cond_true]
  refine undo_of (fun n h1 h2 => ?_) ?_
  · obtain ⟨g0, g1⟩ := h1
    have he : s.data.toList = Go.Lib.itoa n := by rw [← h2]; unfold decB; rw [List.toList_toArray]
    rw [he, atoi_dec (by omega) (by omega)]
    unfold impl_ReadDec.r
    simp only []
    rw [show seq ⟨(Go.Lib.itoa n).toArray⟩ s = true from seq_iff.2 h2, decT ⟨g0, g1⟩]
    rfl
  · cases Go.Lib.atoiAll s.data.toList with
    | ok v =>
      unfold impl_ReadDec.r
      simp only []
      cases e : seq ⟨(Go.Lib.itoa v).toArray⟩ s && decide (-999999999 ≤ v ∧ v ≤ 999999999) with
      | false => exact .inr rfl
      | true =>
        rw [Bool.and_eq_true, decide_eq_true_eq] at e
        exact .inl ⟨v, e.2, seq_iff.1 e.1, rfl⟩
    | _ => exact .inr rfl
theorem readDec_dec {n : Int} (h : dOk n) : readDecM (decB n) = (n, true) := undo_eq (fun _ _ _ _ e => decB_inj e) h
end Go.Proofs.YtccccehgfmphjaaDoor.G

/- M: prefixes. -/
set_option linter.unusedVariables false
set_option linter.unusedSimpArgs false
namespace Go.Proofs.YtccccehgfmphjaaDoor.G
open Go.V
def preB (s p : ByteArray) : Bool := decide (p.size ≤ s.size) && seq (ByteArray.extract s 0 p.size) p
theorem preB_eq (s p : ByteArray) : Go.Lib.hasPrefix s.data.toList p.data.toList = preB s p := (Go.Lib.hasPrefix_raw s p).symm
theorem preB_le {s p : ByteArray} (h : preB s p = true) : p.size ≤ s.size := by
  unfold preB at h
  rw [Bool.and_eq_true, decide_eq_true_eq] at h
  exact h.1
theorem preB_app (p t : ByteArray) : preB (p ++ t) p = true := by
  unfold preB
  rw [decT (by rw [ByteArray.size_append]; omega), app_head, seq_refl]
  rfl
theorem preB_split {s p : ByteArray} (h : preB s p = true) : s = p ++ ByteArray.extract s p.size s.size := by
  have hl := preB_le h
  unfold preB at h
  rw [Bool.and_eq_true] at h
  have e := seq_iff.1 h.2
  have := split_at s hl
  rw [e] at this
  exact this
theorem cutPrefix_eq (k : Nat) (s p : ByteArray) : lib_CutPrefix.f k s p = some (bif preB s p then ByteArray.extract s p.size s.size else s, (preB s p, ())) := by
  unfold lib_CutPrefix.f Go.Lib.trimPrefix
  rw [preB_eq]
  cases preB s p with
  | false => rfl
  | true =>
    have : (⟨(if true = true then List.drop p.data.toList.length s.data.toList else s.data.toList).toArray⟩ : ByteArray) = ByteArray.extract s p.size s.size := by
      rw [if_pos rfl]
      apply nb_inj
      rw [ext_tail]
      unfold nb
      rw [List.toList_toArray, List.map_drop, Array.length_toList]
      rfl
    rw [this]
    rfl
end Go.Proofs.YtccccehgfmphjaaDoor.G

/- M: a number among numbers. -/
set_option linter.unusedVariables false
set_option linter.unusedSimpArgs false
namespace Go.Proofs.YtccccehgfmphjaaDoor.G
open Go.V
def hasN (l : List Int) (x : Int) : Bool := l.any fun y => y == x
end Go.Proofs.YtccccehgfmphjaaDoor.G

/- M: IdOf, Orphans: what they answer, in both readings. -/
set_option linter.unusedVariables false
set_option linter.unusedSimpArgs false
namespace Go.Proofs.YtccccehgfmphjaaDoor.G
open Go.V
def hintB : ByteArray := ⟨#[104, 105, 110, 116]⟩
theorem specHintName_eq {k : Nat} (hk : 2 ^ 50 ≤ k) (n : Int) : spec_HintName.f k n = some (namedM hintB n, ()) := by
  unfold spec_HintName.f spec_HintName.t namedM
  rw [l1InD_eq, Option.bind_some]
  by_cases c : (1 : Int) ≤ n ∧ n ≤ 100000
  · have hz := decB_small (n := n) (by omega) (by omega)
    rw [decT c]
    simp only [Bool.not_true, cond_false, cond_true]
    rw [specDec_eq hk (by omega) (by omega), Option.bind_some, cat_ok (by show 4 + (decB n).size ≤ _; omega)]
    rfl
  · rw [decF c]
    rfl
/-- A name tells its number. -/
def Pid (s : ByteArray) (n : Int) : Prop := 1 ≤ n ∧ n ≤ 100000 ∧ (s = segB ++ decB n ∨ s = hintB ++ decB n)
theorem seg_hint (a b : ByteArray) : segB ++ a ≠ hintB ++ b := fun h => by
  have := congrArg nb h
  rw [nb_app, nb_app, show nb segB = [115, 101, 103] from rfl, show nb hintB = [104, 105, 110, 116] from rfl] at this
  simp at this
theorem pid_one {s : ByteArray} {n m : Int} (h : Pid s n) (g : Pid s m) : n = m := by
  rcases h.2.2 with h1 | h1 <;> rcases g.2.2 with g1 | g1
  · exact decB_inj (app_cancel (h1.symm.trans g1))
  · exact absurd (h1.symm.trans g1) (seg_hint _ _)
  · exact absurd (g1.symm.trans h1) (seg_hint _ _)
  · exact decB_inj (app_cancel (h1.symm.trans g1))
theorem named_pid {s : ByteArray} {n : Int} (hs : 0 < s.size) (h : (seq (namedM segB n) s || seq (namedM hintB n) s) = true) : Pid s n := by
  unfold namedM at h
  by_cases c : (1 : Int) ≤ n ∧ n ≤ 100000
  · rw [decT c, Bool.or_eq_true] at h
    exact ⟨c.1, c.2, h.imp (fun q => (seq_iff.1 q).symm) (fun q => (seq_iff.1 q).symm)⟩
  · rw [decF c, Bool.or_eq_true] at h
    rcases h with q | q
    · rw [← seq_iff.1 q] at hs; exact absurd hs (Nat.lt_irrefl 0)
    · rw [← seq_iff.1 q] at hs; exact absurd hs (Nat.lt_irrefl 0)
theorem pid_named {s : ByteArray} {n : Int} (h : Pid s n) : (seq (namedM segB n) s || seq (namedM hintB n) s) = true := by
  obtain ⟨h0, h1, h2⟩ := h
  unfold namedM
  rw [decT ⟨h0, h1⟩, Bool.or_eq_true]
  exact h2.imp (fun q => seq_iff.2 q.symm) (fun q => seq_iff.2 q.symm)
noncomputable def idM (s : ByteArray) : Int × Bool := undo (Pid s) (fun _ => s) 0 s
theorem decB_pos (n : Int) : 0 < (decB n).size := by
  rw [← nb_len, nb_decB]
  split
  · rw [List.length_cons]; omega
  · rw [List.length_map]
    exact List.length_pos_iff.2 (decDigits_ne _)
theorem extL_size (s : ByteArray) (n : Nat) : (ByteArray.extract s n s.size).size = s.size - n := by rw [← nb_len, ext_tail, List.length_drop, nb_len]
noncomputable def hitM (s : ByteArray) (i : Nat) : Bool :=
  decide ((s.size : Int) > (i : Int)) && ((readDecM (ByteArray.extract s i s.size)).2 && (decide ((readDecM (ByteArray.extract s i s.size)).1 ≥ 1) && (seq (namedM segB (readDecM (ByteArray.extract s i s.size)).1) s || seq (namedM hintB (readDecM (ByteArray.extract s i s.size)).1) s)))
theorem id_step {k : Nat} (hk : 2 ^ 50 ≤ k) {s : ByteArray} (hs : s.size ≤ 1099511627776) (m i : Nat) (hi : i ≤ 4) :
    spec_IdOf.l0 k (m + 1) s (i : Int) = bif hitM s i then some ((readDecM (ByteArray.extract s i s.size)).1, (true, ())) else spec_IdOf.l0 k m s ((i + 1 : Nat) : Int) := by
  have hz := extL_size s i
  simp only [spec_IdOf.l0, spec_IdOf.b0]
  rw [decT (show (i : Int) ≤ 4 by omega), cond_true, w64_eq (by omega) (by omega), show (i : Int) + 1 = ((i + 1 : Nat) : Int) by omega]
  unfold hitM
  by_cases c : (s.size : Int) > (i : Int)
  · rw [decT c, cond_true, inc_eq (by omega) (by omega), Int.toNat_natCast, specReadDec_eq hk (by omega), Option.bind_some]
    simp only [specSegName_eq hk, specHintName_eq hk, Option.bind_some]
    generalize readDecM (ByteArray.extract s i s.size) = r
    cases r.2 <;> cases decide (r.1 ≥ 1) <;> cases seq (namedM segB r.1) s <;> cases seq (namedM hintB r.1) s <;> rfl
  · rw [decF c]
    rfl
theorem hit_pid {s : ByteArray} {i : Nat} (h : hitM s i = true) : Pid s (readDecM (ByteArray.extract s i s.size)).1 := by
  unfold hitM at h
  simp only [Bool.and_eq_true, decide_eq_true_eq] at h
  exact named_pid (by omega) h.2.2.2
theorem hit_of {p : ByteArray} {n : Int} (h : Pid (p ++ decB n) n) : hitM (p ++ decB n) p.size = true ∧ (readDecM (ByteArray.extract (p ++ decB n) p.size (p ++ decB n).size)).1 = n := by
  have hd : dOk n := ⟨by have := h.1; omega, by have := h.2.1; omega⟩
  have hp := decB_pos n
  rw [show ByteArray.extract (p ++ decB n) p.size (p ++ decB n).size = decB n from app_tail p (decB n)]
  unfold hitM
  rw [show ByteArray.extract (p ++ decB n) p.size (p ++ decB n).size = decB n from app_tail p (decB n), readDec_dec hd]
  refine ⟨?_, rfl⟩
  simp only []
  rw [pid_named h, decT (by rw [ByteArray.size_append]; omega), decT h.1]
  rfl
theorem specId_eq {k : Nat} (hk : 2 ^ 50 ≤ k) {s : ByteArray} (hs : s.size ≤ 1099511627776) : spec_IdOf.f k s = some ((idM s).1, ((idM s).2, ())) := by
  have e : spec_IdOf.f k s = bif hitM s 3 then some ((readDecM (ByteArray.extract s 3 s.size)).1, (true, ())) else bif hitM s 4 then some ((readDecM (ByteArray.extract s 4 s.size)).1, (true, ())) else some (0, (false, ())) := by
    unfold spec_IdOf.f spec_IdOf.t
    obtain ⟨m, hm⟩ : ∃ m, k = m + 3 := ⟨k - 3, by omega⟩
    have h3 := id_step hk hs (m + 2) 3 (by omega)
    have h4 := id_step hk hs (m + 1) 4 (by omega)
    have h5 : spec_IdOf.l0 k (m + 1) s ((5 : Nat) : Int) = some (0, (false, ())) := rfl
    rw [← hm] at h3
    rw [show (3 : Int) = ((3 : Nat) : Int) from rfl, h3, h4, h5]
  rw [e]
  refine undo_of (fun n h1 _ => ?_) ?_
  · rcases h1.2.2 with q | q
    · have := hit_of (p := segB) (n := n) (by rw [← q]; exact h1)
      rw [← q, show segB.size = 3 from rfl] at this
      rw [this.1, this.2]
      rfl
    · cases c : hitM s 3 with
      | true => rw [pid_one h1 (hit_pid c)]; rfl
      | false =>
        have := hit_of (p := hintB) (n := n) (by rw [← q]; exact h1)
        rw [← q, show hintB.size = 4 from rfl] at this
        rw [this.1, this.2]
        rfl
  · cases c : hitM s 3 with
    | true => exact .inl ⟨_, hit_pid c, rfl, rfl⟩
    | false =>
      cases c4 : hitM s 4 with
      | true => exact .inl ⟨_, hit_pid c4, rfl, rfl⟩
      | false => exact .inr rfl
noncomputable def cutM (s p : ByteArray) : Option (Int × Bool × Unit) :=
  bif preB s p && ((readDecM (ByteArray.extract s p.size s.size)).2 && decide ((1 : Int) ≤ (readDecM (ByteArray.extract s p.size s.size)).1 ∧ (readDecM (ByteArray.extract s p.size s.size)).1 ≤ 100000)) then some ((readDecM (ByteArray.extract s p.size s.size)).1, (true, ())) else some (0, (false, ()))
theorem cut_ok {s p : ByteArray} (h : cutM s p ≠ some (0, (false, ()))) : ∃ n, 1 ≤ n ∧ n ≤ 100000 ∧ s = p ++ decB n ∧ cutM s p = some (n, (true, ())) := by
  unfold cutM at h ⊢
  cases c : preB s p && ((readDecM (ByteArray.extract s p.size s.size)).2 && decide ((1 : Int) ≤ (readDecM (ByteArray.extract s p.size s.size)).1 ∧ (readDecM (ByteArray.extract s p.size s.size)).1 ≤ 100000)) with
  | false => rw [c] at h; exact absurd rfl h
  | true =>
    simp only [Bool.and_eq_true, decide_eq_true_eq] at c
    obtain ⟨c1, c2, c3⟩ := c
    have e : readDecM (ByteArray.extract s p.size s.size) = ((readDecM (ByteArray.extract s p.size s.size)).1, true) := by rw [← c2]
    have q := undo_ok e
    exact ⟨_, c3.1, c3.2, by rw [q.2]; exact preB_split c1, rfl⟩
theorem cut_of {p : ByteArray} {n : Int} (h0 : 1 ≤ n) (h1 : n ≤ 100000) : cutM (p ++ decB n) p = some (n, (true, ())) := by
  unfold cutM
  rw [preB_app, show ByteArray.extract (p ++ decB n) p.size (p ++ decB n).size = decB n from app_tail p (decB n), readDec_dec ⟨by omega, by omega⟩]
  simp only []
  rw [decT ⟨h0, h1⟩]
  rfl
theorem implId_eq (k : Nat) {s : ByteArray} (hs : s.size ≤ 281474976710656) : impl_IdOf.f k s = some ((idM s).1, ((idM s).2, ())) := by
  have e : impl_IdOf.f k s = bif preB s segB then cutM s segB else cutM s hintB := by
    unfold impl_IdOf.f impl_IdOf.t
    rw [show (⟨#[115, 101, 103]⟩ : ByteArray) = segB from rfl, show (⟨#[104, 105, 110, 116]⟩ : ByteArray) = hintB from rfl, cutPrefix_eq, cutPrefix_eq]
    simp only [Option.bind_some]
    unfold cutM
    have h3 := extL_size s segB.size
    have h4 := extL_size s hintB.size
    cases preB s segB with
    | true =>
      simp only [Bool.not_true, cond_false, cond_true, Bool.true_and]
      rw [implReadDec_eq k (by omega), Option.bind_some]
      simp only [inD_eq k, Option.bind_some]
      generalize readDecM (ByteArray.extract s segB.size s.size) = r
      cases r.2 <;> cases decide ((1 : Int) ≤ r.1 ∧ r.1 ≤ 100000) <;> rfl
    | false =>
      simp only [Bool.not_false, cond_false, cond_true]
      cases preB s hintB with
      | true =>
        simp only [Bool.not_true, cond_false, cond_true, Bool.true_and]
        rw [implReadDec_eq k (by omega), Option.bind_some]
        simp only [inD_eq k, Option.bind_some]
        generalize readDecM (ByteArray.extract s hintB.size s.size) = r
        cases r.2 <;> cases decide ((1 : Int) ≤ r.1 ∧ r.1 ≤ 100000) <;> rfl
      | false =>
        simp only [Bool.not_false, cond_false, cond_true, Bool.false_and]
        rw [implReadDec_eq k hs, Option.bind_some]
  rw [e]
  refine undo_of (fun n h1 _ => ?_) ?_
  · rcases h1.2.2 with q | q
    · rw [q, preB_app, cond_true, cut_of h1.1 h1.2.1]
    · have hp : preB s segB = false := by
        cases c : preB s segB with
        | false => rfl
        | true => exact absurd ((preB_split c).symm.trans q) (seg_hint _ _)
      rw [hp, cond_false, q, cut_of h1.1 h1.2.1]
  · cases preB s segB with
    | true =>
      rw [cond_true]
      by_cases c : cutM s segB = some (0, (false, ()))
      · exact .inr c
      · obtain ⟨n, h0, h1, h2, h3⟩ := cut_ok c
        exact .inl ⟨n, ⟨h0, h1, .inl h2⟩, rfl, h3⟩
    | false =>
      rw [cond_false]
      by_cases c : cutM s hintB = some (0, (false, ()))
      · exact .inr c
      · obtain ⟨n, h0, h1, h2, h3⟩ := cut_ok c
        exact .inl ⟨n, ⟨h0, h1, .inr h2⟩, rfl, h3⟩
/- A number among numbers. -/
theorem implHasN_eq {k : Nat} (hk : 2 ^ 50 ≤ k) {l : List Int} (hl : l.length ≤ 1099511627776) (x : Int) : impl_hasInt.f k l x = some (hasN l x, ()) := by
  unfold impl_hasInt.f impl_hasInt.t
  refine forL0 (L := fun n i (_ : Unit) => impl_hasInt.l0 k n x l l.length i) (R := fun r _ => some (hasN r x, ())) (Ty.dflt (.int .i64)) l (fun _ _ => True) (fun n _ _ => ?_) (fun n i _ y rest h0 h1 hx hr hp ih => ?_) (n := k) (s := ()) (by omega) trivial
  · simp (disch := omega) only [impl_hasInt.l0, impl_hasInt.b0, decF, cond_false]
    rfl
  · have ih := ih () trivial
    have e : hasN (y :: rest) x = ((y == x) || hasN rest x) := rfl
    simp (disch := omega) only [impl_hasInt.l0, impl_hasInt.b0, decT h1, cond_true, inb_eq, hx, w64_eq, ih, e]
    cases y == x <;> rfl
/- Orphans. -/
def tempB : ByteArray := ⟨#[116, 101, 109, 112]⟩
noncomputable def isOrph (ids : List Int) (f : Ty.den TFile) : Bool := ((idM f.1).2 && !hasN ids (idM f.1).1) || seq f.1 tempB
noncomputable def orphL (ids : List Int) : FileL → List ByteArray → List ByteArray
  | [], acc => acc
  | f :: l, acc => orphL ids l (bif isOrph ids f then acc ++ [f.1] else acc)
noncomputable def orphM (d : Ty.den TDisk) (ids : List Int) : List ByteArray := bif diskM d then orphL ids d.1 [] else []
theorem diskM_len {d : Ty.den TDisk} (h : diskM d = true) : d.1.length ≤ 130 := by
  unfold diskM at h
  rw [Bool.and_eq_true, decide_eq_true_eq] at h
  exact h.1
theorem specOrph_eq {k : Nat} (hk : 2 ^ 50 ≤ k) {d : Ty.den TDisk} {v : Ty.den TLive} (hu : used d.1 ≤ 1099511627776) (hn : names d.1 ≤ 1099511627776) (hv : v.2.1.length ≤ 1099511627776) : spec_Orphans.f k d v = some (orphM d v.2.1, ()) := by
  unfold spec_Orphans.f spec_Orphans.t orphM
  rw [specDisk_eq hk hu hn, Option.bind_some]
  cases cd : diskM d with
  | false => rfl
  | true =>
    have hl := diskM_len cd
    rw [Bool.not_true, cond_false, cond_true]
    refine forL0 (L := fun n i s => spec_Orphans.l0 k n i d.1 d.2.1 d.2.2.1 d.2.2.2.1 v.1 v.2.1 s) (R := fun r s => some (orphL v.2.1 r s, ())) (Ty.dflt TFile) d.1 (fun i s => (s.length : Int) ≤ i) (fun n s hs => ?_) (fun n i s x rest h0 h1 hx hr hs ih => ?_) (n := k) (s := []) (by omega) (by simp)
    · simp (disch := omega) only [spec_Orphans.l0, spec_Orphans.b0, decF, cond_false, orphL]
    · have hm : x ∈ d.1 := by rw [← hx]; exact getD_mem (by omega)
      have hz := names_mem hm
      have iY := ih (s ++ [x.1]) (by rw [len_snoc]; omega)
      have iN := ih s (by omega)
      have key : ∀ (id : Int) (is : Bool), spec_Orphans.l1 k (spec_Orphans.l0 k n) k i id is false 0 d.1 d.2.1 d.2.2.1 d.2.2.2.1 v.1 v.2.1 s =
          bif (is && !hasN v.2.1 id) || seq x.1 tempB then spec_Orphans.l0 k n (i + 1) d.1 d.2.1 d.2.2.1 d.2.2.2.1 v.1 v.2.1 (s ++ [x.1]) else spec_Orphans.l0 k n (i + 1) d.1 d.2.1 d.2.2.1 d.2.2.2.1 v.1 v.2.1 s := fun id is => by
        refine (forL0 (L := fun m j lv => spec_Orphans.l1 k (spec_Orphans.l0 k n) m i id is lv j d.1 d.2.1 d.2.2.1 d.2.2.2.1 v.1 v.2.1 s) (R := fun r lv => bif (is && !(lv || hasN r id)) || seq x.1 tempB then spec_Orphans.l0 k n (i + 1) d.1 d.2.1 d.2.2.1 d.2.2.2.1 v.1 v.2.1 (s ++ [x.1]) else spec_Orphans.l0 k n (i + 1) d.1 d.2.1 d.2.2.1 d.2.2.2.1 v.1 v.2.1 s) (Ty.dflt (.int .i64)) v.2.1 (fun _ _ => True) (fun m lv _ => ?_) (fun m j lv y r2 g0 g1 gx gr _ ih2 => ?_) (n := k) (s := false) (by omega) trivial)
        · simp (disch := first | omega | decide) only [spec_Orphans.l1, spec_Orphans.b1, decF, cond_false, inb_eq, hx, rm_ok, w64_eq]
          rw [show hasN [] id = false from rfl, show (⟨#[116, 101, 109, 112]⟩ : ByteArray) = tempB from rfl]
          cases is <;> cases lv <;> cases seq x.1 tempB <;> rfl
        · have e : hasN (y :: r2) id = ((y == id) || hasN r2 id) := rfl
          simp (disch := omega) only [spec_Orphans.l1, spec_Orphans.b1, decT g1, cond_true, inb_eq, gx, w64_eq, e]
          cases lv with
          | true => exact (ih2 true trivial)
          | false =>
            have := ih2 (y == id) trivial
            simp only [cond_false, Bool.false_or]
            exact this
      simp (disch := omega) only [spec_Orphans.l0, spec_Orphans.b0, decT h1, cond_true, inb_eq, hx, specId_eq hk, Option.bind_some, key]
      rw [show orphL v.2.1 (x :: rest) s = orphL v.2.1 rest (bif isOrph v.2.1 x then s ++ [x.1] else s) from rfl]
      unfold isOrph
      cases ((idM x.1).2 && !hasN v.2.1 (idM x.1).1) || seq x.1 tempB
      · exact iN
      · exact iY
theorem implOrph_eq {k : Nat} (hk : 2 ^ 50 ≤ k) {d : Ty.den TDisk} {v : Ty.den TLive} (hu : used d.1 ≤ 1099511627776) (hn : names d.1 ≤ 1099511627776) (hv : v.2.1.length ≤ 1099511627776) : impl_Orphans.f k d v = some (orphM d v.2.1, ()) := by
  unfold impl_Orphans.f impl_Orphans.t orphM
  rw [implDisk_eq hk hu hn, Option.bind_some]
  cases cd : diskM d with
  | false => rfl
  | true =>
    have hl := diskM_len cd
    rw [Bool.not_true, cond_false, cond_true]
    refine forL0 (L := fun n i s => impl_Orphans.l0 k n d.1 d.1.length i v.1 v.2.1 s) (R := fun r s => some (orphL v.2.1 r s, ())) (Ty.dflt TFile) d.1 (fun i s => (s.length : Int) ≤ i) (fun n s hs => ?_) (fun n i s x rest h0 h1 hx hr hs ih => ?_) (n := k) (s := []) (by omega) (by simp)
    · simp (disch := omega) only [impl_Orphans.l0, impl_Orphans.b0, decF, cond_false, orphL]
    · have hm : x ∈ d.1 := by rw [← hx]; exact getD_mem (by omega)
      have hz := names_mem hm
      have iY := ih (s ++ [x.1]) (by rw [len_snoc]; omega)
      have iN := ih s (by omega)
      simp (disch := first | omega | decide) only [impl_Orphans.l0, impl_Orphans.b0, decT h1, cond_true, inb_eq, hx, implId_eq k, Option.bind_some, implHasN_eq hk hv, rm_ok, w64_eq, iY, iN]
      rw [show orphL v.2.1 (x :: rest) s = orphL v.2.1 rest (bif isOrph v.2.1 x then s ++ [x.1] else s) from rfl, show (⟨#[116, 101, 109, 112]⟩ : ByteArray) = tempB from rfl]
      unfold isOrph
      cases (idM x.1).2 <;> cases hasN v.2.1 (idM x.1).1 <;> cases seq x.1 tempB <;> rfl
end Go.Proofs.YtccccehgfmphjaaDoor.G

/- M: lists of segments are read back; a name tells its number: plain laws over the models. -/
set_option linter.unusedVariables false
set_option linter.unusedSimpArgs false
namespace Go.Proofs.YtccccehgfmphjaaDoor.G
open Go.V
theorem showLive_inj {a b : Ty.den TLive} (ha : liveM a = true) (hb : liveM b = true) (h : showLiveM a = showLiveM b) : a = b := by
  have h1 := implReadLive_1 (k := 2 ^ 50) (Nat.le_refl _) (nx := a.1) (ids := a.2.1) ha
  have h2 := implReadLive_1 (k := 2 ^ 50) (Nat.le_refl _) (nx := b.1) (ids := b.2.1) hb
  have e : showLiveM (a.1, (a.2.1, ())) = showLiveM (b.1, (b.2.1, ())) := h
  rw [e, h2] at h1
  have h3 := Option.some.inj h1
  exact ((Prod.mk.inj h3).1).symm
theorem showLive_pos {v : Ty.den TLive} (h : liveM v = true) : 5 ≤ (showLiveM v).size := by
  have hz := liveT_size (nx := v.1) (ids := v.2.1) h
  have hf := frameM_pos hz
  rw [show showLiveM v = frameM (liveT (v.1, (v.2.1, ()))) from if_pos h]
  exact hf
theorem readLive_show {v : Ty.den TLive} (h : liveM v = true) : readLiveM (showLiveM v) = (v, true) := undo_eq (fun a b ha hb => showLive_inj ha hb) h
theorem readLive_none : readLiveM ⟨#[]⟩ = ((0, ([], ())), false) := by
  rcases undo_cases (fun v => liveM v = true) showLiveM ((0, ([], ())) : Ty.den TLive) ⟨#[]⟩ with ⟨r, h1, h2, _⟩ | h
  · have := showLive_pos h1
    rw [h2] at this
    exact absurd this (by decide)
  · exact h
theorem id_named {p : ByteArray} (hp : p = segB ∨ p = hintB) {n : Int} (h0 : 1 ≤ n) (h1 : n ≤ 100000) : idM (namedM p n) = (n, true) := by
  have e : namedM p n = p ++ decB n := by unfold namedM; rw [decT ⟨h0, h1⟩]; rfl
  have hn : Pid (p ++ decB n) n := ⟨h0, h1, by rcases hp with q | q <;> rw [q] <;> simp⟩
  rw [e]
  rcases undo_cases (Pid (p ++ decB n)) (fun _ => p ++ decB n) (0 : Int) (p ++ decB n) with ⟨r, g1, _, g3⟩ | g
  · unfold idM
    rw [g3, pid_one g1 hn]
  · exfalso
    unfold undo at g
    rw [dif_pos ⟨n, hn, rfl⟩] at g
    cases (Prod.mk.inj g).2
theorem id_none : idM ⟨#[]⟩ = (0, false) := by
  rcases undo_cases (Pid ⟨#[]⟩) (fun _ => (⟨#[]⟩ : ByteArray)) (0 : Int) ⟨#[]⟩ with ⟨r, g1, _, _⟩ | g
  · exfalso
    have hp := decB_pos r
    rcases g1.2.2 with q | q
    · have := congrArg ByteArray.size q
      rw [ByteArray.size_append] at this
      have e : (⟨#[]⟩ : ByteArray).size = 0 := rfl
      omega
    · have := congrArg ByteArray.size q
      rw [ByteArray.size_append] at this
      have e : (⟨#[]⟩ : ByteArray).size = 0 := rfl
      omega
  · exact g
theorem named_none (p : ByteArray) {n : Int} (h : ¬ ((1 : Int) ≤ n ∧ n ≤ 100000)) : namedM p n = ⟨#[]⟩ := by
  unfold namedM
  rw [decF h]
  rfl
theorem orphL_in (ids : List Int) : ∀ (l : FileL) (acc : List ByteArray) (x : ByteArray), x ∈ orphL ids l acc → x ∈ acc ∨ (((idM x).2 && !hasN ids (idM x).1) || seq x tempB) = true
  | [], acc, x, h => .inl h
  | f :: l, acc, x, h => by
    unfold orphL at h
    rcases orphL_in ids l _ x h with q | q
    · cases c : isOrph ids f with
      | false => rw [c] at q; exact .inl q
      | true =>
        rw [c, cond_true] at q
        rcases List.mem_append.1 q with q | q
        · exact .inl q
        · rw [List.mem_singleton] at q
          subst q
          exact .inr c
    · exact .inr q
theorem orphM_in {d : Ty.den TDisk} {ids : List Int} {x : ByteArray} (h : x ∈ orphM d ids) : (((idM x).2 && !hasN ids (idM x).1) || seq x tempB) = true := by
  unfold orphM at h
  cases c : diskM d with
  | false => rw [c] at h; cases h
  | true =>
    rw [c, cond_true] at h
    rcases orphL_in ids d.1 [] x h with q | q
    · cases q
    · exact q
end Go.Proofs.YtccccehgfmphjaaDoor.G

/- M: the program writes numbers and lists of segments; names of hints. -/
set_option linter.unusedVariables false
set_option linter.unusedSimpArgs false
namespace Go.Proofs.YtccccehgfmphjaaDoor.G
open Go.V
theorem implVars_eq {k : Nat} (hk : 2 ^ 50 ≤ k) {l : List Int} (hl : l.length ≤ 1073741824) : impl_vars.f k l = some (varsT l, ()) := by
  unfold impl_vars.f impl_vars.t
  refine (forL0 (L := fun n i s => impl_vars.l0 k n s l l.length i) (R := fun r s => some (s ++ varsT r, ())) (Ty.dflt (.int .i64)) l (fun i s => (s.size : Int) ≤ 7 * i) (fun n s hs => ?_) (fun n i s x rest g0 g1 hx hr hs ih => ?_) (n := k) (s := ⟨#[]⟩) (by omega) (by decide)).trans (by rw [app_nil])
  · simp (disch := omega) only [impl_vars.l0, impl_vars.b0, decF, cond_false]
    rw [show varsT [] = ⟨#[]⟩ from rfl, nil_app]
  · have hv := varB_size x
    have ih := ih (s ++ varB x) (by rw [sz_app]; omega)
    simp (disch := omega) only [impl_vars.l0, impl_vars.b0, decT g1, cond_true, inb_eq, hx, implVar_eq hk, Option.bind_some, cat_ok, w64_eq, ih]
    rw [app_assoc]
    rfl
theorem implShowLive_eq {k : Nat} (hk : 2 ^ 50 ≤ k) (v : Ty.den TLive) (hl : v.2.1.length ≤ 1073741824) : impl_ShowLive.f k v = some (showLiveM v, ()) := by
  unfold impl_ShowLive.f impl_ShowLive.t showLiveM
  rw [implLive_eq hk (by omega), Option.bind_some]
  cases c : liveM v with
  | false => rfl
  | true =>
    have a := varB_size v.1
    have b := varB_size (v.2.1.length : Int)
    have d := varsT_size v.2.1
    rw [Bool.not_true, cond_false, implVars2 hk, Option.bind_some, implVars_eq hk hl, Option.bind_some, if_pos rfl]
    simp only []
    rw [cat_ok (by rw [sz_app]; omega), implFrame_eq hk, Option.bind_some, app_assoc]
    rfl
theorem implHintName_eq (k : Nat) (n : Int) : impl_HintName.f k n = some (namedM hintB n, ()) := by
  unfold impl_HintName.f impl_HintName.t
  rw [show (⟨#[104, 105, 110, 116]⟩ : ByteArray) = hintB from rfl, implNamed_eq k (by decide) n]
  rfl
theorem showLive_sz (v : Ty.den TLive) : (showLiveM v).size ≤ 1099511627776 := by
  unfold showLiveM
  split
  · have := frameM_size (liveT v); omega
  · decide
end Go.Proofs.YtccccehgfmphjaaDoor.G

/- M: the cursor of draws. -/
set_option linter.unusedVariables false
set_option linter.unusedSimpArgs false
namespace Go.Proofs.YtccccehgfmphjaaDoor.G
open Go.V
abbrev CurD := Ty.den Tl1Cur
/-- A cursor stands within its bytes. -/
def CI (c : CurD) : Prop := (0 : Int) ≤ c.2.1 ∧ c.2.1 ≤ (c.1.length : Int) ∧ c.1.length ≤ 1048576
theorem and255 (y : Int) : 0 ≤ w64 (((BitVec.ofInt (IntKind.bits .i64) y &&& BitVec.ofInt (IntKind.bits .i64) 255).toNat : Int)) ∧ w64 (((BitVec.ofInt (IntKind.bits .i64) y &&& BitVec.ofInt (IntKind.bits .i64) 255).toNat : Int)) ≤ 255 := by
  have h : (BitVec.ofInt (IntKind.bits .i64) y &&& BitVec.ofInt (IntKind.bits .i64) 255).toNat ≤ 255 := by
    rw [BitVec.toNat_and]
    exact Nat.le_trans Nat.and_le_right (by decide)
  rw [w64_eq (by omega) (by omega)]
  omega
theorem l1New_ok {k : Nat} (hk : 2 ^ 50 ≤ k) {l : List Int} (hl : l.length ≤ 1048576) : ∃ c : CurD, spec_l1New.f k l = some ((), (c, ())) ∧ CI c := by
  unfold spec_l1New.f spec_l1New.t
  have key : ∀ (d n : Nat) (i h : Int), (l.length : Int) - i = d → 0 ≤ i → d < n → ∃ c : CurD, spec_l1New.l0 k n l h i = some ((), (c, ())) ∧ CI c := by
    intro d
    induction d with
    | zero =>
      intro n i h h1 h2 hn
      obtain ⟨n, rfl⟩ : ∃ q, n = q + 1 := ⟨n - 1, by omega⟩
      simp only [spec_l1New.l0, spec_l1New.b0]
      rw [decF (show ¬ i < (l.length : Int) by omega), cond_false]
      exact ⟨_, rfl, Int.le_refl _, by show (0 : Int) ≤ (l.length : Int); omega, hl⟩
    | succ d ih =>
      intro n i h h1 h2 hn
      obtain ⟨n, rfl⟩ : ∃ q, n = q + 1 := ⟨n - 1, by omega⟩
      simp only [spec_l1New.l0, spec_l1New.b0]
      rw [decT (show i < (l.length : Int) by omega), cond_true]
      by_cases c : i < 4000
      · rw [decT c, cond_true, inb_eq h2 (by omega), w64_eq (n := i + 1) (by omega) (by omega)]
        exact ih n (i + 1) _ (by omega) (by omega) (by omega)
      · rw [decF c, cond_false]
        exact ⟨_, rfl, Int.le_refl _, by show (0 : Int) ≤ (l.length : Int); omega, hl⟩
  exact key l.length k 0 _ (by omega) (by omega) (by omega)
theorem l1Byte_ok (k : Nat) {c : CurD} (h : CI c) : ∃ (c' : CurD) (x : Int), spec_l1Byte.f k c = some (c', (x, ())) ∧ CI c' ∧ 0 ≤ x ∧ x ≤ 255 := by
  obtain ⟨b, i, hh, _⟩ := c
  change Int at i
  change Int at hh
  obtain ⟨h1, h2, h3⟩ := h
  have h1 : 0 ≤ i := h1
  have h2 : i ≤ (b.length : Int) := h2
  have h3 : b.length ≤ 1048576 := h3
  unfold spec_l1Byte.f spec_l1Byte.t
  simp only []
  by_cases q : i < (b.length : Int)
  · rw [decT q, cond_true, inb_eq h1 q, w64_eq (n := i + 1) (by omega) (by omega)]
    refine ⟨_, _, rfl, ⟨by show (0 : Int) ≤ i + 1; omega, by show i + 1 ≤ (b.length : Int); omega, h3⟩, (and255 _).1, (and255 _).2⟩
  · rw [decF q, cond_false]
    exact ⟨_, _, rfl, ⟨h1, h2, h3⟩, (and255 _).1, (and255 _).2⟩
theorem l1Below_ok (k : Nat) {c : CurD} (h : CI c) {n : Int} (h0 : 0 < n) (h1 : n ≤ 256) : ∃ (c' : CurD) (x : Int), spec_l1Below.f k c n = some (c', (x, ())) ∧ CI c' ∧ 0 ≤ x ∧ x < n := by
  obtain ⟨c', x, e, hc, hx0, hx1⟩ := l1Byte_ok k h
  unfold spec_l1Below.f spec_l1Below.t
  rw [decF (show ¬ n ≤ 0 by omega), cond_false, decT h1, cond_true, e, Option.bind_some]
  simp only []
  rw [decF (show ¬ n = 0 by omega), cond_false]
  have e2 : Int.tmod x n = x % n := Int.tmod_eq_emod_of_nonneg hx0
  refine ⟨_, _, rfl, hc, ?_, ?_⟩
  · rw [e2]; exact Int.emod_nonneg _ (by omega)
  · rw [e2]; exact Int.emod_lt_of_pos _ h0
end Go.Proofs.YtccccehgfmphjaaDoor.G

/- M: what answers, and what is known of the answer. -/
set_option linter.unusedVariables false
set_option linter.unusedSimpArgs false
namespace Go.V
/-- It answers, and P is so of the answer. -/
def Tot {α : Type} (o : Option α) (P : α → Prop) : Prop := ∃ r, o = some r ∧ P r
section
variable {α β : Type} {P P' : α → Prop} {Q : β → Prop}
theorem tot_some {r : α} (h : P r) : Tot (some r) P := ⟨r, rfl, h⟩
theorem tot_of {o : Option α} {r : α} (e : o = some r) (h : P r) : Tot o P := ⟨r, e, h⟩
theorem tot_eq {o : Option α} {r : α} (h : Tot o (fun x => x = r)) : o = some r := by
  obtain ⟨x, e, rfl⟩ := h
  exact e
theorem tot_mono {o : Option α} (h : Tot o P) (hp : ∀ r, P r → P' r) : Tot o P' := by
  obtain ⟨r, e, hr⟩ := h
  exact ⟨r, e, hp r hr⟩
theorem tot_bind {o : Option α} {g : α → Option β} (h : Tot o P) (hg : ∀ r, P r → Tot (g r) Q) : Tot (Option.bind o g) Q := by
  obtain ⟨r, e, hr⟩ := h
  rw [e]
  exact hg r hr
theorem tot_bindE {o : Option α} {r : α} {g : α → Option β} (e : o = some r) (hg : Tot (g r) Q) : Tot (Option.bind o g) Q := by
  rw [e]
  exact hg
theorem tot_bif {b : Bool} {x y : Option α} (h1 : b = true → Tot x P) (h2 : b = false → Tot y P) : Tot (bif b then x else y) P := by
  cases b
  · exact h2 rfl
  · exact h1 rfl
theorem tot_yes {b : Bool} {x y : Option α} (hb : b = true) (h : Tot x P) : Tot (bif b then x else y) P := by rw [hb]; exact h
theorem tot_no {b : Bool} {x y : Option α} (hb : b = false) (h : Tot y P) : Tot (bif b then x else y) P := by rw [hb]; exact h
theorem tot_inb {i n : Int} {x : Option α} (h0 : 0 ≤ i) (h1 : i < n) (h : Tot x P) : Tot (inb i n x) P := by rw [inb_eq h0 h1]; exact h
theorem tot_rm {b n : Nat} {x : Option α} (h0 : n ≤ 1099511627776) (hb : b ≤ 128) (h : Tot x P) : Tot (rm b n x) P := by rw [rm_ok h0 hb]; exact h
theorem tot_cat {a b : ByteArray} {x : Option α} (h0 : a.size + b.size ≤ 4611686018427387904) (h : Tot x P) : Tot (cat a b x) P := by rw [cat_ok h0]; exact h
end
end Go.V

/- M: the cursor of draws answers. -/
set_option linter.unusedVariables false
set_option linter.unusedSimpArgs false
namespace Go.Proofs.YtccccehgfmphjaaDoor.G
open Go.V
theorem l1New_t {k : Nat} (hk : 2 ^ 50 ≤ k) {l : List Int} (hl : l.length ≤ 1048576) : Tot (spec_l1New.f k l) (fun r => CI r.2.1) := by
  obtain ⟨c, e, h⟩ := l1New_ok hk hl
  exact ⟨_, e, h⟩
theorem l1Byte_t (k : Nat) {c : CurD} (h : CI c) : Tot (spec_l1Byte.f k c) (fun r => CI r.1 ∧ 0 ≤ r.2.1 ∧ r.2.1 ≤ 255) := by
  obtain ⟨c', x, e, h1, h2, h3⟩ := l1Byte_ok k h
  exact ⟨_, e, h1, h2, h3⟩
theorem l1Below_t (k : Nat) {c : CurD} (h : CI c) {n : Int} (h0 : 0 < n) (h1 : n ≤ 256) : Tot (spec_l1Below.f k c n) (fun r => CI r.1 ∧ 0 ≤ r.2.1 ∧ r.2.1 < n) := by
  obtain ⟨c', x, e, q1, q2, q3⟩ := l1Below_ok k h h0 h1
  exact ⟨_, e, q1, q2, q3⟩
end Go.Proofs.YtccccehgfmphjaaDoor.G

/- M: a number that is picked by a cursor. -/
set_option linter.unusedVariables false
set_option linter.unusedSimpArgs false
namespace Go.Proofs.YtccccehgfmphjaaDoor.G
open Go.V
theorem l1PickInt_t (k : Nat) {c : CurD} (h : CI c) {l : List Int} (h0 : 0 < l.length) (h1 : l.length ≤ 256) : Tot (spec_l1PickInt.f k c l) (fun r => CI r.1 ∧ r.2.1 ∈ l) := by
  unfold spec_l1PickInt.f spec_l1PickInt.t
  refine tot_bind (l1Below_t k h (by omega) (by omega)) fun r q => ?_
  refine tot_inb q.2.1 q.2.2 (tot_some ⟨q.1, getD_mem ?_⟩)
  have := q.2.1
  have := q.2.2
  omega
end Go.Proofs.YtccccehgfmphjaaDoor.G

/- M: lists of segments that are drawn. -/
set_option linter.unusedVariables false
set_option linter.unusedSimpArgs false
namespace Go.Proofs.YtccccehgfmphjaaDoor.G
open Go.V
theorem l7LiveL {k : Nat} (hk : 2 ^ 50 ≤ k) (z : List Int) (y w : Int) : ∀ (d n : Nat) (a : Int) (c : CurD) (ids : List Int), d < n → CI c → ids.length + d ≤ 4 → 1 ≤ ids.length + d →
    Tot (spec_l7Live.l0 k n a (d : Int) c.1 c.2.1 c.2.2.1 z y ids w) (fun r => CI r.1 ∧ 1 ≤ r.2.1.2.1.length ∧ r.2.1.2.1.length ≤ 4) := by
  intro d
  induction d with
  | zero =>
    intro n a c ids hn hc h1 h2
    obtain ⟨n, rfl⟩ : ∃ q, n = q + 1 := ⟨n - 1, by omega⟩
    simp only [spec_l7Live.l0, spec_l7Live.b0]
    refine tot_no (decF (by omega)) ?_
    refine tot_bind (l1Below_t k hc (by omega) (by omega)) fun r hr => ?_
    exact tot_some ⟨hr.1, h2, h1⟩
  | succ d ih =>
    intro n a c ids hn hc h1 h2
    obtain ⟨n, rfl⟩ : ∃ q, n = q + 1 := ⟨n - 1, by omega⟩
    have hw : w64 (((d + 1 : Nat) : Int) - 1) = (d : Int) := by rw [w64_eq (by omega) (by omega)]; omega
    simp only [spec_l7Live.l0, spec_l7Live.b0, hw]
    refine tot_yes (decT (by omega)) ?_
    refine tot_bind (l1Below_t k hc (by omega) (by omega)) fun r hr => ?_
    exact tot_rm (by omega) (by decide) (ih n _ r.1 _ (by omega) hr.1 (by rw [len_snoc]; omega) (by rw [len_snoc]; omega))
theorem l7Live_t {k : Nat} (hk : 2 ^ 50 ≤ k) {c : CurD} (h : CI c) : Tot (spec_l7Live.f k c) (fun r => CI r.1 ∧ 1 ≤ r.2.1.2.1.length ∧ r.2.1.2.1.length ≤ 4) := by
  unfold spec_l7Live.f spec_l7Live.t
  refine tot_bind (l1Below_t k h (by omega) (by omega)) fun r q => ?_
  obtain ⟨hc, a, b⟩ := q
  rw [w64_eq (n := 1 + r.2.1) (by omega) (by omega)]
  have := l7LiveL hk [] 0 0 (1 + r.2.1).toNat k 0 r.1 [] (by omega) hc (by simp only [List.length_nil]; omega) (by simp only [List.length_nil]; omega)
  rw [show (((1 + r.2.1).toNat : Nat) : Int) = 1 + r.2.1 by omega] at this
  exact this
theorem l7AnyL {k : Nat} (hk : 2 ^ 50 ≤ k) (z : List Int) (y w : Int) : ∀ (d n : Nat) (c : CurD) (ids : List Int), 62 ≤ ids.length + d → 1 ≤ ids.length → ids.length ≤ 62 → d < n → CI c →
    Tot (spec_l7Any.l0 k n c.1 c.2.1 c.2.2.1 z y ids w) (fun r => CI r.1 ∧ r.2.1.2.1.length ≤ 62) := by
  intro d
  induction d with
  | zero =>
    intro n c ids h1 h2 h3 hn hc
    obtain ⟨n, rfl⟩ : ∃ q, n = q + 1 := ⟨n - 1, by omega⟩
    simp only [spec_l7Any.l0, spec_l7Any.b0]
    refine tot_bind (l1Below_t k hc (by omega) (by omega)) fun r hr => ?_
    obtain ⟨hc', a, b⟩ := hr
    rw [w64_eq (n := 60 + r.2.1) (by omega) (by omega)]
    exact tot_no (decF (by omega)) (tot_some ⟨hc', h3⟩)
  | succ d ih =>
    intro n c ids h1 h2 h3 hn hc
    obtain ⟨n, rfl⟩ : ∃ q, n = q + 1 := ⟨n - 1, by omega⟩
    simp only [spec_l7Any.l0, spec_l7Any.b0]
    refine tot_bind (l1Below_t k hc (by omega) (by omega)) fun r hr => ?_
    obtain ⟨hc', a, b⟩ := hr
    rw [w64_eq (n := 60 + r.2.1) (by omega) (by omega), w64_eq (n := (ids.length : Int) - 1) (by omega) (by omega)]
    refine tot_bif (fun hb => ?_) (fun _ => tot_some ⟨hc', h3⟩)
    have hb := of_decide_eq_true hb
    exact tot_inb (by omega) (by omega) (tot_rm (by omega) (by decide) (ih n r.1 _ (by rw [len_snoc]; omega) (by rw [len_snoc]; omega) (by rw [len_snoc]; omega) (by omega) hc'))
theorem l7Any_t {k : Nat} (hk : 2 ^ 50 ≤ k) {c : CurD} (h : CI c) : Tot (spec_l7Any.f k c) (fun r => CI r.1 ∧ r.2.1.2.1.length ≤ 62) := by
  unfold spec_l7Any.f spec_l7Any.t
  refine tot_bind (l7Live_t hk h) fun r1 q1 => ?_
  obtain ⟨hc1, a1, b1⟩ := q1
  refine tot_bind (l1Below_t k hc1 (by omega) (by omega)) fun r2 q2 => ?_
  refine tot_bif (fun _ => ?_) (fun _ => tot_bif (fun _ => ?_) (fun _ => tot_bif (fun _ => ?_) (fun _ => tot_bif (fun _ => ?_) (fun _ => ?_))))
  · refine tot_bind (l1PickInt_t k q2.1 (by decide) (by decide)) fun r3 q3 => ?_
    exact tot_some ⟨q3.1, by show r1.2.1.2.1.length ≤ 62; omega⟩
  · refine tot_bind (l1Below_t k q2.1 (by omega) (by omega)) fun r3 q3 => ?_
    refine tot_rm (by omega) (by decide) (tot_some ⟨q3.1, ?_⟩)
    show (r1.2.1.2.1 ++ [_]).length ≤ 62
    rw [len_snoc]
    omega
  · exact tot_some ⟨q2.1, by show ([] : List Int).length ≤ 62; simp only [List.length_nil]; omega⟩
  · exact l7AnyL hk [] 0 r1.2.1.1 62 k r2.1 r1.2.1.2.1 (by omega) a1 (by omega) (by omega) q2.1
  · exact tot_some ⟨q2.1, by show r1.2.1.2.1.length ≤ 62; omega⟩
end Go.Proofs.YtccccehgfmphjaaDoor.G

/- M: keys in order, and their pages: plain laws. -/
set_option linter.unusedVariables false
set_option linter.unusedSimpArgs false
namespace Go.V
theorem less_trans : ∀ a b c : List UInt8, Op.bytesLess a b = true → Op.bytesLess b c = true → Op.bytesLess a c = true
  | a, b, [], _, h2 => by cases b <;> simp [Op.bytesLess] at h2
  | [], b, z :: c, _, _ => by simp [Op.bytesLess]
  | x :: a, [], z :: c, h1, _ => by simp [Op.bytesLess] at h1
  | x :: a, y :: b, z :: c, h1, h2 => by
    simp only [Op.bytesLess] at h1 h2 ⊢
    have ih := less_trans a b c
    simp only [Bool.or_eq_true, Bool.and_eq_true, decide_eq_true_eq, beq_iff_eq] at h1 h2 ⊢
    rcases h1 with g1 | ⟨rfl, g1⟩
    · rcases h2 with g2 | ⟨rfl, g2⟩
      · exact Or.inl (UInt8.lt_trans g1 g2)
      · exact Or.inl g1
    · rcases h2 with g2 | ⟨rfl, g2⟩
      · exact Or.inl g2
      · exact Or.inr ⟨rfl, ih g1 g2⟩
theorem sls_trans {a b c : ByteArray} (h1 : sls a b = true) (h2 : sls b c = true) : sls a c = true := less_trans _ _ _ h1 h2
theorem sls_irrefl (a : ByteArray) : sls a a = false := by
  have := sls_total a a
  rw [seq_refl] at this
  cases h : sls a a with
  | false => rfl
  | true => rw [h] at this; cases this
def KeysOk (K : List ByteArray) : Prop := K.Pairwise (fun a b => sls a b = true)
end Go.V

/- M: the steps of a disk: what they make of it; a right disk stays right. -/
set_option linter.unusedVariables false
set_option linter.unusedSimpArgs false
namespace Go.Proofs.YtccccehgfmphjaaDoor.G
open Go.V
/-- A file in its place, ahead of the first of a greater name. -/
def insF : FileL → Ty.den TFile → FileL
  | [], f => [f]
  | g :: l, f => bif sls f.1 g.1 then f :: g :: l else g :: insF l f
/-- Without the first file of a name. -/
def delF : FileL → ByteArray → FileL
  | [], _ => []
  | g :: l, s => bif seq g.1 s then l else g :: delF l s
/-- The first file of a name is changed. -/
def updF (h : Ty.den TFile → Ty.den TFile) : FileL → ByteArray → FileL
  | [], _ => []
  | g :: l, s => bif seq g.1 s then h g :: l else g :: updF h l s
/-- What each step begins with. -/
def begM (d : Ty.den TDisk) : Ty.den TDisk × Int :=
  bif !diskM d then (d, 5) else bif d.2.2.2.1 then ((d.1, (d.2.1, (d.2.2.1, (true, ())))), 1) else bif (d.2.2.1 == 0) then ((d.1, (d.2.1, (d.2.2.1, (true, ())))), 1) else
  bif decide ((d.2.2.1 : Int) > 0) then ((d.1, (d.2.1, (w64 (d.2.2.1 - 1), d.2.2.2))), 0) else (d, 0)
def stepM (d : Ty.den TDisk) (g : FileL → Int → FileL × Int) : Ty.den TDisk × Int :=
  bif (begM d).2 != 0 then begM d else (((g d.1 d.2.1).1, (begM d).1.2), (g d.1 d.2.1).2)
def creG (s : ByteArray) (l : FileL) (c : Int) : FileL × Int :=
  bif !nameM s then (l, 5) else bif (getM l s).isSome then (l, 4) else bif decide ((l.length : Int) ≥ 130) then (l, 2) else (insF l (s, (ByteArray.empty, (0, ()))), 0)
def appG (s t : ByteArray) (l : FileL) (c : Int) : FileL × Int :=
  bif (getM l s).isNone then (l, 3) else bif decide ((t.size : Int) > w64 (c - (used l : Int))) then (l, 2) else (updF (fun f => (f.1, (f.2.1 ++ t, f.2.2))) l s, 0)
def synG (s : ByteArray) (l : FileL) (c : Int) : FileL × Int :=
  bif (getM l s).isNone then (l, 3) else (updF (fun f => (f.1, (f.2.1, ((f.2.1.size : Int), f.2.2.2)))) l s, 0)
def renG (a b : ByteArray) (l : FileL) (c : Int) : FileL × Int :=
  bif !nameM b then (l, 5) else match getM l a with
  | none => (l, 3)
  | some f => bif seq a b then (l, 0) else (insF (delF (delF l a) b) (b, f.2), 0)
def creM (d : Ty.den TDisk) (s : ByteArray) := stepM d (creG s)
def appM (d : Ty.den TDisk) (s t : ByteArray) := stepM d (appG s t)
def synM (d : Ty.den TDisk) (s : ByteArray) := stepM d (synG s)
def renM (d : Ty.den TDisk) (a b : ByteArray) := stepM d (renG a b)
theorem begM_files (d : Ty.den TDisk) : (begM d).1.1 = d.1 := by
  unfold begM
  cases diskM d <;> cases d.2.2.2.1 <;> cases d.2.2.1 == 0 <;> cases decide ((d.2.2.1 : Int) > 0) <;> rfl
theorem begM_cap (d : Ty.den TDisk) : (begM d).1.2.1 = d.2.1 := by
  unfold begM
  cases diskM d <;> cases d.2.2.2.1 <;> cases d.2.2.1 == 0 <;> cases decide ((d.2.2.1 : Int) > 0) <;> rfl
/- Where files stand. -/
theorem find_at : ∀ (l : FileL) (s : ByteArray) (j : Int), (getM l s = none ∧ findI l s j = -1 ∧ delF l s = l ∧ ∀ h, updF h l s = l) ∨
    (∃ n : Nat, n < l.length ∧ findI l s j = j + n ∧ getM l s = some (l.getD n (Ty.dflt TFile)) ∧ l.take n ++ l.drop (n + 1) = delF l s ∧ (l.getD n (Ty.dflt TFile)).1 = s ∧ (∀ h, l.set n (h (l.getD n (Ty.dflt TFile))) = updF h l s))
  | [], s, j => .inl ⟨rfl, rfl, rfl, fun _ => rfl⟩
  | g :: l, s, j => by
    unfold findI getM delF updF
    cases c : seq g.1 s with
    | true =>
      refine .inr ⟨0, by rw [List.length_cons]; omega, ?_, rfl, rfl, seq_iff.1 c, fun h => rfl⟩
      show j = j + ((0 : Nat) : Int)
      omega
    | false =>
      simp only [cond_false]
      rcases find_at l s (j + 1) with ⟨h1, h2, h3, h4⟩ | ⟨n, h1, h2, h3, h4, h5, h6⟩
      · exact .inl ⟨h1, h2, by rw [h3], fun h => by rw [h4]⟩
      · refine .inr ⟨n + 1, by rw [List.length_cons]; omega, by rw [h2]; omega, h3, ?_, h5, fun h => ?_⟩
        · rw [List.take_succ_cons, List.drop_succ_cons, List.cons_append, h4]
        · show g :: l.set n (h (l.getD n (Ty.dflt TFile))) = _
          rw [h6]
/- Which disks are right. -/
def FO (f : Ty.den TFile) : Prop := nameM f.1 = true ∧ LE.le (α := Int) 0 f.2.2.1 ∧ LE.le (α := Int) f.2.2.1 f.2.1.size
def nmsF (l : FileL) : List ByteArray := l.map (·.1)
theorem adj_file : ∀ (l : FileL) (p : Option (Ty.den TFile)), adj fileOk p l = true ↔ ((∀ f ∈ l, FO f) ∧ KeysOk (nmsF l) ∧ (∀ q, p = some q → ∀ f ∈ l, sls q.1 f.1 = true))
  | [], p => by
    constructor
    · intro _
      exact ⟨fun f h => (by cases h), List.Pairwise.nil, fun q _ f h => (by cases h)⟩
    · intro _; rfl
  | g :: l, p => by
    have ih := adj_file l (some g)
    unfold adj
    rw [Bool.and_eq_true, ih]
    have hf : fileOk p g = true ↔ (FO g ∧ (∀ q, p = some q → sls q.1 g.1 = true)) := by
      unfold fileOk FO
      rw [Bool.and_eq_true, Bool.and_eq_true, decide_eq_true_eq]
      cases p with
      | none => exact ⟨fun h => ⟨⟨h.1, h.2.1⟩, fun q hq => (by cases hq)⟩, fun h => ⟨h.1.1, h.1.2, rfl⟩⟩
      | some q => exact ⟨fun h => ⟨⟨h.1, h.2.1⟩, fun q' hq => (by cases hq; exact h.2.2)⟩, fun h => ⟨h.1.1, h.1.2, h.2 q rfl⟩⟩
    rw [hf]
    constructor
    · rintro ⟨⟨h1, h2⟩, h3, h4, h5⟩
      refine ⟨fun f hf => ?_, ?_, fun q hq f hf => ?_⟩
      · rcases List.mem_cons.1 hf with e | e
        · rw [e]; exact h1
        · exact h3 f e
      · unfold KeysOk nmsF
        rw [List.map_cons, List.pairwise_cons]
        refine ⟨fun x hx => ?_, h4⟩
        obtain ⟨f, hf, rfl⟩ := List.mem_map.1 hx
        exact h5 g rfl f hf
      · rcases List.mem_cons.1 hf with e | e
        · rw [e]; exact h2 q hq
        · exact sls_trans (h2 q hq) (h5 g rfl f e)
    · rintro ⟨h1, h2, h3⟩
      unfold KeysOk nmsF at h2
      rw [List.map_cons, List.pairwise_cons] at h2
      refine ⟨⟨h1 g (List.mem_cons_self ..), fun q hq => h3 q hq g (List.mem_cons_self ..)⟩, fun f hf => h1 f (List.mem_cons_of_mem _ hf), h2.2, fun q hq f hf => ?_⟩
      cases hq
      exact h2.1 f.1 (List.mem_map.2 ⟨f, hf, rfl⟩)
/-- What a right disk is. -/
structure DR (d : Ty.den TDisk) : Prop where
  len : d.1.length ≤ 130
  cap0 : LE.le (α := Int) 0 d.2.1
  cap1 : LE.le (α := Int) d.2.1 100000
  fu0 : LE.le (α := Int) (-1) d.2.2.1
  fu1 : LE.le (α := Int) d.2.2.1 100000
  use : LE.le (α := Int) (used d.1) d.2.1
  all : ∀ f ∈ d.1, FO f
  keys : KeysOk (nmsF d.1)
theorem disk_iff {d : Ty.den TDisk} : diskM d = true ↔ DR d := by
  unfold diskM
  rw [Bool.and_eq_true, Bool.and_eq_true, Bool.and_eq_true, Bool.and_eq_true, decide_eq_true_eq, decide_eq_true_eq, decide_eq_true_eq, decide_eq_true_eq, adj_file]
  constructor
  · rintro ⟨h1, ⟨h2, h3⟩, ⟨h4, h5⟩, h6, h7, h8, _⟩
    exact ⟨h1, h2, h3, h4, h5, h6, h7, h8⟩
  · intro h
    exact ⟨h.len, ⟨h.cap0, h.cap1⟩, ⟨h.fu0, h.fu1⟩, h.use, h.all, h.keys, fun q hq => (by cases hq)⟩
theorem nameM_size {s : ByteArray} (h : nameM s = true) : 1 ≤ s.size ∧ s.size ≤ 12 := by
  unfold nameM at h
  rw [Bool.and_eq_true, decide_eq_true_eq] at h
  exact h.2
theorem names_le : ∀ l : FileL, (∀ f ∈ l, FO f) → names l ≤ 12 * l.length
  | [], _ => Nat.le_refl _
  | f :: l, h => by
    have := names_le l fun g hg => h g (List.mem_cons_of_mem _ hg)
    have := (nameM_size (h f (List.mem_cons_self ..)).1).2
    rw [names_cons, List.length_cons]
    omega
theorem DR.sz {d : Ty.den TDisk} (h : DR d) : DSz d := by
  have h1 := h.len
  have h2 := h.use
  have h3 := h.cap1
  have h4 := names_le d.1 h.all
  exact ⟨by omega, by omega, by omega⟩
/- What the steps do to rows of files. -/
theorem mem_ins {l : FileL} {f x : Ty.den TFile} : x ∈ insF l f ↔ x = f ∨ x ∈ l := by
  induction l with
  | nil => simp [insF]
  | cons g l ih =>
    unfold insF
    cases sls f.1 g.1
    · simp only [cond_false, List.mem_cons, ih]
      exact ⟨fun h => h.elim (fun q => .inr (.inl q)) (fun q => q.elim .inl (fun q => .inr (.inr q))), fun h => h.elim (fun q => .inr (.inl q)) (fun q => q.elim .inl (fun q => .inr (.inr q)))⟩
    · simp only [cond_true, List.mem_cons]
theorem del_sub : ∀ (l : FileL) (s : ByteArray), (delF l s).Sublist l
  | [], s => List.Sublist.slnil
  | g :: l, s => by
    unfold delF
    cases seq g.1 s
    · exact (del_sub l s).cons_cons g
    · exact (List.Sublist.refl l).cons g
theorem upd_nms {h : Ty.den TFile → Ty.den TFile} (hh : ∀ f, (h f).1 = f.1) : ∀ (l : FileL) (s : ByteArray), nmsF (updF h l s) = nmsF l
  | [], s => rfl
  | g :: l, s => by
    unfold updF
    cases seq g.1 s
    · show g.1 :: nmsF (updF h l s) = g.1 :: nmsF l
      rw [upd_nms hh l s]
    · show (h g).1 :: nmsF l = g.1 :: nmsF l
      rw [hh]
theorem keys_upd {h : Ty.den TFile → Ty.den TFile} (hh : ∀ f, (h f).1 = f.1) {l : FileL} {s : ByteArray} (hk : KeysOk (nmsF l)) : KeysOk (nmsF (updF h l s)) := by
  rw [upd_nms hh]
  exact hk
theorem upd_mem {h : Ty.den TFile → Ty.den TFile} : ∀ {l : FileL} {s : ByteArray} {x : Ty.den TFile}, x ∈ updF h l s → x ∈ l ∨ ∃ f, getM l s = some f ∧ x = h f
  | [], s, x, hx => .inl hx
  | g :: l, s, x, hx => by
    unfold updF at hx
    unfold getM
    cases c : seq g.1 s with
    | true =>
      rw [c, cond_true] at hx
      rcases List.mem_cons.1 hx with e | e
      · exact .inr ⟨g, rfl, e⟩
      · exact .inl (List.mem_cons_of_mem _ e)
    | false =>
      rw [c, cond_false] at hx
      rcases List.mem_cons.1 hx with e | e
      · exact .inl (by rw [e]; exact List.mem_cons_self ..)
      · rcases upd_mem e with q | ⟨f, q1, q2⟩
        · exact .inl (List.mem_cons_of_mem _ q)
        · exact .inr ⟨f, q1, q2⟩
theorem used_upd {h : Ty.den TFile → Ty.den TFile} : ∀ {l : FileL} {s : ByteArray} {f : Ty.den TFile}, getM l s = some f → used (updF h l s) + f.2.1.size = used l + (h f).2.1.size
  | [], s, f, hf => by cases hf
  | g :: l, s, f, hf => by
    unfold getM at hf
    unfold updF
    cases c : seq g.1 s with
    | true =>
      rw [c] at hf
      cases hf
      rw [cond_true, used_cons, used_cons]
      omega
    | false =>
      rw [c] at hf
      have := used_upd (h := h) hf
      rw [cond_false, used_cons, used_cons]
      omega
theorem used_ins : ∀ (l : FileL) (f : Ty.den TFile), used (insF l f) = used l + f.2.1.size
  | [], f => by unfold insF; rw [used_cons, used_nil, Nat.add_comm]
  | g :: l, f => by
    unfold insF
    cases sls f.1 g.1
    · rw [cond_false, used_cons, used_cons, used_ins l f]; omega
    · rw [cond_true, used_cons, used_cons]; omega
theorem used_del : ∀ {l : FileL} {s : ByteArray} {f : Ty.den TFile}, getM l s = some f → used (delF l s) + f.2.1.size = used l
  | [], s, f, hf => by cases hf
  | g :: l, s, f, hf => by
    unfold getM at hf
    unfold delF
    cases c : seq g.1 s with
    | true => rw [c] at hf; cases hf; rw [cond_true, used_cons]; omega
    | false =>
      rw [c] at hf
      have := used_del hf
      rw [cond_false, used_cons, used_cons]
      omega
theorem used_del_le (l : FileL) (s : ByteArray) : used (delF l s) ≤ used l := by
  cases h : getM l s with
  | some f => have := used_del h; omega
  | none =>
    rcases find_at l s 0 with ⟨_, _, h3, _⟩ | ⟨n, _, _, h3, _⟩
    · rw [h3]; exact Nat.le_refl _
    · rw [h] at h3; cases h3
theorem len_ins : ∀ (l : FileL) (f : Ty.den TFile), (insF l f).length = l.length + 1
  | [], f => rfl
  | g :: l, f => by
    unfold insF
    cases sls f.1 g.1
    · rw [cond_false, List.length_cons, len_ins l f, List.length_cons]
    · rw [cond_true, List.length_cons, List.length_cons]
theorem len_upd (h : Ty.den TFile → Ty.den TFile) : ∀ (l : FileL) (s : ByteArray), (updF h l s).length = l.length
  | [], s => rfl
  | g :: l, s => by
    unfold updF
    cases seq g.1 s
    · rw [cond_false, List.length_cons, len_upd h l s, List.length_cons]
    · rw [cond_true, List.length_cons, List.length_cons]
theorem get_mem : ∀ {l : FileL} {s : ByteArray} {f : Ty.den TFile}, getM l s = some f → f ∈ l ∧ f.1 = s
  | [], s, f, h => by cases h
  | g :: l, s, f, h => by
    unfold getM at h
    cases c : seq g.1 s with
    | true => rw [c] at h; cases h; exact ⟨List.mem_cons_self .., seq_iff.1 c⟩
    | false =>
      rw [c] at h
      exact ⟨List.mem_cons_of_mem _ (get_mem h).1, (get_mem h).2⟩
theorem get_none : ∀ {l : FileL} {s : ByteArray}, getM l s = none ↔ ∀ f ∈ l, f.1 ≠ s
  | [], s => ⟨fun _ f h => (by cases h), fun _ => rfl⟩
  | g :: l, s => by
    unfold getM
    cases c : seq g.1 s with
    | true =>
      constructor
      · intro h; cases h
      · intro h; exact absurd (seq_iff.1 c) (h g (List.mem_cons_self ..))
    | false =>
      rw [cond_false, get_none]
      constructor
      · intro h f hf
        rcases List.mem_cons.1 hf with e | e
        · rw [e]; intro q; rw [seqT q] at c; cases c
        · exact h f e
      · intro h f hf; exact h f (List.mem_cons_of_mem _ hf)
/-- A file in its place: the order stays. -/
theorem keys_ins {f : Ty.den TFile} : ∀ {l : FileL}, KeysOk (nmsF l) → (∀ g ∈ l, g.1 ≠ f.1) → KeysOk (nmsF (insF l f))
  | [], _, _ => by unfold insF; exact List.pairwise_singleton ..
  | g :: l, h, hn => by
    unfold KeysOk nmsF at h
    rw [List.map_cons, List.pairwise_cons] at h
    unfold insF
    cases c : sls f.1 g.1 with
    | true =>
      rw [cond_true]
      unfold KeysOk nmsF
      rw [List.map_cons, List.pairwise_cons]
      refine ⟨fun x hx => ?_, by rw [List.map_cons, List.pairwise_cons]; exact h⟩
      rw [List.map_cons] at hx
      rcases List.mem_cons.1 hx with e | e
      · rw [e]; exact c
      · exact sls_trans c (h.1 x e)
    | false =>
      rw [cond_false]
      have ih := keys_ins (f := f) (l := l) h.2 fun g' hg => hn g' (List.mem_cons_of_mem _ hg)
      unfold KeysOk nmsF
      rw [List.map_cons, List.pairwise_cons]
      refine ⟨fun x hx => ?_, ih⟩
      obtain ⟨y, hy, rfl⟩ := List.mem_map.1 hx
      rcases mem_ins.1 hy with e | e
      · rw [e]
        have ht := sls_total g.1 f.1
        rw [c, seqF (hn g (List.mem_cons_self ..))] at ht
        cases q : sls g.1 f.1 with
        | true => rfl
        | false => rw [q] at ht; cases ht
      · exact h.1 y.1 (List.mem_map.2 ⟨y, e, rfl⟩)
theorem keys_sub {l m : FileL} (h : m.Sublist l) (hk : KeysOk (nmsF l)) : KeysOk (nmsF m) := List.Pairwise.sublist (h.map _) hk
theorem keys_ne {l : FileL} (hk : KeysOk (nmsF l)) {s : ByteArray} {f : Ty.den TFile} (h : getM l s = some f) : getM (delF l s) s = none := by
  induction l with
  | nil => cases h
  | cons g l ih =>
    unfold KeysOk nmsF at hk
    rw [List.map_cons, List.pairwise_cons] at hk
    unfold getM at h
    unfold delF
    cases c : seq g.1 s with
    | true =>
      rw [cond_true, get_none]
      intro x hx e
      have := hk.1 x.1 (List.mem_map.2 ⟨x, hx, rfl⟩)
      rw [e, seq_iff.1 c, sls_irrefl] at this
      cases this
    | false =>
      rw [c] at h
      rw [cond_false]
      unfold getM
      rw [c, cond_false]
      exact ih hk.2 h
theorem del_none {l : FileL} (hk : KeysOk (nmsF l)) (s : ByteArray) : getM (delF l s) s = none := by
  cases h : getM l s with
  | some f => exact keys_ne hk h
  | none =>
    rcases find_at l s 0 with ⟨h1, _, h3, _⟩ | ⟨n, _, _, h3, _⟩
    · rw [h3]; exact h1
    · rw [h] at h3; cases h3
/-- A right step: what it does to files keeps a disk right. -/
def GR (g : FileL → Int → FileL × Int) : Prop := ∀ l c, l.length ≤ 130 → (0 : Int) ≤ c → c ≤ 100000 → (used l : Int) ≤ c → (∀ f ∈ l, FO f) → KeysOk (nmsF l) →
  (g l c).1.length ≤ 130 ∧ (used (g l c).1 : Int) ≤ c ∧ (∀ f ∈ (g l c).1, FO f) ∧ KeysOk (nmsF (g l c).1)
theorem begM_DR {d : Ty.den TDisk} (h : DR d) : DR (begM d).1 := by
  have hd := disk_iff.2 h
  have g0 := h.fu0
  have g1 := h.fu1
  unfold begM
  rw [hd]
  cases c1 : d.2.2.2.1 with
  | true => exact ⟨h.len, h.cap0, h.cap1, h.fu0, h.fu1, h.use, h.all, h.keys⟩
  | false =>
    cases c2 : d.2.2.1 == 0 with
    | true => exact ⟨h.len, h.cap0, h.cap1, h.fu0, h.fu1, h.use, h.all, h.keys⟩
    | false =>
      by_cases c3 : (d.2.2.1 : Int) > 0
      · have e : ∀ x : Int, x > 0 → x ≤ 100000 → -1 ≤ w64 (x - 1) ∧ w64 (x - 1) ≤ 100000 := fun x q1 q2 => by
          rw [w64_eq (by omega) (by omega)]
          omega
        have e := e d.2.2.1 c3 g1
        rw [decT c3]
        exact ⟨h.len, h.cap0, h.cap1, e.1, e.2, h.use, h.all, h.keys⟩
      · rw [decF c3]
        exact h
theorem step_DR {g : FileL → Int → FileL × Int} (hg : GR g) {d : Ty.den TDisk} (h : DR d) : DR (stepM d g).1 := by
  have hb := begM_DR h
  unfold stepM
  cases c : (begM d).2 != 0 with
  | true => exact hb
  | false =>
    have hk : (begM d).1.2.1 = d.2.1 := begM_cap d
    obtain ⟨g1, g2, g3, g4⟩ := hg d.1 d.2.1 h.len h.cap0 h.cap1 h.use h.all h.keys
    exact ⟨g1, hb.cap0, hb.cap1, hb.fu0, hb.fu1, by show (used (g d.1 d.2.1).1 : Int) ≤ (begM d).1.2.1; rw [hk]; exact g2, g3, g4⟩
theorem GR_cre (s : ByteArray) : GR (creG s) := by
  intro l c h1 h2 h3 h4 h5 h6
  unfold creG
  cases hn : nameM s with
  | false => exact ⟨h1, h4, h5, h6⟩
  | true =>
    cases hs : (getM l s).isSome with
    | true => exact ⟨h1, h4, h5, h6⟩
    | false =>
      by_cases hl : (l.length : Int) ≥ 130
      · rw [decT hl]; exact ⟨h1, h4, h5, h6⟩
      · rw [decF hl]
        have hnone : getM l s = none := by
          cases q : getM l s with
          | none => rfl
          | some f => rw [q] at hs; cases hs
        refine ⟨by show (insF l _).length ≤ 130; rw [len_ins]; omega, by show (used (insF l _) : Int) ≤ c; rw [used_ins]; exact h4, fun f hf => ?_, keys_ins h6 (get_none.1 hnone)⟩
        rcases mem_ins.1 hf with e | e
        · rw [e]; exact ⟨hn, Int.le_refl _, by show (0 : Int) ≤ _; omega⟩
        · exact h5 f e
theorem GR_app (s t : ByteArray) : GR (appG s t) := by
  intro l c h1 h2 h3 h4 h5 h6
  unfold appG
  cases hs : getM l s with
  | none => exact ⟨h1, h4, h5, h6⟩
  | some f =>
    simp only [Option.isNone_some, cond_false]
    rw [w64_eq (by omega) (by omega)]
    by_cases ht : (t.size : Int) > c - (used l : Int)
    · rw [decT ht]; exact ⟨h1, h4, h5, h6⟩
    · rw [decF ht]
      have hu := used_upd (h := fun f => (f.1, (f.2.1 ++ t, f.2.2))) hs
      have hz : (f.2.1 ++ t).size = f.2.1.size + t.size := ByteArray.size_append ..
      simp only [hz] at hu
      refine ⟨by show (updF _ l s).length ≤ 130; rw [len_upd]; exact h1, by show (used (updF _ l s) : Int) ≤ c; omega, fun x hx => ?_, keys_upd (by intro f; rfl) h6⟩
      rcases upd_mem hx with q | ⟨y, q1, q2⟩
      · exact h5 x q
      · obtain ⟨a, b, c'⟩ := h5 y (get_mem q1).1
        rw [q2]
        refine ⟨a, b, ?_⟩
        show LE.le (α := Int) y.2.2.1 ((y.2.1 ++ t).size : Int)
        have : (y.2.1 ++ t).size = y.2.1.size + t.size := ByteArray.size_append ..
        omega
theorem GR_syn (s : ByteArray) : GR (synG s) := by
  intro l c h1 h2 h3 h4 h5 h6
  unfold synG
  cases hs : getM l s with
  | none => exact ⟨h1, h4, h5, h6⟩
  | some f =>
    simp only [Option.isNone_some, cond_false]
    have hu := used_upd (h := fun f => (f.1, (f.2.1, ((f.2.1.size : Int), f.2.2.2)))) hs
    refine ⟨by show (updF _ l s).length ≤ 130; rw [len_upd]; exact h1, by show (used (updF _ l s) : Int) ≤ c; simp only [] at hu; omega, fun x hx => ?_, keys_upd (by intro f; rfl) h6⟩
    rcases upd_mem hx with q | ⟨y, q1, q2⟩
    · exact h5 x q
    · obtain ⟨a, b, c'⟩ := h5 y (get_mem q1).1
      rw [q2]
      exact ⟨a, by show (0 : Int) ≤ (y.2.1.size : Int); omega, Int.le_refl _⟩
theorem GR_ren (a b : ByteArray) : GR (renG a b) := by
  intro l c h1 h2 h3 h4 h5 h6
  unfold renG
  cases hn : nameM b with
  | false => exact ⟨h1, h4, h5, h6⟩
  | true =>
    simp only [Bool.not_true, cond_false]
    cases hs : getM l a with
    | none => exact ⟨h1, h4, h5, h6⟩
    | some f =>
      simp only []
      cases seq a b with
      | true => exact ⟨h1, h4, h5, h6⟩
      | false =>
        simp only [cond_false]
        have hd := del_sub l a
        have hd2 := del_sub (delF l a) b
        have hu := used_del hs
        have hu2 := used_del_le (delF l a) b
        have hk2 := keys_sub (hd2.trans hd) h6
        have hl := find_at l a 0
        have hlen : (delF l a).length + 1 = l.length := by
          rcases find_at l a 0 with ⟨q, _⟩ | ⟨n, q1, _, _, q4, _⟩
          · rw [hs] at q; cases q
          · rw [← q4, List.length_append, List.length_take, List.length_drop]; omega
        have hlen2 := hd2.length_le
        refine ⟨by rw [len_ins]; omega, by rw [used_ins]; show ((used (delF (delF l a) b) + f.2.1.size : Nat) : Int) ≤ c; omega, fun x hx => ?_, keys_ins hk2 (get_none.1 (del_none (keys_sub hd h6) b))⟩
        rcases mem_ins.1 hx with e | e
        · rw [e]
          exact ⟨hn, (h5 f (get_mem hs).1).2.1, (h5 f (get_mem hs).1).2.2⟩
        · exact h5 x ((hd2.trans hd).subset e)
theorem cre_DR {d : Ty.den TDisk} (h : DR d) (s : ByteArray) : DR (creM d s).1 := step_DR (GR_cre s) h
theorem app_DR {d : Ty.den TDisk} (h : DR d) (s t : ByteArray) : DR (appM d s t).1 := step_DR (GR_app s t) h
theorem syn_DR {d : Ty.den TDisk} (h : DR d) (s : ByteArray) : DR (synM d s).1 := step_DR (GR_syn s) h
theorem ren_DR {d : Ty.den TDisk} (h : DR d) (a b : ByteArray) : DR (renM d a b).1 := step_DR (GR_ren a b) h
end Go.Proofs.YtccccehgfmphjaaDoor.G

/- M: the reference's steps of a disk, from l3Begin to Rename. -/
set_option linter.unusedVariables false
set_option linter.unusedSimpArgs false
namespace Go.Proofs.YtccccehgfmphjaaDoor.G
open Go.V
theorem specCopyD_eq (k : Nat) {d : Ty.den TDisk} (hd : DSz d) : spec_l3Copy.f k d = some (d, ()) := by
  have hl := hd.l
  unfold spec_l3Copy.f spec_l3Copy.t
  rw [rm_ok (by omega) (by decide), List.nil_append]
theorem specBegin_eq {k : Nat} (hk : 2 ^ 50 ≤ k) {d : Ty.den TDisk} (hd : DSz d) : spec_l3Begin.f k d = some ((begM d).1, ((begM d).2, ())) := by
  have hu := hd.u
  have hn := hd.n
  unfold spec_l3Begin.f spec_l3Begin.t begM
  rw [specCopyD_eq k hd, Option.bind_some, specDisk_eq hk (by omega) (by omega), Option.bind_some]
  cases diskM d <;> cases d.2.2.2.1 <;> cases d.2.2.1 == 0 <;> cases decide ((d.2.2.1 : Int) > 0) <;> rfl
theorem specInsert_eq {k : Nat} (hk : 2 ^ 50 ≤ k) {l : FileL} (f : Ty.den TFile) (hl : l.length ≤ 1073741824) : spec_l3Insert.f k l f = some (insF l f, ()) := by
  unfold spec_l3Insert.f spec_l3Insert.t
  refine (forL0 (L := fun n i (s : Bool × FileL) => spec_l3Insert.l0 k n l s.1 i f.1 f.2.1 f.2.2.1 s.2) (R := fun r s => some (s.2 ++ (bif s.1 then r else insF r f), ())) (Ty.dflt TFile) l (fun i s => (s.2.length : Int) ≤ i + 1 ∧ (s.1 = false → (s.2.length : Int) ≤ i)) (fun n s hs => ?_) (fun n i s x rest h0 h1 hx hr hs ih => ?_) (n := k) (s := (false, [])) (by omega) ⟨by simp, by simp⟩).trans ?_
  · obtain ⟨b, o⟩ := s
    simp only [] at hs
    simp only [spec_l3Insert.l0, spec_l3Insert.b0]
    rw [decF (by omega), cond_false]
    cases b with
    | true => simp only [Bool.not_true, cond_false, cond_true, List.append_nil]
    | false => simp only [Bool.not_false, cond_false, cond_true]; rw [rm_ok (by omega) (by decide)]; rfl
  · obtain ⟨b, o⟩ := s
    simp only [] at hs ih
    simp only [spec_l3Insert.l0, spec_l3Insert.b0]
    rw [decT h1, cond_true]
    have hlo : (o ++ [(f.1, (f.2.1, (f.2.2.1, ())))]).length = o.length + 1 := by simp
    obtain ⟨hs1, hs2⟩ := hs
    simp (disch := first | omega | decide) only [inb_eq, hx, rm_ok, w64_eq, sls_total, Bool.not_not]
    cases b with
    | true =>
      have i1 := ih (true, o ++ [x]) ⟨by simp only [len_snoc]; omega, fun q => (by cases q)⟩
      simp only [] at i1
      simp only [Bool.not_true, cond_false, cond_true]
      rw [i1]
      simp only [cond_true, List.append_assoc, List.singleton_append]
    | false =>
      have hs2 := hs2 rfl
      have i2 := ih (false, o ++ [x]) ⟨by simp only [len_snoc]; omega, fun _ => by simp only [len_snoc]; omega⟩
      simp only [] at i2
      simp only [Bool.not_false, cond_true, cond_false]
      unfold insF
      cases c : sls f.1 x.1 with
      | true =>
        simp only [cond_true]
        have i3 := ih (true, (o ++ [(f.1, (f.2.1, (f.2.2.1, ())))]) ++ [x]) ⟨by simp only [len_snoc]; omega, fun q => (by cases q)⟩
        simp only [] at i3
        rw [i3]
        simp only [cond_true, List.append_assoc, List.singleton_append]
        rfl
      | false =>
        simp only [cond_false]
        rw [i2]
        simp only [cond_false, List.append_assoc, List.singleton_append]
  · simp only [cond_false, List.nil_append]
theorem specWithout_eq (k : Nat) {l : FileL} {n : Nat} (hn : n < l.length) (hl : l.length ≤ 1073741824) : spec_l3Without.f k l (n : Int) = some (l.take n ++ l.drop (n + 1), ()) := by
  unfold spec_l3Without.f spec_l3Without.t
  have e : w64 ((n : Int) + 1) = ((n + 1 : Nat) : Int) := by rw [w64_eq (by omega) (by omega)]; omega
  rw [e, toNat_ofNat, toNat_ofNat, inc_eq (by omega) (by omega), inc_eq (by omega) (by omega), rm_ok (by rw [List.length_take]; omega) (by decide), rm_ok (by rw [List.length_append, List.length_take, List.length_drop]; simp only [List.length_nil]; omega) (by decide), List.nil_append]
/-- A disk's files, where a step may go on. -/
theorem beg_split (d : Ty.den TDisk) : ∃ b2, (begM d).1 = (d.1, b2) := ⟨(begM d).1.2, Prod.ext (begM_files d) rfl⟩
theorem specCre_eq {k : Nat} (hk : 2 ^ 50 ≤ k) {d : Ty.den TDisk} (hd : DSz d) {s : ByteArray} (hs : s.size ≤ 1099511627776) : spec_Create.f k d s = some ((creM d s).1, ((creM d s).2, ())) := by
  have hl := hd.l
  unfold spec_Create.f spec_Create.t creM stepM
  rw [specBegin_eq hk hd, Option.bind_some]
  obtain ⟨b2, hb⟩ := beg_split d
  simp only [hb]
  cases c : (begM d).2 != 0 with
  | true => rw [cond_true, cond_true, hb]
  | false =>
    rw [cond_false, cond_false, specName_eq hk hs, Option.bind_some]
    unfold creG
    cases nameM s with
    | false => rfl
    | true =>
      simp only [Bool.not_true, cond_false]
      rw [specFind_eq hk (by omega), Option.bind_some]
      rcases find_at d.1 s 0 with ⟨h1, h2, _⟩ | ⟨n, h1, h2, h3, _⟩
      · rw [h1, h2]
        simp only [Option.isSome_none, cond_false]
        rw [decF (by decide), cond_false]
        by_cases cl : (d.1.length : Int) ≥ 130
        · rw [decT cl]; rfl
        · rw [decF cl, cond_false, cond_false, specInsert_eq hk _ (by omega), Option.bind_some]
      · rw [h2, h3]
        simp only [Option.isSome_some, cond_true]
        rw [decT (by omega), cond_true]
theorem specApp_eq {k : Nat} (hk : 2 ^ 50 ≤ k) {d : Ty.den TDisk} (hd : DSz d) (s : ByteArray) {t : ByteArray} (ht : t.size ≤ 1099511627776) : spec_Append.f k d s t = some ((appM d s t).1, ((appM d s t).2, ())) := by
  have hl := hd.l
  have hu := hd.u
  unfold spec_Append.f spec_Append.t appM stepM
  rw [specBegin_eq hk hd, Option.bind_some]
  obtain ⟨b2, hb⟩ := beg_split d
  simp only [hb]
  cases c : (begM d).2 != 0 with
  | true => rw [cond_true, cond_true, hb]
  | false =>
    rw [cond_false, cond_false, specFind_eq hk (by omega), Option.bind_some]
    unfold appG
    rcases find_at d.1 s 0 with ⟨h1, h2, _⟩ | ⟨n, h1, h2, h3, _, _, h6⟩
    · rw [h1, h2]
      simp only [Option.isNone_none, cond_true]
      rw [decT (by decide), cond_true]
    · rw [Int.zero_add] at h2
      rw [h2, h3]
      simp only [Option.isNone_some, cond_false]
      rw [decF (by omega), cond_false, specUsed_eq hk (by omega) (by omega), Option.bind_some]
      simp only []
      cases decide ((t.size : Int) > w64 (d.2.1 - (used d.1 : Int))) with
      | true => rfl
      | false =>
        have hm := used_mem (get_mem h3).1
        rw [cond_false, cond_false, toNat_ofNat, inb_eq (by omega) (by omega), inb_eq (by omega) (by omega), cat_ok (Nat.le_trans (Nat.add_le_add (Nat.le_trans hm hu) ht) (by decide)), ← h6]
theorem specSyn_eq {k : Nat} (hk : 2 ^ 50 ≤ k) {d : Ty.den TDisk} (hd : DSz d) (s : ByteArray) : spec_Sync.f k d s = some ((synM d s).1, ((synM d s).2, ())) := by
  have hl := hd.l
  unfold spec_Sync.f spec_Sync.t synM stepM
  rw [specBegin_eq hk hd, Option.bind_some]
  obtain ⟨b2, hb⟩ := beg_split d
  simp only [hb]
  cases c : (begM d).2 != 0 with
  | true => rw [cond_true, cond_true, hb]
  | false =>
    rw [cond_false, cond_false, specFind_eq hk (by omega), Option.bind_some]
    unfold synG
    rcases find_at d.1 s 0 with ⟨h1, h2, _⟩ | ⟨n, h1, h2, h3, _, _, h6⟩
    · rw [h1, h2]
      simp only [Option.isNone_none, cond_true]
      rw [decT (by decide), cond_true]
    · rw [Int.zero_add] at h2
      rw [h2, h3]
      simp only [Option.isNone_some, cond_false]
      rw [decF (by omega), cond_false, toNat_ofNat, inb_eq (by omega) (by omega), inb_eq (by omega) (by omega), ← h6]
theorem specRen_eq {k : Nat} (hk : 2 ^ 50 ≤ k) {d : Ty.den TDisk} (hd : DSz d) (a : ByteArray) {b : ByteArray} (hs : b.size ≤ 1099511627776) : spec_Rename.f k d a b = some ((renM d a b).1, ((renM d a b).2, ())) := by
  have hl := hd.l
  unfold spec_Rename.f spec_Rename.t renM stepM
  rw [specBegin_eq hk hd, Option.bind_some]
  obtain ⟨b2, hb⟩ := beg_split d
  simp only [hb]
  cases c : (begM d).2 != 0 with
  | true => rw [cond_true, cond_true, hb]
  | false =>
    rw [cond_false, cond_false, specName_eq hk hs, Option.bind_some]
    unfold renG
    cases nameM b with
    | false => rfl
    | true =>
      simp only [Bool.not_true, cond_false]
      rw [specFind_eq hk (by omega), Option.bind_some]
      rcases find_at d.1 a 0 with ⟨h1, h2, _⟩ | ⟨n, h1, h2, h3, h4, _, _⟩
      · rw [h1, h2]
        simp only []
        rw [decT (by decide), cond_true]
      · rw [Int.zero_add] at h2
        rw [h2, h3]
        simp only []
        rw [decF (by omega), cond_false]
        cases seq a b with
        | true => rfl
        | false =>
          have hd1 := (del_sub d.1 a).length_le
          rw [cond_false, cond_false, toNat_ofNat, inb_eq (by omega) (by omega), specWithout_eq k h1 (by omega), Option.bind_some, h4]
          simp only []
          rw [specFind_eq hk (d := (delF d.1 a, b2)) (by show (delF d.1 a).length ≤ _; omega), Option.bind_some]
          simp only []
          rcases find_at (delF d.1 a) b 0 with ⟨g1, g2, g3, _⟩ | ⟨m, g1, g2, g3, g4, _⟩
          · rw [g2, g3, decF (by decide), cond_false, specInsert_eq hk _ (by omega), Option.bind_some]
          · rw [Int.zero_add] at g2
            have hd2 := (del_sub (delF d.1 a) b).length_le
            rw [g2, decT (by omega), cond_true, specWithout_eq k g1 (by omega), Option.bind_some, g4]
            simp only []
            rw [specInsert_eq hk _ (by omega), Option.bind_some]
end Go.Proofs.YtccccehgfmphjaaDoor.G

/- M: a text that is drawn answers, and is no longer than it may be. -/
set_option linter.unusedVariables false
set_option linter.unusedSimpArgs false
namespace Go.Proofs.YtccccehgfmphjaaDoor.G
open Go.V
theorem bytes_len (l : List Int) : (bytesOf l).size = l.length := by simp [bytesOf, ByteArray.size]
theorem l1TextL {k : Nat} (hk : 2 ^ 50 ≤ k) (st : Int) (m : Nat) (hm : m ≤ 200) : ∀ (d n : Nat) (c : CurD) (out : List Int), d < n → CI c → out.length + d ≤ m → Tot (spec_l1Text.l0 k n st (d : Int) c.1 c.2.1 c.2.2.1 out) (fun r => CI r.1 ∧ r.2.1.size ≤ m) := by
  intro d
  induction d with
  | zero =>
    intro n c out hn hc ho
    obtain ⟨n, rfl⟩ : ∃ q, n = q + 1 := ⟨n - 1, by omega⟩
    simp only [spec_l1Text.l0, spec_l1Text.b0]
    refine tot_no (decF (by omega)) (tot_some ⟨hc, ?_⟩)
    show (bytesOf out).size ≤ m
    rw [bytes_len]
    omega
  | succ d ih =>
    intro n c out hn hc ho
    obtain ⟨n, rfl⟩ : ∃ q, n = q + 1 := ⟨n - 1, by omega⟩
    have hw : w64 (((d + 1 : Nat) : Int) - 1) = (d : Int) := by rw [w64_eq (by omega) (by omega)]; omega
    simp only [spec_l1Text.l0, spec_l1Text.b0, hw]
    refine tot_yes (decT (by omega)) ?_
    refine tot_bind (l1Byte_t k hc) fun r hr => ?_
    refine tot_bif (fun _ => tot_bif (fun _ => ?_) (fun _ => ?_)) (fun _ => tot_bif (fun _ => ?_) (fun _ => ?_))
    all_goals exact tot_rm (by omega) (by decide) (ih n r.1 _ (by omega) hr.1 (by rw [len_snoc]; omega))
theorem l1Text_t {k : Nat} (hk : 2 ^ 50 ≤ k) {c : CurD} (h : CI c) {m : Int} (h0 : 0 ≤ m) (h1 : m ≤ 200) : Tot (spec_l1Text.f k c m) (fun r => CI r.1 ∧ (r.2.1.size : Int) ≤ m) := by
  unfold spec_l1Text.f spec_l1Text.t
  rw [w64_eq (n := m + 1) (by omega) (by omega)]
  refine tot_bind (l1Below_t k h (by omega) (by omega)) fun r1 q1 => ?_
  refine tot_bind (l1Below_t k q1.1 (by omega) (by omega)) fun r2 q2 => ?_
  obtain ⟨c2, a, b⟩ := q2
  have := l1TextL hk r1.2.1 m.toNat (by omega) r2.2.1.toNat k r2.1 [] (by omega) c2 (by simp only [List.length_nil]; omega)
  rw [show ((r2.2.1.toNat : Nat) : Int) = r2.2.1 by omega] at this
  exact tot_mono this fun r hr => ⟨hr.1, by have := hr.2; omega⟩
end Go.Proofs.YtccccehgfmphjaaDoor.G

/- M: what is picked by a cursor is among what it is picked from. -/
set_option linter.unusedVariables false
set_option linter.unusedSimpArgs false
namespace Go.Proofs.YtccccehgfmphjaaDoor.G
open Go.V
theorem l1Pick_t (k : Nat) {c : CurD} (h : CI c) {l : List ByteArray} (h0 : 0 < l.length) (h1 : l.length ≤ 256) : Tot (spec_l1Pick.f k c l) (fun r => CI r.1 ∧ r.2.1 ∈ l) := by
  unfold spec_l1Pick.f spec_l1Pick.t
  refine tot_bind (l1Below_t k h (by omega) (by omega)) fun r q => ?_
  refine tot_inb q.2.1 q.2.2 (tot_some ⟨q.1, getD_mem ?_⟩)
  have := q.2.1
  have := q.2.2
  omega
theorem pick_size {l : List ByteArray} {m : Nat} (h : (l.all fun x => decide (x.size ≤ m)) = true) {x : ByteArray} (hx : x ∈ l) : x.size ≤ m := by
  have := List.all_eq_true.1 h x hx
  simpa using this
end Go.Proofs.YtccccehgfmphjaaDoor.G

/- M: disks that are drawn. -/
set_option linter.unusedVariables false
set_option linter.unusedSimpArgs false
namespace Go.Proofs.YtccccehgfmphjaaDoor.G
open Go.V
theorem specNew_eq (k : Nat) {n : Int} (h0 : 0 ≤ n) (h1 : n ≤ 100000) : spec_DiskNew.f k n = some (([], (n, (-1, (false, ())))), ()) := by
  unfold spec_DiskNew.f spec_DiskNew.t
  rw [l1InD_eq, Option.bind_some, decT ⟨h0, h1⟩]
  rfl
theorem new_DR {n : Int} (h0 : 0 ≤ n) (h1 : n ≤ 100000) : DR ([], (n, (-1, (false, ())))) :=
  ⟨by show 0 ≤ 130; omega, h0, h1, by show (-1 : Int) ≤ -1; omega, by show (-1 : Int) ≤ 100000; omega, h0, fun f h => (by cases h), List.Pairwise.nil⟩
theorem l3Name_t (k : Nat) {c : CurD} (h : CI c) : Tot (spec_l3Name.f k c) (fun r => CI r.1 ∧ r.2.1.size ≤ 12) := by
  unfold spec_l3Name.f spec_l3Name.t
  refine tot_bind (l1Pick_t k h (by decide) (by decide)) fun r q => tot_some ⟨q.1, pick_size (by decide) q.2⟩
theorem tot_step {β : Type} {o : Option (Ty.den TDisk × Int × Unit)} {m : Ty.den TDisk × Int} {g : Ty.den TDisk × Int × Unit → Option β} {Q : β → Prop} (e : o = some (m.1, (m.2, ()))) (h : Tot (g (m.1, (m.2, ()))) Q) : Tot (Option.bind o g) Q := by
  rw [e]
  exact h
theorem l3DiskL {k : Nat} (hk : 2 ^ 50 ≤ k) (z : FileL) (z1 z2 : Int) (z3 : Bool) : ∀ (d n : Nat) (c : CurD) (x : Ty.den TDisk), d ≤ 20 → d < n → CI c → DR x →
    Tot (spec_l3Disk.l0 k n (d : Int) c.1 c.2.1 c.2.2.1 z z1 z2 z3 x.1 x.2.1 x.2.2.1 x.2.2.2.1) (fun r => CI r.1 ∧ DR r.2.1) := by
  intro d
  induction d with
  | zero =>
    intro n c x hd hn hc hx
    obtain ⟨n, rfl⟩ : ∃ q, n = q + 1 := ⟨n - 1, by omega⟩
    simp only [spec_l3Disk.l0, spec_l3Disk.b0]
    exact tot_no (decF (by omega)) (tot_some ⟨hc, hx⟩)
  | succ d ih =>
    intro n c x hd hn hc hx
    obtain ⟨n, rfl⟩ : ∃ q, n = q + 1 := ⟨n - 1, by omega⟩
    have hw : w64 (((d + 1 : Nat) : Int) - 1) = (d : Int) := by rw [w64_eq (by omega) (by omega)]; omega
    have hz := hx.sz
    simp only [spec_l3Disk.l0, spec_l3Disk.b0, hw]
    refine tot_yes (decT (by omega)) ?_
    refine tot_bind (l3Name_t k hc) fun r3 q3 => ?_
    refine tot_bind (l1Below_t k q3.1 (by omega) (by omega)) fun r4 q4 => ?_
    obtain ⟨hn3, hs3⟩ := q3
    have CR : Tot (Option.bind (spec_Create.f k (x.1, (x.2.1, (x.2.2.1, (x.2.2.2.1, ())))) r3.2.1) fun r5 => (spec_l3Disk.l0 k n (d : Int) r4.1.1 r4.1.2.1 r4.1.2.2.1 z z1 z2 z3 r5.1.1 r5.1.2.1 r5.1.2.2.1 r5.1.2.2.2.1)) (fun r => CI r.1 ∧ DR r.2.1) :=
      tot_step (specCre_eq hk hz (by omega)) (ih n r4.1 _ (by omega) (by omega) q4.1 (cre_DR hx _))
    have AP : Tot (Option.bind (spec_l1Text.f k r4.1 9) fun r6 => (Option.bind (spec_Append.f k (x.1, (x.2.1, (x.2.2.1, (x.2.2.2.1, ())))) r3.2.1 r6.2.1) fun r7 => (spec_l3Disk.l0 k n (d : Int) r6.1.1 r6.1.2.1 r6.1.2.2.1 z z1 z2 z3 r7.1.1 r7.1.2.1 r7.1.2.2.1 r7.1.2.2.2.1))) (fun r => CI r.1 ∧ DR r.2.1) := by
      refine tot_bind (l1Text_t hk q4.1 (by omega) (by omega)) fun r6 q6 => ?_
      have hs6 := q6.2
      exact tot_step (specApp_eq hk hz _ (by omega)) (ih n r6.1 _ (by omega) (by omega) q6.1 (app_DR hx _ _))
    have SY : Tot (Option.bind (spec_Sync.f k (x.1, (x.2.1, (x.2.2.1, (x.2.2.2.1, ())))) r3.2.1) fun r5 => (spec_l3Disk.l0 k n (d : Int) r4.1.1 r4.1.2.1 r4.1.2.2.1 z z1 z2 z3 r5.1.1 r5.1.2.1 r5.1.2.2.1 r5.1.2.2.2.1)) (fun r => CI r.1 ∧ DR r.2.1) :=
      tot_step (specSyn_eq hk hz _) (ih n r4.1 _ (by omega) (by omega) q4.1 (syn_DR hx _))
    have RN : Tot (Option.bind (spec_l3Name.f k r4.1) fun r6 => (Option.bind (spec_Rename.f k (x.1, (x.2.1, (x.2.2.1, (x.2.2.2.1, ())))) r3.2.1 r6.2.1) fun r7 => (spec_l3Disk.l0 k n (d : Int) r6.1.1 r6.1.2.1 r6.1.2.2.1 z z1 z2 z3 r7.1.1 r7.1.2.1 r7.1.2.2.1 r7.1.2.2.2.1))) (fun r => CI r.1 ∧ DR r.2.1) := by
      refine tot_bind (l3Name_t k q4.1) fun r6 q6 => ?_
      have hs6 := q6.2
      exact tot_step (specRen_eq hk hz _ (by omega)) (ih n r6.1 _ (by omega) (by omega) q6.1 (ren_DR hx _ _))
    repeat' refine tot_bif (fun _ => ?_) (fun _ => ?_)
    all_goals first | exact CR | exact AP | exact SY | exact RN
theorem l3Disk_t {k : Nat} (hk : 2 ^ 50 ≤ k) {c : CurD} (h : CI c) : Tot (spec_l3Disk.f k c) (fun r => CI r.1 ∧ DR r.2.1) := by
  unfold spec_l3Disk.f spec_l3Disk.t
  refine tot_bindE (specNew_eq k (by omega) (by omega)) ?_
  refine tot_bind (l1Below_t k h (by omega) (by omega)) fun r q => ?_
  obtain ⟨hc, a, b⟩ := q
  have := l3DiskL hk [] 0 0 false r.2.1.toNat k r.1 ([], (200, (-1, (false, ())))) (by omega) (by omega) hc (new_DR (by omega) (by omega))
  rw [show ((r.2.1.toNat : Nat) : Int) = r.2.1 by omega] at this
  exact this
theorem sz_set0 {l : FileL} (h : 0 < l.length) (g : Ty.den TFile) : (l.set 0 g).length = l.length ∧ used (l.set 0 g) ≤ g.2.1.size + used l ∧ names (l.set 0 g) ≤ g.1.size + names l := by
  cases l with
  | nil => cases h
  | cons x l =>
    show (g :: l).length = _ ∧ used (g :: l) ≤ _ ∧ names (g :: l) ≤ _
    rw [used_cons, names_cons, used_cons, names_cons]
    exact ⟨rfl, by omega, by omega⟩
theorem names_app : ∀ l m : FileL, names (l ++ m) = names l + names m
  | [], m => by show names m = 0 + names m; omega
  | x :: l, m => by rw [List.cons_append, names_cons, names_cons, names_app l m]; omega
/-- A disk that is small. -/
structure DS (d : Ty.den TDisk) : Prop where
  l : d.1.length ≤ 131
  u : used d.1 ≤ 200000
  n : names d.1 ≤ 10000
theorem DS.sz {d : Ty.den TDisk} (h : DS d) : DSz d := ⟨by have := h.l; omega, by have := h.u; omega, by have := h.n; omega⟩
theorem DR.ds {d : Ty.den TDisk} (h : DR d) : DS d := by
  have h1 := h.len
  have h2 := h.use
  have h3 := h.cap1
  have h4 := names_le d.1 h.all
  exact ⟨by omega, by omega, by omega⟩
theorem l3AnyL {k : Nat} (hk : 2 ^ 50 ≤ k) (z : FileL) (z1 z2 : Int) (z3 : Bool) : ∀ (d n : Nat) (i : Int) (c : CurD) (x : Ty.den TDisk), 0 ≤ i → i + (d : Int) = 132 → d < n → CI c → x.1.length ≤ 131 → used x.1 ≤ 200000 → (names x.1 : Int) ≤ 2000 + 40 * i →
    Tot (spec_l3Any.l0 k n i c.1 c.2.1 c.2.2.1 z z1 z2 z3 x.1 x.2.1 x.2.2.1 x.2.2.2.1) (fun r => CI r.1 ∧ DS r.2.1) := by
  intro d
  induction d with
  | zero =>
    intro n i c x h0 h1 hn hc hl hu hm
    obtain ⟨n, rfl⟩ : ∃ q, n = q + 1 := ⟨n - 1, by omega⟩
    simp only [spec_l3Any.l0, spec_l3Any.b0]
    refine tot_bind (l1Below_t k hc (by omega) (by omega)) fun r hr => ?_
    obtain ⟨hc', a, b⟩ := hr
    rw [w64_eq (n := 129 + r.2.1) (by omega) (by omega)]
    exact tot_no (decF (by omega)) (tot_some ⟨hc', ⟨hl, hu, by show names x.1 ≤ 10000; omega⟩⟩)
  | succ d ih =>
    intro n i c x h0 h1 hn hc hl hu hm
    obtain ⟨n, rfl⟩ : ∃ q, n = q + 1 := ⟨n - 1, by omega⟩
    simp only [spec_l3Any.l0, spec_l3Any.b0]
    refine tot_bind (l1Below_t k hc (by omega) (by omega)) fun r hr => ?_
    obtain ⟨hc', a, b⟩ := hr
    rw [w64_eq (n := 129 + r.2.1) (by omega) (by omega), w64_eq (n := 100 + i) (by omega) (by omega), w64_eq (n := i + 1) (by omega) (by omega)]
    refine tot_bif (fun _ => tot_bif (fun hb => ?_) (fun _ => ?_)) (fun _ => ?_)
    · have hb := of_decide_eq_true hb
      have hz := decB_small (n := 100 + i) (by omega) (by omega)
      refine tot_bindE (specDec_eq hk (by omega) (by omega)) ?_
      have hy : (⟨#[121]⟩ : ByteArray).size = 1 := rfl
      have hy2 : ((⟨#[121]⟩ : ByteArray) ++ decB (100 + i)).size = 1 + (decB (100 + i)).size := ByteArray.size_append ..
      simp only []
      refine tot_cat (by omega) (tot_rm (by omega) (by decide) ?_)
      refine ih n (i + 1) r.1 (x.1 ++ [_], x.2) (by omega) (by omega) (by omega) hc' (by show (x.1 ++ [_]).length ≤ 131; rw [len_snoc]; omega) ?_ ?_
      · show used (x.1 ++ [_]) ≤ 200000
        rw [used_app, used_cons, used_nil]
        exact hu
      · show (names (x.1 ++ [_]) : Int) ≤ _
        rw [names_app, names_cons]
        show ((names x.1 + (((⟨#[121]⟩ : ByteArray) ++ decB (100 + i)).size + 0) : Nat) : Int) ≤ _
        omega
    · exact tot_some ⟨hc', ⟨hl, hu, by show names x.1 ≤ 10000; omega⟩⟩
    · exact tot_some ⟨hc', ⟨hl, hu, by show names x.1 ≤ 10000; omega⟩⟩
theorem l3Any_t {k : Nat} (hk : 2 ^ 50 ≤ k) {c : CurD} (h : CI c) : Tot (spec_l3Any.f k c) (fun r => CI r.1 ∧ DS r.2.1) := by
  unfold spec_l3Any.f spec_l3Any.t
  refine tot_bind (l3Disk_t hk h) fun r1 q1 => ?_
  obtain ⟨hc1, hd⟩ := q1
  have hs := hd.ds
  have g1 := hd.len
  have g2 := hd.use
  have g3 := hd.cap1
  have g4 := names_le r1.2.1.1 hd.all
  refine tot_bind (l1Below_t k hc1 (by omega) (by omega)) fun r2 q2 => ?_
  refine tot_bif (fun _ => ?_) (fun _ => tot_bif (fun _ => ?_) (fun _ => tot_bif (fun _ => ?_) (fun _ => tot_bif (fun _ => ?_) (fun _ => tot_bif (fun _ => ?_) (fun _ => tot_bif (fun _ => ?_) (fun _ => ?_))))))
  · refine tot_bind (l1PickInt_t k q2.1 (by decide) (by decide)) fun r3 q3 => ?_
    exact tot_some ⟨q3.1, ⟨hs.l, hs.u, hs.n⟩⟩
  · exact tot_some ⟨q2.1, ⟨hs.l, hs.u, hs.n⟩⟩
  · refine tot_bindE (specUsed_eq hk (by omega) (by omega)) ?_
    refine tot_bindE (specUsed_eq hk (by omega) (by omega)) ?_
    refine tot_bind (l1PickInt_t k q2.1 (by simp) (by simp)) fun r3 q3 => ?_
    exact tot_some ⟨q3.1, ⟨hs.l, hs.u, hs.n⟩⟩
  · refine tot_bif (fun hb => ?_) (fun _ => tot_some ⟨q2.1, hs⟩)
    have hb := of_decide_eq_true hb
    refine tot_bind (l1Below_t k q2.1 (by omega) (by omega)) fun r3 q3 => ?_
    refine tot_inb (by omega) (by omega) (tot_some ⟨q3.1, ?_⟩)
    obtain ⟨a1, a2, a3⟩ := sz_set0 (l := r1.2.1.1) (by omega) ((List.getD r1.2.1.1 0 (Ty.dflt TFile)).1, ((List.getD r1.2.1.1 0 (Ty.dflt TFile)).2.1, ((w64 (r3.2.1 - 1)), (List.getD r1.2.1.1 0 (Ty.dflt TFile)).2.2.2)))
    have hm : List.getD r1.2.1.1 0 (Ty.dflt TFile) ∈ r1.2.1.1 := getD_mem (by omega)
    have m1 := used_mem hm
    have m2 := names_mem hm
    simp only [] at a2 a3
    exact ⟨by show (List.set _ _ _).length ≤ 131; omega, by show used (List.set _ _ _) ≤ 200000; omega, by show names (List.set _ _ _) ≤ 10000; omega⟩
  · refine tot_bif (fun hb => ?_) (fun _ => tot_some ⟨q2.1, hs⟩)
    have hb := of_decide_eq_true hb
    refine tot_bind (l1Pick_t k q2.1 (by decide) (by decide)) fun r3 q3 => ?_
    refine tot_inb (by omega) (by omega) (tot_some ⟨q3.1, ?_⟩)
    have hz : r3.2.1.size ≤ 100 := pick_size (by decide) q3.2
    obtain ⟨a1, a2, a3⟩ := sz_set0 (l := r1.2.1.1) (by omega) (r3.2.1, (List.getD r1.2.1.1 0 (Ty.dflt TFile)).2)
    have hm : List.getD r1.2.1.1 0 (Ty.dflt TFile) ∈ r1.2.1.1 := getD_mem (by omega)
    have m1 := used_mem hm
    simp only [] at a2 a3
    exact ⟨by show (List.set _ _ _).length ≤ 131; omega, by show used (List.set _ _ _) ≤ 200000; omega, by show names (List.set _ _ _) ≤ 10000; omega⟩
  · exact l3AnyL hk [] 0 0 false 132 k 0 r2.1 r1.2.1 (by omega) (by omega) (by omega) q2.1 (by omega) (by omega) (by omega)
  · exact tot_some ⟨q2.1, hs⟩
end Go.Proofs.YtccccehgfmphjaaDoor.G

/- M: FnNames holds. -/
set_option linter.unusedVariables false
set_option linter.unusedSimpArgs false
namespace Go.Proofs.YtccccehgfmphjaaDoor.G
open Go.V
theorem nmHas_eq {k : Nat} (hk : 2 ^ 50 ≤ k) {l : List Int} (hl : l.length ≤ 1099511627776) (x : Int) : laws_has.f k l x = some (hasN l x, ()) := by
  unfold laws_has.f laws_has.t
  refine forL0 (L := fun n i (_ : Unit) => laws_has.l0 k n l x i) (R := fun r _ => some (hasN r x, ())) (Ty.dflt (.int .i64)) l (fun _ _ => True) (fun n _ _ => ?_) (fun n i _ y rest h0 h1 hx hr hp ih => ?_) (n := k) (s := ()) (by omega) trivial
  · simp (disch := omega) only [laws_has.l0, laws_has.b0, decF, cond_false]
    rfl
  · have ih := ih () trivial
    have e : hasN (y :: rest) x = ((y == x) || hasN rest x) := rfl
    simp (disch := omega) only [laws_has.l0, laws_has.b0, decT h1, cond_true, inb_eq, hx, w64_eq, ih, e]
    cases y == x <;> rfl
theorem nmInts_self {k : Nat} (hk : 2 ^ 50 ≤ k) {l : List Int} (hl : l.length ≤ 1099511627776) : laws_sameInts.f k l l = some (true, ()) := by
  unfold laws_sameInts.f laws_sameInts.t
  rw [show ((l.length : Int) != (l.length : Int)) = false by simp, cond_false]
  refine forL0 (L := fun n i (_ : Unit) => laws_sameInts.l0 k n l l i) (R := fun r _ => some (true, ())) (Ty.dflt (.int .i64)) l (fun _ _ => True) (fun n _ _ => ?_) (fun n i _ y rest h0 h1 hx hr hp ih => ?_) (n := k) (s := ()) (by omega) trivial
  · simp (disch := omega) only [laws_sameInts.l0, laws_sameInts.b0, decF, cond_false]
  · have ih := ih () trivial
    simp (disch := omega) only [laws_sameInts.l0, laws_sameInts.b0, decT h1, cond_true, inb_eq, hx, w64_eq, ih, bne_self_eq_false, cond_false]
theorem nmTexts_self {k : Nat} (hk : 2 ^ 50 ≤ k) {l : List ByteArray} (hl : l.length ≤ 1099511627776) : laws_sameTexts.f k l l = some (true, ()) := by
  unfold laws_sameTexts.f laws_sameTexts.t
  rw [show ((l.length : Int) != (l.length : Int)) = false by simp, cond_false]
  refine forL0 (L := fun n i (_ : Unit) => laws_sameTexts.l0 k n l l i) (R := fun r _ => some (true, ())) (Ty.dflt .str) l (fun _ _ => True) (fun n _ _ => ?_) (fun n i _ y rest h0 h1 hx hr hp ih => ?_) (n := k) (s := ()) (by omega) trivial
  · simp (disch := omega) only [laws_sameTexts.l0, laws_sameTexts.b0, decF, cond_false]
  · have ih := ih () trivial
    simp (disch := omega) only [laws_sameTexts.l0, laws_sameTexts.b0, decT h1, cond_true, inb_eq, hx, w64_eq, ih, seq_refl, Bool.not_true, cond_false]
theorem orphL_size (ids : List Int) : ∀ (l : FileL) (acc : List ByteArray), (orphL ids l acc).length ≤ acc.length + l.length
  | [], acc => by unfold orphL; exact Nat.le_refl _
  | f :: l, acc => by
    unfold orphL
    refine Nat.le_trans (orphL_size ids l _) ?_
    rw [List.length_cons]
    cases isOrph ids f
    · rw [cond_false]; omega
    · rw [cond_true, len_snoc]; omega
theorem orphM_mem (ids : List Int) : ∀ (l : FileL) (acc : List ByteArray) (x : ByteArray), x ∈ orphL ids l acc → x ∈ acc ∨ ∃ f ∈ l, x = f.1
  | [], acc, x, h => .inl h
  | f :: l, acc, x, h => by
    unfold orphL at h
    rcases orphM_mem ids l _ x h with q | ⟨g, q1, q2⟩
    · cases c : isOrph ids f with
      | false => rw [c] at q; exact .inl q
      | true =>
        rw [c, cond_true] at q
        rcases List.mem_append.1 q with q | q
        · exact .inl q
        · exact .inr ⟨f, List.mem_cons_self .., List.mem_singleton.1 q⟩
    · exact .inr ⟨g, List.mem_cons_of_mem _ q1, q2⟩
/-- The last part, of what is told of a disk. -/
theorem names_end {k : Nat} (hk : 2 ^ 50 ≤ k) {d : Ty.den TDisk} (hd : DS d) {v : Ty.den TLive} (hv : v.2.1.length ≤ 62) :
    laws_FnNames.l0 k k 0 d.1 d.2.1 d.2.2.1 d.2.2.2.1 v.2.1 v.1 (orphM d v.2.1) = some (true, ()) := by
  have h1 := hd.l
  have h2 := hd.u
  have h3 := hd.n
  have hin : ∀ x ∈ orphM d v.2.1, (((idM x).2 && !hasN v.2.1 (idM x).1) || seq x tempB) = true := fun x hx => orphM_in hx
  have hsz : ∀ x ∈ orphM d v.2.1, x.size ≤ 10000 := fun x hx => by
    unfold orphM at hx
    cases c : diskM d with
    | false => rw [c] at hx; cases hx
    | true =>
      rw [c, cond_true] at hx
      rcases orphM_mem v.2.1 d.1 [] x hx with q | ⟨f, q1, q2⟩
      · cases q
      · have := names_mem q1; rw [q2]; omega
  have hlen : (orphM d v.2.1).length ≤ 131 := by
    unfold orphM
    cases diskM d
    · simp
    · have := orphL_size v.2.1 d.1 []
      rw [cond_true]
      simp only [List.length_nil] at this
      omega
  have hso := specOrph_eq hk (d := d) (v := v) (by omega) (by omega) (by omega)
  refine forL0 (L := fun n i (_ : Unit) => laws_FnNames.l0 k n i d.1 d.2.1 d.2.2.1 d.2.2.2.1 v.2.1 v.1 (orphM d v.2.1)) (R := fun r _ => some (true, ())) (Ty.dflt .str) (orphM d v.2.1) (fun _ _ => True) (fun n _ _ => ?_) (fun n i _ y rest h0 h1 hx hr hp ih => ?_) (n := k) (s := ()) (by omega) trivial
  · simp only [laws_FnNames.l0, laws_FnNames.b0]
    rw [decF (by omega), cond_false]
    have e : spec_Orphans.f k (d.1, (d.2.1, (d.2.2.1, (d.2.2.2.1, ())))) (v.1, (v.2.1, ())) = some (orphM d v.2.1, ()) := hso
    rw [e, Option.bind_some, nmTexts_self hk (by omega), Option.bind_some]
  · have ih := ih () trivial
    have hm : y ∈ orphM d v.2.1 := by rw [← hx]; exact getD_mem (by omega)
    have hy := hin y hm
    have hz := hsz y hm
    simp only [laws_FnNames.l0, laws_FnNames.b0]
    rw [decT h1, cond_true, inb_eq h0 h1, hx, specId_eq hk (by omega), Option.bind_some, inb_eq h0 h1, w64_eq (n := i + 1) (by omega) (by omega), ih]
    show (bif !seq y tempB then _ else _) = _
    cases ct : seq y tempB with
    | true => rfl
    | false =>
      rw [ct, Bool.or_false, Bool.and_eq_true] at hy
      obtain ⟨g1, g2⟩ := hy
      simp only [Bool.not_false, cond_true]
      rw [g1, nmHas_eq hk (by omega), Option.bind_some]
      cases cq : hasN v.2.1 (idM y).1 with
      | true => rw [cq] at g2; cases g2
      | false => rfl
theorem nm1 (k : Nat) : ∀ n, laws_FnNames.l1 k n = laws_FnNames.l0 k n
  | 0 => rfl
  | n + 1 => by show laws_FnNames.b1 k (laws_FnNames.l1 k n) = laws_FnNames.b0 k (laws_FnNames.l0 k n); rw [nm1 k n]; rfl
theorem nm2 (k : Nat) : ∀ n, laws_FnNames.l2 k n = laws_FnNames.l0 k n
  | 0 => rfl
  | n + 1 => by show laws_FnNames.b2 k (laws_FnNames.l2 k n) = laws_FnNames.b0 k (laws_FnNames.l0 k n); rw [nm2 k n]; rfl
theorem nm3 (k : Nat) : ∀ n, laws_FnNames.l3 k n = laws_FnNames.l0 k n
  | 0 => rfl
  | n + 1 => by show laws_FnNames.b3 k (laws_FnNames.l3 k n) = laws_FnNames.b0 k (laws_FnNames.l0 k n); rw [nm3 k n]; rfl
theorem nm4 (k : Nat) : ∀ n, laws_FnNames.l4 k n = laws_FnNames.l0 k n
  | 0 => rfl
  | n + 1 => by show laws_FnNames.b4 k (laws_FnNames.l4 k n) = laws_FnNames.b0 k (laws_FnNames.l0 k n); rw [nm4 k n]; rfl
theorem nm5 (k : Nat) : ∀ n, laws_FnNames.l5 k n = laws_FnNames.l0 k n
  | 0 => rfl
  | n + 1 => by show laws_FnNames.b5 k (laws_FnNames.l5 k n) = laws_FnNames.b0 k (laws_FnNames.l0 k n); rw [nm5 k n]; rfl
theorem drawShowLive_t {k : Nat} (hk : 2 ^ 50 ≤ k) {l : List Int} (hl : l.length ≤ 1048576) : Tot (spec_DrawShowLive.f k l) (fun r => r.1.2.1.length ≤ 62) := by
  unfold spec_DrawShowLive.f spec_DrawShowLive.t
  refine tot_bind (l1New_t hk hl) fun r1 q1 => tot_bind (l7Any_t hk q1) fun r2 q2 => tot_some q2.2
theorem drawSegName_t {k : Nat} (hk : 2 ^ 50 ≤ k) {l : List Int} (hl : l.length ≤ 1048576) : Tot (spec_DrawSegName.f k l) (fun r => True) := by
  unfold spec_DrawSegName.f spec_DrawSegName.t
  refine tot_bind (l1New_t hk hl) fun r1 q1 => tot_bind (l1PickInt_t k q1 (by decide) (by decide)) fun r2 q2 => tot_some trivial
theorem drawOrphans_t {k : Nat} (hk : 2 ^ 50 ≤ k) {l : List Int} (hl : l.length ≤ 1048576) : Tot (spec_DrawOrphans.f k l) (fun r => DS r.1 ∧ r.2.1.2.1.length ≤ 62) := by
  unfold spec_DrawOrphans.f spec_DrawOrphans.t
  refine tot_bind (l1New_t hk hl) fun r1 q1 => tot_bind (l3Any_t hk q1) fun r2 q2 => tot_bind (l7Any_t hk q2.1) fun r3 q3 => tot_some ⟨q2.2, q3.2⟩
theorem id_seg (n : Int) {p : ByteArray} (hp : p = segB ∨ p = hintB) : idM (namedM p n) = (bif decide ((1 : Int) ≤ n ∧ n ≤ 100000) then (n, true) else (0, false)) := by
  by_cases h : (1 : Int) ≤ n ∧ n ≤ 100000
  · rw [id_named hp h.1 h.2, decT h]; rfl
  · rw [named_none p h, id_none, decF h]; rfl
theorem named_small {p : ByteArray} (hp : p = segB ∨ p = hintB) (n : Int) : (namedM p n).size ≤ 1000 := by
  have hs : p.size ≤ 4 := by rcases hp with q | q <;> rw [q] <;> decide
  unfold namedM
  by_cases h : (1 : Int) ≤ n ∧ n ≤ 100000
  · have := decB_small (n := n) (by omega) (by omega)
    rw [decT h, cond_true, ByteArray.size_append]
    omega
  · rw [decF h, cond_false]; decide
theorem names_all {k : Nat} (hk : 2 ^ 50 ≤ k) (code : List Int) : laws_FnNames.f k code = some (true, ()) := by
  refine tot_eq ?_
  unfold laws_FnNames.f laws_FnNames.t
  have hbig : laws_big.f k code = some (decide ((code.length : Int) > 1048576), ()) := rfl
  refine tot_bindE hbig ?_
  refine tot_bif (fun _ => tot_some rfl) fun hb => ?_
  have hl : code.length ≤ 1048576 := by have := of_decide_eq_false hb; omega
  have END : Tot (Option.bind (spec_DrawOrphans.f k code) fun r12 => (Option.bind (impl_Orphans.f k r12.1 r12.2.1) fun r13 => (laws_FnNames.l0 k k 0 r12.1.1 r12.1.2.1 r12.1.2.2.1 r12.1.2.2.2.1 r12.2.1.2.1 r12.2.1.1 r13.1))) (fun x => x = (true, ())) := by
    refine tot_bind (drawOrphans_t hk hl) fun r12 q12 => ?_
    obtain ⟨hd, hv⟩ := q12
    have h1 := hd.l
    have h2 := hd.u
    have h3 := hd.n
    refine tot_bindE (implOrph_eq hk (by omega) (by omega) (by omega)) ?_
    exact tot_of (names_end hk hd hv) rfl
  rw [nm1, nm2, nm3, nm4, nm5]
  refine tot_bind (drawShowLive_t hk hl) fun r2 q2 => ?_
  have MID : Tot (Option.bind (spec_DrawSegName.f k code) fun r7 =>
      (Option.bind (impl_SegName.f k r7.1) fun r8 => (Option.bind (impl_IdOf.f k r8.1) fun r9 => (Option.bind (impl_HintName.f k r7.1) fun r10 => (Option.bind (impl_IdOf.f k r10.1) fun r11 =>
      (bif (decide (r7.1 ≥ 1)) then (bif (!(r9.2.1 == (decide (r7.1 ≤ 100000)))) then (some (false, ())) else (bif (!(r11.2.1 == (decide (r7.1 ≤ 100000)))) then (some (false, ())) else
        (bif (decide (r7.1 ≤ 100000)) then (bif (r9.1 != r7.1) then (some (false, ())) else (bif (r11.1 != r7.1) then (some (false, ())) else (Option.bind (spec_DrawOrphans.f k code) fun r12 => (Option.bind (impl_Orphans.f k r12.1 r12.2.1) fun r13 => (laws_FnNames.l0 k k 0 r12.1.1 r12.1.2.1 r12.1.2.2.1 r12.1.2.2.2.1 r12.2.1.2.1 r12.2.1.1 r13.1)))))
        else (Option.bind (spec_DrawOrphans.f k code) fun r12 => (Option.bind (impl_Orphans.f k r12.1 r12.2.1) fun r13 => (laws_FnNames.l0 k k 0 r12.1.1 r12.1.2.1 r12.1.2.2.1 r12.1.2.2.2.1 r12.2.1.2.1 r12.2.1.1 r13.1))))))
      else (bif (!(r9.2.1 == false)) then (some (false, ())) else (bif (!(r11.2.1 == false)) then (some (false, ())) else (Option.bind (spec_DrawOrphans.f k code) fun r12 => (Option.bind (impl_Orphans.f k r12.1 r12.2.1) fun r13 => (laws_FnNames.l0 k k 0 r12.1.1 r12.1.2.1 r12.1.2.2.1 r12.1.2.2.2.1 r12.2.1.2.1 r12.2.1.1 r13.1))))))))))) (fun x => x = (true, ())) := by
    refine tot_bind (drawSegName_t hk hl) fun r7 _ => ?_
    refine tot_bindE (implSegName_eq k _) (tot_bindE (implId_eq k (by have := named_small (.inl rfl : segB = segB ∨ segB = hintB) r7.1; simp only []; omega)) ?_)
    refine tot_bindE (implHintName_eq k _) (tot_bindE (implId_eq k (by have := named_small (.inr rfl : hintB = segB ∨ hintB = hintB) r7.1; simp only []; omega)) ?_)
    simp only [id_seg r7.1 (.inl rfl : segB = segB ∨ segB = hintB), id_seg r7.1 (.inr rfl : hintB = segB ∨ hintB = hintB)]
    by_cases h1 : r7.1 ≥ 1
    · refine tot_yes (decT h1) ?_
      by_cases h2 : r7.1 ≤ 100000
      · simp only [decT (show (1 : Int) ≤ r7.1 ∧ r7.1 ≤ 100000 from ⟨h1, h2⟩), decT h2, cond_true, beq_self_eq_true, Bool.not_true, cond_false, bne_self_eq_false]
        exact END
      · simp only [decF (show ¬ ((1 : Int) ≤ r7.1 ∧ r7.1 ≤ 100000) from fun q => h2 q.2), decF h2, cond_false, beq_self_eq_true, Bool.not_true]
        exact END
    · refine tot_no (decF h1) ?_
      simp only [decF (show ¬ ((1 : Int) ≤ r7.1 ∧ r7.1 ≤ 100000) from fun q => h1 q.1), cond_false, beq_self_eq_true, Bool.not_true]
      exact END
  refine tot_bindE (implShowLive_eq hk _ (by omega)) ?_
  refine tot_bindE (implReadLive_eq hk (showLive_sz _)) ?_
  refine tot_bindE (specLive_eq hk _) ?_
  simp only []
  by_cases hv : liveM r2.1 = true
  · have hp := showLive_pos hv
    have hne : seq (showLiveM r2.1) ⟨#[]⟩ = false := seqF fun q => by rw [q] at hp; exact absurd hp (by decide)
    simp only [readLive_show hv, hne, hv, Bool.not_false, Bool.not_true, beq_self_eq_true, cond_false, cond_true, bne_self_eq_false]
    refine tot_bindE (nmInts_self hk (by omega)) ?_
    simp only [Bool.not_true, cond_false]
    exact MID
  · have hv : liveM r2.1 = false := by cases q : liveM r2.1 with
      | true => exact absurd q hv
      | false => rfl
    have e : showLiveM r2.1 = ⟨#[]⟩ := if_neg (by rw [hv]; decide)
    simp only [e, readLive_none, hv, seq_refl, Bool.not_true, beq_self_eq_true, cond_false]
    exact MID
theorem fnNames_pure : ∀ x, Wf (tup [.slice (.int .u8)]) x → ∃ k r, laws_FnNames.f k x.1 = some r ∧ sndT (B := [.bool]) (outT ([.val (.slice (.int .u8))])) r = (true, ()) := by
  rintro ⟨a0, _⟩ ⟨f0, _⟩
  suffices Ev (fun k => laws_FnNames.f k a0) (true, ()) by
    obtain ⟨k, h⟩ := this.some
    exact ⟨k, (true, ()), h, rfl⟩
  exact ev_big fun k hk => names_all hk a0
end Go.Proofs.YtccccehgfmphjaaDoor.G


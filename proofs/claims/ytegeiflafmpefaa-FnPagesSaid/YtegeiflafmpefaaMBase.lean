/- M: plain laws with one bound on rounds: a printed function that is given 2^50 rounds answers. General loops; words. -/
import Derived.Test.YtegeiflafmpefaaVPure
set_option linter.unusedVariables false
set_option linter.unusedSimpArgs false
namespace Go.V

theorem decT {p : Prop} [Decidable p] (h : p) : decide p = true := decide_eq_true h
theorem decF {p : Prop} [Decidable p] (h : ¬ p) : decide p = false := decide_eq_false h
theorem rm_ok {R : Type} {b n : Nat} {k : Option R} (h : n ≤ 1099511627776) (hb : b ≤ 128) : rm b n k = k :=
  rm_eq (Nat.le_trans (Nat.mul_le_mul h hb) (by decide)) (by omega)
theorem cat_ok {R : Type} {a b : ByteArray} {k : Option R} (h : a.size + b.size ≤ 4611686018427387904) : cat a b k = k := cat_eq (by omega)
theorem mks_ok {R : Type} {b : Nat} {n : Int} {k : Option R} (h0 : 0 ≤ n) (h : n ≤ 1099511627776) (hb : b ≤ 128) : mks b n k = k :=
  mks_eq h0 (Nat.le_trans (Nat.mul_le_mul (show n.toNat ≤ 1099511627776 by omega) hb) (by decide)) (by omega)
theorem wu32_ok {n : Int} (h0 : 0 ≤ n) (h1 : n ≤ 4294967295) : IntKind.wrap .u32 n = n := by
  unfold IntKind.wrap
  simp [IntKind.bits, IntKind.signed]
  omega
theorem wu8_ok {n : Int} (h0 : 0 ≤ n) (h1 : n ≤ 255) : IntKind.wrap .u8 n = n := by
  unfold IntKind.wrap
  simp [IntKind.bits, IntKind.signed]
  omega
theorem ev_big {α : Type} {g : Nat → Option α} {r : α} (h : ∀ k, 2 ^ 50 ≤ k → g k = some r) : Ev g r := ⟨2 ^ 50, h⟩
section
variable {α σ ρ : Type}
/-- A loop whose measure falls. -/
theorem forM {L : Nat → σ → Option ρ} {R : σ → Option ρ} (μ : σ → Nat) (P : σ → Prop)
    (h : ∀ n s, P s → (∀ s', P s' → μ s' < μ s → L n s' = R s') → L (n + 1) s = R s) : ∀ n s, P s → μ s < n → L n s = R s
  | 0, s, _, hn => by omega
  | n + 1, s, hs, hn => h n s hs fun s' h1 h2 => forM μ P h n s' h1 (by omega)
/-- A loop over the places 0 .. N-1. -/
theorem forI {L : Nat → Int → σ → Option ρ} {R : Int → σ → Option ρ} (N : Int) (P : Int → σ → Prop)
    (h0 : ∀ (n : Nat) s, P N s → L (n + 1) N s = R N s)
    (h1 : ∀ (n : Nat) (i : Int) s, 0 ≤ i → i < N → P i s → (∀ s', P (i + 1) s' → L n (i + 1) s' = R (i + 1) s') → L (n + 1) i s = R i s) :
    ∀ (n : Nat) (i : Int) s, 0 ≤ i → i ≤ N → N - i < n → P i s → L n i s = R i s
  | 0, i, s, hi, hN, hn, _ => by omega
  | n + 1, i, s, hi, hN, hn, hs => by
    by_cases c : i = N
    · subst c; exact h0 n s hs
    · exact h1 n i s hi (by omega) hs fun s' q => forI N P h0 h1 n (i + 1) s' (by omega) (by omega) (by omega) q
/-- A loop over a row. -/
theorem forL {L : Nat → Int → σ → Option ρ} {R : List α → σ → Option ρ} (z : α) (l : List α) (P : Int → σ → Prop)
    (h0 : ∀ (n : Nat) s, P l.length s → L (n + 1) l.length s = R [] s)
    (h1 : ∀ (n : Nat) (i : Int) s x rest, 0 ≤ i → i < l.length → l.getD i.toNat z = x → l.drop i.toNat = x :: rest → P i s → (∀ s', P (i + 1) s' → L n (i + 1) s' = R rest s') → L (n + 1) i s = R (x :: rest) s) :
    ∀ (n : Nat) (i : Int) s, 0 ≤ i → i ≤ l.length → (l.length : Int) - i < n → P i s → L n i s = R (l.drop i.toNat) s := by
  intro n i s hi hN hn hs
  refine forI (L := L) (R := fun i s => R (l.drop i.toNat) s) l.length P (fun n s q => ?_) (fun n i s hi hlt q ih => ?_) n i s hi hN hn hs
  · rw [h0 n s q, Int.toNat_natCast, List.drop_length]
  · have hl : i.toNat < l.length := by omega
    have e : l.drop i.toNat = l.getD i.toNat z :: l.drop (i + 1).toNat := by
      rw [List.drop_eq_getElem_cons hl, show (i + 1).toNat = i.toNat + 1 by omega]
      simp [List.getD, hl]
    show _ = R (l.drop i.toNat) s
    rw [e]
    exact h1 n i s _ _ hi hlt rfl e q ih
/-- A whole row's loop. -/
theorem forL0 {L : Nat → Int → σ → Option ρ} {R : List α → σ → Option ρ} (z : α) (l : List α) (P : Int → σ → Prop)
    (h0 : ∀ (n : Nat) s, P l.length s → L (n + 1) l.length s = R [] s)
    (h1 : ∀ (n : Nat) (i : Int) s x rest, 0 ≤ i → i < l.length → l.getD i.toNat z = x → l.drop i.toNat = x :: rest → P i s → (∀ s', P (i + 1) s' → L n (i + 1) s' = R rest s') → L (n + 1) i s = R (x :: rest) s)
    {n : Nat} {s : σ} (hn : l.length < n) (hs : P 0 s) : L n 0 s = R l s := by
  have := forL z l P h0 h1 n 0 s (by omega) (by omega) (by omega) hs
  simpa using this
end
theorem seqF {a b : ByteArray} (h : a ≠ b) : seq a b = false := by
  cases c : seq a b
  · rfl
  · exact absurd (seq_iff.1 c) h
theorem seqT {a b : ByteArray} (h : a = b) : seq a b = true := seq_iff.2 h
theorem seq_dec (a b : ByteArray) : seq a b = decide (a = b) := by
  by_cases h : a = b
  · rw [seqT h, decT h]
  · rw [seqF h, decF h]
theorem drop_lt {α : Type} {l : List α} {i : Nat} {x : α} {rest : List α} (h : l.drop i = x :: rest) : i < l.length := by
  rcases Nat.lt_or_ge i l.length with q | q
  · exact q
  · rw [List.drop_eq_nil_of_le q] at h; cases h
end Go.V

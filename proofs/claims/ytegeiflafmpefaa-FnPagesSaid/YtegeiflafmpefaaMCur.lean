/- M: the cursor of draws. -/
import Derived.Test.YtegeiflafmpefaaMBase
import Derived.Test.YtegeiflafmpefaaEA
set_option linter.unusedVariables false
set_option linter.unusedSimpArgs false
namespace Go.Proofs.Ytegeiflafmpefaa.G
open Go.V
abbrev CurD := Ty.den Tl1Cur
/-- A cursor stands within its bytes. -/
def CI (c : CurD) : Prop := (0 : Int) ≤ c.2.1 ∧ c.2.1 ≤ (c.1.length : Int) ∧ c.1.length ≤ 1048576
theorem and255 (y : Int) : 0 ≤ w64 (((BitVec.ofInt (IntKind.bits .i64) y &&& BitVec.ofInt (IntKind.bits .i64) 255).toNat : Int)) ∧ w64 (((BitVec.ofInt (IntKind.bits .i64) y &&& BitVec.ofInt (IntKind.bits .i64) 255).toNat : Int)) ≤ 255 := by
  have h : (BitVec.ofInt (IntKind.bits .i64) y &&& BitVec.ofInt (IntKind.bits .i64) 255).toNat ≤ 255 := by
    rw [BitVec.toNat_and]
    exact Nat.le_trans Nat.and_le_right (by decide)
  rw [w64_eq (by omega) (by omega)]
  omega
theorem l1New_ok {k : Nat} (hk : 2 ^ 50 ≤ k) {l : List Int} (hl : l.length ≤ 1048576) : ∃ c : CurD, spec_l1New.f k l = some ((), (c, ())) ∧ CI c := by
  unfold spec_l1New.f spec_l1New.t
  have key : ∀ (d n : Nat) (i h : Int), (l.length : Int) - i = d → 0 ≤ i → d < n → ∃ c : CurD, spec_l1New.l0 k n l h i = some ((), (c, ())) ∧ CI c := by
    intro d
    induction d with
    | zero =>
      intro n i h h1 h2 hn
      obtain ⟨n, rfl⟩ : ∃ q, n = q + 1 := ⟨n - 1, by omega⟩
      simp only [spec_l1New.l0, spec_l1New.b0]
      rw [decF (show ¬ i < (l.length : Int) by omega), cond_false]
      exact ⟨_, rfl, Int.le_refl _, by show (0 : Int) ≤ (l.length : Int); omega, hl⟩
    | succ d ih =>
      intro n i h h1 h2 hn
      obtain ⟨n, rfl⟩ : ∃ q, n = q + 1 := ⟨n - 1, by omega⟩
      simp only [spec_l1New.l0, spec_l1New.b0]
      rw [decT (show i < (l.length : Int) by omega), cond_true]
      by_cases c : i < 4000
      · rw [decT c, cond_true, inb_eq h2 (by omega), w64_eq (n := i + 1) (by omega) (by omega)]
        exact ih n (i + 1) _ (by omega) (by omega) (by omega)
      · rw [decF c, cond_false]
        exact ⟨_, rfl, Int.le_refl _, by show (0 : Int) ≤ (l.length : Int); omega, hl⟩
  exact key l.length k 0 _ (by omega) (by omega) (by omega)
theorem l1Byte_ok (k : Nat) {c : CurD} (h : CI c) : ∃ (c' : CurD) (x : Int), spec_l1Byte.f k c = some (c', (x, ())) ∧ CI c' ∧ 0 ≤ x ∧ x ≤ 255 := by
  obtain ⟨b, i, hh, _⟩ := c
  change Int at i
  change Int at hh
  obtain ⟨h1, h2, h3⟩ := h
  have h1 : 0 ≤ i := h1
  have h2 : i ≤ (b.length : Int) := h2
  have h3 : b.length ≤ 1048576 := h3
  unfold spec_l1Byte.f spec_l1Byte.t
  simp only []
  by_cases q : i < (b.length : Int)
  · rw [decT q, cond_true, inb_eq h1 q, w64_eq (n := i + 1) (by omega) (by omega)]
    refine ⟨_, _, rfl, ⟨by show (0 : Int) ≤ i + 1; omega, by show i + 1 ≤ (b.length : Int); omega, h3⟩, (and255 _).1, (and255 _).2⟩
  · rw [decF q, cond_false]
    exact ⟨_, _, rfl, ⟨h1, h2, h3⟩, (and255 _).1, (and255 _).2⟩
theorem l1Below_ok (k : Nat) {c : CurD} (h : CI c) {n : Int} (h0 : 0 < n) (h1 : n ≤ 256) : ∃ (c' : CurD) (x : Int), spec_l1Below.f k c n = some (c', (x, ())) ∧ CI c' ∧ 0 ≤ x ∧ x < n := by
  obtain ⟨c', x, e, hc, hx0, hx1⟩ := l1Byte_ok k h
  unfold spec_l1Below.f spec_l1Below.t
  rw [decF (show ¬ n ≤ 0 by omega), cond_false, decT h1, cond_true, e, Option.bind_some]
  simp only []
  rw [decF (show ¬ n = 0 by omega), cond_false]
  have e2 : Int.tmod x n = x % n := Int.tmod_eq_emod_of_nonneg hx0
  refine ⟨_, _, rfl, hc, ?_, ?_⟩
  · rw [e2]; exact Int.emod_nonneg _ (by omega)
  · rw [e2]; exact Int.emod_lt_of_pos _ h0
theorem l1Once_ok (k : Nat) {c : CurD} (h : CI c) {n : Int} (h0 : 0 < n) (h1 : n ≤ 256) : ∃ (c' : CurD) (x : Bool), spec_l1Once.f k c n = some (c', (x, ())) ∧ CI c' := by
  obtain ⟨c', x, e, hc, _, _⟩ := l1Below_ok k h h0 h1
  unfold spec_l1Once.f spec_l1Once.t
  rw [e, Option.bind_some]
  exact ⟨_, _, rfl, hc⟩
theorem l1Pick_ok (k : Nat) {c : CurD} (h : CI c) {l : List ByteArray} (h0 : 0 < l.length) (h1 : l.length ≤ 256) : ∃ (c' : CurD) (x : ByteArray), spec_l1Pick.f k c l = some (c', (x, ())) ∧ CI c' := by
  obtain ⟨c', x, e, hc, hx0, hx1⟩ := l1Below_ok k h (n := (l.length : Int)) (by omega) (by omega)
  unfold spec_l1Pick.f spec_l1Pick.t
  rw [e, Option.bind_some]
  simp only []
  rw [inb_eq hx0 hx1]
  exact ⟨_, _, rfl, hc⟩
end Go.Proofs.Ytegeiflafmpefaa.G

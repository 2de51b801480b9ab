/- M: what draws are: the cursor, keys, texts. -/
import Derived.Test.YtiigjojchlplpaaMNum
set_option linter.unusedVariables false
set_option linter.unusedSimpArgs false
namespace Go.Proofs.Ytiigjojchlplpaa.G
open Go.V
abbrev CurD := Ty.den Tl1Cur
/-- A cursor stands within its bytes. -/
def CI (c : CurD) : Prop := (0 : Int) ≤ c.2.1 ∧ c.2.1 ≤ (c.1.length : Int) ∧ c.1.length ≤ 1048576
theorem and255 (y : Int) : 0 ≤ w64 (((BitVec.ofInt (IntKind.bits .i64) y &&& BitVec.ofInt (IntKind.bits .i64) 255).toNat : Int)) ∧ w64 (((BitVec.ofInt (IntKind.bits .i64) y &&& BitVec.ofInt (IntKind.bits .i64) 255).toNat : Int)) ≤ 255 := by
  have h : (BitVec.ofInt (IntKind.bits .i64) y &&& BitVec.ofInt (IntKind.bits .i64) 255).toNat ≤ 255 := by
    rw [BitVec.toNat_and]
    exact Nat.le_trans Nat.and_le_right (by decide)
  rw [w64_eq (by omega) (by omega)]
  omega
theorem l1New_ok {k : Nat} (hk : 2 ^ 50 ≤ k) {l : List Int} (hl : l.length ≤ 1048576) : ∃ c : CurD, spec_l1New.f k l = some ((), (c, ())) ∧ CI c := by
  unfold spec_l1New.f spec_l1New.t
  have key : ∀ (d n : Nat) (i h : Int), (l.length : Int) - i = d → 0 ≤ i → d < n → ∃ c : CurD, spec_l1New.l0 k n l h i = some ((), (c, ())) ∧ CI c := by
    intro d
    induction d with
    | zero =>
      intro n i h h1 h2 hn
      obtain ⟨n, rfl⟩ : ∃ q, n = q + 1 := ⟨n - 1, by omega⟩
      simp only [spec_l1New.l0, spec_l1New.b0]
      rw [decF (show ¬ i < (l.length : Int) by omega), cond_false]
      exact ⟨_, rfl, Int.le_refl _, by show (0 : Int) ≤ (l.length : Int); omega, hl⟩
    | succ d ih =>
      intro n i h h1 h2 hn
      obtain ⟨n, rfl⟩ : ∃ q, n = q + 1 := ⟨n - 1, by omega⟩
      simp only [spec_l1New.l0, spec_l1New.b0]
      rw [decT (show i < (l.length : Int) by omega), cond_true]
      by_cases c : i < 4000
      · rw [decT c, cond_true, inb_eq h2 (by omega), w64_eq (n := i + 1) (by omega) (by omega)]
        exact ih n (i + 1) _ (by omega) (by omega) (by omega)
      · rw [decF c, cond_false]
        exact ⟨_, rfl, Int.le_refl _, by show (0 : Int) ≤ (l.length : Int); omega, hl⟩
  exact key l.length k 0 _ (by omega) (by omega) (by omega)
theorem l1Byte_ok (k : Nat) {c : CurD} (h : CI c) : ∃ (c' : CurD) (x : Int), spec_l1Byte.f k c = some (c', (x, ())) ∧ CI c' ∧ 0 ≤ x ∧ x ≤ 255 := by
  obtain ⟨b, i, hh, _⟩ := c
  change Int at i
  change Int at hh
  obtain ⟨h1, h2, h3⟩ := h
  have h1 : 0 ≤ i := h1
  have h2 : i ≤ (b.length : Int) := h2
  have h3 : b.length ≤ 1048576 := h3
  unfold spec_l1Byte.f spec_l1Byte.t
  simp only []
  by_cases q : i < (b.length : Int)
  · rw [decT q, cond_true, inb_eq h1 q, w64_eq (n := i + 1) (by omega) (by omega)]
    refine ⟨_, _, rfl, ⟨by show (0 : Int) ≤ i + 1; omega, by show i + 1 ≤ (b.length : Int); omega, h3⟩, (and255 _).1, (and255 _).2⟩
  · rw [decF q, cond_false]
    exact ⟨_, _, rfl, ⟨h1, h2, h3⟩, (and255 _).1, (and255 _).2⟩
theorem l1Below_ok (k : Nat) {c : CurD} (h : CI c) {n : Int} (h0 : 0 < n) (h1 : n ≤ 256) : ∃ (c' : CurD) (x : Int), spec_l1Below.f k c n = some (c', (x, ())) ∧ CI c' ∧ 0 ≤ x ∧ x < n := by
  obtain ⟨c', x, e, hc, hx0, hx1⟩ := l1Byte_ok k h
  unfold spec_l1Below.f spec_l1Below.t
  rw [decF (show ¬ n ≤ 0 by omega), cond_false, decT h1, cond_true, e, Option.bind_some]
  simp only []
  rw [decF (show ¬ n = 0 by omega), cond_false]
  have e2 : Int.tmod x n = x % n := Int.tmod_eq_emod_of_nonneg hx0
  refine ⟨_, _, rfl, hc, ?_, ?_⟩
  · rw [e2]; exact Int.emod_nonneg _ (by omega)
  · rw [e2]; exact Int.emod_lt_of_pos _ h0
theorem l1Once_ok (k : Nat) {c : CurD} (h : CI c) {n : Int} (h0 : 0 < n) (h1 : n ≤ 256) : ∃ (c' : CurD) (x : Bool), spec_l1Once.f k c n = some (c', (x, ())) ∧ CI c' := by
  obtain ⟨c', x, e, hc, _, _⟩ := l1Below_ok k h h0 h1
  unfold spec_l1Once.f spec_l1Once.t
  rw [e, Option.bind_some]
  exact ⟨_, _, rfl, hc⟩
theorem l1Pick_ok (k : Nat) {c : CurD} (h : CI c) {l : List ByteArray} (h0 : 0 < l.length) (h1 : l.length ≤ 256) : ∃ (c' : CurD) (x : ByteArray), spec_l1Pick.f k c l = some (c', (x, ())) ∧ CI c' := by
  obtain ⟨c', x, e, hc, hx0, hx1⟩ := l1Below_ok k h (n := (l.length : Int)) (by omega) (by omega)
  unfold spec_l1Pick.f spec_l1Pick.t
  rw [e, Option.bind_some]
  simp only []
  rw [inb_eq hx0 hx1]
  exact ⟨_, _, rfl, hc⟩
theorem l5Key_ok (k : Nat) {c : CurD} (h : CI c) : ∃ (c' : CurD) (x : ByteArray), spec_l5Key.f k c = some (c', (x, ())) ∧ CI c' := by
  unfold spec_l5Key.f spec_l5Key.t
  obtain ⟨c', x, e, hc⟩ := l1Pick_ok k h (l := [(⟨#[97]⟩ : ByteArray), (⟨#[98]⟩ : ByteArray), (⟨#[99]⟩ : ByteArray), (⟨#[107, 101, 121]⟩ : ByteArray), (⟨#[108, 111, 110, 103, 110, 97, 109, 101]⟩ : ByteArray)]) (by decide) (by decide)
  rw [e, Option.bind_some]
  exact ⟨_, _, rfl, hc⟩
theorem l1Text_ok {k : Nat} (hk : 2 ^ 50 ≤ k) {c : CurD} (h : CI c) {m : Int} (h0 : 0 ≤ m) (h1 : m ≤ 200) : ∃ (c' : CurD) (x : ByteArray), spec_l1Text.f k c m = some (c', (x, ())) ∧ CI c' := by
  unfold spec_l1Text.f spec_l1Text.t
  obtain ⟨c1, st, e1, hc1, _, _⟩ := l1Below_ok k h (n := 4) (by omega) (by omega)
  rw [e1, Option.bind_some]
  simp only []
  rw [w64_eq (n := m + 1) (by omega) (by omega)]
  obtain ⟨c2, x, e2, hc2, hx0, hx1⟩ := l1Below_ok k hc1 (n := m + 1) (by omega) (by omega)
  rw [e2, Option.bind_some]
  simp only []
  have key : ∀ (d n : Nat) (c : CurD) (out : List Int), d < n → CI c → out.length + d ≤ 1000 → ∃ (c' : CurD) (x : ByteArray), spec_l1Text.l0 k n st (d : Int) c.1 c.2.1 c.2.2.1 out = some (c', (x, ())) ∧ CI c' := by
    intro d
    induction d with
    | zero =>
      intro n c out hn hc ho
      obtain ⟨n, rfl⟩ : ∃ q, n = q + 1 := ⟨n - 1, by omega⟩
      simp only [spec_l1Text.l0, spec_l1Text.b0]
      rw [decF (show ¬ ((0 : Nat) : Int) > 0 by omega), cond_false]
      exact ⟨_, _, rfl, hc⟩
    | succ d ih =>
      intro n c out hn hc ho
      obtain ⟨n, rfl⟩ : ∃ q, n = q + 1 := ⟨n - 1, by omega⟩
      obtain ⟨c3, y, e3, hc3, _, _⟩ := l1Byte_ok k hc
      have e3' : spec_l1Byte.f k (c.1, (c.2.1, (c.2.2.1, ()))) = some (c3, (y, ())) := e3
      have hstep : ∀ z : Int, ∃ (c' : CurD) (x : ByteArray), spec_l1Text.l0 k n st (d : Int) c3.1 c3.2.1 c3.2.2.1 (out ++ [z]) = some (c', (x, ())) ∧ CI c' := fun z =>
        ih n c3 (out ++ [z]) (by omega) hc3 (by rw [List.length_append]; simp only [List.length_singleton]; omega)
      simp only [spec_l1Text.l0, spec_l1Text.b0]
      rw [decT (show ((d + 1 : Nat) : Int) > 0 by omega), cond_true, e3', Option.bind_some]
      simp only []
      have hw : w64 (((d + 1 : Nat) : Int) - 1) = (d : Int) := by rw [w64_eq (by omega) (by omega)]; omega
      rw [hw, rm_ok (by omega) (by decide), rm_ok (by omega) (by decide), rm_ok (by omega) (by decide), rm_ok (by omega) (by decide)]
      cases st == 1 <;> cases st == 2 <;> exact hstep _
  have := key x.toNat k c2 [] (by omega) hc2 (by simp; omega)
  rw [show ((x.toNat : Nat) : Int) = x by omega] at this
  exact this
end Go.Proofs.Ytiigjojchlplpaa.G

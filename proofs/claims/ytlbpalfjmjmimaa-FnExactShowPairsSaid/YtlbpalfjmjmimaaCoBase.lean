/- Plain laws of Var, Crc and Fixed: both readings answer alike. -/
import Derived.Test.YtlbpalfjmjmimaaCoRange
set_option linter.unusedVariables false
set_option linter.unusedSimpArgs false
namespace Go.V
theorem wu32_eq {n : Int} (h0 : 0 ≤ n) (h1 : n ≤ 4294967295) : IntKind.wrap .u32 n = n := by
  unfold IntKind.wrap
  simp [IntKind.bits, IntKind.signed]
  omega
theorem wu8_eq {n : Int} (h0 : 0 ≤ n) (h1 : n ≤ 255) : IntKind.wrap .u8 n = n := by
  unfold IntKind.wrap
  simp [IntKind.bits, IntKind.signed]
  omega
theorem bytesOf_size (l : List Int) : (bytesOf l).size = l.length := by simp [bytesOf, ByteArray.size]
theorem xor64 {n m : Nat} (hn : n < 4294967296) (hm : m < 4294967296) : w64 (((BitVec.ofInt (IntKind.bits .i64) (n : Int) ^^^ BitVec.ofInt (IntKind.bits .i64) (m : Int)).toNat : Int)) = ((n ^^^ m : Nat) : Int) := by
  have h : n ^^^ m < 2 ^ 32 := Nat.xor_lt_two_pow (by omega) (by omega)
  show w64 (((BitVec.ofInt 64 (n : Int) ^^^ BitVec.ofInt 64 (m : Int)).toNat : Int)) = _
  rw [BitVec.ofInt_natCast, BitVec.ofInt_natCast, BitVec.toNat_xor, BitVec.toNat_ofNat, BitVec.toNat_ofNat, Nat.mod_eq_of_lt (by omega), Nat.mod_eq_of_lt (by omega)]
  exact w64_eq (by omega) (by omega)
theorem xor32 {n m : Nat} (hn : n < 4294967296) (hm : m < 4294967296) : IntKind.wrap .u32 (((BitVec.ofInt (IntKind.bits .u32) (n : Int) ^^^ BitVec.ofInt (IntKind.bits .u32) (m : Int)).toNat : Int)) = ((n ^^^ m : Nat) : Int) := by
  have h : n ^^^ m < 2 ^ 32 := Nat.xor_lt_two_pow (by omega) (by omega)
  show IntKind.wrap .u32 (((BitVec.ofInt 32 (n : Int) ^^^ BitVec.ofInt 32 (m : Int)).toNat : Int)) = _
  rw [BitVec.ofInt_natCast, BitVec.ofInt_natCast, BitVec.toNat_xor, BitVec.toNat_ofNat, BitVec.toNat_ofNat, Nat.mod_eq_of_lt (by omega), Nat.mod_eq_of_lt (by omega)]
  exact wu32_eq (by omega) (by omega)
theorem and32 {n : Nat} (hn : n < 4294967296) : IntKind.wrap .u32 (((BitVec.ofInt (IntKind.bits .u32) (n : Int) &&& BitVec.ofInt (IntKind.bits .u32) 1).toNat : Int)) = ((n % 2 : Nat) : Int) := by
  show IntKind.wrap .u32 (((BitVec.ofInt 32 (n : Int) &&& BitVec.ofInt 32 ((1 : Nat) : Int)).toNat : Int)) = _
  rw [BitVec.ofInt_natCast, BitVec.ofInt_natCast, BitVec.toNat_and, BitVec.toNat_ofNat, BitVec.toNat_ofNat, Nat.mod_eq_of_lt (by omega), Nat.mod_eq_of_lt (show 1 < 2 ^ 32 by omega), Nat.and_one_is_mod]
  exact wu32_eq (by omega) (by omega)
theorem not32 {n : Nat} (hn : n < 4294967296) : bitNot .u32 (n : Int) = 4294967295 - (n : Int) := by
  unfold bitNot
  show IntKind.wrap .u32 (((BitVec.allOnes 32 ^^^ BitVec.ofInt 32 (n : Int)).toNat : Int)) = _
  rw [BitVec.ofInt_natCast, BitVec.allOnes_xor, BitVec.toNat_not, BitVec.toNat_ofNat, Nat.mod_eq_of_lt (by omega)]
  rw [wu32_eq (by omega) (by omega)]
  omega
theorem tmodN (n m : Nat) : Int.tmod (n : Int) (m : Int) = ((n % m : Nat) : Int) := rfl
theorem tdivN (n m : Nat) : Int.tdiv (n : Int) (m : Int) = ((n / m : Nat) : Int) := rfl
end Go.V
namespace Go.Proofs.Ytlbpalfjmjmimaa.G
open Go.V
theorem specIn_ev (a b c : Int) : Ev (fun k => spec_l1In.f k a b c) (decide (b ≤ a) && decide (a ≤ c), ()) := Ev.of fun k => by
  unfold spec_l1In.f spec_l1In.t
  by_cases h : b ≤ a
  · rw [decide_eq_true h]; rfl
  · rw [decide_eq_false h]; rfl
theorem implIn_ev (a b c : Int) : Ev (fun k => impl_in.f k a b c) (decide (b ≤ a) && decide (a ≤ c), ()) := Ev.of fun k => by
  unfold impl_in.f impl_in.t
  by_cases h : b ≤ a
  · rw [decide_eq_true h]; rfl
  · rw [decide_eq_false h]; rfl
/- Var. -/
theorem varL : ∀ (d a : Nat) (xs : List Int), a < 128 ^ (d + 1) → a < 562949953421312 → d ≤ 8 → xs.length + d ≤ 100 →
    ∃ r, Ev2 (fun k n => spec_Var.l0 k n (a : Int) xs) r ∧ Ev2 (fun k n => impl_Var.l0 k n (a : Int) xs) r ∧ r.1.size ≤ xs.length + d + 1 := by
  intro d
  induction d with
  | zero =>
    intro a xs h1 h2 h3 h4
    have hr : (xs.length + 1) * Ty.bytes (.int .u8) ≤ 140737488355328 := by have : Ty.bytes (.int .u8) = 1 := rfl; rw [this]; omega
    have c1 : ¬ ((a : Int) ≥ 128) := by omega
    have c2 : ¬ ((a : Int) > 127) := by omega
    refine ⟨(bytesOf (xs ++ [IntKind.wrap .u8 (a : Int)]), ()), Ev2.step (fun k n => rfl) ?_, Ev2.step (fun k n => rfl) ?_, by show (bytesOf _).size ≤ _; rw [bytesOf_size]; simp⟩
    · simp only [spec_Var.l0, spec_Var.b0, decide_eq_false c1, cond_false, rm_eq hr (show xs.length + 1 ≤ 140737488355328 by omega)]
      exact Ev2.of fun _ _ => rfl
    · simp only [impl_Var.l0, impl_Var.b0, decide_eq_false c2, cond_false, rm_eq hr (show xs.length + 1 ≤ 140737488355328 by omega)]
      exact Ev2.of fun _ _ => rfl
  | succ d ih =>
    intro a xs h1 h2 h3 h4
    have hr : (xs.length + 1) * Ty.bytes (.int .u8) ≤ 140737488355328 := by have : Ty.bytes (.int .u8) = 1 := rfl; rw [this]; omega
    by_cases c : a ≥ 128
    · have c1 : ((a : Int) ≥ 128) := by omega
      have c2 : ((a : Int) > 127) := by omega
      have hw : w64 (Int.tdiv (a : Int) 128) = ((a / 128 : Nat) : Int) := w64_eq (n := ((a / 128 : Nat) : Int)) (by omega) (by omega)
      obtain ⟨r, s1, s2, s3⟩ := ih (a / 128) (xs ++ [IntKind.wrap .u8 (w64 (128 + Int.tmod (a : Int) 128))]) (by rw [Nat.pow_succ] at h1; omega) (by omega) (by omega) (by rw [List.length_append]; show _ + 1 + d ≤ _; omega)
      refine ⟨r, Ev2.step (fun k n => rfl) ?_, Ev2.step (fun k n => rfl) ?_, by rw [List.length_append] at s3; change _ ≤ _ + 1 + d + 1 at s3; omega⟩
      · simp only [spec_Var.l0, spec_Var.b0, decide_eq_true c1, cond_true, rm_eq hr (show xs.length + 1 ≤ 140737488355328 by omega), hw]
        exact s1
      · simp only [impl_Var.l0, impl_Var.b0, decide_eq_true c2, cond_true, rm_eq hr (show xs.length + 1 ≤ 140737488355328 by omega), hw, Int.add_comm (Int.tmod (a : Int) 128) 128]
        exact s2
    · have c1 : ¬ ((a : Int) ≥ 128) := by omega
      have c2 : ¬ ((a : Int) > 127) := by omega
      refine ⟨(bytesOf (xs ++ [IntKind.wrap .u8 (a : Int)]), ()), Ev2.step (fun k n => rfl) ?_, Ev2.step (fun k n => rfl) ?_, by show (bytesOf _).size ≤ _; rw [bytesOf_size, List.length_append]; show _ + 1 ≤ _; omega⟩
      · simp only [spec_Var.l0, spec_Var.b0, decide_eq_false c1, cond_false, rm_eq hr (show xs.length + 1 ≤ 140737488355328 by omega)]
        exact Ev2.of fun _ _ => rfl
      · simp only [impl_Var.l0, impl_Var.b0, decide_eq_false c2, cond_false, rm_eq hr (show xs.length + 1 ≤ 140737488355328 by omega)]
        exact Ev2.of fun _ _ => rfl
theorem var_ev (a : Int) : ∃ r, Ev (fun k => spec_Var.f k a) r ∧ Ev (fun k => impl_Var.f k a) r ∧ r.1.size ≤ 9 := by
  by_cases h : 0 ≤ a ∧ a ≤ 562949953421311
  · obtain ⟨n, rfl⟩ := Int.eq_ofNat_of_zero_le h.1
    obtain ⟨r, s1, s2, s3⟩ := varL 8 n [] (Nat.lt_of_lt_of_le (show n < 562949953421312 by omega) (by decide)) (by omega) (by omega) (by decide)
    have q1 := specIn_ev (n : Int) 0 562949953421311
    have q2 := implIn_ev (n : Int) 0 562949953421311
    rw [decide_eq_true h.1, decide_eq_true h.2] at q1 q2
    refine ⟨r, ?_, ?_, by simpa using s3⟩
    · show Ev (fun k => spec_Var.t k (spec_Var.l0 k k) (n : Int)) _
      unfold spec_Var.t
      exact Ev.bind q1 s1.diag
    · show Ev (fun k => impl_Var.t k (impl_Var.l0 k k) (n : Int)) _
      unfold impl_Var.t
      exact Ev.bind q2 s2.diag
  · have hf : (decide (0 ≤ a) && decide (a ≤ 562949953421311)) = false := by
      rw [← Bool.decide_and]; exact decide_eq_false h
    have q1 := specIn_ev a 0 562949953421311
    have q2 := implIn_ev a 0 562949953421311
    rw [hf] at q1 q2
    refine ⟨(⟨#[]⟩, ()), ?_, ?_, by decide⟩
    · show Ev (fun k => spec_Var.t k (spec_Var.l0 k k) a) _
      unfold spec_Var.t
      exact Ev.bind q1 (Ev.of fun _ => rfl)
    · show Ev (fun k => impl_Var.t k (impl_Var.l0 k k) a) _
      unfold impl_Var.t
      exact Ev.bind q2 (Ev.of fun _ => rfl)
/- Crc. -/
def crcR (n : Nat) : Nat := if n % 2 = 1 then n / 2 ^^^ 2197175160 else n / 2
def crcN : Nat → Nat → Nat
  | 0, n => n
  | d + 1, n => crcN d (crcR n)
theorem crcR_lt {n : Nat} (h : n < 4294967296) : crcR n < 4294967296 := by
  unfold crcR
  split
  · exact Nat.xor_lt_two_pow (n := 32) (by omega) (by omega)
  · omega
theorem crcN_lt : ∀ {d n : Nat}, n < 4294967296 → crcN d n < 4294967296
  | 0, _, h => h
  | d + 1, _, h => crcN_lt (d := d) (crcR_lt h)
theorem specBit {k : Nat} {L0 : ByteArray → Int → Int → Option (Int × Unit)} {s : ByteArray} {i : Int} : ∀ (d j m n : Nat), 8 - j = d → j ≤ 8 → d < m → n < 4294967296 → spec_Crc.l1 k L0 m s (n : Int) i (j : Int) = L0 s ((crcN d n : Nat) : Int) (w64 (i + 1))
  | 0, j, m, n, hd, hj, hm, hn => by
    obtain ⟨m, rfl⟩ : ∃ q, m = q + 1 := ⟨m - 1, by omega⟩
    have c : ¬ ((j : Int) < 8) := by omega
    simp only [spec_Crc.l1, spec_Crc.b1, decide_eq_false c, cond_false, crcN]
  | d + 1, j, m, n, hd, hj, hm, hn => by
    obtain ⟨m, rfl⟩ : ∃ q, m = q + 1 := ⟨m - 1, by omega⟩
    have c : ((j : Int) < 8) := by omega
    have ih := specBit (k := k) (L0 := L0) (s := s) (i := i) d (j + 1) m (crcR n) (by omega) (by omega) (by omega) (crcR_lt hn)
    have hd2 : w64 (Int.tdiv (n : Int) 2) = ((n / 2 : Nat) : Int) := w64_eq (n := ((n / 2 : Nat) : Int)) (by omega) (by omega)
    have hx := xor64 (n := n / 2) (m := 2197175160) (by omega) (by omega)
    have hm2 : Int.tmod (n : Int) 2 = ((n % 2 : Nat) : Int) := rfl
    simp only [spec_Crc.l1, spec_Crc.b1, decide_eq_true c, cond_true, up64 (show j ≤ 4398046511104 by omega), hd2, hm2, crcN]
    rw [← ih]
    unfold crcR
    by_cases q : n % 2 = 1
    · rw [if_pos q, q, ← hx]
      rfl
    · rw [if_neg q, show n % 2 = 0 by omega]
      rfl
theorem implBit {k : Nat} {L0 : ByteArray → Int → Int → Option (Int × Unit)} {s : ByteArray} {i : Int} : ∀ (d j m n : Nat), 8 - j = d → j ≤ 8 → d < m → n < 4294967296 → impl_Crc.l1 k L0 m s (n : Int) i (j : Int) = L0 s ((crcN d n : Nat) : Int) (w64 (i + 1))
  | 0, j, m, n, hd, hj, hm, hn => by
    obtain ⟨m, rfl⟩ : ∃ q, m = q + 1 := ⟨m - 1, by omega⟩
    have c : ¬ ((j : Int) < 8) := by omega
    simp only [impl_Crc.l1, impl_Crc.b1, decide_eq_false c, cond_false, crcN]
  | d + 1, j, m, n, hd, hj, hm, hn => by
    obtain ⟨m, rfl⟩ : ∃ q, m = q + 1 := ⟨m - 1, by omega⟩
    have c : ((j : Int) < 8) := by omega
    have ih := implBit (k := k) (L0 := L0) (s := s) (i := i) d (j + 1) m (crcR n) (by omega) (by omega) (by omega) (crcR_lt hn)
    have hd2 : Int.fdiv (n : Int) (2 ^ (Int.toNat 1)) = ((n / 2 : Nat) : Int) := by
      show Int.fdiv (n : Int) 2 = _
      rw [Int.fdiv_eq_ediv_of_nonneg _ (by omega)]
      omega
    have hx := xor32 (n := n / 2) (m := 2197175160) (by omega) (by omega)
    simp only [impl_Crc.l1, impl_Crc.b1, decide_eq_true c, cond_true, up64 (show j ≤ 4398046511104 by omega), hd2, and32 hn, crcN]
    rw [← ih]
    unfold crcR
    by_cases q : n % 2 = 1
    · rw [if_pos q, q, ← hx]
      rfl
    · rw [if_neg q, show n % 2 = 0 by omega]
      rfl
theorem crcL {s : ByteArray} (hs : s.size ≤ 1099511627776) : ∀ (d i n : Nat), s.size - i = d → i ≤ s.size → n < 4294967296 →
    ∃ r : Int × Unit, Ev2 (fun k m => spec_Crc.l0 k m s (n : Int) (i : Int)) r ∧ Ev2 (fun k m => impl_Crc.l0 k m s (n : Int) (i : Int)) r ∧ 0 ≤ r.1 ∧ r.1 ≤ 4294967295
  | 0, i, n, hd, hi, hn => by
    have c : ¬ ((i : Int) < (s.size : Int)) := by omega
    have e1 : w64 (4294967295 - (n : Int)) = 4294967295 - (n : Int) := w64_eq (by omega) (by omega)
    refine ⟨(4294967295 - (n : Int), ()), Ev2.step (fun k n => rfl) ?_, Ev2.step (fun k n => rfl) ?_, by show 0 ≤ 4294967295 - (n : Int); omega, by show 4294967295 - (n : Int) ≤ _; omega⟩
    · simp only [spec_Crc.l0, spec_Crc.b0, decide_eq_false c, cond_false, e1]
      exact Ev2.of fun _ _ => rfl
    · simp only [impl_Crc.l0, impl_Crc.b0, decide_eq_false c, cond_false, not32 hn, e1]
      exact Ev2.of fun _ _ => rfl
  | d + 1, i, n, hd, hi, hn => by
    have c : ((i : Int) < (s.size : Int)) := by omega
    have h0 := Int.natCast_nonneg i
    have hb : (s.data.toList.getD (Int.toNat (i : Int)) 0).toNat < 256 := UInt8.toNat_lt _
    have hbb : byteAt s (i : Int) = (((s.data.toList.getD (Int.toNat (i : Int)) 0).toNat : Nat) : Int) := rfl
    generalize (s.data.toList.getD (Int.toNat (i : Int)) 0).toNat = b at hb hbb
    have w1 : w64 (b : Int) = (b : Int) := w64_eq (by omega) (by omega)
    have w2 : IntKind.wrap .u32 (b : Int) = (b : Int) := wu32_eq (by omega) (by omega)
    have hnb : n ^^^ b < 4294967296 := Nat.xor_lt_two_pow (n := 32) (by omega) (by omega)
    obtain ⟨r, s1, s2, s3⟩ := crcL hs d (i + 1) (crcN 8 (n ^^^ b)) (by omega) (by omega) (crcN_lt hnb)
    obtain ⟨K1, s1⟩ := s1
    obtain ⟨K2, s2⟩ := s2
    have up := up64 (show i ≤ 4398046511104 by omega)
    refine ⟨r, ⟨max K1 9 + 1, fun k m hk hm => ?_⟩, ⟨max K2 9 + 1, fun k m hk hm => ?_⟩, s3⟩
    · obtain ⟨m, rfl⟩ : ∃ q, m = q + 1 := ⟨m - 1, by omega⟩
      simp only [spec_Crc.l0, spec_Crc.b0, decide_eq_true c, cond_true, inb_eq h0 c, hbb, w1, xor64 hn (show b < 4294967296 by omega)]
      refine (specBit 8 0 k (n ^^^ b) (by omega) (by omega) (by omega) hnb).trans ?_
      rw [up]
      exact s1 k m (by omega) (by omega)
    · obtain ⟨m, rfl⟩ : ∃ q, m = q + 1 := ⟨m - 1, by omega⟩
      simp only [impl_Crc.l0, impl_Crc.b0, decide_eq_true c, cond_true, inb_eq h0 c, hbb, w2, xor32 hn (show b < 4294967296 by omega)]
      refine (implBit 8 0 k (n ^^^ b) (by omega) (by omega) (by omega) hnb).trans ?_
      rw [up]
      exact s2 k m (by omega) (by omega)
theorem crc_ev (s : ByteArray) (hs : s.size ≤ 1099511627776) : ∃ r : Int × Unit, Ev (fun k => spec_Crc.f k s) r ∧ Ev (fun k => impl_Crc.f k s) r ∧ 0 ≤ r.1 ∧ r.1 ≤ 4294967295 := by
  obtain ⟨r, h1, h2, h3⟩ := crcL hs s.size 0 4294967295 (by omega) (by omega) (by omega)
  exact ⟨r, h1.diag, h2.diag, h3⟩
/- Fixed, of four bytes. -/
theorem fixed4_ev {a : Int} (h0 : 0 ≤ a) (h1 : a ≤ 4294967295) : ∃ r, Ev (fun k => spec_Fixed.f k a 4) r ∧ Ev (fun k => impl_Fixed.f k a 4) r ∧ r.1.size ≤ 4 := by
  obtain ⟨n, rfl⟩ := Int.eq_ofNat_of_zero_le h0
  have wd : ∀ m : Nat, m < 4294967296 → w64 (Int.tdiv (m : Int) 256) = ((m / 256 : Nat) : Int) := fun m hm => w64_eq (n := ((m / 256 : Nat) : Int)) (by omega) (by omega)
  have wm : ∀ m : Nat, m < 4294967296 → IntKind.wrap .u8 (Int.tmod (m : Int) 256) = ((m % 256 : Nat) : Int) := fun m hm => wu8_eq (n := ((m % 256 : Nat) : Int)) (by omega) (by omega)
  have sz1 : ∀ x : Int, (bytesOf [x]).size = 1 := fun x => rfl
  refine ⟨(bytesOf [((n / 16777216 % 256 : Nat) : Int), ((n / 65536 % 256 : Nat) : Int), ((n / 256 % 256 : Nat) : Int), ((n % 256 : Nat) : Int)], ()), ?_, ?_, Nat.le_refl 4⟩
  · have q1 := specIn_ev 4 1 7
    show Ev (fun k => spec_Fixed.t k (spec_Fixed.l0 k k) (n : Int) 4) _
    unfold spec_Fixed.t
    refine Ev.bind q1 ?_
    have c0 : ¬ ((n : Int) < 0) := by omega
    simp only [show (decide ((1 : Int) ≤ 4) && decide ((4 : Int) ≤ 7)) = true by decide, Bool.not_true, cond_false, decide_eq_false c0]
    refine Ev2.diag (g := fun k m => spec_Fixed.l0 k m (n : Int) 4 ⟨#[]⟩ 0) ?_
    have st : ∀ (m : Nat) (t : ByteArray) (j : Nat) r, m < 4294967296 → j < 4 → t.size ≤ 100 → Ev2 (fun k q => spec_Fixed.l0 k q ((m / 256 : Nat) : Int) 4 (bytesOf [((m % 256 : Nat) : Int)] ++ t) ((j + 1 : Nat) : Int)) r → Ev2 (fun k q => spec_Fixed.l0 k q (m : Int) 4 t (j : Int)) r := fun m t j r hm hj ht h => by
      have c : ((j : Int) < 4) := by omega
      refine Ev2.step (b := fun k q => spec_Fixed.b0 k (spec_Fixed.l0 k q) (m : Int) 4 t (j : Int)) (fun k q => rfl) ?_
      unfold spec_Fixed.b0
      simp only [decide_eq_true c, cond_true, wd m hm, wm m hm, up64 (show j ≤ 4398046511104 by omega), cat_eq (show (bytesOf [((m % 256 : Nat) : Int)]).size + t.size ≤ 9223372036854775807 by rw [sz1]; omega)]
      exact h
    refine st n _ 0 _ (by omega) (by omega) (by decide) (st (n / 256) _ 1 _ (by omega) (by omega) ?_ (st (n / 256 / 256) _ 2 _ (by omega) (by omega) ?_ (st (n / 256 / 256 / 256) _ 3 _ (by omega) (by omega) ?_ ?_)))
    · rw [ByteArray.size_append, sz1]; decide
    · rw [ByteArray.size_append, ByteArray.size_append, sz1, sz1]; decide
    · rw [ByteArray.size_append, ByteArray.size_append, ByteArray.size_append, sz1, sz1, sz1]; decide
    · have c : ¬ ((((3 + 1 : Nat)) : Int) < 4) := by omega
      have c2 : ¬ (((n / 256 / 256 / 256 / 256 : Nat) : Int) > 0) := by omega
      refine Ev2.step (b := fun k q => spec_Fixed.b0 k (spec_Fixed.l0 k q) ((n / 256 / 256 / 256 / 256 : Nat) : Int) 4 _ (((3 + 1 : Nat)) : Int)) (fun k q => rfl) (Ev2.of fun k q => ?_)
      unfold spec_Fixed.b0
      rw [decide_eq_false c, cond_false, decide_eq_false c2, cond_false]
      congr 2
      rw [show n / 256 / 256 / 256 = n / 16777216 by omega, show n / 256 / 256 = n / 65536 by omega]
      apply ByteArray.ext
      simp [bytesOf, ByteArray.data_append]
  · have q1 := implIn_ev 4 1 7
    have q2 := implIn_ev (n : Int) 0 4294967295
    show Ev (fun k => impl_Fixed.t k (impl_Fixed.l0 k k) (n : Int) 4) _
    unfold impl_Fixed.t
    refine Ev.bind q1 ?_
    have c0 : ¬ (w64 (8 * 4) < 0) := by decide
    simp only [show (decide ((1 : Int) ≤ 4) && decide ((4 : Int) ≤ 7)) = true by decide, Bool.not_true, cond_false, decide_eq_false c0, show w64 (w64 (1 * 2 ^ min (Int.toNat (w64 (8 * 4))) (IntKind.bits .i64)) - 1) = 4294967295 by decide]
    refine Ev.bind q2 ?_
    rw [decide_eq_true h0, decide_eq_true h1]
    simp only [Bool.and_true, Bool.not_true, cond_false, show w64 ((4 : Int) - 1) = ((3 : Nat) : Int) by decide]
    refine Ev2.diag (g := fun k m => impl_Fixed.l0 k m (n : Int) ((3 : Nat) : Int) []) ?_
    have st : ∀ (j p : Nat) (i' : Int) (xs : List Int) r, j ≤ 3 → p = 2 ^ (8 * j) → i' = (j : Int) - 1 → xs.length ≤ 100 → Ev2 (fun k q => impl_Fixed.l0 k q (n : Int) i' (xs ++ [((n / p % 256 : Nat) : Int)])) r → Ev2 (fun k q => impl_Fixed.l0 k q (n : Int) (j : Int) xs) r := fun j p i' xs r hj hp hi hx h => by
      have c : ((j : Int) ≥ 0) := by omega
      have e8 : w64 (8 * (j : Int)) = ((8 * j : Nat) : Int) := by rw [w64_eq (by omega) (by omega)]; omega
      have c2 : ¬ (((8 * j : Nat) : Int) < 0) := by omega
      have e1 : w64 ((j : Int) - 1) = i' := by rw [hi]; exact w64_eq (by omega) (by omega)
      have emin : min (8 * j) (IntKind.bits .i64) = 8 * j := by have : IntKind.bits .i64 = 64 := rfl; rw [this]; omega
      have hr : (xs.length + 1) * Ty.bytes (.int .u8) ≤ 140737488355328 := by have : Ty.bytes (.int .u8) = 1 := rfl; rw [this]; omega
      have ew : IntKind.wrap .u8 (Int.fdiv (n : Int) (2 ^ (8 * j))) = ((n / p % 256 : Nat) : Int) := by
        have e2 : ((2 : Int) ^ (8 * j)) = ((p : Nat) : Int) := by rw [hp, Int.natCast_pow]; rfl
        rw [e2, Int.fdiv_eq_ediv_of_nonneg _ (by omega), ← Int.natCast_ediv]
        generalize n / p = z
        unfold IntKind.wrap
        simp [IntKind.bits, IntKind.signed]
      refine Ev2.step (b := fun k q => impl_Fixed.b0 k (impl_Fixed.l0 k q) (n : Int) (j : Int) xs) (fun k q => rfl) ?_
      unfold impl_Fixed.b0
      simp only [decide_eq_true c, cond_true, e8, decide_eq_false c2, cond_false, rm_eq hr (show xs.length + 1 ≤ 140737488355328 by omega), e1, toNat_ofNat, emin, ew]
      exact h
    refine st 3 16777216 ((2 : Nat) : Int) _ _ (by omega) (by decide) (by decide) (by decide) (st 2 65536 ((1 : Nat) : Int) _ _ (by omega) (by decide) (by decide) (by simp) (st 1 256 ((0 : Nat) : Int) _ _ (by omega) (by decide) (by decide) (by simp) (st 0 1 (-1) _ _ (by omega) (by decide) (by decide) (by simp) ?_)))
    refine Ev2.step (b := fun k q => impl_Fixed.b0 k (impl_Fixed.l0 k q) (n : Int) (-1) _) (fun k q => rfl) (Ev2.of fun k q => ?_)
    unfold impl_Fixed.b0
    rw [show decide ((-1 : Int) ≥ 0) = false by decide, cond_false, Nat.div_one]
    rfl
end Go.Proofs.Ytlbpalfjmjmimaa.G

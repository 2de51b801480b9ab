/- M: Var, ReadVar, Crc, Fixed and ReadFixed of four bytes: what they answer, in both readings. -/
import Derived.Test.YtiigjojchlplpaaMBase
import Derived.Test.YtiigjojchlplpaaEA
import Derived.Test.YtiigjojchlplpaaCoDig
set_option linter.unusedVariables false
set_option linter.unusedSimpArgs false
namespace Go.V
theorem bytesOf_size (l : List Int) : (bytesOf l).size = l.length := by simp [bytesOf, ByteArray.size]
theorem xor64 {n m : Nat} (hn : n < 4294967296) (hm : m < 4294967296) : w64 (((BitVec.ofInt (IntKind.bits .i64) (n : Int) ^^^ BitVec.ofInt (IntKind.bits .i64) (m : Int)).toNat : Int)) = ((n ^^^ m : Nat) : Int) := by
  have h : n ^^^ m < 2 ^ 32 := Nat.xor_lt_two_pow (by omega) (by omega)
  show w64 (((BitVec.ofInt 64 (n : Int) ^^^ BitVec.ofInt 64 (m : Int)).toNat : Int)) = _
  rw [BitVec.ofInt_natCast, BitVec.ofInt_natCast, BitVec.toNat_xor, BitVec.toNat_ofNat, BitVec.toNat_ofNat, Nat.mod_eq_of_lt (by omega), Nat.mod_eq_of_lt (by omega)]
  exact w64_eq (by omega) (by omega)
theorem xor32 {n m : Nat} (hn : n < 4294967296) (hm : m < 4294967296) : IntKind.wrap .u32 (((BitVec.ofInt (IntKind.bits .u32) (n : Int) ^^^ BitVec.ofInt (IntKind.bits .u32) (m : Int)).toNat : Int)) = ((n ^^^ m : Nat) : Int) := by
  have h : n ^^^ m < 2 ^ 32 := Nat.xor_lt_two_pow (by omega) (by omega)
  show IntKind.wrap .u32 (((BitVec.ofInt 32 (n : Int) ^^^ BitVec.ofInt 32 (m : Int)).toNat : Int)) = _
  rw [BitVec.ofInt_natCast, BitVec.ofInt_natCast, BitVec.toNat_xor, BitVec.toNat_ofNat, BitVec.toNat_ofNat, Nat.mod_eq_of_lt (by omega), Nat.mod_eq_of_lt (by omega)]
  exact wu32_ok (by omega) (by omega)
theorem or64 {n b : Nat} (hn : n < 4294967296) (hb : b < 256) : w64 (((BitVec.ofInt (IntKind.bits .i64) ((n * 256 : Nat) : Int) ||| BitVec.ofInt (IntKind.bits .i64) (b : Int)).toNat : Int)) = ((n * 256 + b : Nat) : Int) := by
  have h : n * 256 ||| b = n * 256 + b := by
    have := Nat.shiftLeft_add_eq_or_of_lt (i := 8) (b := b) (by omega) n
    rw [Nat.shiftLeft_eq, show (2 : Nat) ^ 8 = 256 by decide] at this
    omega
  show w64 (((BitVec.ofInt 64 ((n * 256 : Nat) : Int) ||| BitVec.ofInt 64 (b : Int)).toNat : Int)) = _
  rw [BitVec.ofInt_natCast, BitVec.ofInt_natCast, BitVec.toNat_or, BitVec.toNat_ofNat, BitVec.toNat_ofNat, Nat.mod_eq_of_lt (by omega), Nat.mod_eq_of_lt (by omega), h]
  exact w64_eq (by omega) (by omega)
theorem and32 {n : Nat} (hn : n < 4294967296) : IntKind.wrap .u32 (((BitVec.ofInt (IntKind.bits .u32) (n : Int) &&& BitVec.ofInt (IntKind.bits .u32) 1).toNat : Int)) = ((n % 2 : Nat) : Int) := by
  show IntKind.wrap .u32 (((BitVec.ofInt 32 (n : Int) &&& BitVec.ofInt 32 ((1 : Nat) : Int)).toNat : Int)) = _
  rw [BitVec.ofInt_natCast, BitVec.ofInt_natCast, BitVec.toNat_and, BitVec.toNat_ofNat, BitVec.toNat_ofNat, Nat.mod_eq_of_lt (by omega), Nat.mod_eq_of_lt (show 1 < 2 ^ 32 by omega), Nat.and_one_is_mod]
  exact wu32_ok (by omega) (by omega)
theorem not32 {n : Nat} (hn : n < 4294967296) : bitNot .u32 (n : Int) = 4294967295 - (n : Int) := by
  unfold bitNot
  show IntKind.wrap .u32 (((BitVec.allOnes 32 ^^^ BitVec.ofInt 32 (n : Int)).toNat : Int)) = _
  rw [BitVec.ofInt_natCast, BitVec.allOnes_xor, BitVec.toNat_not, BitVec.toNat_ofNat, Nat.mod_eq_of_lt (by omega)]
  rw [wu32_ok (by omega) (by omega)]
  omega
theorem app_nil (s : ByteArray) : (⟨#[]⟩ : ByteArray) ++ s = s := by
  apply ByteArray.ext
  simp [ByteArray.data_append]
theorem nil_app (s : ByteArray) : s ++ (⟨#[]⟩ : ByteArray) = s := by
  apply ByteArray.ext
  simp [ByteArray.data_append]
theorem app_assoc (a b c : ByteArray) : a ++ b ++ c = a ++ (b ++ c) := by
  apply ByteArray.ext
  simp [ByteArray.data_append]
theorem nb_app (a b : ByteArray) : nb (a ++ b) = nb a ++ nb b := by
  unfold nb
  rw [ByteArray.data_append, Array.toList_append, List.map_append]
theorem nb_ext (s : ByteArray) (i j : Nat) : nb (ByteArray.extract s i j) = ((nb s).take j).drop i := by
  unfold nb
  simp [ByteArray.data_extract, List.map_take, List.map_drop]
  rw [List.drop_take]
theorem ext_tail (s : ByteArray) (n : Nat) : nb (ByteArray.extract s n s.size) = (nb s).drop n := by
  rw [nb_ext, List.take_of_length_le (by rw [nb_len]; omega)]
theorem app_tail (a t : ByteArray) : ByteArray.extract (a ++ t) a.size (a ++ t).size = t := nb_inj (by rw [ext_tail, nb_app, List.drop_left' (nb_len a)])
theorem app_head (a t : ByteArray) : ByteArray.extract (a ++ t) 0 a.size = a := nb_inj (by rw [nb_ext, nb_app, List.take_left' (nb_len a), List.drop_zero])
theorem split_at (s : ByteArray) {n : Nat} (h : n ≤ s.size) : s = ByteArray.extract s 0 n ++ ByteArray.extract s n s.size := nb_inj (by rw [nb_app, ext_tail, nb_extract, List.take_append_drop])
theorem app_cancel {a b c : ByteArray} (h : a ++ b = a ++ c) : b = c := nb_inj (by
  have := congrArg nb h
  rw [nb_app, nb_app] at this
  exact List.append_cancel_left this)
theorem app_inj {a b c d : ByteArray} (h : a ++ b = c ++ d) (hs : a.size = c.size) : a = c ∧ b = d := by
  have := congrArg nb h
  rw [nb_app, nb_app] at this
  have := List.append_inj this (by rw [nb_len, nb_len, hs])
  exact ⟨nb_inj this.1, nb_inj this.2⟩
/-- How a number is read. -/
def rv : Nat → List Nat → Option (Nat × Nat)
  | 0, _ => none
  | _ + 1, [] => none
  | d + 1, b :: l => if b ≥ 128 then (match rv d l with | some (a, n) => if a = 0 then none else some (b % 128 + 128 * a, n + 1) | none => none) else some (b, 1)
theorem rv_vl : ∀ (d a : Nat) (t : List Nat), a < 128 ^ (d + 1) → rv (d + 1) (vl d a ++ t) = some (a, (vl d a).length)
  | 0, a, t, h => by
    have : ¬ a ≥ 128 := by simpa using h
    simp [vl, rv, this]
  | d + 1, a, t, h => by
    unfold vl
    by_cases c : a ≥ 128
    · have ih := rv_vl d (a / 128) t (by rw [Nat.pow_succ] at h; omega)
      rw [if_pos c, List.cons_append, rv, if_pos (by omega), ih]
      simp only []
      rw [if_neg (by omega), List.length_cons]
      congr 2
      omega
    · rw [if_neg c, List.cons_append, rv, if_neg c]
      rfl
theorem rv_some : ∀ (d : Nat) (l : List Nat) (a n : Nat), (∀ x ∈ l, x < 256) → rv (d + 1) l = some (a, n) → l.take n = vl d a ∧ a < 128 ^ (d + 1) ∧ n = (vl d a).length ∧ n ≤ l.length ∧ 1 ≤ n ∧ n ≤ d + 1
  | _, [], a, n, _, h => by simp [rv] at h
  | 0, b :: l, a, n, hb, h => by
    unfold rv at h
    by_cases c : b ≥ 128
    · simp [c, rv] at h
    · simp [c] at h
      obtain ⟨rfl, rfl⟩ := h
      refine ⟨by simp [vl], by simpa using c, by simp [vl], by simp, by omega, by omega⟩
  | d + 1, b :: l, a, n, hb, h => by
    unfold rv at h
    by_cases c : b ≥ 128
    · rw [if_pos c] at h
      cases q : rv (d + 1) l with
      | none => rw [q] at h; simp at h
      | some p =>
        obtain ⟨a', n'⟩ := p
        obtain ⟨h1, h2, h3, h4, h5, h6⟩ := rv_some d l a' n' (fun x hx => hb x (List.mem_cons_of_mem _ hx)) q
        rw [q] at h
        simp only [] at h
        by_cases z : a' = 0
        · simp [z] at h
        · rw [if_neg z] at h
          simp only [Option.some.injEq, Prod.mk.injEq] at h
          obtain ⟨rfl, rfl⟩ := h
          have hb := hb b (List.mem_cons_self ..)
          have e1 : (b % 128 + 128 * a') / 128 = a' := by omega
          have e2 : 128 + (b % 128 + 128 * a') % 128 = b := by omega
          have hv : vl (d + 1) (b % 128 + 128 * a') = b :: vl d a' := by
            rw [vl, if_pos (by omega), e1, e2]
          rw [hv]
          refine ⟨by rw [List.take_succ_cons, h1], by rw [Nat.pow_succ]; omega, by rw [List.length_cons, h3], by rw [List.length_cons]; omega, by omega, by omega⟩
    · rw [if_neg c] at h
      simp only [Option.some.injEq, Prod.mk.injEq] at h
      obtain ⟨rfl, rfl⟩ := h
      have hv : vl (d + 1) b = [b] := by rw [vl, if_neg c]
      rw [hv]
      refine ⟨by simp, ?_, by simp, by simp, by omega, by omega⟩
      have : (128 : Nat) ^ 1 ≤ 128 ^ (d + 1 + 1) := Nat.pow_le_pow_right (by decide) (by omega)
      omega
theorem vl_ne {d a : Nat} : vl d a ≠ [] := by
  cases d with
  | zero => simp [vl]
  | succ d => unfold vl; split <;> simp
theorem rv_wcan (l : List Nat) (hb : ∀ x ∈ l, x < 256) (d n : Nat) (h0 : 1 ≤ n) (h1 : n ≤ d + 1) (h2 : n ≤ l.length) : wcan (l.take n) = true ↔ ∃ a, rv (d + 1) l = some (a, n) := by
  constructor
  · intro h
    have e := wcan_vl d (l.take n) h (by rw [List.length_take]; omega)
    have hd : dec (l.take n) < 128 ^ (d + 1) := Nat.lt_of_lt_of_le (dec_lt _) (Nat.pow_le_pow_right (by decide) (by rw [List.length_take]; omega))
    have := rv_vl d (dec (l.take n)) (l.drop n) hd
    rw [e, List.take_append_drop, List.length_take, Nat.min_eq_left h2] at this
    exact ⟨_, this⟩
  · rintro ⟨a, h⟩
    obtain ⟨e1, e2, _⟩ := rv_some d l a n hb h
    rw [e1]
    exact (vl_wcan d a e2).1
theorem rv_dec {l : List Nat} (hb : ∀ x ∈ l, x < 256) {d a n : Nat} (h : rv (d + 1) l = some (a, n)) : a = dec (l.take n) := by
  obtain ⟨e1, e2, _⟩ := rv_some d l a n hb h
  rw [e1]
  exact (vl_wcan d a e2).2.1.symm
theorem nb_lt' (s : ByteArray) : ∀ x ∈ nb s, x < 256 := fun _ h => nb_lt h
theorem varT_size (a : Nat) : 1 ≤ (varT a).size ∧ (varT a).size ≤ 7 := by
  unfold varT
  rw [bytesOf_size, List.length_map]
  have h : ∀ d a, (vl d a).length ≤ d + 1 := by
    intro d
    induction d with
    | zero => intro a; simp [vl]
    | succ d ih => intro a; unfold vl; split <;> simp; have := ih (a / 128); omega
  have h2 := h 6 a
  have h3 : (vl 6 a).length ≠ 0 := fun q => vl_ne (List.length_eq_zero_iff.1 q)
  omega
abbrev M49 : Nat := 562949953421312
theorem varT_len {a : Nat} (h : a < 562949953421312) : (vl 6 a).length = (varT a).size := by rw [← nb_varT h, nb_len]
theorem rv_app {a : Nat} (h : a < 562949953421312) (t : ByteArray) : rv 7 (nb (varT a ++ t)) = some (a, (varT a).size) := by
  rw [nb_app, nb_varT h, ← varT_len h]
  exact rv_vl 6 a _ (by rw [show (128 : Nat) ^ (6 + 1) = 562949953421312 by decide]; exact h)
theorem rv_view {s : ByteArray} {a n : Nat} (h : rv 7 (nb s) = some (a, n)) : ∃ t, a < 562949953421312 ∧ n = (varT a).size ∧ s = varT a ++ t := by
  obtain ⟨h1, h2, h3, h4, h5, h6⟩ := rv_some 6 (nb s) a n (nb_lt' s) h
  rw [show (128 : Nat) ^ (6 + 1) = 562949953421312 by decide] at h2
  refine ⟨ByteArray.extract s n s.size, h2, by rw [h3, varT_len h2], nb_inj ?_⟩
  rw [nb_app, nb_varT h2, ext_tail, ← h1, List.take_append_drop]
/-- A number ahead, or none. -/
theorem rv_cases (s : ByteArray) : (∃ a t, a < 562949953421312 ∧ s = varT a ++ t) ∨ rv 7 (nb s) = none := by
  cases h : rv 7 (nb s) with
  | none => exact .inr rfl
  | some p =>
    obtain ⟨a, n⟩ := p
    obtain ⟨t, h1, _, h3⟩ := rv_view h
    exact .inl ⟨a, t, h1, h3⟩
theorem varT_inj {a b : Nat} {s t : ByteArray} (ha : a < 562949953421312) (hb : b < 562949953421312) (h : varT a ++ s = varT b ++ t) : a = b ∧ s = t := by
  have h1 := rv_app ha s
  rw [h, rv_app hb t] at h1
  simp only [Option.some.injEq, Prod.mk.injEq] at h1
  obtain ⟨rfl, _⟩ := h1
  exact ⟨rfl, app_cancel h⟩
def rvR : Option (Nat × Nat) → Int × Int × Unit
  | some p => ((p.1 : Int), ((p.2 : Int), ()))
  | none => (0, (0, ()))
end Go.V
namespace Go.Proofs.Ytiigjojchlplpaa.G
open Go.V
theorem l1In_eq (k : Nat) (a b c : Int) : spec_l1In.f k a b c = some (decide (b ≤ a ∧ a ≤ c), ()) := by
  unfold spec_l1In.f spec_l1In.t
  by_cases h : b ≤ a <;> simp [h]
theorem in_eq (k : Nat) (a b c : Int) : impl_in.f k a b c = some (decide (b ≤ a ∧ a ≤ c), ()) := by
  unfold impl_in.f impl_in.t
  by_cases h : b ≤ a <;> simp [h]
/- Var. -/
def varB (a : Int) : ByteArray := if 0 ≤ a ∧ a ≤ 562949953421311 then varT a.toNat else ⟨#[]⟩
theorem varB_size (a : Int) : (varB a).size ≤ 7 := by
  unfold varB
  split
  · exact (varT_size _).2
  · exact Nat.zero_le _
theorem varB_nat {a : Nat} (h : a < 562949953421312) : varB (a : Int) = varT a := by
  unfold varB
  rw [if_pos (by omega), Int.toNat_natCast]
theorem varL : ∀ (d a n : Nat) (xs : List Int), a < 128 ^ (d + 1) → a < 562949953421312 → d < n → xs.length + d ≤ 100 → ∀ k,
    spec_Var.l0 k n (a : Int) xs = some (bytesOf (xs ++ (vl d a).map Int.ofNat), ()) ∧ impl_Var.l0 k n (a : Int) xs = some (bytesOf (xs ++ (vl d a).map Int.ofNat), ()) := by
  intro d
  induction d with
  | zero =>
    intro a n xs h1 h2 h3 h4 k
    obtain ⟨n, rfl⟩ : ∃ q, n = q + 1 := ⟨n - 1, by omega⟩
    simp only [Nat.zero_add, Nat.pow_one] at h1
    constructor
    · simp (disch := first | omega | decide) only [spec_Var.l0, spec_Var.b0, decF, cond_false, rm_ok, wu8_ok]
      rfl
    · simp (disch := first | omega | decide) only [impl_Var.l0, impl_Var.b0, decF, cond_false, rm_ok, wu8_ok]
      rfl
  | succ d ih =>
    intro a n xs h1 h2 h3 h4 k
    obtain ⟨n, rfl⟩ : ∃ q, n = q + 1 := ⟨n - 1, by omega⟩
    unfold vl
    by_cases c : a ≥ 128
    · have hd : w64 (Int.tdiv (a : Int) 128) = ((a / 128 : Nat) : Int) := w64_eq (n := ((a / 128 : Nat) : Int)) (by omega) (by omega)
      have hw : IntKind.wrap .u8 (w64 (128 + Int.tmod (a : Int) 128)) = ((128 + a % 128 : Nat) : Int) := by
        have e : 128 + Int.tmod (a : Int) 128 = ((128 + a % 128 : Nat) : Int) := by
          show 128 + ((a % 128 : Nat) : Int) = _
          omega
        rw [e, w64_eq (by omega) (by omega)]
        exact wu8_ok (by omega) (by omega)
      have ih := ih (a / 128) n (xs ++ [((128 + a % 128 : Nat) : Int)]) (by rw [Nat.pow_succ] at h1; omega) (by omega) (by omega) (by rw [List.length_append]; show _ + 1 + d ≤ _; omega) k
      rw [if_pos c]
      rw [List.append_assoc] at ih
      constructor
      · simp (disch := first | omega | decide) only [spec_Var.l0, spec_Var.b0, decT, cond_true, rm_ok, hd, hw]
        exact ih.1
      · simp (disch := first | omega | decide) only [impl_Var.l0, impl_Var.b0, decT, cond_true, rm_ok, hd, Int.add_comm (Int.tmod (a : Int) 128) 128, hw]
        exact ih.2
    · rw [if_neg c]
      constructor
      · simp (disch := first | omega | decide) only [spec_Var.l0, spec_Var.b0, decF, cond_false, rm_ok, wu8_ok]
        rfl
      · simp (disch := first | omega | decide) only [impl_Var.l0, impl_Var.b0, decF, cond_false, rm_ok, wu8_ok]
        rfl
theorem specVar_eq {k : Nat} (hk : 2 ^ 50 ≤ k) (a : Int) : spec_Var.f k a = some (varB a, ()) := by
  unfold spec_Var.f spec_Var.t varB
  rw [l1In_eq, Option.bind_some]
  by_cases h : 0 ≤ a ∧ a ≤ 562949953421311
  · obtain ⟨n, rfl⟩ := Int.eq_ofNat_of_zero_le h.1
    have hn : n < 562949953421312 := by omega
    simp only [decT h, Bool.not_true, cond_false, if_pos h, Int.toNat_natCast]
    exact (varL 6 n k [] (by rw [show (128 : Nat) ^ (6 + 1) = 562949953421312 by decide]; exact hn) hn (by omega) (by decide) k).1
  · simp only [decF h, Bool.not_false, cond_true, if_neg h]
theorem implVar_eq {k : Nat} (hk : 2 ^ 50 ≤ k) (a : Int) : impl_Var.f k a = some (varB a, ()) := by
  unfold impl_Var.f impl_Var.t varB
  rw [in_eq, Option.bind_some]
  by_cases h : 0 ≤ a ∧ a ≤ 562949953421311
  · obtain ⟨n, rfl⟩ := Int.eq_ofNat_of_zero_le h.1
    have hn : n < 562949953421312 := by omega
    simp only [decT h, Bool.not_true, cond_false, if_pos h, Int.toNat_natCast]
    exact (varL 6 n k [] (by rw [show (128 : Nat) ^ (6 + 1) = 562949953421312 by decide]; exact hn) hn (by omega) (by decide) k).2
  · simp only [decF h, Bool.not_false, cond_true, if_neg h]
/- ReadVar. -/
theorem take_one {s : ByteArray} {i : Nat} (h : i < s.size) : (nb s).take (i + 1) = (nb s).take i ++ [(nb s).getD i 0] := by
  have h1 : i < (nb s).length := by rw [nb_len]; exact h
  rw [List.take_succ_eq_append_getElem h1]
  simp [List.getD, h1]
theorem nb_getD_lt (s : ByteArray) (i : Nat) : (nb s).getD i 0 < 256 := by
  by_cases h1 : i < (nb s).length
  · rw [show (nb s).getD i 0 = (nb s)[i] by simp [List.getD, h1]]
    exact nb_lt (List.getElem_mem h1)
  · simp [List.getD, List.getElem?_eq_none (by omega : (nb s).length ≤ i)]
theorem nb_drop {s : ByteArray} {i : Nat} (h : i < s.size) : (nb s).drop i = (nb s).getD i 0 :: (nb s).drop (i + 1) := by
  have h1 : i < (nb s).length := by rw [nb_len]; exact h
  rw [List.drop_eq_getElem_cons h1]
  simp [List.getD, h1]
def crcR (n : Nat) : Nat := if n % 2 = 1 then n / 2 ^^^ 2197175160 else n / 2
def crcN : Nat → Nat → Nat
  | 0, n => n
  | d + 1, n => crcN d (crcR n)
theorem crcR_lt {n : Nat} (h : n < 4294967296) : crcR n < 4294967296 := by
  unfold crcR
  split
  · exact Nat.xor_lt_two_pow (n := 32) (by omega) (by omega)
  · omega
theorem crcN_lt : ∀ {d n : Nat}, n < 4294967296 → crcN d n < 4294967296
  | 0, _, h => h
  | d + 1, _, h => crcN_lt (d := d) (crcR_lt h)
def crcS : List Nat → Nat → Nat
  | [], n => n
  | b :: l, n => crcS l (crcN 8 (n ^^^ b))
theorem crcS_lt : ∀ {l : List Nat} {n : Nat}, n < 4294967296 → (∀ b ∈ l, b < 256) → crcS l n < 4294967296
  | [], _, h, _ => h
  | b :: l, n, h, hb => by
    have := hb b (List.mem_cons_self ..)
    exact crcS_lt (l := l) (crcN_lt (Nat.xor_lt_two_pow (n := 32) (by omega) (by omega))) (fun x hx => hb x (List.mem_cons_of_mem _ hx))
def crcM (s : ByteArray) : Int := 4294967295 - (crcS (nb s) 4294967295 : Int)
theorem crcM_in (s : ByteArray) : 0 ≤ crcM s ∧ crcM s ≤ 4294967295 := by
  have := crcS_lt (l := nb s) (n := 4294967295) (by omega) (nb_lt' s)
  unfold crcM
  omega
theorem specBit {k : Nat} {L0 : ByteArray → Int → Int → Option (Int × Unit)} {s : ByteArray} {i : Int} : ∀ (d j m n : Nat), 8 - j = d → j ≤ 8 → d < m → n < 4294967296 → spec_Crc.l1 k L0 m s (n : Int) i (j : Int) = L0 s ((crcN d n : Nat) : Int) (w64 (i + 1))
  | 0, j, m, n, hd, hj, hm, hn => by
    obtain ⟨m, rfl⟩ : ∃ q, m = q + 1 := ⟨m - 1, by omega⟩
    have c : ¬ ((j : Int) < 8) := by omega
    simp only [spec_Crc.l1, spec_Crc.b1, decide_eq_false c, cond_false, crcN]
  | d + 1, j, m, n, hd, hj, hm, hn => by
    obtain ⟨m, rfl⟩ : ∃ q, m = q + 1 := ⟨m - 1, by omega⟩
    have c : ((j : Int) < 8) := by omega
    have ih := specBit (k := k) (L0 := L0) (s := s) (i := i) d (j + 1) m (crcR n) (by omega) (by omega) (by omega) (crcR_lt hn)
    have hd2 : w64 (Int.tdiv (n : Int) 2) = ((n / 2 : Nat) : Int) := w64_eq (n := ((n / 2 : Nat) : Int)) (by omega) (by omega)
    have hx := xor64 (n := n / 2) (m := 2197175160) (by omega) (by omega)
    have hm2 : Int.tmod (n : Int) 2 = ((n % 2 : Nat) : Int) := rfl
    have hj1 : w64 ((j : Int) + 1) = ((j + 1 : Nat) : Int) := by rw [w64_eq (by omega) (by omega)]; omega
    simp only [spec_Crc.l1, spec_Crc.b1, decide_eq_true c, cond_true, hj1, hd2, hm2, crcN]
    rw [← ih]
    unfold crcR
    by_cases q : n % 2 = 1
    · rw [if_pos q, q, ← hx]
      rfl
    · rw [if_neg q, show n % 2 = 0 by omega]
      rfl
theorem implBit {k : Nat} {L0 : ByteArray → Int → Int → Option (Int × Unit)} {s : ByteArray} {i : Int} : ∀ (d j m n : Nat), 8 - j = d → j ≤ 8 → d < m → n < 4294967296 → impl_Crc.l1 k L0 m s (n : Int) i (j : Int) = L0 s ((crcN d n : Nat) : Int) (w64 (i + 1))
  | 0, j, m, n, hd, hj, hm, hn => by
    obtain ⟨m, rfl⟩ : ∃ q, m = q + 1 := ⟨m - 1, by omega⟩
    have c : ¬ ((j : Int) < 8) := by omega
    simp only [impl_Crc.l1, impl_Crc.b1, decide_eq_false c, cond_false, crcN]
  | d + 1, j, m, n, hd, hj, hm, hn => by
    obtain ⟨m, rfl⟩ : ∃ q, m = q + 1 := ⟨m - 1, by omega⟩
    have c : ((j : Int) < 8) := by omega
    have ih := implBit (k := k) (L0 := L0) (s := s) (i := i) d (j + 1) m (crcR n) (by omega) (by omega) (by omega) (crcR_lt hn)
    have hd2 : Int.fdiv (n : Int) (2 ^ (Int.toNat 1)) = ((n / 2 : Nat) : Int) := by
      show Int.fdiv (n : Int) 2 = _
      rw [Int.fdiv_eq_ediv_of_nonneg _ (by omega)]
      omega
    have hx := xor32 (n := n / 2) (m := 2197175160) (by omega) (by omega)
    have hj1 : w64 ((j : Int) + 1) = ((j + 1 : Nat) : Int) := by rw [w64_eq (by omega) (by omega)]; omega
    simp only [impl_Crc.l1, impl_Crc.b1, decide_eq_true c, cond_true, hj1, hd2, and32 hn, crcN]
    rw [← ih]
    unfold crcR
    by_cases q : n % 2 = 1
    · rw [if_pos q, q, ← hx]
      rfl
    · rw [if_neg q, show n % 2 = 0 by omega]
      rfl
theorem crcL {k : Nat} (hk : 2 ^ 50 ≤ k) {s : ByteArray} (hs : s.size ≤ 1099511627776) : ∀ (d i n m : Nat), s.size - i = d → i ≤ s.size → n < 4294967296 → d < m →
    spec_Crc.l0 k m s (n : Int) (i : Int) = some (4294967295 - (crcS ((nb s).drop i) n : Int), ()) ∧ impl_Crc.l0 k m s (n : Int) (i : Int) = some (4294967295 - (crcS ((nb s).drop i) n : Int), ())
  | 0, i, n, m, hd, hi, hn, hm => by
    obtain ⟨m, rfl⟩ : ∃ q, m = q + 1 := ⟨m - 1, by omega⟩
    have c : ¬ ((i : Int) < (s.size : Int)) := by omega
    have e1 : w64 (4294967295 - (n : Int)) = 4294967295 - (n : Int) := w64_eq (by omega) (by omega)
    rw [List.drop_eq_nil_of_le (by rw [nb_len]; omega)]
    constructor
    · simp only [spec_Crc.l0, spec_Crc.b0, decide_eq_false c, cond_false, e1, crcS]
    · simp only [impl_Crc.l0, impl_Crc.b0, decide_eq_false c, cond_false, not32 hn, e1, crcS]
  | d + 1, i, n, m, hd, hi, hn, hm => by
    obtain ⟨m, rfl⟩ : ∃ q, m = q + 1 := ⟨m - 1, by omega⟩
    have hlt : i < s.size := by omega
    have c : ((i : Int) < (s.size : Int)) := by omega
    have h0 := Int.natCast_nonneg i
    have hb := nb_getD_lt s i
    have hat := nb_at hlt
    rw [nb_drop hlt]
    generalize (nb s).getD i 0 = b at hb hat
    have w1 : w64 (b : Int) = (b : Int) := w64_eq (by omega) (by omega)
    have w2 : IntKind.wrap .u32 (b : Int) = (b : Int) := wu32_ok (by omega) (by omega)
    have hnb : n ^^^ b < 4294967296 := Nat.xor_lt_two_pow (n := 32) (by omega) (by omega)
    have up : w64 ((i : Int) + 1) = ((i + 1 : Nat) : Int) := by rw [w64_eq (by omega) (by omega)]; omega
    obtain ⟨s1, s2⟩ := crcL hk hs d (i + 1) (crcN 8 (n ^^^ b)) m (by omega) (by omega) (crcN_lt hnb) (by omega)
    constructor
    · simp only [spec_Crc.l0, spec_Crc.b0, decide_eq_true c, cond_true, inb_eq h0 c, hat, w1, xor64 hn (show b < 4294967296 by omega)]
      refine (specBit 8 0 k (n ^^^ b) (by omega) (by omega) (by omega) hnb).trans ?_
      rw [up]
      exact s1
    · simp only [impl_Crc.l0, impl_Crc.b0, decide_eq_true c, cond_true, inb_eq h0 c, hat, w2, xor32 hn (show b < 4294967296 by omega)]
      refine (implBit 8 0 k (n ^^^ b) (by omega) (by omega) (by omega) hnb).trans ?_
      rw [up]
      exact s2
theorem specCrc_eq {k : Nat} (hk : 2 ^ 50 ≤ k) {s : ByteArray} (hs : s.size ≤ 1099511627776) : spec_Crc.f k s = some (crcM s, ()) := by
  have := (crcL hk hs s.size 0 4294967295 k (by omega) (by omega) (by omega) (by omega)).1
  rw [List.drop_zero] at this
  exact this
theorem implCrc_eq {k : Nat} (hk : 2 ^ 50 ≤ k) {s : ByteArray} (hs : s.size ≤ 1099511627776) : impl_Crc.f k s = some (crcM s, ()) := by
  have := (crcL hk hs s.size 0 4294967295 k (by omega) (by omega) (by omega) (by omega)).2
  rw [List.drop_zero] at this
  exact this
end Go.Proofs.Ytiigjojchlplpaa.G

/- M: Fixed and ReadFixed of four bytes, records and frames: what they answer, in both readings. -/
import Derived.Test.YtiigjojchlplpaaMNum
set_option linter.unusedVariables false
set_option linter.unusedSimpArgs false
namespace Go.Proofs.Ytiigjojchlplpaa.G
open Go.V
/- Fixed, of four bytes. -/
def fixT (n : Nat) : ByteArray := bytesOf [((n / 16777216 % 256 : Nat) : Int), ((n / 65536 % 256 : Nat) : Int), ((n / 256 % 256 : Nat) : Int), ((n % 256 : Nat) : Int)]
theorem fixT_size (n : Nat) : (fixT n).size = 4 := rfl
theorem nb_fixT (n : Nat) : nb (fixT n) = [n / 16777216 % 256, n / 65536 % 256, n / 256 % 256, n % 256] :=
  nb_bytes (l := [n / 16777216 % 256, n / 65536 % 256, n / 256 % 256, n % 256]) (by simp; omega)
theorem specFixed4 {k : Nat} (hk : 2 ^ 50 ≤ k) {n : Nat} (h1 : n < 4294967296) : spec_Fixed.f k (n : Int) 4 = some (fixT n, ()) := by
  have sz1 : ∀ x : Int, (bytesOf [x]).size = 1 := fun x => rfl
  have st : ∀ (q m : Nat) (t : ByteArray) (j : Nat), m < 4294967296 → j < 4 → t.size ≤ 100 → spec_Fixed.l0 k (q + 1) (m : Int) 4 t (j : Int) = spec_Fixed.l0 k q ((m / 256 : Nat) : Int) 4 (bytesOf [((m % 256 : Nat) : Int)] ++ t) ((j + 1 : Nat) : Int) := fun q m t j hm hj ht => by
    have wd : w64 (Int.tdiv (m : Int) 256) = ((m / 256 : Nat) : Int) := w64_eq (n := ((m / 256 : Nat) : Int)) (by omega) (by omega)
    have wm : IntKind.wrap .u8 (Int.tmod (m : Int) 256) = ((m % 256 : Nat) : Int) := wu8_ok (n := ((m % 256 : Nat) : Int)) (by omega) (by omega)
    have wj : w64 ((j : Int) + 1) = ((j + 1 : Nat) : Int) := by rw [w64_eq (by omega) (by omega)]; omega
    simp (disch := omega) only [spec_Fixed.l0, spec_Fixed.b0, decT, cond_true, wd, wm, wj]
    rw [cat_ok (by rw [sz1]; omega)]
  unfold spec_Fixed.f spec_Fixed.t
  rw [l1In_eq, Option.bind_some]
  simp only [show decide ((1 : Int) ≤ 4 ∧ (4 : Int) ≤ 7) = true by decide, Bool.not_true, cond_false, decF (show ¬ ((n : Int) < 0) by omega)]
  obtain ⟨q, hq⟩ : ∃ q, k = q + 5 := ⟨k - 5, by omega⟩
  refine (congrArg (fun z => spec_Fixed.l0 k z (n : Int) 4 ⟨#[]⟩ 0) hq).trans ?_
  refine (st (q + 4) n _ 0 h1 (by omega) (by decide)).trans ?_
  refine (st (q + 3) (n / 256) _ 1 (by omega) (by omega) (by rw [ByteArray.size_append, sz1]; decide)).trans ?_
  refine (st (q + 2) (n / 256 / 256) _ 2 (by omega) (by omega) (by rw [ByteArray.size_append, ByteArray.size_append, sz1, sz1]; decide)).trans ?_
  refine (st (q + 1) (n / 256 / 256 / 256) _ 3 (by omega) (by omega) (by rw [ByteArray.size_append, ByteArray.size_append, ByteArray.size_append, sz1, sz1, sz1]; decide)).trans ?_
  have c : ¬ ((((3 + 1 : Nat)) : Int) < 4) := by omega
  have c2 : ¬ (((n / 256 / 256 / 256 / 256 : Nat) : Int) > 0) := by omega
  simp only [spec_Fixed.l0, spec_Fixed.b0, decF c, decF c2, cond_false]
  unfold fixT
  congr 2
  rw [show n / 256 / 256 / 256 = n / 16777216 by omega, show n / 256 / 256 = n / 65536 by omega]
  apply ByteArray.ext
  simp [bytesOf, ByteArray.data_append]
theorem implFixed4 {k : Nat} (hk : 2 ^ 50 ≤ k) {n : Nat} (h1 : n < 4294967296) : impl_Fixed.f k (n : Int) 4 = some (fixT n, ()) := by
  have st : ∀ (q j p : Nat) (i' : Int) (xs : List Int), j ≤ 3 → p = 2 ^ (8 * j) → i' = (j : Int) - 1 → xs.length ≤ 100 → impl_Fixed.l0 k (q + 1) (n : Int) (j : Int) xs = impl_Fixed.l0 k q (n : Int) i' (xs ++ [((n / p % 256 : Nat) : Int)]) := fun q j p i' xs hj hp hi hx => by
    have e8 : w64 (8 * (j : Int)) = ((8 * j : Nat) : Int) := by rw [w64_eq (by omega) (by omega)]; omega
    have e1 : w64 ((j : Int) - 1) = i' := by rw [hi]; exact w64_eq (by omega) (by omega)
    have emin : min (8 * j) (IntKind.bits .i64) = 8 * j := by have : IntKind.bits .i64 = 64 := rfl; rw [this]; omega
    have ew : IntKind.wrap .u8 (Int.fdiv (n : Int) (2 ^ (8 * j))) = ((n / p % 256 : Nat) : Int) := by
      have e2 : ((2 : Int) ^ (8 * j)) = ((p : Nat) : Int) := by rw [hp, Int.natCast_pow]; rfl
      rw [e2, Int.fdiv_eq_ediv_of_nonneg _ (by omega), ← Int.natCast_ediv]
      generalize n / p = z
      unfold IntKind.wrap
      simp [IntKind.bits, IntKind.signed]
    simp (disch := first | omega | decide) only [impl_Fixed.l0, impl_Fixed.b0, decT, cond_true, e8, rm_ok, e1, toNat_ofNat, emin, ew]
    rw [decF (by omega), cond_false]
  unfold impl_Fixed.f impl_Fixed.t
  rw [in_eq, Option.bind_some]
  have c0 : ¬ (w64 (8 * 4) < 0) := by decide
  simp only [show decide ((1 : Int) ≤ 4 ∧ (4 : Int) ≤ 7) = true by decide, Bool.not_true, cond_false, decF c0, show w64 (w64 (1 * 2 ^ min (Int.toNat (w64 (8 * 4))) (IntKind.bits .i64)) - 1) = 4294967295 by decide, in_eq, Option.bind_some]
  rw [decT (show (0 : Int) ≤ (n : Int) ∧ (n : Int) ≤ 4294967295 by omega)]
  simp only [Bool.not_true, cond_false, show w64 ((4 : Int) - 1) = ((3 : Nat) : Int) by decide]
  obtain ⟨q, hq⟩ : ∃ q, k = q + 5 := ⟨k - 5, by omega⟩
  refine (congrArg (fun z => impl_Fixed.l0 k z (n : Int) ((3 : Nat) : Int) []) hq).trans ?_
  refine (st (q + 4) 3 16777216 ((2 : Nat) : Int) _ (by omega) (by decide) (by decide) (by decide)).trans ?_
  refine (st (q + 3) 2 65536 ((1 : Nat) : Int) _ (by omega) (by decide) (by decide) (by simp)).trans ?_
  refine (st (q + 2) 1 256 ((0 : Nat) : Int) _ (by omega) (by decide) (by decide) (by simp)).trans ?_
  refine (st (q + 1) 0 1 (-1) _ (by omega) (by decide) (by decide) (by simp)).trans ?_
  simp only [impl_Fixed.l0, impl_Fixed.b0, show decide ((-1 : Int) ≥ 0) = false by decide, cond_false, Nat.div_one]
  rfl
def fix4 (a : Int) : ByteArray := fixT a.toNat
theorem fix4_size (a : Int) : (fix4 a).size = 4 := rfl
theorem specFixed_eq {k : Nat} (hk : 2 ^ 50 ≤ k) {a : Int} (h0 : 0 ≤ a) (h1 : a ≤ 4294967295) : spec_Fixed.f k a 4 = some (fix4 a, ()) := by
  obtain ⟨n, rfl⟩ := Int.eq_ofNat_of_zero_le h0
  exact specFixed4 hk (by omega)
theorem implFixed_eq {k : Nat} (hk : 2 ^ 50 ≤ k) {a : Int} (h0 : 0 ≤ a) (h1 : a ≤ 4294967295) : impl_Fixed.f k a 4 = some (fix4 a, ()) := by
  obtain ⟨n, rfl⟩ := Int.eq_ofNat_of_zero_le h0
  exact implFixed4 hk (by omega)
/- ReadFixed, of four bytes. -/
theorem fx_cases (s : ByteArray) : (∃ x t, x < 4294967296 ∧ s = fixT x ++ t) ∨ s.size < 4 := by
  by_cases c : s.size < 4
  · exact .inr c
  · left
    have h0 := nb_drop (s := s) (i := 0) (by omega)
    have h1 := nb_drop (s := s) (i := 1) (by omega)
    have h2 := nb_drop (s := s) (i := 2) (by omega)
    have h3 := nb_drop (s := s) (i := 3) (by omega)
    have b0 := nb_getD_lt s 0
    have b1 := nb_getD_lt s 1
    have b2 := nb_getD_lt s 2
    have b3 := nb_getD_lt s 3
    rw [h1, h2, h3, List.drop_zero] at h0
    generalize (nb s).getD 0 0 = x0 at *
    generalize (nb s).getD 1 0 = x1 at *
    generalize (nb s).getD 2 0 = x2 at *
    generalize (nb s).getD 3 0 = x3 at *
    refine ⟨((x0 * 256 + x1) * 256 + x2) * 256 + x3, ByteArray.extract s 4 s.size, by omega, nb_inj ?_⟩
    rw [nb_app, nb_fixT, ext_tail, h0]
    simp only [List.cons_append, List.nil_append, List.drop_succ_cons, List.drop_zero, List.cons.injEq, and_true]
    refine ⟨?_, ?_, ?_, ?_⟩ <;> omega
theorem fx_at (x : Nat) (t : ByteArray) : nb (fixT x ++ t) = (x / 16777216 % 256) :: (x / 65536 % 256) :: (x / 256 % 256) :: (x % 256) :: nb t := by
  rw [nb_app, nb_fixT]; rfl
theorem fx_sz (x : Nat) (t : ByteArray) : (fixT x ++ t).size = 4 + t.size := by rw [ByteArray.size_append]; rfl
theorem specKeyOk_eq (k : Nat) (s : ByteArray) : spec_KeyOk.f k s = some (decide (1 ≤ (s.size : Int) ∧ (s.size : Int) ≤ 8), ()) := by
  unfold spec_KeyOk.f spec_KeyOk.t
  rw [l1In_eq]; rfl
theorem implKeyOk_eq (k : Nat) (s : ByteArray) : impl_KeyOk.f k s = some (decide (1 ≤ (s.size : Int) ∧ (s.size : Int) ≤ 8), ()) := by
  unfold impl_KeyOk.f impl_KeyOk.t
  rw [in_eq]; rfl
/- Records. -/
def recOk (a : Ty.den TRec) : Bool :=
  bif a.1 == 1 || a.1 == 4 then decide (1 ≤ (a.2.2.1.size : Int) ∧ (a.2.2.1.size : Int) ≤ 8) && (decide ((a.2.2.2.1.size : Int) ≤ 24) && ((a.2.2.2.2.1 == 0) && ((a.2.2.2.2.2.1 == 0) && decide (1 ≤ a.2.1 ∧ a.2.1 ≤ 1000000))))
  else bif a.1 == 2 then decide (1 ≤ (a.2.2.1.size : Int) ∧ (a.2.2.1.size : Int) ≤ 8) && (seq a.2.2.2.1 ⟨#[]⟩ && ((a.2.2.2.2.1 == 0) && ((a.2.2.2.2.2.1 == 0) && decide (1 ≤ a.2.1 ∧ a.2.1 ≤ 1000000))))
  else bif a.1 == 3 then seq a.2.2.1 ⟨#[]⟩ && (seq a.2.2.2.1 ⟨#[]⟩ && (decide (0 ≤ a.2.2.2.2.1 ∧ a.2.2.2.2.1 ≤ 8) && (decide (0 ≤ a.2.2.2.2.2.1 ∧ a.2.2.2.2.2.1 ≤ 4294967295) && decide (1 ≤ a.2.1 ∧ a.2.1 ≤ 1000000))))
  else bif a.1 == 5 then seq a.2.2.1 ⟨#[]⟩ && (seq a.2.2.2.1 ⟨#[]⟩ && (decide (0 ≤ a.2.2.2.2.1 ∧ a.2.2.2.2.1 ≤ 20) && (decide (0 ≤ a.2.2.2.2.2.1 ∧ a.2.2.2.2.2.1 ≤ 4294967295) && decide (0 ≤ a.2.1 ∧ a.2.1 ≤ 1000000))))
  else false
theorem seq_empty (s : ByteArray) : seq s ByteArray.empty = seq s ⟨#[]⟩ := rfl
theorem implRecOk_eq (k : Nat) (a : Ty.den TRec) : impl_RecOk.f k a = some (recOk a, ()) := by
  obtain ⟨ty, tx, key, tt, n, sm, u⟩ := a
  unfold impl_RecOk.f impl_RecOk.t recOk
  simp only [in_eq, implKeyOk_eq, Option.bind_some, seq_refl, seq_empty]
  change Int at ty tx n sm
  change ByteArray at key tt
  generalize decide (1 ≤ (key.size : Int) ∧ (key.size : Int) ≤ 8) = K
  generalize decide ((tt.size : Int) ≤ 24) = L
  generalize decide (1 ≤ tx ∧ tx ≤ 1000000) = T1
  generalize decide (0 ≤ tx ∧ tx ≤ 1000000) = T0
  generalize decide (0 ≤ n ∧ n ≤ 8) = N1
  generalize decide (0 ≤ n ∧ n ≤ 20) = N2
  generalize decide (0 ≤ sm ∧ sm ≤ 4294967295) = S
  generalize (n == 0) = Z1
  generalize (sm == 0) = Z2
  generalize seq key ⟨#[]⟩ = E1
  generalize seq tt ⟨#[]⟩ = E2
  by_cases h1 : ty = 1
  · subst h1; simp; cases K <;> cases L <;> cases T1 <;> cases Z1 <;> cases Z2 <;> rfl
  by_cases h4 : ty = 4
  · subst h4; simp; cases K <;> cases L <;> cases T1 <;> cases Z1 <;> cases Z2 <;> rfl
  by_cases h2 : ty = 2
  · subst h2; simp; cases K <;> cases E2 <;> cases T1 <;> cases Z1 <;> cases Z2 <;> rfl
  by_cases h3 : ty = 3
  · subst h3; simp; cases E1 <;> cases E2 <;> cases T1 <;> cases N1 <;> cases S <;> rfl
  by_cases h5 : ty = 5
  · subst h5; simp; cases E1 <;> cases E2 <;> cases T0 <;> cases N2 <;> cases S <;> rfl
  have b1 : (ty == 1) = false := beq_eq_false_iff_ne.2 h1
  have b2 : (ty == 2) = false := beq_eq_false_iff_ne.2 h2
  have b3 : (ty == 3) = false := beq_eq_false_iff_ne.2 h3
  have b4 : (ty == 4) = false := beq_eq_false_iff_ne.2 h4
  have b5 : (ty == 5) = false := beq_eq_false_iff_ne.2 h5
  have b6 : (ty != 5) = true := bne_iff_ne.2 h5
  simp only [b1, b2, b3, b4, b5, b6, Bool.or_false, cond_false, cond_true]
theorem specRecOk_eq (k : Nat) (a : Ty.den TRec) : spec_RecOk.f k a = some (recOk a, ()) := by
  obtain ⟨ty, tx, key, tt, n, sm, u⟩ := a
  unfold spec_RecOk.f spec_RecOk.t recOk
  simp only [l1In_eq, specKeyOk_eq, Option.bind_some]
  change Int at ty tx n sm
  change ByteArray at key tt
  have q : decide (1 ≤ tx ∧ tx ≤ 1000000) = (decide (0 ≤ tx ∧ tx ≤ 1000000) && !(tx == 0)) := by
    rw [Bool.eq_iff_iff]; simp; omega
  rw [q]
  generalize decide (1 ≤ (key.size : Int) ∧ (key.size : Int) ≤ 8) = K
  generalize decide ((tt.size : Int) ≤ 24) = L
  generalize decide (0 ≤ tx ∧ tx ≤ 1000000) = T0
  generalize (tx == 0) = T
  generalize decide (0 ≤ n ∧ n ≤ 8) = N1
  generalize decide (0 ≤ n ∧ n ≤ 20) = N2
  generalize decide (0 ≤ sm ∧ sm ≤ 4294967295) = S
  generalize (n == 0) = Z1
  generalize (sm == 0) = Z2
  generalize seq key ⟨#[]⟩ = E1
  generalize seq tt ⟨#[]⟩ = E2
  by_cases h1 : ty = 1
  · subst h1; simp; cases T0 <;> cases T <;> cases K <;> cases L <;> cases Z1 <;> cases Z2 <;> rfl
  by_cases h4 : ty = 4
  · subst h4; simp; cases T0 <;> cases T <;> cases K <;> cases L <;> cases Z1 <;> cases Z2 <;> rfl
  by_cases h2 : ty = 2
  · subst h2; simp; cases T0 <;> cases T <;> cases K <;> cases E2 <;> cases Z1 <;> cases Z2 <;> rfl
  by_cases h3 : ty = 3
  · subst h3; simp; cases T0 <;> cases T <;> cases E1 <;> cases E2 <;> cases N1 <;> cases S <;> rfl
  by_cases h5 : ty = 5
  · subst h5; simp; cases T0 <;> cases T <;> cases E1 <;> cases E2 <;> cases N2 <;> cases S <;> rfl
  have b1 : (ty == 1) = false := beq_eq_false_iff_ne.2 h1
  have b2 : (ty == 2) = false := beq_eq_false_iff_ne.2 h2
  have b3 : (ty == 3) = false := beq_eq_false_iff_ne.2 h3
  have b4 : (ty == 4) = false := beq_eq_false_iff_ne.2 h4
  have b5 : (ty == 5) = false := beq_eq_false_iff_ne.2 h5
  have b6 : (ty != 5) = true := bne_iff_ne.2 h5
  simp only [b1, b2, b3, b4, b5, b6, Bool.or_false, cond_false, cond_true]
  cases T0 <;> cases T <;> rfl
/- ShowRec. -/
def textB (s : ByteArray) : ByteArray := varB (s.size : Int) ++ s
theorem textB_size (s : ByteArray) : (textB s).size ≤ 7 + s.size := by
  unfold textB
  have := varB_size (s.size : Int)
  rw [ByteArray.size_append]
  omega
def showRec (a : Ty.den TRec) : ByteArray :=
  if recOk a = true then
    if a.1 = 1 ∨ a.1 = 4 then varB a.1 ++ (varB a.2.1 ++ (textB a.2.2.1 ++ textB a.2.2.2.1))
    else if a.1 = 2 then varB a.1 ++ (varB a.2.1 ++ textB a.2.2.1)
    else varB a.1 ++ (varB a.2.1 ++ (varB a.2.2.2.2.1 ++ fix4 a.2.2.2.2.2.1))
  else ⟨#[]⟩
theorem recOk_cases {a : Ty.den TRec} (h : recOk a = true) :
    ((a.1 = 1 ∨ a.1 = 4) ∧ 1 ≤ a.2.2.1.size ∧ a.2.2.1.size ≤ 8 ∧ a.2.2.2.1.size ≤ 24 ∧ a.2.2.2.2.1 = 0 ∧ a.2.2.2.2.2.1 = 0 ∧ 1 ≤ a.2.1 ∧ a.2.1 ≤ 1000000) ∨
    (a.1 = 2 ∧ 1 ≤ a.2.2.1.size ∧ a.2.2.1.size ≤ 8 ∧ a.2.2.2.1 = ⟨#[]⟩ ∧ a.2.2.2.2.1 = 0 ∧ a.2.2.2.2.2.1 = 0 ∧ 1 ≤ a.2.1 ∧ a.2.1 ≤ 1000000) ∨
    ((a.1 = 3 ∨ a.1 = 5) ∧ a.2.2.1 = ⟨#[]⟩ ∧ a.2.2.2.1 = ⟨#[]⟩ ∧ 0 ≤ a.2.2.2.2.1 ∧ a.2.2.2.2.1 ≤ 20 ∧ 0 ≤ a.2.2.2.2.2.1 ∧ a.2.2.2.2.2.1 ≤ 4294967295 ∧ 0 ≤ a.2.1 ∧ a.2.1 ≤ 1000000) := by
  obtain ⟨kd, bt, key, val, cn, sm, u⟩ := a
  change Int at kd bt cn sm
  change ByteArray at key val
  unfold recOk at h
  simp only [] at h ⊢
  by_cases c : kd = 1 ∨ kd = 4
  · have b : (kd == 1 || kd == 4) = true := by rcases c with c | c <;> rw [c] <;> rfl
    rw [b, cond_true] at h
    simp only [Bool.and_eq_true, decide_eq_true_eq, beq_iff_eq] at h
    exact .inl ⟨c, by omega, by omega, by omega, h.2.2.1, h.2.2.2.1, h.2.2.2.2⟩
  · have b1 : (kd == 1) = false := beq_eq_false_iff_ne.2 fun h => c (.inl h)
    have b4 : (kd == 4) = false := beq_eq_false_iff_ne.2 fun h => c (.inr h)
    simp only [b1, b4, Bool.or_false, cond_false] at h
    cases b2 : (kd == 2) with
    | true =>
      rw [b2, cond_true] at h
      simp only [Bool.and_eq_true, decide_eq_true_eq, beq_iff_eq, seq_iff] at h
      exact .inr (.inl ⟨eq_of_beq b2, by omega, by omega, h.2.1, h.2.2.1, h.2.2.2.1, h.2.2.2.2⟩)
    | false =>
      rw [b2, cond_false] at h
      cases b3 : (kd == 3) with
      | true =>
        rw [b3, cond_true] at h
        simp only [Bool.and_eq_true, decide_eq_true_eq, seq_iff] at h
        exact .inr (.inr ⟨.inl (eq_of_beq b3), h.1, h.2.1, h.2.2.1.1, Int.le_trans h.2.2.1.2 (by decide), h.2.2.2.1.1, h.2.2.2.1.2, Int.le_trans (by decide) h.2.2.2.2.1, h.2.2.2.2.2⟩)
      | false =>
        rw [b3, cond_false] at h
        cases b5 : (kd == 5) with
        | true =>
          rw [b5, cond_true] at h
          simp only [Bool.and_eq_true, decide_eq_true_eq, seq_iff] at h
          exact .inr (.inr ⟨.inr (eq_of_beq b5), h.1, h.2.1, h.2.2.1.1, h.2.2.1.2, h.2.2.2.1.1, h.2.2.2.1.2, h.2.2.2.2.1, h.2.2.2.2.2⟩)
        | false =>
          rw [b5, cond_false] at h
          cases h
theorem recOk_i {kd b cn sm : Int} {key val : ByteArray} (h : recOk (kd, (b, (key, (val, (cn, (sm, ())))))) = true) :
    ((kd = 1 ∨ kd = 4) ∧ 1 ≤ key.size ∧ key.size ≤ 8 ∧ val.size ≤ 24 ∧ cn = 0 ∧ sm = 0 ∧ 1 ≤ b ∧ b ≤ 1000000) ∨
    (kd = 2 ∧ 1 ≤ key.size ∧ key.size ≤ 8 ∧ val = ⟨#[]⟩ ∧ cn = 0 ∧ sm = 0 ∧ 1 ≤ b ∧ b ≤ 1000000) ∨
    ((kd = 3 ∨ kd = 5) ∧ key = ⟨#[]⟩ ∧ val = ⟨#[]⟩ ∧ 0 ≤ cn ∧ cn ≤ 20 ∧ 0 ≤ sm ∧ sm ≤ 4294967295 ∧ 0 ≤ b ∧ b ≤ 1000000) := recOk_cases h
theorem specShowRec_eq {k : Nat} (hk : 2 ^ 50 ≤ k) (a : Ty.den TRec) : spec_ShowRec.f k a = some (showRec a, ()) := by
  unfold spec_ShowRec.f spec_ShowRec.t showRec
  rw [specRecOk_eq, Option.bind_some]
  cases hr : recOk a with
  | false => rfl
  | true =>
    have v1 := varB_size a.1
    have v2 := varB_size a.2.1
    have v3 := varB_size (a.2.2.1.size : Int)
    have v4 := varB_size (a.2.2.2.1.size : Int)
    have v5 := varB_size a.2.2.2.2.1
    have v6 := fix4_size a.2.2.2.2.2.1
    simp only [Bool.not_true, cond_false, if_true, textB]
    rcases recOk_cases hr with ⟨c, h⟩ | ⟨c, h⟩ | ⟨c, h⟩
    · rw [if_pos c]
      rcases c with c | c
      · have b1 : (a.1 == 1) = true := by rw [c]; rfl
        simp (disch := first | omega | (simp only [ByteArray.size_append]; omega)) only [specVar_eq hk, Option.bind_some, b1, cond_true, cat_ok, app_assoc]
      · have b1 : (a.1 == 1) = false := by rw [c]; rfl
        have b4 : (a.1 == 4) = true := by rw [c]; rfl
        simp (disch := first | omega | (simp only [ByteArray.size_append]; omega)) only [specVar_eq hk, Option.bind_some, b1, b4, cond_true, cond_false, cat_ok, app_assoc]
    · have b1 : (a.1 == 1) = false := by rw [c]; rfl
      have b4 : (a.1 == 4) = false := by rw [c]; rfl
      have b2 : (a.1 == 2) = true := by rw [c]; rfl
      rw [if_neg (show ¬ (a.1 = 1 ∨ a.1 = 4) by rw [c]; decide), if_pos c]
      simp (disch := first | omega | (simp only [ByteArray.size_append]; omega)) only [specVar_eq hk, Option.bind_some, b1, b2, b4, cond_true, cond_false, cat_ok, app_assoc]
    · have b1 : (a.1 == 1) = false := by rcases c with c | c <;> rw [c] <;> rfl
      have b4 : (a.1 == 4) = false := by rcases c with c | c <;> rw [c] <;> rfl
      have b2 : (a.1 == 2) = false := by rcases c with c | c <;> rw [c] <;> rfl
      rw [if_neg (show ¬ (a.1 = 1 ∨ a.1 = 4) by rcases c with c | c <;> rw [c] <;> decide), if_neg (show ¬ a.1 = 2 by rcases c with c | c <;> rw [c] <;> decide)]
      obtain ⟨_, _, _, _, z1, z2, _⟩ := h
      simp (disch := first | assumption | omega | (simp only [ByteArray.size_append]; omega)) only [specVar_eq hk, specFixed_eq hk, Option.bind_some, b1, b2, b4, cond_true, cond_false, cat_ok, app_assoc]
theorem implVars2 {k : Nat} (hk : 2 ^ 50 ≤ k) (x y : Int) : impl_vars.f k [x, y] = some (varB x ++ varB y, ()) := by
  have v1 := varB_size x
  have v2 := varB_size y
  obtain ⟨q, hq⟩ : ∃ q, k = q + 3 := ⟨k - 3, by omega⟩
  refine (congrArg (fun z => impl_vars.l0 k z ⟨#[]⟩ [x, y] 2 0) hq).trans ?_
  rw [show impl_vars.l0 k (q + 3) ⟨#[]⟩ [x, y] 2 0 = (impl_Var.f k x).bind (fun r1 => cat ⟨#[]⟩ r1.1 (impl_vars.l0 k (q + 2) (⟨#[]⟩ ++ r1.1) [x, y] 2 1)) from rfl]
  rw [implVar_eq hk, Option.bind_some]
  simp only []
  rw [cat_ok (by rw [show (⟨#[]⟩ : ByteArray).size = 0 from rfl]; omega), app_nil]
  rw [show impl_vars.l0 k (q + 2) (varB x) [x, y] 2 1 = (impl_Var.f k y).bind (fun r1 => cat (varB x) r1.1 (impl_vars.l0 k (q + 1) (varB x ++ r1.1) [x, y] 2 2)) from rfl]
  rw [implVar_eq hk, Option.bind_some]
  simp only []
  rw [cat_ok (by omega)]
  rfl
theorem implTextOf_eq {k : Nat} (hk : 2 ^ 50 ≤ k) {s : ByteArray} (hs : s.size ≤ 1099511627776) : impl_textOf.f k s = some (textB s, ()) := by
  have := varB_size (s.size : Int)
  unfold impl_textOf.f impl_textOf.t textB
  simp (disch := omega) only [implVar_eq hk, Option.bind_some, cat_ok]
theorem implShowRec_eq {k : Nat} (hk : 2 ^ 50 ≤ k) (a : Ty.den TRec) : impl_ShowRec.f k a = some (showRec a, ()) := by
  unfold impl_ShowRec.f impl_ShowRec.t showRec
  rw [implRecOk_eq, Option.bind_some]
  cases hr : recOk a with
  | false => rfl
  | true =>
    have v1 := varB_size a.1
    have v2 := varB_size a.2.1
    have v3 := textB_size a.2.2.1
    have v4 := textB_size a.2.2.2.1
    have v5 := varB_size a.2.2.2.2.1
    have v6 := fix4_size a.2.2.2.2.2.1
    simp only [Bool.not_true, cond_false, if_true, implVars2 hk, Option.bind_some]
    rcases recOk_cases hr with ⟨c, h⟩ | ⟨c, h⟩ | ⟨c, h⟩
    · rw [if_pos c]
      rcases c with c | c
      · have b1 : (a.1 == 1) = true := by rw [c]; rfl
        simp (disch := first | omega | (simp only [ByteArray.size_append]; omega)) only [implTextOf_eq hk, Option.bind_some, b1, cond_true, cat_ok, app_assoc]
      · have b1 : (a.1 == 1) = false := by rw [c]; rfl
        have b4 : (a.1 == 4) = true := by rw [c]; rfl
        simp (disch := first | omega | (simp only [ByteArray.size_append]; omega)) only [implTextOf_eq hk, Option.bind_some, b1, b4, cond_true, cond_false, cat_ok, app_assoc]
    · have b1 : (a.1 == 1) = false := by rw [c]; rfl
      have b4 : (a.1 == 4) = false := by rw [c]; rfl
      have b2 : (a.1 == 2) = true := by rw [c]; rfl
      rw [if_neg (show ¬ (a.1 = 1 ∨ a.1 = 4) by rw [c]; decide), if_pos c]
      simp (disch := first | omega | (simp only [ByteArray.size_append]; omega)) only [implTextOf_eq hk, Option.bind_some, b1, b2, b4, cond_true, cond_false, cat_ok, app_assoc]
    · have b1 : (a.1 == 1) = false := by rcases c with c | c <;> rw [c] <;> rfl
      have b4 : (a.1 == 4) = false := by rcases c with c | c <;> rw [c] <;> rfl
      have b2 : (a.1 == 2) = false := by rcases c with c | c <;> rw [c] <;> rfl
      rw [if_neg (show ¬ (a.1 = 1 ∨ a.1 = 4) by rcases c with c | c <;> rw [c] <;> decide), if_neg (show ¬ a.1 = 2 by rcases c with c | c <;> rw [c] <;> decide)]
      obtain ⟨_, _, _, _, z1, z2, _⟩ := h
      simp (disch := first | assumption | omega | (simp only [ByteArray.size_append]; omega)) only [implVar_eq hk, implFixed_eq hk, Option.bind_some, b1, b2, b4, cond_true, cond_false, cat_ok, app_assoc]
theorem showRec_size (a : Ty.den TRec) : (showRec a).size ≤ 60 := by
  unfold showRec
  split
  · rename_i hr
    have v1 := varB_size a.1
    have v2 := varB_size a.2.1
    have v3 := textB_size a.2.2.1
    have v4 := textB_size a.2.2.2.1
    have v5 := varB_size a.2.2.2.2.1
    have v6 := fix4_size a.2.2.2.2.2.1
    rcases recOk_cases hr with ⟨c, h⟩ | ⟨c, h⟩ | ⟨c, h⟩
    · rw [if_pos c]
      simp only [ByteArray.size_append]; omega
    · rw [if_neg (show ¬ (a.1 = 1 ∨ a.1 = 4) by rw [c]; decide), if_pos c]
      simp only [ByteArray.size_append]; omega
    · rw [if_neg (show ¬ (a.1 = 1 ∨ a.1 = 4) by rcases c with c | c <;> rw [c] <;> decide), if_neg (show ¬ a.1 = 2 by rcases c with c | c <;> rw [c] <;> decide)]
      simp only [ByteArray.size_append]; omega
  · exact Nat.zero_le _
/- Frame and SumOf. -/
def showAll : List (Ty.den TRec) → ByteArray
  | [] => ⟨#[]⟩
  | a :: l => showRec a ++ showAll l
theorem showAll_size : ∀ l : List (Ty.den TRec), (showAll l).size ≤ 60 * l.length
  | [] => Nat.le_refl _
  | a :: l => by
    have h1 := showRec_size a
    have h2 := showAll_size l
    rw [showAll, ByteArray.size_append, List.length_cons]
    omega
def sumM (l : List (Ty.den TRec)) : Int := crcM (showAll l)
theorem sumM_in (l : List (Ty.den TRec)) : 0 ≤ sumM l ∧ sumM l ≤ 4294967295 := crcM_in _
theorem specSumOf_eq {k : Nat} (hk : 2 ^ 50 ≤ k) {l : List (Ty.den TRec)} (hl : l.length ≤ 1073741824) : spec_SumOf.f k l = some (sumM l, ()) := by
  refine (forL0 (L := fun n i s => spec_SumOf.l0 k n l s i) (R := fun l s => some (crcM (s ++ showAll l), ())) (Ty.dflt TRec) l (fun i s => (s.size : Int) ≤ 60 * i) (fun n s hs => ?_) (fun n i s x rest h0 h1 hx hr hp ih => ?_) (n := k) (s := ⟨#[]⟩) (by omega) (by decide)).trans (by rw [app_nil]; rfl)
  · simp (disch := omega) only [spec_SumOf.l0, spec_SumOf.b0, decF, cond_false, specCrc_eq hk, Option.bind_some, showAll, nil_app]
  · have hz := showRec_size x
    simp (disch := omega) only [spec_SumOf.l0, spec_SumOf.b0, decT, cond_true, inb_eq, hx, specShowRec_eq hk, Option.bind_some, cat_ok, w64_eq]
    rw [ih _ (by rw [ByteArray.size_append]; omega), showAll, app_assoc]
theorem implSumOf_eq {k : Nat} (hk : 2 ^ 50 ≤ k) {l : List (Ty.den TRec)} (hl : l.length ≤ 1073741824) : impl_SumOf.f k l = some (sumM l, ()) := by
  refine (forL0 (L := fun n i s => impl_SumOf.l0 k n s l l.length i) (R := fun l s => some (crcM (s ++ showAll l), ())) (Ty.dflt TRec) l (fun i s => (s.size : Int) ≤ 60 * i) (fun n s hs => ?_) (fun n i s x rest h0 h1 hx hr hp ih => ?_) (n := k) (s := ⟨#[]⟩) (by omega) (by decide)).trans (by rw [app_nil]; rfl)
  · simp (disch := omega) only [impl_SumOf.l0, impl_SumOf.b0, decF, cond_false, implCrc_eq hk, Option.bind_some, showAll, nil_app]
  · have hz := showRec_size x
    simp (disch := omega) only [impl_SumOf.l0, impl_SumOf.b0, decT, cond_true, inb_eq, hx, implShowRec_eq hk, Option.bind_some, cat_ok, w64_eq]
    rw [ih _ (by rw [ByteArray.size_append]; omega), showAll, app_assoc]
end Go.Proofs.Ytiigjojchlplpaa.G

/- M: ReadRec, Unframe, ScanRecs and RecAt: what they answer, in both readings. -/
import Derived.Test.YtgcahahklmfleaaGreatDoorMRec
set_option linter.unusedVariables false
set_option linter.unusedSimpArgs false
namespace Go.Proofs.YtgcahahklmfleaaGreatDoor.G
open Go.V
theorem sz_app (a b : ByteArray) : (a ++ b).size = a.size + b.size := ByteArray.size_append ..
theorem tail2 (a b t : ByteArray) : ByteArray.extract (a ++ (b ++ t)) (a.size + b.size) (a ++ (b ++ t)).size = t := by
  have := app_tail (a ++ b) t
  rw [sz_app, app_assoc] at this
  exact this
theorem mid (a b t : ByteArray) : ByteArray.extract (a ++ (b ++ t)) a.size (a.size + b.size) = b := nb_inj (by
  rw [nb_ext, nb_app, nb_app, List.take_append, List.take_of_length_le (by rw [nb_len]; omega), nb_len, show a.size + b.size - a.size = b.size by omega, List.drop_left' (nb_len a), List.take_left' (nb_len b)])
theorem head2 (a b t : ByteArray) : ByteArray.extract (a ++ (b ++ t)) 0 (a.size + b.size) = a ++ b := by
  have := app_head (a ++ b) t
  rw [sz_app, app_assoc] at this
  exact this
theorem cast_add (a b : Nat) : ((a : Int) + (b : Int)) = ((a + b : Nat) : Int) := rfl
/- The readings of a number ahead. -/
theorem implReadVar_ok {k : Nat} (hk : 2 ^ 50 ≤ k) {a : Nat} {t : ByteArray} (ha : a < 562949953421312) (hs : t.size ≤ 1099511627776) : impl_ReadVar.f k (varT a ++ t) = some ((a : Int), (((varT a).size : Int), ())) := by
  have := varT_size a
  rw [implReadVar_rv hk (by rw [sz_app]; omega), rv_app ha]; rfl
theorem implReadVar_bad {k : Nat} (hk : 2 ^ 50 ≤ k) {s : ByteArray} (h : rv 7 (nb s) = none) (hs : s.size ≤ 1099511627776) : impl_ReadVar.f k s = some (0, (0, ())) := by
  rw [implReadVar_rv hk (by omega), h]; rfl
theorem specReadVar_ok {k : Nat} (hk : 2 ^ 50 ≤ k) {a : Nat} {t : ByteArray} (ha : a < 562949953421312) : spec_ReadVar.f k (varT a ++ t) = some ((a : Int), (((varT a).size : Int), ())) := by
  rw [specReadVar_rv hk, rv_app ha]; rfl
theorem specReadVar_bad {k : Nat} (hk : 2 ^ 50 ≤ k) {s : ByteArray} (h : rv 7 (nb s) = none) : spec_ReadVar.f k s = some (0, (0, ())) := by
  rw [specReadVar_rv hk, h]; rfl
/- Scanner. -/
theorem num_ok {k : Nat} (hk : 2 ^ 50 ≤ k) {a : Nat} {t : ByteArray} (ha : a < 562949953421312) (hs : t.size ≤ 1099511627776) : impl_scanner__num.f k (varT a ++ t, (false, ())) = some ((t, (false, ())), ((a : Int), ())) := by
  have h1 := varT_size a
  unfold impl_scanner__num.f impl_scanner__num.t
  rw [implReadVar_ok hk ha hs, Option.bind_some]
  simp only [cond_false]
  rw [show (((varT a).size : Int) == 0) = false from beq_eq_false_iff_ne.2 (by omega), cond_false, inc_eq (by omega) (by rw [sz_app]; omega), toNat_ofNat, app_tail]
theorem num_bad {k : Nat} (hk : 2 ^ 50 ≤ k) {s : ByteArray} (h : rv 7 (nb s) = none) (hs : s.size ≤ 1099511627776) : impl_scanner__num.f k (s, (false, ())) = some ((s, (true, ())), (0, ())) := by
  unfold impl_scanner__num.f impl_scanner__num.t
  rw [implReadVar_bad hk h hs, Option.bind_some]
  rfl
theorem num_b {k : Nat} (hk : 2 ^ 50 ≤ k) {s : ByteArray} (hs : s.size ≤ 1099511627776) : impl_scanner__num.f k (s, (true, ())) = some ((s, (true, ())), (0, ())) := by
  unfold impl_scanner__num.f impl_scanner__num.t
  rw [implReadVar_rv hk (show s.size ≤ _ by omega), Option.bind_some]
  rfl
theorem bytes_ok (k : Nat) (u t : ByteArray) : impl_scanner__bytes.f k (u ++ t, (false, ())) (u.size : Int) = some ((t, (false, ())), (u, ())) := by
  unfold impl_scanner__bytes.f impl_scanner__bytes.t
  simp only [cond_false]
  rw [decF (by rw [sz_app]; omega), cond_false, inc_eq (by omega) (by rw [sz_app]; omega), inc_eq (by omega) (by rw [sz_app]; omega), toNat_ofNat, app_tail, app_head]
theorem bytes_bad (k : Nat) {s : ByteArray} {n : Int} (h : n > (s.size : Int)) : impl_scanner__bytes.f k (s, (false, ())) n = some ((s, (true, ())), (⟨#[]⟩, ())) := by
  unfold impl_scanner__bytes.f impl_scanner__bytes.t
  simp only [cond_false]
  rw [decT h, cond_true]
theorem bytes_b (k : Nat) (s : ByteArray) (n : Int) : impl_scanner__bytes.f k (s, (true, ())) n = some ((s, (true, ())), (⟨#[]⟩, ())) := by
  unfold impl_scanner__bytes.f impl_scanner__bytes.t
  rfl
/-- A text with its length ahead, or none. -/
theorem tx_cases (s : ByteArray) : (∃ u t, u.size < 562949953421312 ∧ s = varT u.size ++ (u ++ t)) ∨ rv 7 (nb s) = none ∨ (∃ a t, a < 562949953421312 ∧ s = varT a ++ t ∧ t.size < a) := by
  rcases rv_cases s with ⟨a, t, ha, rfl⟩ | h
  · by_cases c : t.size < a
    · exact .inr (.inr ⟨a, t, ha, rfl, c⟩)
    · have e := split_at t (n := a) (by omega)
      have hz : (ByteArray.extract t 0 a).size = a := by rw [← nb_len, nb_extract, List.length_take, nb_len]; omega
      exact .inl ⟨_, _, by rw [hz]; exact ha, by rw [hz, ← e]⟩
  · exact .inr (.inl h)
theorem text_ok {k : Nat} (hk : 2 ^ 50 ≤ k) {u t : ByteArray} (hu : u.size < 562949953421312) (hs : (u ++ t).size ≤ 1099511627776) : impl_scanner__text.f k (varT u.size ++ (u ++ t), (false, ())) = some ((t, (false, ())), (u, ())) := by
  unfold impl_scanner__text.f impl_scanner__text.t
  rw [num_ok hk hu hs, Option.bind_some]
  simp only []
  rw [bytes_ok, Option.bind_some]
theorem text_b {k : Nat} (hk : 2 ^ 50 ≤ k) {s : ByteArray} (hs : s.size ≤ 1099511627776) : impl_scanner__text.f k (s, (true, ())) = some ((s, (true, ())), (⟨#[]⟩, ())) := by
  unfold impl_scanner__text.f impl_scanner__text.t
  rw [num_b hk hs, Option.bind_some]
  simp only []
  rw [bytes_b, Option.bind_some]
theorem text_bad {k : Nat} (hk : 2 ^ 50 ≤ k) {s : ByteArray} (hs : s.size ≤ 1099511627776) (h : rv 7 (nb s) = none ∨ (∃ a t, a < 562949953421312 ∧ s = varT a ++ t ∧ t.size < a)) : ∃ s', s'.size ≤ 1099511627776 ∧ impl_scanner__text.f k (s, (false, ())) = some ((s', (true, ())), (⟨#[]⟩, ())) := by
  unfold impl_scanner__text.f impl_scanner__text.t
  rcases h with h | ⟨a, t, ha, rfl, ht⟩
  · refine ⟨s, hs, ?_⟩
    rw [num_bad hk h hs, Option.bind_some]
    simp only []
    rw [bytes_b, Option.bind_some]
  · have := varT_size a
    rw [sz_app] at hs
    refine ⟨t, by omega, ?_⟩
    rw [num_ok hk ha (by omega), Option.bind_some]
    simp only []
    rw [bytes_bad k (by omega), Option.bind_some]
theorem l5_ok {k : Nat} (hk : 2 ^ 50 ≤ k) {u t : ByteArray} (hu : u.size < 562949953421312) (hs : (u ++ t).size ≤ 1099511627776) : spec_l5Text.f k (varT u.size ++ (u ++ t)) = some (u, (t, (true, ()))) := by
  have h1 := varT_size u.size
  have h2 : (varT u.size ++ (u ++ t)).size = (varT u.size).size + (u.size + t.size) := by rw [sz_app, sz_app]
  rw [sz_app] at hs
  unfold spec_l5Text.f spec_l5Text.t
  rw [specReadVar_ok hk hu, Option.bind_some]
  simp only []
  rw [show (((varT u.size).size : Int) == 0) = false from beq_eq_false_iff_ne.2 (by omega), cond_false, w64_eq (by omega) (by omega), decF (by omega), cond_false, cast_add, w64_eq (by omega) (by omega),
    inc2_eq (by omega) (by omega) (by omega), inc_eq (by omega) (by omega), toNat_ofNat, toNat_ofNat, mid, tail2]
theorem l5_bad {k : Nat} (hk : 2 ^ 50 ≤ k) {s : ByteArray} (hs : s.size ≤ 1099511627776) (h : rv 7 (nb s) = none ∨ (∃ a t, a < 562949953421312 ∧ s = varT a ++ t ∧ t.size < a)) : spec_l5Text.f k s = some (⟨#[]⟩, (⟨#[]⟩, (false, ()))) := by
  unfold spec_l5Text.f spec_l5Text.t
  rcases h with h | ⟨a, t, ha, rfl, ht⟩
  · rw [specReadVar_bad hk h, Option.bind_some]; rfl
  · have := varT_size a
    rw [sz_app] at hs
    rw [specReadVar_ok hk ha, Option.bind_some]
    simp only []
    rw [show (((varT a).size : Int) == 0) = false from beq_eq_false_iff_ne.2 (by omega), cond_false, w64_eq (by rw [sz_app]; omega) (by rw [sz_app]; omega), decT (by rw [sz_app]; omega), cond_true]
/- What a reading is that is undone by writing. -/
section
open Classical
variable {α : Type}
noncomputable def undo (ok : α → Prop) (shw : α → ByteArray) (z : α) (s : ByteArray) : α × Bool := if h : ∃ r, ok r ∧ shw r = s then (h.choose, true) else (z, false)
theorem undo_ok {ok : α → Prop} {shw : α → ByteArray} {z : α} {s : ByteArray} {r : α} (h : undo ok shw z s = (r, true)) : ok r ∧ shw r = s := by
  unfold undo at h
  split at h
  · rename_i q
    obtain rfl := (Prod.mk.inj h).1
    exact q.choose_spec
  · cases (Prod.mk.inj h).2
theorem undo_no {ok : α → Prop} {shw : α → ByteArray} {z : α} {s : ByteArray} (h : (undo ok shw z s).2 = false) : undo ok shw z s = (z, false) := by
  unfold undo at h ⊢
  split
  · rename_i q; rw [dif_pos q] at h; cases h
  · rfl
theorem undo_cases (ok : α → Prop) (shw : α → ByteArray) (z : α) (s : ByteArray) : (∃ r, ok r ∧ shw r = s ∧ undo ok shw z s = (r, true)) ∨ undo ok shw z s = (z, false) := by
  cases h : (undo ok shw z s).2 with
  | false => exact .inr (undo_no h)
  | true =>
    have e : undo ok shw z s = ((undo ok shw z s).1, true) := by rw [← h]
    exact .inl ⟨_, (undo_ok e).1, (undo_ok e).2, e⟩
theorem undo_of {ok : α → Prop} {shw : α → ByteArray} {z : α} {s : ByteArray} {f : Option (α × Bool × Unit)} (h1 : ∀ r, ok r → shw r = s → f = some (r, (true, ())))
    (h2 : (∃ r, ok r ∧ shw r = s ∧ f = some (r, (true, ()))) ∨ f = some (z, (false, ()))) : f = some ((undo ok shw z s).1, ((undo ok shw z s).2, ())) := by
  rcases undo_cases ok shw z s with ⟨r, a, b, e⟩ | e
  · rw [e, h1 r a b]
  · rcases h2 with ⟨r, a, b, _⟩ | h2
    · unfold undo at e
      rw [dif_pos ⟨r, a, b⟩] at e
      cases (Prod.mk.inj e).2
    · rw [e, h2]
/-- What is written is read back, where no two are written alike. -/
theorem undo_eq {ok : α → Prop} {shw : α → ByteArray} {z : α} {r : α} (hi : ∀ a b, ok a → ok b → shw a = shw b → a = b) (h : ok r) : undo ok shw z (shw r) = (r, true) := by
  rcases undo_cases ok shw z (shw r) with ⟨q, a, b, e⟩ | e
  · rw [e, hi q r a h b]
  · unfold undo at e
    rw [dif_pos ⟨r, h, rfl⟩] at e
    cases (Prod.mk.inj e).2
end
abbrev zRec : Ty.den TRec := (0, (0, (ByteArray.empty, (ByteArray.empty, (0, (0, ()))))))
/-- How a record that is right is written. -/
theorem show_form {a : Ty.den TRec} (h : recOk a = true) :
    (∃ (b : Nat) (kd : Nat), (kd = 1 ∨ kd = 4) ∧ b ≤ 1000000 ∧ a = ((kd : Int), ((b : Int), (a.2.2.1, (a.2.2.2.1, (0, (0, ())))))) ∧ a.2.2.1.size ≤ 8 ∧ a.2.2.2.1.size ≤ 24 ∧
      showRec a = varT kd ++ (varT b ++ (varT a.2.2.1.size ++ (a.2.2.1 ++ (varT a.2.2.2.1.size ++ (a.2.2.2.1 ++ ⟨#[]⟩)))))) ∨
    (∃ (b : Nat), b ≤ 1000000 ∧ a = (2, ((b : Int), (a.2.2.1, (ByteArray.empty, (0, (0, ())))))) ∧ a.2.2.1.size ≤ 8 ∧ showRec a = varT 2 ++ (varT b ++ (varT a.2.2.1.size ++ (a.2.2.1 ++ ⟨#[]⟩)))) ∨
    (∃ (b kd c x : Nat), (kd = 3 ∨ kd = 5) ∧ b ≤ 1000000 ∧ c ≤ 20 ∧ x < 4294967296 ∧ a = ((kd : Int), ((b : Int), (ByteArray.empty, (ByteArray.empty, ((c : Int), ((x : Int), ())))))) ∧ showRec a = varT kd ++ (varT b ++ (varT c ++ (fixT x ++ ⟨#[]⟩)))) := by
  have hh := h
  obtain ⟨kd, b, key, val, c, x, u⟩ := a
  change Int at kd b c x
  change ByteArray at key val
  rcases recOk_i h with ⟨hc, h⟩ | ⟨hc, h⟩ | ⟨hc, h⟩
  · obtain ⟨z1, z2, z3, z4, z5, z6, z7⟩ := h
    subst z4; subst z5
    obtain ⟨b, rfl⟩ := Int.eq_ofNat_of_zero_le (show 0 ≤ b by omega)
    left
    refine ⟨b, kd.toNat, by omega, by omega, ?_, z2, z3, ?_⟩
    · rw [show ((kd.toNat : Nat) : Int) = kd by omega]
    · unfold showRec
      rw [if_pos hh, if_pos hc]
      simp only [textB]
      rw [varB_nat (by omega), varB_nat (by omega), varB_nat (by omega), nil_app, app_assoc, show varB kd = varT kd.toNat by rw [← varB_nat (show kd.toNat < 562949953421312 by omega)]; congr 1; omega]
  · obtain ⟨z1, z2, z3, z4, z5, z6, z7⟩ := h
    subst z3; subst z4; subst z5; subst hc
    obtain ⟨b, rfl⟩ := Int.eq_ofNat_of_zero_le (show 0 ≤ b by omega)
    right; left
    refine ⟨b, by omega, rfl, z2, ?_⟩
    unfold showRec
    rw [if_pos hh, if_neg (show ¬ ((2 : Int) = 1 ∨ (2 : Int) = 4) by decide), if_pos rfl]
    simp only [textB]
    rw [varB_nat (by omega), varB_nat (by omega), nil_app]
    rfl
  · obtain ⟨z1, z2, z3, z4, z5, z6, z7, z8⟩ := h
    subst z1; subst z2
    obtain ⟨b, rfl⟩ := Int.eq_ofNat_of_zero_le (show 0 ≤ b by omega)
    obtain ⟨c, rfl⟩ := Int.eq_ofNat_of_zero_le (show 0 ≤ c by omega)
    obtain ⟨x, rfl⟩ := Int.eq_ofNat_of_zero_le (show 0 ≤ x by omega)
    right; right
    refine ⟨b, kd.toNat, c, x, by omega, by omega, by omega, by omega, ?_, ?_⟩
    · rw [show ((kd.toNat : Nat) : Int) = kd by omega]; rfl
    · unfold showRec
      rw [if_pos hh, if_neg (show ¬ (kd = 1 ∨ kd = 4) by omega), if_neg (show ¬ kd = 2 by omega)]
      simp only []
      rw [varB_nat (by omega), varB_nat (by omega), nil_app, show varB kd = varT kd.toNat by rw [← varB_nat (show kd.toNat < 562949953421312 by omega)]; congr 1; omega]
      rfl
theorem showRec_pos {a : Ty.den TRec} (h : recOk a = true) : 1 ≤ (showRec a).size := by
  rcases show_form h with ⟨b, kd, _, _, _, _, _, e⟩ | ⟨b, _, _, _, e⟩ | ⟨b, kd, c, x, _, _, _, _, _, e⟩ <;> rw [e, sz_app]
  · have := varT_size kd; omega
  · have := varT_size 2; omega
  · have := varT_size kd; omega
theorem ok_of_show {a : Ty.den TRec} {s : ByteArray} (h : showRec a = s) (hs : s ≠ ⟨#[]⟩) : recOk a = true := by
  cases c : recOk a with
  | true => rfl
  | false => unfold showRec at h; rw [c] at h; exact absurd h.symm hs
theorem kb1 {kd : Nat} (h : kd ≠ 1) : ((kd : Int) == 1) = false := beq_eq_false_iff_ne.2 (by omega)
theorem kb2 {kd : Nat} (h : kd ≠ 2) : ((kd : Int) == 2) = false := beq_eq_false_iff_ne.2 (by omega)
theorem kb4 {kd : Nat} (h : kd ≠ 4) : ((kd : Int) == 4) = false := beq_eq_false_iff_ne.2 (by omega)
theorem k11 : (((1 : Nat) : Int) == 1) = true := rfl
theorem k41 : (((4 : Nat) : Int) == 1) = false := rfl
theorem k44 : (((4 : Nat) : Int) == 4) = true := rfl
theorem k42 : (((4 : Nat) : Int) == 2) = false := rfl
theorem k21 : (((2 : Nat) : Int) == 1) = false := rfl
theorem k22 : (((2 : Nat) : Int) == 2) = true := rfl
theorem k24 : (((2 : Nat) : Int) == 4) = false := rfl
theorem k01 : ((0 : Int) == 1) = false := rfl
theorem k04 : ((0 : Int) == 4) = false := rfl
theorem k02 : ((0 : Int) == 2) = false := rfl
theorem e0 : (⟨#[]⟩ : ByteArray).size = 0 := rfl
theorem show_mk1 {kd b : Nat} {key val : ByteArray} (hb : b < 562949953421312) (hc : kd = 1 ∨ kd = 4) (h : recOk ((kd : Int), ((b : Int), (key, (val, (0, (0, ())))))) = true) :
    showRec ((kd : Int), ((b : Int), (key, (val, (0, (0, ())))))) = varT kd ++ (varT b ++ (varT key.size ++ (key ++ (varT val.size ++ (val ++ ⟨#[]⟩))))) := by
  rcases recOk_i h with ⟨_, h1⟩ | ⟨h0, _⟩ | ⟨h0, _⟩
  · unfold showRec
    rw [if_pos h, if_pos (show ((kd : Int) = 1 ∨ (kd : Int) = 4) by omega)]
    simp only [textB]
    rw [varB_nat (by omega), varB_nat hb, varB_nat (by omega), varB_nat (by omega), nil_app, app_assoc]
  · omega
  · omega
theorem show_mk2 {b : Nat} {key : ByteArray} (hb : b < 562949953421312) (h : recOk (((2 : Nat) : Int), ((b : Int), (key, (ByteArray.empty, (0, (0, ())))))) = true) :
    showRec (((2 : Nat) : Int), ((b : Int), (key, (ByteArray.empty, (0, (0, ())))))) = varT 2 ++ (varT b ++ (varT key.size ++ (key ++ ⟨#[]⟩))) := by
  rcases recOk_i h with ⟨h0, _⟩ | ⟨_, h1⟩ | ⟨h0, _⟩
  · omega
  · unfold showRec
    rw [if_pos h, if_neg (show ¬ (((2 : Nat) : Int) = 1 ∨ ((2 : Nat) : Int) = 4) by decide), if_pos (show ((2 : Nat) : Int) = 2 from rfl)]
    simp only [textB]
    rw [varB_nat (by omega), varB_nat hb, varB_nat (by omega), nil_app]
  · omega
theorem show_mk3 {kd b c x : Nat} (hb : b < 562949953421312) (hx : c < 562949953421312) (hc : kd ≠ 1 ∧ kd ≠ 2 ∧ kd ≠ 4) (h : recOk ((kd : Int), ((b : Int), (ByteArray.empty, (ByteArray.empty, ((c : Int), ((x : Int), ())))))) = true) :
    showRec ((kd : Int), ((b : Int), (ByteArray.empty, (ByteArray.empty, ((c : Int), ((x : Int), ())))))) = varT kd ++ (varT b ++ (varT c ++ (fixT x ++ ⟨#[]⟩))) := by
  rcases recOk_i h with ⟨h0, _⟩ | ⟨h0, _⟩ | ⟨_, h1⟩
  · omega
  · omega
  · unfold showRec
    rw [if_pos h, if_neg (show ¬ ((kd : Int) = 1 ∨ (kd : Int) = 4) by omega), if_neg (show ¬ (kd : Int) = 2 by omega)]
    simp only []
    have hk5 : kd ≤ 5 := by omega
    rw [varB_nat (by omega), varB_nat hb, varB_nat hx, nil_app]
    rfl
theorem implReadRec_1 {k : Nat} (hk : 2 ^ 50 ≤ k) {a : Ty.den TRec} (h : recOk a = true) : impl_ReadRec.f k (showRec a) = some (a, (true, ())) := by
  unfold impl_ReadRec.f impl_ReadRec.t
  rcases show_form h with ⟨b, kd, hc, hb, ha, z1, z2, e⟩ | ⟨b, hb, ha, z1, e⟩ | ⟨b, kd, c, x, hc, hb, z1, z2, ha, e⟩
  · rw [e]
    rw [ha] at h
    conv => rhs; rw [ha]
    have v1 := varT_size kd
    have v2 := varT_size b
    have v3 := varT_size a.2.2.1.size
    have v4 := varT_size a.2.2.2.1.size
    rcases hc with rfl | rfl
    · simp (disch := first | omega | (simp only [sz_app, e0]; omega)) only [num_ok hk, text_ok hk, Option.bind_some, cond_true, cond_false, k11, seq_refl, Bool.not_true, implRecOk_eq, h]
    · simp (disch := first | omega | (simp only [sz_app, e0]; omega)) only [num_ok hk, text_ok hk, Option.bind_some, cond_true, cond_false, k41, k44, seq_refl, Bool.not_true, implRecOk_eq, h]
  · rw [e]
    rw [ha] at h
    conv => rhs; rw [ha]
    have v1 := varT_size 2
    have v2 := varT_size b
    have v3 := varT_size a.2.2.1.size
    simp (disch := first | omega | (simp only [sz_app, e0]; omega)) only [num_ok hk, text_ok hk, Option.bind_some, cond_true, cond_false, k21, k22, k24, seq_refl, Bool.not_true, implRecOk_eq]
    rw [show ((2 : Nat) : Int) = 2 from rfl, h]
    rfl
  · rw [e, ha]
    rw [ha] at h
    have v1 := varT_size kd
    have v2 := varT_size b
    have v3 := varT_size c
    have v4 := fixT_size x
    have hby := bytes_ok k (fixT x) ⟨#[]⟩
    rw [fixT_size] at hby
    have hrf := implReadFixed_ok hk z2 ⟨#[]⟩
    rw [nil_app] at hrf
    rw [show (((4 : Nat)) : Int) = 4 from rfl] at hby
    simp (disch := first | omega | (simp only [sz_app, e0]; omega)) only [num_ok hk, hby, hrf, Option.bind_some, cond_true, cond_false, kb1, kb2, kb4, seq_refl, Bool.not_true, implRecOk_eq, h]
theorem implReadRec_any {k : Nat} (hk : 2 ^ 50 ≤ k) {s : ByteArray} (hs : s.size ≤ 1099511627776) :
    (∃ r, recOk r = true ∧ showRec r = s ∧ impl_ReadRec.f k s = some (r, (true, ()))) ∨ impl_ReadRec.f k s = some (zRec, (false, ())) := by
  have rf0 := implReadFixed_bad k (s := ⟨#[]⟩) (by decide)
  unfold impl_ReadRec.f impl_ReadRec.t
  rcases rv_cases s with ⟨kd, t, hkd, rfl⟩ | h0
  case inr =>
    right
    simp (disch := first | omega | (simp only [sz_app, e0]; omega)) only [num_bad hk h0, num_b hk, bytes_b k, rf0, Option.bind_some, cond_true, cond_false, k01, k02, k04]
  have v1 := varT_size kd
  rw [sz_app] at hs
  rcases rv_cases t with ⟨b, t2, hb, rfl⟩ | h1
  case inr =>
    right
    by_cases c1 : kd = 1
    · subst c1
      simp (disch := first | omega | (simp only [sz_app, e0]; omega)) only [num_ok hk, num_bad hk h1, text_b hk, Option.bind_some, cond_true, cond_false, k11]
    by_cases c4 : kd = 4
    · subst c4
      simp (disch := first | omega | (simp only [sz_app, e0]; omega)) only [num_ok hk, num_bad hk h1, text_b hk, Option.bind_some, cond_true, cond_false, k41, k44]
    by_cases c2 : kd = 2
    · subst c2
      simp (disch := first | omega | (simp only [sz_app, e0]; omega)) only [num_ok hk, num_bad hk h1, text_b hk, Option.bind_some, cond_true, cond_false, k21, k24, k22]
    · simp (disch := first | omega | (simp only [sz_app, e0]; omega)) only [num_ok hk, num_bad hk h1, num_b hk, bytes_b k, rf0, Option.bind_some, cond_true, cond_false, kb1 c1, kb2 c2, kb4 c4]
  have v2 := varT_size b
  rw [sz_app] at hs
  by_cases c2 : kd = 2
  · subst c2
    rcases tx_cases t2 with ⟨key, t3, hu, rfl⟩ | bad
    case inr =>
      right
      obtain ⟨s', hs', e⟩ := text_bad hk (by omega) bad
      simp (disch := first | omega | (simp only [sz_app, e0]; omega)) only [num_ok hk, e, Option.bind_some, cond_true, cond_false, k21, k24, k22]
    have v3 := varT_size key.size
    simp only [sz_app] at hs
    simp (disch := first | omega | (simp only [sz_app, e0]; omega)) only [num_ok hk, text_ok hk, Option.bind_some, cond_true, cond_false, k21, k24, k22]
    by_cases c : t3 = ⟨#[]⟩
    · subst c
      simp only [seq_refl, Bool.not_true, cond_false, implRecOk_eq, Option.bind_some]
      cases hr : recOk (((2 : Nat) : Int), ((b : Int), (key, (ByteArray.empty, (0, (0, ())))))) with
      | true => exact .inl ⟨_, hr, show_mk2 hb hr, rfl⟩
      | false => exact .inr rfl
    · rw [seqF c]
      exact .inr rfl
  by_cases c1 : kd = 1 ∨ kd = 4
  · have hcc : (bif ((kd : Int) == 1) then true else ((kd : Int) == 4)) = true := by rcases c1 with rfl | rfl <;> rfl
    rcases tx_cases t2 with ⟨key, t3, hu, rfl⟩ | bad
    case inr =>
      right
      obtain ⟨s', hs', e⟩ := text_bad hk (by omega) bad
      rcases c1 with rfl | rfl
      · simp (disch := first | omega | (simp only [sz_app, e0]; omega)) only [num_ok hk, e, text_b hk hs', Option.bind_some, cond_true, cond_false, k11]
      · simp (disch := first | omega | (simp only [sz_app, e0]; omega)) only [num_ok hk, e, text_b hk hs', Option.bind_some, cond_true, cond_false, k41, k44]
    have v3 := varT_size key.size
    simp only [sz_app] at hs
    rcases tx_cases t3 with ⟨val, t4, hv, rfl⟩ | bad
    case inr =>
      right
      obtain ⟨s', hs', e⟩ := text_bad hk (by omega) bad
      rcases c1 with rfl | rfl
      · simp (disch := first | omega | (simp only [sz_app, e0]; omega)) only [num_ok hk, text_ok hk, e, Option.bind_some, cond_true, cond_false, k11]
      · simp (disch := first | omega | (simp only [sz_app, e0]; omega)) only [num_ok hk, text_ok hk, e, Option.bind_some, cond_true, cond_false, k41, k44]
    have v4 := varT_size val.size
    simp only [sz_app] at hs
    have fin : (bif !seq t4 ⟨#[]⟩ then some (zRec, (false, ())) else bif !recOk ((kd : Int), ((b : Int), (key, (val, (0, (0, ())))))) then some (zRec, (false, ())) else some (((kd : Int), ((b : Int), (key, (val, (0, (0, ())))))), (true, ()))) = impl_ReadRec.t k (varT kd ++ (varT b ++ (varT key.size ++ (key ++ (varT val.size ++ (val ++ t4)))))) := by
      unfold impl_ReadRec.t
      rcases c1 with rfl | rfl
      · simp (disch := first | omega | (simp only [sz_app, e0]; omega)) only [num_ok hk, text_ok hk, Option.bind_some, cond_true, cond_false, k11, implRecOk_eq]
      · simp (disch := first | omega | (simp only [sz_app, e0]; omega)) only [num_ok hk, text_ok hk, Option.bind_some, cond_true, cond_false, k41, k44, implRecOk_eq]
    change (∃ r, recOk r = true ∧ showRec r = _ ∧ impl_ReadRec.t k _ = some (r, (true, ()))) ∨ impl_ReadRec.t k _ = some (zRec, (false, ()))
    rw [← fin]
    by_cases c : t4 = ⟨#[]⟩
    · subst c
      simp only [seq_refl, Bool.not_true, cond_false]
      cases hr : recOk ((kd : Int), ((b : Int), (key, (val, (0, (0, ())))))) with
      | true => exact .inl ⟨_, hr, show_mk1 hb c1 hr, rfl⟩
      | false => exact .inr rfl
    · rw [seqF c]
      exact .inr rfl
  have d1 : kd ≠ 1 := fun q => c1 (.inl q)
  have d4 : kd ≠ 4 := fun q => c1 (.inr q)
  rcases rv_cases t2 with ⟨c, t3, hc, rfl⟩ | h2
  case inr =>
    right
    simp (disch := first | omega | (simp only [sz_app, e0]; omega)) only [num_ok hk, num_bad hk h2, bytes_b k, rf0, Option.bind_some, cond_true, cond_false, kb1 d1, kb2 c2, kb4 d4]
  have v3 := varT_size c
  rw [sz_app] at hs
  rcases fx_cases t3 with ⟨x, t4, hx, rfl⟩ | h3
  case inr =>
    right
    have e := bytes_bad k (s := t3) (n := 4) (by omega)
    simp (disch := first | omega | (simp only [sz_app, e0]; omega)) only [num_ok hk, e, rf0, Option.bind_some, cond_true, cond_false, kb1 d1, kb2 c2, kb4 d4]
  rw [fx_sz] at hs
  have hby := bytes_ok k (fixT x) t4
  rw [fixT_size, show (((4 : Nat)) : Int) = 4 from rfl] at hby
  have hrf := implReadFixed_ok hk hx ⟨#[]⟩
  rw [nil_app] at hrf
  simp (disch := first | omega | (simp only [sz_app, e0, fixT_size]; omega)) only [num_ok hk, hby, hrf, Option.bind_some, cond_false, kb1 d1, kb2 c2, kb4 d4, implRecOk_eq]
  by_cases cc : t4 = ⟨#[]⟩
  · subst cc
    simp only [seq_refl, Bool.not_true, cond_false]
    cases hr : recOk ((kd : Int), ((b : Int), (ByteArray.empty, (ByteArray.empty, ((c : Int), ((x : Int), ())))))) with
    | true => exact .inl ⟨_, hr, show_mk3 hb hc ⟨d1, c2, d4⟩ hr, rfl⟩
    | false => exact .inr rfl
  · rw [seqF cc]
    exact .inr rfl
end Go.Proofs.YtgcahahklmfleaaGreatDoor.G

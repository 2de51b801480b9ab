/- M: ReadDec: what it answers, in both readings. -/
import Derived.Test.YtgcahahklmfleaaGreatDoorMDisk
import Derived.Test.YtgcahahklmfleaaGreatDoorMScan
set_option linter.unusedVariables false
set_option linter.unusedSimpArgs false
namespace Go.V
def dOk (n : Int) : Prop := -999999999 ≤ n ∧ n ≤ 999999999
/-- What the digits of bytes spell, and how many they are. -/
def dg : List Nat → Nat → Nat → Nat × Nat
  | [], a, c => (a, c)
  | b :: l, a, c => if 48 ≤ b ∧ b ≤ 57 then dg l (a * 10 + (b - 48)) (c + 1) else dg l a c
theorem dg_digits : ∀ (l : List Nat) (a c : Nat), (∀ b ∈ l, 48 ≤ b ∧ b ≤ 57) → dg l a c = (spell l a, c + l.length)
  | [], a, c, _ => rfl
  | b :: l, a, c, h => by
    rw [dg, if_pos (h b (List.mem_cons_self ..)), dg_digits l _ _ fun x hx => h x (List.mem_cons_of_mem _ hx), spell, List.length_cons]
    congr 1
    omega
theorem dg_bound : ∀ (l : List Nat) (a c : Nat), a + 1 ≤ 10 ^ c → (dg l a c).1 + 1 ≤ 10 ^ (dg l a c).2
  | [], a, c, h => h
  | b :: l, a, c, h => by
    unfold dg
    split
    · rename_i q
      exact dg_bound l _ _ (by rw [Nat.pow_succ]; omega)
    · exact dg_bound l _ _ h
theorem digs_nat (u : Nat) : ∀ b ∈ (Lib.decDigits u).map UInt8.toNat, 48 ≤ b ∧ b ≤ 57 := by
  intro b hb
  obtain ⟨x, hx, rfl⟩ := List.mem_map.1 hb
  exact decDigits_digit u x hx
def sgn (s : ByteArray) (a : Nat) : Int := bif decide ((s.size : Int) > 0) && (byteAt s 0 == 45) then -(a : Int) else (a : Int)
theorem byte0 {s : ByteArray} (h : 0 < s.size) : byteAt s 0 = (((nb s).getD 0 0 : Nat) : Int) := nb_at (i := 0) h
theorem sgn_dec {n : Int} : sgn (decB n) n.natAbs = n := by
  have hb := nb_decB n
  have hl := nb_len (decB n)
  unfold sgn
  by_cases c : n < 0
  · rw [if_pos c] at hb
    rw [hb, List.length_cons] at hl
    rw [decT (by omega), byte0 (by omega), hb]
    show (bif true && (((45 : Nat) : Int) == 45) then _ else _) = n
    show -((n.natAbs : Nat) : Int) = n
    omega
  · rw [if_neg c] at hb
    have : (byteAt (decB n) 0 == 45) = false := by
      cases q : Lib.decDigits n.toNat with
      | nil => exact absurd q (decDigits_ne _)
      | cons x r =>
        have hx := decDigits_digit n.toNat x (by rw [q]; exact List.mem_cons_self ..)
        rw [q, List.map_cons] at hb
        rw [hb, List.length_cons] at hl
        rw [byte0 (by omega), hb]
        refine beq_eq_false_iff_ne.2 ?_
        show ((x.toNat : Nat) : Int) ≠ 45
        omega
    rw [this, Bool.and_false, cond_false]
    omega
theorem decB_10 {n : Int} (h : dOk n) : (decB n).size ≤ 10 := decB_size (by have := h.1; omega) (by have := h.2; omega)
theorem dg_dec {n : Int} (h : dOk n) : ∃ c, dg (nb (decB n)) 0 0 = (n.natAbs, c) ∧ c ≤ 9 := by
  obtain ⟨h0, h1⟩ := h
  rw [nb_decB]
  by_cases c : n < 0
  · rw [if_pos c]
    refine ⟨(Lib.decDigits n.natAbs).length, ?_, decDigits_len 8 _ (by rw [show (10 : Nat) ^ (8 + 1) = 1000000000 by decide]; omega)⟩
    rw [dg, if_neg (by omega), dg_digits _ _ _ (digs_nat _), spell_dec, List.length_map, Nat.zero_add]
  · rw [if_neg c]
    refine ⟨(Lib.decDigits n.toNat).length, ?_, decDigits_len 8 _ (by rw [show (10 : Nat) ^ (8 + 1) = 1000000000 by decide]; omega)⟩
    rw [dg_digits _ _ _ (digs_nat _), spell_dec, List.length_map, Nat.zero_add, show n.toNat = n.natAbs by omega]
theorem pow_le11 {c : Nat} (h : c ≤ 11) : 10 ^ c ≤ 100000000000 := Nat.le_trans (Nat.pow_le_pow_right (by decide) h) (by decide)
theorem pow_le9 {c : Nat} (h : c ≤ 9) : 10 ^ c ≤ 1000000000 := Nat.le_trans (Nat.pow_le_pow_right (by decide) h) (by decide)
end Go.V
namespace Go.Proofs.YtgcahahklmfleaaGreatDoor.G
open Go.V
noncomputable def readDecM (s : ByteArray) : Int × Bool := undo dOk decB 0 s
def finM (s : ByteArray) (q : Nat × Nat) : Option (Int × Bool × Unit) :=
  bif decide ((q.2 : Int) > 9) || (decide ((s.size : Int) > 10) || !seq (decB (sgn s q.1)) s) then some (0, (false, ())) else some (sgn s q.1, (true, ()))
theorem fin_eq {k : Nat} (hk : 2 ^ 50 ≤ k) (s : ByteArray) {q : Nat × Nat} (hq : q.1 ≤ 1000000000000) :
    (bif (decide ((ByteArray.size s : Int) > 0)) then (inb 0 (ByteArray.size s : Int) (bif ((byteAt s 0) == 45) then (bif (decide ((q.2 : Int) > 9)) then (some (0, (false, ()))) else (bif (decide ((ByteArray.size s : Int) > 10)) then (some (0, (false, ()))) else (Option.bind (spec_Dec.f k (w64 (0 - (q.1 : Int)))) fun r1 => (bif (!(seq r1.1 s)) then (some (0, (false, ()))) else (some ((w64 (0 - (q.1 : Int))), (true, ()))))))) else
      (bif (decide ((q.2 : Int) > 9)) then (some (0, (false, ()))) else (bif (decide ((ByteArray.size s : Int) > 10)) then (some (0, (false, ()))) else (Option.bind (spec_Dec.f k (q.1 : Int)) fun r2 => (bif (!(seq r2.1 s)) then (some (0, (false, ()))) else (some ((q.1 : Int), (true, ())))))))))
    else (bif (decide ((q.2 : Int) > 9)) then (some (0, (false, ()))) else (bif (decide ((ByteArray.size s : Int) > 10)) then (some (0, (false, ()))) else (Option.bind (spec_Dec.f k (q.1 : Int)) fun r3 => (bif (!(seq r3.1 s)) then (some (0, (false, ()))) else (some ((q.1 : Int), (true, ())))))))) = finM s q := by
  have hn : w64 (0 - (q.1 : Int)) = -(q.1 : Int) := by rw [w64_eq (by omega) (by omega)]; omega
  rw [hn, specDec_eq hk (n := (q.1 : Int)) (by omega) (by omega), specDec_eq hk (n := -(q.1 : Int)) (by omega) (by omega)]
  simp only [Option.bind_some]
  unfold finM sgn
  by_cases c0 : (s.size : Int) > 0
  · rw [decT c0, cond_true, inb_eq (by omega) (by omega), Bool.true_and]
    cases byteAt s 0 == 45 <;> cases decide ((q.2 : Int) > 9) <;> cases decide ((s.size : Int) > 10)
    all_goals simp only [cond_true, cond_false, Bool.true_or, Bool.false_or]
    all_goals first | rfl | (cases seq (decB (q.1 : Int)) s <;> rfl) | (cases seq (decB (-(q.1 : Int))) s <;> rfl)
  · rw [decF c0, cond_false, Bool.false_and, cond_false]
    cases decide ((q.2 : Int) > 9) <;> cases decide ((s.size : Int) > 10)
    all_goals simp only [cond_true, cond_false, Bool.true_or, Bool.false_or]
    all_goals first | rfl | (cases seq (decB (q.1 : Int)) s <;> rfl)
theorem specReadDec_fin {k : Nat} (hk : 2 ^ 50 ≤ k) {s : ByteArray} (hs : s.size ≤ 1099511627776) : spec_ReadDec.f k s = finM s (dg ((nb s).take 11) 0 0) := by
  unfold spec_ReadDec.f spec_ReadDec.t
  have hn := nb_len s
  have hl : ((nb s).take 11).length = min 11 s.size := by rw [List.length_take, hn]
  refine forL0 (L := fun n i (q : Nat × Nat) => spec_ReadDec.l0 k n s (q.1 : Int) (q.2 : Int) i) (R := fun r q => finM s (dg r q.1 q.2)) 0 ((nb s).take 11) (fun i q => q.1 + 1 ≤ 10 ^ q.2 ∧ (q.2 : Int) ≤ i) (fun n q hq => ?_) (fun n i q x rest h0 h1 hx hr hq ih => ?_) (n := k) (s := (0, 0)) (by omega) ⟨by decide, by decide⟩
  · obtain ⟨g1, g2⟩ := hq
    have hp := pow_le11 (c := q.2) (by omega)
    rw [show dg [] q.1 q.2 = q from rfl]
    refine Eq.trans ?_ (fin_eq hk s (q := q) (by omega))
    simp only [spec_ReadDec.l0, spec_ReadDec.b0]
    rcases Nat.lt_or_ge 11 s.size with c | c
    · rw [hl, Nat.min_eq_left (by omega), decT (show ((11 : Nat) : Int) < (s.size : Int) by omega), decF (show ¬ ((11 : Nat) : Int) < 11 by omega)]
      rfl
    · rw [hl, Nat.min_eq_right c, decF (show ¬ (s.size : Int) < (s.size : Int) by omega)]
      rfl
  · obtain ⟨g1, g2⟩ := hq
    have hp := pow_le11 (c := q.2) (by omega)
    rw [hl] at h1
    have hi : i < 11 := by omega
    have hsz : i < (s.size : Int) := by omega
    have hx' : (nb s).getD i.toNat 0 = x := by rw [← hx, getD_take (by omega)]
    have hb := nb_byte (s := s) (x := x) h0 (by rw [hn]; exact hsz) hx'
    have hx256 : x < 256 := by rw [← hx']; exact nb_getD_lt s _
    simp only [spec_ReadDec.l0, spec_ReadDec.b0]
    rw [decT hsz, decT hi, cond_true, cond_true, inb_eq h0 hsz, hb]
    have iN := ih q ⟨g1, by omega⟩
    by_cases c1 : 48 ≤ x
    · rw [decT (show (x : Int) ≥ 48 by omega), cond_true]
      by_cases c2 : x ≤ 57
      · rw [inb_eq h0 hsz, decT (show (x : Int) ≤ 57 by omega), cond_true, inb_eq h0 hsz]
        have iY := ih (q.1 * 10 + (x - 48), q.2 + 1) ⟨by rw [Nat.pow_succ]; omega, by simp only []; omega⟩
        rw [wu8_ok (n := (x : Int) - 48) (by omega) (by omega), w64_eq (n := (x : Int) - 48) (by omega) (by omega), w64_eq (n := (q.1 : Int) * 10) (by omega) (by omega), w64_eq (by omega) (by omega), w64_eq (n := (q.2 : Int) + 1) (by omega) (by omega), w64_eq (n := i + 1) (by omega) (by omega)]
        rw [show dg (x :: rest) q.1 q.2 = dg rest (q.1 * 10 + (x - 48)) (q.2 + 1) from if_pos ⟨c1, c2⟩]
        rw [show (q.1 : Int) * 10 + ((x : Int) - 48) = ((q.1 * 10 + (x - 48) : Nat) : Int) by omega, show (q.2 : Int) + 1 = ((q.2 + 1 : Nat) : Int) by omega]
        exact iY
      · rw [inb_eq h0 hsz, decF (show ¬ (x : Int) ≤ 57 by omega), cond_false, w64_eq (n := i + 1) (by omega) (by omega), show dg (x :: rest) q.1 q.2 = dg rest q.1 q.2 from if_neg (fun h => c2 h.2)]
        exact iN
    · rw [decF (show ¬ (x : Int) ≥ 48 by omega), cond_false, w64_eq (n := i + 1) (by omega) (by omega), show dg (x :: rest) q.1 q.2 = dg rest q.1 q.2 from if_neg (fun h => c1 h.1)]
      exact iN
theorem specReadDec_eq {k : Nat} (hk : 2 ^ 50 ≤ k) {s : ByteArray} (hs : s.size ≤ 1099511627776) : spec_ReadDec.f k s = some ((readDecM s).1, ((readDecM s).2, ())) := by
  rw [specReadDec_fin hk hs]
  refine undo_of (fun n h1 h2 => ?_) ?_
  · subst h2
    have hz := decB_10 h1
    obtain ⟨c, e, hc⟩ := dg_dec h1
    rw [List.take_of_length_le (by rw [nb_len]; omega), e]
    unfold finM
    simp only []
    rw [decF (by omega), decF (by omega), sgn_dec, seq_refl]
    rfl
  · have hb := dg_bound ((nb s).take 11) 0 0 (by decide)
    generalize dg ((nb s).take 11) 0 0 = q at hb
    unfold finM
    by_cases c : q.2 ≤ 9
    · have hp := pow_le9 c
      cases e : (decide ((q.2 : Int) > 9) || (decide ((s.size : Int) > 10) || !seq (decB (sgn s q.1)) s)) with
      | true => exact .inr rfl
      | false =>
        simp only [Bool.or_eq_false_iff, Bool.not_eq_false'] at e
        refine .inl ⟨sgn s q.1, ?_, seq_iff.1 e.2.2, rfl⟩
        unfold sgn dOk
        cases decide ((s.size : Int) > 0) && (byteAt s 0 == 45)
        · rw [cond_false]; omega
        · rw [cond_true]; omega
    · rw [decT (show (q.2 : Int) > 9 by omega)]
      exact .inr rfl
theorem implReadDec_eq (k : Nat) {s : ByteArray} (hs : s.size ≤ 281474976710656) : impl_ReadDec.f k s = some ((readDecM s).1, ((readDecM s).2, ())) := by
  unfold impl_ReadDec.f
  rw [decT hs, cond_true]
  refine undo_of (fun n h1 h2 => ?_) ?_
  · obtain ⟨g0, g1⟩ := h1
    have he : s.data.toList = Go.Lib.itoa n := by rw [← h2]; unfold decB; rw [List.toList_toArray]
    rw [he, atoi_dec (by omega) (by omega)]
    unfold impl_ReadDec.r
    simp only []
    rw [show seq ⟨(Go.Lib.itoa n).toArray⟩ s = true from seq_iff.2 h2, decT ⟨g0, g1⟩]
    rfl
  · cases Go.Lib.atoiAll s.data.toList with
    | ok v =>
      unfold impl_ReadDec.r
      simp only []
      cases e : seq ⟨(Go.Lib.itoa v).toArray⟩ s && decide (-999999999 ≤ v ∧ v ≤ 999999999) with
      | false => exact .inr rfl
      | true =>
        rw [Bool.and_eq_true, decide_eq_true_eq] at e
        exact .inl ⟨v, e.2, seq_iff.1 e.1, rfl⟩
    | _ => exact .inr rfl
theorem readDec_dec {n : Int} (h : dOk n) : readDecM (decB n) = (n, true) := undo_eq (fun _ _ _ _ e => decB_inj e) h
end Go.Proofs.YtgcahahklmfleaaGreatDoor.G

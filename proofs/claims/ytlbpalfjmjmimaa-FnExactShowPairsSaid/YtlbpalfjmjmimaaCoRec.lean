/- Plain laws of PairsOk, RecOk, ShowRec, Frame and SumOf: both readings answer alike. -/
import Derived.Test.YtlbpalfjmjmimaaCoBase
set_option linter.unusedVariables false
set_option linter.unusedSimpArgs false
namespace Go.Proofs.Ytlbpalfjmjmimaa.G
open Go.V
theorem l1In_eq (k : Nat) (a b c : Int) : spec_l1In.f k a b c = some (decide (b ≤ a ∧ a ≤ c), ()) := by
  unfold spec_l1In.f spec_l1In.t
  by_cases h : b ≤ a <;> simp [h]
theorem in_eq (k : Nat) (a b c : Int) : impl_in.f k a b c = some (decide (b ≤ a ∧ a ≤ c), ()) := by
  unfold impl_in.f impl_in.t
  by_cases h : b ≤ a <;> simp [h]
theorem specKeyOk_eq (k : Nat) (s : ByteArray) : spec_KeyOk.f k s = some (decide (1 ≤ (s.size : Int) ∧ (s.size : Int) ≤ 8), ()) := by
  unfold spec_KeyOk.f spec_KeyOk.t
  rw [l1In_eq]; rfl
theorem implKeyOk_eq (k : Nat) (s : ByteArray) : impl_KeyOk.f k s = some (decide (1 ≤ (s.size : Int) ∧ (s.size : Int) ≤ 8), ()) := by
  unfold impl_KeyOk.f impl_KeyOk.t
  rw [in_eq]; rfl
def pOk (x : TPair.den) : Bool := decide (1 ≤ (x.1.size : Int) ∧ (x.1.size : Int) ≤ 8) && !decide ((x.2.1.size : Int) > 24) && decide (1 ≤ x.2.2.1 ∧ x.2.2.1 ≤ 1000000)
def pairsFrom (l : List TPair.den) : Nat → Nat → Bool
  | 0, _ => true
  | d + 1, i => pOk (l.getD i (Ty.dflt TPair)) && (!decide (0 < i) || sls (l.getD (i - 1) (Ty.dflt TPair)).1 (l.getD i (Ty.dflt TPair)).1) && pairsFrom l d (i + 1)

theorem specPairs_ev {l : List TPair.den} (hl : l.length ≤ 1048576) : ∀ (d i : Nat), l.length - i = d → i ≤ l.length → Ev2 (fun k n => spec_PairsOk.l0 k n l (i : Int)) (pairsFrom l d i, ())
  | 0, i, hd, hi => by
    refine Ev2.step (b := fun k n => spec_PairsOk.b0 k (spec_PairsOk.l0 k n) l i) (fun k n => rfl) (Ev2.of fun k n => ?_)
    have : ¬ ((i : Int) < (List.length l : Int)) := by omega
    unfold spec_PairsOk.b0
    rw [decide_eq_false this, cond_false]
    rfl
  | d + 1, i, hd, hi => by
    refine Ev2.step (b := fun k n => spec_PairsOk.b0 k (spec_PairsOk.l0 k n) l i) (fun k n => rfl) ?_
    have h2 : ((i : Int) < (List.length l : Int)) := by omega
    have hw : w64 ((i : Int) + 1) = ((i + 1 : Nat) : Int) := by rw [w64_eq (by omega) (by omega)]; rfl
    have ih := specPairs_ev hl d (i + 1) (by omega) (by omega)
    unfold spec_PairsOk.b0
    simp only [decide_eq_true h2, cond_true, inb_eq (Int.natCast_nonneg i) h2, toNat_ofNat, specKeyOk_eq, l1In_eq, Option.bind_some, hw, pairsFrom, pOk]
    generalize l.getD i (Ty.dflt TPair) = x
    generalize decide (1 ≤ (x.1.size : Int) ∧ (x.1.size : Int) ≤ 8) = c1
    generalize decide ((x.2.1.size : Int) > 24) = c2
    generalize decide (1 ≤ x.2.2.1 ∧ x.2.2.1 ≤ 1000000) = c3
    cases c1 <;> cases c2 <;> cases c3 <;> simp only [Bool.not_true, Bool.not_false, cond_true, cond_false, Bool.false_and, Bool.and_false, Bool.true_and, Bool.and_true] <;> try exact Ev2.of fun _ _ => rfl
    by_cases hp : (i : Int) > 0
    · have hp' : 0 < i := by omega
      have hw1 : w64 ((i : Int) - 1) = ((i - 1 : Nat) : Int) := by rw [w64_eq (by omega) (by omega)]; omega
      simp only [decide_eq_true hp, decide_eq_true hp', cond_true, hw1, inb_eq (Int.natCast_nonneg (i - 1)) (show ((i - 1 : Nat) : Int) < (l.length : Int) by omega), toNat_ofNat, sls_total, Bool.not_true, Bool.false_or]
      cases sls (l.getD (i - 1) (Ty.dflt TPair)).1 x.1 with
      | false => exact Ev2.of fun _ _ => rfl
      | true => simpa using ih
    · have hp' : ¬ 0 < i := by omega
      simp only [decide_eq_false hp, decide_eq_false hp', cond_false, Bool.not_false, Bool.true_or, Bool.true_and]
      exact ih
theorem implPairs_ev {l : List TPair.den} (hl : l.length ≤ 1048576) : ∀ (d i : Nat), l.length - i = d → i ≤ l.length → Ev2 (fun k n => impl_PairsOk.l0 k n l l (l.length : Int) (i : Int)) (pairsFrom l d i && decide ((l.length : Int) ≤ 20), ())
  | 0, i, hd, hi => by
    refine Ev2.step (b := fun k n => impl_PairsOk.b0 k (impl_PairsOk.l0 k n) l l (l.length : Int) i) (fun k n => rfl) (Ev2.of fun k n => ?_)
    have : ¬ ((i : Int) < (List.length l : Int)) := by omega
    unfold impl_PairsOk.b0
    rw [decide_eq_false this, cond_false]
    rfl
  | d + 1, i, hd, hi => by
    refine Ev2.step (b := fun k n => impl_PairsOk.b0 k (impl_PairsOk.l0 k n) l l (l.length : Int) i) (fun k n => rfl) ?_
    have h2 : ((i : Int) < (List.length l : Int)) := by omega
    have hw : w64 ((i : Int) + 1) = ((i + 1 : Nat) : Int) := by rw [w64_eq (by omega) (by omega)]; rfl
    have ih := implPairs_ev hl d (i + 1) (by omega) (by omega)
    unfold impl_PairsOk.b0
    simp only [decide_eq_true h2, cond_true, inb_eq (Int.natCast_nonneg i) h2, toNat_ofNat, implKeyOk_eq, in_eq, Option.bind_some, hw, pairsFrom, pOk]
    generalize l.getD i (Ty.dflt TPair) = x
    generalize decide (1 ≤ (x.1.size : Int) ∧ (x.1.size : Int) ≤ 8) = c1
    generalize decide ((x.2.1.size : Int) > 24) = c2
    generalize decide (1 ≤ x.2.2.1 ∧ x.2.2.1 ≤ 1000000) = c3
    cases c1 <;> cases c2 <;> cases c3 <;> simp only [Bool.not_true, Bool.not_false, cond_true, cond_false, Bool.false_and, Bool.and_false, Bool.true_and, Bool.and_true] <;> try exact Ev2.of fun _ _ => rfl
    by_cases hp : (i : Int) > 0
    · have hp' : 0 < i := by omega
      have hw1 : w64 ((i : Int) - 1) = ((i - 1 : Nat) : Int) := by rw [w64_eq (by omega) (by omega)]; omega
      simp only [decide_eq_true hp, decide_eq_true hp', cond_true, hw1, inb_eq (Int.natCast_nonneg (i - 1)) (show ((i - 1 : Nat) : Int) < (l.length : Int) by omega), toNat_ofNat, Bool.not_true, Bool.false_or]
      cases sls (l.getD (i - 1) (Ty.dflt TPair)).1 x.1 with
      | false => exact Ev2.of fun _ _ => rfl
      | true => simpa using ih
    · have hp' : ¬ 0 < i := by omega
      simp only [decide_eq_false hp, decide_eq_false hp', cond_false, Bool.not_false, Bool.true_or, Bool.true_and]
      exact ih
theorem specPairsOk_ev {l : List TPair.den} (hl : l.length ≤ 1048576) : Ev (fun k => spec_PairsOk.f k l) (pairsFrom l l.length 0 && decide ((l.length : Int) ≤ 20), ()) := by
  by_cases c : (l.length : Int) > 20
  · refine Ev.of fun k => ?_
    unfold spec_PairsOk.f spec_PairsOk.t
    rw [decide_eq_true c, cond_true, decide_eq_false (by omega), Bool.and_false]
  · refine Ev.eq (specPairs_ev hl l.length 0 (by omega) (by omega)).diag (fun k => ?_) |> (fun h => (by rw [decide_eq_true (show (l.length : Int) ≤ 20 by omega), Bool.and_true]; exact h))
    unfold spec_PairsOk.f spec_PairsOk.t
    rw [decide_eq_false c, cond_false]
    rfl
theorem implPairsOk_ev {l : List TPair.den} (hl : l.length ≤ 1048576) : Ev (fun k => impl_PairsOk.f k l) (pairsFrom l l.length 0 && decide ((l.length : Int) ≤ 20), ()) :=
  (implPairs_ev hl l.length 0 (by omega) (by omega)).diag


/- Records. -/
def recOk (a : Ty.den TRec) : Bool :=
  bif a.1 == 1 || a.1 == 4 then decide (1 ≤ (a.2.2.1.size : Int) ∧ (a.2.2.1.size : Int) ≤ 8) && (decide ((a.2.2.2.1.size : Int) ≤ 24) && ((a.2.2.2.2.1 == 0) && ((a.2.2.2.2.2.1 == 0) && decide (1 ≤ a.2.1 ∧ a.2.1 ≤ 1000000))))
  else bif a.1 == 2 then decide (1 ≤ (a.2.2.1.size : Int) ∧ (a.2.2.1.size : Int) ≤ 8) && (seq a.2.2.2.1 ⟨#[]⟩ && ((a.2.2.2.2.1 == 0) && ((a.2.2.2.2.2.1 == 0) && decide (1 ≤ a.2.1 ∧ a.2.1 ≤ 1000000))))
  else bif a.1 == 3 then seq a.2.2.1 ⟨#[]⟩ && (seq a.2.2.2.1 ⟨#[]⟩ && (decide (0 ≤ a.2.2.2.2.1 ∧ a.2.2.2.2.1 ≤ 8) && (decide (0 ≤ a.2.2.2.2.2.1 ∧ a.2.2.2.2.2.1 ≤ 4294967295) && decide (1 ≤ a.2.1 ∧ a.2.1 ≤ 1000000))))
  else bif a.1 == 5 then seq a.2.2.1 ⟨#[]⟩ && (seq a.2.2.2.1 ⟨#[]⟩ && (decide (0 ≤ a.2.2.2.2.1 ∧ a.2.2.2.2.1 ≤ 20) && (decide (0 ≤ a.2.2.2.2.2.1 ∧ a.2.2.2.2.2.1 ≤ 4294967295) && decide (0 ≤ a.2.1 ∧ a.2.1 ≤ 1000000))))
  else false
theorem seq_empty (s : ByteArray) : seq s ByteArray.empty = seq s ⟨#[]⟩ := rfl
theorem implRecOk_eq (k : Nat) (a : Ty.den TRec) : impl_RecOk.f k a = some (recOk a, ()) := by
  obtain ⟨ty, tx, key, tt, n, sm, u⟩ := a
  unfold impl_RecOk.f impl_RecOk.t recOk
  simp only [in_eq, implKeyOk_eq, Option.bind_some, seq_refl, seq_empty]
  change Int at ty tx n sm
  change ByteArray at key tt
  generalize decide (1 ≤ (key.size : Int) ∧ (key.size : Int) ≤ 8) = K
  generalize decide ((tt.size : Int) ≤ 24) = L
  generalize decide (1 ≤ tx ∧ tx ≤ 1000000) = T1
  generalize decide (0 ≤ tx ∧ tx ≤ 1000000) = T0
  generalize decide (0 ≤ n ∧ n ≤ 8) = N1
  generalize decide (0 ≤ n ∧ n ≤ 20) = N2
  generalize decide (0 ≤ sm ∧ sm ≤ 4294967295) = S
  generalize (n == 0) = Z1
  generalize (sm == 0) = Z2
  generalize seq key ⟨#[]⟩ = E1
  generalize seq tt ⟨#[]⟩ = E2
  by_cases h1 : ty = 1
  · subst h1; simp; cases K <;> cases L <;> cases T1 <;> cases Z1 <;> cases Z2 <;> rfl
  by_cases h4 : ty = 4
  · subst h4; simp; cases K <;> cases L <;> cases T1 <;> cases Z1 <;> cases Z2 <;> rfl
  by_cases h2 : ty = 2
  · subst h2; simp; cases K <;> cases E2 <;> cases T1 <;> cases Z1 <;> cases Z2 <;> rfl
  by_cases h3 : ty = 3
  · subst h3; simp; cases E1 <;> cases E2 <;> cases T1 <;> cases N1 <;> cases S <;> rfl
  by_cases h5 : ty = 5
  · subst h5; simp; cases E1 <;> cases E2 <;> cases T0 <;> cases N2 <;> cases S <;> rfl
  have b1 : (ty == 1) = false := beq_eq_false_iff_ne.2 h1
  have b2 : (ty == 2) = false := beq_eq_false_iff_ne.2 h2
  have b3 : (ty == 3) = false := beq_eq_false_iff_ne.2 h3
  have b4 : (ty == 4) = false := beq_eq_false_iff_ne.2 h4
  have b5 : (ty == 5) = false := beq_eq_false_iff_ne.2 h5
  have b6 : (ty != 5) = true := bne_iff_ne.2 h5
  simp only [b1, b2, b3, b4, b5, b6, Bool.or_false, cond_false, cond_true]
theorem specRecOk_eq (k : Nat) (a : Ty.den TRec) : spec_RecOk.f k a = some (recOk a, ()) := by
  obtain ⟨ty, tx, key, tt, n, sm, u⟩ := a
  unfold spec_RecOk.f spec_RecOk.t recOk
  simp only [l1In_eq, specKeyOk_eq, Option.bind_some]
  change Int at ty tx n sm
  change ByteArray at key tt
  have q : decide (1 ≤ tx ∧ tx ≤ 1000000) = (decide (0 ≤ tx ∧ tx ≤ 1000000) && !(tx == 0)) := by
    rw [Bool.eq_iff_iff]; simp; omega
  rw [q]
  generalize decide (1 ≤ (key.size : Int) ∧ (key.size : Int) ≤ 8) = K
  generalize decide ((tt.size : Int) ≤ 24) = L
  generalize decide (0 ≤ tx ∧ tx ≤ 1000000) = T0
  generalize (tx == 0) = T
  generalize decide (0 ≤ n ∧ n ≤ 8) = N1
  generalize decide (0 ≤ n ∧ n ≤ 20) = N2
  generalize decide (0 ≤ sm ∧ sm ≤ 4294967295) = S
  generalize (n == 0) = Z1
  generalize (sm == 0) = Z2
  generalize seq key ⟨#[]⟩ = E1
  generalize seq tt ⟨#[]⟩ = E2
  by_cases h1 : ty = 1
  · subst h1; simp; cases T0 <;> cases T <;> cases K <;> cases L <;> cases Z1 <;> cases Z2 <;> rfl
  by_cases h4 : ty = 4
  · subst h4; simp; cases T0 <;> cases T <;> cases K <;> cases L <;> cases Z1 <;> cases Z2 <;> rfl
  by_cases h2 : ty = 2
  · subst h2; simp; cases T0 <;> cases T <;> cases K <;> cases E2 <;> cases Z1 <;> cases Z2 <;> rfl
  by_cases h3 : ty = 3
  · subst h3; simp; cases T0 <;> cases T <;> cases E1 <;> cases E2 <;> cases N1 <;> cases S <;> rfl
  by_cases h5 : ty = 5
  · subst h5; simp; cases T0 <;> cases T <;> cases E1 <;> cases E2 <;> cases N2 <;> cases S <;> rfl
  have b1 : (ty == 1) = false := beq_eq_false_iff_ne.2 h1
  have b2 : (ty == 2) = false := beq_eq_false_iff_ne.2 h2
  have b3 : (ty == 3) = false := beq_eq_false_iff_ne.2 h3
  have b4 : (ty == 4) = false := beq_eq_false_iff_ne.2 h4
  have b5 : (ty == 5) = false := beq_eq_false_iff_ne.2 h5
  have b6 : (ty != 5) = true := bne_iff_ne.2 h5
  simp only [b1, b2, b3, b4, b5, b6, Bool.or_false, cond_false, cond_true]
  cases T0 <;> cases T <;> rfl
theorem app_nil (s : ByteArray) : (⟨#[]⟩ : ByteArray) ++ s = s := by
  apply ByteArray.ext
  simp [ByteArray.data_append]
theorem app_assoc (a b c : ByteArray) : a ++ b ++ c = a ++ (b ++ c) := by
  apply ByteArray.ext
  simp [ByteArray.data_append]
theorem vars2_ev {x y : Int} {v w : ByteArray × Unit} (h1 : Ev (fun k => impl_Var.f k x) v) (h2 : Ev (fun k => impl_Var.f k y) w) (z1 : v.1.size ≤ 9) (z2 : w.1.size ≤ 9) : Ev (fun k => impl_vars.f k [x, y]) (v.1 ++ w.1, ()) := by
  refine Ev2.diag (g := fun k m => impl_vars.l0 k m ⟨#[]⟩ [x, y] 2 0) ?_
  refine Ev2.step (b := fun k m => impl_vars.b0 k (impl_vars.l0 k m) ⟨#[]⟩ [x, y] 2 0) (fun k m => rfl) ?_
  unfold impl_vars.b0
  refine Ev2.bind (g := fun k => impl_Var.f k x) h1 ?_
  refine Ev2.eq ?_ (fun k m => cat_eq (by rw [show (⟨#[]⟩ : ByteArray).size = 0 from rfl]; omega))
  rw [app_nil]
  refine Ev2.step (b := fun k m => impl_vars.b0 k (impl_vars.l0 k m) v.1 [x, y] 2 1) (fun k m => rfl) ?_
  unfold impl_vars.b0
  refine Ev2.bind (g := fun k => impl_Var.f k y) h2 ?_
  refine Ev2.eq ?_ (fun k m => cat_eq (by omega))
  refine Ev2.step (b := fun k m => impl_vars.b0 k (impl_vars.l0 k m) (v.1 ++ w.1) [x, y] 2 2) (fun k m => rfl) ?_
  exact Ev2.of fun _ _ => rfl
theorem textOf_ev {s : ByteArray} {v : ByteArray × Unit} (h : Ev (fun k => impl_Var.f k (s.size : Int)) v) (z : v.1.size ≤ 9) (hs : s.size ≤ 1000) : Ev (fun k => impl_textOf.f k s) (v.1 ++ s, ()) := by
  show Ev (fun k => impl_textOf.t k s) _
  unfold impl_textOf.t
  refine Ev.bind h (Ev.of fun k => ?_)
  exact cat_eq (by omega)
end Go.Proofs.Ytlbpalfjmjmimaa.G

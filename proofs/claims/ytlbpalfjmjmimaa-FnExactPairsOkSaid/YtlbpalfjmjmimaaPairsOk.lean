/- For all pairs the program's PairsOk answers as the reference's: a plain law. -/
import Derived.Test.YtlbpalfjmjmimaaFQ1
import Derived.Test.YtlbpalfjmjmimaaVPure
set_option linter.unusedVariables false
set_option linter.unusedSimpArgs false
namespace Go.Proofs.Ytlbpalfjmjmimaa.G
open Go.V

/- Pairs: weighed, copied, compared. -/
theorem reach_eq : reachBytes = 140737488351232 := rfl
theorem szPair_ev (x : TPair.den) (hw : Wf TPair x) (left : Int) (h0 : 0 ≤ left) (h1 : left ≤ 1048576) : Ev (fun k => laws_szPair.f k x left) (sz (weight TPair x) left, ()) := by
  refine Ev.of fun k => ?_
  have a1 : x.1.size ≤ reachBytes := hw.1
  have a2 : x.2.1.size ≤ reachBytes := hw.2.1
  rw [reach_eq] at a1 a2
  have e : weight TPair x = x.1.size + (x.2.1.size + (0 + 0)) := rfl
  have w1 : w64 (left - (x.1.size : Int)) = left - x.1.size := w64_eq (by omega) (by omega)
  unfold laws_szPair.f laws_szPair.t
  rw [e, w1]
  simp only [Bool.cond_decide]
  split
  · rw [sz_bad (by omega)]
  · have w2 : w64 (left - (x.1.size : Int) - (x.2.1.size : Int)) = left - x.1.size - x.2.1.size := w64_eq (by omega) (by omega)
    rw [w2]
    split
    · rw [sz_bad (by omega)]
    · rw [sz_ok (by omega)]
      congr 2
      omega
theorem toPair_ev (x : TPair.den) : Ev (fun k => laws_toPair.f k x) (x, ()) := Ev.of fun k => rfl
theorem eqPair_ev (x : TPair.den) : Ev (fun k => laws_eqPair.f k x x) (true, ()) := Ev.of fun k => by
  unfold laws_eqPair.f laws_eqPair.t
  simp [seq_refl]
theorem szPairS_ev (l : List TPair.den) (hw : ∀ x ∈ l, Wf TPair x) (hl : l.length ≤ 140737488351232) (left : Int) (h0 : 0 ≤ left) (h1 : left ≤ 1048576) : Ev (fun k => laws_szPairS.f k l left) (sz (weight (.slice TPair) l) left, ()) := by
  have w1 : w64 (left - (l.length : Int)) = left - l.length := w64_eq (by omega) (by omega)
  have e : weight (.slice TPair) l = l.length + (l.map (weight TPair)).sum := rfl
  rw [e]
  refine Ev.eq (g := fun k => bif decide (left - (l.length : Int) < 0) then some (-1, ()) else laws_szPairS.l0 k k l (left - (l.length : Int)) 0) ?_ fun k => by
    unfold laws_szPairS.f laws_szPairS.t; rw [w1]
  by_cases c : left - (l.length : Int) < 0
  · simp only [decide_eq_true c, cond_true]
    refine Ev.of fun k => ?_
    rw [sz_bad (by omega)]
  · simp only [decide_eq_false c, cond_false]
    have := (szS_ev (l := laws_szPairS.l0) (f := laws_szPair.f) (fun _ _ _ _ _ => rfl) (xs := l) (by omega) (fun x hx left h0 h1 => szPair_ev x (hw x hx) left h0 h1) l.length 0 (left - l.length) (by omega) (by omega) (by omega) (by omega)).diag
    rw [List.drop_zero] at this
    have q : sz ((l.map (weight TPair)).sum) (left - (l.length : Int)) = sz (l.length + (l.map (weight TPair)).sum) left := by
      unfold sz
      rw [show left - (l.length : Int) - (((l.map (weight TPair)).sum : Nat) : Int) = left - ((l.length + (l.map (weight TPair)).sum : Nat) : Int) by omega]
    rw [← q]
    exact this
theorem toPairS_ev (l : List TPair.den) (hl : l.length ≤ 1048576) : Ev (fun k => laws_toPairS.f k l) (l, ()) := by
  refine Ev.eq (g := fun k => laws_toPairS.l0 k k l 0 (List.replicate l.length (Ty.dflt TPair))) ?_ fun k => by
    unfold laws_toPairS.f laws_toPairS.t
    rw [mks_eq (by omega) (by have : Ty.bytes TPair = 40 := rfl; rw [this, toNat_ofNat]; omega) (by omega), toNat_ofNat]
  exact (toS_ev (l := laws_toPairS.l0) (f := laws_toPair.f) (fun _ _ _ _ _ => rfl) hl (fun x _ => toPair_ev x) l.length 0 _ (by omega) (by omega) (by simp) (by simp)).diag
theorem eqPairS_ev (l : List TPair.den) (hl : l.length ≤ 1048576) : Ev (fun k => laws_eqPairS.f k l l) (true, ()) := by
  refine Ev.eq (g := fun k => laws_eqPairS.l0 k k l l 0) ?_ fun k => by
    unfold laws_eqPairS.f laws_eqPairS.t
    simp
  exact (eqS_ev (l := laws_eqPairS.l0) (f := laws_eqPair.f) (fun _ _ _ _ _ => rfl) hl (fun x _ => eqPair_ev x) l.length 0 (by omega) (by omega)).diag

/- Both PairsOk. -/
theorem l1In_eq (k : Nat) (a b c : Int) : spec_l1In.f k a b c = some (decide (b ≤ a ∧ a ≤ c), ()) := by
  unfold spec_l1In.f spec_l1In.t
  by_cases h : b ≤ a <;> simp [h]
theorem in_eq (k : Nat) (a b c : Int) : impl_in.f k a b c = some (decide (b ≤ a ∧ a ≤ c), ()) := by
  unfold impl_in.f impl_in.t
  by_cases h : b ≤ a <;> simp [h]
theorem specKeyOk_eq (k : Nat) (s : ByteArray) : spec_KeyOk.f k s = some (decide (1 ≤ (s.size : Int) ∧ (s.size : Int) ≤ 8), ()) := by
  unfold spec_KeyOk.f spec_KeyOk.t
  rw [l1In_eq]; rfl
theorem implKeyOk_eq (k : Nat) (s : ByteArray) : impl_KeyOk.f k s = some (decide (1 ≤ (s.size : Int) ∧ (s.size : Int) ≤ 8), ()) := by
  unfold impl_KeyOk.f impl_KeyOk.t
  rw [in_eq]; rfl
def pOk (x : TPair.den) : Bool := decide (1 ≤ (x.1.size : Int) ∧ (x.1.size : Int) ≤ 8) && !decide ((x.2.1.size : Int) > 24) && decide (1 ≤ x.2.2.1 ∧ x.2.2.1 ≤ 1000000)
def pairsFrom (l : List TPair.den) : Nat → Nat → Bool
  | 0, _ => true
  | d + 1, i => pOk (l.getD i (Ty.dflt TPair)) && (!decide (0 < i) || sls (l.getD (i - 1) (Ty.dflt TPair)).1 (l.getD i (Ty.dflt TPair)).1) && pairsFrom l d (i + 1)

theorem specPairs_ev {l : List TPair.den} (hl : l.length ≤ 1048576) : ∀ (d i : Nat), l.length - i = d → i ≤ l.length → Ev2 (fun k n => spec_PairsOk.l0 k n l (i : Int)) (pairsFrom l d i, ())
  | 0, i, hd, hi => by
    refine Ev2.step (b := fun k n => spec_PairsOk.b0 k (spec_PairsOk.l0 k n) l i) (fun k n => rfl) (Ev2.of fun k n => ?_)
    have : ¬ ((i : Int) < (List.length l : Int)) := by omega
    unfold spec_PairsOk.b0
    rw [decide_eq_false this, cond_false]
    rfl
  | d + 1, i, hd, hi => by
    refine Ev2.step (b := fun k n => spec_PairsOk.b0 k (spec_PairsOk.l0 k n) l i) (fun k n => rfl) ?_
    have h2 : ((i : Int) < (List.length l : Int)) := by omega
    have hw : w64 ((i : Int) + 1) = ((i + 1 : Nat) : Int) := by rw [w64_eq (by omega) (by omega)]; rfl
    have ih := specPairs_ev hl d (i + 1) (by omega) (by omega)
    unfold spec_PairsOk.b0
    simp only [decide_eq_true h2, cond_true, inb_eq (Int.natCast_nonneg i) h2, toNat_ofNat, specKeyOk_eq, l1In_eq, Option.bind_some, hw, pairsFrom, pOk]
    generalize l.getD i (Ty.dflt TPair) = x
    generalize decide (1 ≤ (x.1.size : Int) ∧ (x.1.size : Int) ≤ 8) = c1
    generalize decide ((x.2.1.size : Int) > 24) = c2
    generalize decide (1 ≤ x.2.2.1 ∧ x.2.2.1 ≤ 1000000) = c3
    cases c1 <;> cases c2 <;> cases c3 <;> simp only [Bool.not_true, Bool.not_false, cond_true, cond_false, Bool.false_and, Bool.and_false, Bool.true_and, Bool.and_true] <;> try exact Ev2.of fun _ _ => rfl
    by_cases hp : (i : Int) > 0
    · have hp' : 0 < i := by omega
      have hw1 : w64 ((i : Int) - 1) = ((i - 1 : Nat) : Int) := by rw [w64_eq (by omega) (by omega)]; omega
      simp only [decide_eq_true hp, decide_eq_true hp', cond_true, hw1, inb_eq (Int.natCast_nonneg (i - 1)) (show ((i - 1 : Nat) : Int) < (l.length : Int) by omega), toNat_ofNat, sls_total, Bool.not_true, Bool.false_or]
      cases sls (l.getD (i - 1) (Ty.dflt TPair)).1 x.1 with
      | false => exact Ev2.of fun _ _ => rfl
      | true => simpa using ih
    · have hp' : ¬ 0 < i := by omega
      simp only [decide_eq_false hp, decide_eq_false hp', cond_false, Bool.not_false, Bool.true_or, Bool.true_and]
      exact ih
theorem implPairs_ev {l : List TPair.den} (hl : l.length ≤ 1048576) : ∀ (d i : Nat), l.length - i = d → i ≤ l.length → Ev2 (fun k n => impl_PairsOk.l0 k n l l (l.length : Int) (i : Int)) (pairsFrom l d i && decide ((l.length : Int) ≤ 20), ())
  | 0, i, hd, hi => by
    refine Ev2.step (b := fun k n => impl_PairsOk.b0 k (impl_PairsOk.l0 k n) l l (l.length : Int) i) (fun k n => rfl) (Ev2.of fun k n => ?_)
    have : ¬ ((i : Int) < (List.length l : Int)) := by omega
    unfold impl_PairsOk.b0
    rw [decide_eq_false this, cond_false]
    rfl
  | d + 1, i, hd, hi => by
    refine Ev2.step (b := fun k n => impl_PairsOk.b0 k (impl_PairsOk.l0 k n) l l (l.length : Int) i) (fun k n => rfl) ?_
    have h2 : ((i : Int) < (List.length l : Int)) := by omega
    have hw : w64 ((i : Int) + 1) = ((i + 1 : Nat) : Int) := by rw [w64_eq (by omega) (by omega)]; rfl
    have ih := implPairs_ev hl d (i + 1) (by omega) (by omega)
    unfold impl_PairsOk.b0
    simp only [decide_eq_true h2, cond_true, inb_eq (Int.natCast_nonneg i) h2, toNat_ofNat, implKeyOk_eq, in_eq, Option.bind_some, hw, pairsFrom, pOk]
    generalize l.getD i (Ty.dflt TPair) = x
    generalize decide (1 ≤ (x.1.size : Int) ∧ (x.1.size : Int) ≤ 8) = c1
    generalize decide ((x.2.1.size : Int) > 24) = c2
    generalize decide (1 ≤ x.2.2.1 ∧ x.2.2.1 ≤ 1000000) = c3
    cases c1 <;> cases c2 <;> cases c3 <;> simp only [Bool.not_true, Bool.not_false, cond_true, cond_false, Bool.false_and, Bool.and_false, Bool.true_and, Bool.and_true] <;> try exact Ev2.of fun _ _ => rfl
    by_cases hp : (i : Int) > 0
    · have hp' : 0 < i := by omega
      have hw1 : w64 ((i : Int) - 1) = ((i - 1 : Nat) : Int) := by rw [w64_eq (by omega) (by omega)]; omega
      simp only [decide_eq_true hp, decide_eq_true hp', cond_true, hw1, inb_eq (Int.natCast_nonneg (i - 1)) (show ((i - 1 : Nat) : Int) < (l.length : Int) by omega), toNat_ofNat, Bool.not_true, Bool.false_or]
      cases sls (l.getD (i - 1) (Ty.dflt TPair)).1 x.1 with
      | false => exact Ev2.of fun _ _ => rfl
      | true => simpa using ih
    · have hp' : ¬ 0 < i := by omega
      simp only [decide_eq_false hp, decide_eq_false hp', cond_false, Bool.not_false, Bool.true_or, Bool.true_and]
      exact ih
theorem specPairsOk_ev {l : List TPair.den} (hl : l.length ≤ 1048576) : Ev (fun k => spec_PairsOk.f k l) (pairsFrom l l.length 0 && decide ((l.length : Int) ≤ 20), ()) := by
  by_cases c : (l.length : Int) > 20
  · refine Ev.of fun k => ?_
    unfold spec_PairsOk.f spec_PairsOk.t
    rw [decide_eq_true c, cond_true, decide_eq_false (by omega), Bool.and_false]
  · refine Ev.eq (specPairs_ev hl l.length 0 (by omega) (by omega)).diag (fun k => ?_) |> (fun h => (by rw [decide_eq_true (show (l.length : Int) ≤ 20 by omega), Bool.and_true]; exact h))
    unfold spec_PairsOk.f spec_PairsOk.t
    rw [decide_eq_false c, cond_false]
    rfl
theorem implPairsOk_ev {l : List TPair.den} (hl : l.length ≤ 1048576) : Ev (fun k => impl_PairsOk.f k l) (pairsFrom l l.length 0 && decide ((l.length : Int) ≤ 20), ()) :=
  (implPairs_ev hl l.length 0 (by omega) (by omega)).diag

theorem fnExactPairsOk_pure : ∀ x, Wf (tup [.slice TPair]) x → ∃ k, laws_FnExactPairsOk.f k x.1 = some (true, ()) := by
  rintro ⟨l, _⟩ ⟨⟨hb, hw⟩, _⟩
  have hb' : l.length * 40 ≤ 140737488351232 := hb
  refine Ev.some ?_
  show Ev (fun k => laws_FnExactPairsOk.t k l) _
  unfold laws_FnExactPairsOk.t
  refine Ev.bind (szPairS_ev l hw (by omega) 1048576 (by omega) (by omega)) ?_
  by_cases c : ((weight (.slice TPair) l : Nat) : Int) ≤ 1048576
  · have e : weight (.slice TPair) l = l.length + (l.map (weight TPair)).sum := rfl
    have hl : l.length ≤ 1048576 := by omega
    have c' : ¬ ((1048576 : Int) - (weight (.slice TPair) l : Int) < 0) := by omega
    simp only [sz_ok c, decide_eq_false c', cond_false]
    refine Ev.bind (toPairS_ev l hl) (Ev.bind (specPairsOk_ev hl) (Ev.bind (toPairS_ev l hl) (Ev.bind (implPairsOk_ev hl) ?_)))
    simp only [beq_self_eq_true, Bool.not_true, cond_false]
    refine Ev.bind (toPairS_ev l hl) (Ev.bind (eqPairS_ev l hl) ?_)
    exact Ev.of fun k => rfl
  · refine Ev.of fun k => ?_
    rw [sz_bad (by omega)]
    rfl
end Go.Proofs.Ytlbpalfjmjmimaa.G

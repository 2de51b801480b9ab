/- The plain law of Receive: both readings answer alike. -/
import Derived.Test.YtlbpalfjmjmimaaCoDiff
set_option linter.unusedVariables false
set_option linter.unusedSimpArgs false
namespace Go.Proofs.Ytlbpalfjmjmimaa.G
open Go.V
theorem specIn_ev (a b c : Int) : Ev (fun k => spec_l1In.f k a b c) (decide (b ≤ a) && decide (a ≤ c), ()) := Ev.of fun k => by
  unfold spec_l1In.f spec_l1In.t
  by_cases h : b ≤ a
  · rw [decide_eq_true h]; rfl
  · rw [decide_eq_false h]; rfl
theorem implIn_ev (a b c : Int) : Ev (fun k => impl_in.f k a b c) (decide (b ≤ a) && decide (a ≤ c), ()) := Ev.of fun k => by
  unfold impl_in.f impl_in.t
  by_cases h : b ≤ a
  · rw [decide_eq_true h]; rfl
  · rw [decide_eq_false h]; rfl
/-- Are the places i .. i + d - 1 of l fit for life? -/
def liveL (l : List Int) (u : Int) : Nat → Nat → Bool
  | 0, _ => true
  | d + 1, i => (decide (1 ≤ l.getD i (Ty.dflt (.int .i64))) && decide (l.getD i (Ty.dflt (.int .i64)) ≤ w64 (u - 1))) && ((i == 0 || !decide (l.getD i (Ty.dflt (.int .i64)) ≤ l.getD (i - 1) (Ty.dflt (.int .i64)))) && liveL l u d (i + 1))
def liveOk (u : Int) (l : List Int) : Bool := (decide (1 ≤ u) && decide (u ≤ 100000)) && ((decide (1 ≤ (l.length : Int)) && decide ((l.length : Int) ≤ 60)) && liveL l u l.length 0)
theorem pred64 {i : Nat} (h0 : 0 < i) (h : i ≤ 4398046511104) : w64 ((i : Int) - 1) = ((i - 1 : Nat) : Int) := by rw [w64_eq (by omega) (by omega)]; omega
theorem specLive {u : Int} {l : List Int} (hl : l.length ≤ 1048576) : ∀ (d i : Nat), l.length - i = d → i ≤ l.length → Ev2 (fun k n => spec_LiveOk.l0 k n (i : Int) u l) (liveL l u d i, ())
  | 0, i, hd, hi => by
    have h2 : ¬ ((i : Int) < (l.length : Int)) := by omega
    refine Ev2.step (fun k n => rfl) ?_
    simp only [spec_LiveOk.l0, spec_LiveOk.b0, decide_eq_false h2, cond_false]
    exact Ev2.of fun _ _ => rfl
  | d + 1, i, hd, hi => by
    have h2 : ((i : Int) < (l.length : Int)) := by omega
    have h0 := Int.natCast_nonneg i
    have ih := specLive (u := u) hl d (i + 1) (by omega) (by omega)
    refine Ev2.step (b := fun k n => spec_LiveOk.b0 k (spec_LiveOk.l0 k n) (i : Int) u l) (fun k n => rfl) ?_
    unfold spec_LiveOk.b0
    simp only [decide_eq_true h2, cond_true, inb_eq h0 h2, toNat_ofNat, up64 (show i ≤ 4398046511104 by omega)]
    refine Ev2.bind (specIn_ev _ _ _) ?_
    unfold liveL
    cases (decide (1 ≤ l.getD i (Ty.dflt (.int .i64))) && decide (l.getD i (Ty.dflt (.int .i64)) ≤ w64 (u - 1)))
    · exact Ev2.of fun _ _ => rfl
    · simp only [Bool.not_true, cond_false, Bool.true_and]
      by_cases hz : i = 0
      · subst hz
        simpa using ih
      · have h3 : (i : Int) > 0 := by omega
        have h4 : ((i - 1 : Nat) : Int) < (l.length : Int) := by omega
        simp only [decide_eq_true h3, cond_true, pred64 (show 0 < i by omega) (show i ≤ 4398046511104 by omega), inb_eq (Int.natCast_nonneg (i - 1)) h4, toNat_ofNat]
        have h5 : (i == 0) = false := by simpa using hz
        rw [h5, Bool.false_or]
        cases decide (l.getD i (Ty.dflt (.int .i64)) ≤ l.getD (i - 1) (Ty.dflt (.int .i64)))
        · simp only [Bool.not_false, Bool.true_and, cond_false]
          exact ih
        · exact Ev2.of fun _ _ => rfl
theorem specLiveOk_ev (u : Int) (l : List Int) (hl : l.length ≤ 1048576) : Ev (fun k => spec_LiveOk.f k (u, (l, ()))) (liveOk u l, ()) := by
  show Ev (fun k => spec_LiveOk.t k (spec_LiveOk.l0 k k) (u, (l, ()))) _
  unfold spec_LiveOk.t liveOk
  refine Ev.bind (specIn_ev _ _ _) ?_
  cases (decide (1 ≤ u) && decide (u ≤ 100000))
  · exact Ev.of fun _ => rfl
  simp only [Bool.not_true, cond_false, Bool.true_and]
  refine Ev.bind (specIn_ev _ _ _) ?_
  cases (decide (1 ≤ (l.length : Int)) && decide ((l.length : Int) ≤ 60))
  · exact Ev.of fun _ => rfl
  simp only [Bool.not_true, cond_false, Bool.true_and]
  exact (specLive (u := u) hl l.length 0 (by omega) (by omega)).diag
theorem implLive {u : Int} {l : List Int} (hl : l.length ≤ 1048576) : ∀ (d i : Nat), l.length - i = d → i ≤ l.length → Ev2 (fun k n => impl_LiveOk.l0 k n l (l.length : Int) (i : Int) u l) ((decide (1 ≤ u) && decide (u ≤ 100000)) && ((decide (1 ≤ (l.length : Int)) && decide ((l.length : Int) ≤ 60)) && liveL l u d i), ())
  | 0, i, hd, hi => by
    have h2 : ¬ ((i : Int) < (l.length : Int)) := by omega
    refine Ev2.step (b := fun k n => impl_LiveOk.b0 k (impl_LiveOk.l0 k n) l (l.length : Int) (i : Int) u l) (fun k n => rfl) ?_
    unfold impl_LiveOk.b0 liveL
    simp only [decide_eq_false h2, cond_false, Bool.and_true]
    refine Ev2.bind (implIn_ev _ _ _) ?_
    cases (decide (1 ≤ u) && decide (u ≤ 100000))
    · exact Ev2.of fun _ _ => rfl
    simp only [cond_true, Bool.true_and]
    refine Ev2.bind (implIn_ev _ _ _) ?_
    exact Ev2.of fun _ _ => rfl
  | d + 1, i, hd, hi => by
    have h2 : ((i : Int) < (l.length : Int)) := by omega
    have h0 := Int.natCast_nonneg i
    have ih := implLive (u := u) hl d (i + 1) (by omega) (by omega)
    refine Ev2.step (b := fun k n => impl_LiveOk.b0 k (impl_LiveOk.l0 k n) l (l.length : Int) (i : Int) u l) (fun k n => rfl) ?_
    unfold impl_LiveOk.b0
    simp only [decide_eq_true h2, cond_true, inb_eq h0 h2, toNat_ofNat, up64 (show i ≤ 4398046511104 by omega)]
    refine Ev2.bind (implIn_ev _ _ _) ?_
    unfold liveL
    cases (decide (1 ≤ l.getD i (Ty.dflt (.int .i64))) && decide (l.getD i (Ty.dflt (.int .i64)) ≤ w64 (u - 1)))
    · refine Ev2.of fun _ _ => ?_
      simp
    · simp only [Bool.not_true, cond_false, Bool.true_and]
      by_cases hz : i = 0
      · subst hz
        simpa using ih
      · have h3 : (i : Int) > 0 := by omega
        have h4 : ((i - 1 : Nat) : Int) < (l.length : Int) := by omega
        simp only [decide_eq_true h3, cond_true, pred64 (show 0 < i by omega) (show i ≤ 4398046511104 by omega), inb_eq (Int.natCast_nonneg (i - 1)) h4, toNat_ofNat]
        have h5 : (i == 0) = false := by simpa using hz
        rw [h5, Bool.false_or]
        by_cases h6 : l.getD i (Ty.dflt (.int .i64)) ≤ l.getD (i - 1) (Ty.dflt (.int .i64))
        · rw [decide_eq_true h6]
          refine Ev2.of fun _ _ => ?_
          simp
        · rw [decide_eq_false h6]
          simp only [decide_eq_false (show ¬ l.getD (i - 1) (Ty.dflt (.int .i64)) ≥ l.getD i (Ty.dflt (.int .i64)) from h6), Bool.not_false, Bool.true_and, cond_false]
          exact ih
theorem implLiveOk_ev (u : Int) (l : List Int) (hl : l.length ≤ 1048576) : Ev (fun k => impl_LiveOk.f k (u, (l, ()))) (liveOk u l, ()) := (implLive (u := u) hl l.length 0 (by omega) (by omega)).diag
theorem hasL {u : Int} {l : List (Ty.den TPiece)} {key : Int} (hl : l.length ≤ 1048576) (hx : ∀ x ∈ l, x.2.1.size ≤ 1048576) : ∀ (d i : Nat), l.length - i = d → i ≤ l.length →
    ∃ r, Ev2 (fun k n => spec_l27Text.l0 k n key (i : Int) u l) r ∧ Ev2 (fun k n => impl_has.l0 k n key l (l.length : Int) (i : Int)) r ∧ r.1.size ≤ 1048576
  | 0, i, hd, hi => by
    have h2 : ¬ ((i : Int) < (l.length : Int)) := by omega
    refine ⟨(⟨#[]⟩, ()), Ev2.step (fun k n => rfl) ?_, Ev2.step (fun k n => rfl) ?_, by decide⟩
    · simp only [spec_l27Text.l0, spec_l27Text.b0, decide_eq_false h2, cond_false]
      exact Ev2.of fun _ _ => rfl
    · simp only [impl_has.l0, impl_has.b0, decide_eq_false h2, cond_false]
      exact Ev2.of fun _ _ => rfl
  | d + 1, i, hd, hi => by
    have h2 : ((i : Int) < (l.length : Int)) := by omega
    have h0 := Int.natCast_nonneg i
    obtain ⟨r, s1, s2, s3⟩ := hasL (u := u) (key := key) hl hx d (i + 1) (by omega) (by omega)
    have main : ∀ r, (Ev2 (fun k n => spec_l27Text.b0 k (spec_l27Text.l0 k n) key (i : Int) u l) r ∧ Ev2 (fun k n => impl_has.b0 k (impl_has.l0 k n) key l (l.length : Int) (i : Int)) r ∧ r.1.size ≤ 1048576) →
      ∃ r, Ev2 (fun k n => spec_l27Text.l0 k n key (i : Int) u l) r ∧ Ev2 (fun k n => impl_has.l0 k n key l (l.length : Int) (i : Int)) r ∧ r.1.size ≤ 1048576 :=
      fun r h => ⟨r, Ev2.step (fun k n => rfl) h.1, Ev2.step (fun k n => rfl) h.2.1, h.2.2⟩
    unfold spec_l27Text.b0 impl_has.b0 at main
    simp only [decide_eq_true h2, cond_true, inb_eq h0 h2, toNat_ofNat, up64 (show i ≤ 4398046511104 by omega)] at main
    cases c1 : ((l.getD i (Ty.dflt TPiece)).1 == key) <;> simp only [c1, cond_true, cond_false] at main
    · exact main r ⟨s1, s2, s3⟩
    · exact main (l.getD i (Ty.dflt TPiece)).2 ⟨Ev2.of fun _ _ => rfl, Ev2.of fun _ _ => rfl, hx _ (getD_mem (by omega))⟩
theorem has_ev (u : Int) (l : List (Ty.den TPiece)) (key : Int) (hl : l.length ≤ 1048576) (hx : ∀ x ∈ l, x.2.1.size ≤ 1048576) :
    ∃ r, Ev (fun k => spec_l27Text.f k (u, (l, ())) key) r ∧ Ev (fun k => impl_has.f k (u, (l, ())) key) r ∧ r.1.size ≤ 1048576 := by
  obtain ⟨r, h1, h2, h3⟩ := hasL (u := u) (key := key) hl hx l.length 0 (by omega) (by omega)
  exact ⟨r, h1.diag, h2.diag, h3⟩
theorem recvL {u v m j1 j2 w : Int} {l js : List (Ty.den TPiece)} {bs : List (Ty.den TBit)} {j3 : List (Ty.den TPiece)} (hl : l.length ≤ 1048576) (hx : ∀ x ∈ l, x.2.1.size ≤ 1048576) (hb : bs.length ≤ 1048576) (hy : ∀ x ∈ bs, x.2.2.1.size ≤ 1048576) (hj : js.length ≤ 1048576) :
    ∀ (d i : Nat) (ps : List (Ty.den TPiece)) (ns : List Int), bs.length - i = d → i ≤ bs.length → ps.length ≤ i → ns.length ≤ i →
    ∃ r, Ev2 (fun k n => spec_Receive.l0 k n (i : Int) u l m bs j3 j1 js j2 ps w ns) r ∧ Ev2 (fun k n => impl_Receive.l0 k n bs (bs.length : Int) (i : Int) u l j3 j1 js j2 ps w ns m) r ∧ r.1.2.1.length ≤ 1048576
  | 0, i, ps, ns, hd, hi, hp, hn => by
    have h2 : ¬ ((i : Int) < (bs.length : Int)) := by omega
    have main : ∀ r, (Ev2 (fun k n => spec_Receive.b0 k (spec_Receive.l0 k n) (i : Int) u l m bs j3 j1 js j2 ps w ns) r ∧ Ev2 (fun k n => impl_Receive.b0 k (impl_Receive.l0 k n) bs (bs.length : Int) (i : Int) u l j3 j1 js j2 ps w ns m) r ∧ r.1.2.1.length ≤ 1048576) →
      ∃ r, Ev2 (fun k n => spec_Receive.l0 k n (i : Int) u l m bs j3 j1 js j2 ps w ns) r ∧ Ev2 (fun k n => impl_Receive.l0 k n bs (bs.length : Int) (i : Int) u l j3 j1 js j2 ps w ns m) r ∧ r.1.2.1.length ≤ 1048576 :=
      fun r h => ⟨r, Ev2.step (fun k n => rfl) h.1, Ev2.step (fun k n => rfl) h.2.1, h.2.2⟩
    unfold spec_Receive.b0 impl_Receive.b0 at main
    simp only [decide_eq_false h2, cond_false] at main
    have e1 := specLiveOk_ev m ns (by omega)
    have e2 := implLiveOk_ev m ns (by omega)
    cases c : liveOk m ns <;> rw [c] at e1 e2
    · exact main ((j2, (js, ())), (false, ())) ⟨Ev2.bind e1 (Ev2.of fun _ _ => rfl), Ev2.bind e2 (Ev2.of fun _ _ => rfl), hj⟩
    · exact main ((w, (ps, ())), (true, ())) ⟨Ev2.bind e1 (Ev2.of fun _ _ => rfl), Ev2.bind e2 (Ev2.of fun _ _ => rfl), by show ps.length ≤ _; omega⟩
  | d + 1, i, ps, ns, hd, hi, hp, hn => by
    have h2 : ((i : Int) < (bs.length : Int)) := by omega
    have h0 := Int.natCast_nonneg i
    have hr1 : (ps.length + 1) * Ty.bytes TPiece ≤ 140737488355328 := by have : Ty.bytes TPiece = 24 := rfl; rw [this]; omega
    have hr2 : (ns.length + 1) * Ty.bytes (.int .i64) ≤ 140737488355328 := by have : Ty.bytes (.int .i64) = 8 := rfl; rw [this]; omega
    obtain ⟨t, t1, t2, t3⟩ := has_ev u l (bs.getD i (Ty.dflt TBit)).1 hl hx
    have main : ∀ r, (Ev2 (fun k n => spec_Receive.b0 k (spec_Receive.l0 k n) (i : Int) u l m bs j3 j1 js j2 ps w ns) r ∧ Ev2 (fun k n => impl_Receive.b0 k (impl_Receive.l0 k n) bs (bs.length : Int) (i : Int) u l j3 j1 js j2 ps w ns m) r ∧ r.1.2.1.length ≤ 1048576) →
      ∃ r, Ev2 (fun k n => spec_Receive.l0 k n (i : Int) u l m bs j3 j1 js j2 ps w ns) r ∧ Ev2 (fun k n => impl_Receive.l0 k n bs (bs.length : Int) (i : Int) u l j3 j1 js j2 ps w ns m) r ∧ r.1.2.1.length ≤ 1048576 :=
      fun r h => ⟨r, Ev2.step (fun k n => rfl) h.1, Ev2.step (fun k n => rfl) h.2.1, h.2.2⟩
    unfold spec_Receive.b0 impl_Receive.b0 at main
    simp only [decide_eq_true h2, cond_true, inb_eq h0 h2, toNat_ofNat, up64 (show i ≤ 4398046511104 by omega), rm_eq hr1 (show ps.length + 1 ≤ 140737488355328 by omega), rm_eq hr2 (show ns.length + 1 ≤ 140737488355328 by omega)] at main
    have q1 := specIn_ev (bs.getD i (Ty.dflt TBit)).2.1 0 (t.1.size : Int)
    have q2 := implIn_ev (bs.getD i (Ty.dflt TBit)).2.1 0 (t.1.size : Int)
    by_cases c : 0 ≤ (bs.getD i (Ty.dflt TBit)).2.1 ∧ (bs.getD i (Ty.dflt TBit)).2.1 ≤ (t.1.size : Int)
    · rw [decide_eq_true c.1, decide_eq_true c.2] at q1 q2
      have hz : (ByteArray.extract t.1 0 (Int.toNat (bs.getD i (Ty.dflt TBit)).2.1)).size + (bs.getD i (Ty.dflt TBit)).2.2.1.size ≤ 9223372036854775807 := by
        have := hy _ (getD_mem (z := Ty.dflt TBit) (show i < bs.length by omega))
        have e1 : (ByteArray.extract t.1 0 (Int.toNat (bs.getD i (Ty.dflt TBit)).2.1)).size ≤ t.1.size := by rw [ByteArray.size_extract]; omega
        exact Nat.le_trans (Nat.add_le_add e1 this) (by omega)
      obtain ⟨r, s1, s2, s3⟩ := recvL (u := u) (v := v) (m := m) (j1 := j1) (j2 := j2) (w := w) (js := js) (j3 := j3) hl hx hb hy hj d (i + 1)
        (ps ++ [((bs.getD i (Ty.dflt TBit)).1, (((ByteArray.extract t.1 0 (Int.toNat (bs.getD i (Ty.dflt TBit)).2.1)) ++ (bs.getD i (Ty.dflt TBit)).2.2.1), ()))]) (ns ++ [(bs.getD i (Ty.dflt TBit)).1])
        (by omega) (by omega) (by rw [List.length_append]; show _ + 1 ≤ _; omega) (by rw [List.length_append]; show _ + 1 ≤ _; omega)
      refine main r ⟨Ev2.bind t1 (Ev2.bind q1 ?_), Ev2.bind t2 (Ev2.bind q2 ?_), s3⟩
      · simp only [Bool.and_true, Bool.not_true, cond_false, inc_eq c.1 c.2, cat_eq hz]
        exact s1
      · simp only [Bool.and_true, Bool.not_true, cond_false, inc_eq c.1 c.2, cat_eq hz]
        exact s2
    · have c' : (decide (0 ≤ (bs.getD i (Ty.dflt TBit)).2.1) && decide ((bs.getD i (Ty.dflt TBit)).2.1 ≤ (t.1.size : Int))) = false := by
        rw [Bool.and_eq_false_iff]
        by_cases c1 : 0 ≤ (bs.getD i (Ty.dflt TBit)).2.1
        · exact .inr (decide_eq_false fun h => c ⟨c1, h⟩)
        · exact .inl (decide_eq_false c1)
      rw [c'] at q1 q2
      exact main ((j2, (js, ())), (false, ())) ⟨Ev2.bind t1 (Ev2.bind q1 (Ev2.of fun _ _ => rfl)), Ev2.bind t2 (Ev2.bind q2 (Ev2.of fun _ _ => rfl)), hj⟩
theorem core_FnExactReceive {a0 : Ty.den TFollower} {a1 : Ty.den TParcel} (f0 : Wf TFollower a0) (f1 : Wf TParcel a1) (w0 : weight TFollower a0 ≤ 1048576) (w1 : weight TParcel a1 ≤ 1048576) :
    ∃ r, Ev (fun k => spec_Receive.f k a0 a1) r ∧ Ev (fun k => impl_Receive.f k a0 a1) r ∧ wp TFollower r.1 ≤ 4398046511104 := by
  have e0 : weight TFollower a0 = 0 + (weight (.slice TPiece) a0.2.1 + 0) := rfl
  have e1 : weight TParcel a1 = 0 + (weight (.slice TBit) a1.2.1 + 0) := rfl
  have v0 : weight (.slice TPiece) a0.2.1 ≤ 1048576 := by omega
  have v1 : weight (.slice TBit) a1.2.1 ≤ 1048576 := by omega
  have l0 := weight_len v0
  have l1 := weight_len v1
  obtain ⟨r, h1, h2, h3⟩ := recvL (u := a0.1) (v := 0) (m := a1.1) (j1 := 0) (j2 := a0.1) (w := a1.1) (js := a0.2.1) (j3 := []) l0 (fun x hx => by
      have := mem_weight hx v0
      have e : weight TPiece x = 0 + (x.2.1.size + 0) := rfl
      omega) l1 (fun x hx => by
      have := mem_weight hx v1
      have e : weight TBit x = 0 + (0 + (x.2.2.1.size + 0)) := rfl
      omega) l0 a1.2.1.length 0 [] [] (by omega) (by omega) (by decide) (by decide)
  have hr : a0.2.1.length * Ty.bytes TPiece ≤ 140737488355328 := by have : Ty.bytes TPiece = 24 := rfl; rw [this]; omega
  refine ⟨r, h1.diag.eq fun k => ?_, h2.diag.eq fun k => ?_, ?_⟩
  · show rm _ _ _ = _
    rw [Nat.zero_add, rm_eq hr (by omega)]
    rfl
  · show rm _ _ _ = _
    rw [rm_eq hr (by omega)]
    rfl
  · show 0 + (wp (.slice TPiece) r.1.2.1 + 0) ≤ _
    rw [wp_flatS (t := TPiece) rfl]
    omega
end Go.Proofs.Ytlbpalfjmjmimaa.G

/- The plain law of EndOk: both readings answer alike. -/
import Derived.Test.YtiigjojchlplpaaCoSerial
set_option linter.unusedVariables false
set_option linter.unusedSimpArgs false
namespace Go.Proofs.Ytiigjojchlplpaa.G
open Go.V
/- The same pairs. -/
def sameP (x y : Ty.den TPair) : Bool := seq x.1 y.1 && (seq x.2.1 y.2.1 && (x.2.2.1 == y.2.2.1))
theorem sameP_iff {x y : Ty.den TPair} : sameP x y = true ↔ x = y := by
  obtain ⟨x1, x2, x3, x4⟩ := x
  obtain ⟨y1, y2, y3, y4⟩ := y
  change ByteArray at x1 x2 y1 y2
  change Int at x3 y3
  cases x4; cases y4
  unfold sameP
  rw [Bool.and_eq_true, Bool.and_eq_true, seq_iff, seq_iff, beq_iff_eq]
  constructor
  · rintro ⟨rfl, rfl, rfl⟩; rfl
  · intro h
    cases h
    exact ⟨rfl, rfl, rfl⟩
theorem sameL {a b : PairL} (hl : a.length ≤ 4398046511104) (hab : a.length = b.length) : ∀ (d i : Nat), a.length - i = d → i ≤ a.length →
    ∃ v : Bool, Ev2 (fun k n => spec_SamePairs.l0 k n a b (i : Int)) (v, ()) ∧ Ev2 (fun k n => impl_SamePairs.l0 k n a b (a.length : Int) (i : Int)) (v, ()) ∧ (v = true ↔ a.drop i = b.drop i)
  | 0, i, hd, hi => by
    have h2 : ¬ ((i : Int) < (a.length : Int)) := by omega
    refine ⟨true, Ev2.step (b := fun k n => spec_SamePairs.b0 k (spec_SamePairs.l0 k n) a b (i : Int)) (fun k n => rfl) ?_, Ev2.step (b := fun k n => impl_SamePairs.b0 k (impl_SamePairs.l0 k n) a b (a.length : Int) (i : Int)) (fun k n => rfl) ?_, by
      rw [List.drop_eq_nil_of_le (by omega), List.drop_eq_nil_of_le (by omega)]; simp⟩
    · unfold spec_SamePairs.b0
      simp only [decide_eq_false h2, cond_false]
      exact Ev2.of fun _ _ => rfl
    · unfold impl_SamePairs.b0
      simp only [decide_eq_false h2, cond_false]
      exact Ev2.of fun _ _ => rfl
  | d + 1, i, hd, hi => by
    have h2 : ((i : Int) < (a.length : Int)) := by omega
    have h3 : ((i : Int) < (b.length : Int)) := by omega
    have h0 := Int.natCast_nonneg i
    obtain ⟨v, s1, s2, s3⟩ := sameL hl hab d (i + 1) (by omega) (by omega)
    have da := drop_one (z := Ty.dflt TPair) (show i < a.length by omega)
    have db := drop_one (z := Ty.dflt TPair) (show i < b.length by omega)
    have main : ∀ v : Bool, (Ev2 (fun k n => spec_SamePairs.b0 k (spec_SamePairs.l0 k n) a b (i : Int)) (v, ()) ∧ Ev2 (fun k n => impl_SamePairs.b0 k (impl_SamePairs.l0 k n) a b (a.length : Int) (i : Int)) (v, ()) ∧ (v = true ↔ a.drop i = b.drop i)) →
      ∃ v : Bool, Ev2 (fun k n => spec_SamePairs.l0 k n a b (i : Int)) (v, ()) ∧ Ev2 (fun k n => impl_SamePairs.l0 k n a b (a.length : Int) (i : Int)) (v, ()) ∧ (v = true ↔ a.drop i = b.drop i) :=
      fun v h => ⟨v, Ev2.step (fun k n => rfl) h.1, Ev2.step (fun k n => rfl) h.2.1, h.2.2⟩
    unfold spec_SamePairs.b0 impl_SamePairs.b0 at main
    simp only [decide_eq_true h2, cond_true, inb_eq h0 h2, inb_eq h0 h3, toNat_ofNat, up64 (show i ≤ 4398046511104 by omega)] at main
    rw [da, db] at main ⊢
    have hp := sameP_iff (x := a.getD i (Ty.dflt TPair)) (y := b.getD i (Ty.dflt TPair))
    unfold sameP at hp
    cases c : (seq (a.getD i (Ty.dflt TPair)).1 (b.getD i (Ty.dflt TPair)).1 && (seq (a.getD i (Ty.dflt TPair)).2.1 (b.getD i (Ty.dflt TPair)).2.1 && ((a.getD i (Ty.dflt TPair)).2.2.1 == (b.getD i (Ty.dflt TPair)).2.2.1))) <;> rw [c] at hp <;> simp only [c, Bool.not_true, Bool.not_false, cond_true, cond_false] at main
    · refine main false ⟨Ev2.of fun _ _ => rfl, Ev2.of fun _ _ => rfl, ?_⟩
      constructor
      · intro h; cases h
      · intro h
        have := hp.2 (List.cons.inj h).1
        cases this
    · refine main v ⟨s1, s2, ?_⟩
      rw [hp.1 rfl, s3]
      constructor
      · intro h; rw [h]
      · intro h; exact (List.cons.inj h).2
theorem same_ev (a b : PairL) (hl : a.length ≤ 4398046511104) : ∃ v : Bool, Ev (fun k => spec_SamePairs.f k a b) (v, ()) ∧ Ev (fun k => impl_SamePairs.f k a b) (v, ()) ∧ (v = true ↔ a = b) := by
  by_cases h : a.length = b.length
  · obtain ⟨v, s1, s2, s3⟩ := sameL hl h a.length 0 (by omega) (by omega)
    have e : ((a.length : Int) != (b.length : Int)) = false := by rw [h]; exact bne_self_eq_false _
    refine ⟨v, Ev.eq s1.diag fun k => ?_, Ev.eq s2.diag fun k => ?_, by rw [List.drop_zero, List.drop_zero] at s3; exact s3⟩
    · unfold spec_SamePairs.f spec_SamePairs.t
      rw [e, cond_false]
      rfl
    · unfold impl_SamePairs.f impl_SamePairs.t
      rw [e, cond_false]
      rfl
  · have e : ((a.length : Int) != (b.length : Int)) = true := by rw [bne_iff_ne]; omega
    refine ⟨false, Ev.of fun k => ?_, Ev.of fun k => ?_, by constructor; (intro q; cases q); (intro q; exact absurd (congrArg List.length q) h)⟩
    · unfold spec_SamePairs.f spec_SamePairs.t
      rw [e, cond_true]
    · unfold impl_SamePairs.f impl_SamePairs.t
      rw [e, cond_true]
/- Acks. -/
def al (h : Ty.den TAck) : Nat := h.2.1.length
def acksV (as : List (Ty.den TAck)) (l : PairL) : PairL := as.foldl (fun l a => foldV l a.2.1 a.1) l
theorem acksV_len : ∀ (as : List (Ty.den TAck)) (l : PairL), (acksV as l).length ≤ l.length + (as.map al).sum
  | [], l => by simp [acksV]
  | h :: as, l => by
    have := acksV_len as (foldV l h.2.1 h.1)
    have h2 := foldV_len h.2.1 l h.1
    show (acksV as (foldV l h.2.1 h.1)).length ≤ _
    rw [List.map_cons, List.sum_cons]
    show _ ≤ l.length + (h.2.1.length + (as.map al).sum)
    omega
theorem acksV_drop {as : List (Ty.den TAck)} {i : Nat} {l : PairL} (h : i < as.length) : acksV (as.drop i) l = acksV (as.drop (i + 1)) (foldV l (as.getD i (Ty.dflt TAck)).2.1 (as.getD i (Ty.dflt TAck)).1) := by
  rw [drop_one (z := Ty.dflt TAck) h]
  rfl
theorem asum_drop {as : List (Ty.den TAck)} {i : Nat} (h : i < as.length) : ((as.drop i).map al).sum = (as.getD i (Ty.dflt TAck)).2.1.length + ((as.drop (i + 1)).map al).sum := by
  rw [drop_one (z := Ty.dflt TAck) h, List.map_cons, List.sum_cons]
  rfl
theorem acksL {as : List (Ty.den TAck)} (hn : as.length ≤ 1048576) : ∀ (d i : Nat) (l : PairL), as.length - i = d → i ≤ as.length → l.length + ((as.drop i).map al).sum ≤ 2097152 → ((as.drop i).map al).sum ≤ 1048576 →
    Ev2 (fun k n => spec_FoldAcks.l0 k n as (i : Int) l) (acksV (as.drop i) l, ()) ∧ Ev2 (fun k n => impl_FoldAcks.l0 k n as (as.length : Int) (i : Int) l) (acksV (as.drop i) l, ())
  | 0, i, l, hd, hi, hl, hs => by
    have h2 : ¬ ((i : Int) < (as.length : Int)) := by omega
    rw [List.drop_eq_nil_of_le (by omega)]
    refine ⟨Ev2.step (fun k n => rfl) ?_, Ev2.step (fun k n => rfl) ?_⟩
    · simp only [spec_FoldAcks.l0, spec_FoldAcks.b0, decide_eq_false h2, cond_false]
      exact Ev2.of fun _ _ => rfl
    · simp only [impl_FoldAcks.l0, impl_FoldAcks.b0, decide_eq_false h2, cond_false]
      exact Ev2.of fun _ _ => rfl
  | d + 1, i, l, hd, hi, hl, hs => by
    have h2 : ((i : Int) < (as.length : Int)) := by omega
    have h0 := Int.natCast_nonneg i
    rw [asum_drop (show i < as.length by omega)] at hl hs
    rw [acksV_drop (show i < as.length by omega)]
    have hfl := foldV_len (as.getD i (Ty.dflt TAck)).2.1 l (as.getD i (Ty.dflt TAck)).1
    obtain ⟨s1, s2⟩ := acksL hn d (i + 1) (foldV l (as.getD i (Ty.dflt TAck)).2.1 (as.getD i (Ty.dflt TAck)).1) (by omega) (by omega) (by omega) (by omega)
    refine ⟨Ev2.step (b := fun k n => spec_FoldAcks.b0 k (spec_FoldAcks.l0 k n) as (i : Int) l) (fun k n => rfl) ?_, Ev2.step (b := fun k n => impl_FoldAcks.b0 k (impl_FoldAcks.l0 k n) as (as.length : Int) (i : Int) l) (fun k n => rfl) ?_⟩
    · unfold spec_FoldAcks.b0
      simp only [decide_eq_true h2, cond_true, inb_eq h0 h2, toNat_ofNat, up64 (show i ≤ 4398046511104 by omega)]
      exact Ev2.bind (specFold_ev _ (by omega) (by omega)) s1
    · unfold impl_FoldAcks.b0
      simp only [decide_eq_true h2, cond_true, inb_eq h0 h2, toNat_ofNat, up64 (show i ≤ 4398046511104 by omega)]
      exact Ev2.bind (implFold_ev _ (by omega) (by omega)) s2
theorem acks_ev {l : PairL} {as : List (Ty.den TAck)} (hn : as.length ≤ 1048576) (hl : l.length ≤ 1048576) (hs : (as.map al).sum ≤ 1048576) :
    Ev (fun k => spec_FoldAcks.f k l as) (acksV as l, ()) ∧ Ev (fun k => impl_FoldAcks.f k l as) (acksV as l, ()) := by
  obtain ⟨s1, s2⟩ := acksL hn as.length 0 l (by omega) (by omega) (by rw [List.drop_zero]; omega) (by rw [List.drop_zero]; omega)
  rw [List.drop_zero] at s1 s2
  have hr : l.length * Ty.bytes TPair ≤ 140737488355328 := by have : Ty.bytes TPair = 40 := rfl; rw [this]; omega
  refine ⟨Ev.eq s1.diag fun k => ?_, ?_⟩
  · show rm _ _ _ = _
    rw [Nat.zero_add, rm_eq hr (by omega)]
    rfl
  · show Ev (fun k => impl_FoldAcks.t k (impl_FoldAcks.l0 k k) l as) _
    unfold impl_FoldAcks.t
    refine Ev.bind (Ev.of fun k => copy_eq k l (by omega)) ?_
    exact s2.diag
/- A batch's pairs bear its number. -/
def inst (b : Int) (T : List (Ty.den TPair × Bool)) : PairL := T.map fun x => bif x.2 then (x.1.1, (x.1.2.1, (b, ()))) else x.1
theorem inst_key (b : Int) (x : Ty.den TPair × Bool) : (bif x.2 then ((x.1.1, (x.1.2.1, (b, ()))) : Ty.den TPair) else x.1).1 = x.1.1 := by
  cases x.2 <;> rfl
theorem fold_inst : ∀ (puts : List (Ty.den TPut)) (T : List (Ty.den TPair × Bool)), ∃ T', ∀ b, foldV (inst b T) puts b = inst b T'
  | [], T => ⟨T, fun b => rfl⟩
  | q :: puts, T => by
    have hw : ∀ b, withoutV (inst b T) q.1 = inst b (T.filter fun x => !(seq x.1.1 q.1)) := fun b => by
      unfold withoutV inst
      rw [List.filter_map]
      congr 1
      apply List.filter_congr
      intro x _
      show (!(seq (bif x.2 then ((x.1.1, (x.1.2.1, (b, ()))) : Ty.den TPair) else x.1).1 q.1)) = _
      rw [inst_key]
    have hi : ∀ b (U : List (Ty.den TPair × Bool)), insV (inst b U) (q.1, (q.2.2.1, (b, ()))) = inst b (U.takeWhile (fun x => leP q.1 x.1) ++ ((q.1, (q.2.2.1, (b, ()))), true) :: U.dropWhile (fun x => leP q.1 x.1)) := fun b U => by
      unfold insV inst
      have e : (leP q.1 ∘ fun x : Ty.den TPair × Bool => (bif x.2 then ((x.1.1, (x.1.2.1, (b, ()))) : Ty.den TPair) else x.1)) = fun x => leP q.1 x.1 := by
        funext x
        show leP q.1 _ = _
        unfold leP
        rw [inst_key]
      rw [List.takeWhile_map, List.dropWhile_map, e, List.map_append, List.map_cons]
      rfl
    cases hd : q.2.1
    · obtain ⟨T', h⟩ := fold_inst puts ((T.filter fun x => !(seq x.1.1 q.1)).takeWhile (fun x => leP q.1 x.1) ++ ((q.1, (q.2.2.1, (0, ()))), true) :: (T.filter fun x => !(seq x.1.1 q.1)).dropWhile (fun x => leP q.1 x.1))
      refine ⟨T', fun b => ?_⟩
      rw [← h b]
      show foldV (setV (inst b T) (q.1, (q.2.2.1, (b, ()))) q.2.1) puts b = _
      unfold setV
      rw [hd, cond_false]
      congr 1
      show insV (withoutV (inst b T) q.1) _ = _
      rw [hw, hi]
      unfold inst
      rw [List.map_append, List.map_append, List.map_cons, List.map_cons]
      rfl
    · obtain ⟨T', h⟩ := fold_inst puts (T.filter fun x => !(seq x.1.1 q.1))
      refine ⟨T', fun b => ?_⟩
      rw [← h b]
      show foldV (setV (inst b T) (q.1, (q.2.2.1, (b, ()))) q.2.1) puts b = _
      unfold setV
      rw [hd, cond_true]
      congr 1
      exact hw b
theorem inst_id (b : Int) (L : PairL) : inst b (L.map fun x => (x, false)) = L := by
  unfold inst
  rw [List.map_map]
  exact List.map_id' L
theorem fold_batch (L : PairL) (puts : List (Ty.den TPut)) : (∀ b c, foldV L puts b = foldV L puts c) ∨ (∀ b, ∃ y, y ∈ foldV L puts b ∧ y.2.2.1 = b) := by
  obtain ⟨T, h⟩ := fold_inst puts (L.map fun x => (x, false))
  have h : ∀ b, foldV L puts b = inst b T := fun b => by
    have := h b
    rw [inst_id b L] at this
    exact this
  by_cases c : ∃ x, x ∈ T ∧ x.2 = true
  · obtain ⟨x, hx, h2⟩ := c
    refine .inr fun b => ⟨(x.1.1, (x.1.2.1, (b, ()))), ?_, rfl⟩
    rw [h b]
    unfold inst
    rw [List.mem_map]
    exact ⟨x, hx, by rw [h2, cond_true]⟩
  · refine .inl fun b d => ?_
    rw [h b, h d]
    unfold inst
    apply List.map_congr_left
    intro x hx
    have : x.2 = false := by
      cases q : x.2
      · rfl
      · exact absurd ⟨x, hx, q⟩ c
    rw [this]
    rfl
section
variable {A L B : PairL} {fl : List (Ty.den TPut)} {as : List (Ty.den TAck)} {code : Int}
theorem specEndL (hA : A.length ≤ 1048576) (hL : L.length ≤ 2097152) (hf : fl.length ≤ 1048576) (hne : fl.length ≠ 0) : ∀ (d i : Nat), A.length - i = d → i ≤ A.length →
    ∃ v : Bool, Ev2 (fun k n => spec_EndOk.l0 k n (i : Int) B as fl A code L) (v, ()) ∧ (v = true ↔ (∃ x, x ∈ A.drop i ∧ A = foldV L fl x.2.2.1) ∨ A = foldV L fl 1)
  | 0, i, hd, hi => by
    have h2 : ¬ ((i : Int) < (A.length : Int)) := by omega
    have h3 : ((fl.length : Int) > 0) := by omega
    obtain ⟨v, s1, s2, s3⟩ := same_ev A (foldV L fl 1) (by omega)
    refine ⟨v, Ev2.step (b := fun k n => spec_EndOk.b0 k (spec_EndOk.l0 k n) (i : Int) B as fl A code L) (fun k n => rfl) ?_, ?_⟩
    · unfold spec_EndOk.b0
      simp only [decide_eq_false h2, cond_false, decide_eq_true h3, cond_true]
      exact Ev2.bind (specFold_ev 1 (by omega) (by omega)) (Ev2.bind s1 (Ev2.of fun _ _ => rfl))
    · rw [List.drop_eq_nil_of_le (by omega), s3]
      constructor
      · intro h; exact .inr h
      · rintro (⟨x, hx, _⟩ | h)
        · cases hx
        · exact h
  | d + 1, i, hd, hi => by
    have h2 : ((i : Int) < (A.length : Int)) := by omega
    have h3 : ((fl.length : Int) > 0) := by omega
    have h0 := Int.natCast_nonneg i
    obtain ⟨w, t1, t2⟩ := specEndL hA hL hf hne d (i + 1) (by omega) (by omega)
    obtain ⟨v, s1, s2, s3⟩ := same_ev A (foldV L fl (A.getD i (Ty.dflt TPair)).2.2.1) (by omega)
    have da := drop_one (z := Ty.dflt TPair) (show i < A.length by omega)
    have main : ∀ v : Bool, (Ev2 (fun k n => spec_EndOk.b0 k (spec_EndOk.l0 k n) (i : Int) B as fl A code L) (v, ()) ∧ (v = true ↔ (∃ x, x ∈ A.drop i ∧ A = foldV L fl x.2.2.1) ∨ A = foldV L fl 1)) →
        ∃ v : Bool, Ev2 (fun k n => spec_EndOk.l0 k n (i : Int) B as fl A code L) (v, ()) ∧ (v = true ↔ (∃ x, x ∈ A.drop i ∧ A = foldV L fl x.2.2.1) ∨ A = foldV L fl 1) :=
      fun v h => ⟨v, Ev2.step (fun k n => rfl) h.1, h.2⟩
    unfold spec_EndOk.b0 at main
    simp only [decide_eq_true h2, cond_true, decide_eq_true h3, inb_eq h0 h2, toNat_ofNat, up64 (show i ≤ 4398046511104 by omega)] at main
    cases v with
    | true =>
      refine main true ⟨Ev2.bind (specFold_ev _ (by omega) (by omega)) (Ev2.bind s1 (Ev2.of fun _ _ => rfl)), ?_⟩
      constructor
      · intro _
        exact .inl ⟨_, by rw [da]; exact List.mem_cons_self .., s3.1 rfl⟩
      · intro _; rfl
    | false =>
      refine main w ⟨Ev2.bind (specFold_ev _ (by omega) (by omega)) (Ev2.bind s1 t1), ?_⟩
      rw [t2, da]
      constructor
      · rintro (⟨x, hx, h⟩ | h)
        · exact .inl ⟨x, List.mem_cons_of_mem _ hx, h⟩
        · exact .inr h
      · rintro (⟨x, hx, h⟩ | h)
        · rcases List.mem_cons.1 hx with q | q
          · rw [q] at h
            have := s3.2 h
            cases this
          · exact .inl ⟨x, q, h⟩
        · exact .inr h
theorem implEndL {xs : List Int} (hx : xs.length ≤ 2097152) (hA : A.length ≤ 1048576) (hL : L.length ≤ 2097152) (hf : fl.length ≤ 1048576) : ∀ (d i : Nat), xs.length - i = d → i ≤ xs.length →
    ∃ v : Bool, Ev2 (fun k n => impl_EndOk.l1 k n (xs.length : Int) (i : Int) B as fl A code L xs) (v, ()) ∧ (v = true ↔ ∃ b, b ∈ xs.drop i ∧ A = foldV L fl b)
  | 0, i, hd, hi => by
    have h2 : ¬ ((i : Int) < (xs.length : Int)) := by omega
    refine ⟨false, Ev2.step (b := fun k n => impl_EndOk.b1 k (impl_EndOk.l1 k n) (xs.length : Int) (i : Int) B as fl A code L xs) (fun k n => rfl) ?_, ?_⟩
    · unfold impl_EndOk.b1
      simp only [decide_eq_false h2, cond_false]
      exact Ev2.of fun _ _ => rfl
    · rw [List.drop_eq_nil_of_le (by omega)]
      constructor
      · intro h; cases h
      · rintro ⟨b, hb, _⟩; cases hb
  | d + 1, i, hd, hi => by
    have h2 : ((i : Int) < (xs.length : Int)) := by omega
    have h0 := Int.natCast_nonneg i
    obtain ⟨w, t1, t2⟩ := implEndL hx hA hL hf d (i + 1) (by omega) (by omega)
    obtain ⟨v, s1, s2, s3⟩ := same_ev A (foldV L fl (xs.getD i (Ty.dflt (.int .i64)))) (by omega)
    have da := drop_one (z := Ty.dflt (.int .i64)) (show i < xs.length by omega)
    have main : ∀ v : Bool, (Ev2 (fun k n => impl_EndOk.b1 k (impl_EndOk.l1 k n) (xs.length : Int) (i : Int) B as fl A code L xs) (v, ()) ∧ (v = true ↔ ∃ b, b ∈ xs.drop i ∧ A = foldV L fl b)) →
        ∃ v : Bool, Ev2 (fun k n => impl_EndOk.l1 k n (xs.length : Int) (i : Int) B as fl A code L xs) (v, ()) ∧ (v = true ↔ ∃ b, b ∈ xs.drop i ∧ A = foldV L fl b) :=
      fun v h => ⟨v, Ev2.step (fun k n => rfl) h.1, h.2⟩
    unfold impl_EndOk.b1 at main
    simp only [decide_eq_true h2, cond_true, inb_eq h0 h2, toNat_ofNat, up64 (show i ≤ 4398046511104 by omega)] at main
    cases v with
    | true =>
      refine main true ⟨Ev2.bind (implFold_ev _ (by omega) (by omega)) (Ev2.bind s2 (Ev2.of fun _ _ => rfl)), ?_⟩
      constructor
      · intro _
        exact ⟨_, by rw [da]; exact List.mem_cons_self .., s3.1 rfl⟩
      · intro _; rfl
    | false =>
      refine main w ⟨Ev2.bind (implFold_ev _ (by omega) (by omega)) (Ev2.bind s2 t1), ?_⟩
      rw [t2, da]
      constructor
      · rintro ⟨b, hb, h⟩
        exact ⟨b, List.mem_cons_of_mem _ hb, h⟩
      · rintro ⟨b, hb, h⟩
        rcases List.mem_cons.1 hb with q | q
        · rw [q] at h
          have := s3.2 h
          cases this
        · exact ⟨b, q, h⟩
theorem implBatchL (hA : A.length ≤ 1048576) (hL : L.length ≤ 2097152) (hf : fl.length ≤ 1048576) : ∀ (d i : Nat) (xs : List Int), A.length - i = d → i ≤ A.length → xs.length ≤ i + 1 →
    ∃ v : Bool, Ev2 (fun k n => impl_EndOk.l0 k n A (A.length : Int) (i : Int) B as fl A code L xs) (v, ()) ∧ (v = true ↔ ∃ b, b ∈ xs ++ (A.drop i).map (fun x => x.2.2.1) ∧ A = foldV L fl b)
  | 0, i, xs, hd, hi, hx => by
    have h2 : ¬ ((i : Int) < (A.length : Int)) := by omega
    obtain ⟨v, s1, s2⟩ := implEndL (xs := xs) (A := A) (L := L) (B := B) (fl := fl) (as := as) (code := code) (by omega) hA hL hf xs.length 0 (by omega) (by omega)
    refine ⟨v, Ev2.step (b := fun k n => impl_EndOk.b0 k (impl_EndOk.l1 k k) (impl_EndOk.l0 k n) A (A.length : Int) (i : Int) B as fl A code L xs) (fun k n => rfl) ?_, ?_⟩
    · unfold impl_EndOk.b0
      simp only [decide_eq_false h2, cond_false]
      exact Ev2.one s1.diag
    · rw [List.drop_eq_nil_of_le (by omega), s2, List.drop_zero, List.map_nil, List.append_nil]
  | d + 1, i, xs, hd, hi, hx => by
    have h2 : ((i : Int) < (A.length : Int)) := by omega
    have h0 := Int.natCast_nonneg i
    have hr : (xs.length + 1) * Ty.bytes (.int .i64) ≤ 140737488355328 := by have : Ty.bytes (.int .i64) = 8 := rfl; rw [this]; omega
    obtain ⟨v, s1, s2⟩ := implBatchL hA hL hf d (i + 1) (xs ++ [(A.getD i (Ty.dflt TPair)).2.2.1]) (by omega) (by omega) (by rw [List.length_append]; show _ + 1 ≤ _; omega)
    refine ⟨v, Ev2.step (b := fun k n => impl_EndOk.b0 k (impl_EndOk.l1 k k) (impl_EndOk.l0 k n) A (A.length : Int) (i : Int) B as fl A code L xs) (fun k n => rfl) ?_, ?_⟩
    · unfold impl_EndOk.b0
      simp only [decide_eq_true h2, cond_true, inb_eq h0 h2, toNat_ofNat, up64 (show i ≤ 4398046511104 by omega), rm_eq hr (show xs.length + 1 ≤ 140737488355328 by omega)]
      exact s1
    · rw [s2, drop_one (z := Ty.dflt TPair) (show i < A.length by omega), List.map_cons, List.append_assoc]
      rfl
end
theorem al_weight : ∀ (as : List (Ty.den TAck)), (as.map al).sum ≤ (as.map (weight TAck)).sum
  | [] => Nat.le_refl _
  | h :: as => by
    have ih := al_weight as
    have e : weight TAck h = 0 + (weight (.slice TPut) h.2.1 + 0) := rfl
    have e2 : weight (.slice TPut) h.2.1 = h.2.1.length + (h.2.1.map (weight TPut)).sum := rfl
    rw [List.map_cons, List.sum_cons, List.map_cons, List.sum_cons]
    show h.2.1.length + _ ≤ _
    omega
theorem core_FnExactEndOk {a0 : Ty.den TEnd} (f0 : Wf TEnd a0) (w0 : weight TEnd a0 ≤ 1048576) :
    ∃ r, Ev (fun k => spec_EndOk.f k a0) r ∧ Ev (fun k => impl_EndOk.f k a0) r ∧ True := by
  obtain ⟨B, as, fl, A, code, u⟩ := a0
  change PairL at B A
  change List (Ty.den TAck) at as
  change List (Ty.den TPut) at fl
  change Int at code
  have e : weight TEnd (B, as, fl, A, code, u) = weight (.slice TPair) B + (weight (.slice TAck) as + (weight (.slice TPut) fl + (weight (.slice TPair) A + (0 + 0)))) := rfl
  have hB : B.length ≤ 1048576 := weight_len (t := TPair) (by omega)
  have hA : A.length ≤ 1048576 := weight_len (t := TPair) (by omega)
  have hf : fl.length ≤ 1048576 := weight_len (t := TPut) (by omega)
  have hn : as.length ≤ 1048576 := weight_len (t := TAck) (by omega)
  have hs : (as.map al).sum ≤ 1048576 := by have := al_weight as; have h2 := weight_slice (t := TAck) as; omega
  have hL := acksV_len as B
  obtain ⟨q1, q2⟩ := acks_ev hn hB hs
  obtain ⟨v, s1, s2, s3⟩ := same_ev A (acksV as B) (by omega)
  have spec0 : ∀ r, Ev (fun k => spec_EndOk.t k (spec_EndOk.l0 k k) (B, as, fl, A, code, u)) r → Ev (fun k => spec_EndOk.f k (B, as, fl, A, code, u)) r := fun r h => h
  have impl0 : ∀ r, Ev (fun k => impl_EndOk.t k (impl_EndOk.l0 k k) (B, as, fl, A, code, u)) r → Ev (fun k => impl_EndOk.f k (B, as, fl, A, code, u)) r := fun r h => h
  unfold spec_EndOk.t at spec0
  unfold impl_EndOk.t at impl0
  cases c : (code != 0)
  · simp only [c, cond_false] at spec0 impl0
    cases v
    · by_cases hne : fl.length = 0
      · have hz : ((fl.length : Int) == 0) = true := by rw [hne]; rfl
        simp only [hz, cond_true] at impl0
        have hsp : Ev2 (fun k n => spec_EndOk.l0 k n 0 B as fl A code (acksV as B)) (false, ()) := by
          have h3 : ¬ ((fl.length : Int) > 0) := by omega
          refine Ev2.step (b := fun k n => spec_EndOk.b0 k (spec_EndOk.l0 k n) 0 B as fl A code (acksV as B)) (fun k n => rfl) (Ev2.of fun k n => ?_)
          unfold spec_EndOk.b0
          simp only [decide_eq_false h3, cond_false]
          cases decide ((0 : Int) < (A.length : Int)) <;> rfl
        exact ⟨(false, ()), spec0 _ (Ev.bind q1 (Ev.bind s1 hsp.diag)), impl0 _ (Ev.bind q2 (Ev.bind s2 (Ev.of fun _ => rfl))), trivial⟩
      · have hz : ((fl.length : Int) == 0) = false := by rw [beq_eq_false_iff_ne]; omega
        simp only [hz, cond_false] at impl0
        obtain ⟨x, x1, x2⟩ := specEndL (A := A) (L := acksV as B) (B := B) (fl := fl) (as := as) (code := code) hA (by omega) hf hne A.length 0 (by omega) (by omega)
        obtain ⟨y, y1, y2⟩ := implBatchL (A := A) (L := acksV as B) (B := B) (fl := fl) (as := as) (code := code) hA (by omega) hf A.length 0 [0] (by omega) (by omega) (by simp)
        have exy : x = y := by
          rw [Bool.eq_iff_iff, x2, y2, List.drop_zero]
          have dich := fold_batch (acksV as B) fl
          constructor
          · rintro (⟨z, hz1, hz2⟩ | h)
            · exact ⟨z.2.2.1, by rw [List.mem_append]; right; exact List.mem_map_of_mem hz1, hz2⟩
            · rcases dich with q | q
              · exact ⟨0, by simp, h.trans (q 1 0)⟩
              · obtain ⟨z, hz1, hz2⟩ := q 1
                rw [← h] at hz1
                exact ⟨z.2.2.1, by rw [List.mem_append]; right; exact List.mem_map_of_mem hz1, by rw [hz2]; exact h⟩
          · rintro ⟨b, hb, h⟩
            rcases List.mem_append.1 hb with hb | hb
            · rw [List.mem_singleton] at hb
              subst hb
              rcases dich with q | q
              · exact .inr (h.trans (q 0 1))
              · obtain ⟨z, hz1, hz2⟩ := q 0
                rw [← h] at hz1
                exact .inl ⟨z, hz1, by rw [hz2]; exact h⟩
            · rw [List.mem_map] at hb
              obtain ⟨z, hz1, hz2⟩ := hb
              exact .inl ⟨z, hz1, by rw [hz2]; exact h⟩
        subst exy
        exact ⟨(x, ()), spec0 _ (Ev.bind q1 (Ev.bind s1 x1.diag)), impl0 _ (Ev.bind q2 (Ev.bind s2 y1.diag)), trivial⟩
    · exact ⟨(true, ()), spec0 _ (Ev.bind q1 (Ev.bind s1 (Ev.of fun _ => rfl))), impl0 _ (Ev.bind q2 (Ev.bind s2 (Ev.of fun _ => rfl))), trivial⟩
  · simp only [c, cond_true] at spec0 impl0
    exact ⟨(false, ()), spec0 _ (Ev.of fun _ => rfl), impl0 _ (Ev.bind q2 (Ev.of fun _ => rfl)), trivial⟩
end Go.Proofs.Ytiigjojchlplpaa.G

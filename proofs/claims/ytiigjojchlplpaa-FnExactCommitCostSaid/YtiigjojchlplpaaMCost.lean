/- M: PutsOk, recordsOf, CommitCost: what they answer, in both readings. -/
import Derived.Test.YtiigjojchlplpaaMPairs
set_option linter.unusedVariables false
set_option linter.unusedSimpArgs false
namespace Go.Proofs.Ytiigjojchlplpaa.G
open Go.V
abbrev PutL := List (Ty.den TPut)
def putOkB (x : Ty.den TPut) : Bool := keyOkB x.1 && (decide ((x.2.2.1.size : Int) ≤ 24) && (!x.2.1 || seq x.2.2.1 ⟨#[]⟩))
def putsOk (l : PutL) : Bool := adj (fun _ => putOkB) none l && decide (l.length ≤ 8)
theorem specPutsOk_eq {k : Nat} (hk : 2 ^ 50 ≤ k) (l : PutL) : spec_PutsOk.f k l = some (putsOk l, ()) := by
  unfold spec_PutsOk.f spec_PutsOk.t putsOk
  by_cases c : l.length > 8
  · rw [decT (by omega), cond_true, decF (by omega), Bool.and_false]
  · rw [decF (by omega), cond_false, decT (by omega), Bool.and_true]
    have st : ∀ (n : Nat) (i : Int) x, 0 ≤ i → i < l.length → l.getD i.toNat (Ty.dflt TPut) = x → spec_PutsOk.l0 k (n + 1) l i = bif putOkB x then spec_PutsOk.l0 k n l (i + 1) else some (false, ()) := fun n i x h0 h1 hx => by
      simp (disch := omega) only [spec_PutsOk.l0, spec_PutsOk.b0, decT h1, cond_true, inb_eq, hx, specKeyOk_eq k, Option.bind_some, w64_eq, putOkB, keyOkB]
      by_cases c2 : (x.2.2.1.size : Int) > 24
      · rw [decT c2, decF (show ¬ (x.2.2.1.size : Int) ≤ 24 by omega)]
        cases decide (1 ≤ (x.1.size : Int) ∧ (x.1.size : Int) ≤ 8) <;> rfl
      · rw [decF c2, decT (show (x.2.2.1.size : Int) ≤ 24 by omega)]
        cases decide (1 ≤ (x.1.size : Int) ∧ (x.1.size : Int) ≤ 8) <;> cases x.2.1 <;> cases seq x.2.2.1 ⟨#[]⟩ <;> rfl
    exact (forAdj (L := fun n i => spec_PutsOk.l0 k n l i) (Ty.dflt TPut) l (fun _ => putOkB) (some (true, ())) (some (false, ())) (fun n => by simp (disch := omega) only [spec_PutsOk.l0, spec_PutsOk.b0, decF, cond_false])
      (fun n x h hx => st n 0 x (by omega) (by omega) hx) (fun n i x y h0 h1 hx hy => st n i x (by omega) h1 hx) (n := k) (by omega)).trans (by cases adj (fun _ => putOkB) none l <;> rfl)
theorem implPutsOk_eq {k : Nat} (hk : 2 ^ 50 ≤ k) {l : PutL} (hl : l.length ≤ 1099511627776) : impl_PutsOk.f k l = some (putsOk l, ()) := by
  unfold impl_PutsOk.f impl_PutsOk.t putsOk
  have st : ∀ (n : Nat) (i : Int) x, 0 ≤ i → i < l.length → l.getD i.toNat (Ty.dflt TPut) = x → impl_PutsOk.l0 k (n + 1) l l l.length i = bif putOkB x then impl_PutsOk.l0 k n l l l.length (i + 1) else some (false, ()) := fun n i x h0 h1 hx => by
    have e : impl_putOk.f k x = some (putOkB x, ()) := by
      unfold impl_putOk.f impl_putOk.t putOkB keyOkB
      rw [implKeyOk_eq, Option.bind_some]
      cases decide (1 ≤ (x.1.size : Int) ∧ (x.1.size : Int) ≤ 8) <;> cases decide ((x.2.2.1.size : Int) ≤ 24) <;> cases x.2.1 <;> rfl
    simp (disch := omega) only [impl_PutsOk.l0, impl_PutsOk.b0, decT h1, cond_true, inb_eq, hx, e, Option.bind_some, w64_eq]
    cases putOkB x <;> rfl
  exact (forAdj (L := fun n i => impl_PutsOk.l0 k n l l l.length i) (Ty.dflt TPut) l (fun _ => putOkB) (some (decide ((l.length : Int) ≤ 8), ())) (some (false, ())) (fun n => by simp (disch := omega) only [impl_PutsOk.l0, impl_PutsOk.b0, decF, cond_false])
    (fun n x h hx => st n 0 x (by omega) (by omega) hx) (fun n i x y h0 h1 hx hy => st n i x (by omega) h1 hx) (n := k) (by omega)).trans (by rw [show decide ((l.length : Int) ≤ 8) = decide (l.length ≤ 8) from decide_eq_decide.2 (by omega)]; cases adj (fun _ => putOkB) none l <;> rfl)
theorem putsOk_len {l : PutL} (h : putsOk l = true) : l.length ≤ 8 := by
  unfold putsOk at h
  rw [Bool.and_eq_true, decide_eq_true_eq] at h
  exact h.2
theorem putsOk_mem {l : PutL} (h : putsOk l = true) {x : Ty.den TPut} (hx : x ∈ l) : putOkB x = true := by
  unfold putsOk at h
  rw [Bool.and_eq_true] at h
  exact (adj_all h.1 hx).elim fun _ q => q
def putR (b : Int) (p : Ty.den TPut) : Ty.den TRec := bif p.2.1 then (2, (b, (p.1, (ByteArray.empty, (0, (0, ())))))) else (1, (b, (p.1, (p.2.2.1, (0, (0, ()))))))
def recsM (l : PutL) (b : Int) : RecL := l.map (putR b) ++ [sealR 3 b (l.map (putR b))]
theorem implRecordsOf_eq {k : Nat} (hk : 2 ^ 50 ≤ k) {l : PutL} (hl : l.length ≤ 1073741823) (b : Int) : impl_recordsOf.f k l b = some (recsM l b, ()) := by
  unfold impl_recordsOf.f impl_recordsOf.t
  refine (forL0 (L := fun n i s => impl_recordsOf.l0 k n l b l l.length i s) (R := fun r s => some (s ++ r.map (putR b) ++ [sealR 3 b (s ++ r.map (putR b))], ())) (Ty.dflt TPut) l (fun i s => (s.length : Int) = i) (fun n s hs => ?_) (fun n i s x rest h0 h1 hx hr hp ih => ?_) (n := k) (s := []) (by omega) (by decide)).trans (by rw [List.nil_append]; rfl)
  · simp (disch := first | omega | decide) only [impl_recordsOf.l0, impl_recordsOf.b0, decF, cond_false, implSumOf_eq hk, Option.bind_some, rm_ok, List.map_nil, List.append_nil, sealR, hs]
  · have ih := ih (s ++ [putR b x]) (by rw [List.length_append]; show ((s.length + 1 : Nat) : Int) = _; omega)
    have e : putR b x = bif x.2.1 then (2, (b, (x.1, (ByteArray.empty, (0, (0, ())))))) else (1, (b, (x.1, (x.2.2.1, (0, (0, ())))))) := rfl
    simp (disch := first | omega | decide) only [impl_recordsOf.l0, impl_recordsOf.b0, decT, cond_true, inb_eq, hx, rm_ok, w64_eq]
    cases c : x.2.1 <;> rw [c] at e <;> simp only [cond_true, cond_false] at e ⊢ <;> rw [← e] <;> refine ih.trans ?_ <;> simp only [List.map_cons, List.append_assoc, List.cons_append, List.nil_append]
/- The cost of a batch. -/
def recLen (r : Ty.den TRec) : Int := ((frameM (showRec r)).size : Int)
theorem recLen_in (r : Ty.den TRec) : 0 ≤ recLen r ∧ recLen r ≤ 211 := by
  have := frameM_size (showRec r)
  unfold recLen
  omega
def costM : RecL → Int → Int → Int → Int × Int
  | [], sz, st, by_ => (st, by_)
  | r :: l, sz, st, by_ => if 0 < sz ∧ recLen r > 200 - sz then costM l (recLen r) (st + 6 + 1) (by_ + recLen r) else costM l (sz + recLen r) (st + 1) (by_ + recLen r)
def commitCostM (s : Ty.den TStore) (l : PutL) : Ty.den TCost :=
  if l.length ≠ 0 ∧ putsOk l = true ∧ 1 ≤ s.2.2.1 ∧ s.2.2.1 ≤ 1000000 ∧ 0 ≤ s.2.2.2.1 then ((costM (recsM l s.2.2.1) s.2.2.2.1 1 0).1, ((costM (recsM l s.2.2.1) s.2.2.2.1 1 0).2, ())) else (0, (0, ()))
theorem implCost_l {k : Nat} (hk : 2 ^ 50 ≤ k) {rs : RecL} (hr : rs.length ≤ 1000) {sz z1 z2 : Int} (h0 : 0 ≤ sz) (h1 : sz ≤ 9223372036854775807) : impl_CommitCost.l0 k k sz rs.length 0 z1 z2 1 0 rs = some (((costM rs sz 1 0).1, ((costM rs sz 1 0).2, ())), ()) := by
  refine (forL0 (L := fun n i (s : Int × Int × Int) => impl_CommitCost.l0 k n s.1 rs.length i z1 z2 s.2.1 s.2.2 rs) (R := fun r s => some (((costM r s.1 s.2.1 s.2.2).1, ((costM r s.1 s.2.1 s.2.2).2, ())), ())) (Ty.dflt TRec) rs (fun i s => 0 ≤ s.1 ∧ s.1 ≤ 9223372036854775807 ∧ 0 ≤ s.2.1 ∧ s.2.1 ≤ 7 * i + 1 ∧ 0 ≤ s.2.2 ∧ s.2.2 ≤ 211 * i) (fun n s hs => ?_) (fun n i s x rest h2 h3 hx hr' hp ih => ?_) (n := k) (s := (sz, (1, 0))) (by omega) ⟨h0, h1, by simp, by simp, by simp, by simp⟩)
  · simp (disch := omega) only [impl_CommitCost.l0, impl_CommitCost.b0, decF, cond_false, costM]
  · obtain ⟨a, b, c⟩ := s
    obtain ⟨p1, p2, p3, p4, p5, p6⟩ := hp
    simp only [] at p1 p2 p3 p4 p5 p6
    have hl := recLen_in x
    have el : ((frameM (showRec x)).size : Int) = recLen x := rfl
    simp (disch := omega) only [impl_CommitCost.l0, impl_CommitCost.b0, decT h3, cond_true, inb_eq, hx, implShowRec_eq hk, implFrame_eq hk, Option.bind_some, el, costM]
    by_cases c1 : 0 < a
    · by_cases c2 : recLen x > 200 - a
      · rw [if_pos ⟨c1, c2⟩]
        have ih := ih (recLen x, (b + 6 + 1, c + recLen x)) ⟨by simp only []; omega, by simp only []; omega, by simp only []; omega, by simp only []; omega, by simp only []; omega, by simp only []; omega⟩
        simp (disch := omega) only [decT (show a > 0 from c1), decT (show a > 200 - recLen x by omega), cond_true, w64_eq, Int.zero_add]
        exact ih
      · rw [if_neg (by omega)]
        have ih := ih (a + recLen x, (b + 1, c + recLen x)) ⟨by simp only []; omega, by simp only []; omega, by simp only []; omega, by simp only []; omega, by simp only []; omega, by simp only []; omega⟩
        simp (disch := omega) only [decT (show a > 0 from c1), decF (show ¬ a > 200 - recLen x by omega), cond_true, cond_false, w64_eq]
        exact ih
    · rw [if_neg (by omega)]
      have ih := ih (a + recLen x, (b + 1, c + recLen x)) ⟨by simp only []; omega, by simp only []; omega, by simp only []; omega, by simp only []; omega, by simp only []; omega, by simp only []; omega⟩
      simp (disch := omega) only [decF (show ¬ a > 0 from c1), cond_true, cond_false, w64_eq]
      exact ih
theorem implCommitCost_eq {k : Nat} (hk : 2 ^ 50 ≤ k) {s : Ty.den TStore} {l : PutL} (hl : l.length ≤ 1073741823) (hs : s.2.2.2.1 ≤ (9223372036854775807 : Int)) : impl_CommitCost.f k s l = some (commitCostM s l, ()) := by
  unfold impl_CommitCost.f impl_CommitCost.t commitCostM
  by_cases c0 : l.length = 0
  · rw [if_neg (by omega), show ((l.length : Int) == 0) = true by rw [c0]; rfl]; rfl
  rw [show ((l.length : Int) == 0) = false from beq_eq_false_iff_ne.2 (by omega), cond_false, implPutsOk_eq hk (by omega), Option.bind_some]
  cases c1 : putsOk l with
  | false => rw [if_neg (fun h => by cases h.2.1)]; rfl
  | true =>
    simp only [Bool.not_true, cond_false, in_eq, Option.bind_some]
    by_cases c2 : 1 ≤ s.2.2.1 ∧ s.2.2.1 ≤ 1000000
    · rw [decT c2, Bool.not_true, cond_false]
      by_cases c3 : s.2.2.2.1 < 0
      · rw [decT c3, cond_true, if_neg (fun h => absurd h.2.2.2.2 (Int.not_le.2 c3))]
      · rw [decF c3, cond_false, if_pos ⟨c0, trivial, c2.1, c2.2, Int.not_lt.1 c3⟩, implRecordsOf_eq hk hl, Option.bind_some]
        have h8 := putsOk_len c1
        exact implCost_l hk (by unfold recsM; rw [List.length_append, List.length_map]; show _ + 1 ≤ _; omega) (Int.not_lt.1 c3) hs
    · rw [decF c2, if_neg (fun h => c2 ⟨h.2.2.1, h.2.2.2.1⟩)]; rfl
theorem putR_spec {x : Ty.den TPut} (b : Int) (h : putOkB x = true) : putR b x = bif x.2.1 then (2, (b, (x.1, (x.2.2.1, (0, (0, ())))))) else (1, (b, (x.1, (x.2.2.1, (0, (0, ())))))) := by
  unfold putR
  unfold putOkB at h
  rw [Bool.and_eq_true, Bool.and_eq_true] at h
  cases c : x.2.1 with
  | false => rfl
  | true =>
    rw [c] at h
    have : x.2.2.1 = ⟨#[]⟩ := seq_iff.1 h.2.2
    rw [this]
    rfl
theorem costM_step (r : Ty.den TRec) (l : RecL) (sz st by_ : Int) : costM (r :: l) sz st by_ = if 0 < sz ∧ recLen r > 200 - sz then costM l (recLen r) (st + 6 + 1) (by_ + recLen r) else costM l (sz + recLen r) (st + 1) (by_ + recLen r) := rfl
theorem specCommitCost_eq {k : Nat} (hk : 2 ^ 50 ≤ k) {s : Ty.den TStore} {l : PutL} (hs : s.2.2.2.1 ≤ (9223372036854775807 : Int)) : spec_CommitCost.f k s l = some (commitCostM s l, ()) := by
  unfold spec_CommitCost.f spec_CommitCost.t commitCostM
  by_cases c0 : l.length = 0
  · rw [if_neg (by omega), show ((l.length : Int) == 0) = true by rw [c0]; rfl]; rfl
  rw [show ((l.length : Int) == 0) = false from beq_eq_false_iff_ne.2 (by omega), cond_false, specPutsOk_eq hk, Option.bind_some]
  cases c1 : putsOk l with
  | false => rw [if_neg (fun h => by cases h.2.1)]; rfl
  | true =>
    simp only [Bool.not_true, cond_false, l1In_eq, Option.bind_some]
    by_cases c2 : 1 ≤ s.2.2.1 ∧ s.2.2.1 ≤ 1000000
    · rw [decT c2, Bool.not_true, cond_false]
      by_cases c3 : s.2.2.2.1 < 0
      · rw [decT c3, cond_true, if_neg (fun h => absurd h.2.2.2.2 (Int.not_le.2 c3))]
      · rw [decF c3, cond_false, if_pos ⟨c0, trivial, c2.1, c2.2, Int.not_lt.1 c3⟩]
        have h8 := putsOk_len c1
        generalize s.2.2.1 = bt at *
        have h9 : (0 : Int) ≤ s.2.2.2.1 := Int.not_lt.1 c3
        generalize s.2.2.2.2.1 = z3
        change Int at bt
        have fin : ∀ (rs : RecL) (n : Nat) (a b c z1 z2 : Int), spec_CommitCost.l0 k (n + 1) l a (l.length + 1) s.1.1 s.1.2.1 s.2.1 bt z1 z3 0 z2 b c rs = some ((w64 (b + 1), (c, ())), ()) := fun rs n a b c z1 z2 => by
          simp (disch := omega) only [spec_CommitCost.l0, spec_CommitCost.b0, decF, cond_false]
        have key : ∀ (n : Nat) (i : Int) (t : Int × Int × Int × RecL), 0 ≤ i → i ≤ l.length → (l.length : Int) - i + 1 < n → (0 ≤ t.1 ∧ t.1 ≤ 9223372036854775807 ∧ 0 ≤ t.2.1 ∧ t.2.1 ≤ 7 * i ∧ 0 ≤ t.2.2.1 ∧ t.2.2.1 ≤ 211 * i ∧ (t.2.2.2.length : Int) = i) →
            spec_CommitCost.l0 k n l t.1 i s.1.1 s.1.2.1 s.2.1 bt s.2.2.2.1 z3 0 0 t.2.1 t.2.2.1 t.2.2.2 =
              some (((costM ((l.drop i.toNat).map (putR bt) ++ [sealR 3 bt (t.2.2.2 ++ (l.drop i.toNat).map (putR bt))]) t.1 (t.2.1 + 1) t.2.2.1).1, ((costM ((l.drop i.toNat).map (putR bt) ++ [sealR 3 bt (t.2.2.2 ++ (l.drop i.toNat).map (putR bt))]) t.1 (t.2.1 + 1) t.2.2.1).2, ())), ()) := by
          intro n i t h0 h1 hn ht
          obtain ⟨n, rfl⟩ : ∃ q, n = q + 2 := ⟨n - 2, by omega⟩
          refine forL (L := fun n i (t : Int × Int × Int × RecL) => spec_CommitCost.l0 k (n + 1) l t.1 i s.1.1 s.1.2.1 s.2.1 bt s.2.2.2.1 z3 0 0 t.2.1 t.2.2.1 t.2.2.2)
            (R := fun r t => some (((costM (r.map (putR bt) ++ [sealR 3 bt (t.2.2.2 ++ r.map (putR bt))]) t.1 (t.2.1 + 1) t.2.2.1).1, ((costM (r.map (putR bt) ++ [sealR 3 bt (t.2.2.2 ++ r.map (putR bt))]) t.1 (t.2.1 + 1) t.2.2.1).2, ())), ()))
            (Ty.dflt TPut) l (fun i t => 0 ≤ t.1 ∧ t.1 ≤ 9223372036854775807 ∧ 0 ≤ t.2.1 ∧ t.2.1 ≤ 7 * i ∧ 0 ≤ t.2.2.1 ∧ t.2.2.1 ≤ 211 * i ∧ (t.2.2.2.length : Int) = i) (fun n t hs => ?_) (fun n i t x rest h2 h3 hx hr' hp ih => ?_) (n + 1) i t h0 h1 (by omega) ht
          · obtain ⟨a, b, c, rs⟩ := t
            obtain ⟨p1, p2, p3, p4, p5, p6, p7⟩ := hs
            simp only [] at p1 p2 p3 p4 p5 p6 p7
            have hl := recLen_in (sealR 3 bt rs)
            have el : ((frameM (showRec (sealR 3 bt rs))).size : Int) = recLen (sealR 3 bt rs) := rfl
            simp (disch := omega) only [List.map_nil, List.append_nil, List.nil_append]
            rw [costM_step]
            simp only [costM]
            rw [show spec_CommitCost.l0 k (n + 1 + 1) l a l.length s.1.1 s.1.2.1 s.2.1 bt s.2.2.2.1 z3 0 0 b c rs = spec_CommitCost.b0 k (spec_CommitCost.l0 k (n + 1)) l a l.length s.1.1 s.1.2.1 s.2.1 bt s.2.2.2.1 z3 0 0 b c rs from rfl]
            unfold spec_CommitCost.b0
            simp (disch := omega) only [decT (show (l.length : Int) ≤ l.length by omega), decF (show ¬ (l.length : Int) < l.length by omega), cond_true, cond_false, specSeal_eq hk, specShowRec_eq hk, specFrame_eq hk, Option.bind_some, el, w64_eq, fin]
            by_cases q1 : 0 < a
            · by_cases q2 : recLen (sealR 3 bt rs) > 200 - a
              · rw [if_pos ⟨q1, q2⟩, decT (show a > 0 from q1), cond_true, decT q2, cond_true]
                simp only []
                rw [show b + 6 + 1 + 1 = b + 1 + 6 + 1 by omega]
              · rw [if_neg (fun h => q2 h.2), decT (show a > 0 from q1), cond_true, decF q2, cond_false]
            · rw [if_neg (fun h => q1 h.1), decF (show ¬ a > 0 from q1), cond_false]
          · obtain ⟨a, b, c, rs⟩ := t
            obtain ⟨p1, p2, p3, p4, p5, p6, p7⟩ := hp
            simp only [] at p1 p2 p3 p4 p5 p6 p7
            have hl := recLen_in (putR bt x)
            have el : ((frameM (showRec (putR bt x))).size : Int) = recLen (putR bt x) := rfl
            have hm : x ∈ l := List.mem_of_mem_drop (by rw [hr']; exact List.mem_cons_self ..)
            have ep := putR_spec bt (putsOk_mem c1 hm)
            rw [List.map_cons, List.cons_append, costM_step]
            rw [show spec_CommitCost.l0 k (n + 1 + 1) l a i s.1.1 s.1.2.1 s.2.1 bt s.2.2.2.1 z3 0 0 b c rs = spec_CommitCost.b0 k (spec_CommitCost.l0 k (n + 1)) l a i s.1.1 s.1.2.1 s.2.1 bt s.2.2.2.1 z3 0 0 b c rs from rfl]
            unfold spec_CommitCost.b0
            have ih1 := ih (recLen (putR bt x), (b + 6 + 1, (c + recLen (putR bt x), rs ++ [putR bt x])))
            have ih2 := ih (a + recLen (putR bt x), (b + 1, (c + recLen (putR bt x), rs ++ [putR bt x])))
            simp only [List.length_append, List.length_cons, List.length_nil, List.append_assoc, List.cons_append, List.nil_append] at ih1 ih2
            cases cd : x.2.1 <;> rw [cd] at ep <;> simp only [cond_true, cond_false] at ep <;>
            (simp (disch := first | omega | decide) only [decT (show i ≤ (l.length : Int) by omega), decT h3, inb_eq, hx, cd, rm_ok, cond_true, cond_false, specSeal_eq hk, ← ep, specShowRec_eq hk, specFrame_eq hk, Option.bind_some, el, w64_eq, Int.zero_add]
             by_cases q1 : 0 < a
             · by_cases q2 : recLen (putR bt x) > 200 - a
               · rw [if_pos ⟨q1, q2⟩, decT (show a > 0 from q1), cond_true, decT q2, cond_true, show b + 1 + 6 + 1 = b + 6 + 1 + 1 by omega]
                 exact ih1 ⟨by omega, by omega, by omega, by omega, by omega, by omega, by omega⟩
               · rw [if_neg (fun h => q2 h.2), decT (show a > 0 from q1), cond_true, decF q2, cond_false, w64_eq (n := a + recLen (putR bt x)) (by omega) (by omega)]
                 exact ih2 ⟨by omega, by omega, by omega, by omega, by omega, by omega, by omega⟩
             · rw [if_neg (fun h => q1 h.1), decF (show ¬ a > 0 from q1), cond_false, w64_eq (n := a + recLen (putR bt x)) (by omega) (by omega)]
               exact ih2 ⟨by omega, by omega, by omega, by omega, by omega, by omega, by omega⟩)
        exact key k 0 (s.2.2.2.1, (0, (0, []))) (by omega) (by omega) (by omega) ⟨h9, hs, by simp, by simp, by simp, by simp, rfl⟩
    · rw [decF c2, if_neg (fun h => c2 ⟨h.2.2.1, h.2.2.2.1⟩)]; rfl
theorem wf_i64 {n : Int} (h : Wf (.int .i64) n) : -9223372036854775808 ≤ n ∧ n ≤ 9223372036854775807 := by
  have h1 : (Lit.int .i64 n).wf = true := h
  simpa [Lit.wf, IntKind.min, IntKind.max, IntKind.bits, IntKind.signed] using h1
theorem core_FnExactCommitCost {a0 : Ty.den TStore} {a1 : PutL} (f0 : Wf TStore a0) (f1 : Wf (.slice TPut) a1) (w0 : weight TStore a0 ≤ 1048576) (w1 : weight (.slice TPut) a1 ≤ 1048576) :
    ∃ r, Ev (fun k => spec_CommitCost.f k a0 a1) r ∧ Ev (fun k => impl_CommitCost.f k a0 a1) r ∧ wp TCost r.1 ≤ 4398046511104 := by
  have hl := weight_len w1
  have hs : a0.2.2.2.1 ≤ (9223372036854775807 : Int) := (wf_i64 f0.2.2.2.1).2
  refine ⟨_, ev_big fun k hk => specCommitCost_eq hk hs, ev_big fun k hk => implCommitCost_eq hk (by omega) hs, ?_⟩
  rw [wp_flat TCost _ rfl]
  omega
end Go.Proofs.Ytiigjojchlplpaa.G

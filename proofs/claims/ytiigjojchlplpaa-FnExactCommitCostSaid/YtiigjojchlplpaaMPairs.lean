/- M: PairsOk, keeps, ShowPairs, ReadPairs; PutsOk, recordsOf, CommitCost: what they answer, in both readings. -/
import Derived.Test.YtiigjojchlplpaaMScan2
set_option linter.unusedVariables false
set_option linter.unusedSimpArgs false
namespace Go.V
section
variable {α ρ : Type}
/-- A row is right if each of its places is right beside the one ahead. -/
def adj (ok : Option α → α → Bool) : Option α → List α → Bool
  | _, [] => true
  | p, x :: l => ok p x && adj ok (some x) l
theorem forAdj {L : Nat → Int → Option ρ} (z : α) (l : List α) (ok : Option α → α → Bool) (yes no : Option ρ) (h0 : ∀ (n : Nat), L (n + 1) l.length = yes)
    (h1 : ∀ (n : Nat) x, 0 < l.length → l.getD (Int.toNat 0) z = x → L (n + 1) 0 = bif ok none x then L n 1 else no)
    (h2 : ∀ (n : Nat) (i : Int) x y, 0 < i → i < l.length → l.getD i.toNat z = x → l.getD (i - 1).toNat z = y → L (n + 1) i = bif ok (some y) x then L n (i + 1) else no)
    {n : Nat} (hn : l.length < n) : L n 0 = bif adj ok none l then yes else no := by
  have key : ∀ (d i n : Nat), l.length = i + d → 0 < i → d < n → L n (i : Int) = bif adj ok (some (l.getD (i - 1) z)) (l.drop i) then yes else no := by
    intro d
    induction d with
    | zero =>
      intro i n h h' hn
      obtain ⟨n, rfl⟩ : ∃ q, n = q + 1 := ⟨n - 1, by omega⟩
      have : i = l.length := by omega
      subst this
      rw [h0 n, List.drop_length]
      rfl
    | succ d ih =>
      intro i n h h' hn
      obtain ⟨n, rfl⟩ : ∃ q, n = q + 1 := ⟨n - 1, by omega⟩
      have hl : i < l.length := by omega
      have e : l.drop i = l.getD i z :: l.drop (i + 1) := by
        rw [List.drop_eq_getElem_cons hl]
        simp [List.getD, hl]
      have ih := ih (i + 1) n (by omega) (by omega) (by omega)
      rw [h2 n i (l.getD i z) (l.getD (i - 1) z) (by omega) (by omega) (by rw [Int.toNat_natCast]) (by rw [show ((i : Int) - 1).toNat = i - 1 by omega]), e, adj]
      rw [show ((i : Int) + 1) = ((i + 1 : Nat) : Int) by omega, ih, show i + 1 - 1 = i by omega]
      cases ok (some (l.getD (i - 1) z)) (l.getD i z) <;> rfl
  obtain ⟨n, rfl⟩ : ∃ q, n = q + 1 := ⟨n - 1, by omega⟩
  cases l with
  | nil => exact h0 n
  | cons x l =>
    rw [h1 n x (by simp) rfl, adj]
    have := key l.length 1 n (by rw [List.length_cons]; omega) (by omega) (by rw [List.length_cons] at hn; omega)
    rw [show ((1 : Nat) : Int) = 1 from rfl] at this
    rw [this]
    cases ok none x <;> rfl
theorem adj_all {ok : Option α → α → Bool} {l : List α} {p : Option α} (h : adj ok p l = true) {x : α} (hx : x ∈ l) : ∃ q, ok q x = true := by
  induction l generalizing p with
  | nil => cases hx
  | cons y l ih =>
    rw [adj, Bool.and_eq_true] at h
    rcases List.mem_cons.1 hx with e | e
    · subst e; exact ⟨p, h.1⟩
    · exact ih h.2 e
end
end Go.V
namespace Go.Proofs.Ytiigjojchlplpaa.G
open Go.V
abbrev PairL := List (Ty.den TPair)
abbrev RecL := List (Ty.den TRec)
def keyOkB (s : ByteArray) : Bool := decide (1 ≤ (s.size : Int) ∧ (s.size : Int) ≤ 8)
def pairOk (p : Option (Ty.den TPair)) (x : Ty.den TPair) : Bool :=
  keyOkB x.1 && (decide ((x.2.1.size : Int) ≤ 24) && (decide (1 ≤ x.2.2.1 ∧ x.2.2.1 ≤ 1000000) && (match p with | none => true | some y => sls y.1 x.1)))
def pairsOk (l : PairL) : Bool := adj pairOk none l && decide (l.length ≤ 20)
theorem specPairsOk_eq {k : Nat} (hk : 2 ^ 50 ≤ k) (l : PairL) : spec_PairsOk.f k l = some (pairsOk l, ()) := by
  unfold spec_PairsOk.f spec_PairsOk.t pairsOk
  by_cases c : l.length > 20
  · rw [decT (by omega), cond_true, decF (by omega), Bool.and_false]
  · rw [decF (by omega), cond_false, decT (by omega), Bool.and_true]
    refine (forAdj (L := fun n i => spec_PairsOk.l0 k n l i) (Ty.dflt TPair) l pairOk (some (true, ())) (some (false, ())) (fun n => ?_) (fun n x h hx => ?_) (fun n i x y h0 h1 hx hy => ?_) (n := k) (by omega)).trans (by cases adj pairOk none l <;> rfl)
    · simp (disch := omega) only [spec_PairsOk.l0, spec_PairsOk.b0, decF, cond_false]
    · simp (disch := omega) only [spec_PairsOk.l0, spec_PairsOk.b0, decT (show (0 : Int) < (l.length : Int) by omega), cond_true, inb_eq, hx, specKeyOk_eq k, l1In_eq k, Option.bind_some, decF (show ¬ (0 : Int) > 0 by omega), cond_false, w64_eq, pairOk, keyOkB]
      by_cases c2 : (x.2.1.size : Int) > 24
      · rw [decT c2, decF (show ¬ (x.2.1.size : Int) ≤ 24 by omega)]
        cases decide (1 ≤ (x.1.size : Int) ∧ (x.1.size : Int) ≤ 8) <;> rfl
      · rw [decF c2, decT (show (x.2.1.size : Int) ≤ 24 by omega)]
        cases decide (1 ≤ (x.1.size : Int) ∧ (x.1.size : Int) ≤ 8) <;> cases decide (1 ≤ x.2.2.1 ∧ x.2.2.1 ≤ 1000000) <;> rfl
    · simp (disch := omega) only [spec_PairsOk.l0, spec_PairsOk.b0, decT h1, cond_true, inb_eq, hx, hy, specKeyOk_eq k, l1In_eq k, Option.bind_some, decT (show i > 0 by omega), cond_false, w64_eq, pairOk, keyOkB, sls_total]
      by_cases c2 : (x.2.1.size : Int) > 24
      · rw [decT c2, decF (show ¬ (x.2.1.size : Int) ≤ 24 by omega)]
        cases decide (1 ≤ (x.1.size : Int) ∧ (x.1.size : Int) ≤ 8) <;> rfl
      · rw [decF c2, decT (show (x.2.1.size : Int) ≤ 24 by omega)]
        cases decide (1 ≤ (x.1.size : Int) ∧ (x.1.size : Int) ≤ 8) <;> cases decide (1 ≤ x.2.2.1 ∧ x.2.2.1 ≤ 1000000) <;> cases sls y.1 x.1 <;> rfl
theorem implPairsOk_eq {k : Nat} (hk : 2 ^ 50 ≤ k) {l : PairL} (hl : l.length ≤ 1099511627776) : impl_PairsOk.f k l = some (pairsOk l, ()) := by
  unfold impl_PairsOk.f impl_PairsOk.t pairsOk
  refine (forAdj (L := fun n i => impl_PairsOk.l0 k n l l l.length i) (Ty.dflt TPair) l pairOk (some (decide ((l.length : Int) ≤ 20), ())) (some (false, ())) (fun n => ?_) (fun n x h hx => ?_) (fun n i x y h0 h1 hx hy => ?_) (n := k) (by omega)).trans
    (by rw [show decide ((l.length : Int) ≤ 20) = decide (l.length ≤ 20) from decide_eq_decide.2 (by omega)]; cases adj pairOk none l <;> rfl)
  · simp (disch := omega) only [impl_PairsOk.l0, impl_PairsOk.b0, decF, cond_false]
  · simp (disch := omega) only [impl_PairsOk.l0, impl_PairsOk.b0, decT (show (0 : Int) < (l.length : Int) by omega), cond_true, inb_eq, hx, implKeyOk_eq k, in_eq k, Option.bind_some, decF (show ¬ (0 : Int) > 0 by omega), cond_false, w64_eq, pairOk, keyOkB]
    by_cases c2 : (x.2.1.size : Int) > 24
    · rw [decT c2, decF (show ¬ (x.2.1.size : Int) ≤ 24 by omega)]
      cases decide (1 ≤ (x.1.size : Int) ∧ (x.1.size : Int) ≤ 8) <;> rfl
    · rw [decF c2, decT (show (x.2.1.size : Int) ≤ 24 by omega)]
      cases decide (1 ≤ (x.1.size : Int) ∧ (x.1.size : Int) ≤ 8) <;> cases decide (1 ≤ x.2.2.1 ∧ x.2.2.1 ≤ 1000000) <;> rfl
  · simp (disch := omega) only [impl_PairsOk.l0, impl_PairsOk.b0, decT h1, cond_true, inb_eq, hx, hy, implKeyOk_eq k, in_eq k, Option.bind_some, decT (show i > 0 by omega), cond_false, w64_eq, pairOk, keyOkB]
    by_cases c2 : (x.2.1.size : Int) > 24
    · rw [decT c2, decF (show ¬ (x.2.1.size : Int) ≤ 24 by omega)]
      cases decide (1 ≤ (x.1.size : Int) ∧ (x.1.size : Int) ≤ 8) <;> rfl
    · rw [decF c2, decT (show (x.2.1.size : Int) ≤ 24 by omega)]
      cases decide (1 ≤ (x.1.size : Int) ∧ (x.1.size : Int) ≤ 8) <;> cases decide (1 ≤ x.2.2.1 ∧ x.2.2.1 ≤ 1000000) <;> cases sls y.1 x.1 <;> rfl
/- Records that are kept, and their mark. -/
def keepR (p : Ty.den TPair) : Ty.den TRec := (4, (p.2.2.1, (p.1, (p.2.1, (0, (0, ()))))))
def sealR (kind batch : Int) (l : RecL) : Ty.den TRec := (kind, (batch, (ByteArray.empty, (ByteArray.empty, ((l.length : Int), (sumM l, ()))))))
def keepsM (l : PairL) (mark : Int) : RecL := l.map keepR ++ [sealR 5 mark (l.map keepR)]
theorem specSeal_eq {k : Nat} (hk : 2 ^ 50 ≤ k) {l : RecL} (hl : l.length ≤ 1073741824) (b kd : Int) : spec_l9Seal.f k l b kd = some (sealR kd b l, ()) := by
  unfold spec_l9Seal.f spec_l9Seal.t
  rw [specSumOf_eq hk hl, Option.bind_some]
  rfl
theorem implKeeps_eq {k : Nat} (hk : 2 ^ 50 ≤ k) {l : PairL} (hl : l.length ≤ 1073741823) (mark : Int) : impl_keeps.f k l mark = some (keepsM l mark, ()) := by
  unfold impl_keeps.f impl_keeps.t
  refine (forL0 (L := fun n i s => impl_keeps.l0 k n l mark l l.length i s) (R := fun r s => some (s ++ r.map keepR ++ [sealR 5 mark (s ++ r.map keepR)], ())) (Ty.dflt TPair) l (fun i s => (s.length : Int) = i) (fun n s hs => ?_) (fun n i s x rest h0 h1 hx hr hp ih => ?_) (n := k) (s := []) (by omega) (by decide)).trans (by rw [List.nil_append]; rfl)
  · simp (disch := first | omega | decide) only [impl_keeps.l0, impl_keeps.b0, decF, cond_false, implSumOf_eq hk, Option.bind_some, rm_ok, List.map_nil, List.append_nil, sealR, hs]
  · have ih := ih (s ++ [keepR x]) (by rw [List.length_append]; show ((s.length + 1 : Nat) : Int) = _; omega)
    simp (disch := first | omega | decide) only [impl_keeps.l0, impl_keeps.b0, decT, cond_true, inb_eq, hx, rm_ok, w64_eq]
    refine ih.trans ?_
    simp only [List.map_cons, List.append_assoc, List.cons_append, List.nil_append]
/-- Records, framed, one behind the other. -/
def framesM : RecL → ByteArray
  | [] => ⟨#[]⟩
  | r :: l => frameM (showRec r) ++ framesM l
theorem framesM_size : ∀ l : RecL, (framesM l).size ≤ 211 * l.length
  | [] => Nat.le_refl _
  | r :: l => by
    have h1 := frameM_size (showRec r)
    have h2 := framesM_size l
    rw [framesM, sz_app, List.length_cons]
    omega
theorem framesM_app : ∀ l m : RecL, framesM (l ++ m) = framesM l ++ framesM m
  | [], m => by rw [List.nil_append, framesM, app_nil]
  | r :: l, m => by rw [List.cons_append, framesM, framesM_app l m, framesM, app_assoc]
def showPairsM (l : PairL) : ByteArray := if pairsOk l = true then framesM (keepsM l 0) else ⟨#[]⟩
theorem pairsOk_len {l : PairL} (h : pairsOk l = true) : l.length ≤ 20 := by
  unfold pairsOk at h
  rw [Bool.and_eq_true, decide_eq_true_eq] at h
  exact h.2
theorem implShowPairs_eq {k : Nat} (hk : 2 ^ 50 ≤ k) {l : PairL} (hl : l.length ≤ 1099511627776) : impl_ShowPairs.f k l = some (showPairsM l, ()) := by
  unfold impl_ShowPairs.f impl_ShowPairs.t showPairsM
  rw [implPairsOk_eq hk hl, Option.bind_some]
  cases c : pairsOk l with
  | false => rfl
  | true =>
    have h20 := pairsOk_len c
    rw [if_pos rfl]
    simp only [Bool.not_true, cond_false]
    rw [implKeeps_eq hk (by omega), Option.bind_some]
    simp only []
    have hkl : (keepsM l 0).length ≤ 21 := by
      unfold keepsM
      rw [List.length_append, List.length_map]
      show _ + 1 ≤ _
      omega
    generalize keepsM l 0 = rs at hkl
    refine (forL0 (L := fun n i s => impl_ShowPairs.l0 k n s rs.length i rs) (R := fun r s => some (s ++ framesM r, ())) (Ty.dflt TRec) rs (fun i s => (s.size : Int) ≤ 211 * i) (fun n s hs => ?_) (fun n i s x rest h0 h1 hx hr hp ih => ?_) (n := k) (s := ⟨#[]⟩) (by omega) (by decide)).trans (by rw [app_nil])
    · simp (disch := omega) only [impl_ShowPairs.l0, impl_ShowPairs.b0, decF, cond_false, framesM, nil_app]
    · have hf := frameM_size (showRec x)
      have ih := ih (s ++ frameM (showRec x)) (by rw [sz_app]; omega)
      simp (disch := omega) only [impl_ShowPairs.l0, impl_ShowPairs.b0, decT, cond_true, inb_eq, hx, implShowRec_eq hk, implFrame_eq hk, Option.bind_some, cat_ok, w64_eq]
      rw [ih, framesM, app_assoc]
theorem specShowPairs_eq {k : Nat} (hk : 2 ^ 50 ≤ k) (l : PairL) : spec_ShowPairs.f k l = some (showPairsM l, ()) := by
  unfold spec_ShowPairs.f spec_ShowPairs.t showPairsM
  rw [specPairsOk_eq hk, Option.bind_some]
  cases c : pairsOk l with
  | false => rfl
  | true =>
    have h20 := pairsOk_len c
    rw [if_pos rfl]
    simp only [Bool.not_true, cond_false]
    refine (forL0 (L := fun n i (s : ByteArray × RecL) => spec_ShowPairs.l0 k n l s.1 i s.2) (R := fun r s => some (s.1 ++ framesM (r.map keepR ++ [sealR 5 0 (s.2 ++ r.map keepR)]), ())) (Ty.dflt TPair) l (fun i s => (s.1.size : Int) ≤ 211 * i ∧ (s.2.length : Int) = i) (fun n s hs => ?_) (fun n i s x rest h0 h1 hx hr hp ih => ?_) (n := k) (s := (⟨#[]⟩, [])) (by omega) ⟨by decide, by decide⟩).trans (by rw [app_nil]; rfl)
    · obtain ⟨s1, s2⟩ := s
      obtain ⟨h1, h2⟩ := hs
      simp only [] at h1 h2
      have hf := frameM_size (showRec (sealR 5 0 s2))
      simp (disch := omega) only [spec_ShowPairs.l0, spec_ShowPairs.b0, decF, cond_false, specSeal_eq hk, specShowRec_eq hk, specFrame_eq hk, Option.bind_some, cat_ok, List.map_nil, List.append_nil, List.nil_append, framesM, nil_app]
    · obtain ⟨s1, s2⟩ := s
      obtain ⟨h3, h4⟩ := hp
      simp only [] at h3 h4
      have hf := frameM_size (showRec (keepR x))
      have ek : spec_l14Keep.f k x = some (keepR x, ()) := rfl
      have ih := ih (s1 ++ frameM (showRec (keepR x)), s2 ++ [keepR x]) ⟨by simp only []; rw [sz_app]; omega, by simp only []; rw [List.length_append]; show ((s2.length + 1 : Nat) : Int) = _; omega⟩
      simp (disch := first | omega | decide) only [spec_ShowPairs.l0, spec_ShowPairs.b0, decT, cond_true, inb_eq, hx, ek, specShowRec_eq hk, specFrame_eq hk, Option.bind_some, cat_ok, w64_eq, rm_ok]
      rw [ih]
      simp only [List.map_cons, List.cons_append, framesM, app_assoc, List.append_assoc, List.nil_append]
/- Reading what was written. -/
theorem scan_at {pre rest : ByteArray} {r : Ty.den TRec} (h : recOk r = true) (d : Nat) :
    scanN (pre ++ (frameM (showRec r) ++ rest)) (d + 1) (pre.size : Int) = (((pre.size : Int), (((frameM (showRec r)).size : Int), (r, ()))) :: (scanN (pre ++ (frameM (showRec r) ++ rest)) d ((pre.size + (frameM (showRec r)).size : Nat) : Int)).1, (scanN (pre ++ (frameM (showRec r) ++ rest)) d ((pre.size + (frameM (showRec r)).size : Nat) : Int)).2) := by
  have hz := showRec_size r
  have hp := frameM_pos (s := showRec r) (by omega)
  rw [scanN, toNat_ofNat, app_tail, unf_frame rest (by omega)]
  simp only []
  rw [readRec_show h, if_neg (by omega)]
  simp only []
  rw [if_neg (show ¬ ((true : Bool) = false) by decide)]
  rfl
theorem scan_frames : ∀ (rs : RecL) (pre : ByteArray) (d : Nat), (∀ r ∈ rs, recOk r = true) → (framesM rs).size < d → (scanN (pre ++ framesM rs) d (pre.size : Int)).1.map (·.2.2.1) = rs ∧ (scanN (pre ++ framesM rs) d (pre.size : Int)).2 = ((pre ++ framesM rs).size : Int)
  | [], pre, d, _, hd => by
    obtain ⟨d, rfl⟩ : ∃ q, d = q + 1 := ⟨d - 1, by omega⟩
    have : unfM (ByteArray.extract (pre ++ framesM []) (Int.toNat (pre.size : Int)) (pre ++ framesM []).size) = (⟨#[]⟩, 0) := by
      rw [toNat_ofNat, app_tail, framesM, unf_nil]
    rw [scanN, this, if_pos rfl, framesM, sz_app, e0]
    exact ⟨rfl, rfl⟩
  | r :: rs, pre, d, h, hd => by
    rw [framesM, sz_app] at hd
    have hz := showRec_size r
    have hp := frameM_pos (s := showRec r) (by omega)
    obtain ⟨d, rfl⟩ : ∃ q, d = q + 1 := ⟨d - 1, by omega⟩
    have ih := scan_frames rs (pre ++ frameM (showRec r)) d (fun x hx => h x (List.mem_cons_of_mem _ hx)) (by omega)
    rw [app_assoc, sz_app pre] at ih
    rw [framesM, scan_at (h r (List.mem_cons_self ..))]
    simp only [List.map_cons]
    exact ⟨by rw [ih.1], ih.2⟩
theorem scanM_frames {rs : RecL} (h : ∀ r ∈ rs, recOk r = true) : (scanM (framesM rs)).1.map (·.2.2.1) = rs ∧ (scanM (framesM rs)).2 = ((framesM rs).size : Int) := by
  have := scan_frames rs ⟨#[]⟩ ((framesM rs).size + 1) h (by omega)
  rw [app_nil, e0] at this
  exact this
theorem scanN_len (s : ByteArray) : ∀ (d : Nat) (i : Int), 0 ≤ i → i ≤ s.size → ((scanN s d i).1.length : Int) ≤ s.size - i ∧ i ≤ (scanN s d i).2 ∧ (scanN s d i).2 ≤ s.size
  | 0, i, h0, h1 => by simp only [scanN, List.length_nil]; omega
  | d + 1, i, h0, h1 => by
    have hu := unf_bound (ByteArray.extract s i.toNat s.size)
    have hz := ext_size s i.toNat
    rw [scanN]
    split
    · simp only [List.length_nil]; omega
    · split
      · simp only [List.length_nil]; omega
      · rename_i c1 c2
        have ih := scanN_len s d (i + (unfM (ByteArray.extract s i.toNat s.size)).2) (by omega) (by omega)
        simp only [List.length_cons]
        omega
theorem scanM_len (s : ByteArray) : (scanM s).1.length ≤ s.size ∧ 0 ≤ (scanM s).2 ∧ (scanM s).2 ≤ s.size := by
  have := scanN_len s (s.size + 1) 0 (by omega) (by omega)
  unfold scanM
  omega
theorem keyOk_iff {s : ByteArray} : keyOkB s = true ↔ 1 ≤ s.size ∧ s.size ≤ 8 := by
  unfold keyOkB
  rw [decide_eq_true_eq]
  omega
theorem pairOk_keep {p : Option (Ty.den TPair)} {x : Ty.den TPair} (h : pairOk p x = true) : recOk (keepR x) = true := by
  unfold pairOk keyOkB at h
  simp only [Bool.and_eq_true] at h
  unfold recOk keepR
  simp only [h.1, h.2.1, h.2.2.1]
  rfl
theorem keeps_ok {l : PairL} (h : pairsOk l = true) : ∀ r ∈ keepsM l 0, recOk r = true := by
  have hl := pairsOk_len h
  unfold pairsOk at h
  rw [Bool.and_eq_true] at h
  intro r hr
  unfold keepsM at hr
  rcases List.mem_append.1 hr with q | q
  · obtain ⟨x, hx, rfl⟩ := List.mem_map.1 q
    obtain ⟨p, hp⟩ := adj_all h.1 hx
    exact pairOk_keep hp
  · rw [List.mem_singleton] at q
    subst q
    have hs := sumM_in (l.map keepR)
    unfold recOk sealR
    simp only [List.length_map]
    rw [decT (show (0 : Int) ≤ (l.length : Int) ∧ (l.length : Int) ≤ 20 by omega), decT hs, show seq ByteArray.empty ⟨#[]⟩ = true from seq_refl _]
    rfl
theorem pair_back (x : Ty.den TPair) : ((keepR x).2.2.1, ((keepR x).2.2.2.1, ((keepR x).2.1, ()))) = x := rfl
noncomputable def readPairsM (s : ByteArray) : PairL × Bool := undo (fun l => pairsOk l = true) showPairsM [] s
def spotPair (x : Ty.den TSpot) : Ty.den TPair := (x.2.2.1.2.2.1, (x.2.2.1.2.2.2.1, (x.2.2.1.2.1, ())))
theorem ok_of_pairs {l : PairL} {s : ByteArray} (h : showPairsM l = s) (hs : s ≠ ⟨#[]⟩) : pairsOk l = true := by
  cases c : pairsOk l with
  | true => rfl
  | false => unfold showPairsM at h; rw [c] at h; exact absurd h.symm hs
theorem showPairs_ne {l : PairL} (h : pairsOk l = true) : showPairsM l ≠ ⟨#[]⟩ := fun q => by
  have := congrArg ByteArray.size q
  unfold showPairsM keepsM at this
  rw [if_pos h, framesM_app, framesM, framesM, nil_app, sz_app, e0] at this
  have h1 := showRec_size (sealR 5 0 (l.map keepR))
  have := frameM_pos (s := showRec (sealR 5 0 (l.map keepR))) (by omega)
  omega
theorem spots_keeps {l : PairL} (h : pairsOk l = true) : (scanM (showPairsM l)).1.map spotPair = l ++ [(ByteArray.empty, (ByteArray.empty, (0, ())))] ∧ (scanM (showPairsM l)).1.map (·.2.2.1) = keepsM l 0 := by
  have e : showPairsM l = framesM (keepsM l 0) := by unfold showPairsM; rw [if_pos h]
  have h1 := (scanM_frames (keeps_ok h)).1
  rw [← e] at h1
  refine ⟨?_, h1⟩
  have : (scanM (showPairsM l)).1.map spotPair = ((scanM (showPairsM l)).1.map (·.2.2.1)).map (fun r => ((r.2.2.1, (r.2.2.2.1, (r.2.1, ()))) : Ty.den TPair)) := by rw [List.map_map]; rfl
  rw [this, h1]
  unfold keepsM
  rw [List.map_append, List.map_map]
  congr 1
  exact (List.map_congr_left fun x _ => pair_back x).trans (List.map_id l)
theorem implReadPairs_any {k : Nat} (hk : 2 ^ 50 ≤ k) {s : ByteArray} (hs : s.size ≤ 1073741823) : impl_ReadPairs.f k s = (let l := ((scanM s).1.filter fun x => x.2.2.1.1 == 4).map spotPair; bif seq (showPairsM l) ⟨#[]⟩ then some ([], (false, ())) else bif !seq (showPairsM l) s then some ([], (false, ())) else some (l, (true, ()))) := by
  unfold impl_ReadPairs.f impl_ReadPairs.t
  rw [implScan_eq hk (by omega), Option.bind_some]
  have hl := (scanM_len s).1
  simp only []
  generalize (scanM s).1 = sp at *
  refine (forL0 (L := fun n i (o : PairL) => impl_ReadPairs.l0 k n s sp.length i o sp) (R := fun r (o : PairL) => (let l := o ++ (r.filter fun x => x.2.2.1.1 == 4).map spotPair; bif seq (showPairsM l) ⟨#[]⟩ then some ([], (false, ())) else bif !seq (showPairsM l) s then some ([], (false, ())) else some (l, (true, ())))) (Ty.dflt TSpot) sp (fun i o => (o.length : Int) ≤ i) (fun n o hs => ?_) (fun n i o x rest h0 h1 hx hr hp ih => ?_) (n := k) (s := []) (by omega) (by decide)).trans rfl
  · simp (disch := first | omega | decide) only [impl_ReadPairs.l0, impl_ReadPairs.b0, decF, cond_false, implShowPairs_eq hk, Option.bind_some, List.filter_nil, List.map_nil, List.append_nil]
  · cases c : (x.2.2.1.1 == 4) with
    | true =>
      have ih := ih (o ++ [spotPair x]) (by rw [List.length_append]; show ((o.length + 1 : Nat) : Int) ≤ _; omega)
      simp (disch := first | omega | decide) only [impl_ReadPairs.l0, impl_ReadPairs.b0, decT, cond_true, inb_eq, hx, c, rm_ok, w64_eq]
      refine ih.trans ?_
      simp only [List.filter_cons, c, if_true, List.map_cons, List.append_assoc, List.cons_append, List.nil_append]
    | false =>
      have ih := ih o (by omega)
      simp (disch := first | omega | decide) only [impl_ReadPairs.l0, impl_ReadPairs.b0, decT, cond_true, cond_false, inb_eq, hx, c, rm_ok, w64_eq]
      refine ih.trans ?_
      simp only [List.filter_cons, c, Bool.false_eq_true, if_false]
theorem specReadPairs_any {k : Nat} (hk : 2 ^ 50 ≤ k) {s : ByteArray} (hs : s.size ≤ 1073741823) : spec_ReadPairs.f k s = (let l := (scanM s).1.dropLast.map spotPair; bif !seq (showPairsM l) s then some ([], (false, ())) else bif seq s ⟨#[]⟩ then some ([], (false, ())) else some (l, (true, ()))) := by
  unfold spec_ReadPairs.f spec_ReadPairs.t
  rw [specScan_eq hk (by omega), Option.bind_some]
  have hl := (scanM_len s).1
  simp only []
  generalize (scanM s).1 = sp at *
  have key : ∀ (d i n : Nat) (o : PairL), (sp.length - 1) - i = d → d < n → o.length ≤ i → i ≤ sp.length → spec_ReadPairs.l0 k n s (i : Int) o sp = (let l := o ++ (sp.dropLast.drop i).map spotPair; bif !seq (showPairsM l) s then some ([], (false, ())) else bif seq s ⟨#[]⟩ then some ([], (false, ())) else some (l, (true, ()))) := by
    intro d
    induction d with
    | zero =>
      intro i n o hd hn ho hi
      obtain ⟨n, rfl⟩ : ∃ q, n = q + 1 := ⟨n - 1, by omega⟩
      rw [List.drop_eq_nil_of_le (by rw [List.length_dropLast]; omega), List.map_nil, List.append_nil]
      simp only [spec_ReadPairs.l0, spec_ReadPairs.b0]
      rw [w64_eq (by omega) (by omega), decF (by omega), cond_false, specShowPairs_eq hk, Option.bind_some]
    | succ d ih =>
      intro i n o hd hn ho hi
      obtain ⟨n, rfl⟩ : ∃ q, n = q + 1 := ⟨n - 1, by omega⟩
      have hlt : i < sp.dropLast.length := by rw [List.length_dropLast]; omega
      have e : sp.dropLast.drop i = sp.getD i (Ty.dflt TSpot) :: sp.dropLast.drop (i + 1) := by
        rw [List.drop_eq_getElem_cons hlt, List.getElem_dropLast]
        simp [List.getD, show i < sp.length by omega]
      have ih := ih (i + 1) n (o ++ [spotPair (sp.getD i (Ty.dflt TSpot))]) (by omega) (by omega) (by rw [List.length_append]; show o.length + 1 ≤ _; omega) (by omega)
      rw [e, List.map_cons]
      simp (disch := first | omega | decide) only [spec_ReadPairs.l0, spec_ReadPairs.b0, decT, cond_true, inb_eq, toNat_ofNat, rm_ok, w64_eq]
      refine (show spec_ReadPairs.l0 k n s ((i : Int) + 1) (o ++ [spotPair (sp.getD i (Ty.dflt TSpot))]) sp = _ from ?_)
      rw [show ((i : Int) + 1) = ((i + 1 : Nat) : Int) by omega, ih]
      simp only [List.append_assoc, List.cons_append, List.nil_append]
  exact (key (sp.length - 1) 0 k [] (by omega) (by omega) (by simp) (by omega)).trans rfl
theorem implReadPairs_eq {k : Nat} (hk : 2 ^ 50 ≤ k) {s : ByteArray} (hs : s.size ≤ 1073741823) : impl_ReadPairs.f k s = some ((readPairsM s).1, ((readPairsM s).2, ())) := by
  refine undo_of (fun l h1 h2 => ?_) ?_
  · rw [implReadPairs_any hk hs, ← h2]
    have hf : ((scanM (showPairsM l)).1.filter fun x => x.2.2.1.1 == 4).map spotPair = l := by
      have : ((scanM (showPairsM l)).1.filter fun x => x.2.2.1.1 == 4).map spotPair = ((((scanM (showPairsM l)).1.map (·.2.2.1)).filter fun r => r.1 == 4)).map (fun r => ((r.2.2.1, (r.2.2.2.1, (r.2.1, ()))) : Ty.den TPair)) := by
        rw [List.filter_map, List.map_map]; rfl
      rw [this, (spots_keeps h1).2]
      unfold keepsM
      rw [List.filter_append, List.filter_cons, List.filter_nil, show ((sealR 5 0 (l.map keepR)).1 == 4) = false from rfl, if_neg (by decide), List.append_nil, List.filter_eq_self.2 (fun r hr => by obtain ⟨x, _, rfl⟩ := List.mem_map.1 hr; rfl), List.map_map]
      exact (List.map_congr_left fun x _ => pair_back x).trans (List.map_id l)
    simp only [hf, seqF (showPairs_ne h1), seq_refl, cond_false, Bool.not_true]
  · rw [implReadPairs_any hk hs]
    simp only []
    generalize ((scanM s).1.filter fun x => x.2.2.1.1 == 4).map spotPair = l
    by_cases c1 : showPairsM l = ⟨#[]⟩
    · rw [seqT c1]; exact .inr rfl
    · rw [seqF c1, cond_false]
      by_cases c2 : showPairsM l = s
      · exact .inl ⟨l, ok_of_pairs c2 (c2 ▸ c1), c2, by rw [seqT c2]; rfl⟩
      · rw [seqF c2]; exact .inr rfl
theorem specReadPairs_eq {k : Nat} (hk : 2 ^ 50 ≤ k) {s : ByteArray} (hs : s.size ≤ 1073741823) : spec_ReadPairs.f k s = some ((readPairsM s).1, ((readPairsM s).2, ())) := by
  refine undo_of (fun l h1 h2 => ?_) ?_
  · rw [specReadPairs_any hk hs, ← h2]
    have hf : (scanM (showPairsM l)).1.dropLast.map spotPair = l := by
      rw [List.map_dropLast, (spots_keeps h1).1, List.dropLast_concat]
    simp only [hf, seqF (showPairs_ne h1), seq_refl, cond_false, Bool.not_true]
  · rw [specReadPairs_any hk hs]
    simp only []
    generalize (scanM s).1.dropLast.map spotPair = l
    by_cases c2 : showPairsM l = s
    · rw [seqT c2, Bool.not_true, cond_false]
      by_cases c1 : s = ⟨#[]⟩
      · rw [seqT c1]; exact .inr rfl
      · exact .inl ⟨l, ok_of_pairs c2 c1, c2, by rw [seqF c1]; rfl⟩
    · rw [seqF c2]; exact .inr rfl
theorem readPairs_len (s : ByteArray) : (readPairsM s).1.length ≤ 20 := by
  unfold readPairsM
  rcases undo_cases (fun l => pairsOk l = true) showPairsM [] s with ⟨l, h, _, e⟩ | e
  · rw [e]; exact pairsOk_len h
  · rw [e]; decide
theorem core_FnExactReadPairs {a0 : ByteArray} (f0 : Wf .str a0) (w0 : a0.size ≤ 1048576) :
    ∃ r, Ev (fun k => spec_ReadPairs.f k a0) r ∧ Ev (fun k => impl_ReadPairs.f k a0) r ∧ wp (.slice TPair) r.1 ≤ 4398046511104 := by
  refine ⟨_, ev_big fun k hk => specReadPairs_eq hk (by omega), ev_big fun k hk => implReadPairs_eq hk (by omega), ?_⟩
  have := readPairs_len a0
  show wp (.slice TPair) (readPairsM a0).1 ≤ _
  rw [wp_flatS (t := TPair) rfl]
  omega
end Go.Proofs.Ytiigjojchlplpaa.G

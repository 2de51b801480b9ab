/- M: FollowMap: what it answers, in both readings. -/
import Derived.Test.YtiigjojchlplpaaMGroup
set_option linter.unusedVariables false
set_option linter.unusedSimpArgs false
namespace Go.Proofs.Ytiigjojchlplpaa.G
open Go.V
abbrev PieceL := List (Ty.den TPiece)
def hasM (l : PieceL) (id : Int) : ByteArray := match l with
  | [] => ⟨#[]⟩
  | p :: r => bif p.1 == id then p.2.1 else hasM r id
theorem implHas_eq {k : Nat} (hk : 2 ^ 50 ≤ k) (f : Ty.den TFollower) (id : Int) (hl : f.2.1.length ≤ 1099511627775) : impl_has.f k f id = some (hasM f.2.1 id, ()) := by
  unfold impl_has.f impl_has.t
  refine forL0 (L := fun n i (_ : Unit) => impl_has.l0 k n id f.2.1 f.2.1.length i) (R := fun r _ => some (hasM r id, ())) (Ty.dflt TPiece) f.2.1 (fun _ _ => True) (fun n s hs => ?_) (fun n i s x rest h0 h1 hx hr hp ih => ?_) (n := k) (s := ()) (by omega) trivial
  · simp (disch := omega) only [impl_has.l0, impl_has.b0, decF, cond_false, hasM]
  · simp (disch := omega) only [impl_has.l0, impl_has.b0, decT, cond_true, inb_eq, hx, w64_eq, hasM]
    rw [ih () trivial]
    cases x.1 == id <;> rfl
theorem specHas_eq {k : Nat} (hk : 2 ^ 50 ≤ k) (f : Ty.den TFollower) (id : Int) (hl : f.2.1.length ≤ 1099511627775) : spec_l27Text.f k f id = some (hasM f.2.1 id, ()) := by
  unfold spec_l27Text.f spec_l27Text.t
  refine forL0 (L := fun n i (_ : Unit) => spec_l27Text.l0 k n id i f.1 f.2.1) (R := fun r _ => some (hasM r id, ())) (Ty.dflt TPiece) f.2.1 (fun _ _ => True) (fun n s hs => ?_) (fun n i s x rest h0 h1 hx hr hp ih => ?_) (n := k) (s := ()) (by omega) trivial
  · simp (disch := omega) only [spec_l27Text.l0, spec_l27Text.b0, decF, cond_false, hasM]
  · simp (disch := omega) only [spec_l27Text.l0, spec_l27Text.b0, decT, cond_true, inb_eq, hx, w64_eq, hasM]
    rw [ih () trivial]
    cases x.1 == id <;> rfl
theorem hasM_size {l : PieceL} {id : Int} {b : Nat} (h : ∀ p ∈ l, p.2.1.size ≤ b) : (hasM l id).size ≤ b := by
  induction l with
  | nil => exact Nat.zero_le _
  | cons p r ih =>
    unfold hasM
    cases p.1 == id
    · exact ih fun q hq => h q (List.mem_cons_of_mem _ hq)
    · exact h p (List.mem_cons_self ..)
/-- All records of pieces that are whole. -/
noncomputable def piecesM : PieceL → PlaceL → Option PlaceL
  | [], acc => some acc
  | p :: r, acc => bif decide ((scanM p.2.1).2 < (p.2.1.size : Int)) then none else piecesM r (acc ++ placesM p.1 (scanM p.2.1).1)
noncomputable def pairsAt (f : PieceL) : EntryL → PairL → PairL × Bool
  | [], acc => (acc, true)
  | e :: r, acc => bif (recAtM (hasM f e.2.1) e.2.2.1 e.2.2.2.1).2 then pairsAt f r (acc ++ [((recAtM (hasM f e.2.1) e.2.2.1 e.2.2.2.1).1.2.2.1, ((recAtM (hasM f e.2.1) e.2.2.1 e.2.2.2.1).1.2.2.2.1, ((recAtM (hasM f e.2.1) e.2.2.1 e.2.2.2.1).1.2.1, ())))]) else ([], false)
noncomputable def followM (f : PieceL) : PairL × Bool := match piecesM f [] with
  | none => ([], false)
  | some l => bif (regroupM ([], (0, (0, ()))) l).2.2.1 != 0 then ([], false) else pairsAt f (regroupM ([], (0, (0, ()))) l).1 []
def txs (l : PieceL) : Nat := (l.map fun p => p.2.1.size).sum
theorem txs_mem {l : PieceL} {p : Ty.den TPiece} (h : p ∈ l) : p.2.1.size ≤ txs l := by
  unfold txs
  induction l with
  | nil => cases h
  | cons q l ih =>
    rw [List.map_cons, List.sum_cons]
    rcases List.mem_cons.1 h with e | e
    · subst e; omega
    · have := ih e; omega
theorem piecesM_len : ∀ (r : PieceL) (acc l : PlaceL), piecesM r acc = some l → l.length ≤ acc.length + txs r
  | [], acc, l, h => by
    unfold piecesM at h
    obtain rfl := Option.some.inj h
    omega
  | p :: r, acc, l, h => by
    unfold piecesM at h
    cases c : decide ((scanM p.2.1).2 < (p.2.1.size : Int)) with
    | true => rw [c] at h; cases h
    | false =>
      rw [c, cond_false] at h
      have := piecesM_len r _ l h
      rw [List.length_append, placesM_len] at this
      have h2 := (scanM_len p.2.1).1
      unfold txs at *
      rw [List.map_cons, List.sum_cons]
      omega
theorem pairsAt_len (f : PieceL) : ∀ (r : EntryL) (acc : PairL), (pairsAt f r acc).1.length ≤ acc.length + r.length
  | [], acc => Nat.le_refl _
  | e :: r, acc => by
    unfold pairsAt
    cases (recAtM (hasM f e.2.1) e.2.2.1 e.2.2.2.1).2
    · exact Nat.zero_le _
    · have := pairsAt_len f r (acc ++ [((recAtM (hasM f e.2.1) e.2.2.1 e.2.2.2.1).1.2.2.1, ((recAtM (hasM f e.2.1) e.2.2.1 e.2.2.2.1).1.2.2.2.1, ((recAtM (hasM f e.2.1) e.2.2.1 e.2.2.2.1).1.2.1, ())))])
      rw [len_snoc] at this
      rw [cond_true, List.length_cons]
      omega
theorem followM_len {f : PieceL} (ht : txs f ≤ 134217728) : (followM f).1.length ≤ 268435456 := by
  unfold followM
  cases c : piecesM f [] with
  | none => exact Nat.zero_le _
  | some l =>
    have h1 := piecesM_len f [] l c
    simp only [List.length_nil] at h1 ⊢
    have h2 := regroupM_len (g := ([], (0, (0, ())))) (l := l) (by omega) (by simp)
    cases (regroupM ([], (0, (0, ()))) l).2.2.1 != 0
    · have := pairsAt_len f (regroupM ([], (0, (0, ()))) l).1 []
      simp only [List.length_nil] at this
      rw [cond_false]
      omega
    · exact Nat.zero_le _
theorem implFollow_eq {k : Nat} (hk : 2 ^ 50 ≤ k) (f : Ty.den TFollower) (hl : f.2.1.length ≤ 134217728) (ht : txs f.2.1 ≤ 134217728) : impl_FollowMap.f k f = some ((followM f.2.1).1, ((followM f.2.1).2, ())) := by
  have hp : ∀ p ∈ f.2.1, p.2.1.size ≤ 134217728 := fun p h => Nat.le_trans (txs_mem h) ht
  unfold impl_FollowMap.f impl_FollowMap.t followM
  have l1 : ∀ g : EntryL, g.length ≤ 268435456 → impl_FollowMap.l1 k k g.length 0 f.1 f.2.1 [] g = some ((pairsAt f.2.1 g []).1, ((pairsAt f.2.1 g []).2, ())) := fun g hg => by
    refine forL0 (L := fun n i s => impl_FollowMap.l1 k n g.length i f.1 f.2.1 s g) (R := fun r s => some ((pairsAt f.2.1 r s).1, ((pairsAt f.2.1 r s).2, ()))) (Ty.dflt TEntry) g (fun i s => (s.length : Int) = i) (fun n s hs => ?_) (fun n i s x rest h0 h1 hx hr hp' ih => ?_) (n := k) (s := []) (by omega) (by decide)
    · simp (disch := omega) only [impl_FollowMap.l1, impl_FollowMap.b1, decF, cond_false, pairsAt]
    · have hh := implHas_eq hk (f.1, (f.2.1, ())) x.2.1 (by simp only []; omega)
      have hz := hasM_size (id := x.2.1) hp
      have hr' := implRecAt_eq hk (s := hasM f.2.1 x.2.1) x.2.2.1 x.2.2.2.1 (by omega)
      simp (disch := first | omega | decide) only [impl_FollowMap.l1, impl_FollowMap.b1, decT, cond_true, inb_eq, hx, hh, hr', Option.bind_some, rm_ok, w64_eq, pairsAt]
      generalize recAtM (hasM f.2.1 x.2.1) x.2.2.1 x.2.2.2.1 = q
      cases c : q.2 with
      | true => exact ih _ (by rw [len_snoc]; omega)
      | false => rfl
  refine forL0 (L := fun n i s => impl_FollowMap.l0 k n f.2.1 f.2.1.length i f.1 f.2.1 s) (R := fun r s => some ((match piecesM r s with | none => (([], false) : PairL × Bool) | some l => bif (regroupM ([], (0, (0, ()))) l).2.2.1 != 0 then ([], false) else pairsAt f.2.1 (regroupM ([], (0, (0, ()))) l).1 []).1,
    ((match piecesM r s with | none => (([], false) : PairL × Bool) | some l => bif (regroupM ([], (0, (0, ()))) l).2.2.1 != 0 then ([], false) else pairsAt f.2.1 (regroupM ([], (0, (0, ()))) l).1 []).2, ()))) (Ty.dflt TPiece) f.2.1 (fun i s => s.length + txs (f.2.1.drop i.toNat) ≤ 134217728) (fun n s hs => ?_) (fun n i s x rest h0 h1 hx hr hp' ih => ?_) (n := k) (s := []) (by omega) (by simpa using ht)
  · rw [Int.toNat_natCast, List.drop_length] at hs
    have hs' : s.length ≤ 134217728 := by omega
    have hg := regroupM_len (g := ([], (0, (0, ())))) (l := s) hs' (by simp)
    simp (disch := first | omega | (simp only [List.length_nil]; omega)) only [impl_FollowMap.l0, impl_FollowMap.b0, decF, cond_false, piecesM, implRegroup_eq hk, Option.bind_some]
    generalize regroupM ([], (0, (0, ()))) s = g at *
    cases c : g.2.2.1 != 0
    · rw [cond_false, cond_false, l1 _ hg]
    · rfl
  · have hm : x ∈ f.2.1 := List.mem_of_mem_drop (by rw [hr]; exact List.mem_cons_self ..)
    have hx1 := hp x hm
    have hsc := scanM_len x.2.1
    have e := implScan_eq hk (s := x.2.1) (by omega)
    have hrest : f.2.1.drop (i + 1).toNat = rest := by
      have := congrArg (List.drop 1) hr
      rw [List.drop_drop, List.drop_one, List.tail_cons] at this
      rw [show (i + 1).toNat = i.toNat + 1 by omega]
      exact this
    rw [hr] at hp'
    have htx : txs (x :: rest) = x.2.1.size + txs rest := by unfold txs; rw [List.map_cons, List.sum_cons]
    have hpl := placesM_len x.1 (scanM x.2.1).1
    simp (disch := omega) only [impl_FollowMap.l0, impl_FollowMap.b0, decT h1, cond_true, inb_eq, hx, e, Option.bind_some, w64_eq, piecesM]
    by_cases c : (scanM x.2.1).2 < (x.2.1.size : Int)
    · rw [decT c, show ((scanM x.2.1).2 != (x.2.1.size : Int)) = true from bne_iff_ne.2 (by omega)]
      rfl
    · rw [decF c, show ((scanM x.2.1).2 != (x.2.1.size : Int)) = false from by rw [bne_eq_false_iff_eq]; omega]
      simp only [cond_false]
      rw [implPlaced_eq hk _ (by omega), Option.bind_some]
      simp only []
      rw [rm_ok (by omega) (by decide)]
      exact ih _ (by rw [hrest, List.length_append]; omega)
theorem specFollow_eq {k : Nat} (hk : 2 ^ 50 ≤ k) (f : Ty.den TFollower) (hl : f.2.1.length ≤ 134217728) (ht : txs f.2.1 ≤ 134217728) : spec_FollowMap.f k f = some ((followM f.2.1).1, ((followM f.2.1).2, ())) := by
  have hp : ∀ p ∈ f.2.1, p.2.1.size ≤ 134217728 := fun p h => Nat.le_trans (txs_mem h) ht
  unfold spec_FollowMap.f spec_FollowMap.t followM
  have l1 : ∀ (g : EntryL) (z1 z2 : Int), g.length ≤ 268435456 → spec_FollowMap.l1 k k 0 f.1 f.2.1 [] g z1 z2 [] = some ((pairsAt f.2.1 g []).1, ((pairsAt f.2.1 g []).2, ())) := fun g z1 z2 hg => by
    refine forL0 (L := fun n i s => spec_FollowMap.l1 k n i f.1 f.2.1 [] g z1 z2 s) (R := fun r s => some ((pairsAt f.2.1 r s).1, ((pairsAt f.2.1 r s).2, ()))) (Ty.dflt TEntry) g (fun i s => (s.length : Int) = i) (fun n s hs => ?_) (fun n i s x rest h0 h1 hx hr hp' ih => ?_) (n := k) (s := []) (by omega) (by decide)
    · simp (disch := omega) only [spec_FollowMap.l1, spec_FollowMap.b1, decF, cond_false, pairsAt]
    · have hh := specHas_eq hk (f.1, (f.2.1, ())) x.2.1 (by simp only []; omega)
      have hz := hasM_size (id := x.2.1) hp
      have hr' := specRecAt_eq hk (s := hasM f.2.1 x.2.1) x.2.2.1 x.2.2.2.1 (by omega)
      simp (disch := first | omega | decide) only [spec_FollowMap.l1, spec_FollowMap.b1, decT, cond_true, inb_eq, hx, hh, hr', Option.bind_some, rm_ok, w64_eq, pairsAt]
      generalize recAtM (hasM f.2.1 x.2.1) x.2.2.1 x.2.2.2.1 = q
      cases c : q.2 with
      | true => exact ih _ (by rw [len_snoc]; omega)
      | false => rfl
  refine forL0 (L := fun n i s => spec_FollowMap.l0 k n i f.1 f.2.1 [] s) (R := fun r s => some ((match piecesM r s with | none => (([], false) : PairL × Bool) | some l => bif (regroupM ([], (0, (0, ()))) l).2.2.1 != 0 then ([], false) else pairsAt f.2.1 (regroupM ([], (0, (0, ()))) l).1 []).1,
    ((match piecesM r s with | none => (([], false) : PairL × Bool) | some l => bif (regroupM ([], (0, (0, ()))) l).2.2.1 != 0 then ([], false) else pairsAt f.2.1 (regroupM ([], (0, (0, ()))) l).1 []).2, ()))) (Ty.dflt TPiece) f.2.1 (fun i s => s.length + txs (f.2.1.drop i.toNat) ≤ 134217728) (fun n s hs => ?_) (fun n i s x rest h0 h1 hx hr hp' ih => ?_) (n := k) (s := []) (by omega) (by simpa using ht)
  · rw [Int.toNat_natCast, List.drop_length] at hs
    have hs' : s.length ≤ 134217728 := by omega
    have hg := regroupM_len (g := ([], (0, (0, ())))) (l := s) hs' (by simp)
    simp (disch := first | omega | (simp only [List.length_nil]; omega)) only [spec_FollowMap.l0, spec_FollowMap.b0, decF, cond_false, piecesM, specRegroup_eq hk, Option.bind_some]
    generalize regroupM ([], (0, (0, ()))) s = g at *
    cases c : g.2.2.1 != 0
    · rw [cond_false, cond_false, l1 _ _ _ hg]
    · rfl
  · have hm : x ∈ f.2.1 := List.mem_of_mem_drop (by rw [hr]; exact List.mem_cons_self ..)
    have hx1 := hp x hm
    have hsc := scanM_len x.2.1
    have e := specScan_eq hk (s := x.2.1) (by omega)
    have hrest : f.2.1.drop (i + 1).toNat = rest := by
      have := congrArg (List.drop 1) hr
      rw [List.drop_drop, List.drop_one, List.tail_cons] at this
      rw [show (i + 1).toNat = i.toNat + 1 by omega]
      exact this
    rw [hr] at hp'
    have htx : txs (x :: rest) = x.2.1.size + txs rest := by unfold txs; rw [List.map_cons, List.sum_cons]
    have hpl := placesM_len x.1 (scanM x.2.1).1
    simp (disch := omega) only [spec_FollowMap.l0, spec_FollowMap.b0, decT h1, cond_true, inb_eq, hx, e, Option.bind_some, w64_eq, piecesM]
    by_cases c : (scanM x.2.1).2 < (x.2.1.size : Int)
    · rw [decT c]
      rfl
    · rw [decF c]
      simp only [cond_false]
      rw [specPlaces_eq hk _ (by omega), Option.bind_some]
      simp only []
      rw [rm_ok (by omega) (by decide)]
      exact ih _ (by rw [hrest, List.length_append]; omega)
theorem txs_weight (l : PieceL) : txs l ≤ weight (.slice TPiece) l := by
  rw [weight_slice]
  unfold txs
  induction l with
  | nil => exact Nat.zero_le _
  | cons p l ih =>
    rw [List.map_cons, List.sum_cons, List.length_cons, List.map_cons, List.sum_cons]
    have : p.2.1.size ≤ weight TPiece p := by show _ ≤ 0 + (p.2.1.size + 0); omega
    omega
theorem core_FnExactFollowMap {a0 : Ty.den TFollower} (f0 : Wf TFollower a0) (w0 : weight TFollower a0 ≤ 1048576) :
    ∃ r, Ev (fun k => spec_FollowMap.f k a0) r ∧ Ev (fun k => impl_FollowMap.f k a0) r ∧ wp (.slice TPair) r.1 ≤ 4398046511104 := by
  have hw : weight (.slice TPiece) a0.2.1 ≤ 1048576 := by
    have : weight TFollower a0 = 0 + (weight (.slice TPiece) a0.2.1 + 0) := rfl
    omega
  have hl := weight_len hw
  have ht := txs_weight a0.2.1
  refine ⟨_, ev_big fun k hk => specFollow_eq hk a0 (by omega) (by omega), ev_big fun k hk => implFollow_eq hk a0 (by omega) (by omega), ?_⟩
  have := followM_len (f := a0.2.1) (by omega)
  show wp (.slice TPair) (followM a0.2.1).1 ≤ _
  rw [wp_flatS (t := TPair) rfl]
  omega
end Go.Proofs.Ytiigjojchlplpaa.G

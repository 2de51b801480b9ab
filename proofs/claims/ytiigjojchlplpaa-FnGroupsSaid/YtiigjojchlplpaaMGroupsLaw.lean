/- M: FnGroups holds: what is not sealed changes nothing. -/
import Derived.Test.YtiigjojchlplpaaMDrawG
import Derived.Test.YtiigjojchlplpaaMSealed
import Derived.Test.YtiigjojchlplpaaMHasN
set_option linter.unusedVariables false
set_option linter.unusedSimpArgs false
namespace Go.Proofs.Ytiigjojchlplpaa.G
open Go.V
theorem lawHas_eq {k : Nat} (hk : 2 ^ 50 ≤ k) {l : List Int} (hl : l.length ≤ 1099511627776) (x : Int) : laws_has.f k l x = some (hasN l x, ()) := by
  unfold laws_has.f laws_has.t
  refine forL0 (L := fun n i (_ : Unit) => laws_has.l0 k n l x i) (R := fun r _ => some (hasN r x, ())) (Ty.dflt (.int .i64)) l (fun _ _ => True) (fun n _ _ => ?_) (fun n i _ y rest h0 h1 hx hr hp ih => ?_) (n := k) (s := ()) (by omega) trivial
  · simp (disch := omega) only [laws_has.l0, laws_has.b0, decF, cond_false]
    rfl
  · have ih := ih () trivial
    have e : hasN (y :: rest) x = ((y == x) || hasN rest x) := rfl
    simp (disch := omega) only [laws_has.l0, laws_has.b0, decT h1, cond_true, inb_eq, hx, w64_eq, ih, e]
    cases y == x <;> rfl
theorem sameDir_self {k : Nat} (hk : 2 ^ 50 ≤ k) {l : EntryL} (hl : l.length ≤ 1099511627776) : spec_SameDir.f k l l = some (true, ()) := by
  unfold spec_SameDir.f spec_SameDir.t
  rw [show ((l.length : Int) != (l.length : Int)) = false by simp, cond_false]
  refine forL0 (L := fun n i (_ : Unit) => spec_SameDir.l0 k n l l i) (R := fun r _ => some (true, ())) (Ty.dflt TEntry) l (fun _ _ => True) (fun n _ _ => ?_) (fun n i _ y rest h0 h1 hx hr hp ih => ?_) (n := k) (s := ()) (by omega) trivial
  · simp (disch := omega) only [spec_SameDir.l0, spec_SameDir.b0, decF, cond_false]
  · have ih := ih () trivial
    simp (disch := omega) only [spec_SameDir.l0, spec_SameDir.b0, decT h1, cond_true, inb_eq, hx, w64_eq, ih, seq_refl, beq_self_eq_true]
    rfl
/- Records that no seal is for. -/
def unsP (sl : List Int) (p : Ty.den TPlace) : Bool := ((p.2.2.2.1.1 == 1) || (p.2.2.2.1.1 == 2)) && !hasN sl p.2.2.2.1.2.1
def keepP (sl : List Int) (p : Ty.den TPlace) : Bool := !unsP sl p
theorem foldl_skip {α β : Type} {f : β → α → β} {keep : α → Bool} (h : ∀ acc p, keep p = false → f acc p = acc) : ∀ (m : List α) (acc : β), (m.filter keep).foldl f acc = m.foldl f acc
  | [], acc => rfl
  | p :: m, acc => by
    cases c : keep p with
    | true => rw [List.filter_cons_of_pos c, List.foldl_cons, List.foldl_cons, foldl_skip h m]
    | false => rw [List.filter_cons_of_neg (by rw [c]; decide), List.foldl_cons, h acc p c, foldl_skip h m]
theorem foldl_stay {α β : Type} {f : β → α → β} {keep : α → Bool} {b : β} (h : ∀ p, keep p = true → f b p = b) : ∀ (m : List α), (m.filter keep).foldl f b = b
  | [] => rfl
  | p :: m => by
    cases c : keep p with
    | true => rw [List.filter_cons_of_pos c, List.foldl_cons, h p c, foldl_stay h m]
    | false => rw [List.filter_cons_of_neg (by rw [c]; decide), foldl_stay h m]
theorem keep_no {sl : List Int} {p : Ty.den TPlace} (h : keepP sl p = false) : ((p.2.2.2.1.1 = (1 : Int)) ∨ p.2.2.2.1.1 = (2 : Int)) ∧ hasN sl p.2.2.2.1.2.1 = false := by
  unfold keepP unsP at h
  simp only [Bool.not_eq_false', Bool.and_eq_true, Bool.or_eq_true, beq_iff_eq, Bool.not_eq_true'] at h
  exact h
theorem keep_yes {sl : List Int} {p : Ty.den TPlace} (h : keepP sl p = true) (hb : hasN sl p.2.2.2.1.2.1 = false) : ((p.2.2.2.1.1 == 1) || (p.2.2.2.1.1 == 2)) = false := by
  unfold keepP unsP at h
  rw [hb] at h
  cases c : ((p.2.2.2.1.1 == 1) || (p.2.2.2.1.1 == 2)) with
  | false => rfl
  | true => rw [c] at h; cases h
theorem own_kept {sl : List Int} {b : Int} (hb : hasN sl b = true) (m : PlaceL) : ownSeal b (m.filter (keepP sl)) = ownSeal b m := by
  unfold ownSeal
  refine foldl_skip (fun acc p hp => ?_) m []
  obtain ⟨_, h2⟩ := keep_no hp
  unfold stepSeal
  cases c : p.2.2.2.1.2.1 == b with
  | false => rfl
  | true => rw [beq_iff_eq.1 c, hb] at h2; cases h2
theorem own_gone {sl : List Int} {b : Int} (hb : hasN sl b = false) (m : PlaceL) : ownSeal b (m.filter (keepP sl)) = [] := by
  unfold ownSeal
  refine foldl_stay (fun p hp => ?_) m
  unfold stepSeal
  cases c : p.2.2.2.1.2.1 == b with
  | false => rfl
  | true =>
    have h := keep_yes hp (by rw [beq_iff_eq.1 c]; exact hb)
    rw [h]
    cases p.2.2.2.1.1 == 3 <;> rfl
theorem mark_kept (sl : List Int) (m : PlaceL) : ownMark (m.filter (keepP sl)) = ownMark m := by
  unfold ownMark
  refine foldl_skip (fun acc p hp => ?_) m []
  obtain ⟨h1, _⟩ := keep_no hp
  unfold stepMark
  rcases h1 with h | h <;> rw [h] <;> rfl
def R3 (a b : Ty.den TGroup) : Prop := b.1 = a.1 ∧ b.2.2.1 = a.2.2.1 ∧ (b.2.1 : Int) ≤ (a.2.1 : Int)
theorem regroup_stop {all q : PlaceL} {i : Nat} {d : EntryL} {last code : Int} (h : code ≠ 0) : regroupL all q i d last code = (d, (last, (code, ()))) := by
  cases q with
  | nil =>
    unfold regroupL
    rw [show (code == 0) = false from beq_eq_false_iff_ne.2 h]
    rfl
  | cons p q =>
    unfold regroupL
    rw [show (code != 0) = true from bne_iff_ne.2 h]
    rfl
theorem maxM_mono {b x y : Int} (h : x ≤ y) : maxM b x ≤ maxM b y := by
  unfold maxM
  split <;> split <;> omega
theorem maxM_le (b x : Int) : x ≤ maxM b x := by
  unfold maxM
  split <;> omega
theorem groups_same {sl : List Int} {l : PlaceL} (hs : ∀ (pre : PlaceL) (p : Ty.den TPlace) (rest : PlaceL), l = pre ++ p :: rest → (p.2.2.2.1.1 == 3) = true → fitsM p.2.2.2.1 (ownSeal p.2.2.2.1.2.1 pre) = true → hasN sl p.2.2.2.1.2.1 = true)
    (hb : ∀ p ∈ l.filter (keepP sl), (p.2.2.2.1.1 == 3) = true → hasN sl p.2.2.2.1.2.1 = false → (p.2.2.2.1.2.2.2.2.1 == 0) = false) :
    ∀ (rest pre : PlaceL) (d : EntryL) (last last' code : Int), l = pre ++ rest → last' ≤ last → R3 (regroupL l rest pre.length d last code) (regroupL (l.filter (keepP sl)) (rest.filter (keepP sl)) (pre.filter (keepP sl)).length d last' code) := by
  intro rest
  induction rest with
  | nil =>
    intro pre d last last' code hl hle
    rw [show ([] : PlaceL).filter (keepP sl) = [] from rfl]
    unfold regroupL
    rw [mark_kept]
    cases code == 0 && decide ((ownMark l).length > 0)
    · exact ⟨rfl, rfl, hle⟩
    · exact ⟨rfl, rfl, hle⟩
  | cons p rest ih =>
    intro pre d last last' code hl hle
    have hl2 : l = (pre ++ [p]) ++ rest := by rw [hl, List.append_assoc]; rfl
    have ht : l.take pre.length = pre := by rw [hl, List.take_left]
    by_cases hc : code = 0
    case neg => rw [regroup_stop hc, regroup_stop hc]; exact ⟨rfl, rfl, hle⟩
    subst hc
    cases hkp : keepP sl p with
    | false =>
      have hf : (p :: rest).filter (keepP sl) = rest.filter (keepP sl) := List.filter_cons_of_neg (by rw [hkp]; decide)
      have hpf : (pre ++ [p]).filter (keepP sl) = pre.filter (keepP sl) := by rw [List.filter_append, List.filter_cons_of_neg (by rw [hkp]; decide)]; simp
      have ih := ih (pre ++ [p]) d (maxM p.2.2.2.1.2.1 last) last' 0 hl2 (Int.le_trans hle (maxM_le _ _))
      rw [hpf, len_snoc] at ih
      rw [hf]
      obtain ⟨h1, _⟩ := keep_no hkp
      have e : regroupL l (p :: rest) pre.length d last 0 = regroupL l rest (pre.length + 1) d (maxM p.2.2.2.1.2.1 last) 0 := by
        rw [regroupL]
        rcases h1 with h | h <;> rw [h] <;> rfl
      rw [e]
      exact ih
    | true =>
      have hf : (p :: rest).filter (keepP sl) = p :: rest.filter (keepP sl) := List.filter_cons_of_pos hkp
      have hpf : (pre ++ [p]).filter (keepP sl) = pre.filter (keepP sl) ++ [p] := by rw [List.filter_append, List.filter_cons_of_pos hkp]; rfl
      have ht' : (l.filter (keepP sl)).take (pre.filter (keepP sl)).length = pre.filter (keepP sl) := by rw [hl, List.filter_append, List.take_left]
      have IH : ∀ (d : EntryL) (code : Int), R3 (regroupL l rest (pre.length + 1) d (maxM p.2.2.2.1.2.1 last) code) (regroupL (l.filter (keepP sl)) (rest.filter (keepP sl)) ((pre.filter (keepP sl)).length + 1) d (maxM p.2.2.2.1.2.1 last') code) := fun d code => by
        have := ih (pre ++ [p]) d _ _ code hl2 (maxM_mono (b := p.2.2.2.1.2.1) hle)
        rw [hpf, len_snoc, len_snoc] at this
        exact this
      have hpm : p ∈ l.filter (keepP sl) := List.mem_filter.2 ⟨by rw [hl]; exact List.mem_append_right _ (List.mem_cons_self ..), hkp⟩
      rw [hf, regroupL, regroupL, ht, ht', mark_kept]
      simp only [show ((0 : Int) != 0) = false from rfl, cond_false]
      cases h3 : p.2.2.2.1.1 == 3 with
      | true =>
        simp only [cond_true]
        cases hn : hasN sl p.2.2.2.1.2.1 with
        | true =>
          rw [own_kept hn]
          cases fitsM p.2.2.2.1 (ownSeal p.2.2.2.1.2.1 pre)
          · exact IH _ _
          · exact IH _ _
        | false =>
          have f1 : fitsM p.2.2.2.1 (ownSeal p.2.2.2.1.2.1 pre) = false := by
            cases c : fitsM p.2.2.2.1 (ownSeal p.2.2.2.1.2.1 pre) with
            | false => rfl
            | true => have := hs pre p rest hl h3 c; rw [hn] at this; cases this
          have f2 : fitsM p.2.2.2.1 [] = false := by
            unfold fitsM
            have := hb p hpm h3 hn
            rw [show (p.2.2.2.1.2.2.2.2.1 == (([] : PlaceL).length : Int)) = false from this]
            rfl
          rw [own_gone hn, f1, f2]
          exact IH _ _
      | false =>
        simp only [cond_false]
        cases p.2.2.2.1.1 == 5 with
        | true =>
          simp only [cond_true]
          cases fitsM p.2.2.2.1 (ownMark pre)
          · exact IH _ _
          · exact IH _ _
        | false => exact IH _ _
theorem hasN_snoc (l : List Int) (x : Int) : hasN (l ++ [x]) x = true := by
  unfold hasN
  rw [List.any_append]
  simp
theorem hasN_app {l : List Int} {x : Int} (y : Int) (h : hasN l x = true) : hasN (l ++ [y]) x = true := by
  unfold hasN at h ⊢
  rw [List.any_append, h]
  rfl
theorem sealL_mono (all : PlaceL) {x : Int} : ∀ (r : PlaceL) (i : Nat) (acc : List Int), hasN acc x = true → hasN (sealL all r i acc) x = true
  | [], i, acc, h => h
  | p :: r, i, acc, h => by
    unfold sealL
    refine sealL_mono all r (i + 1) _ ?_
    cases sealP all p i
    · exact h
    · exact hasN_app _ h
theorem sealL_in (all : PlaceL) {p : Ty.den TPlace} {r : PlaceL} : ∀ (pre : PlaceL) (i : Nat) (acc : List Int), sealP all p (i + pre.length) = true → hasN (sealL all (pre ++ p :: r) i acc) p.2.2.2.1.2.1 = true
  | [], i, acc, h => by
    show hasN (sealL all r (i + 1) (bif sealP all p i then acc ++ [p.2.2.2.1.2.1] else acc)) _ = true
    rw [show i + ([] : PlaceL).length = i from rfl] at h
    rw [h]
    exact sealL_mono all r _ _ (hasN_snoc _ _)
  | q :: pre, i, acc, h => sealL_in all pre (i + 1) _ (by rw [List.length_cons] at h; rw [show i + 1 + pre.length = i + (pre.length + 1) by omega]; exact h)
theorem sealed_has {l pre rest : PlaceL} {p : Ty.den TPlace} (hl : l = pre ++ p :: rest) (h3 : (p.2.2.2.1.1 == 3) = true) (hf : fitsM p.2.2.2.1 (ownSeal p.2.2.2.1.2.1 pre) = true) : hasN (sealedM l) p.2.2.2.1.2.1 = true := by
  unfold sealedM
  have h : sealP l p (0 + pre.length) = true := by
    unfold sealP
    rw [Nat.zero_add, show l.take pre.length = pre by rw [hl, List.take_left], h3, hf]
    rfl
  have := sealL_in l (p := p) (r := rest) pre 0 [] h
  rw [← hl] at this
  exact this
def badP (sl : List Int) (p : Ty.den TPlace) : Bool := (p.2.2.2.1.1 == 3) && (!hasN sl p.2.2.2.1.2.1 && (p.2.2.2.1.2.2.2.2.1 == 0))
theorem groups_2 {k : Nat} (hk : 2 ^ 50 ≤ k) {l less : PlaceL} {g : Ty.den TGroup} (hl : less.length ≤ 1000) (hsl : (sealedM l).length ≤ 1000) (hg : g = regroupM ([], (0, (0, ()))) l) (hle : less = l.filter (keepP (sealedM l))) (hdl : g.1.length ≤ 268435456) :
    laws_FnGroups.l1 k k 0 g.1 g.2.1 g.2.2.1 (sealedM l) less = some (true, ()) := by
  have fin : less.any (badP (sealedM l)) = false → R3 g (regroupM ([], (0, (0, ()))) less) := fun hb => by
    rw [hg, hle]
    rw [hle] at hb
    have := groups_same (sl := sealedM l) (l := l) (fun pre p rest h1 h2 h3 => sealed_has h1 h2 h3) (fun p hp h3 hn => by
      have hx := List.any_eq_false.1 hb p hp
      unfold badP at hx
      rw [h3, hn] at hx
      simpa using hx) l [] [] 0 0 0 rfl (Int.le_refl _)
    exact this
  refine (forL0 (L := fun n i (_ : Unit) => laws_FnGroups.l1 k n i g.1 g.2.1 g.2.2.1 (sealedM l) less) (R := fun r _ => bif r.any (badP (sealedM l)) then some (true, ()) else bif less.any (badP (sealedM l)) then none else some (true, ())) (Ty.dflt TPlace) less (fun i _ => ∀ q ∈ less.take i.toNat, badP (sealedM l) q = false) (fun n _ hs => ?_) (fun n i _ x rest h0 h1 hx hr hs ih => ?_) (n := k) (s := ()) (by omega) (by simp)).trans (by cases less.any (badP (sealedM l)) <;> rfl)
  · have hb : less.any (badP (sealedM l)) = false := List.any_eq_false.2 fun q hq => by
      rw [Int.toNat_natCast, List.take_length] at hs
      rw [hs q hq]
      decide
    obtain ⟨r1, r2, r3⟩ := fin hb
    have hd2 : (regroupM ([], (0, (0, ()))) less).1.length ≤ 268435456 := regroupM_len (by omega) (by simp)
    simp (disch := omega) only [laws_FnGroups.l1, laws_FnGroups.b1, decF, cond_false]
    rw [implRegroup_eq hk _ (by omega) (by simp), Option.bind_some]
    simp only []
    rw [r1, r2, show (g.2.2.1 == g.2.2.1) = true by simp, cond_true, sameDir_self hk (by omega), Option.bind_some, hb]
    simp only [cond_true]
    rw [decT r3]
    rfl
  · have hxm : less[i.toNat]? = some x := by
      have : i.toNat < less.length := by omega
      rw [List.getElem?_eq_getElem this]
      simp only [List.getD, List.getElem?_eq_getElem this, Option.getD_some] at hx
      rw [hx]
    have e : (x :: rest).any (badP (sealedM l)) = (badP (sealedM l) x || rest.any (badP (sealedM l))) := rfl
    have ihx : badP (sealedM l) x = false → laws_FnGroups.l1 k n (i + 1) g.1 g.2.1 g.2.2.1 (sealedM l) less = bif rest.any (badP (sealedM l)) then some (true, ()) else bif less.any (badP (sealedM l)) then none else some (true, ()) := fun hbx => ih () (fun q hq => by
      rw [show (i + 1).toNat = i.toNat + 1 by omega, List.take_add_one, hxm] at hq
      rcases List.mem_append.1 hq with q1 | q1
      · exact hs q q1
      · have : q = x := by simpa using q1
        rw [this]; exact hbx)
    rw [e]
    simp (disch := omega) only [laws_FnGroups.l1, laws_FnGroups.b1, decT h1, cond_true, inb_eq, hx, lawHas_eq hk, Option.bind_some, w64_eq]
    cases c : badP (sealedM l) x with
    | false =>
      rw [ihx c, Bool.false_or]
      unfold badP at c
      revert c
      cases x.2.2.2.1.1 == 3 <;> cases hasN (sealedM l) x.2.2.2.1.2.1 <;> cases x.2.2.2.1.2.2.2.2.1 == 0 <;> intro c <;> first | rfl | cases c
    | true =>
      unfold badP at c
      rw [Bool.and_eq_true, Bool.and_eq_true] at c
      rw [c.1, c.2.1, c.2.2]
      rfl
theorem groups_all {k : Nat} (hk : 2 ^ 50 ≤ k) (code : List Int) : laws_FnGroups.f k code = some (true, ()) := by
  unfold laws_FnGroups.f laws_FnGroups.t
  have hbig : laws_big.f k code = some (decide ((code.length : Int) > 1048576), ()) := rfl
  rw [hbig, Option.bind_some]
  by_cases c : (code.length : Int) > 1048576
  · rw [decT c]; rfl
  · rw [decF c]
    simp only [cond_false]
    obtain ⟨g0, l, e, hl⟩ := drawRegroup_ok hk (code := code) (by omega)
    rw [e, Option.bind_some]
    simp only []
    have hdl : (regroupM ([], (0, (0, ()))) l).1.length ≤ 268435456 := regroupM_len (by omega) (by simp)
    have hsl := sealedM_len l
    rw [implRegroup_eq hk _ (by omega) (by simp), Option.bind_some, specRegroup_eq hk _ (by omega) (by simp), Option.bind_some]
    simp only []
    rw [show ((regroupM ([], (0, (0, ()))) l).2.2.1 != (regroupM ([], (0, (0, ()))) l).2.2.1) = false by simp, cond_false, show ((regroupM ([], (0, (0, ()))) l).2.1 != (regroupM ([], (0, (0, ()))) l).2.1) = false by simp, cond_false,
      sameDir_self hk (by omega), Option.bind_some]
    simp only [Bool.not_true, cond_false]
    rw [implSealed_eq hk (by omega), Option.bind_some]
    simp only []
    have hfl : (l.filter (keepP (sealedM l))).length ≤ 1000 := Nat.le_trans (List.length_filter_le ..) hl
    refine (forL0 (L := fun n i s => laws_FnGroups.l0 k n i l (regroupM ([], (0, (0, ()))) l).1 (regroupM ([], (0, (0, ()))) l).2.1 (regroupM ([], (0, (0, ()))) l).2.2.1 (sealedM l) s) (R := fun r s => laws_FnGroups.l1 k k 0 (regroupM ([], (0, (0, ()))) l).1 (regroupM ([], (0, (0, ()))) l).2.1 (regroupM ([], (0, (0, ()))) l).2.2.1 (sealedM l) (s ++ r.filter (keepP (sealedM l)))) (Ty.dflt TPlace) l (fun i s => (s.length : Int) ≤ i) (fun n s hs => ?_) (fun n i s x rest h0 h1 hx hr hs ih => ?_) (n := k) (s := []) (by omega) (by simp)).trans (by
        rw [List.nil_append]
        exact groups_2 hk hfl (by omega) rfl rfl hdl)
    · simp (disch := omega) only [laws_FnGroups.l0, laws_FnGroups.b0, decF, cond_false]
      rw [show ([] : PlaceL).filter (keepP (sealedM l)) = [] from rfl, List.append_nil]
    · have iY := ih (s ++ [x]) (by rw [len_snoc]; omega)
      have iN := ih s (by omega)
      simp (disch := first | omega | decide) only [laws_FnGroups.l0, laws_FnGroups.b0, decT h1, cond_true, inb_eq, hx, lawHas_eq hk, Option.bind_some, rm_ok, w64_eq, iY, iN]
      cases ck : keepP (sealedM l) x with
      | true =>
        rw [List.filter_cons_of_pos ck, List.append_assoc]
        unfold keepP unsP at ck
        revert ck
        cases x.2.2.2.1.1 == 1 <;> cases x.2.2.2.1.1 == 2 <;> cases hasN (sealedM l) x.2.2.2.1.2.1 <;> intro ck <;> first | rfl | cases ck
      | false =>
        rw [List.filter_cons_of_neg (by rw [ck]; decide)]
        unfold keepP unsP at ck
        revert ck
        cases x.2.2.2.1.1 == 1 <;> cases x.2.2.2.1.1 == 2 <;> cases hasN (sealedM l) x.2.2.2.1.2.1 <;> intro ck <;> first | rfl | cases ck
theorem fnGroups_pure : ∀ x, Wf (tup [.slice (.int .u8)]) x → ∃ k r, laws_FnGroups.f k x.1 = some r ∧ sndT (B := [.bool]) (outT ([.val (.slice (.int .u8))])) r = (true, ()) := by
  rintro ⟨a0, _⟩ ⟨f0, _⟩
  suffices Ev (fun k => laws_FnGroups.f k a0) (true, ()) by
    obtain ⟨k, h⟩ := this.some
    exact ⟨k, (true, ()), h, rfl⟩
  exact ev_big fun k hk => groups_all hk a0
end Go.Proofs.Ytiigjojchlplpaa.G

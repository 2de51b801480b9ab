/- The plain laws of Fold: both readings answer alike. -/
import Derived.Test.YtiigjojchlplpaaEA
set_option linter.unusedVariables false
set_option linter.unusedSimpArgs false
namespace Go.Proofs.Ytiigjojchlplpaa.G
open Go.V
theorem up64 {i : Nat} (h : i ≤ 4398046511104) : w64 ((i : Int) + 1) = ((i + 1 : Nat) : Int) := by rw [w64_eq (by omega) (by omega)]; rfl
abbrev PairL := List (Ty.den TPair)
def leP (key : ByteArray) (x : Ty.den TPair) : Bool := sls x.1 key || seq x.1 key
def withoutV (l : PairL) (key : ByteArray) : PairL := l.filter fun x => !(seq x.1 key)
def insV (l : PairL) (p : Ty.den TPair) : PairL := l.takeWhile (leP p.1) ++ p :: l.dropWhile (leP p.1)
def setV (l : PairL) (p : Ty.den TPair) (del : Bool) : PairL := bif del then withoutV l p.1 else insV (withoutV l p.1) p
def foldV (l : PairL) (puts : List (Ty.den TPut)) (b : Int) : PairL := puts.foldl (fun l q => setV l (q.1, (q.2.2.1, (b, ()))) q.2.1) l
theorem insV_len (l : PairL) (p : Ty.den TPair) : (insV l p).length = l.length + 1 := by
  unfold insV
  rw [List.length_append, List.length_cons]
  have := congrArg List.length (List.takeWhile_append_dropWhile (p := leP p.1) (l := l))
  rw [List.length_append] at this
  omega
theorem withoutV_len (l : PairL) (key : ByteArray) : (withoutV l key).length ≤ l.length := List.length_filter_le ..
theorem setV_len (l : PairL) (p : Ty.den TPair) (del : Bool) : (setV l p del).length ≤ l.length + 1 := by
  unfold setV
  have := withoutV_len l p.1
  cases del
  · rw [cond_false, insV_len]; omega
  · rw [cond_true]; omega
theorem foldV_len : ∀ (puts : List (Ty.den TPut)) (l : PairL) (b : Int), (foldV l puts b).length ≤ l.length + puts.length
  | [], l, b => Nat.le_refl _
  | q :: puts, l, b => by
    have := foldV_len puts (setV l (q.1, (q.2.2.1, (b, ()))) q.2.1) b
    have h2 := setV_len l (q.1, (q.2.2.1, (b, ()))) q.2.1
    show (foldV (setV l (q.1, (q.2.2.1, (b, ()))) q.2.1) puts b).length ≤ _
    rw [List.length_cons]
    omega
theorem drop_one {α : Type} {l : List α} {i : Nat} {z : α} (h : i < l.length) : l.drop i = l.getD i z :: l.drop (i + 1) := by
  rw [List.drop_eq_getElem_cons h]
  simp [List.getD, h]
/- The reference's. -/
theorem set_ev {l : PairL} {key val : ByteArray} {b : Int} (hl : l.length ≤ 17592186044) : ∀ (d i : Nat) (done : Bool) (out : PairL), l.length - i = d → i ≤ l.length → out.length ≤ 2 * i + 1 →
    Ev2 (fun k n => spec_l13Set.l0 k n l done (i : Int) key val b out) (out ++ (bif done then withoutV (l.drop i) key else insV (withoutV (l.drop i) key) (key, (val, (b, ())))), ())
  | 0, i, done, out, hd, hi, ho => by
    have h2 : ¬ ((i : Int) < (l.length : Int)) := by omega
    have hr : (out.length + 1) * Ty.bytes TPair ≤ 140737488355328 := by have : Ty.bytes TPair = 40 := rfl; rw [this]; omega
    refine Ev2.step (b := fun k n => spec_l13Set.b0 k (spec_l13Set.l0 k n) l done (i : Int) key val b out) (fun k n => rfl) ?_
    rw [List.drop_eq_nil_of_le (by omega)]
    unfold spec_l13Set.b0
    simp only [decide_eq_false h2, cond_false, rm_eq hr (show out.length + 1 ≤ 140737488355328 by omega)]
    cases done
    · exact Ev2.of fun _ _ => rfl
    · refine Ev2.of fun _ _ => ?_
      simp [withoutV]
  | d + 1, i, done, out, hd, hi, ho => by
    have h2 : ((i : Int) < (l.length : Int)) := by omega
    have h0 := Int.natCast_nonneg i
    have hr : (out.length + 1) * Ty.bytes TPair ≤ 140737488355328 := by have : Ty.bytes TPair = 40 := rfl; rw [this]; omega
    have hr2 : ((out ++ [(key, (val, (b, ())))]).length + 1) * Ty.bytes TPair ≤ 140737488355328 := by have : Ty.bytes TPair = 40 := rfl; rw [this, List.length_append]; show (_ + 1 + 1) * 40 ≤ _; omega
    have hr3 : (out ++ [((key, (val, (b, ()))) : Ty.den TPair)]).length + 1 ≤ 140737488355328 := by rw [List.length_append]; show _ + 1 + 1 ≤ _; omega
    refine Ev2.step (b := fun k n => spec_l13Set.b0 k (spec_l13Set.l0 k n) l done (i : Int) key val b out) (fun k n => rfl) ?_
    rw [drop_one (z := Ty.dflt TPair) (show i < l.length by omega)]
    unfold spec_l13Set.b0
    simp only [decide_eq_true h2, cond_true, inb_eq h0 h2, toNat_ofNat, up64 (show i ≤ 4398046511104 by omega), rm_eq hr (show out.length + 1 ≤ 140737488355328 by omega), rm_eq hr2 hr3]
    generalize l.getD i (Ty.dflt TPair) = x
    cases c1 : seq x.1 key
    · have e1 : withoutV (x :: l.drop (i + 1)) key = x :: withoutV (l.drop (i + 1)) key := by simp [withoutV, c1]
      rw [e1]
      cases done
      · cases c2 : sls x.1 key
        · have e2 : insV (x :: withoutV (l.drop (i + 1)) key) (key, (val, (b, ()))) = (key, (val, (b, ()))) :: x :: withoutV (l.drop (i + 1)) key := by
            simp [insV, leP, c1, c2]
          have ih := set_ev (key := key) (val := val) (b := b) hl d (i + 1) true ((out ++ [(key, (val, (b, ())))]) ++ [x]) (by omega) (by omega) (by rw [List.length_append, List.length_append]; show _ + 1 + 1 ≤ _; omega)
          simp only [cond_false, e2, Bool.or_false, Bool.not_false, cond_true]
          simp only [cond_true, List.append_assoc, List.cons_append, List.nil_append] at ih ⊢
          exact ih
        · have e2 : insV (x :: withoutV (l.drop (i + 1)) key) (key, (val, (b, ()))) = x :: insV (withoutV (l.drop (i + 1)) key) (key, (val, (b, ()))) := by
            simp [insV, leP, c1, c2]
          have ih := set_ev (key := key) (val := val) (b := b) hl d (i + 1) false (out ++ [x]) (by omega) (by omega) (by rw [List.length_append]; show _ + 1 ≤ _; omega)
          simp only [cond_false, e2, Bool.true_or, Bool.not_false, Bool.not_true, cond_true]
          simp only [cond_false, List.append_assoc, List.cons_append, List.nil_append] at ih ⊢
          exact ih
      · have ih := set_ev (key := key) (val := val) (b := b) hl d (i + 1) true (out ++ [x]) (by omega) (by omega) (by rw [List.length_append]; show _ + 1 ≤ _; omega)
        simp only [Bool.not_true, cond_false, cond_true]
        simp only [cond_true, List.append_assoc, List.cons_append, List.nil_append] at ih ⊢
        exact ih
    · have e1 : withoutV (x :: l.drop (i + 1)) key = withoutV (l.drop (i + 1)) key := by simp [withoutV, c1]
      rw [e1]
      simp only [cond_true]
      exact set_ev hl d (i + 1) done out (by omega) (by omega) (by omega)
theorem specSet_ev {l : PairL} (p : Ty.den TPair) (del : Bool) (hl : l.length ≤ 17592186044) : Ev (fun k => spec_l13Set.f k l p del) (setV l p del, ()) := by
  have := (set_ev (key := p.1) (val := p.2.1) (b := p.2.2.1) hl l.length 0 del [] (by omega) (by omega) (by simp)).diag
  rw [List.drop_zero, List.nil_append] at this
  exact this
theorem foldV_drop {puts : List (Ty.den TPut)} {i : Nat} {l : PairL} {b : Int} (h : i < puts.length) : foldV l (puts.drop i) b =
    foldV (setV l ((puts.getD i (Ty.dflt TPut)).1, ((puts.getD i (Ty.dflt TPut)).2.2.1, (b, ()))) (puts.getD i (Ty.dflt TPut)).2.1) (puts.drop (i + 1)) b := by
  rw [drop_one (z := Ty.dflt TPut) h]
  rfl
theorem specFoldL {puts : List (Ty.den TPut)} {b : Int} (hp : puts.length ≤ 1048576) : ∀ (d i : Nat) (l : PairL), puts.length - i = d → i ≤ puts.length → l.length ≤ 4000000000 + i →
    Ev2 (fun k n => spec_Fold.l0 k n puts b (i : Int) l) (foldV l (puts.drop i) b, ())
  | 0, i, l, hd, hi, hl => by
    have h2 : ¬ ((i : Int) < (puts.length : Int)) := by omega
    refine Ev2.step (b := fun k n => spec_Fold.b0 k (spec_Fold.l0 k n) puts b (i : Int) l) (fun k n => rfl) ?_
    rw [List.drop_eq_nil_of_le (by omega)]
    unfold spec_Fold.b0
    simp only [decide_eq_false h2, cond_false]
    exact Ev2.of fun _ _ => rfl
  | d + 1, i, l, hd, hi, hl => by
    have h2 : ((i : Int) < (puts.length : Int)) := by omega
    have h0 := Int.natCast_nonneg i
    refine Ev2.step (b := fun k n => spec_Fold.b0 k (spec_Fold.l0 k n) puts b (i : Int) l) (fun k n => rfl) ?_
    rw [foldV_drop (show i < puts.length by omega)]
    unfold spec_Fold.b0
    simp only [decide_eq_true h2, cond_true, inb_eq h0 h2, toNat_ofNat, up64 (show i ≤ 4398046511104 by omega)]
    refine Ev2.bind (specSet_ev _ _ (by omega)) ?_
    exact specFoldL hp d (i + 1) _ (by omega) (by omega) (Nat.le_trans (setV_len _ _ _) (by omega))
theorem specFold_ev {l : PairL} {puts : List (Ty.den TPut)} (b : Int) (hp : puts.length ≤ 1048576) (hl : l.length ≤ 4000000000) : Ev (fun k => spec_Fold.f k l puts b) (foldV l puts b, ()) := by
  have hr : l.length * Ty.bytes TPair ≤ 140737488355328 := by have : Ty.bytes TPair = 40 := rfl; rw [this]; omega
  refine Ev.eq (specFoldL (b := b) hp puts.length 0 l (by omega) (by omega) (by omega)).diag fun k => ?_
  show rm _ _ _ = _
  rw [Nat.zero_add, rm_eq hr (by omega)]
  rfl
/- The program's. -/
theorem without_ev {l : PairL} {key : ByteArray} (hl : l.length ≤ 17592186044) : ∀ (d i : Nat) (out : PairL), l.length - i = d → i ≤ l.length → out.length ≤ i →
    Ev2 (fun k n => impl_without.l0 k n key l (l.length : Int) (i : Int) out) (out ++ withoutV (l.drop i) key, ())
  | 0, i, out, hd, hi, ho => by
    have h2 : ¬ ((i : Int) < (l.length : Int)) := by omega
    refine Ev2.step (b := fun k n => impl_without.b0 k (impl_without.l0 k n) key l (l.length : Int) (i : Int) out) (fun k n => rfl) ?_
    rw [List.drop_eq_nil_of_le (by omega)]
    unfold impl_without.b0
    simp only [decide_eq_false h2, cond_false]
    refine Ev2.of fun _ _ => ?_
    simp [withoutV]
  | d + 1, i, out, hd, hi, ho => by
    have h2 : ((i : Int) < (l.length : Int)) := by omega
    have h0 := Int.natCast_nonneg i
    have hr : (out.length + 1) * Ty.bytes TPair ≤ 140737488355328 := by have : Ty.bytes TPair = 40 := rfl; rw [this]; omega
    refine Ev2.step (b := fun k n => impl_without.b0 k (impl_without.l0 k n) key l (l.length : Int) (i : Int) out) (fun k n => rfl) ?_
    rw [drop_one (z := Ty.dflt TPair) (show i < l.length by omega)]
    unfold impl_without.b0
    simp only [decide_eq_true h2, cond_true, inb_eq h0 h2, toNat_ofNat, up64 (show i ≤ 4398046511104 by omega), rm_eq hr (show out.length + 1 ≤ 140737488355328 by omega)]
    generalize l.getD i (Ty.dflt TPair) = x
    cases c1 : seq x.1 key
    · have e1 : withoutV (x :: l.drop (i + 1)) key = x :: withoutV (l.drop (i + 1)) key := by simp [withoutV, c1]
      rw [e1]
      have ih := without_ev (key := key) hl d (i + 1) (out ++ [x]) (by omega) (by omega) (by rw [List.length_append]; show _ + 1 ≤ _; omega)
      simp only [Bool.not_false, cond_true]
      simp only [List.append_assoc, List.cons_append, List.nil_append] at ih ⊢
      exact ih
    · have e1 : withoutV (x :: l.drop (i + 1)) key = withoutV (l.drop (i + 1)) key := by simp [withoutV, c1]
      rw [e1]
      simp only [Bool.not_true, cond_false]
      exact without_ev hl d (i + 1) out (by omega) (by omega) (by omega)
theorem implWithout_ev (l : PairL) (key : ByteArray) (hl : l.length ≤ 17592186044) : Ev (fun k => impl_without.f k l key) (withoutV l key, ()) := by
  have := (without_ev (key := key) hl l.length 0 [] (by omega) (by omega) (by simp)).diag
  rw [List.drop_zero, List.nil_append] at this
  exact this
theorem copy_eq (k : Nat) (l : PairL) (hl : l.length ≤ 3518437208883) : impl_copyPairs.f k l = some (l, ()) := by
  unfold impl_copyPairs.f impl_copyPairs.t
  exact rm_eq (by have : Ty.bytes TPair = 40 := rfl; rw [this]; omega) (by omega)
theorem insV_at {l : PairL} {p : Ty.den TPair} : ∀ (i : Nat), i ≤ l.length → (∀ j, j < i → leP p.1 (l.getD j (Ty.dflt TPair)) = true) → (i < l.length → leP p.1 (l.getD i (Ty.dflt TPair)) = false) → insV l p = l.take i ++ p :: l.drop i := by
  induction l with
  | nil =>
    intro i hi _ _
    have : i = 0 := by simpa using hi
    subst this
    rfl
  | cons x l ih =>
    intro i hi h1 h2
    cases i with
    | zero =>
      have := h2 (by simp)
      simp at this
      simp [insV, this]
    | succ i =>
      have hx := h1 0 (by omega)
      simp at hx
      have := ih i (by simpa using hi) (fun j hj => by simpa using h1 (j + 1) (by omega)) (fun h => by simpa using h2 (by simpa using h))
      simp only [insV] at this ⊢
      simp [hx, this]
theorem insL {k : Nat} {L0 : Int → List (Ty.den TPut) → Int → Int → PairL → Option (PairL × Unit)} {l : PairL} {puts : List (Ty.den TPut)} {n i : Nat} {key val : ByteArray} {del : Bool} {b : Int} (hl : l.length ≤ 17592186044) (hi : i ≤ 4398046511104) :
    ∀ (d j m : Nat), l.length - j = d → j ≤ l.length → d < m → (∀ q, q < j → leP key (l.getD q (Ty.dflt TPair)) = true) →
    impl_Fold.l1 k L0 m b (j : Int) puts (n : Int) (i : Int) l key del val = L0 b puts (n : Int) ((i + 1 : Nat) : Int) (insV l (key, (val, (b, ())))) := by
  intro d
  induction d with
  | zero =>
    intro j m hd hj hm hq
    obtain ⟨m, rfl⟩ : ∃ q, m = q + 1 := ⟨m - 1, by omega⟩
    have h2 : ¬ ((j : Int) < (l.length : Int)) := by omega
    have hr1 : ((l.take j).length + 1) * Ty.bytes TPair ≤ 140737488355328 := by have : Ty.bytes TPair = 40 := rfl; rw [this, List.length_take]; omega
    have hr2 : ((l.take j ++ [((key, (val, (b, ()))) : Ty.den TPair)]).length + (l.drop j).length) * Ty.bytes TPair ≤ 140737488355328 := by have : Ty.bytes TPair = 40 := rfl; rw [this, List.length_append, List.length_take, List.length_drop]; show (_ + 1 + _) * 40 ≤ _; omega
    have hr3 : (l.take j ++ [((key, (val, (b, ()))) : Ty.den TPair)]).length + (l.drop j).length ≤ 140737488355328 := by rw [List.length_append, List.length_take, List.length_drop]; show _ + 1 + _ ≤ _; omega
    have e := insV_at (p := (key, (val, (b, ())))) j hj hq (fun h => by omega)
    simp only [impl_Fold.l1, impl_Fold.b1, decide_eq_false h2, cond_false, inc_eq (Int.natCast_nonneg j) (show (j : Int) ≤ (l.length : Int) by omega), toNat_ofNat, copy_eq k (l.take j) (by rw [List.length_take]; omega), Option.bind_some,
      rm_eq hr1 (show (l.take j).length + 1 ≤ 140737488355328 by rw [List.length_take]; omega), rm_eq hr2 hr3, up64 hi, e, List.append_assoc, List.cons_append, List.nil_append]
  | succ d ih =>
    intro j m hd hj hm hq
    obtain ⟨m, rfl⟩ : ∃ q, m = q + 1 := ⟨m - 1, by omega⟩
    have h2 : ((j : Int) < (l.length : Int)) := by omega
    have h0 := Int.natCast_nonneg j
    cases c : leP key (l.getD j (Ty.dflt TPair))
    · have hr1 : ((l.take j).length + 1) * Ty.bytes TPair ≤ 140737488355328 := by have : Ty.bytes TPair = 40 := rfl; rw [this, List.length_take]; omega
      have hr2 : ((l.take j ++ [((key, (val, (b, ()))) : Ty.den TPair)]).length + (l.drop j).length) * Ty.bytes TPair ≤ 140737488355328 := by have : Ty.bytes TPair = 40 := rfl; rw [this, List.length_append, List.length_take, List.length_drop]; show (_ + 1 + _) * 40 ≤ _; omega
      have hr3 : (l.take j ++ [((key, (val, (b, ()))) : Ty.den TPair)]).length + (l.drop j).length ≤ 140737488355328 := by rw [List.length_append, List.length_take, List.length_drop]; show _ + 1 + _ ≤ _; omega
      have e := insV_at (p := (key, (val, (b, ())))) j hj hq (fun h => c)
      unfold leP at c
      simp only [impl_Fold.l1, impl_Fold.b1, decide_eq_true h2, cond_true, inb_eq h0 h2, toNat_ofNat, c, cond_false, inc_eq (Int.natCast_nonneg j) (show (j : Int) ≤ (l.length : Int) by omega), copy_eq k (l.take j) (by rw [List.length_take]; omega), Option.bind_some,
        rm_eq hr1 (show (l.take j).length + 1 ≤ 140737488355328 by rw [List.length_take]; omega), rm_eq hr2 hr3, up64 hi, e, List.append_assoc, List.cons_append, List.nil_append]
    · have := ih (j + 1) m (by omega) (by omega) (by omega) (fun q h => by
        rcases Nat.lt_or_ge q j with h3 | h3
        · exact hq q h3
        · rw [show q = j by omega]; exact c)
      unfold leP at c
      simp only [impl_Fold.l1, impl_Fold.b1, decide_eq_true h2, cond_true, inb_eq h0 h2, toNat_ofNat, c, up64 (show j ≤ 4398046511104 by omega)]
      exact this
theorem implFoldL {puts : List (Ty.den TPut)} {b : Int} (hp : puts.length ≤ 1048576) : ∀ (d i : Nat) (l : PairL), puts.length - i = d → i ≤ puts.length → l.length ≤ 4000000000 + i →
    Ev2 (fun k n => impl_Fold.l0 k n b puts (puts.length : Int) (i : Int) l) (foldV l (puts.drop i) b, ())
  | 0, i, l, hd, hi, hl => by
    have h2 : ¬ ((i : Int) < (puts.length : Int)) := by omega
    refine Ev2.step (b := fun k n => impl_Fold.b0 k (impl_Fold.l1 k (impl_Fold.l0 k n) k) (impl_Fold.l0 k n) b puts (puts.length : Int) (i : Int) l) (fun k n => rfl) ?_
    rw [List.drop_eq_nil_of_le (by omega)]
    unfold impl_Fold.b0
    simp only [decide_eq_false h2, cond_false]
    exact Ev2.of fun _ _ => rfl
  | d + 1, i, l, hd, hi, hl => by
    have h2 : ((i : Int) < (puts.length : Int)) := by omega
    have h0 := Int.natCast_nonneg i
    refine Ev2.step (b := fun k n => impl_Fold.b0 k (impl_Fold.l1 k (impl_Fold.l0 k n) k) (impl_Fold.l0 k n) b puts (puts.length : Int) (i : Int) l) (fun k n => rfl) ?_
    rw [foldV_drop (show i < puts.length by omega)]
    have hsl := setV_len l ((puts.getD i (Ty.dflt TPut)).1, ((puts.getD i (Ty.dflt TPut)).2.2.1, (b, ()))) (puts.getD i (Ty.dflt TPut)).2.1
    have ih := implFoldL (b := b) hp d (i + 1) (setV l ((puts.getD i (Ty.dflt TPut)).1, ((puts.getD i (Ty.dflt TPut)).2.2.1, (b, ()))) (puts.getD i (Ty.dflt TPut)).2.1) (by omega) (by omega) (by omega)
    unfold impl_Fold.b0
    simp only [decide_eq_true h2, cond_true, inb_eq h0 h2, toNat_ofNat, up64 (show i ≤ 4398046511104 by omega)]
    refine Ev2.bind (implWithout_ev l _ (by omega)) ?_
    have hw := withoutV_len l (puts.getD i (Ty.dflt TPut)).1
    unfold setV at ih ⊢
    generalize puts.getD i (Ty.dflt TPut) = q at ih hw ⊢
    cases c : q.2.1
    · rw [c] at ih
      simp only [cond_false] at ih ⊢
      obtain ⟨K, ih⟩ := ih
      refine ⟨max K ((withoutV l q.1).length + 1), fun k n hk hn => ?_⟩
      rw [show (0 : Int) = ((0 : Nat) : Int) from rfl]
      exact (insL (by omega) (by omega) (withoutV l q.1).length 0 k (by omega) (by omega) (by omega) (fun q h => by omega)).trans (ih k n (by omega) (by omega))
    · rw [c] at ih
      simp only [cond_true] at ih ⊢
      exact ih
theorem implFold_ev {l : PairL} {puts : List (Ty.den TPut)} (b : Int) (hp : puts.length ≤ 1048576) (hl : l.length ≤ 4000000000) : Ev (fun k => impl_Fold.f k l puts b) (foldV l puts b, ()) := by
  show Ev (fun k => impl_Fold.t k (impl_Fold.l0 k k) l puts b) _
  unfold impl_Fold.t
  refine Ev.bind (Ev.of fun k => copy_eq k l (by omega)) ?_
  exact (implFoldL (b := b) hp puts.length 0 l (by omega) (by omega) (by omega)).diag
end Go.Proofs.Ytiigjojchlplpaa.G

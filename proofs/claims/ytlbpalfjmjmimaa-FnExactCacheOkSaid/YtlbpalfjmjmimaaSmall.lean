/- For all parcels, followers and caches the program's ParcelBytes, SameFollower and CacheOk answer as the reference's: plain laws. -/
import Derived.Test.YtlbpalfjmjmimaaEQ1
set_option linter.unusedVariables false
set_option linter.unusedSimpArgs false
namespace Go.Proofs.Ytlbpalfjmjmimaa.G
open Go.V
theorem succ64 {i : Nat} (h : i ≤ 1048576) : w64 ((i : Int) + 1) = ((i + 1 : Nat) : Int) := by rw [w64_eq (by omega) (by omega)]; rfl

/- Parcels. -/
def bytesFrom (l : List TBit.den) : Nat → Nat → Int → Int
  | 0, _, n => n
  | d + 1, i, n => bytesFrom l d (i + 1) (w64 (n + ((l.getD i (Ty.dflt TBit)).2.2.1.size : Int)))
theorem specBytes_ev {l : List TBit.den} {x : Int} (hl : l.length ≤ 1048576) : ∀ (d i : Nat) (n : Int), l.length - i = d → i ≤ l.length → Ev2 (fun k m => spec_ParcelBytes.l0 k m n (i : Int) x l) (bytesFrom l d i n, ())
  | 0, i, n, hd, hi => by
    refine Ev2.step (b := fun k m => spec_ParcelBytes.b0 k (spec_ParcelBytes.l0 k m) n i x l) (fun k m => rfl) (Ev2.of fun k m => ?_)
    unfold spec_ParcelBytes.b0
    rw [decide_eq_false (by omega), cond_false]
    rfl
  | d + 1, i, n, hd, hi => by
    refine Ev2.step (b := fun k m => spec_ParcelBytes.b0 k (spec_ParcelBytes.l0 k m) n i x l) (fun k m => rfl) ?_
    have h2 : ((i : Int) < (List.length l : Int)) := by omega
    unfold spec_ParcelBytes.b0
    simp only [decide_eq_true h2, cond_true, inb_eq (Int.natCast_nonneg i) h2, toNat_ofNat, succ64 (show i ≤ 1048576 by omega)]
    exact specBytes_ev hl d (i + 1) _ (by omega) (by omega)
theorem implBytes_ev {l : List TBit.den} (hl : l.length ≤ 1048576) : ∀ (d i : Nat) (n : Int), l.length - i = d → i ≤ l.length → Ev2 (fun k m => impl_ParcelBytes.l0 k m n l (l.length : Int) (i : Int)) (bytesFrom l d i n, ())
  | 0, i, n, hd, hi => by
    refine Ev2.step (b := fun k m => impl_ParcelBytes.b0 k (impl_ParcelBytes.l0 k m) n l (l.length : Int) i) (fun k m => rfl) (Ev2.of fun k m => ?_)
    unfold impl_ParcelBytes.b0
    rw [decide_eq_false (by omega), cond_false]
    rfl
  | d + 1, i, n, hd, hi => by
    refine Ev2.step (b := fun k m => impl_ParcelBytes.b0 k (impl_ParcelBytes.l0 k m) n l (l.length : Int) i) (fun k m => rfl) ?_
    have h2 : ((i : Int) < (List.length l : Int)) := by omega
    unfold impl_ParcelBytes.b0
    simp only [decide_eq_true h2, cond_true, inb_eq (Int.natCast_nonneg i) h2, toNat_ofNat, succ64 (show i ≤ 1048576 by omega)]
    exact implBytes_ev hl d (i + 1) _ (by omega) (by omega)
theorem fnExactParcelBytes_pure : ∀ x, Wf (tup [TParcel]) x → ∃ k, laws_FnExactParcelBytes.f k x.1 = some (true, ()) := by
  rintro ⟨p, _⟩ ⟨hw, _⟩
  refine Ev.some ?_
  show Ev (fun k => laws_FnExactParcelBytes.t k p) _
  unfold laws_FnExactParcelBytes.t
  refine Ev.bind (szParcel_ev p hw 1048576 (by omega) (by omega)) ?_
  by_cases c : ((weight TParcel p : Nat) : Int) ≤ 1048576
  case neg =>
    refine Ev.of fun k => ?_
    rw [sz_bad (by omega)]
    rfl
  have c' : ¬ ((1048576 : Int) - (weight TParcel p : Int) < 0) := by omega
  have hx : weight TParcel p ≤ 1048576 := by omega
  have e : weight TParcel p = 0 + (weight (.slice TBit) p.2.1 + 0) := rfl
  have hl : p.2.1.length ≤ 1048576 := weight_len (t := TBit) (l := p.2.1) (by omega)
  simp only [sz_ok c, decide_eq_false c', cond_false]
  refine Ev.bind (toParcel_ev p hx) (Ev.bind (r := (bytesFrom p.2.1 p.2.1.length 0 0, ())) (specBytes_ev hl _ 0 0 (by omega) (by omega)).diag ?_)
  refine Ev.bind (toParcel_ev p hx) (Ev.bind (r := (bytesFrom p.2.1 p.2.1.length 0 0, ())) (implBytes_ev hl _ 0 0 (by omega) (by omega)).diag ?_)
  simp only [bne_self_eq_false, cond_false]
  refine Ev.bind (toParcel_ev p hx) (Ev.bind (eqParcel_ev p hx) ?_)
  exact Ev.of fun k => rfl

/- Followers. -/
def sameFrom (l m : List TPiece.den) : Nat → Nat → Bool
  | 0, _ => true
  | d + 1, i => (((l.getD i (Ty.dflt TPiece)).1 == (m.getD i (Ty.dflt TPiece)).1) && seq (l.getD i (Ty.dflt TPiece)).2.1 (m.getD i (Ty.dflt TPiece)).2.1) && sameFrom l m d (i + 1)
theorem specSame_ev {l m : List TPiece.den} {a b : Int} (hl : l.length ≤ 1048576) (hm : l.length = m.length) : ∀ (d i : Nat), l.length - i = d → i ≤ l.length → Ev2 (fun k n => spec_SameFollower.l0 k n (i : Int) a l b m) (sameFrom l m d i, ())
  | 0, i, hd, hi => by
    refine Ev2.step (b := fun k n => spec_SameFollower.b0 k (spec_SameFollower.l0 k n) i a l b m) (fun k n => rfl) (Ev2.of fun k n => ?_)
    unfold spec_SameFollower.b0
    rw [decide_eq_false (by omega), cond_false]
    rfl
  | d + 1, i, hd, hi => by
    refine Ev2.step (b := fun k n => spec_SameFollower.b0 k (spec_SameFollower.l0 k n) i a l b m) (fun k n => rfl) ?_
    have h2 : ((i : Int) < (List.length l : Int)) := by omega
    have h3 : ((i : Int) < (List.length m : Int)) := by omega
    have ih := specSame_ev (a := a) (b := b) hl hm d (i + 1) (by omega) (by omega)
    unfold spec_SameFollower.b0
    simp only [decide_eq_true h2, cond_true, inb_eq (Int.natCast_nonneg i) h2, inb_eq (Int.natCast_nonneg i) h3, toNat_ofNat, succ64 (show i ≤ 1048576 by omega), sameFrom]
    generalize (((l.getD i (Ty.dflt TPiece)).1 == (m.getD i (Ty.dflt TPiece)).1) && seq (l.getD i (Ty.dflt TPiece)).2.1 (m.getD i (Ty.dflt TPiece)).2.1) = c
    cases c with
    | false => exact Ev2.of fun _ _ => rfl
    | true => exact ih
theorem implSame_ev {l m : List TPiece.den} {a b : Int} (hl : l.length ≤ 1048576) (hm : l.length = m.length) : ∀ (d i : Nat), l.length - i = d → i ≤ l.length → Ev2 (fun k n => impl_SameFollower.l0 k n (l.length : Int) (i : Int) a l b m) (sameFrom l m d i, ())
  | 0, i, hd, hi => by
    refine Ev2.step (b := fun k n => impl_SameFollower.b0 k (impl_SameFollower.l0 k n) (l.length : Int) i a l b m) (fun k n => rfl) (Ev2.of fun k n => ?_)
    unfold impl_SameFollower.b0
    rw [decide_eq_false (by omega), cond_false]
    rfl
  | d + 1, i, hd, hi => by
    refine Ev2.step (b := fun k n => impl_SameFollower.b0 k (impl_SameFollower.l0 k n) (l.length : Int) i a l b m) (fun k n => rfl) ?_
    have h2 : ((i : Int) < (List.length l : Int)) := by omega
    have h3 : ((i : Int) < (List.length m : Int)) := by omega
    have ih := implSame_ev (a := a) (b := b) hl hm d (i + 1) (by omega) (by omega)
    unfold impl_SameFollower.b0
    simp only [decide_eq_true h2, cond_true, inb_eq (Int.natCast_nonneg i) h2, inb_eq (Int.natCast_nonneg i) h3, toNat_ofNat, succ64 (show i ≤ 1048576 by omega), sameFrom]
    generalize (((l.getD i (Ty.dflt TPiece)).1 == (m.getD i (Ty.dflt TPiece)).1) && seq (l.getD i (Ty.dflt TPiece)).2.1 (m.getD i (Ty.dflt TPiece)).2.1) = c
    cases c with
    | false => exact Ev2.of fun _ _ => rfl
    | true => exact ih
def sameF (f g : TFollower.den) : Bool := f.1 == g.1 && (((f.2.1.length : Int) == (g.2.1.length : Int)) && sameFrom f.2.1 g.2.1 f.2.1.length 0)
theorem specSameF_ev {f g : TFollower.den} (hl : f.2.1.length ≤ 1048576) : Ev (fun k => spec_SameFollower.f k f g) (sameF f g, ()) := by
  show Ev (fun k => spec_SameFollower.t k (spec_SameFollower.l0 k k) f g) _
  unfold spec_SameFollower.t sameF
  simp only [bne]
  cases h1 : f.1 == g.1 with
  | false => exact Ev.of fun _ => rfl
  | true =>
    cases h2 : (f.2.1.length : Int) == (g.2.1.length : Int) with
    | false => exact Ev.of fun _ => rfl
    | true =>
      have : f.2.1.length = g.2.1.length := by have := eq_of_beq h2; omega
      exact (specSame_ev hl this _ 0 (by omega) (by omega)).diag
theorem implSameF_ev {f g : TFollower.den} (hl : f.2.1.length ≤ 1048576) : Ev (fun k => impl_SameFollower.f k f g) (sameF f g, ()) := by
  show Ev (fun k => impl_SameFollower.t k (impl_SameFollower.l0 k k) f g) _
  unfold impl_SameFollower.t sameF
  simp only [bne]
  cases h1 : f.1 == g.1 with
  | false => exact Ev.of fun _ => rfl
  | true =>
    cases h2 : (f.2.1.length : Int) == (g.2.1.length : Int) with
    | false => exact Ev.of fun _ => rfl
    | true =>
      have : f.2.1.length = g.2.1.length := by have := eq_of_beq h2; omega
      exact (implSame_ev hl this _ 0 (by omega) (by omega)).diag
theorem fnExactSameFollower_pure : ∀ x, Wf (tup [TFollower, TFollower]) x → ∃ k, laws_FnExactSameFollower.f k x.1 x.2.1 = some (true, ()) := by
  rintro ⟨f, g, _⟩ ⟨hf, hg, _⟩
  refine Ev.some ?_
  show Ev (fun k => laws_FnExactSameFollower.t k f g) _
  unfold laws_FnExactSameFollower.t
  refine Ev.bind (szFollower_ev f hf 1048576 (by omega) (by omega)) ?_
  by_cases c : ((weight TFollower f : Nat) : Int) ≤ 1048576
  case neg =>
    refine Ev.of fun k => ?_
    rw [sz_bad (by omega)]
    rfl
  have c' : ¬ ((1048576 : Int) - (weight TFollower f : Int) < 0) := by omega
  simp only [sz_ok c, decide_eq_false c', cond_false]
  refine Ev.bind (szFollower_ev g hg (1048576 - (weight TFollower f : Int)) (by omega) (by omega)) ?_
  by_cases d : ((weight TFollower g : Nat) : Int) ≤ 1048576 - (weight TFollower f : Int)
  case neg =>
    refine Ev.of fun k => ?_
    rw [sz_bad (by omega)]
    rfl
  have d' : ¬ ((1048576 : Int) - (weight TFollower f : Int) - (weight TFollower g : Int) < 0) := by omega
  simp only [sz_ok d, decide_eq_false d', cond_false]
  have wf : weight TFollower f ≤ 1048576 := by omega
  have wg : weight TFollower g ≤ 1048576 := by omega
  have e : weight TFollower f = 0 + (weight (.slice TPiece) f.2.1 + 0) := rfl
  have hl : f.2.1.length ≤ 1048576 := weight_len (t := TPiece) (l := f.2.1) (by omega)
  refine Ev.bind (toFollower_ev f wf) (Ev.bind (toFollower_ev g wg) (Ev.bind (specSameF_ev hl) ?_))
  refine Ev.bind (toFollower_ev f wf) (Ev.bind (toFollower_ev g wg) (Ev.bind (implSameF_ev hl) ?_))
  simp only [beq_self_eq_true, Bool.not_true, cond_false]
  refine Ev.bind (toFollower_ev f wf) (Ev.bind (eqFollower_ev f wf) ?_)
  simp only [Bool.not_true, cond_false]
  refine Ev.bind (toFollower_ev g wg) (Ev.bind (eqFollower_ev g wg) ?_)
  exact Ev.of fun k => rfl

/- Caches. -/
def hasKey (l : List TSlot.den) (s : ByteArray) : Nat → Nat → Bool
  | 0, _ => false
  | d + 1, i => seq (l.getD i (Ty.dflt TSlot)).1 s || hasKey l s d (i + 1)
def dups (l : List TSlot.den) : Nat → Nat → Bool
  | 0, _ => false
  | d + 1, i => hasKey l (l.getD i (Ty.dflt TSlot)).1 i 0 || dups l d (i + 1)
theorem specInner {l : List TSlot.den} {a b : Int} {i : Nat} (hl : l.length ≤ 1048576) (hi : i < l.length) : ∀ (d j : Nat), i - j = d → j ≤ i → ∃ K, ∀ k n, K ≤ n → ∀ L, spec_CacheOk.l1 k L n (i : Int) (j : Int) a l b =
    bif hasKey l (l.getD i (Ty.dflt TSlot)).1 d j then some (false, ()) else L ((i + 1 : Nat) : Int) a l b
  | 0, j, hd, hj => ⟨1, fun k n hn L => by
    obtain ⟨m, rfl⟩ : ∃ m, n = m + 1 := ⟨n - 1, by omega⟩
    show spec_CacheOk.b1 k L (spec_CacheOk.l1 k L m) i j a l b = _
    unfold spec_CacheOk.b1
    rw [decide_eq_false (by omega), cond_false, succ64 (by omega)]
    rfl⟩
  | d + 1, j, hd, hj => by
    obtain ⟨K, ih⟩ := specInner (a := a) (b := b) hl hi d (j + 1) (by omega) (by omega)
    refine ⟨K + 1, fun k n hn L => ?_⟩
    obtain ⟨m, rfl⟩ : ∃ m, n = m + 1 := ⟨n - 1, by omega⟩
    show spec_CacheOk.b1 k L (spec_CacheOk.l1 k L m) i j a l b = _
    unfold spec_CacheOk.b1
    rw [decide_eq_true (by omega), cond_true, inb_eq (by omega) (by omega), inb_eq (by omega) (by omega), toNat_ofNat, toNat_ofNat, succ64 (by omega), ih k m (by omega) L]
    simp only [hasKey]
    cases seq (l.getD j (Ty.dflt TSlot)).1 (l.getD i (Ty.dflt TSlot)).1 <;> rfl
theorem specDups_ev {l : List TSlot.den} {a b : Int} (hl : l.length ≤ 1048576) : ∀ (d i : Nat), l.length - i = d → i ≤ l.length → Ev2 (fun k n => spec_CacheOk.l0 k n (i : Int) a l b) (!dups l d i, ())
  | 0, i, hd, hi => by
    refine Ev2.step (b := fun k n => spec_CacheOk.b0 k (spec_CacheOk.l1 k (spec_CacheOk.l0 k n) k) (spec_CacheOk.l0 k n) i a l b) (fun k n => rfl) (Ev2.of fun k n => ?_)
    unfold spec_CacheOk.b0
    rw [decide_eq_false (by omega), cond_false]
    rfl
  | d + 1, i, hd, hi => by
    obtain ⟨K, hK⟩ := specDups_ev (a := a) (b := b) hl d (i + 1) (by omega) (by omega)
    obtain ⟨J, hJ⟩ := specInner (a := a) (b := b) (l := l) (i := i) hl (by omega) i 0 (by omega) (by omega)
    refine ⟨max J K + 1, fun k n hk hn => ?_⟩
    obtain ⟨m, rfl⟩ : ∃ m, n = m + 1 := ⟨n - 1, by omega⟩
    show spec_CacheOk.b0 k (spec_CacheOk.l1 k (spec_CacheOk.l0 k m) k) (spec_CacheOk.l0 k m) i a l b = _
    unfold spec_CacheOk.b0
    have h0 := hJ k k (by omega) (spec_CacheOk.l0 k m)
    rw [decide_eq_true (by omega), cond_true]
    refine h0.trans ?_
    have h5 : spec_CacheOk.l0 k m ((i + 1 : Nat) : Int) a l b = some (!dups l d (i + 1), ()) := hK k m (by omega) (by omega)
    rw [h5]
    simp only [dups]
    cases hasKey l (l.getD i (Ty.dflt TSlot)).1 i 0 <;> rfl
theorem slotAt_ev {l : List TSlot.den} {s : ByteArray} (hl : l.length ≤ 1048576) : ∀ (d i : Nat), l.length - i = d → i ≤ l.length → ∃ r : Int, decide (r ≥ 0) = hasKey l s d i ∧ Ev2 (fun k n => impl_slotAt.l0 k n s l (l.length : Int) (i : Int)) (r, ())
  | 0, i, hd, hi => by
    refine ⟨-1, rfl, Ev2.step (b := fun k n => impl_slotAt.b0 k (impl_slotAt.l0 k n) s l (l.length : Int) i) (fun k n => rfl) (Ev2.of fun k n => ?_)⟩
    unfold impl_slotAt.b0
    rw [decide_eq_false (by omega), cond_false]
  | d + 1, i, hd, hi => by
    obtain ⟨r, h1, h2⟩ := slotAt_ev (s := s) hl d (i + 1) (by omega) (by omega)
    have q : ((i : Int) < (List.length l : Int)) := by omega
    simp only [hasKey]
    cases c : seq (l.getD i (Ty.dflt TSlot)).1 s with
    | true =>
      refine ⟨i, by simp, Ev2.step (b := fun k n => impl_slotAt.b0 k (impl_slotAt.l0 k n) s l (l.length : Int) i) (fun k n => rfl) (Ev2.of fun k n => ?_)⟩
      unfold impl_slotAt.b0
      rw [decide_eq_true q, cond_true, inb_eq (by omega) q, toNat_ofNat, c]
      rfl
    | false =>
      refine ⟨r, by simpa using h1, Ev2.step (b := fun k n => impl_slotAt.b0 k (impl_slotAt.l0 k n) s l (l.length : Int) i) (fun k n => rfl) ?_⟩
      unfold impl_slotAt.b0
      simp only [decide_eq_true q, cond_true, inb_eq (Int.natCast_nonneg i) q, toNat_ofNat, c, cond_false, succ64 (show i ≤ 1048576 by omega)]
      exact h2
theorem hasKey_take {l : List TSlot.den} {s : ByteArray} {n : Nat} (hn : n ≤ l.length) : ∀ (d i : Nat), i + d = n → hasKey (l.take n) s d i = hasKey l s d i
  | 0, _, _ => rfl
  | d + 1, i, h => by
    simp only [hasKey]
    rw [hasKey_take hn d (i + 1) (by omega)]
    congr 3
    simp only [List.getD, List.getElem?_take_of_lt (show i < n by omega)]
theorem implDups_ev {l : List TSlot.den} {a b : Int} (hl : l.length ≤ 1048576) : ∀ (d i : Nat), l.length - i = d → i ≤ l.length → Ev2 (fun k n => impl_CacheOk.l0 k n l (l.length : Int) (i : Int) a l b) (!dups l d i && (decide (1 ≤ a ∧ a ≤ 10) && (decide ((l.length : Int) ≤ a) && decide (b ≥ 0))), ())
  | 0, i, hd, hi => by
    refine Ev2.step (b := fun k n => impl_CacheOk.b0 k (impl_CacheOk.l0 k n) l (l.length : Int) i a l b) (fun k n => rfl) (Ev2.of fun k n => ?_)
    unfold impl_CacheOk.b0 impl_in.f impl_in.t
    rw [decide_eq_false (by omega), cond_false]
    simp only [dups, Bool.not_false, Bool.true_and]
    by_cases h1 : 1 ≤ a <;> by_cases h2 : a ≤ 10 <;> by_cases h3 : (l.length : Int) ≤ a <;> simp [h1, h2, h3]
  | d + 1, i, hd, hi => by
    refine Ev2.step (b := fun k n => impl_CacheOk.b0 k (impl_CacheOk.l0 k n) l (l.length : Int) i a l b) (fun k n => rfl) ?_
    have h2 : ((i : Int) < (List.length l : Int)) := by omega
    have ih := implDups_ev (a := a) (b := b) hl d (i + 1) (by omega) (by omega)
    have hlen : (l.take i).length = i := by rw [List.length_take]; omega
    obtain ⟨r, r1, r2⟩ := slotAt_ev (l := l.take i) (s := (l.getD i (Ty.dflt TSlot)).1) (by omega) i 0 (by omega) (by omega)
    rw [hasKey_take (by omega) i 0 (by omega)] at r1
    unfold impl_CacheOk.b0
    simp only [decide_eq_true h2, cond_true, inb_eq (Int.natCast_nonneg i) h2, inc_eq (Int.natCast_nonneg i) (Int.le_of_lt h2), toNat_ofNat, succ64 (show i ≤ 1048576 by omega), dups]
    refine Ev2.bind (r := (r, ())) r2.diag ?_
    simp only [r1]
    cases hasKey l (l.getD i (Ty.dflt TSlot)).1 i 0 with
    | true => exact Ev2.of fun _ _ => rfl
    | false => simpa using ih
def cacheOk (c : TCache.den) : Bool := !dups c.2.1 c.2.1.length 0 && (decide (1 ≤ c.1 ∧ c.1 ≤ 10) && (decide ((c.2.1.length : Int) ≤ c.1) && decide (c.2.2.1 ≥ 0)))
theorem specCacheOk_ev : ∀ {c : TCache.den}, c.2.1.length ≤ 1048576 → Ev (fun k => spec_CacheOk.f k c) (cacheOk c, ())
  | (s, l, h, u), hl => by
    change Int at s
    change Int at h
    change List TSlot.den at l
    change l.length ≤ 1048576 at hl
    show Ev (fun k => spec_CacheOk.t k (spec_CacheOk.l0 k k) (s, l, h, u)) _
    unfold spec_CacheOk.t cacheOk
    have e : ∀ k, spec_l1In.f k s 1 10 = some (decide (1 ≤ s ∧ s ≤ 10), ()) := fun k => by
      unfold spec_l1In.f spec_l1In.t
      by_cases h : 1 ≤ s <;> simp [h]
    simp only [e, Option.bind_some]
    cases decide (1 ≤ s ∧ s ≤ 10) with
    | false => exact Ev.of fun _ => by simp
    | true =>
      by_cases h1 : (l.length : Int) > s
      · refine Ev.of fun _ => ?_
        rw [decide_eq_true h1, decide_eq_false (show ¬ (l.length : Int) ≤ s by omega)]
        simp
      · by_cases h2 : h < 0
        · refine Ev.of fun _ => ?_
          rw [decide_eq_true h2, decide_eq_false h1, decide_eq_false (show ¬ h ≥ 0 by omega)]
          simp
        · simp only [decide_eq_false h1, decide_eq_false h2, Bool.not_true, cond_false, decide_eq_true (show (l.length : Int) ≤ s by omega), decide_eq_true (show h ≥ 0 by omega), Bool.and_true, Bool.true_and]
          exact (specDups_ev hl l.length 0 (by omega) (by omega)).diag
theorem fnExactCacheOk_pure : ∀ x, Wf (tup [TCache]) x → ∃ k, laws_FnExactCacheOk.f k x.1 = some (true, ()) := by
  rintro ⟨p, _⟩ ⟨hw, _⟩
  refine Ev.some ?_
  show Ev (fun k => laws_FnExactCacheOk.t k p) _
  unfold laws_FnExactCacheOk.t
  refine Ev.bind (szCache_ev p hw 1048576 (by omega) (by omega)) ?_
  by_cases c : ((weight TCache p : Nat) : Int) ≤ 1048576
  case neg =>
    refine Ev.of fun k => ?_
    rw [sz_bad (by omega)]
    rfl
  have c' : ¬ ((1048576 : Int) - (weight TCache p : Int) < 0) := by omega
  have hx : weight TCache p ≤ 1048576 := by omega
  have e : weight TCache p = 0 + (weight (.slice TSlot) p.2.1 + (0 + 0)) := rfl
  have hl : p.2.1.length ≤ 1048576 := weight_len (t := TSlot) (l := p.2.1) (by omega)
  simp only [sz_ok c, decide_eq_false c', cond_false]
  refine Ev.bind (toCache_ev p hx) (Ev.bind (specCacheOk_ev hl) ?_)
  refine Ev.bind (toCache_ev p hx) (Ev.bind (r := (cacheOk p, ())) (implDups_ev hl _ 0 (by omega) (by omega)).diag ?_)
  simp only [beq_self_eq_true, Bool.not_true, cond_false]
  refine Ev.bind (toCache_ev p hx) (Ev.bind (eqCache_ev p hx) ?_)
  exact Ev.of fun k => rfl
end Go.Proofs.Ytlbpalfjmjmimaa.G

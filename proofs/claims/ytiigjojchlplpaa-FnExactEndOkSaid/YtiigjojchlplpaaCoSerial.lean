/- The plain law of SerialOk: both readings answer alike. -/
import Derived.Test.YtiigjojchlplpaaCoFold
set_option linter.unusedVariables false
set_option linter.unusedSimpArgs false
namespace Go.Proofs.Ytiigjojchlplpaa.G
open Go.V
theorem Ev2.one {α : Type} {g : Nat → Option α} {r : α} (h : Ev g r) : Ev2 (fun k _ => g k) r := by
  obtain ⟨a, ha⟩ := h
  exact ⟨a, fun k n hk _ => ha k hk⟩
theorem findL {a : List (Ty.den TPair)} {key z1 z2 : ByteArray} {z3 : Int} (hl : a.length ≤ 1048576) : ∀ (d i : Nat), a.length - i = d → i ≤ a.length →
    ∃ rs ri, Ev2 (fun k n => spec_l17Find.l0 k n a key (i : Int) z1 z2 z3) rs ∧ Ev2 (fun k n => impl_pairAt.l0 k n key a (a.length : Int) (i : Int) z1 z2 z3) ri ∧ (rs.2.1 != 0) = (!ri.2.1) ∧ rs.1.2.1 = ri.1.2.1 ∧ (rs.2.1 != 8) = ri.2.1
  | 0, i, hd, hi => by
    have h2 : ¬ ((i : Int) < (a.length : Int)) := by omega
    refine ⟨_, _, Ev2.step (b := fun k n => spec_l17Find.b0 k (spec_l17Find.l0 k n) a key (i : Int) z1 z2 z3) (fun k n => rfl) (r := ((ByteArray.empty, (ByteArray.empty, (0, ()))), (8, ()))) ?_,
      Ev2.step (b := fun k n => impl_pairAt.b0 k (impl_pairAt.l0 k n) key a (a.length : Int) (i : Int) z1 z2 z3) (fun k n => rfl) (r := ((ByteArray.empty, (ByteArray.empty, (0, ()))), (false, ()))) ?_, by decide, rfl, by decide⟩
    · unfold spec_l17Find.b0
      simp only [decide_eq_false h2, cond_false]
      exact Ev2.of fun _ _ => rfl
    · unfold impl_pairAt.b0
      simp only [decide_eq_false h2, cond_false]
      exact Ev2.of fun _ _ => rfl
  | d + 1, i, hd, hi => by
    have h2 : ((i : Int) < (a.length : Int)) := by omega
    have h0 := Int.natCast_nonneg i
    obtain ⟨rs, ri, s1, s2, s3, s4⟩ := findL (a := a) (key := key) (z1 := z1) (z2 := z2) (z3 := z3) hl d (i + 1) (by omega) (by omega)
    have main : ∀ rs ri, (Ev2 (fun k n => spec_l17Find.b0 k (spec_l17Find.l0 k n) a key (i : Int) z1 z2 z3) rs ∧ Ev2 (fun k n => impl_pairAt.b0 k (impl_pairAt.l0 k n) key a (a.length : Int) (i : Int) z1 z2 z3) ri ∧ (rs.2.1 != 0) = (!ri.2.1) ∧ rs.1.2.1 = ri.1.2.1 ∧ (rs.2.1 != 8) = ri.2.1) →
      ∃ rs ri, Ev2 (fun k n => spec_l17Find.l0 k n a key (i : Int) z1 z2 z3) rs ∧ Ev2 (fun k n => impl_pairAt.l0 k n key a (a.length : Int) (i : Int) z1 z2 z3) ri ∧ (rs.2.1 != 0) = (!ri.2.1) ∧ rs.1.2.1 = ri.1.2.1 ∧ (rs.2.1 != 8) = ri.2.1 :=
      fun rs ri h => ⟨rs, ri, Ev2.step (fun k n => rfl) h.1, Ev2.step (fun k n => rfl) h.2.1, h.2.2⟩
    unfold spec_l17Find.b0 impl_pairAt.b0 at main
    simp only [decide_eq_true h2, cond_true, inb_eq h0 h2, toNat_ofNat, up64 (show i ≤ 4398046511104 by omega)] at main
    cases c1 : seq (a.getD i (Ty.dflt TPair)).1 key <;> simp only [c1, cond_true, cond_false] at main
    · exact main rs ri ⟨s1, s2, s3, s4⟩
    · exact main (a.getD i (Ty.dflt TPair), (0, ())) (a.getD i (Ty.dflt TPair), (true, ())) ⟨Ev2.of fun _ _ => rfl, Ev2.of fun _ _ => rfl, by simp, rfl, by simp⟩
theorem find_ev (a : List (Ty.den TPair)) (key : ByteArray) (hl : a.length ≤ 1048576) : ∃ rs ri, Ev (fun k => spec_l17Find.f k a key) rs ∧ Ev (fun k => impl_pairAt.f k a key) ri ∧ (rs.2.1 != 0) = (!ri.2.1) ∧ rs.1.2.1 = ri.1.2.1 ∧ (rs.2.1 != 8) = ri.2.1 := by
  obtain ⟨rs, ri, s1, s2, s3⟩ := findL (a := a) (key := key) (z1 := ByteArray.empty) (z2 := ByteArray.empty) (z3 := 0) hl a.length 0 (by omega) (by omega)
  exact ⟨rs, ri, s1.diag, s2.diag, s3⟩

def Ev3 {α : Type} (g : Nat → Nat → Nat → Option α) (r : α) : Prop := ∃ K, ∀ k q n, K ≤ k → K ≤ q → K ≤ n → g k q n = some r
theorem Ev3.step {α : Type} {l b : Nat → Nat → Nat → Option α} {r : α} (e : ∀ k q n, l k q (n + 1) = b k q n) (h : Ev3 b r) : Ev3 l r := by
  obtain ⟨a, ha⟩ := h
  refine ⟨a + 1, fun k q n hk hq hn => ?_⟩
  obtain ⟨m, rfl⟩ : ∃ m, n = m + 1 := ⟨n - 1, by omega⟩
  rw [e]
  exact ha k q m (by omega) (by omega) (by omega)
theorem Ev3.bind {α β : Type} {g : Nat → Option α} {r : α} {h : Nat → Nat → Nat → α → Option β} {s : β} (h1 : Ev g r) (h2 : Ev3 (fun k q n => h k q n r) s) : Ev3 (fun k q n => (g k).bind (h k q n)) s := by
  obtain ⟨a, ha⟩ := h1
  obtain ⟨b, hb⟩ := h2
  exact ⟨max a b, fun k q n hk hq hn => by show (g k).bind (h k q n) = _; rw [ha k (by omega), Option.bind_some]; exact hb k q n (by omega) (by omega) (by omega)⟩
theorem Ev3.two {α : Type} {g : Nat → Nat → Option α} {r : α} (h : Ev2 g r) : Ev3 (fun k q _ => g k q) r := by
  obtain ⟨a, ha⟩ := h
  exact ⟨a, fun k q n hk hq _ => ha k q hk hq⟩
theorem Ev3.diag {α : Type} {g : Nat → Nat → Nat → Option α} {r : α} (h : Ev3 g r) : Ev2 (fun k q => g k q k) r := by
  obtain ⟨a, ha⟩ := h
  exact ⟨a, fun k q hk hq => ha k q k hk hq hk⟩
theorem Ev3.mid {α : Type} {g : Nat → Nat → Nat → Option α} {r : α} (h : Ev3 g r) : Ev3 (fun k q _ => g k q k) r := Ev3.two h.diag
/- What sessions come to. -/
def wl (h : Ty.den THist) : Nat := h.2.2.2.1.length
def serV (hs : List (Ty.den THist)) (l : PairL) : PairL := hs.foldl (fun l h => foldV l h.2.2.2.1 0) l
theorem serV_len : ∀ (hs : List (Ty.den THist)) (l : PairL), (serV hs l).length ≤ l.length + (hs.map wl).sum
  | [], l => by simp [serV]
  | h :: hs, l => by
    have := serV_len hs (foldV l h.2.2.2.1 0)
    have h2 := foldV_len h.2.2.2.1 l 0
    show (serV hs (foldV l h.2.2.2.1 0)).length ≤ _
    rw [List.map_cons, List.sum_cons]
    show _ ≤ l.length + (h.2.2.2.1.length + (hs.map wl).sum)
    omega
theorem serV_drop {hs : List (Ty.den THist)} {i : Nat} {l : PairL} (h : i < hs.length) : serV (hs.drop i) l = serV (hs.drop (i + 1)) (foldV l (hs.getD i (Ty.dflt THist)).2.2.2.1 0) := by
  rw [drop_one (z := Ty.dflt THist) h]
  rfl
theorem sum_drop {hs : List (Ty.den THist)} {i : Nat} (h : i < hs.length) : ((hs.drop i).map wl).sum = (hs.getD i (Ty.dflt THist)).2.2.2.1.length + ((hs.drop (i + 1)).map wl).sum := by
  rw [drop_one (z := Ty.dflt THist) h, List.map_cons, List.sum_cons]
  rfl
theorem serL {hs : List (Ty.den THist)} (hn : hs.length ≤ 1048576) : ∀ (d i : Nat) (l : PairL), hs.length - i = d → i ≤ hs.length → l.length + ((hs.drop i).map wl).sum ≤ 1048576 →
    Ev2 (fun k n => spec_SerialMap.l0 k n hs (i : Int) l) (serV (hs.drop i) l, ()) ∧ Ev2 (fun k n => impl_SerialMap.l0 k n hs (hs.length : Int) (i : Int) l) (serV (hs.drop i) l, ())
  | 0, i, l, hd, hi, hl => by
    have h2 : ¬ ((i : Int) < (hs.length : Int)) := by omega
    rw [List.drop_eq_nil_of_le (by omega)]
    refine ⟨Ev2.step (fun k n => rfl) ?_, Ev2.step (fun k n => rfl) ?_⟩
    · simp only [spec_SerialMap.l0, spec_SerialMap.b0, decide_eq_false h2, cond_false]
      exact Ev2.of fun _ _ => rfl
    · simp only [impl_SerialMap.l0, impl_SerialMap.b0, decide_eq_false h2, cond_false]
      exact Ev2.of fun _ _ => rfl
  | d + 1, i, l, hd, hi, hl => by
    have h2 : ((i : Int) < (hs.length : Int)) := by omega
    have h0 := Int.natCast_nonneg i
    rw [sum_drop (show i < hs.length by omega)] at hl
    rw [serV_drop (show i < hs.length by omega)]
    have hfl := foldV_len (hs.getD i (Ty.dflt THist)).2.2.2.1 l 0
    obtain ⟨s1, s2⟩ := serL hn d (i + 1) (foldV l (hs.getD i (Ty.dflt THist)).2.2.2.1 0) (by omega) (by omega) (by omega)
    refine ⟨Ev2.step (b := fun k n => spec_SerialMap.b0 k (spec_SerialMap.l0 k n) hs (i : Int) l) (fun k n => rfl) ?_, Ev2.step (b := fun k n => impl_SerialMap.b0 k (impl_SerialMap.l0 k n) hs (hs.length : Int) (i : Int) l) (fun k n => rfl) ?_⟩
    · unfold spec_SerialMap.b0
      simp only [decide_eq_true h2, cond_true, inb_eq h0 h2, toNat_ofNat, up64 (show i ≤ 4398046511104 by omega)]
      exact Ev2.bind (specFold_ev 0 (by omega) (by omega)) s1
    · unfold impl_SerialMap.b0
      simp only [decide_eq_true h2, cond_true, inb_eq h0 h2, toNat_ofNat, up64 (show i ≤ 4398046511104 by omega)]
      exact Ev2.bind (implFold_ev 0 (by omega) (by omega)) s2
theorem ser_ev (hs : List (Ty.den THist)) (hn : hs.length ≤ 1048576) (hw : (hs.map wl).sum ≤ 1048576) : Ev (fun k => spec_SerialMap.f k hs) (serV hs [], ()) ∧ Ev (fun k => impl_SerialMap.f k hs) (serV hs [], ()) := by
  obtain ⟨s1, s2⟩ := serL hn hs.length 0 [] (by omega) (by omega) (by simpa using hw)
  rw [List.drop_zero] at s1 s2
  exact ⟨s1.diag, s2.diag⟩
/- What a session saw. -/
section
variable {hs : List (Ty.den THist)} {i : Nat} {m : PairL}
theorem missL (hi : i < hs.length) (hn : hs.length ≤ 1048576) (hm : m.length ≤ 1048576) (hr : (hs.getD i (Ty.dflt THist)).2.2.1.length ≤ 1048576) : ∀ (d j : Nat), (hs.getD i (Ty.dflt THist)).2.2.1.length - j = d → j ≤ (hs.getD i (Ty.dflt THist)).2.2.1.length →
    ∃ b : Bool, Ev2 (fun k n => impl_sees.l1 k n m (hs.getD i (Ty.dflt THist)).2.2.1 ((hs.getD i (Ty.dflt THist)).2.2.1.length : Int) (j : Int)) (b, ()) ∧
      ∀ r, Ev2 (fun k q => bif b then spec_SerialOk.l0 k q hs ((i + 1 : Nat) : Int) else some (false, ())) r → Ev3 (fun k q n => spec_SerialOk.l2 k (spec_SerialOk.l0 k q) n hs (i : Int) (j : Int) m) r
  | 0, j, hd, hj => by
    have h1 : ((i : Int) < (hs.length : Int)) := by omega
    have h2 : ¬ ((j : Int) < ((hs.getD i (Ty.dflt THist)).2.2.1.length : Int)) := by omega
    refine ⟨true, Ev2.step (b := fun k n => impl_sees.b1 k (impl_sees.l1 k n) m (hs.getD i (Ty.dflt THist)).2.2.1 ((hs.getD i (Ty.dflt THist)).2.2.1.length : Int) (j : Int)) (fun k n => rfl) ?_, fun r h => Ev3.step (b := fun k q n => spec_SerialOk.b2 k (spec_SerialOk.l0 k q) (spec_SerialOk.l2 k (spec_SerialOk.l0 k q) n) hs (i : Int) (j : Int) m) (fun k q n => rfl) ?_⟩
    · unfold impl_sees.b1
      simp only [decide_eq_false h2, cond_false]
      exact Ev2.of fun _ _ => rfl
    · unfold spec_SerialOk.b2
      simp only [inb_eq (Int.natCast_nonneg i) h1, toNat_ofNat, decide_eq_false h2, cond_false, up64 (show i ≤ 4398046511104 by omega)]
      exact Ev3.two h
  | d + 1, j, hd, hj => by
    have h1 : ((i : Int) < (hs.length : Int)) := by omega
    have h2 : ((j : Int) < ((hs.getD i (Ty.dflt THist)).2.2.1.length : Int)) := by omega
    obtain ⟨rs, ri, f1, f2, f3, f4, hcode⟩ := find_ev m ((hs.getD i (Ty.dflt THist)).2.2.1.getD j (Ty.dflt .str)) hm
    obtain ⟨b, s1, s2⟩ := missL hi hn hm hr d (j + 1) (by omega) (by omega)
    cases c : ri.2.1
    · refine ⟨b, Ev2.step (b := fun k n => impl_sees.b1 k (impl_sees.l1 k n) m (hs.getD i (Ty.dflt THist)).2.2.1 ((hs.getD i (Ty.dflt THist)).2.2.1.length : Int) (j : Int)) (fun k n => rfl) ?_, fun r h => Ev3.step (b := fun k q n => spec_SerialOk.b2 k (spec_SerialOk.l0 k q) (spec_SerialOk.l2 k (spec_SerialOk.l0 k q) n) hs (i : Int) (j : Int) m) (fun k q n => rfl) ?_⟩
      · unfold impl_sees.b1
        simp only [decide_eq_true h2, cond_true, inb_eq (Int.natCast_nonneg j) h2, toNat_ofNat, up64 (show j ≤ 4398046511104 by omega)]
        refine Ev2.bind f2 ?_
        simp only [c, cond_false]
        exact s1
      · unfold spec_SerialOk.b2
        simp only [inb_eq (Int.natCast_nonneg i) h1, toNat_ofNat, decide_eq_true h2, cond_true, inb_eq (Int.natCast_nonneg j) h2, up64 (show j ≤ 4398046511104 by omega)]
        refine Ev3.bind f1 ?_
        simp only [hcode, c, cond_false]
        exact s2 r h
    · refine ⟨false, Ev2.step (b := fun k n => impl_sees.b1 k (impl_sees.l1 k n) m (hs.getD i (Ty.dflt THist)).2.2.1 ((hs.getD i (Ty.dflt THist)).2.2.1.length : Int) (j : Int)) (fun k n => rfl) ?_, fun r h => Ev3.step (b := fun k q n => spec_SerialOk.b2 k (spec_SerialOk.l0 k q) (spec_SerialOk.l2 k (spec_SerialOk.l0 k q) n) hs (i : Int) (j : Int) m) (fun k q n => rfl) ?_⟩
      · unfold impl_sees.b1
        simp only [decide_eq_true h2, cond_true, inb_eq (Int.natCast_nonneg j) h2, toNat_ofNat, up64 (show j ≤ 4398046511104 by omega)]
        refine Ev2.bind f2 ?_
        simp only [c, cond_true]
        exact Ev2.of fun _ _ => rfl
      · unfold spec_SerialOk.b2
        simp only [inb_eq (Int.natCast_nonneg i) h1, toNat_ofNat, decide_eq_true h2, cond_true, inb_eq (Int.natCast_nonneg j) h2, up64 (show j ≤ 4398046511104 by omega)]
        refine Ev3.bind f1 ?_
        simp only [hcode, c, cond_true]
        exact Ev3.two h
theorem readsL (hi : i < hs.length) (hn : hs.length ≤ 1048576) (hm : m.length ≤ 1048576) (hr : (hs.getD i (Ty.dflt THist)).2.2.1.length ≤ 1048576) (hq : (hs.getD i (Ty.dflt THist)).2.1.length ≤ 1048576) {s : Int} {ws : List (Ty.den TPut)} : ∀ (d j : Nat), (hs.getD i (Ty.dflt THist)).2.1.length - j = d → j ≤ (hs.getD i (Ty.dflt THist)).2.1.length →
    ∃ b : Bool, Ev2 (fun k n => impl_sees.l0 k n m (hs.getD i (Ty.dflt THist)).2.1 ((hs.getD i (Ty.dflt THist)).2.1.length : Int) (j : Int) s (hs.getD i (Ty.dflt THist)).2.1 (hs.getD i (Ty.dflt THist)).2.2.1 ws) (b, ()) ∧
      ∀ r, Ev2 (fun k q => bif b then spec_SerialOk.l0 k q hs ((i + 1 : Nat) : Int) else some (false, ())) r → Ev3 (fun k q n => spec_SerialOk.l1 k (spec_SerialOk.l0 k q) n hs (i : Int) (j : Int) m) r := by
  intro d
  induction d with
  | zero =>
    intro j hd hj
    have h1 : ((i : Int) < (hs.length : Int)) := by omega
    have h2 : ¬ ((j : Int) < ((hs.getD i (Ty.dflt THist)).2.1.length : Int)) := by omega
    obtain ⟨b, s1, s2⟩ := missL hi hn hm hr (hs.getD i (Ty.dflt THist)).2.2.1.length 0 (by omega) (by omega)
    refine ⟨b, Ev2.step (b := fun k n => impl_sees.b0 k (impl_sees.l1 k k) (impl_sees.l0 k n) m (hs.getD i (Ty.dflt THist)).2.1 ((hs.getD i (Ty.dflt THist)).2.1.length : Int) (j : Int) s (hs.getD i (Ty.dflt THist)).2.1 (hs.getD i (Ty.dflt THist)).2.2.1 ws) (fun k n => rfl) ?_,
      fun r h => Ev3.step (b := fun k q n => spec_SerialOk.b1 k (spec_SerialOk.l2 k (spec_SerialOk.l0 k q) k) (spec_SerialOk.l0 k q) (spec_SerialOk.l1 k (spec_SerialOk.l0 k q) n) hs (i : Int) (j : Int) m) (fun k q n => rfl) ?_⟩
    · unfold impl_sees.b0
      simp only [decide_eq_false h2, cond_false]
      exact Ev2.one s1.diag
    · unfold spec_SerialOk.b1
      simp only [inb_eq (Int.natCast_nonneg i) h1, toNat_ofNat, decide_eq_false h2, cond_false]
      exact (s2 r h).mid
  | succ d ih =>
    intro j hd hj
    have h1 : ((i : Int) < (hs.length : Int)) := by omega
    have h2 : ((j : Int) < ((hs.getD i (Ty.dflt THist)).2.1.length : Int)) := by omega
    obtain ⟨rs, ri, f1, f2, f3, f4, _⟩ := find_ev m ((hs.getD i (Ty.dflt THist)).2.1.getD j (Ty.dflt TPair)).1 hm
    obtain ⟨b, s1, s2⟩ := ih (j + 1) (by omega) (by omega)
    have main : ∀ b : Bool, (Ev2 (fun k n => impl_sees.b0 k (impl_sees.l1 k k) (impl_sees.l0 k n) m (hs.getD i (Ty.dflt THist)).2.1 ((hs.getD i (Ty.dflt THist)).2.1.length : Int) (j : Int) s (hs.getD i (Ty.dflt THist)).2.1 (hs.getD i (Ty.dflt THist)).2.2.1 ws) (b, ()) ∧
        ∀ r, Ev2 (fun k q => bif b then spec_SerialOk.l0 k q hs ((i + 1 : Nat) : Int) else some (false, ())) r → Ev3 (fun k q n => spec_SerialOk.b1 k (spec_SerialOk.l2 k (spec_SerialOk.l0 k q) k) (spec_SerialOk.l0 k q) (spec_SerialOk.l1 k (spec_SerialOk.l0 k q) n) hs (i : Int) (j : Int) m) r) →
        ∃ b : Bool, Ev2 (fun k n => impl_sees.l0 k n m (hs.getD i (Ty.dflt THist)).2.1 ((hs.getD i (Ty.dflt THist)).2.1.length : Int) (j : Int) s (hs.getD i (Ty.dflt THist)).2.1 (hs.getD i (Ty.dflt THist)).2.2.1 ws) (b, ()) ∧
          ∀ r, Ev2 (fun k q => bif b then spec_SerialOk.l0 k q hs ((i + 1 : Nat) : Int) else some (false, ())) r → Ev3 (fun k q n => spec_SerialOk.l1 k (spec_SerialOk.l0 k q) n hs (i : Int) (j : Int) m) r :=
      fun b h => ⟨b, Ev2.step (fun k n => rfl) h.1, fun r q => Ev3.step (fun k q n => rfl) (h.2 r q)⟩
    unfold impl_sees.b0 spec_SerialOk.b1 at main
    simp only [inb_eq (Int.natCast_nonneg i) h1, toNat_ofNat, decide_eq_true h2, cond_true, inb_eq (Int.natCast_nonneg j) h2, up64 (show j ≤ 4398046511104 by omega)] at main
    cases c : ri.2.1
    · refine main false ⟨Ev2.bind f2 ?_, fun r h => Ev3.bind f1 ?_⟩
      · simp only [c, Bool.not_false, cond_true]; exact Ev2.of fun _ _ => rfl
      · simp only [f3, c, Bool.not_false, cond_true]; exact Ev3.two h
    · cases e : seq ri.1.2.1 ((hs.getD i (Ty.dflt THist)).2.1.getD j (Ty.dflt TPair)).2.1
      · refine main false ⟨Ev2.bind f2 ?_, fun r h => Ev3.bind f1 ?_⟩
        · simp only [c, e, Bool.not_true, Bool.not_false, cond_true, cond_false]; exact Ev2.of fun _ _ => rfl
        · simp only [f3, f4, c, e, Bool.not_true, Bool.not_false, cond_true, cond_false]; exact Ev3.two h
      · refine main b ⟨Ev2.bind f2 ?_, fun r h => Ev3.bind f1 ?_⟩
        · simp only [c, e, Bool.not_true, cond_false]; exact s1
        · simp only [f3, f4, c, e, Bool.not_true, cond_false]; exact s2 r h
end
theorem sum_take (hs : List (Ty.den THist)) (i : Nat) : ((hs.take i).map wl).sum ≤ (hs.map wl).sum := by
  have := congrArg (fun l => (l.map wl).sum) (List.take_append_drop i hs)
  simp only [List.map_append, List.sum_append] at this
  omega
theorem wl_weight : ∀ (hs : List (Ty.den THist)), (hs.map wl).sum ≤ (hs.map (weight THist)).sum
  | [] => Nat.le_refl _
  | h :: hs => by
    have ih := wl_weight hs
    have e : weight THist h = 0 + (weight (.slice TPair) h.2.1 + (weight (.slice .str) h.2.2.1 + (weight (.slice TPut) h.2.2.2.1 + 0))) := rfl
    have e2 : weight (.slice TPut) h.2.2.2.1 = h.2.2.2.1.length + (h.2.2.2.1.map (weight TPut)).sum := rfl
    rw [List.map_cons, List.sum_cons, List.map_cons, List.sum_cons]
    show h.2.2.2.1.length + _ ≤ _
    omega
theorem serialL {hs : List (Ty.den THist)} (hw : weight (.slice THist) hs ≤ 1048576) : ∀ (d i : Nat), hs.length - i = d → i ≤ hs.length →
    ∃ r, Ev2 (fun k q => spec_SerialOk.l0 k q hs (i : Int)) r ∧ Ev2 (fun k n => impl_SerialOk.l0 k n hs hs (hs.length : Int) (i : Int)) r
  | 0, i, hd, hi => by
    have h2 : ¬ ((i : Int) < (hs.length : Int)) := by omega
    refine ⟨(true, ()), Ev2.step (b := fun k q => spec_SerialOk.b0 k (spec_SerialOk.l1 k (spec_SerialOk.l0 k q) k) (spec_SerialOk.l0 k q) hs (i : Int)) (fun k n => rfl) ?_, Ev2.step (b := fun k n => impl_SerialOk.b0 k (impl_SerialOk.l0 k n) hs hs (hs.length : Int) (i : Int)) (fun k n => rfl) ?_⟩
    · unfold spec_SerialOk.b0
      simp only [decide_eq_false h2, cond_false]
      exact Ev2.of fun _ _ => rfl
    · unfold impl_SerialOk.b0
      simp only [decide_eq_false h2, cond_false]
      exact Ev2.of fun _ _ => rfl
  | d + 1, i, hd, hi => by
    have h2 : ((i : Int) < (hs.length : Int)) := by omega
    have h0 := Int.natCast_nonneg i
    have hn := weight_len hw
    have hlt : i < hs.length := by omega
    have hs2 : (hs.map wl).sum ≤ 1048576 := by have := wl_weight hs; rw [weight_slice] at hw; omega
    have hst := sum_take hs i
    have hwi := mem_weight (getD_mem (z := Ty.dflt THist) hlt) hw
    have e : weight THist (hs.getD i (Ty.dflt THist)) = 0 + (weight (.slice TPair) (hs.getD i (Ty.dflt THist)).2.1 + (weight (.slice .str) (hs.getD i (Ty.dflt THist)).2.2.1 + (weight (.slice TPut) (hs.getD i (Ty.dflt THist)).2.2.2.1 + 0))) := rfl
    have hq : (hs.getD i (Ty.dflt THist)).2.1.length ≤ 1048576 := weight_len (t := TPair) (by omega)
    have hr : (hs.getD i (Ty.dflt THist)).2.2.1.length ≤ 1048576 := weight_len (t := .str) (by omega)
    obtain ⟨m1, m2⟩ := ser_ev (hs.take i) (by rw [List.length_take]; omega) (by omega)
    have hm : (serV (hs.take i) []).length ≤ 1048576 := by have := serV_len (hs.take i) []; rw [List.length_nil] at this; omega
    obtain ⟨b, s1, s2⟩ := readsL (m := serV (hs.take i) []) hlt hn hm hr hq (s := (hs.getD i (Ty.dflt THist)).1) (ws := (hs.getD i (Ty.dflt THist)).2.2.2.1) (hs.getD i (Ty.dflt THist)).2.1.length 0 (by omega) (by omega)
    obtain ⟨r, t1, t2⟩ := serialL hw d (i + 1) (by omega) (by omega)
    have sf : Ev (fun k => impl_sees.f k (serV (hs.take i) []) (hs.getD i (Ty.dflt THist))) (b, ()) := s1.diag
    cases b with
    | false =>
      refine ⟨(false, ()), Ev2.step (b := fun k q => spec_SerialOk.b0 k (spec_SerialOk.l1 k (spec_SerialOk.l0 k q) k) (spec_SerialOk.l0 k q) hs (i : Int)) (fun k n => rfl) ?_, Ev2.step (b := fun k n => impl_SerialOk.b0 k (impl_SerialOk.l0 k n) hs hs (hs.length : Int) (i : Int)) (fun k n => rfl) ?_⟩
      · unfold spec_SerialOk.b0
        simp only [decide_eq_true h2, cond_true, inc_eq h0 (Int.le_of_lt h2), toNat_ofNat]
        exact Ev2.bind m1 (s2 _ (Ev2.of fun _ _ => rfl)).diag
      · unfold impl_SerialOk.b0
        simp only [decide_eq_true h2, cond_true, inb_eq h0 h2, inc_eq h0 (Int.le_of_lt h2), toNat_ofNat]
        exact Ev2.bind m2 (Ev2.bind sf (Ev2.of fun _ _ => rfl))
    | true =>
      refine ⟨r, Ev2.step (b := fun k q => spec_SerialOk.b0 k (spec_SerialOk.l1 k (spec_SerialOk.l0 k q) k) (spec_SerialOk.l0 k q) hs (i : Int)) (fun k n => rfl) ?_, Ev2.step (b := fun k n => impl_SerialOk.b0 k (impl_SerialOk.l0 k n) hs hs (hs.length : Int) (i : Int)) (fun k n => rfl) ?_⟩
      · unfold spec_SerialOk.b0
        simp only [decide_eq_true h2, cond_true, inc_eq h0 (Int.le_of_lt h2), toNat_ofNat]
        exact Ev2.bind m1 (s2 _ t1).diag
      · unfold impl_SerialOk.b0
        simp only [decide_eq_true h2, cond_true, inb_eq h0 h2, inc_eq h0 (Int.le_of_lt h2), toNat_ofNat, up64 (show i ≤ 4398046511104 by omega)]
        refine Ev2.bind m2 (Ev2.bind sf ?_)
        simp only [Bool.not_true, cond_false]
        exact t2
theorem core_FnExactSerialOk {a0 : List (Ty.den THist)} (f0 : Wf (.slice THist) a0) (w0 : weight (.slice THist) a0 ≤ 1048576) :
    ∃ r, Ev (fun k => spec_SerialOk.f k a0) r ∧ Ev (fun k => impl_SerialOk.f k a0) r ∧ True := by
  obtain ⟨r, h1, h2⟩ := serialL w0 a0.length 0 (by omega) (by omega)
  exact ⟨r, h1.diag, h2.diag, trivial⟩
end Go.Proofs.Ytiigjojchlplpaa.G

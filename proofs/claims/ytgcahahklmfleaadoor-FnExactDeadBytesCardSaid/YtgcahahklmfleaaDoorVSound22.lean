/- V: a region whose order is open: what has been done, by which operations, in whatever order. -/
import Derived.Test.YtgcahahklmfleaaDoorVSound21
set_option linter.unusedVariables false
set_option linter.unusedSimpArgs false
namespace Go.V
open Go.RowKit

/-- What an operation did. -/
structure G where
  i : Nat
  go : Bool
  us : Ups
  rd : List Nat
  A : List Nat
  dst : Option Nat
  v : AV
  nm : List Nat
  id : Nat
  nx : Nat

def rep (hp : Hp) (D : Nat → Bool) : List G → Hp
  | [] => hp
  | g :: gs => bif D g.i then applyF (rep hp D gs) g.us else rep hp D gs
def rept (tm : List AV) (D : Nat → Bool) : List G → List AV
  | [] => tm
  | g :: gs => bif D g.i then setD (rept tm D gs) g.dst g.v else rept tm D gs

structure Far (g' g : G) : Prop where
  a : ∀ r ∈ hard g.us, r ∉ g'.rd
  b : ∀ r ∈ hard g'.us, r ∉ g.rd
  c : ∀ r ∈ g.us.map (·.1), r ∉ hard g'.us
  d : ∀ r ∈ hard g.us, r ∉ g'.us.map (·.1)
/-- As to temporaries. -/
structure FarT (g' g : G) : Prop where
  e : ∀ t ∈ g.dst.toList, t ∉ g'.dst.toList ++ g'.nm
  f : ∀ t ∈ g'.dst.toList, t ∉ g.nm

section
variable {hp : Hp} {tm : List AV} {D D' : Nat → Bool}

theorem rep_congr {r : Nat} : ∀ {gs : List G}, (∀ g ∈ gs, r ∈ g.us.map (·.1) → D g.i = D' g.i) → rep hp D gs r = rep hp D' gs r
  | [], _ => rfl
  | g :: gs, h => by
    have ih := rep_congr (gs := gs) fun g' hg => h g' (List.mem_cons_of_mem _ hg)
    simp only [rep]
    by_cases hr : r ∈ g.us.map (·.1)
    · rw [h g (List.mem_cons_self ..) hr]
      cases D' g.i with
      | true => simp only [cond_true, applyF_eff, ih]
      | false => exact ih
    · have e : ∀ (b : Bool) (x : Hp), (bif b then applyF x g.us else x) r = x r := fun b x => by
        cases b with
        | true => simp only [cond_true, applyF_eff, eff_not hr]
        | false => rfl
      rw [e, e, ih]
theorem rep_rel {r : Nat} : ∀ {gs : List G}, (∀ g ∈ gs, D g.i = D' g.i ∨ (D g.i = true ∧ r ∉ hard g.us)) → rep hp D gs r = rep hp D' gs r ∨ rep hp D gs r = froz (rep hp D' gs r)
  | [], _ => Or.inl rfl
  | g :: gs, h => by
    have ih := rep_rel (gs := gs) fun g' hg => h g' (List.mem_cons_of_mem _ hg)
    simp only [rep]
    cases h1 : D g.i with
    | true =>
      cases h2 : D' g.i with
      | true =>
        simp only [cond_true, applyF_eff]
        exact eff_rel _ _ ih
      | false =>
        rcases h g (List.mem_cons_self ..) with q | ⟨_, q⟩
        · rw [h1, h2] at q; cases q
        · simp only [cond_true, cond_false, applyF_eff]
          rcases eff_soft q with e | e
          · rw [e]; exact ih
          · rw [e]
            rcases ih with g1 | g1
            · rw [g1]; exact Or.inr rfl
            · rw [g1, froz_froz]; exact Or.inr rfl
    | false =>
      cases h2 : D' g.i with
      | true =>
        rcases h g (List.mem_cons_self ..) with q | ⟨q, _⟩
        · rw [h1, h2] at q; cases q
        · rw [h1] at q; cases q
      | false => exact ih

theorem setD_len {l : List AV} {d : Option Nat} {v : AV} : (setD l d v).length = l.length := by cases d <;> simp [setD]
theorem rept_len : ∀ {gs : List G}, (rept tm D gs).length = tm.length
  | [] => rfl
  | g :: gs => by
    simp only [rept]
    cases D g.i with
    | true => rw [cond_true, setD_len]; exact rept_len
    | false => exact rept_len
theorem setD_getD {l l' : List AV} {d : Option Nat} {v : AV} {t : Nat} (hl : l.length = l'.length) (h : l.getD t .junk = l'.getD t .junk) : (setD l d v).getD t .junk = (setD l' d v).getD t .junk := by
  cases d with
  | none => exact h
  | some d =>
    simp only [setD, List.getD, List.getElem?_set, hl] at h ⊢
    split
    · split <;> rfl
    · exact h
theorem setD_other {l : List AV} {d : Option Nat} {v : AV} {t : Nat} (h : d ≠ some t) : (setD l d v).getD t .junk = l.getD t .junk := by
  cases d with
  | none => rfl
  | some d =>
    have : d ≠ t := fun q => h (by rw [q])
    simp [setD, List.getD, List.getElem?_set_ne this]
theorem rept_congr {t : Nat} : ∀ {gs : List G}, (∀ g ∈ gs, g.dst = some t → D g.i = D' g.i) → (rept tm D gs).getD t .junk = (rept tm D' gs).getD t .junk
  | [], _ => rfl
  | g :: gs, h => by
    have ih := rept_congr (gs := gs) fun g' hg => h g' (List.mem_cons_of_mem _ hg)
    simp only [rept]
    by_cases hr : g.dst = some t
    · rw [h g (List.mem_cons_self ..) hr]
      cases D' g.i with
      | true =>
        simp only [cond_true]
        exact setD_getD (by rw [rept_len, rept_len]) ih
      | false => exact ih
    · have e : ∀ (b : Bool) (x : List AV), (bif b then setD x g.dst g.v else x).getD t .junk = x.getD t .junk := fun b x => by
        cases b with
        | true => exact setD_other hr
        | false => rfl
      rw [e, e, ih]

/-- One more. -/
def plus (D : Nat → Bool) (i : Nat) : Nat → Bool := fun j => bif Nat.beq j i then true else D j
theorem plus_self {i : Nat} : plus D i i = true := by simp [plus]
theorem plus_other {i j : Nat} (h : j ≠ i) : plus D i j = D j := by
  have : Nat.beq j i = false := by
    cases hb : Nat.beq j i with
    | false => rfl
    | true => exact absurd (Nat.eq_of_beq_eq_true hb) h
  simp [plus, this]

theorem rep_all {gs : List G} (h : ∀ g ∈ gs, D g.i = D' g.i) : rep hp D gs = rep hp D' gs := funext fun r => rep_congr fun g hg _ => h g hg
theorem rept_all : ∀ {gs : List G}, (∀ g ∈ gs, D g.i = D' g.i) → rept tm D gs = rept tm D' gs
  | [], _ => rfl
  | g :: gs, h => by
    simp only [rept]
    rw [h g (List.mem_cons_self ..), rept_all fun g' hg => h g' (List.mem_cons_of_mem _ hg)]

theorem rep_add {g : G} {r : Nat} : ∀ {gs : List G}, gs.Pairwise (fun x y => y.i < x.i) → g ∈ gs → D g.i = false →
    (∀ h ∈ gs, g.i < h.i → D h.i = true → (∀ r ∈ hard g.us, r ∉ h.us.map (·.1)) ∧ (∀ r ∈ hard h.us, r ∉ g.us.map (·.1))) → rep hp (plus D g.i) gs r = eff g.us r (rep hp D gs r)
  | [], _, hg, _, _ => by cases hg
  | h :: gs, hp', hg, hD, hc => by
    rw [List.pairwise_cons] at hp'
    simp only [rep]
    rcases List.mem_cons.1 hg with q | q
    · subst q
      rw [plus_self, hD, cond_true, cond_false, applyF_eff]
      congr 1
      exact rep_congr fun g' hg' _ => plus_other (Nat.ne_of_lt (hp'.1 g' hg'))
    · have hlt := hp'.1 g q
      rw [plus_other (Nat.ne_of_gt hlt)]
      have ih := rep_add (r := r) hp'.2 q hD fun h' hh' => hc h' (List.mem_cons_of_mem _ hh')
      cases hb : D h.i with
      | false => exact ih
      | true =>
        simp only [cond_true, applyF_eff]
        rw [ih]
        obtain ⟨c1, c2⟩ := hc h (List.mem_cons_self ..) hlt hb
        exact eff_comm c1 c2 _

theorem setD_comm {l : List AV} {d e : Option Nat} {u v : AV} (h : ∀ t ∈ d.toList, t ∉ e.toList) : setD (setD l d u) e v = setD (setD l e v) d u := by
  cases d with
  | none => rfl
  | some d =>
    cases e with
    | none => rfl
    | some e =>
      have : d ≠ e := fun q => h d (by simp) (by simp [q])
      exact List.set_comm _ _ this

theorem rept_add {g : G} : ∀ {gs : List G}, gs.Pairwise (fun x y => y.i < x.i) → g ∈ gs → D g.i = false →
    (∀ h ∈ gs, g.i < h.i → D h.i = true → ∀ t ∈ h.dst.toList, t ∉ g.dst.toList) → rept tm (plus D g.i) gs = setD (rept tm D gs) g.dst g.v
  | [], _, hg, _, _ => by cases hg
  | h :: gs, hp', hg, hD, hc => by
    rw [List.pairwise_cons] at hp'
    simp only [rept]
    rcases List.mem_cons.1 hg with q | q
    · subst q
      rw [plus_self, hD, cond_true, cond_false]
      congr 1
      exact rept_all fun g' hg' => plus_other (Nat.ne_of_lt (hp'.1 g' hg'))
    · have hlt := hp'.1 g q
      rw [plus_other (Nat.ne_of_gt hlt)]
      have ih := rept_add hp'.2 q hD fun h' hh' => hc h' (List.mem_cons_of_mem _ hh')
      cases hb : D h.i with
      | false => exact ih
      | true =>
        simp only [cond_true]
        rw [ih]
        exact (setD_comm (hc h (List.mem_cons_self ..) hlt hb)).symm
end

/-- Records of what was carried out. -/
def toRecs : List G → List Rec
  | [] => []
  | g :: gs => bif g.go then ⟨g.i, g.us, g.rd⟩ :: toRecs gs else toRecs gs
theorem replay_rep {hp : Hp} {a : List Nat} : ∀ {gs : List G}, (∀ g ∈ gs, g.go = false → g.us = []) → replay hp a (toRecs gs) = rep hp (memB a) gs
  | [], _ => rfl
  | g :: gs, h => by
    have ih := replay_rep (hp := hp) (a := a) (gs := gs) fun g' hg => h g' (List.mem_cons_of_mem _ hg)
    simp only [toRecs, rep]
    cases hg : g.go with
    | true => simp only [cond_true, replay, ih]
    | false =>
      rw [h g (List.mem_cons_self ..) hg]
      simp only [cond_false, applyF, ih]
      cases memB a g.i <;> rfl
theorem replayAll_rep {hp : Hp} : ∀ {gs : List G}, (∀ g ∈ gs, g.go = false → g.us = []) → replayAll hp (toRecs gs) = rep hp (fun _ => true) gs
  | [], _ => rfl
  | g :: gs, h => by
    have ih := replayAll_rep (hp := hp) (gs := gs) fun g' hg => h g' (List.mem_cons_of_mem _ hg)
    simp only [toRecs, rep]
    cases hg : g.go with
    | true => simp only [cond_true, replayAll, ih]
    | false =>
      rw [h g (List.mem_cons_self ..) hg]
      simp only [cond_false, cond_true, applyF, ih]

theorem free_far {a : List Nat} {us : Ups} {rd : List Nat} : ∀ {gs : List G}, free a us rd (toRecs gs) = true → ∀ g' ∈ gs, g'.go = true → memB a g'.i = true ∨
    ((∀ r ∈ hard us, r ∉ g'.rd) ∧ (∀ r ∈ hard g'.us, r ∉ rd) ∧ (∀ r ∈ us.map (·.1), r ∉ hard g'.us) ∧ (∀ r ∈ hard us, r ∉ g'.us.map (·.1)))
  | [], _, _, hg, _ => by cases hg
  | g :: gs, h, g', hg, hgo => by
    simp only [toRecs] at h
    cases hgg : g.go with
    | false =>
      rw [hgg, cond_false] at h
      rcases List.mem_cons.1 hg with q | q
      · subst q; rw [hgg] at hgo; cases hgo
      · exact free_far h g' q hgo
    | true =>
      rw [hgg, cond_true] at h
      simp only [free] at h
      cases hc : (memB a g.i || (apartL (hard us) g.rd && apartL (hard g.us) rd && apartL (us.map (·.1)) (hard g.us) && apartL (hard us) (g.us.map (·.1)))) with
      | false => rw [hc] at h; cases h
      | true =>
        rw [hc, cond_true] at h
        rcases List.mem_cons.1 hg with q | q
        · subst q
          simp only [Bool.or_eq_true, Bool.and_eq_true, apartL_iff] at hc
          rcases hc with q | ⟨⟨⟨q1, q2⟩, q3⟩, q4⟩
          · exact Or.inl q
          · exact Or.inr ⟨q1, q2, q3, q4⟩
        · exact free_far h g' q hgo
end Go.V

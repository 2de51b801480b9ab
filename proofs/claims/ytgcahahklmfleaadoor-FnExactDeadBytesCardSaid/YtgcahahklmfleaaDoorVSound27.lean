/- V: at the head of a loop its rows are numbered anew: the state stays what it was. -/
import Derived.Test.YtgcahahklmfleaaDoorVSound26
set_option linter.unusedVariables false
set_option linter.unusedSimpArgs false
namespace Go.V
open Go.RowKit

section
variable {w0 : Bs} {w : World} {N : Nat → Prop} {φ : Nat → Blk} {tm : List AV} {hp : Hp} {a : Act}

theorem repL_junk {X Y : Bool → Nat → Prop} {N N' : Nat → Prop} {φ φ' : Nat → Blk} : ∀ {cs : List AV} {vs : List Value}, RepL w X N φ cs vs → RepL w Y N' φ' (cs.map fun _ => .junk) vs
  | [], _, h => h
  | c :: cs, _, h => by
    unfold RepL at h
    obtain ⟨u, us, e, h1, _, h3⟩ := h
    exact ⟨u, us, e, h1, trivial, repL_junk h3⟩
theorem repT_junk {X Y : Bool → Nat → Prop} {N N' : Nat → Prop} {φ φ' : Nat → Blk} : ∀ {cs : List AV} {vs : List Value}, RepT w X N φ cs vs → RepT w Y N' φ' (cs.map fun _ => .junk) vs
  | [], _, h => h
  | c :: cs, _, h => by
    unfold RepT at h
    obtain ⟨u, us, e, _, h3⟩ := h
    exact ⟨u, us, e, trivial, repT_junk h3⟩

/-- A variable's cells, put in. -/
theorem CI.setBox {X : Bool → Nat → Prop} {B : Nat → Prop} {c : Cs} {ψ : Nat → Blk} (ci : CI w X N φ hp B c ψ) {r r' : Nat} (hm : look c.map r = some r') {cs0 cs : List AV} (hr : hp r = .box cs0) (hrow : RowOk w X (fun s => s < c.nx) ψ B r' (.box cs)) :
    CI w X N φ hp B ⟨c.map, upd c.hp r' (.box cs), c.nx⟩ ψ := by
  obtain ⟨hlt, he, _⟩ := ci.map r r' hm
  refine ⟨fun s => ?_, fun s p e l => ?_, fun s b hs => ?_, ci.map, fun s hs => ?_⟩
  · by_cases q : s = r'
    · subst q
      show RowOk _ _ _ _ _ _ (upd c.hp s (.box cs) s)
      rw [upd_same]
      exact hrow
    · show RowOk _ _ _ _ _ _ (upd c.hp r' (.box cs) s)
      rw [upd_other _ _ q]
      exact ci.rows s
  · by_cases q : s = r'
    · subst q
      show upd c.hp s (.box cs) s ≠ _
      rw [upd_same]
      intro q; cases q
    · show upd c.hp r' (.box cs) s ≠ _
      rw [upd_other _ _ q]
      exact ci.nof s p e l
  · by_cases q : s = r'
    · subst q
      have hs : blkOf ψ s (upd c.hp s (.box cs) s) = some b := hs
      rw [upd_same] at hs
      simp only [blkOf] at hs
      exact ⟨r, hm, by rw [hr]; simp only [blkOf]; rw [← he]; exact hs⟩
    · have hs : blkOf ψ s (upd c.hp r' (.box cs) s) = some b := hs
      rw [upd_other _ _ q] at hs
      exact ci.blk s b hs
  · have hs : c.nx ≤ s := hs
    show upd c.hp r' (.box cs) s = .dead
    rw [upd_other _ _ (by omega)]
    exact ci.fresh s hs

theorem ren_ok (h : Ok w0 N φ tm hp a w) : ∀ n,
    (∀ v u c ψ, CI w (XX w0 w φ hp) N φ hp w0.mine c ψ → RepV w (XX w0 w φ hp) N φ v u → ∃ ψ', CI w (XX w0 w φ hp) N φ hp w0.mine (renAV hp n v c).2 ψ' ∧ Gr c ψ (renAV hp n v c).2 ψ' ∧
      RepV w (XX w0 w φ hp) (fun s => s < (renAV hp n v c).2.nx) ψ' (renAV hp n v c).1 u) ∧
    (∀ cs vs c ψ, CI w (XX w0 w φ hp) N φ hp w0.mine c ψ → RepL w (XX w0 w φ hp) N φ cs vs → ∃ ψ', CI w (XX w0 w φ hp) N φ hp w0.mine (renL hp n cs c).2 ψ' ∧ Gr c ψ (renL hp n cs c).2 ψ' ∧
      RepL w (XX w0 w φ hp) (fun s => s < (renL hp n cs c).2.nx) ψ' (renL hp n cs c).1 vs) ∧
    (∀ cs vs c ψ, CI w (XX w0 w φ hp) N φ hp w0.mine c ψ → RepT w (XX w0 w φ hp) N φ cs vs → ∃ ψ', CI w (XX w0 w φ hp) N φ hp w0.mine (renL hp n cs c).2 ψ' ∧ Gr c ψ (renL hp n cs c).2 ψ' ∧
      RepT w (XX w0 w φ hp) (fun s => s < (renL hp n cs c).2.nx) ψ' (renL hp n cs c).1 vs) := by
  intro n
  induction n with
  | zero =>
    refine ⟨fun v u c ψ ci hv => ⟨ψ, ?_⟩, fun cs vs c ψ ci hv => ⟨ψ, ?_⟩, fun cs vs c ψ ci hv => ⟨ψ, ?_⟩⟩
    · simp only [renAV]; exact ⟨ci, Gr.refl, trivial⟩
    · simp only [renL]; exact ⟨ci, Gr.refl, repL_junk hv⟩
    · simp only [renL]; exact ⟨ci, Gr.refl, repT_junk hv⟩
  | succ n ih =>
    obtain ⟨ihV, ihL, ihT⟩ := ih
    refine ⟨fun v u c ψ ci hv => ?_, fun cs vs c ψ ci hv => ?_, fun cs vs c ψ ci hv => ?_⟩
    · cases v with
      | ref r =>
        obtain ⟨hN, hu, hsl⟩ := hv
        have hrow := h.rows r
        simp only [renAV]
        cases hr : hp r with
        | own p e l =>
          rw [hr] at hrow
          simp only []
          cases hm : look c.map r with
          | some r' =>
            obtain ⟨m1, m2, _⟩ := ci.map r r' hm
            exact ⟨ψ, ci, Gr.refl, m1, by rw [m2]; exact hu, hsl⟩
          | none =>
            obtain ⟨ψ', ci', gr, e'⟩ := ci.add h hN hm (row := .own p e l) (fun ψ' e' => OwnOk.ren (N' := fun s => s < c.nx + 1) (r' := c.nx) hrow (Nat.lt_succ_self _) e') (fun _ _ _ q => by cases q) (fun ψ' e' b hb => by
              rw [hr]; simp only [blkOf, e'] at hb ⊢; exact hb)
            exact ⟨ψ', ci', gr, Nat.lt_succ_self _, by rw [e']; exact hu, hsl⟩
        | fro p e l =>
          rw [hr] at hrow
          refine ⟨ψ, ci, Gr.refl, ?_⟩
          rw [hu]
          exact own_read hrow.1 (Y := XX w0 w φ hp p) hrow.2 (fun b q => q)
        | box cs => exact ⟨ψ, ci, Gr.refl, trivial⟩
        | dead => exact ⟨ψ, ci, Gr.refl, trivial⟩
      | ptr r i off =>
        obtain ⟨hN, hi, hu⟩ := hv
        have hrow := h.rows r
        simp only [renAV]
        cases hr : hp r with
        | own p e l =>
          rw [hr] at hrow
          simp only []
          cases hm : look c.map r with
          | some r' =>
            obtain ⟨m1, m2, _⟩ := ci.map r r' hm
            exact ⟨ψ, ci, Gr.refl, m1, by rw [m2]; exact hi, by rw [m2]; exact hu⟩
          | none =>
            obtain ⟨ψ', ci', gr, e'⟩ := ci.add h hN hm (row := .own p e l) (fun ψ' e' => OwnOk.ren (N' := fun s => s < c.nx + 1) (r' := c.nx) hrow (Nat.lt_succ_self _) e') (fun _ _ _ q => by cases q) (fun ψ' e' b hb => by
              rw [hr]; simp only [blkOf, e'] at hb ⊢; exact hb)
            exact ⟨ψ', ci', gr, Nat.lt_succ_self _, by rw [e']; exact hi, by rw [e']; exact hu⟩
        | fro p e l =>
          rw [hr] at hrow
          obtain ⟨⟨_, hs, hn, hb, te, xs, ho, hl⟩, hX⟩ := hrow
          refine ⟨ψ, ci, Gr.refl, ?_⟩
          have hil : i < l.length := by rw [← hn]; exact hi
          obtain ⟨ad, c', hsl, _, hg⟩ := own_slice ho
          obtain ⟨g, _, hg2⟩ := hg (by omega)
          refine ⟨hil, (φ r).b, 0, xs, by rw [hu, hs, Nat.zero_add], ?_, hl, fun j y hj => ?_⟩
          · rw [hb g hg2]; exact hX g hg2
          · rw [Nat.zero_add]
            exact own_cells ho (by omega) (fun g hg => hb g hg) j y hj
        | dead => exact ⟨ψ, ci, Gr.refl, trivial⟩
        | box cs =>
          rw [hr] at hrow
          simp only []
          cases hm : look c.map r with
          | some r' =>
            obtain ⟨m1, m2, _⟩ := ci.map r r' hm
            exact ⟨ψ, ci, Gr.refl, m1, by rw [m2]; exact hi, by rw [m2]; exact hu⟩
          | none =>
            obtain ⟨_, b1, b2, vs, te, b3, b4⟩ := hrow
            obtain ⟨ψ1, ci1, gr1, e1⟩ := ci.add h hN hm (row := .dead) (fun _ _ => trivial) (fun _ _ _ q => by cases q) (fun _ _ b hb => by cases hb)
            have e0 : upd c.hp c.nx .dead = c.hp := by
              funext s
              by_cases q : s = c.nx
              · subst q; rw [upd_same, ci.fresh _ (Nat.le_refl _)]
              · rw [upd_other _ _ q]
            rw [e0] at ci1 gr1
            obtain ⟨ψ2, ci2, gr2, hr2⟩ := ihL cs vs.toList _ ψ1 ci1 b4
            have hlk : look (renL hp n cs ⟨(r, c.nx) :: c.map, c.hp, c.nx + 1⟩).2.map r = some c.nx := gr2.map r c.nx (by rw [look_cons]; simp)
            obtain ⟨m1, m2, _⟩ := ci2.map r c.nx hlk
            have ci3 := ci2.setBox hlk hr (cs := (renL hp n cs ⟨(r, c.nx) :: c.map, c.hp, c.nx + 1⟩).1) ⟨m1, by rw [m2]; exact b1, by rw [m2]; exact b2, vs, te, by rw [m2]; exact b3, hr2⟩
            have g12 := gr1.trans gr2
            exact ⟨ψ2, ci3, ⟨g12.nx, g12.psi, g12.map⟩, m1, by rw [m2]; exact hi, by rw [m2]; exact hu⟩
      | nil e =>
        simp only [renAV]
        obtain ⟨ψ', ci', gr, e'⟩ := ci.addNil e
        have hv : u = .slice none 0 0 := hv
        exact ⟨ψ', ci', gr, Nat.lt_succ_self _, by rw [e', hv], none, 0, 0, hv⟩
      | agg cs =>
        unfold RepV at hv
        obtain ⟨vs, hu, hr⟩ := hv
        obtain ⟨ψ', ci', gr, hr'⟩ := ihL cs vs c ψ ci hr
        simp only [renAV]
        exact ⟨ψ', ci', gr, vs, hu, hr'⟩
      | tup cs =>
        unfold RepV at hv
        obtain ⟨vs, hu, hr⟩ := hv
        obtain ⟨ψ', ci', gr, hr'⟩ := ihT cs vs c ψ ci hr
        simp only [renAV]
        exact ⟨ψ', ci', gr, vs, hu, hr'⟩
      | fn f cs =>
        unfold RepV at hv
        obtain ⟨vs, hu, hr⟩ := hv
        obtain ⟨ψ', ci', gr, hr'⟩ := ihT cs vs c ψ ci hr
        simp only [renAV]
        exact ⟨ψ', ci', gr, vs, hu, hr'⟩
      | junk => simp only [renAV]; exact ⟨ψ, ci, Gr.refl, trivial⟩
      | bool b => simp only [renAV]; exact ⟨ψ, ci, Gr.refl, hv⟩
      | int k m => simp only [renAV]; exact ⟨ψ, ci, Gr.refl, hv⟩
      | str s => simp only [renAV]; exact ⟨ψ, ci, Gr.refl, hv⟩
      | sl p e l => simp only [renAV]; exact ⟨ψ, ci, Gr.refl, hv⟩
      | sptr p e l i off => simp only [renAV]; exact ⟨ψ, ci, Gr.refl, hv⟩
    · cases cs with
      | nil =>
        unfold RepL at hv
        simp only [renL]
        exact ⟨ψ, ci, Gr.refl, hv⟩
      | cons v cs =>
        unfold RepL at hv
        obtain ⟨u, us, rfl, h1, h2, h3⟩ := hv
        obtain ⟨ψ1, ci1, gr1, r1⟩ := ihV v u c ψ ci h2
        obtain ⟨ψ2, ci2, gr2, r2⟩ := ihL cs us _ ψ1 ci1 h3
        simp only [renL]
        exact ⟨ψ2, ci2, gr1.trans gr2, u, us, rfl, h1, gr2.rep r1, r2⟩
    · cases cs with
      | nil =>
        unfold RepT at hv
        simp only [renL]
        exact ⟨ψ, ci, Gr.refl, hv⟩
      | cons v cs =>
        unfold RepT at hv
        obtain ⟨u, us, rfl, h2, h3⟩ := hv
        obtain ⟨ψ1, ci1, gr1, r1⟩ := ihV v u c ψ ci h2
        obtain ⟨ψ2, ci2, gr2, r2⟩ := ihT cs us _ ψ1 ci1 h3
        simp only [renL]
        exact ⟨ψ2, ci2, gr1.trans gr2, u, us, rfl, gr2.rep r1, r2⟩

/-- The model's state, and V's. -/
def S (w0 : Bs) (st : St) (a : Act) (w : World) : Prop := ∃ N φ, (∀ r, N r → r < st.nx) ∧ Ok w0 N φ st.tm st.hp a w

theorem keep_ok {st : St} (h : Ok w0 N φ st.tm st.hp a w) : ∀ (live : List Nat) (x : List AV × Cs) (ψ : Nat → Blk), CI w (XX w0 w φ st.hp) N φ st.hp w0.mine x.2 ψ → x.1.length = st.tm.length →
    (∀ i : Nat, RepV w (XX w0 w φ st.hp) (fun s => s < x.2.nx) ψ (x.1.getD i .junk) (a.tmps.getD i undef)) →
    ∃ ψ', CI w (XX w0 w φ st.hp) N φ st.hp w0.mine (keep st live x).2 ψ' ∧ (keep st live x).1.length = st.tm.length ∧
      (∀ i : Nat, RepV w (XX w0 w φ st.hp) (fun s => s < (keep st live x).2.nx) ψ' ((keep st live x).1.getD i .junk) (a.tmps.getD i undef)) ∧ Gr x.2 ψ (keep st live x).2 ψ'
  | [], x, ψ, ci, hl, hx => ⟨ψ, ci, hl, hx, Gr.refl⟩
  | i :: live, x, ψ, ci, hl, hx => by
    obtain ⟨ψ1, ci1, gr1, r1⟩ := (ren_ok h 64).1 (st.tm.getD i .junk) (a.tmps.getD i undef) x.2 ψ ci (h.tms i)
    simp only [keep]
    suffices hx1 : _ from (let ⟨ψ', z1, z2, z3, z4⟩ := keep_ok h live (x.1.set i (renAV st.hp 64 (st.tm.getD i .junk) x.2).1, (renAV st.hp 64 (st.tm.getD i .junk) x.2).2) ψ1 ci1 (by simp [hl]) hx1; ⟨ψ', z1, z2, z3, gr1.trans z4⟩)
    intro j
    by_cases hij : i = j
    · subst hij
      by_cases hi : i < x.1.length
      · have e : (x.1.set i (renAV st.hp 64 (st.tm.getD i .junk) x.2).1).getD i .junk = (renAV st.hp 64 (st.tm.getD i .junk) x.2).1 := by simp [hi]
        show RepV _ _ _ _ ((x.1.set i (renAV st.hp 64 (st.tm.getD i .junk) x.2).1).getD i .junk) _
        rw [e]
        exact r1
      · show RepV _ _ _ _ ((x.1.set i (renAV st.hp 64 (st.tm.getD i .junk) x.2).1).getD i .junk) _
        rw [List.set_eq_of_length_le (by omega)]
        exact gr1.rep (hx i)
    · have e : (x.1.set i (renAV st.hp 64 (st.tm.getD i .junk) x.2).1).getD j .junk = x.1.getD j .junk := by simp [List.getD, List.getElem?_set_ne hij]
      show RepV _ _ _ _ ((x.1.set i (renAV st.hp 64 (st.tm.getD i .junk) x.2).1).getD j .junk) _
      rw [e]
      exact gr1.rep (hx j)

/-- A row of one's own, put in under a number that it has. -/
theorem CI.setOwn {X : Bool → Nat → Prop} {B : Nat → Prop} {c : Cs} {ψ : Nat → Blk} (ci : CI w X N φ hp B c ψ) {r r' : Nat} (hm : look c.map r = some r') {p : Bool} {e : Ty} {l : List e.den} (hr : hp r = .own p e l) (hrow : RowOk w X (fun s => s < c.nx) ψ B r' (.own p e l)) :
    CI w X N φ hp B ⟨c.map, upd c.hp r' (.own p e l), c.nx⟩ ψ := by
  obtain ⟨hlt, he, _⟩ := ci.map r r' hm
  refine ⟨fun s => ?_, fun s p' e' l' => ?_, fun s b hs => ?_, ci.map, fun s hs => ?_⟩
  · by_cases q : s = r'
    · subst q
      show RowOk _ _ _ _ _ _ (upd c.hp s (.own p e l) s)
      rw [upd_same]
      exact hrow
    · show RowOk _ _ _ _ _ _ (upd c.hp r' (.own p e l) s)
      rw [upd_other _ _ q]
      exact ci.rows s
  · by_cases q : s = r'
    · subst q
      show upd c.hp s (.own p e l) s ≠ _
      rw [upd_same]
      intro q; cases q
    · show upd c.hp r' (.own p e l) s ≠ _
      rw [upd_other _ _ q]
      exact ci.nof s p' e' l'
  · by_cases q : s = r'
    · subst q
      have hs : blkOf ψ s (upd c.hp s (.own p e l) s) = some b := hs
      rw [upd_same] at hs
      simp only [blkOf] at hs
      exact ⟨r, hm, by rw [hr]; simp only [blkOf]; rw [← he]; exact hs⟩
    · have hs : blkOf ψ s (upd c.hp r' (.own p e l) s) = some b := hs
      rw [upd_other _ _ q] at hs
      exact ci.blk s b hs
  · have hs : c.nx ≤ s := hs
    show upd c.hp r' (.own p e l) s = .dead
    rw [upd_other _ _ (by omega)]
    exact ci.fresh s hs

theorem keepG_ok (h : Ok w0 N φ tm hp a w) : ∀ (is : List Nat) (c : Cs) (ψ : Nat → Blk), CI w (XX w0 w φ hp) N φ hp w0.mine c ψ → (∀ i ∈ is, look c.map i = some i) →
    ∃ ψ', CI w (XX w0 w φ hp) N φ hp w0.mine (keepG hp is c) ψ' ∧ Gr c ψ (keepG hp is c) ψ'
  | [], c, ψ, ci, _ => ⟨ψ, ci, Gr.refl⟩
  | i :: is, c, ψ, ci, hi => by
    have hm := hi i (List.mem_cons_self ..)
    have hrow := h.rows i
    simp only [keepG]
    cases hq : hp i with
    | box cs =>
      rw [hq] at hrow
      obtain ⟨_, b1, b2, vs, te, b3, b4⟩ := hrow
      obtain ⟨ψ2, ci2, gr2, hr2⟩ := (ren_ok h 64).2.1 cs vs.toList c ψ ci b4
      have hlk := gr2.map i i hm
      obtain ⟨m1, m2, _⟩ := ci2.map i i hlk
      have ci3 := ci2.setBox hlk hq (cs := (renL hp 64 cs c).1) ⟨m1, by rw [m2]; exact b1, by rw [m2]; exact b2, vs, te, by rw [m2]; exact b3, hr2⟩
      obtain ⟨ψ4, ci4, gr4⟩ := keepG_ok h is _ ψ2 ci3 fun j hj => gr2.map j j (hi j (List.mem_cons_of_mem _ hj))
      exact ⟨ψ4, ci4, Gr.trans (c' := ⟨(renL hp 64 cs c).2.map, upd (renL hp 64 cs c).2.hp i (.box (renL hp 64 cs c).1), (renL hp 64 cs c).2.nx⟩) (ψ' := ψ2) ⟨gr2.nx, gr2.psi, gr2.map⟩ gr4⟩
    | own p e l =>
      rw [hq] at hrow
      obtain ⟨m1, m2, _⟩ := ci.map i i hm
      have ci3 := ci.setOwn hm hq (OwnOk.ren (N' := fun s => s < c.nx) (r' := i) hrow m1 m2)
      obtain ⟨ψ4, ci4, gr4⟩ := keepG_ok h is _ ψ ci3 fun j hj => hi j (List.mem_cons_of_mem _ hj)
      exact ⟨ψ4, ci4, ⟨gr4.nx, gr4.psi, gr4.map⟩⟩
    | fro p e l => exact keepG_ok h is c ψ ci fun j hj => hi j (List.mem_cons_of_mem _ hj)
    | dead => exact keepG_ok h is c ψ ci fun j hj => hi j (List.mem_cons_of_mem _ hj)

theorem look_ids : ∀ (l : List Nat) {r r' : Nat}, look (l.map fun i => (i, i)) r = some r' → r' = r ∧ r ∈ l
  | [], _, _, h => by cases h
  | i :: l, r, r', h => by
    simp only [List.map_cons] at h
    rw [look_cons] at h
    split at h
    · rename_i q; subst q; cases h; exact ⟨rfl, List.mem_cons_self ..⟩
    · obtain ⟨h1, h2⟩ := look_ids l h
      exact ⟨h1, List.mem_cons_of_mem _ h2⟩
theorem look_ids' : ∀ (l : List Nat) {r : Nat}, r ∈ l → look (l.map fun i => (i, i)) r = some r
  | [], _, h => by cases h
  | i :: l, r, h => by
    simp only [List.map_cons]
    rw [look_cons]
    split
    · rename_i q; subst q; rfl
    · rename_i q
      rcases List.mem_cons.1 h with q' | q'
      · exact absurd q'.symm q
      · exact look_ids' l q'

theorem canon_ok {live : List Nat} {st : St} (hS : S w0 st a w) : S w0 (canon w0.g live st) a w := by
  obtain ⟨N, φ, hN, h⟩ := hS
  have ci0 : CI w (XX w0 w φ st.hp) N φ st.hp w0.mine ⟨(List.range w0.g).map fun i => (i, i), noRow, w0.g⟩ φ :=
    ⟨fun _ => trivial, fun _ _ _ _ q => (by cases q), fun _ _ q => (by cases q), fun r r' q => by
      obtain ⟨rfl, q2⟩ := look_ids _ q
      rw [List.mem_range] at q2
      exact ⟨q2, rfl, (h.giv _ q2).1⟩, fun _ _ => rfl⟩
  obtain ⟨ψ0, ciG, grG⟩ := keepG_ok h (List.range w0.g) _ φ ci0 fun i hi => look_ids' _ hi
  generalize hc0 : keepG st.hp (List.range w0.g) ⟨(List.range w0.g).map fun i => (i, i), noRow, w0.g⟩ = c0 at ciG grG
  obtain ⟨ψ, ci, hl, hx, gr⟩ := keep_ok h live (List.replicate st.tm.length .junk, c0) ψ0 ciG (by simp)
    (fun i => by
      have : (List.replicate st.tm.length AV.junk).getD i .junk = .junk := by
        simp only [List.getD]
        cases hq : (List.replicate st.tm.length AV.junk)[i]? with
        | none => rfl
        | some v => exact (List.eq_of_mem_replicate (List.mem_of_getElem? hq))
      show RepV _ _ _ _ ((List.replicate st.tm.length AV.junk).getD i .junk) _
      rw [this]
      trivial)
  have hcan : canon w0.g live st = ⟨(keep st live (List.replicate st.tm.length .junk, c0)).1, (keep st live (List.replicate st.tm.length .junk, c0)).2.hp, (keep st live (List.replicate st.tm.length .junk, c0)).2.nx⟩ := by
    unfold canon
    rw [hc0]
  rw [hcan]
  refine ⟨fun s => s < (keep st live (List.replicate st.tm.length .junk, c0)).2.nx, ψ, fun _ q => q, ?_⟩
  show Ok w0 _ ψ (keep st live (List.replicate st.tm.length .junk, c0)).1 (keep st live (List.replicate st.tm.length .junk, c0)).2.hp a w
  have hgr := Gr.trans grG gr
  generalize keep st live (List.replicate st.tm.length .junk, c0) = x at ci hl hx hgr
  have hX : ∀ p b, XX w0 w φ st.hp p b → XX w0 w ψ x.2.hp p b := fun p b q => ⟨q.1, fun ⟨r', hr'⟩ => by
    obtain ⟨r, _, h2⟩ := ci.blk r' b hr'
    exact q.2.1 ⟨r, h2⟩, q.2.2⟩
  refine ⟨h.below, h.defers, by rw [h.size, hl], fun i => RepV.mono hX (fun _ _ _ => rfl) (fun _ q => q) (fun _ _ => rfl) (hx i), fun r => ?_, fun r s b h1 h2 => ?_, fun r hr => ?_⟩
  · have hr := ci.rows r
    have hf := ci.nof r
    cases hq : x.2.hp r with
    | dead => trivial
    | box cs =>
      rw [hq] at hr
      obtain ⟨h1, h2, h3, vs, te, h4, h5⟩ := hr
      exact ⟨h1, h2, h3, vs, te, h4, RepL.mono hX (fun _ _ _ => rfl) (fun _ q => q) (fun _ _ => rfl) h5⟩
    | own p e l =>
      rw [hq] at hr
      obtain ⟨h1, h2, h3, h4, te, xs, h5, h6⟩ := hr
      exact ⟨h1, h2, h3, h4, te, xs, h5, h6.mono (hX p) (fun _ _ => rfl)⟩
    | fro p e l => exact absurd hq (hf p e l)
  · obtain ⟨r1, q1, q2⟩ := ci.blk r b h1
    obtain ⟨s1, q3, q4⟩ := ci.blk s b h2
    have := h.disj r1 s1 b q2 q4
    subst this
    rw [q1] at q3
    cases q3
    rfl
  · exact ⟨Nat.lt_of_lt_of_le hr hgr.nx, (hgr.psi r hr).trans (h.giv r hr).2⟩
end
end Go.V

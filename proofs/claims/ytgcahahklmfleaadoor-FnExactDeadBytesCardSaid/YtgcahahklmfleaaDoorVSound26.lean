/- V: at the head of a loop its rows are numbered anew. -/
import Derived.Test.YtgcahahklmfleaaDoorVSound25
set_option linter.unusedVariables false
set_option linter.unusedSimpArgs false
namespace Go.V
open Go.RowKit

theorem OwnOk.ren {w : World} {X : Bool → Nat → Prop} {N N' : Nat → Prop} {φ φ' : Nat → Blk} {B : Nat → Prop} {r r' : Nat} {p : Bool} {e : Ty} {l : List e.den} (h : OwnOk w X N φ B r p e l) (hN : N' r') (hφ : φ' r' = φ r) : OwnOk w X N' φ' B r' p e l := by
  obtain ⟨_, h2, h3, h4, te, xs, h5, h6⟩ := h
  exact ⟨hN, by rw [hφ]; exact h2, by rw [hφ]; exact h3, by rw [hφ]; exact h4, te, xs, by rw [hφ]; exact h5, h6⟩

theorem RowOk.re {w : World} {X : Bool → Nat → Prop} {N N' : Nat → Prop} {φ φ' : Nat → Blk} {B : Nat → Prop} {r : Nat} {x : Row} (h : RowOk w X N φ B r x) (hN : ∀ s, N s → N' s) (hφ : ∀ s, N s → φ' s = φ s) (hf : ∀ p e l, x ≠ .fro p e l) : RowOk w X N' φ' B r x := by
  cases x with
  | dead => trivial
  | box cs =>
    obtain ⟨h1, h2, h3, vs, te, h4, h5⟩ := h
    refine ⟨hN r h1, by rw [hφ r h1]; exact h2, by rw [hφ r h1]; exact h3, vs, te, by rw [hφ r h1]; exact h4, ?_⟩
    exact RepL.mono (fun _ _ q => q) (fun _ _ _ => rfl) hN hφ h5
  | own p e l => exact OwnOk.ren h (hN r h.1) (hφ r h.1)
  | fro p e l => exact absurd rfl (hf p e l)

section
variable {w0 : Bs} {w : World} {N : Nat → Prop} {φ : Nat → Blk} {tm : List AV} {hp : Hp} {a : Act}

/-- The heap that is being made. -/
structure CI (w : World) (X : Bool → Nat → Prop) (N : Nat → Prop) (φ : Nat → Blk) (hp : Hp) (B : Nat → Prop) (c : Cs) (ψ : Nat → Blk) : Prop where
  rows : ∀ r, RowOk w X (fun s => s < c.nx) ψ B r (c.hp r)
  nof : ∀ r p e l, c.hp r ≠ .fro p e l
  blk : ∀ r' b, blkOf ψ r' (c.hp r') = some b → ∃ r, look c.map r = some r' ∧ blkOf φ r (hp r) = some b
  map : ∀ r r', look c.map r = some r' → r' < c.nx ∧ ψ r' = φ r ∧ N r
  fresh : ∀ r, c.nx ≤ r → c.hp r = .dead

/-- How it grows. -/
structure Gr (c : Cs) (ψ : Nat → Blk) (c' : Cs) (ψ' : Nat → Blk) : Prop where
  nx : c.nx ≤ c'.nx
  psi : ∀ s, s < c.nx → ψ' s = ψ s
  map : ∀ r r', look c.map r = some r' → look c'.map r = some r'

theorem Gr.refl {c : Cs} {ψ : Nat → Blk} : Gr c ψ c ψ := ⟨Nat.le_refl _, fun _ _ => rfl, fun _ _ q => q⟩
theorem Gr.trans {c c' c'' : Cs} {ψ ψ' ψ'' : Nat → Blk} (h : Gr c ψ c' ψ') (h' : Gr c' ψ' c'' ψ'') : Gr c ψ c'' ψ'' :=
  ⟨Nat.le_trans h.nx h'.nx, fun s hs => (h'.psi s (Nat.lt_of_lt_of_le hs h.nx)).trans (h.psi s hs), fun r r' q => h'.map r r' (h.map r r' q)⟩
theorem Gr.rep {w : World} {X : Bool → Nat → Prop} {c c' : Cs} {ψ ψ' : Nat → Blk} (g : Gr c ψ c' ψ') {v : AV} {u : Value} (h : RepV w X (fun s => s < c.nx) ψ v u) : RepV w X (fun s => s < c'.nx) ψ' v u :=
  RepV.mono (fun _ _ q => q) (fun _ _ _ => rfl) (fun s hs => Nat.lt_of_lt_of_le hs g.nx) g.psi h

theorem look_cons {α : Type} {k n : Nat} {x : α} {l : List (Nat × α)} : look ((k, x) :: l) n = if k = n then some x else look l n := by
  simp only [look]
  by_cases h : k = n
  · subst h; simp
  · have : Nat.beq k n = false := by
      cases hb : Nat.beq k n with
      | false => rfl
      | true => exact absurd (Nat.eq_of_beq_eq_true hb) h
    simp [this, h]

/-- A new row: one that was there under another number. -/
theorem CI.add (h : Ok w0 N φ tm hp a w) {c : Cs} {ψ : Nat → Blk} (ci : CI w (XX w0 w φ hp) N φ hp w0.mine c ψ) {r : Nat} (hr : N r) (hm : look c.map r = none) {row : Row}
    (hrow : ∀ ψ' : Nat → Blk, ψ' c.nx = φ r → RowOk w (XX w0 w φ hp) (fun s => s < c.nx + 1) ψ' w0.mine c.nx row) (hf : ∀ p e l, row ≠ .fro p e l)
    (hb : ∀ ψ' : Nat → Blk, ψ' c.nx = φ r → ∀ b, blkOf ψ' c.nx row = some b → blkOf φ r (hp r) = some b) :
    ∃ ψ', CI w (XX w0 w φ hp) N φ hp w0.mine ⟨(r, c.nx) :: c.map, upd c.hp c.nx row, c.nx + 1⟩ ψ' ∧ Gr c ψ ⟨(r, c.nx) :: c.map, upd c.hp c.nx row, c.nx + 1⟩ ψ' ∧ ψ' c.nx = φ r := by
  refine ⟨fun s => if s = c.nx then φ r else ψ s, ?_, ⟨Nat.le_succ _, fun s hs => by simp [Nat.ne_of_lt hs], fun r1 r' q => ?_⟩, by simp⟩
  · have e1 : (fun s => if s = c.nx then φ r else ψ s) c.nx = φ r := by simp
    have e2 : ∀ s, s ≠ c.nx → (fun s => if s = c.nx then φ r else ψ s) s = ψ s := fun s hs => by simp [hs]
    generalize (fun s => if s = c.nx then φ r else ψ s) = ψ' at e1 e2
    refine ⟨fun s => ?_, fun s p e l => ?_, fun s b hs => ?_, fun r1 r' q => ?_, fun s hs => ?_⟩
    · by_cases q : s = c.nx
      · subst q
        show RowOk _ _ _ _ _ _ (upd c.hp c.nx row c.nx)
        rw [upd_same]
        exact hrow ψ' e1
      · show RowOk _ _ _ _ _ _ (upd c.hp c.nx row s)
        rw [upd_other _ _ q]
        exact (ci.rows s).re (fun s hs => Nat.lt_succ_of_lt hs) (fun s hs => e2 s (Nat.ne_of_lt hs)) (ci.nof s)
    · by_cases q : s = c.nx
      · subst q
        show upd c.hp c.nx row c.nx ≠ _
        rw [upd_same]
        exact hf p e l
      · show upd c.hp c.nx row s ≠ _
        rw [upd_other _ _ q]
        exact ci.nof s p e l
    · by_cases q : s = c.nx
      · subst q
        have hs : blkOf ψ' c.nx (upd c.hp c.nx row c.nx) = some b := hs
        rw [upd_same] at hs
        exact ⟨r, by rw [look_cons]; simp, hb ψ' e1 b hs⟩
      · have hs : blkOf ψ' s (upd c.hp c.nx row s) = some b := hs
        rw [upd_other _ _ q] at hs
        have e3 : blkOf ψ s (c.hp s) = some b := by
          have := e2 s q
          cases hq : c.hp s <;> rw [hq] at hs <;> simp only [blkOf] at hs ⊢ <;> first | (cases hs; done) | (rw [this] at hs; exact hs)
        obtain ⟨r1, h1, h2⟩ := ci.blk s b e3
        refine ⟨r1, ?_, h2⟩
        rw [look_cons, if_neg]
        · exact h1
        · intro hq; subst hq; rw [hm] at h1; cases h1
    · have q2 : look ((r, c.nx) :: c.map) r1 = some r' := q
      clear q
      rw [look_cons] at q2
      by_cases hq : r = r1
      · rw [if_pos hq] at q2
        subst hq
        cases q2
        exact ⟨Nat.lt_succ_self _, e1, hr⟩
      · rw [if_neg hq] at q2
        obtain ⟨h1, h2, h3⟩ := ci.map r1 r' q2
        exact ⟨Nat.lt_succ_of_lt h1, by rw [e2 r' (Nat.ne_of_lt h1)]; exact h2, h3⟩
    · have hs : c.nx + 1 ≤ s := hs
      show upd c.hp c.nx row s = .dead
      rw [upd_other _ _ (by omega)]
      exact ci.fresh s (by omega)
  · show look ((r, c.nx) :: c.map) r1 = some r'
    rw [look_cons, if_neg]
    · exact q
    · intro hq; subst hq; rw [hm] at q; cases q

/-- A new row for no slice at all. -/
theorem CI.addNil {c : Cs} {ψ : Nat → Blk} {X : Bool → Nat → Prop} {B : Nat → Prop} (ci : CI w X N φ hp B c ψ) (e : Ty) :
    ∃ ψ', CI w X N φ hp B ⟨c.map, upd c.hp c.nx (.own false e []), c.nx + 1⟩ ψ' ∧ Gr c ψ ⟨c.map, upd c.hp c.nx (.own false e []), c.nx + 1⟩ ψ' ∧ ψ' c.nx = ⟨.slice none 0 0, 0, e.size, 0⟩ := by
  refine ⟨fun s => if s = c.nx then ⟨.slice none 0 0, 0, e.size, 0⟩ else ψ s, ?_, ⟨Nat.le_succ _, fun s hs => by simp [Nat.ne_of_lt hs], fun r1 r' q => q⟩, by simp⟩
  have e1 : (fun s => if s = c.nx then (⟨.slice none 0 0, 0, e.size, 0⟩ : Blk) else ψ s) c.nx = ⟨.slice none 0 0, 0, e.size, 0⟩ := by simp
  have e2 : ∀ s, s ≠ c.nx → (fun s => if s = c.nx then (⟨.slice none 0 0, 0, e.size, 0⟩ : Blk) else ψ s) s = ψ s := fun s hs => by simp [hs]
  generalize (fun s => if s = c.nx then (⟨.slice none 0 0, 0, e.size, 0⟩ : Blk) else ψ s) = ψ' at e1 e2
  refine ⟨fun s => ?_, fun s p e' l => ?_, fun s b hs => ?_, fun r1 r' q => ?_, fun s hs => ?_⟩
  · by_cases q : s = c.nx
    · subst q
      show RowOk _ _ _ _ _ _ (upd c.hp c.nx (.own false e []) c.nx)
      rw [upd_same]
      refine ⟨Nat.lt_succ_self _, by rw [e1], by rw [e1]; rfl, fun b hb => ?_, 0, [], ?_, rfl⟩
      · rw [e1] at hb; cases hb
      · rw [e1]; exact ownsM.nil
    · show RowOk _ _ _ _ _ _ (upd c.hp c.nx (.own false e []) s)
      rw [upd_other _ _ q]
      exact (ci.rows s).re (fun s hs => Nat.lt_succ_of_lt hs) (fun s hs => e2 s (Nat.ne_of_lt hs)) (ci.nof s)
  · by_cases q : s = c.nx
    · subst q
      show upd c.hp c.nx (.own false e []) c.nx ≠ _
      rw [upd_same]
      intro q; cases q
    · show upd c.hp c.nx (.own false e []) s ≠ _
      rw [upd_other _ _ q]
      exact ci.nof s p e' l
  · by_cases q : s = c.nx
    · subst q
      have hs : blkOf ψ' c.nx (upd c.hp c.nx (.own false e []) c.nx) = some b := hs
      rw [upd_same] at hs
      simp only [blkOf, e1] at hs
      cases hs
    · have hs : blkOf ψ' s (upd c.hp c.nx (.own false e []) s) = some b := hs
      rw [upd_other _ _ q] at hs
      have e3 : blkOf ψ s (c.hp s) = some b := by
        have := e2 s q
        cases hq : c.hp s <;> rw [hq] at hs <;> simp only [blkOf] at hs ⊢ <;> first | (cases hs; done) | (rw [this] at hs; exact hs)
      exact ci.blk s b e3
  · obtain ⟨h1, h2, h3⟩ := ci.map r1 r' q
    exact ⟨Nat.lt_succ_of_lt h1, by rw [e2 r' (Nat.ne_of_lt h1)]; exact h2, h3⟩
  · have hs : c.nx + 1 ≤ s := hs
    show upd c.hp c.nx (.own false e []) s = .dead
    rw [upd_other _ _ (by omega)]
    exact ci.fresh s (by omega)
end
end Go.V

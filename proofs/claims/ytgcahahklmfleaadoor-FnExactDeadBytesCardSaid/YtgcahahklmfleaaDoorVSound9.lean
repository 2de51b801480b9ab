/- V: rows that are frozen, new variables, stores. -/
import Derived.Test.YtgcahahklmfleaaDoorVSound8
set_option linter.unusedVariables false
set_option linter.unusedSimpArgs false
namespace Go.V
open Go.RowKit

theorem upd_same (hp : Hp) (r : Nat) (x : Row) : upd hp r x r = x := by simp [upd]
theorem upd_other (hp : Hp) {r s : Nat} (x : Row) (h : s ≠ r) : upd hp r x s = hp s := by
  unfold upd
  have : Nat.beq s r = false := by
    cases q : Nat.beq s r with
    | false => rfl
    | true => exact absurd (Nat.eq_of_beq_eq_true q) h
  rw [this]; rfl

section
variable {P : Program} {tb : Tab} {w0 : Bs} {w : World} {N : Nat → Prop} {φ : Nat → Blk} {tm : List AV} {hp : Hp} {a : Act}

/-- A row is written no more. -/
theorem Ok.freeze1 (h : Ok w0 N φ tm hp a w) {r : Nat} {p : Bool} {e : Ty} {l : List e.den} (hr : hp r = .own p e l ∨ hp r = .fro p e l) : Ok w0 N φ tm (upd hp r (.fro p e l)) a w := by
  have hW : ∀ b, Wr φ (upd hp r (.fro p e l)) b → Wr φ hp b := by
    rintro b ⟨s, hs⟩
    by_cases q : s = r
    · subst q; rw [upd_same] at hs; cases hs
    · rw [upd_other hp _ q] at hs; exact ⟨s, hs⟩
  have hrow := h.rows r
  have hnW : ∀ b, (φ r).v.ownBlock = some b → ¬ Wr φ (upd hp r (.fro p e l)) b := by
    rintro b hb ⟨s, hs⟩
    by_cases q : s = r
    · subst q; rw [upd_same] at hs; cases hs
    · rw [upd_other hp _ q] at hs
      rcases hr with hr | hr
      · exact q (h.disj s r b hs (by rw [hr]; exact hb))
      · rw [hr] at hrow
        exact (hrow.2 b hb).2.1 ⟨s, hs⟩
  have hown : OwnOk w (XX w0 w φ hp) N φ w0.mine r p e l := by
    rcases hr with hr | hr <;> rw [hr] at hrow
    · exact hrow
    · exact hrow.1
  refine h.step (fun _ => False) (fun _ q => q) (fun _ _ => rfl) h.below (Nat.le_refl _) (fun _ _ _ => rfl) (fun _ q => q.elim) (fun b _ q => hW b q) (fun s => ?_) (fun s s' b hs hs' => ?_)
  · by_cases q : s = r
    · subst q
      right
      rw [upd_same]
      obtain ⟨te, xs, ho, hl⟩ := hown.2.2.2.2
      refine ⟨hown.mono h (fun _ q => q) (fun _ _ => rfl) (fun p b hx => hx.mono (Nat.le_refl _) (fun b _ q => hW b q)) (fun _ _ _ => rfl) (fun _ _ => rfl), fun b hb => ?_⟩
      exact ⟨(ho.lt b hb).2, hnW b hb, Or.inl (ho.lt b hb).1⟩
    · rw [upd_other hp _ q]
      cases hs : hp s with
      | dead => right; trivial
      | box cs => have := h.rows s; rw [hs] at this; exact Or.inl ⟨rfl, this.1, fun _ _ q => q⟩
      | own p' e' l' => have := h.rows s; rw [hs] at this; exact Or.inl ⟨rfl, this.1, fun _ _ q => q⟩
      | fro p' e' l' => have := h.rows s; rw [hs] at this; exact Or.inl ⟨rfl, this.1.1, fun _ _ q => q⟩
  · have hs2 : blkOf φ s (hp s) = some b := by
      by_cases q : s = r
      · subst q; rw [upd_same] at hs; cases hs
      · rwa [upd_other hp _ q] at hs
    have hs3 : blkOf φ s' (hp s') = some b := by
      by_cases q : s' = r
      · subst q; rw [upd_same] at hs'; cases hs'
      · rwa [upd_other hp _ q] at hs'
    exact h.disj s s' b hs2 hs3

/-- Updates that freeze rows, each as it is. -/
def Frz (hp : Hp) (us : Ups) : Prop := ∀ r x, (r, x) ∈ us → ∃ p e l, x = .fro p e l ∧ (hp r = .own p e l ∨ hp r = .fro p e l)

theorem Frz.tail {us : Ups} {r : Nat} {x : Row} (h : Frz hp ((r, x) :: us)) : Frz (upd hp r x) us := by
  obtain ⟨p, e, l, rfl, hr⟩ := h r x (List.mem_cons_self ..)
  intro s y hs
  obtain ⟨p', e', l', rfl, hs'⟩ := h s y (List.mem_cons_of_mem _ hs)
  refine ⟨p', e', l', rfl, ?_⟩
  by_cases q : s = r
  · subst q
    rw [upd_same]
    right
    rcases hr with hr | hr <;> rcases hs' with hs' | hs' <;> rw [hr] at hs' <;> cases hs' <;> rfl
  · rw [upd_other hp _ q]; exact hs'

theorem Ok.freeze (us : Ups) : ∀ {hp : Hp}, Ok w0 N φ tm hp a w → Frz hp us → Ok w0 N φ tm (apply hp us) a w := by
  induction us with
  | nil => exact fun h _ => h
  | cons u us ih =>
    intro hp h hf
    obtain ⟨r, x⟩ := u
    have ht := hf.tail
    obtain ⟨p, e, l, rfl, hr⟩ := hf r x (List.mem_cons_self ..)
    exact ih (h.freeze1 hr) ht

theorem frz_freeze (hp : Hp) : ∀ cs : List AV, Frz hp (freeze hp cs)
  | [] => fun r x h => by cases h
  | c :: cs => by
    have ih := frz_freeze hp cs
    unfold Go.V.freeze
    split
    · rename_i heq; cases heq
    rotate_left
    · rename_i heq; cases heq; exact ih
    rename_i r cs' heq
    cases heq
    split
    · rename_i p t l hr
      intro s x hs
      rcases List.mem_cons.1 hs with q | q
      · cases q; exact ⟨p, t, l, rfl, Or.inl hr⟩
      · exact ih s x q
    · rename_i p t l hr
      intro s x hs
      rcases List.mem_cons.1 hs with q | q
      · cases q; exact ⟨p, t, l, rfl, Or.inr hr⟩
      · exact ih s x q
    · exact ih

/-- A new block: a variable, or a row. -/
theorem Ok.alloc (h : Ok w0 N φ tm hp a w) {id : Nat} (hid : ¬ N id) (vs : Array Value) (te : TypeId) (row : Row) (bk : Blk)
    (hrow : ∀ φ' : Nat → Blk, φ' id = bk → (∀ r, N r → φ' r = φ r) →
      (∀ p b, XX w0 w φ hp p b → XX w0 (w.alloc (.cells vs te)) φ' (upd hp id row) p b) →
      RowOk (w.alloc (.cells vs te)) (XX w0 (w.alloc (.cells vs te)) φ' (upd hp id row)) (fun r => N r ∨ (id ≤ r ∧ r < id + 1)) φ' w0.mine id row)
    (hblk : ∀ φ' : Nat → Blk, φ' id = bk → ∀ b, blkOf φ' id row = some b → b = w.heap.size) :
    ∃ φ' : Nat → Blk, φ' id = bk ∧ (∀ r, N r → φ' r = φ r) ∧ Ok w0 (fun r => N r ∨ (id ≤ r ∧ r < id + 1)) φ' tm (upd hp id row) a (w.alloc (.cells vs te)) := by
  have hdead : hp id = .dead := by
    have := h.rows id
    cases hq : hp id with
    | dead => rfl
    | box cs => rw [hq] at this; exact absurd this.1 hid
    | own p e l => rw [hq] at this; exact absurd this.1 hid
    | fro p e l => rw [hq] at this; exact absurd this.1.1 hid
  refine ⟨fun r => if r = id then bk else φ r, by simp, fun r hr => by
    have : r ≠ id := fun q => hid (q ▸ hr)
    simp [this], ?_⟩
  generalize hφ' : (fun r => if r = id then bk else φ r) = φ'
  have e1 : φ' id = bk := by subst hφ'; simp
  have e2 : ∀ r, r ≠ id → φ' r = φ r := by intro r q; subst hφ'; simp [q]
  have e3 : ∀ r, N r → φ' r = φ r := fun r hr => e2 r fun q => hid (q ▸ hr)
  have hWn : ∀ b, Wr φ' (upd hp id row) b → Wr φ hp b ∨ b = w.heap.size := by
    rintro b ⟨s, hs⟩
    by_cases q : s = id
    · subst q; rw [upd_same] at hs; exact Or.inr (hblk φ' e1 b hs)
    · rw [upd_other hp _ q] at hs
      left
      refine ⟨s, ?_⟩
      have e := e2 s q
      cases hq : hp s <;> rw [hq] at hs <;> simp only [blkOf] at hs ⊢ <;> first | (cases hs; done) | (rw [e] at hs; exact hs)
  have hsz : w.heap.size ≤ (w.alloc (.cells vs te)).heap.size := by simp
  have hW : ∀ b, b < w.heap.size → Wr φ' (upd hp id row) b → Wr φ hp b := fun b hb q => (hWn b q).elim (fun q => q) (fun q => absurd q (by omega))
  have hX : ∀ p b, XX w0 w φ hp p b → XX w0 (w.alloc (.cells vs te)) φ' (upd hp id row) p b := fun p b hx => hx.mono hsz hW
  refine h.step (fun _ => False) (fun _ q => Or.inl q) e3 (h.below.alloc _) hsz (fun b hb _ => heap_alloc_old w _ b hb) (fun _ q => q.elim) hW (fun s => ?_) (fun s s' b hs hs' => ?_)
  · by_cases q : s = id
    · subst q
      right
      rw [upd_same]
      exact hrow φ' e1 e3 hX
    · rw [upd_other hp _ q]
      cases hs : hp s with
      | dead => right; trivial
      | box cs => have := h.rows s; rw [hs] at this; exact Or.inl ⟨rfl, this.1, fun _ _ q => q⟩
      | own p' e' l' => have := h.rows s; rw [hs] at this; exact Or.inl ⟨rfl, this.1, fun _ _ q => q⟩
      | fro p' e' l' => have := h.rows s; rw [hs] at this; exact Or.inl ⟨rfl, this.1.1, fun _ _ q => q⟩
  · have key : ∀ s, blkOf φ' s (upd hp id row s) = some b → s ≠ id → blkOf φ s (hp s) = some b := by
      intro s hs q
      rw [upd_other hp _ q] at hs
      have e := e2 s q
      cases hq : hp s <;> rw [hq] at hs <;> simp only [blkOf] at hs ⊢ <;> first | (cases hs; done) | (rw [e] at hs; exact hs)
    by_cases q : s = id
    · by_cases q' : s' = id
      · rw [q, q']
      · have h1 := key s' hs' q'
        have h2 := (h.blk_lt h1).2
        subst q
        rw [upd_same] at hs
        have := hblk φ' e1 b hs
        omega
    · have h1 := key s hs q
      by_cases q' : s' = id
      · have h2 := (h.blk_lt h1).2
        subst q'
        rw [upd_same] at hs'
        have := hblk φ' e1 b hs'
        omega
      · exact h.disj s s' b h1 (key s' hs' q')
end
end Go.V

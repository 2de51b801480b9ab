/- V: each operation. -/
import Derived.Test.YtgcahahklmfleaaDoorVSound12
set_option linter.unusedVariables false
set_option linter.unusedSimpArgs false
namespace Go.V
open Go.RowKit

/-- Structs whose values are compared cell by cell. -/
def EqOk (P : Program) (tb : Tab) : Prop := ∀ t tys, look tb.eqs t = some tys → ∀ (w : World) (X : Bool → Nat → Prop) (N : Nat → Prop) (φ : Nat → Blk) (cs ds : List AV) (vs us : List Value) (c : Bool) (x y : Operand),
  RepL w X N φ cs vs → RepL w X N φ ds us → eqCells tys cs ds = some c →
    (do eqGuard .eql t x y (.agg vs.toArray) (.agg us.toArray); binOp .eql t (.agg vs.toArray) (.agg us.toArray) : Sem Value).run P w = .ok (.bool c) w ∧
    (do eqGuard .neq t x y (.agg vs.toArray) (.agg us.toArray); binOp .neq t (.agg vs.toArray) (.agg us.toArray) : Sem Value).run P w = .ok (.bool (!c)) w

section
variable {P : Program} {tb : Tab} {w0 : Bs} {w w' : World} {N : Nat → Prop} {φ : Nat → Blk} {tm : List AV} {hp : Hp} {a : Act} {Q : Exit → Act → World → Prop}

theorem binop_ok (hP : tabCheck P tb = true) (hE : EqOk P tb) {X : Bool → Nat → Prop} {op : BinOp} {t : Nat} {x y v : AV} {p q : Value} (h : binop (isBool (look tb.ty t)) (look tb.eqs t) op x y some = some v)
    (hx : RepV w X N φ x p) (hy : RepV w X N φ y q) (xo yo : Operand) : ∃ u, (do eqGuard op t xo yo p q; binOp op t p q : Sem Value).run P w = .ok u w ∧ RepV w X N φ v u := by
  cases x <;> cases y <;> first
    | (cases h; done)
    | skip
  · cases hx; cases hy
    cases hb : isBool (look tb.ty t) with
    | false => rw [hb] at h; simp [binop] at h
    | true =>
      rw [hb] at h
      cases hl : look tb.ty t with
      | none => rw [hl] at hb; cases hb
      | some u =>
        rw [hl] at hb
        obtain ⟨i, d, z, ht⟩ := tyFact hP hl
        have hk := ht.kind
        have hu := ht.under
        cases u <;> first | (cases hb; done) | skip
        cases d <;> simp [kindCheck] at hk
        exact binop_bool hu h xo yo
  · cases hx; cases hy; exact binop_int h t xo yo
  · cases hx; cases hy; exact binop_str h t xo yo
  · rename_i cs ds
    obtain ⟨vs, rfl, hx⟩ := hx
    obtain ⟨us, rfl, hy⟩ := hy
    simp only [binop] at h
    cases he : look tb.eqs t with
    | none => rw [he] at h; cases h
    | some tys =>
    rw [he] at h
    have h1 := h
    simp only [] at h1
    cases hq : eqCells tys cs ds with
    | none => rw [hq] at h1; cases op <;> cases h1
    | some c =>
      rw [hq] at h1
      have := hE t tys he w X N φ cs ds vs us c xo yo hx hy hq
      cases op <;> first
        | (cases h1; exact ⟨_, this.1, rfl⟩)
        | (cases h1; exact ⟨_, this.2, rfl⟩)
        | cases h1

theorem run_newVar (t : TypeId) (v : Value) : (newVar t v).run P w = .ok ⟨w.heap.size, 0, none⟩ (w.alloc (.cells v.cells t)) := by
  simp [newVar, newRow]

/-- A new variable. -/
theorem alloc_box (h : Ok w0 N φ tm hp a w) {id : Nat} (hid : ¬ N id) {cs : List AV} {v : Value} (te : TypeId) (hc : RepL w (XX w0 w φ hp) N φ cs v.cells.toList) {dst : Option Nat} :
    After w0 N φ tm hp dst (.ptr id 0 0) [(id, .box cs)] id (id + 1) (a.put dst (.pointer (some ⟨w.heap.size, 0, none⟩))) (w.alloc (.cells v.cells te)) := by
  obtain ⟨φ', e1, e2, hok⟩ := h.alloc hid v.cells te (.box cs) ⟨.pointer none, w.heap.size, 0, 1⟩ (fun φ' e1 e2 hX => by
      refine ⟨Or.inr ⟨Nat.le_refl _, Nat.lt_succ_self _⟩, by rw [e1]; exact Or.inl h.below.size, by rw [e1], v.cells, te, by rw [e1]; exact heap_alloc_new w _, ?_⟩
      exact hc.mono hX (fun p b hx => heap_alloc_old w _ b hx.1) (fun r hr => Or.inl hr) e2) (fun φ' e1 b hb => by cases hb; rw [e1])
  refine ⟨φ', e2, hok.put dst ?_⟩
  exact ⟨Or.inr ⟨Nat.le_refl _, Nat.lt_succ_self _⟩, by rw [e1]; exact Nat.zero_lt_one, by rw [e1]; simp⟩

/-- A new row of one's own. -/
theorem alloc_own (h : Ok w0 N φ tm hp a w) {id : Nat} (hid : ¬ N id) {p : Bool} {e : Ty} {l : List e.den} {vs : List Value} (te : TypeId) (n : Nat) (hn : n = l.length) (hm : n ≤ maxLen) (hl : RdL (Rd w (XX w0 w φ hp p) e) l vs) {dst : Option Nat} :
    After w0 N φ tm hp dst (.ref id) [(id, .own p e l)] id (id + 1) (a.put dst (.slice (some ⟨w.heap.size, 0, none⟩) n n)) (w.alloc (.cells vs.toArray te)) := by
  subst hn
  have hlen := hl.length (fun x d q => q.len)
  obtain ⟨φ', e1, e2, hok⟩ := h.alloc hid vs.toArray te (.own p e l) ⟨.slice (some ⟨w.heap.size, 0, none⟩) l.length l.length, w.heap.size, e.size, l.length⟩ (fun φ' e1 e2 hX => by
      refine ⟨Or.inr ⟨Nat.le_refl _, Nat.lt_succ_self _⟩, by rw [e1], by rw [e1], fun b hb => by rw [e1] at hb ⊢; simpa [Value.ownBlock] using hb, te, vs, ?_, ?_⟩
      · rw [e1]
        refine ⟨hlen, Or.inr ⟨w.heap.size, l.length, vs.toArray, rfl, Or.inl h.below.size, heap_alloc_new w _, Nat.le_refl _, hm, by simpa using hlen, ?_⟩⟩
        rw [List.take_of_length_le]
        simp [hlen]
      · exact hl.mono (fun b hx => hX p b hx) (fun b hx => heap_alloc_old w _ b hx.1)) (fun φ' e1 b hb => by simp only [blkOf, e1, Value.ownBlock, Option.some.injEq] at hb; exact hb.symm)
  refine ⟨φ', e2, hok.put dst ?_⟩
  exact ⟨Or.inr ⟨Nat.le_refl _, Nat.lt_succ_self _⟩, by rw [e1], _, _, _, rfl⟩

theorem After.weaken {dst : Option Nat} {v : AV} {us : Ups} {id nx : Nat} {a' : Act} {hp1 : Hp} (us0 : Ups) (e : apply hp us0 = hp1) (h : After w0 N φ tm hp1 dst v us id nx a' w') : After w0 N φ tm hp dst v (us0 ++ us) id nx a' w' := by
  obtain ⟨φ', h1, h2⟩ := h
  refine ⟨φ', h1, ?_⟩
  have : ∀ (us0 : Ups) (hp : Hp), apply hp (us0 ++ us) = apply (apply hp us0) us := by
    intro us0
    induction us0 with
    | nil => intro hp; rfl
    | cons u us0 ih => intro hp; exact ih _
  rw [this, e]
  exact h2
end
end Go.V

/- V: operations that leave memory alone. -/
import Derived.Test.YtgcahahklmfleaaDoorVSound4
set_option linter.unusedVariables false
set_option linter.unusedSimpArgs false
namespace Go.V
open Go.RowKit

section
variable {P : Program} {tb : Tab} {w0 : Bs} {w : World} {N : Nat → Prop} {φ : Nat → Blk} {tm : List AV} {hp : Hp} {a : Act}
abbrev XX (w0 : Bs) (w : World) (φ : Nat → Blk) (hp : Hp) : Bool → Nat → Prop := Xs w φ hp w0.see

theorem run_val {o : Oper} {s : Sem Value} {v : Value} {w' : World} (h : s.run P w = .ok v w') : (do pure (Next.value (← s)) : Sem Next).run P w = .ok (.value v) w' := by
  simp [h]

theorem repInt {w : World} {X : Bool → Nat → Prop} {k : IntKind} {n : Int} {v : Value} (h : RepV w X N φ (.int k n) v) : v = .int k n := h
theorem repBool {w : World} {X : Bool → Nat → Prop} {b : Bool} {v : Value} (h : RepV w X N φ (.bool b) v) : v = .bool b := h
theorem repStr {w : World} {X : Bool → Nat → Prop} {s : ByteArray} {v : Value} (h : RepV w X N φ (.str s) v) : v = .string s := h

/-- Comparisons of whole numbers. -/
theorem run_cmpInt {op : BinOp} {x y : Int} {c : Bool} (h : cmpInt op x y = some c) : (Op.intCmp op x y).run P w = .ok (.bool c) w := by
  unfold cmpInt at h
  cases op <;> simp at h <;> subst h <;> simp [Op.intCmp]

theorem fin_bif {α : Type} {c : Bool} {x : Option α} {y : α} (h : (bif c then none else x) = some y) : c = false ∧ x = some y := by
  cases c with
  | true => cases h
  | false => exact ⟨rfl, h⟩
theorem fin_bif' {α : Type} {c : Bool} {x : Option α} {y : α} (h : (bif c then x else none) = some y) : c = true ∧ x = some y := by
  cases c with
  | true => exact ⟨rfl, h⟩
  | false => cases h

theorem run_eqGuard_int (op : BinOp) (t : TypeId) (x y : Operand) (k k' : IntKind) (m n : Int) : (eqGuard op t x y (.int k m) (.int k' n)).run P w = .ok () w := by
  unfold eqGuard
  cases op <;> simp
theorem run_eqGuard_str (op : BinOp) (t : TypeId) (x y : Operand) (m n : ByteArray) : (eqGuard op t x y (.string m) (.string n)).run P w = .ok () w := by
  unfold eqGuard
  cases op <;> simp
theorem run_eqGuard_bool (op : BinOp) (t : TypeId) (x y : Operand) (m n : Bool) : (eqGuard op t x y (.bool m) (.bool n)).run P w = .ok () w := by
  unfold eqGuard
  cases op <;> simp

theorem run_intArith {op : BinOp} {k : IntKind} {x y : Int} {v : Value} (h : (match op with | .add => some (Value.int k (k.wrap (x + y))) | .sub => some (.int k (k.wrap (x - y))) | .mul => some (.int k (k.wrap (x * y))) | _ => none) = some v) :
    (Op.intArith op k x y).run P w = .ok v w := by
  cases op <;> simp at h <;> subst h <;> rfl

/-- What a binary operation on scalars gives. -/
theorem binop_int {op : BinOp} {bt : Bool} {eq : Option (List Ty)} {ka kb : IntKind} {m n : Int} {v : AV} {X : Bool → Nat → Prop} (h : binop bt eq op (.int ka m) (.int kb n) some = some v) (t : TypeId) (x y : Operand) :
    ∃ u, (do eqGuard op t x y (.int ka m) (.int kb n); binOp op t (.int ka m) (.int kb n) : Sem Value).run P w = .ok u w ∧ RepV w X N φ v u := by
  rw [Sem.run_bind, run_eqGuard_int, Result.andThen_ok]
  cases op <;> simp only [binop, binOp] at h ⊢
  case shl =>
    obtain ⟨hn, h⟩ := fin_bif h
    cases h
    exact ⟨_, by simp [Op.shift, of_decide_eq_false hn], rfl⟩
  case shr =>
    obtain ⟨hn, h⟩ := fin_bif h
    cases h
    exact ⟨_, by simp [Op.shift, of_decide_eq_false hn], rfl⟩
  all_goals
    obtain ⟨hk, h⟩ := fin_bif h
    have hk := of_decide_eq_false hk
    simp only [ne_eq, Decidable.not_not] at hk
    subst hk
    simp only [ne_eq, not_true_eq_false, if_false] at h ⊢
  case quo =>
    by_cases hn : n = 0
    · simp [hn] at h
    · simp [hn] at h
      subst h
      exact ⟨_, by simp only [Op.intDiv, if_neg hn]; rfl, rfl⟩
  case rem =>
    by_cases hn : n = 0
    · simp [hn] at h
    · simp [hn] at h
      subst h
      exact ⟨_, by simp only [Op.intDiv, if_neg hn]; rfl, rfl⟩
  case add => cases h; exact ⟨_, rfl, rfl⟩
  case sub => cases h; exact ⟨_, rfl, rfl⟩
  case mul => cases h; exact ⟨_, rfl, rfl⟩
  case and => cases h; exact ⟨_, rfl, rfl⟩
  case or => cases h; exact ⟨_, rfl, rfl⟩
  case xor => cases h; exact ⟨_, rfl, rfl⟩
  all_goals first
    | (simp only [cmpInt] at h; cases h; exact ⟨_, rfl, rfl⟩)
    | cases h

theorem binop_str {op : BinOp} {bt : Bool} {eq : Option (List Ty)} {m n : ByteArray} {v : AV} {X : Bool → Nat → Prop} (h : binop bt eq op (.str m) (.str n) some = some v) (t : TypeId) (x y : Operand) :
    ∃ u, (do eqGuard op t x y (.string m) (.string n); binOp op t (.string m) (.string n) : Sem Value).run P w = .ok u w ∧ RepV w X N φ v u := by
  rw [Sem.run_bind, run_eqGuard_str, Result.andThen_ok]
  cases op <;> simp only [binop, binOp] at h ⊢
  all_goals first
    | (cases h; exact ⟨_, by simp [Op.stringOp] <;> rfl, rfl⟩)
    | (obtain ⟨hn, h⟩ := fin_bif h
       cases h
       exact ⟨_, by simp only [Op.stringOp]; rw [if_neg (of_decide_eq_false hn)]; rfl, rfl⟩)
    | cases h

theorem equal_bool {t : TypeId} (ht : P.underlying t = some .bool) (m n : Bool) : (Op.equal t (.bool m) (.bool n)).run P w = .ok (m == n) w := by
  show (Op.equalIn (9999 + 1) t (.bool m) (.bool n)).run P w = _
  rw [Op.equalIn, Sem.run_bind, run_underlying ht w, Result.andThen_ok]
  rfl
theorem binop_bool {t : TypeId} {op : BinOp} {eq : Option (List Ty)} {m n : Bool} {v : AV} {X : Bool → Nat → Prop} (ht : P.underlying t = some .bool) (h : binop true eq op (.bool m) (.bool n) some = some v) (x y : Operand) :
    ∃ u, (do eqGuard op t x y (.bool m) (.bool n); binOp op t (.bool m) (.bool n) : Sem Value).run P w = .ok u w ∧ RepV w X N φ v u := by
  rw [Sem.run_bind, run_eqGuard_bool, Result.andThen_ok]
  cases op <;> simp only [binop, binOp, cond_true] at h ⊢
  all_goals first
    | (cases h; exact ⟨_, by rw [Sem.run_bind, equal_bool ht]; rfl, rfl⟩)
    | cases h

theorem unop_ok {op : UnOp} {x v : AV} {u : Value} {X : Bool → Nat → Prop} (h : unop op x some = some v) (hx : RepV w X N φ x u) :
    ∃ z, (Op.unary op u).run P w = .ok z w ∧ RepV w X N φ v z := by
  unfold unop at h
  split at h
  · cases h; cases hx; exact ⟨_, rfl, rfl⟩
  · cases h; cases hx; exact ⟨_, rfl, rfl⟩
  · cases h; cases hx; exact ⟨_, rfl, rfl⟩
  · cases h

theorem repL_getElem {X : Bool → Nat → Prop} : ∀ {cs : List AV} {vs : List Value} {i : Nat} {v : AV}, RepT w X N φ cs vs → cs[i]? = some v → ∃ u, vs[i]? = some u ∧ RepV w X N φ v u
  | [], _, i, v, _, h => by simp at h
  | c :: cs, _, 0, v, h, hi => by
    unfold RepT at h
    obtain ⟨u, us, e, h2, h3⟩ := h
    subst e
    simp at hi
    subst hi
    exact ⟨u, rfl, h2⟩
  | c :: cs, _, i + 1, v, h, hi => by
    unfold RepT at h
    obtain ⟨u, us, e, h2, h3⟩ := h
    subst e
    exact repL_getElem (cs := cs) (i := i) h3 (by simpa using hi)

/-- A value's cells stand for its cells; where they are as many as a struct's, it is one. -/
theorem wrapAgg_rep {X : Bool → Nat → Prop} {t : Ty} {cs : List AV} {vs : List Value} (h : RepL w X N φ cs vs) (hl : cs.length = t.size) (hv : Value) (he : if t.agg then hv = .agg vs.toArray else vs = [hv]) :
    RepV w X N φ (wrapAgg t cs) hv := by
  cases t with
  | pair s u => simp [Ty.agg] at he; exact ⟨vs, he, h⟩
  | unit => simp [Ty.agg] at he; exact ⟨vs, he, h⟩
  | _ =>
    simp [Ty.agg] at he
    subst he
    cases cs with
    | nil => simp [RepL] at h
    | cons c cs =>
      unfold RepL at h
      obtain ⟨u, us, e, h1, h2, h3⟩ := h
      cases e
      exact h2
end
end Go.V

/- V: what an operation's updates are like; that it looks at no more of the rows than it names. -/
import Derived.Test.YtgcahahklmfleaaDoorVSound18
set_option linter.unusedVariables false
set_option linter.unusedSimpArgs false
namespace Go.V
open Go.RowKit

def noFro (us : Ups) : Prop := ∀ r x, (r, x) ∈ us → ∀ p e l, x ≠ .fro p e l

theorem noFro_nil : noFro [] := fun r x h => by cases h
theorem frz_nil {hp : Hp} : Frz hp [] := fun r x h => by cases h

theorem noFro_rowsO {p : Bool} : ∀ {t : Ty} {x : t.den} {id : Nat}, noFro (rowsO p t x id)
  | .slice _, _, id => fun r y h p' e' l' q => by
    simp only [rowsO, List.mem_singleton, Prod.mk.injEq] at h
    rw [h.2] at q
    cases q
  | .pair a b, x, id => fun r y h => by
    simp only [rowsO] at h
    rcases List.mem_append.1 h with h | h
    · exact noFro_rowsO r y h
    · exact noFro_rowsO r y h
  | .bool, _, _ => fun r y h => by cases h
  | .int _, _, _ => fun r y h => by cases h
  | .str, _, _ => fun r y h => by cases h
  | .unit, _, _ => fun r y h => by cases h
  | .opq, _, _ => fun r y h => by cases h

/-- An operation's updates: first rows that are frozen, each as it is; then others. -/
def Shape (hp : Hp) (id : Nat) (us : Ups) (nx : Nat) : Prop := id ≤ nx ∧ ∃ us0 us1, us = us0 ++ us1 ∧ Frz hp us0 ∧ noFro us1

section
variable {tb : Tab} {ct : List (Nat × Cn)} {tm : List AV} {hp : Hp} {id nx : Nat} {us : Ups} {v : AV}

theorem Shape.nil : Shape hp id [] id := ⟨Nat.le_refl _, [], [], rfl, frz_nil, noFro_nil⟩
theorem Shape.frz (h : Frz hp us) : Shape hp id us id := ⟨Nat.le_refl _, us, [], by simp, h, noFro_nil⟩
theorem Shape.one {us0 : Ups} {r : Nat} {x : Row} (h : Frz hp us0) (hx : ∀ p e l, x ≠ .fro p e l) (hn : id ≤ nx) : Shape hp id (us0 ++ [(r, x)]) nx :=
  ⟨hn, us0, _, rfl, h, fun r' y hy p e l q => by
    simp only [List.mem_singleton, Prod.mk.injEq] at hy
    rw [hy.2] at q
    exact hx p e l q⟩

theorem storeTo_shape {t : Ty} {x y : AV} (h : storeTo hp t x y some = some us) : Shape hp id us id := by
  unfold storeTo at h
  obtain ⟨_, h⟩ := fin_bif' h
  split at h
  · split at h
    · obtain ⟨_, h⟩ := fin_bif' h
      cases h
      exact Shape.one (us0 := []) frz_nil (fun _ _ _ q => by cases q) (Nat.le_refl _)
    · obtain ⟨_, h⟩ := fin_bif h
      split at h
      · split at h
        · cases h
          exact Shape.one (frz_freeze _ _) (fun _ _ _ q => by cases q) (Nat.le_refl _)
        · cases h
      · cases h
    · cases h
  · cases h

theorem sliceOp_shape {u : Ty} {x : AV} {lo hi : Option AV} (h : sliceOp u hp x lo hi (fun v us => some (v, us)) = some (v, us)) : Shape hp id us id := by
  have one : ∀ r p e (l : List e.den), (hp r = .own p e l ∨ hp r = .fro p e l) → Shape hp id [(r, Row.fro p e l)] id := fun r p e l hr => Shape.frz fun s y hy => by
    simp only [List.mem_singleton, Prod.mk.injEq] at hy
    obtain ⟨rfl, rfl⟩ := hy
    exact ⟨p, e, l, rfl, hr⟩
  unfold sliceOp at h
  split at h
  · rw [cutS_bind] at h
    obtain ⟨_, _, h⟩ := Option.bind_eq_some_iff.1 h
    cases h; exact Shape.nil
  · rw [cutL_bind] at h
    obtain ⟨_, _, h⟩ := Option.bind_eq_some_iff.1 h
    cases h; exact Shape.nil
  · obtain ⟨_, h⟩ := fin_bif' h
    rw [cutL_bind] at h
    obtain ⟨_, _, h⟩ := Option.bind_eq_some_iff.1 h
    cases h; exact Shape.nil
  · split at h
    · rename_i hr
      obtain ⟨_, h⟩ := fin_bif' h
      rw [cutL_bind] at h
      obtain ⟨_, _, h⟩ := Option.bind_eq_some_iff.1 h
      cases h
      exact one _ _ _ _ (Or.inl hr)
    · rename_i hr
      obtain ⟨_, h⟩ := fin_bif' h
      rw [cutL_bind] at h
      obtain ⟨_, _, h⟩ := Option.bind_eq_some_iff.1 h
      cases h
      exact one _ _ _ _ (Or.inr hr)
    · cases h
  · cases h

theorem appendOp_shape {e : Ty} {d s : AV} (h : appendOp e hp id d s (fun v us => some (v, us)) = some (v, us)) : Shape hp id us (id + 1) := by
  unfold appendOp at h
  split at h
  · cases h
  · split at h
    · obtain ⟨_, h⟩ := fin_bif' h
      cases h
      exact Shape.one (us0 := []) frz_nil (fun _ _ _ q => by cases q) (Nat.le_succ _)
    · split at h
      · split at h
        · obtain ⟨_, h⟩ := fin_bif' h
          cases h
          refine ⟨Nat.le_succ _, [], [_, _], rfl, frz_nil, fun r y hy p e l q => ?_⟩
          simp only [List.mem_cons, Prod.mk.injEq, List.not_mem_nil, or_false] at hy
          subst q
          rcases hy with hy | hy
          · cases hy.2
          · cases hy.2
        · cases h
      · cases h
    · cases h

theorem noFro_append {us vs : Ups} (h : noFro us) (h' : noFro vs) : noFro (us ++ vs) := fun r x hm => by
  rcases List.mem_append.1 hm with q | q
  · exact h r x q
  · exact h' r x q
theorem noFro_cons {us : Ups} {r : Nat} {x : Row} (hx : ∀ p e l, x ≠ .fro p e l) (h : noFro us) : noFro ((r, x) :: us) := fun r' y hm => by
  rcases List.mem_cons.1 hm with q | q
  · cases q; exact hx
  · exact h r' y q
theorem noFro_kills {l : List Nat} : noFro (kills l) := fun r x hm p e l' q => by
  simp only [kills, List.mem_map, Prod.mk.injEq] at hm
  obtain ⟨_, _, _, rfl⟩ := hm
  cases q
theorem noFro_lent {p : Bool} : ∀ {t : Ty} {x : t.den} {cs : List AV}, noFro (lent p t x cs)
  | .slice e, l, cs => by
    simp only [lent]
    unfold lent1
    split
    · exact noFro_cons (fun _ _ _ q => by cases q) noFro_nil
    · exact noFro_nil
  | .pair a b, x, cs => noFro_append noFro_lent noFro_lent
  | .bool, _, _ => noFro_nil
  | .int _, _, _ => noFro_nil
  | .str, _, _ => noFro_nil
  | .unit, _, _ => noFro_nil
  | .opq, _, _ => noFro_nil
theorem noFro_backs {al : Bool} : ∀ {A : List Pm} {as : List AV} {y : (tup (outT A)).den} {id : Nat}, noFro (backs hp al A as y id)
  | [], _, _, _ => noFro_nil
  | .val _ :: A, as, y, id => noFro_backs (A := A)
  | .io o t :: A, as, y, id => by
    cases o with
    | true => exact noFro_append noFro_kills (noFro_cons (fun _ _ _ q => by cases q) (noFro_append noFro_rowsO (noFro_backs (A := A))))
    | false => exact noFro_cons (fun _ _ _ q => by cases q) (noFro_backs (A := A))
  | .lend t :: A, as, y, id => noFro_append noFro_lent (noFro_backs (A := A))
  | .give _ :: A, as, y, id => noFro_append noFro_kills (noFro_backs (A := A))
  | .fn _ _ :: A, as, y, id => noFro_backs (A := A)
theorem callC_shape {c : Cn} {as : List AV} (h : callC c hp id as (fun v us nx => some (v, us, nx)) = some (v, us, nx)) : Shape hp id us nx := by
  unfold callC at h
  split at h
  · cases h
  · split at h
    · cases h
    · obtain ⟨_, h⟩ := fin_bif' h
      split at h
      · cases h
      · simp only [Option.some.injEq, Prod.mk.injEq] at h
        obtain ⟨_, h2, h3⟩ := h
        refine ⟨?_, _, _, h2.symm, ?_, noFro_append noFro_backs ?_⟩
        · rw [← h3]
          cases c.fresh <;> simp <;> omega
        · cases c.al with
          | true => exact frz_freeze _ _
          | false => exact frz_nil
        · unfold outRows
          cases c.fresh with
          | true => exact noFro_rowsO
          | false => exact noFro_nil

theorem oper_shape {o : Oper} (hs : oper tb ct o tm hp id (fun v us nx => some (v, us, nx)) = some (v, us, nx)) : Shape hp id us nx := by
  unfold oper at hs
  split at hs
  all_goals (try (repeat' split at hs))
  all_goals first
    | (cases hs; exact Shape.nil)
    | (cases hs; done)
    | (rw [ld_bind] at hs; obtain ⟨_, _, hs⟩ := Option.bind_eq_some_iff.1 hs; cases hs; exact Shape.nil)
    | (rw [binop_bind] at hs; obtain ⟨_, _, hs⟩ := Option.bind_eq_some_iff.1 hs; cases hs; exact Shape.nil)
    | (rw [unop_bind] at hs; obtain ⟨_, _, hs⟩ := Option.bind_eq_some_iff.1 hs; cases hs; exact Shape.nil)
    | (rw [addOff_bind] at hs; obtain ⟨_, _, hs⟩ := Option.bind_eq_some_iff.1 hs; cases hs; exact Shape.nil)
    | (rw [indexAddr_bind] at hs; obtain ⟨_, _, hs⟩ := Option.bind_eq_some_iff.1 hs; cases hs; exact Shape.nil)
    | (rw [lenOf_bind] at hs; obtain ⟨_, _, hs⟩ := Option.bind_eq_some_iff.1 hs; cases hs; exact Shape.nil)
    | (rw [storeTo_bind] at hs; obtain ⟨_, h, hs⟩ := Option.bind_eq_some_iff.1 hs; cases hs; exact storeTo_shape h)
    | (rw [sliceOp_bind] at hs; obtain ⟨_, h, hs⟩ := Option.bind_eq_some_iff.1 hs; cases hs; exact sliceOp_shape h)
    | exact callC_shape hs
    | (simp only [cond_eq_ite] at hs; split at hs <;> (cases hs; exact Shape.nil))
    | (simp only [cond_eq_ite] at hs; split at hs <;> first | (cases hs; done) | (rw [appendOp_bind] at hs; obtain ⟨_, h, hs⟩ := Option.bind_eq_some_iff.1 hs; cases hs; exact appendOp_shape h))
    | (obtain ⟨_, hs⟩ := fin_bif' hs; cases hs; exact Shape.one (us0 := []) frz_nil (fun _ _ _ q => by cases q) (Nat.le_succ _))
    | (obtain ⟨_, hs⟩ := fin_bif' hs; cases hs; exact Shape.one (frz_freeze _ _) (fun _ _ _ q => by cases q) (Nat.le_succ _))
    | (obtain ⟨_, hs⟩ := fin_bif' hs; cases hs; exact Shape.nil)
    | (obtain ⟨_, hs⟩ := fin_bif' hs; obtain ⟨_, hs⟩ := fin_bif' hs; cases hs; exact Shape.nil)
    | (obtain ⟨_, hs⟩ := fin_bif' hs; obtain ⟨_, hs⟩ := fin_bif' hs; obtain ⟨_, hs⟩ := fin_bif' hs; cases hs; exact Shape.one (us0 := []) frz_nil (fun _ _ _ q => by cases q) (Nat.le_succ _))
    | (cases hs; exact Shape.one (us0 := []) frz_nil (fun _ _ _ q => by cases q) (Nat.le_succ _))
end
end Go.V

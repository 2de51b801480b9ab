/- V: the arguments of a law's row. -/
import Derived.Test.YtgcahahklmfleaaDoorVSound32
import Derived.ChangeShapes
set_option linter.unusedVariables false
set_option linter.unusedSimpArgs false
namespace Go.V
open Go.RowKit

section
variable {H : Type} {enc : TypeId × Value → H} {P : Program} {w : World} {base : Nat} {spare : Nat → Bool} {held : Bool} {tb : Tab}

theorem okWide_val (hP : tabCheck P tb = true) {t : Nat} {u : Ty} {r : Reach} {b0 : Nat} {v : Value} (hl : look tb.ty t = some u) (hp : plain u = true) (h : Value.okWide P w r b0 t v) : v = valOf u v.cells.toList := by
  obtain ⟨i, d, z, ht⟩ := tyFact hP hl
  have hu := ht.under
  have hk := ht.kind
  cases u with
  | bool =>
    cases d <;> simp [kindCheck] at hk
    obtain ⟨b, rfl⟩ := WideShapes.okWide_bool hu h
    rfl
  | int k =>
    cases d <;> simp [kindCheck] at hk
    obtain ⟨b, rfl⟩ := WideShapes.okWide_int hu h
    rfl
  | str =>
    cases d <;> simp [kindCheck] at hk
    obtain ⟨b, rfl⟩ := WideShapes.okWide_string hu h
    rfl
  | slice e =>
    obtain ⟨te, hu2, _⟩ := ht.slice hP
    obtain ⟨a, len, cap, rfl⟩ := WideShapes.okWide_slice hu2 h
    rfl
  | pair a b =>
    unfold Value.okWide at h
    cases d <;> simp [kindCheck] at hk <;> rw [hu] at h <;> obtain ⟨cs, rfl, _⟩ := h <;> rfl
  | unit =>
    unfold Value.okWide at h
    cases d <;> simp [kindCheck] at hk
    rw [hu] at h
    obtain ⟨cs, rfl, _⟩ := h
    rfl
  | opq => cases hp

/-- The values that come in. -/
def ArgsRep (w : World) (X : Nat → Prop) (ts : List Ty) (x : (tup ts).den) (as : List Value) : Prop := ∃ cs, Rd w X (tup ts) x cs ∧ as = valsRep ts cs
def isVal : Pm → Bool
  | .val _ => true
  | _ => false
theorem ArgsRep.argR {X : Nat → Prop} : ∀ {A : List Pm} {x : (tup (ins A)).den} {as : List Value}, A.all isVal = true → ArgsRep w X (ins A) x as → ArgR w X A x as []
  | [], x, as, _, ⟨cs, h1, h2⟩ => ⟨h2, rfl⟩
  | p :: A, x, as, hv, h => by
    simp only [List.all_cons, Bool.and_eq_true] at hv
    cases p with
    | val t =>
      obtain ⟨cs, ⟨c, d, e, h1, h2⟩, h3⟩ := h
      subst e
      have hl := h1.len
      refine ⟨c, valsRep (ins A) d, ?_, h1, ArgsRep.argR hv.2 ⟨d, h2, rfl⟩⟩
      rw [h3]
      show valOf t ((c ++ d).take t.size) :: valsRep (ins A) ((c ++ d).drop t.size) = _
      rw [List.take_left' hl, List.drop_left' hl]
    | _ => simp [isVal] at hv

theorem open_args (hP : tabCheck P tb = true) (hR : rowsCheck tb = true) {r : Reach} {b0 : Nat} : ∀ {ts : List TypeId} {us : List Ty} {vs : List Value} {ds : List (DataW H)} {p : List MemPlace}, ts.map (look tb.ty) = us.map some → us.all plain = true →
    DataW.TrodAll enc P w base spare held ts vs ds p → (DataW.weightsEach P ts ds).all (· ≤ reachBytes) = true → (∀ (j : Nat) t v, ts[j]? = some t → vs[j]? = some v → Value.okWide P w r b0 t v) →
    ∃ x : (tup us).den, ArgsRep w (fun b => b < w.heap.size) us x vs ∧ Wf (tup us) x
  | [], [], vs, ds, p, hl, hp, h, hw, hv => by
    cases vs <;> cases ds <;> simp [DataW.TrodAll] at h
    exact ⟨(), ⟨[], rfl, rfl⟩, trivial⟩
  | [], _ :: _, vs, ds, p, hl, hp, h, hw, hv => by cases hl
  | _ :: _, [], vs, ds, p, hl, hp, h, hw, hv => by cases hl
  | t :: ts, u :: us, vs, ds, p, hl, hp, h, hw, hv => by
    obtain ⟨v, vs', d, ds', p1, q1, rfl, rfl, rfl, h1, h2⟩ := ChangeShapes.trodAll_cons h
    simp only [List.map_cons, List.cons.injEq] at hl
    simp only [List.all_cons, Bool.and_eq_true] at hp
    simp only [DataW.weightsEach, List.all_append, Bool.and_eq_true] at hw
    obtain ⟨fuel, hf⟩ := h1
    obtain ⟨x, r1, r2⟩ := open_rd hP hR fuel t u _ d p1 hl.1 hp.1 hf hw.1
    obtain ⟨y, ⟨cs, r3, r5⟩, r4⟩ := open_args hP hR hl.2 hp.2 h2 hw.2 fun j t v h1 h2 => hv (j + 1) t v (by simpa using h1) (by simpa using h2)
    have hval := okWide_val hP hl.1 hp.1 (hv 0 t v rfl rfl)
    have hlen := r1.len
    refine ⟨(x, y), ⟨v.cells.toList ++ cs, ⟨_, _, rfl, r1, r3⟩, ?_⟩, r2, r4⟩
    show v :: vs' = valOf u ((v.cells.toList ++ cs).take u.size) :: valsRep us ((v.cells.toList ++ cs).drop u.size)
    rw [List.take_left' hlen, List.drop_left' hlen, ← hval, ← r5]
end
end Go.V

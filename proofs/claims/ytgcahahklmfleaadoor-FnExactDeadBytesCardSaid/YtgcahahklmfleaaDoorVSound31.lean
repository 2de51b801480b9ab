/- V: structs that are compared cell by cell. -/
import Derived.Test.YtgcahahklmfleaaDoorVSound13
import Derived.Laws.StructEq
set_option linter.unusedVariables false
set_option linter.unusedSimpArgs false
namespace Go.V
open Go.RowKit

def leafTy : Option TypeDesc → Ty → Bool
  | some .bool, .bool => true
  | some (.int k), .int k' => decide (k = k')
  | some .string, .str => true
  | _, _ => false
def leafOk (P : Program) : Nat → List Field → List Ty → Bool
  | _, [], [] => true
  | n, f :: fs, t :: ts => f.name != "_" && decide (f.offset = n) && leafTy (P.underlying f.type) t && leafOk P (n + 1) fs ts
  | _, _, _ => false
def eqCheck (P : Program) (t : Nat) (tys : List Ty) : Bool :=
  match P.underlying t with
  | some (.struct fs) => !(P.stoodInHeld t) && !(P.eqGuardType P.depth t) && leafOk P 0 fs.toList tys
  | _ => false
def eqsCheck (P : Program) (tb : Tab) : Bool := tb.eqs.all fun p => eqCheck P p.1 p.2

section
variable {P : Program} {w : World} {N : Nat → Prop} {φ : Nat → Blk} {X : Bool → Nat → Prop}

theorem leaf_part {t : TypeId} {ty : Ty} (h : leafTy (P.underlying t) ty = true) {xs : Array Value} {off : Nat} {u : Value} (hu : xs[off]? = some u) : (part t xs off).run P w = .ok u w := by
  cases hd : P.underlying t with
  | none => rw [hd] at h; cases h
  | some d =>
    rw [hd] at h
    have : (isAgg t).run P w = .ok false w := by
      unfold isAgg
      rw [Sem.run_bind, run_underlying hd w, Result.andThen_ok]
      cases d <;> cases ty <;> first | rfl | cases h
    unfold part
    rw [Sem.run_bind, this, Result.andThen_ok]
    simp [hu]

theorem leaf_eq {t : TypeId} {ty : Ty} (h : leafTy (P.underlying t) ty = true) {x y : AV} {u v : Value} {c : Bool} (hc : eqCell ty x y = some c) (hx : RepV w X N φ x u) (hy : RepV w X N φ y v) (d : Nat) :
    (Op.equalIn (d + 1) t u v).run P w = .ok c w := by
  cases hd : P.underlying t with
  | none => rw [hd] at h; cases h
  | some de =>
    rw [hd] at h
    unfold eqCell at hc
    split at hc
    · cases hx; cases hy; cases hc
      cases de <;> first | (cases h; done) | exact run_equalIn_bool' w d t _ _ hd
    · rename_i k k1 a k2 b
      split at hc
      · split at hc
        · rename_i h1 h2
          subst h1
          subst h2
          cases hx; cases hy; cases hc
          cases de <;> first | (cases h; done) | exact run_equalIn_int w d t _ _ _ _ hd
        · cases hc
      · cases hc
    · cases hx; cases hy; cases hc
      cases de <;> first | (cases h; done) | exact run_equalIn_string w d t _ _ hd
    · cases hc

theorem fields_eq {d : Nat} {xs ys : Array Value} : ∀ (fs : List Field) (tys : List Ty) (n : Nat) (cs ds : List AV) (vs us : List Value) (c : Bool), leafOk P n fs tys = true → eqCells tys cs ds = some c → RepL w X N φ cs vs → RepL w X N φ ds us →
    (∀ j u, vs[j]? = some u → xs[n + j]? = some u) → (∀ j u, us[j]? = some u → ys[n + j]? = some u) → (Op.eqFields (d + 1) xs ys fs).run P w = .ok c w
  | [], [], n, cs, ds, vs, us, c, hl, hc, hr, hr', hv, hu => by
    cases cs <;> cases ds <;> simp [eqCells] at hc
    subst hc
    simp [Op.eqFields]
  | [], _ :: _, _, _, _, _, _, _, hl, _, _, _, _, _ => by cases hl
  | _ :: _, [], _, _, _, _, _, _, hl, _, _, _, _, _ => by cases hl
  | f :: fs, t :: ts, n, cs, ds, vs, us, c, hl, hc, hr, hr', hv, hu => by
    simp only [leafOk, Bool.and_eq_true, decide_eq_true_eq] at hl
    obtain ⟨⟨⟨l1, l2⟩, l3⟩, l4⟩ := hl
    have key : ∀ (x y : AV) (cs' ds' : List AV) (c1 c2 : Bool), cs = x :: cs' → ds = y :: ds' → eqCell t x y = some c1 → eqCells ts cs' ds' = some c2 → (Op.eqFields (d + 1) xs ys (f :: fs)).run P w = .ok (c1 && c2) w := by
      intro x y cs' ds' c1 c2 e1 e2 h1 h2
      subst e1
      subst e2
      unfold RepL at hr hr'
      obtain ⟨u, vs', rfl, _, r1, r2⟩ := hr
      obtain ⟨v, us', rfl, _, r1', r2'⟩ := hr'
      have ih := fields_eq (d := d) fs ts (n + 1) cs' ds' vs' us' c2 l4 h2 r2 r2' (fun j u hj => by have := hv (j + 1) u (by simpa using hj); rw [show n + 1 + j = n + (j + 1) by omega]; exact this)
        (fun j u hj => by have := hu (j + 1) u (by simpa using hj); rw [show n + 1 + j = n + (j + 1) by omega]; exact this)
      have p1 := leaf_part (P := P) (w := w) l3 (xs := xs) (off := f.offset) (u := u) (by rw [l2]; exact hv 0 u (by simp))
      have p2 := leaf_part (P := P) (w := w) l3 (xs := ys) (off := f.offset) (u := v) (by rw [l2]; exact hu 0 v (by simp))
      have p3 := leaf_eq l3 h1 r1 r1' d
      have hn : f.name ≠ "_" := by simpa using l1
      simp only [Op.eqFields, if_pos hn, Sem.run_bind, p1, p2, p3, Result.andThen_ok]
      cases c1
      · simp
      · simpa using ih
    cases cs with
    | nil => cases ts <;> simp [eqCells] at hc
    | cons x cs' =>
      cases ds with
      | nil => cases ts <;> cases cs' <;> simp [eqCells] at hc
      | cons y ds' =>
        by_cases hone : ts = [] ∧ cs' = [] ∧ ds' = []
        · obtain ⟨rfl, rfl, rfl⟩ := hone
          simp only [eqCells] at hc
          have := key x y [] [] c true rfl rfl hc rfl
          simpa using this
        · have e : eqCells (t :: ts) (x :: cs') (y :: ds') = (match eqCell t x y, eqCells ts cs' ds' with
            | some c, some d => some (c && d)
            | _, _ => none) := by
            cases ts <;> cases cs' <;> cases ds' <;> first | rfl | exact absurd ⟨rfl, rfl, rfl⟩ hone
          rw [e] at hc
          split at hc
          · rename_i c1 c2 h1 h2
            cases hc
            exact key x y cs' ds' c1 c2 rfl rfl h1 h2
          · cases hc

theorem eqOk_of {tb : Tab} (h : eqsCheck P tb = true) : EqOk P tb := by
  intro t tys ht w X N φ cs ds vs us c x y hr hr' hc
  have h1 := (List.all_eq_true.1 h) _ (look_mem ht)
  unfold eqCheck at h1
  split at h1
  · rename_i fs hfs
    simp only [Bool.and_eq_true, Bool.not_eq_true'] at h1
    obtain ⟨⟨h1, h2⟩, h3⟩ := h1
    have hf : P.fieldsOf t = fs := by simp [Program.fieldsOf, hfs]
    have e1 := run_eqGuard_agg (P := P) w .eql t x y vs.toArray us.toArray h2
    have e2 := run_eqGuard_agg (P := P) w .neq t x y vs.toArray us.toArray h2
    have e3 : (Op.equalIn 10000 t (.agg vs.toArray) (.agg us.toArray)).run P w = .ok c w := by
      rw [run_equalIn_struct (P := P) w 9999 t _ _ (by rw [hf]; exact hfs) h1, hf]
      exact fields_eq (d := 9998) fs.toList tys 0 cs ds vs us c h3 hc hr hr' (fun j u hj => by simpa using hj) (fun j u hj => by simpa using hj)
    exact ⟨by rw [Sem.run_bind, e1, Result.andThen_ok, run_eql_struct, e3, Result.andThen_ok], by rw [Sem.run_bind, e2, Result.andThen_ok, run_neq_struct, e3, Result.andThen_ok]⟩
  · cases h1
end
end Go.V

/- V: values out of cells, cuts, lengths. -/
import Derived.Test.YtgcahahklmfleaaDoorVSound6
set_option linter.unusedVariables false
set_option linter.unusedSimpArgs false
namespace Go.V
open Go.RowKit

section
variable {P : Program} {tb : Tab} {w0 : Bs} {w : World} {N : Nat → Prop} {φ : Nat → Blk} {tm : List AV} {hp : Hp} {a : Act}

theorem own_read {X Y : _} {B : Nat → Prop} {r : Nat} {p : Bool} {e : Ty} {l : List e.den} (hr : OwnOk w X N φ B r p e l) (hY : ∀ b, (φ r).v.ownBlock = some b → Y b) (hX : ∀ b, X p b → Y b) :
    Rd w Y (.slice e) l [(φ r).v] := by
  obtain ⟨_, hs, hn, hb, te, xs, ho, hl⟩ := hr
  obtain ⟨ad, c, hsl, hc, hg⟩ := own_slice ho
  refine ⟨ad, l.length, c, xs, by rw [hsl], rfl, hc, hl.mono hX (fun _ _ => rfl), fun hne => ?_⟩
  obtain ⟨g, rfl, hg2⟩ := hg (by cases l; exact absurd rfl hne; simp)
  refine ⟨g, 0, rfl, hY g hg2, fun j u hj => ?_⟩
  have := ho.row.cells hg2 j u hj
  rwa [addr_add] at this

/-- What rows a cell may be read by. -/
def Reads (w0 : Bs) (w : World) (φ : Nat → Blk) (hp : Hp) (Y : Nat → Prop) (c : AV) : Prop :=
  (∀ p b, (p = true → taint1 hp c = true) → XX w0 w φ hp p b → Y b) ∧
  (∀ r p e l b, c = .ref r → (hp r = .own p e l ∨ hp r = .fro p e l) → (φ r).v.ownBlock = some b → Y b)

theorem getSl_ok (h : Ok w0 N φ tm hp a w) {Y : Nat → Prop} {c : AV} {v : Value} {e : Ty} {l : List e.den} (hY : Reads w0 w φ hp Y c) (hg : getSl hp e c = some l)
    (hv : RepV w (XX w0 w φ hp) N φ c v) : Rd w Y (.slice e) l [v] := by
  unfold getSl at hg
  split at hg
  · cases hg
    cases hv
    exact ⟨none, 0, 0, [], rfl, rfl, Nat.le_refl _, rfl, fun h => absurd rfl h⟩
  · rename_i p t l'
    obtain ⟨he, rfl⟩ := castL_eq hg
    subst he
    exact Rd.mono (fun b hb => hY.1 p b (fun q => q) hb) (fun _ _ => rfl) hv
  · rename_i r
    have hr := h.rows r
    obtain ⟨hN, rfl, _⟩ := hv
    split at hg
    · rename_i p t l' hrow
      rw [hrow] at hr
      obtain ⟨he, rfl⟩ := castL_eq hg
      subst he
      exact own_read hr (fun b hb => hY.2 r p t l' b rfl (Or.inl hrow) hb) (fun b hb => hY.1 p b (fun q => by simp [taint1, hrow, q]) hb)
    · rename_i p t l' hrow
      rw [hrow] at hr
      obtain ⟨he, rfl⟩ := castL_eq hg
      subst he
      exact own_read hr.1 (fun b hb => hY.2 r p t l' b rfl (Or.inr hrow) hb) (fun b hb => hY.1 p b (fun q => by simp [taint1, hrow, q]) hb)
    · cases hg
  · cases hg

theorem both_some {α β : Type} {x : Option α} {y : Option β} {z : α × β} (h : both x y = some z) : x = some z.1 ∧ y = some z.2 := by
  cases x <;> cases y <;> simp [both] at h
  subst h
  exact ⟨rfl, rfl⟩

theorem repL_one {X : Bool → Nat → Prop} {c : AV} {vs : List Value} (h : RepL w X N φ [c] vs) : ∃ v, vs = [v] ∧ v.oneCell' = true ∧ RepV w X N φ c v := by
  unfold RepL at h
  obtain ⟨u, us, e, h1, h2, h3⟩ := h
  unfold RepL at h3
  subst h3
  exact ⟨u, e, h1, h2⟩

theorem prj_ok (h : Ok w0 N φ tm hp a w) {Y : Nat → Prop} : ∀ (t : Ty) {cs : List AV} {vs : List Value} {x : t.den}, (∀ c ∈ cs, Reads w0 w φ hp Y c) → prj hp t cs = some x →
    RepL w (XX w0 w φ hp) N φ cs vs → Rd w Y t x vs
  | .bool, cs, vs, x, hY, hx, hr => by
    simp only [prj] at hx
    unfold getBool at hx
    split at hx
    · cases hx
      obtain ⟨v, rfl, _, hv⟩ := repL_one hr
      cases hv; rfl
    · cases hx
  | .int k, cs, vs, x, hY, hx, hr => by
    simp only [prj] at hx
    unfold getInt at hx
    split at hx
    · split at hx
      · rename_i k' n hk
        subst hk
        cases hx
        obtain ⟨v, rfl, _, hv⟩ := repL_one hr
        cases hv; rfl
      · cases hx
    · cases hx
  | .str, cs, vs, x, hY, hx, hr => by
    simp only [prj] at hx
    unfold getStr at hx
    split at hx
    · cases hx
      obtain ⟨v, rfl, _, hv⟩ := repL_one hr
      cases hv; rfl
    · cases hx
  | .slice e, cs, vs, x, hY, hx, hr => by
    simp only [prj] at hx
    unfold getOne at hx
    split at hx
    · obtain ⟨v, rfl, _, hv⟩ := repL_one hr
      exact getSl_ok h (hY _ (List.mem_cons_self ..)) hx hv
    · cases hx
  | .pair a b, cs, vs, x, hY, hx, hr => by
    simp only [prj] at hx
    obtain ⟨h1, h2⟩ := both_some hx
    exact ⟨vs.take a.size, vs.drop a.size, (List.take_append_drop ..).symm,
      prj_ok h a (fun c hc => hY c (List.mem_of_mem_take hc)) h1 (hr.take a.size),
      prj_ok h b (fun c hc => hY c (List.mem_of_mem_drop hc)) h2 (hr.drop a.size)⟩
  | .unit, cs, vs, x, hY, hx, hr => by
    simp only [prj] at hx
    unfold getUnit at hx
    split at hx
    · unfold RepL at hr; exact hr
    · cases hx
  | .opq, cs, vs, x, hY, hx, hr => by cases hx

/-- A value and its cells. -/
theorem cells_rep {X : Bool → Nat → Prop} {v : AV} {u : Value} (h : RepV w X N φ v u) (hn : told v = true) : RepL w X N φ (cellsOf v) u.cells.toList := by
  cases v with
  | agg cs =>
    obtain ⟨vs, rfl, h⟩ := h
    exact h
  | tup vs => cases hn
  | junk => cases hn
  | bool b => cases h; exact ⟨_, _, rfl, rfl, rfl, rfl⟩
  | int k n => cases h; exact ⟨_, _, rfl, rfl, rfl, rfl⟩
  | str s => cases h; exact ⟨_, _, rfl, rfl, rfl, rfl⟩
  | nil e => cases h; exact ⟨_, _, rfl, rfl, rfl, rfl⟩
  | sl p e l =>
    obtain ⟨ad, n, c, xs, hc, hr⟩ := h
    cases hc
    exact ⟨_, _, rfl, rfl, ⟨ad, n, c, xs, rfl, hr⟩, rfl⟩
  | ref r => obtain ⟨h1, h2, ad, n, c, rfl⟩ := h; exact ⟨_, _, rfl, rfl, ⟨h1, h2, ad, n, c, rfl⟩, rfl⟩
  | ptr r i off => obtain ⟨h1, h2, rfl⟩ := h; exact ⟨_, _, rfl, rfl, ⟨h1, h2, rfl⟩, rfl⟩
  | sptr p e l i off => obtain ⟨h1, b, o, xs, rfl, h3⟩ := h; exact ⟨_, _, rfl, rfl, ⟨h1, b, o, xs, rfl, h3⟩, rfl⟩
  | fn f cs => obtain ⟨vs, rfl, h⟩ := h; exact ⟨_, _, rfl, rfl, ⟨vs, rfl, h⟩, rfl⟩
end
end Go.V

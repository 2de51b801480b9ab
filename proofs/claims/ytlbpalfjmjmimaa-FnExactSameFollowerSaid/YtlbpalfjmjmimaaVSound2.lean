/- V: parts of values, values out of cells; the relation between V's state and the model's. -/
import Derived.Test.YtlbpalfjmjmimaaVSound1
set_option linter.unusedVariables false
set_option linter.unusedSimpArgs false
namespace Go.V
open Go.RowKit

theorem castL_eq {t e : Ty} {l : List t.den} {l' : List e.den} (h : castL t e l = some l') : ∃ he : t = e, l' = he ▸ l := by
  unfold castL at h
  split at h
  · rename_i he; exact ⟨he, (Option.some.inj h).symm⟩
  · cases h
theorem castT_eq {t e : Ty} {x : t.den} {y : e.den} (h : castT t e x = some y) : ∃ he : t = e, y = he ▸ x := by
  unfold castT at h
  split at h
  · rename_i he; exact ⟨he, (Option.some.inj h).symm⟩
  · cases h

section
variable {w : World} {X : Nat → Prop}

theorem getAt_leaf {u t : Ty} {x : t.den} {off : Nat} {y : u.den} {ds : List Value} (h : (bif Nat.beq off 0 then castT t u x else none) = some y) (hr : Rd w X t x ds) :
    Rd w X u y ((ds.drop off).take u.size) ∧ off + u.size ≤ t.size := by
  cases hb : Nat.beq off 0 with
  | false => rw [hb] at h; cases h
  | true =>
    rw [hb] at h
    have h0 : off = 0 := Nat.eq_of_beq_eq_true hb
    subst h0
    obtain ⟨he, hy⟩ := castT_eq h
    subst he
    subst hy
    have := hr.len
    rw [List.drop_zero, ← this, List.take_length]
    exact ⟨hr, by omega⟩

theorem getAt_ok {u : Ty} : ∀ (t : Ty) {x : t.den} {off : Nat} {y : u.den} {ds : List Value}, getAt u t x off = some y → Rd w X t x ds →
    Rd w X u y ((ds.drop off).take u.size) ∧ off + u.size ≤ t.size
  | .bool, _, _, _, _, h, hr => getAt_leaf h hr
  | .int _, _, _, _, _, h, hr => getAt_leaf h hr
  | .str, _, _, _, _, h, hr => getAt_leaf h hr
  | .slice _, _, _, _, _, h, hr => getAt_leaf h hr
  | .unit, _, _, _, _, h, hr => getAt_leaf h hr
  | .opq, _, _, _, _, _, hr => hr.elim
  | .pair a b, x, off, y, ds, h, hr => by
    simp only [getAt] at h
    split at h
    · rename_i he
      subst he
      cases hb : Nat.beq off 0 with
      | false => rw [hb] at h; cases h
      | true =>
        rw [hb] at h
        have h0 : off = 0 := Nat.eq_of_beq_eq_true hb
        subst h0
        obtain rfl := Option.some.inj h
        have := hr.len
        rw [List.drop_zero, ← this, List.take_length]
        exact ⟨hr, by omega⟩
    · obtain ⟨c, d, e, h1, h2⟩ := hr
      subst e
      have l1 := h1.len
      have l2 := h2.len
      cases hb : Nat.blt off a.size with
      | true =>
        rw [hb] at h
        obtain ⟨g1, g2⟩ := getAt_ok a h h1
        refine ⟨?_, by simp only [Ty.size]; omega⟩
        rw [List.drop_append_of_le_length (by omega), List.take_append_of_le_length (by rw [List.length_drop]; omega)]
        exact g1
      | false =>
        rw [hb] at h
        have hge : a.size ≤ off := by
          rcases Nat.lt_or_ge off a.size with q | q
          · have : Nat.blt off a.size = true := by simp [Nat.blt, Nat.ble_eq]; omega
            rw [this] at hb; cases hb
          · exact q
        obtain ⟨g1, g2⟩ := getAt_ok b h h2
        refine ⟨?_, by simp only [Ty.size]; omega⟩
        rw [List.drop_append, List.drop_eq_nil_of_le (by omega), List.nil_append, l1]
        exact g1

theorem setAt_leaf {u t : Ty} {y : u.den} {off : Nat} {z : t.den} {ds cs : List Value} (h : (bif Nat.beq off 0 then castT u t y else none) = some z) (hd : ds.length = t.size) (hr : Rd w X u y cs) :
    Rd w X t z (ds.take off ++ cs ++ ds.drop (off + u.size)) ∧ off + u.size ≤ t.size := by
  cases hb : Nat.beq off 0 with
  | false => rw [hb] at h; cases h
  | true =>
    rw [hb] at h
    have h0 : off = 0 := Nat.eq_of_beq_eq_true hb
    subst h0
    obtain ⟨he, hy⟩ := castT_eq h
    subst he
    subst hy
    rw [List.drop_eq_nil_of_le (by omega)]
    simpa using hr

theorem setAt_ok {u : Ty} {y : u.den} {cs : List Value} (hy : Rd w X u y cs) : ∀ (t : Ty) {x : t.den} {off : Nat} {z : t.den} {ds : List Value}, setAt u y t x off = some z → Rd w X t x ds →
    Rd w X t z (ds.take off ++ cs ++ ds.drop (off + u.size)) ∧ off + u.size ≤ t.size
  | .bool, _, _, _, _, h, hr => setAt_leaf h hr.len hy
  | .int _, _, _, _, _, h, hr => setAt_leaf h hr.len hy
  | .str, _, _, _, _, h, hr => setAt_leaf h hr.len hy
  | .slice _, _, _, _, _, h, hr => setAt_leaf h hr.len hy
  | .unit, _, _, _, _, h, hr => setAt_leaf h hr.len hy
  | .opq, _, _, _, _, _, hr => hr.elim
  | .pair a b, x, off, z, ds, h, hr => by
    simp only [setAt] at h
    have hlen := hr.len
    split at h
    · rename_i he
      subst he
      cases hb : Nat.beq off 0 with
      | false => rw [hb] at h; cases h
      | true =>
        rw [hb] at h
        have h0 : off = 0 := Nat.eq_of_beq_eq_true hb
        subst h0
        obtain rfl := Option.some.inj h
        rw [List.drop_eq_nil_of_le (by omega)]
        simpa using hy
    · obtain ⟨c, d, e, h1, h2⟩ := hr
      subst e
      have l1 := h1.len
      have l2 := h2.len
      have lc := hy.len
      cases hb : Nat.blt off a.size with
      | true =>
        rw [hb] at h
        cases hs : setAt u y a x.1 off with
        | none => rw [hs] at h; cases h
        | some z' =>
          rw [hs] at h
          obtain rfl := Option.some.inj h
          obtain ⟨g1, g2⟩ := setAt_ok hy a hs h1
          refine ⟨⟨c.take off ++ cs ++ c.drop (off + u.size), d, ?_, g1, h2⟩, by simp only [Ty.size]; omega⟩
          rw [List.take_append_of_le_length (by omega), List.drop_append_of_le_length (by omega)]
          simp [List.append_assoc]
      | false =>
        rw [hb] at h
        have hge : a.size ≤ off := by
          rcases Nat.lt_or_ge off a.size with q | q
          · have : Nat.blt off a.size = true := by simp [Nat.blt, Nat.ble_eq]; omega
            rw [this] at hb; cases hb
          · exact q
        cases hs : setAt u y b x.2 (off - a.size) with
        | none => rw [hs] at h; cases h
        | some z' =>
          rw [hs] at h
          obtain rfl := Option.some.inj h
          obtain ⟨g1, g2⟩ := setAt_ok hy b hs h2
          refine ⟨⟨c, d.take (off - a.size) ++ cs ++ d.drop (off - a.size + u.size), ?_, h1, g1⟩, by simp only [Ty.size]; omega⟩
          rw [List.take_append, List.take_of_length_le (by omega), List.drop_append, List.drop_eq_nil_of_le (by omega), l1, List.nil_append,
            show off + u.size - a.size = off - a.size + u.size by omega]
          simp [List.append_assoc]
end

def OwnOk (w : World) (X : Bool → Nat → Prop) (N : Nat → Prop) (φ : Nat → Blk) (B r : Nat) (p : Bool) (e : Ty) (l : List e.den) : Prop :=
  N r ∧ (φ r).sz = e.size ∧ (φ r).n = l.length ∧ (∀ b, (φ r).v.ownBlock = some b → (φ r).b = b) ∧
      ∃ te xs, w.ownsRow B te e.size (φ r).v l.length xs ∧ RdL (Rd w (X p) e) l xs

/-- What the rows of V are in the model's memory. B: where the call's own memory begins. -/
def RowOk (w : World) (X : Bool → Nat → Prop) (N : Nat → Prop) (φ : Nat → Blk) (B r : Nat) : Row → Prop
  | .dead => True
  | .box cs => N r ∧ B ≤ (φ r).b ∧ (φ r).n = 1 ∧ ∃ vs te, w.heap[(φ r).b]? = some (.cells vs te (0, 0)) ∧ RepL w X N φ cs vs.toList
  | .own p e l => OwnOk w X N φ B r p e l
  | .fro p e l => OwnOk w X N φ B r p e l ∧ ∀ b, (φ r).v.ownBlock = some b → X p b

/-- The block that a row may be written in. -/
def blkOf (φ : Nat → Blk) (r : Nat) : Row → Option Nat
  | .box _ => some (φ r).b
  | .own _ _ _ => (φ r).v.ownBlock
  | _ => none

def Wr (φ : Nat → Blk) (hp : Hp) (b : Nat) : Prop := ∃ r, blkOf φ r (hp r) = some b

/-- Blocks that nobody writes: any of them, or those of the call's own. -/
def Xs (w : World) (φ : Nat → Blk) (hp : Hp) (B : Nat) (p : Bool) (b : Nat) : Prop := b < w.heap.size ∧ ¬ Wr φ hp b ∧ (p = false → B ≤ b)

structure Ok (w0 : World) (N : Nat → Prop) (φ : Nat → Blk) (tm : List AV) (hp : Hp) (a : Act) (w : World) : Prop where
  below : Below w0.heap.size w0 w
  defers : a.defers = []
  size : a.tmps.size = tm.length
  tms : ∀ i : Nat, RepV w (Xs w φ hp w0.heap.size) N φ (tm.getD i .junk) (a.tmps.getD i undef)
  rows : ∀ r, RowOk w (Xs w φ hp w0.heap.size) N φ w0.heap.size r (hp r)
  disj : ∀ r s b, blkOf φ r (hp r) = some b → blkOf φ s (hp s) = some b → r = s

section
variable {w0 w w' : World} {N N' : Nat → Prop} {φ φ' : Nat → Blk} {tm : List AV} {hp hp' : Hp} {a : Act}

theorem Ok.blk_lt (h : Ok w0 N φ tm hp a w) {r b : Nat} (hb : blkOf φ r (hp r) = some b) : w0.heap.size ≤ b ∧ b < w.heap.size := by
  have hr := h.rows r
  cases hrow : hp r with
  | dead => rw [hrow] at hb; cases hb
  | fro p e l => rw [hrow] at hb; cases hb
  | box cs =>
    rw [hrow] at hb hr
    obtain ⟨_, hB, _, vs, te, hh, _⟩ := hr
    cases hb
    exact ⟨hB, (Array.getElem?_eq_some_iff.1 hh).1⟩
  | own p e l =>
    rw [hrow] at hb hr
    obtain ⟨_, _, _, _, te, xs, ho, _⟩ := hr
    exact ho.lt b hb

theorem Xs.mono (hsz : w.heap.size ≤ w'.heap.size) (hW : ∀ b, b < w.heap.size → Wr φ' hp' b → Wr φ hp b) {B : Nat} {p : Bool} {b : Nat} (h : Xs w φ hp B p b) : Xs w' φ' hp' B p b :=
  ⟨Nat.lt_of_lt_of_le h.1 hsz, fun q => h.2.1 (hW b h.1 q), h.2.2⟩

theorem OwnOk.mono {X X' : Bool → Nat → Prop} {B r : Nat} {p : Bool} {e : Ty} {l : List e.den} (hr : OwnOk w X N φ B r p e l) (h : Ok w0 N φ tm hp a w)
    (hN : ∀ r, N r → N' r) (hφ : ∀ r, N r → φ' r = φ r) (hX : ∀ p b, X p b → X' p b) (hw : ∀ p b, X p b → w'.heap[b]? = w.heap[b]?)
    (hb : ∀ b, (φ r).v.ownBlock = some b → w'.heap[b]? = w.heap[b]?) : OwnOk w' X' N' φ' B r p e l := by
  obtain ⟨h1, h2, h3, h4, te, xs, h5, h6⟩ := hr
  have hq := hφ r h1
  refine ⟨hN r h1, by rw [hq]; exact h2, by rw [hq]; exact h3, by rw [hq]; exact h4, te, xs, ?_, h6.mono (hX p) (hw p)⟩
  rw [hq]
  refine ⟨h5.1, ?_⟩
  rcases h5.2 with q | ⟨g, cap, cur, q1, q2, q3, q4⟩
  · exact Or.inl q
  · refine Or.inr ⟨g, cap, cur, q1, q2, ?_, q4⟩
    rw [hb g (by simp [q1, Value.ownBlock])]
    exact q3

/-- One step of memory: what is not touched lives on. T: the blocks that are written. -/
theorem Ok.step (h : Ok w0 N φ tm hp a w) (T : Nat → Prop)
    (hN : ∀ r, N r → N' r) (hφ : ∀ r, N r → φ' r = φ r) (hb : Below w0.heap.size w0 w') (hsz : w.heap.size ≤ w'.heap.size)
    (hT : ∀ b, b < w.heap.size → ¬ T b → w'.heap[b]? = w.heap[b]?) (hTW : ∀ b, T b → Wr φ hp b)
    (hW : ∀ b, b < w.heap.size → Wr φ' hp' b → Wr φ hp b)
    (hrow : ∀ r, (hp' r = hp r ∧ N r ∧ ∀ b, blkOf φ r (hp r) = some b → ¬ T b) ∨ RowOk w' (Xs w' φ' hp' w0.heap.size) N' φ' w0.heap.size r (hp' r))
    (hdisj : ∀ r s b, blkOf φ' r (hp' r) = some b → blkOf φ' s (hp' s) = some b → r = s) : Ok w0 N' φ' tm hp' a w' := by
  have hX : ∀ p b, Xs w φ hp w0.heap.size p b → Xs w' φ' hp' w0.heap.size p b := fun p b hx => hx.mono hsz hW
  have hw : ∀ p b, Xs w φ hp w0.heap.size p b → w'.heap[b]? = w.heap[b]? := fun p b hx => hT b hx.1 (fun q => hx.2.1 (hTW b q))
  refine ⟨hb, h.defers, h.size, fun i => (h.tms i).mono hX hw hN hφ, fun r => ?_, hdisj⟩
  rcases hrow r with ⟨e, hn, ht⟩ | hr
  · have hr := h.rows r
    rw [e]
    cases hrow : hp r with
    | dead => trivial
    | box cs =>
      have hbl := h.blk_lt (r := r) (b := (φ r).b) (by rw [hrow]; rfl)
      rw [hrow] at hr ht
      obtain ⟨h1, h2, h3, vs, te, h4, h5⟩ := hr
      have hq := hφ r h1
      exact ⟨hN r h1, by rw [hq]; exact h2, by rw [hq]; exact h3, vs, te, by rw [hq, hT _ hbl.2 (ht _ rfl)]; exact h4, h5.mono hX hw hN hφ⟩
    | own p e' l =>
      have hbl := fun b hb => h.blk_lt (r := r) (b := b) hb
      rw [hrow] at hr ht hbl
      exact hr.mono h hN hφ hX hw fun b hb => hT b (hbl b hb).2 (ht b hb)
    | fro p e' l =>
      rw [hrow] at hr
      obtain ⟨hr, hf⟩ := hr
      have hn := hr.1
      refine ⟨hr.mono h hN hφ hX hw fun b hb => hw p b (hf b hb), fun b hb => ?_⟩
      rw [hφ r hn] at hb
      exact hX p b (hf b hb)
  · exact hr
end
end Go.V

/- V: parts of values, values out of cells; the relation between V's state and the model's. -/
import Derived.Test.YtgcahahklmfleaaDoorVSound1
import Derived.Laws.CopyOwn
set_option linter.unusedVariables false
set_option linter.unusedSimpArgs false
namespace Go.V
open Go.RowKit

theorem castL_eq {t e : Ty} {l : List t.den} {l' : List e.den} (h : castL t e l = some l') : ∃ he : t = e, l' = he ▸ l := by
  unfold castL at h
  split at h
  · rename_i he; exact ⟨he, (Option.some.inj h).symm⟩
  · cases h
theorem castT_eq {t e : Ty} {x : t.den} {y : e.den} (h : castT t e x = some y) : ∃ he : t = e, y = he ▸ x := by
  unfold castT at h
  split at h
  · rename_i he; exact ⟨he, (Option.some.inj h).symm⟩
  · cases h

section
variable {w : World} {X : Nat → Prop}

theorem getAt_leaf {u t : Ty} {x : t.den} {off : Nat} {y : u.den} {ds : List Value} (h : (bif Nat.beq off 0 then castT t u x else none) = some y) (hr : Rd w X t x ds) :
    Rd w X u y ((ds.drop off).take u.size) ∧ off + u.size ≤ t.size := by
  cases hb : Nat.beq off 0 with
  | false => rw [hb] at h; cases h
  | true =>
    rw [hb] at h
    have h0 : off = 0 := Nat.eq_of_beq_eq_true hb
    subst h0
    obtain ⟨he, hy⟩ := castT_eq h
    subst he
    subst hy
    have := hr.len
    rw [List.drop_zero, ← this, List.take_length]
    exact ⟨hr, by omega⟩

theorem getAt_ok {u : Ty} : ∀ (t : Ty) {x : t.den} {off : Nat} {y : u.den} {ds : List Value}, getAt u t x off = some y → Rd w X t x ds →
    Rd w X u y ((ds.drop off).take u.size) ∧ off + u.size ≤ t.size
  | .bool, _, _, _, _, h, hr => getAt_leaf h hr
  | .int _, _, _, _, _, h, hr => getAt_leaf h hr
  | .str, _, _, _, _, h, hr => getAt_leaf h hr
  | .slice _, _, _, _, _, h, hr => getAt_leaf h hr
  | .unit, _, _, _, _, h, hr => getAt_leaf h hr
  | .opq, _, _, _, _, _, hr => hr.elim
  | .pair a b, x, off, y, ds, h, hr => by
    simp only [getAt] at h
    split at h
    · rename_i he
      subst he
      cases hb : Nat.beq off 0 with
      | false => rw [hb] at h; cases h
      | true =>
        rw [hb] at h
        have h0 : off = 0 := Nat.eq_of_beq_eq_true hb
        subst h0
        obtain rfl := Option.some.inj h
        have := hr.len
        rw [List.drop_zero, ← this, List.take_length]
        exact ⟨hr, by omega⟩
    · obtain ⟨c, d, e, h1, h2⟩ := hr
      subst e
      have l1 := h1.len
      have l2 := h2.len
      cases hb : Nat.blt off a.size with
      | true =>
        rw [hb] at h
        obtain ⟨g1, g2⟩ := getAt_ok a h h1
        refine ⟨?_, by simp only [Ty.size]; omega⟩
        rw [List.drop_append_of_le_length (by omega), List.take_append_of_le_length (by rw [List.length_drop]; omega)]
        exact g1
      | false =>
        rw [hb] at h
        have hge : a.size ≤ off := by
          rcases Nat.lt_or_ge off a.size with q | q
          · have : Nat.blt off a.size = true := by simp [Nat.blt, Nat.ble_eq]; omega
            rw [this] at hb; cases hb
          · exact q
        obtain ⟨g1, g2⟩ := getAt_ok b h h2
        refine ⟨?_, by simp only [Ty.size]; omega⟩
        rw [List.drop_append, List.drop_eq_nil_of_le (by omega), List.nil_append, l1]
        exact g1

theorem setAt_leaf {u t : Ty} {y : u.den} {off : Nat} {z : t.den} {ds cs : List Value} (h : (bif Nat.beq off 0 then castT u t y else none) = some z) (hd : ds.length = t.size) (hr : Rd w X u y cs) :
    Rd w X t z (ds.take off ++ cs ++ ds.drop (off + u.size)) ∧ off + u.size ≤ t.size := by
  cases hb : Nat.beq off 0 with
  | false => rw [hb] at h; cases h
  | true =>
    rw [hb] at h
    have h0 : off = 0 := Nat.eq_of_beq_eq_true hb
    subst h0
    obtain ⟨he, hy⟩ := castT_eq h
    subst he
    subst hy
    rw [List.drop_eq_nil_of_le (by omega)]
    simpa using hr

theorem setAt_ok {u : Ty} {y : u.den} {cs : List Value} (hy : Rd w X u y cs) : ∀ (t : Ty) {x : t.den} {off : Nat} {z : t.den} {ds : List Value}, setAt u y t x off = some z → Rd w X t x ds →
    Rd w X t z (ds.take off ++ cs ++ ds.drop (off + u.size)) ∧ off + u.size ≤ t.size
  | .bool, _, _, _, _, h, hr => setAt_leaf h hr.len hy
  | .int _, _, _, _, _, h, hr => setAt_leaf h hr.len hy
  | .str, _, _, _, _, h, hr => setAt_leaf h hr.len hy
  | .slice _, _, _, _, _, h, hr => setAt_leaf h hr.len hy
  | .unit, _, _, _, _, h, hr => setAt_leaf h hr.len hy
  | .opq, _, _, _, _, _, hr => hr.elim
  | .pair a b, x, off, z, ds, h, hr => by
    simp only [setAt] at h
    have hlen := hr.len
    split at h
    · rename_i he
      subst he
      cases hb : Nat.beq off 0 with
      | false => rw [hb] at h; cases h
      | true =>
        rw [hb] at h
        have h0 : off = 0 := Nat.eq_of_beq_eq_true hb
        subst h0
        obtain rfl := Option.some.inj h
        rw [List.drop_eq_nil_of_le (by omega)]
        simpa using hy
    · obtain ⟨c, d, e, h1, h2⟩ := hr
      subst e
      have l1 := h1.len
      have l2 := h2.len
      have lc := hy.len
      cases hb : Nat.blt off a.size with
      | true =>
        rw [hb] at h
        cases hs : setAt u y a x.1 off with
        | none => rw [hs] at h; cases h
        | some z' =>
          rw [hs] at h
          obtain rfl := Option.some.inj h
          obtain ⟨g1, g2⟩ := setAt_ok hy a hs h1
          refine ⟨⟨c.take off ++ cs ++ c.drop (off + u.size), d, ?_, g1, h2⟩, by simp only [Ty.size]; omega⟩
          rw [List.take_append_of_le_length (by omega), List.drop_append_of_le_length (by omega)]
          simp [List.append_assoc]
      | false =>
        rw [hb] at h
        have hge : a.size ≤ off := by
          rcases Nat.lt_or_ge off a.size with q | q
          · have : Nat.blt off a.size = true := by simp [Nat.blt, Nat.ble_eq]; omega
            rw [this] at hb; cases hb
          · exact q
        cases hs : setAt u y b x.2 (off - a.size) with
        | none => rw [hs] at h; cases h
        | some z' =>
          rw [hs] at h
          obtain rfl := Option.some.inj h
          obtain ⟨g1, g2⟩ := setAt_ok hy b hs h2
          refine ⟨⟨c, d.take (off - a.size) ++ cs ++ d.drop (off - a.size + u.size), ?_, h1, g1⟩, by simp only [Ty.size]; omega⟩
          rw [List.take_append, List.take_of_length_le (by omega), List.drop_append, List.drop_eq_nil_of_le (by omega), l1, List.nil_append,
            show off + u.size - a.size = off - a.size + u.size by omega]
          simp [List.append_assoc]
end

/-- Where a call began: its world; the blocks that were given to it; the rows that were given, and what they stand for. -/
structure Bs where
  w : World
  G : Nat → Prop
  g : Nat
  φ : Nat → Blk
  Xa : Nat → Prop      -- what came in to be read

/-- Blocks that the call may write. -/
def Bs.mine (w0 : Bs) (b : Nat) : Prop := w0.w.heap.size ≤ b ∨ w0.G b
/-- Blocks that it may read: its own, and (p) those that came in. -/
def Bs.see (w0 : Bs) (p : Bool) (b : Nat) : Prop := w0.mine b ∨ (p = true ∧ w0.Xa b)
theorem Bs.see_up {w0 : Bs} {p q : Bool} {b : Nat} (h : p = true → q = true) (hs : w0.see p b) : w0.see q b := hs.imp_right fun k => ⟨h k.1, k.2⟩

/-- What was not given is as it was. -/
structure BelowG (w0 : Bs) (w' : World) : Prop where
  os : w'.os = w0.w.os
  tape : w'.tape = w0.w.tape
  output : w'.output = w0.w.output
  size : w0.w.heap.size ≤ w'.heap.size
  block : ∀ k, k < w0.w.heap.size → ¬ w0.G k → w'.heap[k]? = w0.w.heap[k]?

section
variable {w0 : Bs} {w w' : World}
theorem BelowG.refl (w0 : Bs) : BelowG w0 w0.w := ⟨rfl, rfl, rfl, Nat.le_refl _, fun _ _ _ => rfl⟩
theorem BelowG.next (h : BelowG w0 w) (G : Nat → Prop) (hG : ∀ b, G b → w0.mine b) (h1 : w'.os = w.os) (h2 : w'.tape = w.tape) (h3 : w'.output = w.output) (h4 : w.heap.size ≤ w'.heap.size)
    (h5 : ∀ k, k < w.heap.size → ¬ G k → w'.heap[k]? = w.heap[k]?) : BelowG w0 w' :=
  ⟨h1.trans h.os, h2.trans h.tape, h3.trans h.output, Nat.le_trans h.size h4, fun k hk hn => by
    refine (h5 k (Nat.lt_of_lt_of_le hk h.size) fun q => ?_).trans (h.block k hk hn)
    rcases hG k q with q | q
    · omega
    · exact hn q⟩
theorem BelowG.alloc (h : BelowG w0 w) (o : Obj) : BelowG w0 (w.alloc o) :=
  h.next (fun _ => False) (fun _ q => q.elim) rfl rfl rfl (by simp) fun k hk _ => Below.heap_alloc _ _ _ hk
theorem BelowG.setRow (h : BelowG w0 w) {g : Nat} (hg : w0.mine g) (cs : Array Value) : BelowG w0 (w.setRow g cs) :=
  h.next (fun b => b = g) (fun _ q => q ▸ hg) rfl rfl rfl (by simp [World.setRow]) fun k hk hn => setRow_other w g k cs hn
theorem BelowG.grown (h : BelowG w0 w) {row : Option Nat} (hg : w.grownBy w' row) (hr : ∀ k, row = some k → w0.mine k) : BelowG w0 w' :=
  h.next (fun b => row = some b) hr hg.os hg.tape hg.output hg.size fun k hk hn => hg.block k hk fun e => hn e.symm
end

/-- A row of one's own. -/
def ownsM (w : World) (M : Nat → Prop) (e : TypeId) (size : Nat) (v : Value) (n : Nat) (xs : List Value) : Prop :=
  xs.length = n * size ∧
  ((v = .slice none 0 0 ∧ n = 0) ∨
   ∃ g cap cur, v = .slice (some ⟨g, 0, none⟩) n cap ∧ M g ∧ w.heap[g]? = some (.cells cur e (0, 0)) ∧ n ≤ cap ∧ cap ≤ maxLen ∧ cur.size = cap * size ∧ cur.toList.take (n * size) = xs)
section
variable {w : World} {M : Nat → Prop} {e : TypeId} {size : Nat} {v : Value} {n : Nat} {xs : List Value}
theorem ownsM.row (h : ownsM w M e size v n xs) : w.ownsRow 0 e size v n xs := by
  refine ⟨h.1, ?_⟩
  rcases h.2 with q | ⟨g, cap, cur, h1, h2, h3⟩
  · exact Or.inl q
  · exact Or.inr ⟨g, cap, cur, h1, Nat.zero_le _, h3⟩
theorem ownsM.of (h : w.ownsRow 0 e size v n xs) (hM : ∀ b, v.ownBlock = some b → M b) : ownsM w M e size v n xs := by
  refine ⟨h.1, ?_⟩
  rcases h.2 with q | ⟨g, cap, cur, h1, h2, h3⟩
  · exact Or.inl q
  · exact Or.inr ⟨g, cap, cur, h1, hM g (by rw [h1]; rfl), h3⟩
theorem ownsM.lt (h : ownsM w M e size v n xs) (b : Nat) (hb : v.ownBlock = some b) : M b ∧ b < w.heap.size := by
  rcases h.2 with ⟨q, _⟩ | ⟨g, cap, cur, h1, h2, h3, _⟩
  · rw [q] at hb; cases hb
  · rw [h1] at hb; cases hb; exact ⟨h2, (Array.getElem?_eq_some_iff.1 h3).1⟩
theorem ownsM.nil : ownsM w M e size (.slice none 0 0) 0 [] := ⟨by simp, Or.inl ⟨rfl, rfl⟩⟩
end

def OwnOk (w : World) (X : Bool → Nat → Prop) (N : Nat → Prop) (φ : Nat → Blk) (M : Nat → Prop) (r : Nat) (p : Bool) (e : Ty) (l : List e.den) : Prop :=
  N r ∧ (φ r).sz = e.size ∧ (φ r).n = l.length ∧ (∀ b, (φ r).v.ownBlock = some b → (φ r).b = b) ∧
      ∃ te xs, ownsM w M te e.size (φ r).v l.length xs ∧ RdL (Rd w (X p) e) l xs

/-- What the rows of V are in the model's memory. M: the call's own memory. -/
def RowOk (w : World) (X : Bool → Nat → Prop) (N : Nat → Prop) (φ : Nat → Blk) (M : Nat → Prop) (r : Nat) : Row → Prop
  | .dead => True
  | .box cs => N r ∧ M (φ r).b ∧ (φ r).n = 1 ∧ ∃ vs te, w.heap[(φ r).b]? = some (.cells vs te (0, 0)) ∧ RepL w X N φ cs vs.toList
  | .own p e l => OwnOk w X N φ M r p e l
  | .fro p e l => OwnOk w X N φ M r p e l ∧ ∀ b, (φ r).v.ownBlock = some b → X p b

/-- The block that a row may be written in. -/
def blkOf (φ : Nat → Blk) (r : Nat) : Row → Option Nat
  | .box _ => some (φ r).b
  | .own _ _ _ => (φ r).v.ownBlock
  | _ => none

def Wr (φ : Nat → Blk) (hp : Hp) (b : Nat) : Prop := ∃ r, blkOf φ r (hp r) = some b

/-- Blocks that nobody writes: any of them, or those of the call's own. -/
def Xs (w : World) (φ : Nat → Blk) (hp : Hp) (Z : Bool → Nat → Prop) (p : Bool) (b : Nat) : Prop := b < w.heap.size ∧ ¬ Wr φ hp b ∧ Z p b

structure Ok (w0 : Bs) (N : Nat → Prop) (φ : Nat → Blk) (tm : List AV) (hp : Hp) (a : Act) (w : World) : Prop where
  below : BelowG w0 w
  defers : a.defers = []
  size : a.tmps.size = tm.length
  tms : ∀ i : Nat, RepV w (Xs w φ hp w0.see) N φ (tm.getD i .junk) (a.tmps.getD i undef)
  rows : ∀ r, RowOk w (Xs w φ hp w0.see) N φ w0.mine r (hp r)
  disj : ∀ r s b, blkOf φ r (hp r) = some b → blkOf φ s (hp s) = some b → r = s
  giv : ∀ r, r < w0.g → N r ∧ φ r = w0.φ r

section
variable {w0 : Bs} {w w' : World} {N N' : Nat → Prop} {φ φ' : Nat → Blk} {tm : List AV} {hp hp' : Hp} {a : Act}

theorem Ok.blk_lt (h : Ok w0 N φ tm hp a w) {r b : Nat} (hb : blkOf φ r (hp r) = some b) : w0.mine b ∧ b < w.heap.size := by
  have hr := h.rows r
  cases hrow : hp r with
  | dead => rw [hrow] at hb; cases hb
  | fro p e l => rw [hrow] at hb; cases hb
  | box cs =>
    rw [hrow] at hb hr
    obtain ⟨_, hB, _, vs, te, hh, _⟩ := hr
    cases hb
    exact ⟨hB, (Array.getElem?_eq_some_iff.1 hh).1⟩
  | own p e l =>
    rw [hrow] at hb hr
    obtain ⟨_, _, _, _, te, xs, ho, _⟩ := hr
    exact ho.lt b hb

theorem Xs.mono (hsz : w.heap.size ≤ w'.heap.size) (hW : ∀ b, b < w.heap.size → Wr φ' hp' b → Wr φ hp b) {Z : Bool → Nat → Prop} {p : Bool} {b : Nat} (h : Xs w φ hp Z p b) : Xs w' φ' hp' Z p b :=
  ⟨Nat.lt_of_lt_of_le h.1 hsz, fun q => h.2.1 (hW b h.1 q), h.2.2⟩

theorem OwnOk.mono {X X' : Bool → Nat → Prop} {M : Nat → Prop} {r : Nat} {p : Bool} {e : Ty} {l : List e.den} (hr : OwnOk w X N φ M r p e l) (h : Ok w0 N φ tm hp a w)
    (hN : ∀ r, N r → N' r) (hφ : ∀ r, N r → φ' r = φ r) (hX : ∀ p b, X p b → X' p b) (hw : ∀ p b, X p b → w'.heap[b]? = w.heap[b]?)
    (hb : ∀ b, (φ r).v.ownBlock = some b → w'.heap[b]? = w.heap[b]?) : OwnOk w' X' N' φ' M r p e l := by
  obtain ⟨h1, h2, h3, h4, te, xs, h5, h6⟩ := hr
  have hq := hφ r h1
  refine ⟨hN r h1, by rw [hq]; exact h2, by rw [hq]; exact h3, by rw [hq]; exact h4, te, xs, ?_, h6.mono (hX p) (hw p)⟩
  rw [hq]
  refine ⟨h5.1, ?_⟩
  rcases h5.2 with q | ⟨g, cap, cur, q1, q2, q3, q4⟩
  · exact Or.inl q
  · refine Or.inr ⟨g, cap, cur, q1, q2, ?_, q4⟩
    rw [hb g (by simp [q1, Value.ownBlock])]
    exact q3

/-- One step of memory: what is not touched lives on. T: the blocks that are written. -/
theorem Ok.step (h : Ok w0 N φ tm hp a w) (T : Nat → Prop)
    (hN : ∀ r, N r → N' r) (hφ : ∀ r, N r → φ' r = φ r) (hb : BelowG w0 w') (hsz : w.heap.size ≤ w'.heap.size)
    (hT : ∀ b, b < w.heap.size → ¬ T b → w'.heap[b]? = w.heap[b]?) (hTW : ∀ b, T b → Wr φ hp b)
    (hW : ∀ b, b < w.heap.size → Wr φ' hp' b → Wr φ hp b)
    (hrow : ∀ r, (hp' r = hp r ∧ N r ∧ ∀ b, blkOf φ r (hp r) = some b → ¬ T b) ∨ RowOk w' (Xs w' φ' hp' w0.see) N' φ' w0.mine r (hp' r))
    (hdisj : ∀ r s b, blkOf φ' r (hp' r) = some b → blkOf φ' s (hp' s) = some b → r = s) : Ok w0 N' φ' tm hp' a w' := by
  have hX : ∀ p b, Xs w φ hp w0.see p b → Xs w' φ' hp' w0.see p b := fun p b hx => hx.mono hsz hW
  have hw : ∀ p b, Xs w φ hp w0.see p b → w'.heap[b]? = w.heap[b]? := fun p b hx => hT b hx.1 (fun q => hx.2.1 (hTW b q))
  refine ⟨hb, h.defers, h.size, fun i => (h.tms i).mono hX hw hN hφ, fun r => ?_, hdisj, fun r hr => ⟨hN r (h.giv r hr).1, (hφ r (h.giv r hr).1).trans (h.giv r hr).2⟩⟩
  rcases hrow r with ⟨e, hn, ht⟩ | hr
  · have hr := h.rows r
    rw [e]
    cases hrow : hp r with
    | dead => trivial
    | box cs =>
      have hbl := h.blk_lt (r := r) (b := (φ r).b) (by rw [hrow]; rfl)
      rw [hrow] at hr ht
      obtain ⟨h1, h2, h3, vs, te, h4, h5⟩ := hr
      have hq := hφ r h1
      exact ⟨hN r h1, by rw [hq]; exact h2, by rw [hq]; exact h3, vs, te, by rw [hq, hT _ hbl.2 (ht _ rfl)]; exact h4, h5.mono hX hw hN hφ⟩
    | own p e' l =>
      have hbl := fun b hb => h.blk_lt (r := r) (b := b) hb
      rw [hrow] at hr ht hbl
      exact hr.mono h hN hφ hX hw fun b hb => hT b (hbl b hb).2 (ht b hb)
    | fro p e' l =>
      rw [hrow] at hr
      obtain ⟨hr, hf⟩ := hr
      have hn := hr.1
      refine ⟨hr.mono h hN hφ hX hw fun b hb => hw p b (hf b hb), fun b hb => ?_⟩
      rw [hφ r hn] at hb
      exact hX p b (hf b hb)
  · exact hr
end
end Go.V

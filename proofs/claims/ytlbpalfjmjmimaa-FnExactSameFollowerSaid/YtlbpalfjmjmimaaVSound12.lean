/- V: what a contract says, and how a call by contract goes on. -/
import Derived.Test.YtlbpalfjmjmimaaVSound11
set_option linter.unusedVariables false
set_option linter.unusedSimpArgs false
namespace Go.V
open Go.RowKit

theorem apply_not (us : Ups) : ∀ {hp : Hp} {r : Nat}, r ∉ us.map (·.1) → apply hp us r = hp r := by
  induction us with
  | nil => intro hp r _; rfl
  | cons u us ih =>
    intro hp r h
    simp only [List.map_cons, List.mem_cons, not_or] at h
    simp only [apply]
    rw [ih h.2, upd_other hp _ h.1]
theorem apply_mem (us : Ups) : ∀ {hp : Hp} {r : Nat} {x : Row}, (us.map (·.1)).Nodup → (r, x) ∈ us → apply hp us r = x := by
  induction us with
  | nil => intro hp r x _ h; cases h
  | cons u us ih =>
    intro hp r x hn h
    simp only [List.map_cons, List.nodup_cons] at hn
    simp only [apply]
    rcases List.mem_cons.1 h with q | q
    · subst q
      rw [apply_not us hn.1, upd_same]
    · exact ih hn.2 q

theorem rowsO_keys {p : Bool} : ∀ {t : Ty} {x : t.den} {id : Nat}, (rowsO p t x id).map (·.1) = List.range' id t.rows
  | .slice _, _, id => by simp [rowsO, Ty.rows]
  | .pair a b, x, id => by simp only [rowsO, List.map_append, rowsO_keys, Ty.rows]; rw [List.range'_append_1]
  | .bool, _, _ => rfl
  | .int _, _, _ => rfl
  | .str, _, _ => rfl
  | .unit, _, _ => rfl
  | .opq, _, _ => rfl

/-- A result: its slices are rows of the caller's own now. bl: which. -/
def ResO (w : World) (X : Nat → Prop) (B : Nat) : (t : Ty) → t.den → List Value → List Blk → Prop
  | .slice e, l, cs, bl => ∃ v te xs, cs = [v] ∧ w.ownsRow B te e.size v l.length xs ∧ RdL (Rd w X e) l xs ∧ bl = [⟨v, (v.ownBlock).getD 0, e.size, l.length⟩]
  | .pair a b, x, cs, bl => ∃ c d b1 b2, cs = c ++ d ∧ bl = b1 ++ b2 ∧ ResO w X B a x.1 c b1 ∧ ResO w X B b x.2 d b2
  | .bool, x, cs, bl => cs = [.bool x] ∧ bl = []
  | .int k, x, cs, bl => cs = [.int k x] ∧ bl = []
  | .str, x, cs, bl => cs = [.string x] ∧ bl = []
  | .unit, _, cs, bl => cs = [] ∧ bl = []
  | .opq, _, _, _ => False

def blocksOf (bl : List Blk) : List Nat := bl.filterMap (·.v.ownBlock)

def valsRep (ts : List Ty) (cs : List Value) : List Value :=
  match ts with
  | [] => []
  | t :: ts => valOf t (cs.take t.size) :: valsRep ts (cs.drop t.size)

/-- One value, or a tuple of them. -/
def oneV : List Value → Value
  | [v] => v
  | vs => .tuple vs.toArray

/-- The values that come in. -/
def ArgsRep (w : World) (X : Nat → Prop) (ts : List Ty) (x : (tup ts).den) (as : List Value) : Prop := ∃ cs, Rd w X (tup ts) x cs ∧ as = valsRep ts cs

structure Ctr (P : Program) (f : Nat) (c : Cn) : Prop where
  fresh : c.fresh = true
  enters : ∀ (w : World) (as : Array Value), (callFunc f as).run P w = .ok (.enter f as) w
  calls : ∀ x r, c.fn x = some r → ∀ (w : World) (as : List Value), ArgsRep w (fun b => b < w.heap.size) c.A x as →
    Calls P f as.toArray w fun e w' => ∃ cs bl, e = .returned (oneV (valsRep c.R cs)) ∧ Below w.heap.size w w' ∧
      (blocksOf bl).Nodup ∧ ResO w' (fun b => w.heap.size ≤ b ∧ b < w'.heap.size ∧ b ∉ blocksOf bl) w.heap.size (tup c.R) r cs bl

section
variable {P : Program} {tb : Tab} {w0 w w' : World} {N : Nat → Prop} {φ : Nat → Blk} {tm : List AV} {hp : Hp} {a : Act}

theorem ResO.len {X : Nat → Prop} {B : Nat} : ∀ {t : Ty} {x : t.den} {cs : List Value} {bl : List Blk}, ResO w X B t x cs bl → cs.length = t.size ∧ bl.length = t.rows
  | .slice e, _, _, _, ⟨v, te, xs, h1, h2, h3, h4⟩ => by subst h1; subst h4; exact ⟨rfl, rfl⟩
  | .pair a b, _, _, _, ⟨c, d, b1, b2, h1, h2, h3, h4⟩ => by
    subst h1; subst h2
    simp only [List.length_append, h3.len.1, h3.len.2, h4.len.1, h4.len.2, Ty.size, Ty.rows]
    exact ⟨trivial, trivial⟩
  | .bool, _, _, _, ⟨h1, h2⟩ => by subst h1; subst h2; exact ⟨rfl, rfl⟩
  | .int _, _, _, _, ⟨h1, h2⟩ => by subst h1; subst h2; exact ⟨rfl, rfl⟩
  | .str, _, _, _, ⟨h1, h2⟩ => by subst h1; subst h2; exact ⟨rfl, rfl⟩
  | .unit, _, _, _, ⟨h1, h2⟩ => by subst h1; subst h2; exact ⟨rfl, rfl⟩
  | .opq, _, _, _, h => h.elim

/-- A result's cells in the caller's state. -/
theorem ResO.cells {X : Nat → Prop} {B : Nat} {Y : Bool → Nat → Prop} {N' : Nat → Prop} {φ' : Nat → Blk} : ∀ {t : Ty} {x : t.den} {cs : List Value} {bl : List Blk} {id : Nat}, ResO w X B t x cs bl →
    (∀ k (h : k < bl.length), φ' (id + k) = bl[k]) → (∀ k, k < bl.length → N' (id + k)) → RepL w Y N' φ' (injO false t x id) cs
  | .slice e, _, _, _, id, ⟨v, te, xs, h1, h2, h3, h4⟩, hφ, hN => by
    subst h1; subst h4
    obtain ⟨ad, c, hs, _⟩ := own_slice h2
    have e0 := hφ 0 (by simp)
    simp only [Nat.add_zero, List.getElem_cons_zero] at e0
    refine ⟨v, [], rfl, by rw [hs]; rfl, ⟨by simpa using hN 0 (by simp), by rw [e0], ad, _, c, hs⟩, rfl⟩
  | .pair a b, x, _, _, id, ⟨c, d, b1, b2, h1, h2, h3, h4⟩, hφ, hN => by
    subst h1; subst h2
    have l1 := h3.len
    refine RepL.append (h3.cells (fun k hk => ?_) (fun k hk => hN k (by rw [List.length_append]; omega))) (h4.cells (fun k hk => ?_) (fun k hk => ?_))
    · rw [hφ k (by rw [List.length_append]; omega), List.getElem_append_left hk]
    · rw [Nat.add_assoc, hφ (a.rows + k) (by rw [List.length_append]; omega), List.getElem_append_right (by omega)]
      congr 1
      omega
    · rw [Nat.add_assoc]
      exact hN _ (by rw [List.length_append]; omega)
  | .bool, _, _, _, _, ⟨h1, h2⟩, _, _ => by subst h1; exact ⟨_, _, rfl, rfl, rfl, rfl⟩
  | .int _, _, _, _, _, ⟨h1, h2⟩, _, _ => by subst h1; exact ⟨_, _, rfl, rfl, rfl, rfl⟩
  | .str, _, _, _, _, ⟨h1, h2⟩, _, _ => by subst h1; exact ⟨_, _, rfl, rfl, rfl, rfl⟩
  | .unit, _, _, _, _, ⟨h1, h2⟩, _, _ => by subst h1; rfl
  | .opq, _, _, _, _, h, _, _ => h.elim

/-- A result's rows. -/
theorem ResO.rows {X : Nat → Prop} {B : Nat} : ∀ {t : Ty} {x : t.den} {cs : List Value} {bl : List Blk} {id : Nat}, ResO w X B t x cs bl →
    ∀ r row, (r, row) ∈ rowsO false t x id → ∃ k, ∃ h : k < bl.length, r = id + k ∧ ∃ (e : Ty) (l : List e.den) (te : TypeId) (xs : List Value),
      row = .own false e l ∧ bl[k] = ⟨bl[k].v, (bl[k].v.ownBlock).getD 0, e.size, l.length⟩ ∧ w.ownsRow B te e.size bl[k].v l.length xs ∧ RdL (Rd w X e) l xs
  | .slice e, l, _, _, id, ⟨v, te, xs, h1, h2, h3, h4⟩, r, row, hm => by
    subst h4
    simp only [rowsO, List.mem_singleton, Prod.mk.injEq] at hm
    exact ⟨0, by simp, by omega, e, l, te, xs, hm.2, rfl, h2, h3⟩
  | .pair a b, x, _, _, id, ⟨c, d, b1, b2, h1, h2, h3, h4⟩, r, row, hm => by
    subst h1; subst h2
    have l1 := h3.len
    simp only [rowsO] at hm
    rcases List.mem_append.1 hm with hm | hm
    · obtain ⟨k, hk, q1, e, l, te, xs, q2, q3, q4, q5⟩ := h3.rows r row hm
      have g : (b1 ++ b2)[k]'(by rw [List.length_append]; omega) = b1[k] := List.getElem_append_left hk
      exact ⟨k, by rw [List.length_append]; omega, q1, e, l, te, xs, q2, by rw [g]; exact q3, by rw [g]; exact q4, q5⟩
    · obtain ⟨k, hk, q1, e, l, te, xs, q2, q3, q4, q5⟩ := h4.rows r row hm
      have g : (b1 ++ b2)[b1.length + k]'(by rw [List.length_append]; omega) = b2[k] := by
        rw [List.getElem_append_right (by omega)]
        congr 1
        omega
      exact ⟨b1.length + k, by rw [List.length_append]; omega, by omega, e, l, te, xs, q2, by rw [g]; exact q3, by rw [g]; exact q4, q5⟩
  | .bool, _, _, _, _, _, _, _, hm => by simp [rowsO] at hm
  | .int _, _, _, _, _, _, _, _, hm => by simp [rowsO] at hm
  | .str, _, _, _, _, _, _, _, hm => by simp [rowsO] at hm
  | .unit, _, _, _, _, _, _, _, hm => by simp [rowsO] at hm
  | .opq, _, _, _, _, h, _, _, _ => h.elim

theorem mem_blocks {bl : List Blk} {k : Nat} (h : k < bl.length) {b : Nat} (hb : bl[k].v.ownBlock = some b) : b ∈ blocksOf bl :=
  List.mem_filterMap.2 ⟨bl[k], List.getElem_mem h, hb⟩

theorem blocks_inj : ∀ {bl : List Blk} {i j b : Nat} (hi : i < bl.length) (hj : j < bl.length), (blocksOf bl).Nodup → bl[i].v.ownBlock = some b → bl[j].v.ownBlock = some b → i = j
  | [], i, _, _, hi, _, _, _, _ => absurd hi (by simp)
  | x :: bl, 0, 0, _, _, _, _, _, _ => rfl
  | x :: bl, 0, j + 1, b, hi, hj, hn, h1, h2 => by
    simp only [List.getElem_cons_zero, List.getElem_cons_succ] at h1 h2
    simp only [blocksOf, List.filterMap_cons, h1, List.nodup_cons] at hn
    exact absurd (mem_blocks (by simpa using hj) h2) hn.1
  | x :: bl, i + 1, 0, b, hi, hj, hn, h1, h2 => by
    simp only [List.getElem_cons_zero, List.getElem_cons_succ] at h1 h2
    simp only [blocksOf, List.filterMap_cons, h2, List.nodup_cons] at hn
    exact absurd (mem_blocks (by simpa using hi) h1) hn.1
  | x :: bl, i + 1, j + 1, b, hi, hj, hn, h1, h2 => by
    simp only [List.getElem_cons_succ] at h1 h2
    have hn' : (blocksOf bl).Nodup := by
      simp only [blocksOf, List.filterMap_cons] at hn
      split at hn
      · exact hn
      · exact (List.nodup_cons.1 hn).2
    rw [blocks_inj (by simpa using hi) (by simpa using hj) hn' h1 h2]

/-- Behind a call: what was there is there; the results' rows are the caller's own. -/
theorem Ok.call (h : Ok w0 N φ tm hp a w) {id : Nat} {t : Ty} {x : t.den} {cs : List Value} {bl : List Blk} (hid : ∀ r, id ≤ r → r < id + t.rows → ¬ N r)
    (hb : Below w.heap.size w w') (hn : (blocksOf bl).Nodup) (hr : ResO w' (fun b => w.heap.size ≤ b ∧ b < w'.heap.size ∧ b ∉ blocksOf bl) w.heap.size t x cs bl) :
    ∃ φ' : Nat → Blk, (∀ r, N r → φ' r = φ r) ∧ (∀ k (hk : k < bl.length), φ' (id + k) = bl[k]) ∧
      Ok w0 (fun r => N r ∨ (id ≤ r ∧ r < id + t.rows)) φ' tm (apply hp (rowsO false t x id)) a w' := by
  have hlen := hr.len.2
  refine ⟨fun r => if id ≤ r ∧ r < id + t.rows then bl.getD (r - id) default else φ r, fun r hN => ?_, fun k hk => ?_, ?_⟩
  · have : ¬ (id ≤ r ∧ r < id + t.rows) := fun q => hid r q.1 q.2 hN
    simp [this]
  · have : id ≤ id + k ∧ id + k < id + t.rows := by omega
    simp [this, List.getD, hk]
  generalize hφ' : (fun r => if id ≤ r ∧ r < id + t.rows then bl.getD (r - id) default else φ r) = φ'
  have e1 : ∀ k (hk : k < bl.length), φ' (id + k) = bl[k] := by
    intro k hk
    subst hφ'
    have : id ≤ id + k ∧ id + k < id + t.rows := by omega
    simp [this, List.getD, hk]
  have e2 : ∀ r, ¬ (id ≤ r ∧ r < id + t.rows) → φ' r = φ r := by intro r q; subst hφ'; simp [q]
  have e3 : ∀ r, N r → φ' r = φ r := fun r hN => e2 r fun q => hid r q.1 q.2 hN
  have hkeys := rowsO_keys (p := false) (x := x) (id := id)
  have hnd : ((rowsO false t x id).map (·.1)).Nodup := by rw [hkeys]; exact List.nodup_range'
  have hin : ∀ r, (id ≤ r ∧ r < id + t.rows) → ∃ row, (r, row) ∈ rowsO false t x id := by
    intro r q
    have : r ∈ (rowsO false t x id).map (·.1) := by rw [hkeys, List.mem_range'_1]; exact q
    obtain ⟨y, hy, rfl⟩ := List.mem_map.1 this
    exact ⟨y.2, hy⟩
  have hout : ∀ r, ¬ (id ≤ r ∧ r < id + t.rows) → apply hp (rowsO false t x id) r = hp r := fun r q => apply_not _ (by rw [hkeys, List.mem_range'_1]; exact q)
  have hold : ∀ s b, ¬ (id ≤ s ∧ s < id + t.rows) → blkOf φ' s (apply hp (rowsO false t x id) s) = some b → blkOf φ s (hp s) = some b := by
    intro s b q hs
    rw [hout s q] at hs
    have ee := e2 s q
    cases hq : hp s <;> rw [hq] at hs <;> simp only [blkOf] at hs ⊢ <;> first | (cases hs; done) | (rw [ee] at hs; exact hs)
  have hnew : ∀ s b, (id ≤ s ∧ s < id + t.rows) → blkOf φ' s (apply hp (rowsO false t x id) s) = some b → ∃ k, ∃ hk : k < bl.length, s = id + k ∧ bl[k].v.ownBlock = some b ∧ w.heap.size ≤ b := by
    intro s b q hs
    obtain ⟨row, hm⟩ := hin s q
    rw [apply_mem _ hnd hm] at hs
    obtain ⟨k, hk, q1, e, l, te, xs, q2, q3, q4, q5⟩ := hr.rows s row hm
    subst q2
    simp only [blkOf, q1, e1 k hk] at hs
    exact ⟨k, hk, q1, hs, (q4.lt b hs).1⟩
  have hWn : ∀ b, b < w.heap.size → Wr φ' (apply hp (rowsO false t x id)) b → Wr φ hp b := by
    rintro b hlt ⟨s, hs⟩
    by_cases q : id ≤ s ∧ s < id + t.rows
    · obtain ⟨k, hk, _, _, hge⟩ := hnew s b q hs
      omega
    · exact ⟨s, hold s b q hs⟩
  have hB0 : w0.heap.size ≤ w.heap.size := h.below.size
  refine h.step (fun _ => False) (fun _ q => Or.inl q) e3 (h.below.trans (hb.mono hB0)) hb.size (fun b hlt _ => hb.block b hlt) (fun _ q => q.elim) hWn (fun s => ?_) (fun s s' b hs hs' => ?_)
  · by_cases q : id ≤ s ∧ s < id + t.rows
    · right
      obtain ⟨row, hm⟩ := hin s q
      rw [apply_mem _ hnd hm]
      obtain ⟨k, hk, q1, e, l, te, xs, q2, q3, q4, q5⟩ := hr.rows s row hm
      subst q2
      have ek : φ' s = bl[k] := by rw [q1]; exact e1 k hk
      refine ⟨Or.inr q, by rw [ek, q3], by rw [ek, q3], fun b hb' => ?_, te, xs, ?_, ?_⟩
      · rw [ek] at hb' ⊢
        rw [q3]
        simp only [hb']
        rfl
      · rw [ek]
        refine ⟨q4.1, ?_⟩
        rcases q4.2 with z | ⟨g, cap, cur, z1, z2, z3⟩
        · exact Or.inl z
        · exact Or.inr ⟨g, cap, cur, z1, Nat.le_trans hB0 z2, z3⟩
      · refine q5.mono (fun b hx => ⟨hx.2.1, ?_, fun _ => Nat.le_trans hB0 hx.1⟩) (fun _ _ => rfl)
        rintro ⟨s', hs'⟩
        by_cases q' : id ≤ s' ∧ s' < id + t.rows
        · obtain ⟨k', hk', _, hb', _⟩ := hnew s' b q' hs'
          exact hx.2.2 (mem_blocks hk' hb')
        · have := (h.blk_lt (hold s' b q' hs')).2
          have := hx.1
          omega
    · rw [hout s q]
      cases hs : hp s with
      | dead => right; trivial
      | box cs => have := h.rows s; rw [hs] at this; exact Or.inl ⟨rfl, this.1, fun _ _ q => q⟩
      | own p' e' l' => have := h.rows s; rw [hs] at this; exact Or.inl ⟨rfl, this.1, fun _ _ q => q⟩
      | fro p' e' l' => have := h.rows s; rw [hs] at this; exact Or.inl ⟨rfl, this.1.1, fun _ _ q => q⟩
  · by_cases q : id ≤ s ∧ s < id + t.rows
    · obtain ⟨k, hk, q1, hb1, hge⟩ := hnew s b q hs
      by_cases q' : id ≤ s' ∧ s' < id + t.rows
      · obtain ⟨k', hk', q1', hb1', _⟩ := hnew s' b q' hs'
        have := blocks_inj hk hk' hn hb1 hb1'
        omega
      · have := (h.blk_lt (hold s' b q' hs')).2
        omega
    · have h1 := hold s b q hs
      by_cases q' : id ≤ s' ∧ s' < id + t.rows
      · obtain ⟨k', hk', q1', hb1', hge⟩ := hnew s' b q' hs'
        have := (h.blk_lt h1).2
        omega
      · exact h.disj s s' b h1 (hold s' b q' hs')
end
end Go.V

/- V: appends. -/
import Derived.Test.YtgcahahklmfleaaDoorVSound10
set_option linter.unusedVariables false
set_option linter.unusedSimpArgs false
namespace Go.V
open Go.RowKit

section
variable {P : Program} {tb : Tab} {w0 : Bs} {w : World} {N : Nat → Prop} {φ : Nat → Blk} {tm : List AV} {hp : Hp} {a : Act}

/-- Room for more: written in place, whatever type the block was made for. -/
theorem run_append_room' (t ty e te : TypeId) (i : TypeInfo) (ht : P.underlying t = some (.slice e)) (hi : P.info? e = some i)
    (g sLen sCap : Nat) (cur : Array Value) (hg : w.heap[g]? = some (.cells cur te (0, 0)))
    (a : Addr) (m c : Nat) (news : List Value) (hl : news.length = m * i.size) (hnews : ∀ j u, news[j]? = some u → w.cell? (a.add j) = some u) (h1 : ∀ u ∈ news, u.oneCell' = true)
    (hroom : sLen + m ≤ sCap) (hfit : sLen * i.size + news.length ≤ cur.size) :
    (Builtin.append_ #[t, t] ty #[.slice (some ⟨g, 0, none⟩) sLen sCap, .slice (some a) m c]).run P w =
      .ok (.slice (some ⟨g, 0, none⟩) (sLen + m) sCap) (w.setRow g (cur.toList.take (sLen * i.size) ++ news ++ cur.toList.drop (sLen * i.size + news.length)).toArray) := by
  have hf := run_firstCells_some (P := P) w i.size m a m c news hl hnews
  have hst := run_storeCells_at P g (sLen * i.size) te news 0 cur w hg (by simpa using hfit) h1
  simp only [Nat.add_zero] at hst
  simp [Builtin.append_, run_underlying ht, sizeOf, typeInfo, hi, Builtin.lenOf, hroom, hf, Addr.add_lit, hst]

/-- Nothing behind a slice: it stays. -/
theorem run_append_none (t ty e : TypeId) (i : TypeInfo) (ht : P.underlying t = some (.slice e)) (hi : P.info? e = some i) (ad : Option Addr) (n c : Nat) (hnc : n ≤ c) (c' : Nat) :
    (Builtin.append_ #[t, t] ty #[.slice ad n c, .slice none 0 c']).run P w = .ok (.slice ad n c) w := by
  cases ad <;> simp [Builtin.append_, run_underlying ht, sizeOf, typeInfo, hi, Builtin.lenOf, hnc, Builtin.firstCells, storeCells]

/-- An append to a row of one's own: the row that it comes to; its block is the old one, or new. -/
theorem run_append_any (base : Nat) (t ty e te : TypeId) (i : TypeInfo) (z : Value) (size bytes : Nat) (ht : P.underlying t = some (.slice e)) (hi : P.info? e = some i) (hz : i.zero = some z)
    (hsize : i.size = size) (hby : i.bytes = bytes) (hzs : z.cells.size = size) (hsz : 0 < size)
    (v : Value) (n : Nat) (xs : List Value) (hown : w.ownsRow base te size v n xs)
    (ad : Option Addr) (m c : Nat) (news : List Value) (hl : news.length = m * size) (hnews : 0 < m → ∃ a, ad = some a ∧ ∀ j u, news[j]? = some u → w.cell? (a.add j) = some u) (h1 : ∀ u ∈ news, u.oneCell' = true)
    (h63 : n + m ≤ maxLen) (hbytes : (n + m) * bytes ≤ 140737488355328) (hbase : base ≤ w.heap.size) :
    ∃ v' w' te', (Builtin.append_ #[t, t] ty #[v, .slice ad m c]).run P w = .ok v' w' ∧ w'.ownsRow base te' size v' (n + m) (xs ++ news) ∧ w.grownBy w' v.ownBlock ∧
      (∀ k, v'.ownBlock = some k → v.ownBlock = some k ∨ w.heap.size ≤ k) := by
  subst hsize
  subst hby
  have hsmall : n + m ≤ 9223372036854775807 := by simp only [maxLen] at h63; omega
  have hlen : (xs ++ news).length = (n + m) * i.size := by rw [List.length_append, hown.1, hl, Nat.add_mul]
  by_cases hm : m = 0
  · subst hm
    have hn : news = [] := List.eq_nil_of_length_eq_zero (by simpa using hl)
    subst hn
    obtain ⟨ad', c', hv, hc', _⟩ := own_slice hown
    refine ⟨v, w, te, ?_, by simpa using hown, ⟨rfl, rfl, rfl, Nat.le_refl _, fun _ _ _ => rfl⟩, fun k hk => Or.inl hk⟩
    subst hv
    cases ad with
    | none => exact run_append_none t ty e i ht hi ad' n c' hc' c
    | some a =>
      cases ad' <;> simp [Builtin.append_, run_underlying ht, sizeOf, typeInfo, hi, Builtin.lenOf, hc', Builtin.firstCells, loadCells, loadCellsFrom, storeCells]
  obtain ⟨a, rfl, hnews2⟩ := hnews (by omega)
  replace hnews := hnews2
  have grown : ∀ (old : Nat), old < n + m → ∀ (row : Option Nat),
      (w.drew.alloc (.cells (xs.toArray ++ news.toArray ++ Builtin.zeroCells z.cells (grownCap w (n + m) old e - (n + m))) e)).ownsRow base e i.size
        (.slice (some ⟨w.heap.size, 0, none⟩) (n + m) (grownCap w (n + m) old e)) (n + m) (xs ++ news) ∧
      w.grownBy (w.drew.alloc (.cells (xs.toArray ++ news.toArray ++ Builtin.zeroCells z.cells (grownCap w (n + m) old e - (n + m))) e)) row := by
    intro old ho row
    have hge := grownCap_ge w (n + m) old e
    have hcm : grownCap w (n + m) old e ≤ maxLen := grownCap_le_maxLen w (n + m) old e h63
    refine ⟨⟨hlen, .inr ⟨w.heap.size, _, _, rfl, hbase, heap_alloc_new w.drew _, hge, hcm, ?_, ?_⟩⟩, ⟨rfl, rfl, rfl, by simp, fun k hk _ => heap_alloc_old w.drew _ k hk⟩⟩
    · simp only [Array.size_append, List.size_toArray, size_zeroCells, hzs, hown.1, hl, ← Nat.add_mul]
      congr 1
      omega
    · simp only [Array.toList_append, List.append_assoc]
      rw [← List.append_assoc, ← hlen]
      exact List.take_left
  rcases hown.2 with ⟨rfl, rfl⟩ | ⟨g, cap, cur, rfl, hbg, hg, hnc, hcm, hcs, htake⟩
  · have hx : xs = [] := List.eq_nil_of_length_eq_zero (by simpa using hown.1)
    subst hx
    have hr := run_append_nil (P := P) w t ty e i z ht hi hz a m c news hl hnews (by omega) (by omega) (by have hb := hbytes; simp only [Nat.zero_add] at hb; omega)
    have hgr := grown 0 (by omega) (Value.ownBlock (.slice none 0 0))
    simp only [Nat.zero_add, List.nil_append, Array.empty_append] at hgr ⊢
    exact ⟨_, _, e, hr, hgr.1, hgr.2, fun k hk => by simp [Value.ownBlock] at hk; omega⟩
  · by_cases hroom : n + m ≤ cap
    · have hfit : n * i.size + news.length ≤ cur.size := by rw [hl, hcs, ← Nat.add_mul]; exact Nat.mul_le_mul_right _ hroom
      have hr := run_append_room' (P := P) (w := w) t ty e te i ht hi g n cap cur hg a m c news hl hnews h1 hroom hfit
      refine ⟨_, _, te, hr, ⟨hlen, .inr ⟨g, cap, _, rfl, hbg, setRow_heap w g cur _ te _ hg, hroom, hcm, ?_, ?_⟩⟩, ⟨rfl, rfl, rfl, by simp, fun k _ hk => setRow_other w g k _ (fun e => hk (by simp [Value.ownBlock, e]))⟩, fun k hk => Or.inl hk⟩
      · simp only [List.size_toArray, List.length_append, List.length_take, List.length_drop, Array.length_toList]
        omega
      · rw [htake, ← hlen]
        exact List.take_left
    · have holds : ∀ j u, xs[j]? = some u → w.cell? ((⟨g, 0, none⟩ : Addr).add j) = some u := hown.cells (g := g) rfl
      have hr := run_append_grow (P := P) w t ty e i z ht hi hz ⟨g, 0, none⟩ n cap xs hown.1 holds a m c news hl hnews (by omega) (by omega) (growslice_fits (by omega) hbytes)
      have hgr := grown cap (by omega) (Value.ownBlock (.slice (some ⟨g, 0, none⟩) n cap))
      exact ⟨_, _, e, hr, hgr.1, hgr.2, fun k hk => by simp [Value.ownBlock] at hk; omega⟩

def killed (hp : Hp) : Option Nat → Hp
  | none => hp
  | some r => upd hp r .dead

theorem killed_not (hp : Hp) {kill : Option Nat} {s : Nat} (h : kill ≠ some s) : killed hp kill s = hp s := by
  cases kill with
  | none => rfl
  | some r => exact upd_other hp _ fun q => h (by rw [q])

/-- A row of one's own has grown into a new one: the old one is gone. -/
theorem Ok.grow (h : Ok w0 N φ tm hp a w) {id : Nat} (hid : ¬ N id) (kill : Option Nat) (v v' : Value) (w' : World) (p : Bool) (e : Ty) (l : List e.den) (te : TypeId) (xs : List Value)
    (hkill : ∀ b, v.ownBlock = some b → ∃ r, kill = some r ∧ blkOf φ r (hp r) = some b) (hkN : ∀ r, kill = some r → N r)
    (hg : w.grownBy w' v.ownBlock) (ho : ownsM w' w0.mine te e.size v' l.length xs) (hl : RdL (Rd w (XX w0 w φ hp p) e) l xs)
    (hb : ∀ k, v'.ownBlock = some k → v.ownBlock = some k ∨ w.heap.size ≤ k) :
    ∃ φ' : Nat → Blk, (φ' id).v = v' ∧ (∀ r, N r → φ' r = φ r) ∧ Ok w0 (fun r => N r ∨ (id ≤ r ∧ r < id + 1)) φ' tm (upd (killed hp kill) id (.own p e l)) a w' := by
  refine ⟨fun r => if r = id then ⟨v', (v'.ownBlock).getD 0, e.size, l.length⟩ else φ r, by simp, fun r hr => by
    have : r ≠ id := fun q => hid (q ▸ hr)
    simp [this], ?_⟩
  generalize hφ' : (fun r => if r = id then (⟨v', (v'.ownBlock).getD 0, e.size, l.length⟩ : Blk) else φ r) = φ'
  have e1 : φ' id = ⟨v', (v'.ownBlock).getD 0, e.size, l.length⟩ := by subst hφ'; simp
  have e2 : ∀ r, r ≠ id → φ' r = φ r := by intro r q; subst hφ'; simp [q]
  have e3 : ∀ r, N r → φ' r = φ r := fun r hr => e2 r fun q => hid (q ▸ hr)
  have hsz : w.heap.size ≤ w'.heap.size := hg.size
  have hblkold : ∀ s b, s ≠ id → blkOf φ' s (upd (killed hp kill) id (.own p e l) s) = some b → kill ≠ some s ∧ blkOf φ s (hp s) = some b := by
    intro s b q hs
    rw [upd_other _ _ q] at hs
    by_cases q' : kill = some s
    · subst q'
      simp only [killed, upd_same] at hs
      cases hs
    · refine ⟨q', ?_⟩
      rw [killed_not hp q'] at hs
      have ee := e2 s q
      cases hq : hp s <;> rw [hq] at hs <;> simp only [blkOf] at hs ⊢ <;> first | (cases hs; done) | (rw [ee] at hs; exact hs)
  have hWn : ∀ b, b < w.heap.size → Wr φ' (upd (killed hp kill) id (.own p e l)) b → Wr φ hp b := by
    rintro b hlt ⟨s, hs⟩
    by_cases q : s = id
    · subst q
      rw [upd_same] at hs
      simp only [blkOf, e1] at hs
      rcases hb b hs with q | q
      · obtain ⟨r, _, hr⟩ := hkill b q
        exact ⟨r, hr⟩
      · omega
    · exact ⟨s, (hblkold s b q hs).2⟩
  have hTW : ∀ b, v.ownBlock = some b → Wr φ hp b := fun b hb' => by
    obtain ⟨r, _, hr⟩ := hkill b hb'
    exact ⟨r, hr⟩
  have hTB : ∀ k, v.ownBlock = some k → w0.mine k := fun k hk => by
    obtain ⟨r, _, hr⟩ := hkill k hk
    exact (h.blk_lt hr).1
  have hX : ∀ p b, XX w0 w φ hp p b → XX w0 w' φ' (upd (killed hp kill) id (.own p e l)) p b := by
    intro p' b hx
    exact ⟨Nat.lt_of_lt_of_le hx.1 hsz, fun q => hx.2.1 (by
      rcases q with ⟨s, hs⟩
      by_cases q : s = id
      · subst q
        rw [upd_same] at hs
        simp only [blkOf, e1] at hs
        rcases hb b hs with q | q
        · exact hTW b q
        · have := hx.1; omega
      · exact ⟨s, (hblkold s b q (by rw [upd_other _ _ q] at hs ⊢; exact hs)).2⟩), hx.2.2⟩
  refine h.step (fun b => v.ownBlock = some b) (fun _ q => Or.inl q) e3
    (h.below.grown hg hTB) hsz (fun b hlt hT => hg.block b hlt (fun q => hT q.symm)) hTW hWn (fun s => ?_) (fun s s' b hs hs' => ?_)
  · by_cases q : s = id
    · subst q
      right
      rw [upd_same]
      refine ⟨Or.inr ⟨Nat.le_refl _, Nat.lt_succ_self _⟩, by rw [e1], by rw [e1], fun b hb' => by rw [e1] at hb' ⊢; simp only at hb' ⊢; rw [hb']; rfl, te, xs, by rw [e1]; exact ho, ?_⟩
      refine hl.mono (fun b hx => ?_) (fun b hx => hg.block b hx.1 fun q => hx.2.1 (hTW b q.symm))
      exact hx.mono hsz hWn
    · rw [upd_other _ _ q]
      by_cases q' : kill = some s
      · right
        subst q'
        simp only [killed, upd_same]
        trivial
      · rw [killed_not hp q']
        have hno : ∀ b, blkOf φ s (hp s) = some b → ¬ v.ownBlock = some b := fun b hb' e => by
          obtain ⟨r, hr, hr2⟩ := hkill b e
          exact q' (by rw [hr, h.disj s r b hb' hr2])
        cases hs : hp s with
        | dead => right; trivial
        | box cs => have := h.rows s; rw [hs] at this hno; exact Or.inl ⟨rfl, this.1, hno⟩
        | own p' e' l' => have := h.rows s; rw [hs] at this hno; exact Or.inl ⟨rfl, this.1, hno⟩
        | fro p' e' l' => have := h.rows s; rw [hs] at this hno; exact Or.inl ⟨rfl, this.1.1, hno⟩
  · have key : ∀ s s', s = id → s' ≠ id → blkOf φ' s (upd (killed hp kill) id (.own p e l) s) = some b → blkOf φ' s' (upd (killed hp kill) id (.own p e l) s') = some b → False := by
      intro s s' q q' hs hs'
      obtain ⟨k1, k2⟩ := hblkold s' b q' hs'
      subst q
      rw [upd_same] at hs
      simp only [blkOf, e1] at hs
      rcases hb b hs with q | q
      · obtain ⟨r, hr, hr2⟩ := hkill b q
        exact k1 (by rw [hr, h.disj s' r b k2 hr2])
      · have := (h.blk_lt k2).2
        omega
    by_cases q : s = id
    · by_cases q' : s' = id
      · rw [q, q']
      · exact (key s s' q q' hs hs').elim
    · by_cases q' : s' = id
      · exact (key s' s q' q hs' hs).elim
      · exact h.disj s s' b (hblkold s b q hs).2 (hblkold s' b q' hs').2
end
end Go.V

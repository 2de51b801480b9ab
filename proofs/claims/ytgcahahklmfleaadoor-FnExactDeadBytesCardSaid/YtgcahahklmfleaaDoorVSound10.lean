/- V: stores. -/
import Derived.Test.YtgcahahklmfleaaDoorVSound9
import Derived.Laws.CopyOwn
set_option linter.unusedVariables false
set_option linter.unusedSimpArgs false
namespace Go.V
open Go.RowKit

theorem setCells_eq : ∀ (ds cs : List AV) (off : Nat), off + ds.length ≤ cs.length → setCells cs off ds = cs.take off ++ ds ++ cs.drop (off + ds.length)
  | [], cs, off, h => by simp [setCells]
  | d :: ds, cs, off, h => by
    simp only [List.length_cons] at h
    simp only [setCells]
    rw [setCells_eq ds (cs.set off d) (off + 1) (by rw [List.length_set]; omega)]
    rw [List.take_succ_eq_append_getElem (by rw [List.length_set]; omega)]
    rw [List.take_set_of_le (Nat.le_refl _), List.drop_set_of_lt (by omega)]
    simp [Nat.add_assoc, Nat.add_comm 1]

/-- A part of a row, written. -/
theorem row_set {xs d us : List Value} {i n off : Nat} (hd : ∀ j, j < n → xs[i * n + j]? = d[j]?) (hdl : d.length = n) (ho : off + us.length ≤ n) (hx : i * n + n ≤ xs.length) :
    xs.take (i * n) ++ (d.take off ++ us ++ d.drop (off + us.length)) ++ xs.drop (i * n + n) = xs.take (i * n + off) ++ us ++ xs.drop (i * n + off + us.length) := by
  apply List.ext_getElem?
  intro j
  simp only [List.getElem?_append, List.getElem?_take, List.getElem?_drop, List.length_append, List.length_take, List.length_drop]
  have e1 : min (i * n) xs.length = i * n := by omega
  have e2 : min off d.length = off := by omega
  have e3 : min (i * n + off) xs.length = i * n + off := by omega
  rw [e1, e2, e3]
  by_cases c1 : j < i * n
  · have q1 : j < i * n + (off + us.length + (d.length - (off + us.length))) := by omega
    have q2 : j < i * n + off + us.length := by omega
    have q3 : j < i * n + off := by omega
    simp [c1, q1, q2, q3]
  · by_cases c2 : j < i * n + off
    · have q1 : j < i * n + (off + us.length + (d.length - (off + us.length))) := by omega
      have q2 : j < i * n + off + us.length := by omega
      have q3 : j - i * n < off + us.length := by omega
      have q4 : j - i * n < off := by omega
      have := hd (j - i * n) (by omega)
      rw [show i * n + (j - i * n) = j by omega] at this
      simp [c1, c2, q1, q2, q3, q4, this]
    · by_cases c3 : j < i * n + off + us.length
      · have q1 : j < i * n + (off + us.length + (d.length - (off + us.length))) := by omega
        have q3 : j - i * n < off + us.length := by omega
        have q4 : ¬ j - i * n < off := by omega
        simp [c1, c2, c3, q1, q3, q4]
        congr 1
        omega
      · by_cases c4 : j < i * n + n
        · have q1 : j < i * n + (off + us.length + (d.length - (off + us.length))) := by omega
          have q3 : ¬ j - i * n < off + us.length := by omega
          have := hd (j - i * n) (by omega)
          rw [show i * n + (j - i * n) = j by omega] at this
          simp [c1, c2, c3, q1, q3]
          rw [show off + us.length + (j - i * n - (off + us.length)) = j - i * n by omega, ← this]
          congr 1
          omega
        · have q1 : ¬ j < i * n + (off + us.length + (d.length - (off + us.length))) := by omega
          simp [c1, c2, c3, q1]
          congr 1
          omega

section
variable {P : Program} {tb : Tab} {w0 : Bs} {w : World} {N : Nat → Prop} {φ : Nat → Blk} {tm : List AV} {hp : Hp} {a : Act}

/-- A row that is one's own has been written. -/
theorem Ok.write (h : Ok w0 N φ tm hp a w) {r b : Nat} (hb : blkOf φ r (hp r) = some b) (cur : Array Value) (row : Row) (hk : ∀ b', blkOf φ r row = some b' → b' = b)
    (hrow : (∀ p b', XX w0 w φ hp p b' → XX w0 (w.setRow b cur) φ (upd hp r row) p b') → (∀ b', b' ≠ b → (w.setRow b cur).heap[b']? = w.heap[b']?) →
      RowOk (w.setRow b cur) (XX w0 (w.setRow b cur) φ (upd hp r row)) N φ w0.mine r row) :
    Ok w0 N φ tm (upd hp r row) a (w.setRow b cur) := by
  have hsz : w.heap.size ≤ (w.setRow b cur).heap.size := by simp
  have hother : ∀ b', b' ≠ b → (w.setRow b cur).heap[b']? = w.heap[b']? := fun b' q => setRow_other w b b' cur q
  have hW : ∀ b', b' < w.heap.size → Wr φ (upd hp r row) b' → Wr φ hp b' := by
    rintro b' _ ⟨s, hs⟩
    by_cases q : s = r
    · subst q; rw [upd_same] at hs; rw [hk b' hs]; exact ⟨_, hb⟩
    · rw [upd_other hp _ q] at hs; exact ⟨s, hs⟩
  have hB := (h.blk_lt hb).1
  refine h.step (fun b' => b' = b) (fun _ q => q) (fun _ _ => rfl) (h.below.setRow hB cur) hsz (fun b' _ q => hother b' q) (fun b' q => by subst q; exact ⟨r, hb⟩) hW (fun s => ?_) (fun s s' b' hs hs' => ?_)
  · by_cases q : s = r
    · subst q
      right
      rw [upd_same]
      exact hrow (fun p b' hx => hx.mono hsz hW) hother
    · rw [upd_other hp _ q]
      have hno : ∀ b', blkOf φ s (hp s) = some b' → ¬ b' = b := fun b' hs' e => q (h.disj s r b' hs' (by rw [e]; exact hb))
      cases hs : hp s with
      | dead => right; trivial
      | box cs => have := h.rows s; rw [hs] at this hno; exact Or.inl ⟨rfl, this.1, hno⟩
      | own p' e' l' => have := h.rows s; rw [hs] at this hno; exact Or.inl ⟨rfl, this.1, hno⟩
      | fro p' e' l' => have := h.rows s; rw [hs] at this hno; exact Or.inl ⟨rfl, this.1.1, hno⟩
  · have key : ∀ s, blkOf φ s (upd hp r row s) = some b' → blkOf φ s (hp s) = some b' := by
      intro s hs
      by_cases q : s = r
      · subst q; rw [upd_same] at hs; rw [hk b' hs]; exact hb
      · rwa [upd_other hp _ q] at hs
    exact h.disj s s' b' (key s hs) (key s' hs')

theorem run_storeVar {t : Nat} {u : Ty} {i : TypeInfo} {d : TypeDesc} {z : Value} (ht : TyFact P tb t u i d z) (b o : Nat) (v : Value) (hl : v.cells.size = u.size) (hf : ∀ x ∈ v.cells.toList, x.oneCell' = true)
    (cur : Array Value) (te : TypeId) (hg : w.heap[b]? = some (.cells cur te (0, 0))) (hle : o + u.size ≤ cur.size) :
    (Instr.storeAt t (.pointer (some ⟨b, o, none⟩)) v).run P w = .ok () (w.setRow b (cur.toList.take o ++ v.cells.toList ++ cur.toList.drop (o + u.size)).toArray) := by
  have hs := run_storeCells_at P b o te v.cells.toList 0 cur w hg (by simpa [hl] using hle) hf
  simp only [Nat.add_zero, Array.length_toList, hl] at hs
  unfold Instr.storeAt Instr.sureAddr storeVar
  simp only [Sem.run_bind, Sem.run_pure, Result.andThen_ok, ht.run_sizeOf w, hl, ne_eq, not_true_eq_false, if_false, hs]

/-- A variable, written. -/
theorem store_box (h : Ok w0 N φ tm hp a w) {t : Nat} {u : Ty} {i : TypeInfo} {d : TypeDesc} {z : Value} (ht : TyFact P tb t u i d z) {r i' off : Nat} {cs : List AV} {p v : Value} {av : AV}
    (hrow : hp r = .box cs) (hp' : RepV w (XX w0 w φ hp) N φ (.ptr r i' off) p) (hv : RepV w (XX w0 w φ hp) N φ av v) (htold : told av = true) (hlen : (cellsOf av).length = u.size) (hle : off + u.size ≤ cs.length) :
    ∃ w', (Instr.storeAt t p v).run P w = .ok () w' ∧ Ok w0 N φ tm (upd hp r (.box (setCells cs off (cellsOf av)))) a w' := by
  obtain ⟨hN, hi, rfl⟩ := hp'
  have hr := h.rows r
  rw [hrow] at hr
  obtain ⟨_, hB, hn, vs, te, hh, hcs⟩ := hr
  rw [hn] at hi
  have hi0 : i' = 0 := by omega
  subst hi0
  have hc := cells_rep hv htold
  have hcl := hc.len
  have hvl := hcs.len
  simp only [Array.length_toList] at hcl hvl
  rw [Nat.zero_mul, Nat.zero_add]
  refine ⟨_, run_storeVar ht _ _ _ (by omega) hc.flat vs te hh (by omega), ?_⟩
  refine h.write (by rw [hrow]; rfl) _ _ (fun b' hb' => by cases hb'; rfl) (fun hX hw => ?_)
  have hcs' := hcs.mono (w' := w.setRow (φ r).b (vs.toList.take off ++ v.cells.toList ++ vs.toList.drop (off + u.size)).toArray) hX (fun p b hx => hw b fun q => hx.2.1 ⟨r, by rw [hrow, q]; rfl⟩) (fun _ q => q) (fun _ _ => rfl)
  have hc' := hc.mono (w' := w.setRow (φ r).b (vs.toList.take off ++ v.cells.toList ++ vs.toList.drop (off + u.size)).toArray) hX (fun p b hx => hw b fun q => hx.2.1 ⟨r, by rw [hrow, q]; rfl⟩) (fun _ q => q) (fun _ _ => rfl)
  refine ⟨hN, hB, hn, _, te, setRow_heap w _ _ _ _ _ hh, ?_⟩
  have e := setCells_eq (cellsOf av) cs off (by omega)
  rw [hlen] at e
  exact cast (congrArg (fun q => RepL _ _ _ _ q _) e.symm) (((hcs'.take off).append hc').append (hcs'.drop (off + u.size)))

/-- An element of a row of one's own, or a part of it, written: the value's cells read as one in memory that nobody writes any more. -/
theorem store_own (h : Ok w0 N φ tm hp a w) {t : Nat} {u : Ty} {i : TypeInfo} {d : TypeDesc} {z : Value} (ht : TyFact P tb t u i d z) {r i' off : Nat} {p q : Bool} {e : Ty} {l : List e.den} {pv v : Value} {y : u.den} {zz : e.den}
    (hrow : hp r = .own p e l) (hp' : RepV w (XX w0 w φ hp) N φ (.ptr r i' off) pv) (hy : Rd w (XX w0 w φ hp q) u y v.cells.toList) (hs : setAt u y e (l.getD i' e.dflt) off = some zz) :
    ∃ w', (Instr.storeAt t pv v).run P w = .ok () w' ∧ Ok w0 N φ tm (upd hp r (.own (p || q) e (l.set i' zz))) a w' := by
  obtain ⟨hN, hi, rfl⟩ := hp'
  have hr := h.rows r
  rw [hrow] at hr
  obtain ⟨_, hsz, hn, hb, te, xs, ho, hl⟩ := hr
  rw [hn] at hi
  have hXp : ∀ p', (p' = true → (p || q) = true) → ∀ b, XX w0 w φ hp p' b → XX w0 w φ hp (p || q) b := by
    intro p' hpq b hx
    exact ⟨hx.1, hx.2.1, Bs.see_up hpq hx.2.2⟩
  have hl' : RdL (Rd w (XX w0 w φ hp (p || q)) e) l xs := hl.mono (hXp p (fun q' => by rw [q']; rfl)) (fun _ _ => rfl)
  have hy' : Rd w (XX w0 w φ hp (p || q)) u y v.cells.toList := hy.mono (hXp q (fun q' => by rw [q']; cases p <;> rfl)) (fun _ _ => rfl)
  obtain ⟨ds, hds, hdj⟩ := hl'.get (fun x d hh => hh.len) i' e.dflt hi
  obtain ⟨g1, g2⟩ := setAt_ok hy' e hs hds
  have hset := hl'.set (fun x d hh => hh.len) i' zz _ hi g1
  have hyl := hy.len
  have hxl : xs.length = l.length * e.size := ho.1
  have hle : i' * e.size + e.size ≤ xs.length := by
    rw [hxl, ← Nat.succ_mul]
    exact Nat.mul_le_mul_right _ hi
  rw [← hyl] at g1
  have hset' : RdL (Rd w (XX w0 w φ hp (p || q)) e) (l.set i' zz) (xs.take (i' * e.size + off) ++ v.cells.toList ++ xs.drop (i' * e.size + off + u.size)) := by
    have := row_set (us := v.cells.toList) (off := off) hdj hds.len (by omega) hle
    rw [hyl] at this
    rw [← this]
    exact hset
  rcases ho.2 with ⟨hnil, h0⟩ | ⟨g, cap, cur, hv, hBg, hg, hnc, hcm, hcs, htake⟩
  · omega
  · have hbg : (φ r).b = g := hb g (by rw [hv]; rfl)
    have hblk : blkOf φ r (hp r) = some g := by rw [hrow]; simp [blkOf, hv, Value.ownBlock]
    have hcurl : l.length * e.size ≤ cur.size := by rw [hcs]; exact Nat.mul_le_mul_right _ hnc
    rw [hbg, hsz]
    refine ⟨_, run_storeVar ht _ _ _ (by simpa using hyl) hy.flat cur te hg (by omega), ?_⟩
    refine h.write hblk _ _ (fun b' hb' => ?_) (fun hX hw => ?_)
    · simp only [blkOf, hv, Value.ownBlock, Option.some.injEq] at hb'
      exact hb'.symm
    · have hyl' : v.cells.size = u.size := by simpa using hyl
      refine ⟨hN, hsz, by rw [hn, List.length_set], hb, te, _, ⟨?_, Or.inr ⟨g, cap, _, by rw [List.length_set]; exact hv, hBg, setRow_heap w g _ _ _ _ hg, by rw [List.length_set]; exact hnc, hcm, ?_, ?_⟩⟩, hset'.mono (hX (p || q)) (fun b hx => hw b fun qq => hx.2.1 ⟨r, by rw [hblk, qq]⟩)⟩
      · simp only [List.length_append, List.length_take, List.length_drop, List.length_set]
        omega
      · simp only [List.size_toArray, List.length_append, List.length_take, List.length_drop, Array.length_toList]
        omega
      · rw [List.length_set]
        show List.take _ (List.toArray _).toList = _
        rw [← htake]
        simp only [List.take_append, List.length_append, List.length_take, Array.length_toList, List.drop_take, List.take_take]
        rw [show min (l.length * e.size) (i' * e.size + off) = i' * e.size + off by omega, show min (i' * e.size + off) (l.length * e.size) = i' * e.size + off by omega]
        rw [show min (i' * e.size + off) cur.size = i' * e.size + off by omega]
        rw [List.take_of_length_le (l := v.cells.toList) (by simp; omega), hyl']
end
end Go.V

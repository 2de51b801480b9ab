/- V: zeros, and parts put into them. -/
import Derived.Test.YtgcahahklmfleaaDoorVSound13
set_option linter.unusedVariables false
set_option linter.unusedSimpArgs false
namespace Go.V
open Go.RowKit

theorem fold_list (off : Nat) : ∀ (l : List Value) (k : Nat) (cells : Array Value), off + k + l.length ≤ cells.size →
    (l.zipIdx k).foldl (fun (cs : Array Value) (p : Value × Nat) => cs.setIfInBounds (off + p.2) p.1) cells = (cells.toList.take (off + k) ++ l ++ cells.toList.drop (off + k + l.length)).toArray
  | [], k, cells, h => by simp
  | v :: l, k, cells, h => by
    simp only [List.length_cons] at h
    simp only [List.zipIdx_cons, List.foldl_cons]
    rw [fold_list off l (k + 1) _ (by simp; omega)]
    simp only [Array.toList_setIfInBounds]
    have e := list_seg_step cells.toList (off + k) v l (by simp; omega)
    simp only [← Nat.add_assoc] at e ⊢
    rw [e, List.length_cons, ← Nat.add_assoc]

theorem fold_fill (off : Nat) (vs cells : Array Value) (h : off + vs.size ≤ cells.size) :
    vs.zipIdx.foldl (fun cs (c, j) => cs.setIfInBounds (off + j) c) cells = (cells.toList.take off ++ vs.toList ++ cells.toList.drop (off + vs.size)).toArray := by
  have := fold_list off vs.toList 0 cells (by simpa using h)
  rw [← Array.foldl_toList, Array.toList_zipIdx]
  simpa using this

section
variable {P : Program} {tb : Tab} {w0 : Bs} {w w' : World} {N : Nat → Prop} {φ : Nat → Blk} {tm : List AV} {hp : Hp} {a : Act}

/-- A struct's parts. -/
theorem fill_build {X : Bool → Nat → Prop} {offs : List (Nat × Nat)} {ρ : Operand → AV} {ρv : Operand → Value} (hρ : ∀ x, RepV w X N φ (ρ x) (ρv x)) : ∀ (ps : List (Nat × Operand)) {z cs : List AV} {cells : Array Value},
    placeParts z offs ρ ps = some cs → RepL w X N φ z cells.toList → ∃ cells', Instr.fill (offs.toArray[·]?) cells (ps.map fun p => (p.1, ρv p.2)) = some cells' ∧ RepL w X N φ cs cells'.toList
  | [], z, cs, cells, h, hz => by cases h; exact ⟨cells, rfl, hz⟩
  | (f, x) :: ps, z, cs, cells, h, hz => by
    simp only [placeParts] at h
    split at h
    · rename_i p hp'
      obtain ⟨hc, h⟩ := fin_bif' h
      simp only [Bool.and_eq_true] at hc
      obtain ⟨⟨h1, h2⟩, h3⟩ := hc
      have h2 := Nat.eq_of_beq_eq_true h2
      have h3 := Nat.le_of_ble_eq_true h3
      have hx := cells_rep (hρ x) h1
      have hxl := hx.len
      have hzl := hz.len
      simp only [Array.length_toList] at hxl hzl
      have hnew : RepL w X N φ (setCells z p.1 (cellsOf (ρ x))) (cells.toList.take p.1 ++ (ρv x).cells.toList ++ cells.toList.drop (p.1 + (ρv x).cells.size)) := by
        rw [setCells_eq _ _ _ (by omega), ← hxl]
        exact ((hz.take p.1).append hx).append (hz.drop _)
      obtain ⟨cells', g1, g2⟩ := fill_build hρ ps (cells := (cells.toList.take p.1 ++ (ρv x).cells.toList ++ cells.toList.drop (p.1 + (ρv x).cells.size)).toArray) h hnew
      refine ⟨cells', ?_, g2⟩
      simp only [List.map_cons, Instr.fill]
      have hp2 : offs.toArray[f]? = some p := by simpa using hp'
      rw [hp2]
      simp only []
      rw [if_neg (by simp; omega), fold_fill _ _ _ (by omega)]
      exact g1
    · cases h

theorem run_build' (hP : tabCheck P tb = true) {t : Nat} {u : Ty} {offs : List (Nat × Nat)} {X : Bool → Nat → Prop} {ρ : Operand → AV} {ρv : Operand → Value} {ps : Array (Nat × Operand)} {cs : List AV} (hρ : ∀ x, RepV w X N φ (ρ x) (ρv x))
    (ht : look tb.ty t = some u) (ho : look tb.off t = some offs) (h : placeParts (zero u) offs ρ ps.toList = some cs) :
    ∃ v, (Instr.build t (ps.map fun (i, x) => (i, ρv x))).run P w = .ok v w ∧ RepV w X N φ (.agg cs) v := by
  obtain ⟨i, d, z, hf⟩ := tyFact hP ht
  obtain ⟨fs, hu, hm, _⟩ := offFact hP ho
  obtain ⟨cells, g1, g2⟩ := fill_build hρ ps.toList h (zeroCheck_rep hf.zeroOk)
  refine ⟨.agg cells, run_build w t _ cells ?_, cells.toList, by simp, g2⟩
  unfold Program.built
  simp only [hf.info, hu, hf.zero, hm]
  have : (ps.map fun (i, x) => (i, ρv x)).toList = ps.toList.map fun p => (p.1, ρv p.2) := by simp
  rw [this]
  exact g1

theorem made_succ (z : Array Value) (n : Nat) (hz : 0 < z.size) : (madeCells z ((n + 1) * z.size)).toList = z.toList ++ (madeCells z (n * z.size)).toList := by
  apply List.ext_getElem?
  intro j
  rw [List.getElem?_append]
  simp only [madeCells, Array.toList_map, Array.toList_range, List.getElem?_map, List.getElem?_range', Array.length_toList]
  by_cases h1 : j < z.size
  · have : j < (n + 1) * z.size := by rw [Nat.succ_mul]; omega
    simp [h1, this, List.getElem?_range, Nat.mod_eq_of_lt h1, getElem!_pos]
  · by_cases h2 : j < (n + 1) * z.size
    · have h3 : j - z.size < n * z.size := by rw [Nat.succ_mul] at h2; omega
      have h4 : (j - z.size) % z.size = j % z.size := by
        rw [← Nat.mod_eq_sub_mod (by omega)]
      simp [h1, h2, h3, h4, List.getElem?_range]
    · have h3 : ¬ j - z.size < n * z.size := by rw [Nat.succ_mul] at h2; omega
      simp [h1, h2, h3, List.getElem?_range]

theorem made_rd {X : Nat → Prop} {e : Ty} {z : Array Value} (hz : Rd w X e e.dflt z.toList) (h0 : 0 < e.size) : ∀ n, RdL (Rd w X e) (List.replicate n e.dflt) (madeCells z (n * e.size)).toList
  | 0 => by simp [madeCells, RdL, Array.range_zero']
  | n + 1 => by
    have hl : z.size = e.size := by simpa using hz.len
    refine ⟨z.toList, (madeCells z (n * e.size)).toList, ?_, hz, made_rd hz h0 n⟩
    rw [← hl]
    exact made_succ z n (by omega)
end
end Go.V

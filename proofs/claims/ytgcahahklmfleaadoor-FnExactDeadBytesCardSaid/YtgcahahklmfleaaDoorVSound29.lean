/- V: a function that V runs keeps its contract. -/
import Derived.Test.YtgcahahklmfleaaDoorVSound28
set_option linter.unusedVariables false
set_option linter.unusedSimpArgs false
namespace Go.V
open Go.RowKit

section
variable {P : Program} {w0 : Bs} {w : World} {N : Nat → Prop} {φ : Nat → Blk} {tm : List AV} {hp : Hp} {a : Act}

theorem repT_split {X : Bool → Nat → Prop} : ∀ {cs : List AV} {vs us : List Value} {n : Nat}, RepT w X N φ cs (vs ++ us) → vs.length = n → RepT w X N φ (cs.take n) vs ∧ RepT w X N φ (cs.drop n) us
  | cs, [], us, n, h, hn => by
    cases hn
    exact ⟨rfl, h⟩
  | [], v :: vs, us, n, h, hn => by
    unfold RepT at h
    cases h
  | c :: cs, v :: vs, us, n, h, hn => by
    cases hn
    have h' : RepT w X N φ (c :: cs) (v :: (vs ++ us)) := h
    unfold RepT at h'
    obtain ⟨u, us', hq, h1, h2⟩ := h'
    cases hq
    obtain ⟨g1, g2⟩ := repT_split (n := vs.length) h2 rfl
    refine ⟨?_, g2⟩
    show RepT _ _ _ _ (c :: cs.take vs.length) (v :: vs)
    unfold RepT
    exact ⟨v, vs, rfl, h1, g1⟩

/-- What the rows that were given stand for. -/
def RootOk (φ : Nat → Blk) : (A : List Pm) → (tup (ins A)).den → List Value → Nat → Prop
  | [], _, us, _ => us = []
  | .val _ :: A, x, us, i => ∃ u us', us = u :: us' ∧ RootOk φ A x.2 us' i
  | .io _ _ :: A, x, us, i => ∃ us', us = .pointer (some ⟨(φ i).b, 0, none⟩) :: us' ∧ RootOk φ A x.2 us' (i + 1)
  | .lend t :: A, x, us, i => ∃ u us', us = u :: us' ∧ (∀ (w : World) (Y : Bool → Nat → Prop) (N : Nat → Prop), (∀ k, k < t.rows → N (i + k)) → RepL w Y N φ (injO true t x.1 i) u.cells.toList) ∧ RootOk φ A x.2 us' (i + t.rows)
  | .give _ :: A, x, us, i => ∃ u us', us = u :: us' ∧ RootOk φ A x.2 us' i
  | .fn f n :: A, x, us, i => ∃ vs us', us = .func (.func f) #[] vs.toArray :: us' ∧ vs.length = n ∧ RootOk φ A x (vs ++ us') i

theorem valOf_cells {t : Ty} {cs : List AV} {c : List Value} {X : Bool → Nat → Prop} (h : RepL w X N φ cs c) (hl : cs.length = t.size) (hpl : t.agg = false → t.size = 1) : (valOf t c).cells.toList = c := by
  have hc := h.len
  unfold valOf
  cases ha : t.agg with
  | true => rw [if_pos rfl]; simp [Value.cells]
  | false =>
    rw [if_neg (by simp)]
    have := hpl ha
    match cs, c, h, hc with
    | [_], [v], h, _ =>
      obtain ⟨u, us, e, h1, _, _⟩ := h
      cases e
      show (v.cells).toList = [v]
      cases v <;> simp [Value.oneCell'] at h1 <;> rfl
    | [], _, _, hc => simp at hl; omega
    | _ :: _ :: _, _, _, _ => simp at hl; omega
    | [_], [], _, hc => simp at hc
    | [_], _ :: _ :: _, _, hc => simp at hc
theorem leaf_size {t : Ty} (h : t.agg = false) : t.size = 1 := by cases t <;> simp [Ty.agg] at h <;> rfl

set_option maxHeartbeats 1000000 in
theorem ent_ok {Xa : Nat → Prop} : ∀ {A : List Pm} {x : (tup (ins A)).den} {us : List Value} {bs : List Nat}, ArgR w Xa A x us bs →
    ∃ R U : List Blk, R.length = rootN A ∧ U.length = auxN A ∧ ∀ {i j : Nat} {φ : Nat → Blk} {N M : Nat → Prop} {Y : Bool → Nat → Prop}, (∀ k (h : k < R.length), φ (i + k) = R[k] ∧ N (i + k)) → (∀ k (h : k < U.length), φ (j + k) = U[k] ∧ N (j + k)) →
      (∀ b ∈ bs, M b) → (∀ b, Xa b → Y true b) →
      RepT w Y N φ (entT A x i j) us ∧ (∀ r row, (r, row) ∈ entH A x i j → RowOk w Y N φ M r row) ∧ blksU φ (entH A x i j) = bs ∧ ((entH A x i j).map (·.1)).Perm (List.range' i (rootN A) ++ List.range' j (auxN A)) ∧ RootOk φ A x us i
  | [], x, us, bs, h => by
    obtain ⟨rfl, rfl⟩ := h
    exact ⟨[], [], rfl, rfl, fun _ _ _ _ => ⟨rfl, fun _ _ q => (by cases q), rfl, List.Perm.refl _, rfl⟩⟩
  | .val t :: A, x, us, bs, h => by
    obtain ⟨c, us', rfl, h1, h2⟩ := h
    obtain ⟨R, U, r1, r2, r3⟩ := ent_ok h2
    refine ⟨R, U, r1, r2, fun {i j φ N M Y} hR hU hM hX => ?_⟩
    obtain ⟨g1, g2, g3, g4, g5⟩ := r3 hR hU hM hX
    have hc : RepL w Y N φ (inj true t x.1) c := (Rd.mono (Y := Y true) hX (fun _ _ => rfl) h1).inj
    refine ⟨?_, g2, g3, g4, _, us', rfl, g5⟩
    show RepT _ _ _ _ (wrapAgg t (inj true t x.1) :: entT A x.2 _ _) _
    unfold RepT
    exact ⟨_, us', rfl, valOf_rep hc (by rw [← hc.len, h1.len]), g1⟩
  | .io o t :: A, x, us, bs, h => by
    obtain ⟨b, vs, te, us', bl, bs', rfl, hh, rfl, h1, h2⟩ := h
    obtain ⟨R, U, r1, r2, r3⟩ := ent_ok h2
    have hbl : bl.length = bif o then t.rows else 0 := by
      cases o with
      | true => simp only [if_true] at h1; exact h1.len.2
      | false => simp only [Bool.false_eq_true, if_false] at h1; rw [h1.1]; rfl
    refine ⟨⟨.pointer none, b, 0, 1⟩ :: R, bl ++ U, by simp [r1, rootN]; omega, by simp [r2, auxN, hbl], fun {i j φ N M Y} hR hU hM hX => ?_⟩
    have hR0 := hR 0 (by simp)
    simp only [Nat.add_zero, List.getElem_cons_zero] at hR0
    have hR1 : ∀ k (q : k < R.length), φ (i + 1 + k) = R[k] ∧ N (i + 1 + k) := fun k q => by
      have := hR (k + 1) (by simp; omega)
      rw [show i + 1 + k = i + (k + 1) by omega]
      simpa using this
    have hU0 : ∀ k (q : k < bl.length), φ (j + k) = bl[k] ∧ N (j + k) := fun k q => by
      have := hU k (by rw [List.length_append]; omega)
      rwa [List.getElem_append_left q] at this
    have hU1 : ∀ k (q : k < U.length), φ (j + (bif o then t.rows else 0) + k) = U[k] ∧ N (j + (bif o then t.rows else 0) + k) := fun k q => by
      have := hU (bl.length + k) (by rw [List.length_append]; omega)
      rw [List.getElem_append_right (by omega)] at this
      rw [← hbl, Nat.add_assoc]
      simpa using this
    simp only [List.mem_cons, List.mem_append] at hM
    obtain ⟨g1, g2, g3, g4, g5⟩ := r3 hR1 hU1 (fun b hb => hM b (Or.inr (Or.inr hb))) hX
    refine ⟨?_, fun r row hm => ?_, ?_, ?_, us', by rw [hR0.1], g5⟩
    · show RepT _ _ _ _ (.ptr i 0 0 :: entT A x.2 _ _) _
      unfold RepT
      exact ⟨_, us', rfl, ⟨hR0.2, by rw [hR0.1]; exact Nat.zero_lt_one, by rw [hR0.1]; simp⟩, g1⟩
    · simp only [entH, List.mem_cons, List.mem_append, Prod.mk.injEq] at hm
      rcases hm with ⟨rfl, rfl⟩ | hm | hm
      · refine ⟨hR0.2, by rw [hR0.1]; exact hM b (Or.inl rfl), by rw [hR0.1], vs, te, by rw [hR0.1]; exact hh, ?_⟩
        cases o with
        | true => simp only [if_true] at h1; exact h1.cells (fun k q => (hU0 k q).1) (fun k q => (hU0 k q).2)
        | false => simp only [Bool.false_eq_true, if_false] at h1; exact (Rd.mono hX (fun _ _ => rfl) h1.2).inj
      · cases o with
        | true =>
          simp only [if_true] at h1
          exact h1.rowsOk hX (fun k q => (hU0 k q).1) (fun k q => (hU0 k q).2) (fun b hb => hM b (Or.inr (Or.inl hb))) r row hm
        | false => cases hm
      · exact g2 r row hm
    · simp only [entH]
      unfold blksU
      rw [List.filterMap_cons]
      simp only [blkOf, hR0.1]
      show _ :: blksU φ _ = _
      rw [blksU_append, g3]
      cases o with
      | true => simp only [if_true] at h1; rw [cond_true, h1.blks fun k q => (hU0 k q).1]
      | false => simp only [Bool.false_eq_true, if_false] at h1; rw [h1.1]; rfl
    · simp only [entH, List.map_cons, List.map_append, rootN, auxN]
      have hk : ((bif o then rowsO true t x.1 j else []).map (·.1)) = List.range' j (bif o then t.rows else 0) := by
        cases o with
        | true => rw [cond_true, cond_true, rowsO_keys]
        | false => rfl
      rw [hk, Nat.add_comm 1 (rootN A), List.range'_succ, ← List.range'_append_1]
      rw [List.perm_iff_count]
      intro z
      have := (List.perm_iff_count.1 g4) z
      simp only [List.count_append, List.count_cons] at this ⊢
      omega
  | .lend t :: A, x, us, bs, h => by
    obtain ⟨c, us', bl, bs', rfl, rfl, h1, h2⟩ := h
    obtain ⟨R, U, r1, r2, r3⟩ := ent_ok h2
    have hbl := h1.len.2
    refine ⟨bl ++ R, U, by rw [List.length_append, hbl, r1]; rfl, r2, fun {i j φ N M Y} hR hU hM hX => ?_⟩
    have hR0 : ∀ k (q : k < bl.length), φ (i + k) = bl[k] ∧ N (i + k) := fun k q => by
      have := hR k (by rw [List.length_append]; omega)
      rwa [List.getElem_append_left q] at this
    have hR1 : ∀ k (q : k < R.length), φ (i + t.rows + k) = R[k] ∧ N (i + t.rows + k) := fun k q => by
      have := hR (bl.length + k) (by rw [List.length_append]; omega)
      rw [List.getElem_append_right (by omega)] at this
      rw [← hbl, Nat.add_assoc]
      simpa using this
    simp only [List.mem_append] at hM
    obtain ⟨g1, g2, g3, g4, g5⟩ := r3 hR1 hU (fun b hb => hM b (Or.inr hb)) hX
    have hcells : ∀ (w2 : World) (Y : Bool → Nat → Prop) (N : Nat → Prop), (∀ k, k < t.rows → N (i + k)) → RepL w2 Y N φ (injO true t x.1 i) c := fun w2 Y N hN => h1.cells (fun k q => (hR0 k q).1) (fun k q => hN k (by omega))
    have hc := hcells w Y N fun k q => (hR0 k (by omega)).2
    have hcl : (injO true t x.1 i).length = t.size := by rw [← hc.len, h1.len.1]
    refine ⟨?_, fun r row hm => ?_, ?_, ?_, _, us', rfl, fun w2 Y2 N2 hN2 => by rw [valOf_cells hc hcl leaf_size]; exact hcells w2 Y2 N2 hN2, g5⟩
    · show RepT _ _ _ _ (wrapAgg t (injO true t x.1 i) :: entT A x.2 _ _) _
      unfold RepT
      exact ⟨_, us', rfl, valOf_rep hc hcl, g1⟩
    · simp only [entH, List.mem_append] at hm
      rcases hm with hm | hm
      · exact h1.rowsOk hX (fun k q => (hR0 k q).1) (fun k q => (hR0 k q).2) (fun b hb => hM b (Or.inl hb)) r row hm
      · exact g2 r row hm
    · simp only [entH]
      rw [blksU_append, g3, h1.blks fun k q => (hR0 k q).1]
    · simp only [entH, List.map_append, rootN, auxN]
      rw [rowsO_keys, ← List.range'_append_1, List.append_assoc]
      exact g4.append_left _
  | .give t :: A, x, us, bs, h => by
    obtain ⟨c, us', bl, bs', rfl, rfl, h1, h2⟩ := h
    obtain ⟨R, U, r1, r2, r3⟩ := ent_ok h2
    have hbl := h1.len.2
    refine ⟨R, bl ++ U, r1, by rw [List.length_append, hbl, r2]; rfl, fun {i j φ N M Y} hR hU hM hX => ?_⟩
    have hU0 : ∀ k (q : k < bl.length), φ (j + k) = bl[k] ∧ N (j + k) := fun k q => by
      have := hU k (by rw [List.length_append]; omega)
      rwa [List.getElem_append_left q] at this
    have hU1 : ∀ k (q : k < U.length), φ (j + t.rows + k) = U[k] ∧ N (j + t.rows + k) := fun k q => by
      have := hU (bl.length + k) (by rw [List.length_append]; omega)
      rw [List.getElem_append_right (by omega)] at this
      rw [← hbl, Nat.add_assoc]
      simpa using this
    simp only [List.mem_append] at hM
    obtain ⟨g1, g2, g3, g4, g5⟩ := r3 hR hU1 (fun b hb => hM b (Or.inr hb)) hX
    have hc : RepL w Y N φ (injO true t x.1 j) c := h1.cells (fun k q => (hU0 k q).1) (fun k q => (hU0 k q).2)
    have hcl : (injO true t x.1 j).length = t.size := by rw [← hc.len, h1.len.1]
    refine ⟨?_, fun r row hm => ?_, ?_, ?_, _, us', rfl, g5⟩
    · show RepT _ _ _ _ (wrapAgg t (injO true t x.1 j) :: entT A x.2 _ _) _
      unfold RepT
      exact ⟨_, us', rfl, valOf_rep hc hcl, g1⟩
    · simp only [entH, List.mem_append] at hm
      rcases hm with hm | hm
      · exact h1.rowsOk hX (fun k q => (hU0 k q).1) (fun k q => (hU0 k q).2) (fun b hb => hM b (Or.inl hb)) r row hm
      · exact g2 r row hm
    · simp only [entH]
      rw [blksU_append, g3, h1.blks fun k q => (hU0 k q).1]
    · simp only [entH, List.map_append, rootN, auxN]
      rw [rowsO_keys, ← List.range'_append_1]
      rw [List.perm_iff_count]
      intro z
      have := (List.perm_iff_count.1 g4) z
      simp only [List.count_append] at this ⊢
      omega
  | .fn f n :: A, x, us, bs, h => by
    obtain ⟨vs, us', rfl, hn, h2⟩ := h
    obtain ⟨R, U, r1, r2, r3⟩ := ent_ok (A := A) h2
    refine ⟨R, U, r1, r2, fun {i j φ N M Y} hR hU hM hX => ?_⟩
    obtain ⟨g1, g2, g3, g4, g5⟩ := r3 hR hU hM hX
    obtain ⟨k1, k2⟩ := repT_split g1 hn
    refine ⟨?_, g2, g3, g4, vs, us', rfl, hn, g5⟩
    show RepT _ _ _ _ (.fn f ((entT A x i j).take n) :: (entT A x i j).drop n) _
    unfold RepT
    refine ⟨_, us', rfl, ?_, k2⟩
    unfold RepV
    exact ⟨vs, rfl, k1⟩

/-- Where a function begins. -/
theorem S.enter {A : List Pm} {x : (tup (ins A)).den} {as : List Value} {bs : List Nat} {Xa : Nat → Prop} (h : ArgR w Xa A x as bs) (hXa : ∀ b, Xa b → b < w.heap.size ∧ b ∉ bs) (hnd : bs.Nodup) (n : Nat) :
    ∃ φ, S ⟨w, (· ∈ bs), rootN A, φ, Xa⟩ (start A n x) { tmps := as.toArray ++ Array.replicate (n - as.toArray.size) undef, defers := [] } w ∧ RootOk φ A x as 0 := by
  obtain ⟨R, U, r1, r2, r3⟩ := ent_ok h
  have hR : ∀ k (q : k < R.length), (fun r => (R ++ U).getD r default) (0 + k) = R[k] ∧ 0 + k < rootN A + auxN A := fun k q => by
    refine ⟨?_, by omega⟩
    show (R ++ U).getD (0 + k) default = _
    rw [Nat.zero_add, List.getD, List.getElem?_append_left q, List.getElem?_eq_getElem q]
    rfl
  have hU : ∀ k (q : k < U.length), (fun r => (R ++ U).getD r default) (rootN A + k) = U[k] ∧ rootN A + k < rootN A + auxN A := fun k q => by
    refine ⟨?_, by omega⟩
    show (R ++ U).getD (rootN A + k) default = _
    rw [← r1, List.getD, List.getElem?_append_right (by omega), Nat.add_sub_cancel_left, List.getElem?_eq_getElem q]
    rfl
  generalize hφ : (fun r => (R ++ U).getD r default) = φ at hR hU
  refine ⟨φ, ⟨fun r => r < rootN A + auxN A, φ, fun _ q => q, ?_⟩, ?_⟩
  rotate_left
  · exact (r3 (Y := fun _ _ => True) (M := fun _ => True) (N := fun r => r < rootN A + auxN A) hR hU (fun _ _ => trivial) (fun _ _ => trivial)).2.2.2.2
  obtain ⟨_, _, hbl, hperm, _⟩ := r3 (Y := fun _ _ => True) (M := fun _ => True) (N := fun r => r < rootN A + auxN A) hR hU (fun _ _ => trivial) (fun _ _ => trivial)
  have hkn : ((entH A x 0 (rootN A)).map (·.1)).Nodup := hperm.nodup_iff.2 (by
    have : List.range' 0 (rootN A) ++ List.range' (rootN A) (auxN A) = List.range' 0 (rootN A + auxN A) := by
      have := List.range'_append_1 (s := 0) (m := rootN A) (n := auxN A)
      rwa [Nat.zero_add] at this
    rw [this]
    exact List.nodup_range')
  let w0 : Bs := ⟨w, (· ∈ bs), rootN A, φ, Xa⟩
  have hin : ∀ r row, apply noRow (entH A x 0 (rootN A)) r = row → row ≠ .dead → (r, row) ∈ entH A x 0 (rootN A) := fun r row e hne => by
    by_cases q : r ∈ (entH A x 0 (rootN A)).map (·.1)
    · obtain ⟨z, hz, rfl⟩ := List.mem_map.1 q
      rw [apply_mem _ hkn hz] at e
      rw [← e]
      exact hz
    · rw [apply_not _ q] at e
      exact absurd e.symm hne
  have hblk : ∀ r b, blkOf φ r (apply noRow (entH A x 0 (rootN A)) r) = some b → (r, apply noRow (entH A x 0 (rootN A)) r) ∈ entH A x 0 (rootN A) ∧ b ∈ bs := fun r b hb => by
    have hm := hin r _ rfl (fun e => by rw [e] at hb; cases hb)
    exact ⟨hm, by rw [← hbl]; exact List.mem_filterMap.2 ⟨_, hm, hb⟩⟩
  have hX : ∀ b, Xa b → XX w0 w φ (apply noRow (entH A x 0 (rootN A))) true b := fun b hb => ⟨(hXa b hb).1, fun ⟨r, hr⟩ => (hXa b hb).2 (hblk r b hr).2, Or.inr ⟨rfl, hb⟩⟩
  obtain ⟨g1, g2, _, _, _⟩ := r3 (Y := XX w0 w φ (apply noRow (entH A x 0 (rootN A)))) (M := w0.mine) (N := fun r => r < rootN A + auxN A) hR hU (fun b hb => Or.inr hb) hX
  have hl := g1.len
  refine ⟨BelowG.refl w0, rfl, by simp [start, hl], fun i => ?_, fun r => ?_, fun r s b h1 h2 => ?_, fun r hr => ⟨Nat.lt_of_lt_of_le hr (Nat.le_add_right _ _), rfl⟩⟩
  · show RepV _ _ _ _ ((entT A x 0 (rootN A) ++ List.replicate (n - (entT A x 0 (rootN A)).length) AV.junk).getD i AV.junk) _
    by_cases hi : i < (entT A x 0 (rootN A)).length
    · have h1 : (entT A x 0 (rootN A))[i]? = some ((entT A x 0 (rootN A))[i]'hi) := List.getElem?_eq_getElem _
      obtain ⟨u, h2, h3⟩ := repL_getElem g1 h1
      have e1 : (entT A x 0 (rootN A) ++ List.replicate (n - (entT A x 0 (rootN A)).length) AV.junk).getD i AV.junk = (entT A x 0 (rootN A))[i]'hi := by
        simp only [List.getD, List.getElem?_append_left hi, h1, Option.getD_some]
      have hlt : i < as.length := by rw [hl]; exact hi
      have h2' : as[i] = u := by
        have := h2
        rw [List.getElem?_eq_getElem hlt] at this
        exact Option.some.inj this
      have e2 : (as.toArray ++ Array.replicate (n - as.toArray.size) undef).getD i undef = u := by
        have hb : i < (as.toArray ++ Array.replicate (n - as.toArray.size) undef).size := by simp; omega
        rw [← Array.getElem_eq_getD (h := hb)]
        rw [Array.getElem_append_left (by simpa using hlt)]
        simpa using h2'
      show RepV _ _ _ _ _ ((as.toArray ++ Array.replicate (n - as.toArray.size) undef).getD i undef)
      rw [e1, e2]
      exact h3
    · have e1 : (entT A x 0 (rootN A) ++ List.replicate (n - (entT A x 0 (rootN A)).length) AV.junk).getD i AV.junk = .junk := by
        simp only [List.getD]
        rw [List.getElem?_append_right (by omega)]
        cases hq : (List.replicate (n - (entT A x 0 (rootN A)).length) AV.junk)[i - (entT A x 0 (rootN A)).length]? with
        | none => rfl
        | some v => exact (List.eq_of_mem_replicate (List.mem_of_getElem? hq))
      rw [e1]
      trivial
  · show RowOk _ _ _ _ _ _ (apply noRow (entH A x 0 (rootN A)) r)
    cases hq : apply noRow (entH A x 0 (rootN A)) r with
    | dead => trivial
    | box cs => exact g2 r _ (hin r _ hq (fun q => by cases q))
    | own p e l => exact g2 r _ (hin r _ hq (fun q => by cases q))
    | fro p e l => exact g2 r _ (hin r _ hq (fun q => by cases q))
  · have h1 : blkOf φ r (apply noRow (entH A x 0 (rootN A)) r) = some b := h1
    have h2 : blkOf φ s (apply noRow (entH A x 0 (rootN A)) s) = some b := h2
    obtain ⟨m1, _⟩ := hblk r b h1
    obtain ⟨m2, _⟩ := hblk s b h2
    have := filterMap_inj (f := fun u : Nat × Row => blkOf φ u.1 u.2) (by
      have := hnd
      rw [← hbl] at this
      exact this) m1 m2 h1 h2
    exact (Prod.mk.inj this).1

theorem ld_ptr {X : Bool → Nat → Prop} {u : Ty} {av v : AV} {p : Value} (hs : ld hp u av some = some v) (h : RepV w X N φ av p) : ∃ b o, p = .pointer (some ⟨b, o, none⟩) := by
  cases av <;> try (cases hs; done)
  · obtain ⟨_, _, e⟩ := h
    exact ⟨_, _, e⟩
  · obtain ⟨_, b, o, xs, e, _⟩ := h
    exact ⟨_, _, e⟩

/-- A function's results, read. -/
theorem res_run {tb : Tab} {st : St} (hP : tabCheck P tb = true) (h : Ok w0 N φ st.tm st.hp a w) {f : ResultVar → Sem Value} (hf1 : ∀ t, f (.tmp t) = pure (a.tmps.getD t undef))
    (hf2 : ∀ x t, f (.cell x t) = (do loadVar t (← asAddr (a.tmps.getD x undef)))) : ∀ {rv : List ResultVar} {cells : List AV}, resCells tb st rv = some cells →
    ∃ vs, (rv.mapM f).run P w = .ok vs w ∧ RepT w (XX w0 w φ st.hp) N φ cells vs
  | [], cells, hs => by
    cases hs
    exact ⟨[], by simp, rfl⟩
  | .tmp t :: rv, cells, hs => by
    simp only [resCells] at hs
    split at hs
    · rename_i l hl
      cases hs
      obtain ⟨vs, h1, h2⟩ := res_run hP h hf1 hf2 hl
      refine ⟨a.tmps.getD t undef :: vs, ?_, _, _, rfl, h.tms t, h2⟩
      rw [List.mapM_cons, Sem.run_bind, hf1, Sem.run_pure, Result.andThen_ok, Sem.run_bind, h1, Result.andThen_ok, Sem.run_pure]
    · cases hs
  | .cell x t :: rv, cells, hs => by
    simp only [resCells] at hs
    split at hs
    · rename_i u hu
      split at hs
      · rename_i v l hv hl
        cases hs
        obtain ⟨i, d, z, ht⟩ := tyFact hP hu
        obtain ⟨vs, h1, h2⟩ := res_run hP h hf1 hf2 hl
        obtain ⟨y, g1, g2⟩ := ld_ok h ht hv (h.tms x)
        refine ⟨y :: vs, ?_, _, _, rfl, g2, h2⟩
        have g3 : (f (.cell x t)).run P w = .ok y w := by
          rw [hf2]
          obtain ⟨b, o, hq⟩ := ld_ptr hv (h.tms x)
          rw [hq] at g1 ⊢
          have g1' : (loadVar t ⟨b, o, none⟩).run P w = .ok y w := by
            have e : (Instr.loadAt t (.pointer (some ⟨b, o, none⟩))) = (loadVar t ⟨b, o, none⟩) := by
              simp [Instr.loadAt, Instr.sureAddr, asAddr]
            rw [e] at g1
            exact g1
          simpa [asAddr] using g1'
        rw [List.mapM_cons, Sem.run_bind, g3, Result.andThen_ok, Sem.run_bind, h1, Result.andThen_ok, Sem.run_pure]
      · cases hs
    · cases hs

end
end Go.V

/- V: a region whose order is open, run by V in the order of the text. -/
import Derived.Test.YtgcahahklmfleaaDoorVSound23
set_option linter.unusedVariables false
set_option linter.unusedSimpArgs false
namespace Go.V
open Go.RowKit

section
variable {P : Program} {tb : Tab} {ct : List (Nat × Cn)} {w0 : Bs} {w : World} {N : Nat → Prop} {φ : Nat → Blk} {tm : List AV} {hp : Hp} {a : Act} {Q : Exit → Act → World → Prop}

theorem bif_true {c x : Bool} (h : (bif c then x else false) = true) : c = true ∧ x = true := by
  cases c with
  | true => exact ⟨rfl, h⟩
  | false => cases h

theorem uni_mem {j : Nat} : ∀ {a b : List Nat}, j ∈ uni a b ↔ j ∈ a ∨ j ∈ b
  | [], b => by simp [uni]
  | x :: a, b => by
    simp only [uni]
    cases hb : memB b x with
    | true =>
      rw [cond_true, uni_mem, List.mem_cons]
      have := memB_iff.1 hb
      constructor
      · rintro (h | h)
        · exact Or.inl (Or.inr h)
        · exact Or.inr h
      · rintro ((h | h) | h)
        · subst h; exact Or.inr this
        · exact Or.inl h
        · exact Or.inr h
    | false => rw [cond_false, List.mem_cons, uni_mem, List.mem_cons, or_assoc]
theorem ancL_mem {done : List (List Nat)} {j : Nat} : ∀ {es : List Edge}, j ∈ ancL done es ↔ ∃ e ∈ es, Region.binds .any e = true ∧ (j = e.on ∨ j ∈ done.getD e.on [])
  | [] => by simp [ancL]
  | e :: es => by
    simp only [ancL]
    cases hb : Region.binds .any e with
    | true =>
      rw [cond_true, uni_mem, ancL_mem, List.mem_cons]
      constructor
      · rintro (h | ⟨e', h1, h2⟩)
        · exact ⟨e, List.mem_cons_self .., hb, h⟩
        · exact ⟨e', List.mem_cons_of_mem _ h1, h2⟩
      · rintro ⟨e', h1, h2, h3⟩
        rcases List.mem_cons.1 h1 with q | q
        · subst q; exact Or.inl h3
        · exact Or.inr ⟨e', q, h2, h3⟩
    | false =>
      rw [cond_false, ancL_mem]
      constructor
      · rintro ⟨e', h1, h2⟩
        exact ⟨e', List.mem_cons_of_mem _ h1, h2⟩
      · rintro ⟨e', h1, h2, h3⟩
        rcases List.mem_cons.1 h1 with q | q
        · subst q; rw [hb] at h2; cases h2
        · exact ⟨e', q, h2, h3⟩
theorem ancs_mem {o : Oper} {done : List (List Nat)} {j : Nat} : j ∈ ancs o done ↔ ∃ e ∈ o.after.toList, Region.binds .any e = true ∧ (j = e.on ∨ j ∈ done.getD e.on []) := ancL_mem

theorem dops_run {R : Type} {all : List Oper} {tm0 : List AV} {hp0 : Hp} {nx0 : Nat} {k : St → Option R} {r : R} :
    ∀ (os pre : List Oper) (i : Nat) (done : List (List Nat)) (gs : List G) (tm : List AV) (nx : Nat), all = pre ++ os → pre.length = i → done.length = i → (∀ g ∈ gs, done.getD g.i [] = g.A) →
      GL tb ct all tm0 hp0 nx0 i nx gs → tmsOk all os i done = true → tm = rept tm0 (fun _ => true) gs → dops tb ct all hp0 os i done (toRecs gs) tm nx k = some r →
      ∃ gs' nx', GL tb ct all tm0 hp0 nx0 all.length nx' gs' ∧ k ⟨rept tm0 (fun _ => true) gs', rep hp0 (fun _ => true) gs', nx'⟩ = some r
  | [], pre, i, done, gs, tm, nx, hall, hpre, hdl, hd, hgl, ht, htm, hs => by
    simp only [dops] at hs
    have hl : all.length = i := by rw [hall]; simp [hpre]
    rw [hl]
    refine ⟨gs, nx, hgl, ?_⟩
    rw [← htm, ← replayAll_rep hgl.skips]
    exact hs
  | o :: os, pre, i, done, gs, tm, nx, hall, hpre, hdl, hd, hgl, ht, htm, hs => by
    simp only [tmsOk] at ht
    obtain ⟨hc, ht⟩ := bif_true ht
    simp only [Bool.and_eq_true, List.all_eq_true, Bool.or_eq_true, Bool.not_eq_true'] at hc
    obtain ⟨hc1, hc2⟩ := hc
    have hon : ∀ e ∈ o.after.toList, Region.binds .any e = true → e.on < i := fun e he hb => by
      rcases hc1 e he with q | q
      · rw [hb] at q; cases q
      · exact Nat.lt_of_succ_le (Nat.le_of_ble_eq_true q)
    have hat : all[i]? = some o := by rw [hall, List.getElem?_append_right (by omega), hpre]; simp
    have hanc : ∀ j ∈ ancs o done, ∃ e ∈ o.after.toList, Region.binds .any e = true ∧ (j = e.on ∨ ∃ g' ∈ gs, g'.i = e.on ∧ j ∈ g'.A) := fun j hj => by
      obtain ⟨e, h1, h2, h3⟩ := ancs_mem.1 hj
      refine ⟨e, h1, h2, h3.imp id fun q => ?_⟩
      obtain ⟨g', q1, q2⟩ := hgl.cover e.on (hon e h1 h2)
      exact ⟨g', q1, q2, by rw [← hd g' q1, q2]; exact q⟩
    have hlt : ∀ j ∈ ancs o done, j < i := fun j hj => by
      obtain ⟨e, h1, h2, h3⟩ := hanc j hj
      rcases h3 with q | ⟨g', q1, q2, q3⟩
      · rw [q]; exact hon e h1 h2
      · obtain ⟨o', f⟩ := hgl.fact g' q1
        have := f.lt j q3
        have := hon e h1 h2
        omega
    have farT : ∀ (g : G), g.A = ancs o done → g.dst = o.dst → g.nm = named all o → ∀ y ∈ gs, memB g.A y.i = true ∨ FarT y g := fun g e1 e2 e3 y hy => by
      obtain ⟨o', f⟩ := hgl.fact y hy
      have h1 := (hgl.lt y hy).1
      rcases hc2 y.i (List.mem_range.2 h1) with q | q
      · left; rw [e1]; exact q
      · right
        rw [f.at_] at q
        simp only [Bool.and_eq_true, apartL_iff] at q
        refine ⟨fun t h2 h3 => ?_, fun t h2 => ?_⟩
        · rw [e2] at h2
          rw [f.dst, f.nm] at h3
          exact q.1 t h3 h2
        · rw [f.dst] at h2
          rw [e3]
          exact q.2 t h2
    have hdone : ∀ (g : G), g.i = i → g.A = ancs o done → ∀ g' ∈ g :: gs, (done ++ [ancs o done]).getD g'.i [] = g'.A := fun g e1 e2 g' hg' => by
      rcases List.mem_cons.1 hg' with q | q
      · subst q
        rw [e1, e2]
        simp [List.getD, ← hdl]
      · have h1 := (hgl.lt g' q).1
        rw [← hd g' q]
        simp [List.getD, List.getElem?_append_left (show g'.i < done.length by omega)]
    have hdeps : ∀ e ∈ o.after.toList, Region.binds .any e = true → e.on < i ∧ e.on ∈ ancs o done := fun e h1 h2 => ⟨hon e h1 h2, ancs_mem.2 ⟨e, h1, h2, Or.inl rfl⟩⟩
    simp only [dops] at hs
    rcases guarded_cases hs with ⟨hw, hs⟩ | ⟨hw, hs⟩
    · rw [oper_bind] at hs
      obtain ⟨⟨v, us, nx'⟩, ho, hs⟩ := Option.bind_eq_some_iff.1 hs
      simp only [] at hs
      obtain ⟨hfree, hs⟩ := fin_bif' hs
      rw [replay_rep hgl.skips] at ho
      let g : G := ⟨i, true, us, reads tb ct o tm (replay hp0 (ancs o done) (toRecs gs)), ancs o done, o.dst, v, named all o, nx, nx'⟩
      have hgl' := hgl.cons (g := g) (o := o) rfl rfl (oper_shape ho).1 ⟨hat, rfl, rfl, hdeps, hanc, hlt, Or.inl ⟨by rw [← htm]; exact hw, rfl, by rw [← htm]; show reads tb ct o tm (replay hp0 (ancs o done) (toRecs gs)) = reads tb ct o tm (rep hp0 (memB (ancs o done)) gs); rw [replay_rep hgl.skips], by rw [← htm]; exact ho⟩⟩ (fun y hy => by
        rcases farT g rfl rfl rfl y hy with q | q
        · exact Or.inl q
        · cases hyg : y.go with
          | true =>
            rcases free_far hfree y hy hyg with q' | ⟨q1, q2, q3, q4⟩
            · exact Or.inl q'
            · exact Or.inr ⟨⟨q1, q2, q3, q4⟩, q⟩
          | false =>
            obtain ⟨o', f⟩ := hgl.fact y hy
            rcases f.run with ⟨_, q1, _⟩ | ⟨_, _, q1, q2, _⟩
            · rw [q1] at hyg; cases hyg
            · exact Or.inr ⟨⟨fun r _ => (by rw [q2]; simp), fun r hr => (by rw [q1] at hr; cases hr), fun r _ => (by rw [q1]; simp [hard]), fun r _ => (by rw [q1]; simp)⟩, q⟩)
      exact dops_run os (pre ++ [o]) (i + 1) (done ++ [ancs o done]) (g :: gs) (setD tm o.dst v) nx' (by rw [hall]; simp) (by simp [hpre]) (by simp [hdl]) (hdone g rfl rfl) hgl' ht
        (by simp only [rept, cond_true, htm, g]) (by simpa only [toRecs, g, cond_true] using hs)
    · let g : G := ⟨i, false, [], [], ancs o done, o.dst, .tup [], named all o, nx, nx⟩
      have hgl' := hgl.cons (g := g) (o := o) rfl rfl (Nat.le_refl _) ⟨hat, rfl, rfl, hdeps, hanc, hlt, Or.inr ⟨by rw [← htm]; exact hw, rfl, rfl, rfl, rfl, rfl⟩⟩ (fun y hy => by
        rcases farT g rfl rfl rfl y hy with q | q
        · exact Or.inl q
        · exact Or.inr ⟨⟨fun r hr => (by cases hr), fun r _ => (by simp [g]), fun r hr => (by cases hr), fun r hr => (by cases hr)⟩, q⟩)
      exact dops_run os (pre ++ [o]) (i + 1) (done ++ [ancs o done]) (g :: gs) (setD tm o.dst (.tup [])) nx (by rw [hall]; simp) (by simp [hpre]) (by simp [hdl]) (hdone g rfl rfl) hgl' ht
        (by simp only [rept, cond_true, htm, g]) (by simpa only [toRecs, g, cond_false] using hs)
end
end Go.V

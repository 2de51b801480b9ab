/- V: a region whose order is open comes to the same in every order. -/
import Derived.Test.YtgcahahklmfleaaDoorVSound22
set_option linter.unusedVariables false
set_option linter.unusedSimpArgs false
namespace Go.V
open Go.RowKit

/-- Is an operation carried out? -/
def wantedV (all : List Oper) (o : Oper) (tm : List AV) : Option Bool :=
  match o.guard with
  | none => some true
  | some (j, want) => match all[j]? with
    | some g => match g.dst with
      | some d => match tm.getD d .junk with
        | .bool b => some (b == want)
        | .tup [] => some false
        | _ => none
      | none => none
    | none => none

theorem set_same {tm : List AV} {d : Nat} {v : AV} (h : tm.getD d .junk = v) : tm.set d v = tm := by
  by_cases hd : d < tm.length
  · apply List.ext_getElem? 
    intro i
    by_cases hi : d = i
    · subst hi
      simp [List.getD, hd] at h
      simp [hd, h]
    · simp [List.getElem?_set_ne hi]
  · exact List.set_eq_of_length_le (by omega)

theorem guarded_cases {R : Type} {all : List Oper} {o : Oper} {tm : List AV} {go by_ : List AV → Option R} {r : R} (h : guarded all o tm go by_ = some r) :
    (wantedV all o tm = some true ∧ go tm = some r) ∨ (wantedV all o tm = some false ∧ by_ tm = some r) := by
  unfold guarded at h
  unfold wantedV
  split at h
  · rename_i hg
    rw [hg]
    exact Or.inl ⟨rfl, h⟩
  · rename_i j want hg
    rw [hg]
    simp only []
    split at h
    · rename_i g hj
      simp only [hj]
      split at h
      · rename_i d hd
        simp only [hd]
        split at h
        · rename_i b hb
          simp only [hb]
          cases b <;> cases want <;> simp only [cond_true, cond_false] at h <;> rw [set_same hb] at h
          · exact Or.inl ⟨rfl, h⟩
          · exact Or.inr ⟨rfl, h⟩
          · exact Or.inr ⟨rfl, h⟩
          · exact Or.inl ⟨rfl, h⟩
        · rename_i hb
          simp only [hb]
          first | exact Or.inr ⟨rfl, h⟩ | exact Or.inr ⟨trivial, h⟩
        · cases h
      · cases h
    · cases h

section
variable {P : Program} {tb : Tab} {ct : List (Nat × Cn)} {w0 : Bs} {w : World} {N : Nat → Prop} {φ : Nat → Blk} {tm : List AV} {hp : Hp} {a : Act} {Q : Exit → Act → World → Prop}

theorem wanted_ok (h : Ok w0 N φ tm hp a w) {all : List Oper} {o : Oper} {b : Bool} (hw : wantedV all o tm = some b) : Region.wanted o (yielded all.toArray a.tmps) = b := by
  unfold wantedV at hw
  unfold Region.wanted
  split at hw
  · rename_i hg
    rw [hg]
    cases hw
    rfl
  · rename_i j want hg
    rw [hg]
    simp only []
    split at hw
    · rename_i g hj
      split at hw
      · rename_i d hd
        split at hw
        · rename_i b' hb
          cases hw
          have ht := h.tms d
          rw [hb] at ht
          have ht : a.tmps.getD d undef = .bool b' := ht
          have h2 : a.tmps[d]? = some (.bool b') := by
            cases hq : a.tmps[d]? with
            | none =>
              have : a.tmps.getD d undef = undef := by simp [hq]
              rw [this] at ht
              cases ht
            | some u =>
              have : a.tmps.getD d undef = u := by simp [hq]
              rw [this] at ht
              rw [ht]
          have e : yielded all.toArray a.tmps j = some b' := by
            unfold yielded
            simp [hj, hd, h2]
          rw [e]
          cases b' <;> cases want <;> rfl
        · rename_i hb
          cases hw
          have ht := h.tms d
          rw [hb] at ht
          unfold RepV at ht
          obtain ⟨vs, ht, hvs⟩ := ht
          unfold RepT at hvs
          subst hvs
          have e : yielded all.toArray a.tmps j = none := by
            unfold yielded
            simp only [List.getElem?_toArray, hj, Option.bind_some, hd]
            cases hq : a.tmps[d]? with
            | none => rfl
            | some u =>
              have : a.tmps.getD d undef = u := by simp [hq]
              rw [this] at ht
              rw [ht]
          rw [e]
          cases want <;> rfl
        · cases hw
      · cases hw
    · cases hw

theorem pw_lt {R : G → G → Prop} : ∀ {gs : List G}, gs.Pairwise (fun x y => y.i < x.i ∧ R x y) → ∀ x ∈ gs, ∀ y ∈ gs, y.i < x.i → R x y
  | [], _, x, hx, _, _, _ => by cases hx
  | g :: gs, hpw, x, hx, y, hy, hlt => by
    rw [List.pairwise_cons] at hpw
    rcases List.mem_cons.1 hx with q | q
    · subst q
      rcases List.mem_cons.1 hy with q' | q'
      · subst q'; omega
      · exact (hpw.1 y q').2
    · rcases List.mem_cons.1 hy with q' | q'
      · subst q'
        have := (hpw.1 x q).1
        omega
      · exact pw_lt hpw.2 x q y q' hlt

/-- What is known of an operation that V carried out. -/
structure Fact (tb : Tab) (ct : List (Nat × Cn)) (all : List Oper) (tm0 : List AV) (hp0 : Hp) (gs : List G) (g : G) (o : Oper) : Prop where
  at_ : all[g.i]? = some o
  dst : g.dst = o.dst
  nm : g.nm = named all o
  deps : ∀ e ∈ o.after.toList, Region.binds .any e = true → e.on < g.i ∧ e.on ∈ g.A
  anc : ∀ j ∈ g.A, ∃ e ∈ o.after.toList, Region.binds .any e = true ∧ (j = e.on ∨ ∃ g' ∈ gs, g'.i = e.on ∧ j ∈ g'.A)
  lt : ∀ j ∈ g.A, j < g.i
  run : (wantedV all o (rept tm0 (fun j => Nat.blt j g.i) gs) = some true ∧ g.go = true ∧ g.rd = reads tb ct o (rept tm0 (fun j => Nat.blt j g.i) gs) (rep hp0 (memB g.A) gs) ∧
      oper tb ct o (rept tm0 (fun j => Nat.blt j g.i) gs) (rep hp0 (memB g.A) gs) g.id (fun v us nx => some (v, us, nx)) = some (g.v, g.us, g.nx)) ∨
    (wantedV all o (rept tm0 (fun j => Nat.blt j g.i) gs) = some false ∧ g.go = false ∧ g.us = [] ∧ g.rd = [] ∧ g.v = .tup [] ∧ g.id = g.nx)

structure GL (tb : Tab) (ct : List (Nat × Cn)) (all : List Oper) (tm0 : List AV) (hp0 : Hp) (nx0 n nx : Nat) (gs : List G) : Prop where
  fact : ∀ g ∈ gs, ∃ o, Fact tb ct all tm0 hp0 gs g o
  pw : gs.Pairwise (fun x y => y.i < x.i ∧ (y.nx ≤ x.id ∧ (memB x.A y.i = true ∨ (Far y x ∧ FarT y x))))
  cover : ∀ i, i < n → ∃ g ∈ gs, g.i = i
  lt : ∀ g ∈ gs, g.i < n ∧ nx0 ≤ g.id ∧ g.id ≤ g.nx ∧ g.nx ≤ nx
  nx : nx0 ≤ nx

theorem GL.skips {all : List Oper} {tm0 : List AV} {hp0 : Hp} {nx0 n nx : Nat} {gs : List G} (h : GL tb ct all tm0 hp0 nx0 n nx gs) : ∀ g ∈ gs, g.go = false → g.us = [] := fun g hg hgo => by
  obtain ⟨o, f⟩ := h.fact g hg
  rcases f.run with ⟨_, q, _⟩ | ⟨_, _, q, _⟩
  · rw [q] at hgo; cases hgo
  · exact q

/-- One more operation. -/
theorem GL.cons {all : List Oper} {tm0 : List AV} {hp0 : Hp} {nx0 n nx : Nat} {gs : List G} (h : GL tb ct all tm0 hp0 nx0 n nx gs) {g : G} {o : Oper} (hi : g.i = n) (hid : g.id = nx) (hnx : g.id ≤ g.nx)
    (f : all[n]? = some o ∧ g.dst = o.dst ∧ g.nm = named all o ∧ (∀ e ∈ o.after.toList, Region.binds .any e = true → e.on < n ∧ e.on ∈ g.A) ∧
      (∀ j ∈ g.A, ∃ e ∈ o.after.toList, Region.binds .any e = true ∧ (j = e.on ∨ ∃ g' ∈ gs, g'.i = e.on ∧ j ∈ g'.A)) ∧ (∀ j ∈ g.A, j < n) ∧
      ((wantedV all o (rept tm0 (fun _ => true) gs) = some true ∧ g.go = true ∧ g.rd = reads tb ct o (rept tm0 (fun _ => true) gs) (rep hp0 (memB g.A) gs) ∧
        oper tb ct o (rept tm0 (fun _ => true) gs) (rep hp0 (memB g.A) gs) g.id (fun v us nx => some (v, us, nx)) = some (g.v, g.us, g.nx)) ∨
      (wantedV all o (rept tm0 (fun _ => true) gs) = some false ∧ g.go = false ∧ g.us = [] ∧ g.rd = [] ∧ g.v = .tup [] ∧ g.id = g.nx)))
    (far : ∀ y ∈ gs, memB g.A y.i = true ∨ (Far y g ∧ FarT y g)) : GL tb ct all tm0 hp0 nx0 (n + 1) g.nx (g :: gs) := by
  subst hi
  have hnot : ∀ l : List Nat, (∀ j ∈ l, j < g.i) → memB l g.i = false := fun l hl => by
    cases hb : memB l g.i with
    | false => rfl
    | true => have := hl _ (memB_iff.1 hb); omega
  have e1 : rept tm0 (fun j => Nat.blt j g.i) (g :: gs) = rept tm0 (fun _ => true) gs := by
    simp only [rept]
    have : Nat.blt g.i g.i = false := by
      cases hb : Nat.blt g.i g.i with
      | false => rfl
      | true => have := Nat.le_of_ble_eq_true hb; omega
    rw [this, cond_false]
    exact rept_all fun y hy => by
      have := (h.lt y hy).1
      show Nat.blt y.i g.i = true
      exact Nat.ble_eq_true_of_le this
  refine ⟨fun g' hg' => ?_, ?_, fun i hi => ?_, fun g' hg' => ?_, ?_⟩
  · rcases List.mem_cons.1 hg' with q | q
    · subst q
      obtain ⟨f1, f2, f3, f4, f5, f6, f7⟩ := f
      refine ⟨o, f1, f2, f3, f4, fun j hj => ?_, f6, ?_⟩
      · obtain ⟨e, he, hb, hc⟩ := f5 j hj
        exact ⟨e, he, hb, hc.imp id fun ⟨g1, q1, q2⟩ => ⟨g1, List.mem_cons_of_mem _ q1, q2⟩⟩
      · have e2 : rep hp0 (memB g'.A) (g' :: gs) = rep hp0 (memB g'.A) gs := by
          simp only [rep]
          rw [hnot _ f6, cond_false]
        rw [e1, e2]
        exact f7
    · obtain ⟨o', f'⟩ := h.fact g' q
      have hlt := (h.lt g' q).1
      have e2 : rept tm0 (fun j => Nat.blt j g'.i) (g :: gs) = rept tm0 (fun j => Nat.blt j g'.i) gs := by
        simp only [rept]
        have : Nat.blt g.i g'.i = false := by
          cases hb : Nat.blt g.i g'.i with
          | false => rfl
          | true => have := Nat.le_of_ble_eq_true hb; omega
        rw [this, cond_false]
      have e3 : rep hp0 (memB g'.A) (g :: gs) = rep hp0 (memB g'.A) gs := by
        simp only [rep]
        rw [hnot _ (fun j hj => by have := f'.lt j hj; omega), cond_false]
      refine ⟨o', f'.at_, f'.dst, f'.nm, f'.deps, fun j hj => ?_, f'.lt, ?_⟩
      · obtain ⟨e, he, hb, hc⟩ := f'.anc j hj
        exact ⟨e, he, hb, hc.imp id fun ⟨g1, q1, q2⟩ => ⟨g1, List.mem_cons_of_mem _ q1, q2⟩⟩
      · rw [e2, e3]
        exact f'.run
  · rw [List.pairwise_cons]
    exact ⟨fun y hy => ⟨(h.lt y hy).1, by have := (h.lt y hy).2.2.2; omega, far y hy⟩, h.pw⟩
  · by_cases q : i = g.i
    · exact ⟨g, List.mem_cons_self .., q.symm⟩
    · obtain ⟨g', q1, q2⟩ := h.cover i (by omega)
      exact ⟨g', List.mem_cons_of_mem _ q1, q2⟩
  · have := h.nx
    rcases List.mem_cons.1 hg' with q | q
    · subst q
      exact ⟨Nat.lt_succ_self _, by omega, hnx, Nat.le_refl _⟩
    · obtain ⟨q1, q2, q3, q4⟩ := h.lt g' q
      exact ⟨by omega, q2, q3, by omega⟩
  · have := h.nx
    omega
end
end Go.V

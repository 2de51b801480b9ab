/- V: a region whose order is open: in every order the model comes to what V comes to. -/
import Derived.Test.YtgcahahklmfleaaDoorVSound24
set_option linter.unusedVariables false
set_option linter.unusedSimpArgs false
namespace Go.V
open Go.RowKit

theorem filter_lt {f g : Nat → Bool} (h : ∀ j, g j = true → f j = true) {i : Nat} (hf : f i = true) (hg : g i = false) : ∀ {l : List Nat}, i ∈ l → (l.filter g).length < (l.filter f).length
  | [], hi => by cases hi
  | j :: l, hi => by
    have hle : ∀ l : List Nat, (l.filter g).length ≤ (l.filter f).length := by
      intro l
      induction l with
      | nil => simp
      | cons j l ih =>
        simp only [List.filter_cons]
        cases hg' : g j with
        | true => rw [h j hg']; simpa using ih
        | false => cases f j <;> simp <;> omega
    simp only [List.filter_cons]
    rcases List.mem_cons.1 hi with q | q
    · subst q
      rw [hf, hg]
      have := hle l
      simp
      omega
    · have ih := filter_lt h hf hg q
      cases hg' : g j with
      | true => rw [h j hg']; simpa using ih
      | false => cases f j <;> simp <;> omega

theorem listed_plus {listed : Array Bool} {i : Nat} (hi : i < listed.size) : (fun j => (listed.setIfInBounds i true).getD j false) = plus (fun j => listed.getD j false) i := by
  funext j
  simp only [plus]
  cases hb : Nat.beq j i with
  | true =>
    have := Nat.eq_of_beq_eq_true hb
    subst this
    simp [hi]
  | false =>
    have : i ≠ j := fun q => by subst q; simp at hb
    simp [Array.getElem?_setIfInBounds_ne this]

section
variable {P : Program} {tb : Tab} {ct : List (Nat × Cn)} {w0 : Bs} {Q : Exit → Act → World → Prop}

/-- One operation, at any time at which it may come. -/
theorem any_step (hP : tabCheck P tb = true) (hE : EqOk P tb) (hC : ∀ f c, look ct f = some c → CtrW w0 P f c) {all : List Oper} {tm0 : List AV} {hp0 : Hp} {nx0 n nxF : Nat} {gs : List G}
    (hgl : GL tb ct all tm0 hp0 nx0 n nxF gs) {D : Nat → Bool} (hcl : ∀ g ∈ gs, D g.i = true → ∀ j ∈ g.A, D j = true) {g : G} (hg : g ∈ gs) {o : Oper} (f : Fact tb ct all tm0 hp0 gs g o) (hD : D g.i = false) (hA : ∀ j ∈ g.A, D j = true)
    {N : Nat → Prop} (hN : ∀ r, N r → r < nx0 ∨ ∃ y ∈ gs, D y.i = true ∧ y.id ≤ r ∧ r < y.nx) {φ : Nat → Blk} {a : Act} {w : World} (h : Ok w0 N φ (rept tm0 D gs) (rep hp0 D gs) a w)
    {K : Act → World → Prop} (hK : ∀ N' φ' a' w', (∀ r, N' r → r < nx0 ∨ ∃ y ∈ gs, plus D g.i y.i = true ∧ y.id ≤ r ∧ r < y.nx) → Ok w0 N' φ' (rept tm0 (plus D g.i) gs) (rep hp0 (plus D g.i) gs) a' w' → K a' w') :
    if Region.wanted o (yielded all.toArray a.tmps) then o.wp P a w K Q else K (a.put o.dst undef) w := by
  have pair : ∀ x ∈ gs, ∀ y ∈ gs, y.i < x.i → (y.nx ≤ x.id ∧ (memB x.A y.i = true ∨ (Far y x ∧ FarT y x))) := fun x hx y hy hlt => pw_lt hgl.pw x hx y hy hlt
  have later : ∀ x ∈ gs, g.i < x.i → D x.i = true → Far g x ∧ FarT g x := fun x hx hlt hDx => by
    rcases (pair x hx g hg hlt).2 with q | q
    · rw [hcl x hx hDx _ (memB_iff.1 q)] at hD; cases hD
    · exact q
  have earlier : ∀ y ∈ gs, y.i < g.i → memB g.A y.i = false → Far y g ∧ FarT y g := fun y hy hlt hm => by
    rcases (pair g hg y hy hlt).2 with q | q
    · rw [hm] at q; cases q
    · exact q
  have hblt : ∀ {x y : Nat}, x < y → Nat.blt x y = true := fun q => Nat.ble_eq_true_of_le q
  have hblf : ∀ {x y : Nat}, ¬ x < y → Nat.blt x y = false := fun {x y} q => by
    cases hb : Nat.blt x y with
    | false => rfl
    | true => exact absurd (Nat.lt_of_succ_le (Nat.le_of_ble_eq_true hb)) q
  -- the temporaries that it names
  have htm : ∀ t ∈ g.nm, (rept tm0 D gs).getD t .junk = (rept tm0 (fun j => Nat.blt j g.i) gs).getD t .junk := fun t ht => rept_congr fun x hx hxd => by
    rcases Nat.lt_trichotomy x.i g.i with q | q | q
    · show D x.i = Nat.blt x.i g.i
      rw [hblt q]
      cases hm : memB g.A x.i with
      | true => exact hA _ (memB_iff.1 hm)
      | false => exact absurd ht ((earlier x hx q hm).2.f t (by rw [hxd]; simp))
    · show D x.i = Nat.blt x.i g.i
      rw [q, hD, hblf (by omega)]
    · show D x.i = Nat.blt x.i g.i
      rw [hblf (by omega)]
      cases hb : D x.i with
      | false => rfl
      | true => exact absurd (List.mem_append_right _ ht) ((later x hx q hb).2.e t (by rw [hxd]; simp))
  have hpw : gs.Pairwise (fun x y => y.i < x.i) := hgl.pw.imp fun q => q.1
  have hrows : ∀ r, rep hp0 (plus D g.i) gs r = eff g.us r (rep hp0 D gs r) := fun r => rep_add hpw hg hD fun x hx hlt hDx => ⟨fun r h1 h2 => (later x hx hlt hDx).1.c r h2 h1, (later x hx hlt hDx).1.d⟩
  have htms : rept tm0 (plus D g.i) gs = setD (rept tm0 D gs) g.dst g.v := rept_add hpw hg hD fun x hx hlt hDx t ht hq => (later x hx hlt hDx).2.e t ht (List.mem_append_left _ hq)
  have hwant : wantedV all o (rept tm0 D gs) = wantedV all o (rept tm0 (fun j => Nat.blt j g.i) gs) := by
    unfold wantedV
    split
    · rfl
    · rename_i j want hgd
      split
      · rename_i q hq
        split
        · rename_i d hd
          rw [htm d (by rw [f.nm]; unfold named; rw [hgd]; simp [hq, hd])]
        · rfl
      · rfl
  have hNup : ∀ (N' : Nat → Prop), (∀ r, N' r → N r ∨ (g.id ≤ r ∧ r < g.nx)) → ∀ r, N' r → r < nx0 ∨ ∃ y ∈ gs, plus D g.i y.i = true ∧ y.id ≤ r ∧ r < y.nx := fun N' hN' r hr => by
    rcases hN' r hr with q | q
    · rcases hN r q with q | ⟨y, h1, h2, h3⟩
      · exact Or.inl q
      · refine Or.inr ⟨y, h1, ?_, h3⟩
        unfold plus
        rw [h2]
        cases Nat.beq y.i g.i <;> rfl
    · exact Or.inr ⟨g, hg, plus_self, q⟩
  rcases f.run with ⟨hw, hgo, hrd, ho⟩ | ⟨hw, hgo, hus, hrd, hv, hnx⟩
  · rw [← hwant] at hw
    rw [wanted_ok h hw, if_pos rfl]
    have hval : ∀ x ∈ o.op.operands.toList, ∀ T, val tb (rept tm0 D gs) T x = val tb (rept tm0 (fun j => Nat.blt j g.i) gs) T x := fun x hx T => by
      cases x with
      | tmp t => exact htm t (by rw [f.nm]; unfold named; exact List.mem_append_left _ (List.mem_filterMap.2 ⟨.tmp t, hx, rfl⟩))
      | _ => rfl
    have hop := oper_tm (ct := ct) (hp := rep hp0 D gs) (id := g.id) (k := fun v us nx => some (v, us, nx)) hval
    have ho' : oper tb ct o (rept tm0 D gs) (rep hp0 D gs) g.id (fun v us nx => some (v, us, nx)) = some (g.v, g.us, g.nx) := by
      rw [hop.1]
      refine oper_agree ho (fun r hr => ?_) (fun r hr hr' => ?_)
      · rw [← hrd] at hr
        have := rep_rel (hp := hp0) (D := D) (D' := memB g.A) (r := r) (gs := gs) fun x hx => by
          cases hm : memB g.A x.i with
          | true => exact Or.inl (hA _ (memB_iff.1 hm))
          | false =>
            cases hb : D x.i with
            | false => exact Or.inl rfl
            | true =>
              right
              refine ⟨rfl, fun hh => ?_⟩
              rcases Nat.lt_trichotomy x.i g.i with q | q | q
              · exact (earlier x hx q hm).1.b r hh hr
              · rw [q, hD] at hb; cases hb
              · exact (later x hx q hb).1.a r hh hr
        rcases this with q | q
        · exact Or.inl q
        · rw [q]
          cases rep hp0 (memB g.A) gs r with
          | own p e l => exact Or.inr ⟨p, e, l, rfl, rfl⟩
          | _ => exact Or.inl rfl
      · rw [← hrd] at hr'
        exact rep_congr fun x hx hk => by
          cases hm : memB g.A x.i with
          | true => exact hA _ (memB_iff.1 hm)
          | false =>
            cases hb : D x.i with
            | false => rfl
            | true =>
              exfalso
              rcases Nat.lt_trichotomy x.i g.i with q | q | q
              · exact (earlier x hx q hm).1.d r hr hk
              · rw [q, hD] at hb; cases hb
              · exact (later x hx q hb).1.c r hk hr
    have hid : ∀ r, g.id ≤ r → r < g.nx → ¬ N r := fun r h1 h2 h3 => by
      have hlt := hgl.lt g hg
      rcases hN r h3 with q | ⟨y, q1, q2, q3, q4⟩
      · omega
      · rcases Nat.lt_trichotomy y.i g.i with q | q | q
        · have := (pair g hg y q1 q).1; omega
        · rw [q, hD] at q2; cases q2
        · have := (pair y q1 g hg q).1; omega
    refine Oper.wp_mono (fun a' w' hA' => ?_) (op_ok h hP hE hC ho' hid)
    obtain ⟨φ', _, h'⟩ := hA'
    have e1 : apply (rep hp0 D gs) g.us = rep hp0 (plus D g.i) gs := by
      rw [← (oper_shape ho').applyF]
      funext r
      rw [applyF_eff, hrows r]
    rw [e1, ← f.dst, ← htms] at h'
    exact hK _ φ' a' w' (hNup _ fun r q => q) h'
  · rw [← hwant] at hw
    rw [wanted_ok h hw, if_neg (by simp)]
    have e1 : rep hp0 D gs = rep hp0 (plus D g.i) gs := by
      funext r
      rw [hrows r, hus]
      rfl
    have h' := h.put o.dst (v := .tup []) (u := undef) ⟨[], rfl, rfl⟩
    rw [e1, ← f.dst, ← hv, ← htms] at h'
    refine hK N φ _ w (hNup N fun r q => Or.inl q) ?_
    rw [f.dst] at h'
    exact h'

theorem any_ok (hP : tabCheck P tb = true) (hE : EqOk P tb) (hC : ∀ f c, look ct f = some c → CtrW w0 P f c) {all : List Oper} {tm0 : List AV} {hp0 : Hp} {nx0 nxF : Nat} {gs : List G}
    (hgl : GL tb ct all tm0 hp0 nx0 all.length nxF gs)
    (hQ : ∀ N φ a w, (∀ r, N r → r < nxF) → Ok w0 N φ (rept tm0 (fun _ => true) gs) (rep hp0 (fun _ => true) gs) a w → Q .normal a w) :
    ∀ (fuel : Nat) (listed : Array Bool) (a : Act) (w : World) (N : Nat → Prop) (φ : Nat → Blk), listed.size = all.length → ((List.range all.length).filter fun j => !listed.getD j false).length ≤ fuel →
      (∀ g ∈ gs, listed.getD g.i false = true → ∀ j ∈ g.A, listed.getD j false = true) →
      (∀ r, N r → r < nx0 ∨ ∃ y ∈ gs, listed.getD y.i false = true ∧ y.id ≤ r ∧ r < y.nx) → Ok w0 N φ (rept tm0 (fun j => listed.getD j false) gs) (rep hp0 (fun j => listed.getD j false) gs) a w →
      wpAny P .any all.toArray Q fuel listed a w := by
  -- where none is ready all are done
  have full : ∀ (listed : Array Bool), listed.size = all.length → Region.ready .any all.toArray listed = [] → ∀ i, i < all.length → listed.getD i false = true := by
    intro listed hsz hr i
    induction i using Nat.strongRecOn with
    | _ i ih =>
      intro hi
      cases hb : listed.getD i false with
      | true => rfl
      | false =>
        exfalso
        obtain ⟨g, hg, hgi⟩ := hgl.cover i hi
        obtain ⟨o, f⟩ := hgl.fact g hg
        have hat := f.at_
        rw [hgi] at hat
        have : i ∈ Region.ready .any all.toArray listed := by
          unfold Region.ready
          rw [List.mem_filter]
          refine ⟨by simpa using hi, ?_⟩
          have h1 : listed.getD i true = false := by
            have hlt : i < listed.size := by omega
            simp [hlt] at hb ⊢
            exact hb
          rw [h1]
          simp only [Bool.not_false, Bool.true_and, List.getElem?_toArray, hat, Option.map_some, Option.getD_some]
          rw [Array.all_eq_true']
          intro e he
          cases hbd : Region.binds .any e with
          | false => rfl
          | true =>
            have := f.deps e (by simpa using he) hbd
            rw [hgi] at this
            simp only [Bool.not_true, Bool.false_or]
            exact ih e.on this.1 (by omega)
        rw [hr] at this
        cases this
  have fin : ∀ (listed : Array Bool) (a : Act) (w : World) (N : Nat → Prop) (φ : Nat → Blk), (∀ i, i < all.length → listed.getD i false = true) →
      (∀ r, N r → r < nx0 ∨ ∃ y ∈ gs, listed.getD y.i false = true ∧ y.id ≤ r ∧ r < y.nx) → Ok w0 N φ (rept tm0 (fun j => listed.getD j false) gs) (rep hp0 (fun j => listed.getD j false) gs) a w → Q .normal a w := by
    intro listed a w N φ hall hN h
    have e1 : ∀ g ∈ gs, (fun j => listed.getD j false) g.i = (fun _ => true) g.i := fun g hg => hall g.i (hgl.lt g hg).1
    rw [rept_all (D := fun j => listed.getD j false) (D' := fun _ => true) e1, rep_all (D := fun j => listed.getD j false) (D' := fun _ => true) e1] at h
    refine hQ N φ a w (fun r hr => ?_) h
    rcases hN r hr with q | ⟨y, q1, _, _, q2⟩
    · have := hgl.nx; omega
    · have := (hgl.lt y q1).2.2.2; omega
  intro fuel
  induction fuel with
  | zero =>
    intro listed a w N φ hsz hf hcl hN h
    have hall : ∀ i, i < all.length → listed.getD i false = true := fun i hi => by
      cases hb : listed.getD i false with
      | true => rfl
      | false =>
        have : i ∈ (List.range all.length).filter fun j => !listed.getD j false := List.mem_filter.2 ⟨List.mem_range.2 hi, by rw [hb]; rfl⟩
        have := List.length_pos_of_mem this
        omega
    refine ⟨?_, fin listed a w N φ hall hN h⟩
    unfold Region.ready
    rw [List.filter_eq_nil_iff]
    intro i hi
    have hi' : i < all.length := by simpa using hi
    have hlt : i < listed.size := by omega
    have := hall i hi'
    simp [hlt] at this ⊢
    intro q
    rw [this] at q
    cases q
  | succ fuel ih =>
    intro listed a w N φ hsz hf hcl hN h
    refine ⟨fun hr => fin listed a w N φ (full listed hsz hr) hN h, fun i hi => ?_⟩
    unfold Region.ready at hi
    rw [List.mem_filter] at hi
    obtain ⟨hi1, hi2⟩ := hi
    have hi1 : i < all.length := by simpa using hi1
    have hlt : i < listed.size := by omega
    obtain ⟨g, hg, hgi⟩ := hgl.cover i hi1
    obtain ⟨o, f⟩ := hgl.fact g hg
    have hat := f.at_
    rw [hgi] at hat
    simp only [Bool.and_eq_true, Bool.not_eq_true', List.getElem?_toArray, hat, Option.map_some, Option.getD_some] at hi2
    obtain ⟨hi2, hi3⟩ := hi2
    have hD : listed.getD i false = false := by
      simp [hlt] at hi2 ⊢
      exact hi2
    have hdeps : ∀ e ∈ o.after.toList, Region.binds .any e = true → listed.getD e.on false = true := fun e he hb => by
      rw [Array.all_eq_true'] at hi3
      have := hi3 e (by simpa using he)
      rw [hb] at this
      simpa using this
    have hA : ∀ j ∈ g.A, listed.getD j false = true := fun j hj => by
      obtain ⟨e, h1, h2, h3⟩ := f.anc j hj
      rcases h3 with q | ⟨g', q1, q2, q3⟩
      · rw [q]; exact hdeps e h1 h2
      · exact hcl g' q1 (by rw [q2]; exact hdeps e h1 h2) j q3
    have key : ∀ N' φ' a' w', (∀ r, N' r → r < nx0 ∨ ∃ y ∈ gs, plus (fun j => listed.getD j false) g.i y.i = true ∧ y.id ≤ r ∧ r < y.nx) → Ok w0 N' φ' (rept tm0 (plus (fun j => listed.getD j false) g.i) gs) (rep hp0 (plus (fun j => listed.getD j false) g.i) gs) a' w' →
        wpAny P .any all.toArray Q fuel (listed.setIfInBounds i true) a' w' := by
      intro N' φ' a' w' hN' h'
      rw [hgi, ← listed_plus hlt] at h'
      rw [hgi, ← listed_plus hlt] at hN'
      have hpl := listed_plus hlt
      have hpl' : ∀ j, (listed.setIfInBounds i true).getD j false = plus (fun j => listed.getD j false) i j := fun j => congrFun hpl j
      refine ih _ a' w' N' φ' (by simpa using hsz) ?_ (fun x hx hxd j hj => ?_) hN' h'
      · have := filter_lt (f := fun j => !listed.getD j false) (g := fun j => !(listed.setIfInBounds i true).getD j false) (i := i) (l := List.range all.length) (fun j hj => by
          rw [hpl'] at hj
          unfold plus at hj
          cases hb : Nat.beq j i with
          | true => rw [hb] at hj; cases hj
          | false => rw [hb] at hj; exact hj) (by rw [hD]; rfl) (by rw [hpl', plus_self]; rfl) (List.mem_range.2 hi1)
        omega
      · rw [hpl'] at hxd ⊢
        have hup : ∀ j, listed.getD j false = true → plus (fun j => listed.getD j false) i j = true := fun j q => by
          unfold plus
          cases Nat.beq j i with
          | true => rfl
          | false => exact q
        by_cases q : x.i = i
        · have hxg : x.A = g.A := by
            obtain ⟨k1, hk1, e1⟩ := List.mem_iff_getElem.1 hx
            obtain ⟨k2, hk2, e2⟩ := List.mem_iff_getElem.1 hg
            have : k1 = k2 := by
              rcases Nat.lt_trichotomy k1 k2 with z | z | z
              · have := (List.pairwise_iff_getElem.1 hgl.pw k1 k2 hk1 hk2 z).1
                rw [e1, e2] at this; omega
              · exact z
              · have := (List.pairwise_iff_getElem.1 hgl.pw k2 k1 hk2 hk1 z).1
                rw [e1, e2] at this; omega
            subst this
            rw [← e1, ← e2]
          exact hup j (hA j (by rw [← hxg]; exact hj))
        · rw [plus_other q] at hxd
          exact hup j (hcl x hx hxd j hj)
    have hstep := any_step (Q := Q) hP hE hC hgl hcl hg f (by rw [hgi]; exact hD) hA hN h key
    unfold wpOp
    simp only [List.getElem?_toArray, hat]
    split
    · rename_i hw
      rw [if_pos hw] at hstep
      exact Or.inl hstep
    · rename_i hw
      rw [if_neg hw] at hstep
      exact hstep
end
end Go.V

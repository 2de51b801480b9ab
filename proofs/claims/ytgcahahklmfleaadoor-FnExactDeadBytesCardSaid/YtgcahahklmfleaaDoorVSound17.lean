/- V: every operation that V carries out, the model carries out, and the states stay alike. -/
import Derived.Test.YtgcahahklmfleaaDoorVSound16
set_option linter.unusedVariables false
set_option linter.unusedSimpArgs false
namespace Go.V
open Go.RowKit

section
variable {P : Program} {tb : Tab} {ct : List (Nat × Cn)} {w0 : Bs} {w : World} {N : Nat → Prop} {φ : Nat → Blk} {tm : List AV} {hp : Hp} {a : Act} {Q : Exit → Act → World → Prop}

theorem okmax {X : Bool → Nat → Prop} {t u : TypeId} {cs : List AV} {v : AV} {vs : Array Value} (h : maxOf cs = some v) (hr : RepT w X N φ cs vs.toList) (at_ : Array TypeId) : ∃ y, (Builtin.max_ at_ u vs).run P w = .ok y w ∧ RepV w X N φ v y := by
  unfold maxOf at h
  split at h
  · cases h
    unfold RepT at hr
    obtain ⟨x1, us, e1, h1, hr⟩ := hr
    unfold RepT at hr
    obtain ⟨x2, us, e2, h2, hr⟩ := hr
    unfold RepT at hr
    subst hr
    subst e2
    cases h1
    cases h2
    refine ⟨_, ?_, rfl⟩
    unfold Builtin.max_
    rw [e1]
    rfl
  · cases h
theorem okmin {X : Bool → Nat → Prop} {t u : TypeId} {cs : List AV} {v : AV} {vs : Array Value} (h : minOf cs = some v) (hr : RepT w X N φ cs vs.toList) (at_ : Array TypeId) : ∃ y, (Builtin.min_ at_ u vs).run P w = .ok y w ∧ RepV w X N φ v y := by
  unfold minOf at h
  split at h
  · cases h
    unfold RepT at hr
    obtain ⟨x1, us, e1, h1, hr⟩ := hr
    unfold RepT at hr
    obtain ⟨x2, us, e2, h2, hr⟩ := hr
    unfold RepT at hr
    subst hr
    subst e2
    cases h1
    cases h2
    refine ⟨_, ?_, rfl⟩
    unfold Builtin.min_
    rw [e1]
    rfl
  · cases h

theorem repT_map {X : Bool → Nat → Prop} {α : Type} {f : α → AV} {g : α → Value} (h : ∀ x, RepV w X N φ (f x) (g x)) : ∀ l : List α, RepT w X N φ (l.map f) (l.map g)
  | [] => rfl
  | x :: l => ⟨_, _, rfl, h x, repT_map h l⟩

/-- Memory stays, but that rows are frozen. -/
theorem wp_frozen (h : Ok w0 N φ tm hp a w) {o : Oper} {v : AV} {u : Value} {id : Nat} {us : Ups} (hf : Frz hp us) (hr : (execOp a.eval o).run P w = .ok (.value u) w)
    (hv : RepV w (XX w0 w φ (apply hp us)) N φ v u) : o.wp P a w (After w0 N φ tm hp o.dst v us id id) Q := by
  have h1 := h.freeze us hf
  refine wp_value hr ⟨φ, fun _ _ => rfl, ?_⟩
  have e : (fun r => N r ∨ (id ≤ r ∧ r < id)) = N := funext fun r => propext ⟨fun q => q.elim (fun q => q) (fun q => by omega), Or.inl⟩
  rw [e]
  exact h1.put o.dst hv

theorem slice_ok (h : Ok w0 N φ tm hp a w) (hP : tabCheck P tb = true) {t : Nat} {x v : AV} {p : Value} {us : Ups} {lo hi : Option AV} {vlo vhi : Option Value}
    (hs : sliceOp ((look tb.ty t).getD .opq) hp x lo hi (fun v us => some (v, us)) = some (v, us)) (hx : RepV w (XX w0 w φ hp) N φ x p) (hlo : optRep w (XX w0 w φ hp) N φ lo vlo) (hhi : optRep w (XX w0 w φ hp) N φ hi vhi) :
    Frz hp us ∧ ∃ u, (Instr.sliceAt t p vlo vhi none).run P w = .ok u w ∧ RepV w (XX w0 w φ (apply hp us)) N φ v u := by
  have hnil : Frz hp [] := fun r x q => by cases q
  cases hl : look tb.ty t with
  | none => rw [hl] at hs; simp [sliceOp] at hs
  | some T =>
    rw [hl] at hs
    simp only [Option.getD_some] at hs
    obtain ⟨i, d, z, ht⟩ := tyFact hP hl
    unfold sliceOp at hs
    split at hs
    · rename_i s
      rw [cutS_bind] at hs
      cases hc : cutS s lo hi some with
      | none => rw [hc] at hs; cases hs
      | some s' =>
        rw [hc] at hs
        cases hs
        cases hx
        exact ⟨hnil, _, run_cut_str ht.strU hc hlo hhi, rfl⟩
    · rename_i e e'
      obtain ⟨te, hu, _, _, _, i', d', z', hte⟩ := ht.slice hP
      rw [cutL_bind] at hs
      cases hc : cutL ([] : List Unit) lo hi some with
      | none => rw [hc] at hs; cases hs
      | some l' =>
        rw [hc] at hs
        cases hs
        cases hx
        exact ⟨hnil, _, run_cut_nil hu hte.info hc hlo hhi, rfl⟩
    · rename_i e pp e' l
      obtain ⟨te, hu, _, _, _, i', d', z', hte⟩ := ht.slice hP
      obtain ⟨he, hs1⟩ := fin_bif' hs
      have he := of_decide_eq_true he
      subst he
      rw [cutL_bind] at hs1
      cases hc : cutL l lo hi some with
      | none => rw [hc] at hs1; cases hs1
      | some l' =>
        rw [hc] at hs1
        cases hs1
        obtain ⟨u, h1, h2⟩ := cut_read hu hte hx hc hlo hhi
        exact ⟨hnil, u, h1, h2⟩
    · rename_i e r
      obtain ⟨te, hu, _, _, _, i', d', z', hte⟩ := ht.slice hP
      have key : ∀ pp e' (l : List e'.den), (hp r = .own pp e' l ∨ hp r = .fro pp e' l) → (bif decide (e = e') then cutL l lo hi fun l' => some (AV.sl pp e' l', [(r, Row.fro pp e' l)]) else none) = some (v, us) →
          Frz hp us ∧ ∃ u, (Instr.sliceAt t p vlo vhi none).run P w = .ok u w ∧ RepV w (XX w0 w φ (apply hp us)) N φ v u := by
        intro pp e' l hrow hs
        obtain ⟨he, hs1⟩ := fin_bif' hs
        have he := of_decide_eq_true he
        subst he
        rw [cutL_bind] at hs1
        cases hc : cutL l lo hi some with
        | none => rw [hc] at hs1; cases hs1
        | some l' =>
          rw [hc] at hs1
          cases hs1
          have hf : Frz hp [(r, Row.fro pp e l)] := fun s x q => by
            simp only [List.mem_singleton, Prod.mk.injEq] at q
            obtain ⟨rfl, rfl⟩ := q
            exact ⟨pp, e, l, rfl, hrow⟩
          refine ⟨hf, ?_⟩
          have h1 := h.freeze _ hf
          have hr := h1.rows r
          rw [show apply hp [(r, Row.fro pp e l)] r = .fro pp e l from upd_same ..] at hr
          obtain ⟨hN, rfl, _⟩ := hx
          have hrd := own_read hr.1 (Y := XX w0 w φ (apply hp [(r, Row.fro pp e l)]) pp) (fun b hb => hr.2 b hb) (fun b hb => hb)
          obtain ⟨u, g1, g2⟩ := cut_read hu hte hrd hc hlo hhi
          exact ⟨u, g1, g2⟩
      split at hs
      · rename_i pp e' l hrow
        exact key pp e' l (Or.inl hrow) hs
      · rename_i pp e' l hrow
        exact key pp e' l (Or.inr hrow) hs
      · cases hs
    · cases hs

theorem len_ok (h : Ok w0 N φ tm hp a w) (hP : tabCheck P tb = true) {t ty : Nat} {x v : AV} {p : Value} (hs : lenOf ((look tb.ty t).getD .opq) hp x some = some v) (hx : RepV w (XX w0 w φ hp) N φ x p) :
    ∃ u, (Builtin.len_ #[t] ty #[p]).run P w = .ok u w ∧ RepV w (XX w0 w φ hp) N φ v u := by
  cases hl : look tb.ty t with
  | none => rw [hl] at hs; simp [lenOf] at hs
  | some T =>
    rw [hl] at hs
    simp only [Option.getD_some] at hs
    obtain ⟨i, d, z, ht⟩ := tyFact hP hl
    unfold lenOf at hs
    split at hs
    · cases hs
      cases hx
      exact ⟨_, run_len_str ht.strU _, rfl⟩
    · obtain ⟨te, hu, _⟩ := ht.slice hP
      cases hs
      cases hx
      exact ⟨_, run_len_slice hu _ _ _, rfl⟩
    · obtain ⟨te, hu, _⟩ := ht.slice hP
      cases hs
      obtain ⟨ad, c, rfl, _⟩ := slice_read (X := XX w0 w φ hp) hx
      exact ⟨_, run_len_slice hu _ _ _, rfl⟩
    · rename_i e r
      obtain ⟨te, hu, _⟩ := ht.slice hP
      have hr := h.rows r
      obtain ⟨hN, rfl, _⟩ := hx
      split at hs
      · rename_i pp e' l hrow
        rw [hrow] at hr
        cases hs
        obtain ⟨_, _, _, _, te', xs, ho, _⟩ := hr
        obtain ⟨ad, c, hsl, _⟩ := own_slice ho
        rw [hsl]
        exact ⟨_, run_len_slice hu _ _ _, rfl⟩
      · rename_i pp e' l hrow
        rw [hrow] at hr
        cases hs
        obtain ⟨_, _, _, _, te', xs, ho, _⟩ := hr.1
        obtain ⟨ad, c, hsl, _⟩ := own_slice ho
        rw [hsl]
        exact ⟨_, run_len_slice hu _ _ _, rfl⟩
      · cases hs
    · cases hs

theorem rd_slice {X : Nat → Prop} {e : Ty} {l : List e.den} {v : Value} (h : Rd w X (.slice e) l [v]) :
    ∃ ad c xs, v = .slice ad l.length c ∧ RdL (Rd w X e) l xs ∧ (0 < l.length → ∃ x, ad = some x ∧ ∀ j u, xs[j]? = some u → w.cell? (x.add j) = some u) := by
  obtain ⟨ad, n, c, xs, hc, hn, hle, hl, hr⟩ := h
  cases hc
  subst hn
  refine ⟨ad, c, xs, rfl, hl, fun h0 => ?_⟩
  obtain ⟨b, o, rfl, _, hcell⟩ := hr (by intro q; subst q; simp at h0)
  exact ⟨_, rfl, fun j u hj => by rw [addr_add]; exact hcell j u hj⟩

theorem XX.le {p q : Bool} (hpq : p = true → q = true) (b : Nat) (hx : XX w0 w φ hp p b) : XX w0 w φ hp q b :=
  ⟨hx.1, hx.2.1, Bs.see_up hpq hx.2.2⟩

/-- What is appended: where it stands, and its elements, in memory that nobody writes. -/
theorem src_ok (h : Ok w0 N φ tm hp a w) {e : Ty} {s : AV} {ps : Value} {ls : List e.den} {q : Bool} (hq : taint1 hp s = true → q = true) (hg : getSl hp e s = some ls) (hsv : RepV w (XX w0 w φ hp) N φ s ps) :
    ∃ ad c ys, ps = .slice ad ls.length c ∧ RdL (Rd w (XX w0 w φ hp q) e) ls ys ∧ (0 < ls.length → ∃ x, ad = some x ∧ ∀ j u, ys[j]? = some u → w.cell? (x.add j) = some u) := by
  have own : ∀ r p (l : List e.den), OwnOk w (XX w0 w φ hp) N φ w0.mine r p e l → (p = true → q = true) →
      ∃ ad c ys, (φ r).v = .slice ad l.length c ∧ RdL (Rd w (XX w0 w φ hp q) e) l ys ∧ (0 < l.length → ∃ x, ad = some x ∧ ∀ j u, ys[j]? = some u → w.cell? (x.add j) = some u) := by
    intro r p l hr hpq
    obtain ⟨_, _, _, _, te, xs, ho, hl⟩ := hr
    obtain ⟨ad, c, hsl, _, hgb⟩ := own_slice ho
    refine ⟨ad, c, xs, hsl, hl.mono (XX.le hpq) (fun _ _ => rfl), fun h0 => ?_⟩
    obtain ⟨g, rfl, hg2⟩ := hgb h0
    exact ⟨_, rfl, ho.row.cells hg2⟩
  unfold getSl at hg
  split at hg
  · cases hg
    cases hsv
    exact ⟨none, 0, [], rfl, rfl, fun h0 => absurd h0 (by simp)⟩
  · rename_i p t l'
    obtain ⟨he, rfl⟩ := castL_eq hg
    subst he
    obtain ⟨ad, c, xs, h1, h2, h3⟩ := rd_slice hsv
    exact ⟨ad, c, xs, h1, h2.mono (XX.le fun e => hq e) (fun _ _ => rfl), h3⟩
  · rename_i r
    have hr := h.rows r
    obtain ⟨hN, rfl, _⟩ := hsv
    split at hg
    · rename_i p t l' hrow
      rw [hrow] at hr
      obtain ⟨he, rfl⟩ := castL_eq hg
      subst he
      exact own r p l' hr fun e => hq (by simp [taint1, hrow, e])
    · rename_i p t l' hrow
      rw [hrow] at hr
      obtain ⟨he, rfl⟩ := castL_eq hg
      subst he
      exact own r p l' hr.1 fun e => hq (by simp [taint1, hrow, e])
    · cases hg
  · cases hg

theorem append_ok (h : Ok w0 N φ tm hp a w) (hP : tabCheck P tb = true) {t ty : Nat} {e : Ty} {d s v : AV} {pd ps : Value} {us : Ups} {id : Nat} {dst : Option Nat} (he : elemTy tb t = some e) (hid : ¬ N id)
    (hs : appendOp e hp id d s (fun v us => some (v, us)) = some (v, us)) (hd : RepV w (XX w0 w φ hp) N φ d pd) (hsv : RepV w (XX w0 w φ hp) N φ s ps) :
    ∃ u w', (Builtin.append_ #[t, t] ty #[pd, ps]).run P w = .ok u w' ∧ After w0 N φ tm hp dst v us id (id + 1) (a.put dst u) w' := by
  obtain ⟨te, hu, hsz, hpl, i, dd, z, ht⟩ := elemFact hP he
  have hzl : z.cells.size = e.size := by
    have := (zeroCheck_rd (w := w) (X := fun _ => True) ht.zeroOk hpl).len
    simpa using this
  have hB := h.below.size
  unfold appendOp at hs
  cases hg : getSl hp e s with
  | none => rw [hg] at hs; cases hs
  | some ls =>
    rw [hg] at hs
    simp only [] at hs
    have key : ∀ (kill : Option Nat) (p : Bool) (ld : List e.den) (te0 : TypeId) (xs : List Value), ownsM w w0.mine te0 e.size pd ld.length xs → RdL (Rd w (XX w0 w φ hp p) e) ld xs →
        (∀ b, pd.ownBlock = some b → ∃ r, kill = some r ∧ blkOf φ r (hp r) = some b) → (∀ r, kill = some r → N r) → room e.bytes (ld.length + ls.length) = true →
        ∃ u w' φ', (Builtin.append_ #[t, t] ty #[pd, ps]).run P w = .ok u w' ∧ (∀ r, N r → φ' r = φ r) ∧ (φ' id).v = u ∧ (∃ ad n c, u = .slice ad n c) ∧
          Ok w0 (fun r => N r ∨ (id ≤ r ∧ r < id + 1)) φ' tm (upd (killed hp kill) id (.own (p || (tnt e && taint hp [s])) e (ld ++ ls))) a w' := by
      intro kill p ld te0 xs ho hl hkill hkN hroom
      have hq : ∀ b, XX w0 w φ hp p b → XX w0 w φ hp (p || (tnt e && taint hp [s])) b := XX.le fun e => by rw [e]; rfl
      obtain ⟨ad, c, ys, rfl, hel, hcell⟩ := src_ok h (q := p || taint hp [s]) (fun e => by simp [taint, e]) hg hsv
      have hel : RdL (Rd w (XX w0 w φ hp (p || (tnt e && taint hp [s]))) e) ls ys := by
        cases ht : tnt e with
        | true => rw [Bool.true_and]; exact hel
        | false => exact hel.imp fun _ _ _ q => q.anyX (tnt_false ht)
      have hyl := hel.length (fun x d q => q.len)
      have h1 := hel.all (p := fun u => u.oneCell' = true) (fun x d q => q.flat)
      simp only [room, Bool.and_eq_true, decide_eq_true_eq] at hroom
      have hm : ld.length + ls.length ≤ maxLen := by unfold maxLen; omega
      have hby : (ld.length + ls.length) * i.bytes ≤ 140737488355328 := Nat.le_trans (Nat.mul_le_mul_left _ (Nat.le_of_eq ht.bytes)) hroom.1
      obtain ⟨u, w', te', g1, g2, g3, g4⟩ := run_append_any (P := P) (w := w) 0 t ty te te0 i z e.size i.bytes hu ht.info ht.zero ht.size rfl hzl hsz pd ld.length xs ho.row ad ls.length c ys hyl hcell h1 hm hby (Nat.zero_le _)
      have g2' : ownsM w' w0.mine te' e.size u (ld ++ ls).length (xs ++ ys) := by
        rw [List.length_append]
        refine ownsM.of g2 fun b hb => ?_
        rcases g4 b hb with q | q
        · exact (ho.lt b q).1
        · exact Or.inl (Nat.le_trans hB q)
      obtain ⟨φ', e1, e2, e3⟩ := h.grow hid kill pd u w' (p || (tnt e && taint hp [s])) e (ld ++ ls) te' (xs ++ ys) hkill hkN g3 g2' (RdL.append (hl.mono hq (fun _ _ => rfl)) hel) g4
      obtain ⟨ad', c', hsl, _⟩ := own_slice g2'
      exact ⟨u, w', φ', g1, e2, e1, ⟨_, _, _, hsl⟩, e3⟩
    split at hs
    · rename_i e'
      obtain ⟨hroom, hs1⟩ := fin_bif' hs
      cases hs1
      cases hd
      obtain ⟨u, w', φ', g1, g2, g3, g4, g5⟩ := key none false [] te [] (ownsM.nil) rfl (fun b hb => by cases hb) (fun r hr => by cases hr) (by simpa using hroom)
      refine ⟨u, w', g1, φ', g2, ?_⟩
      have := g5.put dst (v := .ref id) (u := u) ⟨Or.inr ⟨Nat.le_refl _, Nat.lt_succ_self _⟩, g3.symm, g4⟩
      exact this
    · rename_i r
      split at hs
      · rename_i p t' l hrow
        cases hc : castL t' e l with
        | none => rw [hc] at hs; cases hs
        | some ld =>
          rw [hc] at hs
          obtain ⟨hroom, hs1⟩ := fin_bif' hs
          cases hs1
          obtain ⟨hte, rfl⟩ := castL_eq hc
          subst hte
          have hr := h.rows r
          rw [hrow] at hr
          obtain ⟨hN, rfl, _⟩ := hd
          obtain ⟨_, _, _, _, te0, xs, ho, hl⟩ := hr
          obtain ⟨u, w', φ', g1, g2, g3, g4, g5⟩ := key (some r) p l te0 xs ho hl (fun b hb => ⟨r, rfl, by rw [hrow]; exact hb⟩) (fun r' hr' => by cases hr'; exact hN) hroom
          refine ⟨u, w', g1, φ', g2, ?_⟩
          exact g5.put dst (v := .ref id) (u := u) ⟨Or.inr ⟨Nat.le_refl _, Nat.lt_succ_self _⟩, g3.symm, g4⟩
      · cases hs
    · cases hs

theorem setAt_rows {u : Ty} {y : u.den} : ∀ (t : Ty) {x z : t.den} {off : Nat}, setAt u y t x off = some z → u.rows ≤ t.rows
  | .bool, x, z, off, h => by
    simp only [setAt] at h
    obtain ⟨_, h⟩ := fin_bif' h
    obtain ⟨he, _⟩ := castT_eq h
    subst he; exact Nat.le_refl _
  | .int _, x, z, off, h => by
    simp only [setAt] at h
    obtain ⟨_, h⟩ := fin_bif' h
    obtain ⟨he, _⟩ := castT_eq h
    subst he; exact Nat.le_refl _
  | .str, x, z, off, h => by
    simp only [setAt] at h
    obtain ⟨_, h⟩ := fin_bif' h
    obtain ⟨he, _⟩ := castT_eq h
    subst he; exact Nat.le_refl _
  | .slice _, x, z, off, h => by
    simp only [setAt] at h
    obtain ⟨_, h⟩ := fin_bif' h
    obtain ⟨he, _⟩ := castT_eq h
    subst he; exact Nat.le_refl _
  | .unit, x, z, off, h => by
    simp only [setAt] at h
    obtain ⟨_, h⟩ := fin_bif' h
    obtain ⟨he, _⟩ := castT_eq h
    subst he; exact Nat.le_refl _
  | .opq, x, z, off, h => by
    simp only [setAt] at h
    obtain ⟨_, h⟩ := fin_bif' h
    obtain ⟨he, _⟩ := castT_eq h
    subst he; exact Nat.le_refl _
  | .pair a b, x, z, off, h => by
    simp only [setAt] at h
    split at h
    · rename_i he; subst he; exact Nat.le_refl _
    · cases hb : Nat.blt off a.size with
      | true =>
        rw [hb, cond_true] at h
        split at h
        · rename_i z' hz; have := setAt_rows a hz; simp only [Ty.rows]; omega
        · cases h
      | false =>
        rw [hb, cond_false] at h
        split at h
        · rename_i z' hz; have := setAt_rows b hz; simp only [Ty.rows]; omega
        · cases h
theorem store_ok (h : Ok w0 N φ tm hp a w) {t : Nat} {u : Ty} {i : TypeInfo} {d : TypeDesc} {z : Value} (ht : TyFact P tb t u i d z) {x v : AV} {px pv : Value} {us : Ups}
    (hs : storeTo hp u x v some = some us) (hx : RepV w (XX w0 w φ hp) N φ x px) (hv : RepV w (XX w0 w φ hp) N φ v pv) :
    ∃ w', (Instr.storeAt t px pv).run P w = .ok () w' ∧ Ok w0 N φ tm (apply hp us) a w' := by
  unfold storeTo at hs
  obtain ⟨hc, hs1⟩ := fin_bif' hs
  simp only [Bool.and_eq_true] at hc
  obtain ⟨htold, hlen⟩ := hc
  have hlen := Nat.eq_of_beq_eq_true hlen
  split at hs1
  · rename_i r i' off
    split at hs1
    · rename_i cs hrow
      obtain ⟨hle, hs2⟩ := fin_bif' hs1
      cases hs2
      exact store_box h ht hrow hx hv htold hlen (Nat.le_of_ble_eq_true hle)
    · rename_i p e l hrow
      obtain ⟨hnr, hs2⟩ := fin_bif hs1
      cases hp1 : prj hp u (cellsOf v) with
      | none => rw [hp1] at hs2; cases hs2
      | some y =>
        rw [hp1] at hs2
        simp only [] at hs2
        cases hz : setAt u y e (l.getD i' e.dflt) off with
        | none => rw [hz] at hs2; cases hs2
        | some zz =>
          rw [hz] at hs2
          cases hs2
          have hf := frz_freeze hp (cellsOf v)
          obtain ⟨heq, hmem⟩ := hf.eq
          have h1 := h.freeze _ hf
          have hrow1 : apply hp (freeze hp (cellsOf v)) r = .own p e l := by
            rw [apply_not _ ?_]
            · exact hrow
            · intro q
              obtain ⟨y', hy', rfl⟩ := List.mem_map.1 q
              have := freeze_keys hp (r := y'.1) (x := y'.2) hy'
              have hm : memB (refs (cellsOf v)) y'.1 = true := by
                have : ∀ (l : List Nat) (n : Nat), n ∈ l → memB l n = true := by
                  intro l n
                  induction l with
                  | nil => intro q; cases q
                  | cons m l ih =>
                    intro q
                    simp only [memB]
                    rcases List.mem_cons.1 q with q | q
                    · subst q; simp
                    · cases Nat.beq m n <;> simp [ih q]
                exact this _ _ (freeze_keys hp hy')
              rw [hm] at hnr
              cases hnr
          have hrep : ∀ {av : AV} {pv : Value}, RepV w (XX w0 w φ hp) N φ av pv → RepV w (XX w0 w φ (apply hp (freeze hp (cellsOf v)))) N φ av pv := fun hq => by
            refine RepV.mono (fun p b hx => hx.mono (Nat.le_refl _) (fun b _ ⟨s, hs⟩ => ⟨s, ?_⟩)) (fun _ _ _ => rfl) (fun _ q => q) (fun _ _ => rfl) hq
            rcases heq s with g | ⟨p', e', l', g1, g2⟩
            · rw [g] at hs; exact hs
            · rw [g2] at hs; cases hs
          have hpr : prj (apply hp (freeze hp (cellsOf v))) u (cellsOf v) = some y := by rw [heq.prj]; exact hp1
          have hy := prj_ok h1 u (reads_frozen h1 (q := taint hp (cellsOf v)) (fun c hc e => by rw [← heq.taint]; exact taint_mem hc e) (fun r' p' e' l' hc hq => by
            rcases heq r' with g | ⟨p2, e2, l2, g1, g2⟩
            · have := hmem r' _ (freeze_mem hp hc (by rw [← g]; exact hq))
              rw [this] at hq
              cases hq
            · rw [g2] at hq; cases hq)) hpr (hrep hv |> fun q => cells_rep q htold)
          have hy : Rd w (XX w0 w φ (apply hp (freeze hp (cellsOf v))) (tnt e && taint hp (cellsOf v))) u y pv.cells.toList := by
            cases ht : tnt e with
            | true => rw [Bool.true_and]; exact hy
            | false => exact hy.anyX (Nat.le_zero.1 (Nat.le_trans (setAt_rows e hz) (Nat.le_of_eq (tnt_false ht))))
          obtain ⟨w', g1, g2⟩ := store_own h1 ht hrow1 (hrep hx) hy hz
          refine ⟨w', g1, ?_⟩
          have happ : ∀ (us0 : Ups) (hp : Hp) (us1 : Ups), apply hp (us0 ++ us1) = apply (apply hp us0) us1 := by
            intro us0
            induction us0 with
            | nil => intro hp us1; rfl
            | cons u us0 ih => intro hp us1; exact ih _ _
          rw [happ]
          exact g2
    · cases hs1
  · cases hs1
end
end Go.V

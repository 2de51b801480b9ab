/- V: a function that V runs keeps its contract. -/
import Derived.Test.YtlbpalfjmjmimaaVSound28
set_option linter.unusedVariables false
set_option linter.unusedSimpArgs false
namespace Go.V
open Go.RowKit

section
variable {P : Program} {w0 w : World} {N : Nat → Prop} {φ : Nat → Blk} {tm : List AV} {hp : Hp} {a : Act}

theorem enter_rep {X : Nat → Prop} {Y : Bool → Nat → Prop} (hY : ∀ b, X b → Y true b) : ∀ {ts : List Ty} {x : (tup ts).den} {cs : List Value}, Rd w X (tup ts) x cs → RepT w Y N φ (enter ts x) (valsRep ts cs)
  | [], x, cs, h => rfl
  | t :: ts, x, _, ⟨c, d, e, h1, h2⟩ => by
    subst e
    have hl := h1.len
    have h3 : RepL w Y N φ (inj true t x.1) c := (Rd.mono (Y := Y true) hY (fun _ _ => rfl) h1).inj
    refine ⟨valOf t ((c ++ d).take t.size), valsRep ts ((c ++ d).drop t.size), rfl, ?_, ?_⟩
    · rw [List.take_left' hl]
      exact valOf_rep h3 (by rw [← h3.len]; exact hl)
    · rw [List.drop_left' hl]
      exact enter_rep hY h2
theorem valsRep_len : ∀ {ts : List Ty} {cs : List Value}, (valsRep ts cs).length = ts.length
  | [], _ => rfl
  | t :: ts, cs => by simp [valsRep, valsRep_len (ts := ts)]
theorem enter_len : ∀ {ts : List Ty} {x : (tup ts).den}, (enter ts x).length = ts.length
  | [], _ => rfl
  | t :: ts, x => by simp [enter, enter_len (ts := ts)]

/-- Where a function begins. -/
theorem S.enter {ps : List Ty} {x : (tup ps).den} {as : List Value} (h : ArgsRep w (fun b => b < w.heap.size) ps x as) (n : Nat) :
    S w ⟨Go.V.enter ps x ++ List.replicate (n - ps.length) .junk, noRow, 0⟩ { tmps := as.toArray ++ Array.replicate (n - as.toArray.size) undef, defers := [] } w := by
  obtain ⟨cs, hr, rfl⟩ := h
  have hX : ∀ b, b < w.heap.size → XX w w (fun _ => default) noRow true b := fun b hb => ⟨hb, fun ⟨r, hr⟩ => (by cases hr), fun q => (by cases q)⟩
  have hrep := enter_rep (N := fun _ => False) (φ := fun _ => default) hX hr
  have hl : (valsRep ps cs).length = ps.length := valsRep_len
  refine ⟨fun _ => False, fun _ => default, fun _ q => q.elim, Below.refl _ _, rfl, by simp [hl, enter_len], fun i => ?_, fun _ => trivial, fun r s b q => by cases q⟩
  show RepV _ _ _ _ ((Go.V.enter ps x ++ List.replicate (n - ps.length) AV.junk).getD i AV.junk) _
  by_cases hi : i < ps.length
  · have h1 : (Go.V.enter ps x)[i]? = some ((Go.V.enter ps x)[i]'(by rw [enter_len]; exact hi)) := List.getElem?_eq_getElem _
    obtain ⟨u, h2, h3⟩ := repL_getElem hrep h1
    have e1 : (Go.V.enter ps x ++ List.replicate (n - ps.length) AV.junk).getD i AV.junk = (Go.V.enter ps x)[i]'(by rw [enter_len]; exact hi) := by
      simp only [List.getD, List.getElem?_append_left (show i < (Go.V.enter ps x).length by rw [enter_len]; exact hi), h1, Option.getD_some]
    have hlt : i < (valsRep ps cs).length := by rw [hl]; exact hi
    have h2' : (valsRep ps cs)[i] = u := by
      have := h2
      rw [List.getElem?_eq_getElem hlt] at this
      exact Option.some.inj this
    have e2 : ((valsRep ps cs).toArray ++ Array.replicate (n - (valsRep ps cs).toArray.size) undef).getD i undef = u := by
      have hb : i < ((valsRep ps cs).toArray ++ Array.replicate (n - (valsRep ps cs).toArray.size) undef).size := by simp; omega
      rw [← Array.getElem_eq_getD (h := hb)]
      rw [Array.getElem_append_left (by simpa using hlt)]
      simpa using h2'
    show RepV _ _ _ _ _ (((valsRep ps cs).toArray ++ Array.replicate (n - (valsRep ps cs).toArray.size) undef).getD i undef)
    rw [e1, e2]
    exact h3
  · have e1 : (Go.V.enter ps x ++ List.replicate (n - ps.length) AV.junk).getD i AV.junk = .junk := by
      simp only [List.getD]
      rw [List.getElem?_append_right (by rw [enter_len]; omega)]
      cases hq : (List.replicate (n - ps.length) AV.junk)[i - (Go.V.enter ps x).length]? with
      | none => rfl
      | some v => exact (List.eq_of_mem_replicate (List.mem_of_getElem? hq))
    rw [e1]
    trivial

theorem ld_ptr {X : Bool → Nat → Prop} {u : Ty} {av v : AV} {p : Value} (hs : ld hp u av some = some v) (h : RepV w X N φ av p) : ∃ b o, p = .pointer (some ⟨b, o, none⟩) := by
  cases av <;> try (cases hs; done)
  · obtain ⟨_, _, e⟩ := h
    exact ⟨_, _, e⟩
  · obtain ⟨_, b, o, xs, e, _⟩ := h
    exact ⟨_, _, e⟩

/-- A function's results, read. -/
theorem res_run {tb : Tab} {st : St} (hP : tabCheck P tb = true) (h : Ok w0 N φ st.tm st.hp a w) {f : ResultVar → Sem Value} (hf1 : ∀ t, f (.tmp t) = pure (a.tmps.getD t undef))
    (hf2 : ∀ x t, f (.cell x t) = (do loadVar t (← asAddr (a.tmps.getD x undef)))) : ∀ {rv : List ResultVar} {cells : List AV}, resCells tb st rv = some cells →
    ∃ vs, (rv.mapM f).run P w = .ok vs w ∧ RepT w (XX w0 w φ st.hp) N φ cells vs
  | [], cells, hs => by
    cases hs
    exact ⟨[], by simp, rfl⟩
  | .tmp t :: rv, cells, hs => by
    simp only [resCells] at hs
    split at hs
    · rename_i l hl
      cases hs
      obtain ⟨vs, h1, h2⟩ := res_run hP h hf1 hf2 hl
      refine ⟨a.tmps.getD t undef :: vs, ?_, _, _, rfl, h.tms t, h2⟩
      rw [List.mapM_cons, Sem.run_bind, hf1, Sem.run_pure, Result.andThen_ok, Sem.run_bind, h1, Result.andThen_ok, Sem.run_pure]
    · cases hs
  | .cell x t :: rv, cells, hs => by
    simp only [resCells] at hs
    split at hs
    · rename_i u hu
      split at hs
      · rename_i v l hv hl
        cases hs
        obtain ⟨i, d, z, ht⟩ := tyFact hP hu
        obtain ⟨vs, h1, h2⟩ := res_run hP h hf1 hf2 hl
        obtain ⟨y, g1, g2⟩ := ld_ok h ht hv (h.tms x)
        refine ⟨y :: vs, ?_, _, _, rfl, g2, h2⟩
        have g3 : (f (.cell x t)).run P w = .ok y w := by
          rw [hf2]
          obtain ⟨b, o, hq⟩ := ld_ptr hv (h.tms x)
          rw [hq] at g1 ⊢
          have g1' : (loadVar t ⟨b, o, none⟩).run P w = .ok y w := by
            have e : (Instr.loadAt t (.pointer (some ⟨b, o, none⟩))) = (loadVar t ⟨b, o, none⟩) := by
              simp [Instr.loadAt, Instr.sureAddr, asAddr]
            rw [e] at g1
            exact g1
          simpa [asAddr] using g1'
        rw [List.mapM_cons, Sem.run_bind, g3, Result.andThen_ok, Sem.run_bind, h1, Result.andThen_ok, Sem.run_pure]
      · cases hs
    · cases hs

/-- Rows among cells, each once, each one's own. -/
theorem distinct_append {hp : Hp} : ∀ {cs ds : List AV} {seen : List Nat}, distinct hp (cs ++ ds) seen = (distinct hp cs seen).bind (distinct hp ds)
  | [], ds, seen => rfl
  | c :: cs, ds, seen => by
    cases c <;> simp only [List.cons_append, distinct] <;> try rfl
    all_goals first
      | exact distinct_append
      | (split
         · rename_i p e l hr
           cases hb : (p || seen.contains _) with
           | true => simp
           | false => simp only [cond_false]; exact distinct_append
         · rfl)

theorem res_ok (h : Ok w0 N φ tm hp a w) : ∀ (t : Ty) {cs : List AV} {vs : List Value} {x : t.den} {seen seen' : List Nat}, prj hp t cs = some x → RepL w (XX w0 w φ hp) N φ cs vs → distinct hp cs seen = some seen' →
    ∃ bl, (∀ b ∈ blocksOf bl, ∃ r, r ∈ seen' ∧ r ∉ seen ∧ blkOf φ r (hp r) = some b) ∧ (blocksOf bl).Nodup ∧ (∀ r ∈ seen, r ∈ seen') ∧
      ∀ X : Nat → Prop, (∀ b, XX w0 w φ hp false b → X b) → ResO w X w0.heap.size t x vs bl
  | .bool, cs, vs, x, seen, seen', hx, hr, hd => by
    have := prj_ok h .bool (Y := fun _ => True) (fun c _ => ⟨fun _ _ _ _ => trivial, fun _ _ _ _ _ _ _ _ => trivial⟩) hx hr
    simp only [prj] at hx
    unfold getBool at hx
    split at hx
    · cases hd; exact ⟨[], fun b q => (by cases q), List.nodup_nil, fun r q => q, fun X _ => ⟨this, rfl⟩⟩
    · cases hx
  | .int k, cs, vs, x, seen, seen', hx, hr, hd => by
    have := prj_ok h (.int k) (Y := fun _ => True) (fun c _ => ⟨fun _ _ _ _ => trivial, fun _ _ _ _ _ _ _ _ => trivial⟩) hx hr
    simp only [prj] at hx
    unfold getInt at hx
    split at hx
    · cases hd; exact ⟨[], fun b q => (by cases q), List.nodup_nil, fun r q => q, fun X _ => ⟨this, rfl⟩⟩
    · cases hx
  | .str, cs, vs, x, seen, seen', hx, hr, hd => by
    have := prj_ok h .str (Y := fun _ => True) (fun c _ => ⟨fun _ _ _ _ => trivial, fun _ _ _ _ _ _ _ _ => trivial⟩) hx hr
    simp only [prj] at hx
    unfold getStr at hx
    split at hx
    · cases hd; exact ⟨[], fun b q => (by cases q), List.nodup_nil, fun r q => q, fun X _ => ⟨this, rfl⟩⟩
    · cases hx
  | .unit, cs, vs, x, seen, seen', hx, hr, hd => by
    have := prj_ok h .unit (Y := fun _ => True) (fun c _ => ⟨fun _ _ _ _ => trivial, fun _ _ _ _ _ _ _ _ => trivial⟩) hx hr
    simp only [prj] at hx
    unfold getUnit at hx
    split at hx
    · cases hd; exact ⟨[], fun b q => (by cases q), List.nodup_nil, fun r q => q, fun X _ => ⟨this, rfl⟩⟩
    · cases hx
  | .opq, cs, vs, x, seen, seen', hx, hr, hd => by cases hx
  | .pair s t, cs, vs, x, seen, seen', hx, hr, hd => by
    simp only [prj] at hx
    obtain ⟨h1, h2⟩ := both_some hx
    rw [← List.take_append_drop s.size cs, distinct_append] at hd
    obtain ⟨mid, hd1, hd2⟩ := Option.bind_eq_some_iff.1 hd
    obtain ⟨b1, p1, p2, p3, p4⟩ := res_ok h s h1 (hr.take s.size) hd1
    obtain ⟨b2, q1, q2, q3, q4⟩ := res_ok h t h2 (hr.drop s.size) hd2
    refine ⟨b1 ++ b2, fun b hb => ?_, ?_, fun r q => q3 r (p3 r q), fun X hX => ⟨_, _, b1, b2, (List.take_append_drop s.size vs).symm, rfl, p4 X hX, q4 X hX⟩⟩
    · simp only [blocksOf, List.filterMap_append, List.mem_append] at hb
      rcases hb with hb | hb
      · obtain ⟨r, z1, z2, z3⟩ := p1 b hb
        exact ⟨r, q3 r z1, z2, z3⟩
      · obtain ⟨r, z1, z2, z3⟩ := q1 b hb
        exact ⟨r, z1, fun q => z2 (p3 r q), z3⟩
    · simp only [blocksOf, List.filterMap_append]
      rw [List.nodup_append]
      refine ⟨p2, q2, fun b hb b' hb' e => ?_⟩
      subst e
      obtain ⟨r, z1, z2, z3⟩ := p1 b hb
      obtain ⟨r', z1', z2', z3'⟩ := q1 b hb'
      have := h.disj r r' b z3 z3'
      subst this
      exact z2' z1
  | .slice e, cs, vs, x, seen, seen', hx, hr, hd => by
    simp only [prj] at hx
    unfold getOne at hx
    split at hx
    · rename_i c
      obtain ⟨v, rfl, _, hv⟩ := repL_one hr
      unfold getSl at hx
      split at hx
      · cases hx
        cases hd
        cases hv
        exact ⟨[⟨.slice none 0 0, 0, e.size, 0⟩], fun b q => by simp [blocksOf, Value.ownBlock] at q, by simp [blocksOf, Value.ownBlock], fun r q => q,
          fun X _ => ⟨_, 0, [], rfl, World.ownsRow_nil .., rfl, rfl⟩⟩
      · cases hd
      · rename_i r
        simp only [distinct] at hd
        split at hd
        · rename_i p' e' l' hrow
          rw [hrow] at hx
          obtain ⟨he, hx⟩ := castL_eq hx
          subst he
          subst hx
          cases hb : (p' || seen.contains r) with
          | true => rw [hb] at hd; cases hd
          | false =>
            rw [hb, cond_false] at hd
            cases hd
            simp only [Bool.or_eq_false_iff] at hb
            obtain ⟨hb1, hb2⟩ := hb
            subst hb1
            have hrk := h.rows r
            rw [hrow] at hrk
            obtain ⟨hN, rfl, ad, n', c', hsl⟩ := hv
            obtain ⟨_, k1, k2, k3, te, xs, ho, hl⟩ := hrk
            refine ⟨[⟨(φ r).v, ((φ r).v.ownBlock).getD 0, e'.size, List.length (α := e'.den) x⟩], fun b q => ?_, ?_, fun r' q => List.mem_cons_of_mem _ q, fun X hX => ⟨_, te, xs, rfl, ho, hl.mono hX (fun _ _ => rfl), rfl⟩⟩
            · simp only [blocksOf, List.filterMap_cons, List.filterMap_nil] at q
              refine ⟨r, List.mem_cons_self .., by simpa using hb2, ?_⟩
              rw [hrow]
              simp only [blkOf]
              split at q
              · cases q
              · rename_i b' hb'
                simp only [List.mem_singleton] at q
                rw [q, hb']
            · simp only [blocksOf, List.filterMap_cons, List.filterMap_nil]
              split <;> simp
        · cases hd
      · cases hx
    · cases hx
end
end Go.V

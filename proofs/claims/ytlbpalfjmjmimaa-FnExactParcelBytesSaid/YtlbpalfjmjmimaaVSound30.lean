/- V: a function that V runs keeps its contract. -/
import Derived.Test.YtlbpalfjmjmimaaVSound29
set_option linter.unusedVariables false
set_option linter.unusedSimpArgs false
namespace Go.V
open Go.RowKit

section
variable {P : Program} {w0 w : World} {N : Nat → Prop} {φ : Nat → Blk} {tm : List AV} {hp : Hp} {a : Act}

theorem res_args (h : Ok w0 N φ tm hp a w) : ∀ {ts : List Ty} {vs : List AV} {us : List Value} {x : (tup ts).den} {seen seen' : List Nat}, args hp ts vs = some x → RepT w (XX w0 w φ hp) N φ vs us → distinct hp (vs.flatMap cellsOf) seen = some seen' →
    ∃ cs bl, us = valsRep ts cs ∧ (∀ b ∈ blocksOf bl, ∃ r, r ∈ seen' ∧ r ∉ seen ∧ blkOf φ r (hp r) = some b) ∧ (blocksOf bl).Nodup ∧ (∀ r ∈ seen, r ∈ seen') ∧
      ∀ X : Nat → Prop, (∀ b, XX w0 w φ hp false b → X b) → ResO w X w0.heap.size (tup ts) x cs bl
  | [], [], us, x, seen, seen', hx, hr, hd => by
    unfold RepT at hr
    subst hr
    cases hd
    exact ⟨[], [], rfl, fun b q => (by cases q), List.nodup_nil, fun r q => q, fun X _ => ⟨rfl, rfl⟩⟩
  | [], _ :: _, us, x, seen, seen', hx, hr, hd => by cases hx
  | _ :: _, [], us, x, seen, seen', hx, hr, hd => by cases hx
  | t :: ts, v :: vs, us, x, seen, seen', hx, hr, hd => by
    simp only [args] at hx
    obtain ⟨ha, hx⟩ := fin_bif' hx
    obtain ⟨h1, h2⟩ := both_some hx
    unfold RepT at hr
    obtain ⟨u, us', rfl, hu, hus⟩ := hr
    have ht := prj_told h1
    have hc := cells_rep hu ht
    rw [List.flatMap_cons, distinct_append] at hd
    obtain ⟨mid, hd1, hd2⟩ := Option.bind_eq_some_iff.1 hd
    obtain ⟨b1, p1, p2, p3, p4⟩ := res_ok h t h1 hc hd1
    obtain ⟨cs, b2, e2, q1, q2, q3, q4⟩ := res_args h h2 hus hd2
    have hl : u.cells.toList.length = t.size := (p4 (XX w0 w φ hp false) (fun _ q => q)).len.1
    refine ⟨u.cells.toList ++ cs, b1 ++ b2, ?_, fun b hb => ?_, ?_, fun r q => q3 r (p3 r q), fun X hX => ⟨_, _, b1, b2, rfl, rfl, p4 X hX, q4 X hX⟩⟩
    · show u :: us' = valOf t ((u.cells.toList ++ cs).take t.size) :: valsRep ts ((u.cells.toList ++ cs).drop t.size)
      rw [List.take_left' hl, List.drop_left' hl, ← e2, ← agg_val hu ht ha]
    · simp only [blocksOf, List.filterMap_append, List.mem_append] at hb
      rcases hb with hb | hb
      · obtain ⟨r, z1, z2, z3⟩ := p1 b hb
        exact ⟨r, q3 r z1, z2, z3⟩
      · obtain ⟨r, z1, z2, z3⟩ := q1 b hb
        exact ⟨r, z1, fun q => z2 (p3 r q), z3⟩
    · simp only [blocksOf, List.filterMap_append]
      rw [List.nodup_append]
      refine ⟨p2, q2, fun b hb b' hb' e => ?_⟩
      subst e
      obtain ⟨r, z1, z2, z3⟩ := p1 b hb
      obtain ⟨r', z1', z2', z3'⟩ := q1 b hb'
      have := h.disj r r' b z3 z3'
      subst this
      exact z2' z1

theorem run_results' {tb : Tab} {st : St} (hP : tabCheck P tb = true) (h : Ok w0 N φ st.tm st.hp a w) {rv : Array ResultVar} {f : ResultVar → Sem Value} (hf1 : ∀ t, f (.tmp t) = pure (a.tmps.getD t undef))
    (hf2 : ∀ x t, f (.cell x t) = (do loadVar t (← asAddr (a.tmps.getD x undef)))) {cells : List AV} (hs : resCells tb st rv.toList = some cells) :
    ∃ vs, (do let vs ← rv.mapM f; pure (if h : vs.size = 1 then vs[0] else .tuple vs) : Sem Value).run P w = .ok (oneV vs) w ∧ RepT w (XX w0 w φ st.hp) N φ cells vs := by
  obtain ⟨vs, h1, h2⟩ := res_run hP h hf1 hf2 hs
  refine ⟨vs, ?_, h2⟩
  rw [Array.mapM_eq_mapM_toList, Sem.run_bind]
  have : (List.toArray <$> List.mapM f rv.toList : Sem (Array Value)).run P w = .ok vs.toArray w := by
    rw [map_eq_pure_bind, Sem.run_bind, h1, Result.andThen_ok, Sem.run_pure]
  rw [this, Result.andThen_ok, Sem.run_pure]
  congr 1
  match vs with
  | [] => rfl
  | [v] => rfl
  | v :: v' :: vs => rfl
theorem run_results {fn : Func} {tb : Tab} {st : St} (hP : tabCheck P tb = true) (h : Ok w0 N φ st.tm st.hp a w) {cells : List AV} (hs : resCells tb st fn.results.toList = some cells) :
    ∃ vs, (results fn a.tmps).run P w = .ok (oneV vs) w ∧ RepT w (XX w0 w φ st.hp) N φ cells vs := by
  unfold results
  exact run_results' hP h (fun _ => rfl) (fun _ _ => rfl) hs

/-- A FUNCTION THAT V RUNS KEEPS ITS CONTRACT. -/
theorem run_ctr {E : Env} {f : Nat} {fn : Func} {c : Code} {ps rs : List Ty} (hm : P.follows .mixedOrders = true) (hP : tabCheck P E.tb = true) (hE : EqOk P E.tb) (hC : ∀ g c, look E.ct g = some c → Ctr P g c)
    (hf : P.funcs[f]? = some fn) (hname : (fn.name == "runtime.NumGoroutine") = false) (hb : fn.body = some c) {g : (tup ps).den → Option (tup rs).den} (hg : ∀ x r, g x = some r → run E fn ps rs true x = some r) : Ctr P f ⟨ps, rs, true, g⟩ := by
  refine ⟨rfl, fun w as => ?_, fun x r hx w as has => ?_⟩
  · have h1 : fn.name ≠ "runtime.NumGoroutine" := by simpa using hname
    simp [callFunc, hf, h1, hb]
  · have hrun := hg x r hx
    unfold run at hrun
    have hbody : body fn = c := by unfold body; rw [hb]
    rw [hbody] at hrun
    refine calls_of_wp hf hb ?_
    have hS := S.enter has fn.ntmps
    refine exec_ok hm hP hE hC c hrun hS fun e st' a' w' h' hk => ?_
    have key : final E.tb fn.results.toList rs true st' = some r → a'.defers = [] ∧ ∃ v, (results fn a'.tmps).run P w' = .ok v w' ∧
        ∃ cs bl, Ending.returned v = .returned (oneV (valsRep rs cs)) ∧ Below w.heap.size w w' ∧ (blocksOf bl).Nodup ∧ ResO w' (fun b => w.heap.size ≤ b ∧ b < w'.heap.size ∧ b ∉ blocksOf bl) w.heap.size (tup rs) r cs bl := by
      intro hk
      obtain ⟨N, φ, hN, h'⟩ := h'
      unfold final at hk
      split at hk
      · cases hk
      · rename_i cells hcells
        rw [cond_true] at hk
        split at hk
        · rename_i seen hseen
          obtain ⟨vs, r1, r2⟩ := run_results hP h' hcells
          obtain ⟨cs, bl, e, b1, b2, b3, b4⟩ := res_args h' hk r2 hseen
          refine ⟨h'.defers, _, r1, cs, bl, by rw [e], h'.below, b2, b4 _ fun b hb => ⟨hb.2.2 rfl, hb.1, fun hq => ?_⟩⟩
          obtain ⟨r', _, _, h3⟩ := b1 b hq
          exact hb.2.1 ⟨r', h3⟩
        · cases hk
    cases e with
    | normal => exact key hk
    | ret => exact key hk
    | exit i => cases hk
end
end Go.V

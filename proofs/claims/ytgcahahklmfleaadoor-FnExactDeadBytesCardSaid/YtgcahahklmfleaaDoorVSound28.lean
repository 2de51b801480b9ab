/- V: code that V carries out, the model carries out. -/
import Derived.Test.YtgcahahklmfleaaDoorVSound27
set_option linter.unusedVariables false
set_option linter.unusedSimpArgs false
namespace Go.V
open Go.RowKit

section
variable {P : Program} {w0 : Bs} {w : World} {N : Nat → Prop} {φ : Nat → Blk} {tm : List AV} {hp : Hp} {a : Act}

theorem Ok.drew (h : Ok w0 N φ tm hp a w) : Ok w0 N φ tm hp a { w with drawn := w.drawn + 1 } := by
  refine h.step (fun _ => False) (fun _ q => q) (fun _ _ => rfl) ⟨h.below.os, h.below.tape, h.below.output, h.below.size, h.below.block⟩ (Nat.le_refl _) (fun _ _ _ => rfl) (fun _ q => q.elim) (fun b _ q => q) (fun r => ?_) h.disj
  have hr := h.rows r
  cases hq : hp r with
  | dead => right; trivial
  | box cs => rw [hq] at hr; exact Or.inl ⟨rfl, hr.1, fun _ _ q => q⟩
  | own p e l => rw [hq] at hr; exact Or.inl ⟨rfl, hr.1, fun _ _ q => q⟩
  | fro p e l => rw [hq] at hr; exact Or.inl ⟨rfl, hr.1.1, fun _ _ q => q⟩

theorem rept_none {D : Nat → Bool} : ∀ {gs : List G}, (∀ g ∈ gs, D g.i = false) → rept tm D gs = tm
  | [], _ => rfl
  | g :: gs, h => by
    simp only [rept]
    rw [h g (List.mem_cons_self ..), cond_false]
    exact rept_none fun g' hg => h g' (List.mem_cons_of_mem _ hg)
theorem rep_none {D : Nat → Bool} : ∀ {gs : List G}, (∀ g ∈ gs, D g.i = false) → rep hp D gs = hp
  | [], _ => rfl
  | g :: gs, h => by
    simp only [rep]
    rw [h g (List.mem_cons_self ..), cond_false]
    exact rep_none fun g' hg => h g' (List.mem_cons_of_mem _ hg)

theorem region_any {R : Type} {tb : Tab} {ct : List (Nat × Cn)} (hm : P.follows .mixedOrders = true) (hP : tabCheck P tb = true) (hE : EqOk P tb) (hC : ∀ f c, look ct f = some c → CtrW w0 P f c) {id : Nat} {os : Array Oper} {st : St} {k : St → Option R} {r : R}
    {Q : Exit → Act → World → Prop} (h : S w0 st a w) (ht : tmsOk os.toList os.toList 0 [] = true) (hs : dops tb ct os.toList st.hp os.toList 0 [] [] st.tm st.nx k = some r)
    (hQ : ∀ st' a' w', S w0 st' a' w' → k st' = some r → Q .normal a' w') : (Code.region id os true).wp P Q a w := by
  obtain ⟨N, φ, hN, h⟩ := h
  have hgl0 : GL tb ct os.toList st.tm st.hp st.nx 0 st.nx [] := ⟨fun _ q => (by cases q), List.Pairwise.nil, fun _ q => absurd q (Nat.not_lt_zero _), fun _ q => (by cases q), Nat.le_refl _⟩
  obtain ⟨gs, nx', hgl, hk⟩ := dops_run os.toList [] 0 [] [] st.tm st.nx rfl rfl rfl (fun _ q => by cases q) hgl0 ht rfl hs
  refine wp_region_any hm ?_
  have hf : ∀ j, (Array.replicate os.size false).getD j false = false := fun j => by
    by_cases hj : j < os.size <;> simp [hj]
  have := any_ok (Q := Q) (w0 := w0) hP hE hC hgl (fun N φ a w hN h => hQ _ a w ⟨N, φ, hN, h⟩ hk) os.size (Array.replicate os.size false) a { w with drawn := w.drawn + 1 } N φ (by simp) (by
      have := List.length_filter_le (fun j => !(Array.replicate os.size false).getD j false) (List.range os.toList.length)
      simpa using this) (fun g hg q => by rw [hf] at q; cases q) (fun r q => Or.inl (hN r q)) (by
      rw [rept_none fun g _ => hf _, rep_none fun g _ => hf _]
      exact h.drew)
  simpa using this

theorem ops_ok {R : Type} {tb : Tab} {ct : List (Nat × Cn)} (hP : tabCheck P tb = true) (hE : EqOk P tb) (hC : ∀ f c, look ct f = some c → CtrW w0 P f c) {all : List Oper} {k : St → Option R} {r : R} {Q : Exit → Act → World → Prop}
    (hQ : ∀ st' a' w', S w0 st' a' w' → k st' = some r → Q .normal a' w') : ∀ (os pre : List Oper) (st : St) (a : Act) (w : World), all = pre ++ os → S w0 st a w → ops tb ct all os st k = some r →
      wpOps P all.toArray Q (List.range' pre.length os.length) a w
  | [], pre, st, a, w, hall, h, hs => hQ st a w h hs
  | o :: os, pre, st, a, w, hall, h, hs => by
    obtain ⟨N, φ, hN, h⟩ := h
    have hat : all[pre.length]? = some o := by rw [hall, List.getElem?_append_right (Nat.le_refl _)]; simp
    simp only [List.length_cons, List.range'_succ, wpOps, List.getElem?_toArray, hat]
    simp only [ops] at hs
    have ih := ops_ok (all := all) hP hE hC hQ os (pre ++ [o])
    simp only [List.length_append, List.length_cons, List.length_nil, Nat.zero_add] at ih
    rcases guarded_cases hs with ⟨hw, hs⟩ | ⟨hw, hs⟩
    · rw [wanted_ok h hw, if_pos rfl]
      left
      rw [oper_bind] at hs
      obtain ⟨⟨v, us, nx'⟩, ho, hs⟩ := Option.bind_eq_some_iff.1 hs
      have hsh := (oper_shape ho).1
      refine Oper.wp_mono (fun a' w' hA => ?_) (op_ok h hP hE hC ho (fun r q1 _ q2 => by have := hN r q2; omega))
      obtain ⟨φ', _, h'⟩ := hA
      exact ih _ a' w' (by rw [hall]; simp) ⟨_, φ', fun r q => by
        show r < nx'
        rcases q with q | q
        · have := hN r q; omega
        · exact q.2, h'⟩ hs
    · rw [wanted_ok h hw, if_neg (by simp)]
      exact ih ⟨setD st.tm o.dst (.tup []), st.hp, st.nx⟩ _ w (by rw [hall]; simp) ⟨N, φ, hN, h.put o.dst (v := .tup []) ⟨[], rfl, rfl⟩⟩ hs

def exOf : Ex → Exit
  | .normal => .normal
  | .ret => .ret
  | .exit i => .exit i

theorem least {p : Nat → Prop} (h : ∃ n, p n) : ∃ n, p n ∧ ∀ m, p m → n ≤ m := by
  obtain ⟨n, hn⟩ := h
  induction n using Nat.strongRecOn with
  | _ n ih =>
    by_cases q : ∃ m, m < n ∧ p m
    · obtain ⟨m, h1, h2⟩ := q
      exact ih m h1 h2
    · exact ⟨n, hn, fun m hm => Nat.le_of_not_lt fun hlt => q ⟨m, hlt, hm⟩⟩
open Classical in
noncomputable def meas (p : Act → World → Nat → Prop) (a : Act) (w : World) : Nat := if h : ∃ n, p a w n then (least h).choose else 0
theorem meas_ok {p : Act → World → Nat → Prop} {a : Act} {w : World} (h : ∃ n, p a w n) : p a w (meas p a w) ∧ ∀ m, p a w m → meas p a w ≤ m := by
  unfold meas
  rw [dif_pos h]
  exact (least h).choose_spec

theorem exec_ok {R : Type} {E : Env} (hm : P.follows .mixedOrders = true) (hP : tabCheck P E.tb = true) (hE : EqOk P E.tb) (hC : ∀ f c, look E.ct f = some c → CtrW w0 P f c) (hg : E.g = w0.g) :
    ∀ (c : Code) {st : St} {K : Ex → St → Option R} {r : R} {a : Act} {w : World} {Q : Exit → Act → World → Prop}, exec E c st K = some r → S w0 st a w →
      (∀ e st' a' w', S w0 st' a' w' → K e st' = some r → Q (exOf e) a' w') → c.wp P Q a w
  | .skip, st, K, r, a, w, Q, hs, h, hQ => wp_skip (hQ .normal st a w h hs)
  | .label _, st, K, r, a, w, Q, hs, h, hQ => wp_label (hQ .normal st a w h hs)
  | .ret, st, K, r, a, w, Q, hs, h, hQ => wp_ret (hQ .ret st a w h hs)
  | .exit i, st, K, r, a, w, Q, hs, h, hQ => wp_exit (hQ (.exit i) st a w h hs)
  | .region id os draw, st, K, r, a, w, Q, hs, h, hQ => by
    simp only [exec] at hs
    cases draw with
    | true =>
      rw [cond_true] at hs
      obtain ⟨ht, hs⟩ := fin_bif' hs
      exact region_any hm hP hE hC h ht hs fun st' a' w' h' hk => hQ .normal st' a' w' h' hk
    | false =>
      rw [cond_false] at hs
      refine wp_region ?_
      have := ops_ok (Q := Q) hP hE hC (fun st' a' w' h' hk => hQ .normal st' a' w' h' hk) os.toList [] st a w rfl h hs
      simpa [List.range_eq_range'] using this
  | .seq x y, st, K, r, a, w, Q, hs, h, hQ => by
    simp only [exec] at hs
    refine wp_seq (exec_ok hm hP hE hC hg x hs h fun e st' a' w' h' hk => ?_)
    cases e with
    | normal =>
      simp only [] at hk
      split at hk
      · rename_i live _
        cases hf : E.fuel with
        | zero => rw [hf] at hk; cases hk
        | succ n =>
          rw [hf] at hk
          simp only [joinN] at hk
          rw [hg] at hk
          exact exec_ok hm hP hE hC hg y hk (canon_ok h') hQ
      · exact exec_ok hm hP hE hC hg y hk h' hQ
    | ret => exact hQ .ret st' a' w' h' hk
    | exit i => exact hQ (.exit i) st' a' w' h' hk
  | .cond c x y, st, K, r, a, w, Q, hs, h, hQ => by
    simp only [exec] at hs
    split at hs
    · rename_i b hb
      have h0 := h
      obtain ⟨N, φ, hN, h1⟩ := h0
      have hc := h1.val (tb := E.tb) 0 c
      rw [hb] at hc
      have hc : a.eval c = .bool b := hc
      refine wp_cond hc ?_
      cases b with
      | true => exact exec_ok hm hP hE hC hg x hs h hQ
      | false => exact exec_ok hm hP hE hC hg y hs h hQ
    · cases hs
  | .block id c, st, K, r, a, w, Q, hs, h, hQ => by
    simp only [exec] at hs
    refine wp_block (exec_ok hm hP hE hC hg c hs h fun e st' a' w' h' hk => ?_)
    cases e with
    | normal => exact hQ .normal st' a' w' h' hk
    | ret => exact hQ .ret st' a' w' h' hk
    | exit i =>
      simp only [] at hk
      by_cases hi : i = id
      · subst hi
        simp at hk
        have := hQ .normal st' a' w' h' hk
        simpa [exOf, Exit.inBlock] using this
      · have hb : Nat.beq i id = false := by
          cases hb : Nat.beq i id with
          | false => rfl
          | true => exact absurd (Nat.eq_of_beq_eq_true hb) hi
        rw [hb, cond_false] at hk
        have := hQ (.exit i) st' a' w' h' hk
        simpa [exOf, Exit.inBlock, hi] using this
  | .loop c, st, K, r, a, w, Q, hs, h, hQ => by
    simp only [exec] at hs
    rw [hg] at hs
    let p : Act → World → Nat → Prop := fun a w n => ∃ st, S w0 st a w ∧ loopN (exec E c) (canon w0.g ((look E.live (firstRegion c)).getD [])) K n st = some r
    refine wp_loop (fun a w => ∃ n, p a w n) (meas p) ⟨_, _, canon_ok h, hs⟩ fun a w hI => ?_
    obtain ⟨⟨st, h, hs⟩, hmin⟩ := meas_ok hI
    cases hn : meas p a w with
    | zero => rw [hn] at hs; cases hs
    | succ m =>
      rw [hn] at hs
      simp only [loopN] at hs
      refine exec_ok hm hP hE hC hg c hs h fun e st' a' w' h' hk => ?_
      cases e with
      | normal =>
        have hp' : p a' w' m := ⟨_, canon_ok h', hk⟩
        exact ⟨⟨m, hp'⟩, Nat.lt_succ_of_le ((meas_ok ⟨m, hp'⟩).2 m hp')⟩
      | ret => exact hQ .ret st' a' w' h' hk
      | exit i => exact hQ (.exit i) st' a' w' h' hk
  | .rangeFunc _ _ _ _, _, _, _, _, _, _, hs, _, _ => by cases hs
  | .scope _, _, _, _, _, _, _, hs, _, _ => by cases hs
  | .goto _, _, _, _, _, _, _, hs, _, _ => by cases hs
  | .refuse _, _, _, _, _, _, _, hs, _, _ => by cases hs
end
end Go.V

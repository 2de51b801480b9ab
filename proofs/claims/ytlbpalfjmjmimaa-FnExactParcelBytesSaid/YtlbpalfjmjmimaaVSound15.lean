/- V: rows that are frozen, read as before; arguments; results. -/
import Derived.Test.YtlbpalfjmjmimaaVSound14
set_option linter.unusedVariables false
set_option linter.unusedSimpArgs false
namespace Go.V
open Go.RowKit

/-- As before, but that rows are frozen. -/
def FrEq (hp hp1 : Hp) : Prop := ∀ r, hp1 r = hp r ∨ ∃ p e l, hp r = .own p e l ∧ hp1 r = .fro p e l

theorem Frz.eq (us : Ups) : ∀ {hp : Hp}, Frz hp us → FrEq hp (apply hp us) ∧ ∀ r x, (r, x) ∈ us → apply hp us r = x := by
  induction us with
  | nil => exact fun h => ⟨fun r => Or.inl rfl, fun r x q => by cases q⟩
  | cons u us ih =>
    intro hp h
    obtain ⟨r, x⟩ := u
    obtain ⟨h1, h2⟩ := ih h.tail
    obtain ⟨p, e, l, rfl, hr⟩ := h r x (List.mem_cons_self ..)
    refine ⟨fun s => ?_, fun s y hs => ?_⟩
    · by_cases q : s = r
      · subst q
        have := h1 s
        rw [upd_same] at this
        rcases this with g | ⟨p', e', l', g, _⟩
        · rcases hr with hr | hr
          · exact Or.inr ⟨p, e, l, hr, g⟩
          · exact Or.inl (by rw [hr]; exact g)
        · cases g
      · have := h1 s
        rwa [upd_other hp _ q] at this
    · rcases List.mem_cons.1 hs with q | q
      · obtain ⟨q1, q2⟩ := Prod.mk.inj q
        subst q1
        subst q2
        have := h1 s
        rw [upd_same] at this
        rcases this with g | ⟨p', e', l', g, _⟩
        · exact g
        · cases g
      · exact h2 s y q

theorem freeze_mem (hp : Hp) : ∀ {cs : List AV} {r : Nat} {p : Bool} {e : Ty} {l : List e.den}, AV.ref r ∈ cs → hp r = .own p e l → (r, Row.fro p e l) ∈ freeze hp cs
  | [], _, _, _, _, h, _ => by cases h
  | c :: cs, r, p, e, l, h, hr => by
    unfold Go.V.freeze
    split
    · rename_i heq; cases heq
    · rename_i r' cs' heq
      cases heq
      rcases List.mem_cons.1 h with q | q
      · cases q
        rw [hr]
        exact List.mem_cons_self ..
      · have := freeze_mem hp q hr
        split
        · exact List.mem_cons_of_mem _ this
        · exact List.mem_cons_of_mem _ this
        · exact this
    · rename_i c' cs' hne heq
      cases heq
      rcases List.mem_cons.1 h with q | q
      · exact absurd q.symm (hne r)
      · exact freeze_mem hp q hr

theorem freeze_keys (hp : Hp) : ∀ {cs : List AV} {r : Nat} {x : Row}, (r, x) ∈ freeze hp cs → r ∈ refs cs
  | [], _, _, h => by cases h
  | c :: cs, r, x, h => by
    unfold Go.V.freeze at h
    split at h
    · cases h
    · rename_i r' cs' heq
      cases heq
      simp only [refs]
      split at h
      · rcases List.mem_cons.1 h with q | q
        · cases q; exact List.mem_cons_self ..
        · exact List.mem_cons_of_mem _ (freeze_keys hp q)
      · rcases List.mem_cons.1 h with q | q
        · cases q; exact List.mem_cons_self ..
        · exact List.mem_cons_of_mem _ (freeze_keys hp q)
      · exact List.mem_cons_of_mem _ (freeze_keys hp h)
    · rename_i c' cs' hne heq
      cases heq
      have := freeze_keys hp h
      unfold refs
      split
      · rename_i q; cases q
      · rename_i q; cases q; exact List.mem_cons_of_mem _ this
      · rename_i q; cases q; exact List.mem_cons_of_mem _ this
      · rename_i q; cases q; exact this

section
variable {hp hp1 : Hp}
theorem FrEq.getSl (h : FrEq hp hp1) (e : Ty) (c : AV) : getSl hp1 e c = getSl hp e c := by
  cases c <;> try rfl
  rename_i r
  rcases h r with q | ⟨p, e', l, q1, q2⟩
  · simp only [Go.V.getSl, q]
  · simp only [Go.V.getSl, q1, q2]
theorem FrEq.prj (h : FrEq hp hp1) : ∀ (t : Ty) (cs : List AV), prj hp1 t cs = prj hp t cs
  | .bool, _ => rfl
  | .int _, _ => rfl
  | .str, _ => rfl
  | .slice e, cs => by
    simp only [Go.V.prj, getOne]
    split
    · exact h.getSl e _
    · rfl
  | .pair a b, cs => by simp only [Go.V.prj, h.prj a, h.prj b]
  | .unit, _ => rfl
  | .opq, _ => rfl
theorem FrEq.taint1 (h : FrEq hp hp1) (c : AV) : taint1 hp1 c = taint1 hp c := by
  cases c <;> try rfl
  rename_i r
  rcases h r with q | ⟨p, e', l, q1, q2⟩
  · simp only [Go.V.taint1, q]
  · simp only [Go.V.taint1, q1, q2]
theorem FrEq.taint (h : FrEq hp hp1) : ∀ cs : List AV, taint hp1 cs = taint hp cs
  | [] => rfl
  | c :: cs => by simp only [Go.V.taint, h.taint1 c, h.taint cs]
end

theorem taint_mem {hp : Hp} : ∀ {cs : List AV} {c : AV}, c ∈ cs → taint1 hp c = true → taint hp cs = true
  | [], _, h, _ => by cases h
  | d :: cs, c, h, ht => by
    simp only [taint]
    rcases List.mem_cons.1 h with q | q
    · subst q; rw [ht]; rfl
    · cases hd : taint1 hp d with
      | true => rfl
      | false => exact taint_mem q ht

theorem prj_junk (hp : Hp) : ∀ (t : Ty), prj hp t [.junk] = none
  | .bool => rfl
  | .int _ => rfl
  | .str => rfl
  | .slice _ => rfl
  | .pair a b => by
    simp only [prj]
    cases ha : a.size with
    | zero => simp [prj_junk hp b, both]
    | succ n => simp [prj_junk hp a, both]
  | .unit => rfl
  | .opq => rfl
theorem prj_tup (hp : Hp) (vs : List AV) : ∀ (t : Ty), prj hp t [.tup vs] = none
  | .bool => rfl
  | .int _ => rfl
  | .str => rfl
  | .slice _ => rfl
  | .pair a b => by
    simp only [prj]
    cases ha : a.size with
    | zero => simp [prj_tup hp vs b, both]
    | succ n => simp [prj_tup hp vs a, both]
  | .unit => rfl
  | .opq => rfl
theorem prj_told {hp : Hp} {t : Ty} {v : AV} {x : t.den} (h : prj hp t (cellsOf v) = some x) : told v = true := by
  cases v <;> try rfl
  · rw [show cellsOf AV.junk = [.junk] from rfl, prj_junk] at h; cases h
  · rename_i vs; rw [show cellsOf (AV.tup vs) = [.tup vs] from rfl, prj_tup] at h; cases h

section
variable {P : Program} {tb : Tab} {w0 w w' : World} {N : Nat → Prop} {φ : Nat → Blk} {tm : List AV} {hp : Hp} {a : Act}

/-- Where rows are frozen, cells read as values that nobody writes any more. -/
theorem reads_frozen (h : Ok w0 N φ tm hp a w) {cs : List AV} {q : Bool} (hq : ∀ c ∈ cs, taint1 hp c = true → q = true) (hno : ∀ r p e l, AV.ref r ∈ cs → hp r ≠ .own p e l) :
    ∀ c ∈ cs, Reads w0 w φ hp (XX w0 w φ hp q) c := by
  intro c hc
  have hXp : ∀ p', (p' = true → q = true) → ∀ b, XX w0 w φ hp p' b → XX w0 w φ hp q b := by
    intro p' hpq b hx
    refine ⟨hx.1, hx.2.1, fun hf => hx.2.2 ?_⟩
    cases p' with
    | false => rfl
    | true => rw [hpq rfl] at hf; cases hf
  refine ⟨fun p b hp' hx => hXp p (fun e => hq c hc (hp' e)) b hx, fun r p e l b e1 e2 hb => ?_⟩
  subst e1
  rcases e2 with e2 | e2
  · exact absurd e2 (hno r p e l hc)
  · have hr := h.rows r
    rw [e2] at hr
    exact hXp p (fun e => hq _ hc (by simp [taint1, e2, e])) b (hr.2 b hb)

/-- Any cells, read by a callee. -/
theorem reads_any (h : Ok w0 N φ tm hp a w) (c : AV) : Reads w0 w φ hp (fun b => b < w.heap.size) c := by
  refine ⟨fun p b _ hx => hx.1, fun r p e l b e1 e2 hb => ?_⟩
  have hr := h.rows r
  rcases e2 with e2 | e2
  · exact (h.blk_lt (r := r) (by rw [e2]; exact hb)).2
  · rw [e2] at hr
    exact (hr.2 b hb).1

theorem agg_val {X : Bool → Nat → Prop} {v : AV} {u : Value} {t : Ty} (h : RepV w X N φ v u) (ht : told v = true) (ha : aggOk t v = true) : u = valOf t u.cells.toList := by
  unfold valOf
  cases v <;> simp only [aggOk] at ha <;> try (cases ht; done)
  all_goals (try (have ha' : t.agg = false := by simpa using ha))
  case agg cs => obtain ⟨vs, rfl, _⟩ := h; rw [if_pos ha]; simp [Value.cells]
  case bool => cases h; rw [ha']; rfl
  case int => cases h; rw [ha']; rfl
  case str => cases h; rw [ha']; rfl
  case nil => cases h; rw [ha']; rfl
  case sl p e l => obtain ⟨ad, n, c, xs, hc, _⟩ := h; cases hc; rw [ha']; rfl
  case ref => obtain ⟨_, _, ad, n, c, rfl⟩ := h; rw [ha']; rfl
  case ptr => obtain ⟨_, _, rfl⟩ := h; rw [ha']; rfl
  case sptr => obtain ⟨_, b, o, xs, rfl, _⟩ := h; rw [ha']; rfl
  case fn => obtain ⟨vs, rfl, _⟩ := h; rw [ha']; rfl

theorem args_ok (h : Ok w0 N φ tm hp a w) : ∀ {ts : List Ty} {vs : List AV} {us : List Value} {x : (tup ts).den}, args hp ts vs = some x → RepT w (XX w0 w φ hp) N φ vs us →
    ArgsRep w (fun b => b < w.heap.size) ts x us
  | [], [], us, x, hx, hr => by
    unfold RepT at hr
    subst hr
    exact ⟨[], rfl, rfl⟩
  | [], _ :: _, us, x, hx, hr => by cases hx
  | _ :: _, [], us, x, hx, hr => by cases hx
  | t :: ts, v :: vs, us, x, hx, hr => by
    simp only [args] at hx
    obtain ⟨ha, hx⟩ := fin_bif' hx
    obtain ⟨h1, h2⟩ := both_some hx
    unfold RepT at hr
    obtain ⟨u, us', rfl, hu, hus⟩ := hr
    obtain ⟨cs, g1, g2⟩ := args_ok h h2 hus
    have ht := prj_told h1
    have hp1 := prj_ok h t (fun c _ => reads_any h c) h1 (cells_rep hu ht)
    refine ⟨u.cells.toList ++ cs, ⟨_, _, rfl, hp1, g1⟩, ?_⟩
    have hl := hp1.len
    subst g2
    show u :: _ = valOf t ((u.cells.toList ++ cs).take t.size) :: valsRep ts ((u.cells.toList ++ cs).drop t.size)
    rw [← hl, List.take_left, List.drop_left, ← agg_val hu ht ha]

/-- What a call hands back, in the caller's state. -/
theorem outs_ok {X : Nat → Prop} {B : Nat} {Y : Bool → Nat → Prop} {N' : Nat → Prop} {φ' : Nat → Blk} : ∀ {ts : List Ty} {x : (tup ts).den} {cs : List Value} {bl : List Blk} {id : Nat}, ResO w X B (tup ts) x cs bl →
    (∀ k (h : k < bl.length), φ' (id + k) = bl[k]) → (∀ k, k < bl.length → N' (id + k)) → RepT w Y N' φ' (outs true ts x id) (valsRep ts cs)
  | [], _, cs, _, _, hr, _, _ => rfl
  | t :: ts, x, _, _, id, ⟨c, d, b1, b2, h1, h2, h3, h4⟩, hφ, hN => by
    subst h1; subst h2
    have l1 := h3.len
    have hc := h3.cells (Y := Y) (N' := N') (φ' := φ') (id := id) (fun k hk => by rw [hφ k (by rw [List.length_append]; omega), List.getElem_append_left hk]) (fun k hk => hN k (by rw [List.length_append]; omega))
    have ih := outs_ok (Y := Y) (N' := N') (φ' := φ') (id := id + t.rows) h4 (fun k hk => by
      rw [Nat.add_assoc, hφ (t.rows + k) (by rw [List.length_append]; omega), List.getElem_append_right (by omega)]
      congr 1
      omega) (fun k hk => by rw [Nat.add_assoc]; exact hN _ (by rw [List.length_append]; omega))
    unfold outs valsRep
    rw [← l1.1, List.take_left, List.drop_left]
    unfold RepT
    refine ⟨_, _, rfl, valOf_rep hc (hc.len.symm.trans l1.1), ih⟩

theorem one_ok {X : Bool → Nat → Prop} : ∀ {vs : List AV} {us : List Value}, RepT w X N φ vs us → RepV w X N φ (one vs) (oneV us)
  | [], us, h => by unfold RepT at h; subst h; exact ⟨[], rfl, rfl⟩
  | [v], us, h => by
    unfold RepT at h
    obtain ⟨u, us', rfl, hu, h2⟩ := h
    unfold RepT at h2
    subst h2
    exact hu
  | v :: v' :: vs, us, h => by
    have h' := h
    unfold RepT at h
    obtain ⟨u, us', rfl, hu, h2⟩ := h
    unfold RepT at h2
    obtain ⟨u', us'', rfl, hu', h3⟩ := h2
    exact ⟨_, rfl, h'⟩
end
end Go.V

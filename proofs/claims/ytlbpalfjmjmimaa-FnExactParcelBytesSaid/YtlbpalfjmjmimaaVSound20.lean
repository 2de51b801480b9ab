/- V: an operation looks at no more of the rows, and of the temporaries, than it names. -/
import Derived.Test.YtlbpalfjmjmimaaVSound19
set_option linter.unusedVariables false
set_option linter.unusedSimpArgs false
namespace Go.V
open Go.RowKit

/-- On these rows two heaps agree, but that the second may have frozen some. -/
def FrOn (L : List Nat) (A B : Hp) : Prop := ∀ r ∈ L, B r = A r ∨ ∃ p e l, A r = .own p e l ∧ B r = .fro p e l

theorem refs_iff : ∀ {cs : List AV} {r : Nat}, r ∈ refs cs ↔ (AV.ref r ∈ cs ∨ ∃ i f, AV.ptr r i f ∈ cs)
  | [], r => by simp [refs]
  | c :: cs, r => by
    have ih := refs_iff (cs := cs) (r := r)
    cases c <;> simp [refs, ih, List.mem_cons] <;> grind

theorem FrOn.sub {L M : List Nat} {A B : Hp} (h : FrOn L A B) (hs : ∀ r ∈ M, r ∈ L) : FrOn M A B := fun r hr => h r (hs r hr)
theorem refs_sub {cs ds : List AV} (h : ∀ c ∈ ds, c ∈ cs) : ∀ r ∈ refs ds, r ∈ refs cs := fun r hr => by
  rw [refs_iff] at hr ⊢
  rcases hr with q | ⟨i, f, q⟩
  · exact Or.inl (h _ q)
  · exact Or.inr ⟨i, f, h _ q⟩

theorem hard_mem : ∀ {us : Ups} {r : Nat} {x : Row}, (r, x) ∈ us → (∀ p e l, x ≠ .fro p e l) → r ∈ hard us
  | [], _, _, h, _ => by cases h
  | (s, y) :: us, r, x, h, hx => by
    unfold hard
    rcases List.mem_cons.1 h with q | q
    · cases q
      split
      · rename_i q; cases q
      · rename_i q; cases q; exact absurd rfl (hx _ _ _)
      · rename_i q; cases q; exact List.mem_cons_self ..
    · have := hard_mem q hx
      split
      · rename_i q; cases q
      · rename_i q; cases q; exact this
      · rename_i q; cases q; exact List.mem_cons_of_mem _ this

section
variable {A B : Hp}
theorem getSl_agree {e : Ty} {c : AV} (h : FrOn (refs [c]) A B) : getSl B e c = getSl A e c := by
  cases c <;> try rfl
  rename_i r
  simp only [getSl]
  rcases h r (by simp [refs]) with q | ⟨p, e', l, q1, q2⟩
  · rw [q]
  · rw [q1, q2]
theorem prj_agree : ∀ {t : Ty} {cs : List AV}, FrOn (refs cs) A B → prj B t cs = prj A t cs
  | .bool, _, _ => rfl
  | .int _, _, _ => rfl
  | .str, _, _ => rfl
  | .slice e, cs, h => by
    simp only [prj, getOne]
    split
    · exact getSl_agree h
    · rfl
  | .pair a b, cs, h => by
    simp only [prj]
    rw [prj_agree (t := a) (h.sub (refs_sub fun c hc => List.mem_of_mem_take hc)), prj_agree (t := b) (h.sub (refs_sub fun c hc => List.mem_of_mem_drop hc))]
  | .unit, _, _ => rfl
  | .opq, _, _ => rfl
theorem taint1_agree {c : AV} (h : FrOn (refs [c]) A B) : taint1 B c = taint1 A c := by
  cases c <;> try rfl
  rename_i r
  simp only [taint1]
  rcases h r (by simp [refs]) with q | ⟨p, e', l, q1, q2⟩
  · rw [q]
  · rw [q1, q2]
theorem taint_agree : ∀ {cs : List AV}, FrOn (refs cs) A B → taint B cs = taint A cs
  | [], _ => rfl
  | c :: cs, h => by
    simp only [taint]
    rw [taint1_agree (h.sub (refs_sub fun d hd => by simp at hd; subst hd; exact List.mem_cons_self ..)), taint_agree (h.sub (refs_sub fun d hd => List.mem_cons_of_mem _ hd))]
theorem freeze_agree : ∀ {cs : List AV}, FrOn (refs cs) A B → freeze B cs = freeze A cs
  | [], _ => rfl
  | c :: cs, h => by
    have ih := freeze_agree (cs := cs) (h.sub (refs_sub fun d hd => List.mem_cons_of_mem _ hd))
    cases c <;> try exact ih
    rename_i r
    simp only [freeze, ih]
    rcases h r (by simp [refs]) with q | ⟨p, e', l, q1, q2⟩
    · rw [q]
    · rw [q1, q2]
theorem ld_agree {R : Type} {t : Ty} {a : AV} {k : AV → Option R} (h : FrOn (refs (cellsOf a)) A B) : ld B t a k = ld A t a k := by
  cases a <;> try rfl
  rename_i r i off
  simp only [ld]
  rcases h r (by simp [refs, cellsOf]) with q | ⟨p, e', l, q1, q2⟩
  · rw [q]
  · rw [q1, q2]
theorem storeTo_agree {t : Ty} {a v : AV} {us : Ups} (hs : storeTo A t a v some = some us) (h1 : FrOn (refs (cellsOf a)) A B) (h2 : FrOn (refs (cellsOf v)) A B) (hh : ∀ r ∈ hard us, r ∈ refs (cellsOf a) → B r = A r) : storeTo B t a v some = some us := by
  unfold storeTo at hs ⊢
  obtain ⟨hc, hs⟩ := fin_bif' hs
  rw [hc, cond_true]
  split at hs
  · rename_i r i off _
    split at hs
    · rename_i cs hr
      obtain ⟨hle, hs⟩ := fin_bif' hs
      cases hs
      rw [hh r (hard_mem (List.mem_singleton.2 rfl) (fun _ _ _ q => by cases q)) (by simp [refs, cellsOf]), hr]
      simp only [hle, cond_true]
    · rename_i p e l hr
      obtain ⟨hn, hs⟩ := fin_bif hs
      split at hs
      · rename_i y hy
        split at hs
        · rename_i z hz
          cases hs
          rw [hh r (hard_mem (List.mem_append_right _ (List.mem_singleton.2 rfl)) (fun _ _ _ q => by cases q)) (by simp [refs, cellsOf]), hr]
          simp only [hn, cond_false, prj_agree h2, hy, hz, freeze_agree h2, taint_agree h2]
        · cases hs
      · cases hs
    · cases hs
  · cases hs
theorem indexAddr_agree {R : Type} {tb : Tab} {t : Nat} {x i : AV} {k : AV → Option R} (h : FrOn (refs (cellsOf x)) A B) : indexAddr tb B t x i k = indexAddr tb A t x i k := by
  unfold indexAddr
  split
  · cases x <;> try rfl
    rename_i r
    simp only []
    rcases h r (by simp [refs, cellsOf]) with q | ⟨p, e', l, q1, q2⟩
    · rw [q]
    · rw [q1, q2]
  · rfl
theorem sliceOp_agree {R : Type} {u : Ty} {x : AV} {lo hi : Option AV} {k : AV → Ups → Option R} (h : FrOn (refs (cellsOf x)) A B) : sliceOp u B x lo hi k = sliceOp u A x lo hi k := by
  cases x with
  | ref r =>
    cases u <;> try rfl
    simp only [sliceOp]
    rcases h r (by simp [refs, cellsOf]) with q | ⟨p, e', l, q1, q2⟩
    · rw [q]
    · rw [q1, q2]
  | _ => cases u <;> rfl
theorem lenOf_agree {R : Type} {u : Ty} {x : AV} {k : AV → Option R} (h : FrOn (refs (cellsOf x)) A B) : lenOf u B x k = lenOf u A x k := by
  cases x with
  | ref r =>
    cases u <;> try rfl
    simp only [lenOf]
    rcases h r (by simp [refs, cellsOf]) with q | ⟨p, e', l, q1, q2⟩
    · rw [q]
    · rw [q1, q2]
  | _ => cases u <;> rfl
theorem refs_cells {c : AV} : ∀ r ∈ refs [c], r ∈ refs (cellsOf c) := by
  intro r hr
  cases c <;> simp_all [refs, cellsOf]
theorem appendOp_agree {e : Ty} {id : Nat} {d s v : AV} {us : Ups} (hs : appendOp e A id d s (fun v us => some (v, us)) = some (v, us)) (h1 : FrOn (refs (cellsOf d)) A B) (h2 : FrOn (refs (cellsOf s)) A B) (hh : ∀ r ∈ hard us, r ∈ refs (cellsOf d) → B r = A r) :
    appendOp e B id d s (fun v us => some (v, us)) = some (v, us) := by
  unfold appendOp at hs ⊢
  have h2' := h2.sub refs_cells
  rw [getSl_agree h2']
  split at hs
  · cases hs
  · split at hs
    · rw [taint_agree h2']; exact hs
    · rename_i r
      split at hs
      · rename_i p t l hr
        split at hs
        · rename_i ld hld
          obtain ⟨hle, hs⟩ := fin_bif' hs
          cases hs
          have hB : B r = A r := hh r (hard_mem (List.mem_cons_self ..) (fun _ _ _ q => by cases q)) (by simp [refs, cellsOf])
          rw [hB, hr]
          simp only [hld, hle, cond_true, taint_agree h2']
        · cases hs
      · cases hs
    · cases hs
theorem args_agree : ∀ {ts : List Ty} {vs : List AV}, (∀ v ∈ vs, FrOn (refs (cellsOf v)) A B) → args B ts vs = args A ts vs
  | [], [], _ => rfl
  | [], _ :: _, _ => rfl
  | _ :: _, [], _ => rfl
  | t :: ts, v :: vs, h => by
    simp only [args]
    rw [prj_agree (h v (List.mem_cons_self ..)), args_agree fun u hu => h u (List.mem_cons_of_mem _ hu)]
theorem elems_agree {e : Ty} {ρ : Operand → AV} : ∀ {ps : List (Nat × Operand)} {l : List e.den} {b : Bool}, (∀ p ∈ ps, FrOn (refs (cellsOf (ρ p.2))) A B) → elems B e ρ ps l b = elems A e ρ ps l b
  | [], _, _, _ => rfl
  | (i, x) :: ps, l, b, h => by
    have h0 : FrOn (refs (cellsOf (ρ x))) A B := h (i, x) (List.mem_cons_self ..)
    simp only [elems]
    rw [prj_agree h0, taint_agree h0]
    split
    · rw [elems_agree fun p hp => h p (List.mem_cons_of_mem _ hp)]
    · rfl
theorem callC_agree {R : Type} {c : Cn} {id : Nat} {as : List AV} {k : AV → Ups → Nat → Option R} (h : ∀ v ∈ as, FrOn (refs (cellsOf v)) A B) : callC c B id as k = callC c A id as k := by
  unfold callC
  rw [args_agree h]

theorem refs_flat {α : Type} {f : α → List AV} : ∀ {l : List α} {x : α}, x ∈ l → ∀ r ∈ refs (f x), r ∈ l.flatMap fun x => refs (f x) := fun hx r hr => List.mem_flatMap.2 ⟨_, hx, hr⟩
theorem refs_append : ∀ {cs ds : List AV}, refs (cs ++ ds) = refs cs ++ refs ds
  | [], _ => rfl
  | c :: cs, ds => by cases c <;> simp [refs, refs_append (cs := cs)]
theorem refs_flatMap {α : Type} {f : α → List AV} : ∀ {l : List α}, refs (l.flatMap f) = l.flatMap fun x => refs (f x)
  | [] => rfl
  | x :: l => by simp [refs_append, refs_flatMap (l := l)]

theorem refs_val {tb : Tab} {tm : List AV} {t : Nat} {x : Operand} : refs (cellsOf (val tb tm t x)) = refs (cellsOf (val tb tm 0 x)) := by
  cases x with
  | tmp i => rfl
  | func f => rfl
  | global g => rfl
  | const v =>
    simp only [val]
    unfold cst
    cases v <;> try rfl
    rename_i a n c
    cases a <;> try rfl
    cases n <;> try rfl
    cases c <;> try rfl
    simp only []
    split <;> (split <;> rfl)

/-- An operation, carried out where more is frozen. -/
theorem oper_agree {tb : Tab} {ct : List (Nat × Cn)} {o : Oper} {tm : List AV} {id nx : Nat} {v : AV} {us : Ups} (hs : oper tb ct o tm A id (fun v us nx => some (v, us, nx)) = some (v, us, nx))
    (h : FrOn (reads tb o tm) A B) (hh : ∀ r ∈ hard us, r ∈ reads tb o tm → B r = A r) : oper tb ct o tm B id (fun v us nx => some (v, us, nx)) = some (v, us, nx) := by
  cases hop : o.op with
  | load t x =>
    simp only [oper, hop, reads] at hs h ⊢
    split at hs
    · rename_i u hu
      try simp only [hu]
      rw [ld_agree h]; exact hs
    · cases hs
  | store t x y =>
    simp only [oper, hop, reads] at hs h hh ⊢
    split at hs
    · rename_i u hu
      try simp only [hu]
      rw [storeTo_bind] at hs
      cases hl : storeTo A u (val tb tm 0 x) (val tb tm t y) some with
      | none => rw [hl] at hs; cases hs
      | some us' =>
        rw [hl] at hs
        cases hs
        rw [storeTo_bind]
        have h1 : FrOn (refs (cellsOf (val tb tm 0 x))) A B := h.sub fun r hr => List.mem_append_left _ hr
        have h2 : FrOn (refs (cellsOf (val tb tm t y))) A B := h.sub fun r hr => List.mem_append_right _ (by rw [← refs_val (t := t)]; exact hr)
        rw [storeTo_agree hl h1 h2 fun r hr hm => hh r hr (List.mem_append_left _ hm)]
        rfl
    · cases hs
  | indexAddr t x i =>
    simp only [oper, hop, reads] at hs h ⊢
    rw [indexAddr_agree (by rw [refs_val]; exact h)]
    exact hs
  | slice t x lo hi mx =>
    cases mx with
    | some _ => simp only [oper, hop] at hs; cases hs
    | none =>
      simp only [oper, hop, reads] at hs h ⊢
      rw [sliceOp_agree (by rw [refs_val]; exact h)]
      exact hs
  | convert s d x =>
    simp only [oper, hop, reads] at hs h ⊢
    split at hs
    · rename_i h1 h2 h3
      try simp only [h1, h2, h3]
      exact hs
    · rename_i h1 h2 h3
      try simp only [h1, h2, h3]
      exact hs
    · rename_i h1 h2 h3
      rw [getSl_agree (A := A) (B := B) (FrOn.sub (by rw [refs_val]; exact h) refs_cells)]
      exact hs
    · cases hs
  | buildSlice t n ps =>
    simp only [oper, hop, reads] at hs h ⊢
    split at hs
    · rename_i e he
      try simp only [he]
      have h1 : ∀ p ∈ ps.toList, FrOn (refs (cellsOf (val tb tm 0 p.2))) A B := fun p hp => h.sub fun r hr => List.mem_flatMap.2 ⟨p, hp, hr⟩
      rw [elems_agree h1, freeze_agree (A := A) (B := B) (by rw [refs_flatMap]; exact h)]
      exact hs
    · cases hs
  | call c =>
    have h1 : ∀ x ∈ c.args.toList, FrOn (refs (cellsOf (val tb tm 0 x))) A B := fun x hx => h.sub fun r hr => by
      simp only [reads, hop]
      exact List.mem_flatMap.2 ⟨x, hx, hr⟩
    simp only [oper, hop] at hs ⊢
    split at hs
    · rename_i hc
      try simp only [hc]
      split at hs
      · rename_i x t ha ht
        try simp only [ha, ht]
        rw [lenOf_agree (by rw [refs_val]; exact h1 x (by rw [ha]; simp))]
        exact hs
      · cases hs
    · rename_i hc
      try simp only [hc]
      split at hs
      · rename_i d s t t' ha ht
        try simp only [ha, ht]
        split at hs
        · rename_i e he
          try simp only [he]
          cases hb : Nat.beq t t' with
          | false => rw [hb] at hs; cases hs
          | true =>
            rw [hb, cond_true] at hs
            rw [cond_true, appendOp_bind]
            rw [appendOp_bind] at hs
            cases hl : appendOp e A id (val tb tm t d) (val tb tm t s) (fun v us => some (v, us)) with
            | none => rw [hl] at hs; cases hs
            | some z =>
              obtain ⟨z1, z2⟩ := z
              rw [hl] at hs
              cases hs
              rw [appendOp_agree hl (by rw [refs_val]; exact h1 d (by rw [ha]; simp)) (by rw [refs_val]; exact h1 s (by rw [ha]; simp)) ?_]
              · rfl
              · intro r hr hm
                refine hh r hr ?_
                simp only [reads, hop]
                exact List.mem_flatMap.2 ⟨d, by rw [ha]; simp, by rw [← refs_val (t := t)]; exact hm⟩
        · cases hs
      · cases hs
    · rename_i hc
      try simp only [hc]
      exact hs
    · rename_i hc
      try simp only [hc]
      exact hs
    · rename_i f hc
      try simp only [hc]
      split at hs
      · rename_i cn hcn
        try simp only [hcn]
        rw [callC_agree (A := A) (B := B) (fun v hv => by
          obtain ⟨x, hx, rfl⟩ := List.mem_map.1 hv
          exact h1 x hx)]
        exact hs
      · cases hs
    · cases hs
  | makeFunc fn first caps =>
    cases fn with
    | func f => simp only [oper, hop] at hs ⊢; exact hs
    | _ => unfold oper at hs; rw [hop] at hs; cases hs
  | _ => unfold oper at hs ⊢; rw [hop] at hs ⊢; exact hs
end
end Go.V

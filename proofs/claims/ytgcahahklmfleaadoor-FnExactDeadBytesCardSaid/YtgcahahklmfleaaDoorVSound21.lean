/- V: an operation looks at no more of the temporaries than it names; updates and their order. -/
import Derived.Test.YtgcahahklmfleaaDoorVSound20
set_option linter.unusedVariables false
set_option linter.unusedSimpArgs false
namespace Go.V
open Go.RowKit

section
variable {tb : Tab} {ct : List (Nat × Cn)} {tm tm' : List AV} {hp : Hp} {id : Nat} {R : Type}

theorem opt_map {f g : Operand → AV} {o : Option Operand} (h : ∀ x ∈ o.toList, f x = g x) : o.map f = o.map g := by
  cases o with
  | none => rfl
  | some x => simp [h x (by simp)]
theorem placeParts_congr {offs : List (Nat × Nat)} {f g : Operand → AV} : ∀ {ps : List (Nat × Operand)} {z : List AV}, (∀ p ∈ ps, f p.2 = g p.2) → placeParts z offs f ps = placeParts z offs g ps
  | [], _, _ => rfl
  | (i, x) :: ps, z, h => by
    have h0 : f x = g x := h (i, x) (List.mem_cons_self ..)
    simp only [placeParts, h0]
    split
    · rw [placeParts_congr fun p hp => h p (List.mem_cons_of_mem _ hp)]
    · rfl
theorem elems_congr {e : Ty} {f g : Operand → AV} : ∀ {ps : List (Nat × Operand)} {l : List e.den} {b : Bool}, (∀ p ∈ ps, f p.2 = g p.2) → elems hp e f ps l b = elems hp e g ps l b
  | [], _, _, _ => rfl
  | (i, x) :: ps, l, b, h => by
    have h0 : f x = g x := h (i, x) (List.mem_cons_self ..)
    simp only [elems, h0]
    split
    · rw [elems_congr fun p hp => h p (List.mem_cons_of_mem _ hp)]
    · rfl
theorem flatMap_congr' {α β : Type} {f g : α → List β} : ∀ {l : List α}, (∀ x ∈ l, f x = g x) → l.flatMap f = l.flatMap g
  | [], _ => rfl
  | x :: l, h => by simp [h x (List.mem_cons_self ..), flatMap_congr' fun y hy => h y (List.mem_cons_of_mem _ hy)]

theorem oper_tm {o : Oper} {k : AV → Ups → Nat → Option R} (h : ∀ x ∈ o.op.operands.toList, ∀ T, val tb tm' T x = val tb tm T x) :
    oper tb ct o tm' hp id k = oper tb ct o tm hp id k ∧ reads tb ct o tm' hp = reads tb ct o tm hp := by
  cases hop : o.op with
  | buildSlice t n ps =>
    have h0 : ∀ p ∈ ps.toList, val tb tm' 0 p.2 = val tb tm 0 p.2 := fun p hp => h p.2 (by rw [hop]; simp only [Op.operands, List.toList_toArray]; exact List.mem_map_of_mem hp) 0
    simp only [oper, reads, hop]
    have e1 : ps.toList.flatMap (fun p => cellsOf (val tb tm' 0 p.2)) = ps.toList.flatMap (fun p => cellsOf (val tb tm 0 p.2)) := flatMap_congr' fun p hp => by rw [h0 p hp]
    rw [e1]
    refine ⟨?_, flatMap_congr' fun p hp => by rw [h0 p hp]⟩
    split
    · rw [elems_congr h0]
    · rfl
  | build t ps =>
    have h0 : ∀ p ∈ ps.toList, val tb tm' 0 p.2 = val tb tm 0 p.2 := fun p hp => h p.2 (by rw [hop]; simp only [Op.operands, List.toList_toArray]; exact List.mem_map_of_mem hp) 0
    simp only [oper, reads, hop]
    exact ⟨by
      split
      · rw [placeParts_congr h0]
      · rfl, trivial⟩
  | makeFunc fn first caps =>
    have h0 : caps.toList.map (val tb tm' 0) = caps.toList.map (val tb tm 0) := List.map_congr_left fun x hx => h x (by rw [hop]; simp only [Op.operands, Array.toList_append]; exact List.mem_append_right _ hx) 0
    cases fn <;> simp only [oper, reads, hop]
    · exact ⟨by rw [h0], trivial⟩
    all_goals exact ⟨trivial, trivial⟩
  | call c =>
    have hin : ∀ x ∈ c.args.toList, ∀ T, val tb tm' T x = val tb tm T x := fun x hx => h x (by rw [hop]; simp only [Op.operands, Call.operands, Array.toList_append]; exact List.mem_append_right _ hx)
    have h0 : c.args.toList.map (val tb tm' 0) = c.args.toList.map (val tb tm 0) := List.map_congr_left fun x hx => hin x hx 0
    have hcal : ∀ x, c.callee = .value x → calleeOf tb ct tm' x (c.args.toList.map (val tb tm' 0)) = calleeOf tb ct tm x (c.args.toList.map (val tb tm 0)) := fun x hx => by
      rw [h0]
      unfold calleeOf
      rw [h x (by rw [hop]; simp only [Op.operands, Call.operands, Array.toList_append, hx]; exact List.mem_append_left _ (by simp)) 0]
    simp only [oper, reads, hop]
    refine ⟨?_, ?_⟩
    · split
      · split
        · rename_i x t ha ht
          rw [hin x (by rw [ha]; simp)]
        · rfl
      · split
        · rename_i d s t t' ha ht
          split
          · rw [hin d (by rw [ha]; simp), hin s (by rw [ha]; simp)]
          · rfl
        · rfl
      · rw [h0]
      · rw [h0]
      · rename_i x hc
        rw [hcal x hc]
      · rfl
    · rw [flatMap_congr' (f := fun x => refs (cellsOf (val tb tm' 0 x))) (g := fun x => refs (cellsOf (val tb tm 0 x))) fun x hx => by rw [hin x hx]]
      congr 1
      split
      · rename_i x hc
        rw [hcal x hc]
      · rfl
  | slice t x lo hi mx =>
    have hx := h x (by rw [hop]; simp [Op.operands])
    have hl : lo.map (val tb tm' 0) = lo.map (val tb tm 0) := opt_map fun y hy => h y (by rw [hop]; simp [Op.operands] at hy ⊢; simp [hy]) 0
    have hh : hi.map (val tb tm' 0) = hi.map (val tb tm 0) := opt_map fun y hy => h y (by rw [hop]; simp [Op.operands] at hy ⊢; simp [hy]) 0
    cases mx <;> simp only [oper, reads, hop, hx, hl, hh] <;> exact ⟨trivial, trivial⟩
  | pick c x y =>
    have h1 := h c (by rw [hop]; simp [Op.operands])
    have h2 := h x (by rw [hop]; simp [Op.operands])
    have h3 := h y (by rw [hop]; simp [Op.operands])
    simp only [oper, reads, hop, h1, h2, h3]
    exact ⟨trivial, trivial⟩
  | store t x y =>
    have h1 := h x (by rw [hop]; simp [Op.operands])
    have h2 := h y (by rw [hop]; simp [Op.operands])
    simp only [oper, reads, hop, h1, h2]
    exact ⟨trivial, trivial⟩
  | binOp op t x y u =>
    have h1 := h x (by rw [hop]; simp [Op.operands])
    have h2 := h y (by rw [hop]; simp [Op.operands])
    simp only [oper, reads, hop, h1, h2]
    exact ⟨trivial, trivial⟩
  | makeSlice t x y =>
    have h1 := h x (by rw [hop]; simp [Op.operands])
    have h2 := h y (by rw [hop]; simp [Op.operands])
    simp only [oper, reads, hop, h1, h2]
    exact ⟨trivial, trivial⟩
  | indexAddr t x y =>
    have h1 := h x (by rw [hop]; simp [Op.operands])
    have h2 := h y (by rw [hop]; simp [Op.operands])
    simp only [oper, reads, hop, h1, h2]
    exact ⟨trivial, trivial⟩
  | index t x y =>
    have h1 := h x (by rw [hop]; simp [Op.operands])
    have h2 := h y (by rw [hop]; simp [Op.operands])
    simp only [oper, reads, hop, h1, h2]
    exact ⟨trivial, trivial⟩
  | alloc t => simp only [oper, reads, hop]; exact ⟨trivial, trivial⟩
  | move x => have h1 := h x (by rw [hop]; simp [Op.operands]); simp only [oper, reads, hop, h1]; exact ⟨trivial, trivial⟩
  | assign x => have h1 := h x (by rw [hop]; simp [Op.operands]); simp only [oper, reads, hop, h1]; exact ⟨trivial, trivial⟩
  | box t x => have h1 := h x (by rw [hop]; simp [Op.operands]); simp only [oper, reads, hop, h1]; exact ⟨trivial, trivial⟩
  | load t x => have h1 := h x (by rw [hop]; simp [Op.operands]); simp only [oper, reads, hop, h1]; exact ⟨trivial, trivial⟩
  | nilCheck x => have h1 := h x (by rw [hop]; simp [Op.operands]); simp only [oper, reads, hop, h1]; exact ⟨trivial, trivial⟩
  | unOp op t x => have h1 := h x (by rw [hop]; simp [Op.operands]); simp only [oper, reads, hop, h1]; exact ⟨trivial, trivial⟩
  | convert s d x => have h1 := h x (by rw [hop]; simp [Op.operands]); simp only [oper, reads, hop, h1]; exact ⟨trivial, trivial⟩
  | fieldAddr s x f => have h1 := h x (by rw [hop]; simp [Op.operands]); simp only [oper, reads, hop, h1]; exact ⟨trivial, trivial⟩
  | field s x f => have h1 := h x (by rw [hop]; simp [Op.operands]); simp only [oper, reads, hop, h1]; exact ⟨trivial, trivial⟩
  | extract x i => have h1 := h x (by rw [hop]; simp [Op.operands]); simp only [oper, reads, hop, h1]; exact ⟨trivial, trivial⟩
  | _ => unfold oper reads; rw [hop]; exact ⟨rfl, rfl⟩
end

/-- What updates do to one row. -/
def eff : Ups → Nat → Row → Row
  | [], _, x => x
  | u :: us, r, x => eff us r (bif Nat.beq r u.1 then turn u.2 x else x)
theorem applyF_eff : ∀ {us : Ups} {hp : Hp} {r : Nat}, applyF hp us r = eff us r (hp r)
  | [], _, _ => rfl
  | u :: us, hp, r => by
    simp only [applyF, eff]
    exact applyF_eff (us := us)

theorem froz_froz (x : Row) : froz (froz x) = froz x := by cases x <;> rfl
theorem turn_cases (x : Row) : (∀ y, turn x y = froz y) ∨ (∃ z, ∀ y, turn x y = z) := by
  cases x
  · exact Or.inr ⟨_, fun _ => rfl⟩
  · exact Or.inr ⟨_, fun _ => rfl⟩
  · exact Or.inr ⟨_, fun _ => rfl⟩
  · exact Or.inl fun _ => rfl

theorem eff_rel : ∀ (us : Ups) (r : Nat) {x y : Row}, (y = x ∨ y = froz x) → (eff us r y = eff us r x ∨ eff us r y = froz (eff us r x))
  | [], _, _, _, h => h
  | u :: us, r, x, y, h => by
    simp only [eff]
    cases Nat.beq r u.1 with
    | false => exact eff_rel us r h
    | true =>
      simp only [cond_true]
      refine eff_rel us r ?_
      rcases turn_cases u.2 with q | ⟨z, q⟩
      · rw [q, q]
        rcases h with rfl | rfl
        · exact Or.inl rfl
        · exact Or.inl (froz_froz _)
      · rw [q, q]; exact Or.inl rfl

theorem eff_not : ∀ {us : Ups} {r : Nat}, r ∉ us.map (·.1) → ∀ x, eff us r x = x
  | [], _, _, _ => rfl
  | u :: us, r, h, x => by
    simp only [List.map_cons, List.mem_cons, not_or] at h
    simp only [eff]
    have : Nat.beq r u.1 = false := by
      cases hb : Nat.beq r u.1 with
      | false => rfl
      | true => exact absurd (Nat.eq_of_beq_eq_true hb) h.1
    rw [this]
    exact eff_not h.2 x
theorem hard_cons_not {u : Nat × Row} {us : Ups} {r : Nat} (h : r ∉ hard (u :: us)) : r ∉ hard us ∧ (r = u.1 → ∃ p e l, u.2 = .fro p e l) := by
  obtain ⟨s, x⟩ := u
  cases x <;> simp_all [hard]
theorem eff_soft : ∀ {us : Ups} {r : Nat}, r ∉ hard us → (∀ x, eff us r x = x) ∨ (∀ x, eff us r x = froz x)
  | [], _, _ => Or.inl fun _ => rfl
  | u :: us, r, h => by
    obtain ⟨h1, h2⟩ := hard_cons_not h
    simp only [eff]
    cases hb : Nat.beq r u.1 with
    | false => exact eff_soft h1
    | true =>
      simp only [cond_true]
      obtain ⟨p, e, l, q⟩ := h2 (Nat.eq_of_beq_eq_true hb)
      rw [q]
      right
      intro x
      rcases eff_soft h1 with g | g
      · rw [g]; rfl
      · rw [g]; exact froz_froz x

theorem hard_keys : ∀ {us : Ups} {r : Nat}, r ∈ hard us → r ∈ us.map (·.1)
  | [], _, h => by cases h
  | (s, x) :: us, r, h => by
    have ih := hard_keys (us := us) (r := r)
    cases x <;> simp_all [hard] <;> grind

/-- Updates that are apart come to the same in either order. -/
theorem eff_comm {us vs : Ups} {r : Nat} (h1 : ∀ r ∈ hard us, r ∉ vs.map (·.1)) (h2 : ∀ r ∈ hard vs, r ∉ us.map (·.1)) (x : Row) : eff vs r (eff us r x) = eff us r (eff vs r x) := by
  by_cases a : r ∈ hard us
  · rw [eff_not (h1 r a), eff_not (h1 r a)]
  · by_cases b : r ∈ hard vs
    · rw [eff_not (h2 r b), eff_not (h2 r b)]
    · rcases eff_soft a with p | p <;> rcases eff_soft b with q | q <;> simp [p, q]

/-- Where what is frozen is frozen as it is, both ways of carrying updates out are one. -/
theorem applyF_noFro : ∀ {us : Ups} {hp : Hp}, noFro us → applyF hp us = apply hp us
  | [], _, _ => rfl
  | u :: us, hp, h => by
    simp only [applyF, apply]
    have e : (fun n => bif Nat.beq n u.1 then turn u.2 (hp n) else hp n) = upd hp u.1 u.2 := by
      funext n
      simp only [upd]
      have h0 := h u.1 u.2 (List.mem_cons_self ..)
      obtain ⟨s, x⟩ := u
      cases x <;> first | rfl | exact absurd rfl (h0 _ _ _)
    rw [e]
    exact applyF_noFro fun r x hx => h r x (List.mem_cons_of_mem _ hx)
theorem applyF_frz : ∀ {us : Ups} {hp : Hp}, Frz hp us → applyF hp us = apply hp us
  | [], _, _ => rfl
  | (r, x) :: us, hp, h => by
    obtain ⟨p, e, l, rfl, hr⟩ := h r x (List.mem_cons_self ..)
    simp only [applyF, apply]
    have e' : (fun n => bif Nat.beq n r then turn (.fro p e l) (hp n) else hp n) = upd hp r (.fro p e l) := by
      funext n
      simp only [upd]
      cases hb : Nat.beq n r with
      | false => rfl
      | true =>
        simp only [cond_true]
        rw [Nat.eq_of_beq_eq_true hb]
        rcases hr with q | q <;> rw [q] <;> rfl
    rw [e']
    exact applyF_frz h.tail
theorem apply_append : ∀ (us0 : Ups) {hp : Hp} {us1 : Ups}, apply hp (us0 ++ us1) = apply (apply hp us0) us1
  | [], _, _ => rfl
  | u :: us, hp, us1 => apply_append us
theorem applyF_append : ∀ (us0 : Ups) {hp : Hp} {us1 : Ups}, applyF hp (us0 ++ us1) = applyF (applyF hp us0) us1
  | [], _, _ => rfl
  | u :: us, hp, us1 => applyF_append us
theorem Shape.applyF {hp : Hp} {id nx : Nat} {us : Ups} (h : Shape hp id us nx) : applyF hp us = apply hp us := by
  obtain ⟨_, us0, us1, rfl, h0, h1⟩ := h
  rw [applyF_append, apply_append, applyF_frz h0, applyF_noFro h1]
end Go.V

/- V: cuts, lengths, bytes, structs out of parts. -/
import Derived.Test.YtgcahahklmfleaaDoorVSound7
set_option linter.unusedVariables false
set_option linter.unusedSimpArgs false
namespace Go.V
open Go.RowKit

theorem RdL.take {α : Type} {R : α → List Value → Prop} {n : Nat} (hR : ∀ x d, R x d → d.length = n) : ∀ {l : List α} {xs : List Value} (k : Nat), RdL R l xs → RdL R (l.take k) (xs.take (k * n))
  | _, _, 0, _ => by simp [RdL]
  | [], _, k + 1, h => by cases h; simp [RdL]
  | x :: l, _, k + 1, ⟨d, r, e, h1, h2⟩ => by
    subst e
    have hl := hR x d h1
    refine ⟨d, r.take (k * n), ?_, h1, RdL.take hR k h2⟩
    rw [show (k + 1) * n = d.length + k * n by rw [Nat.succ_mul, hl]; omega, List.take_length_add_append]
theorem RdL.drop {α : Type} {R : α → List Value → Prop} {n : Nat} (hR : ∀ x d, R x d → d.length = n) : ∀ {l : List α} {xs : List Value} (k : Nat), RdL R l xs → RdL R (l.drop k) (xs.drop (k * n))
  | _, _, 0, h => by simpa using h
  | [], _, k + 1, h => by cases h; simp [RdL]
  | x :: l, _, k + 1, ⟨d, r, e, h1, h2⟩ => by
    subst e
    have hl := hR x d h1
    rw [show (k + 1) * n = d.length + k * n by rw [Nat.succ_mul, hl]; omega, List.drop_length_add_append]
    exact RdL.drop hR k h2

section
variable {P : Program} {tb : Tab} {w0 : Bs} {w : World} {N : Nat → Prop} {φ : Nat → Blk} {tm : List AV} {hp : Hp} {a : Act}

theorem run_bound {k : IntKind} {n : Int} {y : Nat} {code : BoundsCode} (h0 : 0 ≤ n) (h1 : n ≤ (y : Int)) : (Instr.sliceBound (.int k n) y code).run P w = .ok n.toNat w := by
  simp [Instr.sliceBound, asIntOf, h0, h1]

def optRep (w : World) (X : Bool → Nat → Prop) (N : Nat → Prop) (φ : Nat → Blk) : Option AV → Option Value → Prop
  | none, none => True
  | some a, some v => RepV w X N φ a v
  | _, _ => False

theorem optRep_map {X : Bool → Nat → Prop} {f : Operand → AV} {g : Operand → Value} (h : ∀ x, RepV w X N φ (f x) (g x)) (o : Option Operand) : optRep w X N φ (o.map f) (o.map g) := by
  cases o with
  | none => trivial
  | some x => exact h x

/-- A cut of a list, and the bounds that Go finds. -/
theorem cutL_ok {α : Type} {X : Bool → Nat → Prop} {l l' : List α} {lo hi : Option AV} {vlo vhi : Option Value} {c : Nat} {isSl : Bool} (hc : cutL l lo hi some = some l') (hlo : optRep w X N φ lo vlo) (hhi : optRep w X N φ hi vhi) (hlen : l.length ≤ c) :
    ∃ L H, L ≤ H ∧ H ≤ l.length ∧ l' = (l.take H).drop L ∧ (Instr.sliceBounds isSl l.length c vlo vhi none).run P w = .ok (L, H, c) w := by
  unfold cutL at hc
  split at hc
  · cases hc
    cases vlo <;> cases vhi <;> simp [optRep] at hlo hhi
    exact ⟨0, l.length, by omega, by omega, by simp, by simp [Instr.sliceBounds]⟩
  · rename_i k h
    cases vlo <;> cases vhi <;> simp [optRep] at hlo hhi
    obtain ⟨h1, hw1⟩ := fin_bif' hc
    obtain ⟨h2, hw2⟩ := fin_bif' hw1
    have h1 := of_decide_eq_true h1
    have h2 := of_decide_eq_true h2
    cases hw2
    cases hhi
    refine ⟨0, h.toNat, by omega, by omega, by simp, ?_⟩
    simp only [Instr.sliceBounds, Sem.run_bind, Sem.run_pure, Result.andThen_ok, run_bound h1 (show h ≤ (c : Int) by omega)]
  · rename_i k n
    cases vlo <;> cases vhi <;> simp [optRep] at hlo hhi
    obtain ⟨h1, hw1⟩ := fin_bif' hc
    obtain ⟨h2, hw2⟩ := fin_bif' hw1
    have h1 := of_decide_eq_true h1
    have h2 := of_decide_eq_true h2
    cases hw2
    cases hlo
    refine ⟨n.toNat, l.length, by omega, by omega, by simp, ?_⟩
    simp only [Instr.sliceBounds, Sem.run_bind, Sem.run_pure, Result.andThen_ok, run_bound h1 h2]
  · rename_i k n k' h
    cases vlo <;> cases vhi <;> simp [optRep] at hlo hhi
    obtain ⟨h1, hw1⟩ := fin_bif' hc
    obtain ⟨h2, hw2⟩ := fin_bif' hw1
    obtain ⟨h3, hw3⟩ := fin_bif' hw2
    have h1 := of_decide_eq_true h1
    have h2 := of_decide_eq_true h2
    have h3 := of_decide_eq_true h3
    cases hw3
    cases hlo
    cases hhi
    refine ⟨n.toNat, h.toNat, by omega, by omega, rfl, ?_⟩
    simp only [Instr.sliceBounds, Sem.run_bind, Sem.run_pure, Result.andThen_ok, run_bound (show (0 : Int) ≤ h by omega) (show h ≤ (c : Int) by omega),
      run_bound h1 (show n ≤ (h.toNat : Int) by omega)]
  · cases hc

theorem cutS_ok {X : Bool → Nat → Prop} {s s' : ByteArray} {lo hi : Option AV} {vlo vhi : Option Value} (hc : cutS s lo hi some = some s') (hlo : optRep w X N φ lo vlo) (hhi : optRep w X N φ hi vhi) :
    ∃ L H, s' = s.extract L H ∧ (Instr.sliceBounds false s.size s.size vlo vhi none).run P w = .ok (L, H, s.size) w := by
  unfold cutS at hc
  split at hc
  · cases hc
    cases vlo <;> cases vhi <;> simp [optRep] at hlo hhi
    exact ⟨0, s.size, by simp, by simp [Instr.sliceBounds]⟩
  · rename_i k h
    cases vlo <;> cases vhi <;> simp [optRep] at hlo hhi
    obtain ⟨h1, hw1⟩ := fin_bif' hc
    obtain ⟨h2, hw2⟩ := fin_bif' hw1
    have h1 := of_decide_eq_true h1
    have h2 := of_decide_eq_true h2
    cases hw2
    cases hhi
    refine ⟨0, h.toNat, rfl, ?_⟩
    simp only [Instr.sliceBounds, Sem.run_bind, Sem.run_pure, Result.andThen_ok, run_bound h1 h2]
  · rename_i k n
    cases vlo <;> cases vhi <;> simp [optRep] at hlo hhi
    obtain ⟨h1, hw1⟩ := fin_bif' hc
    obtain ⟨h2, hw2⟩ := fin_bif' hw1
    have h1 := of_decide_eq_true h1
    have h2 := of_decide_eq_true h2
    cases hw2
    cases hlo
    refine ⟨n.toNat, s.size, rfl, ?_⟩
    simp only [Instr.sliceBounds, Sem.run_bind, Sem.run_pure, Result.andThen_ok, run_bound h1 h2]
  · rename_i k n k' h
    cases vlo <;> cases vhi <;> simp [optRep] at hlo hhi
    obtain ⟨h1, hw1⟩ := fin_bif' hc
    obtain ⟨h2, hw2⟩ := fin_bif' hw1
    obtain ⟨h3, hw3⟩ := fin_bif' hw2
    have h1 := of_decide_eq_true h1
    have h2 := of_decide_eq_true h2
    have h3 := of_decide_eq_true h3
    cases hw3
    cases hlo
    cases hhi
    refine ⟨n.toNat, h.toNat, rfl, ?_⟩
    simp only [Instr.sliceBounds, Sem.run_bind, Sem.run_pure, Result.andThen_ok, run_bound (show (0 : Int) ≤ h by omega) h3, run_bound h1 (show n ≤ (h.toNat : Int) by omega)]
  · cases hc

/-- A slice that is read, cut. -/
theorem cut_read {X : Nat → Prop} {Y : Bool → Nat → Prop} {t te : TypeId} {ti : TypeInfo} {td : TypeDesc} {tz : Value} {e : Ty} {l l' : List e.den} {v : Value} {lo hi : Option AV} {vlo vhi : Option Value}
    (hu : P.underlying t = some (.slice te)) (htf : TyFact P tb te e ti td tz) (h : Rd w X (.slice e) l [v]) (hc : cutL l lo hi some = some l') (hlo : optRep w Y N φ lo vlo) (hhi : optRep w Y N φ hi vhi) :
    ∃ u, (Instr.sliceAt t v vlo vhi none).run P w = .ok u w ∧ Rd w X (.slice e) l' [u] := by
  obtain ⟨ad, n, c, xs, hv, hn, hle, hl, hr⟩ := h
  cases hv
  subst hn
  obtain ⟨L, H, hLH, hH, rfl, hb⟩ := cutL_ok (P := P) (isSl := true) hc hlo hhi hle
  refine ⟨.slice (if c = L then ad else ad.map (·.add (L * e.size))) (H - L) (c - L), ?_, ?_⟩
  · unfold Instr.sliceAt
    rw [Sem.run_bind, run_underlying hu w, Result.andThen_ok]
    show (Instr.slice t _ vlo vhi none).run P w = _
    unfold Instr.slice
    rw [Sem.run_bind, run_underlying hu w, Result.andThen_ok]
    simp only [Sem.run_bind, hb, Result.andThen_ok, htf.run_sizeOf w]
    rfl
  · refine ⟨_, _, _, (xs.take (H * e.size)).drop (L * e.size), rfl, by rw [List.length_drop, List.length_take]; omega, by omega,
      (hl.take (fun x d q => q.len) H).drop (fun x d q => q.len) L, fun hne => ?_⟩
    have hlt : L < H := by
      rcases Nat.lt_or_ge L H with q | q
      · exact q
      · exact absurd (List.drop_eq_nil_of_le (by rw [List.length_take]; omega)) hne
    obtain ⟨b, o, rfl, hX, hcell⟩ := hr (by intro q; subst q; simp at hne)
    rw [if_neg (by omega)]
    refine ⟨b, o + L * e.size, by simp [addr_add], hX, fun j u hj => ?_⟩
    rw [List.getElem?_drop, List.getElem?_take] at hj
    split at hj
    · rw [Nat.add_assoc]; exact hcell _ u hj
    · cases hj

theorem run_cut_str {t : TypeId} (hu : P.underlying t = some .string) {X : Bool → Nat → Prop} {s s' : ByteArray} {lo hi : Option AV} {vlo vhi : Option Value} (hc : cutS s lo hi some = some s') (hlo : optRep w X N φ lo vlo) (hhi : optRep w X N φ hi vhi) :
    (Instr.sliceAt t (.string s) vlo vhi none).run P w = .ok (.string s') w := by
  obtain ⟨L, H, rfl, hb⟩ := cutS_ok (P := P) hc hlo hhi
  unfold Instr.sliceAt
  rw [Sem.run_bind, run_underlying hu w, Result.andThen_ok]
  show (Instr.slice t _ vlo vhi none).run P w = _
  unfold Instr.slice
  rw [Sem.run_bind, run_underlying hu w, Result.andThen_ok]
  simp [hb]

theorem run_cut_nil {t te : TypeId} {ti : TypeInfo} (hu : P.underlying t = some (.slice te)) (hti : P.info? te = some ti) {X : Bool → Nat → Prop} {l' : List Unit} {lo hi : Option AV} {vlo vhi : Option Value} (hc : cutL ([] : List Unit) lo hi some = some l') (hlo : optRep w X N φ lo vlo) (hhi : optRep w X N φ hi vhi) :
    (Instr.sliceAt t (.slice none 0 0) vlo vhi none).run P w = .ok (.slice none 0 0) w := by
  obtain ⟨L, H, hLH, hH, _, hb⟩ := cutL_ok (P := P) (isSl := true) (c := 0) hc hlo hhi (by simp)
  have hH0 : H = 0 := by simpa using hH
  have hL0 : L = 0 := by omega
  subst hH0
  subst hL0
  unfold Instr.sliceAt
  rw [Sem.run_bind, run_underlying hu w, Result.andThen_ok]
  show (Instr.slice t _ vlo vhi none).run P w = _
  unfold Instr.slice
  rw [Sem.run_bind, run_underlying hu w, Result.andThen_ok]
  simp only [List.length_nil] at hb
  simp [hb, sizeOf, typeInfo, hti]

theorem run_len_str {t ty : TypeId} (hu : P.underlying t = some .string) (s : ByteArray) : (Builtin.len_ #[t] ty #[.string s]).run P w = .ok (.int .i64 (s.size : Int)) w := by
  simp [Builtin.len_, run_underlying hu, goInt]
theorem run_len_slice {t te ty : TypeId} (hu : P.underlying t = some (.slice te)) (ad : Option Addr) (n c : Nat) : (Builtin.len_ #[t] ty #[.slice ad n c]).run P w = .ok (.int .i64 (n : Int)) w := by
  simp [Builtin.len_, run_underlying hu, goInt]
end
end Go.V

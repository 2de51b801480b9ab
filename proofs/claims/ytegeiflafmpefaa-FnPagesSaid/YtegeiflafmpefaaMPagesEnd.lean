/- M: FnPages answers true. -/
import Derived.Test.YtegeiflafmpefaaMPagesLaw
set_option linter.unusedVariables false
set_option linter.unusedSimpArgs false
namespace Go.Proofs.Ytegeiflafmpefaa.G
open Go.V
theorem pair_at {r : List ByteArray} (h : KeysOk r) {i : Int} (h0 : 0 < i) (h1 : i < (r.length : Int)) : sls (r.getD (i - 1).toNat (Ty.dflt .str)) (r.getD i.toNat (Ty.dflt .str)) = true := by
  unfold KeysOk at h
  rw [List.pairwise_iff_getElem] at h
  have := h (i - 1).toNat i.toNat (by omega) (by omega) (by omega)
  have gE : ∀ (j : Nat) (hj : j < r.length), r.getD j (Ty.dflt .str) = r[j] := fun j hj => by simp [List.getD, hj]
  rw [gE _ (by omega), gE _ (by omega)]
  exact this
theorem pgTail {k : Nat} (hk : 2 ^ 50 ≤ k) {l : EntryL} (hl : l.length ≤ 100) (a b : ByteArray) :
    (Option.bind (impl_RangeOf.f k l (⟨#[]⟩ : ByteArray) (⟨#[]⟩ : ByteArray)) fun r11 => (Option.bind (spec_DirKeys.f k l) fun r12 => (Option.bind (laws_sameTexts.f k r11.1 r12.1) fun r13 =>
      (bif r13.1 then (Option.bind (impl_RangeOf.f k l (⟨#[]⟩ : ByteArray) a) fun r14 => (Option.bind (impl_RangeOf.f k l a (⟨#[]⟩ : ByteArray)) fun r15 =>
        (some ((decide ((w64 (((rangeK a b (keysE l)).length : Int) + (List.length r14.1 : Int))) ≤ (w64 ((List.length l : Int) + (List.length r15.1 : Int))))), ())))) else (some (false, ())))))) = (some (true, ()) : Option (Bool × Unit)) := by
  have hle : (keysE l).length = l.length := List.length_map ..
  have hr := range_lens a b (keysE l)
  have h1 : (rangeK a b (keysE l)).length ≤ (keysE l).length := List.length_filter_le ..
  have h2 : (rangeK ⟨#[]⟩ a (keysE l)).length ≤ (keysE l).length := List.length_filter_le ..
  have h3 : (rangeK a ⟨#[]⟩ (keysE l)).length ≤ (keysE l).length := List.length_filter_le ..
  rw [pgRange_eq hk (by omega), Option.bind_some, pgKeys_eq hk (by omega), Option.bind_some, range_all]
  simp only []
  rw [same_self hk (by omega), Option.bind_some]
  simp only [cond_true]
  rw [pgRange_eq hk (by omega), Option.bind_some, pgRange_eq hk (by omega), Option.bind_some]
  simp only []
  rw [w64_eq (by omega) (by omega), w64_eq (by omega) (by omega), decT (by omega)]
theorem pages_loop {k : Nat} (hk : 2 ^ 50 ≤ k) {l : EntryL} (hl : l.length ≤ 100) (hd : dirP l = true) (a b : ByteArray) {n : Nat} (h0 : 1 ≤ n) (h1 : n ≤ 4) :
    laws_FnPages.l0 k k a b (n : Int) (((gtK a (keysE l)).take n).getLastD ⟨#[]⟩) 0 l ((gtK a (keysE l)).take n) (rangeK a b (keysE l)) = some (true, ()) := by
  obtain ⟨hK, hpos⟩ := dir_keys hd
  have hle : (keysE l).length = l.length := List.length_map ..
  have hrl : (rangeK a b (keysE l)).length ≤ (keysE l).length := List.length_filter_le ..
  have hR := range_ok (from_ := a) (to_ := b) hK
  refine forL0 (L := fun m i (_ : Unit) => laws_FnPages.l0 k m a b (n : Int) (((gtK a (keysE l)).take n).getLastD ⟨#[]⟩) i l ((gtK a (keysE l)).take n) (rangeK a b (keysE l))) (R := fun r _ => some (true, ())) (Ty.dflt .str) (rangeK a b (keysE l)) (fun _ _ => True) (fun m _ _ => ?_) (fun m i _ x rest g0 g1 gx gr _ ih => ?_) (n := k) (s := ()) (by omega) trivial
  · have hin : ∀ y ∈ (gtK a (keysE l)).take n, y ∈ keysE l ∧ sls a y = true := fun y hy => by
      have := List.mem_of_mem_take hy
      unfold gtK at this
      exact List.mem_filter.1 this
    have hpl : ((gtK a (keysE l)).take n).length ≤ n := by rw [List.length_take]; omega
    generalize (gtK a (keysE l)).take n = p at hin hpl
    simp only [laws_FnPages.l0, laws_FnPages.b0]
    rw [decF (show ¬ ((rangeK a b (keysE l)).length : Int) < ((rangeK a b (keysE l)).length : Int) by omega), cond_false, pgPagesAll hk (by omega) h0 hK hpos, Option.bind_some, pgKeys_eq hk (by omega), Option.bind_some]
    simp only []
    rw [same_self hk (by omega), Option.bind_some]
    simp only [cond_true]
    rw [decT (show (p.length : Int) ≤ (n : Int) by omega), cond_true]
    cases p with
    | nil =>
      rw [show (([] : List ByteArray).getLastD ⟨#[]⟩) = ⟨#[]⟩ from rfl, seq_refl, show ((([] : List ByteArray).length : Int) == 0) = true from rfl]
      simp only [beq_self_eq_true, cond_true]
      have := pgTail hk hl a b
      rw [pgKeys_eq hk (by omega)] at this
      exact this
    | cons y r =>
      have hgl : (y :: r).getLastD ⟨#[]⟩ = (y :: r).getLast (by simp) := by rw [List.getLastD_eq_getLast?, List.getLast?_eq_some_getLast (by simp)]; rfl
      have hmem := hin ((y :: r).getLast (by simp)) (List.getLast_mem _)
      have hz := hpos _ hmem.1
      have hne : seq ((y :: r).getLast (by simp)) ⟨#[]⟩ = false := seqF fun e => by
        rw [e] at hz
        exact absurd hz (Nat.lt_irrefl 0)
      have hlz : (((y :: r).length : Int) == 0) = false := beq_eq_false_iff_ne.2 (by rw [List.length_cons]; omega)
      have hlen : (y :: r).length = r.length + 1 := List.length_cons
      rw [hgl, hne, hlz]
      simp only [beq_self_eq_true, cond_true, cond_false]
      rw [w64_eq (n := ((y :: r).length : Int) - 1) (by omega) (by omega), inb_eq (by omega) (by omega)]
      have eg : (y :: r).getD (((y :: r).length : Int) - 1).toNat (Ty.dflt .str) = (y :: r).getLast (by simp) := by
        rw [List.getLast_eq_getElem]
        have : (((y :: r).length : Int) - 1).toNat = (y :: r).length - 1 := by omega
        rw [this]
        simp [List.getD]
      have e0 : (y :: r).getD 0 (Ty.dflt .str) = y := rfl
      rw [eg, seq_refl, cond_true, inb_eq (by omega) (by omega), e0, sls_total, Bool.not_not, (hin y (List.mem_cons_self ..)).2, cond_true]
      have := pgTail hk hl a b
      rw [pgKeys_eq hk (by omega)] at this
      exact this
  · have ih := ih () trivial
    have hxm : x ∈ rangeK a b (keysE l) := by rw [← gx]; exact getD_mem (by omega)
    obtain ⟨m1, m2, m3⟩ := range_mem hxm
    obtain ⟨e, he⟩ := pgGet_ok hk (by omega) m1
    have hi : 0 < i → (sls x ((rangeK a b (keysE l)).getD (i - 1).toNat (Ty.dflt .str)) || seq x ((rangeK a b (keysE l)).getD (i - 1).toNat (Ty.dflt .str))) = false := fun q => by
      have := pair_at hR q g1
      rw [gx] at this
      rw [sls_total, this]
      rfl
    simp only [laws_FnPages.l0, laws_FnPages.b0]
    rw [decT g1, cond_true, inb_eq g0 g1, gx, he, Option.bind_some]
    simp only [Bool.not_true, cond_false]
    rw [inb_eq g0 g1, m2, cond_false, inb_eq g0 g1, w64_eq (n := i + 1) (by omega) (by omega), w64_eq (n := i - 1) (by omega) (by omega)]
    have fin : (bif (decide (i > 0)) then (inb i ((rangeK a b (keysE l)).length : Int) (inb (i - 1) ((rangeK a b (keysE l)).length : Int) (bif ((sls x ((rangeK a b (keysE l)).getD (i - 1).toNat (Ty.dflt .str))) || (seq x ((rangeK a b (keysE l)).getD (i - 1).toNat (Ty.dflt .str)))) then (some (false, ())) else
        laws_FnPages.l0 k m a b (n : Int) (((gtK a (keysE l)).take n).getLastD ⟨#[]⟩) (i + 1) l ((gtK a (keysE l)).take n) (rangeK a b (keysE l))))) else
        laws_FnPages.l0 k m a b (n : Int) (((gtK a (keysE l)).take n).getLastD ⟨#[]⟩) (i + 1) l ((gtK a (keysE l)).take n) (rangeK a b (keysE l))) = (some (true, ()) : Option (Bool × Unit)) := by
      by_cases q : i > 0
      · rw [decT q, cond_true, inb_eq g0 g1, inb_eq (by omega) (by omega), hi q, cond_false]
        exact ih
      · rw [decF q, cond_false]
        exact ih
    cases cb : seq b ⟨#[]⟩ with
    | true => exact fin
    | false =>
      have m4 : sls x b = true := by
        rcases m3 with q | q
        · rw [cb] at q; cases q
        · exact q
      simp only [Bool.not_false, cond_true]
      rw [m4]
      exact fin
theorem pages_law {k : Nat} (hk : 2 ^ 50 ≤ k) {code : List Int} (hw : Wf (.slice (.int .u8)) code) : laws_FnPages.f k code = some (true, ()) := by
  unfold laws_FnPages.f laws_FnPages.t
  have hbig : laws_big.f k code = some (decide ((code.length : Int) > 1048576), ()) := rfl
  rw [hbig, Option.bind_some]
  by_cases c : (code.length : Int) > 1048576
  · rw [decT c]; rfl
  · rw [decF c]
    simp only [cond_false]
    obtain ⟨l, a, b, e, hl⟩ := drawRange_ok hk (code := code) (by omega)
    rw [e, Option.bind_some]
    simp only []
    rw [pgDir_eq hk, Option.bind_some]
    cases hd : dirP l with
    | false => rfl
    | true =>
      simp only [Bool.not_true, cond_false]
      obtain ⟨x, e4, hx0, hx1⟩ := pgAt_ok k hw
      rw [e4, Option.bind_some]
      simp only []
      have e5 : Int.tmod x 4 = x % 4 := Int.tmod_eq_emod_of_nonneg hx0
      rw [e5, w64_eq (n := 1 + x % 4) (by omega) (by omega), show (1 + x % 4 : Int) = (((1 + x % 4).toNat : Nat) : Int) by omega, pgPage_eq hk (by omega), Option.bind_some, pgRange_eq hk (by omega), Option.bind_some]
      exact pages_loop hk hl hd a b (by omega) (by omega)
theorem fnPages_pure : ∀ x, Wf (tup [.slice (.int .u8)]) x → ∃ k r, laws_FnPages.f k x.1 = some r ∧ sndT (B := [.bool]) (outT ([.val (.slice (.int .u8))])) r = (true, ()) := by
  rintro ⟨a0, _⟩ ⟨f0, _⟩
  suffices Ev (fun k => laws_FnPages.f k a0) (true, ()) by
    obtain ⟨k, h⟩ := this.some
    exact ⟨k, (true, ()), h, rfl⟩
  exact ev_big fun k hk => pages_law hk f0
end Go.Proofs.Ytegeiflafmpefaa.G

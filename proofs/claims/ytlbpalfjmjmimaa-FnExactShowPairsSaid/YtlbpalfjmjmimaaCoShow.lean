/- Plain laws of ShowRec, Frame, SumOf and ShowPairs: both readings answer alike. -/
import Derived.Test.YtlbpalfjmjmimaaCoRec
set_option linter.unusedVariables false
set_option linter.unusedSimpArgs false
namespace Go.Proofs.Ytlbpalfjmjmimaa.G
open Go.V
theorem showRec_ev (a : Ty.den TRec) : ∃ r, Ev (fun k => spec_ShowRec.f k a) r ∧ Ev (fun k => impl_ShowRec.f k a) r ∧ r.1.size ≤ 100 := by
  cases hr : recOk a with
  | false =>
    refine ⟨(⟨#[]⟩, ()), ?_, ?_, by decide⟩
    · show Ev (fun k => spec_ShowRec.t k a) _
      unfold spec_ShowRec.t
      refine Ev.bind (Ev.of fun k => specRecOk_eq k a) ?_
      rw [hr]
      exact Ev.of fun _ => rfl
    · show Ev (fun k => impl_ShowRec.t k a) _
      unfold impl_ShowRec.t
      refine Ev.bind (Ev.of fun k => implRecOk_eq k a) ?_
      rw [hr]
      exact Ev.of fun _ => rfl
  | true =>
    obtain ⟨v1, s1, i1, z1⟩ := var_ev a.1
    obtain ⟨v2, s2, i2, z2⟩ := var_ev a.2.1
    obtain ⟨v3, s3, i3, z3⟩ := var_ev (a.2.2.1.size : Int)
    obtain ⟨v4, s4, i4, z4⟩ := var_ev (a.2.2.2.1.size : Int)
    obtain ⟨v5, s5, i5, z5⟩ := var_ev a.2.2.2.2.1
    have iv := vars2_ev i1 i2 z1 z2
    have hr0 := hr
    unfold recOk at hr
    by_cases c : a.1 = 1 ∨ a.1 = 4
    · have b : (a.1 == 1 || a.1 == 4) = true := by rcases c with c | c <;> rw [c] <;> rfl
      rw [b, cond_true] at hr
      simp only [Bool.and_eq_true, decide_eq_true_eq] at hr
      obtain ⟨⟨_, hk⟩, ht, _⟩ := hr
      have hk : a.2.2.1.size ≤ 8 := by omega
      have ht : a.2.2.2.1.size ≤ 24 := by omega
      refine ⟨(((((v1.1 ++ v2.1) ++ v3.1) ++ a.2.2.1) ++ v4.1) ++ a.2.2.2.1, ()), ?_, ?_, by simp only [ByteArray.size_append]; omega⟩
      · show Ev (fun k => spec_ShowRec.t k a) _
        unfold spec_ShowRec.t
        refine Ev.bind (Ev.of fun k => specRecOk_eq k a) ?_
        rw [hr0]
        refine Ev.notF (Ev.bind s1 (Ev.bind s2 (Ev.eq ?_ (fun k => cat_eq (by omega)))))
        have fin : Ev (fun k => (spec_Var.f k (a.2.2.1.size : Int)).bind fun r4 => cat (v1.1 ++ v2.1) r4.1 (cat ((v1.1 ++ v2.1) ++ r4.1) a.2.2.1 ((spec_Var.f k (a.2.2.2.1.size : Int)).bind fun r5 =>
            cat (((v1.1 ++ v2.1) ++ r4.1) ++ a.2.2.1) r5.1 (cat ((((v1.1 ++ v2.1) ++ r4.1) ++ a.2.2.1) ++ r5.1) a.2.2.2.1 (some ((((((v1.1 ++ v2.1) ++ r4.1) ++ a.2.2.1) ++ r5.1) ++ a.2.2.2.1), ()))))))
            ((((((v1.1 ++ v2.1) ++ v3.1) ++ a.2.2.1) ++ v4.1) ++ a.2.2.2.1), ()) := by
          refine Ev.bind s3 (Ev.eq (Ev.eq (Ev.bind s4 (Ev.of fun k => ?_)) fun k => cat_eq ?_) fun k => cat_eq ?_)
          · rw [cat_eq (by simp only [ByteArray.size_append]; omega), cat_eq (by simp only [ByteArray.size_append]; omega)]
          · simp only [ByteArray.size_append]; omega
          · simp only [ByteArray.size_append]; omega
        rcases c with c | c
        · have b1 : (a.1 == 1) = true := by rw [c]; rfl
          simp only [b1, cond_true]
          exact fin
        · have b1 : (a.1 == 1) = false := by rw [c]; rfl
          have b4 : (a.1 == 4) = true := by rw [c]; rfl
          simp only [b1, b4, cond_true, cond_false]
          exact fin
      · show Ev (fun k => impl_ShowRec.t k a) _
        unfold impl_ShowRec.t
        refine Ev.bind (Ev.of fun k => implRecOk_eq k a) ?_
        rw [hr0]
        refine Ev.notF (Ev.bind iv ?_)
        have fin : Ev (fun k => (impl_textOf.f k a.2.2.1).bind fun r3 => cat (v1.1 ++ v2.1) r3.1 ((impl_textOf.f k a.2.2.2.1).bind fun r4 => cat ((v1.1 ++ v2.1) ++ r3.1) r4.1 (some (((v1.1 ++ v2.1) ++ r3.1) ++ r4.1, ()))))
            ((((((v1.1 ++ v2.1) ++ v3.1) ++ a.2.2.1) ++ v4.1) ++ a.2.2.2.1), ()) := by
          refine Ev.bind (textOf_ev i3 z3 (by omega)) (Ev.eq (Ev.bind (textOf_ev i4 z4 (by omega)) (Ev.of fun k => ?_)) fun k => cat_eq ?_)
          · rw [cat_eq (by simp only [ByteArray.size_append]; omega)]
            simp only [app_assoc]
          · simp only [ByteArray.size_append]; omega
        rcases c with c | c
        · have b1 : (a.1 == 1) = true := by rw [c]; rfl
          simp only [b1, cond_true]
          exact fin
        · have b1 : (a.1 == 1) = false := by rw [c]; rfl
          have b4 : (a.1 == 4) = true := by rw [c]; rfl
          simp only [b1, b4, cond_true, cond_false]
          exact fin
    · have b1 : (a.1 == 1) = false := beq_eq_false_iff_ne.2 fun h => c (.inl h)
      have b4 : (a.1 == 4) = false := beq_eq_false_iff_ne.2 fun h => c (.inr h)
      simp only [b1, b4, Bool.or_false, cond_false] at hr
      cases b2 : (a.1 == 2) with
      | true =>
        rw [b2, cond_true] at hr
        simp only [Bool.and_eq_true, decide_eq_true_eq] at hr
        obtain ⟨⟨_, hk⟩, _⟩ := hr
        have hk : a.2.2.1.size ≤ 8 := by omega
        refine ⟨(((v1.1 ++ v2.1) ++ v3.1) ++ a.2.2.1, ()), ?_, ?_, by simp only [ByteArray.size_append]; omega⟩
        · show Ev (fun k => spec_ShowRec.t k a) _
          unfold spec_ShowRec.t
          refine Ev.bind (Ev.of fun k => specRecOk_eq k a) ?_
          rw [hr0]
          refine Ev.notF (Ev.bind s1 (Ev.bind s2 (Ev.eq ?_ (fun k => cat_eq (by omega)))))
          simp only [b1, b4, b2, cond_true, cond_false]
          refine Ev.bind s3 (Ev.of fun k => ?_)
          rw [cat_eq (by simp only [ByteArray.size_append]; omega), cat_eq (by simp only [ByteArray.size_append]; omega)]
        · show Ev (fun k => impl_ShowRec.t k a) _
          unfold impl_ShowRec.t
          refine Ev.bind (Ev.of fun k => implRecOk_eq k a) ?_
          rw [hr0]
          refine Ev.notF (Ev.bind iv ?_)
          simp only [b1, b4, b2, cond_true, cond_false]
          refine Ev.bind (textOf_ev i3 z3 (by omega)) (Ev.of fun k => ?_)
          rw [cat_eq (by simp only [ByteArray.size_append]; omega)]
          simp only [app_assoc]
      | false =>
        rw [b2, cond_false] at hr
        have hsm : 0 ≤ a.2.2.2.2.2.1 ∧ a.2.2.2.2.2.1 ≤ 4294967295 := by
          cases b3 : (a.1 == 3) with
          | true =>
            rw [b3, cond_true] at hr
            simp only [Bool.and_eq_true, decide_eq_true_eq] at hr
            exact hr.2.2.2.1
          | false =>
            rw [b3, cond_false] at hr
            cases b5 : (a.1 == 5) with
            | true =>
              rw [b5, cond_true] at hr
              simp only [Bool.and_eq_true, decide_eq_true_eq] at hr
              exact hr.2.2.2.1
            | false =>
              rw [b5, cond_false] at hr
              cases hr
        obtain ⟨x, sx, ix, zx⟩ := fixed4_ev hsm.1 hsm.2
        refine ⟨(((v1.1 ++ v2.1) ++ v5.1) ++ x.1, ()), ?_, ?_, by simp only [ByteArray.size_append]; omega⟩
        · show Ev (fun k => spec_ShowRec.t k a) _
          unfold spec_ShowRec.t
          refine Ev.bind (Ev.of fun k => specRecOk_eq k a) ?_
          rw [hr0]
          refine Ev.notF (Ev.bind s1 (Ev.bind s2 (Ev.eq ?_ (fun k => cat_eq (by omega)))))
          simp only [b1, b4, b2, cond_true, cond_false]
          refine Ev.bind s5 (Ev.eq (Ev.bind sx (Ev.of fun k => ?_)) fun k => cat_eq ?_)
          · rw [cat_eq (by simp only [ByteArray.size_append]; omega)]
          · simp only [ByteArray.size_append]; omega
        · show Ev (fun k => impl_ShowRec.t k a) _
          unfold impl_ShowRec.t
          refine Ev.bind (Ev.of fun k => implRecOk_eq k a) ?_
          rw [hr0]
          refine Ev.notF (Ev.bind iv ?_)
          simp only [b1, b4, b2, cond_true, cond_false]
          refine Ev.bind i5 (Ev.eq (Ev.bind ix (Ev.of fun k => ?_)) fun k => cat_eq ?_)
          · rw [cat_eq (by simp only [ByteArray.size_append]; omega)]
          · simp only [ByteArray.size_append]; omega
theorem frame_ev (s : ByteArray) : ∃ r, Ev (fun k => spec_Frame.f k s) r ∧ Ev (fun k => impl_Frame.f k s) r ∧ r.1.size ≤ 300 := by
  by_cases c : (s.size : Int) > 200
  · refine ⟨(⟨#[]⟩, ()), Ev.of fun k => ?_, Ev.of fun k => ?_, by decide⟩
    · unfold spec_Frame.f spec_Frame.t
      rw [decide_eq_true c, cond_true]
    · unfold impl_Frame.f impl_Frame.t
      rw [decide_eq_true c, cond_true]
  · obtain ⟨v, s1, i1, z1⟩ := var_ev (s.size : Int)
    obtain ⟨q, s2, i2, z2, z3⟩ := crc_ev (v.1 ++ s) (by rw [ByteArray.size_append]; omega)
    obtain ⟨x, s3, i3, z4⟩ := fixed4_ev z2 z3
    refine ⟨(x.1 ++ (v.1 ++ s), ()), ?_, ?_, by simp only [ByteArray.size_append]; omega⟩
    · show Ev (fun k => spec_Frame.t k s) _
      unfold spec_Frame.t
      simp only [decide_eq_false c, cond_false]
      refine Ev.bind s1 (Ev.eq (Ev.bind s2 (Ev.bind s3 (Ev.of fun k => ?_))) fun k => cat_eq (by omega))
      rw [cat_eq (by simp only [ByteArray.size_append]; omega)]
    · show Ev (fun k => impl_Frame.t k s) _
      unfold impl_Frame.t
      simp only [decide_eq_false c, cond_false]
      refine Ev.bind (textOf_ev i1 z1 (by omega)) (Ev.bind i2 (Ev.bind i3 (Ev.of fun k => ?_)))
      rw [cat_eq (by simp only [ByteArray.size_append]; omega)]
theorem sumL {l : List (Ty.den TRec)} (hl : l.length ≤ 1048576) : ∀ (d i : Nat) (out : ByteArray), l.length - i = d → i ≤ l.length → out.size ≤ i * 100 →
    ∃ r : Int × Unit, Ev2 (fun k n => spec_SumOf.l0 k n l out (i : Int)) r ∧ Ev2 (fun k n => impl_SumOf.l0 k n out l (l.length : Int) (i : Int)) r ∧ 0 ≤ r.1 ∧ r.1 ≤ 4294967295
  | 0, i, out, hd, hi, ho => by
    have h2 : ¬ ((i : Int) < (l.length : Int)) := by omega
    obtain ⟨r, s, t, z⟩ := crc_ev out (by omega)
    refine ⟨r, Ev2.step (b := fun k n => spec_SumOf.b0 k (spec_SumOf.l0 k n) l out (i : Int)) (fun k n => rfl) ?_, Ev2.step (b := fun k n => impl_SumOf.b0 k (impl_SumOf.l0 k n) out l (l.length : Int) (i : Int)) (fun k n => rfl) ?_, z⟩
    · unfold spec_SumOf.b0
      simp only [decide_eq_false h2, cond_false]
      exact Ev2.bind s (Ev2.of fun _ _ => rfl)
    · unfold impl_SumOf.b0
      simp only [decide_eq_false h2, cond_false]
      exact Ev2.bind t (Ev2.of fun _ _ => rfl)
  | d + 1, i, out, hd, hi, ho => by
    have h2 : ((i : Int) < (l.length : Int)) := by omega
    have h0 := Int.natCast_nonneg i
    obtain ⟨x, s, t, z⟩ := showRec_ev (l.getD i (Ty.dflt TRec))
    obtain ⟨r, s1, s2, s3⟩ := sumL hl d (i + 1) (out ++ x.1) (by omega) (by omega) (by rw [ByteArray.size_append]; omega)
    refine ⟨r, Ev2.step (b := fun k n => spec_SumOf.b0 k (spec_SumOf.l0 k n) l out (i : Int)) (fun k n => rfl) ?_, Ev2.step (b := fun k n => impl_SumOf.b0 k (impl_SumOf.l0 k n) out l (l.length : Int) (i : Int)) (fun k n => rfl) ?_, s3⟩
    · unfold spec_SumOf.b0
      simp only [decide_eq_true h2, cond_true, inb_eq h0 h2, toNat_ofNat, up64 (show i ≤ 4398046511104 by omega)]
      exact Ev2.bind s (Ev2.eq s1 fun k n => cat_eq (by omega))
    · unfold impl_SumOf.b0
      simp only [decide_eq_true h2, cond_true, inb_eq h0 h2, toNat_ofNat, up64 (show i ≤ 4398046511104 by omega)]
      exact Ev2.bind t (Ev2.eq s2 fun k n => cat_eq (by omega))
theorem sumOf_ev (l : List (Ty.den TRec)) (hl : l.length ≤ 1048576) : ∃ r : Int × Unit, Ev (fun k => spec_SumOf.f k l) r ∧ Ev (fun k => impl_SumOf.f k l) r ∧ 0 ≤ r.1 ∧ r.1 ≤ 4294967295 := by
  obtain ⟨r, h1, h2, h3⟩ := sumL hl l.length 0 ⟨#[]⟩ (by omega) (by omega) (by decide)
  exact ⟨r, h1.diag, h2.diag, h3⟩
end Go.Proofs.Ytlbpalfjmjmimaa.G

/- The plain law of ShowPairs: both readings answer alike. -/
import Derived.Test.YtlbpalfjmjmimaaCoShow
set_option linter.unusedVariables false
set_option linter.unusedSimpArgs false
namespace Go.Proofs.Ytlbpalfjmjmimaa.G
open Go.V
def keepOf (p : Ty.den TPair) : Ty.den TRec := (4, (p.2.2.1, (p.1, (p.2.1, (0, (0, ()))))))
def sealOf (n z : Int) (s : Int × Unit) : Ty.den TRec := (5, (z, (ByteArray.empty, (ByteArray.empty, (n, s)))))
theorem take_keep {l : List (Ty.den TPair)} {i : Nat} (h : i < l.length) : (l.take i).map keepOf ++ [keepOf (l.getD i (Ty.dflt TPair))] = (l.take (i + 1)).map keepOf := by
  have hg : l.getD i (Ty.dflt TPair) = l[i] := by simp [List.getD, h]
  rw [hg, List.take_succ_eq_append_getElem h, List.map_append]
  rfl
theorem keepsL {l : List (Ty.den TPair)} {z : Int} (hl : l.length ≤ 20) {s : Int × Unit} (hs : Ev (fun k => impl_SumOf.f k (l.map keepOf)) s) : ∀ (d i : Nat), l.length - i = d → i ≤ l.length →
    Ev2 (fun k n => impl_keeps.l0 k n l z l (l.length : Int) (i : Int) ((l.take i).map keepOf)) (l.map keepOf ++ [sealOf (l.length : Int) z s], ())
  | 0, i, hd, hi => by
    have h2 : ¬ ((i : Int) < (l.length : Int)) := by omega
    have e : l.take i = l := List.take_of_length_le (by omega)
    rw [e]
    refine Ev2.step (b := fun k n => impl_keeps.b0 k (impl_keeps.l0 k n) l z l (l.length : Int) (i : Int) (l.map keepOf)) (fun k n => rfl) ?_
    have hr : ((l.map keepOf).length + 1) * Ty.bytes TRec ≤ 140737488355328 := by have : Ty.bytes TRec = 64 := rfl; rw [this, List.length_map]; omega
    unfold impl_keeps.b0
    simp only [decide_eq_false h2, cond_false]
    exact Ev2.bind hs (Ev2.of fun k n => rm_eq hr (by rw [List.length_map]; omega))
  | d + 1, i, hd, hi => by
    have h2 : ((i : Int) < (l.length : Int)) := by omega
    have h0 := Int.natCast_nonneg i
    have ih := keepsL (z := z) hl hs d (i + 1) (by omega) (by omega)
    have hr : (((l.take i).map keepOf).length + 1) * Ty.bytes TRec ≤ 140737488355328 := by have : Ty.bytes TRec = 64 := rfl; rw [this, List.length_map, List.length_take]; omega
    refine Ev2.step (b := fun k n => impl_keeps.b0 k (impl_keeps.l0 k n) l z l (l.length : Int) (i : Int) ((l.take i).map keepOf)) (fun k n => rfl) ?_
    unfold impl_keeps.b0
    simp only [decide_eq_true h2, cond_true, inb_eq h0 h2, toNat_ofNat, up64 (show i ≤ 4398046511104 by omega), rm_eq hr (show ((l.take i).map keepOf).length + 1 ≤ 140737488355328 by rw [List.length_map, List.length_take]; omega)]
    rw [← take_keep (show i < l.length by omega)] at ih
    exact ih
theorem showsL {l : List (Ty.den TPair)} (hl : l.length ≤ 20) {s : Int × Unit} (hs : Ev (fun k => spec_SumOf.f k (l.map keepOf)) s) {rs : List (Ty.den TRec)} (hrs : rs = l.map keepOf ++ [sealOf (l.length : Int) 0 s]) :
    ∀ (d i : Nat) (out : ByteArray), l.length - i = d → i ≤ l.length → out.size ≤ i * 300 →
    ∃ r, Ev2 (fun k n => spec_ShowPairs.l0 k n l out (i : Int) ((l.take i).map keepOf)) r ∧ Ev2 (fun k n => impl_ShowPairs.l0 k n out (rs.length : Int) (i : Int) rs) r
  | 0, i, out, hd, hi, ho => by
    have h2 : ¬ ((i : Int) < (l.length : Int)) := by omega
    have hlen : rs.length = l.length + 1 := by rw [hrs, List.length_append, List.length_map]; rfl
    have h3 : (i : Int) < (rs.length : Int) := by omega
    have h0 := Int.natCast_nonneg i
    have e : l.take i = l := List.take_of_length_le (by omega)
    have eg : rs.getD i (Ty.dflt TRec) = sealOf (l.length : Int) 0 s := by
      have : i = (l.map keepOf).length := by rw [List.length_map]; omega
      rw [hrs, this]
      simp [List.getD]
    obtain ⟨x, sx, ix, zx⟩ := showRec_ev (sealOf (l.length : Int) 0 s)
    obtain ⟨y, sy, iy, zy⟩ := frame_ev x.1
    have sl : Ev (fun k => spec_l9Seal.f k (l.map keepOf) 0 5) (sealOf (l.length : Int) 0 s, ()) := by
      show Ev (fun k => spec_l9Seal.t k (l.map keepOf) 0 5) _
      unfold spec_l9Seal.t
      refine Ev.bind hs (Ev.of fun k => ?_)
      rw [List.length_map]
      rfl
    rw [e]
    refine ⟨(out ++ y.1, ()), Ev2.step (b := fun k n => spec_ShowPairs.b0 k (spec_ShowPairs.l0 k n) l out (i : Int) (l.map keepOf)) (fun k n => rfl) ?_, Ev2.step (b := fun k n => impl_ShowPairs.b0 k (impl_ShowPairs.l0 k n) out (rs.length : Int) (i : Int) rs) (fun k n => rfl) ?_⟩
    · unfold spec_ShowPairs.b0
      simp only [decide_eq_false h2, cond_false]
      exact Ev2.bind sl (Ev2.bind sx (Ev2.bind sy (Ev2.of fun k n => cat_eq (by omega))))
    · unfold impl_ShowPairs.b0
      simp only [decide_eq_true h3, cond_true, inb_eq h0 h3, toNat_ofNat, up64 (show i ≤ 4398046511104 by omega), eg]
      refine Ev2.bind ix (Ev2.bind iy (Ev2.eq ?_ fun k n => cat_eq (by omega)))
      refine Ev2.step (b := fun k n => impl_ShowPairs.b0 k (impl_ShowPairs.l0 k n) (out ++ y.1) (rs.length : Int) ((i + 1 : Nat) : Int) rs) (fun k n => rfl) (Ev2.of fun k n => ?_)
      unfold impl_ShowPairs.b0
      rw [decide_eq_false (by omega), cond_false]
  | d + 1, i, out, hd, hi, ho => by
    have h2 : ((i : Int) < (l.length : Int)) := by omega
    have hlen : rs.length = l.length + 1 := by rw [hrs, List.length_append, List.length_map]; rfl
    have h3 : (i : Int) < (rs.length : Int) := by omega
    have h0 := Int.natCast_nonneg i
    have eg : rs.getD i (Ty.dflt TRec) = keepOf (l.getD i (Ty.dflt TPair)) := by
      have h4 : i < l.length := by omega
      rw [hrs, List.getD, List.getElem?_append_left (by rw [List.length_map]; exact h4), List.getElem?_map, List.getElem?_eq_getElem h4]
      simp [List.getD, h4]
    obtain ⟨x, sx, ix, zx⟩ := showRec_ev (keepOf (l.getD i (Ty.dflt TPair)))
    obtain ⟨y, sy, iy, zy⟩ := frame_ev x.1
    have hr : (((l.take i).map keepOf).length + 1) * Ty.bytes TRec ≤ 140737488355328 := by have : Ty.bytes TRec = 64 := rfl; rw [this, List.length_map, List.length_take]; omega
    obtain ⟨r, s1, s2⟩ := showsL hl hs hrs d (i + 1) (out ++ y.1) (by omega) (by omega) (by rw [ByteArray.size_append]; omega)
    rw [← take_keep (show i < l.length by omega)] at s1
    refine ⟨r, Ev2.step (b := fun k n => spec_ShowPairs.b0 k (spec_ShowPairs.l0 k n) l out (i : Int) ((l.take i).map keepOf)) (fun k n => rfl) ?_, Ev2.step (b := fun k n => impl_ShowPairs.b0 k (impl_ShowPairs.l0 k n) out (rs.length : Int) (i : Int) rs) (fun k n => rfl) ?_⟩
    · unfold spec_ShowPairs.b0
      have ek : ∀ k p, spec_l14Keep.f k p = some (keepOf p, ()) := fun _ _ => rfl
      simp only [decide_eq_true h2, cond_true, inb_eq h0 h2, toNat_ofNat, up64 (show i ≤ 4398046511104 by omega), ek, Option.bind_some, rm_eq hr (show ((l.take i).map keepOf).length + 1 ≤ 140737488355328 by rw [List.length_map, List.length_take]; omega)]
      exact Ev2.bind sx (Ev2.bind sy (Ev2.eq s1 fun k n => cat_eq (by omega)))
    · unfold impl_ShowPairs.b0
      simp only [decide_eq_true h3, cond_true, inb_eq h0 h3, toNat_ofNat, up64 (show i ≤ 4398046511104 by omega), eg]
      exact Ev2.bind ix (Ev2.bind iy (Ev2.eq s2 fun k n => cat_eq (by omega)))
theorem core_FnExactShowPairs {a0 : List (Ty.den TPair)} (f0 : Wf (.slice TPair) a0) (w0 : weight (.slice TPair) a0 ≤ 1048576) :
    ∃ r, Ev (fun k => spec_ShowPairs.f k a0) r ∧ Ev (fun k => impl_ShowPairs.f k a0) r ∧ True := by
  have hl := weight_len w0
  have e1 := specPairsOk_ev hl
  have e2 := implPairsOk_ev hl
  cases c : (pairsFrom a0 a0.length 0 && decide ((a0.length : Int) ≤ 20)) <;> rw [c] at e1 e2
  · refine ⟨(⟨#[]⟩, ()), ?_, ?_, trivial⟩
    · show Ev (fun k => spec_ShowPairs.t k (spec_ShowPairs.l0 k k) a0) _
      unfold spec_ShowPairs.t
      exact Ev.bind e1 (Ev.of fun _ => rfl)
    · show Ev (fun k => impl_ShowPairs.t k (impl_ShowPairs.l0 k k) a0) _
      unfold impl_ShowPairs.t
      exact Ev.bind e2 (Ev.of fun _ => rfl)
  · rw [Bool.and_eq_true, decide_eq_true_eq] at c
    have h20 : a0.length ≤ 20 := by omega
    obtain ⟨s, s1, s2, s3⟩ := sumOf_ev (a0.map keepOf) (by rw [List.length_map]; omega)
    have hk := keepsL (z := 0) h20 s2 a0.length 0 (by omega) (by omega)
    obtain ⟨r, r1, r2⟩ := showsL h20 s1 rfl a0.length 0 ⟨#[]⟩ (by omega) (by omega) (by decide)
    refine ⟨r, ?_, ?_, trivial⟩
    · show Ev (fun k => spec_ShowPairs.t k (spec_ShowPairs.l0 k k) a0) _
      unfold spec_ShowPairs.t
      exact Ev.bind e1 (Ev.notF r1.diag)
    · show Ev (fun k => impl_ShowPairs.t k (impl_ShowPairs.l0 k k) a0) _
      unfold impl_ShowPairs.t
      refine Ev.bind e2 (Ev.notF ?_)
      refine Ev.bind (r := (a0.map keepOf ++ [sealOf (a0.length : Int) 0 s], ())) hk.diag ?_
      exact r2.diag
end Go.Proofs.Ytlbpalfjmjmimaa.G

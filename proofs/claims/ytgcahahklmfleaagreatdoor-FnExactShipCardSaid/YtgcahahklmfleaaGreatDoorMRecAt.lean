/- M: RecAt: what it answers, in both readings. -/
import Derived.Test.YtgcahahklmfleaaGreatDoorMKeep
import Derived.Test.YtgcahahklmfleaaGreatDoorMAdj
set_option linter.unusedVariables false
set_option linter.unusedSimpArgs false
namespace Go.Proofs.YtgcahahklmfleaaGreatDoor.G
open Go.V
abbrev EntryL := List (Ty.den TEntry)
/- RecAt. -/
noncomputable def recAtM (s : ByteArray) (i n : Int) : Ty.den TRec × Bool :=
  if 0 ≤ i ∧ i ≤ s.size ∧ 1 ≤ n ∧ n ≤ s.size - i then (if (unfM (ByteArray.extract s i.toNat (i + n).toNat)).2 = n then readRecM (unfM (ByteArray.extract s i.toNat (i + n).toNat)).1 else (zRec, false)) else (zRec, false)
theorem readRec_no {s : ByteArray} (h : (readRecM s).2 = false) : readRecM s = (zRec, false) := undo_no h
theorem ext_le (s : ByteArray) (i j : Nat) : (ByteArray.extract s i j).size ≤ s.size := by
  rw [← nb_len, nb_ext, List.length_drop, List.length_take, nb_len]; omega
theorem specRecAt_eq {k : Nat} (hk : 2 ^ 50 ≤ k) {s : ByteArray} (i n : Int) (hs : s.size ≤ 1099511627775) : spec_RecAt.f k s i n = some ((recAtM s i n).1, ((recAtM s i n).2, ())) := by
  unfold spec_RecAt.f spec_RecAt.t recAtM
  rw [l1In_eq, Option.bind_some]
  by_cases c1 : 0 ≤ i ∧ i ≤ s.size
  case neg => rw [decF c1, if_neg (fun h => c1 ⟨h.1, h.2.1⟩)]; rfl
  rw [decT c1, Bool.not_true, cond_false, l1In_eq, Option.bind_some, w64_eq (by omega) (by omega)]
  by_cases c2 : 1 ≤ n ∧ n ≤ s.size - i
  case neg => rw [decF c2, if_neg (fun h => c2 ⟨h.2.2.1, h.2.2.2⟩)]; rfl
  have hz := ext_le s i.toNat (i + n).toNat
  have hu := unf_bound (ByteArray.extract s i.toNat (i + n).toNat)
  rw [decT c2, Bool.not_true, cond_false, w64_eq (by omega) (by omega), inc2_eq (by omega) (by omega) (by omega), if_pos ⟨c1.1, c1.2, c2⟩, specUnframe_eq hk (by omega), Option.bind_some]
  simp only []
  rw [specReadRec_eq hk (by omega), Option.bind_some]
  by_cases c3 : (unfM (ByteArray.extract s i.toNat (i + n).toNat)).2 = n
  · rw [if_pos c3]
    simp only [show ((unfM (ByteArray.extract s i.toNat (i + n).toNat)).2 != n) = false by rw [c3]; simp, cond_false]
    cases c4 : (readRecM (unfM (ByteArray.extract s i.toNat (i + n).toNat)).1).2 with
    | true => rfl
    | false => rw [readRec_no c4]; rfl
  · rw [if_neg c3]
    simp only [show ((unfM (ByteArray.extract s i.toNat (i + n).toNat)).2 != n) = true from bne_iff_ne.2 c3, cond_true]
theorem implRecAt_eq {k : Nat} (hk : 2 ^ 50 ≤ k) {s : ByteArray} (i n : Int) (hs : s.size ≤ 1099511627775) : impl_RecAt.f k s i n = some ((recAtM s i n).1, ((recAtM s i n).2, ())) := by
  unfold impl_RecAt.f impl_RecAt.t recAtM
  rw [in_eq, Option.bind_some]
  by_cases c1 : 0 ≤ i ∧ i ≤ s.size
  case neg => rw [decF c1, if_neg (fun h => c1 ⟨h.1, h.2.1⟩)]; rfl
  rw [decT c1, Bool.not_true, cond_false, in_eq, Option.bind_some, w64_eq (by omega) (by omega)]
  by_cases c2 : 0 ≤ n ∧ n ≤ s.size - i
  case neg => rw [decF c2, if_neg (fun h => c2 ⟨by omega, h.2.2.2⟩)]; rfl
  have hz := ext_le s i.toNat (i + n).toNat
  have hu := unf_bound (ByteArray.extract s i.toNat (i + n).toNat)
  have hsz : (ByteArray.extract s i.toNat (i + n).toNat).size ≤ (i + n).toNat - i.toNat := by rw [← nb_len, nb_ext, List.length_drop, List.length_take]; omega
  rw [decT c2, Bool.not_true, cond_false, w64_eq (by omega) (by omega), inc2_eq (by omega) (by omega) (by omega), implUnframe_eq hk (by omega), Option.bind_some]
  simp only []
  by_cases c0 : (unfM (ByteArray.extract s i.toNat (i + n).toNat)).2 = 0
  · rw [show ((unfM (ByteArray.extract s i.toNat (i + n).toNat)).2 == 0) = true by rw [c0]; rfl, cond_true]
    split
    · rename_i h
      rw [if_neg (by omega)]
    · rfl
  · rw [show ((unfM (ByteArray.extract s i.toNat (i + n).toNat)).2 == 0) = false from beq_eq_false_iff_ne.2 c0, cond_false, if_pos ⟨c1.1, c1.2, by omega, c2.2⟩]
    by_cases c3 : (unfM (ByteArray.extract s i.toNat (i + n).toNat)).2 = n
    · rw [if_pos c3]
      simp only [show ((unfM (ByteArray.extract s i.toNat (i + n).toNat)).2 != n) = false by rw [c3]; simp, cond_false]
      rw [implReadRec_eq hk (by omega), Option.bind_some]
    · rw [if_neg c3]
      simp only [show ((unfM (ByteArray.extract s i.toNat (i + n).toNat)).2 != n) = true from bne_iff_ne.2 c3, cond_true]
end Go.Proofs.YtgcahahklmfleaaGreatDoor.G

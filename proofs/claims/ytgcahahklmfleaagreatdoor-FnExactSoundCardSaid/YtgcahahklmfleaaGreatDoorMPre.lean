/- M: prefixes. -/
import Derived.Test.YtgcahahklmfleaaGreatDoorMNum
import Derived.Test.YtgcahahklmfleaaGreatDoorXLib
set_option linter.unusedVariables false
set_option linter.unusedSimpArgs false
namespace Go.Proofs.YtgcahahklmfleaaGreatDoor.G
open Go.V
def preB (s p : ByteArray) : Bool := decide (p.size ≤ s.size) && seq (ByteArray.extract s 0 p.size) p
theorem preB_eq (s p : ByteArray) : Go.Lib.hasPrefix s.data.toList p.data.toList = preB s p := (Go.Lib.hasPrefix_raw s p).symm
theorem preB_le {s p : ByteArray} (h : preB s p = true) : p.size ≤ s.size := by
  unfold preB at h
  rw [Bool.and_eq_true, decide_eq_true_eq] at h
  exact h.1
theorem ext_all (s : ByteArray) : ByteArray.extract s 0 s.size = s := nb_inj (by rw [ext_tail, List.drop_zero])
theorem preB_app (p t : ByteArray) : preB (p ++ t) p = true := by
  unfold preB
  rw [decT (by rw [ByteArray.size_append]; omega), app_head, seq_refl]
  rfl
theorem preB_split {s p : ByteArray} (h : preB s p = true) : s = p ++ ByteArray.extract s p.size s.size := by
  have hl := preB_le h
  unfold preB at h
  rw [Bool.and_eq_true] at h
  have e := seq_iff.1 h.2
  have := split_at s hl
  rw [e] at this
  exact this
theorem cutPrefix_eq (k : Nat) (s p : ByteArray) : lib_CutPrefix.f k s p = some (bif preB s p then ByteArray.extract s p.size s.size else s, (preB s p, ())) := by
  unfold lib_CutPrefix.f Go.Lib.trimPrefix
  rw [preB_eq]
  cases preB s p with
  | false => rfl
  | true =>
    have : (⟨(if true = true then List.drop p.data.toList.length s.data.toList else s.data.toList).toArray⟩ : ByteArray) = ByteArray.extract s p.size s.size := by
      rw [if_pos rfl]
      apply nb_inj
      rw [ext_tail]
      unfold nb
      rw [List.toList_toArray, List.map_drop, Array.length_toList]
      rfl
    rw [this]
    rfl
end Go.Proofs.YtgcahahklmfleaaGreatDoor.G

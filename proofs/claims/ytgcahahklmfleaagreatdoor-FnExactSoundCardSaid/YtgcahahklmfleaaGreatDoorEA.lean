/- Values are weighed, copied and compared as they should be: plain laws. -/
import Derived.Test.YtgcahahklmfleaaGreatDoorFA
import Derived.Test.YtgcahahklmfleaaGreatDoorVMark
set_option linter.unusedVariables false
set_option linter.unusedSimpArgs false
namespace Go.Proofs.YtgcahahklmfleaaGreatDoor.G
open Go.V
theorem szFile_ev (x : Ty.den TPair) (hw : Wf TPair x) (left : Int) (h0 : 0 ≤ left) (h1 : left ≤ 1048576) : Ev (fun k => laws_szFile.f k x left) (sz (weight TPair x) left, ()) := by
  have e : weight TPair x = (x.1.size + (x.2.1.size + (0 + 0))) := rfl
  rw [e]
  show Ev (fun k => laws_szFile.t k x left) _
  unfold laws_szFile.t
  have a0 : x.1.size ≤ reachBytes := hw.1
  rw [reach_eq] at a0
  have w0 : w64 (left - (x.1.size : Int)) = left - (x.1.size : Int) := w64_eq (by omega) (by omega)
  by_cases c0 : left - (x.1.size : Int) < 0
  · refine Ev.of fun k => ?_
    simp only [w0, decide_eq_true c0, cond_true]
    rw [sz_bad (by omega)]
  simp only [w0, decide_eq_false c0, cond_false]
  have a1 : x.2.1.size ≤ reachBytes := hw.2.1
  rw [reach_eq] at a1
  have w1 : w64 (left - (x.1.size : Int) - (x.2.1.size : Int)) = left - (x.1.size : Int) - (x.2.1.size : Int) := w64_eq (by omega) (by omega)
  by_cases c1 : left - (x.1.size : Int) - (x.2.1.size : Int) < 0
  · refine Ev.of fun k => ?_
    simp only [w1, decide_eq_true c1, cond_true]
    rw [sz_bad (by omega)]
  simp only [w1, decide_eq_false c1, cond_false]
  refine Ev.of fun k => ?_
  rw [sz_ok (by omega)]
  congr 2
  try omega
theorem szFileS_ev (l : List (Ty.den TPair)) (hw : Wf (.slice TPair) l) (left : Int) (h0 : 0 ≤ left) (h1 : left ≤ 1048576) : Ev (fun k => laws_szFileS.f k l left) (sz (weight (.slice TPair) l) left, ()) :=
  szS'_ev (l := laws_szFileS.l0) (f := laws_szFile.f) (fun _ _ _ _ _ => rfl) hw (fun x hx left h0 h1 => szFile_ev x hx left h0 h1) h0 h1 (fun k => rfl)
theorem szDisk_ev (x : Ty.den TDisk) (hw : Wf TDisk x) (left : Int) (h0 : 0 ≤ left) (h1 : left ≤ 1048576) : Ev (fun k => laws_szDisk.f k x left) (sz (weight TDisk x) left, ()) := by
  have e : weight TDisk x = (weight (.slice TPair) x.1 + (0 + (0 + (0 + 0)))) := rfl
  rw [e]
  show Ev (fun k => laws_szDisk.t k x left) _
  unfold laws_szDisk.t
  refine Ev.bind (szFileS_ev x.1 hw.1 (left) (by omega) (by omega)) ?_
  by_cases c0 : ((weight (.slice TPair) x.1 : Nat) : Int) ≤ left
  case neg =>
    refine Ev.of fun k => ?_
    simp only [sz_bad (show left < ((weight (.slice TPair) x.1 : Nat) : Int) by omega)]
    rw [sz_bad (by omega)]
    rfl
  have d0 : ¬ (left - ((weight (.slice TPair) x.1 : Nat) : Int) < 0) := by omega
  simp only [sz_ok c0, decide_eq_false d0, cond_false]
  refine Ev.of fun k => ?_
  rw [sz_ok (by omega)]
  congr 2
  try omega
theorem toFile_ev (x : Ty.den TPair) (hl : weight TPair x ≤ 1048576) : Ev (fun k => laws_toFile.f k x) (x, ()) := by
  have e : weight TPair x = (x.1.size + (x.2.1.size + (0 + 0))) := rfl
  show Ev (fun k => laws_toFile.t k x) _
  unfold laws_toFile.t
  exact Ev.of fun k => rfl
theorem toFileS_ev (l : List (Ty.den TPair)) (hl : weight (.slice TPair) l ≤ 1048576) : Ev (fun k => laws_toFileS.f k l) (l, ()) :=
  toS'_ev (l := laws_toFileS.l0) (f := laws_toFile.f) (fun _ _ _ _ _ => rfl) (fun x hx => toFile_ev x hx) hl (by decide) (fun k => rfl)
theorem toDisk_ev (x : Ty.den TDisk) (hl : weight TDisk x ≤ 1048576) : Ev (fun k => laws_toDisk.f k x) (x, ()) := by
  have e : weight TDisk x = (weight (.slice TPair) x.1 + (0 + (0 + (0 + 0)))) := rfl
  show Ev (fun k => laws_toDisk.t k x) _
  unfold laws_toDisk.t
  refine Ev.bind (toFileS_ev x.1 (by omega)) ?_
  exact Ev.of fun k => rfl
theorem eqFile_ev (x : Ty.den TPair) (hl : wp TPair x ≤ 4398046511104) : Ev (fun k => laws_eqFile.f k x x) (true, ()) := by
  have e : wp TPair x = (0 + (0 + (0 + 0))) := rfl
  show Ev (fun k => laws_eqFile.t k x x) _
  unfold laws_eqFile.t
  simp only [seq_refl, bne_self_eq_false, beq_self_eq_true, Bool.not_true, cond_false]
  exact Ev.of fun k => rfl
theorem eqFileS_ev (l : List (Ty.den TPair)) (hl : wp (.slice TPair) l ≤ 4398046511104) : Ev (fun k => laws_eqFileS.f k l l) (true, ()) :=
  eqS'_ev (l := laws_eqFileS.l0) (f := laws_eqFile.f) (fun _ _ _ _ _ => rfl) (fun x hx => eqFile_ev x hx) hl (fun k => rfl)
theorem eqDisk_ev (x : Ty.den TDisk) (hl : wp TDisk x ≤ 4398046511104) : Ev (fun k => laws_eqDisk.f k x x) (true, ()) := by
  have e : wp TDisk x = (wp (.slice TPair) x.1 + (0 + (0 + (0 + 0)))) := rfl
  show Ev (fun k => laws_eqDisk.t k x x) _
  unfold laws_eqDisk.t
  refine Ev.bind (eqFileS_ev x.1 (by omega)) ?_
  simp only [seq_refl, bne_self_eq_false, beq_self_eq_true, Bool.not_true, cond_false]
  exact Ev.of fun k => rfl
theorem eqReport_ev (x : Ty.den TReport) (hl : wp TReport x ≤ 4398046511104) : Ev (fun k => laws_eqReport.f k x x) (true, ()) := by
  have e : wp TReport x = (0 + (0 + (0 + (0 + (0 + (0 + (0 + 0))))))) := rfl
  show Ev (fun k => laws_eqReport.t k x x) _
  unfold laws_eqReport.t
  simp only [seq_refl, bne_self_eq_false, beq_self_eq_true, Bool.not_true, cond_false]
  exact Ev.of fun k => rfl

end Go.Proofs.YtgcahahklmfleaaGreatDoor.G

/- Values are weighed, copied and compared as they should be: plain laws. -/
import Derived.Test.YtgcahahklmfleaaDoorFA
import Derived.Test.YtgcahahklmfleaaDoorVMark
set_option linter.unusedVariables false
set_option linter.unusedSimpArgs false
namespace Go.Proofs.YtgcahahklmfleaaDoor.G
open Go.V
theorem szIntS_ev (l : List (Ty.den (.int .i64))) (hw : Wf (.slice (.int .i64)) l) (left : Int) (h0 : 0 ≤ left) (h1 : left ≤ 1048576) : Ev (fun k => laws_szIntS.f k l left) (sz (weight (.slice (.int .i64)) l) left, ()) :=
  szInt_ev hw h0 h1 (fun k => rfl)
theorem szLive_ev (x : Ty.den TLive) (hw : Wf TLive x) (left : Int) (h0 : 0 ≤ left) (h1 : left ≤ 1048576) : Ev (fun k => laws_szLive.f k x left) (sz (weight TLive x) left, ()) := by
  have e : weight TLive x = (0 + (weight (.slice (.int .i64)) x.2.1 + 0)) := rfl
  rw [e]
  show Ev (fun k => laws_szLive.t k x left) _
  unfold laws_szLive.t
  refine Ev.bind (szIntS_ev x.2.1 hw.2.1 (left) (by omega) (by omega)) ?_
  by_cases c1 : ((weight (.slice (.int .i64)) x.2.1 : Nat) : Int) ≤ left
  case neg =>
    refine Ev.of fun k => ?_
    simp only [sz_bad (show left < ((weight (.slice (.int .i64)) x.2.1 : Nat) : Int) by omega)]
    rw [sz_bad (by omega)]
    rfl
  have d1 : ¬ (left - ((weight (.slice (.int .i64)) x.2.1 : Nat) : Int) < 0) := by omega
  simp only [sz_ok c1, decide_eq_false d1, cond_false]
  refine Ev.of fun k => ?_
  rw [sz_ok (by omega)]
  congr 2
  try omega
theorem szEntry_ev (x : Ty.den TEntry) (hw : Wf TEntry x) (left : Int) (h0 : 0 ≤ left) (h1 : left ≤ 1048576) : Ev (fun k => laws_szEntry.f k x left) (sz (weight TEntry x) left, ()) := by
  have e : weight TEntry x = (x.1.size + (0 + (0 + (0 + (0 + 0))))) := rfl
  rw [e]
  show Ev (fun k => laws_szEntry.t k x left) _
  unfold laws_szEntry.t
  have a0 : x.1.size ≤ reachBytes := hw.1
  rw [reach_eq] at a0
  have w0 : w64 (left - (x.1.size : Int)) = left - (x.1.size : Int) := w64_eq (by omega) (by omega)
  by_cases c0 : left - (x.1.size : Int) < 0
  · refine Ev.of fun k => ?_
    simp only [w0, decide_eq_true c0, cond_true]
    rw [sz_bad (by omega)]
  simp only [w0, decide_eq_false c0, cond_false]
  refine Ev.of fun k => ?_
  rw [sz_ok (by omega)]
  congr 2
  try omega
theorem szEntryS_ev (l : List (Ty.den TEntry)) (hw : Wf (.slice TEntry) l) (left : Int) (h0 : 0 ≤ left) (h1 : left ≤ 1048576) : Ev (fun k => laws_szEntryS.f k l left) (sz (weight (.slice TEntry) l) left, ()) :=
  szS'_ev (l := laws_szEntryS.l0) (f := laws_szEntry.f) (fun _ _ _ _ _ => rfl) hw (fun x hx left h0 h1 => szEntry_ev x hx left h0 h1) h0 h1 (fun k => rfl)
theorem szStore_ev (x : Ty.den TStore) (hw : Wf TStore x) (left : Int) (h0 : 0 ≤ left) (h1 : left ≤ 1048576) : Ev (fun k => laws_szStore.f k x left) (sz (weight TStore x) left, ()) := by
  have e : weight TStore x = (weight TLive x.1 + (weight (.slice TEntry) x.2.1 + (0 + (0 + (0 + 0))))) := rfl
  rw [e]
  show Ev (fun k => laws_szStore.t k x left) _
  unfold laws_szStore.t
  refine Ev.bind (szLive_ev x.1 hw.1 (left) (by omega) (by omega)) ?_
  by_cases c0 : ((weight TLive x.1 : Nat) : Int) ≤ left
  case neg =>
    refine Ev.of fun k => ?_
    simp only [sz_bad (show left < ((weight TLive x.1 : Nat) : Int) by omega)]
    rw [sz_bad (by omega)]
    rfl
  have d0 : ¬ (left - ((weight TLive x.1 : Nat) : Int) < 0) := by omega
  simp only [sz_ok c0, decide_eq_false d0, cond_false]
  refine Ev.bind (szEntryS_ev x.2.1 hw.2.1 (left - ((weight TLive x.1 : Nat) : Int)) (by omega) (by omega)) ?_
  by_cases c1 : ((weight (.slice TEntry) x.2.1 : Nat) : Int) ≤ left - ((weight TLive x.1 : Nat) : Int)
  case neg =>
    refine Ev.of fun k => ?_
    simp only [sz_bad (show left - ((weight TLive x.1 : Nat) : Int) < ((weight (.slice TEntry) x.2.1 : Nat) : Int) by omega)]
    rw [sz_bad (by omega)]
    rfl
  have d1 : ¬ (left - ((weight TLive x.1 : Nat) : Int) - ((weight (.slice TEntry) x.2.1 : Nat) : Int) < 0) := by omega
  simp only [sz_ok c1, decide_eq_false d1, cond_false]
  refine Ev.of fun k => ?_
  rw [sz_ok (by omega)]
  congr 2
  try omega
theorem szFile_ev (x : Ty.den TFile) (hw : Wf TFile x) (left : Int) (h0 : 0 ≤ left) (h1 : left ≤ 1048576) : Ev (fun k => laws_szFile.f k x left) (sz (weight TFile x) left, ()) := by
  have e : weight TFile x = (x.1.size + (x.2.1.size + (0 + 0))) := rfl
  rw [e]
  show Ev (fun k => laws_szFile.t k x left) _
  unfold laws_szFile.t
  have a0 : x.1.size ≤ reachBytes := hw.1
  rw [reach_eq] at a0
  have w0 : w64 (left - (x.1.size : Int)) = left - (x.1.size : Int) := w64_eq (by omega) (by omega)
  by_cases c0 : left - (x.1.size : Int) < 0
  · refine Ev.of fun k => ?_
    simp only [w0, decide_eq_true c0, cond_true]
    rw [sz_bad (by omega)]
  simp only [w0, decide_eq_false c0, cond_false]
  have a1 : x.2.1.size ≤ reachBytes := hw.2.1
  rw [reach_eq] at a1
  have w1 : w64 (left - (x.1.size : Int) - (x.2.1.size : Int)) = left - (x.1.size : Int) - (x.2.1.size : Int) := w64_eq (by omega) (by omega)
  by_cases c1 : left - (x.1.size : Int) - (x.2.1.size : Int) < 0
  · refine Ev.of fun k => ?_
    simp only [w1, decide_eq_true c1, cond_true]
    rw [sz_bad (by omega)]
  simp only [w1, decide_eq_false c1, cond_false]
  refine Ev.of fun k => ?_
  rw [sz_ok (by omega)]
  congr 2
  try omega
theorem szFileS_ev (l : List (Ty.den TFile)) (hw : Wf (.slice TFile) l) (left : Int) (h0 : 0 ≤ left) (h1 : left ≤ 1048576) : Ev (fun k => laws_szFileS.f k l left) (sz (weight (.slice TFile) l) left, ()) :=
  szS'_ev (l := laws_szFileS.l0) (f := laws_szFile.f) (fun _ _ _ _ _ => rfl) hw (fun x hx left h0 h1 => szFile_ev x hx left h0 h1) h0 h1 (fun k => rfl)
theorem szDisk_ev (x : Ty.den TDisk) (hw : Wf TDisk x) (left : Int) (h0 : 0 ≤ left) (h1 : left ≤ 1048576) : Ev (fun k => laws_szDisk.f k x left) (sz (weight TDisk x) left, ()) := by
  have e : weight TDisk x = (weight (.slice TFile) x.1 + (0 + (0 + (0 + 0)))) := rfl
  rw [e]
  show Ev (fun k => laws_szDisk.t k x left) _
  unfold laws_szDisk.t
  refine Ev.bind (szFileS_ev x.1 hw.1 (left) (by omega) (by omega)) ?_
  by_cases c0 : ((weight (.slice TFile) x.1 : Nat) : Int) ≤ left
  case neg =>
    refine Ev.of fun k => ?_
    simp only [sz_bad (show left < ((weight (.slice TFile) x.1 : Nat) : Int) by omega)]
    rw [sz_bad (by omega)]
    rfl
  have d0 : ¬ (left - ((weight (.slice TFile) x.1 : Nat) : Int) < 0) := by omega
  simp only [sz_ok c0, decide_eq_false d0, cond_false]
  refine Ev.of fun k => ?_
  rw [sz_ok (by omega)]
  congr 2
  try omega
theorem toIntS_ev (l : List (Ty.den (.int .i64))) (hl : weight (.slice (.int .i64)) l ≤ 1048576) : Ev (fun k => laws_toIntS.f k l) (l, ()) :=
  toS0_ev (t := (.int .i64)) (l := laws_toIntS.l0) (fun _ _ _ _ _ => rfl) (weight_len hl) (by decide) (fun k => rfl)
theorem toLive_ev (x : Ty.den TLive) (hl : weight TLive x ≤ 1048576) : Ev (fun k => laws_toLive.f k x) (x, ()) := by
  have e : weight TLive x = (0 + (weight (.slice (.int .i64)) x.2.1 + 0)) := rfl
  show Ev (fun k => laws_toLive.t k x) _
  unfold laws_toLive.t
  refine Ev.bind (toIntS_ev x.2.1 (by omega)) ?_
  exact Ev.of fun k => rfl
theorem toEntry_ev (x : Ty.den TEntry) (hl : weight TEntry x ≤ 1048576) : Ev (fun k => laws_toEntry.f k x) (x, ()) := by
  have e : weight TEntry x = (x.1.size + (0 + (0 + (0 + (0 + 0))))) := rfl
  show Ev (fun k => laws_toEntry.t k x) _
  unfold laws_toEntry.t
  exact Ev.of fun k => rfl
theorem toEntryS_ev (l : List (Ty.den TEntry)) (hl : weight (.slice TEntry) l ≤ 1048576) : Ev (fun k => laws_toEntryS.f k l) (l, ()) :=
  toS'_ev (l := laws_toEntryS.l0) (f := laws_toEntry.f) (fun _ _ _ _ _ => rfl) (fun x hx => toEntry_ev x hx) hl (by decide) (fun k => rfl)
theorem toStore_ev (x : Ty.den TStore) (hl : weight TStore x ≤ 1048576) : Ev (fun k => laws_toStore.f k x) (x, ()) := by
  have e : weight TStore x = (weight TLive x.1 + (weight (.slice TEntry) x.2.1 + (0 + (0 + (0 + 0))))) := rfl
  show Ev (fun k => laws_toStore.t k x) _
  unfold laws_toStore.t
  refine Ev.bind (toLive_ev x.1 (by omega)) ?_
  refine Ev.bind (toEntryS_ev x.2.1 (by omega)) ?_
  exact Ev.of fun k => rfl
theorem toFile_ev (x : Ty.den TFile) (hl : weight TFile x ≤ 1048576) : Ev (fun k => laws_toFile.f k x) (x, ()) := by
  have e : weight TFile x = (x.1.size + (x.2.1.size + (0 + 0))) := rfl
  show Ev (fun k => laws_toFile.t k x) _
  unfold laws_toFile.t
  exact Ev.of fun k => rfl
theorem toFileS_ev (l : List (Ty.den TFile)) (hl : weight (.slice TFile) l ≤ 1048576) : Ev (fun k => laws_toFileS.f k l) (l, ()) :=
  toS'_ev (l := laws_toFileS.l0) (f := laws_toFile.f) (fun _ _ _ _ _ => rfl) (fun x hx => toFile_ev x hx) hl (by decide) (fun k => rfl)
theorem toDisk_ev (x : Ty.den TDisk) (hl : weight TDisk x ≤ 1048576) : Ev (fun k => laws_toDisk.f k x) (x, ()) := by
  have e : weight TDisk x = (weight (.slice TFile) x.1 + (0 + (0 + (0 + 0)))) := rfl
  show Ev (fun k => laws_toDisk.t k x) _
  unfold laws_toDisk.t
  refine Ev.bind (toFileS_ev x.1 (by omega)) ?_
  exact Ev.of fun k => rfl
theorem eqIntS_ev (l : List (Ty.den (.int .i64))) (hl : wp (.slice (.int .i64)) l ≤ 4398046511104) : Ev (fun k => laws_eqIntS.f k l l) (true, ()) :=
  eqS0_ev (t := (.int .i64)) (l := laws_eqIntS.l0) (c := fun a b => a != b) (fun _ _ _ _ _ => rfl) (fun x => by simp) (wp_len hl) (fun k => rfl)
theorem eqLive_ev (x : Ty.den TLive) (hl : wp TLive x ≤ 4398046511104) : Ev (fun k => laws_eqLive.f k x x) (true, ()) := by
  have e : wp TLive x = (0 + (wp (.slice (.int .i64)) x.2.1 + 0)) := rfl
  show Ev (fun k => laws_eqLive.t k x x) _
  unfold laws_eqLive.t
  simp only [seq_refl, bne_self_eq_false, beq_self_eq_true, Bool.not_true, cond_false]
  refine Ev.bind (eqIntS_ev x.2.1 (by omega)) ?_
  simp only [seq_refl, bne_self_eq_false, beq_self_eq_true, Bool.not_true, cond_false]
  exact Ev.of fun k => rfl
theorem eqEntry_ev (x : Ty.den TEntry) (hl : wp TEntry x ≤ 4398046511104) : Ev (fun k => laws_eqEntry.f k x x) (true, ()) := by
  have e : wp TEntry x = (0 + (0 + (0 + (0 + (0 + 0))))) := rfl
  show Ev (fun k => laws_eqEntry.t k x x) _
  unfold laws_eqEntry.t
  simp only [seq_refl, bne_self_eq_false, beq_self_eq_true, Bool.not_true, cond_false]
  exact Ev.of fun k => rfl
theorem eqEntryS_ev (l : List (Ty.den TEntry)) (hl : wp (.slice TEntry) l ≤ 4398046511104) : Ev (fun k => laws_eqEntryS.f k l l) (true, ()) :=
  eqS'_ev (l := laws_eqEntryS.l0) (f := laws_eqEntry.f) (fun _ _ _ _ _ => rfl) (fun x hx => eqEntry_ev x hx) hl (fun k => rfl)
theorem eqStore_ev (x : Ty.den TStore) (hl : wp TStore x ≤ 4398046511104) : Ev (fun k => laws_eqStore.f k x x) (true, ()) := by
  have e : wp TStore x = (wp TLive x.1 + (wp (.slice TEntry) x.2.1 + (0 + (0 + (0 + 0))))) := rfl
  show Ev (fun k => laws_eqStore.t k x x) _
  unfold laws_eqStore.t
  refine Ev.bind (eqLive_ev x.1 (by omega)) ?_
  simp only [seq_refl, bne_self_eq_false, beq_self_eq_true, Bool.not_true, cond_false]
  refine Ev.bind (eqEntryS_ev x.2.1 (by omega)) ?_
  simp only [seq_refl, bne_self_eq_false, beq_self_eq_true, Bool.not_true, cond_false]
  exact Ev.of fun k => rfl
theorem eqFile_ev (x : Ty.den TFile) (hl : wp TFile x ≤ 4398046511104) : Ev (fun k => laws_eqFile.f k x x) (true, ()) := by
  have e : wp TFile x = (0 + (0 + (0 + 0))) := rfl
  show Ev (fun k => laws_eqFile.t k x x) _
  unfold laws_eqFile.t
  simp only [seq_refl, bne_self_eq_false, beq_self_eq_true, Bool.not_true, cond_false]
  exact Ev.of fun k => rfl
theorem eqFileS_ev (l : List (Ty.den TFile)) (hl : wp (.slice TFile) l ≤ 4398046511104) : Ev (fun k => laws_eqFileS.f k l l) (true, ()) :=
  eqS'_ev (l := laws_eqFileS.l0) (f := laws_eqFile.f) (fun _ _ _ _ _ => rfl) (fun x hx => eqFile_ev x hx) hl (fun k => rfl)
theorem eqDisk_ev (x : Ty.den TDisk) (hl : wp TDisk x ≤ 4398046511104) : Ev (fun k => laws_eqDisk.f k x x) (true, ()) := by
  have e : wp TDisk x = (wp (.slice TFile) x.1 + (0 + (0 + (0 + 0)))) := rfl
  show Ev (fun k => laws_eqDisk.t k x x) _
  unfold laws_eqDisk.t
  refine Ev.bind (eqFileS_ev x.1 (by omega)) ?_
  simp only [seq_refl, bne_self_eq_false, beq_self_eq_true, Bool.not_true, cond_false]
  exact Ev.of fun k => rfl

end Go.Proofs.YtgcahahklmfleaaDoor.G

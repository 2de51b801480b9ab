/- Values are weighed, copied and compared as they should be: plain laws. -/
import Derived.Test.YtgcahahklmfleaaGreatDoorFA
import Derived.Test.YtgcahahklmfleaaGreatDoorVMark
set_option linter.unusedVariables false
set_option linter.unusedSimpArgs false
namespace Go.Proofs.YtgcahahklmfleaaGreatDoor.G
open Go.V
theorem szIntS_ev (l : List (Ty.den (.int .i64))) (hw : Wf (.slice (.int .i64)) l) (left : Int) (h0 : 0 ≤ left) (h1 : left ≤ 1048576) : Ev (fun k => laws_szIntS.f k l left) (sz (weight (.slice (.int .i64)) l) left, ()) :=
  szInt_ev hw h0 h1 (fun k => rfl)
theorem szLive_ev (x : Ty.den TLive) (hw : Wf TLive x) (left : Int) (h0 : 0 ≤ left) (h1 : left ≤ 1048576) : Ev (fun k => laws_szLive.f k x left) (sz (weight TLive x) left, ()) := by
  have e : weight TLive x = (0 + (weight (.slice (.int .i64)) x.2.1 + 0)) := rfl
  rw [e]
  show Ev (fun k => laws_szLive.t k x left) _
  unfold laws_szLive.t
  refine Ev.bind (szIntS_ev x.2.1 hw.2.1 (left) (by omega) (by omega)) ?_
  by_cases c1 : ((weight (.slice (.int .i64)) x.2.1 : Nat) : Int) ≤ left
  case neg =>
    refine Ev.of fun k => ?_
    simp only [sz_bad (show left < ((weight (.slice (.int .i64)) x.2.1 : Nat) : Int) by omega)]
    rw [sz_bad (by omega)]
    rfl
  have d1 : ¬ (left - ((weight (.slice (.int .i64)) x.2.1 : Nat) : Int) < 0) := by omega
  simp only [sz_ok c1, decide_eq_false d1, cond_false]
  refine Ev.of fun k => ?_
  rw [sz_ok (by omega)]
  congr 2
  try omega
theorem szEntry_ev (x : Ty.den TEntry) (hw : Wf TEntry x) (left : Int) (h0 : 0 ≤ left) (h1 : left ≤ 1048576) : Ev (fun k => laws_szEntry.f k x left) (sz (weight TEntry x) left, ()) := by
  have e : weight TEntry x = (x.1.size + (0 + (0 + (0 + (0 + 0))))) := rfl
  rw [e]
  show Ev (fun k => laws_szEntry.t k x left) _
  unfold laws_szEntry.t
  have a0 : x.1.size ≤ reachBytes := hw.1
  rw [reach_eq] at a0
  have w0 : w64 (left - (x.1.size : Int)) = left - (x.1.size : Int) := w64_eq (by omega) (by omega)
  by_cases c0 : left - (x.1.size : Int) < 0
  · refine Ev.of fun k => ?_
    simp only [w0, decide_eq_true c0, cond_true]
    rw [sz_bad (by omega)]
  simp only [w0, decide_eq_false c0, cond_false]
  refine Ev.of fun k => ?_
  rw [sz_ok (by omega)]
  congr 2
  try omega
theorem szEntryS_ev (l : List (Ty.den TEntry)) (hw : Wf (.slice TEntry) l) (left : Int) (h0 : 0 ≤ left) (h1 : left ≤ 1048576) : Ev (fun k => laws_szEntryS.f k l left) (sz (weight (.slice TEntry) l) left, ()) :=
  szS'_ev (l := laws_szEntryS.l0) (f := laws_szEntry.f) (fun _ _ _ _ _ => rfl) hw (fun x hx left h0 h1 => szEntry_ev x hx left h0 h1) h0 h1 (fun k => rfl)
theorem szStore_ev (x : Ty.den TStore) (hw : Wf TStore x) (left : Int) (h0 : 0 ≤ left) (h1 : left ≤ 1048576) : Ev (fun k => laws_szStore.f k x left) (sz (weight TStore x) left, ()) := by
  have e : weight TStore x = (weight TLive x.1 + (weight (.slice TEntry) x.2.1 + (0 + (0 + (0 + 0))))) := rfl
  rw [e]
  show Ev (fun k => laws_szStore.t k x left) _
  unfold laws_szStore.t
  refine Ev.bind (szLive_ev x.1 hw.1 (left) (by omega) (by omega)) ?_
  by_cases c0 : ((weight TLive x.1 : Nat) : Int) ≤ left
  case neg =>
    refine Ev.of fun k => ?_
    simp only [sz_bad (show left < ((weight TLive x.1 : Nat) : Int) by omega)]
    rw [sz_bad (by omega)]
    rfl
  have d0 : ¬ (left - ((weight TLive x.1 : Nat) : Int) < 0) := by omega
  simp only [sz_ok c0, decide_eq_false d0, cond_false]
  refine Ev.bind (szEntryS_ev x.2.1 hw.2.1 (left - ((weight TLive x.1 : Nat) : Int)) (by omega) (by omega)) ?_
  by_cases c1 : ((weight (.slice TEntry) x.2.1 : Nat) : Int) ≤ left - ((weight TLive x.1 : Nat) : Int)
  case neg =>
    refine Ev.of fun k => ?_
    simp only [sz_bad (show left - ((weight TLive x.1 : Nat) : Int) < ((weight (.slice TEntry) x.2.1 : Nat) : Int) by omega)]
    rw [sz_bad (by omega)]
    rfl
  have d1 : ¬ (left - ((weight TLive x.1 : Nat) : Int) - ((weight (.slice TEntry) x.2.1 : Nat) : Int) < 0) := by omega
  simp only [sz_ok c1, decide_eq_false d1, cond_false]
  refine Ev.of fun k => ?_
  rw [sz_ok (by omega)]
  congr 2
  try omega
theorem szFile_ev (x : Ty.den TPair) (hw : Wf TPair x) (left : Int) (h0 : 0 ≤ left) (h1 : left ≤ 1048576) : Ev (fun k => laws_szFile.f k x left) (sz (weight TPair x) left, ()) := by
  have e : weight TPair x = (x.1.size + (x.2.1.size + (0 + 0))) := rfl
  rw [e]
  show Ev (fun k => laws_szFile.t k x left) _
  unfold laws_szFile.t
  have a0 : x.1.size ≤ reachBytes := hw.1
  rw [reach_eq] at a0
  have w0 : w64 (left - (x.1.size : Int)) = left - (x.1.size : Int) := w64_eq (by omega) (by omega)
  by_cases c0 : left - (x.1.size : Int) < 0
  · refine Ev.of fun k => ?_
    simp only [w0, decide_eq_true c0, cond_true]
    rw [sz_bad (by omega)]
  simp only [w0, decide_eq_false c0, cond_false]
  have a1 : x.2.1.size ≤ reachBytes := hw.2.1
  rw [reach_eq] at a1
  have w1 : w64 (left - (x.1.size : Int) - (x.2.1.size : Int)) = left - (x.1.size : Int) - (x.2.1.size : Int) := w64_eq (by omega) (by omega)
  by_cases c1 : left - (x.1.size : Int) - (x.2.1.size : Int) < 0
  · refine Ev.of fun k => ?_
    simp only [w1, decide_eq_true c1, cond_true]
    rw [sz_bad (by omega)]
  simp only [w1, decide_eq_false c1, cond_false]
  refine Ev.of fun k => ?_
  rw [sz_ok (by omega)]
  congr 2
  try omega
theorem szFileS_ev (l : List (Ty.den TPair)) (hw : Wf (.slice TPair) l) (left : Int) (h0 : 0 ≤ left) (h1 : left ≤ 1048576) : Ev (fun k => laws_szFileS.f k l left) (sz (weight (.slice TPair) l) left, ()) :=
  szS'_ev (l := laws_szFileS.l0) (f := laws_szFile.f) (fun _ _ _ _ _ => rfl) hw (fun x hx left h0 h1 => szFile_ev x hx left h0 h1) h0 h1 (fun k => rfl)
theorem szDisk_ev (x : Ty.den TDisk) (hw : Wf TDisk x) (left : Int) (h0 : 0 ≤ left) (h1 : left ≤ 1048576) : Ev (fun k => laws_szDisk.f k x left) (sz (weight TDisk x) left, ()) := by
  have e : weight TDisk x = (weight (.slice TPair) x.1 + (0 + (0 + (0 + 0)))) := rfl
  rw [e]
  show Ev (fun k => laws_szDisk.t k x left) _
  unfold laws_szDisk.t
  refine Ev.bind (szFileS_ev x.1 hw.1 (left) (by omega) (by omega)) ?_
  by_cases c0 : ((weight (.slice TPair) x.1 : Nat) : Int) ≤ left
  case neg =>
    refine Ev.of fun k => ?_
    simp only [sz_bad (show left < ((weight (.slice TPair) x.1 : Nat) : Int) by omega)]
    rw [sz_bad (by omega)]
    rfl
  have d0 : ¬ (left - ((weight (.slice TPair) x.1 : Nat) : Int) < 0) := by omega
  simp only [sz_ok c0, decide_eq_false d0, cond_false]
  refine Ev.of fun k => ?_
  rw [sz_ok (by omega)]
  congr 2
  try omega
theorem toIntS_ev (l : List (Ty.den (.int .i64))) (hl : weight (.slice (.int .i64)) l ≤ 1048576) : Ev (fun k => laws_toIntS.f k l) (l, ()) :=
  toS0_ev (t := (.int .i64)) (l := laws_toIntS.l0) (fun _ _ _ _ _ => rfl) (weight_len hl) (by decide) (fun k => rfl)
theorem toLive_ev (x : Ty.den TLive) (hl : weight TLive x ≤ 1048576) : Ev (fun k => laws_toLive.f k x) (x, ()) := by
  have e : weight TLive x = (0 + (weight (.slice (.int .i64)) x.2.1 + 0)) := rfl
  show Ev (fun k => laws_toLive.t k x) _
  unfold laws_toLive.t
  refine Ev.bind (toIntS_ev x.2.1 (by omega)) ?_
  exact Ev.of fun k => rfl
theorem toEntry_ev (x : Ty.den TEntry) (hl : weight TEntry x ≤ 1048576) : Ev (fun k => laws_toEntry.f k x) (x, ()) := by
  have e : weight TEntry x = (x.1.size + (0 + (0 + (0 + (0 + 0))))) := rfl
  show Ev (fun k => laws_toEntry.t k x) _
  unfold laws_toEntry.t
  exact Ev.of fun k => rfl
theorem toEntryS_ev (l : List (Ty.den TEntry)) (hl : weight (.slice TEntry) l ≤ 1048576) : Ev (fun k => laws_toEntryS.f k l) (l, ()) :=
  toS'_ev (l := laws_toEntryS.l0) (f := laws_toEntry.f) (fun _ _ _ _ _ => rfl) (fun x hx => toEntry_ev x hx) hl (by decide) (fun k => rfl)
theorem toStore_ev (x : Ty.den TStore) (hl : weight TStore x ≤ 1048576) : Ev (fun k => laws_toStore.f k x) (x, ()) := by
  have e : weight TStore x = (weight TLive x.1 + (weight (.slice TEntry) x.2.1 + (0 + (0 + (0 + 0))))) := rfl
  show Ev (fun k => laws_toStore.t k x) _
  unfold laws_toStore.t
  refine Ev.bind (toLive_ev x.1 (by omega)) ?_
  refine Ev.bind (toEntryS_ev x.2.1 (by omega)) ?_
  exact Ev.of fun k => rfl
theorem toFile_ev (x : Ty.den TPair) (hl : weight TPair x ≤ 1048576) : Ev (fun k => laws_toFile.f k x) (x, ()) := by
  have e : weight TPair x = (x.1.size + (x.2.1.size + (0 + 0))) := rfl
  show Ev (fun k => laws_toFile.t k x) _
  unfold laws_toFile.t
  exact Ev.of fun k => rfl
theorem toFileS_ev (l : List (Ty.den TPair)) (hl : weight (.slice TPair) l ≤ 1048576) : Ev (fun k => laws_toFileS.f k l) (l, ()) :=
  toS'_ev (l := laws_toFileS.l0) (f := laws_toFile.f) (fun _ _ _ _ _ => rfl) (fun x hx => toFile_ev x hx) hl (by decide) (fun k => rfl)
theorem toDisk_ev (x : Ty.den TDisk) (hl : weight TDisk x ≤ 1048576) : Ev (fun k => laws_toDisk.f k x) (x, ()) := by
  have e : weight TDisk x = (weight (.slice TPair) x.1 + (0 + (0 + (0 + 0)))) := rfl
  show Ev (fun k => laws_toDisk.t k x) _
  unfold laws_toDisk.t
  refine Ev.bind (toFileS_ev x.1 (by omega)) ?_
  exact Ev.of fun k => rfl
theorem eqIntS_ev (l : List (Ty.den (.int .i64))) (hl : wp (.slice (.int .i64)) l ≤ 4398046511104) : Ev (fun k => laws_eqIntS.f k l l) (true, ()) :=
  eqS0_ev (t := (.int .i64)) (l := laws_eqIntS.l0) (c := fun a b => a != b) (fun _ _ _ _ _ => rfl) (fun x => by simp) (wp_len hl) (fun k => rfl)
theorem eqLive_ev (x : Ty.den TLive) (hl : wp TLive x ≤ 4398046511104) : Ev (fun k => laws_eqLive.f k x x) (true, ()) := by
  have e : wp TLive x = (0 + (wp (.slice (.int .i64)) x.2.1 + 0)) := rfl
  show Ev (fun k => laws_eqLive.t k x x) _
  unfold laws_eqLive.t
  simp only [seq_refl, bne_self_eq_false, beq_self_eq_true, Bool.not_true, cond_false]
  refine Ev.bind (eqIntS_ev x.2.1 (by omega)) ?_
  simp only [seq_refl, bne_self_eq_false, beq_self_eq_true, Bool.not_true, cond_false]
  exact Ev.of fun k => rfl
theorem eqEntry_ev (x : Ty.den TEntry) (hl : wp TEntry x ≤ 4398046511104) : Ev (fun k => laws_eqEntry.f k x x) (true, ()) := by
  have e : wp TEntry x = (0 + (0 + (0 + (0 + (0 + 0))))) := rfl
  show Ev (fun k => laws_eqEntry.t k x x) _
  unfold laws_eqEntry.t
  simp only [seq_refl, bne_self_eq_false, beq_self_eq_true, Bool.not_true, cond_false]
  exact Ev.of fun k => rfl
theorem eqEntryS_ev (l : List (Ty.den TEntry)) (hl : wp (.slice TEntry) l ≤ 4398046511104) : Ev (fun k => laws_eqEntryS.f k l l) (true, ()) :=
  eqS'_ev (l := laws_eqEntryS.l0) (f := laws_eqEntry.f) (fun _ _ _ _ _ => rfl) (fun x hx => eqEntry_ev x hx) hl (fun k => rfl)
theorem eqStore_ev (x : Ty.den TStore) (hl : wp TStore x ≤ 4398046511104) : Ev (fun k => laws_eqStore.f k x x) (true, ()) := by
  have e : wp TStore x = (wp TLive x.1 + (wp (.slice TEntry) x.2.1 + (0 + (0 + (0 + 0))))) := rfl
  show Ev (fun k => laws_eqStore.t k x x) _
  unfold laws_eqStore.t
  refine Ev.bind (eqLive_ev x.1 (by omega)) ?_
  simp only [seq_refl, bne_self_eq_false, beq_self_eq_true, Bool.not_true, cond_false]
  refine Ev.bind (eqEntryS_ev x.2.1 (by omega)) ?_
  simp only [seq_refl, bne_self_eq_false, beq_self_eq_true, Bool.not_true, cond_false]
  exact Ev.of fun k => rfl
theorem eqFile_ev (x : Ty.den TPair) (hl : wp TPair x ≤ 4398046511104) : Ev (fun k => laws_eqFile.f k x x) (true, ()) := by
  have e : wp TPair x = (0 + (0 + (0 + 0))) := rfl
  show Ev (fun k => laws_eqFile.t k x x) _
  unfold laws_eqFile.t
  simp only [seq_refl, bne_self_eq_false, beq_self_eq_true, Bool.not_true, cond_false]
  exact Ev.of fun k => rfl
theorem eqFileS_ev (l : List (Ty.den TPair)) (hl : wp (.slice TPair) l ≤ 4398046511104) : Ev (fun k => laws_eqFileS.f k l l) (true, ()) :=
  eqS'_ev (l := laws_eqFileS.l0) (f := laws_eqFile.f) (fun _ _ _ _ _ => rfl) (fun x hx => eqFile_ev x hx) hl (fun k => rfl)
theorem eqDisk_ev (x : Ty.den TDisk) (hl : wp TDisk x ≤ 4398046511104) : Ev (fun k => laws_eqDisk.f k x x) (true, ()) := by
  have e : wp TDisk x = (wp (.slice TPair) x.1 + (0 + (0 + (0 + 0)))) := rfl
  show Ev (fun k => laws_eqDisk.t k x x) _
  unfold laws_eqDisk.t
  refine Ev.bind (eqFileS_ev x.1 (by omega)) ?_
  simp only [seq_refl, bne_self_eq_false, beq_self_eq_true, Bool.not_true, cond_false]
  exact Ev.of fun k => rfl
theorem szPiece_ev (x : Ty.den TPiece) (hw : Wf TPiece x) (left : Int) (h0 : 0 ≤ left) (h1 : left ≤ 1048576) : Ev (fun k => laws_szPiece.f k x left) (sz (weight TPiece x) left, ()) := by
  have e : weight TPiece x = (0 + (x.2.1.size + 0)) := rfl
  rw [e]
  show Ev (fun k => laws_szPiece.t k x left) _
  unfold laws_szPiece.t
  have a1 : x.2.1.size ≤ reachBytes := hw.2.1
  rw [reach_eq] at a1
  have w1 : w64 (left - (x.2.1.size : Int)) = left - (x.2.1.size : Int) := w64_eq (by omega) (by omega)
  by_cases c1 : left - (x.2.1.size : Int) < 0
  · refine Ev.of fun k => ?_
    simp only [w1, decide_eq_true c1, cond_true]
    rw [sz_bad (by omega)]
  simp only [w1, decide_eq_false c1, cond_false]
  refine Ev.of fun k => ?_
  rw [sz_ok (by omega)]
  congr 2
  try omega
theorem szPieceS_ev (l : List (Ty.den TPiece)) (hw : Wf (.slice TPiece) l) (left : Int) (h0 : 0 ≤ left) (h1 : left ≤ 1048576) : Ev (fun k => laws_szPieceS.f k l left) (sz (weight (.slice TPiece) l) left, ()) :=
  szS'_ev (l := laws_szPieceS.l0) (f := laws_szPiece.f) (fun _ _ _ _ _ => rfl) hw (fun x hx left h0 h1 => szPiece_ev x hx left h0 h1) h0 h1 (fun k => rfl)
theorem szFollower_ev (x : Ty.den TFollower) (hw : Wf TFollower x) (left : Int) (h0 : 0 ≤ left) (h1 : left ≤ 1048576) : Ev (fun k => laws_szFollower.f k x left) (sz (weight TFollower x) left, ()) := by
  have e : weight TFollower x = (0 + (weight (.slice TPiece) x.2.1 + 0)) := rfl
  rw [e]
  show Ev (fun k => laws_szFollower.t k x left) _
  unfold laws_szFollower.t
  refine Ev.bind (szPieceS_ev x.2.1 hw.2.1 (left) (by omega) (by omega)) ?_
  by_cases c1 : ((weight (.slice TPiece) x.2.1 : Nat) : Int) ≤ left
  case neg =>
    refine Ev.of fun k => ?_
    simp only [sz_bad (show left < ((weight (.slice TPiece) x.2.1 : Nat) : Int) by omega)]
    rw [sz_bad (by omega)]
    rfl
  have d1 : ¬ (left - ((weight (.slice TPiece) x.2.1 : Nat) : Int) < 0) := by omega
  simp only [sz_ok c1, decide_eq_false d1, cond_false]
  refine Ev.of fun k => ?_
  rw [sz_ok (by omega)]
  congr 2
  try omega
theorem toPiece_ev (x : Ty.den TPiece) (hl : weight TPiece x ≤ 1048576) : Ev (fun k => laws_toPiece.f k x) (x, ()) := by
  have e : weight TPiece x = (0 + (x.2.1.size + 0)) := rfl
  show Ev (fun k => laws_toPiece.t k x) _
  unfold laws_toPiece.t
  exact Ev.of fun k => rfl
theorem toPieceS_ev (l : List (Ty.den TPiece)) (hl : weight (.slice TPiece) l ≤ 1048576) : Ev (fun k => laws_toPieceS.f k l) (l, ()) :=
  toS'_ev (l := laws_toPieceS.l0) (f := laws_toPiece.f) (fun _ _ _ _ _ => rfl) (fun x hx => toPiece_ev x hx) hl (by decide) (fun k => rfl)
theorem toFollower_ev (x : Ty.den TFollower) (hl : weight TFollower x ≤ 1048576) : Ev (fun k => laws_toFollower.f k x) (x, ()) := by
  have e : weight TFollower x = (0 + (weight (.slice TPiece) x.2.1 + 0)) := rfl
  show Ev (fun k => laws_toFollower.t k x) _
  unfold laws_toFollower.t
  refine Ev.bind (toPieceS_ev x.2.1 (by omega)) ?_
  exact Ev.of fun k => rfl
theorem eqBit_ev (x : Ty.den TBit) (hl : wp TBit x ≤ 4398046511104) : Ev (fun k => laws_eqBit.f k x x) (true, ()) := by
  have e : wp TBit x = (0 + (0 + (0 + 0))) := rfl
  show Ev (fun k => laws_eqBit.t k x x) _
  unfold laws_eqBit.t
  simp only [seq_refl, bne_self_eq_false, beq_self_eq_true, Bool.not_true, cond_false]
  exact Ev.of fun k => rfl
theorem eqBitS_ev (l : List (Ty.den TBit)) (hl : wp (.slice TBit) l ≤ 4398046511104) : Ev (fun k => laws_eqBitS.f k l l) (true, ()) :=
  eqS'_ev (l := laws_eqBitS.l0) (f := laws_eqBit.f) (fun _ _ _ _ _ => rfl) (fun x hx => eqBit_ev x hx) hl (fun k => rfl)
theorem eqParcel_ev (x : Ty.den TParcel) (hl : wp TParcel x ≤ 4398046511104) : Ev (fun k => laws_eqParcel.f k x x) (true, ()) := by
  have e : wp TParcel x = (0 + (wp (.slice TBit) x.2.1 + 0)) := rfl
  show Ev (fun k => laws_eqParcel.t k x x) _
  unfold laws_eqParcel.t
  simp only [seq_refl, bne_self_eq_false, beq_self_eq_true, Bool.not_true, cond_false]
  refine Ev.bind (eqBitS_ev x.2.1 (by omega)) ?_
  simp only [seq_refl, bne_self_eq_false, beq_self_eq_true, Bool.not_true, cond_false]
  exact Ev.of fun k => rfl
theorem eqPiece_ev (x : Ty.den TPiece) (hl : wp TPiece x ≤ 4398046511104) : Ev (fun k => laws_eqPiece.f k x x) (true, ()) := by
  have e : wp TPiece x = (0 + (0 + 0)) := rfl
  show Ev (fun k => laws_eqPiece.t k x x) _
  unfold laws_eqPiece.t
  simp only [seq_refl, bne_self_eq_false, beq_self_eq_true, Bool.not_true, cond_false]
  exact Ev.of fun k => rfl
theorem eqPieceS_ev (l : List (Ty.den TPiece)) (hl : wp (.slice TPiece) l ≤ 4398046511104) : Ev (fun k => laws_eqPieceS.f k l l) (true, ()) :=
  eqS'_ev (l := laws_eqPieceS.l0) (f := laws_eqPiece.f) (fun _ _ _ _ _ => rfl) (fun x hx => eqPiece_ev x hx) hl (fun k => rfl)
theorem eqFollower_ev (x : Ty.den TFollower) (hl : wp TFollower x ≤ 4398046511104) : Ev (fun k => laws_eqFollower.f k x x) (true, ()) := by
  have e : wp TFollower x = (0 + (wp (.slice TPiece) x.2.1 + 0)) := rfl
  show Ev (fun k => laws_eqFollower.t k x x) _
  unfold laws_eqFollower.t
  simp only [seq_refl, bne_self_eq_false, beq_self_eq_true, Bool.not_true, cond_false]
  refine Ev.bind (eqPieceS_ev x.2.1 (by omega)) ?_
  simp only [seq_refl, bne_self_eq_false, beq_self_eq_true, Bool.not_true, cond_false]
  exact Ev.of fun k => rfl
theorem markText_ev (a : Int) (h : a ≤ 1125899906842624) : Ev (fun k => laws_markText.f k a) (mt a, ()) :=
  mt_ev (l := laws_markText.l0) (fun _ _ _ _ => rfl) (fun _ => rfl) h
def MIntS (kk : Int) (x : Int) : Int := kk
def mkIntS (kk : Int) (l : List (Int)) : List (Int) := marked (t := (.int .i64)) MIntS 1 kk l
theorem markIntS_ev (l : List (Int)) (hl : l.length ≤ 4398046511104) (kk : Int) (h0 : 0 ≤ kk) (h1 : kk ≤ 140737488355328) : Ev (fun k => laws_markIntS.f k l kk) (mkIntS kk l, (kk + (1 : Nat) * (l.length : Int), ())) := by
  have round : ∀ (a0 : List (Int)) (a1 kk : Int) (i : Nat) (xs : List (Int)), i < xs.length → xs.length ≤ 4398046511104 → 0 ≤ kk → kk ≤ 562949953421312 → ∀ r,
      Ev2 (fun k n => laws_markIntS.l0 k a0 a1 n (kk + (1 : Nat)) ((i + 1 : Nat) : Int) (xs.set i (MIntS kk (xs.getD i (Ty.dflt (.int .i64)))))) r → Ev2 (fun k n => laws_markIntS.l0 k a0 a1 n kk (i : Int) xs) r := by
    intro a0 a1 kk i xs hi hl h0 h1 r hr
    refine Ev2.step (b := fun k n => laws_markIntS.b0 k a0 a1 (laws_markIntS.l0 k a0 a1 n) kk i xs) (fun k n => rfl) ?_
    have hi2 : (i : Int) < (xs.length : Int) := by omega
    have hs : w64 ((i : Int) + 1) = ((i + 1 : Nat) : Int) := by rw [w64_eq (by omega) (by omega)]; rfl
    have w1 : w64 (kk + 1) = kk + 1 := w64_eq (by omega) (by omega)
    unfold laws_markIntS.b0
    simp only [decide_eq_true hi2, cond_true, hs, w1]
    try simp only [w1, inb_eq (Int.natCast_nonneg i) hi2, List.length_set, toNat_ofNat, getD_set_self (t := (.int .i64)) (xs := xs) hi, List.set_set]
    rw [show kk + ((1 : Nat) : Int) = kk + 1 by omega] at hr
    exact hr
  have := (markS_ev (t := (.int .i64)) (l := fun k n => laws_markIntS.l0 k l kk n) (M := MIntS) (c := 1) (round l kk) (fun kk' i xs h => by
    refine Ev2.step (b := fun k n => laws_markIntS.b0 k l kk (laws_markIntS.l0 k l kk n) kk' i xs) (fun k n => rfl) (Ev2.of fun k n => ?_)
    unfold laws_markIntS.b0
    rw [decide_eq_false (by omega), cond_false]) l.length 0 kk l (by omega) (by omega) hl h0 (by omega)).diag
  exact this
def mkLive (kk : Int) (x : Ty.den TLive) : Ty.den TLive := (x.1, (mkIntS (kk) x.2.1, x.2.2))
def ctLive (x : Ty.den TLive) : Int := 0 + (1 : Nat) * (x.2.1.length : Int)
theorem ctLive_le (x : Ty.den TLive) : 0 ≤ ctLive x ∧ ctLive x ≤ 16 * (wp TLive x : Int) := by
  have e : wp TLive x = (0 + (wp (.slice (.int .i64)) x.2.1 + 0)) := rfl
  have b0 : x.2.1.length ≤ wp (.slice (.int .i64)) x.2.1 := wp_len (t := (.int .i64)) (Nat.le_refl _)
  unfold ctLive
  omega
theorem markLive_ev (x : Ty.den TLive) (hl : wp TLive x ≤ 4398046511104) (kk : Int) (h0 : 0 ≤ kk) (h1 : kk ≤ 35184372088832) : Ev (fun k => laws_markLive.f k x kk) (mkLive kk x, (kk + ctLive x, ())) := by
  have e : wp TLive x = (0 + (wp (.slice (.int .i64)) x.2.1 + 0)) := rfl
  have b0 : x.2.1.length ≤ 4398046511104 := wp_len (t := (.int .i64)) (l := x.2.1) (by omega)
  show Ev (fun k => laws_markLive.t k x kk) _
  unfold laws_markLive.t
  refine Ev.bind (markIntS_ev x.2.1 b0 (kk) (by omega) (by omega)) ?_
  rw [show kk + ctLive x = kk + (1 : Nat) * (x.2.1.length : Int) by unfold ctLive; omega]
  exact Ev.of fun k => rfl
def MEntryS (kk : Int) (x : Ty.den TEntry) : Ty.den TEntry := (mt (kk), (kk + 1, (kk + 1 + 1, (kk + 1 + 1 + 1, (kk + 1 + 1 + 1 + 1, x.2.2.2.2.2)))))
def mkEntryS (kk : Int) (l : List (Ty.den TEntry)) : List (Ty.den TEntry) := marked (t := TEntry) MEntryS 5 kk l
theorem markEntryS_ev (l : List (Ty.den TEntry)) (hl : l.length ≤ 4398046511104) (kk : Int) (h0 : 0 ≤ kk) (h1 : kk ≤ 140737488355328) : Ev (fun k => laws_markEntryS.f k l kk) (mkEntryS kk l, (kk + (5 : Nat) * (l.length : Int), ())) := by
  have round : ∀ (a0 : List (Ty.den TEntry)) (a1 kk : Int) (i : Nat) (xs : List (Ty.den TEntry)), i < xs.length → xs.length ≤ 4398046511104 → 0 ≤ kk → kk ≤ 562949953421312 → ∀ r,
      Ev2 (fun k n => laws_markEntryS.l0 k a0 a1 n (kk + (5 : Nat)) ((i + 1 : Nat) : Int) (xs.set i (MEntryS kk (xs.getD i (Ty.dflt TEntry))))) r → Ev2 (fun k n => laws_markEntryS.l0 k a0 a1 n kk (i : Int) xs) r := by
    intro a0 a1 kk i xs hi hl h0 h1 r hr
    refine Ev2.step (b := fun k n => laws_markEntryS.b0 k a0 a1 (laws_markEntryS.l0 k a0 a1 n) kk i xs) (fun k n => rfl) ?_
    have hi2 : (i : Int) < (xs.length : Int) := by omega
    have hs : w64 ((i : Int) + 1) = ((i + 1 : Nat) : Int) := by rw [w64_eq (by omega) (by omega)]; rfl
    have w1 : w64 (kk + 1) = kk + 1 := w64_eq (by omega) (by omega)
    have w2 : w64 (kk + 1 + 1) = kk + 1 + 1 := w64_eq (by omega) (by omega)
    have w3 : w64 (kk + 1 + 1 + 1) = kk + 1 + 1 + 1 := w64_eq (by omega) (by omega)
    have w4 : w64 (kk + 1 + 1 + 1 + 1) = kk + 1 + 1 + 1 + 1 := w64_eq (by omega) (by omega)
    have w5 : w64 (kk + 1 + 1 + 1 + 1 + 1) = kk + 1 + 1 + 1 + 1 + 1 := w64_eq (by omega) (by omega)
    unfold laws_markEntryS.b0
    simp only [decide_eq_true hi2, cond_true, hs, w1, w2, w3, w4, w5]
    try simp only [w1, w2, w3, w4, w5, inb_eq (Int.natCast_nonneg i) hi2, List.length_set, toNat_ofNat, getD_set_self (t := TEntry) (xs := xs) hi, List.set_set]
    refine Ev2.bind (markText_ev (kk) (by omega)) ?_
    try simp only [w1, w2, w3, w4, w5, inb_eq (Int.natCast_nonneg i) hi2, List.length_set, toNat_ofNat, getD_set_self (t := TEntry) (xs := xs) hi, List.set_set]
    rw [show kk + ((5 : Nat) : Int) = kk + 1 + 1 + 1 + 1 + 1 by omega] at hr
    exact hr
  have := (markS_ev (t := TEntry) (l := fun k n => laws_markEntryS.l0 k l kk n) (M := MEntryS) (c := 5) (round l kk) (fun kk' i xs h => by
    refine Ev2.step (b := fun k n => laws_markEntryS.b0 k l kk (laws_markEntryS.l0 k l kk n) kk' i xs) (fun k n => rfl) (Ev2.of fun k n => ?_)
    unfold laws_markEntryS.b0
    rw [decide_eq_false (by omega), cond_false]) l.length 0 kk l (by omega) (by omega) hl h0 (by omega)).diag
  exact this
def mkStore (kk : Int) (x : Ty.den TStore) : Ty.den TStore := (mkLive (kk) x.1, (mkEntryS (kk + ctLive x.1) x.2.1, (x.2.2.1, (x.2.2.2.1, (x.2.2.2.2.1, x.2.2.2.2.2)))))
def ctStore (x : Ty.den TStore) : Int := 0 + ctLive x.1 + (5 : Nat) * (x.2.1.length : Int)
theorem ctStore_le (x : Ty.den TStore) : 0 ≤ ctStore x ∧ ctStore x ≤ 16 * (wp TStore x : Int) := by
  have e : wp TStore x = (wp TLive x.1 + (wp (.slice TEntry) x.2.1 + (0 + (0 + (0 + 0))))) := rfl
  have b0 := ctLive_le x.1
  have b1 : x.2.1.length ≤ wp (.slice TEntry) x.2.1 := wp_len (t := TEntry) (Nat.le_refl _)
  unfold ctStore
  omega
theorem markStore_ev (x : Ty.den TStore) (hl : wp TStore x ≤ 4398046511104) (kk : Int) (h0 : 0 ≤ kk) (h1 : kk ≤ 35184372088832) : Ev (fun k => laws_markStore.f k x kk) (mkStore kk x, (kk + ctStore x, ())) := by
  have e : wp TStore x = (wp TLive x.1 + (wp (.slice TEntry) x.2.1 + (0 + (0 + (0 + 0))))) := rfl
  have b0 := ctLive_le x.1
  have b1 : x.2.1.length ≤ 4398046511104 := wp_len (t := TEntry) (l := x.2.1) (by omega)
  show Ev (fun k => laws_markStore.t k x kk) _
  unfold laws_markStore.t
  refine Ev.bind (markLive_ev x.1 (by omega) (kk) (by omega) (by omega)) ?_
  refine Ev.bind (markEntryS_ev x.2.1 b1 (kk + ctLive x.1) (by omega) (by omega)) ?_
  rw [show kk + ctStore x = kk + ctLive x.1 + (5 : Nat) * (x.2.1.length : Int) by unfold ctStore; omega]
  exact Ev.of fun k => rfl
def MFileS (kk : Int) (x : Ty.den TPair) : Ty.den TPair := (mt (kk), (mt (kk + 1), (kk + 1 + 1, x.2.2.2)))
def mkFileS (kk : Int) (l : List (Ty.den TPair)) : List (Ty.den TPair) := marked (t := TPair) MFileS 3 kk l
theorem markFileS_ev (l : List (Ty.den TPair)) (hl : l.length ≤ 4398046511104) (kk : Int) (h0 : 0 ≤ kk) (h1 : kk ≤ 140737488355328) : Ev (fun k => laws_markFileS.f k l kk) (mkFileS kk l, (kk + (3 : Nat) * (l.length : Int), ())) := by
  have round : ∀ (a0 : List (Ty.den TPair)) (a1 kk : Int) (i : Nat) (xs : List (Ty.den TPair)), i < xs.length → xs.length ≤ 4398046511104 → 0 ≤ kk → kk ≤ 562949953421312 → ∀ r,
      Ev2 (fun k n => laws_markFileS.l0 k a0 a1 n (kk + (3 : Nat)) ((i + 1 : Nat) : Int) (xs.set i (MFileS kk (xs.getD i (Ty.dflt TPair))))) r → Ev2 (fun k n => laws_markFileS.l0 k a0 a1 n kk (i : Int) xs) r := by
    intro a0 a1 kk i xs hi hl h0 h1 r hr
    refine Ev2.step (b := fun k n => laws_markFileS.b0 k a0 a1 (laws_markFileS.l0 k a0 a1 n) kk i xs) (fun k n => rfl) ?_
    have hi2 : (i : Int) < (xs.length : Int) := by omega
    have hs : w64 ((i : Int) + 1) = ((i + 1 : Nat) : Int) := by rw [w64_eq (by omega) (by omega)]; rfl
    have w1 : w64 (kk + 1) = kk + 1 := w64_eq (by omega) (by omega)
    have w2 : w64 (kk + 1 + 1) = kk + 1 + 1 := w64_eq (by omega) (by omega)
    have w3 : w64 (kk + 1 + 1 + 1) = kk + 1 + 1 + 1 := w64_eq (by omega) (by omega)
    unfold laws_markFileS.b0
    simp only [decide_eq_true hi2, cond_true, hs, w1, w2, w3]
    try simp only [w1, w2, w3, inb_eq (Int.natCast_nonneg i) hi2, List.length_set, toNat_ofNat, getD_set_self (t := TPair) (xs := xs) hi, List.set_set]
    refine Ev2.bind (markText_ev (kk) (by omega)) ?_
    try simp only [w1, w2, w3, inb_eq (Int.natCast_nonneg i) hi2, List.length_set, toNat_ofNat, getD_set_self (t := TPair) (xs := xs) hi, List.set_set]
    refine Ev2.bind (markText_ev (kk + 1) (by omega)) ?_
    try simp only [w1, w2, w3, inb_eq (Int.natCast_nonneg i) hi2, List.length_set, toNat_ofNat, getD_set_self (t := TPair) (xs := xs) hi, List.set_set]
    rw [show kk + ((3 : Nat) : Int) = kk + 1 + 1 + 1 by omega] at hr
    exact hr
  have := (markS_ev (t := TPair) (l := fun k n => laws_markFileS.l0 k l kk n) (M := MFileS) (c := 3) (round l kk) (fun kk' i xs h => by
    refine Ev2.step (b := fun k n => laws_markFileS.b0 k l kk (laws_markFileS.l0 k l kk n) kk' i xs) (fun k n => rfl) (Ev2.of fun k n => ?_)
    unfold laws_markFileS.b0
    rw [decide_eq_false (by omega), cond_false]) l.length 0 kk l (by omega) (by omega) hl h0 (by omega)).diag
  exact this
def mkDisk (kk : Int) (x : Ty.den TDisk) : Ty.den TDisk := (mkFileS (kk) x.1, (x.2.1, (x.2.2.1, (x.2.2.2.1, x.2.2.2.2))))
def ctDisk (x : Ty.den TDisk) : Int := 0 + (3 : Nat) * (x.1.length : Int)
theorem ctDisk_le (x : Ty.den TDisk) : 0 ≤ ctDisk x ∧ ctDisk x ≤ 16 * (wp TDisk x : Int) := by
  have e : wp TDisk x = (wp (.slice TPair) x.1 + (0 + (0 + (0 + 0)))) := rfl
  have b0 : x.1.length ≤ wp (.slice TPair) x.1 := wp_len (t := TPair) (Nat.le_refl _)
  unfold ctDisk
  omega
theorem markDisk_ev (x : Ty.den TDisk) (hl : wp TDisk x ≤ 4398046511104) (kk : Int) (h0 : 0 ≤ kk) (h1 : kk ≤ 35184372088832) : Ev (fun k => laws_markDisk.f k x kk) (mkDisk kk x, (kk + ctDisk x, ())) := by
  have e : wp TDisk x = (wp (.slice TPair) x.1 + (0 + (0 + (0 + 0)))) := rfl
  have b0 : x.1.length ≤ 4398046511104 := wp_len (t := TPair) (l := x.1) (by omega)
  show Ev (fun k => laws_markDisk.t k x kk) _
  unfold laws_markDisk.t
  refine Ev.bind (markFileS_ev x.1 b0 (kk) (by omega) (by omega)) ?_
  rw [show kk + ctDisk x = kk + (3 : Nat) * (x.1.length : Int) by unfold ctDisk; omega]
  exact Ev.of fun k => rfl
def MPieceS (kk : Int) (x : Ty.den TPiece) : Ty.den TPiece := (kk, (mt (kk + 1), x.2.2))
def mkPieceS (kk : Int) (l : List (Ty.den TPiece)) : List (Ty.den TPiece) := marked (t := TPiece) MPieceS 2 kk l
theorem markPieceS_ev (l : List (Ty.den TPiece)) (hl : l.length ≤ 4398046511104) (kk : Int) (h0 : 0 ≤ kk) (h1 : kk ≤ 140737488355328) : Ev (fun k => laws_markPieceS.f k l kk) (mkPieceS kk l, (kk + (2 : Nat) * (l.length : Int), ())) := by
  have round : ∀ (a0 : List (Ty.den TPiece)) (a1 kk : Int) (i : Nat) (xs : List (Ty.den TPiece)), i < xs.length → xs.length ≤ 4398046511104 → 0 ≤ kk → kk ≤ 562949953421312 → ∀ r,
      Ev2 (fun k n => laws_markPieceS.l0 k a0 a1 n (kk + (2 : Nat)) ((i + 1 : Nat) : Int) (xs.set i (MPieceS kk (xs.getD i (Ty.dflt TPiece))))) r → Ev2 (fun k n => laws_markPieceS.l0 k a0 a1 n kk (i : Int) xs) r := by
    intro a0 a1 kk i xs hi hl h0 h1 r hr
    refine Ev2.step (b := fun k n => laws_markPieceS.b0 k a0 a1 (laws_markPieceS.l0 k a0 a1 n) kk i xs) (fun k n => rfl) ?_
    have hi2 : (i : Int) < (xs.length : Int) := by omega
    have hs : w64 ((i : Int) + 1) = ((i + 1 : Nat) : Int) := by rw [w64_eq (by omega) (by omega)]; rfl
    have w1 : w64 (kk + 1) = kk + 1 := w64_eq (by omega) (by omega)
    have w2 : w64 (kk + 1 + 1) = kk + 1 + 1 := w64_eq (by omega) (by omega)
    unfold laws_markPieceS.b0
    simp only [decide_eq_true hi2, cond_true, hs, w1, w2]
    try simp only [w1, w2, inb_eq (Int.natCast_nonneg i) hi2, List.length_set, toNat_ofNat, getD_set_self (t := TPiece) (xs := xs) hi, List.set_set]
    refine Ev2.bind (markText_ev (kk + 1) (by omega)) ?_
    try simp only [w1, w2, inb_eq (Int.natCast_nonneg i) hi2, List.length_set, toNat_ofNat, getD_set_self (t := TPiece) (xs := xs) hi, List.set_set]
    rw [show kk + ((2 : Nat) : Int) = kk + 1 + 1 by omega] at hr
    exact hr
  have := (markS_ev (t := TPiece) (l := fun k n => laws_markPieceS.l0 k l kk n) (M := MPieceS) (c := 2) (round l kk) (fun kk' i xs h => by
    refine Ev2.step (b := fun k n => laws_markPieceS.b0 k l kk (laws_markPieceS.l0 k l kk n) kk' i xs) (fun k n => rfl) (Ev2.of fun k n => ?_)
    unfold laws_markPieceS.b0
    rw [decide_eq_false (by omega), cond_false]) l.length 0 kk l (by omega) (by omega) hl h0 (by omega)).diag
  exact this
def mkFollower (kk : Int) (x : Ty.den TFollower) : Ty.den TFollower := (x.1, (mkPieceS (kk) x.2.1, x.2.2))
def ctFollower (x : Ty.den TFollower) : Int := 0 + (2 : Nat) * (x.2.1.length : Int)
theorem ctFollower_le (x : Ty.den TFollower) : 0 ≤ ctFollower x ∧ ctFollower x ≤ 16 * (wp TFollower x : Int) := by
  have e : wp TFollower x = (0 + (wp (.slice TPiece) x.2.1 + 0)) := rfl
  have b0 : x.2.1.length ≤ wp (.slice TPiece) x.2.1 := wp_len (t := TPiece) (Nat.le_refl _)
  unfold ctFollower
  omega
theorem markFollower_ev (x : Ty.den TFollower) (hl : wp TFollower x ≤ 4398046511104) (kk : Int) (h0 : 0 ≤ kk) (h1 : kk ≤ 35184372088832) : Ev (fun k => laws_markFollower.f k x kk) (mkFollower kk x, (kk + ctFollower x, ())) := by
  have e : wp TFollower x = (0 + (wp (.slice TPiece) x.2.1 + 0)) := rfl
  have b0 : x.2.1.length ≤ 4398046511104 := wp_len (t := TPiece) (l := x.2.1) (by omega)
  show Ev (fun k => laws_markFollower.t k x kk) _
  unfold laws_markFollower.t
  refine Ev.bind (markPieceS_ev x.2.1 b0 (kk) (by omega) (by omega)) ?_
  rw [show kk + ctFollower x = kk + (2 : Nat) * (x.2.1.length : Int) by unfold ctFollower; omega]
  exact Ev.of fun k => rfl
def MBitS (kk : Int) (x : Ty.den TBit) : Ty.den TBit := (kk, (kk + 1, (mt (kk + 1 + 1), x.2.2.2)))
def mkBitS (kk : Int) (l : List (Ty.den TBit)) : List (Ty.den TBit) := marked (t := TBit) MBitS 3 kk l
theorem markBitS_ev (l : List (Ty.den TBit)) (hl : l.length ≤ 4398046511104) (kk : Int) (h0 : 0 ≤ kk) (h1 : kk ≤ 140737488355328) : Ev (fun k => laws_markBitS.f k l kk) (mkBitS kk l, (kk + (3 : Nat) * (l.length : Int), ())) := by
  have round : ∀ (a0 : List (Ty.den TBit)) (a1 kk : Int) (i : Nat) (xs : List (Ty.den TBit)), i < xs.length → xs.length ≤ 4398046511104 → 0 ≤ kk → kk ≤ 562949953421312 → ∀ r,
      Ev2 (fun k n => laws_markBitS.l0 k a0 a1 n (kk + (3 : Nat)) ((i + 1 : Nat) : Int) (xs.set i (MBitS kk (xs.getD i (Ty.dflt TBit))))) r → Ev2 (fun k n => laws_markBitS.l0 k a0 a1 n kk (i : Int) xs) r := by
    intro a0 a1 kk i xs hi hl h0 h1 r hr
    refine Ev2.step (b := fun k n => laws_markBitS.b0 k a0 a1 (laws_markBitS.l0 k a0 a1 n) kk i xs) (fun k n => rfl) ?_
    have hi2 : (i : Int) < (xs.length : Int) := by omega
    have hs : w64 ((i : Int) + 1) = ((i + 1 : Nat) : Int) := by rw [w64_eq (by omega) (by omega)]; rfl
    have w1 : w64 (kk + 1) = kk + 1 := w64_eq (by omega) (by omega)
    have w2 : w64 (kk + 1 + 1) = kk + 1 + 1 := w64_eq (by omega) (by omega)
    have w3 : w64 (kk + 1 + 1 + 1) = kk + 1 + 1 + 1 := w64_eq (by omega) (by omega)
    unfold laws_markBitS.b0
    simp only [decide_eq_true hi2, cond_true, hs, w1, w2, w3]
    try simp only [w1, w2, w3, inb_eq (Int.natCast_nonneg i) hi2, List.length_set, toNat_ofNat, getD_set_self (t := TBit) (xs := xs) hi, List.set_set]
    refine Ev2.bind (markText_ev (kk + 1 + 1) (by omega)) ?_
    try simp only [w1, w2, w3, inb_eq (Int.natCast_nonneg i) hi2, List.length_set, toNat_ofNat, getD_set_self (t := TBit) (xs := xs) hi, List.set_set]
    rw [show kk + ((3 : Nat) : Int) = kk + 1 + 1 + 1 by omega] at hr
    exact hr
  have := (markS_ev (t := TBit) (l := fun k n => laws_markBitS.l0 k l kk n) (M := MBitS) (c := 3) (round l kk) (fun kk' i xs h => by
    refine Ev2.step (b := fun k n => laws_markBitS.b0 k l kk (laws_markBitS.l0 k l kk n) kk' i xs) (fun k n => rfl) (Ev2.of fun k n => ?_)
    unfold laws_markBitS.b0
    rw [decide_eq_false (by omega), cond_false]) l.length 0 kk l (by omega) (by omega) hl h0 (by omega)).diag
  exact this
def mkParcel (kk : Int) (x : Ty.den TParcel) : Ty.den TParcel := (x.1, (mkBitS (kk) x.2.1, x.2.2))
def ctParcel (x : Ty.den TParcel) : Int := 0 + (3 : Nat) * (x.2.1.length : Int)
theorem ctParcel_le (x : Ty.den TParcel) : 0 ≤ ctParcel x ∧ ctParcel x ≤ 16 * (wp TParcel x : Int) := by
  have e : wp TParcel x = (0 + (wp (.slice TBit) x.2.1 + 0)) := rfl
  have b0 : x.2.1.length ≤ wp (.slice TBit) x.2.1 := wp_len (t := TBit) (Nat.le_refl _)
  unfold ctParcel
  omega
theorem markParcel_ev (x : Ty.den TParcel) (hl : wp TParcel x ≤ 4398046511104) (kk : Int) (h0 : 0 ≤ kk) (h1 : kk ≤ 35184372088832) : Ev (fun k => laws_markParcel.f k x kk) (mkParcel kk x, (kk + ctParcel x, ())) := by
  have e : wp TParcel x = (0 + (wp (.slice TBit) x.2.1 + 0)) := rfl
  have b0 : x.2.1.length ≤ 4398046511104 := wp_len (t := TBit) (l := x.2.1) (by omega)
  show Ev (fun k => laws_markParcel.t k x kk) _
  unfold laws_markParcel.t
  refine Ev.bind (markBitS_ev x.2.1 b0 (kk) (by omega) (by omega)) ?_
  rw [show kk + ctParcel x = kk + (3 : Nat) * (x.2.1.length : Int) by unfold ctParcel; omega]
  exact Ev.of fun k => rfl
theorem heldBitS_ev (xs : List (Ty.den TBit)) (hl : xs.length ≤ 4398046511104) (kk : Int) (h0 : 0 ≤ kk) (h1 : kk ≤ 140737488355328) (hM : ∀ j, 0 ≤ j → j < xs.length → ∃ y, xs.getD j (Ty.dflt TBit) = MBitS (kk + (3 : Nat) * ((j - 0 : Nat) : Int)) y) :
    Ev (fun k => laws_heldBitS.f k xs kk) (kk + (3 : Nat) * (xs.length : Int), ()) := by
  have := (heldS_ev (t := TBit) (l := laws_heldBitS.l0) (M := MBitS) (c := 3) (xs := xs) hl (fun kk i hi h0 h1 hy r hr => by
    obtain ⟨y, hy⟩ := hy
    refine Ev2.step (b := fun k n => laws_heldBitS.b0 k (laws_heldBitS.l0 k n) xs kk i) (fun k n => rfl) ?_
    have hi2 : (i : Int) < (xs.length : Int) := by omega
    have hy2 : List.getD xs i (Ty.dflt TBit) = MBitS kk y := hy
    have hs : w64 ((i : Int) + 1) = ((i + 1 : Nat) : Int) := by rw [w64_eq (by omega) (by omega)]; rfl
    have w1 : w64 (kk + 1) = kk + 1 := w64_eq (by omega) (by omega)
    have w2 : w64 (kk + 1 + 1) = kk + 1 + 1 := w64_eq (by omega) (by omega)
    have w3 : w64 (kk + 1 + 1 + 1) = kk + 1 + 1 + 1 := w64_eq (by omega) (by omega)
    unfold laws_heldBitS.b0
    simp only [decide_eq_true hi2, cond_true, hs, w1, w2, w3]
    try simp only [w1, w2, w3, inb_eq (Int.natCast_nonneg i) hi2, toNat_ofNat, hy2, MBitS, seq_refl, bne_self_eq_false, beq_self_eq_true, Bool.not_true, cond_false]
    refine Ev2.bind (markText_ev (kk + 1 + 1) (by omega)) ?_
    try simp only [w1, w2, w3, inb_eq (Int.natCast_nonneg i) hi2, toNat_ofNat, hy2, MBitS, seq_refl, bne_self_eq_false, beq_self_eq_true, Bool.not_true, cond_false]
    rw [show kk + ((3 : Nat) : Int) = kk + 1 + 1 + 1 by omega] at hr
    exact hr) (fun kk i h => by
    refine Ev2.step (b := fun k n => laws_heldBitS.b0 k (laws_heldBitS.l0 k n) xs kk i) (fun k n => rfl) (Ev2.of fun k n => ?_)
    unfold laws_heldBitS.b0
    rw [decide_eq_false (by omega), cond_false]) xs.length 0 kk (by omega) (by omega) h0 (by omega) hM).diag
  exact this
theorem heldBitS_mk (l : List (Ty.den TBit)) (hl : l.length ≤ 4398046511104) (kk : Int) (h0 : 0 ≤ kk) (h1 : kk ≤ 140737488355328) : Ev (fun k => laws_heldBitS.f k (mkBitS kk l) kk) (kk + (3 : Nat) * (l.length : Int), ()) := by
  have := heldBitS_ev (mkBitS kk l) (by unfold mkBitS; rw [marked_len]; exact hl) kk h0 h1 (marked_held (t := TBit))
  unfold mkBitS at this ⊢
  rw [marked_len] at this
  exact this
theorem heldParcel_mk (x : Ty.den TParcel) (hl : wp TParcel x ≤ 4398046511104) (kk : Int) (h0 : 0 ≤ kk) (h1 : kk ≤ 35184372088832) : Ev (fun k => laws_heldParcel.f k (mkParcel kk x) kk) (kk + ctParcel x, ()) := by
  have e : wp TParcel x = (0 + (wp (.slice TBit) x.2.1 + 0)) := rfl
  have b0 : x.2.1.length ≤ 4398046511104 := wp_len (t := TBit) (l := x.2.1) (by omega)
  show Ev (fun k => laws_heldParcel.t k (mkParcel kk x) kk) _
  unfold laws_heldParcel.t
  refine Ev.bind (heldBitS_mk x.2.1 b0 (kk) (by omega) (by omega)) ?_
  have c0 : ¬ (kk + (3 : Nat) * (x.2.1.length : Int) < 0) := by omega
  simp only [decide_eq_false c0, cond_false]
  rw [show kk + ctParcel x = kk + (3 : Nat) * (x.2.1.length : Int) by unfold ctParcel; omega]
  exact Ev.of fun k => rfl
end Go.Proofs.YtgcahahklmfleaaGreatDoor.G

/- Values are weighed, copied and compared as they should be: plain laws. -/
import Derived.Test.YtejgkmhpmhfnbaaGreatDoorFB
import Derived.Test.YtejgkmhpmhfnbaaGreatDoorVMark
set_option linter.unusedVariables false
set_option linter.unusedSimpArgs false
namespace Go.Proofs.YtejgkmhpmhfnbaaGreatDoor.G
open Go.V
theorem szFile_ev (x : Ty.den TPair) (hw : Wf TPair x) (left : Int) (h0 : 0 ≤ left) (h1 : left ≤ 1048576) : Ev (fun k => laws_szFile.f k x left) (sz (weight TPair x) left, ()) := by
  have e : weight TPair x = (x.1.size + (x.2.1.size + (0 + 0))) := rfl
  rw [e]
  show Ev (fun k => laws_szFile.t k x left) _
  unfold laws_szFile.t
  have a0 : x.1.size ≤ reachBytes := hw.1
  rw [reach_eq] at a0
  have w0 : w64 (left - (x.1.size : Int)) = left - (x.1.size : Int) := w64_eq (by omega) (by omega)
  by_cases c0 : left - (x.1.size : Int) < 0
  · refine Ev.of fun k => ?_
    simp only [w0, decide_eq_true c0, cond_true]
    rw [sz_bad (by omega)]
  simp only [w0, decide_eq_false c0, cond_false]
  have a1 : x.2.1.size ≤ reachBytes := hw.2.1
  rw [reach_eq] at a1
  have w1 : w64 (left - (x.1.size : Int) - (x.2.1.size : Int)) = left - (x.1.size : Int) - (x.2.1.size : Int) := w64_eq (by omega) (by omega)
  by_cases c1 : left - (x.1.size : Int) - (x.2.1.size : Int) < 0
  · refine Ev.of fun k => ?_
    simp only [w1, decide_eq_true c1, cond_true]
    rw [sz_bad (by omega)]
  simp only [w1, decide_eq_false c1, cond_false]
  refine Ev.of fun k => ?_
  rw [sz_ok (by omega)]
  congr 2
  try omega
theorem szFileS_ev (l : List (Ty.den TPair)) (hw : Wf (.slice TPair) l) (left : Int) (h0 : 0 ≤ left) (h1 : left ≤ 1048576) : Ev (fun k => laws_szFileS.f k l left) (sz (weight (.slice TPair) l) left, ()) :=
  szS'_ev (l := laws_szFileS.l0) (f := laws_szFile.f) (fun _ _ _ _ _ => rfl) hw (fun x hx left h0 h1 => szFile_ev x hx left h0 h1) h0 h1 (fun k => rfl)
theorem szDisk_ev (x : Ty.den TDisk) (hw : Wf TDisk x) (left : Int) (h0 : 0 ≤ left) (h1 : left ≤ 1048576) : Ev (fun k => laws_szDisk.f k x left) (sz (weight TDisk x) left, ()) := by
  have e : weight TDisk x = (weight (.slice TPair) x.1 + (0 + (0 + (0 + 0)))) := rfl
  rw [e]
  show Ev (fun k => laws_szDisk.t k x left) _
  unfold laws_szDisk.t
  refine Ev.bind (szFileS_ev x.1 hw.1 (left) (by omega) (by omega)) ?_
  by_cases c0 : ((weight (.slice TPair) x.1 : Nat) : Int) ≤ left
  case neg =>
    refine Ev.of fun k => ?_
    simp only [sz_bad (show left < ((weight (.slice TPair) x.1 : Nat) : Int) by omega)]
    rw [sz_bad (by omega)]
    rfl
  have d0 : ¬ (left - ((weight (.slice TPair) x.1 : Nat) : Int) < 0) := by omega
  simp only [sz_ok c0, decide_eq_false d0, cond_false]
  refine Ev.of fun k => ?_
  rw [sz_ok (by omega)]
  congr 2
  try omega
theorem toFile_ev (x : Ty.den TPair) (hl : weight TPair x ≤ 1048576) : Ev (fun k => laws_toFile.f k x) (x, ()) := by
  have e : weight TPair x = (x.1.size + (x.2.1.size + (0 + 0))) := rfl
  show Ev (fun k => laws_toFile.t k x) _
  unfold laws_toFile.t
  exact Ev.of fun k => rfl
theorem toFileS_ev (l : List (Ty.den TPair)) (hl : weight (.slice TPair) l ≤ 1048576) : Ev (fun k => laws_toFileS.f k l) (l, ()) :=
  toS'_ev (l := laws_toFileS.l0) (f := laws_toFile.f) (fun _ _ _ _ _ => rfl) (fun x hx => toFile_ev x hx) hl (by decide) (fun k => rfl)
theorem toDisk_ev (x : Ty.den TDisk) (hl : weight TDisk x ≤ 1048576) : Ev (fun k => laws_toDisk.f k x) (x, ()) := by
  have e : weight TDisk x = (weight (.slice TPair) x.1 + (0 + (0 + (0 + 0)))) := rfl
  show Ev (fun k => laws_toDisk.t k x) _
  unfold laws_toDisk.t
  refine Ev.bind (toFileS_ev x.1 (by omega)) ?_
  exact Ev.of fun k => rfl
theorem toIntS_ev (l : List (Ty.den (.int .i64))) (hl : weight (.slice (.int .i64)) l ≤ 1048576) : Ev (fun k => laws_toIntS.f k l) (l, ()) :=
  toS0_ev (t := (.int .i64)) (l := laws_toIntS.l0) (fun _ _ _ _ _ => rfl) (weight_len hl) (by decide) (fun k => rfl)
theorem eqPair_ev (x : Ty.den TPair) (hl : wp TPair x ≤ 4398046511104) : Ev (fun k => laws_eqPair.f k x x) (true, ()) := by
  have e : wp TPair x = (0 + (0 + (0 + 0))) := rfl
  show Ev (fun k => laws_eqPair.t k x x) _
  unfold laws_eqPair.t
  simp only [seq_refl, bne_self_eq_false, beq_self_eq_true, Bool.not_true, cond_false]
  exact Ev.of fun k => rfl
theorem eqPairS_ev (l : List (Ty.den TPair)) (hl : wp (.slice TPair) l ≤ 4398046511104) : Ev (fun k => laws_eqPairS.f k l l) (true, ()) :=
  eqS'_ev (l := laws_eqPairS.l0) (f := laws_eqPair.f) (fun _ _ _ _ _ => rfl) (fun x hx => eqPair_ev x hx) hl (fun k => rfl)
theorem eqFile_ev (x : Ty.den TPair) (hl : wp TPair x ≤ 4398046511104) : Ev (fun k => laws_eqFile.f k x x) (true, ()) := by
  have e : wp TPair x = (0 + (0 + (0 + 0))) := rfl
  show Ev (fun k => laws_eqFile.t k x x) _
  unfold laws_eqFile.t
  simp only [seq_refl, bne_self_eq_false, beq_self_eq_true, Bool.not_true, cond_false]
  exact Ev.of fun k => rfl
theorem eqFileS_ev (l : List (Ty.den TPair)) (hl : wp (.slice TPair) l ≤ 4398046511104) : Ev (fun k => laws_eqFileS.f k l l) (true, ()) :=
  eqS'_ev (l := laws_eqFileS.l0) (f := laws_eqFile.f) (fun _ _ _ _ _ => rfl) (fun x hx => eqFile_ev x hx) hl (fun k => rfl)
theorem eqDisk_ev (x : Ty.den TDisk) (hl : wp TDisk x ≤ 4398046511104) : Ev (fun k => laws_eqDisk.f k x x) (true, ()) := by
  have e : wp TDisk x = (wp (.slice TPair) x.1 + (0 + (0 + (0 + 0)))) := rfl
  show Ev (fun k => laws_eqDisk.t k x x) _
  unfold laws_eqDisk.t
  refine Ev.bind (eqFileS_ev x.1 (by omega)) ?_
  simp only [seq_refl, bne_self_eq_false, beq_self_eq_true, Bool.not_true, cond_false]
  exact Ev.of fun k => rfl
theorem eqIntS_ev (l : List (Ty.den (.int .i64))) (hl : wp (.slice (.int .i64)) l ≤ 4398046511104) : Ev (fun k => laws_eqIntS.f k l l) (true, ()) :=
  eqS0_ev (t := (.int .i64)) (l := laws_eqIntS.l0) (c := fun a b => a != b) (fun _ _ _ _ _ => rfl) (fun x => by simp) (wp_len hl) (fun k => rfl)
theorem markText_ev (a : Int) (h : a ≤ 1125899906842624) : Ev (fun k => laws_markText.f k a) (mt a, ()) :=
  mt_ev (l := laws_markText.l0) (fun _ _ _ _ => rfl) (fun _ => rfl) h
def MFileS (kk : Int) (x : Ty.den TPair) : Ty.den TPair := (mt (kk), (mt (kk + 1), (kk + 1 + 1, x.2.2.2)))
def mkFileS (kk : Int) (l : List (Ty.den TPair)) : List (Ty.den TPair) := marked (t := TPair) MFileS 3 kk l
theorem markFileS_ev (l : List (Ty.den TPair)) (hl : l.length ≤ 4398046511104) (kk : Int) (h0 : 0 ≤ kk) (h1 : kk ≤ 140737488355328) : Ev (fun k => laws_markFileS.f k l kk) (mkFileS kk l, (kk + (3 : Nat) * (l.length : Int), ())) := by
  have round : ∀ (a0 : List (Ty.den TPair)) (a1 kk : Int) (i : Nat) (xs : List (Ty.den TPair)), i < xs.length → xs.length ≤ 4398046511104 → 0 ≤ kk → kk ≤ 562949953421312 → ∀ r,
      Ev2 (fun k n => laws_markFileS.l0 k a0 a1 n (kk + (3 : Nat)) ((i + 1 : Nat) : Int) (xs.set i (MFileS kk (xs.getD i (Ty.dflt TPair))))) r → Ev2 (fun k n => laws_markFileS.l0 k a0 a1 n kk (i : Int) xs) r := by
    intro a0 a1 kk i xs hi hl h0 h1 r hr
    refine Ev2.step (b := fun k n => laws_markFileS.b0 k a0 a1 (laws_markFileS.l0 k a0 a1 n) kk i xs) (fun k n => rfl) ?_
    have hi2 : (i : Int) < (xs.length : Int) := by omega
    have hs : w64 ((i : Int) + 1) = ((i + 1 : Nat) : Int) := by rw [w64_eq (by omega) (by omega)]; rfl
    have w1 : w64 (kk + 1) = kk + 1 := w64_eq (by omega) (by omega)
    have w2 : w64 (kk + 1 + 1) = kk + 1 + 1 := w64_eq (by omega) (by omega)
    have w3 : w64 (kk + 1 + 1 + 1) = kk + 1 + 1 + 1 := w64_eq (by omega) (by omega)
    unfold laws_markFileS.b0
    simp only [decide_eq_true hi2, cond_true, hs, w1, w2, w3]
    try simp only [w1, w2, w3, inb_eq (Int.natCast_nonneg i) hi2, List.length_set, toNat_ofNat, getD_set_self (t := TPair) (xs := xs) hi, List.set_set]
    refine Ev2.bind (markText_ev (kk) (by omega)) ?_
    try simp only [w1, w2, w3, inb_eq (Int.natCast_nonneg i) hi2, List.length_set, toNat_ofNat, getD_set_self (t := TPair) (xs := xs) hi, List.set_set]
    refine Ev2.bind (markText_ev (kk + 1) (by omega)) ?_
    try simp only [w1, w2, w3, inb_eq (Int.natCast_nonneg i) hi2, List.length_set, toNat_ofNat, getD_set_self (t := TPair) (xs := xs) hi, List.set_set]
    rw [show kk + ((3 : Nat) : Int) = kk + 1 + 1 + 1 by omega] at hr
    exact hr
  have := (markS_ev (t := TPair) (l := fun k n => laws_markFileS.l0 k l kk n) (M := MFileS) (c := 3) (round l kk) (fun kk' i xs h => by
    refine Ev2.step (b := fun k n => laws_markFileS.b0 k l kk (laws_markFileS.l0 k l kk n) kk' i xs) (fun k n => rfl) (Ev2.of fun k n => ?_)
    unfold laws_markFileS.b0
    rw [decide_eq_false (by omega), cond_false]) l.length 0 kk l (by omega) (by omega) hl h0 (by omega)).diag
  exact this
def mkDisk (kk : Int) (x : Ty.den TDisk) : Ty.den TDisk := (mkFileS (kk) x.1, (x.2.1, (x.2.2.1, (x.2.2.2.1, x.2.2.2.2))))
def ctDisk (x : Ty.den TDisk) : Int := 0 + (3 : Nat) * (x.1.length : Int)
theorem ctDisk_le (x : Ty.den TDisk) : 0 ≤ ctDisk x ∧ ctDisk x ≤ 16 * (wp TDisk x : Int) := by
  have e : wp TDisk x = (wp (.slice TPair) x.1 + (0 + (0 + (0 + 0)))) := rfl
  have b0 : x.1.length ≤ wp (.slice TPair) x.1 := wp_len (t := TPair) (Nat.le_refl _)
  unfold ctDisk
  omega
theorem markDisk_ev (x : Ty.den TDisk) (hl : wp TDisk x ≤ 4398046511104) (kk : Int) (h0 : 0 ≤ kk) (h1 : kk ≤ 35184372088832) : Ev (fun k => laws_markDisk.f k x kk) (mkDisk kk x, (kk + ctDisk x, ())) := by
  have e : wp TDisk x = (wp (.slice TPair) x.1 + (0 + (0 + (0 + 0)))) := rfl
  have b0 : x.1.length ≤ 4398046511104 := wp_len (t := TPair) (l := x.1) (by omega)
  show Ev (fun k => laws_markDisk.t k x kk) _
  unfold laws_markDisk.t
  refine Ev.bind (markFileS_ev x.1 b0 (kk) (by omega) (by omega)) ?_
  rw [show kk + ctDisk x = kk + (3 : Nat) * (x.1.length : Int) by unfold ctDisk; omega]
  exact Ev.of fun k => rfl
def MIntS (kk : Int) (x : Int) : Int := kk
def mkIntS (kk : Int) (l : List (Int)) : List (Int) := marked (t := (.int .i64)) MIntS 1 kk l
theorem markIntS_ev (l : List (Int)) (hl : l.length ≤ 4398046511104) (kk : Int) (h0 : 0 ≤ kk) (h1 : kk ≤ 140737488355328) : Ev (fun k => laws_markIntS.f k l kk) (mkIntS kk l, (kk + (1 : Nat) * (l.length : Int), ())) := by
  have round : ∀ (a0 : List (Int)) (a1 kk : Int) (i : Nat) (xs : List (Int)), i < xs.length → xs.length ≤ 4398046511104 → 0 ≤ kk → kk ≤ 562949953421312 → ∀ r,
      Ev2 (fun k n => laws_markIntS.l0 k a0 a1 n (kk + (1 : Nat)) ((i + 1 : Nat) : Int) (xs.set i (MIntS kk (xs.getD i (Ty.dflt (.int .i64)))))) r → Ev2 (fun k n => laws_markIntS.l0 k a0 a1 n kk (i : Int) xs) r := by
    intro a0 a1 kk i xs hi hl h0 h1 r hr
    refine Ev2.step (b := fun k n => laws_markIntS.b0 k a0 a1 (laws_markIntS.l0 k a0 a1 n) kk i xs) (fun k n => rfl) ?_
    have hi2 : (i : Int) < (xs.length : Int) := by omega
    have hs : w64 ((i : Int) + 1) = ((i + 1 : Nat) : Int) := by rw [w64_eq (by omega) (by omega)]; rfl
    have w1 : w64 (kk + 1) = kk + 1 := w64_eq (by omega) (by omega)
    unfold laws_markIntS.b0
    simp only [decide_eq_true hi2, cond_true, hs, w1]
    try simp only [w1, inb_eq (Int.natCast_nonneg i) hi2, List.length_set, toNat_ofNat, getD_set_self (t := (.int .i64)) (xs := xs) hi, List.set_set]
    rw [show kk + ((1 : Nat) : Int) = kk + 1 by omega] at hr
    exact hr
  have := (markS_ev (t := (.int .i64)) (l := fun k n => laws_markIntS.l0 k l kk n) (M := MIntS) (c := 1) (round l kk) (fun kk' i xs h => by
    refine Ev2.step (b := fun k n => laws_markIntS.b0 k l kk (laws_markIntS.l0 k l kk n) kk' i xs) (fun k n => rfl) (Ev2.of fun k n => ?_)
    unfold laws_markIntS.b0
    rw [decide_eq_false (by omega), cond_false]) l.length 0 kk l (by omega) (by omega) hl h0 (by omega)).diag
  exact this
def MPairS (kk : Int) (x : Ty.den TPair) : Ty.den TPair := (mt (kk), (mt (kk + 1), (kk + 1 + 1, x.2.2.2)))
def mkPairS (kk : Int) (l : List (Ty.den TPair)) : List (Ty.den TPair) := marked (t := TPair) MPairS 3 kk l
theorem markPairS_ev (l : List (Ty.den TPair)) (hl : l.length ≤ 4398046511104) (kk : Int) (h0 : 0 ≤ kk) (h1 : kk ≤ 140737488355328) : Ev (fun k => laws_markPairS.f k l kk) (mkPairS kk l, (kk + (3 : Nat) * (l.length : Int), ())) := by
  have round : ∀ (a0 : List (Ty.den TPair)) (a1 kk : Int) (i : Nat) (xs : List (Ty.den TPair)), i < xs.length → xs.length ≤ 4398046511104 → 0 ≤ kk → kk ≤ 562949953421312 → ∀ r,
      Ev2 (fun k n => laws_markPairS.l0 k a0 a1 n (kk + (3 : Nat)) ((i + 1 : Nat) : Int) (xs.set i (MPairS kk (xs.getD i (Ty.dflt TPair))))) r → Ev2 (fun k n => laws_markPairS.l0 k a0 a1 n kk (i : Int) xs) r := by
    intro a0 a1 kk i xs hi hl h0 h1 r hr
    refine Ev2.step (b := fun k n => laws_markPairS.b0 k a0 a1 (laws_markPairS.l0 k a0 a1 n) kk i xs) (fun k n => rfl) ?_
    have hi2 : (i : Int) < (xs.length : Int) := by omega
    have hs : w64 ((i : Int) + 1) = ((i + 1 : Nat) : Int) := by rw [w64_eq (by omega) (by omega)]; rfl
    have w1 : w64 (kk + 1) = kk + 1 := w64_eq (by omega) (by omega)
    have w2 : w64 (kk + 1 + 1) = kk + 1 + 1 := w64_eq (by omega) (by omega)
    have w3 : w64 (kk + 1 + 1 + 1) = kk + 1 + 1 + 1 := w64_eq (by omega) (by omega)
    unfold laws_markPairS.b0
    simp only [decide_eq_true hi2, cond_true, hs, w1, w2, w3]
    try simp only [w1, w2, w3, inb_eq (Int.natCast_nonneg i) hi2, List.length_set, toNat_ofNat, getD_set_self (t := TPair) (xs := xs) hi, List.set_set]
    refine Ev2.bind (markText_ev (kk) (by omega)) ?_
    try simp only [w1, w2, w3, inb_eq (Int.natCast_nonneg i) hi2, List.length_set, toNat_ofNat, getD_set_self (t := TPair) (xs := xs) hi, List.set_set]
    refine Ev2.bind (markText_ev (kk + 1) (by omega)) ?_
    try simp only [w1, w2, w3, inb_eq (Int.natCast_nonneg i) hi2, List.length_set, toNat_ofNat, getD_set_self (t := TPair) (xs := xs) hi, List.set_set]
    rw [show kk + ((3 : Nat) : Int) = kk + 1 + 1 + 1 by omega] at hr
    exact hr
  have := (markS_ev (t := TPair) (l := fun k n => laws_markPairS.l0 k l kk n) (M := MPairS) (c := 3) (round l kk) (fun kk' i xs h => by
    refine Ev2.step (b := fun k n => laws_markPairS.b0 k l kk (laws_markPairS.l0 k l kk n) kk' i xs) (fun k n => rfl) (Ev2.of fun k n => ?_)
    unfold laws_markPairS.b0
    rw [decide_eq_false (by omega), cond_false]) l.length 0 kk l (by omega) (by omega) hl h0 (by omega)).diag
  exact this
theorem heldPairS_ev (xs : List (Ty.den TPair)) (hl : xs.length ≤ 4398046511104) (kk : Int) (h0 : 0 ≤ kk) (h1 : kk ≤ 140737488355328) (hM : ∀ j, 0 ≤ j → j < xs.length → ∃ y, xs.getD j (Ty.dflt TPair) = MPairS (kk + (3 : Nat) * ((j - 0 : Nat) : Int)) y) :
    Ev (fun k => laws_heldPairS.f k xs kk) (kk + (3 : Nat) * (xs.length : Int), ()) := by
  have := (heldS_ev (t := TPair) (l := laws_heldPairS.l0) (M := MPairS) (c := 3) (xs := xs) hl (fun kk i hi h0 h1 hy r hr => by
    obtain ⟨y, hy⟩ := hy
    refine Ev2.step (b := fun k n => laws_heldPairS.b0 k (laws_heldPairS.l0 k n) xs kk i) (fun k n => rfl) ?_
    have hi2 : (i : Int) < (xs.length : Int) := by omega
    have hy2 : List.getD xs i (Ty.dflt TPair) = MPairS kk y := hy
    have hs : w64 ((i : Int) + 1) = ((i + 1 : Nat) : Int) := by rw [w64_eq (by omega) (by omega)]; rfl
    have w1 : w64 (kk + 1) = kk + 1 := w64_eq (by omega) (by omega)
    have w2 : w64 (kk + 1 + 1) = kk + 1 + 1 := w64_eq (by omega) (by omega)
    have w3 : w64 (kk + 1 + 1 + 1) = kk + 1 + 1 + 1 := w64_eq (by omega) (by omega)
    unfold laws_heldPairS.b0
    simp only [decide_eq_true hi2, cond_true, hs, w1, w2, w3]
    try simp only [w1, w2, w3, inb_eq (Int.natCast_nonneg i) hi2, toNat_ofNat, hy2, MPairS, seq_refl, bne_self_eq_false, beq_self_eq_true, Bool.not_true, cond_false]
    refine Ev2.bind (markText_ev (kk) (by omega)) ?_
    try simp only [w1, w2, w3, inb_eq (Int.natCast_nonneg i) hi2, toNat_ofNat, hy2, MPairS, seq_refl, bne_self_eq_false, beq_self_eq_true, Bool.not_true, cond_false]
    refine Ev2.bind (markText_ev (kk + 1) (by omega)) ?_
    try simp only [w1, w2, w3, inb_eq (Int.natCast_nonneg i) hi2, toNat_ofNat, hy2, MPairS, seq_refl, bne_self_eq_false, beq_self_eq_true, Bool.not_true, cond_false]
    rw [show kk + ((3 : Nat) : Int) = kk + 1 + 1 + 1 by omega] at hr
    exact hr) (fun kk i h => by
    refine Ev2.step (b := fun k n => laws_heldPairS.b0 k (laws_heldPairS.l0 k n) xs kk i) (fun k n => rfl) (Ev2.of fun k n => ?_)
    unfold laws_heldPairS.b0
    rw [decide_eq_false (by omega), cond_false]) xs.length 0 kk (by omega) (by omega) h0 (by omega) hM).diag
  exact this
theorem heldPairS_mk (l : List (Ty.den TPair)) (hl : l.length ≤ 4398046511104) (kk : Int) (h0 : 0 ≤ kk) (h1 : kk ≤ 140737488355328) : Ev (fun k => laws_heldPairS.f k (mkPairS kk l) kk) (kk + (3 : Nat) * (l.length : Int), ()) := by
  have := heldPairS_ev (mkPairS kk l) (by unfold mkPairS; rw [marked_len]; exact hl) kk h0 h1 (marked_held (t := TPair))
  unfold mkPairS at this ⊢
  rw [marked_len] at this
  exact this
end Go.Proofs.YtejgkmhpmhfnbaaGreatDoor.G

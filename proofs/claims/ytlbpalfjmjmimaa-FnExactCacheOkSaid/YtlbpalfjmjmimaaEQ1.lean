/- Values are weighed, copied and compared as they should be: plain laws. -/
import Derived.Test.YtlbpalfjmjmimaaFQ1
import Derived.Test.YtlbpalfjmjmimaaVPure
set_option linter.unusedVariables false
set_option linter.unusedSimpArgs false
namespace Go.Proofs.Ytlbpalfjmjmimaa.G
open Go.V
theorem szPair_ev (x : Ty.den TPair) (hw : Wf TPair x) (left : Int) (h0 : 0 ≤ left) (h1 : left ≤ 1048576) : Ev (fun k => laws_szPair.f k x left) (sz (weight TPair x) left, ()) := by
  have e : weight TPair x = (x.1.size + (x.2.1.size + (0 + 0))) := rfl
  rw [e]
  show Ev (fun k => laws_szPair.t k x left) _
  unfold laws_szPair.t
  have a0 : x.1.size ≤ reachBytes := hw.1
  rw [reach_eq] at a0
  have w0 : w64 (left - (x.1.size : Int)) = left - (x.1.size : Int) := w64_eq (by omega) (by omega)
  by_cases c0 : left - (x.1.size : Int) < 0
  · refine Ev.of fun k => ?_
    simp only [w0, decide_eq_true c0, cond_true]
    rw [sz_bad (by omega)]
  simp only [w0, decide_eq_false c0, cond_false]
  have a1 : x.2.1.size ≤ reachBytes := hw.2.1
  rw [reach_eq] at a1
  have w1 : w64 (left - (x.1.size : Int) - (x.2.1.size : Int)) = left - (x.1.size : Int) - (x.2.1.size : Int) := w64_eq (by omega) (by omega)
  by_cases c1 : left - (x.1.size : Int) - (x.2.1.size : Int) < 0
  · refine Ev.of fun k => ?_
    simp only [w1, decide_eq_true c1, cond_true]
    rw [sz_bad (by omega)]
  simp only [w1, decide_eq_false c1, cond_false]
  refine Ev.of fun k => ?_
  rw [sz_ok (by omega)]
  congr 2
  omega
theorem szPairS_ev (l : List (Ty.den TPair)) (hw : Wf (.slice TPair) l) (left : Int) (h0 : 0 ≤ left) (h1 : left ≤ 1048576) : Ev (fun k => laws_szPairS.f k l left) (sz (weight (.slice TPair) l) left, ()) :=
  szS'_ev (l := laws_szPairS.l0) (f := laws_szPair.f) (fun _ _ _ _ _ => rfl) hw (fun x hx left h0 h1 => szPair_ev x hx left h0 h1) h0 h1 (fun k => rfl)
theorem toPair_ev (x : Ty.den TPair) (hl : weight TPair x ≤ 1048576) : Ev (fun k => laws_toPair.f k x) (x, ()) := by
  have e : weight TPair x = (x.1.size + (x.2.1.size + (0 + 0))) := rfl
  show Ev (fun k => laws_toPair.t k x) _
  unfold laws_toPair.t
  exact Ev.of fun k => rfl
theorem toPairS_ev (l : List (Ty.den TPair)) (hl : weight (.slice TPair) l ≤ 1048576) : Ev (fun k => laws_toPairS.f k l) (l, ()) :=
  toS'_ev (l := laws_toPairS.l0) (f := laws_toPair.f) (fun _ _ _ _ _ => rfl) (fun x hx => toPair_ev x hx) hl (by decide) (fun k => rfl)
theorem eqPair_ev (x : Ty.den TPair) (hl : weight TPair x ≤ 1048576) : Ev (fun k => laws_eqPair.f k x x) (true, ()) := by
  have e : weight TPair x = (x.1.size + (x.2.1.size + (0 + 0))) := rfl
  show Ev (fun k => laws_eqPair.t k x x) _
  unfold laws_eqPair.t
  simp only [seq_refl, bne_self_eq_false, beq_self_eq_true, Bool.not_true, cond_false]
  exact Ev.of fun k => rfl
theorem eqPairS_ev (l : List (Ty.den TPair)) (hl : weight (.slice TPair) l ≤ 1048576) : Ev (fun k => laws_eqPairS.f k l l) (true, ()) :=
  eqS'_ev (l := laws_eqPairS.l0) (f := laws_eqPair.f) (fun _ _ _ _ _ => rfl) (fun x hx => eqPair_ev x hx) hl (fun k => rfl)
theorem szBit_ev (x : Ty.den TBit) (hw : Wf TBit x) (left : Int) (h0 : 0 ≤ left) (h1 : left ≤ 1048576) : Ev (fun k => laws_szBit.f k x left) (sz (weight TBit x) left, ()) := by
  have e : weight TBit x = (0 + (0 + (x.2.2.1.size + 0))) := rfl
  rw [e]
  show Ev (fun k => laws_szBit.t k x left) _
  unfold laws_szBit.t
  have a2 : x.2.2.1.size ≤ reachBytes := hw.2.2.1
  rw [reach_eq] at a2
  have w2 : w64 (left - (x.2.2.1.size : Int)) = left - (x.2.2.1.size : Int) := w64_eq (by omega) (by omega)
  by_cases c2 : left - (x.2.2.1.size : Int) < 0
  · refine Ev.of fun k => ?_
    simp only [w2, decide_eq_true c2, cond_true]
    rw [sz_bad (by omega)]
  simp only [w2, decide_eq_false c2, cond_false]
  refine Ev.of fun k => ?_
  rw [sz_ok (by omega)]
  congr 2
  omega
theorem szBitS_ev (l : List (Ty.den TBit)) (hw : Wf (.slice TBit) l) (left : Int) (h0 : 0 ≤ left) (h1 : left ≤ 1048576) : Ev (fun k => laws_szBitS.f k l left) (sz (weight (.slice TBit) l) left, ()) :=
  szS'_ev (l := laws_szBitS.l0) (f := laws_szBit.f) (fun _ _ _ _ _ => rfl) hw (fun x hx left h0 h1 => szBit_ev x hx left h0 h1) h0 h1 (fun k => rfl)
theorem szParcel_ev (x : Ty.den TParcel) (hw : Wf TParcel x) (left : Int) (h0 : 0 ≤ left) (h1 : left ≤ 1048576) : Ev (fun k => laws_szParcel.f k x left) (sz (weight TParcel x) left, ()) := by
  have e : weight TParcel x = (0 + (weight (.slice TBit) x.2.1 + 0)) := rfl
  rw [e]
  show Ev (fun k => laws_szParcel.t k x left) _
  unfold laws_szParcel.t
  refine Ev.bind (szBitS_ev x.2.1 hw.2.1 (left) (by omega) (by omega)) ?_
  by_cases c1 : ((weight (.slice TBit) x.2.1 : Nat) : Int) ≤ left
  case neg =>
    refine Ev.of fun k => ?_
    simp only [sz_bad (show left < ((weight (.slice TBit) x.2.1 : Nat) : Int) by omega)]
    rw [sz_bad (by omega)]
    rfl
  have d1 : ¬ (left - ((weight (.slice TBit) x.2.1 : Nat) : Int) < 0) := by omega
  simp only [sz_ok c1, decide_eq_false d1, cond_false]
  refine Ev.of fun k => ?_
  rw [sz_ok (by omega)]
  congr 2
  omega
theorem toBit_ev (x : Ty.den TBit) (hl : weight TBit x ≤ 1048576) : Ev (fun k => laws_toBit.f k x) (x, ()) := by
  have e : weight TBit x = (0 + (0 + (x.2.2.1.size + 0))) := rfl
  show Ev (fun k => laws_toBit.t k x) _
  unfold laws_toBit.t
  exact Ev.of fun k => rfl
theorem toBitS_ev (l : List (Ty.den TBit)) (hl : weight (.slice TBit) l ≤ 1048576) : Ev (fun k => laws_toBitS.f k l) (l, ()) :=
  toS'_ev (l := laws_toBitS.l0) (f := laws_toBit.f) (fun _ _ _ _ _ => rfl) (fun x hx => toBit_ev x hx) hl (by decide) (fun k => rfl)
theorem toParcel_ev (x : Ty.den TParcel) (hl : weight TParcel x ≤ 1048576) : Ev (fun k => laws_toParcel.f k x) (x, ()) := by
  have e : weight TParcel x = (0 + (weight (.slice TBit) x.2.1 + 0)) := rfl
  show Ev (fun k => laws_toParcel.t k x) _
  unfold laws_toParcel.t
  refine Ev.bind (toBitS_ev x.2.1 (by omega)) ?_
  exact Ev.of fun k => rfl
theorem eqBit_ev (x : Ty.den TBit) (hl : weight TBit x ≤ 1048576) : Ev (fun k => laws_eqBit.f k x x) (true, ()) := by
  have e : weight TBit x = (0 + (0 + (x.2.2.1.size + 0))) := rfl
  show Ev (fun k => laws_eqBit.t k x x) _
  unfold laws_eqBit.t
  simp only [seq_refl, bne_self_eq_false, beq_self_eq_true, Bool.not_true, cond_false]
  exact Ev.of fun k => rfl
theorem eqBitS_ev (l : List (Ty.den TBit)) (hl : weight (.slice TBit) l ≤ 1048576) : Ev (fun k => laws_eqBitS.f k l l) (true, ()) :=
  eqS'_ev (l := laws_eqBitS.l0) (f := laws_eqBit.f) (fun _ _ _ _ _ => rfl) (fun x hx => eqBit_ev x hx) hl (fun k => rfl)
theorem eqParcel_ev (x : Ty.den TParcel) (hl : weight TParcel x ≤ 1048576) : Ev (fun k => laws_eqParcel.f k x x) (true, ()) := by
  have e : weight TParcel x = (0 + (weight (.slice TBit) x.2.1 + 0)) := rfl
  show Ev (fun k => laws_eqParcel.t k x x) _
  unfold laws_eqParcel.t
  simp only [seq_refl, bne_self_eq_false, beq_self_eq_true, Bool.not_true, cond_false]
  refine Ev.bind (eqBitS_ev x.2.1 (by omega)) ?_
  simp only [seq_refl, bne_self_eq_false, beq_self_eq_true, Bool.not_true, cond_false]
  exact Ev.of fun k => rfl
theorem szPiece_ev (x : Ty.den TPiece) (hw : Wf TPiece x) (left : Int) (h0 : 0 ≤ left) (h1 : left ≤ 1048576) : Ev (fun k => laws_szPiece.f k x left) (sz (weight TPiece x) left, ()) := by
  have e : weight TPiece x = (0 + (x.2.1.size + 0)) := rfl
  rw [e]
  show Ev (fun k => laws_szPiece.t k x left) _
  unfold laws_szPiece.t
  have a1 : x.2.1.size ≤ reachBytes := hw.2.1
  rw [reach_eq] at a1
  have w1 : w64 (left - (x.2.1.size : Int)) = left - (x.2.1.size : Int) := w64_eq (by omega) (by omega)
  by_cases c1 : left - (x.2.1.size : Int) < 0
  · refine Ev.of fun k => ?_
    simp only [w1, decide_eq_true c1, cond_true]
    rw [sz_bad (by omega)]
  simp only [w1, decide_eq_false c1, cond_false]
  refine Ev.of fun k => ?_
  rw [sz_ok (by omega)]
  congr 2
  omega
theorem szPieceS_ev (l : List (Ty.den TPiece)) (hw : Wf (.slice TPiece) l) (left : Int) (h0 : 0 ≤ left) (h1 : left ≤ 1048576) : Ev (fun k => laws_szPieceS.f k l left) (sz (weight (.slice TPiece) l) left, ()) :=
  szS'_ev (l := laws_szPieceS.l0) (f := laws_szPiece.f) (fun _ _ _ _ _ => rfl) hw (fun x hx left h0 h1 => szPiece_ev x hx left h0 h1) h0 h1 (fun k => rfl)
theorem szFollower_ev (x : Ty.den TFollower) (hw : Wf TFollower x) (left : Int) (h0 : 0 ≤ left) (h1 : left ≤ 1048576) : Ev (fun k => laws_szFollower.f k x left) (sz (weight TFollower x) left, ()) := by
  have e : weight TFollower x = (0 + (weight (.slice TPiece) x.2.1 + 0)) := rfl
  rw [e]
  show Ev (fun k => laws_szFollower.t k x left) _
  unfold laws_szFollower.t
  refine Ev.bind (szPieceS_ev x.2.1 hw.2.1 (left) (by omega) (by omega)) ?_
  by_cases c1 : ((weight (.slice TPiece) x.2.1 : Nat) : Int) ≤ left
  case neg =>
    refine Ev.of fun k => ?_
    simp only [sz_bad (show left < ((weight (.slice TPiece) x.2.1 : Nat) : Int) by omega)]
    rw [sz_bad (by omega)]
    rfl
  have d1 : ¬ (left - ((weight (.slice TPiece) x.2.1 : Nat) : Int) < 0) := by omega
  simp only [sz_ok c1, decide_eq_false d1, cond_false]
  refine Ev.of fun k => ?_
  rw [sz_ok (by omega)]
  congr 2
  omega
theorem toPiece_ev (x : Ty.den TPiece) (hl : weight TPiece x ≤ 1048576) : Ev (fun k => laws_toPiece.f k x) (x, ()) := by
  have e : weight TPiece x = (0 + (x.2.1.size + 0)) := rfl
  show Ev (fun k => laws_toPiece.t k x) _
  unfold laws_toPiece.t
  exact Ev.of fun k => rfl
theorem toPieceS_ev (l : List (Ty.den TPiece)) (hl : weight (.slice TPiece) l ≤ 1048576) : Ev (fun k => laws_toPieceS.f k l) (l, ()) :=
  toS'_ev (l := laws_toPieceS.l0) (f := laws_toPiece.f) (fun _ _ _ _ _ => rfl) (fun x hx => toPiece_ev x hx) hl (by decide) (fun k => rfl)
theorem toFollower_ev (x : Ty.den TFollower) (hl : weight TFollower x ≤ 1048576) : Ev (fun k => laws_toFollower.f k x) (x, ()) := by
  have e : weight TFollower x = (0 + (weight (.slice TPiece) x.2.1 + 0)) := rfl
  show Ev (fun k => laws_toFollower.t k x) _
  unfold laws_toFollower.t
  refine Ev.bind (toPieceS_ev x.2.1 (by omega)) ?_
  exact Ev.of fun k => rfl
theorem eqPiece_ev (x : Ty.den TPiece) (hl : weight TPiece x ≤ 1048576) : Ev (fun k => laws_eqPiece.f k x x) (true, ()) := by
  have e : weight TPiece x = (0 + (x.2.1.size + 0)) := rfl
  show Ev (fun k => laws_eqPiece.t k x x) _
  unfold laws_eqPiece.t
  simp only [seq_refl, bne_self_eq_false, beq_self_eq_true, Bool.not_true, cond_false]
  exact Ev.of fun k => rfl
theorem eqPieceS_ev (l : List (Ty.den TPiece)) (hl : weight (.slice TPiece) l ≤ 1048576) : Ev (fun k => laws_eqPieceS.f k l l) (true, ()) :=
  eqS'_ev (l := laws_eqPieceS.l0) (f := laws_eqPiece.f) (fun _ _ _ _ _ => rfl) (fun x hx => eqPiece_ev x hx) hl (fun k => rfl)
theorem eqFollower_ev (x : Ty.den TFollower) (hl : weight TFollower x ≤ 1048576) : Ev (fun k => laws_eqFollower.f k x x) (true, ()) := by
  have e : weight TFollower x = (0 + (weight (.slice TPiece) x.2.1 + 0)) := rfl
  show Ev (fun k => laws_eqFollower.t k x x) _
  unfold laws_eqFollower.t
  simp only [seq_refl, bne_self_eq_false, beq_self_eq_true, Bool.not_true, cond_false]
  refine Ev.bind (eqPieceS_ev x.2.1 (by omega)) ?_
  simp only [seq_refl, bne_self_eq_false, beq_self_eq_true, Bool.not_true, cond_false]
  exact Ev.of fun k => rfl
theorem szSlot_ev (x : Ty.den TSlot) (hw : Wf TSlot x) (left : Int) (h0 : 0 ≤ left) (h1 : left ≤ 1048576) : Ev (fun k => laws_szSlot.f k x left) (sz (weight TSlot x) left, ()) := by
  have e : weight TSlot x = (x.1.size + (0 + (x.2.2.1.size + 0))) := rfl
  rw [e]
  show Ev (fun k => laws_szSlot.t k x left) _
  unfold laws_szSlot.t
  have a0 : x.1.size ≤ reachBytes := hw.1
  rw [reach_eq] at a0
  have w0 : w64 (left - (x.1.size : Int)) = left - (x.1.size : Int) := w64_eq (by omega) (by omega)
  by_cases c0 : left - (x.1.size : Int) < 0
  · refine Ev.of fun k => ?_
    simp only [w0, decide_eq_true c0, cond_true]
    rw [sz_bad (by omega)]
  simp only [w0, decide_eq_false c0, cond_false]
  have a2 : x.2.2.1.size ≤ reachBytes := hw.2.2.1
  rw [reach_eq] at a2
  have w2 : w64 (left - (x.1.size : Int) - (x.2.2.1.size : Int)) = left - (x.1.size : Int) - (x.2.2.1.size : Int) := w64_eq (by omega) (by omega)
  by_cases c2 : left - (x.1.size : Int) - (x.2.2.1.size : Int) < 0
  · refine Ev.of fun k => ?_
    simp only [w2, decide_eq_true c2, cond_true]
    rw [sz_bad (by omega)]
  simp only [w2, decide_eq_false c2, cond_false]
  refine Ev.of fun k => ?_
  rw [sz_ok (by omega)]
  congr 2
  omega
theorem szSlotS_ev (l : List (Ty.den TSlot)) (hw : Wf (.slice TSlot) l) (left : Int) (h0 : 0 ≤ left) (h1 : left ≤ 1048576) : Ev (fun k => laws_szSlotS.f k l left) (sz (weight (.slice TSlot) l) left, ()) :=
  szS'_ev (l := laws_szSlotS.l0) (f := laws_szSlot.f) (fun _ _ _ _ _ => rfl) hw (fun x hx left h0 h1 => szSlot_ev x hx left h0 h1) h0 h1 (fun k => rfl)
theorem szCache_ev (x : Ty.den TCache) (hw : Wf TCache x) (left : Int) (h0 : 0 ≤ left) (h1 : left ≤ 1048576) : Ev (fun k => laws_szCache.f k x left) (sz (weight TCache x) left, ()) := by
  have e : weight TCache x = (0 + (weight (.slice TSlot) x.2.1 + (0 + 0))) := rfl
  rw [e]
  show Ev (fun k => laws_szCache.t k x left) _
  unfold laws_szCache.t
  refine Ev.bind (szSlotS_ev x.2.1 hw.2.1 (left) (by omega) (by omega)) ?_
  by_cases c1 : ((weight (.slice TSlot) x.2.1 : Nat) : Int) ≤ left
  case neg =>
    refine Ev.of fun k => ?_
    simp only [sz_bad (show left < ((weight (.slice TSlot) x.2.1 : Nat) : Int) by omega)]
    rw [sz_bad (by omega)]
    rfl
  have d1 : ¬ (left - ((weight (.slice TSlot) x.2.1 : Nat) : Int) < 0) := by omega
  simp only [sz_ok c1, decide_eq_false d1, cond_false]
  refine Ev.of fun k => ?_
  rw [sz_ok (by omega)]
  congr 2
  omega
theorem toSlot_ev (x : Ty.den TSlot) (hl : weight TSlot x ≤ 1048576) : Ev (fun k => laws_toSlot.f k x) (x, ()) := by
  have e : weight TSlot x = (x.1.size + (0 + (x.2.2.1.size + 0))) := rfl
  show Ev (fun k => laws_toSlot.t k x) _
  unfold laws_toSlot.t
  exact Ev.of fun k => rfl
theorem toSlotS_ev (l : List (Ty.den TSlot)) (hl : weight (.slice TSlot) l ≤ 1048576) : Ev (fun k => laws_toSlotS.f k l) (l, ()) :=
  toS'_ev (l := laws_toSlotS.l0) (f := laws_toSlot.f) (fun _ _ _ _ _ => rfl) (fun x hx => toSlot_ev x hx) hl (by decide) (fun k => rfl)
theorem toCache_ev (x : Ty.den TCache) (hl : weight TCache x ≤ 1048576) : Ev (fun k => laws_toCache.f k x) (x, ()) := by
  have e : weight TCache x = (0 + (weight (.slice TSlot) x.2.1 + (0 + 0))) := rfl
  show Ev (fun k => laws_toCache.t k x) _
  unfold laws_toCache.t
  refine Ev.bind (toSlotS_ev x.2.1 (by omega)) ?_
  exact Ev.of fun k => rfl
theorem eqSlot_ev (x : Ty.den TSlot) (hl : weight TSlot x ≤ 1048576) : Ev (fun k => laws_eqSlot.f k x x) (true, ()) := by
  have e : weight TSlot x = (x.1.size + (0 + (x.2.2.1.size + 0))) := rfl
  show Ev (fun k => laws_eqSlot.t k x x) _
  unfold laws_eqSlot.t
  simp only [seq_refl, bne_self_eq_false, beq_self_eq_true, Bool.not_true, cond_false]
  exact Ev.of fun k => rfl
theorem eqSlotS_ev (l : List (Ty.den TSlot)) (hl : weight (.slice TSlot) l ≤ 1048576) : Ev (fun k => laws_eqSlotS.f k l l) (true, ()) :=
  eqS'_ev (l := laws_eqSlotS.l0) (f := laws_eqSlot.f) (fun _ _ _ _ _ => rfl) (fun x hx => eqSlot_ev x hx) hl (fun k => rfl)
theorem eqCache_ev (x : Ty.den TCache) (hl : weight TCache x ≤ 1048576) : Ev (fun k => laws_eqCache.f k x x) (true, ()) := by
  have e : weight TCache x = (0 + (weight (.slice TSlot) x.2.1 + (0 + 0))) := rfl
  show Ev (fun k => laws_eqCache.t k x x) _
  unfold laws_eqCache.t
  simp only [seq_refl, bne_self_eq_false, beq_self_eq_true, Bool.not_true, cond_false]
  refine Ev.bind (eqSlotS_ev x.2.1 (by omega)) ?_
  simp only [seq_refl, bne_self_eq_false, beq_self_eq_true, Bool.not_true, cond_false]
  exact Ev.of fun k => rfl
end Go.Proofs.Ytlbpalfjmjmimaa.G

/- Values are weighed, copied and compared as they should be: plain laws. -/
import Derived.Test.YtiigjojchlplpaaFA
import Derived.Test.YtiigjojchlplpaaVMark
set_option linter.unusedVariables false
set_option linter.unusedSimpArgs false
namespace Go.Proofs.Ytiigjojchlplpaa.G
open Go.V
theorem szPair_ev (x : Ty.den TPair) (hw : Wf TPair x) (left : Int) (h0 : 0 ≤ left) (h1 : left ≤ 1048576) : Ev (fun k => laws_szPair.f k x left) (sz (weight TPair x) left, ()) := by
  have e : weight TPair x = (x.1.size + (x.2.1.size + (0 + 0))) := rfl
  rw [e]
  show Ev (fun k => laws_szPair.t k x left) _
  unfold laws_szPair.t
  have a0 : x.1.size ≤ reachBytes := hw.1
  rw [reach_eq] at a0
  have w0 : w64 (left - (x.1.size : Int)) = left - (x.1.size : Int) := w64_eq (by omega) (by omega)
  by_cases c0 : left - (x.1.size : Int) < 0
  · refine Ev.of fun k => ?_
    simp only [w0, decide_eq_true c0, cond_true]
    rw [sz_bad (by omega)]
  simp only [w0, decide_eq_false c0, cond_false]
  have a1 : x.2.1.size ≤ reachBytes := hw.2.1
  rw [reach_eq] at a1
  have w1 : w64 (left - (x.1.size : Int) - (x.2.1.size : Int)) = left - (x.1.size : Int) - (x.2.1.size : Int) := w64_eq (by omega) (by omega)
  by_cases c1 : left - (x.1.size : Int) - (x.2.1.size : Int) < 0
  · refine Ev.of fun k => ?_
    simp only [w1, decide_eq_true c1, cond_true]
    rw [sz_bad (by omega)]
  simp only [w1, decide_eq_false c1, cond_false]
  refine Ev.of fun k => ?_
  rw [sz_ok (by omega)]
  congr 2
  try omega
theorem szPairS_ev (l : List (Ty.den TPair)) (hw : Wf (.slice TPair) l) (left : Int) (h0 : 0 ≤ left) (h1 : left ≤ 1048576) : Ev (fun k => laws_szPairS.f k l left) (sz (weight (.slice TPair) l) left, ()) :=
  szS'_ev (l := laws_szPairS.l0) (f := laws_szPair.f) (fun _ _ _ _ _ => rfl) hw (fun x hx left h0 h1 => szPair_ev x hx left h0 h1) h0 h1 (fun k => rfl)
theorem szStringS_ev (l : List (Ty.den .str)) (hw : Wf (.slice .str) l) (left : Int) (h0 : 0 ≤ left) (h1 : left ≤ 1048576) : Ev (fun k => laws_szStringS.f k l left) (sz (weight (.slice .str) l) left, ()) :=
  szStr_ev (l := laws_szStringS.l0) (fun _ _ _ _ _ => rfl) hw h0 h1 (fun k => rfl)
theorem szPut_ev (x : Ty.den TPut) (hw : Wf TPut x) (left : Int) (h0 : 0 ≤ left) (h1 : left ≤ 1048576) : Ev (fun k => laws_szPut.f k x left) (sz (weight TPut x) left, ()) := by
  have e : weight TPut x = (x.1.size + (0 + (x.2.2.1.size + 0))) := rfl
  rw [e]
  show Ev (fun k => laws_szPut.t k x left) _
  unfold laws_szPut.t
  have a0 : x.1.size ≤ reachBytes := hw.1
  rw [reach_eq] at a0
  have w0 : w64 (left - (x.1.size : Int)) = left - (x.1.size : Int) := w64_eq (by omega) (by omega)
  by_cases c0 : left - (x.1.size : Int) < 0
  · refine Ev.of fun k => ?_
    simp only [w0, decide_eq_true c0, cond_true]
    rw [sz_bad (by omega)]
  simp only [w0, decide_eq_false c0, cond_false]
  have a2 : x.2.2.1.size ≤ reachBytes := hw.2.2.1
  rw [reach_eq] at a2
  have w2 : w64 (left - (x.1.size : Int) - (x.2.2.1.size : Int)) = left - (x.1.size : Int) - (x.2.2.1.size : Int) := w64_eq (by omega) (by omega)
  by_cases c2 : left - (x.1.size : Int) - (x.2.2.1.size : Int) < 0
  · refine Ev.of fun k => ?_
    simp only [w2, decide_eq_true c2, cond_true]
    rw [sz_bad (by omega)]
  simp only [w2, decide_eq_false c2, cond_false]
  refine Ev.of fun k => ?_
  rw [sz_ok (by omega)]
  congr 2
  try omega
theorem szPutS_ev (l : List (Ty.den TPut)) (hw : Wf (.slice TPut) l) (left : Int) (h0 : 0 ≤ left) (h1 : left ≤ 1048576) : Ev (fun k => laws_szPutS.f k l left) (sz (weight (.slice TPut) l) left, ()) :=
  szS'_ev (l := laws_szPutS.l0) (f := laws_szPut.f) (fun _ _ _ _ _ => rfl) hw (fun x hx left h0 h1 => szPut_ev x hx left h0 h1) h0 h1 (fun k => rfl)
theorem szHist_ev (x : Ty.den THist) (hw : Wf THist x) (left : Int) (h0 : 0 ≤ left) (h1 : left ≤ 1048576) : Ev (fun k => laws_szHist.f k x left) (sz (weight THist x) left, ()) := by
  have e : weight THist x = (0 + (weight (.slice TPair) x.2.1 + (weight (.slice .str) x.2.2.1 + (weight (.slice TPut) x.2.2.2.1 + 0)))) := rfl
  rw [e]
  show Ev (fun k => laws_szHist.t k x left) _
  unfold laws_szHist.t
  refine Ev.bind (szPairS_ev x.2.1 hw.2.1 (left) (by omega) (by omega)) ?_
  by_cases c1 : ((weight (.slice TPair) x.2.1 : Nat) : Int) ≤ left
  case neg =>
    refine Ev.of fun k => ?_
    simp only [sz_bad (show left < ((weight (.slice TPair) x.2.1 : Nat) : Int) by omega)]
    rw [sz_bad (by omega)]
    rfl
  have d1 : ¬ (left - ((weight (.slice TPair) x.2.1 : Nat) : Int) < 0) := by omega
  simp only [sz_ok c1, decide_eq_false d1, cond_false]
  refine Ev.bind (szStringS_ev x.2.2.1 hw.2.2.1 (left - ((weight (.slice TPair) x.2.1 : Nat) : Int)) (by omega) (by omega)) ?_
  by_cases c2 : ((weight (.slice .str) x.2.2.1 : Nat) : Int) ≤ left - ((weight (.slice TPair) x.2.1 : Nat) : Int)
  case neg =>
    refine Ev.of fun k => ?_
    simp only [sz_bad (show left - ((weight (.slice TPair) x.2.1 : Nat) : Int) < ((weight (.slice .str) x.2.2.1 : Nat) : Int) by omega)]
    rw [sz_bad (by omega)]
    rfl
  have d2 : ¬ (left - ((weight (.slice TPair) x.2.1 : Nat) : Int) - ((weight (.slice .str) x.2.2.1 : Nat) : Int) < 0) := by omega
  simp only [sz_ok c2, decide_eq_false d2, cond_false]
  refine Ev.bind (szPutS_ev x.2.2.2.1 hw.2.2.2.1 (left - ((weight (.slice TPair) x.2.1 : Nat) : Int) - ((weight (.slice .str) x.2.2.1 : Nat) : Int)) (by omega) (by omega)) ?_
  by_cases c3 : ((weight (.slice TPut) x.2.2.2.1 : Nat) : Int) ≤ left - ((weight (.slice TPair) x.2.1 : Nat) : Int) - ((weight (.slice .str) x.2.2.1 : Nat) : Int)
  case neg =>
    refine Ev.of fun k => ?_
    simp only [sz_bad (show left - ((weight (.slice TPair) x.2.1 : Nat) : Int) - ((weight (.slice .str) x.2.2.1 : Nat) : Int) < ((weight (.slice TPut) x.2.2.2.1 : Nat) : Int) by omega)]
    rw [sz_bad (by omega)]
    rfl
  have d3 : ¬ (left - ((weight (.slice TPair) x.2.1 : Nat) : Int) - ((weight (.slice .str) x.2.2.1 : Nat) : Int) - ((weight (.slice TPut) x.2.2.2.1 : Nat) : Int) < 0) := by omega
  simp only [sz_ok c3, decide_eq_false d3, cond_false]
  refine Ev.of fun k => ?_
  rw [sz_ok (by omega)]
  congr 2
  try omega
theorem szHistS_ev (l : List (Ty.den THist)) (hw : Wf (.slice THist) l) (left : Int) (h0 : 0 ≤ left) (h1 : left ≤ 1048576) : Ev (fun k => laws_szHistS.f k l left) (sz (weight (.slice THist) l) left, ()) :=
  szS'_ev (l := laws_szHistS.l0) (f := laws_szHist.f) (fun _ _ _ _ _ => rfl) hw (fun x hx left h0 h1 => szHist_ev x hx left h0 h1) h0 h1 (fun k => rfl)
theorem toPair_ev (x : Ty.den TPair) (hl : weight TPair x ≤ 1048576) : Ev (fun k => laws_toPair.f k x) (x, ()) := by
  have e : weight TPair x = (x.1.size + (x.2.1.size + (0 + 0))) := rfl
  show Ev (fun k => laws_toPair.t k x) _
  unfold laws_toPair.t
  exact Ev.of fun k => rfl
theorem toPairS_ev (l : List (Ty.den TPair)) (hl : weight (.slice TPair) l ≤ 1048576) : Ev (fun k => laws_toPairS.f k l) (l, ()) :=
  toS'_ev (l := laws_toPairS.l0) (f := laws_toPair.f) (fun _ _ _ _ _ => rfl) (fun x hx => toPair_ev x hx) hl (by decide) (fun k => rfl)
theorem toStringS_ev (l : List (Ty.den .str)) (hl : weight (.slice .str) l ≤ 1048576) : Ev (fun k => laws_toStringS.f k l) (l, ()) :=
  toS0_ev (t := .str) (l := laws_toStringS.l0) (fun _ _ _ _ _ => rfl) (weight_len hl) (by decide) (fun k => rfl)
theorem toPut_ev (x : Ty.den TPut) (hl : weight TPut x ≤ 1048576) : Ev (fun k => laws_toPut.f k x) (x, ()) := by
  have e : weight TPut x = (x.1.size + (0 + (x.2.2.1.size + 0))) := rfl
  show Ev (fun k => laws_toPut.t k x) _
  unfold laws_toPut.t
  exact Ev.of fun k => rfl
theorem toPutS_ev (l : List (Ty.den TPut)) (hl : weight (.slice TPut) l ≤ 1048576) : Ev (fun k => laws_toPutS.f k l) (l, ()) :=
  toS'_ev (l := laws_toPutS.l0) (f := laws_toPut.f) (fun _ _ _ _ _ => rfl) (fun x hx => toPut_ev x hx) hl (by decide) (fun k => rfl)
theorem toHist_ev (x : Ty.den THist) (hl : weight THist x ≤ 1048576) : Ev (fun k => laws_toHist.f k x) (x, ()) := by
  have e : weight THist x = (0 + (weight (.slice TPair) x.2.1 + (weight (.slice .str) x.2.2.1 + (weight (.slice TPut) x.2.2.2.1 + 0)))) := rfl
  show Ev (fun k => laws_toHist.t k x) _
  unfold laws_toHist.t
  refine Ev.bind (toPairS_ev x.2.1 (by omega)) ?_
  refine Ev.bind (toStringS_ev x.2.2.1 (by omega)) ?_
  refine Ev.bind (toPutS_ev x.2.2.2.1 (by omega)) ?_
  exact Ev.of fun k => rfl
theorem toHistS_ev (l : List (Ty.den THist)) (hl : weight (.slice THist) l ≤ 1048576) : Ev (fun k => laws_toHistS.f k l) (l, ()) :=
  toS'_ev (l := laws_toHistS.l0) (f := laws_toHist.f) (fun _ _ _ _ _ => rfl) (fun x hx => toHist_ev x hx) hl (by decide) (fun k => rfl)
theorem eqPair_ev (x : Ty.den TPair) (hl : wp TPair x ≤ 4398046511104) : Ev (fun k => laws_eqPair.f k x x) (true, ()) := by
  have e : wp TPair x = (0 + (0 + (0 + 0))) := rfl
  show Ev (fun k => laws_eqPair.t k x x) _
  unfold laws_eqPair.t
  simp only [seq_refl, bne_self_eq_false, beq_self_eq_true, Bool.not_true, cond_false]
  exact Ev.of fun k => rfl
theorem eqPairS_ev (l : List (Ty.den TPair)) (hl : wp (.slice TPair) l ≤ 4398046511104) : Ev (fun k => laws_eqPairS.f k l l) (true, ()) :=
  eqS'_ev (l := laws_eqPairS.l0) (f := laws_eqPair.f) (fun _ _ _ _ _ => rfl) (fun x hx => eqPair_ev x hx) hl (fun k => rfl)
theorem eqStringS_ev (l : List (Ty.den .str)) (hl : wp (.slice .str) l ≤ 4398046511104) : Ev (fun k => laws_eqStringS.f k l l) (true, ()) :=
  eqS0_ev (t := .str) (l := laws_eqStringS.l0) (c := fun a b => !(seq a b)) (fun _ _ _ _ _ => rfl) (fun x => by simp [seq_refl]) (wp_len hl) (fun k => rfl)
theorem eqPut_ev (x : Ty.den TPut) (hl : wp TPut x ≤ 4398046511104) : Ev (fun k => laws_eqPut.f k x x) (true, ()) := by
  have e : wp TPut x = (0 + (0 + (0 + 0))) := rfl
  show Ev (fun k => laws_eqPut.t k x x) _
  unfold laws_eqPut.t
  simp only [seq_refl, bne_self_eq_false, beq_self_eq_true, Bool.not_true, cond_false]
  exact Ev.of fun k => rfl
theorem eqPutS_ev (l : List (Ty.den TPut)) (hl : wp (.slice TPut) l ≤ 4398046511104) : Ev (fun k => laws_eqPutS.f k l l) (true, ()) :=
  eqS'_ev (l := laws_eqPutS.l0) (f := laws_eqPut.f) (fun _ _ _ _ _ => rfl) (fun x hx => eqPut_ev x hx) hl (fun k => rfl)
theorem eqHist_ev (x : Ty.den THist) (hl : wp THist x ≤ 4398046511104) : Ev (fun k => laws_eqHist.f k x x) (true, ()) := by
  have e : wp THist x = (0 + (wp (.slice TPair) x.2.1 + (wp (.slice .str) x.2.2.1 + (wp (.slice TPut) x.2.2.2.1 + 0)))) := rfl
  show Ev (fun k => laws_eqHist.t k x x) _
  unfold laws_eqHist.t
  simp only [seq_refl, bne_self_eq_false, beq_self_eq_true, Bool.not_true, cond_false]
  refine Ev.bind (eqPairS_ev x.2.1 (by omega)) ?_
  simp only [seq_refl, bne_self_eq_false, beq_self_eq_true, Bool.not_true, cond_false]
  refine Ev.bind (eqStringS_ev x.2.2.1 (by omega)) ?_
  simp only [seq_refl, bne_self_eq_false, beq_self_eq_true, Bool.not_true, cond_false]
  refine Ev.bind (eqPutS_ev x.2.2.2.1 (by omega)) ?_
  simp only [seq_refl, bne_self_eq_false, beq_self_eq_true, Bool.not_true, cond_false]
  exact Ev.of fun k => rfl
theorem eqHistS_ev (l : List (Ty.den THist)) (hl : wp (.slice THist) l ≤ 4398046511104) : Ev (fun k => laws_eqHistS.f k l l) (true, ()) :=
  eqS'_ev (l := laws_eqHistS.l0) (f := laws_eqHist.f) (fun _ _ _ _ _ => rfl) (fun x hx => eqHist_ev x hx) hl (fun k => rfl)
theorem szAck_ev (x : Ty.den TAck) (hw : Wf TAck x) (left : Int) (h0 : 0 ≤ left) (h1 : left ≤ 1048576) : Ev (fun k => laws_szAck.f k x left) (sz (weight TAck x) left, ()) := by
  have e : weight TAck x = (0 + (weight (.slice TPut) x.2.1 + 0)) := rfl
  rw [e]
  show Ev (fun k => laws_szAck.t k x left) _
  unfold laws_szAck.t
  refine Ev.bind (szPutS_ev x.2.1 hw.2.1 (left) (by omega) (by omega)) ?_
  by_cases c1 : ((weight (.slice TPut) x.2.1 : Nat) : Int) ≤ left
  case neg =>
    refine Ev.of fun k => ?_
    simp only [sz_bad (show left < ((weight (.slice TPut) x.2.1 : Nat) : Int) by omega)]
    rw [sz_bad (by omega)]
    rfl
  have d1 : ¬ (left - ((weight (.slice TPut) x.2.1 : Nat) : Int) < 0) := by omega
  simp only [sz_ok c1, decide_eq_false d1, cond_false]
  refine Ev.of fun k => ?_
  rw [sz_ok (by omega)]
  congr 2
  try omega
theorem szAckS_ev (l : List (Ty.den TAck)) (hw : Wf (.slice TAck) l) (left : Int) (h0 : 0 ≤ left) (h1 : left ≤ 1048576) : Ev (fun k => laws_szAckS.f k l left) (sz (weight (.slice TAck) l) left, ()) :=
  szS'_ev (l := laws_szAckS.l0) (f := laws_szAck.f) (fun _ _ _ _ _ => rfl) hw (fun x hx left h0 h1 => szAck_ev x hx left h0 h1) h0 h1 (fun k => rfl)
theorem szEnd_ev (x : Ty.den TEnd) (hw : Wf TEnd x) (left : Int) (h0 : 0 ≤ left) (h1 : left ≤ 1048576) : Ev (fun k => laws_szEnd.f k x left) (sz (weight TEnd x) left, ()) := by
  have e : weight TEnd x = (weight (.slice TPair) x.1 + (weight (.slice TAck) x.2.1 + (weight (.slice TPut) x.2.2.1 + (weight (.slice TPair) x.2.2.2.1 + (0 + 0))))) := rfl
  rw [e]
  show Ev (fun k => laws_szEnd.t k x left) _
  unfold laws_szEnd.t
  refine Ev.bind (szPairS_ev x.1 hw.1 (left) (by omega) (by omega)) ?_
  by_cases c0 : ((weight (.slice TPair) x.1 : Nat) : Int) ≤ left
  case neg =>
    refine Ev.of fun k => ?_
    simp only [sz_bad (show left < ((weight (.slice TPair) x.1 : Nat) : Int) by omega)]
    rw [sz_bad (by omega)]
    rfl
  have d0 : ¬ (left - ((weight (.slice TPair) x.1 : Nat) : Int) < 0) := by omega
  simp only [sz_ok c0, decide_eq_false d0, cond_false]
  refine Ev.bind (szAckS_ev x.2.1 hw.2.1 (left - ((weight (.slice TPair) x.1 : Nat) : Int)) (by omega) (by omega)) ?_
  by_cases c1 : ((weight (.slice TAck) x.2.1 : Nat) : Int) ≤ left - ((weight (.slice TPair) x.1 : Nat) : Int)
  case neg =>
    refine Ev.of fun k => ?_
    simp only [sz_bad (show left - ((weight (.slice TPair) x.1 : Nat) : Int) < ((weight (.slice TAck) x.2.1 : Nat) : Int) by omega)]
    rw [sz_bad (by omega)]
    rfl
  have d1 : ¬ (left - ((weight (.slice TPair) x.1 : Nat) : Int) - ((weight (.slice TAck) x.2.1 : Nat) : Int) < 0) := by omega
  simp only [sz_ok c1, decide_eq_false d1, cond_false]
  refine Ev.bind (szPutS_ev x.2.2.1 hw.2.2.1 (left - ((weight (.slice TPair) x.1 : Nat) : Int) - ((weight (.slice TAck) x.2.1 : Nat) : Int)) (by omega) (by omega)) ?_
  by_cases c2 : ((weight (.slice TPut) x.2.2.1 : Nat) : Int) ≤ left - ((weight (.slice TPair) x.1 : Nat) : Int) - ((weight (.slice TAck) x.2.1 : Nat) : Int)
  case neg =>
    refine Ev.of fun k => ?_
    simp only [sz_bad (show left - ((weight (.slice TPair) x.1 : Nat) : Int) - ((weight (.slice TAck) x.2.1 : Nat) : Int) < ((weight (.slice TPut) x.2.2.1 : Nat) : Int) by omega)]
    rw [sz_bad (by omega)]
    rfl
  have d2 : ¬ (left - ((weight (.slice TPair) x.1 : Nat) : Int) - ((weight (.slice TAck) x.2.1 : Nat) : Int) - ((weight (.slice TPut) x.2.2.1 : Nat) : Int) < 0) := by omega
  simp only [sz_ok c2, decide_eq_false d2, cond_false]
  refine Ev.bind (szPairS_ev x.2.2.2.1 hw.2.2.2.1 (left - ((weight (.slice TPair) x.1 : Nat) : Int) - ((weight (.slice TAck) x.2.1 : Nat) : Int) - ((weight (.slice TPut) x.2.2.1 : Nat) : Int)) (by omega) (by omega)) ?_
  by_cases c3 : ((weight (.slice TPair) x.2.2.2.1 : Nat) : Int) ≤ left - ((weight (.slice TPair) x.1 : Nat) : Int) - ((weight (.slice TAck) x.2.1 : Nat) : Int) - ((weight (.slice TPut) x.2.2.1 : Nat) : Int)
  case neg =>
    refine Ev.of fun k => ?_
    simp only [sz_bad (show left - ((weight (.slice TPair) x.1 : Nat) : Int) - ((weight (.slice TAck) x.2.1 : Nat) : Int) - ((weight (.slice TPut) x.2.2.1 : Nat) : Int) < ((weight (.slice TPair) x.2.2.2.1 : Nat) : Int) by omega)]
    rw [sz_bad (by omega)]
    rfl
  have d3 : ¬ (left - ((weight (.slice TPair) x.1 : Nat) : Int) - ((weight (.slice TAck) x.2.1 : Nat) : Int) - ((weight (.slice TPut) x.2.2.1 : Nat) : Int) - ((weight (.slice TPair) x.2.2.2.1 : Nat) : Int) < 0) := by omega
  simp only [sz_ok c3, decide_eq_false d3, cond_false]
  refine Ev.of fun k => ?_
  rw [sz_ok (by omega)]
  congr 2
  try omega
theorem toAck_ev (x : Ty.den TAck) (hl : weight TAck x ≤ 1048576) : Ev (fun k => laws_toAck.f k x) (x, ()) := by
  have e : weight TAck x = (0 + (weight (.slice TPut) x.2.1 + 0)) := rfl
  show Ev (fun k => laws_toAck.t k x) _
  unfold laws_toAck.t
  refine Ev.bind (toPutS_ev x.2.1 (by omega)) ?_
  exact Ev.of fun k => rfl
theorem toAckS_ev (l : List (Ty.den TAck)) (hl : weight (.slice TAck) l ≤ 1048576) : Ev (fun k => laws_toAckS.f k l) (l, ()) :=
  toS'_ev (l := laws_toAckS.l0) (f := laws_toAck.f) (fun _ _ _ _ _ => rfl) (fun x hx => toAck_ev x hx) hl (by decide) (fun k => rfl)
theorem toEnd_ev (x : Ty.den TEnd) (hl : weight TEnd x ≤ 1048576) : Ev (fun k => laws_toEnd.f k x) (x, ()) := by
  have e : weight TEnd x = (weight (.slice TPair) x.1 + (weight (.slice TAck) x.2.1 + (weight (.slice TPut) x.2.2.1 + (weight (.slice TPair) x.2.2.2.1 + (0 + 0))))) := rfl
  show Ev (fun k => laws_toEnd.t k x) _
  unfold laws_toEnd.t
  refine Ev.bind (toPairS_ev x.1 (by omega)) ?_
  refine Ev.bind (toAckS_ev x.2.1 (by omega)) ?_
  refine Ev.bind (toPutS_ev x.2.2.1 (by omega)) ?_
  refine Ev.bind (toPairS_ev x.2.2.2.1 (by omega)) ?_
  exact Ev.of fun k => rfl
theorem eqAck_ev (x : Ty.den TAck) (hl : wp TAck x ≤ 4398046511104) : Ev (fun k => laws_eqAck.f k x x) (true, ()) := by
  have e : wp TAck x = (0 + (wp (.slice TPut) x.2.1 + 0)) := rfl
  show Ev (fun k => laws_eqAck.t k x x) _
  unfold laws_eqAck.t
  simp only [seq_refl, bne_self_eq_false, beq_self_eq_true, Bool.not_true, cond_false]
  refine Ev.bind (eqPutS_ev x.2.1 (by omega)) ?_
  simp only [seq_refl, bne_self_eq_false, beq_self_eq_true, Bool.not_true, cond_false]
  exact Ev.of fun k => rfl
theorem eqAckS_ev (l : List (Ty.den TAck)) (hl : wp (.slice TAck) l ≤ 4398046511104) : Ev (fun k => laws_eqAckS.f k l l) (true, ()) :=
  eqS'_ev (l := laws_eqAckS.l0) (f := laws_eqAck.f) (fun _ _ _ _ _ => rfl) (fun x hx => eqAck_ev x hx) hl (fun k => rfl)
theorem eqEnd_ev (x : Ty.den TEnd) (hl : wp TEnd x ≤ 4398046511104) : Ev (fun k => laws_eqEnd.f k x x) (true, ()) := by
  have e : wp TEnd x = (wp (.slice TPair) x.1 + (wp (.slice TAck) x.2.1 + (wp (.slice TPut) x.2.2.1 + (wp (.slice TPair) x.2.2.2.1 + (0 + 0))))) := rfl
  show Ev (fun k => laws_eqEnd.t k x x) _
  unfold laws_eqEnd.t
  refine Ev.bind (eqPairS_ev x.1 (by omega)) ?_
  simp only [seq_refl, bne_self_eq_false, beq_self_eq_true, Bool.not_true, cond_false]
  refine Ev.bind (eqAckS_ev x.2.1 (by omega)) ?_
  simp only [seq_refl, bne_self_eq_false, beq_self_eq_true, Bool.not_true, cond_false]
  refine Ev.bind (eqPutS_ev x.2.2.1 (by omega)) ?_
  simp only [seq_refl, bne_self_eq_false, beq_self_eq_true, Bool.not_true, cond_false]
  refine Ev.bind (eqPairS_ev x.2.2.2.1 (by omega)) ?_
  simp only [seq_refl, bne_self_eq_false, beq_self_eq_true, Bool.not_true, cond_false]
  exact Ev.of fun k => rfl

end Go.Proofs.Ytiigjojchlplpaa.G

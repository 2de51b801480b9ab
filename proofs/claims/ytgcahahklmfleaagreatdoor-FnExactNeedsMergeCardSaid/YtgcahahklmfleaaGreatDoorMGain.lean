/- M: MergedSize, MergeGain, NeedsMerge: what they answer, in both readings. -/
import Derived.Test.YtgcahahklmfleaaGreatDoorMStore
set_option linter.unusedVariables false
set_option linter.unusedSimpArgs false
namespace Go.Proofs.YtgcahahklmfleaaGreatDoor.G
open Go.V
def mergedM (l : PairL) (mark : Int) : Int := ((framesM (keepsM l mark)).size : Int)
theorem mergedM_in (l : PairL) (mark : Int) : 0 ≤ mergedM l mark ∧ mergedM l mark ≤ 211 * ((l.length : Int) + 1) := by
  have := framesM_size (keepsM l mark)
  unfold mergedM
  have hl : (keepsM l mark).length = l.length + 1 := by unfold keepsM; rw [len_snoc, List.length_map]
  rw [hl] at this
  omega
theorem frames_cons (r : Ty.den TRec) (l : RecL) : (framesM (r :: l)).size = (frameM (showRec r)).size + (framesM l).size := by rw [framesM, ByteArray.size_append]
theorem specMerged_eq {k : Nat} (hk : 2 ^ 50 ≤ k) {l : PairL} (hl : l.length ≤ 1048576) (mark : Int) : spec_MergedSize.f k l mark = some (mergedM l mark, ()) := by
  unfold spec_MergedSize.f spec_MergedSize.t mergedM keepsM
  refine (forL0 (L := fun n i (s : Int × RecL) => spec_MergedSize.l0 k n l mark s.1 i s.2) (R := fun r s => some (s.1 + ((framesM (r.map keepR ++ [sealR 5 mark (s.2 ++ r.map keepR)])).size : Int), ())) (Ty.dflt TPair) l (fun i s => (s.2.length : Int) = i ∧ 0 ≤ s.1 ∧ s.1 ≤ 211 * i) (fun n s hs => ?_) (fun n i s x rest h0 h1 hx hr hp ih => ?_) (n := k) (s := (0, [])) (by omega) ⟨rfl, by simp, by simp⟩).trans (by rw [List.nil_append]; simp only [Int.zero_add])
  · obtain ⟨s, rs⟩ := s
    obtain ⟨g0, g1, g2⟩ := hs
    simp only [] at g0 g1 g2 ⊢
    have hf := frameM_size (showRec (sealR 5 mark rs))
    have hc := frames_cons (sealR 5 mark rs) []
    have hz : (framesM []).size = 0 := rfl
    rw [hz, Nat.add_zero] at hc
    simp (disch := omega) only [spec_MergedSize.l0, spec_MergedSize.b0, decF, cond_false, specSeal_eq hk, specShowRec_eq hk, specFrame_eq hk, Option.bind_some, List.map_nil, List.append_nil, List.nil_append, hc]
    rw [w64_eq (by omega) (by omega)]
  · obtain ⟨s, rs⟩ := s
    obtain ⟨g0, g1, g2⟩ := hp
    simp only [] at g0 g1 g2 ih ⊢
    have hf := frameM_size (showRec (keepR x))
    have hkeep : spec_l14Keep.f k x = some (keepR x, ()) := rfl
    have ih := ih (s + ((frameM (showRec (keepR x))).size : Int), rs ++ [keepR x]) ⟨by simp only []; rw [len_snoc]; omega, by simp only []; omega, by simp only []; omega⟩
    simp only [] at ih
    simp (disch := first | omega | decide) only [spec_MergedSize.l0, spec_MergedSize.b0, decT h1, cond_true, inb_eq, hx, hkeep, rm_ok, specShowRec_eq hk, specFrame_eq hk, Option.bind_some, w64_eq, ih, List.map_cons, List.cons_append, frames_cons]
    rw [List.append_assoc]
    simp only [List.cons_append, List.nil_append]
    have hc := frames_cons (keepR x) (rest.map keepR ++ [sealR 5 mark (rs ++ keepR x :: rest.map keepR)])
    congr 2
    omega
theorem implMerged_eq {k : Nat} (hk : 2 ^ 50 ≤ k) {l : PairL} (hl : l.length ≤ 1048576) (mark : Int) : impl_MergedSize.f k l mark = some (mergedM l mark, ()) := by
  unfold impl_MergedSize.f impl_MergedSize.t mergedM
  rw [implKeeps_eq hk (by omega), Option.bind_some]
  have hz : (keepsM l mark).length = l.length + 1 := by unfold keepsM; rw [len_snoc, List.length_map]
  refine (forL0 (L := fun n i s => impl_MergedSize.l0 k n s (keepsM l mark).length i (keepsM l mark)) (R := fun r s => some (s + ((framesM r).size : Int), ())) (Ty.dflt TRec) (keepsM l mark) (fun i s => 0 ≤ s ∧ s ≤ 211 * i) (fun n s hs => ?_) (fun n i s x rest h0 h1 hx hr hp ih => ?_) (n := k) (s := 0) (by omega) ⟨by simp, by simp⟩).trans (by rw [Int.zero_add])
  · simp (disch := omega) only [impl_MergedSize.l0, impl_MergedSize.b0, decF, cond_false]
    show some (s, ()) = some (s + ((0 : Nat) : Int), ())
    rw [show s + ((0 : Nat) : Int) = s by omega]
  · have hf := frameM_size (showRec x)
    have ih := ih (s + ((frameM (showRec x)).size : Int)) ⟨by omega, by omega⟩
    simp (disch := omega) only [impl_MergedSize.l0, impl_MergedSize.b0, decT h1, cond_true, inb_eq, hx, implShowRec_eq hk, implFrame_eq hk, Option.bind_some, w64_eq, ih]
    have hc := frames_cons x rest
    congr 2
    omega
noncomputable def gainM (st : Ty.den TStore) (d : Ty.den TDisk) : Int :=
  bif (dumpM st.2.1 d).2 != 0 then 0 else bif !storeM st d then 0 else w64 ((segSum d 60 st.1.2.1 : Int) - mergedM (dumpM st.2.1 d).1 (w64 (st.2.2.1 - 1)))
theorem specGain_eq {k : Nat} (hk : 2 ^ 50 ≤ k) {st : Ty.den TStore} {d : Ty.den TDisk} (hd : DSz d) (hv : st.1.2.1.length ≤ 1048576) (hw : st.2.1.length ≤ 1048576) : spec_MergeGain.f k st d = some (gainM st d, ()) := by
  have := hd.l; have := hd.u; have := hd.n
  have hl := dumpM_len st.2.1 d
  unfold spec_MergeGain.f spec_MergeGain.t gainM
  rw [specDump_eq hk hd (by omega), Option.bind_some]
  simp only []
  cases (dumpM st.2.1 d).2 != 0 with
  | true => rfl
  | false =>
    rw [cond_false, cond_false, specStore_eq hk hd, Option.bind_some]
    cases storeM st d with
    | false => rfl
    | true =>
      rw [Bool.not_true, cond_false, cond_false, specSegBytes_eq hk (by omega) (by omega) (by omega) (by omega), Option.bind_some, specMerged_eq hk (by omega), Option.bind_some]
theorem implGain_eq {k : Nat} (hk : 2 ^ 50 ≤ k) {st : Ty.den TStore} {d : Ty.den TDisk} (hd : DSz d) (hv : st.1.2.1.length ≤ 1048576) (hw : st.2.1.length ≤ 1048576) : impl_MergeGain.f k st d = some (gainM st d, ()) := by
  have := hd.l; have := hd.u; have := hd.n
  have hl := dumpM_len st.2.1 d
  unfold impl_MergeGain.f impl_MergeGain.t gainM
  rw [implDump_eq hk hd (by omega), Option.bind_some]
  simp only []
  cases (dumpM st.2.1 d).2 != 0 with
  | true => rfl
  | false =>
    rw [cond_false, cond_false, implStore_eq hk hd (by omega) (by omega), Option.bind_some]
    cases storeM st d with
    | false => rfl
    | true =>
      rw [Bool.not_true, cond_false, cond_false, implSegBytes_eq hk (by omega) (by omega) (by omega) (by omega), Option.bind_some, implMerged_eq hk (by omega), Option.bind_some]
theorem dsz_of {d : Ty.den TDisk} (h : weight TDisk d ≤ 1048576) : DSz d := by
  obtain ⟨h1, h2, h3⟩ := disk_weight h
  exact ⟨by omega, by omega, by omega⟩
theorem core_FnExactMergeGain {a0 : Ty.den TStore} {a1 : Ty.den TDisk} (f0 : Wf TStore a0) (f1 : Wf TDisk a1) (w0 : weight TStore a0 ≤ 1048576) (w1 : weight TDisk a1 ≤ 1048576) :
    ∃ r, Ev (fun k => spec_MergeGain.f k a0 a1) r ∧ Ev (fun k => impl_MergeGain.f k a0 a1) r ∧ True := by
  obtain ⟨h4, h5⟩ := store_weight w0
  exact ⟨_, ev_big fun k hk => specGain_eq hk (dsz_of w1) h4 h5, ev_big fun k hk => implGain_eq hk (dsz_of w1) h4 h5, trivial⟩
noncomputable def needsM (st : Ty.den TStore) (d : Ty.den TDisk) (p : Int) : Bool :=
  decide ((0 : Int) ≤ p ∧ p ≤ 100) && (decide ((segSum d 60 st.1.2.1 : Int) > 0) && decide (w64 (100 * gainM st d) ≥ w64 (p * (segSum d 60 st.1.2.1 : Int))))
theorem specNeeds_eq {k : Nat} (hk : 2 ^ 50 ≤ k) {st : Ty.den TStore} {d : Ty.den TDisk} (hd : DSz d) (hv : st.1.2.1.length ≤ 1048576) (hw : st.2.1.length ≤ 1048576) (p : Int) : spec_NeedsMerge.f k st d p = some (needsM st d p, ()) := by
  have := hd.l; have := hd.u; have := hd.n
  unfold spec_NeedsMerge.f spec_NeedsMerge.t needsM
  rw [specSegBytes_eq hk (by omega) (by omega) (by omega) (by omega), Option.bind_some, l1InD_eq, Option.bind_some]
  cases decide ((0 : Int) ≤ p ∧ p ≤ 100) with
  | false => rfl
  | true =>
    rw [cond_true]
    simp only []
    cases decide ((segSum d 60 st.1.2.1 : Int) > 0) with
    | false => rfl
    | true =>
      rw [cond_true, specGain_eq hk hd hv hw, Option.bind_some]
      simp only [Int.mul_comm (gainM st d) 100, Int.mul_comm (segSum d 60 st.1.2.1 : Int) p]
      rfl
theorem implNeeds_eq {k : Nat} (hk : 2 ^ 50 ≤ k) {st : Ty.den TStore} {d : Ty.den TDisk} (hd : DSz d) (hv : st.1.2.1.length ≤ 1048576) (hw : st.2.1.length ≤ 1048576) (p : Int) : impl_NeedsMerge.f k st d p = some (needsM st d p, ()) := by
  have := hd.l; have := hd.u; have := hd.n
  unfold impl_NeedsMerge.f impl_NeedsMerge.t needsM
  rw [implSegBytes_eq hk (by omega) (by omega) (by omega) (by omega), Option.bind_some, inD_eq, Option.bind_some]
  cases decide ((0 : Int) ≤ p ∧ p ≤ 100) with
  | false => rfl
  | true =>
    rw [cond_true]
    simp only []
    cases decide ((segSum d 60 st.1.2.1 : Int) > 0) with
    | false => rfl
    | true =>
      rw [cond_true, implGain_eq hk hd hv hw, Option.bind_some]
      rfl
theorem core_FnExactNeedsMerge {a0 : Ty.den TStore} {a1 : Ty.den TDisk} {a2 : Int} (f0 : Wf TStore a0) (f1 : Wf TDisk a1) (f2 : Wf (.int .i64) a2) (w0 : weight TStore a0 ≤ 1048576) (w1 : weight TDisk a1 ≤ 1048576) :
    ∃ r, Ev (fun k => spec_NeedsMerge.f k a0 a1 a2) r ∧ Ev (fun k => impl_NeedsMerge.f k a0 a1 a2) r ∧ True := by
  obtain ⟨h4, h5⟩ := store_weight w0
  exact ⟨_, ev_big fun k hk => specNeeds_eq hk (dsz_of w1) h4 h5 a2, ev_big fun k hk => implNeeds_eq hk (dsz_of w1) h4 h5 a2, trivial⟩
end Go.Proofs.YtgcahahklmfleaaGreatDoor.G

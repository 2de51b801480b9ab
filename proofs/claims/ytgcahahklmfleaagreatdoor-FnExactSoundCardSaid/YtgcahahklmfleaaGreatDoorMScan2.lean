/- M: the reference's ReadRec; Unframe, ScanRecs and RecAt: what they answer, in both readings. -/
import Derived.Test.YtgcahahklmfleaaGreatDoorMScan
set_option linter.unusedVariables false
set_option linter.unusedSimpArgs false
namespace Go.Proofs.YtgcahahklmfleaaGreatDoor.G
open Go.V
theorem toNat_add (a b : Nat) : Int.toNat ((a : Int) + (b : Int)) = a + b := by omega
theorem vz (a : Nat) : (((varT a).size : Int) == 0) = false := beq_eq_false_iff_ne.2 (by have := varT_size a; omega)
theorem var_ne (a : Nat) (t : ByteArray) : varT a ++ t ≠ ⟨#[]⟩ := fun h => by
  have := congrArg ByteArray.size h
  rw [sz_app, e0] at this
  have := varT_size a
  omega
theorem spec_end {r : Ty.den TRec} {s : ByteArray} (hs : s ≠ ⟨#[]⟩) :
    (∃ r', recOk r' = true ∧ showRec r' = s ∧ (bif !seq (showRec r) s then some (zRec, (false, ())) else bif seq s ⟨#[]⟩ then some (zRec, (false, ())) else some (r, (true, ()))) = some (r', (true, ()))) ∨
    (bif !seq (showRec r) s then some (zRec, (false, ())) else bif seq s ⟨#[]⟩ then some (zRec, (false, ())) else some (r, (true, ()))) = some (zRec, (false, ())) := by
  by_cases c : showRec r = s
  · exact .inl ⟨r, ok_of_show c hs, c, by rw [seqT c, seqF hs]; rfl⟩
  · rw [seqF c]; exact .inr rfl
theorem specReadRec_1 {k : Nat} (hk : 2 ^ 50 ≤ k) {a : Ty.den TRec} (h : recOk a = true) : spec_ReadRec.f k (showRec a) = some (a, (true, ())) := by
  unfold spec_ReadRec.f spec_ReadRec.t
  rcases show_form h with ⟨b, kd, hc, hb, ha, z1, z2, e⟩ | ⟨b, hb, ha, z1, e⟩ | ⟨b, kd, c, x, hc, hb, z1, z2, ha, e⟩
  · have hs : showRec ((kd : Int), ((b : Int), (a.2.2.1, (a.2.2.2.1, (0, (0, ())))))) = varT kd ++ (varT b ++ (varT a.2.2.1.size ++ (a.2.2.1 ++ (varT a.2.2.2.1.size ++ (a.2.2.2.1 ++ ⟨#[]⟩))))) := by rw [← ha]; exact e
    rw [e]
    conv => rhs; rw [ha]
    have v1 := varT_size kd
    have v2 := varT_size b
    have v3 := varT_size a.2.2.1.size
    have v4 := varT_size a.2.2.2.1.size
    rcases hc with rfl | rfl
    · simp (disch := first | omega | (simp only [sz_app, e0]; omega)) only [specReadVar_ok hk, l5_ok hk, Option.bind_some, toNat_ofNat, app_tail, vz, cond_true, cond_false, w64_eq, inc_eq, toNat_add, tail2, k11, specShowRec_eq hk, hs, seq_refl, Bool.not_true, seqF (var_ne _ _)]
    · simp (disch := first | omega | (simp only [sz_app, e0]; omega)) only [specReadVar_ok hk, l5_ok hk, Option.bind_some, toNat_ofNat, app_tail, vz, cond_true, cond_false, w64_eq, inc_eq, toNat_add, tail2, k41, k44, specShowRec_eq hk, hs, seq_refl, Bool.not_true, seqF (var_ne _ _)]
  · have hs : showRec (((2 : Nat) : Int), ((b : Int), (a.2.2.1, (ByteArray.empty, (0, (0, ())))))) = varT 2 ++ (varT b ++ (varT a.2.2.1.size ++ (a.2.2.1 ++ ⟨#[]⟩))) := by rw [show ((2 : Nat) : Int) = 2 from rfl, ← ha]; exact e
    rw [e]
    conv => rhs; rw [ha]
    have v1 := varT_size 2
    have v2 := varT_size b
    have v3 := varT_size a.2.2.1.size
    simp (disch := first | omega | (simp only [sz_app, e0]; omega)) only [specReadVar_ok hk, l5_ok hk, Option.bind_some, toNat_ofNat, app_tail, vz, cond_true, cond_false, w64_eq, inc_eq, toNat_add, tail2, k21, k24, k22, specShowRec_eq hk, hs, seq_refl, Bool.not_true, seqF (var_ne _ _)]
    rfl
  · have hs : showRec ((kd : Int), ((b : Int), (ByteArray.empty, (ByteArray.empty, ((c : Int), ((x : Int), ())))))) = varT kd ++ (varT b ++ (varT c ++ (fixT x ++ ⟨#[]⟩))) := by rw [← ha]; exact e
    rw [e, ha]
    have v1 := varT_size kd
    have v2 := varT_size b
    have v3 := varT_size c
    have v4 := fixT_size x
    simp (disch := first | omega | (simp only [sz_app, e0]; omega)) only [specReadVar_ok hk, specReadFixed_ok hk z2, Option.bind_some, toNat_ofNat, app_tail, vz, cond_true, cond_false, w64_eq, inc_eq, toNat_add, tail2, kb1, kb2, kb4, specShowRec_eq hk, hs, seq_refl, Bool.not_true, seqF (var_ne _ _)]
theorem specReadRec_any {k : Nat} (hk : 2 ^ 50 ≤ k) {s : ByteArray} (hs : s.size ≤ 1099511627776) :
    (∃ r, recOk r = true ∧ showRec r = s ∧ spec_ReadRec.f k s = some (r, (true, ()))) ∨ spec_ReadRec.f k s = some (zRec, (false, ())) := by
  unfold spec_ReadRec.f spec_ReadRec.t
  rcases rv_cases s with ⟨kd, t, hkd, rfl⟩ | h0
  case inr =>
    right
    rw [specReadVar_bad hk h0, Option.bind_some]
    simp only []
    rw [inc_eq (by omega) (by omega), specReadVar_rv hk, Option.bind_some]
    rfl
  have v1 := varT_size kd
  rw [sz_app] at hs
  rcases rv_cases t with ⟨b, t2, hb, rfl⟩ | h1
  case inr =>
    right
    simp (disch := first | omega | (simp only [sz_app, e0]; omega)) only [specReadVar_ok hk, specReadVar_bad hk h1, Option.bind_some, toNat_ofNat, app_tail, vz, cond_true, cond_false, w64_eq, inc_eq, show (((0 : Int) == 0)) = true from rfl]
  have v2 := varT_size b
  rw [sz_app] at hs
  by_cases c2 : kd = 2
  · subst c2
    rcases tx_cases t2 with ⟨key, t3, hu, rfl⟩ | bad
    · simp only [sz_app] at hs
      simp (disch := first | omega | (simp only [sz_app, e0]; omega)) only [specReadVar_ok hk, l5_ok hk, Option.bind_some, toNat_ofNat, app_tail, vz, cond_true, cond_false, w64_eq, inc_eq, toNat_add, tail2, k21, k24, k22, specShowRec_eq hk]
      exact spec_end (var_ne _ _)
    · have hb5 := l5_bad hk (by omega) bad
      simp (disch := first | omega | (simp only [sz_app, e0]; omega)) only [specReadVar_ok hk, hb5, Option.bind_some, toNat_ofNat, app_tail, vz, cond_true, cond_false, w64_eq, inc_eq, toNat_add, tail2, k21, k24, k22, specShowRec_eq hk]
      exact spec_end (var_ne _ _)
  by_cases c1 : kd = 1 ∨ kd = 4
  · have em : spec_l5Text.f k ⟨#[]⟩ = some (⟨#[]⟩, (⟨#[]⟩, (false, ()))) := l5_bad hk (by decide) (.inl rfl)
    obtain ⟨u, l, bb, hl, e⟩ : ∃ u l bb, l.size ≤ 1099511627776 ∧ spec_l5Text.f k t2 = some (u, (l, (bb, ()))) := by
      rcases tx_cases t2 with ⟨key, t3, hu, rfl⟩ | bad
      · simp only [sz_app] at hs
        exact ⟨_, _, _, by omega, l5_ok hk hu (by simp only [sz_app]; omega)⟩
      · exact ⟨_, _, _, by decide, l5_bad hk (by omega) bad⟩
    obtain ⟨u2, l2, bb2, e2⟩ : ∃ u l' bb, spec_l5Text.f k l = some (u, (l', (bb, ()))) := by
      rcases tx_cases l with ⟨key, t3, hu, rfl⟩ | bad
      · exact ⟨_, _, _, l5_ok hk hu (by simp only [sz_app] at hl ⊢; omega)⟩
      · exact ⟨_, _, _, l5_bad hk hl bad⟩
    rcases c1 with rfl | rfl
    · simp (disch := first | omega | (simp only [sz_app, e0]; omega)) only [specReadVar_ok hk, e, e2, Option.bind_some, toNat_ofNat, app_tail, vz, cond_true, cond_false, w64_eq, inc_eq, toNat_add, tail2, k11, specShowRec_eq hk]
      exact spec_end (var_ne _ _)
    · simp (disch := first | omega | (simp only [sz_app, e0]; omega)) only [specReadVar_ok hk, e, e2, Option.bind_some, toNat_ofNat, app_tail, vz, cond_true, cond_false, w64_eq, inc_eq, toNat_add, tail2, k41, k44, specShowRec_eq hk]
      exact spec_end (var_ne _ _)
  have d1 : kd ≠ 1 := fun q => c1 (.inl q)
  have d4 : kd ≠ 4 := fun q => c1 (.inr q)
  have rf : ∀ u : ByteArray, ∃ z zb, spec_ReadFixed.f k u 4 = some (z, (zb, ())) := fun u => by
    rcases fx_cases u with ⟨x, t, hx, rfl⟩ | q
    · exact ⟨_, _, specReadFixed_ok hk hx t⟩
    · exact ⟨_, _, specReadFixed_bad k q⟩
  rcases rv_cases t2 with ⟨c, t3, hc, rfl⟩ | h2
  · have v3 := varT_size c
    rw [sz_app] at hs
    obtain ⟨z, zb, e⟩ := rf t3
    simp (disch := first | omega | (simp only [sz_app, e0]; omega)) only [specReadVar_ok hk, e, Option.bind_some, toNat_ofNat, app_tail, vz, cond_true, cond_false, w64_eq, inc_eq, toNat_add, tail2, kb1 d1, kb2 c2, kb4 d4, specShowRec_eq hk]
    exact spec_end (var_ne _ _)
  · obtain ⟨z, zb, e⟩ := rf (ByteArray.extract t2 (Int.toNat 0) t2.size)
    simp (disch := first | omega | (simp only [sz_app, e0]; omega)) only [specReadVar_ok hk, specReadVar_bad hk h2, e, Option.bind_some, toNat_ofNat, app_tail, vz, cond_true, cond_false, w64_eq, inc_eq, toNat_add, tail2, kb1 d1, kb2 c2, kb4 d4, specShowRec_eq hk]
    exact spec_end (var_ne _ _)
noncomputable def readRecM (s : ByteArray) : Ty.den TRec × Bool := undo (fun r => recOk r = true) showRec zRec s
theorem implReadRec_eq {k : Nat} (hk : 2 ^ 50 ≤ k) {s : ByteArray} (hs : s.size ≤ 1099511627776) : impl_ReadRec.f k s = some ((readRecM s).1, ((readRecM s).2, ())) :=
  undo_of (fun r h1 h2 => by rw [← h2]; exact implReadRec_1 hk h1) (implReadRec_any hk hs)
theorem specReadRec_eq {k : Nat} (hk : 2 ^ 50 ≤ k) {s : ByteArray} (hs : s.size ≤ 1099511627776) : spec_ReadRec.f k s = some ((readRecM s).1, ((readRecM s).2, ())) :=
  undo_of (fun r h1 h2 => by rw [← h2]; exact specReadRec_1 hk h1) (specReadRec_any hk hs)
theorem showRec_inj {a b : Ty.den TRec} (ha : recOk a = true) (hb : recOk b = true) (h : showRec a = showRec b) : a = b := by
  have h1 := implReadRec_1 (k := 2 ^ 50) (Nat.le_refl _) ha
  rw [h, implReadRec_1 (Nat.le_refl _) hb] at h1
  exact (Prod.mk.inj (Option.some.inj h1)).1.symm
theorem readRec_show {a : Ty.den TRec} (h : recOk a = true) : readRecM (showRec a) = (a, true) := undo_eq (fun _ _ ha hb => showRec_inj ha hb) h
theorem readRec_ok {s : ByteArray} {r : Ty.den TRec} (h : readRecM s = (r, true)) : recOk r = true ∧ showRec r = s := undo_ok h
/- Unframe. -/
theorem frame_form {t : ByteArray} (h : t.size ≤ 200) : ∃ x, x < 4294967296 ∧ frameM t = fixT x ++ (varT t.size ++ t) := by
  have := crcM_in (textB t)
  refine ⟨(crcM (textB t)).toNat, by omega, ?_⟩
  unfold frameM fix4
  rw [if_neg (by omega)]
  unfold textB
  rw [varB_nat (by omega)]
theorem frame_inj {t u s r : ByteArray} (ht : t.size ≤ 200) (hu : u.size ≤ 200) (h : frameM t ++ s = frameM u ++ r) : t = u ∧ s = r := by
  obtain ⟨x, hx, e⟩ := frame_form ht
  obtain ⟨y, hy, f⟩ := frame_form hu
  rw [e, f, app_assoc, app_assoc, app_assoc, app_assoc] at h
  have h2 := (app_inj h rfl).2
  obtain ⟨h3, h4⟩ := varT_inj (by omega) (by omega) h2
  exact app_inj h4 h3
theorem tail4 (x : Nat) (u : ByteArray) : ByteArray.extract (fixT x ++ u) 4 (fixT x ++ u).size = u := app_tail (fixT x) u
theorem mid4 (x : Nat) (v t r : ByteArray) : ByteArray.extract (fixT x ++ (v ++ (t ++ r))) (4 + v.size) (4 + v.size + t.size) = t := by
  have := mid (fixT x ++ v) t r
  rw [sz_app, fixT_size, app_assoc] at this
  exact this
theorem head4 (x : Nat) (v t r : ByteArray) : ByteArray.extract (fixT x ++ (v ++ (t ++ r))) 0 (4 + v.size + t.size) = fixT x ++ (v ++ t) := by
  have := app_head (fixT x ++ (v ++ t)) r
  rw [sz_app, sz_app, fixT_size, app_assoc, app_assoc, ← Nat.add_assoc] at this
  exact this
theorem c4 (a : Nat) : (4 : Int) + (a : Int) = ((4 + a : Nat) : Int) := rfl
theorem implUnframe_at {k : Nat} (hk : 2 ^ 50 ≤ k) {x : Nat} {t r : ByteArray} (ht : t.size ≤ 200) (hr : t.size + r.size ≤ 1099511627776) :
    impl_Unframe.f k (fixT x ++ (varT t.size ++ (t ++ r))) = bif !seq (frameM t) (fixT x ++ (varT t.size ++ t)) then some (⟨#[]⟩, (0, ())) else some (t, (((4 + (varT t.size).size + t.size : Nat) : Int), ())) := by
  have v1 := varT_size t.size
  have z1 : (fixT x ++ (varT t.size ++ (t ++ r))).size = 4 + ((varT t.size).size + (t.size + r.size)) := by rw [fx_sz, sz_app, sz_app]
  unfold impl_Unframe.f impl_Unframe.t
  rw [decF (by omega), cond_false, inc_eq (by omega) (by omega), tail4, implReadVar_ok hk (by omega) (by rw [sz_app]; omega), Option.bind_some]
  simp only [vz, cond_false]
  rw [decF (by omega), cond_false, w64_eq (n := ((fixT x ++ (varT t.size ++ (t ++ r))).size : Int) - 4) (by omega) (by omega), w64_eq (n := ((fixT x ++ (varT t.size ++ (t ++ r))).size : Int) - 4 - _) (by omega) (by omega), decF (by omega), cond_false,
    c4, w64_eq (by omega) (by omega), cast_add, w64_eq (by omega) (by omega), inc2_eq (by omega) (by omega) (by omega), toNat_ofNat, toNat_ofNat, mid4, implFrame_eq hk, Option.bind_some, inc_eq (by omega) (by omega), head4]
theorem specUnframe_at {k : Nat} (hk : 2 ^ 50 ≤ k) {x : Nat} {t r : ByteArray} (ht : t.size ≤ 200) (hr : t.size + r.size ≤ 1099511627776) :
    spec_Unframe.f k (fixT x ++ (varT t.size ++ (t ++ r))) = bif !seq (frameM t) (fixT x ++ (varT t.size ++ t)) then some (⟨#[]⟩, (0, ())) else some (t, (((4 + (varT t.size).size + t.size : Nat) : Int), ())) := by
  have v1 := varT_size t.size
  have z1 : (fixT x ++ (varT t.size ++ (t ++ r))).size = 4 + ((varT t.size).size + (t.size + r.size)) := by rw [fx_sz, sz_app, sz_app]
  unfold spec_Unframe.f spec_Unframe.t
  rw [decF (by omega), cond_false, inc_eq (by omega) (by omega), tail4, specReadVar_ok hk (by omega), Option.bind_some]
  simp only [vz, cond_false]
  rw [decF (by omega), cond_false, w64_eq (n := ((fixT x ++ (varT t.size ++ (t ++ r))).size : Int) - 4) (by omega) (by omega), w64_eq (n := ((fixT x ++ (varT t.size ++ (t ++ r))).size : Int) - 4 - _) (by omega) (by omega), decF (by omega), cond_false,
    c4, w64_eq (by omega) (by omega), cast_add, w64_eq (by omega) (by omega), inc2_eq (by omega) (by omega) (by omega), toNat_ofNat, toNat_ofNat, mid4, specFrame_eq hk, inc_eq (by omega) (by omega), Option.bind_some, head4,
    show seq (fixT x ++ (varT t.size ++ t)) (frameM t) = seq (frameM t) (fixT x ++ (varT t.size ++ t)) by rw [seq_dec, seq_dec]; exact decide_eq_decide.2 ⟨Eq.symm, Eq.symm⟩]
/-- A number, a text of that length, and what is behind. -/
theorem un_cases (s : ByteArray) (hs : s.size ≤ 1099511627776) : (∃ x t r, x < 4294967296 ∧ t.size ≤ 200 ∧ t.size + r.size ≤ 1099511627776 ∧ s = fixT x ++ (varT t.size ++ (t ++ r))) ∨ s.size < 5 ∨ (∃ x u, x < 4294967296 ∧ s = fixT x ++ u ∧ 1 ≤ u.size ∧ rv 7 (nb u) = none) ∨
    (∃ x a u, x < 4294967296 ∧ a < 562949953421312 ∧ s = fixT x ++ (varT a ++ u) ∧ (200 < a ∨ u.size < a)) := by
  rcases fx_cases s with ⟨x, u, hx, rfl⟩ | h
  · rw [fx_sz] at hs
    rcases rv_cases u with ⟨a, v, ha, rfl⟩ | h
    · rw [sz_app] at hs
      by_cases c : 200 < a ∨ v.size < a
      · exact .inr (.inr (.inr ⟨x, a, v, hx, ha, rfl, c⟩))
      · left
        have e := split_at v (n := a) (by omega)
        have hz : (ByteArray.extract v 0 a).size = a := by rw [← nb_len, nb_extract, List.length_take, nb_len]; omega
        refine ⟨x, ByteArray.extract v 0 a, ByteArray.extract v a v.size, hx, by omega, ?_, by rw [hz, ← e]⟩
        have := congrArg ByteArray.size e
        rw [sz_app] at this
        omega
    · by_cases c : 1 ≤ u.size
      · exact .inr (.inr (.inl ⟨x, u, hx, rfl, c, h⟩))
      · exact .inr (.inl (by rw [fx_sz]; omega))
  · exact .inr (.inl (by omega))
theorem implUnframe_bad {k : Nat} (hk : 2 ^ 50 ≤ k) {s : ByteArray} (hs : s.size ≤ 1099511627776) (h : s.size < 5 ∨ (∃ x u, x < 4294967296 ∧ s = fixT x ++ u ∧ 1 ≤ u.size ∧ rv 7 (nb u) = none) ∨
    (∃ x a u, x < 4294967296 ∧ a < 562949953421312 ∧ s = fixT x ++ (varT a ++ u) ∧ (200 < a ∨ u.size < a))) : impl_Unframe.f k s = some (⟨#[]⟩, (0, ())) := by
  unfold impl_Unframe.f impl_Unframe.t
  rcases h with h | ⟨x, u, hx, rfl, hu, h⟩ | ⟨x, a, u, hx, ha, rfl, h⟩
  · by_cases c : s.size < 4
    · rw [decT (by omega), cond_true]
    · have e : ByteArray.extract s 4 s.size = ⟨#[]⟩ := nb_inj (by rw [ext_tail, List.drop_eq_nil_of_le (by rw [nb_len]; omega)]; rfl)
      rw [decF (by omega), cond_false, inc_eq (by omega) (by omega), e, implReadVar_bad hk rfl (by decide), Option.bind_some]
      rfl
  · rw [fx_sz] at hs
    rw [decF (by rw [fx_sz]; omega), cond_false, inc_eq (by omega) (by rw [fx_sz]; omega), tail4, implReadVar_bad hk h (by omega), Option.bind_some]
    rfl
  · have v1 := varT_size a
    have z1 : (fixT x ++ (varT a ++ u)).size = 4 + ((varT a).size + u.size) := by rw [fx_sz, sz_app]
    rw [decF (by omega), cond_false, inc_eq (by omega) (by omega), tail4, implReadVar_ok hk ha (by omega), Option.bind_some]
    simp only [vz, cond_false]
    by_cases c : 200 < a
    · rw [decT (by omega), cond_true]
    · rw [decF (by omega), cond_false, w64_eq (n := ((fixT x ++ (varT a ++ u)).size : Int) - 4) (by omega) (by omega), w64_eq (n := ((fixT x ++ (varT a ++ u)).size : Int) - 4 - _) (by omega) (by omega), decT (by omega), cond_true]
theorem specUnframe_bad {k : Nat} (hk : 2 ^ 50 ≤ k) {s : ByteArray} (hs : s.size ≤ 1099511627776) (h : s.size < 5 ∨ (∃ x u, x < 4294967296 ∧ s = fixT x ++ u ∧ 1 ≤ u.size ∧ rv 7 (nb u) = none) ∨
    (∃ x a u, x < 4294967296 ∧ a < 562949953421312 ∧ s = fixT x ++ (varT a ++ u) ∧ (200 < a ∨ u.size < a))) : spec_Unframe.f k s = some (⟨#[]⟩, (0, ())) := by
  unfold spec_Unframe.f spec_Unframe.t
  rcases h with h | ⟨x, u, hx, rfl, hu, h⟩ | ⟨x, a, u, hx, ha, rfl, h⟩
  · rw [decT (by omega), cond_true]
  · rw [fx_sz] at hs
    rw [decF (by rw [fx_sz]; omega), cond_false, inc_eq (by omega) (by rw [fx_sz]; omega), tail4, specReadVar_bad hk h, Option.bind_some]
    rfl
  · have v1 := varT_size a
    have z1 : (fixT x ++ (varT a ++ u)).size = 4 + ((varT a).size + u.size) := by rw [fx_sz, sz_app]
    rw [decF (by omega), cond_false, inc_eq (by omega) (by omega), tail4, specReadVar_ok hk ha, Option.bind_some]
    simp only [vz, cond_false]
    by_cases c : 200 < a
    · rw [decT (by omega), cond_true]
    · rw [decF (by omega), cond_false, w64_eq (n := ((fixT x ++ (varT a ++ u)).size : Int) - 4) (by omega) (by omega), w64_eq (n := ((fixT x ++ (varT a ++ u)).size : Int) - 4 - _) (by omega) (by omega), decT (by omega), cond_true]
section
open Classical
noncomputable def unfM (s : ByteArray) : ByteArray × Int := if h : ∃ t r, t.size ≤ 200 ∧ s = frameM t ++ r then (h.choose, ((frameM h.choose).size : Int)) else (⟨#[]⟩, 0)
theorem unf_frame {t : ByteArray} (r : ByteArray) (h : t.size ≤ 200) : unfM (frameM t ++ r) = (t, ((frameM t).size : Int)) := by
  have q : ∃ u v, u.size ≤ 200 ∧ frameM t ++ r = frameM u ++ v := ⟨t, r, h, rfl⟩
  unfold unfM
  rw [dif_pos q]
  obtain ⟨v, h1, h2⟩ := q.choose_spec
  have := (frame_inj h h1 h2).1
  rw [← this]
theorem unf_cases (s : ByteArray) : (∃ t r, t.size ≤ 200 ∧ s = frameM t ++ r ∧ unfM s = (t, ((frameM t).size : Int))) ∨ (unfM s = (⟨#[]⟩, 0) ∧ ∀ t r, t.size ≤ 200 → s ≠ frameM t ++ r) := by
  by_cases q : ∃ t r, t.size ≤ 200 ∧ s = frameM t ++ r
  · obtain ⟨t, r, h, rfl⟩ := q
    exact .inl ⟨t, r, h, rfl, unf_frame r h⟩
  · right
    refine ⟨?_, fun t r h e => q ⟨t, r, h, e⟩⟩
    unfold unfM
    rw [dif_neg q]
end
theorem un_of {k : Nat} {f : ByteArray → Option (ByteArray × Int × Unit)} (h1 : ∀ x t r, x < 4294967296 → t.size ≤ 200 → t.size + r.size ≤ 1099511627776 → f (fixT x ++ (varT t.size ++ (t ++ r))) = bif !seq (frameM t) (fixT x ++ (varT t.size ++ t)) then some (⟨#[]⟩, (0, ())) else some (t, (((4 + (varT t.size).size + t.size : Nat) : Int), ())))
    (h2 : ∀ s, s.size ≤ 1099511627776 → (s.size < 5 ∨ (∃ x u, x < 4294967296 ∧ s = fixT x ++ u ∧ 1 ≤ u.size ∧ rv 7 (nb u) = none) ∨ (∃ x a u, x < 4294967296 ∧ a < 562949953421312 ∧ s = fixT x ++ (varT a ++ u) ∧ (200 < a ∨ u.size < a))) → f s = some (⟨#[]⟩, (0, ())))
    {s : ByteArray} (hs : s.size ≤ 1099511627776) : f s = some ((unfM s).1, ((unfM s).2, ())) := by
  rcases un_cases s hs with ⟨x, t, r, hx, ht, hr, rfl⟩ | h
  · rw [h1 x t r hx ht hr]
    by_cases c : frameM t = fixT x ++ (varT t.size ++ t)
    · have e : fixT x ++ (varT t.size ++ (t ++ r)) = frameM t ++ r := by rw [c, app_assoc, app_assoc]
      rw [seqT c, e, unf_frame r ht, c, fx_sz, sz_app, Nat.add_assoc]
      rfl
    · rw [seqF c]
      rcases unf_cases (fixT x ++ (varT t.size ++ (t ++ r))) with ⟨t', r', ht', e, _⟩ | ⟨e, _⟩
      · exfalso
        obtain ⟨y, hy, f'⟩ := frame_form ht'
        rw [f', app_assoc, app_assoc] at e
        have h3 := app_inj e rfl
        obtain ⟨h4, h5⟩ := varT_inj (by omega) (by omega) h3.2
        have h6 := app_inj h5 h4
        apply c
        rw [h6.1, f', h3.1]
      · rw [e]; rfl
  · rw [h2 s hs h]
    rcases unf_cases s with ⟨t', r', ht', e, _⟩ | ⟨e, _⟩
    · exfalso
      obtain ⟨y, hy, f'⟩ := frame_form ht'
      have hp := frameM_pos ht'
      rw [f', app_assoc, app_assoc] at e
      rcases h with h | ⟨x, u, hx, e2, hu, h⟩ | ⟨x, a, u, hx, ha, e2, h⟩
      · rw [e, fx_sz, sz_app] at h
        have := varT_size t'.size
        omega
      · rw [e2] at e
        rw [(app_inj e rfl).2, rv_app (by omega)] at h
        cases h
      · rw [e2] at e
        obtain ⟨h4, h5⟩ := varT_inj ha (by omega) (app_inj e rfl).2
        rw [h5, h4, sz_app] at h
        omega
    · rw [e]
theorem implUnframe_eq {k : Nat} (hk : 2 ^ 50 ≤ k) {s : ByteArray} (hs : s.size ≤ 1099511627776) : impl_Unframe.f k s = some ((unfM s).1, ((unfM s).2, ())) :=
  un_of (k := k) (fun x t r _ ht hr => implUnframe_at hk ht hr) (fun s hs h => implUnframe_bad hk hs h) hs
theorem specUnframe_eq {k : Nat} (hk : 2 ^ 50 ≤ k) {s : ByteArray} (hs : s.size ≤ 1099511627776) : spec_Unframe.f k s = some ((unfM s).1, ((unfM s).2, ())) :=
  un_of (k := k) (fun x t r _ ht hr => specUnframe_at hk ht hr) (fun s hs h => specUnframe_bad hk hs h) hs
theorem unf_bound (s : ByteArray) : (unfM s).1.size ≤ 200 ∧ ((unfM s).2 = 0 ∨ 5 ≤ (unfM s).2) ∧ (unfM s).2 ≤ s.size ∧ (unfM s).2 ≤ 211 := by
  rcases unf_cases s with ⟨t, r, h, rfl, e⟩ | ⟨e, _⟩
  · rw [e, sz_app]
    have := frameM_pos h
    have := frameM_size t
    refine ⟨h, ?_, ?_, ?_⟩ <;> simp only [] <;> omega
  · rw [e]
    refine ⟨by simp only [e0]; omega, .inl rfl, by simp only []; omega, by simp only []; omega⟩
theorem unf_nil : unfM ⟨#[]⟩ = (⟨#[]⟩, 0) := by
  rcases unf_cases ⟨#[]⟩ with ⟨t, r, h, e, _⟩ | ⟨e, _⟩
  · have := congrArg ByteArray.size e
    rw [sz_app, e0] at this
    have := frameM_pos h
    omega
  · exact e
/- ScanRecs. -/
noncomputable def scanN (s : ByteArray) : Nat → Int → List (Ty.den TSpot) × Int
  | 0, at_ => ([], at_)
  | d + 1, at_ =>
    if (unfM (ByteArray.extract s at_.toNat s.size)).2 = 0 then ([], at_)
    else if (readRecM (unfM (ByteArray.extract s at_.toNat s.size)).1).2 = false then ([], at_)
    else (((at_, ((unfM (ByteArray.extract s at_.toNat s.size)).2, ((readRecM (unfM (ByteArray.extract s at_.toNat s.size)).1).1, ()))) : Ty.den TSpot) :: (scanN s d (at_ + (unfM (ByteArray.extract s at_.toNat s.size)).2)).1,
      (scanN s d (at_ + (unfM (ByteArray.extract s at_.toNat s.size)).2)).2)
noncomputable def scanM (s : ByteArray) : List (Ty.den TSpot) × Int := scanN s (s.size + 1) 0
theorem ext_size (s : ByteArray) (n : Nat) : (ByteArray.extract s n s.size).size = s.size - n := by rw [← nb_len, ext_tail, List.length_drop, nb_len]
theorem scanL {k : Nat} (hk : 2 ^ 50 ≤ k) {s : ByteArray} (hs : s.size ≤ 1099511627776) : ∀ (d n : Nat) (i : Int) (out : List (Ty.den TSpot)), 0 ≤ i → i ≤ s.size → (s.size : Int) - i < d → d ≤ n → (out.length : Int) ≤ i →
    impl_ScanRecs.l0 k n s i out = some (out ++ (scanN s d i).1, ((scanN s d i).2, ())) ∧ spec_ScanRecs.l0 k n s i out = some (out ++ (scanN s d i).1, ((scanN s d i).2, ())) := by
  intro d
  induction d with
  | zero => intro n i out h0 h1 h2; omega
  | succ d ih =>
    intro n i out h0 h1 h2 h3 h4
    obtain ⟨n, rfl⟩ : ∃ q, n = q + 1 := ⟨n - 1, by omega⟩
    have hz := ext_size s i.toNat
    have hu := unf_bound (ByteArray.extract s i.toNat s.size)
    have e1 := implUnframe_eq hk (s := ByteArray.extract s i.toNat s.size) (by omega)
    have e2 := specUnframe_eq hk (s := ByteArray.extract s i.toNat s.size) (by omega)
    have hnil : i = s.size → (unfM (ByteArray.extract s i.toNat s.size)).2 = 0 := fun q => by
      have : ByteArray.extract s i.toNat s.size = ⟨#[]⟩ := nb_inj (by rw [ext_tail, List.drop_eq_nil_of_le (by rw [nb_len]; omega)]; rfl)
      rw [this, unf_nil]
    simp only [scanN]
    generalize unfM (ByteArray.extract s i.toNat s.size) = u at *
    have e3 := implReadRec_eq hk (s := u.1) (by omega)
    have e4 := specReadRec_eq hk (s := u.1) (by omega)
    generalize readRecM u.1 = r at *
    by_cases c : u.2 = 0
    · rw [if_pos c]
      have cb : (u.2 == 0) = true := by rw [c]; rfl
      simp only [List.append_nil]
      constructor
      · simp (disch := omega) only [impl_ScanRecs.l0, impl_ScanRecs.b0, inc_eq, e1, e3, Option.bind_some, cb, cond_true]
      · by_cases q : i < s.size
        · simp (disch := omega) only [spec_ScanRecs.l0, spec_ScanRecs.b0, decT, inc_eq, e2, e4, Option.bind_some, cb, cond_true]
        · simp (disch := omega) only [spec_ScanRecs.l0, spec_ScanRecs.b0, decF, cond_false]
    · rw [if_neg c]
      have cb : (u.2 == 0) = false := beq_eq_false_iff_ne.2 c
      have hlt : i < s.size := by
        rcases Int.lt_or_eq_of_le h1 with q | q
        · exact q
        · exact absurd (hnil q) c
      cases hr : r.2 with
      | false =>
        simp only [if_true, List.append_nil]
        constructor
        · simp (disch := omega) only [impl_ScanRecs.l0, impl_ScanRecs.b0, inc_eq, e1, e3, Option.bind_some, cb, cond_true, cond_false, hr, Bool.not_false]
        · simp (disch := omega) only [spec_ScanRecs.l0, spec_ScanRecs.b0, decT, inc_eq, e2, e4, Option.bind_some, cb, cond_true, cond_false, hr, Bool.not_false]
      | true =>
        rw [if_neg (by decide)]
        have hlen : out.length + 1 ≤ 1099511627777 := by omega
        have ih := ih n (i + u.2) (out ++ [(i, (u.2, (r.1, ())))]) (by omega) (by omega) (by omega) (by omega) (by rw [List.length_append]; show ((out.length + 1 : Nat) : Int) ≤ _; omega)
        simp only [List.append_assoc, List.cons_append, List.nil_append] at ih
        constructor
        · simp (disch := first | omega | decide) only [impl_ScanRecs.l0, impl_ScanRecs.b0, inc_eq, e1, e3, Option.bind_some, cb, cond_true, cond_false, hr, Bool.not_true, rm_ok, w64_eq]
          exact ih.1
        · simp (disch := first | omega | decide) only [spec_ScanRecs.l0, spec_ScanRecs.b0, decT, inc_eq, e2, e4, Option.bind_some, cb, cond_true, cond_false, hr, Bool.not_true, rm_ok, w64_eq]
          exact ih.2
theorem implScan_eq {k : Nat} (hk : 2 ^ 50 ≤ k) {s : ByteArray} (hs : s.size ≤ 1099511627775) : impl_ScanRecs.f k s = some ((scanM s).1, ((scanM s).2, ())) :=
  (scanL hk (by omega) (s.size + 1) k 0 [] (by omega) (by omega) (by omega) (by omega) (by simp)).1
theorem specScan_eq {k : Nat} (hk : 2 ^ 50 ≤ k) {s : ByteArray} (hs : s.size ≤ 1099511627775) : spec_ScanRecs.f k s = some ((scanM s).1, ((scanM s).2, ())) :=
  (scanL hk (by omega) (s.size + 1) k 0 [] (by omega) (by omega) (by omega) (by omega) (by simp)).2
theorem scanN_len (s : ByteArray) : ∀ (d : Nat) (i : Int), 0 ≤ i → i ≤ s.size → ((scanN s d i).1.length : Int) ≤ s.size - i ∧ i ≤ (scanN s d i).2 ∧ (scanN s d i).2 ≤ s.size
  | 0, i, h0, h1 => by simp only [scanN, List.length_nil]; omega
  | d + 1, i, h0, h1 => by
    have hu := unf_bound (ByteArray.extract s i.toNat s.size)
    have hz := ext_size s i.toNat
    rw [scanN]
    split
    · simp only [List.length_nil]; omega
    · split
      · simp only [List.length_nil]; omega
      · rename_i c1 c2
        have ih := scanN_len s d (i + (unfM (ByteArray.extract s i.toNat s.size)).2) (by omega) (by omega)
        simp only [List.length_cons]
        omega
theorem scanM_len (s : ByteArray) : (scanM s).1.length ≤ s.size ∧ 0 ≤ (scanM s).2 ∧ (scanM s).2 ≤ s.size := by
  have := scanN_len s (s.size + 1) 0 (by omega) (by omega)
  unfold scanM
  omega
end Go.Proofs.YtgcahahklmfleaaGreatDoor.G

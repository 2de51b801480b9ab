/- M: ShowLive, ReadLive: what they answer, in both readings. -/
import Derived.Test.YtgcahahklmfleaaGreatDoorMLive
import Derived.Test.YtgcahahklmfleaaGreatDoorMScan2
set_option linter.unusedVariables false
set_option linter.unusedSimpArgs false
namespace Go.Proofs.YtgcahahklmfleaaGreatDoor.G
open Go.V
theorem vl_len1 (d : Nat) {a : Nat} (h : a < 128) : (vl d a).length = 1 := by
  cases d with
  | zero => rfl
  | succ d => unfold vl; rw [if_neg (by omega)]; rfl
theorem vl_len3 {a : Nat} (h : a < 2097152) : (vl 6 a).length ≤ 3 := by
  unfold vl
  split
  · rw [List.length_cons]
    unfold vl
    split
    · rw [List.length_cons, vl_len1 4 (by omega)]
      omega
    · simp
  · simp
theorem varB_small {a : Int} (h0 : 0 ≤ a) (h1 : a ≤ 100000) : (varB a).size ≤ 3 := by
  obtain ⟨n, rfl⟩ := Int.eq_ofNat_of_zero_le h0
  rw [varB_nat (by omega), ← varT_len (by omega)]
  exact vl_len3 (by omega)
def varsT : List Int → ByteArray
  | [] => ⟨#[]⟩
  | x :: l => varB x ++ varsT l
theorem varsT_small : ∀ (l : List Int), (∀ x ∈ l, 0 ≤ x ∧ x ≤ 100000) → (varsT l).size ≤ 3 * l.length
  | [], _ => Nat.le_refl _
  | x :: l, h => by
    have h1 := varB_small (h x (List.mem_cons_self ..)).1 (h x (List.mem_cons_self ..)).2
    have h2 := varsT_small l fun y hy => h y (List.mem_cons_of_mem _ hy)
    rw [varsT, sz_app, List.length_cons]
    omega
theorem varsT_size : ∀ (l : List Int), (varsT l).size ≤ 7 * l.length
  | [] => Nat.le_refl _
  | x :: l => by
    have h1 := varB_size x
    have h2 := varsT_size l
    rw [varsT, sz_app, List.length_cons]
    omega
def liveT (v : Ty.den TLive) : ByteArray := varB v.1 ++ (varB (v.2.1.length : Int) ++ varsT v.2.1)
def showLiveM (v : Ty.den TLive) : ByteArray := if liveM v = true then frameM (liveT v) else ⟨#[]⟩
theorem live_facts {nx : Int} {ids : List Int} (h : liveM (nx, (ids, ())) = true) : 1 ≤ nx ∧ nx ≤ 100000 ∧ 1 ≤ ids.length ∧ ids.length ≤ 60 ∧ ∀ x ∈ ids, 0 ≤ x ∧ x ≤ 100000 := by
  unfold liveM at h
  simp only [Bool.and_eq_true, decide_eq_true_eq] at h
  obtain ⟨h1, h2, h3⟩ := h
  have h1a : 1 ≤ nx := h1.1
  have h1b : nx ≤ 100000 := h1.2
  refine ⟨h1a, h1b, by omega, by omega, fun x hx => ?_⟩
  obtain ⟨p, hp⟩ := adj_all h3 hx
  unfold idOk at hp
  rw [Bool.and_eq_true, decide_eq_true_eq] at hp
  have hw : w64 (nx - 1) = nx - 1 := w64_eq (by omega) (by omega)
  have h4 : x ≤ w64 (nx - 1) := hp.1.2
  have h5 : 1 ≤ x := hp.1.1
  omega
theorem liveT_size {nx : Int} {ids : List Int} (h : liveM (nx, (ids, ())) = true) : (liveT (nx, (ids, ()))).size ≤ 200 := by
  obtain ⟨h1, h2, h3, h4, h5⟩ := live_facts h
  have a := varB_small (a := nx) (by omega) h2
  have b := varB_small (a := (ids.length : Int)) (by omega) (by omega)
  have c := varsT_small ids h5
  unfold liveT
  rw [sz_app, sz_app]
  simp only []
  omega
theorem specShowLive_eq {k : Nat} (hk : 2 ^ 50 ≤ k) (v : Ty.den TLive) : spec_ShowLive.f k v = some (showLiveM v, ()) := by
  unfold spec_ShowLive.f spec_ShowLive.t showLiveM
  rw [specLive_eq hk, Option.bind_some]
  cases c : liveM v with
  | false => rfl
  | true =>
    obtain ⟨h1, h2, h3, h4, h5⟩ := live_facts (nx := v.1) (ids := v.2.1) c
    have a := varB_size v.1
    have b := varB_size (v.2.1.length : Int)
    rw [Bool.not_true, cond_false, specVar_eq hk, Option.bind_some, specVar_eq hk, Option.bind_some, if_pos rfl]
    simp only []
    rw [cat_ok (by omega)]
    refine (forL0 (L := fun n i s => spec_ShowLive.l0 k n s i v.1 v.2.1) (R := fun r s => some (frameM (s ++ varsT r), ())) (Ty.dflt (.int .i64)) v.2.1 (fun i s => (s.size : Int) ≤ 14 + 7 * i) (fun n s hs => ?_) (fun n i s x rest g0 g1 hx hr hs ih => ?_) (n := k) (by omega) (by rw [sz_app]; omega)).trans (by rw [app_assoc]; rfl)
    · simp (disch := omega) only [spec_ShowLive.l0, spec_ShowLive.b0, decF, cond_false, specFrame_eq hk, Option.bind_some]
      rw [show varsT [] = ⟨#[]⟩ from rfl, nil_app]
    · have hv := varB_size x
      have ih := ih (s ++ varB x) (by rw [sz_app]; omega)
      simp (disch := omega) only [spec_ShowLive.l0, spec_ShowLive.b0, decT g1, cond_true, inb_eq, hx, specVar_eq hk, Option.bind_some, cat_ok, w64_eq, ih]
      rw [app_assoc]
      rfl
noncomputable def readLiveM (s : ByteArray) : Ty.den TLive × Bool := undo (fun v => liveM v = true) showLiveM (0, ([], ())) s
theorem rvR_in (s : ByteArray) : 0 ≤ (rvR (rv 7 (nb s))).2.1 ∧ (rvR (rv 7 (nb s))).2.1 ≤ (s.size : Int) := by
  cases h : rv 7 (nb s) with
  | none => exact ⟨Int.le_refl _, by show (0 : Int) ≤ _; omega⟩
  | some p =>
    obtain ⟨a, n⟩ := p
    obtain ⟨h1, h2, h3, h4, h5, h6⟩ := rv_some 6 (nb s) a n (nb_lt' s) h
    rw [nb_len] at h4
    exact ⟨by show (0 : Int) ≤ (n : Int); omega, by show (n : Int) ≤ _; omega⟩
def Lno : Option (Ty.den TLive × Bool × Unit) := some ((0, ([], ())), (false, ()))
theorem specLoop_any {k : Nat} (hk : 2 ^ 50 ≤ k) {s t : ByteArray} (ht : t.size ≤ 200) (c nx : Int) : ∀ (d n : Nat) (pos j : Int) (out : List Int), 60 - j = d → d < n → 0 ≤ pos → pos ≤ t.size → 0 ≤ j → (out.length : Int) ≤ j →
    ∃ o, spec_ReadLive.l0 k n s t c pos j [] 0 out nx = bif !seq (showLiveM (nx, (o, ()))) s then Lno else some ((nx, (o, ())), (true, ())) := by
  intro d
  induction d with
  | zero =>
    intro n pos j out hj hn h0 h1 h2 h3
    obtain ⟨n, rfl⟩ : ∃ q, n = q + 1 := ⟨n - 1, by omega⟩
    refine ⟨out, ?_⟩
    simp only [spec_ReadLive.l0, spec_ReadLive.b0]
    rw [decF (show ¬ j < 60 by omega), cond_false, specShowLive_eq hk, Option.bind_some]
    cases decide (j < c) <;> cases seq (showLiveM (nx, (out, ()))) s <;> rfl
  | succ d ih =>
    intro n pos j out hj hn h0 h1 h2 h3
    obtain ⟨n, rfl⟩ : ∃ q, n = q + 1 := ⟨n - 1, by omega⟩
    by_cases c1 : j < c
    · have hr := rvR_in (ByteArray.extract t pos.toNat t.size)
      have he : (ByteArray.extract t pos.toNat t.size).size = t.size - pos.toNat := by rw [← nb_len, ext_tail, List.length_drop, nb_len]
      rw [he] at hr
      obtain ⟨o, ho⟩ := ih n (pos + (rvR (rv 7 (nb (ByteArray.extract t pos.toNat t.size)))).2.1) (j + 1) (out ++ [(rvR (rv 7 (nb (ByteArray.extract t pos.toNat t.size)))).1]) (by omega) (by omega) (by omega) (by omega) (by omega) (by rw [len_snoc]; omega)
      refine ⟨o, ?_⟩
      simp only [spec_ReadLive.l0, spec_ReadLive.b0]
      rw [decT c1, decT (show j < 60 by omega), cond_true, cond_true, inc_eq h0 h1, specReadVar_rv hk, Option.bind_some, rm_ok (by omega) (by decide), w64_eq (n := pos + _) (by omega) (by omega), w64_eq (n := j + 1) (by omega) (by omega)]
      exact ho
    · refine ⟨out, ?_⟩
      simp only [spec_ReadLive.l0, spec_ReadLive.b0]
      rw [decF c1, cond_false, specShowLive_eq hk, Option.bind_some]
      cases seq (showLiveM (nx, (out, ()))) s <;> rfl
theorem varB_int {x : Int} (h0 : 0 ≤ x) (h1 : x ≤ 100000) : ∃ n : Nat, n < 562949953421312 ∧ x = (n : Int) ∧ varB x = varT n := by
  obtain ⟨n, rfl⟩ := Int.eq_ofNat_of_zero_le h0
  exact ⟨n, by omega, rfl, varB_nat (by omega)⟩
theorem specLoop_ok {k : Nat} (hk : 2 ^ 50 ≤ k) {s : ByteArray} (nx : Int) : ∀ (ids : List Int) (pre : ByteArray) (n : Nat) (j c : Int) (out : List Int), (∀ x ∈ ids, 0 ≤ x ∧ x ≤ 100000) → ids.length < n → 0 ≤ j → c = j + ids.length → c ≤ 60 → pre.size + 7 * ids.length ≤ 1000 → (out.length : Int) ≤ j →
    spec_ReadLive.l0 k n s (pre ++ varsT ids) c (pre.size : Int) j [] 0 out nx = bif !seq (showLiveM (nx, (out ++ ids, ()))) s then Lno else some ((nx, (out ++ ids, ())), (true, ())) := by
  intro ids
  induction ids with
  | nil =>
    intro pre n j c out h hn h0 hc h1 hp ho
    obtain ⟨n, rfl⟩ : ∃ q, n = q + 1 := ⟨n - 1, by omega⟩
    rw [List.length_nil] at hc
    simp only [spec_ReadLive.l0, spec_ReadLive.b0]
    rw [decF (show ¬ j < c by omega), cond_false, specShowLive_eq hk, Option.bind_some, List.append_nil]
    cases seq (showLiveM (nx, (out, ()))) s <;> rfl
  | cons x ids ih =>
    intro pre n j c out h hn h0 hc h1 hp ho
    rw [List.length_cons] at hn hc
    obtain ⟨n, rfl⟩ : ∃ q, n = q + 1 := ⟨n - 1, by omega⟩
    obtain ⟨a, ha, hx, hv⟩ := varB_int (h x (List.mem_cons_self ..)).1 (h x (List.mem_cons_self ..)).2
    have hvs := varT_size a
    have hts := varsT_size (x :: ids)
    rw [List.length_cons] at hts
    have ih := ih (pre ++ varT a) n (j + 1) c (out ++ [x]) (fun y hy => h y (List.mem_cons_of_mem _ hy)) (by omega) (by omega) (by omega) h1 ?_ (by rw [len_snoc]; omega)
    · have he : ByteArray.extract (pre ++ varsT (x :: ids)) pre.size (pre ++ varsT (x :: ids)).size = varT a ++ varsT ids := by rw [app_tail, varsT, hv]
      simp only [spec_ReadLive.l0, spec_ReadLive.b0]
      rw [decT (show j < c by omega), decT (show j < 60 by omega), cond_true, cond_true, inc_eq (by omega) (by rw [sz_app]; omega), Int.toNat_natCast, he, specReadVar_rv hk, Option.bind_some, rv_app ha]
      simp only [rvR]
      rw [rm_ok (by omega) (by decide), w64_eq (by omega) (by omega), w64_eq (by omega) (by omega), ← hx, show (pre.size : Int) + ((varT a).size : Int) = ((pre ++ varT a).size : Int) by rw [sz_app]; omega]
      rw [show pre ++ varsT (x :: ids) = pre ++ varT a ++ varsT ids by rw [varsT, hv, app_assoc], ih, List.append_assoc]
      rfl
    · rw [sz_app]
      rw [List.length_cons] at hp
      omega
theorem specReadLive_1 {k : Nat} (hk : 2 ^ 50 ≤ k) {nx : Int} {ids : List Int} (h : liveM (nx, (ids, ())) = true) : spec_ReadLive.f k (showLiveM (nx, (ids, ()))) = some ((nx, (ids, ())), (true, ())) := by
  obtain ⟨g1, g2, g3, g4, g5⟩ := live_facts h
  have hz := liveT_size h
  have hf := frameM_pos hz
  have hfs := frameM_size (liveT (nx, (ids, ())))
  have hu := unf_frame ⟨#[]⟩ hz
  rw [nil_app] at hu
  have e : showLiveM (nx, (ids, ())) = frameM (liveT (nx, (ids, ()))) := if_pos h
  obtain ⟨a, ha, hx, hv⟩ := varB_int (x := nx) (by omega) g2
  obtain ⟨b, hb, hy, hw⟩ := varB_int (x := (ids.length : Int)) (by omega) (by omega)
  have ht : liveT (nx, (ids, ())) = varT a ++ varT b ++ varsT ids := by
    unfold liveT
    rw [app_assoc, ← hv, ← hw]
  have hva := varT_size a
  have hvb := varT_size b
  have hl := specLoop_ok hk (s := showLiveM (nx, (ids, ()))) nx ids (varT a ++ varT b) k 0 (b : Int) [] g5 (by omega) (by omega) (by omega) (by omega) (by rw [sz_app]; omega) (by simp)
  rw [← ht, List.nil_append, seq_refl] at hl
  unfold spec_ReadLive.f spec_ReadLive.t
  rw [specUnframe_eq hk (by rw [e]; omega), Option.bind_some]
  have hu1 : unfM (showLiveM (nx, (ids, ()))) = (liveT (nx, (ids, ())), ((showLiveM (nx, (ids, ()))).size : Int)) := by rw [e]; exact hu
  have r1 : rv 7 (nb (liveT (nx, (ids, ())))) = some (a, (varT a).size) := by rw [ht, app_assoc]; exact rv_app ha _
  have r2 : rv 7 (nb (ByteArray.extract (liveT (nx, (ids, ()))) (varT a).size (liveT (nx, (ids, ()))).size)) = some (b, (varT b).size) := by rw [ht, app_assoc, app_tail]; exact rv_app hb _
  have hsz : (liveT (nx, (ids, ()))).size = (varT a).size + (varT b).size + (varsT ids).size := by rw [ht, sz_app, sz_app]
  rw [hu1]
  simp only []
  rw [specReadVar_rv hk, Option.bind_some, r1]
  simp only [rvR]
  rw [show (((showLiveM (nx, (ids, ()))).size : Int) != ((showLiveM (nx, (ids, ()))).size : Int)) = false by simp, cond_false,
    show (((showLiveM (nx, (ids, ()))).size : Int) == 0) = false from beq_eq_false_iff_ne.2 (by rw [e]; omega), cond_false, show (((varT a).size : Int) == 0) = false from beq_eq_false_iff_ne.2 (by omega), cond_false,
    inc_eq (by omega) (by omega), Int.toNat_natCast, specReadVar_rv hk, Option.bind_some, r2]
  simp only [rvR]
  rw [w64_eq (by omega) (by omega), show ((varT a).size : Int) + ((varT b).size : Int) = ((varT a ++ varT b).size : Int) by rw [sz_app]; omega, ← hx]
  exact hl
theorem specReadLive_eq {k : Nat} (hk : 2 ^ 50 ≤ k) {s : ByteArray} (hs : s.size ≤ 1099511627776) : spec_ReadLive.f k s = some ((readLiveM s).1, ((readLiveM s).2, ())) := by
  refine undo_of (fun v h1 h2 => ?_) ?_
  · subst h2
    exact specReadLive_1 hk (nx := v.1) (ids := v.2.1) h1
  · unfold spec_ReadLive.f spec_ReadLive.t
    rw [specUnframe_eq hk hs, Option.bind_some]
    have hu := unf_bound s
    generalize unfM s = u at hu
    obtain ⟨t, m⟩ := u
    simp only [] at hu ⊢
    rw [specReadVar_rv hk, Option.bind_some]
    have h1 := rvR_in t
    generalize rvR (rv 7 (nb t)) = q at h1
    obtain ⟨nx, p, _⟩ := q
    simp only [] at h1 ⊢
    by_cases c1 : m = (s.size : Int)
    case neg => rw [show (m != (s.size : Int)) = true from bne_iff_ne.2 c1]; exact .inr rfl
    rw [show (m != (s.size : Int)) = false by rw [c1]; simp, cond_false]
    by_cases c2 : m = 0
    case pos => rw [show (m == 0) = true from beq_iff_eq.2 c2]; exact .inr rfl
    rw [show (m == 0) = false from beq_eq_false_iff_ne.2 c2, cond_false]
    by_cases c3 : p = 0
    case pos => rw [show (p == 0) = true from beq_iff_eq.2 c3]; exact .inr rfl
    rw [show (p == 0) = false from beq_eq_false_iff_ne.2 c3, cond_false, inc_eq h1.1 h1.2, specReadVar_rv hk, Option.bind_some]
    have h2 := rvR_in (ByteArray.extract t p.toNat t.size)
    have he : (ByteArray.extract t p.toNat t.size).size = t.size - p.toNat := by rw [← nb_len, ext_tail, List.length_drop, nb_len]
    rw [he] at h2
    rw [w64_eq (by omega) (by omega)]
    obtain ⟨o, ho⟩ := specLoop_any hk (s := s) hu.1 (rvR (rv 7 (nb (ByteArray.extract t p.toNat t.size)))).1 nx 60 k (p + (rvR (rv 7 (nb (ByteArray.extract t p.toNat t.size)))).2.1) 0 [] (by omega) (by omega) (by omega) (by omega) (by omega) (by simp)
    rw [ho]
    cases c4 : seq (showLiveM (nx, (o, ()))) s with
    | false => exact .inr rfl
    | true =>
      refine .inl ⟨(nx, (o, ())), ?_, seq_iff.1 c4, rfl⟩
      cases c5 : liveM (nx, (o, ())) with
      | true => rfl
      | false =>
        have := seq_iff.1 c4
        unfold showLiveM at this
        rw [c5, if_neg (by decide)] at this
        rw [← this] at c1
        exact absurd c1 c2
/- As the program reads it. -/
def fiL (s : ByteArray) (m a : Int) (out : List Int) (r : ByteArray) (bad : Bool) : Option (Ty.den TLive × Bool × Unit) :=
  bif m == 0 then Lno else bif m != (s.size : Int) then Lno else bif bad then Lno else bif !seq r ⟨#[]⟩ then Lno else bif !liveM (a, (out, ())) then Lno else some ((a, (out, ())), (true, ()))
theorem fiL_end {k : Nat} (hk : 2 ^ 50 ≤ k) {s r : ByteArray} {m a : Int} {out : List Int} {bad : Bool} (ho : out.length ≤ 1099511627776) :
    @Eq (Option (Ty.den TLive × Bool × Unit)) (bif (m == 0) then (some ((0, ([], ())), (false, ()))) else (bif (m != (ByteArray.size s : Int)) then (some ((0, ([], ())), (false, ()))) else (bif bad then (some ((0, ([], ())), (false, ()))) else (bif (!(seq r (⟨#[]⟩ : ByteArray))) then (some ((0, ([], ())), (false, ()))) else (Option.bind (impl_LiveOk.f k (a, (out, ()))) fun r5 => (bif (!r5.1) then (some ((0, ([], ())), (false, ()))) else (some ((a, (out, ())), (true, ()))))))))) (fiL s m a out r bad) := by
  rw [implLive_eq hk (v := (a, (out, ()))) ho]
  rfl
theorem implLoop_ok {k : Nat} (hk : 2 ^ 50 ≤ k) {s : ByteArray} (m a : Int) : ∀ (ids : List Int) (n : Nat) (j c : Int) (out : List Int), (∀ x ∈ ids, 0 ≤ x ∧ x ≤ 100000) → ids.length < n → 0 ≤ j → c = j + ids.length → c ≤ 60 → (out.length : Int) ≤ j →
    impl_ReadLive.l0 k n s m c j [] 0 (varsT ids) false out a = fiL s m a (out ++ ids) ⟨#[]⟩ false := by
  intro ids
  induction ids with
  | nil =>
    intro n j c out h hn h0 hc h1 ho
    obtain ⟨n, rfl⟩ : ∃ q, n = q + 1 := ⟨n - 1, by omega⟩
    rw [List.length_nil] at hc
    simp only [impl_ReadLive.l0, impl_ReadLive.b0]
    rw [decF (show ¬ j < c by omega), cond_false, List.append_nil]
    exact fiL_end hk (bad := false) (by omega)
  | cons x ids ih =>
    intro n j c out h hn h0 hc h1 ho
    rw [List.length_cons] at hn hc
    obtain ⟨n, rfl⟩ : ∃ q, n = q + 1 := ⟨n - 1, by omega⟩
    obtain ⟨b, hb, hx, hv⟩ := varB_int (h x (List.mem_cons_self ..)).1 (h x (List.mem_cons_self ..)).2
    have hts := varsT_size ids
    have ih := ih n (j + 1) c (out ++ [x]) (fun y hy => h y (List.mem_cons_of_mem _ hy)) (by omega) (by omega) (by omega) h1 (by rw [len_snoc]; omega)
    simp only [impl_ReadLive.l0, impl_ReadLive.b0]
    rw [decT (show j < c by omega), cond_true, Bool.not_false, cond_true, show varsT (x :: ids) = varT b ++ varsT ids by rw [varsT, hv], num_ok hk hb (by omega), Option.bind_some]
    simp only []
    rw [rm_ok (by omega) (by decide), w64_eq (by omega) (by omega), ← hx, ih, List.append_assoc]
    rfl
theorem implReadLive_1 {k : Nat} (hk : 2 ^ 50 ≤ k) {nx : Int} {ids : List Int} (h : liveM (nx, (ids, ())) = true) : impl_ReadLive.f k (showLiveM (nx, (ids, ()))) = some ((nx, (ids, ())), (true, ())) := by
  obtain ⟨g1, g2, g3, g4, g5⟩ := live_facts h
  have hz := liveT_size h
  have hf := frameM_pos hz
  have hfs := frameM_size (liveT (nx, (ids, ())))
  have hu := unf_frame ⟨#[]⟩ hz
  rw [nil_app] at hu
  have e : showLiveM (nx, (ids, ())) = frameM (liveT (nx, (ids, ()))) := if_pos h
  obtain ⟨a, ha, hx, hv⟩ := varB_int (x := nx) (by omega) g2
  obtain ⟨b, hb, hy, hw⟩ := varB_int (x := (ids.length : Int)) (by omega) (by omega)
  have ht : liveT (nx, (ids, ())) = varT a ++ (varT b ++ varsT ids) := by
    unfold liveT
    rw [← hv, ← hw]
  have hvs := varsT_size ids
  have hvb := varT_size b
  have hl := implLoop_ok hk (s := showLiveM (nx, (ids, ()))) ((showLiveM (nx, (ids, ()))).size : Int) nx ids k 0 (b : Int) [] g5 (by omega) (by omega) (by omega) (by omega) (by simp)
  have hu1 : unfM (showLiveM (nx, (ids, ()))) = (liveT (nx, (ids, ())), ((showLiveM (nx, (ids, ()))).size : Int)) := by rw [e]; exact hu
  unfold impl_ReadLive.f impl_ReadLive.t
  rw [implUnframe_eq hk (by rw [e]; omega), Option.bind_some, hu1]
  simp only []
  rw [ht, num_ok hk ha (by rw [sz_app]; omega), Option.bind_some]
  simp only []
  rw [num_ok hk hb (by omega), Option.bind_some]
  simp only []
  rw [← hx, hl, List.nil_append]
  unfold fiL
  rw [show (((showLiveM (nx, (ids, ()))).size : Int) == 0) = false from beq_eq_false_iff_ne.2 (by rw [e]; omega), show (((showLiveM (nx, (ids, ()))).size : Int) != ((showLiveM (nx, (ids, ()))).size : Int)) = false by simp, seq_refl, h]
  rfl
theorem implLoop_any {k : Nat} (hk : 2 ^ 50 ≤ k) {s : ByteArray} (m a c : Int) : ∀ (n : Nat) (rest : ByteArray) (j : Int) (out : List Int), rest.size + 2 ≤ n → 0 ≤ j → j ≤ c → c < 562949953421312 → out.length + rest.size ≤ 1000000 →
    (∃ xs r, rest = varsT xs ++ r ∧ (xs.length : Int) = c - j ∧ impl_ReadLive.l0 k n s m c j [] 0 rest false out a = fiL s m a (out ++ xs) r false) ∨ (∃ o r, impl_ReadLive.l0 k n s m c j [] 0 rest false out a = fiL s m a o r true) := by
  intro n
  induction n with
  | zero => intro rest j out h1; omega
  | succ n ih =>
    intro rest j out h1 h2 h3 h4 h5
    by_cases c1 : j < c
    · rcases rv_cases rest with ⟨b, t, hb, rfl⟩ | hbad
      · have hvb := varT_size b
        rw [sz_app] at h1 h5
        have e : impl_ReadLive.l0 k (n + 1) s m c j [] 0 (varT b ++ t) false out a = impl_ReadLive.l0 k n s m c (j + 1) [] 0 t false (out ++ [(b : Int)]) a := by
          simp only [impl_ReadLive.l0, impl_ReadLive.b0]
          rw [decT c1, cond_true, Bool.not_false, cond_true, num_ok hk hb (by omega), Option.bind_some]
          simp only []
          rw [rm_ok (by omega) (by decide), w64_eq (by omega) (by omega)]
        rw [e]
        rcases ih t (j + 1) (out ++ [(b : Int)]) (by omega) (by omega) (by omega) h4 (by rw [len_snoc]; omega) with ⟨xs, r, g1, g2, g3⟩ | g
        · refine .inl ⟨(b : Int) :: xs, r, ?_, by rw [List.length_cons]; omega, ?_⟩
          · rw [varsT, varB_nat hb, g1, app_assoc]
          · rw [g3, List.append_assoc]; rfl
        · exact .inr g
      · refine .inr ?_
        obtain ⟨n, rfl⟩ : ∃ q, n = q + 1 := ⟨n - 1, by omega⟩
        refine ⟨out ++ [0], rest, ?_⟩
        simp only [impl_ReadLive.l0, impl_ReadLive.b0]
        rw [decT c1, cond_true, Bool.not_false, cond_true, num_bad hk hbad (by omega), Option.bind_some]
        simp only []
        rw [rm_ok (by omega) (by decide), w64_eq (by omega) (by omega), Bool.not_true, cond_false]
        rw [fiL_end hk (bad := true) (by rw [len_snoc]; omega)]
        cases decide (j + 1 < c) <;> rfl
    · refine .inl ⟨[], rest, by rw [varsT, app_nil], by rw [List.length_nil]; omega, ?_⟩
      simp only [impl_ReadLive.l0, impl_ReadLive.b0]
      rw [decF c1, cond_false, List.append_nil]
      exact fiL_end hk (bad := false) (by omega)
theorem fiL_bad (s : ByteArray) (m a : Int) (o : List Int) (r : ByteArray) : fiL s m a o r true = Lno := by
  unfold fiL
  cases m == 0 <;> cases m != (s.size : Int) <;> rfl
theorem implLoop_bad {k : Nat} (hk : 2 ^ 50 ≤ k) (s : ByteArray) (m a c : Int) (r : ByteArray) : impl_ReadLive.l0 k k s m c 0 [] 0 r true [] a = Lno := by
  obtain ⟨n, hn⟩ : ∃ q, k = q + 1 := ⟨k - 1, by omega⟩
  have e : impl_ReadLive.l0 k (n + 1) s m c 0 [] 0 r true [] a = Lno := by
    simp only [impl_ReadLive.l0, impl_ReadLive.b0]
    rw [Bool.not_true, cond_false, fiL_end hk (bad := true) (by simp), fiL_bad]
    cases decide (0 < c) <;> rfl
  rw [← hn] at e
  exact e
theorem implReadLive_eq {k : Nat} (hk : 2 ^ 50 ≤ k) {s : ByteArray} (hs : s.size ≤ 1099511627776) : impl_ReadLive.f k s = some ((readLiveM s).1, ((readLiveM s).2, ())) := by
  refine undo_of (fun v h1 h2 => ?_) ?_
  · subst h2
    exact implReadLive_1 hk (nx := v.1) (ids := v.2.1) h1
  · unfold impl_ReadLive.f impl_ReadLive.t
    rw [implUnframe_eq hk hs, Option.bind_some]
    have hu := unf_bound s
    have hc := unf_cases s
    generalize unfM s = u at hu hc
    obtain ⟨t, m⟩ := u
    simp only [] at hu ⊢
    rcases rv_cases t with ⟨a, t1, ha, e1⟩ | hb
    case inr =>
      rw [num_bad hk hb (by omega), Option.bind_some]
      simp only []
      rw [num_b hk (by omega), Option.bind_some]
      simp only []
      rw [implLoop_bad hk]
      exact .inr rfl
    have z1 : t.size = (varT a).size + t1.size := by rw [e1, sz_app]
    rw [show impl_scanner__num.f k (t, (false, ())) = some ((t1, (false, ())), ((a : Int), ())) by rw [e1]; exact num_ok hk ha (by omega), Option.bind_some]
    simp only []
    rcases rv_cases t1 with ⟨c, t2, hcl, e2⟩ | hb
    case inr =>
      rw [num_bad hk hb (by omega), Option.bind_some]
      simp only []
      rw [implLoop_bad hk]
      exact .inr rfl
    have z2 : t1.size = (varT c).size + t2.size := by rw [e2, sz_app]
    rw [show impl_scanner__num.f k (t1, (false, ())) = some ((t2, (false, ())), ((c : Int), ())) by rw [e2]; exact num_ok hk hcl (by omega), Option.bind_some]
    simp only []
    rcases implLoop_any hk (s := s) m (a : Int) (c : Int) k t2 0 [] (by omega) (by omega) (by omega) (by omega) (by rw [List.length_nil]; omega) with ⟨xs, r, g1, g2, g3⟩ | ⟨o, r, g⟩
    case inr => rw [g, fiL_bad]; exact .inr rfl
    rw [g3, List.nil_append]
    unfold fiL
    by_cases c2 : m = 0
    case pos => rw [show (m == 0) = true from beq_iff_eq.2 c2]; exact .inr rfl
    rw [show (m == 0) = false from beq_eq_false_iff_ne.2 c2, cond_false]
    by_cases c1 : m = (s.size : Int)
    case neg => rw [show (m != (s.size : Int)) = true from bne_iff_ne.2 c1]; exact .inr rfl
    rw [show (m != (s.size : Int)) = false by rw [c1]; simp, cond_false, cond_false]
    cases c3 : seq r ⟨#[]⟩ with
    | false => exact .inr rfl
    | true =>
      rw [Bool.not_true, cond_false]
      cases c4 : liveM ((a : Int), (xs, ())) with
      | false => exact .inr rfl
      | true =>
        refine .inl ⟨((a : Int), (xs, ())), c4, ?_, rfl⟩
        have hr := seq_iff.1 c3
        subst hr
        rw [nil_app] at g1
        rcases hc with ⟨t', r', h1, h2, h3⟩ | ⟨h1, _⟩
        · obtain ⟨rfl, hm⟩ := Prod.mk.inj h3
          have hr' : r' = ⟨#[]⟩ := by
            have hsz := congrArg ByteArray.size h2
            rw [sz_app] at hsz
            have : r'.size = 0 := by omega
            exact nb_inj (by
              have hn := nb_len r'
              rw [this] at hn
              rw [List.length_eq_zero_iff.1 hn]
              rfl)
          rw [h2, hr', nil_app]
          show showLiveM ((a : Int), (xs, ())) = frameM t
          rw [show showLiveM ((a : Int), (xs, ())) = frameM (liveT ((a : Int), (xs, ()))) from if_pos c4]
          congr 1
          rw [e1, e2, g1]
          unfold liveT
          simp only []
          rw [varB_nat ha, show (xs.length : Int) = (c : Int) by omega, varB_nat hcl]
        · exact absurd (Prod.mk.inj h1).2 c2
end Go.Proofs.YtgcahahklmfleaaGreatDoor.G

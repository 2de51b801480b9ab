/- M: IdOf, Orphans: what they answer, in both readings. -/
import Derived.Test.YtgcahahklmfleaaGreatDoorMReadDec
import Derived.Test.YtgcahahklmfleaaGreatDoorMPre
set_option linter.unusedVariables false
set_option linter.unusedSimpArgs false
namespace Go.Proofs.YtgcahahklmfleaaGreatDoor.G
open Go.V
def hintB : ByteArray := ⟨#[104, 105, 110, 116]⟩
theorem specHintName_eq {k : Nat} (hk : 2 ^ 50 ≤ k) (n : Int) : spec_HintName.f k n = some (namedM hintB n, ()) := by
  unfold spec_HintName.f spec_HintName.t namedM
  rw [l1InD_eq, Option.bind_some]
  by_cases c : (1 : Int) ≤ n ∧ n ≤ 100000
  · have hz := decB_small (n := n) (by omega) (by omega)
    rw [decT c]
    simp only [Bool.not_true, cond_false, cond_true]
    rw [specDec_eq hk (by omega) (by omega), Option.bind_some, cat_ok (by show 4 + (decB n).size ≤ _; omega)]
    rfl
  · rw [decF c]
    rfl
/-- A name tells its number. -/
def Pid (s : ByteArray) (n : Int) : Prop := 1 ≤ n ∧ n ≤ 100000 ∧ (s = segB ++ decB n ∨ s = hintB ++ decB n)
theorem seg_hint (a b : ByteArray) : segB ++ a ≠ hintB ++ b := fun h => by
  have := congrArg nb h
  rw [nb_app, nb_app, show nb segB = [115, 101, 103] from rfl, show nb hintB = [104, 105, 110, 116] from rfl] at this
  simp at this
theorem pid_one {s : ByteArray} {n m : Int} (h : Pid s n) (g : Pid s m) : n = m := by
  rcases h.2.2 with h1 | h1 <;> rcases g.2.2 with g1 | g1
  · exact decB_inj (app_cancel (h1.symm.trans g1))
  · exact absurd (h1.symm.trans g1) (seg_hint _ _)
  · exact absurd (g1.symm.trans h1) (seg_hint _ _)
  · exact decB_inj (app_cancel (h1.symm.trans g1))
theorem named_pid {s : ByteArray} {n : Int} (hs : 0 < s.size) (h : (seq (namedM segB n) s || seq (namedM hintB n) s) = true) : Pid s n := by
  unfold namedM at h
  by_cases c : (1 : Int) ≤ n ∧ n ≤ 100000
  · rw [decT c, Bool.or_eq_true] at h
    exact ⟨c.1, c.2, h.imp (fun q => (seq_iff.1 q).symm) (fun q => (seq_iff.1 q).symm)⟩
  · rw [decF c, Bool.or_eq_true] at h
    rcases h with q | q
    · rw [← seq_iff.1 q] at hs; exact absurd hs (Nat.lt_irrefl 0)
    · rw [← seq_iff.1 q] at hs; exact absurd hs (Nat.lt_irrefl 0)
theorem pid_named {s : ByteArray} {n : Int} (h : Pid s n) : (seq (namedM segB n) s || seq (namedM hintB n) s) = true := by
  obtain ⟨h0, h1, h2⟩ := h
  unfold namedM
  rw [decT ⟨h0, h1⟩, Bool.or_eq_true]
  exact h2.imp (fun q => seq_iff.2 q.symm) (fun q => seq_iff.2 q.symm)
noncomputable def idM (s : ByteArray) : Int × Bool := undo (Pid s) (fun _ => s) 0 s
theorem decB_pos (n : Int) : 0 < (decB n).size := by
  rw [← nb_len, nb_decB]
  split
  · rw [List.length_cons]; omega
  · rw [List.length_map]
    exact List.length_pos_iff.2 (decDigits_ne _)
theorem extL_size (s : ByteArray) (n : Nat) : (ByteArray.extract s n s.size).size = s.size - n := by rw [← nb_len, ext_tail, List.length_drop, nb_len]
noncomputable def hitM (s : ByteArray) (i : Nat) : Bool :=
  decide ((s.size : Int) > (i : Int)) && ((readDecM (ByteArray.extract s i s.size)).2 && (decide ((readDecM (ByteArray.extract s i s.size)).1 ≥ 1) && (seq (namedM segB (readDecM (ByteArray.extract s i s.size)).1) s || seq (namedM hintB (readDecM (ByteArray.extract s i s.size)).1) s)))
theorem id_step {k : Nat} (hk : 2 ^ 50 ≤ k) {s : ByteArray} (hs : s.size ≤ 1099511627776) (m i : Nat) (hi : i ≤ 4) :
    spec_IdOf.l0 k (m + 1) s (i : Int) = bif hitM s i then some ((readDecM (ByteArray.extract s i s.size)).1, (true, ())) else spec_IdOf.l0 k m s ((i + 1 : Nat) : Int) := by
  have hz := extL_size s i
  simp only [spec_IdOf.l0, spec_IdOf.b0]
  rw [decT (show (i : Int) ≤ 4 by omega), cond_true, w64_eq (by omega) (by omega), show (i : Int) + 1 = ((i + 1 : Nat) : Int) by omega]
  unfold hitM
  by_cases c : (s.size : Int) > (i : Int)
  · rw [decT c, cond_true, inc_eq (by omega) (by omega), Int.toNat_natCast, specReadDec_eq hk (by omega), Option.bind_some]
    simp only [specSegName_eq hk, specHintName_eq hk, Option.bind_some]
    generalize readDecM (ByteArray.extract s i s.size) = r
    cases r.2 <;> cases decide (r.1 ≥ 1) <;> cases seq (namedM segB r.1) s <;> cases seq (namedM hintB r.1) s <;> rfl
  · rw [decF c]
    rfl
theorem hit_pid {s : ByteArray} {i : Nat} (h : hitM s i = true) : Pid s (readDecM (ByteArray.extract s i s.size)).1 := by
  unfold hitM at h
  simp only [Bool.and_eq_true, decide_eq_true_eq] at h
  exact named_pid (by omega) h.2.2.2
theorem hit_of {p : ByteArray} {n : Int} (h : Pid (p ++ decB n) n) : hitM (p ++ decB n) p.size = true ∧ (readDecM (ByteArray.extract (p ++ decB n) p.size (p ++ decB n).size)).1 = n := by
  have hd : dOk n := ⟨by have := h.1; omega, by have := h.2.1; omega⟩
  have hp := decB_pos n
  rw [show ByteArray.extract (p ++ decB n) p.size (p ++ decB n).size = decB n from app_tail p (decB n)]
  unfold hitM
  rw [show ByteArray.extract (p ++ decB n) p.size (p ++ decB n).size = decB n from app_tail p (decB n), readDec_dec hd]
  refine ⟨?_, rfl⟩
  simp only []
  rw [pid_named h, decT (by rw [ByteArray.size_append]; omega), decT h.1]
  rfl
theorem specId_eq {k : Nat} (hk : 2 ^ 50 ≤ k) {s : ByteArray} (hs : s.size ≤ 1099511627776) : spec_IdOf.f k s = some ((idM s).1, ((idM s).2, ())) := by
  have e : spec_IdOf.f k s = bif hitM s 3 then some ((readDecM (ByteArray.extract s 3 s.size)).1, (true, ())) else bif hitM s 4 then some ((readDecM (ByteArray.extract s 4 s.size)).1, (true, ())) else some (0, (false, ())) := by
    unfold spec_IdOf.f spec_IdOf.t
    obtain ⟨m, hm⟩ : ∃ m, k = m + 3 := ⟨k - 3, by omega⟩
    have h3 := id_step hk hs (m + 2) 3 (by omega)
    have h4 := id_step hk hs (m + 1) 4 (by omega)
    have h5 : spec_IdOf.l0 k (m + 1) s ((5 : Nat) : Int) = some (0, (false, ())) := rfl
    rw [← hm] at h3
    rw [show (3 : Int) = ((3 : Nat) : Int) from rfl, h3, h4, h5]
  rw [e]
  refine undo_of (fun n h1 _ => ?_) ?_
  · rcases h1.2.2 with q | q
    · have := hit_of (p := segB) (n := n) (by rw [← q]; exact h1)
      rw [← q, show segB.size = 3 from rfl] at this
      rw [this.1, this.2]
      rfl
    · cases c : hitM s 3 with
      | true => rw [pid_one h1 (hit_pid c)]; rfl
      | false =>
        have := hit_of (p := hintB) (n := n) (by rw [← q]; exact h1)
        rw [← q, show hintB.size = 4 from rfl] at this
        rw [this.1, this.2]
        rfl
  · cases c : hitM s 3 with
    | true => exact .inl ⟨_, hit_pid c, rfl, rfl⟩
    | false =>
      cases c4 : hitM s 4 with
      | true => exact .inl ⟨_, hit_pid c4, rfl, rfl⟩
      | false => exact .inr rfl
noncomputable def cutM (s p : ByteArray) : Option (Int × Bool × Unit) :=
  bif preB s p && ((readDecM (ByteArray.extract s p.size s.size)).2 && decide ((1 : Int) ≤ (readDecM (ByteArray.extract s p.size s.size)).1 ∧ (readDecM (ByteArray.extract s p.size s.size)).1 ≤ 100000)) then some ((readDecM (ByteArray.extract s p.size s.size)).1, (true, ())) else some (0, (false, ()))
theorem cut_ok {s p : ByteArray} (h : cutM s p ≠ some (0, (false, ()))) : ∃ n, 1 ≤ n ∧ n ≤ 100000 ∧ s = p ++ decB n ∧ cutM s p = some (n, (true, ())) := by
  unfold cutM at h ⊢
  cases c : preB s p && ((readDecM (ByteArray.extract s p.size s.size)).2 && decide ((1 : Int) ≤ (readDecM (ByteArray.extract s p.size s.size)).1 ∧ (readDecM (ByteArray.extract s p.size s.size)).1 ≤ 100000)) with
  | false => rw [c] at h; exact absurd rfl h
  | true =>
    simp only [Bool.and_eq_true, decide_eq_true_eq] at c
    obtain ⟨c1, c2, c3⟩ := c
    have e : readDecM (ByteArray.extract s p.size s.size) = ((readDecM (ByteArray.extract s p.size s.size)).1, true) := by rw [← c2]
    have q := undo_ok e
    exact ⟨_, c3.1, c3.2, by rw [q.2]; exact preB_split c1, rfl⟩
theorem cut_of {p : ByteArray} {n : Int} (h0 : 1 ≤ n) (h1 : n ≤ 100000) : cutM (p ++ decB n) p = some (n, (true, ())) := by
  unfold cutM
  rw [preB_app, show ByteArray.extract (p ++ decB n) p.size (p ++ decB n).size = decB n from app_tail p (decB n), readDec_dec ⟨by omega, by omega⟩]
  simp only []
  rw [decT ⟨h0, h1⟩]
  rfl
theorem implId_eq (k : Nat) {s : ByteArray} (hs : s.size ≤ 281474976710656) : impl_IdOf.f k s = some ((idM s).1, ((idM s).2, ())) := by
  have e : impl_IdOf.f k s = bif preB s segB then cutM s segB else cutM s hintB := by
    unfold impl_IdOf.f impl_IdOf.t
    rw [show (⟨#[115, 101, 103]⟩ : ByteArray) = segB from rfl, show (⟨#[104, 105, 110, 116]⟩ : ByteArray) = hintB from rfl, cutPrefix_eq, cutPrefix_eq]
    simp only [Option.bind_some]
    unfold cutM
    have h3 := extL_size s segB.size
    have h4 := extL_size s hintB.size
    cases preB s segB with
    | true =>
      simp only [Bool.not_true, cond_false, cond_true, Bool.true_and]
      rw [implReadDec_eq k (by omega), Option.bind_some]
      simp only [inD_eq k, Option.bind_some]
      generalize readDecM (ByteArray.extract s segB.size s.size) = r
      cases r.2 <;> cases decide ((1 : Int) ≤ r.1 ∧ r.1 ≤ 100000) <;> rfl
    | false =>
      simp only [Bool.not_false, cond_false, cond_true]
      cases preB s hintB with
      | true =>
        simp only [Bool.not_true, cond_false, cond_true, Bool.true_and]
        rw [implReadDec_eq k (by omega), Option.bind_some]
        simp only [inD_eq k, Option.bind_some]
        generalize readDecM (ByteArray.extract s hintB.size s.size) = r
        cases r.2 <;> cases decide ((1 : Int) ≤ r.1 ∧ r.1 ≤ 100000) <;> rfl
      | false =>
        simp only [Bool.not_false, cond_false, cond_true, Bool.false_and]
        rw [implReadDec_eq k hs, Option.bind_some]
  rw [e]
  refine undo_of (fun n h1 _ => ?_) ?_
  · rcases h1.2.2 with q | q
    · rw [q, preB_app, cond_true, cut_of h1.1 h1.2.1]
    · have hp : preB s segB = false := by
        cases c : preB s segB with
        | false => rfl
        | true => exact absurd ((preB_split c).symm.trans q) (seg_hint _ _)
      rw [hp, cond_false, q, cut_of h1.1 h1.2.1]
  · cases preB s segB with
    | true =>
      rw [cond_true]
      by_cases c : cutM s segB = some (0, (false, ()))
      · exact .inr c
      · obtain ⟨n, h0, h1, h2, h3⟩ := cut_ok c
        exact .inl ⟨n, ⟨h0, h1, .inl h2⟩, rfl, h3⟩
    | false =>
      rw [cond_false]
      by_cases c : cutM s hintB = some (0, (false, ()))
      · exact .inr c
      · obtain ⟨n, h0, h1, h2, h3⟩ := cut_ok c
        exact .inl ⟨n, ⟨h0, h1, .inr h2⟩, rfl, h3⟩
/- A number among numbers. -/
def hasN (l : List Int) (x : Int) : Bool := l.any fun y => y == x
theorem specHasN_eq {k : Nat} (hk : 2 ^ 50 ≤ k) {l : List Int} (hl : l.length ≤ 1099511627776) (x : Int) : spec_l4Has.f k l x = some (hasN l x, ()) := by
  unfold spec_l4Has.f spec_l4Has.t
  refine forL0 (L := fun n i (_ : Unit) => spec_l4Has.l0 k n l x i) (R := fun r _ => some (hasN r x, ())) (Ty.dflt (.int .i64)) l (fun _ _ => True) (fun n _ _ => ?_) (fun n i _ y rest h0 h1 hx hr hp ih => ?_) (n := k) (s := ()) (by omega) trivial
  · simp (disch := omega) only [spec_l4Has.l0, spec_l4Has.b0, decF, cond_false]
    rfl
  · have ih := ih () trivial
    have e : hasN (y :: rest) x = ((y == x) || hasN rest x) := rfl
    simp (disch := omega) only [spec_l4Has.l0, spec_l4Has.b0, decT h1, cond_true, inb_eq, hx, w64_eq, ih, e]
    cases y == x <;> rfl
theorem implHasN_eq {k : Nat} (hk : 2 ^ 50 ≤ k) {l : List Int} (hl : l.length ≤ 1099511627776) (x : Int) : impl_hasInt.f k l x = some (hasN l x, ()) := by
  unfold impl_hasInt.f impl_hasInt.t
  refine forL0 (L := fun n i (_ : Unit) => impl_hasInt.l0 k n x l l.length i) (R := fun r _ => some (hasN r x, ())) (Ty.dflt (.int .i64)) l (fun _ _ => True) (fun n _ _ => ?_) (fun n i _ y rest h0 h1 hx hr hp ih => ?_) (n := k) (s := ()) (by omega) trivial
  · simp (disch := omega) only [impl_hasInt.l0, impl_hasInt.b0, decF, cond_false]
    rfl
  · have ih := ih () trivial
    have e : hasN (y :: rest) x = ((y == x) || hasN rest x) := rfl
    simp (disch := omega) only [impl_hasInt.l0, impl_hasInt.b0, decT h1, cond_true, inb_eq, hx, w64_eq, ih, e]
    cases y == x <;> rfl
/- Orphans. -/
def tempB : ByteArray := ⟨#[116, 101, 109, 112]⟩
noncomputable def isOrph (ids : List Int) (f : Ty.den TFile) : Bool := ((idM f.1).2 && !hasN ids (idM f.1).1) || seq f.1 tempB
noncomputable def orphL (ids : List Int) : FileL → List ByteArray → List ByteArray
  | [], acc => acc
  | f :: l, acc => orphL ids l (bif isOrph ids f then acc ++ [f.1] else acc)
noncomputable def orphM (d : Ty.den TDisk) (ids : List Int) : List ByteArray := bif diskM d then orphL ids d.1 [] else []
theorem orphL_len (ids : List Int) : ∀ (l : FileL) (acc : List ByteArray), (orphL ids l acc).length ≤ acc.length + l.length
  | [], acc => Nat.le_refl _
  | f :: l, acc => by
    have := orphL_len ids l (bif isOrph ids f then acc ++ [f.1] else acc)
    unfold orphL
    cases c : isOrph ids f <;> rw [c] at this <;> simp only [cond_true, cond_false, len_snoc, List.length_cons] at this ⊢ <;> omega
theorem diskM_len {d : Ty.den TDisk} (h : diskM d = true) : d.1.length ≤ 130 := by
  unfold diskM at h
  rw [Bool.and_eq_true, decide_eq_true_eq] at h
  exact h.1
theorem orphM_len (d : Ty.den TDisk) (ids : List Int) : (orphM d ids).length ≤ 130 := by
  unfold orphM
  cases c : diskM d with
  | false => exact Nat.zero_le _
  | true =>
    have := orphL_len ids d.1 []
    have := diskM_len c
    rw [cond_true]
    rw [List.length_nil] at *
    omega
theorem specOrph_eq {k : Nat} (hk : 2 ^ 50 ≤ k) {d : Ty.den TDisk} {v : Ty.den TLive} (hu : used d.1 ≤ 1099511627776) (hn : names d.1 ≤ 1099511627776) (hv : v.2.1.length ≤ 1099511627776) : spec_Orphans.f k d v = some (orphM d v.2.1, ()) := by
  unfold spec_Orphans.f spec_Orphans.t orphM
  rw [specDisk_eq hk hu hn, Option.bind_some]
  cases cd : diskM d with
  | false => rfl
  | true =>
    have hl := diskM_len cd
    rw [Bool.not_true, cond_false, cond_true]
    refine forL0 (L := fun n i s => spec_Orphans.l0 k n i d.1 d.2.1 d.2.2.1 d.2.2.2.1 v.1 v.2.1 s) (R := fun r s => some (orphL v.2.1 r s, ())) (Ty.dflt TFile) d.1 (fun i s => (s.length : Int) ≤ i) (fun n s hs => ?_) (fun n i s x rest h0 h1 hx hr hs ih => ?_) (n := k) (s := []) (by omega) (by simp)
    · simp (disch := omega) only [spec_Orphans.l0, spec_Orphans.b0, decF, cond_false, orphL]
    · have hm : x ∈ d.1 := by rw [← hx]; exact getD_mem (by omega)
      have hz := names_mem hm
      have iY := ih (s ++ [x.1]) (by rw [len_snoc]; omega)
      have iN := ih s (by omega)
      have key : ∀ (id : Int) (is : Bool), spec_Orphans.l1 k (spec_Orphans.l0 k n) k i id is false 0 d.1 d.2.1 d.2.2.1 d.2.2.2.1 v.1 v.2.1 s =
          bif (is && !hasN v.2.1 id) || seq x.1 tempB then spec_Orphans.l0 k n (i + 1) d.1 d.2.1 d.2.2.1 d.2.2.2.1 v.1 v.2.1 (s ++ [x.1]) else spec_Orphans.l0 k n (i + 1) d.1 d.2.1 d.2.2.1 d.2.2.2.1 v.1 v.2.1 s := fun id is => by
        refine (forL0 (L := fun m j lv => spec_Orphans.l1 k (spec_Orphans.l0 k n) m i id is lv j d.1 d.2.1 d.2.2.1 d.2.2.2.1 v.1 v.2.1 s) (R := fun r lv => bif (is && !(lv || hasN r id)) || seq x.1 tempB then spec_Orphans.l0 k n (i + 1) d.1 d.2.1 d.2.2.1 d.2.2.2.1 v.1 v.2.1 (s ++ [x.1]) else spec_Orphans.l0 k n (i + 1) d.1 d.2.1 d.2.2.1 d.2.2.2.1 v.1 v.2.1 s) (Ty.dflt (.int .i64)) v.2.1 (fun _ _ => True) (fun m lv _ => ?_) (fun m j lv y r2 g0 g1 gx gr _ ih2 => ?_) (n := k) (s := false) (by omega) trivial)
        · simp (disch := first | omega | decide) only [spec_Orphans.l1, spec_Orphans.b1, decF, cond_false, inb_eq, hx, rm_ok, w64_eq]
          rw [show hasN [] id = false from rfl, show (⟨#[116, 101, 109, 112]⟩ : ByteArray) = tempB from rfl]
          cases is <;> cases lv <;> cases seq x.1 tempB <;> rfl
        · have e : hasN (y :: r2) id = ((y == id) || hasN r2 id) := rfl
          simp (disch := omega) only [spec_Orphans.l1, spec_Orphans.b1, decT g1, cond_true, inb_eq, gx, w64_eq, e]
          cases lv with
          | true => exact (ih2 true trivial)
          | false =>
            have := ih2 (y == id) trivial
            simp only [cond_false, Bool.false_or]
            exact this
      simp (disch := omega) only [spec_Orphans.l0, spec_Orphans.b0, decT h1, cond_true, inb_eq, hx, specId_eq hk, Option.bind_some, key]
      rw [show orphL v.2.1 (x :: rest) s = orphL v.2.1 rest (bif isOrph v.2.1 x then s ++ [x.1] else s) from rfl]
      unfold isOrph
      cases ((idM x.1).2 && !hasN v.2.1 (idM x.1).1) || seq x.1 tempB
      · exact iN
      · exact iY
theorem implOrph_eq {k : Nat} (hk : 2 ^ 50 ≤ k) {d : Ty.den TDisk} {v : Ty.den TLive} (hu : used d.1 ≤ 1099511627776) (hn : names d.1 ≤ 1099511627776) (hv : v.2.1.length ≤ 1099511627776) : impl_Orphans.f k d v = some (orphM d v.2.1, ()) := by
  unfold impl_Orphans.f impl_Orphans.t orphM
  rw [implDisk_eq hk hu hn, Option.bind_some]
  cases cd : diskM d with
  | false => rfl
  | true =>
    have hl := diskM_len cd
    rw [Bool.not_true, cond_false, cond_true]
    refine forL0 (L := fun n i s => impl_Orphans.l0 k n d.1 d.1.length i v.1 v.2.1 s) (R := fun r s => some (orphL v.2.1 r s, ())) (Ty.dflt TFile) d.1 (fun i s => (s.length : Int) ≤ i) (fun n s hs => ?_) (fun n i s x rest h0 h1 hx hr hs ih => ?_) (n := k) (s := []) (by omega) (by simp)
    · simp (disch := omega) only [impl_Orphans.l0, impl_Orphans.b0, decF, cond_false, orphL]
    · have hm : x ∈ d.1 := by rw [← hx]; exact getD_mem (by omega)
      have hz := names_mem hm
      have iY := ih (s ++ [x.1]) (by rw [len_snoc]; omega)
      have iN := ih s (by omega)
      simp (disch := first | omega | decide) only [impl_Orphans.l0, impl_Orphans.b0, decT h1, cond_true, inb_eq, hx, implId_eq k, Option.bind_some, implHasN_eq hk hv, rm_ok, w64_eq, iY, iN]
      rw [show orphL v.2.1 (x :: rest) s = orphL v.2.1 rest (bif isOrph v.2.1 x then s ++ [x.1] else s) from rfl, show (⟨#[116, 101, 109, 112]⟩ : ByteArray) = tempB from rfl]
      unfold isOrph
      cases (idM x.1).2 <;> cases hasN v.2.1 (idM x.1).1 <;> cases seq x.1 tempB <;> rfl
end Go.Proofs.YtgcahahklmfleaaGreatDoor.G

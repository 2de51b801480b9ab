/- M: Dec, NameOk, DiskOk, FileText, SegName, SegBytes, DeadBytes: what they answer, in both readings. -/
import Derived.Test.YtgcahahklmfleaaGreatDoorMDecP
import Derived.Test.YtgcahahklmfleaaGreatDoorMAdj
import Derived.Test.YtgcahahklmfleaaGreatDoorXLib
import Derived.Test.YtgcahahklmfleaaGreatDoorEA
set_option linter.unusedVariables false
set_option linter.unusedSimpArgs false
namespace Go.V
def dB (l : List UInt8) : ByteArray := ⟨l.toArray⟩
theorem dB_app (a b : List UInt8) : dB a ++ dB b = dB (a ++ b) := by
  apply ByteArray.ext
  simp [dB, ByteArray.data_append]
theorem dB_size (l : List UInt8) : (dB l).size = l.length := by simp [dB, ByteArray.size]
theorem ba_nil (s : ByteArray) : dB [] ++ s = s := by
  apply ByteArray.ext
  simp [dB, ByteArray.data_append]
theorem ba_end (s : ByteArray) : s ++ dB [] = s := by
  apply ByteArray.ext
  simp [dB, ByteArray.data_append]
theorem ba_assoc (a b c : ByteArray) : a ++ b ++ c = a ++ (b ++ c) := by
  apply ByteArray.ext
  simp [ByteArray.data_append]
theorem decB_eq (n : Int) (h : n ≠ 0) : decB n = (bif decide (n < 0) then dB [45] else dB []) ++ dB (digs n.natAbs) := by
  unfold decB Lib.itoa
  by_cases c : n < 0
  · rw [if_pos c, decT c, cond_true, dB_app, digs_pos (by omega)]
    rfl
  · rw [if_neg c, decF c, cond_false, ba_nil, digs_pos (by omega), show n.natAbs = n.toNat by omega]
    rfl
theorem digs_len {u : Nat} (h : u ≤ 9223372036854775808) : (digs u).length ≤ 19 := by
  by_cases c : u = 0
  · subst c; decide
  · rw [digs_pos c]
    exact decDigits_len 18 u (by rw [show (10 : Nat) ^ (18 + 1) = 10000000000000000000 by decide]; omega)
theorem decB_small {n : Int} (h0 : -9223372036854775808 ≤ n) (h1 : n ≤ 9223372036854775807) : (decB n).size ≤ 20 := decB_size20 n h0 h1
/-- A name: of small letters and digits. -/
def nmBytes : List Nat → Bool
  | [] => true
  | b :: l => (decide (97 ≤ b ∧ b ≤ 122) || decide (48 ≤ b ∧ b ≤ 57)) && nmBytes l
def nameM (s : ByteArray) : Bool := nmBytes (nb s) && decide (1 ≤ s.size ∧ s.size ≤ 12)
end Go.V
namespace Go.Proofs.YtgcahahklmfleaaGreatDoor.G
open Go.V
theorem specDec_eq {k : Nat} (hk : 2 ^ 50 ≤ k) {n : Int} (h0 : -9223372036854775808 ≤ n) (h1 : n ≤ 9223372036854775807) : spec_Dec.f k n = some (decB n, ()) := by
  unfold spec_Dec.f spec_Dec.t
  by_cases c : n = 0
  · subst c
    have : decB 0 = (⟨#[48]⟩ : ByteArray) := by
      unfold decB Lib.itoa
      rw [if_neg (by decide), show (0 : Int).toNat = 0 from rfl, decDigits_zero]
    rw [this]
    rfl
  · rw [show (n == 0) = false from beq_eq_false_iff_ne.2 c, cond_false]
    have key := forM (L := fun m (s : Int × ByteArray) => spec_Dec.l0 k m s.1 s.2 (decide (n < 0))) (R := fun s => some ((bif decide (n < 0) then dB [45] else dB []) ++ (dB (digs s.1.natAbs) ++ s.2), ()))
      (fun s => (digs s.1.natAbs).length) (fun s => -9223372036854775808 ≤ s.1 ∧ s.1 ≤ 9223372036854775807 ∧ s.2.size + (digs s.1.natAbs).length ≤ 1000) ?_ k (n, (⟨#[]⟩ : ByteArray))
      ⟨h0, h1, by have := digs_len (u := n.natAbs) (by omega); show 0 + (digs n.natAbs).length ≤ 1000; omega⟩ (by have := digs_len (u := n.natAbs) (by omega); show (digs n.natAbs).length < k; omega)
    · refine key.trans ?_
      simp only []
      rw [decB_eq n c, show (⟨#[]⟩ : ByteArray) = dB [] from rfl, ba_end]
    · intro m s hs ih
      obtain ⟨x, acc⟩ := s
      obtain ⟨g0, g1, g2⟩ := hs
      simp only [] at g0 g1 g2 ih ⊢
      by_cases cx : x = 0
      · subst cx
        have hz : digs (Int.natAbs 0) = [] := rfl
        rw [hz] at g2 ⊢
        rw [ba_nil]
        unfold spec_Dec.l0 spec_Dec.b0
        rw [show ((0 : Int) != 0) = false from rfl, cond_false]
        cases decide (n < 0)
        · rw [cond_false, cond_false, ba_nil]
        · rw [cond_true, cond_true, cat_ok (by rw [show (⟨#[45]⟩ : ByteArray).size = 1 from rfl]; omega)]
          rfl
      · have hd := digs_step (u := x.natAbs) (by omega)
        have hb : bytesOf [48 + ((x.natAbs % 10 : Nat) : Int)] = dB [UInt8.ofNat (48 + x.natAbs % 10)] := rfl
        have hm : x.natAbs % 10 < 10 := Nat.mod_lt _ (by decide)
        have hl : (digs x.natAbs).length = (digs (x.natAbs / 10)).length + 1 := by rw [hd, List.length_append]; rfl
        have hr : (dB [UInt8.ofNat (48 + x.natAbs % 10)] ++ acc).size = 1 + acc.size := by rw [ByteArray.size_append]; rfl
        have fin : ∀ y : Int, y.natAbs = x.natAbs / 10 → -9223372036854775808 ≤ y → y ≤ 9223372036854775807 →
            spec_Dec.l0 k m (w64 y) (dB [UInt8.ofNat (48 + x.natAbs % 10)] ++ acc) (decide (n < 0)) = some ((bif decide (n < 0) then dB [45] else dB []) ++ (dB (digs x.natAbs) ++ acc), ()) := fun y hy q0 q1 => by
          rw [w64_eq q0 q1]
          have := ih (y, dB [UInt8.ofNat (48 + x.natAbs % 10)] ++ acc) ⟨q0, q1, by simp only []; rw [hr, hy]; omega⟩ (by simp only []; rw [hy]; omega)
          simp only [] at this
          rw [this, hy, hd, ← dB_app, ba_assoc]
        unfold spec_Dec.l0 spec_Dec.b0
        rw [show (x != 0) = true from bne_iff_ne.2 cx, cond_true]
        obtain ⟨u, rfl | rfl⟩ := Int.eq_nat_or_neg x
        · have e1 : Int.tmod (u : Int) 10 = ((u % 10 : Nat) : Int) := rfl
          have e2 : Int.tdiv (u : Int) 10 = ((u / 10 : Nat) : Int) := rfl
          rw [Int.natAbs_natCast] at *
          rw [e1, e2, decF (by omega), cond_false, w64_eq (n := 48 + ((u % 10 : Nat) : Int)) (by omega) (by omega), wu8_ok (by omega) (by omega), hb, cat_ok (by rw [dB_size]; simp only [List.length_singleton]; omega)]
          exact fin _ (by omega) (by omega) (by omega)
        · have e1 : Int.tmod (-(u : Int)) 10 = -((u % 10 : Nat) : Int) := Int.neg_tmod (a := (u : Int)) (b := 10)
          have e2 : Int.tdiv (-(u : Int)) 10 = -((u / 10 : Nat) : Int) := Int.neg_tdiv (u : Int) 10
          rw [Int.natAbs_neg, Int.natAbs_natCast] at *
          rw [e1, e2]
          by_cases cz : u % 10 = 0
          · rw [decF (by omega), cond_false, show (48 : Int) + -((u % 10 : Nat) : Int) = 48 + ((u % 10 : Nat) : Int) by omega, w64_eq (n := 48 + ((u % 10 : Nat) : Int)) (by omega) (by omega), wu8_ok (by omega) (by omega), hb, cat_ok (by rw [dB_size]; simp only [List.length_singleton]; omega)]
            exact fin _ (by omega) (by omega) (by omega)
          · rw [decT (by omega), cond_true, w64_eq (n := 0 - -((u % 10 : Nat) : Int)) (by omega) (by omega), show (48 : Int) + (0 - -((u % 10 : Nat) : Int)) = 48 + ((u % 10 : Nat) : Int) by omega, w64_eq (n := 48 + ((u % 10 : Nat) : Int)) (by omega) (by omega), wu8_ok (by omega) (by omega), hb, cat_ok (by rw [dB_size]; simp only [List.length_singleton]; omega)]
            exact fin _ (by omega) (by omega) (by omega)
theorem implDec_eq (k : Nat) {n : Int} (h0 : -9223372036854775808 ≤ n) (h1 : n ≤ 9223372036854775807) : impl_Dec.f k n = some (decB n, ()) := by
  unfold impl_Dec.f impl_Dec.t lib_Itoa.f
  rw [decT ⟨h0, h1⟩]
  rfl
theorem inD_eq (k : Nat) (a b c : Int) : impl_in.f k a b c = some (decide (b ≤ a ∧ a ≤ c), ()) := by
  unfold impl_in.f impl_in.t
  by_cases h : a ≥ b
  · rw [decT h, cond_true, decide_eq_decide.2 (show (b ≤ a ∧ a ≤ c) ↔ a ≤ c from ⟨fun q => q.2, fun q => ⟨h, q⟩⟩)]
  · rw [decF h, cond_false, decF (fun q => h q.1)]
theorem l1InD_eq (k : Nat) (a b c : Int) : spec_l1In.f k a b c = some (decide (b ≤ a ∧ a ≤ c), ()) := by
  unfold spec_l1In.f spec_l1In.t
  by_cases h : a ≥ b
  · rw [decT h, cond_true, decide_eq_decide.2 (show (b ≤ a ∧ a ≤ c) ↔ a ≤ c from ⟨fun q => q.2, fun q => ⟨h, q⟩⟩)]
  · rw [decF h, cond_false, decF (fun q => h q.1)]
/- Names. -/
theorem nb_byte {s : ByteArray} {i : Int} {x : Nat} (h0 : 0 ≤ i) (h1 : i < ((nb s).length : Int)) (hx : (nb s).getD i.toNat 0 = x) : byteAt s i = (x : Int) := by
  rw [nb_len] at h1
  have := nb_at (s := s) (i := i.toNat) (by omega)
  rw [show ((i.toNat : Nat) : Int) = i by omega, hx] at this
  exact this
theorem nameM_eq {s : ByteArray} : (some ((bif nmBytes (nb s) then decide (1 ≤ (s.size : Int) ∧ (s.size : Int) ≤ 12) else false), ()) : Option (Bool × Unit)) = some (nameM s, ()) := by
  unfold nameM
  rw [decide_eq_decide.2 (show (1 ≤ (s.size : Int) ∧ (s.size : Int) ≤ 12) ↔ (1 ≤ s.size ∧ s.size ≤ 12) by omega)]
  cases nmBytes (nb s) <;> rfl
theorem specName_eq {k : Nat} (hk : 2 ^ 50 ≤ k) {s : ByteArray} (hs : s.size ≤ 1099511627776) : spec_NameOk.f k s = some (nameM s, ()) := by
  unfold spec_NameOk.f spec_NameOk.t
  have hn := nb_len s
  refine (forL0 (L := fun n i (_ : Unit) => spec_NameOk.l0 k n s i) (R := fun r _ => some ((bif nmBytes r then decide (1 ≤ (s.size : Int) ∧ (s.size : Int) ≤ 12) else false), ())) 0 (nb s) (fun _ _ => True) (fun n _ _ => ?_) (fun n i _ x rest h0 h1 hx hr hp ih => ?_) (n := k) (s := ()) (by omega) trivial).trans nameM_eq
  · simp only [hn]
    simp (disch := omega) only [spec_NameOk.l0, spec_NameOk.b0, decF, cond_false, l1InD_eq k, Option.bind_some, nmBytes, cond_true]
  · have hb := nb_byte h0 h1 hx
    have ih := ih () trivial
    simp only [hn] at *
    simp (disch := omega) only [spec_NameOk.l0, spec_NameOk.b0, decT h1, cond_true, inb_eq, hb, w64_eq, ih, nmBytes]
    by_cases c1 : 97 ≤ x
    · rw [decT (show (x : Int) ≥ 97 by omega), cond_true]
      by_cases c2 : x ≤ 122
      · rw [decT (show (x : Int) ≤ 122 by omega), cond_true, decT (show 97 ≤ x ∧ x ≤ 122 from ⟨c1, c2⟩)]
        rfl
      · rw [decF (show ¬ (x : Int) ≤ 122 by omega), cond_false, decF (show ¬ (97 ≤ x ∧ x ≤ 122) by omega), decT (show (x : Int) ≥ 48 by omega), cond_true, decF (show ¬ (x : Int) ≤ 57 by omega), decF (show ¬ (48 ≤ x ∧ x ≤ 57) by omega)]
        rfl
    · rw [decF (show ¬ (x : Int) ≥ 97 by omega), cond_false, decF (show ¬ (97 ≤ x ∧ x ≤ 122) by omega)]
      by_cases c3 : 48 ≤ x
      · rw [decT (show (x : Int) ≥ 48 by omega), cond_true]
        by_cases c4 : x ≤ 57
        · rw [decT (show (x : Int) ≤ 57 by omega), decT (show 48 ≤ x ∧ x ≤ 57 from ⟨c3, c4⟩)]
          rfl
        · rw [decF (show ¬ (x : Int) ≤ 57 by omega), decF (show ¬ (48 ≤ x ∧ x ≤ 57) by omega)]
          rfl
      · rw [decF (show ¬ (x : Int) ≥ 48 by omega), cond_false, decF (show ¬ (48 ≤ x ∧ x ≤ 57) by omega)]
        rfl
theorem implName_eq {k : Nat} (hk : 2 ^ 50 ≤ k) {s : ByteArray} (hs : s.size ≤ 1099511627776) : impl_NameOk.f k s = some (nameM s, ()) := by
  unfold impl_NameOk.f impl_NameOk.t
  have hn := nb_len s
  refine (forL0 (L := fun n i (_ : Unit) => impl_NameOk.l0 k n s i) (R := fun r _ => some ((bif nmBytes r then decide (1 ≤ (s.size : Int) ∧ (s.size : Int) ≤ 12) else false), ())) 0 (nb s) (fun _ _ => True) (fun n _ _ => ?_) (fun n i _ x rest h0 h1 hx hr hp ih => ?_) (n := k) (s := ()) (by omega) trivial).trans nameM_eq
  · simp only [hn]
    simp (disch := omega) only [impl_NameOk.l0, impl_NameOk.b0, decF, cond_false, inD_eq k, Option.bind_some, nmBytes, cond_true]
  · have hb := nb_byte h0 h1 hx
    have ih := ih () trivial
    simp only [hn] at *
    simp (disch := omega) only [impl_NameOk.l0, impl_NameOk.b0, decT h1, cond_true, inb_eq, hb, w64_eq, ih, nmBytes]
    by_cases c1 : 97 ≤ x
    · rw [decT (show (x : Int) ≥ 97 by omega), cond_true]
      by_cases c2 : x ≤ 122
      · rw [decT (show (x : Int) ≤ 122 by omega), decT (show 97 ≤ x ∧ x ≤ 122 from ⟨c1, c2⟩)]
        rfl
      · rw [decF (show ¬ (x : Int) ≤ 122 by omega), decF (show ¬ (97 ≤ x ∧ x ≤ 122) by omega), decT (show (x : Int) ≥ 48 by omega), decF (show ¬ (x : Int) ≤ 57 by omega), decF (show ¬ (48 ≤ x ∧ x ≤ 57) by omega)]
        rfl
    · rw [decF (show ¬ (x : Int) ≥ 97 by omega), cond_false, decF (show ¬ (97 ≤ x ∧ x ≤ 122) by omega)]
      by_cases c3 : 48 ≤ x
      · rw [decT (show (x : Int) ≥ 48 by omega), cond_true]
        by_cases c4 : x ≤ 57
        · rw [decT (show (x : Int) ≤ 57 by omega), decT (show 48 ≤ x ∧ x ≤ 57 from ⟨c3, c4⟩)]
          rfl
        · rw [decF (show ¬ (x : Int) ≤ 57 by omega), decF (show ¬ (48 ≤ x ∧ x ≤ 57) by omega)]
          rfl
      · rw [decF (show ¬ (x : Int) ≥ 48 by omega), cond_false, decF (show ¬ (48 ≤ x ∧ x ≤ 57) by omega)]
        rfl
/- Disks. -/
abbrev FileL := List (Ty.den TFile)
/-- How many bytes a disk's texts have; how many its names. -/
def used (l : FileL) : Nat := (l.map fun f => f.2.1.size).sum
def names (l : FileL) : Nat := (l.map fun f => f.1.size).sum
theorem used_cons (x : Ty.den TFile) (l : FileL) : used (x :: l) = x.2.1.size + used l := by unfold used; rw [List.map_cons, List.sum_cons]
theorem used_nil : used [] = 0 := rfl
theorem names_cons (x : Ty.den TFile) (l : FileL) : names (x :: l) = x.1.size + names l := by unfold names; rw [List.map_cons, List.sum_cons]
theorem used_app : ∀ l m : FileL, used (l ++ m) = used l + used m
  | [], m => by rw [List.nil_append, used_nil, Nat.zero_add]
  | x :: l, m => by rw [List.cons_append, used_cons, used_cons, used_app l m]; omega
theorem used_mem {l : FileL} {x : Ty.den TFile} (h : x ∈ l) : x.2.1.size ≤ used l := by
  induction l with
  | nil => cases h
  | cons y l ih =>
    rw [used_cons]
    rcases List.mem_cons.1 h with e | e
    · subst e; omega
    · have := ih e; omega
theorem names_mem {l : FileL} {x : Ty.den TFile} (h : x ∈ l) : x.1.size ≤ names l := by
  induction l with
  | nil => cases h
  | cons y l ih =>
    rw [names_cons]
    rcases List.mem_cons.1 h with e | e
    · subst e; omega
    · have := ih e; omega
def fileOk (p : Option (Ty.den TFile)) (x : Ty.den TFile) : Bool :=
  nameM x.1 && (decide ((0 : Int) ≤ x.2.2.1 ∧ x.2.2.1 ≤ (x.2.1.size : Int)) && (match p with | none => true | some y => sls y.1 x.1))
def diskM (d : Ty.den TDisk) : Bool :=
  decide (d.1.length ≤ 130) && (decide ((0 : Int) ≤ d.2.1 ∧ d.2.1 ≤ (100000 : Int)) && (decide ((-1 : Int) ≤ d.2.2.1 ∧ d.2.2.1 ≤ (100000 : Int)) && (decide ((used d.1 : Int) ≤ d.2.1) && adj fileOk none d.1)))
theorem specUsed_eq {k : Nat} (hk : 2 ^ 50 ≤ k) {d : Ty.den TDisk} (hl : d.1.length ≤ 1099511627776) (hu : used d.1 ≤ 1099511627776) : spec_l3Used.f k d = some ((used d.1 : Int), ()) := by
  unfold spec_l3Used.f spec_l3Used.t
  refine (forL0 (L := fun n i s => spec_l3Used.l0 k n s i d.1 d.2.1 d.2.2.1 d.2.2.2.1) (R := fun r s => some (s + (used r : Int), ())) (Ty.dflt TFile) d.1 (fun i s => 0 ≤ s ∧ s + (used (d.1.drop i.toNat) : Int) ≤ 1099511627776) (fun n s hs => ?_) (fun n i s x rest h0 h1 hx hr hp ih => ?_) (n := k) (s := 0) (by omega) ⟨by omega, by rw [show d.1.drop (Int.toNat 0) = d.1 from rfl]; omega⟩).trans (by rw [Int.zero_add])
  · simp (disch := omega) only [spec_l3Used.l0, spec_l3Used.b0, decF, cond_false]
    show some (s, ()) = some (s + ((0 : Nat) : Int), ())
    rw [show s + ((0 : Nat) : Int) = s by omega]
  · have hrest : d.1.drop (i + 1).toNat = rest := by
      have := congrArg (List.drop 1) hr
      rw [List.drop_drop, List.drop_one, List.tail_cons] at this
      rw [show (i + 1).toNat = i.toNat + 1 by omega]
      exact this
    rw [hr, used_cons] at hp
    have ih := ih (s + (x.2.1.size : Int)) ⟨by omega, by rw [hrest]; omega⟩
    simp (disch := omega) only [spec_l3Used.l0, spec_l3Used.b0, decT h1, cond_true, inb_eq, hx, w64_eq, ih]
    rw [show s + (x.2.1.size : Int) + (used rest : Int) = s + ((x.2.1.size + used rest : Nat) : Int) by omega]
    show _ = some (s + ((used (x :: rest) : Nat) : Int), ())
    rw [used_cons]
theorem specDisk_eq {k : Nat} (hk : 2 ^ 50 ≤ k) {d : Ty.den TDisk} (hu : used d.1 ≤ 1099511627776) (hn : names d.1 ≤ 1099511627776) : spec_DiskOk.f k d = some (diskM d, ()) := by
  unfold spec_DiskOk.f spec_DiskOk.t diskM
  by_cases c : d.1.length > 130
  · rw [decT (by omega), cond_true, decF (by omega), Bool.false_and]
  · rw [decF (by omega), cond_false, decT (by omega), Bool.true_and, l1InD_eq, Option.bind_some]
    cases decide ((0 : Int) ≤ d.2.1 ∧ d.2.1 ≤ (100000 : Int)) with
    | false => rfl
    | true =>
      rw [Bool.not_true, cond_false, l1InD_eq, Option.bind_some, Bool.true_and]
      cases decide ((-1 : Int) ≤ d.2.2.1 ∧ d.2.2.1 ≤ (100000 : Int)) with
      | false => rfl
      | true =>
        rw [Bool.not_true, cond_false, specUsed_eq hk (by omega) hu, Option.bind_some, Bool.true_and]
        simp only []
        by_cases cu : (used d.1 : Int) > d.2.1
        · rw [decT cu, cond_true, decF (by omega), Bool.false_and]
        · rw [decF cu, cond_false, decT (by omega), Bool.true_and]
          refine (forAdj (L := fun n i => spec_DiskOk.l0 k n i d.1 d.2.1 d.2.2.1 d.2.2.2.1) (Ty.dflt TFile) d.1 fileOk (some (true, ())) (some (false, ())) (fun n => ?_) (fun n x h hx => ?_) (fun n i x y h0 h1 hx hy => ?_) (n := k) (by omega)).trans (by cases adj fileOk none d.1 <;> rfl)
          · simp (disch := omega) only [spec_DiskOk.l0, spec_DiskOk.b0, decF, cond_false]
          · have hm : x ∈ d.1 := by rw [← hx]; exact getD_mem (by omega)
            have hs := names_mem hm
            simp (disch := omega) only [spec_DiskOk.l0, spec_DiskOk.b0, decT (show (0 : Int) < (d.1.length : Int) by omega), cond_true, inb_eq, hx, specName_eq hk, l1InD_eq k, Option.bind_some, decF (show ¬ (0 : Int) > 0 by omega), cond_false, w64_eq, fileOk]
            cases nameM x.1 <;> cases decide ((0 : Int) ≤ x.2.2.1 ∧ x.2.2.1 ≤ (x.2.1.size : Int)) <;> rfl
          · have hm : x ∈ d.1 := by rw [← hx]; exact getD_mem (by omega)
            have hs := names_mem hm
            simp (disch := omega) only [spec_DiskOk.l0, spec_DiskOk.b0, decT h1, cond_true, inb_eq, hx, hy, specName_eq hk, l1InD_eq k, Option.bind_some, decT (show i > 0 by omega), cond_false, w64_eq, fileOk, sls_total]
            cases nameM x.1 <;> cases decide ((0 : Int) ≤ x.2.2.1 ∧ x.2.2.1 ≤ (x.2.1.size : Int)) <;> cases sls y.1 x.1 <;> rfl
theorem used_take {l : FileL} {i : Nat} {x : Ty.den TFile} (h : i < l.length) (hx : l.getD i (Ty.dflt TFile) = x) : used (l.take (i + 1)) = used (l.take i) + x.2.1.size := by
  rw [List.take_add_one, used_app]
  congr 1
  simp only [List.getD, List.getElem?_eq_getElem h, Option.getD_some] at hx
  rw [List.getElem?_eq_getElem h, hx]
  show used [x] = _
  rw [used_cons, used_nil, Nat.add_zero]
theorem used_take_le (l : FileL) (i : Nat) : used (l.take i) ≤ used l := by
  have := used_app (l.take i) (l.drop i)
  rw [List.take_append_drop] at this
  omega
theorem implDisk_eq {k : Nat} (hk : 2 ^ 50 ≤ k) {d : Ty.den TDisk} (hu : used d.1 ≤ 1099511627776) (hn : names d.1 ≤ 1099511627776) : impl_DiskOk.f k d = some (diskM d, ()) := by
  unfold impl_DiskOk.f impl_DiskOk.t diskM
  by_cases c : d.1.length > 130
  · rw [decT (by omega), cond_true, decF (by omega), Bool.false_and]
  · rw [decF (by omega), cond_false, decT (by omega), Bool.true_and, inD_eq, Option.bind_some]
    cases decide ((0 : Int) ≤ d.2.1 ∧ d.2.1 ≤ (100000 : Int)) with
    | false => rfl
    | true =>
      rw [Bool.not_true, cond_false, inD_eq, Option.bind_some, Bool.true_and]
      cases decide ((-1 : Int) ≤ d.2.2.1 ∧ d.2.2.1 ≤ (100000 : Int)) with
      | false => rfl
      | true =>
        rw [Bool.not_true, cond_false, Bool.true_and]
        refine (forAdj (L := fun n i => impl_DiskOk.l0 k n (used (d.1.take i.toNat) : Int) d.1 d.1.length i d.1 d.2.1 d.2.2.1 d.2.2.2.1) (Ty.dflt TFile) d.1 fileOk (some (decide ((used d.1 : Int) ≤ d.2.1), ())) (some (false, ())) (fun n => ?_) (fun n x h hx => ?_) (fun n i x y h0 h1 hx hy => ?_) (n := k) (by omega)).trans
          (by cases adj fileOk none d.1 <;> cases decide ((used d.1 : Int) ≤ d.2.1) <;> rfl)
        · rw [Int.toNat_natCast, List.take_length]
          simp (disch := omega) only [impl_DiskOk.l0, impl_DiskOk.b0, decF, cond_false]
        · have hm : x ∈ d.1 := by rw [← hx]; exact getD_mem (by omega)
          have hs := names_mem hm
          have ht := used_take (l := d.1) (i := 0) h hx
          have hle := used_take_le d.1 0
          have hz := used_mem hm
          rw [show Int.toNat 1 = 0 + 1 from rfl, ht]
          simp only [show Int.toNat 0 = 0 from rfl] at hx ⊢
          simp (disch := omega) only [impl_DiskOk.l0, impl_DiskOk.b0, decT (show (0 : Int) < (d.1.length : Int) by omega), cond_true, inb_eq, show Int.toNat 0 = 0 from rfl, hx, implName_eq hk, inD_eq k, Option.bind_some, decF (show ¬ (0 : Int) > 0 by omega), cond_false, w64_eq, fileOk]
          rw [show (used (d.1.take 0) : Int) + (x.2.1.size : Int) = ((used (d.1.take 0) + x.2.1.size : Nat) : Int) by omega]
          cases nameM x.1 <;> cases decide ((0 : Int) ≤ x.2.2.1 ∧ x.2.2.1 ≤ (x.2.1.size : Int)) <;> rfl
        · have hm : x ∈ d.1 := by rw [← hx]; exact getD_mem (by omega)
          have hs := names_mem hm
          have ht := used_take (l := d.1) (i := i.toNat) (by omega) hx
          have hle := used_take_le d.1 i.toNat
          have hz := used_mem hm
          rw [show Int.toNat (i + 1) = i.toNat + 1 by omega, ht]
          simp (disch := omega) only [impl_DiskOk.l0, impl_DiskOk.b0, decT h1, cond_true, inb_eq, hx, hy, implName_eq hk, inD_eq k, Option.bind_some, decT (show i > 0 by omega), cond_false, w64_eq, fileOk]
          rw [show (used (d.1.take i.toNat) : Int) + (x.2.1.size : Int) = ((used (d.1.take i.toNat) + x.2.1.size : Nat) : Int) by omega]
          cases nameM x.1 <;> cases decide ((0 : Int) ≤ x.2.2.1 ∧ x.2.2.1 ≤ (x.2.1.size : Int)) <;> cases sls y.1 x.1 <;> rfl
/- A file of a name. -/
def findI : FileL → ByteArray → Int → Int
  | [], _, _ => -1
  | f :: l, s, i => bif seq f.1 s then i else findI l s (i + 1)
def getM : FileL → ByteArray → Option (Ty.den TFile)
  | [], _ => none
  | f :: l, s => bif seq f.1 s then some f else getM l s
theorem find_get : ∀ (l : FileL) (s : ByteArray) (i : Int), (getM l s = none ∧ findI l s i = -1) ∨ (∃ f, getM l s = some f ∧ i ≤ findI l s i ∧ findI l s i < i + (l.length : Int) ∧ l.getD (findI l s i - i).toNat (Ty.dflt TFile) = f ∧ f ∈ l)
  | [], s, i => .inl ⟨rfl, rfl⟩
  | f :: l, s, i => by
    unfold findI getM
    cases c : seq f.1 s with
    | true => exact .inr ⟨f, rfl, Int.le_refl _, by rw [cond_true, List.length_cons]; omega, by rw [cond_true, show (i - i).toNat = 0 by omega]; rfl, List.mem_cons_self ..⟩
    | false =>
      rw [cond_false, cond_false]
      rcases find_get l s (i + 1) with h | ⟨g, h1, h2, h3, h4, h5⟩
      · exact .inl h
      · refine .inr ⟨g, h1, by omega, by rw [List.length_cons]; omega, ?_, List.mem_cons_of_mem _ h5⟩
        rw [show (findI l s (i + 1) - i).toNat = (findI l s (i + 1) - (i + 1)).toNat + 1 by omega]
        exact h4
theorem specFind_eq {k : Nat} (hk : 2 ^ 50 ≤ k) {d : Ty.den TDisk} (hl : d.1.length ≤ 1099511627776) (s : ByteArray) : spec_l3Find.f k d s = some (findI d.1 s 0, ()) := by
  unfold spec_l3Find.f spec_l3Find.t
  refine forL0 (L := fun n i (_ : Int) => spec_l3Find.l0 k n s i d.1 d.2.1 d.2.2.1 d.2.2.2.1) (R := fun r j => some (findI r s j, ())) (Ty.dflt TFile) d.1 (fun i j => j = i) (fun n j hj => ?_) (fun n i j x rest h0 h1 hx hr hp ih => ?_) (n := k) (s := 0) (by omega) rfl
  · simp (disch := omega) only [spec_l3Find.l0, spec_l3Find.b0, decF, cond_false, findI]
  · have ih := ih (i + 1) rfl
    subst hp
    simp (disch := omega) only [spec_l3Find.l0, spec_l3Find.b0, decT h1, cond_true, inb_eq, hx, w64_eq, ih, findI]
    cases seq x.1 s <;> rfl
theorem implFind_eq {k : Nat} (hk : 2 ^ 50 ≤ k) {d : Ty.den TDisk} (hl : d.1.length ≤ 1099511627776) (s : ByteArray) : impl_fileAt.f k d s = some (findI d.1 s 0, ()) := by
  unfold impl_fileAt.f impl_fileAt.t
  refine forL0 (L := fun n i (_ : Int) => impl_fileAt.l0 k n s d.1 d.1.length i) (R := fun r j => some (findI r s j, ())) (Ty.dflt TFile) d.1 (fun i j => j = i) (fun n j hj => ?_) (fun n i j x rest h0 h1 hx hr hp ih => ?_) (n := k) (s := 0) (by omega) rfl
  · simp (disch := omega) only [impl_fileAt.l0, impl_fileAt.b0, decF, cond_false, findI]
  · have ih := ih (i + 1) rfl
    subst hp
    simp (disch := omega) only [impl_fileAt.l0, impl_fileAt.b0, decT h1, cond_true, inb_eq, hx, w64_eq, ih, findI]
    cases seq x.1 s <;> rfl
def textM (d : Ty.den TDisk) (s : ByteArray) : ByteArray × Bool :=
  bif diskM d then (match getM d.1 s with | none => (⟨#[]⟩, false) | some f => (f.2.1, true)) else (⟨#[]⟩, false)
theorem textM_size (d : Ty.den TDisk) (s : ByteArray) : (textM d s).1.size ≤ used d.1 := by
  unfold textM
  cases diskM d with
  | false => exact Nat.zero_le _
  | true =>
    rw [cond_true]
    rcases find_get d.1 s 0 with h | ⟨f, h1, _, _, _, h5⟩
    · rw [h.1]; exact Nat.zero_le _
    · rw [h1]; exact used_mem h5
theorem specText_eq {k : Nat} (hk : 2 ^ 50 ≤ k) {d : Ty.den TDisk} (hl : d.1.length ≤ 1099511627776) (hu : used d.1 ≤ 1099511627776) (hn : names d.1 ≤ 1099511627776) (s : ByteArray) :
    spec_FileText.f k d s = some ((textM d s).1, ((textM d s).2, ())) := by
  unfold spec_FileText.f spec_FileText.t textM
  rw [specDisk_eq hk hu hn, Option.bind_some]
  cases diskM d with
  | false => rfl
  | true =>
    rw [specFind_eq hk hl]
    simp only [Option.bind_some, Bool.not_true, cond_false, cond_true]
    rcases find_get d.1 s 0 with h | ⟨f, h1, h2, h3, h4, h5⟩
    · rw [h.1, h.2]; rfl
    · rw [h1, decF (by omega), cond_false, inb_eq h2 (by omega)]
      rw [Int.sub_zero] at h4
      rw [h4]
theorem implText_eq {k : Nat} (hk : 2 ^ 50 ≤ k) {d : Ty.den TDisk} (hl : d.1.length ≤ 1099511627776) (hu : used d.1 ≤ 1099511627776) (hn : names d.1 ≤ 1099511627776) (s : ByteArray) :
    impl_FileText.f k d s = some ((textM d s).1, ((textM d s).2, ())) := by
  unfold impl_FileText.f impl_FileText.t textM
  rw [implFind_eq hk hl, Option.bind_some]
  simp only []
  rcases find_get d.1 s 0 with h | ⟨f, h1, h2, h3, h4, h5⟩
  · rw [h.1, h.2]
    cases diskM d <;> rfl
  · rw [h1, decF (by omega), cond_false, implDisk_eq hk hu hn, Option.bind_some]
    cases diskM d with
    | false => rfl
    | true =>
      simp only [Bool.not_true, cond_false, cond_true]
      rw [inb_eq h2 (by omega)]
      rw [Int.sub_zero] at h4
      rw [h4]
/- Names of segments. -/
def namedM (p : ByteArray) (n : Int) : ByteArray := bif decide ((1 : Int) ≤ n ∧ n ≤ 100000) then p ++ decB n else ⟨#[]⟩
def segB : ByteArray := ⟨#[115, 101, 103]⟩
theorem specSegName_eq {k : Nat} (hk : 2 ^ 50 ≤ k) (n : Int) : spec_SegName.f k n = some (namedM segB n, ()) := by
  unfold spec_SegName.f spec_SegName.t namedM
  rw [l1InD_eq, Option.bind_some]
  by_cases c : (1 : Int) ≤ n ∧ n ≤ 100000
  · have hz := decB_small (n := n) (by omega) (by omega)
    rw [decT c]
    simp only [Bool.not_true, cond_false, cond_true]
    rw [specDec_eq hk (by omega) (by omega), Option.bind_some, cat_ok (by show 3 + (decB n).size ≤ _; omega)]
    rfl
  · rw [decF c]
    rfl
theorem implNamed_eq (k : Nat) {p : ByteArray} (hp : p.size ≤ 1000) (n : Int) : impl_named.f k p n = some (namedM p n, ()) := by
  unfold impl_named.f impl_named.t namedM
  rw [inD_eq, Option.bind_some]
  by_cases c : (1 : Int) ≤ n ∧ n ≤ 100000
  · have hz := decB_small (n := n) (by omega) (by omega)
    rw [decT c]
    simp only [Bool.not_true, cond_false, cond_true]
    rw [implDec_eq k (by omega) (by omega), Option.bind_some, cat_ok (by show p.size + (decB n).size ≤ _; omega)]
  · rw [decF c]
    rfl
theorem implSegName_eq (k : Nat) (n : Int) : impl_SegName.f k n = some (namedM segB n, ()) := by
  unfold impl_SegName.f impl_SegName.t
  rw [implNamed_eq k (by decide) n]
  rfl
/- What is weighed. -/
theorem disk_weight {d : Ty.den TDisk} (h : weight TDisk d ≤ 1048576) : d.1.length ≤ 1048576 ∧ used d.1 ≤ 1048576 ∧ names d.1 ≤ 1048576 := by
  have hw : weight (.slice TFile) d.1 ≤ 1048576 := by
    have : weight TDisk d = weight (.slice TFile) d.1 + (0 + (0 + (0 + 0))) := rfl
    omega
  refine ⟨weight_len hw, ?_⟩
  rw [weight_slice] at hw
  have : ∀ l : FileL, used l ≤ (l.map (weight TFile)).sum ∧ names l ≤ (l.map (weight TFile)).sum := by
    intro l
    induction l with
    | nil => exact ⟨Nat.le_refl _, Nat.le_refl _⟩
    | cons p l ih =>
      rw [used_cons, names_cons, List.map_cons, List.sum_cons]
      have : weight TFile p = p.1.size + (p.2.1.size + (0 + 0)) := rfl
      omega
  have := this d.1
  omega
end Go.Proofs.YtgcahahklmfleaaGreatDoor.G

/- M: Sealed, Check, Sound: what they answer, in both readings. -/
import Derived.Test.YtgcahahklmfleaaGreatDoorMReadLive
import Derived.Test.YtgcahahklmfleaaGreatDoorMId
import Derived.Test.YtgcahahklmfleaaGreatDoorMOwn
set_option linter.unusedVariables false
set_option linter.unusedSimpArgs false
namespace Go.Proofs.YtgcahahklmfleaaGreatDoor.G
open Go.V
def sealP (all : PlaceL) (p : Ty.den TPlace) (i : Nat) : Bool := (p.2.2.2.1.1 == 3) && fitsM p.2.2.2.1 (ownSeal p.2.2.2.1.2.1 (all.take i))
def sealL (all : PlaceL) : PlaceL → Nat → List Int → List Int
  | [], _, acc => acc
  | p :: r, i, acc => sealL all r (i + 1) (bif sealP all p i then acc ++ [p.2.2.2.1.2.1] else acc)
def sealedM (all : PlaceL) : List Int := sealL all all 0 []
theorem sealL_len (all : PlaceL) : ∀ (r : PlaceL) (i : Nat) (acc : List Int), (sealL all r i acc).length ≤ acc.length + r.length
  | [], i, acc => Nat.le_refl _
  | p :: r, i, acc => by
    have := sealL_len all r (i + 1) (bif sealP all p i then acc ++ [p.2.2.2.1.2.1] else acc)
    unfold sealL
    cases c : sealP all p i <;> rw [c] at this <;> simp only [cond_true, cond_false, len_snoc, List.length_cons] at this ⊢ <;> omega
theorem sealedM_len (all : PlaceL) : (sealedM all).length ≤ all.length := by
  have := sealL_len all all 0 []
  rw [List.length_nil] at this
  unfold sealedM
  omega
theorem specSealed_eq {k : Nat} (hk : 2 ^ 50 ≤ k) {all : PlaceL} (hl : all.length ≤ 134217728) : spec_Sealed.f k all = some (sealedM all, ()) := by
  unfold spec_Sealed.f spec_Sealed.t sealedM
  refine forL0 (L := fun n i (s : List Int × Nat) => spec_Sealed.l0 k n all i s.1) (R := fun r s => some (sealL all r s.2 s.1, ())) (Ty.dflt TPlace) all (fun i s => (s.2 : Int) = i ∧ s.1.length ≤ s.2) (fun n s hs => ?_) (fun n i s x rest h0 h1 hx hr hs ih => ?_) (n := k) (s := ([], 0)) (by omega) ⟨rfl, Nat.le_refl _⟩
  · simp (disch := omega) only [spec_Sealed.l0, spec_Sealed.b0, decF, cond_false, sealL]
  · obtain ⟨s, j⟩ := s
    obtain ⟨g1, g2⟩ := hs
    simp only [] at g1 g2 ih ⊢
    have iY := ih (s ++ [x.2.2.2.1.2.1], j + 1) ⟨by simp only []; omega, by simp only []; rw [len_snoc]; omega⟩
    have iN := ih (s, j + 1) ⟨by simp only []; omega, by simp only []; omega⟩
    simp only [] at iY iN
    have ho := ownSeal_len x.2.2.2.1.2.1 (all.take j)
    have ht : (all.take j).length ≤ all.length := by rw [List.length_take]; omega
    have hof := specOf_eq hk (l := all) (e := i) x.2.2.2.1.2.1 h0 (by omega) (by omega)
    rw [show i.toNat = j by omega] at hof
    have e : sealL all (x :: rest) j s = sealL all rest (j + 1) (bif sealP all x j then s ++ [x.2.2.2.1.2.1] else s) := rfl
    simp (disch := first | omega | decide) only [spec_Sealed.l0, spec_Sealed.b0, decT h1, cond_true, inb_eq, hx, hof, specFits_eq hk, Option.bind_some, rm_ok, w64_eq, iY, iN, e]
    unfold sealP
    cases x.2.2.2.1.1 == 3 <;> cases fitsM x.2.2.2.1 (ownSeal x.2.2.2.1.2.1 (all.take j)) <;> rfl
theorem implSealed_eq {k : Nat} (hk : 2 ^ 50 ≤ k) {all : PlaceL} (hl : all.length ≤ 134217728) : impl_Sealed.f k all = some (sealedM all, ()) := by
  unfold impl_Sealed.f impl_Sealed.t sealedM
  refine forL0 (L := fun n i (s : List Int × Nat) => impl_Sealed.l0 k n all all all.length i s.1) (R := fun r s => some (sealL all r s.2 s.1, ())) (Ty.dflt TPlace) all (fun i s => (s.2 : Int) = i ∧ s.1.length ≤ s.2) (fun n s hs => ?_) (fun n i s x rest h0 h1 hx hr hs ih => ?_) (n := k) (s := ([], 0)) (by omega) ⟨rfl, Nat.le_refl _⟩
  · simp (disch := omega) only [impl_Sealed.l0, impl_Sealed.b0, decF, cond_false, sealL]
  · obtain ⟨s, j⟩ := s
    obtain ⟨g1, g2⟩ := hs
    simp only [] at g1 g2 ih ⊢
    have iY := ih (s ++ [x.2.2.2.1.2.1], j + 1) ⟨by simp only []; omega, by simp only []; rw [len_snoc]; omega⟩
    have iN := ih (s, j + 1) ⟨by simp only []; omega, by simp only []; omega⟩
    simp only [] at iY iN
    have ho := ownSeal_len x.2.2.2.1.2.1 (all.take j)
    have ht : (all.take j).length ≤ all.length := by rw [List.length_take]; omega
    have e : sealL all (x :: rest) j s = sealL all rest (j + 1) (bif sealP all x j then s ++ [x.2.2.2.1.2.1] else s) := rfl
    rw [e]
    unfold sealP
    simp (disch := first | omega | decide) only [impl_Sealed.l0, impl_Sealed.b0, decT h1, cond_true, inb_eq, hx]
    cases c : x.2.2.2.1.1 == 3 with
    | false =>
      rw [cond_false, Bool.false_and, cond_false, w64_eq (by omega) (by omega)]
      exact iN
    | true =>
      have how := implOwn_seal hk (l := all.take j) (r := x.2.2.2.1) (beq_iff_eq.1 c) (by omega)
      rw [cond_true, Bool.true_and, inc_eq (by omega) (by omega), show i.toNat = j by omega, how, Option.bind_some]
      simp only []
      rw [implFits_eq hk _ (by omega), Option.bind_some, w64_eq (by omega) (by omega), rm_ok (by omega) (by decide)]
      cases fitsM x.2.2.2.1 (ownSeal x.2.2.2.1.2.1 (all.take j))
      · exact iN
      · exact iY
/- Check. -/
abbrev ChkS := Int × Int × Int × PlaceL
noncomputable def chk1 (d : Ty.den TDisk) (s : ChkS) (x : Int) : ChkS :=
  bif !(textM d (namedM segB x)).2 then (s.1 + 1, s.2.1, s.2.2.1, s.2.2.2)
  else bif decide ((scanM (textM d (namedM segB x)).1).2 < ((textM d (namedM segB x)).1.size : Int)) then (s.1, s.2.1 + 1, s.2.2.1 + (((textM d (namedM segB x)).1.size : Int) - (scanM (textM d (namedM segB x)).1).2), s.2.2.2 ++ placesM x (scanM (textM d (namedM segB x)).1).1)
  else (s.1, s.2.1, s.2.2.1, s.2.2.2 ++ placesM x (scanM (textM d (namedM segB x)).1).1)
noncomputable def chkL (d : Ty.den TDisk) (l : List Int) (s : ChkS) : ChkS := l.foldl (chk1 d) s
def looseP (sl : List Int) (p : Ty.den TPlace) : Bool := ((p.2.2.2.1.1 == 1) || (p.2.2.2.1.1 == 2)) && !hasN sl p.2.2.2.1.2.1
def looseL (sl : List Int) : PlaceL → Int → Int
  | [], n => n
  | p :: r, n => looseL sl r (bif looseP sl p then n + 1 else n)
def repM (live : Bool) (orph : Int) (s : ChkS) : Ty.den TReport := (live, (s.1, (s.2.1, (looseL (sealedM s.2.2.2) s.2.2.2 0, (orph, ((s.2.2.2.length : Int), (s.2.2.1, ())))))))
def liveB : ByteArray := ⟨#[108, 105, 118, 101]⟩
noncomputable def checkM (d : Ty.den TDisk) : Ty.den TReport :=
  repM (readLiveM (textM d liveB).1).2 ((orphM d (readLiveM (textM d liveB).1).1.2.1).length : Int) (chkL d (readLiveM (textM d liveB).1).1.2.1 (0, 0, 0, []))
theorem readLive_len (s : ByteArray) : (readLiveM s).1.2.1.length ≤ 60 := by
  rcases undo_cases (fun v => liveM v = true) showLiveM ((0, ([], ())) : Ty.den TLive) s with ⟨r, h1, h2, h3⟩ | h
  · unfold readLiveM
    rw [h3]
    exact (live_facts (nx := r.1) (ids := r.2.1) h1).2.2.2.1
  · unfold readLiveM
    rw [h]
    exact Nat.zero_le _
theorem scan_none : scanM ⟨#[]⟩ = ([], 0) := by
  have h := scanM_len ⟨#[]⟩
  have e : (⟨#[]⟩ : ByteArray).size = 0 := rfl
  rw [e] at h
  generalize scanM ⟨#[]⟩ = q at h
  obtain ⟨l, n⟩ := q
  simp only [] at h
  have h1 : l = [] := List.length_eq_zero_iff.1 (by omega)
  have h2 : n = 0 := by omega
  rw [h1, h2]
theorem text_none {d : Ty.den TDisk} {s : ByteArray} (h : (textM d s).2 = false) : (textM d s).1 = ⟨#[]⟩ := by
  unfold textM at h ⊢
  generalize diskM d = b at h ⊢
  generalize getM d.1 s = o at h ⊢
  cases b <;> cases o <;> first | rfl | cases h
def ChkI (i : Int) (s : ChkS) : Prop := 0 ≤ s.1 ∧ s.1 ≤ i ∧ 0 ≤ s.2.1 ∧ s.2.1 ≤ i ∧ 0 ≤ s.2.2.1 ∧ s.2.2.1 ≤ i * 1048576 ∧ (s.2.2.2.length : Int) ≤ i * 1048576
theorem chkI_step {d : Ty.den TDisk} (hu : used d.1 ≤ 1048576) {i : Int} {s : ChkS} (x : Int) (h : ChkI i s) : ChkI (i + 1) (chk1 d s x) := by
  have hz := textM_size d (namedM segB x)
  have hl := scanM_len (textM d (namedM segB x)).1
  obtain ⟨h1, h2, h3, h4, h5, h6, h7⟩ := h
  unfold chk1
  cases (textM d (namedM segB x)).2 with
  | false => exact ⟨by show 0 ≤ s.1 + 1; omega, by show s.1 + 1 ≤ _; omega, h3, by show s.2.1 ≤ _; omega, h5, by show s.2.2.1 ≤ _; omega, by show (s.2.2.2.length : Int) ≤ _; omega⟩
  | true =>
    rw [Bool.not_true, cond_false]
    have hp : ((s.2.2.2 ++ placesM x (scanM (textM d (namedM segB x)).1).1).length : Int) ≤ (i + 1) * 1048576 := by rw [List.length_append, placesM_len]; omega
    cases decide ((scanM (textM d (namedM segB x)).1).2 < ((textM d (namedM segB x)).1.size : Int)) with
    | true => exact ⟨h1, by show s.1 ≤ _; omega, by show 0 ≤ s.2.1 + 1; omega, by show s.2.1 + 1 ≤ _; omega, by show 0 ≤ s.2.2.1 + _; omega, by show s.2.2.1 + _ ≤ _; omega, hp⟩
    | false => exact ⟨h1, by show s.1 ≤ _; omega, h3, by show s.2.1 ≤ _; omega, h5, by show s.2.2.1 ≤ _; omega, hp⟩
theorem specCheck_eq {k : Nat} (hk : 2 ^ 50 ≤ k) {d : Ty.den TDisk} (hl : d.1.length ≤ 1048576) (hu : used d.1 ≤ 1048576) (hn : names d.1 ≤ 1048576) : spec_Check.f k d = some (checkM d, ()) := by
  have hz := textM_size d liveB
  have hv := readLive_len (textM d liveB).1
  unfold spec_Check.f spec_Check.t checkM
  rw [show (⟨#[108, 105, 118, 101]⟩ : ByteArray) = liveB from rfl, specText_eq hk (by omega) (by omega) (by omega), Option.bind_some]
  simp only []
  rw [specReadLive_eq hk (by omega), Option.bind_some]
  simp only []
  rw [specOrph_eq hk (by omega) (by omega) (by omega), Option.bind_some]
  generalize readLiveM (textM d liveB).1 = v at hv
  generalize ((orphM d v.1.2.1).length : Int) = orph
  obtain ⟨⟨nx, ids, _⟩, live⟩ := v
  simp only [] at hv ⊢
  refine forL0 (L := fun n i (s : ChkS) => spec_Check.l0 k n i d.1 d.2.1 d.2.2.1 d.2.2.2.1 false 0 0 0 0 0 0 live s.1 s.2.1 0 orph 0 s.2.2.1 ids nx s.2.2.2) (R := fun r s => some (repM live orph (chkL d r s), ())) (Ty.dflt (.int .i64)) ids ChkI (fun n s hs => ?_) (fun n i s x rest h0 h1 hx hr hs ih => ?_) (n := k) (s := (0, 0, 0, [])) (by omega) ⟨by simp, by simp, by simp, by simp, by simp, by simp, by simp⟩
  · obtain ⟨h1, h2, h3, h4, h5, h6, h7⟩ := hs
    have hal : s.2.2.2.length ≤ 134217728 := by omega
    have hsl := sealedM_len s.2.2.2
    simp (disch := omega) only [spec_Check.l0, spec_Check.b0, decF, cond_false, specSealed_eq hk hal, Option.bind_some]
    show _ = some (repM live orph s, ())
    unfold repM
    refine forL0 (L := fun n i (c : Int) => spec_Check.l1 k n i false 0 0 0 0 0 0 live s.1 s.2.1 c orph s.2.2.2.length s.2.2.1 s.2.2.2 (sealedM s.2.2.2)) (R := fun r c => some ((live, (s.1, (s.2.1, (looseL (sealedM s.2.2.2) r c, (orph, ((s.2.2.2.length : Int), (s.2.2.1, ()))))))), ())) (Ty.dflt TPlace) s.2.2.2 (fun i c => 0 ≤ c ∧ c ≤ i) (fun n c hc => ?_) (fun n i c x rest g0 g1 gx gr gc ih2 => ?_) (n := k) (s := 0) (by omega) ⟨by simp, by simp⟩
    · simp (disch := omega) only [spec_Check.l1, spec_Check.b1, decF, cond_false, looseL]
    · have iY := ih2 (c + 1) ⟨by omega, by omega⟩
      have iN := ih2 c ⟨by omega, by omega⟩
      have e : looseL (sealedM s.2.2.2) (x :: rest) c = looseL (sealedM s.2.2.2) rest (bif looseP (sealedM s.2.2.2) x then c + 1 else c) := rfl
      simp (disch := omega) only [spec_Check.l1, spec_Check.b1, decT g1, cond_true, inb_eq, gx, specHasN_eq hk, Option.bind_some, w64_eq, iY, iN, e]
      unfold looseP
      cases x.2.2.2.1.1 == 1 <;> cases x.2.2.2.1.1 == 2 <;> cases hasN (sealedM s.2.2.2) x.2.2.2.1.2.1 <;> rfl
  · have ih := ih (chk1 d s x) (chkI_step hu x hs)
    obtain ⟨h1', h2, h3, h4, h5, h6, h7⟩ := hs
    have hz := textM_size d (namedM segB x)
    have hsl := scanM_len (textM d (namedM segB x)).1
    have hp := placesM_len x (scanM (textM d (namedM segB x)).1).1
    have ht := specText_eq hk (d := d) (by omega) (by omega) (by omega) (namedM segB x)
    have hs := specScan_eq hk (s := (textM d (namedM segB x)).1) (by omega)
    have hpl := specPlaces_eq hk x (s := (textM d (namedM segB x)).1) (by omega)
    have e : chkL d (x :: rest) s = chkL d rest (chk1 d s x) := rfl
    rw [e, ← ih]
    simp (disch := first | omega | decide) only [spec_Check.l0, spec_Check.b0, decT h1, cond_true, inb_eq, hx, specSegName_eq hk, Option.bind_some, ht, hs, hpl, rm_ok, w64_eq]
    unfold chk1
    cases c : (textM d (namedM segB x)).2 with
    | false =>
      have h0 := text_none c
      rw [h0, scan_none]
      simp only [Bool.not_false, cond_true]
      rw [decF (show ¬ (0 : Int) < ((⟨#[]⟩ : ByteArray).size : Int) by decide), cond_false, show placesM x ([], (0 : Int)).1 = [] from rfl, List.append_nil]
    | true =>
      simp only [Bool.not_true, cond_false]
      cases decide ((scanM (textM d (namedM segB x)).1).2 < ((textM d (namedM segB x)).1.size : Int)) with
      | false => rfl
      | true =>
        simp only [cond_true]
        rw [show s.2.2.1 + (((textM d (namedM segB x)).1.size : Int) - (scanM (textM d (namedM segB x)).1).2) = s.2.2.1 + ((textM d (namedM segB x)).1.size : Int) - (scanM (textM d (namedM segB x)).1).2 by omega]
theorem implCheck_eq {k : Nat} (hk : 2 ^ 50 ≤ k) {d : Ty.den TDisk} (hl : d.1.length ≤ 1048576) (hu : used d.1 ≤ 1048576) (hn : names d.1 ≤ 1048576) : impl_Check.f k d = some (checkM d, ()) := by
  have hz := textM_size d liveB
  have hv := readLive_len (textM d liveB).1
  unfold impl_Check.f impl_Check.t checkM
  rw [show (⟨#[108, 105, 118, 101]⟩ : ByteArray) = liveB from rfl, implText_eq hk (by omega) (by omega) (by omega), Option.bind_some]
  simp only []
  rw [implReadLive_eq hk (by omega), Option.bind_some]
  simp only []
  rw [implOrph_eq hk (by omega) (by omega) (by omega), Option.bind_some]
  generalize readLiveM (textM d liveB).1 = v at hv
  generalize ((orphM d v.1.2.1).length : Int) = orph
  obtain ⟨⟨nx, ids, _⟩, live⟩ := v
  simp only [] at hv ⊢
  refine forL0 (L := fun n i (s : ChkS) => impl_Check.l0 k n ids.length i d.1 d.2.1 d.2.2.1 d.2.2.2.1 false 0 0 0 0 0 0 live s.1 s.2.1 0 orph 0 s.2.2.1 s.2.2.2 ids) (R := fun r s => some (repM live orph (chkL d r s), ())) (Ty.dflt (.int .i64)) ids ChkI (fun n s hs => ?_) (fun n i s x rest h0 h1 hx hr hs ih => ?_) (n := k) (s := (0, 0, 0, [])) (by omega) ⟨by simp, by simp, by simp, by simp, by simp, by simp, by simp⟩
  · obtain ⟨h1, h2, h3, h4, h5, h6, h7⟩ := hs
    have hal : s.2.2.2.length ≤ 134217728 := by omega
    have hsl := sealedM_len s.2.2.2
    simp (disch := omega) only [impl_Check.l0, impl_Check.b0, decF, cond_false, implSealed_eq hk hal, Option.bind_some]
    show _ = some (repM live orph s, ())
    unfold repM
    refine forL0 (L := fun n i (c : Int) => impl_Check.l1 k n s.2.2.2.length i false 0 0 0 0 0 0 live s.1 s.2.1 c orph s.2.2.2.length s.2.2.1 (sealedM s.2.2.2) s.2.2.2) (R := fun r c => some ((live, (s.1, (s.2.1, (looseL (sealedM s.2.2.2) r c, (orph, ((s.2.2.2.length : Int), (s.2.2.1, ()))))))), ())) (Ty.dflt TPlace) s.2.2.2 (fun i c => 0 ≤ c ∧ c ≤ i) (fun n c hc => ?_) (fun n i c x rest g0 g1 gx gr gc ih2 => ?_) (n := k) (s := 0) (by omega) ⟨by simp, by simp⟩
    · simp (disch := omega) only [impl_Check.l1, impl_Check.b1, decF, cond_false, looseL]
    · have iY := ih2 (c + 1) ⟨by omega, by omega⟩
      have iN := ih2 c ⟨by omega, by omega⟩
      have e : looseL (sealedM s.2.2.2) (x :: rest) c = looseL (sealedM s.2.2.2) rest (bif looseP (sealedM s.2.2.2) x then c + 1 else c) := rfl
      simp (disch := omega) only [impl_Check.l1, impl_Check.b1, decT g1, cond_true, inb_eq, gx, implHasN_eq hk, Option.bind_some, w64_eq, iY, iN, e]
      unfold looseP
      cases x.2.2.2.1.1 == 1 <;> cases x.2.2.2.1.1 == 2 <;> cases hasN (sealedM s.2.2.2) x.2.2.2.1.2.1 <;> rfl
  · have ih := ih (chk1 d s x) (chkI_step hu x hs)
    obtain ⟨h1', h2, h3, h4, h5, h6, h7⟩ := hs
    have hz := textM_size d (namedM segB x)
    have hsl := scanM_len (textM d (namedM segB x)).1
    have hp := placesM_len x (scanM (textM d (namedM segB x)).1).1
    have ht := implText_eq hk (d := d) (by omega) (by omega) (by omega) (namedM segB x)
    have hs := implScan_eq hk (s := (textM d (namedM segB x)).1) (by omega)
    have hpl := implPlaced_eq hk x (l := (scanM (textM d (namedM segB x)).1).1) (by omega)
    have e : chkL d (x :: rest) s = chkL d rest (chk1 d s x) := rfl
    rw [e, ← ih]
    simp (disch := first | omega | decide) only [impl_Check.l0, impl_Check.b0, decT h1, cond_true, inb_eq, hx, implSegName_eq k, Option.bind_some, ht, hs, hpl, rm_ok, w64_eq]
    unfold chk1
    cases c : (textM d (namedM segB x)).2 with
    | false => rfl
    | true =>
      simp only [Bool.not_true, cond_false]
      cases decide ((scanM (textM d (namedM segB x)).1).2 < ((textM d (namedM segB x)).1.size : Int)) <;> rfl
theorem core_FnExactCheck {a0 : Ty.den TDisk} (f0 : Wf TDisk a0) (w0 : weight TDisk a0 ≤ 1048576) :
    ∃ r, Ev (fun k => spec_Check.f k a0) r ∧ Ev (fun k => impl_Check.f k a0) r ∧ wp TReport r.1 ≤ 4398046511104 := by
  obtain ⟨h1, h2, h3⟩ := disk_weight w0
  refine ⟨_, ev_big fun k hk => specCheck_eq hk h1 h2 h3, ev_big fun k hk => implCheck_eq hk h1 h2 h3, ?_⟩
  rw [wp_flat TReport _ rfl]
  omega
noncomputable def soundM (d : Ty.den TDisk) : Bool := (checkM d).1 && (((checkM d).2.1 == 0) && (((checkM d).2.2.1 == 0) && ((checkM d).2.2.2.2.1 == 0)))
theorem specSound_eq {k : Nat} (hk : 2 ^ 50 ≤ k) {d : Ty.den TDisk} (hl : d.1.length ≤ 1048576) (hu : used d.1 ≤ 1048576) (hn : names d.1 ≤ 1048576) : spec_Sound.f k d = some (soundM d, ()) := by
  unfold spec_Sound.f spec_Sound.t soundM
  rw [specCheck_eq hk hl hu hn, Option.bind_some]
  simp only []
  cases (checkM d).1 <;> cases (checkM d).2.1 == 0 <;> cases (checkM d).2.2.1 == 0 <;> rfl
theorem implSound_eq {k : Nat} (hk : 2 ^ 50 ≤ k) {d : Ty.den TDisk} (hl : d.1.length ≤ 1048576) (hu : used d.1 ≤ 1048576) (hn : names d.1 ≤ 1048576) : impl_Sound.f k d = some (soundM d, ()) := by
  unfold impl_Sound.f impl_Sound.t soundM
  rw [implCheck_eq hk hl hu hn, Option.bind_some]
  simp only []
  cases (checkM d).1 <;> cases (checkM d).2.1 == 0 <;> cases (checkM d).2.2.1 == 0 <;> rfl
theorem core_FnExactSound {a0 : Ty.den TDisk} (f0 : Wf TDisk a0) (w0 : weight TDisk a0 ≤ 1048576) :
    ∃ r, Ev (fun k => spec_Sound.f k a0) r ∧ Ev (fun k => impl_Sound.f k a0) r ∧ True := by
  obtain ⟨h1, h2, h3⟩ := disk_weight w0
  exact ⟨_, ev_big fun k hk => specSound_eq hk h1 h2 h3, ev_big fun k hk => implSound_eq hk h1 h2 h3, trivial⟩
end Go.Proofs.YtgcahahklmfleaaGreatDoor.G

/- M: LiveOk, DirOk, DirGet, Get, Dump, StoreOk: what they answer, in both readings. -/
import Derived.Test.YtgcahahklmfleaaGreatDoorMDisk
import Derived.Test.YtgcahahklmfleaaGreatDoorMSeg
import Derived.Test.YtgcahahklmfleaaGreatDoorMRecAt
import Derived.Test.YtgcahahklmfleaaGreatDoorMLive
set_option linter.unusedVariables false
set_option linter.unusedSimpArgs false
namespace Go.Proofs.YtgcahahklmfleaaGreatDoor.G
open Go.V
/- Directories. -/
def entOk (p : Option (Ty.den TEntry)) (x : Ty.den TEntry) : Bool :=
  keyOkB x.1 && (decide ((1 : Int) ≤ x.2.1 ∧ x.2.1 ≤ 100000) && (!decide (x.2.2.1 < (0 : Int)) && (decide ((1 : Int) ≤ x.2.2.2.1 ∧ x.2.2.2.1 ≤ 210) && (decide ((1 : Int) ≤ x.2.2.2.2.1 ∧ x.2.2.2.2.1 ≤ 1000000) && (match p with | none => true | some y => sls y.1 x.1)))))
def dirM (l : EntryL) : Bool := decide ((l.length : Int) ≤ 20) && adj entOk none l
theorem specDir_eq {k : Nat} (hk : 2 ^ 50 ≤ k) (l : EntryL) : spec_DirOk.f k l = some (dirM l, ()) := by
  unfold spec_DirOk.f spec_DirOk.t dirM
  by_cases c : l.length > 20
  · rw [decT (by omega), cond_true, decF (by omega), Bool.false_and]
  · rw [decF (by omega), cond_false, decT (by omega), Bool.true_and]
    refine (forAdj (L := fun n i => spec_DirOk.l0 k n l i) (Ty.dflt TEntry) l entOk (some (true, ())) (some (false, ())) (fun n => ?_) (fun n x h hx => ?_) (fun n i x y h0 h1 hx hy => ?_) (n := k) (by omega)).trans (by cases adj entOk none l <;> rfl)
    · simp (disch := omega) only [spec_DirOk.l0, spec_DirOk.b0, decF, cond_false]
    · simp (disch := omega) only [spec_DirOk.l0, spec_DirOk.b0, decT (show (0 : Int) < (l.length : Int) by omega), cond_true, inb_eq, hx, specKeyOk_eq k, l1InD_eq k, Option.bind_some, decF (show ¬ (0 : Int) > 0 by omega), cond_false, w64_eq, entOk, keyOkB]
      cases decide (1 ≤ (x.1.size : Int) ∧ (x.1.size : Int) ≤ 8) <;> cases decide ((1 : Int) ≤ x.2.1 ∧ x.2.1 ≤ 100000) <;> cases decide (x.2.2.1 < (0 : Int)) <;> cases decide ((1 : Int) ≤ x.2.2.2.1 ∧ x.2.2.2.1 ≤ 210) <;> cases decide ((1 : Int) ≤ x.2.2.2.2.1 ∧ x.2.2.2.2.1 ≤ 1000000) <;> rfl
    · simp (disch := omega) only [spec_DirOk.l0, spec_DirOk.b0, decT h1, cond_true, inb_eq, hx, hy, specKeyOk_eq k, l1InD_eq k, Option.bind_some, decT (show i > 0 by omega), cond_false, w64_eq, entOk, keyOkB, sls_total]
      cases decide (1 ≤ (x.1.size : Int) ∧ (x.1.size : Int) ≤ 8) <;> cases decide ((1 : Int) ≤ x.2.1 ∧ x.2.1 ≤ 100000) <;> cases decide (x.2.2.1 < (0 : Int)) <;> cases decide ((1 : Int) ≤ x.2.2.2.1 ∧ x.2.2.2.1 ≤ 210) <;> cases decide ((1 : Int) ≤ x.2.2.2.2.1 ∧ x.2.2.2.2.1 ≤ 1000000) <;> cases sls y.1 x.1 <;> rfl
theorem implDir_eq {k : Nat} (hk : 2 ^ 50 ≤ k) {l : EntryL} (hl : l.length ≤ 1099511627776) : impl_DirOk.f k l = some (dirM l, ()) := by
  unfold impl_DirOk.f impl_DirOk.t dirM
  refine (forAdj (L := fun n i => impl_DirOk.l0 k n l l l.length i) (Ty.dflt TEntry) l entOk (some (decide ((l.length : Int) ≤ 20), ())) (some (false, ())) (fun n => ?_) (fun n x h hx => ?_) (fun n i x y h0 h1 hx hy => ?_) (n := k) (by omega)).trans (by cases adj entOk none l <;> cases decide ((l.length : Int) ≤ 20) <;> rfl)
  · simp (disch := omega) only [impl_DirOk.l0, impl_DirOk.b0, decF (show ¬ (l.length : Int) < (l.length : Int) by omega), cond_false]
  · simp (disch := omega) only [impl_DirOk.l0, impl_DirOk.b0, decT (show (0 : Int) < (l.length : Int) by omega), cond_true, inb_eq, hx, implKeyOk_eq k, inD_eq k, Option.bind_some, decF (show ¬ (0 : Int) > 0 by omega), cond_false, w64_eq, entOk, keyOkB]
    cases decide (1 ≤ (x.1.size : Int) ∧ (x.1.size : Int) ≤ 8) <;> cases decide ((1 : Int) ≤ x.2.1 ∧ x.2.1 ≤ 100000) <;> cases decide (x.2.2.1 < (0 : Int)) <;> cases decide ((1 : Int) ≤ x.2.2.2.1 ∧ x.2.2.2.1 ≤ 210) <;> cases decide ((1 : Int) ≤ x.2.2.2.2.1 ∧ x.2.2.2.2.1 ≤ 1000000) <;> rfl
  · simp (disch := omega) only [impl_DirOk.l0, impl_DirOk.b0, decT h1, cond_true, inb_eq, hx, hy, implKeyOk_eq k, inD_eq k, Option.bind_some, decT (show i > 0 by omega), cond_false, w64_eq, entOk, keyOkB]
    cases decide (1 ≤ (x.1.size : Int) ∧ (x.1.size : Int) ≤ 8) <;> cases decide ((1 : Int) ≤ x.2.1 ∧ x.2.1 ≤ 100000) <;> cases decide (x.2.2.1 < (0 : Int)) <;> cases decide ((1 : Int) ≤ x.2.2.2.1 ∧ x.2.2.2.1 ≤ 210) <;> cases decide ((1 : Int) ≤ x.2.2.2.2.1 ∧ x.2.2.2.2.1 ≤ 1000000) <;> cases sls y.1 x.1 <;> rfl
/- A key's entry. -/
def getE : EntryL → ByteArray → Option (Ty.den TEntry)
  | [], _ => none
  | e :: l, s => bif seq e.1 s then some e else getE l s
def zEntry : Ty.den TEntry := (ByteArray.empty, (0, (0, (0, (0, ())))))
def getR : Option (Ty.den TEntry) → Option (Ty.den TEntry × Bool × Unit)
  | none => some (zEntry, (false, ()))
  | some e => some (e, (true, ()))
theorem specDirGet_eq {k : Nat} (hk : 2 ^ 50 ≤ k) {l : EntryL} (hl : l.length ≤ 1099511627776) (s : ByteArray) : spec_DirGet.f k l s = getR (getE l s) := by
  unfold spec_DirGet.f spec_DirGet.t
  refine forL0 (L := fun n i (_ : Unit) => spec_DirGet.l0 k n l s i ByteArray.empty 0 0 0 0) (R := fun r _ => getR (getE r s)) (Ty.dflt TEntry) l (fun _ _ => True) (fun n _ _ => ?_) (fun n i _ x rest h0 h1 hx hr hp ih => ?_) (n := k) (s := ()) (by omega) trivial
  · simp (disch := omega) only [spec_DirGet.l0, spec_DirGet.b0, decF, cond_false, getE]
    rfl
  · have ih := ih () trivial
    simp (disch := omega) only [spec_DirGet.l0, spec_DirGet.b0, decT h1, cond_true, inb_eq, hx, w64_eq, ih, getE]
    cases seq x.1 s <;> rfl
theorem implDirGet_eq {k : Nat} (hk : 2 ^ 50 ≤ k) {l : EntryL} (hl : l.length ≤ 1099511627776) (s : ByteArray) : impl_DirGet.f k l s = getR (getE l s) := by
  unfold impl_DirGet.f impl_DirGet.t
  refine forL0 (L := fun n i (_ : Unit) => impl_DirGet.l0 k n s l l.length i ByteArray.empty 0 0 0 0) (R := fun r _ => getR (getE r s)) (Ty.dflt TEntry) l (fun _ _ => True) (fun n _ _ => ?_) (fun n i _ x rest h0 h1 hx hr hp ih => ?_) (n := k) (s := ()) (by omega) trivial
  · simp (disch := omega) only [impl_DirGet.l0, impl_DirGet.b0, decF, cond_false, getE]
    rfl
  · have ih := ih () trivial
    simp (disch := omega) only [impl_DirGet.l0, impl_DirGet.b0, decT h1, cond_true, inb_eq, hx, w64_eq, ih, getE]
    cases seq x.1 s <;> rfl
/-- What memory serves for a disk. -/
structure DSz (d : Ty.den TDisk) : Prop where
  l : d.1.length ≤ 1073741824
  u : used d.1 ≤ 1073741824
  n : names d.1 ≤ 1073741824
/- Get. -/
def zPair : Ty.den TPair := (ByteArray.empty, (ByteArray.empty, (0, ())))
noncomputable def recE (d : Ty.den TDisk) (e : Ty.den TEntry) : Ty.den TRec × Bool := recAtM (textM d (namedM segB e.2.1)).1 e.2.2.1 e.2.2.2.1
noncomputable def getP (l : EntryL) (d : Ty.den TDisk) (key : ByteArray) : Ty.den TPair × Int :=
  match getE l key with
  | none => (zPair, 8)
  | some e => bif (recE d e).2 && (seq (recE d e).1.2.2.1 key && (((recE d e).1.1 == 1) || ((recE d e).1.1 == 4))) then ((key, ((recE d e).1.2.2.2.1, ((recE d e).1.2.1, ()))), 0) else (zPair, 3)
theorem recAt_empty (i n : Int) : recAtM ⟨#[]⟩ i n = (zRec, false) := by
  unfold recAtM
  rw [if_neg]
  rintro ⟨h1, h2, h3, h4⟩
  have : ((⟨#[]⟩ : ByteArray).size : Int) = 0 := rfl
  omega
theorem text_no {d : Ty.den TDisk} {s : ByteArray} (h : (textM d s).2 = false) : (textM d s).1 = ⟨#[]⟩ := by
  unfold textM at h ⊢
  generalize diskM d = b at h ⊢
  generalize getM d.1 s = o at h ⊢
  cases b <;> cases o <;> first | rfl | cases h
theorem recE_text {d : Ty.den TDisk} {e : Ty.den TEntry} (h : (recE d e).2 = true) : (textM d (namedM segB e.2.1)).2 = true := by
  cases c : (textM d (namedM segB e.2.1)).2 with
  | true => rfl
  | false =>
    unfold recE at h
    rw [text_no c, recAt_empty] at h
    cases h
theorem specGet_eq {k : Nat} (hk : 2 ^ 50 ≤ k) {st : Ty.den TStore} {d : Ty.den TDisk} (hd : DSz d) (hl : st.2.1.length ≤ 1099511627776) (key : ByteArray) : spec_Get.f k st d key = some ((getP st.2.1 d key).1, ((getP st.2.1 d key).2, ())) := by
  have := hd.l; have := hd.u; have := hd.n
  unfold spec_Get.f spec_Get.t getP
  rw [specDirGet_eq hk hl]
  cases getE st.2.1 key with
  | none => rfl
  | some e =>
    unfold getR
    have hz := textM_size d (namedM segB e.2.1)
    simp only [Option.bind_some, Bool.not_true, cond_false, specSegName_eq hk]
    rw [specText_eq hk (by omega) (by omega) (by omega), Option.bind_some]
    simp only []
    rw [specRecAt_eq hk _ _ (by omega), Option.bind_some]
    change (bif !(textM d (namedM segB e.2.1)).2 then _ else bif !(recE d e).2 then _ else bif !seq (recE d e).1.2.2.1 key then _ else bif !((recE d e).1.1 == 1) then bif !((recE d e).1.1 == 4) then _ else some ((key, ((recE d e).1.2.2.2.1, ((recE d e).1.2.1, ()))), (0, ())) else some ((key, ((recE d e).1.2.2.2.1, ((recE d e).1.2.1, ()))), (0, ()))) = _
    cases c : (recE d e).2 with
    | false => cases (textM d (namedM segB e.2.1)).2 <;> rfl
    | true =>
      rw [recE_text c]
      cases seq (recE d e).1.2.2.1 key <;> cases ((recE d e).1.1 == 1) <;> cases ((recE d e).1.1 == 4) <;> rfl
theorem implGet_eq {k : Nat} (hk : 2 ^ 50 ≤ k) {st : Ty.den TStore} {d : Ty.den TDisk} (hd : DSz d) (hl : st.2.1.length ≤ 1099511627776) (key : ByteArray) : impl_Get.f k st d key = some ((getP st.2.1 d key).1, ((getP st.2.1 d key).2, ())) := by
  have := hd.l; have := hd.u; have := hd.n
  unfold impl_Get.f impl_Get.t getP
  rw [implDirGet_eq hk hl]
  cases getE st.2.1 key with
  | none => rfl
  | some e =>
    unfold getR
    have hz := textM_size d (namedM segB e.2.1)
    simp only [Option.bind_some, Bool.not_true, cond_false, implSegName_eq k]
    rw [implText_eq hk (by omega) (by omega) (by omega), Option.bind_some]
    simp only []
    rw [implRecAt_eq hk _ _ (by omega), Option.bind_some]
    change (bif !(recE d e).2 then _ else bif !((recE d e).1.1 == 1) then bif !((recE d e).1.1 == 4) then _ else bif !seq (recE d e).1.2.2.1 key then _ else some (((recE d e).1.2.2.1, ((recE d e).1.2.2.2.1, ((recE d e).1.2.1, ()))), (0, ())) else bif !seq (recE d e).1.2.2.1 key then _ else some (((recE d e).1.2.2.1, ((recE d e).1.2.2.2.1, ((recE d e).1.2.1, ()))), (0, ()))) = _
    cases c : (recE d e).2 with
    | false => rfl
    | true =>
      cases q : seq (recE d e).1.2.2.1 key with
      | false => cases ((recE d e).1.1 == 1) <;> cases ((recE d e).1.1 == 4) <;> rfl
      | true =>
        rw [seq_iff.1 q]
        cases ((recE d e).1.1 == 1) <;> cases ((recE d e).1.1 == 4) <;> rfl
/- Dump. -/
noncomputable def dumpL (l : EntryL) (d : Ty.den TDisk) : List ByteArray → PairL → PairL × Int
  | [], acc => (acc, 0)
  | key :: r, acc => bif (getP l d key).2 != 0 then ([], (getP l d key).2) else dumpL l d r (acc ++ [(getP l d key).1])
noncomputable def dumpM (l : EntryL) (d : Ty.den TDisk) : PairL × Int := dumpL l d (l.map (·.1)) []
theorem dumpL_len (l : EntryL) (d : Ty.den TDisk) : ∀ (r : List ByteArray) (acc : PairL), (dumpL l d r acc).1.length ≤ acc.length + r.length
  | [], acc => Nat.le_refl _
  | key :: r, acc => by
    unfold dumpL
    cases (getP l d key).2 != 0 with
    | true => exact Nat.zero_le _
    | false =>
      have := dumpL_len l d r (acc ++ [(getP l d key).1])
      rw [len_snoc] at this
      rw [cond_false, List.length_cons]
      omega
theorem dumpM_len (l : EntryL) (d : Ty.den TDisk) : (dumpM l d).1.length ≤ l.length := by
  have := dumpL_len l d (l.map (·.1)) []
  rw [List.length_map, List.length_nil] at this
  unfold dumpM
  omega
theorem specDump_eq {k : Nat} (hk : 2 ^ 50 ≤ k) {st : Ty.den TStore} {d : Ty.den TDisk} (hd : DSz d) (hl : st.2.1.length ≤ 1099511627775) : spec_Dump.f k st d = some ((dumpM st.2.1 d).1, ((dumpM st.2.1 d).2, ())) := by
  unfold spec_Dump.f spec_Dump.t dumpM
  refine forL0 (L := fun n i s => spec_Dump.l0 k n i st.1.1 st.1.2.1 st.2.1 st.2.2.1 st.2.2.2.1 st.2.2.2.2.1 d.1 d.2.1 d.2.2.1 d.2.2.2.1 s) (R := fun r s => some ((dumpL st.2.1 d (r.map (·.1)) s).1, ((dumpL st.2.1 d (r.map (·.1)) s).2, ()))) (Ty.dflt TEntry) st.2.1 (fun i s => (s.length : Int) = i) (fun n s hs => ?_) (fun n i s x rest h0 h1 hx hr hp ih => ?_) (n := k) (s := []) (by omega) rfl
  · simp (disch := omega) only [spec_Dump.l0, spec_Dump.b0, decF, cond_false, List.map_nil, dumpL]
  · have hg := specGet_eq hk (st := st) (d := d) hd (by omega) x.1
    have ih := ih (s ++ [(getP st.2.1 d x.1).1]) (by rw [len_snoc]; omega)
    simp (disch := first | omega | decide) only [spec_Dump.l0, spec_Dump.b0, decT h1, cond_true, inb_eq, hx, hg, Option.bind_some, rm_ok, w64_eq, ih, List.map_cons, dumpL]
    cases (getP st.2.1 d x.1).2 != 0 <;> rfl
theorem implKeys_eq {k : Nat} (hk : 2 ^ 50 ≤ k) {l : EntryL} (hl : l.length ≤ 1099511627775) : impl_DirKeys.f k l = some (l.map (·.1), ()) := by
  unfold impl_DirKeys.f impl_DirKeys.t
  refine forL0 (L := fun n i s => impl_DirKeys.l0 k n l l.length i s) (R := fun r s => some (s ++ r.map (·.1), ())) (Ty.dflt TEntry) l (fun i s => (s.length : Int) = i) (fun n s hs => ?_) (fun n i s x rest h0 h1 hx hr hp ih => ?_) (n := k) (s := []) (by omega) rfl
  · simp (disch := omega) only [impl_DirKeys.l0, impl_DirKeys.b0, decF, cond_false, List.map_nil, List.append_nil]
  · have ih := ih (s ++ [x.1]) (by rw [len_snoc]; omega)
    simp (disch := first | omega | decide) only [impl_DirKeys.l0, impl_DirKeys.b0, decT h1, cond_true, inb_eq, hx, rm_ok, w64_eq, ih, List.map_cons]
    rw [List.append_assoc]
    rfl
theorem implDump_eq {k : Nat} (hk : 2 ^ 50 ≤ k) {st : Ty.den TStore} {d : Ty.den TDisk} (hd : DSz d) (hl : st.2.1.length ≤ 1099511627775) : impl_Dump.f k st d = some ((dumpM st.2.1 d).1, ((dumpM st.2.1 d).2, ())) := by
  unfold impl_Dump.f impl_Dump.t dumpM
  rw [implKeys_eq hk hl, Option.bind_some]
  have hm : (st.2.1.map (·.1)).length = st.2.1.length := List.length_map ..
  refine forL0 (L := fun n i s => impl_Dump.l0 k n (st.2.1.map (·.1)).length i st.1.1 st.1.2.1 st.2.1 st.2.2.1 st.2.2.2.1 st.2.2.2.2.1 d.1 d.2.1 d.2.2.1 d.2.2.2.1 s (st.2.1.map (·.1))) (R := fun r s => some ((dumpL st.2.1 d r s).1, ((dumpL st.2.1 d r s).2, ()))) (Ty.dflt .str) (st.2.1.map (·.1)) (fun i s => (s.length : Int) = i) (fun n s hs => ?_) (fun n i s x rest h0 h1 hx hr hp ih => ?_) (n := k) (s := []) (by omega) rfl
  · simp (disch := omega) only [impl_Dump.l0, impl_Dump.b0, decF, cond_false, dumpL]
  · have hg := implGet_eq hk (st := st) (d := d) hd (by omega) x
    have ih := ih (s ++ [(getP st.2.1 d x).1]) (by rw [len_snoc]; omega)
    simp (disch := first | omega | decide) only [impl_Dump.l0, impl_Dump.b0, decT h1, cond_true, inb_eq, hx, hg, Option.bind_some, rm_ok, w64_eq, ih, dumpL]
    cases (getP st.2.1 d x).2 != 0 <;> rfl
/- StoreOk. -/
noncomputable def segOk (d : Ty.den TDisk) (tail : Int) (x : Int) (last : Bool) : Bool :=
  (textM d (namedM segB x)).2 && (decide ((scanM (textM d (namedM segB x)).1).2 = ((textM d (namedM segB x)).1.size : Int)) && (!last || (tail == ((textM d (namedM segB x)).1.size : Int))))
noncomputable def segsOk (d : Ty.den TDisk) (tail : Int) : List Int → Bool
  | [] => true
  | x :: l => segOk d tail x l.isEmpty && segsOk d tail l
noncomputable def entIn (d : Ty.den TDisk) (next : Int) (e : Ty.den TEntry) : Bool :=
  (recE d e).2 && (seq (recE d e).1.2.2.1 e.1 && (((recE d e).1.2.1 == e.2.2.2.2.1) && ((((recE d e).1.1 == 1) || ((recE d e).1.1 == 4)) && !decide (e.2.2.2.2.1 ≥ next))))
noncomputable def storeM (st : Ty.den TStore) (d : Ty.den TDisk) : Bool :=
  diskM d && (liveM st.1 && (dirM st.2.1 && (decide ((1 : Int) ≤ st.2.2.1 ∧ st.2.2.1 ≤ 1000001) && (segsOk d st.2.2.2.1 st.1.2.1 && st.2.1.all (entIn d st.2.2.1)))))
theorem last_iff {α : Type} {l : List α} {i : Int} {x : α} {rest : List α} (h0 : 0 ≤ i) (h : l.drop i.toNat = x :: rest) : rest.isEmpty = decide (i + 1 = (l.length : Int)) := by
  have := congrArg List.length h
  rw [List.length_drop, List.length_cons] at this
  cases rest with
  | nil => rw [decT (by rw [List.length_nil] at this; omega)]; rfl
  | cons y r => rw [decF (by rw [List.length_cons] at this; omega)]; rfl
theorem specStore_eq {k : Nat} (hk : 2 ^ 50 ≤ k) {st : Ty.den TStore} {d : Ty.den TDisk} (hd : DSz d) : spec_StoreOk.f k st d = some (storeM st d, ()) := by
  have := hd.l; have := hd.u; have := hd.n
  unfold spec_StoreOk.f spec_StoreOk.t storeM
  rw [specDisk_eq hk (by omega) (by omega), Option.bind_some]
  cases diskM d with
  | false => rfl
  | true =>
    rw [Bool.not_true, cond_false, specLive_eq hk, Option.bind_some, Bool.true_and]
    cases cl : liveM st.1 with
    | false => rfl
    | true =>
      rw [Bool.not_true, cond_false, specDir_eq hk, Option.bind_some, Bool.true_and]
      cases cd : dirM st.2.1 with
      | false => rfl
      | true =>
        rw [Bool.not_true, cond_false, l1InD_eq, Option.bind_some, Bool.true_and]
        cases decide ((1 : Int) ≤ st.2.2.1 ∧ st.2.2.1 ≤ 1000001) with
        | false => rfl
        | true =>
          rw [Bool.not_true, cond_false, Bool.true_and]
          have hl : st.1.2.1.length ≤ 60 := by
            unfold liveM at cl
            rw [Bool.and_eq_true, Bool.and_eq_true, decide_eq_true_eq, decide_eq_true_eq] at cl
            omega
          have he : st.2.1.length ≤ 20 := by
            unfold dirM at cd
            rw [Bool.and_eq_true, decide_eq_true_eq] at cd
            omega
          have l1 : spec_StoreOk.l1 k k 0 st.1.1 st.1.2.1 st.2.1 st.2.2.1 st.2.2.2.1 st.2.2.2.2.1 d.1 d.2.1 d.2.2.1 d.2.2.2.1 = some (st.2.1.all (entIn d st.2.2.1), ()) := by
            refine forL0 (L := fun n i (_ : Unit) => spec_StoreOk.l1 k n i st.1.1 st.1.2.1 st.2.1 st.2.2.1 st.2.2.2.1 st.2.2.2.2.1 d.1 d.2.1 d.2.2.1 d.2.2.2.1) (R := fun r _ => some (r.all (entIn d st.2.2.1), ())) (Ty.dflt TEntry) st.2.1 (fun _ _ => True) (fun n _ _ => ?_) (fun n i _ x rest h0 h1 hx hr hp ih => ?_) (n := k) (s := ()) (by omega) trivial
            · simp (disch := omega) only [spec_StoreOk.l1, spec_StoreOk.b1, decF, cond_false, List.all_nil]
            · have ih := ih () trivial
              have hz := textM_size d (namedM segB x.2.1)
              have ht := specText_eq hk (d := d) (by omega) (by omega) (by omega) (namedM segB x.2.1)
              have hr := specRecAt_eq hk (s := (textM d (namedM segB x.2.1)).1) x.2.2.1 x.2.2.2.1 (by omega)
              simp (disch := omega) only [spec_StoreOk.l1, spec_StoreOk.b1, decT h1, cond_true, inb_eq, hx, specSegName_eq hk, Option.bind_some, ht, hr, w64_eq, ih, List.all_cons, entIn, recE, bne]
              cases (recAtM (textM d (namedM segB x.2.1)).1 x.2.2.1 x.2.2.2.1).2 <;> cases seq (recAtM (textM d (namedM segB x.2.1)).1 x.2.2.1 x.2.2.2.1).1.2.2.1 x.1 <;> cases ((recAtM (textM d (namedM segB x.2.1)).1 x.2.2.1 x.2.2.2.1).1.2.1 == x.2.2.2.2.1) <;>
                cases ((recAtM (textM d (namedM segB x.2.1)).1 x.2.2.1 x.2.2.2.1).1.1 == 1) <;> cases ((recAtM (textM d (namedM segB x.2.1)).1 x.2.2.1 x.2.2.2.1).1.1 == 4) <;> cases decide (x.2.2.2.2.1 ≥ st.2.2.1) <;> rfl
          refine (forL0 (L := fun n i (_ : Unit) => spec_StoreOk.l0 k n i st.1.1 st.1.2.1 st.2.1 st.2.2.1 st.2.2.2.1 st.2.2.2.2.1 d.1 d.2.1 d.2.2.1 d.2.2.2.1) (R := fun r _ => some (segsOk d st.2.2.2.1 r && st.2.1.all (entIn d st.2.2.1), ())) (Ty.dflt (.int .i64)) st.1.2.1 (fun _ _ => True) (fun n _ _ => ?_) (fun n i _ x rest h0 h1 hx hr hp ih => ?_) (n := k) (s := ()) (by omega) trivial)
          · simp (disch := omega) only [spec_StoreOk.l0, spec_StoreOk.b0, decF, cond_false, segsOk, l1, Bool.true_and]
          · have ih := ih () trivial
            have hz := textM_size d (namedM segB x)
            have ht := specText_eq hk (d := d) (by omega) (by omega) (by omega) (namedM segB x)
            have hs := specScan_eq hk (s := (textM d (namedM segB x)).1) (by omega)
            have hle := (scanM_len (textM d (namedM segB x)).1).2.2
            have hlast := last_iff h0 hr
            simp (disch := omega) only [spec_StoreOk.l0, spec_StoreOk.b0, decT h1, cond_true, inb_eq, hx, specSegName_eq hk, Option.bind_some, ht, hs, w64_eq, ih, segsOk, segOk, bne, hlast]
            rw [show ((i + 1 : Int) == (st.1.2.1.length : Int)) = decide (i + 1 = (st.1.2.1.length : Int)) from rfl]
            cases (textM d (namedM segB x)).2 with
            | false => rfl
            | true =>
              by_cases q : (scanM (textM d (namedM segB x)).1).2 = ((textM d (namedM segB x)).1.size : Int)
              · rw [decT q, decF (by omega)]
                cases decide (i + 1 = (st.1.2.1.length : Int)) <;> cases (st.2.2.2.1 == ((textM d (namedM segB x)).1.size : Int)) <;> rfl
              · rw [decF q, decT (by omega)]
                rfl
theorem implStore_eq {k : Nat} (hk : 2 ^ 50 ≤ k) {st : Ty.den TStore} {d : Ty.den TDisk} (hd : DSz d) (hv : st.1.2.1.length ≤ 1099511627776) (hw : st.2.1.length ≤ 1099511627776) : impl_StoreOk.f k st d = some (storeM st d, ()) := by
  have := hd.l; have := hd.u; have := hd.n
  unfold impl_StoreOk.f impl_StoreOk.t storeM
  rw [implDisk_eq hk (by omega) (by omega), Option.bind_some]
  cases diskM d with
  | false => rfl
  | true =>
    rw [Bool.not_true, cond_false, implLive_eq hk hv, Option.bind_some, Bool.true_and]
    cases cl : liveM st.1 with
    | false => rfl
    | true =>
      rw [Bool.not_true, cond_false, implDir_eq hk hw, Option.bind_some, Bool.true_and]
      cases cd : dirM st.2.1 with
      | false => rfl
      | true =>
        rw [Bool.not_true, cond_false, inD_eq, Option.bind_some, Bool.true_and]
        cases decide ((1 : Int) ≤ st.2.2.1 ∧ st.2.2.1 ≤ 1000001) with
        | false => rfl
        | true =>
          rw [Bool.not_true, cond_false, Bool.true_and]
          have hl : st.1.2.1.length ≤ 60 := by
            unfold liveM at cl
            rw [Bool.and_eq_true, Bool.and_eq_true, decide_eq_true_eq, decide_eq_true_eq] at cl
            omega
          have he : st.2.1.length ≤ 20 := by
            unfold dirM at cd
            rw [Bool.and_eq_true, decide_eq_true_eq] at cd
            omega
          have l1 : impl_StoreOk.l1 k k st.2.1 st.2.1.length 0 st.1.1 st.1.2.1 st.2.1 st.2.2.1 st.2.2.2.1 st.2.2.2.2.1 d.1 d.2.1 d.2.2.1 d.2.2.2.1 = some (st.2.1.all (entIn d st.2.2.1), ()) := by
            refine forL0 (L := fun n i (_ : Unit) => impl_StoreOk.l1 k n st.2.1 st.2.1.length i st.1.1 st.1.2.1 st.2.1 st.2.2.1 st.2.2.2.1 st.2.2.2.2.1 d.1 d.2.1 d.2.2.1 d.2.2.2.1) (R := fun r _ => some (r.all (entIn d st.2.2.1), ())) (Ty.dflt TEntry) st.2.1 (fun _ _ => True) (fun n _ _ => ?_) (fun n i _ x rest h0 h1 hx hr hp ih => ?_) (n := k) (s := ()) (by omega) trivial
            · simp (disch := omega) only [impl_StoreOk.l1, impl_StoreOk.b1, decF, cond_false, List.all_nil]
            · have ih := ih () trivial
              have hz := textM_size d (namedM segB x.2.1)
              have ht := implText_eq hk (d := d) (by omega) (by omega) (by omega) (namedM segB x.2.1)
              have hr := implRecAt_eq hk (s := (textM d (namedM segB x.2.1)).1) x.2.2.1 x.2.2.2.1 (by omega)
              simp (disch := omega) only [impl_StoreOk.l1, impl_StoreOk.b1, decT h1, cond_true, inb_eq, hx, implSegName_eq k, Option.bind_some, ht, hr, w64_eq, ih, List.all_cons, entIn, recE, bne]
              cases (recAtM (textM d (namedM segB x.2.1)).1 x.2.2.1 x.2.2.2.1).2 <;> cases seq (recAtM (textM d (namedM segB x.2.1)).1 x.2.2.1 x.2.2.2.1).1.2.2.1 x.1 <;> cases ((recAtM (textM d (namedM segB x.2.1)).1 x.2.2.1 x.2.2.2.1).1.2.1 == x.2.2.2.2.1) <;>
                cases ((recAtM (textM d (namedM segB x.2.1)).1 x.2.2.1 x.2.2.2.1).1.1 == 1) <;> cases ((recAtM (textM d (namedM segB x.2.1)).1 x.2.2.1 x.2.2.2.1).1.1 == 4) <;> cases decide (x.2.2.2.2.1 ≥ st.2.2.1) <;> rfl
          refine (forL0 (L := fun n i (_ : Unit) => impl_StoreOk.l0 k n st.1.2.1 st.1.2.1.length i st.1.1 st.1.2.1 st.2.1 st.2.2.1 st.2.2.2.1 st.2.2.2.2.1 d.1 d.2.1 d.2.2.1 d.2.2.2.1) (R := fun r _ => some (segsOk d st.2.2.2.1 r && st.2.1.all (entIn d st.2.2.1), ())) (Ty.dflt (.int .i64)) st.1.2.1 (fun _ _ => True) (fun n _ _ => ?_) (fun n i _ x rest h0 h1 hx hr hp ih => ?_) (n := k) (s := ()) (by omega) trivial)
          · simp (disch := omega) only [impl_StoreOk.l0, impl_StoreOk.b0, decF, cond_false, segsOk, l1, Bool.true_and]
          · have ih := ih () trivial
            have hz := textM_size d (namedM segB x)
            have ht := implText_eq hk (d := d) (by omega) (by omega) (by omega) (namedM segB x)
            have hs := implScan_eq hk (s := (textM d (namedM segB x)).1) (by omega)
            have hlast := last_iff h0 hr
            simp (disch := omega) only [impl_StoreOk.l0, impl_StoreOk.b0, decT h1, cond_true, inb_eq, hx, implSegName_eq k, Option.bind_some, ht, hs, w64_eq, ih, segsOk, segOk, bne, hlast]
            rw [show (i == (st.1.2.1.length : Int) - 1) = decide (i + 1 = (st.1.2.1.length : Int)) from (show decide (i = (st.1.2.1.length : Int) - 1) = _ from decide_eq_decide.2 (by omega))]
            cases (textM d (namedM segB x)).2 with
            | false => rfl
            | true =>
              by_cases q : (scanM (textM d (namedM segB x)).1).2 = ((textM d (namedM segB x)).1.size : Int)
              · rw [decT q, show ((scanM (textM d (namedM segB x)).1).2 == ((textM d (namedM segB x)).1.size : Int)) = true from beq_iff_eq.2 q, q]
                cases decide (i + 1 = (st.1.2.1.length : Int)) <;> cases (st.2.2.2.1 == ((textM d (namedM segB x)).1.size : Int)) <;> rfl
              · rw [decF q, show ((scanM (textM d (namedM segB x)).1).2 == ((textM d (namedM segB x)).1.size : Int)) = false from beq_eq_false_iff_ne.2 q]
                rfl
end Go.Proofs.YtgcahahklmfleaaGreatDoor.G

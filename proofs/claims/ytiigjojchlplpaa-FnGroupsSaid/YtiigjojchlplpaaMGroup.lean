/- M: places, directories, Regroup, RecAt: what they answer, in both readings. -/
import Derived.Test.YtiigjojchlplpaaMEnt
import Derived.Test.YtiigjojchlplpaaMOwn
set_option linter.unusedVariables false
set_option linter.unusedSimpArgs false
namespace Go.Proofs.Ytiigjojchlplpaa.G
open Go.V
def dropM (l : EntryL) (key : ByteArray) : EntryL := l.filter fun x => !(seq x.1 key)
def leE (key : ByteArray) (x : Ty.den TEntry) : Bool := sls x.1 key || seq x.1 key
def insE (l : EntryL) (e : Ty.den TEntry) : EntryL := l.takeWhile (leE e.1) ++ e :: l.dropWhile (leE e.1)
def putM (l : EntryL) (e : Ty.den TEntry) : EntryL := insE (dropM l e.1) e
theorem dropM_len (l : EntryL) (key : ByteArray) : (dropM l key).length ≤ l.length := List.length_filter_le ..
theorem insE_len (l : EntryL) (e : Ty.den TEntry) : (insE l e).length = l.length + 1 := by
  unfold insE
  rw [List.length_append, List.length_cons]
  have := congrArg List.length (List.takeWhile_append_dropWhile (p := leE e.1) (l := l))
  rw [List.length_append] at this
  omega
theorem putM_len (l : EntryL) (e : Ty.den TEntry) : (putM l e).length ≤ l.length + 1 := by
  unfold putM
  have := dropM_len l e.1
  rw [insE_len]
  omega
theorem implDirDrop_eq {k : Nat} (hk : 2 ^ 50 ≤ k) {l : EntryL} (key : ByteArray) (hl : l.length ≤ 1099511627775) : impl_DirDrop.f k l key = some (dropM l key, ()) := by
  unfold impl_DirDrop.f impl_DirDrop.t
  refine (forL0 (L := fun n i s => impl_DirDrop.l0 k n key l l.length i s) (R := fun r s => some (s ++ dropM r key, ())) (Ty.dflt TEntry) l (fun i s => (s.length : Int) ≤ i) (fun n s hs => ?_) (fun n i s x rest h0 h1 hx hr hp ih => ?_) (n := k) (s := []) (by omega) (by decide)).trans (by rw [List.nil_append])
  · simp (disch := omega) only [impl_DirDrop.l0, impl_DirDrop.b0, decF, cond_false, dropM, List.filter_nil, List.append_nil]
  · cases c : seq x.1 key with
    | true =>
      simp (disch := first | omega | decide) only [impl_DirDrop.l0, impl_DirDrop.b0, decT, cond_true, cond_false, inb_eq, hx, c, Bool.not_true, w64_eq]
      refine (ih s (by omega)).trans ?_
      simp only [dropM, List.filter_cons, c, Bool.not_true, Bool.false_eq_true, if_false]
    | false =>
      simp (disch := first | omega | decide) only [impl_DirDrop.l0, impl_DirDrop.b0, decT, cond_true, inb_eq, hx, c, Bool.not_false, rm_ok, w64_eq]
      refine (ih (s ++ [x]) (by rw [len_snoc]; omega)).trans ?_
      simp only [dropM, List.filter_cons, c, Bool.not_false, if_true, List.append_assoc, List.cons_append, List.nil_append]
theorem specDirDrop_eq {k : Nat} (hk : 2 ^ 50 ≤ k) {l : EntryL} (key : ByteArray) (hl : l.length ≤ 1099511627775) : spec_DirDrop.f k l key = some (dropM l key, ()) := by
  unfold spec_DirDrop.f spec_DirDrop.t
  refine (forL0 (L := fun n i s => spec_DirDrop.l0 k n l key i s) (R := fun r s => some (s ++ dropM r key, ())) (Ty.dflt TEntry) l (fun i s => (s.length : Int) ≤ i) (fun n s hs => ?_) (fun n i s x rest h0 h1 hx hr hp ih => ?_) (n := k) (s := []) (by omega) (by decide)).trans (by rw [List.nil_append])
  · simp (disch := omega) only [spec_DirDrop.l0, spec_DirDrop.b0, decF, cond_false, dropM, List.filter_nil, List.append_nil]
  · cases c : seq x.1 key with
    | true =>
      simp (disch := first | omega | decide) only [spec_DirDrop.l0, spec_DirDrop.b0, decT, cond_true, cond_false, inb_eq, hx, c, Bool.not_true, w64_eq]
      refine (ih s (by omega)).trans ?_
      simp only [dropM, List.filter_cons, c, Bool.not_true, Bool.false_eq_true, if_false]
    | false =>
      simp (disch := first | omega | decide) only [spec_DirDrop.l0, spec_DirDrop.b0, decT, cond_true, inb_eq, hx, c, Bool.not_false, rm_ok, w64_eq]
      refine (ih (s ++ [x]) (by rw [len_snoc]; omega)).trans ?_
      simp only [dropM, List.filter_cons, c, Bool.not_false, if_true, List.append_assoc, List.cons_append, List.nil_append]
theorem implDirPut_eq {k : Nat} (hk : 2 ^ 50 ≤ k) {l : EntryL} (e : Ty.den TEntry) (hl : l.length ≤ 1099511627775) : impl_DirPut.f k l e = some (putM l e, ()) := by
  unfold impl_DirPut.f impl_DirPut.t putM
  rw [implDirDrop_eq hk e.1 hl, Option.bind_some]
  have hd := dropM_len l e.1
  simp only []
  generalize dropM l e.1 = r at *
  have cp : ∀ q : EntryL, q.length ≤ 1099511627775 → impl_copyDir.f k q = some (q, ()) := fun q hq => by
    unfold impl_copyDir.f impl_copyDir.t
    rw [rm_ok (by omega) (by decide)]
  have key : ∀ (d j n : Nat), r.length - j = d → j ≤ r.length → d < n → impl_DirPut.l0 k n (j : Int) e.1 e.2.1 e.2.2.1 e.2.2.2.1 e.2.2.2.2.1 r = some (r.take j ++ insE (r.drop j) e, ()) := by
    intro d
    induction d with
    | zero =>
      intro j n hd hj hn
      obtain ⟨n, rfl⟩ : ∃ q, n = q + 1 := ⟨n - 1, by omega⟩
      have : j = r.length := by omega
      subst this
      simp (disch := first | omega | (simp only [len_snoc, List.length_take, List.length_drop]; omega) | decide) only [impl_DirPut.l0, impl_DirPut.b0, decF, cond_false, inc_eq, toNat_ofNat, cp, Option.bind_some, rm_ok]
      rw [List.drop_length, insE]
      simp
    | succ d ih =>
      intro j n hd hj hn
      obtain ⟨n, rfl⟩ : ∃ q, n = q + 1 := ⟨n - 1, by omega⟩
      have hlt : j < r.length := by omega
      have e1 : r.drop j = r.getD j (Ty.dflt TEntry) :: r.drop (j + 1) := by
        rw [List.drop_eq_getElem_cons hlt]
        simp [List.getD, hlt]
      cases c : leE e.1 (r.getD j (Ty.dflt TEntry)) with
      | true =>
        have c' := c
        unfold leE at c'
        have ih := ih (j + 1) n (by omega) (by omega) (by omega)
        simp (disch := omega) only [impl_DirPut.l0, impl_DirPut.b0, decT, cond_true, inb_eq, toNat_ofNat, c', w64_eq]
        rw [show ((j : Int) + 1) = ((j + 1 : Nat) : Int) by omega, ih, e1, take_succ_getD (z := Ty.dflt TEntry) hlt]
        unfold insE
        simp only [List.takeWhile_cons, List.dropWhile_cons, c, if_true, List.append_assoc, List.cons_append, List.nil_append]
      | false =>
        have c' := c
        unfold leE at c'
        simp (disch := first | omega | (simp only [len_snoc, List.length_take, List.length_drop]; omega) | decide) only [impl_DirPut.l0, impl_DirPut.b0, decT, cond_true, cond_false, inb_eq, toNat_ofNat, c', inc_eq, cp, Option.bind_some, rm_ok]
        rw [e1]
        unfold insE
        simp only [List.takeWhile_cons, List.dropWhile_cons, c, Bool.false_eq_true, if_false, List.append_assoc, List.cons_append, List.nil_append]
  exact (key r.length 0 k (by omega) (by omega) (by omega)).trans (by rw [List.take_zero, List.drop_zero, List.nil_append])
theorem specDirPut_eq {k : Nat} (hk : 2 ^ 50 ≤ k) {l : EntryL} (e : Ty.den TEntry) (hl : l.length ≤ 1073741823) : spec_DirPut.f k l e = some (putM l e, ()) := by
  unfold spec_DirPut.f spec_DirPut.t
  refine (forL0 (L := fun n i (s : Bool × EntryL) => spec_DirPut.l0 k n l s.1 i e.1 e.2.1 e.2.2.1 e.2.2.2.1 e.2.2.2.2.1 s.2) (R := fun r s => some (s.2 ++ bif s.1 then dropM r e.1 else insE (dropM r e.1) e, ())) (Ty.dflt TEntry) l (fun i s => (s.2.length : Int) ≤ 2 * i + 1) (fun n s hs => ?_) (fun n i s x rest h0 h1 hx hr hp ih => ?_) (n := k) (s := (false, [])) (by omega) (by simp)).trans (by rw [List.nil_append]; rfl)
  · obtain ⟨dn, out⟩ := s
    simp only [] at hs
    cases dn with
    | true => simp (disch := first | omega | decide) only [spec_DirPut.l0, spec_DirPut.b0, decF, cond_false, cond_true, Bool.not_true, dropM, List.filter_nil, List.append_nil]
    | false => simp (disch := first | omega | decide) only [spec_DirPut.l0, spec_DirPut.b0, decF, cond_false, cond_true, Bool.not_false, rm_ok, dropM, List.filter_nil, insE, List.takeWhile_nil, List.dropWhile_nil, List.nil_append]
  · obtain ⟨dn, out⟩ := s
    simp only [] at hp
    cases c : seq x.1 e.1 with
    | true =>
      simp (disch := omega) only [spec_DirPut.l0, spec_DirPut.b0, decT, cond_true, inb_eq, hx, c, w64_eq]
      refine (ih (dn, out) (by simp only []; omega)).trans ?_
      simp only [dropM, List.filter_cons, c, Bool.not_true, Bool.false_eq_true, if_false]
    | false =>
      have ef : dropM (x :: rest) e.1 = x :: dropM rest e.1 := by simp only [dropM, List.filter_cons, c, Bool.not_false, if_true]
      cases dn with
      | true =>
        simp (disch := first | omega | decide) only [spec_DirPut.l0, spec_DirPut.b0, decT, cond_true, cond_false, inb_eq, hx, c, w64_eq, Bool.not_true, rm_ok]
        refine (ih (true, out ++ [x]) (by simp only [len_snoc]; omega)).trans ?_
        rw [ef]
        simp only [cond_true, List.append_assoc, List.cons_append, List.nil_append]
      | false =>
        cases c2 : sls x.1 e.1 with
        | true =>
          simp (disch := first | omega | decide) only [spec_DirPut.l0, spec_DirPut.b0, decT, cond_true, cond_false, inb_eq, hx, c, c2, w64_eq, Bool.not_false, Bool.not_true, Bool.true_or, rm_ok]
          refine (ih (false, out ++ [x]) (by simp only [len_snoc]; omega)).trans ?_
          rw [ef]
          simp only [cond_false, insE, leE, List.takeWhile_cons, List.dropWhile_cons, c2, Bool.true_or, if_true, List.append_assoc, List.cons_append, List.nil_append]
        | false =>
          have hx2 : (out ++ [(e.1, (e.2.1, (e.2.2.1, (e.2.2.2.1, (e.2.2.2.2.1, ())))))] : EntryL).length + 1 ≤ 1099511627776 := by rw [len_snoc]; omega
          simp (disch := first | omega | decide) only [spec_DirPut.l0, spec_DirPut.b0, decT, cond_true, cond_false, inb_eq, hx, c, c2, w64_eq, Bool.not_false, Bool.or_false, rm_ok]
          refine (ih (true, (out ++ [e]) ++ [x]) (by simp only [len_snoc]; omega)).trans ?_
          rw [ef]
          simp only [cond_true, cond_false, insE, leE, List.takeWhile_cons, List.dropWhile_cons, c, c2, Bool.or_false, Bool.false_eq_true, if_false, List.append_assoc, List.cons_append, List.nil_append]
/- Records of a batch, or of a mark. -/
theorem specKept_eq {k : Nat} (hk : 2 ^ 50 ≤ k) {l : PlaceL} {e : Int} (h0 : 0 ≤ e) (he : e ≤ l.length) (hl : l.length ≤ 1099511627775) : spec_l9Kept.f k l e = some (ownMark (l.take e.toNat), ()) := by
  unfold spec_l9Kept.f spec_l9Kept.t
  have hlen : (l.take e.toNat).length = e.toNat := by rw [List.length_take]; omega
  have he' : e = ((l.take e.toNat).length : Int) := by omega
  conv => lhs; rw [he']
  refine forL0 (L := fun n i s => spec_l9Kept.l0 k n l ((l.take e.toNat).length : Int) i s) (R := fun r s => some (r.foldl stepMark s, ())) (Ty.dflt TPlace) (l.take e.toNat) (fun i s => (s.length : Int) ≤ i) (fun n s hs => ?_) (fun n i s x rest h0 h1 hx hr hp ih => ?_) (n := k) (s := []) (by omega) (by decide)
  · simp (disch := omega) only [spec_l9Kept.l0, spec_l9Kept.b0, decF, cond_false, List.foldl_nil]
  · rw [getD_take (by omega)] at hx
    simp (disch := omega) only [spec_l9Kept.l0, spec_l9Kept.b0, decT h1, cond_true, inb_eq, hx, w64_eq]
    rw [List.foldl_cons]
    have hs1 := stepMark_len s x
    have ih1 := ih (stepMark s x) (by omega)
    rw [← ih1]
    unfold stepMark
    have r1 : ∀ {R : Type} (q : Option R), rm (Ty.bytes TPlace) (s.length + 1) q = q := fun q => rm_ok (by omega) (by decide)
    have r2 : ∀ {R : Type} (q : Option R), rm (Ty.bytes TPlace) (0 + 1) q = q := fun q => rm_ok (by omega) (by decide)
    simp only [r1, r2]
    cases c1 : (x.2.2.2.1.1 == 5) <;> cases c2 : (x.2.2.2.1.1 == 4) <;> first | rfl | skip
    all_goals (exfalso; have e2 := eq_of_beq c1; rw [e2] at c2; revert c2; decide)
def entryOf (p : Ty.den TPlace) : Ty.den TEntry := (p.2.2.2.1.2.2.1, (p.1, (p.2.1, (p.2.2.1, (p.2.2.2.1.2.1, ())))))
def stepDir (d : EntryL) (p : Ty.den TPlace) : EntryL := bif p.2.2.2.1.1 == 2 then dropM d p.2.2.2.1.2.2.1 else putM d (entryOf p)
def applyM (d : EntryL) (own : PlaceL) : EntryL := own.foldl stepDir d
theorem stepDir_len (d : EntryL) (p : Ty.den TPlace) : (stepDir d p).length ≤ d.length + 1 := by
  unfold stepDir
  have h1 := dropM_len d p.2.2.2.1.2.2.1
  have h2 := putM_len d (entryOf p)
  cases p.2.2.2.1.1 == 2
  · rw [cond_false]; omega
  · rw [cond_true]; omega
theorem applyM_len : ∀ (own : PlaceL) (d : EntryL), (applyM d own).length ≤ d.length + own.length
  | [], d => Nat.le_refl _
  | p :: own, d => by
    have := applyM_len own (stepDir d p)
    have := stepDir_len d p
    rw [applyM, List.foldl_cons, List.length_cons]
    unfold applyM at this
    simp only [applyM] at *
    omega
def codeM (d : EntryL) (code : Int) : Int := if d.length > 20 then 2 else code
theorem implApply_eq {k : Nat} (hk : 2 ^ 50 ≤ k) (g : Ty.den TGroup) {own : PlaceL} (ho : own.length ≤ 268435456) (hd : g.1.length ≤ 268435456) : impl_Group__apply.f k g own = some ((applyM g.1 own, (g.2.1, (codeM (applyM g.1 own) g.2.2.1, ()))), ()) := by
  unfold impl_Group__apply.f impl_Group__apply.t
  refine forL0 (L := fun n i (d : EntryL) => impl_Group__apply.l0 k n own own.length i d g.2.1 g.2.2.1) (R := fun q d => some ((applyM d q, (g.2.1, (codeM (applyM d q) g.2.2.1, ()))), ())) (Ty.dflt TPlace) own (fun i d => (d.length : Int) ≤ 268435456 + i) (fun n d hs => ?_) (fun n i d x rest h0 h1 hx hr hp ih => ?_) (n := k) (s := g.1) (by omega) (by omega)
  · change _ = some ((d, (g.2.1, (codeM d g.2.2.1, ()))), ())
    simp (disch := omega) only [impl_Group__apply.l0, impl_Group__apply.b0, decF (show ¬ ((own.length : Int) < (own.length : Int)) by omega), cond_false, codeM]
    by_cases c : d.length > 20
    · rw [decT (by omega), if_pos c]; rfl
    · rw [decF (by omega), if_neg c]; rfl
  · have hsd := stepDir_len d x
    have ih := ih (stepDir d x) (by omega)
    have e : stepDir d x = bif x.2.2.2.1.1 == 2 then dropM d x.2.2.2.1.2.2.1 else putM d (entryOf x) := rfl
    simp (disch := omega) only [impl_Group__apply.l0, impl_Group__apply.b0, decT h1, cond_true, inb_eq, hx, implDirDrop_eq hk, implDirPut_eq hk, Option.bind_some, w64_eq]
    rw [show applyM d (x :: rest) = applyM (stepDir d x) rest from rfl, ← ih, e]
    cases x.2.2.2.1.1 == 2 <;> rfl
theorem specPut_eq {k : Nat} (hk : 2 ^ 50 ≤ k) {d : EntryL} (p : Ty.den TPlace) (hd : d.length ≤ 1073741823) : spec_l9Put.f k d p = some (stepDir d p, ()) := by
  unfold spec_l9Put.f spec_l9Put.t stepDir
  rw [specDirDrop_eq hk _ (by omega), specDirPut_eq hk _ hd]
  cases p.2.2.2.1.1 == 2 <;> rfl
/- Regroup. -/
def maxM (a b : Int) : Int := if a > b then a else b
def regroupL (all : PlaceL) : PlaceL → Nat → EntryL → Int → Int → Ty.den TGroup
  | [], _, d, last, code => bif code == 0 && decide ((ownMark all).length > 0) then (d, (last, (1, ()))) else (d, (last, (code, ())))
  | p :: rest, i, d, last, code =>
    bif code != 0 then (d, (last, (code, ()))) else
    bif p.2.2.2.1.1 == 3 then (bif fitsM p.2.2.2.1 (ownSeal p.2.2.2.1.2.1 (all.take i)) then regroupL all rest (i + 1) (applyM d (ownSeal p.2.2.2.1.2.1 (all.take i))) (maxM p.2.2.2.1.2.1 last) (codeM (applyM d (ownSeal p.2.2.2.1.2.1 (all.take i))) code)
      else regroupL all rest (i + 1) d (maxM p.2.2.2.1.2.1 last) code) else
    bif p.2.2.2.1.1 == 5 then (bif fitsM p.2.2.2.1 (ownMark (all.take i)) then regroupL all rest (i + 1) (applyM d (ownMark (all.take i))) (maxM p.2.2.2.1.2.1 last) (codeM (applyM d (ownMark (all.take i))) code)
      else regroupL all rest (i + 1) d (maxM p.2.2.2.1.2.1 last) 1) else
    regroupL all rest (i + 1) d (maxM p.2.2.2.1.2.1 last) code
def regroupM (g : Ty.den TGroup) (l : PlaceL) : Ty.den TGroup := regroupL l l 0 g.1 g.2.1 g.2.2.1
def RInv (d : EntryL) (code : Int) : Prop := d.length ≤ 268435456 ∧ (code = 0 → d.length ≤ 134217728)
theorem rinv_apply {d : EntryL} {own : PlaceL} {code : Int} (h : RInv d 0) (ho : own.length ≤ 134217728) : RInv (applyM d own) (codeM (applyM d own) code) := by
  have h1 := applyM_len own d
  have h2 := h.2 rfl
  refine ⟨by omega, fun q => ?_⟩
  unfold codeM at q
  split at q
  · cases q
  · omega
theorem rinv_one {d : EntryL} (h : RInv d 0) : RInv d 1 := ⟨h.1, fun q => by cases q⟩
theorem implRegroup_eq {k : Nat} (hk : 2 ^ 50 ≤ k) (g : Ty.den TGroup) {l : PlaceL} (hl : l.length ≤ 134217728) (hd : g.1.length ≤ 134217728) : impl_Regroup.f k g l = some (regroupM g l, ()) := by
  unfold impl_Regroup.f impl_Regroup.t
  have cp : impl_copyDir.f k g.1 = some (g.1, ()) := by
    unfold impl_copyDir.f impl_copyDir.t
    rw [rm_ok (by omega) (by decide)]
  rw [cp, Option.bind_some]
  simp only []
  have key := forL (L := fun n i (s : EntryL × Int × Int) => impl_Regroup.l0 k n l l l.length i [] 0 0 s.1 s.2.1 s.2.2) (R := fun (q : PlaceL) s => some (regroupL l q (l.length - q.length) s.1 s.2.1 s.2.2, ())) (Ty.dflt TPlace) l (fun i s => RInv s.1 s.2.2) (fun n s hs => ?_) (fun n i s x rest h0 h1 hx hr hp ih => ?_) k 0 (g.1, (g.2.1, g.2.2.1)) (by omega) (by omega) (by omega) ⟨by simp only []; omega, fun _ => by simp only []; omega⟩
  · have e : l.drop (Int.toNat 0) = l := rfl
    rw [e, Nat.sub_self] at key
    exact key
  · obtain ⟨d, last, code⟩ := s
    have hm := implOwn_mark hk (l := l) (r := (5, (0, (ByteArray.empty, (ByteArray.empty, (0, (0, ()))))))) rfl (by omega)
    simp (disch := omega) only [impl_Regroup.l0, impl_Regroup.b0, decF, cond_false, regroupL, hm, Option.bind_some]
    cases c1 : (code == 0)
    · rfl
    · by_cases c2 : (ownMark l).length > 0
      · rw [decT (show ((ownMark l).length : Int) > 0 by omega), decT c2]; rfl
      · rw [decF (show ¬ ((ownMark l).length : Int) > 0 by omega), decF c2]; rfl
  · obtain ⟨d, last, code⟩ := s
    simp only [] at hp ih
    have hi : l.length - (x :: rest).length = i.toNat := by
      have := congrArg List.length hr
      rw [List.length_drop] at this
      omega
    have hi2 : l.length - rest.length = i.toNat + 1 := by rw [List.length_cons] at hi; have := congrArg List.length hr; rw [List.length_drop, List.length_cons] at this; omega
    have htk : (l.take i.toNat).length ≤ 134217728 := by rw [List.length_take]; omega
    have ih := fun a b c h => ih (a, (b, c)) h
    simp only [hi2] at ih
    rw [hi]
    simp (disch := omega) only [impl_Regroup.l0, impl_Regroup.b0, decT h1, cond_true, inb_eq, hx, w64_eq, regroupL]
    by_cases c0 : code = 0
    case neg =>
      rw [show (code != 0) = true from bne_iff_ne.2 c0]
      rfl
    subst c0
    simp only [show ((0 : Int) != 0) = false from rfl, cond_false]
    by_cases c3 : x.2.2.2.1.1 = 3
    · have b3 : (x.2.2.2.1.1 == 3) = true := by rw [c3]; rfl
      have b3' : (x.2.2.2.1.1 != 3) = false := by rw [c3]; rfl
      have b5 : (x.2.2.2.1.1 == 5) = false := by rw [c3]; rfl
      have hlen := ownSeal_len x.2.2.2.1.2.1 (l.take i.toNat)
      simp only [b3, b3', b5, cond_true, cond_false]
      rw [inc_eq (by omega) (by omega), implOwn_seal hk c3 (by omega), Option.bind_some]
      simp only []
      rw [implFits_eq hk _ (by omega), Option.bind_some]
      cases c : fitsM x.2.2.2.1 (ownSeal x.2.2.2.1.2.1 (l.take i.toNat)) with
      | true =>
        simp only [cond_true]
        rw [implApply_eq hk _ (by omega) (by simp only []; exact hp.1), Option.bind_some]
        exact ih _ _ _ (rinv_apply hp (by omega))
      | false =>
        simp only [cond_false]
        exact ih _ _ _ hp
    · have b3 : (x.2.2.2.1.1 == 3) = false := beq_eq_false_iff_ne.2 c3
      have b3' : (x.2.2.2.1.1 != 3) = true := bne_iff_ne.2 c3
      by_cases c5 : x.2.2.2.1.1 = 5
      · have b5 : (x.2.2.2.1.1 == 5) = true := by rw [c5]; rfl
        have b5' : (x.2.2.2.1.1 != 5) = false := by rw [c5]; rfl
        have hlen := ownMark_len (l.take i.toNat)
        simp only [b3, b3', b5, b5', cond_true, cond_false]
        rw [inc_eq (by omega) (by omega), implOwn_mark hk c5 (by omega), Option.bind_some]
        simp only []
        rw [implFits_eq hk _ (by omega), Option.bind_some]
        cases c : fitsM x.2.2.2.1 (ownMark (l.take i.toNat)) with
        | true =>
          simp only [cond_true]
          rw [implApply_eq hk _ (by omega) (by simp only []; exact hp.1), Option.bind_some]
          exact ih _ _ _ (rinv_apply hp (by omega))
        | false =>
          simp only [cond_false]
          exact ih _ _ _ (rinv_one hp)
      · have b5 : (x.2.2.2.1.1 == 5) = false := beq_eq_false_iff_ne.2 c5
        have b5' : (x.2.2.2.1.1 != 5) = true := bne_iff_ne.2 c5
        simp only [b3, b3', b5, b5', cond_true, cond_false]
        exact ih _ _ _ hp
theorem specRegroup_eq {k : Nat} (hk : 2 ^ 50 ≤ k) (g : Ty.den TGroup) {l : PlaceL} (hl : l.length ≤ 134217728) (hd : g.1.length ≤ 134217728) : spec_Regroup.f k g l = some (regroupM g l, ()) := by
  unfold spec_Regroup.f spec_Regroup.t
  rw [rm_ok (by omega) (by decide), List.nil_append]
  have inner : ∀ {own : PlaceL} {d : EntryL} (L0 : PlaceL → Int → EntryL → Int → Int → EntryL → Int → Int → Option (Ty.den TGroup × Unit)) (i last code : Int), own.length ≤ 134217728 → d.length ≤ 268435456 → 0 ≤ i → i ≤ 134217728 →
      spec_Regroup.l1 k L0 k l i 0 [] 0 0 d last code own = L0 l (i + 1) [] 0 0 (applyM d own) last (codeM (applyM d own) code) := fun {own d} L0 i last code ho hd2 hi0 hi1 => by
    refine forL0 (L := fun n j (d : EntryL) => spec_Regroup.l1 k L0 n l i j [] 0 0 d last code own) (R := fun q d => L0 l (i + 1) [] 0 0 (applyM d q) last (codeM (applyM d q) code)) (Ty.dflt TPlace) own (fun j d => (d.length : Int) ≤ 268435456 + j) (fun n d hs => ?_) (fun n j d x rest h0 h1 hx hr hp ih => ?_) (n := k) (s := d) (by omega) (by omega)
    · change _ = L0 l (i + 1) [] 0 0 d last (codeM d code)
      simp (disch := omega) only [spec_Regroup.l1, spec_Regroup.b1, decF (show ¬ ((own.length : Int) < (own.length : Int)) by omega), cond_false, codeM, w64_eq]
      by_cases c : d.length > 20
      · rw [decT (by omega), if_pos c]; rfl
      · rw [decF (by omega), if_neg c]; rfl
    · have hsd := stepDir_len d x
      simp (disch := omega) only [spec_Regroup.l1, spec_Regroup.b1, decT h1, cond_true, inb_eq, hx, specPut_eq hk, Option.bind_some, w64_eq]
      exact ih _ (by omega)
  have hmk := specKept_eq hk (l := l) (e := l.length) (by omega) (by omega) (by omega)
  rw [Int.toNat_natCast, List.take_length] at hmk
  have key := forL (L := fun n i (s : EntryL × Int × Int) => spec_Regroup.l0 k n l i [] 0 0 s.1 s.2.1 s.2.2) (R := fun (q : PlaceL) s => some (regroupL l q (l.length - q.length) s.1 s.2.1 s.2.2, ())) (Ty.dflt TPlace) l (fun i s => RInv s.1 s.2.2) (fun n s hs => ?_) (fun n i s x rest h0 h1 hx hr hp ih => ?_) k 0 (g.1, (g.2.1, g.2.2.1)) (by omega) (by omega) (by omega) ⟨by simp only []; omega, fun _ => by simp only []; omega⟩
  · have e : l.drop (Int.toNat 0) = l := rfl
    rw [e, Nat.sub_self] at key
    exact key
  · obtain ⟨d, last, code⟩ := s
    simp (disch := omega) only [spec_Regroup.l0, spec_Regroup.b0, decF, cond_false, regroupL, hmk, Option.bind_some]
    cases c1 : (code == 0)
    · rfl
    · by_cases c2 : (ownMark l).length > 0
      · rw [decT (show ((ownMark l).length : Int) > 0 by omega), decT c2]; rfl
      · rw [decF (show ¬ ((ownMark l).length : Int) > 0 by omega), decF c2]; rfl
  · obtain ⟨d, last, code⟩ := s
    simp only [] at hp ih
    have hi : l.length - (x :: rest).length = i.toNat := by
      have := congrArg List.length hr
      rw [List.length_drop] at this
      omega
    have hi2 : l.length - rest.length = i.toNat + 1 := by rw [List.length_cons] at hi; have := congrArg List.length hr; rw [List.length_drop, List.length_cons] at this; omega
    have htk : (l.take i.toNat).length ≤ 134217728 := by rw [List.length_take]; omega
    have ih := fun a b c h => ih (a, (b, c)) h
    simp only [hi2] at ih
    rw [hi]
    simp (disch := omega) only [spec_Regroup.l0, spec_Regroup.b0, decT h1, cond_true, inb_eq, hx, w64_eq, regroupL, hmk, Option.bind_some]
    by_cases c0 : code = 0
    case neg =>
      rw [show (code != 0) = true from bne_iff_ne.2 c0, show (code == 0) = false from beq_eq_false_iff_ne.2 c0]
      rfl
    subst c0
    simp only [show ((0 : Int) != 0) = false from rfl, show ((0 : Int) == 0) = true from rfl, cond_false, cond_true]
    by_cases c3 : x.2.2.2.1.1 = 3
    · have b3 : (x.2.2.2.1.1 == 3) = true := by rw [c3]; rfl
      have hlen := ownSeal_len x.2.2.2.1.2.1 (l.take i.toNat)
      simp only [b3, cond_true]
      rw [specOf_eq hk _ h0 (by omega) (by omega), Option.bind_some]
      simp only []
      rw [specFits_eq hk _ (by omega), Option.bind_some]
      cases c : fitsM x.2.2.2.1 (ownSeal x.2.2.2.1.2.1 (l.take i.toNat)) with
      | true =>
        simp only [Bool.not_true, cond_true, cond_false]
        rw [inner _ i _ _ (by omega) hp.1 h0 (by omega)]
        exact ih _ _ _ (rinv_apply hp (by omega))
      | false =>
        simp only [Bool.not_false, cond_true, cond_false]
        exact ih _ _ _ hp
    · have b3 : (x.2.2.2.1.1 == 3) = false := beq_eq_false_iff_ne.2 c3
      by_cases c5 : x.2.2.2.1.1 = 5
      · have b5 : (x.2.2.2.1.1 == 5) = true := by rw [c5]; rfl
        have hlen := ownMark_len (l.take i.toNat)
        simp only [b3, b5, cond_true, cond_false]
        rw [specKept_eq hk h0 (by omega) (by omega), Option.bind_some]
        simp only []
        rw [specFits_eq hk _ (by omega), Option.bind_some]
        cases c : fitsM x.2.2.2.1 (ownMark (l.take i.toNat)) with
        | true =>
          simp only [Bool.not_true, cond_true, cond_false]
          rw [inner _ i _ _ (by omega) hp.1 h0 (by omega)]
          exact ih _ _ _ (rinv_apply hp (by omega))
        | false =>
          simp only [Bool.not_false, cond_true, cond_false]
          exact ih _ _ _ (rinv_one hp)
      · have b5 : (x.2.2.2.1.1 == 5) = false := beq_eq_false_iff_ne.2 c5
        simp only [b3, b5, cond_true, cond_false]
        exact ih _ _ _ hp
theorem regroupL_len (all : PlaceL) (ha : all.length ≤ 134217728) : ∀ (q : PlaceL) (i : Nat) (d : EntryL) (last code : Int), RInv d code → (regroupL all q i d last code).1.length ≤ 268435456
  | [], i, d, last, code, h => by
    unfold regroupL
    cases code == 0 && decide ((ownMark all).length > 0) <;> exact h.1
  | p :: q, i, d, last, code, h => by
    have hs := ownSeal_len p.2.2.2.1.2.1 (all.take i)
    have hm := ownMark_len (all.take i)
    have htk : (all.take i).length ≤ 134217728 := by rw [List.length_take]; omega
    unfold regroupL
    by_cases c0 : code = 0
    case neg => rw [show (code != 0) = true from bne_iff_ne.2 c0]; exact h.1
    subst c0
    simp only [show ((0 : Int) != 0) = false from rfl, cond_false]
    cases p.2.2.2.1.1 == 3
    · cases p.2.2.2.1.1 == 5
      · exact regroupL_len all ha q _ _ _ _ h
      · cases fitsM p.2.2.2.1 (ownMark (all.take i))
        · exact regroupL_len all ha q _ _ _ _ (rinv_one h)
        · exact regroupL_len all ha q _ _ _ _ (rinv_apply h (by omega))
    · cases fitsM p.2.2.2.1 (ownSeal p.2.2.2.1.2.1 (all.take i))
      · exact regroupL_len all ha q _ _ _ _ h
      · exact regroupL_len all ha q _ _ _ _ (rinv_apply h (by omega))
theorem regroupM_len {g : Ty.den TGroup} {l : PlaceL} (hl : l.length ≤ 134217728) (hd : g.1.length ≤ 134217728) : (regroupM g l).1.length ≤ 268435456 := regroupL_len l hl l 0 _ _ _ ⟨by omega, fun _ => hd⟩
end Go.Proofs.Ytiigjojchlplpaa.G

/- M: what a seal or a mark is for, and whether it fits: what they answer, in both readings. -/
import Derived.Test.YtiigjojchlplpaaMRec
import Derived.Test.YtiigjojchlplpaaMAdj
set_option linter.unusedVariables false
set_option linter.unusedSimpArgs false
namespace Go.Proofs.Ytiigjojchlplpaa.G
open Go.V
abbrev PlaceL := List (Ty.den TPlace)
/- Own records. -/
def stepSeal (b : Int) (acc : PlaceL) (p : Ty.den TPlace) : PlaceL :=
  bif p.2.2.2.1.2.1 == b then (bif p.2.2.2.1.1 == 3 then [] else bif p.2.2.2.1.1 == 1 || p.2.2.2.1.1 == 2 then acc ++ [p] else acc) else acc
def stepMark (acc : PlaceL) (p : Ty.den TPlace) : PlaceL := bif p.2.2.2.1.1 == 5 then [] else bif p.2.2.2.1.1 == 4 then acc ++ [p] else acc
def ownSeal (b : Int) (l : PlaceL) : PlaceL := l.foldl (stepSeal b) []
def ownMark (l : PlaceL) : PlaceL := l.foldl stepMark []
theorem stepSeal_len (b : Int) (acc : PlaceL) (p : Ty.den TPlace) : (stepSeal b acc p).length ≤ acc.length + 1 := by
  unfold stepSeal
  cases p.2.2.2.1.2.1 == b <;> cases p.2.2.2.1.1 == 3 <;> cases p.2.2.2.1.1 == 1 <;> cases p.2.2.2.1.1 == 2 <;> simp
theorem stepMark_len (acc : PlaceL) (p : Ty.den TPlace) : (stepMark acc p).length ≤ acc.length + 1 := by
  unfold stepMark
  cases p.2.2.2.1.1 == 5 <;> cases p.2.2.2.1.1 == 4 <;> simp
theorem foldl_len {f : PlaceL → Ty.den TPlace → PlaceL} (h : ∀ a p, (f a p).length ≤ a.length + 1) : ∀ (l acc : PlaceL), (l.foldl f acc).length ≤ acc.length + l.length
  | [], acc => by simp
  | p :: l, acc => by
    have := foldl_len h l (f acc p)
    have := h acc p
    rw [List.foldl_cons, List.length_cons]
    omega
theorem ownSeal_len (b : Int) (l : PlaceL) : (ownSeal b l).length ≤ l.length := by
  have := foldl_len (stepSeal_len b) l []
  simpa [ownSeal] using this
theorem ownMark_len (l : PlaceL) : (ownMark l).length ≤ l.length := by
  have := foldl_len stepMark_len l []
  simpa [ownMark] using this
theorem specOf_eq {k : Nat} (hk : 2 ^ 50 ≤ k) {l : PlaceL} {e : Int} (b : Int) (h0 : 0 ≤ e) (he : e ≤ l.length) (hl : l.length ≤ 1099511627775) : spec_l9Of.f k l e b = some (ownSeal b (l.take e.toNat), ()) := by
  unfold spec_l9Of.f spec_l9Of.t
  have hlen : (l.take e.toNat).length = e.toNat := by rw [List.length_take]; omega
  have he' : e = ((l.take e.toNat).length : Int) := by omega
  conv => lhs; rw [he']
  refine forL0 (L := fun n i s => spec_l9Of.l0 k n l ((l.take e.toNat).length : Int) b i s) (R := fun r s => some (r.foldl (stepSeal b) s, ())) (Ty.dflt TPlace) (l.take e.toNat) (fun i s => (s.length : Int) ≤ i) (fun n s hs => ?_) (fun n i s x rest h0 h1 hx hr hp ih => ?_) (n := k) (s := []) (by omega) (by decide)
  · simp (disch := omega) only [spec_l9Of.l0, spec_l9Of.b0, decF, cond_false, List.foldl_nil]
  · rw [getD_take (by omega)] at hx
    have ih := fun s' (h : s'.length ≤ s.length + 1) => ih s' (by omega)
    simp (disch := omega) only [spec_l9Of.l0, spec_l9Of.b0, decT h1, cond_true, inb_eq, hx, w64_eq]
    rw [List.foldl_cons]
    have hs1 := stepSeal_len b s x
    have ih1 := ih _ hs1
    rw [← ih1]
    unfold stepSeal
    have r1 : ∀ {R : Type} (q : Option R), rm (Ty.bytes TPlace) (s.length + 1) q = q := fun q => rm_ok (by omega) (by decide)
    have r2 : ∀ {R : Type} (q : Option R), rm (Ty.bytes TPlace) (0 + 1) q = q := fun q => rm_ok (by omega) (by decide)
    simp only [r1, r2]
    cases c1 : (x.2.2.2.1.2.1 == b) <;> cases c2 : (x.2.2.2.1.1 == 3) <;> cases c3 : (x.2.2.2.1.1 == 1) <;> cases c4 : (x.2.2.2.1.1 == 2) <;> first | rfl | skip
    all_goals (exfalso; have e2 := eq_of_beq c2; first | (rw [e2] at c3; revert c3; decide) | (rw [e2] at c4; revert c4; decide))
theorem implOwn_seal {k : Nat} (hk : 2 ^ 50 ≤ k) {l : PlaceL} {r : Ty.den TRec} (hr : r.1 = 3) (hl : l.length ≤ 1099511627775) : impl_ownOf.f k l r = some (ownSeal r.2.1 l, ()) := by
  unfold impl_ownOf.f impl_ownOf.t
  rw [hr]
  refine forL0 (L := fun n i s => impl_ownOf.l0 k n l l.length i 3 r.2.1 r.2.2.1 r.2.2.2.1 r.2.2.2.2.1 r.2.2.2.2.2.1 s) (R := fun q s => some (q.foldl (stepSeal r.2.1) s, ())) (Ty.dflt TPlace) l (fun i s => (s.length : Int) ≤ i) (fun n s hs => ?_) (fun n i s x rest h0 h1 hx hr hp ih => ?_) (n := k) (s := []) (by omega) (by decide)
  · simp (disch := omega) only [impl_ownOf.l0, impl_ownOf.b0, decF, cond_false, List.foldl_nil]
  · simp (disch := omega) only [impl_ownOf.l0, impl_ownOf.b0, decT h1, cond_true, cond_false, inb_eq, hx, w64_eq, show ((3 : Int) == 3) = true from rfl, show ((3 : Int) == 5) = false from rfl]
    rw [List.foldl_cons]
    have hs1 := stepSeal_len r.2.1 s x
    have ih1 := ih (stepSeal r.2.1 s x) (by omega)
    rw [← ih1]
    unfold stepSeal bne
    have r1 : ∀ {R : Type} (q : Option R), rm (Ty.bytes TPlace) (s.length + 1) q = q := fun q => rm_ok (by omega) (by decide)
    simp only [r1]
    cases c1 : (x.2.2.2.1.2.1 == r.2.1) <;> cases c2 : (x.2.2.2.1.1 == 3) <;> cases c3 : (x.2.2.2.1.1 == 1) <;> cases c4 : (x.2.2.2.1.1 == 2) <;> rfl
theorem implOwn_mark {k : Nat} (hk : 2 ^ 50 ≤ k) {l : PlaceL} {r : Ty.den TRec} (hr : r.1 = 5) (hl : l.length ≤ 1099511627775) : impl_ownOf.f k l r = some (ownMark l, ()) := by
  unfold impl_ownOf.f impl_ownOf.t
  rw [hr]
  refine forL0 (L := fun n i s => impl_ownOf.l0 k n l l.length i 5 r.2.1 r.2.2.1 r.2.2.2.1 r.2.2.2.2.1 r.2.2.2.2.2.1 s) (R := fun q s => some (q.foldl stepMark s, ())) (Ty.dflt TPlace) l (fun i s => (s.length : Int) ≤ i) (fun n s hs => ?_) (fun n i s x rest h0 h1 hx hr hp ih => ?_) (n := k) (s := []) (by omega) (by decide)
  · simp (disch := omega) only [impl_ownOf.l0, impl_ownOf.b0, decF, cond_false, List.foldl_nil]
  · simp (disch := omega) only [impl_ownOf.l0, impl_ownOf.b0, decT h1, cond_true, cond_false, inb_eq, hx, w64_eq, show ((5 : Int) == 3) = false from rfl, show ((5 : Int) == 5) = true from rfl]
    rw [List.foldl_cons]
    have hs1 := stepMark_len s x
    have ih1 := ih (stepMark s x) (by omega)
    rw [← ih1]
    unfold stepMark
    have r1 : ∀ {R : Type} (q : Option R), rm (Ty.bytes TPlace) (s.length + 1) q = q := fun q => rm_ok (by omega) (by decide)
    simp only [r1]
    cases c1 : (x.2.2.2.1.1 == 5) <;> cases c2 : (x.2.2.2.1.1 == 4) <;> rfl
/- Seals and marks that fit. -/
def recOf (p : Ty.den TPlace) : Ty.den TRec := p.2.2.2.1
def fitsM (r : Ty.den TRec) (own : PlaceL) : Bool := (r.2.2.2.2.1 == (own.length : Int)) && (r.2.2.2.2.2.1 == sumM (own.map recOf))
theorem implFits_eq {k : Nat} (hk : 2 ^ 50 ≤ k) (r : Ty.den TRec) {l : PlaceL} (hl : l.length ≤ 1073741823) : impl_fits.f k r l = some (fitsM r l, ()) := by
  unfold impl_fits.f impl_fits.t
  refine (forL0 (L := fun n i s => impl_fits.l0 k n l l.length i r.1 r.2.1 r.2.2.1 r.2.2.2.1 r.2.2.2.2.1 r.2.2.2.2.2.1 s) (R := fun q s => some ((r.2.2.2.2.1 == ((s ++ q.map recOf).length : Int)) && (r.2.2.2.2.2.1 == sumM (s ++ q.map recOf)), ())) (Ty.dflt TPlace) l (fun i s => (s.length : Int) = i) (fun n s hs => ?_) (fun n i s x rest h0 h1 hx hr hp ih => ?_) (n := k) (s := []) (by omega) (by decide)).trans (by rw [List.nil_append, List.length_map]; rfl)
  · simp (disch := omega) only [impl_fits.l0, impl_fits.b0, decF, cond_false, List.map_nil, List.append_nil, implSumOf_eq hk, Option.bind_some]
    cases (r.2.2.2.2.1 == (s.length : Int)) <;> rfl
  · simp (disch := first | omega | decide) only [impl_fits.l0, impl_fits.b0, decT, cond_true, inb_eq, hx, rm_ok, w64_eq]
    refine (ih (s ++ [recOf x]) (by rw [len_snoc]; omega)).trans ?_
    simp only [List.map_cons, List.append_assoc, List.cons_append, List.nil_append]
theorem specFits_eq {k : Nat} (hk : 2 ^ 50 ≤ k) (r : Ty.den TRec) {l : PlaceL} (hl : l.length ≤ 1073741823) : spec_l9Fits.f k r l = some (fitsM r l, ()) := by
  have e : spec_l9Recs.f k l = some (l.map recOf, ()) := by
    unfold spec_l9Recs.f spec_l9Recs.t
    refine (forL0 (L := fun n i s => spec_l9Recs.l0 k n l i s) (R := fun q s => some (s ++ q.map recOf, ())) (Ty.dflt TPlace) l (fun i s => (s.length : Int) = i) (fun n s hs => ?_) (fun n i s x rest h0 h1 hx hr hp ih => ?_) (n := k) (s := []) (by omega) (by decide)).trans (by rw [List.nil_append])
    · simp (disch := omega) only [spec_l9Recs.l0, spec_l9Recs.b0, decF, cond_false, List.map_nil, List.append_nil]
    · simp (disch := first | omega | decide) only [spec_l9Recs.l0, spec_l9Recs.b0, decT, cond_true, inb_eq, hx, rm_ok, w64_eq]
      refine (ih (s ++ [recOf x]) (by rw [len_snoc]; omega)).trans ?_
      simp only [List.map_cons, List.append_assoc, List.cons_append, List.nil_append]
  unfold spec_l9Fits.f spec_l9Fits.t fitsM
  rw [e, Option.bind_some]
  simp only []
  rw [specSumOf_eq hk (by rw [List.length_map]; omega), Option.bind_some]
  cases (r.2.2.2.2.1 == (l.length : Int)) <;> rfl
/- What a batch does to a directory. -/
end Go.Proofs.Ytiigjojchlplpaa.G

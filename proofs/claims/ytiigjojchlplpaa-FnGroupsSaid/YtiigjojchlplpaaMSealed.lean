/- M: what is sealed, as the program finds it. -/
import Derived.Test.YtiigjojchlplpaaMOwn
set_option linter.unusedVariables false
set_option linter.unusedSimpArgs false
namespace Go.Proofs.Ytiigjojchlplpaa.G
open Go.V
def sealP (all : PlaceL) (p : Ty.den TPlace) (i : Nat) : Bool := (p.2.2.2.1.1 == 3) && fitsM p.2.2.2.1 (ownSeal p.2.2.2.1.2.1 (all.take i))
def sealL (all : PlaceL) : PlaceL → Nat → List Int → List Int
  | [], _, acc => acc
  | p :: r, i, acc => sealL all r (i + 1) (bif sealP all p i then acc ++ [p.2.2.2.1.2.1] else acc)
def sealedM (all : PlaceL) : List Int := sealL all all 0 []
theorem sealL_len (all : PlaceL) : ∀ (r : PlaceL) (i : Nat) (acc : List Int), (sealL all r i acc).length ≤ acc.length + r.length
  | [], i, acc => Nat.le_refl _
  | p :: r, i, acc => by
    have := sealL_len all r (i + 1) (bif sealP all p i then acc ++ [p.2.2.2.1.2.1] else acc)
    unfold sealL
    cases c : sealP all p i <;> rw [c] at this <;> simp only [cond_true, cond_false, len_snoc, List.length_cons] at this ⊢ <;> omega
theorem sealedM_len (all : PlaceL) : (sealedM all).length ≤ all.length := by
  have := sealL_len all all 0 []
  rw [List.length_nil] at this
  unfold sealedM
  omega
theorem implSealed_eq {k : Nat} (hk : 2 ^ 50 ≤ k) {all : PlaceL} (hl : all.length ≤ 134217728) : impl_Sealed.f k all = some (sealedM all, ()) := by
  unfold impl_Sealed.f impl_Sealed.t sealedM
  refine forL0 (L := fun n i (s : List Int × Nat) => impl_Sealed.l0 k n all all all.length i s.1) (R := fun r s => some (sealL all r s.2 s.1, ())) (Ty.dflt TPlace) all (fun i s => (s.2 : Int) = i ∧ s.1.length ≤ s.2) (fun n s hs => ?_) (fun n i s x rest h0 h1 hx hr hs ih => ?_) (n := k) (s := ([], 0)) (by omega) ⟨rfl, Nat.le_refl _⟩
  · simp (disch := omega) only [impl_Sealed.l0, impl_Sealed.b0, decF, cond_false, sealL]
  · obtain ⟨s, j⟩ := s
    obtain ⟨g1, g2⟩ := hs
    simp only [] at g1 g2 ih ⊢
    have iY := ih (s ++ [x.2.2.2.1.2.1], j + 1) ⟨by simp only []; omega, by simp only []; rw [len_snoc]; omega⟩
    have iN := ih (s, j + 1) ⟨by simp only []; omega, by simp only []; omega⟩
    simp only [] at iY iN
    have ho := ownSeal_len x.2.2.2.1.2.1 (all.take j)
    have ht : (all.take j).length ≤ all.length := by rw [List.length_take]; omega
    have e : sealL all (x :: rest) j s = sealL all rest (j + 1) (bif sealP all x j then s ++ [x.2.2.2.1.2.1] else s) := rfl
    rw [e]
    unfold sealP
    simp (disch := first | omega | decide) only [impl_Sealed.l0, impl_Sealed.b0, decT h1, cond_true, inb_eq, hx]
    cases c : x.2.2.2.1.1 == 3 with
    | false =>
      rw [cond_false, Bool.false_and, cond_false, w64_eq (by omega) (by omega)]
      exact iN
    | true =>
      have how := implOwn_seal hk (l := all.take j) (r := x.2.2.2.1) (beq_iff_eq.1 c) (by omega)
      rw [cond_true, Bool.true_and, inc_eq (by omega) (by omega), show i.toNat = j by omega, how, Option.bind_some]
      simp only []
      rw [implFits_eq hk _ (by omega), Option.bind_some, w64_eq (by omega) (by omega), rm_ok (by omega) (by decide)]
      cases fitsM x.2.2.2.1 (ownSeal x.2.2.2.1.2.1 (all.take j))
      · exact iN
      · exact iY
end Go.Proofs.Ytiigjojchlplpaa.G

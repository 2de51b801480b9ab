/- FnExactCacheNew: the program's CacheNew returns what the reference's returns, for all arguments. No condition. -/
import Derived.Test.YtlbpalfjmjmimaaPFnExactCacheNewx3
namespace Go.Proofs.Ytlbpalfjmjmimaa.Pure
open Go.RowKit Go.Proofs.Ytlbpalfjmjmimaa.PFnExactCacheNew Go.Proofs.YtlbpalfjmjmimaaW.PrintWords Go.Proofs.YtlbpalfjmjmimaaW.PrintLast

theorem run (x : Int) :
    (laws_eqCache.f 1 x ([] : List S125) 0 x ([] : List S125) 0) = some true ∧
    (laws_markCache.f 1 x ([] : List S125) 0 1) = some (1, []) ∧
    (laws_heldCache.f 1 x ([] : List S125) 0 1) = some 1 := by
  refine ⟨?_, ?_, ?_⟩ <;>
    simp [laws_eqCache.f, laws_eqSlotS.f, laws_eqSlotS.l0, laws_markCache.f, laws_markSlotS.f, laws_markSlotS.l0,
      laws_heldCache.f, laws_heldSlotS.f, laws_heldSlotS.l0]

theorem both (a0 : Int) : ∃ x, impl_CacheNew.f a0 = some (x, [], 0) ∧ spec_CacheNew.f a0 = some (x, [], 0) := by
  unfold impl_CacheNew.f spec_CacheNew.f impl_in.f spec_l1In.f
  by_cases h1 : a0 ≥ 1 <;> by_cases h2 : a0 ≤ 10 <;> simp [h1, h2]

theorem FnExactCacheNew : laws_FnExactCacheNew.Pure := by
  intro a0 _
  obtain ⟨x, h1, h2⟩ := both a0
  obtain ⟨e1, e2, e3⟩ := run x
  refine ⟨1, ?_⟩
  simp [laws_FnExactCacheNew.f, h1, h2, e1, e2, e3]

end Go.Proofs.Ytlbpalfjmjmimaa.Pure

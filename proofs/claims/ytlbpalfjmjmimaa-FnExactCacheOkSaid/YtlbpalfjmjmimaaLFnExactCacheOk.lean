/- For every input the law FnExactCacheOk answers true. No condition is asked. -/
import Derived.Test.YtlbpalfjmjmimaaRows
import Derived.WalkKit
import Derived.ProofKit
import Derived.Test.YtlbpalfjmjmimaaCQ1
import Derived.Test.YtlbpalfjmjmimaaSmall
namespace Go.Proofs.Ytlbpalfjmjmimaa.fnExactCacheOk
open Go.V Go.Proofs.Ytlbpalfjmjmimaa.G
set_option linter.unusedVariables false
set_option maxRecDepth 100000
theorem own : ownKnob Try.prog.godebug = none := by kernel_rfl
theorem pure' : ∀ x, Wf (tup [(.pair (.int .i64) (.pair (.slice (.pair .str (.pair (.int .i64) (.pair .str .unit)))) (.pair (.int .i64) .unit)))]) x → ∃ k, laws_FnExactCacheOk.f k x.1 = some (true, ()) := G.fnExactCacheOk_pure
theorem lifted (os : Os) (started : os.Started) (H : Type) (enc : TypeId × Value → H) :
    ReturnsInHanded {} Try.checked os 7 .any (Rows.fnExactCacheOkSpec.pre6 enc Try.prog Try.f7 Rows.fnExactCacheOkRow.domain false) (Rows.fnExactCacheOkSpec.post enc Try.prog Try.f7 false true false false) := by
  refine returnsInHanded_of_change_sized (C := Try.checked) own started (by kernel_rfl) Try.func7
    (ChangeSpec.witness6 (enc := enc) (C := Try.checked) false ⟨#[], #[.agg #[.int .i64 0, .slice none 0 0, .int .i64 0]], []⟩ 16 (by kernel_rfl) (by kernel_rfl) (by kernel_rfl) (by kernel_rfl)) ?_
  intro W base args ds gs before hval hW hcnd hsz _
  exact law_contract (us := [(.pair (.int .i64) (.pair (.slice (.pair .str (.pair (.int .i64) (.pair .str .unit)))) (.pair (.int .i64) .unit)))]) tb_ok tb_rows (by kernel_rfl) (by kernel_rfl) (by kernel_rfl) (tbool := 4) (by kernel_rfl) rfl
    (fun ds h => by
      match ds, h with
      | [d0], _ => rfl) (fun k => laws_FnExactCacheOk.ctr k) pure' W base args ds gs before hval hW hsz
theorem over : Rows.fnExactCacheOkRow.holds Try.pinned (OpenSpec.ofChange Rows.fnExactCacheOkSpec) :=
  OpenClaim.holds_of_wide 7 Try.f7 rfl rfl rfl rfl rfl rfl rfl ⟨rfl, rfl, rfl, rfl, rfl⟩ rfl rfl rfl rfl rfl (by kernel_rfl) Try.func7 (by kernel_rfl)
    (of_decide_eq_true (by kernel_rfl)) (by unfold Func.isWrapper; first | (rw [if_pos (by decide +kernel)]; kernel_rfl) | (rw [if_neg (by decide +kernel)]; exact ⟨rfl, rfl⟩))
    (fun os started H enc _ => lifted os started H enc)
end Go.Proofs.Ytlbpalfjmjmimaa.fnExactCacheOk
namespace Go.Proofs.Ytlbpalfjmjmimaa
/-- The row, for the claim. -/
theorem fnExactCacheOk_holds : Rows.FnExactCacheOkSaid := fnExactCacheOk.over
end Go.Proofs.Ytlbpalfjmjmimaa

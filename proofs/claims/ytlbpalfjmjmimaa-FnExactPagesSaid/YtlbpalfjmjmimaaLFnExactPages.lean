/- For every input the law FnExactPages answers true. No condition is asked. -/
import Derived.Test.YtlbpalfjmjmimaaRows
import Derived.WalkKit
import Derived.ProofKit
import Derived.Test.YtlbpalfjmjmimaaCQ2
import Derived.Test.YtlbpalfjmjmimaaPFnExactPages
namespace Go.Proofs.Ytlbpalfjmjmimaa.fnExactPages
open Go.V Go.Proofs.Ytlbpalfjmjmimaa.G
set_option linter.unusedVariables false
set_option maxRecDepth 100000
theorem own : ownKnob Try.prog.godebug = none := by kernel_rfl
theorem pure' : ∀ x, Wf (tup [(.slice (.pair .str (.pair (.int .i64) (.pair (.int .i64) (.pair (.int .i64) (.pair (.int .i64) .unit)))))), (.int .i64)]) x → ∃ k r, laws_FnExactPages.f k x.1 x.2.1 = some r ∧ sndT (B := [.bool]) (outT ([.val (.slice (.pair .str (.pair (.int .i64) (.pair (.int .i64) (.pair (.int .i64) (.pair (.int .i64) .unit)))))), .val (.int .i64)])) r = (true, ()) := G.fnExactPages_pure
theorem lifted (os : Os) (started : os.Started) (H : Type) (enc : TypeId × Value → H) :
    ReturnsInHanded {} Try.checked os 11 .any (Rows.fnExactPagesSpec.pre6 enc Try.prog Try.f11 Rows.fnExactPagesRow.domain false) (Rows.fnExactPagesSpec.post enc Try.prog Try.f11 false true false false) := by
  refine returnsInHanded_of_change_sized (C := Try.checked) own started (by kernel_rfl) Try.func11
    (ChangeSpec.witness6 (enc := enc) (C := Try.checked) false ⟨#[], #[.slice none 0 0, .int .i64 0], []⟩ 16 (by kernel_rfl) (by kernel_rfl) (by kernel_rfl) (by kernel_rfl)) ?_
  intro W base args ds gs before hval hW hcnd hsz _
  exact law_contract (A := [.val (.slice (.pair .str (.pair (.int .i64) (.pair (.int .i64) (.pair (.int .i64) (.pair (.int .i64) .unit)))))), .val (.int .i64)]) (by rfl) tb_ok tb_rows (by kernel_rfl) (by kernel_rfl) (by kernel_rfl) (tbool := 4) (by kernel_rfl) rfl
    (fun ds h => by
      match ds, h with
      | [d0, d1], _ => rfl) (fun k => laws_FnExactPages.ctr k) pure' W base args ds gs before hval hW hsz
theorem over : Rows.fnExactPagesRow.holds Try.pinned (OpenSpec.ofChange Rows.fnExactPagesSpec) :=
  OpenClaim.holds_of_wide 11 Try.f11 rfl rfl rfl rfl rfl rfl rfl ⟨rfl, rfl, rfl, rfl, rfl⟩ rfl rfl rfl rfl rfl (by kernel_rfl) Try.func11 (by kernel_rfl)
    (of_decide_eq_true (by kernel_rfl)) (by unfold Func.isWrapper; first | (rw [if_pos (by decide +kernel)]; kernel_rfl) | (rw [if_neg (by decide +kernel)]; exact ⟨rfl, rfl⟩))
    (fun os started H enc _ => lifted os started H enc)
end Go.Proofs.Ytlbpalfjmjmimaa.fnExactPages
namespace Go.Proofs.Ytlbpalfjmjmimaa
/-- The row, for the claim. -/
theorem fnExactPages_holds : Rows.FnExactPagesSaid := fnExactPages.over
end Go.Proofs.Ytlbpalfjmjmimaa

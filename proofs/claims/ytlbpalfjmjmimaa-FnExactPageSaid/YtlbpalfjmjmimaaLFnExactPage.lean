/- For every input the law FnExactPage answers true. No condition is asked. -/
import Derived.Test.YtlbpalfjmjmimaaRows
import Derived.WalkKit
import Derived.ProofKit
import Derived.Test.YtlbpalfjmjmimaaCQ2
import Derived.Test.YtlbpalfjmjmimaaPFnExactPage
namespace Go.Proofs.Ytlbpalfjmjmimaa.fnExactPage
open Go.V Go.Proofs.Ytlbpalfjmjmimaa.G
set_option linter.unusedVariables false
set_option maxRecDepth 100000
theorem own : ownKnob Try.prog.godebug = none := by kernel_rfl
theorem pure' : ∀ x, Wf (tup [(.slice (.pair .str (.pair (.int .i64) (.pair (.int .i64) (.pair (.int .i64) (.pair (.int .i64) .unit)))))), .str, (.int .i64)]) x → ∃ k r, laws_FnExactPage.f k x.1 x.2.1 x.2.2.1 = some r ∧ sndT (B := [.bool]) (outT ([.val (.slice (.pair .str (.pair (.int .i64) (.pair (.int .i64) (.pair (.int .i64) (.pair (.int .i64) .unit)))))), .val .str, .val (.int .i64)])) r = (true, ()) := G.fnExactPage_pure
theorem lifted (os : Os) (started : os.Started) (H : Type) (enc : TypeId × Value → H) :
    ReturnsInHanded {} Try.checked os 9 .any (Rows.fnExactPageSpec.pre6 enc Try.prog Try.f9 Rows.fnExactPageRow.domain false) (Rows.fnExactPageSpec.post enc Try.prog Try.f9 false true false false) := by
  refine returnsInHanded_of_change_sized (C := Try.checked) own started (by kernel_rfl) Try.func9
    (ChangeSpec.witness6 (enc := enc) (C := Try.checked) false ⟨#[], #[.slice none 0 0, .string ⟨#[]⟩, .int .i64 0], []⟩ 16 (by kernel_rfl) (by kernel_rfl) (by kernel_rfl) (by kernel_rfl)) ?_
  intro W base args ds gs before hval hW hcnd hsz _
  exact law_contract (A := [.val (.slice (.pair .str (.pair (.int .i64) (.pair (.int .i64) (.pair (.int .i64) (.pair (.int .i64) .unit)))))), .val .str, .val (.int .i64)]) (by rfl) tb_ok tb_rows (by kernel_rfl) (by kernel_rfl) (by kernel_rfl) (tbool := 4) (by kernel_rfl) rfl
    (fun ds h => by
      match ds, h with
      | [d0, d1, d2], _ => rfl) (fun k => laws_FnExactPage.ctr k) pure' W base args ds gs before hval hW hsz
theorem over : Rows.fnExactPageRow.holds Try.pinned (OpenSpec.ofChange Rows.fnExactPageSpec) :=
  OpenClaim.holds_of_wide 9 Try.f9 rfl rfl rfl rfl rfl rfl rfl ⟨rfl, rfl, rfl, rfl, rfl⟩ rfl rfl rfl rfl rfl (by kernel_rfl) Try.func9 (by kernel_rfl)
    (of_decide_eq_true (by kernel_rfl)) (by unfold Func.isWrapper; first | (rw [if_pos (by decide +kernel)]; kernel_rfl) | (rw [if_neg (by decide +kernel)]; exact ⟨rfl, rfl⟩))
    (fun os started H enc _ => lifted os started H enc)
end Go.Proofs.Ytlbpalfjmjmimaa.fnExactPage
namespace Go.Proofs.Ytlbpalfjmjmimaa
/-- The row, for the claim. -/
theorem fnExactPage_holds : Rows.FnExactPageSaid := fnExactPage.over
end Go.Proofs.Ytlbpalfjmjmimaa

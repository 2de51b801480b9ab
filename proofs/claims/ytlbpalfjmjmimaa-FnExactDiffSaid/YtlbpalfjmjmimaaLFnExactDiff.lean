/- For every input the law FnExactDiff answers true. No condition is asked. -/
import Derived.Test.YtlbpalfjmjmimaaRows
import Derived.WalkKit
import Derived.ProofKit
import Derived.Test.YtlbpalfjmjmimaaCQ2
import Derived.Test.YtlbpalfjmjmimaaPFnExactDiff
namespace Go.Proofs.Ytlbpalfjmjmimaa.fnExactDiff
open Go.V Go.Proofs.Ytlbpalfjmjmimaa.G
set_option linter.unusedVariables false
set_option maxRecDepth 100000
theorem own : ownKnob Try.prog.godebug = none := by kernel_rfl
theorem pure' : ∀ x, Wf (tup [(.slice (.pair .str (.pair .str (.pair (.int .i64) .unit)))), (.slice (.pair .str (.pair .str (.pair (.int .i64) .unit))))]) x → ∃ k r, laws_FnExactDiff.f k x.1 x.2.1 = some r ∧ sndT (B := [.bool]) (outT ([.val (.slice (.pair .str (.pair .str (.pair (.int .i64) .unit)))), .val (.slice (.pair .str (.pair .str (.pair (.int .i64) .unit))))])) r = (true, ()) := G.fnExactDiff_pure
theorem lifted (os : Os) (started : os.Started) (H : Type) (enc : TypeId × Value → H) :
    ReturnsInHanded {} Try.checked os 12 .any (Rows.fnExactDiffSpec.pre6 enc Try.prog Try.f12 Rows.fnExactDiffRow.domain false) (Rows.fnExactDiffSpec.post enc Try.prog Try.f12 false true false false) := by
  refine returnsInHanded_of_change_sized (C := Try.checked) own started (by kernel_rfl) Try.func12
    (ChangeSpec.witness6 (enc := enc) (C := Try.checked) false ⟨#[], #[.slice none 0 0, .slice none 0 0], []⟩ 16 (by kernel_rfl) (by kernel_rfl) (by kernel_rfl) (by kernel_rfl)) ?_
  intro W base args ds gs before hval hW hcnd hsz _
  exact law_contract (A := [.val (.slice (.pair .str (.pair .str (.pair (.int .i64) .unit)))), .val (.slice (.pair .str (.pair .str (.pair (.int .i64) .unit))))]) (by rfl) tb_ok tb_rows (by kernel_rfl) (by kernel_rfl) (by kernel_rfl) (tbool := 4) (by kernel_rfl) rfl
    (fun ds h => by
      match ds, h with
      | [d0, d1], _ => rfl) (fun k => laws_FnExactDiff.ctr k) pure' W base args ds gs before hval hW hsz
theorem over : Rows.fnExactDiffRow.holds Try.pinned (OpenSpec.ofChange Rows.fnExactDiffSpec) :=
  OpenClaim.holds_of_wide 12 Try.f12 rfl rfl rfl rfl rfl rfl rfl ⟨rfl, rfl, rfl, rfl, rfl⟩ rfl rfl rfl rfl rfl (by kernel_rfl) Try.func12 (by kernel_rfl)
    (of_decide_eq_true (by kernel_rfl)) (by unfold Func.isWrapper; first | (rw [if_pos (by decide +kernel)]; kernel_rfl) | (rw [if_neg (by decide +kernel)]; exact ⟨rfl, rfl⟩))
    (fun os started H enc _ => lifted os started H enc)
end Go.Proofs.Ytlbpalfjmjmimaa.fnExactDiff
namespace Go.Proofs.Ytlbpalfjmjmimaa
/-- The row, for the claim. -/
theorem fnExactDiff_holds : Rows.FnExactDiffSaid := fnExactDiff.over
end Go.Proofs.Ytlbpalfjmjmimaa

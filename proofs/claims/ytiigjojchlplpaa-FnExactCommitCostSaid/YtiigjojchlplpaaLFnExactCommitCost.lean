/- For every input the law FnExactCommitCost answers true. No condition is asked. -/
import Derived.Test.YtiigjojchlplpaaRows
import Derived.WalkKit
import Derived.ProofKit
import Derived.Test.YtiigjojchlplpaaCA
import Derived.Test.YtiigjojchlplpaaPFnExactCommitCost
namespace Go.Proofs.Ytiigjojchlplpaa.fnExactCommitCost
open Go.V Go.Proofs.Ytiigjojchlplpaa.G
set_option linter.unusedVariables false
set_option maxRecDepth 100000
theorem own : ownKnob Try.prog.godebug = none := by kernel_rfl
theorem pure' : ∀ x, Wf (tup [(.pair (.pair (.int .i64) (.pair (.slice (.int .i64)) .unit)) (.pair (.slice (.pair .str (.pair (.int .i64) (.pair (.int .i64) (.pair (.int .i64) (.pair (.int .i64) .unit)))))) (.pair (.int .i64) (.pair (.int .i64) (.pair (.int .i64) .unit))))), (.slice (.pair .str (.pair .bool (.pair .str .unit))))]) x → ∃ k r, laws_FnExactCommitCost.f k x.1 x.2.1 = some r ∧ sndT (B := [.bool]) (outT ([.val (.pair (.pair (.int .i64) (.pair (.slice (.int .i64)) .unit)) (.pair (.slice (.pair .str (.pair (.int .i64) (.pair (.int .i64) (.pair (.int .i64) (.pair (.int .i64) .unit)))))) (.pair (.int .i64) (.pair (.int .i64) (.pair (.int .i64) .unit))))), .val (.slice (.pair .str (.pair .bool (.pair .str .unit))))])) r = (true, ()) := G.fnExactCommitCost_pure
theorem lifted (os : Os) (started : os.Started) (H : Type) (enc : TypeId × Value → H) :
    ReturnsInHanded {} Try.checked os 6 .any (Rows.fnExactCommitCostSpec.pre6 enc Try.prog Try.f6 Rows.fnExactCommitCostRow.domain false) (Rows.fnExactCommitCostSpec.post enc Try.prog Try.f6 false true false false) := by
  refine returnsInHanded_of_change_sized (C := Try.checked) own started (by kernel_rfl) Try.func6
    (ChangeSpec.witness6 (enc := enc) (C := Try.checked) false ⟨#[], #[.agg #[.int .i64 0, .slice none 0 0, .slice none 0 0, .int .i64 0, .int .i64 0, .int .i64 0], .slice none 0 0], []⟩ 16 (by kernel_rfl) (by kernel_rfl) (by kernel_rfl) (by kernel_rfl)) ?_
  intro W base args ds gs before hval hW hcnd hsz _
  exact law_contract (A := [.val (.pair (.pair (.int .i64) (.pair (.slice (.int .i64)) .unit)) (.pair (.slice (.pair .str (.pair (.int .i64) (.pair (.int .i64) (.pair (.int .i64) (.pair (.int .i64) .unit)))))) (.pair (.int .i64) (.pair (.int .i64) (.pair (.int .i64) .unit))))), .val (.slice (.pair .str (.pair .bool (.pair .str .unit))))]) (by rfl) tb_ok tb_rows (by kernel_rfl) (by kernel_rfl) (by kernel_rfl) (tbool := 4) (by kernel_rfl) rfl
    (fun ds h => by
      match ds, h with
      | [d0, d1], _ => rfl) (fun k => laws_FnExactCommitCost.ctr k) pure' W base args ds gs before hval hW hsz
theorem over : Rows.fnExactCommitCostRow.holds Try.pinned (OpenSpec.ofChange Rows.fnExactCommitCostSpec) :=
  OpenClaim.holds_of_wide 6 Try.f6 rfl rfl rfl rfl rfl rfl rfl ⟨rfl, rfl, rfl, rfl, rfl⟩ rfl rfl rfl rfl rfl (by kernel_rfl) Try.func6 (by kernel_rfl)
    (of_decide_eq_true (by kernel_rfl)) (by unfold Func.isWrapper; first | (rw [if_pos (by decide +kernel)]; kernel_rfl) | (rw [if_neg (by decide +kernel)]; exact ⟨rfl, rfl⟩))
    (fun os started H enc _ => lifted os started H enc)
end Go.Proofs.Ytiigjojchlplpaa.fnExactCommitCost
namespace Go.Proofs.Ytiigjojchlplpaa
/-- The row, for the claim. -/
theorem fnExactCommitCost_holds : Rows.FnExactCommitCostSaid := fnExactCommitCost.over
end Go.Proofs.Ytiigjojchlplpaa

/- For every input the law FnExactEndOk answers true. No condition is asked. -/
import Derived.Test.YtiigjojchlplpaaRows
import Derived.WalkKit
import Derived.ProofKit
import Derived.Test.YtiigjojchlplpaaCA
import Derived.Test.YtiigjojchlplpaaPFnExactEndOk
namespace Go.Proofs.Ytiigjojchlplpaa.fnExactEndOk
open Go.V Go.Proofs.Ytiigjojchlplpaa.G
set_option linter.unusedVariables false
set_option maxRecDepth 100000
theorem own : ownKnob Try.prog.godebug = none := by kernel_rfl
theorem pure' : ∀ x, Wf (tup [(.pair (.slice (.pair .str (.pair .str (.pair (.int .i64) .unit)))) (.pair (.slice (.pair (.int .i64) (.pair (.slice (.pair .str (.pair .bool (.pair .str .unit)))) .unit))) (.pair (.slice (.pair .str (.pair .bool (.pair .str .unit)))) (.pair (.slice (.pair .str (.pair .str (.pair (.int .i64) .unit)))) (.pair (.int .i64) .unit)))))]) x → ∃ k r, laws_FnExactEndOk.f k x.1 = some r ∧ sndT (B := [.bool]) (outT ([.val (.pair (.slice (.pair .str (.pair .str (.pair (.int .i64) .unit)))) (.pair (.slice (.pair (.int .i64) (.pair (.slice (.pair .str (.pair .bool (.pair .str .unit)))) .unit))) (.pair (.slice (.pair .str (.pair .bool (.pair .str .unit)))) (.pair (.slice (.pair .str (.pair .str (.pair (.int .i64) .unit)))) (.pair (.int .i64) .unit)))))])) r = (true, ()) := G.fnExactEndOk_pure
theorem lifted (os : Os) (started : os.Started) (H : Type) (enc : TypeId × Value → H) :
    ReturnsInHanded {} Try.checked os 4 .any (Rows.fnExactEndOkSpec.pre6 enc Try.prog Try.f4 Rows.fnExactEndOkRow.domain false) (Rows.fnExactEndOkSpec.post enc Try.prog Try.f4 false true false false) := by
  refine returnsInHanded_of_change_sized (C := Try.checked) own started (by kernel_rfl) Try.func4
    (ChangeSpec.witness6 (enc := enc) (C := Try.checked) false ⟨#[], #[.agg #[.slice none 0 0, .slice none 0 0, .slice none 0 0, .slice none 0 0, .int .i64 0]], []⟩ 16 (by kernel_rfl) (by kernel_rfl) (by kernel_rfl) (by kernel_rfl)) ?_
  intro W base args ds gs before hval hW hcnd hsz _
  exact law_contract (A := [.val (.pair (.slice (.pair .str (.pair .str (.pair (.int .i64) .unit)))) (.pair (.slice (.pair (.int .i64) (.pair (.slice (.pair .str (.pair .bool (.pair .str .unit)))) .unit))) (.pair (.slice (.pair .str (.pair .bool (.pair .str .unit)))) (.pair (.slice (.pair .str (.pair .str (.pair (.int .i64) .unit)))) (.pair (.int .i64) .unit)))))]) (by rfl) tb_ok tb_rows (by kernel_rfl) (by kernel_rfl) (by kernel_rfl) (tbool := 4) (by kernel_rfl) rfl
    (fun ds h => by
      match ds, h with
      | [d0], _ => rfl) (fun k => laws_FnExactEndOk.ctr k) pure' W base args ds gs before hval hW hsz
theorem over : Rows.fnExactEndOkRow.holds Try.pinned (OpenSpec.ofChange Rows.fnExactEndOkSpec) :=
  OpenClaim.holds_of_wide 4 Try.f4 rfl rfl rfl rfl rfl rfl rfl ⟨rfl, rfl, rfl, rfl, rfl⟩ rfl rfl rfl rfl rfl (by kernel_rfl) Try.func4 (by kernel_rfl)
    (of_decide_eq_true (by kernel_rfl)) (by unfold Func.isWrapper; first | (rw [if_pos (by decide +kernel)]; kernel_rfl) | (rw [if_neg (by decide +kernel)]; exact ⟨rfl, rfl⟩))
    (fun os started H enc _ => lifted os started H enc)
end Go.Proofs.Ytiigjojchlplpaa.fnExactEndOk
namespace Go.Proofs.Ytiigjojchlplpaa
/-- The row, for the claim. -/
theorem fnExactEndOk_holds : Rows.FnExactEndOkSaid := fnExactEndOk.over
end Go.Proofs.Ytiigjojchlplpaa

/- For every input the law FnExactSerialOk answers true. No condition is asked. -/
import Derived.Test.YtiigjojchlplpaaRows
import Derived.WalkKit
import Derived.ProofKit
import Derived.Test.YtiigjojchlplpaaCA
import Derived.Test.YtiigjojchlplpaaPFnExactSerialOk
namespace Go.Proofs.Ytiigjojchlplpaa.fnExactSerialOk
open Go.V Go.Proofs.Ytiigjojchlplpaa.G
set_option linter.unusedVariables false
set_option maxRecDepth 100000
theorem own : ownKnob Try.prog.godebug = none := by kernel_rfl
theorem pure' : ∀ x, Wf (tup [(.slice (.pair (.int .i64) (.pair (.slice (.pair .str (.pair .str (.pair (.int .i64) .unit)))) (.pair (.slice .str) (.pair (.slice (.pair .str (.pair .bool (.pair .str .unit)))) .unit)))))]) x → ∃ k r, laws_FnExactSerialOk.f k x.1 = some r ∧ sndT (B := [.bool]) (outT ([.val (.slice (.pair (.int .i64) (.pair (.slice (.pair .str (.pair .str (.pair (.int .i64) .unit)))) (.pair (.slice .str) (.pair (.slice (.pair .str (.pair .bool (.pair .str .unit)))) .unit)))))])) r = (true, ()) := G.fnExactSerialOk_pure
theorem lifted (os : Os) (started : os.Started) (H : Type) (enc : TypeId × Value → H) :
    ReturnsInHanded {} Try.checked os 3 .any (Rows.fnExactSerialOkSpec.pre6 enc Try.prog Try.f3 Rows.fnExactSerialOkRow.domain false) (Rows.fnExactSerialOkSpec.post enc Try.prog Try.f3 false true false false) := by
  refine returnsInHanded_of_change_sized (C := Try.checked) own started (by kernel_rfl) Try.func3
    (ChangeSpec.witness6 (enc := enc) (C := Try.checked) false ⟨#[], #[.slice none 0 0], []⟩ 16 (by kernel_rfl) (by kernel_rfl) (by kernel_rfl) (by kernel_rfl)) ?_
  intro W base args ds gs before hval hW hcnd hsz _
  exact law_contract (A := [.val (.slice (.pair (.int .i64) (.pair (.slice (.pair .str (.pair .str (.pair (.int .i64) .unit)))) (.pair (.slice .str) (.pair (.slice (.pair .str (.pair .bool (.pair .str .unit)))) .unit)))))]) (by rfl) tb_ok tb_rows (by kernel_rfl) (by kernel_rfl) (by kernel_rfl) (tbool := 4) (by kernel_rfl) rfl
    (fun ds h => by
      match ds, h with
      | [d0], _ => rfl) (fun k => laws_FnExactSerialOk.ctr k) pure' W base args ds gs before hval hW hsz
theorem over : Rows.fnExactSerialOkRow.holds Try.pinned (OpenSpec.ofChange Rows.fnExactSerialOkSpec) :=
  OpenClaim.holds_of_wide 3 Try.f3 rfl rfl rfl rfl rfl rfl rfl ⟨rfl, rfl, rfl, rfl, rfl⟩ rfl rfl rfl rfl rfl (by kernel_rfl) Try.func3 (by kernel_rfl)
    (of_decide_eq_true (by kernel_rfl)) (by unfold Func.isWrapper; first | (rw [if_pos (by decide +kernel)]; kernel_rfl) | (rw [if_neg (by decide +kernel)]; exact ⟨rfl, rfl⟩))
    (fun os started H enc _ => lifted os started H enc)
end Go.Proofs.Ytiigjojchlplpaa.fnExactSerialOk
namespace Go.Proofs.Ytiigjojchlplpaa
/-- The row, for the claim. -/
theorem fnExactSerialOk_holds : Rows.FnExactSerialOkSaid := fnExactSerialOk.over
end Go.Proofs.Ytiigjojchlplpaa

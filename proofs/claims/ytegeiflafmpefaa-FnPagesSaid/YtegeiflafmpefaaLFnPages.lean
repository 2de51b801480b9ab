/- For every input the law FnPages answers true. No condition is asked. -/
import Derived.Test.YtegeiflafmpefaaRows
import Derived.WalkKit
import Derived.ProofKit
import Derived.Test.YtegeiflafmpefaaCA
import Derived.Test.YtegeiflafmpefaaMPagesEnd
namespace Go.Proofs.Ytegeiflafmpefaa.fnPages
open Go.V Go.Proofs.Ytegeiflafmpefaa.G
set_option linter.unusedVariables false
set_option maxRecDepth 100000
theorem own : ownKnob Try.prog.godebug = none := by kernel_rfl
theorem pure' : ∀ x, Wf (tup [(.slice (.int .u8))]) x → ∃ k r, laws_FnPages.f k x.1 = some r ∧ sndT (B := [.bool]) (outT ([.val (.slice (.int .u8))])) r = (true, ()) := G.fnPages_pure
theorem lifted (os : Os) (started : os.Started) (H : Type) (enc : TypeId × Value → H) :
    ReturnsInHanded {} Try.checked os 3 .any (Rows.fnPagesSpec.pre6 enc Try.prog Try.f3 Rows.fnPagesRow.domain false) (Rows.fnPagesSpec.post enc Try.prog Try.f3 false true false false) := by
  refine returnsInHanded_of_change_sized (C := Try.checked) own started (by kernel_rfl) Try.func3
    (ChangeSpec.witness6 (enc := enc) (C := Try.checked) false ⟨#[], #[.slice none 0 0], []⟩ 16 (by kernel_rfl) (by kernel_rfl) (by kernel_rfl) (by kernel_rfl)) ?_
  intro W base args ds gs before hval hW hcnd hsz _
  exact law_contract (A := [.val (.slice (.int .u8))]) (by rfl) tb_ok tb_rows (by kernel_rfl) (by kernel_rfl) (by kernel_rfl) (tbool := 4) (by kernel_rfl) rfl
    (fun ds h => by
      match ds, h with
      | [d0], _ => rfl) (fun k => laws_FnPages.ctr k) pure' W trivial base args ds gs before hval hW hsz
theorem over : Rows.fnPagesRow.holds Try.pinned (OpenSpec.ofChange Rows.fnPagesSpec) :=
  OpenClaim.holds_of_wide 3 Try.f3 rfl rfl rfl rfl rfl rfl rfl ⟨rfl, rfl, rfl, rfl, rfl⟩ rfl rfl rfl rfl rfl (by kernel_rfl) Try.func3 (by kernel_rfl)
    (of_decide_eq_true (by kernel_rfl)) (by unfold Func.isWrapper; first | (rw [if_pos (by decide +kernel)]; kernel_rfl) | (rw [if_neg (by decide +kernel)]; exact ⟨rfl, rfl⟩))
    (fun os started H enc _ => lifted os started H enc)
end Go.Proofs.Ytegeiflafmpefaa.fnPages
namespace Go.Proofs.Ytegeiflafmpefaa
/-- The row, for the claim. -/
theorem fnPages_holds : Rows.FnPagesSaid := fnPages.over
end Go.Proofs.Ytegeiflafmpefaa

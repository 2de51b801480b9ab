/- For every input the law FnGroups answers true. No condition is asked. -/
import Derived.Test.YtiigjojchlplpaaRows
import Derived.WalkKit
import Derived.ProofKit
import Derived.Test.YtiigjojchlplpaaCA
import Derived.Test.YtiigjojchlplpaaMGroupsLaw
namespace Go.Proofs.Ytiigjojchlplpaa.fnGroups
open Go.V Go.Proofs.Ytiigjojchlplpaa.G
set_option linter.unusedVariables false
set_option maxRecDepth 100000
theorem own : ownKnob Try.prog.godebug = none := by kernel_rfl
theorem pure' : ∀ x, Wf (tup [(.slice (.int .u8))]) x → ∃ k r, laws_FnGroups.f k x.1 = some r ∧ sndT (B := [.bool]) (outT ([.val (.slice (.int .u8))])) r = (true, ()) := G.fnGroups_pure
theorem lifted (os : Os) (started : os.Started) (H : Type) (enc : TypeId × Value → H) :
    ReturnsInHanded {} Try.checked os 10 .any (Rows.fnGroupsSpec.pre6 enc Try.prog Try.f10 Rows.fnGroupsRow.domain false) (Rows.fnGroupsSpec.post enc Try.prog Try.f10 false true false false) := by
  refine returnsInHanded_of_change_sized (C := Try.checked) own started (by kernel_rfl) Try.func10
    (ChangeSpec.witness6 (enc := enc) (C := Try.checked) false ⟨#[], #[.slice none 0 0], []⟩ 16 (by kernel_rfl) (by kernel_rfl) (by kernel_rfl) (by kernel_rfl)) ?_
  intro W base args ds gs before hval hW hcnd hsz _
  exact law_contract (A := [.val (.slice (.int .u8))]) (by rfl) tb_ok tb_rows (by kernel_rfl) (by kernel_rfl) (by kernel_rfl) (tbool := 4) (by kernel_rfl) rfl
    (fun ds h => by
      match ds, h with
      | [d0], _ => rfl) (fun k => laws_FnGroups.ctr k) pure' W trivial base args ds gs before hval hW hsz
theorem over : Rows.fnGroupsRow.holds Try.pinned (OpenSpec.ofChange Rows.fnGroupsSpec) :=
  OpenClaim.holds_of_wide 10 Try.f10 rfl rfl rfl rfl rfl rfl rfl ⟨rfl, rfl, rfl, rfl, rfl⟩ rfl rfl rfl rfl rfl (by kernel_rfl) Try.func10 (by kernel_rfl)
    (of_decide_eq_true (by kernel_rfl)) (by unfold Func.isWrapper; first | (rw [if_pos (by decide +kernel)]; kernel_rfl) | (rw [if_neg (by decide +kernel)]; exact ⟨rfl, rfl⟩))
    (fun os started H enc _ => lifted os started H enc)
end Go.Proofs.Ytiigjojchlplpaa.fnGroups
namespace Go.Proofs.Ytiigjojchlplpaa
/-- The row, for the claim. -/
theorem fnGroups_holds : Rows.FnGroupsSaid := fnGroups.over
end Go.Proofs.Ytiigjojchlplpaa

/- For every input the law FnExactReadPairs answers true. No condition is asked. -/
import Derived.Test.YtiigjojchlplpaaRows
import Derived.WalkKit
import Derived.ProofKit
import Derived.Test.YtiigjojchlplpaaCA
import Derived.Test.YtiigjojchlplpaaPFnExactReadPairs
namespace Go.Proofs.Ytiigjojchlplpaa.fnExactReadPairs
open Go.V Go.Proofs.Ytiigjojchlplpaa.G
set_option linter.unusedVariables false
set_option maxRecDepth 100000
theorem own : ownKnob Try.prog.godebug = none := by kernel_rfl
theorem pure' : ∀ x, Wf (tup [.str]) x → ∃ k r, laws_FnExactReadPairs.f k x.1 = some r ∧ sndT (B := [.bool]) (outT ([.val .str])) r = (true, ()) := G.fnExactReadPairs_pure
theorem lifted (os : Os) (started : os.Started) (H : Type) (enc : TypeId × Value → H) :
    ReturnsInHanded {} Try.checked os 7 .any (Rows.fnExactReadPairsSpec.pre6 enc Try.prog Try.f7 Rows.fnExactReadPairsRow.domain false) (Rows.fnExactReadPairsSpec.post enc Try.prog Try.f7 false true false false) := by
  refine returnsInHanded_of_change_sized (C := Try.checked) own started (by kernel_rfl) Try.func7
    (ChangeSpec.witness6 (enc := enc) (C := Try.checked) false ⟨#[], #[.string ⟨#[]⟩], []⟩ 16 (by kernel_rfl) (by kernel_rfl) (by kernel_rfl) (by kernel_rfl)) ?_
  intro W base args ds gs before hval hW hcnd hsz _
  exact law_contract (A := [.val .str]) (by rfl) tb_ok tb_rows (by kernel_rfl) (by kernel_rfl) (by kernel_rfl) (tbool := 4) (by kernel_rfl) rfl
    (fun ds h => by
      match ds, h with
      | [d0], _ => rfl) (fun k => laws_FnExactReadPairs.ctr k) pure' W base args ds gs before hval hW hsz
theorem over : Rows.fnExactReadPairsRow.holds Try.pinned (OpenSpec.ofChange Rows.fnExactReadPairsSpec) :=
  OpenClaim.holds_of_wide 7 Try.f7 rfl rfl rfl rfl rfl rfl rfl ⟨rfl, rfl, rfl, rfl, rfl⟩ rfl rfl rfl rfl rfl (by kernel_rfl) Try.func7 (by kernel_rfl)
    (of_decide_eq_true (by kernel_rfl)) (by unfold Func.isWrapper; first | (rw [if_pos (by decide +kernel)]; kernel_rfl) | (rw [if_neg (by decide +kernel)]; exact ⟨rfl, rfl⟩))
    (fun os started H enc _ => lifted os started H enc)
end Go.Proofs.Ytiigjojchlplpaa.fnExactReadPairs
namespace Go.Proofs.Ytiigjojchlplpaa
/-- The row, for the claim. -/
theorem fnExactReadPairs_holds : Rows.FnExactReadPairsSaid := fnExactReadPairs.over
end Go.Proofs.Ytiigjojchlplpaa

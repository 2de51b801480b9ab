/- For every input the law FnExactShowPairs answers true. No condition is asked. -/
import Derived.Test.YtlbpalfjmjmimaaRows
import Derived.WalkKit
import Derived.ProofKit
import Derived.Test.YtlbpalfjmjmimaaCQ2
import Derived.Test.YtlbpalfjmjmimaaPFnExactShowPairs
namespace Go.Proofs.Ytlbpalfjmjmimaa.fnExactShowPairs
open Go.V Go.Proofs.Ytlbpalfjmjmimaa.G
set_option linter.unusedVariables false
set_option maxRecDepth 100000
theorem own : ownKnob Try.prog.godebug = none := by kernel_rfl
theorem pure' : ∀ x, Wf (tup [(.slice (.pair .str (.pair .str (.pair (.int .i64) .unit))))]) x → ∃ k r, laws_FnExactShowPairs.f k x.1 = some r ∧ sndT (B := [.bool]) (outT ([.val (.slice (.pair .str (.pair .str (.pair (.int .i64) .unit))))])) r = (true, ()) := G.fnExactShowPairs_pure
theorem lifted (os : Os) (started : os.Started) (H : Type) (enc : TypeId × Value → H) :
    ReturnsInHanded {} Try.checked os 14 .any (Rows.fnExactShowPairsSpec.pre6 enc Try.prog Try.f14 Rows.fnExactShowPairsRow.domain false) (Rows.fnExactShowPairsSpec.post enc Try.prog Try.f14 false true false false) := by
  refine returnsInHanded_of_change_sized (C := Try.checked) own started (by kernel_rfl) Try.func14
    (ChangeSpec.witness6 (enc := enc) (C := Try.checked) false ⟨#[], #[.slice none 0 0], []⟩ 16 (by kernel_rfl) (by kernel_rfl) (by kernel_rfl) (by kernel_rfl)) ?_
  intro W base args ds gs before hval hW hcnd hsz _
  exact law_contract (A := [.val (.slice (.pair .str (.pair .str (.pair (.int .i64) .unit))))]) (by rfl) tb_ok tb_rows (by kernel_rfl) (by kernel_rfl) (by kernel_rfl) (tbool := 4) (by kernel_rfl) rfl
    (fun ds h => by
      match ds, h with
      | [d0], _ => rfl) (fun k => laws_FnExactShowPairs.ctr k) pure' W base args ds gs before hval hW hsz
theorem over : Rows.fnExactShowPairsRow.holds Try.pinned (OpenSpec.ofChange Rows.fnExactShowPairsSpec) :=
  OpenClaim.holds_of_wide 14 Try.f14 rfl rfl rfl rfl rfl rfl rfl ⟨rfl, rfl, rfl, rfl, rfl⟩ rfl rfl rfl rfl rfl (by kernel_rfl) Try.func14 (by kernel_rfl)
    (of_decide_eq_true (by kernel_rfl)) (by unfold Func.isWrapper; first | (rw [if_pos (by decide +kernel)]; kernel_rfl) | (rw [if_neg (by decide +kernel)]; exact ⟨rfl, rfl⟩))
    (fun os started H enc _ => lifted os started H enc)
end Go.Proofs.Ytlbpalfjmjmimaa.fnExactShowPairs
namespace Go.Proofs.Ytlbpalfjmjmimaa
/-- The row, for the claim. -/
theorem fnExactShowPairs_holds : Rows.FnExactShowPairsSaid := fnExactShowPairs.over
end Go.Proofs.Ytlbpalfjmjmimaa

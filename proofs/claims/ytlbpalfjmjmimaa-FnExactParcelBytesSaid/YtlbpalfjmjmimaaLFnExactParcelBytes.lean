/- For every input the law FnExactParcelBytes answers true. No condition is asked. -/
import Derived.Test.YtlbpalfjmjmimaaRows
import Derived.WalkKit
import Derived.ProofKit
import Derived.Test.YtlbpalfjmjmimaaCQ1
import Derived.Test.YtlbpalfjmjmimaaSmall
namespace Go.Proofs.Ytlbpalfjmjmimaa.fnExactParcelBytes
open Go.V Go.Proofs.Ytlbpalfjmjmimaa.G
set_option linter.unusedVariables false
set_option maxRecDepth 100000
theorem own : ownKnob Try.prog.godebug = none := by kernel_rfl
theorem pure' : ∀ x, Wf (tup [(.pair (.int .i64) (.pair (.slice (.pair (.int .i64) (.pair (.int .i64) (.pair .str .unit)))) .unit))]) x → ∃ k, laws_FnExactParcelBytes.f k x.1 = some (true, ()) := G.fnExactParcelBytes_pure
theorem lifted (os : Os) (started : os.Started) (H : Type) (enc : TypeId × Value → H) :
    ReturnsInHanded {} Try.checked os 4 .any (Rows.fnExactParcelBytesSpec.pre6 enc Try.prog Try.f4 Rows.fnExactParcelBytesRow.domain false) (Rows.fnExactParcelBytesSpec.post enc Try.prog Try.f4 false true false false) := by
  refine returnsInHanded_of_change_sized (C := Try.checked) own started (by kernel_rfl) Try.func4
    (ChangeSpec.witness6 (enc := enc) (C := Try.checked) false ⟨#[], #[.agg #[.int .i64 0, .slice none 0 0]], []⟩ 16 (by kernel_rfl) (by kernel_rfl) (by kernel_rfl) (by kernel_rfl)) ?_
  intro W base args ds gs before hval hW hcnd hsz _
  exact law_contract (us := [(.pair (.int .i64) (.pair (.slice (.pair (.int .i64) (.pair (.int .i64) (.pair .str .unit)))) .unit))]) tb_ok tb_rows (by kernel_rfl) (by kernel_rfl) (by kernel_rfl) (tbool := 4) (by kernel_rfl) rfl
    (fun ds h => by
      match ds, h with
      | [d0], _ => rfl) (fun k => laws_FnExactParcelBytes.ctr k) pure' W base args ds gs before hval hW hsz
theorem over : Rows.fnExactParcelBytesRow.holds Try.pinned (OpenSpec.ofChange Rows.fnExactParcelBytesSpec) :=
  OpenClaim.holds_of_wide 4 Try.f4 rfl rfl rfl rfl rfl rfl rfl ⟨rfl, rfl, rfl, rfl, rfl⟩ rfl rfl rfl rfl rfl (by kernel_rfl) Try.func4 (by kernel_rfl)
    (of_decide_eq_true (by kernel_rfl)) (by unfold Func.isWrapper; first | (rw [if_pos (by decide +kernel)]; kernel_rfl) | (rw [if_neg (by decide +kernel)]; exact ⟨rfl, rfl⟩))
    (fun os started H enc _ => lifted os started H enc)
end Go.Proofs.Ytlbpalfjmjmimaa.fnExactParcelBytes
namespace Go.Proofs.Ytlbpalfjmjmimaa
/-- The row, for the claim. -/
theorem fnExactParcelBytes_holds : Rows.FnExactParcelBytesSaid := fnExactParcelBytes.over
end Go.Proofs.Ytlbpalfjmjmimaa

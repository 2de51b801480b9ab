/- For every input the law FnParcels answers true. No condition is asked. -/
import Derived.Test.YtmakghhmpgfboaaGreatRows
import Derived.WalkKit
import Derived.ProofKit
import Derived.Test.YtmakghhmpgfboaaGreatCP
import Derived.Test.YtmakghhmpgfboaaGreatZP3
namespace Go.Proofs.YtmakghhmpgfboaaGreat.fnParcels
open Go.V Go.Proofs.YtmakghhmpgfboaaGreat.G
set_option linter.unusedVariables false
set_option maxRecDepth 100000
theorem own:ownKnob Tryz.prog.godebug=none:=by kernel_rfl
theorem pure':∀ x,Wf (tup [(.slice (.int .u8))]) x→∃ k r,laws_FnParcels.f k x.1=some r∧sndT (B:=[.bool]) (outT ([.val (.slice (.int .u8))])) r=(true,()):=G.fnParcels_pure
theorem lifted (os:Os) (started:os.Started) (H:Type) (enc:TypeId × Value→H) :
 ReturnsInHanded {} Tryz.checked os 3 .any (Rows.fnParcelsSpec.pre6 enc Tryz.prog Tryz.f3 Rows.fnParcelsRow.domain false) (Rows.fnParcelsSpec.post enc Tryz.prog Tryz.f3 false true false false):=by
 refine returnsInHanded_of_change_sized (C:=Tryz.checked) own started (by kernel_rfl) Tryz.func3
  (ChangeSpec.witness6 (enc:=enc) (C:=Tryz.checked) false ⟨#[],#[.slice none 0 0],[]⟩ 16 (by kernel_rfl) (by kernel_rfl) (by kernel_rfl) (by kernel_rfl)) ?_
 intro W base args ds gs before hval hW hcnd hsz _
 exact law_contract (A:=[.val (.slice (.int .u8))]) (by rfl) tb_ok tb_rows (by kernel_rfl) (by kernel_rfl) (by kernel_rfl) (tbool:=4) (by kernel_rfl) rfl
  (fun ds h=>by
   match ds,h with
   | [d0],_=>rfl) (fun k=>laws_FnParcels.ctr k) pure' W trivial base args ds gs before hval hW hsz
theorem over:Rows.fnParcelsRow.holds Tryz.pinned (OpenSpec.ofChange Rows.fnParcelsSpec) :=
 OpenClaim.holds_of_wide 3 Tryz.f3 rfl rfl rfl rfl rfl rfl rfl ⟨rfl,rfl,rfl,rfl,rfl⟩ rfl rfl rfl rfl rfl (by kernel_rfl) Tryz.func3 (by kernel_rfl)
  (of_decide_eq_true (by kernel_rfl)) (by unfold Func.isWrapper;first | (rw [if_pos (by decide +kernel)];kernel_rfl) | (rw [if_neg (by decide +kernel)];exact ⟨rfl,rfl⟩))
  (fun os started H enc _=>lifted os started H enc)
end Go.Proofs.YtmakghhmpgfboaaGreat.fnParcels
namespace Go.Proofs.YtmakghhmpgfboaaGreat
theorem fnParcels_holds:Rows.FnParcelsSaid:=fnParcels.over
end Go.Proofs.YtmakghhmpgfboaaGreat

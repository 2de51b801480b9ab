/- For every input the law FnExactRestore answers true: the tied card. No condition is asked but what the row lists of the tables and errors of the library. -/
import Derived.Test.YtejgkmhpmhfnbaaGreatDoorRows
import Derived.Test.YtejgkmhpmhfnbaaGreatDoorTie
import Derived.Test.YtejgkmhpmhfnbaaGreatDoorCards
import Derived.WalkKit
import Derived.ProofKit
import Derived.LaidMore
import Derived.OpenShut
import Derived.SevenTiedAt
import Derived.Test.YtejgkmhpmhfnbaaGreatDoorCLaid
import Derived.Test.YtejgkmhpmhfnbaaGreatDoorCR
import Derived.Test.YtejgkmhpmhfnbaaGreatDoorPFnExactRestore
namespace Go.Proofs.YtejgkmhpmhfnbaaGreatDoor.fnExactRestore
open Go Go.V Go.Proofs.YtejgkmhpmhfnbaaGreatDoor.G Go.ChangeShapes Go.WideShapes Go.ChangeAt Go.WideElems Go.RowKit
set_option linter.unusedVariables false
set_option maxRecDepth 100000
theorem own:ownKnob Tryz.prog.godebug=none:=by kernel_rfl
def laidR:List (String × DataW Unit):=Rows.fnExactRestoreRow.laid
theorem pure':∀ x,Wf (tup [(.int .i64),(.slice (.pair .str (.pair .str (.pair (.int .i64) .unit))))]) x→∃ k r,laws_FnExactRestore.f k x.1 x.2.1=some r∧sndT (B:=[.bool]) (outT ([.val (.int .i64),.val (.slice (.pair .str (.pair .str (.pair (.int .i64) .unit))))])) r=(true,()):=G.fnExactRestore_pure
theorem door_met (os:Os) (args:Array Value):laidMetH Tryz.prog laidR ((World.doorLaid Tryz.prog 400 os).forCall (fun _ _=>0) ⟨#[],args,[]⟩).memory :=
 laidMetH_of_parts3 (fuel:=8) (laidMet_of_run' 8 (by kernel_rfl) (by kernel_rfl)) (by kernel_rfl) (by kernel_rfl)
theorem lifted (os:Os) (started:os.Started) (H:Type) (enc:TypeId × Value→H) :
 ReturnsInHanded {} Tryz.checked os 5 .any (fun w args=>(Rows.fnExactRestoreSpec.pre enc Tryz.prog Tryz.f5 [] false w args∧laidMetH Tryz.prog laidR w)∧sizedMet enc Tryz.prog Tryz.f5 (OpenSpec.ofChange Rows.fnExactRestoreSpec) false w args)
  (Rows.fnExactRestoreSpec.post enc Tryz.prog Tryz.f5 false true false false):=by
 refine returnsInHanded_of_change_and (C:=Tryz.checked) (X:=fun w _=>laidMetH Tryz.prog laidR w) (fun _ _ _ hh h=>h.of_heap hh) own started (by kernel_rfl) Tryz.func5
  (ChangeSpec.witness_shaped (enc:=enc) (C:=Tryz.checked) (os:=os) (X:=fun w _=>laidMetH Tryz.prog laidR w) false (World.doorLaid Tryz.prog 400 os) #[.int .i64 0,.slice none 0 0] 16 rfl (World.shaped_of_RefB (by kernel_rfl) (by kernel_rfl)) (by kernel_rfl) (by kernel_rfl) (by kernel_rfl) (door_met os _)) ?_
 intro W base args ds gs before hval hW hcnd hsz hL _
 exact law_contract (A:=[.val (.int .i64),.val (.slice (.pair .str (.pair .str (.pair (.int .i64) .unit))))]) (by rfl) tb_ok tb_rows (by kernel_rfl) (by kernel_rfl) (by kernel_rfl) (tbool:=4) (by kernel_rfl) rfl
  (fun ds h=>by
   match ds,h with
   | [d0,d1],_=>rfl) (fun k=>laws_FnExactRestore.ctr k) pure' W (J_laid hL) base args ds gs before hval hW hsz
theorem over:Rows.fnExactRestoreRow.holds Tryz.pinned (OpenSpec.ofChange Rows.fnExactRestoreSpec) :=
 OpenClaim.holds_of_wide 5 Tryz.f5 rfl rfl rfl rfl rfl rfl rfl ⟨rfl,rfl,rfl,rfl,rfl⟩ rfl rfl rfl rfl rfl (by kernel_rfl) Tryz.func5 (by kernel_rfl)
  (of_decide_eq_true (by kernel_rfl)) (by unfold Func.isWrapper;first | (rw [if_pos (by decide +kernel)];kernel_rfl) | (rw [if_neg (by decide +kernel)];exact ⟨rfl,rfl⟩))
  (fun os started H enc _=>lifted os started H enc)
end Go.Proofs.YtejgkmhpmhfnbaaGreatDoor.fnExactRestore
namespace Go.Proofs.YtejgkmhpmhfnbaaGreatDoor
theorem fnExactRestore_card_holds:Rows.FnExactRestoreCardSaid :=
 Claim7.holds_tied_plain_at .later [] [.data,.data,.data,.sentinel,.sentinel] true (true, "32937ab0511eeb01808a5cd29c94cf813f0077356b7e0e767193169df578083c") true fnExactRestore.over (fun _ h=>by cases h) (by kernel_rfl) (fun _ h=>by cases h) fnExactRestore_row_tie rfl ⟨rfl,rfl⟩ (by kernel_rfl) rfl
  (fun f fn hf hfn=>by
   obtain rfl:f=5:=Option.some.inj ((show Tryz.prog.funcNamed "loop.example/g01397/laws.FnExactRestore" = some 5 by kernel_rfl).symm.trans hf) |>.symm
   obtain rfl:fn=Tryz.f5:=(Option.some.inj (Tryz.func5.symm.trans hfn)).symm
   exact ⟨by kernel_rfl,fun j t ht=>by
    have hm:t ∈ Tryz.f5.params.toList:=by simpa using Array.mem_of_getElem? ht
    have hall:(Tryz.f5.params.toList.all fun u=>!Tryz.prog.wantsStandIn u)=true:=by kernel_rfl
    exact (show Tryz.prog.wantsStandIn t=false by simpa using List.all_eq_true.1 hall t hm)⟩)
  (by kernel_rfl)
end Go.Proofs.YtejgkmhpmhfnbaaGreatDoor

/- For every input the law FnChecks answers true: the tied card. No condition is asked but what the row lists of the tables and errors of the library. -/
import Derived.Test.YtohaanhjddohmaaGreatDoorRows
import Derived.Test.YtohaanhjddohmaaGreatDoorTie
import Derived.Test.YtohaanhjddohmaaGreatDoorCards
import Derived.WalkKit
import Derived.ProofKit
import Derived.LaidMore
import Derived.OpenShut
import Derived.SevenTiedAt
import Derived.Test.YtohaanhjddohmaaGreatDoorCLaid
import Derived.Test.YtohaanhjddohmaaGreatDoorCC
import Derived.Test.YtohaanhjddohmaaGreatDoorZC3
namespace Go.Proofs.YtohaanhjddohmaaGreatDoor.fnChecks
open Go Go.V Go.Proofs.YtohaanhjddohmaaGreatDoor.G Go.ChangeShapes Go.WideShapes Go.ChangeAt Go.WideElems Go.RowKit
set_option linter.unusedVariables false
set_option maxRecDepth 100000
theorem own:ownKnob Tryz.prog.godebug=none:=by kernel_rfl
def laidR:List (String × DataW Unit):=Rows.fnChecksRow.laid
theorem GZ:∀ x,Wf (tup [(.slice (.int .u8))]) x→∃ k r,ea.f k x.1=some r∧nf (B:=[.bool]) (gU ([.val (.slice (.int .u8))])) r=(true,()):=G.fnChecks_pure
theorem G3 (os:Os) (args:Array Value):laidMetH Tryz.prog laidR ((World.doorLaid Tryz.prog 400 os).forCall (fun _ _=>0) ⟨#[],args,[]⟩).memory :=
 laidMetH_of_parts3 (fuel:=8) (laidMet_of_run' 8 (by kernel_rfl) (by kernel_rfl)) (by kernel_rfl) (by kernel_rfl)
theorem Jf (os:Os) (started:os.Started) (H:Type) (enc:TypeId × Value→H) :
 ReturnsInHanded {} Tryz.checked os 4 .any (fun w args=>(Rows.fnChecksSpec.pre enc Tryz.prog Tryz.f4 [] false w args∧laidMetH Tryz.prog laidR w)∧sizedMet enc Tryz.prog Tryz.f4 (OpenSpec.ofChange Rows.fnChecksSpec) false w args)
  (Rows.fnChecksSpec.post enc Tryz.prog Tryz.f4 false true false false):=by
 refine returnsInHanded_of_change_and (C:=Tryz.checked) (X:=fun w _=>laidMetH Tryz.prog laidR w) (fun _ _ _ hh h=>h.of_heap hh) own started (by kernel_rfl) Tryz.func4
  (ChangeSpec.witness_shaped (enc:=enc) (C:=Tryz.checked) (os:=os) (X:=fun w _=>laidMetH Tryz.prog laidR w) false (World.doorLaid Tryz.prog 400 os) #[.slice none 0 0] 16 rfl (World.shaped_of_RefB (by kernel_rfl) (by kernel_rfl)) (by kernel_rfl) (by kernel_rfl) (by kernel_rfl) (G3 os _)) ?_
 intro W base args ds gs before hval hW hcnd hsz hL _
 exact Aw (A:=[.val (.slice (.int .u8))]) (by rfl) Gn Hh (by kernel_rfl) (by kernel_rfl) (by kernel_rfl) (tbool:=4) (by kernel_rfl) rfl
  (fun ds h=>by
   match ds,h with
   | [d0],_=>rfl) (fun k=>ea.ctr k) GZ W (JO hL) base args ds gs before hval hW hsz
theorem over:Rows.fnChecksRow.holds Tryz.pinned (OpenSpec.ofChange Rows.fnChecksSpec) :=
 OpenClaim.holds_of_wide 4 Tryz.f4 rfl rfl rfl rfl rfl rfl rfl ⟨rfl,rfl,rfl,rfl,rfl⟩ rfl rfl rfl rfl rfl (by kernel_rfl) Tryz.func4 (by kernel_rfl)
  (of_decide_eq_true (by kernel_rfl)) (by unfold Func.isWrapper;first | (rw [if_pos (by decide +kernel)];kernel_rfl) | (rw [if_neg (by decide +kernel)];exact ⟨rfl,rfl⟩))
  (fun os started H enc _=>Jf os started H enc)
end Go.Proofs.YtohaanhjddohmaaGreatDoor.fnChecks
namespace Go.Proofs.YtohaanhjddohmaaGreatDoor
theorem fnChecks_card_holds:Rows.FnChecksCardSaid :=
 Claim7.holds_tied_plain_at .later [] [.data,.data,.data,.sentinel,.sentinel] true (true, "cd8ce02c5647449a3dbe9977aff7c8c714ee5a74156979fe75363be6f302a162") true fnChecks.over (fun _ h=>by cases h) (by kernel_rfl) (fun _ h=>by cases h) fnChecks_row_tie rfl ⟨rfl,rfl⟩ (by kernel_rfl) rfl
  (fun f fn hf hfn=>by
   obtain rfl:f=4:=Option.some.inj ((show Tryz.prog.funcNamed "loop.example/g01397/laws.FnChecks" = some 4 by kernel_rfl).symm.trans hf) |>.symm
   obtain rfl:fn=Tryz.f4:=(Option.some.inj (Tryz.func4.symm.trans hfn)).symm
   exact ⟨by kernel_rfl,fun j t ht=>by
    have hm:t ∈ Tryz.f4.params.toList:=by simpa using Array.mem_of_getElem? ht
    have hall:(Tryz.f4.params.toList.all fun u=>!Tryz.prog.wantsStandIn u)=true:=by kernel_rfl
    exact (show Tryz.prog.wantsStandIn t=false by simpa using List.all_eq_true.1 hall t hm)⟩)
  (by kernel_rfl)
end Go.Proofs.YtohaanhjddohmaaGreatDoor

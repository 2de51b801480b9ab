/- For every input the law FnFuel answers true: the tied card. No condition is asked but what the row lists of the tables and errors of the library. -/
import Derived.Test.YtijlgdoiofdmhaaGreatDoorRows
import Derived.Test.YtijlgdoiofdmhaaGreatDoorTie
import Derived.Test.YtijlgdoiofdmhaaGreatDoorCards
import Derived.WalkKit
import Derived.ProofKit
import Derived.LaidMore
import Derived.OpenShut
import Derived.SevenTiedAt
import Derived.Test.YtijlgdoiofdmhaaGreatDoorCLaid
import Derived.Test.YtijlgdoiofdmhaaGreatDoorCK
import Derived.Test.YtijlgdoiofdmhaaGreatDoorZK4
namespace Go.Proofs.YtijlgdoiofdmhaaGreatDoor.fnFuel
open Go Go.V Go.Proofs.YtijlgdoiofdmhaaGreatDoor.G Go.ChangeShapes Go.WideShapes Go.ChangeAt Go.WideElems Go.RowKit
set_option linter.unusedVariables false
set_option maxRecDepth 100000
theorem own:ownKnob Tryz.prog.godebug=none:=by kernel_rfl
def laidR:List (String × DataW Unit):=Rows.fnFuelRow.laid
theorem Jq:∀ x,Wf (tup [(.slice (.int .u8))]) x→∃ k r,jI.f k x.1=some r∧pg (B:=[.bool]) (iG ([.val (.slice (.int .u8))])) r=(true,()):=G.fnFuel_pure
theorem Jd (os:Os) (args:Array Value):laidMetH Tryz.prog laidR ((World.doorLaid Tryz.prog 400 os).forCall (fun _ _=>0) ⟨#[],args,[]⟩).memory :=
 laidMetH_of_parts3 (fuel:=8) (laidMet_of_run' 8 (by kernel_rfl) (by kernel_rfl)) (by kernel_rfl) (by kernel_rfl)
theorem Mg (os:Os) (started:os.Started) (H:Type) (enc:TypeId × Value→H) :
 ReturnsInHanded {} Tryz.checked os 3 .any (fun w args=>(Rows.fnFuelSpec.pre enc Tryz.prog Tryz.f3 [] false w args∧laidMetH Tryz.prog laidR w)∧sizedMet enc Tryz.prog Tryz.f3 (OpenSpec.ofChange Rows.fnFuelSpec) false w args)
  (Rows.fnFuelSpec.post enc Tryz.prog Tryz.f3 false true false false):=by
 refine returnsInHanded_of_change_and (C:=Tryz.checked) (X:=fun w _=>laidMetH Tryz.prog laidR w) (fun _ _ _ hh h=>h.of_heap hh) own started (by kernel_rfl) Tryz.func3
  (ChangeSpec.witness_shaped (enc:=enc) (C:=Tryz.checked) (os:=os) (X:=fun w _=>laidMetH Tryz.prog laidR w) false (World.doorLaid Tryz.prog 400 os) #[.slice none 0 0] 16 rfl (World.shaped_of_RefB (by kernel_rfl) (by kernel_rfl)) (by kernel_rfl) (by kernel_rfl) (by kernel_rfl) (Jd os _)) ?_
 intro W base args ds gs before hval hW hcnd hsz hL _
 exact Cm (A:=[.val (.slice (.int .u8))]) (by rfl) N0 Lm (by kernel_rfl) (by kernel_rfl) (by kernel_rfl) (tbool:=4) (by kernel_rfl) rfl
  (fun ds h=>by
   match ds,h with
   | [d0],_=>rfl) (fun k=>jI.ctr k) Jq W (N_ hL) base args ds gs before hval hW hsz
theorem over:Rows.fnFuelRow.holds Tryz.pinned (OpenSpec.ofChange Rows.fnFuelSpec) :=
 OpenClaim.holds_of_wide 3 Tryz.f3 rfl rfl rfl rfl rfl rfl rfl ⟨rfl,rfl,rfl,rfl,rfl⟩ rfl rfl rfl rfl rfl (by kernel_rfl) Tryz.func3 (by kernel_rfl)
  (of_decide_eq_true (by kernel_rfl)) (by unfold Func.isWrapper;first | (rw [if_pos (by decide +kernel)];kernel_rfl) | (rw [if_neg (by decide +kernel)];exact ⟨rfl,rfl⟩))
  (fun os started H enc _=>Mg os started H enc)
end Go.Proofs.YtijlgdoiofdmhaaGreatDoor.fnFuel
namespace Go.Proofs.YtijlgdoiofdmhaaGreatDoor
theorem fnFuel_card_holds:Rows.FnFuelCardSaid :=
 Claim7.holds_tied_plain_at .later [] [.data,.data,.data,.sentinel,.sentinel] true (true, "e3f30333f0931e5df1abd764a661a7e16ac9136e299a51be1ca5692367ac4386") true fnFuel.over (fun _ h=>by cases h) (by kernel_rfl) (fun _ h=>by cases h) fnFuel_row_tie rfl ⟨rfl,rfl⟩ (by kernel_rfl) rfl
  (fun f fn hf hfn=>by
   obtain rfl:f=3:=Option.some.inj ((show Tryz.prog.funcNamed "loop.example/g01397/laws.FnFuel" = some 3 by kernel_rfl).symm.trans hf) |>.symm
   obtain rfl:fn=Tryz.f3:=(Option.some.inj (Tryz.func3.symm.trans hfn)).symm
   exact ⟨by kernel_rfl,fun j t ht=>by
    have hm:t ∈ Tryz.f3.params.toList:=by simpa using Array.mem_of_getElem? ht
    have hall:(Tryz.f3.params.toList.all fun u=>!Tryz.prog.wantsStandIn u)=true:=by kernel_rfl
    exact (show Tryz.prog.wantsStandIn t=false by simpa using List.all_eq_true.1 hall t hm)⟩)
  (by kernel_rfl)
end Go.Proofs.YtijlgdoiofdmhaaGreatDoor

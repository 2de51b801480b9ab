/- For every input the law FnSerial answers true: the tied card. No condition is asked but what the row lists of the tables and errors of the library. -/
import Derived.Test.YtaaincbnjkmapaaGreatDoorRows
import Derived.Test.YtaaincbnjkmapaaGreatDoorTie
import Derived.Test.YtaaincbnjkmapaaGreatDoorCards
import Derived.WalkKit
import Derived.ProofKit
import Derived.LaidMore
import Derived.OpenShut
import Derived.SevenTiedAt
import Derived.Test.YtaaincbnjkmapaaGreatDoorCLaid
import Derived.Test.YtaaincbnjkmapaaGreatDoorCS
import Derived.Test.YtaaincbnjkmapaaGreatDoorZS4
namespace Go.Proofs.YtaaincbnjkmapaaGreatDoor.fnSerial
open Go Go.V Go.Proofs.YtaaincbnjkmapaaGreatDoor.G Go.ChangeShapes Go.WideShapes Go.ChangeAt Go.WideElems Go.RowKit
set_option linter.unusedVariables false
set_option maxRecDepth 100000
theorem own:ownKnob Tryz.prog.godebug=none:=by kernel_rfl
def laidR:List (String × DataW Unit):=Rows.fnSerialRow.laid
theorem NH:∀ x,Wf (tup [(.slice (.int .u8))]) x→∃ k r,bm.f k x.1=some r∧pM (B:=[.bool]) (hZ ([.val (.slice (.int .u8))])) r=(true,()):=G.fnSerial_pure
theorem Mn (os:Os) (args:Array Value):laidMetH Tryz.prog laidR ((World.doorLaid Tryz.prog 400 os).forCall (fun _ _=>0) ⟨#[],args,[]⟩).memory :=
 laidMetH_of_parts3 (fuel:=8) (laidMet_of_run' 8 (by kernel_rfl) (by kernel_rfl)) (by kernel_rfl) (by kernel_rfl)
theorem Pe (os:Os) (started:os.Started) (H:Type) (enc:TypeId × Value→H) :
 ReturnsInHanded {} Tryz.checked os 3 .any (fun w args=>(Rows.fnSerialSpec.pre enc Tryz.prog Tryz.f3 [] false w args∧laidMetH Tryz.prog laidR w)∧sizedMet enc Tryz.prog Tryz.f3 (OpenSpec.ofChange Rows.fnSerialSpec) false w args)
  (Rows.fnSerialSpec.post enc Tryz.prog Tryz.f3 false true false false):=by
 refine returnsInHanded_of_change_and (C:=Tryz.checked) (X:=fun w _=>laidMetH Tryz.prog laidR w) (fun _ _ _ hh h=>h.of_heap hh) own started (by kernel_rfl) Tryz.func3
  (ChangeSpec.witness_shaped (enc:=enc) (C:=Tryz.checked) (os:=os) (X:=fun w _=>laidMetH Tryz.prog laidR w) false (World.doorLaid Tryz.prog 400 os) #[.slice none 0 0] 16 rfl (World.shaped_of_RefB (by kernel_rfl) (by kernel_rfl)) (by kernel_rfl) (by kernel_rfl) (by kernel_rfl) (Mn os _)) ?_
 intro W base args ds gs before hval hW hcnd hsz hL _
 exact EE (A:=[.val (.slice (.int .u8))]) (by rfl) QH O6 (by kernel_rfl) (by kernel_rfl) (by kernel_rfl) (tbool:=4) (by kernel_rfl) rfl
  (fun ds h=>by
   match ds,h with
   | [d0],_=>rfl) (fun k=>bm.ctr k) NH W (Pi hL) base args ds gs before hval hW hsz
theorem over:Rows.fnSerialRow.holds Tryz.pinned (OpenSpec.ofChange Rows.fnSerialSpec) :=
 OpenClaim.holds_of_wide 3 Tryz.f3 rfl rfl rfl rfl rfl rfl rfl ⟨rfl,rfl,rfl,rfl,rfl⟩ rfl rfl rfl rfl rfl (by kernel_rfl) Tryz.func3 (by kernel_rfl)
  (of_decide_eq_true (by kernel_rfl)) (by unfold Func.isWrapper;first | (rw [if_pos (by decide +kernel)];kernel_rfl) | (rw [if_neg (by decide +kernel)];exact ⟨rfl,rfl⟩))
  (fun os started H enc _=>Pe os started H enc)
end Go.Proofs.YtaaincbnjkmapaaGreatDoor.fnSerial
namespace Go.Proofs.YtaaincbnjkmapaaGreatDoor
theorem fnSerial_card_holds:Rows.FnSerialCardSaid :=
 Claim7.holds_tied_plain_at .later [] [.data,.data,.data,.sentinel,.sentinel] true (true, "0ca7b0f8ce644d0b8bd5ba3d2bbc137c8ab46fa152c4c45ccf0e9bbc9b35e065") true fnSerial.over (fun _ h=>by cases h) (by kernel_rfl) (fun _ h=>by cases h) fnSerial_row_tie rfl ⟨rfl,rfl⟩ (by kernel_rfl) rfl
  (fun f fn hf hfn=>by
   obtain rfl:f=3:=Option.some.inj ((show Tryz.prog.funcNamed "loop.example/g01397/laws.FnSerial" = some 3 by kernel_rfl).symm.trans hf) |>.symm
   obtain rfl:fn=Tryz.f3:=(Option.some.inj (Tryz.func3.symm.trans hfn)).symm
   exact ⟨by kernel_rfl,fun j t ht=>by
    have hm:t ∈ Tryz.f3.params.toList:=by simpa using Array.mem_of_getElem? ht
    have hall:(Tryz.f3.params.toList.all fun u=>!Tryz.prog.wantsStandIn u)=true:=by kernel_rfl
    exact (show Tryz.prog.wantsStandIn t=false by simpa using List.all_eq_true.1 hall t hm)⟩)
  (by kernel_rfl)
end Go.Proofs.YtaaincbnjkmapaaGreatDoor

/- For every input the law FnDeskWorks answers true: the tied card. No condition is asked but what the row lists of the tables and errors of the library. -/
import Derived.Test.YteejjngdagmofaaGreatDoorRows
import Derived.Test.YteejjngdagmofaaGreatDoorTie
import Derived.Test.YteejjngdagmofaaGreatDoorCards
import Derived.WalkKit
import Derived.ProofKit
import Derived.LaidMore
import Derived.OpenShut
import Derived.SevenTiedAt
import Derived.Lay
import Derived.MakeChecks
import Derived.Test.YteejjngdagmofaaGreatDoorCLaid
import Derived.Test.YteejjngdagmofaaGreatDoorCK
import Derived.Test.YteejjngdagmofaaGreatDoorZK4
namespace Go.Proofs.YteejjngdagmofaaGreatDoor.fnDeskWorks
open Go Go.V Go.Proofs.YteejjngdagmofaaGreatDoor.G Go.ChangeShapes Go.WideShapes Go.ChangeAt Go.WideElems Go.RowKit
set_option linter.unusedVariables false
set_option maxRecDepth 100000
theorem own:ownKnob Tryz.prog.godebug=none:=by kernel_rfl
def laidR:List (String × DataW Unit):=Rows.fnDeskWorksRow.laid
theorem OY:∀ x,Wf (tup [(.slice (.int .u8))]) x→∃ k r,fP.f k x.1=some r∧od (B:=[.bool]) (gx ([.val (.slice (.int .u8))])) r=(true,()):=G.fnDeskWorks_pure
theorem RA (os:Os) (started:os.Started) (H:Type) (enc:TypeId × Value→H) :
 ReturnsInHanded {} Tryz.checked os 3 .any (fun w args=>(Rows.fnDeskWorksSpec.pre enc Tryz.prog Tryz.f3 [] false w args∧laidMetH Tryz.prog laidR w)∧sizedMet enc Tryz.prog Tryz.f3 (OpenSpec.ofChange Rows.fnDeskWorksSpec) false w args)
  (Rows.fnDeskWorksSpec.post enc Tryz.prog Tryz.f3 false true false false):=by
 refine returnsInHanded_of_calls own started (by kernel_rfl)
  (ChangeSpec.witness_shaped (enc:=enc) (C:=Tryz.checked) (os:=os) (X:=fun w _=>laidMetH Tryz.prog laidR w) false (World.laidAll Tryz.prog os laidR) #[.slice none 0 0] 16 (World.laidAll_os _ _ _) (World.shaped_of_ZipB (by kernel_rfl) (by kernel_rfl)) (by kernel_rfl) (by kernel_rfl) (by kernel_rfl) (by rw [MakeChecks.laidMetH_plain _ _ _ (by kernel_rfl)];exact laidMet_laidAll _ (by kernel_rfl) (by kernel_rfl))) ?_
 intro w tape i _ hS _ hok hpre hholds
 obtain ⟨_,_,_,fn',hfn',_,_,_,_,hval⟩:=hok
 obtain rfl:fn'=Tryz.f3:=Option.some.inj (hfn'.symm.trans Tryz.func3)
 obtain ⟨⟨⟨ds,gs,before,hW,hcnd⟩,hL⟩,hz⟩:=hpre
 have hW':=DataW.Whole.of_heap (w':=w.forCall tape i) (by rfl) hW
 have hL':laidMetH Tryz.prog laidR (w.forCall tape i):=hL.of_heap (by rfl)
 refine (FF (A:=[.val (.slice (.int .u8))]) (by rfl) Ro QU (by kernel_rfl) (by kernel_rfl) (by kernel_rfl) (tbool:=4) (by kernel_rfl) rfl
  (fun ds h=>by
   match ds,h with
   | [d0],_=>rfl) (fun k=>fP.ctr k) OY (w.forCall tape i) (Rq hL' hS) w.heap.size i.args ds gs before hval hW' (hz.weights hW)).mono fun e W' ⟨v,he,hp⟩=>?_
 subst he
 exact ChangeSpec.post_blind hp
theorem over:Rows.fnDeskWorksRow.holds Tryz.pinned (OpenSpec.ofChange Rows.fnDeskWorksSpec) :=
 OpenClaim.holds_of_wide 3 Tryz.f3 rfl rfl rfl rfl rfl rfl rfl ⟨rfl,rfl,rfl,rfl,rfl⟩ rfl rfl rfl rfl rfl (by kernel_rfl) Tryz.func3 (by kernel_rfl)
  (of_decide_eq_true (by kernel_rfl)) (by unfold Func.isWrapper;first | (rw [if_pos (by decide +kernel)];kernel_rfl) | (rw [if_neg (by decide +kernel)];exact ⟨rfl,rfl⟩))
  (fun os started H enc _=>RA os started H enc)
end Go.Proofs.YteejjngdagmofaaGreatDoor.fnDeskWorks
namespace Go.Proofs.YteejjngdagmofaaGreatDoor
theorem fnDeskWorks_card_holds:Rows.FnDeskWorksCardSaid :=
 Claim7.holds_tied_plain_at .later [] [.data,.data,.data,.data,.sentinel,.sentinel,.pinned] true (true, "736d65eb0d6f9d9b0887dc2c0559002738cb2179c6489ea5eed7f5551d2f142c") true fnDeskWorks.over (fun _ h=>by cases h) (by kernel_rfl) (fun _ h=>by cases h) fnDeskWorks_row_tie rfl ⟨rfl,rfl⟩ (by kernel_rfl) rfl
  (fun f fn hf hfn=>by
   obtain rfl:f=3:=Option.some.inj ((show Tryz.prog.funcNamed "loop.example/g01397/laws.FnDeskWorks" = some 3 by kernel_rfl).symm.trans hf) |>.symm
   obtain rfl:fn=Tryz.f3:=(Option.some.inj (Tryz.func3.symm.trans hfn)).symm
   exact ⟨by kernel_rfl,fun j t ht=>by
    have hm:t ∈ Tryz.f3.params.toList:=by simpa using Array.mem_of_getElem? ht
    have hall:(Tryz.f3.params.toList.all fun u=>!Tryz.prog.wantsStandIn u)=true:=by kernel_rfl
    exact (show Tryz.prog.wantsStandIn t=false by simpa using List.all_eq_true.1 hall t hm)⟩)
  (by kernel_rfl)
end Go.Proofs.YteejjngdagmofaaGreatDoor

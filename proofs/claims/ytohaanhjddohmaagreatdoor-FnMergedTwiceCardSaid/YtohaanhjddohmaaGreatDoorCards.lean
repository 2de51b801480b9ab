/-
  DERIVED. GIVEN WITH THE SEED: THE CARDS: each row of YtohaanhjddohmaaGreatDoorRows.lean that lists a variable, with what it lists TIED to the program's text (the seventh form; the later family's looks); each row that meets fmt, with fmt's text TOLD by the authors' own Lean function (tested against real Go, not proved from fmt's source: count such statements apart). THE CARD IS WHAT COUNTS. Prove the row's statement (the work); the ties are given (YtohaanhjddohmaaGreatDoorTie.lean); close each card by the builder's one call (the guide's Derived/Test/ToyasCard.lean, 'card_holds'). Laid BY PROGRAM, IN A SANDBOX (cutbox-door.mjs). By AI agents, Wed Nov 11 2026. No macro, syntax, notation, axiom, sorry.
-/
import Derived.Test.YtohaanhjddohmaaGreatDoorRows
import GoSem.ClaimSeven
namespace Go.Proofs.YtohaanhjddohmaaGreatDoor
namespace Rows

/-- THE TIED CARD OF 'laws.FnMergedTwice'. -/
def fnMergedTwiceCard : Claim7 := { stood := { row := fnMergedTwiceRow, standIns := [], harness := (true, "cd8ce02c5647449a3dbe9977aff7c8c714ee5a74156979fe75363be6f302a162"), looks := true }, kinds := [], alts := [], laidByText := true, laidKinds := [.data, .data, .data, .sentinel, .sentinel], laidTests := true, laidLooks := .later }
def FnMergedTwiceCardSaid : Prop := Claim7.holds Tryz.pinned (.plain (OpenSpec.ofChange fnMergedTwiceSpec)) fnMergedTwiceCard

/-- THE TIED CARD OF 'laws.FnChecks'. -/
def fnChecksCard : Claim7 := { stood := { row := fnChecksRow, standIns := [], harness := (true, "cd8ce02c5647449a3dbe9977aff7c8c714ee5a74156979fe75363be6f302a162"), looks := true }, kinds := [], alts := [], laidByText := true, laidKinds := [.data, .data, .data, .sentinel, .sentinel], laidTests := true, laidLooks := .later }
def FnChecksCardSaid : Prop := Claim7.holds Tryz.pinned (.plain (OpenSpec.ofChange fnChecksSpec)) fnChecksCard

/-- THE SECOND FORM's CARD OF 'laws.FnMergedTwice'. -/
def fnMergedTwiceUptoCard : Claim7 := { stood := { row := fnMergedTwiceUptoRow, standIns := [], harness := (true, "cd8ce02c5647449a3dbe9977aff7c8c714ee5a74156979fe75363be6f302a162"), looks := true }, kinds := [], alts := [], laidByText := true, laidKinds := [.data, .data, .data, .sentinel, .sentinel], laidTests := true, laidLooks := .later }
def FnMergedTwiceUptoCardSaid : Prop := Claim7.holds Tryz.pinned (.plain (OpenSpec.upto fnMergedTwiceSpec)) fnMergedTwiceUptoCard

/-- THE SECOND FORM's CARD OF 'laws.FnChecks'. -/
def fnChecksUptoCard : Claim7 := { stood := { row := fnChecksUptoRow, standIns := [], harness := (true, "cd8ce02c5647449a3dbe9977aff7c8c714ee5a74156979fe75363be6f302a162"), looks := true }, kinds := [], alts := [], laidByText := true, laidKinds := [.data, .data, .data, .sentinel, .sentinel], laidTests := true, laidLooks := .later }
def FnChecksUptoCardSaid : Prop := Claim7.holds Tryz.pinned (.plain (OpenSpec.upto fnChecksSpec)) fnChecksUptoCard
end Rows
end Go.Proofs.YtohaanhjddohmaaGreatDoor

/-
  DERIVED. GIVEN WITH THE SEED: THE CARDS: each row of YtgnakpiicdfpkaaGreatDoorRows.lean that lists a variable, with what it lists TIED to the program's text (the seventh form; the later family's looks); each row that meets fmt, with fmt's text TOLD by the authors' own Lean function (tested against real Go, not proved from fmt's source: count such statements apart). THE CARD IS WHAT COUNTS. Prove the row's statement (the work); the ties are given (YtgnakpiicdfpkaaGreatDoorTie.lean); close each card by the builder's one call (the guide's Derived/Test/ToyasCard.lean, 'card_holds'). Laid BY PROGRAM, IN A SANDBOX (cutbox-door.mjs). By AI agents, Wed Nov 11 2026. No macro, syntax, notation, axiom, sorry.
-/
import Derived.Test.YtgnakpiicdfpkaaGreatDoorRows
import GoSem.ClaimSeven
namespace Go.Proofs.YtgnakpiicdfpkaaGreatDoor
namespace Rows

/-- THE TIED CARD OF 'laws.FnOpenFails'. -/
def fnOpenFailsCard : Claim7 := { stood := { row := fnOpenFailsRow, standIns := [], harness := (true, "4ce3c77d922c7731253312032745b419dfb742ca6a6b2bfe5568c5f5e8e85cb6"), looks := true }, kinds := [], alts := [], laidByText := true, laidKinds := [.data, .data, .data, .sentinel, .sentinel], laidTests := true, laidLooks := .later }
def FnOpenFailsCardSaid : Prop := Claim7.holds Tryz.pinned (.plain (OpenSpec.ofChange fnOpenFailsSpec)) fnOpenFailsCard

/-- THE SECOND FORM's CARD OF 'laws.FnOpenFails'. -/
def fnOpenFailsUptoCard : Claim7 := { stood := { row := fnOpenFailsUptoRow, standIns := [], harness := (true, "4ce3c77d922c7731253312032745b419dfb742ca6a6b2bfe5568c5f5e8e85cb6"), looks := true }, kinds := [], alts := [], laidByText := true, laidKinds := [.data, .data, .data, .sentinel, .sentinel], laidTests := true, laidLooks := .later }
def FnOpenFailsUptoCardSaid : Prop := Claim7.holds Tryz.pinned (.plain (OpenSpec.upto fnOpenFailsSpec)) fnOpenFailsUptoCard
end Rows
end Go.Proofs.YtgnakpiicdfpkaaGreatDoor

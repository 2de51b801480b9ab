/-
  DERIVED. GIVEN WITH THE SEED: THE CARDS: each row of YtdbekilnpjmeaaaGreatDoorRows.lean that lists a variable, with what it lists TIED to the program's text (the seventh form; the later family's looks); each row that meets fmt, with fmt's text TOLD by the authors' own Lean function (tested against real Go, not proved from fmt's source: count such statements apart). THE CARD IS WHAT COUNTS. Prove the row's statement (the work); the ties are given (YtdbekilnpjmeaaaGreatDoorTie.lean); close each card by the builder's one call (the guide's Derived/Test/ToyasCard.lean, 'card_holds'). Laid BY PROGRAM, IN A SANDBOX (cutbox-door.mjs). By AI agents, Wed Nov 11 2026. No macro, syntax, notation, axiom, sorry.
-/
import Derived.Test.YtdbekilnpjmeaaaGreatDoorRows
import GoSem.ClaimSeven
namespace Go.Proofs.YtdbekilnpjmeaaaGreatDoor
namespace Rows

/-- THE TIED CARD OF 'laws.FnCommits'. -/
def fnCommitsCard : Claim7 := { stood := { row := fnCommitsRow, standIns := [], harness := (true, "88436fc50ebd3b8d8b06c37000390ed6e974abd2663e8c8e23a751cbc0ad1756"), looks := false }, kinds := [], alts := [], laidByText := true, laidKinds := [.data, .data, .data], laidTests := true, laidLooks := .later }
def FnCommitsCardSaid : Prop := Claim7.holds Tryz.pinned (.plain (OpenSpec.ofChange fnCommitsSpec)) fnCommitsCard

/-- THE SECOND FORM's CARD OF 'laws.FnCommits'. -/
def fnCommitsUptoCard : Claim7 := { stood := { row := fnCommitsUptoRow, standIns := [], harness := (true, "88436fc50ebd3b8d8b06c37000390ed6e974abd2663e8c8e23a751cbc0ad1756"), looks := false }, kinds := [], alts := [], laidByText := true, laidKinds := [.data, .data, .data], laidTests := true, laidLooks := .later }
def FnCommitsUptoCardSaid : Prop := Claim7.holds Tryz.pinned (.plain (OpenSpec.upto fnCommitsSpec)) fnCommitsUptoCard
end Rows
end Go.Proofs.YtdbekilnpjmeaaaGreatDoor

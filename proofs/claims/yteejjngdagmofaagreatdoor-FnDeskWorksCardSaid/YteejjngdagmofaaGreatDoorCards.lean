/-
  DERIVED. GIVEN WITH THE SEED: THE CARDS: each row of YteejjngdagmofaaGreatDoorRows.lean that lists a variable, with what it lists TIED to the program's text (the seventh form; the later family's looks); each row that meets fmt, with fmt's text TOLD by the authors' own Lean function (tested against real Go, not proved from fmt's source: count such statements apart). THE CARD IS WHAT COUNTS. Prove the row's statement (the work); the ties are given (YteejjngdagmofaaGreatDoorTie.lean); close each card by the builder's one call (the guide's Derived/Test/ToyasCard.lean, 'card_holds'). Laid BY PROGRAM, IN A SANDBOX (cutbox-door.mjs). By AI agents, Wed Nov 11 2026. No macro, syntax, notation, axiom, sorry.
-/
import Derived.Test.YteejjngdagmofaaGreatDoorRows
import GoSem.ClaimSeven
namespace Go.Proofs.YteejjngdagmofaaGreatDoor
namespace Rows

/-- THE TIED CARD OF 'laws.FnDeskWorks'. -/
def fnDeskWorksCard : Claim7 := { stood := { row := fnDeskWorksRow, standIns := [], harness := (true, "736d65eb0d6f9d9b0887dc2c0559002738cb2179c6489ea5eed7f5551d2f142c"), looks := true }, kinds := [], alts := [], laidByText := true, laidKinds := [.data, .data, .data, .data, .sentinel, .sentinel, .pinned], laidTests := true, laidLooks := .later }
def FnDeskWorksCardSaid : Prop := Claim7.holds Tryz.pinned (.plain (OpenSpec.ofChange fnDeskWorksSpec)) fnDeskWorksCard

/-- THE SECOND FORM's CARD OF 'laws.FnDeskWorks'. -/
def fnDeskWorksUptoCard : Claim7 := { stood := { row := fnDeskWorksUptoRow, standIns := [], harness := (true, "736d65eb0d6f9d9b0887dc2c0559002738cb2179c6489ea5eed7f5551d2f142c"), looks := true }, kinds := [], alts := [], laidByText := true, laidKinds := [.data, .data, .data, .data, .sentinel, .sentinel, .pinned], laidTests := true, laidLooks := .later }
def FnDeskWorksUptoCardSaid : Prop := Claim7.holds Tryz.pinned (.plain (OpenSpec.upto fnDeskWorksSpec)) fnDeskWorksUptoCard
end Rows
end Go.Proofs.YteejjngdagmofaaGreatDoor

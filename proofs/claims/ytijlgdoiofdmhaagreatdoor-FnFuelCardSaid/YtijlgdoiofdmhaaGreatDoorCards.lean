/-
  DERIVED. GIVEN WITH THE SEED: THE CARDS: each row of YtijlgdoiofdmhaaGreatDoorRows.lean that lists a variable, with what it lists TIED to the program's text (the seventh form; the later family's looks); each row that meets fmt, with fmt's text TOLD by the authors' own Lean function (tested against real Go, not proved from fmt's source: count such statements apart). THE CARD IS WHAT COUNTS. Prove the row's statement (the work); the ties are given (YtijlgdoiofdmhaaGreatDoorTie.lean); close each card by the builder's one call (the guide's Derived/Test/ToyasCard.lean, 'card_holds'). Laid BY PROGRAM, IN A SANDBOX (cutbox-door.mjs). By AI agents, Wed Nov 11 2026. No macro, syntax, notation, axiom, sorry.
-/
import Derived.Test.YtijlgdoiofdmhaaGreatDoorRows
import GoSem.ClaimSeven
namespace Go.Proofs.YtijlgdoiofdmhaaGreatDoor
namespace Rows

/-- THE TIED CARD OF 'laws.FnFuel'. -/
def fnFuelCard : Claim7 := { stood := { row := fnFuelRow, standIns := [], harness := (true, "e3f30333f0931e5df1abd764a661a7e16ac9136e299a51be1ca5692367ac4386"), looks := true }, kinds := [], alts := [], laidByText := true, laidKinds := [.data, .data, .data, .sentinel, .sentinel], laidTests := true, laidLooks := .later }
def FnFuelCardSaid : Prop := Claim7.holds Tryz.pinned (.plain (OpenSpec.ofChange fnFuelSpec)) fnFuelCard

/-- THE SECOND FORM's CARD OF 'laws.FnFuel'. -/
def fnFuelUptoCard : Claim7 := { stood := { row := fnFuelUptoRow, standIns := [], harness := (true, "e3f30333f0931e5df1abd764a661a7e16ac9136e299a51be1ca5692367ac4386"), looks := true }, kinds := [], alts := [], laidByText := true, laidKinds := [.data, .data, .data, .sentinel, .sentinel], laidTests := true, laidLooks := .later }
def FnFuelUptoCardSaid : Prop := Claim7.holds Tryz.pinned (.plain (OpenSpec.upto fnFuelSpec)) fnFuelUptoCard
end Rows
end Go.Proofs.YtijlgdoiofdmhaaGreatDoor

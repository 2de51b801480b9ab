/-
  DERIVED. GIVEN WITH THE SEED: THE CARDS: each row of YthjppgafienaoaaGreatDoorRows.lean that lists a variable, with what it lists TIED to the program's text (the seventh form; the later family's looks); each row that meets fmt, with fmt's text TOLD by the authors' own Lean function (tested against real Go, not proved from fmt's source: count such statements apart). THE CARD IS WHAT COUNTS. Prove the row's statement (the work); the ties are given (YthjppgafienaoaaGreatDoorTie.lean); close each card by the builder's one call (the guide's Derived/Test/ToyasCard.lean, 'card_holds'). Laid BY PROGRAM, IN A SANDBOX (cutbox-door.mjs). By AI agents, Wed Nov 11 2026. No macro, syntax, notation, axiom, sorry.
-/
import Derived.Test.YthjppgafienaoaaGreatDoorRows
import GoSem.ClaimSeven
namespace Go.Proofs.YthjppgafienaoaaGreatDoor
namespace Rows

/-- THE TIED CARD OF 'laws.FnNothingDone'. -/
def fnNothingDoneCard : Claim7 := { stood := { row := fnNothingDoneRow, standIns := [], harness := (true, "c0d86348ca0e9ad6f44c470ad48bd6a3286da5ba1f9cbc1f557bbf32ee7eb29f"), looks := true }, kinds := [], alts := [], laidByText := true, laidKinds := [.data, .data, .data, .sentinel, .sentinel], laidTests := true, laidLooks := .later }
def FnNothingDoneCardSaid : Prop := Claim7.holds Tryz.pinned (.plain (OpenSpec.ofChange fnNothingDoneSpec)) fnNothingDoneCard

/-- THE SECOND FORM's CARD OF 'laws.FnNothingDone'. -/
def fnNothingDoneUptoCard : Claim7 := { stood := { row := fnNothingDoneUptoRow, standIns := [], harness := (true, "c0d86348ca0e9ad6f44c470ad48bd6a3286da5ba1f9cbc1f557bbf32ee7eb29f"), looks := true }, kinds := [], alts := [], laidByText := true, laidKinds := [.data, .data, .data, .sentinel, .sentinel], laidTests := true, laidLooks := .later }
def FnNothingDoneUptoCardSaid : Prop := Claim7.holds Tryz.pinned (.plain (OpenSpec.upto fnNothingDoneSpec)) fnNothingDoneUptoCard
end Rows
end Go.Proofs.YthjppgafienaoaaGreatDoor

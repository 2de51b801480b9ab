/-
  DERIVED. GIVEN WITH THE SEED: THE CARDS: each row of YthjppgafienaoabGreatDoorRows.lean that lists a variable, with what it lists TIED to the program's text (the seventh form; the later family's looks); each row that meets fmt, with fmt's text TOLD by the authors' own Lean function (tested against real Go, not proved from fmt's source: count such statements apart). THE CARD IS WHAT COUNTS. Prove the row's statement (the work); the ties are given (YthjppgafienaoabGreatDoorTie.lean); close each card by the builder's one call (the guide's Derived/Test/ToyasCard.lean, 'card_holds'). Laid BY PROGRAM, IN A SANDBOX (cutbox-door.mjs). By AI agents, Wed Nov 11 2026. No macro, syntax, notation, axiom, sorry.
-/
import Derived.Test.YthjppgafienaoabGreatDoorRows
import GoSem.ClaimSeven
namespace Go.Proofs.YthjppgafienaoabGreatDoor
namespace Rows

/-- THE TIED CARD OF 'laws.FnFollows'. -/
def fnFollowsCard : Claim7 := { stood := { row := fnFollowsRow, standIns := [], harness := (true, "2986ca3d3f5f044e5c2c74efa5ed83e3e8971e5f79ea0db3fb9d9cf72905a72a"), looks := false }, kinds := [], alts := [], laidByText := true, laidKinds := [.data, .data, .data], laidTests := true, laidLooks := .later }
def FnFollowsCardSaid : Prop := Claim7.holds Tryz.pinned (.plain (OpenSpec.ofChange fnFollowsSpec)) fnFollowsCard

/-- THE SECOND FORM's CARD OF 'laws.FnFollows'. -/
def fnFollowsUptoCard : Claim7 := { stood := { row := fnFollowsUptoRow, standIns := [], harness := (true, "2986ca3d3f5f044e5c2c74efa5ed83e3e8971e5f79ea0db3fb9d9cf72905a72a"), looks := false }, kinds := [], alts := [], laidByText := true, laidKinds := [.data, .data, .data], laidTests := true, laidLooks := .later }
def FnFollowsUptoCardSaid : Prop := Claim7.holds Tryz.pinned (.plain (OpenSpec.upto fnFollowsSpec)) fnFollowsUptoCard
end Rows
end Go.Proofs.YthjppgafienaoabGreatDoor

/-
  DERIVED. GIVEN WITH THE SEED: THE CARDS: each row of YtnpijgnfpdcjbaaGreatDoorRows.lean that lists a variable, with what it lists TIED to the program's text (the seventh form; the later family's looks); each row that meets fmt, with fmt's text TOLD by the authors' own Lean function (tested against real Go, not proved from fmt's source: count such statements apart). THE CARD IS WHAT COUNTS. Prove the row's statement (the work); the ties are given (YtnpijgnfpdcjbaaGreatDoorTie.lean); close each card by the builder's one call (the guide's Derived/Test/ToyasCard.lean, 'card_holds'). Laid BY PROGRAM, IN A SANDBOX (cutbox-door.mjs). By AI agents, Wed Nov 11 2026. No macro, syntax, notation, axiom, sorry.
-/
import Derived.Test.YtnpijgnfpdcjbaaGreatDoorRows
import GoSem.ClaimSeven
namespace Go.Proofs.YtnpijgnfpdcjbaaGreatDoor
namespace Rows

/-- THE TIED CARD OF 'laws.FnFollowsOn'. -/
def fnFollowsOnCard : Claim7 := { stood := { row := fnFollowsOnRow, standIns := [], harness := (true, "1002556f8908b5dfe8e0ddeaea77ac62e5803711ee1a25125d066bb459220c61"), looks := false }, kinds := [], alts := [], laidByText := true, laidKinds := [.data, .data, .data], laidTests := true, laidLooks := .later }
def FnFollowsOnCardSaid : Prop := Claim7.holds Tryz.pinned (.plain (OpenSpec.ofChange fnFollowsOnSpec)) fnFollowsOnCard

/-- THE TIED CARD OF 'laws.FnFollows'. -/
def fnFollowsCard : Claim7 := { stood := { row := fnFollowsRow, standIns := [], harness := (true, "1002556f8908b5dfe8e0ddeaea77ac62e5803711ee1a25125d066bb459220c61"), looks := false }, kinds := [], alts := [], laidByText := true, laidKinds := [.data, .data, .data], laidTests := true, laidLooks := .later }
def FnFollowsCardSaid : Prop := Claim7.holds Tryz.pinned (.plain (OpenSpec.ofChange fnFollowsSpec)) fnFollowsCard

/-- THE SECOND FORM's CARD OF 'laws.FnFollowsOn'. -/
def fnFollowsOnUptoCard : Claim7 := { stood := { row := fnFollowsOnUptoRow, standIns := [], harness := (true, "1002556f8908b5dfe8e0ddeaea77ac62e5803711ee1a25125d066bb459220c61"), looks := false }, kinds := [], alts := [], laidByText := true, laidKinds := [.data, .data, .data], laidTests := true, laidLooks := .later }
def FnFollowsOnUptoCardSaid : Prop := Claim7.holds Tryz.pinned (.plain (OpenSpec.upto fnFollowsOnSpec)) fnFollowsOnUptoCard

/-- THE SECOND FORM's CARD OF 'laws.FnFollows'. -/
def fnFollowsUptoCard : Claim7 := { stood := { row := fnFollowsUptoRow, standIns := [], harness := (true, "1002556f8908b5dfe8e0ddeaea77ac62e5803711ee1a25125d066bb459220c61"), looks := false }, kinds := [], alts := [], laidByText := true, laidKinds := [.data, .data, .data], laidTests := true, laidLooks := .later }
def FnFollowsUptoCardSaid : Prop := Claim7.holds Tryz.pinned (.plain (OpenSpec.upto fnFollowsSpec)) fnFollowsUptoCard
end Rows
end Go.Proofs.YtnpijgnfpdcjbaaGreatDoor

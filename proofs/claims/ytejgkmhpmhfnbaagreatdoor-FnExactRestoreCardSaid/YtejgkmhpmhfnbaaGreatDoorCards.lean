/-
  DERIVED. GIVEN WITH THE SEED: THE CARDS: each row of YtejgkmhpmhfnbaaGreatDoorRows.lean that lists a variable, with what it lists TIED to the program's text (the seventh form; the later family's looks); each row that meets fmt, with fmt's text TOLD by the authors' own Lean function (tested against real Go, not proved from fmt's source: count such statements apart). THE CARD IS WHAT COUNTS. Prove the row's statement (the work); the ties are given (YtejgkmhpmhfnbaaGreatDoorTie.lean); close each card by the builder's one call (the guide's Derived/Test/ToyasCard.lean, 'card_holds'). Laid BY PROGRAM, IN A SANDBOX (cutbox-door.mjs). By AI agents, Wed Nov 11 2026. No macro, syntax, notation, axiom, sorry.
-/
import Derived.Test.YtejgkmhpmhfnbaaGreatDoorRows
import GoSem.ClaimSeven
namespace Go.Proofs.YtejgkmhpmhfnbaaGreatDoor
namespace Rows

/-- THE TIED CARD OF 'laws.FnExactCacheGet'. -/
def fnExactCacheGetCard : Claim7 := { stood := { row := fnExactCacheGetRow, standIns := [], harness := (true, "32937ab0511eeb01808a5cd29c94cf813f0077356b7e0e767193169df578083c"), looks := true }, kinds := [], alts := [], laidByText := true, laidKinds := [.data, .data, .data], laidTests := true, laidLooks := .later }
def FnExactCacheGetCardSaid : Prop := Claim7.holds Tryz.pinned (.plain (OpenSpec.ofChange fnExactCacheGetSpec)) fnExactCacheGetCard

/-- THE TIED CARD OF 'laws.FnExactReopened'. -/
def fnExactReopenedCard : Claim7 := { stood := { row := fnExactReopenedRow, standIns := [], harness := (true, "32937ab0511eeb01808a5cd29c94cf813f0077356b7e0e767193169df578083c"), looks := true }, kinds := [], alts := [], laidByText := true, laidKinds := [.data, .data, .data, .sentinel, .sentinel], laidTests := true, laidLooks := .later }
def FnExactReopenedCardSaid : Prop := Claim7.holds Tryz.pinned (.plain (OpenSpec.ofChange fnExactReopenedSpec)) fnExactReopenedCard

/-- THE TIED CARD OF 'laws.FnExactRestore'. -/
def fnExactRestoreCard : Claim7 := { stood := { row := fnExactRestoreRow, standIns := [], harness := (true, "32937ab0511eeb01808a5cd29c94cf813f0077356b7e0e767193169df578083c"), looks := true }, kinds := [], alts := [], laidByText := true, laidKinds := [.data, .data, .data, .sentinel, .sentinel], laidTests := true, laidLooks := .later }
def FnExactRestoreCardSaid : Prop := Claim7.holds Tryz.pinned (.plain (OpenSpec.ofChange fnExactRestoreSpec)) fnExactRestoreCard

/-- THE SECOND FORM's CARD OF 'laws.FnExactCacheGet'. -/
def fnExactCacheGetUptoCard : Claim7 := { stood := { row := fnExactCacheGetUptoRow, standIns := [], harness := (true, "32937ab0511eeb01808a5cd29c94cf813f0077356b7e0e767193169df578083c"), looks := true }, kinds := [], alts := [], laidByText := true, laidKinds := [.data, .data, .data], laidTests := true, laidLooks := .later }
def FnExactCacheGetUptoCardSaid : Prop := Claim7.holds Tryz.pinned (.plain (OpenSpec.upto fnExactCacheGetSpec)) fnExactCacheGetUptoCard

/-- THE SECOND FORM's CARD OF 'laws.FnExactReopened'. -/
def fnExactReopenedUptoCard : Claim7 := { stood := { row := fnExactReopenedUptoRow, standIns := [], harness := (true, "32937ab0511eeb01808a5cd29c94cf813f0077356b7e0e767193169df578083c"), looks := true }, kinds := [], alts := [], laidByText := true, laidKinds := [.data, .data, .data, .sentinel, .sentinel], laidTests := true, laidLooks := .later }
def FnExactReopenedUptoCardSaid : Prop := Claim7.holds Tryz.pinned (.plain (OpenSpec.upto fnExactReopenedSpec)) fnExactReopenedUptoCard

/-- THE SECOND FORM's CARD OF 'laws.FnExactRestore'. -/
def fnExactRestoreUptoCard : Claim7 := { stood := { row := fnExactRestoreUptoRow, standIns := [], harness := (true, "32937ab0511eeb01808a5cd29c94cf813f0077356b7e0e767193169df578083c"), looks := true }, kinds := [], alts := [], laidByText := true, laidKinds := [.data, .data, .data, .sentinel, .sentinel], laidTests := true, laidLooks := .later }
def FnExactRestoreUptoCardSaid : Prop := Claim7.holds Tryz.pinned (.plain (OpenSpec.upto fnExactRestoreSpec)) fnExactRestoreUptoCard
end Rows
end Go.Proofs.YtejgkmhpmhfnbaaGreatDoor

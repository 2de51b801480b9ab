/-
  DERIVED. GIVEN WITH THE SEED: THE CARDS: each row of YtmakghhmpgfboaaGreatDoorRows.lean that lists a variable, with what it lists TIED to the program's text (the seventh form; the later family's looks); each row that meets fmt, with fmt's text TOLD by the authors' own Lean function (tested against real Go, not proved from fmt's source: count such statements apart). THE CARD IS WHAT COUNTS. Prove the row's statement (the work); the ties are given (YtmakghhmpgfboaaGreatDoorTie.lean); close each card by the builder's one call (the guide's Derived/Test/ToyasCard.lean, 'card_holds'). Laid BY PROGRAM, IN A SANDBOX (cutbox-door.mjs). By AI agents, Wed Nov 11 2026. No macro, syntax, notation, axiom, sorry.
-/
import Derived.Test.YtmakghhmpgfboaaGreatDoorRows
import GoSem.ClaimSeven
namespace Go.Proofs.YtmakghhmpgfboaaGreatDoor
namespace Rows

/-- THE TIED CARD OF 'laws.FnBackups'. -/
def fnBackupsCard : Claim7 := { stood := { row := fnBackupsRow, standIns := [], harness := (true, "7996f93b010af2b284db519b99395cc49ec927ab4aca85d23451bf990522ac98"), looks := true }, kinds := [], alts := [], laidByText := true, laidKinds := [.data, .data, .data, .sentinel, .sentinel], laidTests := true, laidLooks := .later }
def FnBackupsCardSaid : Prop := Claim7.holds Tryz.pinned (.plain (OpenSpec.ofChange fnBackupsSpec)) fnBackupsCard

/-- THE TIED CARD OF 'laws.FnCaches'. -/
def fnCachesCard : Claim7 := { stood := { row := fnCachesRow, standIns := [], harness := (true, "7996f93b010af2b284db519b99395cc49ec927ab4aca85d23451bf990522ac98"), looks := true }, kinds := [], alts := [], laidByText := true, laidKinds := [.data, .data, .data], laidTests := true, laidLooks := .later }
def FnCachesCardSaid : Prop := Claim7.holds Tryz.pinned (.plain (OpenSpec.ofChange fnCachesSpec)) fnCachesCard

/-- THE SECOND FORM's CARD OF 'laws.FnBackups'. -/
def fnBackupsUptoCard : Claim7 := { stood := { row := fnBackupsUptoRow, standIns := [], harness := (true, "7996f93b010af2b284db519b99395cc49ec927ab4aca85d23451bf990522ac98"), looks := true }, kinds := [], alts := [], laidByText := true, laidKinds := [.data, .data, .data, .sentinel, .sentinel], laidTests := true, laidLooks := .later }
def FnBackupsUptoCardSaid : Prop := Claim7.holds Tryz.pinned (.plain (OpenSpec.upto fnBackupsSpec)) fnBackupsUptoCard

/-- THE SECOND FORM's CARD OF 'laws.FnCaches'. -/
def fnCachesUptoCard : Claim7 := { stood := { row := fnCachesUptoRow, standIns := [], harness := (true, "7996f93b010af2b284db519b99395cc49ec927ab4aca85d23451bf990522ac98"), looks := true }, kinds := [], alts := [], laidByText := true, laidKinds := [.data, .data, .data], laidTests := true, laidLooks := .later }
def FnCachesUptoCardSaid : Prop := Claim7.holds Tryz.pinned (.plain (OpenSpec.upto fnCachesSpec)) fnCachesUptoCard
end Rows
end Go.Proofs.YtmakghhmpgfboaaGreatDoor

/-
  DERIVED. GIVEN WITH THE SEED: THE CARDS: each row of YtckpkdiinmjdaaaGreatDoorRows.lean that lists a variable, with what it lists TIED to the program's text (the seventh form; the later family's looks); each row that meets fmt, with fmt's text TOLD by the authors' own Lean function (tested against real Go, not proved from fmt's source: count such statements apart). THE CARD IS WHAT COUNTS. Prove the row's statement (the work); the ties are given (YtckpkdiinmjdaaaGreatDoorTie.lean); close each card by the builder's one call (the guide's Derived/Test/ToyasCard.lean, 'card_holds'). Laid BY PROGRAM, IN A SANDBOX (cutbox-door.mjs). By AI agents, Wed Nov 11 2026. No macro, syntax, notation, axiom, sorry.
-/
import Derived.Test.YtckpkdiinmjdaaaGreatDoorRows
import GoSem.ClaimSeven
namespace Go.Proofs.YtckpkdiinmjdaaaGreatDoor
namespace Rows

/-- THE TIED CARD OF 'laws.FnDead'. -/
def fnDeadCard : Claim7 := { stood := { row := fnDeadRow, standIns := [], harness := (true, "3fddca7c91f4d54ff656840b5875d6f8f62ecf6f908d5bf3f05bad498c788995"), looks := false }, kinds := [], alts := [], laidByText := true, laidKinds := [.data, .data, .data], laidTests := true, laidLooks := .later }
def FnDeadCardSaid : Prop := Claim7.holds Tryz.pinned (.plain (OpenSpec.ofChange fnDeadSpec)) fnDeadCard

/-- THE TIED CARD OF 'laws.FnPlans'. -/
def fnPlansCard : Claim7 := { stood := { row := fnPlansRow, standIns := [], harness := (true, "3fddca7c91f4d54ff656840b5875d6f8f62ecf6f908d5bf3f05bad498c788995"), looks := false }, kinds := [], alts := [], laidByText := true, laidKinds := [.data, .data, .data], laidTests := true, laidLooks := .later }
def FnPlansCardSaid : Prop := Claim7.holds Tryz.pinned (.plain (OpenSpec.ofChange fnPlansSpec)) fnPlansCard

/-- THE SECOND FORM's CARD OF 'laws.FnDead'. -/
def fnDeadUptoCard : Claim7 := { stood := { row := fnDeadUptoRow, standIns := [], harness := (true, "3fddca7c91f4d54ff656840b5875d6f8f62ecf6f908d5bf3f05bad498c788995"), looks := false }, kinds := [], alts := [], laidByText := true, laidKinds := [.data, .data, .data], laidTests := true, laidLooks := .later }
def FnDeadUptoCardSaid : Prop := Claim7.holds Tryz.pinned (.plain (OpenSpec.upto fnDeadSpec)) fnDeadUptoCard

/-- THE SECOND FORM's CARD OF 'laws.FnPlans'. -/
def fnPlansUptoCard : Claim7 := { stood := { row := fnPlansUptoRow, standIns := [], harness := (true, "3fddca7c91f4d54ff656840b5875d6f8f62ecf6f908d5bf3f05bad498c788995"), looks := false }, kinds := [], alts := [], laidByText := true, laidKinds := [.data, .data, .data], laidTests := true, laidLooks := .later }
def FnPlansUptoCardSaid : Prop := Claim7.holds Tryz.pinned (.plain (OpenSpec.upto fnPlansSpec)) fnPlansUptoCard
end Rows
end Go.Proofs.YtckpkdiinmjdaaaGreatDoor

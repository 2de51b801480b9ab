/-
  DERIVED. GIVEN WITH THE SEED: THE CARDS: each row of YtgcahahklmfleaaDoorRows.lean that lists a variable, with what it lists TIED to the program's text (the seventh form; the later family's looks); each row that meets fmt, with fmt's text TOLD by the authors' own Lean function (tested against real Go, not proved from fmt's source: count such statements apart). THE CARD IS WHAT COUNTS. Prove the row's statement (the work); the ties are given (YtgcahahklmfleaaDoorTie.lean); close each card by the builder's one call (the guide's Derived/Test/ToyasCard.lean, 'card_holds'). Laid BY PROGRAM, IN A SANDBOX (cutbox-door.mjs). By AI agents, Wed Nov 11 2026. No macro, syntax, notation, axiom, sorry.
-/
import Derived.Test.YtgcahahklmfleaaDoorRows
import GoSem.ClaimSeven
namespace Go.Proofs.YtgcahahklmfleaaDoor
namespace Rows

/-- THE TIED CARD OF 'laws.FnExactDeadBytes'. -/
def fnExactDeadBytesCard : Claim7 := { stood := { row := fnExactDeadBytesRow, standIns := [], harness := (true, "67743fbbecf3f1cee622ccc4ef05605235b0e566dc5cb0bc7690eec39ebbe9e3"), looks := false }, kinds := [], alts := [], laidByText := true, laidKinds := [.data, .data, .data], laidTests := true, laidLooks := .later }
def FnExactDeadBytesCardSaid : Prop := Claim7.holds Tryd.pinned (.plain (OpenSpec.ofChange fnExactDeadBytesSpec)) fnExactDeadBytesCard

/-- THE SECOND FORM's CARD OF 'laws.FnExactDeadBytes'. -/
def fnExactDeadBytesUptoCard : Claim7 := { stood := { row := fnExactDeadBytesUptoRow, standIns := [], harness := (true, "67743fbbecf3f1cee622ccc4ef05605235b0e566dc5cb0bc7690eec39ebbe9e3"), looks := false }, kinds := [], alts := [], laidByText := true, laidKinds := [.data, .data, .data], laidTests := true, laidLooks := .later }
def FnExactDeadBytesUptoCardSaid : Prop := Claim7.holds Tryd.pinned (.plain (OpenSpec.upto fnExactDeadBytesSpec)) fnExactDeadBytesUptoCard
end Rows
end Go.Proofs.YtgcahahklmfleaaDoor

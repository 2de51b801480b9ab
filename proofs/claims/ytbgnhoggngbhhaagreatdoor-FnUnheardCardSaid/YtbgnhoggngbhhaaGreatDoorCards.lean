/-
  DERIVED. GIVEN WITH THE SEED: THE CARDS: each row of YtbgnhoggngbhhaaGreatDoorRows.lean that lists a variable, with what it lists TIED to the program's text (the seventh form; the later family's looks); each row that meets fmt, with fmt's text TOLD by the authors' own Lean function (tested against real Go, not proved from fmt's source: count such statements apart). THE CARD IS WHAT COUNTS. Prove the row's statement (the work); the ties are given (YtbgnhoggngbhhaaGreatDoorTie.lean); close each card by the builder's one call (the guide's Derived/Test/ToyasCard.lean, 'card_holds'). Laid BY PROGRAM, IN A SANDBOX (cutbox-door.mjs). By AI agents, Wed Nov 11 2026. No macro, syntax, notation, axiom, sorry.
-/
import Derived.Test.YtbgnhoggngbhhaaGreatDoorRows
import GoSem.ClaimSeven
namespace Go.Proofs.YtbgnhoggngbhhaaGreatDoor
namespace Rows

/-- THE TIED CARD OF 'laws.FnUnheard'. -/
def fnUnheardCard : Claim7 := { stood := { row := fnUnheardRow, standIns := [], harness := (true, "510dcbf1fddd48c193190ffbb6d6d248b8ae4bda8b605788dc1169c225e446bb"), looks := true }, kinds := [], alts := [], laidByText := true, laidKinds := [.data, .data, .data, .sentinel, .sentinel], laidTests := true, laidLooks := .later }
def FnUnheardCardSaid : Prop := Claim7.holds Tryz.pinned (.plain (OpenSpec.ofChange fnUnheardSpec)) fnUnheardCard

/-- THE SECOND FORM's CARD OF 'laws.FnUnheard'. -/
def fnUnheardUptoCard : Claim7 := { stood := { row := fnUnheardUptoRow, standIns := [], harness := (true, "510dcbf1fddd48c193190ffbb6d6d248b8ae4bda8b605788dc1169c225e446bb"), looks := true }, kinds := [], alts := [], laidByText := true, laidKinds := [.data, .data, .data, .sentinel, .sentinel], laidTests := true, laidLooks := .later }
def FnUnheardUptoCardSaid : Prop := Claim7.holds Tryz.pinned (.plain (OpenSpec.upto fnUnheardSpec)) fnUnheardUptoCard
end Rows
end Go.Proofs.YtbgnhoggngbhhaaGreatDoor

/-
  DERIVED. GIVEN WITH THE SEED: THE CARDS: each row of YtgcahahklmfleaaGreatDoorRows.lean that lists a variable, with what it lists TIED to the program's text (the seventh form; the later family's looks); each row that meets fmt, with fmt's text TOLD by the authors' own Lean function (tested against real Go, not proved from fmt's source: count such statements apart). THE CARD IS WHAT COUNTS. Prove the row's statement (the work); the ties are given (YtgcahahklmfleaaGreatDoorTie.lean); close each card by the builder's one call (the guide's Derived/Test/ToyasCard.lean, 'card_holds'). Laid BY PROGRAM, IN A SANDBOX (cutbox-door.mjs). By AI agents, Wed Nov 11 2026. No macro, syntax, notation, axiom, sorry.
-/
import Derived.Test.YtgcahahklmfleaaGreatDoorRows
import GoSem.ClaimSeven
namespace Go.Proofs.YtgcahahklmfleaaGreatDoor
namespace Rows

/-- THE TIED CARD OF 'laws.FnExactMergeGain'. -/
def fnExactMergeGainCard : Claim7 := { stood := { row := fnExactMergeGainRow, standIns := [], harness := (true, "0b3d6af359a4c4f3c42881632dd818f018f17fc6127a31bfe5c92e2d93c91803"), looks := true }, kinds := [], alts := [], laidByText := true, laidKinds := [.data, .data, .data], laidTests := true, laidLooks := .later }
def FnExactMergeGainCardSaid : Prop := Claim7.holds Tryz.pinned (.plain (OpenSpec.ofChange fnExactMergeGainSpec)) fnExactMergeGainCard

/-- THE TIED CARD OF 'laws.FnExactNeedsMerge'. -/
def fnExactNeedsMergeCard : Claim7 := { stood := { row := fnExactNeedsMergeRow, standIns := [], harness := (true, "0b3d6af359a4c4f3c42881632dd818f018f17fc6127a31bfe5c92e2d93c91803"), looks := true }, kinds := [], alts := [], laidByText := true, laidKinds := [.data, .data, .data], laidTests := true, laidLooks := .later }
def FnExactNeedsMergeCardSaid : Prop := Claim7.holds Tryz.pinned (.plain (OpenSpec.ofChange fnExactNeedsMergeSpec)) fnExactNeedsMergeCard

/-- THE TIED CARD OF 'laws.FnExactCacheGet'. -/
def fnExactCacheGetCard : Claim7 := { stood := { row := fnExactCacheGetRow, standIns := [], harness := (true, "0b3d6af359a4c4f3c42881632dd818f018f17fc6127a31bfe5c92e2d93c91803"), looks := true }, kinds := [], alts := [], laidByText := true, laidKinds := [.data, .data, .data], laidTests := true, laidLooks := .later }
def FnExactCacheGetCardSaid : Prop := Claim7.holds Tryz.pinned (.plain (OpenSpec.ofChange fnExactCacheGetSpec)) fnExactCacheGetCard

/-- THE TIED CARD OF 'laws.FnExactShip'. -/
def fnExactShipCard : Claim7 := { stood := { row := fnExactShipRow, standIns := [], harness := (true, "0b3d6af359a4c4f3c42881632dd818f018f17fc6127a31bfe5c92e2d93c91803"), looks := true }, kinds := [], alts := [], laidByText := true, laidKinds := [.data, .data, .data], laidTests := true, laidLooks := .later }
def FnExactShipCardSaid : Prop := Claim7.holds Tryz.pinned (.plain (OpenSpec.ofChange fnExactShipSpec)) fnExactShipCard

/-- THE TIED CARD OF 'laws.FnExactSound'. -/
def fnExactSoundCard : Claim7 := { stood := { row := fnExactSoundRow, standIns := [], harness := (true, "0b3d6af359a4c4f3c42881632dd818f018f17fc6127a31bfe5c92e2d93c91803"), looks := true }, kinds := [], alts := [], laidByText := true, laidKinds := [.data, .data, .data, .sentinel, .sentinel], laidTests := true, laidLooks := .later }
def FnExactSoundCardSaid : Prop := Claim7.holds Tryz.pinned (.plain (OpenSpec.ofChange fnExactSoundSpec)) fnExactSoundCard

/-- THE TIED CARD OF 'laws.FnExactCheck'. -/
def fnExactCheckCard : Claim7 := { stood := { row := fnExactCheckRow, standIns := [], harness := (true, "0b3d6af359a4c4f3c42881632dd818f018f17fc6127a31bfe5c92e2d93c91803"), looks := true }, kinds := [], alts := [], laidByText := true, laidKinds := [.data, .data, .data, .sentinel, .sentinel], laidTests := true, laidLooks := .later }
def FnExactCheckCardSaid : Prop := Claim7.holds Tryz.pinned (.plain (OpenSpec.ofChange fnExactCheckSpec)) fnExactCheckCard

/-- THE SECOND FORM's CARD OF 'laws.FnExactMergeGain'. -/
def fnExactMergeGainUptoCard : Claim7 := { stood := { row := fnExactMergeGainUptoRow, standIns := [], harness := (true, "0b3d6af359a4c4f3c42881632dd818f018f17fc6127a31bfe5c92e2d93c91803"), looks := true }, kinds := [], alts := [], laidByText := true, laidKinds := [.data, .data, .data], laidTests := true, laidLooks := .later }
def FnExactMergeGainUptoCardSaid : Prop := Claim7.holds Tryz.pinned (.plain (OpenSpec.upto fnExactMergeGainSpec)) fnExactMergeGainUptoCard

/-- THE SECOND FORM's CARD OF 'laws.FnExactNeedsMerge'. -/
def fnExactNeedsMergeUptoCard : Claim7 := { stood := { row := fnExactNeedsMergeUptoRow, standIns := [], harness := (true, "0b3d6af359a4c4f3c42881632dd818f018f17fc6127a31bfe5c92e2d93c91803"), looks := true }, kinds := [], alts := [], laidByText := true, laidKinds := [.data, .data, .data], laidTests := true, laidLooks := .later }
def FnExactNeedsMergeUptoCardSaid : Prop := Claim7.holds Tryz.pinned (.plain (OpenSpec.upto fnExactNeedsMergeSpec)) fnExactNeedsMergeUptoCard

/-- THE SECOND FORM's CARD OF 'laws.FnExactCacheGet'. -/
def fnExactCacheGetUptoCard : Claim7 := { stood := { row := fnExactCacheGetUptoRow, standIns := [], harness := (true, "0b3d6af359a4c4f3c42881632dd818f018f17fc6127a31bfe5c92e2d93c91803"), looks := true }, kinds := [], alts := [], laidByText := true, laidKinds := [.data, .data, .data], laidTests := true, laidLooks := .later }
def FnExactCacheGetUptoCardSaid : Prop := Claim7.holds Tryz.pinned (.plain (OpenSpec.upto fnExactCacheGetSpec)) fnExactCacheGetUptoCard

/-- THE SECOND FORM's CARD OF 'laws.FnExactShip'. -/
def fnExactShipUptoCard : Claim7 := { stood := { row := fnExactShipUptoRow, standIns := [], harness := (true, "0b3d6af359a4c4f3c42881632dd818f018f17fc6127a31bfe5c92e2d93c91803"), looks := true }, kinds := [], alts := [], laidByText := true, laidKinds := [.data, .data, .data], laidTests := true, laidLooks := .later }
def FnExactShipUptoCardSaid : Prop := Claim7.holds Tryz.pinned (.plain (OpenSpec.upto fnExactShipSpec)) fnExactShipUptoCard

/-- THE SECOND FORM's CARD OF 'laws.FnExactSound'. -/
def fnExactSoundUptoCard : Claim7 := { stood := { row := fnExactSoundUptoRow, standIns := [], harness := (true, "0b3d6af359a4c4f3c42881632dd818f018f17fc6127a31bfe5c92e2d93c91803"), looks := true }, kinds := [], alts := [], laidByText := true, laidKinds := [.data, .data, .data, .sentinel, .sentinel], laidTests := true, laidLooks := .later }
def FnExactSoundUptoCardSaid : Prop := Claim7.holds Tryz.pinned (.plain (OpenSpec.upto fnExactSoundSpec)) fnExactSoundUptoCard

/-- THE SECOND FORM's CARD OF 'laws.FnExactCheck'. -/
def fnExactCheckUptoCard : Claim7 := { stood := { row := fnExactCheckUptoRow, standIns := [], harness := (true, "0b3d6af359a4c4f3c42881632dd818f018f17fc6127a31bfe5c92e2d93c91803"), looks := true }, kinds := [], alts := [], laidByText := true, laidKinds := [.data, .data, .data, .sentinel, .sentinel], laidTests := true, laidLooks := .later }
def FnExactCheckUptoCardSaid : Prop := Claim7.holds Tryz.pinned (.plain (OpenSpec.upto fnExactCheckSpec)) fnExactCheckUptoCard
end Rows
end Go.Proofs.YtgcahahklmfleaaGreatDoor

/-
  DERIVED. GIVEN WITH THE SEED: THE CARDS: each row of YtaepllhjnbencaaGreatDoorRows.lean that lists a variable, with what it lists TIED to the program's text (the seventh form; the later family's looks); each row that meets fmt, with fmt's text TOLD by the authors' own Lean function (tested against real Go, not proved from fmt's source: count such statements apart). THE CARD IS WHAT COUNTS. Prove the row's statement (the work); the ties are given (YtaepllhjnbencaaGreatDoorTie.lean); close each card by the builder's one call (the guide's Derived/Test/ToyasCard.lean, 'card_holds'). Laid BY PROGRAM, IN A SANDBOX (cutbox-door.mjs). By AI agents, Wed Nov 11 2026. No macro, syntax, notation, axiom, sorry.
-/
import Derived.Test.YtaepllhjnbencaaGreatDoorRows
import GoSem.ClaimSeven
namespace Go.Proofs.YtaepllhjnbencaaGreatDoor
namespace Rows

/-- THE TIED CARD OF 'mullionlaw08.DeltaValid'. -/
def deltaValidCard : Claim7 := { stood := { row := deltaValidRow, standIns := [], harness := (true, "ad8cd4c09424094a3615b48f8632e881ac0b43f0aa9a68e86d15dd1b127f1af4"), looks := true }, kinds := [], alts := [], laidByText := true, laidKinds := [.data, .data, .data, .sentinel, .sentinel], laidTests := true, laidLooks := .later }
def DeltaValidCardSaid : Prop := Claim7.holds Tryz.pinned (.plain (OpenSpec.ofChange deltaValidSpec)) deltaValidCard

/-- THE TIED CARD OF 'mullionlaw08.DeltaDiffs'. -/
def deltaDiffsCard : Claim7 := { stood := { row := deltaDiffsRow, standIns := [], harness := (true, "ad8cd4c09424094a3615b48f8632e881ac0b43f0aa9a68e86d15dd1b127f1af4"), looks := true }, kinds := [], alts := [], laidByText := true, laidKinds := [.data, .data, .data, .sentinel, .sentinel], laidTests := true, laidLooks := .later }
def DeltaDiffsCardSaid : Prop := Claim7.holds Tryz.pinned (.plain (OpenSpec.ofChange deltaDiffsSpec)) deltaDiffsCard

/-- THE TIED CARD OF 'mullionlaw08.DeltaApplies'. -/
def deltaAppliesCard : Claim7 := { stood := { row := deltaAppliesRow, standIns := [], harness := (true, "ad8cd4c09424094a3615b48f8632e881ac0b43f0aa9a68e86d15dd1b127f1af4"), looks := true }, kinds := [], alts := [], laidByText := true, laidKinds := [.data, .data, .data, .sentinel, .sentinel], laidTests := true, laidLooks := .later }
def DeltaAppliesCardSaid : Prop := Claim7.holds Tryz.pinned (.plain (OpenSpec.ofChange deltaAppliesSpec)) deltaAppliesCard

/-- THE TIED CARD OF 'mullionlaw08.DeltaWays'. -/
def deltaWaysCard : Claim7 := { stood := { row := deltaWaysRow, standIns := [], harness := (true, "ad8cd4c09424094a3615b48f8632e881ac0b43f0aa9a68e86d15dd1b127f1af4"), looks := true }, kinds := [], alts := [], laidByText := true, laidKinds := [.data, .data, .data, .sentinel, .sentinel], laidTests := true, laidLooks := .later }
def DeltaWaysCardSaid : Prop := Claim7.holds Tryz.pinned (.plain (OpenSpec.ofChange deltaWaysSpec)) deltaWaysCard

/-- THE TIED CARD OF 'mullionlaw08.DeltaPlain'. -/
def deltaPlainCard : Claim7 := { stood := { row := deltaPlainRow, standIns := [], harness := (true, "ad8cd4c09424094a3615b48f8632e881ac0b43f0aa9a68e86d15dd1b127f1af4"), looks := true }, kinds := [], alts := [], laidByText := true, laidKinds := [.data, .data, .data, .sentinel, .sentinel], laidTests := true, laidLooks := .later }
def DeltaPlainCardSaid : Prop := Claim7.holds Tryz.pinned (.plain (OpenSpec.ofChange deltaPlainSpec)) deltaPlainCard

/-- THE TIED CARD OF 'mullionlaw08.DeltaThere'. -/
def deltaThereCard : Claim7 := { stood := { row := deltaThereRow, standIns := [], harness := (true, "ad8cd4c09424094a3615b48f8632e881ac0b43f0aa9a68e86d15dd1b127f1af4"), looks := true }, kinds := [], alts := [], laidByText := true, laidKinds := [.data, .data, .data, .sentinel, .sentinel], laidTests := true, laidLooks := .later }
def DeltaThereCardSaid : Prop := Claim7.holds Tryz.pinned (.plain (OpenSpec.ofChange deltaThereSpec)) deltaThereCard

/-- THE TIED CARD OF 'mullionlaw08.DeltaNothing'. -/
def deltaNothingCard : Claim7 := { stood := { row := deltaNothingRow, standIns := [], harness := (true, "ad8cd4c09424094a3615b48f8632e881ac0b43f0aa9a68e86d15dd1b127f1af4"), looks := true }, kinds := [], alts := [], laidByText := true, laidKinds := [.data, .data, .data, .sentinel, .sentinel], laidTests := true, laidLooks := .later }
def DeltaNothingCardSaid : Prop := Claim7.holds Tryz.pinned (.plain (OpenSpec.ofChange deltaNothingSpec)) deltaNothingCard

/-- THE TIED CARD OF 'mullionlaw08.DeltaByWay'. -/
def deltaByWayCard : Claim7 := { stood := { row := deltaByWayRow, standIns := [], harness := (true, "ad8cd4c09424094a3615b48f8632e881ac0b43f0aa9a68e86d15dd1b127f1af4"), looks := true }, kinds := [], alts := [], laidByText := true, laidKinds := [.data, .data, .data, .sentinel, .sentinel], laidTests := true, laidLooks := .later }
def DeltaByWayCardSaid : Prop := Claim7.holds Tryz.pinned (.plain (OpenSpec.ofChange deltaByWaySpec)) deltaByWayCard

/-- THE TIED CARD OF 'mullionlaw08.DeltaLines'. -/
def deltaLinesCard : Claim7 := { stood := { row := deltaLinesRow, standIns := [], harness := (true, "ad8cd4c09424094a3615b48f8632e881ac0b43f0aa9a68e86d15dd1b127f1af4"), looks := true }, kinds := [], alts := [], laidByText := true, laidKinds := [.data, .data, .data, .sentinel, .sentinel], laidTests := true, laidLooks := .later }
def DeltaLinesCardSaid : Prop := Claim7.holds Tryz.pinned (.plain (OpenSpec.ofChange deltaLinesSpec)) deltaLinesCard

/-- THE TIED CARD OF 'mullionlaw08.DeltaLeast'. -/
def deltaLeastCard : Claim7 := { stood := { row := deltaLeastRow, standIns := [], harness := (true, "ad8cd4c09424094a3615b48f8632e881ac0b43f0aa9a68e86d15dd1b127f1af4"), looks := true }, kinds := [], alts := [], laidByText := true, laidKinds := [.data, .data, .data, .sentinel, .sentinel], laidTests := true, laidLooks := .later }
def DeltaLeastCardSaid : Prop := Claim7.holds Tryz.pinned (.plain (OpenSpec.ofChange deltaLeastSpec)) deltaLeastCard

/-- THE TIED CARD OF 'mullionlaw08.DeltaOwn'. -/
def deltaOwnCard : Claim7 := { stood := { row := deltaOwnRow, standIns := [], harness := (true, "ad8cd4c09424094a3615b48f8632e881ac0b43f0aa9a68e86d15dd1b127f1af4"), looks := true }, kinds := [], alts := [], laidByText := true, laidKinds := [.data, .data, .data, .sentinel, .sentinel], laidTests := true, laidLooks := .later }
def DeltaOwnCardSaid : Prop := Claim7.holds Tryz.pinned (.plain (OpenSpec.ofChange deltaOwnSpec)) deltaOwnCard

/-- THE SECOND FORM's CARD OF 'mullionlaw08.DeltaValid'. -/
def deltaValidUptoCard : Claim7 := { stood := { row := deltaValidUptoRow, standIns := [], harness := (true, "ad8cd4c09424094a3615b48f8632e881ac0b43f0aa9a68e86d15dd1b127f1af4"), looks := true }, kinds := [], alts := [], laidByText := true, laidKinds := [.data, .data, .data, .sentinel, .sentinel], laidTests := true, laidLooks := .later }
def DeltaValidUptoCardSaid : Prop := Claim7.holds Tryz.pinned (.plain (OpenSpec.upto deltaValidSpec)) deltaValidUptoCard

/-- THE SECOND FORM's CARD OF 'mullionlaw08.DeltaDiffs'. -/
def deltaDiffsUptoCard : Claim7 := { stood := { row := deltaDiffsUptoRow, standIns := [], harness := (true, "ad8cd4c09424094a3615b48f8632e881ac0b43f0aa9a68e86d15dd1b127f1af4"), looks := true }, kinds := [], alts := [], laidByText := true, laidKinds := [.data, .data, .data, .sentinel, .sentinel], laidTests := true, laidLooks := .later }
def DeltaDiffsUptoCardSaid : Prop := Claim7.holds Tryz.pinned (.plain (OpenSpec.upto deltaDiffsSpec)) deltaDiffsUptoCard

/-- THE SECOND FORM's CARD OF 'mullionlaw08.DeltaApplies'. -/
def deltaAppliesUptoCard : Claim7 := { stood := { row := deltaAppliesUptoRow, standIns := [], harness := (true, "ad8cd4c09424094a3615b48f8632e881ac0b43f0aa9a68e86d15dd1b127f1af4"), looks := true }, kinds := [], alts := [], laidByText := true, laidKinds := [.data, .data, .data, .sentinel, .sentinel], laidTests := true, laidLooks := .later }
def DeltaAppliesUptoCardSaid : Prop := Claim7.holds Tryz.pinned (.plain (OpenSpec.upto deltaAppliesSpec)) deltaAppliesUptoCard

/-- THE SECOND FORM's CARD OF 'mullionlaw08.DeltaWays'. -/
def deltaWaysUptoCard : Claim7 := { stood := { row := deltaWaysUptoRow, standIns := [], harness := (true, "ad8cd4c09424094a3615b48f8632e881ac0b43f0aa9a68e86d15dd1b127f1af4"), looks := true }, kinds := [], alts := [], laidByText := true, laidKinds := [.data, .data, .data, .sentinel, .sentinel], laidTests := true, laidLooks := .later }
def DeltaWaysUptoCardSaid : Prop := Claim7.holds Tryz.pinned (.plain (OpenSpec.upto deltaWaysSpec)) deltaWaysUptoCard

/-- THE SECOND FORM's CARD OF 'mullionlaw08.DeltaPlain'. -/
def deltaPlainUptoCard : Claim7 := { stood := { row := deltaPlainUptoRow, standIns := [], harness := (true, "ad8cd4c09424094a3615b48f8632e881ac0b43f0aa9a68e86d15dd1b127f1af4"), looks := true }, kinds := [], alts := [], laidByText := true, laidKinds := [.data, .data, .data, .sentinel, .sentinel], laidTests := true, laidLooks := .later }
def DeltaPlainUptoCardSaid : Prop := Claim7.holds Tryz.pinned (.plain (OpenSpec.upto deltaPlainSpec)) deltaPlainUptoCard

/-- THE SECOND FORM's CARD OF 'mullionlaw08.DeltaThere'. -/
def deltaThereUptoCard : Claim7 := { stood := { row := deltaThereUptoRow, standIns := [], harness := (true, "ad8cd4c09424094a3615b48f8632e881ac0b43f0aa9a68e86d15dd1b127f1af4"), looks := true }, kinds := [], alts := [], laidByText := true, laidKinds := [.data, .data, .data, .sentinel, .sentinel], laidTests := true, laidLooks := .later }
def DeltaThereUptoCardSaid : Prop := Claim7.holds Tryz.pinned (.plain (OpenSpec.upto deltaThereSpec)) deltaThereUptoCard

/-- THE SECOND FORM's CARD OF 'mullionlaw08.DeltaNothing'. -/
def deltaNothingUptoCard : Claim7 := { stood := { row := deltaNothingUptoRow, standIns := [], harness := (true, "ad8cd4c09424094a3615b48f8632e881ac0b43f0aa9a68e86d15dd1b127f1af4"), looks := true }, kinds := [], alts := [], laidByText := true, laidKinds := [.data, .data, .data, .sentinel, .sentinel], laidTests := true, laidLooks := .later }
def DeltaNothingUptoCardSaid : Prop := Claim7.holds Tryz.pinned (.plain (OpenSpec.upto deltaNothingSpec)) deltaNothingUptoCard

/-- THE SECOND FORM's CARD OF 'mullionlaw08.DeltaByWay'. -/
def deltaByWayUptoCard : Claim7 := { stood := { row := deltaByWayUptoRow, standIns := [], harness := (true, "ad8cd4c09424094a3615b48f8632e881ac0b43f0aa9a68e86d15dd1b127f1af4"), looks := true }, kinds := [], alts := [], laidByText := true, laidKinds := [.data, .data, .data, .sentinel, .sentinel], laidTests := true, laidLooks := .later }
def DeltaByWayUptoCardSaid : Prop := Claim7.holds Tryz.pinned (.plain (OpenSpec.upto deltaByWaySpec)) deltaByWayUptoCard

/-- THE SECOND FORM's CARD OF 'mullionlaw08.DeltaLines'. -/
def deltaLinesUptoCard : Claim7 := { stood := { row := deltaLinesUptoRow, standIns := [], harness := (true, "ad8cd4c09424094a3615b48f8632e881ac0b43f0aa9a68e86d15dd1b127f1af4"), looks := true }, kinds := [], alts := [], laidByText := true, laidKinds := [.data, .data, .data, .sentinel, .sentinel], laidTests := true, laidLooks := .later }
def DeltaLinesUptoCardSaid : Prop := Claim7.holds Tryz.pinned (.plain (OpenSpec.upto deltaLinesSpec)) deltaLinesUptoCard

/-- THE SECOND FORM's CARD OF 'mullionlaw08.DeltaLeast'. -/
def deltaLeastUptoCard : Claim7 := { stood := { row := deltaLeastUptoRow, standIns := [], harness := (true, "ad8cd4c09424094a3615b48f8632e881ac0b43f0aa9a68e86d15dd1b127f1af4"), looks := true }, kinds := [], alts := [], laidByText := true, laidKinds := [.data, .data, .data, .sentinel, .sentinel], laidTests := true, laidLooks := .later }
def DeltaLeastUptoCardSaid : Prop := Claim7.holds Tryz.pinned (.plain (OpenSpec.upto deltaLeastSpec)) deltaLeastUptoCard

/-- THE SECOND FORM's CARD OF 'mullionlaw08.DeltaOwn'. -/
def deltaOwnUptoCard : Claim7 := { stood := { row := deltaOwnUptoRow, standIns := [], harness := (true, "ad8cd4c09424094a3615b48f8632e881ac0b43f0aa9a68e86d15dd1b127f1af4"), looks := true }, kinds := [], alts := [], laidByText := true, laidKinds := [.data, .data, .data, .sentinel, .sentinel], laidTests := true, laidLooks := .later }
def DeltaOwnUptoCardSaid : Prop := Claim7.holds Tryz.pinned (.plain (OpenSpec.upto deltaOwnSpec)) deltaOwnUptoCard
end Rows
end Go.Proofs.YtaepllhjnbencaaGreatDoor

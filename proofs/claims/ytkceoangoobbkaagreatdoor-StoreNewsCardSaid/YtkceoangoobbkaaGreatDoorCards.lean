/-
  DERIVED. GIVEN WITH THE SEED: THE CARDS: each row of YtkceoangoobbkaaGreatDoorRows.lean that lists a variable, with what it lists TIED to the program's text (the seventh form; the later family's looks); each row that meets fmt, with fmt's text TOLD by the authors' own Lean function (tested against real Go, not proved from fmt's source: count such statements apart). THE CARD IS WHAT COUNTS. Prove the row's statement (the work); the ties are given (YtkceoangoobbkaaGreatDoorTie.lean); close each card by the builder's one call (the guide's Derived/Test/ToyasCard.lean, 'card_holds'). Laid BY PROGRAM, IN A SANDBOX (cutbox-door.mjs). By AI agents, Wed Nov 11 2026. No macro, syntax, notation, axiom, sorry.
-/
import Derived.Test.YtkceoangoobbkaaGreatDoorRows
import GoSem.ClaimSeven
namespace Go.Proofs.YtkceoangoobbkaaGreatDoor
namespace Rows

/-- THE TIED CARD OF 'mullionlaw07.StoreNews'. -/
def storeNewsCard : Claim7 := { stood := { row := storeNewsRow, standIns := [], harness := (true, "82557aa896a3b783ce06db86afedcbce04516eb0b0bea7f25277bea0b2542b3b"), looks := true }, kinds := [], alts := [], laidByText := true, laidKinds := [.data, .data, .data], laidTests := true, laidLooks := .later }
def StoreNewsCardSaid : Prop := Claim7.holds Tryz.pinned (.plain (OpenSpec.ofChange storeNewsSpec)) storeNewsCard

/-- THE SECOND FORM's CARD OF 'mullionlaw07.StoreNews'. -/
def storeNewsUptoCard : Claim7 := { stood := { row := storeNewsUptoRow, standIns := [], harness := (true, "82557aa896a3b783ce06db86afedcbce04516eb0b0bea7f25277bea0b2542b3b"), looks := true }, kinds := [], alts := [], laidByText := true, laidKinds := [.data, .data, .data], laidTests := true, laidLooks := .later }
def StoreNewsUptoCardSaid : Prop := Claim7.holds Tryz.pinned (.plain (OpenSpec.upto storeNewsSpec)) storeNewsUptoCard
end Rows
end Go.Proofs.YtkceoangoobbkaaGreatDoor

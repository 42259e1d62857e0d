/-
  DERIVED. GIVEN WITH THE SEED: THE CARDS: each row of YtmeeifechggoeaaGreatDoorRows.lean that lists a variable, with what it lists TIED to the program's text (the seventh form; the later family's looks); each row that meets fmt, with fmt's text TOLD by the authors' own Lean function (tested against real Go, not proved from fmt's source: count such statements apart). THE CARD IS WHAT COUNTS. Prove the row's statement (the work); the ties are given (YtmeeifechggoeaaGreatDoorTie.lean); close each card by the builder's one call (the guide's Derived/Test/ToyasCard.lean, 'card_holds'). Laid BY PROGRAM, IN A SANDBOX (cutbox-door.mjs). By AI agents, Wed Nov 11 2026. No macro, syntax, notation, axiom, sorry.
-/
import Derived.Test.YtmeeifechggoeaaGreatDoorRows
import GoSem.ClaimSeven
namespace Go.Proofs.YtmeeifechggoeaaGreatDoor
namespace Rows

/-- THE TIED CARD OF 'tidelaw14.ShelfBuyers'. -/
def shelfBuyersCard : Claim7 := { stood := { row := shelfBuyersRow, standIns := [], harness := (true, "925a30f35bd66d949dc48122c320e3152bc5761d029cef41003a41ad12574fd3"), looks := true }, kinds := [], alts := [], laidByText := true, laidKinds := [.data, .data, .data, .sentinel, .sentinel, .listed, .data], laidTests := true, laidLooks := .later }
def ShelfBuyersCardSaid : Prop := Claim7.holds Tryz.pinned (.plain (OpenSpec.ofChange shelfBuyersSpec)) shelfBuyersCard

/-- THE SECOND FORM's CARD OF 'tidelaw14.ShelfBuyers'. -/
def shelfBuyersUptoCard : Claim7 := { stood := { row := shelfBuyersUptoRow, standIns := [], harness := (true, "925a30f35bd66d949dc48122c320e3152bc5761d029cef41003a41ad12574fd3"), looks := true }, kinds := [], alts := [], laidByText := true, laidKinds := [.data, .data, .data, .sentinel, .sentinel, .listed, .data], laidTests := true, laidLooks := .later }
def ShelfBuyersUptoCardSaid : Prop := Claim7.holds Tryz.pinned (.plain (OpenSpec.upto shelfBuyersSpec)) shelfBuyersUptoCard
end Rows
end Go.Proofs.YtmeeifechggoeaaGreatDoor

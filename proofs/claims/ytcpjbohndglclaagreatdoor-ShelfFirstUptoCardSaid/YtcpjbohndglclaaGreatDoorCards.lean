/-
  DERIVED. GIVEN WITH THE SEED: THE CARDS: each row of YtcpjbohndglclaaGreatDoorRows.lean that lists a variable, with what it lists TIED to the program's text (the seventh form; the later family's looks); each row that meets fmt, with fmt's text TOLD by the authors' own Lean function (tested against real Go, not proved from fmt's source: count such statements apart). THE CARD IS WHAT COUNTS. Prove the row's statement (the work); the ties are given (YtcpjbohndglclaaGreatDoorTie.lean); close each card by the builder's one call (the guide's Derived/Test/ToyasCard.lean, 'card_holds'). Laid BY PROGRAM, IN A SANDBOX (cutbox-door.mjs). By AI agents, Wed Nov 11 2026. No macro, syntax, notation, axiom, sorry.
-/
import Derived.Test.YtcpjbohndglclaaGreatDoorRows
import GoSem.ClaimSeven
namespace Go.Proofs.YtcpjbohndglclaaGreatDoor
namespace Rows

/-- THE TIED CARD OF 'tidelaw14.ShelfFirst'. -/
def shelfFirstCard : Claim7 := { stood := { row := shelfFirstRow, standIns := [], harness := (true, "4d2a7b17a5b161776eabdedbd2ff2858b98b260d99fb8b884a092a8aad7f7158"), looks := true }, kinds := [], alts := [], laidByText := true, laidKinds := [.data, .data, .data, .sentinel, .sentinel, .listed, .data], laidTests := true, laidLooks := .later }
def ShelfFirstCardSaid : Prop := Claim7.holds Tryz.pinned (.plain (OpenSpec.ofChange shelfFirstSpec)) shelfFirstCard

/-- THE SECOND FORM's CARD OF 'tidelaw14.ShelfFirst'. -/
def shelfFirstUptoCard : Claim7 := { stood := { row := shelfFirstUptoRow, standIns := [], harness := (true, "4d2a7b17a5b161776eabdedbd2ff2858b98b260d99fb8b884a092a8aad7f7158"), looks := true }, kinds := [], alts := [], laidByText := true, laidKinds := [.data, .data, .data, .sentinel, .sentinel, .listed, .data], laidTests := true, laidLooks := .later }
def ShelfFirstUptoCardSaid : Prop := Claim7.holds Tryz.pinned (.plain (OpenSpec.upto shelfFirstSpec)) shelfFirstUptoCard
end Rows
end Go.Proofs.YtcpjbohndglclaaGreatDoor

/-
  DERIVED. GIVEN WITH THE SEED: THE CARDS: each row of YtmccpbcbofhmlaaGreatDoorRows.lean that lists a variable, with what it lists TIED to the program's text (the seventh form; the later family's looks); each row that meets fmt, with fmt's text TOLD by the authors' own Lean function (tested against real Go, not proved from fmt's source: count such statements apart). THE CARD IS WHAT COUNTS. Prove the row's statement (the work); the ties are given (YtmccpbcbofhmlaaGreatDoorTie.lean); close each card by the builder's one call (the guide's Derived/Test/ToyasCard.lean, 'card_holds'). Laid BY PROGRAM, IN A SANDBOX (cutbox-door.mjs). By AI agents, Wed Nov 11 2026. No macro, syntax, notation, axiom, sorry.
-/
import Derived.Test.YtmccpbcbofhmlaaGreatDoorRows
import GoSem.ClaimSeven
namespace Go.Proofs.YtmccpbcbofhmlaaGreatDoor
namespace Rows

/-- THE TIED CARD OF 'tidelaw12.BindTells'. -/
def bindTellsCard : Claim7 := { stood := { row := bindTellsRow, standIns := [], harness := (true, "e3918da0e6aec8fb01f48df96218039012d9948c0b66d117d8ab21ee81ee1906"), looks := true }, kinds := [], alts := [], laidByText := true, laidKinds := [.data, .data, .data], laidTests := true, laidLooks := .later }
def BindTellsCardSaid : Prop := Claim7.holds Tryz.pinned (.plain (OpenSpec.ofChange bindTellsSpec)) bindTellsCard

/-- THE TIED CARD OF 'tidelaw12.BindTyped'. -/
def bindTypedCard : Claim7 := { stood := { row := bindTypedRow, standIns := [], harness := (true, "e3918da0e6aec8fb01f48df96218039012d9948c0b66d117d8ab21ee81ee1906"), looks := true }, kinds := [], alts := [], laidByText := true, laidKinds := [.data, .data, .data, .sentinel, .sentinel, .listed, .data], laidTests := true, laidLooks := .later }
def BindTypedCardSaid : Prop := Claim7.holds Tryz.pinned (.plain (OpenSpec.ofChange bindTypedSpec)) bindTypedCard

/-- THE TIED CARD OF 'tidelaw12.BindWritten'. -/
def bindWrittenCard : Claim7 := { stood := { row := bindWrittenRow, standIns := [], harness := (true, "e3918da0e6aec8fb01f48df96218039012d9948c0b66d117d8ab21ee81ee1906"), looks := true }, kinds := [], alts := [], laidByText := true, laidKinds := [.data, .data, .data, .data, .sentinel, .sentinel, .listed, .data, .pinned], laidTests := true, laidLooks := .later }
def BindWrittenCardSaid : Prop := Claim7.holds Tryz.pinned (.plain (OpenSpec.ofChange bindWrittenSpec)) bindWrittenCard

/-- THE TIED CARD OF 'tidelaw12.BindViews'. -/
def bindViewsCard : Claim7 := { stood := { row := bindViewsRow, standIns := [], harness := (true, "e3918da0e6aec8fb01f48df96218039012d9948c0b66d117d8ab21ee81ee1906"), looks := true }, kinds := [], alts := [], laidByText := true, laidKinds := [.data, .data, .data, .sentinel, .sentinel, .listed, .data], laidTests := true, laidLooks := .later }
def BindViewsCardSaid : Prop := Claim7.holds Tryz.pinned (.plain (OpenSpec.ofChange bindViewsSpec)) bindViewsCard

/-- THE SECOND FORM's CARD OF 'tidelaw12.BindTells'. -/
def bindTellsUptoCard : Claim7 := { stood := { row := bindTellsUptoRow, standIns := [], harness := (true, "e3918da0e6aec8fb01f48df96218039012d9948c0b66d117d8ab21ee81ee1906"), looks := true }, kinds := [], alts := [], laidByText := true, laidKinds := [.data, .data, .data], laidTests := true, laidLooks := .later }
def BindTellsUptoCardSaid : Prop := Claim7.holds Tryz.pinned (.plain (OpenSpec.upto bindTellsSpec)) bindTellsUptoCard

/-- THE SECOND FORM's CARD OF 'tidelaw12.BindTyped'. -/
def bindTypedUptoCard : Claim7 := { stood := { row := bindTypedUptoRow, standIns := [], harness := (true, "e3918da0e6aec8fb01f48df96218039012d9948c0b66d117d8ab21ee81ee1906"), looks := true }, kinds := [], alts := [], laidByText := true, laidKinds := [.data, .data, .data, .sentinel, .sentinel, .listed, .data], laidTests := true, laidLooks := .later }
def BindTypedUptoCardSaid : Prop := Claim7.holds Tryz.pinned (.plain (OpenSpec.upto bindTypedSpec)) bindTypedUptoCard

/-- THE SECOND FORM's CARD OF 'tidelaw12.BindWritten'. -/
def bindWrittenUptoCard : Claim7 := { stood := { row := bindWrittenUptoRow, standIns := [], harness := (true, "e3918da0e6aec8fb01f48df96218039012d9948c0b66d117d8ab21ee81ee1906"), looks := true }, kinds := [], alts := [], laidByText := true, laidKinds := [.data, .data, .data, .data, .sentinel, .sentinel, .listed, .data, .pinned], laidTests := true, laidLooks := .later }
def BindWrittenUptoCardSaid : Prop := Claim7.holds Tryz.pinned (.plain (OpenSpec.upto bindWrittenSpec)) bindWrittenUptoCard

/-- THE SECOND FORM's CARD OF 'tidelaw12.BindViews'. -/
def bindViewsUptoCard : Claim7 := { stood := { row := bindViewsUptoRow, standIns := [], harness := (true, "e3918da0e6aec8fb01f48df96218039012d9948c0b66d117d8ab21ee81ee1906"), looks := true }, kinds := [], alts := [], laidByText := true, laidKinds := [.data, .data, .data, .sentinel, .sentinel, .listed, .data], laidTests := true, laidLooks := .later }
def BindViewsUptoCardSaid : Prop := Claim7.holds Tryz.pinned (.plain (OpenSpec.upto bindViewsSpec)) bindViewsUptoCard
end Rows
end Go.Proofs.YtmccpbcbofhmlaaGreatDoor

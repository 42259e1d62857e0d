/-
  DERIVED. GIVEN WITH THE SEED: THE CARDS: each row of YtoainkbcfnlkcaaGreatDoorRows.lean that lists a variable, with what it lists TIED to the program's text (the seventh form; the later family's looks); each row that meets fmt, with fmt's text TOLD by the authors' own Lean function (tested against real Go, not proved from fmt's source: count such statements apart). THE CARD IS WHAT COUNTS. Prove the row's statement (the work); the ties are given (YtoainkbcfnlkcaaGreatDoorTie.lean); close each card by the builder's one call (the guide's Derived/Test/ToyasCard.lean, 'card_holds'). Laid BY PROGRAM, IN A SANDBOX (cutbox-door.mjs). By AI agents, Wed Nov 11 2026. No macro, syntax, notation, axiom, sorry.
-/
import Derived.Test.YtoainkbcfnlkcaaGreatDoorRows
import GoSem.ClaimSeven
namespace Go.Proofs.YtoainkbcfnlkcaaGreatDoor
namespace Rows

/-- THE TIED CARD OF 'tidelaw11.SqlReads'. -/
def sqlReadsCard : Claim7 := { stood := { row := sqlReadsRow, standIns := [], harness := (true, "2edbd4808bf2142925a23a6b6a9e287bacf745a96c0a96e55ed91e9198a59fa0"), looks := true }, kinds := [], alts := [], laidByText := true, laidKinds := [.data, .data, .data, .sentinel, .sentinel, .listed, .data], laidTests := true, laidLooks := .later }
def SqlReadsCardSaid : Prop := Claim7.holds Tryz.pinned (.plain (OpenSpec.ofChange sqlReadsSpec)) sqlReadsCard

/-- THE TIED CARD OF 'tidelaw11.SqlJoined'. -/
def sqlJoinedCard : Claim7 := { stood := { row := sqlJoinedRow, standIns := [], harness := (true, "2edbd4808bf2142925a23a6b6a9e287bacf745a96c0a96e55ed91e9198a59fa0"), looks := true }, kinds := [], alts := [], laidByText := true, laidKinds := [.data, .data, .data, .sentinel, .sentinel, .listed, .data], laidTests := true, laidLooks := .later }
def SqlJoinedCardSaid : Prop := Claim7.holds Tryz.pinned (.plain (OpenSpec.ofChange sqlJoinedSpec)) sqlJoinedCard

/-- THE TIED CARD OF 'tidelaw11.SqlTurns'. -/
def sqlTurnsCard : Claim7 := { stood := { row := sqlTurnsRow, standIns := [], harness := (true, "2edbd4808bf2142925a23a6b6a9e287bacf745a96c0a96e55ed91e9198a59fa0"), looks := true }, kinds := [], alts := [], laidByText := true, laidKinds := [.data, .data, .data, .data, .sentinel, .sentinel, .listed, .data, .pinned], laidTests := true, laidLooks := .later }
def SqlTurnsCardSaid : Prop := Claim7.holds Tryz.pinned (.plain (OpenSpec.ofChange sqlTurnsSpec)) sqlTurnsCard

/-- THE TIED CARD OF 'tidelaw16.JournalTells'. -/
def journalTellsCard : Claim7 := { stood := { row := journalTellsRow, standIns := [], harness := (true, "2edbd4808bf2142925a23a6b6a9e287bacf745a96c0a96e55ed91e9198a59fa0"), looks := true }, kinds := [], alts := [], laidByText := true, laidKinds := [.data, .data, .data, .data, .sentinel, .sentinel, .listed, .data, .pinned], laidTests := true, laidLooks := .later }
def JournalTellsCardSaid : Prop := Claim7.holds Tryz.pinned (.plain (OpenSpec.ofChange journalTellsSpec)) journalTellsCard

/-- THE TIED CARD OF 'tidelaw16.JournalTurns'. -/
def journalTurnsCard : Claim7 := { stood := { row := journalTurnsRow, standIns := [], harness := (true, "2edbd4808bf2142925a23a6b6a9e287bacf745a96c0a96e55ed91e9198a59fa0"), looks := true }, kinds := [], alts := [], laidByText := true, laidKinds := [.data, .data, .data, .data, .sentinel, .sentinel, .listed, .data, .pinned], laidTests := true, laidLooks := .later }
def JournalTurnsCardSaid : Prop := Claim7.holds Tryz.pinned (.plain (OpenSpec.ofChange journalTurnsSpec)) journalTurnsCard

/-- THE TIED CARD OF 'tidelaw16.JournalTorn'. -/
def journalTornCard : Claim7 := { stood := { row := journalTornRow, standIns := [], harness := (true, "2edbd4808bf2142925a23a6b6a9e287bacf745a96c0a96e55ed91e9198a59fa0"), looks := true }, kinds := [], alts := [], laidByText := true, laidKinds := [.data, .data, .data, .data, .sentinel, .sentinel, .listed, .data, .pinned], laidTests := true, laidLooks := .later }
def JournalTornCardSaid : Prop := Claim7.holds Tryz.pinned (.plain (OpenSpec.ofChange journalTornSpec)) journalTornCard

/-- THE TIED CARD OF 'tidelaw16.JournalGuards'. -/
def journalGuardsCard : Claim7 := { stood := { row := journalGuardsRow, standIns := [], harness := (true, "2edbd4808bf2142925a23a6b6a9e287bacf745a96c0a96e55ed91e9198a59fa0"), looks := true }, kinds := [], alts := [], laidByText := true, laidKinds := [.data, .data, .data, .data, .sentinel, .sentinel, .listed, .data, .pinned], laidTests := true, laidLooks := .later }
def JournalGuardsCardSaid : Prop := Claim7.holds Tryz.pinned (.plain (OpenSpec.ofChange journalGuardsSpec)) journalGuardsCard

/-- THE TIED CARD OF 'tidelaw16.JournalJoined'. -/
def journalJoinedCard : Claim7 := { stood := { row := journalJoinedRow, standIns := [], harness := (true, "2edbd4808bf2142925a23a6b6a9e287bacf745a96c0a96e55ed91e9198a59fa0"), looks := true }, kinds := [], alts := [], laidByText := true, laidKinds := [.data, .data, .data, .data, .sentinel, .sentinel, .listed, .data, .pinned], laidTests := true, laidLooks := .later }
def JournalJoinedCardSaid : Prop := Claim7.holds Tryz.pinned (.plain (OpenSpec.ofChange journalJoinedSpec)) journalJoinedCard

/-- THE SECOND FORM's CARD OF 'tidelaw11.SqlReads'. -/
def sqlReadsUptoCard : Claim7 := { stood := { row := sqlReadsUptoRow, standIns := [], harness := (true, "2edbd4808bf2142925a23a6b6a9e287bacf745a96c0a96e55ed91e9198a59fa0"), looks := true }, kinds := [], alts := [], laidByText := true, laidKinds := [.data, .data, .data, .sentinel, .sentinel, .listed, .data], laidTests := true, laidLooks := .later }
def SqlReadsUptoCardSaid : Prop := Claim7.holds Tryz.pinned (.plain (OpenSpec.upto sqlReadsSpec)) sqlReadsUptoCard

/-- THE SECOND FORM's CARD OF 'tidelaw11.SqlJoined'. -/
def sqlJoinedUptoCard : Claim7 := { stood := { row := sqlJoinedUptoRow, standIns := [], harness := (true, "2edbd4808bf2142925a23a6b6a9e287bacf745a96c0a96e55ed91e9198a59fa0"), looks := true }, kinds := [], alts := [], laidByText := true, laidKinds := [.data, .data, .data, .sentinel, .sentinel, .listed, .data], laidTests := true, laidLooks := .later }
def SqlJoinedUptoCardSaid : Prop := Claim7.holds Tryz.pinned (.plain (OpenSpec.upto sqlJoinedSpec)) sqlJoinedUptoCard

/-- THE SECOND FORM's CARD OF 'tidelaw11.SqlTurns'. -/
def sqlTurnsUptoCard : Claim7 := { stood := { row := sqlTurnsUptoRow, standIns := [], harness := (true, "2edbd4808bf2142925a23a6b6a9e287bacf745a96c0a96e55ed91e9198a59fa0"), looks := true }, kinds := [], alts := [], laidByText := true, laidKinds := [.data, .data, .data, .data, .sentinel, .sentinel, .listed, .data, .pinned], laidTests := true, laidLooks := .later }
def SqlTurnsUptoCardSaid : Prop := Claim7.holds Tryz.pinned (.plain (OpenSpec.upto sqlTurnsSpec)) sqlTurnsUptoCard

/-- THE SECOND FORM's CARD OF 'tidelaw16.JournalTells'. -/
def journalTellsUptoCard : Claim7 := { stood := { row := journalTellsUptoRow, standIns := [], harness := (true, "2edbd4808bf2142925a23a6b6a9e287bacf745a96c0a96e55ed91e9198a59fa0"), looks := true }, kinds := [], alts := [], laidByText := true, laidKinds := [.data, .data, .data, .data, .sentinel, .sentinel, .listed, .data, .pinned], laidTests := true, laidLooks := .later }
def JournalTellsUptoCardSaid : Prop := Claim7.holds Tryz.pinned (.plain (OpenSpec.upto journalTellsSpec)) journalTellsUptoCard

/-- THE SECOND FORM's CARD OF 'tidelaw16.JournalTurns'. -/
def journalTurnsUptoCard : Claim7 := { stood := { row := journalTurnsUptoRow, standIns := [], harness := (true, "2edbd4808bf2142925a23a6b6a9e287bacf745a96c0a96e55ed91e9198a59fa0"), looks := true }, kinds := [], alts := [], laidByText := true, laidKinds := [.data, .data, .data, .data, .sentinel, .sentinel, .listed, .data, .pinned], laidTests := true, laidLooks := .later }
def JournalTurnsUptoCardSaid : Prop := Claim7.holds Tryz.pinned (.plain (OpenSpec.upto journalTurnsSpec)) journalTurnsUptoCard

/-- THE SECOND FORM's CARD OF 'tidelaw16.JournalTorn'. -/
def journalTornUptoCard : Claim7 := { stood := { row := journalTornUptoRow, standIns := [], harness := (true, "2edbd4808bf2142925a23a6b6a9e287bacf745a96c0a96e55ed91e9198a59fa0"), looks := true }, kinds := [], alts := [], laidByText := true, laidKinds := [.data, .data, .data, .data, .sentinel, .sentinel, .listed, .data, .pinned], laidTests := true, laidLooks := .later }
def JournalTornUptoCardSaid : Prop := Claim7.holds Tryz.pinned (.plain (OpenSpec.upto journalTornSpec)) journalTornUptoCard

/-- THE SECOND FORM's CARD OF 'tidelaw16.JournalGuards'. -/
def journalGuardsUptoCard : Claim7 := { stood := { row := journalGuardsUptoRow, standIns := [], harness := (true, "2edbd4808bf2142925a23a6b6a9e287bacf745a96c0a96e55ed91e9198a59fa0"), looks := true }, kinds := [], alts := [], laidByText := true, laidKinds := [.data, .data, .data, .data, .sentinel, .sentinel, .listed, .data, .pinned], laidTests := true, laidLooks := .later }
def JournalGuardsUptoCardSaid : Prop := Claim7.holds Tryz.pinned (.plain (OpenSpec.upto journalGuardsSpec)) journalGuardsUptoCard

/-- THE SECOND FORM's CARD OF 'tidelaw16.JournalJoined'. -/
def journalJoinedUptoCard : Claim7 := { stood := { row := journalJoinedUptoRow, standIns := [], harness := (true, "2edbd4808bf2142925a23a6b6a9e287bacf745a96c0a96e55ed91e9198a59fa0"), looks := true }, kinds := [], alts := [], laidByText := true, laidKinds := [.data, .data, .data, .data, .sentinel, .sentinel, .listed, .data, .pinned], laidTests := true, laidLooks := .later }
def JournalJoinedUptoCardSaid : Prop := Claim7.holds Tryz.pinned (.plain (OpenSpec.upto journalJoinedSpec)) journalJoinedUptoCard
end Rows
end Go.Proofs.YtoainkbcfnlkcaaGreatDoor

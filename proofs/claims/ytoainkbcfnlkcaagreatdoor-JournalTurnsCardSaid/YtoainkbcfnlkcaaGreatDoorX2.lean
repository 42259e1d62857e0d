import Derived.Test.YtoainkbcfnlkcaaGreatDoorX1
set_option linter.all false
namespace Go.Proofs.YtoainkbcfnlkcaaGreatDoor
open Go Vc
open Go.ChangeMaps
open Go.ChangeShapes Go.WideShapes Go.ChangeAt Go.RowKit
set_option linter.unusedSimpArgs false
set_option linter.unusedVariables false
set_option maxRecDepth 100000

theorem journalTurns_lifted (os : Os) (started : os.Started) (H : Type) (enc : TypeId × Value → H) (F : Stop.Interp) :
    ReturnsInHanded {} Tryz.checked os 7 .any ((OpenSpec.ofChange Rows.journalTurnsSpec).preRow enc Tryz.prog Tryz.f7 Rows.journalTurnsRow.domain false Rows.journalTurnsRow.laid) (((OpenSpec.ofChange Rows.journalTurnsSpec).at F).post enc Tryz.prog Tryz.f7 false true false false) := by
  refine returnsInHanded_of_row (C := Tryz.checked) (s := (OpenSpec.ofChange Rows.journalTurnsSpec)) ownG started (by kernel_rfl) Tryz.func7
    (witness_row_atRef (enc := enc) (C := Tryz.checked) false (laidWorld2 os) #[.slice none 0 0, .slice none 0 0] rfl (by kernel_rfl) (by kernel_rfl) (by kernel_rfl) (journalTurns_witness os enc)) ?_
  intro W base args ds gs before hval hW _ hcond hsz hL hS _
  exact journalTurns_contract H enc W base args ds gs before hval hW hsz hL hS

end Go.Proofs.YtoainkbcfnlkcaaGreatDoor


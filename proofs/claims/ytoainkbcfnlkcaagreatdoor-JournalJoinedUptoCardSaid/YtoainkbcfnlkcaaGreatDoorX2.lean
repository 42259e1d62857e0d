import Derived.Test.YtoainkbcfnlkcaaGreatDoorX1
set_option linter.all false
namespace Go.Proofs.YtoainkbcfnlkcaaGreatDoor
open Go Vc
open Go.ChangeMaps
open Go.ChangeShapes Go.WideShapes Go.ChangeAt Go.RowKit
set_option linter.unusedSimpArgs false
set_option linter.unusedVariables false
set_option maxRecDepth 100000

theorem journalJoined_lifted (os : Os) (started : os.Started) (H : Type) (enc : TypeId × Value → H) (F : Stop.Interp) :
    ReturnsInHanded {} Tryz.checked os 10 .any ((Rows.OpenSpec.upto Rows.journalJoinedSpec).preRow enc Tryz.prog Tryz.f10 Rows.journalJoinedUptoRow.domain false Rows.journalJoinedUptoRow.laid) (((Rows.OpenSpec.upto Rows.journalJoinedSpec).at F).post enc Tryz.prog Tryz.f10 false true false false) := by
  refine returnsInHanded_of_row (C := Tryz.checked) (s := (Rows.OpenSpec.upto Rows.journalJoinedSpec)) ownG started (by kernel_rfl) Tryz.func10
    (witness_row_atRef (enc := enc) (C := Tryz.checked) false (laidWorld2 os) #[.slice none 0 0, .slice none 0 0] rfl (by kernel_rfl) (by kernel_rfl) (by kernel_rfl) (journalJoined_witness os enc)) ?_
  intro W base args ds gs before hval hW _ hcond hsz hL hS _
  exact journalJoined_contract H enc W base args ds gs before hval hW (hcond _ rfl) hsz hL hS

end Go.Proofs.YtoainkbcfnlkcaaGreatDoor


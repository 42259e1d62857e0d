import Derived.Test.YtoainkbcfnlkcaaGreatDoorX1
set_option linter.all false
namespace Go.Proofs.YtoainkbcfnlkcaaGreatDoor
open Go Vc
open Go.ChangeMaps
open Go.ChangeShapes Go.WideShapes Go.ChangeAt Go.RowKit
set_option linter.unusedSimpArgs false
set_option linter.unusedVariables false
set_option maxRecDepth 100000

theorem sqlReads_lifted (os : Os) (started : os.Started) (H : Type) (enc : TypeId × Value → H) (F : Stop.Interp) :
    ReturnsInHanded {} Tryz.checked os 3 .any ((OpenSpec.ofChange Rows.sqlReadsSpec).preRow enc Tryz.prog Tryz.f3 Rows.sqlReadsRow.domain false Rows.sqlReadsRow.laid) (((OpenSpec.ofChange Rows.sqlReadsSpec).at F).post enc Tryz.prog Tryz.f3 false true false false) := by
  refine returnsInHanded_of_row (C := Tryz.checked) (s := (OpenSpec.ofChange Rows.sqlReadsSpec)) ownG started (by kernel_rfl) Tryz.func3
    (witness_row_atRef (enc := enc) (C := Tryz.checked) false (laidWorld2 os) #[.string ⟨#[]⟩] rfl (by kernel_rfl) (by kernel_rfl) (by kernel_rfl) (sqlReads_witness os enc)) ?_
  intro W base args ds gs before hval hW _ hcond hsz hL hS _
  exact sqlReads_contract H enc W base args ds gs before hval hW hsz hL hS

end Go.Proofs.YtoainkbcfnlkcaaGreatDoor


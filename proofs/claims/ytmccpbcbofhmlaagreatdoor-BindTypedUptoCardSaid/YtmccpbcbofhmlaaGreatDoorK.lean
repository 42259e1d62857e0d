import Derived.Test.YtmccpbcbofhmlaaGreatDoorJ
set_option linter.all false
namespace Go.Proofs.YtmccpbcbofhmlaaGreatDoor
open Go Vc
open Go.ChangeMaps
open Go.ChangeShapes Go.WideShapes Go.ChangeAt Go.RowKit
set_option maxRecDepth 100000
theorem bindTyped_lifted (os : Os) (started : os.Started) (H : Type) (enc : TypeId × Value → H) (F : Stop.Interp) :
    ReturnsInHanded {} Tryz.checked os 4 .any ((Rows.OpenSpec.upto Rows.bindTypedSpec).preRow enc Tryz.prog Tryz.f4 Rows.bindTypedUptoRow.domain false Rows.bindTypedUptoRow.laid) (((Rows.OpenSpec.upto Rows.bindTypedSpec).at F).post enc Tryz.prog Tryz.f4 false true false false) := by
  refine returnsInHanded_of_row (C := Tryz.checked) (s := (Rows.OpenSpec.upto Rows.bindTypedSpec)) ownG started (by kernel_rfl) Tryz.func4
    (witness_row_atRef (enc := enc) (C := Tryz.checked) false (laidWorld2 os) #[.slice none 0 0, .agg #[.slice none 0 0, .slice none 0 0, .slice none 0 0, .int .i64 0]] rfl (by kernel_rfl) (by kernel_rfl) (by kernel_rfl) (bindTyped_witness os enc)) ?_
  intro W base args ds gs before hval hW _ hcond hsz hL hS _
  exact bindTyped_contract H enc W base args ds gs before hval hW (hcond _ rfl) hL hS
end Go.Proofs.YtmccpbcbofhmlaaGreatDoor

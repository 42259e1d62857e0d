import Derived.Test.YtmccpbcbofhmlaaGreatDoorK
set_option linter.all false
namespace Go.Proofs.YtmccpbcbofhmlaaGreatDoor
open Go Vc
open Go.ChangeMaps
open Go.ChangeShapes Go.WideShapes Go.ChangeAt Go.RowKit
set_option maxRecDepth 100000
theorem tR (os:Os)(started:os.Started)(H:Type)(enc:TypeId×Value ->H)(F:Stop.Interp):
 ReturnsInHanded {} Tryz.checked os 6 .any ((Rows.OpenSpec.upto Rows.bindViewsSpec).preRow enc Tryz.prog Tryz.f6 Rows.bindViewsUptoRow.domain false Rows.bindViewsUptoRow.laid) (((Rows.OpenSpec.upto Rows.bindViewsSpec).at F).post enc Tryz.prog Tryz.f6 false true false false):=by
 refine returnsInHanded_of_row (C:=Tryz.checked) (s:=(Rows.OpenSpec.upto Rows.bindViewsSpec)) ajh started (by kernel_rfl) Tryz.func6
  (witness_row_atRef (enc:=enc) (C:=Tryz.checked) false (nQ os) #[.slice none 0 0,.agg #[.slice none 0 0,.slice none 0 0,.slice none 0 0,.int .i64 0],.string ⟨#[]⟩,.slice none 0 0] rfl (by kernel_rfl) (by kernel_rfl) (by kernel_rfl) (sQ os enc)) ?_
 intro W base args ds gs before yE hW _ JX ej hL hS _
 exact rk H enc W base args ds gs before yE hW (JX _ rfl) hL hS
end Go.Proofs.YtmccpbcbofhmlaaGreatDoor

import Derived.Test.YtmccpbcbofhmlaaGreatDoorK
set_option linter.all false
namespace Go.Proofs.YtmccpbcbofhmlaaGreatDoor
open Go Vc
open Go.ChangeMaps
open Go.ChangeShapes Go.WideShapes Go.ChangeAt Go.RowKit
set_option maxRecDepth 100000
theorem sJ (os:Os)(started:os.Started)(H:Type)(enc:TypeId×Value ->H)(F:Stop.Interp):
 ReturnsInHanded {} Tryz.checked os 5 .any ((Rows.OpenSpec.upto Rows.bindWrittenSpec).preRow enc Tryz.prog Tryz.f5 Rows.bindWrittenUptoRow.domain false Rows.bindWrittenUptoRow.laid) (((Rows.OpenSpec.upto Rows.bindWrittenSpec).at F).post enc Tryz.prog Tryz.f5 false true false false):=by
 refine returnsInHanded_of_row (C:=Tryz.checked) (s:=(Rows.OpenSpec.upto Rows.bindWrittenSpec)) apx started (by kernel_rfl) Tryz.func5
  (witness_row_atRef (enc:=enc) (C:=Tryz.checked) false (o7 os) #[.slice none 0 0,.agg #[.slice none 0 0,.slice none 0 0,.slice none 0 0,.int .i64 0]] rfl (by kernel_rfl) (by kernel_rfl) (by kernel_rfl) (rO os enc)) ?_
 intro W base args ds gs before DJ hW _ Ln eF hL hS _
 exact qM H enc W base args ds gs before DJ hW (Ln _ rfl) hL hS
end Go.Proofs.YtmccpbcbofhmlaaGreatDoor

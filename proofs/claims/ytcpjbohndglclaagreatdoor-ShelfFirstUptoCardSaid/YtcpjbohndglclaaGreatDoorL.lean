import Derived.Test.YtcpjbohndglclaaGreatDoorK
set_option linter.all false
namespace Go.Proofs.YtcpjbohndglclaaGreatDoor
open Go Vc
open Go.ChangeMaps
open Go.ChangeShapes Go.WideShapes Go.ChangeAt Go.RowKit
set_option maxRecDepth 100000
def uH (os:Os)(started:os.Started)(H:Type)(enc:TypeId×Value ->H)(F:Stop.Interp):
 ReturnsInHanded {} Tryz.checked os 3 .any ((Rows.OpenSpec.upto Rows.shelfFirstSpec).preRow enc Tryz.prog Tryz.f3 Rows.shelfFirstUptoRow.domain false Rows.shelfFirstUptoRow.laid) (((Rows.OpenSpec.upto Rows.shelfFirstSpec).at F).post enc Tryz.prog Tryz.f3 false true false false):=by
 refine returnsInHanded_of_row (C:=Tryz.checked) (s:=(Rows.OpenSpec.upto Rows.shelfFirstSpec)) al8 started (by kernel_rfl) Tryz.func3
  (witness_row_atRef (enc:=enc) (C:=Tryz.checked) false (oY os) #[.slice none 0 0] rfl (by kernel_rfl) (by kernel_rfl) (by kernel_rfl) (tj os enc)) ?_
 intro W base args ds gs before A4 hW _ Lu ed hL hS _
 exact rN H enc W base args ds gs before A4 hW (Lu _ rfl) hL hS
end Go.Proofs.YtcpjbohndglclaaGreatDoor

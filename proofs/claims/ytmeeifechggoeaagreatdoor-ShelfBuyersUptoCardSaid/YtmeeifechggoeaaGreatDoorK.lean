import Derived.Test.YtmeeifechggoeaaGreatDoorJ
set_option linter.all false
namespace Go.Proofs.YtmeeifechggoeaaGreatDoor
open Go Vc
open Go.ChangeMaps
open Go.ChangeShapes Go.WideShapes Go.ChangeAt Go.RowKit
set_option maxRecDepth 100000
theorem sB (os:Os)(started:os.Started)(H:Type)(enc:TypeId×Value ->H)(F:Stop.Interp):
 ReturnsInHanded {} Tryz.checked os 3 .any ((Rows.OpenSpec.upto Rows.shelfBuyersSpec).preRow enc Tryz.prog Tryz.f3 Rows.shelfBuyersUptoRow.domain false Rows.shelfBuyersUptoRow.laid) (((Rows.OpenSpec.upto Rows.shelfBuyersSpec).at F).post enc Tryz.prog Tryz.f3 false true false false):=by
 refine returnsInHanded_of_row (C:=Tryz.checked) (s:=(Rows.OpenSpec.upto Rows.shelfBuyersSpec)) ahq started (by kernel_rfl) Tryz.func3
  (witness_row_atRef (enc:=enc) (C:=Tryz.checked) false (ol os) #[.slice none 0 0] rfl (by kernel_rfl) (by kernel_rfl) (by kernel_rfl) (ri os enc)) ?_
 intro W base args ds gs before EO hW _ KR dS hL hS _
 exact qg H enc W base args ds gs before EO hW (KR _ rfl) hL hS
end Go.Proofs.YtmeeifechggoeaaGreatDoor

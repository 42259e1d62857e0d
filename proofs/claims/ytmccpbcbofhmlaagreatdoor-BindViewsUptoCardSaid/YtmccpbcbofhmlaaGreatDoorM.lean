/- BindViews, the second form: for every list of tables and views, every query, every name and every lists of rows, of bulk at most 1048576 together, the law returns true (to select all columns of a view is to ask its query), and the arguments read as before. Conditions: the listed package-level variables start as the program's text lays them (the card ties them); the arguments' bulk is at most 1048576. -/
import Derived.Test.YtmccpbcbofhmlaaGreatDoorL
set_option linter.all false
namespace Go.Proofs.YtmccpbcbofhmlaaGreatDoor
open Go Vc
open Go.ChangeMaps
open Go.ChangeShapes Go.WideShapes Go.ChangeAt Go.RowKit
set_option maxRecDepth 100000
theorem vE:Tryz.checked.prog.funcNamed Rows.bindViewsUptoRow.func=some 6:=by kernel_rfl
theorem wT:Tryz.f6.isInstance Tryz.checked.prog Rows.bindViewsUptoRow.origin Rows.bindViewsUptoRow.targs:=of_decide_eq_true (by kernel_rfl)
theorem yh:Tryz.f6.isWrapper Tryz.checked.prog Rows.bindViewsUptoRow.wrapper Rows.bindViewsUptoRow.mainSum:=by unfold Func.isWrapper;first | (rw [if_pos (by decide +kernel)];kernel_rfl) | (rw [if_neg (by decide +kernel)];exact ⟨rfl,rfl⟩)
theorem Cu:(Rows.bindViewsUptoRow.inPlace==Tryz.checked.prog.inPlace 6)=true:=by kernel_rfl
theorem zM:(Rows.bindViewsUptoRow.unfollowed==Tryz.checked.prog.unfollowed 6)=true:=by kernel_rfl
theorem zH:(Rows.bindViewsUptoRow.recurses==Tryz.checked.prog.recurses 6)=true:=by kernel_rfl
theorem CE:(Rows.bindViewsUptoRow.named==Tryz.checked.prog.varsNamed 6)=true:=by kernel_rfl
theorem uy:joinedFacts Tryz.checked.prog 6 Tryz.f6 (Rows.OpenSpec.upto Rows.bindViewsSpec).bare Rows.bindViewsUptoRow=true:=by
 unfold joinedFacts
 rw [Cu,zM,zH,CE]
 kernel_rfl
theorem xG:Rows.BindViewsUptoSaid:=
 OpenClaim.holds_of_cond 6 Tryz.f6 rfl rfl rfl rfl rfl rfl rfl ⟨rfl,rfl,rfl,rfl,rfl⟩ rfl rfl rfl rfl rfl vE Tryz.func6 uy wT yh
  (fun os started H enc _ F=>by rw [OpenClaim.pre_eq_preRow];exact tR os started H enc F)
theorem bindViews_card:Rows.BindViewsUptoCardSaid:=
 Claim7.holds_tied_plain_at .later [] _ _ _ _
  xG (fun _ h=>by cases h) (by kernel_rfl) (fun _ h=>by cases h) bindViewsUpto_row_tie rfl ⟨rfl,rfl⟩ (by kernel_rfl) rfl
  (fun f fn hf Ta=>by
   obtain rfl:f=6:=Option.some.inj ((show Tryz.prog.funcNamed Rows.bindViewsUptoRow.func=some 6 by kernel_rfl).symm.trans hf) |>.symm
   obtain rfl:fn=Tryz.f6:=(Option.some.inj (Tryz.func6.symm.trans Ta)).symm
   refine ⟨by kernel_rfl,fun j t ht=> ?_⟩
   rw [Tryz.params6] at ht
   have hm:=Array.mem_of_getElem? ht
   simp only [List.mem_toArray,mn] at hm
   rcases hm with rfl | rfl | rfl | rfl<;>first | exact (show Tryz.prog.wantsStandIn 22=false by kernel_rfl) | exact (show Tryz.prog.wantsStandIn 27=false by kernel_rfl) | exact (show Tryz.prog.wantsStandIn 9=false by kernel_rfl) | exact (show Tryz.prog.wantsStandIn 72=false by kernel_rfl))
  (by kernel_rfl)
end Go.Proofs.YtmccpbcbofhmlaaGreatDoor

/- BindWritten, the second form: for every list of tables and views and every query, of bulk at most 1048576 together, the law returns true (a query that is written and read again is bound to the same plan), and both arguments read as before. Conditions: the listed package-level variables start as the program's text lays them (the card ties them); the arguments' bulk is at most 1048576. -/
import Derived.Test.YtmccpbcbofhmlaaGreatDoorL
set_option linter.all false
namespace Go.Proofs.YtmccpbcbofhmlaaGreatDoor
open Go Vc
open Go.ChangeMaps
open Go.ChangeShapes Go.WideShapes Go.ChangeAt Go.RowKit
set_option maxRecDepth 100000
theorem uw:Tryz.checked.prog.funcNamed Rows.bindWrittenUptoRow.func=some 5:=by kernel_rfl
theorem vd:Tryz.f5.isInstance Tryz.checked.prog Rows.bindWrittenUptoRow.origin Rows.bindWrittenUptoRow.targs:=of_decide_eq_true (by kernel_rfl)
theorem vl:Tryz.f5.isWrapper Tryz.checked.prog Rows.bindWrittenUptoRow.wrapper Rows.bindWrittenUptoRow.mainSum:=by unfold Func.isWrapper;first | (rw [if_pos (by decide +kernel)];kernel_rfl) | (rw [if_neg (by decide +kernel)];exact ⟨rfl,rfl⟩)
theorem xz:(Rows.bindWrittenUptoRow.inPlace==Tryz.checked.prog.inPlace 5)=true:=by kernel_rfl
theorem wT:(Rows.bindWrittenUptoRow.unfollowed==Tryz.checked.prog.unfollowed 5)=true:=by kernel_rfl
theorem wP:(Rows.bindWrittenUptoRow.recurses==Tryz.checked.prog.recurses 5)=true:=by kernel_rfl
theorem ya:(Rows.bindWrittenUptoRow.named==Tryz.checked.prog.varsNamed 5)=true:=by kernel_rfl
theorem tA:joinedFacts Tryz.checked.prog 5 Tryz.f5 (Rows.OpenSpec.upto Rows.bindWrittenSpec).bare Rows.bindWrittenUptoRow=true:=by
 unfold joinedFacts
 rw [xz,wT,wP,ya]
 kernel_rfl
theorem vB:Rows.BindWrittenUptoSaid:=
 OpenClaim.holds_of_cond 5 Tryz.f5 rfl rfl rfl rfl rfl rfl rfl ⟨rfl,rfl,rfl,rfl,rfl⟩ rfl rfl rfl rfl rfl uw Tryz.func5 tA vd vl
  (fun os started H enc _ F=>by rw [OpenClaim.pre_eq_preRow];exact sJ os started H enc F)
theorem bindWritten_card:Rows.BindWrittenUptoCardSaid:=
 Claim7.holds_tied_plain_at .later [] _ _ _ _
  vB (fun _ h=>by cases h) (by kernel_rfl) (fun _ h=>by cases h) bindWrittenUpto_row_tie rfl ⟨rfl,rfl⟩ (by kernel_rfl) rfl
  (fun f fn hf PJ=>by
   obtain rfl:f=5:=Option.some.inj ((show Tryz.prog.funcNamed Rows.bindWrittenUptoRow.func=some 5 by kernel_rfl).symm.trans hf) |>.symm
   obtain rfl:fn=Tryz.f5:=(Option.some.inj (Tryz.func5.symm.trans PJ)).symm
   refine ⟨by kernel_rfl,fun j t ht=> ?_⟩
   rw [Tryz.params5] at ht
   have hm:=Array.mem_of_getElem? ht
   simp only [List.mem_toArray,List.mem_cons,List.not_mem_nil,or_false] at hm
   rcases hm with rfl | rfl<;>first | exact (show Tryz.prog.wantsStandIn 22=false by kernel_rfl) | exact (show Tryz.prog.wantsStandIn 27=false by kernel_rfl))
  (by kernel_rfl)
end Go.Proofs.YtmccpbcbofhmlaaGreatDoor

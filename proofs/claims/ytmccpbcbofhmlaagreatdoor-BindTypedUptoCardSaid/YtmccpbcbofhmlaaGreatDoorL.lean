/- BindTyped, the second form: for every list of tables and views and every query, of bulk at most 1048576 together, the law returns true (what is bound is a plan of its columns), and both arguments read as before. Conditions: the listed package-level variables start as the program's text lays them (the card ties them); the arguments' bulk is at most 1048576. -/
import Derived.Test.YtmccpbcbofhmlaaGreatDoorK
set_option linter.all false
namespace Go.Proofs.YtmccpbcbofhmlaaGreatDoor
open Go Vc
open Go.ChangeMaps
open Go.ChangeShapes Go.WideShapes Go.ChangeAt Go.RowKit
set_option maxRecDepth 100000
theorem bindTyped_named : Tryz.checked.prog.funcNamed Rows.bindTypedUptoRow.func = some 4 := by kernel_rfl
theorem bindTyped_inst : Tryz.f4.isInstance Tryz.checked.prog Rows.bindTypedUptoRow.origin Rows.bindTypedUptoRow.targs := of_decide_eq_true (by kernel_rfl)
theorem bindTyped_wrap : Tryz.f4.isWrapper Tryz.checked.prog Rows.bindTypedUptoRow.wrapper Rows.bindTypedUptoRow.mainSum := by unfold Func.isWrapper; first | (rw [if_pos (by decide +kernel)]; kernel_rfl) | (rw [if_neg (by decide +kernel)]; exact ⟨rfl, rfl⟩)
theorem bindTyped_in : (Rows.bindTypedUptoRow.inPlace == Tryz.checked.prog.inPlace 4) = true := by kernel_rfl
theorem bindTyped_unf : (Rows.bindTypedUptoRow.unfollowed == Tryz.checked.prog.unfollowed 4) = true := by kernel_rfl
theorem bindTyped_rec : (Rows.bindTypedUptoRow.recurses == Tryz.checked.prog.recurses 4) = true := by kernel_rfl
theorem bindTyped_vn : (Rows.bindTypedUptoRow.named == Tryz.checked.prog.varsNamed 4) = true := by kernel_rfl
theorem bindTyped_closed : joinedFacts Tryz.checked.prog 4 Tryz.f4 (Rows.OpenSpec.upto Rows.bindTypedSpec).bare Rows.bindTypedUptoRow = true := by
  unfold joinedFacts
  rw [bindTyped_in, bindTyped_unf, bindTyped_rec, bindTyped_vn]
  kernel_rfl
theorem bindTyped_said : Rows.BindTypedUptoSaid :=
  OpenClaim.holds_of_cond 4 Tryz.f4 rfl rfl rfl rfl rfl rfl rfl ⟨rfl, rfl, rfl, rfl, rfl⟩ rfl rfl rfl rfl rfl bindTyped_named Tryz.func4 bindTyped_closed bindTyped_inst bindTyped_wrap
    (fun os started H enc _ F => by rw [OpenClaim.pre_eq_preRow]; exact bindTyped_lifted os started H enc F)
theorem bindTyped_card : Rows.BindTypedUptoCardSaid :=
  Claim7.holds_tied_plain_at .later [] _ _ _ _
    bindTyped_said (fun _ h => by cases h) (by kernel_rfl) (fun _ h => by cases h) bindTypedUpto_row_tie rfl ⟨rfl, rfl⟩ (by kernel_rfl) rfl
    (fun f fn hf hfn => by
      obtain rfl : f = 4 := Option.some.inj ((show Tryz.prog.funcNamed Rows.bindTypedUptoRow.func = some 4 by kernel_rfl).symm.trans hf) |>.symm
      obtain rfl : fn = Tryz.f4 := (Option.some.inj (Tryz.func4.symm.trans hfn)).symm
      refine ⟨by kernel_rfl, fun j t ht => ?_⟩
      rw [Tryz.params4] at ht
      have hm := Array.mem_of_getElem? ht
      simp only [List.mem_toArray, List.mem_cons, List.not_mem_nil, or_false] at hm
      rcases hm with rfl | rfl <;> first | exact (show Tryz.prog.wantsStandIn 22 = false by kernel_rfl) | exact (show Tryz.prog.wantsStandIn 27 = false by kernel_rfl))
    (by kernel_rfl)
end Go.Proofs.YtmccpbcbofhmlaaGreatDoor

/- BindTells, the second form: for every list of tables and views, every query and every expression, of bulk at most 1048576 together, the law returns true (the plan, the columns and the condition that the program binds are the document's, or what is wrong is the same), and all three arguments read as before. Conditions: the listed package-level variables start as the program's text lays them (the card ties them); the arguments' bulk is at most 1048576. -/
import Derived.Test.YtmccpbcbofhmlaaGreatDoorJ
set_option linter.all false
namespace Go.Proofs.YtmccpbcbofhmlaaGreatDoor
open Go Vc
open Go.ChangeMaps
open Go.ChangeShapes Go.WideShapes Go.ChangeAt Go.RowKit
set_option maxRecDepth 100000
theorem bindTells_named : Tryz.checked.prog.funcNamed Rows.bindTellsUptoRow.func = some 3 := by kernel_rfl
theorem bindTells_inst : Tryz.f3.isInstance Tryz.checked.prog Rows.bindTellsUptoRow.origin Rows.bindTellsUptoRow.targs := of_decide_eq_true (by kernel_rfl)
theorem bindTells_wrap : Tryz.f3.isWrapper Tryz.checked.prog Rows.bindTellsUptoRow.wrapper Rows.bindTellsUptoRow.mainSum := by unfold Func.isWrapper; first | (rw [if_pos (by decide +kernel)]; kernel_rfl) | (rw [if_neg (by decide +kernel)]; exact ⟨rfl, rfl⟩)
theorem bindTells_closed : joinedFacts Tryz.checked.prog 3 Tryz.f3 (Rows.OpenSpec.upto Rows.bindTellsSpec).bare Rows.bindTellsUptoRow = true := by kernel_rfl
theorem bindTells_said : Rows.BindTellsUptoSaid :=
  OpenClaim.holds_of_cond 3 Tryz.f3 rfl rfl rfl rfl rfl rfl rfl ⟨rfl, rfl, rfl, rfl, rfl⟩ rfl rfl rfl rfl rfl bindTells_named Tryz.func3 bindTells_closed bindTells_inst bindTells_wrap
    (fun os started H enc _ F => by rw [OpenClaim.pre_eq_preRow]; exact bindTells_lifted os started H enc F)
theorem bindTells_card : Rows.BindTellsUptoCardSaid :=
  Claim7.holds_tied_plain_at .later [] _ _ _ _
    bindTells_said (fun _ h => by cases h) (by kernel_rfl) (fun _ h => by cases h) bindTellsUpto_row_tie rfl ⟨rfl, rfl⟩ (by kernel_rfl) rfl
    (fun f fn hf hfn => by
      obtain rfl : f = 3 := Option.some.inj ((show Tryz.prog.funcNamed Rows.bindTellsUptoRow.func = some 3 by kernel_rfl).symm.trans hf) |>.symm
      obtain rfl : fn = Tryz.f3 := (Option.some.inj (Tryz.func3.symm.trans hfn)).symm
      refine ⟨by kernel_rfl, fun j t ht => ?_⟩
      rw [Tryz.params3] at ht
      have hm := Array.mem_of_getElem? ht
      simp only [List.mem_toArray, List.mem_cons, List.not_mem_nil, or_false] at hm
      rcases hm with rfl | rfl | rfl <;> first | exact (show Tryz.prog.wantsStandIn 22 = false by kernel_rfl) | exact (show Tryz.prog.wantsStandIn 27 = false by kernel_rfl) | exact (show Tryz.prog.wantsStandIn 31 = false by kernel_rfl))
    (by kernel_rfl)
end Go.Proofs.YtmccpbcbofhmlaaGreatDoor

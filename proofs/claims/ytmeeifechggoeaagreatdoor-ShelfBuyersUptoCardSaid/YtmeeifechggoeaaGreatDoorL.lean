/- ShelfBuyers, the second form: for every list of sales, of bulk at most 1048576, the law returns true (buyers shows who bought something, once; sizes each sale, and whether it was of ten or more), and the argument reads as before. Conditions: the listed package-level variables start as the program's text lays them (the card ties them); the argument's bulk is at most 1048576. -/
import Derived.Test.YtmeeifechggoeaaGreatDoorK
set_option linter.all false
namespace Go.Proofs.YtmeeifechggoeaaGreatDoor
open Go Vc
open Go.ChangeMaps
open Go.ChangeShapes Go.WideShapes Go.ChangeAt Go.RowKit
set_option maxRecDepth 100000
theorem tB:Tryz.checked.prog.funcNamed Rows.shelfBuyersUptoRow.func=some 3:=by kernel_rfl
theorem uY:Tryz.f3.isInstance Tryz.checked.prog Rows.shelfBuyersUptoRow.origin Rows.shelfBuyersUptoRow.targs:=of_decide_eq_true (by kernel_rfl)
theorem uQ:Tryz.f3.isWrapper Tryz.checked.prog Rows.shelfBuyersUptoRow.wrapper Rows.shelfBuyersUptoRow.mainSum:=by unfold Func.isWrapper;first | (rw [if_pos (by decide +kernel)];kernel_rfl) | (rw [if_neg (by decide +kernel)];exact ⟨rfl,rfl⟩)
theorem zS:(Rows.shelfBuyersUptoRow.inPlace==Tryz.checked.prog.inPlace 3)=true:=by kernel_rfl
theorem wI:(Rows.shelfBuyersUptoRow.unfollowed==Tryz.checked.prog.unfollowed 3)=true:=by kernel_rfl
theorem wQ:(Rows.shelfBuyersUptoRow.recurses==Tryz.checked.prog.recurses 3)=true:=by kernel_rfl
theorem xN:(Rows.shelfBuyersUptoRow.named==Tryz.checked.prog.varsNamed 3)=true:=by kernel_rfl
theorem sG:joinedFacts Tryz.checked.prog 3 Tryz.f3 (Rows.OpenSpec.upto Rows.shelfBuyersSpec).bare Rows.shelfBuyersUptoRow=true:=by
 unfold joinedFacts
 rw [zS,wI,wQ,xN]
 kernel_rfl
theorem uK:Rows.ShelfBuyersUptoSaid:=
 OpenClaim.holds_of_cond 3 Tryz.f3 rfl rfl rfl rfl rfl rfl rfl ⟨rfl,rfl,rfl,rfl,rfl⟩ rfl rfl rfl rfl rfl tB Tryz.func3 sG uY uQ
  (fun os started H enc _ F=>by rw [OpenClaim.pre_eq_preRow];exact sB os started H enc F)
theorem cardWf:Rows.shelfBuyersUptoRow.wfByText (Rows.OpenSpec.upto Rows.shelfBuyersSpec)=true:=by kernel_rfl
theorem cardMain:Tryz.pinned.checked.prog.mainIs=some (Rows.shelfBuyersUptoCard.stood.harness.1,Rows.shelfBuyersUptoCard.stood.harness.2.toList):=by kernel_rfl
theorem cardLooks:Rows.shelfBuyersUptoCard.stood.looks=Tryz.pinned.checked.prog.looks []:=by kernel_rfl
theorem cardFn:Tryz.prog.funcNamed Rows.shelfBuyersUptoRow.func=some 3:=by kernel_rfl
theorem cardG1:((Tryz.prog.closure 3).any fun g=>(Tryz.prog.funcs[g]?).any Func.goes)=false:=by kernel_rfl
theorem cardG2:Tryz.prog.funcs.any Func.goes=false:=by kernel_rfl
theorem cardGoes:false=Rows.shelfBuyersUptoRow.goesBy Tryz.pinned.checked.prog:=by
 show false=((Tryz.prog.funcNamed Rows.shelfBuyersUptoRow.func).any Tryz.prog.goes || false)
 rw [cardFn]
 simp only [Option.any_some,Program.goes,cardG1,cardG2,Bool.and_false,Bool.or_false]
theorem cardIn:Tryz.prog.wantsStandIn 22=false:=by kernel_rfl
theorem shelfBuyers_card:Rows.ShelfBuyersUptoCardSaid:=
 Claim7.holds_tied_plain_at .later [] _ _ _ _
  uK (fun _ h=>by cases h) cardWf (fun _ h=>by cases h) shelfBuyersUpto_row_tie rfl ⟨rfl,rfl⟩ cardMain rfl
  (fun f fn hf RM=>by
   obtain rfl:f=3:=Option.some.inj (cardFn.symm.trans hf) |>.symm
   obtain rfl:fn=Tryz.f3:=(Option.some.inj (Tryz.func3.symm.trans RM)).symm
   refine ⟨cardLooks,fun j t ht=> ?_⟩
   rw [Tryz.params3] at ht
   have hm:=Array.mem_of_getElem? ht
   simp only [List.mem_toArray,mn] at hm
   rcases hm with rfl<;>first | exact cardIn)
  cardGoes
end Go.Proofs.YtmeeifechggoeaaGreatDoor

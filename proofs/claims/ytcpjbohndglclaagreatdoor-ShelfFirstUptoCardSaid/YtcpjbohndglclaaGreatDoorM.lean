/- ShelfFirst, the second form: for every list of sales, of bulk at most 1048576, the law returns true (first shows the three least sales: by how many, then by who), and the argument reads as before. Conditions: the listed package-level variables start as the program's text lays them (the card ties them); the argument's bulk is at most 1048576. -/
import Derived.Test.YtcpjbohndglclaaGreatDoorL
set_option linter.all false
namespace Go.Proofs.YtcpjbohndglclaaGreatDoor
open Go Vc
open Go.ChangeMaps
open Go.ChangeShapes Go.WideShapes Go.ChangeAt Go.RowKit
set_option maxRecDepth 100000
theorem vU:Tryz.checked.prog.funcNamed Rows.shelfFirstUptoRow.func=some 3:=by kernel_rfl
theorem xx:Tryz.f3.isInstance Tryz.checked.prog Rows.shelfFirstUptoRow.origin Rows.shelfFirstUptoRow.targs:=of_decide_eq_true (by kernel_rfl)
theorem xA:Tryz.f3.isWrapper Tryz.checked.prog Rows.shelfFirstUptoRow.wrapper Rows.shelfFirstUptoRow.mainSum:=by unfold Func.isWrapper;first | (rw [if_pos (by decide +kernel)];kernel_rfl) | (rw [if_neg (by decide +kernel)];exact ⟨rfl,rfl⟩)
theorem Bc:(Rows.shelfFirstUptoRow.inPlace==Tryz.checked.prog.inPlace 3)=true:=by kernel_rfl
theorem Az:(Rows.shelfFirstUptoRow.unfollowed==Tryz.checked.prog.unfollowed 3)=true:=by kernel_rfl
theorem Ay:(Rows.shelfFirstUptoRow.recurses==Tryz.checked.prog.recurses 3)=true:=by kernel_rfl
theorem Bd:(Rows.shelfFirstUptoRow.named==Tryz.checked.prog.varsNamed 3)=true:=by kernel_rfl
theorem uG:joinedFacts Tryz.checked.prog 3 Tryz.f3 (Rows.OpenSpec.upto Rows.shelfFirstSpec).bare Rows.shelfFirstUptoRow=true:=by
 unfold joinedFacts
 rw [Bc,Az,Ay,Bd]
 kernel_rfl
theorem xz:Rows.ShelfFirstUptoSaid:=
 OpenClaim.holds_of_cond 3 Tryz.f3 rfl rfl rfl rfl rfl rfl rfl ⟨rfl,rfl,rfl,rfl,rfl⟩ rfl rfl rfl rfl rfl vU Tryz.func3 uG xx xA
  (fun os started H enc _ F=>by rw [OpenClaim.pre_eq_preRow];exact uH os started H enc F)
theorem Be:Rows.shelfFirstUptoRow.wfByText (Rows.OpenSpec.upto Rows.shelfFirstSpec)=true:=by kernel_rfl
theorem xy:Tryz.pinned.checked.prog.mainIs=some (Rows.shelfFirstUptoCard.stood.harness.1,Rows.shelfFirstUptoCard.stood.harness.2.toList):=by kernel_rfl
theorem vT:Rows.shelfFirstUptoCard.stood.looks=Tryz.pinned.checked.prog.looks []:=by kernel_rfl
theorem sr:Tryz.prog.funcNamed Rows.shelfFirstUptoRow.func=some 3:=by kernel_rfl
theorem Ba:((Tryz.prog.closure 3).any fun g=>(Tryz.prog.funcs[g]?).any Func.goes)=false:=by kernel_rfl
theorem Bb:Tryz.prog.funcs.any Func.goes=false:=by kernel_rfl
theorem xw:false=Rows.shelfFirstUptoRow.goesBy Tryz.pinned.checked.prog:=by
 show false=((Tryz.prog.funcNamed Rows.shelfFirstUptoRow.func).any Tryz.prog.goes || false)
 rw [sr]
 simp only [Option.any_some,Program.goes,Ba,Bb,Bool.and_false,Bool.or_false]
theorem shelfFirst_card:Rows.ShelfFirstUptoCardSaid:=
 Claim7.holds_tied_plain_at .later [] _ _ _ _
  xz (fun _ h=>by cases h) Be (fun _ h=>by cases h) shelfFirstUpto_row_tie rfl ⟨rfl,rfl⟩ xy rfl
  (fun f fn hf SH=>by
   obtain rfl:f=3:=Option.some.inj (sr.symm.trans hf) |>.symm
   obtain rfl:fn=Tryz.f3:=(Option.some.inj (Tryz.func3.symm.trans SH)).symm
   refine ⟨vT,fun j t ht=> ?_⟩
   rw [Tryz.params3] at ht
   have hm:=Array.mem_of_getElem? ht
   simp only [List.mem_toArray,mn] at hm
   rcases hm with rfl<;>first | exact (show Tryz.prog.wantsStandIn 22=false by kernel_rfl))
  xw
end Go.Proofs.YtcpjbohndglclaaGreatDoor

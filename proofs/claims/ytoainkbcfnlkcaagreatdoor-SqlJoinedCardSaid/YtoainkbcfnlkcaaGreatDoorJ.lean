/- SqlJoined: two texts that are read, one behind the other with an end of line between, are read as both's statements: for every two strings the law returns true, and both arguments read as before. Conditions: the listed package-level variables start as the program's text lays them (the card ties them); no bound on the arguments beyond the form's own. -/
import Derived.Test.YtoainkbcfnlkcaaGreatDoorI
import Derived.Test.YtoainkbcfnlkcaaGreatDoorCards
import Derived.Test.YtoainkbcfnlkcaaGreatDoorTie
import Derived.ProofKit
import Derived.OpenShut
import Derived.Deep.DeepHandedRow
import Derived.Deep.DeepWitnessRowRef
import Derived.Lib.LaidTab
import Derived.LaidSub
import Derived.LaidLaws
import Derived.ChangeMaps5
set_option linter.all false
namespace Go.Proofs.YtoainkbcfnlkcaaGreatDoor
open Go Vc
open Go.ChangeShapes Go.WideShapes Go.ChangeAt Go.RowKit
set_option linter.unusedSimpArgs false
set_option linter.unusedVariables false
set_option maxRecDepth 100000

theorem own : ownKnob Tryz.prog.godebug = none := by kernel_rfl
theorem gSpace : Tryz.prog.globalNamed "strings.asciiSpace" = some 0 := by kernel_rfl
theorem gSpaceType : (Tryz.prog.globals[0]?).map (·.type) = some 165 := by kernel_rfl
/-- WHAT THE ROW's LIST GIVES. -/
theorem table {W : World} {l : List (String × DataW Unit)} (hl : (l.filter fun x => x.1 == "strings.asciiSpace") = [("strings.asciiSpace", Lib.tabData .u8 Lib.asciiSpaceTab)]) (h : laidMetH Tryz.prog l W) : Lib.TabIs Tryz.prog W "strings.asciiSpace" .u8 Lib.asciiSpaceTab := by
  have h1 := laidMetH.filter (fun x => x.1 == "strings.asciiSpace") h
  rw [hl] at h1
  have h1 : laidMet Tryz.prog [("strings.asciiSpace", Lib.tabData .u8 Lib.asciiSpaceTab)] W := h1
  exact Lib.tabIs_of_head (rest := []) gSpace gSpaceType Tryz.underlying165 (by kernel_rfl) (by kernel_rfl) (by kernel_rfl) h1
/-- the memory that the row's list gives -/
def memG : Mem := fun b => if b = 0 then some (Lib.asciiSpaceTab.map fun z => Value.int .u8 z) else none
theorem memG_glob : Glob memG := fun g hg => by
  obtain rfl := Option.some.inj (gSpace.symm.trans hg)
  rfl
theorem memG_holds {W : World} (h : Lib.TabIs Tryz.prog W "strings.asciiSpace" .u8 Lib.asciiSpaceTab) : Holds memG W := by
  intro b c hb
  unfold memG at hb
  split at hb
  · rename_i h0
    subst h0
    injection hb with hb
    subst hb
    unfold Lib.TabIs World.var? at h
    rw [gSpace] at h
    simp only [Option.bind_some] at h
    split at h
    · rename_i cs t f hc
      injection h with h
      exact ⟨t, f, by rw [hc, h]⟩
    · cases h
  · cases hb
/-- from a contract that lends nothing to a call -/
theorem calls_of {f : FuncId} {args : List Value} {M : Mem} {post : PostP} {W : World} (h : CtT Tryz.prog f args (fun _ => none) M [] [] post noPan) (hM : Holds M W) :
    Calls Tryz.prog f args.toArray W fun e W' => ∃ v M', e = .returned v ∧ Keeps W W' ∧ Holds M' W' ∧ Ext M M' ∧ post v M' [] [] := by
  refine (h.2 W [] ⟨[], rfl, ?_⟩).mono ?_
  · exact { typ := (fun b t h => by cases h), holds := hM, blk := (fun b cs h => by cases h), rows := ⟨rfl, (fun i v e sz xs o h => by simp at h)⟩, nodup := List.nodup_nil, apart := (fun b h => by simp at h), os := rfl, tape := rfl, output := rfl, size := Nat.le_refl _, old := fun _ _ _ => rfl, mem := fun _ _ _ => rfl, le := fun _ _ h => h }
  · intro e W' hc
    cases e with
    | panicked ch => obtain ⟨_, _, _, _, hp⟩ := hc; exact hp.elim
    | outgrown => exact hc.elim
    | returned v =>
      obtain ⟨M', L', R', hpo, hv⟩ := hc
      obtain ⟨⟨bs, hi⟩, hk, hr⟩ := hpo
      obtain rfl : L' = [] := by simpa [keys] using hk
      obtain rfl : R' = [] := by simpa using hr
      exact ⟨v, M', rfl, ⟨hi.os, hi.tape, hi.output, hi.size, fun b hb => hi.old b hb (by simp)⟩, hi.holds, fun b cs hb => hi.le b cs hb, hv⟩
theorem Keeps.but {W W' : World} (h : Keeps W W') (may : MemPlace → Prop) : W.keptBut W' may := by
  refine ⟨h.1, h.2.2.1, fun i hi => ?_⟩
  rw [h.2.2.2.2 i hi]
  split
  · rename_i h1 h2
    rw [h1] at h2
    injection h2 with h2
    injection h2 with h2 h3 h4
    subst h2 h3 h4
    exact ⟨rfl, rfl, rfl, fun _ _ => rfl⟩
  · rename_i h1 h2
    rw [h1] at h2
    injection h2 with h2
    injection h2 with h2 h3
    subst h2 h3
    exact .inr ⟨rfl, rfl⟩
  · rfl
end Go.Proofs.YtoainkbcfnlkcaaGreatDoor

namespace Go.Proofs.YtoainkbcfnlkcaaGreatDoor
open Go Vc
open Go.ChangeShapes Go.WideShapes Go.ChangeAt Go.RowKit
set_option linter.unusedSimpArgs false
set_option linter.unusedVariables false
set_option maxRecDepth 100000

/-- A WORLD FOR THE WITNESS: the settled one, the listed variables holding what their initialisers lay. -/
noncomputable def laidWorld (os : Os) : World :=
  let N := (World.settled Tryz.prog os).heap.size
  let w0 := World.holding Tryz.prog os ⟨#[.cells #[.int .u16 9, .int .u16 13, .int .u16 1, .int .u16 32, .int .u16 133, .int .u16 101, .int .u16 160, .int .u16 5760, .int .u16 5600, .int .u16 8192, .int .u16 8202, .int .u16 1, .int .u16 8232, .int .u16 8233, .int .u16 1, .int .u16 8239, .int .u16 8287, .int .u16 48, .int .u16 12288, .int .u16 12288, .int .u16 1] 225,
    .cells #[.slice (some ⟨N, 0, none⟩) 7 7, .slice none 0 0, .int .i64 2] 223,
    .cells #[.string ⟨#[118, 97, 108, 117, 101, 32, 111, 117, 116, 32, 111, 102, 32, 114, 97, 110, 103, 101]⟩] 267,
    .cells #[.string ⟨#[105, 110, 118, 97, 108, 105, 100, 32, 115, 121, 110, 116, 97, 120]⟩] 267], #[], []⟩
  let put (h : Array Obj) (g : Nat) (cs : Array Value) : Array Obj := h.modify g fun
    | .cells _ t frozen => .cells cs t frozen
    | o => o
  let h1 := put w0.heap 0 (Lib.asciiSpaceTab.map fun z => Value.int .u8 z).toArray
  let h2 := put h1 1 #[.pointer (some ⟨N + 1, 0, none⟩)]
  let h3 := put h2 3 #[.int .u64 1, .int .u64 10, .int .u64 100, .int .u64 1000, .int .u64 10000, .int .u64 100000, .int .u64 1000000, .int .u64 10000000, .int .u64 100000000, .int .u64 1000000000, .int .u64 10000000000, .int .u64 100000000000, .int .u64 1000000000000, .int .u64 10000000000000, .int .u64 100000000000000, .int .u64 1000000000000000, .int .u64 10000000000000000, .int .u64 100000000000000000, .int .u64 1000000000000000000, .int .u64 10000000000000000000]
  let h4 := put h3 4 #[.iface 265 (.pointer (some ⟨N + 3, 0, none⟩))]
  let h5 := put h4 5 #[.iface 265 (.pointer (some ⟨N + 2, 0, none⟩))]
  let h6 := put h5 8 #[.int .u8 0, .int .u8 1, .int .u8 28, .int .u8 2, .int .u8 29, .int .u8 14, .int .u8 24, .int .u8 3, .int .u8 30, .int .u8 22, .int .u8 20, .int .u8 15, .int .u8 25, .int .u8 17, .int .u8 4, .int .u8 8, .int .u8 31, .int .u8 27, .int .u8 13, .int .u8 23, .int .u8 21, .int .u8 19, .int .u8 16, .int .u8 7, .int .u8 26, .int .u8 12, .int .u8 18, .int .u8 6, .int .u8 11, .int .u8 5, .int .u8 10, .int .u8 9]
  let h7 := put h6 9 #[.int .u8 0, .int .u8 1, .int .u8 56, .int .u8 2, .int .u8 57, .int .u8 49, .int .u8 28, .int .u8 3, .int .u8 61, .int .u8 58, .int .u8 42, .int .u8 50, .int .u8 38, .int .u8 29, .int .u8 17, .int .u8 4, .int .u8 62, .int .u8 47, .int .u8 59, .int .u8 36, .int .u8 45, .int .u8 43, .int .u8 51, .int .u8 22, .int .u8 53, .int .u8 39, .int .u8 33, .int .u8 30, .int .u8 24, .int .u8 18, .int .u8 12, .int .u8 5, .int .u8 63, .int .u8 55, .int .u8 48, .int .u8 27, .int .u8 60, .int .u8 41, .int .u8 37, .int .u8 16, .int .u8 46, .int .u8 35, .int .u8 44, .int .u8 21, .int .u8 52, .int .u8 32, .int .u8 23, .int .u8 11, .int .u8 54, .int .u8 26, .int .u8 40, .int .u8 15, .int .u8 34, .int .u8 20, .int .u8 31, .int .u8 10, .int .u8 25, .int .u8 14, .int .u8 19, .int .u8 9, .int .u8 13, .int .u8 8, .int .u8 7, .int .u8 6]
  { w0 with heap := h7 }
theorem laid_met (os : Os) : laidMet Tryz.prog Rows.sqlJoinedRow.laid ((laidWorld os).forCall (fun _ _ => 0) ⟨#[], #[.string ⟨#[]⟩, .string ⟨#[]⟩], []⟩).memory :=
  laidMet_of_run' 8 (by kernel_rfl) (by kernel_rfl)
end Go.Proofs.YtoainkbcfnlkcaaGreatDoor

namespace Go.Proofs.YtoainkbcfnlkcaaGreatDoor
open Go Vc
open Go.ChangeMaps
open Go.ChangeShapes Go.WideShapes Go.ChangeAt Go.RowKit
set_option linter.unusedSimpArgs false
set_option linter.unusedVariables false
set_option maxRecDepth 100000

theorem witness_row (os : Os) {H : Type} (enc : TypeId × Value → H) :
    (OpenSpec.ofChange Rows.sqlJoinedSpec).preRow enc Tryz.prog Tryz.f4 Rows.sqlJoinedRow.domain false Rows.sqlJoinedRow.laid ((laidWorld os).forCall (fun _ _ => 0) ⟨#[], #[.string ⟨#[]⟩, .string ⟨#[]⟩], []⟩).memory #[.string ⟨#[]⟩, .string ⟨#[]⟩] := by
  have hw : (DataW.whole enc Tryz.prog ((laidWorld os).forCall (fun _ _ => 0) ⟨#[], #[.string ⟨#[]⟩, .string ⟨#[]⟩], []⟩).memory Tryz.f4.params.toList Rows.sqlJoinedSpec.vars false #[Value.string ⟨#[]⟩, Value.string ⟨#[]⟩].toList 8).map (fun x => (x.1, x.2.1)) =
      some ([.lit (.string []), .lit (.string [])], []) := by kernel_rfl
  obtain ⟨⟨x1, x2, x3⟩, hx, hx1⟩ := Option.map_eq_some_iff.1 hw
  simp only [Prod.mk.injEq] at hx1
  obtain ⟨rfl, rfl⟩ := hx1
  exact OpenSpec.preRow_of_cond 8 hx (by kernel_rfl) (fun k hk => by cases hk) (by kernel_rfl) (laid_met os)
theorem bs_data (s : ByteArray) : bs s.data.toList = s := by simp [bs]
theorem joined_contract (H : Type) (enc : TypeId × Value → H) (W : World) (base : Nat) (args : Array Value) (ds gs : List (DataW H)) (before : List MemPlace)
    (hval : ∀ (j : Nat) t v, Tryz.f4.params[j]? = some t → args[j]? = some v → Value.okWide Tryz.prog W .any base t v)
    (hW : DataW.Whole enc Tryz.prog Tryz.f4.params.toList Rows.sqlJoinedSpec.vars false W args.toList ds gs before)
    (hsz : (DataW.weightsEach Tryz.prog (Tryz.f4.params.toList ++ Rows.sqlJoinedSpec.plain.varTypes Tryz.prog) (ds ++ gs)).all (· ≤ reachBytes) = true) (hL : laidMetH Tryz.prog Rows.sqlJoinedRow.laid W) :
    Calls Tryz.prog 4 args W fun e W' => ∃ v, e = .returned v ∧ Rows.sqlJoinedSpec.post enc Tryz.prog Tryz.f4 false true false false W args v W' := by
  have hW' := hW
  obtain ⟨p, q, hA0, hV, rfl, hfz, hnd⟩ := hW
  have hA : DataW.TrodAll enc Tryz.prog W 0 (fun _ => true) true Tryz.f4.params.toList args.toList ds p := hA0
  rw [Tryz.params4] at hA hval hsz
  obtain ⟨v0, v1, d0, d1, p0, p1, rfl, rfl, rfl, h0, h1⟩ := trodAll_two hA
  obtain ⟨rfl, rfl⟩ := trodVars_none hV
  obtain ⟨s, rfl, rfl, rfl, ws⟩ := open_string Tryz.underlying9 (hval 0 9 v0 rfl rfl) h0
  obtain ⟨t, rfl, rfl, rfl, wt⟩ := open_string Tryz.underlying9 (hval 1 9 v1 rfl rfl) h1
  clear hA0
  simp only [List.append_nil] at hW'
  have hl : s.data.toList.length ≤ reachBytes ∧ t.data.toList.length ≤ reachBytes := by
    simpa [DataW.weightsEach, DataW.weights] using hsz
  have hG := memG_holds (table (by kernel_rfl) hL)
  have hr : reachBytes < 1000000000000000 := by decide
  have hc := calls_of (ct_joined memG_glob s.data.toList t.data.toList (by omega) (by omega) (fun _ => none)) hG
  have e1 : [st s.data.toList, st t.data.toList].toArray = #[Value.string s, Value.string t] := by
    simp only [st, bs_data]
  rw [e1] at hc
  refine hc.mono fun e W' ⟨v, M', he, hk, _, _, hv⟩ => ?_
  subst he; subst hv
  refine ⟨_, rfl, _, _, [], [], [], [], hW', ?_, ?_, ?_, Keeps.but hk _, fun h => by cases h⟩
  · exact trodAll_mk1 (shut_bool Tryz.underlying4 true)
  · exact trodAll_mk2 (shut_string Tryz.underlying9 ws) (shut_string Tryz.underlying9 wt)
  · rfl
theorem joined_lifted (os : Os) (started : os.Started) (H : Type) (enc : TypeId × Value → H) (F : Stop.Interp) :
    ReturnsInHanded {} Tryz.checked os 4 .any ((OpenSpec.ofChange Rows.sqlJoinedSpec).preRow enc Tryz.prog Tryz.f4 Rows.sqlJoinedRow.domain false Rows.sqlJoinedRow.laid) (((OpenSpec.ofChange Rows.sqlJoinedSpec).at F).post enc Tryz.prog Tryz.f4 false true false false) := by
  refine returnsInHanded_of_row (C := Tryz.checked) (s := OpenSpec.ofChange Rows.sqlJoinedSpec) own started (by kernel_rfl) Tryz.func4
    (witness_row_atRef (enc := enc) (C := Tryz.checked) false (laidWorld os) #[.string ⟨#[]⟩, .string ⟨#[]⟩] rfl (by kernel_rfl) (by kernel_rfl) (by kernel_rfl) (witness_row os enc)) ?_
  intro W base args ds gs before hval hW _ _ hsz hL _ _
  exact joined_contract H enc W base args ds gs before hval hW hsz hL
theorem joined_said : Rows.SqlJoinedSaid :=
  OpenClaim.holds_of_cond 4 Tryz.f4 rfl rfl rfl rfl rfl rfl rfl ⟨rfl, rfl, rfl, rfl, rfl⟩ rfl rfl rfl rfl rfl (by kernel_rfl) Tryz.func4 (by kernel_rfl)
    (of_decide_eq_true (by kernel_rfl)) (by unfold Func.isWrapper; first | (rw [if_pos (by decide +kernel)]; kernel_rfl) | (rw [if_neg (by decide +kernel)]; exact ⟨rfl, rfl⟩))
    (fun os started H enc _ F => by rw [OpenClaim.pre_eq_preRow]; exact joined_lifted os started H enc F)
theorem joined_card : Rows.SqlJoinedCardSaid :=
  Claim7.holds_tied_plain_at .later [] _ _ _ _
    joined_said (fun _ h => by cases h) (by kernel_rfl) (fun _ h => by cases h) sqlJoined_row_tie rfl ⟨rfl, rfl⟩ (by kernel_rfl) rfl
    (fun f fn hf hfn => by
      obtain rfl : f = 4 := Option.some.inj ((show Tryz.prog.funcNamed Rows.sqlJoinedRow.func = some 4 by kernel_rfl).symm.trans hf) |>.symm
      obtain rfl : fn = Tryz.f4 := (Option.some.inj (Tryz.func4.symm.trans hfn)).symm
      refine ⟨by kernel_rfl, fun j t ht => ?_⟩
      rw [Tryz.params4] at ht
      obtain rfl : t = 9 := by simpa using Array.mem_of_getElem? ht
      exact (show Tryz.prog.wantsStandIn 9 = false by kernel_rfl))
    (by kernel_rfl)
end Go.Proofs.YtoainkbcfnlkcaaGreatDoor

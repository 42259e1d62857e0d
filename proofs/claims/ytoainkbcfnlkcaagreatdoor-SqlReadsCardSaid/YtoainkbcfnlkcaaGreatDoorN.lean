import Derived.Test.YtoainkbcfnlkcaaGreatDoorM
import Derived.Test.YtoainkbcfnlkcaaGreatDoorV2
import Derived.Test.YtoainkbcfnlkcaaGreatDoorI
import Derived.Test.YtoainkbcfnlkcaaGreatDoorCards
import Derived.Test.YtoainkbcfnlkcaaGreatDoorTie
import Derived.ProofKit
import Derived.OpenShut
import Derived.Deep.DeepHandedRow
import Derived.Deep.DeepWitnessRowRef
import Derived.Lib.LaidTab
import Derived.LaidSub
import Derived.LaidLaws
import Derived.Shelf.Vars
import Derived.ChangeMaps5
import Derived.ReadAgain
set_option linter.all false
namespace Go.Proofs.YtoainkbcfnlkcaaGreatDoor
open Go Vc
set_option linter.unusedSimpArgs false
set_option linter.unusedVariables false
set_option maxRecDepth 100000

/-! ### arguments, read -/
section
variable {H : Type} {enc : TypeId × Value → H} {W : World}
end
end Go.Proofs.YtoainkbcfnlkcaaGreatDoor

namespace Go.Proofs.YtoainkbcfnlkcaaGreatDoor
open Go Vc
open Go.ChangeShapes Go.WideShapes Go.ChangeAt Go.RowKit
set_option linter.unusedSimpArgs false
set_option linter.unusedVariables false
set_option maxRecDepth 100000

theorem ownG : ownKnob Tryz.prog.godebug = none := by kernel_rfl
theorem gSpace : Tryz.prog.globalNamed "strings.asciiSpace" = some 0 := by kernel_rfl
theorem gSpaceType : (Tryz.prog.globals[0]?).map (·.type) = some 165 := by kernel_rfl
/-- WHAT THE ROW's LIST GIVES. -/
theorem table {W : World} {l : List (String × DataW Unit)} (hl : (l.filter fun x => x.1 == "strings.asciiSpace") = [("strings.asciiSpace", Lib.tabData .u8 Lib.asciiSpaceTab)]) (h : laidMetH Tryz.prog l W) : Lib.TabIs Tryz.prog W "strings.asciiSpace" .u8 Lib.asciiSpaceTab := by
  have h1 := laidMetH.filter (fun x => x.1 == "strings.asciiSpace") h
  rw [hl] at h1
  have h1 : laidMet Tryz.prog [("strings.asciiSpace", Lib.tabData .u8 Lib.asciiSpaceTab)] W := h1
  exact Lib.tabIs_of_head (rest := []) gSpace gSpaceType Tryz.underlying165 (by kernel_rfl) (by kernel_rfl) (by kernel_rfl) h1
/-- from a contract that lends nothing to a call -/
theorem calls_of {f : FuncId} {args : List Value} {M : Mem} {post : PostP} {W : World} (h : CtT Tryz.prog f args (fun _ => none) M [] [] post noPan) (hM : Holds M W) :
    Calls Tryz.prog f args.toArray W fun e W' => ∃ v M', e = .returned v ∧ Keeps W W' ∧ Holds M' W' ∧ Ext M M' ∧ post v M' [] [] := by
  refine (h.2 W [] ⟨[], rfl, ?_⟩).mono ?_
  · exact { typ := (fun b t h => by cases h), holds := hM, blk := (fun b cs h => by cases h), rows := ⟨rfl, (fun i v e sz xs o h => by simp at h)⟩, nodup := List.nodup_nil, apart := (fun b h => by simp at h), os := rfl, tape := rfl, output := rfl, size := Nat.le_refl _, old := fun _ _ _ => rfl, mem := fun _ _ _ => rfl, le := fun _ _ h => h }
  · intro e W' hc
    cases e with
    | panicked ch => obtain ⟨_, _, _, _, hp⟩ := hc; exact hp.elim
    | outgrown => exact hc.elim
    | returned v =>
      obtain ⟨M', L', R', hpo, hv⟩ := hc
      obtain ⟨⟨bs, hi⟩, hk, hr⟩ := hpo
      obtain rfl : L' = [] := by simpa [keys] using hk
      obtain rfl : R' = [] := by simpa using hr
      exact ⟨v, M', rfl, ⟨hi.os, hi.tape, hi.output, hi.size, fun b hb => hi.old b hb (by simp)⟩, hi.holds, fun b cs hb => hi.le b cs hb, hv⟩
theorem Keeps.but {W W' : World} (h : Keeps W W') (may : MemPlace → Prop) : W.keptBut W' may := by
  refine ⟨h.1, h.2.2.1, fun i hi => ?_⟩
  rw [h.2.2.2.2 i hi]
  split
  · rename_i h1 h2
    rw [h1] at h2
    injection h2 with h2
    injection h2 with h2 h3 h4
    subst h2 h3 h4
    exact ⟨rfl, rfl, rfl, fun _ _ => rfl⟩
  · rename_i h1 h2
    rw [h1] at h2
    injection h2 with h2
    injection h2 with h2 h3
    subst h2 h3
    exact .inr ⟨rfl, rfl⟩
  · rfl
end Go.Proofs.YtoainkbcfnlkcaaGreatDoor

namespace Go.Proofs.YtoainkbcfnlkcaaGreatDoor
open Go Vc
open Go.ChangeMaps
open Go.ChangeShapes Go.WideShapes Go.ChangeAt Go.RowKit
set_option linter.unusedSimpArgs false
set_option linter.unusedVariables false
set_option maxRecDepth 100000

theorem gPow : Tryz.prog.globalNamed "internal/strconv.uint64pow10" = some 3 := by kernel_rfl
theorem gPowType : (Tryz.prog.globals[3]?).map (·.type) = some 251 := by kernel_rfl
theorem table2 {W : World} {l : List (String × DataW Unit)} (hl : (l.filter fun x => x.1 == "internal/strconv.uint64pow10") = [("internal/strconv.uint64pow10", Lib.tabData .u64 Lib.pow10Tab)]) (h : laidMetH Tryz.prog l W) : Lib.TabIs Tryz.prog W "internal/strconv.uint64pow10" .u64 Lib.pow10Tab := by
  have h1 := laidMetH.filter (fun x => x.1 == "internal/strconv.uint64pow10") h
  rw [hl] at h1
  have h1 : laidMet Tryz.prog [("internal/strconv.uint64pow10", Lib.tabData .u64 Lib.pow10Tab)] W := h1
  exact Lib.tabIs_of_head (rest := []) gPow gPowType Tryz.underlying251 (by kernel_rfl) (by kernel_rfl) (by kernel_rfl) h1
theorem memOf_tab {W : World} {name : String} {k : IntKind} {zs : List Int} {g : Nat} (hg : Tryz.prog.globalNamed name = some g) (h : Lib.TabIs Tryz.prog W name k zs) : memOf W g = some (zs.map fun z => Value.int k z) := by
  unfold Lib.TabIs World.var? at h
  rw [hg] at h
  simp only [Option.bind_some] at h
  split at h
  · rename_i cs t f hc
    injection h with h
    rw [memOf_some hc, h]
  · cases h
theorem maxLen {W : World} (h : W.ShapedOpen Tryz.prog) : ∃ m, memOf W 2 = some [.int .i64 m] := by
  have h0 : ((begin Tryz.prog (fun _ _ => 0) default).world.heap[2]?).bind Obj.row? = some (#[.int .i64 0], 3) := by kernel_rfl
  have hg : 2 < Tryz.prog.globals.size := by decide +kernel
  obtain ⟨cs, hh, hs, hr⟩ := h.1 2 _ _ hg h0
  obtain ⟨m, hm⟩ := cell_of_shapedOpen_int h hg h0 rfl (by kernel_rfl) (by kernel_rfl) Tryz.underlying3
  refine ⟨m, ?_⟩
  rw [memOf_some hh]
  unfold World.cell? at hm
  rw [hh] at hm
  have hs : cs.size = 1 := hs
  obtain ⟨l⟩ := cs
  match l, hs with
  | [v], _ =>
    have : some v = some (Value.int .i64 m) := hm
    injection this with this
    rw [this]
/-- WHAT THE ROW's LIST GIVES, for what is written. -/
theorem globP_of {W : World} {l : List (String × DataW Unit)} (h1 : (l.filter fun x => x.1 == "strings.asciiSpace") = [("strings.asciiSpace", Lib.tabData .u8 Lib.asciiSpaceTab)]) (h2 : (l.filter fun x => x.1 == "internal/strconv.uint64pow10") = [("internal/strconv.uint64pow10", Lib.tabData .u64 Lib.pow10Tab)])
    (hL : laidMetH Tryz.prog l W) (hS : W.ShapedOpen Tryz.prog) : GlobP (memOf W) := by
  refine ⟨fun g hg => ?_, memOf_tab gPow (table2 h2 hL), maxLen hS⟩
  obtain rfl := Option.some.inj (gSpace.symm.trans hg)
  exact memOf_tab gSpace (table h1 hL)
theorem kids : Kids Tryz.prog (· < Tryz.prog.types.size) := kids_rows (by kernel_rfl) (by kernel_rfl)
theorem full : ∀ t e, t < Tryz.prog.types.size → Tryz.prog.underlying t = some (.slice e) → 0 < Tryz.prog.cellsOf e := slices_full_of Tryz.prog (by kernel_rfl)
/-- arguments read behind the call as before -/
theorem args_same {H : Type} {enc : TypeId × Value → H} {W W' : World} (hk : Keeps W W') : ∀ {ts : List TypeId} {vs : List Value} {ds : List (DataW H)} {ps : List MemPlace}, (∀ t ∈ ts, t < Tryz.prog.types.size) →
    DataW.TrodAll enc Tryz.prog W 0 (fun _ => true) true ts vs ds ps → DataW.TrodAll enc Tryz.prog W' 0 (fun b => decide (b < W.heap.size)) true ts vs ds ps
  | [], [], [], ps, _, h => h
  | t :: ts, v :: vs, d :: ds, ps, hT, h => by
    obtain ⟨p, q, ⟨n, h1⟩, h2, rfl⟩ := h
    refine ⟨p, q, ⟨n, ?_⟩, args_same hk (fun t ht => hT t (List.mem_cons_of_mem _ ht)) h2, rfl⟩
    have hlt := DataW.trod_lt n t _ _ h1
    refine DataW.trod_respare kids full n t _ _ (hT t (List.mem_cons_self ..)) (DataW.trod_carry n t _ _ h1 fun pl hp => ?_) (fun pl hp => by simpa using hlt pl hp)
    have hb := hk.2.2.2.2 pl.block (hlt pl hp)
    cases pl with
    | cell b off =>
      show W'.cell? _ = W.cell? _
      unfold World.cell?
      simp only [MemPlace.block] at hb
      simp only [hb]
    | map b => exact hb
end Go.Proofs.YtoainkbcfnlkcaaGreatDoor

namespace Go.Proofs.YtoainkbcfnlkcaaGreatDoor
open Go Vc
open Go.ChangeShapes Go.WideShapes Go.ChangeAt Go.RowKit
set_option linter.unusedSimpArgs false
set_option linter.unusedVariables false
set_option maxRecDepth 100000

/-- A WORLD FOR THE WITNESS: the listed variables hold what their initialisers lay. -/
noncomputable def laidWorld2 (os : Os) : World :=
  { heap := ⟨[.cells (Lib.asciiSpaceTab.map fun z => Value.int .u8 z).toArray 165 (0, 0),
      .cells #[.pointer (some ⟨17, 0, none⟩)] 208 (0, 0),
      .cells #[.int .i64 0] 3 (0, 0),
      .cells #[.int .u64 1, .int .u64 10, .int .u64 100, .int .u64 1000, .int .u64 10000, .int .u64 100000, .int .u64 1000000, .int .u64 10000000, .int .u64 100000000, .int .u64 1000000000, .int .u64 10000000000, .int .u64 100000000000, .int .u64 1000000000000, .int .u64 10000000000000, .int .u64 100000000000000, .int .u64 1000000000000000, .int .u64 10000000000000000, .int .u64 100000000000000000, .int .u64 1000000000000000000, .int .u64 10000000000000000000] 251 (0, 0),
      .cells #[.iface 265 (.pointer (some ⟨19, 0, none⟩))] 151 (0, 0),
      .cells #[.iface 265 (.pointer (some ⟨18, 0, none⟩))] 151 (0, 0),
      .cells (Pinned.utf8FirstZ.map fun (n : Nat) => Value.int .u8 (n : Int)).toArray 165 (0, 0),
      .cells #[.int .u8 128, .int .u8 191, .int .u8 160, .int .u8 191, .int .u8 128, .int .u8 159, .int .u8 144, .int .u8 191, .int .u8 128, .int .u8 143, .int .u8 0, .int .u8 0, .int .u8 0, .int .u8 0, .int .u8 0, .int .u8 0, .int .u8 0, .int .u8 0, .int .u8 0, .int .u8 0, .int .u8 0, .int .u8 0, .int .u8 0, .int .u8 0, .int .u8 0, .int .u8 0, .int .u8 0, .int .u8 0, .int .u8 0, .int .u8 0, .int .u8 0, .int .u8 0] 263 (0, 0),
      .cells #[.int .u8 0, .int .u8 1, .int .u8 28, .int .u8 2, .int .u8 29, .int .u8 14, .int .u8 24, .int .u8 3, .int .u8 30, .int .u8 22, .int .u8 20, .int .u8 15, .int .u8 25, .int .u8 17, .int .u8 4, .int .u8 8, .int .u8 31, .int .u8 27, .int .u8 13, .int .u8 23, .int .u8 21, .int .u8 19, .int .u8 16, .int .u8 7, .int .u8 26, .int .u8 12, .int .u8 18, .int .u8 6, .int .u8 11, .int .u8 5, .int .u8 10, .int .u8 9] 270 (0, 0),
      .cells #[.int .u8 0, .int .u8 1, .int .u8 56, .int .u8 2, .int .u8 57, .int .u8 49, .int .u8 28, .int .u8 3, .int .u8 61, .int .u8 58, .int .u8 42, .int .u8 50, .int .u8 38, .int .u8 29, .int .u8 17, .int .u8 4, .int .u8 62, .int .u8 47, .int .u8 59, .int .u8 36, .int .u8 45, .int .u8 43, .int .u8 51, .int .u8 22, .int .u8 53, .int .u8 39, .int .u8 33, .int .u8 30, .int .u8 24, .int .u8 18, .int .u8 12, .int .u8 5, .int .u8 63, .int .u8 55, .int .u8 48, .int .u8 27, .int .u8 60, .int .u8 41, .int .u8 37, .int .u8 16, .int .u8 46, .int .u8 35, .int .u8 44, .int .u8 21, .int .u8 52, .int .u8 32, .int .u8 23, .int .u8 11, .int .u8 54, .int .u8 26, .int .u8 40, .int .u8 15, .int .u8 34, .int .u8 20, .int .u8 31, .int .u8 10, .int .u8 25, .int .u8 14, .int .u8 19, .int .u8 9, .int .u8 13, .int .u8 8, .int .u8 7, .int .u8 6] 271 (0, 0),
      .cells #[.pointer none] 208 (0, 0),
      .cells ((List.range 284).map fun (n : Nat) => Value.int .u64 (n : Int)).toArray 0 (0, 0),
      .map #[] 0, .finalizers #[] none, .cells #[.bool false] 0 (0, 0), .finalizers #[] none,
      .cells #[.int .u16 9, .int .u16 13, .int .u16 1, .int .u16 32, .int .u16 133, .int .u16 101, .int .u16 160, .int .u16 5760, .int .u16 5600, .int .u16 8192, .int .u16 8202, .int .u16 1, .int .u16 8232, .int .u16 8233, .int .u16 1, .int .u16 8239, .int .u16 8287, .int .u16 48, .int .u16 12288, .int .u16 12288, .int .u16 1] 225 (0, 0),
      .cells #[.slice (some ⟨16, 0, none⟩) 7 7, .slice none 0 0, .int .i64 2] 223 (0, 0),
      .cells #[.string ⟨#[118, 97, 108, 117, 101, 32, 111, 117, 116, 32, 111, 102, 32, 114, 97, 110, 103, 101]⟩] 267 (0, 0),
      .cells #[.string ⟨#[105, 110, 118, 97, 108, 105, 100, 32, 115, 121, 110, 116, 97, 120]⟩] 267 (0, 0)]⟩,
    tape := fun _ _ => 0, drawn := 0, os := os, output := #[] }
/-- places that are apart, told by their order -/
def ndB : List Nat → Nat → Nat → List MemPlace → Bool
  | _, _, _, [] => true
  | seen, cur, last, .cell b o :: r => if b = cur then decide (last < o) && ndB seen cur o r else !seen.contains b && ndB (cur :: seen) b o r
  | _, _, _, .map _ :: _ => false
theorem ndB_ok : ∀ (l : List MemPlace) (seen : List Nat) (cur last : Nat), ndB seen cur last l = true → (∀ p ∈ l, ∃ b o, p = .cell b o ∧ (b ∉ seen ∨ b = cur) ∧ (b = cur → last < o)) ∧ l.Nodup
  | [], _, _, _, _ => ⟨fun _ h => (by cases h), List.nodup_nil⟩
  | .map _ :: _, _, _, _, h => by cases h
  | .cell b o :: r, seen, cur, last, h => by
    unfold ndB at h
    split at h
    · rename_i hb
      subst hb
      simp only [Bool.and_eq_true, decide_eq_true_eq] at h
      obtain ⟨h1, h2⟩ := ndB_ok r seen b o h.2
      refine ⟨fun p hp => ?_, List.nodup_cons.2 ⟨fun hm => ?_, h2⟩⟩
      · rcases List.mem_cons.1 hp with rfl | hp
        · exact ⟨b, o, rfl, .inr rfl, fun _ => h.1⟩
        · obtain ⟨b', o', rfl, h3, h4⟩ := h1 p hp
          exact ⟨b', o', rfl, h3, fun he => Nat.lt_trans h.1 (h4 he)⟩
      · obtain ⟨b', o', h5, _, h4⟩ := h1 _ hm
        injection h5 with e1 e2
        subst e1 e2
        exact Nat.lt_irrefl _ (h4 rfl)
    · rename_i hb
      simp only [Bool.and_eq_true, Bool.not_eq_true', List.contains_eq_mem, decide_eq_false_iff_not] at h
      obtain ⟨h1, h2⟩ := ndB_ok r (cur :: seen) b o h.2
      have key : ∀ p ∈ r, ∃ b' o', p = .cell b' o' ∧ (b' ∉ seen) ∧ b' ≠ cur ∧ (b' = b → o < o') := by
        intro p hp
        obtain ⟨b', o', rfl, h3, h4⟩ := h1 p hp
        refine ⟨b', o', rfl, ?_, ?_, h4⟩
        · rcases h3 with h3 | rfl
          · exact fun hm => h3 (List.mem_cons_of_mem _ hm)
          · exact h.1
        · rcases h3 with h3 | rfl
          · rintro rfl; exact h3 (List.mem_cons_self ..)
          · exact hb
      refine ⟨fun p hp => ?_, List.nodup_cons.2 ⟨fun hm => ?_, h2⟩⟩
      · rcases List.mem_cons.1 hp with rfl | hp
        · exact ⟨b, o, rfl, .inl h.1, fun he => (hb he).elim⟩
        · obtain ⟨b', o', rfl, h3, h5, _⟩ := key p hp
          exact ⟨b', o', rfl, .inl h3, fun he => (h5 he).elim⟩
      · obtain ⟨b', o', h5, _, _, h4⟩ := key _ hm
        injection h5 with e1 e2
        subst e1 e2
        exact Nat.lt_irrefl _ (h4 rfl)
theorem laidMet_fast {P : Program} {w : World} {l : List (String × DataW Unit)} (fuel : Nat) (h : (DataW.laidRun P w fuel (l.map (·.1))).map (·.1) = some l)
    (hq : (DataW.laidRun P w fuel (l.map (·.1))).map (fun x => ndB [] 1000000 0 x.2 && laidRowsB P w x.2) = some true) : laidMet P l w := by
  cases hx : DataW.laidRun P w fuel (l.map (·.1)) with
  | none => simp [hx] at h
  | some x =>
    obtain ⟨l', ps⟩ := x
    simp only [hx, Option.map_some, Option.some.injEq] at h hq
    subst h
    simp only [Bool.and_eq_true] at hq
    exact laidMet_of_run fuel hx (decide_eq_true (ndB_ok _ _ _ _ hq.1).2) hq.2
end Go.Proofs.YtoainkbcfnlkcaaGreatDoor

namespace Go.Proofs.YtoainkbcfnlkcaaGreatDoor
open Go Vc
open Go.ChangeMaps
open Go.ChangeShapes Go.WideShapes Go.ChangeAt Go.RowKit
set_option linter.unusedSimpArgs false
set_option linter.unusedVariables false
set_option maxRecDepth 100000

section
variable {H : Type} {enc : TypeId × Value → H} {W : World}
end
end Go.Proofs.YtoainkbcfnlkcaaGreatDoor


import Derived.Test.YtoainkbcfnlkcaaGreatDoorW
import Derived.Test.YtoainkbcfnlkcaaGreatDoorN
set_option linter.all false
namespace Go.Proofs.YtoainkbcfnlkcaaGreatDoor
open Go Vc
open Go.ChangeMaps
open Go.ChangeShapes Go.WideShapes Go.ChangeAt Go.RowKit
set_option linter.unusedSimpArgs false
set_option linter.unusedVariables false
set_option maxRecDepth 100000

theorem journalTorn_witness (os : Os) {H : Type} (enc : TypeId × Value → H) :
    (OpenSpec.ofChange Rows.journalTornSpec).preRow enc Tryz.prog Tryz.f8 Rows.journalTornRow.domain false Rows.journalTornRow.laid ((laidWorld2 os).forCall (fun _ _ => 0) ⟨#[], #[.slice none 0 0, .int .i64 0], []⟩).memory #[.slice none 0 0, .int .i64 0] := by
  have hw : (DataW.whole enc Tryz.prog ((laidWorld2 os).forCall (fun _ _ => 0) ⟨#[], #[.slice none 0 0, .int .i64 0], []⟩).memory Tryz.f8.params.toList Rows.journalTornSpec.vars false (#[.slice none 0 0, .int .i64 0] : Array Value).toList 8).map (fun x => (x.1, x.2.1)) =
      some ([.nil, .lit (.int .i64 0)], []) := by kernel_rfl
  obtain ⟨⟨x1, x2, x3⟩, hx, hx1⟩ := Option.map_eq_some_iff.1 hw
  simp only [Prod.mk.injEq] at hx1
  obtain ⟨rfl, rfl⟩ := hx1
  exact OpenSpec.preRow_of_cond 8 hx (by kernel_rfl) (fun k hk => by cases hk) (by kernel_rfl) (laid_met2 os _)
theorem journalTorn_contract (H : Type) (enc : TypeId × Value → H) (W : World) (base : Nat) (args : Array Value) (ds gs : List (DataW H)) (before : List MemPlace)
    (hval : ∀ (j : Nat) t v, Tryz.f8.params[j]? = some t → args[j]? = some v → Value.okWide Tryz.prog W .any base t v)
    (hW : DataW.Whole enc Tryz.prog Tryz.f8.params.toList Rows.journalTornSpec.vars false W args.toList ds gs before)
    (hsz : (DataW.weightsEach Tryz.prog (Tryz.f8.params.toList ++ Rows.journalTornSpec.plain.varTypes Tryz.prog) (ds ++ gs)).all (· ≤ reachBytes) = true) (hL : laidMetH Tryz.prog Rows.journalTornRow.laid W) (hS : W.ShapedOpen Tryz.prog) :
    Calls Tryz.prog 8 args W fun e W' => ∃ v, e = .returned v ∧ Rows.journalTornSpec.post enc Tryz.prog Tryz.f8 false true false false W args v W' := by
  have hW' := hW
  obtain ⟨p, q, hA0, hV, rfl, hfz, hnd⟩ := hW
  have hA : DataW.TrodAll enc Tryz.prog W 0 (fun _ => true) true Tryz.f8.params.toList args.toList ds p := hA0
  clear hA0
  have hA' := hA
  rw [Tryz.params8] at hA hval hsz
  have hA : DataW.TrodAll enc Tryz.prog W 0 (fun _ => true) true [22, 3] args.toList ds p := hA
  obtain ⟨v0, vs0, d0, ds0, p0, q0, hargs0, hds0, hp0, h0, r0⟩ := trodAll_cons hA
  obtain ⟨v1, vs1, d1, ds1, p1, q1, hargs1, hds1, hp1, h1, r1⟩ := trodAll_cons r0
  obtain ⟨hvn, hdn, hpn⟩ := trodAll_nil r1
  subst hds0 hds1 hdn
  have hvs : args.toList = [v0, v1] := by rw [hargs0, hargs1, hvn]
  obtain rfl : args = #[v0, v1] := by cases args; simp_all
  obtain ⟨rfl, rfl⟩ := trodVars_none hV
  simp only [List.append_nil] at hW' hsz
  have hG : GlobP (memOf W) := globP_of (by kernel_rfl) (by kernel_rfl) hL hS
  have hwt : ∀ (j : Nat) t d, ([22, 3] : List TypeId)[j]? = some t → [d0, d1][j]? = some d → ∀ k ∈ d.weights Tryz.prog t, k ≤ reachBytes := by
    intro j t d ht hd k hk
    have hz := List.all_eq_true.1 hsz k ?_
    · simpa using hz
    · refine weightsEach_mem (i := j) (t := t) (d := d) ?_ hd hk
      exact ht
  obtain ⟨a0, m0, c0, rfl⟩ := okWide_slice Tryz.underlying22 (hval 0 _ _ rfl rfl)
  obtain ⟨n0, k0⟩ := h0
  obtain ⟨l0, u0, eu0, hr0, hd0⟩ := open_stmts k0 (hwt 0 _ _ rfl rfl)
  obtain rfl : Value.slice a0 m0 c0 = u0 := by simpa [Value.cells] using eu0
  obtain ⟨z1, rfl, rfl, rfl, w1⟩ := open_int Tryz.underlying3 (hval 1 3 v1 rfl rfl) h1
  have b1 := int_bounds w1
  have hc := calls_of (ct_jtorn hG hr0 b1 (fun _ => none)) (memOf_holds W)
  refine hc.mono fun e W' ⟨v, M', he, hk, _, _, hv⟩ => ?_
  subst he; subst hv
  refine ⟨_, rfl, _, _, _, [], p, [], hW', ?_, ?_, ?_, Keeps.but hk _, fun h => by cases h⟩
  · exact trodAll_mk1 (shut_bool Tryz.underlying4 true)
  · exact args_same hk (by decide +kernel) hA'
  · rfl
end Go.Proofs.YtoainkbcfnlkcaaGreatDoor


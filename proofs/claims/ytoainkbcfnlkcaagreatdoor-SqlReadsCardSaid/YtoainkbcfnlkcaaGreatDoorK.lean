import Derived.Test.YtoainkbcfnlkcaaGreatDoorJ
set_option linter.all false
namespace Go.Proofs.YtoainkbcfnlkcaaGreatDoor
open Go Vc
set_option linter.unusedSimpArgs false
set_option linter.unusedVariables false
set_option maxRecDepth 10000

/-- where the walk stands: all but the writer's text as it was -/
def StW (T : Tm) (M : Mem) (b : Nat) (A : Bs) (h : Sh) : Prop := ∃ M' p a c, wrP b p ∧ Ext M M' ∧ M' b = none ∧ h = ⟨T, M', [(b, [p, .slice a A.length c])], [(.slice a A.length c, 5, 1, Lib.byteCells A)]⟩
/-- what is left to be written -/
def Rest (W A : Bs) (r : List Bs) : Prop := W = putM A r ∧ A.length + wLen r ≤ 1000000000
theorem Rest.step {W A : Bs} {u r : List Bs} (h : Rest W A (u ++ r)) : A.length + wLen u ≤ 1000000000 ∧ Rest W (putM A u) r := by
  obtain ⟨h1, h2⟩ := h
  rw [wLen_app] at h2
  have := putM_le u A
  exact ⟨by omega, by rw [h1, putM_app], by omega⟩
theorem StW.put {T : Tm} {M : Mem} {b : Nat} {A : Bs} {M' : Mem} {p : Value} {a : Option Addr} {c : Nat} (hp : wrP b p) (he : Ext M M') (hn : noneL M' ([] ++ [(b, [p, .slice a A.length c])])) : StW T M b A ⟨T, M', [] ++ [(b, [p, .slice a A.length c])], [(.slice a A.length c, 5, 1, Lib.byteCells A)]⟩ :=
  ⟨M', p, a, c, hp, he, hn.1, rfl⟩
theorem Rest.nil {W A : Bs} {r : List Bs} (h : Rest W A ([] ++ r)) : Rest W A r := h
end Go.Proofs.YtoainkbcfnlkcaaGreatDoor

namespace Go.Proofs.YtoainkbcfnlkcaaGreatDoor
open Go Vc
set_option linter.unusedSimpArgs false
set_option linter.unusedVariables false
set_option maxRecDepth 10000

end Go.Proofs.YtoainkbcfnlkcaaGreatDoor

namespace Go.Proofs.YtoainkbcfnlkcaaGreatDoor
open Go Vc
set_option linter.unusedSimpArgs false
set_option linter.unusedVariables false
set_option maxRecDepth 10000

end Go.Proofs.YtoainkbcfnlkcaaGreatDoor


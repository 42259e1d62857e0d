import Derived.Test.YtoainkbcfnlkcaaGreatDoorI
import Derived.Shelf.Strings.Builder1
import Derived.Lib.Replace
import Derived.Lib.ItoaNum
import Derived.Lib.Strings
import Derived.Test.YtoainkbcfnlkcaaGreatDoorS
import Derived.Lib.SplitLaws
set_option linter.all false
namespace Go.Proofs.YtoainkbcfnlkcaaGreatDoor
open Go Vc Go.RowKit Go.Shelf
set_option linter.unusedSimpArgs false
set_option linter.unusedVariables false
set_option maxRecDepth 10000

def wrP (b : Nat) (p : Value) : Prop := p = .pointer none ∨ p = .pointer (some ⟨b, 0, none⟩)
end Go.Proofs.YtoainkbcfnlkcaaGreatDoor

namespace Go.Proofs.YtoainkbcfnlkcaaGreatDoor
open Go Vc
set_option linter.unusedSimpArgs false
set_option linter.unusedVariables false
set_option maxRecDepth 10000

/-! ### what is written -/
def sepM (a : Bs) : Bs := if a = [] then [] else a ++ [32]
/-- words behind what stands written -/
def putM (acc : Bs) (ws : List Bs) : Bs := ws.foldl (fun a s => sepM a ++ s) acc
theorem putM_cons (acc s : Bs) (ws : List Bs) : putM acc (s :: ws) = putM (sepM acc ++ s) ws := rfl
theorem putM_app (acc : Bs) (a b : List Bs) : putM acc (a ++ b) = putM (putM acc a) b := List.foldl_append ..
def wLen : List Bs → Nat | [] => 0 | s :: ws => s.length + 1 + wLen ws
theorem wLen_app : ∀ (a b : List Bs), wLen (a ++ b) = wLen a + wLen b
  | [], b => by simp [wLen]
  | s :: a, b => by simp only [List.cons_append, wLen, wLen_app a b]; omega
theorem sepM_le (a : Bs) : (sepM a).length ≤ a.length + 1 := by unfold sepM; split <;> simp
theorem putM_le : ∀ (ws : List Bs) (acc : Bs), (putM acc ws).length ≤ acc.length + wLen ws
  | [], acc => by simp [putM, wLen]
  | s :: ws, acc => by
    rw [putM_cons]
    have := putM_le ws (sepM acc ++ s)
    have h2 := sepM_le acc
    simp only [wLen, List.length_append] at this ⊢
    omega
end Go.Proofs.YtoainkbcfnlkcaaGreatDoor

namespace Go.Proofs.YtoainkbcfnlkcaaGreatDoor
open Go Vc
set_option linter.unusedSimpArgs false
set_option linter.unusedVariables false
set_option maxRecDepth 10000

end Go.Proofs.YtoainkbcfnlkcaaGreatDoor

namespace Go.Proofs.YtoainkbcfnlkcaaGreatDoor
open Go Vc
set_option linter.unusedSimpArgs false
set_option linter.unusedVariables false
set_option maxRecDepth 10000

end Go.Proofs.YtoainkbcfnlkcaaGreatDoor

namespace Go.Proofs.YtoainkbcfnlkcaaGreatDoor
open Go Vc Go.RowKit Go.Lib Go.Shelf
set_option linter.unusedSimpArgs false
set_option linter.unusedVariables false
set_option maxRecDepth 10000

/-- what stays of the package variables, for what is written -/
def GlobP (M : Mem) : Prop := Glob M ∧ M 3 = some (Lib.pow10Tab.map fun z => Value.int .u64 z) ∧ ∃ m, M 2 = some [.int .i64 m]
theorem GlobP.ext {M M' : Mem} (h : GlobP M) (he : Ext M M') : GlobP M' := ⟨h.1.ext he, he _ _ h.2.1, by obtain ⟨m, hm⟩ := h.2.2; exact ⟨m, he _ _ hm⟩⟩
end Go.Proofs.YtoainkbcfnlkcaaGreatDoor

namespace Go.Proofs.YtoainkbcfnlkcaaGreatDoor
open Go Vc
set_option linter.unusedSimpArgs false
set_option linter.unusedVariables false
set_option maxRecDepth 10000

end Go.Proofs.YtoainkbcfnlkcaaGreatDoor

namespace Go.Proofs.YtoainkbcfnlkcaaGreatDoor
open Go Vc
set_option linter.unusedSimpArgs false
set_option linter.unusedVariables false
set_option maxRecDepth 10000

end Go.Proofs.YtoainkbcfnlkcaaGreatDoor


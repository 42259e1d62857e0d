import Derived.Test.YtmccpbcbofhmlaaGreatDoorC
import Derived.Shelf.Strings.Builder1
import Derived.Test.YtmccpbcbofhmlaaGreatDoorB
import Derived.Recover
import Derived.Laws.Pointers
set_option linter.all false
namespace Go.Proofs.YtmccpbcbofhmlaaGreatDoor
open Go Vc
set_option maxRecDepth 10000
section
variable {α β : Type} {T N : Tm} {M : Mem} {R : RR} {dr : List (Nat × Sched)} {ts : List ResultVar} {post : PostP} {pb : Nat} {lv0 lv : Value} {en op0 op : Int} {d : Option Nat} {s : List Vc.Item} {e : Env} {toks : List Tk} {L1 : LL}
end
def tl (b : Bool) (t : List Tk) : List Tk := if b = true then t.tail else t
theorem RS_one {α : Type} {r : α → List Value → Prop} {sz : Nat} {M : Mem} {l : List α} {v : Value} (h : RS M r sz l v) : v.oneCell' = true ∧ v.cells.toList = [v] := by
  obtain ⟨_, _, h2, _⟩ := h
  rcases h2 with ⟨_, _, rfl, _⟩ | ⟨b, o, n, c, rfl, _⟩ <;> exact ⟨rfl, rfl⟩
theorem RS_nil {α : Type} {r : α → List Value → Prop} {sz : Nat} {M : Mem} : RS M r sz [] (.slice none 0 0) := ⟨Nat.zero_le _, [], .inl ⟨_, _, rfl, rfl, fun _ => rfl⟩, rfl⟩
theorem RI_len {n : Int} {cs} (h : RI n cs) : cs.length = 1 := by unfold RI at h; subst h; rfl
theorem rCall_frz2 {P : Program} {F : Fi} {f : FuncId} {args : List Value} {dd : Option Nat} {s : List Vc.Item} {e : Env} {ds : List Deferred} {N : Tm} {M : Mem} {b b' : Nat} {cs cs' : List Value} {L : LL} {R : RR} (hb : bodied P f = true)
    (h : ∀ M', Ext M M' → M' b = some cs → noneL M' ((b', cs') :: L) → rCall P F f args dd s e ds ⟨N, M', (b', cs') :: L, R⟩ ⟨⟩) : rCall P F f args dd s e ds ⟨N, M, (b', cs') :: (b, cs) :: L, R⟩ ⟨⟩ :=
  rCall_close (k := fun h' => ∃ M', Ext M M' ∧ M' b = some cs ∧ noneL M' ((b', cs') :: L) ∧ h' = ⟨N, M', (b', cs') :: L, R⟩) (Close_perm (List.Perm.swap _ _ _) (Close_freeze fun he h1 h2 => Close_id ⟨_, he, h1, h2, rfl⟩))
    (by rintro h' ⟨M', he, h1, h2, rfl⟩; exact h M' he h1 h2) hb
theorem RQ_form {M : Mem} {q : Q} {cs : List Value} (h : RQ M q cs) : ∃ p o r, cs = [p, o, r, .int .i64 q.limit] ∧ p.oneCell' = true ∧ o.oneCell' = true ∧ r.oneCell' = true := by
  obtain ⟨p, o, r, h1, h2, h3, rfl⟩ := h
  exact ⟨p, o, r, rfl, (RS_one h1).1, (RS_one h2).1, (RS_one h3).1⟩
open Go Vc Go.RowKit Go.Shelf
open Go Vc Go.RowKit
def namesW (l : List Bs) : Int := if l.all namedB = true then 0 else 7
def givenW (s : Bs) : Int := if s = [] then 0 else namesW [s]
mutual
def shapeX (deep n : Nat) : X → Int × Nat
  | .mk k v tab name kids => if 200 < n + 1 ∨ 20 < deep then (4, n + 1) else if kidsN k < 0 then (1, n + 1) else if (kids.length : Int) ≠ kidsN k then (5, n + 1)
    else if k = 1 then (wrongV v, n + 1) else if k = 2 ∧ (namedB name = false ∨ (tab ≠ [] ∧ namedB tab = false)) then (7, n + 1) else shapeL (deep + 1) (n + 1) kids
def shapeL (deep n : Nat) : List X → Int × Nat
  | [] => (0, n)
  | x :: l => if (shapeX deep n x).1 ≠ 0 then shapeX deep n x else shapeL deep (shapeX deep n x).2 l
end
mutual
theorem shapeX_le (deep n : Nat) : ∀ x, n ≤ 200 → (shapeX deep n x).2 ≤ 201 ∧ ((shapeX deep n x).1 = 0 → (shapeX deep n x).2 ≤ 200)
  | .mk k v tab name kids, hn => by
    rw [shapeX]
    by_cases h : 200 < n + 1 ∨ 20 < deep
    · rw [if_pos h]; exact ⟨by show n + 1 ≤ 201; omega, fun h => by cases h⟩
    · have ih := shapeL_le (deep + 1) (n + 1) kids (by omega)
      rw [if_neg h]
      repeat' split
      all_goals first | exact ih | exact ⟨by show n + 1 ≤ 201; omega, fun _ => by show n + 1 ≤ 200; omega⟩
theorem shapeL_le (deep n : Nat) : ∀ l, n ≤ 200 → (shapeL deep n l).2 ≤ 201 ∧ ((shapeL deep n l).1 = 0 → (shapeL deep n l).2 ≤ 200)
  | [], hn => by rw [shapeL]; exact ⟨by show n ≤ 201; omega, fun _ => hn⟩
  | x :: l, hn => by
    rw [shapeL]
    have hx := shapeX_le deep n x hn
    split
    · exact hx
    · rename_i h0
      exact shapeL_le deep _ l (hx.2 (Classical.not_not.1 h0))
end
theorem RX_at {M : Mem} {b o : Nat} {x : X} {cs : List Value} (h : RX M x cs) (ha : At M b o cs) : ∃ s, RS M (RX M) 7 x.kids s ∧ mcell M ⟨b, o, none⟩ = some (.int .i64 x.k) ∧ mcell M ⟨b, o + 1, none⟩ = some (.int .i64 x.v.k) ∧ mcell M ⟨b, o + 2, none⟩ = some (.int .i64 x.v.n) ∧ mcell M ⟨b, o + 3, none⟩ = some (st x.v.t) ∧
    mcell M ⟨b, o + 4, none⟩ = some (st x.tab) ∧ mcell M ⟨b, o + 5, none⟩ = some (st x.name) ∧ mcell M ⟨b, o + 6, none⟩ = some s := by
  obtain ⟨s, rfl, _, hs⟩ := RX_form h
  exact ⟨s, hs, ha.1, ha.2.1, ha.2.2.1, ha.2.2.2.1, ha.2.2.2.2.1, ha.2.2.2.2.2.1, ha.2.2.2.2.2.2.1⟩
theorem rCall_frzAll {F : Fi} {f : FuncId} {args : List Value} {dd : Option Nat} {s : List Vc.Item} {e : Env} {ds : List Deferred} {N : Tm} {M : Mem} {L : LL} {R : RR} (hb : bodied Tryz.prog f = true)
    (h : ∀ M', Ext M M' → heldL M' L → rCall Tryz.prog F f args dd s e ds ⟨N, M', [], R⟩ ⟨⟩) : rCall Tryz.prog F f args dd s e ds ⟨N, M, L, R⟩ ⟨⟩ :=
  rCall_close (k := fun h' => ∃ M', Ext M M' ∧ heldL M' L ∧ h' = ⟨N, M', [], R⟩) (Close_frzAll fun M' he hL => Close_id ⟨M', he, hL, rfl⟩) (by rintro h' ⟨M', he, hL, rfl⟩; exact h M' he hL) hb
def exprW (x : X) : Int := (shapeX 1 0 x).1
def orE (a b : Int) : Int := if a ≠ 0 then a else b
def firstW : List Int → Int | [] => 0 | a :: l => orE a (firstW l)
theorem RX_atf {M : Mem} {b o : Nat} {x : X} {cs : List Value} (h : RX M x cs) (ha : At M b o cs) : ∃ s, cs = [.int .i64 x.k, .int .i64 x.v.k, .int .i64 x.v.n, st x.v.t, st x.tab, st x.name, s] ∧ s.oneCell' = true ∧ mcell M ⟨b, o, none⟩ = some (.int .i64 x.k) ∧ mcell M ⟨b, o + 1, none⟩ = some (.int .i64 x.v.k) ∧ mcell M ⟨b, o + 2, none⟩ = some (.int .i64 x.v.n) ∧ mcell M ⟨b, o + 3, none⟩ = some (st x.v.t) ∧
    mcell M ⟨b, o + 4, none⟩ = some (st x.tab) ∧ mcell M ⟨b, o + 5, none⟩ = some (st x.name) ∧ mcell M ⟨b, o + 6, none⟩ = some s := by
  obtain ⟨s, rfl, h1, hs⟩ := RX_form h
  exact ⟨s, rfl, h1, ha.1, ha.2.1, ha.2.2.1, ha.2.2.2.1, ha.2.2.2.2.1, ha.2.2.2.2.2.1, ha.2.2.2.2.2.2.1⟩
def sourceW (i : Nat) (s : So) : Int :=
  if (¬ (decide (s.k = 1) == decide ((i : Int) = 0)) = true ∨ s.k < 1) ∨ 5 < s.k then 1 else
  if firstW [namesW [s.name], givenW s.as] ≠ 0 ∨ i = 0 then firstW [namesW [s.name], givenW s.as] else exprW s.on
end Go.Proofs.YtmccpbcbofhmlaaGreatDoor

import Derived.Test.YtmccpbcbofhmlaaGreatDoorG
set_option linter.all false
namespace Go.Proofs.YtmccpbcbofhmlaaGreatDoor
open Go Vc
set_option maxRecDepth 10000
def barS (a : Bs) : Bs := [124] ++ a ++ [124]
def occR (seen pat : Bs) (n : Nat) : Bool := (List.range n).any fun k => decide ((seen.drop k).take pat.length = pat)
def occA (seen pat : Bs) : Bool := occR seen pat (seen.length + 1 - pat.length)
def fromR (rels : List Rel) : List So → Nat → Pl → List (Bs × Bs) → Bs → Int → (Pl × List (Bs × Bs)) × Int
  | [], _, p, names, _, e => ((p, names), e)
  | s :: l, i, p, names, seen, e =>
    let q := findR rels s.name
    let e1 := if (findG s.name 0 rels).isSome = true then e else putE e 7
    let e2 := if occA seen (barS (asOf s)) = true then putE e1 7 else e1
    let all := names ++ q.2.map fun c => (asOf s, c.name)
    if i = 0 then fromR rels l 1 q.1 all (seen ++ barS (asOf s)) e2
    else fromR rels l (i + 1) (.mk (joinK s.k) 0 (exprR all s.on e2).1 [] [] [p, q.1]) (if s.k = 2 ∨ s.k = 5 then all else names) (seen ++ barS (asOf s)) (exprR all s.on e2).2
theorem fromR_cons (rels : List Rel) (s : So) (l : List So) (i : Nat) (p : Pl) (names : List (Bs × Bs)) (seen : Bs) (e : Int) {q : Pl × List Co} {e1 e2 : Int} {all : List (Bs × Bs)} (hq : q = findR rels s.name) (h1 : e1 = if (findG s.name 0 rels).isSome = true then e else putE e 7) (h2 : e2 = if occA seen (barS (asOf s)) = true then putE e1 7 else e1) (ha : all = names ++ q.2.map fun c => (asOf s, c.name)) :
    fromR rels (s :: l) i p names seen e = if i = 0 then fromR rels l 1 q.1 all (seen ++ barS (asOf s)) e2
    else fromR rels l (i + 1) (.mk (joinK s.k) 0 (exprR all s.on e2).1 [] [] [p, q.1]) (if s.k = 2 ∨ s.k = 5 then all else names) (seen ++ barS (asOf s)) (exprR all s.on e2).2 := by
  subst hq h1
  subst h2
  subst ha
  rw [fromR]
def drFrom : List (Nat × Sched) := [(28, .take 1 <| .take 2 <| .take 5 <| .take 6 <| .effN 0 false (.take 3 <| .take 4 <| .eff 7 false (.eff 8 false (.eff 9 true (.done) <| .no) <| .no) <| .no) <| .eff 7 false (.effN 0 false (.take 3 <| .take 4 <| .eff 8 false (.eff 9 true (.done) <| .no) <| .no) <| .no) <| .no)]
attribute [go_sem] drFrom
def evX (grp : Bool) (names : List (Bs × Bs)) (keys : List X) (x : X) (e : Int) (ags : List Ag) : Ex × Int × List Ag := if grp = true then exprH names keys x e ags else ((exprR names x e).1, (exprR names x e).2, ags)
def evsX (grp : Bool) (names : List (Bs × Bs)) (keys : List X) : List X → Int → List Ag → List Ex × Int × List Ag
  | [], e, ags => ([], e, ags)
  | x :: l, e, ags => let y := evX grp names keys x e ags; let z := evsX grp names keys l y.2.1 y.2.2; (y.1 :: z.1, z.2.1, z.2.2)
theorem evsX_true (names : List (Bs × Bs)) (keys : List X) : ∀ (l : List X) (e : Int) (ags : List Ag), evsX true names keys l e ags = exprsH names keys l e ags
  | [], e, ags => by rw [evsX, exprsH]
  | x :: l, e, ags => by
    rw [evsX, exprsH]
    simp only [evsX_true names keys l, evX, if_true]
theorem evsX_false (names : List (Bs × Bs)) (keys : List X) : ∀ (l : List X) (e : Int) (ags : List Ag), evsX false names keys l e ags = ((exprsR names l e).1, (exprsR names l e).2, ags)
  | [], e, ags => by rw [evsX, exprsR]
  | x :: l, e, ags => by
    rw [evsX, exprsR]
    simp only [evsX_false names keys l, evX, if_false, Bool.false_eq_true]
def whR (names : List (Bs × Bs)) (s : Se) (p : Pl) (e : Int) : Pl × Int := if s.hasW = true then (.mk 2 0 (exprR names s.wh e).1 [] [] [p], (exprR names s.wh e).2) else (p, e)
def hvR (names : List (Bs × Bs)) (s : Se) (e : Int) (ags : List Ag) : Ex × Int × List Ag := if s.hasH = true then exprH names s.group s.hv e ags else (zeroE, e, ags)
def grpR (names : List (Bs × Bs)) (s : Se) (e : Int) : List Ex × Int := if groupedS s = true then exprsR names s.group e else ([], e)
def bodyR (s : Se) (p : Pl) (names : List (Bs × Bs)) (e : Int) : (Pl × List Bs) × Int :=
  if s.star = true then ((p, names.map (·.2)), if groupedS s = true then putE e 8 else e)
  else
    let k := grpR names s e
    let it := evsX (groupedS s) names s.group (s.items.map (·.x)) k.2 []
    if groupedS s = true then
      let h := hvR names s it.2.1 it.2.2
      let g : Pl := .mk 12 0 zeroE k.1 h.2.2 [p]
      ((.mk 3 0 zeroE it.1 [] [if s.hasH = true then .mk 2 0 h.1 [] [] [g] else g], calledL 0 s.items), h.2.1)
    else ((.mk 3 0 zeroE it.1 [] [p], calledL 0 s.items), it.2.1)
def selR2 (s : Se) (p : Pl) (names : List (Bs × Bs)) (e : Int) : (Pl × List Bs) × Int := let b := bodyR s p names e; ((if s.distinct = true then .mk 11 0 zeroE [] [] [b.1.1] else b.1.1, b.1.2), b.2)
def selR (rels : List Rel) (s : Se) (e : Int) : (Pl × List Bs) × Int :=
  let f := fromR rels s.src 0 zeroP [] [] e
  let w := whR f.1.2 s f.1.1 f.2
  selR2 s w.1 f.1.2 w.2
abbrev z6 : List Value := [.int .i64 0, .int .i64 0, .int .i64 0, st [], .int .i64 0, .slice none 0 0]
def setR (op : Int) (a b : Pl) : Pl := if op = 1 then plan2 8 a b else if op = 2 then plan1 11 (plan2 8 a b) else if op = 3 then plan1 10 (plan2 9 a b) else plan1 10 (plan2 9 (plan1 11 a) (plan1 11 b))
def partsR (rels : List Rel) (ops : List Int) : Nat → Pl → List Bs → Int → List Se → (Pl × List Bs) × Int
  | _, p, names, e, [] => ((p, names), e)
  | i, p, names, e, s :: l => if i = 0 then partsR rels ops 1 (selR rels s e).1.1 (selR rels s e).1.2 (selR rels s e).2 l else partsR rels ops (i + 1) (setR (ops.getD (i - 1) 0) p (selR rels s e).1.1) names (selR rels s e).2 l
def topR (q : Q) (p : Pl) (names : List Bs) (e : Int) : Pl × Int := if 0 ≤ q.limit then (.mk 13 q.limit zeroE (exprsR (names.map fun n => ([], n)) q.order e).1 [] [p], (exprsR (names.map fun n => ([], n)) q.order e).2) else (p, e)
def queryR (rels : List Rel) (q : Q) : (Pl × List Bs) × Int := let r := partsR rels q.ops 0 zeroP [] 0 q.parts; (((topR q r.1.1 r.1.2 r.2).1, r.1.2), (topR q r.1.1 r.1.2 r.2).2)
end Go.Proofs.YtmccpbcbofhmlaaGreatDoor

import Derived.Test.YtoainkbcfnlkcaaGreatDoorI
import Derived.Shelf.Strings.Builder1
import Derived.Lib.Replace
import Derived.Lib.ItoaNum
import Derived.Lib.Strings
import Derived.Test.YtoainkbcfnlkcaaGreatDoorS
import Derived.Lib.SplitLaws
set_option linter.all false
namespace Go.Proofs.YtoainkbcfnlkcaaGreatDoor
open Go Vc Go.RowKit Go.Shelf
set_option linter.unusedSimpArgs false
set_option linter.unusedVariables false
set_option maxRecDepth 10000

/-! ### the writer -/
theorem liesWriter : liesAt Tryz.prog Tryz.prog.depth 97 (2 / Tryz.prog.cellsOf 97) 0 95 1 = true := by kernel_rfl
set_option maxHeartbeats 1000000 in
set_option maxRecDepth 100000 in
theorem w_copyCheck_freshW (b : Nat) (w : World) (h0 : w.cell? ⟨b, 0, none⟩ = some (.pointer none)) (hsh : w.shape? b = some (97, 2)) (hfz : w.frozen? ⟨b, 0, none⟩ = false) :
    Calls Tryz.prog 136 #[.pointer (some ⟨b, 0, none⟩)] w fun e w' => e = .returned (.tuple #[]) ∧ w' = w.setCell ⟨b, 0, none⟩ (.pointer (some ⟨b, 0, none⟩)) := by
  obtain ⟨j, hj, hjs⟩ := Option.map_eq_some_iff.1 infoBuilder
  have mixed := mx
  have t95 := Tryz.underlying95
  have t93 := Tryz.underlying93
  go_enter Tryz.func136, ntm136
  go_wp2
  rw [Lib.run_to_unsafe w ⟨b, 0, none⟩ Tryz.underlying93 Tryz.underlying216 hj (by rw [hjs]; decide) hsh (Nat.zero_lt_succ 1)]
  simp only [Result.andThen]
  rw [Oper.upon_value]
  go_wp2
  rw [run_callFunc_extern Tryz.func165 (by kernel_rfl) (by kernel_rfl) (by kernel_rfl) (e := Extern.AbiNoEscape.same) (by kernel_rfl)]
  rw [Lib.run_noEscape]
  simp only [Result.andThen]
  rw [Oper.upon_value]
  go_wp2
  rw [Lib.run_from_unsafe w ⟨b, 0, none⟩ Tryz.underlying216 Tryz.underlying93 hj hsh liesWriter]
  simp only [Result.andThen]
  rw [Oper.upon_value]
  go_wp2
  go_end0
  exact ⟨rfl, rfl⟩
theorem ct_copyCheckW {T : Tm} {M : Mem} {b : Nat} {p v : Value} (hT : T b = some 97) (hp : p = .pointer none ∨ p = .pointer (some ⟨b, 0, none⟩)) :
    CtT Tryz.prog 136 [.pointer (some ⟨b, 0, none⟩)] T M [(b, [p, v])] [] (fun r M' L' R' => r = .tuple #[] ∧ M' = M ∧ L' = [(b, [.pointer (some ⟨b, 0, none⟩), v])] ∧ R' = []) noPan := by
  refine ⟨bod136', fun w U hw => ?_⟩
  obtain ⟨bs, rfl, hi⟩ := hw
  have hbk : w.heap[b]? = some (.cells #[p, v] 97 (0, 0)) := hi.typed hT (List.mem_singleton.2 rfl)
  have c0 : w.cell? ⟨b, 0, none⟩ = some p := by rw [Lib.cell_of_heap hbk]; rfl
  rcases hp with rfl | rfl
  · refine Calls.mono (w_copyCheck_freshW b w c0 (by simp [World.shape?, hbk]) (Lib.frozen_of_heap hbk 0)) ?_
    rintro e w' ⟨rfl, rfl⟩
    have h2 := hi.store (k := b) (i := 0) (v := .pointer (some ⟨b, 0, none⟩)) (by simp)
    have h3 : lset [(b, [.pointer none, v])] b 0 (.pointer (some ⟨b, 0, none⟩)) = [(b, [.pointer (some ⟨b, 0, none⟩), v])] := by simp [lset]
    rw [h3] at h2
    exact ⟨M, _, [], ⟨⟨bs, h2⟩, rfl, rfl⟩, rfl, rfl, rfl, rfl⟩
  · refine Calls.mono (w_copyCheck_used b w c0) ?_
    rintro e w' ⟨rfl, rfl⟩
    exact ⟨M, _, [], ⟨⟨bs, hi⟩, rfl, rfl⟩, rfl, rfl, rfl, rfl⟩
/-- the writer's text -/
def wrL (b : Nat) (p : Value) (a : Option Addr) (n c : Nat) : LL := [(b, [p, .slice a n c])]
def wrR (a : Option Addr) (n c : Nat) (acc : Bs) : RR := [(.slice a n c, 5, 1, Lib.byteCells acc)]
def wrP (b : Nat) (p : Value) : Prop := p = .pointer none ∨ p = .pointer (some ⟨b, 0, none⟩)
/-- what stands written behind the call -/
def wrPost (b : Nat) (acc : Bs) : PostP := fun _ _ L R => ∃ p a c, wrP b p ∧ L = wrL b p a acc.length c ∧ R = wrR a acc.length c acc
theorem ct_WriteByteW {T : Tm} {M : Mem} {b : Nat} {a : Option Addr} {c : Nat} {p : Value} {acc : Bs} (ch : UInt8) (hT : T b = some 97) (hp : wrP b p) (hl : acc.length ≤ 1000000000) :
    CtT Tryz.prog 98 [.pointer (some ⟨b, 0, none⟩), .int .u8 ch.toNat] T M (wrL b p a acc.length c) (wrR a acc.length c acc) (wrPost b (acc ++ [ch])) noPan := by
  unfold wrL wrR
  refine ct_run mx bod98 Tryz.func98 rfl (by rw [nt98]; exact Nat.le_of_ble_eq_true rfl) (dr := dr98) (by kernel_rfl) rs98 ?_
  intro hno _
  simp only [noneL, and_true] at hno
  simp +contextual only [go_sem, Rcb, Rbk, sevalprocAttr]
  refine rCall_one [] (ct_copyCheckW hT hp) ?_ (fun _ _ _ _ _ _ h => h.elim)
  rintro v M' L' _ _ hno' ⟨rfl, rfl, rfl, -⟩
  simp +contextual only [go_sem, Rcb, Rbk, sevalprocAttr, hno]
  intro b1 hb1 hap1
  have hn : (Lib.byteCells acc).length = acc.length := by simp [Lib.byteCells]
  refine app_row row37 okt37 (.slice _ 1 _ _ _ Tryz.underlying37 (cells_own [] hb1 trivial rfl) (by intro u hu; simp only [List.mem_singleton] at hu; subst hu; rfl)) (by rw [hn]; simp only [List.length_cons, List.length_nil]; omega) ?_
  intro a' m c' hm
  have : m = acc.length + 1 := by rw [hn] at hm; simp only [List.length_cons, List.length_nil] at hm; omega
  subst this
  simp +contextual only [go_sem, Rcb, Rbk, sevalprocAttr, hno, hap1]
  refine Close_drop (end_id ExtT.rfl' rfl rfl ⟨_, a', c', .inr rfl, ?_, ?_⟩)
  · simp [wrL]
  · simp [wrR, Lib.byteCells]
theorem ct_WriteStringW {T : Tm} {M : Mem} {b : Nat} {a : Option Addr} {c : Nat} {p : Value} {acc : Bs} (s : Bs) (hT : T b = some 97) (hp : wrP b p) (hl : acc.length + s.length ≤ 1000000000) :
    CtT Tryz.prog 123 [.pointer (some ⟨b, 0, none⟩), st s] T M (wrL b p a acc.length c) (wrR a acc.length c acc) (wrPost b (acc ++ s)) noPan := by
  unfold wrL wrR
  refine ct_run mx bod123 Tryz.func123 rfl (by rw [nt123]; exact Nat.le_of_ble_eq_true rfl) (dr := dr123) (by kernel_rfl) rs123 ?_
  intro hno _
  simp only [noneL, and_true] at hno
  simp +contextual only [go_sem, Rcb, Rbk, sevalprocAttr]
  refine rCall_one [] (ct_copyCheckW hT hp) ?_ (fun _ _ _ _ _ _ h => h.elim)
  rintro v M' L' _ _ hno' ⟨rfl, rfl, rfl, -⟩
  simp +contextual only [go_sem, Rcb, Rbk, sevalprocAttr, hno]
  have hn : (Lib.byteCells acc).length = acc.length := by simp [Lib.byteCells]
  have hbc : byteCells (bs s) = Lib.byteCells s := by simp [byteCells, Lib.byteCells, bs]
  have hsn : (byteCells (bs s)).length = s.length := by rw [hbc]; simp [Lib.byteCells]
  refine app_row row37 okt37 (.str _ rfl Tryz.underlying9) (by rw [hn, hsn]; omega) ?_
  intro a' m c' hm
  have : m = (acc ++ s).length := by rw [hn, hsn] at hm; rw [List.length_append]; omega
  subst this
  simp +contextual only [go_sem, Rcb, Rbk, sevalprocAttr, hno]
  refine end_id ExtT.rfl' rfl rfl ⟨_, a', c', .inr rfl, rfl, ?_⟩
  simp only [wrR]
  rw [hbc]
  simp [Lib.byteCells]
end Go.Proofs.YtoainkbcfnlkcaaGreatDoor

namespace Go.Proofs.YtoainkbcfnlkcaaGreatDoor
open Go Vc
set_option linter.unusedSimpArgs false
set_option linter.unusedVariables false
set_option maxRecDepth 10000

/-! ### what is written -/
def sepM (a : Bs) : Bs := if a = [] then [] else a ++ [32]
/-- words behind what stands written -/
def putM (acc : Bs) (ws : List Bs) : Bs := ws.foldl (fun a s => sepM a ++ s) acc
theorem putM_nil (acc : Bs) : putM acc [] = acc := rfl
theorem putM_cons (acc s : Bs) (ws : List Bs) : putM acc (s :: ws) = putM (sepM acc ++ s) ws := rfl
theorem putM_app (acc : Bs) (a b : List Bs) : putM acc (a ++ b) = putM (putM acc a) b := List.foldl_append ..
def wLen : List Bs → Nat | [] => 0 | s :: ws => s.length + 1 + wLen ws
theorem wLen_app : ∀ (a b : List Bs), wLen (a ++ b) = wLen a + wLen b
  | [], b => by simp [wLen]
  | s :: a, b => by simp only [List.cons_append, wLen, wLen_app a b]; omega
theorem sepM_le (a : Bs) : (sepM a).length ≤ a.length + 1 := by unfold sepM; split <;> simp
theorem putM_le : ∀ (ws : List Bs) (acc : Bs), (putM acc ws).length ≤ acc.length + wLen ws
  | [], acc => by simp [putM, wLen]
  | s :: ws, acc => by
    rw [putM_cons]
    have := putM_le ws (sepM acc ++ s)
    have h2 := sepM_le acc
    simp only [wLen, List.length_append] at this ⊢
    omega
def escM (t : Bs) : Bs := Lib.replaceAll t [39] [39, 39]
def valP (v : V) : List Bs :=
  if v.k = 1 then [wNull] else if v.k = 2 then [if v.n = 0 then wFalse else wTrue] else if v.k = 4 then [39 :: (escM v.t ++ [39])]
  else if v.k = 3 then (if v.n < 0 then [minus] else []) ++ [Lib.trimPrefix (Lib.itoa v.n) [45]] else []
/-- how tight a kind is, and its sign -/
def tightL (k : Int) : Nat → List Lvl → Int × Bs
  | _, [] => (8, [])
  | i, l :: ls => if 0 ≤ k - l.kind ∧ k - l.kind < (l.signs.length : Int) then ((i : Int) + 1, l.signs.getD (k - l.kind).toNat []) else tightL k (i + 1) ls
def tightM (k : Int) : Int × Bs := if k = 3 then (3, wNot) else if k = 16 then (4, []) else tightL k 0 levelsL
def fnW (k : Int) : Bs := if k = 18 then wCoal else if k = 20 then wCount else if k = 21 then wSum else if k = 22 then wMin else if k = 23 then [109, 97, 120] else []
/-- one behind the other, a comma between -/
def comL : Bool → List (Int → List Bs) → List Bs
  | _, [] => []
  | first, f :: l => (if first = true then [] else [sComma]) ++ (f 1 ++ comL false l)
def comP (K : List (Int → List Bs)) : List Bs := comL true K
def bodyP (k : Int) (v : V) (tab name : Bs) (K : List (Int → List Bs)) : List Bs :=
  if k = 1 then valP v
  else if k = 2 then (if tab = [] then [] else [tab, sDot]) ++ [name]
  else if k = 3 then wNot :: K.getD 0 (fun _ => []) 3
  else if k = 16 then K.getD 0 (fun _ => []) 5 ++ [wIs, wNull]
  else if k = 17 then [wCase, wWhen] ++ (K.getD 0 (fun _ => []) 1 ++ (wThen :: (K.getD 1 (fun _ => []) 1 ++ (wElse :: (K.getD 2 (fun _ => []) 1 ++ [wEnd])))))
  else if k = 19 then [wCount, sOpen, sStar, sClose]
  else if k = 18 ∨ (20 ≤ k ∧ k ≤ 23) then [fnW k, sOpen] ++ (comP K ++ [sClose])
  else K.getD 0 (fun _ => []) (if (tightM k).1 = 4 then (tightM k).1 + 1 else (tightM k).1) ++ ((tightM k).2 :: K.getD 1 (fun _ => []) ((tightM k).1 + 1))
mutual
def exprP : X → Int → List Bs
  | .mk k v tab name kids, need => if (tightM k).1 < need then sOpen :: (bodyP k v tab name (kidsP kids) ++ [sClose]) else bodyP k v tab name (kidsP kids)
def kidsP : List X → List (Int → List Bs)
  | [] => []
  | x :: l => exprP x :: kidsP l
end
theorem kidsP_map : ∀ l, kidsP l = l.map exprP
  | [] => rfl
  | x :: l => by rw [kidsP, kidsP_map l]; rfl
mutual
/-- an expression of a right form -/
def OkX : X → Prop
  | .mk k v tab name kids => (kids.length : Int) = kidsN k ∧ 0 ≤ kidsN k ∧ (k = 1 → wrongV v = 0) ∧ (k = 2 → name.length ≤ 12 ∧ tab.length ≤ 12) ∧ OkXs kids
def OkXs : List X → Prop
  | [] => True
  | x :: l => OkX x ∧ OkXs l
end
mutual
def nodesX : X → Nat
  | .mk _ _ _ _ kids => 1 + nodesL kids
def nodesL : List X → Nat
  | [] => 0
  | x :: l => nodesX x + nodesL l
end
theorem OkXs_mem : ∀ {l : List X}, OkXs l → ∀ x ∈ l, OkX x
  | [], _, x, hx => by cases hx
  | y :: l, h, x, hx => by
    rcases List.mem_cons.1 hx with rfl | hx
    · exact h.1
    · exact OkXs_mem h.2 x hx
theorem namedB_len {s : Bs} (h : namedB s = true) : s.length ≤ 12 := by
  unfold namedB at h
  simp only [Bool.and_eq_true, decide_eq_true_eq] at h
  omega
mutual
theorem shape_ok (d n : Nat) : ∀ (x : X), (shapeX d n x).1 = 0 → OkX x ∧ (shapeX d n x).2 = n + nodesX x
  | .mk k v tab name kids, h => by
    rw [shapeX] at h ⊢
    rw [OkX, nodesX]
    split at h
    · simp at h
    rename_i h1; rw [if_neg h1]
    split at h
    · simp at h
    rename_i h2; rw [if_neg h2]
    split at h
    · simp at h
    rename_i h3; rw [if_neg h3]
    have h3 : (kids.length : Int) = kidsN k := by omega
    split at h
    · rename_i hk
      rw [if_pos hk]
      have hk0 : kids = [] := by
        have : kidsN k = 0 := by unfold kidsN; rw [if_pos (.inl hk)]
        exact List.length_eq_zero_iff.1 (by omega)
      subst hk0
      exact ⟨⟨h3, by omega, fun _ => h, fun h => by omega, trivial⟩, by simp [nodesL]⟩
    rename_i hk; rw [if_neg hk]
    split at h
    · simp at h
    rename_i h4; rw [if_neg h4]
    obtain ⟨h5, h6⟩ := shapes_ok (d + 1) (n + 1) kids h
    refine ⟨⟨h3, by omega, fun h => (hk h).elim, fun h2 => ?_, h5⟩, by rw [h6]; omega⟩
    have h4 : ¬ (namedB name = false ∨ tab ≠ [] ∧ namedB tab = false) := fun h => h4 ⟨h2, h⟩
    refine ⟨namedB_len (by cases hn : namedB name with | true => rfl | false => exact (h4 (.inl hn)).elim), ?_⟩
    by_cases ht : tab = []
    · rw [ht]; simp
    · exact namedB_len (by cases hn : namedB tab with | true => rfl | false => exact (h4 (.inr ⟨ht, hn⟩)).elim)
theorem shapes_ok (d n : Nat) : ∀ (l : List X), (shapeL d n l).1 = 0 → OkXs l ∧ (shapeL d n l).2 = n + nodesL l
  | [], h => ⟨trivial, by rw [shapeL, nodesL]; rfl⟩
  | x :: l, h => by
    rw [shapeL] at h ⊢
    split at h
    · rename_i h1; exact (h1 h).elim
    · rename_i h1
      rw [if_neg h1]
      have h1 : (shapeX d n x).1 = 0 := by omega
      obtain ⟨h2, h3⟩ := shape_ok d n x h1
      obtain ⟨h4, h5⟩ := shapes_ok d _ l h
      exact ⟨⟨h2, h4⟩, by rw [h5, h3, nodesL]; omega⟩
end
/-- what Wrong lets: a right form, of at most 200 nodes -/
theorem exprW_ok {x : X} (h : exprW x = 0) : OkX x ∧ nodesX x ≤ 200 := by
  obtain ⟨h1, h2⟩ := shape_ok 1 0 x h
  have := (shapeX_le 1 0 x (by omega)).2 h
  exact ⟨h1, by omega⟩
end Go.Proofs.YtoainkbcfnlkcaaGreatDoor

namespace Go.Proofs.YtoainkbcfnlkcaaGreatDoor
open Go Vc
set_option linter.unusedSimpArgs false
set_option linter.unusedVariables false
set_option maxRecDepth 10000

theorem putM_take_succ (ws : List Bs) (acc : Bs) (i : Nat) (h : i < ws.length) : putM acc (ws.take (i + 1)) = sepM (putM acc (ws.take i)) ++ ws[i] := by
  rw [List.take_succ_eq_append_getElem h, putM_app]; rfl
theorem wLen_get : ∀ (ws : List Bs) (acc : Bs) (i : Nat) (h : i < ws.length), (putM acc (ws.take i)).length + ws[i].length + 1 ≤ acc.length + wLen ws := by
  intro ws acc i h
  have h1 := putM_le (ws.take i) acc
  have h2 : wLen ws = wLen (ws.take i) + wLen (ws.drop i) := by rw [← wLen_app, List.take_append_drop]
  have h3 : wLen (ws.drop i) = ws[i].length + 1 + wLen (ws.drop (i + 1)) := by rw [List.drop_eq_getElem_cons h]; rfl
  omega
theorem ct_put {T : Tm} {M : Mem} {b : Nat} {a : Option Addr} {c : Nat} {p : Value} {acc : Bs} {ws : List Bs} {wv : Value} (hT : T b = some 97) (hp : wrP b p) (hw : RS M RSt 1 ws wv) (hl : acc.length + wLen ws ≤ 1000000000) :
    CtT Tryz.prog 80 [.pointer (some ⟨b, 0, none⟩), wv] T M (wrL b p a acc.length c) (wrR a acc.length c acc) (wrPost b (putM acc ws)) noPan := by
  obtain ⟨hwb, wa, wc, rfl, hwc, _, hget⟩ := RS_elim (by decide) (fun _ _ => RSt_len) hw
  refine ct_run mx bod80 Tryz.func80 rfl (by rw [nt80]; exact Nat.le_of_ble_eq_true rfl) (dr := dr80) (by kernel_rfl) rs80 ?_
  intro hno _
  simp only [wrL, noneL, and_true] at hno
  simp +contextual only [go_sem, Rcb, Rbk, sevalprocAttr]
  refine loop_range ws.length 8 [(0, .pointer (some ⟨b, 0, none⟩)), (6, .slice wa ws.length wc), (7, .int .i64 (ws.length : Int))] (fun i e h => ∃ M' p a c, wrP b p ∧ Ext M M' ∧ M' b = none ∧ h = ⟨T, M', wrL b p a (putM acc (ws.take i)).length c, wrR a (putM acc (ws.take i)).length c (putM acc (ws.take i))⟩) 0 (by omega) (by simp only [live, go_sem, Rcb, Rbk, sevalprocAttr]) (by simp only [go_sem, Rcb, Rbk, sevalprocAttr]) ⟨M, p, a, c, hp, Ext.rfl', hno, rfl⟩ ?_
  rintro i e h hi hlv ht ⟨M1, p1, a1, c1, hp1, hM1, hno1, rfl⟩
  simp only [live] at hlv
  by_cases hlt : i < ws.length
  · obtain ⟨b', o', cs, rfl, hat, hr⟩ := hget i ws[i] (List.getElem?_eq_getElem hlt)
    have hm : mcell M1 ⟨b', o' + i, none⟩ = some (st ws[i]) := by
      have := hat.ext hM1; rw [hr, Nat.mul_one] at this; exact this.1
    have hb := wLen_get ws acc i hlt
    have hput := putM_take_succ ws acc i hlt
    generalize hA : putM acc (ws.take i) = A at hput hb ⊢
    unfold wrL wrR
    simp +contextual only [go_sem, Rcb, Rbk, sevalprocAttr, hlv, ht, hlt, hm]
    refine rCall_of [] [(b, _)] [] [] [] [_] (ct_Len T) ?_ (fun _ _ _ _ _ _ _ _ h => h.elim)
    rintro v M2 L' R' hM2 _ _ hno2 ⟨rfl, rfl, rfl, rfl⟩
    by_cases hA0 : A = []
    · have hz : ¬ (0 : Int) < (A.length : Int) := by rw [hA0]; simp
      have hs : sepM A = A := by unfold sepM; rw [if_pos hA0, hA0]
      rw [hs] at hput
      simp +contextual only [go_sem, Rcb, Rbk, sevalprocAttr, hlv, ht, hz, hno2]
      refine rCall_of [] [(b, _)] [] [] [_] [] (ct_WriteStringW ws[i] hT hp1 (by omega)) ?_ (fun _ _ _ _ _ _ _ _ h => h.elim)
      rintro v M3 L' R' hM3 _ _ hno3 ⟨p3, a3, c3, hp3, rfl, rfl⟩
      simp only [wrL, wrR, List.nil_append, List.append_nil, noneL, and_true] at hno3 ⊢
      simp +contextual only [go_sem, Rcb, Rbk, sevalprocAttr, hlv, ht]
      refine lp_range hlt ?_ ?_ ⟨M3, p3, a3, c3, hp3, hM1.trans (hM2.trans hM3), hno3, ?_⟩
      · simp only [live, hlv, go_sem, Rcb, Rbk, sevalprocAttr]
      · simp only [ht, go_sem, Rcb, Rbk, sevalprocAttr, wrap_succ i (by omega)]
      · rw [hput]
    · have hz : (0 : Int) < (A.length : Int) := by
        have := List.length_pos_iff.2 hA0; omega
      have hs : sepM A = A ++ [32] := by unfold sepM; rw [if_neg hA0]
      rw [hs] at hput
      simp +contextual only [go_sem, Rcb, Rbk, sevalprocAttr, hlv, ht, hz, hno2]
      refine rCall_of [] [(b, _)] [] [] [_] [] (ct_WriteByteW 32 hT hp1 (by omega)) ?_ (fun _ _ _ _ _ _ _ _ h => h.elim)
      rintro v M3 L' R' hM3 _ _ hno3 ⟨p3, a3, c3, hp3, rfl, rfl⟩
      simp only [wrL, wrR, List.nil_append, List.append_nil, noneL, and_true] at hno3 ⊢
      simp +contextual only [go_sem, Rcb, Rbk, sevalprocAttr, hlv, ht, hno3]
      refine rCall_of [] [(b, _)] [] [] [_] [] (ct_WriteStringW ws[i] hT hp3 (by rw [List.length_append]; simp only [List.length_cons, List.length_nil]; omega)) ?_ (fun _ _ _ _ _ _ _ _ h => h.elim)
      rintro v M4 L' R' hM4 _ _ hno4 ⟨p4, a4, c4, hp4, rfl, rfl⟩
      simp only [wrL, wrR, List.nil_append, List.append_nil, noneL, and_true] at hno4 ⊢
      simp +contextual only [go_sem, Rcb, Rbk, sevalprocAttr, hlv, ht]
      refine lp_range hlt ?_ ?_ ⟨M4, p4, a4, c4, hp4, hM1.trans (hM2.trans (hM3.trans hM4)), hno4, ?_⟩
      · simp only [live, hlv, go_sem, Rcb, Rbk, sevalprocAttr]
      · simp only [ht, go_sem, Rcb, Rbk, sevalprocAttr, wrap_succ i (by omega)]
      · rw [hput]
  · have : i = ws.length := by omega
    subst this
    simp +contextual only [go_sem, Rcb, Rbk, sevalprocAttr, hlv, ht, hlt]
    refine end_id ExtT.rfl' rfl rfl ⟨p1, a1, c1, hp1, ?_, ?_⟩ <;> simp [List.take_length]
end Go.Proofs.YtoainkbcfnlkcaaGreatDoor

namespace Go.Proofs.YtoainkbcfnlkcaaGreatDoor
open Go Vc
set_option linter.unusedSimpArgs false
set_option linter.unusedVariables false
set_option maxRecDepth 10000

theorem levels_bound : ∀ l ∈ levelsL, 0 ≤ l.kind ∧ l.kind ≤ 20 ∧ l.signs.length ≤ 6 := by decide
theorem ct_tight {M : Mem} (k : Int) (h0 : 0 ≤ k) (h1 : k ≤ 100) (T : Tm) : CtT Tryz.prog 130 [.int .i64 k] T M [] [] (fun r _ _ _ => r = .tuple ⟨[.int .i64 (tightM k).1, st (tightM k).2]⟩) noPan := by
  obtain ⟨S, hS⟩ : ∃ S, S = tightM k := ⟨_, rfl⟩
  rw [← hS]
  unfold tightM at hS
  refine ct_run mx bod130 Tryz.func130 rfl (by rw [nt130]; exact Nat.le_of_ble_eq_true rfl) (dr := dr130) (by kernel_rfl) rs130 ?_
  intro hno _
  by_cases k3 : k = 3
  · rw [if_pos k3] at hS
    simp +contextual only [go_sem, Rcb, Rbk, sevalprocAttr, k3]
    exact end_none ExtT.rfl' (by rw [hS])
  rw [if_neg k3] at hS
  by_cases k16 : k = 16
  · rw [if_pos k16] at hS
    simp +contextual only [go_sem, Rcb, Rbk, sevalprocAttr, k16]
    exact end_none ExtT.rfl' (by rw [hS])
  rw [if_neg k16] at hS
  simp +contextual only [go_sem, Rcb, Rbk, sevalprocAttr, k3, k16]
  refine rCall_pure (ct_levels T) ?_ (fun _ _ _ _ h => h.elim)
  rintro v M1 hM1 _ hlv1
  obtain ⟨_, la, lc, rfl, hlc, _, hget⟩ := RS_elim (by decide) (fun _ _ => RLvl_len) hlv1
  simp +contextual only [go_sem, Rcb, Rbk, sevalprocAttr]
  refine loop_range levelsL.length 14 [(0, .int .i64 k), (12, .slice la levelsL.length lc), (13, .int .i64 (levelsL.length : Int))] (fun i e h => ∃ N M', ExtT T N ∧ Ext M1 M' ∧ h = ⟨N, M', [], []⟩ ∧ S = tightL k i (levelsL.drop i)) 0 (by omega) (by simp only [live, go_sem, Rcb, Rbk, sevalprocAttr]) (by simp only [go_sem, Rcb, Rbk, sevalprocAttr]) ⟨T, M1, ExtT.rfl', Ext.rfl', rfl, hS⟩ ?_
  clear hS
  rintro i e h hi hlv ht ⟨N, M2, hN, hM2, rfl, hS⟩
  simp only [live] at hlv
  by_cases hlt : i < levelsL.length
  · obtain ⟨l, hl⟩ : ∃ l, levelsL[i]? = some l := ⟨_, List.getElem?_eq_getElem hlt⟩
    obtain ⟨hb1, hb2, hb3⟩ := levels_bound l (List.mem_of_getElem? hl)
    obtain ⟨b, o, cs, rfl, hat, hr⟩ := hget i l hl
    obtain ⟨sv, hsv, _, _, rfl⟩ := hr
    obtain ⟨_, sa, sc, rfl, hsc, _, hsg⟩ := RS_elim (by decide) (fun _ _ => RSt_len) hsv
    obtain ⟨w0, w1, w2⟩ := At3 (hat.ext hM2)
    have hd : levelsL.drop i = l :: levelsL.drop (i + 1) := by
      rw [List.drop_eq_getElem_cons hlt]; congr 1
      rw [List.getElem?_eq_getElem hlt] at hl; injection hl
    rw [hd, tightL] at hS
    have hw : IntKind.i64.wrap (k - l.kind) = k - l.kind := wrap64 (by omega) (by omega)
    by_cases c1 : 0 ≤ k - l.kind
    · by_cases c2 : k - l.kind < (l.signs.length : Int)
      · rw [if_pos ⟨c1, c2⟩] at hS
        simp +contextual only [go_sem, Rcb, Rbk, sevalprocAttr, hlv, ht, hlt, w0, w1, w2, hw, c1, c2]
        intro b5 T5 hb5 hT5 _
        obtain ⟨j, hj⟩ : ∃ j : Nat, k - l.kind = (j : Int) := ⟨(k - l.kind).toNat, by omega⟩
        have hjl : j < l.signs.length := by omega
        obtain ⟨b', o', cs', rfl, hat', hr'⟩ := hsg j l.signs[j] (List.getElem?_eq_getElem hjl)
        have hm : mcell M2 ⟨b', o' + j, none⟩ = some (st l.signs[j]) := by
          have := hat'.ext hM2; rw [hr', Nat.mul_one] at this; exact this.1
        rw [hj] at hS ⊢
        refine draw_all ?_
        simp +contextual only [go_sem, Rcb, Rbk, sevalprocAttr, mcell_none hb5, hm, hj, hjl, wrap_succ i (by omega)]
        refine end_none (hN.trans hT5) ?_
        rw [hS]
        simp [hjl, st]
      · rw [if_neg (fun h => c2 h.2)] at hS
        simp +contextual only [go_sem, Rcb, Rbk, sevalprocAttr, hlv, ht, hlt, w0, w1, w2, hw, c1, c2]
        intro b5 T5 hb5 hT5 _
        refine lp_close (Close_dropAll (Close_id ⟨levelsL.length - (i + 1), by omega, rfl, i + 1, by omega, rfl, ?_, ?_, T5, M2, hN.trans hT5, hM2, rfl, hS⟩))
        · simp only [live, hlv, go_sem, Rcb, Rbk, sevalprocAttr]
        · simp only [ht, go_sem, Rcb, Rbk, sevalprocAttr, wrap_succ i (by omega)]
    · rw [if_neg (fun h => c1 h.1)] at hS
      simp +contextual only [go_sem, Rcb, Rbk, sevalprocAttr, hlv, ht, hlt, w0, w1, w2, hw, c1]
      intro b5 T5 hb5 hT5 _
      refine lp_close (Close_dropAll (Close_id ⟨levelsL.length - (i + 1), by omega, rfl, i + 1, by omega, rfl, ?_, ?_, T5, M2, hN.trans hT5, hM2, rfl, hS⟩))
      · simp only [live, hlv, go_sem, Rcb, Rbk, sevalprocAttr]
      · simp only [ht, go_sem, Rcb, Rbk, sevalprocAttr, wrap_succ i (by omega)]
  · have : i = levelsL.length := by omega
    subst this
    simp +contextual only [go_sem, Rcb, Rbk, sevalprocAttr, hlv, ht, hlt]
    refine end_none hN ?_
    rw [hS, List.drop_length]; rfl
end Go.Proofs.YtoainkbcfnlkcaaGreatDoor

namespace Go.Proofs.YtoainkbcfnlkcaaGreatDoor
open Go Vc Go.RowKit Go.Lib Go.Shelf
set_option linter.unusedSimpArgs false
set_option linter.unusedVariables false
set_option maxRecDepth 10000

/-- what stays of the package variables, for what is written -/
def GlobP (M : Mem) : Prop := Glob M ∧ M 3 = some (Lib.pow10Tab.map fun z => Value.int .u64 z) ∧ ∃ m, M 2 = some [.int .i64 m]
theorem GlobP.ext {M M' : Mem} (h : GlobP M) (he : Ext M M') : GlobP M' := ⟨h.1.ext he, he _ _ h.2.1, by obtain ⟨m, hm⟩ := h.2.2; exact ⟨m, he _ _ hm⟩⟩
theorem tab_heap {name : String} {k : IntKind} {zs : List Int} {w : World} {g : Nat} (hg : Tryz.prog.globalNamed name = some g) (h : ∃ t f, w.heap[g]? = some (.cells (zs.map fun z => Value.int k z).toArray t f)) : Lib.TabIs Tryz.prog w name k zs := by
  obtain ⟨t, f, ht⟩ := h
  unfold Lib.TabIs World.var?
  rw [hg]
  simp [ht]
theorem bodFmt : bodied Tryz.prog 129 = true := by kernel_rfl
theorem bodTrim : bodied Tryz.prog 128 = true := by kernel_rfl
theorem bodRepl : bodied Tryz.prog 127 = true := by kernel_rfl
theorem bodItoa : bodied Tryz.prog 126 = true := by kernel_rfl
theorem ct_FormatInt {M : Mem} (hg : GlobP M) (n : Int) (h0 : -9223372036854775808 ≤ n) (h1 : n ≤ 9223372036854775807) : Ct Tryz.prog 129 [.int .i64 n, .int .i64 10] M [] [] (fun r M' _ _ => r = st (Lib.itoa n) ∧ M' = M) noPan := by
  refine ct_same bodFmt fun w hw => Calls.mono (Any.strconv_FormatInt_10 Tryz.laysM173 n h0 h1 w (tab_heap (by kernel_rfl) (hw 3 _ hg.2.1))) ?_
  rintro e w' ⟨rfl, k, os, rfl⟩
  refine ⟨rfl, rfl, rfl, rfl, ?_, ?_⟩
  · show w.heap.size ≤ (w.heap ++ os).size
    rw [Array.size_append]; omega
  · intro b hb
    show (w.heap ++ os)[b]? = w.heap[b]?
    exact Array.getElem?_append_left hb
theorem ct_TrimPrefix {M : Mem} (s p : Bs) : Ct Tryz.prog 128 [st s, st p] M [] [] (fun r M' _ _ => r = st (Lib.trimPrefix s p) ∧ M' = M) noPan := by
  refine ct_same bodTrim fun w hw => Calls.mono (Tryz.strings_TrimPrefix (bs s) (bs p) w) ?_
  rintro e w' ⟨rfl, rfl⟩
  refine ⟨?_, Keeps.rfl'⟩
  simp [st, bs]
theorem ct_ReplaceAll {M : Mem} (hg : GlobP M) (s : Bs) (hs : s.length ≤ 1000000) : Ct Tryz.prog 127 [st s, st [39], st [39, 39]] M [] [] (fun r M' _ _ => r = st (escM s) ∧ M' = M) noPan := by
  obtain ⟨m, hm⟩ := hg.2.2
  refine ct_same bodRepl fun w hw => ?_
  obtain ⟨t, f, ht⟩ := hw 2 _ hm
  have hc : Lib.countB (bs s) (bs [39]) ≤ s.length + 1 := by
    have := Lib.countB_le (bs [39]) (by decide) _ (bs s) (Nat.le_refl _)
    rw [bs_size] at this; omega
  refine Calls.mono (Tryz.strings_ReplaceAll (bs s) (bs [39]) (bs [39, 39]) m w (by rw [bs_size]; omega) (by rw [Lib.cell_of_heap ht]; rfl) (by decide) ?_) ?_
  · simp only [bs_size]
    have : (([39, 39] : Bs)).length = 2 := rfl
    rw [this]; omega
  · rintro e w' ⟨rfl, hb⟩
    refine ⟨?_, hb.os, hb.tape, hb.output, hb.size, hb.block⟩
    simp [st, bs, escM]
/-- words of a literal are put -/
theorem put_b {F : Fi} {s : List Vc.Item} {e : Env} {ds : List Deferred} {dd : Option Nat} {N : Tm} {M : Mem} {b bl n : Nat} {a : Option Addr} {c : Nat} {p : Value} {acc : Bs} (L1 : LL) (ws : List Bs) (hN : N b = some 97) (hp : wrP b p) (hn : ws.length = n) (hl : acc.length + wLen ws ≤ 1000000000)
    (k : ∀ v M' p' a' c', Ext M M' → noneL M' (L1 ++ [(b, [p', .slice a' (putM acc ws).length c'])]) → wrP b p' → Run Tryz.prog F s (updo e dd v) ds ⟨N, M', L1 ++ [(b, [p', .slice a' (putM acc ws).length c'])], [(.slice a' (putM acc ws).length c', 5, 1, Lib.byteCells (putM acc ws))]⟩ ⟨⟩) :
    rCall Tryz.prog F 80 [.pointer (some ⟨b, 0, none⟩), .slice (some ⟨bl, 0, none⟩) n n] dd s e ds ⟨N, M, (bl, ws.map st) :: (L1 ++ [(b, [p, .slice a acc.length c])]), [(.slice a acc.length c, 5, 1, Lib.byteCells acc)]⟩ ⟨⟩ := by
  refine rCall_frz bod80 fun M1 hM1 hb1 hno1 => ?_
  have hw : RS M1 RSt 1 ws (.slice (some ⟨bl, 0, none⟩) n n) := RS_lit (fun _ _ => RSt_len) hb1 (RL_strs ws) hn (by
    have : ∀ l : List Bs, l.length ≤ wLen l := by
      intro l
      induction l with
      | nil => simp [wLen]
      | cons x l ih => simp only [List.length_cons, wLen]; omega
    have := this ws; omega)
  have h := rCall_of (P := Tryz.prog) (F := F) (s := s) (e := e) (ds := ds) (dd := dd) (N := N) L1 (wrL b p a acc.length c) [] [] (wrR a acc.length c acc) [] (ct_put hN hp hw hl)
    (fun v M' L' R' hM' _ _ hno' hq => by
      obtain ⟨p', a', c', hp', rfl, rfl⟩ := hq
      rw [List.append_nil] at hno' ⊢
      exact k v M' p' a' c' (hM1.trans hM') hno' hp')
    (fun _ _ _ _ _ _ _ _ h => h.elim)
  rw [List.append_nil] at h
  exact h
theorem ct_val {T : Tm} {M : Mem} {b : Nat} {a : Option Addr} {c : Nat} {p : Value} {acc : Bs} {v : V} (hg : GlobP M) (hv : wrongV v = 0) (hT : T b = some 97) (hp : wrP b p) (hl : acc.length + wLen (valP v) ≤ 1000000000) :
    CtT Tryz.prog 82 [.pointer (some ⟨b, 0, none⟩), .agg ⟨v.cs⟩] T M (wrL b p a acc.length c) (wrR a acc.length c acc) (wrPost b (putM acc (valP v))) noPan := by
  obtain ⟨k, n, t⟩ := v
  refine ct_run mx bod82 Tryz.func82 rfl (by rw [nt82]; exact Nat.le_of_ble_eq_true rfl) (dr := dr82) (by kernel_rfl) rs82 ?_
  intro hno _
  simp only [wrL, noneL, and_true] at hno
  unfold valP at hl ⊢
  unfold wrL wrR
  simp only [V.cs] at hl ⊢
  by_cases k1 : k = 1
  · subst k1
    simp only [if_true] at hl ⊢
    simp +contextual only [go_sem, Rcb, Rbk, sevalprocAttr]
    intro b1 T1 hb1 hap1 hT1 hTb1 b2 hb2 hap2
    refine put_b [(b1, _)] [wNull] (hT1 _ _ hT) hp rfl hl ?_
    rintro v M2 p2 a2 c2 hM2 hno2 hp2
    simp +contextual only [go_sem, Rcb, Rbk, sevalprocAttr]
    exact Close_drop (end_id hT1 rfl rfl ⟨p2, a2, c2, hp2, rfl, rfl⟩)
  rw [if_neg k1] at hl ⊢
  by_cases k2 : k = 2
  · subst k2
    rw [if_pos rfl] at hl ⊢
    have hn : n = 0 ∨ n = 1 := by
      simp only [wrongV] at hv
      by_cases h0 : n = 0
      · exact .inl h0
      · by_cases h1 : n = 1
        · exact .inr h1
        · simp [h0, h1] at hv
    rcases hn with rfl | rfl
    · simp +contextual only [go_sem, Rcb, Rbk, sevalprocAttr]
      intro b1 T1 hb1 hap1 hT1 hTb1 b2 hb2 hap2 b3 hb3 hap3
      refine put_b [(b2, _), (b1, _)] [wFalse] (hT1 _ _ hT) hp rfl hl ?_
      rintro v M2 p2 a2 c2 hM2 hno2 hp2
      simp +contextual only [go_sem, Rcb, Rbk, sevalprocAttr]
      exact Close_drop (Close_drop (end_id hT1 rfl rfl ⟨p2, a2, c2, hp2, rfl, rfl⟩))
    · simp +contextual only [go_sem, Rcb, Rbk, sevalprocAttr]
      intro b1 T1 hb1 hap1 hT1 hTb1 b2 hb2 hap2 b3 hb3 hap3
      refine put_b [(b2, _), (b1, _)] [wTrue] (hT1 _ _ hT) hp rfl hl ?_
      rintro v M2 p2 a2 c2 hM2 hno2 hp2
      simp +contextual only [go_sem, Rcb, Rbk, sevalprocAttr]
      exact Close_drop (Close_drop (end_id hT1 rfl rfl ⟨p2, a2, c2, hp2, rfl, rfl⟩))
  rw [if_neg k2] at hl ⊢
  by_cases k4 : k = 4
  · subst k4
    rw [if_pos rfl] at hl ⊢
    have ht : t.length ≤ 60 := by
      simp only [wrongV] at hv
      by_cases h : t.length ≤ 60
      · exact h
      · simp [h] at hv
    simp +contextual only [go_sem, Rcb, Rbk, sevalprocAttr]
    intro b1 T1 hb1 hap1 hT1 hTb1
    refine rCall_pure (ct_ReplaceAll hg t (by omega) T1) ?_ (fun _ _ _ _ h => h.elim)
    rintro v M2 hM2 hno2 ⟨rfl, rfl⟩
    simp only [wLen, List.length_cons, List.length_append, List.length_nil] at hl
    have q1 : 1 + List.length (escM t) ≤ 9223372036854775807 := by omega
    have q2 : List.length (escM t) ≤ 9223372036854775805 := by omega
    simp +contextual only [go_sem, Rcb, Rbk, sevalprocAttr, bs_append, q1, q2]
    intro b2 hb2 hap2
    refine put_b [(b1, _)] [39 :: (escM t ++ [39])] (hT1 _ _ hT) hp rfl (by simp only [wLen, List.length_cons, List.length_append, List.length_nil]; omega) ?_
    rintro v M3 p2 a2 c2 hM3 hno3 hp2
    simp +contextual only [go_sem, Rcb, Rbk, sevalprocAttr]
    exact Close_drop (end_id hT1 rfl rfl ⟨p2, a2, c2, hp2, rfl, rfl⟩)
  rw [if_neg k4] at hl ⊢
  by_cases k3 : k = 3
  · subst k3
    rw [if_pos rfl] at hl ⊢
    have hn : n ≤ 1000000000000000 ∧ -1000000000000000 ≤ n := by
      simp only [wrongV] at hv
      by_cases h : n > 1000000000000000 ∨ n < -1000000000000000
      · simp [h] at hv
      · omega
    by_cases h0 : n < 0
    · rw [if_pos h0] at hl ⊢
      simp +contextual only [go_sem, Rcb, Rbk, sevalprocAttr, h0]
      intro b1 T1 hb1 hap1 hT1 hTb1 b2 hb2 hap2
      rw [wLen_app] at hl
      refine put_b [(b1, _)] [minus] (hT1 _ _ hT) hp rfl (by omega) ?_
      rintro v M2 p2 a2 c2 hM2 hno2 hp2
      simp only [List.cons_append, List.nil_append, noneL, noneL_pL] at hno2
      simp +contextual only [go_sem, Rcb, Rbk, sevalprocAttr, hno2]
      refine rCall_pure (ct_FormatInt (hg.ext hM2) n (by omega) (by omega) T1) ?_ (fun _ _ _ _ h => h.elim)
      rintro v M3 hM3 hno3 ⟨rfl, rfl⟩
      simp +contextual only [go_sem, Rcb, Rbk, sevalprocAttr]
      refine rCall_pure (ct_TrimPrefix (Lib.itoa n) [45] T1) ?_ (fun _ _ _ _ h => h.elim)
      rintro v M4 hM4 hno4 ⟨rfl, rfl⟩
      simp +contextual only [go_sem, Rcb, Rbk, sevalprocAttr]
      intro b3 hb3 hap3
      refine put_b [(b1, _)] [Lib.trimPrefix (Lib.itoa n) [45]] (hT1 _ _ hT) hp2 rfl (by have := putM_le [minus] acc; omega) ?_
      rintro v M5 p3 a3 c3 hM5 hno5 hp3
      simp +contextual only [go_sem, Rcb, Rbk, sevalprocAttr]
      exact Close_drop (end_id hT1 rfl rfl ⟨p3, a3, c3, hp3, rfl, rfl⟩)
    · rw [if_neg h0] at hl ⊢
      simp +contextual only [go_sem, Rcb, Rbk, sevalprocAttr, h0]
      intro b1 T1 hb1 hap1 hT1 hTb1
      refine rCall_pure (ct_FormatInt hg n (by omega) (by omega) T1) ?_ (fun _ _ _ _ h => h.elim)
      rintro v M3 hM3 hno3 ⟨rfl, rfl⟩
      simp +contextual only [go_sem, Rcb, Rbk, sevalprocAttr]
      refine rCall_pure (ct_TrimPrefix (Lib.itoa n) [45] T1) ?_ (fun _ _ _ _ h => h.elim)
      rintro v M4 hM4 hno4 ⟨rfl, rfl⟩
      simp +contextual only [go_sem, Rcb, Rbk, sevalprocAttr]
      intro b3 hb3 hap3
      refine put_b [(b1, _)] [Lib.trimPrefix (Lib.itoa n) [45]] (hT1 _ _ hT) hp rfl hl ?_
      rintro v M5 p3 a3 c3 hM5 hno5 hp3
      simp +contextual only [go_sem, Rcb, Rbk, sevalprocAttr]
      exact Close_drop (end_id hT1 rfl rfl ⟨p3, a3, c3, hp3, rfl, rfl⟩)
  · exfalso
    simp only [wrongV] at hv
    simp [k1, k2, k3, k4] at hv
end Go.Proofs.YtoainkbcfnlkcaaGreatDoor

namespace Go.Proofs.YtoainkbcfnlkcaaGreatDoor
open Go Vc
set_option linter.unusedSimpArgs false
set_option linter.unusedVariables false
set_option maxRecDepth 10000

/-! ### expressions, written -/
theorem ctd_put {T : Tm} {M : Mem} {b : Nat} {a : Option Addr} {c : Nat} {p : Value} {acc : Bs} {ws : List Bs} {wv : Value} (hT : T b = some 97) (hp : wrP b p) (hw : RS M RSt 1 ws wv) (hl : acc.length + wLen ws ≤ 1000000000) :
    CtD Tryz.prog 80 [.pointer (some ⟨b, 0, none⟩), wv] T M (wrL b p a acc.length c) (wrR a acc.length c acc) (wrPost b (putM acc ws)) noPan := by
  obtain ⟨hwb, wa, wc, rfl, hwc, _, hget⟩ := RS_elim (by decide) (fun _ _ => RSt_len) hw
  refine ctd_run mx bod80 Tryz.func80 rfl (by rw [nt80]; exact Nat.le_of_ble_eq_true rfl) (dr := dr80) (by kernel_rfl) rs80 ?_
  intro hno _
  simp only [wrL, noneL, and_true] at hno
  simp +contextual only [go_sem, Rcb, Rbk, sevalprocAttr]
  refine loop_range ws.length 8 [(0, .pointer (some ⟨b, 0, none⟩)), (6, .slice wa ws.length wc), (7, .int .i64 (ws.length : Int))] (fun i e h => ∃ M' p a c, wrP b p ∧ Ext M M' ∧ M' b = none ∧ h = ⟨T, M', wrL b p a (putM acc (ws.take i)).length c, wrR a (putM acc (ws.take i)).length c (putM acc (ws.take i))⟩) 0 (by omega) (by simp only [live, go_sem, Rcb, Rbk, sevalprocAttr]) (by simp only [go_sem, Rcb, Rbk, sevalprocAttr]) ⟨M, p, a, c, hp, Ext.rfl', hno, rfl⟩ ?_
  rintro i e h hi hlv ht ⟨M1, p1, a1, c1, hp1, hM1, hno1, rfl⟩
  simp only [live] at hlv
  by_cases hlt : i < ws.length
  · obtain ⟨b', o', cs, rfl, hat, hr⟩ := hget i ws[i] (List.getElem?_eq_getElem hlt)
    have hm : mcell M1 ⟨b', o' + i, none⟩ = some (st ws[i]) := by
      have := hat.ext hM1; rw [hr, Nat.mul_one] at this; exact this.1
    have hb := wLen_get ws acc i hlt
    have hput := putM_take_succ ws acc i hlt
    generalize hA : putM acc (ws.take i) = A at hput hb ⊢
    unfold wrL wrR
    simp +contextual only [go_sem, Rcb, Rbk, sevalprocAttr, hlv, ht, hlt, hm]
    refine rCall_of [] [(b, _)] [] [] [] [_] (ct_Len T) ?_ (fun _ _ _ _ _ _ _ _ h => h.elim)
    rintro v M2 L' R' hM2 _ _ hno2 ⟨rfl, rfl, rfl, rfl⟩
    by_cases hA0 : A = []
    · have hz : ¬ (0 : Int) < (A.length : Int) := by rw [hA0]; simp
      have hs : sepM A = A := by unfold sepM; rw [if_pos hA0, hA0]
      rw [hs] at hput
      simp +contextual only [go_sem, Rcb, Rbk, sevalprocAttr, hlv, ht, hz, hno2]
      refine rCall_of [] [(b, _)] [] [] [_] [] (ct_WriteStringW ws[i] hT hp1 (by omega)) ?_ (fun _ _ _ _ _ _ _ _ h => h.elim)
      rintro v M3 L' R' hM3 _ _ hno3 ⟨p3, a3, c3, hp3, rfl, rfl⟩
      simp only [wrL, wrR, List.nil_append, List.append_nil, noneL, and_true] at hno3 ⊢
      simp +contextual only [go_sem, Rcb, Rbk, sevalprocAttr, hlv, ht]
      refine lp_range hlt ?_ ?_ ⟨M3, p3, a3, c3, hp3, hM1.trans (hM2.trans hM3), hno3, ?_⟩
      · simp only [live, hlv, go_sem, Rcb, Rbk, sevalprocAttr]
      · simp only [ht, go_sem, Rcb, Rbk, sevalprocAttr, wrap_succ i (by omega)]
      · rw [hput]
    · have hz : (0 : Int) < (A.length : Int) := by
        have := List.length_pos_iff.2 hA0; omega
      have hs : sepM A = A ++ [32] := by unfold sepM; rw [if_neg hA0]
      rw [hs] at hput
      simp +contextual only [go_sem, Rcb, Rbk, sevalprocAttr, hlv, ht, hz, hno2]
      refine rCall_of [] [(b, _)] [] [] [_] [] (ct_WriteByteW 32 hT hp1 (by omega)) ?_ (fun _ _ _ _ _ _ _ _ h => h.elim)
      rintro v M3 L' R' hM3 _ _ hno3 ⟨p3, a3, c3, hp3, rfl, rfl⟩
      simp only [wrL, wrR, List.nil_append, List.append_nil, noneL, and_true] at hno3 ⊢
      simp +contextual only [go_sem, Rcb, Rbk, sevalprocAttr, hlv, ht, hno3]
      refine rCall_of [] [(b, _)] [] [] [_] [] (ct_WriteStringW ws[i] hT hp3 (by rw [List.length_append]; simp only [List.length_cons, List.length_nil]; omega)) ?_ (fun _ _ _ _ _ _ _ _ h => h.elim)
      rintro v M4 L' R' hM4 _ _ hno4 ⟨p4, a4, c4, hp4, rfl, rfl⟩
      simp only [wrL, wrR, List.nil_append, List.append_nil, noneL, and_true] at hno4 ⊢
      simp +contextual only [go_sem, Rcb, Rbk, sevalprocAttr, hlv, ht]
      refine lp_range hlt ?_ ?_ ⟨M4, p4, a4, c4, hp4, hM1.trans (hM2.trans (hM3.trans hM4)), hno4, ?_⟩
      · simp only [live, hlv, go_sem, Rcb, Rbk, sevalprocAttr]
      · simp only [ht, go_sem, Rcb, Rbk, sevalprocAttr, wrap_succ i (by omega)]
      · rw [hput]
  · have : i = ws.length := by omega
    subst this
    simp +contextual only [go_sem, Rcb, Rbk, sevalprocAttr, hlv, ht, hlt]
    refine end_id ExtT.rfl' rfl rfl ⟨p1, a1, c1, hp1, ?_, ?_⟩ <;> simp [List.take_length]

theorem xDefL_close {f : FuncId} {args : List Value} {h : Sh} {k : Sh → Prop} (hb : bodied Tryz.prog f = true) (hc : Close h fun h' => xDefL Tryz.prog f args h' k) : xDefL Tryz.prog f args h k :=
  ⟨hb, fun c w u hw => by
    obtain ⟨h', hw', hk⟩ := hc c w hw
    exact hk.2 c w u hw'⟩
def ExW (x : X) : Prop := ∀ (M : Mem) (T : Tm) (b bx ox : Nat) (cs : List Value) (a : Option Addr) (c : Nat) (p : Value) (acc : Bs) (need : Int), GlobP M → RX M x cs → At M bx ox cs → OkX x → T b = some 97 → wrP b p → 0 ≤ need → need ≤ 10 → acc.length + wLen (exprP x need) ≤ 1000000000 →
  CtT Tryz.prog 83 [.pointer (some ⟨b, 0, none⟩), .pointer (some ⟨bx, ox, none⟩), .int .i64 need] T M (wrL b p a acc.length c) (wrR a acc.length c acc) (wrPost b (putM acc (exprP x need))) noPan
theorem expr_b {F : Fi} {s : List Vc.Item} {e : Env} {ds : List Deferred} {dd : Option Nat} {N : Tm} {M : Mem} {b bx ox : Nat} {cs : List Value} {a : Option Addr} {c : Nat} {p : Value} {acc : Bs} {x : X} {need : Int} (L1 : LL) (hx : ExW x) (hg : GlobP M) (hr : RX M x cs) (ha : At M bx ox cs) (ho : OkX x) (hN : N b = some 97) (hp : wrP b p) (h0 : 0 ≤ need) (h1 : need ≤ 10) (hl : acc.length + wLen (exprP x need) ≤ 1000000000)
    (k : ∀ v M' p' a' c', Ext M M' → noneL M' (L1 ++ [(b, [p', .slice a' (putM acc (exprP x need)).length c'])]) → wrP b p' → Run Tryz.prog F s (updo e dd v) ds ⟨N, M', L1 ++ [(b, [p', .slice a' (putM acc (exprP x need)).length c'])], [(.slice a' (putM acc (exprP x need)).length c', 5, 1, Lib.byteCells (putM acc (exprP x need)))]⟩ ⟨⟩) :
    rCall Tryz.prog F 83 [.pointer (some ⟨b, 0, none⟩), .pointer (some ⟨bx, ox, none⟩), .int .i64 need] dd s e ds ⟨N, M, L1 ++ [(b, [p, .slice a acc.length c])], [(.slice a acc.length c, 5, 1, Lib.byteCells acc)]⟩ ⟨⟩ := by
  have h := rCall_of (P := Tryz.prog) (F := F) (s := s) (e := e) (ds := ds) (dd := dd) (N := N) L1 (wrL b p a acc.length c) [] [] (wrR a acc.length c acc) [] (hx M N b bx ox cs a c p acc need hg hr ha ho hN hp h0 h1 hl)
    (fun v M' L' R' hM' _ _ hno' hq => by
      obtain ⟨p', a', c', hp', rfl, rfl⟩ := hq
      rw [List.append_nil] at hno' ⊢
      exact k v M' p' a' c' hM' hno' hp')
    (fun _ _ _ _ _ _ _ _ h => h.elim)
  rw [List.append_nil] at h
  exact h
theorem comL_drop {l : List X} {i : Nat} (h : i < l.length) (f : Bool) : comL f ((l.map exprP).drop i) = (if f = true then [] else [sComma]) ++ (exprP l[i] 1 ++ comL false ((l.map exprP).drop (i + 1))) := by
  have h' : i < (l.map exprP).length := by simpa using h
  rw [List.drop_eq_getElem_cons h', comL]
  simp
theorem ct_wlist {l : List X} (hA : ∀ x ∈ l, ExW x) (hO : ∀ x ∈ l, OkX x) {M : Mem} {T : Tm} {b : Nat} {a : Option Addr} {c : Nat} {p : Value} {acc : Bs} {v : Value} (hg : GlobP M) (hv : RS M (RX M) 7 l v) (hT : T b = some 97) (hp : wrP b p) (hl : acc.length + wLen (comP (l.map exprP)) ≤ 1000000000) :
    CtT Tryz.prog 125 [.pointer (some ⟨b, 0, none⟩), v] T M (wrL b p a acc.length c) (wrR a acc.length c acc) (wrPost b (putM acc (comP (l.map exprP)))) noPan := by
  have hle := RS_le hv
  obtain ⟨_, la, lc, rfl, hlc, _, hget⟩ := RS_elim (by decide) (fun _ _ => RX_len) hv
  refine ct_run mx bod125 Tryz.func125 rfl (by rw [nt125]; exact Nat.le_of_ble_eq_true rfl) (dr := dr125) (by kernel_rfl) rs125 ?_
  intro hno _
  simp only [wrL, noneL, and_true] at hno
  simp +contextual only [go_sem, Rcb, Rbk, sevalprocAttr]
  refine loop_range l.length 7 [(0, .pointer (some ⟨b, 0, none⟩)), (1, .slice la l.length lc), (6, .int .i64 (l.length : Int))] (fun i e h => ∃ M' p a c acc', wrP b p ∧ Ext M M' ∧ M' b = none ∧ h = ⟨T, M', wrL b p a acc'.length c, wrR a acc'.length c acc'⟩ ∧
    putM acc (comP (l.map exprP)) = putM acc' (comL (decide (i = 0)) ((l.map exprP).drop i)) ∧ acc'.length + wLen (comL (decide (i = 0)) ((l.map exprP).drop i)) ≤ 1000000000) 0 (by omega) (by simp only [live, go_sem, Rcb, Rbk, sevalprocAttr]) (by simp only [go_sem, Rcb, Rbk, sevalprocAttr]) ⟨M, p, a, c, acc, hp, Ext.rfl', hno, rfl, rfl, hl⟩ ?_
  rintro i e h hi hlv ht ⟨M1, p1, a1, c1, acc1, hp1, hM1, hno1, rfl, hput, hb1⟩
  simp only [live] at hlv
  by_cases hlt : i < l.length
  · rw [comL_drop hlt] at hput hb1
    obtain ⟨bx, ox, cs, rfl, hat, hr⟩ := hget i l[i] (List.getElem?_eq_getElem hlt)
    have hX := hA l[i] (List.getElem_mem hlt)
    have hOx := hO l[i] (List.getElem_mem hlt)
    by_cases hi0 : i = 0
    · have h0 : ¬ (0 : Int) < ((i : Nat) : Int) := by omega
      rw [if_pos (by simpa using hi0), List.nil_append] at hput hb1
      rw [wLen_app] at hb1
      simp only [wrL, wrR]
      simp +contextual only [go_sem, Rcb, Rbk, sevalprocAttr, hlv, ht, hlt, h0]
      refine expr_b [] hX (hg.ext hM1) (RX_ext hM1 _ _ hr) (hat.ext hM1) hOx hT hp1 (by decide) (by decide) (by omega) ?_
      rintro v M2 p2 a2 c2 hM2 hno2 hp2
      simp only [List.nil_append, noneL, and_true] at hno2 ⊢
      simp +contextual only [go_sem, Rcb, Rbk, sevalprocAttr, hlv, ht]
      refine lp_range hlt ?_ ?_ ⟨M2, p2, a2, c2, _, hp2, hM1.trans hM2, hno2, rfl, ?_, ?_⟩
      · simp only [live, hlv, go_sem, Rcb, Rbk, sevalprocAttr]
      · simp only [ht, go_sem, Rcb, Rbk, sevalprocAttr, wrap_succ i (by omega)]
      · rw [hput, putM_app]; simp
      · have := putM_le (exprP l[i] 1) acc1
        simp only [Nat.add_one_ne_zero, decide_false]
        omega
    · have h0 : (0 : Int) < ((i : Nat) : Int) := by omega
      rw [if_neg (by simpa using hi0)] at hput hb1
      rw [wLen_app, wLen_app] at hb1
      simp only [wrL, wrR]
      simp +contextual only [go_sem, Rcb, Rbk, sevalprocAttr, hlv, ht, hlt, h0]
      intro b5 hb5 hap5
      refine put_b [] [sComma] hT hp1 rfl (by omega) ?_
      rintro v M2 p2 a2 c2 hM2 hno2 hp2
      simp only [List.nil_append, noneL, and_true] at hno2 ⊢
      simp +contextual only [go_sem, Rcb, Rbk, sevalprocAttr, hlv, ht, hlt, h0]
      have hpl := putM_le [sComma] acc1
      refine expr_b [] hX (hg.ext (hM1.trans hM2)) (RX_ext (hM1.trans hM2) _ _ hr) (hat.ext (hM1.trans hM2)) hOx hT hp2 (by decide) (by decide) (by omega) ?_
      rintro v M3 p3 a3 c3 hM3 hno3 hp3
      simp only [List.nil_append, noneL, and_true] at hno3 ⊢
      simp +contextual only [go_sem, Rcb, Rbk, sevalprocAttr, hlv, ht]
      refine lp_range hlt ?_ ?_ ⟨M3, p3, a3, c3, _, hp3, hM1.trans (hM2.trans hM3), hno3, rfl, ?_, ?_⟩
      · simp only [live, hlv, go_sem, Rcb, Rbk, sevalprocAttr]
      · simp only [ht, go_sem, Rcb, Rbk, sevalprocAttr, wrap_succ i (by omega)]
      · rw [hput, putM_app, putM_app]; simp
      · have := putM_le (exprP l[i] 1) (putM acc1 [sComma])
        simp only [Nat.add_one_ne_zero, decide_false]
        omega
  · have : i = l.length := by omega
    subst this
    simp +contextual only [go_sem, Rcb, Rbk, sevalprocAttr, hlv, ht, hlt]
    have hd : (l.map exprP).drop l.length = [] := List.drop_of_length_le (by simp)
    rw [hd] at hput
    refine end_id ExtT.rfl' rfl rfl ⟨p1, a1, c1, hp1, ?_, ?_⟩ <;> rw [hput] <;> rfl
end Go.Proofs.YtoainkbcfnlkcaaGreatDoor

namespace Go.Proofs.YtoainkbcfnlkcaaGreatDoor
open Go Vc
set_option linter.unusedSimpArgs false
set_option linter.unusedVariables false
set_option maxRecDepth 10000

theorem At7 {M : Mem} {b o : Nat} {v0 v1 v2 v3 v4 v5 v6 : Value} (h : At M b o [v0, v1, v2, v3, v4, v5, v6]) : mcell M ⟨b, o, none⟩ = some v0 ∧ mcell M ⟨b, o + 1, none⟩ = some v1 ∧ mcell M ⟨b, o + 2, none⟩ = some v2 ∧ mcell M ⟨b, o + 3, none⟩ = some v3 ∧ mcell M ⟨b, o + 4, none⟩ = some v4 ∧ mcell M ⟨b, o + 5, none⟩ = some v5 ∧ mcell M ⟨b, o + 6, none⟩ = some v6 :=
  ⟨h.1, h.2.1, h.2.2.1, h.2.2.2.1, h.2.2.2.2.1, h.2.2.2.2.2.1, h.2.2.2.2.2.2.1⟩
def putD (b bl : Nat) : Deferred := { target := .fn (.func 80) ⟨[]⟩, args := ⟨[.pointer (some ⟨b, 0, none⟩), .slice (some ⟨bl, 0, none⟩) 1 1]⟩ }
/-- what is left to do at the end: nothing, or a sign to close -/
def endW (b : Nat) (acc W : Bs) (own need : Int) (ds : List Deferred) (L0 : LL) (pre : List Bs) (post : List Bs) : Prop :=
  (ds = [] ∧ L0 = [] ∧ pre = [] ∧ post = [] ∧ ¬ own < need) ∨ ∃ bl, ds = [putD b bl] ∧ L0 = [(bl, [st sClose])] ∧ pre = [sOpen] ∧ post = [sClose] ∧ own < need
theorem fin_w {T : Tm} {M : Mem} {b : Nat} {p : Value} {a : Option Addr} {c : Nat} {acc acc3 : Bs} {W : List Bs} {own need : Int} {ds : List Deferred} {L0 : LL} {pre post : List Bs} {e : Env} {x : Bs} (hT : T b = some 97) (hp : wrP b p) (hE : endW b acc x own need ds L0 pre post)
    (h3 : putM acc W = putM acc3 post) (hl : acc3.length + wLen post ≤ 1000000000) :
    retD Tryz.prog T [] [b] 1 (wrPost b (putM acc W)) e ds ⟨T, M, L0 ++ [(b, [p, .slice a acc3.length c])], [(.slice a acc3.length c, 5, 1, Lib.byteCells acc3)]⟩ := by
  rcases hE with ⟨rfl, rfl, rfl, rfl, _⟩ | ⟨bl, rfl, rfl, rfl, rfl, _⟩
  · rw [retD_nil, h3]
    exact end_id ExtT.rfl' rfl rfl ⟨p, a, c, hp, rfl, rfl⟩
  · unfold retD defsL
    have hd : dFn (putD b bl) = some (80, [.pointer (some ⟨b, 0, none⟩), .slice (some ⟨bl, 0, none⟩) 1 1]) := rfl
    rw [hd]
    refine xDefL_close bod80 (Close_freeze fun hM hb _ => Close_id ?_)
    have hw := RS_lit (r := RSt) (l := [sClose]) (fun _ _ => RSt_len) hb (RL_strs [sClose]) rfl (by decide)
    refine xDefL_ofR [] (ctd_put hT hp hw hl) fun v M' L' R' hM' _ _ _ hq => ?_
    obtain ⟨p', a', c', hp', rfl, rfl⟩ := hq
    rw [h3]
    exact end_id ExtT.rfl' rfl rfl ⟨p', a', c', hp', rfl, rfl⟩
theorem kidsN_range {k : Int} (h : 0 ≤ kidsN k) : 1 ≤ k ∧ k ≤ 23 := by
  unfold kidsN at h
  repeat' split at h
  all_goals omega
theorem tight_bound {k : Int} (h : 1 ≤ k ∧ k ≤ 23) : 1 ≤ (tightM k).1 ∧ (tightM k).1 ≤ 8 := by
  have key : ∀ n : Fin 24, 1 ≤ (tightM ((n : Nat) : Int)).1 ∧ (tightM ((n : Nat) : Int)).1 ≤ 8 := by decide
  have := key ⟨k.toNat, by omega⟩
  rwa [show (((⟨k.toNat, by omega⟩ : Fin 24) : Nat) : Int) = k from by simp; omega] at this
theorem val_b {F : Fi} {s : List Vc.Item} {e : Env} {ds : List Deferred} {dd : Option Nat} {N : Tm} {M : Mem} {b : Nat} {a : Option Addr} {c : Nat} {p : Value} {acc : Bs} {v : V} (L1 : LL) (hg : GlobP M) (hv : wrongV v = 0) (hN : N b = some 97) (hp : wrP b p) (hl : acc.length + wLen (valP v) ≤ 1000000000)
    (k : ∀ u M' p' a' c', Ext M M' → noneL M' (L1 ++ [(b, [p', .slice a' (putM acc (valP v)).length c'])]) → wrP b p' → Run Tryz.prog F s (updo e dd u) ds ⟨N, M', L1 ++ [(b, [p', .slice a' (putM acc (valP v)).length c'])], [(.slice a' (putM acc (valP v)).length c', 5, 1, Lib.byteCells (putM acc (valP v)))]⟩ ⟨⟩) :
    rCall Tryz.prog F 82 [.pointer (some ⟨b, 0, none⟩), .agg ⟨v.cs⟩] dd s e ds ⟨N, M, L1 ++ [(b, [p, .slice a acc.length c])], [(.slice a acc.length c, 5, 1, Lib.byteCells acc)]⟩ ⟨⟩ := by
  have h := rCall_of (P := Tryz.prog) (F := F) (s := s) (e := e) (ds := ds) (dd := dd) (N := N) L1 (wrL b p a acc.length c) [] [] (wrR a acc.length c acc) [] (ct_val hg hv hN hp hl)
    (fun u M' L' R' hM' _ _ hno' hq => by
      obtain ⟨p', a', c', hp', rfl, rfl⟩ := hq
      rw [List.append_nil] at hno' ⊢
      exact k u M' p' a' c' hM' hno' hp')
    (fun _ _ _ _ _ _ _ _ h => h.elim)
  rw [List.append_nil] at h
  exact h
theorem list_b {F : Fi} {s : List Vc.Item} {e : Env} {ds : List Deferred} {dd : Option Nat} {N : Tm} {M : Mem} {b : Nat} {a : Option Addr} {c : Nat} {p : Value} {acc : Bs} {l : List X} {lv : Value} (L1 : LL) (hA : ∀ x ∈ l, ExW x) (hO : ∀ x ∈ l, OkX x) (hg : GlobP M) (hv : RS M (RX M) 7 l lv) (hN : N b = some 97) (hp : wrP b p) (hl : acc.length + wLen (comP (l.map exprP)) ≤ 1000000000)
    (k : ∀ u M' p' a' c', Ext M M' → noneL M' (L1 ++ [(b, [p', .slice a' (putM acc (comP (l.map exprP))).length c'])]) → wrP b p' → Run Tryz.prog F s (updo e dd u) ds ⟨N, M', L1 ++ [(b, [p', .slice a' (putM acc (comP (l.map exprP))).length c'])], [(.slice a' (putM acc (comP (l.map exprP))).length c', 5, 1, Lib.byteCells (putM acc (comP (l.map exprP))))]⟩ ⟨⟩) :
    rCall Tryz.prog F 125 [.pointer (some ⟨b, 0, none⟩), lv] dd s e ds ⟨N, M, L1 ++ [(b, [p, .slice a acc.length c])], [(.slice a acc.length c, 5, 1, Lib.byteCells acc)]⟩ ⟨⟩ := by
  have h := rCall_of (P := Tryz.prog) (F := F) (s := s) (e := e) (ds := ds) (dd := dd) (N := N) L1 (wrL b p a acc.length c) [] [] (wrR a acc.length c acc) [] (ct_wlist hA hO hg hv hN hp hl)
    (fun u M' L' R' hM' _ _ hno' hq => by
      obtain ⟨p', a', c', hp', rfl, rfl⟩ := hq
      rw [List.append_nil] at hno' ⊢
      exact k u M' p' a' c' hM' hno' hp')
    (fun _ _ _ _ _ _ _ _ h => h.elim)
  rw [List.append_nil] at h
  exact h
theorem rCall_dropR {F : Fi} {f : FuncId} {args : List Value} {dd : Option Nat} {s : List Vc.Item} {e : Env} {ds : List Deferred} {N : Tm} {M : Mem} {L : LL} {R : RR} {x : Value × TypeId × Nat × List Value} (hb : bodied Tryz.prog f = true)
    (h : rCall Tryz.prog F f args dd s e ds ⟨N, M, L, R⟩ ⟨⟩) : rCall Tryz.prog F f args dd s e ds ⟨N, M, L, x :: R⟩ ⟨⟩ :=
  rCall_close (k := fun h' => h' = ⟨N, M, L, R⟩) (Close_dropR (Close_id rfl)) (by rintro h' rfl; exact h) hb
theorem ct_wexpr : ∀ (sz : Nat) (x : X), SizeOf.sizeOf x ≤ sz → ExW x := by
  intro sz
  induction sz with
  | zero => intro x hx; cases x; simp at hx
  | succ sz ih =>
    intro x hsz M T b bx ox cs a c p acc need hg hx ha hok hT hp h0 h1 hl
    obtain ⟨k, v, tab, name, kids⟩ := x
    obtain ⟨s, rfl, hone, hkids⟩ := RX_form hx
    obtain ⟨m0, m1, m2, m3, m4, m5, m6⟩ := At7 ha
    simp only [X.k, X.v, X.tab, X.name, X.kids] at m0 m1 m2 m3 m4 m5 m6 hkids
    rw [OkX] at hok
    obtain ⟨hk1, hk2, hk3, hk4, hk5⟩ := hok
    have hkr := kidsN_range hk2
    have hA : ∀ y ∈ kids, ExW y := fun y hy => ih y (by
      have := List.sizeOf_lt_of_mem hy
      simp only [X.mk.sizeOf_spec] at hsz
      omega)
    obtain ⟨_, sa, sc, rfl, hsc, _, hget⟩ := RS_elim (by decide) (fun _ _ => RX_len) hkids
    unfold wrL wrR
    refine ct_runD mx bod83 Tryz.func83 rfl (by rw [nt83]; exact Nat.le_of_ble_eq_true rfl) (dr := dr83) (by kernel_rfl) rs83 ?_
    intro hno _
    simp only [noneL, and_true] at hno
    simp +contextual only [go_sem, sevalprocAttr, -Int.reduceAdd, -Int.reduceSub, -Int.reduceMul, m0]
    refine rCall_pure (ct_tight k (by omega) (by omega) T) ?_ (fun _ _ _ _ h => h.elim)
    rintro w M1 hM1 hno1 rfl
    simp +contextual only [go_sem, sevalprocAttr, -Int.reduceAdd, -Int.reduceSub, -Int.reduceMul]
    generalize hW : exprP (.mk k v tab name kids) need = W at hl ⊢
    rw [exprP] at hW
    have htb := tight_bound hkr
    have hpure : ∀ {e' : Env}, e' 0 = .pointer (some ⟨b, 0, none⟩) → e' 1 = .pointer (some ⟨bx, ox, none⟩) → e' 6 = .int .i64 (tightM k).1 → e' 7 = st (tightM k).2 → True := fun _ _ _ _ => trivial
    refine cond_cut (fun e ds h => ∃ M2 p2 a2 c2 L0 pre post, wrP b p2 ∧ Ext M M2 ∧ noneL M2 (L0 ++ [(b, [p2, .slice a2 (putM acc pre).length c2])]) ∧ e 0 = .pointer (some ⟨b, 0, none⟩) ∧ e 1 = .pointer (some ⟨bx, ox, none⟩) ∧ e 6 = .int .i64 (tightM k).1 ∧ e 7 = st (tightM k).2 ∧ endW b acc acc (tightM k).1 need ds L0 pre post ∧
      h = ⟨T, M2, L0 ++ [(b, [p2, .slice a2 (putM acc pre).length c2])], [(.slice a2 (putM acc pre).length c2, 5, 1, Lib.byteCells (putM acc pre))]⟩) (fun S' hS' => ?_) ?_
    · by_cases ho : (tightM k).1 < need
      · rw [rCond_bool, if_pos (by simpa using ho)]
        rw [if_pos ho] at hW
        have hl1 : acc.length + wLen [sOpen] ≤ 1000000000 := by rw [← hW] at hl; simp only [wLen, List.length_cons, List.length_nil] at hl ⊢; omega
        simp +contextual only [go_sem, sevalprocAttr, -Int.reduceAdd, -Int.reduceSub, -Int.reduceMul]
        intro b3 hb3 hap3
        refine put_b [] [sOpen] hT hp rfl hl1 ?_
        rintro w M2 p2 a2 c2 hM2 hno2 hp2
        simp only [List.nil_append, noneL, and_true] at hno2 ⊢
        simp +contextual only [go_sem, sevalprocAttr, -Int.reduceAdd, -Int.reduceSub, -Int.reduceMul, hno2]
        intro b4 hb4 hap4
        refine hS' _ _ _ ⟨M2, p2, a2, c2, [(b4, [st sClose])], [sOpen], [sClose], hp2, hM1.trans hM2, ?_, ?_, ?_, ?_, ?_, .inr ⟨b4, by simp [putD], rfl, rfl, rfl, ho⟩, rfl⟩
        all_goals first | exact ⟨hb4, hno2, trivial⟩ | (simp only [go_sem, Rcb, Rbk, sevalprocAttr, -Int.reduceAdd, -Int.reduceSub, -Int.reduceMul]; done)
      · rw [rCond_bool, if_neg (by simpa using ho)]
        simp +contextual only [go_sem, sevalprocAttr, -Int.reduceAdd, -Int.reduceSub, -Int.reduceMul]
        refine hS' _ _ _ ⟨M1, p, a, c, [], [], [], hp, hM1, ?_, ?_, ?_, ?_, ?_, .inl ⟨rfl, rfl, rfl, rfl, ho⟩, rfl⟩
        all_goals first | exact hno1 | (simp only [go_sem, Rcb, Rbk, sevalprocAttr, -Int.reduceAdd, -Int.reduceSub, -Int.reduceMul]; done)
    rintro e ds h ⟨M2, p2, a2, c2, L0, pre, post, hp2, hM2, hno2, e0, e1, e6, e7, hE, rfl⟩
    have hWW : W = pre ++ (bodyP k v tab name (kidsP kids) ++ post) := by
      rcases hE with ⟨_, _, rfl, rfl, ho⟩ | ⟨bl, _, _, rfl, rfl, ho⟩
      · rw [if_neg ho] at hW; rw [← hW]; simp
      · rw [if_pos ho] at hW; rw [← hW]; simp
    clear hW
    obtain ⟨acc2, ha2⟩ : ∃ acc2, acc2 = putM acc pre := ⟨_, rfl⟩
    rw [← ha2] at hno2 ⊢
    generalize hB : bodyP k v tab name (kidsP kids) = B at hWW
    have hl2 : acc2.length + wLen (B ++ post) ≤ 1000000000 := by
      have := putM_le pre acc
      rw [hWW, wLen_app] at hl
      rw [ha2]; omega
    rw [wLen_app] at hl2
    have fin : ∀ {e' : Env} {M3 : Mem} {p3 : Value} {a3 : Option Addr} {c3 : Nat} {A3 : Bs}, A3 = putM acc2 B → wrP b p3 → retD Tryz.prog T [] [b] 1 (wrPost b (putM acc W)) e' ds ⟨T, M3, L0 ++ [(b, [p3, .slice a3 A3.length c3])], [(.slice a3 A3.length c3, 5, 1, Lib.byteCells A3)]⟩ := by
      intro e' M3 p3 a3 c3 A3 hA3 hp3
      subst hA3
      refine fin_w hT hp3 hE ?_ ?_
      · rw [hWW, putM_app, putM_app, ha2]
      · have := putM_le B acc2
        omega
    have hg2 := hg.ext hM2
    have n0 := mcell_ext hM2 m0
    have n1 := mcell_ext hM2 m1
    have n2 := mcell_ext hM2 m2
    have n3 := mcell_ext hM2 m3
    have n4 := mcell_ext hM2 m4
    have n5 := mcell_ext hM2 m5
    have n6 := mcell_ext hM2 m6
    have hr2 := RS_ext hM2 (RX_ext hM2) hkids
    clear hE hWW ha2 hl hpure
    unfold bodyP at hB
    rw [kidsP_map] at hB
    by_cases k1 : k = 1
    · subst k1
      rw [if_pos rfl] at hB
      subst hB
      simp +contextual only [go_sem, Rcb, Rbk, sevalprocAttr, -Int.reduceAdd, -Int.reduceSub, -Int.reduceMul, e0, e1, n0, n1, n2, n3]
      refine val_b L0 hg2 (hk3 rfl) hT hp2 (by omega) ?_
      rintro w M3 p3 a3 c3 hM3 hno3 hp3
      simp +contextual only [go_sem, Rcb, Rbk, sevalprocAttr, -Int.reduceAdd, -Int.reduceSub, -Int.reduceMul, fiD_ret]
      exact fin rfl hp3
    rw [if_neg k1] at hB
    by_cases k2 : k = 2
    · subst k2
      rw [if_pos rfl] at hB
      by_cases htab : tab = []
      · rw [if_pos htab, List.nil_append] at hB
        subst hB
        simp +contextual only [go_sem, Rcb, Rbk, sevalprocAttr, -Int.reduceAdd, -Int.reduceSub, -Int.reduceMul, e0, e1, n0, n4, n5, htab]
        intro b5 hb5 hap5
        refine put_b L0 [name] hT hp2 rfl (by omega) ?_
        rintro w M3 p3 a3 c3 hM3 hno3 hp3
        simp +contextual only [go_sem, Rcb, Rbk, sevalprocAttr, -Int.reduceAdd, -Int.reduceSub, -Int.reduceMul, fiD_ret]
        exact fin rfl hp3
      · rw [if_neg htab] at hB
        subst hB
        rw [wLen_app] at hl2
        simp +contextual only [go_sem, Rcb, Rbk, sevalprocAttr, -Int.reduceAdd, -Int.reduceSub, -Int.reduceMul, e0, e1, n0, n4, n5, htab]
        intro b5 hb5 hap5
        refine put_b L0 [tab, sDot] hT hp2 rfl (by omega) ?_
        rintro w M3 p3 a3 c3 hM3 hno3 hp3
        simp +contextual only [go_sem, Rcb, Rbk, sevalprocAttr, -Int.reduceAdd, -Int.reduceSub, -Int.reduceMul, e0, e1, mcell_ext hM3 n0, mcell_ext hM3 n5]
        intro b6 hb6 hap6
        refine put_b L0 [name] hT hp3 rfl (by have := putM_le [tab, sDot] acc2; omega) ?_
        rintro w M4 p4 a4 c4 hM4 hno4 hp4
        simp +contextual only [go_sem, Rcb, Rbk, sevalprocAttr, -Int.reduceAdd, -Int.reduceSub, -Int.reduceMul, fiD_ret]
        exact fin rfl hp4
    rw [if_neg k2] at hB
    by_cases k3 : k = 3
    · subst k3
      rw [if_pos rfl] at hB
      have hlen : kids.length = 1 := by
        have : (kids.length : Int) = 1 := by simpa [kidsN] using hk1
        omega
      obtain ⟨y, rfl⟩ : ∃ y, kids = [y] := List.length_eq_one_iff.1 hlen
      obtain ⟨bk, ok, ck, rfl, hat, hrk⟩ := hget 0 y rfl
      have hat : At M bk ok ck := by simpa using hat
      subst hB
      simp only [List.map_cons, List.map_nil, List.getD_cons_zero, wLen] at hl2
      simp +contextual only [go_sem, Rcb, Rbk, sevalprocAttr, -Int.reduceAdd, -Int.reduceSub, -Int.reduceMul, e0, e1, n0]
      intro b5 hb5 hap5
      refine put_b L0 [wNot] hT hp2 rfl (by simp only [wLen]; omega) ?_
      rintro w M3 p3 a3 c3 hM3 hno3 hp3
      have h23 := hM2.trans hM3
      simp +contextual only [go_sem, Rcb, Rbk, sevalprocAttr, -Int.reduceAdd, -Int.reduceSub, -Int.reduceMul, e0, e1, mcell_ext hM3 n6]
      refine expr_b L0 (hA y (by simp)) (hg.ext h23) (RX_ext h23 _ _ hrk) (hat.ext h23) (OkXs_mem hk5 y (by simp)) hT hp3 (by decide) (by decide) (by have := putM_le [wNot] acc2; simp only [wLen] at this; omega) ?_
      rintro w M4 p4 a4 c4 hM4 hno4 hp4
      simp +contextual only [go_sem, Rcb, Rbk, sevalprocAttr, -Int.reduceAdd, -Int.reduceSub, -Int.reduceMul, fiD_ret]
      exact fin rfl hp4
    rw [if_neg k3] at hB
    by_cases k16 : k = 16
    · subst k16
      rw [if_pos rfl] at hB
      have hlen : kids.length = 1 := by
        have : (kids.length : Int) = 1 := by simpa [kidsN] using hk1
        omega
      obtain ⟨y, rfl⟩ : ∃ y, kids = [y] := List.length_eq_one_iff.1 hlen
      obtain ⟨bk, ok, ck, rfl, hat, hrk⟩ := hget 0 y rfl
      have hat : At M bk ok ck := by simpa using hat
      simp only [List.map_cons, List.map_nil, List.getD_cons_zero] at hB
      subst hB
      rw [wLen_app] at hl2
      simp +contextual only [go_sem, Rcb, Rbk, sevalprocAttr, -Int.reduceAdd, -Int.reduceSub, -Int.reduceMul, e0, e1, n0, n6]
      refine expr_b L0 (hA y (by simp)) hg2 (RX_ext hM2 _ _ hrk) (hat.ext hM2) (OkXs_mem hk5 y (by simp)) hT hp2 (by decide) (by decide) (by omega) ?_
      rintro w M3 p3 a3 c3 hM3 hno3 hp3
      simp +contextual only [go_sem, Rcb, Rbk, sevalprocAttr, -Int.reduceAdd, -Int.reduceSub, -Int.reduceMul, e0, e1]
      intro b5 hb5 hap5
      refine put_b L0 [wIs, wNull] hT hp3 rfl (by have := putM_le (exprP y 5) acc2; omega) ?_
      rintro w M4 p4 a4 c4 hM4 hno4 hp4
      simp +contextual only [go_sem, Rcb, Rbk, sevalprocAttr, -Int.reduceAdd, -Int.reduceSub, -Int.reduceMul, fiD_ret]
      exact fin (by rw [putM_app]) hp4
    rw [if_neg k16] at hB
    by_cases k17 : k = 17
    · subst k17
      rw [if_pos rfl] at hB
      have hlen : kids.length = 3 := by
        have : (kids.length : Int) = 3 := by simpa [kidsN] using hk1
        omega
      obtain ⟨y, z, u, rfl⟩ : ∃ y z u, kids = [y, z, u] := by
        match kids, hlen with
        | [y, z, u], _ => exact ⟨y, z, u, rfl⟩
      obtain ⟨bk, ok, ck, rfl, hat, hrk⟩ := hget 0 y rfl
      obtain ⟨bk', ok', ck', hs', hat', hrk'⟩ := hget 1 z rfl
      injection hs' with hs'; injection hs' with hs1 hs2 _; subst hs1 hs2
      obtain ⟨bk', ok', ck'', hs', hat'', hrk''⟩ := hget 2 u rfl
      injection hs' with hs'; injection hs' with hs1 hs2 _; subst hs1 hs2
      have hat : At M bk ok ck := by simpa using hat
      have hat' : At M bk (ok + 7) ck' := by simpa using hat'
      have hat'' : At M bk (ok + 14) ck'' := by simpa using hat''
      simp only [List.map_cons, List.map_nil, List.getD_cons_zero, List.getD_cons_succ] at hB
      subst hB
      simp only [wLen_app, wLen] at hl2
      simp +contextual only [go_sem, Rcb, Rbk, sevalprocAttr, -Int.reduceAdd, -Int.reduceSub, -Int.reduceMul, e0, e1, n0]
      intro b5 hb5 hap5
      have q1 := putM_le [wCase, wWhen] acc2
      simp only [wLen] at q1
      refine put_b L0 [wCase, wWhen] hT hp2 rfl (by simp only [wLen]; omega) ?_
      rintro w M3 p3 a3 c3 hM3 hno3 hp3
      have h23 := hM2.trans hM3
      simp +contextual only [go_sem, Rcb, Rbk, sevalprocAttr, -Int.reduceAdd, -Int.reduceSub, -Int.reduceMul, e0, e1, mcell_ext hM3 n6]
      have q2 := putM_le (exprP y 1) (putM acc2 [wCase, wWhen])
      refine expr_b L0 (hA y (by simp)) (hg.ext h23) (RX_ext h23 _ _ hrk) (hat.ext h23) (OkXs_mem hk5 y (by simp)) hT hp3 (by decide) (by decide) (by omega) ?_
      rintro w M4 p4 a4 c4 hM4 hno4 hp4
      simp +contextual only [go_sem, Rcb, Rbk, sevalprocAttr, -Int.reduceAdd, -Int.reduceSub, -Int.reduceMul, e0, e1]
      intro b6 hb6 hap6
      have q3 := putM_le [wThen] (putM (putM acc2 [wCase, wWhen]) (exprP y 1))
      simp only [wLen] at q3
      refine put_b L0 [wThen] hT hp4 rfl (by simp only [wLen]; omega) ?_
      rintro w M5 p5 a5 c5 hM5 hno5 hp5
      have h25 := h23.trans (hM4.trans hM5)
      simp +contextual only [go_sem, Rcb, Rbk, sevalprocAttr, -Int.reduceAdd, -Int.reduceSub, -Int.reduceMul, e0, e1, mcell_ext (hM3.trans (hM4.trans hM5)) n6]
      have q4 := putM_le (exprP z 1) (putM (putM (putM acc2 [wCase, wWhen]) (exprP y 1)) [wThen])
      refine expr_b L0 (hA z (by simp)) (hg.ext h25) (RX_ext h25 _ _ hrk') (hat'.ext h25) (OkXs_mem hk5 z (by simp)) hT hp5 (by decide) (by decide) (by omega) ?_
      rintro w M6 p6 a6 c6 hM6 hno6 hp6
      simp +contextual only [go_sem, Rcb, Rbk, sevalprocAttr, -Int.reduceAdd, -Int.reduceSub, -Int.reduceMul, e0, e1]
      intro b7 hb7 hap7
      have q5 := putM_le [wElse] (putM (putM (putM (putM acc2 [wCase, wWhen]) (exprP y 1)) [wThen]) (exprP z 1))
      simp only [wLen] at q5
      refine put_b L0 [wElse] hT hp6 rfl (by simp only [wLen]; omega) ?_
      rintro w M7 p7 a7 c7 hM7 hno7 hp7
      have h27 := h25.trans (hM6.trans hM7)
      simp +contextual only [go_sem, Rcb, Rbk, sevalprocAttr, -Int.reduceAdd, -Int.reduceSub, -Int.reduceMul, e0, e1, mcell_ext (hM3.trans (hM4.trans (hM5.trans (hM6.trans hM7)))) n6]
      have q6 := putM_le (exprP u 1) (putM (putM (putM (putM (putM acc2 [wCase, wWhen]) (exprP y 1)) [wThen]) (exprP z 1)) [wElse])
      refine expr_b L0 (hA u (by simp)) (hg.ext h27) (RX_ext h27 _ _ hrk'') (hat''.ext h27) (OkXs_mem hk5 u (by simp)) hT hp7 (by decide) (by decide) (by omega) ?_
      rintro w M8 p8 a8 c8 hM8 hno8 hp8
      simp +contextual only [go_sem, Rcb, Rbk, sevalprocAttr, -Int.reduceAdd, -Int.reduceSub, -Int.reduceMul, e0, e1]
      intro b8 hb8 hap8
      refine put_b L0 [wEnd] hT hp8 rfl (by simp only [wLen]; omega) ?_
      rintro w M9 p9 a9 c9 hM9 hno9 hp9
      simp +contextual only [go_sem, Rcb, Rbk, sevalprocAttr, -Int.reduceAdd, -Int.reduceSub, -Int.reduceMul, fiD_ret]
      exact fin (by simp only [putM_app, putM_cons]; rfl) hp9
    rw [if_neg k17] at hB
    by_cases k19 : k = 19
    · subst k19
      rw [if_pos rfl] at hB
      subst hB
      simp +contextual only [go_sem, Rcb, Rbk, sevalprocAttr, -Int.reduceAdd, -Int.reduceSub, -Int.reduceMul, e0, e1, n0]
      intro b5 hb5 hap5
      refine put_b L0 [wCount, sOpen, sStar, sClose] hT hp2 rfl (by omega) ?_
      rintro w M3 p3 a3 c3 hM3 hno3 hp3
      simp +contextual only [go_sem, Rcb, Rbk, sevalprocAttr, -Int.reduceAdd, -Int.reduceSub, -Int.reduceMul, fiD_ret]
      exact fin rfl hp3
    rw [if_neg k19] at hB
    by_cases kf : k = 18 ∨ (20 ≤ k ∧ k ≤ 23)
    · rw [if_pos kf] at hB
      subst hB
      simp only [wLen_app, wLen] at hl2
      have hO : ∀ y ∈ kids, OkX y := fun y hy => OkXs_mem hk5 y hy
      have h5 : k = 18 ∨ k = 20 ∨ k = 21 ∨ k = 22 ∨ k = 23 := by omega
      rcases h5 with rfl | rfl | rfl | rfl | rfl
      · simp +contextual only [go_sem, Rcb, Rbk, sevalprocAttr, -Int.reduceAdd, -Int.reduceSub, -Int.reduceMul, e0, e1, n0]
        intro g b5 hb5 hap5
        have q1 := putM_le [fnW 18, sOpen] acc2
        simp only [wLen] at q1
        refine rCall_dropR bod80 (put_b L0 [fnW 18, sOpen] hT hp2 rfl (by simp only [wLen]; omega) ?_)
        rintro w M3 p3 a3 c3 hM3 hno3 hp3
        have h23 := hM2.trans hM3
        simp +contextual only [go_sem, Rcb, Rbk, sevalprocAttr, -Int.reduceAdd, -Int.reduceSub, -Int.reduceMul, e0, e1, mcell_ext hM3 n6]
        have q2 := putM_le (comP (kids.map exprP)) (putM acc2 [fnW 18, sOpen])
        refine list_b L0 hA hO (hg.ext h23) (RS_ext h23 (RX_ext h23) hkids) hT hp3 (by omega) ?_
        rintro w M4 p4 a4 c4 hM4 hno4 hp4
        simp +contextual only [go_sem, Rcb, Rbk, sevalprocAttr, -Int.reduceAdd, -Int.reduceSub, -Int.reduceMul, e0, e1]
        intro b6 hb6 hap6
        refine put_b L0 [sClose] hT hp4 rfl (by simp only [wLen]; omega) ?_
        rintro w M5 p5 a5 c5 hM5 hno5 hp5
        simp +contextual only [go_sem, Rcb, Rbk, sevalprocAttr, -Int.reduceAdd, -Int.reduceSub, -Int.reduceMul, fiD_ret]
        exact fin (by simp only [putM_app, putM_cons]) hp5
      · simp +contextual only [go_sem, Rcb, Rbk, sevalprocAttr, -Int.reduceAdd, -Int.reduceSub, -Int.reduceMul, e0, e1, n0]
        intro g b5 hb5 hap5
        have q1 := putM_le [fnW 20, sOpen] acc2
        simp only [wLen] at q1
        refine rCall_dropR bod80 (put_b L0 [fnW 20, sOpen] hT hp2 rfl (by simp only [wLen]; omega) ?_)
        rintro w M3 p3 a3 c3 hM3 hno3 hp3
        have h23 := hM2.trans hM3
        simp +contextual only [go_sem, Rcb, Rbk, sevalprocAttr, -Int.reduceAdd, -Int.reduceSub, -Int.reduceMul, e0, e1, mcell_ext hM3 n6]
        have q2 := putM_le (comP (kids.map exprP)) (putM acc2 [fnW 20, sOpen])
        refine list_b L0 hA hO (hg.ext h23) (RS_ext h23 (RX_ext h23) hkids) hT hp3 (by omega) ?_
        rintro w M4 p4 a4 c4 hM4 hno4 hp4
        simp +contextual only [go_sem, Rcb, Rbk, sevalprocAttr, -Int.reduceAdd, -Int.reduceSub, -Int.reduceMul, e0, e1]
        intro b6 hb6 hap6
        refine put_b L0 [sClose] hT hp4 rfl (by simp only [wLen]; omega) ?_
        rintro w M5 p5 a5 c5 hM5 hno5 hp5
        simp +contextual only [go_sem, Rcb, Rbk, sevalprocAttr, -Int.reduceAdd, -Int.reduceSub, -Int.reduceMul, fiD_ret]
        exact fin (by simp only [putM_app, putM_cons]) hp5
      · simp +contextual only [go_sem, Rcb, Rbk, sevalprocAttr, -Int.reduceAdd, -Int.reduceSub, -Int.reduceMul, e0, e1, n0]
        intro g b5 hb5 hap5
        have q1 := putM_le [fnW 21, sOpen] acc2
        simp only [wLen] at q1
        refine rCall_dropR bod80 (put_b L0 [fnW 21, sOpen] hT hp2 rfl (by simp only [wLen]; omega) ?_)
        rintro w M3 p3 a3 c3 hM3 hno3 hp3
        have h23 := hM2.trans hM3
        simp +contextual only [go_sem, Rcb, Rbk, sevalprocAttr, -Int.reduceAdd, -Int.reduceSub, -Int.reduceMul, e0, e1, mcell_ext hM3 n6]
        have q2 := putM_le (comP (kids.map exprP)) (putM acc2 [fnW 21, sOpen])
        refine list_b L0 hA hO (hg.ext h23) (RS_ext h23 (RX_ext h23) hkids) hT hp3 (by omega) ?_
        rintro w M4 p4 a4 c4 hM4 hno4 hp4
        simp +contextual only [go_sem, Rcb, Rbk, sevalprocAttr, -Int.reduceAdd, -Int.reduceSub, -Int.reduceMul, e0, e1]
        intro b6 hb6 hap6
        refine put_b L0 [sClose] hT hp4 rfl (by simp only [wLen]; omega) ?_
        rintro w M5 p5 a5 c5 hM5 hno5 hp5
        simp +contextual only [go_sem, Rcb, Rbk, sevalprocAttr, -Int.reduceAdd, -Int.reduceSub, -Int.reduceMul, fiD_ret]
        exact fin (by simp only [putM_app, putM_cons]) hp5
      · simp +contextual only [go_sem, Rcb, Rbk, sevalprocAttr, -Int.reduceAdd, -Int.reduceSub, -Int.reduceMul, e0, e1, n0]
        intro g b5 hb5 hap5
        have q1 := putM_le [fnW 22, sOpen] acc2
        simp only [wLen] at q1
        refine rCall_dropR bod80 (put_b L0 [fnW 22, sOpen] hT hp2 rfl (by simp only [wLen]; omega) ?_)
        rintro w M3 p3 a3 c3 hM3 hno3 hp3
        have h23 := hM2.trans hM3
        simp +contextual only [go_sem, Rcb, Rbk, sevalprocAttr, -Int.reduceAdd, -Int.reduceSub, -Int.reduceMul, e0, e1, mcell_ext hM3 n6]
        have q2 := putM_le (comP (kids.map exprP)) (putM acc2 [fnW 22, sOpen])
        refine list_b L0 hA hO (hg.ext h23) (RS_ext h23 (RX_ext h23) hkids) hT hp3 (by omega) ?_
        rintro w M4 p4 a4 c4 hM4 hno4 hp4
        simp +contextual only [go_sem, Rcb, Rbk, sevalprocAttr, -Int.reduceAdd, -Int.reduceSub, -Int.reduceMul, e0, e1]
        intro b6 hb6 hap6
        refine put_b L0 [sClose] hT hp4 rfl (by simp only [wLen]; omega) ?_
        rintro w M5 p5 a5 c5 hM5 hno5 hp5
        simp +contextual only [go_sem, Rcb, Rbk, sevalprocAttr, -Int.reduceAdd, -Int.reduceSub, -Int.reduceMul, fiD_ret]
        exact fin (by simp only [putM_app, putM_cons]) hp5
      · simp +contextual only [go_sem, Rcb, Rbk, sevalprocAttr, -Int.reduceAdd, -Int.reduceSub, -Int.reduceMul, e0, e1, n0]
        intro g b5 hb5 hap5
        have q1 := putM_le [fnW 23, sOpen] acc2
        simp only [wLen] at q1
        refine rCall_dropR bod80 (put_b L0 [fnW 23, sOpen] hT hp2 rfl (by simp only [wLen]; omega) ?_)
        rintro w M3 p3 a3 c3 hM3 hno3 hp3
        have h23 := hM2.trans hM3
        simp +contextual only [go_sem, Rcb, Rbk, sevalprocAttr, -Int.reduceAdd, -Int.reduceSub, -Int.reduceMul, e0, e1, mcell_ext hM3 n6]
        have q2 := putM_le (comP (kids.map exprP)) (putM acc2 [fnW 23, sOpen])
        refine list_b L0 hA hO (hg.ext h23) (RS_ext h23 (RX_ext h23) hkids) hT hp3 (by omega) ?_
        rintro w M4 p4 a4 c4 hM4 hno4 hp4
        simp +contextual only [go_sem, Rcb, Rbk, sevalprocAttr, -Int.reduceAdd, -Int.reduceSub, -Int.reduceMul, e0, e1]
        intro b6 hb6 hap6
        refine put_b L0 [sClose] hT hp4 rfl (by simp only [wLen]; omega) ?_
        rintro w M5 p5 a5 c5 hM5 hno5 hp5
        simp +contextual only [go_sem, Rcb, Rbk, sevalprocAttr, -Int.reduceAdd, -Int.reduceSub, -Int.reduceMul, fiD_ret]
        exact fin (by simp only [putM_app, putM_cons]) hp5
    rw [if_neg kf] at hB
    have hlen : kids.length = 2 := by
      have : kidsN k = 2 := by
        unfold kidsN
        rw [if_neg (by omega), if_neg (by omega), if_pos (by omega)]
      omega
    obtain ⟨y, z, rfl⟩ : ∃ y z, kids = [y, z] := by
      match kids, hlen with
      | [y, z], _ => exact ⟨y, z, rfl⟩
    obtain ⟨bk, ok, ck, rfl, hat, hrk⟩ := hget 0 y rfl
    obtain ⟨bk', ok', ck', hs', hat', hrk'⟩ := hget 1 z rfl
    injection hs' with hs'; injection hs' with hs1 hs2 _; subst hs1 hs2
    have hat : At M bk ok ck := by simpa using hat
    have hat' : At M bk (ok + 7) ck' := by simpa using hat'
    simp only [List.map_cons, List.map_nil, List.getD_cons_zero, List.getD_cons_succ] at hB
    generalize (tightM k).1 = own at htb e6 hB
    generalize (tightM k).2 = sg at e7 hB
    have hw1 : IntKind.i64.wrap (own + 1) = own + 1 := wrap64 (by omega) (by omega)
    have f18 : ¬ k = 18 := by omega
    have f20 : ¬ k = 20 := by omega
    have f21 : ¬ k = 21 := by omega
    have f22 : ¬ k = 22 := by omega
    have f23 : ¬ k = 23 := by omega
    by_cases o4 : own = 4
    · subst o4
      rw [if_pos rfl] at hB
      have h45 : (4 : Int) + 1 = 5 := rfl
      have hw4 : IntKind.i64.wrap (4 + 1) = 5 := by decide
      rw [h45] at hB
      subst hB
      simp only [wLen_app, wLen] at hl2
      simp +contextual only [go_sem, Rcb, Rbk, sevalprocAttr, -Int.reduceAdd, -Int.reduceSub, -Int.reduceMul, e0, e1, e6, e7, n0, n6, k1, k2, k3, k16, k17, k19, f18, f20, f21, f22, f23, hw4]
      have q1 := putM_le (exprP y 5) acc2
      refine expr_b L0 (hA y (by simp)) hg2 (RX_ext hM2 _ _ hrk) (hat.ext hM2) (OkXs_mem hk5 y (by simp)) hT hp2 (by omega) (by omega) (by omega) ?_
      rintro w M3 p3 a3 c3 hM3 hno3 hp3
      simp +contextual only [go_sem, Rcb, Rbk, sevalprocAttr, -Int.reduceAdd, -Int.reduceSub, -Int.reduceMul, e0, e1, e6, e7]
      intro b5 hb5 hap5
      have q2 := putM_le [sg] (putM acc2 (exprP y 5))
      simp only [wLen] at q2
      refine put_b L0 [sg] hT hp3 rfl (by simp only [wLen]; omega) ?_
      rintro w M4 p4 a4 c4 hM4 hno4 hp4
      have h24 := hM2.trans (hM3.trans hM4)
      simp +contextual only [go_sem, Rcb, Rbk, sevalprocAttr, -Int.reduceAdd, -Int.reduceSub, -Int.reduceMul, e0, e1, e6, e7, mcell_ext (hM3.trans hM4) n6, hw4]
      refine expr_b L0 (hA z (by simp)) (hg.ext h24) (RX_ext h24 _ _ hrk') (hat'.ext h24) (OkXs_mem hk5 z (by simp)) hT hp4 (by omega) (by omega) (by omega) ?_
      rintro w M5 p5 a5 c5 hM5 hno5 hp5
      simp +contextual only [go_sem, Rcb, Rbk, sevalprocAttr, -Int.reduceAdd, -Int.reduceSub, -Int.reduceMul, fiD_ret]
      exact fin (by simp only [putM_app, putM_cons]; rfl) hp5
    · rw [if_neg o4] at hB
      subst hB
      simp only [wLen_app, wLen] at hl2
      simp +contextual only [go_sem, Rcb, Rbk, sevalprocAttr, -Int.reduceAdd, -Int.reduceSub, -Int.reduceMul, e0, e1, e6, e7, n0, n6, k1, k2, k3, k16, k17, k19, f18, f20, f21, f22, f23, o4, hw1]
      have q1 := putM_le (exprP y own) acc2
      refine expr_b L0 (hA y (by simp)) hg2 (RX_ext hM2 _ _ hrk) (hat.ext hM2) (OkXs_mem hk5 y (by simp)) hT hp2 (by omega) (by omega) (by omega) ?_
      rintro w M3 p3 a3 c3 hM3 hno3 hp3
      simp +contextual only [go_sem, Rcb, Rbk, sevalprocAttr, -Int.reduceAdd, -Int.reduceSub, -Int.reduceMul, e0, e1, e6, e7]
      intro b5 hb5 hap5
      have q2 := putM_le [sg] (putM acc2 (exprP y own))
      simp only [wLen] at q2
      refine put_b L0 [sg] hT hp3 rfl (by simp only [wLen]; omega) ?_
      rintro w M4 p4 a4 c4 hM4 hno4 hp4
      have h24 := hM2.trans (hM3.trans hM4)
      simp +contextual only [go_sem, Rcb, Rbk, sevalprocAttr, -Int.reduceAdd, -Int.reduceSub, -Int.reduceMul, e0, e1, e6, e7, mcell_ext (hM3.trans hM4) n6, hw1]
      refine expr_b L0 (hA z (by simp)) (hg.ext h24) (RX_ext h24 _ _ hrk') (hat'.ext h24) (OkXs_mem hk5 z (by simp)) hT hp4 (by omega) (by omega) (by omega) ?_
      rintro w M5 p5 a5 c5 hM5 hno5 hp5
      simp +contextual only [go_sem, Rcb, Rbk, sevalprocAttr, -Int.reduceAdd, -Int.reduceSub, -Int.reduceMul, fiD_ret]
      exact fin (by simp only [putM_app, putM_cons]; rfl) hp5
theorem exW (x : X) : ExW x := ct_wexpr _ x (Nat.le_refl _)
end Go.Proofs.YtoainkbcfnlkcaaGreatDoor


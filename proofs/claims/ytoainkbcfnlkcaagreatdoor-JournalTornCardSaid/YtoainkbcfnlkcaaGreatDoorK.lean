import Derived.Test.YtoainkbcfnlkcaaGreatDoorJ
set_option linter.all false
namespace Go.Proofs.YtoainkbcfnlkcaaGreatDoor
open Go Vc
set_option linter.unusedSimpArgs false
set_option linter.unusedVariables false
set_option maxRecDepth 10000

/-! ### selects, written -/
def asP (a : Bs) : List Bs := if a = [] then [] else [wAs, a]
def itemP (i : It) : List Bs := exprP i.x 1 ++ asP i.as
def itemsP : Bool → List It → List Bs
  | _, [] => []
  | first, i :: l => (if first = true then [] else [sComma]) ++ (itemP i ++ itemsP false l)
def joinWd (k : Int) : List Bs := if k = 1 then [wFrom] else if k = 2 then [wJoin] else if k = 3 then [wSemi, wJoin] else if k = 4 then [wAnti, wJoin] else [wLeft, wJoin]
def srcP (first : Bool) (s : So) : List Bs := joinWd s.k ++ ([s.name] ++ (asP s.as ++ (if first = true then [] else [wOn] ++ exprP s.on 1)))
def srcsP : Bool → List So → List Bs
  | _, [] => []
  | first, s :: l => srcP first s ++ srcsP false l
def whereP (f : Bool) (w : Bs) (x : X) : List Bs := if f = true then [w] ++ exprP x 1 else []
def groupP (l : List X) : List Bs := if l = [] then [] else [wGroup, wBy] ++ comP (l.map exprP)
def selP (s : Se) : List Bs := [wSelect] ++ ((if s.distinct = true then [wDistinct] else []) ++ ((if s.star = true then [sStar] else []) ++ ((if s.star = true then [] else itemsP true s.items) ++ (srcsP true s.src ++ (whereP s.hasW wWhere s.wh ++ (groupP s.group ++ whereP s.hasH wHaving s.hv))))))
def OkSe (s : Se) : Prop := (s.star = false → ∀ i ∈ s.items, OkX i.x) ∧ (∀ f ∈ s.src, 1 ≤ f.k ∧ f.k ≤ 5) ∧ (∀ f ∈ s.src.tail, OkX f.on) ∧ (s.hasW = true → OkX s.wh) ∧ (∀ x ∈ s.group, OkX x) ∧ (s.hasH = true → OkX s.hv)
/-- where the walk stands: all but the writer's text as it was -/
def StW (T : Tm) (M : Mem) (b : Nat) (A : Bs) (h : Sh) : Prop := ∃ M' p a c, wrP b p ∧ Ext M M' ∧ M' b = none ∧ h = ⟨T, M', [(b, [p, .slice a A.length c])], [(.slice a A.length c, 5, 1, Lib.byteCells A)]⟩
def CutQ (T : Tm) (M : Mem) (b : Nat) (v : Value) (A : Bs) (e : Env) (ds : List Deferred) (h : Sh) : Prop := ds = [] ∧ e 0 = .pointer (some ⟨b, 0, none⟩) ∧ e 1 = v ∧ StW T M b A h
/-- what is left to be written -/
def Rest (W A : Bs) (r : List Bs) : Prop := W = putM A r ∧ A.length + wLen r ≤ 1000000000
theorem Rest.step {W A : Bs} {u r : List Bs} (h : Rest W A (u ++ r)) : A.length + wLen u ≤ 1000000000 ∧ Rest W (putM A u) r := by
  obtain ⟨h1, h2⟩ := h
  rw [wLen_app] at h2
  have := putM_le u A
  exact ⟨by omega, by rw [h1, putM_app], by omega⟩
theorem StW.put {T : Tm} {M : Mem} {b : Nat} {A : Bs} {M' : Mem} {p : Value} {a : Option Addr} {c : Nat} (hp : wrP b p) (he : Ext M M') (hn : noneL M' ([] ++ [(b, [p, .slice a A.length c])])) : StW T M b A ⟨T, M', [] ++ [(b, [p, .slice a A.length c])], [(.slice a A.length c, 5, 1, Lib.byteCells A)]⟩ :=
  ⟨M', p, a, c, hp, he, hn.1, rfl⟩
theorem putv_b {F : Fi} {s : List Vc.Item} {e : Env} {ds : List Deferred} {dd : Option Nat} {N : Tm} {M : Mem} {b : Nat} {a : Option Addr} {c : Nat} {p : Value} {acc : Bs} {ws : List Bs} {wv : Value} (L1 : LL) (hw : RS M RSt 1 ws wv) (hN : N b = some 97) (hp : wrP b p) (hl : acc.length + wLen ws ≤ 1000000000)
    (k : ∀ u M' p' a' c', Ext M M' → noneL M' (L1 ++ [(b, [p', .slice a' (putM acc ws).length c'])]) → wrP b p' → Run Tryz.prog F s (updo e dd u) ds ⟨N, M', L1 ++ [(b, [p', .slice a' (putM acc ws).length c'])], [(.slice a' (putM acc ws).length c', 5, 1, Lib.byteCells (putM acc ws))]⟩ ⟨⟩) :
    rCall Tryz.prog F 80 [.pointer (some ⟨b, 0, none⟩), wv] dd s e ds ⟨N, M, L1 ++ [(b, [p, .slice a acc.length c])], [(.slice a acc.length c, 5, 1, Lib.byteCells acc)]⟩ ⟨⟩ := by
  have h := rCall_of (P := Tryz.prog) (F := F) (s := s) (e := e) (ds := ds) (dd := dd) (N := N) L1 (wrL b p a acc.length c) [] [] (wrR a acc.length c acc) [] (ct_put hN hp hw hl)
    (fun u M' L' R' hM' _ _ hno' hq => by
      obtain ⟨p', a', c', hp', rfl, rfl⟩ := hq
      rw [List.append_nil] at hno' ⊢
      exact k u M' p' a' c' hM' hno' hp')
    (fun _ _ _ _ _ _ _ _ h => h.elim)
  rw [List.append_nil] at h
  exact h
theorem itemsP_drop {l : List It} {i : Nat} (h : i < l.length) (f : Bool) : itemsP f (l.drop i) = (if f = true then [] else [sComma]) ++ (itemP l[i] ++ itemsP false (l.drop (i + 1))) := by
  rw [List.drop_eq_getElem_cons h, itemsP]
theorem srcsP_drop {l : List So} {i : Nat} (h : i < l.length) (f : Bool) : srcsP f (l.drop i) = srcP f l[i] ++ srcsP false (l.drop (i + 1)) := by
  rw [List.drop_eq_getElem_cons h, srcsP]
theorem Rest.nil {W A : Bs} {r : List Bs} (h : Rest W A ([] ++ r)) : Rest W A r := h
theorem ct_pwsel {s : Se} {M : Mem} {T : Tm} {b bx ox : Nat} {cs : List Value} {a : Option Addr} {c : Nat} {p : Value} {acc : Bs} (hg : GlobP M) (hs : RSe M s cs) (ha : At M bx ox cs) (ho : OkSe s) (hT : T b = some 97) (hp : wrP b p) (hl : acc.length + wLen (selP s) ≤ 1000000000) :
    CtT Tryz.prog 124 [.pointer (some ⟨b, 0, none⟩), .pointer (some ⟨bx, ox, none⟩)] T M (wrL b p a acc.length c) (wrR a acc.length c acc) (wrPost b (putM acc (selP s))) noPan := by
  obtain ⟨ai, aj, af, ag, aw, ah, ap, aq, rfl, xi, xf, xw, xh, xg, kw, kh⟩ := RSe_form hs
  obtain ⟨y0, y1, y2, y3, y4, y5, y6, y7, y8, y9, y10, y11, y12, y13, y14, y15, y16, y17, y18, y19, y20⟩ := At21 ha
  obtain ⟨ho1, ho2, ho3, ho4, ho5, ho6⟩ := ho
  obtain ⟨W, hW⟩ : ∃ W, W = putM acc (selP s) := ⟨_, rfl⟩
  have hR : Rest W acc (selP s) := ⟨hW, hl⟩
  rw [← hW]
  clear hW hl
  unfold selP at hR
  obtain ⟨hl, hR⟩ := hR.step
  unfold wrL wrR
  refine ct_run mx bod124 Tryz.func124 rfl (by rw [nt124]; exact Nat.le_of_ble_eq_true rfl) (dr := dr124) (by kernel_rfl) rs124 ?_
  intro hno _
  simp only [noneL, and_true] at hno
  simp +contextual only [go_sem, sevalprocAttr, -Int.reduceAdd, -Int.reduceSub, -Int.reduceMul]
  intro b3 hb3 hap3
  refine put_b [] [wSelect] hT hp rfl hl ?_
  rintro w M1 p1 a1 c1 hM1 hno1 hp1
  generalize putM acc [wSelect] = A1 at hR hno1 ⊢
  simp only [List.nil_append, noneL, and_true] at hno1 ⊢
  simp +contextual only [go_sem, sevalprocAttr, -Int.reduceAdd, -Int.reduceSub, -Int.reduceMul, mcell_ext hM1 y0]
  -- distinct
  obtain ⟨hl, hR⟩ := hR.step
  refine cond_cut (CutQ T M b (.pointer (some ⟨bx, ox, none⟩)) (putM A1 (if s.distinct = true then [wDistinct] else []))) (fun S' hS' => ?_) ?_
  · by_cases hd : s.distinct = true
    · rw [if_pos hd] at hl hS'
      rw [rCond_bool, if_pos hd]
      simp +contextual only [go_sem, sevalprocAttr, -Int.reduceAdd, -Int.reduceSub, -Int.reduceMul]
      intro b4 hb4 hap4
      refine put_b [] [wDistinct] hT hp1 rfl hl ?_
      rintro w M2 p2 a2 c2 hM2 hno2 hp2
      simp +contextual only [go_sem, sevalprocAttr, -Int.reduceAdd, -Int.reduceSub, -Int.reduceMul]
      refine hS' _ _ _ ⟨rfl, ?_, ?_, StW.put hp2 (hM1.trans hM2) hno2⟩
      · simp only [go_sem, Rcb, Rbk, sevalprocAttr, -Int.reduceAdd, -Int.reduceSub, -Int.reduceMul]
      · simp only [go_sem, Rcb, Rbk, sevalprocAttr, -Int.reduceAdd, -Int.reduceSub, -Int.reduceMul]
    · rw [if_neg hd] at hS'
      rw [rCond_bool, if_neg hd]
      simp +contextual only [go_sem, sevalprocAttr, -Int.reduceAdd, -Int.reduceSub, -Int.reduceMul]
      refine hS' _ _ _ ⟨rfl, ?_, ?_, M1, p1, a1, c1, hp1, hM1, hno1, rfl⟩
      · simp only [go_sem, Rcb, Rbk, sevalprocAttr, -Int.reduceAdd, -Int.reduceSub, -Int.reduceMul]
      · simp only [go_sem, Rcb, Rbk, sevalprocAttr, -Int.reduceAdd, -Int.reduceSub, -Int.reduceMul]
  rintro e ds h ⟨rfl, e0, e1, M2, p2, a2, c2, hp2, hM2, hno2, rfl⟩
  generalize putM A1 (if s.distinct = true then [wDistinct] else []) = A2 at hR ⊢
  simp +contextual only [go_sem, sevalprocAttr, -Int.reduceAdd, -Int.reduceSub, -Int.reduceMul, e0, e1, mcell_ext hM2 y1]
  obtain ⟨hl, hR⟩ := hR.step
  refine cond_cut (CutQ T M b (.pointer (some ⟨bx, ox, none⟩)) (putM A2 (if s.star = true then [sStar] else []))) (fun S' hS' => ?_) ?_
  · by_cases hd : s.star = true
    · rw [if_pos hd] at hl hS'
      rw [rCond_bool, if_pos hd]
      simp +contextual only [go_sem, sevalprocAttr, -Int.reduceAdd, -Int.reduceSub, -Int.reduceMul, e0, e1]
      intro b4 hb4 hap4
      refine put_b [] [sStar] hT hp2 rfl hl ?_
      rintro w M3 p3 a3 c3 hM3 hno3 hp3
      simp +contextual only [go_sem, sevalprocAttr, -Int.reduceAdd, -Int.reduceSub, -Int.reduceMul]
      refine hS' _ _ _ ⟨rfl, ?_, ?_, StW.put hp3 (hM2.trans hM3) hno3⟩
      · simp only [e0, go_sem, Rcb, Rbk, sevalprocAttr, -Int.reduceAdd, -Int.reduceSub, -Int.reduceMul]
      · simp only [e1, go_sem, Rcb, Rbk, sevalprocAttr, -Int.reduceAdd, -Int.reduceSub, -Int.reduceMul]
    · rw [if_neg hd] at hS'
      rw [rCond_bool, if_neg hd]
      simp +contextual only [go_sem, sevalprocAttr, -Int.reduceAdd, -Int.reduceSub, -Int.reduceMul]
      refine hS' _ _ _ ⟨rfl, ?_, ?_, M2, p2, a2, c2, hp2, hM2, hno2, rfl⟩
      · simp only [e0, go_sem, Rcb, Rbk, sevalprocAttr, -Int.reduceAdd, -Int.reduceSub, -Int.reduceMul]
      · simp only [e1, go_sem, Rcb, Rbk, sevalprocAttr, -Int.reduceAdd, -Int.reduceSub, -Int.reduceMul]
  generalize putM A2 (if s.star = true then [sStar] else []) = A3 at hR ⊢
  clear e0 e1 hM2 hno2 hp2 hM1 hno1 hp1
  clear M2 p2 a2 c2 e
  rintro e ds h ⟨rfl, e0, e1, M2, p2, a2, c2, hp2, hM2, hno2, rfl⟩
  simp +contextual only [go_sem, sevalprocAttr, -Int.reduceAdd, -Int.reduceSub, -Int.reduceMul, e0, e1, mcell_ext hM2 y2]
  obtain ⟨hl, hR⟩ := hR.step
  have hli := RS_le xi
  refine run_cut (CutQ T M b (.pointer (some ⟨bx, ox, none⟩)) (putM A3 (if s.star = true then [] else itemsP true s.items))) (fun S' hS' => ?_) ?_
  · obtain ⟨U, hU⟩ : ∃ U, U = putM A3 (if s.star = true then [] else itemsP true s.items) := ⟨_, rfl⟩
    rw [← hU] at hS'
    simp +contextual only [go_sem, Rcb, Rbk, sevalprocAttr, -Int.reduceAdd, -Int.reduceSub, -Int.reduceMul, e0, e1]
    refine loop_range s.items.length 29 [(0, .pointer (some ⟨b, 0, none⟩)), (1, (.pointer (some ⟨bx, ox, none⟩))), (28, .int .i64 (s.items.length : Int))] (fun i e h => ∃ A', StW T M b A' h ∧ (s.star = true → A' = A3) ∧ (s.star = false → Rest U A' (itemsP (decide (i = 0)) (s.items.drop i)))) 0 (by omega) (by simp only [live, e0, e1, go_sem, Rcb, Rbk, sevalprocAttr, -Int.reduceAdd, -Int.reduceSub, -Int.reduceMul]) (by simp only [go_sem, Rcb, Rbk, sevalprocAttr, -Int.reduceAdd, -Int.reduceSub, -Int.reduceMul]) ⟨A3, ⟨M2, p2, a2, c2, hp2, hM2, hno2, rfl⟩, fun _ => rfl, fun h => ⟨by rw [hU, if_neg (by rw [h]; exact Bool.false_ne_true)]; rfl, by rw [if_neg (by rw [h]; exact Bool.false_ne_true)] at hl; exact hl⟩⟩ ?_
    clear e0 e1 hM2 hno2 hp2
    clear M2 p2 a2 c2 e
    rintro i e h hi hlv ht ⟨A4, ⟨M3, p3, a3, c3, hp3, hM3, hno3, rfl⟩, hA1, hA2⟩
    simp only [live] at hlv
    have z1 := mcell_ext hM3 y1
    have z2 := mcell_ext hM3 y2
    by_cases hlt : i < s.items.length
    · cases hst : s.star with
      | true =>
        rw [hst] at z1
        have hA4 := hA1 hst
        subst hA4
        simp +contextual only [go_sem, Rcb, Rbk, sevalprocAttr, -Int.reduceAdd, -Int.reduceSub, -Int.reduceMul, hlv, ht, hlt, z1]
        refine hS' _ _ _ ⟨rfl, ?_, ?_, M3, p3, a3, c3, hp3, hM3, hno3, ?_⟩
        · simp only [hlv, go_sem, Rcb, Rbk, sevalprocAttr, -Int.reduceAdd, -Int.reduceSub, -Int.reduceMul]
        · simp only [hlv, go_sem, Rcb, Rbk, sevalprocAttr, -Int.reduceAdd, -Int.reduceSub, -Int.reduceMul]
        · rw [hU, if_pos hst]; rfl
      | false =>
        rw [hst] at z1
        have hr := hA2 hst
        rw [itemsP_drop hlt] at hr
        obtain ⟨bi, oi, ci, rfl, hat, hri⟩ := RS_get (by decide) (fun _ _ => RIt_len) xi (List.getElem?_eq_getElem hlt)
        have hOx := ho1 hst s.items[i] (List.getElem_mem hlt)
        obtain ⟨wi, rfl, hxx, _⟩ := RIt_form hri
        have hat7 : At M bi (oi + i * 8) [.int .i64 s.items[i].x.k, .int .i64 s.items[i].x.v.k, .int .i64 s.items[i].x.v.n, st s.items[i].x.v.t, st s.items[i].x.tab, st s.items[i].x.name, wi] := (At_app (l' := [st s.items[i].as])).1 hat |>.1
        obtain ⟨_, _, _, _, _, _, _, was⟩ := At8 hat
        generalize s.items[i] = it at hr hOx hxx hat7 was
        by_cases hi0 : i = 0
        · have h0 : ¬ (0 : Int) < ((i : Nat) : Int) := by omega
          rw [if_pos (by simpa using hi0)] at hr
          obtain ⟨hl5, hr⟩ := hr.nil.step
          simp +contextual only [go_sem, Rcb, Rbk, sevalprocAttr, -Int.reduceAdd, -Int.reduceSub, -Int.reduceMul, hlv, ht, hlt, z1, z2, h0]
          have hl6 : A4.length + wLen (exprP it.x 1 ++ asP it.as) ≤ 1000000000 := hl5
          have hr2 : Rest U (putM A4 (exprP it.x 1 ++ asP it.as)) (itemsP false (s.items.drop (i + 1))) := hr
          rw [wLen_app] at hl6
          rw [putM_app] at hr2
          have hq := putM_le (exprP it.x 1) A4
          refine expr_b [] (exW it.x) (hg.ext hM3) (RX_ext hM3 _ _ hxx) (hat7.ext hM3) hOx hT hp3 (by decide) (by decide) (by omega) ?_
          rintro w M6 p6 a6 c6 hM6 hno6 hp6
          generalize putM A4 (exprP it.x 1) = A6 at hr2 hq hno6 ⊢
          simp only [List.nil_append, noneL, and_true] at hno6 ⊢
          by_cases has : it.as = []
          · simp +contextual only [go_sem, Rcb, Rbk, sevalprocAttr, -Int.reduceAdd, -Int.reduceSub, -Int.reduceMul, hlv, ht, hlt, mcell_ext hM6 z2, mcell_ext (hM3.trans hM6) was, has]
            refine lp_range hlt ?_ ?_ ⟨A6, ⟨M6, p6, a6, c6, hp6, (hM3.trans hM6), hno6, rfl⟩, ⟨(fun h => by cases h), (fun _ => ?_)⟩⟩
            · simp only [live, hlv, go_sem, Rcb, Rbk, sevalprocAttr, -Int.reduceAdd, -Int.reduceSub, -Int.reduceMul]
            · simp only [ht, go_sem, Rcb, Rbk, sevalprocAttr, -Int.reduceAdd, -Int.reduceSub, -Int.reduceMul, wrap_succ i (by omega)]
            · rw [asP, if_pos has] at hr2; simpa [putM_nil] using hr2
          · simp +contextual only [go_sem, Rcb, Rbk, sevalprocAttr, -Int.reduceAdd, -Int.reduceSub, -Int.reduceMul, hlv, ht, hlt, mcell_ext hM6 z2, mcell_ext (hM3.trans hM6) was, has]
            intro b7 hb7 hap7
            rw [asP, if_neg has] at hr2
            refine put_b [] [wAs, it.as] hT hp6 rfl (by rw [asP, if_neg has] at hl6; omega) ?_
            rintro w M7 p7 a7 c7 hM7 hno7 hp7
            simp only [List.nil_append, noneL, and_true] at hno7 ⊢
            simp +contextual only [go_sem, Rcb, Rbk, sevalprocAttr, -Int.reduceAdd, -Int.reduceSub, -Int.reduceMul, hlv, ht, hlt]
            refine lp_range hlt ?_ ?_ ⟨_, ⟨M7, p7, a7, c7, hp7, (hM3.trans hM6).trans hM7, hno7, rfl⟩, ⟨(fun h => by cases h), (fun _ => ?_)⟩⟩
            · simp only [live, hlv, go_sem, Rcb, Rbk, sevalprocAttr, -Int.reduceAdd, -Int.reduceSub, -Int.reduceMul]
            · simp only [ht, go_sem, Rcb, Rbk, sevalprocAttr, -Int.reduceAdd, -Int.reduceSub, -Int.reduceMul, wrap_succ i (by omega)]
            · simpa using hr2
        · have h0 : (0 : Int) < ((i : Nat) : Int) := by omega
          rw [if_neg (by simpa using hi0)] at hr
          obtain ⟨hl4, hr⟩ := hr.step
          obtain ⟨hl5, hr⟩ := hr.step
          simp +contextual only [go_sem, Rcb, Rbk, sevalprocAttr, -Int.reduceAdd, -Int.reduceSub, -Int.reduceMul, hlv, ht, hlt, z1, z2, h0]
          intro b5 hb5 hap5
          refine put_b [] [sComma] hT hp3 rfl hl4 ?_
          rintro w M4 p4 a4 c4 hM4 hno4 hp4
          generalize putM A4 [sComma] = A5 at hr hl5 hno4 ⊢
          simp only [List.nil_append, noneL, and_true] at hno4 ⊢
          simp +contextual only [go_sem, Rcb, Rbk, sevalprocAttr, -Int.reduceAdd, -Int.reduceSub, -Int.reduceMul, hlv, ht, hlt, mcell_ext hM4 z2]
          have hl6 : A5.length + wLen (exprP it.x 1 ++ asP it.as) ≤ 1000000000 := hl5
          have hr2 : Rest U (putM A5 (exprP it.x 1 ++ asP it.as)) (itemsP false (s.items.drop (i + 1))) := hr
          rw [wLen_app] at hl6
          rw [putM_app] at hr2
          have hq := putM_le (exprP it.x 1) A5
          refine expr_b [] (exW it.x) (hg.ext (hM3.trans hM4)) (RX_ext (hM3.trans hM4) _ _ hxx) (hat7.ext (hM3.trans hM4)) hOx hT hp4 (by decide) (by decide) (by omega) ?_
          rintro w M6 p6 a6 c6 hM6 hno6 hp6
          generalize putM A5 (exprP it.x 1) = A6 at hr2 hq hno6 ⊢
          simp only [List.nil_append, noneL, and_true] at hno6 ⊢
          by_cases has : it.as = []
          · simp +contextual only [go_sem, Rcb, Rbk, sevalprocAttr, -Int.reduceAdd, -Int.reduceSub, -Int.reduceMul, hlv, ht, hlt, mcell_ext (hM4.trans hM6) z2, mcell_ext (hM3.trans (hM4.trans hM6)) was, has]
            refine lp_range hlt ?_ ?_ ⟨A6, ⟨M6, p6, a6, c6, hp6, (hM3.trans (hM4.trans hM6)), hno6, rfl⟩, ⟨(fun h => by cases h), (fun _ => ?_)⟩⟩
            · simp only [live, hlv, go_sem, Rcb, Rbk, sevalprocAttr, -Int.reduceAdd, -Int.reduceSub, -Int.reduceMul]
            · simp only [ht, go_sem, Rcb, Rbk, sevalprocAttr, -Int.reduceAdd, -Int.reduceSub, -Int.reduceMul, wrap_succ i (by omega)]
            · rw [asP, if_pos has] at hr2; simpa [putM_nil] using hr2
          · simp +contextual only [go_sem, Rcb, Rbk, sevalprocAttr, -Int.reduceAdd, -Int.reduceSub, -Int.reduceMul, hlv, ht, hlt, mcell_ext (hM4.trans hM6) z2, mcell_ext (hM3.trans (hM4.trans hM6)) was, has]
            intro b7 hb7 hap7
            rw [asP, if_neg has] at hr2
            refine put_b [] [wAs, it.as] hT hp6 rfl (by rw [asP, if_neg has] at hl6; omega) ?_
            rintro w M7 p7 a7 c7 hM7 hno7 hp7
            simp only [List.nil_append, noneL, and_true] at hno7 ⊢
            simp +contextual only [go_sem, Rcb, Rbk, sevalprocAttr, -Int.reduceAdd, -Int.reduceSub, -Int.reduceMul, hlv, ht, hlt]
            refine lp_range hlt ?_ ?_ ⟨_, ⟨M7, p7, a7, c7, hp7, (hM3.trans (hM4.trans hM6)).trans hM7, hno7, rfl⟩, ⟨(fun h => by cases h), (fun _ => ?_)⟩⟩
            · simp only [live, hlv, go_sem, Rcb, Rbk, sevalprocAttr, -Int.reduceAdd, -Int.reduceSub, -Int.reduceMul]
            · simp only [ht, go_sem, Rcb, Rbk, sevalprocAttr, -Int.reduceAdd, -Int.reduceSub, -Int.reduceMul, wrap_succ i (by omega)]
            · simpa using hr2
    · have : i = s.items.length := by omega
      subst this
      simp +contextual only [go_sem, Rcb, Rbk, sevalprocAttr, -Int.reduceAdd, -Int.reduceSub, -Int.reduceMul, hlv, ht, hlt]
      refine hS' _ _ _ ⟨rfl, ?_, ?_, M3, p3, a3, c3, hp3, hM3, hno3, ?_⟩
      · simp only [hlv, go_sem, Rcb, Rbk, sevalprocAttr, -Int.reduceAdd, -Int.reduceSub, -Int.reduceMul]
      · simp only [hlv, go_sem, Rcb, Rbk, sevalprocAttr, -Int.reduceAdd, -Int.reduceSub, -Int.reduceMul]
      · have hAU : U = A4 := by
          cases hst : s.star with
          | true => rw [hA1 hst, hU, if_pos hst]; rfl
          | false =>
            have := (hA2 hst).1
            rw [List.drop_length] at this
            exact this
        rw [hAU]
  generalize putM A3 (if s.star = true then [] else itemsP true s.items) = A4 at hR ⊢
  clear e0 e1 hM2 hno2 hp2
  clear M2 p2 a2 c2 e
  rintro e ds h ⟨rfl, e0, e1, M2, p2, a2, c2, hp2, hM2, hno2, rfl⟩
  simp +contextual only [go_sem, sevalprocAttr, -Int.reduceAdd, -Int.reduceSub, -Int.reduceMul, e0, e1, mcell_ext hM2 y3]
  obtain ⟨hl, hR⟩ := hR.step
  have hlf := RS_le xf
  refine run_cut (CutQ T M b (.pointer (some ⟨bx, ox, none⟩)) (putM A4 (srcsP true s.src))) (fun S' hS' => ?_) ?_
  · have hRU : Rest (putM A4 (srcsP true s.src)) A4 (srcsP true s.src) := ⟨rfl, hl⟩
    generalize putM A4 (srcsP true s.src) = U at hS' hRU
    simp +contextual only [go_sem, Rcb, Rbk, sevalprocAttr, -Int.reduceAdd, -Int.reduceSub, -Int.reduceMul, e0, e1]
    refine loop_range s.src.length 76 [(0, .pointer (some ⟨b, 0, none⟩)), (1, (.pointer (some ⟨bx, ox, none⟩))), (75, .int .i64 (s.src.length : Int))] (fun i e h => ∃ A', StW T M b A' h ∧ Rest U A' (srcsP (decide (i = 0)) (s.src.drop i))) 0 (by omega) (by simp only [live, e0, e1, go_sem, Rcb, Rbk, sevalprocAttr, -Int.reduceAdd, -Int.reduceSub, -Int.reduceMul]) (by simp only [go_sem, Rcb, Rbk, sevalprocAttr, -Int.reduceAdd, -Int.reduceSub, -Int.reduceMul]) ⟨A4, ⟨M2, p2, a2, c2, hp2, hM2, hno2, rfl⟩, hRU⟩ ?_
    clear e0 e1 hM2 hno2 hp2 hRU
    clear M2 p2 a2 c2 e
    rintro i e h hi hlv ht ⟨A5, ⟨M3, p3, a3, c3, hp3, hM3, hno3, rfl⟩, hr⟩
    simp only [live] at hlv
    have z3 := mcell_ext hM3 y3
    by_cases hlt : i < s.src.length
    · rw [srcsP_drop hlt] at hr
      obtain ⟨bi, oi, ci, rfl, hat, hri⟩ := RS_get (by decide) (fun _ _ => RSo_len) xf (List.getElem?_eq_getElem hlt)
      obtain ⟨wi, rfl, hxx, _⟩ := RSo_formC hri
      obtain ⟨w0, w1, w2, w3, w4, w5, w6, w7, w8, w9⟩ := At10 (hat.ext hM3)
      have hk := ho2 s.src[i] (List.getElem_mem hlt)
      have hon : i ≠ 0 → OkX s.src[i].on := fun h => ho3 _ (by
        rw [List.mem_iff_getElem]
        refine ⟨i - 1, by simp; omega, ?_⟩
        simp only [List.getElem_tail]
        congr 1; omega)
      obtain ⟨u0, u1, u2, _⟩ := At10 hat
      have hat3 : At M bi (oi + i * 10 + 3) [.int .i64 s.src[i].on.k, .int .i64 s.src[i].on.v.k, .int .i64 s.src[i].on.v.n, st s.src[i].on.v.t, st s.src[i].on.tab, st s.src[i].on.name, wi] := hat.2.2.2
      simp +contextual only [go_sem, sevalprocAttr, -Int.reduceAdd, -Int.reduceSub, -Int.reduceMul, hlv, ht, hlt, z3]
      rw [rCond_bool, if_pos rfl]
      simp +contextual only [go_sem, sevalprocAttr, -Int.reduceAdd, -Int.reduceSub, -Int.reduceMul, hlv, ht, hlt, z3]
      generalize s.src[i] = sr at hr hxx hat3 u0 u1 u2 w0 w1 w2 w3 w4 w5 w6 w7 w8 w9 hk hon
      rw [Run_block, Run_seq]
      refine run_cut (fun e ds h => ds = [] ∧ e 0 = .pointer (some ⟨b, 0, none⟩) ∧ e 1 = (.pointer (some ⟨bx, ox, none⟩)) ∧ e 75 = .int .i64 (s.src.length : Int) ∧ e 76 = .int .i64 (i : Nat) ∧ e 5 = .int .i64 (i : Nat) ∧ StW T M b A5 h) (fun S2 hS2 => ?_) ?_
      · simp +contextual only [go_sem, Rcb, Rbk, sevalprocAttr, -Int.reduceAdd, -Int.reduceSub, -Int.reduceMul, hlv, ht]
        refine hS2 _ _ _ ⟨rfl, ?_, ?_, ?_, ?_, ?_, M3, p3, a3, c3, hp3, hM3, hno3, rfl⟩
        all_goals simp only [hlv, ht, go_sem, Rcb, Rbk, sevalprocAttr, -Int.reduceAdd, -Int.reduceSub, -Int.reduceMul]

      clear hlv ht
      clear e
      rintro e ds h ⟨rfl, e0, e1, e75, e76, e5, M4, p4, a4, c4, hp4, hM4, hno4, rfl⟩
      rw [Run_seq]
      refine run_cut (fun e ds h => ds = [] ∧ e 0 = .pointer (some ⟨b, 0, none⟩) ∧ e 1 = (.pointer (some ⟨bx, ox, none⟩)) ∧ e 75 = .int .i64 (s.src.length : Int) ∧ e 76 = .int .i64 (i : Nat) ∧ e 5 = .int .i64 (i : Nat) ∧ e 6 = .pointer (some ⟨bi, oi + i * 10, none⟩) ∧ StW T M b A5 h) (fun S2 hS2 => ?_) ?_
      · simp +contextual only [go_sem, Rcb, Rbk, sevalprocAttr, -Int.reduceAdd, -Int.reduceSub, -Int.reduceMul, e0, e1, e75, e76, e5, mcell_ext hM4 y3, hlt]
        refine hS2 _ _ _ ⟨rfl, ?_, ?_, ?_, ?_, ?_, ?_, M4, p4, a4, c4, hp4, hM4, hno4, rfl⟩
        all_goals simp only [e0, e1, e75, e76, e5, go_sem, Rcb, Rbk, sevalprocAttr, -Int.reduceAdd, -Int.reduceSub, -Int.reduceMul]
      clear e0 e1 e75 e76 e5 hM4 hno4 hp4
      clear M4 p4 a4 c4 e
      rintro e ds h ⟨rfl, e0, e1, e75, e76, e5, e6, M4, p4, a4, c4, hp4, hM4, hno4, rfl⟩
      have hr : Rest U A5 (joinWd sr.k ++ ([sr.name] ++ (asP sr.as ++ ((if decide (i = 0) = true then [] else [wOn] ++ exprP sr.on 1) ++ srcsP false (s.src.drop (i + 1)))))) := by
        rw [srcP] at hr
        simpa only [List.append_assoc] using hr
      obtain ⟨hl6, hr⟩ := hr.step
      rw [Run_seq]
      refine run_cut (fun e ds h => ds = [] ∧ e 0 = .pointer (some ⟨b, 0, none⟩) ∧ e 1 = (.pointer (some ⟨bx, ox, none⟩)) ∧ e 75 = .int .i64 (s.src.length : Int) ∧ e 76 = .int .i64 (i : Nat) ∧ e 5 = .int .i64 (i : Nat) ∧ e 6 = .pointer (some ⟨bi, oi + i * 10, none⟩) ∧ StW T M b (putM A5 (joinWd sr.k)) h) (fun S2 hS2 => ?_) ?_
      · have q0 := mcell_ext (Ext.rfl' : Ext M M) u0
        have v0 := mcell_ext hM4 u0
        obtain hk1 | hk1 | hk1 | hk1 | hk1 : sr.k = 1 ∨ sr.k = 2 ∨ sr.k = 3 ∨ sr.k = 4 ∨ sr.k = 5 := by omega
        · rw [hk1] at v0 hl6 hS2
          have hj : joinWd 1 = [wFrom] := rfl
          rw [hj] at hl6 hS2
          have hw : IntKind.i64.wrap (1 - 1) = 0 := by decide
          simp +contextual only [go_sem, Rcb, Rbk, sevalprocAttr, -Int.reduceAdd, -Int.reduceSub, -Int.reduceMul, e0, e1, e75, e76, e5, e6, v0, hw]
          intro c1 hc1 hd1 c2 hc2 hd2 c3 hc3 hd3 c4' hc4 hd4 c5 hc5 hd5 c6 hc6 hd6
          refine rCall_frz bod80 fun M5 hM5 hq6 _ => ?_
          refine rCall_frz bod80 fun M6 hM6 hq5 _ => ?_
          refine rCall_frz bod80 fun M7 hM7 hq4 _ => ?_
          refine rCall_frz bod80 fun M8 hM8 hq3 _ => ?_
          refine rCall_frz bod80 fun M9 hM9 hq2 _ => ?_
          refine rCall_frz bod80 fun M10 hM10 hq1 _ => ?_
          have hqq1 := hq1
          have h410 := hM5.trans (hM6.trans (hM7.trans (hM8.trans (hM9.trans hM10))))
          refine putv_b [] (RS_lit (fun _ _ => RSt_len) hqq1 (RL_strs [wFrom]) rfl (by decide)) hT hp4 hl6 ?_
          rintro w M11 p11 a11 c11 hM11 hno11 hp11
          simp +contextual only [go_sem, Rcb, Rbk, sevalprocAttr, -Int.reduceAdd, -Int.reduceSub, -Int.reduceMul, e0, e1, e75, e76, e5, e6]
          refine hS2 _ _ _ ⟨rfl, ?_, ?_, ?_, ?_, ?_, ?_, StW.put hp11 (hM4.trans (h410.trans hM11)) hno11⟩
          all_goals simp only [e0, e1, e75, e76, e5, e6, go_sem, Rcb, Rbk, sevalprocAttr, -Int.reduceAdd, -Int.reduceSub, -Int.reduceMul]
        · rw [hk1] at v0 hl6 hS2
          have hj : joinWd 2 = [wJoin] := rfl
          rw [hj] at hl6 hS2
          have hw : IntKind.i64.wrap (2 - 1) = 1 := by decide
          simp +contextual only [go_sem, Rcb, Rbk, sevalprocAttr, -Int.reduceAdd, -Int.reduceSub, -Int.reduceMul, e0, e1, e75, e76, e5, e6, v0, hw]
          intro c1 hc1 hd1 c2 hc2 hd2 c3 hc3 hd3 c4' hc4 hd4 c5 hc5 hd5 c6 hc6 hd6
          refine rCall_frz bod80 fun M5 hM5 hq6 _ => ?_
          refine rCall_frz bod80 fun M6 hM6 hq5 _ => ?_
          refine rCall_frz bod80 fun M7 hM7 hq4 _ => ?_
          refine rCall_frz bod80 fun M8 hM8 hq3 _ => ?_
          refine rCall_frz bod80 fun M9 hM9 hq2 _ => ?_
          refine rCall_frz bod80 fun M10 hM10 hq1 _ => ?_
          have hqq2 := hM10 _ _ hq2
          have h410 := hM5.trans (hM6.trans (hM7.trans (hM8.trans (hM9.trans hM10))))
          refine putv_b [] (RS_lit (fun _ _ => RSt_len) hqq2 (RL_strs [wJoin]) rfl (by decide)) hT hp4 hl6 ?_
          rintro w M11 p11 a11 c11 hM11 hno11 hp11
          simp +contextual only [go_sem, Rcb, Rbk, sevalprocAttr, -Int.reduceAdd, -Int.reduceSub, -Int.reduceMul, e0, e1, e75, e76, e5, e6]
          refine hS2 _ _ _ ⟨rfl, ?_, ?_, ?_, ?_, ?_, ?_, StW.put hp11 (hM4.trans (h410.trans hM11)) hno11⟩
          all_goals simp only [e0, e1, e75, e76, e5, e6, go_sem, Rcb, Rbk, sevalprocAttr, -Int.reduceAdd, -Int.reduceSub, -Int.reduceMul]
        · rw [hk1] at v0 hl6 hS2
          have hj : joinWd 3 = [wSemi, wJoin] := rfl
          rw [hj] at hl6 hS2
          have hw : IntKind.i64.wrap (3 - 1) = 2 := by decide
          simp +contextual only [go_sem, Rcb, Rbk, sevalprocAttr, -Int.reduceAdd, -Int.reduceSub, -Int.reduceMul, e0, e1, e75, e76, e5, e6, v0, hw]
          intro c1 hc1 hd1 c2 hc2 hd2 c3 hc3 hd3 c4' hc4 hd4 c5 hc5 hd5 c6 hc6 hd6
          refine rCall_frz bod80 fun M5 hM5 hq6 _ => ?_
          refine rCall_frz bod80 fun M6 hM6 hq5 _ => ?_
          refine rCall_frz bod80 fun M7 hM7 hq4 _ => ?_
          refine rCall_frz bod80 fun M8 hM8 hq3 _ => ?_
          refine rCall_frz bod80 fun M9 hM9 hq2 _ => ?_
          refine rCall_frz bod80 fun M10 hM10 hq1 _ => ?_
          have hqq3 := (hM9.trans hM10) _ _ hq3
          have h410 := hM5.trans (hM6.trans (hM7.trans (hM8.trans (hM9.trans hM10))))
          refine putv_b [] (RS_lit (fun _ _ => RSt_len) hqq3 (RL_strs [wSemi, wJoin]) rfl (by decide)) hT hp4 hl6 ?_
          rintro w M11 p11 a11 c11 hM11 hno11 hp11
          simp +contextual only [go_sem, Rcb, Rbk, sevalprocAttr, -Int.reduceAdd, -Int.reduceSub, -Int.reduceMul, e0, e1, e75, e76, e5, e6]
          refine hS2 _ _ _ ⟨rfl, ?_, ?_, ?_, ?_, ?_, ?_, StW.put hp11 (hM4.trans (h410.trans hM11)) hno11⟩
          all_goals simp only [e0, e1, e75, e76, e5, e6, go_sem, Rcb, Rbk, sevalprocAttr, -Int.reduceAdd, -Int.reduceSub, -Int.reduceMul]
        · rw [hk1] at v0 hl6 hS2
          have hj : joinWd 4 = [wAnti, wJoin] := rfl
          rw [hj] at hl6 hS2
          have hw : IntKind.i64.wrap (4 - 1) = 3 := by decide
          simp +contextual only [go_sem, Rcb, Rbk, sevalprocAttr, -Int.reduceAdd, -Int.reduceSub, -Int.reduceMul, e0, e1, e75, e76, e5, e6, v0, hw]
          intro c1 hc1 hd1 c2 hc2 hd2 c3 hc3 hd3 c4' hc4 hd4 c5 hc5 hd5 c6 hc6 hd6
          refine rCall_frz bod80 fun M5 hM5 hq6 _ => ?_
          refine rCall_frz bod80 fun M6 hM6 hq5 _ => ?_
          refine rCall_frz bod80 fun M7 hM7 hq4 _ => ?_
          refine rCall_frz bod80 fun M8 hM8 hq3 _ => ?_
          refine rCall_frz bod80 fun M9 hM9 hq2 _ => ?_
          refine rCall_frz bod80 fun M10 hM10 hq1 _ => ?_
          have hqq4 := (hM8.trans (hM9.trans hM10)) _ _ hq4
          have h410 := hM5.trans (hM6.trans (hM7.trans (hM8.trans (hM9.trans hM10))))
          refine putv_b [] (RS_lit (fun _ _ => RSt_len) hqq4 (RL_strs [wAnti, wJoin]) rfl (by decide)) hT hp4 hl6 ?_
          rintro w M11 p11 a11 c11 hM11 hno11 hp11
          simp +contextual only [go_sem, Rcb, Rbk, sevalprocAttr, -Int.reduceAdd, -Int.reduceSub, -Int.reduceMul, e0, e1, e75, e76, e5, e6]
          refine hS2 _ _ _ ⟨rfl, ?_, ?_, ?_, ?_, ?_, ?_, StW.put hp11 (hM4.trans (h410.trans hM11)) hno11⟩
          all_goals simp only [e0, e1, e75, e76, e5, e6, go_sem, Rcb, Rbk, sevalprocAttr, -Int.reduceAdd, -Int.reduceSub, -Int.reduceMul]
        · rw [hk1] at v0 hl6 hS2
          have hj : joinWd 5 = [wLeft, wJoin] := rfl
          rw [hj] at hl6 hS2
          have hw : IntKind.i64.wrap (5 - 1) = 4 := by decide
          simp +contextual only [go_sem, Rcb, Rbk, sevalprocAttr, -Int.reduceAdd, -Int.reduceSub, -Int.reduceMul, e0, e1, e75, e76, e5, e6, v0, hw]
          intro c1 hc1 hd1 c2 hc2 hd2 c3 hc3 hd3 c4' hc4 hd4 c5 hc5 hd5 c6 hc6 hd6
          refine rCall_frz bod80 fun M5 hM5 hq6 _ => ?_
          refine rCall_frz bod80 fun M6 hM6 hq5 _ => ?_
          refine rCall_frz bod80 fun M7 hM7 hq4 _ => ?_
          refine rCall_frz bod80 fun M8 hM8 hq3 _ => ?_
          refine rCall_frz bod80 fun M9 hM9 hq2 _ => ?_
          refine rCall_frz bod80 fun M10 hM10 hq1 _ => ?_
          have hqq5 := (hM7.trans (hM8.trans (hM9.trans hM10))) _ _ hq5
          have h410 := hM5.trans (hM6.trans (hM7.trans (hM8.trans (hM9.trans hM10))))
          refine putv_b [] (RS_lit (fun _ _ => RSt_len) hqq5 (RL_strs [wLeft, wJoin]) rfl (by decide)) hT hp4 hl6 ?_
          rintro w M11 p11 a11 c11 hM11 hno11 hp11
          simp +contextual only [go_sem, Rcb, Rbk, sevalprocAttr, -Int.reduceAdd, -Int.reduceSub, -Int.reduceMul, e0, e1, e75, e76, e5, e6]
          refine hS2 _ _ _ ⟨rfl, ?_, ?_, ?_, ?_, ?_, ?_, StW.put hp11 (hM4.trans (h410.trans hM11)) hno11⟩
          all_goals simp only [e0, e1, e75, e76, e5, e6, go_sem, Rcb, Rbk, sevalprocAttr, -Int.reduceAdd, -Int.reduceSub, -Int.reduceMul]
      clear e0 e1 e75 e76 e5 e6 hM4 hno4 hp4
      clear M4 p4 a4 c4 e
      generalize putM A5 (joinWd sr.k) = A6 at hr ⊢
      rintro e ds h ⟨rfl, e0, e1, e75, e76, e5, e6, M4, p4, a4, c4, hp4, hM4, hno4, rfl⟩
      obtain ⟨hl7, hr⟩ := hr.step
      simp +contextual only [go_sem, Rcb, Rbk, sevalprocAttr, -Int.reduceAdd, -Int.reduceSub, -Int.reduceMul, e0, e1, e75, e76, e5, e6, mcell_ext hM4 u1]
      intro b7 hb7 hap7
      refine put_b [] [sr.name] hT hp4 rfl hl7 ?_
      rintro w M5 p5 a5 c5 hM5 hno5 hp5
      generalize putM A6 [sr.name] = A7 at hr hno5 ⊢
      simp only [List.nil_append, noneL, and_true] at hno5 ⊢
      have hM45 := hM4.trans hM5
      obtain ⟨hl8, hr⟩ := hr.step
      by_cases has : sr.as = []
      · rw [asP, if_pos has, putM_nil] at hr
        by_cases hi0 : i = 0
        · have h0 : ¬ (0 : Int) < ((i : Nat) : Int) := by omega
          rw [if_pos (by simpa using hi0)] at hr
          simp +contextual only [go_sem, Rcb, Rbk, sevalprocAttr, -Int.reduceAdd, -Int.reduceSub, -Int.reduceMul, e0, e1, e75, e76, e5, e6, mcell_ext hM45 u2, has, h0]
          refine lp_range hlt ?_ ?_ ⟨A7, ⟨M5, p5, a5, c5, hp5, hM45, hno5, rfl⟩, ?_⟩
          · simp only [live, e0, e1, e75, go_sem, Rcb, Rbk, sevalprocAttr, -Int.reduceAdd, -Int.reduceSub, -Int.reduceMul]
          · simp only [e76, go_sem, Rcb, Rbk, sevalprocAttr, -Int.reduceAdd, -Int.reduceSub, -Int.reduceMul, wrap_succ i (by omega)]
          · simpa using hr.nil
        · have h0 : (0 : Int) < ((i : Nat) : Int) := by omega
          rw [if_neg (by simpa using hi0)] at hr
          rw [List.append_assoc] at hr
          obtain ⟨hl9, hr⟩ := hr.step
          obtain ⟨hl10, hr⟩ := hr.step
          simp +contextual only [go_sem, Rcb, Rbk, sevalprocAttr, -Int.reduceAdd, -Int.reduceSub, -Int.reduceMul, e0, e1, e75, e76, e5, e6, mcell_ext hM45 u2, has, h0]
          intro b9 hb9 hap9
          refine put_b [] [wOn] hT hp5 rfl hl9 ?_
          rintro w M8 p8 a8 c8 hM8 hno8 hp8
          generalize putM A7 [wOn] = A9 at hr hl10 hno8 ⊢
          simp only [List.nil_append, noneL, and_true] at hno8 ⊢
          simp +contextual only [go_sem, Rcb, Rbk, sevalprocAttr, -Int.reduceAdd, -Int.reduceSub, -Int.reduceMul, e0, e1, e75, e76, e5, e6]
          have h8 := hM45.trans hM8
          refine expr_b [] (exW sr.on) (hg.ext h8) (RX_ext h8 _ _ hxx) (hat3.ext h8) (hon hi0) hT hp8 (by decide) (by decide) hl10 ?_
          rintro w M9 p9 a9 c9 hM9 hno9 hp9
          simp only [List.nil_append, noneL, and_true] at hno9 ⊢
          simp +contextual only [go_sem, Rcb, Rbk, sevalprocAttr, -Int.reduceAdd, -Int.reduceSub, -Int.reduceMul, e0, e1, e75, e76, e5, e6]
          refine lp_range hlt ?_ ?_ ⟨_, ⟨M9, p9, a9, c9, hp9, h8.trans hM9, hno9, rfl⟩, ?_⟩
          · simp only [live, e0, e1, e75, go_sem, Rcb, Rbk, sevalprocAttr, -Int.reduceAdd, -Int.reduceSub, -Int.reduceMul]
          · simp only [e76, go_sem, Rcb, Rbk, sevalprocAttr, -Int.reduceAdd, -Int.reduceSub, -Int.reduceMul, wrap_succ i (by omega)]
          · simpa using hr
      · rw [asP, if_neg has] at hr hl8
        simp +contextual only [go_sem, Rcb, Rbk, sevalprocAttr, -Int.reduceAdd, -Int.reduceSub, -Int.reduceMul, e0, e1, e75, e76, e5, e6, mcell_ext hM45 u2, has]
        intro b8 hb8 hap8
        refine put_b [] [wAs, sr.as] hT hp5 rfl hl8 ?_
        rintro w M6 p6 a6 c6 hM6 hno6 hp6
        generalize putM A7 [wAs, sr.as] = A8 at hr hno6 ⊢
        simp only [List.nil_append, noneL, and_true] at hno6 ⊢
        have hM46 := hM45.trans hM6
        by_cases hi0 : i = 0
        · have h0 : ¬ (0 : Int) < ((i : Nat) : Int) := by omega
          rw [if_pos (by simpa using hi0)] at hr
          simp +contextual only [go_sem, Rcb, Rbk, sevalprocAttr, -Int.reduceAdd, -Int.reduceSub, -Int.reduceMul, e0, e1, e75, e76, e5, e6, h0]
          refine lp_range hlt ?_ ?_ ⟨A8, ⟨M6, p6, a6, c6, hp6, hM46, hno6, rfl⟩, ?_⟩
          · simp only [live, e0, e1, e75, go_sem, Rcb, Rbk, sevalprocAttr, -Int.reduceAdd, -Int.reduceSub, -Int.reduceMul]
          · simp only [e76, go_sem, Rcb, Rbk, sevalprocAttr, -Int.reduceAdd, -Int.reduceSub, -Int.reduceMul, wrap_succ i (by omega)]
          · simpa using hr.nil
        · have h0 : (0 : Int) < ((i : Nat) : Int) := by omega
          rw [if_neg (by simpa using hi0)] at hr
          rw [List.append_assoc] at hr
          obtain ⟨hl9, hr⟩ := hr.step
          obtain ⟨hl10, hr⟩ := hr.step
          simp +contextual only [go_sem, Rcb, Rbk, sevalprocAttr, -Int.reduceAdd, -Int.reduceSub, -Int.reduceMul, e0, e1, e75, e76, e5, e6, h0]
          intro b9 hb9 hap9
          refine put_b [] [wOn] hT hp6 rfl hl9 ?_
          rintro w M8 p8 a8 c8 hM8 hno8 hp8
          generalize putM A8 [wOn] = A9 at hr hl10 hno8 ⊢
          simp only [List.nil_append, noneL, and_true] at hno8 ⊢
          simp +contextual only [go_sem, Rcb, Rbk, sevalprocAttr, -Int.reduceAdd, -Int.reduceSub, -Int.reduceMul, e0, e1, e75, e76, e5, e6]
          have h8 := hM46.trans hM8
          refine expr_b [] (exW sr.on) (hg.ext h8) (RX_ext h8 _ _ hxx) (hat3.ext h8) (hon hi0) hT hp8 (by decide) (by decide) hl10 ?_
          rintro w M9 p9 a9 c9 hM9 hno9 hp9
          simp only [List.nil_append, noneL, and_true] at hno9 ⊢
          simp +contextual only [go_sem, Rcb, Rbk, sevalprocAttr, -Int.reduceAdd, -Int.reduceSub, -Int.reduceMul, e0, e1, e75, e76, e5, e6]
          refine lp_range hlt ?_ ?_ ⟨_, ⟨M9, p9, a9, c9, hp9, h8.trans hM9, hno9, rfl⟩, ?_⟩
          · simp only [live, e0, e1, e75, go_sem, Rcb, Rbk, sevalprocAttr, -Int.reduceAdd, -Int.reduceSub, -Int.reduceMul]
          · simp only [e76, go_sem, Rcb, Rbk, sevalprocAttr, -Int.reduceAdd, -Int.reduceSub, -Int.reduceMul, wrap_succ i (by omega)]
          · simpa using hr
    · have : i = s.src.length := by omega
      subst this
      simp +contextual only [go_sem, Rcb, Rbk, sevalprocAttr, -Int.reduceAdd, -Int.reduceSub, -Int.reduceMul, hlv, ht, hlt]
      refine hS' _ _ _ ⟨rfl, ?_, ?_, M3, p3, a3, c3, hp3, hM3, hno3, ?_⟩
      · simp only [hlv, go_sem, Rcb, Rbk, sevalprocAttr, -Int.reduceAdd, -Int.reduceSub, -Int.reduceMul]
      · simp only [hlv, go_sem, Rcb, Rbk, sevalprocAttr, -Int.reduceAdd, -Int.reduceSub, -Int.reduceMul]
      · have := hr.1
        rw [List.drop_length] at this
        have : U = A5 := this
        rw [this]
  generalize putM A4 (srcsP true s.src) = A5 at hR ⊢
  clear e0 e1 hM2 hno2 hp2
  clear M2 p2 a2 c2 e
  rintro e ds h ⟨rfl, e0, e1, M2, p2, a2, c2, hp2, hM2, hno2, rfl⟩
  have hatw := ((At_app (l := [_, _, _, _, _, _]) (l' := [_, _, _, _, _, _, _, _, _, _, _, _, _, _, _])).1 ha).2
  have hatw7 : At M bx (ox + 6) [.int .i64 s.wh.k, .int .i64 s.wh.v.k, .int .i64 s.wh.v.n, st s.wh.v.t, st s.wh.tab, st s.wh.name, aw] := ((At_app (l := [_, _, _, _, _, _, _]) (l' := [_, _, _, _, _, _, _, _])).1 hatw).1
  have hath7 : At M bx (ox + 13) [.int .i64 s.hv.k, .int .i64 s.hv.v.k, .int .i64 s.hv.v.n, st s.hv.v.t, st s.hv.tab, st s.hv.name, ah] := ((At_app (l := [_, _, _, _, _, _, _]) (l' := [_])).1 ((At_app (l := [_, _, _, _, _, _, _]) (l' := [_, _, _, _, _, _, _, _])).1 hatw).2).1
  clear hatw
  simp +contextual only [go_sem, sevalprocAttr, -Int.reduceAdd, -Int.reduceSub, -Int.reduceMul, e0, e1, mcell_ext hM2 y4]
  obtain ⟨hl, hR⟩ := hR.step
  refine cond_cut (CutQ T M b (.pointer (some ⟨bx, ox, none⟩)) (putM A5 (whereP s.hasW wWhere s.wh))) (fun S' hS' => ?_) ?_
  · by_cases hd : s.hasW = true
    · rw [whereP, if_pos hd] at hl hS'
      rw [rCond_bool, if_pos hd]
      rw [wLen_app] at hl
      rw [putM_app] at hS'
      have hq := putM_le [wWhere] A5
      simp +contextual only [go_sem, sevalprocAttr, -Int.reduceAdd, -Int.reduceSub, -Int.reduceMul, e0, e1]
      intro b4 hb4 hap4
      refine put_b [] [wWhere] hT hp2 rfl (by omega) ?_
      rintro w M3 p3 a3 c3 hM3 hno3 hp3
      simp only [List.nil_append, noneL, and_true] at hno3 ⊢
      simp +contextual only [go_sem, sevalprocAttr, -Int.reduceAdd, -Int.reduceSub, -Int.reduceMul, e0, e1]
      refine expr_b [] (exW s.wh) (hg.ext (hM2.trans hM3)) (RX_ext (hM2.trans hM3) _ _ xw) (hatw7.ext (hM2.trans hM3)) (ho4 hd) hT hp3 (by decide) (by decide) (by omega) ?_
      rintro w M4 p4 a4 c4 hM4 hno4 hp4
      simp +contextual only [go_sem, sevalprocAttr, -Int.reduceAdd, -Int.reduceSub, -Int.reduceMul, e0, e1]
      refine hS' _ _ _ ⟨rfl, ?_, ?_, StW.put hp4 (hM2.trans (hM3.trans hM4)) hno4⟩
      · simp only [e0, go_sem, Rcb, Rbk, sevalprocAttr, -Int.reduceAdd, -Int.reduceSub, -Int.reduceMul]
      · simp only [e1, go_sem, Rcb, Rbk, sevalprocAttr, -Int.reduceAdd, -Int.reduceSub, -Int.reduceMul]
    · rw [whereP, if_neg hd] at hS'
      rw [rCond_bool, if_neg hd]
      simp +contextual only [go_sem, sevalprocAttr, -Int.reduceAdd, -Int.reduceSub, -Int.reduceMul]
      refine hS' _ _ _ ⟨rfl, ?_, ?_, M2, p2, a2, c2, hp2, hM2, hno2, rfl⟩
      · simp only [e0, go_sem, Rcb, Rbk, sevalprocAttr, -Int.reduceAdd, -Int.reduceSub, -Int.reduceMul]
      · simp only [e1, go_sem, Rcb, Rbk, sevalprocAttr, -Int.reduceAdd, -Int.reduceSub, -Int.reduceMul]
  generalize putM A5 (whereP s.hasW wWhere s.wh) = A6 at hR ⊢
  clear e0 e1 hM2 hno2 hp2
  clear M2 p2 a2 c2 e
  rintro e ds h ⟨rfl, e0, e1, M2, p2, a2, c2, hp2, hM2, hno2, rfl⟩
  simp +contextual only [go_sem, sevalprocAttr, -Int.reduceAdd, -Int.reduceSub, -Int.reduceMul, e0, e1, mcell_ext hM2 y20]
  obtain ⟨hl, hR⟩ := hR.step
  refine cond_cut (CutQ T M b (.pointer (some ⟨bx, ox, none⟩)) (putM A6 (groupP s.group))) (fun S' hS' => ?_) ?_
  · by_cases hd : s.group = []
    · rw [groupP, if_pos hd] at hS'
      have h0 : ¬ (0 : Int) < (s.group.length : Int) := by rw [hd]; simp
      rw [rCond_bool, if_neg (by simpa using hd)]
      simp +contextual only [go_sem, sevalprocAttr, -Int.reduceAdd, -Int.reduceSub, -Int.reduceMul]
      refine hS' _ _ _ ⟨rfl, ?_, ?_, M2, p2, a2, c2, hp2, hM2, hno2, rfl⟩
      · simp only [e0, go_sem, Rcb, Rbk, sevalprocAttr, -Int.reduceAdd, -Int.reduceSub, -Int.reduceMul]
      · simp only [e1, go_sem, Rcb, Rbk, sevalprocAttr, -Int.reduceAdd, -Int.reduceSub, -Int.reduceMul]
    · rw [groupP, if_neg hd] at hl hS'
      have h0 : (0 : Int) < (s.group.length : Int) := by
        have := List.length_pos_iff.2 hd; omega
      rw [rCond_bool, if_pos (by simpa using h0)]
      rw [wLen_app] at hl
      rw [putM_app] at hS'
      have hq := putM_le [wGroup, wBy] A6
      simp +contextual only [go_sem, sevalprocAttr, -Int.reduceAdd, -Int.reduceSub, -Int.reduceMul, e0, e1]
      intro b4 hb4 hap4
      refine put_b [] [wGroup, wBy] hT hp2 rfl (by omega) ?_
      rintro w M3 p3 a3 c3 hM3 hno3 hp3
      simp only [List.nil_append, noneL, and_true] at hno3 ⊢
      simp +contextual only [go_sem, sevalprocAttr, -Int.reduceAdd, -Int.reduceSub, -Int.reduceMul, e0, e1, mcell_ext (hM2.trans hM3) y20]
      refine list_b [] (fun x _ => exW x) ho5 (hg.ext (hM2.trans hM3)) (RS_ext (hM2.trans hM3) (RX_ext (hM2.trans hM3)) xg) hT hp3 (by omega) ?_
      rintro w M4 p4 a4 c4 hM4 hno4 hp4
      simp +contextual only [go_sem, sevalprocAttr, -Int.reduceAdd, -Int.reduceSub, -Int.reduceMul, e0, e1]
      refine hS' _ _ _ ⟨rfl, ?_, ?_, StW.put hp4 (hM2.trans (hM3.trans hM4)) hno4⟩
      · simp only [e0, go_sem, Rcb, Rbk, sevalprocAttr, -Int.reduceAdd, -Int.reduceSub, -Int.reduceMul]
      · simp only [e1, go_sem, Rcb, Rbk, sevalprocAttr, -Int.reduceAdd, -Int.reduceSub, -Int.reduceMul]
  generalize putM A6 (groupP s.group) = A7 at hR ⊢
  clear e0 e1 hM2 hno2 hp2
  clear M2 p2 a2 c2 e
  rintro e ds h ⟨rfl, e0, e1, M2, p2, a2, c2, hp2, hM2, hno2, rfl⟩
  simp +contextual only [go_sem, sevalprocAttr, -Int.reduceAdd, -Int.reduceSub, -Int.reduceMul, e0, e1, mcell_ext hM2 y5]
  have hR : Rest W A7 (whereP s.hasH wHaving s.hv ++ []) := by rw [List.append_nil]; exact hR
  obtain ⟨hl, hR⟩ := hR.step
  refine cond_cut (CutQ T M b (.pointer (some ⟨bx, ox, none⟩)) (putM A7 (whereP s.hasH wHaving s.hv))) (fun S' hS' => ?_) ?_
  · by_cases hd : s.hasH = true
    · rw [whereP, if_pos hd] at hl hS'
      rw [rCond_bool, if_pos hd]
      rw [wLen_app] at hl
      rw [putM_app] at hS'
      have hq := putM_le [wHaving] A7
      simp +contextual only [go_sem, sevalprocAttr, -Int.reduceAdd, -Int.reduceSub, -Int.reduceMul, e0, e1]
      intro b4 hb4 hap4
      refine put_b [] [wHaving] hT hp2 rfl (by omega) ?_
      rintro w M3 p3 a3 c3 hM3 hno3 hp3
      simp only [List.nil_append, noneL, and_true] at hno3 ⊢
      simp +contextual only [go_sem, sevalprocAttr, -Int.reduceAdd, -Int.reduceSub, -Int.reduceMul, e0, e1]
      refine expr_b [] (exW s.hv) (hg.ext (hM2.trans hM3)) (RX_ext (hM2.trans hM3) _ _ xh) (hath7.ext (hM2.trans hM3)) (ho6 hd) hT hp3 (by decide) (by decide) (by omega) ?_
      rintro w M4 p4 a4 c4 hM4 hno4 hp4
      simp +contextual only [go_sem, sevalprocAttr, -Int.reduceAdd, -Int.reduceSub, -Int.reduceMul, e0, e1]
      refine hS' _ _ _ ⟨rfl, ?_, ?_, StW.put hp4 (hM2.trans (hM3.trans hM4)) hno4⟩
      · simp only [e0, go_sem, Rcb, Rbk, sevalprocAttr, -Int.reduceAdd, -Int.reduceSub, -Int.reduceMul]
      · simp only [e1, go_sem, Rcb, Rbk, sevalprocAttr, -Int.reduceAdd, -Int.reduceSub, -Int.reduceMul]
    · rw [whereP, if_neg hd] at hS'
      rw [rCond_bool, if_neg hd]
      simp +contextual only [go_sem, sevalprocAttr, -Int.reduceAdd, -Int.reduceSub, -Int.reduceMul]
      refine hS' _ _ _ ⟨rfl, ?_, ?_, M2, p2, a2, c2, hp2, hM2, hno2, rfl⟩
      · simp only [e0, go_sem, Rcb, Rbk, sevalprocAttr, -Int.reduceAdd, -Int.reduceSub, -Int.reduceMul]
      · simp only [e1, go_sem, Rcb, Rbk, sevalprocAttr, -Int.reduceAdd, -Int.reduceSub, -Int.reduceMul]
  generalize putM A7 (whereP s.hasH wHaving s.hv) = A8 at hR ⊢
  clear e0 e1 hM2 hno2 hp2
  clear M2 p2 a2 c2 e
  rintro e ds h ⟨rfl, e0, e1, M2, p2, a2, c2, hp2, hM2, hno2, rfl⟩
  simp +contextual only [go_sem, Rcb, Rbk, sevalprocAttr, -Int.reduceAdd, -Int.reduceSub, -Int.reduceMul]
  have hWA : W = A8 := hR.1
  refine end_id ExtT.rfl' rfl rfl ⟨p2, a2, c2, hp2, ?_, ?_⟩
  · rw [hWA]; rfl
  · rw [hWA]; rfl
end Go.Proofs.YtoainkbcfnlkcaaGreatDoor

namespace Go.Proofs.YtoainkbcfnlkcaaGreatDoor
open Go Vc
set_option linter.unusedSimpArgs false
set_option linter.unusedVariables false
set_option maxRecDepth 10000

/-! ### queries, written -/
def setWd (k : Int) : List Bs := if k = 1 then [wUnion, wAll] else if k = 2 then [wUnion] else if k = 3 then [wExcept, wAll] else [wExcept]
def partsP (ops : List Int) : Nat → List Se → List Bs
  | _, [] => []
  | i, s :: l => (if i = 0 then [] else setWd (ops.getD (i - 1) 0)) ++ (selP s ++ partsP ops (i + 1) l)
def limP (q : Q) : List Bs := if 0 ≤ q.limit then [wOrder, wBy] ++ (comP (q.order.map exprP) ++ [wLimit, Lib.decDigits q.limit.toNat]) else []
def queryP (q : Q) : List Bs := partsP q.ops 0 q.parts ++ limP q
def OkQ (q : Q) : Prop := (∀ s ∈ q.parts, OkSe s) ∧ q.ops.length + 1 = q.parts.length ∧ (∀ k ∈ q.ops, 1 ≤ k ∧ k ≤ 4) ∧ (0 ≤ q.limit → q.limit ≤ 50 ∧ ∀ x ∈ q.order, OkX x)
theorem partsP_drop {ops : List Int} {l : List Se} {i : Nat} (h : i < l.length) (n : Nat) : partsP ops n (l.drop i) = (if n = 0 then [] else setWd (ops.getD (n - 1) 0)) ++ (selP l[i] ++ partsP ops (n + 1) (l.drop (i + 1))) := by
  rw [List.drop_eq_getElem_cons h, partsP]
theorem ct_Itoa {M : Mem} (i : Nat) (hi : i < 100) : Ct Tryz.prog 126 [.int .i64 (i : Int)] M [] [] (fun r M' _ _ => r = st (Lib.decDigits i) ∧ M' = M) noPan := by
  refine ct_same bodItoa fun w hw => Calls.mono (Tryz.strconv_Itoa_small i hi w) ?_
  rintro e w' ⟨rfl, rfl⟩
  exact ⟨rfl, Keeps.rfl'⟩
theorem wsel_b {F : Fi} {s : List Vc.Item} {e : Env} {ds : List Deferred} {dd : Option Nat} {N : Tm} {M : Mem} {b bx ox : Nat} {cs : List Value} {a : Option Addr} {c : Nat} {p : Value} {acc : Bs} {x : Se} (L1 : LL) (hg : GlobP M) (hr : RSe M x cs) (ha : At M bx ox cs) (ho : OkSe x) (hN : N b = some 97) (hp : wrP b p) (hl : acc.length + wLen (selP x) ≤ 1000000000)
    (k : ∀ u M' p' a' c', Ext M M' → noneL M' (L1 ++ [(b, [p', .slice a' (putM acc (selP x)).length c'])]) → wrP b p' → Run Tryz.prog F s (updo e dd u) ds ⟨N, M', L1 ++ [(b, [p', .slice a' (putM acc (selP x)).length c'])], [(.slice a' (putM acc (selP x)).length c', 5, 1, Lib.byteCells (putM acc (selP x)))]⟩ ⟨⟩) :
    rCall Tryz.prog F 124 [.pointer (some ⟨b, 0, none⟩), .pointer (some ⟨bx, ox, none⟩)] dd s e ds ⟨N, M, L1 ++ [(b, [p, .slice a acc.length c])], [(.slice a acc.length c, 5, 1, Lib.byteCells acc)]⟩ ⟨⟩ := by
  have h := rCall_of (P := Tryz.prog) (F := F) (s := s) (e := e) (ds := ds) (dd := dd) (N := N) L1 (wrL b p a acc.length c) [] [] (wrR a acc.length c acc) [] (ct_pwsel hg hr ha ho hN hp hl)
    (fun u M' L' R' hM' _ _ hno' hq => by
      obtain ⟨p', a', c', hp', rfl, rfl⟩ := hq
      rw [List.append_nil] at hno' ⊢
      exact k u M' p' a' c' hM' hno' hp')
    (fun _ _ _ _ _ _ _ _ h => h.elim)
  rw [List.append_nil] at h
  exact h
theorem ct_pwquery {q : Q} {M : Mem} {T : Tm} {b bx ox : Nat} {cs : List Value} {a : Option Addr} {c : Nat} {p : Value} {acc : Bs} (hg : GlobP M) (hs : RQ M q cs) (ha : At M bx ox cs) (ho : OkQ q) (hT : T b = some 97) (hp : wrP b p) (hl : acc.length + wLen (queryP q) ≤ 1000000000) :
    CtT Tryz.prog 81 [.pointer (some ⟨b, 0, none⟩), .pointer (some ⟨bx, ox, none⟩)] T M (wrL b p a acc.length c) (wrR a acc.length c acc) (wrPost b (putM acc (queryP q))) noPan := by
  obtain ⟨pv, ov, rv, hpv, hov, hrv, y0, y1, y2, y3⟩ := RQ_at hs ha
  obtain ⟨hpb, pa, pc, rfl, hpl, _, hpget⟩ := RS_elim (by decide) (fun _ _ => RSe_len) hpv
  obtain ⟨hob, oa, oc, rfl, hol, _, hoget⟩ := RS_elim (by decide) (fun _ _ => RI_len) hov
  obtain ⟨ra, rc, rfl⟩ : ∃ a c, rv = .slice a q.order.length c := by
    obtain ⟨_, a, c, h, _⟩ := RS_elim (by decide) (fun _ _ => RX_len) hrv; exact ⟨a, c, h⟩
  obtain ⟨ho1, ho2, ho3, ho4⟩ := ho
  obtain ⟨W, hW⟩ : ∃ W, W = putM acc (queryP q) := ⟨_, rfl⟩
  have hR : Rest W acc (queryP q) := ⟨hW, hl⟩
  rw [← hW]
  clear hW hl
  unfold queryP at hR
  obtain ⟨hl, hR⟩ := hR.step
  unfold wrL wrR
  refine ct_run mx bod81 Tryz.func81 rfl (by rw [nt81]; exact Nat.le_of_ble_eq_true rfl) (dr := dr81) (by kernel_rfl) rs81 ?_
  intro hno _
  simp only [noneL, and_true] at hno
  simp +contextual only [go_sem, sevalprocAttr, -Int.reduceAdd, -Int.reduceSub, -Int.reduceMul, y0]
  refine run_cut (CutQ T M b (.pointer (some ⟨bx, ox, none⟩)) (putM acc (partsP q.ops 0 q.parts))) (fun S' hS' => ?_) ?_
  · have hRU : Rest (putM acc (partsP q.ops 0 q.parts)) acc (partsP q.ops 0 q.parts) := ⟨rfl, hl⟩
    generalize putM acc (partsP q.ops 0 q.parts) = U at hS' hRU
    simp +contextual only [go_sem, Rcb, Rbk, sevalprocAttr, -Int.reduceAdd, -Int.reduceSub, -Int.reduceMul]
    refine loop_range q.parts.length 10 [(0, .pointer (some ⟨b, 0, none⟩)), (1, (.pointer (some ⟨bx, ox, none⟩))), (9, .int .i64 (q.parts.length : Int))] (fun i e h => ∃ A', StW T M b A' h ∧ Rest U A' (partsP q.ops i (q.parts.drop i))) 0 (by omega) (by simp only [live, go_sem, Rcb, Rbk, sevalprocAttr, -Int.reduceAdd, -Int.reduceSub, -Int.reduceMul]) (by simp only [go_sem, Rcb, Rbk, sevalprocAttr, -Int.reduceAdd, -Int.reduceSub, -Int.reduceMul]) ⟨acc, ⟨M, p, a, c, hp, Ext.rfl', hno, rfl⟩, hRU⟩ ?_
    clear hno hRU
    rintro i e h hi hlv ht ⟨A5, ⟨M3, p3, a3, c3, hp3, hM3, hno3, rfl⟩, hr⟩
    simp only [live] at hlv
    by_cases hlt : i < q.parts.length
    · rw [partsP_drop hlt] at hr
      obtain ⟨bi, oi, ci, rfl, hat, hri⟩ := hpget i q.parts[i] (List.getElem?_eq_getElem hlt)
      have hok := ho1 q.parts[i] (List.getElem_mem hlt)
      generalize q.parts[i] = sr at hr hri hok
      obtain ⟨hl6, hr⟩ := hr.step
      simp +contextual only [go_sem, sevalprocAttr, -Int.reduceAdd, -Int.reduceSub, -Int.reduceMul, hlv, ht, hlt]
      rw [rCond_bool, if_pos rfl]
      simp +contextual only [go_sem, sevalprocAttr, -Int.reduceAdd, -Int.reduceSub, -Int.reduceMul, hlv, ht, hlt]
      rw [Run_block]
      simp +contextual only [go_sem, sevalprocAttr, -Int.reduceAdd, -Int.reduceSub, -Int.reduceMul, hlv, ht, hlt]
      refine cond_cut (fun e ds h => ds = [] ∧ e 0 = .pointer (some ⟨b, 0, none⟩) ∧ e 1 = (.pointer (some ⟨bx, ox, none⟩)) ∧ e 9 = .int .i64 (q.parts.length : Int) ∧ e 10 = .int .i64 (i : Nat) ∧ e 4 = .int .i64 (i : Nat) ∧ StW T M b (putM A5 (if i = 0 then [] else setWd (q.ops.getD (i - 1) 0))) h) (fun S2 hS2 => ?_) ?_
      · by_cases hi0 : i = 0
        · have h0 : ¬ (0 : Int) < ((i : Nat) : Int) := by omega
          rw [if_pos hi0] at hS2
          rw [rCond_bool, if_neg (by simpa using hi0)]
          simp +contextual only [go_sem, sevalprocAttr, -Int.reduceAdd, -Int.reduceSub, -Int.reduceMul]
          refine hS2 _ _ _ ⟨rfl, ?_, ?_, ?_, ?_, ?_, M3, p3, a3, c3, hp3, hM3, hno3, rfl⟩
          all_goals simp only [hlv, ht, go_sem, Rcb, Rbk, sevalprocAttr, -Int.reduceAdd, -Int.reduceSub, -Int.reduceMul]
        · have h0 : (0 : Int) < ((i : Nat) : Int) := by omega
          rw [if_neg hi0] at hS2 hl6
          rw [rCond_bool, if_pos (by simpa using h0)]
          obtain ⟨j, hj⟩ : ∃ j, i = j + 1 := ⟨i - 1, by omega⟩
          have hjl : j < q.ops.length := by omega
          obtain ⟨bo, oo, co, rfl, hato, hro⟩ := hoget j q.ops[j] (List.getElem?_eq_getElem hjl)
          have u0 : mcell M ⟨bo, oo + j, none⟩ = some (.int .i64 q.ops[j]) := by
            rw [hro, Nat.mul_one] at hato; exact hato.1
          have hw1 : IntKind.i64.wrap ((i : Int) - 1) = (j : Int) := by rw [wrap64 (by omega) (by omega)]; omega
          have hgd : q.ops.getD (i - 1) 0 = q.ops[j] := by rw [hj]; simp [hjl]
          rw [hgd] at hS2 hl6
          have hk := ho3 q.ops[j] (List.getElem_mem hjl)
          generalize q.ops[j] = k at u0 hS2 hl6 hk
          have v0 := mcell_ext hM3 u0
          have v1 := mcell_ext hM3 y1
          obtain hk1 | hk1 | hk1 | hk1 : k = 1 ∨ k = 2 ∨ k = 3 ∨ k = 4 := by omega
          · rw [hk1] at v0 hl6 hS2
            have hj' : setWd 1 = [wUnion, wAll] := rfl
            rw [hj'] at hl6 hS2
            have hw : IntKind.i64.wrap (1 - 1) = 0 := by decide
            simp +contextual only [go_sem, Rcb, Rbk, sevalprocAttr, -Int.reduceAdd, -Int.reduceSub, -Int.reduceMul, hlv, ht, v0, v1, hw, hw1, hjl]
            intro c1 hc1 hd1 c2 hc2 hd2 c3' hc3 hd3 c4 hc4 hd4 c5 hc5 hd5
            refine rCall_frz bod80 fun M5 hM5 hq5 _ => ?_
            refine rCall_frz bod80 fun M6 hM6 hq4 _ => ?_
            refine rCall_frz bod80 fun M7 hM7 hq3 _ => ?_
            refine rCall_frz bod80 fun M8 hM8 hq2 _ => ?_
            refine rCall_frz bod80 fun M9 hM9 hq1 _ => ?_
            have hqq := hq1
            have h410 := hM5.trans (hM6.trans (hM7.trans (hM8.trans hM9)))
            refine putv_b [] (RS_lit (fun _ _ => RSt_len) hqq (RL_strs [wUnion, wAll]) rfl (by decide)) hT hp3 hl6 ?_
            rintro w M11 p11 a11 c11 hM11 hno11 hp11
            simp +contextual only [go_sem, Rcb, Rbk, sevalprocAttr, -Int.reduceAdd, -Int.reduceSub, -Int.reduceMul, hlv, ht]
            refine hS2 _ _ _ ⟨rfl, ?_, ?_, ?_, ?_, ?_, StW.put hp11 (hM3.trans (h410.trans hM11)) hno11⟩
            all_goals simp only [hlv, ht, go_sem, Rcb, Rbk, sevalprocAttr, -Int.reduceAdd, -Int.reduceSub, -Int.reduceMul]
          · rw [hk1] at v0 hl6 hS2
            have hj' : setWd 2 = [wUnion] := rfl
            rw [hj'] at hl6 hS2
            have hw : IntKind.i64.wrap (2 - 1) = 1 := by decide
            simp +contextual only [go_sem, Rcb, Rbk, sevalprocAttr, -Int.reduceAdd, -Int.reduceSub, -Int.reduceMul, hlv, ht, v0, v1, hw, hw1, hjl]
            intro c1 hc1 hd1 c2 hc2 hd2 c3' hc3 hd3 c4 hc4 hd4 c5 hc5 hd5
            refine rCall_frz bod80 fun M5 hM5 hq5 _ => ?_
            refine rCall_frz bod80 fun M6 hM6 hq4 _ => ?_
            refine rCall_frz bod80 fun M7 hM7 hq3 _ => ?_
            refine rCall_frz bod80 fun M8 hM8 hq2 _ => ?_
            refine rCall_frz bod80 fun M9 hM9 hq1 _ => ?_
            have hqq := hM9 _ _ hq2
            have h410 := hM5.trans (hM6.trans (hM7.trans (hM8.trans hM9)))
            refine putv_b [] (RS_lit (fun _ _ => RSt_len) hqq (RL_strs [wUnion]) rfl (by decide)) hT hp3 hl6 ?_
            rintro w M11 p11 a11 c11 hM11 hno11 hp11
            simp +contextual only [go_sem, Rcb, Rbk, sevalprocAttr, -Int.reduceAdd, -Int.reduceSub, -Int.reduceMul, hlv, ht]
            refine hS2 _ _ _ ⟨rfl, ?_, ?_, ?_, ?_, ?_, StW.put hp11 (hM3.trans (h410.trans hM11)) hno11⟩
            all_goals simp only [hlv, ht, go_sem, Rcb, Rbk, sevalprocAttr, -Int.reduceAdd, -Int.reduceSub, -Int.reduceMul]
          · rw [hk1] at v0 hl6 hS2
            have hj' : setWd 3 = [wExcept, wAll] := rfl
            rw [hj'] at hl6 hS2
            have hw : IntKind.i64.wrap (3 - 1) = 2 := by decide
            simp +contextual only [go_sem, Rcb, Rbk, sevalprocAttr, -Int.reduceAdd, -Int.reduceSub, -Int.reduceMul, hlv, ht, v0, v1, hw, hw1, hjl]
            intro c1 hc1 hd1 c2 hc2 hd2 c3' hc3 hd3 c4 hc4 hd4 c5 hc5 hd5
            refine rCall_frz bod80 fun M5 hM5 hq5 _ => ?_
            refine rCall_frz bod80 fun M6 hM6 hq4 _ => ?_
            refine rCall_frz bod80 fun M7 hM7 hq3 _ => ?_
            refine rCall_frz bod80 fun M8 hM8 hq2 _ => ?_
            refine rCall_frz bod80 fun M9 hM9 hq1 _ => ?_
            have hqq := (hM8.trans hM9) _ _ hq3
            have h410 := hM5.trans (hM6.trans (hM7.trans (hM8.trans hM9)))
            refine putv_b [] (RS_lit (fun _ _ => RSt_len) hqq (RL_strs [wExcept, wAll]) rfl (by decide)) hT hp3 hl6 ?_
            rintro w M11 p11 a11 c11 hM11 hno11 hp11
            simp +contextual only [go_sem, Rcb, Rbk, sevalprocAttr, -Int.reduceAdd, -Int.reduceSub, -Int.reduceMul, hlv, ht]
            refine hS2 _ _ _ ⟨rfl, ?_, ?_, ?_, ?_, ?_, StW.put hp11 (hM3.trans (h410.trans hM11)) hno11⟩
            all_goals simp only [hlv, ht, go_sem, Rcb, Rbk, sevalprocAttr, -Int.reduceAdd, -Int.reduceSub, -Int.reduceMul]
          · rw [hk1] at v0 hl6 hS2
            have hj' : setWd 4 = [wExcept] := rfl
            rw [hj'] at hl6 hS2
            have hw : IntKind.i64.wrap (4 - 1) = 3 := by decide
            simp +contextual only [go_sem, Rcb, Rbk, sevalprocAttr, -Int.reduceAdd, -Int.reduceSub, -Int.reduceMul, hlv, ht, v0, v1, hw, hw1, hjl]
            intro c1 hc1 hd1 c2 hc2 hd2 c3' hc3 hd3 c4 hc4 hd4 c5 hc5 hd5
            refine rCall_frz bod80 fun M5 hM5 hq5 _ => ?_
            refine rCall_frz bod80 fun M6 hM6 hq4 _ => ?_
            refine rCall_frz bod80 fun M7 hM7 hq3 _ => ?_
            refine rCall_frz bod80 fun M8 hM8 hq2 _ => ?_
            refine rCall_frz bod80 fun M9 hM9 hq1 _ => ?_
            have hqq := (hM7.trans (hM8.trans hM9)) _ _ hq4
            have h410 := hM5.trans (hM6.trans (hM7.trans (hM8.trans hM9)))
            refine putv_b [] (RS_lit (fun _ _ => RSt_len) hqq (RL_strs [wExcept]) rfl (by decide)) hT hp3 hl6 ?_
            rintro w M11 p11 a11 c11 hM11 hno11 hp11
            simp +contextual only [go_sem, Rcb, Rbk, sevalprocAttr, -Int.reduceAdd, -Int.reduceSub, -Int.reduceMul, hlv, ht]
            refine hS2 _ _ _ ⟨rfl, ?_, ?_, ?_, ?_, ?_, StW.put hp11 (hM3.trans (h410.trans hM11)) hno11⟩
            all_goals simp only [hlv, ht, go_sem, Rcb, Rbk, sevalprocAttr, -Int.reduceAdd, -Int.reduceSub, -Int.reduceMul]
      clear hlv ht
      clear hM3 hno3 hp3
      clear M3 p3 a3 c3 e
      generalize putM A5 (if i = 0 then [] else setWd (q.ops.getD (i - 1) 0)) = A6 at hr ⊢
      rintro e ds h ⟨rfl, e0, e1, e9, e10, e4, M4, p4, a4, c4, hp4, hM4, hno4, rfl⟩
      obtain ⟨hl7, hr⟩ := hr.step
      simp +contextual only [go_sem, Rcb, Rbk, sevalprocAttr, -Int.reduceAdd, -Int.reduceSub, -Int.reduceMul, e0, e1, e9, e10, e4, mcell_ext hM4 y0, hlt]
      refine wsel_b [] (hg.ext hM4) (RSe_ext hM4 _ _ hri) (hat.ext hM4) hok hT hp4 hl7 ?_
      rintro w M5 p5 a5 c5 hM5 hno5 hp5
      simp only [List.nil_append, noneL, and_true] at hno5 ⊢
      simp +contextual only [go_sem, Rcb, Rbk, sevalprocAttr, -Int.reduceAdd, -Int.reduceSub, -Int.reduceMul, e0, e1, e9, e10, e4]
      refine lp_range hlt ?_ ?_ ⟨_, ⟨M5, p5, a5, c5, hp5, hM4.trans hM5, hno5, rfl⟩, hr⟩
      · simp only [live, e0, e1, e9, go_sem, Rcb, Rbk, sevalprocAttr, -Int.reduceAdd, -Int.reduceSub, -Int.reduceMul]
      · simp only [e10, go_sem, Rcb, Rbk, sevalprocAttr, -Int.reduceAdd, -Int.reduceSub, -Int.reduceMul, wrap_succ i (by omega)]
    · have : i = q.parts.length := by omega
      subst this
      simp +contextual only [go_sem, Rcb, Rbk, sevalprocAttr, -Int.reduceAdd, -Int.reduceSub, -Int.reduceMul, hlv, ht, hlt]
      refine hS' _ _ _ ⟨rfl, ?_, ?_, M3, p3, a3, c3, hp3, hM3, hno3, ?_⟩
      · simp only [hlv, go_sem, Rcb, Rbk, sevalprocAttr, -Int.reduceAdd, -Int.reduceSub, -Int.reduceMul]
      · simp only [hlv, go_sem, Rcb, Rbk, sevalprocAttr, -Int.reduceAdd, -Int.reduceSub, -Int.reduceMul]
      · have := hr.1
        rw [List.drop_length] at this
        have : U = A5 := this
        rw [this]
  generalize putM acc (partsP q.ops 0 q.parts) = A1 at hR ⊢
  rintro e ds h ⟨rfl, e0, e1, M2, p2, a2, c2, hp2, hM2, hno2, rfl⟩
  by_cases hlim : 0 ≤ q.limit
  · rw [limP, if_pos hlim] at hR
    obtain ⟨hl1, hR⟩ := hR.step
    obtain ⟨hl2, hR⟩ := hR.step
    obtain ⟨hlm, hox⟩ := ho4 hlim
    obtain ⟨n, hn⟩ : ∃ n : Nat, q.limit = (n : Int) := ⟨q.limit.toNat, by omega⟩
    rw [hn] at y3 hR
    simp only [Int.toNat_natCast] at hR
    simp +contextual only [go_sem, Rcb, Rbk, sevalprocAttr, -Int.reduceAdd, -Int.reduceSub, -Int.reduceMul, e0, e1, mcell_ext hM2 y3]
    intro b4 hb4 hap4
    refine put_b [] [wOrder, wBy] hT hp2 rfl hl1 ?_
    rintro w M3 p3 a3 c3 hM3 hno3 hp3
    generalize putM A1 [wOrder, wBy] = A2 at hR hl2 hno3 ⊢
    simp only [List.nil_append, noneL, and_true] at hno3 ⊢
    have h23 := hM2.trans hM3
    simp +contextual only [go_sem, Rcb, Rbk, sevalprocAttr, -Int.reduceAdd, -Int.reduceSub, -Int.reduceMul, e0, e1, mcell_ext h23 y2]
    refine list_b [] (fun x _ => exW x) hox (hg.ext h23) (RS_ext h23 (RX_ext h23) hrv) hT hp3 hl2 ?_
    rintro w M4 p4 a4 c4 hM4 hno4 hp4
    generalize putM A2 (comP (q.order.map exprP)) = A3 at hR hno4 ⊢
    simp only [List.nil_append, noneL, and_true] at hno4 ⊢
    simp +contextual only [go_sem, Rcb, Rbk, sevalprocAttr, -Int.reduceAdd, -Int.reduceSub, -Int.reduceMul, e0, e1, mcell_ext (h23.trans hM4) y3]
    refine rCall_pure (ct_Itoa n (by omega) T) ?_ (fun _ _ _ _ h => h.elim)
    rintro w M5 hM5 hno5 ⟨rfl, rfl⟩
    simp +contextual only [go_sem, Rcb, Rbk, sevalprocAttr, -Int.reduceAdd, -Int.reduceSub, -Int.reduceMul, e0, e1]
    intro b5 hb5 hap5
    refine put_b [] [wLimit, Lib.decDigits n] hT hp4 rfl hR.2 ?_
    rintro w M6 p6 a6 c6 hM6 hno6 hp6
    simp +contextual only [go_sem, Rcb, Rbk, sevalprocAttr, -Int.reduceAdd, -Int.reduceSub, -Int.reduceMul]
    refine end_id ExtT.rfl' rfl rfl ⟨p6, a6, c6, hp6, ?_, ?_⟩
    · rw [hR.1]; rfl
    · rw [hR.1]; rfl
  · rw [limP, if_neg hlim] at hR
    simp +contextual only [go_sem, Rcb, Rbk, sevalprocAttr, -Int.reduceAdd, -Int.reduceSub, -Int.reduceMul, e0, e1, mcell_ext hM2 y3, hlim]
    have hWA : W = A1 := hR.1
    refine end_id ExtT.rfl' rfl rfl ⟨p2, a2, c2, hp2, ?_, ?_⟩
    · rw [hWA]; rfl
    · rw [hWA]; rfl
end Go.Proofs.YtoainkbcfnlkcaaGreatDoor

namespace Go.Proofs.YtoainkbcfnlkcaaGreatDoor
open Go Vc
set_option linter.unusedSimpArgs false
set_option linter.unusedVariables false
set_option maxRecDepth 10000

/-! ### statements, written -/
def tyWd (t : Int) : Bs := if t = 2 then wBool else if t = 3 then wInt else wText
def colsP : Bool → List Co → List Bs
  | _, [] => []
  | f, c :: l => (if f = true then [] else [sComma]) ++ ([c.name, tyWd c.ty] ++ colsP false l)
def rowVP : Bool → List V → List Bs
  | _, [] => []
  | f, v :: l => [if f = true then sOpen else sComma] ++ (valP v ++ rowVP false l)
def rowsP : Bool → List (List V) → List Bs
  | _, [] => []
  | f, r :: l => (if f = true then [] else [sComma]) ++ (rowVP true r ++ ([sClose] ++ rowsP false l))
def bodyS (s : Stm) : List Bs :=
  if s.k = 1 then [wCreate, wTable, s.name, sOpen] ++ (colsP true s.cols ++ [sClose])
  else if s.k = 2 then [wCreate, wView, s.name, wAs] ++ queryP s.q
  else if s.k = 3 then [wInsert, wInto, s.name, wValues] ++ rowsP true s.rows
  else if s.k = 4 then [wDelete, wFrom, s.name] ++ whereP s.hasW wWhere s.wh
  else if s.k = 5 then [wShow] ++ queryP s.q else []
def stmtP (s : Stm) : List Bs := bodyS s ++ [sSemi]
def OkStm (s : Stm) : Prop := (1 ≤ s.k ∧ s.k ≤ 5) ∧ (s.k = 1 → ∀ c ∈ s.cols, 2 ≤ c.ty ∧ c.ty ≤ 4) ∧ (s.k = 2 ∨ s.k = 5 → OkQ s.q) ∧ (s.k = 3 → ∀ r ∈ s.rows, ∀ v ∈ r, wrongV v = 0) ∧ (s.k = 4 → s.hasW = true → OkX s.wh)
theorem colsP_drop {l : List Co} {i : Nat} (h : i < l.length) (f : Bool) : colsP f (l.drop i) = (if f = true then [] else [sComma]) ++ ([l[i].name, tyWd l[i].ty] ++ colsP false (l.drop (i + 1))) := by
  rw [List.drop_eq_getElem_cons h, colsP]
theorem rowVP_drop {l : List V} {i : Nat} (h : i < l.length) (f : Bool) : rowVP f (l.drop i) = [if f = true then sOpen else sComma] ++ (valP l[i] ++ rowVP false (l.drop (i + 1))) := by
  rw [List.drop_eq_getElem_cons h, rowVP]
theorem rowsP_drop {l : List (List V)} {i : Nat} (h : i < l.length) (f : Bool) : rowsP f (l.drop i) = (if f = true then [] else [sComma]) ++ (rowVP true l[i] ++ ([sClose] ++ rowsP false (l.drop (i + 1)))) := by
  rw [List.drop_eq_getElem_cons h, rowsP]
/-- where the walk stands, types told anew -/
def StN (T : Tm) (M : Mem) (b : Nat) (A : Bs) (h : Sh) : Prop := ∃ N M' p a c, ExtT T N ∧ wrP b p ∧ Ext M M' ∧ M' b = none ∧ h = ⟨N, M', [(b, [p, .slice a A.length c])], [(.slice a A.length c, 5, 1, Lib.byteCells A)]⟩
theorem wquery_b {F : Fi} {s : List Vc.Item} {e : Env} {ds : List Deferred} {dd : Option Nat} {N : Tm} {M : Mem} {b bx ox : Nat} {cs : List Value} {a : Option Addr} {c : Nat} {p : Value} {acc : Bs} {x : Q} (L1 : LL) (hg : GlobP M) (hr : RQ M x cs) (ha : At M bx ox cs) (ho : OkQ x) (hN : N b = some 97) (hp : wrP b p) (hl : acc.length + wLen (queryP x) ≤ 1000000000)
    (k : ∀ u M' p' a' c', Ext M M' → noneL M' (L1 ++ [(b, [p', .slice a' (putM acc (queryP x)).length c'])]) → wrP b p' → Run Tryz.prog F s (updo e dd u) ds ⟨N, M', L1 ++ [(b, [p', .slice a' (putM acc (queryP x)).length c'])], [(.slice a' (putM acc (queryP x)).length c', 5, 1, Lib.byteCells (putM acc (queryP x)))]⟩ ⟨⟩) :
    rCall Tryz.prog F 81 [.pointer (some ⟨b, 0, none⟩), .pointer (some ⟨bx, ox, none⟩)] dd s e ds ⟨N, M, L1 ++ [(b, [p, .slice a acc.length c])], [(.slice a acc.length c, 5, 1, Lib.byteCells acc)]⟩ ⟨⟩ := by
  have h := rCall_of (P := Tryz.prog) (F := F) (s := s) (e := e) (ds := ds) (dd := dd) (N := N) L1 (wrL b p a acc.length c) [] [] (wrR a acc.length c acc) [] (ct_pwquery hg hr ha ho hN hp hl)
    (fun u M' L' R' hM' _ _ hno' hq => by
      obtain ⟨p', a', c', hp', rfl, rfl⟩ := hq
      rw [List.append_nil] at hno' ⊢
      exact k u M' p' a' c' hM' hno' hp')
    (fun _ _ _ _ _ _ _ _ h => h.elim)
  rw [List.append_nil] at h
  exact h
theorem Sub_cons {T T' : Tm} {M : Mem} {L : LL} {R R' : RR} {b : Nat} {cs : List Value} (ha : apart1 b L) : Vc.Sub ⟨T, M, L, R⟩ ⟨T', M, (b, cs) :: L, R'⟩ := by
  have key : ∀ (L : LL) (o : Nat) (sp), apart1 b L → lcell L ⟨b, o, sp⟩ = none := by
    intro L o sp
    induction L with
    | nil => intro _; rfl
    | cons p l ih =>
      obtain ⟨k, ds⟩ := p
      intro h
      simp only [lcell, if_neg h.1.1]
      exact ih h.2
  intro a v hv
  simp only [Sh.cell] at hv ⊢
  cases hm : mcell M a with
  | some u => rw [hm] at hv; exact hv
  | none =>
    rw [hm] at hv
    obtain ⟨k, o, sp⟩ := a
    by_cases hk : k = b
    · subst hk
      rw [key L o sp ha] at hv
      simp at hv
    · simp only [lcell, if_neg hk]
      exact hv
theorem Sub_pre {T T' : Tm} {M : Mem} {L1 L2 : LL} {R : RR} (hno : noneL M L1) : Vc.Sub ⟨T, fun _ => none, L1, []⟩ ⟨T', M, L1 ++ L2, R⟩ := by
  have key : ∀ (L : LL) (k o : Nat) (sp : Option Nat) (v : Value), noneL M L → (lcell L ⟨k, o, sp⟩).getD none = some v → M k = none ∧ lcell (L ++ L2) ⟨k, o, sp⟩ = some (some v) := by
    intro L k o sp v
    induction L with
    | nil => intro _ h; simp [lcell] at h
    | cons p l ih =>
      obtain ⟨b, cs⟩ := p
      intro hn h
      simp only [noneL] at hn
      by_cases hk : k = b
      · subst hk
        refine ⟨hn.1, ?_⟩
        simp only [List.cons_append, lcell, if_true] at h ⊢
        simpa using h
      · simp only [List.cons_append, lcell, if_neg hk] at h ⊢
        exact ih hn.2 h
  intro a v hv
  obtain ⟨k, o, sp⟩ := a
  obtain ⟨h1, h2⟩ := key L1 k o sp v hno (by simpa [Sh.cell, mcell] using hv)
  have : mcell M ⟨k, o, sp⟩ = none := by cases sp <;> simp [mcell, h1]
  simp only [Sh.cell, this, h2]; rfl
theorem ct_pwstmt {s : Stm} {M : Mem} {T : Tm} {b bx ox : Nat} {cs : List Value} {a : Option Addr} {c : Nat} {p : Value} {acc : Bs} (hg : GlobP M) (hs : RStm M s cs) (ha : At M bx ox cs) (ho : OkStm s) (hT : T b = some 97) (hp : wrP b p) (hl : acc.length + wLen (stmtP s) ≤ 1000000000) :
    CtT Tryz.prog 46 [.pointer (some ⟨b, 0, none⟩), .pointer (some ⟨bx, ox, none⟩)] T M (wrL b p a acc.length c) (wrR a acc.length c acc) (wrPost b (putM acc (stmtP s))) noPan := by
  obtain ⟨cv, qv, rv, wv, hcv, hqv, hrv, hwv, rfl⟩ := hs
  have hq4 := RQ_len hqv
  have ha0 : At M bx ox ([.int .i64 s.k, st s.name, cv] ++ (qv ++ ([rv, .bool s.hasW] ++ wv))) := ha
  obtain ⟨haA, haB⟩ := At_app.1 ha0
  obtain ⟨haQ, haC⟩ := At_app.1 haB
  rw [hq4] at haC
  obtain ⟨haD, haW⟩ := At_app.1 haC
  obtain ⟨y0, y1, y2⟩ := At3 haA
  replace haQ : At M bx (ox + 3) qv := haQ
  replace haD : At M bx (ox + 7) [rv, .bool s.hasW] := haD
  replace haW : At M bx (ox + 9) wv := haW
  obtain ⟨y7, y8⟩ := At2 haD
  replace y8 : mcell M ⟨bx, ox + 8, none⟩ = some (.bool s.hasW) := y8
  clear haA haB haC haD ha0 ha
  obtain ⟨_, ca, cc, rfl, hcl, _, hcget⟩ := RS_elim (by decide) (fun _ _ => RCo_len) hcv
  obtain ⟨_, ra, rc, rfl, hrl, _, hrget⟩ := RS_elim (by decide) (fun _ _ => RVs_len) hrv
  have hcb := RS_le hcv
  have hrb := RS_le hrv
  obtain ⟨hk, ho1, ho2, ho3, ho4⟩ := ho
  obtain ⟨W, hW⟩ : ∃ W, W = putM acc (stmtP s) := ⟨_, rfl⟩
  have hR : Rest W acc (stmtP s) := ⟨hW, hl⟩
  rw [← hW]
  clear hW hl
  unfold stmtP at hR
  obtain ⟨hl, hR⟩ := hR.step
  unfold wrL wrR
  refine ct_run mx bod46 Tryz.func46 rfl (by rw [nt46]; exact Nat.le_of_ble_eq_true rfl) (dr := dr46) (by kernel_rfl) rs46 ?_
  intro hno _
  simp only [noneL, and_true] at hno
  simp +contextual only [go_sem, sevalprocAttr, y0]
  refine run_cut (fun e ds h => ds = [] ∧ e 0 = .pointer (some ⟨b, 0, none⟩) ∧ StN T M b (putM acc (bodyS s)) h) (fun S' hS' => ?_) ?_
  · have hRU : Rest (putM acc (bodyS s)) acc (bodyS s) := ⟨rfl, hl⟩
    generalize putM acc (bodyS s) = U at hS' hRU
    unfold bodyS at hRU
    obtain hk1 | hk1 | hk1 | hk1 | hk1 : s.k = 1 ∨ s.k = 2 ∨ s.k = 3 ∨ s.k = 4 ∨ s.k = 5 := by omega
    · rw [if_pos hk1] at hRU
      obtain ⟨hl1, hRU⟩ := hRU.step
      simp +contextual only [go_sem, Rcb, Rbk, sevalprocAttr, hk1, y1]
      intro b3 hb3 hap3
      refine put_b [] [wCreate, wTable, s.name, sOpen] hT hp rfl hl1 ?_
      rintro w M1 p1 a1 c1 hM1 hno1 hp1
      generalize putM acc [wCreate, wTable, s.name, sOpen] = A1 at hRU hno1 ⊢
      simp only [List.nil_append, noneL, and_true] at hno1 ⊢
      simp +contextual only [go_sem, Rcb, Rbk, sevalprocAttr, mcell_ext hM1 y2]
      refine loop_range s.cols.length 28 [(0, .pointer (some ⟨b, 0, none⟩)), (26, .slice ca s.cols.length cc), (27, .int .i64 (s.cols.length : Int))] (fun i e h => ∃ A', StN T M b A' h ∧ Rest U A' (colsP (decide (i = 0)) (s.cols.drop i) ++ [sClose])) 0 (by omega) (by simp only [live, go_sem, Rcb, Rbk, sevalprocAttr]) (by simp only [go_sem, Rcb, Rbk, sevalprocAttr]) ⟨A1, ⟨T, M1, p1, a1, c1, ExtT.rfl', hp1, hM1, hno1, rfl⟩, hRU⟩ ?_
      clear hRU hno1 hp1 hM1
      clear M1 p1 a1 c1
      rintro i e h hi hlv ht ⟨A5, ⟨N3, M3, p3, a3, c3, hN3, hp3, hM3, hno3, rfl⟩, hr⟩
      simp only [live] at hlv
      by_cases hlt : i < s.cols.length
      · rw [colsP_drop hlt] at hr
        obtain ⟨bi, oi, ci, rfl, hat, hri⟩ := hcget i s.cols[i] (List.getElem?_eq_getElem hlt)
        have hty := ho1 hk1 s.cols[i] (List.getElem_mem hlt)
        generalize s.cols[i] = co at hr hri hty
        rw [hri] at hat
        obtain ⟨w0, w1⟩ := At2 (hat.ext hM3)
        simp only [List.append_assoc] at hr
        obtain ⟨hl4, hr⟩ := hr.step
        simp +contextual only [go_sem, sevalprocAttr, hlv, ht, hlt]
        rw [rCond_bool, if_pos rfl]
        simp +contextual only [go_sem, sevalprocAttr, hlv, ht, hlt]
        rw [Run_block]
        simp +contextual only [go_sem, sevalprocAttr, hlv, ht, hlt, w0, w1]
        intro b5 T5 hb5 hap5 hT5 hTb5
        refine cond_cut (fun e ds h => ds = [] ∧ e 0 = .pointer (some ⟨b, 0, none⟩) ∧ e 26 = .slice (some ⟨bi, oi, none⟩) s.cols.length cc ∧ e 27 = .int .i64 (s.cols.length : Int) ∧ e 28 = .int .i64 (i : Nat) ∧ e 5 = .pointer (some ⟨b5, 0, none⟩) ∧ ∃ M' p a c, wrP b p ∧ Ext M M' ∧ M' b = none ∧ M' b5 = none ∧ h = ⟨T5, M', [(b5, [st co.name, .int .i64 co.ty]), (b, [p, .slice a (putM A5 (if decide (i = 0) = true then [] else [sComma])).length c])], [(.slice a (putM A5 (if decide (i = 0) = true then [] else [sComma])).length c, 5, 1, Lib.byteCells (putM A5 (if decide (i = 0) = true then [] else [sComma])))]⟩) (fun S2 hS2 => ?_) ?_
        · by_cases hi0 : i = 0
          · rw [if_pos (by simpa using hi0)] at hS2
            rw [rCond_bool, if_neg (by simpa using hi0)]
            simp +contextual only [go_sem, sevalprocAttr]
            refine hS2 _ _ _ ⟨rfl, ?_, ?_, ?_, ?_, ?_, M3, p3, a3, c3, hp3, hM3, hno3, hb5, rfl⟩
            all_goals simp only [hlv, ht, go_sem, Rcb, Rbk, sevalprocAttr]
          · rw [if_neg (by simpa using hi0)] at hS2 hl4
            have h0 : (0 : Int) < ((i : Nat) : Int) := by omega
            rw [rCond_bool, if_pos (by simpa using h0)]
            simp +contextual only [go_sem, sevalprocAttr, hlv]
            intro b4 hb4 hap4
            refine put_b [(b5, _)] [sComma] (hT5 _ _ (hN3 _ _ hT)) hp3 rfl hl4 ?_
            rintro w M4 p4 a4 c4 hM4 hno4 hp4
            simp only [List.cons_append, List.nil_append, noneL, and_true] at hno4
            simp +contextual only [go_sem, sevalprocAttr]
            refine hS2 _ _ _ ⟨rfl, ?_, ?_, ?_, ?_, ?_, M4, p4, a4, c4, hp4, hM3.trans hM4, hno4.2, hno4.1, rfl⟩
            all_goals simp only [hlv, ht, go_sem, Rcb, Rbk, sevalprocAttr]
        generalize putM A5 (if decide (i = 0) = true then [] else [sComma]) = A6' at hr ⊢
        clear hlv ht hno3 hp3 hM3 w0 w1 hb5
        clear M3 p3 a3 c3 e
        rintro e ds h ⟨rfl, e0, e26, e27, e28, e5, M3, p3, a3, c3, hp3, hM3, hno3, hb5, rfl⟩
        have hbb : ¬ b = b5 := fun h => hap5.1 h.symm
        simp +contextual only [go_sem, Rcb, Rbk, sevalprocAttr, e0, e26, e27, e28, e5, hap5, hbb]
        refine draw_at ⟨T5, fun _ => none, [(b5, [st co.name, .int .i64 co.ty])], []⟩ (Sub_hd hb5) ?_
        simp +contextual only [go_sem, Rcb, Rbk, sevalprocAttr, e0, e26, e27, e28, e5, hap5, hbb]
        intro c1 hc1 hd1
        have hbc : ¬ b5 = c1 := fun h => hd1.1.1 h.symm
        refine ⟨⟨T5, fun _ => none, [(c1, [Value.string (bs [98, 111, 111, 108]), Value.string (bs [105, 110, 116]), Value.string (bs [116, 101, 120, 116])]), (b5, [st co.name, .int .i64 co.ty])], []⟩, Sub_hd2 rfl hbc, fun _ => Sub_pre (L1 := [(c1, _), (b5, _)]) ⟨hc1, hb5, trivial⟩, ?_⟩
        have hbd : ¬ b = c1 := fun h => hd1.2.1 h.symm
        obtain ⟨wj, hw, hnm⟩ : ∃ wj : Nat, (wj < 3 ∧ IntKind.i64.wrap (co.ty - 2) = (wj : Int)) ∧ [wBool, wInt, wText][wj]? = some (tyWd co.ty) := by
          obtain h | h | h : co.ty = 2 ∨ co.ty = 3 ∨ co.ty = 4 := by omega
          · exact ⟨0, ⟨by omega, by rw [h]; rfl⟩, by rw [h]; rfl⟩
          · exact ⟨1, ⟨by omega, by rw [h]; rfl⟩, by rw [h]; rfl⟩
          · exact ⟨2, ⟨by omega, by rw [h]; rfl⟩, by rw [h]; rfl⟩
        have hw3 : ((wj : Nat) : Int) < 3 := by omega
        have hcl : [Value.string (bs [98, 111, 111, 108]), Value.string (bs [105, 110, 116]), Value.string (bs [116, 101, 120, 116])][wj]? = some (st (tyWd co.ty)) := by
          have : [Value.string (bs [98, 111, 111, 108]), Value.string (bs [105, 110, 116]), Value.string (bs [116, 101, 120, 116])] = [wBool, wInt, wText].map st := rfl
          rw [this, List.getElem?_map, hnm]; rfl
        simp +contextual only [go_sem, Rcb, Rbk, sevalprocAttr, e0, e26, e27, e28, e5, hap5, hbb, hd1, hc1, hb5, hbc, hbd, hw, hw3, hcl]
        intro c2 hc2 hd2
        refine ⟨(Sub_pre (L1 := [(c1, _), (b5, _)]) ⟨hc1, hb5, trivial⟩).trans (Sub_cons (T := T5) (R := []) ⟨hd2.1, hd2.2.1, hd2.2.2, trivial⟩), ?_⟩
        refine put_b [(c1, _), (b5, _)] [co.name, tyWd co.ty] (hT5 _ _ (hN3 _ _ hT)) hp3 rfl hr.step.1 ?_
        rintro w M4 p4 a4 c4 hM4 hno4 hp4
        simp only [List.cons_append, List.nil_append, noneL, and_true] at hno4
        simp +contextual only [go_sem, Rcb, Rbk, sevalprocAttr, e0, e26, e27, e28, e5]
        refine ⟨Sub_pre (L1 := [(c1, _), (b5, _)]) ⟨hno4.1, hno4.2.1, trivial⟩, ?_⟩
        refine lp_close (Close_drop (Close_drop (Close_id ⟨s.cols.length - (i + 1), by omega, rfl, i + 1, by omega, rfl, ?_, ?_, putM A6' [co.name, tyWd co.ty], ⟨T5, M4, p4, a4, c4, hN3.trans hT5, hp4, hM3.trans hM4, hno4.2.2, rfl⟩, ?_⟩)))
        · simp only [live, e0, e26, e27, e28, go_sem, Rcb, Rbk, sevalprocAttr]
        · simp only [e28, go_sem, Rcb, Rbk, sevalprocAttr, wrap_succ i (by omega)]
        · simpa using hr.step.2
      · have : i = s.cols.length := by omega
        subst this
        rw [List.drop_length] at hr
        have hr : Rest U A5 [sClose] := hr
        simp +contextual only [go_sem, Rcb, Rbk, sevalprocAttr, hlv, ht, hlt]
        intro b4 hb4 hap4
        refine put_b [] [sClose] (hN3 _ _ hT) hp3 rfl hr.2 ?_
        rintro w M4 p4 a4 c4 hM4 hno4 hp4
        simp only [List.nil_append, noneL, and_true] at hno4 ⊢
        simp +contextual only [go_sem, Rcb, Rbk, sevalprocAttr]
        refine hS' _ _ _ ⟨rfl, ?_, N3, M4, p4, a4, c4, hN3, hp4, hM3.trans hM4, hno4, ?_⟩
        · simp only [hlv, go_sem, Rcb, Rbk, sevalprocAttr]
        · rw [hr.1]
    · rw [if_neg (by omega), if_pos hk1] at hRU
      obtain ⟨hl1, hRU⟩ := hRU.step
      simp +contextual only [go_sem, Rcb, Rbk, sevalprocAttr, hk1, y1]
      intro b3 hb3 hap3
      refine put_b [] [wCreate, wView, s.name, wAs] hT hp rfl hl1 ?_
      rintro w M1 p1 a1 c1 hM1 hno1 hp1
      generalize putM acc [wCreate, wView, s.name, wAs] = A1 at hRU hno1 ⊢
      simp only [List.nil_append, noneL, and_true] at hno1 ⊢
      simp +contextual only [go_sem, Rcb, Rbk, sevalprocAttr]
      refine wquery_b [] (hg.ext hM1) (RQ_ext hM1 _ _ hqv) (haQ.ext hM1) (ho2 (.inl hk1)) hT hp1 hRU.2 ?_
      rintro w M2 p2 a2 c2 hM2 hno2 hp2
      simp only [List.nil_append, noneL, and_true] at hno2 ⊢
      simp +contextual only [go_sem, Rcb, Rbk, sevalprocAttr]
      refine hS' _ _ _ ⟨rfl, ?_, T, M2, p2, a2, c2, ExtT.rfl', hp2, hM1.trans hM2, hno2, ?_⟩
      · simp only [go_sem, Rcb, Rbk, sevalprocAttr]
      · rw [hRU.1]
    · rw [if_neg (by omega), if_neg (by omega), if_pos hk1] at hRU
      obtain ⟨hl1, hRU⟩ := hRU.step
      simp +contextual only [go_sem, Rcb, Rbk, sevalprocAttr, hk1, y1]
      intro b3 hb3 hap3
      refine put_b [] [wInsert, wInto, s.name, wValues] hT hp rfl hl1 ?_
      rintro w M1 p1 a1 c1 hM1 hno1 hp1
      generalize putM acc [wInsert, wInto, s.name, wValues] = A1 at hRU hno1 ⊢
      simp only [List.nil_append, noneL, and_true] at hno1 ⊢
      simp +contextual only [go_sem, Rcb, Rbk, sevalprocAttr, mcell_ext hM1 y7]
      refine loop_range s.rows.length 81 [(0, .pointer (some ⟨b, 0, none⟩)), (79, .slice ra s.rows.length rc), (80, .int .i64 (s.rows.length : Int))] (fun i e h => ∃ A', StN T M b A' h ∧ Rest U A' (rowsP (decide (i = 0)) (s.rows.drop i))) 0 (by omega) (by simp only [live, go_sem, Rcb, Rbk, sevalprocAttr]) (by simp only [go_sem, Rcb, Rbk, sevalprocAttr]) ⟨A1, ⟨T, M1, p1, a1, c1, ExtT.rfl', hp1, hM1, hno1, rfl⟩, hRU⟩ ?_
      clear hRU hno1 hp1 hM1
      clear M1 p1 a1 c1
      rintro i e h hi hlv ht ⟨A5, ⟨N3, M3, p3, a3, c3, hN3, hp3, hM3, hno3, rfl⟩, hr⟩
      simp only [live] at hlv
      by_cases hlt : i < s.rows.length
      · rw [rowsP_drop hlt] at hr
        obtain ⟨bi, oi, ci, rfl, hat, hri⟩ := hrget i s.rows[i] (List.getElem?_eq_getElem hlt)
        obtain ⟨sv, hsv, rfl⟩ := hri
        have hrow := List.getElem_mem hlt
        generalize s.rows[i] = row at hr hsv hrow
        have hvb := RS_le hsv
        obtain ⟨_, va, vc, rfl, hvl, _, hvget⟩ := RS_elim (by decide) (fun _ _ => RV_len) hsv
        have w0 := At1 (hat.ext hM3)
        rw [Nat.mul_one] at w0
        obtain ⟨hl4, hr⟩ := hr.step
        simp +contextual only [go_sem, sevalprocAttr, hlv, ht, hlt]
        rw [rCond_bool, if_pos rfl]
        simp +contextual only [go_sem, sevalprocAttr, hlv, ht, hlt]
        rw [Run_block]
        simp +contextual only [go_sem, sevalprocAttr, hlv, ht, hlt, w0]
        refine cond_cut (fun e ds h => ds = [] ∧ e 0 = .pointer (some ⟨b, 0, none⟩) ∧ e 79 = .slice (some ⟨bi, oi, none⟩) s.rows.length rc ∧ e 80 = .int .i64 (s.rows.length : Int) ∧ e 81 = .int .i64 (i : Nat) ∧ e 7 = .slice va row.length vc ∧ StN T M b (putM A5 (if decide (i = 0) = true then [] else [sComma])) h) (fun S2 hS2 => ?_) ?_
        · by_cases hi0 : i = 0
          · rw [if_pos (by simpa using hi0)] at hS2
            rw [rCond_bool, if_neg (by simpa using hi0)]
            simp +contextual only [go_sem, sevalprocAttr]
            refine hS2 _ _ _ ⟨rfl, ?_, ?_, ?_, ?_, ?_, N3, M3, p3, a3, c3, hN3, hp3, hM3, hno3, rfl⟩
            all_goals simp only [hlv, ht, go_sem, Rcb, Rbk, sevalprocAttr]
          · rw [if_neg (by simpa using hi0)] at hS2 hl4
            have h0 : (0 : Int) < ((i : Nat) : Int) := by omega
            rw [rCond_bool, if_pos (by simpa using h0)]
            simp +contextual only [go_sem, sevalprocAttr, hlv]
            intro b4 hb4 hap4
            refine put_b [] [sComma] (hN3 _ _ hT) hp3 rfl hl4 ?_
            rintro w M4 p4 a4 c4 hM4 hno4 hp4
            simp +contextual only [go_sem, sevalprocAttr]
            refine hS2 _ _ _ ⟨rfl, ?_, ?_, ?_, ?_, ?_, N3, M4, p4, a4, c4, hN3, hp4, hM3.trans hM4, hno4.1, rfl⟩
            all_goals simp only [hlv, ht, go_sem, Rcb, Rbk, sevalprocAttr]
        generalize putM A5 (if decide (i = 0) = true then [] else [sComma]) = A6' at hr ⊢
        clear hlv ht hno3 hp3 hM3 hN3 w0
        clear M3 p3 a3 c3 N3 e
        rintro e ds h ⟨rfl, e0, e79, e80, e81, e7, N3, M3, p3, a3, c3, hN3, hp3, hM3, hno3, rfl⟩
        simp +contextual only [go_sem, Rcb, Rbk, sevalprocAttr, e0, e79, e80, e81, e7]
        refine loop_range row.length 93 [(0, .pointer (some ⟨b, 0, none⟩)), (79, .slice (some ⟨bi, oi, none⟩) s.rows.length rc), (80, .int .i64 (s.rows.length : Int)), (81, .int .i64 (i : Nat)), (91, .slice va row.length vc), (92, .int .i64 (row.length : Int))] (fun j e h => ∃ A', StN T M b A' h ∧ Rest U A' (rowVP (decide (j = 0)) (row.drop j) ++ ([sClose] ++ rowsP false (s.rows.drop (i + 1))))) 0 (by omega) (by simp only [live, e0, e79, e80, e81, e7, go_sem, Rcb, Rbk, sevalprocAttr]) (by simp only [go_sem, Rcb, Rbk, sevalprocAttr]) ⟨A6', ⟨N3, M3, p3, a3, c3, hN3, hp3, hM3, hno3, rfl⟩, hr⟩ ?_
        clear hr e0 e79 e80 e81 e7 hno3 hp3 hM3 hN3
        clear M3 p3 a3 c3 N3 e
        rintro j e h hj hlv ht ⟨A6, ⟨N6, M6, p6, a6, c6, hN6, hp6, hM6, hno6, rfl⟩, hr⟩
        simp only [live] at hlv
        by_cases hjt : j < row.length
        · rw [rowVP_drop hjt] at hr
          simp only [List.append_assoc] at hr
          obtain ⟨u, hu⟩ : ∃ u, row[j]? = some u := ⟨_, List.getElem?_eq_getElem hjt⟩
          have hue : row[j] = u := by rw [List.getElem?_eq_getElem hjt] at hu; injection hu
          rw [hue] at hr
          obtain ⟨bu, ou, cu, rfl, hatu, hru⟩ := hvget j u hu
          rw [hru] at hatu
          obtain ⟨v0, v1, v2⟩ := At3 (hatu.ext hM6)
          obtain ⟨hl5, hr⟩ := hr.step
          by_cases hj0 : j = 0
          · have hmin : (if (1 : Int) < ((j : Nat) : Int) then (1 : Int) else ((j : Nat) : Int)) = 0 := by rw [hj0]; rfl
            rw [if_pos (by simpa using hj0)] at hr hl5
            simp +contextual only [go_sem, Rcb, Rbk, sevalprocAttr, hlv, ht, hjt, v0, v1, v2, hmin]
            intro b9 T9 hb9 hap9 hT9 hTb9 c1 hc1 hd1 c2 hc2 hd2
            refine put_b [(c1, _), (b9, _)] [sOpen] (hT9 _ _ (hN6 _ _ hT)) hp6 rfl hl5 ?_
            rintro w M7 p7 a7 c7 hM7 hno7 hp7
            generalize putM A6 [sOpen] = A7 at hr hno7 ⊢
            simp only [List.cons_append, List.nil_append, noneL, and_true] at hno7
            obtain ⟨hl6, hr⟩ := hr.step
            simp +contextual only [go_sem, Rcb, Rbk, sevalprocAttr, hlv, ht, hno7, hap9, hd1]
            refine val_b [(c1, _), (b9, _)] (v := u) (hg.ext (hM6.trans hM7)) (ho3 hk1 row hrow u (List.mem_of_getElem? hu)) (hT9 _ _ (hN6 _ _ hT)) hp7 hl6 ?_
            rintro w M8 p8 a8 c8 hM8 hno8 hp8
            simp only [List.cons_append, List.nil_append, noneL, and_true] at hno8
            simp +contextual only [go_sem, Rcb, Rbk, sevalprocAttr, hlv, ht]
            refine lp_close (Close_drop (Close_drop (Close_id ⟨row.length - (j + 1), by omega, rfl, j + 1, by omega, rfl, ?_, ?_, putM A7 (valP u), ⟨T9, M8, p8, a8, c8, hN6.trans hT9, hp8, hM6.trans (hM7.trans hM8), hno8.2.2, rfl⟩, ?_⟩)))
            · simp only [live, hlv, go_sem, Rcb, Rbk, sevalprocAttr]
            · simp only [ht, go_sem, Rcb, Rbk, sevalprocAttr, wrap_succ j (by omega)]
            · simpa using hr
          · have hmin : (if (1 : Int) < ((j : Nat) : Int) then (1 : Int) else ((j : Nat) : Int)) = 1 := by
              split <;> omega
            rw [if_neg (by simpa using hj0)] at hr hl5
            simp +contextual only [go_sem, Rcb, Rbk, sevalprocAttr, hlv, ht, hjt, v0, v1, v2, hmin]
            intro b9 T9 hb9 hap9 hT9 hTb9 c1 hc1 hd1 c2 hc2 hd2
            refine put_b [(c1, _), (b9, _)] [sComma] (hT9 _ _ (hN6 _ _ hT)) hp6 rfl hl5 ?_
            rintro w M7 p7 a7 c7 hM7 hno7 hp7
            generalize putM A6 [sComma] = A7 at hr hno7 ⊢
            simp only [List.cons_append, List.nil_append, noneL, and_true] at hno7
            obtain ⟨hl6, hr⟩ := hr.step
            simp +contextual only [go_sem, Rcb, Rbk, sevalprocAttr, hlv, ht, hno7, hap9, hd1]
            refine val_b [(c1, _), (b9, _)] (v := u) (hg.ext (hM6.trans hM7)) (ho3 hk1 row hrow u (List.mem_of_getElem? hu)) (hT9 _ _ (hN6 _ _ hT)) hp7 hl6 ?_
            rintro w M8 p8 a8 c8 hM8 hno8 hp8
            simp only [List.cons_append, List.nil_append, noneL, and_true] at hno8
            simp +contextual only [go_sem, Rcb, Rbk, sevalprocAttr, hlv, ht]
            refine lp_close (Close_drop (Close_drop (Close_id ⟨row.length - (j + 1), by omega, rfl, j + 1, by omega, rfl, ?_, ?_, putM A7 (valP u), ⟨T9, M8, p8, a8, c8, hN6.trans hT9, hp8, hM6.trans (hM7.trans hM8), hno8.2.2, rfl⟩, ?_⟩)))
            · simp only [live, hlv, go_sem, Rcb, Rbk, sevalprocAttr]
            · simp only [ht, go_sem, Rcb, Rbk, sevalprocAttr, wrap_succ j (by omega)]
            · simpa using hr
        · have : j = row.length := by omega
          subst this
          have hd : row.drop row.length = [] := List.drop_length
          rw [hd] at hr
          have hr : Rest U A6 ([sClose] ++ rowsP false (s.rows.drop (i + 1))) := by
            simpa [rowVP] using hr
          obtain ⟨hl5, hr⟩ := hr.step
          simp +contextual only [go_sem, Rcb, Rbk, sevalprocAttr, hlv, ht, hjt]
          intro b9 hb9 hap9
          refine put_b [] [sClose] (hN6 _ _ hT) hp6 rfl hl5 ?_
          rintro w M7 p7 a7 c7 hM7 hno7 hp7
          simp only [List.nil_append, noneL, and_true] at hno7 ⊢
          simp +contextual only [go_sem, Rcb, Rbk, sevalprocAttr, hlv, ht]
          refine lp_range hlt ?_ ?_ ⟨_, ⟨N6, M7, p7, a7, c7, hN6, hp7, hM6.trans hM7, hno7, rfl⟩, ?_⟩
          · simp only [live, hlv, go_sem, Rcb, Rbk, sevalprocAttr]
          · simp only [hlv, go_sem, Rcb, Rbk, sevalprocAttr, wrap_succ i (by omega)]
          · simpa using hr
      · have : i = s.rows.length := by omega
        subst this
        simp +contextual only [go_sem, Rcb, Rbk, sevalprocAttr, hlv, ht, hlt]
        refine hS' _ _ _ ⟨rfl, ?_, N3, M3, p3, a3, c3, hN3, hp3, hM3, hno3, ?_⟩
        · simp only [hlv, go_sem, Rcb, Rbk, sevalprocAttr]
        · have := hr.1
          rw [List.drop_length] at this
          have : U = A5 := this
          rw [this]
    · rw [if_neg (by omega), if_neg (by omega), if_neg (by omega), if_pos hk1] at hRU
      obtain ⟨hl1, hRU⟩ := hRU.step
      simp +contextual only [go_sem, Rcb, Rbk, sevalprocAttr, hk1, y1]
      intro b3 hb3 hap3
      refine put_b [] [wDelete, wFrom, s.name] hT hp rfl hl1 ?_
      rintro w M1 p1 a1 c1 hM1 hno1 hp1
      generalize putM acc [wDelete, wFrom, s.name] = A1 at hRU hno1 ⊢
      simp only [List.nil_append, noneL, and_true] at hno1 ⊢
      by_cases hd : s.hasW = true
      · rw [whereP, if_pos hd] at hRU
        obtain ⟨hl2, hRU⟩ := hRU.step
        rw [hd] at y8
        simp +contextual only [go_sem, Rcb, Rbk, sevalprocAttr, mcell_ext hM1 y8]
        intro b4 hb4 hap4
        refine put_b [] [wWhere] hT hp1 rfl hl2 ?_
        rintro w M2 p2 a2 c2 hM2 hno2 hp2
        generalize putM A1 [wWhere] = A2 at hRU hno2 ⊢
        simp only [List.nil_append, noneL, and_true] at hno2 ⊢
        have h2 := hM1.trans hM2
        simp +contextual only [go_sem, Rcb, Rbk, sevalprocAttr]
        refine expr_b [] (exW s.wh) (hg.ext h2) (RX_ext h2 _ _ hwv) (haW.ext h2) (ho4 hk1 hd) hT hp2 (by decide) (by decide) hRU.2 ?_
        rintro w M3 p3 a3 c3 hM3 hno3 hp3
        simp only [List.nil_append, noneL, and_true] at hno3 ⊢
        simp +contextual only [go_sem, Rcb, Rbk, sevalprocAttr]
        refine hS' _ _ _ ⟨rfl, ?_, T, M3, p3, a3, c3, ExtT.rfl', hp3, h2.trans hM3, hno3, ?_⟩
        · simp only [go_sem, Rcb, Rbk, sevalprocAttr]
        · rw [hRU.1]
      · rw [whereP, if_neg hd] at hRU
        have hd' : s.hasW = false := by simpa using hd
        rw [hd'] at y8
        simp +contextual only [go_sem, Rcb, Rbk, sevalprocAttr, mcell_ext hM1 y8]
        refine hS' _ _ _ ⟨rfl, ?_, T, M1, p1, a1, c1, ExtT.rfl', hp1, hM1, hno1, ?_⟩
        · simp only [go_sem, Rcb, Rbk, sevalprocAttr]
        · rw [hRU.1]; rfl
    · rw [if_neg (by omega), if_neg (by omega), if_neg (by omega), if_neg (by omega), if_pos hk1] at hRU
      obtain ⟨hl1, hRU⟩ := hRU.step
      simp +contextual only [go_sem, Rcb, Rbk, sevalprocAttr, hk1, y1]
      intro b3 hb3 hap3
      refine put_b [] [wShow] hT hp rfl hl1 ?_
      rintro w M1 p1 a1 c1 hM1 hno1 hp1
      generalize putM acc [wShow] = A1 at hRU hno1 ⊢
      simp only [List.nil_append, noneL, and_true] at hno1 ⊢
      simp +contextual only [go_sem, Rcb, Rbk, sevalprocAttr]
      refine wquery_b [] (hg.ext hM1) (RQ_ext hM1 _ _ hqv) (haQ.ext hM1) (ho2 (.inr hk1)) hT hp1 hRU.2 ?_
      rintro w M2 p2 a2 c2 hM2 hno2 hp2
      simp only [List.nil_append, noneL, and_true] at hno2 ⊢
      simp +contextual only [go_sem, Rcb, Rbk, sevalprocAttr]
      refine hS' _ _ _ ⟨rfl, ?_, T, M2, p2, a2, c2, ExtT.rfl', hp2, hM1.trans hM2, hno2, ?_⟩
      · simp only [go_sem, Rcb, Rbk, sevalprocAttr]
      · rw [hRU.1]
  generalize putM acc (bodyS s) = A1 at hR ⊢
  rintro e ds h ⟨rfl, e0, N2, M2, p2, a2, c2, hN2, hp2, hM2, hno2, rfl⟩
  simp +contextual only [go_sem, Rcb, Rbk, sevalprocAttr, e0]
  intro b4 hb4 hap4
  refine put_b [] [sSemi] (hN2 _ _ hT) hp2 rfl hR.2 ?_
  rintro w M3 p3 a3 c3 hM3 hno3 hp3
  simp +contextual only [go_sem, Rcb, Rbk, sevalprocAttr]
  refine end_id hN2 rfl rfl ⟨p3, a3, c3, hp3, ?_, ?_⟩
  · rw [hR.1]; rfl
  · rw [hR.1]; rfl
end Go.Proofs.YtoainkbcfnlkcaaGreatDoor


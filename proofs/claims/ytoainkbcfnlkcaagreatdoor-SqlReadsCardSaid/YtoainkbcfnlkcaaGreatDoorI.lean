import Derived.Test.YtoainkbcfnlkcaaGreatDoorH
set_option linter.all false
namespace Go.Proofs.YtoainkbcfnlkcaaGreatDoor
open Go Vc
set_option linter.unusedSimpArgs false
set_option linter.unusedVariables false
set_option maxRecDepth 10000

theorem slOne {a c} {n : Nat} : (Value.slice a n c).oneCell' = true := rfl
theorem At21 {M : Mem} {b o : Nat} {v0 v1 v2 v3 v4 v5 v6 v7 v8 v9 v10 v11 v12 v13 v14 v15 v16 v17 v18 v19 v20 : Value} (h : At M b o [v0, v1, v2, v3, v4, v5, v6, v7, v8, v9, v10, v11, v12, v13, v14, v15, v16, v17, v18, v19, v20]) : mcell M ⟨b, o, none⟩ = some v0 ∧ mcell M ⟨b, o + 1, none⟩ = some v1 ∧ mcell M ⟨b, o + 2, none⟩ = some v2 ∧ mcell M ⟨b, o + 3, none⟩ = some v3 ∧ mcell M ⟨b, o + 4, none⟩ = some v4 ∧ mcell M ⟨b, o + 5, none⟩ = some v5 ∧ mcell M ⟨b, o + 6, none⟩ = some v6 ∧ mcell M ⟨b, o + 7, none⟩ = some v7 ∧ mcell M ⟨b, o + 8, none⟩ = some v8 ∧ mcell M ⟨b, o + 9, none⟩ = some v9 ∧ mcell M ⟨b, o + 10, none⟩ = some v10 ∧ mcell M ⟨b, o + 11, none⟩ = some v11 ∧ mcell M ⟨b, o + 12, none⟩ = some v12 ∧ mcell M ⟨b, o + 13, none⟩ = some v13 ∧ mcell M ⟨b, o + 14, none⟩ = some v14 ∧ mcell M ⟨b, o + 15, none⟩ = some v15 ∧ mcell M ⟨b, o + 16, none⟩ = some v16 ∧ mcell M ⟨b, o + 17, none⟩ = some v17 ∧ mcell M ⟨b, o + 18, none⟩ = some v18 ∧ mcell M ⟨b, o + 19, none⟩ = some v19 ∧ mcell M ⟨b, o + 20, none⟩ = some v20 :=
  ⟨h.1, h.2.1, h.2.2.1, h.2.2.2.1, h.2.2.2.2.1, h.2.2.2.2.2.1, h.2.2.2.2.2.2.1, h.2.2.2.2.2.2.2.1, h.2.2.2.2.2.2.2.2.1, h.2.2.2.2.2.2.2.2.2.1, h.2.2.2.2.2.2.2.2.2.2.1, h.2.2.2.2.2.2.2.2.2.2.2.1, h.2.2.2.2.2.2.2.2.2.2.2.2.1, h.2.2.2.2.2.2.2.2.2.2.2.2.2.1, h.2.2.2.2.2.2.2.2.2.2.2.2.2.2.1, h.2.2.2.2.2.2.2.2.2.2.2.2.2.2.2.1, h.2.2.2.2.2.2.2.2.2.2.2.2.2.2.2.2.1, h.2.2.2.2.2.2.2.2.2.2.2.2.2.2.2.2.2.1, h.2.2.2.2.2.2.2.2.2.2.2.2.2.2.2.2.2.2.1, h.2.2.2.2.2.2.2.2.2.2.2.2.2.2.2.2.2.2.2.1, h.2.2.2.2.2.2.2.2.2.2.2.2.2.2.2.2.2.2.2.2.1⟩
theorem At10 {M : Mem} {b o : Nat} {v0 v1 v2 v3 v4 v5 v6 v7 v8 v9 : Value} (h : At M b o [v0, v1, v2, v3, v4, v5, v6, v7, v8, v9]) : mcell M ⟨b, o, none⟩ = some v0 ∧ mcell M ⟨b, o + 1, none⟩ = some v1 ∧ mcell M ⟨b, o + 2, none⟩ = some v2 ∧ mcell M ⟨b, o + 3, none⟩ = some v3 ∧ mcell M ⟨b, o + 4, none⟩ = some v4 ∧ mcell M ⟨b, o + 5, none⟩ = some v5 ∧ mcell M ⟨b, o + 6, none⟩ = some v6 ∧ mcell M ⟨b, o + 7, none⟩ = some v7 ∧ mcell M ⟨b, o + 8, none⟩ = some v8 ∧ mcell M ⟨b, o + 9, none⟩ = some v9 :=
  ⟨h.1, h.2.1, h.2.2.1, h.2.2.2.1, h.2.2.2.2.1, h.2.2.2.2.2.1, h.2.2.2.2.2.2.1, h.2.2.2.2.2.2.2.1, h.2.2.2.2.2.2.2.2.1, h.2.2.2.2.2.2.2.2.2.1⟩
theorem At8 {M : Mem} {b o : Nat} {v0 v1 v2 v3 v4 v5 v6 v7 : Value} (h : At M b o [v0, v1, v2, v3, v4, v5, v6, v7]) : mcell M ⟨b, o, none⟩ = some v0 ∧ mcell M ⟨b, o + 1, none⟩ = some v1 ∧ mcell M ⟨b, o + 2, none⟩ = some v2 ∧ mcell M ⟨b, o + 3, none⟩ = some v3 ∧ mcell M ⟨b, o + 4, none⟩ = some v4 ∧ mcell M ⟨b, o + 5, none⟩ = some v5 ∧ mcell M ⟨b, o + 6, none⟩ = some v6 ∧ mcell M ⟨b, o + 7, none⟩ = some v7 :=
  ⟨h.1, h.2.1, h.2.2.1, h.2.2.2.1, h.2.2.2.2.1, h.2.2.2.2.2.1, h.2.2.2.2.2.2.1, h.2.2.2.2.2.2.2.1⟩
theorem RSe_form {M : Mem} {s : Se} {cs : List Value} (h : RSe M s cs) : ∃ ai aj af ag aw ah ap aq, cs = [.bool s.distinct, .bool s.star, .slice ai s.items.length aj, .slice af s.src.length ag, .bool s.hasW, .bool s.hasH, .int .i64 s.wh.k, .int .i64 s.wh.v.k, .int .i64 s.wh.v.n, st s.wh.v.t, st s.wh.tab, st s.wh.name, aw, .int .i64 s.hv.k, .int .i64 s.hv.v.k, .int .i64 s.hv.v.n, st s.hv.v.t, st s.hv.tab, st s.hv.name, ah, .slice ap s.group.length aq] ∧ RS M (RIt M) 8 s.items (.slice ai s.items.length aj) ∧ RS M (RSo M) 10 s.src (.slice af s.src.length ag) ∧
    RX M s.wh [.int .i64 s.wh.k, .int .i64 s.wh.v.k, .int .i64 s.wh.v.n, st s.wh.v.t, st s.wh.tab, st s.wh.name, aw] ∧ RX M s.hv [.int .i64 s.hv.k, .int .i64 s.hv.v.k, .int .i64 s.hv.v.n, st s.hv.v.t, st s.hv.tab, st s.hv.name, ah] ∧ RS M (RX M) 7 s.group (.slice ap s.group.length aq) ∧ aw.oneCell' = true ∧ ah.oneCell' = true := by
  obtain ⟨i, f, w, hh, g, h1, h2, h3, h4, h5, rfl⟩ := h
  obtain ⟨_, ai, aj, rfl, _⟩ := RS_elim (by decide) (fun _ _ => RIt_len) h1
  obtain ⟨_, af, ag, rfl, _⟩ := RS_elim (by decide) (fun _ _ => RSo_len) h2
  obtain ⟨_, ap, aq, rfl, _⟩ := RS_elim (by decide) (fun _ _ => RX_len) h5
  obtain ⟨aw, rfl, k1, _⟩ := RX_form h3
  obtain ⟨ah, rfl, k2, _⟩ := RX_form h4
  exact ⟨ai, aj, af, ag, aw, ah, ap, aq, rfl, h1, h2, h3, h4, h5, k1, k2⟩
theorem RSo_formC {M : Mem} {s : So} {cs : List Value} (h : RSo M s cs) : ∃ aw, cs = [.int .i64 s.k, st s.name, st s.as, .int .i64 s.on.k, .int .i64 s.on.v.k, .int .i64 s.on.v.n, st s.on.v.t, st s.on.tab, st s.on.name, aw] ∧ RX M s.on [.int .i64 s.on.k, .int .i64 s.on.v.k, .int .i64 s.on.v.n, st s.on.v.t, st s.on.tab, st s.on.name, aw] ∧ aw.oneCell' = true := by
  obtain ⟨c, h1, rfl⟩ := h
  obtain ⟨aw, rfl, k1, _⟩ := RX_form h1
  exact ⟨aw, rfl, h1, k1⟩
theorem RIt_form {M : Mem} {s : It} {cs : List Value} (h : RIt M s cs) : ∃ aw, cs = [.int .i64 s.x.k, .int .i64 s.x.v.k, .int .i64 s.x.v.n, st s.x.v.t, st s.x.tab, st s.x.name, aw, st s.as] ∧ RX M s.x [.int .i64 s.x.k, .int .i64 s.x.v.k, .int .i64 s.x.v.n, st s.x.v.t, st s.x.tab, st s.x.name, aw] ∧ aw.oneCell' = true := by
  obtain ⟨c, h1, rfl⟩ := h
  obtain ⟨aw, rfl, k1, _⟩ := RX_form h1
  exact ⟨aw, rfl, h1, k1⟩
theorem RS_get {α : Type} {M : Mem} {r : α → List Value → Prop} {sz : Nat} {l : List α} {a n c} (hpos : 0 < sz) (hsz : ∀ x cs, r x cs → cs.length = sz) (hs : RS M r sz l (.slice a n c)) {i : Nat} {x : α} (h : l[i]? = some x) : ∃ b o cs, a = some ⟨b, o, none⟩ ∧ At M b (o + i * sz) cs ∧ r x cs := by
  obtain ⟨_, a', c', he, _, _, hg⟩ := RS_elim hpos hsz hs
  injection he with h1 h2 h3
  rw [h1]; exact hg i x h
theorem RS_le {α : Type} {M : Mem} {r : α → List Value → Prop} {sz : Nat} {l : List α} {v : Value} (hs : RS M r sz l v) : l.length ≤ 140737488355328 := hs.1
theorem ct_sameQ {q : Q} {M : Mem} {d1 d2 : List Value} (h1 : RQ M q d1) (h2 : RQ M q d2) (T : Tm) : CtT Tryz.prog 40 [.agg ⟨d1⟩, .agg ⟨d2⟩] T M [] [] (fun r _ _ _ => r = .bool true) noPan := by
  obtain ⟨p1, o1, r1, hp1, ho1, hr1, rfl⟩ := h1
  obtain ⟨p2, o2, r2, hp2, ho2, hr2, rfl⟩ := h2
  obtain ⟨_, a1, k1, rfl, hpl1, _, hpg1⟩ := RS_elim (by decide) (fun _ _ => RSe_len) hp1
  obtain ⟨_, a2, k2, rfl, hpl2, _, hpg2⟩ := RS_elim (by decide) (fun _ _ => RSe_len) hp2
  obtain ⟨_, f1, l1, rfl, hol1, _, hog1⟩ := RS_elim (by decide) (fun _ _ => RI_len) ho1
  obtain ⟨_, f2, l2, rfl, hol2, _, hog2⟩ := RS_elim (by decide) (fun _ _ => RI_len) ho2
  obtain ⟨u1, n1, rfl⟩ : ∃ a c, r1 = .slice a q.order.length c := by
    obtain ⟨_, a, c, h, _⟩ := RS_elim (by decide) (fun _ _ => RX_len) hr1; exact ⟨a, c, h⟩
  obtain ⟨u2, n2, rfl⟩ : ∃ a c, r2 = .slice a q.order.length c := by
    obtain ⟨_, a, c, h, _⟩ := RS_elim (by decide) (fun _ _ => RX_len) hr2; exact ⟨a, c, h⟩
  refine ct_run mx bod40 Tryz.func40 rfl (by rw [nt40]; exact Nat.le_of_ble_eq_true rfl) (dr := dr40) (by kernel_rfl) rs40 ?_
  intro hno _
  simp +contextual only [go_sem, Rcb, Rbk, sevalprocAttr, eq_self]
  intro b2 T2 hb2 hT2 hTb2 b3 T3 hb3 hap3 hT3 hTb3
  refine rCall_frzAll bod77 fun M1 hM1 hL1 => ?_
  obtain ⟨hb3', hb2', _⟩ := hL1
  refine rCall_pure (ct_sameText (fun x _ => sameX x) (RS_ext hM1 (RX_ext hM1) hr1) (RS_ext hM1 (RX_ext hM1) hr2) T3) ?_ (fun _ _ _ _ h => h.elim)
  rintro v M2 hM2 _ rfl
  have g2 := hM2 _ _ hb2'
  have g3 := hM2 _ _ hb3'
  have hT := hT2.trans hT3
  have hMM := hM1.trans hM2
  simp +contextual only [go_sem, Rcb, Rbk, sevalprocAttr, mcell_some g2, mcell_some g3]
  refine loop_range q.ops.length 47 [(2, .pointer (some ⟨b2, 0, none⟩)), (3, .pointer (some ⟨b3, 0, none⟩)), (46, .int .i64 (q.ops.length : Int))] (fun i e h => ∃ M', Ext M2 M' ∧ h = ⟨T3, M', [], []⟩) 0 (by omega) (by simp only [live, go_sem, Rcb, Rbk, sevalprocAttr]) (by simp only [go_sem, Rcb, Rbk, sevalprocAttr]) ⟨M2, Ext.rfl', rfl⟩ ?_
  rintro i e h hi hlv ht ⟨M3, hM3, rfl⟩
  simp only [live] at hlv
  have e2 := hM3 _ _ g2
  have e3 := hM3 _ _ g3
  by_cases hlt : i < q.ops.length
  · obtain ⟨b, o, cs, rfl, hat1, hr1'⟩ := hog1 i q.ops[i] (List.getElem?_eq_getElem hlt)
    obtain ⟨b', o', cs', rfl, hat2, hr2'⟩ := hog2 i q.ops[i] (List.getElem?_eq_getElem hlt)
    have p1 : mcell M3 ⟨b, o + i, none⟩ = some (.int .i64 q.ops[i]) := by
      have := hat1.ext (hMM.trans hM3); rw [hr1', Nat.mul_one] at this; exact this.1
    have p2 : mcell M3 ⟨b', o' + i, none⟩ = some (.int .i64 q.ops[i]) := by
      have := hat2.ext (hMM.trans hM3); rw [hr2', Nat.mul_one] at this; exact this.1
    simp +contextual only [go_sem, Rcb, Rbk, sevalprocAttr, hlv, ht, hlt]
    refine draw_all ?_
    simp +contextual only [go_sem, Rcb, Rbk, sevalprocAttr, hlv, ht, hlt, mcell_some e2, mcell_some e3, p1, p2]
    refine lp_range hlt ?_ ?_ ⟨M3, hM3, rfl⟩
    · simp only [live, hlv, go_sem, Rcb, Rbk, sevalprocAttr]
    · simp only [ht, go_sem, Rcb, Rbk, sevalprocAttr, wrap_succ i (by omega)]
  have : i = q.ops.length := by omega
  subst this
  simp +contextual only [go_sem, Rcb, Rbk, sevalprocAttr, hlv, ht, hlt, mcell_some e2, mcell_some e3]
  refine loop_range q.parts.length 65 [(2, .pointer (some ⟨b2, 0, none⟩)), (3, .pointer (some ⟨b3, 0, none⟩)), (64, .int .i64 (q.parts.length : Int))] (fun i e h => ∃ N' M', ExtT T3 N' ∧ Ext M2 M' ∧ h = ⟨N', M', [], []⟩) 0 (by omega) (by simp only [live, hlv, go_sem, Rcb, Rbk, sevalprocAttr]) (by simp only [go_sem, Rcb, Rbk, sevalprocAttr]) ⟨T3, M3, ExtT.rfl', hM3, rfl⟩ ?_
  clear hlt hi hlv ht e2 e3 hM3
  clear M3 e
  rintro i e h hi hlv ht ⟨N4, M3, hN4, hM3, rfl⟩
  simp only [live] at hlv
  have e2 := hM3 _ _ g2
  have e3 := hM3 _ _ g3
  by_cases hlt : i < q.parts.length
  · obtain ⟨x, hx⟩ : ∃ x, q.parts[i]? = some x := ⟨_, List.getElem?_eq_getElem hlt⟩
    obtain ⟨b, o, cs, rfl, hat1, hs1⟩ := hpg1 i x hx
    obtain ⟨b', o', cs', rfl, hat2, hs2⟩ := hpg2 i x hx
    obtain ⟨ai, aj, af, ag, aw, ah, ap, aq, rfl, xi1, xf1, xw1, xh1, xg1, kw1, kh1⟩ := RSe_form hs1
    obtain ⟨ci, cj, cf, cg, cw, ch, cp, cq, rfl, xi2, xf2, xw2, xh2, xg2, kw2, kh2⟩ := RSe_form hs2
    obtain ⟨y0, y1, y2, y3, y4, y5, y6, y7, y8, y9, y10, y11, y12, y13, y14, y15, y16, y17, y18, y19, y20⟩ := At21 (hat1.ext (hMM.trans hM3))
    obtain ⟨z0, z1, z2, z3, z4, z5, z6, z7, z8, z9, z10, z11, z12, z13, z14, z15, z16, z17, z18, z19, z20⟩ := At21 (hat2.ext (hMM.trans hM3))
    simp +contextual only [go_sem, Rcb, Rbk, sevalprocAttr, hlv, ht, hlt]
    refine draw_cut (fun e ds h => ds = [] ∧ e 2 = .pointer (some ⟨b2, 0, none⟩) ∧ e 3 = .pointer (some ⟨b3, 0, none⟩) ∧ e 64 = .int .i64 (q.parts.length : Int) ∧ e 65 = .int .i64 (i : Nat) ∧ ∃ N7 b7 b8 L, ExtT N4 N7 ∧ e 7 = .pointer (some ⟨b7, 0, none⟩) ∧ e 8 = .pointer (some ⟨b8, 0, none⟩) ∧ h = ⟨N7, M3, L, []⟩ ∧ M3 b7 = none ∧ M3 b8 = none ∧
      (∀ o, lcell L ⟨b7, o, none⟩ = some (([.bool x.distinct, .bool x.star, .slice ai x.items.length aj, .slice af x.src.length ag, .bool x.hasW, .bool x.hasH, .int .i64 x.wh.k, .int .i64 x.wh.v.k, .int .i64 x.wh.v.n, st x.wh.v.t, st x.wh.tab, st x.wh.name, aw, .int .i64 x.hv.k, .int .i64 x.hv.v.k, .int .i64 x.hv.v.n, st x.hv.v.t, st x.hv.tab, st x.hv.name, ah, .slice ap x.group.length aq] : List Value)[o]?)) ∧ (∀ o, lcell L ⟨b8, o, none⟩ = some (([.bool x.distinct, .bool x.star, .slice ci x.items.length cj, .slice cf x.src.length cg, .bool x.hasW, .bool x.hasH, .int .i64 x.wh.k, .int .i64 x.wh.v.k, .int .i64 x.wh.v.n, st x.wh.v.t, st x.wh.tab, st x.wh.name, cw, .int .i64 x.hv.k, .int .i64 x.hv.v.k, .int .i64 x.hv.v.n, st x.hv.v.t, st x.hv.tab, st x.hv.name, ch, .slice cp x.group.length cq] : List Value)[o]?)) ∧
      ∀ M', heldL M' L → M' b7 = some [.bool x.distinct, .bool x.star, .slice ai x.items.length aj, .slice af x.src.length ag, .bool x.hasW, .bool x.hasH, .int .i64 x.wh.k, .int .i64 x.wh.v.k, .int .i64 x.wh.v.n, st x.wh.v.t, st x.wh.tab, st x.wh.name, aw, .int .i64 x.hv.k, .int .i64 x.hv.v.k, .int .i64 x.hv.v.n, st x.hv.v.t, st x.hv.tab, st x.hv.name, ah, .slice ap x.group.length aq] ∧ M' b8 = some [.bool x.distinct, .bool x.star, .slice ci x.items.length cj, .slice cf x.src.length cg, .bool x.hasW, .bool x.hasH, .int .i64 x.wh.k, .int .i64 x.wh.v.k, .int .i64 x.wh.v.n, st x.wh.v.t, st x.wh.tab, st x.wh.name, cw, .int .i64 x.hv.k, .int .i64 x.hv.v.k, .int .i64 x.hv.v.n, st x.hv.v.t, st x.hv.tab, st x.hv.name, ch, .slice cp x.group.length cq]) (fun S' hS' => ?_) ?_
    · refine draw_all ?_
      simp +contextual only [go_sem, Rcb, Rbk, sevalprocAttr, hlv, ht, hlt, mcell_some e2, mcell_some e3, y0, y1, y2, y3, y4, y5, y6, y7, y8, y9, y10, y11, y12, y13, y14, y15, y16, y17, y18, y19, y20, z0, z1, z2, z3, z4, z5, z6, z7, z8, z9, z10, z11, z12, z13, z14, z15, z16, z17, z18, z19, z20, kw1, kh1, kw2, kh2, slOne]
      refine ⟨fun b7 T7 hb7 hT7 hTb7 => ⟨Sub_ext Ext.rfl', fun b8 T8 hb8 hap8 hT8 hTb8 => ⟨Sub_ext Ext.rfl', Sub_ext Ext.rfl', ?_⟩⟩, fun b8 T7 hb8 hT7 hTb8 => ⟨Sub_ext Ext.rfl', fun b7 T8 hb7 hap8 hT8 hTb7 => ⟨Sub_ext Ext.rfl', Sub_ext Ext.rfl', ?_⟩⟩⟩
      · refine hS' _ _ _ ⟨rfl, ?_, ?_, ?_, ?_, T8, b7, b8, _, hT7.trans hT8, ?_, ?_, rfl, hb7, hb8, ?_, ?_, fun M' h => ⟨h.2.1, h.1⟩⟩
        · simp only [hlv, go_sem, Rcb, Rbk, sevalprocAttr]
        · simp only [hlv, go_sem, Rcb, Rbk, sevalprocAttr]
        · simp only [hlv, go_sem, Rcb, Rbk, sevalprocAttr]
        · simp only [ht, go_sem, Rcb, Rbk, sevalprocAttr]
        · simp only [go_sem, Rcb, Rbk, sevalprocAttr]
        · simp only [go_sem, Rcb, Rbk, sevalprocAttr]
        · intro o; simp only [lcell, if_neg hap8.2, if_true]; rfl
        · intro o; simp only [lcell, if_true]; rfl
      · refine hS' _ _ _ ⟨rfl, ?_, ?_, ?_, ?_, T8, b7, b8, _, hT7.trans hT8, ?_, ?_, rfl, hb7, hb8, ?_, ?_, fun M' h => ⟨h.1, h.2.1⟩⟩
        · simp only [hlv, go_sem, Rcb, Rbk, sevalprocAttr]
        · simp only [hlv, go_sem, Rcb, Rbk, sevalprocAttr]
        · simp only [hlv, go_sem, Rcb, Rbk, sevalprocAttr]
        · simp only [ht, go_sem, Rcb, Rbk, sevalprocAttr]
        · simp only [go_sem, Rcb, Rbk, sevalprocAttr]
        · simp only [go_sem, Rcb, Rbk, sevalprocAttr]
        · intro o; simp only [lcell, if_true]; rfl
        · intro o; simp only [lcell, if_neg hap8.2, if_true]; rfl
    clear hlv ht e
    rintro e ds h ⟨rfl, e2', e3', e64, e65, N7, b7, b8, L, hN7, e7, e8, rfl, n7, n8, lc7, lc8, held⟩
    simp +contextual only [go_sem, Rcb, Rbk, sevalprocAttr]
    dsimp only [List.append_eq, List.cons_append, List.nil_append]
    simp +contextual only [go_sem, Rcb, Rbk, sevalprocAttr, e7, e8, mcell_none n7, mcell_none n8, lc7, lc8, eq_self]
    refine rCall_frzAll bod39 fun M4 hM4 hL4 => ?_
    obtain ⟨k7, k8⟩ := held M4 hL4
    have h34 := hMM.trans (hM3.trans hM4)
    refine rCall_pure (sameX x.wh M4 N7 _ _ (RX_ext h34 _ _ xw1) (RX_ext h34 _ _ xw2)) ?_ (fun _ _ _ _ h => h.elim)
    rintro v M5 hM5 _ rfl
    have j7 := hM5 _ _ k7
    have j8 := hM5 _ _ k8
    simp +contextual only [go_sem, Rcb, Rbk, sevalprocAttr, e7, e8, mcell_some j7, mcell_some j8, eq_self]
    refine rCall_pure (sameX x.hv M5 N7 _ _ (RX_ext (h34.trans hM5) _ _ xh1) (RX_ext (h34.trans hM5) _ _ xh2)) ?_ (fun _ _ _ _ h => h.elim)
    rintro v M6 hM6 _ rfl
    have i7 := hM6 _ _ j7
    have i8 := hM6 _ _ j8
    have h36 := h34.trans (hM5.trans hM6)
    simp +contextual only [go_sem, Rcb, Rbk, sevalprocAttr, e7, e8, mcell_some i7, mcell_some i8, eq_self]
    refine rCall_pure (ct_sameText (fun x _ => sameX x) (RS_ext h36 (RX_ext h36) xg1) (RS_ext h36 (RX_ext h36) xg2) N7) ?_ (fun _ _ _ _ h => h.elim)
    rintro v M7 hM7 _ rfl
    have g7 := hM7 _ _ i7
    have g8 := hM7 _ _ i8
    have h37 := h36.trans hM7
    simp +contextual only [go_sem, Rcb, Rbk, sevalprocAttr, e7, e8, mcell_some g7, mcell_some g8, eq_self]
    refine loop_range x.items.length 149 [(2, .pointer (some ⟨b2, 0, none⟩)), (3, .pointer (some ⟨b3, 0, none⟩)), (64, .int .i64 (q.parts.length : Int)), (65, .int .i64 (i : Nat)), (7, .pointer (some ⟨b7, 0, none⟩)), (8, .pointer (some ⟨b8, 0, none⟩)), (148, .int .i64 (x.items.length : Int))] (fun i e h => ∃ M', Ext M7 M' ∧ h = ⟨N7, M', [], []⟩) 0 (by omega) (by simp only [live, e2', e3', e64, e65, e7, e8, go_sem, Rcb, Rbk, sevalprocAttr]) (by simp only [go_sem, Rcb, Rbk, sevalprocAttr]) ⟨M7, Ext.rfl', rfl⟩ ?_
    clear e2' e3' e64 e65 e7 e8
    clear e
    rintro k e h hk hlv ht ⟨M8, hM8, rfl⟩
    simp only [live] at hlv
    have q7 := hM8 _ _ g7
    have q8 := hM8 _ _ g8
    by_cases hkt : k < x.items.length
    · obtain ⟨y, hy⟩ : ∃ y, x.items[k]? = some y := ⟨_, List.getElem?_eq_getElem hkt⟩
      obtain ⟨bi, oi, cs1, rfl, ha1, hr1⟩ := RS_get (by decide) (fun _ _ => RIt_len) xi1 hy
      obtain ⟨bj, oj, cs2, rfl, ha2, hr2⟩ := RS_get (by decide) (fun _ _ => RIt_len) xi2 hy
      obtain ⟨wi, rfl, xx1, kk1⟩ := RIt_form hr1
      obtain ⟨wj, rfl, xx2, kk2⟩ := RIt_form hr2
      obtain ⟨w0, w1, w2, w3, w4, w5, w6, w7⟩ := At8 (ha1.ext (h37.trans hM8))
      obtain ⟨v0, v1, v2, v3, v4, v5, v6, v7⟩ := At8 (ha2.ext (h37.trans hM8))
      simp +contextual only [go_sem, Rcb, Rbk, sevalprocAttr, hlv, ht, hkt]
      refine draw_all ?_
      simp +contextual only [go_sem, Rcb, Rbk, sevalprocAttr, hlv, ht, hkt, mcell_some q7, mcell_some q8, w0, w1, w2, w3, w4, w5, w6, w7, v0, v1, v2, v3, v4, v5, v6, v7, kk1, kk2, eq_self]
      refine rCall_pure (sameX y.x M8 N7 _ _ (RX_ext (h37.trans hM8) _ _ xx1) (RX_ext (h37.trans hM8) _ _ xx2)) ?_ (fun _ _ _ _ h => h.elim)
      rintro v M9 hM9 _ rfl
      simp +contextual only [go_sem, Rcb, Rbk, sevalprocAttr, hlv, ht]
      refine ⟨Sub_ext hM9, ?_⟩
      refine lp_range hkt ?_ ?_ ⟨M9, hM8.trans hM9, rfl⟩
      · simp only [live, hlv, go_sem, Rcb, Rbk, sevalprocAttr]
      · simp only [ht, go_sem, Rcb, Rbk, sevalprocAttr, wrap_succ k (by have := RS_le xi1; omega)]
    have : k = x.items.length := by omega
    subst this
    simp +contextual only [go_sem, Rcb, Rbk, sevalprocAttr, hlv, ht, hkt, mcell_some q7, mcell_some q8]
    refine loop_range x.src.length 185 [(2, .pointer (some ⟨b2, 0, none⟩)), (3, .pointer (some ⟨b3, 0, none⟩)), (64, .int .i64 (q.parts.length : Int)), (65, .int .i64 (i : Nat)), (7, .pointer (some ⟨b7, 0, none⟩)), (8, .pointer (some ⟨b8, 0, none⟩)), (184, .int .i64 (x.src.length : Int))] (fun i e h => ∃ N' M', ExtT N7 N' ∧ Ext M7 M' ∧ h = ⟨N', M', [], []⟩) 0 (by omega) (by simp only [live, hlv, go_sem, Rcb, Rbk, sevalprocAttr]) (by simp only [go_sem, Rcb, Rbk, sevalprocAttr]) ⟨N7, M8, ExtT.rfl', hM8, rfl⟩ ?_
    clear hkt hk hlv ht q7 q8 hM8
    clear M8 e
    rintro k e h hk hlv ht ⟨N8, M8, hN8, hM8, rfl⟩
    simp only [live] at hlv
    have q7 := hM8 _ _ g7
    have q8 := hM8 _ _ g8
    by_cases hkt : k < x.src.length
    · obtain ⟨y, hy⟩ : ∃ y, x.src[k]? = some y := ⟨_, List.getElem?_eq_getElem hkt⟩
      obtain ⟨bi, oi, cs1, rfl, ha1, hr1⟩ := RS_get (by decide) (fun _ _ => RSo_len) xf1 hy
      obtain ⟨bj, oj, cs2, rfl, ha2, hr2⟩ := RS_get (by decide) (fun _ _ => RSo_len) xf2 hy
      obtain ⟨wi, rfl, xx1, kk1⟩ := RSo_formC hr1
      obtain ⟨wj, rfl, xx2, kk2⟩ := RSo_formC hr2
      obtain ⟨w0, w1, w2, w3, w4, w5, w6, w7, w8, w9⟩ := At10 (ha1.ext (h37.trans hM8))
      obtain ⟨v0, v1, v2, v3, v4, v5, v6, v7, v8, v9⟩ := At10 (ha2.ext (h37.trans hM8))
      simp +contextual only [go_sem, Rcb, Rbk, sevalprocAttr, hlv, ht, hkt]
      refine draw_cut (fun e ds h => ds = [] ∧ e 2 = .pointer (some ⟨b2, 0, none⟩) ∧ e 3 = .pointer (some ⟨b3, 0, none⟩) ∧ e 64 = .int .i64 (q.parts.length : Int) ∧ e 65 = .int .i64 (i : Nat) ∧ e 7 = .pointer (some ⟨b7, 0, none⟩) ∧ e 8 = .pointer (some ⟨b8, 0, none⟩) ∧ e 184 = .int .i64 (x.src.length : Int) ∧ e 185 = .int .i64 (k : Nat) ∧ ∃ N9 b11 b12 L, ExtT N8 N9 ∧ e 11 = .pointer (some ⟨b11, 0, none⟩) ∧ e 12 = .pointer (some ⟨b12, 0, none⟩) ∧ h = ⟨N9, M8, L, []⟩ ∧ M8 b11 = none ∧ M8 b12 = none ∧
        (∀ o, lcell L ⟨b11, o, none⟩ = some (([.int .i64 y.k, st y.name, st y.as, .int .i64 y.on.k, .int .i64 y.on.v.k, .int .i64 y.on.v.n, st y.on.v.t, st y.on.tab, st y.on.name, wi] : List Value)[o]?)) ∧ (∀ o, lcell L ⟨b12, o, none⟩ = some (([.int .i64 y.k, st y.name, st y.as, .int .i64 y.on.k, .int .i64 y.on.v.k, .int .i64 y.on.v.n, st y.on.v.t, st y.on.tab, st y.on.name, wj] : List Value)[o]?))) (fun S' hS' => ?_) ?_
      · refine draw_all ?_
        simp +contextual only [go_sem, Rcb, Rbk, sevalprocAttr, hlv, ht, hkt, mcell_some q7, mcell_some q8, w0, w1, w2, w3, w4, w5, w6, w7, w8, w9, v0, v1, v2, v3, v4, v5, v6, v7, v8, v9, kk1, kk2, slOne]
        refine ⟨fun b11 T7 hb11 hT7 hTb7 => ⟨Sub_ext Ext.rfl', fun b12 T8 hb12 hap8 hT8 hTb8 => ⟨Sub_ext Ext.rfl', Sub_ext Ext.rfl', ?_⟩⟩, fun b12 T7 hb12 hT7 hTb8 => ⟨Sub_ext Ext.rfl', fun b11 T8 hb11 hap8 hT8 hTb7 => ⟨Sub_ext Ext.rfl', Sub_ext Ext.rfl', ?_⟩⟩⟩
        · refine hS' _ _ _ ⟨rfl, ?_, ?_, ?_, ?_, ?_, ?_, ?_, ?_, T8, b11, b12, _, hT7.trans hT8, ?_, ?_, rfl, hb11, hb12, ?_, ?_⟩
          all_goals first | (intro o; simp only [lcell, if_neg hap8.2, if_true]; rfl) | (intro o; simp only [lcell, if_true]; rfl) | (simp only [hlv, ht, go_sem, Rcb, Rbk, sevalprocAttr]; done)
        · refine hS' _ _ _ ⟨rfl, ?_, ?_, ?_, ?_, ?_, ?_, ?_, ?_, T8, b11, b12, _, hT7.trans hT8, ?_, ?_, rfl, hb11, hb12, ?_, ?_⟩
          all_goals first | (intro o; simp only [lcell, if_neg hap8.2, if_true]; rfl) | (intro o; simp only [lcell, if_true]; rfl) | (simp only [hlv, ht, go_sem, Rcb, Rbk, sevalprocAttr]; done)
      clear hlv ht e
      rintro e ds h ⟨rfl, e2', e3', e64, e65, e7, e8, e184, e185, N9, b11, b12, L, hN9, e11, e12, rfl, n11, n12, lc11, lc12⟩
      simp +contextual only [go_sem, Rcb, Rbk, sevalprocAttr, e11, e12, mcell_none n11, mcell_none n12, lc11, lc12, eq_self]
      refine rCall_pure (sameX y.on M8 N9 _ _ (RX_ext (h37.trans hM8) _ _ xx1) (RX_ext (h37.trans hM8) _ _ xx2)) ?_ (fun _ _ _ _ h => h.elim)
      rintro v M9 hM9 _ rfl
      simp +contextual only [go_sem, Rcb, Rbk, sevalprocAttr, e185]
      refine lp_close (Close_dropAll (Close_id ⟨x.src.length - (k + 1), by omega, rfl, k + 1, by omega, rfl, ?_, ?_, N9, M9, hN8.trans hN9, hM8.trans hM9, rfl⟩))
      · simp only [live, e2', e3', e64, e65, e7, e8, e184, go_sem, Rcb, Rbk, sevalprocAttr]
      · simp only [e185, go_sem, Rcb, Rbk, sevalprocAttr, wrap_succ k (by have := RS_le xf1; omega)]
    have : k = x.src.length := by omega
    subst this
    simp +contextual only [go_sem, Rcb, Rbk, sevalprocAttr, hlv, ht, hkt]
    refine lp_range hlt ?_ ?_ ⟨N8, M8, hN4.trans (hN7.trans hN8), hM3.trans (hM4.trans (hM5.trans (hM6.trans (hM7.trans hM8)))), rfl⟩
    · simp only [live, hlv, go_sem, Rcb, Rbk, sevalprocAttr]
    · simp only [hlv, go_sem, Rcb, Rbk, sevalprocAttr, wrap_succ i (by omega)]
  have : i = q.parts.length := by omega
  subst this
  simp +contextual only [go_sem, Rcb, Rbk, sevalprocAttr, hlv, ht, hlt]
  exact end_none (hT.trans hN4) rfl
end Go.Proofs.YtoainkbcfnlkcaaGreatDoor

namespace Go.Proofs.YtoainkbcfnlkcaaGreatDoor
open Go Vc
set_option linter.unusedSimpArgs false
set_option linter.unusedVariables false
set_option maxRecDepth 10000

theorem At16 {M : Mem} {b o : Nat} {v0 v1 v2 v3 v4 v5 v6 v7 v8 v9 v10 v11 v12 v13 v14 v15 : Value} (h : At M b o [v0, v1, v2, v3, v4, v5, v6, v7, v8, v9, v10, v11, v12, v13, v14, v15]) : mcell M ⟨b, o, none⟩ = some v0 ∧ mcell M ⟨b, o + 1, none⟩ = some v1 ∧ mcell M ⟨b, o + 2, none⟩ = some v2 ∧ mcell M ⟨b, o + 3, none⟩ = some v3 ∧ mcell M ⟨b, o + 4, none⟩ = some v4 ∧ mcell M ⟨b, o + 5, none⟩ = some v5 ∧ mcell M ⟨b, o + 6, none⟩ = some v6 ∧ mcell M ⟨b, o + 7, none⟩ = some v7 ∧ mcell M ⟨b, o + 8, none⟩ = some v8 ∧ mcell M ⟨b, o + 9, none⟩ = some v9 ∧ mcell M ⟨b, o + 10, none⟩ = some v10 ∧ mcell M ⟨b, o + 11, none⟩ = some v11 ∧ mcell M ⟨b, o + 12, none⟩ = some v12 ∧ mcell M ⟨b, o + 13, none⟩ = some v13 ∧ mcell M ⟨b, o + 14, none⟩ = some v14 ∧ mcell M ⟨b, o + 15, none⟩ = some v15 :=
  ⟨h.1, h.2.1, h.2.2.1, h.2.2.2.1, h.2.2.2.2.1, h.2.2.2.2.2.1, h.2.2.2.2.2.2.1, h.2.2.2.2.2.2.2.1, h.2.2.2.2.2.2.2.2.1, h.2.2.2.2.2.2.2.2.2.1, h.2.2.2.2.2.2.2.2.2.2.1, h.2.2.2.2.2.2.2.2.2.2.2.1, h.2.2.2.2.2.2.2.2.2.2.2.2.1, h.2.2.2.2.2.2.2.2.2.2.2.2.2.1, h.2.2.2.2.2.2.2.2.2.2.2.2.2.2.1, h.2.2.2.2.2.2.2.2.2.2.2.2.2.2.2.1⟩
theorem At2 {M : Mem} {b o : Nat} {v0 v1 : Value} (h : At M b o [v0, v1]) : mcell M ⟨b, o, none⟩ = some v0 ∧ mcell M ⟨b, o + 1, none⟩ = some v1 :=
  ⟨h.1, h.2.1⟩
theorem At3 {M : Mem} {b o : Nat} {v0 v1 v2 : Value} (h : At M b o [v0, v1, v2]) : mcell M ⟨b, o, none⟩ = some v0 ∧ mcell M ⟨b, o + 1, none⟩ = some v1 ∧ mcell M ⟨b, o + 2, none⟩ = some v2 :=
  ⟨h.1, h.2.1, h.2.2.1⟩
theorem At1 {M : Mem} {b o : Nat} {v0 : Value} (h : At M b o [v0]) : mcell M ⟨b, o, none⟩ = some v0 := h.1
theorem RCo_len {c : Co} {cs} (h : RCo c cs) : cs.length = 2 := by unfold RCo at h; subst h; rfl
theorem RVs_len {M : Mem} {l : List V} {cs} (h : RVs M l cs) : cs.length = 1 := by obtain ⟨s, _, rfl⟩ := h; rfl
theorem RStm_form {M : Mem} {s : Stm} {cs : List Value} (h : RStm M s cs) : ∃ ac ad ap aq ao an ar ae au av aw, cs = [.int .i64 s.k, st s.name, .slice ac s.cols.length ad, .slice ap s.q.parts.length aq, .slice ao s.q.ops.length an, .slice ar s.q.order.length ae, .int .i64 s.q.limit, .slice au s.rows.length av, .bool s.hasW, .int .i64 s.wh.k, .int .i64 s.wh.v.k, .int .i64 s.wh.v.n, st s.wh.v.t, st s.wh.tab, st s.wh.name, aw] ∧ RS M RCo 2 s.cols (.slice ac s.cols.length ad) ∧ RQ M s.q [.slice ap s.q.parts.length aq, .slice ao s.q.ops.length an, .slice ar s.q.order.length ae, .int .i64 s.q.limit] ∧
    RS M (RVs M) 1 s.rows (.slice au s.rows.length av) ∧ RX M s.wh [.int .i64 s.wh.k, .int .i64 s.wh.v.k, .int .i64 s.wh.v.n, st s.wh.v.t, st s.wh.tab, st s.wh.name, aw] ∧ aw.oneCell' = true := by
  obtain ⟨c, qq, r, w, h1, h2, h3, h4, rfl⟩ := h
  obtain ⟨_, ac, ad, rfl, _⟩ := RS_elim (by decide) (fun _ _ => RCo_len) h1
  obtain ⟨_, au, av, rfl, _⟩ := RS_elim (by decide) (fun _ _ => RVs_len) h3
  obtain ⟨aw, rfl, k1, _⟩ := RX_form h4
  obtain ⟨p, o, rr, g1, g2, g3, rfl⟩ := h2
  obtain ⟨_, ap, aq, rfl, _⟩ := RS_elim (by decide) (fun _ _ => RSe_len) g1
  obtain ⟨_, ao, an, rfl, _⟩ := RS_elim (by decide) (fun _ _ => RI_len) g2
  obtain ⟨_, ar, ae, rfl, _⟩ := RS_elim (by decide) (fun _ _ => RX_len) g3
  exact ⟨ac, ad, ap, aq, ao, an, ar, ae, au, av, aw, rfl, h1, ⟨_, _, _, g1, g2, g3, rfl⟩, h3, h4, k1⟩
theorem ct_Same {l : List Stm} {M : Mem} {v1 v2 : Value} (h1 : RS M (RStm M) 16 l v1) (h2 : RS M (RStm M) 16 l v2) (T : Tm) : CtT Tryz.prog 13 [v1, v2] T M [] [] (fun r _ _ _ => r = .bool true) noPan := by
  have h1' := h1
  have h2' := h2
  obtain ⟨_, a1, k1, rfl, hl1, _⟩ := RS_elim (by decide) (fun _ _ => RStm_len) h1
  obtain ⟨_, a2, k2, rfl, hl2, _⟩ := RS_elim (by decide) (fun _ _ => RStm_len) h2
  refine ct_run mx bod13 Tryz.func13 rfl (by rw [nt13]; exact Nat.le_of_ble_eq_true rfl) (dr := dr13) (by kernel_rfl) rs13 ?_
  intro hno _
  simp +contextual only [go_sem, Rcb, Rbk, sevalprocAttr, eq_self]
  refine loop_range l.length 18 [(0, .slice a1 l.length k1), (1, .slice a2 l.length k2), (17, .int .i64 (l.length : Int))] (fun i e h => ∃ N' M', ExtT T N' ∧ Ext M M' ∧ h = ⟨N', M', [], []⟩) 0 (by omega) (by simp only [live, go_sem, Rcb, Rbk, sevalprocAttr]) (by simp only [go_sem, Rcb, Rbk, sevalprocAttr]) ⟨T, M, ExtT.rfl', Ext.rfl', rfl⟩ ?_
  rintro i e h hi hlv ht ⟨N4, M3, hN4, hM3, rfl⟩
  simp only [live] at hlv
  by_cases hlt : i < l.length
  · obtain ⟨x, hx⟩ : ∃ x, l[i]? = some x := ⟨_, List.getElem?_eq_getElem hlt⟩
    obtain ⟨b, o, cs, rfl, hat1, hs1⟩ := RS_get (by decide) (fun _ _ => RStm_len) h1 hx
    obtain ⟨b', o', cs', rfl, hat2, hs2⟩ := RS_get (by decide) (fun _ _ => RStm_len) h2 hx
    obtain ⟨ac, ad, ap, aq, ao, an, ar, ae, au, av, aw, rfl, xc1, xq1, xr1, xw1, kw1⟩ := RStm_form hs1
    obtain ⟨cc, cd, cp, cq, co, cn, cr, ce, cu, cv, cw, rfl, xc2, xq2, xr2, xw2, kw2⟩ := RStm_form hs2
    obtain ⟨y0, y1, y2, y3, y4, y5, y6, y7, y8, y9, y10, y11, y12, y13, y14, y15⟩ := At16 (hat1.ext hM3)
    obtain ⟨z0, z1, z2, z3, z4, z5, z6, z7, z8, z9, z10, z11, z12, z13, z14, z15⟩ := At16 (hat2.ext hM3)
    simp +contextual only [go_sem, Rcb, Rbk, sevalprocAttr, hlv, ht, hlt]
    refine draw_cut (fun e ds h => ds = [] ∧ e 0 = .slice (some ⟨b, o, none⟩) l.length k1 ∧ e 1 = .slice (some ⟨b', o', none⟩) l.length k2 ∧ e 17 = .int .i64 (l.length : Int) ∧ e 18 = .int .i64 (i : Nat) ∧ ∃ N7 b7 b8 L, ExtT N4 N7 ∧ e 6 = .pointer (some ⟨b7, 0, none⟩) ∧ e 7 = .pointer (some ⟨b8, 0, none⟩) ∧ h = ⟨N7, M3, L, []⟩ ∧ M3 b7 = none ∧ M3 b8 = none ∧
      (∀ o, lcell L ⟨b7, o, none⟩ = some (([.int .i64 x.k, st x.name, .slice ac x.cols.length ad, .slice ap x.q.parts.length aq, .slice ao x.q.ops.length an, .slice ar x.q.order.length ae, .int .i64 x.q.limit, .slice au x.rows.length av, .bool x.hasW, .int .i64 x.wh.k, .int .i64 x.wh.v.k, .int .i64 x.wh.v.n, st x.wh.v.t, st x.wh.tab, st x.wh.name, aw] : List Value)[o]?)) ∧ (∀ o, lcell L ⟨b8, o, none⟩ = some (([.int .i64 x.k, st x.name, .slice cc x.cols.length cd, .slice cp x.q.parts.length cq, .slice co x.q.ops.length cn, .slice cr x.q.order.length ce, .int .i64 x.q.limit, .slice cu x.rows.length cv, .bool x.hasW, .int .i64 x.wh.k, .int .i64 x.wh.v.k, .int .i64 x.wh.v.n, st x.wh.v.t, st x.wh.tab, st x.wh.name, cw] : List Value)[o]?)) ∧
      ∀ M', heldL M' L → M' b7 = some [.int .i64 x.k, st x.name, .slice ac x.cols.length ad, .slice ap x.q.parts.length aq, .slice ao x.q.ops.length an, .slice ar x.q.order.length ae, .int .i64 x.q.limit, .slice au x.rows.length av, .bool x.hasW, .int .i64 x.wh.k, .int .i64 x.wh.v.k, .int .i64 x.wh.v.n, st x.wh.v.t, st x.wh.tab, st x.wh.name, aw] ∧ M' b8 = some [.int .i64 x.k, st x.name, .slice cc x.cols.length cd, .slice cp x.q.parts.length cq, .slice co x.q.ops.length cn, .slice cr x.q.order.length ce, .int .i64 x.q.limit, .slice cu x.rows.length cv, .bool x.hasW, .int .i64 x.wh.k, .int .i64 x.wh.v.k, .int .i64 x.wh.v.n, st x.wh.v.t, st x.wh.tab, st x.wh.name, cw]) (fun S' hS' => ?_) ?_
    · refine draw_all ?_
      simp +contextual only [go_sem, Rcb, Rbk, sevalprocAttr, hlv, ht, hlt, y0, y1, y2, y3, y4, y5, y6, y7, y8, y9, y10, y11, y12, y13, y14, y15, z0, z1, z2, z3, z4, z5, z6, z7, z8, z9, z10, z11, z12, z13, z14, z15, kw1, kw2, slOne]
      refine ⟨fun b7 T7 hb7 hT7 hTb7 => ⟨Sub_ext Ext.rfl', fun b8 T8 hb8 hap8 hT8 hTb8 => ⟨Sub_ext Ext.rfl', Sub_ext Ext.rfl', ?_⟩⟩, fun b8 T7 hb8 hT7 hTb8 => ⟨Sub_ext Ext.rfl', fun b7 T8 hb7 hap8 hT8 hTb7 => ⟨Sub_ext Ext.rfl', Sub_ext Ext.rfl', ?_⟩⟩⟩
      · refine hS' _ _ _ ⟨rfl, ?_, ?_, ?_, ?_, T8, b7, b8, _, hT7.trans hT8, ?_, ?_, rfl, hb7, hb8, ?_, ?_, fun M' h => ⟨h.2.1, h.1⟩⟩
        all_goals first | (intro o; simp only [lcell, if_neg hap8.2, if_true]; rfl) | (intro o; simp only [lcell, if_true]; rfl) | (simp only [hlv, ht, go_sem, Rcb, Rbk, sevalprocAttr]; done)
      · refine hS' _ _ _ ⟨rfl, ?_, ?_, ?_, ?_, T8, b7, b8, _, hT7.trans hT8, ?_, ?_, rfl, hb7, hb8, ?_, ?_, fun M' h => ⟨h.1, h.2.1⟩⟩
        all_goals first | (intro o; simp only [lcell, if_neg hap8.2, if_true]; rfl) | (intro o; simp only [lcell, if_true]; rfl) | (simp only [hlv, ht, go_sem, Rcb, Rbk, sevalprocAttr]; done)
    clear hlv ht e
    rintro e ds h ⟨rfl, e0', e1', e17, e18, N7, b7, b8, L, hN7, e7, e8, rfl, n7, n8, lc7, lc8, held⟩
    simp +contextual only [go_sem, Rcb, Rbk, sevalprocAttr]
    try dsimp only [List.append_eq, List.cons_append, List.nil_append]
    simp +contextual only [go_sem, Rcb, Rbk, sevalprocAttr, e7, e8, mcell_none n7, mcell_none n8, lc7, lc8, eq_self]
    refine rCall_frzAll bod39 fun M4 hM4 hL4 => ?_
    obtain ⟨k7, k8⟩ := held M4 hL4
    have h34 := hM3.trans hM4
    refine rCall_pure (sameX x.wh M4 N7 _ _ (RX_ext h34 _ _ xw1) (RX_ext h34 _ _ xw2)) ?_ (fun _ _ _ _ h => h.elim)
    rintro v M5 hM5 _ rfl
    have j7 := hM5 _ _ k7
    have j8 := hM5 _ _ k8
    simp +contextual only [go_sem, Rcb, Rbk, sevalprocAttr, e7, e8, mcell_some j7, mcell_some j8, eq_self]
    refine rCall_pure (ct_sameQ (RQ_ext (h34.trans hM5) _ _ xq1) (RQ_ext (h34.trans hM5) _ _ xq2) N7) ?_ (fun _ _ _ _ h => h.elim)
    rintro v M7 hM7 _ rfl
    have g7 := hM7 _ _ j7
    have g8 := hM7 _ _ j8
    have h37 := h34.trans (hM5.trans hM7)
    simp +contextual only [go_sem, Rcb, Rbk, sevalprocAttr, e7, e8, mcell_some g7, mcell_some g8, eq_self]
    refine loop_range x.cols.length 85 [(0, .slice (some ⟨b, o, none⟩) l.length k1), (1, .slice (some ⟨b', o', none⟩) l.length k2), (17, .int .i64 (l.length : Int)), (18, .int .i64 (i : Nat)), (6, .pointer (some ⟨b7, 0, none⟩)), (7, .pointer (some ⟨b8, 0, none⟩)), (84, .int .i64 (x.cols.length : Int))] (fun i e h => h = ⟨N7, M7, [], []⟩) 0 (by omega) (by simp only [live, e0', e1', e17, e18, e7, e8, go_sem, Rcb, Rbk, sevalprocAttr]) (by simp only [go_sem, Rcb, Rbk, sevalprocAttr]) rfl ?_
    clear e0' e1' e17 e18 e7 e8
    clear e
    rintro k e h hk hlv ht rfl
    simp only [live] at hlv
    by_cases hkt : k < x.cols.length
    · obtain ⟨y, hy⟩ : ∃ y, x.cols[k]? = some y := ⟨_, List.getElem?_eq_getElem hkt⟩
      obtain ⟨bi, oi, cs1, rfl, ha1, hr1⟩ := RS_get (by decide) (fun _ _ => RCo_len) xc1 hy
      obtain ⟨bj, oj, cs2, rfl, ha2, hr2⟩ := RS_get (by decide) (fun _ _ => RCo_len) xc2 hy
      rw [hr1] at ha1
      rw [hr2] at ha2
      obtain ⟨w0, w1⟩ := At2 (ha1.ext h37)
      obtain ⟨v0, v1⟩ := At2 (ha2.ext h37)
      simp +contextual only [go_sem, Rcb, Rbk, sevalprocAttr, hlv, ht, hkt]
      refine draw_all ?_
      simp +contextual only [go_sem, Rcb, Rbk, sevalprocAttr, hlv, ht, hkt, mcell_some g7, mcell_some g8, w0, w1, v0, v1, neqCol]
      refine lp_range hkt ?_ ?_ rfl
      · simp only [live, hlv, go_sem, Rcb, Rbk, sevalprocAttr]
      · simp only [ht, go_sem, Rcb, Rbk, sevalprocAttr, wrap_succ k (by have := RS_le xc1; omega)]
    have : k = x.cols.length := by omega
    subst this
    simp +contextual only [go_sem, Rcb, Rbk, sevalprocAttr, hlv, ht, hkt, mcell_some g7, mcell_some g8]
    refine loop_range x.rows.length 103 [(0, .slice (some ⟨b, o, none⟩) l.length k1), (1, .slice (some ⟨b', o', none⟩) l.length k2), (17, .int .i64 (l.length : Int)), (18, .int .i64 (i : Nat)), (6, .pointer (some ⟨b7, 0, none⟩)), (7, .pointer (some ⟨b8, 0, none⟩)), (102, .int .i64 (x.rows.length : Int))] (fun i e h => h = ⟨N7, M7, [], []⟩) 0 (by omega) (by simp only [live, hlv, go_sem, Rcb, Rbk, sevalprocAttr]) (by simp only [go_sem, Rcb, Rbk, sevalprocAttr]) rfl ?_
    clear hkt hk hlv ht
    clear e
    rintro k e h hk hlv ht rfl
    simp only [live] at hlv
    by_cases hkt : k < x.rows.length
    · obtain ⟨y, hy⟩ : ∃ y, x.rows[k]? = some y := ⟨_, List.getElem?_eq_getElem hkt⟩
      obtain ⟨bi, oi, cs1, rfl, ha1, ⟨sv1, hs1', hr1⟩⟩ := RS_get (by decide) (fun _ _ => RVs_len) xr1 hy
      obtain ⟨bj, oj, cs2, rfl, ha2, ⟨sv2, hs2', hr2⟩⟩ := RS_get (by decide) (fun _ _ => RVs_len) xr2 hy
      rw [hr1] at ha1
      rw [hr2] at ha2
      obtain ⟨_, vi, vc, rfl, _⟩ := RS_elim (by decide) (fun _ _ => RV_len) hs1'
      obtain ⟨_, wi, wc, rfl, _⟩ := RS_elim (by decide) (fun _ _ => RV_len) hs2'
      have w0 := At1 (ha1.ext h37)
      have v0 := At1 (ha2.ext h37)
      rw [Nat.mul_one] at w0 v0
      simp +contextual only [go_sem, Rcb, Rbk, sevalprocAttr, hlv, ht, hkt]
      refine draw_all ?_
      simp +contextual only [go_sem, Rcb, Rbk, sevalprocAttr, hlv, ht, hkt, mcell_some g7, mcell_some g8, w0, v0, eq_self]
      refine loop_range y.length 125 [(0, .slice (some ⟨b, o, none⟩) l.length k1), (1, .slice (some ⟨b', o', none⟩) l.length k2), (17, .int .i64 (l.length : Int)), (18, .int .i64 (i : Nat)), (6, .pointer (some ⟨b7, 0, none⟩)), (7, .pointer (some ⟨b8, 0, none⟩)), (102, .int .i64 (x.rows.length : Int)), (103, .int .i64 (k : Nat)), (9, .int .i64 (k : Nat)), (124, .int .i64 (y.length : Int))] (fun i e h => h = ⟨N7, M7, [], []⟩) 0 (by omega) (by simp only [live, hlv, ht, go_sem, Rcb, Rbk, sevalprocAttr]) (by simp only [go_sem, Rcb, Rbk, sevalprocAttr]) rfl ?_
      clear hlv ht
      clear e
      rintro j e h hj hlv ht rfl
      simp only [live] at hlv
      by_cases hjt : j < y.length
      · obtain ⟨u, hu⟩ : ∃ u, y[j]? = some u := ⟨_, List.getElem?_eq_getElem hjt⟩
        obtain ⟨bu, ou, cs1, rfl, hb1, hc1⟩ := RS_get (by decide) (fun _ _ => RV_len) hs1' hu
        obtain ⟨bv, ov, cs2, rfl, hb2, hc2⟩ := RS_get (by decide) (fun _ _ => RV_len) hs2' hu
        rw [hc1] at hb1
        rw [hc2] at hb2
        obtain ⟨r0, r1, r2⟩ := At3 (hb1.ext h37)
        obtain ⟨s0, s1, s2⟩ := At3 (hb2.ext h37)
        simp +contextual only [go_sem, Rcb, Rbk, sevalprocAttr, hlv, ht, hjt]
        refine draw_all ?_
        simp +contextual only [go_sem, Rcb, Rbk, sevalprocAttr, hlv, ht, hkt, hjt, mcell_some g7, mcell_some g8, w0, v0, r0, r1, r2, s0, s1, s2, neqVal]
        refine lp_range hjt ?_ ?_ rfl
        · simp only [live, hlv, go_sem, Rcb, Rbk, sevalprocAttr]
        · simp only [ht, go_sem, Rcb, Rbk, sevalprocAttr, wrap_succ j (by have := RS_le hs1'; omega)]
      have : j = y.length := by omega
      subst this
      simp +contextual only [go_sem, Rcb, Rbk, sevalprocAttr, hlv, ht, hjt]
      refine lp_range hkt ?_ ?_ rfl
      · simp only [live, hlv, go_sem, Rcb, Rbk, sevalprocAttr]
      · simp only [hlv, go_sem, Rcb, Rbk, sevalprocAttr, wrap_succ k (by have := RS_le xr1; omega)]
    have : k = x.rows.length := by omega
    subst this
    simp +contextual only [go_sem, Rcb, Rbk, sevalprocAttr, hlv, ht, hkt]
    refine lp_range hlt ?_ ?_ ⟨N7, M7, hN4.trans hN7, hM3.trans (hM4.trans (hM5.trans hM7)), rfl⟩
    · simp only [live, hlv, go_sem, Rcb, Rbk, sevalprocAttr]
    · simp only [hlv, go_sem, Rcb, Rbk, sevalprocAttr, wrap_succ i (by have := RS_le h1'; omega)]
  have : i = l.length := by omega
  subst this
  simp +contextual only [go_sem, Rcb, Rbk, sevalprocAttr, hlv, ht, hlt]
  exact end_none hN4 rfl
end Go.Proofs.YtoainkbcfnlkcaaGreatDoor

namespace Go.Proofs.YtoainkbcfnlkcaaGreatDoor
open Go Vc
set_option linter.unusedSimpArgs false
set_option linter.unusedVariables false
set_option maxRecDepth 10000

end Go.Proofs.YtoainkbcfnlkcaaGreatDoor

namespace Go.Proofs.YtoainkbcfnlkcaaGreatDoor
open Go Vc
set_option linter.unusedSimpArgs false
set_option linter.unusedVariables false
set_option maxRecDepth 10000

theorem cells_At {N : Tm} {M : Mem} {L : LL} {R : RR} {b : Nat} : ∀ (xs : List Value) (o i : Nat), At M b (o + i) xs → Sh.cells ⟨N, M, L, R⟩ ⟨b, o, none⟩ i xs.length = some xs
  | [], o, i, h => rfl
  | x :: xs, o, i, h => by
    rw [List.length_cons, cells_succ, cells_At xs o (i + 1) h.2]
    have : Sh.cell ⟨N, M, L, R⟩ ⟨b, o + i, none⟩ = some x := by simp only [Sh.cell, h.1]
    rw [this]; rfl
theorem RL_oneC {α : Type} {r : α → List Value → Prop} (hr : ∀ x cs, r x cs → ∀ u ∈ cs, u.oneCell' = true) : ∀ {l xs}, RL r l xs → ∀ u ∈ xs, u.oneCell' = true
  | [], xs, h, u, hu => by have : xs = [] := h; subst this; cases hu
  | x :: l, xs, h, u, hu => by
    obtain ⟨cs, rest, rfl, h1, h2⟩ := h
    rcases List.mem_append.1 hu with hu | hu
    · exact hr x cs h1 u hu
    · exact RL_oneC hr h2 u hu
theorem srcs_RS {P : Program} {tx e' : TypeId} {α : Type} {r : α → List Value → Prop} {sz : Nat} {M : Mem} {l : List α} {v : Value} (hu : P.underlying tx = some (.slice e')) (hsz : ∀ x cs, r x cs → cs.length = sz) (hr : ∀ x cs, r x cs → ∀ u ∈ cs, u.oneCell' = true) (hs : RS M r sz l v) :
    ∃ xs, xs.length = l.length * sz ∧ RL r l xs ∧ ∀ N L R, Srcs P tx sz ⟨N, M, L, R⟩ v xs := by
  obtain ⟨_, xs, h, hl⟩ := hs
  refine ⟨xs, RL_len hsz hl, hl, fun N L R => ?_⟩
  rcases h with ⟨a, c, rfl, rfl, hac⟩ | ⟨b, o, n, c, rfl, hle, hn, ha⟩
  · cases a with
    | none => rw [hac rfl]; exact .nil 0 e' hu
    | some a => exact .slice a 0 c [] e' hu (by rw [Nat.zero_mul]; rfl) (fun u hu => by cases hu)
  · refine .slice _ n c xs e' hu ?_ (RL_oneC hr hl)
    rw [← hn]
    exact cells_At xs o 0 ha
theorem RL_append {α : Type} {r : α → List Value → Prop} : ∀ {l m : List α} {xs ys : List Value}, RL r l xs → RL r m ys → RL r (l ++ m) (xs ++ ys)
  | [], m, xs, ys, h, h' => by have : xs = [] := h; subst this; exact h'
  | x :: l, m, xs, ys, h, h' => by
    obtain ⟨cs, rest, rfl, h1, h2⟩ := h
    exact ⟨cs, rest ++ ys, by rw [List.append_assoc], h1, RL_append h2 h'⟩
end Go.Proofs.YtoainkbcfnlkcaaGreatDoor


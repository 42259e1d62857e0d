import Derived.Test.YtmccpbcbofhmlaaGreatDoorI
set_option linter.all false
namespace Go.Proofs.YtmccpbcbofhmlaaGreatDoor
open Go Vc
set_option maxRecDepth 10000
theorem rdFi_ret {T dr ts post} : (rdFi T dr ts post).ret = rdRet T ts post := (rfl)
theorem rdFi_pan {T dr ts post} : (rdFi T dr ts post).pan = rdPan T post := (rfl)
theorem rdFi_dr {T dr ts post} : (rdFi T dr ts post).dr = dr := (rfl)
theorem PanOk_rd {T post} (ops : List Oper) (h : (ops.all fun o => match o.dst with | some d => d != 2 && d != 3 | none => true) = true) : PanOk (rdPan T post) ops := by
  intro o ho d hd ch e v ds h' hp
  have := List.all_eq_true.1 h o ho
  rw [hd] at this
  simp at this
  obtain ⟨b2, b3, ag, er, a, h1, h2, h3, h4, h5, h6⟩ := hp
  unfold upd at h3 h4
  rw [if_neg (fun h => this.1 h.symm)] at h3
  rw [if_neg (fun h => this.2 h.symm)] at h4
  exact ⟨b2, b3, ag, er, a, h1, h2, h3, h4, h5, h6⟩
theorem RStm_oneC {M : Mem} {x : Stm} {cs : List Value} (h : RStm M x cs) : ∀ u ∈ cs, u.oneCell' = true := by
  obtain ⟨c, q, r, w, h1, ⟨p, o, g, q1, q2, q3, rfl⟩, h3, h4, rfl⟩ := h
  intro u hu
  simp only [List.cons_append, List.nil_append, List.mem_cons, List.mem_append, List.not_mem_nil, or_false] at hu
  rcases hu with rfl | rfl | rfl | rfl | rfl | rfl | rfl | rfl | rfl | hu
  · rfl
  · rfl
  · exact (RS_one h1).1
  · exact (RS_one q1).1
  · exact (RS_one q2).1
  · exact (RS_one q3).1
  · rfl
  · exact (RS_one h3).1
  · rfl
  · exact RX_oneC h4 u hu
def postRead (s : Bs) : PostP := fun r M' _ _ => ∃ sv, r = .tuple ⟨[sv, flt (readM s).2.1 (readM s).2.2]⟩ ∧ RS M' (RStm M') 16 (readM s).1 sv
theorem rd_fault {T N : Tm} {M : Mem} {s : Bs} {A B : LL} {R : RR} {b2 b3 : Nat} {v1 v2 v3 : Value} {er a : Int} {ag : Array Value} {e : Env} (hr : readM s = ([], er, a)) (hT : ExtT T N) (hag : ag.toList = []) (e2 : e 2 = .pointer (some ⟨b2, 0, none⟩)) (e3 : e 3 = .pointer (some ⟨b3, 0, none⟩)) :
    rdPan T (postRead s) (oopsV er a) e [rdD b2 b3 ag] ⟨N, M, A ++ (b3, [v2, v3]) :: (b2, [v1]) :: B, R⟩ := by
  refine ⟨b2, b3, ag, er, a, rfl, hag, e2, e3, rfl, Close_dropL A (Close_dropAllR (Close_perm (L' := B ++ [(b2, [v1]), (b3, [v2, v3])]) ?_ (Close_dropL B (Close_id ⟨hT, rfl, ⟨_, _, _, rfl⟩, ?_⟩))))⟩
  · refine List.Perm.trans (List.Perm.swap _ _ _) ?_
    exact List.perm_append_comm (l₁ := [(b2, [v1]), (b3, [v2, v3])])
  · refine ⟨.slice none 0 0, ?_, ?_⟩
    · rw [hr]
    · rw [hr]; exact RS_nil
theorem postRead_intro {s : Bs} {M : Mem} {L : LL} {R : RR} {l : List Stm} {er a : Int} {sv : Value} (hr : readM s = (l, er, a)) (hrs : RS M (RStm M) 16 l sv) : postRead s (.tuple ⟨[sv, .agg ⟨[.int .i64 er, .int .i64 a]⟩]⟩) M L R := ⟨sv, by rw [hr]; rfl, by rw [hr]; exact hrs⟩
theorem ct_Read {M : Mem} (s : Bs) (hg : Glob M) : Ct Tryz.prog 20 [st s] M [] [] (postRead s) noPan := by
  intro T
  refine ct_runR bod20 Tryz.func20 rfl (by rw [nt20]; exact Nat.le_of_ble_eq_true rfl) (dr := dr20) (by kernel_rfl) rs20 ?_
  rw [rs20]
  simp +contextual only [go_sem, Rcb, Rbk, sevalprocAttr, rdFi_ret, rdFi_dr]
  intro b2 T2 hb2 hT2 hTb2 b3 T3 hb3 hap3 hT3 hTb3
  have hT := hT2.trans hT3
  have htk : tokensM s = tokensM s := rfl
  refine rCall_pure (ct_tokens s T3) ?_ ?_
  rotate_left
  · rintro ch M1 hM1 hno1 ⟨er, a, herr, rfl⟩
    rw [rdFi_pan]
    refine rd_fault (A := []) (B := []) (by unfold readM; rw [herr]) hT rfl ?_ ?_
    · simp only [go_sem, Rcb, Rbk, sevalprocAttr]
    · simp only [go_sem, Rcb, Rbk, sevalprocAttr]
  rintro lv M1 hM1 hno1 ⟨ts, hts, hl⟩
  simp only [noneL, and_true] at hno1
  have hread : readM s = match stmtsM s.length 60 ts with
    | .err e a => ([], e, a)
    | .out => ([], 0, 0)
    | .ok l _ => if (wrongS l).1 ≠ 0 then ([], (wrongS l).1, 0) else (l, 0, 0) := by unfold readM; rw [hts] <;> rfl
  obtain ⟨lo1, lo2⟩ := RS_one hl
  have lo2m := lo2
  simp only [Value.cells] at lo2m
  simp +contextual only [go_sem, Rcb, Rbk, sevalprocAttr, rdFi_ret, rdFi_dr, hno1, hap3, lo1, lo2, lo2m]
  intro pb T4 hbp hapb hT4 hTbp
  generalize hen : (s.length : Int) = en at hread ⊢
  have hg1 := hg.ext hM1
  refine ⟨fun m e ds h => (∃ ag, ds = [rdD b2 b3 ag] ∧ ag.toList = []) ∧ e 2 = .pointer (some ⟨b2, 0, none⟩) ∧ e 3 = .pointer (some ⟨b3, 0, none⟩) ∧ e 4 = .pointer (some ⟨pb, 0, none⟩) ∧
    ∃ M' t lv' acc a c xs, m + acc.length = 60 ∧ Ext M1 M' ∧ M' b3 = none ∧ M' b2 = none ∧ M' pb = none ∧ RS M' RTk 3 t lv' ∧ RL (RStm M') acc xs ∧ (acc = [] → a = none ∧ c = 0) ∧
      stmtsM en 60 ts = (stmtsM en m t).bind (fun l t => .ok (acc ++ l) t) ∧
      h = ⟨T4, M', (b3, [.int .i64 0, .int .i64 0]) :: (b2, [.slice a acc.length c]) :: pL pb lv' en 0, [(.slice a acc.length c, 67, 16, xs)]⟩,
    Close_perm (List.perm_append_comm (l₁ := [(pb, [lv, .int .i64 en, .int .i64 0])]) (l₂ := [(b3, _), (b2, _)])) (Close_addNil (Close_id ⟨60, ⟨_, rfl, rfl⟩, ?_, ?_, ?_, M1, ts, lv, [], none, 0, [], rfl, Ext.rfl', hno1.1, hno1.2, hbp, hl, rfl, fun _ => ⟨rfl, rfl⟩, ?_, rfl⟩)), ?_⟩
  · simp only [go_sem, Rcb, Rbk, sevalprocAttr]
  · simp only [go_sem, Rcb, Rbk, sevalprocAttr]
  · simp only [go_sem, Rcb, Rbk, sevalprocAttr]
  · cases stmtsM en 60 ts <;> rfl
  clear hno1 hl lo1 lo2 hts htk hbp
  rintro m e ds h ⟨⟨ag, rfl, hag⟩, e2, e3, e4, M2, t, lv1, acc, a, c, xs, hm, hM2, n3, n2, np, hl, hxs, hnil, hres, rfl⟩
  have hT4' := hT.trans hT4
  have hx16 := RL_len (fun _ _ => RStm_len) hxs
  rcases toks_cases hl with ⟨rfl, ta, tc, rfl⟩ | ⟨tk, tr, tb, tof, tc, rfl, rfl, htc, h0, h1, h2⟩
  · rw [stmtsM_nil] at hres
    simp only [Rs.bind, List.append_nil] at hres
    rw [hres] at hread
    simp only at hread
    simp +contextual only [go_sem, Rcb, Rbk, sevalprocAttr, rdFi_ret, rdFi_dr, e2, e3, e4, n3, n2, np, hap3, hapb]
    refine rCall_close (k := fun h' => ∃ M', Ext M2 M' ∧ noneL M' ((b3, [.int .i64 0, .int .i64 0]) :: (b2, [.slice a acc.length c]) :: pL pb (.slice ta 0 tc) en 0) ∧ Sl M' (.slice a acc.length c) 16 xs ∧ h' = ⟨T4, M', (b3, [.int .i64 0, .int .i64 0]) :: (b2, [.slice a acc.length c]) :: pL pb (.slice ta 0 tc) en 0, []⟩)
      (Close_row fun M3 hM3 hno3 hsl => Close_id ⟨M3, hM3, hno3, hsl, rfl⟩) ?_ bod42
    rintro h' ⟨M3, hM3, hno3, hsl, rfl⟩
    have hrs : RS M3 (RStm M3) 16 acc (.slice a acc.length c) := ⟨by omega, xs, hsl, RL_mono (fun x cs h => RStm_ext hM3 _ _ h) hxs⟩
    refine rCall_pure (ct_Wrong (hg1.ext (hM2.trans hM3)) hrs T4) ?_ (fun _ _ _ _ h => h.elim)
    rintro v M4 hM4 hno4 rfl
    simp only [noneL, noneL_pL] at hno4
    simp +contextual only [go_sem, sevalprocAttr, rdFi_ret, rdFi_dr, e2, e3, e4, flt]
    intro b5 T5 hb5 hap5 hT5 hTb5
    rw [rCond_bool]
    by_cases hw : (wrongS acc).1 = 0
    · rw [if_neg (fun h => h hw)] at hread
      simp +contextual only [go_sem, Rcb, Rbk, sevalprocAttr, rdFi_ret, rdFi_dr, rdFi_pan, e2, e3, e4, hw, hno4, hb5, hap5, hap3, hapb]
      refine ⟨PanOk_rd _ rfl, draw_all ?_⟩
      simp +contextual only [go_sem, Rcb, Rbk, sevalprocAttr, rdFi_ret, rdFi_dr, rdFi_pan, e2, e3, e4, hw, hno4, hb5, hap5, hap3, hapb]
      refine ⟨Sub.refl _, b2, b3, ag, rfl, hag, ?_⟩
      simp +contextual only [go_sem, Rcb, Rbk, sevalprocAttr, rdFi_ret, rdFi_dr, rdFi_pan, e2, e3, e4, hw, hno4, hb5, hap5, hap3, hapb]
      exact end_none (hT4'.trans hT5) (postRead_intro hread (RS_ext hM4 (RStm_ext hM4) hrs))
    · rw [if_pos hw] at hread
      simp +contextual only [go_sem, Rcb, Rbk, sevalprocAttr, rdFi_ret, rdFi_dr, rdFi_pan, e2, e3, e4, hw, hno4, hb5, hap5, hap3, hapb]
      refine ⟨PanOk_rd _ rfl, draw_at ⟨T, fun _ => none, [(b5, _)], []⟩ (Sub_hd hb5) ?_⟩
      simp +contextual only [go_sem, Rcb, Rbk, sevalprocAttr, rdFi_ret, rdFi_dr, rdFi_pan, e2, e3, e4, hw, hno4, hb5, hap5, hap3, hapb]
      refine ⟨Sub_hd hb5, b2, b3, ag, rfl, hag, ?_⟩
      simp +contextual only [go_sem, Rcb, Rbk, sevalprocAttr, rdFi_ret, rdFi_dr, rdFi_pan, e2, e3, e4, hw, hno4, hb5, hap5, hap3, hapb]
      exact end_none (hT4'.trans hT5) (postRead_intro hread RS_nil)
  · rw [stmtsM_cons en m (tk :: tr) (by simp)] at hres
    have hfault : ∀ {er ar : Int}, stmtsM en 60 ts = .err er ar → readM s = ([], er, ar) := fun h => by rw [hread, h]
    cases m with
    | zero =>
      have hl60 : (acc.length : Int) = 60 := by omega
      have herr : stmtsM en 60 ts = .err 5 (atM en (tk :: tr)) := hres
      simp +contextual only [go_sem, Rcb, Rbk, sevalprocAttr, rdFi_ret, rdFi_dr, e2, e3, e4, n3, n2, np, hap3, hapb, hl60]
      refine at_p [(b3, _), (b2, _)] hl ?_
      simp +contextual only [go_sem, Rcb, Rbk, sevalprocAttr, rdFi_ret, rdFi_dr, e2, e3, e4]
      refine rCall_pure (ct_sql_fail 5 _ M2 T4) (fun _ _ _ _ h => h.elim) ?_
      rintro ch M3 hM3 hno3 rfl
      rw [rdFi_pan]
      refine rd_fault (A := []) (hfault herr) hT4' hag ?_ ?_
      · simp only [e2, go_sem, Rcb, Rbk, sevalprocAttr]
      · simp only [e3, go_sem, Rcb, Rbk, sevalprocAttr]
    | succ m =>
      have hl60 : ¬ (acc.length : Int) = 60 := by omega
      simp only [stmtsB, Rs.bind_assoc] at hres
      simp +contextual only [go_sem, Rcb, Rbk, sevalprocAttr, rdFi_ret, rdFi_dr, rdFi_pan, e2, e3, e4, n3, n2, np, hap3, hapb, hl60]
      refine ⟨PanOk_rd _ rfl, draw_at ⟨T, fun _ => none, [(b2, [.slice a acc.length c])], []⟩ ?_ ?_⟩
      · exact Sub_own [(b3, _)] n2 ⟨⟨hap3.2, hap3.1⟩, trivial⟩
      simp +contextual only [go_sem, Rcb, Rbk, sevalprocAttr, rdFi_ret, rdFi_dr, rdFi_pan, e2, e3, e4, n3, n2, np, hap3, hapb, hl60]
      have hg2 := hg1.ext hM2
      have hne := stmt_ne (en := en) (ex := exF en) (fun t => exF_ne t) (tk :: tr)
      have hex : ExC en pb (exF en) 0 := ct_expr (ct_binary 1000) (by decide) (by decide)
      refine part_p [(b3, _), (b2, _)] (ct_stmt hg2 hl hex hne T4) ?_ ?_
      rotate_left
      · rintro er ar M3 lv' op' hM3 hst
        refine rd_fault (A := []) (hfault (by rw [hres, hst]; rfl)) hT4' hag ?_ ?_
        · simp only [e2, go_sem, Rcb, Rbk, sevalprocAttr]
        · simp only [e3, go_sem, Rcb, Rbk, sevalprocAttr]
      rintro v M3 x t2 lv2 hM3 hno3 hst hl2 ⟨cs, rfl, hx⟩
      rw [hst] at hres
      simp only [Rs.bind] at hres
      have hcl := RStm_len hx
      simp only [List.cons_append, List.nil_append, noneL, noneL_pL] at hno3
      simp +contextual only [go_sem, Rcb, Rbk, sevalprocAttr, rdFi_ret, rdFi_dr, rdFi_pan, e2, e3, e4, hno3, hap3, hapb, hcl]
      refine ⟨Sub_own [(b3, _)] hno3.2.1 ⟨⟨hap3.2, hap3.1⟩, trivial⟩, ?_⟩
      intro b8 hb8 hap8
      refine ⟨Sub_own [(b8, _), (b3, _)] hno3.2.1 ⟨⟨hap8.2.1.2, hap8.2.1.1⟩, ⟨hap3.2, hap3.1⟩, trivial⟩, ?_⟩
      refine app_row row68 okt68 (.slice _ 1 _ _ _ Tryz.underlying68 (cells_own [] hb8 trivial (by rw [hcl])) (RStm_oneC hx)) (by rw [hcl, hx16]; omega) ?_
      intro ra rm rc hrm
      have hrm1 : rm = (acc ++ [x]).length := by
        rw [hcl, hx16] at hrm
        rw [List.length_append]
        simp only [List.length_cons, List.length_nil]
        omega
      subst hrm1
      have hacc2 := RL_append (RL_mono (fun x cs h => RStm_ext hM3 _ _ h) hxs) (RL_one hx)
      simp +contextual only [go_sem, Rcb, Rbk, sevalprocAttr, rdFi_ret, rdFi_dr, rdFi_pan, e2, e3, e4, hno3, hap3, hapb, hb8, hap8]
      intro b9 hb9 hap9
      refine rCall_frz bod51 fun M4 hM4 hb9' hno4 => ?_
      have hl4 := RS_ext hM4 (fun _ _ h => h) hl2
      have hsm : RS M4 RSt 1 [sSemi] (.slice (some ⟨b9, 0, none⟩) 1 1) := RS_lit (fun _ _ => RSt_len) hb9' (RL_strs [sSemi]) rfl (by decide)
      refine part_p [(b8, _), (b3, _), (b2, _)] (ct_p_need hl4 hsm T4) ?_ ?_
      rotate_left
      · rintro er ar M5 lv' op' hM5 hnd
        refine rd_fault (A := [(b8, _)]) (hfault (by rw [hres, hnd]; try rfl)) (hT4') hag ?_ ?_
        · simp only [e2, go_sem, Rcb, Rbk, sevalprocAttr]
        · simp only [e3, go_sem, Rcb, Rbk, sevalprocAttr]
      rintro v M5 u5 t5 lv5 hM5 hno5 hnd hl5 rfl
      rw [hnd] at hres
      simp only [Rs.bind] at hres
      simp only [List.cons_append, List.nil_append, noneL, noneL_pL] at hno5
      simp +contextual only [go_sem, Rcb, Rbk, sevalprocAttr, rdFi_ret, rdFi_dr, rdFi_pan, e2, e3, e4]
      rw [Run_lp]
      refine Close_drop (Close_id ⟨m, by omega, ⟨ag, rfl, hag⟩, ?_, ?_, ?_, M5, t5, lv5, acc ++ [x], ra, rc, xs ++ cs, ?_, ((hM2.trans hM3).trans hM4).trans hM5, hno5.2.1, hno5.2.2.1, hno5.2.2.2, hl5, ?_, ?_, ?_, rfl⟩)
      · simp only [e2, go_sem, Rcb, Rbk, sevalprocAttr]
      · simp only [e3, go_sem, Rcb, Rbk, sevalprocAttr]
      · simp only [e4, go_sem, Rcb, Rbk, sevalprocAttr]
      · rw [List.length_append]; simp only [List.length_cons, List.length_nil]; omega
      · exact RL_mono (fun x cs h => RStm_ext (hM4.trans hM5) _ _ h) hacc2
      · intro h; simp at h
      · rw [hres]
        cases stmtsM en m t5 <;> simp [Rs.bind]
open Go.ChangeMaps
open Go.ChangeShapes Go.WideShapes Go.ChangeAt Go.RowKit
set_option maxRecDepth 100000
theorem gSpace : Tryz.prog.globalNamed "strings.asciiSpace" = some 2 := by kernel_rfl
theorem gSpaceType : (Tryz.prog.globals[2]?).map (·.type) = some 371 := by kernel_rfl
theorem table {W : World} {l : List (String × DataW Unit)} (hl : (l.filter fun x => x.1 == "strings.asciiSpace") = [("strings.asciiSpace", Lib.tabData .u8 Lib.asciiSpaceTab)]) (h : laidMetH Tryz.prog l W) : Lib.TabIs Tryz.prog W "strings.asciiSpace" .u8 Lib.asciiSpaceTab := by
  have h1 := laidMetH.filter (fun x => x.1 == "strings.asciiSpace") h
  rw [hl] at h1
  have h1 : laidMet Tryz.prog [("strings.asciiSpace", Lib.tabData .u8 Lib.asciiSpaceTab)] W := h1
  exact Lib.tabIs_of_head (rest := []) gSpace gSpaceType Tryz.underlying371 (by kernel_rfl) (by kernel_rfl) (by kernel_rfl) h1
theorem memOf_tab {W : World} {name : String} {k : IntKind} {zs : List Int} {g : Nat} (hg : Tryz.prog.globalNamed name = some g) (h : Lib.TabIs Tryz.prog W name k zs) : memOf W g = some (zs.map fun z => Value.int k z) := by
  unfold Lib.TabIs World.var? at h
  rw [hg] at h
  simp only [Option.bind_some] at h
  split at h
  · rename_i cs t f hc
    injection h with h
    rw [memOf_some hc, h]
  · cases h
theorem glob_of {W : World} {l : List (String × DataW Unit)} (h1 : (l.filter fun x => x.1 == "strings.asciiSpace") = [("strings.asciiSpace", Lib.tabData .u8 Lib.asciiSpaceTab)]) (hL : laidMetH Tryz.prog l W) : Glob (memOf W) := by
  intro g hg
  obtain rfl := Option.some.inj (gSpace.symm.trans hg)
  exact memOf_tab gSpace (table h1 hL)
set_option maxRecDepth 10000
theorem ct_rel12 {M : Mem} {name : Bs} {names : List Bs} {nv : Value} (hs : RS M RSt 1 names nv) (hl : names.length ≤ 1000) (T : Tm) :
    CtT Tryz.prog 39 [st name, nv] T M [] [] (fun r M' _ _ => ∃ cs, r = .agg ⟨cs⟩ ∧ RRel M' ⟨name, names.map (fun n => ⟨n, 3⟩), false, zeroP⟩ cs) noPan := by
  obtain ⟨hbk, a, c, rfl, hle, _, hg⟩ := RS_elim (by decide) (fun _ _ => RSt_len) hs
  refine ct_run mx bod39 Tryz.func39 rfl (by rw [nt39]; exact Nat.le_of_ble_eq_true rfl) (dr := dr39) (by kernel_rfl) rs39 ?_
  intro hno _
  simp +contextual only [go_sem, Rcb, Rbk, sevalprocAttr]
  intro b4 T4 hb4 hT4 hTb4 b5 T5 hb5 hap5 hT5 hTb5
  have hT := hT4.trans hT5
  refine loop_range names.length 12 [(4, .pointer (some ⟨b4, 0, none⟩)), (5, .pointer (some ⟨b5, 0, none⟩)), (10, .slice a names.length c), (11, .int .i64 (names.length : Int))]
    (fun i e h => ∃ N' M' R' fv, ExtT T5 N' ∧ Ext M M' ∧ M' b5 = none ∧ M' b4 = none ∧ fv.oneCell' = true ∧ h = ⟨N', M', [(b5, [st name, fv, .bool false] ++ z11), (b4, [st [], .slice none 0 0, .bool false] ++ z11)], R'⟩ ∧ Acc 48 2 RCo [] R' fv ((names.take i).map fun n => ⟨n, 3⟩)) 0 (by omega) (by simp only [live, go_sem, Rcb, Rbk, sevalprocAttr]) (by simp only [go_sem, Rcb, Rbk, sevalprocAttr]) ?_ ?_
  · exact ⟨T5, M, [], _, ExtT.rfl', Ext.rfl', hb5, hb4, rfl, rfl, Acc_nil⟩
  rintro i e h hi hlv ht ⟨N1, M1, R1, fv, hN1, hM1, hn5, hn4, hfo, rfl, hacc⟩
  simp only [live] at hlv
  have hp5 : ¬ b5 = b4 ∧ ¬ b4 = b5 := hap5
  by_cases hlt : i < names.length
  · obtain ⟨b', o', cs', rfl, hat, hrx⟩ := hg i names[i] (List.getElem?_eq_getElem hlt)
    unfold RSt at hrx; subst hrx
    have x0 := At1 (hat.ext hM1)
    rw [Nat.mul_one] at x0
    have hl2 : ((names.take i).map fun n => (⟨n, 3⟩ : Co)).length = i := by simp; omega
    have hsucc : (names.take (i + 1)).map (fun n => (⟨n, 3⟩ : Co)) = (names.take i).map (fun n => ⟨n, 3⟩) ++ [⟨names[i], 3⟩] := by
      rw [← List.take_append_getElem hlt, List.map_append]; rfl
    simp +contextual only [go_sem, Rcb, Rbk, sevalprocAttr, hlv, ht, hlt, x0, hp5, hn5, hn4]
    intro bk hbk1 hapk
    refine app_acc (Tryz.underlying43) row43 okt43 (x := (⟨names[i], 3⟩ : Co)) hacc rfl (fun _ _ => RCo_len) (by intro u hu; simp only [List.mem_cons, List.not_mem_nil, or_false] at hu; rcases hu with rfl | rfl <;> rfl) hbk1 (by rw [hl2]; omega) (by decide) ?_
    intro fv' R' hacc'
    obtain ⟨hfo', hfc'⟩ := Acc_one hacc'
    simp only [Value.cells] at hfc'
    simp +contextual only [go_sem, Rcb, Rbk, sevalprocAttr, hlv, ht, hlt, hp5, hapk, hfo', hfc']
    refine lp_close (Close_drop (Close_id ?_))
    refine ⟨names.length - (i + 1), by omega, rfl, i + 1, by omega, rfl, ?_, ?_, N1, M1, R', fv', hN1, hM1, hn5, hn4, hfo', rfl, by rw [hsucc]; exact hacc'⟩
    · simp only [live, hlv, go_sem, Rcb, Rbk, sevalprocAttr]
    · simp only [ht, go_sem, Rcb, Rbk, sevalprocAttr, wrap_succ i (by omega)]
  · have : i = names.length := by omega
    subst this
    rw [List.take_length] at hacc
    simp +contextual only [go_sem, Rcb, Rbk, sevalprocAttr, hlv, ht, hlt, hp5, hn5, hn4, hfo]
    refine Close_drop (Close_drop (Close_acc hacc (by simp; omega) (by decide) trivial fun M2 hM2 hno2 hrs => end_none (hT.trans hN1) ⟨_, rfl, fv, z11, hrs, RPl_zero, rfl⟩))
theorem ct_ask12 {M : Mem} {t : Bs} {x : Stm} {a : Int} (hr : readM (115 :: 104 :: 111 :: 119 :: 32 :: (t ++ [32, 59])) = ([x], 0, a)) (hl : t.length ≤ 1000) (hg : Glob M) (T : Tm) :
    CtT Tryz.prog 38 [st t] T M [] [] (fun r M' _ _ => ∃ cs, r = .tuple ⟨[.agg ⟨cs⟩, .bool true]⟩ ∧ RQ M' x.q cs) noPan := by
  have e1 : 5 + t.length ≤ 9223372036854775807 := by omega
  have e2 : 5 + t.length ≤ 9223372036854775805 := by omega
  refine ct_run mx bod38 Tryz.func38 rfl (by rw [nt38]; exact Nat.le_of_ble_eq_true rfl) (dr := dr38) (by kernel_rfl) rs38 ?_
  intro hno _
  simp +contextual only [go_sem, Rcb, Rbk, sevalprocAttr, e1]
  intro b2 T2 hb2 hT2 hTb2
  simp +contextual only [go_sem, Rcb, Rbk, sevalprocAttr, e1, e2, bs_append]
  refine rCall_pure (ct_Read _ hg T2) ?_ (fun _ _ _ _ h => h.elim)
  rintro v M1 hM1 hno1 ⟨sv, rfl, hs⟩
  rw [hr] at hs
  have hs : RS M1 (RStm M1) 16 [x] sv := hs
  obtain ⟨_, sa, sc, rfl, hsc, _⟩ := RS_elim (by decide) (fun _ _ => RStm_len) hs
  obtain ⟨b, o, cs, rfl, hat, hs1⟩ := RS_get (i := 0) (x := x) (by decide) (fun _ _ => RStm_len) hs rfl
  obtain ⟨ac, ad, ap, aq, ao, an, ar, ae, au, av, aw, rfl, ho1, xq, _⟩ := RStm_form hs1
  obtain ⟨y0, y1, y2, y3, y4, y5, y6, y7, y8, y9, y10, y11, y12, y13, y14, y15⟩ := At16 hat
  simp only [Nat.zero_mul, Nat.add_zero, List.length_cons, List.length_nil, Nat.zero_add] at y3 y4 y5 y6
  simp only [noneL, and_true] at hno1
  rw [hr]
  simp +contextual only [go_sem, Rcb, Rbk, sevalprocAttr, flt, y3, y4, y5, y6, hno1, mcell_none hno1]
  intro b5 T5 hb5 hap5 hT5 hTb5
  exact end_none (hT2.trans hT5) ⟨_, rfl, xq⟩
def ask12B : Bs := [115, 101, 108, 101, 99, 116, 32, 98, 32, 44, 32, 99, 111, 117, 110, 116, 32, 40, 32, 42, 32, 41, 32, 97, 115, 32, 110, 32, 102, 114, 111, 109, 32, 116, 32, 103, 114, 111, 117, 112, 32, 98, 121, 32, 98]
def askR : List Rel := [⟨[116], [⟨[97], 3⟩, ⟨[98], 3⟩], false, zeroP⟩]
def alive12T (r : List Stm × Int × Int) : Bool := r.2.1 == 0 && (match r.1 with
  | [s] => queryW s.q == 0 && (match boundM askR s.q with
    | .ok w => w.1.k == 3 && (match w.2 with
      | [c, d] => c.name == [98] && d.name == [110]
      | _ => false) && (match w.1.kids with
        | k :: _ => k.k == 12
        | [] => false)
    | .error _ => false)
  | _ => false)
theorem alive12_ok : alive12T (readM (115 :: 104 :: 111 :: 119 :: 32 :: (ask12B ++ [32, 59]))) = true := by kernel_rfl
theorem alive12_form : ∃ x a w c d k l, readM (115 :: 104 :: 111 :: 119 :: 32 :: (ask12B ++ [32, 59])) = ([x], 0, a) ∧ queryW x.q = 0 ∧ boundM askR x.q = .ok w ∧ w.1.k = 3 ∧ w.2 = [c, d] ∧ c.name = [98] ∧ d.name = [110] ∧ w.1.kids = k :: l ∧ k.k = 12 := by
  have h := alive12_ok
  generalize readM (115 :: 104 :: 111 :: 119 :: 32 :: (ask12B ++ [32, 59])) = R at h
  obtain ⟨l, e, a⟩ := R
  simp only [alive12T, Bool.and_eq_true, beq_iff_eq] at h
  obtain ⟨rfl, h⟩ := h
  match l, h with
  | [x], h =>
    simp only [Bool.and_eq_true, beq_iff_eq] at h
    obtain ⟨h1, h⟩ := h
    cases hb : boundM askR x.q with
    | error e => rw [hb] at h; simp at h
    | ok w =>
      rw [hb] at h
      simp only [Bool.and_eq_true, beq_iff_eq] at h
      obtain ⟨⟨h2, h3⟩, h4⟩ := h
      obtain ⟨p, cl⟩ := w
      match cl, h3 with
      | [c, d], h3 =>
        simp only [Bool.and_eq_true, beq_iff_eq] at h3
        cases hk : p.kids with
        | nil => simp only [hk] at h4; cases h4
        | cons k ks =>
          simp only [hk, beq_iff_eq] at h4
          exact ⟨x, a, _, c, d, k, ks, rfl, h1, hb, h2, rfl, h3.1, h3.2, hk, h4⟩
theorem right_ask : rightP askR := by
  refine ⟨?_, by decide⟩
  intro r hr
  simp only [askR, List.mem_singleton] at hr
  subst hr
  refine ⟨?_, by simp⟩
  intro c hc
  simp only [List.mem_cons, List.not_mem_nil, or_false] at hc
  rcases hc with rfl | rfl <;> decide
theorem ct_ask_q {M : Mem} {rv : Value} {q : Q} {cs : List Value} {w : Pl × List Co} (hr : RS M (RRel M) 14 askR rv) (hq : RQ M q cs) (hqw : queryW q = 0) (hb : boundM askR q = .ok w) (T : Tm) :
    CtT Tryz.prog 10 [rv, .agg ⟨cs⟩] T M [] [] (fun r M' _ _ => ∃ cs cv, r = .tuple ⟨[.agg ⟨cs⟩, cv, .int .i64 0]⟩ ∧ RPl M' w.1 cs ∧ RS M' RCo 2 w.2 cv) noPan := by
  obtain ⟨hoq, hp0, hp4, hordq, hsel⟩ := queryW_ok hqw
  refine (ct_bQuery hr hq (by decide) (by intro r hr; simp only [askR, List.mem_singleton] at hr; subst hr; decide) (fun s hs => (hsel s hs).1) hoq.len (by omega) (fun hl => ⟨by have := (hordq hl).1; omega, (hordq hl).2⟩) (queryB_ne hoq) (wid_B right_ask hqw) T).mono ?_ (fun _ _ _ _ _ _ _ h => h)
  intro v M' L' R' _ _ _ h
  unfold postQB at h
  rw [hb] at h
  exact h
set_option maxHeartbeats 1000000 in
theorem ct_alive12 {M : Mem} (hG : Glob M) (T : Tm) : CtT Tryz.prog 16 [] T M [] [] (fun r _ _ _ => r = .bool true) noPan := by
  obtain ⟨x, a, w, c, d, k, l, hr, hqw, hbm, hk, hcd, hc, hd, hkids, hkk⟩ := alive12_form
  refine ct_run mx bod16 Tryz.func16 rfl (by rw [nt16]; exact Nat.le_of_ble_eq_true rfl) (dr := dr16) (by kernel_rfl) rs16 ?_
  intro hno _
  simp +contextual only [go_sem, Rcb, Rbk, sevalprocAttr]
  refine rCall_pure (ct_ask12 hr (by decide) hG T) ?_ (fun _ _ _ _ h => h.elim)
  rintro v M1 hM1 hno1 ⟨cs, rfl, hq⟩
  obtain ⟨pv, ov, dv, rfl, o1, o2, o3⟩ := RQ_form hq
  simp +contextual only [go_sem, Rcb, Rbk, sevalprocAttr, o1, o2, o3]
  intro b1 T1 hb1 hT1 hTb1
  refine draw_cut (fun e ds h => ds = [] ∧ e 2 = .bool true ∧ e 5 = .int .i64 0 ∧ ∃ b9 va vc cs, e 3 = .pointer (some ⟨b9, 0, none⟩) ∧ e 4 = .slice va 2 vc ∧ ∃ N' M', ExtT T1 N' ∧ h = ⟨N', M', [(b9, cs), (b1, [pv, ov, dv, .int .i64 x.q.limit])], []⟩ ∧ M' b9 = none ∧ M' b1 = none ∧ ¬ b9 = b1 ∧ ¬ b1 = b9 ∧ RPl M' w.1 cs ∧ RS M' RCo 2 [c, d] (.slice va 2 vc)) (fun S' hS' => ?_) ?_
  · refine draw_at ⟨T1, fun _ => none, [(b1, _)], []⟩ (Sub_hd hb1) ?_
    simp +contextual only [go_sem, Rcb, Rbk, sevalprocAttr, o1, o2, o3, mcell_none hb1, hb1]
    have nM1 := hb1
    refine ⟨?_, ?_⟩
    · intro b2 hb2 hap2
      have pb21 := hap2
      refine ⟨Sub_own [(b2, _)] nM1 ⟨⟨pb21.2, pb21.1⟩, trivial⟩, ?_⟩
      refine ⟨?_, ?_⟩
      · refine rCall_frzM [] bod39 fun M2 hM2 hb2m hno2 => ?_
        refine rCall_pure (ct_rel12 (name := [116]) (names := [[97], [98]]) (RS_lit (fun _ _ => RSt_len) hb2m ⟨[st [97]], [st [98]], rfl, rfl, [st [98]], [], rfl, rfl, rfl⟩ rfl (by decide)) (by decide) T1) ?_ (fun _ _ _ _ h => h.elim)
        rintro r M3 hM3 hno3 ⟨cs1, rfl, hrel⟩
        obtain ⟨ca, cn, s1, a1, n1, a2, n2, a3, n3, rfl, hs1, _, _⟩ := RRel_form hrel
        simp only [List.nil_append, List.cons_append, noneL, and_true] at hno3
        have nM3 := hno3
        simp +contextual only [go_sem, Rcb, Rbk, sevalprocAttr, hs1]
        refine ⟨Sub_own [] nM3 trivial, ?_⟩
        refine ⟨?_, ?_⟩
        · intro b3 hb3 hap3
          have pb31 := hap3
          refine ⟨Sub_own [(b3, _)] nM3 ⟨⟨pb31.2, pb31.1⟩, trivial⟩, ?_⟩
          refine ⟨?_, ?_⟩
          · refine rCall_frzM [] bod10 fun M4 hM4 hb3m hno4 => ?_
            have h14 := (hM2.trans hM3).trans hM4
            refine rCall_pure (ct_ask_q (RS_lit (fun _ _ => RRel_len) hb3m (RL_one (RRel_ext hM4 _ _ hrel)) rfl (by decide)) (RQ_ext2 h14 hq) hqw hbm T1) ?_ (fun _ _ _ _ h => h.elim)
            rintro r M5 hM5 hno5 ⟨cs2, cv, rfl, hpl, hcv⟩
            obtain ⟨c0, c1, c2, c3, c4, c5, c6, c7, c8, c9, c10, rfl, hc⟩ := RPl_cells hpl
            rw [hcd] at hcv
            obtain ⟨_, va, vc, rfl, _⟩ := RS_elim (by decide) (fun _ _ => RCo_len) hcv
            simp only [List.nil_append, List.cons_append, noneL, and_true] at hno5
            have nM5 := hno5
            simp +contextual only [go_sem, Rcb, Rbk, sevalprocAttr, hc]
            refine ⟨Sub_own [] nM5 trivial, ?_⟩
            intro b9 T9 hb9 hap9 hT9 hTb9
            have pb91 := hap9
            have qM5 := hb9
            refine ⟨Sub_own [(b9, _)] nM5 ⟨⟨pb91.2, pb91.1⟩, trivial⟩, ?_⟩
            try simp +contextual only [go_sem, Rcb, Rbk, sevalprocAttr, hc, nM5, qM5, pb91, mcell_none qM5]
            repeat refine ⟨Sub_own [(b9, _)] nM5 ⟨⟨pb91.2, pb91.1⟩, trivial⟩, ?_⟩
            refine hS' _ _ _ ⟨rfl, by simp only [go_sem, Rcb, Rbk, sevalprocAttr], by simp only [go_sem, Rcb, Rbk, sevalprocAttr], b9, va, vc, _, by simp only [go_sem, Rcb, Rbk, sevalprocAttr], by simp only [go_sem, Rcb, Rbk, sevalprocAttr], _, _, hT9, rfl, qM5, nM5, pb91.1, pb91.2, hpl, hcv⟩
          · intro b9 T9 hb9 hap9 hT9 hTb9
            have pb91 := hap9.2
            have qM3 := hb9
            refine ⟨Sub_own [(b9, _), (b3, _)] nM3 ⟨⟨pb91.2, pb91.1⟩, ⟨⟨pb31.2, pb31.1⟩, trivial⟩⟩, ?_⟩
            refine rCall_frzM [(b9, _)] bod10 fun M4 hM4 hb3m hno4 => ?_
            have h14 := (hM2.trans hM3).trans hM4
            refine rCall_pure (ct_ask_q (RS_lit (fun _ _ => RRel_len) hb3m (RL_one (RRel_ext hM4 _ _ hrel)) rfl (by decide)) (RQ_ext2 h14 hq) hqw hbm T9) ?_ (fun _ _ _ _ h => h.elim)
            rintro r M5 hM5 hno5 ⟨cs2, cv, rfl, hpl, hcv⟩
            obtain ⟨c0, c1, c2, c3, c4, c5, c6, c7, c8, c9, c10, rfl, hc⟩ := RPl_cells hpl
            rw [hcd] at hcv
            obtain ⟨_, va, vc, rfl, _⟩ := RS_elim (by decide) (fun _ _ => RCo_len) hcv
            simp only [List.nil_append, List.cons_append, noneL, and_true] at hno5
            have nM5 := hno5.2
            have qM5 := hno5.1
            try simp +contextual only [go_sem, Rcb, Rbk, sevalprocAttr, hc, nM5, qM5, pb91, mcell_none qM5]
            repeat refine ⟨Sub_own [(b9, _)] nM5 ⟨⟨pb91.2, pb91.1⟩, trivial⟩, ?_⟩
            refine hS' _ _ _ ⟨rfl, by simp only [go_sem, Rcb, Rbk, sevalprocAttr], by simp only [go_sem, Rcb, Rbk, sevalprocAttr], b9, va, vc, _, by simp only [go_sem, Rcb, Rbk, sevalprocAttr], by simp only [go_sem, Rcb, Rbk, sevalprocAttr], _, _, hT9, rfl, qM5, nM5, pb91.1, pb91.2, hpl, hcv⟩
        · intro b9 T9 hb9 hap9 hT9 hTb9
          have pb91 := hap9
          have qM3 := hb9
          refine ⟨Sub_own [(b9, _)] nM3 ⟨⟨pb91.2, pb91.1⟩, trivial⟩, ?_⟩
          intro b3 hb3 hap3
          have pb31 := hap3.2
          refine ⟨Sub_own [(b3, _), (b9, _)] nM3 ⟨⟨pb31.2, pb31.1⟩, ⟨⟨pb91.2, pb91.1⟩, trivial⟩⟩, ?_⟩
          refine rCall_frzM [] bod10 fun M4 hM4 hb3m hno4 => ?_
          have h14 := (hM2.trans hM3).trans hM4
          refine rCall_pure (ct_ask_q (RS_lit (fun _ _ => RRel_len) hb3m (RL_one (RRel_ext hM4 _ _ hrel)) rfl (by decide)) (RQ_ext2 h14 hq) hqw hbm T9) ?_ (fun _ _ _ _ h => h.elim)
          rintro r M5 hM5 hno5 ⟨cs2, cv, rfl, hpl, hcv⟩
          obtain ⟨c0, c1, c2, c3, c4, c5, c6, c7, c8, c9, c10, rfl, hc⟩ := RPl_cells hpl
          rw [hcd] at hcv
          obtain ⟨_, va, vc, rfl, _⟩ := RS_elim (by decide) (fun _ _ => RCo_len) hcv
          simp only [List.nil_append, List.cons_append, noneL, and_true] at hno5
          have nM5 := hno5.2
          have qM5 := hno5.1
          try simp +contextual only [go_sem, Rcb, Rbk, sevalprocAttr, hc, nM5, qM5, pb91, mcell_none qM5]
          repeat refine ⟨Sub_own [(b9, _)] nM5 ⟨⟨pb91.2, pb91.1⟩, trivial⟩, ?_⟩
          refine hS' _ _ _ ⟨rfl, by simp only [go_sem, Rcb, Rbk, sevalprocAttr], by simp only [go_sem, Rcb, Rbk, sevalprocAttr], b9, va, vc, _, by simp only [go_sem, Rcb, Rbk, sevalprocAttr], by simp only [go_sem, Rcb, Rbk, sevalprocAttr], _, _, hT9, rfl, qM5, nM5, pb91.1, pb91.2, hpl, hcv⟩
      · intro b9 T9 hb9 hap9 hT9 hTb9
        have pb91 := hap9.2
        have qM1 := hb9
        refine ⟨Sub_own [(b9, _), (b2, _)] nM1 ⟨⟨pb91.2, pb91.1⟩, ⟨⟨pb21.2, pb21.1⟩, trivial⟩⟩, ?_⟩
        refine rCall_frzM [(b9, _)] bod39 fun M2 hM2 hb2m hno2 => ?_
        refine rCall_pure (ct_rel12 (name := [116]) (names := [[97], [98]]) (RS_lit (fun _ _ => RSt_len) hb2m ⟨[st [97]], [st [98]], rfl, rfl, [st [98]], [], rfl, rfl, rfl⟩ rfl (by decide)) (by decide) T9) ?_ (fun _ _ _ _ h => h.elim)
        rintro r M3 hM3 hno3 ⟨cs1, rfl, hrel⟩
        obtain ⟨ca, cn, s1, a1, n1, a2, n2, a3, n3, rfl, hs1, _, _⟩ := RRel_form hrel
        simp only [List.nil_append, List.cons_append, noneL, and_true] at hno3
        have nM3 := hno3.2
        have qM3 := hno3.1
        simp +contextual only [go_sem, Rcb, Rbk, sevalprocAttr, hs1]
        refine ⟨Sub_own [(b9, _)] nM3 ⟨⟨pb91.2, pb91.1⟩, trivial⟩, ?_⟩
        intro b3 hb3 hap3
        have pb31 := hap3.2
        refine ⟨Sub_own [(b3, _), (b9, _)] nM3 ⟨⟨pb31.2, pb31.1⟩, ⟨⟨pb91.2, pb91.1⟩, trivial⟩⟩, ?_⟩
        refine rCall_frzM [] bod10 fun M4 hM4 hb3m hno4 => ?_
        have h14 := (hM2.trans hM3).trans hM4
        refine rCall_pure (ct_ask_q (RS_lit (fun _ _ => RRel_len) hb3m (RL_one (RRel_ext hM4 _ _ hrel)) rfl (by decide)) (RQ_ext2 h14 hq) hqw hbm T9) ?_ (fun _ _ _ _ h => h.elim)
        rintro r M5 hM5 hno5 ⟨cs2, cv, rfl, hpl, hcv⟩
        obtain ⟨c0, c1, c2, c3, c4, c5, c6, c7, c8, c9, c10, rfl, hc⟩ := RPl_cells hpl
        rw [hcd] at hcv
        obtain ⟨_, va, vc, rfl, _⟩ := RS_elim (by decide) (fun _ _ => RCo_len) hcv
        simp only [List.nil_append, List.cons_append, noneL, and_true] at hno5
        have nM5 := hno5.2
        have qM5 := hno5.1
        try simp +contextual only [go_sem, Rcb, Rbk, sevalprocAttr, hc, nM5, qM5, pb91, mcell_none qM5]
        repeat refine ⟨Sub_own [(b9, _)] nM5 ⟨⟨pb91.2, pb91.1⟩, trivial⟩, ?_⟩
        refine hS' _ _ _ ⟨rfl, by simp only [go_sem, Rcb, Rbk, sevalprocAttr], by simp only [go_sem, Rcb, Rbk, sevalprocAttr], b9, va, vc, _, by simp only [go_sem, Rcb, Rbk, sevalprocAttr], by simp only [go_sem, Rcb, Rbk, sevalprocAttr], _, _, hT9, rfl, qM5, nM5, pb91.1, pb91.2, hpl, hcv⟩
    · intro b9 T9 hb9 hap9 hT9 hTb9
      have pb91 := hap9
      have qM1 := hb9
      refine ⟨Sub_own [(b9, _)] nM1 ⟨⟨pb91.2, pb91.1⟩, trivial⟩, ?_⟩
      intro b2 hb2 hap2
      have pb21 := hap2.2
      refine ⟨Sub_own [(b2, _), (b9, _)] nM1 ⟨⟨pb21.2, pb21.1⟩, ⟨⟨pb91.2, pb91.1⟩, trivial⟩⟩, ?_⟩
      refine rCall_frzM [] bod39 fun M2 hM2 hb2m hno2 => ?_
      refine rCall_pure (ct_rel12 (name := [116]) (names := [[97], [98]]) (RS_lit (fun _ _ => RSt_len) hb2m ⟨[st [97]], [st [98]], rfl, rfl, [st [98]], [], rfl, rfl, rfl⟩ rfl (by decide)) (by decide) T9) ?_ (fun _ _ _ _ h => h.elim)
      rintro r M3 hM3 hno3 ⟨cs1, rfl, hrel⟩
      obtain ⟨ca, cn, s1, a1, n1, a2, n2, a3, n3, rfl, hs1, _, _⟩ := RRel_form hrel
      simp only [List.nil_append, List.cons_append, noneL, and_true] at hno3
      have nM3 := hno3.2
      have qM3 := hno3.1
      simp +contextual only [go_sem, Rcb, Rbk, sevalprocAttr, hs1]
      refine ⟨Sub_own [(b9, _)] nM3 ⟨⟨pb91.2, pb91.1⟩, trivial⟩, ?_⟩
      intro b3 hb3 hap3
      have pb31 := hap3.2
      refine ⟨Sub_own [(b3, _), (b9, _)] nM3 ⟨⟨pb31.2, pb31.1⟩, ⟨⟨pb91.2, pb91.1⟩, trivial⟩⟩, ?_⟩
      refine rCall_frzM [] bod10 fun M4 hM4 hb3m hno4 => ?_
      have h14 := (hM2.trans hM3).trans hM4
      refine rCall_pure (ct_ask_q (RS_lit (fun _ _ => RRel_len) hb3m (RL_one (RRel_ext hM4 _ _ hrel)) rfl (by decide)) (RQ_ext2 h14 hq) hqw hbm T9) ?_ (fun _ _ _ _ h => h.elim)
      rintro r M5 hM5 hno5 ⟨cs2, cv, rfl, hpl, hcv⟩
      obtain ⟨c0, c1, c2, c3, c4, c5, c6, c7, c8, c9, c10, rfl, hc⟩ := RPl_cells hpl
      rw [hcd] at hcv
      obtain ⟨_, va, vc, rfl, _⟩ := RS_elim (by decide) (fun _ _ => RCo_len) hcv
      simp only [List.nil_append, List.cons_append, noneL, and_true] at hno5
      have nM5 := hno5.2
      have qM5 := hno5.1
      try simp +contextual only [go_sem, Rcb, Rbk, sevalprocAttr, hc, nM5, qM5, pb91, mcell_none qM5]
      repeat refine ⟨Sub_own [(b9, _)] nM5 ⟨⟨pb91.2, pb91.1⟩, trivial⟩, ?_⟩
      refine hS' _ _ _ ⟨rfl, by simp only [go_sem, Rcb, Rbk, sevalprocAttr], by simp only [go_sem, Rcb, Rbk, sevalprocAttr], b9, va, vc, _, by simp only [go_sem, Rcb, Rbk, sevalprocAttr], by simp only [go_sem, Rcb, Rbk, sevalprocAttr], _, _, hT9, rfl, qM5, nM5, pb91.1, pb91.2, hpl, hcv⟩
  rintro e ds h ⟨rfl, e2, e5, b9, va, vc, cs9, e3, e4, N9, M9, hT9, rfl, q9, n9, p1, p2, hpl, hcv⟩
  obtain ⟨s1, a1, n1, a2, n2, a3, n3, hcs, hs1, _, _, _, hkd⟩ := RPl_form hpl
  subst hcs
  rw [hkids] at hkd
  obtain ⟨bk, ok, csk, rfl, hatk, hrk⟩ := RS_get (i := 0) (x := k) (by decide) (fun _ _ => RPl_len) hkd rfl
  obtain ⟨t1, f1, m1, f2, m2, f3, m3, hck, ht1, _⟩ := RPl_form hrk
  subst hck
  obtain ⟨b0, o0, cs0, rfl, hat0, hr0⟩ := RS_get (i := 0) (x := c) (by decide) (fun _ _ => RCo_len) hcv rfl
  obtain ⟨b0', o0', cs0', he, hat0', hr0'⟩ := RS_get (i := 1) (x := d) (by decide) (fun _ _ => RCo_len) hcv rfl
  cases he
  unfold RCo at hr0 hr0'; subst hr0 hr0'
  obtain ⟨y0, y1⟩ := At2 hat0
  obtain ⟨z0, z1⟩ := At2 hat0'
  unfold plV at hatk
  have w0 := (At11 hatk).1
  simp only [Nat.zero_mul, Nat.add_zero, Nat.one_mul] at y0 y1 z0 z1 w0
  rw [hc] at y0
  rw [hd] at z0
  rw [hkk] at w0
  simp +contextual only [go_sem, Rcb, Rbk, sevalprocAttr, e2, e3, e5, e4, plV, q9, n9, p1, p2, mcell_none q9, hk, hkids, y0, y1, z0, z1, w0]
  exact end_none (hT1.trans hT9) rfl
set_option maxHeartbeats 4000000 in
theorem ct_BindTyped {M : Mem} {rels : List Rel} {rv : Value} {q : Q} {qc : List Value} (hG : Glob M) (hr : RS M (RRel M) 14 rels rv) (hq : RQ M q qc) (hlen : rels.length ≤ 1048576) (hcols : ∀ r ∈ rels, r.cols.length ≤ 1048576) (T : Tm) :
    CtT Tryz.prog 4 [rv, .agg ⟨qc⟩] T M [] [] (fun r _ _ _ => r = .bool true) noPan := by
  have hr0 := hr
  have hq0 := hq
  obtain ⟨hbk, ra, rc, rfl, hle, _, hg⟩ := RS_elim (by decide) (fun _ _ => RRel_len) hr
  obtain ⟨pv, ov, dv, rfl, o1, o2, o3⟩ := RQ_form hq
  refine ct_run mx bod4 Tryz.func4 rfl (by rw [nt4]; exact Nat.le_of_ble_eq_true rfl) (dr := dr4) (by kernel_rfl) rs4 ?_
  intro hno _
  simp +contextual only [go_sem, Rcb, Rbk, sevalprocAttr, o1, o2, o3]
  intro b3 T3 hb3 hT3 hTb3
  refine rCall_pure (ct_alive12 hG T3) ?_ (fun _ _ _ _ h => h.elim)
  rintro r M1 hM1 hno1 rfl
  simp only [noneL, and_true] at hno1
  simp +contextual only [go_sem, Rcb, Rbk, sevalprocAttr, o1, o2, o3, hno1, mcell_none hno1]
  refine rCall_pure (ct_Asked (RQ_ext2 hM1 hq0) T3) ?_ (fun _ _ _ _ h => h.elim)
  rintro r M2 hM2 hno2 rfl
  simp only [noneL, and_true] at hno2
  have h12 := hM1.trans hM2
  by_cases hQ : queryW q = 0
  rotate_left
  · simp +contextual only [go_sem, Rcb, Rbk, sevalprocAttr, hQ]
    exact Close_drop (end_none hT3 rfl)
  simp +contextual only [go_sem, Rcb, Rbk, sevalprocAttr, hQ]
  refine rCall_pure (ct_right (RS_ext h12 (RRel_ext h12) hr0) hlen hcols T3) ?_ (fun _ _ _ _ h => h.elim)
  rintro r M3 hM3 hno3 ⟨g, rfl, hright⟩
  simp only [noneL, and_true] at hno3
  cases g with
  | false =>
    simp +contextual only [go_sem, Rcb, Rbk, sevalprocAttr]
    exact Close_drop (end_none hT3 rfl)
  | true =>
    replace hright := hright rfl
    have h13 := h12.trans hM3
    obtain ⟨hoq, hp0, hp4, hordq, hsel⟩ := queryW_ok hQ
    simp +contextual only [go_sem, Rcb, Rbk, sevalprocAttr, hno3, o1, o2, o3, mcell_none hno3]
    refine rCall_pure (ct_bQuery (RS_ext h13 (RRel_ext h13) hr0) (RQ_ext2 h13 hq0) hlen hcols (fun s hs => (hsel s hs).1) hoq.len (by omega) (fun hl => ⟨by have := (hordq hl).1; omega, (hordq hl).2⟩) (queryB_ne hoq) (wid_B hright hQ) T3) ?_ (fun _ _ _ _ h => h.elim)
    rintro r M4 hM4 hno4 hpost
    simp only [noneL, and_true] at hno4
    have h14 := h13.trans hM4
    unfold postQB at hpost
    cases hB : boundM rels q with
    | error e =>
      rw [hB] at hpost
      obtain ⟨hne, cs, rfl, hz⟩ := hpost
      obtain ⟨c0, c1, c2, c3, c4, c5, c6, c7, c8, c9, c10, rfl, hc⟩ := RPl_cells hz
      simp +contextual only [go_sem, Rcb, Rbk, sevalprocAttr, hc, hno4, hne]
      intro b5 T5 hb5 hap5 hT5 hTb5
      exact Close_drop (Close_drop (end_none (hT3.trans hT5) rfl))
    | ok w =>
      rw [hB] at hpost
      obtain ⟨cs, cv, rfl, hpp, hcv⟩ := hpost
      obtain ⟨c0, c1, c2, c3, c4, c5, c6, c7, c8, c9, c10, rfl, hc⟩ := RPl_cells hpp
      obtain ⟨hcb, va, vc, rfl, _, _, hvg⟩ := RS_elim (by decide) (fun _ _ => RCo_len) hcv
      obtain ⟨t, ht1, ht2, ht3⟩ := bound_typed (rightP_R hright) hp0 (fun s hs' => ⟨(hsel s hs').2.1, fun j x hj h0 => ((hsel s hs').1.on j x hj h0).1⟩) hB
      simp +contextual only [go_sem, Rcb, Rbk, sevalprocAttr, hc, hno4]
      intro b5 T5 hb5 hap5 hT5 hTb5
      have hp5 : ¬ b5 = b3 ∧ ¬ b3 = b5 := hap5
      refine draw_at ⟨T5, fun _ => none, [(b5, _)], []⟩ (Sub_hd hb5) ?_
      simp +contextual only [go_sem, Rcb, Rbk, sevalprocAttr, hc, hb5, mcell_none hb5]
      refine rCall_pure (ct_Tables (RS_ext h14 (RRel_ext h14) hr0) hlen hcols T5) ?_ (fun _ _ _ _ h => h.elim)
      rintro r M5 hM5 hno5 htab
      simp only [noneL, and_true] at hno5
      have h15 := h14.trans hM5
      simp +contextual only [go_sem, Rcb, Rbk, sevalprocAttr, hc]
      refine ⟨Sub_hd hno5.1, ?_⟩
      refine rCall_pure (ct_Cols htab (RPl_ext hM5 _ _ hpp) T5) ?_ (fun _ _ _ _ h => h.elim)
      rintro r M6 hM6 hno6 htl
      simp only [noneL, and_true] at hno6
      rw [ht1] at htl
      obtain ⟨sv, rfl, hsv⟩ := htl
      obtain ⟨htb, sa, sc, rfl, _, _, hsg⟩ := RS_elim (by decide) (fun _ _ => RI_len) hsv
      have hlI : (t.length : Int) = (w.2.length : Int) := by omega
      simp +contextual only [go_sem, Rcb, Rbk, sevalprocAttr, hc, hno6]
      rw [← ht3]
      simp +contextual only [go_sem, Rcb, Rbk, sevalprocAttr, hc, hno6]
      refine loop_range w.2.length 50 [(6, .slice va w.2.length vc), (8, .slice sa w.2.length sc), (49, .int .i64 (w.2.length : Int))]
        (fun i e h => ∃ N' M' L', ExtT T5 N' ∧ Ext M6 M' ∧ h = ⟨N', M', L', []⟩)
        0 (by omega) (by simp only [live, go_sem, Rcb, Rbk, sevalprocAttr]) (by simp only [go_sem, Rcb, Rbk, sevalprocAttr]) ⟨_, _, _, ExtT.rfl', Ext.rfl', rfl⟩ ?_
      rintro i e h hi hlv ht ⟨N1, M8, L8, hN1, hM8, rfl⟩
      simp only [live] at hlv
      have hTT := (hT3.trans hT5).trans hN1
      by_cases hlt : i < w.2.length
      · obtain ⟨b', o', cs', rfl, hat, hrx⟩ := hvg i w.2[i] (List.getElem?_eq_getElem hlt)
        obtain ⟨b'', o'', cs'', rfl, hat', hrx'⟩ := hsg i t[i] (List.getElem?_eq_getElem (by omega))
        unfold RCo at hrx; unfold RI at hrx'; subst hrx hrx'
        have y := At2 (hat.ext ((hM5.trans (hM6)).trans hM8))
        have y' := At1 (hat'.ext hM8)
        rw [Nat.mul_one] at y'
        have hty : w.2[i].ty = t[i] := by simp only [← ht2, List.getElem_map]
        simp +contextual only [go_sem, Rcb, Rbk, sevalprocAttr, hlv, ht, hlt]
        refine draw_all ?_
        simp +contextual only [go_sem, Rcb, Rbk, sevalprocAttr, hlv, ht, hlt, y, y', hty]
        refine lp_range hlt ?_ ?_ ⟨N1, M8, L8, hN1, hM8, rfl⟩
        · simp only [live, hlv, go_sem, Rcb, Rbk, sevalprocAttr]
        · simp only [ht, go_sem, Rcb, Rbk, sevalprocAttr, wrap_succ i (by omega)]
      · simp +contextual only [go_sem, Rcb, Rbk, sevalprocAttr, hlv, ht, hlt]
        exact end_none hTT rfl
set_option maxRecDepth 100000
theorem bindTyped_met (os : Os) (args : Array Value) : laidMet Tryz.prog Rows.bindTypedUptoRow.laid ((laidWorld2 os).forCall (fun _ _ => 0) ⟨#[], args, []⟩).memory :=
  laidMet_fast 8 (by kernel_rfl) (by kernel_rfl)
theorem bindTyped_witness (os : Os) {H : Type} (enc : TypeId × Value → H) :
    (Rows.OpenSpec.upto Rows.bindTypedSpec).preRow enc Tryz.prog Tryz.f4 Rows.bindTypedUptoRow.domain false Rows.bindTypedUptoRow.laid ((laidWorld2 os).forCall (fun _ _ => 0) ⟨#[], #[.slice none 0 0, .agg #[.slice none 0 0, .slice none 0 0, .slice none 0 0, .int .i64 0]], []⟩).memory #[.slice none 0 0, .agg #[.slice none 0 0, .slice none 0 0, .slice none 0 0, .int .i64 0]] := by
  have hw : (DataW.whole enc Tryz.prog ((laidWorld2 os).forCall (fun _ _ => 0) ⟨#[], #[.slice none 0 0, .agg #[.slice none 0 0, .slice none 0 0, .slice none 0 0, .int .i64 0]], []⟩).memory Tryz.f4.params.toList Rows.bindTypedSpec.vars false (#[.slice none 0 0, .agg #[.slice none 0 0, .slice none 0 0, .slice none 0 0, .int .i64 0]] : Array Value).toList 8).map (fun x => (x.1, x.2.1)) =
      some ([.nil, .agg [.nil, .nil, .nil, .lit (.int .i64 0)]], []) := by kernel_rfl
  obtain ⟨⟨x1, x2, x3⟩, hx, hx1⟩ := Option.map_eq_some_iff.1 hw
  simp only [Prod.mk.injEq] at hx1
  obtain ⟨rfl, rfl⟩ := hx1
  exact OpenSpec.preRow_of_cond 8 hx (by kernel_rfl) (fun k hk => by cases hk; kernel_rfl) (by kernel_rfl) (bindTyped_met os _)
theorem bindTyped_contract (H : Type) (enc : TypeId × Value → H) (W : World) (base : Nat) (args : Array Value) (ds gs : List (DataW H)) (before : List MemPlace)
    (hval : ∀ (j : Nat) t v, Tryz.f4.params[j]? = some t → args[j]? = some v → Value.okWide Tryz.prog W .any base t v)
    (hW : DataW.Whole enc Tryz.prog Tryz.f4.params.toList Rows.bindTypedSpec.vars false W args.toList ds gs before) (hcond : Rows.uptoSmall H (ds ++ gs) = true)
    (hL : laidMetH Tryz.prog Rows.bindTypedUptoRow.laid W) (hS : W.ShapedOpen Tryz.prog) :
    Calls Tryz.prog 4 args W fun e W' => ∃ v, e = .returned v ∧ Rows.bindTypedSpec.post enc Tryz.prog Tryz.f4 false true false false W args v W' := by
  have hW' := hW
  obtain ⟨p, q, hA0, hV, rfl, hfz, hnd⟩ := hW
  have hA : DataW.TrodAll enc Tryz.prog W 0 (fun _ => true) true Tryz.f4.params.toList args.toList ds p := hA0
  clear hA0
  have hA' := hA
  rw [Tryz.params4] at hA hval
  have hA : DataW.TrodAll enc Tryz.prog W 0 (fun _ => true) true [22, 27] args.toList ds p := hA
  obtain ⟨v0, vs0, d0, ds0, p0, q0, hargs0, hds0, hp0, h0, r0⟩ := trodAll_cons hA
  obtain ⟨v1, vs1, d1, ds1, p1, q1, hargs1, hds1, hp1, h1, r1⟩ := trodAll_cons r0
  obtain ⟨hvn, hdn, hpn⟩ := trodAll_nil r1
  subst hds0 hds1 hdn
  have hvs : args.toList = [v0, v1] := by rw [hargs0, hargs1, hvn]
  obtain rfl : args = #[v0, v1] := by cases args; simp_all
  obtain ⟨rfl, rfl⟩ := trodVars_none hV
  simp only [List.append_nil] at hW' hcond
  have hG : Glob (memOf W) := glob_of (by kernel_rfl) hL
  have hk := of_decide_eq_true hcond
  simp only [Rows.uptoBulkAll] at hk
  obtain ⟨a0, m0, c0, rfl⟩ := okWide_slice Tryz.underlying22 (hval 0 _ _ rfl rfl)
  obtain ⟨n0, k0⟩ := h0
  obtain ⟨l0, u0, eu0, hr0, hl0, hc0⟩ := openU_rels k0 (show Rows.uptoBulk d0 ≤ 1048576 by omega)
  obtain rfl : Value.slice a0 m0 c0 = u0 := by simpa [Value.cells] using eu0
  obtain ⟨⟨y1⟩, rfl, -⟩ := okWide_struct Tryz.underlying27 (hval 1 _ _ rfl rfl)
  obtain ⟨n1, k1⟩ := h1
  obtain ⟨x1, hr1⟩ := ru_q n1 _ n1 (Nat.le_refl _) _ _ k1 (show Rows.uptoBulk d1 ≤ 1048576 by omega)
  replace hr1 : RQ (memOf W) x1 y1 := by simpa [Value.cells] using hr1
  have hc := calls_of (ct_BindTyped hG hr0 hr1 hl0 hc0 (fun _ => none)) (memOf_holds W)
  refine hc.mono fun e W' ⟨v, M', he, hk, _, _, hv⟩ => ?_
  subst he; subst hv
  refine ⟨_, rfl, _, _, _, [], p, [], hW', ?_, ?_, ?_, Keeps.but hk _, fun h => by cases h⟩
  · exact trodAll_mk1 (shut_bool Tryz.underlying4 true)
  · exact args_same hk (by decide +kernel) hA'
  · rfl
end Go.Proofs.YtmccpbcbofhmlaaGreatDoor

import Derived.Test.YtoainkbcfnlkcaaGreatDoorT
set_option linter.all false
namespace Go.Proofs.YtoainkbcfnlkcaaGreatDoor
open Go Vc
set_option linter.unusedSimpArgs false
set_option linter.unusedVariables false
set_option maxRecDepth 10000
set_option maxHeartbeats 2000000

theorem RCo_lenR {c : Co} {cs} (h : RCo c cs) : cs.length = 2 := by unfold RCo at h; subst h; rfl
theorem ct_w_columns {en : Int} {pb : Nat} {op : Int} {M : Mem} {toks : List Tk} {lv : Value} {be ba : Int} (hl : RS M RTw 3 toks lv) (T : Tm) :
    CtT Tryz.prog 73 [.pointer (some ⟨pb, 0, none⟩)] T M (wL pb lv en op be ba) [] (postW pb en op (fun l v M => RS M RCo 2 l v) (someM en (columnM en) 8 toks) be ba) noPan := by
  refine ct_run mx bod73 Tryz.func73 rfl (by rw [nt73]; exact Nat.le_of_ble_eq_true rfl) (dr := dr73) (by kernel_rfl) rs73 ?_
  intro hno _
  simp only [noneL_wL] at hno
  rw [someA_nil]
  simp +contextual only [go_sem, Rcb, Rbk, sevalprocAttr]
  refine loop_rule (fun m e ds h => ds = [] ∧ e 0 = .pointer (some ⟨pb, 0, none⟩) ∧ ∃ N M' lv' t be' ba' fv R acc C, ExtT T N ∧ e 3 = fv ∧ M' pb = none ∧ RS M' RTw 3 t lv' ∧ Acc 80 2 RCo [] R fv acc ∧ acc.length ≤ 9 ∧
      Up C be' ba' (someA en (columnM en) 8 [] toks) be ba ∧ (be' = 0 → acc.length ≤ 8 ∧ C = someA en (columnM en) 8 acc t) ∧ m = (if be' = 0 then 10 - acc.length else 0) ∧ h = ⟨N, M', wL pb lv' en op be' ba', R⟩)
    ⟨_, rfl, (by simp only [go_sem, Rcb, Rbk, sevalprocAttr]), T, M, lv, toks, be, ba, _, [], [], _, ExtT.rfl', (by simp only [go_sem, Rcb, Rbk, sevalprocAttr]), hno, hl, Acc_nil, by simp, Up.rfl', fun _ => ⟨by simp, rfl⟩, rfl, rfl⟩ ?_
  rintro m e ds h ⟨rfl, e0, N, M2, lv2, t, be2, ba2, fv, R, acc, C, hN, e3, np, hl2, hacc, hal, hu, hC, rfl, rfl⟩
  obtain ⟨fa, fc, rfl⟩ := Acc_form hacc
  simp +contextual only [go_sem, Rcb, Rbk, sevalprocAttr, e0, e3]
  refine good_w [] ?_
  by_cases h0 : be2 = 0
  · obtain ⟨hal8, rfl⟩ := hC h0
    replace hu := hu.congr fun _ => someA_step hal8 t
    simp +contextual only [go_sem, Rcb, Rbk, sevalprocAttr, e0, e3, h0]
    refine part_w [] (ct_w_room (n := ((acc.length : Nat) : Int)) (m := 8) hl2 N) ?_
    rintro v M3 _ t3 lv3 be3 ba3 hM3 hno3 hr3 hl3 rfl
    have hu3 := hu.bind hr3
    simp only [someB] at hu3
    rw [columnM, Rs.bind_assoc] at hu3
    simp only [List.cons_append, List.nil_append, noneL, noneL_wL] at hno3
    simp +contextual only [go_sem, Rcb, Rbk, sevalprocAttr, e0, e3, hno3]
    refine part_w [] (ct_w_name hl3 N) ?_
    rintro v M4 n t4 lv4 be4 ba4 hM4 hno4 hr4 hl4 rfl
    have hu4 := hu3.bind hr4
    simp only [List.cons_append, List.nil_append, noneL, noneL_wL] at hno4
    simp +contextual only [go_sem, sevalprocAttr, e0, e3, hno4]
    intro b4 T4 hb4 hap4 hT4 hTb4 bw hbw hapw
    refine run_cut (fun e ds h => ds = [] ∧ (e 0 = .pointer (some ⟨pb, 0, none⟩) ∧ e 3 = .slice fa acc.length fc ∧ e 4 = .pointer (some ⟨b4, 0, none⟩)) ∧ ∃ M' lv' t' κ, Ext M4 M' ∧ M' b4 = none ∧ M' pb = none ∧ RS M' RTw 3 t' lv' ∧
        ((κ = 0 ∧ t' = t4 ∧ (be4 = 0 → idxSign typeW t4 = none)) ∨ (∃ j : Nat, j < 3 ∧ idxSign typeW t4 = some j ∧ κ = 2 + (j : Int) ∧ t' = t4.tail)) ∧ h = ⟨T4, M', (b4, [st n, .int .i64 κ]) :: wL pb lv' en op be4 ba4, R⟩) (fun S' hS' => ?_) ?_
    · simp +contextual only [go_sem, Rcb, Rbk, sevalprocAttr]
      refine loop_rangeC 3 18 [(0, .pointer (some ⟨pb, 0, none⟩)), (3, .slice fa acc.length fc), (4, .pointer (some ⟨b4, 0, none⟩)), (16, .slice (some ⟨bw, 0, none⟩) 3 3), (17, .int .i64 3)]
        (fun i e h => ∃ κ M' lv' t', Ext M4 M' ∧ M' bw = some (typeW.map st) ∧ M' b4 = none ∧ M' pb = none ∧ RS M' RTw 3 t' lv' ∧
          ((κ = 0 ∧ t' = t4 ∧ (be4 = 0 → idxSign typeW t4 = (idxSign (typeW.drop i) t4).map (· + i))) ∨ (∃ j : Nat, j < 3 ∧ idxSign typeW t4 = some j ∧ κ = 2 + (j : Int) ∧ t' = t4.tail)) ∧
          h = ⟨T4, M', (b4, [st n, .int .i64 κ]) :: wL pb lv' en op be4 ba4, R⟩)
        0 (by omega) (by simp only [live, e0, e3, go_sem, Rcb, Rbk, sevalprocAttr]) (by simp only [go_sem, Rcb, Rbk, sevalprocAttr]) (Close_freeze fun he hb hno => Close_id ⟨0, _, lv4, t4, he, hb, hno.1, (by have := hno.2; simpa only [noneL_wL] using this), RS_ext he (fun _ _ h => h) hl4, .inl ⟨rfl, rfl, fun _ => by simp⟩, rfl⟩) ?_
      clear e0 e3
      rintro i e h hi hlv ht ⟨κ, M7, lv8, t6, hM7, hw, p4, pp, hl8, hκ, rfl⟩
      simp only [live] at hlv
      by_cases hlt : i < 3
      · have hlt' : i < typeW.length := hlt
        have hdrop : typeW.drop i = typeW[i] :: typeW.drop (i + 1) := List.drop_eq_getElem_cons hlt'
        have hx : mcell M7 ⟨bw, i, none⟩ = some (.string (bs typeW[i])) := by
          rw [mcell_some hw, List.getElem?_map, List.getElem?_eq_getElem hlt']
          rfl
        have hi3 : (i : Int) < 3 := by omega
        rcases hκ with ⟨rfl, rfl, hidx⟩ | ⟨j, hj4, hj, rfl, rfl⟩
        · rw [hdrop] at hidx
          have hw21 : IntKind.i64.wrap (2 + (i : Int)) = 2 + (i : Int) := wrap64 (by omega) (by omega)
          simp +contextual only [go_sem, Rcb, Rbk, sevalprocAttr, hlv, ht, hlt, hi3, hx, p4, hap4, pp]
          refine may_w [(b4, _)] typeW[i] hl8 (fun h50 hs lv9 hl9 => ?_) (fun hs lv9 hl9 => ?_)
          · have hix : idxSign typeW t6 = some i := by rw [hidx h50]; simp [idxSign, hs]
            simp +contextual only [go_sem, Rcb, Rbk, sevalprocAttr, hlv, ht, hw21, p4, hap4, pp]
            refine lp_range hlt ?_ ?_ ⟨_, M7, lv9, t6.tail, hM7, hw, p4, pp, hl9, .inr ⟨i, hlt, hix, rfl, rfl⟩, rfl⟩
            · simp only [live, hlv, go_sem, Rcb, Rbk, sevalprocAttr]
            · simp only [ht, go_sem, Rcb, Rbk, sevalprocAttr, wrap_succ i (by omega)]
          · simp +contextual only [go_sem, Rcb, Rbk, sevalprocAttr, hlv, ht]
            refine lp_range hlt ?_ ?_ ⟨0, M7, lv9, t6, hM7, hw, p4, pp, hl9, .inl ⟨rfl, rfl, fun h0 => ?_⟩, rfl⟩
            · simp only [live, hlv, go_sem, Rcb, Rbk, sevalprocAttr]
            · simp only [ht, go_sem, Rcb, Rbk, sevalprocAttr, wrap_succ i (by omega)]
            · rw [hidx h0]
              simp only [idxSign, hs h0, Bool.false_eq_true, if_false, Option.map_map]
              congr 1
              funext n
              simp only [Function.comp]; omega
        · have hk0 : ¬ (2 + (j : Int)) = 0 := by omega
          simp +contextual only [go_sem, Rcb, Rbk, sevalprocAttr, hlv, ht, hlt, hi3, hx, hk0, p4, hap4, pp]
          refine lp_range hlt ?_ ?_ ⟨_, M7, lv8, t4.tail, hM7, hw, p4, pp, hl8, .inr ⟨j, hj4, hj, rfl, rfl⟩, rfl⟩
          · simp only [live, hlv, go_sem, Rcb, Rbk, sevalprocAttr]
          · simp only [ht, go_sem, Rcb, Rbk, sevalprocAttr, wrap_succ i (by omega)]
      · have : i = 3 := by omega
        subst this
        have h33 : ¬ ((3 : Nat) : Int) < 3 := by omega
        simp +contextual only [go_sem, Rcb, Rbk, sevalprocAttr, hlv, ht, h33]
        refine hS' _ _ _ ⟨rfl, ⟨by simp only [hlv, go_sem, Rcb, Rbk, sevalprocAttr], by simp only [hlv, go_sem, Rcb, Rbk, sevalprocAttr], by simp only [hlv, go_sem, Rcb, Rbk, sevalprocAttr]⟩, M7, lv8, t6, κ, hM7, p4, pp, hl8, ?_, rfl⟩
        rcases hκ with ⟨rfl, rfl, hidx⟩ | h
        · exact .inl ⟨rfl, rfl, fun h0 => by rw [hidx h0]; rfl⟩
        · exact .inr h
    clear e0 e3 hl4
    rintro e ds h ⟨rfl, ⟨e0, e3, e4⟩, M5, lv5, t5, κ, hM5, p4, pp, hl5, hκ, rfl⟩
    simp +contextual only [go_sem, sevalprocAttr, e0, e3, e4, p4, pp, hap4]
    refine cond_cut (fun e ds h => ds = [] ∧ (e 0 = .pointer (some ⟨pb, 0, none⟩) ∧ e 3 = .slice fa acc.length fc ∧ e 4 = .pointer (some ⟨b4, 0, none⟩)) ∧ ∃ be' ba',
        Up (if seesM sComma t5 = true then someA en (columnM en) 8 (acc ++ [⟨n, κ⟩]) t5.tail else .ok (acc ++ [⟨n, κ⟩]) t5) be' ba' (someA en (columnM en) 8 [] toks) be ba ∧ (be' = 0 → be4 = 0) ∧ h = ⟨T4, M5, (b4, [st n, .int .i64 κ]) :: wL pb lv5 en op be' ba', R⟩) (fun S2 hS2 => ?_) ?_
    · rcases hκ with ⟨rfl, rfl, hidx⟩ | ⟨j, hj3, hj, rfl, rfl⟩
      · simp +contextual only [go_sem, Rcb, Rbk, sevalprocAttr, e0, e3, e4]
        refine at_w [(b4, _)] hl5 ?_
        simp +contextual only [go_sem, Rcb, Rbk, sevalprocAttr, e0, e3, e4]
        refine stop_w [(b4, _)] 2 _ ?_
        simp +contextual only [go_sem, Rcb, Rbk, sevalprocAttr]
        exact hS2 _ _ _ ⟨rfl, ⟨by simp only [e0, go_sem, Rcb, Rbk, sevalprocAttr], by simp only [e3, go_sem, Rcb, Rbk, sevalprocAttr], by simp only [e4, go_sem, Rcb, Rbk, sevalprocAttr]⟩, _, _, hu4.stopped (fun h0 => by rw [hidx h0]; rfl) (by decide), fun h => (stopM_ne (by decide) h).elim, rfl⟩
      · have hk0 : ¬ (2 + (j : Int)) = 0 := by omega
        simp +contextual only [go_sem, Rcb, Rbk, sevalprocAttr, e0, e3, e4, hk0]
        exact hS2 _ _ _ ⟨rfl, ⟨by simp only [e0, go_sem, Rcb, Rbk, sevalprocAttr], by simp only [e3, go_sem, Rcb, Rbk, sevalprocAttr], by simp only [e4, go_sem, Rcb, Rbk, sevalprocAttr]⟩, _, _, hu4.congr fun _ => by rw [hj]; rfl, fun h => h, rfl⟩
    clear e0 e3 e4 hκ
    rintro e ds h ⟨rfl, ⟨e0, e3, e4⟩, be5, ba5, hu5, hb54, rfl⟩
    simp +contextual only [go_sem, Rcb, Rbk, sevalprocAttr, e0, e3, e4, p4, pp, hap4]
    intro b hb hap
    refine app_acc (z := _) Tryz.underlying55 row55 okt55 hacc (x := (⟨n, κ⟩ : Co)) (show RCo ⟨n, κ⟩ [st n, .int .i64 κ] from rfl) (fun _ _ => RCo_lenR) (by intro u hu; simp only [List.mem_cons, List.not_mem_nil, or_false] at hu; rcases hu with rfl | rfl <;> rfl) hb (by omega) (by decide) ?_
    intro fv' R' hacc'
    have ho := Acc_one hacc'
    simp +contextual only [go_sem, Rcb, Rbk, sevalprocAttr, e0, e3, e4, hap]
    refine may_w [(b, _), (b4, _)] sComma hl5 (fun h50 hs lv6 hl6 => ?_) (fun hs lv6 hl6 => ?_)
    · have hu6 := hu5.congr fun _ => if_pos hs
      have h3 := hr4.good (hb54 h50)
      have hne := hr3.room h3
      simp +contextual only [go_sem, Rcb, Rbk, sevalprocAttr, e0, e3, e4]
      refine lp_close (Close_drop (Close_drop (Close_id ⟨10 - (acc.length + 1), ?_, rfl, ?_, T4, M5, lv6, t5.tail, be5, ba5, fv', R', acc ++ [⟨n, κ⟩], _, hN.trans hT4, ?_, pp, hl6, hacc', ?_, hu6, fun _ => ⟨?_, rfl⟩, ?_, rfl⟩)))
      · rw [if_pos h0]; omega
      · simp only [e0, go_sem, Rcb, Rbk, sevalprocAttr]
      · simp only [go_sem, Rcb, Rbk, sevalprocAttr]
      · rw [List.length_append]; simp; omega
      · rw [List.length_append]; simp; omega
      · rw [if_pos h50, List.length_append]; rfl
    · have hu6 := hu5.congr fun h => if_neg (by rw [hs h]; decide)
      simp +contextual only [go_sem, Rcb, Rbk, sevalprocAttr, e0, e3, e4]
      refine Close_acc hacc' (by rw [List.length_append]; simp; omega) (by decide) ⟨hb, p4, by simpa only [noneL_wL] using pp⟩ fun M6 hM6 hno6 hrs => ?_
      exact fin_wr (enc := fun l v M => RS M RCo 2 l v) [(b, _), (b4, _)] (hN.trans hT4) hu6 (RS_ext hM6 (fun _ _ h => h) hl6) hrs
  · simp +contextual only [go_sem, Rcb, Rbk, sevalprocAttr, e0, e3, h0]
    refine Close_acc hacc (by omega) (by decide) (by simpa only [noneL_wL] using np) fun M6 hM6 hno6 hrs => ?_
    exact fin_wr (enc := fun l v M => RS M RCo 2 l v) (a := acc) [] hN (hu.congr fun h => (h0 h).elim) (RS_ext hM6 (fun _ _ h => h) hl2) hrs
end Go.Proofs.YtoainkbcfnlkcaaGreatDoor

namespace Go.Proofs.YtoainkbcfnlkcaaGreatDoor
open Go Vc
set_option linter.unusedSimpArgs false
set_option linter.unusedVariables false
set_option maxRecDepth 10000
set_option maxHeartbeats 2000000

def rowsK (en : Int) (acc : List (List V)) (a : List V) (t : List Tk) : Rs (List (List V)) := if seesM sComma t = true then someA en (rowM en) 400 (acc ++ [a]) t.tail else .ok (acc ++ [a]) t
def rowV (en : Int) (acc : List (List V)) (vals : List V) (t : List Tk) : Rs (List (List V)) := (someA en (valM en) 8 vals t).bind fun l t => (needM en [sClose] t).bind fun _ t => rowsK en acc l t
def rowW (en : Int) (acc : List (List V)) (vals : List V) (t : List Tk) : Rs (List (List V)) := if seesM sComma t = true then rowV en acc vals t.tail else (needM en [sClose] t).bind fun _ t => rowsK en acc vals t
theorem someB_row {en : Int} {acc : List (List V)} {t : List Tk} : someB en (rowM en) 400 acc t = (needM en [sOpen] t).bind fun _ t => rowV en acc [] t := by
  unfold someB rowM
  rw [Rs.bind_assoc]
  congr 1
  funext _ t
  unfold rowV
  rw [← someA_nil, Rs.bind_assoc]
  congr 1
  funext l t
  rw [Rs.bind_assoc]
  rfl
theorem rowV_step {en : Int} {acc : List (List V)} {vals : List V} (h : vals.length ≤ 8) (t : List Tk) : rowV en acc vals t =
    (if ((vals.length : Nat) : Int) = 8 then .err 5 (atM en t) else .ok () t : Rs Unit).bind fun _ t => (valueM en t).bind fun o t => match o with
      | some v => rowW en acc (vals ++ [v]) t
      | none => .err 2 (atM en t) := by
  unfold rowV
  rw [someA_step h, Rs.bind_assoc]
  congr 1
  funext _ t
  unfold someB valM
  rw [Rs.bind_assoc, Rs.bind_assoc]
  congr 1
  funext o t
  cases o with
  | none => rfl
  | some v =>
    show Rs.bind (ite (seesM sComma t = true) _ _) _ = ite (seesM sComma t = true) _ _
    split <;> rfl
theorem encV_form {o : Option V} {v : Value} {M : Mem} (h : encV o v M) : ∃ x b, v = .tuple #[.agg ⟨V.cs x⟩, .bool b] ∧ (b = true → o = some x) ∧ (b = false → o = none) := by
  cases o with
  | some x => simp only [encV] at h; refine ⟨x, true, h, fun _ => rfl, (fun h => Bool.noConfusion h)⟩
  | none => simp only [encV] at h; refine ⟨⟨0, 0, []⟩, false, h, (fun h => Bool.noConfusion h), fun _ => rfl⟩
theorem must_wg {β : Type} {N : Tm} {M : Mem} {R : RR} {pb : Nat} {lv : Value} {en op be ba : Int} {d : Option Nat} {s : List Vc.Item} {e : Env} {toks : List Tk} {F : Fi} {ds : List Deferred} {res : Rs β} {Fk : Unit → List Tk → Rs β} {be0 ba0 : Int} (L1 : LL) {x : Bs} {b : Nat} (hu : Up ((needM en [x] toks).bind Fk) be ba res be0 ba0) (hl : RS M RTw 3 toks lv)
    (k : ∀ M' t lv' be' ba', Ext M M' → noneL M' (L1 ++ wL pb lv' en op be' ba') → Up (Fk () t) be' ba' res be0 ba0 → (be' = 0 → be = 0) → RS M' RTw 3 t lv' →
      Run Tryz.prog F s (updo e d (.tuple #[])) ds ⟨N, M', L1 ++ wL pb lv' en op be' ba', R⟩ ⟨⟩) :
    rCall Tryz.prog F 36 [.pointer (some ⟨pb, 0, none⟩), .slice (some ⟨b, 0, none⟩) 1 1] d s e ds ⟨N, M, (b, [.string (bs x)]) :: (L1 ++ wL pb lv en op be ba), R⟩ ⟨⟩ := by
  refine rCall_frz bod36 fun M1 hM1 hb hno1 => ?_
  have hl1 := RS_ext hM1 (fun _ _ h => h) hl
  have hs : RS M1 RSt 1 [x] (.slice (some ⟨b, 0, none⟩) 1 1) := RS_lit (fun _ _ => RSt_len) hb (RL_strs [x]) rfl (by decide)
  refine part_w L1 (ct_w_must hl1 hs N) ?_
  rintro v M' a t lv' be' ba' hM hno hr hl' rfl
  exact k M' t lv' be' ba' (hM1.trans hM) hno (hu.bind hr) (fun h => hr.good h) hl'
/-- a word that must come, where a row of one's own comes to rest -/
theorem must_wa {α β : Type} {N : Tm} {M : Mem} {R0 R : RR} {pb : Nat} {lv : Value} {en op be ba : Int} {d : Option Nat} {s : List Vc.Item} {e : Env} {toks : List Tk} {F : Fi} {ds : List Deferred} {res : Rs β} {Fk : Unit → List Tk → Rs β} {be0 ba0 : Int}
    {el : TypeId} {sz : Nat} {r : α → List Value → Prop} {fv : Value} {acc : List α} (Lx : LL) {x : Bs} {b : Nat} (hacc : Acc el sz r R0 R fv acc) (hal : acc.length ≤ 140737488355328) (hpos : 0 < sz) (hu : Up ((needM en [x] toks).bind Fk) be ba res be0 ba0) (hl : RS M RTw 3 toks lv)
    (k : ∀ M' t lv' be' ba', Ext M M' → M' pb = none → Up (Fk () t) be' ba' res be0 ba0 → (be' = 0 → be = 0) → RS M' RTw 3 t lv' → RS M' r sz acc fv →
      Run Tryz.prog F s (updo e d (.tuple #[])) ds ⟨N, M', wL pb lv' en op be' ba', R0⟩ ⟨⟩) (hr : ∀ M1 M2 : Mem, Ext M1 M2 → RS M1 r sz acc fv → RS M2 r sz acc fv) :
    rCall Tryz.prog F 36 [.pointer (some ⟨pb, 0, none⟩), .slice (some ⟨b, 0, none⟩) 1 1] d s e ds ⟨N, M, (b, [.string (bs x)]) :: (Lx ++ wL pb lv en op be ba), R⟩ ⟨⟩ := by
  refine rCall_close (k := fun h' => ∃ M1, Ext M M1 ∧ M1 b = some [.string (bs x)] ∧ RS M1 r sz acc fv ∧ h' = ⟨N, M1, wL pb lv en op be ba, R0⟩) (Close_freeze fun he hb hno => Close_acc hacc hal hpos hno fun M' he' hno' hrs => Close_dropL Lx (Close_id ⟨_, he.trans he', he' _ _ hb, hrs, rfl⟩)) ?_ bod36
  rintro h' ⟨M1, hM1, hb, hrs, rfl⟩
  have hl1 := RS_ext hM1 (fun _ _ h => h) hl
  have hs : RS M1 RSt 1 [x] (.slice (some ⟨b, 0, none⟩) 1 1) := RS_lit (fun _ _ => RSt_len) hb (RL_strs [x]) rfl (by decide)
  refine part_w [] (ct_w_must hl1 hs N) ?_
  rintro v M' a t lv' be' ba' hM hno hr' hl' rfl
  exact k M' t lv' be' ba' (hM1.trans hM) (by simpa only [List.nil_append, noneL_wL] using hno) (hu.bind hr') (fun h => hr'.good h) hl' (hr _ _ hM hrs)
theorem ct_w_rows {en : Int} {pb : Nat} {op : Int} {M : Mem} {toks : List Tk} {lv : Value} {be ba : Int} (hl : RS M RTw 3 toks lv) (T : Tm) :
    CtT Tryz.prog 74 [.pointer (some ⟨pb, 0, none⟩)] T M (wL pb lv en op be ba) [] (postW pb en op (fun l v M => RS M (RVs M) 1 l v) (someM en (rowM en) 400 toks) be ba) noPan := by
  refine ct_run mx bod74 Tryz.func74 rfl (by rw [nt74]; exact Nat.le_of_ble_eq_true rfl) (dr := dr74) (by kernel_rfl) rs74 ?_
  intro hno _
  simp only [noneL_wL] at hno
  rw [someA_nil]
  simp +contextual only [go_sem, Rcb, Rbk, sevalprocAttr]
  refine loop_rule (fun m e ds h => ds = [] ∧ e 0 = .pointer (some ⟨pb, 0, none⟩) ∧ ∃ N M' lv' t be' ba' fv R acc C, ExtT T N ∧ e 3 = fv ∧ M' pb = none ∧ RS M' RTw 3 t lv' ∧ Acc 81 1 (RVs M') [] R fv acc ∧ acc.length ≤ 401 ∧
      Up C be' ba' (someA en (rowM en) 400 [] toks) be ba ∧ (be' = 0 → acc.length ≤ 400 ∧ C = someA en (rowM en) 400 acc t) ∧ m = (if be' = 0 then 402 - acc.length else 0) ∧ h = ⟨N, M', wL pb lv' en op be' ba', R⟩)
    ⟨_, rfl, (by simp only [go_sem, Rcb, Rbk, sevalprocAttr]), T, M, lv, toks, be, ba, _, [], [], _, ExtT.rfl', (by simp only [go_sem, Rcb, Rbk, sevalprocAttr]), hno, hl, Acc_nil, by simp, Up.rfl', fun _ => ⟨by simp, rfl⟩, rfl, rfl⟩ ?_
  rintro m e ds h ⟨rfl, e0, N, M2, lv2, t, be2, ba2, fv, R, acc, C, hN, e3, np, hl2, hacc, hal, hu, hC, rfl, rfl⟩
  obtain ⟨fa, fc, rfl⟩ := Acc_form hacc
  simp +contextual only [go_sem, Rcb, Rbk, sevalprocAttr, e0, e3]
  refine good_w [] ?_
  by_cases h0 : be2 = 0
  · obtain ⟨hal8, rfl⟩ := hC h0
    replace hu := hu.congr fun _ => someA_step hal8 t
    simp +contextual only [go_sem, Rcb, Rbk, sevalprocAttr, e0, e3, h0]
    refine part_w [] (ct_w_room (n := ((acc.length : Nat) : Int)) (m := 400) hl2 N) ?_
    rintro v M3 _ t3 lv3 be3 ba3 hM3 hno3 hr3 hl3 rfl
    have hu3 := (hu.bind hr3).congr fun _ => someB_row
    simp only [List.cons_append, List.nil_append, noneL, noneL_wL] at hno3
    simp +contextual only [go_sem, Rcb, Rbk, sevalprocAttr, e0, e3, hno3]
    intro b6 hb6 hap6
    refine must_wg [] hu3 hl3 ?_
    intro M4 t4 lv4 be4 ba4 hM4 hno4 hu4 hb43 hl4
    simp only [List.cons_append, List.nil_append, noneL, noneL_wL] at hno4
    simp +contextual only [go_sem, sevalprocAttr, e0, e3, hno4]
    refine run_cut (fun e ds h => ds = [] ∧ (e 0 = .pointer (some ⟨pb, 0, none⟩) ∧ e 3 = .slice fa acc.length fc) ∧ ∃ N' M' lv' t be' ba' rv R' vals Lx, e 4 = rv ∧ ExtT N N' ∧ Ext M4 M' ∧ M' pb = none ∧ noneL M' (Lx ++ wL pb lv' en op be' ba') ∧ RS M' RTw 3 t lv' ∧ Acc 63 3 RV R R' rv vals ∧ vals.length ≤ 9 ∧
        Up ((needM en [sClose] t).bind fun _ t => rowsK en acc vals t) be' ba' (someA en (rowM en) 400 [] toks) be ba ∧ (be' = 0 → be4 = 0) ∧ h = ⟨N', M', Lx ++ wL pb lv' en op be' ba', R'⟩) (fun S' hS' => ?_) ?_
    · simp +contextual only [go_sem, Rcb, Rbk, sevalprocAttr]
      refine loop_rule (fun m e ds h => ds = [] ∧ (e 0 = .pointer (some ⟨pb, 0, none⟩) ∧ e 3 = .slice fa acc.length fc) ∧ ∃ N' M' lv' t be' ba' rv R' vals C, e 4 = rv ∧ ExtT N N' ∧ Ext M4 M' ∧ M' pb = none ∧ RS M' RTw 3 t lv' ∧ Acc 63 3 RV R R' rv vals ∧ vals.length ≤ 9 ∧
          Up C be' ba' (someA en (rowM en) 400 [] toks) be ba ∧ (be' = 0 → vals.length ≤ 8 ∧ C = rowV en acc vals t) ∧ (be' = 0 → be4 = 0) ∧ m = (if be' = 0 then 10 - vals.length else 0) ∧ h = ⟨N', M', wL pb lv' en op be' ba', R'⟩)
        ⟨_, rfl, ⟨(by simp only [e0, go_sem, Rcb, Rbk, sevalprocAttr]), (by simp only [e3, go_sem, Rcb, Rbk, sevalprocAttr])⟩, N, M4, lv4, t4, be4, ba4, _, R, [], _, (by simp only [go_sem, Rcb, Rbk, sevalprocAttr]), ExtT.rfl', Ext.rfl', hno4, hl4, Acc_nil, by simp, hu4, fun _ => ⟨by simp, rfl⟩, fun h => h, rfl, rfl⟩ ?_
      clear e0 e3
      rintro m e ds h ⟨rfl, ⟨e0, e3⟩, N5, M5, lv5, t5, be5, ba5, rv, R5, vals, C, e4, hN5, hM5, np5, hl5, hvacc, hvl, hu5, hC5, hg5, rfl, rfl⟩
      obtain ⟨va, vc, rfl⟩ := Acc_form hvacc
      simp +contextual only [go_sem, Rcb, Rbk, sevalprocAttr, e0, e3, e4]
      refine good_w [] ?_
      by_cases h05 : be5 = 0
      · obtain ⟨hvl8, rfl⟩ := hC5 h05
        replace hu5 := hu5.congr fun _ => rowV_step hvl8 t5
        simp +contextual only [go_sem, Rcb, Rbk, sevalprocAttr, e0, e3, e4, h05]
        refine part_w [] (ct_w_room (n := ((vals.length : Nat) : Int)) (m := 8) hl5 N5) ?_
        rintro v M6 _ t6 lv6 be6 ba6 hM6 hno6 hr6 hl6 rfl
        have hu6 := hu5.bind hr6
        simp only [List.cons_append, List.nil_append, noneL, noneL_wL] at hno6
        simp +contextual only [go_sem, Rcb, Rbk, sevalprocAttr, e0, e3, e4, hno6]
        refine part_w [] (ct_w_value hl6 N5) ?_
        intro v M7 o t7 lv7 be7 ba7 hM7 hno7 hr7 hl7 hv
        have hu7 := hu6.bind hr7
        obtain ⟨x, ok, rfl, hok1, hok2⟩ := encV_form hv
        simp only [List.cons_append, List.nil_append, noneL, noneL_wL] at hno7
        simp +contextual only [go_sem, sevalprocAttr, e0, e3, e4, hno7, V.cs]
        intro b5 T5 hb5 hap5 hT5 hTb5
        refine cond_cut (fun e ds h => ds = [] ∧ (e 0 = .pointer (some ⟨pb, 0, none⟩) ∧ e 3 = .slice fa acc.length fc ∧ e 4 = .slice va vals.length vc ∧ e 5 = .pointer (some ⟨b5, 0, none⟩)) ∧ ∃ be' ba',
            Up (rowW en acc (vals ++ [x]) t7) be' ba' (someA en (rowM en) 400 [] toks) be ba ∧ (be' = 0 → be7 = 0) ∧ h = ⟨T5, M7, (b5, [.int .i64 x.k, .int .i64 x.n, st x.t]) :: wL pb lv7 en op be' ba', R5⟩) (fun S2 hS2 => ?_) ?_
        · cases ok with
          | true =>
            simp +contextual only [go_sem, Rcb, Rbk, sevalprocAttr, e0, e3, e4]
            exact hS2 _ _ _ ⟨rfl, ⟨by simp only [e0, go_sem, Rcb, Rbk, sevalprocAttr], by simp only [e3, go_sem, Rcb, Rbk, sevalprocAttr], by simp only [e4, go_sem, Rcb, Rbk, sevalprocAttr], by simp only [go_sem, Rcb, Rbk, sevalprocAttr]⟩, _, _, hu7.congr fun _ => by rw [hok1 rfl], fun h => h, rfl⟩
          | false =>
            simp +contextual only [go_sem, Rcb, Rbk, sevalprocAttr, e0, e3, e4]
            refine at_w [(b5, _)] hl7 ?_
            simp +contextual only [go_sem, Rcb, Rbk, sevalprocAttr, e0, e3, e4]
            refine stop_w [(b5, _)] 2 _ ?_
            simp +contextual only [go_sem, Rcb, Rbk, sevalprocAttr]
            exact hS2 _ _ _ ⟨rfl, ⟨by simp only [e0, go_sem, Rcb, Rbk, sevalprocAttr], by simp only [e3, go_sem, Rcb, Rbk, sevalprocAttr], by simp only [e4, go_sem, Rcb, Rbk, sevalprocAttr], by simp only [go_sem, Rcb, Rbk, sevalprocAttr]⟩, _, _, hu7.stopped (fun _ => by rw [hok2 rfl]) (by decide), fun h => (stopM_ne (by decide) h).elim, rfl⟩
        clear e0 e3 e4
        rintro e ds h ⟨rfl, ⟨e0, e3, e4, e5⟩, be8, ba8, hu8, hb87, rfl⟩
        simp +contextual only [go_sem, Rcb, Rbk, sevalprocAttr, e0, e3, e4, e5, hno7, hap5, hb5]
        intro b hb hap
        refine app_acc (z := _) Tryz.underlying81 row81 okt81 hvacc (x := x) (show RV x _ from rfl) (fun _ _ => RV_len) (by intro u hu; simp only [List.mem_cons, List.not_mem_nil, or_false] at hu; rcases hu with rfl | rfl | rfl <;> rfl) hb (by omega) (by decide) ?_
        intro rv' R' hvacc'
        have ho := Acc_one hvacc'
        simp +contextual only [go_sem, Rcb, Rbk, sevalprocAttr, e0, e3, e4, e5, hap]
        have h34 : Ext M4 M7 := (hM5.trans hM6).trans hM7
        refine may_w [(b, _), (b5, _)] sComma hl7 (fun h80 hs lv9 hl9 => ?_) (fun hs lv9 hl9 => ?_)
        · have hu9 := hu8.congr fun _ => if_pos hs
          have h6 := hr7.good (hb87 h80)
          have hne := hr6.room h6
          simp +contextual only [go_sem, Rcb, Rbk, sevalprocAttr, e0, e3, e4]
          refine lp_close (Close_drop (Close_drop (Close_id ⟨10 - (vals.length + 1), ?_, rfl, ⟨?_, ?_⟩, T5, M7, lv9, t7.tail, be8, ba8, rv', R', vals ++ [x], _, ?_, hN5.trans hT5, h34, hno7, hl9, hvacc', ?_, hu9, fun _ => ⟨?_, rfl⟩, fun _ => hg5 h05, ?_, rfl⟩)))
          · rw [if_pos h05]; omega
          · simp only [e0, go_sem, Rcb, Rbk, sevalprocAttr]
          · simp only [e3, go_sem, Rcb, Rbk, sevalprocAttr]
          · simp only [go_sem, Rcb, Rbk, sevalprocAttr]
          · rw [List.length_append]; simp; omega
          · rw [List.length_append]; simp; omega
          · rw [if_pos h80, List.length_append]; rfl
        · have hu9 := hu8.congr fun h => if_neg (by rw [hs h]; decide)
          simp +contextual only [go_sem, Rcb, Rbk, sevalprocAttr, e0, e3, e4]
          exact hS' _ _ _ ⟨rfl, ⟨by simp only [e0, go_sem, Rcb, Rbk, sevalprocAttr], by simp only [e3, go_sem, Rcb, Rbk, sevalprocAttr]⟩, T5, M7, lv9, t7, be8, ba8, rv', R', vals ++ [x], [(b, _), (b5, _)], by simp only [go_sem, Rcb, Rbk, sevalprocAttr], hN5.trans hT5, h34, hno7, (show noneL M7 ((b, _) :: (b5, _) :: wL pb lv9 en op be8 ba8) from ⟨hb, hb5, by simpa only [noneL_wL] using hno7⟩), hl9, hvacc', by rw [List.length_append]; simp; omega, hu9, fun _ => hg5 h05, rfl⟩
      · simp +contextual only [go_sem, Rcb, Rbk, sevalprocAttr, e0, e3, h05]
        exact hS' _ _ _ ⟨rfl, ⟨by simp only [e0, go_sem, Rcb, Rbk, sevalprocAttr], by simp only [e3, go_sem, Rcb, Rbk, sevalprocAttr]⟩, N5, M5, lv5, t5, be5, ba5, _, R5, vals, [], by simp only [e4, go_sem, Rcb, Rbk, sevalprocAttr], hN5, hM5, np5, by simpa only [List.nil_append, noneL_wL] using np5, hl5, hvacc, hvl, hu5.congr fun h => (h05 h).elim, hg5, rfl⟩
    clear e0 e3 hu4 hl4
    rintro e ds h ⟨rfl, ⟨e0, e3⟩, N5, M5, lv5, t5, be5, ba5, rv, R5, vals, Lx, e4, hN5, hM5, np5, hnoL, hl5, hvacc, hvl, hu5, hg5, rfl⟩
    obtain ⟨va, vc, rfl⟩ := Acc_form hvacc
    simp +contextual only [go_sem, Rcb, Rbk, sevalprocAttr, e0, e3, e4]
    intro b7 hb7 hap7
    refine must_wa Lx hvacc (by omega) (by decide) hu5 hl5 ?_ (fun _ _ he h => RS_ext he (fun _ _ h => h) h)
    intro M6 t6 lv6 be6 ba6 hM6 np6 hu6 hb65 hl6 hrs
    simp +contextual only [go_sem, Rcb, Rbk, sevalprocAttr, e0, e3, e4]
    intro b hb hap
    have h26 := (((hM3.trans hM4).trans hM5).trans hM6)
    refine app_acc (z := _) Tryz.underlying61 row61 okt61 (Acc_mono (fun x cs h => RVs_ext h26 _ _ h) hacc) (x := vals) ⟨_, hrs, rfl⟩ (fun _ _ h => RVs_len h) (by intro u hu; simp only [List.mem_singleton] at hu; subst hu; rfl) hb (by omega) (by decide) ?_
    intro fv' R' hacc'
    have ho := Acc_one hacc'
    simp +contextual only [go_sem, Rcb, Rbk, sevalprocAttr, e0, e3, e4, hap]
    simp only [rowsK] at hu6
    refine may_w [(b, _)] sComma hl6 (fun h60 hs lv9 hl9 => ?_) (fun hs lv9 hl9 => ?_)
    · have hu9 := hu6.congr fun _ => if_pos hs
      have h3 := hb43 (hg5 (hb65 h60))
      have hne := hr3.room h3
      simp +contextual only [go_sem, Rcb, Rbk, sevalprocAttr, e0, e3, e4]
      refine lp_close (Close_drop (Close_id ⟨402 - (acc.length + 1), ?_, rfl, ?_, N5, M6, lv9, t6.tail, be6, ba6, fv', R', acc ++ [vals], _, hN.trans hN5, ?_, np6, hl9, hacc', ?_, hu9, fun _ => ⟨?_, rfl⟩, ?_, rfl⟩))
      · rw [if_pos h0]; omega
      · simp only [e0, go_sem, Rcb, Rbk, sevalprocAttr]
      · simp only [go_sem, Rcb, Rbk, sevalprocAttr]
      · rw [List.length_append]; simp; omega
      · rw [List.length_append]; simp; omega
      · rw [if_pos h60, List.length_append]; rfl
    · have hu9 := hu6.congr fun h => if_neg (by rw [hs h]; decide)
      simp +contextual only [go_sem, Rcb, Rbk, sevalprocAttr, e0, e3, e4]
      refine Close_acc hacc' (by rw [List.length_append]; simp; omega) (by decide) ⟨hb, by simpa only [noneL_wL] using np6⟩ fun M7 hM7 hno7 hrs7 => ?_
      exact fin_wr (enc := fun l v M => RS M (RVs M) 1 l v) [(b, _)] (hN.trans hN5) hu9 (RS_ext hM7 (fun _ _ h => h) hl9) (RS_ext Ext.rfl' (RVs_ext hM7) hrs7)
  · simp +contextual only [go_sem, Rcb, Rbk, sevalprocAttr, e0, e3, h0]
    refine Close_acc hacc (by omega) (by decide) (by simpa only [noneL_wL] using np) fun M6 hM6 hno6 hrs => ?_
    exact fin_wr (enc := fun l v M => RS M (RVs M) 1 l v) (a := acc) [] hN (hu.congr fun h => (h0 h).elim) (RS_ext hM6 (fun _ _ h => h) hl2) (RS_ext Ext.rfl' (RVs_ext hM6) hrs)
end Go.Proofs.YtoainkbcfnlkcaaGreatDoor

namespace Go.Proofs.YtoainkbcfnlkcaaGreatDoor
open Go Vc
set_option linter.unusedSimpArgs false
set_option linter.unusedVariables false
set_option maxRecDepth 10000
set_option maxHeartbeats 2000000

theorem ct_w_stmt {en : Int} {pb : Nat} {op : Int} {ex : List Tk → Rs X} (hex : LvD 75 en pb op ex) {M : Mem} {toks : List Tk} {lv : Value} {be ba : Int} (hl : RS M RTw 3 toks lv) (T : Tm) :
    CtT Tryz.prog 35 [.pointer (some ⟨pb, 0, none⟩)] T M (wL pb lv en op be ba) [] (postW pb en op encStm (stmtM en ex toks) be ba) noPan := by
  refine ct_run mx bod35 Tryz.func35 rfl (by rw [nt35]; exact Nat.le_of_ble_eq_true rfl) (dr := dr35) (by kernel_rfl) rs35 ?_
  intro hno _
  simp only [noneL_wL] at hno
  have hu := Up.rfl' (r := stmtM en ex toks) (be := be) (ba := ba)
  generalize hS : stmtM en ex toks = S at hu ⊢
  replace hu : Up (stmtM en ex toks) be ba S be ba := by rw [hS]; exact hu
  clear hS
  unfold stmtM at hu
  simp +contextual only [go_sem, Rcb, Rbk, sevalprocAttr]
  intro b2 T2 hb2 hap2 hT2 hTb2 b3 T3 hb3 hap3 hT3 hTb3
  have hT := hT2.trans hT3
  refine may_w [(b3, _), (b2, _)] wCreate hl (fun h0 hs lv1 hl1 => ?_) (fun hs lv1 hl1 => ?_)
  · replace hu := hu.congr fun _ => if_pos hs
    simp +contextual only [go_sem, Rcb, Rbk, sevalprocAttr]
    refine may_w [(b3, _), (b2, _)] wView hl1 (fun h0 hs lv2 hl2 => ?_) (fun hs lv2 hl2 => ?_)
    · replace hu := hu.congr fun _ => if_pos hs
      unfold viewM at hu
      simp +contextual only [go_sem, Rcb, Rbk, sevalprocAttr]
      refine part_w [(b3, _), (b2, _)] (ct_w_name hl2 T3) ?_
      rintro v M1 n t1 lv3 be1 ba1 hM1 hno1 hr1 hl3 rfl
      have hu1 := hu.bind hr1
      simp only [List.cons_append, List.nil_append, noneL, noneL_wL] at hno1
      simp +contextual only [go_sem, Rcb, Rbk, sevalprocAttr, hno1, hap2, hap3]
      intro b4 hb4 hap4
      refine must_w [(b3, _), (b2, _)] hu1 hl3 ?_
      intro M2 t2 lv4 be2 ba2 hM2 hno2 hu2 hl4
      simp +contextual only [go_sem, Rcb, Rbk, sevalprocAttr]
      refine part_w [(b3, _), (b2, _)] (ct_w_query hex hl4 T3) ?_
      rintro v M3 q t3 lv5 be3 ba3 hM3 hno3 hr3 hl5 ⟨cs, rfl, hq⟩
      have hu3 := hu2.bind hr3
      have hq' := hq
      obtain ⟨p, o, r, rfl, h1, h2, h3⟩ := RQ_form hq'
      simp only [List.cons_append, List.nil_append, noneL, noneL_wL] at hno3
      simp +contextual only [go_sem, Rcb, Rbk, sevalprocAttr, hno3, hap2, hap3, h1, h2, h3]
      exact fin_wr (enc := encStm) [(b3, _), (b2, _)] hT hu3 hl5 ⟨_, rfl, _, _, _, _, RS_nil, hq, RS_nil, RX_zero, rfl⟩
    · replace hu := hu.congr fun h => if_neg (by rw [hs h]; decide)
      unfold tableM at hu
      simp +contextual only [go_sem, Rcb, Rbk, sevalprocAttr]
      intro b4 hb4 hap4
      refine must_w [(b3, _), (b2, _)] hu hl2 ?_
      intro M1 t1 lv3 be1 ba1 hM1 hno1 hu1 hl3
      simp +contextual only [go_sem, Rcb, Rbk, sevalprocAttr]
      refine part_w [(b3, _), (b2, _)] (ct_w_name hl3 T3) ?_
      rintro v M2 n t2 lv4 be2 ba2 hM2 hno2 hr2 hl4 rfl
      have hu2 := hu1.bind hr2
      simp only [List.cons_append, List.nil_append, noneL, noneL_wL] at hno2
      simp +contextual only [go_sem, Rcb, Rbk, sevalprocAttr, hno2, hap2, hap3]
      intro b5 hb5 hap5
      refine must_w [(b3, _), (b2, _)] hu2 hl4 ?_
      intro M3 t3 lv5 be3 ba3 hM3 hno3 hu3 hl5
      simp +contextual only [go_sem, Rcb, Rbk, sevalprocAttr]
      refine part_w [(b3, _), (b2, _)] (ct_w_columns hl5 T3) ?_
      intro v M4 cols t4 lv6 be4 ba4 hM4 hno4 hr4 hl6 hv
      have hu4 := hu3.bind hr4
      obtain ⟨hv1, hv2⟩ := RS_one hv
      have hv2m := hv2
      simp only [Value.cells] at hv2m
      simp only [List.cons_append, List.nil_append, noneL, noneL_wL] at hno4
      simp +contextual only [go_sem, Rcb, Rbk, sevalprocAttr, hno4, hap2, hap3, hv1, hv2, hv2m]
      intro b6 hb6 hap6
      refine must_w [(b3, _), (b2, _)] hu4 hl6 ?_
      intro M5 t5 lv7 be5 ba5 hM5 hno5 hu5 hl7
      simp only [List.cons_append, List.nil_append, noneL, noneL_wL] at hno5
      simp +contextual only [go_sem, Rcb, Rbk, sevalprocAttr, hno5, hap2, hap3, hv1, hv2, hv2m]
      exact fin_wr (enc := encStm) [(b3, _), (b2, _)] hT hu5 hl7 ⟨_, rfl, _, _, _, _, RS_ext hM5 (fun _ _ h => h) hv, RQ_zero, RS_nil, RX_zero, rfl⟩
  replace hu := hu.congr fun h => if_neg (by rw [hs h]; decide)
  clear hs
  simp +contextual only [go_sem, Rcb, Rbk, sevalprocAttr]
  refine may_w [(b3, _), (b2, _)] wInsert hl1 (fun h0 hs lv2 hl2 => ?_) (fun hs lv2 hl2 => ?_)
  · replace hu := hu.congr fun _ => if_pos hs
    unfold insertM at hu
    simp +contextual only [go_sem, Rcb, Rbk, sevalprocAttr]
    intro b4 hb4 hap4
    refine must_w [(b3, _), (b2, _)] hu hl2 ?_
    intro M1 t1 lv3 be1 ba1 hM1 hno1 hu1 hl3
    simp +contextual only [go_sem, Rcb, Rbk, sevalprocAttr]
    refine part_w [(b3, _), (b2, _)] (ct_w_name hl3 T3) ?_
    rintro v M2 n t2 lv4 be2 ba2 hM2 hno2 hr2 hl4 rfl
    have hu2 := hu1.bind hr2
    simp only [List.cons_append, List.nil_append, noneL, noneL_wL] at hno2
    simp +contextual only [go_sem, Rcb, Rbk, sevalprocAttr, hno2, hap2, hap3]
    intro b5 hb5 hap5
    refine must_w [(b3, _), (b2, _)] hu2 hl4 ?_
    intro M3 t3 lv5 be3 ba3 hM3 hno3 hu3 hl5
    simp +contextual only [go_sem, Rcb, Rbk, sevalprocAttr]
    refine part_w [(b3, _), (b2, _)] (ct_w_rows hl5 T3) ?_
    intro v M4 rows t4 lv6 be4 ba4 hM4 hno4 hr4 hl6 hv
    have hu4 := hu3.bind hr4
    obtain ⟨hv1, hv2⟩ := RS_one hv
    have hv2m := hv2
    simp only [Value.cells] at hv2m
    simp only [List.cons_append, List.nil_append, noneL, noneL_wL] at hno4
    simp +contextual only [go_sem, Rcb, Rbk, sevalprocAttr, hno4, hap2, hap3, hv1, hv2, hv2m]
    exact fin_wr (enc := encStm) [(b3, _), (b2, _)] hT hu4 hl6 ⟨_, rfl, _, _, _, _, RS_nil, RQ_zero, hv, RX_zero, rfl⟩
  replace hu := hu.congr fun h => if_neg (by rw [hs h]; decide)
  clear hs
  simp +contextual only [go_sem, Rcb, Rbk, sevalprocAttr]
  refine may_w [(b3, _), (b2, _)] wDelete hl2 (fun h0 hs lv3 hl3 => ?_) (fun hs lv3 hl3 => ?_)
  · replace hu := hu.congr fun _ => if_pos hs
    unfold deleteM at hu
    simp +contextual only [go_sem, Rcb, Rbk, sevalprocAttr]
    intro b4 hb4 hap4
    refine must_w [(b3, _), (b2, _)] hu hl3 ?_
    intro M1 t1 lv4 be1 ba1 hM1 hno1 hu1 hl4
    simp +contextual only [go_sem, Rcb, Rbk, sevalprocAttr]
    refine part_w [(b3, _), (b2, _)] (ct_w_name hl4 T3) ?_
    rintro v M2 n t2 lv5 be2 ba2 hM2 hno2 hr2 hl5 rfl
    have hu2 := hu1.bind hr2
    simp only [List.cons_append, List.nil_append, noneL, noneL_wL] at hno2
    simp +contextual only [go_sem, Rcb, Rbk, sevalprocAttr, hno2, hap2, hap3]
    refine may_w1 [(b3, _), (b2, _)] wWhere hl5 fun w t6 lv8 hw ht6 hl8 => ?_
    have hu6 : Up ((if w = true then ex t6 else .ok zeroX t6).bind fun wh t' => .ok (⟨4, n, [], zeroQ, [], w, wh⟩ : Stm) t') be2 ba2 S be ba := hu2.congr fun h0 => by
      have e1 := hw h0
      subst e1
      unfold optX
      cases hs : seesM wWhere t2 with
      | true => rw [ht6 h0, hs]; rfl
      | false => rw [ht6 h0, hs]; rfl
    cases w with
    | true =>
      simp +contextual only [go_sem, Rcb, Rbk, sevalprocAttr, hno2, hap2, hap3]
      refine part_w [(b3, _), (b2, _)] (hex M2 _ lv8 _ _ T3 hl8) ?_
      rintro v M3 x t7 lv9 be7 ba7 hM7 hno7 hr7 hl9 ⟨cs, rfl, hx⟩
      obtain ⟨s, rfl, h1, _⟩ := RX_form hx
      have hu7 := hu6.bind hr7
      simp only [List.cons_append, List.nil_append, noneL, noneL_wL] at hno7
      simp +contextual only [go_sem, Rcb, Rbk, sevalprocAttr, hno7, hap2, hap3, h1]
      exact fin_wr (enc := encStm) [(b3, _), (b2, _)] hT hu7 hl9 ⟨_, rfl, _, _, _, _, RS_nil, RQ_zero, RS_nil, hx, rfl⟩
    | false =>
      simp +contextual only [go_sem, Rcb, Rbk, sevalprocAttr, hno2, hap2, hap3]
      exact fin_wr (enc := encStm) [(b3, _), (b2, _)] hT hu6 hl8 ⟨_, rfl, _, _, _, _, RS_nil, RQ_zero, RS_nil, RX_zero, rfl⟩
  replace hu := hu.congr fun h => if_neg (by rw [hs h]; decide)
  clear hs
  unfold showM at hu
  simp +contextual only [go_sem, Rcb, Rbk, sevalprocAttr]
  intro b4 hb4 hap4
  refine must_w [(b3, _), (b2, _)] hu hl3 ?_
  intro M1 t1 lv4 be1 ba1 hM1 hno1 hu1 hl4
  simp only [List.cons_append, List.nil_append, noneL, noneL_wL] at hno1
  simp +contextual only [go_sem, Rcb, Rbk, sevalprocAttr, hno1, hap2, hap3]
  refine part_w [(b3, _), (b2, _)] (ct_w_query hex hl4 T3) ?_
  rintro v M3 q t3 lv5 be3 ba3 hM3 hno3 hr3 hl5 ⟨cs, rfl, hq⟩
  have hu3 := hu1.bind hr3
  have hq' := hq
  obtain ⟨p, o, r, rfl, h1, h2, h3⟩ := RQ_form hq'
  simp only [List.cons_append, List.nil_append, noneL, noneL_wL] at hno3
  simp +contextual only [go_sem, Rcb, Rbk, sevalprocAttr, hno3, hap2, hap3, h1, h2, h3]
  exact fin_wr (enc := encStm) [(b3, _), (b2, _)] hT hu3 hl5 ⟨_, rfl, _, _, _, _, RS_nil, hq, RS_nil, RX_zero, rfl⟩
end Go.Proofs.YtoainkbcfnlkcaaGreatDoor

namespace Go.Proofs.YtoainkbcfnlkcaaGreatDoor
open Go Vc
set_option linter.unusedSimpArgs false
set_option linter.unusedVariables false
set_option maxRecDepth 10000
set_option maxHeartbeats 2000000

def singL : Bs := [60, 62, 61, 43, 45, 42, 40, 41, 44, 46, 59]
def twoL : List Bs := [[60, 62], [60, 61], [62, 61], [124, 124]]
def singB (c : UInt8) : Bool := singL.contains c
theorem signsL_eq : signsL = twoL ++ singL.map fun x => [x] := rfl
theorem find_sing (c : UInt8) (l : Bs) : ∀ L : Bs, (L.map fun x => [x]).find? (fun x => x.isPrefixOf (c :: l)) = if L.contains c = true then some [c] else none
  | [] => rfl
  | a :: L => by
    rw [List.map_cons, List.find?_cons]
    have h1 : ([a] : Bs).isPrefixOf (c :: l) = (a == c) := by simp [List.isPrefixOf]
    rw [h1]
    by_cases h : a = c
    · subst h; simp
    · have h2 : (a == c) = false := by simpa using h
      have h3 : (c == a) = false := by simpa using Ne.symm h
      rw [h2, List.contains_cons, h3, Bool.false_or]
      exact find_sing c l L
theorem two_pre {x s : Bs} (h : x ∈ twoL) : x.isPrefixOf s = true ↔ s.take 2 = x := by
  have hl : x.length = 2 := by
    have : ∀ x ∈ twoL, x.length = 2 := by decide
    exact this x h
  rw [List.isPrefixOf_iff_prefix, List.prefix_iff_eq_take, hl]
  exact eq_comm
theorem find_two {s x : Bs} (h : x ∈ twoL) (hs : s.take 2 = x) : signsL.find? (fun x => x.isPrefixOf s) = some x := by
  rw [signsL_eq, List.find?_append]
  have h1 : twoL.find? (fun x => x.isPrefixOf s) = some x := by
    rw [List.find?_eq_some_iff_append]
    refine ⟨(two_pre h).2 hs, ?_⟩
    obtain ⟨a, b, hab⟩ := List.append_of_mem h
    have hnd : twoL.Nodup := by decide
    refine ⟨a, b, hab, fun y hy => ?_⟩
    have hy2 : y ∈ twoL := by rw [hab]; exact List.mem_append_left _ hy
    simp only [Bool.not_eq_true', ← Bool.not_eq_true]
    rw [two_pre hy2, hs]
    rintro rfl
    rw [hab] at hnd
    have := (List.nodup_append.1 hnd).2.2
    exact absurd rfl (this x hy x (List.mem_cons_self ..))
  rw [h1]; rfl
theorem find_one {c : UInt8} {l : Bs} (h : (c :: l).take 2 ∉ twoL) : signsL.find? (fun x => x.isPrefixOf (c :: l)) = if singB c = true then some [c] else none := by
  rw [signsL_eq, List.find?_append]
  have h1 : twoL.find? (fun x => x.isPrefixOf (c :: l)) = none := by
    rw [List.find?_eq_none]
    intro x hx
    rw [two_pre hx]
    rintro rfl
    exact h hx
  rw [h1, Option.none_or]
  exact find_sing c l singL
theorem ct_single {M : Mem} (c : UInt8) (T : Tm) : CtT Tryz.prog 68 [.int .u8 (c.toNat : Int)] T M [] [] (fun r _ _ _ => r = .bool (singB c)) noPan := by
  refine ct_run mx bod68 Tryz.func68 rfl (by rw [nt68]; exact Nat.le_of_ble_eq_true rfl) (dr := dr68) (by kernel_rfl) rs68 ?_
  intro hno _
  simp +contextual only [go_sem, Rcb, Rbk, sevalprocAttr]
  intro b5 hb5
  refine loop_rangeC 11 8 [(0, .int .u8 (c.toNat : Int)), (6, .slice (some ⟨b5, 0, none⟩) 11 11), (7, .int .i64 11)] (fun i e h => (∃ M', h = ⟨T, M', [], []⟩ ∧ M' b5 = some (singL.map fun c => .int .u8 (c.toNat : Int))) ∧ singB c = (singL.drop i).contains c)
    0 (by omega) (by simp only [live, go_sem, Rcb, Rbk, sevalprocAttr]) (by simp only [go_sem, Rcb, Rbk, sevalprocAttr]) (Close_id ⟨⟨_, rfl, by simp only [Mem.add, if_true]; rfl⟩, rfl⟩) ?_
  rintro i e h hi hlv ht ⟨⟨M2, rfl, hw⟩, hres⟩
  simp only [live] at hlv
  by_cases hlt : i < 11
  · have hlt' : i < singL.length := hlt
    have hdrop : singL.drop i = singL[i] :: singL.drop (i + 1) := List.drop_eq_getElem_cons hlt'
    rw [hdrop, List.contains_cons] at hres
    have hx : mcell M2 ⟨b5, i, none⟩ = some (.int .u8 (singL[i].toNat : Int)) := by
      rw [mcell_some hw, List.getElem?_map, List.getElem?_eq_getElem hlt']
      rfl
    have hi3 : (i : Int) < 11 := by omega
    simp +contextual only [go_sem, Rcb, Rbk, sevalprocAttr, hlv, ht, hlt, hi3, hx]
    by_cases he : singL[i] = c
    · simp +contextual only [go_sem, Rcb, Rbk, sevalprocAttr, he]
      refine end_none ExtT.rfl' ?_
      rw [hres, he]; simp
    · have he' : ¬ ((singL[i].toNat : Nat) : Int) = ((c.toNat : Nat) : Int) := fun h => he (UInt8.toNat_inj.1 (by omega))
      simp +contextual only [go_sem, Rcb, Rbk, sevalprocAttr, he', hlv, ht]
      refine lp_range hlt ?_ ?_ ⟨⟨M2, rfl, hw⟩, ?_⟩
      · simp only [live, hlv, go_sem, Rcb, Rbk, sevalprocAttr]
      · simp only [ht, go_sem, Rcb, Rbk, sevalprocAttr, wrap_succ i (by omega)]
      · rw [hres]
        have : (c == singL[i]) = false := by simpa using Ne.symm he
        rw [this, Bool.false_or]
  · have : i = 11 := by omega
    subst this
    have h33 : ¬ ((11 : Nat) : Int) < 11 := by omega
    simp +contextual only [go_sem, Rcb, Rbk, sevalprocAttr, hlv, ht, h33]
    refine end_none ExtT.rfl' ?_
    rw [hres]; rfl
end Go.Proofs.YtoainkbcfnlkcaaGreatDoor

namespace Go.Proofs.YtoainkbcfnlkcaaGreatDoor
open Go Vc
set_option linter.unusedSimpArgs false
set_option linter.unusedVariables false
set_option maxRecDepth 10000
set_option maxHeartbeats 4000000

/-! ### tokens, as the document cuts them -/
def preT (acc : List Tk) : Except (Int × Int) (List Tk) → Except (Int × Int) (List Tk)
  | .error x => .error x
  | .ok ts => .ok (acc ++ ts)
def TokI (s : Bs) (m i : Nat) (acc : List Tk) : Prop := toksM (s.length + 1) 0 s = preT acc (toksM m (i : Int) (s.drop i))
theorem TokI_0 (s : Bs) : TokI s (s.length + 1) 0 [] := by
  unfold TokI
  rw [List.drop_zero]
  show _ = preT [] (toksM (s.length + 1) 0 s)
  cases toksM (s.length + 1) 0 s <;> simp [preT]
theorem TokI_end {s : Bs} {m : Nat} {acc : List Tk} (h : TokI s (m + 1) s.length acc) : toksM (s.length + 1) 0 s = .ok acc := by
  unfold TokI at h
  rw [List.drop_length] at h
  simpa only [toksM, preT, List.append_nil] using h
theorem TokI_space {s : Bs} {m i : Nat} {acc : List Tk} (h : TokI s (m + 1) i acc) (hlt : i < s.length) (hsp : spaceC s[i] = true) : TokI s m (i + 1) acc := by
  unfold TokI at h ⊢
  rw [List.drop_eq_getElem_cons hlt] at h
  simp only [toksM] at h
  rw [if_pos hsp] at h
  exact h
theorem TokI_err {s : Bs} {m i : Nat} {acc : List Tk} {x : Int × Int} (h : TokI s (m + 1) i acc) (hlt : i < s.length) (hsp : spaceC s[i] = false) (ho : oneM i (s.drop i) = .error x) : toksM (s.length + 1) 0 s = .error x := by
  unfold TokI at h
  rw [List.drop_eq_getElem_cons hlt] at h ho
  simp only [toksM] at h
  rw [if_neg (by rw [hsp]; decide), ho] at h
  exact h
theorem TokI_one {s : Bs} {m i n : Nat} {acc : List Tk} {t : Tk} (h : TokI s (m + 1) i acc) (hm : m + 1 + i = s.length + 1) (hlt : i < s.length) (hsp : spaceC s[i] = false) (ho : oneM i (s.drop i) = .ok (t, n)) :
    TokI s (m + 1 - n) (i + n) (acc ++ [t]) ∧ 1 ≤ n ∧ i + n ≤ s.length ∧ (t.k = 2 → numOk t.s = true) := by
  obtain ⟨h1, h2, h3⟩ := oneM_ok ho
  rw [List.length_drop] at h2
  refine ⟨?_, h1, by omega, h3⟩
  unfold TokI at h ⊢
  rw [List.drop_eq_getElem_cons hlt] at h ho
  simp only [toksM] at h
  rw [if_neg (by rw [hsp]; decide), ho] at h
  rw [← List.drop_eq_getElem_cons hlt] at h
  simp only [List.drop_drop] at h
  rw [h, toksM_fuel m (m + 1 - n) _ _ (by rw [List.length_drop]; omega) (by rw [List.length_drop]; omega)]
  rw [show ((i + n : Nat) : Int) = (i : Int) + (n : Int) from by omega]
  cases toksM (m + 1 - n) ((i : Int) + (n : Int)) (s.drop (i + n)) <;> simp [preT]
theorem runN_cons {p : UInt8 → Bool} {c : UInt8} {l : Bs} (h : p c = true) : runN p (c :: l) = runN p l + 1 := by simp [runN, List.takeWhile_cons, h]
theorem runN_stop {p : UInt8 → Bool} {c : UInt8} {l : Bs} (h : p c = false) : runN p (c :: l) = 0 := by simp [runN, List.takeWhile_cons, h]
def tokPost (s : Bs) : PostP := fun r M' _ _ => match tokensM s with
  | .ok ts => ∃ sv, r = .tuple #[sv, flt 0 0] ∧ RS M' RTw 3 ts sv
  | .error x => r = .tuple #[.slice none 0 0, flt x.1 x.2]
theorem ct_TokensR {M : Mem} (s : Bs) (T : Tm) : CtT Tryz.prog 32 [st s] T M [] [] (tokPost s) noPan := by
  refine ct_run mx bod32 Tryz.func32 rfl (by rw [nt32]; exact Nat.le_of_ble_eq_true rfl) (dr := dr32) (by kernel_rfl) rs32 ?_
  intro hno _
  simp +contextual only [go_sem, Rcb, Rbk, sevalprocAttr]
  intro b3 T3 hb3 hT3 hTb3
  by_cases h4 : 4000 < s.length
  · have h4' : (4000 : Int) < (s.length : Int) := by omega
    simp +contextual only [go_sem, Rcb, Rbk, sevalprocAttr, h4', hb3]
    refine end_none hT3 ?_
    unfold tokPost tokensM
    rw [if_pos h4]
    rfl
  have h4' : ¬ (4000 : Int) < (s.length : Int) := by omega
  have htk : tokensM s = toksM (s.length + 1) 0 s := by unfold tokensM; rw [if_neg h4]
  simp +contextual only [go_sem, Rcb, Rbk, sevalprocAttr, h4']
  refine loop_rule (fun m e ds h => ds = [] ∧ (e 0 = st s ∧ e 3 = .pointer (some ⟨b3, 0, none⟩)) ∧ ∃ i acc fv R M', e 5 = .int .i64 ((i : Nat) : Int) ∧ e 4 = fv ∧ m + i = s.length + 1 ∧ i ≤ s.length ∧ acc.length ≤ i ∧ M' b3 = none ∧
      Acc 123 3 RTw [] R fv acc ∧ TokI s m i acc ∧ h = ⟨T3, M', [(b3, [.int .i64 0, .int .i64 0])], R⟩)
    ⟨s.length + 1, rfl, ⟨(by simp only [go_sem, Rcb, Rbk, sevalprocAttr]), (by simp only [go_sem, Rcb, Rbk, sevalprocAttr])⟩, 0, [], _, [], M, (by simp only [go_sem, Rcb, Rbk, sevalprocAttr]), (by simp only [go_sem, Rcb, Rbk, sevalprocAttr]), by omega, by omega, by simp, hb3, Acc_nil, TokI_0 s, rfl⟩ ?_
  rintro m e ds h ⟨rfl, ⟨e0, e3⟩, i, acc, fv, R, M2, e5, e4, hm, hi, hacc, n3, hrow, hres, rfl⟩
  obtain ⟨fa, fc, rfl⟩ := Acc_form hrow
  obtain ⟨m, rfl⟩ : ∃ k, m = k + 1 := ⟨m - 1, by omega⟩
  by_cases hlt : i < s.length
  rotate_left
  · have : i = s.length := by omega
    subst this
    have hok := TokI_end hres
    simp +contextual only [go_sem, Rcb, Rbk, sevalprocAttr, e0, e3, e4, e5, hlt, n3]
    refine Close_acc hrow (by omega) (by decide) ⟨n3, trivial⟩ fun M6 hM6 hno6 hrs => ?_
    refine end_none hT3 ?_
    unfold tokPost
    rw [htk, hok]
    exact ⟨_, rfl, hrs⟩
  have hx := byteAt_bs hlt
  have hdrop : s.drop i = s[i] :: s.drop (i + 1) := List.drop_eq_getElem_cons hlt
  have hwr := wrap_succ i (by omega)
  simp +contextual only [go_sem, Rcb, Rbk, sevalprocAttr, e0, e3, e4, e5, hlt, hx, hwr]
  have hc : (((s[i].toNat : Int) = 32 ∨ (s[i].toNat : Int) = 9) ∨ (s[i].toNat : Int) = 10) ↔ spaceC s[i] = true := by
    have q : ∀ k : UInt8, ((s[i].toNat : Int) = (k.toNat : Int)) ↔ s[i] = k := fun k => ⟨fun h => UInt8.toNat_inj.1 (by omega), fun h => by rw [h]⟩
    simp only [spaceC, Bool.or_eq_true, decide_eq_true_eq]
    exact or_congr (or_congr (q 32) (q 9)) (q 10)
  by_cases hsp : spaceC s[i] = true
  · rw [if_pos (hc.2 hsp)]
    refine lp_close (Close_id ⟨m, by omega, rfl, ⟨?_, ?_⟩, i + 1, acc, _, R, M2, ?_, ?_, by omega, by omega, by omega, n3, hrow, TokI_space hres hlt hsp, rfl⟩)
    · simp only [e0, go_sem, Rcb, Rbk, sevalprocAttr]
    · simp only [e3, go_sem, Rcb, Rbk, sevalprocAttr]
    · simp only [go_sem, Rcb, Rbk, sevalprocAttr]
    · simp only [e4, go_sem, Rcb, Rbk, sevalprocAttr]
  rw [if_neg (fun h => hsp (hc.1 h))]
  simp only [Bool.not_eq_true] at hsp
  refine rCall_pure (ct_ref_letter _ _ T3) ?_ (fun _ _ _ _ h => h.elim)
  rintro v M3 hM3 hno3 rfl
  simp only [noneL, and_true] at hno3
  by_cases hlet : letterB s[i].toNat = true
  · have hone : oneM (i : Int) (s.drop i) = .ok (⟨1, (s.drop i).take (runN wordC (s.drop i)), i⟩, runN wordC (s.drop i)) := by rw [hdrop]; simp only [oneM, hlet, if_true]
    simp +contextual only [go_sem, sevalprocAttr, hlet]
    simp only [rCond_bool, if_true, Run_seq]
    refine run_cut (fun e ds h => ds = [] ∧ (e 0 = st s ∧ e 3 = .pointer (some ⟨b3, 0, none⟩) ∧ e 4 = .slice fa acc.length fc ∧ e 7 = .int .i64 (i : Nat)) ∧ ∃ M', M' b3 = none ∧ e 5 = .int .i64 ((i + runN wordC (s.drop i) : Nat) : Int) ∧ h = ⟨T3, M', [(b3, [.int .i64 0, .int .i64 0])], R⟩) (fun S' hS' => ?_) ?_
    · simp +contextual only [go_sem, Rcb, Rbk, sevalprocAttr]
      refine loop_rule (fun m e ds h => ds = [] ∧ (e 0 = st s ∧ e 3 = .pointer (some ⟨b3, 0, none⟩) ∧ e 4 = .slice fa acc.length fc ∧ e 7 = .int .i64 (i : Nat)) ∧ ∃ j M', M' b3 = none ∧ e 5 = .int .i64 ((j : Nat) : Int) ∧ m + j = s.length ∧ i + 1 ≤ j ∧ runN wordC (s.drop i) = (j - i) + runN wordC (s.drop j) ∧ h = ⟨T3, M', [(b3, [.int .i64 0, .int .i64 0])], R⟩)
        ⟨s.length - (i + 1), rfl, ⟨by simp only [e0, go_sem, Rcb, Rbk, sevalprocAttr], by simp only [e3, go_sem, Rcb, Rbk, sevalprocAttr], by simp only [e4, go_sem, Rcb, Rbk, sevalprocAttr], by simp only [go_sem, Rcb, Rbk, sevalprocAttr]⟩, i + 1, M3, hno3, by simp only [go_sem, Rcb, Rbk, sevalprocAttr], by omega, by omega, ?_, rfl⟩ ?_
      · rw [hdrop, runN_cons (show wordC s[i] = true by simp [wordC, hlet])]; omega
      clear e0 e3 e4 e5
      rintro m' e ds h ⟨rfl, ⟨e0, e3, e4, e7⟩, j, M4, n4, e5, hmj, hij, hrun, rfl⟩
      by_cases hj : j < s.length
      · have hxj := byteAt_bs hj
        have hdj : s.drop j = s[j] :: s.drop (j + 1) := List.drop_eq_getElem_cons hj
        have hwj := wrap_succ j (by omega)
        have go : ∀ (hw : wordC s[j] = true), runN wordC (s.drop i) = (j + 1 - i) + runN wordC (s.drop (j + 1)) := fun hw => by rw [hrun, hdj, runN_cons hw]; omega
        have stop : ∀ (hw : wordC s[j] = false), i + runN wordC (s.drop i) = j := fun hw => by rw [hrun, hdj, runN_stop hw]; omega
        simp +contextual only [go_sem, Rcb, Rbk, sevalprocAttr, e0, e3, e4, e5, e7, hj, hxj]
        refine rCall_pure (ct_ref_letter _ _ T3) ?_ (fun _ _ _ _ h => h.elim)
        rintro v M5 hM5 hno5 rfl
        simp only [noneL, and_true] at hno5
        by_cases hl : letterB s[j].toNat = true
        · simp +contextual only [go_sem, Rcb, Rbk, sevalprocAttr, e0, e3, e4, e5, e7, hl, hwj]
          refine lp_close (Close_id ⟨m' - 1, by omega, rfl, ⟨?_, ?_, ?_, ?_⟩, j + 1, M5, hno5, ?_, by omega, by omega, go (by simp [wordC, hl]), rfl⟩)
          · simp only [e0, go_sem, Rcb, Rbk, sevalprocAttr]
          · simp only [e3, go_sem, Rcb, Rbk, sevalprocAttr]
          · simp only [e4, go_sem, Rcb, Rbk, sevalprocAttr]
          · simp only [e7, go_sem, Rcb, Rbk, sevalprocAttr]
          · simp only [go_sem, Rcb, Rbk, sevalprocAttr]
        · simp +contextual only [go_sem, Rcb, Rbk, sevalprocAttr, e0, e3, e4, e5, e7, hl, hj, hxj]
          refine rCall_pure (ct_ref_digit _ _ T3) ?_ (fun _ _ _ _ h => h.elim)
          rintro v M6 hM6 hno6 rfl
          simp only [noneL, and_true] at hno6
          by_cases hd : digitB s[j].toNat = true
          · simp +contextual only [go_sem, Rcb, Rbk, sevalprocAttr, e0, e3, e4, e5, e7, hl, hd, hwj]
            refine lp_close (Close_id ⟨m' - 1, by omega, rfl, ⟨?_, ?_, ?_, ?_⟩, j + 1, M6, hno6, ?_, by omega, by omega, go (by simp [wordC, hd]), rfl⟩)
            · simp only [e0, go_sem, Rcb, Rbk, sevalprocAttr]
            · simp only [e3, go_sem, Rcb, Rbk, sevalprocAttr]
            · simp only [e4, go_sem, Rcb, Rbk, sevalprocAttr]
            · simp only [e7, go_sem, Rcb, Rbk, sevalprocAttr]
            · simp only [go_sem, Rcb, Rbk, sevalprocAttr]
          · simp +contextual only [go_sem, Rcb, Rbk, sevalprocAttr, e0, e3, e4, e5, e7, hl, hd]
            exact hS' _ _ _ ⟨rfl, ⟨by simp only [e0, go_sem, Rcb, Rbk, sevalprocAttr], by simp only [e3, go_sem, Rcb, Rbk, sevalprocAttr], by simp only [e4, go_sem, Rcb, Rbk, sevalprocAttr], by simp only [e7, go_sem, Rcb, Rbk, sevalprocAttr]⟩, M6, hno6, by simp only [e5, go_sem, Rcb, Rbk, sevalprocAttr, stop (show wordC s[j] = false by simp [wordC, hl, hd])], rfl⟩
      · have hjl : j = s.length := by omega
        subst hjl
        have stop : i + runN wordC (s.drop i) = s.length := by rw [hrun, List.drop_length]; simp only [runN, List.takeWhile_nil, List.length_nil]; omega
        simp +contextual only [go_sem, Rcb, Rbk, sevalprocAttr, e0, e3, e4, e5, e7, hj]
        exact hS' _ _ _ ⟨rfl, ⟨by simp only [e0, go_sem, Rcb, Rbk, sevalprocAttr], by simp only [e3, go_sem, Rcb, Rbk, sevalprocAttr], by simp only [e4, go_sem, Rcb, Rbk, sevalprocAttr], by simp only [e7, go_sem, Rcb, Rbk, sevalprocAttr]⟩, M4, n4, by simp only [e5, go_sem, Rcb, Rbk, sevalprocAttr, stop], rfl⟩
    clear e0 e3 e4 e5
    rintro e ds h ⟨rfl, ⟨e0, e3, e4, e7⟩, M4, n4, e5, rfl⟩
    generalize runN wordC (s.drop i) = n at hone e5
    obtain ⟨hres', hn1, hn2, hnum⟩ := TokI_one hres hm hlt hsp hone
    have hle1 : i ≤ i + n := by omega
    have hsub : i + n - i = n := by omega
    simp +contextual only [go_sem, Rcb, Rbk, sevalprocAttr, e0, e3, e4, e5, e7, hle1, hn2, hsub]
    intro b hb hap
    refine app_acc (z := _) Tryz.underlying70 row70 okt70 hrow (x := (⟨1, (s.drop i).take n, i⟩ : Tk)) ⟨rfl, (show (1 : Int) ≤ 1 ∧ (1 : Int) ≤ 4 by omega), hnum⟩ (fun _ _ => RTw_len) (by intro u hu; simp only [List.mem_cons, List.not_mem_nil, or_false] at hu; rcases hu with rfl | rfl | rfl <;> rfl) hb (by omega) (by decide) ?_
    intro fv' R' hrow'
    simp +contextual only [go_sem, Rcb, Rbk, sevalprocAttr, e0, e3, e4, e5, e7, hap]
    refine lp_close (Close_drop (Close_id ⟨m + 1 - n, by omega, rfl, ⟨?_, ?_⟩, i + n, _, _, R', M4, ?_, ?_, by omega, by omega, by rw [List.length_append]; simp; omega, n4, hrow', hres', rfl⟩))
    · simp only [e0, go_sem, Rcb, Rbk, sevalprocAttr]
    · simp only [e3, go_sem, Rcb, Rbk, sevalprocAttr]
    · simp only [e5, go_sem, Rcb, Rbk, sevalprocAttr]
    · simp only [go_sem, Rcb, Rbk, sevalprocAttr]
  simp +contextual only [go_sem, Rcb, Rbk, sevalprocAttr, hlet]
  refine rCall_pure (ct_ref_digit _ _ T3) ?_ (fun _ _ _ _ h => h.elim)
  rintro v M3' hM3' hno3' rfl
  simp only [noneL, and_true] at hno3'
  by_cases hdig : digitB s[i].toNat = true
  · have hone0 : oneM (i : Int) (s.drop i) = if 16 < runN digC (s.drop i) then .error (3, (i : Int)) else .ok (⟨2, (s.drop i).take (runN digC (s.drop i)), i⟩, runN digC (s.drop i)) := by rw [hdrop]; simp only [oneM, hlet, hdig, if_true, if_false, Bool.false_eq_true]
    simp +contextual only [go_sem, sevalprocAttr, hdig]
    simp only [rCond_bool, if_true, Run_seq]
    refine run_cut (fun e ds h => ds = [] ∧ (e 0 = st s ∧ e 3 = .pointer (some ⟨b3, 0, none⟩) ∧ e 4 = .slice fa acc.length fc ∧ e 7 = .int .i64 (i : Nat)) ∧ ∃ M', M' b3 = none ∧ e 5 = .int .i64 ((i + runN digC (s.drop i) : Nat) : Int) ∧ h = ⟨T3, M', [(b3, [.int .i64 0, .int .i64 0])], R⟩) (fun S' hS' => ?_) ?_
    · simp +contextual only [go_sem, Rcb, Rbk, sevalprocAttr]
      refine loop_rule (fun m e ds h => ds = [] ∧ (e 0 = st s ∧ e 3 = .pointer (some ⟨b3, 0, none⟩) ∧ e 4 = .slice fa acc.length fc ∧ e 7 = .int .i64 (i : Nat)) ∧ ∃ j M', M' b3 = none ∧ e 5 = .int .i64 ((j : Nat) : Int) ∧ m + j = s.length ∧ i + 1 ≤ j ∧ runN digC (s.drop i) = (j - i) + runN digC (s.drop j) ∧ h = ⟨T3, M', [(b3, [.int .i64 0, .int .i64 0])], R⟩)
        ⟨s.length - (i + 1), rfl, ⟨by simp only [e0, go_sem, Rcb, Rbk, sevalprocAttr], by simp only [e3, go_sem, Rcb, Rbk, sevalprocAttr], by simp only [e4, go_sem, Rcb, Rbk, sevalprocAttr], by simp only [go_sem, Rcb, Rbk, sevalprocAttr]⟩, i + 1, M3', hno3', by simp only [go_sem, Rcb, Rbk, sevalprocAttr], by omega, by omega, ?_, rfl⟩ ?_
      · rw [hdrop, runN_cons (show digC s[i] = true from hdig)]; omega
      clear e0 e3 e4 e5
      rintro m' e ds h ⟨rfl, ⟨e0, e3, e4, e7⟩, j, M4, n4, e5, hmj, hij, hrun, rfl⟩
      by_cases hj : j < s.length
      · have hxj := byteAt_bs hj
        have hdj : s.drop j = s[j] :: s.drop (j + 1) := List.drop_eq_getElem_cons hj
        have hwj := wrap_succ j (by omega)
        simp +contextual only [go_sem, Rcb, Rbk, sevalprocAttr, e0, e3, e4, e5, e7, hj, hxj]
        refine rCall_pure (ct_ref_digit _ _ T3) ?_ (fun _ _ _ _ h => h.elim)
        rintro v M5 hM5 hno5 rfl
        simp only [noneL, and_true] at hno5
        by_cases hl : digitB s[j].toNat = true
        · simp +contextual only [go_sem, Rcb, Rbk, sevalprocAttr, e0, e3, e4, e5, e7, hl, hwj]
          refine lp_close (Close_id ⟨m' - 1, by omega, rfl, ⟨?_, ?_, ?_, ?_⟩, j + 1, M5, hno5, ?_, by omega, by omega, ?_, rfl⟩)
          · simp only [e0, go_sem, Rcb, Rbk, sevalprocAttr]
          · simp only [e3, go_sem, Rcb, Rbk, sevalprocAttr]
          · simp only [e4, go_sem, Rcb, Rbk, sevalprocAttr]
          · simp only [e7, go_sem, Rcb, Rbk, sevalprocAttr]
          · simp only [go_sem, Rcb, Rbk, sevalprocAttr]
          · rw [hrun, hdj, runN_cons (show digC s[j] = true from hl)]; omega
        · have hstop : i + runN digC (s.drop i) = j := by rw [hrun, hdj, runN_stop (show digC s[j] = false by simpa [digC] using hl)]; omega
          simp +contextual only [go_sem, Rcb, Rbk, sevalprocAttr, e0, e3, e4, e5, e7, hl]
          exact hS' _ _ _ ⟨rfl, ⟨by simp only [e0, go_sem, Rcb, Rbk, sevalprocAttr], by simp only [e3, go_sem, Rcb, Rbk, sevalprocAttr], by simp only [e4, go_sem, Rcb, Rbk, sevalprocAttr], by simp only [e7, go_sem, Rcb, Rbk, sevalprocAttr]⟩, M5, hno5, by simp only [e5, go_sem, Rcb, Rbk, sevalprocAttr, hstop], rfl⟩
      · have hjl : j = s.length := by omega
        subst hjl
        have hstop : i + runN digC (s.drop i) = s.length := by rw [hrun, List.drop_length]; simp only [runN, List.takeWhile_nil, List.length_nil]; omega
        simp +contextual only [go_sem, Rcb, Rbk, sevalprocAttr, e0, e3, e4, e5, e7, hj]
        exact hS' _ _ _ ⟨rfl, ⟨by simp only [e0, go_sem, Rcb, Rbk, sevalprocAttr], by simp only [e3, go_sem, Rcb, Rbk, sevalprocAttr], by simp only [e4, go_sem, Rcb, Rbk, sevalprocAttr], by simp only [e7, go_sem, Rcb, Rbk, sevalprocAttr]⟩, M4, n4, by simp only [e5, go_sem, Rcb, Rbk, sevalprocAttr, hstop], rfl⟩
    clear e0 e3 e4 e5
    rintro e ds h ⟨rfl, ⟨e0, e3, e4, e7⟩, M4, n4, e5, rfl⟩
    have hnle : runN digC (s.drop i) ≤ s.length := Nat.le_trans (runN_le _ _) (by simp)
    generalize runN digC (s.drop i) = n at hone0 e5 hnle
    have hwn : IntKind.i64.wrap (((i + n : Nat) : Int) - (i : Int)) = (n : Int) := by rw [wrap64 (by omega) (by omega)]; omega
    by_cases h16 : 16 < n
    · have h16' : (16 : Int) < (n : Int) := by omega
      rw [if_pos h16] at hone0
      have herr := TokI_err hres hlt hsp hone0
      simp +contextual only [go_sem, Rcb, Rbk, sevalprocAttr, e0, e3, e4, e5, e7, hwn, h16', n4]
      refine end_none hT3 ?_
      unfold tokPost
      rw [htk, herr]; rfl
    have h16' : ¬ (16 : Int) < (n : Int) := by omega
    rw [if_neg h16] at hone0
    have hone := hone0
    obtain ⟨hres', hn1, hn2, hnum⟩ := TokI_one hres hm hlt hsp hone
    have hle1 : i ≤ i + n := by omega
    have hsub : i + n - i = n := by omega
    simp +contextual only [go_sem, Rcb, Rbk, sevalprocAttr, e0, e3, e4, e5, e7, hwn, h16', hle1, hn2, hsub]
    intro b hb hap
    refine app_acc (z := _) Tryz.underlying70 row70 okt70 hrow (x := (⟨2, (s.drop i).take n, i⟩ : Tk)) ⟨rfl, (show (1 : Int) ≤ 2 ∧ (2 : Int) ≤ 4 by omega), hnum⟩ (fun _ _ => RTw_len) (by intro u hu; simp only [List.mem_cons, List.not_mem_nil, or_false] at hu; rcases hu with rfl | rfl | rfl <;> rfl) hb (by omega) (by decide) ?_
    intro fv' R' hrow'
    simp +contextual only [go_sem, Rcb, Rbk, sevalprocAttr, e0, e3, e4, e5, e7, hap]
    refine lp_close (Close_drop (Close_id ⟨m + 1 - n, by omega, rfl, ⟨?_, ?_⟩, i + n, _, _, R', M4, ?_, ?_, by omega, by omega, by rw [List.length_append]; simp; omega, n4, hrow', hres', rfl⟩))
    · simp only [e0, go_sem, Rcb, Rbk, sevalprocAttr]
    · simp only [e3, go_sem, Rcb, Rbk, sevalprocAttr]
    · simp only [e5, go_sem, Rcb, Rbk, sevalprocAttr]
    · simp only [go_sem, Rcb, Rbk, sevalprocAttr]
  simp +contextual only [go_sem, sevalprocAttr, hdig]
  simp only [rCond_bool, Bool.false_eq_true, if_false, Run_seq]
  by_cases hq : s[i] = 39
  · have hq' : ((s[i].toNat : Nat) : Int) = 39 := by rw [hq]; rfl
    have hone0 : oneM (i : Int) (s.drop i) = match textM (s.drop (i + 1)) with | none => .error (2, (i : Int)) | some x => if 60 < x.1.length then .error (4, (i : Int)) else .ok (⟨3, x.1, i⟩, x.2 + 1) := by rw [hdrop]; simp only [oneM, hlet, hdig, if_false, Bool.false_eq_true]; exact if_pos hq
    simp +contextual only [go_sem, sevalprocAttr, e0, e3, e4, e5, hq']
    simp only [rCond_bool, if_true, Run_seq]
    simp +contextual only [go_sem, sevalprocAttr, e0, e3, e4, e5]
    refine run_cut (fun e ds h => ds = [] ∧ (e 0 = st s ∧ e 3 = .pointer (some ⟨b3, 0, none⟩) ∧ e 4 = .slice fa acc.length fc ∧ e 7 = .int .i64 (i : Nat)) ∧ ∃ M' tx k, M' b3 = none ∧ textM (s.drop (i + 1)) = some (tx, k) ∧ e 8 = st tx ∧ e 5 = .int .i64 ((i + (k + 1) : Nat) : Int) ∧ h = ⟨T3, M', [(b3, [.int .i64 0, .int .i64 0])], R⟩) (fun S' hS' => ?_) ?_
    · simp +contextual only [go_sem, Rcb, Rbk, sevalprocAttr]
      refine loop_rule (fun m e ds h => ds = [] ∧ (e 0 = st s ∧ e 3 = .pointer (some ⟨b3, 0, none⟩) ∧ e 4 = .slice fa acc.length fc ∧ e 7 = .int .i64 (i : Nat)) ∧ ∃ j tx M', M' b3 = none ∧ e 5 = .int .i64 ((j : Nat) : Int) ∧ e 8 = st tx ∧ tx.length ≤ j ∧ m + j = s.length ∧ i + 1 ≤ j ∧ textM (s.drop (i + 1)) = (textM (s.drop j)).map (fun x => (tx ++ x.1, (j - (i + 1)) + x.2)) ∧ h = ⟨T3, M', [(b3, [.int .i64 0, .int .i64 0])], R⟩)
        ⟨s.length - (i + 1), rfl, ⟨by simp only [e0, go_sem, Rcb, Rbk, sevalprocAttr], by simp only [e3, go_sem, Rcb, Rbk, sevalprocAttr], by simp only [e4, go_sem, Rcb, Rbk, sevalprocAttr], by simp only [go_sem, Rcb, Rbk, sevalprocAttr]⟩, i + 1, [], M3', hno3', by simp only [go_sem, Rcb, Rbk, sevalprocAttr], by simp only [go_sem, Rcb, Rbk, sevalprocAttr], by simp, by omega, by omega, by simp, rfl⟩ ?_
      clear e0 e3 e4 e5
      rintro m' e ds h ⟨rfl, ⟨e0, e3, e4, e7⟩, j, tx, M4, n4, e5, e8, htj, hmj, hij, htx, rfl⟩
      by_cases hj : j < s.length
      rotate_left
      · have hjl : j = s.length := by omega
        subst hjl
        have hnone : textM (s.drop (i + 1)) = none := by rw [htx, List.drop_length]; rfl
        rw [hnone] at hone0
        have herr := TokI_err hres hlt hsp hone0
        have hjn : s.length ≤ s.length := Nat.le_refl _
        simp +contextual only [go_sem, Rcb, Rbk, sevalprocAttr, e0, e3, e4, e5, e7, e8, hj, n4, hjn]
        refine end_none hT3 ?_
        unfold tokPost
        rw [htk, herr]; rfl
      have hxj := byteAt_bs hj
      have hjn : ¬ s.length ≤ j := by omega
      have htl : tx.length ≤ 9223372036854775806 := by omega
      have hdj : s.drop j = s[j] :: s.drop (j + 1) := List.drop_eq_getElem_cons hj
      have hwj := wrap_succ j (by omega)
      by_cases h39 : s[j] = 39
      · have h39' : ((s[j].toNat : Nat) : Int) = 39 := by rw [h39]; rfl
        by_cases hd : j + 1 < s.length ∧ s[j + 1]? = some 39
        · obtain ⟨hd1, hd2⟩ := hd
          have hx2 := byteAt_bs hd1
          have hv : s[j + 1] = 39 := by rw [List.getElem?_eq_getElem hd1] at hd2; injection hd2
          have hdj2 : s.drop (j + 1) = s[j + 1] :: s.drop (j + 1 + 1) := List.drop_eq_getElem_cons hd1
          have h39'' : ((s[j + 1].toNat : Nat) : Int) = 39 := by rw [hv]; rfl
          have hw2 : IntKind.i64.wrap ((j : Int) + 2) = ((j + 2 : Nat) : Int) := by rw [wrap64 (by omega) (by omega)]; omega
          simp +contextual only [go_sem, Rcb, Rbk, sevalprocAttr, e0, e3, e4, e5, e7, e8, hj, hjn, hxj, h39', hwj, hd1, hx2, h39'', hw2, htl, bs_append]
          refine lp_close (Close_id ⟨m' - 2, by omega, rfl, ⟨?_, ?_, ?_, ?_⟩, j + 2, tx ++ [39], M4, n4, ?_, ?_, by rw [List.length_append]; simp; omega, by omega, by omega, ?_, rfl⟩)
          · simp only [e0, go_sem, Rcb, Rbk, sevalprocAttr]
          · simp only [e3, go_sem, Rcb, Rbk, sevalprocAttr]
          · simp only [e4, go_sem, Rcb, Rbk, sevalprocAttr]
          · simp only [e7, go_sem, Rcb, Rbk, sevalprocAttr]
          · simp only [go_sem, Rcb, Rbk, sevalprocAttr]
          · simp only [go_sem, Rcb, Rbk, sevalprocAttr]
          · rw [htx, hdj, hdj2, h39, hv]
            simp only [textM, if_true]
            rw [Option.map_map]
            congr 1
            funext x
            simp only [Function.comp, List.append_assoc, List.cons_append, List.nil_append, Prod.mk.injEq, true_and]
            omega
        · have htxt : textM (s.drop j) = some ([], 1) := by
            rw [hdj, h39]
            cases hdr : s.drop (j + 1) with
            | nil => simp [textM]
            | cons d r =>
              have hd1 : j + 1 < s.length := by
                have := congrArg List.length hdr
                simp only [List.length_drop, List.length_cons] at this
                omega
              have hdd : d ≠ 39 := by
                rintro rfl
                apply hd
                refine ⟨hd1, ?_⟩
                rw [List.drop_eq_getElem_cons hd1] at hdr
                injection hdr with h1 h2
                rw [List.getElem?_eq_getElem hd1, h1]
              simp [textM, hdd]
          rw [htxt] at htx
          simp only [Option.map_some, List.append_nil] at htx
          have hlast : ∀ hd1 : j + 1 < s.length, ¬ ((s[j + 1].toNat : Nat) : Int) = 39 := by
            intro hd1 h
            have h2 : s[j + 1].toNat = 39 := by omega
            exact hd ⟨hd1, by rw [List.getElem?_eq_getElem hd1]; exact congrArg some (UInt8.toNat_inj.1 h2)⟩
          have hend : i + (j - (i + 1) + 1 + 1) = j + 1 := by omega
          by_cases hd1 : j + 1 < s.length
          · have hx2 := byteAt_bs hd1
            have hl2 := hlast hd1
            simp +contextual only [go_sem, Rcb, Rbk, sevalprocAttr, e0, e3, e4, e5, e7, e8, hj, hjn, hxj, h39', hwj, hd1, hx2, hl2]
            exact hS' _ _ _ ⟨rfl, ⟨by simp only [e0, go_sem, Rcb, Rbk, sevalprocAttr], by simp only [e3, go_sem, Rcb, Rbk, sevalprocAttr], by simp only [e4, go_sem, Rcb, Rbk, sevalprocAttr], by simp only [e7, go_sem, Rcb, Rbk, sevalprocAttr]⟩, M4, tx, _, n4, htx, by simp only [e8, go_sem, Rcb, Rbk, sevalprocAttr], by simp only [e5, go_sem, Rcb, Rbk, sevalprocAttr, hend], rfl⟩
          · simp +contextual only [go_sem, Rcb, Rbk, sevalprocAttr, e0, e3, e4, e5, e7, e8, hj, hjn, hxj, h39', hwj, hd1]
            exact hS' _ _ _ ⟨rfl, ⟨by simp only [e0, go_sem, Rcb, Rbk, sevalprocAttr], by simp only [e3, go_sem, Rcb, Rbk, sevalprocAttr], by simp only [e4, go_sem, Rcb, Rbk, sevalprocAttr], by simp only [e7, go_sem, Rcb, Rbk, sevalprocAttr]⟩, M4, tx, _, n4, htx, by simp only [e8, go_sem, Rcb, Rbk, sevalprocAttr], by simp only [e5, go_sem, Rcb, Rbk, sevalprocAttr, hend], rfl⟩
      · have h39' : ¬ ((s[j].toNat : Nat) : Int) = 39 := fun h => h39 (UInt8.toNat_inj.1 (by have : ((39 : UInt8).toNat : Int) = 39 := rfl; omega))
        have hle1 : j ≤ j + 1 := by omega
        have hle2 : j + 1 ≤ s.length := hj
        have hsub : j + 1 - j = 1 := by omega
        have htake : (s.drop j).take 1 = [s[j]] := by rw [hdj]; rfl
        simp +contextual only [go_sem, Rcb, Rbk, sevalprocAttr, e0, e3, e4, e5, e7, e8, hj, hjn, hxj, h39', hwj, hle1, hle2, hsub, htake, htl, bs_append]
        refine lp_close (Close_id ⟨m' - 1, by omega, rfl, ⟨?_, ?_, ?_, ?_⟩, j + 1, tx ++ [s[j]], M4, n4, ?_, ?_, by rw [List.length_append]; simp; omega, by omega, by omega, ?_, rfl⟩)
        · simp only [e0, go_sem, Rcb, Rbk, sevalprocAttr]
        · simp only [e3, go_sem, Rcb, Rbk, sevalprocAttr]
        · simp only [e4, go_sem, Rcb, Rbk, sevalprocAttr]
        · simp only [e7, go_sem, Rcb, Rbk, sevalprocAttr]
        · simp only [go_sem, Rcb, Rbk, sevalprocAttr]
        · simp only [go_sem, Rcb, Rbk, sevalprocAttr]
        · have : textM (s.drop j) = (textM (s.drop (j + 1))).map fun x => (s[j] :: x.1, x.2 + 1) := by
            rw [hdj]
            cases s.drop (j + 1) with
            | nil => simp [textM, h39]
            | cons d r => simp [textM, h39]
          rw [htx, this, Option.map_map]
          congr 1
          funext x
          simp only [Function.comp, List.append_assoc, List.cons_append, List.nil_append, Prod.mk.injEq, true_and]
          omega
    clear e0 e3 e4 e5
    rintro e ds h ⟨rfl, ⟨e0, e3, e4, e7⟩, M4, tx, k, n4, htx, e8, e5, rfl⟩
    rw [htx] at hone0
    simp only at hone0
    generalize k + 1 = n at hone0 e5
    by_cases h60 : 60 < tx.length
    · have h60' : (60 : Int) < (tx.length : Int) := by omega
      rw [if_pos h60] at hone0
      have herr := TokI_err hres hlt hsp hone0
      simp +contextual only [go_sem, Rcb, Rbk, sevalprocAttr, e0, e3, e4, e5, e7, e8, h60', n4]
      refine end_none hT3 ?_
      unfold tokPost
      rw [htk, herr]; rfl
    have h60' : ¬ (60 : Int) < (tx.length : Int) := by omega
    rw [if_neg h60] at hone0
    have hone := hone0
    obtain ⟨hres', hn1, hn2, hnum⟩ := TokI_one hres hm hlt hsp hone
    have hle1 : i ≤ i + n := by omega
    have hsub : i + n - i = n := by omega
    simp +contextual only [go_sem, Rcb, Rbk, sevalprocAttr, e0, e3, e4, e5, e7, e8, h60', hle1, hn2, hsub]
    intro b hb hap
    refine app_acc (z := _) Tryz.underlying70 row70 okt70 hrow (x := (⟨3, tx, i⟩ : Tk)) ⟨rfl, (show (1 : Int) ≤ 3 ∧ (3 : Int) ≤ 4 by omega), hnum⟩ (fun _ _ => RTw_len) (by intro u hu; simp only [List.mem_cons, List.not_mem_nil, or_false] at hu; rcases hu with rfl | rfl | rfl <;> rfl) hb (by omega) (by decide) ?_
    intro fv' R' hrow'
    simp +contextual only [go_sem, Rcb, Rbk, sevalprocAttr, e0, e3, e4, e5, e7, hap]
    refine lp_close (Close_drop (Close_id ⟨m + 1 - n, by omega, rfl, ⟨?_, ?_⟩, i + n, _, _, R', M4, ?_, ?_, by omega, by omega, by rw [List.length_append]; simp; omega, n4, hrow', hres', rfl⟩))
    · simp only [e0, go_sem, Rcb, Rbk, sevalprocAttr]
    · simp only [e3, go_sem, Rcb, Rbk, sevalprocAttr]
    · simp only [e5, go_sem, Rcb, Rbk, sevalprocAttr]
    · simp only [go_sem, Rcb, Rbk, sevalprocAttr]
  have hq' : ¬ ((s[i].toNat : Nat) : Int) = 39 := fun h => hq (UInt8.toNat_inj.1 (by have : ((39 : UInt8).toNat : Int) = 39 := rfl; omega))
  have hone0 : oneM (i : Int) (s.drop i) = match signsL.find? (·.isPrefixOf (s.drop i)) with | none => .error (2, (i : Int)) | some x => .ok (⟨4, x, i⟩, x.length) := by rw [hdrop]; simp only [oneM, hlet, hdig, if_false, Bool.false_eq_true]; exact if_neg hq
  simp +contextual only [go_sem, sevalprocAttr, e0, e3, e4, e5, hq']
  simp only [rCond_bool, Bool.false_eq_true, if_false, Run_seq]
  simp +contextual only [go_sem, sevalprocAttr, e0, e3, e4, e5]
  refine cond_cut (fun e ds h => ds = [] ∧ (e 0 = st s ∧ e 3 = .pointer (some ⟨b3, 0, none⟩) ∧ e 4 = .slice fa acc.length fc ∧ e 7 = .int .i64 (i : Nat) ∧ e 5 = .int .i64 ((i + 1 : Nat) : Int) ∧ e 6 = .int .u8 (s[i].toNat : Int)) ∧
      ∃ tw, e 9 = st tw ∧ (tw ∈ twoL → (s.drop i).take 2 = tw) ∧ (tw ∉ twoL → (s.drop i).take 2 ∉ twoL) ∧ h = ⟨T3, M3', [(b3, [.int .i64 0, .int .i64 0])], R⟩) (fun S2 hS2 => ?_) ?_
  · by_cases hi1 : i + 1 < s.length
    · have hle1 : i ≤ i + 1 + 1 := by omega
      have hle2 : i + 1 + 1 ≤ s.length := hi1
      have hsub : i + 1 + 1 - i = 2 := by omega
      have hwi := wrap_succ (i + 1) (by omega)
      simp +contextual only [go_sem, Rcb, Rbk, sevalprocAttr, e0, e3, e4, e5, hi1, hle1, hle2, hsub, hwi]
      exact hS2 _ _ _ ⟨rfl, ⟨by simp only [e0, go_sem, Rcb, Rbk, sevalprocAttr], by simp only [e3, go_sem, Rcb, Rbk, sevalprocAttr], by simp only [e4, go_sem, Rcb, Rbk, sevalprocAttr], by simp only [go_sem, Rcb, Rbk, sevalprocAttr], by simp only [go_sem, Rcb, Rbk, sevalprocAttr], by simp only [go_sem, Rcb, Rbk, sevalprocAttr]⟩, _, by simp only [go_sem, Rcb, Rbk, sevalprocAttr], fun _ => rfl, fun h => h, rfl⟩
    · simp +contextual only [go_sem, Rcb, Rbk, sevalprocAttr, e0, e3, e4, e5, hi1]
      refine hS2 _ _ _ ⟨rfl, ⟨by simp only [e0, go_sem, Rcb, Rbk, sevalprocAttr], by simp only [e3, go_sem, Rcb, Rbk, sevalprocAttr], by simp only [e4, go_sem, Rcb, Rbk, sevalprocAttr], by simp only [go_sem, Rcb, Rbk, sevalprocAttr], by simp only [go_sem, Rcb, Rbk, sevalprocAttr], by simp only [go_sem, Rcb, Rbk, sevalprocAttr]⟩, [], by simp only [go_sem, Rcb, Rbk, sevalprocAttr], fun h => absurd h (by decide), fun _ h => ?_, rfl⟩
      have hl2 : ∀ x ∈ twoL, x.length = 2 := by decide
      have := hl2 _ h
      rw [List.length_take, List.length_drop] at this
      omega
  clear e0 e3 e4 e5
  rintro e ds h ⟨rfl, ⟨e0, e3, e4, e7, e5, e6⟩, tw, e9, htw1, htw2, rfl⟩
  have two : tw ∈ twoL → oneM (i : Int) (s.drop i) = .ok (⟨4, (s.drop i).take 2, i⟩, 2) := fun h => by
    rw [hone0, find_two h (htw1 h)]
    have hl2 : ∀ x ∈ twoL, x.length = 2 := by decide
    simp only [hl2 _ h, htw1 h]
  have one : tw ∉ twoL → oneM (i : Int) (s.drop i) = if singB s[i] = true then .ok (⟨4, (s.drop i).take 1, i⟩, 1) else .error (2, (i : Int)) := fun h => by
    have h2 := htw2 h
    rw [hone0]
    rw [hdrop] at h2 ⊢
    rw [find_one h2]
    cases hs : singB s[i] <;> rfl
  have hw1 := wrap_succ (i + 1) (by omega)
  by_cases htw : tw ∈ twoL
  · have hone := two htw
    simp only [twoL, List.mem_cons, List.not_mem_nil, or_false] at htw
    have hb : ∀ x y : Bs, (bs x = bs y) = (x = y) := fun x y => propext bs_inj
    rcases htw with rfl | rfl | rfl | rfl
    all_goals
      obtain ⟨hres', hn1, hn2, hnum⟩ := TokI_one hres hm hlt hsp hone
      have hle1 : i ≤ i + 1 + 1 := by omega
      have hle2 : i + 1 + 1 ≤ s.length := hn2
      have hsub : i + 1 + 1 - i = 2 := by omega
      simp +contextual only [go_sem, Rcb, Rbk, sevalprocAttr, e0, e3, e4, e5, e7, e9, hw1, hle1, hle2, hsub]
      intro b hb hap
      refine app_acc (z := _) Tryz.underlying70 row70 okt70 hrow (x := (⟨4, (s.drop i).take 2, i⟩ : Tk)) ⟨rfl, (show (1 : Int) ≤ 4 ∧ (4 : Int) ≤ 4 by omega), hnum⟩ (fun _ _ => RTw_len) (by intro u hu; simp only [List.mem_cons, List.not_mem_nil, or_false] at hu; rcases hu with rfl | rfl | rfl <;> rfl) hb (by omega) (by decide) ?_
      intro fv' R' hrow'
      simp +contextual only [go_sem, Rcb, Rbk, sevalprocAttr, e0, e3, e4, e5, e7, hap]
      refine lp_close (Close_drop (Close_id ⟨m + 1 - 2, by omega, rfl, ⟨?_, ?_⟩, i + 2, _, _, R', M3', ?_, ?_, by omega, by omega, by rw [List.length_append]; simp; omega, hno3', hrow', hres', rfl⟩))
      · simp only [e0, go_sem, Rcb, Rbk, sevalprocAttr]
      · simp only [e3, go_sem, Rcb, Rbk, sevalprocAttr]
      · simp only [go_sem, Rcb, Rbk, sevalprocAttr]
      · simp only [go_sem, Rcb, Rbk, sevalprocAttr]
  · have hone0 := one htw
    have hne : ∀ x ∈ twoL, ¬ bs tw = bs x := fun x hx h => htw (bs_inj.1 h ▸ hx)
    have hn1 := hne [60, 62] (by decide)
    have hn2 := hne [60, 61] (by decide)
    have hn3 := hne [62, 61] (by decide)
    have hn4 := hne [124, 124] (by decide)
    have hm1 : ¬ tw = [60, 62] := fun h => hn1 (congrArg bs h)
    have hm2 : ¬ tw = [60, 61] := fun h => hn2 (congrArg bs h)
    have hm3 : ¬ tw = [62, 61] := fun h => hn3 (congrArg bs h)
    have hm4 : ¬ tw = [124, 124] := fun h => hn4 (congrArg bs h)
    simp +contextual only [go_sem, Rcb, Rbk, sevalprocAttr, e0, e3, e4, e5, e6, e7, e9, hm1, hm2, hm3, hm4]
    refine rCall_pure (ct_single _ T3) ?_ (fun _ _ _ _ h => h.elim)
    rintro v M4 hM4 hno4 rfl
    simp only [noneL, and_true] at hno4
    by_cases hsg : singB s[i] = true
    · rw [if_pos hsg] at hone0
      have hone := hone0
      obtain ⟨hres', hn1, hn2, hnum⟩ := TokI_one hres hm hlt hsp hone
      have hle1 : i ≤ i + 1 := by omega
      have hsub : i + 1 - i = 1 := by omega
      simp +contextual only [go_sem, Rcb, Rbk, sevalprocAttr, e0, e3, e4, e5, e7, hsg, hle1, hn2, hsub]
      intro b hb hap
      refine app_acc (z := _) Tryz.underlying70 row70 okt70 hrow (x := (⟨4, (s.drop i).take 1, i⟩ : Tk)) ⟨rfl, (show (1 : Int) ≤ 4 ∧ (4 : Int) ≤ 4 by omega), hnum⟩ (fun _ _ => RTw_len) (by intro u hu; simp only [List.mem_cons, List.not_mem_nil, or_false] at hu; rcases hu with rfl | rfl | rfl <;> rfl) hb (by omega) (by decide) ?_
      intro fv' R' hrow'
      simp +contextual only [go_sem, Rcb, Rbk, sevalprocAttr, e0, e3, e4, e5, e7, hap]
      refine lp_close (Close_drop (Close_id ⟨m + 1 - 1, by omega, rfl, ⟨?_, ?_⟩, i + 1, _, _, R', M4, ?_, ?_, by omega, by omega, by rw [List.length_append]; simp; omega, hno4, hrow', hres', rfl⟩))
      · simp only [e0, go_sem, Rcb, Rbk, sevalprocAttr]
      · simp only [e3, go_sem, Rcb, Rbk, sevalprocAttr]
      · simp only [e5, go_sem, Rcb, Rbk, sevalprocAttr]
      · simp only [go_sem, Rcb, Rbk, sevalprocAttr]
    · rw [if_neg hsg] at hone0
      have herr := TokI_err hres hlt hsp hone0
      simp +contextual only [go_sem, Rcb, Rbk, sevalprocAttr, e0, e3, e4, e5, e7, hsg, hno4]
      refine end_none hT3 ?_
      unfold tokPost
      rw [htk, herr]; rfl
end Go.Proofs.YtoainkbcfnlkcaaGreatDoor


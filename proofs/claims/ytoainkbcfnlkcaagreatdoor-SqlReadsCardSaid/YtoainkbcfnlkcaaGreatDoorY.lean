import Derived.Test.YtoainkbcfnlkcaaGreatDoorU
import Derived.Test.YtoainkbcfnlkcaaGreatDoorI
set_option linter.all false
namespace Go.Proofs.YtoainkbcfnlkcaaGreatDoor
open Go Vc
set_option linter.unusedSimpArgs false
set_option linter.unusedVariables false
set_option maxRecDepth 10000
set_option maxHeartbeats 2000000

/-! ### what is wrong with a form, as the document says -/
theorem ct_Kids (k : Int) (M : Mem) : Ct Tryz.prog 169 [.int .i64 k] M [] [] (fun r _ _ _ => r = .int .i64 (kidsN k)) noPan := by
  intro T
  refine ct_run mx bod169 Tryz.func169 rfl (by rw [nt169]; exact Nat.le_of_ble_eq_true rfl) (dr := dr169) (by kernel_rfl) rs169 ?_
  intro hno _
  by_cases h1 : k < 1
  · simp +contextual only [go_sem, Rcb, Rbk, sevalprocAttr, h1]
    refine end_none ExtT.rfl' (int_eq ?_)
    simp only [kidsN]; grind
  by_cases h2 : 23 < k
  · simp +contextual only [go_sem, Rcb, Rbk, sevalprocAttr, h1, h2]
    refine end_none ExtT.rfl' (int_eq ?_)
    simp only [kidsN]; grind
  have h : k = 1 ∨ k = 2 ∨ k = 3 ∨ k = 4 ∨ k = 5 ∨ k = 6 ∨ k = 7 ∨ k = 8 ∨ k = 9 ∨ k = 10 ∨ k = 11 ∨ k = 12 ∨ k = 13 ∨ k = 14 ∨ k = 15 ∨ k = 16 ∨ k = 17 ∨ k = 18 ∨ k = 19 ∨ k = 20 ∨ k = 21 ∨ k = 22 ∨ k = 23 := by omega
  clear h1 h2
  rcases h with rfl | rfl | rfl | rfl | rfl | rfl | rfl | rfl | rfl | rfl | rfl | rfl | rfl | rfl | rfl | rfl | rfl | rfl | rfl | rfl | rfl | rfl | rfl
  all_goals
    simp +contextual only [go_sem, Rcb, Rbk, sevalprocAttr]
    intro b hb
    exact end_none ExtT.rfl' (int_eq (by decide))
theorem ct_form : ∀ (sz : Nat) (x : X), SizeOf.sizeOf x ≤ sz → ∀ (M : Mem) (T : Tm) (hb deep n : Nat) (cs : List Value), RX M x cs → n ≤ 200 → deep ≤ 21 →
    CtT Tryz.prog 152 [.agg ⟨cs⟩, .int .i64 (deep : Int), .pointer (some ⟨hb, 0, none⟩)] T M [(hb, [.int .i64 (n : Int)])] [] (fun r M' L' R' => r = .int .i64 (shapeX deep n x).1 ∧ L' = [(hb, [.int .i64 ((shapeX deep n x).2 : Int)])] ∧ R' = []) noPan := by
  intro sz
  induction sz with
  | zero => intro x hx; cases x; simp at hx
  | succ sz ih =>
    intro x hsz M T hb deep n cs hx hn hdeep
    obtain ⟨s, rfl, h1, hs⟩ := RX_form hx
    obtain ⟨hbk, a, c, rfl, hle, _, hget⟩ := RS_elim (by decide) (fun _ _ => RX_len) hs
    refine ct_run mx bod152 Tryz.func152 rfl (by rw [nt152]; exact Nat.le_of_ble_eq_true rfl) (dr := dr152) (by kernel_rfl) rs152 ?_
    intro hno _
    simp only [noneL, and_true] at hno
    have hwn := wrap_succ n (by omega)
    have hwd := wrap_succ deep (by omega)
    cases x with | mk k v tab name kids =>
    simp only [X.k, X.v, X.tab, X.name, X.kids] at hget hle hs hbk ⊢
    obtain ⟨S, hS⟩ : ∃ S, S = shapeX deep n (.mk k v tab name kids) := ⟨_, rfl⟩
    rw [← hS]
    rw [shapeX] at hS
    simp +contextual only [go_sem, Rcb, Rbk, sevalprocAttr, hno, hwn]
    intro b T1 hb1 hap1 hT1 hTb1
    by_cases hmuch : 200 < n + 1 ∨ 20 < deep
    · rw [if_pos hmuch] at hS
      rw [if_pos (by omega)]
      exact Close_drop (end_id hT1 rfl rfl ⟨by rw [hS], by rw [hS], rfl⟩)
    rw [if_neg hmuch] at hS
    rw [if_neg (by omega)]
    refine rCall_pure (ct_Kids k M T1) ?_ (fun _ _ _ _ h => h.elim)
    rintro r M1 hM1 hno1 rfl
    simp only [noneL, and_true] at hno1
    by_cases hk0 : kidsN k < 0
    · rw [if_pos hk0] at hS
      simp +contextual only [go_sem, Rcb, Rbk, sevalprocAttr, hk0]
      exact Close_drop (end_id hT1 rfl rfl ⟨by rw [hS], by rw [hS], rfl⟩)
    rw [if_neg hk0] at hS
    by_cases hkl : kidsN k = (kids.length : Int)
    rotate_left
    · rw [if_pos (fun h => hkl h.symm)] at hS
      simp +contextual only [go_sem, Rcb, Rbk, sevalprocAttr, hk0, hkl, hno1, hap1]
      exact Close_drop (end_id hT1 rfl rfl ⟨by rw [hS], by rw [hS], rfl⟩)
    rw [if_neg (fun h => h hkl.symm)] at hS
    by_cases h1 : k = 1
    · subst h1
      rw [if_pos rfl] at hS
      simp +contextual only [go_sem, Rcb, Rbk, sevalprocAttr, hk0, hkl, hno1, hap1]
      refine rCall_pure (ct_ref1_Wrong v M1 T1) ?_ (fun _ _ _ _ h => h.elim)
      rintro r M2 hM2 hno2 rfl
      simp +contextual only [go_sem, Rcb, Rbk, sevalprocAttr]
      exact Close_drop (end_id hT1 rfl rfl ⟨by rw [hS], by rw [hS], rfl⟩)
    rw [if_neg h1] at hS
    simp +contextual only [go_sem, sevalprocAttr, hk0]
    simp only [rCond_bool, Bool.false_eq_true, if_false, Run_skip, Run_seq]
    simp +contextual only [go_sem, sevalprocAttr, hkl, hno1, hap1]
    simp only [rCond_bool, Bool.false_eq_true, if_false, Run_skip, Run_seq]
    simp +contextual only [go_sem, sevalprocAttr, h1, hno1, hap1]
    simp only [rCond_bool, Bool.false_eq_true, if_false, Run_skip, Run_seq]
    refine run_cut (fun e ds h => ds = [] ∧ (e 1 = .int .i64 (deep : Int) ∧ e 2 = .pointer (some ⟨hb, 0, none⟩) ∧ e 3 = .pointer (some ⟨b, 0, none⟩)) ∧ ∃ M' B, Ext M1 M' ∧ M' b = none ∧ M' hb = none ∧ e 61 = .bool B ∧ S = (if B = true then (7, n + 1) else shapeL (deep + 1) (n + 1) kids) ∧ h = ⟨T1, M', [(b, [.int .i64 k, .int .i64 v.k, .int .i64 v.n, st v.t, st tab, st name, .slice a kids.length c]), (hb, [.int .i64 ((n + 1 : Nat) : Int)])], []⟩) (fun S' hS' => ?_) ?_
    · by_cases h2 : k = 2
      · subst h2
        simp +contextual only [go_sem, Rcb, Rbk, sevalprocAttr, hno1, hap1]
        refine rCall_pure (ct_NamedR name T1) ?_ (fun _ _ _ _ h => h.elim)
        rintro r M2 hM2 hno2 rfl
        simp only [noneL, and_true] at hno2
        by_cases hn1 : namedB name = true
        · by_cases htb : tab = []
          · rw [if_neg (by rintro ⟨_, h | ⟨h, _⟩⟩; rw [hn1] at h; cases h; exact h htb)] at hS
            subst htb
            simp +contextual only [go_sem, Rcb, Rbk, sevalprocAttr, hn1, hno2, hap1]
            exact hS' _ _ _ ⟨rfl, ⟨by simp only [go_sem, Rcb, Rbk, sevalprocAttr], by simp only [go_sem, Rcb, Rbk, sevalprocAttr], by simp only [go_sem, Rcb, Rbk, sevalprocAttr]⟩, M2, false, hM2, hno2.1, hno2.2, by simp only [go_sem, Rcb, Rbk, sevalprocAttr], hS, rfl⟩
          · have htb' : ¬ tab.length = 0 := fun h => htb (List.length_eq_zero_iff.1 h)
            have htb2 : 0 < tab.length := by omega
            have htb3 : (0 : Int) < (tab.length : Int) := by omega
            simp +contextual only [go_sem, Rcb, Rbk, sevalprocAttr, hn1, hno2, hap1, htb, htb2, htb3]
            refine rCall_pure (ct_NamedR tab T1) ?_ (fun _ _ _ _ h => h.elim)
            rintro r M3 hM3 hno3 rfl
            simp only [noneL, and_true] at hno3
            by_cases hn2 : namedB tab = true
            · rw [if_neg (by rintro ⟨_, h | ⟨_, h⟩⟩; rw [hn1] at h; cases h; rw [hn2] at h; cases h)] at hS
              simp +contextual only [go_sem, Rcb, Rbk, sevalprocAttr, hn1, hn2, htb]
              exact hS' _ _ _ ⟨rfl, ⟨by simp only [go_sem, Rcb, Rbk, sevalprocAttr], by simp only [go_sem, Rcb, Rbk, sevalprocAttr], by simp only [go_sem, Rcb, Rbk, sevalprocAttr]⟩, M3, false, hM2.trans hM3, hno3.1, hno3.2, by simp only [go_sem, Rcb, Rbk, sevalprocAttr], hS, rfl⟩
            · rw [if_pos ⟨rfl, .inr ⟨htb, by simpa using hn2⟩⟩] at hS
              simp +contextual only [go_sem, Rcb, Rbk, sevalprocAttr, hn1, hn2, htb]
              exact hS' _ _ _ ⟨rfl, ⟨by simp only [go_sem, Rcb, Rbk, sevalprocAttr], by simp only [go_sem, Rcb, Rbk, sevalprocAttr], by simp only [go_sem, Rcb, Rbk, sevalprocAttr]⟩, M3, true, hM2.trans hM3, hno3.1, hno3.2, by simp only [go_sem, Rcb, Rbk, sevalprocAttr], hS, rfl⟩
        · rw [if_pos ⟨rfl, .inl (by simpa using hn1)⟩] at hS
          simp +contextual only [go_sem, Rcb, Rbk, sevalprocAttr, hn1]
          exact hS' _ _ _ ⟨rfl, ⟨by simp only [go_sem, Rcb, Rbk, sevalprocAttr], by simp only [go_sem, Rcb, Rbk, sevalprocAttr], by simp only [go_sem, Rcb, Rbk, sevalprocAttr]⟩, M2, true, hM2, hno2.1, hno2.2, by simp only [go_sem, Rcb, Rbk, sevalprocAttr], hS, rfl⟩
      · rw [if_neg (fun h => h2 h.1)] at hS
        simp +contextual only [go_sem, Rcb, Rbk, sevalprocAttr, h2, hno1, hap1]
        exact hS' _ _ _ ⟨rfl, ⟨by simp only [go_sem, Rcb, Rbk, sevalprocAttr], by simp only [go_sem, Rcb, Rbk, sevalprocAttr], by simp only [go_sem, Rcb, Rbk, sevalprocAttr]⟩, M1, false, Ext.rfl', hno1.1, hno1.2, by simp only [go_sem, Rcb, Rbk, sevalprocAttr], hS, rfl⟩
    clear hS
    rintro e ds h ⟨rfl, ⟨e1, e2, e3⟩, M2, B, hM2, n2, n2', e61, hS, rfl⟩
    cases B with
    | true =>
      rw [if_pos rfl] at hS
      simp +contextual only [go_sem, Rcb, Rbk, sevalprocAttr, e61]
      exact Close_drop (end_id hT1 rfl rfl ⟨by rw [hS], by rw [hS], rfl⟩)
    | false =>
    rw [if_neg (by decide)] at hS
    simp +contextual only [go_sem, Rcb, Rbk, sevalprocAttr, e61, e1, e2, e3, n2, n2', hap1]
    refine loop_range kids.length 65 [(1, .int .i64 (deep : Int)), (2, .pointer (some ⟨hb, 0, none⟩)), (63, .slice a kids.length c), (64, .int .i64 (kids.length : Int))] (fun i e h => ∃ (N : Tm) (M' : Mem) (n' : Nat), ExtT T1 N ∧ Ext M1 M' ∧ M' b = none ∧ M' hb = none ∧ n' ≤ 200 ∧ h = ⟨N, M', [(b, [.int .i64 k, .int .i64 v.k, .int .i64 v.n, st v.t, st tab, st name, .slice a kids.length c]), (hb, [.int .i64 (n' : Int)])], []⟩ ∧ S = shapeL (deep + 1) n' (kids.drop i))
      0 (by omega) (by simp only [live, e1, e2, e3, go_sem, Rcb, Rbk, sevalprocAttr]) (by simp only [go_sem, Rcb, Rbk, sevalprocAttr]) ⟨T1, M2, n + 1, ExtT.rfl', hM2, n2, n2', by omega, rfl, hS⟩ ?_
    clear hS e1 e2 e3 e61
    rintro i e h hi hlv ht ⟨N, M3, n', hN, hM3, n3, n3', hn', rfl, hS⟩
    simp only [live] at hlv
    by_cases hlt : i < kids.length
    · obtain ⟨b', o', cs', rfl, hat, hrx⟩ := hget i kids[i] (List.getElem?_eq_getElem hlt)
      have h13 := hM1.trans hM3
      obtain ⟨sg, rfl, og, g0, g1, g2, g3, g4, g5, g6⟩ := RX_atf hrx hat
      have hdrop : kids.drop i = kids[i] :: kids.drop (i + 1) := List.drop_eq_getElem_cons hlt
      rw [hdrop, shapeL] at hS
      have hsz2 : SizeOf.sizeOf kids[i] ≤ sz := by
        have h1 := List.sizeOf_lt_of_mem (List.getElem_mem hlt)
        simp only [X.mk.sizeOf_spec] at hsz
        omega
      have hle2 := shapeX_le (deep + 1) n' kids[i] hn'
      simp +contextual only [go_sem, Rcb, Rbk, sevalprocAttr, hlv, ht, hlt, hwd, mcell_ext h13 g0, mcell_ext h13 g1, mcell_ext h13 g2, mcell_ext h13 g3, mcell_ext h13 g4, mcell_ext h13 g5, mcell_ext h13 g6, og]
      intro b9 N9 hb9 hap9 hN9 hTb9
      refine rCall_one [(b9, _), (b, _)] (ih kids[i] hsz2 M3 N9 hb (deep + 1) n' _ (RX_ext h13 _ _ hrx) hn' (by omega)) ?_ (fun _ _ _ _ _ _ h => h.elim)
      rintro r M4 L' hM4 hk4 hno4 ⟨rfl, rfl, -⟩
      simp only [List.cons_append, List.nil_append, noneL, and_true] at hno4
      by_cases hr : (shapeX (deep + 1) n' kids[i]).1 = 0
      · rw [if_neg (fun h => h hr)] at hS
        simp +contextual only [go_sem, Rcb, Rbk, sevalprocAttr, hlv, ht, hlt, hr]
        rw [Run_lp]
        refine Close_drop (Close_id ⟨kids.length - (i + 1), by omega, rfl, i + 1, by omega, rfl, ?_, ?_, N9, M4, _, hN.trans hN9, hM3.trans hM4, hno4.2.1, hno4.2.2, hle2.2 hr, rfl, hS⟩)
        · simp only [live, hlv, go_sem, Rcb, Rbk, sevalprocAttr]
        · simp only [ht, go_sem, Rcb, Rbk, sevalprocAttr, wrap_succ i (by omega)]
      · rw [if_pos hr] at hS
        simp +contextual only [go_sem, Rcb, Rbk, sevalprocAttr, hlv, ht, hlt, hr]
        exact Close_drop (Close_drop (end_id ((hT1.trans hN).trans hN9) rfl rfl ⟨by rw [hS], by rw [hS], rfl⟩))
    · have : i = kids.length := by omega
      subst this
      rw [List.drop_length, shapeL] at hS
      simp +contextual only [go_sem, Rcb, Rbk, sevalprocAttr, hlv, ht, hlt]
      exact Close_drop (end_id (hT1.trans hN) rfl rfl ⟨by rw [hS], by rw [hS], rfl⟩)
theorem ct_Form {M : Mem} {x : X} {cs : List Value} (hx : RX M x cs) : Ct Tryz.prog 119 [.agg ⟨cs⟩] M [] [] (fun r _ _ _ => r = .int .i64 (exprW x)) noPan := by
  intro T
  obtain ⟨s, rfl, h1, _⟩ := RX_form hx
  refine ct_run mx bod119 Tryz.func119 rfl (by rw [nt119]; exact Nat.le_of_ble_eq_true rfl) (dr := dr119) (by kernel_rfl) rs119 ?_
  intro hno _
  simp +contextual only [go_sem, Rcb, Rbk, sevalprocAttr, h1]
  intro b1 T1 hb1 hT1 hTb1 b3 T3 hb3 hap3 hT3 hTb3
  refine rCall_frz2 bod152 fun M1 hM1 hb1' hno1 => ?_
  refine rCall_one [] (ct_form _ x (Nat.le_refl _) M1 T3 b3 1 0 _ (RX_ext hM1 _ _ hx) (by omega) (by omega)) ?_ (fun _ _ _ _ _ _ h => h.elim)
  rintro r M2 L' hM2 hk2 hno2 ⟨rfl, rfl, -⟩
  simp +contextual only [go_sem, Rcb, Rbk, sevalprocAttr]
  exact end_none (hT1.trans hT3) rfl
theorem ct_called {M : Mem} (s : Bs) (must : Bool) : Ct Tryz.prog 170 [st s, .bool must] M [] [] (fun r _ _ _ => r = .int .i64 (if must = true then namesW [s] else givenW s)) noPan := by
  intro T
  have hnw : namesW [s] = if namedB s = true then 0 else 7 := by simp [namesW]
  refine ct_run mx bod170 Tryz.func170 rfl (by rw [nt170]; exact Nat.le_of_ble_eq_true rfl) (dr := dr170) (by kernel_rfl) rs170 ?_
  intro hno _
  cases must with
  | true =>
    simp +contextual only [go_sem, Rcb, Rbk, sevalprocAttr]
    refine rCall_pure (ct_NamedR s T) ?_ (fun _ _ _ _ h => h.elim)
    rintro v M1 hM1 hno1 rfl
    by_cases hn : namedB s = true
    · simp +contextual only [go_sem, Rcb, Rbk, sevalprocAttr, hn]
      exact end_none ExtT.rfl' (int_eq (by rw [hnw, if_pos hn]))
    · simp +contextual only [go_sem, Rcb, Rbk, sevalprocAttr, hn]
      exact end_none ExtT.rfl' (int_eq (by rw [hnw, if_neg hn]))
  | false =>
    by_cases hs : s = []
    · simp +contextual only [go_sem, Rcb, Rbk, sevalprocAttr, hs]
      exact end_none ExtT.rfl' (int_eq (by simp [givenW]))
    · simp +contextual only [go_sem, Rcb, Rbk, sevalprocAttr, hs]
      refine rCall_pure (ct_NamedR s T) ?_ (fun _ _ _ _ h => h.elim)
      rintro v M1 hM1 hno1 rfl
      by_cases hn : namedB s = true
      · simp +contextual only [go_sem, Rcb, Rbk, sevalprocAttr, hn]
        exact end_none ExtT.rfl' (int_eq (by simp only [givenW]; rw [if_neg hs, hnw, if_pos hn]))
      · simp +contextual only [go_sem, Rcb, Rbk, sevalprocAttr, hn]
        exact end_none ExtT.rfl' (int_eq (by simp only [givenW]; rw [if_neg hs, hnw, if_neg hn]))
end Go.Proofs.YtoainkbcfnlkcaaGreatDoor

namespace Go.Proofs.YtoainkbcfnlkcaaGreatDoor
open Go Vc
set_option linter.unusedSimpArgs false
set_option linter.unusedVariables false
set_option maxRecDepth 10000
set_option maxHeartbeats 4000000

theorem rCond_to {P : Program} {F : Fi} {a b : Code} {s : List Vc.Item} {e : Env} {ds : List Deferred} {h : Sh} {t t' : Bool} (ht : t = t') (k : rCond P F (.bool t') a b s e ds h ⟨⟩) : rCond P F (.bool t) a b s e ds h ⟨⟩ := by subst ht; exact k
theorem app_accs {α : Type} {el : TypeId} {sz : Nat} {r : α → List Value → Prop} {R0 R : RR} {fv : Value} {acc l : List α} {P : Program} {F : Fi} {s : List Vc.Item} {e : Env} {ds : List Deferred} {dd : Option Nat} {T : Tm} {M : Mem} {L : LL} {t : TypeId} {z ys : List Value} {y : Value} (hrow : rowT P t = some (el, sz, z)) (hok : okT P t = true)
    (h : Acc el sz r R0 R fv acc) (hys : RL r l ys) (hs : ∀ R, Srcs P t sz ⟨T, M, L, R⟩ y ys) (hlen : ∀ x cs, r x cs → cs.length = sz) (hl : acc.length * sz + l.length * sz ≤ 4294967296) (hpos : 0 < sz)
    (k : ∀ fv' R', Acc el sz r R0 R' fv' (acc ++ l) → Run P F s (updo e dd fv') ds ⟨T, M, L, R'⟩ ⟨⟩) : rApp P F t t fv y dd s e ds ⟨T, M, L, R⟩ ⟨⟩ := by
  have hyl := RL_len hlen hys
  rcases h with ⟨rfl, rfl, rfl⟩ | ⟨a, c, xs, rfl, h3, rfl⟩
  · refine app_nil hrow hok (hs _) (by rw [hyl]; simp at hl; omega) ?_
    intro ra rm rc hrm
    have : rm = ([] ++ l).length := by
      rw [hyl] at hrm
      exact Nat.eq_of_mul_eq_mul_right hpos (by simpa using hrm)
    subst this
    exact k _ _ (.inr ⟨_, _, _, rfl, by simpa using hys, rfl⟩)
  · have hxl := RL_len hlen h3
    refine app_row hrow hok (hs _) (by rw [hyl, hxl]; omega) ?_
    intro ra rm rc hrm
    have : rm = (acc ++ l).length := by
      rw [hyl, hxl] at hrm
      rw [List.length_append]
      refine Nat.eq_of_mul_eq_mul_right hpos ?_
      rw [Nat.add_mul]
      simpa using hrm
    subst this
    exact k _ _ (.inr ⟨_, _, _, rfl, RL_append h3 hys, rfl⟩)
theorem lcell_app {b : Nat} {cs : List Value} {L2 : LL} : ∀ {L1 : LL}, apart1 b L1 → ∀ o, lcell (L1 ++ (b, cs) :: L2) ⟨b, o, none⟩ = some cs[o]?
  | [], _, o => by simp [lcell]
  | (k, x) :: L1, h, o => by
    have ih := lcell_app (cs := cs) (L2 := L2) h.2 o
    have hne : ¬ b = k := h.1.1
    simp only [List.cons_append, lcell, hne, if_false]
    exact ih
theorem exprsW_app : ∀ (a b : List X), exprsW (a ++ b) = orE (exprsW a) (exprsW b)
  | [], b => by rw [List.nil_append, exprsW, orE0]
  | x :: a, b => by
    rw [List.cons_append, exprsW, exprsW_app a b, exprsW]
    by_cases h : exprW x = 0
    · rw [h, orE0, orE0]
    · rw [orE_pos h, orE_pos h, orE_pos h]
def selL (x : Se) : List X := ((if x.hasW = true then [x.wh] else []) ++ x.group) ++ (if x.hasH = true then [x.hv] else [])
theorem exprsW_one (x : X) : exprsW [x] = exprW x := by
  rw [exprsW, exprsW]
  by_cases h : exprW x = 0
  · rw [h]; rfl
  · rw [orE_pos h]
theorem selW2_eq (x : Se) : selW2 x = exprsW (selL x) := by
  unfold selW2 selW3 selW4 selL
  rw [exprsW_app, exprsW_app]
  have h1 : exprsW (if x.hasW = true then [x.wh] else []) = if x.hasW = true then exprW x.wh else 0 := by split; exact exprsW_one _; rfl
  have h2 : exprsW (if x.hasH = true then [x.hv] else []) = if x.hasH = true then exprW x.hv else 0 := by split; exact exprsW_one _; rfl
  rw [h1, h2]
  generalize (if x.hasW = true then exprW x.wh else 0) = A
  by_cases h : A = 0
  · rw [h, orE0, orE0]
  · rw [orE_pos h, orE_pos h, orE_pos h]
abbrev seV (x : Se) (ai : Option Addr) (aj : Nat) (af : Option Addr) (ag : Nat) (aw ah : Value) (ap : Option Addr) (aq : Nat) : List Value := [.bool x.distinct, .bool x.star, .slice ai x.items.length aj, .slice af x.src.length ag, .bool x.hasW, .bool x.hasH, .int .i64 x.wh.k, .int .i64 x.wh.v.k, .int .i64 x.wh.v.n, st x.wh.v.t, st x.wh.tab, st x.wh.name, aw, .int .i64 x.hv.k, .int .i64 x.hv.v.k, .int .i64 x.hv.v.n, st x.hv.v.t, st x.hv.tab, st x.hv.name, ah, .slice ap x.group.length aq]
theorem ct_Selected {M : Mem} {x : Se} {cs : List Value} (hx : RSe M x cs) : Ct Tryz.prog 153 [.agg ⟨cs⟩] M [] [] (fun r _ _ _ => r = .int .i64 (selW x)) noPan := by
  intro T
  obtain ⟨ai, aj, af, ag, aw, ah, ap, aq, rfl, hi, hf, hw, hv, hgr, ow, ov⟩ := RSe_form hx
  obtain ⟨S, hS⟩ : ∃ S, S = selW x := ⟨_, rfl⟩
  rw [← hS]
  unfold selW at hS
  have hib := hi.1
  have hfb := hf.1
  refine ct_run mx bod153 Tryz.func153 rfl (by rw [nt153]; exact Nat.le_of_ble_eq_true rfl) (dr := dr153) (by kernel_rfl) rs153 ?_
  intro hno _
  simp +contextual only [go_sem, sevalprocAttr, ow, ov]
  intro b1 T1 hb1 hT1 hTb1
  refine rCond_to (t' := selMany x) ?_ ?_
  · rw [Bool.eq_iff_iff]; unfold selMany; cases x.star <;> simp [-List.length_eq_zero_iff] <;> omega
  cases hmy : selMany x with
  | true =>
    rw [if_pos hmy] at hS
    simp +contextual only [go_sem, Rcb, Rbk, sevalprocAttr]
    exact end_none hT1 (by rw [hS])
  | false =>
  rw [if_neg (by rw [hmy]; exact Bool.false_ne_true)] at hS
  have hlens : x.group.length ≤ 8 := by
    unfold selMany at hmy
    cases hst : x.star <;> simp [hst] at hmy <;> omega
  rw [rCond_bool, if_neg Bool.false_ne_true]
  simp +contextual only [go_sem, sevalprocAttr, hb1]
  refine cond_cut (fun e ds h => ds = [] ∧ e 1 = .pointer (some ⟨b1, 0, none⟩) ∧ S = selW1 x ∧ ∃ N M', ExtT T N ∧ Ext M M' ∧ M' b1 = none ∧ h = ⟨N, M', [(b1, seV x ai aj af ag aw ah ap aq)], []⟩) (fun S' hS' => ?_) ?_
  · cases hst : x.star with
    | true =>
      rw [if_pos hst, orE0] at hS
      simp +contextual only [go_sem, Rcb, Rbk, sevalprocAttr]
      exact hS' _ _ _ ⟨rfl, by simp only [go_sem, Rcb, Rbk, sevalprocAttr], hS, T1, M, hT1, Ext.rfl', hb1, by simp only [seV, hst, st]⟩
    | false =>
      rw [if_neg (by rw [hst]; exact Bool.false_ne_true)] at hS
      simp +contextual only [go_sem, Rcb, Rbk, sevalprocAttr, hb1]
      refine loop_range x.items.length 55 [(1, .pointer (some ⟨b1, 0, none⟩)), (53, .slice ai x.items.length aj), (54, .int .i64 (x.items.length : Int))]
        (fun i e h => ∃ N M', ExtT T N ∧ Ext M M' ∧ M' b1 = none ∧ h = ⟨N, M', [(b1, seV x ai aj af ag aw ah ap aq)], []⟩ ∧ S = orE (itemsW (x.items.drop i)) (selW1 x))
        0 (by have := hi.1; omega) (by simp only [live, go_sem, Rcb, Rbk, sevalprocAttr]) (by simp only [go_sem, Rcb, Rbk, sevalprocAttr]) ⟨T1, M, hT1, Ext.rfl', hb1, by simp only [seV, hst, st], hS⟩ ?_
      clear hS
      rintro i e h hi' hlv ht ⟨N, M1, hN, hM1, n1, rfl, hS⟩
      simp only [live] at hlv
      by_cases hlt : i < x.items.length
      · obtain ⟨b', o', cs', rfl, hat, hrs⟩ := RS_get (by decide) (fun _ _ => RIt_len) hi (List.getElem?_eq_getElem hlt)
        obtain ⟨aw', rfl, hrx, ow'⟩ := RIt_form hrs
        have hdrop : x.items.drop i = x.items[i] :: x.items.drop (i + 1) := List.drop_eq_getElem_cons hlt
        rw [hdrop, itemsW] at hS
        have g := hat.ext hM1
        have g0 := g.1
        have g1 := g.2.1
        have g2 := g.2.2.1
        have g3 := g.2.2.2.1
        have g4 := g.2.2.2.2.1
        have g5 := g.2.2.2.2.2.1
        have g6 := g.2.2.2.2.2.2.1
        have g7 := g.2.2.2.2.2.2.2.1
        simp +contextual only [go_sem, Rcb, Rbk, sevalprocAttr, hlv, ht, hlt, g0, g1, g2, g3, g4, g5, g6, g7, ow']
        intro b4 N4 hb4 hap4 hN4 hTb4
        refine rCall_pure (ct_Form (RX_ext hM1 _ _ hrx) N4) ?_ (fun _ _ _ _ h => h.elim)
        rintro v M2 hM2 hno2 rfl
        simp only [noneL, and_true] at hno2
        by_cases hE : exprW x.items[i].x = 0
        · simp +contextual only [go_sem, Rcb, Rbk, sevalprocAttr, hlv, ht, hE, hno2, hap4]
          refine rCall_pure (ct_called x.items[i].as false N4) ?_ (fun _ _ _ _ h => h.elim)
          rintro v M3 hM3 hno3 rfl
          simp only [noneL, and_true] at hno3
          rw [if_neg Bool.false_ne_true]
          by_cases hE2 : givenW x.items[i].as = 0
          · simp +contextual only [go_sem, Rcb, Rbk, sevalprocAttr, hlv, ht, hE2]
            rw [Run_lp]
            refine Close_drop (Close_id ⟨x.items.length - (i + 1), by omega, rfl, i + 1, by omega, rfl, ?_, ?_, N4, M3, hN.trans hN4, (hM1.trans hM2).trans hM3, hno3.2, rfl, ?_⟩)
            · simp only [live, hlv, go_sem, Rcb, Rbk, sevalprocAttr]
            · simp only [ht, go_sem, Rcb, Rbk, sevalprocAttr, wrap_succ i (by omega)]
            · rw [hS]; simp only [firstW]; rw [hE, hE2, orE0, orE0, orE0]
          · simp +contextual only [go_sem, Rcb, Rbk, sevalprocAttr, hlv, ht, hE2]
            exact end_none (hN.trans hN4) (by rw [hS]; simp only [firstW]; rw [hE, orE0, orE_pos hE2, orE_pos hE2, orE_pos hE2])
        · simp +contextual only [go_sem, Rcb, Rbk, sevalprocAttr, hlv, ht, hE]
          exact end_none (hN.trans hN4) (by rw [hS]; simp only [firstW]; rw [orE_pos hE, orE_pos hE, orE_pos hE])
      · have : i = x.items.length := by omega
        subst this
        rw [List.drop_length, itemsW, orE0] at hS
        simp +contextual only [go_sem, Rcb, Rbk, sevalprocAttr, hlv, ht, hlt]
        exact hS' _ _ _ ⟨rfl, by simp only [hlv, go_sem, Rcb, Rbk, sevalprocAttr], hS, N, M1, hN, hM1, n1, rfl⟩
  clear hS
  rintro e ds h ⟨rfl, e1, hS, N, M1, hN, hM1, n1, rfl⟩
  simp +contextual only [go_sem, sevalprocAttr, e1, n1]
  refine run_cut (fun e ds h => ds = [] ∧ e 1 = .pointer (some ⟨b1, 0, none⟩) ∧ S = selW2 x ∧ ∃ N M', ExtT T N ∧ Ext M M' ∧ M' b1 = none ∧ h = ⟨N, M', [(b1, seV x ai aj af ag aw ah ap aq)], []⟩) (fun S' hS' => ?_) ?_
  · simp +contextual only [go_sem, Rcb, Rbk, sevalprocAttr, e1]
    refine loop_range x.src.length 75 [(1, .pointer (some ⟨b1, 0, none⟩)), (73, .slice af x.src.length ag), (74, .int .i64 (x.src.length : Int))]
      (fun i e h => ∃ N M', ExtT T N ∧ Ext M M' ∧ M' b1 = none ∧ h = ⟨N, M', [(b1, seV x ai aj af ag aw ah ap aq)], []⟩ ∧ S = orE (sourcesW i (x.src.drop i)) (selW2 x))
      0 (by omega) (by simp only [live, e1, go_sem, Rcb, Rbk, sevalprocAttr]) (by simp only [go_sem, Rcb, Rbk, sevalprocAttr]) ⟨N, M1, hN, hM1, n1, rfl, hS⟩ ?_
    clear hS e1 hM1 hN n1
    rintro i e h hi' hlv ht ⟨N, M1, hN, hM1, n1, rfl, hS⟩
    simp only [live] at hlv
    by_cases hlt : i < x.src.length
    · obtain ⟨b', o', cs', rfl, hat, hrs⟩ := RS_get (by decide) (fun _ _ => RSo_len) hf (List.getElem?_eq_getElem hlt)
      obtain ⟨aw', rfl, hrx, ow'⟩ := RSo_formC hrs
      have hdrop : x.src.drop i = x.src[i] :: x.src.drop (i + 1) := List.drop_eq_getElem_cons hlt
      rw [hdrop, sourcesW] at hS
      have g := hat.ext hM1
      have g0 := g.1
      have g1 := g.2.1
      have g2 := g.2.2.1
      have g3 := g.2.2.2.1
      have g4 := g.2.2.2.2.1
      have g5 := g.2.2.2.2.2.1
      have g6 := g.2.2.2.2.2.2.1
      have g7 := g.2.2.2.2.2.2.2.1
      have g8 := g.2.2.2.2.2.2.2.2.1
      have g9 := g.2.2.2.2.2.2.2.2.2.1
      generalize x.src[i] = f at hrx hS g0 g1 g2 g3 g4 g5 g6 g7 g8 hrs
      obtain ⟨W, hW⟩ : ∃ W, W = sourceW i f := ⟨_, rfl⟩
      rw [← hW] at hS
      unfold sourceW at hW
      simp +contextual only [go_sem, sevalprocAttr, hlv, ht, hlt]
      simp only [rCond_bool, if_true, Run_skip, Run_seq, Run_block]
      simp +contextual only [go_sem, sevalprocAttr, hlv, ht, hlt, g0, g1, g2, g3, g4, g5, g6, g7, g8, g9, ow']
      intro b8 N8 hb8 hap8 hN8 hTb8
      refine rCond_to (t' := decide ((¬ (decide (f.k = 1) == decide ((i : Int) = 0)) = true ∨ f.k < 1) ∨ 5 < f.k)) ?_ ?_
      · rw [Bool.eq_iff_iff]; simp; omega
      by_cases hbad : (¬ (decide (f.k = 1) == decide ((i : Int) = 0)) = true ∨ f.k < 1) ∨ 5 < f.k
      · rw [if_pos hbad] at hW
        rw [hW, orE_pos (a := (1 : Int)) (by decide), orE_pos (by decide)] at hS
        rw [decide_eq_true hbad]
        simp +contextual only [go_sem, Rcb, Rbk, sevalprocAttr]
        exact end_none (hN.trans hN8) (by rw [hS])
      rw [if_neg hbad] at hW
      rw [decide_eq_false hbad]
      simp +contextual only [go_sem, Rcb, Rbk, sevalprocAttr, hb8, n1, hap8]
      refine rCall_pure (ct_called f.name true N8) ?_ (fun _ _ _ _ h => h.elim)
      rintro v M2 hM2 hno2 rfl
      simp only [noneL, and_true] at hno2
      rw [if_pos rfl]
      by_cases hE : namesW [f.name] = 0
      rotate_left
      · have hf1 : firstW [namesW [f.name], givenW f.as] = namesW [f.name] := by simp only [firstW]; rw [orE_pos hE]
        have hW1 : W = namesW [f.name] := by rw [hW, if_pos (.inl (by rw [hf1]; exact hE)), hf1]
        rw [hW1, orE_pos hE, orE_pos hE] at hS
        simp +contextual only [go_sem, Rcb, Rbk, sevalprocAttr, hE]
        exact end_none (hN.trans hN8) (by rw [hS])
      simp +contextual only [go_sem, Rcb, Rbk, sevalprocAttr, hE, hno2, hap8]
      refine rCall_pure (ct_called f.as false N8) ?_ (fun _ _ _ _ h => h.elim)
      rintro v M3 hM3 hno3 rfl
      simp only [noneL, and_true] at hno3
      rw [if_neg Bool.false_ne_true]
      by_cases hE2 : givenW f.as = 0
      rotate_left
      · have hf1 : firstW [namesW [f.name], givenW f.as] = givenW f.as := by simp only [firstW]; rw [hE, orE0, orE_pos hE2]
        have hW1 : W = givenW f.as := by rw [hW, if_pos (.inl (by rw [hf1]; exact hE2)), hf1]
        rw [hW1, orE_pos hE2, orE_pos hE2] at hS
        simp +contextual only [go_sem, Rcb, Rbk, sevalprocAttr, hE2]
        exact end_none (hN.trans hN8) (by rw [hS])
      have hfw : firstW [namesW [f.name], givenW f.as] = 0 := by simp only [firstW]; rw [hE, hE2, orE0, orE0]
      have h13 := (hM1.trans hM2).trans hM3
      by_cases hi0 : i = 0
      · rw [if_pos (.inr hi0), hfw] at hW
        rw [hW, orE0] at hS
        have hi0' : ¬ (0 : Int) < (i : Int) := by omega
        simp +contextual only [go_sem, Rcb, Rbk, sevalprocAttr, hlv, ht, hE2, hi0']
        rw [Run_lp]
        refine Close_drop (Close_id ⟨x.src.length - (i + 1), by omega, rfl, i + 1, by omega, rfl, ?_, ?_, N8, M3, hN.trans hN8, h13, hno3.2, rfl, hS⟩)
        · simp only [live, hlv, go_sem, Rcb, Rbk, sevalprocAttr]
        · simp only [ht, go_sem, Rcb, Rbk, sevalprocAttr, wrap_succ i (by omega)]
      · rw [if_neg (by rintro (h | h); exact h hfw; exact hi0 h)] at hW
        have hi0' : (0 : Int) < (i : Int) := by omega
        simp +contextual only [go_sem, Rcb, Rbk, sevalprocAttr, hlv, ht, hE2, hi0', hno3, hap8]
        refine rCall_pure (ct_Form (RX_ext h13 _ _ hrx) N8) ?_ (fun _ _ _ _ h => h.elim)
        rintro v M4 hM4 hno4 rfl
        simp only [noneL, and_true] at hno4
        rw [hW] at hS
        by_cases hE3 : exprW f.on = 0
        · rw [hE3, orE0] at hS
          simp +contextual only [go_sem, Rcb, Rbk, sevalprocAttr, hlv, ht, hE3]
          rw [Run_lp]
          refine Close_drop (Close_id ⟨x.src.length - (i + 1), by omega, rfl, i + 1, by omega, rfl, ?_, ?_, N8, M4, hN.trans hN8, h13.trans hM4, hno4.2, rfl, hS⟩)
          · simp only [live, hlv, go_sem, Rcb, Rbk, sevalprocAttr]
          · simp only [ht, go_sem, Rcb, Rbk, sevalprocAttr, wrap_succ i (by omega)]
        · rw [orE_pos hE3, orE_pos hE3] at hS
          simp +contextual only [go_sem, Rcb, Rbk, sevalprocAttr, hE3]
          exact end_none (hN.trans hN8) (by rw [hS])
    · have : i = x.src.length := by omega
      subst this
      rw [List.drop_length, sourcesW, orE0] at hS
      simp +contextual only [go_sem, Rcb, Rbk, sevalprocAttr, hlv, ht, hlt]
      exact hS' _ _ _ ⟨rfl, by simp only [hlv, go_sem, Rcb, Rbk, sevalprocAttr], hS, N, M1, hN, hM1, n1, rfl⟩
  clear hS e1 hM1 hN n1
  rintro e ds h ⟨rfl, e1, hS, N, M1, hN, hM1, n1, rfl⟩
  rw [selW2_eq] at hS
  simp +contextual only [go_sem, sevalprocAttr, e1, n1]
  refine cond_cut (fun e ds h => ds = [] ∧ e 1 = .pointer (some ⟨b1, 0, none⟩) ∧ ∃ fv R Lx, e 12 = fv ∧ Acc 65 7 (RX M1) [] R fv (if x.hasW = true then [x.wh] else []) ∧ apart1 b1 Lx ∧ noneL M1 (Lx ++ [(b1, seV x ai aj af ag aw ah ap aq)]) ∧ h = ⟨N, M1, Lx ++ [(b1, seV x ai aj af ag aw ah ap aq)], R⟩) (fun S' hS' => ?_) ?_
  · cases hW : x.hasW with
    | true =>
      simp +contextual only [go_sem, Rcb, Rbk, sevalprocAttr, e1, n1]
      intro b hb hap
      refine app_acc (z := _) Tryz.underlying58 row58 okt58 (r := RX M1) (Acc_nil (R0 := [])) (RX_ext hM1 _ _ hw) (fun _ _ => RX_len) (RX_oneC hw) hb (by simp) (by decide) ?_
      intro fv' R' hacc'
      simp +contextual only [go_sem, Rcb, Rbk, sevalprocAttr]
      exact hS' _ _ _ ⟨rfl, by simp only [e1, go_sem, Rcb, Rbk, sevalprocAttr], fv', R', [(b, [.int .i64 x.wh.k, .int .i64 x.wh.v.k, .int .i64 x.wh.v.n, st x.wh.v.t, st x.wh.tab, st x.wh.name, aw])], by simp only [go_sem, Rcb, Rbk, sevalprocAttr], by rw [if_pos hW]; simpa using hacc', ⟨⟨hap.2, hap.1⟩, trivial⟩, ⟨hb, n1, trivial⟩, by simp only [seV, hW, st, List.cons_append, List.nil_append]⟩
    | false =>
      simp +contextual only [go_sem, Rcb, Rbk, sevalprocAttr]
      exact hS' _ _ _ ⟨rfl, by simp only [e1, go_sem, Rcb, Rbk, sevalprocAttr], .slice none 0 0, [], [], by simp only [go_sem, Rcb, Rbk, sevalprocAttr], by rw [if_neg (by rw [hW]; decide)]; exact Acc_nil, trivial, ⟨n1, trivial⟩, by simp only [seV, hW, st, List.nil_append]⟩
  clear e1
  rintro e ds h ⟨rfl, e1, fv, R, Lx, e12, hacc, hapx, hnox, rfl⟩
  have hlc := fun o => lcell_app (b := b1) (cs := seV x ai aj af ag aw ah ap aq) (L2 := []) hapx o
  obtain ⟨ys, hyl, hys, hsr⟩ := srcs_RS (P := Tryz.prog) Tryz.underlying58 (fun _ _ => RX_len) (fun _ _ h => RX_oneC h) (RS_ext hM1 (RX_ext hM1) hgr)
  simp +contextual only [go_sem, sevalprocAttr, e1, e12, n1, hlc]
  refine app_accs (z := _) row58 okt58 hacc hys (hsr _ _) (fun _ _ => RX_len) (by split <;> simp <;> omega) (by decide) ?_
  intro fv2 R2 hacc2
  clear hacc e12
  simp +contextual only [go_sem, sevalprocAttr, e1, n1, hlc]
  refine cond_cut (fun e ds h => ds = [] ∧ ∃ fv R Lx, e 12 = fv ∧ Acc 65 7 (RX M1) [] R fv (selL x) ∧ noneL M1 (Lx ++ [(b1, seV x ai aj af ag aw ah ap aq)]) ∧ h = ⟨N, M1, Lx ++ [(b1, seV x ai aj af ag aw ah ap aq)], R⟩) (fun S' hS' => ?_) ?_
  · cases hH : x.hasH with
    | true =>
      simp +contextual only [go_sem, Rcb, Rbk, sevalprocAttr, e1, n1, hlc]
      intro b hb hap
      refine app_acc (z := _) Tryz.underlying58 row58 okt58 hacc2 (RX_ext hM1 _ _ hv) (fun _ _ => RX_len) (RX_oneC hv) hb (by rw [List.length_append]; split <;> simp <;> omega) (by decide) ?_
      intro fv' R' hacc'
      simp +contextual only [go_sem, Rcb, Rbk, sevalprocAttr]
      refine hS' _ _ _ ⟨rfl, fv', R', (b, _) :: Lx, by simp only [go_sem, Rcb, Rbk, sevalprocAttr], ?_, ⟨hb, hnox⟩, rfl⟩
      simp only [selL, hH, if_true]; exact hacc'
    | false =>
      simp +contextual only [go_sem, Rcb, Rbk, sevalprocAttr]
      refine hS' _ _ _ ⟨rfl, fv2, R2, Lx, by simp only [go_sem, Rcb, Rbk, sevalprocAttr], ?_, hnox, rfl⟩
      simp only [selL, hH, if_false, Bool.false_eq_true, List.append_nil]; exact hacc2
  clear hacc2 e1 hlc hapx hnox
  rintro e ds h ⟨rfl, fv, R, Lx, e12, hacc, hnox, rfl⟩
  obtain ⟨fa, fc, rfl⟩ := Acc_form hacc
  have hll : (selL x).length ≤ 10 := by
    unfold selL
    rw [List.length_append, List.length_append]
    split <;> split <;> simp <;> omega
  simp +contextual only [go_sem, Rcb, Rbk, sevalprocAttr, e12]
  refine loop_rangeC (selL x).length 142 [(140, .slice fa (selL x).length fc), (141, .int .i64 ((selL x).length : Int))]
    (fun i e h => ∃ N M', ExtT T N ∧ RS M' (RX M') 7 (selL x) (.slice fa (selL x).length fc) ∧ h = ⟨N, M', [], []⟩ ∧ S = exprsW ((selL x).drop i))
    0 (by omega) (by simp only [live, e12, go_sem, Rcb, Rbk, sevalprocAttr]) (by simp only [go_sem, Rcb, Rbk, sevalprocAttr]) (Close_acc hacc (by omega) (by decide) hnox fun M' hM' hno' hrs => Close_dropAll (Close_id ⟨N, M', hN, RS_ext Ext.rfl' (RX_ext hM') hrs, rfl, hS⟩)) ?_
  clear hS e12 hacc hnox hN hM1 n1
  rintro i e h hi' hlv ht ⟨N, M2, hN, hrs, rfl, hS⟩
  simp only [live] at hlv
  by_cases hlt : i < (selL x).length
  · obtain ⟨b', o', cs', rfl, hat, hrx⟩ := RS_get (by decide) (fun _ _ => RX_len) hrs (List.getElem?_eq_getElem hlt)
    obtain ⟨sg, rfl, og, g0, g1, g2, g3, g4, g5, g6⟩ := RX_atf hrx hat
    have hdrop : (selL x).drop i = (selL x)[i] :: (selL x).drop (i + 1) := List.drop_eq_getElem_cons hlt
    rw [hdrop, exprsW] at hS
    simp +contextual only [go_sem, Rcb, Rbk, sevalprocAttr, hlv, ht, hlt, g0, g1, g2, g3, g4, g5, g6, og]
    intro b9 N9 hb9 hN9 hTb9
    refine rCall_pure (ct_Form hrx N9) ?_ (fun _ _ _ _ h => h.elim)
    rintro v M3 hM3 _ rfl
    by_cases hE : exprW (selL x)[i] = 0
    · rw [hE, orE0] at hS
      simp +contextual only [go_sem, Rcb, Rbk, sevalprocAttr, hlv, ht, hE]
      rw [Run_lp]
      refine Close_drop (Close_id ⟨(selL x).length - (i + 1), by omega, rfl, i + 1, by omega, rfl, ?_, ?_, N9, M3, hN.trans hN9, RS_ext hM3 (RX_ext hM3) hrs, rfl, hS⟩)
      · simp only [live, hlv, go_sem, Rcb, Rbk, sevalprocAttr]
      · simp only [ht, go_sem, Rcb, Rbk, sevalprocAttr, wrap_succ i (by omega)]
    · rw [orE_pos hE] at hS
      simp +contextual only [go_sem, Rcb, Rbk, sevalprocAttr, hlv, ht, hE]
      exact end_none (hN.trans hN9) (by rw [hS])
  · have : i = (selL x).length := by omega
    subst this
    rw [List.drop_length, exprsW] at hS
    simp +contextual only [go_sem, Rcb, Rbk, sevalprocAttr, hlv, ht, hlt]
    exact end_none hN (by rw [hS])
end Go.Proofs.YtoainkbcfnlkcaaGreatDoor

namespace Go.Proofs.YtoainkbcfnlkcaaGreatDoor
open Go Vc
set_option linter.unusedSimpArgs false
set_option linter.unusedVariables false
set_option maxRecDepth 10000
set_option maxHeartbeats 4000000

theorem ct_Asked {M : Mem} {x : Q} {cs : List Value} (hx : RQ M x cs) : Ct Tryz.prog 120 [.agg ⟨cs⟩] M [] [] (fun r _ _ _ => r = .int .i64 (queryW x)) noPan := by
  intro T
  obtain ⟨pv, fv, gv, hp, hf, hgr, rfl⟩ := hx
  obtain ⟨hpb, pa, pc, rfl, hpl, _, _⟩ := RS_elim (by decide) (fun _ _ => RSe_len) hp
  obtain ⟨hfb, fa, fc, rfl, hfl, _, hfget⟩ := RS_elim (by decide) (fun _ _ => RI_len) hf
  obtain ⟨hgb, ga, gc, rfl, hgl, _, hgget⟩ := RS_elim (by decide) (fun _ _ => RX_len) hgr
  have hw1 : IntKind.i64.wrap ((x.ops.length : Int) + 1) = ((x.ops.length + 1 : Nat) : Int) := by rw [wrap64 (by omega) (by omega)]; omega
  obtain ⟨S, hS⟩ : ∃ S, S = queryW x := ⟨_, rfl⟩
  rw [← hS]
  unfold queryW at hS
  refine ct_run mx bod120 Tryz.func120 rfl (by rw [nt120]; exact Nat.le_of_ble_eq_true rfl) (dr := dr120) (by kernel_rfl) rs120 ?_
  intro hno _
  simp +contextual only [go_sem, sevalprocAttr, hw1]
  intro b1 T1 hb1 hT1 hTb1
  refine rCond_to (t' := queryMany x) ?_ ?_
  · rw [Bool.eq_iff_iff]; unfold queryMany; simp [-List.length_eq_zero_iff]; omega
  cases hmy : queryMany x with
  | true =>
    rw [if_pos hmy] at hS
    simp +contextual only [go_sem, Rcb, Rbk, sevalprocAttr]
    exact end_none hT1 (by rw [hS])
  | false =>
  rw [if_neg (by rw [hmy]; exact Bool.false_ne_true)] at hS
  have hops : x.ops.length + 1 = x.parts.length := by
    have := of_decide_eq_false hmy
    omega
  rw [rCond_bool, if_neg Bool.false_ne_true]
  by_cases h50 : 50 < x.limit
  · rw [if_pos h50] at hS
    simp +contextual only [go_sem, Rcb, Rbk, sevalprocAttr, h50, hb1]
    exact end_none hT1 (by rw [hS])
  rw [if_neg h50] at hS
  simp +contextual only [go_sem, sevalprocAttr, hb1, h50]
  simp only [rCond_bool, Bool.false_eq_true, if_false, Run_skip, Run_seq]
  simp +contextual only [go_sem, sevalprocAttr, hb1]
  refine run_cut (fun e ds h => ds = [] ∧ e 1 = .pointer (some ⟨b1, 0, none⟩) ∧ S = queryW1 x ∧ ∃ N M', ExtT T N ∧ Ext M M' ∧ M' b1 = none ∧ h = ⟨N, M', [(b1, [.slice pa x.parts.length pc, .slice fa x.ops.length fc, .slice ga x.order.length gc, .int .i64 x.limit])], []⟩) (fun S' hS' => ?_) ?_
  · simp +contextual only [go_sem, Rcb, Rbk, sevalprocAttr]
    refine loop_range x.parts.length 52 [(1, .pointer (some ⟨b1, 0, none⟩)), (50, .slice pa x.parts.length pc), (51, .int .i64 (x.parts.length : Int))]
      (fun i e h => ∃ N M', ExtT T N ∧ Ext M M' ∧ M' b1 = none ∧ h = ⟨N, M', [(b1, [.slice pa x.parts.length pc, .slice fa x.ops.length fc, .slice ga x.order.length gc, .int .i64 x.limit])], []⟩ ∧ S = orE (partsW x.ops i (x.parts.drop i)) (queryW1 x))
      0 (by omega) (by simp only [live, go_sem, Rcb, Rbk, sevalprocAttr]) (by simp only [go_sem, Rcb, Rbk, sevalprocAttr]) ⟨T1, M, hT1, Ext.rfl', hb1, rfl, hS⟩ ?_
    clear hS
    rintro i e h hi' hlv ht ⟨N, M1, hN, hM1, n1, rfl, hS⟩
    simp only [live] at hlv
    by_cases hlt : i < x.parts.length
    · obtain ⟨b', o', cs', rfl, hat, hrs⟩ := RS_get (by decide) (fun _ _ => RSe_len) hp (List.getElem?_eq_getElem hlt)
      have hrs' := hrs
      obtain ⟨ai, aj, af, ag, aw, ah, ap, aq, rfl, -, -, -, -, -, ow, ov⟩ := RSe_form hrs'
      have hdrop : x.parts.drop i = x.parts[i] :: x.parts.drop (i + 1) := List.drop_eq_getElem_cons hlt
      rw [hdrop, partsW] at hS
      have g := hat.ext hM1
      have g0 := g.1
      have g1 := g.2.1
      have g2 := g.2.2.1
      have g3 := g.2.2.2.1
      have g4 := g.2.2.2.2.1
      have g5 := g.2.2.2.2.2.1
      have g6 := g.2.2.2.2.2.2.1
      have g7 := g.2.2.2.2.2.2.2.1
      have g8 := g.2.2.2.2.2.2.2.2.1
      have g9 := g.2.2.2.2.2.2.2.2.2.1
      have g10 := g.2.2.2.2.2.2.2.2.2.2.1
      have g11 := g.2.2.2.2.2.2.2.2.2.2.2.1
      have g12 := g.2.2.2.2.2.2.2.2.2.2.2.2.1
      have g13 := g.2.2.2.2.2.2.2.2.2.2.2.2.2.1
      have g14 := g.2.2.2.2.2.2.2.2.2.2.2.2.2.2.1
      have g15 := g.2.2.2.2.2.2.2.2.2.2.2.2.2.2.2.1
      have g16 := g.2.2.2.2.2.2.2.2.2.2.2.2.2.2.2.2.1
      have g17 := g.2.2.2.2.2.2.2.2.2.2.2.2.2.2.2.2.2.1
      have g18 := g.2.2.2.2.2.2.2.2.2.2.2.2.2.2.2.2.2.2.1
      have g19 := g.2.2.2.2.2.2.2.2.2.2.2.2.2.2.2.2.2.2.2.1
      have g20 := g.2.2.2.2.2.2.2.2.2.2.2.2.2.2.2.2.2.2.2.2.1
      clear g hat
      generalize x.parts[i] = f at *
      have key : ¬ (0 < i ∧ (x.ops.getD (i - 1) 0 < 1 ∨ 4 < x.ops.getD (i - 1) 0)) → S = orE (orE (selW f) (partsW x.ops (i + 1) (x.parts.drop (i + 1)))) (queryW1 x) := fun h => by rw [hS, if_neg h]
      by_cases hz : i = 0
      · have hz' : ¬ (0 : Int) < (i : Int) := by omega
        replace hS := key (fun h => by omega)
        clear key
        simp +contextual only [go_sem, Rcb, Rbk, sevalprocAttr, hlv, ht, hlt, hz', g0, g1, g2, g3, g4, g5, g6, g7, g8, g9, g10, g11, g12, g13, g14, g15, g16, g17, g18, g19, g20, ow, ov]
        intro b4 N4 hb4 hap4 hN4 hTb4
        refine rCall_pure (ct_Selected (RSe_ext hM1 _ _ hrs) N4) ?_ (fun _ _ _ _ h => h.elim)
        rintro v M2 hM2 hno2 rfl
        simp only [noneL, and_true] at hno2
        by_cases hE : selW f = 0
        · rw [hE, orE0] at hS
          simp +contextual only [go_sem, Rcb, Rbk, sevalprocAttr, hlv, ht, hE]
          rw [Run_lp]
          refine Close_drop (Close_id ⟨x.parts.length - (i + 1), by omega, rfl, i + 1, by omega, rfl, ?_, ?_, N4, M2, hN.trans hN4, hM1.trans hM2, hno2.2, rfl, hS⟩)
          · simp only [live, hlv, go_sem, Rcb, Rbk, sevalprocAttr]
          · simp only [ht, go_sem, Rcb, Rbk, sevalprocAttr, wrap_succ i (by omega)]
        · rw [orE_pos hE, orE_pos hE] at hS
          simp +contextual only [go_sem, Rcb, Rbk, sevalprocAttr, hlv, ht, hE]
          exact end_none (hN.trans hN4) (by rw [hS])
      · have hz' : (0 : Int) < (i : Int) := by omega
        have hil : i - 1 < x.ops.length := by omega
        obtain ⟨bo, oo, co, rfl, hato, hro⟩ := hfget (i - 1) x.ops[i - 1] (List.getElem?_eq_getElem hil)
        unfold RI at hro; subst hro
        have hx := mcell_ext hM1 hato.1
        rw [Nat.mul_one] at hx
        have hgd : x.ops.getD (i - 1) 0 = x.ops[i - 1] := by simp [List.getD, List.getElem?_eq_getElem hil]
        have hwi : IntKind.i64.wrap ((i : Int) - 1) = ((i - 1 : Nat) : Int) := by rw [wrap64 (by omega) (by omega)]; omega
        rw [hgd] at hS key
        by_cases c1 : x.ops[i - 1] < 1
        · rw [if_pos ⟨by omega, .inl c1⟩, orE_pos (by decide)] at hS
          simp +contextual only [go_sem, Rcb, Rbk, sevalprocAttr, hlv, ht, hlt, hz', n1, g0, g1, g2, g3, g4, g5, g6, g7, g8, g9, g10, g11, g12, g13, g14, g15, g16, g17, g18, g19, g20, ow, ov]
          intro b4 N4 hb4 hap4 hN4 hTb4
          simp +contextual only [go_sem, Rcb, Rbk, sevalprocAttr, hlv, hb4, n1, hap4, hwi, hil, hx, c1]
          exact end_none (hN.trans hN4) (by rw [hS])
        · by_cases c2 : 4 < x.ops[i - 1]
          · rw [if_pos ⟨by omega, .inr c2⟩, orE_pos (by decide)] at hS
            simp +contextual only [go_sem, Rcb, Rbk, sevalprocAttr, hlv, ht, hlt, hz', n1, g0, g1, g2, g3, g4, g5, g6, g7, g8, g9, g10, g11, g12, g13, g14, g15, g16, g17, g18, g19, g20, ow, ov]
            intro b4 N4 hb4 hap4 hN4 hTb4
            simp +contextual only [go_sem, Rcb, Rbk, sevalprocAttr, hlv, hb4, n1, hap4, hwi, hil, hx, c1, c2]
            exact end_none (hN.trans hN4) (by rw [hS])
          · replace hS := key (fun h => by rcases h.2 with h | h; exact c1 h; exact c2 h)
            clear key
            simp +contextual only [go_sem, Rcb, Rbk, sevalprocAttr, hlv, ht, hlt, hz', n1, g0, g1, g2, g3, g4, g5, g6, g7, g8, g9, g10, g11, g12, g13, g14, g15, g16, g17, g18, g19, g20, ow, ov]
            intro b4 N4 hb4 hap4 hN4 hTb4
            simp +contextual only [go_sem, Rcb, Rbk, sevalprocAttr, hlv, hb4, n1, hap4, hwi, hil, hx, c1, c2]
            refine rCall_pure (ct_Selected (RSe_ext hM1 _ _ hrs) N4) ?_ (fun _ _ _ _ h => h.elim)
            rintro v M2 hM2 hno2 rfl
            simp only [noneL, and_true] at hno2
            by_cases hE : selW f = 0
            · rw [hE, orE0] at hS
              simp +contextual only [go_sem, Rcb, Rbk, sevalprocAttr, hlv, ht, hE]
              rw [Run_lp]
              refine Close_drop (Close_id ⟨x.parts.length - (i + 1), by omega, rfl, i + 1, by omega, rfl, ?_, ?_, N4, M2, hN.trans hN4, hM1.trans hM2, hno2.2, rfl, hS⟩)
              · simp only [live, hlv, go_sem, Rcb, Rbk, sevalprocAttr]
              · simp only [ht, go_sem, Rcb, Rbk, sevalprocAttr, wrap_succ i (by omega)]
            · rw [orE_pos hE, orE_pos hE] at hS
              simp +contextual only [go_sem, Rcb, Rbk, sevalprocAttr, hlv, ht, hE]
              exact end_none (hN.trans hN4) (by rw [hS])
    · have : i = x.parts.length := by omega
      subst this
      rw [List.drop_length, partsW, orE0] at hS
      simp +contextual only [go_sem, Rcb, Rbk, sevalprocAttr, hlv, ht, hlt]
      exact hS' _ _ _ ⟨rfl, by simp only [hlv, go_sem, Rcb, Rbk, sevalprocAttr], hS, N, M1, hN, hM1, n1, rfl⟩
  clear hS
  rintro e ds h ⟨rfl, e1, hS, N, M1, hN, hM1, n1, rfl⟩
  unfold queryW1 at hS
  by_cases hlim : x.limit < 0
  · rw [if_pos hlim] at hS
    have hlim' : ¬ 0 ≤ x.limit := by omega
    simp +contextual only [go_sem, Rcb, Rbk, sevalprocAttr, e1, n1, hlim']
    exact end_none hN (by rw [hS])
  rw [if_neg hlim] at hS
  have hlim' : 0 ≤ x.limit := by omega
  simp +contextual only [go_sem, Rcb, Rbk, sevalprocAttr, e1, n1, hlim']
  refine loop_range x.order.length 89 [(87, .slice ga x.order.length gc), (88, .int .i64 (x.order.length : Int))]
    (fun i e h => ∃ N M', ExtT T N ∧ Ext M M' ∧ M' b1 = none ∧ h = ⟨N, M', [(b1, [.slice pa x.parts.length pc, .slice fa x.ops.length fc, .slice ga x.order.length gc, .int .i64 x.limit])], []⟩ ∧ S = exprsW (x.order.drop i))
    0 (by omega) (by simp only [live, e1, go_sem, Rcb, Rbk, sevalprocAttr]) (by simp only [go_sem, Rcb, Rbk, sevalprocAttr]) ⟨N, M1, hN, hM1, n1, rfl, hS⟩ ?_
  clear hS e1 hM1 hN n1
  rintro i e h hi hlv ht ⟨N, M1, hN, hM1, n1, rfl, hS⟩
  simp only [live] at hlv
  by_cases hlt : i < x.order.length
  · obtain ⟨b', o', cs', rfl, hat, hrs⟩ := hgget i x.order[i] (List.getElem?_eq_getElem hlt)
    obtain ⟨sg, rfl, og, g0, g1, g2, g3, g4, g5, g6⟩ := RX_atf hrs hat
    have hdrop : x.order.drop i = x.order[i] :: x.order.drop (i + 1) := List.drop_eq_getElem_cons hlt
    rw [hdrop, exprsW] at hS
    simp +contextual only [go_sem, Rcb, Rbk, sevalprocAttr, hlv, ht, hlt, mcell_ext hM1 g0, mcell_ext hM1 g1, mcell_ext hM1 g2, mcell_ext hM1 g3, mcell_ext hM1 g4, mcell_ext hM1 g5, mcell_ext hM1 g6, og]
    intro b9 N9 hb9 hap9 hN9 hTb9
    refine rCall_pure (ct_Form (RX_ext hM1 _ _ hrs) N9) ?_ (fun _ _ _ _ h => h.elim)
    rintro v M2 hM2 hno2 rfl
    simp only [noneL, and_true] at hno2
    by_cases hE : exprW x.order[i] = 0
    · rw [hE, orE0] at hS
      simp +contextual only [go_sem, Rcb, Rbk, sevalprocAttr, hlv, ht, hE]
      rw [Run_lp]
      refine Close_drop (Close_id ⟨x.order.length - (i + 1), by omega, rfl, i + 1, by omega, rfl, ?_, ?_, N9, M2, hN.trans hN9, hM1.trans hM2, hno2.2, rfl, hS⟩)
      · simp only [live, hlv, go_sem, Rcb, Rbk, sevalprocAttr]
      · simp only [ht, go_sem, Rcb, Rbk, sevalprocAttr, wrap_succ i (by omega)]
    · rw [orE_pos hE] at hS
      simp +contextual only [go_sem, Rcb, Rbk, sevalprocAttr, hlv, ht, hE]
      exact end_none (hN.trans hN9) (by rw [hS])
  · have : i = x.order.length := by omega
    subst this
    rw [List.drop_length, exprsW] at hS
    simp +contextual only [go_sem, Rcb, Rbk, sevalprocAttr, hlv, ht, hlt]
    exact end_none hN (by rw [hS])
end Go.Proofs.YtoainkbcfnlkcaaGreatDoor

namespace Go.Proofs.YtoainkbcfnlkcaaGreatDoor
open Go Vc
set_option linter.unusedSimpArgs false
set_option linter.unusedVariables false
set_option maxRecDepth 10000
set_option maxHeartbeats 4000000

theorem ct_OneR {M : Mem} {x : Stm} {cs : List Value} (hx : RStm M x cs) : Ct Tryz.prog 76 [.agg ⟨cs⟩] M [] [] (fun r _ _ _ => r = .int .i64 (stmtW x)) noPan := by
  intro T
  obtain ⟨cv, qc, rv, wc, hc, hq, hr, hw, rfl⟩ := hx
  obtain ⟨p, o, r, rfl, q1, q2, q3⟩ := RQ_form hq
  obtain ⟨sw, rfl, ow, _⟩ := RX_form hw
  obtain ⟨hcb, ca, cc, rfl, hcl, _, hcget⟩ := RS_elim (by decide) (fun _ _ h => by unfold RCo at h; subst h; rfl) hc
  obtain ⟨hrb, ra, rc, rfl, hrl, _, hrget⟩ := RS_elim (by decide) (fun _ _ h => by obtain ⟨_, _, rfl⟩ := h; rfl) hr
  obtain ⟨S, hS⟩ : ∃ S, S = stmtW x := ⟨_, rfl⟩
  rw [← hS]
  unfold stmtW at hS
  have hnw : ∀ s, namesW [s] = if namedB s = true then 0 else 7 := fun s => by simp [namesW]
  refine ct_run mx bod76 Tryz.func76 rfl (by rw [nt76]; exact Nat.le_of_ble_eq_true rfl) (dr := dr76) (by kernel_rfl) rs76 ?_
  intro hno _
  simp +contextual only [go_sem, sevalprocAttr, q1, q2, q3, ow]
  intro b1 T1 hb1 hT1 hTb1
  by_cases k0 : x.k < 1 ∨ 5 < x.k
  · rw [if_pos k0] at hS
    refine rCond_to (t' := true) ?_ ?_
    · rw [Bool.eq_iff_iff]; simp; omega
    simp +contextual only [go_sem, Rcb, Rbk, sevalprocAttr]
    exact end_none hT1 (by rw [hS])
  rw [if_neg k0] at hS
  refine rCond_to (t' := false) ?_ ?_
  · rw [Bool.eq_iff_iff]; simp; omega
  have k1 : ¬ x.k < 1 := fun h => k0 (.inl h)
  have k2 : ¬ 5 < x.k := fun h => k0 (.inr h)
  by_cases k5 : x.k = 5
  · rw [if_pos k5] at hS
    simp +contextual only [go_sem, Rcb, Rbk, sevalprocAttr, hb1, k5]
    refine rCall_pure (ct_Asked hq T1) ?_ (fun _ _ _ _ h => h.elim)
    rintro v M2 hM2 _ rfl
    simp +contextual only [go_sem, Rcb, Rbk, sevalprocAttr]
    exact end_none hT1 (by rw [hS])
  rw [if_neg k5, hnw] at hS
  simp +contextual only [go_sem, Rcb, Rbk, sevalprocAttr, hb1, k5]
  refine rCall_pure (ct_NamedR x.name T1) ?_ (fun _ _ _ _ h => h.elim)
  rintro v M2 hM2 hno2 rfl
  simp only [noneL, and_true] at hno2
  by_cases hn : namedB x.name = true
  rotate_left
  · rw [if_neg hn, orE_pos (by decide)] at hS
    simp +contextual only [go_sem, Rcb, Rbk, sevalprocAttr, hn]
    exact end_none hT1 (by rw [hS])
  rw [if_pos hn, orE0] at hS
  by_cases c2 : x.k = 2
  · rw [if_pos c2] at hS
    simp +contextual only [go_sem, Rcb, Rbk, sevalprocAttr, hn, hno2, c2, q1, q2, q3]
    refine rCall_pure (ct_Asked (RQ_ext hM2 _ _ hq) T1) ?_ (fun _ _ _ _ h => h.elim)
    rintro v M3 hM3 _ rfl
    simp +contextual only [go_sem, Rcb, Rbk, sevalprocAttr]
    exact end_none hT1 (by rw [hS])
  rw [if_neg c2] at hS
  by_cases c1 : x.k = 1
  · rw [if_pos c1] at hS
    by_cases cl : (x.cols.length : Int) < 1 ∨ 8 < (x.cols.length : Int)
    · rw [if_pos cl] at hS
      by_cases cl1 : x.cols.length = 0
      · simp +contextual only [go_sem, Rcb, Rbk, sevalprocAttr, hn, hno2, c1, cl1]
        exact end_none hT1 (by rw [hS])
      · have cl2 : 8 < (x.cols.length : Int) := by omega
        have cl1' : ¬ (x.cols.length : Int) = 0 := by omega
        simp +contextual only [go_sem, Rcb, Rbk, sevalprocAttr, hn, hno2, c1, cl1, cl1', cl2]
        exact end_none hT1 (by rw [hS])
    rw [if_neg cl] at hS
    have cl1 : ¬ x.cols.length = 0 := by omega
    have cl1' : ¬ (x.cols.length : Int) = 0 := by omega
    have cl2 : ¬ 8 < (x.cols.length : Int) := fun h => cl (.inr h)
    simp +contextual only [go_sem, Rcb, Rbk, sevalprocAttr, hn, hno2, c1, cl1, cl1', cl2]
    refine loop_range x.cols.length 47 [(45, .slice ca x.cols.length cc), (46, .int .i64 (x.cols.length : Int))]
      (fun i e h => ∃ N M' L, ExtT T N ∧ Ext M M' ∧ h = ⟨N, M', L, []⟩ ∧ noneL M' L ∧ S = colsW (x.cols.drop i))
      0 (by omega) (by simp only [live, go_sem, Rcb, Rbk, sevalprocAttr]) (by simp only [go_sem, Rcb, Rbk, sevalprocAttr]) ⟨T1, M2, _, hT1, hM2, rfl, ⟨hno2, trivial⟩, hS⟩ ?_
    clear hS
    rintro i e h hi hlv ht ⟨N, M3, L, hN, hM3, rfl, hL, hS⟩
    simp only [live] at hlv
    by_cases hlt : i < x.cols.length
    · obtain ⟨b', o', cs', rfl, hat, hrs⟩ := hcget i x.cols[i] (List.getElem?_eq_getElem hlt)
      unfold RCo at hrs; subst hrs
      have hdrop : x.cols.drop i = x.cols[i] :: x.cols.drop (i + 1) := List.drop_eq_getElem_cons hlt
      have g0 := mcell_ext hM3 hat.1
      have g1 := mcell_ext hM3 hat.2.1
      rw [hdrop, colsW, hnw] at hS
      simp +contextual only [go_sem, Rcb, Rbk, sevalprocAttr, hlv, ht, hlt, g0, g1]
      intro b5 N5 hb5 hap5 hN5 hTb5
      refine rCall_pure (ct_NamedR x.cols[i].name N5) ?_ (fun _ _ _ _ h => h.elim)
      rintro v M5 hM5 hno5 rfl
      have hnL := hno5.2
      have hn5 := hno5.1
      by_cases hE2 : namedB x.cols[i].name = true
      · rw [if_pos hE2, orE0] at hS
        by_cases t1 : x.cols[i].ty < 2
        · rw [if_pos (.inl t1)] at hS
          simp +contextual only [go_sem, Rcb, Rbk, sevalprocAttr, hlv, ht, hE2, hn5, t1]
          exact end_none (hN.trans hN5) (by rw [hS])
        · by_cases t2 : 4 < x.cols[i].ty
          · rw [if_pos (.inr t2)] at hS
            simp +contextual only [go_sem, Rcb, Rbk, sevalprocAttr, hlv, ht, hE2, hn5, t1, t2]
            exact end_none (hN.trans hN5) (by rw [hS])
          · rw [if_neg (by omega)] at hS
            simp +contextual only [go_sem, Rcb, Rbk, sevalprocAttr, hlv, ht, hE2, hn5, t1, t2]
            rw [Run_lp]
            refine Close_drop (Close_id ⟨x.cols.length - (i + 1), by omega, rfl, i + 1, by omega, rfl, ?_, ?_, N5, M5, L, hN.trans hN5, hM3.trans hM5, rfl, hnL, hS⟩)
            · simp only [live, hlv, go_sem, Rcb, Rbk, sevalprocAttr]
            · simp only [ht, go_sem, Rcb, Rbk, sevalprocAttr, wrap_succ i (by omega)]
      · rw [if_neg hE2, orE_pos (by decide)] at hS
        simp +contextual only [go_sem, Rcb, Rbk, sevalprocAttr, hlv, ht, hE2]
        exact end_none (hN.trans hN5) (by rw [hS])
    · have : i = x.cols.length := by omega
      subst this
      rw [List.drop_length, colsW] at hS
      simp +contextual only [go_sem, Rcb, Rbk, sevalprocAttr, hlv, ht, hlt]
      exact end_none hN (by rw [hS])
  rw [if_neg c1] at hS
  by_cases c3 : x.k = 3
  · rw [if_pos c3] at hS
    by_cases cl : (x.rows.length : Int) < 1 ∨ 400 < (x.rows.length : Int)
    · rw [if_pos cl] at hS
      by_cases cl1 : x.rows.length = 0
      · simp +contextual only [go_sem, Rcb, Rbk, sevalprocAttr, hn, hno2, c3, cl1]
        exact end_none hT1 (by rw [hS])
      · have cl2 : 400 < (x.rows.length : Int) := by omega
        have cl1' : ¬ (x.rows.length : Int) = 0 := by omega
        simp +contextual only [go_sem, Rcb, Rbk, sevalprocAttr, hn, hno2, c3, cl1, cl1', cl2]
        exact end_none hT1 (by rw [hS])
    rw [if_neg cl] at hS
    have cl1 : ¬ x.rows.length = 0 := by omega
    have cl1' : ¬ (x.rows.length : Int) = 0 := by omega
    have cl2 : ¬ 400 < (x.rows.length : Int) := fun h => cl (.inr h)
    simp +contextual only [go_sem, Rcb, Rbk, sevalprocAttr, hn, hno2, c3, cl1, cl1', cl2]
    refine loop_range x.rows.length 79 [(77, .slice ra x.rows.length rc), (78, .int .i64 (x.rows.length : Int))]
      (fun i e h => ∃ N M' L, ExtT T N ∧ Ext M M' ∧ h = ⟨N, M', L, []⟩ ∧ noneL M' L ∧ S = rowsW (x.rows.drop i))
      0 (by omega) (by simp only [live, go_sem, Rcb, Rbk, sevalprocAttr]) (by simp only [go_sem, Rcb, Rbk, sevalprocAttr]) ⟨T1, M2, _, hT1, hM2, rfl, ⟨hno2, trivial⟩, hS⟩ ?_
    clear hS
    rintro i e h hi hlv ht ⟨N, M3, L, hN, hM3, rfl, hL, hS⟩
    simp only [live] at hlv
    by_cases hlt : i < x.rows.length
    · obtain ⟨b', o', cs', rfl, hat, sv, hsv, rfl⟩ := hrget i x.rows[i] (List.getElem?_eq_getElem hlt)
      have hdrop : x.rows.drop i = x.rows[i] :: x.rows.drop (i + 1) := List.drop_eq_getElem_cons hlt
      have g0 := mcell_ext hM3 hat.1
      rw [Nat.mul_one] at g0
      rw [hdrop, rowsW] at hS
      obtain ⟨hvb, va, vc, rfl, hvl, _, hvget⟩ := RS_elim (by decide) (fun _ _ h => RV_len h) hsv
      by_cases rl : (x.rows[i].length : Int) < 1 ∨ 8 < (x.rows[i].length : Int)
      · rw [if_pos rl] at hS
        by_cases rl1 : x.rows[i].length = 0
        · have rl1' : (x.rows[i].length : Int) = 0 := by omega
          simp +contextual only [go_sem, Rcb, Rbk, sevalprocAttr, hlv, ht, hlt, g0, rl1, rl1']
          exact end_none hN (by rw [hS])
        · have rl2 : 8 < (x.rows[i].length : Int) := by omega
          have rl1' : ¬ (x.rows[i].length : Int) = 0 := by omega
          simp +contextual only [go_sem, Rcb, Rbk, sevalprocAttr, hlv, ht, hlt, g0, rl1, rl1', rl2]
          exact end_none hN (by rw [hS])
      rw [if_neg rl] at hS
      have rl1 : ¬ x.rows[i].length = 0 := by omega
      have rl1' : ¬ (x.rows[i].length : Int) = 0 := by omega
      have rl2 : ¬ 8 < (x.rows[i].length : Int) := fun h => rl (.inr h)
      simp +contextual only [go_sem, Rcb, Rbk, sevalprocAttr, hlv, ht, hlt, g0, rl1, rl1', rl2]
      refine loop_range x.rows[i].length 93 [(77, .slice (some ⟨b', o', none⟩) x.rows.length rc), (78, .int .i64 (x.rows.length : Int)), (79, .int .i64 (i : Int)), (91, .slice va x.rows[i].length vc), (92, .int .i64 (x.rows[i].length : Int))]
        (fun j e h => ∃ N M' L, ExtT T N ∧ Ext M M' ∧ h = ⟨N, M', L, []⟩ ∧ noneL M' L ∧ S = orE (valsW (x.rows[i].drop j)) (rowsW (x.rows.drop (i + 1))))
        0 (by omega) (by simp only [live, hlv, ht, go_sem, Rcb, Rbk, sevalprocAttr]) (by simp only [go_sem, Rcb, Rbk, sevalprocAttr]) ⟨N, M3, L, hN, hM3, rfl, hL, hS⟩ ?_
      clear hS hlv ht e hN hM3 g0 hL
      rintro j e h hj hlv htj ⟨N, M4, L, hN, hM4, rfl, hL, hS⟩
      simp only [live] at hlv
      by_cases hjt : j < x.rows[i].length
      · obtain ⟨bv, ov, cv', rfl, hatv, hrv⟩ := hvget j x.rows[i][j] (List.getElem?_eq_getElem hjt)
        unfold RV V.cs at hrv; subst hrv
        have hdropj : x.rows[i].drop j = x.rows[i][j] :: x.rows[i].drop (j + 1) := List.drop_eq_getElem_cons hjt
        have g0 := mcell_ext hM4 hatv.1
        have g1 := mcell_ext hM4 hatv.2.1
        have g2 := mcell_ext hM4 hatv.2.2.1
        rw [hdropj, valsW] at hS
        simp +contextual only [go_sem, Rcb, Rbk, sevalprocAttr, hlv, htj, hjt, g0, g1, g2]
        intro b10 N10 hb10 hap10 hN10 hTb10
        refine rCall_pure (ct_ref1_Wrong x.rows[i][j] M4 N10) ?_ (fun _ _ _ _ h => h.elim)
        rintro v M5 hM5 hno5 rfl
        by_cases hE2 : wrongV x.rows[i][j] = 0
        · rw [hE2, orE0] at hS
          simp +contextual only [go_sem, Rcb, Rbk, sevalprocAttr, hlv, htj, hE2]
          rw [Run_lp]
          refine Close_drop (Close_id ⟨x.rows[i].length - (j + 1), by omega, rfl, j + 1, by omega, rfl, ?_, ?_, N10, M5, L, hN.trans hN10, hM4.trans hM5, rfl, hno5.2, hS⟩)
          · simp only [live, hlv, go_sem, Rcb, Rbk, sevalprocAttr]
          · simp only [htj, go_sem, Rcb, Rbk, sevalprocAttr, wrap_succ j (by omega)]
        · rw [orE_pos hE2, orE_pos hE2] at hS
          simp +contextual only [go_sem, Rcb, Rbk, sevalprocAttr, hlv, htj, hE2]
          exact end_none (hN.trans hN10) (by rw [hS])
      · have : j = x.rows[i].length := by omega
        subst this
        rw [List.drop_length, valsW, orE0] at hS
        simp +contextual only [go_sem, Rcb, Rbk, sevalprocAttr, hlv, htj, hjt]
        refine lp_range hlt ?_ ?_ ⟨N, M4, L, hN, hM4, rfl, hL, hS⟩
        · simp only [live, hlv, go_sem, Rcb, Rbk, sevalprocAttr]
        · simp only [hlv, go_sem, Rcb, Rbk, sevalprocAttr, wrap_succ i (by omega)]
    · have : i = x.rows.length := by omega
      subst this
      rw [List.drop_length, rowsW] at hS
      simp +contextual only [go_sem, Rcb, Rbk, sevalprocAttr, hlv, ht, hlt]
      exact end_none hN (by rw [hS])
  rw [if_neg c3] at hS
  have c4 : x.k = 4 := by omega
  rw [if_pos c4] at hS
  cases hW : x.hasW with
  | true =>
    rw [if_pos hW] at hS
    simp +contextual only [go_sem, Rcb, Rbk, sevalprocAttr, hn, hno2, c4, hW, ow]
    refine rCall_pure (ct_Form (RX_ext hM2 _ _ hw) T1) ?_ (fun _ _ _ _ h => h.elim)
    rintro v M3 hM3 _ rfl
    simp +contextual only [go_sem, Rcb, Rbk, sevalprocAttr]
    exact end_none hT1 (by rw [hS])
  | false =>
    rw [if_neg (by rw [hW]; exact Bool.false_ne_true)] at hS
    simp +contextual only [go_sem, Rcb, Rbk, sevalprocAttr, hn, hno2, c4, hW]
    exact end_none hT1 (by rw [hS])
theorem ct_WrongR {M : Mem} {l : List Stm} {sv : Value} (hs : RS M (RStm M) 16 l sv) : Ct Tryz.prog 38 [sv] M [] [] (fun r _ _ _ => r = flt (wrongS l).1 ((wrongS l).2 : Int)) noPan := by
  intro T
  obtain ⟨hb, a, c, rfl, hle, _, hget⟩ := RS_elim (by decide) (fun _ _ => RStm_len) hs
  obtain ⟨S, hS⟩ : ∃ S, S = wrongS l := ⟨_, rfl⟩
  rw [← hS]
  unfold wrongS at hS
  refine ct_run mx bod38 Tryz.func38 rfl (by rw [nt38]; exact Nat.le_of_ble_eq_true rfl) (dr := dr38) (by kernel_rfl) rs38 ?_
  intro hno _
  simp +contextual only [go_sem, Rcb, Rbk, sevalprocAttr]
  intro b2 T2 hb2 hT2 hTb2
  by_cases h60 : 60 < (l.length : Int)
  · rw [if_pos h60] at hS
    simp +contextual only [go_sem, Rcb, Rbk, sevalprocAttr, h60, hb2]
    exact end_none hT2 (by rw [hS]; rfl)
  rw [if_neg h60] at hS
  simp +contextual only [go_sem, Rcb, Rbk, sevalprocAttr, h60, hb2]
  refine loop_range l.length 11 [(0, .slice a l.length c), (2, .pointer (some ⟨b2, 0, none⟩)), (10, .int .i64 l.length)] (fun i e h => ∃ M', Ext M M' ∧ M' b2 = none ∧ h = ⟨T2, M', [(b2, [.int .i64 0, .int .i64 0])], []⟩ ∧ S = wrongL i (l.drop i)) 0 (by omega) (by simp only [live, go_sem, Rcb, Rbk, sevalprocAttr]) (by simp only [go_sem, Rcb, Rbk, sevalprocAttr]) ⟨M, Ext.rfl', hb2, rfl, hS⟩ ?_
  clear hS
  rintro i e h hi hlv ht ⟨M1, hM1, n2, rfl, hS⟩
  simp only [live] at hlv
  by_cases hlt : i < l.length
  · obtain ⟨b, o, cs, rfl, hat, hrs⟩ := hget i l[i] (List.getElem?_eq_getElem hlt)
    have hrs0 := hrs
    have hdrop : l.drop i = l[i] :: l.drop (i + 1) := List.drop_eq_getElem_cons hlt
    rw [hdrop, wrongL] at hS
    generalize l[i] = f at *
    obtain ⟨cv, qc, rv, wc, hc, hq, hr, hw, rfl⟩ := hrs
    obtain ⟨p, q, r, rfl, q1, q2, q3⟩ := RQ_form hq
    obtain ⟨sw, rfl, ow, _⟩ := RX_form hw
    have o1 := (RS_one hc).1
    have o2 := (RS_one hr).1
    have g := hat.ext hM1
    have g0 := g.1
    have g1 := g.2.1
    have g2 := g.2.2.1
    have g3 := g.2.2.2.1
    have g4 := g.2.2.2.2.1
    have g5 := g.2.2.2.2.2.1
    have g6 := g.2.2.2.2.2.2.1
    have g7 := g.2.2.2.2.2.2.2.1
    have g8 := g.2.2.2.2.2.2.2.2.1
    have g9 := g.2.2.2.2.2.2.2.2.2.1
    have g10 := g.2.2.2.2.2.2.2.2.2.2.1
    have g11 := g.2.2.2.2.2.2.2.2.2.2.2.1
    have g12 := g.2.2.2.2.2.2.2.2.2.2.2.2.1
    have g13 := g.2.2.2.2.2.2.2.2.2.2.2.2.2.1
    have g14 := g.2.2.2.2.2.2.2.2.2.2.2.2.2.2.1
    have g15 := g.2.2.2.2.2.2.2.2.2.2.2.2.2.2.2.1
    clear g hat
    simp only [List.cons_append, List.nil_append] at hrs0
    simp +contextual only [go_sem, Rcb, Rbk, sevalprocAttr, hlv, ht, hlt, g0, g1, g2, g3, g4, g5, g6, g7, g8, g9, g10, g11, g12, g13, g14, g15, q1, q2, q3, ow, o1, o2]
    refine rCall_pure (ct_OneR (RStm_ext hM1 _ _ hrs0) T2) ?_ (fun _ _ _ _ h => h.elim)
    rintro v M2 hM2 hno2 rfl
    simp only [noneL, and_true] at hno2
    by_cases hE : stmtW f = 0
    · rw [if_neg (fun h => h hE)] at hS
      simp +contextual only [go_sem, Rcb, Rbk, sevalprocAttr, hlv, ht, hE]
      refine lp_range hlt ?_ ?_ ⟨M2, hM1.trans hM2, hno2, rfl, hS⟩
      · simp only [live, hlv, go_sem, Rcb, Rbk, sevalprocAttr]
      · simp only [ht, go_sem, Rcb, Rbk, sevalprocAttr, wrap_succ i (by omega)]
    · rw [if_pos hE] at hS
      simp +contextual only [go_sem, Rcb, Rbk, sevalprocAttr, hlv, ht, hE, hno2]
      exact end_none hT2 (by rw [hS]; rfl)
  · have : i = l.length := by omega
    subst this
    rw [List.drop_length, wrongL] at hS
    simp +contextual only [go_sem, Rcb, Rbk, sevalprocAttr, hlv, ht, hlt, n2]
    exact end_none hT2 (by rw [hS]; rfl)
end Go.Proofs.YtoainkbcfnlkcaaGreatDoor

namespace Go.Proofs.YtoainkbcfnlkcaaGreatDoor
open Go Vc
set_option linter.unusedSimpArgs false
set_option linter.unusedVariables false
set_option maxRecDepth 10000
set_option maxHeartbeats 4000000

def stmtsA (en : Int) (acc : List Stm) (t : List Tk) : Rs (List Stm) := (stmtsM en (60 - acc.length) t).bind fun l t => .ok (acc ++ l) t
theorem stmtsA_nil (en : Int) (t : List Tk) : stmtsA en [] t = stmtsM en 60 t := by
  unfold stmtsA
  simp only [List.length_nil, Nat.sub_zero, List.nil_append]
  cases stmtsM en 60 t <;> rfl
theorem stmtsA_end (en : Int) (acc : List Stm) : stmtsA en acc [] = .ok acc [] := by
  unfold stmtsA
  rw [stmtsM_nil]
  show Rs.ok (acc ++ []) [] = _
  rw [List.append_nil]
theorem stmtsA_step {en : Int} {acc : List Stm} (h : acc.length ≤ 60) {t : List Tk} (ht : t ≠ []) : stmtsA en acc t =
    (if ((acc.length : Nat) : Int) = 60 then .err 5 (atM en t) else .ok () t : Rs Unit).bind fun _ t => (stmtM en (exF en) t).bind fun s t => (needM en [sSemi] t).bind fun _ t => stmtsA en (acc ++ [s]) t := by
  unfold stmtsA
  rw [stmtsM_cons _ _ _ ht]
  by_cases he : acc.length = 60
  · rw [if_pos (by rw [he]; rfl), he]; rfl
  · rw [if_neg (by omega)]
    obtain ⟨r, hr⟩ : ∃ r, 60 - acc.length = r + 1 := ⟨60 - acc.length - 1, by omega⟩
    rw [hr]
    show Rs.bind ((stmtM en (exF en) t).bind _) _ = (stmtM en (exF en) t).bind _
    rw [Rs.bind_assoc]
    congr 1
    funext s t
    rw [Rs.bind_assoc]
    congr 1
    funext _ t
    rw [Rs.bind_assoc, show 60 - (acc ++ [s]).length = r by rw [List.length_append]; simp; omega]
    congr 1
    funext l t
    show Rs.ok (acc ++ (s :: l)) t = _
    rw [List.append_assoc]; rfl
def postReadR (s : Bs) : PostP := fun r M' _ _ => ∃ sv, r = .tuple ⟨[sv, flt (readM s).2.1 (readM s).2.2]⟩ ∧ RS M' (RStm M') 16 (readM s).1 sv
theorem postReadR_intro {s : Bs} {M : Mem} {L : LL} {R : RR} {l : List Stm} {er a : Int} {sv : Value} (hr : readM s = (l, er, a)) (hrs : RS M (RStm M) 16 l sv) : postReadR s (.tuple ⟨[sv, .agg ⟨[.int .i64 er, .int .i64 a]⟩]⟩) M L R := ⟨sv, by rw [hr]; rfl, by rw [hr]; exact hrs⟩
theorem readM_bad {s : Bs} {ts : List Tk} (hts : tokensM s = .ok ts) {er a : Int} (h : stmtsM s.length 60 ts = .err er a) : readM s = ([], er, a) := by
  unfold readM
  rw [hts]
  simp only
  rw [h]
theorem readM_got {s : Bs} {ts : List Tk} (hts : tokensM s = .ok ts) {l : List Stm} {t : List Tk} (h : stmtsM s.length 60 ts = .ok l t) : readM s = if (wrongS l).1 ≠ 0 then ([], (wrongS l).1, 0) else (l, 0, 0) := by
  unfold readM
  rw [hts]
  simp only
  rw [h]
theorem readM_tok {s : Bs} {x : Int × Int} (h : tokensM s = .error x) : readM s = ([], x.1, x.2) := by
  unfold readM
  rw [h]
theorem tokens_nz {s : Bs} {x : Int × Int} (h : tokensM s = .error x) : x.1 ≠ 0 := by
  unfold tokensM at h
  split at h
  · injection h with h; subst h; decide
  · exact toks_nz _ _ _ _ h
theorem ct_ReadR {M : Mem} (s : Bs) (T : Tm) : CtT Tryz.prog 12 [st s] T M [] [] (postReadR s) noPan := by
  refine ct_run mx bod12 Tryz.func12 rfl (by rw [nt12]; exact Nat.le_of_ble_eq_true rfl) (dr := dr12) (by kernel_rfl) rs12 ?_
  intro hno _
  simp +contextual only [go_sem, Rcb, Rbk, sevalprocAttr]
  intro b3 T3 hb3 hT3 hTb3
  refine rCall_pure (ct_TokensR s T3) ?_ (fun _ _ _ _ h => h.elim)
  intro v M1 hM1 hno1 hv
  simp only [noneL, and_true] at hno1
  unfold tokPost at hv
  cases hts : tokensM s with
  | error x =>
    rw [hts] at hv
    simp only at hv
    subst hv
    have hx := tokens_nz hts
    simp +contextual only [go_sem, Rcb, Rbk, sevalprocAttr, flt, hno1]
    intro b5 T5 hb5 hap5 hT5 hTb5
    simp +contextual only [go_sem, Rcb, Rbk, sevalprocAttr, hx]
    refine draw_all ?_
    simp +contextual only [go_sem, Rcb, Rbk, sevalprocAttr, hno1, hb5, hap5]
    refine end_none (hT3.trans hT5) ?_
    exact postReadR_intro (readM_tok hts) RS_nil
  | ok ts =>
    rw [hts] at hv
    obtain ⟨sv, rfl, hl⟩ := hv
    obtain ⟨_, sa, sc, rfl, _⟩ := RS_elim (by decide) (fun _ _ => RTw_len) hl
    simp +contextual only [go_sem, sevalprocAttr, flt, hno1]
    intro b5 T5 hb5 hap5 hT5 hTb5
    simp only [rCond_bool, Bool.false_eq_true, if_false, Run_skip, Run_seq]
    simp +contextual only [go_sem, sevalprocAttr, hno1, hb5, hap5]
    intro b6 T6 hb6 hap6 hT6 hTb6
    have hT := (hT3.trans hT5).trans hT6
    have hen : ((s.length : Nat) : Int) = (s.length : Int) := rfl
    have hu0 : Up (stmtsA (s.length : Int) [] ts) 0 0 (stmtsM s.length 60 ts) 0 0 := by rw [stmtsA_nil]; exact Up.rfl'
    refine run_cut (fun e ds h => ds = [] ∧ (e 3 = .pointer (some ⟨b3, 0, none⟩) ∧ e 6 = .pointer (some ⟨b6, 0, none⟩)) ∧ ∃ N M' lv' t be' ba' fv R acc, e 7 = fv ∧ ExtT T N ∧ M' b5 = none ∧ M' b3 = none ∧ M' b6 = none ∧ RS M' RTw 3 t lv' ∧ Acc 67 16 (RStm M') [] R fv acc ∧ acc.length ≤ 61 ∧
        (if be' = 0 then stmtsM s.length 60 ts = .ok acc [] else stmtsM s.length 60 ts = .err be' ba') ∧ h = ⟨N, M', (b5, [.int .i64 0, .int .i64 0]) :: (b3, [.int .i64 0, .int .i64 0]) :: wL b6 lv' s.length 0 be' ba', R⟩) (fun S' hS' => ?_) ?_
    · simp +contextual only [go_sem, Rcb, Rbk, sevalprocAttr]
      refine ⟨fun m e ds h => ds = [] ∧ (e 3 = .pointer (some ⟨b3, 0, none⟩) ∧ e 6 = .pointer (some ⟨b6, 0, none⟩)) ∧ ∃ N M' lv' t be' ba' fv R acc C, e 7 = fv ∧ ExtT T N ∧ M' b5 = none ∧ M' b3 = none ∧ M' b6 = none ∧ RS M' RTw 3 t lv' ∧ Acc 67 16 (RStm M') [] R fv acc ∧ acc.length ≤ 61 ∧
        Up C be' ba' (stmtsM s.length 60 ts) 0 0 ∧ (be' = 0 → acc.length ≤ 60 ∧ C = stmtsA s.length acc t) ∧ m = (if be' = 0 then 62 - acc.length else 0) ∧ h = ⟨N, M', (b5, [.int .i64 0, .int .i64 0]) :: (b3, [.int .i64 0, .int .i64 0]) :: wL b6 lv' s.length 0 be' ba', R⟩, ?_, ?_⟩
      · have hperm : List.Perm ([(b6, [.slice sa ts.length sc, .int .i64 (s.length : Int), .int .i64 0, .int .i64 0, .int .i64 0]), (b5, [.int .i64 0, .int .i64 0]), (b3, [.int .i64 0, .int .i64 0])] : LL) ((b5, [.int .i64 0, .int .i64 0]) :: (b3, [.int .i64 0, .int .i64 0]) :: wL b6 (.slice sa ts.length sc) s.length 0 0 0) :=
          List.perm_append_comm (l₁ := wL b6 (.slice sa ts.length sc) s.length 0 0 0) (l₂ := ([(b5, [.int .i64 0, .int .i64 0]), (b3, [.int .i64 0, .int .i64 0])] : LL))
        refine Close_perm hperm ?_
        exact Close_id ⟨_, rfl, ⟨by simp only [go_sem, Rcb, Rbk, sevalprocAttr], by simp only [go_sem, Rcb, Rbk, sevalprocAttr]⟩, T6, M1, _, ts, 0, 0, _, [], [], _, by simp only [go_sem, Rcb, Rbk, sevalprocAttr], hT, hb5, hno1, hb6, hl, Acc_nil, by simp, hu0, fun _ => ⟨by simp, rfl⟩, rfl, rfl⟩
      rintro m e ds h ⟨rfl, ⟨e3, e6⟩, N, M2, lv2, t, be2, ba2, fv, R, acc, C, e7, hN, n5, n3, n6, hl2, hacc, hal, hu, hC, rfl, rfl⟩
      obtain ⟨fa, fc, rfl⟩ := Acc_form hacc
      obtain ⟨_, la, lc, rfl, _⟩ := RS_elim (by decide) (fun _ _ => RTw_len) hl2
      have hp53 : ¬ b6 = b5 ∧ ¬ b5 = b6 := hap6.1
      have hp63 : ¬ b6 = b3 ∧ ¬ b3 = b6 := hap6.2
      simp +contextual only [go_sem, Rcb, Rbk, sevalprocAttr, e3, e6, e7]
      refine good_w [(b5, _), (b3, _)] ?_
      by_cases h0 : be2 = 0
      rotate_left
      · have hbad : stmtsM s.length 60 ts = .err be2 ba2 := by
          have := hu.bad (a := acc) (t := t) h0
          unfold Rl at this
          rw [if_pos rfl] at this
          cases hst : stmtsM s.length 60 ts with
          | ok a0 t0 => rw [hst] at this; exact (h0 this.2.2.1).elim
          | err er x => rw [hst] at this; obtain ⟨_, rfl, rfl⟩ := this; rfl
          | out => exact (stmts_ne _ _ hst).elim
        simp +contextual only [go_sem, Rcb, Rbk, sevalprocAttr, e3, e6, e7, h0]
        exact hS' _ _ _ ⟨rfl, ⟨by simp only [e3, go_sem, Rcb, Rbk, sevalprocAttr], by simp only [e6, go_sem, Rcb, Rbk, sevalprocAttr]⟩, N, M2, _, t, be2, ba2, _, R, acc, by simp only [e7, go_sem, Rcb, Rbk, sevalprocAttr], hN, n5, n3, n6, hl2, hacc, hal, by rw [if_neg h0]; exact hbad, rfl⟩
      obtain ⟨hal6, rfl⟩ := hC h0
      by_cases ht0 : t = []
      · subst ht0
        replace hu := hu.congr fun _ => stmtsA_end _ _
        have hgot : stmtsM s.length 60 ts = .ok acc [] := by
          have := hu.ok
          unfold Rl at this
          rw [if_pos rfl] at this
          cases hst : stmtsM s.length 60 ts with
          | ok a0 t0 => rw [hst] at this; obtain ⟨rfl, rfl, _⟩ := this; rfl
          | err er x => rw [hst] at this; exact (this.1 (this.2.1 ▸ h0)).elim
          | out => exact (stmts_ne _ _ hst).elim
        simp +contextual only [go_sem, Rcb, Rbk, sevalprocAttr, e3, e6, e7, h0, n6, hp53, hp63]
        exact hS' _ _ _ ⟨rfl, ⟨by simp only [e3, go_sem, Rcb, Rbk, sevalprocAttr], by simp only [e6, go_sem, Rcb, Rbk, sevalprocAttr]⟩, N, M2, _, [], be2, ba2, _, R, acc, by simp only [e7, go_sem, Rcb, Rbk, sevalprocAttr], hN, n5, n3, n6, hl2, hacc, hal, by rw [if_pos h0]; exact hgot, by rw [h0]; rfl⟩
      have htl : 0 < t.length := List.length_pos_iff.2 ht0
      have htl' : (0 : Int) < (t.length : Int) := by omega
      replace hu := hu.congr fun _ => stmtsA_step hal6 ht0
      simp +contextual only [go_sem, Rcb, Rbk, sevalprocAttr, e3, e6, e7, h0, n6, hp53, hp63, htl, htl']
      refine part_w [(b5, _), (b3, _)] (ct_w_room (n := ((acc.length : Nat) : Int)) (m := 60) hl2 N) ?_
      rintro v M3 _ t3 lv3 be3 ba3 hM3 hno3 hr3 hl3 rfl
      have hu3 := hu.bind hr3
      simp only [List.cons_append, List.nil_append, noneL, noneL_wL] at hno3
      simp +contextual only [go_sem, Rcb, Rbk, sevalprocAttr, e3, e6, e7, hno3]
      refine part_w [(b5, _), (b3, _)] (ct_w_stmt exD hl3 N) ?_
      rintro v M4 x t4 lv4 be4 ba4 hM4 hno4 hr4 hl4 ⟨cs, rfl, hx⟩
      have hu4 := hu3.bind hr4
      have hxo := RStm_oneC hx
      obtain ⟨cv, qc, rv, wc, hc1, hq1, hr1, hw1, hcs⟩ := hx
      obtain ⟨p, q, r, rfl, q1, q2, q3⟩ := RQ_form hq1
      obtain ⟨sw, rfl, ow, _⟩ := RX_form hw1
      have o1 := (RS_one hc1).1
      have o2 := (RS_one hr1).1
      have hx : RStm M4 x cs := ⟨cv, _, rv, _, hc1, hq1, hr1, hw1, hcs⟩
      simp only [List.cons_append, List.nil_append] at hcs
      subst hcs
      simp only [List.cons_append, List.nil_append, noneL, noneL_wL] at hno4
      simp +contextual only [go_sem, Rcb, Rbk, sevalprocAttr, e3, e6, e7, hno4, q1, q2, q3, ow, o1, o2]
      intro b hb hap
      have h24 := hM3.trans hM4
      refine app_acc (z := _) Tryz.underlying22 row22 okt22 (Acc_mono (fun x cs h => RStm_ext h24 _ _ h) hacc) hx (fun _ _ => RStm_len) hxo hb (by omega) (by decide) ?_
      intro fv' R' hacc'
      simp +contextual only [go_sem, Rcb, Rbk, sevalprocAttr, e3, e6, e7]
      intro b9 hb9 hap9
      refine must_wg [(b, _), (b5, _), (b3, _)] hu4 hl4 ?_
      intro M5 t5 lv5 be5 ba5 hM5 hno5 hu5 hb54 hl5
      simp only [List.cons_append, List.nil_append, noneL, noneL_wL] at hno5
      simp +contextual only [go_sem, Rcb, Rbk, sevalprocAttr, e3, e6, e7]
      refine lp_close (Close_drop (Close_id ⟨if be5 = 0 then 62 - (acc.length + 1) else 0, ?_, rfl, ⟨?_, ?_⟩, N, M5, lv5, t5, be5, ba5, fv', R', acc ++ [x], _, ?_, hN, hno5.2.1, hno5.2.2.1, hno5.2.2.2, hl5, Acc_mono (fun x cs h => RStm_ext hM5 _ _ h) hacc', ?_, hu5, fun h5 => ⟨?_, rfl⟩, ?_, rfl⟩))
      · rw [if_pos h0]; split <;> omega
      · simp only [e3, go_sem, Rcb, Rbk, sevalprocAttr]
      · simp only [e6, go_sem, Rcb, Rbk, sevalprocAttr]
      · simp only [go_sem, Rcb, Rbk, sevalprocAttr]
      · rw [List.length_append]; simp; omega
      · have hne := hr3.room (hr4.good (hb54 h5))
        rw [List.length_append]; simp; omega
      · rw [List.length_append]; rfl
    clear hu0
    rintro e ds h ⟨rfl, ⟨e3, e6⟩, N, M2, lv2, t, be2, ba2, fv, R, acc, e7, hN, n5, n3, n6, hl2, hacc, hal, hst, rfl⟩
    obtain ⟨fa, fc, rfl⟩ := Acc_form hacc
    obtain ⟨_, la, lc, rfl, _⟩ := RS_elim (by decide) (fun _ _ => RTw_len) hl2
    have hp53 : ¬ b6 = b5 ∧ ¬ b5 = b6 := hap6.1
    have hp63 : ¬ b6 = b3 ∧ ¬ b3 = b6 := hap6.2
    simp +contextual only [go_sem, Rcb, Rbk, sevalprocAttr, e3, e6]
    refine good_w [(b5, _), (b3, _)] ?_
    by_cases h0 : be2 = 0
    · subst h0
      rw [if_pos rfl] at hst
      have hgot := readM_got hts hst
      simp +contextual only [go_sem, Rcb, Rbk, sevalprocAttr, e3, e6, e7]
      refine rCall_close (k := fun h' => ∃ M6, Ext M2 M6 ∧ noneL M6 ((b5, [.int .i64 0, .int .i64 0]) :: (b3, [.int .i64 0, .int .i64 0]) :: wL b6 (.slice la t.length lc) s.length 0 0 ba2) ∧ RS M6 (RStm M6) 16 acc (.slice fa acc.length fc) ∧
        h' = ⟨N, M6, (b5, [.int .i64 0, .int .i64 0]) :: (b3, [.int .i64 0, .int .i64 0]) :: wL b6 (.slice la t.length lc) s.length 0 0 ba2, []⟩)
        (Close_acc hacc (by omega) (by decide) ⟨n5, n3, by simpa only [noneL_wL] using n6⟩ fun M' he hno hrs => Close_id ⟨M', he, hno, RS_ext Ext.rfl' (RStm_ext he) hrs, rfl⟩) ?_ bod38
      rintro h' ⟨M6, hM6, hno6, hrs, rfl⟩
      refine rCall_pure (ct_WrongR hrs N) ?_ (fun _ _ _ _ h => h.elim)
      rintro v M7 hM7 hno7 rfl
      simp only [List.cons_append, List.nil_append, noneL, noneL_wL] at hno7
      obtain ⟨m5, m3, m6⟩ := hno7
      have hrs7 := RS_ext hM7 (RStm_ext hM7) hrs
      simp +contextual only [go_sem, Rcb, Rbk, sevalprocAttr, flt, e3, e6, e7]
      refine stop_w [(b5, _), (b3, _)] (wrongS acc).1 0 ?_
      have hsm : stopM (wrongS acc).1 0 0 ba2 = ((wrongS acc).1, 0) := if_pos rfl
      rw [hsm]
      simp +contextual only [go_sem, Rcb, Rbk, sevalprocAttr, e3, e6]
      refine good_w [(b5, _), (b3, _)] ?_
      by_cases hw : (wrongS acc).1 = 0
      · rw [if_neg (fun h => h hw)] at hgot
        simp +contextual only [go_sem, Rcb, Rbk, sevalprocAttr, e3, e6, e7, hw, m5, m3, m6, hp53, hp63, hap5]
        exact end_none hN (postReadR_intro hgot hrs7)
      · rw [if_pos hw] at hgot
        simp +contextual only [go_sem, Rcb, Rbk, sevalprocAttr, e3, e6, e7, hw]
        refine draw_all ?_
        simp +contextual only [go_sem, Rcb, Rbk, sevalprocAttr, e3, e6, e7, hw, m5, m3, m6, hp53, hp63, hap5]
        exact end_none hN (postReadR_intro hgot RS_nil)
    · rw [if_neg h0] at hst
      have hgot := readM_bad hts hst
      simp +contextual only [go_sem, Rcb, Rbk, sevalprocAttr, e3, e6, e7, h0]
      refine good_w [(b5, _), (b3, _)] ?_
      simp +contextual only [go_sem, Rcb, Rbk, sevalprocAttr, e3, e6, e7, h0]
      refine draw_all ?_
      simp +contextual only [go_sem, Rcb, Rbk, sevalprocAttr, e3, e6, e7, n5, n3, n6, hp53, hp63, hap5]
      exact end_none hN (postReadR_intro hgot RS_nil)
end Go.Proofs.YtoainkbcfnlkcaaGreatDoor

namespace Go.Proofs.YtoainkbcfnlkcaaGreatDoor
open Go Vc
set_option linter.unusedSimpArgs false
set_option linter.unusedVariables false
set_option maxRecDepth 10000
set_option maxHeartbeats 2000000

theorem sigFlt : sigT Tryz.prog 25 = some [1, 1] := by kernel_rfl
theorem eqFlt (a b : Int) : vBinP Tryz.prog .eql 25 (.agg ⟨[.int .i64 a, .int .i64 b]⟩) (.agg ⟨[.int .i64 a, .int .i64 b]⟩) = some (.bool true) := by
  show (match sigT Tryz.prog 25 with | some ks => (eqK ks [.int .i64 a, .int .i64 b] [.int .i64 a, .int .i64 b]).map Value.bool | none => none) = _
  rw [sigFlt]
  simp [eqK, eqV]
theorem ct_sreads {M : Mem} (s : Bs) (hg : Glob M) (T : Tm) : CtT Tryz.prog 3 [st s] T M [] [] (fun r _ _ _ => r = .bool true) noPan := by
  refine ct_run mx bod3 Tryz.func3 rfl (by rw [nt3]; exact Nat.le_of_ble_eq_true rfl) (dr := dr3) (by kernel_rfl) rs3 ?_
  intro hno _
  simp +contextual only [go_sem, Rcb, Rbk, sevalprocAttr]
  refine rCall_pure (ct_Read s hg T) ?_ (fun _ _ _ _ h => h.elim)
  rintro v M1 hM1 _ ⟨sv, rfl, hs⟩
  obtain ⟨_, a1, k1, rfl, hk1, _⟩ := RS_elim (by decide) (fun _ _ => RStm_len) hs
  simp +contextual only [go_sem, Rcb, Rbk, sevalprocAttr, flt]
  intro b4 T4 hb4 hT4 hTb4
  refine rCall_pure (ct_ReadR s T4) ?_ (fun _ _ _ _ h => h.elim)
  rintro v M2 hM2 hno2 ⟨tv, rfl, ht⟩
  obtain ⟨_, a2, k2, rfl, hk2, _⟩ := RS_elim (by decide) (fun _ _ => RStm_len) ht
  simp only [noneL, and_true] at hno2
  have hs2 := RS_ext hM2 (RStm_ext hM2) hs
  simp +contextual only [go_sem, Rcb, Rbk, sevalprocAttr, flt, hno2]
  intro b6 T6 hb6 hap6 hT6 hTb6
  have hT := hT4.trans hT6
  simp +contextual only [go_sem, Rcb, Rbk, sevalprocAttr, hno2, hb6, hap6, eqFlt]
  refine rCall_pure (ct_Same hs2 ht T6) ?_ (fun _ _ _ _ h => h.elim)
  rintro v M3 hM3 _ rfl
  simp +contextual only [go_sem, Rcb, Rbk, sevalprocAttr]
  refine rCall_pure (ct_Named (((hg.ext hM1).ext hM2).ext hM3) s T6) ?_ (fun _ _ _ _ h => h.elim)
  rintro v M4 hM4 _ rfl
  simp +contextual only [go_sem, Rcb, Rbk, sevalprocAttr]
  refine rCall_pure (ct_NamedR s T6) ?_ (fun _ _ _ _ h => h.elim)
  rintro v M5 hM5 _ rfl
  simp +contextual only [go_sem, Rcb, Rbk, sevalprocAttr]
  exact end_none hT (by simp)
end Go.Proofs.YtoainkbcfnlkcaaGreatDoor


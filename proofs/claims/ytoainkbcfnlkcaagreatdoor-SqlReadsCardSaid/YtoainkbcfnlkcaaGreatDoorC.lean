import Derived.Test.YtoainkbcfnlkcaaGreatDoorB
set_option linter.all false
namespace Go.Proofs.YtoainkbcfnlkcaaGreatDoor
open Go Vc
set_option linter.unusedSimpArgs false
set_option linter.unusedVariables false
set_option maxRecDepth 10000

def someM {α : Type} (en : Int) (g : List Tk → Rs α) : Nat → List Tk → Rs (List α)
  | 0, t => .err 5 (atM en t)
  | k + 1, t => (g t).bind fun a t => if seesM sComma t = true then (someM en g k t.tail).bind fun l t => .ok (a :: l) t else .ok [a] t
theorem Rs.bind_assoc {α β γ : Type} (r : Rs α) (f : α → List Tk → Rs β) (g : β → List Tk → Rs γ) : (r.bind f).bind g = r.bind fun a t => (f a t).bind g := by cases r <;> rfl
theorem ct_some_X {α : Type} {M : Mem} {pb gf : Nat} {toks : List Tk} {lv : Value} {en op : Int} {fa fc : List Value} {g : List Tk → Rs α} {r : Mem → α → List Value → Prop} {enc : α → Value → Mem → Prop} {C : Mem → Prop} (most : Nat)
    (hgc : ∀ (M : Mem) (t : List Tk) (lv : Value) (T : Tm), Glob M → C M → RS M RTk 3 t lv → g t ≠ .out → CtT Tryz.prog gf (fa ++ fc) T M (pL pb lv en op) [] (postP pb en op enc (g t)) (panP pb en (g t)))
    (hE : ∀ x v M, enc x v M → ∃ cs, v.cells.toList = cs ∧ r M x cs) (hsz : ∀ M x cs, r M x cs → cs.length = 7) (hone : ∀ M x cs, r M x cs → ∀ u ∈ cs, u.oneCell' = true) (hext : ∀ M M' x cs, Ext M M' → r M x cs → r M' x cs)
    (hC : ∀ M M', Ext M M' → C M → C M') (hC0 : C M) (hmost : most ≤ 400) (hg : Glob M) (hl : RS M RTk 3 toks lv) (hne : someM en g most toks ≠ .out) (T : Tm) :
    CtT Tryz.prog 103 [.pointer (some ⟨pb, 0, none⟩), .int .i64 (most : Int), .func (.func gf) ⟨fa⟩ ⟨fc⟩] T M (pL pb lv en op) [] (postP pb en op (fun l v M => RS M (r M) 7 l v) (someM en g most toks)) (panP pb en (someM en g most toks)) := by
  refine ct_run mx bod103 Tryz.func103 rfl (by rw [nt103]; exact Nat.le_of_ble_eq_true rfl) (dr := dr103) (by kernel_rfl) rs103 ?_
  intro hno _
  simp only [noneL_pL] at hno
  simp +contextual only [go_sem, Rcb, Rbk, sevalprocAttr]
  refine loop_rule (fun m e ds h => ds = [] ∧ e 0 = .pointer (some ⟨pb, 0, none⟩) ∧ e 1 = .int .i64 (most : Int) ∧ e 2 = .func (.func gf) ⟨fa⟩ ⟨fc⟩ ∧
    ∃ M' t' lv' acc, m + acc.length = most ∧ Ext M M' ∧ M' pb = none ∧ RS M' RTk 3 t' lv' ∧ someM en g most toks = (someM en g m t').bind (fun l t => .ok (acc ++ l) t) ∧
      ((acc = [] ∧ e 7 = .slice none 0 0 ∧ h = ⟨T, M', pL pb lv' en op, []⟩) ∨ ∃ ra rc xs, e 7 = .slice ra acc.length rc ∧ RL (r M') acc xs ∧ h = ⟨T, M', pL pb lv' en op, [(.slice ra acc.length rc, 65, 7, xs)]⟩))
    ⟨most, rfl, by simp only [go_sem, Rcb, Rbk, sevalprocAttr], by simp only [go_sem, Rcb, Rbk, sevalprocAttr], by simp only [go_sem, Rcb, Rbk, sevalprocAttr], M, toks, lv, [], by simp, Ext.rfl', hno, hl, by cases someM en g most toks <;> rfl, .inl ⟨rfl, by simp only [go_sem, Rcb, Rbk, sevalprocAttr], rfl⟩⟩ ?_
  rintro m e ds h ⟨rfl, e0, e1, e2, M1, t1, lv1, acc, hm, hM1, np, hl1, hres, hcase⟩
  have hg1 := hg.ext hM1
  cases m with
  | zero =>
    have hlen : (acc.length : Int) = (most : Int) := by omega
    have herr : someM en g most toks = .err 5 (atM en t1) := hres
    rcases hcase with ⟨rfl, e7, rfl⟩ | ⟨ra, rc, xs, e7, hxs, rfl⟩
    · have hlen : (0 : Int) = (most : Int) := by simpa using hlen
      simp +contextual only [go_sem, Rcb, Rbk, sevalprocAttr, e0, e1, e2, e7, hlen]
      refine at_p [] hl1 ?_
      simp +contextual only [go_sem, Rcb, Rbk, sevalprocAttr]
      exact fail_p [] ExtT.rfl' herr
    · simp +contextual only [go_sem, Rcb, Rbk, sevalprocAttr, e0, e1, e2, e7, hlen]
      refine at_p [] hl1 ?_
      simp +contextual only [go_sem, Rcb, Rbk, sevalprocAttr]
      exact fail_p [] ExtT.rfl' herr
  | succ m =>
    have hlen : ¬ (acc.length : Int) = (most : Int) := by omega
    simp only [someM, Rs.bind_assoc] at hres
    rcases hcase with ⟨rfl, e7, rfl⟩ | ⟨ra, rc, xs, e7, hxs, rfl⟩
    · have hlen : ¬ (0 : Int) = (most : Int) := by simpa using hlen
      simp +contextual only [go_sem, Rcb, Rbk, sevalprocAttr, e0, e1, e2, e7, hlen]
      refine part_b [] ExtT.rfl' hres hne (fun h => hgc M1 t1 lv1 T hg1 (hC _ _ hM1 hC0) hl1 h) ?_
      rintro v M2 a t2 lv2 hM2 hno2 hres hl2 hv
      obtain ⟨cs, hcs, hr⟩ := hE _ _ _ hv
      have hcl := hsz _ _ _ hr
      simp only [List.cons_append, List.nil_append, noneL, noneL_pL] at hno2
      have hcs2 := hcs
      simp only [Value.cells] at hcs2
      simp +contextual only [go_sem, Rcb, Rbk, sevalprocAttr, e0, e1, e2, e7, hcs, hcs2, hcl, hno2]
      intro b hb hapb
      refine app_nil row58 okt58 (.slice _ 1 _ _ _ Tryz.underlying58 (cells_own [] hb trivial (by rw [hcl])) (hone _ _ _ hr)) (by rw [hcl]; decide) ?_
      intro ra rm rc hrm
      have hrm1 : rm = 1 := by rw [hcl] at hrm; omega
      subst hrm1
      simp +contextual only [go_sem, Rcb, Rbk, sevalprocAttr, e0, e1, e2]
      refine is_c [(b, _)] sComma hl2 (fun hs lv3 hl3 => ?_) (fun hs lv3 hl3 => ?_)
      · rw [if_pos hs, Rs.bind_assoc] at hres
        simp +contextual only [go_sem, Rcb, Rbk, sevalprocAttr, e0, e1, e2]
        rw [Run_lp]
        refine Close_drop (Close_id ⟨m, by omega, rfl, ?_, ?_, ?_, M2, t2.tail, lv3, [a], by simp only [List.length_cons, List.length_nil] at hm ⊢; omega, hM1.trans hM2, hno2, hl3, hres, .inr ⟨ra, rc, cs, ?_, RL_one hr, rfl⟩⟩)
        all_goals simp only [e0, e1, e2, go_sem, Rcb, Rbk, sevalprocAttr]
      · rw [if_neg (by simp [hs])] at hres
        simp +contextual only [go_sem, Rcb, Rbk, sevalprocAttr, e0, e1, e2]
        refine Close_drop (Close_row fun M3 hM3 hno3 hsl => end_id ExtT.rfl' rfl rfl ?_)
        exact ⟨[a], t2, lv3, hres, rfl, RS_ext hM3 (fun _ _ h => h) hl3, rfl, ⟨by simp, cs, hsl, RL_one (hext _ _ _ _ hM3 hr)⟩⟩
    · simp +contextual only [go_sem, Rcb, Rbk, sevalprocAttr, e0, e1, e2, e7, hlen]
      refine part_b [] ExtT.rfl' hres hne (fun h => hgc M1 t1 lv1 T hg1 (hC _ _ hM1 hC0) hl1 h) ?_
      rintro v M2 a t2 lv2 hM2 hno2 hres hl2 hv
      obtain ⟨cs, hcs, hr⟩ := hE _ _ _ hv
      have hcl := hsz _ _ _ hr
      have hxl := RL_len (hsz M1) hxs
      have hxs2 : RL (r M2) acc xs := RL_mono (fun x cs h => hext _ _ _ _ hM2 h) hxs
      simp only [List.cons_append, List.nil_append, noneL, noneL_pL] at hno2
      have hcs2 := hcs
      simp only [Value.cells] at hcs2
      simp +contextual only [go_sem, Rcb, Rbk, sevalprocAttr, e0, e1, e2, e7, hcs, hcs2, hcl, hno2]
      intro b hb hapb
      refine app_row row58 okt58 (.slice _ 1 _ _ _ Tryz.underlying58 (cells_own [] hb trivial (by rw [hcl])) (hone _ _ _ hr)) (by rw [hcl, hxl]; omega) ?_
      intro ra' rm rc' hrm
      have hrm1 : rm = (acc ++ [a]).length := by
        rw [hcl, hxl] at hrm
        rw [List.length_append, List.length_cons, List.length_nil]
        omega
      subst hrm1
      have hacc := RL_append hxs2 (RL_one hr)
      simp +contextual only [go_sem, Rcb, Rbk, sevalprocAttr, e0, e1, e2]
      refine is_c [(b, _)] sComma hl2 (fun hs lv3 hl3 => ?_) (fun hs lv3 hl3 => ?_)
      · rw [if_pos hs, Rs.bind_assoc] at hres
        simp +contextual only [go_sem, Rcb, Rbk, sevalprocAttr, e0, e1, e2]
        rw [Run_lp]
        refine Close_drop (Close_id ⟨m, by omega, rfl, ?_, ?_, ?_, M2, t2.tail, lv3, acc ++ [a], by rw [List.length_append]; simp only [List.length_cons, List.length_nil]; omega, hM1.trans hM2, hno2, hl3, ?_, .inr ⟨ra', rc', xs ++ cs, ?_, hacc, rfl⟩⟩)
        · simp only [e0, e1, e2, go_sem, Rcb, Rbk, sevalprocAttr]
        · simp only [e0, e1, e2, go_sem, Rcb, Rbk, sevalprocAttr]
        · simp only [e0, e1, e2, go_sem, Rcb, Rbk, sevalprocAttr]
        · rw [hres]
          congr 1
          funext l t
          simp [Rs.bind]
        · simp only [updo_get, go_sem, Rcb, Rbk, sevalprocAttr]
      · rw [if_neg (by simp [hs])] at hres
        simp +contextual only [go_sem, Rcb, Rbk, sevalprocAttr, e0, e1, e2]
        refine Close_drop (Close_row fun M3 hM3 hno3 hsl => end_id ExtT.rfl' rfl rfl ?_)
        exact ⟨acc ++ [a], t2, lv3, hres, rfl, RS_ext hM3 (fun _ _ h => h) hl3, rfl, ⟨by rw [List.length_append]; simp only [List.length_cons, List.length_nil]; omega, xs ++ cs, hsl, RL_mono (fun x cs h => hext _ _ _ _ hM3 h) hacc⟩⟩
theorem ct_some_Co {α : Type} {M : Mem} {pb gf : Nat} {toks : List Tk} {lv : Value} {en op : Int} {fa fc : List Value} {g : List Tk → Rs α} {r : Mem → α → List Value → Prop} {enc : α → Value → Mem → Prop} {C : Mem → Prop} (most : Nat)
    (hgc : ∀ (M : Mem) (t : List Tk) (lv : Value) (T : Tm), Glob M → C M → RS M RTk 3 t lv → g t ≠ .out → CtT Tryz.prog gf (fa ++ fc) T M (pL pb lv en op) [] (postP pb en op enc (g t)) (panP pb en (g t)))
    (hE : ∀ x v M, enc x v M → ∃ cs, v.cells.toList = cs ∧ r M x cs) (hsz : ∀ M x cs, r M x cs → cs.length = 2) (hone : ∀ M x cs, r M x cs → ∀ u ∈ cs, u.oneCell' = true) (hext : ∀ M M' x cs, Ext M M' → r M x cs → r M' x cs)
    (hC : ∀ M M', Ext M M' → C M → C M') (hC0 : C M) (hmost : most ≤ 400) (hg : Glob M) (hl : RS M RTk 3 toks lv) (hne : someM en g most toks ≠ .out) (T : Tm) :
    CtT Tryz.prog 63 [.pointer (some ⟨pb, 0, none⟩), .int .i64 (most : Int), .func (.func gf) ⟨fa⟩ ⟨fc⟩] T M (pL pb lv en op) [] (postP pb en op (fun l v M => RS M (r M) 2 l v) (someM en g most toks)) (panP pb en (someM en g most toks)) := by
  refine ct_run mx bod63 Tryz.func63 rfl (by rw [nt63]; exact Nat.le_of_ble_eq_true rfl) (dr := dr63) (by kernel_rfl) rs63 ?_
  intro hno _
  simp only [noneL_pL] at hno
  simp +contextual only [go_sem, Rcb, Rbk, sevalprocAttr]
  refine loop_rule (fun m e ds h => ds = [] ∧ e 0 = .pointer (some ⟨pb, 0, none⟩) ∧ e 1 = .int .i64 (most : Int) ∧ e 2 = .func (.func gf) ⟨fa⟩ ⟨fc⟩ ∧
    ∃ M' t' lv' acc, m + acc.length = most ∧ Ext M M' ∧ M' pb = none ∧ RS M' RTk 3 t' lv' ∧ someM en g most toks = (someM en g m t').bind (fun l t => .ok (acc ++ l) t) ∧
      ((acc = [] ∧ e 7 = .slice none 0 0 ∧ h = ⟨T, M', pL pb lv' en op, []⟩) ∨ ∃ ra rc xs, e 7 = .slice ra acc.length rc ∧ RL (r M') acc xs ∧ h = ⟨T, M', pL pb lv' en op, [(.slice ra acc.length rc, 80, 2, xs)]⟩))
    ⟨most, rfl, by simp only [go_sem, Rcb, Rbk, sevalprocAttr], by simp only [go_sem, Rcb, Rbk, sevalprocAttr], by simp only [go_sem, Rcb, Rbk, sevalprocAttr], M, toks, lv, [], by simp, Ext.rfl', hno, hl, by cases someM en g most toks <;> rfl, .inl ⟨rfl, by simp only [go_sem, Rcb, Rbk, sevalprocAttr], rfl⟩⟩ ?_
  rintro m e ds h ⟨rfl, e0, e1, e2, M1, t1, lv1, acc, hm, hM1, np, hl1, hres, hcase⟩
  have hg1 := hg.ext hM1
  cases m with
  | zero =>
    have hlen : (acc.length : Int) = (most : Int) := by omega
    have herr : someM en g most toks = .err 5 (atM en t1) := hres
    rcases hcase with ⟨rfl, e7, rfl⟩ | ⟨ra, rc, xs, e7, hxs, rfl⟩
    · have hlen : (0 : Int) = (most : Int) := by simpa using hlen
      simp +contextual only [go_sem, Rcb, Rbk, sevalprocAttr, e0, e1, e2, e7, hlen]
      refine at_p [] hl1 ?_
      simp +contextual only [go_sem, Rcb, Rbk, sevalprocAttr]
      exact fail_p [] ExtT.rfl' herr
    · simp +contextual only [go_sem, Rcb, Rbk, sevalprocAttr, e0, e1, e2, e7, hlen]
      refine at_p [] hl1 ?_
      simp +contextual only [go_sem, Rcb, Rbk, sevalprocAttr]
      exact fail_p [] ExtT.rfl' herr
  | succ m =>
    have hlen : ¬ (acc.length : Int) = (most : Int) := by omega
    simp only [someM, Rs.bind_assoc] at hres
    rcases hcase with ⟨rfl, e7, rfl⟩ | ⟨ra, rc, xs, e7, hxs, rfl⟩
    · have hlen : ¬ (0 : Int) = (most : Int) := by simpa using hlen
      simp +contextual only [go_sem, Rcb, Rbk, sevalprocAttr, e0, e1, e2, e7, hlen]
      refine part_b [] ExtT.rfl' hres hne (fun h => hgc M1 t1 lv1 T hg1 (hC _ _ hM1 hC0) hl1 h) ?_
      rintro v M2 a t2 lv2 hM2 hno2 hres hl2 hv
      obtain ⟨cs, hcs, hr⟩ := hE _ _ _ hv
      have hcl := hsz _ _ _ hr
      simp only [List.cons_append, List.nil_append, noneL, noneL_pL] at hno2
      have hcs2 := hcs
      simp only [Value.cells] at hcs2
      simp +contextual only [go_sem, Rcb, Rbk, sevalprocAttr, e0, e1, e2, e7, hcs, hcs2, hcl, hno2]
      intro b hb hapb
      refine app_nil row55 okt55 (.slice _ 1 _ _ _ Tryz.underlying55 (cells_own [] hb trivial (by rw [hcl])) (hone _ _ _ hr)) (by rw [hcl]; decide) ?_
      intro ra rm rc hrm
      have hrm1 : rm = 1 := by rw [hcl] at hrm; omega
      subst hrm1
      simp +contextual only [go_sem, Rcb, Rbk, sevalprocAttr, e0, e1, e2]
      refine is_c [(b, _)] sComma hl2 (fun hs lv3 hl3 => ?_) (fun hs lv3 hl3 => ?_)
      · rw [if_pos hs, Rs.bind_assoc] at hres
        simp +contextual only [go_sem, Rcb, Rbk, sevalprocAttr, e0, e1, e2]
        rw [Run_lp]
        refine Close_drop (Close_id ⟨m, by omega, rfl, ?_, ?_, ?_, M2, t2.tail, lv3, [a], by simp only [List.length_cons, List.length_nil] at hm ⊢; omega, hM1.trans hM2, hno2, hl3, hres, .inr ⟨ra, rc, cs, ?_, RL_one hr, rfl⟩⟩)
        all_goals simp only [e0, e1, e2, go_sem, Rcb, Rbk, sevalprocAttr]
      · rw [if_neg (by simp [hs])] at hres
        simp +contextual only [go_sem, Rcb, Rbk, sevalprocAttr, e0, e1, e2]
        refine Close_drop (Close_row fun M3 hM3 hno3 hsl => end_id ExtT.rfl' rfl rfl ?_)
        exact ⟨[a], t2, lv3, hres, rfl, RS_ext hM3 (fun _ _ h => h) hl3, rfl, ⟨by simp, cs, hsl, RL_one (hext _ _ _ _ hM3 hr)⟩⟩
    · simp +contextual only [go_sem, Rcb, Rbk, sevalprocAttr, e0, e1, e2, e7, hlen]
      refine part_b [] ExtT.rfl' hres hne (fun h => hgc M1 t1 lv1 T hg1 (hC _ _ hM1 hC0) hl1 h) ?_
      rintro v M2 a t2 lv2 hM2 hno2 hres hl2 hv
      obtain ⟨cs, hcs, hr⟩ := hE _ _ _ hv
      have hcl := hsz _ _ _ hr
      have hxl := RL_len (hsz M1) hxs
      have hxs2 : RL (r M2) acc xs := RL_mono (fun x cs h => hext _ _ _ _ hM2 h) hxs
      simp only [List.cons_append, List.nil_append, noneL, noneL_pL] at hno2
      have hcs2 := hcs
      simp only [Value.cells] at hcs2
      simp +contextual only [go_sem, Rcb, Rbk, sevalprocAttr, e0, e1, e2, e7, hcs, hcs2, hcl, hno2]
      intro b hb hapb
      refine app_row row55 okt55 (.slice _ 1 _ _ _ Tryz.underlying55 (cells_own [] hb trivial (by rw [hcl])) (hone _ _ _ hr)) (by rw [hcl, hxl]; omega) ?_
      intro ra' rm rc' hrm
      have hrm1 : rm = (acc ++ [a]).length := by
        rw [hcl, hxl] at hrm
        rw [List.length_append, List.length_cons, List.length_nil]
        omega
      subst hrm1
      have hacc := RL_append hxs2 (RL_one hr)
      simp +contextual only [go_sem, Rcb, Rbk, sevalprocAttr, e0, e1, e2]
      refine is_c [(b, _)] sComma hl2 (fun hs lv3 hl3 => ?_) (fun hs lv3 hl3 => ?_)
      · rw [if_pos hs, Rs.bind_assoc] at hres
        simp +contextual only [go_sem, Rcb, Rbk, sevalprocAttr, e0, e1, e2]
        rw [Run_lp]
        refine Close_drop (Close_id ⟨m, by omega, rfl, ?_, ?_, ?_, M2, t2.tail, lv3, acc ++ [a], by rw [List.length_append]; simp only [List.length_cons, List.length_nil]; omega, hM1.trans hM2, hno2, hl3, ?_, .inr ⟨ra', rc', xs ++ cs, ?_, hacc, rfl⟩⟩)
        · simp only [e0, e1, e2, go_sem, Rcb, Rbk, sevalprocAttr]
        · simp only [e0, e1, e2, go_sem, Rcb, Rbk, sevalprocAttr]
        · simp only [e0, e1, e2, go_sem, Rcb, Rbk, sevalprocAttr]
        · rw [hres]
          congr 1
          funext l t
          simp [Rs.bind]
        · simp only [updo_get, go_sem, Rcb, Rbk, sevalprocAttr]
      · rw [if_neg (by simp [hs])] at hres
        simp +contextual only [go_sem, Rcb, Rbk, sevalprocAttr, e0, e1, e2]
        refine Close_drop (Close_row fun M3 hM3 hno3 hsl => end_id ExtT.rfl' rfl rfl ?_)
        exact ⟨acc ++ [a], t2, lv3, hres, rfl, RS_ext hM3 (fun _ _ h => h) hl3, rfl, ⟨by rw [List.length_append]; simp only [List.length_cons, List.length_nil]; omega, xs ++ cs, hsl, RL_mono (fun x cs h => hext _ _ _ _ hM3 h) hacc⟩⟩
theorem ct_some_Vs {α : Type} {M : Mem} {pb gf : Nat} {toks : List Tk} {lv : Value} {en op : Int} {fa fc : List Value} {g : List Tk → Rs α} {r : Mem → α → List Value → Prop} {enc : α → Value → Mem → Prop} {C : Mem → Prop} (most : Nat)
    (hgc : ∀ (M : Mem) (t : List Tk) (lv : Value) (T : Tm), Glob M → C M → RS M RTk 3 t lv → g t ≠ .out → CtT Tryz.prog gf (fa ++ fc) T M (pL pb lv en op) [] (postP pb en op enc (g t)) (panP pb en (g t)))
    (hE : ∀ x v M, enc x v M → ∃ cs, v.cells.toList = cs ∧ r M x cs) (hsz : ∀ M x cs, r M x cs → cs.length = 1) (hone : ∀ M x cs, r M x cs → ∀ u ∈ cs, u.oneCell' = true) (hext : ∀ M M' x cs, Ext M M' → r M x cs → r M' x cs)
    (hC : ∀ M M', Ext M M' → C M → C M') (hC0 : C M) (hmost : most ≤ 400) (hg : Glob M) (hl : RS M RTk 3 toks lv) (hne : someM en g most toks ≠ .out) (T : Tm) :
    CtT Tryz.prog 65 [.pointer (some ⟨pb, 0, none⟩), .int .i64 (most : Int), .func (.func gf) ⟨fa⟩ ⟨fc⟩] T M (pL pb lv en op) [] (postP pb en op (fun l v M => RS M (r M) 1 l v) (someM en g most toks)) (panP pb en (someM en g most toks)) := by
  refine ct_run mx bod65 Tryz.func65 rfl (by rw [nt65]; exact Nat.le_of_ble_eq_true rfl) (dr := dr65) (by kernel_rfl) rs65 ?_
  intro hno _
  simp only [noneL_pL] at hno
  simp +contextual only [go_sem, Rcb, Rbk, sevalprocAttr]
  refine loop_rule (fun m e ds h => ds = [] ∧ e 0 = .pointer (some ⟨pb, 0, none⟩) ∧ e 1 = .int .i64 (most : Int) ∧ e 2 = .func (.func gf) ⟨fa⟩ ⟨fc⟩ ∧
    ∃ M' t' lv' acc, m + acc.length = most ∧ Ext M M' ∧ M' pb = none ∧ RS M' RTk 3 t' lv' ∧ someM en g most toks = (someM en g m t').bind (fun l t => .ok (acc ++ l) t) ∧
      ((acc = [] ∧ e 7 = .slice none 0 0 ∧ h = ⟨T, M', pL pb lv' en op, []⟩) ∨ ∃ ra rc xs, e 7 = .slice ra acc.length rc ∧ RL (r M') acc xs ∧ h = ⟨T, M', pL pb lv' en op, [(.slice ra acc.length rc, 81, 1, xs)]⟩))
    ⟨most, rfl, by simp only [go_sem, Rcb, Rbk, sevalprocAttr], by simp only [go_sem, Rcb, Rbk, sevalprocAttr], by simp only [go_sem, Rcb, Rbk, sevalprocAttr], M, toks, lv, [], by simp, Ext.rfl', hno, hl, by cases someM en g most toks <;> rfl, .inl ⟨rfl, by simp only [go_sem, Rcb, Rbk, sevalprocAttr], rfl⟩⟩ ?_
  rintro m e ds h ⟨rfl, e0, e1, e2, M1, t1, lv1, acc, hm, hM1, np, hl1, hres, hcase⟩
  have hg1 := hg.ext hM1
  cases m with
  | zero =>
    have hlen : (acc.length : Int) = (most : Int) := by omega
    have herr : someM en g most toks = .err 5 (atM en t1) := hres
    rcases hcase with ⟨rfl, e7, rfl⟩ | ⟨ra, rc, xs, e7, hxs, rfl⟩
    · have hlen : (0 : Int) = (most : Int) := by simpa using hlen
      simp +contextual only [go_sem, Rcb, Rbk, sevalprocAttr, e0, e1, e2, e7, hlen]
      refine at_p [] hl1 ?_
      simp +contextual only [go_sem, Rcb, Rbk, sevalprocAttr]
      exact fail_p [] ExtT.rfl' herr
    · simp +contextual only [go_sem, Rcb, Rbk, sevalprocAttr, e0, e1, e2, e7, hlen]
      refine at_p [] hl1 ?_
      simp +contextual only [go_sem, Rcb, Rbk, sevalprocAttr]
      exact fail_p [] ExtT.rfl' herr
  | succ m =>
    have hlen : ¬ (acc.length : Int) = (most : Int) := by omega
    simp only [someM, Rs.bind_assoc] at hres
    rcases hcase with ⟨rfl, e7, rfl⟩ | ⟨ra, rc, xs, e7, hxs, rfl⟩
    · have hlen : ¬ (0 : Int) = (most : Int) := by simpa using hlen
      simp +contextual only [go_sem, Rcb, Rbk, sevalprocAttr, e0, e1, e2, e7, hlen]
      refine part_b [] ExtT.rfl' hres hne (fun h => hgc M1 t1 lv1 T hg1 (hC _ _ hM1 hC0) hl1 h) ?_
      rintro v M2 a t2 lv2 hM2 hno2 hres hl2 hv
      obtain ⟨cs, hcs, hr⟩ := hE _ _ _ hv
      have hcl := hsz _ _ _ hr
      simp only [List.cons_append, List.nil_append, noneL, noneL_pL] at hno2
      have hcs2 := hcs
      simp only [Value.cells] at hcs2
      simp +contextual only [go_sem, Rcb, Rbk, sevalprocAttr, e0, e1, e2, e7, hcs, hcs2, hcl, hno2]
      intro b hb hapb
      refine app_nil row61 okt61 (.slice _ 1 _ _ _ Tryz.underlying61 (cells_own [] hb trivial (by rw [hcl])) (hone _ _ _ hr)) (by rw [hcl]; decide) ?_
      intro ra rm rc hrm
      have hrm1 : rm = 1 := by rw [hcl] at hrm; omega
      subst hrm1
      simp +contextual only [go_sem, Rcb, Rbk, sevalprocAttr, e0, e1, e2]
      refine is_c [(b, _)] sComma hl2 (fun hs lv3 hl3 => ?_) (fun hs lv3 hl3 => ?_)
      · rw [if_pos hs, Rs.bind_assoc] at hres
        simp +contextual only [go_sem, Rcb, Rbk, sevalprocAttr, e0, e1, e2]
        rw [Run_lp]
        refine Close_drop (Close_id ⟨m, by omega, rfl, ?_, ?_, ?_, M2, t2.tail, lv3, [a], by simp only [List.length_cons, List.length_nil] at hm ⊢; omega, hM1.trans hM2, hno2, hl3, hres, .inr ⟨ra, rc, cs, ?_, RL_one hr, rfl⟩⟩)
        all_goals simp only [e0, e1, e2, go_sem, Rcb, Rbk, sevalprocAttr]
      · rw [if_neg (by simp [hs])] at hres
        simp +contextual only [go_sem, Rcb, Rbk, sevalprocAttr, e0, e1, e2]
        refine Close_drop (Close_row fun M3 hM3 hno3 hsl => end_id ExtT.rfl' rfl rfl ?_)
        exact ⟨[a], t2, lv3, hres, rfl, RS_ext hM3 (fun _ _ h => h) hl3, rfl, ⟨by simp, cs, hsl, RL_one (hext _ _ _ _ hM3 hr)⟩⟩
    · simp +contextual only [go_sem, Rcb, Rbk, sevalprocAttr, e0, e1, e2, e7, hlen]
      refine part_b [] ExtT.rfl' hres hne (fun h => hgc M1 t1 lv1 T hg1 (hC _ _ hM1 hC0) hl1 h) ?_
      rintro v M2 a t2 lv2 hM2 hno2 hres hl2 hv
      obtain ⟨cs, hcs, hr⟩ := hE _ _ _ hv
      have hcl := hsz _ _ _ hr
      have hxl := RL_len (hsz M1) hxs
      have hxs2 : RL (r M2) acc xs := RL_mono (fun x cs h => hext _ _ _ _ hM2 h) hxs
      simp only [List.cons_append, List.nil_append, noneL, noneL_pL] at hno2
      have hcs2 := hcs
      simp only [Value.cells] at hcs2
      simp +contextual only [go_sem, Rcb, Rbk, sevalprocAttr, e0, e1, e2, e7, hcs, hcs2, hcl, hno2]
      intro b hb hapb
      refine app_row row61 okt61 (.slice _ 1 _ _ _ Tryz.underlying61 (cells_own [] hb trivial (by rw [hcl])) (hone _ _ _ hr)) (by rw [hcl, hxl]; omega) ?_
      intro ra' rm rc' hrm
      have hrm1 : rm = (acc ++ [a]).length := by
        rw [hcl, hxl] at hrm
        rw [List.length_append, List.length_cons, List.length_nil]
        omega
      subst hrm1
      have hacc := RL_append hxs2 (RL_one hr)
      simp +contextual only [go_sem, Rcb, Rbk, sevalprocAttr, e0, e1, e2]
      refine is_c [(b, _)] sComma hl2 (fun hs lv3 hl3 => ?_) (fun hs lv3 hl3 => ?_)
      · rw [if_pos hs, Rs.bind_assoc] at hres
        simp +contextual only [go_sem, Rcb, Rbk, sevalprocAttr, e0, e1, e2]
        rw [Run_lp]
        refine Close_drop (Close_id ⟨m, by omega, rfl, ?_, ?_, ?_, M2, t2.tail, lv3, acc ++ [a], by rw [List.length_append]; simp only [List.length_cons, List.length_nil]; omega, hM1.trans hM2, hno2, hl3, ?_, .inr ⟨ra', rc', xs ++ cs, ?_, hacc, rfl⟩⟩)
        · simp only [e0, e1, e2, go_sem, Rcb, Rbk, sevalprocAttr]
        · simp only [e0, e1, e2, go_sem, Rcb, Rbk, sevalprocAttr]
        · simp only [e0, e1, e2, go_sem, Rcb, Rbk, sevalprocAttr]
        · rw [hres]
          congr 1
          funext l t
          simp [Rs.bind]
        · simp only [updo_get, go_sem, Rcb, Rbk, sevalprocAttr]
      · rw [if_neg (by simp [hs])] at hres
        simp +contextual only [go_sem, Rcb, Rbk, sevalprocAttr, e0, e1, e2]
        refine Close_drop (Close_row fun M3 hM3 hno3 hsl => end_id ExtT.rfl' rfl rfl ?_)
        exact ⟨acc ++ [a], t2, lv3, hres, rfl, RS_ext hM3 (fun _ _ h => h) hl3, rfl, ⟨by rw [List.length_append]; simp only [List.length_cons, List.length_nil]; omega, xs ++ cs, hsl, RL_mono (fun x cs h => hext _ _ _ _ hM3 h) hacc⟩⟩
theorem ct_some_V {α : Type} {M : Mem} {pb gf : Nat} {toks : List Tk} {lv : Value} {en op : Int} {fa fc : List Value} {g : List Tk → Rs α} {r : Mem → α → List Value → Prop} {enc : α → Value → Mem → Prop} {C : Mem → Prop} (most : Nat)
    (hgc : ∀ (M : Mem) (t : List Tk) (lv : Value) (T : Tm), Glob M → C M → RS M RTk 3 t lv → g t ≠ .out → CtT Tryz.prog gf (fa ++ fc) T M (pL pb lv en op) [] (postP pb en op enc (g t)) (panP pb en (g t)))
    (hE : ∀ x v M, enc x v M → ∃ cs, v.cells.toList = cs ∧ r M x cs) (hsz : ∀ M x cs, r M x cs → cs.length = 3) (hone : ∀ M x cs, r M x cs → ∀ u ∈ cs, u.oneCell' = true) (hext : ∀ M M' x cs, Ext M M' → r M x cs → r M' x cs)
    (hC : ∀ M M', Ext M M' → C M → C M') (hC0 : C M) (hmost : most ≤ 400) (hg : Glob M) (hl : RS M RTk 3 toks lv) (hne : someM en g most toks ≠ .out) (T : Tm) :
    CtT Tryz.prog 105 [.pointer (some ⟨pb, 0, none⟩), .int .i64 (most : Int), .func (.func gf) ⟨fa⟩ ⟨fc⟩] T M (pL pb lv en op) [] (postP pb en op (fun l v M => RS M (r M) 3 l v) (someM en g most toks)) (panP pb en (someM en g most toks)) := by
  refine ct_run mx bod105 Tryz.func105 rfl (by rw [nt105]; exact Nat.le_of_ble_eq_true rfl) (dr := dr105) (by kernel_rfl) rs105 ?_
  intro hno _
  simp only [noneL_pL] at hno
  simp +contextual only [go_sem, Rcb, Rbk, sevalprocAttr]
  refine loop_rule (fun m e ds h => ds = [] ∧ e 0 = .pointer (some ⟨pb, 0, none⟩) ∧ e 1 = .int .i64 (most : Int) ∧ e 2 = .func (.func gf) ⟨fa⟩ ⟨fc⟩ ∧
    ∃ M' t' lv' acc, m + acc.length = most ∧ Ext M M' ∧ M' pb = none ∧ RS M' RTk 3 t' lv' ∧ someM en g most toks = (someM en g m t').bind (fun l t => .ok (acc ++ l) t) ∧
      ((acc = [] ∧ e 7 = .slice none 0 0 ∧ h = ⟨T, M', pL pb lv' en op, []⟩) ∨ ∃ ra rc xs, e 7 = .slice ra acc.length rc ∧ RL (r M') acc xs ∧ h = ⟨T, M', pL pb lv' en op, [(.slice ra acc.length rc, 63, 3, xs)]⟩))
    ⟨most, rfl, by simp only [go_sem, Rcb, Rbk, sevalprocAttr], by simp only [go_sem, Rcb, Rbk, sevalprocAttr], by simp only [go_sem, Rcb, Rbk, sevalprocAttr], M, toks, lv, [], by simp, Ext.rfl', hno, hl, by cases someM en g most toks <;> rfl, .inl ⟨rfl, by simp only [go_sem, Rcb, Rbk, sevalprocAttr], rfl⟩⟩ ?_
  rintro m e ds h ⟨rfl, e0, e1, e2, M1, t1, lv1, acc, hm, hM1, np, hl1, hres, hcase⟩
  have hg1 := hg.ext hM1
  cases m with
  | zero =>
    have hlen : (acc.length : Int) = (most : Int) := by omega
    have herr : someM en g most toks = .err 5 (atM en t1) := hres
    rcases hcase with ⟨rfl, e7, rfl⟩ | ⟨ra, rc, xs, e7, hxs, rfl⟩
    · have hlen : (0 : Int) = (most : Int) := by simpa using hlen
      simp +contextual only [go_sem, Rcb, Rbk, sevalprocAttr, e0, e1, e2, e7, hlen]
      refine at_p [] hl1 ?_
      simp +contextual only [go_sem, Rcb, Rbk, sevalprocAttr]
      exact fail_p [] ExtT.rfl' herr
    · simp +contextual only [go_sem, Rcb, Rbk, sevalprocAttr, e0, e1, e2, e7, hlen]
      refine at_p [] hl1 ?_
      simp +contextual only [go_sem, Rcb, Rbk, sevalprocAttr]
      exact fail_p [] ExtT.rfl' herr
  | succ m =>
    have hlen : ¬ (acc.length : Int) = (most : Int) := by omega
    simp only [someM, Rs.bind_assoc] at hres
    rcases hcase with ⟨rfl, e7, rfl⟩ | ⟨ra, rc, xs, e7, hxs, rfl⟩
    · have hlen : ¬ (0 : Int) = (most : Int) := by simpa using hlen
      simp +contextual only [go_sem, Rcb, Rbk, sevalprocAttr, e0, e1, e2, e7, hlen]
      refine part_b [] ExtT.rfl' hres hne (fun h => hgc M1 t1 lv1 T hg1 (hC _ _ hM1 hC0) hl1 h) ?_
      rintro v M2 a t2 lv2 hM2 hno2 hres hl2 hv
      obtain ⟨cs, hcs, hr⟩ := hE _ _ _ hv
      have hcl := hsz _ _ _ hr
      simp only [List.cons_append, List.nil_append, noneL, noneL_pL] at hno2
      have hcs2 := hcs
      simp only [Value.cells] at hcs2
      simp +contextual only [go_sem, Rcb, Rbk, sevalprocAttr, e0, e1, e2, e7, hcs, hcs2, hcl, hno2]
      intro b hb hapb
      refine app_nil row81 okt81 (.slice _ 1 _ _ _ Tryz.underlying81 (cells_own [] hb trivial (by rw [hcl])) (hone _ _ _ hr)) (by rw [hcl]; decide) ?_
      intro ra rm rc hrm
      have hrm1 : rm = 1 := by rw [hcl] at hrm; omega
      subst hrm1
      simp +contextual only [go_sem, Rcb, Rbk, sevalprocAttr, e0, e1, e2]
      refine is_c [(b, _)] sComma hl2 (fun hs lv3 hl3 => ?_) (fun hs lv3 hl3 => ?_)
      · rw [if_pos hs, Rs.bind_assoc] at hres
        simp +contextual only [go_sem, Rcb, Rbk, sevalprocAttr, e0, e1, e2]
        rw [Run_lp]
        refine Close_drop (Close_id ⟨m, by omega, rfl, ?_, ?_, ?_, M2, t2.tail, lv3, [a], by simp only [List.length_cons, List.length_nil] at hm ⊢; omega, hM1.trans hM2, hno2, hl3, hres, .inr ⟨ra, rc, cs, ?_, RL_one hr, rfl⟩⟩)
        all_goals simp only [e0, e1, e2, go_sem, Rcb, Rbk, sevalprocAttr]
      · rw [if_neg (by simp [hs])] at hres
        simp +contextual only [go_sem, Rcb, Rbk, sevalprocAttr, e0, e1, e2]
        refine Close_drop (Close_row fun M3 hM3 hno3 hsl => end_id ExtT.rfl' rfl rfl ?_)
        exact ⟨[a], t2, lv3, hres, rfl, RS_ext hM3 (fun _ _ h => h) hl3, rfl, ⟨by simp, cs, hsl, RL_one (hext _ _ _ _ hM3 hr)⟩⟩
    · simp +contextual only [go_sem, Rcb, Rbk, sevalprocAttr, e0, e1, e2, e7, hlen]
      refine part_b [] ExtT.rfl' hres hne (fun h => hgc M1 t1 lv1 T hg1 (hC _ _ hM1 hC0) hl1 h) ?_
      rintro v M2 a t2 lv2 hM2 hno2 hres hl2 hv
      obtain ⟨cs, hcs, hr⟩ := hE _ _ _ hv
      have hcl := hsz _ _ _ hr
      have hxl := RL_len (hsz M1) hxs
      have hxs2 : RL (r M2) acc xs := RL_mono (fun x cs h => hext _ _ _ _ hM2 h) hxs
      simp only [List.cons_append, List.nil_append, noneL, noneL_pL] at hno2
      have hcs2 := hcs
      simp only [Value.cells] at hcs2
      simp +contextual only [go_sem, Rcb, Rbk, sevalprocAttr, e0, e1, e2, e7, hcs, hcs2, hcl, hno2]
      intro b hb hapb
      refine app_row row81 okt81 (.slice _ 1 _ _ _ Tryz.underlying81 (cells_own [] hb trivial (by rw [hcl])) (hone _ _ _ hr)) (by rw [hcl, hxl]; omega) ?_
      intro ra' rm rc' hrm
      have hrm1 : rm = (acc ++ [a]).length := by
        rw [hcl, hxl] at hrm
        rw [List.length_append, List.length_cons, List.length_nil]
        omega
      subst hrm1
      have hacc := RL_append hxs2 (RL_one hr)
      simp +contextual only [go_sem, Rcb, Rbk, sevalprocAttr, e0, e1, e2]
      refine is_c [(b, _)] sComma hl2 (fun hs lv3 hl3 => ?_) (fun hs lv3 hl3 => ?_)
      · rw [if_pos hs, Rs.bind_assoc] at hres
        simp +contextual only [go_sem, Rcb, Rbk, sevalprocAttr, e0, e1, e2]
        rw [Run_lp]
        refine Close_drop (Close_id ⟨m, by omega, rfl, ?_, ?_, ?_, M2, t2.tail, lv3, acc ++ [a], by rw [List.length_append]; simp only [List.length_cons, List.length_nil]; omega, hM1.trans hM2, hno2, hl3, ?_, .inr ⟨ra', rc', xs ++ cs, ?_, hacc, rfl⟩⟩)
        · simp only [e0, e1, e2, go_sem, Rcb, Rbk, sevalprocAttr]
        · simp only [e0, e1, e2, go_sem, Rcb, Rbk, sevalprocAttr]
        · simp only [e0, e1, e2, go_sem, Rcb, Rbk, sevalprocAttr]
        · rw [hres]
          congr 1
          funext l t
          simp [Rs.bind]
        · simp only [updo_get, go_sem, Rcb, Rbk, sevalprocAttr]
      · rw [if_neg (by simp [hs])] at hres
        simp +contextual only [go_sem, Rcb, Rbk, sevalprocAttr, e0, e1, e2]
        refine Close_drop (Close_row fun M3 hM3 hno3 hsl => end_id ExtT.rfl' rfl rfl ?_)
        exact ⟨acc ++ [a], t2, lv3, hres, rfl, RS_ext hM3 (fun _ _ h => h) hl3, rfl, ⟨by rw [List.length_append]; simp only [List.length_cons, List.length_nil]; omega, xs ++ cs, hsl, RL_mono (fun x cs h => hext _ _ _ _ hM3 h) hacc⟩⟩
theorem ct_some_It {α : Type} {M : Mem} {pb gf : Nat} {toks : List Tk} {lv : Value} {en op : Int} {fa fc : List Value} {g : List Tk → Rs α} {r : Mem → α → List Value → Prop} {enc : α → Value → Mem → Prop} {C : Mem → Prop} (most : Nat)
    (hgc : ∀ (M : Mem) (t : List Tk) (lv : Value) (T : Tm), Glob M → C M → RS M RTk 3 t lv → g t ≠ .out → CtT Tryz.prog gf (fa ++ fc) T M (pL pb lv en op) [] (postP pb en op enc (g t)) (panP pb en (g t)))
    (hE : ∀ x v M, enc x v M → ∃ cs, v.cells.toList = cs ∧ r M x cs) (hsz : ∀ M x cs, r M x cs → cs.length = 8) (hone : ∀ M x cs, r M x cs → ∀ u ∈ cs, u.oneCell' = true) (hext : ∀ M M' x cs, Ext M M' → r M x cs → r M' x cs)
    (hC : ∀ M M', Ext M M' → C M → C M') (hC0 : C M) (hmost : most ≤ 400) (hg : Glob M) (hl : RS M RTk 3 toks lv) (hne : someM en g most toks ≠ .out) (T : Tm) :
    CtT Tryz.prog 138 [.pointer (some ⟨pb, 0, none⟩), .int .i64 (most : Int), .func (.func gf) ⟨fa⟩ ⟨fc⟩] T M (pL pb lv en op) [] (postP pb en op (fun l v M => RS M (r M) 8 l v) (someM en g most toks)) (panP pb en (someM en g most toks)) := by
  refine ct_run mx bod138 Tryz.func138 rfl (by rw [nt138]; exact Nat.le_of_ble_eq_true rfl) (dr := dr138) (by kernel_rfl) rs138 ?_
  intro hno _
  simp only [noneL_pL] at hno
  simp +contextual only [go_sem, Rcb, Rbk, sevalprocAttr]
  refine loop_rule (fun m e ds h => ds = [] ∧ e 0 = .pointer (some ⟨pb, 0, none⟩) ∧ e 1 = .int .i64 (most : Int) ∧ e 2 = .func (.func gf) ⟨fa⟩ ⟨fc⟩ ∧
    ∃ M' t' lv' acc, m + acc.length = most ∧ Ext M M' ∧ M' pb = none ∧ RS M' RTk 3 t' lv' ∧ someM en g most toks = (someM en g m t').bind (fun l t => .ok (acc ++ l) t) ∧
      ((acc = [] ∧ e 7 = .slice none 0 0 ∧ h = ⟨T, M', pL pb lv' en op, []⟩) ∨ ∃ ra rc xs, e 7 = .slice ra acc.length rc ∧ RL (r M') acc xs ∧ h = ⟨T, M', pL pb lv' en op, [(.slice ra acc.length rc, 87, 8, xs)]⟩))
    ⟨most, rfl, by simp only [go_sem, Rcb, Rbk, sevalprocAttr], by simp only [go_sem, Rcb, Rbk, sevalprocAttr], by simp only [go_sem, Rcb, Rbk, sevalprocAttr], M, toks, lv, [], by simp, Ext.rfl', hno, hl, by cases someM en g most toks <;> rfl, .inl ⟨rfl, by simp only [go_sem, Rcb, Rbk, sevalprocAttr], rfl⟩⟩ ?_
  rintro m e ds h ⟨rfl, e0, e1, e2, M1, t1, lv1, acc, hm, hM1, np, hl1, hres, hcase⟩
  have hg1 := hg.ext hM1
  cases m with
  | zero =>
    have hlen : (acc.length : Int) = (most : Int) := by omega
    have herr : someM en g most toks = .err 5 (atM en t1) := hres
    rcases hcase with ⟨rfl, e7, rfl⟩ | ⟨ra, rc, xs, e7, hxs, rfl⟩
    · have hlen : (0 : Int) = (most : Int) := by simpa using hlen
      simp +contextual only [go_sem, Rcb, Rbk, sevalprocAttr, e0, e1, e2, e7, hlen]
      refine at_p [] hl1 ?_
      simp +contextual only [go_sem, Rcb, Rbk, sevalprocAttr]
      exact fail_p [] ExtT.rfl' herr
    · simp +contextual only [go_sem, Rcb, Rbk, sevalprocAttr, e0, e1, e2, e7, hlen]
      refine at_p [] hl1 ?_
      simp +contextual only [go_sem, Rcb, Rbk, sevalprocAttr]
      exact fail_p [] ExtT.rfl' herr
  | succ m =>
    have hlen : ¬ (acc.length : Int) = (most : Int) := by omega
    simp only [someM, Rs.bind_assoc] at hres
    rcases hcase with ⟨rfl, e7, rfl⟩ | ⟨ra, rc, xs, e7, hxs, rfl⟩
    · have hlen : ¬ (0 : Int) = (most : Int) := by simpa using hlen
      simp +contextual only [go_sem, Rcb, Rbk, sevalprocAttr, e0, e1, e2, e7, hlen]
      refine part_b [] ExtT.rfl' hres hne (fun h => hgc M1 t1 lv1 T hg1 (hC _ _ hM1 hC0) hl1 h) ?_
      rintro v M2 a t2 lv2 hM2 hno2 hres hl2 hv
      obtain ⟨cs, hcs, hr⟩ := hE _ _ _ hv
      have hcl := hsz _ _ _ hr
      simp only [List.cons_append, List.nil_append, noneL, noneL_pL] at hno2
      have hcs2 := hcs
      simp only [Value.cells] at hcs2
      simp +contextual only [go_sem, Rcb, Rbk, sevalprocAttr, e0, e1, e2, e7, hcs, hcs2, hcl, hno2]
      intro b hb hapb
      refine app_nil row88 okt88 (.slice _ 1 _ _ _ Tryz.underlying88 (cells_own [] hb trivial (by rw [hcl])) (hone _ _ _ hr)) (by rw [hcl]; decide) ?_
      intro ra rm rc hrm
      have hrm1 : rm = 1 := by rw [hcl] at hrm; omega
      subst hrm1
      simp +contextual only [go_sem, Rcb, Rbk, sevalprocAttr, e0, e1, e2]
      refine is_c [(b, _)] sComma hl2 (fun hs lv3 hl3 => ?_) (fun hs lv3 hl3 => ?_)
      · rw [if_pos hs, Rs.bind_assoc] at hres
        simp +contextual only [go_sem, Rcb, Rbk, sevalprocAttr, e0, e1, e2]
        rw [Run_lp]
        refine Close_drop (Close_id ⟨m, by omega, rfl, ?_, ?_, ?_, M2, t2.tail, lv3, [a], by simp only [List.length_cons, List.length_nil] at hm ⊢; omega, hM1.trans hM2, hno2, hl3, hres, .inr ⟨ra, rc, cs, ?_, RL_one hr, rfl⟩⟩)
        all_goals simp only [e0, e1, e2, go_sem, Rcb, Rbk, sevalprocAttr]
      · rw [if_neg (by simp [hs])] at hres
        simp +contextual only [go_sem, Rcb, Rbk, sevalprocAttr, e0, e1, e2]
        refine Close_drop (Close_row fun M3 hM3 hno3 hsl => end_id ExtT.rfl' rfl rfl ?_)
        exact ⟨[a], t2, lv3, hres, rfl, RS_ext hM3 (fun _ _ h => h) hl3, rfl, ⟨by simp, cs, hsl, RL_one (hext _ _ _ _ hM3 hr)⟩⟩
    · simp +contextual only [go_sem, Rcb, Rbk, sevalprocAttr, e0, e1, e2, e7, hlen]
      refine part_b [] ExtT.rfl' hres hne (fun h => hgc M1 t1 lv1 T hg1 (hC _ _ hM1 hC0) hl1 h) ?_
      rintro v M2 a t2 lv2 hM2 hno2 hres hl2 hv
      obtain ⟨cs, hcs, hr⟩ := hE _ _ _ hv
      have hcl := hsz _ _ _ hr
      have hxl := RL_len (hsz M1) hxs
      have hxs2 : RL (r M2) acc xs := RL_mono (fun x cs h => hext _ _ _ _ hM2 h) hxs
      simp only [List.cons_append, List.nil_append, noneL, noneL_pL] at hno2
      have hcs2 := hcs
      simp only [Value.cells] at hcs2
      simp +contextual only [go_sem, Rcb, Rbk, sevalprocAttr, e0, e1, e2, e7, hcs, hcs2, hcl, hno2]
      intro b hb hapb
      refine app_row row88 okt88 (.slice _ 1 _ _ _ Tryz.underlying88 (cells_own [] hb trivial (by rw [hcl])) (hone _ _ _ hr)) (by rw [hcl, hxl]; omega) ?_
      intro ra' rm rc' hrm
      have hrm1 : rm = (acc ++ [a]).length := by
        rw [hcl, hxl] at hrm
        rw [List.length_append, List.length_cons, List.length_nil]
        omega
      subst hrm1
      have hacc := RL_append hxs2 (RL_one hr)
      simp +contextual only [go_sem, Rcb, Rbk, sevalprocAttr, e0, e1, e2]
      refine is_c [(b, _)] sComma hl2 (fun hs lv3 hl3 => ?_) (fun hs lv3 hl3 => ?_)
      · rw [if_pos hs, Rs.bind_assoc] at hres
        simp +contextual only [go_sem, Rcb, Rbk, sevalprocAttr, e0, e1, e2]
        rw [Run_lp]
        refine Close_drop (Close_id ⟨m, by omega, rfl, ?_, ?_, ?_, M2, t2.tail, lv3, acc ++ [a], by rw [List.length_append]; simp only [List.length_cons, List.length_nil]; omega, hM1.trans hM2, hno2, hl3, ?_, .inr ⟨ra', rc', xs ++ cs, ?_, hacc, rfl⟩⟩)
        · simp only [e0, e1, e2, go_sem, Rcb, Rbk, sevalprocAttr]
        · simp only [e0, e1, e2, go_sem, Rcb, Rbk, sevalprocAttr]
        · simp only [e0, e1, e2, go_sem, Rcb, Rbk, sevalprocAttr]
        · rw [hres]
          congr 1
          funext l t
          simp [Rs.bind]
        · simp only [updo_get, go_sem, Rcb, Rbk, sevalprocAttr]
      · rw [if_neg (by simp [hs])] at hres
        simp +contextual only [go_sem, Rcb, Rbk, sevalprocAttr, e0, e1, e2]
        refine Close_drop (Close_row fun M3 hM3 hno3 hsl => end_id ExtT.rfl' rfl rfl ?_)
        exact ⟨acc ++ [a], t2, lv3, hres, rfl, RS_ext hM3 (fun _ _ h => h) hl3, rfl, ⟨by rw [List.length_append]; simp only [List.length_cons, List.length_nil]; omega, xs ++ cs, hsl, RL_mono (fun x cs h => hext _ _ _ _ hM3 h) hacc⟩⟩
end Go.Proofs.YtoainkbcfnlkcaaGreatDoor

namespace Go.Proofs.YtoainkbcfnlkcaaGreatDoor
open Go Vc
set_option linter.unusedSimpArgs false
set_option linter.unusedVariables false
set_option maxRecDepth 10000

def valM (en : Int) (t : List Tk) : Rs V := (valueM en t).bind fun o t => match o with
  | some v => .ok v t
  | none => .err 2 (atM en t)
theorem intM_ne {en : Int} {t : List Tk} : intM en t ≠ .out := by
  unfold intM
  generalize (if seesM minus t = true then t.tail else t) = u
  cases u with
  | nil => simp [intT]
  | cons t r =>
    simp only [intT]
    split
    · split <;> simp
    · simp
theorem valueM_ne {en : Int} {t : List Tk} : valueM en t ≠ .out := by
  unfold valueM
  repeat' split
  all_goals first | simp | skip
  intro h
  cases hn : intM en t with
  | out => exact intM_ne hn
  | ok a r => rw [hn] at h; cases h
  | err e a => rw [hn] at h; cases h
theorem valM_ne {en : Int} {t : List Tk} : valM en t ≠ .out := by
  unfold valM
  cases hn : valueM en t with
  | out => exact (valueM_ne hn).elim
  | ok a r => simp only [Rs.bind]; split <;> simp
  | err e a => simp [Rs.bind]
def encVal (x : V) (v : Value) (_ : Mem) : Prop := v = .agg ⟨x.cs⟩
theorem ct_row1 {M : Mem} {pb bc : Nat} {toks : List Tk} {lv : Value} {en op : Int} (hc : M bc = some [.pointer (some ⟨pb, 0, none⟩)]) (hl : RS M RTk 3 toks lv) (T : Tm) :
    CtT Tryz.prog 106 [.pointer (some ⟨bc, 0, none⟩)] T M (pL pb lv en op) [] (postP pb en op encVal (valM en toks)) (panP pb en (valM en toks)) := by
  refine ct_run mx bod106 Tryz.func106 rfl (by rw [nt106]; exact Nat.le_of_ble_eq_true rfl) (dr := dr106) (by kernel_rfl) rs106 ?_
  intro hno _
  simp only [noneL_pL] at hno
  simp +contextual only [go_sem, Rcb, Rbk, sevalprocAttr, mcell_some hc]
  intro b2 T2 hb2 hap2 hT2 hTb2
  refine part_b [(b2, _)] hT2 rfl valM_ne (fun _ => ct_p_value hl T2) ?_
  rintro v M1 o t lv1 hM1 hno1 hres hl1 hv
  have hc1 := hM1 _ _ hc
  simp only [List.cons_append, List.nil_append, noneL, noneL_pL] at hno1
  cases o with
  | some x =>
    simp only [encV] at hv; subst hv
    simp +contextual only [go_sem, Rcb, Rbk, sevalprocAttr, hno1, hap2, V.cs]
    intro b3 T3 hb3 hap3 hT3 hTb3
    refine Close_drop (Close_drop (end_id (hT2.trans hT3) rfl rfl ?_))
    exact ⟨x, t, lv1, hres, rfl, hl1, rfl, rfl⟩
  | none =>
    simp only [encV] at hv; subst hv
    simp +contextual only [go_sem, Rcb, Rbk, sevalprocAttr, hno1, hap2, V.cs, mcell_some hc1]
    intro b3 T3 hb3 hap3 hT3 hTb3
    refine at_p [(b3, _), (b2, _)] hl1 ?_
    simp +contextual only [go_sem, Rcb, Rbk, sevalprocAttr]
    exact fail_p [(b3, _), (b2, _)] (hT2.trans hT3) hres
def rowM (en : Int) (t : List Tk) : Rs (List V) := (needM en [sOpen] t).bind fun _ t => (someM en (valM en) 8 t).bind fun l t => (needM en [sClose] t).bind fun _ t => .ok l t
theorem bind_ne {α β : Type} {g : Rs α} {f : α → List Tk → Rs β} (hg : g ≠ .out) (hf : ∀ a t, f a t ≠ .out) : g.bind f ≠ .out := by
  cases g with
  | out => exact (hg rfl).elim
  | ok a t => exact hf a t
  | err e a => simp [Rs.bind]
theorem someM_ne {α : Type} {en : Int} {g : List Tk → Rs α} (hg : ∀ t, g t ≠ .out) : ∀ {n t}, someM en g n t ≠ .out := by
  intro n
  induction n with
  | zero => intro t; simp [someM]
  | succ n ih =>
    intro t
    refine bind_ne (hg t) fun a t => ?_
    split
    · exact bind_ne ih fun _ _ => by simp
    · simp
theorem rowM_ne {en : Int} {t : List Tk} : rowM en t ≠ .out := bind_ne needM_ne fun _ _ => bind_ne (someM_ne fun _ => valM_ne) fun _ _ => bind_ne needM_ne fun _ _ => by simp
def encRow (l : List V) (v : Value) (M : Mem) : Prop := RS M RV 3 l v
theorem RV_len {v : V} {cs} (h : RV v cs) : cs.length = 3 := by unfold RV at h; subst h; rfl
theorem ct_row {M : Mem} {pb : Nat} {toks : List Tk} {lv : Value} {en op : Int} (hg : Glob M) (hl : RS M RTk 3 toks lv) (T : Tm) :
    CtT Tryz.prog 66 [.pointer (some ⟨pb, 0, none⟩)] T M (pL pb lv en op) [] (postP pb en op encRow (rowM en toks)) (panP pb en (rowM en toks)) := by
  refine ct_run mx bod66 Tryz.func66 rfl (by rw [nt66]; exact Nat.le_of_ble_eq_true rfl) (dr := dr66) (by kernel_rfl) rs66 ?_
  intro hno _
  simp only [noneL_pL] at hno
  simp +contextual only [go_sem, Rcb, Rbk, sevalprocAttr]
  intro b1 T1 hb1 hap1 hT1 hTb1 b5 hb5 hap5
  refine need_b [(b1, _)] hT1 rfl hl ?_
  intro M2 lv2 hM2 hno2 hres hl2
  simp only [List.cons_append, List.nil_append, noneL, noneL_pL] at hno2
  simp +contextual only [go_sem, Rcb, Rbk, sevalprocAttr, hno2, hap1]
  refine rCall_frz bod105 fun M3 hM3 hb3 hno3 => ?_
  have hl3 := RS_ext hM3 (fun _ _ h => h) hl2
  have hne := rowM_ne (en := en) (t := toks)
  refine part_b [] hT1 hres hne (fun h => ct_some_V (fa := []) (fc := [.pointer (some ⟨b1, 0, none⟩)]) (C := fun M => M b1 = some [.pointer (some ⟨pb, 0, none⟩)]) (r := fun _ => RV) 8
    (fun M t lv T _ hc hl _ => ct_row1 hc hl T) (fun x v M h => ⟨x.cs, by unfold encVal at h; subst h; rfl, rfl⟩) (fun _ _ _ h => RV_len h) (fun _ x _ h => by unfold RV at h; subst h; intro u hu; simp only [V.cs, List.mem_cons, List.not_mem_nil, or_false] at hu; rcases hu with rfl | rfl | rfl <;> rfl)
    (fun _ _ _ _ _ h => h) (fun M M' he h => he _ _ h) hb3 (by decide) ((hg.ext hM2).ext hM3) hl3 h T1) ?_
  rintro v M4 l t lv4 hM4 hno4 hres hl4 hv
  have hc4 := hM4 _ _ hb3
  simp only [List.cons_append, List.nil_append, noneL, noneL_pL] at hno4
  simp +contextual only [go_sem, Rcb, Rbk, sevalprocAttr, mcell_some hc4]
  intro b6 hb6 hap6
  refine need_b [] hT1 hres hl4 ?_
  intro M5 lv5 hM5 hno5 hres hl5
  simp +contextual only [go_sem, Rcb, Rbk, sevalprocAttr]
  refine end_id hT1 rfl rfl ?_
  exact ⟨l, _, lv5, hres, rfl, hl5, rfl, RS_ext hM5 (fun _ _ h => h) hv⟩
end Go.Proofs.YtoainkbcfnlkcaaGreatDoor

namespace Go.Proofs.YtoainkbcfnlkcaaGreatDoor
open Go Vc
set_option linter.unusedSimpArgs false
set_option linter.unusedVariables false
set_option maxRecDepth 10000

abbrev wSelect : Bs := [115, 101, 108, 101, 99, 116]
abbrev wDistinct : Bs := [100, 105, 115, 116, 105, 110, 99, 116]
abbrev wFrom : Bs := [102, 114, 111, 109]
abbrev wWhere : Bs := [119, 104, 101, 114, 101]
abbrev wGroup : Bs := [103, 114, 111, 117, 112]
abbrev wBy : Bs := [98, 121]
abbrev wHaving : Bs := [104, 97, 118, 105, 110, 103]
abbrev wOrder : Bs := [111, 114, 100, 101, 114]
abbrev wLimit : Bs := [108, 105, 109, 105, 116]
abbrev wCreate : Bs := [99, 114, 101, 97, 116, 101]
abbrev wView : Bs := [118, 105, 101, 119]
abbrev wTable : Bs := [116, 97, 98, 108, 101]
abbrev wInsert : Bs := [105, 110, 115, 101, 114, 116]
abbrev wInto : Bs := [105, 110, 116, 111]
abbrev wValues : Bs := [118, 97, 108, 117, 101, 115]
abbrev wDelete : Bs := [100, 101, 108, 101, 116, 101]
abbrev wShow : Bs := [115, 104, 111, 119]

def joinsM (en : Int) (ex : List Tk → Rs X) : Nat → List Tk → Rs (List So)
  | room, t => (joinM en t).bind fun k t => if 0 < k then (match room with
      | 0 => .err 5 (atM en t)
      | r + 1 => (sourceM en ex k t).bind fun s t => (joinsM en ex r t).bind fun l t => .ok (s :: l) t) else .ok [] t
def joinsB (en : Int) (ex : List Tk → Rs X) (room : Nat) (k : Int) (t : List Tk) : Rs (List So) := if 0 < k then (match room with
      | 0 => .err 5 (atM en t)
      | r + 1 => (sourceM en ex k t).bind fun s t => (joinsM en ex r t).bind fun l t => .ok (s :: l) t) else .ok [] t
theorem joinsM_eq (en : Int) (ex : List Tk → Rs X) (room : Nat) (t : List Tk) : joinsM en ex room t = (joinM en t).bind (joinsB en ex room) := by
  cases room <;> rfl
def tl (b : Bool) (t : List Tk) : List Tk := if b = true then t.tail else t
def optX (ex : List Tk → Rs X) (w : Bs) (t : List Tk) : Rs X := if seesM w t = true then ex t.tail else .ok zeroX t
def optG (en : Int) (ex : List Tk → Rs X) (t : List Tk) : Rs (List X) := if seesM wGroup t = true then (needM en [wBy] t.tail).bind fun _ t => someM en ex 8 t else .ok [] t
def selK4 (ex : List Tk → Rs X) (d s : Bool) (items : List It) (src : List So) (w : Bool) (wh : X) (group : List X) (t : List Tk) : Rs Se :=
  (optX ex wHaving t).bind fun hv t' => .ok ⟨d, s, items, src, w, seesM wHaving t, wh, hv, group⟩ t'
def selK3 (en : Int) (ex : List Tk → Rs X) (d s : Bool) (items : List It) (src : List So) (w : Bool) (wh : X) (t : List Tk) : Rs Se :=
  (optG en ex t).bind fun group t => selK4 ex d s items src w wh group t
def selK2 (en : Int) (ex : List Tk → Rs X) (d s : Bool) (items : List It) (src : List So) (t : List Tk) : Rs Se :=
  (optX ex wWhere t).bind fun wh t' => selK3 en ex d s items src (seesM wWhere t) wh t'
def selK1 (en : Int) (ex : List Tk → Rs X) (d s : Bool) (items : List It) (t : List Tk) : Rs Se :=
  (needM en [wFrom] t).bind fun _ t => (sourceM en ex 1 t).bind fun s0 t => (joinsM en ex 3 t).bind fun src t => selK2 en ex d s items (s0 :: src) t
def selM (en : Int) (ex : List Tk → Rs X) (t : List Tk) : Rs Se :=
  (needM en [wSelect] t).bind fun _ t0 =>
  (if seesM sStar (tl (seesM wDistinct t0) t0) = true then .ok [] (tl (seesM wDistinct t0) t0).tail else someM en (itemM en ex) 8 (tl (seesM wDistinct t0) t0)).bind fun items t =>
  selK1 en ex (seesM wDistinct t0) (seesM sStar (tl (seesM wDistinct t0) t0)) items t
def encSe (i : Se) (v : Value) (M : Mem) : Prop := ∃ cs, v = .agg ⟨cs⟩ ∧ RSe M i cs
theorem RIt_oneC {M : Mem} {x : It} {cs : List Value} (h : RIt M x cs) : ∀ u ∈ cs, u.oneCell' = true := by
  obtain ⟨c, hx, rfl⟩ := h
  intro u hu
  rcases List.mem_append.1 hu with hu | hu
  · exact RX_oneC hx u hu
  · simp only [List.mem_singleton] at hu; subst hu; rfl
theorem RSo_oneC {M : Mem} {x : So} {cs : List Value} (h : RSo M x cs) : ∀ u ∈ cs, u.oneCell' = true := by
  obtain ⟨c, hx, rfl⟩ := h
  intro u hu
  rcases List.mem_append.1 hu with hu | hu
  · simp only [List.mem_cons, List.not_mem_nil, or_false] at hu
    rcases hu with rfl | rfl | rfl <;> rfl
  · exact RX_oneC hx u hu
theorem RS_one {α : Type} {r : α → List Value → Prop} {sz : Nat} {M : Mem} {l : List α} {v : Value} (h : RS M r sz l v) : v.oneCell' = true ∧ v.cells.toList = [v] := by
  obtain ⟨_, _, h2, _⟩ := h
  rcases h2 with ⟨_, _, rfl, _⟩ | ⟨b, o, n, c, rfl, _⟩ <;> exact ⟨rfl, rfl⟩
theorem RS_nil {α : Type} {r : α → List Value → Prop} {sz : Nat} {M : Mem} : RS M r sz [] (.slice none 0 0) := ⟨Nat.zero_le _, [], .inl ⟨_, _, rfl, rfl, fun _ => rfl⟩, rfl⟩
theorem RSo_form {M : Mem} {x : So} {cs : List Value} (h : RSo M x cs) : ∃ a1 a2 a3 a4 a5 a6 a7, cs = [.int .i64 x.k, st x.name, st x.as, a1, a2, a3, a4, a5, a6, a7] := by
  obtain ⟨c, hx, rfl⟩ := h
  obtain ⟨a1, a2, a3, a4, a5, a6, a7, rfl⟩ := cells7 (RX_len hx)
  exact ⟨a1, a2, a3, a4, a5, a6, a7, rfl⟩
/-- the sources that are had -/
def FromOk (M : Mem) (R : RR) (fv : Value) (acc : List So) : Prop :=
  (∃ bF xs, R = [] ∧ fv = .slice (some ⟨bF, 0, none⟩) 1 1 ∧ acc.length = 1 ∧ M bF = some xs ∧ RL (RSo M) acc xs) ∨
  (∃ ra rc xs, R = [(.slice ra acc.length rc, 129, 10, xs)] ∧ fv = .slice ra acc.length rc ∧ RL (RSo M) acc xs)
theorem FromOk_form {M : Mem} {R : RR} {fv : Value} {acc : List So} (h : FromOk M R fv acc) : ∃ a c, fv = .slice a acc.length c := by
  rcases h with ⟨bF, xs, _, rfl, h, _⟩ | ⟨ra, rc, xs, _, rfl, _⟩
  · exact ⟨_, _, by rw [h]⟩
  · exact ⟨_, _, rfl⟩
theorem FromOk_ext {M M' : Mem} {R : RR} {fv : Value} {acc : List So} (hM : Ext M M') (h : FromOk M R fv acc) : FromOk M' R fv acc := by
  rcases h with ⟨bF, xs, h1, h2, h3, h4, h5⟩ | ⟨ra, rc, xs, h1, h2, h3⟩
  · exact .inl ⟨bF, xs, h1, h2, h3, hM _ _ h4, RL_mono (fun x cs h => RSo_ext hM _ _ h) h5⟩
  · exact .inr ⟨ra, rc, xs, h1, h2, RL_mono (fun x cs h => RSo_ext hM _ _ h) h3⟩
theorem Close_from {N M L R fv acc} {k : Sh → Prop} (h : FromOk M R fv acc) (hb : acc.length ≤ 400) (hk : ∀ M', Ext M M' → noneL M' L → RS M' (RSo M') 10 acc fv → Close ⟨N, M', L, []⟩ k) (hno : noneL M L) : Close ⟨N, M, L, R⟩ k := by
  rcases h with ⟨bF, xs, rfl, rfl, h3, h4, h5⟩ | ⟨ra, rc, xs, rfl, rfl, h3⟩
  · exact hk M Ext.rfl' hno (RS_lit (fun _ _ => RSo_len) h4 h5 h3 (by decide))
  · exact Close_row fun M' hM hno' hsl => hk M' hM hno' ⟨by omega, xs, hsl, RL_mono (fun x cs h => RSo_ext hM _ _ h) h3⟩
theorem app_from {F : Fi} {s : List Vc.Item} {e : Env} {ds : List Deferred} {dd : Option Nat} {T : Tm} {M : Mem} {L : LL} {R : RR} {b a n c} {acc : List So} {x : So} {cs : List Value} (hf : FromOk M R (.slice a n c) acc) (hx : RSo M x cs) (hb : M b = none) (hlen : acc.length ≤ 400)
    (k : ∀ a' c' R', FromOk M R' (.slice a' (acc.length + 1) c') (acc ++ [x]) → Run Tryz.prog F s (updo e dd (.slice a' (acc.length + 1) c')) ds ⟨T, M, (b, cs) :: L, R'⟩ ⟨⟩) :
    rApp Tryz.prog F 89 89 (.slice a n c) (.slice (some ⟨b, 0, none⟩) 1 1) dd s e ds ⟨T, M, (b, cs) :: L, R⟩ ⟨⟩ := by
  have hcl := RSo_len hx
  rcases hf with ⟨bF, xs, rfl, h2, h3, h4, h5⟩ | ⟨ra, rc, xs, rfl, h2, h3⟩
  · injection h2 with h2 h2' h2''; subst h2 h2' h2''
    have hxl := RL_len (fun _ _ => RSo_len) h5
    rw [h3] at hxl
    refine app_read row89 okt89 (.slice _ 1 _ _ _ Tryz.underlying89 (cells_own [] hb trivial (by rw [hcl])) (RSo_oneC hx)) (xs := xs) ?_ (by rw [hcl]; decide) (by rw [hcl, hxl]; decide) ?_
    · have := cells_of (h := ⟨T, M, (b, cs) :: L, []⟩) (b := bF) (cs := xs) (fun o v hv => by
        have : mcell M ⟨bF, o, none⟩ = some v := by rw [mcell_some h4]; exact hv
        simp only [Sh.cell, this]) 10 0 (by omega)
      simpa using this
    · intro ra rm rc hrm
      have : rm = acc.length + 1 := by rw [hcl, hxl] at hrm; omega
      subst this
      exact k _ _ _ (.inr ⟨_, _, _, by rw [List.length_append]; rfl, by rw [List.length_append]; rfl, RL_append h5 (RL_one hx)⟩)
  · injection h2 with h2 h2' h2''; subst h2 h2' h2''
    have hxl := RL_len (fun _ _ => RSo_len) h3
    refine app_row row89 okt89 (.slice _ 1 _ _ _ Tryz.underlying89 (cells_own [] hb trivial (by rw [hcl])) (RSo_oneC hx)) (by rw [hcl, hxl]; omega) ?_
    intro ra rm rc hrm
    have : rm = acc.length + 1 := by rw [hcl, hxl] at hrm; omega
    subst this
    exact k _ _ _ (.inr ⟨_, _, _, by rw [List.length_append]; rfl, by rw [List.length_append]; rfl, RL_append h3 (RL_one hx)⟩)
theorem ct_sel {M : Mem} {pb : Nat} {toks : List Tk} {lv : Value} {en op : Int} {ex : List Tk → Rs X} (hg : Glob M) (hl : RS M RTk 3 toks lv) (hex : ExC en pb ex op) (hne : selM en ex toks ≠ .out) (T : Tm) :
    CtT Tryz.prog 101 [.pointer (some ⟨pb, 0, none⟩)] T M (pL pb lv en op) [] (postP pb en op encSe (selM en ex toks)) (panP pb en (selM en ex toks)) := by
  refine ct_run mx bod101 Tryz.func101 rfl (by rw [nt101]; exact Nat.le_of_ble_eq_true rfl) (dr := dr101) (by kernel_rfl) rs101 ?_
  intro hno _
  simp only [noneL_pL] at hno
  simp +contextual only [go_sem, Rcb, Rbk, sevalprocAttr]
  intro b2 T2 hb2 hap2 hT2 hTb2 b5 hb5 hap5
  refine need_b [(b2, _)] hT2 rfl hl ?_
  intro M1 lv1 hM1 hno1 hres hl1
  simp only [List.cons_append, List.nil_append, noneL, noneL_pL] at hno1
  simp +contextual only [go_sem, Rcb, Rbk, sevalprocAttr, hno1, hap2]
  refine is_p [(b2, _)] wDistinct hl1 ?_
  intro lv2 hl2
  change RS M1 RTk 3 (tl (seesM wDistinct toks.tail) toks.tail) lv2 at hl2
  simp +contextual only [go_sem, Rcb, Rbk, sevalprocAttr, hno1, hap2]
  intro b3 T3 hb3 hap3 hT3 hTb3
  have hT := hT2.trans hT3
  generalize seesM wDistinct toks.tail = d at hres hl2 ⊢
  generalize tl d toks.tail = t0 at hres hl2 ⊢
  refine is_p [(b3, _), (b2, _)] sStar hl2 ?_
  intro lv3 hl3
  generalize seesM sStar t0 = sb at hres hl3 ⊢
  simp +contextual only [go_sem, sevalprocAttr, hno1, hap2, hap3, hb3]
  refine cond_cut (fun e ds h => ds = [] ∧ e 0 = .pointer (some ⟨pb, 0, none⟩) ∧ e 2 = .pointer (some ⟨b2, 0, none⟩) ∧ e 3 = .pointer (some ⟨b3, 0, none⟩) ∧
    ∃ M' t lv' items iv, Ext M1 M' ∧ M' b3 = none ∧ M' b2 = none ∧ M' pb = none ∧ RS M' RTk 3 t lv' ∧ RS M' (RIt M') 8 items iv ∧ selM en ex toks = selK1 en ex d sb items t ∧
      h = ⟨T3, M', (b3, [.bool d, .bool sb, iv, .slice none 0 0, .bool false, .bool false, .int .i64 0, .int .i64 0, .int .i64 0, st [], st [], st [], .slice none 0 0, .int .i64 0, .int .i64 0, .int .i64 0, st [], st [], st [], .slice none 0 0, .slice none 0 0]) :: (b2, [.bool false, .bool false, .slice none 0 0, .slice none 0 0, .bool false, .bool false, .int .i64 0, .int .i64 0, .int .i64 0, st [], st [], st [], .slice none 0 0, .int .i64 0, .int .i64 0, .int .i64 0, st [], st [], st [], .slice none 0 0, .slice none 0 0]) :: pL pb lv' en op, []⟩) (fun S' hS' => ?_) ?_
  · cases sb with
    | true =>
      simp only [if_true] at hres hl3
      simp +contextual only [go_sem, Rcb, Rbk, sevalprocAttr]
      refine hS' _ _ _ ⟨rfl, ?_, ?_, ?_, M1, _, lv3, [], _, Ext.rfl', hb3, hno1.1, hno1.2, hl3, RS_nil, hres, rfl⟩
      all_goals simp only [go_sem, Rcb, Rbk, sevalprocAttr]
    | false =>
      simp only [if_false, Bool.false_eq_true] at hres hl3
      simp +contextual only [go_sem, Rcb, Rbk, sevalprocAttr]
      refine part_b [(b3, _), (b2, _)] hT hres hne (fun h => ct_some_It (fa := [.pointer (some ⟨pb, 0, none⟩)]) (fc := []) (C := fun _ => True) (r := RIt) (enc := encIt) (g := itemM en ex) 8
        (fun M t lv T hg _ hl hne => ct_item hg hl hex hne T) (fun x v M h => by obtain ⟨cs, rfl, h⟩ := h; exact ⟨cs, rfl, h⟩) (fun _ _ _ h => RIt_len h) (fun _ _ _ h => RIt_oneC h) (fun _ _ _ _ he h => RIt_ext he _ _ h)
        (fun _ _ _ h => h) trivial (by decide) (hg.ext hM1) hl3 h T3) ?_
      rintro v M2 items t lv4 hM2 hno2 hres hl4 hv
      obtain ⟨hv1, hv2⟩ := RS_one hv
      have hv3 := hv2
      simp only [Value.cells] at hv3
      simp only [List.cons_append, List.nil_append, noneL, noneL_pL] at hno2
      simp +contextual only [go_sem, Rcb, Rbk, sevalprocAttr, hno2, hap2, hap3, hv1, hv2, hv3]
      refine hS' _ _ _ ⟨rfl, ?_, ?_, ?_, M2, _, lv4, items, _, hM2, hno2.1, hno2.2.1, hno2.2.2, hl4, hv, hres, rfl⟩
      all_goals simp only [go_sem, Rcb, Rbk, sevalprocAttr]
  clear hres hl1 hl2 hl3
  rintro e ds h ⟨rfl, e0, e2, e3, M2, t, lv4, items, iv, hM2, n3, n2, np, hl4, hiv, hres, rfl⟩
  simp +contextual only [go_sem, Rcb, Rbk, sevalprocAttr, e0, e2, e3]
  intro b4 hb4 hap4
  refine need_b [(b3, _), (b2, _)] hT hres hl4 ?_
  intro M3 lv5 hM3 hno3 hres hl5
  simp +contextual only [go_sem, Rcb, Rbk, sevalprocAttr, e0, e2, e3]
  have hg3 := (hg.ext hM1).ext (hM2.trans hM3)
  refine part_b [(b3, _), (b2, _)] hT hres hne (fun h => ct_psource hg3 hl5 hex h T3) ?_
  rintro v M4 s0 t4 lv6 hM4 hno4 hres hl6 ⟨cs, rfl, hso⟩
  obtain ⟨a1, a2, a3, a4, a5, a6, a7, rfl⟩ := RSo_form hso
  simp only [List.cons_append, List.nil_append, noneL, noneL_pL] at hno4
  simp +contextual only [go_sem, Rcb, Rbk, sevalprocAttr, hno4, hap2, hap3, e0, e2, e3]
  intro bF hbF hapF
  refine rCall_frz bod141 fun M5 hM5 hbF' hno5 => ?_
  simp only [List.cons_append, List.nil_append, noneL, noneL_pL] at hno5
  rw [joinsM_eq, Rs.bind_assoc] at hres
  refine part_b [(b3, _), (b2, _)] hT hres hne (fun _ => ct_join (RS_ext hM5 (fun _ _ h => h) hl6) T3) ?_
  rintro v M6 k t5 lv7 hM6 hno6 hres hl7 rfl
  simp only [List.cons_append, List.nil_append, noneL, noneL_pL] at hno6
  have hfrom : FromOk M6 [] (.slice (some ⟨bF, 0, none⟩) 1 1) [s0] := .inl ⟨bF, _, rfl, rfl, rfl, hM6 _ _ hbF', RL_one (RSo_ext (hM5.trans hM6) _ _ hso)⟩
  simp +contextual only [go_sem, sevalprocAttr, e0, e2, e3]
  refine run_cut (fun e ds h => ds = [] ∧ e 0 = .pointer (some ⟨pb, 0, none⟩) ∧ e 2 = .pointer (some ⟨b2, 0, none⟩) ∧ e 3 = .pointer (some ⟨b3, 0, none⟩) ∧
    ∃ M' t lv' src fv R, Ext M2 M' ∧ M' b3 = none ∧ M' b2 = none ∧ M' pb = none ∧ RS M' RTk 3 t lv' ∧ src.length ≤ 4 ∧ FromOk M' R fv src ∧ selM en ex toks = selK2 en ex d sb items src t ∧
      h = ⟨T3, M', (b3, [.bool d, .bool sb, iv, fv, .bool false, .bool false, .int .i64 0, .int .i64 0, .int .i64 0, st [], st [], st [], .slice none 0 0, .int .i64 0, .int .i64 0, .int .i64 0, st [], st [], st [], .slice none 0 0, .slice none 0 0]) :: (b2, [.bool false, .bool false, .slice none 0 0, .slice none 0 0, .bool false, .bool false, .int .i64 0, .int .i64 0, .int .i64 0, st [], st [], st [], .slice none 0 0, .int .i64 0, .int .i64 0, .int .i64 0, st [], st [], st [], .slice none 0 0, .slice none 0 0]) :: pL pb lv' en op, R⟩) (fun S' hS' => ?_) ?_
  · clear hl5 hl6 hl4
    simp +contextual only [go_sem, Rcb, Rbk, sevalprocAttr, e0, e2, e3]
    refine loop_rule (fun m e ds h => ds = [] ∧ e 0 = .pointer (some ⟨pb, 0, none⟩) ∧ e 2 = .pointer (some ⟨b2, 0, none⟩) ∧ e 3 = .pointer (some ⟨b3, 0, none⟩) ∧
      ∃ M' t lv' k src fv R, e 4 = .int .i64 k ∧ m + src.length = 4 ∧ Ext M6 M' ∧ M' b3 = none ∧ M' b2 = none ∧ M' pb = none ∧ RS M' RTk 3 t lv' ∧ FromOk M' R fv src ∧
        selM en ex toks = (joinsB en ex m k t).bind (fun l t => selK2 en ex d sb items (src ++ l) t) ∧
        h = ⟨T3, M', (b3, [.bool d, .bool sb, iv, fv, .bool false, .bool false, .int .i64 0, .int .i64 0, .int .i64 0, st [], st [], st [], .slice none 0 0, .int .i64 0, .int .i64 0, .int .i64 0, st [], st [], st [], .slice none 0 0, .slice none 0 0]) :: (b2, [.bool false, .bool false, .slice none 0 0, .slice none 0 0, .bool false, .bool false, .int .i64 0, .int .i64 0, .int .i64 0, st [], st [], st [], .slice none 0 0, .int .i64 0, .int .i64 0, .int .i64 0, st [], st [], st [], .slice none 0 0, .slice none 0 0]) :: pL pb lv' en op, R⟩)
      ⟨3, rfl, ?_, ?_, ?_, M6, t5, lv7, k, [s0], _, [], ?_, rfl, Ext.rfl', hno6.1, hno6.2.1, hno6.2.2, hl7, hfrom, hres, rfl⟩ ?_
    all_goals first | (simp only [e0, e2, e3, go_sem, Rcb, Rbk, sevalprocAttr]; done) | skip
    clear hres e0 e2 e3 hl7 hfrom
    rintro m e ds h ⟨rfl, e0, e2, e3, M7, t7, lv8, k, src, fv, R, e4, hm, hM7, n3, n2, np, hl8, hfrom, hres, rfl⟩
    by_cases hk : 0 < k
    · obtain ⟨fa, fc, rfl⟩ := FromOk_form hfrom
      unfold joinsB at hres
      rw [if_pos hk] at hres
      cases m with
      | zero =>
        have hlen : (src.length : Int) = 4 := by omega
        simp +contextual only [go_sem, Rcb, Rbk, sevalprocAttr, e0, e2, e3, e4, hk, n3, n2, np, hap2, hap3, hlen]
        refine at_p [(b3, _), (b2, _)] hl8 ?_
        simp +contextual only [go_sem, Rcb, Rbk, sevalprocAttr]
        exact fail_p [(b3, _), (b2, _)] hT hres
      | succ m =>
        have hlen : ¬ (src.length : Int) = 4 := by omega
        simp only [Rs.bind_assoc] at hres
        simp +contextual only [go_sem, Rcb, Rbk, sevalprocAttr, e0, e2, e3, e4, hk, n3, n2, np, hap2, hap3, hlen]
        refine draw_at ⟨T, fun _ => none, [(b3, _)], []⟩ (Sub_hd n3) ?_
        simp +contextual only [go_sem, Rcb, Rbk, sevalprocAttr, e0, e2, e3, e4, hk, n3, n2, np, hap2, hap3, hlen]
        have hg7 := (hg.ext hM1).ext ((((hM2.trans hM3).trans hM4).trans hM5).trans (hM6.trans hM7))
        refine part_b [(b3, _), (b2, _)] hT hres hne (fun h => ct_psource hg7 hl8 hex h T3) ?_
        rintro v M8 so t8 lv9 hM8 hno8 hres hl9 ⟨cs, rfl, hso⟩
        obtain ⟨a1, a2, a3, a4, a5, a6, a7, rfl⟩ := RSo_form hso
        simp only [List.cons_append, List.nil_append, noneL, noneL_pL] at hno8
        simp +contextual only [go_sem, Rcb, Rbk, sevalprocAttr, hno8, hap2, hap3, e0, e2, e3]
        refine ⟨Sub_hd hno8.1, ?_⟩
        intro b8 hb8 hap8
        refine ⟨Sub_hd2 hno8.1 (fun h => hap8.1.2 h), ?_⟩
        refine app_from (FromOk_ext hM8 hfrom) hso hb8 (by omega) ?_
        intro fa' fc' R' hfrom'
        simp +contextual only [go_sem, Rcb, Rbk, sevalprocAttr, hno8, hap2, hap3, hap8, hb8, e0, e2, e3]
        rw [joinsM_eq, Rs.bind_assoc] at hres
        refine part_b [(b8, _), (b3, _), (b2, _)] hT hres hne (fun _ => ct_join hl9 T3) ?_
        rintro v M9 k' t9 lva hM9 hno9 hres hla rfl
        simp only [List.cons_append, List.nil_append, noneL, noneL_pL] at hno9
        simp +contextual only [go_sem, Rcb, Rbk, sevalprocAttr, e0, e2, e3]
        rw [Run_lp]
        refine Close_drop (Close_id ⟨m, by omega, rfl, ?_, ?_, ?_, M9, t9, lva, k', src ++ [so], _, R', ?_, ?_, (hM7.trans hM8).trans hM9, hno9.2.1, hno9.2.2.1, hno9.2.2.2, hla, FromOk_ext hM9 hfrom', ?_, rfl⟩)
        · simp only [e0, go_sem, Rcb, Rbk, sevalprocAttr]
        · simp only [e2, go_sem, Rcb, Rbk, sevalprocAttr]
        · simp only [e3, go_sem, Rcb, Rbk, sevalprocAttr]
        · simp only [go_sem, Rcb, Rbk, sevalprocAttr]
        · rw [List.length_append]; simp only [List.length_cons, List.length_nil]; omega
        · rw [hres]; congr 1; funext l t; simp [Rs.bind]
    · unfold joinsB at hres
      rw [if_neg hk] at hres
      simp +contextual only [go_sem, Rcb, Rbk, sevalprocAttr, e0, e2, e3, e4, hk]
      refine hS' _ _ _ ⟨rfl, ?_, ?_, ?_, M7, _, lv8, src, fv, R, ?_, n3, n2, np, hl8, by omega, hfrom, ?_, rfl⟩
      · simp only [e0, go_sem, Rcb, Rbk, sevalprocAttr]
      · simp only [e2, go_sem, Rcb, Rbk, sevalprocAttr]
      · simp only [e3, go_sem, Rcb, Rbk, sevalprocAttr]
      · exact ((hM3.trans hM4).trans hM5).trans (hM6.trans hM7)
      · rw [hres]; simp [Rs.bind]
  clear hres hno6 hl7 hfrom e0 e2 e3 hl4 hl5 hl6 hso hno4 hno3
  rintro e ds h ⟨rfl, e0, e2, e3, M3, t, lv4, src, fv, R, hM3, n3, n2, np, hl4, hsl, hfrom, hres, rfl⟩
  simp +contextual only [go_sem, Rcb, Rbk, sevalprocAttr, e0, e2, e3]
  refine is_p [(b3, _), (b2, _)] wWhere hl4 ?_
  intro lv5 hl5
  unfold selK2 optX at hres
  generalize seesM wWhere t = hw at hres hl5 ⊢
  simp +contextual only [go_sem, sevalprocAttr, n3, n2, np, hap2, hap3, e0, e2, e3]
  have hg3 := (hg.ext hM1).ext (hM2.trans hM3)
  refine cond_cut (fun e ds h => ds = [] ∧ e 0 = .pointer (some ⟨pb, 0, none⟩) ∧ e 2 = .pointer (some ⟨b2, 0, none⟩) ∧ e 3 = .pointer (some ⟨b3, 0, none⟩) ∧
    ∃ M' t lv' hw wh w1 w2 w3 w4 w5 w6 w7, Ext M3 M' ∧ M' b3 = none ∧ M' b2 = none ∧ M' pb = none ∧ RS M' RTk 3 t lv' ∧ RX M' wh [w1, w2, w3, w4, w5, w6, w7] ∧ selM en ex toks = selK3 en ex d sb items src hw wh t ∧
      h = ⟨T3, M', (b3, [.bool d, .bool sb, iv, fv, .bool hw, .bool false, w1, w2, w3, w4, w5, w6, w7, .int .i64 0, .int .i64 0, .int .i64 0, st [], st [], st [], .slice none 0 0, .slice none 0 0]) :: (b2, [.bool false, .bool false, .slice none 0 0, .slice none 0 0, .bool false, .bool false, .int .i64 0, .int .i64 0, .int .i64 0, st [], st [], st [], .slice none 0 0, .int .i64 0, .int .i64 0, .int .i64 0, st [], st [], st [], .slice none 0 0, .slice none 0 0]) :: pL pb lv' en op, R⟩) (fun S' hS' => ?_) ?_
  · cases hw with
    | false =>
      simp only [if_false, Bool.false_eq_true] at hres hl5
      simp +contextual only [go_sem, Rcb, Rbk, sevalprocAttr]
      refine hS' _ _ _ ⟨rfl, ?_, ?_, ?_, M3, _, lv5, _, _, _, _, _, _, _, _, _, Ext.rfl', n3, n2, np, hl5, RX_zero, hres, rfl⟩
      all_goals simp only [e0, e2, e3, go_sem, Rcb, Rbk, sevalprocAttr]
    | true =>
      simp only [if_true] at hres hl5
      simp +contextual only [go_sem, Rcb, Rbk, sevalprocAttr, e0, e2, e3]
      refine part_b [(b3, _), (b2, _)] hT hres hne (fun h => hex M3 _ lv5 T3 hg3 hl5 h) ?_
      rintro v M4 x t2 lv6 hM4 hno4 hres hl6 ⟨cs, rfl, hx⟩
      obtain ⟨s, rfl, h1, _⟩ := RX_form hx
      simp only [List.cons_append, List.nil_append, noneL, noneL_pL] at hno4
      simp +contextual only [go_sem, Rcb, Rbk, sevalprocAttr, hno4, hap2, hap3, h1, e0, e2, e3]
      refine hS' _ _ _ ⟨rfl, ?_, ?_, ?_, M4, _, lv6, _, _, _, _, _, _, _, _, _, hM4, hno4.1, hno4.2.1, hno4.2.2, hl6, hx, hres, rfl⟩
      all_goals simp only [e0, e2, e3, go_sem, Rcb, Rbk, sevalprocAttr]
  clear hres n3 n2 np hl4 hl5 e0 e2 e3
  rintro e ds h ⟨rfl, e0, e2, e3, M4, t, lv4, hw, wh, w1, w2, w3, w4, w5, w6, w7, hM4, n3, n2, np, hl4, hwh, hres, rfl⟩
  simp +contextual only [go_sem, Rcb, Rbk, sevalprocAttr, e0, e2, e3]
  refine is_p [(b3, _), (b2, _)] wGroup hl4 ?_
  intro lv5 hl5
  unfold selK3 optG at hres
  generalize seesM wGroup t = gw at hres hl5 ⊢
  simp +contextual only [go_sem, sevalprocAttr, n3, n2, np, hap2, hap3, e0, e2, e3]
  refine cond_cut (fun e ds h => ds = [] ∧ e 0 = .pointer (some ⟨pb, 0, none⟩) ∧ e 2 = .pointer (some ⟨b2, 0, none⟩) ∧ e 3 = .pointer (some ⟨b3, 0, none⟩) ∧
    ∃ M' t lv' group gv, Ext M4 M' ∧ M' b3 = none ∧ M' b2 = none ∧ M' pb = none ∧ RS M' RTk 3 t lv' ∧ RS M' (RX M') 7 group gv ∧ selM en ex toks = selK4 ex d sb items src hw wh group t ∧
      h = ⟨T3, M', (b3, [.bool d, .bool sb, iv, fv, .bool hw, .bool false, w1, w2, w3, w4, w5, w6, w7, .int .i64 0, .int .i64 0, .int .i64 0, st [], st [], st [], .slice none 0 0, gv]) :: (b2, [.bool false, .bool false, .slice none 0 0, .slice none 0 0, .bool false, .bool false, .int .i64 0, .int .i64 0, .int .i64 0, st [], st [], st [], .slice none 0 0, .int .i64 0, .int .i64 0, .int .i64 0, st [], st [], st [], .slice none 0 0, .slice none 0 0]) :: pL pb lv' en op, R⟩) (fun S' hS' => ?_) ?_
  · cases gw with
    | false =>
      simp only [if_false, Bool.false_eq_true] at hres hl5
      simp +contextual only [go_sem, Rcb, Rbk, sevalprocAttr]
      refine hS' _ _ _ ⟨rfl, ?_, ?_, ?_, M4, _, lv5, [], _, Ext.rfl', n3, n2, np, hl5, RS_nil, hres, rfl⟩
      all_goals simp only [e0, e2, e3, go_sem, Rcb, Rbk, sevalprocAttr]
    | true =>
      simp only [if_true, Rs.bind_assoc] at hres hl5
      simp +contextual only [go_sem, Rcb, Rbk, sevalprocAttr, e0, e2, e3]
      intro b5 hb5 hap5
      refine need_b [(b3, _), (b2, _)] hT hres hl5 ?_
      intro M5 lv6 hM5 hno5 hres hl6
      simp +contextual only [go_sem, Rcb, Rbk, sevalprocAttr, e0, e2, e3]
      refine part_b [(b3, _), (b2, _)] hT hres hne (fun h => ct_some_X (fa := [.pointer (some ⟨pb, 0, none⟩)]) (fc := []) (C := fun _ => True) (r := RX) (enc := encX) (g := ex) 8
        (fun M t lv T hg _ hl hne => hex M t lv T hg hl hne) (fun x v M h => by obtain ⟨cs, rfl, h⟩ := h; exact ⟨cs, rfl, h⟩) (fun _ _ _ h => RX_len h) (fun _ _ _ h => RX_oneC h) (fun _ _ _ _ he h => RX_ext he _ _ h)
        (fun _ _ _ h => h) trivial (by decide) (hg3.ext (hM4.trans hM5)) hl6 h T3) ?_
      rintro v M6 group t2 lv7 hM6 hno6 hres hl7 hv
      obtain ⟨hv1, hv2⟩ := RS_one hv
      have hv3 := hv2
      simp only [Value.cells] at hv3
      simp only [List.cons_append, List.nil_append, noneL, noneL_pL] at hno6
      simp +contextual only [go_sem, Rcb, Rbk, sevalprocAttr, hno6, hap2, hap3, hv1, hv2, hv3, e0, e2, e3]
      refine hS' _ _ _ ⟨rfl, ?_, ?_, ?_, M6, _, lv7, group, _, hM5.trans hM6, hno6.1, hno6.2.1, hno6.2.2, hl7, hv, hres, rfl⟩
      all_goals simp only [e0, e2, e3, go_sem, Rcb, Rbk, sevalprocAttr]
  clear hres n3 n2 np hl4 hl5 e0 e2 e3
  rintro e ds h ⟨rfl, e0, e2, e3, M5, t, lv4, group, gv, hM5, n3, n2, np, hl4, hgv, hres, rfl⟩
  simp +contextual only [go_sem, Rcb, Rbk, sevalprocAttr, e0, e2, e3]
  refine is_p [(b3, _), (b2, _)] wHaving hl4 ?_
  intro lv5 hl5
  unfold selK4 optX at hres
  generalize seesM wHaving t = hh at hres hl5 ⊢
  simp +contextual only [go_sem, sevalprocAttr, n3, n2, np, hap2, hap3, e0, e2, e3]
  refine cond_cut (fun e ds h => ds = [] ∧ e 0 = .pointer (some ⟨pb, 0, none⟩) ∧ e 2 = .pointer (some ⟨b2, 0, none⟩) ∧ e 3 = .pointer (some ⟨b3, 0, none⟩) ∧
    ∃ M' t lv' hh hv v1 v2 v3 v4 v5 v6 v7, Ext M5 M' ∧ M' b3 = none ∧ M' b2 = none ∧ M' pb = none ∧ RS M' RTk 3 t lv' ∧ RX M' hv [v1, v2, v3, v4, v5, v6, v7] ∧ selM en ex toks = .ok ⟨d, sb, items, src, hw, hh, wh, hv, group⟩ t ∧
      h = ⟨T3, M', (b3, [.bool d, .bool sb, iv, fv, .bool hw, .bool hh, w1, w2, w3, w4, w5, w6, w7, v1, v2, v3, v4, v5, v6, v7, gv]) :: (b2, [.bool false, .bool false, .slice none 0 0, .slice none 0 0, .bool false, .bool false, .int .i64 0, .int .i64 0, .int .i64 0, st [], st [], st [], .slice none 0 0, .int .i64 0, .int .i64 0, .int .i64 0, st [], st [], st [], .slice none 0 0, .slice none 0 0]) :: pL pb lv' en op, R⟩) (fun S' hS' => ?_) ?_
  · cases hh with
    | false =>
      simp only [if_false, Bool.false_eq_true] at hres hl5
      simp +contextual only [go_sem, Rcb, Rbk, sevalprocAttr]
      refine hS' _ _ _ ⟨rfl, ?_, ?_, ?_, M5, _, lv5, _, _, _, _, _, _, _, _, _, Ext.rfl', n3, n2, np, hl5, RX_zero, hres, rfl⟩
      all_goals simp only [e0, e2, e3, go_sem, Rcb, Rbk, sevalprocAttr]
    | true =>
      simp only [if_true] at hres hl5
      simp +contextual only [go_sem, Rcb, Rbk, sevalprocAttr, e0, e2, e3]
      refine part_b [(b3, _), (b2, _)] hT hres hne (fun h => hex M5 _ lv5 T3 (hg3.ext (hM4.trans hM5)) hl5 h) ?_
      rintro v M6 x t2 lv6 hM6 hno6 hres hl6 ⟨cs, rfl, hx⟩
      obtain ⟨s, rfl, h1, _⟩ := RX_form hx
      simp only [List.cons_append, List.nil_append, noneL, noneL_pL] at hno6
      simp +contextual only [go_sem, Rcb, Rbk, sevalprocAttr, hno6, hap2, hap3, h1, e0, e2, e3]
      refine hS' _ _ _ ⟨rfl, ?_, ?_, ?_, M6, _, lv6, _, _, _, _, _, _, _, _, _, hM6, hno6.1, hno6.2.1, hno6.2.2, hl6, hx, hres, rfl⟩
      all_goals simp only [e0, e2, e3, go_sem, Rcb, Rbk, sevalprocAttr]
  clear hres n3 n2 np hl4 hl5 e0 e2 e3
  rintro e ds h ⟨rfl, e0, e2, e3, M6, t, lv4, hh, hv, v1, v2, v3, v4, v5, v6, v7, hM6, n3, n2, np, hl4, hhv, hres, rfl⟩
  have o1 := RS_one hiv
  have hM36 := (hM4.trans hM5).trans hM6
  obtain ⟨fa, fc, rfl⟩ := FromOk_form hfrom
  have o3 := RS_one hgv
  obtain ⟨sw, hsw, ow, _⟩ := RX_form hwh
  obtain ⟨sh, hsh, oh, _⟩ := RX_form hhv
  simp only [List.cons.injEq, and_true] at hsw hsh
  obtain ⟨rfl, rfl, rfl, rfl, rfl, rfl, rfl⟩ := hsw
  obtain ⟨rfl, rfl, rfl, rfl, rfl, rfl, rfl⟩ := hsh
  simp +contextual only [go_sem, Rcb, Rbk, sevalprocAttr, e0, e2, e3, n3, n2, np, hap2, hap3, o1, o3, ow, oh]
  refine Close_drop (Close_drop (Close_from (FromOk_ext hM36 hfrom) (by omega) (fun M7 hM7 hno7 hrs => end_id hT rfl rfl ?_) (by simpa only [noneL_pL] using np)))
  have h17 := hM3.trans (hM36.trans hM7)
  exact ⟨_, t, lv4, hres, rfl, RS_ext hM7 (fun _ _ h => h) hl4, rfl, _, rfl, ⟨iv, _, _, _, gv, RS_ext h17 (RIt_ext h17) hiv, hrs, RX_ext ((hM5.trans hM6).trans hM7) _ _ hwh, RX_ext hM7 _ _ hhv, RS_ext (hM6.trans hM7) (RX_ext (hM6.trans hM7)) hgv, rfl⟩⟩
end Go.Proofs.YtoainkbcfnlkcaaGreatDoor


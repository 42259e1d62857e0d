import Derived.Test.YtoainkbcfnlkcaaGreatDoorR
set_option linter.all false
namespace Go.Proofs.YtoainkbcfnlkcaaGreatDoor
open Go Vc
set_option linter.unusedSimpArgs false
set_option linter.unusedVariables false
set_option maxRecDepth 10000

/-! ### lists with commas between -/
def someA {α : Type} (en : Int) (g : List Tk → Rs α) (n : Nat) (acc : List α) (t : List Tk) : Rs (List α) := (someM en g (n - acc.length) t).bind fun l t => .ok (acc ++ l) t
def someB {α : Type} (en : Int) (g : List Tk → Rs α) (n : Nat) (acc : List α) (t : List Tk) : Rs (List α) := (g t).bind fun a t => if seesM sComma t = true then someA en g n (acc ++ [a]) t.tail else .ok (acc ++ [a]) t
theorem someA_nil {α : Type} (en : Int) (g : List Tk → Rs α) (n : Nat) (t : List Tk) : someM en g n t = someA en g n [] t := by
  unfold someA
  simp only [List.length_nil, Nat.sub_zero, List.nil_append]
  cases someM en g n t <;> rfl
theorem someA_step {α : Type} {en : Int} {g : List Tk → Rs α} {n : Nat} {acc : List α} (h : acc.length ≤ n) (t : List Tk) :
    someA en g n acc t = (if ((acc.length : Nat) : Int) = (n : Int) then .err 5 (atM en t) else .ok () t : Rs Unit).bind fun _ t => someB en g n acc t := by
  by_cases he : acc.length = n
  · rw [if_pos (by rw [he])]
    unfold someA
    rw [he, Nat.sub_self]; rfl
  · rw [if_neg (by omega)]
    obtain ⟨k, hk⟩ : ∃ k, n - acc.length = k + 1 := ⟨n - acc.length - 1, by omega⟩
    unfold someA someB
    rw [hk, someM, Rs.bind_assoc]
    show _ = (g t).bind _
    congr 1
    funext a t'
    split
    · unfold someA
      rw [Rs.bind_assoc, show n - (acc ++ [a]).length = k by rw [List.length_append]; simp; omega]
      congr 1
      funext l t''
      show Rs.ok (acc ++ (a :: l)) t'' = _
      rw [List.append_assoc]; rfl
    · rfl
/-- what is good behind was good ahead -/
theorem Rl.good {α : Type} {r : Rs α} {be ba : Int} {a : α} {t : List Tk} {be' ba' : Int} (h : Rl r be ba a t be' ba') (h' : be' = 0) : be = 0 := by
  unfold Rl at h
  split at h
  · assumption
  · rw [← h.1]; exact h'
theorem Rl.room {n m : Int} {t t2 : List Tk} {be ba be' ba' : Int} {en : Int} (h : Rl (if n = m then .err 5 (atM en t) else .ok () t : Rs Unit) be ba () t2 be' ba') (h' : be' = 0) : n ≠ m := by
  rintro rfl
  have h0 := h.good h'
  unfold Rl at h
  rw [if_pos h0, if_pos rfl] at h
  rw [h.2.1] at h'
  cases h'
theorem ct_w_exprs {en : Int} {pb : Nat} {op : Int} {ex : List Tk → Rs X} (hex : LvD 75 en pb op ex) {M : Mem} {toks : List Tk} {lv : Value} {be ba : Int} (hl : RS M RTw 3 toks lv) (T : Tm) :
    CtT Tryz.prog 113 [.pointer (some ⟨pb, 0, none⟩)] T M (wL pb lv en op be ba) [] (postW pb en op (fun l v M => RS M (RX M) 7 l v) (someM en ex 8 toks) be ba) noPan := by
  refine ct_run mx bod113 Tryz.func113 rfl (by rw [nt113]; exact Nat.le_of_ble_eq_true rfl) (dr := dr113) (by kernel_rfl) rs113 ?_
  intro hno _
  simp only [noneL_wL] at hno
  rw [someA_nil]
  simp +contextual only [go_sem, Rcb, Rbk, sevalprocAttr]
  refine loop_rule (fun m e ds h => ds = [] ∧ e 0 = .pointer (some ⟨pb, 0, none⟩) ∧ ∃ M' lv' t be' ba' fv R acc C, e 3 = fv ∧ M' pb = none ∧ RS M' RTw 3 t lv' ∧ Acc 65 7 (RX M') [] R fv acc ∧ acc.length ≤ 9 ∧
      Up C be' ba' (someA en ex 8 [] toks) be ba ∧ (be' = 0 → acc.length ≤ 8 ∧ C = someA en ex 8 acc t) ∧ m = (if be' = 0 then 10 - acc.length else 0) ∧ h = ⟨T, M', wL pb lv' en op be' ba', R⟩)
    ⟨_, rfl, (by simp only [go_sem, Rcb, Rbk, sevalprocAttr]), M, lv, toks, be, ba, _, [], [], _, (by simp only [go_sem, Rcb, Rbk, sevalprocAttr]), hno, hl, Acc_nil, by simp, Up.rfl', fun _ => ⟨by simp, rfl⟩, rfl, rfl⟩ ?_
  rintro m e ds h ⟨rfl, e0, M2, lv2, t, be2, ba2, fv, R, acc, C, e3, np, hl2, hacc, hal, hu, hC, rfl, rfl⟩
  obtain ⟨fa, fc, rfl⟩ := Acc_form hacc
  simp +contextual only [go_sem, Rcb, Rbk, sevalprocAttr, e0, e3]
  refine good_w [] ?_
  by_cases h0 : be2 = 0
  · obtain ⟨hal8, rfl⟩ := hC h0
    replace hu := hu.congr fun _ => someA_step hal8 t
    simp +contextual only [go_sem, Rcb, Rbk, sevalprocAttr, e0, e3, h0]
    refine part_w [] (ct_w_room (n := ((acc.length : Nat) : Int)) (m := 8) hl2 T) ?_
    rintro v M3 _ t3 lv3 be3 ba3 hM3 hno3 hr3 hl3 rfl
    have hu3 := hu.bind hr3
    simp only [someB] at hu3
    simp only [List.cons_append, List.nil_append, noneL, noneL_wL] at hno3
    simp +contextual only [go_sem, Rcb, Rbk, sevalprocAttr, e0, e3, hno3]
    refine part_w [] (hex M3 _ lv3 _ _ T hl3) ?_
    rintro v M4 x t4 lv4 be4 ba4 hM4 hno4 hr4 hl4 ⟨cs, rfl, hx⟩
    have hu4 := hu3.bind hr4
    have hx' := hx
    obtain ⟨s, rfl, h1, _⟩ := RX_form hx'
    simp only [List.cons_append, List.nil_append, noneL, noneL_wL] at hno4
    simp +contextual only [go_sem, Rcb, Rbk, sevalprocAttr, e0, e3, hno4, h1]
    intro b hb hap
    refine app_acc (z := _) Tryz.underlying58 row58 okt58 (Acc_mono (fun x cs h => RX_ext (hM3.trans hM4) _ _ h) hacc) hx (fun _ _ => RX_len) (RX_oneC hx) hb (by omega) (by decide) ?_
    intro fv' R' hacc'
    have ho := Acc_one hacc'
    simp +contextual only [go_sem, Rcb, Rbk, sevalprocAttr, e0, e3, hno4, hap]
    refine may_w [(b, _)] sComma hl4 (fun h40 hs lv5 hl5 => ?_) (fun hs lv5 hl5 => ?_)
    · have hu5 := hu4.congr fun _ => if_pos hs
      have h3 := hr4.good h40
      have hne := hr3.room h3
      simp +contextual only [go_sem, Rcb, Rbk, sevalprocAttr, e0, e3]
      refine lp_close (Close_drop (Close_id ⟨10 - (acc.length + 1), ?_, rfl, ?_, M4, lv5, t4.tail, be4, ba4, fv', R', acc ++ [x], _, ?_, hno4, hl5, hacc', ?_, hu5, fun _ => ⟨?_, rfl⟩, ?_, rfl⟩))
      · rw [if_pos h0]; omega
      · simp only [e0, go_sem, Rcb, Rbk, sevalprocAttr]
      · simp only [go_sem, Rcb, Rbk, sevalprocAttr]
      · rw [List.length_append]; simp; omega
      · rw [List.length_append]; simp; omega
      · rw [if_pos h40, List.length_append]; rfl
    · have hu5 := hu4.congr fun h => if_neg (by rw [hs h]; decide)
      simp +contextual only [go_sem, Rcb, Rbk, sevalprocAttr, e0, e3]
      refine Close_acc hacc' (by rw [List.length_append]; simp; omega) (by decide) ⟨hb, by simpa only [noneL_wL] using hno4⟩ fun M6 hM6 hno6 hrs => ?_
      exact fin_wr (enc := fun l v M => RS M (RX M) 7 l v) [(b, _)] ExtT.rfl' hu5 (RS_ext hM6 (fun _ _ h => h) hl5) (RS_ext Ext.rfl' (fun x cs h => RX_ext hM6 _ _ h) hrs)
  · simp +contextual only [go_sem, Rcb, Rbk, sevalprocAttr, e0, e3, h0]
    refine Close_acc hacc (by omega) (by decide) (by simpa only [noneL_wL] using np) fun M6 hM6 hno6 hrs => ?_
    exact fin_wr (enc := fun l v M => RS M (RX M) 7 l v) (a := acc) [] ExtT.rfl' (hu.congr fun h => (h0 h).elim) (RS_ext hM6 (fun _ _ h => h) hl2) (RS_ext Ext.rfl' (fun x cs h => RX_ext hM6 _ _ h) hrs)
end Go.Proofs.YtoainkbcfnlkcaaGreatDoor

namespace Go.Proofs.YtoainkbcfnlkcaaGreatDoor
open Go Vc
set_option linter.unusedSimpArgs false
set_option linter.unusedVariables false
set_option maxRecDepth 10000

theorem ct_w_source {en : Int} {pb : Nat} {op : Int} {ex : List Tk → Rs X} (hex : LvD 75 en pb op ex) {M : Mem} {toks : List Tk} {lv : Value} {be ba k : Int} (hk : 1 ≤ k) (hl : RS M RTw 3 toks lv) (T : Tm) :
    CtT Tryz.prog 149 [.pointer (some ⟨pb, 0, none⟩), .int .i64 k] T M (wL pb lv en op be ba) [] (postW pb en op encSo (sourceM en ex k toks) be ba) noPan := by
  refine ct_run mx bod149 Tryz.func149 rfl (by rw [nt149]; exact Nat.le_of_ble_eq_true rfl) (dr := dr149) (by kernel_rfl) rs149 ?_
  intro hno _
  simp only [noneL_wL] at hno
  have hu := Up.rfl' (r := sourceM en ex k toks) (be := be) (ba := ba)
  unfold sourceM at hu
  simp +contextual only [go_sem, Rcb, Rbk, sevalprocAttr]
  intro b4 T4 hb4 hap4 hT4 hTb4 b5 T5 hb5 hap5 hT5 hTb5
  have hT := hT4.trans hT5
  refine part_w [(b5, _), (b4, _)] (ct_w_name hl T5) ?_
  rintro v M1 n t1 lv1 be1 ba1 hM1 hno1 hr1 hl1 rfl
  have hu1 := hu.bind hr1
  simp only [List.cons_append, List.nil_append, noneL, noneL_wL] at hno1
  simp +contextual only [go_sem, Rcb, Rbk, sevalprocAttr, hno1, hap4, hap5]
  refine may_w1 [(b5, _), (b4, _)] wAs hl1 fun b t2 lv2 hb ht2 hl2 => ?_
  have hu2 : Up ((if b = true then nameM en t2 else .ok [] t2).bind fun a t => if k ≠ 1 then (needM en [wOn] t).bind fun _ t => (ex t).bind fun x t => .ok ⟨k, n, a, x⟩ t else .ok ⟨k, n, a, zeroX⟩ t) be1 ba1 (sourceM en ex k toks) be ba := hu1.congr fun h0 => by
    have e1 := hb h0
    subst e1
    unfold asM
    cases hs : seesM wAs t1 with
    | true => rw [ht2 h0, hs]; rfl
    | false => rw [ht2 h0, hs]; rfl
  simp +contextual only [go_sem, sevalprocAttr]
  refine cond_cut (fun e ds h => ds = [] ∧ (e 0 = .pointer (some ⟨pb, 0, none⟩) ∧ e 1 = .int .i64 k ∧ e 4 = .pointer (some ⟨b4, 0, none⟩) ∧ e 5 = .pointer (some ⟨b5, 0, none⟩)) ∧ ∃ M' lv' t be' ba' a, M' b5 = none ∧ M' b4 = none ∧ M' pb = none ∧ RS M' RTw 3 t lv' ∧
      Up (if k ≠ 1 then (needM en [wOn] t).bind fun _ t => (ex t).bind fun x t => .ok ⟨k, n, a, x⟩ t else .ok ⟨k, n, a, zeroX⟩ t) be' ba' (sourceM en ex k toks) be ba ∧
      h = ⟨T5, M', (b5, [.int .i64 k, st n, st a, .int .i64 0, .int .i64 0, .int .i64 0, st [], st [], st [], .slice none 0 0]) :: (b4, [.int .i64 0, st [], st [], .int .i64 0, .int .i64 0, .int .i64 0, st [], st [], st [], .slice none 0 0]) :: wL pb lv' en op be' ba', []⟩) (fun S' hS' => ?_) ?_
  · cases b with
    | true =>
      simp +contextual only [go_sem, Rcb, Rbk, sevalprocAttr]
      refine part_w [(b5, _), (b4, _)] (ct_w_name hl2 T5) ?_
      rintro v M2 a t3 lv3 be3 ba3 hM2 hno2 hr3 hl3 rfl
      simp only [List.cons_append, List.nil_append, noneL, noneL_wL] at hno2
      simp +contextual only [go_sem, Rcb, Rbk, sevalprocAttr, hno2, hap4, hap5]
      exact hS' _ _ _ ⟨rfl, ⟨by simp only [go_sem, Rcb, Rbk, sevalprocAttr], by simp only [go_sem, Rcb, Rbk, sevalprocAttr], by simp only [go_sem, Rcb, Rbk, sevalprocAttr], by simp only [go_sem, Rcb, Rbk, sevalprocAttr]⟩, M2, lv3, t3, be3, ba3, a, hno2.1, hno2.2.1, hno2.2.2, hl3, hu2.bind hr3, rfl⟩
    | false =>
      simp +contextual only [go_sem, Rcb, Rbk, sevalprocAttr]
      exact hS' _ _ _ ⟨rfl, ⟨by simp only [go_sem, Rcb, Rbk, sevalprocAttr], by simp only [go_sem, Rcb, Rbk, sevalprocAttr], by simp only [go_sem, Rcb, Rbk, sevalprocAttr], by simp only [go_sem, Rcb, Rbk, sevalprocAttr]⟩, M1, lv2, t2, be1, ba1, [], hno1.1, hno1.2.1, hno1.2.2, hl2, hu2, rfl⟩
  rintro e ds h ⟨rfl, ⟨e0, e1, e4, e5⟩, M2, lv3, t3, be3, ba3, a, n5, n4, np, hl3, hu3, rfl⟩
  by_cases hk1 : k = 1
  · have hk1' : ¬ (1 : Int) < k := by omega
    replace hu3 := hu3.congr fun _ => if_neg (fun h => h hk1)
    simp +contextual only [go_sem, Rcb, Rbk, sevalprocAttr, e0, e1, e4, e5, hk1', n5, n4, np, hap4, hap5]
    exact fin_wr (enc := encSo) [(b5, _), (b4, _)] hT hu3 hl3 ⟨_, rfl, _, RX_zero, rfl⟩
  · have hk1' : (1 : Int) < k := by omega
    replace hu3 := hu3.congr fun _ => if_pos hk1
    simp +contextual only [go_sem, Rcb, Rbk, sevalprocAttr, e0, e1, e4, e5, hk1']
    intro b6 hb6 hap6
    refine must_w [(b5, _), (b4, _)] hu3 hl3 ?_
    intro M3 t4 lv4 be4 ba4 hM3 hno3 hu4 hl4
    simp +contextual only [go_sem, Rcb, Rbk, sevalprocAttr, e0, e1, e4, e5]
    refine part_w [(b5, _), (b4, _)] (hex M3 _ lv4 _ _ T5 hl4) ?_
    rintro v M4 x t5 lv5 be5 ba5 hM4 hno4 hr5 hl5 ⟨cs, rfl, hx⟩
    obtain ⟨s, rfl, h1, _⟩ := RX_form hx
    simp only [List.cons_append, List.nil_append, noneL, noneL_wL] at hno4
    simp +contextual only [go_sem, Rcb, Rbk, sevalprocAttr, e0, e1, e4, e5, hno4, hap4, hap5, h1]
    exact fin_wr (enc := encSo) [(b5, _), (b4, _)] hT (hu4.bind hr5) hl5 ⟨_, rfl, _, hx, rfl⟩
end Go.Proofs.YtoainkbcfnlkcaaGreatDoor

namespace Go.Proofs.YtoainkbcfnlkcaaGreatDoor
open Go Vc
set_option linter.unusedSimpArgs false
set_option linter.unusedVariables false
set_option maxRecDepth 10000
set_option maxHeartbeats 4000000

def itemsC (en : Int) (ex : List Tk → Rs X) (d sb : Bool) (acc : List It) (t : List Tk) : Rs Se := (someA en (itemM en ex) 8 acc t).bind (selK1 en ex d sb)
theorem itemsC_step {en : Int} {ex : List Tk → Rs X} {d sb : Bool} {acc : List It} (h : acc.length ≤ 8) (t : List Tk) : itemsC en ex d sb acc t =
    (if ((acc.length : Nat) : Int) = 8 then .err 5 (atM en t) else .ok () t : Rs Unit).bind fun _ t => (ex t).bind fun x t => (if seesM wAs t = true then nameM en t.tail else .ok [] t).bind fun a t =>
      if seesM sComma t = true then itemsC en ex d sb (acc ++ [⟨x, a⟩]) t.tail else selK1 en ex d sb (acc ++ [⟨x, a⟩]) t := by
  unfold itemsC
  rw [someA_step h, Rs.bind_assoc]
  congr 1
  funext _ t
  unfold someB itemM
  rw [Rs.bind_assoc, Rs.bind_assoc]
  congr 1
  funext x t
  split
  · rw [Rs.bind_assoc]
    congr 1
    funext a t
    show Rs.bind (ite (seesM sComma t = true) _ _) _ = _
    split <;> rfl
  · show Rs.bind (ite (seesM sComma t = true) _ _) _ = ite (seesM sComma t = true) _ _
    split <;> rfl
def joinsC (en : Int) (ex : List Tk → Rs X) (d sb : Bool) (items : List It) (acc : List So) (t : List Tk) : Rs Se := (joinsM en ex (4 - acc.length) t).bind fun l t => selK2 en ex d sb items (acc ++ l) t
theorem joinsC_step {en : Int} {ex : List Tk → Rs X} {d sb : Bool} {items : List It} {acc : List So} (h : acc.length ≤ 4) (t : List Tk) : joinsC en ex d sb items acc t =
    (joinM en t).bind fun k t => if 0 < k then (if ((acc.length : Nat) : Int) = 4 then .err 5 (atM en t) else .ok () t : Rs Unit).bind fun _ t => (sourceM en ex k t).bind fun s t => joinsC en ex d sb items (acc ++ [s]) t
      else selK2 en ex d sb items acc t := by
  unfold joinsC
  rw [joinsM_eq, Rs.bind_assoc]
  congr 1
  funext k t
  unfold joinsB
  split
  · by_cases he : acc.length = 4
    · rw [if_pos (by rw [he]; rfl), he]; rfl
    · rw [if_neg (by omega)]
      obtain ⟨r, hr⟩ : ∃ r, 4 - acc.length = r + 1 := ⟨4 - acc.length - 1, by omega⟩
      rw [hr]
      show ((sourceM en ex k t).bind fun s t => (joinsM en ex r t).bind fun l t => .ok (s :: l) t).bind _ = (sourceM en ex k t).bind _
      rw [Rs.bind_assoc]
      congr 1
      funext s t
      rw [Rs.bind_assoc, show 4 - (acc ++ [s]).length = r by rw [List.length_append]; simp; omega]
      congr 1
      funext l t
      show selK2 en ex d sb items (acc ++ (s :: l)) t = _
      rw [List.append_assoc]; rfl
  · show selK2 en ex d sb items (acc ++ []) t = _
    rw [List.append_nil]
abbrev seC (d sb : Bool) (iv sv : Value) (w hh : Bool) (wc hc : List Value) (gv : Value) : List Value := [.bool d, .bool sb, iv, sv, .bool w, .bool hh] ++ wc ++ hc ++ [gv]
abbrev xz : List Value := [.int .i64 0, .int .i64 0, .int .i64 0, st [], st [], st [], .slice none 0 0]
theorem must_wx {β : Type} {N : Tm} {M : Mem} {R : RR} {pb : Nat} {lv : Value} {en op be ba : Int} {d : Option Nat} {s : List Vc.Item} {e : Env} {toks : List Tk} {F : Fi} {ds : List Deferred} {res : Rs β} {Fk : Unit → List Tk → Rs β} {be0 ba0 : Int} (L1 Lx : LL) {x : Bs} {b : Nat}
    (hu : Up ((needM en [x] toks).bind Fk) be ba res be0 ba0) (hl : RS M RTw 3 toks lv)
    (k : ∀ M' t lv' be' ba', Ext M M' → noneL M' (L1 ++ wL pb lv' en op be' ba') → Up (Fk () t) be' ba' res be0 ba0 → RS M' RTw 3 t lv' →
      Run Tryz.prog F s (updo e d (.tuple #[])) ds ⟨N, M', L1 ++ wL pb lv' en op be' ba', R⟩ ⟨⟩) :
    rCall Tryz.prog F 36 [.pointer (some ⟨pb, 0, none⟩), .slice (some ⟨b, 0, none⟩) 1 1] d s e ds ⟨N, M, (b, [.string (bs x)]) :: (Lx ++ (L1 ++ wL pb lv en op be ba)), R⟩ ⟨⟩ := by
  refine rCall_close (k := fun h' => ∃ M1, Ext M M1 ∧ M1 b = some [.string (bs x)] ∧ h' = ⟨N, M1, L1 ++ wL pb lv en op be ba, R⟩) (Close_freeze fun he hb hno => Close_dropL Lx (Close_id ⟨_, he, hb, rfl⟩)) ?_ bod36
  rintro h' ⟨M1, hM1, hb, rfl⟩
  have hl1 := RS_ext hM1 (fun _ _ h => h) hl
  have hs : RS M1 RSt 1 [x] (.slice (some ⟨b, 0, none⟩) 1 1) := RS_lit (fun _ _ => RSt_len) hb (RL_strs [x]) rfl (by decide)
  refine part_w L1 (ct_w_must hl1 hs N) ?_
  rintro v M' a t lv' be' ba' hM hno hr hl' rfl
  exact k M' t lv' be' ba' (hM1.trans hM) hno (hu.bind hr) hl'
theorem ct_w_selected {en : Int} {pb : Nat} {op : Int} {ex : List Tk → Rs X} (hex : LvD 75 en pb op ex) {M : Mem} {toks : List Tk} {lv : Value} {be ba : Int} (hl : RS M RTw 3 toks lv) (T : Tm) :
    CtT Tryz.prog 112 [.pointer (some ⟨pb, 0, none⟩)] T M (wL pb lv en op be ba) [] (postW pb en op encSe (selM en ex toks) be ba) noPan := by
  refine ct_run mx bod112 Tryz.func112 rfl (by rw [nt112]; exact Nat.le_of_ble_eq_true rfl) (dr := dr112) (by kernel_rfl) rs112 ?_
  intro hno _
  simp only [noneL_wL] at hno
  have hu := Up.rfl' (r := selM en ex toks) (be := be) (ba := ba)
  unfold selM at hu
  simp +contextual only [go_sem, Rcb, Rbk, sevalprocAttr]
  intro b2 T2 hb2 hap2 hT2 hTb2 b3 T3 hb3 hap3 hT3 hTb3 b4 hb4 hap4
  have hT := hT2.trans hT3
  refine must_w [(b3, _), (b2, _)] hu hl ?_
  intro M1 t0 lv1 be1 ba1 hM1 hno1 hu1 hl1
  simp only [List.cons_append, List.nil_append, noneL, noneL_wL] at hno1
  simp +contextual only [go_sem, Rcb, Rbk, sevalprocAttr]
  refine may_w1 [(b3, _), (b2, _)] wDistinct hl1 fun d t1 lv2 hd ht1 hl2 => ?_
  simp +contextual only [go_sem, Rcb, Rbk, sevalprocAttr, hno1, hap2, hap3]
  refine may_w1 [(b3, _), (b2, _)] sStar hl2 fun sb t2 lv3 hsb ht2 hl3 => ?_
  have hu2 : Up (if sb = true then selK1 en ex d sb [] t2 else itemsC en ex d sb [] t2) be1 ba1 (selM en ex toks) be ba := hu1.congr fun h0 => by
    have e1 := hd h0
    have e3 : tl (seesM wDistinct t0) t0 = t1 := by rw [ht1 h0, e1]; rfl
    rw [e3, ← e1, ← hsb h0]
    cases sb with
    | true => rw [if_pos rfl, if_pos rfl, ht2 h0]; rfl
    | false => rw [if_neg (by decide), if_neg (by decide), ht2 h0, itemsC, ← someA_nil]; rfl
  clear hu hu1 hd ht1 hsb ht2 hl1 hl2
  simp +contextual only [go_sem, sevalprocAttr, hno1, hap2, hap3]
  refine run_cut (fun e ds h => ds = [] ∧ (e 0 = .pointer (some ⟨pb, 0, none⟩) ∧ e 2 = .pointer (some ⟨b2, 0, none⟩) ∧ e 3 = .pointer (some ⟨b3, 0, none⟩)) ∧ ∃ N M' lv' t be' ba' iv R items Lx, ExtT T3 N ∧ M' b3 = none ∧ M' b2 = none ∧ M' pb = none ∧ RS M' RTw 3 t lv' ∧
      Acc 87 8 (RIt M') [] R iv items ∧ items.length ≤ 9 ∧ Up (selK1 en ex d sb items t) be' ba' (selM en ex toks) be ba ∧
      h = ⟨N, M', Lx ++ ((b3, seC d sb iv (.slice none 0 0) false false xz xz (.slice none 0 0)) :: (b2, seC false false (.slice none 0 0) (.slice none 0 0) false false xz xz (.slice none 0 0)) :: wL pb lv' en op be' ba'), R⟩) (fun S' hS' => ?_) ?_
  · simp +contextual only [go_sem, Rcb, Rbk, sevalprocAttr]
    cases sb with
    | true =>
      refine loop_rule (fun m e ds h => m = 0 ∧ ds = [] ∧ (e 0 = .pointer (some ⟨pb, 0, none⟩) ∧ e 2 = .pointer (some ⟨b2, 0, none⟩) ∧ e 3 = .pointer (some ⟨b3, 0, none⟩)) ∧ h = ⟨T3, M1, (b3, seC d true (.slice none 0 0) (.slice none 0 0) false false xz xz (.slice none 0 0)) :: (b2, seC false false (.slice none 0 0) (.slice none 0 0) false false xz xz (.slice none 0 0)) :: wL pb lv3 en op be1 ba1, []⟩)
        ⟨0, rfl, rfl, ⟨(by simp only [go_sem, Rcb, Rbk, sevalprocAttr]), (by simp only [go_sem, Rcb, Rbk, sevalprocAttr]), (by simp only [go_sem, Rcb, Rbk, sevalprocAttr])⟩, rfl⟩ ?_
      rintro m e ds h ⟨rfl, rfl, ⟨e0, e2, e3⟩, rfl⟩
      simp +contextual only [go_sem, Rcb, Rbk, sevalprocAttr, seC, xz, e0, e2, e3, hno1, hap2, hap3]
      exact hS' _ _ _ ⟨rfl, ⟨by simp only [e0, go_sem, Rcb, Rbk, sevalprocAttr], by simp only [e2, go_sem, Rcb, Rbk, sevalprocAttr], by simp only [e3, go_sem, Rcb, Rbk, sevalprocAttr]⟩, T3, M1, lv3, t2, be1, ba1, _, [], [], [], ExtT.rfl', hno1.1, hno1.2.1, hno1.2.2, hl3, Acc_nil, by simp, hu2, rfl⟩
    | false =>
      refine loop_rule (fun m e ds h => ds = [] ∧ (e 0 = .pointer (some ⟨pb, 0, none⟩) ∧ e 2 = .pointer (some ⟨b2, 0, none⟩) ∧ e 3 = .pointer (some ⟨b3, 0, none⟩)) ∧ ∃ N M' lv' t be' ba' fv R acc C, ExtT T3 N ∧ M' b3 = none ∧ M' b2 = none ∧ M' pb = none ∧ RS M' RTw 3 t lv' ∧ Acc 87 8 (RIt M') [] R fv acc ∧ acc.length ≤ 9 ∧
          Up C be' ba' (selM en ex toks) be ba ∧ (be' = 0 → acc.length ≤ 8 ∧ C = itemsC en ex d false acc t) ∧ m = (if be' = 0 then 10 - acc.length else 0) ∧
          h = ⟨N, M', (b3, seC d false fv (.slice none 0 0) false false xz xz (.slice none 0 0)) :: (b2, seC false false (.slice none 0 0) (.slice none 0 0) false false xz xz (.slice none 0 0)) :: wL pb lv' en op be' ba', R⟩)
        ⟨_, rfl, ⟨(by simp only [go_sem, Rcb, Rbk, sevalprocAttr]), (by simp only [go_sem, Rcb, Rbk, sevalprocAttr]), (by simp only [go_sem, Rcb, Rbk, sevalprocAttr])⟩, T3, M1, lv3, t2, be1, ba1, _, [], [], _, ExtT.rfl', hno1.1, hno1.2.1, hno1.2.2, hl3, Acc_nil, by simp, hu2, fun _ => ⟨by simp, rfl⟩, rfl, rfl⟩ ?_
      rintro m e ds h ⟨rfl, ⟨e0, e2, e3⟩, N, M2, lv4, t, be2, ba2, fv, R, acc, C, hN, n3, n2, np, hl4, hacc, hal, hu, hC, rfl, rfl⟩
      obtain ⟨fa, fc, rfl⟩ := Acc_form hacc
      simp +contextual only [go_sem, Rcb, Rbk, sevalprocAttr, seC, xz, e0, e2, e3, n3, n2, np, hap2, hap3]
      refine good_w [(b3, _), (b2, _)] ?_
      by_cases h0 : be2 = 0
      · obtain ⟨hal8, rfl⟩ := hC h0
        replace hu := hu.congr fun _ => itemsC_step hal8 t
        simp +contextual only [go_sem, Rcb, Rbk, sevalprocAttr, e0, e2, e3, h0, n3, n2, np, hap2, hap3]
        refine part_w [(b3, _), (b2, _)] (ct_w_room (n := ((acc.length : Nat) : Int)) (m := 8) hl4 N) ?_
        rintro v M3 _ t3 lv5 be3 ba3 hM3 hno3 hr3 hl5 rfl
        have hu3 := hu.bind hr3
        simp only [List.cons_append, List.nil_append, noneL, noneL_wL] at hno3
        simp +contextual only [go_sem, Rcb, Rbk, sevalprocAttr, e0, e2, e3, hno3]
        refine part_w [(b3, _), (b2, _)] (hex M3 _ lv5 _ _ N hl5) ?_
        rintro v M4 x t4 lv6 be4 ba4 hM4 hno4 hr4 hl6 ⟨cs, rfl, hx⟩
        have hu4 := hu3.bind hr4
        have hx' := hx
        obtain ⟨s, rfl, h1, _⟩ := RX_form hx'
        simp only [List.cons_append, List.nil_append, noneL, noneL_wL] at hno4
        simp +contextual only [go_sem, Rcb, Rbk, sevalprocAttr, e0, e2, e3, hno4, h1]
        intro b4 T4 hb4 hap4 hT4 hTb4
        refine may_w1 [(b4, _), (b3, _), (b2, _)] wAs hl6 fun ba_ t5 lv7 hb5 ht5 hl7 => ?_
        have hu5 : Up ((if ba_ = true then nameM en t5 else .ok [] t5).bind fun a t => if seesM sComma t = true then itemsC en ex d false (acc ++ [⟨x, a⟩]) t.tail else selK1 en ex d false (acc ++ [⟨x, a⟩]) t) be4 ba4 (selM en ex toks) be ba := hu4.congr fun h0 => by
          have e1 := hb5 h0
          subst e1
          cases hs : seesM wAs t4 with
          | true => rw [ht5 h0, hs]; rfl
          | false => rw [ht5 h0, hs]; rfl
        simp +contextual only [go_sem, sevalprocAttr, e0, e2, e3]
        refine cond_cut (fun e ds h => ds = [] ∧ (e 0 = .pointer (some ⟨pb, 0, none⟩) ∧ e 2 = .pointer (some ⟨b2, 0, none⟩) ∧ e 3 = .pointer (some ⟨b3, 0, none⟩) ∧ e 4 = .pointer (some ⟨b4, 0, none⟩)) ∧ ∃ M' lv' t be' ba' a, Ext M4 M' ∧ M' b4 = none ∧ M' b3 = none ∧ M' b2 = none ∧ M' pb = none ∧ RS M' RTw 3 t lv' ∧
            Up (if seesM sComma t = true then itemsC en ex d false (acc ++ [⟨x, a⟩]) t.tail else selK1 en ex d false (acc ++ [⟨x, a⟩]) t) be' ba' (selM en ex toks) be ba ∧ (be' = 0 → be4 = 0) ∧
            h = ⟨T4, M', (b4, [.int .i64 x.k, .int .i64 x.v.k, .int .i64 x.v.n, st x.v.t, st x.tab, st x.name, s, st a]) :: (b3, seC d false (.slice fa acc.length fc) (.slice none 0 0) false false xz xz (.slice none 0 0)) :: (b2, seC false false (.slice none 0 0) (.slice none 0 0) false false xz xz (.slice none 0 0)) :: wL pb lv' en op be' ba', R⟩) (fun S2 hS2 => ?_) ?_
        · cases ba_ with
          | true =>
            simp +contextual only [go_sem, Rcb, Rbk, sevalprocAttr, e0, e2, e3]
            refine part_w [(b4, _), (b3, _), (b2, _)] (ct_w_name hl7 T4) ?_
            rintro v M5 a t6 lv8 be6 ba6 hM5 hno5 hr6 hl8 rfl
            simp only [List.cons_append, List.nil_append, noneL, noneL_wL] at hno5
            simp +contextual only [go_sem, Rcb, Rbk, sevalprocAttr, e0, e2, e3, hno5, hap4]
            exact hS2 _ _ _ ⟨rfl, ⟨by simp only [e0, go_sem, Rcb, Rbk, sevalprocAttr], by simp only [e2, go_sem, Rcb, Rbk, sevalprocAttr], by simp only [e3, go_sem, Rcb, Rbk, sevalprocAttr], by simp only [go_sem, Rcb, Rbk, sevalprocAttr]⟩, M5, lv8, t6, be6, ba6, a, hM5, hno5.1, hno5.2.1, hno5.2.2.1, hno5.2.2.2, hl8, hu5.bind hr6, fun h => hr6.good h, rfl⟩
          | false =>
            simp +contextual only [go_sem, Rcb, Rbk, sevalprocAttr, e0, e2, e3]
            exact hS2 _ _ _ ⟨rfl, ⟨by simp only [e0, go_sem, Rcb, Rbk, sevalprocAttr], by simp only [e2, go_sem, Rcb, Rbk, sevalprocAttr], by simp only [e3, go_sem, Rcb, Rbk, sevalprocAttr], by simp only [go_sem, Rcb, Rbk, sevalprocAttr]⟩, M4, lv7, t5, be4, ba4, [], Ext.rfl', hb4, hno4.1, hno4.2.1, hno4.2.2, hl7, hu5, fun h => h, rfl⟩
        clear e0 e2 e3
        rintro e ds h ⟨rfl, ⟨e0, e2, e3, e4⟩, M5, lv8, t6, be6, ba6, a, hM5, q4, q3, q2, qp, hl8, hu6, hb64, rfl⟩
        have hit : RIt M5 ⟨x, a⟩ [.int .i64 x.k, .int .i64 x.v.k, .int .i64 x.v.n, st x.v.t, st x.tab, st x.name, s, st a] := ⟨_, RX_ext hM5 _ _ hx, rfl⟩
        simp +contextual only [go_sem, Rcb, Rbk, sevalprocAttr, seC, xz, e0, e2, e3, e4, q4, q3, q2, qp, hap2, hap3, hap4, h1]
        intro b5 hb5 hap5
        refine app_acc (z := _) Tryz.underlying88 row88 okt88 (Acc_mono (fun x cs h => RIt_ext ((hM3.trans hM4).trans hM5) _ _ h) hacc) hit (fun _ _ => RIt_len) (RIt_oneC hit) hb5 (by omega) (by decide) ?_
        intro fv' R' hacc'
        obtain ⟨o1, o2⟩ := Acc_one hacc'
        have o3 := o2
        simp only [Value.cells] at o3
        simp +contextual only [go_sem, Rcb, Rbk, sevalprocAttr, seC, xz, e0, e2, e3, e4, q4, q3, q2, qp, hap2, hap3, hap4, hap5, o1, o2, o3]
        refine may_w [(b5, _), (b4, _), (b3, _), (b2, _)] sComma hl8 (fun h60 hs lv9 hl9 => ?_) (fun hs lv9 hl9 => ?_)
        · have hu7 := hu6.congr fun _ => if_pos hs
          have h3 := hr4.good (hb64 h60)
          have hne := hr3.room h3
          simp +contextual only [go_sem, Rcb, Rbk, sevalprocAttr, e0, e2, e3, e4]
          refine lp_close (Close_drop (Close_drop (Close_id ⟨10 - (acc.length + 1), ?_, rfl, ⟨?_, ?_, ?_⟩, T4, M5, lv9, t6.tail, be6, ba6, fv', R', acc ++ [⟨x, a⟩], _, hN.trans hT4, q3, q2, qp, hl9, hacc', ?_, hu7, fun _ => ⟨?_, rfl⟩, ?_, rfl⟩)))
          · rw [if_pos h0]; omega
          · simp only [e0, go_sem, Rcb, Rbk, sevalprocAttr]
          · simp only [e2, go_sem, Rcb, Rbk, sevalprocAttr]
          · simp only [e3, go_sem, Rcb, Rbk, sevalprocAttr]
          · rw [List.length_append]; simp; omega
          · rw [List.length_append]; simp; omega
          · rw [if_pos h60, List.length_append]; rfl
        · have hu7 := hu6.congr fun h => if_neg (by rw [hs h]; decide)
          simp +contextual only [go_sem, Rcb, Rbk, sevalprocAttr, e0, e2, e3, e4]
          exact hS' _ _ _ ⟨rfl, ⟨by simp only [e0, go_sem, Rcb, Rbk, sevalprocAttr], by simp only [e2, go_sem, Rcb, Rbk, sevalprocAttr], by simp only [e3, go_sem, Rcb, Rbk, sevalprocAttr]⟩, T4, M5, lv9, t6, be6, ba6, fv', R', acc ++ [⟨x, a⟩], [(b5, _), (b4, _)], hN.trans hT4, q3, q2, qp, hl9, hacc', by rw [List.length_append]; simp; omega, hu7, rfl⟩
      · simp +contextual only [go_sem, Rcb, Rbk, sevalprocAttr, e0, e2, e3, h0]
        exact hS' _ _ _ ⟨rfl, ⟨by simp only [e0, go_sem, Rcb, Rbk, sevalprocAttr], by simp only [e2, go_sem, Rcb, Rbk, sevalprocAttr], by simp only [e3, go_sem, Rcb, Rbk, sevalprocAttr]⟩, N, M2, lv4, t, be2, ba2, _, R, acc, [], hN, n3, n2, np, hl4, hacc, hal, hu.congr fun h => (h0 h).elim, rfl⟩
  clear hu2 hl3
  rintro e ds h ⟨rfl, ⟨e0, e2, e3⟩, N, M2, lv4, t3, be2, ba2, iv, R, items, Lx, hN, n3, n2, np, hl4, hacc, hal, hu, rfl⟩
  have hu1 : Up ((needM en [wFrom] t3).bind fun _ t => (sourceM en ex 1 t).bind fun s0 t => joinsC en ex d sb items [s0] t) be2 ba2 (selM en ex toks) be ba := hu
  clear hu
  have hp3 : ¬ b3 = b2 ∧ ¬ b2 = b3 := hap3.1
  simp +contextual only [go_sem, Rcb, Rbk, sevalprocAttr, e0, e2, e3]
  intro b5 hb5 hap5
  refine must_wx [(b3, _), (b2, _)] Lx hu1 hl4 ?_
  intro M3 t4 lv5 be3 ba3 hM3 hno3 hu3 hl5
  simp +contextual only [go_sem, Rcb, Rbk, sevalprocAttr, e0, e2, e3]
  refine part_w [(b3, _), (b2, _)] (ct_w_source hex (by decide) hl5 N) ?_
  rintro v M4 s0 t5 lv6 be4 ba4 hM4 hno4 hr4 hl6 ⟨cs, rfl, hs0⟩
  have hu4 := hu3.bind hr4
  have hs0o := RSo_oneC hs0
  obtain ⟨a1, a2, a3, a4, a5, a6, a7, rfl⟩ := RSo_form hs0
  simp only [List.forall_mem_cons] at hs0o
  obtain ⟨-, -, -, o1, o2, o3, o4, o5, o6, o7, -⟩ := hs0o
  simp only [List.cons_append, List.nil_append, noneL, noneL_wL] at hno4
  simp +contextual only [go_sem, sevalprocAttr, seC, xz, e0, e2, e3, hno4, hap2, hap3, o1, o2, o3, o4, o5, o6, o7]
  intro b7 hb7 hap7
  refine run_cut (fun e ds h => ds = [] ∧ (e 0 = .pointer (some ⟨pb, 0, none⟩) ∧ e 2 = .pointer (some ⟨b2, 0, none⟩) ∧ e 3 = .pointer (some ⟨b3, 0, none⟩)) ∧ ∃ N M' lv' t be' ba' iv sv R srcs, ExtT T3 N ∧ M' b3 = none ∧ M' b2 = none ∧ M' pb = none ∧ RS M' RTw 3 t lv' ∧
      RS M' (RIt M') 8 items iv ∧ FromOk M' R sv srcs ∧ srcs.length ≤ 5 ∧ Up (selK2 en ex d sb items srcs t) be' ba' (selM en ex toks) be ba ∧
      h = ⟨N, M', (b3, seC d sb iv sv false false xz xz (.slice none 0 0)) :: (b2, seC false false (.slice none 0 0) (.slice none 0 0) false false xz xz (.slice none 0 0)) :: wL pb lv' en op be' ba', R⟩) (fun S' hS' => ?_) ?_
  · simp +contextual only [go_sem, Rcb, Rbk, sevalprocAttr]
    refine ⟨fun m e ds h => ds = [] ∧ (e 0 = .pointer (some ⟨pb, 0, none⟩) ∧ e 2 = .pointer (some ⟨b2, 0, none⟩) ∧ e 3 = .pointer (some ⟨b3, 0, none⟩)) ∧ ∃ M' lv' t be' ba' sv R srcs C, M' b3 = none ∧ M' b2 = none ∧ M' pb = none ∧ RS M' RTw 3 t lv' ∧
        RS M' (RIt M') 8 items iv ∧ FromOk M' R sv srcs ∧ srcs.length ≤ 5 ∧ Up C be' ba' (selM en ex toks) be ba ∧ (be' = 0 → srcs.length ≤ 4 ∧ C = joinsC en ex d sb items srcs t) ∧ m = (if be' = 0 then 6 - srcs.length else 0) ∧
        h = ⟨N, M', (b3, seC d sb iv sv false false xz xz (.slice none 0 0)) :: (b2, seC false false (.slice none 0 0) (.slice none 0 0) false false xz xz (.slice none 0 0)) :: wL pb lv' en op be' ba', R⟩, ?_, ?_⟩
    · refine Close_freeze fun he hb hno5 => ?_
      have h24 := (hM3.trans hM4).trans he
      refine Close_acc (Acc_mono (fun x cs h => RIt_ext h24 _ _ h) hacc) (by omega) (by decide) hno5 fun M6 hM6 hno6 hrs => ?_
      simp only [List.cons_append, List.nil_append, noneL, noneL_wL] at hno6
      refine Close_id ⟨_, rfl, ⟨by simp only [e0, go_sem, Rcb, Rbk, sevalprocAttr], by simp only [e2, go_sem, Rcb, Rbk, sevalprocAttr], by simp only [e3, go_sem, Rcb, Rbk, sevalprocAttr]⟩, M6, lv6, t5, be4, ba4, _, [], [s0], _, hno6.1, hno6.2.1, hno6.2.2, RS_ext (he.trans hM6) (fun _ _ h => h) hl6, RS_ext Ext.rfl' (fun x cs h => RIt_ext hM6 _ _ h) hrs,
        .inl ⟨b7, _, rfl, rfl, rfl, hM6 _ _ hb, RL_one (RSo_ext (he.trans hM6) _ _ hs0)⟩, by simp, hu4, fun _ => ⟨by simp, rfl⟩, rfl, rfl⟩
    clear e0 e2 e3
    rintro m e ds h ⟨rfl, ⟨e0, e2, e3⟩, M6, lv7, t, be5, ba5, sv, R', srcs, C, q3, q2, qp, hl7, hits, hfrom, hsl, hu5, hC, rfl, rfl⟩
    obtain ⟨fa, fc, rfl⟩ := FromOk_form hfrom
    simp +contextual only [go_sem, Rcb, Rbk, sevalprocAttr, seC, xz, e0, e2, e3, q3, q2, qp, hap2, hap3]
    refine good_w [(b3, _), (b2, _)] ?_
    by_cases h0 : be5 = 0
    · obtain ⟨hsl4, rfl⟩ := hC h0
      replace hu5 := hu5.congr fun _ => joinsC_step hsl4 t
      simp +contextual only [go_sem, Rcb, Rbk, sevalprocAttr, e0, e2, e3, h0]
      intro bw hbw hapw
      refine loop_rangeC 4 58 [(0, .pointer (some ⟨pb, 0, none⟩)), (2, .pointer (some ⟨b2, 0, none⟩)), (3, .pointer (some ⟨b3, 0, none⟩)), (56, .slice (some ⟨bw, 0, none⟩) 4 4), (57, .int .i64 4)]
        (fun i e h => ∃ κ M' lv' t', e 5 = .int .i64 κ ∧ Ext M6 M' ∧ M' bw = some (joinW.map st) ∧ M' b3 = none ∧ M' b2 = none ∧ M' pb = none ∧ RS M' RTw 3 t' lv' ∧
          ((κ = 0 ∧ t' = t ∧ idxSign joinW t = (idxSign (joinW.drop i) t).map (· + i)) ∨ (∃ j : Nat, j < 4 ∧ idxSign joinW t = some j ∧ κ = 2 + (j : Int) ∧ t' = t.tail)) ∧
          h = ⟨N, M', (b3, seC d sb iv (.slice fa srcs.length fc) false false xz xz (.slice none 0 0)) :: (b2, seC false false (.slice none 0 0) (.slice none 0 0) false false xz xz (.slice none 0 0)) :: wL pb lv' en op be5 ba5, R'⟩)
        0 (by omega) (by simp only [live, e0, e2, e3, go_sem, Rcb, Rbk, sevalprocAttr]) (by simp only [go_sem, Rcb, Rbk, sevalprocAttr]) (Close_freeze fun he hb hno => Close_id ⟨0, _, lv7, t, by simp only [go_sem, Rcb, Rbk, sevalprocAttr], he, hb, hno.1, hno.2.1, (by have := hno.2.2; simpa only [noneL_wL] using this), RS_ext he (fun _ _ h => h) hl7, .inl ⟨rfl, rfl, by simp⟩, rfl⟩) ?_
      clear e0 e2 e3
      rintro i e h hi hlv ht ⟨κ, M7, lv8, t6, e5, hM7, hw, p3, p2, pp, hl8, hκ, rfl⟩
      simp only [live] at hlv
      by_cases hlt : i < 4
      · have hlt' : i < joinW.length := hlt
        have hdrop : joinW.drop i = joinW[i] :: joinW.drop (i + 1) := List.drop_eq_getElem_cons hlt'
        have hx : mcell M7 ⟨bw, i, none⟩ = some (.string (bs joinW[i])) := by
          rw [mcell_some hw, List.getElem?_map, List.getElem?_eq_getElem hlt']
          rfl
        have hi3 : (i : Int) < 4 := by omega
        rcases hκ with ⟨rfl, rfl, hidx⟩ | ⟨j, hj4, hj, rfl, rfl⟩
        · rw [hdrop] at hidx
          have hw21 : IntKind.i64.wrap (2 + (i : Int)) = 2 + (i : Int) := wrap64 (by omega) (by omega)
          simp +contextual only [go_sem, Rcb, Rbk, sevalprocAttr, hlv, ht, hlt, hi3, hx, e5]
          refine may_w [(b3, _), (b2, _)] joinW[i] hl8 (fun h50 hs lv9 hl9 => ?_) (fun hs lv9 hl9 => ?_)
          · have hix : idxSign joinW t6 = some i := by rw [hidx]; simp [idxSign, hs]
            simp +contextual only [go_sem, Rcb, Rbk, sevalprocAttr, hlv, ht, hw21]
            refine lp_range hlt ?_ ?_ ⟨_, M7, lv9, t6.tail, ?_, hM7, hw, p3, p2, pp, hl9, .inr ⟨i, hlt, hix, rfl, rfl⟩, rfl⟩
            · simp only [live, hlv, go_sem, Rcb, Rbk, sevalprocAttr]
            · simp only [ht, go_sem, Rcb, Rbk, sevalprocAttr, wrap_succ i (by omega)]
            · simp only [go_sem, Rcb, Rbk, sevalprocAttr]
          · simp +contextual only [go_sem, Rcb, Rbk, sevalprocAttr, hlv, ht, e5]
            refine lp_range hlt ?_ ?_ ⟨0, M7, lv9, t6, ?_, hM7, hw, p3, p2, pp, hl9, .inl ⟨rfl, rfl, ?_⟩, rfl⟩
            · simp only [live, hlv, go_sem, Rcb, Rbk, sevalprocAttr]
            · simp only [ht, go_sem, Rcb, Rbk, sevalprocAttr, wrap_succ i (by omega)]
            · simp only [e5, go_sem, Rcb, Rbk, sevalprocAttr]
            · rw [hidx]
              simp only [idxSign, hs h0, Bool.false_eq_true, if_false, Option.map_map]
              congr 1
              funext n
              simp only [Function.comp]; omega
        · have hk0 : ¬ (2 + (j : Int)) = 0 := by omega
          simp +contextual only [go_sem, Rcb, Rbk, sevalprocAttr, hlv, ht, hlt, hi3, hx, e5, hk0]
          refine lp_range hlt ?_ ?_ ⟨_, M7, lv8, t.tail, ?_, hM7, hw, p3, p2, pp, hl8, .inr ⟨j, hj4, hj, rfl, rfl⟩, rfl⟩
          · simp only [live, hlv, go_sem, Rcb, Rbk, sevalprocAttr]
          · simp only [ht, go_sem, Rcb, Rbk, sevalprocAttr, wrap_succ i (by omega)]
          · simp only [e5, go_sem, Rcb, Rbk, sevalprocAttr]
      · have : i = 4 := by omega
        subst this
        have h33 : ¬ ((4 : Nat) : Int) < 4 := by omega
        rcases hκ with ⟨rfl, rfl, hidx⟩ | ⟨j, hj4, hj, rfl, rfl⟩
        · have hix : idxSign joinW t6 = none := by rw [hidx]; rfl
          have hu6 : Up (selK2 en ex d sb items srcs t6) be5 ba5 (selM en ex toks) be ba := hu5.congr fun _ => by
            unfold joinM; rw [hix]; rfl
          simp +contextual only [go_sem, Rcb, Rbk, sevalprocAttr, hlv, ht, h33, e5]
          exact hS' _ _ _ ⟨rfl, ⟨by simp only [hlv, go_sem, Rcb, Rbk, sevalprocAttr], by simp only [hlv, go_sem, Rcb, Rbk, sevalprocAttr], by simp only [hlv, go_sem, Rcb, Rbk, sevalprocAttr]⟩, N, M7, lv8, t6, be5, ba5, _, _, R', srcs, hN, p3, p2, pp, hl8, RS_ext hM7 (RIt_ext hM7) hits, FromOk_ext hM7 hfrom, hsl, hu6, rfl⟩
        · have hk0 : ¬ (2 + (j : Int)) = 0 := by omega
          have hkp : 0 < 2 + (j : Int) := by omega
          simp +contextual only [go_sem, sevalprocAttr, hlv, ht, h33, e5, hk0]
          simp only [rCond_bool, Bool.false_eq_true, if_false]
          simp +contextual only [go_sem, sevalprocAttr, hlv, ht, e5, hk0]
          simp only [rCond_bool, Bool.false_eq_true, if_false]
          simp +contextual only [go_sem, sevalprocAttr, hlv, ht, e5, hk0]
          have hu6 : Up (if j = 0 then (if ((srcs.length : Nat) : Int) = 4 then .err 5 (atM en t.tail) else .ok () t.tail : Rs Unit).bind fun _ t => (sourceM en ex 2 t).bind fun s t => joinsC en ex d sb items (srcs ++ [s]) t
              else (needM en [wJoin] t.tail).bind fun _ t => (if ((srcs.length : Nat) : Int) = 4 then .err 5 (atM en t) else .ok () t : Rs Unit).bind fun _ t => (sourceM en ex (2 + (j : Int)) t).bind fun s t => joinsC en ex d sb items (srcs ++ [s]) t) be5 ba5 (selM en ex toks) be ba := hu5.congr fun _ => by
            unfold joinM; rw [hj]
            by_cases hj0 : j = 0
            · subst hj0
              simp only [if_true]
              rfl
            · simp only [if_neg hj0]
              rw [Rs.bind_assoc]
              congr 1
              funext _ t
              show (if (0 : Int) < 2 + (j : Int) then _ else _) = _
              rw [if_pos hkp]
          refine cond_cut (fun e ds h => ds = [] ∧ (e 0 = .pointer (some ⟨pb, 0, none⟩) ∧ e 2 = .pointer (some ⟨b2, 0, none⟩) ∧ e 3 = .pointer (some ⟨b3, 0, none⟩) ∧ e 5 = .int .i64 (2 + (j : Int))) ∧ ∃ M' lv' t be' ba', Ext M7 M' ∧ M' b3 = none ∧ M' b2 = none ∧ M' pb = none ∧ RS M' RTw 3 t lv' ∧
              Up ((if ((srcs.length : Nat) : Int) = 4 then .err 5 (atM en t) else .ok () t : Rs Unit).bind fun _ t => (sourceM en ex (2 + (j : Int)) t).bind fun s t => joinsC en ex d sb items (srcs ++ [s]) t) be' ba' (selM en ex toks) be ba ∧
              h = ⟨N, M', (b3, seC d sb iv (.slice fa srcs.length fc) false false xz xz (.slice none 0 0)) :: (b2, seC false false (.slice none 0 0) (.slice none 0 0) false false xz xz (.slice none 0 0)) :: wL pb lv' en op be' ba', R'⟩) (fun S2 hS2 => ?_) ?_
          · by_cases hj0 : j = 0
            · subst hj0
              have hu7 := hu6.congr fun _ => if_pos rfl
              have q0 : ¬ (2 : Int) < 2 + ((0 : Nat) : Int) := by decide
              simp +contextual only [go_sem, Rcb, Rbk, sevalprocAttr, q0]
              exact hS2 _ _ _ ⟨rfl, ⟨by simp only [hlv, go_sem, Rcb, Rbk, sevalprocAttr], by simp only [hlv, go_sem, Rcb, Rbk, sevalprocAttr], by simp only [hlv, go_sem, Rcb, Rbk, sevalprocAttr], by simp only [e5, go_sem, Rcb, Rbk, sevalprocAttr]⟩, M7, lv8, t.tail, be5, ba5, Ext.rfl', p3, p2, pp, hl8, hu7, rfl⟩
            · have hu7 := hu6.congr fun _ => if_neg hj0
              have q0 : (2 : Int) < 2 + (j : Int) := by omega
              simp +contextual only [go_sem, Rcb, Rbk, sevalprocAttr, q0, hlv]
              intro b8 hb8 hap8
              refine must_w [(b3, _), (b2, _)] hu7 hl8 ?_
              intro M8 t8 lv9 be8 ba8 hM8 hno8 hu8 hl9
              simp only [List.cons_append, List.nil_append, noneL, noneL_wL] at hno8
              simp +contextual only [go_sem, Rcb, Rbk, sevalprocAttr]
              exact hS2 _ _ _ ⟨rfl, ⟨by simp only [hlv, go_sem, Rcb, Rbk, sevalprocAttr], by simp only [hlv, go_sem, Rcb, Rbk, sevalprocAttr], by simp only [hlv, go_sem, Rcb, Rbk, sevalprocAttr], by simp only [e5, go_sem, Rcb, Rbk, sevalprocAttr]⟩, M8, lv9, t8, be8, ba8, hM8, hno8.1, hno8.2.1, hno8.2.2, hl9, hu8, rfl⟩
          clear hlv ht e5 hu6
          rintro e ds h ⟨rfl, ⟨e0, e2, e3, e5⟩, M8, lv9, t8, be8, ba8, hM8, r3, r2, rp, hl9, hu8, rfl⟩
          simp +contextual only [go_sem, Rcb, Rbk, sevalprocAttr, seC, xz, e0, e2, e3, e5, r3, r2, rp, hap2, hap3]
          refine part_w [(b3, _), (b2, _)] (ct_w_room (n := ((srcs.length : Nat) : Int)) (m := 4) hl9 N) ?_
          rintro v M9 _ t9 lva be9 ba9 hM9 hno9 hr9 hla rfl
          have hu9 := hu8.bind hr9
          simp only [List.cons_append, List.nil_append, noneL, noneL_wL] at hno9
          simp +contextual only [go_sem, Rcb, Rbk, sevalprocAttr, e0, e2, e3, e5, hno9, hap2, hap3]
          refine draw_at ⟨T, fun _ => none, [(b3, _)], []⟩ (Sub_hd hno9.1) ?_
          simp +contextual only [go_sem, Rcb, Rbk, sevalprocAttr, e0, e2, e3, e5, hno9, hap2, hap3]
          refine part_w [(b3, _), (b2, _)] (ct_w_source hex (by omega) hla N) ?_
          rintro v MA sA tA lvA beA baA hMA hnoA hrA hlA ⟨cs, rfl, hsA⟩
          have huA := hu9.bind hrA
          obtain ⟨c1, c2, c3, c4, c5, c6, c7, rfl⟩ := RSo_form hsA
          simp only [List.cons_append, List.nil_append, noneL, noneL_wL] at hnoA
          simp +contextual only [go_sem, Rcb, Rbk, sevalprocAttr, hnoA, hap2, hap3, e0, e2, e3, e5]
          refine ⟨Sub_hd hnoA.1, ?_⟩
          intro b8 hb8 hap8
          refine ⟨Sub_hd2 hnoA.1 (fun h => hap8.1.2 h), ?_⟩
          have h7A := (hM8.trans hM9).trans hMA
          refine app_from (FromOk_ext (hM7.trans h7A) hfrom) hsA hb8 (by omega) ?_
          intro fa' fc' RA hfromA
          simp +contextual only [go_sem, Rcb, Rbk, sevalprocAttr, hnoA, hap2, hap3, hap8, hb8, e0, e2, e3, e5]
          refine lp_close (Close_drop (Close_id ⟨if beA = 0 then 6 - (srcs.length + 1) else 0, ?_, rfl, ⟨?_, ?_, ?_⟩, MA, lvA, tA, beA, baA, _, RA, srcs ++ [sA], _, hnoA.1, hnoA.2.1, hnoA.2.2, hlA, RS_ext (hM7.trans h7A) (RIt_ext (hM7.trans h7A)) hits, hfromA, ?_, huA, fun hA => ⟨?_, rfl⟩, ?_, rfl⟩))
          · rw [if_pos h0]; split <;> omega
          · simp only [e0, go_sem, Rcb, Rbk, sevalprocAttr]
          · simp only [e2, go_sem, Rcb, Rbk, sevalprocAttr]
          · simp only [e3, go_sem, Rcb, Rbk, sevalprocAttr]
          · rw [List.length_append]; simp; omega
          · have hne := hr9.room (hrA.good hA)
            rw [List.length_append]; simp; omega
          · rw [List.length_append]; rfl
    · simp +contextual only [go_sem, Rcb, Rbk, sevalprocAttr, e0, e2, e3, h0]
      exact hS' _ _ _ ⟨rfl, ⟨by simp only [e0, go_sem, Rcb, Rbk, sevalprocAttr], by simp only [e2, go_sem, Rcb, Rbk, sevalprocAttr], by simp only [e3, go_sem, Rcb, Rbk, sevalprocAttr]⟩, N, M6, lv7, t, be5, ba5, _, _, R', srcs, hN, q3, q2, qp, hl7, hits, hfrom, hsl, hu5.congr fun h => (h0 h).elim, rfl⟩
  clear hu4 hacc hs0
  rintro e ds h ⟨rfl, ⟨e0, e2, e3⟩, N5, M5, lv7, t, be5, ba5, iv, sv, R5, srcs, hN5, q3, q2, qp, hl7, hits, hfrom, hsl, hu5, rfl⟩
  simp +contextual only [go_sem, Rcb, Rbk, sevalprocAttr, seC, xz, e0, e2, e3]
  refine rCall_close (k := fun h' => ∃ M6, Ext M5 M6 ∧ noneL M6 ((b3, seC d sb iv sv false false xz xz (.slice none 0 0)) :: (b2, seC false false (.slice none 0 0) (.slice none 0 0) false false xz xz (.slice none 0 0)) :: wL pb lv7 en op be5 ba5) ∧ RS M6 (RSo M6) 10 srcs sv ∧
    h' = ⟨N5, M6, (b3, seC d sb iv sv false false xz xz (.slice none 0 0)) :: (b2, seC false false (.slice none 0 0) (.slice none 0 0) false false xz xz (.slice none 0 0)) :: wL pb lv7 en op be5 ba5, []⟩)
    (Close_from hfrom (by omega) (fun M' he hno hrs => Close_id ⟨M', he, hno, hrs, rfl⟩) ⟨q3, q2, by simpa only [noneL_wL] using qp⟩) ?_ bod70
  rintro h' ⟨M6, hM6, hno6, hsrc, rfl⟩
  simp only [List.cons_append, List.nil_append, noneL, noneL_wL] at hno6
  have hit6 := RS_ext hM6 (RIt_ext hM6) hits
  obtain ⟨p1, p2⟩ := RS_one hit6
  have p3 := p2
  obtain ⟨r1, r2⟩ := RS_one hsrc
  have r3 := r2
  simp only [Value.cells] at p3 r3
  refine may_w1 [(b3, _), (b2, _)] wWhere (RS_ext hM6 (fun _ _ h => h) hl7) fun w t6 lv8 hw ht6 hl8 => ?_
  have hu6 : Up ((if w = true then ex t6 else .ok zeroX t6).bind fun wh t' => selK3 en ex d sb items srcs w wh t') be5 ba5 (selM en ex toks) be ba := hu5.congr fun h0 => by
    have e1 := hw h0
    subst e1
    unfold selK2 optX
    cases hs : seesM wWhere t with
    | true => rw [ht6 h0, hs]; rfl
    | false => rw [ht6 h0, hs]; rfl
  clear hw ht6 hu5
  simp +contextual only [go_sem, sevalprocAttr, e0, e2, e3]
  refine cond_cut (fun e ds h => ds = [] ∧ (e 0 = .pointer (some ⟨pb, 0, none⟩) ∧ e 2 = .pointer (some ⟨b2, 0, none⟩) ∧ e 3 = .pointer (some ⟨b3, 0, none⟩)) ∧ ∃ M' lv' t be' ba' wh s, Ext M6 M' ∧ M' b3 = none ∧ M' b2 = none ∧ M' pb = none ∧ RS M' RTw 3 t lv' ∧
      RX M' wh [.int .i64 wh.k, .int .i64 wh.v.k, .int .i64 wh.v.n, st wh.v.t, st wh.tab, st wh.name, s] ∧ s.oneCell' = true ∧ Up (selK3 en ex d sb items srcs w wh t) be' ba' (selM en ex toks) be ba ∧
      h = ⟨N5, M', (b3, seC d sb iv sv w false [.int .i64 wh.k, .int .i64 wh.v.k, .int .i64 wh.v.n, st wh.v.t, st wh.tab, st wh.name, s] xz (.slice none 0 0)) :: (b2, seC false false (.slice none 0 0) (.slice none 0 0) false false xz xz (.slice none 0 0)) :: wL pb lv' en op be' ba', []⟩) (fun S' hS' => ?_) ?_
  · cases w with
    | true =>
      simp +contextual only [go_sem, Rcb, Rbk, sevalprocAttr, seC, xz, e0, e2, e3, hno6, hap2, hap3]
      refine part_w [(b3, _), (b2, _)] (hex M6 _ lv8 _ _ N5 hl8) ?_
      rintro v M7 x t7 lv9 be7 ba7 hM7 hno7 hr7 hl9 ⟨cs, rfl, hx⟩
      obtain ⟨s, rfl, h1, _⟩ := RX_form hx
      simp only [List.cons_append, List.nil_append, noneL, noneL_wL] at hno7
      simp +contextual only [go_sem, Rcb, Rbk, sevalprocAttr, e0, e2, e3, hno7, hap2, hap3, h1]
      exact hS' _ _ _ ⟨rfl, ⟨by simp only [e0, go_sem, Rcb, Rbk, sevalprocAttr], by simp only [e2, go_sem, Rcb, Rbk, sevalprocAttr], by simp only [e3, go_sem, Rcb, Rbk, sevalprocAttr]⟩, M7, lv9, t7, be7, ba7, x, s, hM7, hno7.1, hno7.2.1, hno7.2.2, hl9, hx, h1, hu6.bind hr7, rfl⟩
    | false =>
      simp +contextual only [go_sem, Rcb, Rbk, sevalprocAttr, seC, xz, e0, e2, e3, hno6, hap2, hap3]
      exact hS' _ _ _ ⟨rfl, ⟨by simp only [e0, go_sem, Rcb, Rbk, sevalprocAttr], by simp only [e2, go_sem, Rcb, Rbk, sevalprocAttr], by simp only [e3, go_sem, Rcb, Rbk, sevalprocAttr]⟩, M6, lv8, t6, be5, ba5, zeroX, .slice none 0 0, Ext.rfl', hno6.1, hno6.2.1, hno6.2.2, hl8, RX_zero, rfl, hu6, rfl⟩
  clear e0 e2 e3 hu6 hl8
  rintro e ds h ⟨rfl, ⟨e0, e2, e3⟩, M7, lv9, t7, be7, ba7, wh, ws, hM7, u3, u2, up, hl9, hwx, hw1, hu7, rfl⟩
  simp +contextual only [go_sem, Rcb, Rbk, sevalprocAttr, seC, xz, e0, e2, e3]
  refine may_w1 [(b3, _), (b2, _)] wGroup hl9 fun gb t8 lva hgb ht8 hla => ?_
  have hu8 : Up ((if gb = true then (needM en [wBy] t8).bind fun _ t => someM en ex 8 t else .ok [] t8).bind fun group t => selK4 ex d sb items srcs w wh group t) be7 ba7 (selM en ex toks) be ba := hu7.congr fun h0 => by
    have e1 := hgb h0
    subst e1
    unfold selK3 optG
    cases hs : seesM wGroup t7 with
    | true => rw [ht8 h0, hs]; rfl
    | false => rw [ht8 h0, hs]; rfl
  clear hgb ht8 hu7
  simp +contextual only [go_sem, sevalprocAttr, e0, e2, e3]
  refine cond_cut (fun e ds h => ds = [] ∧ (e 0 = .pointer (some ⟨pb, 0, none⟩) ∧ e 2 = .pointer (some ⟨b2, 0, none⟩) ∧ e 3 = .pointer (some ⟨b3, 0, none⟩)) ∧ ∃ M' lv' t be' ba' group gv, Ext M7 M' ∧ M' b3 = none ∧ M' b2 = none ∧ M' pb = none ∧ RS M' RTw 3 t lv' ∧
      RS M' (RX M') 7 group gv ∧ Up (selK4 ex d sb items srcs w wh group t) be' ba' (selM en ex toks) be ba ∧
      h = ⟨N5, M', (b3, seC d sb iv sv w false [.int .i64 wh.k, .int .i64 wh.v.k, .int .i64 wh.v.n, st wh.v.t, st wh.tab, st wh.name, ws] xz gv) :: (b2, seC false false (.slice none 0 0) (.slice none 0 0) false false xz xz (.slice none 0 0)) :: wL pb lv' en op be' ba', []⟩) (fun S' hS' => ?_) ?_
  · cases gb with
    | true =>
      simp +contextual only [go_sem, Rcb, Rbk, sevalprocAttr, seC, xz, e0, e2, e3, u3, u2, up, hap2, hap3]
      intro b8 hb8 hap8
      have hu9 : Up ((needM en [wBy] t8).bind fun _ t => (someM en ex 8 t).bind fun group t => selK4 ex d sb items srcs w wh group t) be7 ba7 (selM en ex toks) be ba := hu8.congr fun _ => by rw [if_pos rfl, Rs.bind_assoc]
      refine must_w [(b3, _), (b2, _)] hu9 hla ?_
      intro M8 t9 lvb be9 ba9 hM8 hno8 huA hlb
      simp +contextual only [go_sem, Rcb, Rbk, sevalprocAttr, e0, e2, e3]
      refine part_w [(b3, _), (b2, _)] (ct_w_exprs hex hlb N5) ?_
      intro v M9 group tA lvc beA baA hM9 hno9 hrA hlc hgv
      obtain ⟨g1, g2⟩ := RS_one hgv
      have g3 := g2
      simp only [Value.cells] at g3
      simp only [List.cons_append, List.nil_append, noneL, noneL_wL] at hno9
      simp +contextual only [go_sem, Rcb, Rbk, sevalprocAttr, e0, e2, e3, hno9, hap2, hap3, g1, g2, g3]
      exact hS' _ _ _ ⟨rfl, ⟨by simp only [e0, go_sem, Rcb, Rbk, sevalprocAttr], by simp only [e2, go_sem, Rcb, Rbk, sevalprocAttr], by simp only [e3, go_sem, Rcb, Rbk, sevalprocAttr]⟩, M9, lvc, tA, beA, baA, group, v, hM8.trans hM9, hno9.1, hno9.2.1, hno9.2.2, hlc, hgv, huA.bind hrA, rfl⟩
    | false =>
      simp +contextual only [go_sem, Rcb, Rbk, sevalprocAttr, seC, xz, e0, e2, e3]
      exact hS' _ _ _ ⟨rfl, ⟨by simp only [e0, go_sem, Rcb, Rbk, sevalprocAttr], by simp only [e2, go_sem, Rcb, Rbk, sevalprocAttr], by simp only [e3, go_sem, Rcb, Rbk, sevalprocAttr]⟩, M7, lva, t8, be7, ba7, [], .slice none 0 0, Ext.rfl', u3, u2, up, hla, RS_nil, hu8, rfl⟩
  clear e0 e2 e3 hu8 hla
  rintro e ds h ⟨rfl, ⟨e0, e2, e3⟩, M8, lva, t8, be8, ba8, group, gv, hM8, x3, x2, xp, hla, hgv, hu8, rfl⟩
  obtain ⟨g1, g2⟩ := RS_one hgv
  have g3 := g2
  simp only [Value.cells] at g3
  have hT' := (hT.trans hN5)
  simp +contextual only [go_sem, Rcb, Rbk, sevalprocAttr, seC, xz, e0, e2, e3]
  refine may_w1 [(b3, _), (b2, _)] wHaving hla fun hb t9 lvb hhb ht9 hlb => ?_
  have hu9 : Up ((if hb = true then ex t9 else .ok zeroX t9).bind fun hv t' => .ok (⟨d, sb, items, srcs, w, hb, wh, hv, group⟩ : Se) t') be8 ba8 (selM en ex toks) be ba := hu8.congr fun h0 => by
    have e1 := hhb h0
    subst e1
    unfold selK4 optX
    cases hs : seesM wHaving t8 with
    | true => rw [ht9 h0, hs]; rfl
    | false => rw [ht9 h0, hs]; rfl
  cases hb with
  | true =>
    simp +contextual only [go_sem, Rcb, Rbk, sevalprocAttr, seC, xz, e0, e2, e3, x3, x2, xp, hap2, hap3]
    refine part_w [(b3, _), (b2, _)] (hex M8 _ lvb _ _ N5 hlb) ?_
    rintro v M9 x tA lvc beA baA hM9 hno9 hrA hlc ⟨cs, rfl, hx⟩
    obtain ⟨s, rfl, h1, _⟩ := RX_form hx
    have huA := hu9.bind hrA
    simp only [List.cons_append, List.nil_append, noneL, noneL_wL] at hno9
    simp +contextual only [go_sem, Rcb, Rbk, sevalprocAttr, e0, e2, e3, hno9, hap2, hap3, h1, g1, g2, g3, hw1, p1, p2, p3, r1, r2, r3]
    have h69 := (hM7.trans hM8).trans hM9
    exact fin_wr (enc := encSe) [(b3, _), (b2, _)] hT' huA hlc ⟨_, rfl, iv, sv, _, _, gv, RS_ext h69 (RIt_ext h69) hit6, RS_ext h69 (RSo_ext h69) hsrc, RX_ext (hM8.trans hM9) _ _ hwx, hx, RS_ext hM9 (RX_ext hM9) hgv, rfl⟩
  | false =>
    simp +contextual only [go_sem, Rcb, Rbk, sevalprocAttr, seC, xz, e0, e2, e3, x3, x2, xp, hap2, hap3, g1, g2, g3, hw1, p1, p2, p3, r1, r2, r3]
    have h68 := hM7.trans hM8
    exact fin_wr (enc := encSe) [(b3, _), (b2, _)] hT' hu9 hlb ⟨_, rfl, iv, sv, _, _, gv, RS_ext h68 (RIt_ext h68) hit6, RS_ext h68 (RSo_ext h68) hsrc, RX_ext hM8 _ _ hwx, RX_zero, hgv, rfl⟩
end Go.Proofs.YtoainkbcfnlkcaaGreatDoor

namespace Go.Proofs.YtoainkbcfnlkcaaGreatDoor
open Go Vc
set_option linter.unusedSimpArgs false
set_option linter.unusedVariables false
set_option maxRecDepth 10000
set_option maxHeartbeats 2000000

def queryC (en : Int) (ex : List Tk → Rs X) (parts : List Se) (ops : List Int) (t : List Tk) : Rs Q := (setM t).bind fun k t => (setsB en ex (4 - parts.length) k t).bind fun l t => queryK en ex (parts ++ l.2) (ops ++ l.1) t
def queryD (en : Int) (ex : List Tk → Rs X) (parts : List Se) (ops : List Int) (k : Int) (t : List Tk) : Rs Q :=
  (if ((parts.length : Nat) : Int) = 4 then .err 5 (atM en t) else .ok () t : Rs Unit).bind fun _ t => (selM en ex t).bind fun s t => queryC en ex (parts ++ [s]) (ops ++ [k]) t
theorem queryC_go {en : Int} {ex : List Tk → Rs X} {parts : List Se} {ops : List Int} (h : parts.length ≤ 4) {k : Int} (hk : 0 < k) (t : List Tk) :
    ((setsB en ex (4 - parts.length) k t).bind fun l t => queryK en ex (parts ++ l.2) (ops ++ l.1) t) = queryD en ex parts ops k t := by
  unfold queryD
  by_cases he : parts.length = 4
  · rw [if_pos (by rw [he]; rfl), he]
    unfold setsB
    rw [if_pos hk]; rfl
  · rw [if_neg (by omega)]
    obtain ⟨r, hr⟩ : ∃ r, 4 - parts.length = r + 1 := ⟨4 - parts.length - 1, by omega⟩
    rw [hr]
    unfold setsB
    rw [if_pos hk]
    simp only [Rs.bind_assoc]
    show (selM en ex t).bind _ = (selM en ex t).bind _
    congr 1
    funext s t
    unfold queryC
    congr 1
    funext k' t
    rw [show 4 - (parts ++ [s]).length = r by rw [List.length_append]; simp; omega]
    congr 1
    funext l t
    show queryK en ex (parts ++ (s :: l.2)) (ops ++ (k :: l.1)) t = _
    rw [List.append_assoc, List.append_assoc]; rfl
theorem queryC_some {en : Int} {ex : List Tk → Rs X} {parts : List Se} {ops : List Int} (h : parts.length ≤ 4) {t : List Tk} {i : Nat} (hi : idxSign setW t = some i) :
    queryC en ex parts ops t = if seesM wAll t.tail = true then queryD en ex parts ops (2 * (i : Int) + 1) t.tail.tail else queryD en ex parts ops (2 * (i : Int) + 2) t.tail := by
  unfold queryC setM
  rw [hi]
  simp only
  split
  · rw [← queryC_go h (by omega)]; rfl
  · rw [← queryC_go h (by omega)]; rfl
theorem queryC_none {en : Int} {ex : List Tk → Rs X} {parts : List Se} {ops : List Int} {t : List Tk} (hi : idxSign setW t = none) : queryC en ex parts ops t = queryK en ex parts ops t := by
  unfold queryC setM
  rw [hi]
  show ((setsB en ex (4 - parts.length) 0 t).bind _) = _
  unfold setsB
  rw [if_neg (by decide)]
  show queryK en ex (parts ++ []) (ops ++ []) t = _
  rw [List.append_nil, List.append_nil]
theorem set_cases (be : Int) (t : List Tk) : (∃ t0 r, t = t0 :: r ∧ be = 0 ∧ idxSign setW t = some 0 ∧ comesM wUnion be t = true ∧ comesM wExcept be t = false) ∨ (∃ t0 r, t = t0 :: r ∧ be = 0 ∧ idxSign setW t = some 1 ∧ comesM wUnion be t = false ∧ comesM wExcept be t = true) ∨
    ((be = 0 → idxSign setW t = none) ∧ comesM wUnion be t = false ∧ comesM wExcept be t = false) := by
  have hne : wUnion ≠ wExcept := by decide
  by_cases h0 : be = 0
  · subst h0
    cases h1 : seesM wUnion t with
    | true =>
      have h2 := sees_one h1 hne
      cases t with
      | nil => cases h1
      | cons t0 r => exact .inl ⟨t0, r, rfl, rfl, by simp [setW, idxSign, h1], by simp [comesM, h1], by simp [comesM, h2]⟩
    | false =>
      cases h2 : seesM wExcept t with
      | true =>
        cases t with
        | nil => cases h2
        | cons t0 r => exact .inr (.inl ⟨t0, r, rfl, rfl, by simp [setW, idxSign, h1, h2], by simp [comesM, h1], by simp [comesM, h2]⟩)
      | false => exact .inr (.inr ⟨fun _ => by simp [setW, idxSign, h1, h2], by simp [comesM, h1], by simp [comesM, h2]⟩)
  · exact .inr (.inr ⟨fun h => (h0 h).elim, by simp [comesM, h0], by simp [comesM, h0]⟩)
abbrev qcells (pv ov rv : Value) (n : Int) : List Value := [pv, ov, rv, .int .i64 n]
theorem ct_w_query {en : Int} {pb : Nat} {op : Int} {ex : List Tk → Rs X} (hex : LvD 75 en pb op ex) {M : Mem} {toks : List Tk} {lv : Value} {be ba : Int} (hl : RS M RTw 3 toks lv) (T : Tm) :
    CtT Tryz.prog 72 [.pointer (some ⟨pb, 0, none⟩)] T M (wL pb lv en op be ba) [] (postW pb en op encQ (queryM en ex toks) be ba) noPan := by
  refine ct_run mx bod72 Tryz.func72 rfl (by rw [nt72]; exact Nat.le_of_ble_eq_true rfl) (dr := dr72) (by kernel_rfl) rs72 ?_
  intro hno _
  simp only [noneL_wL] at hno
  have hu : Up ((selM en ex toks).bind fun s t => queryC en ex [s] [] t) be ba (queryM en ex toks) be ba := Up.rfl'
  simp +contextual only [go_sem, Rcb, Rbk, sevalprocAttr]
  intro b2 T2 hb2 hap2 hT2 hTb2
  refine part_w [(b2, _)] (ct_w_selected hex hl T2) ?_
  rintro v M1 s0 t1 lv1 be1 ba1 hM1 hno1 hr1 hl1 ⟨cs, rfl, hs0⟩
  have hu1 := hu.bind hr1
  have hcl := RSe_len hs0
  simp only [List.cons_append, List.nil_append, noneL, noneL_wL] at hno1
  simp +contextual only [go_sem, sevalprocAttr, hno1, hap2, hcl]
  intro b7 hb7 hap7 b3 T3 hb3 hap3 hT3 hTb3
  have hT := hT2.trans hT3
  refine run_cut (fun e ds h => ds = [] ∧ (e 0 = .pointer (some ⟨pb, 0, none⟩) ∧ e 2 = .pointer (some ⟨b2, 0, none⟩) ∧ e 3 = .pointer (some ⟨b3, 0, none⟩)) ∧ ∃ N M' lv' t be' ba' parts ops pv ov R, ExtT T3 N ∧ M' b3 = none ∧ M' b2 = none ∧ M' pb = none ∧ RS M' RTw 3 t lv' ∧
      PrOk M' R ov pv parts ops ∧ parts.length ≤ 5 ∧ ops.length ≤ 4 ∧ Up (queryK en ex parts ops t) be' ba' (queryM en ex toks) be ba ∧
      h = ⟨N, M', (b3, qcells pv ov (.slice none 0 0) (-1)) :: (b2, qcells (.slice none 0 0) (.slice none 0 0) (.slice none 0 0) 0) :: wL pb lv' en op be' ba', R⟩) (fun S' hS' => ?_) ?_
  · simp +contextual only [go_sem, Rcb, Rbk, sevalprocAttr]
    refine ⟨fun m e ds h => ds = [] ∧ (e 0 = .pointer (some ⟨pb, 0, none⟩) ∧ e 2 = .pointer (some ⟨b2, 0, none⟩) ∧ e 3 = .pointer (some ⟨b3, 0, none⟩)) ∧ ∃ N M' lv' t be' ba' parts ops pv ov R C, ExtT T3 N ∧ M' b3 = none ∧ M' b2 = none ∧ M' pb = none ∧ RS M' RTw 3 t lv' ∧
        PrOk M' R ov pv parts ops ∧ parts.length ≤ 5 ∧ ops.length + 1 = parts.length ∧ Up C be' ba' (queryM en ex toks) be ba ∧ (be' = 0 → parts.length ≤ 4 ∧ C = queryC en ex parts ops t) ∧ m = (if be' = 0 then 6 - parts.length else 0) ∧
        h = ⟨N, M', (b3, qcells pv ov (.slice none 0 0) (-1)) :: (b2, qcells (.slice none 0 0) (.slice none 0 0) (.slice none 0 0) 0) :: wL pb lv' en op be' ba', R⟩, ?_, ?_⟩
    · refine Close_perm (List.Perm.swap _ _ _) (Close_freeze fun he hb hno5 => ?_)
      simp only [List.cons_append, List.nil_append, noneL, noneL_wL] at hno5
      exact Close_id ⟨_, rfl, ⟨by simp only [go_sem, Rcb, Rbk, sevalprocAttr], by simp only [go_sem, Rcb, Rbk, sevalprocAttr], by simp only [go_sem, Rcb, Rbk, sevalprocAttr]⟩, T3, _, lv1, t1, be1, ba1, [s0], [], _, _, [], _, ExtT.rfl', hno5.1, hno5.2.1, hno5.2.2, RS_ext he (fun _ _ h => h) hl1,
        .inl ⟨b7, cs, rfl, rfl, rfl, rfl, rfl, hb, RL_one (RSe_ext he _ _ hs0)⟩, by simp, rfl, hu1, fun _ => ⟨by simp, rfl⟩, rfl, rfl⟩
    rintro m e ds h ⟨rfl, ⟨e0, e2, e3⟩, N, M2, lv2, t, be2, ba2, parts, ops, pv, ov, R, C, hN, n3, n2, np, hl2, hpr, hpl, hpo, hu2, hC, rfl, rfl⟩
    obtain ⟨⟨oa, oc, rfl⟩, pa, pc, rfl⟩ := PrOk_form hpr
    simp +contextual only [go_sem, Rcb, Rbk, sevalprocAttr, e0, e2, e3]
    refine comes_w [(b3, _), (b2, _)] wUnion hl2 ?_
    rcases set_cases be2 t with ⟨t0, r, rfl, rfl, hix, hc1, hc2⟩ | ⟨t0, r, rfl, rfl, hix, hc1, hc2⟩ | ⟨hix, hc1, hc2⟩
    · obtain ⟨hp4, rfl⟩ := hC rfl
      have hu3 : Up (if seesM wAll r = true then queryD en ex parts ops 1 r.tail else queryD en ex parts ops 2 r) 0 ba2 (queryM en ex toks) be ba := hu2.congr fun _ => queryC_some hp4 hix
      simp +contextual only [go_sem, Rcb, Rbk, sevalprocAttr, e0, e2, e3, hc1]
      refine comes_w [(b3, _), (b2, _)] wExcept hl2 ?_
      rcases tokw_cases hl2 with ⟨h, _⟩ | ⟨t0', r', b, o, c, heq, rfl, hc, hkk, hn, y0, y1, y2⟩
      · cases h
      injection heq with he1 he2
      subst he1 he2
      have hcc : (1 : Int) ≤ ((r.length + 1 : Nat) : Int) ∧ r.length + 1 ≤ c := ⟨by omega, hc⟩
      have hl3 : RS M2 RTw 3 r (.slice (cutA (some ⟨b, o, none⟩) c 1 3) (r.length + 1 - 1) (c - 1)) := by
        have := RS_cut (k := 1) (by decide) (fun _ _ => RTw_len) hl2 (by simp)
        simpa using this
      simp +contextual only [go_sem, Rcb, Rbk, sevalprocAttr, e0, e2, e3, hc2, n3, n2, np, hcc, hap2, hap3]
      refine may_w1 [(b3, _), (b2, _)] wAll hl3 fun ab t4 lv4 hab ht4 hl4 => ?_
      have hu4 : Up (queryD en ex parts ops (if ab = true then 1 else 2) t4) 0 ba2 (queryM en ex toks) be ba := hu3.congr fun h0 => by
        have e1 := hab h0
        subst e1
        cases hs : seesM wAll r with
        | true => rw [ht4 h0, hs]; rfl
        | false => rw [ht4 h0, hs]; rfl
      simp +contextual only [go_sem, sevalprocAttr, e0, e2, e3]
      refine cond_cut (fun e ds h => ds = [] ∧ (e 0 = .pointer (some ⟨pb, 0, none⟩) ∧ e 2 = .pointer (some ⟨b2, 0, none⟩) ∧ e 3 = .pointer (some ⟨b3, 0, none⟩)) ∧ ∃ k, e 4 = .int .i64 k ∧ Up (queryD en ex parts ops k t4) 0 ba2 (queryM en ex toks) be ba ∧
          h = ⟨N, M2, (b3, qcells (.slice pa parts.length pc) (.slice oa ops.length oc) (.slice none 0 0) (-1)) :: (b2, qcells (.slice none 0 0) (.slice none 0 0) (.slice none 0 0) 0) :: wL pb lv4 en op 0 ba2, R⟩) (fun S2 hS2 => ?_) ?_
      · cases ab with
        | true =>
          simp +contextual only [go_sem, Rcb, Rbk, sevalprocAttr, e0, e2, e3]
          exact hS2 _ _ _ ⟨rfl, ⟨by simp only [e0, go_sem, Rcb, Rbk, sevalprocAttr], by simp only [e2, go_sem, Rcb, Rbk, sevalprocAttr], by simp only [e3, go_sem, Rcb, Rbk, sevalprocAttr]⟩, _, by simp only [go_sem, Rcb, Rbk, sevalprocAttr], hu4, rfl⟩
        | false =>
          simp +contextual only [go_sem, Rcb, Rbk, sevalprocAttr, e0, e2, e3]
          exact hS2 _ _ _ ⟨rfl, ⟨by simp only [e0, go_sem, Rcb, Rbk, sevalprocAttr], by simp only [e2, go_sem, Rcb, Rbk, sevalprocAttr], by simp only [e3, go_sem, Rcb, Rbk, sevalprocAttr]⟩, _, by simp only [go_sem, Rcb, Rbk, sevalprocAttr]; rfl, hu4, rfl⟩
      clear e0 e2 e3 hu4 hu3
      rintro e ds h ⟨rfl, ⟨e0, e2, e3⟩, k, e4, hu4, rfl⟩
      simp +contextual only [go_sem, Rcb, Rbk, sevalprocAttr, e0, e2, e3, e4, n3, n2, np, hap2, hap3]
      refine part_w [(b3, _), (b2, _)] (ct_w_room (n := ((parts.length : Nat) : Int)) (m := 4) hl4 N) ?_
      rintro v M5 _ t5 lv5 be5 ba5 hM5 hno5 hr5 hl5 rfl
      have hu5 := hu4.bind hr5
      simp only [List.cons_append, List.nil_append, noneL, noneL_wL] at hno5
      simp +contextual only [go_sem, Rcb, Rbk, sevalprocAttr, e0, e2, e3, e4, hno5, hap2, hap3]
      intro b8 hb8 hap8
      refine app_ops (PrOk_ext hM5 hpr) hb8 (by omega) ?_
      intro oa' oc' R1 hmid
      simp +contextual only [go_sem, Rcb, Rbk, sevalprocAttr, e0, e2, e3, e4, hno5, hap2, hap3, hap8]
      refine draw_at ⟨T, fun _ => none, [(b3, _)], []⟩ (Sub_own [(b8, _)] hno5.1 ⟨⟨hap8.1.2, hap8.1.1⟩, trivial⟩) ?_
      simp +contextual only [go_sem, Rcb, Rbk, sevalprocAttr, e0, e2, e3, e4, hno5, hap2, hap3, hap8]
      refine part_w [(b8, _), (b3, _), (b2, _)] (ct_w_selected hex hl5 N) ?_
      rintro v M6 s1 t6 lv6 be6 ba6 hM6 hno6 hr6 hl6 ⟨cs1, rfl, hs1⟩
      have hu6 := hu5.bind hr6
      have hcl1 := RSe_len hs1
      simp only [List.cons_append, List.nil_append, noneL, noneL_wL] at hno6
      simp +contextual only [go_sem, Rcb, Rbk, sevalprocAttr, hno6, hap2, hap3, hap8, hcl1, e0, e2, e3]
      refine ⟨Sub_own [(b8, _)] hno6.2.1 ⟨⟨hap8.1.2, hap8.1.1⟩, trivial⟩, ?_⟩
      intro b9 hb9 hap9
      refine ⟨Sub_own [(b9, _), (b8, _)] hno6.2.1 ⟨⟨hap9.2.1.2, hap9.2.1.1⟩, ⟨hap8.1.2, hap8.1.1⟩, trivial⟩, ?_⟩
      refine app_parts (PrMid_ext hM6 hmid) hs1 hb9 (by omega) ?_
      intro pa' pc' R2 hpr2
      simp +contextual only [go_sem, Rcb, Rbk, sevalprocAttr, hno6, hap2, hap3, hap8, hap9, hb9, e0, e2, e3]
      refine lp_close (Close_drop (Close_drop (Close_id ⟨if be6 = 0 then 6 - (parts.length + 1) else 0, ?_, rfl, ⟨?_, ?_, ?_⟩, N, M6, lv6, t6, be6, ba6, parts ++ [s1], ops ++ [k], _, _, R2, _, hN, hno6.2.1, hno6.2.2.1, hno6.2.2.2, hl6, hpr2, ?_, ?_, hu6, fun h6 => ⟨?_, rfl⟩, ?_, rfl⟩)))
      · split <;> omega
      · simp only [e0, go_sem, Rcb, Rbk, sevalprocAttr]
      · simp only [e2, go_sem, Rcb, Rbk, sevalprocAttr]
      · simp only [e3, go_sem, Rcb, Rbk, sevalprocAttr]
      · rw [List.length_append]; simp; omega
      · rw [List.length_append, List.length_append]; simp; omega
      · have hne := hr5.room (hr6.good h6)
        rw [List.length_append]; simp; omega
      · rw [List.length_append]; rfl
    · obtain ⟨hp4, rfl⟩ := hC rfl
      have hu3 : Up (if seesM wAll r = true then queryD en ex parts ops 3 r.tail else queryD en ex parts ops 4 r) 0 ba2 (queryM en ex toks) be ba := hu2.congr fun _ => queryC_some hp4 hix
      simp +contextual only [go_sem, Rcb, Rbk, sevalprocAttr, e0, e2, e3, hc1]
      refine comes_w [(b3, _), (b2, _)] wExcept hl2 ?_
      rcases tokw_cases hl2 with ⟨h, _⟩ | ⟨t0', r', b, o, c, heq, rfl, hc, hkk, hn, y0, y1, y2⟩
      · cases h
      injection heq with he1 he2
      subst he1 he2
      have hcc : (1 : Int) ≤ ((r.length + 1 : Nat) : Int) ∧ r.length + 1 ≤ c := ⟨by omega, hc⟩
      have hl3 : RS M2 RTw 3 r (.slice (cutA (some ⟨b, o, none⟩) c 1 3) (r.length + 1 - 1) (c - 1)) := by
        have := RS_cut (k := 1) (by decide) (fun _ _ => RTw_len) hl2 (by simp)
        simpa using this
      simp +contextual only [go_sem, Rcb, Rbk, sevalprocAttr, e0, e2, e3, hc2, n3, n2, np, hcc, hap2, hap3]
      refine comes_w [(b3, _), (b2, _)] wExcept hl2 ?_
      simp +contextual only [go_sem, Rcb, Rbk, sevalprocAttr, e0, e2, e3, hc2, n3, n2, np, hcc, hap2, hap3]
      refine may_w1 [(b3, _), (b2, _)] wAll hl3 fun ab t4 lv4 hab ht4 hl4 => ?_
      have hu4 : Up (queryD en ex parts ops (if ab = true then 3 else 4) t4) 0 ba2 (queryM en ex toks) be ba := hu3.congr fun h0 => by
        have e1 := hab h0
        subst e1
        cases hs : seesM wAll r with
        | true => rw [ht4 h0, hs]; rfl
        | false => rw [ht4 h0, hs]; rfl
      simp +contextual only [go_sem, sevalprocAttr, e0, e2, e3]
      refine cond_cut (fun e ds h => ds = [] ∧ (e 0 = .pointer (some ⟨pb, 0, none⟩) ∧ e 2 = .pointer (some ⟨b2, 0, none⟩) ∧ e 3 = .pointer (some ⟨b3, 0, none⟩)) ∧ ∃ k, e 4 = .int .i64 k ∧ Up (queryD en ex parts ops k t4) 0 ba2 (queryM en ex toks) be ba ∧
          h = ⟨N, M2, (b3, qcells (.slice pa parts.length pc) (.slice oa ops.length oc) (.slice none 0 0) (-1)) :: (b2, qcells (.slice none 0 0) (.slice none 0 0) (.slice none 0 0) 0) :: wL pb lv4 en op 0 ba2, R⟩) (fun S2 hS2 => ?_) ?_
      · cases ab with
        | true =>
          simp +contextual only [go_sem, Rcb, Rbk, sevalprocAttr, e0, e2, e3]
          exact hS2 _ _ _ ⟨rfl, ⟨by simp only [e0, go_sem, Rcb, Rbk, sevalprocAttr], by simp only [e2, go_sem, Rcb, Rbk, sevalprocAttr], by simp only [e3, go_sem, Rcb, Rbk, sevalprocAttr]⟩, _, by simp only [go_sem, Rcb, Rbk, sevalprocAttr], hu4, rfl⟩
        | false =>
          simp +contextual only [go_sem, Rcb, Rbk, sevalprocAttr, e0, e2, e3]
          exact hS2 _ _ _ ⟨rfl, ⟨by simp only [e0, go_sem, Rcb, Rbk, sevalprocAttr], by simp only [e2, go_sem, Rcb, Rbk, sevalprocAttr], by simp only [e3, go_sem, Rcb, Rbk, sevalprocAttr]⟩, _, by simp only [go_sem, Rcb, Rbk, sevalprocAttr]; rfl, hu4, rfl⟩
      clear e0 e2 e3 hu4 hu3
      rintro e ds h ⟨rfl, ⟨e0, e2, e3⟩, k, e4, hu4, rfl⟩
      simp +contextual only [go_sem, Rcb, Rbk, sevalprocAttr, e0, e2, e3, e4, n3, n2, np, hap2, hap3]
      refine part_w [(b3, _), (b2, _)] (ct_w_room (n := ((parts.length : Nat) : Int)) (m := 4) hl4 N) ?_
      rintro v M5 _ t5 lv5 be5 ba5 hM5 hno5 hr5 hl5 rfl
      have hu5 := hu4.bind hr5
      simp only [List.cons_append, List.nil_append, noneL, noneL_wL] at hno5
      simp +contextual only [go_sem, Rcb, Rbk, sevalprocAttr, e0, e2, e3, e4, hno5, hap2, hap3]
      intro b8 hb8 hap8
      refine app_ops (PrOk_ext hM5 hpr) hb8 (by omega) ?_
      intro oa' oc' R1 hmid
      simp +contextual only [go_sem, Rcb, Rbk, sevalprocAttr, e0, e2, e3, e4, hno5, hap2, hap3, hap8]
      refine draw_at ⟨T, fun _ => none, [(b3, _)], []⟩ (Sub_own [(b8, _)] hno5.1 ⟨⟨hap8.1.2, hap8.1.1⟩, trivial⟩) ?_
      simp +contextual only [go_sem, Rcb, Rbk, sevalprocAttr, e0, e2, e3, e4, hno5, hap2, hap3, hap8]
      refine part_w [(b8, _), (b3, _), (b2, _)] (ct_w_selected hex hl5 N) ?_
      rintro v M6 s1 t6 lv6 be6 ba6 hM6 hno6 hr6 hl6 ⟨cs1, rfl, hs1⟩
      have hu6 := hu5.bind hr6
      have hcl1 := RSe_len hs1
      simp only [List.cons_append, List.nil_append, noneL, noneL_wL] at hno6
      simp +contextual only [go_sem, Rcb, Rbk, sevalprocAttr, hno6, hap2, hap3, hap8, hcl1, e0, e2, e3]
      refine ⟨Sub_own [(b8, _)] hno6.2.1 ⟨⟨hap8.1.2, hap8.1.1⟩, trivial⟩, ?_⟩
      intro b9 hb9 hap9
      refine ⟨Sub_own [(b9, _), (b8, _)] hno6.2.1 ⟨⟨hap9.2.1.2, hap9.2.1.1⟩, ⟨hap8.1.2, hap8.1.1⟩, trivial⟩, ?_⟩
      refine app_parts (PrMid_ext hM6 hmid) hs1 hb9 (by omega) ?_
      intro pa' pc' R2 hpr2
      simp +contextual only [go_sem, Rcb, Rbk, sevalprocAttr, hno6, hap2, hap3, hap8, hap9, hb9, e0, e2, e3]
      refine lp_close (Close_drop (Close_drop (Close_id ⟨if be6 = 0 then 6 - (parts.length + 1) else 0, ?_, rfl, ⟨?_, ?_, ?_⟩, N, M6, lv6, t6, be6, ba6, parts ++ [s1], ops ++ [k], _, _, R2, _, hN, hno6.2.1, hno6.2.2.1, hno6.2.2.2, hl6, hpr2, ?_, ?_, hu6, fun h6 => ⟨?_, rfl⟩, ?_, rfl⟩)))
      · split <;> omega
      · simp only [e0, go_sem, Rcb, Rbk, sevalprocAttr]
      · simp only [e2, go_sem, Rcb, Rbk, sevalprocAttr]
      · simp only [e3, go_sem, Rcb, Rbk, sevalprocAttr]
      · rw [List.length_append]; simp; omega
      · rw [List.length_append, List.length_append]; simp; omega
      · have hne := hr5.room (hr6.good h6)
        rw [List.length_append]; simp; omega
      · rw [List.length_append]; rfl
    · simp +contextual only [go_sem, Rcb, Rbk, sevalprocAttr, e0, e2, e3, hc1]
      refine comes_w [(b3, _), (b2, _)] wExcept hl2 ?_
      simp +contextual only [go_sem, Rcb, Rbk, sevalprocAttr, e0, e2, e3, hc2]
      have hu3 : Up (queryK en ex parts ops t) be2 ba2 (queryM en ex toks) be ba := hu2.congr fun h0 => by rw [(hC h0).2]; exact queryC_none (hix h0)
      exact hS' _ _ _ ⟨rfl, ⟨by simp only [e0, go_sem, Rcb, Rbk, sevalprocAttr], by simp only [e2, go_sem, Rcb, Rbk, sevalprocAttr], by simp only [e3, go_sem, Rcb, Rbk, sevalprocAttr]⟩, N, M2, lv2, t, be2, ba2, parts, ops, _, _, R, hN, n3, n2, np, hl2, hpr, hpl, by omega, hu3, rfl⟩
  clear hu1 hu hs0 hl1
  rintro e ds h ⟨rfl, ⟨e0, e2, e3⟩, N5, M5, lv7, t, be5, ba5, parts, ops, pv, ov, R5, hN5, q3, q2, qp, hl7, hpr, hpl, hol, hu5, rfl⟩
  simp +contextual only [go_sem, Rcb, Rbk, sevalprocAttr, e0, e2, e3]
  refine rCall_close (k := fun h' => ∃ M6, Ext M5 M6 ∧ noneL M6 ((b3, qcells pv ov (.slice none 0 0) (-1)) :: (b2, qcells (.slice none 0 0) (.slice none 0 0) (.slice none 0 0) 0) :: wL pb lv7 en op be5 ba5) ∧ RS M6 (RSe M6) 21 parts pv ∧ RS M6 RI 1 ops ov ∧
    h' = ⟨N5, M6, (b3, qcells pv ov (.slice none 0 0) (-1)) :: (b2, qcells (.slice none 0 0) (.slice none 0 0) (.slice none 0 0) 0) :: wL pb lv7 en op be5 ba5, []⟩)
    (Close_pr hpr (by omega) (by omega) (fun M' he hno hrs hos => Close_id ⟨M', he, hno, hrs, hos, rfl⟩) ⟨q3, q2, by simpa only [noneL_wL] using qp⟩) ?_ bod70
  rintro h' ⟨M6, hM6, hno6, hps, hos, rfl⟩
  simp only [List.cons_append, List.nil_append, noneL, noneL_wL] at hno6
  obtain ⟨p1, p2⟩ := RS_one hps
  have p3 := p2
  obtain ⟨o1, o2⟩ := RS_one hos
  have o3 := o2
  simp only [Value.cells] at p3 o3
  refine may_w1 [(b3, _), (b2, _)] wOrder (RS_ext hM6 (fun _ _ h => h) hl7) fun ob t6 lv8 hob ht6 hl8 => ?_
  have hu6 : Up (if ob = true then (needM en [wBy] t6).bind fun _ t => (someM en ex 8 t).bind fun l t => (needM en [wLimit] t).bind fun _ t => (intM en t).bind fun n t' => if n < 0 ∨ 50 < n then .err 3 (atM en t) else .ok (⟨parts, ops, l, n⟩ : Q) t'
      else .ok ⟨parts, ops, [], -1⟩ t6) be5 ba5 (queryM en ex toks) be ba := hu5.congr fun h0 => by
    have e1 := hob h0
    subst e1
    unfold queryK orderM
    cases hs : seesM wOrder t with
    | true =>
      rw [ht6 h0, hs]
      simp only [if_true, Rs.bind_assoc]
      congr 1
      funext _ t
      congr 1
      funext l t
      congr 1
      funext _ t
      unfold limM
      rw [Rs.bind_assoc]
      congr 1
      funext n t'
      by_cases hn : n < 0 ∨ 50 < n
      · rw [if_pos hn, if_pos hn]; rfl
      · rw [if_neg hn, if_neg hn]; rfl
    | false => rw [ht6 h0, hs]; rfl
  clear hob ht6 hu5
  have hT' := hT.trans hN5
  cases ob with
  | false =>
    simp +contextual only [go_sem, Rcb, Rbk, sevalprocAttr, e0, e2, e3, hno6, hap2, hap3, p1, p2, p3, o1, o2, o3]
    exact fin_wr (enc := encQ) [(b3, _), (b2, _)] hT' hu6 hl8 ⟨_, rfl, _, _, _, hps, hos, RS_nil, rfl⟩
  | true =>
    replace hu6 := hu6.congr fun _ => if_pos rfl
    simp +contextual only [go_sem, Rcb, Rbk, sevalprocAttr, e0, e2, e3]
    intro b8 hb8 hap8
    refine must_w [(b3, _), (b2, _)] hu6 hl8 ?_
    intro M8 t9 lvb be9 ba9 hM8 hno8 huA hlb
    simp +contextual only [go_sem, Rcb, Rbk, sevalprocAttr, e0, e2, e3]
    refine part_w [(b3, _), (b2, _)] (ct_w_exprs hex hlb N5) ?_
    intro v M9 ord tA lvc beA baA hM9 hno9 hrA hlc hgv
    obtain ⟨g1, g2⟩ := RS_one hgv
    have g3 := g2
    simp only [Value.cells] at g3
    have huB := huA.bind hrA
    simp only [List.cons_append, List.nil_append, noneL, noneL_wL] at hno9
    simp +contextual only [go_sem, Rcb, Rbk, sevalprocAttr, e0, e2, e3, hno9, hap2, hap3, g1, g2, g3]
    intro b10 hb10 hap10
    refine must_w [(b3, _), (b2, _)] huB hlc ?_
    intro M10 tB lvd beB baB hM10 hno10 huC hld
    simp +contextual only [go_sem, Rcb, Rbk, sevalprocAttr, e0, e2, e3]
    refine at_w [(b3, _), (b2, _)] hld ?_
    simp +contextual only [go_sem, Rcb, Rbk, sevalprocAttr, e0, e2, e3]
    refine part_w [(b3, _), (b2, _)] (ct_w_num hld N5) ?_
    rintro v M11 n tC lve beC baC hM11 hno11 hrC hle rfl
    have huD := huC.bind hrC
    have hM69 := (((hM8.trans hM9).trans hM10).trans hM11)
    have hps' := RS_ext hM69 (RSe_ext hM69) hps
    have hos' := RS_ext hM69 (fun _ _ h => h) hos
    have hM9b := hM10.trans hM11
    have hgv' := RS_ext hM9b (RX_ext hM9b) hgv
    simp only [List.cons_append, List.nil_append, noneL, noneL_wL] at hno11
    by_cases hn : n < 0 ∨ 50 < n
    · replace huD := huD.congr fun _ => if_pos hn
      rcases hn with hn | hn
      · simp +contextual only [go_sem, Rcb, Rbk, sevalprocAttr, e0, e2, e3, hn]
        refine stop_w [(b3, _), (b2, _)] 3 _ ?_
        simp +contextual only [go_sem, Rcb, Rbk, sevalprocAttr, e0, e2, e3, hno11, hap2, hap3, p1, p2, p3, o1, o2, o3, g1, g2, g3]
        exact fin_wr (enc := encQ) (a := ⟨parts, ops, ord, n⟩) [(b3, _), (b2, _)] hT' (huD.stopped (fun _ => rfl) (by decide)) hle ⟨_, rfl, _, _, _, hps', hos', hgv', rfl⟩
      · have hn1 : ¬ n < 0 := by omega
        simp +contextual only [go_sem, Rcb, Rbk, sevalprocAttr, e0, e2, e3, hn, hn1]
        refine stop_w [(b3, _), (b2, _)] 3 _ ?_
        simp +contextual only [go_sem, Rcb, Rbk, sevalprocAttr, e0, e2, e3, hno11, hap2, hap3, p1, p2, p3, o1, o2, o3, g1, g2, g3]
        exact fin_wr (enc := encQ) (a := ⟨parts, ops, ord, n⟩) [(b3, _), (b2, _)] hT' (huD.stopped (fun _ => rfl) (by decide)) hle ⟨_, rfl, _, _, _, hps', hos', hgv', rfl⟩
    · replace huD := huD.congr fun _ => if_neg hn
      have hn1 : ¬ n < 0 := fun h => hn (.inl h)
      have hn2 : ¬ 50 < n := fun h => hn (.inr h)
      simp +contextual only [go_sem, Rcb, Rbk, sevalprocAttr, e0, e2, e3, hn1, hn2, hno11, hap2, hap3, p1, p2, p3, o1, o2, o3, g1, g2, g3]
      exact fin_wr (enc := encQ) (a := ⟨parts, ops, ord, n⟩) [(b3, _), (b2, _)] hT' huD hle ⟨_, rfl, _, _, _, hps', hos', hgv', rfl⟩
end Go.Proofs.YtoainkbcfnlkcaaGreatDoor


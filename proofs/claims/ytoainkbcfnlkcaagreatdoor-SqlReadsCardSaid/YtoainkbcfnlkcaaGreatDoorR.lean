import Derived.Test.YtoainkbcfnlkcaaGreatDoorI
set_option linter.all false
namespace Go.Proofs.YtoainkbcfnlkcaaGreatDoor
open Go Vc
set_option linter.unusedSimpArgs false
set_option linter.unusedVariables false
set_option maxRecDepth 10000

/-! ### a slice of one's own that grows -/
def Acc {α : Type} (el : TypeId) (sz : Nat) (r : α → List Value → Prop) (R0 R : RR) (fv : Value) (acc : List α) : Prop :=
  (acc = [] ∧ fv = .slice none 0 0 ∧ R = R0) ∨ ∃ a c xs, fv = .slice a acc.length c ∧ RL r acc xs ∧ R = (fv, el, sz, xs) :: R0
section
variable {α : Type} {el : TypeId} {sz : Nat} {r : α → List Value → Prop} {R0 R : RR} {fv : Value} {acc : List α}
theorem Acc_nil : Acc el sz r R0 R0 (.slice none 0 0) [] := .inl ⟨rfl, rfl, rfl⟩
theorem Acc_form (h : Acc el sz r R0 R fv acc) : ∃ a c, fv = .slice a acc.length c := by
  rcases h with ⟨rfl, rfl, _⟩ | ⟨a, c, xs, rfl, _⟩
  · exact ⟨_, _, rfl⟩
  · exact ⟨_, _, rfl⟩
theorem Acc_one (h : Acc el sz r R0 R fv acc) : fv.oneCell' = true ∧ fv.cells.toList = [fv] := by
  obtain ⟨a, c, rfl⟩ := Acc_form h
  exact ⟨rfl, rfl⟩
theorem Acc_mono {r' : α → List Value → Prop} (hr : ∀ x cs, r x cs → r' x cs) (h : Acc el sz r R0 R fv acc) : Acc el sz r' R0 R fv acc := by
  rcases h with ⟨h1, h2, h3⟩ | ⟨a, c, xs, h1, h2, h3⟩
  · exact .inl ⟨h1, h2, h3⟩
  · exact .inr ⟨a, c, xs, h1, RL_mono hr h2, h3⟩
theorem app_acc {P : Program} {F : Fi} {s : List Vc.Item} {e : Env} {ds : List Deferred} {dd : Option Nat} {T : Tm} {M : Mem} {L : LL} {t : TypeId} {z : List Value} {b : Nat} {x : α} {cs : List Value} (hu : P.underlying t = some (.slice el)) (hrow : rowT P t = some (el, sz, z)) (hok : okT P t = true)
    (h : Acc el sz r R0 R fv acc) (hx : r x cs) (hlen : ∀ x cs, r x cs → cs.length = sz) (hone : ∀ u ∈ cs, u.oneCell' = true) (hb : M b = none) (hl : acc.length * sz + sz ≤ 4294967296) (hpos : 0 < sz)
    (k : ∀ fv' R', Acc el sz r R0 R' fv' (acc ++ [x]) → Run P F s (updo e dd fv') ds ⟨T, M, (b, cs) :: L, R'⟩ ⟨⟩) : rApp P F t t fv (.slice (some ⟨b, 0, none⟩) 1 1) dd s e ds ⟨T, M, (b, cs) :: L, R⟩ ⟨⟩ := by
  have hcl := hlen x cs hx
  rcases h with ⟨rfl, rfl, rfl⟩ | ⟨a, c, xs, rfl, h3, rfl⟩
  · refine app_nil hrow hok (.slice _ 1 _ _ _ hu (cells_own [] hb trivial (by rw [hcl, Nat.one_mul])) hone) (by rw [hcl]; simp at hl; omega) ?_
    intro ra rm rc hrm
    have : rm = 1 := by
      rw [hcl] at hrm
      exact Nat.eq_of_mul_eq_mul_right hpos (by omega)
    subst this
    exact k _ _ (.inr ⟨_, _, _, rfl, RL_one hx, rfl⟩)
  · have hxl := RL_len hlen h3
    refine app_row hrow hok (.slice _ 1 _ _ _ hu (cells_own [] hb trivial (by rw [hcl, Nat.one_mul])) hone) (by rw [hcl, hxl]; omega) ?_
    intro ra rm rc hrm
    have : rm = (acc ++ [x]).length := by
      rw [hcl, hxl] at hrm
      rw [List.length_append]
      refine Nat.eq_of_mul_eq_mul_right hpos ?_
      rw [Nat.add_mul]
      simpa using hrm
    subst this
    exact k _ _ (.inr ⟨_, _, _, rfl, RL_append h3 (RL_one hx), rfl⟩)
theorem Close_acc {N : Tm} {M : Mem} {L : LL} {k : Sh → Prop} (h : Acc el sz r R0 R fv acc) (hb : acc.length ≤ 140737488355328) (hpos : 0 < sz) (hno : noneL M L) (hk : ∀ M', Ext M M' → noneL M' L → RS M' r sz acc fv → Close ⟨N, M', L, R0⟩ k) : Close ⟨N, M, L, R⟩ k := by
  rcases h with ⟨rfl, rfl, rfl⟩ | ⟨a, c, xs, rfl, h3, rfl⟩
  · exact hk M Ext.rfl' hno RS_nil
  · exact Close_row (fun M' hM hno' hsl => hk M' hM hno' ⟨hb, xs, hsl, h3⟩) hpos
end
end Go.Proofs.YtoainkbcfnlkcaaGreatDoor

namespace Go.Proofs.YtoainkbcfnlkcaaGreatDoor
open Go Vc
set_option linter.unusedSimpArgs false
set_option linter.unusedVariables false
set_option maxRecDepth 10000

/-! ### the document's reader: a state, good or bad -/
def kc (k : Int) : Int := if k = 1 then 119 else if k = 2 then 110 else if k = 3 then 116 else 115
def RTw (t : Tk) (cs : List Value) : Prop := cs = [.int .u8 (kc t.k), st t.s, .int .i64 t.at_] ∧ (1 ≤ t.k ∧ t.k ≤ 4) ∧ (t.k = 2 → numOk t.s = true)
theorem RTw_len {t : Tk} {cs} (h : RTw t cs) : cs.length = 3 := by rw [h.1]; rfl
def wL (b : Nat) (lv : Value) (en op be ba : Int) : LL := [(b, [lv, .int .i64 en, .int .i64 op, .int .i64 be, .int .i64 ba])]
/-- what a part comes to: from a good state as the model says, from a bad one to the same bad one -/
def Rl {α : Type} (r : Rs α) (be ba : Int) (a : α) (t : List Tk) (be' ba' : Int) : Prop :=
  if be = 0 then (match r with
    | .ok a0 t0 => a = a0 ∧ t = t0 ∧ be' = 0 ∧ ba' = ba
    | .err e x => e ≠ 0 ∧ be' = e ∧ ba' = x
    | .out => True)
  else be' = be ∧ ba' = ba
/-- what comes to this comes to that -/
def Up {α : Type} (cur : Rs α) (be1 ba1 : Int) (res : Rs α) (be ba : Int) : Prop := ∀ a t be' ba', Rl cur be1 ba1 a t be' ba' → Rl res be ba a t be' ba'
theorem Up.rfl' {α : Type} {r : Rs α} {be ba : Int} : Up r be ba r be ba := fun _ _ _ _ h => h
theorem Up.congr {α : Type} {c c' res : Rs α} {be1 ba1 be ba : Int} (h : Up c be1 ba1 res be ba) (hc : be1 = 0 → c = c') : Up c' be1 ba1 res be ba := by
  intro a t be' ba' h1
  refine h a t be' ba' ?_
  unfold Rl at h1 ⊢
  split at h1
  · rename_i h0
    rw [if_pos h0, hc h0]; exact h1
  · rename_i h0
    rw [if_neg h0]; exact h1
theorem Up.bind {α β : Type} {g : Rs α} {F : α → List Tk → Rs β} {res : Rs β} {be1 ba1 be ba : Int} (h : Up (g.bind F) be1 ba1 res be ba) {a : α} {t : List Tk} {be2 ba2 : Int} (hg : Rl g be1 ba1 a t be2 ba2) : Up (F a t) be2 ba2 res be ba := by
  intro x t' be' ba' h1
  refine h x t' be' ba' ?_
  unfold Rl at hg h1 ⊢
  by_cases h0 : be1 = 0
  · rw [if_pos h0] at hg ⊢
    cases g with
    | ok a0 t0 =>
      obtain ⟨rfl, rfl, h2, rfl⟩ := hg
      rw [if_pos h2] at h1
      exact h1
    | err e x =>
      obtain ⟨h2, rfl, rfl⟩ := hg
      rw [if_neg h2] at h1
      obtain ⟨rfl, rfl⟩ := h1
      exact ⟨h2, rfl, rfl⟩
    | out => trivial
  · rw [if_neg h0] at hg ⊢
    obtain ⟨rfl, rfl⟩ := hg
    rw [if_neg h0] at h1
    exact h1
theorem Up.ok {α : Type} {res : Rs α} {a : α} {t : List Tk} {be1 ba1 be ba : Int} (h : Up (.ok a t) be1 ba1 res be ba) : Rl res be ba a t be1 ba1 := by
  refine h a t be1 ba1 ?_
  unfold Rl
  split
  · rename_i h0; exact ⟨rfl, rfl, h0, rfl⟩
  · exact ⟨rfl, rfl⟩
/-- where it is bad, whatever is made -/
theorem Up.bad {α : Type} {c res : Rs α} {a : α} {t : List Tk} {be1 ba1 be ba : Int} (h : Up c be1 ba1 res be ba) (h0 : be1 ≠ 0) : Rl res be ba a t be1 ba1 := by
  refine h a t be1 ba1 ?_
  unfold Rl
  rw [if_neg h0]; exact ⟨rfl, rfl⟩
/-- what is found wrong is kept, if nothing was -/
def stopM (e a : Int) (be ba : Int) : Int × Int := if be = 0 then (e, a) else (be, ba)
theorem Up.err {α : Type} {c res : Rs α} {e x : Int} {a : α} {t : List Tk} {be1 ba1 be ba : Int} (h : Up c be1 ba1 res be ba) (hc : be1 = 0 → c = .err e x) (he : e ≠ 0) : Rl res be ba a t (stopM e x be1 ba1).1 (stopM e x be1 ba1).2 := by
  refine (h.congr hc) a t _ _ ?_
  unfold Rl stopM
  by_cases h0 : be1 = 0
  · rw [if_pos h0, if_pos h0]; exact ⟨he, rfl, rfl⟩
  · rw [if_neg h0, if_neg h0]; exact ⟨rfl, rfl⟩
theorem stopM_ne {e a be ba : Int} (he : e ≠ 0) : (stopM e a be ba).1 ≠ 0 := by
  unfold stopM; split
  · exact he
  · assumption
/-- behind a stop nothing is looked at -/
theorem Up.stopped {α : Type} {c c' res : Rs α} {e x be1 ba1 be ba : Int} (h : Up c be1 ba1 res be ba) (hc : be1 = 0 → c = .err e x) (he : e ≠ 0) : Up c' (stopM e x be1 ba1).1 (stopM e x be1 ba1).2 res be ba := by
  intro a t be' ba' h1
  have h2 := h.err (a := a) (t := t) hc he
  unfold Rl at h1
  rw [if_neg (stopM_ne he)] at h1
  obtain ⟨rfl, rfl⟩ := h1
  exact h2
def postW {α : Type} (b : Nat) (en op : Int) (enc : α → Value → Mem → Prop) (res : Rs α) (be ba : Int) : PostP := fun v M' L' R' =>
  ∃ a t lv' be' ba', Rl res be ba a t be' ba' ∧ L' = wL b lv' en op be' ba' ∧ RS M' RTw 3 t lv' ∧ R' = [] ∧ enc a v M'
theorem lcell_wL (b lv en op be ba k o) : lcell (wL b lv en op be ba) ⟨k, o, none⟩ = if k = b then some ([lv, .int .i64 en, .int .i64 op, .int .i64 be, .int .i64 ba][o]?) else none := (rfl)
theorem lput_wL0 (b lv en op be ba v) : lput (wL b lv en op be ba) b 0 [v] = some (wL b v en op be ba) := by simp [lput, wL, setL]
theorem lput_wL2 (b lv en op be ba n) : lput (wL b lv en op be ba) b 2 [.int .i64 n] = some (wL b lv en n be ba) := by simp [lput, wL, setL]
theorem lput_wL3 (b lv en op be ba e a) : lput (wL b lv en op be ba) b 3 [.int .i64 e, .int .i64 a] = some (wL b lv en op e a) := by simp [lput, wL, setL]
theorem noneL_wL (M b lv en op be ba) : noneL M (wL b lv en op be ba) = (M b = none) := by simp [noneL, wL]
theorem apart1_wL (k b lv en op be ba) : apart1 k (wL b lv en op be ba) = (k ≠ b ∧ b ≠ k) := by simp [apart1, wL]
attribute [go_sem] lcell_wL lput_wL0 lput_wL2 lput_wL3 noneL_wL apart1_wL
theorem kc_eq1 {k : Int} (h : 1 ≤ k ∧ k ≤ 4) : (kc k = 119) = (k = 1) := by
  have : k = 1 ∨ k = 2 ∨ k = 3 ∨ k = 4 := by omega
  rcases this with rfl | rfl | rfl | rfl <;> simp [kc]
theorem kc_eq2 {k : Int} (h : 1 ≤ k ∧ k ≤ 4) : (kc k = 110) = (k = 2) := by
  have : k = 1 ∨ k = 2 ∨ k = 3 ∨ k = 4 := by omega
  rcases this with rfl | rfl | rfl | rfl <;> simp [kc]
theorem kc_eq3 {k : Int} (h : 1 ≤ k ∧ k ≤ 4) : (kc k = 116) = (k = 3) := by
  have : k = 1 ∨ k = 2 ∨ k = 3 ∨ k = 4 := by omega
  rcases this with rfl | rfl | rfl | rfl <;> simp [kc]
theorem kc_eq4 {k : Int} (h : 1 ≤ k ∧ k ≤ 4) : (kc k = 115) = (k = 4) := by
  have : k = 1 ∨ k = 2 ∨ k = 3 ∨ k = 4 := by omega
  rcases this with rfl | rfl | rfl | rfl <;> simp [kc]
theorem tokw_cases {M : Mem} {toks : List Tk} {lv : Value} (h : RS M RTw 3 toks lv) :
    (toks = [] ∧ ∃ a c, lv = .slice a 0 c) ∨ ∃ t r b o c, toks = t :: r ∧ lv = .slice (some ⟨b, o, none⟩) (r.length + 1) c ∧ r.length + 1 ≤ c ∧ (1 ≤ t.k ∧ t.k ≤ 4) ∧ (t.k = 2 → numOk t.s = true) ∧
      mcell M ⟨b, o, none⟩ = some (.int .u8 (kc t.k)) ∧ mcell M ⟨b, o + 1, none⟩ = some (st t.s) ∧ mcell M ⟨b, o + 2, none⟩ = some (.int .i64 t.at_) := by
  obtain ⟨hb, a, c, rfl, hle, _, hget⟩ := RS_elim (by decide) (fun _ _ => RTw_len) h
  cases toks with
  | nil => exact .inl ⟨rfl, a, c, rfl⟩
  | cons t r =>
    obtain ⟨b, o, cs, rfl, ha, hr⟩ := hget 0 t rfl
    obtain ⟨rfl, h1, h2⟩ := hr
    simp only [Nat.zero_mul, Nat.add_zero] at ha
    exact .inr ⟨t, r, b, o, c, rfl, rfl, hle, h1, h2, ha.1, ha.2.1, ha.2.2.1⟩
end Go.Proofs.YtoainkbcfnlkcaaGreatDoor

namespace Go.Proofs.YtoainkbcfnlkcaaGreatDoor
open Go Vc
set_option linter.unusedSimpArgs false
set_option linter.unusedVariables false
set_option maxRecDepth 10000

/-! ### the small parts -/
section
variable {T : Tm} {M : Mem} {pb : Nat} {toks : List Tk} {lv : Value} {en op be ba : Int}
theorem ct_w_good : CtT Tryz.prog 33 [.pointer (some ⟨pb, 0, none⟩)] T M (wL pb lv en op be ba) [] (fun r M' L' R' => r = .bool (decide (be = 0)) ∧ M' = M ∧ L' = wL pb lv en op be ba ∧ R' = []) noPan := by
  refine ct_run mx bod33 Tryz.func33 rfl (by rw [nt33]; exact Nat.le_of_ble_eq_true rfl) (dr := dr33) (by kernel_rfl) rs33 ?_
  intro hno _
  simp only [noneL_wL] at hno
  simp +contextual only [go_sem, Rcb, Rbk, sevalprocAttr, hno]
  exact end_id ExtT.rfl' rfl rfl ⟨rfl, rfl, rfl, rfl⟩
theorem ct_w_stop {e a : Int} : CtT Tryz.prog 37 [.pointer (some ⟨pb, 0, none⟩), .int .i64 e, .int .i64 a] T M (wL pb lv en op be ba) [] (fun r M' L' R' => r = .tuple #[] ∧ M' = M ∧ L' = wL pb lv en op (stopM e a be ba).1 (stopM e a be ba).2 ∧ R' = []) noPan := by
  refine ct_run mx bod37 Tryz.func37 rfl (by rw [nt37]; exact Nat.le_of_ble_eq_true rfl) (dr := dr37) (by kernel_rfl) rs37 ?_
  intro hno _
  simp only [noneL_wL] at hno
  simp +contextual only [go_sem, Rcb, Rbk, sevalprocAttr]
  refine rCall_of [] (wL pb lv en op be ba) [] [] [] [] ct_w_good ?_ (fun _ _ _ _ _ _ _ _ h => h.elim)
  rintro v M' L' R' hM _ _ hno' ⟨rfl, rfl, rfl, rfl⟩
  by_cases h0 : be = 0
  · simp +contextual only [go_sem, Rcb, Rbk, sevalprocAttr, hno, h0]
    exact end_id ExtT.rfl' rfl rfl ⟨rfl, rfl, by simp [stopM, h0], rfl⟩
  · simp +contextual only [go_sem, Rcb, Rbk, sevalprocAttr, hno, h0]
    exact end_id ExtT.rfl' rfl rfl ⟨rfl, rfl, by simp [stopM, h0], rfl⟩
theorem ct_w_at (hl : RS M RTw 3 toks lv) : CtT Tryz.prog 69 [.pointer (some ⟨pb, 0, none⟩)] T M (wL pb lv en op be ba) [] (fun r M' L' R' => r = .int .i64 (atM en toks) ∧ M' = M ∧ L' = wL pb lv en op be ba ∧ R' = []) noPan := by
  refine ct_run mx bod69 Tryz.func69 rfl (by rw [nt69]; exact Nat.le_of_ble_eq_true rfl) (dr := dr69) (by kernel_rfl) rs69 ?_
  intro hno _
  simp only [noneL_wL] at hno
  rcases tokw_cases hl with ⟨rfl, a, c, rfl⟩ | ⟨t, r, b, o, c, rfl, rfl, hc, hk, hn, h0, h1, h2⟩
  · simp +contextual only [go_sem, Rcb, Rbk, sevalprocAttr, hno]
    exact end_id ExtT.rfl' rfl rfl ⟨rfl, rfl, rfl, rfl⟩
  · simp +contextual only [go_sem, Rcb, Rbk, sevalprocAttr, hno, h0, h1, h2]
    exact end_id ExtT.rfl' rfl rfl ⟨rfl, rfl, rfl, rfl⟩
/-- a kind of token, or none -/
def kindM (be : Int) : List Tk → Int | [] => 0 | t :: _ => if be = 0 then kc t.k else 0
theorem ct_w_kind (hl : RS M RTw 3 toks lv) : CtT Tryz.prog 111 [.pointer (some ⟨pb, 0, none⟩)] T M (wL pb lv en op be ba) [] (fun r M' L' R' => r = .int .u8 (kindM be toks) ∧ M' = M ∧ L' = wL pb lv en op be ba ∧ R' = []) noPan := by
  refine ct_run mx bod111 Tryz.func111 rfl (by rw [nt111]; exact Nat.le_of_ble_eq_true rfl) (dr := dr111) (by kernel_rfl) rs111 ?_
  intro hno _
  simp only [noneL_wL] at hno
  simp +contextual only [go_sem, Rcb, Rbk, sevalprocAttr]
  refine rCall_of [] (wL pb lv en op be ba) [] [] [] [] ct_w_good ?_ (fun _ _ _ _ _ _ _ _ h => h.elim)
  rintro v M' L' R' hM _ _ hno' ⟨rfl, rfl, rfl, rfl⟩
  rcases tokw_cases hl with ⟨rfl, a, c, rfl⟩ | ⟨t, r, b, o, c, rfl, rfl, hc, hk, hn, h0, h1, h2⟩
  · by_cases hb : be = 0
    · simp +contextual only [go_sem, Rcb, Rbk, sevalprocAttr, hno, hb]
      exact end_id ExtT.rfl' rfl rfl ⟨rfl, rfl, rfl, rfl⟩
    · simp +contextual only [go_sem, Rcb, Rbk, sevalprocAttr, hno, hb]
      exact end_id ExtT.rfl' rfl rfl ⟨rfl, rfl, rfl, rfl⟩
  · by_cases hb : be = 0
    · simp +contextual only [go_sem, Rcb, Rbk, sevalprocAttr, hno, h0, h1, h2, hb]
      exact end_id ExtT.rfl' rfl rfl ⟨by simp [kindM], rfl, rfl, rfl⟩
    · simp +contextual only [go_sem, Rcb, Rbk, sevalprocAttr, hno, h0, h1, h2, hb]
      exact end_id ExtT.rfl' rfl rfl ⟨by simp [kindM, hb], rfl, rfl, rfl⟩
/-- does it come? -/
def comesM (s : Bs) (be : Int) (toks : List Tk) : Bool := decide (be = 0) && seesM s toks
theorem ct_w_comes {s : Bs} (hl : RS M RTw 3 toks lv) : CtT Tryz.prog 110 [.pointer (some ⟨pb, 0, none⟩), st s] T M (wL pb lv en op be ba) [] (fun r M' L' R' => r = .bool (comesM s be toks) ∧ M' = M ∧ L' = wL pb lv en op be ba ∧ R' = []) noPan := by
  refine ct_run mx bod110 Tryz.func110 rfl (by rw [nt110]; exact Nat.le_of_ble_eq_true rfl) (dr := dr110) (by kernel_rfl) rs110 ?_
  intro hno _
  simp only [noneL_wL] at hno
  simp +contextual only [go_sem, Rcb, Rbk, sevalprocAttr]
  refine rCall_of [] (wL pb lv en op be ba) [] [] [] [] (ct_w_kind hl) ?_ (fun _ _ _ _ _ _ _ _ h => h.elim)
  rintro v M' L' R' hM _ _ hno' ⟨rfl, rfl, rfl, rfl⟩
  rcases tokw_cases hl with ⟨rfl, a, c, rfl⟩ | ⟨t, r, b, o, c, rfl, rfl, hc, hk, hn, h0, h1, h2⟩
  · simp +contextual only [go_sem, Rcb, Rbk, sevalprocAttr, hno, kindM]
    exact end_id ExtT.rfl' rfl rfl ⟨by simp [comesM, seesM], rfl, rfl, rfl⟩
  · by_cases hb : be = 0
    · have e1 := kc_eq1 hk
      have e4 := kc_eq4 hk
      by_cases k1 : t.k = 1
      · have q1 : kc t.k = 119 := by rw [e1]; exact k1
        simp +contextual only [go_sem, Rcb, Rbk, sevalprocAttr, hno, kindM, hb, q1, h0, h1, h2]
        exact end_id ExtT.rfl' rfl rfl ⟨by simp [comesM, seesM, k1, hb], rfl, rfl, rfl⟩
      · by_cases k4 : t.k = 4
        · have q1 : kc t.k = 115 := by rw [e4]; exact k4
          simp +contextual only [go_sem, Rcb, Rbk, sevalprocAttr, hno, kindM, hb, q1, h0, h1, h2]
          exact end_id ExtT.rfl' rfl rfl ⟨by simp [comesM, seesM, k4, hb], rfl, rfl, rfl⟩
        · have q1 : ¬ kc t.k = 119 := by rw [e1]; exact k1
          have q4 : ¬ kc t.k = 115 := by rw [e4]; exact k4
          simp +contextual only [go_sem, Rcb, Rbk, sevalprocAttr, hno, kindM, hb, q1, q4, h0, h1, h2]
          exact end_id ExtT.rfl' rfl rfl ⟨by simp [comesM, seesM, k1, k4], rfl, rfl, rfl⟩
    · simp +contextual only [go_sem, Rcb, Rbk, sevalprocAttr, hno, kindM, hb, h0, h1, h2]
      exact end_id ExtT.rfl' rfl rfl ⟨by simp [comesM, hb], rfl, rfl, rfl⟩
theorem ct_w_may {s : Bs} (hl : RS M RTw 3 toks lv) : CtT Tryz.prog 70 [.pointer (some ⟨pb, 0, none⟩), st s] T M (wL pb lv en op be ba) [] (fun r M' L' R' => r = .bool (comesM s be toks) ∧ M' = M ∧ R' = [] ∧ ∃ lv', L' = wL pb lv' en op be ba ∧ RS M RTw 3 (if comesM s be toks = true then toks.tail else toks) lv') noPan := by
  refine ct_run mx bod70 Tryz.func70 rfl (by rw [nt70]; exact Nat.le_of_ble_eq_true rfl) (dr := dr70) (by kernel_rfl) rs70 ?_
  intro hno _
  simp only [noneL_wL] at hno
  simp +contextual only [go_sem, Rcb, Rbk, sevalprocAttr]
  refine rCall_of [] (wL pb lv en op be ba) [] [] [] [] (ct_w_comes hl) ?_ (fun _ _ _ _ _ _ _ _ h => h.elim)
  rintro v M' L' R' hM _ _ hno' ⟨rfl, rfl, rfl, rfl⟩
  by_cases hs : comesM s be toks = true
  · rcases tokw_cases hl with ⟨rfl, a, c, rfl⟩ | ⟨t, r, b, o, c, rfl, rfl, hc, hk, hn, h0, h1, h2⟩
    · simp [comesM, seesM] at hs
    · have hc2 : (1 : Int) ≤ ((r.length + 1 : Nat) : Int) ∧ r.length + 1 ≤ c := ⟨by omega, hc⟩
      simp +contextual only [go_sem, Rcb, Rbk, sevalprocAttr, hno, hs, hc2]
      refine end_id ExtT.rfl' rfl rfl ⟨rfl, rfl, rfl, _, rfl, ?_⟩
      have := RS_cut (k := 1) (by decide) (fun _ _ => RTw_len) hl (by simp)
      simpa using this
  · simp +contextual only [go_sem, Rcb, Rbk, sevalprocAttr, hno, hs]
    exact end_id ExtT.rfl' rfl rfl ⟨rfl, rfl, rfl, _, rfl, hl⟩
end
end Go.Proofs.YtoainkbcfnlkcaaGreatDoor

namespace Go.Proofs.YtoainkbcfnlkcaaGreatDoor
open Go Vc
set_option linter.unusedSimpArgs false
set_option linter.unusedVariables false
set_option maxRecDepth 10000

/-! ### words and names of the document's reader -/
theorem ct_Reserved {M : Mem} (s : Bs) (T : Tm) : CtT Tryz.prog 45 [st s] T M [] [] (fun r _ _ _ => r = .bool (wordsL.contains s)) noPan := by
  refine ct_run mx bod45 Tryz.func45 rfl (by rw [nt45]; exact Nat.le_of_ble_eq_true rfl) (dr := dr45) (by kernel_rfl) rs45 ?_
  intro hno _
  simp +contextual only [go_sem, Rcb, Rbk, sevalprocAttr]
  intro b5 hb5
  refine loop_rangeC 46 7 [(0, st s), (5, .slice (some ⟨b5, 0, none⟩) 46 46), (6, .int .i64 46)] (fun i e h => (∃ M', h = ⟨T, M', [], []⟩ ∧ M' b5 = some (wordsL.map st)) ∧ wordsL.contains s = (wordsL.drop i).contains s)
    0 (by omega) (by simp only [live, go_sem, Rcb, Rbk, sevalprocAttr]) (by simp only [go_sem, Rcb, Rbk, sevalprocAttr]) (Close_freeze fun he hb hno => Close_id ⟨⟨_, rfl, hb⟩, rfl⟩) ?_
  rintro i e h hi hlv ht ⟨⟨M2, rfl, hw⟩, hres⟩
  simp only [live, st] at hlv
  by_cases hlt : i < 46
  · have hlt' : i < wordsL.length := hlt
    have hdrop : wordsL.drop i = wordsL[i] :: wordsL.drop (i + 1) := List.drop_eq_getElem_cons hlt'
    rw [hdrop, List.contains_cons] at hres
    have hx : mcell M2 ⟨b5, i, none⟩ = some (.string (bs wordsL[i])) := by
      rw [mcell_some hw, List.getElem?_map, List.getElem?_eq_getElem hlt']
      rfl
    have hi3 : (i : Int) < 46 := by omega
    simp +contextual only [go_sem, Rcb, Rbk, sevalprocAttr, hlv, ht, hlt, hi3, hx]
    by_cases he : wordsL[i] = s
    · simp +contextual only [go_sem, Rcb, Rbk, sevalprocAttr, he]
      refine end_none ExtT.rfl' ?_
      rw [hres, he]; simp
    · simp +contextual only [go_sem, Rcb, Rbk, sevalprocAttr, he, hlv, ht]
      refine lp_range hlt ?_ ?_ ⟨⟨M2, rfl, hw⟩, ?_⟩
      · simp only [live, hlv, go_sem, Rcb, Rbk, sevalprocAttr]
      · simp only [ht, go_sem, Rcb, Rbk, sevalprocAttr, wrap_succ i (by omega)]
      · rw [hres]
        have : (s == wordsL[i]) = false := by simpa using Ne.symm he
        rw [this, Bool.false_or]
  · have : i = 46 := by omega
    subst this
    have h33 : ¬ ((46 : Nat) : Int) < 46 := by omega
    simp +contextual only [go_sem, Rcb, Rbk, sevalprocAttr, hlv, ht, h33]
    refine end_none ExtT.rfl' ?_
    rw [hres]; rfl
theorem okFrom_allR : ∀ (s : Bs) (i : Nat), okFrom i s = true → ∀ c ∈ s, (letterB c.toNat || digitB c.toNat) = true
  | [], _, _, _, hc => by cases hc
  | a :: s, i, h, c, hc => by
    simp only [okFrom, chOk, Bool.and_eq_true, Bool.or_eq_true] at h
    rcases List.mem_cons.1 hc with rfl | hc
    · simp only [Bool.or_eq_true]
      rcases h.1 with h | h
      · exact .inl h
      · exact .inr h.2
    · exact okFrom_allR s (i + 1) h.2 c hc
theorem okFrom_ofR : ∀ (s : Bs) (i : Nat), i ≠ 0 → (∀ c ∈ s, (letterB c.toNat || digitB c.toNat) = true) → okFrom i s = true
  | [], _, _, _ => rfl
  | a :: s, i, hi, h => by
    have ha := h a (List.mem_cons_self ..)
    simp only [Bool.or_eq_true] at ha
    simp only [okFrom, chOk, Bool.and_eq_true, Bool.or_eq_true, decide_eq_true_eq]
    refine ⟨?_, okFrom_ofR s (i + 1) (by omega) fun c hc => h c (List.mem_cons_of_mem _ hc)⟩
    rcases ha with ha | ha
    · exact .inl ha
    · exact .inr ⟨hi, ha⟩
theorem decode_bs {s : Bs} {i : Nat} (h : i < s.length) (ha : s[i].toNat < 128) : Utf8.decode (bs s) i = (s[i].toNat, 1) := by
  have h1 : i < (bs s).size := by rw [bs_size]; exact h
  have h2 : (bs s)[i]'h1 = s[i] := rfl
  exact decode_ascii (bs s) i h1 (by rw [h2]; exact ha)
theorem word_ascii {c : UInt8} (h : (letterB c.toNat || digitB c.toNat) = true) : c.toNat < 128 := by
  simp only [letterB, digitB, Bool.or_eq_true, Bool.and_eq_true, decide_eq_true_eq] at h
  omega
theorem ct_NamedR {M : Mem} (s : Bs) (T : Tm) : CtT Tryz.prog 15 [st s] T M [] [] (fun r _ _ _ => r = .bool (namedB s)) noPan := by
  refine ct_run mx bod15 Tryz.func15 rfl (by rw [nt15]; exact Nat.le_of_ble_eq_true rfl) (dr := dr15) (by kernel_rfl) rs15 ?_
  intro hno _
  by_cases h0 : s = []
  · subst h0
    simp +contextual only [go_sem, Rcb, Rbk, sevalprocAttr]
    exact end_none ExtT.rfl' rfl
  have hpos : 0 < s.length := List.length_pos_iff.2 h0
  have hbs : bs s = bs [] ↔ False := by rw [bs_inj]; simp [h0]
  by_cases h12 : 12 < s.length
  · have h12' : (12 : Int) < ((s.length : Nat) : Int) := by omega
    simp +contextual only [go_sem, Rcb, Rbk, sevalprocAttr, h0, h12']
    refine end_none ExtT.rfl' ?_
    have : ¬ (1 ≤ s.length ∧ s.length ≤ 12) := by omega
    simp [namedB, this]
  have h12' : ¬ (12 : Int) < ((s.length : Nat) : Int) := by omega
  have hx0 := byteAt_bs hpos
  have hp' : (0 : Int) < ((s.length : Nat) : Int) := by omega
  simp +contextual only [go_sem, Rcb, Rbk, sevalprocAttr, h0, h12', hx0, hp', hpos]
  refine rCall_pure (ct_ref_letter _ _ T) ?_ (fun _ _ _ _ h => h.elim)
  rintro v M1 hM1 hno1 rfl
  obtain ⟨c0, s0, rfl⟩ : ∃ c l, s = c :: l := by cases s with | nil => exact (h0 rfl).elim | cons c l => exact ⟨c, l, rfl⟩
  simp only [List.getElem_cons_zero]
  by_cases hl0 : letterB c0.toNat = true
  rotate_left
  · simp +contextual only [go_sem, Rcb, Rbk, sevalprocAttr, hl0]
    refine end_none ExtT.rfl' ?_
    simp [namedB, okFrom, chOk, hl0]
  generalize hs : c0 :: s0 = s at *
  simp +contextual only [go_sem, Rcb, Rbk, sevalprocAttr, hl0]
  intro g
  refine loop_rule (fun m e ds h => ds = [] ∧ (e 0 = st s ∧ e 18 = .pointer (some ⟨g, 0, none⟩)) ∧ ∃ i M1, i ≤ s.length ∧ m = s.length - i ∧ h = ⟨T, M1, [], [(.pointer (some ⟨g, 0, none⟩), 9, 0, [st s, .int .i64 ((i : Nat) : Int)])]⟩ ∧ ∀ j (hj : j < s.length), j < i → (letterB s[j].toNat || digitB s[j].toNat) = true) ⟨s.length, rfl, ⟨(by simp only [go_sem, Rcb, Rbk, sevalprocAttr]), (by simp only [go_sem, Rcb, Rbk, sevalprocAttr])⟩, 0, M1, by omega, rfl, rfl, fun j _ h => by omega⟩ ?_
  rintro m e ds h ⟨rfl, ⟨e0, e18⟩, i, M1', hi, rfl, rfl, hall⟩
  simp only [st] at e0
  by_cases hlt : i < s.length
  · have hx := byteAt_bs hlt
    have hlt' : ((i : Nat) : Int) < ((s.length : Nat) : Int) := by omega
    simp +contextual only [go_sem, Rcb, Rbk, sevalprocAttr, e0, e18, hlt, hx, hlt']
    refine rCall_pure (ct_ref_letter _ _ T) ?_ (fun _ _ _ _ h => h.elim)
    rintro v M2 hM2 hno2 rfl
    have back : ∀ (hw : (letterB s[i].toNat || digitB s[i].toNat) = true) (e' : Env), e' 0 = st s → e' 18 = .pointer (some ⟨g, 0, none⟩) → ∀ M3, ∃ m', m' < s.length - i ∧ ([] : List Deferred) = [] ∧ (e' 0 = st s ∧ e' 18 = .pointer (some ⟨g, 0, none⟩)) ∧ ∃ k M4, k ≤ s.length ∧ m' = s.length - k ∧ (⟨T, M3, [], [(.pointer (some ⟨g, 0, none⟩), 9, 0, [st s, .int .i64 ((i + (Utf8.decode (bs s) i).2 : Nat) : Int)])]⟩ : Sh) = ⟨T, M4, [], [(.pointer (some ⟨g, 0, none⟩), 9, 0, [st s, .int .i64 ((k : Nat) : Int)])]⟩ ∧ ∀ j (hj : j < s.length), j < k → (letterB s[j].toNat || digitB s[j].toNat) = true := by
      intro hw e' q0 q18 M3
      refine ⟨s.length - (i + 1), by omega, rfl, ⟨q0, q18⟩, i + 1, M3, hlt, rfl, by rw [decode_bs hlt (word_ascii hw)], fun j hj hji => ?_⟩
      by_cases h : j = i
      · subst h; exact hw
      · exact hall j hj (by omega)
    by_cases hl : letterB s[i].toNat = true
    · simp +contextual only [go_sem, Rcb, Rbk, sevalprocAttr, e0, e18, hl, hx]
      refine lp_close (Close_id (back (by rw [hl]; rfl) _ ?_ ?_ M2))
      · simp only [e0, go_sem, Rcb, Rbk, sevalprocAttr]
      · simp only [e18, go_sem, Rcb, Rbk, sevalprocAttr]
    · simp +contextual only [go_sem, Rcb, Rbk, sevalprocAttr, e0, e18, hl, hlt, hx, hlt']
      refine rCall_pure (ct_ref_digit _ _ T) ?_ (fun _ _ _ _ h => h.elim)
      rintro v M3 hM3 hno3 rfl
      by_cases hd : digitB s[i].toNat = true
      · simp +contextual only [go_sem, Rcb, Rbk, sevalprocAttr, e0, e18, hl, hx, hd]
        refine lp_close (Close_id (back (by rw [hd]; simp) _ ?_ ?_ M3))
        · simp only [e0, go_sem, Rcb, Rbk, sevalprocAttr]
        · simp only [e18, go_sem, Rcb, Rbk, sevalprocAttr]
      · simp +contextual only [go_sem, Rcb, Rbk, sevalprocAttr, e0, e18, hl, hx, hd]
        refine end_none ExtT.rfl' ?_
        have hok : okFrom 0 s = false := by
          cases ho : okFrom 0 s with
          | false => rfl
          | true =>
            have := okFrom_allR s 0 ho s[i] (List.getElem_mem _)
            simp only [Bool.not_eq_true] at hl hd
            rw [hl, hd] at this
            cases this
        simp [namedB, hok]
  · have : i = s.length := by omega
    subst this
    simp +contextual only [go_sem, Rcb, Rbk, sevalprocAttr, e0, e18, hlt]
    refine rCall_pure (ct_Reserved s T) ?_ (fun _ _ _ _ h => h.elim)
    rintro v M2 hM2 hno2 rfl
    simp +contextual only [go_sem, Rcb, Rbk, sevalprocAttr]
    refine end_none ExtT.rfl' ?_
    have hok : okFrom 0 s = true := by
      subst hs
      simp only [okFrom, chOk, hl0, Bool.true_or, Bool.true_and]
      refine okFrom_ofR s0 1 (by omega) fun c hc => ?_
      obtain ⟨j, hj, rfl⟩ := List.getElem_of_mem hc
      have := hall (j + 1) (by simpa using hj) (by simpa using hj)
      simpa using this
    have h112 : (1 ≤ s.length ∧ s.length ≤ 12) := by omega
    simp [namedB, hok, h112]
end Go.Proofs.YtoainkbcfnlkcaaGreatDoor

namespace Go.Proofs.YtoainkbcfnlkcaaGreatDoor
open Go Vc
set_option linter.unusedSimpArgs false
set_option linter.unusedVariables false
set_option maxRecDepth 10000

/-! ### steps of callers -/
section
variable {α β : Type} {T N : Tm} {M : Mem} {R : RR} {ts : List ResultVar} {pb : Nat} {lv0 lv : Value} {en op be ba : Int} {d : Option Nat} {s : List Vc.Item} {e : Env} {toks : List Tk} {F : Fi} {ds : List Deferred}
theorem good_w (L1 : LL) (k : Run Tryz.prog F s (updo e d (.bool (decide (be = 0)))) ds ⟨N, M, L1 ++ wL pb lv en op be ba, R⟩ ⟨⟩) :
    rCall Tryz.prog F 33 [.pointer (some ⟨pb, 0, none⟩)] d s e ds ⟨N, M, L1 ++ wL pb lv en op be ba, R⟩ ⟨⟩ := by
  refine rCall_one L1 ct_w_good (fun v M' L' _ _ hno h => ?_) (fun _ _ _ _ _ _ h => h.elim)
  obtain ⟨rfl, rfl, rfl, -⟩ := h
  exact k
theorem stop_w (L1 : LL) (c a : Int) (k : Run Tryz.prog F s (updo e d (.tuple #[])) ds ⟨N, M, L1 ++ wL pb lv en op (stopM c a be ba).1 (stopM c a be ba).2, R⟩ ⟨⟩) :
    rCall Tryz.prog F 37 [.pointer (some ⟨pb, 0, none⟩), .int .i64 c, .int .i64 a] d s e ds ⟨N, M, L1 ++ wL pb lv en op be ba, R⟩ ⟨⟩ := by
  refine rCall_one L1 ct_w_stop (fun v M' L' _ _ hno h => ?_) (fun _ _ _ _ _ _ h => h.elim)
  obtain ⟨rfl, rfl, rfl, -⟩ := h
  exact k
theorem at_w (L1 : LL) (hl : RS M RTw 3 toks lv) (k : Run Tryz.prog F s (updo e d (.int .i64 (atM en toks))) ds ⟨N, M, L1 ++ wL pb lv en op be ba, R⟩ ⟨⟩) :
    rCall Tryz.prog F 69 [.pointer (some ⟨pb, 0, none⟩)] d s e ds ⟨N, M, L1 ++ wL pb lv en op be ba, R⟩ ⟨⟩ := by
  refine rCall_one L1 (ct_w_at hl) (fun v M' L' _ _ hno h => ?_) (fun _ _ _ _ _ _ h => h.elim)
  obtain ⟨rfl, rfl, rfl, -⟩ := h
  exact k
theorem kind_w (L1 : LL) (hl : RS M RTw 3 toks lv) (k : Run Tryz.prog F s (updo e d (.int .u8 (kindM be toks))) ds ⟨N, M, L1 ++ wL pb lv en op be ba, R⟩ ⟨⟩) :
    rCall Tryz.prog F 111 [.pointer (some ⟨pb, 0, none⟩)] d s e ds ⟨N, M, L1 ++ wL pb lv en op be ba, R⟩ ⟨⟩ := by
  refine rCall_one L1 (ct_w_kind hl) (fun v M' L' _ _ hno h => ?_) (fun _ _ _ _ _ _ h => h.elim)
  obtain ⟨rfl, rfl, rfl, -⟩ := h
  exact k
theorem comes_w (L1 : LL) (x : Bs) (hl : RS M RTw 3 toks lv) (k : Run Tryz.prog F s (updo e d (.bool (comesM x be toks))) ds ⟨N, M, L1 ++ wL pb lv en op be ba, R⟩ ⟨⟩) :
    rCall Tryz.prog F 110 [.pointer (some ⟨pb, 0, none⟩), .string (bs x)] d s e ds ⟨N, M, L1 ++ wL pb lv en op be ba, R⟩ ⟨⟩ := by
  refine rCall_one L1 (ct_w_comes hl) (fun v M' L' _ _ hno h => ?_) (fun _ _ _ _ _ _ h => h.elim)
  obtain ⟨rfl, rfl, rfl, -⟩ := h
  exact k
theorem may_w (L1 : LL) (x : Bs) (hl : RS M RTw 3 toks lv)
    (k1 : be = 0 → seesM x toks = true → ∀ lv', RS M RTw 3 toks.tail lv' → Run Tryz.prog F s (updo e d (.bool true)) ds ⟨N, M, L1 ++ wL pb lv' en op be ba, R⟩ ⟨⟩)
    (k2 : (be = 0 → seesM x toks = false) → ∀ lv', RS M RTw 3 toks lv' → Run Tryz.prog F s (updo e d (.bool false)) ds ⟨N, M, L1 ++ wL pb lv' en op be ba, R⟩ ⟨⟩) :
    rCall Tryz.prog F 70 [.pointer (some ⟨pb, 0, none⟩), .string (bs x)] d s e ds ⟨N, M, L1 ++ wL pb lv en op be ba, R⟩ ⟨⟩ := by
  refine rCall_one L1 (ct_w_may hl) (fun v M' L' _ _ hno h => ?_) (fun _ _ _ _ _ _ h => h.elim)
  obtain ⟨rfl, rfl, -, lv', rfl, hl'⟩ := h
  cases hs : comesM x be toks with
  | true =>
    rw [hs, if_pos rfl] at hl'
    simp only [comesM, Bool.and_eq_true, decide_eq_true_eq] at hs
    exact k1 hs.1 hs.2 lv' hl'
  | false =>
    rw [hs, if_neg (by decide)] at hl'
    refine k2 (fun h0 => ?_) lv' hl'
    simpa [comesM, h0] using hs
/-- a part -/
theorem part_w {f : FuncId} {args : List Value} {enc : α → Value → Mem → Prop} {g : Rs α} (L1 : LL) (hc : CtT Tryz.prog f args N M (wL pb lv en op be ba) [] (postW pb en op enc g be ba) noPan)
    (k : ∀ v M' a t lv' be' ba', Ext M M' → noneL M' (L1 ++ wL pb lv' en op be' ba') → Rl g be ba a t be' ba' → RS M' RTw 3 t lv' → enc a v M' → Run Tryz.prog F s (updo e d v) ds ⟨N, M', L1 ++ wL pb lv' en op be' ba', R⟩ ⟨⟩) :
    rCall Tryz.prog F f args d s e ds ⟨N, M, L1 ++ wL pb lv en op be ba, R⟩ ⟨⟩ := by
  refine rCall_one L1 hc (fun v M' L' hM _ hno h => ?_) (fun _ _ _ _ _ _ h => h.elim)
  obtain ⟨a, t, lv', be', ba', hr, rfl, hl', -, he⟩ := h
  exact k v M' a t lv' be' ba' hM hno hr hl' he
/-- the end -/
theorem fin_wr {enc : α → Value → Mem → Prop} {res : Rs α} {be0 ba0 : Int} {v : Value} {a : α} (L1 : LL) (hT : ExtT T N) (hu : Up (.ok a toks) be ba res be0 ba0) (hl : RS M RTw 3 toks lv) (he : enc a v M) :
    Close ⟨N, M, L1 ++ wL pb lv en op be ba, R⟩ (endF T (keys (wL pb lv0 en op be0 ba0)) 0 (postW pb en op enc res be0 ba0) v) :=
  Close_dropL L1 (Close_dropAllR (end_id hT rfl rfl ⟨a, toks, lv, be, ba, hu.ok, rfl, hl, rfl, he⟩))
end
theorem ct_w_must {M : Mem} {pb : Nat} {toks : List Tk} {lv sv : Value} {en op be ba : Int} {l : List Bs} (hl : RS M RTw 3 toks lv) (hs : RS M RSt 1 l sv) (T : Tm) :
    CtT Tryz.prog 36 [.pointer (some ⟨pb, 0, none⟩), sv] T M (wL pb lv en op be ba) [] (postW pb en op (fun _ v _ => v = .tuple #[]) (needM en l toks) be ba) noPan := by
  obtain ⟨hb, a, c, rfl, hle, _, hget⟩ := RS_elim (by decide) (fun _ _ => RSt_len) hs
  refine ct_run mx bod36 Tryz.func36 rfl (by rw [nt36]; exact Nat.le_of_ble_eq_true rfl) (dr := dr36) (by kernel_rfl) rs36 ?_
  intro hno _
  simp only [noneL_wL] at hno
  simp +contextual only [go_sem, Rcb, Rbk, sevalprocAttr]
  refine loop_range l.length 8 [(0, .pointer (some ⟨pb, 0, none⟩)), (6, .slice a l.length c), (7, .int .i64 l.length)] (fun i e h => ∃ M' toks' lv' be' ba', Ext M M' ∧ h = ⟨T, M', wL pb lv' en op be' ba', []⟩ ∧ M' pb = none ∧ RS M' RTw 3 toks' lv' ∧ Up (needM en (l.drop i) toks') be' ba' (needM en l toks) be ba) 0 (by omega) (by simp only [live, go_sem, Rcb, Rbk, sevalprocAttr]) (by simp only [go_sem, Rcb, Rbk, sevalprocAttr]) ⟨M, toks, lv, be, ba, Ext.rfl', rfl, hno, hl, Up.rfl'⟩ ?_
  rintro i e h hi hlv ht ⟨M', toks', lv', be', ba', hM, rfl, hno', hl', hu⟩
  simp only [live] at hlv
  by_cases hlt : i < l.length
  · obtain ⟨b, o, cs, rfl, hat, hrs⟩ := hget i l[i] (List.getElem?_eq_getElem hlt)
    unfold RSt at hrs; subst hrs
    have hx := mcell_ext hM hat.1
    rw [Nat.mul_one] at hx
    have hdrop : l.drop i = l[i] :: l.drop (i + 1) := List.drop_eq_getElem_cons hlt
    rw [hdrop] at hu
    simp +contextual only [go_sem, Rcb, Rbk, sevalprocAttr, hlv, ht, hlt, hx]
    refine may_w [] l[i] hl' (fun h0 hs lv2 hl2 => ?_) (fun hs lv2 hl2 => ?_)
    · simp +contextual only [go_sem, Rcb, Rbk, sevalprocAttr, hlv, ht]
      refine lp_range hlt ?_ ?_ ⟨M', toks'.tail, lv2, be', ba', hM, rfl, hno', hl2, hu.congr fun _ => by rw [needM, if_pos hs]⟩
      · simp only [live, hlv, go_sem, Rcb, Rbk, sevalprocAttr]
      · simp only [ht, go_sem, Rcb, Rbk, sevalprocAttr, wrap_succ i (by omega)]
    · simp +contextual only [go_sem, Rcb, Rbk, sevalprocAttr, hlv, ht]
      refine at_w [] hl2 ?_
      simp +contextual only [go_sem, Rcb, Rbk, sevalprocAttr, hlv, ht]
      refine stop_w [] 2 _ ?_
      simp +contextual only [go_sem, Rcb, Rbk, sevalprocAttr, hlv, ht]
      refine lp_range hlt ?_ ?_ ⟨M', toks', lv2, _, _, hM, rfl, hno', hl2, hu.stopped (fun h0 => ?_) (by decide)⟩
      · simp only [live, hlv, go_sem, Rcb, Rbk, sevalprocAttr]
      · simp only [ht, go_sem, Rcb, Rbk, sevalprocAttr, wrap_succ i (by omega)]
      · rw [needM, if_neg (by rw [hs h0]; decide)]
  · have : i = l.length := by omega
    subst this
    simp +contextual only [go_sem, Rcb, Rbk, sevalprocAttr, hlv, ht, hlt]
    refine fin_wr (a := ()) [] ExtT.rfl' (hu.congr fun _ => by rw [List.drop_length]; rfl) hl' rfl
section
variable {β : Type} {T N : Tm} {M : Mem} {R : RR} {pb : Nat} {lv : Value} {en op be ba : Int} {d : Option Nat} {s : List Vc.Item} {e : Env} {toks : List Tk} {F : Fi} {ds : List Deferred}
theorem must_w {res : Rs β} {Fk : Unit → List Tk → Rs β} {be0 ba0 : Int} (L1 : LL) {x : Bs} {b : Nat} (hu : Up ((needM en [x] toks).bind Fk) be ba res be0 ba0) (hl : RS M RTw 3 toks lv)
    (k : ∀ M' t lv' be' ba', Ext M M' → noneL M' (L1 ++ wL pb lv' en op be' ba') → Up (Fk () t) be' ba' res be0 ba0 → RS M' RTw 3 t lv' →
      Run Tryz.prog F s (updo e d (.tuple #[])) ds ⟨N, M', L1 ++ wL pb lv' en op be' ba', R⟩ ⟨⟩) :
    rCall Tryz.prog F 36 [.pointer (some ⟨pb, 0, none⟩), .slice (some ⟨b, 0, none⟩) 1 1] d s e ds ⟨N, M, (b, [.string (bs x)]) :: (L1 ++ wL pb lv en op be ba), R⟩ ⟨⟩ := by
  refine rCall_frz bod36 fun M1 hM1 hb hno1 => ?_
  have hl1 := RS_ext hM1 (fun _ _ h => h) hl
  have hs : RS M1 RSt 1 [x] (.slice (some ⟨b, 0, none⟩) 1 1) := RS_lit (fun _ _ => RSt_len) hb (RL_strs [x]) rfl (by decide)
  refine part_w L1 (ct_w_must hl1 hs N) ?_
  rintro v M' a t lv' be' ba' hM hno hr hl' rfl
  exact k M' t lv' be' ba' (hM1.trans hM) hno (hu.bind hr) hl'
end
theorem ct_w_room {M : Mem} {pb : Nat} {toks : List Tk} {lv : Value} {en op be ba n m : Int} (hl : RS M RTw 3 toks lv) (T : Tm) :
    CtT Tryz.prog 34 [.pointer (some ⟨pb, 0, none⟩), .int .i64 n, .int .i64 m] T M (wL pb lv en op be ba) [] (postW pb en op (fun _ v _ => v = .tuple #[]) (if n = m then .err 5 (atM en toks) else .ok () toks) be ba) noPan := by
  refine ct_run mx bod34 Tryz.func34 rfl (by rw [nt34]; exact Nat.le_of_ble_eq_true rfl) (dr := dr34) (by kernel_rfl) rs34 ?_
  intro hno _
  simp only [noneL_wL] at hno
  by_cases h : n = m
  · simp +contextual only [go_sem, Rcb, Rbk, sevalprocAttr, h]
    refine at_w [] hl ?_
    simp +contextual only [go_sem, Rcb, Rbk, sevalprocAttr]
    refine stop_w [] 5 _ ?_
    simp +contextual only [go_sem, Rcb, Rbk, sevalprocAttr]
    exact fin_wr (a := ()) [] ExtT.rfl' (Up.stopped Up.rfl' (fun _ => if_pos h) (by decide)) hl rfl
  · simp +contextual only [go_sem, Rcb, Rbk, sevalprocAttr, h]
    exact fin_wr (a := ()) [] ExtT.rfl' Up.rfl' hl rfl
theorem ct_w_name {M : Mem} {pb : Nat} {toks : List Tk} {lv : Value} {en op be ba : Int} (hl : RS M RTw 3 toks lv) (T : Tm) :
    CtT Tryz.prog 71 [.pointer (some ⟨pb, 0, none⟩)] T M (wL pb lv en op be ba) [] (postW pb en op (fun s v _ => v = st s) (nameM en toks) be ba) noPan := by
  refine ct_run mx bod71 Tryz.func71 rfl (by rw [nt71]; exact Nat.le_of_ble_eq_true rfl) (dr := dr71) (by kernel_rfl) rs71 ?_
  intro hno _
  simp only [noneL_wL] at hno
  simp +contextual only [go_sem, Rcb, Rbk, sevalprocAttr]
  refine kind_w [] hl ?_
  have hb : ∀ {t : Tk} {r : List Tk}, kindM be (t :: r) = if be = 0 then kc t.k else 0 := rfl
  rcases tokw_cases hl with ⟨rfl, a, c, rfl⟩ | ⟨t, r, b, o, c, rfl, rfl, hc, hk, hn, h0, h1, h2⟩
  · simp +contextual only [go_sem, Rcb, Rbk, sevalprocAttr, kindM]
    refine at_w [] hl ?_
    simp +contextual only [go_sem, Rcb, Rbk, sevalprocAttr]
    refine stop_w [] 2 _ ?_
    simp +contextual only [go_sem, Rcb, Rbk, sevalprocAttr]
    exact fin_wr (a := []) [] ExtT.rfl' (Up.stopped Up.rfl' (fun _ => rfl) (by decide)) hl rfl
  · by_cases hg : be = 0 ∧ t.k = 1
    · have q : kindM be (t :: r) = 119 := by rw [hb, if_pos hg.1, kc_eq1 hk]; exact hg.2
      simp +contextual only [go_sem, Rcb, Rbk, sevalprocAttr, q, hno, h0, h1, h2]
      refine rCall_pure (ct_NamedR t.s T) ?_ (fun _ _ _ _ h => h.elim)
      rintro v M1 hM1 hno1 rfl
      simp only [noneL_wL] at hno1
      have hl1 := RS_ext hM1 (fun _ _ h => h) hl
      cases hnm : namedB t.s with
      | true =>
        have hc2 : (1 : Int) ≤ ((r.length + 1 : Nat) : Int) ∧ r.length + 1 ≤ c := ⟨by omega, hc⟩
        simp +contextual only [go_sem, Rcb, Rbk, sevalprocAttr, hno1, hc2]
        refine fin_wr (a := t.s) (toks := r) [] ExtT.rfl' (Up.rfl'.congr fun _ => ?_) ?_ rfl
        · rw [nameM, if_pos hg.2, if_pos hnm]
        · have := RS_cut (k := 1) (by decide) (fun _ _ => RTw_len) hl1 (by simp)
          simpa using this
      | false =>
        simp +contextual only [go_sem, Rcb, Rbk, sevalprocAttr]
        refine at_w [] hl1 ?_
        simp +contextual only [go_sem, Rcb, Rbk, sevalprocAttr]
        refine stop_w [] 7 _ ?_
        simp +contextual only [go_sem, Rcb, Rbk, sevalprocAttr]
        refine fin_wr (a := []) [] ExtT.rfl' (Up.stopped Up.rfl' (fun _ => ?_) (by decide)) hl1 rfl
        rw [nameM, if_pos hg.2, if_neg (by rw [hnm]; decide)]; rfl
    · have q : ¬ kindM be (t :: r) = 119 := by
        rw [hb]
        split
        · rename_i h; rw [kc_eq1 hk]; exact fun h1 => hg ⟨h, h1⟩
        · decide
      simp +contextual only [go_sem, Rcb, Rbk, sevalprocAttr, q, hno]
      refine at_w [] hl ?_
      simp +contextual only [go_sem, Rcb, Rbk, sevalprocAttr]
      refine stop_w [] 2 _ ?_
      simp +contextual only [go_sem, Rcb, Rbk, sevalprocAttr]
      refine fin_wr (a := []) [] ExtT.rfl' (Up.stopped Up.rfl' (fun hb0 => ?_) (by decide)) hl rfl
      rw [nameM, if_neg fun h1 => hg ⟨hb0, h1⟩]; rfl
end Go.Proofs.YtoainkbcfnlkcaaGreatDoor

namespace Go.Proofs.YtoainkbcfnlkcaaGreatDoor
open Go Vc
set_option linter.unusedSimpArgs false
set_option linter.unusedVariables false
set_option maxRecDepth 10000

theorem numM_step (s : Bs) (i : Nat) (h : i < s.length) : numM (s.take (i + 1)) = numM (s.take i) * 10 + (s[i].toNat - 48) := by
  unfold numM
  rw [List.take_succ_eq_append_getElem h, List.foldl_append]; rfl
theorem numOk_parts {s : Bs} (h : numOk s = true) : (1 ≤ s.length ∧ s.length ≤ 16) ∧ (s.all fun c => digitB c.toNat) = true := by
  simpa [numOk] using h
theorem numM_lt {s : Bs} (h : numOk s = true) (i : Nat) : numM (s.take i) < 10000000000000000 := by
  obtain ⟨h1, h2⟩ := numOk_parts h
  have hl : (s.take i).length ≤ 16 := by rw [List.length_take]; omega
  have := (uintM (s.take i) 0 0 (by decide) (by omega) (by
    rw [List.all_eq_true] at h2 ⊢
    exact fun c hc => h2 c (List.mem_of_mem_take hc))).2
  refine Nat.lt_of_lt_of_le this ?_
  rw [Nat.zero_add]
  exact Nat.le_trans (Nat.pow_le_pow_right (by decide) hl) (by decide)
theorem may_w1 {N : Tm} {M : Mem} {R : RR} {pb : Nat} {lv : Value} {en op be ba : Int} {d : Option Nat} {s : List Vc.Item} {e : Env} {toks : List Tk} {F : Fi} {ds : List Deferred} (L1 : LL) (x : Bs) (hl : RS M RTw 3 toks lv)
    (k : ∀ (b : Bool) t lv', (be = 0 → b = seesM x toks) → (be = 0 → t = if b = true then toks.tail else toks) → RS M RTw 3 t lv' → Run Tryz.prog F s (updo e d (.bool b)) ds ⟨N, M, L1 ++ wL pb lv' en op be ba, R⟩ ⟨⟩) :
    rCall Tryz.prog F 70 [.pointer (some ⟨pb, 0, none⟩), .string (bs x)] d s e ds ⟨N, M, L1 ++ wL pb lv en op be ba, R⟩ ⟨⟩ := by
  refine may_w L1 x hl (fun h0 hs lv' hl' => k true toks.tail lv' (fun _ => hs.symm) (fun _ => by simp) hl') (fun hs lv' hl' => k false toks lv' (fun h => (hs h).symm) (fun _ => by simp) hl')
theorem kind_cases {be : Int} {toks : List Tk} {M : Mem} {lv : Value} (hl : RS M RTw 3 toks lv) (c k : Int) (hc : c ≠ 0) (hk : ∀ {n : Int}, 1 ≤ n ∧ n ≤ 4 → (kc n = c) = (n = k)) : (be = 0 ∧ headIs k toks = true ∧ kindM be toks = c) ∨ ((be = 0 → headIs k toks = false) ∧ ¬ kindM be toks = c) := by
  rcases tokw_cases hl with ⟨rfl, a, c', rfl⟩ | ⟨t, r, b, o, c', rfl, rfl, _, hk', _⟩
  · exact .inr ⟨fun _ => rfl, fun h => hc h.symm⟩
  · by_cases h0 : be = 0
    · have h1 : kindM be (t :: r) = kc t.k := if_pos h0
      by_cases h2 : t.k = k
      · exact .inl ⟨h0, by simp [headIs, h2], by rw [h1, hk hk']; exact h2⟩
      · exact .inr ⟨fun _ => by simp [headIs, h2], by rw [h1, hk hk']; exact h2⟩
    · have h1 : kindM be (t :: r) = 0 := if_neg h0
      exact .inr ⟨fun h => (h0 h).elim, by rw [h1]; exact fun h => hc h.symm⟩
theorem ct_w_num {M : Mem} {pb : Nat} {toks : List Tk} {lv : Value} {en op be ba : Int} (hl : RS M RTw 3 toks lv) (T : Tm) :
    CtT Tryz.prog 114 [.pointer (some ⟨pb, 0, none⟩)] T M (wL pb lv en op be ba) [] (postW pb en op (fun n v _ => v = .int .i64 n) (intM en toks) be ba) noPan := by
  refine ct_run mx bod114 Tryz.func114 rfl (by rw [nt114]; exact Nat.le_of_ble_eq_true rfl) (dr := dr114) (by kernel_rfl) rs114 ?_
  intro hno _
  simp only [noneL_wL] at hno
  simp +contextual only [go_sem, Rcb, Rbk, sevalprocAttr]
  refine at_w [] hl ?_
  simp +contextual only [go_sem, Rcb, Rbk, sevalprocAttr]
  refine may_w1 [] minus hl fun neg t1 lv1 hneg ht1 hl1 => ?_
  have hu : Up (intT neg (atM en toks) en t1) be ba (intM en toks) be ba := Up.rfl'.congr fun h0 => by
    have e1 := hneg h0
    subst e1
    rw [ht1 h0]; rfl
  simp +contextual only [go_sem, Rcb, Rbk, sevalprocAttr]
  refine kind_w [] hl1 ?_
  rcases kind_cases (be := be) hl1 110 2 (by decide) kc_eq2 with ⟨h0, hh, hk⟩ | ⟨hh, hk⟩
  · rcases tokw_cases hl1 with ⟨rfl, a, c, rfl⟩ | ⟨t, r, b, o, c, rfl, rfl, hc, hkk, hn, y0, y1, y2⟩
    · cases hh
    have hk2 : t.k = 2 := by simpa [headIs] using hh
    have hnum := hn hk2
    obtain ⟨⟨hlen1, hlen2⟩, hdig⟩ := numOk_parts hnum
    have hu2 : Up (if (numM t.s : Int) > 1000000000000000 then .err 3 (atM en toks) else .ok (if neg = true then -(numM t.s : Int) else numM t.s) r) be ba (intM en toks) be ba := hu.congr fun _ => by rw [intT, if_pos hk2]
    simp +contextual only [go_sem, Rcb, Rbk, sevalprocAttr, hk, hno, y0, y1, y2]
    intro gb gc junk hgb hap
    have he : Ext M (M.add gb ((bs t.s).data.toList.map (fun b => Value.int .u8 b.toNat) ++ junk)) := Ext.add hgb
    have hpb : (M.add gb ((bs t.s).data.toList.map (fun b => Value.int .u8 b.toNat) ++ junk)) pb = none := by
      unfold Mem.add; rw [if_neg hap.2]; exact hno
    have hgc : (M.add gb ((bs t.s).data.toList.map (fun b => Value.int .u8 b.toNat) ++ junk)) gb = some (t.s.map (fun b => Value.int .u8 b.toNat) ++ junk) := by simp [Mem.add, bs]
    generalize M.add gb ((bs t.s).data.toList.map (fun b => Value.int .u8 b.toNat) ++ junk) = M1 at *
    have hl2 := RS_ext he (fun _ _ h => h) hl1
    refine loop_range t.s.length 28 [(0, .pointer (some ⟨pb, 0, none⟩)), (3, .int .i64 (atM en toks)), (4, .bool neg), (26, .slice (some ⟨gb, 0, none⟩) t.s.length gc), (27, .int .i64 t.s.length)] (fun i e h => e 5 = .int .i64 (numM (t.s.take i) : Nat) ∧ h = ⟨T, M1, wL pb (.slice (some ⟨b, o, none⟩) (r.length + 1) c) en op be ba, []⟩) 0 (by omega) (by simp only [live, go_sem, Rcb, Rbk, sevalprocAttr]) (by simp only [go_sem, Rcb, Rbk, sevalprocAttr]) ⟨by simp only [go_sem, Rcb, Rbk, sevalprocAttr]; rfl, rfl⟩ ?_
    rintro i e h hi hlv ht ⟨e5, rfl⟩
    simp only [live] at hlv
    by_cases hlt : i < t.s.length
    · have hx : mcell M1 ⟨gb, i, none⟩ = some (.int .u8 (t.s[i].toNat : Int)) := by
        rw [mcell_some hgc, List.getElem?_append_left (by simpa using hlt), List.getElem?_map, List.getElem?_eq_getElem hlt]; rfl
      have hlt' : ((i : Nat) : Int) < ((t.s.length : Nat) : Int) := by omega
      have hdi : 48 ≤ t.s[i].toNat ∧ t.s[i].toNat ≤ 57 := by
        have := List.all_eq_true.1 hdig t.s[i] (List.getElem_mem _)
        simp only [digitB, Bool.and_eq_true, decide_eq_true_eq] at this
        omega
      have hni := numM_lt hnum i
      have w1 : IntKind.i64.wrap (10 * (numM (t.s.take i) : Int)) = 10 * (numM (t.s.take i) : Int) := wrap64 (by omega) (by omega)
      have w2 : IntKind.u8.wrap ((t.s[i].toNat : Int) - 48) = (t.s[i].toNat : Int) - 48 := by
        unfold IntKind.wrap
        simp only [IntKind.bits, IntKind.signed]
        simp
        omega
      have w3 : IntKind.i64.wrap ((t.s[i].toNat : Int) - 48) = (t.s[i].toNat : Int) - 48 := wrap64 (by omega) (by omega)
      have w4 : IntKind.i64.wrap (10 * (numM (t.s.take i) : Int) + ((t.s[i].toNat : Int) - 48)) = 10 * (numM (t.s.take i) : Int) + ((t.s[i].toNat : Int) - 48) := wrap64 (by omega) (by omega)
      simp +contextual only [go_sem, Rcb, Rbk, sevalprocAttr, hlv, ht, e5, hlt, hlt', hx, w1, w2, w3, w4]
      refine lp_range hlt ?_ ?_ ⟨?_, rfl⟩
      · simp only [live, hlv, go_sem, Rcb, Rbk, sevalprocAttr]
      · simp only [ht, go_sem, Rcb, Rbk, sevalprocAttr, wrap_succ i (by omega)]
      · simp only [go_sem, Rcb, Rbk, sevalprocAttr]
        rw [numM_step _ _ hlt]
        refine int_eq ?_
        omega
    · have : i = t.s.length := by omega
      subst this
      rw [List.take_length] at e5
      have hlt' : ¬ ((t.s.length : Nat) : Int) < ((t.s.length : Nat) : Int) := by omega
      have hnb := numM_lt hnum t.s.length
      rw [List.take_length] at hnb
      have hc2 : (1 : Int) ≤ ((r.length + 1 : Nat) : Int) ∧ r.length + 1 ≤ c := ⟨by omega, hc⟩
      have hlr : RS M1 RTw 3 r (.slice (cutA (some ⟨b, o, none⟩) c 1 3) (r.length + 1 - 1) (c - 1)) := by
        have := RS_cut (k := 1) (by decide) (fun _ _ => RTw_len) hl2 (by simp)
        simpa using this
      by_cases hbig : (numM t.s : Int) > 1000000000000000
      · have hus : Up (.ok (if neg = true then -(numM t.s : Int) else numM t.s) r) (stopM 3 (atM en toks) be ba).1 (stopM 3 (atM en toks) be ba).2 (intM en toks) be ba := hu2.stopped (fun _ => if_pos hbig) (by decide)
        have hbig' : (1000000000000000 : Int) < (numM t.s : Int) := hbig
        simp +contextual only [go_sem, Rcb, Rbk, sevalprocAttr, hlv, ht, e5, hlt', hbig']
        refine stop_w [] 3 _ ?_
        cases neg with
        | true =>
          simp +contextual only [go_sem, Rcb, Rbk, sevalprocAttr, hlv, ht, e5, hpb, hc2]
          exact fin_wr [] ExtT.rfl' hus hlr (int_eq (by rw [if_pos rfl, wrap64 (by omega) (by omega)]; omega))
        | false =>
          simp +contextual only [go_sem, Rcb, Rbk, sevalprocAttr, hlv, ht, e5, hpb, hc2]
          exact fin_wr [] ExtT.rfl' hus hlr rfl
      · have hus : Up (.ok (if neg = true then -(numM t.s : Int) else numM t.s) r) be ba (intM en toks) be ba := hu2.congr fun _ => if_neg hbig
        have hbig' : ¬ (1000000000000000 : Int) < (numM t.s : Int) := hbig
        cases neg with
        | true =>
          simp +contextual only [go_sem, Rcb, Rbk, sevalprocAttr, hlv, ht, e5, hlt', hbig', hpb, hc2]
          exact fin_wr [] ExtT.rfl' hus hlr (int_eq (by rw [if_pos rfl, wrap64 (by omega) (by omega)]; omega))
        | false =>
          simp +contextual only [go_sem, Rcb, Rbk, sevalprocAttr, hlv, ht, e5, hlt', hbig', hpb, hc2]
          exact fin_wr [] ExtT.rfl' hus hlr rfl
  · have herr : be = 0 → intT neg (atM en toks) en t1 = .err 2 (atM en t1) := fun h0 => by
      have := hh h0
      cases t1 with
      | nil => rfl
      | cons t r => rw [intT, if_neg (by simpa [headIs] using this)]; rfl
    simp +contextual only [go_sem, Rcb, Rbk, sevalprocAttr, hk]
    refine at_w [] hl1 ?_
    simp +contextual only [go_sem, Rcb, Rbk, sevalprocAttr]
    refine stop_w [] 2 _ ?_
    simp +contextual only [go_sem, Rcb, Rbk, sevalprocAttr]
    exact fin_wr (a := 0) [] ExtT.rfl' (hu.stopped herr (by decide)) hl1 rfl
theorem map_bind {α β : Type} {r : Rs α} {f : α → β} : r.map f = r.bind fun a t => .ok (f a) t := by
  cases r <;> rfl
theorem ct_w_value {M : Mem} {pb : Nat} {toks : List Tk} {lv : Value} {en op be ba : Int} (hl : RS M RTw 3 toks lv) (T : Tm) :
    CtT Tryz.prog 115 [.pointer (some ⟨pb, 0, none⟩)] T M (wL pb lv en op be ba) [] (postW pb en op encV (valueM en toks) be ba) noPan := by
  refine ct_run mx bod115 Tryz.func115 rfl (by rw [nt115]; exact Nat.le_of_ble_eq_true rfl) (dr := dr115) (by kernel_rfl) rs115 ?_
  intro hno _
  simp only [noneL_wL] at hno
  simp +contextual only [go_sem, Rcb, Rbk, sevalprocAttr]
  intro b2 T2 hb2 hap hT hTb
  have hu : Up (valueM en toks) be ba (valueM en toks) be ba := Up.rfl'
  refine may_w [(b2, _)] wNull hl (fun h0 hs1 lv1 hl1 => ?_) (fun hs1 lv1 hl1 => ?_)
  · simp +contextual only [go_sem, Rcb, Rbk, sevalprocAttr, hap, hb2, hno]
    exact fin_wr (a := some (⟨1, 0, []⟩ : V)) [(b2, _)] hT (hu.congr fun _ => by simp [valueM, hs1]) hl1 rfl
  simp +contextual only [go_sem, Rcb, Rbk, sevalprocAttr]
  refine may_w [(b2, _)] wTrue hl1 (fun h0 hs2 lv2 hl2 => ?_) (fun hs2 lv2 hl2 => ?_)
  · simp +contextual only [go_sem, Rcb, Rbk, sevalprocAttr, hap, hb2, hno]
    exact fin_wr (a := some (⟨2, 1, []⟩ : V)) [(b2, _)] hT (hu.congr fun h0 => by simp [valueM, hs1 h0, hs2]) hl2 rfl
  simp +contextual only [go_sem, Rcb, Rbk, sevalprocAttr]
  refine may_w [(b2, _)] wFalse hl2 (fun h0 hs3 lv3 hl3 => ?_) (fun hs3 lv3 hl3 => ?_)
  · simp +contextual only [go_sem, Rcb, Rbk, sevalprocAttr, hap, hb2, hno]
    exact fin_wr (a := some (⟨2, 0, []⟩ : V)) [(b2, _)] hT (hu.congr fun h0 => by simp [valueM, hs1 h0, hs2 h0, hs3]) hl3 rfl
  have hval : be = 0 → valueM en toks = if seesM minus toks = true ∨ headIs 2 toks = true then (intM en toks).bind fun n t => .ok (some ⟨3, n, []⟩) t
    else if headIs 3 toks = true then .ok (some (textV toks)) toks.tail else .ok none toks := fun h0 => by rw [← map_bind]; simp [valueM, hs1 h0, hs2 h0, hs3 h0]
  replace hu := hu.congr hval
  clear hval hs1 hs2 hs3 hl1 hl2
  simp +contextual only [go_sem, Rcb, Rbk, sevalprocAttr]
  refine kind_w [(b2, _)] hl3 ?_
  have num : ∀ {e : Env} {d : Option Nat} {s : List Vc.Item} {F : Fi}, (seesM minus toks = true ∨ headIs 2 toks = true) → ∀ {L1 : LL} {R : RR}, (∀ v M' t lv' be' ba' n, Ext M M' → noneL M' (L1 ++ wL pb lv' en op be' ba') → Up (.ok (some (⟨3, n, []⟩ : V)) t) be' ba' (valueM en toks) be ba → RS M' RTw 3 t lv' → v = .int .i64 n → Run Tryz.prog F s (updo e d v) [] ⟨T2, M', L1 ++ wL pb lv' en op be' ba', R⟩ ⟨⟩) → rCall Tryz.prog F 114 [.pointer (some ⟨pb, 0, none⟩)] d s e [] ⟨T2, M, L1 ++ wL pb lv3 en op be ba, R⟩ ⟨⟩ := by
    intro e d s F hn L1 R k
    refine part_w L1 (ct_w_num hl3 T2) ?_
    intro v M' n t lv' be' ba' hM hno9 hr hl' he
    exact k v M' t lv' be' ba' n hM hno9 ((hu.congr fun _ => if_pos hn).bind hr) hl' he
  rcases kind_cases (be := be) hl3 110 2 (by decide) kc_eq2 with ⟨h0, hh, hk⟩ | ⟨hh, hk⟩
  · simp +contextual only [go_sem, Rcb, Rbk, sevalprocAttr, hk]
    refine num (.inr hh) (L1 := [(b2, _)]) ?_
    rintro v M' t lv' be' ba' n hM hno9 hu' hl' rfl
    simp only [List.cons_append, List.nil_append, noneL, noneL_wL] at hno9
    simp +contextual only [go_sem, Rcb, Rbk, sevalprocAttr, hno9, hap]
    exact fin_wr [(b2, _)] hT hu' hl' rfl
  · simp +contextual only [go_sem, Rcb, Rbk, sevalprocAttr, hk]
    refine comes_w [(b2, _)] minus hl3 ?_
    by_cases hc : comesM minus be toks = true
    · have hc' := hc
      simp only [comesM, Bool.and_eq_true, decide_eq_true_eq] at hc'
      simp +contextual only [go_sem, Rcb, Rbk, sevalprocAttr, hc]
      refine num (.inl hc'.2) (L1 := [(b2, _)]) ?_
      rintro v M' t lv' be' ba' n hM hno9 hu' hl' rfl
      simp only [List.cons_append, List.nil_append, noneL, noneL_wL] at hno9
      simp +contextual only [go_sem, Rcb, Rbk, sevalprocAttr, hno9, hap]
      exact fin_wr [(b2, _)] hT hu' hl' rfl
    · have hu2 := hu.congr fun h0 => by
        have : seesM minus toks = false := by simpa [comesM, h0] using hc
        exact if_neg (by rw [this, hh h0]; decide)
      simp +contextual only [go_sem, Rcb, Rbk, sevalprocAttr, hc]
      refine kind_w [(b2, _)] hl3 ?_
      rcases kind_cases (be := be) hl3 116 3 (by decide) kc_eq3 with ⟨h0, hh3, hk3⟩ | ⟨hh3, hk3⟩
      · rcases tokw_cases hl3 with ⟨rfl, a, c, rfl⟩ | ⟨t, r, b, o, c, rfl, rfl, hcc, hkk, hn, y0, y1, y2⟩
        · cases hh3
        have hc2 : (1 : Int) ≤ ((r.length + 1 : Nat) : Int) ∧ r.length + 1 ≤ c := ⟨by omega, hcc⟩
        have hlr : RS M RTw 3 r (.slice (cutA (some ⟨b, o, none⟩) c 1 3) (r.length + 1 - 1) (c - 1)) := by
          have := RS_cut (k := 1) (by decide) (fun _ _ => RTw_len) hl3 (by simp)
          simpa using this
        have hu3 := hu2.congr fun _ => if_pos hh3
        simp +contextual only [go_sem, Rcb, Rbk, sevalprocAttr, hk3, hno, hb2, hap, y0, y1, y2]
        intro b4 T4 hb4 hap4 hT4 hTb4
        simp +contextual only [go_sem, Rcb, Rbk, sevalprocAttr, hk3, hno, hb2, hap, hb4, hap4, y0, y1, y2, hc2]
        exact fin_wr (a := some (textV (t :: r))) (toks := r) [(b4, _), (b2, _)] (hT.trans hT4) hu3 hlr rfl
      · simp +contextual only [go_sem, Rcb, Rbk, sevalprocAttr, hk3, hap, hb2, hno]
        exact fin_wr (a := none) [(b2, _)] hT (hu2.congr fun h0 => if_neg (by rw [hh3 h0]; decide)) hl3 rfl
end Go.Proofs.YtoainkbcfnlkcaaGreatDoor

namespace Go.Proofs.YtoainkbcfnlkcaaGreatDoor
open Go Vc
set_option linter.unusedSimpArgs false
set_option linter.unusedVariables false
set_option maxRecDepth 10000

theorem ct_pair {M : Mem} (k : Int) {x y : X} {cs ds : List Value} (hx : RX M x cs) (hy : RX M y ds) (T : Tm) : CtT Tryz.prog 151 [.int .i64 k, .agg ⟨cs⟩, .agg ⟨ds⟩] T M [] [] (fun v M' _ _ => encX (mkX k [x, y]) v M') noPan := by
  obtain ⟨s, rfl, h1, hs⟩ := RX_form hx
  obtain ⟨s', rfl, h1', hs'⟩ := RX_form hy
  refine ct_run mx bod151 Tryz.func151 rfl (by rw [nt151]; exact Nat.le_of_ble_eq_true rfl) (dr := dr151) (by kernel_rfl) rs151 ?_
  intro hno _
  simp +contextual only [go_sem, Rcb, Rbk, sevalprocAttr]
  intro b T1 hb hT1 hTb b1 T2 hb1 hap1 hT2 hTb1 b2 T3 hb2 hap2 hT3 hTb2 b3 hb3 hap3
  refine Close_freeze fun he hM _ => ?_
  refine end_none ((hT1.trans hT2).trans hT3) ?_
  refine ⟨_, rfl, RX_mk ?_⟩
  exact RS_lit (l := [x, y]) (fun _ _ h => RX_len h) hM (RL_append (RL_one (RX_ext he _ _ hx)) (RL_one (RX_ext he _ _ hy))) rfl (by decide)
/-- one deeper -/
theorem Up.into {α : Type} {C res : Rs α} {op a be ba be0 ba0 : Int} (h : Up (if op + 1 > 100 then .err 4 a else C) be ba res be0 ba0) {be' ba' : Int} (h1 : be ≠ 0 → be' = be ∧ ba' = ba) (h2 : be = 0 → op + 1 > 100 ∧ be' = 4 ∧ ba' = a) (c' : Rs α) : Up c' be' ba' res be0 ba0 := by
  by_cases h0 : be = 0
  · obtain ⟨h3, rfl, rfl⟩ := h2 h0
    have := h.stopped (c' := c') (e := 4) (x := ba') (fun _ => if_pos h3) (by decide)
    unfold stopM at this
    rw [if_pos h0] at this
    exact this
  · obtain ⟨rfl, rfl⟩ := h1 h0
    exact h.congr fun h => (h0 h).elim
theorem in_w {N : Tm} {M : Mem} {R : RR} {pb : Nat} {lv : Value} {en op be ba : Int} {d : Option Nat} {s : List Vc.Item} {e : Env} {toks : List Tk} {F : Fi} {ds : List Deferred} (L1 : LL) (hop : 0 ≤ op ∧ op ≤ 100) (hl : RS M RTw 3 toks lv)
    (k1 : be = 0 → ¬ op + 1 > 100 → Run Tryz.prog F s (updo e d (.bool true)) ds ⟨N, M, L1 ++ wL pb lv en (op + 1) be ba, R⟩ ⟨⟩)
    (k2 : ∀ be' ba', be' ≠ 0 → (be ≠ 0 → be' = be ∧ ba' = ba) → (be = 0 → op + 1 > 100 ∧ be' = 4 ∧ ba' = atM en toks) → Run Tryz.prog F s (updo e d (.bool false)) ds ⟨N, M, L1 ++ wL pb lv en (op + 1) be' ba', R⟩ ⟨⟩) :
    rCall Tryz.prog F 116 [.pointer (some ⟨pb, 0, none⟩)] d s e ds ⟨N, M, L1 ++ wL pb lv en op be ba, R⟩ ⟨⟩ := by
  have hc : CtT Tryz.prog 116 [.pointer (some ⟨pb, 0, none⟩)] N M (wL pb lv en op be ba) [] (fun r M' L' R' => M' = M ∧ R' = [] ∧
      ((op + 1 > 100 ∧ r = .bool (decide ((stopM 4 (atM en toks) be ba).1 = 0)) ∧ L' = wL pb lv en (op + 1) (stopM 4 (atM en toks) be ba).1 (stopM 4 (atM en toks) be ba).2) ∨ (¬ op + 1 > 100 ∧ r = .bool (decide (be = 0)) ∧ L' = wL pb lv en (op + 1) be ba))) noPan := by
    refine ct_run mx bod116 Tryz.func116 rfl (by rw [nt116]; exact Nat.le_of_ble_eq_true rfl) (dr := dr116) (by kernel_rfl) rs116 ?_
    intro hno _
    simp only [noneL_wL] at hno
    have hw : IntKind.i64.wrap (op + 1) = op + 1 := wrap64 (by omega) (by omega)
    by_cases h : op + 1 > 100
    · have h' : (100 : Int) < op + 1 := h
      simp +contextual only [go_sem, Rcb, Rbk, sevalprocAttr, hno, hw, h']
      refine at_w [] hl ?_
      simp +contextual only [go_sem, Rcb, Rbk, sevalprocAttr]
      refine stop_w [] 4 _ ?_
      simp +contextual only [go_sem, Rcb, Rbk, sevalprocAttr]
      refine good_w [] ?_
      simp +contextual only [go_sem, Rcb, Rbk, sevalprocAttr]
      exact end_id ExtT.rfl' rfl rfl ⟨rfl, rfl, .inl ⟨h, rfl, rfl⟩⟩
    · have h' : ¬ (100 : Int) < op + 1 := h
      simp +contextual only [go_sem, Rcb, Rbk, sevalprocAttr, hno, hw, h']
      refine good_w [] ?_
      simp +contextual only [go_sem, Rcb, Rbk, sevalprocAttr]
      exact end_id ExtT.rfl' rfl rfl ⟨rfl, rfl, .inr ⟨h, rfl, rfl⟩⟩
  refine rCall_one L1 hc (fun v M' L' hM _ hno h => ?_) (fun _ _ _ _ _ _ h => h.elim)
  obtain ⟨rfl, -, ⟨h, rfl, rfl⟩ | ⟨h, rfl, rfl⟩⟩ := h
  · rw [decide_eq_false (stopM_ne (by decide))]
    refine k2 _ _ (stopM_ne (by decide)) (fun h0 => ?_) (fun h0 => ⟨h, ?_⟩)
    · simp [stopM, h0]
    · simp [stopM, h0]
  · by_cases h0 : be = 0
    · rw [decide_eq_true h0]; exact k1 h0 h
    · rw [decide_eq_false h0]; exact k2 _ _ h0 (fun _ => ⟨rfl, rfl⟩) (fun h => (h0 h).elim)
/-- what a level does -/
def LvD (f : FuncId) (en : Int) (pb : Nat) (op : Int) (g : List Tk → Rs X) : Prop := ∀ (M : Mem) (toks : List Tk) (lv : Value) (be ba : Int) (T : Tm), RS M RTw 3 toks lv →
  CtT Tryz.prog f [.pointer (some ⟨pb, 0, none⟩)] T M (wL pb lv en op be ba) [] (postW pb en op encX (g toks) be ba) noPan
theorem Up.of_Rl {α : Type} {r : Rs α} {be ba be1 ba1 : Int} {x : α} {t : List Tk} (hr : Rl r be ba x t be1 ba1) : Up (.ok x t) be1 ba1 r be ba := by
  intro a t' be' ba' h
  have := (Up.rfl' (r := r.bind fun a t => .ok a t)).bind hr a t' be' ba' h
  cases r <;> exact this
theorem ct_w_Expr {en : Int} {pb : Nat} {op : Int} {g : List Tk → Rs X} (hop : 0 ≤ op ∧ op ≤ 100) (hg : op + 1 ≤ 100 → LvD 117 en pb (op + 1) g) : LvD 75 en pb op (fun t => if op + 1 > 100 then .err 4 (atM en t) else g t) := by
  intro M toks lv be ba T hl
  refine ct_run mx bod75 Tryz.func75 rfl (by rw [nt75]; exact Nat.le_of_ble_eq_true rfl) (dr := dr75) (by kernel_rfl) rs75 ?_
  intro hno _
  simp only [noneL_wL] at hno
  simp +contextual only [go_sem, Rcb, Rbk, sevalprocAttr]
  intro b2 T2 hb2 hap2 hT2 hTb2 b3 T3 hb3 hap3 hT3 hTb3
  have hT := hT2.trans hT3
  have hw : IntKind.i64.wrap (op + 1 - 1) = op := by rw [wrap64 (by omega) (by omega)]; omega
  refine in_w [(b3, _), (b2, _)] hop hl (fun h0 h100 => ?_) (fun be' ba' hne h1 h2 => ?_)
  · simp +contextual only [go_sem, Rcb, Rbk, sevalprocAttr]
    refine part_w [(b3, _), (b2, _)] (hg (by omega) M toks lv be ba T3 hl) ?_
    rintro v M1 x t lv1 be1 ba1 hM1 hno1 hr hl1 ⟨cs, rfl, hx⟩
    obtain ⟨s, rfl, hs1, hs2⟩ := RX_form hx
    simp only [List.cons_append, List.nil_append, noneL, noneL_wL] at hno1
    have hu2 : Up (.ok x t) be1 ba1 (if op + 1 > 100 then .err 4 (atM en toks) else g toks) be ba := by
      rw [if_neg h100]
      exact Up.of_Rl hr
    simp +contextual only [go_sem, Rcb, Rbk, sevalprocAttr, hno1, hap2, hap3, hs1, hw]
    exact fin_wr (enc := encX) [(b3, _), (b2, _)] hT hu2 hl1 ⟨_, rfl, hx⟩
  · simp +contextual only [go_sem, Rcb, Rbk, sevalprocAttr, hno, hb2, hap2, hb3, hap3, hw]
    exact fin_wr (enc := encX) (a := zeroX) [(b3, _), (b2, _)] hT ((Up.rfl'.into h1 h2) (.ok zeroX toks)) hl ⟨_, rfl, RX_zero⟩
end Go.Proofs.YtoainkbcfnlkcaaGreatDoor

namespace Go.Proofs.YtoainkbcfnlkcaaGreatDoor
open Go Vc
set_option linter.unusedSimpArgs false
set_option linter.unusedVariables false
set_option maxRecDepth 10000

theorem ct_w_or {en : Int} {pb : Nat} {op : Int} {g : List Tk → Rs X} (hno_out : ∀ t, g t ≠ .out) (hle : ∀ t a r, g t = .ok a r → r.length ≤ t.length) (hg : LvD 150 en pb op g) :
    LvD 117 en pb op (fun t => (g t).bind fun x t => loopM g (lvlAt 0) (t.length + 1) x t) := by
  intro M toks lv be ba T hl
  refine ct_run mx bod117 Tryz.func117 rfl (by rw [nt117]; exact Nat.le_of_ble_eq_true rfl) (dr := dr117) (by kernel_rfl) rs117 ?_
  intro hno _
  simp only [noneL_wL] at hno
  simp +contextual only [go_sem, Rcb, Rbk, sevalprocAttr]
  intro b2 T2 hb2 hap2 hT2 hTb2
  refine part_w [(b2, _)] (hg M toks lv be ba T2 hl) ?_
  rintro v M1 x t1 lv1 be1 ba1 hM1 hno1 hr1 hl1 ⟨cs, rfl, hx⟩
  obtain ⟨s, rfl, hs1, hs2⟩ := RX_form hx
  have hu1 := Up.bind (F := fun x t => loopM g (lvlAt 0) (t.length + 1) x t) Up.rfl' hr1
  simp only [List.cons_append, List.nil_append, noneL, noneL_wL] at hno1
  simp +contextual only [go_sem, Rcb, Rbk, sevalprocAttr, hno1, hap2, hs1]
  intro b3 T3 hb3 hap3 hT3 hTb3
  refine loop_rule (fun m e ds h => ds = [] ∧ (e 0 = .pointer (some ⟨pb, 0, none⟩) ∧ e 2 = .pointer (some ⟨b2, 0, none⟩) ∧ e 3 = .pointer (some ⟨b3, 0, none⟩)) ∧
      ∃ N M' lv' t be' ba' x s C, ExtT T3 N ∧ M' b3 = none ∧ M' b2 = none ∧ M' pb = none ∧ RS M' RTw 3 t lv' ∧ RX M' x [.int .i64 x.k, .int .i64 x.v.k, .int .i64 x.v.n, st x.v.t, st x.tab, st x.name, s] ∧
        Up C be' ba' ((g toks).bind fun x t => loopM g (lvlAt 0) (t.length + 1) x t) be ba ∧ (be' = 0 → ∃ k, t.length < k ∧ C = loopM g (lvlAt 0) k x t) ∧ m = (if be' = 0 then t.length + 1 else 0) ∧
        h = ⟨N, M', (b3, [.int .i64 x.k, .int .i64 x.v.k, .int .i64 x.v.n, st x.v.t, st x.tab, st x.name, s]) :: (b2, [.int .i64 0, .int .i64 0, .int .i64 0, st [], st [], st [], .slice none 0 0]) :: wL pb lv' en op be' ba', []⟩)
    ⟨_, rfl, ⟨(by simp only [go_sem, Rcb, Rbk, sevalprocAttr]), (by simp only [go_sem, Rcb, Rbk, sevalprocAttr]), (by simp only [go_sem, Rcb, Rbk, sevalprocAttr])⟩, T3, M1, lv1, t1, be1, ba1, x, s, _, ExtT.rfl', hb3, hno1.1, hno1.2, hl1, hx, hu1, fun _ => ⟨_, Nat.lt_succ_self _, rfl⟩, rfl, rfl⟩ ?_
  rintro m e ds h ⟨rfl, ⟨e0, e2, e3⟩, N, M2, lv2, t, be2, ba2, y, s2, C, hN, n3, n2, np, hl2, hy, hu, hC, rfl, rfl⟩
  have hys := hy
  obtain ⟨s', hse, hs3, hs4⟩ := RX_form hys
  simp only [List.cons.injEq, true_and, and_true] at hse
  subst hse
  simp +contextual only [go_sem, Rcb, Rbk, sevalprocAttr, e0, e2, e3]
  refine may_w [(b3, _), (b2, _)] [111, 114] hl2 (fun h0 hs lv3 hl3 => ?_) (fun hs lv3 hl3 => ?_)
  · obtain ⟨k, hk, rfl⟩ := hC h0
    have hne : t ≠ [] := by rintro rfl; cases hs
    have hpos : 0 < t.length := List.length_pos_iff.2 hne
    obtain ⟨k, rfl⟩ : ∃ j, k = j + 1 := ⟨k - 1, by omega⟩
    have hix : idxSign (lvlAt 0).signs t = some 0 := by
      show idxSign [[111, 114]] t = some 0
      simp [idxSign, hs]
    have hu3 : Up ((g t.tail).bind fun z t' => loopM g (lvlAt 0) k (mkX 5 [y, z]) t') be2 ba2 ((g toks).bind fun x t => loopM g (lvlAt 0) (t.length + 1) x t) be ba := hu.congr fun _ => by
      rw [loopM, hix]; rfl
    simp +contextual only [go_sem, Rcb, Rbk, sevalprocAttr, e0, e2, e3]
    refine part_w [(b3, _), (b2, _)] (hg M2 t.tail lv3 be2 ba2 N hl3) ?_
    rintro v M3 z t4 lv4 be4 ba4 hM3 hno3 hr3 hl4 ⟨cs, rfl, hz⟩
    obtain ⟨s5, rfl, hs5, hs6⟩ := RX_form hz
    simp only [List.cons_append, List.nil_append, noneL, noneL_wL] at hno3
    simp +contextual only [go_sem, Rcb, Rbk, sevalprocAttr, e0, e2, e3, hno3, hs5]
    intro b4 T4 hb4 hap4 hT4 hTb4
    have nb := hap4.1
    refine rCall_pure (ct_pair 5 (RX_ext hM3 _ _ hy) hz _) ?_ (fun _ _ _ _ h => h.elim)
    rintro v M5 hM5 hno5 ⟨cs, rfl, hw⟩
    obtain ⟨s7, rfl, hs7, hs8⟩ := RX_form hw
    simp only [List.cons_append, List.nil_append, noneL, noneL_wL] at hno5
    have hu5 := hu3.bind hr3
    simp +contextual only [go_sem, Rcb, Rbk, sevalprocAttr, e0, e2, e3, hno5, hs7, hap4]
    have hlt4 : be4 = 0 → t4.length ≤ t.tail.length := fun h4 => by
      unfold Rl at hr3
      rw [if_pos h0] at hr3
      cases hgt : g t.tail with
      | ok a r =>
        rw [hgt] at hr3
        obtain ⟨_, rfl, _⟩ := hr3
        exact hle _ _ _ hgt
      | err e x => rw [hgt] at hr3; exact (hr3.1 (hr3.2.1 ▸ h4)).elim
      | out => exact (hno_out _ hgt).elim
    rw [List.length_tail] at hlt4
    refine lp_close (Close_drop (Close_id ⟨if be4 = 0 then t4.length + 1 else 0, ?_, rfl, ⟨?_, ?_, ?_⟩, T4, M5, lv4, t4, be4, ba4, _, _, _, hN.trans hT4, hno5.2.1, hno5.2.2.1, hno5.2.2.2, RS_ext hM5 (fun _ _ h => h) hl4, hw, hu5, fun h4 => ⟨k, ?_, rfl⟩, rfl, rfl⟩))
    · rw [if_pos h0]
      split
      · rename_i h4; have := hlt4 h4; omega
      · omega
    · simp only [e0, go_sem, Rcb, Rbk, sevalprocAttr]
    · simp only [e2, go_sem, Rcb, Rbk, sevalprocAttr]
    · simp only [e3, go_sem, Rcb, Rbk, sevalprocAttr]
    · have := hlt4 h4; omega
  · have hu3 : Up (.ok y t) be2 ba2 ((g toks).bind fun x t => loopM g (lvlAt 0) (t.length + 1) x t) be ba := hu.congr fun h0 => by
      obtain ⟨k, hk, rfl⟩ := hC h0
      obtain ⟨k, rfl⟩ : ∃ j, k = j + 1 := ⟨k - 1, by omega⟩
      have hix : idxSign (lvlAt 0).signs t = none := by
        show idxSign [[111, 114]] t = none
        simp [idxSign, hs h0]
      rw [loopM, hix]
    simp +contextual only [go_sem, Rcb, Rbk, sevalprocAttr, e0, e2, e3, n3, n2, np, hs3, hap2, hap3]
    exact fin_wr (enc := encX) [(b3, _), (b2, _)] ((hT2.trans hT3).trans hN) hu3 hl3 ⟨_, rfl, hy⟩

theorem ct_w_and {en : Int} {pb : Nat} {op : Int} {g : List Tk → Rs X} (hno_out : ∀ t, g t ≠ .out) (hle : ∀ t a r, g t = .ok a r → r.length ≤ t.length) (hg : LvD 168 en pb op g) :
    LvD 150 en pb op (fun t => (g t).bind fun x t => loopM g (lvlAt 1) (t.length + 1) x t) := by
  intro M toks lv be ba T hl
  refine ct_run mx bod150 Tryz.func150 rfl (by rw [nt150]; exact Nat.le_of_ble_eq_true rfl) (dr := dr150) (by kernel_rfl) rs150 ?_
  intro hno _
  simp only [noneL_wL] at hno
  simp +contextual only [go_sem, Rcb, Rbk, sevalprocAttr]
  intro b2 T2 hb2 hap2 hT2 hTb2
  refine part_w [(b2, _)] (hg M toks lv be ba T2 hl) ?_
  rintro v M1 x t1 lv1 be1 ba1 hM1 hno1 hr1 hl1 ⟨cs, rfl, hx⟩
  obtain ⟨s, rfl, hs1, hs2⟩ := RX_form hx
  have hu1 := Up.bind (F := fun x t => loopM g (lvlAt 1) (t.length + 1) x t) Up.rfl' hr1
  simp only [List.cons_append, List.nil_append, noneL, noneL_wL] at hno1
  simp +contextual only [go_sem, Rcb, Rbk, sevalprocAttr, hno1, hap2, hs1]
  intro b3 T3 hb3 hap3 hT3 hTb3
  refine loop_rule (fun m e ds h => ds = [] ∧ (e 0 = .pointer (some ⟨pb, 0, none⟩) ∧ e 2 = .pointer (some ⟨b2, 0, none⟩) ∧ e 3 = .pointer (some ⟨b3, 0, none⟩)) ∧
      ∃ N M' lv' t be' ba' x s C, ExtT T3 N ∧ M' b3 = none ∧ M' b2 = none ∧ M' pb = none ∧ RS M' RTw 3 t lv' ∧ RX M' x [.int .i64 x.k, .int .i64 x.v.k, .int .i64 x.v.n, st x.v.t, st x.tab, st x.name, s] ∧
        Up C be' ba' ((g toks).bind fun x t => loopM g (lvlAt 1) (t.length + 1) x t) be ba ∧ (be' = 0 → ∃ k, t.length < k ∧ C = loopM g (lvlAt 1) k x t) ∧ m = (if be' = 0 then t.length + 1 else 0) ∧
        h = ⟨N, M', (b3, [.int .i64 x.k, .int .i64 x.v.k, .int .i64 x.v.n, st x.v.t, st x.tab, st x.name, s]) :: (b2, [.int .i64 0, .int .i64 0, .int .i64 0, st [], st [], st [], .slice none 0 0]) :: wL pb lv' en op be' ba', []⟩)
    ⟨_, rfl, ⟨(by simp only [go_sem, Rcb, Rbk, sevalprocAttr]), (by simp only [go_sem, Rcb, Rbk, sevalprocAttr]), (by simp only [go_sem, Rcb, Rbk, sevalprocAttr])⟩, T3, M1, lv1, t1, be1, ba1, x, s, _, ExtT.rfl', hb3, hno1.1, hno1.2, hl1, hx, hu1, fun _ => ⟨_, Nat.lt_succ_self _, rfl⟩, rfl, rfl⟩ ?_
  rintro m e ds h ⟨rfl, ⟨e0, e2, e3⟩, N, M2, lv2, t, be2, ba2, y, s2, C, hN, n3, n2, np, hl2, hy, hu, hC, rfl, rfl⟩
  have hys := hy
  obtain ⟨s', hse, hs3, hs4⟩ := RX_form hys
  simp only [List.cons.injEq, true_and, and_true] at hse
  subst hse
  simp +contextual only [go_sem, Rcb, Rbk, sevalprocAttr, e0, e2, e3]
  refine may_w [(b3, _), (b2, _)] [97, 110, 100] hl2 (fun h0 hs lv3 hl3 => ?_) (fun hs lv3 hl3 => ?_)
  · obtain ⟨k, hk, rfl⟩ := hC h0
    have hne : t ≠ [] := by rintro rfl; cases hs
    have hpos : 0 < t.length := List.length_pos_iff.2 hne
    obtain ⟨k, rfl⟩ : ∃ j, k = j + 1 := ⟨k - 1, by omega⟩
    have hix : idxSign (lvlAt 1).signs t = some 0 := by
      show idxSign [[97, 110, 100]] t = some 0
      simp [idxSign, hs]
    have hu3 : Up ((g t.tail).bind fun z t' => loopM g (lvlAt 1) k (mkX 4 [y, z]) t') be2 ba2 ((g toks).bind fun x t => loopM g (lvlAt 1) (t.length + 1) x t) be ba := hu.congr fun _ => by
      rw [loopM, hix]; rfl
    simp +contextual only [go_sem, Rcb, Rbk, sevalprocAttr, e0, e2, e3]
    refine part_w [(b3, _), (b2, _)] (hg M2 t.tail lv3 be2 ba2 N hl3) ?_
    rintro v M3 z t4 lv4 be4 ba4 hM3 hno3 hr3 hl4 ⟨cs, rfl, hz⟩
    obtain ⟨s5, rfl, hs5, hs6⟩ := RX_form hz
    simp only [List.cons_append, List.nil_append, noneL, noneL_wL] at hno3
    simp +contextual only [go_sem, Rcb, Rbk, sevalprocAttr, e0, e2, e3, hno3, hs5]
    intro b4 T4 hb4 hap4 hT4 hTb4
    have nb := hap4.1
    refine rCall_pure (ct_pair 4 (RX_ext hM3 _ _ hy) hz _) ?_ (fun _ _ _ _ h => h.elim)
    rintro v M5 hM5 hno5 ⟨cs, rfl, hw⟩
    obtain ⟨s7, rfl, hs7, hs8⟩ := RX_form hw
    simp only [List.cons_append, List.nil_append, noneL, noneL_wL] at hno5
    have hu5 := hu3.bind hr3
    simp +contextual only [go_sem, Rcb, Rbk, sevalprocAttr, e0, e2, e3, hno5, hs7, hap4]
    have hlt4 : be4 = 0 → t4.length ≤ t.tail.length := fun h4 => by
      unfold Rl at hr3
      rw [if_pos h0] at hr3
      cases hgt : g t.tail with
      | ok a r =>
        rw [hgt] at hr3
        obtain ⟨_, rfl, _⟩ := hr3
        exact hle _ _ _ hgt
      | err e x => rw [hgt] at hr3; exact (hr3.1 (hr3.2.1 ▸ h4)).elim
      | out => exact (hno_out _ hgt).elim
    rw [List.length_tail] at hlt4
    refine lp_close (Close_drop (Close_id ⟨if be4 = 0 then t4.length + 1 else 0, ?_, rfl, ⟨?_, ?_, ?_⟩, T4, M5, lv4, t4, be4, ba4, _, _, _, hN.trans hT4, hno5.2.1, hno5.2.2.1, hno5.2.2.2, RS_ext hM5 (fun _ _ h => h) hl4, hw, hu5, fun h4 => ⟨k, ?_, rfl⟩, rfl, rfl⟩))
    · rw [if_pos h0]
      split
      · rename_i h4; have := hlt4 h4; omega
      · omega
    · simp only [e0, go_sem, Rcb, Rbk, sevalprocAttr]
    · simp only [e2, go_sem, Rcb, Rbk, sevalprocAttr]
    · simp only [e3, go_sem, Rcb, Rbk, sevalprocAttr]
    · have := hlt4 h4; omega
  · have hu3 : Up (.ok y t) be2 ba2 ((g toks).bind fun x t => loopM g (lvlAt 1) (t.length + 1) x t) be ba := hu.congr fun h0 => by
      obtain ⟨k, hk, rfl⟩ := hC h0
      obtain ⟨k, rfl⟩ : ∃ j, k = j + 1 := ⟨k - 1, by omega⟩
      have hix : idxSign (lvlAt 1).signs t = none := by
        show idxSign [[97, 110, 100]] t = none
        simp [idxSign, hs h0]
      rw [loopM, hix]
    simp +contextual only [go_sem, Rcb, Rbk, sevalprocAttr, e0, e2, e3, n3, n2, np, hs3, hap2, hap3]
    exact fin_wr (enc := encX) [(b3, _), (b2, _)] ((hT2.trans hT3).trans hN) hu3 hl3 ⟨_, rfl, hy⟩

theorem ct_w_times {en : Int} {pb : Nat} {op : Int} {g : List Tk → Rs X} (hno_out : ∀ t, g t ≠ .out) (hle : ∀ t a r, g t = .ok a r → r.length ≤ t.length) (hg : LvD 212 en pb op g) :
    LvD 210 en pb op (fun t => (g t).bind fun x t => loopM g (lvlAt 5) (t.length + 1) x t) := by
  intro M toks lv be ba T hl
  refine ct_run mx bod210 Tryz.func210 rfl (by rw [nt210]; exact Nat.le_of_ble_eq_true rfl) (dr := dr210) (by kernel_rfl) rs210 ?_
  intro hno _
  simp only [noneL_wL] at hno
  simp +contextual only [go_sem, Rcb, Rbk, sevalprocAttr]
  intro b2 T2 hb2 hap2 hT2 hTb2
  refine part_w [(b2, _)] (hg M toks lv be ba T2 hl) ?_
  rintro v M1 x t1 lv1 be1 ba1 hM1 hno1 hr1 hl1 ⟨cs, rfl, hx⟩
  obtain ⟨s, rfl, hs1, hs2⟩ := RX_form hx
  have hu1 := Up.bind (F := fun x t => loopM g (lvlAt 5) (t.length + 1) x t) Up.rfl' hr1
  simp only [List.cons_append, List.nil_append, noneL, noneL_wL] at hno1
  simp +contextual only [go_sem, Rcb, Rbk, sevalprocAttr, hno1, hap2, hs1]
  intro b3 T3 hb3 hap3 hT3 hTb3
  refine loop_rule (fun m e ds h => ds = [] ∧ (e 0 = .pointer (some ⟨pb, 0, none⟩) ∧ e 2 = .pointer (some ⟨b2, 0, none⟩) ∧ e 3 = .pointer (some ⟨b3, 0, none⟩)) ∧
      ∃ N M' lv' t be' ba' x s C, ExtT T3 N ∧ M' b3 = none ∧ M' b2 = none ∧ M' pb = none ∧ RS M' RTw 3 t lv' ∧ RX M' x [.int .i64 x.k, .int .i64 x.v.k, .int .i64 x.v.n, st x.v.t, st x.tab, st x.name, s] ∧
        Up C be' ba' ((g toks).bind fun x t => loopM g (lvlAt 5) (t.length + 1) x t) be ba ∧ (be' = 0 → ∃ k, t.length < k ∧ C = loopM g (lvlAt 5) k x t) ∧ m = (if be' = 0 then t.length + 1 else 0) ∧
        h = ⟨N, M', (b3, [.int .i64 x.k, .int .i64 x.v.k, .int .i64 x.v.n, st x.v.t, st x.tab, st x.name, s]) :: (b2, [.int .i64 0, .int .i64 0, .int .i64 0, st [], st [], st [], .slice none 0 0]) :: wL pb lv' en op be' ba', []⟩)
    ⟨_, rfl, ⟨(by simp only [go_sem, Rcb, Rbk, sevalprocAttr]), (by simp only [go_sem, Rcb, Rbk, sevalprocAttr]), (by simp only [go_sem, Rcb, Rbk, sevalprocAttr])⟩, T3, M1, lv1, t1, be1, ba1, x, s, _, ExtT.rfl', hb3, hno1.1, hno1.2, hl1, hx, hu1, fun _ => ⟨_, Nat.lt_succ_self _, rfl⟩, rfl, rfl⟩ ?_
  rintro m e ds h ⟨rfl, ⟨e0, e2, e3⟩, N, M2, lv2, t, be2, ba2, y, s2, C, hN, n3, n2, np, hl2, hy, hu, hC, rfl, rfl⟩
  have hys := hy
  obtain ⟨s', hse, hs3, hs4⟩ := RX_form hys
  simp only [List.cons.injEq, true_and, and_true] at hse
  subst hse
  simp +contextual only [go_sem, Rcb, Rbk, sevalprocAttr, e0, e2, e3]
  refine may_w [(b3, _), (b2, _)] [42] hl2 (fun h0 hs lv3 hl3 => ?_) (fun hs lv3 hl3 => ?_)
  · obtain ⟨k, hk, rfl⟩ := hC h0
    have hne : t ≠ [] := by rintro rfl; cases hs
    have hpos : 0 < t.length := List.length_pos_iff.2 hne
    obtain ⟨k, rfl⟩ : ∃ j, k = j + 1 := ⟨k - 1, by omega⟩
    have hix : idxSign (lvlAt 5).signs t = some 0 := by
      show idxSign [[42]] t = some 0
      simp [idxSign, hs]
    have hu3 : Up ((g t.tail).bind fun z t' => loopM g (lvlAt 5) k (mkX 14 [y, z]) t') be2 ba2 ((g toks).bind fun x t => loopM g (lvlAt 5) (t.length + 1) x t) be ba := hu.congr fun _ => by
      rw [loopM, hix]; rfl
    simp +contextual only [go_sem, Rcb, Rbk, sevalprocAttr, e0, e2, e3]
    refine part_w [(b3, _), (b2, _)] (hg M2 t.tail lv3 be2 ba2 N hl3) ?_
    rintro v M3 z t4 lv4 be4 ba4 hM3 hno3 hr3 hl4 ⟨cs, rfl, hz⟩
    obtain ⟨s5, rfl, hs5, hs6⟩ := RX_form hz
    simp only [List.cons_append, List.nil_append, noneL, noneL_wL] at hno3
    simp +contextual only [go_sem, Rcb, Rbk, sevalprocAttr, e0, e2, e3, hno3, hs5]
    intro b4 T4 hb4 hap4 hT4 hTb4
    have nb := hap4.1
    refine rCall_pure (ct_pair 14 (RX_ext hM3 _ _ hy) hz _) ?_ (fun _ _ _ _ h => h.elim)
    rintro v M5 hM5 hno5 ⟨cs, rfl, hw⟩
    obtain ⟨s7, rfl, hs7, hs8⟩ := RX_form hw
    simp only [List.cons_append, List.nil_append, noneL, noneL_wL] at hno5
    have hu5 := hu3.bind hr3
    simp +contextual only [go_sem, Rcb, Rbk, sevalprocAttr, e0, e2, e3, hno5, hs7, hap4]
    have hlt4 : be4 = 0 → t4.length ≤ t.tail.length := fun h4 => by
      unfold Rl at hr3
      rw [if_pos h0] at hr3
      cases hgt : g t.tail with
      | ok a r =>
        rw [hgt] at hr3
        obtain ⟨_, rfl, _⟩ := hr3
        exact hle _ _ _ hgt
      | err e x => rw [hgt] at hr3; exact (hr3.1 (hr3.2.1 ▸ h4)).elim
      | out => exact (hno_out _ hgt).elim
    rw [List.length_tail] at hlt4
    refine lp_close (Close_drop (Close_id ⟨if be4 = 0 then t4.length + 1 else 0, ?_, rfl, ⟨?_, ?_, ?_⟩, T4, M5, lv4, t4, be4, ba4, _, _, _, hN.trans hT4, hno5.2.1, hno5.2.2.1, hno5.2.2.2, RS_ext hM5 (fun _ _ h => h) hl4, hw, hu5, fun h4 => ⟨k, ?_, rfl⟩, rfl, rfl⟩))
    · rw [if_pos h0]
      split
      · rename_i h4; have := hlt4 h4; omega
      · omega
    · simp only [e0, go_sem, Rcb, Rbk, sevalprocAttr]
    · simp only [e2, go_sem, Rcb, Rbk, sevalprocAttr]
    · simp only [e3, go_sem, Rcb, Rbk, sevalprocAttr]
    · have := hlt4 h4; omega
  · have hu3 : Up (.ok y t) be2 ba2 ((g toks).bind fun x t => loopM g (lvlAt 5) (t.length + 1) x t) be ba := hu.congr fun h0 => by
      obtain ⟨k, hk, rfl⟩ := hC h0
      obtain ⟨k, rfl⟩ : ∃ j, k = j + 1 := ⟨k - 1, by omega⟩
      have hix : idxSign (lvlAt 5).signs t = none := by
        show idxSign [[42]] t = none
        simp [idxSign, hs h0]
      rw [loopM, hix]
    simp +contextual only [go_sem, Rcb, Rbk, sevalprocAttr, e0, e2, e3, n3, n2, np, hs3, hap2, hap3]
    exact fin_wr (enc := encX) [(b3, _), (b2, _)] ((hT2.trans hT3).trans hN) hu3 hl3 ⟨_, rfl, hy⟩

theorem ct_w_cat {en : Int} {pb : Nat} {op : Int} {g : List Tk → Rs X} (hno_out : ∀ t, g t ≠ .out) (hle : ∀ t a r, g t = .ok a r → r.length ≤ t.length) (hg : LvD 213 en pb op g) :
    LvD 212 en pb op (fun t => (g t).bind fun x t => loopM g (lvlAt 6) (t.length + 1) x t) := by
  intro M toks lv be ba T hl
  refine ct_run mx bod212 Tryz.func212 rfl (by rw [nt212]; exact Nat.le_of_ble_eq_true rfl) (dr := dr212) (by kernel_rfl) rs212 ?_
  intro hno _
  simp only [noneL_wL] at hno
  simp +contextual only [go_sem, Rcb, Rbk, sevalprocAttr]
  intro b2 T2 hb2 hap2 hT2 hTb2
  refine part_w [(b2, _)] (hg M toks lv be ba T2 hl) ?_
  rintro v M1 x t1 lv1 be1 ba1 hM1 hno1 hr1 hl1 ⟨cs, rfl, hx⟩
  obtain ⟨s, rfl, hs1, hs2⟩ := RX_form hx
  have hu1 := Up.bind (F := fun x t => loopM g (lvlAt 6) (t.length + 1) x t) Up.rfl' hr1
  simp only [List.cons_append, List.nil_append, noneL, noneL_wL] at hno1
  simp +contextual only [go_sem, Rcb, Rbk, sevalprocAttr, hno1, hap2, hs1]
  intro b3 T3 hb3 hap3 hT3 hTb3
  refine loop_rule (fun m e ds h => ds = [] ∧ (e 0 = .pointer (some ⟨pb, 0, none⟩) ∧ e 2 = .pointer (some ⟨b2, 0, none⟩) ∧ e 3 = .pointer (some ⟨b3, 0, none⟩)) ∧
      ∃ N M' lv' t be' ba' x s C, ExtT T3 N ∧ M' b3 = none ∧ M' b2 = none ∧ M' pb = none ∧ RS M' RTw 3 t lv' ∧ RX M' x [.int .i64 x.k, .int .i64 x.v.k, .int .i64 x.v.n, st x.v.t, st x.tab, st x.name, s] ∧
        Up C be' ba' ((g toks).bind fun x t => loopM g (lvlAt 6) (t.length + 1) x t) be ba ∧ (be' = 0 → ∃ k, t.length < k ∧ C = loopM g (lvlAt 6) k x t) ∧ m = (if be' = 0 then t.length + 1 else 0) ∧
        h = ⟨N, M', (b3, [.int .i64 x.k, .int .i64 x.v.k, .int .i64 x.v.n, st x.v.t, st x.tab, st x.name, s]) :: (b2, [.int .i64 0, .int .i64 0, .int .i64 0, st [], st [], st [], .slice none 0 0]) :: wL pb lv' en op be' ba', []⟩)
    ⟨_, rfl, ⟨(by simp only [go_sem, Rcb, Rbk, sevalprocAttr]), (by simp only [go_sem, Rcb, Rbk, sevalprocAttr]), (by simp only [go_sem, Rcb, Rbk, sevalprocAttr])⟩, T3, M1, lv1, t1, be1, ba1, x, s, _, ExtT.rfl', hb3, hno1.1, hno1.2, hl1, hx, hu1, fun _ => ⟨_, Nat.lt_succ_self _, rfl⟩, rfl, rfl⟩ ?_
  rintro m e ds h ⟨rfl, ⟨e0, e2, e3⟩, N, M2, lv2, t, be2, ba2, y, s2, C, hN, n3, n2, np, hl2, hy, hu, hC, rfl, rfl⟩
  have hys := hy
  obtain ⟨s', hse, hs3, hs4⟩ := RX_form hys
  simp only [List.cons.injEq, true_and, and_true] at hse
  subst hse
  simp +contextual only [go_sem, Rcb, Rbk, sevalprocAttr, e0, e2, e3]
  refine may_w [(b3, _), (b2, _)] [124, 124] hl2 (fun h0 hs lv3 hl3 => ?_) (fun hs lv3 hl3 => ?_)
  · obtain ⟨k, hk, rfl⟩ := hC h0
    have hne : t ≠ [] := by rintro rfl; cases hs
    have hpos : 0 < t.length := List.length_pos_iff.2 hne
    obtain ⟨k, rfl⟩ : ∃ j, k = j + 1 := ⟨k - 1, by omega⟩
    have hix : idxSign (lvlAt 6).signs t = some 0 := by
      show idxSign [[124, 124]] t = some 0
      simp [idxSign, hs]
    have hu3 : Up ((g t.tail).bind fun z t' => loopM g (lvlAt 6) k (mkX 15 [y, z]) t') be2 ba2 ((g toks).bind fun x t => loopM g (lvlAt 6) (t.length + 1) x t) be ba := hu.congr fun _ => by
      rw [loopM, hix]; rfl
    simp +contextual only [go_sem, Rcb, Rbk, sevalprocAttr, e0, e2, e3]
    refine part_w [(b3, _), (b2, _)] (hg M2 t.tail lv3 be2 ba2 N hl3) ?_
    rintro v M3 z t4 lv4 be4 ba4 hM3 hno3 hr3 hl4 ⟨cs, rfl, hz⟩
    obtain ⟨s5, rfl, hs5, hs6⟩ := RX_form hz
    simp only [List.cons_append, List.nil_append, noneL, noneL_wL] at hno3
    simp +contextual only [go_sem, Rcb, Rbk, sevalprocAttr, e0, e2, e3, hno3, hs5]
    intro b4 T4 hb4 hap4 hT4 hTb4
    have nb := hap4.1
    refine rCall_pure (ct_pair 15 (RX_ext hM3 _ _ hy) hz _) ?_ (fun _ _ _ _ h => h.elim)
    rintro v M5 hM5 hno5 ⟨cs, rfl, hw⟩
    obtain ⟨s7, rfl, hs7, hs8⟩ := RX_form hw
    simp only [List.cons_append, List.nil_append, noneL, noneL_wL] at hno5
    have hu5 := hu3.bind hr3
    simp +contextual only [go_sem, Rcb, Rbk, sevalprocAttr, e0, e2, e3, hno5, hs7, hap4]
    have hlt4 : be4 = 0 → t4.length ≤ t.tail.length := fun h4 => by
      unfold Rl at hr3
      rw [if_pos h0] at hr3
      cases hgt : g t.tail with
      | ok a r =>
        rw [hgt] at hr3
        obtain ⟨_, rfl, _⟩ := hr3
        exact hle _ _ _ hgt
      | err e x => rw [hgt] at hr3; exact (hr3.1 (hr3.2.1 ▸ h4)).elim
      | out => exact (hno_out _ hgt).elim
    rw [List.length_tail] at hlt4
    refine lp_close (Close_drop (Close_id ⟨if be4 = 0 then t4.length + 1 else 0, ?_, rfl, ⟨?_, ?_, ?_⟩, T4, M5, lv4, t4, be4, ba4, _, _, _, hN.trans hT4, hno5.2.1, hno5.2.2.1, hno5.2.2.2, RS_ext hM5 (fun _ _ h => h) hl4, hw, hu5, fun h4 => ⟨k, ?_, rfl⟩, rfl, rfl⟩))
    · rw [if_pos h0]
      split
      · rename_i h4; have := hlt4 h4; omega
      · omega
    · simp only [e0, go_sem, Rcb, Rbk, sevalprocAttr]
    · simp only [e2, go_sem, Rcb, Rbk, sevalprocAttr]
    · simp only [e3, go_sem, Rcb, Rbk, sevalprocAttr]
    · have := hlt4 h4; omega
  · have hu3 : Up (.ok y t) be2 ba2 ((g toks).bind fun x t => loopM g (lvlAt 6) (t.length + 1) x t) be ba := hu.congr fun h0 => by
      obtain ⟨k, hk, rfl⟩ := hC h0
      obtain ⟨k, rfl⟩ : ∃ j, k = j + 1 := ⟨k - 1, by omega⟩
      have hix : idxSign (lvlAt 6).signs t = none := by
        show idxSign [[124, 124]] t = none
        simp [idxSign, hs h0]
      rw [loopM, hix]
    simp +contextual only [go_sem, Rcb, Rbk, sevalprocAttr, e0, e2, e3, n3, n2, np, hs3, hap2, hap3]
    exact fin_wr (enc := encX) [(b3, _), (b2, _)] ((hT2.trans hT3).trans hN) hu3 hl3 ⟨_, rfl, hy⟩

end Go.Proofs.YtoainkbcfnlkcaaGreatDoor

namespace Go.Proofs.YtoainkbcfnlkcaaGreatDoor
open Go Vc
set_option linter.unusedSimpArgs false
set_option linter.unusedVariables false
set_option maxRecDepth 10000

theorem comes_iff {s : Bs} {be : Int} {t : List Tk} : comesM s be t = true ↔ be = 0 ∧ seesM s t = true := by simp [comesM]
theorem sees_one {s s' : Bs} {t : List Tk} (h : seesM s t = true) (hne : s ≠ s') : seesM s' t = false := by
  cases t with
  | nil => rfl
  | cons a t =>
    simp only [seesM, Bool.and_eq_true, decide_eq_true_eq] at h
    simp [seesM, h.1, hne]
theorem ct_w_sum {en : Int} {pb : Nat} {op : Int} {g : List Tk → Rs X} (hno_out : ∀ t, g t ≠ .out) (hle : ∀ t a r, g t = .ok a r → r.length ≤ t.length) (hg : LvD 210 en pb op g) :
    LvD 203 en pb op (fun t => (g t).bind fun x t => loopM g (lvlAt 4) (t.length + 1) x t) := by
  intro M toks lv be ba T hl
  refine ct_run mx bod203 Tryz.func203 rfl (by rw [nt203]; exact Nat.le_of_ble_eq_true rfl) (dr := dr203) (by kernel_rfl) rs203 ?_
  intro hno _
  simp only [noneL_wL] at hno
  simp +contextual only [go_sem, Rcb, Rbk, sevalprocAttr]
  intro b2 T2 hb2 hap2 hT2 hTb2
  refine part_w [(b2, _)] (hg M toks lv be ba T2 hl) ?_
  rintro v M1 x t1 lv1 be1 ba1 hM1 hno1 hr1 hl1 ⟨cs, rfl, hx⟩
  obtain ⟨s, rfl, hs1, hs2⟩ := RX_form hx
  have hu1 := Up.bind (F := fun x t => loopM g (lvlAt 4) (t.length + 1) x t) Up.rfl' hr1
  simp only [List.cons_append, List.nil_append, noneL, noneL_wL] at hno1
  simp +contextual only [go_sem, Rcb, Rbk, sevalprocAttr, hno1, hap2, hs1]
  intro b3 T3 hb3 hap3 hT3 hTb3
  refine loop_rule (fun m e ds h => ds = [] ∧ (e 0 = .pointer (some ⟨pb, 0, none⟩) ∧ e 2 = .pointer (some ⟨b2, 0, none⟩) ∧ e 3 = .pointer (some ⟨b3, 0, none⟩)) ∧
      ∃ N M' lv' t be' ba' x s C, ExtT T3 N ∧ M' b3 = none ∧ M' b2 = none ∧ M' pb = none ∧ RS M' RTw 3 t lv' ∧ RX M' x [.int .i64 x.k, .int .i64 x.v.k, .int .i64 x.v.n, st x.v.t, st x.tab, st x.name, s] ∧
        Up C be' ba' ((g toks).bind fun x t => loopM g (lvlAt 4) (t.length + 1) x t) be ba ∧ (be' = 0 → ∃ k, t.length < k ∧ C = loopM g (lvlAt 4) k x t) ∧ m = (if be' = 0 then t.length + 1 else 0) ∧
        h = ⟨N, M', (b3, [.int .i64 x.k, .int .i64 x.v.k, .int .i64 x.v.n, st x.v.t, st x.tab, st x.name, s]) :: (b2, [.int .i64 0, .int .i64 0, .int .i64 0, st [], st [], st [], .slice none 0 0]) :: wL pb lv' en op be' ba', []⟩)
    ⟨_, rfl, ⟨(by simp only [go_sem, Rcb, Rbk, sevalprocAttr]), (by simp only [go_sem, Rcb, Rbk, sevalprocAttr]), (by simp only [go_sem, Rcb, Rbk, sevalprocAttr])⟩, T3, M1, lv1, t1, be1, ba1, x, s, _, ExtT.rfl', hb3, hno1.1, hno1.2, hl1, hx, hu1, fun _ => ⟨_, Nat.lt_succ_self _, rfl⟩, rfl, rfl⟩ ?_
  rintro m e ds h ⟨rfl, ⟨e0, e2, e3⟩, N, M2, lv2, t, be2, ba2, y, s2, C, hN, n3, n2, np, hl2, hy, hu, hC, rfl, rfl⟩
  have hys := hy
  obtain ⟨s', hse, hs3, hs4⟩ := RX_form hys
  simp only [List.cons.injEq, true_and, and_true] at hse
  subst hse
  clear hs1 hs2
  simp +contextual only [go_sem, Rcb, Rbk, sevalprocAttr, e0, e2, e3]
  refine comes_w [(b3, _), (b2, _)] [43] hl2 ?_
  by_cases hp : comesM [43] be2 t = true
  · obtain ⟨h0, hs1⟩ := comes_iff.1 hp
    have hs2 : seesM [45] t = false := sees_one hs1 (by decide)
    have hm : comesM [45] be2 t = false := by simp [comesM, hs2]
    simp +contextual only [go_sem, Rcb, Rbk, sevalprocAttr, e0, e2, e3, hp]
    refine comes_w [(b3, _), (b2, _)] [45] hl2 ?_
    rw [hm]
    have hpos : 0 < t.length := by cases t with | nil => cases hs1 | cons _ _ => simp
    obtain ⟨k, hk, rfl⟩ := hC h0
    obtain ⟨k, rfl⟩ : ∃ j, k = j + 1 := ⟨k - 1, by omega⟩
    have hix : idxSign (lvlAt 4).signs t = some 0 := by
      show idxSign [[43], [45]] t = some 0
      simp [idxSign, hs1, hs2]
    have hu3 : Up ((g t.tail).bind fun z t' => loopM g (lvlAt 4) k (mkX 12 [y, z]) t') be2 ba2 ((g toks).bind fun x t => loopM g (lvlAt 4) (t.length + 1) x t) be ba := hu.congr fun _ => by
      rw [loopM, hix]; rfl
    rcases tokw_cases hl2 with ⟨rfl, a, c, rfl⟩ | ⟨t0, r, b, o, c, rfl, rfl, hc, hkk, hn, y0, y1, y2⟩
    · cases hpos
    have hc2 : (1 : Int) ≤ ((r.length + 1 : Nat) : Int) ∧ r.length + 1 ≤ c := ⟨by omega, hc⟩
    have hl3 : RS M2 RTw 3 r (.slice (cutA (some ⟨b, o, none⟩) c 1 3) (r.length + 1 - 1) (c - 1)) := by
      have := RS_cut (k := 1) (by decide) (fun _ _ => RTw_len) hl2 (by simp)
      simpa using this
    rw [List.tail_cons] at hu3
    simp +contextual only [go_sem, Rcb, Rbk, sevalprocAttr, e0, e2, e3, np, hc2, hap2, hap3]
    refine part_w [(b3, _), (b2, _)] (hg M2 r _ be2 ba2 N hl3) ?_
    rintro v M3 z t4 lv4 be4 ba4 hM3 hno3 hr3 hl4 ⟨cs, rfl, hz⟩
    obtain ⟨s5, rfl, hs5, hs6⟩ := RX_form hz
    simp only [List.cons_append, List.nil_append, noneL, noneL_wL] at hno3
    simp +contextual only [go_sem, Rcb, Rbk, sevalprocAttr, e0, e2, e3, hno3, hs5]
    intro b4 T4 hb4 hap4 hT4 hTb4
    refine rCall_pure (ct_pair 12 (RX_ext hM3 _ _ hy) hz _) ?_ (fun _ _ _ _ h => h.elim)
    rintro v M5 hM5 hno5 ⟨cs, rfl, hw⟩
    obtain ⟨s7, rfl, hs7, hs8⟩ := RX_form hw
    simp only [List.cons_append, List.nil_append, noneL, noneL_wL] at hno5
    have hu5 := hu3.bind hr3
    simp +contextual only [go_sem, Rcb, Rbk, sevalprocAttr, e0, e2, e3, hno5, hs7, hap4]
    have hlt4 : be4 = 0 → t4.length ≤ r.length := fun h4 => by
      unfold Rl at hr3
      rw [if_pos h0] at hr3
      cases hgt : g r with
      | ok a r =>
        rw [hgt] at hr3
        obtain ⟨_, rfl, _⟩ := hr3
        exact hle _ _ _ hgt
      | err e x => rw [hgt] at hr3; exact (hr3.1 (hr3.2.1 ▸ h4)).elim
      | out => exact (hno_out _ hgt).elim
    simp only [List.length_cons] at hk hpos
    refine lp_close (Close_drop (Close_id ⟨if be4 = 0 then t4.length + 1 else 0, ?_, rfl, ⟨?_, ?_, ?_⟩, T4, M5, lv4, t4, be4, ba4, _, _, _, hN.trans hT4, hno5.2.1, hno5.2.2.1, hno5.2.2.2, RS_ext hM5 (fun _ _ h => h) hl4, hw, hu5, fun h4 => ⟨k, ?_, rfl⟩, rfl, rfl⟩))
    · rw [if_pos h0]
      split
      · rename_i h4; have := hlt4 h4; omega
      · omega
    · simp only [e0, go_sem, Rcb, Rbk, sevalprocAttr]
    · simp only [e2, go_sem, Rcb, Rbk, sevalprocAttr]
    · simp only [e3, go_sem, Rcb, Rbk, sevalprocAttr]
    · have := hlt4 h4; omega
  · simp +contextual only [go_sem, Rcb, Rbk, sevalprocAttr, e0, e2, e3, hp]
    refine comes_w [(b3, _), (b2, _)] [45] hl2 ?_
    by_cases hm : comesM [45] be2 t = true
    · obtain ⟨h0, hs2⟩ := comes_iff.1 hm
      have hs1 : seesM [43] t = false := sees_one hs2 (by decide)
      simp +contextual only [go_sem, Rcb, Rbk, sevalprocAttr, e0, e2, e3, hm]
      refine comes_w [(b3, _), (b2, _)] [45] hl2 ?_
      rw [hm]
      have hpos : 0 < t.length := by cases t with | nil => cases hs2 | cons _ _ => simp
      obtain ⟨k, hk, rfl⟩ := hC h0
      obtain ⟨k, rfl⟩ : ∃ j, k = j + 1 := ⟨k - 1, by omega⟩
      have hix : idxSign (lvlAt 4).signs t = some 1 := by
        show idxSign [[43], [45]] t = some 1
        simp [idxSign, hs1, hs2]
      have hu3 : Up ((g t.tail).bind fun z t' => loopM g (lvlAt 4) k (mkX 13 [y, z]) t') be2 ba2 ((g toks).bind fun x t => loopM g (lvlAt 4) (t.length + 1) x t) be ba := hu.congr fun _ => by
        rw [loopM, hix]; rfl
      rcases tokw_cases hl2 with ⟨rfl, a, c, rfl⟩ | ⟨t0, r, b, o, c, rfl, rfl, hc, hkk, hn, y0, y1, y2⟩
      · cases hpos
      have hc2 : (1 : Int) ≤ ((r.length + 1 : Nat) : Int) ∧ r.length + 1 ≤ c := ⟨by omega, hc⟩
      have hl3 : RS M2 RTw 3 r (.slice (cutA (some ⟨b, o, none⟩) c 1 3) (r.length + 1 - 1) (c - 1)) := by
        have := RS_cut (k := 1) (by decide) (fun _ _ => RTw_len) hl2 (by simp)
        simpa using this
      rw [List.tail_cons] at hu3
      simp +contextual only [go_sem, Rcb, Rbk, sevalprocAttr, e0, e2, e3, np, hc2, hap2, hap3]
      refine part_w [(b3, _), (b2, _)] (hg M2 r _ be2 ba2 N hl3) ?_
      rintro v M3 z t4 lv4 be4 ba4 hM3 hno3 hr3 hl4 ⟨cs, rfl, hz⟩
      obtain ⟨s5, rfl, hs5, hs6⟩ := RX_form hz
      simp only [List.cons_append, List.nil_append, noneL, noneL_wL] at hno3
      simp +contextual only [go_sem, Rcb, Rbk, sevalprocAttr, e0, e2, e3, hno3, hs5]
      intro b4 T4 hb4 hap4 hT4 hTb4
      refine rCall_pure (ct_pair 13 (RX_ext hM3 _ _ hy) hz _) ?_ (fun _ _ _ _ h => h.elim)
      rintro v M5 hM5 hno5 ⟨cs, rfl, hw⟩
      obtain ⟨s7, rfl, hs7, hs8⟩ := RX_form hw
      simp only [List.cons_append, List.nil_append, noneL, noneL_wL] at hno5
      have hu5 := hu3.bind hr3
      simp +contextual only [go_sem, Rcb, Rbk, sevalprocAttr, e0, e2, e3, hno5, hs7, hap4]
      have hlt4 : be4 = 0 → t4.length ≤ r.length := fun h4 => by
        unfold Rl at hr3
        rw [if_pos h0] at hr3
        cases hgt : g r with
        | ok a r =>
          rw [hgt] at hr3
          obtain ⟨_, rfl, _⟩ := hr3
          exact hle _ _ _ hgt
        | err e x => rw [hgt] at hr3; exact (hr3.1 (hr3.2.1 ▸ h4)).elim
        | out => exact (hno_out _ hgt).elim
      simp only [List.length_cons] at hk hpos
      refine lp_close (Close_drop (Close_id ⟨if be4 = 0 then t4.length + 1 else 0, ?_, rfl, ⟨?_, ?_, ?_⟩, T4, M5, lv4, t4, be4, ba4, _, _, _, hN.trans hT4, hno5.2.1, hno5.2.2.1, hno5.2.2.2, RS_ext hM5 (fun _ _ h => h) hl4, hw, hu5, fun h4 => ⟨k, ?_, rfl⟩, rfl, rfl⟩))
      · rw [if_pos h0]
        split
        · rename_i h4; have := hlt4 h4; omega
        · omega
      · simp only [e0, go_sem, Rcb, Rbk, sevalprocAttr]
      · simp only [e2, go_sem, Rcb, Rbk, sevalprocAttr]
      · simp only [e3, go_sem, Rcb, Rbk, sevalprocAttr]
      · have := hlt4 h4; omega
    · have hu3 : Up (.ok y t) be2 ba2 ((g toks).bind fun x t => loopM g (lvlAt 4) (t.length + 1) x t) be ba := hu.congr fun h0 => by
        obtain ⟨k, hk, rfl⟩ := hC h0
        obtain ⟨k, rfl⟩ : ∃ j, k = j + 1 := ⟨k - 1, by omega⟩
        have q1 : seesM [43] t = false := by simpa [comesM, h0] using hp
        have q2 : seesM [45] t = false := by simpa [comesM, h0] using hm
        have hix : idxSign (lvlAt 4).signs t = none := by
          show idxSign [[43], [45]] t = none
          simp [idxSign, q1, q2]
        rw [loopM, hix]
      simp +contextual only [go_sem, Rcb, Rbk, sevalprocAttr, e0, e2, e3, n3, n2, np, hs3, hap2, hap3, hm]
      exact fin_wr (enc := encX) [(b3, _), (b2, _)] ((hT2.trans hT3).trans hN) hu3 hl2 ⟨_, rfl, hy⟩
end Go.Proofs.YtoainkbcfnlkcaaGreatDoor

namespace Go.Proofs.YtoainkbcfnlkcaaGreatDoor
open Go Vc
set_option linter.unusedSimpArgs false
set_option linter.unusedVariables false
set_option maxRecDepth 10000

def cmpL : List Bs := [[61], [60, 62], [60], [60, 61], [62], [62, 61]]
theorem RX_lit1 {M : Mem} {b : Nat} {x : X} {cs : List Value} (hx : RX M x cs) (hb : M b = some cs) (k : Int) : RX M (mkX k [x]) [.int .i64 k, .int .i64 0, .int .i64 0, st [], st [], st [], .slice (some ⟨b, 0, none⟩) 1 1] :=
  RX_mk (RS_lit (l := [x]) (fun _ _ h => RX_len h) hb (RL_one hx) rfl (by decide))
theorem ct_w_compare {en : Int} {pb : Nat} {op : Int} {g : List Tk → Rs X} (hg : LvD 203 en pb op g) :
    LvD 188 en pb op (fun t => (g t).bind fun x t => if seesM wIs t = true then isM en x t else loopM g (lvlAt 3) (t.length + 1) x t) := by
  intro M toks lv be ba T hl
  refine ct_run mx bod188 Tryz.func188 rfl (by rw [nt188]; exact Nat.le_of_ble_eq_true rfl) (dr := dr188) (by kernel_rfl) rs188 ?_
  intro hno _
  simp only [noneL_wL] at hno
  simp +contextual only [go_sem, Rcb, Rbk, sevalprocAttr]
  intro b2 T2 hb2 hap2 hT2 hTb2
  refine part_w [(b2, _)] (hg M toks lv be ba T2 hl) ?_
  rintro v M1 x t1 lv1 be1 ba1 hM1 hno1 hr1 hl1 ⟨cs, rfl, hx⟩
  obtain ⟨s, rfl, hs1, hs2⟩ := RX_form hx
  have hu1 := Up.bind (F := fun x t => if seesM wIs t = true then isM en x t else loopM g (lvlAt 3) (t.length + 1) x t) Up.rfl' hr1
  simp only [List.cons_append, List.nil_append, noneL, noneL_wL] at hno1
  simp +contextual only [go_sem, Rcb, Rbk, sevalprocAttr, hno1, hap2, hs1]
  intro b3 T3 hb3 hap3 hT3 hTb3
  have hT := hT2.trans hT3
  refine may_w [(b3, _), (b2, _)] wIs hl1 (fun h0 hs lv2 hl2 => ?_) (fun hs lv2 hl2 => ?_)
  · simp +contextual only [go_sem, Rcb, Rbk, sevalprocAttr]
    refine may_w1 [(b3, _), (b2, _)] wNot hl2 fun nt t2 lv3 hnt ht2 hl3 => ?_
    have hu2 : Up ((needM en [wNull] t2).bind fun _ t' => .ok (if nt = true then mkX 3 [mkX 16 [x]] else mkX 16 [x]) t') be1 ba1 _ be ba := hu1.congr fun _ => by
      have e1 := hnt h0
      subst e1
      rw [if_pos hs, isM, ht2 h0]
    simp +contextual only [go_sem, Rcb, Rbk, sevalprocAttr]
    intro b5 hb5 hap5
    refine must_w [(b3, _), (b2, _)] hu2 hl3 ?_
    intro M4 t4 lv4 be4 ba4 hM4 hno4 hu4 hl4
    simp only [List.cons_append, List.nil_append, noneL, noneL_wL] at hno4
    have hx4 := RX_ext hM4 _ _ hx
    cases nt with
    | false =>
      simp +contextual only [go_sem, Rcb, Rbk, sevalprocAttr, hno4, hap2, hap3, hs1]
      intro b6 hb6 hap6
      refine Close_freeze fun he hM6 hno6 => ?_
      exact fin_wr (enc := encX) [(b3, _), (b2, _)] hT hu4 (RS_ext he (fun _ _ h => h) hl4) ⟨_, rfl, RX_lit1 (RX_ext he _ _ hx4) hM6 16⟩
    | true =>
      simp +contextual only [go_sem, Rcb, Rbk, sevalprocAttr, hno4, hap2, hap3, hs1]
      intro b6 hb6 hap6 b7 hb7 hap7
      refine Close_freeze fun he7 hM7 hno7 => ?_
      refine Close_freeze fun he6 hM6 hno6 => ?_
      have he := he7.trans he6
      exact fin_wr (enc := encX) [(b3, _), (b2, _)] hT hu4 (RS_ext he (fun _ _ h => h) hl4) ⟨_, rfl, RX_lit1 (RX_lit1 (RX_ext he _ _ hx4) hM6 16) (he6 _ _ hM7) 3⟩
  · have hu2 := hu1.congr fun h0 => if_neg (by rw [hs h0]; decide)
    simp +contextual only [go_sem, Rcb, Rbk, sevalprocAttr]
    intro b5 hb5 hap5
    refine loop_rangeC 6 27 [(0, .pointer (some ⟨pb, 0, none⟩)), (2, .pointer (some ⟨b2, 0, none⟩)), (3, .pointer (some ⟨b3, 0, none⟩)), (25, .slice (some ⟨b5, 0, none⟩) 6 6), (26, .int .i64 6)]
      (fun i e h => (∃ M' lv', Ext M1 M' ∧ M' b5 = some (cmpL.map st) ∧ M' b3 = none ∧ M' b2 = none ∧ M' pb = none ∧ RS M' RTw 3 t1 lv' ∧
          h = ⟨T3, M', (b3, [.int .i64 x.k, .int .i64 x.v.k, .int .i64 x.v.n, st x.v.t, st x.tab, st x.name, s]) :: (b2, [.int .i64 0, .int .i64 0, .int .i64 0, st [], st [], st [], .slice none 0 0]) :: wL pb lv' en op be1 ba1, []⟩) ∧
        (be1 = 0 → idxSign cmpL t1 = (idxSign (cmpL.drop i) t1).map (· + i)))
      0 (by omega) (by simp only [live, go_sem, Rcb, Rbk, sevalprocAttr]) (by simp only [go_sem, Rcb, Rbk, sevalprocAttr]) (Close_freeze fun he hb hno => Close_id ⟨⟨_, lv2, he, hb, hno.1, hno.2.1, (by have := hno.2.2; simpa only [noneL_wL] using this), RS_ext he (fun _ _ h => h) hl2, rfl⟩, fun _ => by simp⟩) ?_
    rintro i e h hi hlv ht ⟨⟨M2, lv6, hM2, hw, n3, n2, np, hl6, rfl⟩, hidx⟩
    simp only [live] at hlv
    have hx2 := RX_ext hM2 _ _ hx
    by_cases hlt : i < 6
    · have hlt' : i < cmpL.length := hlt
      have hdrop : cmpL.drop i = cmpL[i] :: cmpL.drop (i + 1) := List.drop_eq_getElem_cons hlt'
      rw [hdrop] at hidx
      have hxx : mcell M2 ⟨b5, i, none⟩ = some (.string (bs cmpL[i])) := by
        rw [mcell_some hw, List.getElem?_map, List.getElem?_eq_getElem hlt']
        rfl
      have hi3 : (i : Int) < 6 := by omega
      simp +contextual only [go_sem, Rcb, Rbk, sevalprocAttr, hlv, ht, hlt, hi3, hxx]
      refine may_w [(b3, _), (b2, _)] cmpL[i] hl6 (fun h0 hs lv7 hl7 => ?_) (fun hs lv7 hl7 => ?_)
      · have hix : idxSign (lvlAt 3).signs t1 = some i := by
          show idxSign cmpL t1 = some i
          rw [hidx h0]; simp [idxSign, hs]
        have hw21 : IntKind.i64.wrap (6 + (i : Int)) = 6 + (i : Int) := wrap64 (by omega) (by omega)
        have hu3 : Up ((g t1.tail).bind fun y t' => .ok (mkX (6 + (i : Int)) [x, y]) t') be1 ba1 _ be ba := hu2.congr fun _ => by
          rw [loopM, hix]; rfl
        simp +contextual only [go_sem, Rcb, Rbk, sevalprocAttr, hlv, ht]
        refine part_w [(b3, _), (b2, _)] (hg M2 t1.tail lv7 be1 ba1 T3 hl7) ?_
        rintro v M3 z t4 lv4 be4 ba4 hM3 hno3 hr3 hl4 ⟨cs, rfl, hz⟩
        obtain ⟨s5, rfl, hs5, hs6⟩ := RX_form hz
        simp only [List.cons_append, List.nil_append, noneL, noneL_wL] at hno3
        simp +contextual only [go_sem, Rcb, Rbk, sevalprocAttr, hlv, ht, hno3, hs5]
        intro b7 T7 hb7 hap7 hT7 hTb7
        simp +contextual only [go_sem, Rcb, Rbk, sevalprocAttr, hlv, ht, hno3, hs5, hs1, hb7, hap7, hw21]
        refine rCall_pure (ct_pair (6 + (i : Int)) (RX_ext hM3 _ _ hx2) hz _) ?_ (fun _ _ _ _ h => h.elim)
        rintro v M5 hM5 hno5 ⟨cs, rfl, hw⟩
        obtain ⟨s7, rfl, hs7, hs8⟩ := RX_form hw
        simp only [List.cons_append, List.nil_append, noneL, noneL_wL] at hno5
        simp +contextual only [go_sem, Rcb, Rbk, sevalprocAttr, hlv, ht, hno5, hs7, hap7, hap2, hap3]
        exact fin_wr (enc := encX) [(b7, _), (b3, _), (b2, _)] (hT.trans hT7) (hu3.bind hr3) (RS_ext hM5 (fun _ _ h => h) hl4) ⟨_, rfl, hw⟩
      · simp +contextual only [go_sem, Rcb, Rbk, sevalprocAttr, hlv, ht]
        refine lp_range hlt ?_ ?_ ⟨⟨M2, lv7, hM2, hw, n3, n2, np, hl7, rfl⟩, fun h0 => ?_⟩
        · simp only [live, hlv, go_sem, Rcb, Rbk, sevalprocAttr]
        · simp only [ht, go_sem, Rcb, Rbk, sevalprocAttr, wrap_succ i (by omega)]
        · rw [hidx h0]
          simp only [idxSign, hs h0, Bool.false_eq_true, if_false, Option.map_map]
          congr 1
          funext n
          simp only [Function.comp]; omega
    · have : i = 6 := by omega
      subst this
      have hu3 : Up (.ok x t1) be1 ba1 _ be ba := hu2.congr fun h0 => by
        have hix : idxSign (lvlAt 3).signs t1 = none := by
          show idxSign cmpL t1 = none
          rw [hidx h0]; rfl
        rw [loopM, hix]
      have h33 : ¬ ((6 : Nat) : Int) < 6 := by omega
      simp +contextual only [go_sem, Rcb, Rbk, sevalprocAttr, hlv, ht, h33, n3, n2, np, hs1, hap2, hap3]
      exact fin_wr (enc := encX) [(b3, _), (b2, _)] hT hu3 hl6 ⟨_, rfl, hx2⟩
theorem ct_w_not {en : Int} {pb : Nat} {op : Int} {g h : List Tk → Rs X} (hop : 0 ≤ op ∧ op ≤ 100) (hg : LvD 188 en pb op g) (hh : op + 1 ≤ 100 → LvD 168 en pb (op + 1) h) :
    LvD 168 en pb op (fun t => if seesM wNot t = true then (if op + 1 > 100 then .err 4 (atM en t.tail) else (h t.tail).bind fun x t => .ok (mkX 3 [x]) t) else g t) := by
  intro M toks lv be ba T hl
  refine ct_run mx bod168 Tryz.func168 rfl (by rw [nt168]; exact Nat.le_of_ble_eq_true rfl) (dr := dr168) (by kernel_rfl) rs168 ?_
  intro hno _
  simp only [noneL_wL] at hno
  have hu := Up.rfl' (r := if seesM wNot toks = true then (if op + 1 > 100 then .err 4 (atM en toks.tail) else (h toks.tail).bind fun x t => .ok (mkX 3 [x]) t) else g toks) (be := be) (ba := ba)
  simp +contextual only [go_sem, Rcb, Rbk, sevalprocAttr]
  intro b2 T2 hb2 hap2 hT2 hTb2
  refine may_w [(b2, _)] wNot hl (fun h0 hs lv1 hl1 => ?_) (fun hs lv1 hl1 => ?_)
  · have hu1 := hu.congr fun _ => if_pos hs
    simp +contextual only [go_sem, Rcb, Rbk, sevalprocAttr]
    intro b3 T3 hb3 hap3 hT3 hTb3
    have hT := hT2.trans hT3
    have hw : IntKind.i64.wrap (op + 1 - 1) = op := by rw [wrap64 (by omega) (by omega)]; omega
    refine in_w [(b3, _), (b2, _)] hop hl1 (fun h0 h100 => ?_) (fun be' ba' hne h1 h2 => ?_)
    · have hu2 := hu1.congr fun _ => if_neg h100
      simp +contextual only [go_sem, Rcb, Rbk, sevalprocAttr]
      refine part_w [(b3, _), (b2, _)] (hh (by omega) M toks.tail lv1 be ba T3 hl1) ?_
      rintro v M1 x t lv2 be1 ba1 hM1 hno1 hr hl2 ⟨cs, rfl, hx⟩
      obtain ⟨s, rfl, hs1, hs2⟩ := RX_form hx
      simp only [List.cons_append, List.nil_append, noneL, noneL_wL] at hno1
      simp +contextual only [go_sem, Rcb, Rbk, sevalprocAttr, hno1, hap2, hap3, hs1, hw]
      intro b6 hb6 hap6
      refine Close_freeze fun he hM6 hno6 => ?_
      exact fin_wr (enc := encX) [(b3, _), (b2, _)] hT (hu2.bind hr) (RS_ext he (fun _ _ h => h) hl2) ⟨_, rfl, RX_lit1 (RX_ext he _ _ hx) hM6 3⟩
    · simp +contextual only [go_sem, Rcb, Rbk, sevalprocAttr, hno, hb2, hap2, hb3, hap3, hw]
      exact fin_wr (enc := encX) (a := mkX 3 []) [(b3, _), (b2, _)] hT ((hu1.into h1 h2) (.ok _ toks.tail)) hl1 ⟨_, rfl, RX_mk RS_nil⟩
  · have hu1 := hu.congr fun h0 => if_neg (by rw [hs h0]; decide)
    simp +contextual only [go_sem, Rcb, Rbk, sevalprocAttr]
    refine part_w [(b2, _)] (hg M toks lv1 be ba T2 hl1) ?_
    rintro v M1 x t lv2 be1 ba1 hM1 hno1 hr hl2 ⟨cs, rfl, hx⟩
    obtain ⟨s, rfl, hs1, hs2⟩ := RX_form hx
    simp only [List.cons_append, List.nil_append, noneL, noneL_wL] at hno1
    simp +contextual only [go_sem, Rcb, Rbk, sevalprocAttr, hno1, hap2, hs1]
    refine fin_wr (enc := encX) [(b2, _)] hT2 ?_ hl2 ⟨_, rfl, hx⟩
    intro a t' be' ba' hq
    exact hu1 _ _ _ _ (Up.of_Rl hr _ _ _ _ hq)
end Go.Proofs.YtoainkbcfnlkcaaGreatDoor

namespace Go.Proofs.YtoainkbcfnlkcaaGreatDoor
open Go Vc
set_option linter.unusedSimpArgs false
set_option linter.unusedVariables false
set_option maxRecDepth 10000

def fnL : List Bs := [wCount, wSum, wMin, wMax]
def pieceT (en : Int) (ex : List Tk → Rs X) (v : Option V) (t : List Tk) : Rs X := match v with
    | some v => .ok (litX v) t
    | none =>
      if seesM sOpen t = true then (ex t.tail).bind fun x t => (needM en [sClose] t).bind fun _ t => .ok x t
      else if seesM wCase t = true then (needM en [wWhen] t.tail).bind fun _ t => (ex t).bind fun a t => (needM en [wThen] t).bind fun _ t => (ex t).bind fun b t =>
        (needM en [wElse] t).bind fun _ t => (ex t).bind fun c t => (needM en [wEnd] t).bind fun _ t => .ok (mkX 17 [a, b, c]) t
      else if seesM wCoal t = true then (needM en [sOpen] t.tail).bind fun _ t => (ex t).bind fun a t => (needM en [sComma] t).bind fun _ t => (ex t).bind fun b t => (needM en [sClose] t).bind fun _ t => .ok (mkX 18 [a, b]) t
      else if seesM wCount t = true then (needM en [sOpen] t.tail).bind fun _ t =>
        if seesM sStar t = true then (needM en [sClose] t.tail).bind fun _ t => .ok (mkX 19 []) t
        else (ex t).bind fun a t => (needM en [sClose] t).bind fun _ t => .ok (mkX 20 [a]) t
      else match idxSign [wSum, wMin, wMax] t with
        | some i => (needM en [sOpen] t.tail).bind fun _ t => (ex t).bind fun a t => (needM en [sClose] t).bind fun _ t => .ok (mkX (21 + i) [a]) t
        | none => (nameM en t).bind fun n t => if seesM sDot t = true then (nameM en t.tail).bind fun m t => .ok (.mk 2 ⟨0, 0, []⟩ n m []) t else .ok (.mk 2 ⟨0, 0, []⟩ [] n []) t
theorem pieceM_eq (en : Int) (ex : List Tk → Rs X) (t : List Tk) : pieceM en ex t = (valueM en t).bind (pieceT en ex) := by
  unfold pieceM
  congr 1
theorem fn_idx (t : List Tk) : idxSign fnL t = if seesM wCount t = true then some 0 else (idxSign [wSum, wMin, wMax] t).map (· + 1) := rfl
theorem RX_col {M : Mem} (a b : Bs) : RX M (.mk 2 ⟨0, 0, []⟩ a b []) [.int .i64 2, .int .i64 0, .int .i64 0, st [], st a, st b, .slice none 0 0] :=
  RX_iff.2 ⟨_, rfl, RS_nil⟩
theorem ct_w_piece {en : Int} {pb : Nat} {op : Int} {ex : List Tk → Rs X} (hex : LvD 75 en pb op ex) : LvD 213 en pb op (pieceM en ex) := by
  intro M toks lv be ba T hl
  refine ct_run mx bod213 Tryz.func213 rfl (by rw [nt213]; exact Nat.le_of_ble_eq_true rfl) (dr := dr213) (by kernel_rfl) rs213 ?_
  intro hno _
  simp only [noneL_wL] at hno
  have hu := Up.rfl' (r := pieceM en ex toks) (be := be) (ba := ba)
  replace hu := hu.congr fun _ => pieceM_eq en ex toks
  simp +contextual only [go_sem, Rcb, Rbk, sevalprocAttr]
  intro b2 T2 hb2 hap2 hT2 hTb2
  refine part_w [(b2, _)] (ct_w_value hl T2) ?_
  intro v M1 o t lv1 be1 ba1 hM1 hno1 hr1 hl1 hv
  have hu1 := hu.bind hr1
  clear hu hr1
  simp only [List.cons_append, List.nil_append, noneL, noneL_wL] at hno1
  cases o with
  | some x =>
    simp only [encV] at hv; subst hv
    simp +contextual only [go_sem, Rcb, Rbk, sevalprocAttr, hno1, hap2, V.cs]
    intro b3 T3 hb3 hap3 hT3 hTb3
    exact fin_wr (enc := encX) (a := litX x) [(b3, _), (b2, _)] (hT2.trans hT3) hu1 hl1 ⟨_, rfl, RX_lit x⟩
  | none =>
    simp only [encV] at hv; subst hv
    simp +contextual only [go_sem, Rcb, Rbk, sevalprocAttr, hno1, hap2, V.cs]
    intro b3 T3 hb3 hap3 hT3 hTb3
    have hT := hT2.trans hT3
    simp only [pieceT] at hu1
    refine may_w [(b3, _), (b2, _)] sOpen hl1 (fun h0 hs lv2 hl2 => ?_) (fun hs lv2 hl2 => ?_)
    · replace hu1 := hu1.congr fun _ => if_pos hs
      simp +contextual only [go_sem, Rcb, Rbk, sevalprocAttr]
      refine part_w [(b3, _), (b2, _)] (hex M1 _ lv2 _ _ T3 hl2) ?_
      rintro v M2 x t2 lv3 be2 ba2 hM2 hno2 hr hl3 ⟨cs, rfl, hx⟩
      obtain ⟨s, rfl, h1, _⟩ := RX_form hx
      replace hu1 := hu1.bind hr
      simp only [List.cons_append, List.nil_append, noneL, noneL_wL] at hno2
      simp +contextual only [go_sem, Rcb, Rbk, sevalprocAttr, hno2, hap2, hap3, h1]
      intro b5 T5 hb5 hap5 hT5 hTb5 b6 hb6 hap6
      refine must_w [(b5, _), (b3, _), (b2, _)] hu1 hl3 ?_
      intro M3 t3 lv4 be3 ba3 hM3 hno3 hu2 hl4
      simp only [List.cons_append, List.nil_append, noneL, noneL_wL] at hno3
      simp +contextual only [go_sem, Rcb, Rbk, sevalprocAttr, hno3, hap2, hap3, hap5, h1]
      exact fin_wr (enc := encX) [(b5, _), (b3, _), (b2, _)] (hT.trans hT5) hu2 hl4 ⟨_, rfl, RX_ext hM3 _ _ hx⟩
    replace hu1 := hu1.congr fun h0 => if_neg (by rw [hs h0]; decide)
    clear hs hl1
    simp +contextual only [go_sem, Rcb, Rbk, sevalprocAttr]
    refine may_w [(b3, _), (b2, _)] wCase hl2 (fun h0 hs lv3 hl3 => ?_) (fun hs lv3 hl3 => ?_)
    · replace hu1 := hu1.congr fun _ => if_pos hs
      simp +contextual only [go_sem, Rcb, Rbk, sevalprocAttr]
      intro b4 hb4 hap4
      refine must_w [(b3, _), (b2, _)] hu1 hl3 ?_
      intro M2 t2 lv4 be2 ba2 hM2 hno2 hu2 hl4
      simp +contextual only [go_sem, Rcb, Rbk, sevalprocAttr]
      refine part_w [(b3, _), (b2, _)] (hex M2 _ lv4 _ _ T3 hl4) ?_
      rintro v M3 x t3 lv5 be3 ba3 hM3 hno3 hr3 hl5 ⟨cs, rfl, hx⟩
      obtain ⟨s, rfl, h1, _⟩ := RX_form hx
      have hu3 := hu2.bind hr3
      simp only [List.cons_append, List.nil_append, noneL, noneL_wL] at hno3
      simp +contextual only [go_sem, Rcb, Rbk, sevalprocAttr, hno3, hap2, hap3, h1]
      intro b6 T6 hb6 hap6 hT6 hTb6 b7 hb7 hap7
      refine must_w [(b6, _), (b3, _), (b2, _)] hu3 hl5 ?_
      intro M4 t4 lv6 be4 ba4 hM4 hno4 hu4 hl6
      simp +contextual only [go_sem, Rcb, Rbk, sevalprocAttr]
      refine part_w [(b6, _), (b3, _), (b2, _)] (hex M4 _ lv6 _ _ T6 hl6) ?_
      rintro v M5 y t5 lv7 be5 ba5 hM5 hno5 hr5 hl7 ⟨cs, rfl, hy⟩
      obtain ⟨s', rfl, h1', _⟩ := RX_form hy
      have hu5 := hu4.bind hr5
      simp only [List.cons_append, List.nil_append, noneL, noneL_wL] at hno5
      simp +contextual only [go_sem, Rcb, Rbk, sevalprocAttr, hno5, hap2, hap3, hap6, h1']
      intro b8 T8 hb8 hap8 hT8 hTb8 b9 hb9 hap9
      refine must_w [(b8, _), (b6, _), (b3, _), (b2, _)] hu5 hl7 ?_
      intro M6 t6 lv8 be6 ba6 hM6 hno6 hu6 hl8
      simp +contextual only [go_sem, Rcb, Rbk, sevalprocAttr]
      refine part_w [(b8, _), (b6, _), (b3, _), (b2, _)] (hex M6 _ lv8 _ _ T8 hl8) ?_
      rintro v M7 z t7 lv9 be7 ba7 hM7 hno7 hr7 hl9 ⟨cs, rfl, hz⟩
      obtain ⟨s'', rfl, h1'', _⟩ := RX_form hz
      have hu7 := hu6.bind hr7
      simp only [List.cons_append, List.nil_append, noneL, noneL_wL] at hno7
      simp +contextual only [go_sem, Rcb, Rbk, sevalprocAttr, hno7, hap2, hap3, hap6, hap8, h1'']
      intro bA TA hbA hapA hTA hTbA bB hbB hapB
      refine must_w [(bA, _), (b8, _), (b6, _), (b3, _), (b2, _)] hu7 hl9 ?_
      intro M8 t8 lva be8 ba8 hM8 hno8 hu8 hla
      simp only [List.cons_append, List.nil_append, noneL, noneL_wL] at hno8
      simp +contextual only [go_sem, Rcb, Rbk, sevalprocAttr, hno8, hap2, hap3, hap6, hap8, hapA, h1, h1', h1'']
      intro bC hbC hapC
      refine Close_freeze fun he hMC hnoC => ?_
      have hx9 := RX_ext (((((hM4.trans hM5).trans hM6).trans hM7).trans hM8).trans he) _ _ hx
      have hy9 := RX_ext (((hM6.trans hM7).trans hM8).trans he) _ _ hy
      have hz9 := RX_ext (hM8.trans he) _ _ hz
      exact fin_wr (enc := encX) [(bA, _), (b8, _), (b6, _), (b3, _), (b2, _)] (((hT.trans hT6).trans hT8).trans hTA) hu8 (RS_ext he (fun _ _ h => h) hla)
        ⟨_, rfl, RX_mk (RS_lit (l := [x, y, z]) (fun _ _ h => RX_len h) hMC (RL_append (RL_one hx9) (RL_append (RL_one hy9) (RL_one hz9))) rfl (by decide))⟩
    replace hu1 := hu1.congr fun h0 => if_neg (by rw [hs h0]; decide)
    clear hs hl2
    simp +contextual only [go_sem, Rcb, Rbk, sevalprocAttr]
    refine may_w [(b3, _), (b2, _)] wCoal hl3 (fun h0 hs lv4 hl4 => ?_) (fun hs lv4 hl4 => ?_)
    · replace hu1 := hu1.congr fun _ => if_pos hs
      simp +contextual only [go_sem, Rcb, Rbk, sevalprocAttr]
      intro b4 hb4 hap4
      refine must_w [(b3, _), (b2, _)] hu1 hl4 ?_
      intro M2 t2 lv5 be2 ba2 hM2 hno2 hu2 hl5
      simp +contextual only [go_sem, Rcb, Rbk, sevalprocAttr]
      refine part_w [(b3, _), (b2, _)] (hex M2 _ lv5 _ _ T3 hl5) ?_
      rintro v M3 x t3 lv6 be3 ba3 hM3 hno3 hr3 hl6 ⟨cs, rfl, hx⟩
      obtain ⟨s, rfl, h1, _⟩ := RX_form hx
      have hu3 := hu2.bind hr3
      simp only [List.cons_append, List.nil_append, noneL, noneL_wL] at hno3
      simp +contextual only [go_sem, Rcb, Rbk, sevalprocAttr, hno3, hap2, hap3, h1]
      intro b6 T6 hb6 hap6 hT6 hTb6 b7 hb7 hap7
      refine must_w [(b6, _), (b3, _), (b2, _)] hu3 hl6 ?_
      intro M4 t4 lv7 be4 ba4 hM4 hno4 hu4 hl7
      simp +contextual only [go_sem, Rcb, Rbk, sevalprocAttr]
      refine part_w [(b6, _), (b3, _), (b2, _)] (hex M4 _ lv7 _ _ T6 hl7) ?_
      rintro v M5 y t5 lv8 be5 ba5 hM5 hno5 hr5 hl8 ⟨cs, rfl, hy⟩
      obtain ⟨s', rfl, h1', _⟩ := RX_form hy
      have hu5 := hu4.bind hr5
      simp only [List.cons_append, List.nil_append, noneL, noneL_wL] at hno5
      simp +contextual only [go_sem, Rcb, Rbk, sevalprocAttr, hno5, hap2, hap3, hap6, h1']
      intro b8 T8 hb8 hap8 hT8 hTb8 b9 hb9 hap9
      refine must_w [(b8, _), (b6, _), (b3, _), (b2, _)] hu5 hl8 ?_
      intro M6 t6 lv9 be6 ba6 hM6 hno6 hu6 hl9
      simp only [List.cons_append, List.nil_append, noneL, noneL_wL] at hno6
      simp +contextual only [go_sem, Rcb, Rbk, sevalprocAttr, hno6, hap2, hap3, hap6, hap8, h1, h1']
      refine rCall_pure (ct_pair 18 (RX_ext ((hM4.trans hM5).trans hM6) _ _ hx) (RX_ext hM6 _ _ hy) T8) ?_ (fun _ _ _ _ h => h.elim)
      rintro v M7 hM7 hno7 ⟨cs, rfl, hxy⟩
      obtain ⟨s'', rfl, h1'', _⟩ := RX_form hxy
      simp only [List.cons_append, List.nil_append, noneL, noneL_wL] at hno7
      simp +contextual only [go_sem, Rcb, Rbk, sevalprocAttr, hno7, hap2, hap3, hap6, hap8, h1'']
      exact fin_wr (enc := encX) [(b8, _), (b6, _), (b3, _), (b2, _)] ((hT.trans hT6).trans hT8) hu6 (RS_ext hM7 (fun _ _ h => h) hl9) ⟨_, rfl, hxy⟩
    replace hu1 := hu1.congr fun h0 => if_neg (by rw [hs h0]; decide)
    clear hs hl3
    simp +contextual only [go_sem, Rcb, Rbk, sevalprocAttr]
    intro b4 hb4 hap4
    refine loop_rangeC 4 76 [(0, .pointer (some ⟨pb, 0, none⟩)), (2, .pointer (some ⟨b2, 0, none⟩)), (74, .slice (some ⟨b4, 0, none⟩) 4 4), (75, .int .i64 4)]
      (fun i e h => (∃ M' lv', Ext M1 M' ∧ M' b4 = some (fnL.map st) ∧ RS M' RTw 3 t lv' ∧ M' b3 = none ∧ M' b2 = none ∧ M' pb = none ∧
          h = ⟨T3, M', (b3, [.int .i64 0, .int .i64 0, st []]) :: (b2, [.int .i64 0, .int .i64 0, .int .i64 0, st [], st [], st [], .slice none 0 0]) :: wL pb lv' en op be1 ba1, []⟩) ∧ (be1 = 0 → idxSign fnL t = (idxSign (fnL.drop i) t).map (· + i)))
      0 (by omega) (by simp only [live, go_sem, Rcb, Rbk, sevalprocAttr]) (by simp only [go_sem, Rcb, Rbk, sevalprocAttr]) (Close_freeze fun he hb hno => Close_id ⟨⟨_, lv4, he, hb, RS_ext he (fun _ _ h => h) hl4, hno.1, hno.2.1, (by have := hno.2.2; simpa only [noneL_wL] using this), rfl⟩, fun _ => by simp⟩) ?_
    rintro i e h hi hlv ht ⟨⟨M2, lv6, hM2, hw, hl6, hn3, hn2, hnp, rfl⟩, hidx⟩
    simp only [live] at hlv
    by_cases hlt : i < 4
    · have hlt' : i < fnL.length := hlt
      have hdrop : fnL.drop i = fnL[i] :: fnL.drop (i + 1) := List.drop_eq_getElem_cons hlt'
      rw [hdrop] at hidx
      have hx : mcell M2 ⟨b4, i, none⟩ = some (.string (bs fnL[i])) := by
        rw [mcell_some hw, List.getElem?_map, List.getElem?_eq_getElem hlt']
        rfl
      have hi3 : (i : Int) < 4 := by omega
      simp +contextual only [go_sem, Rcb, Rbk, sevalprocAttr, hlv, ht, hlt, hi3, hx]
      refine may_w [(b3, _), (b2, _)] fnL[i] hl6 (fun h0 hs lv7 hl7 => ?_) (fun hs lv7 hl7 => ?_)
      · have hix : idxSign fnL t = some i := by rw [hidx h0]; simp [idxSign, hs]
        rw [fn_idx] at hix
        have hw21 : IntKind.i64.wrap (20 + (i : Int)) = 20 + (i : Int) := wrap64 (by omega) (by omega)
        by_cases hi0 : i = 0
        · subst hi0
          have hsc : seesM wCount t = true := hs
          have hu2 := hu1.congr fun _ => if_pos hsc
          simp +contextual only [go_sem, Rcb, Rbk, sevalprocAttr, hlv, ht]
          intro b5 hb5 hap5
          refine must_w [(b3, _), (b2, _)] hu2 hl7 ?_
          intro M3 t3 lv8 be3 ba3 hM3 hno3 hu3 hl8
          have c00 : ((0 : Nat) : Int) = 0 := rfl
          simp +contextual only [go_sem, Rcb, Rbk, sevalprocAttr, hlv, ht, c00]
          refine may_w [(b3, _), (b2, _)] sStar hl8 (fun h0 hs lv9 hl9 => ?_) (fun hs lv9 hl9 => ?_)
          · have hu4 := hu3.congr fun _ => if_pos hs
            simp +contextual only [go_sem, Rcb, Rbk, sevalprocAttr, hlv, ht]
            intro b6 hb6 hap6
            refine must_w [(b3, _), (b2, _)] hu4 hl9 ?_
            intro M4 t4 lva be4 ba4 hM4 hno4 hu5 hla
            simp only [List.cons_append, List.nil_append, noneL, noneL_wL] at hno4
            simp +contextual only [go_sem, Rcb, Rbk, sevalprocAttr, hlv, hno4, hap2, hap3]
            exact fin_wr (enc := encX) [(b3, _), (b2, _)] hT hu5 hla ⟨_, rfl, RX_mk RS_nil⟩
          · have hu4 := hu3.congr fun h0 => if_neg (by rw [hs h0]; decide)
            simp +contextual only [go_sem, Rcb, Rbk, sevalprocAttr, hlv, ht]
            refine part_w [(b3, _), (b2, _)] (hex M3 _ lv9 _ _ T3 hl9) ?_
            rintro v M4 x t4 lva be4 ba4 hM4 hno4 hr4 hla ⟨cs, rfl, hx⟩
            obtain ⟨s, rfl, h1, _⟩ := RX_form hx
            have hu5 := hu4.bind hr4
            simp only [List.cons_append, List.nil_append, noneL, noneL_wL] at hno4
            simp +contextual only [go_sem, Rcb, Rbk, sevalprocAttr, hno4, hap2, hap3, h1, hlv]
            intro b7 T7 hb7 hap7 hT7 hTb7 b8 hb8 hap8
            refine must_w [(b7, _), (b3, _), (b2, _)] hu5 hla ?_
            intro M5 t5 lvb be5 ba5 hM5 hno5 hu6 hlb
            simp only [List.cons_append, List.nil_append, noneL, noneL_wL] at hno5
            simp +contextual only [go_sem, Rcb, Rbk, sevalprocAttr, hno5, hap2, hap3, hap7, h1, hlv, c00, hw21]
            intro b9 hb9 hap9
            refine Close_freeze fun he hMC hnoC => ?_
            exact fin_wr (enc := encX) [(b7, _), (b3, _), (b2, _)] (hT.trans hT7) hu6 (RS_ext he (fun _ _ h => h) hlb) ⟨_, rfl, RX_lit1 (RX_ext (hM5.trans he) _ _ hx) hMC 20⟩
        · have hsc : ¬ seesM wCount t = true := by
            intro hq; rw [if_pos hq] at hix; injection hix with hix; exact hi0 hix.symm
          rw [if_neg hsc] at hix
          obtain ⟨j, hj, hji⟩ := Option.map_eq_some_iff.1 hix
          have hu2 := hu1.congr fun _ => if_neg hsc
          rw [hj] at hu2
          simp only at hu2
          have hi0' : ¬ ((i : Nat) : Int) = 0 := by omega
          simp +contextual only [go_sem, Rcb, Rbk, sevalprocAttr, hlv, ht]
          intro b5 hb5 hap5
          refine must_w [(b3, _), (b2, _)] hu2 hl7 ?_
          intro M3 t3 lv8 be3 ba3 hM3 hno3 hu3 hl8
          simp +contextual only [go_sem, Rcb, Rbk, sevalprocAttr, hlv, ht, hi0']
          refine part_w [(b3, _), (b2, _)] (hex M3 _ lv8 _ _ T3 hl8) ?_
          rintro v M4 x t4 lva be4 ba4 hM4 hno4 hr4 hla ⟨cs, rfl, hx⟩
          obtain ⟨s, rfl, h1, _⟩ := RX_form hx
          have hu5 := hu3.bind hr4
          simp only [List.cons_append, List.nil_append, noneL, noneL_wL] at hno4
          simp +contextual only [go_sem, Rcb, Rbk, sevalprocAttr, hno4, hap2, hap3, h1, hlv]
          intro b7 T7 hb7 hap7 hT7 hTb7 b8 hb8 hap8
          refine must_w [(b7, _), (b3, _), (b2, _)] hu5 hla ?_
          intro M5 t5 lvb be5 ba5 hM5 hno5 hu6 hlb
          simp only [List.cons_append, List.nil_append, noneL, noneL_wL] at hno5
          simp +contextual only [go_sem, Rcb, Rbk, sevalprocAttr, hno5, hap2, hap3, hap7, h1, hlv, hw21]
          intro b9 hb9 hap9
          refine Close_freeze fun he hMC hnoC => ?_
          have e20 : (21 : Int) + (j : Int) = 20 + (i : Int) := by omega
          rw [e20] at hu6
          exact fin_wr (enc := encX) [(b7, _), (b3, _), (b2, _)] (hT.trans hT7) hu6 (RS_ext he (fun _ _ h => h) hlb) ⟨_, rfl, RX_lit1 (RX_ext (hM5.trans he) _ _ hx) hMC (20 + (i : Int))⟩
      · simp +contextual only [go_sem, Rcb, Rbk, sevalprocAttr, hlv, ht]
        refine lp_range hlt ?_ ?_ ⟨⟨M2, lv7, hM2, hw, hl7, hn3, hn2, hnp, rfl⟩, fun h0 => ?_⟩
        · simp only [live, hlv, go_sem, Rcb, Rbk, sevalprocAttr]
        · simp only [ht, go_sem, Rcb, Rbk, sevalprocAttr, wrap_succ i (by omega)]
        · rw [hidx h0]
          simp only [idxSign, hs h0, Bool.false_eq_true, if_false, Option.map_map]
          congr 1
          funext n
          simp only [Function.comp]; omega
    · have : i = 4 := by omega
      subst this
      have hu2 : Up ((nameM en t).bind fun n t => if seesM sDot t = true then (nameM en t.tail).bind fun m t => .ok (.mk 2 ⟨0, 0, []⟩ n m []) t else .ok (.mk 2 ⟨0, 0, []⟩ [] n []) t) be1 ba1 (pieceM en ex toks) be ba := hu1.congr fun h0 => by
        have hix : idxSign fnL t = none := by rw [hidx h0]; rfl
        rw [fn_idx] at hix
        have hsc : ¬ seesM wCount t = true := fun hq => by rw [if_pos hq] at hix; cases hix
        rw [if_neg hsc] at hix
        have hix2 : idxSign [wSum, wMin, wMax] t = none := by
          cases hq : idxSign [wSum, wMin, wMax] t with
          | none => rfl
          | some j => rw [hq] at hix; cases hix
        rw [if_neg hsc, hix2]
      have h33 : ¬ ((4 : Nat) : Int) < 4 := by omega
      simp +contextual only [go_sem, Rcb, Rbk, sevalprocAttr, hlv, ht, h33]
      refine part_w [(b3, _), (b2, _)] (ct_w_name hl6 T3) ?_
      rintro v M3 n t2 lv7 be3 ba3 hM3 hno3 hr3 hl7 rfl
      have hu3 := hu2.bind hr3
      simp +contextual only [go_sem, Rcb, Rbk, sevalprocAttr, hlv]
      refine may_w [(b3, _), (b2, _)] sDot hl7 (fun h0 hs lv8 hl8 => ?_) (fun hs lv8 hl8 => ?_)
      · have hu4 := hu3.congr fun _ => if_pos hs
        simp +contextual only [go_sem, Rcb, Rbk, sevalprocAttr, hlv]
        refine part_w [(b3, _), (b2, _)] (ct_w_name hl8 T3) ?_
        rintro v M4 m t3 lv9 be4 ba4 hM4 hno4 hr4 hl9 rfl
        simp only [List.cons_append, List.nil_append, noneL, noneL_wL] at hno4
        simp +contextual only [go_sem, Rcb, Rbk, sevalprocAttr, hno4, hlv, hap2, hap3]
        exact fin_wr (enc := encX) [(b3, _), (b2, _)] hT (hu4.bind hr4) hl9 ⟨_, rfl, RX_col n m⟩
      · have hu4 := hu3.congr fun h0 => if_neg (by rw [hs h0]; decide)
        simp only [List.cons_append, List.nil_append, noneL, noneL_wL] at hno3
        simp +contextual only [go_sem, Rcb, Rbk, sevalprocAttr, hno3, hlv, hap2, hap3]
        exact fin_wr (enc := encX) [(b3, _), (b2, _)] hT hu4 hl8 ⟨_, rfl, RX_col [] n⟩
end Go.Proofs.YtoainkbcfnlkcaaGreatDoor

namespace Go.Proofs.YtoainkbcfnlkcaaGreatDoor
open Go Vc
set_option linter.unusedSimpArgs false
set_option linter.unusedVariables false
set_option maxRecDepth 10000

def lvF : Nat → FuncId
  | 0 => 117
  | 1 => 150
  | 2 => 168
  | 3 => 188
  | 4 => 203
  | 5 => 210
  | 6 => 212
  | _ => 213
theorem LvD.congr {f : FuncId} {en : Int} {pb : Nat} {op : Int} {g g' : List Tk → Rs X} (h : LvD f en pb op g) (hg : ∀ t, g t = g' t) : LvD f en pb op g' := by
  have : g = g' := funext hg
  rw [← this]; exact h
theorem lv_all {en : Int} {pb : Nat} : ∀ (f n : Nat) (op : Int), n ≤ 7 → 0 ≤ op → op ≤ 100 → 9 * (101 - op) + 8 - n < f → LvD (lvF n) en pb op (binM en f n op)
  | 0, n, op, _, _, _, h => by omega
  | f + 1, n, op, hn, h0, h1, hf => by
    have ne : ∀ m, m ≤ 7 → 9 * (101 - op) + 8 - (m : Nat) < f → ∀ t, binM en f m op t ≠ .out := fun m hm hq => bin_ne f m op hm h1 hq
    have le : ∀ m t a r, binM en f m op t = .ok a r → r.length ≤ t.length := fun m t a r h => bin_le h
    have hcase : n = 0 ∨ n = 1 ∨ n = 2 ∨ n = 3 ∨ n = 4 ∨ n = 5 ∨ n = 6 ∨ n = 7 := by omega
    rcases hcase with rfl | rfl | rfl | rfl | rfl | rfl | rfl | rfl
    · exact (ct_w_or (ne 1 (by omega) (by omega)) (le 1) (lv_all f 1 op (by omega) h0 h1 (by omega))).congr fun t => by
        rw [binM, if_neg (by decide), if_neg (by decide)]; simp
    · exact (ct_w_and (ne 2 (by omega) (by omega)) (le 2) (lv_all f 2 op (by omega) h0 h1 (by omega))).congr fun t => by
        rw [binM, if_neg (by decide), if_neg (by decide)]; simp
    · exact (ct_w_not ⟨h0, h1⟩ (lv_all f 3 op (by omega) h0 h1 (by omega)) (fun h => lv_all f 2 (op + 1) (by omega) (by omega) h (by omega))).congr fun t => rfl
    · exact (ct_w_compare (lv_all f 4 op (by omega) h0 h1 (by omega))).congr fun t => by
        rw [binM, if_neg (by decide), if_neg (by decide)]; simp
    · exact (ct_w_sum (ne 5 (by omega) (by omega)) (le 5) (lv_all f 5 op (by omega) h0 h1 (by omega))).congr fun t => by
        rw [binM, if_neg (by decide), if_neg (by decide)]; simp
    · exact (ct_w_times (ne 6 (by omega) (by omega)) (le 6) (lv_all f 6 op (by omega) h0 h1 (by omega))).congr fun t => by
        rw [binM, if_neg (by decide), if_neg (by decide)]; simp
    · exact (ct_w_cat (ne 7 (by omega) (by omega)) (le 7) (lv_all f 7 op (by omega) h0 h1 (by omega))).congr fun t => by
        rw [binM, if_neg (by decide), if_neg (by decide)]; simp
    · exact (ct_w_piece (ct_w_Expr ⟨h0, h1⟩ (fun h => lv_all f 0 (op + 1) (by omega) (by omega) h (by omega)))).congr fun t => by
        rw [binM, if_pos rfl]
theorem exD {en : Int} {pb : Nat} : LvD 75 en pb 0 (exF en) :=
  (ct_w_Expr (en := en) (pb := pb) (op := 0) (by omega) (fun _ => lv_all 1000 0 (0 + 1) (by omega) (by omega) (by omega) (by omega))).congr fun t => rfl
end Go.Proofs.YtoainkbcfnlkcaaGreatDoor


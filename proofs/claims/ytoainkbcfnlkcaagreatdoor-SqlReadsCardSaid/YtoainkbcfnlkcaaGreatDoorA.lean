import Derived.Test.YtoainkbcfnlkcaaGreatDoorF
import Derived.Test.YtoainkbcfnlkcaaGreatDoorV2
import Derived.Test.YtoainkbcfnlkcaaGreatDoorS
import Derived.Lib.ParseIntB
set_option linter.all false
namespace Go.Proofs.YtoainkbcfnlkcaaGreatDoor
open Go Vc
set_option linter.unusedSimpArgs false
set_option linter.unusedVariables false
set_option maxRecDepth 10000

def wrongV (v : V) : Int :=
  if v.k = 1 then 0 else if v.k = 2 then (if v.n ≠ 0 ∧ v.n ≠ 1 then 3 else 0) else if v.k = 3 then (if v.n > 1000000000000000 ∨ v.n < -1000000000000000 then 3 else 0)
  else if v.k = 4 then (if v.t.length > 60 then 4 else 0) else 1
theorem ct_vals_Wrong (v : V) (M : Mem) : Ct Tryz.prog 87 [.agg ⟨v.cs⟩] M [] [] (fun r _ _ _ => r = .int .i64 (wrongV v)) noPan := by
  intro T
  obtain ⟨k, n, t⟩ := v
  refine ct_run mx bod87 Tryz.func87 rfl (by rw [nt87]; exact Nat.le_of_ble_eq_true rfl) (dr := dr87) (by kernel_rfl) rs87 ?_
  intro _ _
  simp +contextual only [go_sem, Rcb, Rbk, sevalprocAttr, V.cs]
  intro b T1 _ hT _
  (repeat' split) <;> (refine end_none hT ?_; refine int_eq ?_; simp only [wrongV]; grind)
theorem ct_ref1_Wrong (v : V) (M : Mem) : Ct Tryz.prog 118 [.agg ⟨v.cs⟩] M [] [] (fun r _ _ _ => r = .int .i64 (wrongV v)) noPan := by
  intro T
  obtain ⟨k, n, t⟩ := v
  refine ct_run mx bod118 Tryz.func118 rfl (by rw [nt118]; exact Nat.le_of_ble_eq_true rfl) (dr := dr118) (by kernel_rfl) rs118 ?_
  intro _ _
  simp +contextual only [go_sem, Rcb, Rbk, sevalprocAttr, V.cs]
  intro b T1 _ hT _
  (repeat' split) <;> (refine end_none hT ?_; refine int_eq ?_; simp only [wrongV]; grind)
def kidsN (k : Int) : Int := if k = 1 ∨ k = 2 ∨ k = 19 then 0 else if k = 3 ∨ k = 16 ∨ (20 ≤ k ∧ k ≤ 23) then 1 else if (4 ≤ k ∧ k ≤ 15) ∨ k = 18 then 2 else if k = 17 then 3 else -1
theorem ct_sql_kids (k : Int) (M : Mem) : Ct Tryz.prog 164 [.int .i64 k] M [] [] (fun r _ _ _ => r = .int .i64 (kidsN k)) noPan := by
  intro T
  refine ct_run mx bod164 Tryz.func164 rfl (by rw [nt164]; exact Nat.le_of_ble_eq_true rfl) (dr := dr164) (by kernel_rfl) rs164 ?_
  intro _ _
  simp +contextual only [go_sem, Rcb, Rbk, sevalprocAttr]
  (repeat' split) <;> (refine end_none ExtT.rfl' ?_; refine int_eq ?_; simp only [kidsN]; grind)
def letterB (c : Int) : Bool := (decide (97 ≤ c) && decide (c ≤ 122)) || decide (c = 95)
def digitB (c : Int) : Bool := decide (48 ≤ c) && decide (c ≤ 57)
theorem ct_sql_letter (c : Int) (M : Mem) : Ct Tryz.prog 94 [.int .u8 c] M [] [] (fun r _ _ _ => r = .bool (letterB c)) noPan := by
  intro T
  refine ct_run mx bod94 Tryz.func94 rfl (by rw [nt94]; exact Nat.le_of_ble_eq_true rfl) (dr := dr94) (by kernel_rfl) rs94 ?_
  intro _ _
  simp +contextual only [go_sem, Rcb, Rbk, sevalprocAttr]
  refine end_none ExtT.rfl' ?_
  simp [letterB]
theorem ct_sql_digit (c : Int) (M : Mem) : Ct Tryz.prog 97 [.int .u8 c] M [] [] (fun r _ _ _ => r = .bool (digitB c)) noPan := by
  intro T
  refine ct_run mx bod97 Tryz.func97 rfl (by rw [nt97]; exact Nat.le_of_ble_eq_true rfl) (dr := dr97) (by kernel_rfl) rs97 ?_
  intro _ _
  simp +contextual only [go_sem, Rcb, Rbk, sevalprocAttr]
  refine end_none ExtT.rfl' ?_
  simp [digitB]
theorem ct_one1 (c : Int) (M : Mem) : Ct Tryz.prog 96 [.int .u8 c] M [] [] (fun r _ _ _ => r = .bool (letterB c || digitB c)) noPan := by
  intro T
  refine ct_run mx bod96 Tryz.func96 rfl (by rw [nt96]; exact Nat.le_of_ble_eq_true rfl) (dr := dr96) (by kernel_rfl) rs96 ?_
  intro _ _
  simp +contextual only [go_sem, Rcb, Rbk, sevalprocAttr]
  refine rCall_pure (ct_sql_letter c M T) ?_ (fun _ _ _ _ h => h.elim)
  rintro v M' hM hno rfl
  simp +contextual only [go_sem, Rcb, Rbk, sevalprocAttr]
  split
  · rename_i h
    exact end_none ExtT.rfl' (by simp [h])
  · rename_i h
    refine rCall_pure (ct_sql_digit c M' T) ?_ (fun _ _ _ _ h => h.elim)
    rintro v M'' hM' hno' rfl
    simp +contextual only [go_sem, Rcb, Rbk, sevalprocAttr, h]
    exact end_none ExtT.rfl' (by simp [h])
theorem ct_ref_letter (c : Int) (M : Mem) : Ct Tryz.prog 43 [.int .u8 c] M [] [] (fun r _ _ _ => r = .bool (letterB c)) noPan := by
  intro T
  refine ct_run mx bod43 Tryz.func43 rfl (by rw [nt43]; exact Nat.le_of_ble_eq_true rfl) (dr := dr43) (by kernel_rfl) rs43 ?_
  intro _ _
  simp +contextual only [go_sem, Rcb, Rbk, sevalprocAttr]
  refine end_none ExtT.rfl' ?_
  simp [letterB, Bool.or_comm]
theorem ct_ref_digit (c : Int) (M : Mem) : Ct Tryz.prog 44 [.int .u8 c] M [] [] (fun r _ _ _ => r = .bool (digitB c)) noPan := by
  intro T
  refine ct_run mx bod44 Tryz.func44 rfl (by rw [nt44]; exact Nat.le_of_ble_eq_true rfl) (dr := dr44) (by kernel_rfl) rs44 ?_
  intro _ _
  simp +contextual only [go_sem, Rcb, Rbk, sevalprocAttr]
  refine end_none ExtT.rfl' ?_
  simp [digitB]
/-! ### tokens, and the parser's parts -/
structure Tk where
  k : Int
  s : Bs
  at_ : Int
def numOk (s : Bs) : Bool := decide (1 ≤ s.length ∧ s.length ≤ 16) && s.all fun c => digitB c.toNat
def RTk (t : Tk) (cs : List Value) : Prop := cs = [.int .i64 t.k, st t.s, .int .i64 t.at_] ∧ (t.k = 2 → numOk t.s = true)
theorem RTk_len {t : Tk} {cs} (h : RTk t cs) : cs.length = 3 := by obtain ⟨rfl, _⟩ := h; rfl
/-- a fault that is thrown -/
def oopsV (e a : Int) : List PanicEntry := [{ v := .iface 47 (.agg #[.int .i64 e, .int .i64 a]), recovered := false }]
theorem ct_sql_fail (e a : Int) (M : Mem) : Ct Tryz.prog 28 [.int .i64 e, .int .i64 a] M [] [] (fun _ _ _ _ => False) (fun ch _ _ _ => ch = oopsV e a) := by
  intro T
  refine ct_run mx bod28 Tryz.func28 rfl (by rw [nt28]; exact Nat.le_of_ble_eq_true rfl) (dr := dr28) (by kernel_rfl) rs28 ?_
  intro _ _
  simp +contextual only [go_sem, Rcb, Rbk, sevalprocAttr]
  exact end_none ExtT.rfl' rfl
end Go.Proofs.YtoainkbcfnlkcaaGreatDoor

namespace Go.Proofs.YtoainkbcfnlkcaaGreatDoor
open Go Vc
set_option linter.unusedSimpArgs false
set_option linter.unusedVariables false
set_option maxRecDepth 10000

def atM (en : Int) : List Tk → Int | [] => en | t :: _ => t.at_
def seesM (s : Bs) : List Tk → Bool | [] => false | t :: _ => decide (t.s = s) && (decide (t.k = 1) || decide (t.k = 4))
theorem RTk_at {M : Mem} {b o : Nat} {t : Tk} {cs} (h : RTk t cs) (ha : At M b o cs) : mcell M ⟨b, o, none⟩ = some (.int .i64 t.k) ∧ mcell M ⟨b, o + 1, none⟩ = some (st t.s) ∧ mcell M ⟨b, o + 2, none⟩ = some (.int .i64 t.at_) := by
  obtain ⟨rfl, _⟩ := h
  exact ⟨ha.1, ha.2.1, ha.2.2.1⟩
/-- the tokens that are left -/
theorem toks_cases {M : Mem} {toks : List Tk} {lv : Value} (h : RS M RTk 3 toks lv) :
    (toks = [] ∧ ∃ a c, lv = .slice a 0 c) ∨ ∃ t r b o c, toks = t :: r ∧ lv = .slice (some ⟨b, o, none⟩) (r.length + 1) c ∧ r.length + 1 ≤ c ∧
      mcell M ⟨b, o, none⟩ = some (.int .i64 t.k) ∧ mcell M ⟨b, o + 1, none⟩ = some (st t.s) ∧ mcell M ⟨b, o + 2, none⟩ = some (.int .i64 t.at_) := by
  obtain ⟨hb, a, c, rfl, hle, _, hget⟩ := RS_elim (by decide) (fun _ _ => RTk_len) h
  cases toks with
  | nil => exact .inl ⟨rfl, a, c, rfl⟩
  | cons t r =>
    obtain ⟨b, o, cs, rfl, ha, hr⟩ := hget 0 t rfl
    have := RTk_at hr ha
    simp only [Nat.zero_mul, Nat.add_zero] at this
    exact .inr ⟨t, r, b, o, c, rfl, rfl, hle, this⟩

theorem toks_num {M : Mem} {t : Tk} {r : List Tk} {lv : Value} (h : RS M RTk 3 (t :: r) lv) (hk : t.k = 2) : numOk t.s = true := by
  obtain ⟨_, xs, _, hl⟩ := h
  obtain ⟨cs, rest, _, h1, _⟩ := hl
  exact h1.2 hk
theorem ct_p_at {M : Mem} {pb : Nat} {toks : List Tk} {lv : Value} {en op : Int} (hl : RS M RTk 3 toks lv) :
    Ct Tryz.prog 29 [.pointer (some ⟨pb, 0, none⟩)] M (pL pb lv en op) [] (fun r M' L' R' => r = .int .i64 (atM en toks) ∧ M' = M ∧ L' = pL pb lv en op ∧ R' = []) noPan := by
  intro T
  refine ct_run mx bod29 Tryz.func29 rfl (by rw [nt29]; exact Nat.le_of_ble_eq_true rfl) (dr := dr29) (by kernel_rfl) rs29 ?_
  intro hno _
  simp only [noneL_pL] at hno
  rcases toks_cases hl with ⟨rfl, a, c, rfl⟩ | ⟨t, r, b, o, c, rfl, rfl, hc, h0, h1, h2⟩
  · simp +contextual only [go_sem, Rcb, Rbk, sevalprocAttr, hno]
    exact end_id ExtT.rfl' rfl rfl ⟨rfl, rfl, rfl, rfl⟩
  · simp +contextual only [go_sem, Rcb, Rbk, sevalprocAttr, hno, h0, h1, h2]
    exact end_id ExtT.rfl' rfl rfl ⟨rfl, rfl, rfl, rfl⟩
theorem ct_p_sees {M : Mem} {pb : Nat} {toks : List Tk} {lv : Value} {en op : Int} (s : Bs) (hl : RS M RTk 3 toks lv) :
    Ct Tryz.prog 100 [.pointer (some ⟨pb, 0, none⟩), st s] M (pL pb lv en op) [] (fun r M' L' R' => r = .bool (seesM s toks) ∧ M' = M ∧ L' = pL pb lv en op ∧ R' = []) noPan := by
  intro T
  refine ct_run mx bod100 Tryz.func100 rfl (by rw [nt100]; exact Nat.le_of_ble_eq_true rfl) (dr := dr100) (by kernel_rfl) rs100 ?_
  intro hno _
  simp only [noneL_pL] at hno
  rcases toks_cases hl with ⟨rfl, a, c, rfl⟩ | ⟨t, r, b, o, c, rfl, rfl, hc, h0, h1, h2⟩
  · simp +contextual only [go_sem, Rcb, Rbk, sevalprocAttr, hno]
    exact end_id ExtT.rfl' rfl rfl ⟨rfl, rfl, rfl, rfl⟩
  · simp +contextual only [go_sem, Rcb, Rbk, sevalprocAttr, hno, h0, h1, h2]
    refine end_id ExtT.rfl' rfl rfl ⟨?_, rfl, rfl, rfl⟩
    simp [seesM]
theorem ct_p_is {M : Mem} {pb : Nat} {toks : List Tk} {lv : Value} {en op : Int} (s : Bs) (hl : RS M RTk 3 toks lv) :
    Ct Tryz.prog 60 [.pointer (some ⟨pb, 0, none⟩), st s] M (pL pb lv en op) [] (fun r M' L' R' => r = .bool (seesM s toks) ∧ M' = M ∧ R' = [] ∧ ∃ lv', L' = pL pb lv' en op ∧ RS M RTk 3 (if seesM s toks = true then toks.tail else toks) lv') noPan := by
  intro T
  refine ct_run mx bod60 Tryz.func60 rfl (by rw [nt60]; exact Nat.le_of_ble_eq_true rfl) (dr := dr60) (by kernel_rfl) rs60 ?_
  intro hno _
  simp +contextual only [go_sem, Rcb, Rbk, sevalprocAttr]
  refine rCall_of [] (pL pb lv en op) [] [] [] [] (ct_p_sees s hl T) ?_ (fun _ _ _ _ _ _ _ _ h => h.elim)
  rintro v M' L' R' hM _ _ hno' ⟨rfl, rfl, rfl, rfl⟩
  simp only [noneL_pL] at hno
  by_cases hs : seesM s toks = true
  · rcases toks_cases hl with ⟨rfl, a, c, rfl⟩ | ⟨t, r, b, o, c, rfl, rfl, hc, h0, h1, h2⟩
    · cases hs
    · have hc2 : (1 : Int) ≤ ((r.length + 1 : Nat) : Int) ∧ r.length + 1 ≤ c := ⟨by omega, hc⟩
      simp +contextual only [go_sem, Rcb, Rbk, sevalprocAttr, hno, hs, hc2]
      refine end_id ExtT.rfl' rfl rfl ?_
      refine ⟨rfl, rfl, rfl, _, rfl, ?_⟩
      have := RS_cut (k := 1) (by decide) (fun _ _ => RTk_len) hl (by simp)
      simpa using this
  · simp +contextual only [go_sem, Rcb, Rbk, sevalprocAttr, hno, hs]
    exact end_id ExtT.rfl' rfl rfl ⟨rfl, rfl, rfl, _, rfl, hl⟩
/-- what a part of the parser comes to -/
inductive Rs (α : Type) where
  | ok (a : α) (r : List Tk)
  | err (e a : Int)
  | out
def postP {α : Type} (pb : Nat) (en op : Int) (enc : α → Value → Mem → Prop) (res : Rs α) : PostP := fun v M' L' R' => ∃ a r lv', res = .ok a r ∧ L' = pL pb lv' en op ∧ RS M' RTk 3 r lv' ∧ R' = [] ∧ enc a v M'
def panP {α : Type} (pb : Nat) (en : Int) (res : Rs α) : PanP := fun ch _ L' R' => ∃ e a lv' op', res = .err e a ∧ ch = oopsV e a ∧ L' = pL pb lv' en op' ∧ R' = []
def needM (en : Int) : List Bs → List Tk → Rs Unit
  | [], t => .ok () t
  | s :: l, t => if seesM s t = true then needM en l t.tail else .err 2 (atM en t)
/-! steps of callers -/
theorem Close_dropL {N M R} {k : Sh → Prop} {Lp : LL} : ∀ (L1 : LL), Close ⟨N, M, Lp, R⟩ k → Close ⟨N, M, L1 ++ Lp, R⟩ k
  | [], h => h
  | (_, _) :: L1, h => Close_drop (Close_dropL L1 h)
section
variable {α : Type} {T N : Tm} {M : Mem} {R : RR} {dr : List (Nat × Sched)} {ts : List ResultVar} {post : PostP} {pb : Nat} {lv0 lv : Value} {en op0 op : Int} {d : Option Nat} {s : List Vc.Item} {e : Env} {toks : List Tk} {F : Fi} {ds : List Deferred} {L1 L2 : LL}
theorem pan_p {res : Rs α} {c a : Int} (L1 : LL) (hT : ExtT T N) (h : res = .err c a) : (fi Tryz.prog T dr ts (keys (pL pb lv0 en op0)) 0 post (panP pb en res)).pan (oopsV c a) e [] ⟨N, M, L1 ++ pL pb lv en op, R⟩ := by
  rw [fi_pan, panF_eq]
  exact Close_dropL L1 (Close_dropAllR (end_id hT rfl rfl ⟨c, a, lv, op, h, rfl, rfl, rfl⟩))
theorem fail_p {res : Rs α} {c a : Int} (L1 : LL) (hT : ExtT T N) (h : res = .err c a) : rCall Tryz.prog (fi Tryz.prog T dr ts (keys (pL pb lv0 en op0)) 0 post (panP pb en res)) 28 [.int .i64 c, .int .i64 a] d s e [] ⟨N, M, L1 ++ pL pb lv en op, R⟩ ⟨⟩ := by
  refine rCall_pure (ct_sql_fail c a M N) (fun _ _ _ _ h => h.elim) ?_
  rintro ch M4 hM4 hno4 rfl
  exact pan_p L1 hT h
theorem at_p (L1 : LL) (hl : RS M RTk 3 toks lv) (k : Run Tryz.prog F s (updo e d (.int .i64 (atM en toks))) ds ⟨N, M, L1 ++ pL pb lv en op, R⟩ ⟨⟩) :
    rCall Tryz.prog F 29 [.pointer (some ⟨pb, 0, none⟩)] d s e ds ⟨N, M, L1 ++ pL pb lv en op, R⟩ ⟨⟩ := by
  refine rCall_one L1 (ct_p_at hl N) (fun v M' L' _ _ hno h => ?_) (fun _ _ _ _ _ _ h => h.elim)
  obtain ⟨rfl, rfl, rfl, -⟩ := h
  exact k
theorem sees_p (L1 : LL) (x : Bs) (hl : RS M RTk 3 toks lv) (k : Run Tryz.prog F s (updo e d (.bool (seesM x toks))) ds ⟨N, M, L1 ++ pL pb lv en op, R⟩ ⟨⟩) :
    rCall Tryz.prog F 100 [.pointer (some ⟨pb, 0, none⟩), .string (bs x)] d s e ds ⟨N, M, L1 ++ pL pb lv en op, R⟩ ⟨⟩ := by
  refine rCall_one L1 (ct_p_sees x hl N) (fun v M' L' _ _ hno h => ?_) (fun _ _ _ _ _ _ h => h.elim)
  obtain ⟨rfl, rfl, rfl, -⟩ := h
  exact k
theorem is_p (L1 : LL) (x : Bs) (hl : RS M RTk 3 toks lv) (k : ∀ lv', RS M RTk 3 (if seesM x toks = true then toks.tail else toks) lv' → Run Tryz.prog F s (updo e d (.bool (seesM x toks))) ds ⟨N, M, L1 ++ pL pb lv' en op, R⟩ ⟨⟩) :
    rCall Tryz.prog F 60 [.pointer (some ⟨pb, 0, none⟩), .string (bs x)] d s e ds ⟨N, M, L1 ++ pL pb lv en op, R⟩ ⟨⟩ := by
  refine rCall_one L1 (ct_p_is x hl N) (fun v M' L' _ _ hno h => ?_) (fun _ _ _ _ _ _ h => h.elim)
  obtain ⟨rfl, rfl, -, lv', rfl, hl'⟩ := h
  exact k lv' hl'
theorem is_c (L1 : LL) (x : Bs) (hl : RS M RTk 3 toks lv) (k1 : seesM x toks = true → ∀ lv', RS M RTk 3 toks.tail lv' → Run Tryz.prog F s (updo e d (.bool true)) ds ⟨N, M, L1 ++ pL pb lv' en op, R⟩ ⟨⟩)
    (k2 : seesM x toks = false → ∀ lv', RS M RTk 3 toks lv' → Run Tryz.prog F s (updo e d (.bool false)) ds ⟨N, M, L1 ++ pL pb lv' en op, R⟩ ⟨⟩) :
    rCall Tryz.prog F 60 [.pointer (some ⟨pb, 0, none⟩), .string (bs x)] d s e ds ⟨N, M, L1 ++ pL pb lv en op, R⟩ ⟨⟩ := by
  refine is_p L1 x hl fun lv' hl' => ?_
  cases hs : seesM x toks with
  | true => exact k1 hs lv' (by simpa [hs] using hl')
  | false => exact k2 hs lv' (by simpa [hs] using hl')
/-- a part of the parser -/
theorem part_p {f : FuncId} {args : List Value} {enc : α → Value → Mem → Prop} {res : Rs α} (L1 : LL) (hc : CtT Tryz.prog f args N M (pL pb lv en op) [] (postP pb en op enc res) (panP pb en res))
    (k : ∀ v M' a r lv', Ext M M' → noneL M' (L1 ++ pL pb lv' en op) → res = .ok a r → RS M' RTk 3 r lv' → enc a v M' → Run Tryz.prog F s (updo e d v) ds ⟨N, M', L1 ++ pL pb lv' en op, R⟩ ⟨⟩)
    (kp : ∀ c a M' lv' op', Ext M M' → res = .err c a → F.pan (oopsV c a) e ds ⟨N, M', L1 ++ pL pb lv' en op', R⟩) :
    rCall Tryz.prog F f args d s e ds ⟨N, M, L1 ++ pL pb lv en op, R⟩ ⟨⟩ := by
  refine rCall_one L1 hc (fun v M' L' hM _ hno h => ?_) (fun ch M' L' hM _ hno h => ?_)
  · obtain ⟨a, r, lv', hres, rfl, hr, -, he⟩ := h
    exact k v M' a r lv' hM hno hres hr he
  · obtain ⟨c, a, lv', op', hres, rfl, rfl, -⟩ := h
    exact kp c a M' lv' op' hM hres
end
theorem ct_p_need {M : Mem} {pb : Nat} {toks : List Tk} {lv sv : Value} {en op : Int} {l : List Bs} (hl : RS M RTk 3 toks lv) (hs : RS M RSt 1 l sv) :
    Ct Tryz.prog 31 [.pointer (some ⟨pb, 0, none⟩), sv] M (pL pb lv en op) [] (postP pb en op (fun _ v _ => v = .tuple #[]) (needM en l toks)) (panP pb en (needM en l toks)) := by
  intro T
  obtain ⟨hb, a, c, rfl, hle, _, hget⟩ := RS_elim (by decide) (fun _ _ => RSt_len) hs
  refine ct_run mx bod31 Tryz.func31 rfl (by rw [nt31]; exact Nat.le_of_ble_eq_true rfl) (dr := dr31) (by kernel_rfl) rs31 ?_
  intro hno _
  simp +contextual only [go_sem, Rcb, Rbk, sevalprocAttr]
  refine loop_range l.length 8 [(0, .pointer (some ⟨pb, 0, none⟩)), (6, .slice a l.length c), (7, .int .i64 l.length)] (fun i e h => ∃ M' toks' lv', Ext M M' ∧ h = ⟨T, M', pL pb lv' en op, []⟩ ∧ M' pb = none ∧ RS M' RTk 3 toks' lv' ∧ needM en l toks = needM en (l.drop i) toks') 0 (by omega) (by simp only [live, go_sem, Rcb, Rbk, sevalprocAttr]) (by simp only [go_sem, Rcb, Rbk, sevalprocAttr]) ⟨M, toks, lv, Ext.rfl', rfl, by simpa only [noneL_pL] using hno, hl, by simp⟩ ?_
  rintro i e h hi hlv ht ⟨M', toks', lv', hM, rfl, hno', hl', hres⟩
  simp only [live] at hlv
  by_cases hlt : i < l.length
  · obtain ⟨b, o, cs, rfl, hat, hrs⟩ := hget i l[i] (List.getElem?_eq_getElem hlt)
    unfold RSt at hrs; subst hrs
    have hx := mcell_ext hM hat.1
    rw [Nat.mul_one] at hx
    simp +contextual only [go_sem, Rcb, Rbk, sevalprocAttr, hlv, ht, hlt, hx]
    refine rCall_of [] (pL pb lv' en op) [] [] [] [] (ct_p_is l[i] hl' T) ?_ (fun _ _ _ _ _ _ _ _ h => h.elim)
    rintro v M'' L' R' hM' _ _ hno'' ⟨rfl, rfl, rfl, lv'', rfl, hl''⟩
    have hdrop : l.drop i = l[i] :: l.drop (i + 1) := List.drop_eq_getElem_cons hlt
    rw [hdrop] at hres
    by_cases hs : seesM l[i] toks' = true
    · simp +contextual only [go_sem, Rcb, Rbk, sevalprocAttr, hlv, ht, hs]
      refine lp_range hlt ?_ ?_ ⟨M'', toks'.tail, lv'', hM, rfl, hno', by simpa [hs] using hl'', by simpa [needM, hs] using hres⟩
      · simp only [live, hlv, go_sem, Rcb, Rbk, sevalprocAttr]
      · simp only [ht, go_sem, Rcb, Rbk, sevalprocAttr, wrap_succ i (by omega)]
    · simp +contextual only [go_sem, Rcb, Rbk, sevalprocAttr, hlv, ht, hs]
      simp only [hs, if_false] at hl''
      refine rCall_of [] (pL pb lv'' en op) [] [] [] [] (ct_p_at hl'' T) ?_ (fun _ _ _ _ _ _ _ _ h => h.elim)
      rintro v M3 L' R' hM3 _ _ hno3 ⟨rfl, rfl, rfl, rfl⟩
      simp +contextual only [go_sem, Rcb, Rbk, sevalprocAttr, hlv, ht, hs]
      refine fail_p [] ExtT.rfl' ?_
      rw [hres]
      simp [needM, hs]
  · have : i = l.length := by omega
    subst this
    simp +contextual only [go_sem, Rcb, Rbk, sevalprocAttr, hlv, ht, hlt]
    refine end_id ExtT.rfl' rfl rfl ⟨(), toks', lv', ?_, rfl, hl', rfl, rfl⟩
    rw [hres]
    simp [needM]
end Go.Proofs.YtoainkbcfnlkcaaGreatDoor

namespace Go.Proofs.YtoainkbcfnlkcaaGreatDoor
open Go Vc
set_option linter.unusedSimpArgs false
set_option linter.unusedVariables false
set_option maxRecDepth 10000

/-! ### strings in a list -/
def idxS (x : Bs) : List Bs → Int
  | [] => -1
  | s :: l => if s = x then 0 else if idxS x l < 0 then -1 else idxS x l + 1
def idxFrom (x : Bs) (l : List Bs) (i : Nat) : Int := if idxS x (l.drop i) < 0 then -1 else idxS x (l.drop i) + i
theorem ct_Index {M : Mem} {l : List Bs} {sv : Value} (x : Bs) (hs : RS M RSt 1 l sv) :
    Ct Tryz.prog 78 [sv, st x] M [] [] (fun r _ _ _ => r = .int .i64 (idxFrom x l 0)) noPan := by
  intro T
  obtain ⟨hb, a, c, rfl, hle, _, hget⟩ := RS_elim (by decide) (fun _ _ => RSt_len) hs
  refine ct_run mx bod78 Tryz.func78 rfl (by rw [nt78]; exact Nat.le_of_ble_eq_true rfl) (dr := dr78) (by kernel_rfl) rs78 ?_
  intro hno _
  simp +contextual only [go_sem, Rcb, Rbk, sevalprocAttr]
  refine loop_range l.length 8 [(0, .slice a l.length c), (1, st x), (6, .slice a l.length c), (7, .int .i64 l.length)] (fun i e h => h = ⟨T, M, [], []⟩ ∧ idxFrom x l 0 = idxFrom x l i) 0 (by omega) (by simp only [live, go_sem, Rcb, Rbk, sevalprocAttr]) (by simp only [go_sem, Rcb, Rbk, sevalprocAttr]) ⟨rfl, rfl⟩ ?_
  rintro i e h hi hlv ht ⟨rfl, hres⟩
  simp only [live, st] at hlv
  by_cases hlt : i < l.length
  · obtain ⟨b, o, cs, rfl, hat, hrs⟩ := hget i l[i] (List.getElem?_eq_getElem hlt)
    unfold RSt at hrs; subst hrs
    have hx := hat.1
    rw [Nat.mul_one] at hx
    have hdrop : l.drop i = l[i] :: l.drop (i + 1) := List.drop_eq_getElem_cons hlt
    simp +contextual only [go_sem, Rcb, Rbk, sevalprocAttr, hlv, ht, hlt, hx]
    split
    · rename_i he
      refine end_none ExtT.rfl' ?_
      rw [he] at hres
      rw [hres]
      unfold idxFrom
      rw [hdrop]
      simp only [idxS, if_true]
      simp
    · rename_i he
      refine lp_range hlt ?_ ?_ ⟨rfl, ?_⟩
      · simp only [live, hlv, go_sem, Rcb, Rbk, sevalprocAttr]
      · simp only [ht, go_sem, Rcb, Rbk, sevalprocAttr, wrap_succ i (by omega)]
      · rw [hres]
        simp only [idxFrom, hdrop, idxS, if_neg (Ne.symm he)]
        split <;> split <;> omega
  · have : i = l.length := by omega
    subst this
    simp +contextual only [go_sem, Rcb, Rbk, sevalprocAttr, hlv, ht, hlt]
    refine end_none ExtT.rfl' ?_
    rw [hres]
    simp [idxFrom, idxS]
theorem idxS_mem (x : Bs) (l : List Bs) : (0 ≤ idxS x l) ↔ x ∈ l := by
  induction l with
  | nil => simp [idxS]
  | cons s l ih =>
    simp only [idxS, List.mem_cons]
    split
    · rename_i h; simp [h]
    · rename_i h
      have hx : x ≠ s := fun he => h he.symm
      rw [show (x = s ∨ x ∈ l) ↔ x ∈ l from by simp [hx], ← ih]
      split <;> omega
theorem ct_Contains {M : Mem} {l : List Bs} {sv : Value} (x : Bs) (hs : RS M RSt 1 l sv) :
    Ct Tryz.prog 41 [sv, st x] M [] [] (fun r _ _ _ => r = .bool (l.contains x)) noPan := by
  intro T
  refine ct_run mx bod41 Tryz.func41 rfl (by rw [nt41]; exact Nat.le_of_ble_eq_true rfl) (dr := dr41) (by kernel_rfl) rs41 ?_
  intro hno _
  simp +contextual only [go_sem, Rcb, Rbk, sevalprocAttr]
  refine rCall_pure (ct_Index x hs T) ?_ (fun _ _ _ _ h => h.elim)
  rintro v M' hM hno rfl
  simp +contextual only [go_sem, Rcb, Rbk, sevalprocAttr]
  refine end_none ExtT.rfl' ?_
  simp only [idxFrom, List.drop_zero]
  have := idxS_mem x l
  by_cases hm : x ∈ l
  · have h0 := this.2 hm
    rw [if_neg (by omega)]
    simp [hm, h0]
  · have h0 : ¬ 0 ≤ idxS x l := fun h => hm (this.1 h)
    rw [if_pos (by omega)]
    simp [hm]
end Go.Proofs.YtoainkbcfnlkcaaGreatDoor

namespace Go.Proofs.YtoainkbcfnlkcaaGreatDoor
open Go Vc
set_option linter.unusedSimpArgs false
set_option linter.unusedVariables false
set_option maxRecDepth 10000

/-- the words of the language -/
def wordsL : List Bs := [[99, 114, 101, 97, 116, 101],
  [116, 97, 98, 108, 101],
  [118, 105, 101, 119],
  [97, 115],
  [105, 110, 115, 101, 114, 116],
  [105, 110, 116, 111],
  [118, 97, 108, 117, 101, 115],
  [100, 101, 108, 101, 116, 101],
  [102, 114, 111, 109],
  [119, 104, 101, 114, 101],
  [115, 104, 111, 119],
  [115, 101, 108, 101, 99, 116],
  [100, 105, 115, 116, 105, 110, 99, 116],
  [103, 114, 111, 117, 112],
  [98, 121],
  [104, 97, 118, 105, 110, 103],
  [117, 110, 105, 111, 110],
  [97, 108, 108],
  [101, 120, 99, 101, 112, 116],
  [111, 114, 100, 101, 114],
  [108, 105, 109, 105, 116],
  [106, 111, 105, 110],
  [108, 101, 102, 116],
  [115, 101, 109, 105],
  [97, 110, 116, 105],
  [111, 110],
  [97, 110, 100],
  [111, 114],
  [110, 111, 116],
  [105, 115],
  [110, 117, 108, 108],
  [116, 114, 117, 101],
  [102, 97, 108, 115, 101],
  [99, 97, 115, 101],
  [119, 104, 101, 110],
  [116, 104, 101, 110],
  [101, 108, 115, 101],
  [101, 110, 100],
  [99, 111, 97, 108, 101, 115, 99, 101],
  [99, 111, 117, 110, 116],
  [115, 117, 109],
  [109, 105, 110],
  [109, 97, 120],
  [105, 110, 116],
  [116, 101, 120, 116],
  [98, 111, 111, 108]]
/-- what stays of the package variables -/
def Glob (M : Mem) : Prop := ∀ g, Tryz.prog.globalNamed "strings.asciiSpace" = some g → M g = some (Lib.asciiSpaceTab.map fun z => Value.int .u8 z)
theorem Glob.ext {M M' : Mem} (h : Glob M) (he : Ext M M') : Glob M' := fun g hg => he _ _ (h g hg)
theorem Glob.tab {M : Mem} {w : World} (h : Glob M) (hw : Holds M w) : Lib.TabIs Tryz.prog w "strings.asciiSpace" .u8 Lib.asciiSpaceTab := by
  unfold Lib.TabIs World.var?
  cases hg : Tryz.prog.globalNamed "strings.asciiSpace" with
  | none => have h2 : (Tryz.prog.globalNamed "strings.asciiSpace").isSome = true := by kernel_rfl
            rw [hg] at h2; cases h2
  | some g =>
    obtain ⟨t, f, ht⟩ := hw g _ (h g hg)
    simp [ht]
theorem ct_Fields {M : Mem} (hg : Glob M) (s : Bs) (hs : s.length < 4294967281) (ha : s.all (fun b => b.toNat < 128) = true) :
    Ct Tryz.prog 79 [st s] M [] [] (fun r M' _ _ => ∃ b, r = .slice (some ⟨b, 0, none⟩) (Lib.fields s).length (Lib.fields s).length ∧ M' b = some ((Lib.fields s).map st)) noPan := by
  refine ct_alloc (t := 9) (cs := (Lib.fields s).map st) (fun b => .slice (some ⟨b, 0, none⟩) (Lib.fields s).length (Lib.fields s).length) bod79 fun w hw => ?_
  have ha' : ∀ (j : Nat) b, (bs s).data.toList[j]? = some b → b.toNat < 128 := fun j b hj => by
    have := List.all_eq_true.1 ha b (List.mem_of_getElem? (by simpa [bs] using hj))
    simpa using this
  have h2 := Tryz.strings_Fields (bs s) w (by rw [bs_size]; exact hs) ha' (hg.tab hw)
  have hd : (bs s).data.toList = s := by simp [bs]
  rw [hd] at h2
  exact h2
theorem ct_sql_words {M : Mem} (hg : Glob M) : Ct Tryz.prog 42 [] M [] [] (fun r M' _ _ => RS M' RSt 1 wordsL r) noPan := by
  intro T
  refine ct_run mx bod42 Tryz.func42 rfl (by rw [nt42]; exact Nat.le_of_ble_eq_true rfl) (dr := dr42) (by kernel_rfl) rs42 ?_
  intro hno _
  simp +contextual only [go_sem, Rcb, Rbk, sevalprocAttr]
  refine rCall_pure (ct_Fields hg _ (by decide) (by kernel_rfl) T) ?_ (fun _ _ _ _ h => h.elim)
  rintro v M' hM _ ⟨b, rfl, hb⟩
  simp +contextual only [go_sem, Rcb, Rbk, sevalprocAttr]
  refine end_none ExtT.rfl' ?_
  have hw : ∀ {s : Bs}, Lib.fields s = wordsL → M' b = some ((Lib.fields s).map st) → RS M' RSt 1 wordsL (.slice (some ⟨b, 0, none⟩) (Lib.fields s).length (Lib.fields s).length) := by
    intro s h1 h2
    rw [h1] at h2 ⊢
    exact RS_lit (fun _ _ => RSt_len) h2 (RL_strs _) rfl (by decide)
  exact hw (by kernel_rfl) hb
end Go.Proofs.YtoainkbcfnlkcaaGreatDoor

namespace Go.Proofs.YtoainkbcfnlkcaaGreatDoor
open Go Vc
set_option linter.unusedSimpArgs false
set_option linter.unusedVariables false
set_option maxRecDepth 10000

def chOk (i : Nat) (c : UInt8) : Bool := letterB c.toNat || (decide (i ≠ 0) && digitB c.toNat)
def okFrom : Nat → Bs → Bool
  | _, [] => true
  | i, c :: l => chOk i c && okFrom (i + 1) l
def namedB (s : Bs) : Bool := decide (1 ≤ s.length ∧ s.length ≤ 12) && !wordsL.contains s && okFrom 0 s
theorem byteAt_bs {s : Bs} {i : Nat} (h : i < s.length) : byteAt (bs s) i = s[i] := by
  simp [byteAt, bs, h]
theorem ct_Named {M : Mem} (hg : Glob M) (s : Bs) : Ct Tryz.prog 14 [st s] M [] [] (fun r _ _ _ => r = .bool (namedB s)) noPan := by
  intro T
  refine ct_run mx bod14 Tryz.func14 rfl (by rw [nt14]; exact Nat.le_of_ble_eq_true rfl) (dr := dr14) (by kernel_rfl) rs14 ?_
  intro hno _
  simp +contextual only [go_sem, Rcb, Rbk, sevalprocAttr]
  by_cases hl : (s.length : Int) < 1 ∨ 12 < (s.length : Int)
  · rw [if_pos hl]
    refine end_none ExtT.rfl' ?_
    have : ¬ (1 ≤ s.length ∧ s.length ≤ 12) := by omega
    simp [namedB, this]
  · rw [if_neg hl]
    have hle : 1 ≤ s.length ∧ s.length ≤ 12 := by omega
    refine rCall_pure (ct_sql_words hg T) ?_ (fun _ _ _ _ h => h.elim)
    rintro v M' hM _ hw
    simp +contextual only [go_sem, Rcb, Rbk, sevalprocAttr, hl]
    refine rCall_pure (ct_Contains s hw T) ?_ (fun _ _ _ _ h => h.elim)
    rintro v' M2 hM2 _ rfl
    simp +contextual only [go_sem, Rcb, Rbk, sevalprocAttr, hl]
    by_cases hc : wordsL.contains s = true
    · simp only [hc, go_sem, Rcb, Rbk, sevalprocAttr]
      refine end_none ExtT.rfl' ?_
      rw [namedB, hc]; simp
    · simp only [hc, go_sem, Rcb, Rbk, sevalprocAttr]
      refine loop_range s.length 20 [(0, st s), (19, .int .i64 s.length)] (fun i e h => h = ⟨T, M2, [], []⟩ ∧ okFrom 0 s = okFrom i (s.drop i)) 0 (by omega) (by simp only [live, go_sem, Rcb, Rbk, sevalprocAttr]) (by simp only [go_sem, Rcb, Rbk, sevalprocAttr]) ⟨rfl, rfl⟩ ?_
      rintro i e h hi hlv ht ⟨rfl, hres⟩
      simp only [live, st] at hlv
      by_cases hlt : i < s.length
      · have hx := byteAt_bs hlt
        have hdrop : s.drop i = s[i] :: s.drop (i + 1) := List.drop_eq_getElem_cons hlt
        rw [hdrop] at hres
        simp only [okFrom] at hres
        have h0 : ((i : Int) = 0) = (i = 0) := by simp
        simp +contextual only [go_sem, Rcb, Rbk, sevalprocAttr, hlv, ht, hlt, hx]
        by_cases hk : chOk i s[i] = true
        · rw [if_neg (by simp only [chOk, letterB, digitB, Bool.or_eq_true, Bool.and_eq_true, decide_eq_true_eq] at hk; omega)]
          refine lp_range hlt ?_ ?_ ⟨rfl, ?_⟩
          · simp only [live, hlv, go_sem, Rcb, Rbk, sevalprocAttr]
          · simp only [ht, go_sem, Rcb, Rbk, sevalprocAttr, wrap_succ i (by omega)]
          · rw [hres, hk]; rfl
        · rw [if_pos (by simp only [chOk, letterB, digitB, Bool.or_eq_true, Bool.and_eq_true, decide_eq_true_eq] at hk; omega)]
          refine end_none ExtT.rfl' ?_
          simp only [Bool.not_eq_true] at hk
          rw [namedB, hres, hk]; simp
      · have : i = s.length := by omega
        subst this
        simp +contextual only [go_sem, Rcb, Rbk, sevalprocAttr, hlv, ht, hlt]
        refine end_none ExtT.rfl' ?_
        have : okFrom 0 s = true := by rw [hres]; simp [okFrom]
        simp only [Bool.not_eq_true] at hc
        rw [namedB, hc, this]; simp [hle]
end Go.Proofs.YtoainkbcfnlkcaaGreatDoor

namespace Go.Proofs.YtoainkbcfnlkcaaGreatDoor
open Go Vc
set_option linter.unusedSimpArgs false
set_option linter.unusedVariables false
set_option maxRecDepth 10000

/-! ### names and numbers -/
def nameM (en : Int) : List Tk → Rs Bs
  | [] => .err 2 en
  | t :: r => if t.k = 1 then (if namedB t.s = true then .ok t.s r else .err 7 t.at_) else .err 2 t.at_
theorem ct_p_name {M : Mem} {pb : Nat} {toks : List Tk} {lv : Value} {en op : Int} (hg : Glob M) (hl : RS M RTk 3 toks lv) :
    Ct Tryz.prog 61 [.pointer (some ⟨pb, 0, none⟩)] M (pL pb lv en op) [] (postP pb en op (fun s v _ => v = st s) (nameM en toks)) (panP pb en (nameM en toks)) := by
  intro T
  refine ct_run mx bod61 Tryz.func61 rfl (by rw [nt61]; exact Nat.le_of_ble_eq_true rfl) (dr := dr61) (by kernel_rfl) rs61 ?_
  intro hno _
  simp only [noneL_pL] at hno
  rcases toks_cases hl with ⟨rfl, a, c, rfl⟩ | ⟨t, r, b, o, c, rfl, rfl, hc, h0, h1, h2⟩
  · simp +contextual only [go_sem, Rcb, Rbk, sevalprocAttr, hno]
    refine at_p [] hl ?_
    simp +contextual only [go_sem, Rcb, Rbk, sevalprocAttr]
    exact fail_p [] ExtT.rfl' rfl
  · by_cases hk : t.k = 1
    · simp +contextual only [go_sem, Rcb, Rbk, sevalprocAttr, hno, h0, h1, h2, hk]
      refine rCall_pure (ct_Named hg t.s T) ?_ (fun _ _ _ _ h => h.elim)
      rintro v M3 hM3 hno3 rfl
      have hl3 := RS_ext hM3 (fun _ _ h => h) hl
      simp only [noneL_pL] at hno3
      by_cases hn : namedB t.s = true
      · have hc2 : (1 : Int) ≤ ((r.length + 1 : Nat) : Int) ∧ r.length + 1 ≤ c := ⟨by omega, hc⟩
        simp +contextual only [go_sem, Rcb, Rbk, sevalprocAttr, hn, hno3, hc2]
        refine end_id ExtT.rfl' rfl rfl ⟨t.s, r, _, ?_, rfl, ?_, rfl, rfl⟩
        · simp [nameM, hk, hn]
        · simpa using RS_cut (k := 1) (by decide) (fun _ _ => RTk_len) hl3 (by simp)
      · simp +contextual only [go_sem, Rcb, Rbk, sevalprocAttr, hn]
        refine at_p [] hl3 ?_
        simp +contextual only [go_sem, Rcb, Rbk, sevalprocAttr]
        exact fail_p [] ExtT.rfl' (by simp [nameM, hk, hn, atM])
    · simp +contextual only [go_sem, Rcb, Rbk, sevalprocAttr, hno, h0, h1, h2, hk]
      refine at_p [] hl ?_
      simp +contextual only [go_sem, Rcb, Rbk, sevalprocAttr]
      exact fail_p [] ExtT.rfl' (by simp [nameM, hk, atM])
def numM (s : Bs) : Nat := s.foldl (fun n c => n * 10 + (c.toNat - 48)) 0
theorem uintM (l : Bs) : ∀ (acc k : Nat), acc < 10 ^ k → k + l.length ≤ 16 → (l.all fun c => digitB c.toNat) = true →
    Lib.parseUintM (2 ^ 64 - 1) acc l = .ok (l.foldl (fun n c => n * 10 + (c.toNat - 48)) acc) ∧ l.foldl (fun n c => n * 10 + (c.toNat - 48)) acc < 10 ^ (k + l.length) := by
  induction l with
  | nil => intro acc k h _ _; exact ⟨rfl, by simpa using h⟩
  | cons c l ih =>
    intro acc k h hk hd
    simp only [List.all_cons, Bool.and_eq_true, digitB, decide_eq_true_eq] at hd
    simp only [List.length_cons] at hk
    have hc : 48 ≤ c.toNat ∧ c.toNat ≤ 57 := by omega
    have h16 : acc < 10 ^ 15 := Nat.lt_of_lt_of_le h (Nat.pow_le_pow_right (by decide) (by omega))
    have hn : acc * 10 + (c.toNat - 48) < 10 ^ (k + 1) := by rw [Nat.pow_succ]; omega
    have := ih (acc * 10 + (c.toNat - 48)) (k + 1) hn (by omega) (by simpa [digitB] using hd.2)
    simp only [Lib.parseUintM, if_pos hc, List.foldl_cons, List.length_cons]
    rw [if_neg (by omega), if_neg (by omega)]
    refine ⟨this.1, ?_⟩
    rw [show k + (l.length + 1) = k + 1 + l.length from by omega]
    exact this.2
theorem parse_num {s : Bs} (h : numOk s = true) : Lib.parseIntB 64 s = .ok (numM s : Int) ∧ numM s < 10 ^ 16 := by
  simp only [numOk, Bool.and_eq_true, decide_eq_true_eq] at h
  obtain ⟨⟨h1, h2⟩, h3⟩ := h
  obtain ⟨hu, hlt⟩ := uintM s 0 0 (by decide) (by omega) h3
  have hlt2 : numM s < 10 ^ 16 := Nat.lt_of_lt_of_le hlt (Nat.pow_le_pow_right (by decide) (by omega))
  refine ⟨?_, hlt2⟩
  cases s with
  | nil => simp at h1
  | cons c r =>
    simp only [List.all_cons, Bool.and_eq_true, digitB, decide_eq_true_eq] at h3
    have hc : ¬ (c.toNat = 43 ∨ c.toNat = 45) := by omega
    have hc2 : ¬ c.toNat = 45 := by omega
    unfold Lib.parseIntB
    simp only [if_neg hc, Lib.parseUintB, if_neg (List.cons_ne_nil c r), hu]
    have : ¬ (2 ^ (64 - 1) ≤ numM (c :: r)) := by omega
    simp only [hc2, not_false_eq_true, true_and, false_and, if_false]
    change ¬ (2 ^ (64 - 1) ≤ List.foldl (fun n c => n * 10 + (c.toNat - 48)) 0 (c :: r)) at this
    rw [if_neg this]
    rfl
theorem ct_ParseInt {M : Mem} {s : Bs} (h : numOk s = true) : Ct Tryz.prog 142 [st s, .int .i64 10, .int .i64 64] M [] [] (fun r M' _ _ => r = .tuple #[.int .i64 (numM s), .nilIface] ∧ M' = M) noPan := by
  refine ct_same bod142 fun w hw => ?_
  have hl : s.length ≤ 16 := by
    simp only [numOk, Bool.and_eq_true, decide_eq_true_eq] at h
    exact h.1.2
  have hd : (bs s).data.toList = s := by simp [bs]
  refine Calls.mono (Tryz.strconv_ParseInt_10_at64_ok (bs s) (by rw [bs_size]; omega) (numM s) (by rw [hd]; exact (parse_num h).1) w) ?_
  rintro e w' ⟨rfl, hw'⟩
  refine ⟨rfl, ?_⟩
  rcases hw' with rfl | ⟨t, rfl⟩
  · exact Keeps.rfl'
  · exact Keeps.bytes
def minus : Bs := [45]
def intT (neg : Bool) (at0 en : Int) : List Tk → Rs Int
  | [] => .err 2 en
  | t :: r => if t.k = 2 then (if (numM t.s : Int) > 1000000000000000 then .err 3 at0 else .ok (if neg = true then -(numM t.s : Int) else numM t.s) r) else .err 2 t.at_
def intM (en : Int) (toks : List Tk) : Rs Int := intT (seesM minus toks) (atM en toks) en (if seesM minus toks = true then toks.tail else toks)
theorem ct_p_int {M : Mem} {pb : Nat} {toks : List Tk} {lv : Value} {en op : Int} (hl : RS M RTk 3 toks lv) :
    Ct Tryz.prog 104 [.pointer (some ⟨pb, 0, none⟩)] M (pL pb lv en op) [] (postP pb en op (fun n v _ => v = .int .i64 n) (intM en toks)) (panP pb en (intM en toks)) := by
  intro T
  refine ct_run mx bod104 Tryz.func104 rfl (by rw [nt104]; exact Nat.le_of_ble_eq_true rfl) (dr := dr104) (by kernel_rfl) rs104 ?_
  intro hno _
  simp only [noneL_pL] at hno
  simp +contextual only [go_sem, Rcb, Rbk, sevalprocAttr]
  refine at_p [] hl ?_
  simp +contextual only [go_sem, Rcb, Rbk, sevalprocAttr]
  refine is_p [] minus hl ?_
  intro lv' hl'
  generalize hg : (if seesM minus toks = true then toks.tail else toks) = toks1 at hl'
  have hres : intM en toks = intT (seesM minus toks) (atM en toks) en toks1 := by unfold intM; rw [hg]
  rcases toks_cases hl' with ⟨rfl, a, c, rfl⟩ | ⟨t, r, b, o, c, rfl, rfl, hc, h0, h1, h2⟩
  · simp +contextual only [go_sem, Rcb, Rbk, sevalprocAttr, hno]
    refine at_p [] hl' ?_
    simp +contextual only [go_sem, Rcb, Rbk, sevalprocAttr]
    exact fail_p [] ExtT.rfl' hres
  · by_cases hk : t.k = 2
    · simp +contextual only [go_sem, Rcb, Rbk, sevalprocAttr, hno, h0, h1, h2, hk]
      have hnum := toks_num hl' hk
      have hlt := (parse_num hnum).2
      refine rCall_pure (ct_ParseInt hnum T) ?_ (fun _ _ _ _ h => h.elim)
      rintro v M3 hM3 hno3 ⟨rfl, rfl⟩
      simp only [intT, hk, if_true] at hres
      by_cases hbig : (1000000000000000 : Int) < (numM t.s : Int)
      · simp +contextual only [go_sem, Rcb, Rbk, sevalprocAttr, hbig]
        exact fail_p [] ExtT.rfl' (by rw [hres, if_pos hbig])
      · have hc2 : (1 : Int) ≤ ((r.length + 1 : Nat) : Int) ∧ r.length + 1 ≤ c := ⟨by omega, hc⟩
        rw [if_neg hbig] at hres
        have hcut : RS M3 RTk 3 r (.slice (cutA (some ⟨b, o, none⟩) c 1 3) (r.length + 1 - 1) (c - 1)) := by simpa using RS_cut (k := 1) (by decide) (fun _ _ => RTk_len) hl' (by simp)
        by_cases hs : seesM minus toks = true
        · simp +contextual only [go_sem, Rcb, Rbk, sevalprocAttr, hbig, hno, hc2, hs]
          refine end_id ExtT.rfl' rfl rfl ⟨_, r, _, hres, rfl, ?_, rfl, ?_⟩
          · simpa using hcut
          · simp only [hs, if_true]
            rw [wrap_neg _ (by omega)]
        · simp +contextual only [go_sem, Rcb, Rbk, sevalprocAttr, hbig, hno, hc2, hs]
          refine end_id ExtT.rfl' rfl rfl ⟨_, r, _, hres, rfl, ?_, rfl, ?_⟩
          · simpa using hcut
          · simp only [hs, if_false]
            rfl
    · simp +contextual only [go_sem, Rcb, Rbk, sevalprocAttr, hno, h0, h1, h2, hk]
      refine at_p [] hl' ?_
      simp +contextual only [go_sem, Rcb, Rbk, sevalprocAttr]
      exact fail_p [] ExtT.rfl' (by simp [hres, intT, hk, atM])
end Go.Proofs.YtoainkbcfnlkcaaGreatDoor

namespace Go.Proofs.YtoainkbcfnlkcaaGreatDoor
open Go Vc
set_option linter.unusedSimpArgs false
set_option linter.unusedVariables false
set_option maxRecDepth 10000

def headIs (k : Int) : List Tk → Bool | [] => false | t :: _ => decide (t.k = k)
def textV : List Tk → V | [] => ⟨0, 0, []⟩ | t :: _ => ⟨4, 0, t.s⟩
def Rs.map {α β : Type} (f : α → β) : Rs α → Rs β
  | .ok a r => .ok (f a) r
  | .err e a => .err e a
  | .out => .out
def wNull : Bs := [110, 117, 108, 108]
def wTrue : Bs := [116, 114, 117, 101]
def wFalse : Bs := [102, 97, 108, 115, 101]
def valueM (en : Int) (toks : List Tk) : Rs (Option V) :=
  if seesM wNull toks = true then .ok (some ⟨1, 0, []⟩) toks.tail
  else if seesM wTrue toks = true then .ok (some ⟨2, 1, []⟩) toks.tail
  else if seesM wFalse toks = true then .ok (some ⟨2, 0, []⟩) toks.tail
  else if seesM minus toks = true ∨ headIs 2 toks = true then (intM en toks).map fun n => some ⟨3, n, []⟩
  else if headIs 3 toks = true then .ok (some (textV toks)) toks.tail
  else .ok none toks
def encV (o : Option V) (v : Value) (_ : Mem) : Prop := match o with
  | some x => v = .tuple #[.agg ⟨x.cs⟩, .bool true]
  | none => v = .tuple #[.agg ⟨(⟨0, 0, []⟩ : V).cs⟩, .bool false]
theorem ct_p_value {M : Mem} {pb : Nat} {toks : List Tk} {lv : Value} {en op : Int} (hl : RS M RTk 3 toks lv) :
    Ct Tryz.prog 107 [.pointer (some ⟨pb, 0, none⟩)] M (pL pb lv en op) [] (postP pb en op encV (valueM en toks)) (panP pb en (valueM en toks)) := by
  intro T
  refine ct_run mx bod107 Tryz.func107 rfl (by rw [nt107]; exact Nat.le_of_ble_eq_true rfl) (dr := dr107) (by kernel_rfl) rs107 ?_
  intro hno _
  simp only [noneL_pL] at hno
  simp +contextual only [go_sem, Rcb, Rbk, sevalprocAttr]
  intro b2 T2 hb2 hap hT hTb
  refine is_c [(b2, _)] wNull hl (fun hs1 lv1 hl1 => ?_) (fun hs1 lv1 hl1 => ?_)
  · simp +contextual only [go_sem, Rcb, Rbk, sevalprocAttr, hap, hb2, hno]
    exact Close_drop (end_id hT rfl rfl ⟨some ⟨1, 0, []⟩, toks.tail, lv1, by simp [valueM, hs1], rfl, hl1, rfl, rfl⟩)
  simp +contextual only [go_sem, Rcb, Rbk, sevalprocAttr]
  refine is_c [(b2, _)] wTrue hl1 (fun hs2 lv2 hl2 => ?_) (fun hs2 lv2 hl2 => ?_)
  · simp +contextual only [go_sem, Rcb, Rbk, sevalprocAttr, hap, hb2, hno]
    exact Close_drop (end_id hT rfl rfl ⟨some ⟨2, 1, []⟩, toks.tail, lv2, by simp [valueM, hs1, hs2], rfl, hl2, rfl, rfl⟩)
  simp +contextual only [go_sem, Rcb, Rbk, sevalprocAttr]
  refine is_c [(b2, _)] wFalse hl2 (fun hs3 lv3 hl3 => ?_) (fun hs3 lv3 hl3 => ?_)
  · simp +contextual only [go_sem, Rcb, Rbk, sevalprocAttr, hap, hb2, hno]
    exact Close_drop (end_id hT rfl rfl ⟨some ⟨2, 0, []⟩, toks.tail, lv3, by simp [valueM, hs1, hs2, hs3], rfl, hl3, rfl, rfl⟩)
  simp +contextual only [go_sem, Rcb, Rbk, sevalprocAttr]
  refine sees_p [(b2, _)] minus hl3 ?_
  have hval : valueM en toks = if seesM minus toks = true ∨ headIs 2 toks = true then (intM en toks).map fun n => some ⟨3, n, []⟩
    else if headIs 3 toks = true then .ok (some (textV toks)) toks.tail else .ok none toks := by simp [valueM, hs1, hs2, hs3]
  rcases toks_cases hl3 with ⟨rfl, a, c, rfl⟩ | ⟨t, r, b, o, c, rfl, rfl, hc, h0, h1, h2⟩
  · simp +contextual only [go_sem, Rcb, Rbk, sevalprocAttr, hap, hb2, hno, seesM]
    refine Close_drop (end_id hT rfl rfl ⟨none, [], _, ?_, rfl, hl3, rfl, rfl⟩)
    simp [hval, seesM, headIs]
  · by_cases hm : seesM minus (t :: r) = true ∨ t.k = 2
    · have hv : valueM en (t :: r) = (intM en (t :: r)).map fun n => some ⟨3, n, []⟩ := by
        rw [hval, if_pos]
        simpa [headIs] using hm
      simp +contextual only [go_sem, Rcb, Rbk, sevalprocAttr, hap, hb2, hno, h0, h1, h2, hm]
      refine part_p [(b2, _)] (ct_p_int hl3 T2) ?_ (fun c a M' lv' op' hM h => pan_p [(b2, _)] hT (by rw [hv, h]; rfl))
      rintro v M' n r' lv' hM hno' hres hl' rfl
      simp only [List.cons_append, List.nil_append, noneL, noneL_pL] at hno'
      simp +contextual only [go_sem, Rcb, Rbk, sevalprocAttr, hap, hno']
      exact Close_drop (end_id hT rfl rfl ⟨some ⟨3, n, []⟩, r', lv', by rw [hv, hres]; rfl, rfl, hl', rfl, rfl⟩)
    · have hv : valueM en (t :: r) = if t.k = 3 then .ok (some ⟨4, 0, t.s⟩) r else .ok none (t :: r) := by
        rw [hval, if_neg (by simpa [headIs] using hm)]
        simp [headIs, textV]
      simp only [not_or] at hm
      simp +contextual only [go_sem, Rcb, Rbk, sevalprocAttr, hap, hb2, hno, h0, h1, h2, hm]
      by_cases hk : t.k = 3
      · have hc2 : (1 : Int) ≤ ((r.length + 1 : Nat) : Int) ∧ r.length + 1 ≤ c := ⟨by omega, hc⟩
        rw [if_pos hk] at hv
        simp +contextual only [go_sem, Rcb, Rbk, sevalprocAttr, hap, hb2, hno, h0, h1, h2, hm, hk]
        intro b4 T4 hb4 hap4 hT4 hTb4
        simp +contextual only [go_sem, Rcb, Rbk, sevalprocAttr, hap, hb2, hno, h0, h1, h2, hm, hk, hb4, hap4, hc2]
        refine Close_drop (Close_drop (end_id (hT.trans hT4) rfl rfl ⟨_, r, _, hv, rfl, ?_, rfl, rfl⟩))
        simpa using RS_cut (k := 1) (by decide) (fun _ _ => RTk_len) hl3 (by simp)
      · rw [if_neg hk] at hv
        simp +contextual only [go_sem, Rcb, Rbk, sevalprocAttr, hap, hb2, hno, h0, h1, h2, hm, hk]
        exact Close_drop (end_id hT rfl rfl ⟨none, t :: r, _, hv, rfl, hl3, rfl, rfl⟩)
end Go.Proofs.YtoainkbcfnlkcaaGreatDoor

namespace Go.Proofs.YtoainkbcfnlkcaaGreatDoor
open Go Vc
set_option linter.unusedSimpArgs false
set_option linter.unusedVariables false
set_option maxRecDepth 10000

theorem ctd_into1 {M : Mem} {pb b : Nat} {lv : Value} {en op : Int} (hb : M b = some [.pointer (some ⟨pb, 0, none⟩)]) (T : Tm) :
    CtD Tryz.prog 143 [.pointer (some ⟨b, 0, none⟩)] T M (pL pb lv en op) [] (fun _ M' L' _ => M' = M ∧ L' = pL pb lv en (IntKind.i64.wrap (op - 1))) noPan := by
  refine ctd_run mx bod143 Tryz.func143 rfl (by rw [nt143]; exact Nat.le_of_ble_eq_true rfl) (dr := dr143) (by kernel_rfl) rs143 ?_
  intro hno _
  simp only [noneL_pL] at hno
  simp +contextual only [go_sem, Rcb, Rbk, sevalprocAttr, mcell_some hb, hno]
  refine end_id ExtT.rfl' rfl rfl ?_
  exact ⟨rfl, rfl⟩
theorem ct_into {M : Mem} {pb : Nat} {toks : List Tk} {lv : Value} {en op : Int} (hl : RS M RTk 3 toks lv) (h0 : 0 ≤ op) (h1 : op ≤ 1000) :
    Ct Tryz.prog 108 [.pointer (some ⟨pb, 0, none⟩)] M (pL pb lv en op) [] (fun r M' L' _ => op + 1 ≤ 100 ∧ L' = pL pb lv en (op + 1) ∧ ∃ b, r = .func (.func 143) #[] #[.pointer (some ⟨b, 0, none⟩)] ∧ M' b = some [.pointer (some ⟨pb, 0, none⟩)])
      (fun ch _ L' _ => ¬ op + 1 ≤ 100 ∧ ch = oopsV 4 (atM en toks) ∧ ∃ op', L' = pL pb lv en op') := by
  intro T
  refine ct_run mx bod108 Tryz.func108 rfl (by rw [nt108]; exact Nat.le_of_ble_eq_true rfl) (dr := dr108) (by kernel_rfl) rs108 ?_
  intro hno _
  simp only [noneL_pL] at hno
  simp +contextual only [go_sem, Rcb, Rbk, sevalprocAttr, hno]
  intro b T2 hb hap hT hTb
  have hw : IntKind.i64.wrap (op + 1) = op + 1 := wrap64 (by omega) (by omega)
  simp +contextual only [go_sem, Rcb, Rbk, sevalprocAttr, hno, hb, hap, hw]
  by_cases hbig : (100 : Int) < op + 1
  · simp +contextual only [go_sem, Rcb, Rbk, sevalprocAttr, hno, hb, hap, hw, hbig]
    refine at_p [(b, _)] hl ?_
    simp +contextual only [go_sem, Rcb, Rbk, sevalprocAttr]
    refine rCall_pure (ct_sql_fail 4 (atM en toks) M _) (fun _ _ _ _ h => h.elim) ?_
    rintro ch M4 hM4 hno4 rfl
    rw [fi_pan, panF_eq]
    refine Close_drop (end_id hT rfl rfl ?_)
    exact ⟨by omega, rfl, _, rfl⟩
  · simp +contextual only [go_sem, Rcb, Rbk, sevalprocAttr, hno, hb, hap, hw, hbig]
    refine Close_freeze fun he h1 h2 => ?_
    refine end_id hT rfl rfl ?_
    exact ⟨by omega, rfl, b, rfl, h1⟩
/-! ### expressions -/
def mkX (k : Int) (kids : List X) : X := .mk k ⟨0, 0, []⟩ [] [] kids
def encX (x : X) (v : Value) (M : Mem) : Prop := ∃ cs, v = .agg ⟨cs⟩ ∧ RX M x cs
theorem RX_mk {M : Mem} {k : Int} {kids : List X} {s : Value} (h : RS M (RX M) 7 kids s) : RX M (mkX k kids) [.int .i64 k, .int .i64 0, .int .i64 0, st [], st [], st [], s] :=
  RX_iff.2 ⟨s, rfl, h⟩
theorem cells7 {cs : List Value} (h : cs.length = 7) : ∃ a b c d e f g, cs = [a, b, c, d, e, f, g] := by
  match cs, h with
  | [a, b, c, d, e, f, g], _ => exact ⟨a, b, c, d, e, f, g, rfl⟩
theorem RX_form {M : Mem} {x : X} {cs} (h : RX M x cs) : ∃ s, cs = [.int .i64 x.k, .int .i64 x.v.k, .int .i64 x.v.n, st x.v.t, st x.tab, st x.name, s] ∧ s.oneCell' = true ∧ RS M (RX M) 7 x.kids s := by
  obtain ⟨s, rfl, hs⟩ := RX_iff.1 h
  refine ⟨s, rfl, ?_, hs⟩
  obtain ⟨_, _, h2, _⟩ := hs
  rcases h2 with ⟨_, _, rfl, _⟩ | ⟨b, o, n, c, rfl, _⟩ <;> rfl
theorem ct_of {M : Mem} (k : Int) {x : X} {cs : List Value} (hx : RX M x cs) : Ct Tryz.prog 146 [.int .i64 k, .agg ⟨cs⟩] M [] [] (fun v M' _ _ => encX (mkX k [x]) v M') noPan := by
  intro T
  obtain ⟨s, rfl, h1, hs⟩ := RX_form hx
  refine ct_run mx bod146 Tryz.func146 rfl (by rw [nt146]; exact Nat.le_of_ble_eq_true rfl) (dr := dr146) (by kernel_rfl) rs146 ?_
  intro hno _
  simp +contextual only [go_sem, Rcb, Rbk, sevalprocAttr]
  intro b T1 hb hT1 hTb b1 T2 hb1 hap1 hT2 hTb1 b2 hb2 hap2
  refine Close_freeze fun he hM _ => ?_
  refine end_none (hT1.trans hT2) ?_
  refine ⟨_, rfl, RX_mk ?_⟩
  exact RS_lit (l := [x]) (fun _ _ h => RX_len h) hM (RL_one (RX_ext he _ _ hx)) rfl (by decide)
theorem ct_two {M : Mem} (k : Int) {x y : X} {cs ds : List Value} (hx : RX M x cs) (hy : RX M y ds) : Ct Tryz.prog 148 [.int .i64 k, .agg ⟨cs⟩, .agg ⟨ds⟩] M [] [] (fun v M' _ _ => encX (mkX k [x, y]) v M') noPan := by
  intro T
  obtain ⟨s, rfl, h1, hs⟩ := RX_form hx
  obtain ⟨s', rfl, h1', hs'⟩ := RX_form hy
  refine ct_run mx bod148 Tryz.func148 rfl (by rw [nt148]; exact Nat.le_of_ble_eq_true rfl) (dr := dr148) (by kernel_rfl) rs148 ?_
  intro hno _
  simp +contextual only [go_sem, Rcb, Rbk, sevalprocAttr]
  intro b T1 hb hT1 hTb b1 T2 hb1 hap1 hT2 hTb1 b2 T3 hb2 hap2 hT3 hTb2 b3 hb3 hap3
  refine Close_freeze fun he hM _ => ?_
  refine end_none ((hT1.trans hT2).trans hT3) ?_
  refine ⟨_, rfl, RX_mk ?_⟩
  exact RS_lit (l := [x, y]) (fun _ _ h => RX_len h) hM (RL_append (RL_one (RX_ext he _ _ hx)) (RL_one (RX_ext he _ _ hy))) rfl (by decide)
/-- a level of signs -/
structure Lvl where
  signs : List Bs
  kind : Int
  once : Bool
def RLvl (M : Mem) (l : Lvl) (cs : List Value) : Prop := ∃ s, RS M RSt 1 l.signs s ∧ (l.signs = [] → s = .slice none 0 0) ∧ (l.signs ≠ [] → ∃ b n, s = .slice (some ⟨b, 0, none⟩) n n) ∧ cs = [s, .int .i64 l.kind, .bool l.once]
theorem RLvl_len {M : Mem} {l : Lvl} {cs} (h : RLvl M l cs) : cs.length = 3 := by obtain ⟨_, _, _, _, rfl⟩ := h; rfl
def levelsL : List Lvl := [⟨[[111, 114]], 5, false⟩, ⟨[[97, 110, 100]], 4, false⟩, ⟨[], 0, false⟩, ⟨[[61], [60, 62], [60], [60, 61], [62], [62, 61]], 6, true⟩, ⟨[[43], [45]], 12, false⟩, ⟨[[42]], 14, false⟩, ⟨[[124, 124]], 15, false⟩]
theorem RLvl_mk {M : Mem} {l : List Bs} {k : Int} {o : Bool} {b n : Nat} (h : M b = some (l.map st)) (hl : l.length = n) (hn : n ≤ 100) (hne : l ≠ []) : RLvl M ⟨l, k, o⟩ [.slice (some ⟨b, 0, none⟩) n n, .int .i64 k, .bool o] :=
  ⟨_, RS_lit (fun _ _ => RSt_len) h (RL_strs l) hl (by omega), fun h => (hne h).elim, fun _ => ⟨b, n, rfl⟩, rfl⟩
theorem ct_levels {M : Mem} : Ct Tryz.prog 144 [] M [] [] (fun v M' _ _ => RS M' (RLvl M') 3 levelsL v) noPan := by
  intro T
  refine ct_run mx bod144 Tryz.func144 rfl (by rw [nt144]; exact Nat.le_of_ble_eq_true rfl) (dr := dr144) (by kernel_rfl) rs144 ?_
  intro hno _
  simp +contextual only [go_sem, Rcb, Rbk, sevalprocAttr]
  intro b0 h0 b1 h1 a1 b2 h2 a2 b3 h3 a3 b4 h4 a4 b5 h5 a5 b6 h6 a6
  refine Close_frzAll fun M' he hM => ?_
  obtain ⟨k6, k5, k4, k3, k2, k1, k0, _⟩ := hM
  refine end_none ExtT.rfl' ?_
  refine RS_lit (l := levelsL) (fun _ _ h => RLvl_len h) k6 ?_ rfl (by decide)
  refine ⟨_, _, rfl, RLvl_mk k0 rfl (by decide) (by decide), _, _, rfl, RLvl_mk k1 rfl (by decide) (by decide), [_, _, _], _, rfl, ⟨.slice none 0 0, ⟨by decide, [], .inl ⟨none, 0, rfl, rfl, fun _ => rfl⟩, rfl⟩, fun _ => rfl, fun h => (h rfl).elim, rfl⟩, _, _, rfl, RLvl_mk k2 rfl (by decide) (by decide), _, _, rfl, RLvl_mk k3 rfl (by decide) (by decide),
    _, _, rfl, RLvl_mk k4 rfl (by decide) (by decide), _, _, rfl, RLvl_mk k5 rfl (by decide) (by decide), rfl⟩
/-- which sign comes -/
def idxSign : List Bs → List Tk → Option Nat
  | [], _ => none
  | s :: l, t => if seesM s t = true then some 0 else (idxSign l t).map (· + 1)
def signI (o : Option Nat) : Int := match o with | some j => j | none => -1
def signT (o : Option Nat) (t : List Tk) : List Tk := match o with | some _ => t.tail | none => t
theorem ct_IndexFunc {M : Mem} {pb : Nat} {toks : List Tk} {lv sv : Value} {en op : Int} {l : List Bs} (hl : RS M RTk 3 toks lv) (hs : RS M RSt 1 l sv) :
    Ct Tryz.prog 147 [sv, .func (.func 60) #[.pointer (some ⟨pb, 0, none⟩)] #[]] M (pL pb lv en op) []
      (fun v M' L' _ => v = .int .i64 (signI (idxSign l toks)) ∧ M' = M ∧ ∃ lv', L' = pL pb lv' en op ∧ RS M RTk 3 (signT (idxSign l toks) toks) lv') noPan := by
  intro T
  obtain ⟨hb, a, c, rfl, hle, _, hget⟩ := RS_elim (by decide) (fun _ _ => RSt_len) hs
  refine ct_run mx bod147 Tryz.func147 rfl (by rw [nt147]; exact Nat.le_of_ble_eq_true rfl) (dr := dr147) (by kernel_rfl) rs147 ?_
  intro hno _
  simp only [noneL_pL] at hno
  simp +contextual only [go_sem, Rcb, Rbk, sevalprocAttr]
  refine loop_range l.length 8 [(0, .slice a l.length c), (1, .func (.func 60) #[.pointer (some ⟨pb, 0, none⟩)] #[]), (6, .slice a l.length c), (7, .int .i64 l.length)] (fun i e h => (∃ lv', h = ⟨T, M, pL pb lv' en op, []⟩ ∧ RS M RTk 3 toks lv') ∧ idxSign l toks = (idxSign (l.drop i) toks).map (· + i)) 0 (by omega) (by simp only [live, go_sem, Rcb, Rbk, sevalprocAttr]) (by simp only [go_sem, Rcb, Rbk, sevalprocAttr]) ⟨⟨lv, rfl, hl⟩, by simp⟩ ?_
  rintro i e h hi hlv ht ⟨⟨lv', rfl, hl'⟩, hres⟩
  simp only [live] at hlv
  by_cases hlt : i < l.length
  · obtain ⟨b, o, cs, rfl, hat, hrs⟩ := hget i l[i] (List.getElem?_eq_getElem hlt)
    unfold RSt at hrs; subst hrs
    have hx := hat.1
    rw [Nat.mul_one] at hx
    have hdrop : l.drop i = l[i] :: l.drop (i + 1) := List.drop_eq_getElem_cons hlt
    rw [hdrop] at hres
    simp +contextual only [go_sem, Rcb, Rbk, sevalprocAttr, hlv, ht, hlt, hx]
    refine is_c [] l[i] hl' (fun hs lv2 hl2 => ?_) (fun hs lv2 hl2 => ?_)
    · simp +contextual only [go_sem, Rcb, Rbk, sevalprocAttr, hlv, ht]
      refine end_id ExtT.rfl' rfl rfl ?_
      have : idxSign l toks = some i := by rw [hres]; simp [idxSign, hs]
      rw [this]
      exact ⟨rfl, rfl, lv2, rfl, hl2⟩
    · simp +contextual only [go_sem, Rcb, Rbk, sevalprocAttr, hlv, ht]
      refine lp_range hlt ?_ ?_ ⟨⟨lv2, rfl, hl2⟩, ?_⟩
      · simp only [live, hlv, go_sem, Rcb, Rbk, sevalprocAttr]
      · simp only [ht, go_sem, Rcb, Rbk, sevalprocAttr, wrap_succ i (by omega)]
      · rw [hres]
        simp only [idxSign, hs, Bool.false_eq_true, if_false, Option.map_map]
        congr 1
        funext n
        simp only [Function.comp]; omega
  · have : i = l.length := by omega
    subst this
    simp +contextual only [go_sem, Rcb, Rbk, sevalprocAttr, hlv, ht, hlt]
    refine end_id ExtT.rfl' rfl rfl ?_
    have : idxSign l toks = none := by rw [hres]; simp [idxSign]
    rw [this]
    exact ⟨rfl, rfl, lv', rfl, hl'⟩
end Go.Proofs.YtoainkbcfnlkcaaGreatDoor


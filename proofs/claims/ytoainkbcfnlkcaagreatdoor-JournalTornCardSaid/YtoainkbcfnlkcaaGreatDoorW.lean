import Derived.Test.YtoainkbcfnlkcaaGreatDoorM
import Derived.Test.YtoainkbcfnlkcaaGreatDoorP
import Derived.Test.YtoainkbcfnlkcaaGreatDoorI
set_option linter.all false
namespace Go.Proofs.YtoainkbcfnlkcaaGreatDoor
open Go Vc
set_option linter.unusedSimpArgs false
set_option linter.unusedVariables false
set_option maxRecDepth 10000

/-! ### a slice of one's own that grows -/
def Acc {α : Type} (el : TypeId) (sz : Nat) (r : α → List Value → Prop) (R0 R : RR) (fv : Value) (acc : List α) : Prop :=
  (acc = [] ∧ fv = .slice none 0 0 ∧ R = R0) ∨ ∃ a c xs, fv = .slice a acc.length c ∧ RL r acc xs ∧ R = (fv, el, sz, xs) :: R0
section
variable {α : Type} {el : TypeId} {sz : Nat} {r : α → List Value → Prop} {R0 R : RR} {fv : Value} {acc : List α}
theorem Acc_nil : Acc el sz r R0 R0 (.slice none 0 0) [] := .inl ⟨rfl, rfl, rfl⟩
theorem Acc_form (h : Acc el sz r R0 R fv acc) : ∃ a c, fv = .slice a acc.length c := by
  rcases h with ⟨rfl, rfl, _⟩ | ⟨a, c, xs, rfl, _⟩
  · exact ⟨_, _, rfl⟩
  · exact ⟨_, _, rfl⟩
theorem Acc_one (h : Acc el sz r R0 R fv acc) : fv.oneCell' = true ∧ fv.cells.toList = [fv] := by
  obtain ⟨a, c, rfl⟩ := Acc_form h
  exact ⟨rfl, rfl⟩
theorem Acc_mono {r' : α → List Value → Prop} (hr : ∀ x cs, r x cs → r' x cs) (h : Acc el sz r R0 R fv acc) : Acc el sz r' R0 R fv acc := by
  rcases h with ⟨h1, h2, h3⟩ | ⟨a, c, xs, h1, h2, h3⟩
  · exact .inl ⟨h1, h2, h3⟩
  · exact .inr ⟨a, c, xs, h1, RL_mono hr h2, h3⟩
theorem app_acc {P : Program} {F : Fi} {s : List Vc.Item} {e : Env} {ds : List Deferred} {dd : Option Nat} {T : Tm} {M : Mem} {L : LL} {t : TypeId} {z : List Value} {b : Nat} {x : α} {cs : List Value} (hu : P.underlying t = some (.slice el)) (hrow : rowT P t = some (el, sz, z)) (hok : okT P t = true)
    (h : Acc el sz r R0 R fv acc) (hx : r x cs) (hlen : ∀ x cs, r x cs → cs.length = sz) (hone : ∀ u ∈ cs, u.oneCell' = true) (hb : M b = none) (hl : acc.length * sz + sz ≤ 4294967296) (hpos : 0 < sz)
    (k : ∀ fv' R', Acc el sz r R0 R' fv' (acc ++ [x]) → Run P F s (updo e dd fv') ds ⟨T, M, (b, cs) :: L, R'⟩ ⟨⟩) : rApp P F t t fv (.slice (some ⟨b, 0, none⟩) 1 1) dd s e ds ⟨T, M, (b, cs) :: L, R⟩ ⟨⟩ := by
  have hcl := hlen x cs hx
  rcases h with ⟨rfl, rfl, rfl⟩ | ⟨a, c, xs, rfl, h3, rfl⟩
  · refine app_nil hrow hok (.slice _ 1 _ _ _ hu (cells_own [] hb trivial (by rw [hcl, Nat.one_mul])) hone) (by rw [hcl]; simp at hl; omega) ?_
    intro ra rm rc hrm
    have : rm = 1 := by
      rw [hcl] at hrm
      exact Nat.eq_of_mul_eq_mul_right hpos (by omega)
    subst this
    exact k _ _ (.inr ⟨_, _, _, rfl, RL_one hx, rfl⟩)
  · have hxl := RL_len hlen h3
    refine app_row hrow hok (.slice _ 1 _ _ _ hu (cells_own [] hb trivial (by rw [hcl, Nat.one_mul])) hone) (by rw [hcl, hxl]; omega) ?_
    intro ra rm rc hrm
    have : rm = (acc ++ [x]).length := by
      rw [hcl, hxl] at hrm
      rw [List.length_append]
      refine Nat.eq_of_mul_eq_mul_right hpos ?_
      rw [Nat.add_mul]
      simpa using hrm
    subst this
    exact k _ _ (.inr ⟨_, _, _, rfl, RL_append h3 (RL_one hx), rfl⟩)
theorem Close_acc {N : Tm} {M : Mem} {L : LL} {k : Sh → Prop} (h : Acc el sz r R0 R fv acc) (hb : acc.length ≤ 140737488355328) (hpos : 0 < sz) (hno : noneL M L) (hk : ∀ M', Ext M M' → noneL M' L → RS M' r sz acc fv → Close ⟨N, M', L, R0⟩ k) : Close ⟨N, M, L, R⟩ k := by
  rcases h with ⟨rfl, rfl, rfl⟩ | ⟨a, c, xs, rfl, h3, rfl⟩
  · exact hk M Ext.rfl' hno RS_nil
  · exact Close_row (fun M' hM hno' hsl => hk M' hM hno' ⟨hb, xs, hsl, h3⟩) hpos
end
/-! ### Bare -/
theorem ct_bareV {M : Mem} (v : V) (T : Tm) : CtT Tryz.prog 49 [.agg ⟨[.int .i64 v.k, .int .i64 v.n, st v.t]⟩] T M [] [] (fun r _ _ _ => r = .agg ⟨[.int .i64 (bareV v).k, .int .i64 (bareV v).n, st (bareV v).t]⟩) noPan := by
  obtain ⟨k, n, t⟩ := v
  unfold bareV
  refine ct_run mx bod49 Tryz.func49 rfl (by rw [nt49]; exact Nat.le_of_ble_eq_true rfl) (dr := dr49) (by kernel_rfl) rs49 ?_
  intro hno _
  by_cases h4 : k = 4
  · subst h4
    simp +contextual only [go_sem, Rcb, Rbk, sevalprocAttr]
    intro b1 T1 hb1 hT1 hTb1 b2 T2 hb2 hap2 hT2 hTb2 b3 T3 hb3 hap3 hT3 hTb3
    exact end_none ((hT1.trans hT2).trans hT3) rfl
  by_cases h2 : k = 2
  · subst h2
    simp +contextual only [go_sem, Rcb, Rbk, sevalprocAttr]
    intro b1 T1 hb1 hT1 hTb1 b2 T2 hb2 hap2 hT2 hTb2 b3 T3 hb3 hap3 hT3 hTb3
    exact end_none ((hT1.trans hT2).trans hT3) rfl
  by_cases h3 : k = 3
  · subst h3
    simp +contextual only [go_sem, Rcb, Rbk, sevalprocAttr]
    intro b1 T1 hb1 hT1 hTb1 b2 T2 hb2 hap2 hT2 hTb2 b3 T3 hb3 hap3 hT3 hTb3
    exact end_none ((hT1.trans hT2).trans hT3) rfl
  simp +contextual only [go_sem, Rcb, Rbk, sevalprocAttr, h4, h2, h3]
  intro b1 T1 hb1 hT1 hTb1 b2 T2 hb2 hap2 hT2 hTb2 b3 T3 hb3 hap3 hT3 hTb3
  exact end_none ((hT1.trans hT2).trans hT3) rfl
end Go.Proofs.YtoainkbcfnlkcaaGreatDoor

namespace Go.Proofs.YtoainkbcfnlkcaaGreatDoor
open Go Vc
set_option linter.unusedSimpArgs false
set_option linter.unusedVariables false
set_option maxRecDepth 10000

theorem Sub_pre1 {T T' : Tm} {M : Mem} {L1 L2 : LL} {R : RR} {b : Nat} {cs : List Value} (hno : noneL M L1) (ha : apart1 b (L1 ++ L2)) : Vc.Sub ⟨T, fun _ => none, L1, []⟩ ⟨T', M, (b, cs) :: (L1 ++ L2), R⟩ :=
  fun a v hv => Sub_cons (T := T') (R := R) ha a v (Sub_pre (T := T) (T' := T') hno a v hv)
def BarX (x : X) : Prop := ∀ (M : Mem) (T : Tm) (cs : List Value), RX M x cs → CtT Tryz.prog 50 [.agg ⟨cs⟩] T M [] [] (fun r M' _ _ => encX (bareX x) r M') noPan
theorem kidsN_le (k : Int) : kidsN k ≤ 3 := by
  unfold kidsN
  split
  · decide
  split
  · decide
  split
  · decide
  split
  · decide
  · decide
theorem ct_bareX : ∀ (sz : Nat) (x : X), SizeOf.sizeOf x ≤ sz → OkY x → BarX x := by
  intro sz
  induction sz with
  | zero => intro x hx _; cases x; simp at hx
  | succ sz ih =>
    intro x hsz hok M T cs hx
    obtain ⟨k, v, tab, name, kids⟩ := x
    rw [OkY] at hok
    obtain ⟨hkn3, _, _, _, hoks⟩ := hok
    have hk3 := kidsN_le k
    have ihk : ∀ y ∈ kids, BarX y := by
      intro y hy
      refine ih y ?_ (OkYs_mem hoks y hy)
      have := List.sizeOf_lt_of_mem hy
      simp at hsz
      omega
    obtain ⟨s, rfl, hs1, hs⟩ := RX_form hx
    simp only [X.k, X.v, X.tab, X.name, X.kids] at *
    have hs' := hs
    obtain ⟨hkl, ka, kc, rfl, hkc, hkn, hget⟩ := RS_elim (by decide) (fun _ _ => RX_len) hs'
    refine ct_run mx bod50 Tryz.func50 rfl (by rw [nt50]; exact Nat.le_of_ble_eq_true rfl) (dr := dr50) (by kernel_rfl) rs50 ?_
    intro hno _
    simp +contextual only [go_sem, sevalprocAttr]
    intro b1 T1 hb1 hT1 hTb1 b2 T2 hb2 hap2 hT2 hTb2 b3 T3 hb3 hap3 hT3 hTb3
    refine cond_cut (fun e ds h => ds = [] ∧ e 1 = .pointer (some ⟨b1, 0, none⟩) ∧ e 2 = .pointer (some ⟨b2, 0, none⟩) ∧ e 3 = .pointer (some ⟨b3, 0, none⟩) ∧ ∃ M' w, Ext M M' ∧ M' b1 = none ∧ M' b2 = none ∧ M' b3 = none ∧ w = (if k = 1 then bareV v else ⟨0, 0, []⟩) ∧
      h = ⟨T3, M', [(b3, [.int .i64 k, .int .i64 w.k, .int .i64 w.n, st w.t, st [], st [], .slice none 0 0]), (b2, [.int .i64 0, .int .i64 0, .int .i64 0, st [], st [], st [], .slice none 0 0]), (b1, [.int .i64 k, .int .i64 v.k, .int .i64 v.n, st v.t, st tab, st name, .slice ka kids.length kc])], []⟩) (fun S' hS' => ?_) ?_
    · by_cases h1 : k = 1
      · simp +contextual only [go_sem, Rcb, Rbk, sevalprocAttr, h1, hb1, hb2, hb3, hap2, hap3]
        refine rCall_pure (ct_bareV v T3) ?_ (fun _ _ _ _ h => h.elim)
        rintro r M2 hM2 hno2 rfl
        simp only [List.cons_append, List.nil_append, noneL, noneL_pL] at hno2
        simp +contextual only [go_sem, Rcb, Rbk, sevalprocAttr, hno2, hap2, hap3]
        refine hS' _ _ _ ⟨rfl, ?_, ?_, ?_, M2, _, hM2, hno2.2.2.1, hno2.2.1, hno2.1, rfl, ?_⟩
        · simp only [go_sem, Rcb, Rbk, sevalprocAttr]
        · simp only [go_sem, Rcb, Rbk, sevalprocAttr]
        · simp only [go_sem, Rcb, Rbk, sevalprocAttr]
        · rw [if_pos h1]; simp only [h1]; rfl
      · simp +contextual only [go_sem, Rcb, Rbk, sevalprocAttr, h1, hb1, hb2, hb3, hap2, hap3]
        refine hS' _ _ _ ⟨rfl, ?_, ?_, ?_, M, _, Ext.rfl', hb1, hb2, hb3, rfl, ?_⟩
        · simp only [go_sem, Rcb, Rbk, sevalprocAttr]
        · simp only [go_sem, Rcb, Rbk, sevalprocAttr]
        · simp only [go_sem, Rcb, Rbk, sevalprocAttr]
        · rw [if_neg h1]; rfl
    rintro e ds h ⟨rfl, e1, e2, e3, M1, w, hM1, n1, n2, n3, hw, rfl⟩
    simp +contextual only [go_sem, sevalprocAttr, e1, e2, e3, n1, n2, n3, hap2, hap3]
    refine cond_cut (fun e ds h => ds = [] ∧ e 1 = .pointer (some ⟨b1, 0, none⟩) ∧ e 2 = .pointer (some ⟨b2, 0, none⟩) ∧ e 3 = .pointer (some ⟨b3, 0, none⟩) ∧ ∃ ta na, ta = (if k = 2 then tab else []) ∧ na = (if k = 2 then name else []) ∧
      h = ⟨T3, M1, [(b3, [.int .i64 k, .int .i64 w.k, .int .i64 w.n, st w.t, st ta, st na, .slice none 0 0]), (b2, [.int .i64 0, .int .i64 0, .int .i64 0, st [], st [], st [], .slice none 0 0]), (b1, [.int .i64 k, .int .i64 v.k, .int .i64 v.n, st v.t, st tab, st name, .slice ka kids.length kc])], []⟩) (fun S' hS' => ?_) ?_
    · by_cases h2 : k = 2
      · simp +contextual only [go_sem, Rcb, Rbk, sevalprocAttr, h2, e1, e2, e3, n1, n2, n3, hap2, hap3]
        refine draw_at ⟨T, fun _ => none, [(b1, _)], []⟩ (Sub_own [(b3, _), (b2, _)] n1 (by simp only [apart1]; exact ⟨⟨hap3.2.2, hap3.2.1⟩, ⟨hap2.2, hap2.1⟩, trivial⟩)) ?_
        simp +contextual only [go_sem, Rcb, Rbk, sevalprocAttr, h2, e1, e2, e3, n1, n2, n3, hap2, hap3]
        refine ⟨Sub_own [(b3, _), (b2, _)] n1 (by simp only [apart1]; exact ⟨⟨hap3.2.2, hap3.2.1⟩, ⟨hap2.2, hap2.1⟩, trivial⟩), ?_⟩
        refine hS' _ _ _ ⟨rfl, ?_, ?_, ?_, _, _, rfl, rfl, ?_⟩
        · simp only [e1, go_sem, Rcb, Rbk, sevalprocAttr]
        · simp only [e2, go_sem, Rcb, Rbk, sevalprocAttr]
        · simp only [e3, go_sem, Rcb, Rbk, sevalprocAttr]
        · rw [if_pos h2, if_pos h2]; simp only [h2]; rfl
      · simp +contextual only [go_sem, Rcb, Rbk, sevalprocAttr, h2, e1, e2, e3, n1, n2, n3, hap2, hap3]
        refine hS' _ _ _ ⟨rfl, ?_, ?_, ?_, _, _, rfl, rfl, ?_⟩
        · simp only [e1, go_sem, Rcb, Rbk, sevalprocAttr]
        · simp only [e2, go_sem, Rcb, Rbk, sevalprocAttr]
        · simp only [e3, go_sem, Rcb, Rbk, sevalprocAttr]
        · rw [if_neg h2, if_neg h2]; rfl
    rintro e ds h ⟨rfl, e1, e2, e3, ta, na, hta, hna, rfl⟩
    simp +contextual only [go_sem, Rcb, Rbk, sevalprocAttr, e1, e2, e3, n1, n2, n3, hap2, hap3]
    refine loop_range kids.length 28 [(2, .pointer (some ⟨b2, 0, none⟩)), (3, .pointer (some ⟨b3, 0, none⟩)), (26, .slice ka kids.length kc), (27, .int .i64 kids.length)]
      (fun i e h => ∃ N M' fv R, ExtT T3 N ∧ Ext M1 M' ∧ M' b1 = none ∧ M' b2 = none ∧ M' b3 = none ∧ Acc 65 7 (RX M') [] R fv ((kids.take i).map bareX) ∧
        h = ⟨N, M', [(b3, [.int .i64 k, .int .i64 w.k, .int .i64 w.n, st w.t, st ta, st na, fv]), (b2, [.int .i64 0, .int .i64 0, .int .i64 0, st [], st [], st [], .slice none 0 0]), (b1, [.int .i64 k, .int .i64 v.k, .int .i64 v.n, st v.t, st tab, st name, .slice ka kids.length kc])], R⟩)
      0 (by omega) (by simp only [live, e2, e3, go_sem, Rcb, Rbk, sevalprocAttr]) (by simp only [go_sem, Rcb, Rbk, sevalprocAttr]) ⟨T3, M1, _, [], ExtT.rfl', Ext.rfl', n1, n2, n3, Acc_nil, rfl⟩ ?_
    clear e1 e2 e3 n1 n2 n3
    rintro i e h hi hlv ht ⟨N, M2, fv, R, hN, hM2, n1, n2, n3, hacc, rfl⟩
    simp only [live] at hlv
    obtain ⟨o1, o2⟩ := Acc_one hacc
    have o3 := o2
    simp only [Value.cells] at o3
    have h02 := hM1.trans hM2
    by_cases hlt : i < kids.length
    · obtain ⟨b, o, cs, rfl, hat, hr⟩ := hget i kids[i] (List.getElem?_eq_getElem hlt)
      obtain ⟨s', rfl, k', p0, p1, p2, p3, p4, p5, p6⟩ := RX_atf (RX_ext h02 _ _ hr) (hat.ext h02)
      simp +contextual only [go_sem, Rcb, Rbk, sevalprocAttr, hlv, ht, hlt, p0, p1, p2, p3, p4, p5, p6, n1, n2, n3, hap2, hap3, k']
      intro b5 T5 hb5 hap5 hT5 hTb5
      refine draw_at ⟨T, fun _ => none, [(b5, _), (b3, _)], []⟩ (Sub_pre (L1 := [(b5, _), (b3, _)]) ⟨hb5, n3, trivial⟩) ?_
      simp +contextual only [go_sem, Rcb, Rbk, sevalprocAttr, hlv, ht, hlt, n1, n2, n3, hap2, hap3, hb5, hap5, k', o1, o2, o3]
      refine rCall_pure (ihk kids[i] (List.getElem_mem hlt) M2 T5 _ (RX_ext h02 _ _ hr)) ?_ (fun _ _ _ _ h => h.elim)
      rintro r M3 hM3 hno3 ⟨cs2, rfl, hx2⟩
      simp only [List.cons_append, List.nil_append, noneL, noneL_pL] at hno3
      obtain ⟨s2, rfl, k2, hs2⟩ := RX_form hx2
      simp +contextual only [go_sem, Rcb, Rbk, sevalprocAttr, hlv, ht, hlt, hno3, hap2, hap3, hap5, o1, o2, o3, k2]
      refine ⟨Sub_pre (L1 := [(b5, _), (b3, _)]) ⟨hno3.1, hno3.2.1, trivial⟩, ?_⟩
      intro b8 hb8 hap8
      refine ⟨Sub_pre1 (L1 := [(b5, _), (b3, _)]) ⟨hno3.1, hno3.2.1, trivial⟩ (by simp [apart1, hap8]), ?_⟩
      have hlen : ((kids.take i).map bareX).length = i := by rw [List.length_map, List.length_take]; omega
      refine app_acc (z := _) Tryz.underlying58 row58 okt58 (Acc_mono (fun x cs h => RX_ext hM3 _ _ h) hacc) hx2 (fun _ _ => RX_len) (RX_oneC hx2) hb8 (by rw [hlen]; omega) (by decide) ?_
      intro fv' R' hacc'
      obtain ⟨q1, q2⟩ := Acc_one hacc'
      have q3 := q2
      simp only [Value.cells] at q3
      have hwi := wrap_succ i (by omega)
      simp +contextual only [go_sem, Rcb, Rbk, sevalprocAttr, hlv, ht, hlt, hno3, hap2, hap3, hap5, o1, o2, o3, k2, hb8, hap8, q1, q2, q3]
      refine ⟨Sub_pre1 (L1 := [(b5, _), (b3, _)]) ⟨hno3.1, hno3.2.1, trivial⟩ (by simp [apart1, hap8]), ?_⟩
      refine lp_close (Close_drop (Close_drop (Close_id ⟨kids.length - (i + 1), by omega, rfl, i + 1, by omega, rfl, ?_, ?_, T5, M3, fv', R', hN.trans hT5, hM2.trans hM3, hno3.2.2.2.1, hno3.2.2.1, hno3.2.1, ?_, rfl⟩)))
      · simp only [live, hlv, go_sem, Rcb, Rbk, sevalprocAttr]
      · simp only [ht, go_sem, Rcb, Rbk, sevalprocAttr, hwi]
      · rw [List.take_succ_eq_append_getElem hlt, List.map_append]; exact hacc'
    · have : i = kids.length := by omega
      subst this
      simp +contextual only [go_sem, Rcb, Rbk, sevalprocAttr, hlv, ht, hlt, n1, n2, n3, hap2, hap3, o1]
      rw [List.take_length] at hacc
      refine Close_acc hacc (by rw [List.length_map]; exact hkl) (by decide) ⟨n3, n2, n1, trivial⟩ fun M3 hM3 _ hrs => end_none (((hT1.trans hT2).trans hT3).trans hN) ⟨_, rfl, ?_⟩
      subst hw hta hna
      rw [bareX, bareXs_map]
      exact RX_iff.2 ⟨fv, rfl, RS_ext Ext.rfl' (RX_ext hM3) hrs⟩
end Go.Proofs.YtoainkbcfnlkcaaGreatDoor

namespace Go.Proofs.YtoainkbcfnlkcaaGreatDoor
open Go Vc
set_option linter.unusedSimpArgs false
set_option linter.unusedVariables false
set_option maxRecDepth 10000

theorem bareXok {x : X} (h : OkY x) : BarX x := ct_bareX _ x (Nat.le_refl _) h
theorem Yw_ok {x : X} (h : Yw x) : OkY x := (exprW_oky h).1
/-- grows till the last, then stands -/
def AccF {α : Type} (el : TypeId) (sz : Nat) (r : Mem → α → List Value → Prop) (R0 : RR) (n i : Nat) (M : Mem) (R : RR) (fv : Value) (acc : List α) : Prop :=
  (i < n ∧ Acc el sz (r M) R0 R fv acc) ∨ (i = n ∧ R = R0 ∧ RS M (r M) sz acc fv)
section
variable {α : Type} {el : TypeId} {sz : Nat} {r : Mem → α → List Value → Prop} {R0 R : RR} {n i : Nat} {M : Mem} {fv : Value} {acc : List α}
theorem AccF_zero : AccF el sz r R0 n 0 M R0 (.slice none 0 0) ([] : List α) := by
  by_cases h : 0 < n
  · exact .inl ⟨h, Acc_nil⟩
  · exact .inr ⟨by omega, rfl, RS_nil⟩
theorem AccF_acc (h : AccF el sz r R0 n i M R fv acc) (hi : i < n) : Acc el sz (r M) R0 R fv acc := by
  rcases h with ⟨_, h⟩ | ⟨h, _⟩
  · exact h
  · omega
theorem AccF_end (h : AccF el sz r R0 n n M R fv acc) : R = R0 ∧ RS M (r M) sz acc fv := by
  rcases h with ⟨h, _⟩ | ⟨_, h⟩
  · omega
  · exact h
theorem Close_step {N : Tm} {L : LL} {k : Sh → Prop} (hi : i < n) (h : Acc el sz (r M) R0 R fv acc) (hb : acc.length ≤ 140737488355328) (hpos : 0 < sz) (hno : noneL M L) (hr : ∀ M M' x cs, Ext M M' → r M x cs → r M' x cs)
    (hk : ∀ M' R', Ext M M' → noneL M' L → AccF el sz r R0 n (i + 1) M' R' fv acc → Close ⟨N, M', L, R'⟩ k) : Close ⟨N, M, L, R⟩ k := by
  by_cases h1 : i + 1 < n
  · exact hk M R Ext.rfl' hno (.inl ⟨h1, h⟩)
  · exact Close_acc h hb hpos hno fun M' hM hno' hrs => hk M' R0 hM hno' (.inr ⟨by omega, rfl, RS_ext Ext.rfl' (fun x cs h => hr _ _ x cs hM h) hrs⟩)
end
theorem ct_bares {l : List X} (hok : ∀ x ∈ l, OkY x) (hlen : l.length ≤ 400) {M : Mem} {v : Value} (h : RS M (RX M) 7 l v) (T : Tm) : CtT Tryz.prog 84 [v] T M [] [] (fun r M' _ _ => RS M' (RX M') 7 (l.map bareX) r) noPan := by
  have h' := h
  obtain ⟨hkl, ka, kc, rfl, hkc, hkn, hget⟩ := RS_elim (by decide) (fun _ _ => RX_len) h'
  refine ct_run mx bod84 Tryz.func84 rfl (by rw [nt84]; exact Nat.le_of_ble_eq_true rfl) (dr := dr84) (by kernel_rfl) rs84 ?_
  intro hno _
  simp +contextual only [go_sem, Rcb, Rbk, sevalprocAttr]
  refine loop_range l.length 8 [(6, .slice ka l.length kc), (7, .int .i64 l.length)]
      (fun i e h => ∃ N M' fv R, e 3 = fv ∧ ExtT T N ∧ Ext M M' ∧ Acc 65 7 (RX M') [] R fv ((l.take i).map bareX) ∧ h = ⟨N, M', [], R⟩)
      0 (by omega) (by simp only [live, go_sem, Rcb, Rbk, sevalprocAttr]) (by simp only [go_sem, Rcb, Rbk, sevalprocAttr]) ⟨T, M, _, [], by simp only [go_sem, Rcb, Rbk, sevalprocAttr], ExtT.rfl', Ext.rfl', Acc_nil, rfl⟩ ?_
  rintro i e h hi hlv ht ⟨N, M2, fv, R, e3, hN, hM2, hacc, rfl⟩
  simp only [live] at hlv
  by_cases hlt : i < l.length
  · obtain ⟨b, o, cs, rfl, hat, hr⟩ := hget i l[i] (List.getElem?_eq_getElem hlt)
    obtain ⟨s', rfl, k', p0, p1, p2, p3, p4, p5, p6⟩ := RX_atf (RX_ext hM2 _ _ hr) (hat.ext hM2)
    simp +contextual only [go_sem, Rcb, Rbk, sevalprocAttr, hlv, ht, hlt, p0, p1, p2, p3, p4, p5, p6, k', e3]
    intro b5 T5 hb5 hT5 hTb5
    refine rCall_pure (bareXok (hok l[i] (List.getElem_mem hlt)) M2 T5 _ (RX_ext hM2 _ _ hr)) ?_ (fun _ _ _ _ h => h.elim)
    rintro r M3 hM3 hno3 ⟨cs2, rfl, hx2⟩
    simp only [List.cons_append, List.nil_append, noneL, noneL_pL] at hno3
    obtain ⟨s2, rfl, k2, hs2⟩ := RX_form hx2
    simp +contextual only [go_sem, Rcb, Rbk, sevalprocAttr, hlv, ht, hlt, hno3, e3, k2]
    intro b8 hb8 hap8
    have hll : ((l.take i).map bareX).length = i := by rw [List.length_map, List.length_take]; omega
    refine app_acc (z := _) Tryz.underlying58 row58 okt58 (Acc_mono (fun x cs h => RX_ext hM3 _ _ h) hacc) hx2 (fun _ _ => RX_len) (RX_oneC hx2) hb8 (by rw [hll]; omega) (by decide) ?_
    intro fv' R' hacc'
    have hwi := wrap_succ i (by omega)
    simp +contextual only [go_sem, Rcb, Rbk, sevalprocAttr, hlv, ht, hlt, hno3, e3, k2]
    refine lp_close (Close_drop (Close_drop (Close_id ⟨l.length - (i + 1), by omega, rfl, i + 1, by omega, rfl, ?_, ?_, T5, M3, fv', R', ?_, hN.trans hT5, hM2.trans hM3, ?_, rfl⟩)))
    · simp only [live, hlv, go_sem, Rcb, Rbk, sevalprocAttr]
    · simp only [ht, go_sem, Rcb, Rbk, sevalprocAttr, hwi]
    · simp only [go_sem, Rcb, Rbk, sevalprocAttr]
    · rw [List.take_succ_eq_append_getElem hlt, List.map_append]; exact hacc'
  · have : i = l.length := by omega
    subst this
    simp +contextual only [go_sem, Rcb, Rbk, sevalprocAttr, hlv, ht, hlt, e3]
    rw [List.take_length] at hacc
    exact Close_acc hacc (by rw [List.length_map]; exact hkl) (by decide) trivial fun M3 hM3 _ hrs => end_none hN (RS_ext Ext.rfl' (RX_ext hM3) hrs)
/-- sources, the first with no condition -/
def bareSos : Nat → List So → List So
  | _, [] => []
  | i, s :: l => bareSo (decide (i = 0)) s :: bareSos (i + 1) l
theorem bareSos_snoc : ∀ (l : List So) (i : Nat) (x : So), bareSos i (l ++ [x]) = bareSos i l ++ [bareSo (decide (i + l.length = 0)) x]
  | [], i, x => by simp [bareSos]
  | s :: l, i, x => by
    rw [List.cons_append, bareSos, bareSos, bareSos_snoc l (i + 1) x, List.length_cons, show i + 1 + l.length = i + (l.length + 1) by omega]
    rfl
theorem bareSos_len : ∀ (l : List So) (i : Nat), (bareSos i l).length = l.length
  | [], i => rfl
  | s :: l, i => by rw [bareSos, List.length_cons, bareSos_len l]; rfl
theorem bareSos_next : ∀ (l : List So) (i : Nat), bareSos (i + 1) l = l.map (bareSo false)
  | [], i => rfl
  | s :: l, i => by rw [bareSos, bareSos_next l]; simp
theorem bareSos_all (l : List So) : bareSos 0 l = (match l with | [] => [] | f :: l => bareSo true f :: l.map (bareSo false)) := by
  cases l with
  | nil => rfl
  | cons s l => rw [bareSos, bareSos_next]; simp
theorem bareSos_take {l : List So} {k : Nat} (h : k < l.length) : bareSos 0 (l.take (k + 1)) = bareSos 0 (l.take k) ++ [bareSo (decide (k = 0)) l[k]] := by
  rw [List.take_succ_eq_append_getElem h, bareSos_snoc, List.length_take, Nat.zero_add, Nat.min_eq_left (by omega)]
end Go.Proofs.YtoainkbcfnlkcaaGreatDoor

namespace Go.Proofs.YtoainkbcfnlkcaaGreatDoor
open Go Vc
set_option linter.unusedSimpArgs false
set_option linter.unusedVariables false
set_option maxRecDepth 10000

theorem ct_bareQ {q : Q} (hq : QuR Yw q) {M : Mem} {cs : List Value} (hx : RQ M q cs) (T : Tm) : CtT Tryz.prog 51 [.agg ⟨cs⟩] T M [] [] (fun r M' _ _ => encQ (bareQ q) r M') noPan := by
  obtain ⟨pv, ov, rv, hp, ho, hr, rfl⟩ := hx
  have hp' := hp
  have hr' := hr
  obtain ⟨hpl, pa, pc, rfl, hpc, hpn, hpget⟩ := RS_elim (by decide) (fun _ _ => RSe_len) hp'
  obtain ⟨_, oa, oc, rfl, _⟩ := RS_elim (sz := 1) (by decide) (fun _ _ h => by rw [h]; rfl) ho
  obtain ⟨hrl, ra, rc, rfl, _⟩ := RS_elim (by decide) (fun _ _ => RX_len) hr'
  have hp4 := hq.parts.2.1
  refine ct_run mx bod51 Tryz.func51 rfl (by rw [nt51]; exact Nat.le_of_ble_eq_true rfl) (dr := dr51) (by kernel_rfl) rs51 ?_
  intro hno _
  simp +contextual only [go_sem, sevalprocAttr, slOne]
  intro b1 T1 hb1 hT1 hTb1 b2 T2 hb2 hap2 hT2 hTb2
  intro b3 T3 hb3 hap3 hT3 hTb3
  refine cond_cut (fun e ds h => ds = [] ∧ e 1 = .pointer (some ⟨b1, 0, none⟩) ∧ e 2 = .pointer (some ⟨b2, 0, none⟩) ∧ e 3 = .pointer (some ⟨b3, 0, none⟩) ∧ ∃ M' dv lm, Ext M M' ∧ M' b1 = none ∧ M' b2 = none ∧ M' b3 = none ∧ lm = (if 0 ≤ q.limit then q.limit else -1) ∧ RS M' (RX M') 7 (if 0 ≤ q.limit then q.order.map bareX else []) dv ∧
      h = ⟨T3, M', [(b3, [.slice none 0 0, .slice oa q.ops.length oc, dv, .int .i64 lm]), (b2, [.slice none 0 0, .slice none 0 0, .slice none 0 0, .int .i64 0]), (b1, [.slice pa q.parts.length pc, .slice oa q.ops.length oc, .slice ra q.order.length rc, .int .i64 q.limit])], []⟩) (fun S' hS' => ?_) ?_
  · by_cases h0 : 0 ≤ q.limit
    · obtain ⟨l1, l2, l3, l4⟩ := hq.lim h0
      simp +contextual only [go_sem, Rcb, Rbk, sevalprocAttr, h0]
      refine draw_at ⟨T, fun _ => none, [(b1, _)], []⟩ (Sub_own [(b3, _), (b2, _)] hb1 (by simp only [apart1]; exact ⟨⟨hap3.2.2, hap3.2.1⟩, ⟨hap2.2, hap2.1⟩, trivial⟩)) ?_
      simp +contextual only [go_sem, Rcb, Rbk, sevalprocAttr, h0, hb1, hb2, hb3, hap2, hap3, slOne]
      refine rCall_pure (ct_bares (fun x hx => Yw_ok (l4 x hx)) (by omega) hr T3) ?_ (fun _ _ _ _ h => h.elim)
      rintro r M2 hM2 hno2 hrs
      obtain ⟨hd1, hd2⟩ := RS_one hrs
      have hd3 := hd2
      simp only [Value.cells] at hd3
      simp only [List.cons_append, List.nil_append, noneL, noneL_pL] at hno2
      simp +contextual only [go_sem, Rcb, Rbk, sevalprocAttr, h0, hno2, hap2, hap3, slOne, hd1, hd2, hd3]
      refine ⟨(Sub_own [(b3, _), (b2, _)] hno2.2.2.1 (by simp only [apart1]; exact ⟨⟨hap3.2.2, hap3.2.1⟩, ⟨hap2.2, hap2.1⟩, trivial⟩)), (Sub_own [(b3, _), (b2, _)] hno2.2.2.1 (by simp only [apart1]; exact ⟨⟨hap3.2.2, hap3.2.1⟩, ⟨hap2.2, hap2.1⟩, trivial⟩)), ?_⟩
      refine hS' _ _ _ ⟨rfl, ?_, ?_, ?_, M2, _, q.limit, hM2, hno2.2.2.1, hno2.2.1, hno2.1, ?_, ?_, rfl⟩
      · simp only [go_sem, Rcb, Rbk, sevalprocAttr]
      · simp only [go_sem, Rcb, Rbk, sevalprocAttr]
      · simp only [go_sem, Rcb, Rbk, sevalprocAttr]
      · rw [if_pos h0]
      · rw [if_pos h0]; exact hrs
    · simp +contextual only [go_sem, Rcb, Rbk, sevalprocAttr, h0]
      refine hS' _ _ _ ⟨rfl, ?_, ?_, ?_, M, _, -1, Ext.rfl', hb1, hb2, hb3, ?_, ?_, rfl⟩
      · simp only [go_sem, Rcb, Rbk, sevalprocAttr]
      · simp only [go_sem, Rcb, Rbk, sevalprocAttr]
      · simp only [go_sem, Rcb, Rbk, sevalprocAttr]
      · rw [if_neg h0]
      · rw [if_neg h0]; exact RS_nil
  rintro e ds h ⟨rfl, e1, e2, e3, M1, dv, lm, hM1, n1, n2, n3, hlm, hdv, rfl⟩
  obtain ⟨hd1, hd2⟩ := RS_one hdv
  have hd3 := hd2
  simp only [Value.cells] at hd3
  simp +contextual only [go_sem, Rcb, Rbk, sevalprocAttr, e1, e2, e3, n1, n2, n3, hap2, hap3, slOne, hd1, hd2, hd3]
  refine loop_range q.parts.length 28 [(2, .pointer (some ⟨b2, 0, none⟩)), (3, .pointer (some ⟨b3, 0, none⟩)), (26, .slice pa q.parts.length pc), (27, .int .i64 q.parts.length)]
      (fun i e h => ∃ N M' pv R, ExtT T3 N ∧ Ext M1 M' ∧ M' b1 = none ∧ M' b2 = none ∧ M' b3 = none ∧ AccF 91 21 RSe [] q.parts.length i M' R pv ((q.parts.take i).map bareSe) ∧ h = ⟨N, M', [(b3, [pv, .slice oa q.ops.length oc, dv, .int .i64 lm]), (b2, [.slice none 0 0, .slice none 0 0, .slice none 0 0, .int .i64 0]), (b1, [.slice pa q.parts.length pc, .slice oa q.ops.length oc, .slice ra q.order.length rc, .int .i64 q.limit])], R⟩)
      0 (by omega) (by simp only [live, e2, e3, go_sem, Rcb, Rbk, sevalprocAttr]) (by simp only [go_sem, Rcb, Rbk, sevalprocAttr]) ⟨T3, M1, _, [], ExtT.rfl', Ext.rfl', n1, n2, n3, AccF_zero, rfl⟩ ?_
  clear e1 e2 e3 n1 n2 n3
  rintro i e h hi hlv ht ⟨N, M2, pv, R, hN, hM2, n1, n2, n3, hacc, rfl⟩
  simp only [live] at hlv
  have h02 := hM1.trans hM2
  by_cases hlt : i < q.parts.length
  · obtain ⟨s, hs⟩ : ∃ s, q.parts[i]? = some s := ⟨_, List.getElem?_eq_getElem hlt⟩
    have hsr : SeR Yw s := hq.parts.2.2 s (List.mem_of_getElem? hs)
    replace hacc := AccF_acc hacc hlt
    obtain ⟨b, o, cs, rfl, hat, hse⟩ := hpget i s hs
    obtain ⟨ai, aj, af, ag, aw, ah, ap, aq, rfl, xi, xf, xw, xh, xg, kw, kh⟩ := RSe_form (RSe_ext h02 _ _ hse)
    obtain ⟨y0, y1, y2, y3, y4, y5, y6, y7, y8, y9, y10, y11, y12, y13, y14, y15, y16, y17, y18, y19, y20⟩ := At21 (hat.ext h02)
    obtain ⟨pa1, pa2⟩ := Acc_one hacc
    have pa3 := pa2
    simp only [Value.cells] at pa3
    simp +contextual only [go_sem, Rcb, Rbk, sevalprocAttr, hlv, ht, hlt, y0, y1, y2, y3, y4, y5, y6, y7, y8, y9, y10, y11, y12, y13, y14, y15, y16, y17, y18, y19, y20, kw, kh, slOne, n1, n2, n3, hap2, hap3]
    intro b5 T5 hb5 hap5 hT5 hTb5
    refine draw_cut (fun e ds h => ds = [] ∧ (e 2 = .pointer (some ⟨b2, 0, none⟩) ∧ e 3 = .pointer (some ⟨b3, 0, none⟩) ∧ e 26 = .slice (some ⟨b, o, none⟩) q.parts.length pc ∧ e 27 = .int .i64 q.parts.length ∧ e 28 = .int .i64 (i : Nat) ∧ e 5 = .pointer (some ⟨b5, 0, none⟩)) ∧ ∃ N6 M' b6 gv, e 6 = .pointer (some ⟨b6, 0, none⟩) ∧ ExtT T5 N6 ∧ Ext M2 M' ∧ (M' b1 = none ∧ M' b2 = none ∧ M' b3 = none ∧ M' b5 = none ∧ M' b6 = none) ∧
      (((¬b6 = b5 ∧ ¬b5 = b6) ∧ (¬b6 = b3 ∧ ¬b3 = b6) ∧ (¬b6 = b2 ∧ ¬b2 = b6) ∧ ¬b6 = b1 ∧ ¬b1 = b6)) ∧ RS M' (RX M') 7 (s.group.map bareX) gv ∧ h = ⟨N6, M', [(b6, [.bool s.distinct, .bool s.star, .slice none 0 0, .slice none 0 0, .bool s.hasW, .bool s.hasH, .int .i64 0, .int .i64 0, .int .i64 0, st [], st [], st [], .slice none 0 0, .int .i64 0, .int .i64 0, .int .i64 0, st [], st [], st [], .slice none 0 0, gv]), (b5, [.bool s.distinct, .bool s.star, .slice ai s.items.length aj, .slice af s.src.length ag, .bool s.hasW, .bool s.hasH, .int .i64 s.wh.k, .int .i64 s.wh.v.k, .int .i64 s.wh.v.n, st s.wh.v.t, st s.wh.tab, st s.wh.name, aw, .int .i64 s.hv.k, .int .i64 s.hv.v.k, .int .i64 s.hv.v.n, st s.hv.v.t, st s.hv.tab, st s.hv.name, ah, .slice ap s.group.length aq]), (b3, [pv, .slice oa q.ops.length oc, dv, .int .i64 lm]), (b2, [.slice none 0 0, .slice none 0 0, .slice none 0 0, .int .i64 0]), (b1, [.slice (some ⟨b, o, none⟩) q.parts.length pc, .slice oa q.ops.length oc, .slice ra q.order.length rc, .int .i64 q.limit])], R⟩) (fun S' hS' => ?_) ?_
    · refine draw_at ⟨T, fun _ => none, [(b5, _)], []⟩ (Sub_hd hb5) ?_
      simp +contextual only [go_sem, Rcb, Rbk, sevalprocAttr, hlv, ht, hlt, n1, n2, n3, hb5, hap2, hap3, hap5, slOne]
      refine ⟨?_, ?_⟩
      · refine rCall_pure (ct_bares (fun x hx => Yw_ok (hsr.group.2 x hx)) (by have := hsr.group.1; omega) xg T5) ?_ (fun _ _ _ _ h => h.elim)
        rintro gv M3 hM3 hno3 hgv
        obtain ⟨gv1, gv2⟩ := RS_one hgv
        have gv3 := gv2
        simp only [Value.cells] at gv3
        simp only [List.cons_append, List.nil_append, noneL, noneL_pL] at hno3
        simp +contextual only [go_sem, Rcb, Rbk, sevalprocAttr, hlv, ht, hlt, hno3, hap2, hap3, hap5, slOne, gv1, gv2, gv3]
        refine ⟨Sub_hd hno3.1, ?_⟩
        intro b6 T6 hb6 hap6 hT6 hTb6
        refine ⟨Sub_own [(b6, _)] hno3.1 (by simp only [apart1]; exact ⟨⟨hap6.1.2, hap6.1.1⟩, trivial⟩), ?_⟩
        refine hS' _ _ _ ⟨rfl, ⟨(by simp only [hlv, ht, go_sem, Rcb, Rbk, sevalprocAttr]), (by simp only [hlv, ht, go_sem, Rcb, Rbk, sevalprocAttr]), (by simp only [hlv, ht, go_sem, Rcb, Rbk, sevalprocAttr]), (by simp only [hlv, ht, go_sem, Rcb, Rbk, sevalprocAttr]), (by simp only [hlv, ht, go_sem, Rcb, Rbk, sevalprocAttr]), (by simp only [hlv, ht, go_sem, Rcb, Rbk, sevalprocAttr])⟩, T6, M3, b6, _, (by simp only [go_sem, Rcb, Rbk, sevalprocAttr]), hT6, hM3, ⟨hno3.2.2.2.1, hno3.2.2.1, hno3.2.1, hno3.1, hb6⟩, hap6, hgv, rfl⟩
      · intro b6 T6 hb6 hap6 hT6 hTb6
        refine ⟨Sub_own [(b6, _)] hb5 (by simp only [apart1]; exact ⟨⟨hap6.1.2, hap6.1.1⟩, trivial⟩), ?_⟩
        refine rCall_pure (ct_bares (fun x hx => Yw_ok (hsr.group.2 x hx)) (by have := hsr.group.1; omega) xg T6) ?_ (fun _ _ _ _ h => h.elim)
        rintro gv M3 hM3 hno3 hgv
        obtain ⟨gv1, gv2⟩ := RS_one hgv
        have gv3 := gv2
        simp only [Value.cells] at gv3
        simp only [List.cons_append, List.nil_append, noneL, noneL_pL] at hno3
        simp +contextual only [go_sem, Rcb, Rbk, sevalprocAttr, hlv, ht, hlt, hno3, hap2, hap3, hap5, hap6, slOne, gv1, gv2, gv3]
        refine ⟨Sub_own [(b6, _)] hno3.2.1 (by simp only [apart1]; exact ⟨⟨hap6.1.2, hap6.1.1⟩, trivial⟩), ?_⟩
        refine hS' _ _ _ ⟨rfl, ⟨(by simp only [hlv, ht, go_sem, Rcb, Rbk, sevalprocAttr]), (by simp only [hlv, ht, go_sem, Rcb, Rbk, sevalprocAttr]), (by simp only [hlv, ht, go_sem, Rcb, Rbk, sevalprocAttr]), (by simp only [hlv, ht, go_sem, Rcb, Rbk, sevalprocAttr]), (by simp only [hlv, ht, go_sem, Rcb, Rbk, sevalprocAttr]), (by simp only [hlv, ht, go_sem, Rcb, Rbk, sevalprocAttr])⟩, T6, M3, b6, _, (by simp only [go_sem, Rcb, Rbk, sevalprocAttr]), hT6, hM3, ⟨hno3.2.2.2.2.1, hno3.2.2.2.1, hno3.2.2.1, hno3.2.1, hno3.1⟩, hap6, hgv, rfl⟩
    clear hlv ht
    rintro e ds h ⟨rfl, ⟨e2, e3, e26, e27, e28, e5⟩, N6, M3, b6, gv, e6, hN6, hM3, ⟨n1, n2, n3, n5, n6⟩, hap6, hgv, rfl⟩
    have h03 := h02.trans hM3
    have hX3 := hM3
    simp +contextual only [go_sem, sevalprocAttr, e5, e6, n1, n2, n3, n5, n6, hap2, hap3, hap5, hap6, slOne]
    refine cond_cut (fun e ds h => ds = [] ∧ (e 2 = .pointer (some ⟨b2, 0, none⟩) ∧ e 3 = .pointer (some ⟨b3, 0, none⟩) ∧ e 26 = .slice (some ⟨b, o, none⟩) q.parts.length pc ∧ e 27 = .int .i64 q.parts.length ∧ e 28 = .int .i64 (i : Nat) ∧ e 5 = .pointer (some ⟨b5, 0, none⟩) ∧ e 6 = .pointer (some ⟨b6, 0, none⟩)) ∧ ∃ N' M' iv, ExtT N6 N' ∧ Ext M3 M' ∧ (M' b1 = none ∧ M' b2 = none ∧ M' b3 = none ∧ M' b5 = none ∧ M' b6 = none) ∧ RS M' (RIt M') 8 (if s.star = true then [] else s.items.map bareIt) iv ∧
      h = ⟨N', M', [(b6, [.bool s.distinct, .bool s.star, iv, .slice none 0 0, .bool s.hasW, .bool s.hasH, .int .i64 0, .int .i64 0, .int .i64 0, st [], st [], st [], .slice none 0 0, .int .i64 0, .int .i64 0, .int .i64 0, st [], st [], st [], .slice none 0 0, gv]), (b5, [.bool s.distinct, .bool s.star, .slice ai s.items.length aj, .slice af s.src.length ag, .bool s.hasW, .bool s.hasH, .int .i64 s.wh.k, .int .i64 s.wh.v.k, .int .i64 s.wh.v.n, st s.wh.v.t, st s.wh.tab, st s.wh.name, aw, .int .i64 s.hv.k, .int .i64 s.hv.v.k, .int .i64 s.hv.v.n, st s.hv.v.t, st s.hv.tab, st s.hv.name, ah, .slice ap s.group.length aq]), (b3, [pv, .slice oa q.ops.length oc, dv, .int .i64 lm]), (b2, [.slice none 0 0, .slice none 0 0, .slice none 0 0, .int .i64 0]), (b1, [.slice (some ⟨b, o, none⟩) q.parts.length pc, .slice oa q.ops.length oc, .slice ra q.order.length rc, .int .i64 q.limit])], R⟩) (fun S' hS' => ?_) ?_
    · cases hst : s.star with
      | true =>
        simp +contextual only [go_sem, Rcb, Rbk, sevalprocAttr, hst]
        refine hS' _ _ _ ⟨rfl, ⟨(by simp only [e2, e3, e26, e27, e28, e5, e6, go_sem, Rcb, Rbk, sevalprocAttr]), (by simp only [e2, e3, e26, e27, e28, e5, e6, go_sem, Rcb, Rbk, sevalprocAttr]), (by simp only [e2, e3, e26, e27, e28, e5, e6, go_sem, Rcb, Rbk, sevalprocAttr]), (by simp only [e2, e3, e26, e27, e28, e5, e6, go_sem, Rcb, Rbk, sevalprocAttr]), (by simp only [e2, e3, e26, e27, e28, e5, e6, go_sem, Rcb, Rbk, sevalprocAttr]), (by simp only [e2, e3, e26, e27, e28, e5, e6, go_sem, Rcb, Rbk, sevalprocAttr]), (by simp only [e2, e3, e26, e27, e28, e5, e6, go_sem, Rcb, Rbk, sevalprocAttr])⟩, N6, M3, .slice none 0 0, ExtT.rfl', Ext.rfl', ⟨n1, n2, n3, n5, n6⟩, (by rw [hst]; exact RS_nil), (by rw [hst]; rfl)⟩
      | false =>
        have hio := (hsr.items hst).2.2
        have hi8 := (hsr.items hst).2.1
        have xi' := xi
        obtain ⟨hil, ia, ic, hie, hic, hin, higet⟩ := RS_elim (by decide) (fun _ _ => RIt_len) xi'
        simp +contextual only [go_sem, Rcb, Rbk, sevalprocAttr, hst, e5, e6, n1, n2, n3, n5, n6, hap2, hap3, hap5, hap6, slOne]
        refine loop_range s.items.length 50 ([(2, .pointer (some ⟨b2, 0, none⟩)), (3, .pointer (some ⟨b3, 0, none⟩)), (26, .slice (some ⟨b, o, none⟩) q.parts.length pc), (27, .int .i64 q.parts.length), (28, .int .i64 (i : Nat)), (5, .pointer (some ⟨b5, 0, none⟩)), (6, .pointer (some ⟨b6, 0, none⟩)), (48, .slice ai s.items.length aj), (49, .int .i64 s.items.length)])
          (fun k e h => ∃ N' M' iv RI, ExtT N6 N' ∧ Ext M3 M' ∧ (M' b1 = none ∧ M' b2 = none ∧ M' b3 = none ∧ M' b5 = none ∧ M' b6 = none) ∧ AccF 87 8 RIt R s.items.length k M' RI iv ((s.items.take k).map bareIt) ∧ h = ⟨N', M', [(b6, [.bool s.distinct, .bool s.star, iv, .slice none 0 0, .bool s.hasW, .bool s.hasH, .int .i64 0, .int .i64 0, .int .i64 0, st [], st [], st [], .slice none 0 0, .int .i64 0, .int .i64 0, .int .i64 0, st [], st [], st [], .slice none 0 0, gv]), (b5, [.bool s.distinct, .bool s.star, .slice ai s.items.length aj, .slice af s.src.length ag, .bool s.hasW, .bool s.hasH, .int .i64 s.wh.k, .int .i64 s.wh.v.k, .int .i64 s.wh.v.n, st s.wh.v.t, st s.wh.tab, st s.wh.name, aw, .int .i64 s.hv.k, .int .i64 s.hv.v.k, .int .i64 s.hv.v.n, st s.hv.v.t, st s.hv.tab, st s.hv.name, ah, .slice ap s.group.length aq]), (b3, [pv, .slice oa q.ops.length oc, dv, .int .i64 lm]), (b2, [.slice none 0 0, .slice none 0 0, .slice none 0 0, .int .i64 0]), (b1, [.slice (some ⟨b, o, none⟩) q.parts.length pc, .slice oa q.ops.length oc, .slice ra q.order.length rc, .int .i64 q.limit])], RI⟩)
          0 (by omega) (by simp only [live, e2, e3, e26, e27, e28, e5, e6, go_sem, Rcb, Rbk, sevalprocAttr]) (by simp only [go_sem, Rcb, Rbk, sevalprocAttr]) ⟨N6, M3, _, R, ExtT.rfl', Ext.rfl', ⟨n1, n2, n3, n5, n6⟩, AccF_zero, by rw [hst]; rfl⟩ ?_
        clear e2 e3 e26 e27 e28 e5 e6 n1 n2 n3 n5 n6 hie
        rintro k e h hk hlv ht ⟨N7, M4, iv, RI, hN7, hM4, ⟨n1, n2, n3, n5, n6⟩, hiacc, rfl⟩
        simp only [live] at hlv
        have h34 := h03.trans hM4
        by_cases hkt : k < s.items.length
        · replace hiacc := AccF_acc hiacc hkt
          obtain ⟨bi, oi, ci, hie, hati, hri⟩ := RS_get (by decide) (fun _ _ => RIt_len) xi (List.getElem?_eq_getElem hkt)
          subst hie
          obtain ⟨iw, rfl, hrx, kw8⟩ := RIt_form hri
          obtain ⟨z0, z1, z2, z3, z4, z5, z6, z7⟩ := At8 (hati.ext (hM3.trans hM4))
          obtain ⟨ia1, ia2⟩ := Acc_one hiacc
          have ia3 := ia2
          simp only [Value.cells] at ia3
          simp +contextual only [go_sem, Rcb, Rbk, sevalprocAttr, hlv, ht, hkt, z0, z1, z2, z3, z4, z5, z6, z7, kw8, slOne, n1, n2, n3, n5, n6, hap2, hap3, hap5, hap6]
          intro b8 T8 hb8 hap8 hT8 hTb8
          refine draw_at ⟨T, fun _ => none, [(b8, _), (b6, _)], []⟩ (Sub_pre (L1 := [(b8, _), (b6, _)]) ⟨hb8, n6, trivial⟩) ?_
          simp +contextual only [go_sem, Rcb, Rbk, sevalprocAttr, hlv, ht, hkt, hb8, kw8, slOne, n1, n2, n3, n5, n6, hap2, hap3, hap5, hap6, hap8, ia1, ia2, ia3]
          refine rCall_pure (bareXok (Yw_ok (hio s.items[k] (List.getElem_mem hkt)).1) M4 T8 _ (RX_ext (hM3.trans hM4) _ _ hrx)) ?_ (fun _ _ _ _ h => h.elim)
          rintro r M5 hM5 hno5 ⟨cs2, rfl, hx2⟩
          simp only [List.cons_append, List.nil_append, noneL, noneL_pL] at hno5
          obtain ⟨s2, rfl, k2, hs2⟩ := RX_form hx2
          simp +contextual only [go_sem, Rcb, Rbk, sevalprocAttr, hlv, ht, hkt, hno5, kw8, k2, slOne, hap2, hap3, hap5, hap6, hap8, ia1, ia2, ia3]
          refine ⟨Sub_pre (L1 := [(b8, _), (b6, _)]) ⟨hno5.1, hno5.2.1, trivial⟩, ?_⟩
          intro b9 hb9 hap9
          refine ⟨Sub_pre1 (L1 := [(b8, _), (b6, _)]) ⟨hno5.1, hno5.2.1, trivial⟩ (by simp [apart1, hap9]), ?_⟩
          have hll : ((s.items.take k).map bareIt).length = k := by rw [List.length_map, List.length_take]; omega
          have hxi : RIt M5 (bareIt s.items[k]) [.int .i64 (bareX s.items[k].x).k, .int .i64 (bareX s.items[k].x).v.k, .int .i64 (bareX s.items[k].x).v.n, st (bareX s.items[k].x).v.t, st (bareX s.items[k].x).tab, st (bareX s.items[k].x).name, s2, st s.items[k].as] := ⟨_, hx2, rfl⟩
          refine app_acc (z := _) Tryz.underlying88 row88 okt88 (Acc_mono (fun x cs h => RIt_ext hM5 _ _ h) hiacc) hxi (fun _ _ => RIt_len) (RIt_oneC hxi) hb9 (by rw [hll]; omega) (by decide) ?_
          intro fv' R' hacc'
          obtain ⟨ja1, ja2⟩ := Acc_one hacc'
          have ja3 := ja2
          simp only [Value.cells] at ja3
          have hwi := wrap_succ k (by omega)
          simp +contextual only [go_sem, Rcb, Rbk, sevalprocAttr, hlv, ht, hkt, hno5, kw8, k2, slOne, hap2, hap3, hap5, hap6, hap8, hb9, hap9, ja1, ja2, ja3]
          refine ⟨Sub_pre1 (L1 := [(b8, _), (b6, _)]) ⟨hno5.1, hno5.2.1, trivial⟩ (by simp [apart1, hap9]), ?_⟩
          have hacc2 : Acc 87 8 (RIt M5) R R' fv' ((s.items.take (k + 1)).map bareIt) := by rw [List.take_succ_eq_append_getElem hkt, List.map_append]; exact hacc'
          refine lp_close (Close_drop (Close_drop (Close_step hkt hacc2 (by rw [List.length_map, List.length_take]; omega) (by decide) ⟨hno5.2.1, hno5.2.2.1, hno5.2.2.2.1, hno5.2.2.2.2.1, hno5.2.2.2.2.2.1, trivial⟩ (fun _ _ _ _ he h => RIt_ext he _ _ h) fun M6 R6 hM6 hno6 haf => ?_)))
          refine Close_id ⟨s.items.length - (k + 1), by omega, rfl, k + 1, by omega, rfl, ?_, ?_, T8, M6, fv', R6, hN7.trans hT8, (hM4.trans hM5).trans hM6, ⟨hno6.2.2.2.2.1, hno6.2.2.2.1, hno6.2.2.1, hno6.2.1, hno6.1⟩, haf, ?_⟩
          · simp only [live, hlv, go_sem, Rcb, Rbk, sevalprocAttr]
          · simp only [ht, go_sem, Rcb, Rbk, sevalprocAttr, hwi]
          · rw [hst]
        · have : k = s.items.length := by omega
          subst this
          obtain ⟨rfl, hrs⟩ := AccF_end hiacc
          rw [List.take_length] at hrs
          simp +contextual only [go_sem, Rcb, Rbk, sevalprocAttr, hlv, ht, hkt]
          refine hS' _ _ _ ⟨rfl, ⟨(by simp only [hlv, go_sem, Rcb, Rbk, sevalprocAttr]), (by simp only [hlv, go_sem, Rcb, Rbk, sevalprocAttr]), (by simp only [hlv, go_sem, Rcb, Rbk, sevalprocAttr]), (by simp only [hlv, go_sem, Rcb, Rbk, sevalprocAttr]), (by simp only [hlv, go_sem, Rcb, Rbk, sevalprocAttr]), (by simp only [hlv, go_sem, Rcb, Rbk, sevalprocAttr]), (by simp only [hlv, go_sem, Rcb, Rbk, sevalprocAttr])⟩, N7, M4, iv, hN7, hM4, ⟨n1, n2, n3, n5, n6⟩, (by rw [hst]; exact hrs), (by rw [hst]; rfl)⟩
    clear e2 e3 e26 e27 e28 e5 e6 n1 n2 n3 n5 n6 e hM3
    rintro e ds h ⟨rfl, ⟨e2, e3, e26, e27, e28, e5, e6⟩, N7, M4, iv, hN7, hM4, ⟨n1, n2, n3, n5, n6⟩, hiv, rfl⟩
    have h04 := h03.trans hM4
    obtain ⟨iv1, iv2⟩ := RS_one hiv
    have iv3 := iv2
    simp only [Value.cells] at iv3
    obtain ⟨f0, fl, hsf, hf0, hfl3, hfl⟩ := hsr.src
    have hsl4 : s.src.length ≤ 4 := by rw [hsf]; simp; omega
    have xf' := xf
    obtain ⟨hil, _⟩ := RS_elim (by decide) (fun _ _ => RSo_len) xf'
    simp +contextual only [go_sem, Rcb, Rbk, sevalprocAttr, e5, e6, n1, n2, n3, n5, n6, hap2, hap3, hap5, hap6, slOne, iv1]
    refine loop_range s.src.length 69 ([(2, .pointer (some ⟨b2, 0, none⟩)), (3, .pointer (some ⟨b3, 0, none⟩)), (26, .slice (some ⟨b, o, none⟩) q.parts.length pc), (27, .int .i64 q.parts.length), (28, .int .i64 (i : Nat)), (5, .pointer (some ⟨b5, 0, none⟩)), (6, .pointer (some ⟨b6, 0, none⟩)), (67, .slice af s.src.length ag), (68, .int .i64 s.src.length)])
          (fun k e h => ∃ N' M' fv RI, ExtT N7 N' ∧ Ext M4 M' ∧ (M' b1 = none ∧ M' b2 = none ∧ M' b3 = none ∧ M' b5 = none ∧ M' b6 = none) ∧ AccF 129 10 RSo R s.src.length k M' RI fv (bareSos 0 (s.src.take k)) ∧ h = ⟨N', M', [(b6, [.bool s.distinct, .bool s.star, iv, fv, .bool s.hasW, .bool s.hasH, .int .i64 0, .int .i64 0, .int .i64 0, st [], st [], st [], .slice none 0 0, .int .i64 0, .int .i64 0, .int .i64 0, st [], st [], st [], .slice none 0 0, gv]), (b5, [.bool s.distinct, .bool s.star, .slice ai s.items.length aj, .slice af s.src.length ag, .bool s.hasW, .bool s.hasH, .int .i64 s.wh.k, .int .i64 s.wh.v.k, .int .i64 s.wh.v.n, st s.wh.v.t, st s.wh.tab, st s.wh.name, aw, .int .i64 s.hv.k, .int .i64 s.hv.v.k, .int .i64 s.hv.v.n, st s.hv.v.t, st s.hv.tab, st s.hv.name, ah, .slice ap s.group.length aq]), (b3, [pv, .slice oa q.ops.length oc, dv, .int .i64 lm]), (b2, [.slice none 0 0, .slice none 0 0, .slice none 0 0, .int .i64 0]), (b1, [.slice (some ⟨b, o, none⟩) q.parts.length pc, .slice oa q.ops.length oc, .slice ra q.order.length rc, .int .i64 q.limit])], RI⟩)
          0 (by omega) (by simp only [live, e2, e3, e26, e27, e28, e5, e6, go_sem, Rcb, Rbk, sevalprocAttr]) (by simp only [go_sem, Rcb, Rbk, sevalprocAttr]) ⟨N7, M4, _, R, ExtT.rfl', Ext.rfl', ⟨n1, n2, n3, n5, n6⟩, AccF_zero, rfl⟩ ?_
    clear e2 e3 e26 e27 e28 e5 e6 n1 n2 n3 n5 n6
    rintro k e h hk hlv ht ⟨N8, M5, fv, RI, hN8, hM5, ⟨n1, n2, n3, n5, n6⟩, hiacc, rfl⟩
    simp only [live] at hlv
    have h35 := hM4.trans hM5
    by_cases hkt : k < s.src.length
    · replace hiacc := AccF_acc hiacc hkt
      obtain ⟨bi, oi, ci, hie, hati, hri⟩ := RS_get (by decide) (fun _ _ => RSo_len) xf (List.getElem?_eq_getElem hkt)
      subst hie
      obtain ⟨iw, rfl, hrx, kw8⟩ := RSo_formC hri
      obtain ⟨z0, z1, z2, z3, z4, z5, z6, z7, z8, z9⟩ := At10 (hati.ext (hX3.trans h35))
      obtain ⟨ia1, ia2⟩ := Acc_one hiacc
      have ia3 := ia2
      simp only [Value.cells] at ia3
      by_cases hk0 : k = 0
      · have hkz : ¬ ((0 : Int) < (k : Int)) := by omega
        simp +contextual only [go_sem, Rcb, Rbk, sevalprocAttr, hlv, ht, hkt, hkz, z0, z1, z2, z3, z4, z5, z6, z7, z8, z9, kw8, slOne, n1, n2, n3, n5, n6, hap2, hap3, hap5, hap6]
        intro ba Ta hba hapa hTa hTba bb Tb hbb hapb hTb hTbb
        intro bc hbc hapc
        have hll : (bareSos 0 (s.src.take k)).length = k := by rw [bareSos_len, List.length_take]; omega
        have hxs : RSo M5 (bareSo (decide (k = 0)) s.src[k]) [.int .i64 s.src[k].k, st s.src[k].name, st s.src[k].as, .int .i64 0, .int .i64 0, .int .i64 0, st [], st [], st [], .slice none 0 0] := by
          rw [decide_eq_true hk0]
          exact ⟨_, RX_zero, rfl⟩
        refine app_acc (z := _) Tryz.underlying89 row89 okt89 hiacc hxs (fun _ _ => RSo_len) (RSo_oneC hxs) hbc (by rw [hll]; omega) (by decide) ?_
        intro fv' R' hacc'
        obtain ⟨ja1, ja2⟩ := Acc_one hacc'
        have ja3 := ja2
        simp only [Value.cells] at ja3
        have hwi := wrap_succ k (by omega)
        have hacc2 : Acc 129 10 (RSo M5) R R' fv' (bareSos 0 (s.src.take (k + 1))) := by rw [bareSos_take hkt]; exact hacc'
        simp +contextual only [go_sem, Rcb, Rbk, sevalprocAttr, hlv, ht, hkt, n1, n2, n3, n5, n6, hba, hbb, hapa, hapb, hap2, hap3, hap5, hap6, hbc, hapc, slOne, ja1, ja2, ja3]
        refine lp_close (Close_drop (Close_drop (Close_drop (Close_step hkt hacc2 (by rw [bareSos_len, List.length_take]; omega) (by decide) ⟨n6, n5, n3, n2, n1, trivial⟩ (fun _ _ _ _ he h => RSo_ext he _ _ h) fun M7 R7 hM7 hno7 haf => ?_))))
        refine Close_id ⟨s.src.length - (k + 1), by omega, rfl, k + 1, by omega, rfl, ?_, ?_, Tb, M7, fv', R7, (hN8.trans hTa).trans hTb, hM5.trans hM7, ⟨hno7.2.2.2.2.1, hno7.2.2.2.1, hno7.2.2.1, hno7.2.1, hno7.1⟩, haf, rfl⟩
        · simp only [live, hlv, go_sem, Rcb, Rbk, sevalprocAttr]
        · simp only [ht, go_sem, Rcb, Rbk, sevalprocAttr, hwi]
      · have hkz : (0 : Int) < (k : Int) := by omega
        simp +contextual only [go_sem, Rcb, Rbk, sevalprocAttr, hlv, ht, hkt, hkz, z0, z1, z2, z3, z4, z5, z6, z7, z8, z9, kw8, slOne, n1, n2, n3, n5, n6, hap2, hap3, hap5, hap6]
        intro ba Ta hba hapa hTa hTba bb Tb hbb hapb hTb hTbb
        have hmem : s.src[k] ∈ fl := by
          have h1 : s.src[k]? = some s.src[k] := List.getElem?_eq_getElem hkt
          obtain ⟨j, rfl⟩ : ∃ j, k = j + 1 := ⟨k - 1, by omega⟩
          have h2 : s.src[j + 1]? = fl[j]? := by rw [hsf]; rfl
          rw [h2] at h1
          exact List.mem_of_getElem? h1
        refine rCall_pure (bareXok (Yw_ok ((hfl _ hmem).k2 rfl).2.2) M5 Tb _ (RX_ext (hX3.trans h35) _ _ hrx)) ?_ (fun _ _ _ _ h => h.elim)
        rintro r M6 hM6 hno6 ⟨cs2, rfl, hx2⟩
        simp only [List.cons_append, List.nil_append, noneL, noneL_pL] at hno6
        obtain ⟨s2, rfl, k2, hs2⟩ := RX_form hx2
        simp +contextual only [go_sem, Rcb, Rbk, sevalprocAttr, hlv, ht, hkt, hkz, hno6, kw8, k2, slOne, hapa, hapb, hap2, hap3, hap5, hap6, ia1, ia2, ia3]
        intro bc hbc hapc
        have hll : (bareSos 0 (s.src.take k)).length = k := by rw [bareSos_len, List.length_take]; omega
        have hxs : RSo M6 (bareSo (decide (k = 0)) s.src[k]) [.int .i64 s.src[k].k, st s.src[k].name, st s.src[k].as, .int .i64 (bareX s.src[k].on).k, .int .i64 (bareX s.src[k].on).v.k, .int .i64 (bareX s.src[k].on).v.n, st (bareX s.src[k].on).v.t, st (bareX s.src[k].on).tab, st (bareX s.src[k].on).name, s2] := by
          rw [decide_eq_false hk0]
          exact ⟨_, hx2, rfl⟩
        refine app_acc (z := _) Tryz.underlying89 row89 okt89 (Acc_mono (fun x cs h => RSo_ext hM6 _ _ h) hiacc) hxs (fun _ _ => RSo_len) (RSo_oneC hxs) hbc (by rw [hll]; omega) (by decide) ?_
        intro fv' R' hacc'
        obtain ⟨ja1, ja2⟩ := Acc_one hacc'
        have ja3 := ja2
        simp only [Value.cells] at ja3
        have hwi := wrap_succ k (by omega)
        have hacc2 : Acc 129 10 (RSo M6) R R' fv' (bareSos 0 (s.src.take (k + 1))) := by rw [bareSos_take hkt]; exact hacc'
        simp +contextual only [go_sem, Rcb, Rbk, sevalprocAttr, hlv, ht, hkt, hno6, hapa, hapb, hap2, hap3, hap5, hap6, hbc, hapc, slOne, ja1, ja2, ja3]
        refine lp_close (Close_drop (Close_drop (Close_drop (Close_step hkt hacc2 (by rw [bareSos_len, List.length_take]; omega) (by decide) ⟨hno6.2.2.1, hno6.2.2.2.1, hno6.2.2.2.2.1, hno6.2.2.2.2.2.1, hno6.2.2.2.2.2.2.1, trivial⟩ (fun _ _ _ _ he h => RSo_ext he _ _ h) fun M7 R7 hM7 hno7 haf => ?_))))
        refine Close_id ⟨s.src.length - (k + 1), by omega, rfl, k + 1, by omega, rfl, ?_, ?_, Tb, M7, fv', R7, (hN8.trans hTa).trans hTb, (hM5.trans hM6).trans hM7, ⟨hno7.2.2.2.2.1, hno7.2.2.2.1, hno7.2.2.1, hno7.2.1, hno7.1⟩, haf, rfl⟩
        · simp only [live, hlv, go_sem, Rcb, Rbk, sevalprocAttr]
        · simp only [ht, go_sem, Rcb, Rbk, sevalprocAttr, hwi]
    · have : k = s.src.length := by omega
      subst this
      obtain ⟨rfl, hrs⟩ := AccF_end hiacc
      rw [List.take_length] at hrs
      simp +contextual only [go_sem, sevalprocAttr, hlv, ht, hkt]
      simp only [rCond_bool, Bool.false_eq_true, if_false]
      obtain ⟨e2, e3, e26, e27, e28, e5, e6, -⟩ := hlv
      obtain ⟨fv1, fv2⟩ := RS_one hrs
      have fv3 := fv2
      simp only [Value.cells] at fv3
      simp +contextual only [go_sem, sevalprocAttr, e2, e3, e5, e6, n1, n2, n3, n5, n6, hap2, hap3, hap5, hap6, slOne]
      refine cond_cut (fun e ds h => ds = [] ∧ (e 2 = .pointer (some ⟨b2, 0, none⟩) ∧ e 3 = .pointer (some ⟨b3, 0, none⟩) ∧ e 26 = .slice (some ⟨b, o, none⟩) q.parts.length pc ∧ e 27 = .int .i64 q.parts.length ∧ e 28 = .int .i64 (i : Nat) ∧ e 5 = .pointer (some ⟨b5, 0, none⟩) ∧ e 6 = .pointer (some ⟨b6, 0, none⟩)) ∧ ∃ N' M' wx wl, ExtT N8 N' ∧ Ext M5 M' ∧ (M' b1 = none ∧ M' b2 = none ∧ M' b3 = none ∧ M' b5 = none ∧ M' b6 = none) ∧ wx = (if s.hasW = true then bareX s.wh else zeroX) ∧ wl.oneCell' = true ∧ RX M' wx [.int .i64 wx.k, .int .i64 wx.v.k, .int .i64 wx.v.n, st wx.v.t, st wx.tab, st wx.name, wl] ∧
        h = ⟨N', M', [(b6, [.bool s.distinct, .bool s.star, iv, fv, .bool s.hasW, .bool s.hasH, .int .i64 wx.k, .int .i64 wx.v.k, .int .i64 wx.v.n, st wx.v.t, st wx.tab, st wx.name, wl, .int .i64 0, .int .i64 0, .int .i64 0, st [], st [], st [], .slice none 0 0, gv]), (b5, [.bool s.distinct, .bool s.star, .slice ai s.items.length aj, .slice af s.src.length ag, .bool s.hasW, .bool s.hasH, .int .i64 s.wh.k, .int .i64 s.wh.v.k, .int .i64 s.wh.v.n, st s.wh.v.t, st s.wh.tab, st s.wh.name, aw, .int .i64 s.hv.k, .int .i64 s.hv.v.k, .int .i64 s.hv.v.n, st s.hv.v.t, st s.hv.tab, st s.hv.name, ah, .slice ap s.group.length aq]), (b3, [pv, .slice oa q.ops.length oc, dv, .int .i64 lm]), (b2, [.slice none 0 0, .slice none 0 0, .slice none 0 0, .int .i64 0]), (b1, [.slice (some ⟨b, o, none⟩) q.parts.length pc, .slice oa q.ops.length oc, .slice ra q.order.length rc, .int .i64 q.limit])], RI⟩) (fun S' hS' => ?_) ?_
      · cases hW : s.hasW with
        | false =>
          simp +contextual only [go_sem, Rcb, Rbk, sevalprocAttr, hW]
          refine hS' _ _ _ ⟨rfl, ⟨(by simp only [e2, e3, e26, e27, e28, e5, e6, go_sem, Rcb, Rbk, sevalprocAttr]), (by simp only [e2, e3, e26, e27, e28, e5, e6, go_sem, Rcb, Rbk, sevalprocAttr]), (by simp only [e2, e3, e26, e27, e28, e5, e6, go_sem, Rcb, Rbk, sevalprocAttr]), (by simp only [e2, e3, e26, e27, e28, e5, e6, go_sem, Rcb, Rbk, sevalprocAttr]), (by simp only [e2, e3, e26, e27, e28, e5, e6, go_sem, Rcb, Rbk, sevalprocAttr]), (by simp only [e2, e3, e26, e27, e28, e5, e6, go_sem, Rcb, Rbk, sevalprocAttr]), (by simp only [e2, e3, e26, e27, e28, e5, e6, go_sem, Rcb, Rbk, sevalprocAttr])⟩, N8, M5, zeroX, .slice none 0 0, ExtT.rfl', Ext.rfl', ⟨n1, n2, n3, n5, n6⟩, (by rw [hW]; rfl), rfl, RX_zero, (by rw [hW]; rfl)⟩
        | true =>
          simp +contextual only [go_sem, Rcb, Rbk, sevalprocAttr, hW, e2, e3, e5, e6, n1, n2, n3, n5, n6, hap2, hap3, hap5, hap6, slOne, kw]
          refine rCall_pure (bareXok (Yw_ok (hsr.wh hW)) M5 N8 _ (RX_ext (hX3.trans h35) _ _ xw)) ?_ (fun _ _ _ _ h => h.elim)
          rintro r M6 hM6 hno6 ⟨cs2, rfl, hx2⟩
          simp only [List.cons_append, List.nil_append, noneL, noneL_pL] at hno6
          obtain ⟨s2, rfl, k2, hs2⟩ := RX_form hx2
          simp +contextual only [go_sem, Rcb, Rbk, sevalprocAttr, hW, e2, e3, e5, e6, hno6, k2, slOne, hap2, hap3, hap5, hap6]
          refine hS' _ _ _ ⟨rfl, ⟨(by simp only [e2, e3, e26, e27, e28, e5, e6, go_sem, Rcb, Rbk, sevalprocAttr]), (by simp only [e2, e3, e26, e27, e28, e5, e6, go_sem, Rcb, Rbk, sevalprocAttr]), (by simp only [e2, e3, e26, e27, e28, e5, e6, go_sem, Rcb, Rbk, sevalprocAttr]), (by simp only [e2, e3, e26, e27, e28, e5, e6, go_sem, Rcb, Rbk, sevalprocAttr]), (by simp only [e2, e3, e26, e27, e28, e5, e6, go_sem, Rcb, Rbk, sevalprocAttr]), (by simp only [e2, e3, e26, e27, e28, e5, e6, go_sem, Rcb, Rbk, sevalprocAttr]), (by simp only [e2, e3, e26, e27, e28, e5, e6, go_sem, Rcb, Rbk, sevalprocAttr])⟩, N8, M6, bareX s.wh, s2, ExtT.rfl', hM6, ⟨hno6.2.2.2.2.1, hno6.2.2.2.1, hno6.2.2.1, hno6.2.1, hno6.1⟩, (by rw [hW]; rfl), k2, hx2, (by rw [hW]; rfl)⟩
      clear e2 e3 e26 e27 e28 e5 e6 n1 n2 n3 n5 n6
      rintro e ds h ⟨rfl, ⟨e2, e3, e26, e27, e28, e5, e6⟩, N9, M6, wx, wl, hN9, hM6, ⟨n1, n2, n3, n5, n6⟩, hwx, hwl, hwr, rfl⟩
      simp +contextual only [go_sem, sevalprocAttr, e2, e3, e5, e6, n1, n2, n3, n5, n6, hap2, hap3, hap5, hap6, slOne]
      refine cond_cut (fun e ds h => ds = [] ∧ (e 2 = .pointer (some ⟨b2, 0, none⟩) ∧ e 3 = .pointer (some ⟨b3, 0, none⟩) ∧ e 26 = .slice (some ⟨b, o, none⟩) q.parts.length pc ∧ e 27 = .int .i64 q.parts.length ∧ e 28 = .int .i64 (i : Nat) ∧ e 5 = .pointer (some ⟨b5, 0, none⟩) ∧ e 6 = .pointer (some ⟨b6, 0, none⟩)) ∧ ∃ N' M' hy hl, ExtT N9 N' ∧ Ext M6 M' ∧ (M' b1 = none ∧ M' b2 = none ∧ M' b3 = none ∧ M' b5 = none ∧ M' b6 = none) ∧ hy = (if s.hasH = true then bareX s.hv else zeroX) ∧ hl.oneCell' = true ∧ RX M' hy [.int .i64 hy.k, .int .i64 hy.v.k, .int .i64 hy.v.n, st hy.v.t, st hy.tab, st hy.name, hl] ∧
        h = ⟨N', M', [(b6, [.bool s.distinct, .bool s.star, iv, fv, .bool s.hasW, .bool s.hasH, .int .i64 wx.k, .int .i64 wx.v.k, .int .i64 wx.v.n, st wx.v.t, st wx.tab, st wx.name, wl, .int .i64 hy.k, .int .i64 hy.v.k, .int .i64 hy.v.n, st hy.v.t, st hy.tab, st hy.name, hl, gv]), (b5, [.bool s.distinct, .bool s.star, .slice ai s.items.length aj, .slice af s.src.length ag, .bool s.hasW, .bool s.hasH, .int .i64 s.wh.k, .int .i64 s.wh.v.k, .int .i64 s.wh.v.n, st s.wh.v.t, st s.wh.tab, st s.wh.name, aw, .int .i64 s.hv.k, .int .i64 s.hv.v.k, .int .i64 s.hv.v.n, st s.hv.v.t, st s.hv.tab, st s.hv.name, ah, .slice ap s.group.length aq]), (b3, [pv, .slice oa q.ops.length oc, dv, .int .i64 lm]), (b2, [.slice none 0 0, .slice none 0 0, .slice none 0 0, .int .i64 0]), (b1, [.slice (some ⟨b, o, none⟩) q.parts.length pc, .slice oa q.ops.length oc, .slice ra q.order.length rc, .int .i64 q.limit])], RI⟩) (fun S' hS' => ?_) ?_
      · cases hW : s.hasH with
        | false =>
          simp +contextual only [go_sem, Rcb, Rbk, sevalprocAttr, hW]
          refine hS' _ _ _ ⟨rfl, ⟨(by simp only [e2, e3, e26, e27, e28, e5, e6, go_sem, Rcb, Rbk, sevalprocAttr]), (by simp only [e2, e3, e26, e27, e28, e5, e6, go_sem, Rcb, Rbk, sevalprocAttr]), (by simp only [e2, e3, e26, e27, e28, e5, e6, go_sem, Rcb, Rbk, sevalprocAttr]), (by simp only [e2, e3, e26, e27, e28, e5, e6, go_sem, Rcb, Rbk, sevalprocAttr]), (by simp only [e2, e3, e26, e27, e28, e5, e6, go_sem, Rcb, Rbk, sevalprocAttr]), (by simp only [e2, e3, e26, e27, e28, e5, e6, go_sem, Rcb, Rbk, sevalprocAttr]), (by simp only [e2, e3, e26, e27, e28, e5, e6, go_sem, Rcb, Rbk, sevalprocAttr])⟩, N9, M6, zeroX, .slice none 0 0, ExtT.rfl', Ext.rfl', ⟨n1, n2, n3, n5, n6⟩, (by rw [hW]; rfl), rfl, RX_zero, (by rw [hW]; rfl)⟩
        | true =>
          simp +contextual only [go_sem, Rcb, Rbk, sevalprocAttr, hW, e2, e3, e5, e6, n1, n2, n3, n5, n6, hap2, hap3, hap5, hap6, slOne, kh]
          refine rCall_pure (bareXok (Yw_ok (hsr.hv hW)) M6 N9 _ (RX_ext ((hX3.trans h35).trans hM6) _ _ xh)) ?_ (fun _ _ _ _ h => h.elim)
          rintro r M7 hM7 hno7 ⟨cs2, rfl, hx2⟩
          simp only [List.cons_append, List.nil_append, noneL, noneL_pL] at hno7
          obtain ⟨s2, rfl, k2, hs2⟩ := RX_form hx2
          simp +contextual only [go_sem, Rcb, Rbk, sevalprocAttr, hW, e2, e3, e5, e6, hno7, k2, slOne, hap2, hap3, hap5, hap6]
          refine hS' _ _ _ ⟨rfl, ⟨(by simp only [e2, e3, e26, e27, e28, e5, e6, go_sem, Rcb, Rbk, sevalprocAttr]), (by simp only [e2, e3, e26, e27, e28, e5, e6, go_sem, Rcb, Rbk, sevalprocAttr]), (by simp only [e2, e3, e26, e27, e28, e5, e6, go_sem, Rcb, Rbk, sevalprocAttr]), (by simp only [e2, e3, e26, e27, e28, e5, e6, go_sem, Rcb, Rbk, sevalprocAttr]), (by simp only [e2, e3, e26, e27, e28, e5, e6, go_sem, Rcb, Rbk, sevalprocAttr]), (by simp only [e2, e3, e26, e27, e28, e5, e6, go_sem, Rcb, Rbk, sevalprocAttr]), (by simp only [e2, e3, e26, e27, e28, e5, e6, go_sem, Rcb, Rbk, sevalprocAttr])⟩, N9, M7, bareX s.hv, s2, ExtT.rfl', hM7, ⟨hno7.2.2.2.2.1, hno7.2.2.2.1, hno7.2.2.1, hno7.2.1, hno7.1⟩, (by rw [hW]; rfl), k2, hx2, (by rw [hW]; rfl)⟩
      clear e2 e3 e26 e27 e28 e5 e6 n1 n2 n3 n5 n6
      rintro e ds h ⟨rfl, ⟨e2, e3, e26, e27, e28, e5, e6⟩, Na, M7, hy, hl, hNa, hM7, ⟨n1, n2, n3, n5, n6⟩, hhy, hhl, hhr, rfl⟩
      obtain ⟨gv1, gv2⟩ := RS_one hgv
      have gv3 := gv2
      simp only [Value.cells] at gv3
      simp +contextual only [go_sem, Rcb, Rbk, sevalprocAttr, e2, e3, e26, e27, e28, e5, e6, n1, n2, n3, n5, n6, hap2, hap3, hap5, hap6, slOne, iv1, iv2, iv3, fv1, fv2, fv3, hwl, hhl, gv1, gv2, gv3]
      intro bc hbc hapc
      have hll : ((q.parts.take i).map bareSe).length = i := by rw [List.length_map, List.length_take]; omega
      have h57 := hM6.trans hM7
      have h47 := hM5.trans h57
      have h37 := hM4.trans h47
      have h27 := hX3.trans h37
      have hxs : RSe M7 (bareSe s) [.bool s.distinct, .bool s.star, iv, fv, .bool s.hasW, .bool s.hasH, .int .i64 wx.k, .int .i64 wx.v.k, .int .i64 wx.v.n, st wx.v.t, st wx.tab, st wx.name, wl, .int .i64 hy.k, .int .i64 hy.v.k, .int .i64 hy.v.n, st hy.v.t, st hy.tab, st hy.name, hl, gv] := by
        refine ⟨iv, fv, [.int .i64 wx.k, .int .i64 wx.v.k, .int .i64 wx.v.n, st wx.v.t, st wx.tab, st wx.name, wl], [.int .i64 hy.k, .int .i64 hy.v.k, .int .i64 hy.v.n, st hy.v.t, st hy.tab, st hy.name, hl], gv, RS_ext h47 (RIt_ext h47) hiv, ?_, ?_, ?_, RS_ext h37 (RX_ext h37) hgv, rfl⟩
        · have := RS_ext h57 (RSo_ext h57) hrs
          rw [bareSos_all] at this
          exact this
        · have := RX_ext hM7 _ _ hwr
          rw [hwx] at this ⊢
          exact this
        · rw [hhy] at hhr ⊢
          exact hhr
      have hone : ∀ u ∈ [.bool s.distinct, .bool s.star, iv, fv, .bool s.hasW, .bool s.hasH, .int .i64 wx.k, .int .i64 wx.v.k, .int .i64 wx.v.n, st wx.v.t, st wx.tab, st wx.name, wl, .int .i64 hy.k, .int .i64 hy.v.k, .int .i64 hy.v.n, st hy.v.t, st hy.tab, st hy.name, hl, gv], u.oneCell' = true := by
        intro u hu
        simp only [List.mem_cons, List.not_mem_nil, or_false] at hu
        rcases hu with rfl | rfl | rfl | rfl | rfl | rfl | rfl | rfl | rfl | rfl | rfl | rfl | rfl | rfl | rfl | rfl | rfl | rfl | rfl | rfl | rfl <;> first | rfl | assumption
      refine app_acc (z := _) Tryz.underlying56 row56 okt56 (Acc_mono (fun x cs h => RSe_ext h27 _ _ h) hacc) hxs (fun _ _ => RSe_len) hone hbc (by rw [hll]; omega) (by decide) ?_
      intro fv' R' hacc'
      obtain ⟨ja1, ja2⟩ := Acc_one hacc'
      have ja3 := ja2
      simp only [Value.cells] at ja3
      have hwi := wrap_succ i (by omega)
      have hacc2 : Acc 91 21 (RSe M7) [] R' fv' ((q.parts.take (i + 1)).map bareSe) := by
        rw [List.take_succ_eq_append_getElem hlt, List.map_append]
        have : q.parts[i] = s := by rw [List.getElem?_eq_getElem hlt] at hs; injection hs
        rw [this]; exact hacc'
      simp +contextual only [go_sem, Rcb, Rbk, sevalprocAttr, e2, e3, e26, e27, e28, e5, e6, n1, n2, n3, n5, n6, hap2, hap3, hap5, hap6, hbc, hapc, slOne, ja1, ja2, ja3]
      refine lp_close (Close_drop (Close_drop (Close_drop (Close_step hlt hacc2 (by rw [List.length_map, List.length_take]; omega) (by decide) ⟨n3, n2, n1, trivial⟩ (fun _ _ _ _ he h => RSe_ext he _ _ h) fun M8 R8 hM8 hno8 haf => ?_))))
      refine Close_id ⟨q.parts.length - (i + 1), by omega, rfl, i + 1, by omega, rfl, ?_, ?_, Na, M8, fv', R8, ?_, (hM2.trans h27).trans hM8, hno8.2.2.1, hno8.2.1, hno8.1, haf, rfl⟩
      · simp only [live, e2, e3, e26, e27, e28, go_sem, Rcb, Rbk, sevalprocAttr]
      · simp only [e28, go_sem, Rcb, Rbk, sevalprocAttr, hwi]
      · exact ((((((hN.trans hT5).trans hN6).trans hN7).trans hN8).trans hN9).trans hNa)
  · have : i = q.parts.length := by omega
    subst this
    obtain ⟨rfl, hps⟩ := AccF_end hacc
    obtain ⟨q1, q2⟩ := RS_one hps
    simp +contextual only [go_sem, Rcb, Rbk, sevalprocAttr, hlv, ht, hlt, n1, n2, n3, hap2, hap3, slOne, q1, hd1]
    rw [List.take_length] at hps
    refine end_none (((hT1.trans hT2).trans hT3).trans hN) ⟨_, rfl, pv, .slice oa q.ops.length oc, dv, hps, RS_ext h02 (fun _ _ h => h) ho, ?_, ?_⟩
    · exact RS_ext hM2 (RX_ext hM2) hdv
    · subst hlm; rfl
end Go.Proofs.YtoainkbcfnlkcaaGreatDoor

namespace Go.Proofs.YtoainkbcfnlkcaaGreatDoor
open Go Vc
set_option linter.unusedSimpArgs false
set_option linter.unusedVariables false
set_option maxRecDepth 10000

theorem ct_barees {l : List Stm} (hl : ∀ s ∈ l, StR Yw s) (hlen : l.length ≤ 100000) {M : Mem} {v : Value} (h : RS M (RStm M) 16 l v) (T : Tm) : CtT Tryz.prog 18 [v] T M [] [] (fun r M' _ _ => RS M' (RStm M') 16 (l.map bareS) r) noPan := by
  have h' := h
  obtain ⟨hkl, ka, kc, rfl, hkc, hkn, hget⟩ := RS_elim (by decide) (fun _ _ => RStm_len) h'
  refine ct_run mx bod18 Tryz.func18 rfl (by rw [nt18]; exact Nat.le_of_ble_eq_true rfl) (dr := dr18) (by kernel_rfl) rs18 ?_
  intro hno _
  simp +contextual only [go_sem, Rcb, Rbk, sevalprocAttr]
  refine loop_range l.length 14 [(12, .slice ka l.length kc), (13, .int .i64 l.length)]
      (fun i e h => ∃ N M' fv R, e 3 = fv ∧ ExtT T N ∧ Ext M M' ∧ AccF 67 16 RStm [] l.length i M' R fv ((l.take i).map bareS) ∧ h = ⟨N, M', [], R⟩)
      0 (by omega) (by simp only [live, go_sem, Rcb, Rbk, sevalprocAttr]) (by simp only [go_sem, Rcb, Rbk, sevalprocAttr]) ⟨T, M, _, [], by simp only [go_sem, Rcb, Rbk, sevalprocAttr], ExtT.rfl', Ext.rfl', AccF_zero, rfl⟩ ?_
  rintro i e h hi hlv ht ⟨N, M2, fv, R, e3, hN, hM2, hacc, rfl⟩
  simp only [live] at hlv
  by_cases hlt : i < l.length
  · obtain ⟨s, hs⟩ : ∃ s, l[i]? = some s := ⟨_, List.getElem?_eq_getElem hlt⟩
    have hsr : StR Yw s := hl s (List.mem_of_getElem? hs)
    have hsk := hsr.k
    replace hacc := AccF_acc hacc hlt
    obtain ⟨b, o, cs, rfl, hat, hse⟩ := hget i s hs
    obtain ⟨ac, ad, ap, aq, ao, an, ar, ae, au, av, aw, rfl, xc, xq, xr, xw, kw⟩ := RStm_form (RStm_ext hM2 _ _ hse)
    obtain ⟨y0, y1, y2, y3, y4, y5, y6, y7, y8, y9, y10, y11, y12, y13, y14, y15⟩ := At16 (hat.ext hM2)
    have hx2 : RX M2 zeroX [.int .i64 0, .int .i64 0, .int .i64 0, st [], st [], st [], .slice none 0 0] := RX_zero
    simp +contextual only [go_sem, sevalprocAttr, hlv, ht, hlt, e3]
    simp only [rCond_bool, if_true]
    simp +contextual only [go_sem, sevalprocAttr, hlv, ht, hlt, e3]
    simp only [Run_block]
    simp +contextual only [go_sem, sevalprocAttr, hlv, ht, hlt, e3, y0, y1, y2, y3, y4, y5, y6, y7, y8, y9, y10, y11, y12, y13, y14, y15, kw, slOne]
    intro b5 T5 hb5 hT5 hTb5 b6 T6 hb6 hap6 hT6 hTb6
    refine cond_cut (fun e ds h => ds = [] ∧ (e 12 = .slice (some ⟨b, o, none⟩) l.length kc ∧ e 13 = .int .i64 l.length ∧ e 14 = .int .i64 (i : Nat) ∧ e 3 = fv ∧ e 5 = .pointer (some ⟨b5, 0, none⟩) ∧ e 6 = .pointer (some ⟨b6, 0, none⟩)) ∧ ∃ nm, nm = (if s.k = 5 then [] else s.name) ∧ h = ⟨T6, M2, [(b6, [.int .i64 s.k, st nm, .slice none 0 0, .slice none 0 0, .slice none 0 0, .slice none 0 0, .int .i64 0, .slice none 0 0, .bool false, .int .i64 0, .int .i64 0, .int .i64 0, st [], st [], st [], .slice none 0 0]), (b5, [.int .i64 s.k, st s.name, .slice ac s.cols.length ad, .slice ap s.q.parts.length aq, .slice ao s.q.ops.length an, .slice ar s.q.order.length ae, .int .i64 s.q.limit, .slice au s.rows.length av, .bool s.hasW, .int .i64 s.wh.k, .int .i64 s.wh.v.k, .int .i64 s.wh.v.n, st s.wh.v.t, st s.wh.tab, st s.wh.name, aw])], R⟩) (fun S' hS' => ?_) ?_
    · by_cases h5 : s.k = 5
      · simp +contextual only [go_sem, Rcb, Rbk, sevalprocAttr, h5]
        refine hS' _ _ _ ⟨rfl, ⟨(by simp only [hlv, ht, e3, go_sem, Rcb, Rbk, sevalprocAttr]), (by simp only [hlv, ht, e3, go_sem, Rcb, Rbk, sevalprocAttr]), (by simp only [hlv, ht, e3, go_sem, Rcb, Rbk, sevalprocAttr]), (by simp only [hlv, ht, e3, go_sem, Rcb, Rbk, sevalprocAttr]), (by simp only [hlv, ht, e3, go_sem, Rcb, Rbk, sevalprocAttr]), (by simp only [hlv, ht, e3, go_sem, Rcb, Rbk, sevalprocAttr])⟩, [], (by rw [if_pos h5]), (by rw [h5]; rfl)⟩
      · simp +contextual only [go_sem, Rcb, Rbk, sevalprocAttr, h5, hb5, hb6, hap6]
        refine hS' _ _ _ ⟨rfl, ⟨(by simp only [hlv, ht, e3, go_sem, Rcb, Rbk, sevalprocAttr]), (by simp only [hlv, ht, e3, go_sem, Rcb, Rbk, sevalprocAttr]), (by simp only [hlv, ht, e3, go_sem, Rcb, Rbk, sevalprocAttr]), (by simp only [hlv, ht, e3, go_sem, Rcb, Rbk, sevalprocAttr]), (by simp only [hlv, ht, e3, go_sem, Rcb, Rbk, sevalprocAttr]), (by simp only [hlv, ht, e3, go_sem, Rcb, Rbk, sevalprocAttr])⟩, s.name, (by rw [if_neg h5]), rfl⟩
    clear hlv ht e3
    rintro e ds h ⟨rfl, ⟨e12, e13, e14, e3, e5, e6⟩, nm, hnm, rfl⟩
    have n5 := hb5
    have n6 := hb6
    simp +contextual only [go_sem, sevalprocAttr, e12, e13, e14, e3, e5, e6, n5, n6, hap6, slOne]
    refine run_cut (fun e ds h => ds = [] ∧ (e 12 = .slice (some ⟨b, o, none⟩) l.length kc ∧ e 13 = .int .i64 l.length ∧ e 14 = .int .i64 (i : Nat) ∧ e 3 = fv ∧ e 5 = .pointer (some ⟨b5, 0, none⟩) ∧ e 6 = .pointer (some ⟨b6, 0, none⟩)) ∧ ∃ N' M' c6, ExtT T6 N' ∧ Ext M2 M' ∧ M' b5 = none ∧ M' b6 = none ∧ RStm M' (bareS s) c6 ∧ h = ⟨N', M', [(b6, c6), (b5, [.int .i64 s.k, st s.name, .slice ac s.cols.length ad, .slice ap s.q.parts.length aq, .slice ao s.q.ops.length an, .slice ar s.q.order.length ae, .int .i64 s.q.limit, .slice au s.rows.length av, .bool s.hasW, .int .i64 s.wh.k, .int .i64 s.wh.v.k, .int .i64 s.wh.v.n, st s.wh.v.t, st s.wh.tab, st s.wh.name, aw])], R⟩) (fun S' hS' => ?_) ?_
    · have hkk : s.k = 1 ∨ s.k = 2 ∨ s.k = 3 ∨ s.k = 4 ∨ s.k = 5 := by omega
      rcases hkk with hk | hk | hk | hk | hk
      · simp +contextual only [go_sem, Rcb, Rbk, sevalprocAttr, hk, e12, e13, e14, e3, e5, e6, n5, n6, hap6, slOne]
        have hr : RStm M2 (bareS s) [.int .i64 1, st nm, .slice ac s.cols.length ad, .slice none 0 0, .slice none 0 0, .slice none 0 0, .int .i64 0, .slice none 0 0, .bool false, .int .i64 0, .int .i64 0, .int .i64 0, st [], st [], st [], .slice none 0 0] := by
          unfold bareS; rw [if_pos hk]
          exact ⟨.slice ac s.cols.length ad, [.slice none 0 0, .slice none 0 0, .slice none 0 0, .int .i64 0], .slice none 0 0, [.int .i64 0, .int .i64 0, .int .i64 0, st [], st [], st [], .slice none 0 0], xc, ⟨_, _, _, RS_nil, RS_nil, RS_nil, rfl⟩, RS_nil, RX_zero, (by rw [hnm, if_neg (by omega)]; rfl)⟩
        exact hS' _ _ _ ⟨rfl, ⟨(by simp only [e12, e13, e14, e3, e5, e6, go_sem, Rcb, Rbk, sevalprocAttr]), (by simp only [e12, e13, e14, e3, e5, e6, go_sem, Rcb, Rbk, sevalprocAttr]), (by simp only [e12, e13, e14, e3, e5, e6, go_sem, Rcb, Rbk, sevalprocAttr]), (by simp only [e12, e13, e14, e3, e5, e6, go_sem, Rcb, Rbk, sevalprocAttr]), (by simp only [e12, e13, e14, e3, e5, e6, go_sem, Rcb, Rbk, sevalprocAttr]), (by simp only [e12, e13, e14, e3, e5, e6, go_sem, Rcb, Rbk, sevalprocAttr])⟩, T6, M2, _, ExtT.rfl', Ext.rfl', n5, n6, hr, (by rw [hk]; rfl)⟩
      · simp +contextual only [go_sem, Rcb, Rbk, sevalprocAttr, hk, e12, e13, e14, e3, e5, e6, n5, n6, hap6, slOne]
        refine rCall_pure (ct_bareQ (hsr.q (.inl hk)) xq T6) ?_ (fun _ _ _ _ h => h.elim)
        rintro r M3 hM3 hno3 ⟨qc, rfl, p', o', r', g1, g2, g3, rfl⟩
        simp only [List.cons_append, List.nil_append, noneL, noneL_pL] at hno3
        obtain ⟨pa1, pa2⟩ := RS_one g1
        have pa3 := pa2
        obtain ⟨pb1, pb2⟩ := RS_one g2
        have pb3 := pb2
        obtain ⟨pc1, pc2⟩ := RS_one g3
        have pc3 := pc2
        simp only [Value.cells] at pa3 pb3 pc3
        simp +contextual only [go_sem, Rcb, Rbk, sevalprocAttr, hk, e12, e13, e14, e3, e5, e6, hno3, hap6, slOne, pa1, pa2, pa3, pb1, pb2, pb3, pc1, pc2, pc3]
        have hr : RStm M3 (bareS s) [.int .i64 2, st nm, .slice none 0 0, p', o', r', .int .i64 (bareQ s.q).limit, .slice none 0 0, .bool false, .int .i64 0, .int .i64 0, .int .i64 0, st [], st [], st [], .slice none 0 0] := by
          unfold bareS; rw [if_neg (by omega), if_neg (by omega), if_neg (by omega)]
          exact ⟨.slice none 0 0, [p', o', r', .int .i64 (bareQ s.q).limit], .slice none 0 0, [.int .i64 0, .int .i64 0, .int .i64 0, st [], st [], st [], .slice none 0 0], RS_nil, ⟨p', o', r', g1, g2, g3, rfl⟩, RS_nil, RX_zero, (by rw [hnm, hk]; rfl)⟩
        exact hS' _ _ _ ⟨rfl, ⟨(by simp only [e12, e13, e14, e3, e5, e6, go_sem, Rcb, Rbk, sevalprocAttr]), (by simp only [e12, e13, e14, e3, e5, e6, go_sem, Rcb, Rbk, sevalprocAttr]), (by simp only [e12, e13, e14, e3, e5, e6, go_sem, Rcb, Rbk, sevalprocAttr]), (by simp only [e12, e13, e14, e3, e5, e6, go_sem, Rcb, Rbk, sevalprocAttr]), (by simp only [e12, e13, e14, e3, e5, e6, go_sem, Rcb, Rbk, sevalprocAttr]), (by simp only [e12, e13, e14, e3, e5, e6, go_sem, Rcb, Rbk, sevalprocAttr])⟩, T6, M3, _, ExtT.rfl', hM3, hno3.2.1, hno3.1, hr, (by rw [hk]; rfl)⟩
      · obtain ⟨r1, r2, r3⟩ := hsr.rows hk
        have xr' := xr
        obtain ⟨hrl, _⟩ := RS_elim (by decide) (fun _ _ => RVs_len) xr'
        simp +contextual only [go_sem, Rcb, Rbk, sevalprocAttr, hk, e12, e13, e14, e3, e5, e6, n5, n6, hap6, slOne]
        refine loop_range s.rows.length 43 [(12, .slice (some ⟨b, o, none⟩) l.length kc), (13, .int .i64 l.length), (14, .int .i64 (i : Nat)), (3, fv), (5, .pointer (some ⟨b5, 0, none⟩)), (6, .pointer (some ⟨b6, 0, none⟩)), (41, .slice au s.rows.length av), (42, .int .i64 s.rows.length)]
          (fun k e h => ∃ N' M' qv RI, ExtT T6 N' ∧ Ext M2 M' ∧ M' b5 = none ∧ M' b6 = none ∧ AccF 81 1 RVs R s.rows.length k M' RI qv ((s.rows.take k).map (·.map bareV)) ∧ h = ⟨N', M', [(b6, [.int .i64 3, st nm, .slice none 0 0, .slice none 0 0, .slice none 0 0, .slice none 0 0, .int .i64 0, qv, .bool false, .int .i64 0, .int .i64 0, .int .i64 0, st [], st [], st [], .slice none 0 0]), (b5, [.int .i64 s.k, st s.name, .slice ac s.cols.length ad, .slice ap s.q.parts.length aq, .slice ao s.q.ops.length an, .slice ar s.q.order.length ae, .int .i64 s.q.limit, .slice au s.rows.length av, .bool s.hasW, .int .i64 s.wh.k, .int .i64 s.wh.v.k, .int .i64 s.wh.v.n, st s.wh.v.t, st s.wh.tab, st s.wh.name, aw])], RI⟩)
          0 (by omega) (by simp only [live, e12, e13, e14, e3, e5, e6, go_sem, Rcb, Rbk, sevalprocAttr]) (by simp only [go_sem, Rcb, Rbk, sevalprocAttr]) ⟨T6, M2, _, R, ExtT.rfl', Ext.rfl', n5, n6, AccF_zero, by rw [hk]; rfl⟩ ?_
        clear e12 e13 e14 e3 e5 e6 n5 n6
        rintro k e h hk' hlv ht ⟨N7, M3, qv, RI, hN7, hM3, n5, n6, hqacc, rfl⟩
        simp only [live] at hlv
        by_cases hkt : k < s.rows.length
        · replace hqacc := AccF_acc hqacc hkt
          obtain ⟨rw, hrw⟩ : ∃ rw, rw = s.rows[k] := ⟨_, rfl⟩
          obtain ⟨w1, w2, w3⟩ := r3 rw (by rw [hrw]; exact List.getElem_mem hkt)
          obtain ⟨bi, oi, ci, hie, hati, hri⟩ := RS_get (by decide) (fun _ _ => RVs_len) xr (List.getElem?_eq_getElem hkt)
          subst hie
          obtain ⟨rv, hrv, rfl⟩ := hri
          rw [← hrw] at hrv
          have hrv' := hrv
          obtain ⟨_, ri, rj, rfl, hrij, hrin, hrget⟩ := RS_elim (sz := 3) (by decide) (fun _ _ h => by rw [h]; rfl) hrv'
          have z0 := (hati.ext hM3).1
          obtain ⟨ia1, ia2⟩ := Acc_one hqacc
          have ia3 := ia2
          simp only [Value.cells, Nat.mul_one] at ia3 z0
          simp +contextual only [go_sem, Rcb, Rbk, sevalprocAttr, hlv, ht, hkt, z0, slOne, n5, n6, hap6]
          refine loop_range rw.length 49 [(12, .slice (some ⟨b, o, none⟩) l.length kc), (13, .int .i64 l.length), (14, .int .i64 (i : Nat)), (3, fv), (5, .pointer (some ⟨b5, 0, none⟩)), (6, .pointer (some ⟨b6, 0, none⟩)), (41, .slice (some ⟨bi, oi, none⟩) s.rows.length av), (42, .int .i64 s.rows.length), (43, .int .i64 (k : Nat)), (47, .slice ri rw.length rj), (48, .int .i64 rw.length)]
            (fun j e h => ∃ N' M' gv RJ, e 9 = gv ∧ ExtT N7 N' ∧ Ext M3 M' ∧ M' b5 = none ∧ M' b6 = none ∧ AccF 63 3 (fun _ => RV) RI rw.length j M' RJ gv ((rw.take j).map bareV) ∧ h = ⟨N', M', [(b6, [.int .i64 3, st nm, .slice none 0 0, .slice none 0 0, .slice none 0 0, .slice none 0 0, .int .i64 0, qv, .bool false, .int .i64 0, .int .i64 0, .int .i64 0, st [], st [], st [], .slice none 0 0]), (b5, [.int .i64 s.k, st s.name, .slice ac s.cols.length ad, .slice ap s.q.parts.length aq, .slice ao s.q.ops.length an, .slice ar s.q.order.length ae, .int .i64 s.q.limit, .slice (some ⟨bi, oi, none⟩) s.rows.length av, .bool s.hasW, .int .i64 s.wh.k, .int .i64 s.wh.v.k, .int .i64 s.wh.v.n, st s.wh.v.t, st s.wh.tab, st s.wh.name, aw])], RJ⟩)
            0 (by omega) (by simp only [live, hlv, ht, go_sem, Rcb, Rbk, sevalprocAttr]) (by simp only [go_sem, Rcb, Rbk, sevalprocAttr]) ⟨N7, M3, _, RI, (by simp only [go_sem, Rcb, Rbk, sevalprocAttr]), ExtT.rfl', Ext.rfl', n5, n6, AccF_zero, rfl⟩ ?_
          clear hlv ht n5 n6
          rintro j e h hj hlv ht ⟨N8, M4, gv, RJ, e9, hN8, hM4, n5, n6, hgacc, rfl⟩
          simp only [live] at hlv
          by_cases hjt : j < rw.length
          · replace hgacc := AccF_acc hgacc hjt
            obtain ⟨bv, ov, cv, hve, hatv, hrvv⟩ := hrget j rw[j] (List.getElem?_eq_getElem hjt)
            subst hve
            obtain rfl : cv = rw[j].cs := hrvv
            obtain ⟨q0, q1, q2, -⟩ := (show At M4 bv (ov + j * 3) [.int .i64 rw[j].k, .int .i64 rw[j].n, st rw[j].t] from hatv.ext (hM3.trans hM4))
            obtain ⟨ja1, ja2⟩ := Acc_one hgacc
            have ja3 := ja2
            simp only [Value.cells] at ja3
            simp +contextual only [go_sem, Rcb, Rbk, sevalprocAttr, hlv, ht, hjt, e9, q0, q1, q2, slOne, n5, n6, hap6]
            intro bb Tb hbb hapb hTb hTbb
            refine rCall_pure (ct_bareV rw[j] Tb) ?_ (fun _ _ _ _ h => h.elim)
            rintro r M5 hM5 hno5 rfl
            simp only [List.cons_append, List.nil_append, noneL, noneL_pL] at hno5
            simp +contextual only [go_sem, Rcb, Rbk, sevalprocAttr, hlv, ht, hjt, e9, hno5, slOne, hap6, hapb, ja1, ja2, ja3]
            intro bc hbc hapc
            have hll : ((rw.take j).map bareV).length = j := by rw [List.length_map, List.length_take]; omega
            have hxs : RV (bareV rw[j]) [.int .i64 (bareV rw[j]).k, .int .i64 (bareV rw[j]).n, st (bareV rw[j]).t] := rfl
            refine app_acc (z := _) Tryz.underlying81 row81 okt81 hgacc hxs (fun _ _ h => by rw [h]; rfl) (by intro u hu; simp only [List.mem_cons, List.not_mem_nil, or_false] at hu; rcases hu with rfl | rfl | rfl <;> rfl) hbc (by rw [hll]; omega) (by decide) ?_
            intro fv' R' hacc'
            have hwi := wrap_succ j (by omega)
            have hacc2 : Acc 63 3 RV RI R' fv' ((rw.take (j + 1)).map bareV) := by rw [List.take_succ_eq_append_getElem hjt, List.map_append]; exact hacc'
            simp +contextual only [go_sem, Rcb, Rbk, sevalprocAttr, hlv, ht, hjt, e9, hno5, slOne, hap6, hapb, hbc, hapc]
            refine lp_close (Close_drop (Close_drop (Close_step (r := fun _ => RV) (M := M5) hjt hacc2 (by rw [List.length_map, List.length_take]; omega) (by decide) ⟨hno5.2.1, hno5.2.2.1, trivial⟩ (fun _ _ _ _ _ h => h) fun M6 R6 hM6 hno6 haf => ?_)))
            refine Close_id ⟨rw.length - (j + 1), by omega, rfl, j + 1, by omega, rfl, ?_, ?_, Tb, M6, fv', R6, ?_, hN8.trans hTb, (hM4.trans hM5).trans hM6, hno6.2.1, hno6.1, haf, rfl⟩
            · simp only [live, hlv, go_sem, Rcb, Rbk, sevalprocAttr]
            · simp only [ht, go_sem, Rcb, Rbk, sevalprocAttr, hwi]
            · simp only [go_sem, Rcb, Rbk, sevalprocAttr]
          · have : j = rw.length := by omega
            subst this
            obtain ⟨rfl, hgs⟩ := AccF_end hgacc
            rw [List.take_length] at hgs
            obtain ⟨ja1, ja2⟩ := RS_one hgs
            have ja3 := ja2
            simp only [Value.cells] at ja3
            simp +contextual only [go_sem, Rcb, Rbk, sevalprocAttr, hlv, ht, hjt, e9, slOne, n5, n6, hap6, ia1, ia2, ia3, ja1, ja2, ja3]
            intro bc hbc hapc
            have hll : ((s.rows.take k).map (·.map bareV)).length = k := by rw [List.length_map, List.length_take]; omega
            have hxs : RVs M4 (rw.map bareV) [gv] := ⟨gv, hgs, rfl⟩
            refine app_acc (z := _) Tryz.underlying61 row61 okt61 (Acc_mono (fun x cs h => RVs_ext hM4 _ _ h) hqacc) hxs (fun _ _ => RVs_len) (by intro u hu; simp only [List.mem_cons, List.not_mem_nil, or_false] at hu; subst hu; exact ja1) hbc (by rw [hll]; omega) (by decide) ?_
            intro fv' R' hacc'
            obtain ⟨la1, la2⟩ := Acc_one hacc'
            have la3 := la2
            simp only [Value.cells] at la3
            have hwi := wrap_succ k (by omega)
            have hacc2 : Acc 81 1 (RVs M4) R R' fv' ((s.rows.take (k + 1)).map (·.map bareV)) := by rw [List.take_succ_eq_append_getElem hkt, List.map_append, ← hrw]; exact hacc'
            simp +contextual only [go_sem, Rcb, Rbk, sevalprocAttr, hlv, ht, hjt, e9, slOne, n5, n6, hap6, hbc, hapc, la1, la2, la3]
            refine lp_close (Close_drop (Close_step (r := RVs) hkt hacc2 (by rw [List.length_map, List.length_take]; omega) (by decide) ⟨n6, n5, trivial⟩ (fun _ _ _ _ he h => RVs_ext he _ _ h) fun M6 R6 hM6 hno6 haf => ?_))
            refine Close_id ⟨s.rows.length - (k + 1), by omega, rfl, k + 1, by omega, rfl, ?_, ?_, N8, M6, fv', R6, hN7.trans hN8, (hM3.trans hM4).trans hM6, hno6.2.1, hno6.1, haf, rfl⟩
            · simp only [live, hlv, go_sem, Rcb, Rbk, sevalprocAttr]
            · simp only [hlv, go_sem, Rcb, Rbk, sevalprocAttr, hwi]
        · have : k = s.rows.length := by omega
          subst this
          obtain ⟨rfl, hqs⟩ := AccF_end hqacc
          rw [List.take_length] at hqs
          simp +contextual only [go_sem, Rcb, Rbk, sevalprocAttr, hlv, ht, hkt]
          have hr : RStm M3 (bareS s) [.int .i64 3, st nm, .slice none 0 0, .slice none 0 0, .slice none 0 0, .slice none 0 0, .int .i64 0, qv, .bool false, .int .i64 0, .int .i64 0, .int .i64 0, st [], st [], st [], .slice none 0 0] := by
            unfold bareS; rw [if_neg (by omega), if_pos hk]
            exact ⟨.slice none 0 0, [.slice none 0 0, .slice none 0 0, .slice none 0 0, .int .i64 0], qv, [.int .i64 0, .int .i64 0, .int .i64 0, st [], st [], st [], .slice none 0 0], RS_nil, ⟨_, _, _, RS_nil, RS_nil, RS_nil, rfl⟩, hqs, RX_zero, (by rw [hnm, if_neg (by omega)]; rfl)⟩
          exact hS' _ _ _ ⟨rfl, ⟨(by simp only [hlv, go_sem, Rcb, Rbk, sevalprocAttr]), (by simp only [hlv, go_sem, Rcb, Rbk, sevalprocAttr]), (by simp only [hlv, go_sem, Rcb, Rbk, sevalprocAttr]), (by simp only [hlv, go_sem, Rcb, Rbk, sevalprocAttr]), (by simp only [hlv, go_sem, Rcb, Rbk, sevalprocAttr]), (by simp only [hlv, go_sem, Rcb, Rbk, sevalprocAttr])⟩, N7, M3, _, hN7, hM3, n5, n6, hr, rfl⟩
      · cases hW : s.hasW with
        | false =>
          simp +contextual only [go_sem, Rcb, Rbk, sevalprocAttr, hk, hW, e12, e13, e14, e3, e5, e6, n5, n6, hap6, slOne]
          have hr : RStm M2 (bareS s) [.int .i64 4, st nm, .slice none 0 0, .slice none 0 0, .slice none 0 0, .slice none 0 0, .int .i64 0, .slice none 0 0, .bool false, .int .i64 0, .int .i64 0, .int .i64 0, st [], st [], st [], .slice none 0 0] := by
            unfold bareS; rw [if_neg (by omega), if_neg (by omega), if_pos hk]
            exact ⟨.slice none 0 0, [.slice none 0 0, .slice none 0 0, .slice none 0 0, .int .i64 0], .slice none 0 0, [.int .i64 0, .int .i64 0, .int .i64 0, st [], st [], st [], .slice none 0 0], RS_nil, ⟨_, _, _, RS_nil, RS_nil, RS_nil, rfl⟩, RS_nil, (by rw [hW]; exact RX_zero), (by rw [hnm, if_neg (by omega), hW]; rfl)⟩
          exact hS' _ _ _ ⟨rfl, ⟨(by simp only [e12, e13, e14, e3, e5, e6, go_sem, Rcb, Rbk, sevalprocAttr]), (by simp only [e12, e13, e14, e3, e5, e6, go_sem, Rcb, Rbk, sevalprocAttr]), (by simp only [e12, e13, e14, e3, e5, e6, go_sem, Rcb, Rbk, sevalprocAttr]), (by simp only [e12, e13, e14, e3, e5, e6, go_sem, Rcb, Rbk, sevalprocAttr]), (by simp only [e12, e13, e14, e3, e5, e6, go_sem, Rcb, Rbk, sevalprocAttr]), (by simp only [e12, e13, e14, e3, e5, e6, go_sem, Rcb, Rbk, sevalprocAttr])⟩, T6, M2, _, ExtT.rfl', Ext.rfl', n5, n6, hr, (by rw [hk, hW]; rfl)⟩
        | true =>
          simp +contextual only [go_sem, Rcb, Rbk, sevalprocAttr, hk, hW, e12, e13, e14, e3, e5, e6, n5, n6, hap6, slOne, kw]
          refine rCall_pure (bareXok (Yw_ok (hsr.wh hk hW)) M2 T6 _ xw) ?_ (fun _ _ _ _ h => h.elim)
          rintro r M3 hM3 hno3 ⟨cs2, rfl, hx2'⟩
          simp only [List.cons_append, List.nil_append, noneL, noneL_pL] at hno3
          obtain ⟨s2, rfl, k2, hs2⟩ := RX_form hx2'
          simp +contextual only [go_sem, Rcb, Rbk, sevalprocAttr, hk, hW, e12, e13, e14, e3, e5, e6, hno3, hap6, slOne, k2]
          have hr : RStm M3 (bareS s) [.int .i64 4, st nm, .slice none 0 0, .slice none 0 0, .slice none 0 0, .slice none 0 0, .int .i64 0, .slice none 0 0, .bool true, .int .i64 (bareX s.wh).k, .int .i64 (bareX s.wh).v.k, .int .i64 (bareX s.wh).v.n, st (bareX s.wh).v.t, st (bareX s.wh).tab, st (bareX s.wh).name, s2] := by
            unfold bareS; rw [if_neg (by omega), if_neg (by omega), if_pos hk]
            exact ⟨.slice none 0 0, [.slice none 0 0, .slice none 0 0, .slice none 0 0, .int .i64 0], .slice none 0 0, [.int .i64 (bareX s.wh).k, .int .i64 (bareX s.wh).v.k, .int .i64 (bareX s.wh).v.n, st (bareX s.wh).v.t, st (bareX s.wh).tab, st (bareX s.wh).name, s2], RS_nil, ⟨_, _, _, RS_nil, RS_nil, RS_nil, rfl⟩, RS_nil, (by rw [hW]; exact hx2'), (by rw [hnm, if_neg (by omega), hW]; rfl)⟩
          exact hS' _ _ _ ⟨rfl, ⟨(by simp only [e12, e13, e14, e3, e5, e6, go_sem, Rcb, Rbk, sevalprocAttr]), (by simp only [e12, e13, e14, e3, e5, e6, go_sem, Rcb, Rbk, sevalprocAttr]), (by simp only [e12, e13, e14, e3, e5, e6, go_sem, Rcb, Rbk, sevalprocAttr]), (by simp only [e12, e13, e14, e3, e5, e6, go_sem, Rcb, Rbk, sevalprocAttr]), (by simp only [e12, e13, e14, e3, e5, e6, go_sem, Rcb, Rbk, sevalprocAttr]), (by simp only [e12, e13, e14, e3, e5, e6, go_sem, Rcb, Rbk, sevalprocAttr])⟩, T6, M3, _, ExtT.rfl', hM3, hno3.2.1, hno3.1, hr, (by rw [hk, hW]; rfl)⟩
      · simp +contextual only [go_sem, Rcb, Rbk, sevalprocAttr, hk, e12, e13, e14, e3, e5, e6, n5, n6, hap6, slOne]
        refine rCall_pure (ct_bareQ (hsr.q (.inr hk)) xq T6) ?_ (fun _ _ _ _ h => h.elim)
        rintro r M3 hM3 hno3 ⟨qc, rfl, p', o', r', g1, g2, g3, rfl⟩
        simp only [List.cons_append, List.nil_append, noneL, noneL_pL] at hno3
        obtain ⟨pa1, pa2⟩ := RS_one g1
        have pa3 := pa2
        obtain ⟨pb1, pb2⟩ := RS_one g2
        have pb3 := pb2
        obtain ⟨pc1, pc2⟩ := RS_one g3
        have pc3 := pc2
        simp only [Value.cells] at pa3 pb3 pc3
        simp +contextual only [go_sem, Rcb, Rbk, sevalprocAttr, hk, e12, e13, e14, e3, e5, e6, hno3, hap6, slOne, pa1, pa2, pa3, pb1, pb2, pb3, pc1, pc2, pc3]
        have hr : RStm M3 (bareS s) [.int .i64 5, st nm, .slice none 0 0, p', o', r', .int .i64 (bareQ s.q).limit, .slice none 0 0, .bool false, .int .i64 0, .int .i64 0, .int .i64 0, st [], st [], st [], .slice none 0 0] := by
          unfold bareS; rw [if_neg (by omega), if_neg (by omega), if_neg (by omega)]
          exact ⟨.slice none 0 0, [p', o', r', .int .i64 (bareQ s.q).limit], .slice none 0 0, [.int .i64 0, .int .i64 0, .int .i64 0, st [], st [], st [], .slice none 0 0], RS_nil, ⟨p', o', r', g1, g2, g3, rfl⟩, RS_nil, RX_zero, (by rw [hnm, hk]; rfl)⟩
        exact hS' _ _ _ ⟨rfl, ⟨(by simp only [e12, e13, e14, e3, e5, e6, go_sem, Rcb, Rbk, sevalprocAttr]), (by simp only [e12, e13, e14, e3, e5, e6, go_sem, Rcb, Rbk, sevalprocAttr]), (by simp only [e12, e13, e14, e3, e5, e6, go_sem, Rcb, Rbk, sevalprocAttr]), (by simp only [e12, e13, e14, e3, e5, e6, go_sem, Rcb, Rbk, sevalprocAttr]), (by simp only [e12, e13, e14, e3, e5, e6, go_sem, Rcb, Rbk, sevalprocAttr]), (by simp only [e12, e13, e14, e3, e5, e6, go_sem, Rcb, Rbk, sevalprocAttr])⟩, T6, M3, _, ExtT.rfl', hM3, hno3.2.1, hno3.1, hr, (by rw [hk]; rfl)⟩
    clear e12 e13 e14 e3 e5 e6 n5 n6
    rintro e ds h ⟨rfl, ⟨e12, e13, e14, e3, e5, e6⟩, N7, M3, c6, hN7, hM3, n5, n6, hr, rfl⟩
    obtain ⟨c0, c1, c2, c3, c4, c5, c6, c7, c8, c9, c10, c11, c12, c13, c14, c15, rfl⟩ := form16 (RStm_len hr)
    have hone := RStm_oneC hr
    have hco := hone
    simp only [List.forall_mem_cons] at hco
    obtain ⟨k0, k1, k2, k3, k4, k5, k6, k7, k8, k9, k10, k11, k12, k13, k14, k15, -⟩ := hco
    simp +contextual only [go_sem, Rcb, Rbk, sevalprocAttr, e12, e13, e14, e3, e5, e6, n5, n6, hap6, slOne, k0, k1, k2, k3, k4, k5, k6, k7, k8, k9, k10, k11, k12, k13, k14, k15]
    intro bc hbc hapc
    have hll : ((l.take i).map bareS).length = i := by rw [List.length_map, List.length_take]; omega
    refine app_acc (z := _) Tryz.underlying22 row22 okt22 (Acc_mono (fun x cs h => RStm_ext hM3 _ _ h) hacc) hr (fun _ _ => RStm_len) hone hbc (by rw [hll]; omega) (by decide) ?_
    intro fv' R' hacc'
    have hwi := wrap_succ i (by omega)
    have hacc2 : Acc 67 16 (RStm M3) [] R' fv' ((l.take (i + 1)).map bareS) := by
      rw [List.take_succ_eq_append_getElem hlt, List.map_append]
      have : l[i] = s := by rw [List.getElem?_eq_getElem hlt] at hs; injection hs
      rw [this]; exact hacc'
    simp +contextual only [go_sem, Rcb, Rbk, sevalprocAttr, e12, e13, e14, e3, e5, e6, n5, n6, hap6, hbc, hapc, slOne]
    refine lp_close (Close_drop (Close_drop (Close_drop (Close_step (r := RStm) hlt hacc2 (by rw [List.length_map, List.length_take]; omega) (by decide) trivial (fun _ _ _ _ he h => RStm_ext he _ _ h) fun M8 R8 hM8 hno8 haf => ?_))))
    refine Close_id ⟨l.length - (i + 1), by omega, rfl, i + 1, by omega, rfl, ?_, ?_, N7, M8, fv', R8, ?_, ?_, (hM2.trans hM3).trans hM8, haf, rfl⟩
    · simp only [live, e12, e13, go_sem, Rcb, Rbk, sevalprocAttr]
    · simp only [e14, go_sem, Rcb, Rbk, sevalprocAttr, hwi]
    · simp only [go_sem, Rcb, Rbk, sevalprocAttr]
    · exact ((hN.trans hT5).trans hT6).trans hN7
  · have : i = l.length := by omega
    subst this
    simp +contextual only [go_sem, Rcb, Rbk, sevalprocAttr, hlv, ht, hlt, e3]
    obtain ⟨rfl, hps⟩ := AccF_end hacc
    rw [List.take_length] at hps
    exact end_none hN hps
end Go.Proofs.YtoainkbcfnlkcaaGreatDoor

namespace Go.Proofs.YtoainkbcfnlkcaaGreatDoor
open Go Vc
set_option linter.unusedSimpArgs false
set_option linter.unusedVariables false
set_option maxRecDepth 10000

/-! ### what the laws of journals come to -/
theorem StR_of_print {s : Stm} (h : (printM [s]).2.1 = 0) : StR Yw s := by
  obtain ⟨h1, _, _⟩ := read_print h
  exact stmtW_iff.1 ((wrongS_ok h1).2 s (List.mem_cons_self ..))
theorem bares_ok {l : List Stm} (h : (bytesM l).2.1 = 0) : (∀ s ∈ l, StR Yw s) ∧ l.length ≤ 100000 := by
  obtain ⟨h1, h2, h3⟩ := bytesM_ok h
  have := packs_len l
  exact ⟨fun s hs => StR_of_print (h1 s hs), by omega⟩
/-- of bytes that are cut off anywhere -/
theorem torn_all {l : List Stm} (h : (bytesM l).2.1 = 0) {at_ : Nat} (ha : at_ ≤ (bytesM l).1.length) : ∃ k, k ≤ l.length ∧ recoverM ((bytesM l).1.take at_) = ((l.take k).map bareS, ((packs (l.take k)).length : Int), 0) ∧ (packs (l.take k)).length ≤ at_ ∧
    ∀ s, l[k]? = some s → bytesM [s] = (packM (printM [s]).1, 0, 0) ∧ at_ < (packs (l.take k)).length + (packM (printM [s]).1).length := by
  obtain ⟨h1, h2, h3⟩ := bytesM_ok h
  rw [h2] at ha ⊢
  simp only at ha ⊢
  have hlt : ((packs l).take at_).length = at_ := by rw [List.length_take]; omega
  obtain ⟨k, hk, hr, _, hs⟩ := recL_torn (l := l) (at_ + 1) at_ h1 (by omega)
  have hle := (recL_sound (at_ + 1) ((packs l).take at_)).2.2
  rw [hr, hlt] at hle
  refine ⟨k, hk, ?_, hle, fun s hs' => ⟨?_, hs s hs'⟩⟩
  · unfold recoverM
    rw [hlt, hr, if_neg (by omega)]
  · have hm := h1 s (List.mem_of_getElem? hs')
    have hp := packM_len (printM [s]).1
    have hq := printM_le [s]
    have := bytesM_of (l := [s]) (fun x hx => by simp only [List.mem_singleton] at hx; subst hx; exact hm) (by simp [packs]; omega)
    rw [this]; simp [packs]
/-- a slice of entries, from the k-th up to another -/
theorem RL_take {α : Type} {r : α → List Value → Prop} {sz : Nat} (hsz : ∀ x cs, r x cs → cs.length = sz) : ∀ {l : List α} {xs : List Value} (k : Nat), RL r l xs → RL r (l.take k) (xs.take (k * sz))
  | [], xs, k, h => by have : xs = [] := h; subst this; simp [RL]
  | x :: l, xs, 0, h => by simp [RL]
  | x :: l, xs, k + 1, h => by
    obtain ⟨cs, rest, rfl, h1, h2⟩ := h
    have hcs := hsz x cs h1
    have : (cs ++ rest).take ((k + 1) * sz) = cs ++ rest.take (k * sz) := by
      rw [Nat.add_mul, Nat.one_mul, Nat.add_comm, ← hcs, List.take_append, List.take_of_length_le (Nat.le_add_right _ _), Nat.add_sub_cancel_left]
    rw [this]
    exact ⟨cs, _, rfl, h1, RL_take hsz k h2⟩
theorem RS_take {α : Type} {r : α → List Value → Prop} {sz : Nat} (hpos : 0 < sz) (hsz : ∀ x cs, r x cs → cs.length = sz) {M : Mem} {l : List α} {a : Option Addr} {n c k : Nat} (h : RS M r sz l (.slice a n c)) (hk : k ≤ l.length) :
    RS M r sz (l.take k) (.slice a k c) := by
  obtain ⟨hb, xs, hs, hl⟩ := h
  have hlen := RL_len hsz hl
  refine ⟨by rw [List.length_take]; omega, xs.take (k * sz), ?_, RL_take hsz k hl⟩
  rcases hs with ⟨a', c', hv, rfl, hac⟩ | ⟨b, o, n', c', hv, hle, hn, ha⟩
  · injection hv with h1 h2 h3
    subst h1 h2 h3
    left
    have hk0 : k = 0 := by
      have : l.length = 0 := by
        simp only [List.length_nil] at hlen
        rcases Nat.mul_eq_zero.1 hlen.symm with h | h
        · exact h
        · omega
      omega
    subst hk0
    exact ⟨a, c, rfl, by simp, hac⟩
  · injection hv with h1 h2 h3
    subst h1 h2 h3
    right
    have hnl : n = l.length := Nat.eq_of_mul_eq_mul_right hpos (hn.symm.trans hlen)
    have hle2 : k * sz ≤ xs.length := by rw [hn]; exact Nat.mul_le_mul_right _ (by omega)
    refine ⟨b, o, k, c, rfl, by omega, by rw [List.length_take]; omega, ?_⟩
    have h2 : xs = xs.take (k * sz) ++ xs.drop (k * sz) := (List.take_append_drop _ _).symm
    rw [h2] at ha
    exact (At_app.1 ha).1
theorem cutA_zero {b o c sz : Nat} : cutA (some ⟨b, o, none⟩) c 0 sz = some ⟨b, o, none⟩ := by
  unfold cutA; split
  · rfl
  · simp [Addr.add]
/-- .. [:k] -/
theorem RS_hi {α : Type} {r : α → List Value → Prop} {sz : Nat} (hpos : 0 < sz) (hsz : ∀ x cs, r x cs → cs.length = sz) {M : Mem} {l : List α} {a : Option Addr} {n c k : Nat} (h : RS M r sz l (.slice a n c)) (hk : k ≤ l.length) :
    RS M r sz (l.take k) (.slice (cutA a c 0 sz) k c) := by
  have h1 := RS_take hpos hsz h hk
  obtain ⟨hb, xs, hs, hl⟩ := h1
  refine ⟨hb, xs, ?_, hl⟩
  rcases hs with ⟨a', c', hv, rfl, hac⟩ | ⟨b, o, n', c', hv, hle, hn, ha⟩
  · injection hv with h1 h2 h3
    subst h1 h2 h3
    exact .inl ⟨_, c, rfl, rfl, fun h => hac (by
      unfold cutA at h
      split at h
      · exact h
      · simpa using h)⟩
  · injection hv with h1 h2 h3
    subst h1 h2 h3
    exact .inr ⟨b, o, k, c, by rw [cutA_zero], hle, hn, ha⟩
/-- .. [lo:hi] -/
theorem RS_mid {α : Type} {r : α → List Value → Prop} {sz : Nat} (hpos : 0 < sz) (hsz : ∀ x cs, r x cs → cs.length = sz) {M : Mem} {l : List α} {a : Option Addr} {n c lo hi : Nat} (h : RS M r sz l (.slice a n c)) (h1 : lo ≤ hi) (h2 : hi ≤ l.length) :
    RS M r sz ((l.take hi).drop lo) (.slice (cutA a c lo sz) (hi - lo) (c - lo)) :=
  RS_cut hpos hsz (RS_take hpos hsz h h2) (by rw [List.length_take]; omega)
theorem mid_one {α : Type} {l : List α} {k : Nat} {x : α} (h : l[k]? = some x) : (l.take (k + 1)).drop k = [x] := by
  obtain ⟨h1, rfl⟩ := List.getElem?_eq_some_iff.1 h
  rw [List.take_succ_eq_append_getElem h1, List.drop_append]
  simp [Nat.min_eq_left (Nat.le_of_lt h1)]
end Go.Proofs.YtoainkbcfnlkcaaGreatDoor

namespace Go.Proofs.YtoainkbcfnlkcaaGreatDoor
open Go Vc
set_option linter.unusedSimpArgs false
set_option linter.unusedVariables false
set_option maxRecDepth 100000

theorem ct_jtorn {M : Mem} {l : List Stm} {at_ : Int} {v : Value} (hg : GlobP M) (hs : RS M (RStm M) 16 l v) (hat : -9223372036854775808 ≤ at_ ∧ at_ ≤ 9223372036854775807) (T : Tm) : CtT Tryz.prog 8 [v, .int .i64 at_] T M [] [] (fun r _ _ _ => r = .bool true) noPan := by
  have hs' := hs
  obtain ⟨_, a1, k1, rfl, hl1, _⟩ := RS_elim (by decide) (fun _ _ => RStm_len) hs'
  have hta := @torn_all l
  refine ct_run mx bod8 Tryz.func8 rfl (by rw [nt8]; exact Nat.le_of_ble_eq_true rfl) (dr := dr8) (by kernel_rfl) rs8 ?_
  intro hno _
  simp +contextual only [go_sem, Rcb, Rbk, sevalprocAttr]
  refine rCall_pure (ct_jalive hg T) ?_ (fun _ _ _ _ h => h.elim)
  rintro v M1 hM1 _ rfl
  simp +contextual only [go_sem, Rcb, Rbk, sevalprocAttr]
  have hg1 := hg.ext hM1
  refine rCall_pure (ct_Bytes hg1 (RS_ext hM1 (RStm_ext hM1) hs) T) ?_ (fun _ _ _ _ h => h.elim)
  rintro v M2 hM2 hno2 ⟨w1, rfl, hw1⟩
  have hbo := @bares_ok l
  have hbm := @bytesM_ok l
  have hlm := bytesM_le l
  obtain ⟨⟨fb, fe, fa⟩, hff⟩ : ∃ p, p = bytesM l := ⟨_, rfl⟩
  rw [← hff] at hw1 hta hbo hbm hlm ⊢
  clear hff
  simp only at hw1 hta hbo hbm hlm ⊢
  have hw1' := hw1
  obtain ⟨hlb, a3, k3, rfl, hl3, _⟩ := RS_elim (by decide) (fun _ _ => RBy_len) hw1'
  have h02 := hM1.trans hM2
  by_cases hfe : fe = 0
  · by_cases h1 : at_ < 0
    · simp +contextual only [go_sem, Rcb, Rbk, sevalprocAttr, flt, hfe, h1]
      intro b6 T6 hb6 hT6 hTb6
      exact end_none hT6 rfl
    obtain ⟨k, rfl⟩ : ∃ k : Nat, at_ = k := ⟨at_.toNat, by omega⟩
    by_cases h2 : fb.length < k
    · have h2' : ((fb.length : Nat) : Int) < (k : Int) := by omega
      simp +contextual only [go_sem, Rcb, Rbk, sevalprocAttr, flt, hfe, h2, h2']
      intro b6 T6 hb6 hT6 hTb6
      exact end_none hT6 rfl
    have h2' : ¬ ((fb.length : Nat) : Int) < (k : Int) := by omega
    have hk3 : k ≤ k3 := by omega
    obtain ⟨j, hj, hr, hle, hnx⟩ := hta hfe (at_ := k) (by omega)
    obtain ⟨hst, hsl⟩ := hbo hfe
    obtain ⟨-, hpk, -⟩ := hbm hfe
    injection hpk with hpk _
    subst hfe
    simp +contextual only [go_sem, Rcb, Rbk, sevalprocAttr, flt, h2, h2', hk3]
    intro b6 T6 hb6 hT6 hTb6
    refine rCall_pure (ct_Recover (hg.ext h02) (RS_hi (by decide) (fun _ _ => RBy_len) hw1 (by omega)) T6) ?_ (fun _ _ _ _ h => h.elim)
    rintro v M3 hM3 hno3 ⟨w2, rfl, hw2⟩
    rw [hr] at hw2 ⊢
    simp only at hw2 ⊢
    have hw2' := hw2
    obtain ⟨_, a4, k4, rfl, hl4, _⟩ := RS_elim (by decide) (fun _ _ => RStm_len) hw2'
    simp only [List.cons_append, List.nil_append, noneL, noneL_pL] at hno3
    have hjl : (List.map bareS (List.take j l)).length = j := by rw [List.length_map, List.length_take]; omega
    rw [hjl] at hw2 ⊢
    have h03 := h02.trans hM3
    have q1 : ¬ ((k : Nat) : Int) < (((packs (l.take j)).length : Nat) : Int) := by omega
    have q2 : ¬ ((l.length : Nat) : Int) < ((j : Nat) : Int) := by omega
    have q3 : j ≤ k1 := by omega
    simp +contextual only [go_sem, Rcb, Rbk, sevalprocAttr, hno3, q1, q2, hle, hj, q3]
    refine rCall_pure (ct_barees (l := l.take j) (fun s hs => hst s (List.mem_of_mem_take hs)) (by rw [List.length_take]; omega) (RS_hi (by decide) (fun _ _ => RStm_len) (RS_ext h03 (RStm_ext h03) hs) hj) T6) ?_ (fun _ _ _ _ h => h.elim)
    rintro v M4 hM4 hno4 hw3
    simp +contextual only [go_sem, Rcb, Rbk, sevalprocAttr]
    refine rCall_pure (ct_Same (RS_ext hM4 (RStm_ext hM4) hw2) hw3 T6) ?_ (fun _ _ _ _ h => h.elim)
    rintro v M5 hM5 hno5 rfl
    simp +contextual only [go_sem, Rcb, Rbk, sevalprocAttr]
    have h05 := (h03.trans hM4).trans hM5
    by_cases hjl2 : j = l.length
    · have hjl3 : ((j : Nat) : Int) = ((l.length : Nat) : Int) := by omega
      have e1 : ((packs (l.take j)).length : Int) = ((fb.length : Nat) : Int) := by rw [hjl2, List.take_length, hpk]
      simp +contextual only [go_sem, Rcb, Rbk, sevalprocAttr, hjl3, e1]
      exact end_none hT6 rfl
    · have hjl3 : ¬ ((j : Nat) : Int) = ((l.length : Nat) : Int) := by omega
      have hlt : j < l.length := by omega
      have hwj : IntKind.i64.wrap ((j : Int) + 1) = ((j + 1 : Nat) : Int) := wrap_succ j (by omega)
      have c1 : ((j : Nat) : Int) ≤ ((j + 1 : Nat) : Int) ∧ j + 1 ≤ k1 := ⟨by omega, by omega⟩
      have c2 : j + 1 - j = 1 := by omega
      obtain ⟨hb1, hb2⟩ := hnx l[j] (List.getElem?_eq_getElem hlt)
      have hmid := RS_mid (lo := j) (hi := j + 1) (by decide) (fun _ _ => RStm_len) (RS_ext h05 (RStm_ext h05) hs) (by omega) (by omega)
      rw [mid_one (List.getElem?_eq_getElem hlt), c2] at hmid
      simp only [noneL, and_true] at hno5
      simp +contextual only [go_sem, Rcb, Rbk, sevalprocAttr, hjl3, hwj, c1, c2]
      refine rCall_pure (ct_Bytes (hg.ext h05) hmid T6) ?_ (fun _ _ _ _ h => h.elim)
      rintro v M6 hM6 hno6 ⟨w3, rfl, hw4⟩
      rw [hb1] at hw4 ⊢
      simp only at hw4 ⊢
      have hw4' := hw4
      obtain ⟨_, a5, k5, rfl, hl5, _⟩ := RS_elim (by decide) (fun _ _ => RBy_len) hw4'
      simp only [List.cons_append, List.nil_append, noneL, noneL_pL] at hno6
      have hpl := packM_len (printM [l[j]]).1
      have hpm := printM_le [l[j]]
      have hwn : IntKind.i64.wrap (((packs (l.take j)).length : Int) + ((packM (printM [l[j]]).1).length : Int)) = ((packs (l.take j)).length : Int) + ((packM (printM [l[j]]).1).length : Int) := wrap64 (by omega) (by omega)
      have hgt : ((k : Nat) : Int) < ((packs (l.take j)).length : Int) + ((packM (printM [l[j]]).1).length : Int) := by omega
      simp +contextual only [go_sem, Rcb, Rbk, sevalprocAttr, flt, hno6, hwn, hgt]
      exact end_none hT6 rfl
  · simp +contextual only [go_sem, Rcb, Rbk, sevalprocAttr, flt, hfe]
    intro b6 T6 hb6 hT6 hTb6
    exact end_none hT6 rfl
end Go.Proofs.YtoainkbcfnlkcaaGreatDoor


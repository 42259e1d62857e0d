import Derived.Test.YtoainkbcfnlkcaaGreatDoorD
import Derived.Recover
import Derived.Laws.Pointers
set_option linter.all false
namespace Go.Proofs.YtoainkbcfnlkcaaGreatDoor
open Go Vc
set_option linter.unusedSimpArgs false
set_option linter.unusedVariables false
set_option maxRecDepth 10000

def wordC (c : UInt8) : Bool := letterB c.toNat || digitB c.toNat
def digC (c : UInt8) : Bool := digitB c.toNat
def signsL : List Bs := [[60, 62], [60, 61], [62, 61], [124, 124], [60], [62], [61], [43], [45], [42], [40], [41], [44], [46], [59]]
/-- a text's rest: what stands there, and how much of it is read -/
def textM : Bs → Option (Bs × Nat)
  | [] => none
  | [c] => if c = 39 then some ([], 1) else none
  | c :: d :: l => if c = 39 then (if d = 39 then (textM l).map fun x => (39 :: x.1, x.2 + 2) else some ([], 1)) else (textM (d :: l)).map fun x => (c :: x.1, x.2 + 1)
def oneM (at_ : Int) : Bs → Except (Int × Int) (Tk × Nat)
  | [] => .error (2, at_)
  | c :: l =>
    if letterB c.toNat = true then .ok (⟨1, (c :: l).take (runN wordC (c :: l)), at_⟩, runN wordC (c :: l))
    else if digitB c.toNat = true then (if 16 < runN digC (c :: l) then .error (3, at_) else .ok (⟨2, (c :: l).take (runN digC (c :: l)), at_⟩, runN digC (c :: l)))
    else if c = 39 then (match textM l with | none => .error (2, at_) | some x => if 60 < x.1.length then .error (4, at_) else .ok (⟨3, x.1, at_⟩, x.2 + 1))
    else match signsL.find? (·.isPrefixOf (c :: l)) with | none => .error (2, at_) | some x => .ok (⟨4, x, at_⟩, x.length)
def tkV (t : Tk) : Value := .agg ⟨[.int .i64 t.k, st t.s, .int .i64 t.at_]⟩
theorem ct_one {M : Mem} {s : Bs} {at_ : Int} (h0 : s ≠ []) (hs : s.length ≤ 4000) :
    Ct Tryz.prog 59 [st s, .int .i64 at_] M [] [] (fun r _ _ _ => ∃ t n, oneM at_ s = .ok (t, n) ∧ r = .tuple ⟨[tkV t, .int .i64 (n : Int)]⟩) (fun ch _ _ _ => ∃ e a, oneM at_ s = .error (e, a) ∧ ch = oopsV e a) := by
  intro T
  obtain ⟨c, l, hcl⟩ : ∃ c l, s = c :: l := by
    cases s with
    | nil => exact (h0 rfl).elim
    | cons c l => exact ⟨c, l, rfl⟩
  have hx : byteAt (bs s) 0 = c := by rw [byteAt_bs (by rw [hcl]; simp)]; simp [hcl]
  have hpos : (0 : Int) < (s.length : Int) := by rw [hcl]; simp only [List.length_cons]; omega
  obtain ⟨S, hone⟩ : ∃ S, S = oneM at_ s := ⟨_, rfl⟩
  rw [← hone]
  rw [hcl] at hone
  simp only [oneM] at hone
  rw [← hcl] at hone
  have runle : ∀ p, runN p s ≤ s.length := fun p => (List.takeWhile_sublist p).length_le
  refine ct_run mx bod59 Tryz.func59 rfl (by rw [nt59]; exact Nat.le_of_ble_eq_true rfl) (dr := dr59) (by kernel_rfl) rs59 ?_
  intro hno _
  simp +contextual only [go_sem, Rcb, Rbk, sevalprocAttr, hx, hpos]
  intro b4 T4 hb4 hT4 hTb4
  refine rCall_pure (ct_sql_letter c.toNat M T4) ?_ (fun _ _ _ _ h => h.elim)
  rintro v M1 hM1 hno1 rfl
  by_cases hlet : letterB c.toNat = true
  · rw [if_pos hlet] at hone
    simp +contextual only [go_sem, Rcb, Rbk, sevalprocAttr, hlet]
    refine rCall_pure (ct_lex_run (p := wordC) (fun c M => ct_one1 c.toNat M) s hs M1 T4) ?_ (fun _ _ _ _ h => h.elim)
    rintro v M2 hM2 hno2 rfl
    simp only [noneL, and_true] at hno2
    simp +contextual only [go_sem, Rcb, Rbk, sevalprocAttr, hlet, hno2, runle]
    refine end_none (hT4) ?_
    exact ⟨_, _, hone, by simp [tkV, st]⟩
  rw [if_neg hlet] at hone
  simp +contextual only [go_sem, Rcb, Rbk, sevalprocAttr, hlet]
  refine rCall_pure (ct_sql_digit c.toNat M1 T4) ?_ (fun _ _ _ _ h => h.elim)
  rintro v M2 hM2 hno2 rfl
  by_cases hdig : digitB c.toNat = true
  · rw [if_pos hdig] at hone
    simp +contextual only [go_sem, Rcb, Rbk, sevalprocAttr, hdig]
    refine rCall_pure (ct_lex_run (p := digC) (fun c M => ct_sql_digit c.toNat M) s hs M2 T4) ?_ (fun _ _ _ _ h => h.elim)
    rintro v M3 hM3 hno3 rfl
    simp only [noneL, and_true] at hno3
    by_cases h16 : 16 < runN digC s
    · rw [if_pos h16] at hone
      have h16' : (16 : Int) < (runN digC s : Int) := by omega
      simp +contextual only [go_sem, Rcb, Rbk, sevalprocAttr, hdig, h16']
      refine rCall_pure (ct_sql_fail 3 at_ M3 T4) (fun _ _ _ _ h => h.elim) ?_
      rintro ch M4 hM4 hno4 rfl
      rw [fi_pan, panF_eq]
      exact end_none hT4 ⟨_, _, hone, rfl⟩
    · rw [if_neg h16] at hone
      have h16' : ¬ (16 : Int) < (runN digC s : Int) := by omega
      simp +contextual only [go_sem, Rcb, Rbk, sevalprocAttr, hdig, h16', hno3, runle]
      refine end_none hT4 ?_
      exact ⟨_, _, hone, by simp [tkV, st]⟩
  rw [if_neg hdig] at hone
  simp +contextual only [go_sem, Rcb, Rbk, sevalprocAttr, hdig]
  by_cases hq : c = 39
  · have hq' : ((c.toNat : Nat) : Int) = 39 := by rw [hq]; rfl
    rw [if_pos hq] at hone
    simp +contextual only [go_sem, Rcb, Rbk, sevalprocAttr, hq']
    intro b9 T9 hb9 hap9 hT9 hTb9
    refine ⟨fun m e ds h => ds = [] ∧ e 0 = st s ∧ e 1 = .int .i64 at_ ∧ e 4 = .pointer (some ⟨b4, 0, none⟩) ∧ e 9 = .pointer (some ⟨b9, 0, none⟩) ∧
      ∃ M' i acc a c p, e 10 = .int .i64 (i : Nat) ∧ m + i = s.length + 1 ∧ 1 ≤ i ∧ i ≤ s.length ∧ M' b9 = none ∧ M' b4 = none ∧ acc.length ≤ i ∧ (p = .pointer none ∨ p = .pointer (some ⟨b9, 0, none⟩)) ∧ (acc = [] → a = none ∧ c = 0) ∧
        textM l = (textM (s.drop i)).map (fun x => (acc ++ x.1, (i - 1) + x.2)) ∧
        h = ⟨T9, M', [(b9, [p, .slice a acc.length c]), (b4, [.int .i64 0, .string (bs []), .int .i64 0])], [(.slice a acc.length c, 5, 1, Lib.byteCells acc)]⟩,
      Close_addNil (Close_id ⟨s.length, rfl, ?_, ?_, ?_, ?_, M2, 1, [], none, 0, .pointer none, ?_, rfl, Nat.le_refl _, by omega, hb9, ?_, by simp, .inl rfl, fun _ => ⟨rfl, rfl⟩, ?_, rfl⟩), ?_⟩
    · simp only [go_sem, Rcb, Rbk, sevalprocAttr]
    · simp only [go_sem, Rcb, Rbk, sevalprocAttr]
    · simp only [go_sem, Rcb, Rbk, sevalprocAttr]
    · simp only [go_sem, Rcb, Rbk, sevalprocAttr]
    · simp only [go_sem, Rcb, Rbk, sevalprocAttr]
    · simpa [noneL] using hno2
    · rw [hcl]; simp
    rintro m e ds h ⟨rfl, e0, e1, e4, e9, M3, i, acc, a, cc, p, e10, hm, h1, hi, n9, n4, hacc, hp, hnil, htx, rfl⟩
    by_cases hlt : i < s.length
    · have hx' := byteAt_bs hlt
      have hdrop : s.drop i = s[i] :: s.drop (i + 1) := List.drop_eq_getElem_cons hlt
      have hwr := wrap_succ i (by omega)
      by_cases h39 : s[i] = 39
      · have h39' : ((s[i].toNat : Nat) : Int) = 39 := by rw [h39]; rfl
        by_cases hd : i + 1 < s.length ∧ s[i + 1]? = some 39
        · obtain ⟨hd1, hd2⟩ := hd
          have hx2 := byteAt_bs hd1
          have hv : s[i + 1] = 39 := by rw [List.getElem?_eq_getElem hd1] at hd2; injection hd2
          have hdrop2 : s.drop (i + 1) = s[i + 1] :: s.drop (i + 1 + 1) := List.drop_eq_getElem_cons hd1
          have h39'' : ((s[i + 1].toNat : Nat) : Int) = 39 := by rw [hv]; rfl
          have hwr2 := wrap_succ (i + 1) (by omega)
          simp +contextual only [go_sem, Rcb, Rbk, sevalprocAttr, e0, e1, e4, e9, e10, hlt, hx', h39', hwr, hd1, hx2, h39'']
          refine rCall_of [] [(b9, _)] [(b4, _)] [] [_] [] (ct_WriteByte hTb9 hp (by simp [Lib.byteCells]) (by omega)) ?_ (fun _ _ _ _ _ _ _ _ h => h.elim)
          rintro v M4 L' R' _ _ _ hno4 ⟨rfl, rfl, a', c', rfl, rfl⟩
          simp +contextual only [go_sem, Rcb, Rbk, sevalprocAttr, e0, e1, e4, e9, e10, hlt, hx', h39', hwr, hwr2]
          rw [Run_lp]
          refine Close_id ⟨m - 2, by omega, rfl, ?_, ?_, ?_, ?_, M4, i + 2, acc ++ [39], a', c', _, ?_, by omega, by omega, by omega, n9, n4, by rw [List.length_append]; simp only [List.length_cons, List.length_nil]; omega, .inr rfl, by simp, ?_, ?_⟩
          · simp only [e0, go_sem, Rcb, Rbk, sevalprocAttr]
          · simp only [e1, go_sem, Rcb, Rbk, sevalprocAttr]
          · simp only [e4, go_sem, Rcb, Rbk, sevalprocAttr]
          · simp only [e9, go_sem, Rcb, Rbk, sevalprocAttr]
          · simp only [go_sem, Rcb, Rbk, sevalprocAttr]
          · rw [htx, hdrop, hdrop2, h39, hv]
            simp only [textM, if_true]
            rw [Option.map_map]
            congr 1
            funext x
            simp only [Function.comp, List.append_assoc, List.cons_append, List.nil_append, Prod.mk.injEq, true_and]
            omega
          · rw [List.length_append]; simp [Lib.byteCells]
        · have htxt : textM (s.drop i) = some ([], 1) := by
            rw [hdrop, h39]
            cases hdr : s.drop (i + 1) with
            | nil => simp [textM]
            | cons d r =>
              have hd1 : i + 1 < s.length := by
                have := congrArg List.length hdr
                simp only [List.length_drop, List.length_cons] at this
                omega
              have hdd : d ≠ 39 := by
                rintro rfl
                apply hd
                refine ⟨hd1, ?_⟩
                rw [List.drop_eq_getElem_cons hd1] at hdr
                injection hdr with h1 h2
                rw [List.getElem?_eq_getElem hd1, h1]
              simp [textM, hdd]
          rw [htxt] at htx
          simp only [Option.map_some, List.append_nil] at htx
          rw [htx] at hone
          simp only at hone
          have hlast : ∀ hd1 : i + 1 < s.length, ¬ ((s[i + 1].toNat : Nat) : Int) = 39 := by
            intro hd1 h
            have h2 : s[i + 1].toNat = 39 := by omega
            exact hd ⟨hd1, by rw [List.getElem?_eq_getElem hd1]; exact congrArg some (UInt8.toNat_inj.1 h2)⟩
          by_cases hd1 : i + 1 < s.length
          have hx2 := byteAt_bs hd1
          have hl2 := hlast hd1
          simp +contextual only [go_sem, Rcb, Rbk, sevalprocAttr, e0, e1, e4, e9, e10, hlt, hx', h39', hwr, hd1, hx2, hl2]
          rotate_left
          simp +contextual only [go_sem, Rcb, Rbk, sevalprocAttr, e0, e1, e4, e9, e10, hlt, hx', h39', hwr, hd1]
          all_goals
            refine rCall_of [] [(b9, _)] [(b4, _)] [] [] [_] (ct_Len T9) ?_ (fun _ _ _ _ _ _ _ _ h => h.elim)
            rintro v M4 L' R' _ _ _ hno4 ⟨rfl, rfl, rfl, rfl⟩
            by_cases h60 : 60 < acc.length
            · rw [if_pos h60] at hone
              have h60' : (60 : Int) < (acc.length : Int) := by omega
              simp +contextual only [go_sem, Rcb, Rbk, sevalprocAttr, e0, e1, e4, e9, e10, h60']
              refine rCall_pure (ct_sql_fail 4 at_ M4 T9) (fun _ _ _ _ h => h.elim) ?_
              rintro ch M5 hM5 hno5 rfl
              rw [fi_pan, panF_eq]
              exact end_none (hT4.trans hT9) ⟨_, _, hone, rfl⟩
            · rw [if_neg h60] at hone
              have h60' : ¬ (60 : Int) < (acc.length : Int) := by omega
              simp +contextual only [go_sem, Rcb, Rbk, sevalprocAttr, e0, e1, e4, e9, e10, h60']
              refine rCall_of [] [(b9, _)] [(b4, _)] [] [_] [] (ct_String (l := acc) hTb9 (by omega) (fun h => by obtain ⟨rfl, rfl⟩ := hnil h; rw [h]; rfl)) ?_ (fun _ _ _ _ _ _ _ _ h => h.elim)
              rintro v M5 L' R' _ _ _ hno5 ⟨rfl, rfl, ⟨v', rfl⟩, rfl⟩
              simp only [List.cons_append, List.nil_append, noneL, and_true] at hno5
              simp +contextual only [go_sem, Rcb, Rbk, sevalprocAttr, e0, e1, e4, e9, e10, hno5, hap9, hwr]
              refine end_none (hT4.trans hT9) ⟨_, _, hone, ?_⟩
              simp only [tkV, st]
              congr 4
              have : i + 1 = i - 1 + 1 + 1 := by omega
              rw [← this]
      · have h39' : ¬ ((s[i].toNat : Nat) : Int) = 39 := by
          intro h
          have h2 : s[i].toNat = 39 := by omega
          exact h39 (UInt8.toNat_inj.1 h2)
        simp +contextual only [go_sem, Rcb, Rbk, sevalprocAttr, e0, e1, e4, e9, e10, hlt, hx', h39']
        refine rCall_of [] [(b9, _)] [(b4, _)] [] [_] [] (ct_WriteByte hTb9 hp (by simp [Lib.byteCells]) (by omega)) ?_ (fun _ _ _ _ _ _ _ _ h => h.elim)
        rintro v M4 L' R' _ _ _ hno4 ⟨rfl, rfl, a', c', rfl, rfl⟩
        simp +contextual only [go_sem, Rcb, Rbk, sevalprocAttr, e0, e1, e4, e9, e10, hlt, hx', h39', hwr]
        rw [Run_lp]
        refine Close_id ⟨m - 1, by omega, rfl, ?_, ?_, ?_, ?_, M4, i + 1, acc ++ [s[i]], a', c', _, ?_, by omega, by omega, by omega, n9, n4, by rw [List.length_append]; simp only [List.length_cons, List.length_nil]; omega, .inr rfl, by simp, ?_, ?_⟩
        · simp only [e0, go_sem, Rcb, Rbk, sevalprocAttr]
        · simp only [e1, go_sem, Rcb, Rbk, sevalprocAttr]
        · simp only [e4, go_sem, Rcb, Rbk, sevalprocAttr]
        · simp only [e9, go_sem, Rcb, Rbk, sevalprocAttr]
        · simp only [go_sem, Rcb, Rbk, sevalprocAttr]
        · have : textM (s.drop i) = (textM (s.drop (i + 1))).map fun x => (s[i] :: x.1, x.2 + 1) := by
            rw [hdrop]
            cases s.drop (i + 1) with
            | nil => simp [textM, h39]
            | cons d r => simp [textM, h39]
          rw [htx, this, Option.map_map]
          congr 1
          funext x
          simp only [Function.comp, List.append_assoc, List.cons_append, List.nil_append, Prod.mk.injEq, true_and]
          omega
        · rw [List.length_append]; simp [Lib.byteCells]
    · have : i = s.length := by omega
      subst this
      rw [List.drop_length] at htx
      simp only [textM, Option.map_none] at htx
      rw [htx] at hone
      simp +contextual only [go_sem, Rcb, Rbk, sevalprocAttr, e0, e1, e4, e9, e10, hlt]
      refine rCall_pure (ct_sql_fail 2 at_ M3 T9) (fun _ _ _ _ h => h.elim) ?_
      rintro ch M4 hM4 hno4 rfl
      rw [fi_pan, panF_eq]
      exact end_none (hT4.trans hT9) ⟨_, _, hone, rfl⟩
  · have hq' : ¬ ((c.toNat : Nat) : Int) = 39 := by
      intro h
      have h2 : c.toNat = 39 := by omega
      exact hq (UInt8.toNat_inj.1 h2)
    rw [if_neg hq] at hone
    simp +contextual only [go_sem, Rcb, Rbk, sevalprocAttr, hq']
    intro b84 hb84 hap84
    refine loop_rangeC 15 86 [(0, st s), (1, .int .i64 at_), (4, .pointer (some ⟨b4, 0, none⟩)), (84, .slice (some ⟨b84, 0, none⟩) 15 15), (85, .int .i64 ((15 : Nat) : Int))]
      (fun i e h => (∃ M', h = ⟨T4, M', [(b4, [.int .i64 0, .string (bs []), .int .i64 0])], []⟩ ∧ M' b84 = some (signsL.map st) ∧ M' b4 = none) ∧ signsL.find? (fun x => x.isPrefixOf s) = (signsL.drop i).find? (fun x => x.isPrefixOf s))
      0 (by omega) (by simp only [live, go_sem, Rcb, Rbk, sevalprocAttr]) (by simp only [go_sem, Rcb, Rbk, sevalprocAttr]) (Close_freeze fun he hb hno => Close_id ⟨⟨_, rfl, hb, hno.1⟩, rfl⟩) ?_
    rintro i e h hi hlv ht ⟨⟨M3, rfl, hw, hn4⟩, hfind⟩
    simp only [live, st] at hlv
    by_cases hlt : i < 15
    · have hlt' : i < signsL.length := hlt
      have hdrop : signsL.drop i = signsL[i] :: signsL.drop (i + 1) := List.drop_eq_getElem_cons hlt'
      rw [hdrop] at hfind
      have hx : mcell M3 ⟨b84, i, none⟩ = some (st signsL[i]) := by
        rw [mcell_some hw, List.getElem?_map, List.getElem?_eq_getElem hlt']
        rfl
      have hi3 : (i : Int) < 15 := by omega
      simp +contextual only [go_sem, Rcb, Rbk, sevalprocAttr, hlv, ht, hlt, hi3, hx]
      refine rCall_pure (ct_prefix s signsL[i] M3 T4) ?_ (fun _ _ _ _ h => h.elim)
      rintro v M4 hM4 hno4 rfl
      simp only [noneL, and_true] at hno4
      by_cases hp : signsL[i].isPrefixOf s = true
      · simp only [List.find?_cons, hp] at hfind
        rw [hfind] at hone
        simp +contextual only [go_sem, Rcb, Rbk, sevalprocAttr, hlv, ht, hp, hno4]
        exact end_none hT4 ⟨_, _, hone, by simp [tkV, st]⟩
      · simp only [Bool.not_eq_true] at hp
        simp only [List.find?_cons, hp] at hfind
        simp +contextual only [go_sem, Rcb, Rbk, sevalprocAttr, hlv, ht, hp]
        refine lp_range hlt ?_ ?_ ⟨⟨M4, rfl, hM4 _ _ hw, hno4⟩, hfind⟩
        · simp only [live, hlv, go_sem, Rcb, Rbk, sevalprocAttr]
        · simp only [ht, go_sem, Rcb, Rbk, sevalprocAttr, wrap_succ i (by omega)]
    · have : i = 15 := by omega
      subst this
      have hf2 : signsL.find? (fun x => x.isPrefixOf s) = none := hfind
      rw [hf2] at hone
      have h33 : ¬ ((15 : Nat) : Int) < 15 := by omega
      simp +contextual only [go_sem, Rcb, Rbk, sevalprocAttr, hlv, ht, h33]
      refine rCall_pure (ct_sql_fail 2 at_ M3 T4) (fun _ _ _ _ h => h.elim) ?_
      rintro ch M4 hM4 hno4 rfl
      rw [fi_pan, panF_eq]
      exact end_none hT4 ⟨_, _, hone, rfl⟩
end Go.Proofs.YtoainkbcfnlkcaaGreatDoor

namespace Go.Proofs.YtoainkbcfnlkcaaGreatDoor
open Go Vc
set_option linter.unusedSimpArgs false
set_option linter.unusedVariables false
set_option maxRecDepth 10000

def spaceC (c : UInt8) : Bool := decide (c = 32) || decide (c = 9) || decide (c = 10)
def toksM : Nat → Int → Bs → Except (Int × Int) (List Tk)
  | 0, _, _ => .ok []
  | _ + 1, _, [] => .ok []
  | f + 1, at_, c :: l => if spaceC c = true then toksM f (at_ + 1) l else match oneM at_ (c :: l) with
    | .error x => .error x
    | .ok (t, n) => match toksM f (at_ + n) ((c :: l).drop n) with
      | .error x => .error x
      | .ok ts => .ok (t :: ts)
def tokensM (s : Bs) : Except (Int × Int) (List Tk) := if 4000 < s.length then .error (4, 0) else toksM (s.length + 1) 0 s
theorem runN_le (p : UInt8 → Bool) (s : Bs) : runN p s ≤ s.length := (List.takeWhile_sublist p).length_le
theorem runN_pos {p : UInt8 → Bool} {c : UInt8} {l : Bs} (h : p c = true) : 1 ≤ runN p (c :: l) := by simp [runN, List.takeWhile_cons, h]
theorem take_runN (p : UInt8 → Bool) (s : Bs) : s.take (runN p s) = s.takeWhile p := by
  unfold runN
  induction s with
  | nil => rfl
  | cons c l ih =>
    rw [List.takeWhile_cons]
    split
    · simp [ih]
    · simp
theorem textM_le : ∀ (n : Nat) (l : Bs), l.length ≤ n → ∀ x, textM l = some x → x.2 ≤ l.length ∧ 1 ≤ x.2 := by
  intro n
  induction n with
  | zero =>
    intro l hl x hx
    cases l with
    | nil => cases hx
    | cons c l => simp at hl
  | succ n ih =>
    intro l hl x hx
    match l, hl, hx with
    | [], _, hx => cases hx
    | [c], _, hx =>
      simp only [textM] at hx
      split at hx
      · injection hx with hx; subst hx; simp
      · cases hx
    | c :: d :: l, hl, hx =>
      simp only [List.length_cons] at hl
      simp only [textM] at hx
      split at hx
      · split at hx
        · obtain ⟨y, hy, rfl⟩ := Option.map_eq_some_iff.1 hx
          have := ih l (by omega) y hy
          simp only [List.length_cons]; omega
        · injection hx with hx; subst hx; simp
      · obtain ⟨y, hy, rfl⟩ := Option.map_eq_some_iff.1 hx
        have := ih (d :: l) (by simp only [List.length_cons]; omega) y hy
        simp only [List.length_cons] at this ⊢; omega
theorem oneM_ok {at_ : Int} {s : Bs} {t : Tk} {n : Nat} (h : oneM at_ s = .ok (t, n)) : 1 ≤ n ∧ n ≤ s.length ∧ (t.k = 2 → numOk t.s = true) := by
  cases s with
  | nil => cases h
  | cons c l =>
    simp only [oneM] at h
    split at h
    · rename_i hc
      injection h with h; injection h with h1 h2; subst h1 h2
      exact ⟨runN_pos (by simp [wordC, hc]), runN_le _ _, fun h => by cases h⟩
    · split at h
      · rename_i hc
        split at h
        · cases h
        · rename_i h16
          injection h with h; injection h with h1 h2; subst h1 h2
          refine ⟨runN_pos hc, runN_le _ _, fun _ => ?_⟩
          have hp := runN_pos (p := digC) (l := l) hc
          have hle := runN_le digC (c :: l)
          simp only [numOk, Bool.and_eq_true, decide_eq_true_eq, List.length_take]
          refine ⟨by omega, ?_⟩
          rw [take_runN]
          show (List.takeWhile digC (c :: l)).all digC = true
          exact List.all_takeWhile
      · split at h
        · split at h
          · cases h
          · rename_i x hx
            split at h
            · cases h
            · injection h with h; injection h with h1 h2; subst h1 h2
              have := textM_le _ l (Nat.le_refl _) x hx
              refine ⟨by omega, by simp only [List.length_cons]; omega, fun h => by cases h⟩
        · split at h
          · cases h
          · rename_i x hx
            injection h with h; injection h with h1 h2; subst h1 h2
            have h1 := List.find?_some hx
            have h2 := List.mem_of_find?_eq_some hx
            have h3 : ∀ x ∈ signsL, 1 ≤ x.length := by decide
            exact ⟨h3 _ h2, (List.isPrefixOf_iff_prefix.1 h1).length_le, fun h => by cases h⟩
theorem toksM_fuel : ∀ (f g : Nat) (at_ : Int) (s : Bs), s.length < f → s.length < g → toksM f at_ s = toksM g at_ s := by
  intro f
  induction f with
  | zero => intro g at_ s h; omega
  | succ f ih =>
    intro g at_ s hf hg
    obtain ⟨g, rfl⟩ : ∃ k, g = k + 1 := ⟨g - 1, by omega⟩
    cases s with
    | nil => rfl
    | cons c l =>
      simp only [List.length_cons] at hf hg
      simp only [toksM]
      split
      · exact ih g _ l (by omega) (by omega)
      · cases ho : oneM at_ (c :: l) with
        | error x => rfl
        | ok x =>
          obtain ⟨t, n⟩ := x
          obtain ⟨h1, h2, _⟩ := oneM_ok ho
          simp only
          rw [ih g _ ((c :: l).drop n) (by simp only [List.length_drop, List.length_cons]; omega) (by simp only [List.length_drop, List.length_cons]; omega)]
theorem ixSpace (c : UInt8) : (0 ≤ Lib.indexByte [32, 9, 10] c.toNat.toUInt8) ↔ spaceC c = true := by
  have h1 : c.toNat.toUInt8 = c := by simp
  rw [h1]
  have := c.toNat_lt
  simp only [Lib.indexByte, spaceC, Bool.or_eq_true, decide_eq_true_eq]
  by_cases h32 : c = 32
  · subst h32; decide
  · by_cases h9 : c = 9
    · subst h9; decide
    · by_cases h10 : c = 10
      · subst h10; decide
      · have e1 : (32 == c) = false := by simp; exact fun h => h32 h.symm
        have e2 : (9 == c) = false := by simp; exact fun h => h9 h.symm
        have e3 : (10 == c) = false := by simp; exact fun h => h10 h.symm
        simp [e1, e2, e3, h32, h9, h10]
theorem ct_IndexByte (l : Bs) (c : Int) (M : Mem) : Ct Tryz.prog 58 [st l, .int .u8 c] M [] [] (fun r M' _ _ => r = .int .i64 (Lib.indexByte l c.toNat.toUInt8) ∧ M' = M) noPan :=
  ct_same (by kernel_rfl) fun w hw => Calls.mono (Tryz.strings_IndexByte (bs l) c w) fun e w' h => ⟨by rw [h.1]; rfl, by rw [h.2]; exact Keeps.rfl'⟩
theorem ct_tokens {M : Mem} (s : Bs) : Ct Tryz.prog 27 [st s] M [] [] (fun r M' _ _ => ∃ ts, tokensM s = .ok ts ∧ RS M' RTk 3 ts r) (fun ch _ _ _ => ∃ e a, tokensM s = .error (e, a) ∧ ch = oopsV e a) := by
  intro T
  refine ct_run mx bod27 Tryz.func27 rfl (by rw [nt27]; exact Nat.le_of_ble_eq_true rfl) (dr := dr27) (by kernel_rfl) rs27 ?_
  intro hno _
  unfold tokensM
  by_cases h4 : 4000 < s.length
  · have h4' : (4000 : Int) < (s.length : Int) := by omega
    simp +contextual only [go_sem, Rcb, Rbk, sevalprocAttr, h4']
    refine rCall_pure (ct_sql_fail 4 0 M T) (fun _ _ _ _ h => h.elim) ?_
    rintro ch M4 hM4 hno4 rfl
    rw [fi_pan, panF_eq]
    exact end_none ExtT.rfl' ⟨_, _, if_pos h4, rfl⟩
  · rw [if_neg h4]
    have h4' : ¬ (4000 : Int) < (s.length : Int) := by omega
    simp +contextual only [go_sem, Rcb, Rbk, sevalprocAttr, h4']
    refine ⟨fun m e ds h => ds = [] ∧ e 0 = st s ∧
      ∃ N M' i acc a c xs, ExtT T N ∧ e 4 = .int .i64 (i : Nat) ∧ e 3 = .slice a acc.length c ∧ m + i = s.length + 1 ∧ i ≤ s.length ∧ acc.length ≤ i ∧ RL RTk acc xs ∧
        toksM (s.length + 1) 0 s = (match toksM m (i : Int) (s.drop i) with | .error x => .error x | .ok ts => .ok (acc ++ ts)) ∧
        h = ⟨N, M', [], [(.slice a acc.length c, 113, 3, xs)]⟩,
      Close_addNil (Close_id ⟨s.length + 1, rfl, ?_, T, M, 0, [], none, 0, [], ExtT.rfl', ?_, ?_, rfl, by omega, by simp, rfl, ?_, rfl⟩), ?_⟩
    · simp only [go_sem, Rcb, Rbk, sevalprocAttr]
    · simp only [go_sem, Rcb, Rbk, sevalprocAttr]
    · simp only [go_sem, Rcb, Rbk, sevalprocAttr]
    · rw [List.drop_zero]; cases toksM (s.length + 1) 0 s <;> simp
    rintro m e ds h ⟨rfl, e0, N, M1, i, acc, a, cc, xs, hN, e4, e3, hm, hi, hacc, hxs, hres, rfl⟩
    by_cases hlt : i < s.length
    · have hx := byteAt_bs hlt
      have hdrop : s.drop i = s[i] :: s.drop (i + 1) := List.drop_eq_getElem_cons hlt
      obtain ⟨m, rfl⟩ : ∃ k, m = k + 1 := ⟨m - 1, by omega⟩
      simp +contextual only [go_sem, Rcb, Rbk, sevalprocAttr, e0, e3, e4, hlt, hx]
      refine rCall_pure (ct_IndexByte [32, 9, 10] (s[i].toNat : Int) M1 N) ?_ (fun _ _ _ _ h => h.elim)
      rintro v M2 hM2 hno2 ⟨rfl, rfl⟩
      rw [hdrop] at hres
      simp only [toksM] at hres
      by_cases hsp : spaceC s[i] = true
      · rw [if_pos hsp] at hres
        have hsp' := (ixSpace s[i]).2 hsp
        simp +contextual only [go_sem, Rcb, Rbk, sevalprocAttr, e0, e3, e4, hsp', wrap_succ i (by omega)]
        rw [Run_lp]
        refine Close_id ⟨m, by omega, rfl, ?_, N, M2, i + 1, acc, a, cc, xs, hN, ?_, ?_, by omega, by omega, by omega, hxs, ?_, rfl⟩
        · simp only [e0, go_sem, Rcb, Rbk, sevalprocAttr]
        · simp only [go_sem, Rcb, Rbk, sevalprocAttr]
        · simp only [e3, go_sem, Rcb, Rbk, sevalprocAttr]
        · exact hres
      · rw [if_neg hsp] at hres
        have hsp' : ¬ (0 ≤ Lib.indexByte [32, 9, 10] s[i].toNat.toUInt8) := fun h => hsp ((ixSpace s[i]).1 h)
        have hcut : (s.drop i).take (s.length - i) = s.drop i := List.take_of_length_le (by simp)
        simp +contextual only [go_sem, Rcb, Rbk, sevalprocAttr, e0, e3, e4, hsp', hi, hcut]
        rw [← hdrop] at hres
        refine rCall_pure (ct_one (s := s.drop i) (at_ := (i : Int)) (by intro h; rw [hdrop] at h; cases h) (by simp; omega) N) ?_ ?_
        · rintro v M3 hM3 hno3 ⟨t, n, hok, rfl⟩
          obtain ⟨h1, h2, h3⟩ := oneM_ok hok
          rw [List.length_drop] at h2
          rw [hok] at hres
          simp only [List.drop_drop] at hres
          simp +contextual only [go_sem, Rcb, Rbk, sevalprocAttr, e0, e3, e4, tkV]
          intro b5 T5 hb5 hT5 hTb5 b6 hb6 hap6
          have hxl := RL_len (fun _ _ => RTk_len) hxs
          refine app_row row49 okt49 (.slice _ 1 _ _ _ Tryz.underlying49 (cells_own [] hb6 trivial rfl) (by intro u hu; simp only [List.mem_cons, List.not_mem_nil, or_false] at hu; rcases hu with rfl | rfl | rfl <;> rfl)) (by rw [hxl]; simp only [List.length_cons, List.length_nil]; omega) ?_
          intro ra rm rc hrm
          have hrm1 : rm = (acc ++ [t]).length := by
            rw [hxl] at hrm
            rw [List.length_append]
            simp only [List.length_cons, List.length_nil] at hrm ⊢
            omega
          subst hrm1
          have hacc2 := RL_append hxs (RL_one (r := RTk) (x := t) ⟨rfl, h3⟩)
          have hwr : IntKind.i64.wrap ((i : Int) + (n : Int)) = ((i + n : Nat) : Int) := by rw [wrap64 (by omega) (by omega)]; omega
          simp +contextual only [go_sem, Rcb, Rbk, sevalprocAttr, e0, e3, e4, hwr]
          rw [Run_lp]
          refine Close_drop (Close_drop (Close_id ⟨m + 1 - n, by omega, rfl, ?_, T5, M3, i + n, acc ++ [t], ra, rc, _, hN.trans hT5, ?_, ?_, by omega, by omega, by rw [List.length_append]; simp only [List.length_cons, List.length_nil]; omega, hacc2, ?_, rfl⟩))
          · simp only [e0, go_sem, Rcb, Rbk, sevalprocAttr]
          · simp only [go_sem, Rcb, Rbk, sevalprocAttr]
          · simp only [go_sem, Rcb, Rbk, sevalprocAttr]
          · rw [hres, toksM_fuel m (m + 1 - n) _ _ (by rw [List.length_drop]; omega) (by rw [List.length_drop]; omega)]
            rw [show ((i + n : Nat) : Int) = (i : Int) + (n : Int) from by omega]
            cases toksM (m + 1 - n) ((i : Int) + (n : Int)) (s.drop (i + n)) <;> simp
        · rintro ch M3 hM3 hno3 ⟨er, a, herr, rfl⟩
          rw [herr] at hres
          rw [fi_pan, panF_eq]
          exact end_none hN ⟨_, _, hres, rfl⟩
    · have hi2 : i = s.length := by omega
      subst hi2
      obtain ⟨m, rfl⟩ : ∃ k, m = k + 1 := ⟨m - 1, by omega⟩
      rw [List.drop_length] at hres
      simp only [toksM, List.append_nil] at hres
      simp +contextual only [go_sem, Rcb, Rbk, sevalprocAttr, e0, e3, e4, hlt]
      exact Close_row fun M2 hM2 hno2 hsl => end_id hN rfl rfl ⟨acc, hres, by omega, xs, hsl, hxs⟩
end Go.Proofs.YtoainkbcfnlkcaaGreatDoor

namespace Go.Proofs.YtoainkbcfnlkcaaGreatDoor
open Go Vc Go.RowKit
set_option linter.unusedSimpArgs false
set_option linter.unusedVariables false
set_option maxRecDepth 10000

theorem w_catch_idle (p q : Addr) (w : World) :
    CallsD Tryz.prog 26 #[.pointer (some p), .pointer (some q)] .returning w fun e u' w' => e = .returned (.tuple #[]) ∧ u' = .returning ∧ w' = w := by
  have mixed := mx
  refine callsD_of_wpS Tryz.func26 rfl fun c₀ cs hu => ?_
  apply wpS_seq
  apply wpS_region
  simp [wpOpsS, go_sem, recoverD, hu, nt26, Exit.thenS]
  refine wpS_of_wp ?_
  go_wp2
  cases c₀
  simp_all [bodyPostS, results, rs26]
theorem vcL_of_run {F : Fi} {c : Code} {e : Env} {ds : List Deferred} {h : Sh} (hr : Run Tryz.prog F [.code c] e ds h ⟨⟩) : vcL Tryz.prog F.dr c F.k e ds h := hr
def oopsE (e a : Int) (r : Bool) : PanicEntry := { v := .iface 47 (.agg #[.int .i64 e, .int .i64 a]), recovered := r }
set_option maxHeartbeats 4000000 in
theorem w_catch_pan {w : World} {U : List Nat} {T : Tm} {M : Mem} {bs : List (Option Nat)} {b2 b3 : Nat} {er a : Int} {v1 v2 v3 : Value} (hi : Hp ⟨w, M, U⟩ ⟨T, M, [(b2, [v1]), (b3, [v2, v3])], []⟩ w bs) :
    CallsD Tryz.prog 26 #[.pointer (some ⟨b2, 0, none⟩), .pointer (some ⟨b3, 0, none⟩)] (.panicking [oopsE er a false]) w fun e u' w' => e = .returned (.tuple #[]) ∧ u' = .panicking [oopsE er a true] ∧
      Post w U T M [b2, b3] 0 M [(b2, [.slice none 0 0]), (b3, [.int .i64 er, .int .i64 a])] [] w' := by
  have mixed := mx
  have hTA : ∀ (v : Array Value) (w : World), (Instr.typeAssert (.iface 47 (.agg v)) 20 47 true).run Tryz.prog w = .ok (.tuple #[.agg v, .bool true]) w := fun _ _ => by kernel_rfl
  refine callsD_of_wpS Tryz.func26 rfl fun c₀ cs hu => ?_
  unfold oopsE at hu
  apply wpS_seq
  apply wpS_region
  simp [wpOpsS, go_sem, recoverD, hu, nt26, Exit.thenS]
  refine wpS_of_wp ?_
  go_wp2
  have h2 := hi.alloc (t := 47) [.int .i64 er, .int .i64 a]
  have hap := h2.apart
  have hnd := h2.nodup
  have hns : M w.heap.size = none := (hap _ (by simp)).1
  have hn2 : M b2 = none := (hap _ (by simp)).1
  have hn3 : M b3 = none := (hap _ (by simp)).1
  have hp : (¬ w.heap.size = b2 ∧ ¬ w.heap.size = b3 ∧ ¬ b2 = b3) ∧ (¬ b2 = w.heap.size ∧ ¬ b3 = w.heap.size ∧ ¬ b3 = b2) := by
    simp at hnd
    obtain ⟨⟨h1, h2, _⟩, ⟨h3, _⟩, _⟩ := hnd
    exact ⟨⟨h1, h2, h3⟩, fun h => h1 h.symm, fun h => h2 h.symm, fun h => h3 h.symm⟩
  refine wp_mono (vcL_sound (c₀ := ⟨w, M, U⟩) (n := 13) (dr := dr26) mx _ (Fi.k ⟨dr26, fun _ ds h => ds = [] ∧ Close h (endF T [b2, b3] 0 (fun _ M' L' R' => M' = M ∧ L' = [(b2, [.slice none 0 0]), (b3, [.int .i64 er, .int .i64 a])] ∧ R' = []) undef), fun _ _ _ _ => False⟩)
    (fun t => Array.getD _ t undef) [] _ _ _ (by kernel_rfl) ⟨?_, rfl, fun _ => rfl⟩ ⟨_, h2⟩ ?_) ?_
  · simp
  · refine vcL_of_run (F := ⟨dr26, _, _⟩) ?_
    generalize hE : (fun t => Array.getD _ t undef) = env
    have e0 : env 0 = .pointer (some ⟨b2, 0, none⟩) := by rw [← hE]; simp
    have e1 : env 1 = .pointer (some ⟨b3, 0, none⟩) := by rw [← hE]; simp
    have e3 : env 3 = .pointer (some ⟨w.heap.size, 0, none⟩) := by rw [← hE]; simp
    clear hE
    have hT : ExtT T (T.add w.heap.size 47) := hi.extT
    generalize w.heap.size = bx at *
    simp +contextual only [go_sem, Rcb, Rbk, sevalprocAttr, e0, e1, e3, hns, hn2, hn3, hp]
    refine ⟨fun _ _ _ _ _ _ _ _ _ h => h, ?_⟩
    refine draw_at ⟨T, fun _ => none, [(bx, _)], []⟩ (Sub_hd hns) ?_
    simp +contextual only [go_sem, Rcb, Rbk, sevalprocAttr, e0, e1, e3, hns, hn2, hn3, hp]
    refine ⟨Sub_hd hns, ?_⟩
    exact Close_drop (end_id hT rfl rfl ⟨rfl, rfl, rfl⟩)
  · rintro ex act w' hq
    cases ex with
    | normal =>
      obtain ⟨e, ds, h, ha, hw, rfl, hcl⟩ := hq
      obtain ⟨h', hw', hT, hk, hR, hM, hL, hR'⟩ := hcl _ _ hw
      have hpost := closed hT hw' hk hR
      rw [hM, hL, hR'] at hpost
      have hds := ha.2.1
      simp only [Exit.inBlock]
      cases c₀
      exact ⟨hds, _, rfl, .tuple #[], results_none rfl _ _ _, rfl, rfl, hpost⟩
    | ret =>
      obtain ⟨e, ds, h, ha, hw, rfl, hcl⟩ := hq
      obtain ⟨h', hw', hT, hk, hR, hM, hL, hR'⟩ := hcl _ _ hw
      have hpost := closed hT hw' hk hR
      rw [hM, hL, hR'] at hpost
      have hds := ha.2.1
      simp only [Exit.inBlock]
      cases c₀
      exact ⟨hds, _, rfl, .tuple #[], results_none rfl _ _ _, rfl, rfl, hpost⟩
    | panic ch => obtain ⟨_, _, _, _, _, h⟩ := hq; exact h.elim
    | exit id => obtain ⟨_, _, _, _, _, h⟩ := hq; exact h.elim
    | goto l => exact hq.elim
    | outgrown => exact hq.elim
end Go.Proofs.YtoainkbcfnlkcaaGreatDoor

namespace Go.Proofs.YtoainkbcfnlkcaaGreatDoor
open Go Vc
set_option linter.unusedSimpArgs false
set_option linter.unusedVariables false
set_option maxRecDepth 10000

/-! ### Read: a deferred call that recovers -/
def rdD (b2 b3 : Nat) (ag : Array Value) : Deferred := { target := .fn (.func 26) ⟨[.pointer (some ⟨b2, 0, none⟩), .pointer (some ⟨b3, 0, none⟩)]⟩, args := ag }
def rdRet (T : Tm) (ts : List ResultVar) (post : PostP) (e : Env) (ds : List Deferred) (h : Sh) : Prop :=
  ∃ b2 b3 ag, ds = [rdD b2 b3 ag] ∧ ag.toList = [] ∧ xOpt (resL Tryz.prog e h ts) fun vs => Close h (endF T [] 0 post (tupV vs))
def rdPan (T : Tm) (post : PostP) (ch : List PanicEntry) (e : Env) (ds : List Deferred) (h : Sh) : Prop :=
  ∃ b2 b3 ag er a, ds = [rdD b2 b3 ag] ∧ ag.toList = [] ∧ e 2 = .pointer (some ⟨b2, 0, none⟩) ∧ e 3 = .pointer (some ⟨b3, 0, none⟩) ∧ ch = [oopsE er a false] ∧
    Close h fun h' => ExtT T h'.N ∧ h'.R = [] ∧ (∃ v1 v2 v3, h'.L = [(b2, [v1]), (b3, [v2, v3])]) ∧ post (.tuple ⟨[.slice none 0 0, flt er a]⟩) h'.M [] []
def rdFi (T : Tm) (dr : List (Nat × Sched)) (ts : List ResultVar) (post : PostP) : Fi := ⟨dr, rdRet T ts post, rdPan T post⟩
theorem rd_args {b2 b3 : Nat} {ag : Array Value} (h : ag.toList = []) : ag ++ (⟨[.pointer (some ⟨b2, 0, none⟩), .pointer (some ⟨b3, 0, none⟩)]⟩ : Array Value) = #[.pointer (some ⟨b2, 0, none⟩), .pointer (some ⟨b3, 0, none⟩)] := by
  apply Array.toList_inj.1
  simp [h]
theorem rd_leaves {a : Array Value} {R : Ending → World → Prop} {w : World} {b2 b3 : Nat} {ag : Array Value} {u : FrameMode} {fn : Func} (h : ag.toList = []) (hu : u ≠ .run)
    (hc : CallsD Tryz.prog 26 #[.pointer (some ⟨b2, 0, none⟩), .pointer (some ⟨b3, 0, none⟩)] u w fun
      | .returned _, u', w' => Leaves Tryz.prog fn a R [] (settle u') w'
      | .panicked chain, u', w' => Leaves Tryz.prog fn a R [] (raised u' chain) w'
      | .outgrown, _, w' => R .outgrown w') : Leaves Tryz.prog fn a R [rdD b2 b3 ag] u w := by
  refine leaves_cons (f := 26) (args := #[.pointer (some ⟨b2, 0, none⟩), .pointer (some ⟨b3, 0, none⟩)]) hu ?_ hc
  show (invoke (.fn (.func 26) _) ag).run Tryz.prog w = _
  have hfn := Tryz.func26
  simp only [invoke, callFunc, Sem.run_bind, Sem.run_pure, Result.andThen_ok, run_program, hfn]
  rw [rd_args h]
  rfl
theorem body_postR {fn : Func} {T : Tm} {dr U M post} (hr : fn.results.toList = [.cell 2 22, .cell 3 25]) {w0 : World} {ex : Exit} {a : Act} {w : World} {n : Nat}
    (hq : KontL.toQ ⟨w0, M, U⟩ n (rdFi T dr fn.results.toList post).k ex a w) : bodyPostD Tryz.prog fn (CtR U T M [] 0 post noPan w0) ex a w := by
  have hret : ∀ {e ds h}, Fr n a e ds → Is ⟨w0, M, U⟩ h w → rdRet T fn.results.toList post e ds h → Leaves Tryz.prog fn a.tmps (CtR U T M [] 0 post noPan w0) a.defers .returning w := by
    rintro e ds h ha hw ⟨b2, b3, ag, rfl, has, hd⟩
    rw [ha.2.1]
    refine rd_leaves has (by simp) ?_
    refine (w_catch_idle _ _ w).mono ?_
    rintro en u' w' ⟨rfl, rfl, rfl⟩
    obtain ⟨vs, hvs, hcl⟩ := xOpt_iff hd
    obtain ⟨h', hw', hT, hk, hR, hp⟩ := hcl _ _ hw
    exact ⟨_, resL_run hw hvs ha.2.2, h'.M, h'.L, h'.R, closed hT hw' hk hR, hp⟩
  cases ex with
  | normal => obtain ⟨e, ds, h, ha, hw, hd⟩ := hq; exact hret ha hw hd
  | ret => obtain ⟨e, ds, h, ha, hw, hd⟩ := hq; exact hret ha hw hd
  | panic ch =>
    obtain ⟨e, ds, h, ha, hw, b2, b3, ag, er, ar, rfl, has, e2, e3, rfl, hcl⟩ := hq
    show Leaves Tryz.prog fn a.tmps _ a.defers (.panicking _) w
    rw [ha.2.1]
    obtain ⟨⟨N, M', L', R'⟩, ⟨bs, hi⟩, hT, hR, ⟨v1, v2, v3, hL⟩, hp⟩ := hcl _ _ hw
    simp only at hT hR hL hp
    subst hR hL
    have hbs : bs = [] := by simpa using hi.rows.1.symm
    subst hbs
    have hi2 : Hp ⟨w0, M, U⟩ ⟨N, M', [] ++ [(b2, [v1]), (b3, [v2, v3])] ++ [], [] ++ [] ++ []⟩ w ([] ++ [] ++ []) := by simpa using hi
    have henter := hi2.enter rfl rfl
    refine rd_leaves has (by simp) ?_
    refine (w_catch_pan (er := er) (a := ar) henter).mono ?_
    rintro en u' w' ⟨rfl, rfl, ⟨⟨bp', hc'⟩, hk, hRl⟩⟩
    have hbp : bp' = [] := by simpa using hc'.rows.1.symm
    subst hbp
    have hfr := hi2.frame (b1 := []) (bp := []) (b2 := []) rfl rfl rfl hc' hk hRl
    have hfr' : Hp ⟨w0, M, U⟩ ⟨N, M', [(b2, [.slice none 0 0]), (b3, [.int .i64 er, .int .i64 ar])], []⟩ w' [] := by simpa using hfr
    have hIs : Is ⟨w0, M, U⟩ ⟨N, M', [(b2, [.slice none 0 0]), (b3, [.int .i64 er, .int .i64 ar])], []⟩ w' := ⟨[], hfr'⟩
    have hn2 : M' b2 = none := (hfr'.apart _ (by simp)).1
    have hn3 : M' b3 = none := (hfr'.apart _ (by simp)).1
    have hne : ¬ b2 = b3 ∧ ¬ b3 = b2 := by
      have := hfr'.nodup
      simp at this
      exact ⟨this, fun h => this h.symm⟩
    have hres : resL Tryz.prog e ⟨N, M', [(b2, [.slice none 0 0]), (b3, [.int .i64 er, .int .i64 ar])], []⟩ fn.results.toList = some [.slice none 0 0, flt er ar] := by
      rw [hr]
      simp +contextual only [go_sem, Rcb, Rbk, sevalprocAttr, e2, e3, hn2, hn3, hne]
      rfl
    have hset : settle (.panicking [oopsE er ar true]) = .returning := rfl
    show Leaves Tryz.prog fn a.tmps _ [] (settle (.panicking [oopsE er ar true])) w'
    rw [hset]
    obtain ⟨h', hw', hT', hk', hR', hp'⟩ := (end_none (T := T) (R := []) (L := [(b2, [.slice none 0 0]), (b3, [.int .i64 er, .int .i64 ar])]) (post := post) (v := .tuple ⟨[.slice none 0 0, flt er ar]⟩) hT hp) _ _ hIs
    exact ⟨_, resL_run hIs hres ha.2.2, h'.M, h'.L, h'.R, closed hT' hw' hk' hR', hp'⟩
  | exit id => obtain ⟨_, _, _, _, _, h⟩ := hq; exact h.elim
  | goto l => exact hq.elim
  | outgrown => exact hq.elim
theorem ct_runR {f : FuncId} {fn : Func} {c : Code} {args : List Value} {dr} {T : Tm} {M post} (hbd : bodied Tryz.prog f = true)
    (hf : Tryz.prog.funcs[f]? = some fn) (hb : fn.body = some c) (hn : args.length ≤ fn.ntmps) (hc : codeOkL Tryz.prog fn.ntmps dr c = true) (hr : fn.results.toList = [.cell 2 22, .cell 3 25])
    (h : Run Tryz.prog (rdFi T dr fn.results.toList post) [.code c] (env0 args) [] ⟨T, M, [], []⟩ ⟨⟩) : CtT Tryz.prog f args T M [] [] post noPan := by
  refine ⟨hbd, fun w U hw => calls_of_wp_defers hf hb ?_⟩
  obtain ⟨h1, h2, h3⟩ := hw.facts
  have := vcL_sound (c₀ := ⟨w, M, U⟩) mx c (rdFi T dr fn.results.toList post).k (env0 args) [] ⟨T, M, [], []⟩ w _ hc (fr0 args.toArray fn.ntmps (by simpa using hn)) h3 h
  exact wp_mono this fun ex a w' hq => body_postR hr hq
end Go.Proofs.YtoainkbcfnlkcaaGreatDoor

namespace Go.Proofs.YtoainkbcfnlkcaaGreatDoor
open Go Vc
set_option linter.unusedSimpArgs false
set_option linter.unusedVariables false
set_option maxRecDepth 10000

/-! ### what is wrong with a form -/
def namesW (l : List Bs) : Int := if l.all namedB = true then 0 else 7
theorem ct_names {M : Mem} {l : List Bs} {sv : Value} (hg : Glob M) (hs : RS M RSt 1 l sv) : Ct Tryz.prog 86 [sv] M [] [] (fun r _ _ _ => r = .int .i64 (namesW l)) noPan := by
  intro T
  obtain ⟨hb, a, c, rfl, hle, _, hget⟩ := RS_elim (by decide) (fun _ _ => RSt_len) hs
  refine ct_run mx bod86 Tryz.func86 rfl (by rw [nt86]; exact Nat.le_of_ble_eq_true rfl) (dr := dr86) (by kernel_rfl) rs86 ?_
  intro hno _
  simp +contextual only [go_sem, Rcb, Rbk, sevalprocAttr]
  refine loop_range l.length 7 [(5, .slice a l.length c), (6, .int .i64 l.length)] (fun i e h => (∃ M', Ext M M' ∧ h = ⟨T, M', [], []⟩) ∧ namesW l = namesW (l.drop i)) 0 (by omega) (by simp only [live, go_sem, Rcb, Rbk, sevalprocAttr]) (by simp only [go_sem, Rcb, Rbk, sevalprocAttr]) ⟨⟨M, Ext.rfl', rfl⟩, rfl⟩ ?_
  rintro i e h hi hlv ht ⟨⟨M1, hM1, rfl⟩, hres⟩
  simp only [live] at hlv
  by_cases hlt : i < l.length
  · obtain ⟨b, o, cs, rfl, hat, hrs⟩ := hget i l[i] (List.getElem?_eq_getElem hlt)
    unfold RSt at hrs; subst hrs
    have hx := mcell_ext hM1 hat.1
    rw [Nat.mul_one] at hx
    have hdrop : l.drop i = l[i] :: l.drop (i + 1) := List.drop_eq_getElem_cons hlt
    rw [hdrop] at hres
    simp +contextual only [go_sem, Rcb, Rbk, sevalprocAttr, hlv, ht, hlt, hx]
    refine rCall_pure (ct_Named (hg.ext hM1) l[i] T) ?_ (fun _ _ _ _ h => h.elim)
    rintro v M2 hM2 _ rfl
    by_cases hn : namedB l[i] = true
    · simp +contextual only [go_sem, Rcb, Rbk, sevalprocAttr, hlv, ht, hn]
      refine lp_range hlt ?_ ?_ ⟨⟨M2, hM1.trans hM2, rfl⟩, ?_⟩
      · simp only [live, hlv, go_sem, Rcb, Rbk, sevalprocAttr]
      · simp only [ht, go_sem, Rcb, Rbk, sevalprocAttr, wrap_succ i (by omega)]
      · rw [hres]; simp only [namesW, List.all_cons, hn, Bool.true_and]
    · simp +contextual only [go_sem, Rcb, Rbk, sevalprocAttr, hlv, ht, hn]
      refine end_none ExtT.rfl' ?_
      simp only [Bool.not_eq_true] at hn
      rw [hres]; simp only [namesW, List.all_cons, hn, Bool.false_and, if_false, Bool.false_eq_true]
  · have : i = l.length := by omega
    subst this
    simp +contextual only [go_sem, Rcb, Rbk, sevalprocAttr, hlv, ht, hlt]
    refine end_none ExtT.rfl' ?_
    rw [hres]; simp [namesW]
def givenW (s : Bs) : Int := if s = [] then 0 else namesW [s]
theorem ct_given {M : Mem} (s : Bs) (hg : Glob M) : Ct Tryz.prog 162 [st s] M [] [] (fun r _ _ _ => r = .int .i64 (givenW s)) noPan := by
  intro T
  refine ct_run mx bod162 Tryz.func162 rfl (by rw [nt162]; exact Nat.le_of_ble_eq_true rfl) (dr := dr162) (by kernel_rfl) rs162 ?_
  intro hno _
  by_cases hs : s = []
  · simp +contextual only [go_sem, Rcb, Rbk, sevalprocAttr, hs]
    exact end_none ExtT.rfl' (by simp [givenW])
  · simp +contextual only [go_sem, Rcb, Rbk, sevalprocAttr, hs]
    intro b hb
    refine rCall_frz bod86 fun M1 hM1 hb1 hno1 => ?_
    have hl : RS M1 RSt 1 [s] (.slice (some ⟨b, 0, none⟩) 1 1) := RS_lit (fun _ _ => RSt_len) hb1 (RL_strs [s]) rfl (by decide)
    refine rCall_pure (ct_names (hg.ext hM1) hl T) ?_ (fun _ _ _ _ h => h.elim)
    rintro v M2 hM2 _ rfl
    simp +contextual only [go_sem, Rcb, Rbk, sevalprocAttr]
    exact end_none ExtT.rfl' (by simp [givenW, hs])
mutual
def shapeX (deep n : Nat) : X → Int × Nat
  | .mk k v tab name kids => if 200 < n + 1 ∨ 20 < deep then (4, n + 1) else if kidsN k < 0 then (1, n + 1) else if (kids.length : Int) ≠ kidsN k then (5, n + 1)
    else if k = 1 then (wrongV v, n + 1) else if k = 2 ∧ (namedB name = false ∨ (tab ≠ [] ∧ namedB tab = false)) then (7, n + 1) else shapeL (deep + 1) (n + 1) kids
def shapeL (deep n : Nat) : List X → Int × Nat
  | [] => (0, n)
  | x :: l => if (shapeX deep n x).1 ≠ 0 then shapeX deep n x else shapeL deep (shapeX deep n x).2 l
end
mutual
theorem shapeX_le (deep n : Nat) : ∀ x, n ≤ 200 → (shapeX deep n x).2 ≤ 201 ∧ ((shapeX deep n x).1 = 0 → (shapeX deep n x).2 ≤ 200)
  | .mk k v tab name kids, hn => by
    rw [shapeX]
    by_cases h : 200 < n + 1 ∨ 20 < deep
    · rw [if_pos h]; exact ⟨by show n + 1 ≤ 201; omega, fun h => by cases h⟩
    · have ih := shapeL_le (deep + 1) (n + 1) kids (by omega)
      rw [if_neg h]
      repeat' split
      all_goals first | exact ih | exact ⟨by show n + 1 ≤ 201; omega, fun _ => by show n + 1 ≤ 200; omega⟩
theorem shapeL_le (deep n : Nat) : ∀ l, n ≤ 200 → (shapeL deep n l).2 ≤ 201 ∧ ((shapeL deep n l).1 = 0 → (shapeL deep n l).2 ≤ 200)
  | [], hn => by rw [shapeL]; exact ⟨by show n ≤ 201; omega, fun _ => hn⟩
  | x :: l, hn => by
    rw [shapeL]
    have hx := shapeX_le deep n x hn
    split
    · exact hx
    · rename_i h0
      exact shapeL_le deep _ l (hx.2 (Classical.not_not.1 h0))
end
theorem RX_at {M : Mem} {b o : Nat} {x : X} {cs : List Value} (h : RX M x cs) (ha : At M b o cs) : ∃ s, RS M (RX M) 7 x.kids s ∧ mcell M ⟨b, o, none⟩ = some (.int .i64 x.k) ∧ mcell M ⟨b, o + 1, none⟩ = some (.int .i64 x.v.k) ∧ mcell M ⟨b, o + 2, none⟩ = some (.int .i64 x.v.n) ∧ mcell M ⟨b, o + 3, none⟩ = some (st x.v.t) ∧
    mcell M ⟨b, o + 4, none⟩ = some (st x.tab) ∧ mcell M ⟨b, o + 5, none⟩ = some (st x.name) ∧ mcell M ⟨b, o + 6, none⟩ = some s := by
  obtain ⟨s, rfl, _, hs⟩ := RX_form h
  exact ⟨s, hs, ha.1, ha.2.1, ha.2.2.1, ha.2.2.2.1, ha.2.2.2.2.1, ha.2.2.2.2.2.1, ha.2.2.2.2.2.2.1⟩
theorem ct_shape : ∀ (sz : Nat) (x : X), SizeOf.sizeOf x ≤ sz → ∀ (M : Mem) (T : Tm) (b o hb deep n : Nat) (cs : List Value), Glob M → At M b o cs → RX M x cs → n ≤ 200 → deep ≤ 21 →
    CtT Tryz.prog 132 [.pointer (some ⟨hb, 0, none⟩), .pointer (some ⟨b, o, none⟩), .int .i64 (deep : Int)] T M [(hb, [.int .i64 (n : Int)])] [] (fun r M' L' R' => r = .int .i64 (shapeX deep n x).1 ∧ L' = [(hb, [.int .i64 ((shapeX deep n x).2 : Int)])] ∧ R' = []) noPan := by
  intro sz
  induction sz with
  | zero => intro x hx; cases x; simp at hx
  | succ sz ih =>
    intro x hsz M T b o hb deep n cs hg ha hx hn hdeep
    obtain ⟨s, hs, m0, m1, m2, m3, m4, m5, m6⟩ := RX_at hx ha
    obtain ⟨hbk, a, c, rfl, hle, _, hget⟩ := RS_elim (by decide) (fun _ _ => RX_len) hs
    refine ct_run mx bod132 Tryz.func132 rfl (by rw [nt132]; exact Nat.le_of_ble_eq_true rfl) (dr := dr132) (by kernel_rfl) rs132 ?_
    intro hno _
    simp only [noneL, and_true] at hno
    have hwn := wrap_succ n (by omega)
    have hwd := wrap_succ deep (by omega)
    cases x with | mk k v tab name kids =>
    simp only [X.k, X.v, X.tab, X.name, X.kids] at m0 m1 m2 m3 m4 m5 m6 hget hle hs hbk
    obtain ⟨S, hS⟩ : ∃ S, S = shapeX deep n (.mk k v tab name kids) := ⟨_, rfl⟩
    rw [← hS]
    rw [shapeX] at hS
    simp +contextual only [go_sem, Rcb, Rbk, sevalprocAttr, hno, hwn, m0, m1, m2, m3, m4, m5, m6]
    by_cases hmuch : 200 < n + 1 ∨ 20 < deep
    · rw [if_pos hmuch] at hS
      rw [if_pos (by omega)]
      exact end_id ExtT.rfl' rfl rfl ⟨by rw [hS], by rw [hS], rfl⟩
    rw [if_neg hmuch] at hS
    rw [if_neg (by omega)]
    refine rCall_pure (ct_sql_kids k M T) ?_ (fun _ _ _ _ h => h.elim)
    rintro r M1 hM1 hno1 rfl
    simp only [noneL, and_true] at hno1
    have hg1 := hg.ext hM1
    replace m0 := mcell_ext hM1 m0
    replace m1 := mcell_ext hM1 m1
    replace m2 := mcell_ext hM1 m2
    replace m3 := mcell_ext hM1 m3
    replace m4 := mcell_ext hM1 m4
    replace m5 := mcell_ext hM1 m5
    replace m6 := mcell_ext hM1 m6
    simp +contextual only [go_sem, sevalprocAttr]
    refine run_cut (fun e ds h => ds = [] ∧ e 0 = .pointer (some ⟨hb, 0, none⟩) ∧ e 1 = .pointer (some ⟨b, o, none⟩) ∧ e 2 = .int .i64 (deep : Int) ∧ S = shapeL (deep + 1) (n + 1) kids ∧ ∃ M', Ext M1 M' ∧ M' hb = none ∧ h = ⟨T, M', [(hb, [.int .i64 ((n + 1 : Nat) : Int)])], []⟩) (fun S' hS' => ?_) ?_
    · by_cases hk0 : kidsN k < 0
      · rw [if_pos hk0] at hS
        simp +contextual only [go_sem, Rcb, Rbk, sevalprocAttr, hk0]
        exact end_id ExtT.rfl' rfl rfl ⟨by rw [hS], by rw [hS], rfl⟩
      rw [if_neg hk0] at hS
      by_cases hkl : (kids.length : Int) = kidsN k
      · rw [if_neg (fun h => h hkl)] at hS
        by_cases h1 : k = 1
        · subst h1
          rw [if_pos rfl] at hS
          simp +contextual only [go_sem, Rcb, Rbk, sevalprocAttr, hk0, hkl, m0, m1, m2, m3, m4, m5, m6]
          refine rCall_pure (ct_vals_Wrong v M1 T) ?_ (fun _ _ _ _ h => h.elim)
          rintro r M2 hM2 hno2 rfl
          simp +contextual only [go_sem, Rcb, Rbk, sevalprocAttr]
          exact end_id ExtT.rfl' rfl rfl ⟨by rw [hS], by rw [hS], rfl⟩
        rw [if_neg h1] at hS
        by_cases h2 : k = 2
        · subst h2
          simp +contextual only [go_sem, Rcb, Rbk, sevalprocAttr, hk0, hkl, m0, m1, m2, m3, m4, m5, m6]
          refine rCall_pure (ct_Named hg1 name T) ?_ (fun _ _ _ _ h => h.elim)
          rintro r M2 hM2 hno2 rfl
          simp only [noneL, and_true] at hno2
          replace m4 := mcell_ext hM2 m4
          by_cases hn1 : namedB name = true
          · by_cases htb : tab = []
            · rw [if_neg (by rintro ⟨_, h | ⟨h, _⟩⟩; rw [hn1] at h; cases h; exact h htb)] at hS
              subst htb
              simp +contextual only [go_sem, Rcb, Rbk, sevalprocAttr, hn1, m4]
              refine hS' _ _ _ ⟨rfl, ?_, ?_, ?_, hS, M2, hM2, hno2, rfl⟩
              all_goals simp only [go_sem, Rcb, Rbk, sevalprocAttr]
            · simp +contextual only [go_sem, Rcb, Rbk, sevalprocAttr, hn1, m4, htb]
              refine rCall_pure (ct_Named (hg1.ext hM2) tab T) ?_ (fun _ _ _ _ h => h.elim)
              rintro r M3 hM3 hno3 rfl
              simp only [noneL, and_true] at hno3
              by_cases hn2 : namedB tab = true
              · rw [if_neg (by rintro ⟨_, h | ⟨_, h⟩⟩; rw [hn1] at h; cases h; rw [hn2] at h; cases h)] at hS
                simp +contextual only [go_sem, Rcb, Rbk, sevalprocAttr, hn1, hn2, htb]
                refine hS' _ _ _ ⟨rfl, ?_, ?_, ?_, hS, M3, hM2.trans hM3, hno3, rfl⟩
                all_goals simp only [go_sem, Rcb, Rbk, sevalprocAttr]
              · rw [if_pos ⟨rfl, .inr ⟨htb, by simpa using hn2⟩⟩] at hS
                simp +contextual only [go_sem, Rcb, Rbk, sevalprocAttr, hn1, hn2, htb]
                exact end_id ExtT.rfl' rfl rfl ⟨by rw [hS], by rw [hS], rfl⟩
          · rw [if_pos ⟨rfl, .inl (by simpa using hn1)⟩] at hS
            simp +contextual only [go_sem, Rcb, Rbk, sevalprocAttr, hn1]
            exact end_id ExtT.rfl' rfl rfl ⟨by rw [hS], by rw [hS], rfl⟩
        · rw [if_neg (fun h => h2 h.1)] at hS
          simp +contextual only [go_sem, Rcb, Rbk, sevalprocAttr, hk0, hkl, h1, h2, m0, m1, m2, m3, m4, m5, m6]
          refine hS' _ _ _ ⟨rfl, ?_, ?_, ?_, hS, M1, Ext.rfl', hno1, rfl⟩
          all_goals simp only [go_sem, Rcb, Rbk, sevalprocAttr]
      · rw [if_pos hkl] at hS
        simp +contextual only [go_sem, Rcb, Rbk, sevalprocAttr, hk0, hkl, m0, m1, m2, m3, m4, m5, m6]
        exact end_id ExtT.rfl' rfl rfl ⟨by rw [hS], by rw [hS], rfl⟩
    · clear hS
      rintro e ds h ⟨rfl, e0, e1, e2, hS, M2, hM2, n2, rfl⟩
      replace m6 := mcell_ext hM2 m6
      simp +contextual only [go_sem, Rcb, Rbk, sevalprocAttr, e0, e1, e2, m6]
      refine loop_range kids.length 87 [(0, .pointer (some ⟨hb, 0, none⟩)), (1, .pointer (some ⟨b, o, none⟩)), (2, .int .i64 (deep : Int)), (86, .int .i64 (kids.length : Int))] (fun i e h => ∃ (M' : Mem) (n' : Nat), Ext M2 M' ∧ M' hb = none ∧ n' ≤ 200 ∧ h = ⟨T, M', [(hb, [.int .i64 (n' : Int)])], []⟩ ∧ S = shapeL (deep + 1) n' (kids.drop i))
        0 (by omega) (by simp only [live, e0, e1, e2, go_sem, Rcb, Rbk, sevalprocAttr]) (by simp only [go_sem, Rcb, Rbk, sevalprocAttr]) ⟨M2, n + 1, Ext.rfl', n2, by omega, rfl, hS⟩ ?_
      clear hS e0 e1 e2
      rintro i e h hi hlv ht ⟨M3, n', hM3, n3, hn', rfl, hS⟩
      simp only [live] at hlv
      replace m6 := mcell_ext hM3 m6
      by_cases hlt : i < kids.length
      · obtain ⟨b', o', cs', rfl, hat, hrx⟩ := hget i kids[i] (List.getElem?_eq_getElem hlt)
        have h13 := (hM1.trans hM2).trans hM3
        have hdrop : kids.drop i = kids[i] :: kids.drop (i + 1) := List.drop_eq_getElem_cons hlt
        rw [hdrop, shapeL] at hS
        have hsz2 : SizeOf.sizeOf kids[i] ≤ sz := by
          have h1 := List.sizeOf_lt_of_mem (List.getElem_mem hlt)
          simp only [X.mk.sizeOf_spec] at hsz
          omega
        have hle2 := shapeX_le (deep + 1) n' kids[i] hn'
        simp +contextual only [go_sem, Rcb, Rbk, sevalprocAttr, hlv, ht, hlt, m6, hwd]
        refine rCall_one [] (ih kids[i] hsz2 M3 T b' _ hb (deep + 1) n' cs' (hg.ext h13) (hat.ext h13) (RX_ext h13 _ _ hrx) hn' (by omega)) ?_ (fun _ _ _ _ _ _ h => h.elim)
        rintro r M4 L' hM4 hk4 hno4 ⟨rfl, rfl, -⟩
        simp only [List.nil_append, noneL, and_true] at hno4
        by_cases hr : (shapeX (deep + 1) n' kids[i]).1 = 0
        · rw [if_neg (fun h => h hr)] at hS
          simp +contextual only [go_sem, Rcb, Rbk, sevalprocAttr, hlv, ht, hlt, hr]
          refine lp_range hlt ?_ ?_ ⟨M4, _, hM3.trans hM4, hno4, hle2.2 hr, rfl, hS⟩
          · simp only [live, hlv, go_sem, Rcb, Rbk, sevalprocAttr]
          · simp only [ht, go_sem, Rcb, Rbk, sevalprocAttr, wrap_succ i (by omega)]
        · rw [if_pos hr] at hS
          simp +contextual only [go_sem, Rcb, Rbk, sevalprocAttr, hlv, ht, hlt, hr]
          exact end_id ExtT.rfl' rfl rfl ⟨by rw [hS], by rw [hS], rfl⟩
      · have : i = kids.length := by omega
        subst this
        rw [List.drop_length, shapeL] at hS
        simp +contextual only [go_sem, Rcb, Rbk, sevalprocAttr, hlv, ht, hlt]
        exact end_id ExtT.rfl' rfl rfl ⟨by rw [hS], by rw [hS], rfl⟩
end Go.Proofs.YtoainkbcfnlkcaaGreatDoor


import Derived.Test.YtmccpbcbofhmlaaGreatDoorH
import Derived.Test.YtmccpbcbofhmlaaGreatDoorE
import Derived.Deep.Slices
import Derived.ChangeFn
import GoSem.ClaimJoined
import Derived.Test.YtmccpbcbofhmlaaGreatDoorRows
import Derived.Test.YtmccpbcbofhmlaaGreatDoorCards
import Derived.Test.YtmccpbcbofhmlaaGreatDoorTie
import Derived.ProofKit
import Derived.OpenShut
import Derived.Deep.DeepHandedRow
import Derived.Deep.DeepWitnessRowRef
import Derived.Lib.LaidTab
import Derived.LaidSub
import Derived.LaidLaws
import Derived.Shelf.Vars
import Derived.ChangeMaps5
import Derived.ReadAgain
set_option linter.all false
namespace Go.Proofs.YtmccpbcbofhmlaaGreatDoor
open Go Vc
set_option maxRecDepth 10000
def rightRel (rels : List Rel) (r : Rel) : Prop := (∀ c ∈ r.cols, 1 ≤ c.ty ∧ c.ty ≤ 4) ∧ (r.view = true → colsT (tablesM rels) r.plan = .ok (r.cols.map (·.ty)))
def rightP (rels : List Rel) : Prop := (∀ r ∈ rels, rightRel rels r) ∧ (tablesM rels).length ≤ 8
set_option maxHeartbeats 4000000 in
theorem ct_right {M : Mem} {rels : List Rel} {rv : Value} (hr : RS M (RRel M) 14 rels rv) (hlen : rels.length ≤ 1048576) (hcols : ∀ r ∈ rels, r.cols.length ≤ 1048576) (T : Tm) :
    CtT Tryz.prog 9 [rv] T M [] [] (fun r _ _ _ => ∃ b, r = .bool b ∧ (b = true → rightP rels)) noPan := by
  have hr0 := hr
  obtain ⟨hbk, ra, rc, rfl, hle, _, hg⟩ := RS_elim (by decide) (fun _ _ => RRel_len) hr
  refine ct_run mx bod9 Tryz.func9 rfl (by rw [nt9]; exact Nat.le_of_ble_eq_true rfl) (dr := dr9) (by kernel_rfl) rs9 ?_
  intro hno _
  simp +contextual only [go_sem, Rcb, Rbk, sevalprocAttr]
  refine rCall_pure (ct_Tables12 hr0 hlen hcols T) ?_ (fun _ _ _ _ h => h.elim)
  rintro tv M0 hM0 hno0 htv
  obtain ⟨htb, ta, tc, rfl, _⟩ := RS_elim (by decide) (fun _ _ => RTb_len) htv
  simp +contextual only [go_sem, Rcb, Rbk, sevalprocAttr]
  refine loop_range rels.length 15 [(3, .slice ta (tablesM rels).length tc), (13, .slice ra rels.length rc), (14, .int .i64 (rels.length : Int))]
    (fun i e h => ∃ N' M', ExtT T N' ∧ Ext M0 M' ∧ (∀ (j : Nat) (hj : j < rels.length), j < i → rightRel rels rels[j]) ∧ h = ⟨N', M', [], []⟩)
    0 (by omega) (by simp only [live, go_sem, Rcb, Rbk, sevalprocAttr]) (by simp only [go_sem, Rcb, Rbk, sevalprocAttr]) ⟨T, M0, ExtT.rfl', Ext.rfl', fun j _ h => by omega, rfl⟩ ?_
  rintro i e h hi hlv ht ⟨N1, M1, hN1, hM1, hall, rfl⟩
  simp only [live] at hlv
  by_cases hlt : i < rels.length
  · obtain ⟨b', o', cs', rfl, hat, hrx⟩ := hg i rels[i] (List.getElem?_eq_getElem hlt)
    obtain ⟨ca, cn, s1, a1, n1, a2, n2, a3, n3, rfl, hs1, hcs, hpl⟩ := RRel_form (RRel_ext (hM0.trans hM1) _ _ hrx)
    obtain ⟨hcb, _, hcg⟩ : rels[i].cols.length ≤ 140737488355328 ∧ rels[i].cols.length ≤ cn ∧ ∀ (j : Nat) (x : Co), rels[i].cols[j]? = some x → ∃ b o cs, ca = some ⟨b, o, none⟩ ∧ At M1 b (o + j * 2) cs ∧ RCo x cs := by
      obtain ⟨h1, a', c', h2, h3, _, h4⟩ := RS_elim (by decide) (fun _ _ => RCo_len) hcs
      injection h2 with h5 h6 h7
      subst h5 h7
      exact ⟨h1, h3, h4⟩
    have y := At14 (hat.ext (hM0.trans hM1))
    simp +contextual only [go_sem, Rcb, Rbk, sevalprocAttr, hlv, ht, hlt, y, hs1]
    intro b5 T5 hb5 hT5 hTb5
    have hTT := hN1.trans hT5
    refine loop_rangeC rels[i].cols.length 22 [(3, .slice ta (tablesM rels).length tc), (5, .pointer (some ⟨b5, 0, none⟩)), (13, .slice (some ⟨b', o', none⟩) rels.length rc), (14, .int .i64 (rels.length : Int)), (15, .int .i64 (i : Int)), (20, .slice ca rels[i].cols.length cn), (21, .int .i64 (rels[i].cols.length : Int))]
      (fun j e h => ∃ N' M', ExtT T5 N' ∧ Ext M1 M' ∧ M' b5 = some [st rels[i].name, .slice ca rels[i].cols.length cn, .bool rels[i].view, .int .i64 rels[i].plan.k, .int .i64 rels[i].plan.n, .int .i64 rels[i].plan.x.k, .int .i64 rels[i].plan.x.v.k, .int .i64 rels[i].plan.x.v.n, st rels[i].plan.x.v.t, .int .i64 rels[i].plan.x.c, s1, .slice a1 rels[i].plan.xs.length n1, .slice a2 rels[i].plan.ags.length n2, .slice a3 rels[i].plan.kids.length n3] ∧ (∀ (j' : Nat) (hj : j' < rels[i].cols.length), j' < j → 1 ≤ rels[i].cols[j'].ty ∧ rels[i].cols[j'].ty ≤ 4) ∧ h = ⟨N', M', [], []⟩)
      0 (by omega) (by simp only [live, hlv, ht, go_sem, Rcb, Rbk, sevalprocAttr]) (by simp only [go_sem, Rcb, Rbk, sevalprocAttr]) (Close_freeze fun he h5 _ => Close_id ⟨T5, _, ExtT.rfl', he, h5, fun j' _ h => by omega, rfl⟩) ?_
    clear hlv ht
    rintro j e h hj hlv ht ⟨N2, M2, hN2, hM2, h5, hty, rfl⟩
    simp only [live] at hlv
    have w := At14 (At_self h5)
    simp only [Nat.zero_add] at w
    by_cases hlj : j < rels[i].cols.length
    · obtain ⟨b'', o'', cs'', rfl, hat2, hrx2⟩ := hcg j rels[i].cols[j] (List.getElem?_eq_getElem hlj)
      unfold RCo at hrx2; subst hrx2
      obtain ⟨x0, x1⟩ := At2 (hat2.ext hM2)
      simp +contextual only [go_sem, Rcb, Rbk, sevalprocAttr, hlv, ht, hlj, x0, x1]
      intro b7 T7 hb7 hT7 hTb7
      by_cases hA : rels[i].cols[j].ty < 1
      · simp +contextual only [go_sem, Rcb, Rbk, sevalprocAttr, hlv, ht, hlj, hb7, hA]
        exact Close_drop (end_none (hTT.trans (hN2.trans hT7)) ⟨false, rfl, fun h => by cases h⟩)
      · by_cases hB : 4 < rels[i].cols[j].ty
        · simp +contextual only [go_sem, Rcb, Rbk, sevalprocAttr, hlv, ht, hlj, hb7, hA, hB]
          exact Close_drop (end_none (hTT.trans (hN2.trans hT7)) ⟨false, rfl, fun h => by cases h⟩)
        · simp +contextual only [go_sem, Rcb, Rbk, sevalprocAttr, hlv, ht, hlj, hb7, hA, hB]
          refine lp_close (Close_drop (Close_id ⟨rels[i].cols.length - (j + 1), by omega, rfl, j + 1, by omega, rfl, ?_, ?_, T7, M2, hN2.trans hT7, hM2, h5, ?_, rfl⟩))
          · simp only [live, hlv, go_sem, Rcb, Rbk, sevalprocAttr]
          · simp only [ht, go_sem, Rcb, Rbk, sevalprocAttr, wrap_succ j (by omega)]
          · intro j' hj' hlt'
            rcases Nat.lt_or_ge j' j with h1 | h1
            · exact hty j' hj' h1
            · have : j' = j := by omega
              subst this
              omega
    · have : j = rels[i].cols.length := by omega
      subst this
      have htyA : ∀ c ∈ rels[i].cols, 1 ≤ c.ty ∧ c.ty ≤ 4 := by
        intro c hc
        obtain ⟨j', hj', rfl⟩ := List.getElem_of_mem hc
        exact hty j' hj' hj'
      have hnext : rightRel rels rels[i] → ∀ (j : Nat) (hj : j < rels.length), j < i + 1 → rightRel rels rels[j] := by
        intro hri j hj hlt'
        rcases Nat.lt_or_ge j i with h1 | h1
        · exact hall j hj h1
        · have : j = i := by omega
          subst this
          exact hri
      cases hV : rels[i].view with
      | false =>
        simp +contextual only [go_sem, Rcb, Rbk, sevalprocAttr, hlv, ht, hlj, w, hV]
        refine lp_close (Close_id ⟨rels.length - (i + 1), by omega, rfl, i + 1, by omega, rfl, ?_, ?_, N2, M2, hTT.trans hN2, hM1.trans hM2, hnext ⟨htyA, fun h => by rw [hV] at h; cases h⟩, rfl⟩)
        · simp only [live, hlv, go_sem, Rcb, Rbk, sevalprocAttr]
        · simp only [hlv, go_sem, Rcb, Rbk, sevalprocAttr, wrap_succ i (by omega)]
      | true =>
        simp +contextual only [go_sem, Rcb, Rbk, sevalprocAttr, hlv, ht, hlj, w, hV, hs1]
        refine rCall_pure (ct_Cols (RS_ext (hM1.trans hM2) (RTb_ext (hM1.trans hM2)) htv) (RPl_ext hM2 _ _ hpl) N2) ?_ (fun _ _ _ _ h => h.elim)
        rintro r M3 hM3 hno3 hr5
        obtain ⟨sv, er, rfl⟩ := tupL_form hr5
        replace h5 := hM3 _ _ h5
        replace w := At14 (At_self h5)
        simp only [Nat.zero_add] at w
        have hT3 := hTT.trans hN2
        cases hct : colsT (tablesM rels) rels[i].plan with
        | error er2 =>
          rw [hct] at hr5
          obtain ⟨hne2, sv2, hsv⟩ := hr5
          injection hsv with hsv
          simp only [Array.mk.injEq, List.cons.injEq, and_true, Value.int.injEq, true_and] at hsv
          obtain ⟨rfl, rfl⟩ := hsv
          simp +contextual only [go_sem, Rcb, Rbk, sevalprocAttr, hlv, w, hne2]
          exact end_none hT3 ⟨false, rfl, fun h => by cases h⟩
        | ok t =>
          rw [hct] at hr5
          obtain ⟨sv2, hsv, hts⟩ := hr5
          injection hsv with hsv
          simp only [Array.mk.injEq, List.cons.injEq, and_true, Value.int.injEq, true_and] at hsv
          obtain ⟨rfl, rfl⟩ := hsv
          obtain ⟨htb2, wa, wc, rfl, _, _, htg⟩ := RS_elim (by decide) (fun _ _ => RI_len) hts
          by_cases hl : t.length = rels[i].cols.length
          · simp +contextual only [go_sem, Rcb, Rbk, sevalprocAttr, hlv, w, hl]
            refine loop_range rels[i].cols.length 57 [(3, .slice ta (tablesM rels).length tc), (5, .pointer (some ⟨b5, 0, none⟩)), (13, .slice (some ⟨b', o', none⟩) rels.length rc), (14, .int .i64 (rels.length : Int)), (15, .int .i64 (i : Int)), (8, .slice wa rels[i].cols.length wc), (56, .int .i64 (rels[i].cols.length : Int))]
              (fun j e h => (∀ (j' : Nat) (hj : j' < rels[i].cols.length), j' < j → t[j']? = some rels[i].cols[j'].ty) ∧ h = ⟨N2, M3, [], []⟩)
              0 (by omega) (by simp only [live, hlv, hl, go_sem, Rcb, Rbk, sevalprocAttr]) (by simp only [go_sem, Rcb, Rbk, sevalprocAttr]) ⟨fun j' _ h => by omega, rfl⟩ ?_
            clear hlv ht hlj hj e
            rintro j e h hj hlv ht ⟨hcm, rfl⟩
            simp only [live] at hlv
            by_cases hlj : j < rels[i].cols.length
            · obtain ⟨b'', o'', cs'', rfl, hat2, hrx2⟩ := hcg j rels[i].cols[j] (List.getElem?_eq_getElem hlj)
              unfold RCo at hrx2; subst hrx2
              obtain ⟨x0, x1⟩ := At2 (hat2.ext (hM2.trans hM3))
              have hjt : j < t.length := by omega
              obtain ⟨bt, ot, ctt, rfl, hatt, hrt⟩ := htg j t[j] (List.getElem?_eq_getElem hjt)
              unfold RI at hrt; subst hrt
              have w0 := At1 hatt
              rw [Nat.mul_one] at w0
              simp +contextual only [go_sem, Rcb, Rbk, sevalprocAttr, hlv, ht, hlj]
              refine draw_all ?_
              by_cases he : t[j] = rels[i].cols[j].ty
              · simp +contextual only [go_sem, Rcb, Rbk, sevalprocAttr, hlv, ht, hlj, x0, x1, w0, w, he]
                refine lp_close (Close_id ⟨rels[i].cols.length - (j + 1), by omega, rfl, j + 1, by omega, rfl, ?_, ?_, ?_, rfl⟩)
                · simp only [live, hlv, go_sem, Rcb, Rbk, sevalprocAttr]
                · simp only [ht, go_sem, Rcb, Rbk, sevalprocAttr, wrap_succ j (by omega)]
                · intro j' hj' hlt'
                  rcases Nat.lt_or_ge j' j with h1 | h1
                  · exact hcm j' hj' h1
                  · have : j' = j := by omega
                    subst this
                    rw [List.getElem?_eq_getElem hjt, he]
              · simp +contextual only [go_sem, Rcb, Rbk, sevalprocAttr, hlv, ht, hlj, x0, x1, w0, w, he]
                exact end_none hT3 ⟨false, rfl, fun h => by cases h⟩
            · have : j = rels[i].cols.length := by omega
              subst this
              have htt : t = rels[i].cols.map (·.ty) := by
                apply List.ext_getElem?
                intro j
                rcases Nat.lt_or_ge j rels[i].cols.length with h1 | h1
                · rw [hcm j h1 h1, List.getElem?_map, List.getElem?_eq_getElem h1]; rfl
                · rw [List.getElem?_eq_none (by omega), List.getElem?_eq_none (by rw [List.length_map]; exact h1)]
              simp +contextual only [go_sem, Rcb, Rbk, sevalprocAttr, hlv, ht, hlj]
              refine lp_close (Close_id ⟨rels.length - (i + 1), by omega, rfl, i + 1, by omega, rfl, ?_, ?_, N2, M3, hT3, (hM1.trans hM2).trans hM3, hnext ⟨htyA, fun _ => by rw [hct, htt]⟩, rfl⟩)
              · simp only [live, hlv, go_sem, Rcb, Rbk, sevalprocAttr]
              · simp only [hlv, go_sem, Rcb, Rbk, sevalprocAttr, wrap_succ i (by omega)]
          · have hl' : ¬ ((t.length : Int) = (rels[i].cols.length : Int)) := by omega
            simp +contextual only [go_sem, Rcb, Rbk, sevalprocAttr, hlv, w, hl']
            exact end_none hT3 ⟨false, rfl, fun h => by cases h⟩
  · have : i = rels.length := by omega
    subst this
    simp +contextual only [go_sem, Rcb, Rbk, sevalprocAttr, hlv, ht, hlt]
    refine end_none hN1 ⟨_, rfl, fun h => ⟨fun r hr => ?_, by have h2 := of_decide_eq_true h; omega⟩⟩
    obtain ⟨j, hj, rfl⟩ := List.getElem_of_mem hr
    exact hall j hj hj
def rel0 {α : Type} (r : Except Int α) (v : α × Int) : Prop := match r with
  | .ok y => v = (y, 0)
  | .error e => e ≠ 0 ∧ v.2 = e
theorem putE_ne {e f : Int} (h : e ≠ 0) : putE e f = e := by unfold putE; rw [if_neg h]
theorem putE_zero (f : Int) : putE 0 f = f := by unfold putE; rw [if_pos rfl]
theorem placeR_rel (names : List (Bs × Bs)) (tab name : Bs) : (∃ i : Nat, placeM names tab name = .ok i ∧ placeI names tab name = i) ∨ (placeM names tab name = .error 7 ∧ placeI names tab name = -1) := by
  unfold placeM placeI
  cases placeG tab name 0 none names with
  | none => exact .inr ⟨rfl, rfl⟩
  | some k =>
    cases k with
    | none => exact .inr ⟨rfl, rfl⟩
    | some i => exact .inl ⟨i, rfl, rfl⟩
mutual
theorem exprR_spec (names : List (Bs × Bs)) : ∀ (x : X), rel0 (exprB names x) (exprR names x 0) ∧ ∀ e, e ≠ 0 → (exprR names x e).2 = e
  | .mk k v tab name kids => by
    obtain ⟨h1, h2⟩ := exprsR_spec names kids
    constructor
    · rw [exprB, exprR]
      by_cases h19 : 19 ≤ k
      · rw [if_pos h19, if_pos h19, putE_zero]; exact ⟨by decide, rfl⟩
      · rw [if_neg h19, if_neg h19]
        by_cases hk2 : k = 2
        · rw [if_pos hk2, if_pos hk2]
          rcases placeR_rel names tab name with ⟨i, ha, hb⟩ | ⟨ha, hb⟩
          · rw [ha, hb, if_neg (by omega)]; rfl
          · rw [ha, hb, if_pos (by decide), putE_zero]; exact ⟨by decide, rfl⟩
        · rw [if_neg hk2, if_neg hk2]
          by_cases hk1 : k = 1
          · rw [if_pos hk1, if_pos hk1]; subst hk1; rfl
          · rw [if_neg hk1, if_neg hk1]
            revert h1
            cases exprsB names kids with
            | ok l => intro h1; unfold rel0 at h1; simp only at h1; rw [h1]; rfl
            | error e => intro h1; exact h1
    · intro e he
      rw [exprR]
      by_cases h19 : 19 ≤ k
      · rw [if_pos h19]; exact putE_ne he
      · rw [if_neg h19]
        by_cases hk2 : k = 2
        · rw [if_pos hk2]
          simp only
          split
          · exact putE_ne he
          · rfl
        · rw [if_neg hk2]
          by_cases hk1 : k = 1
          · rw [if_pos hk1]
          · rw [if_neg hk1]; exact h2 e he
theorem exprsR_spec (names : List (Bs × Bs)) : ∀ (l : List X), rel0 (exprsB names l) (exprsR names l 0) ∧ ∀ e, e ≠ 0 → (exprsR names l e).2 = e
  | [] => ⟨by rw [exprsB, exprsR]; rfl, fun e he => by rw [exprsR]⟩
  | x :: l => by
    obtain ⟨h1, h2⟩ := exprR_spec names x
    obtain ⟨h3, h4⟩ := exprsR_spec names l
    constructor
    · rw [exprsB, exprsR]
      revert h1
      cases exprB names x with
      | error e => intro h1; exact ⟨h1.1, by simp only; rw [h1.2]; exact h4 e h1.1⟩
      | ok y =>
        intro h1
        unfold rel0 at h1
        simp only at h1
        rw [h1]
        simp only
        revert h3
        cases exprsB names l with
        | error e => intro h3; exact h3
        | ok m => intro h3; unfold rel0 at h3; simp only at h3; rw [h3]; rfl
    · intro e he
      rw [exprsR]
      simp only
      rw [h2 e he]; exact h4 e he
end
theorem dec_comm {α : Type} [DecidableEq α] (a b : α) : decide (a = b) = decide (b = a) := by
  by_cases h : a = b
  · subst h; rfl
  · rw [decide_eq_false h, decide_eq_false (fun h2 => h h2.symm)]
theorem sameV_comm (a b : V) : sameV a b = sameV b a := by unfold sameV; rw [dec_comm a.k, dec_comm a.n, dec_comm a.t]
mutual
theorem alikeX_comm : ∀ (x y : X), alikeX x y = alikeX y x
  | .mk k v tab name kids, .mk k' v' tab' name' kids' => by
    rw [alikeX, alikeX, dec_comm k k', dec_comm tab tab', dec_comm name name', sameV_comm, alikeL_comm kids kids']
    by_cases h : k' = k
    · subst h; rfl
    · rw [decide_eq_false h]; rfl
theorem alikeL_comm : ∀ (l m : List X), alikeL l m = alikeL m l
  | [], [] => rfl
  | [], y :: m => by rw [alikeL, alikeL] <;> simp
  | x :: l, [] => by rw [alikeL, alikeL] <;> simp
  | x :: l, y :: m => by rw [alikeL, alikeL, alikeX_comm x y, alikeL_comm l m]
end
def relG {α : Type} (r : Except Int (α × List Ag)) (v : α × Int × List Ag) : Prop := match r with
  | .ok y => v = (y.1, 0, y.2)
  | .error e => e ≠ 0 ∧ v.2.1 = e
theorem argR_spec (names : List (Bs × Bs)) (kids : List X) : rel0 (argB names kids) (argR names kids 0) ∧ ∀ e, e ≠ 0 → (argR names kids e).2 = e := by
  cases kids with
  | nil => exact ⟨rfl, fun _ _ => rfl⟩
  | cons x l => exact exprR_spec names x
mutual
theorem exprH_spec (names : List (Bs × Bs)) (keys : List X) : ∀ (x : X), (∀ ags, relG (exprG names keys x ags) (exprH names keys x 0 ags)) ∧ ∀ e ags, e ≠ 0 → (exprH names keys x e ags).2.1 = e
  | .mk k v tab name kids => by
    obtain ⟨h1, h2⟩ := exprsH_spec names keys kids
    have hp : (fun y => alikeX y (.mk k v tab name kids)) = fun y => alikeX (.mk k v tab name kids) y := by funext y; exact alikeX_comm _ _
    constructor
    · intro ags
      rw [exprG, exprH, hp]
      cases keys.findIdx? (fun y => alikeX (.mk k v tab name kids) y) with
      | some i => rfl
      | none =>
        simp only
        by_cases h19 : 19 ≤ k
        · rw [if_pos h19, if_pos h19]
          have ha := (argR_spec names kids).1
          revert ha
          cases argB names kids with
          | ok a => intro ha; unfold rel0 at ha; simp only at ha; rw [ha]; rfl
          | error e => intro ha; exact ⟨ha.1, ha.2⟩
        · rw [if_neg h19, if_neg h19]
          by_cases hk2 : k = 2
          · rw [if_pos hk2, if_pos hk2, putE_zero]; exact ⟨by decide, rfl⟩
          · rw [if_neg hk2, if_neg hk2]
            by_cases hk1 : k = 1
            · rw [if_pos hk1, if_pos hk1]; subst hk1; rfl
            · rw [if_neg hk1, if_neg hk1]
              have h3 := h1 ags
              revert h3
              cases exprsG names keys kids ags with
              | ok l => intro h3; unfold relG at h3; simp only at h3; rw [h3]; rfl
              | error e => intro h3; exact h3
    · intro e ags he
      rw [exprH]
      cases keys.findIdx? (fun y => alikeX y (.mk k v tab name kids)) with
      | some i => rfl
      | none =>
        simp only
        by_cases h19 : 19 ≤ k
        · rw [if_pos h19]; exact (argR_spec names kids).2 e he
        · rw [if_neg h19]
          by_cases hk2 : k = 2
          · rw [if_pos hk2]; exact putE_ne he
          · rw [if_neg hk2]
            by_cases hk1 : k = 1
            · rw [if_pos hk1]
            · rw [if_neg hk1]; exact h2 e ags he
theorem exprsH_spec (names : List (Bs × Bs)) (keys : List X) : ∀ (l : List X), (∀ ags, relG (exprsG names keys l ags) (exprsH names keys l 0 ags)) ∧ ∀ e ags, e ≠ 0 → (exprsH names keys l e ags).2.1 = e
  | [] => ⟨fun ags => by rw [exprsG, exprsH]; rfl, fun e ags he => by rw [exprsH]⟩
  | x :: l => by
    obtain ⟨h1, h2⟩ := exprH_spec names keys x
    obtain ⟨h3, h4⟩ := exprsH_spec names keys l
    constructor
    · intro ags
      rw [exprsG, exprsH]
      have h5 := h1 ags
      revert h5
      cases exprG names keys x ags with
      | error e => intro h5; exact ⟨h5.1, by simp only; rw [h5.2]; exact h4 e _ h5.1⟩
      | ok y =>
        intro h5
        unfold relG at h5
        simp only at h5
        rw [h5]
        simp only
        have h6 := h3 y.2
        revert h6
        cases exprsG names keys l y.2 with
        | error e => intro h6; exact h6
        | ok m => intro h6; unfold relG at h6; simp only at h6; rw [h6]; rfl
    · intro e ags he
      rw [exprsH]
      simp only
      rw [h2 e ags he]; exact h4 e _ he
end
def flatS : List Bs → Bs
  | [] => []
  | b :: l => barS b ++ flatS l
theorem flatS_app : ∀ (l : List Bs) (x : Bs), flatS (l ++ [x]) = flatS l ++ barS x
  | [], x => by simp [flatS]
  | b :: l, x => by rw [List.cons_append, flatS, flatS, flatS_app l x, List.append_assoc]
theorem pre_bar {F : Bs} : ∀ {a b : Bs}, 124 ∉ a → 124 ∉ b → a ++ [124] <+: b ++ 124 :: F → a = b
  | [], [], _, _, _ => rfl
  | [], y :: b, _, hb, h => by
    rw [List.nil_append, List.cons_append, List.cons_prefix_cons] at h
    exact (hb (by rw [h.1]; exact List.mem_cons_self)).elim
  | x :: a, [], ha, _, h => by
    rw [List.nil_append, List.cons_append, List.cons_prefix_cons] at h
    exact (ha (by rw [h.1]; exact List.mem_cons_self)).elim
  | x :: a, y :: b, ha, hb, h => by
    rw [List.cons_append, List.cons_append, List.cons_prefix_cons] at h
    rw [h.1, pre_bar (fun h2 => ha (List.mem_cons_of_mem _ h2)) (fun h2 => hb (List.mem_cons_of_mem _ h2)) h.2]
theorem flat_no {a : Bs} (ha : 124 ∉ a) (h0 : a ≠ []) (had : List Bs) : ¬ a ++ [124] <+: flatS had := by
  intro h
  cases a with
  | nil => exact h0 rfl
  | cons x a =>
    cases had with
    | nil => rw [flatS, List.cons_append] at h; exact absurd (List.prefix_nil.1 h) (by simp)
    | cons b had =>
      rw [flatS, barS, List.cons_append, List.append_assoc, List.cons_append, List.cons_append, List.cons_prefix_cons] at h
      exact ha (by rw [h.1]; exact List.mem_cons_self)
theorem flat_step {a : Bs} (ha : 124 ∉ a) (h0 : a ≠ []) (had : List Bs) : ∀ (b : Bs) (k : Nat), 124 ∉ b → barS a <+: (b ++ 124 :: flatS had).drop k → ∃ k', barS a <+: (flatS had).drop k'
  | [], 0, _, h => by
    rw [List.drop_zero, List.nil_append, barS, List.cons_append, List.cons_append, List.nil_append, List.cons_prefix_cons] at h
    exact (flat_no ha h0 had h.2).elim
  | [], k + 1, _, h => ⟨k, h⟩
  | y :: b, 0, hb, h => by
    rw [List.drop_zero, barS, List.cons_append, List.cons_append, List.cons_append, List.cons_prefix_cons] at h
    exact (hb (by rw [h.1]; exact List.mem_cons_self)).elim
  | y :: b, k + 1, hb, h => flat_step ha h0 had b k (fun h2 => hb (List.mem_cons_of_mem _ h2)) h
theorem flat_mem {a : Bs} (ha : 124 ∉ a) (h0 : a ≠ []) : ∀ (had : List Bs) (k : Nat), (∀ b ∈ had, 124 ∉ b) → barS a <+: (flatS had).drop k → a ∈ had
  | [], k, _, h => by
    rw [flatS, List.drop_nil] at h
    exact absurd (List.prefix_nil.1 h) (by simp [barS])
  | b :: had, 0, hb, h => by
    have e1 : flatS (b :: had) = 124 :: (b ++ 124 :: flatS had) := by
      rw [flatS, barS, List.append_assoc, List.append_assoc]; rfl
    rw [List.drop_zero, e1, show barS a = 124 :: (a ++ [124]) from rfl, List.cons_prefix_cons] at h
    have h2 := h.2
    rw [pre_bar ha (hb b List.mem_cons_self) h2]
    exact List.mem_cons_self
  | b :: had, k + 1, hb, h => by
    have h2 : barS a <+: (b ++ 124 :: flatS had).drop k := by
      have e1 : flatS (b :: had) = 124 :: (b ++ 124 :: flatS had) := by
        rw [flatS, barS, List.append_assoc, List.append_assoc]; rfl
      rw [e1, List.drop_succ_cons] at h
      exact h
    obtain ⟨k', h3⟩ := flat_step ha h0 had b k (hb b List.mem_cons_self) h2
    exact List.mem_cons_of_mem _ (flat_mem ha h0 had k' (fun c hc => hb c (List.mem_cons_of_mem _ hc)) h3)
theorem flat_has {a : Bs} : ∀ (had : List Bs), a ∈ had → ∃ k, barS a <+: (flatS had).drop k
  | b :: had, h => by
    rcases List.mem_cons.1 h with rfl | h
    · exact ⟨0, by rw [List.drop_zero, flatS]; exact List.prefix_append _ _⟩
    · obtain ⟨k, hk⟩ := flat_has had h
      exact ⟨(barS b).length + k, by rw [flatS, List.drop_append, List.drop_eq_nil_of_le (by omega), Nat.add_sub_cancel_left, List.nil_append]; exact hk⟩
theorem occA_iff {seen pat : Bs} (hp : pat ≠ []) : occA seen pat = true ↔ ∃ k, pat <+: seen.drop k := by
  unfold occA occR
  rw [List.any_eq_true]
  constructor
  · rintro ⟨k, _, h⟩
    exact ⟨k, List.prefix_iff_eq_take.2 (of_decide_eq_true h).symm⟩
  · rintro ⟨k, h⟩
    refine ⟨k, ?_, decide_eq_true (List.prefix_iff_eq_take.1 h).symm⟩
    have h2 := h.length_le
    rw [List.length_drop] at h2
    have h3 : 0 < pat.length := List.length_pos_iff.2 hp
    rw [List.mem_range]; omega
theorem occ_had {a : Bs} {had : List Bs} (ha : 124 ∉ a) (h0 : a ≠ []) (hb : ∀ b ∈ had, 124 ∉ b) : occA (flatS had) (barS a) = had.contains a := by
  rw [Bool.eq_iff_iff, occA_iff (by simp [barS]), List.contains_iff_mem]
  exact ⟨fun ⟨k, h⟩ => flat_mem ha h0 had k hb h, flat_has had⟩
def okAs (a : Bs) : Prop := 124 ∉ a ∧ a ≠ []
theorem fromR_spec {rels : List Rel} : ∀ (l : List So) (i : Nat) (p : Pl) (names : List (Bs × Bs)) (had : List Bs), (∀ s ∈ l, okAs (asOf s)) → (∀ b ∈ had, okAs b) →
    rel0 (fromG rels l i p names had) (fromR rels l i p names (flatS had) 0) ∧ ∀ seen e, e ≠ 0 → (fromR rels l i p names seen e).2 = e
  | [], i, p, names, had, _, _ => ⟨by rw [fromG, fromR]; rfl, fun seen e he => by rw [fromR]⟩
  | s :: l, i, p, names, had, hl, hh => by
    have hs := hl s List.mem_cons_self
    have hl' : ∀ x ∈ l, okAs (asOf x) := fun x hx => hl x (List.mem_cons_of_mem _ hx)
    have hh' : ∀ b ∈ had ++ [asOf s], okAs b := by
      intro b hb
      rcases List.mem_append.1 hb with h | h
      · exact hh b h
      · rw [List.mem_singleton.1 h]; exact hs
    have hstay : ∀ seen e, e ≠ 0 → (fromR rels (s :: l) i p names seen e).2 = e := by
      intro seen e he
      rw [fromR_cons rels s l i p names seen e rfl rfl rfl rfl]
      have e1 : (if (findG s.name 0 rels).isSome = true then e else putE e 7) = e := by split; rfl; exact putE_ne he
      have e2 : (if occA seen (barS (asOf s)) = true then putE (if (findG s.name 0 rels).isSome = true then e else putE e 7) 7 else if (findG s.name 0 rels).isSome = true then e else putE e 7) = e := by
        rw [e1]; split; exact putE_ne he; rfl
      rw [e2]
      split
      · exact (fromR_spec l 1 _ _ had hl' hh).2 _ e he
      · rw [(exprR_spec _ s.on).2 e he]
        exact (fromR_spec l (i + 1) _ _ had hl' hh).2 _ e he
    refine ⟨?_, hstay⟩
    rw [fromG, fromR_cons rels s l i p names (flatS had) 0 rfl rfl rfl rfl]
    have hoc := occ_had (had := had) hs.1 hs.2 (fun b hb => (hh b hb).1)
    have hgo : ∀ (j : Nat) (P : Pl) (N : List (Bs × Bs)) (seen : Bs) (e : Int), e ≠ 0 → (fromR rels l j P N seen e).2 = e := fun j P N seen e he => (fromR_spec l j P N had hl' hh).2 seen e he
    unfold findM findR
    cases hf : findG s.name 0 rels with
    | none =>
      simp only [Option.isSome_none, Bool.false_eq_true, if_false, putE_zero]
      have e2 : (if occA (flatS had) (barS (asOf s)) = true then putE 7 7 else (7 : Int)) = 7 := by split <;> rfl
      rw [e2]
      split
      · exact ⟨by decide, hgo _ _ _ _ _ (by decide)⟩
      · rw [(exprR_spec _ s.on).2 7 (by decide)]
        exact ⟨by decide, hgo _ _ _ _ _ (by decide)⟩
    | some q =>
      simp only [Option.isSome_some, if_true, Option.getD_some, putE_zero]
      rw [hoc]
      cases hcn : had.contains (asOf s) with
      | true =>
        simp only [if_true]
        split
        · exact ⟨by decide, hgo _ _ _ _ _ (by decide)⟩
        · rw [(exprR_spec _ s.on).2 7 (by decide)]
          exact ⟨by decide, hgo _ _ _ _ _ (by decide)⟩
      | false =>
        simp only [Bool.false_eq_true, if_false]
        rw [← flatS_app]
        split
        · exact (fromR_spec l 1 _ _ (had ++ [asOf s]) hl' hh').1
        · have hx := (exprR_spec (names ++ q.2.map fun c => (asOf s, c.name)) s.on).1
          revert hx
          cases exprB (names ++ q.2.map fun c => (asOf s, c.name)) s.on with
          | error e => intro hx; exact ⟨hx.1, by rw [hx.2]; exact hgo _ _ _ _ _ hx.1⟩
          | ok x =>
            intro hx
            unfold rel0 at hx
            simp only at hx
            rw [hx]
            exact (fromR_spec l (i + 1) _ _ (had ++ [asOf s]) hl' hh').1
theorem rel0_ok {α : Type} {r : Except Int α} {v : α × Int} {y : α} (h : rel0 r v) (hr : r = .ok y) : v = (y, 0) := by rw [hr] at h; exact h
theorem hvR_spec (names : List (Bs × Bs)) (s : Se) (ags : List Ag) : relG (optGB names s.group s.hasH s.hv ags) (hvR names s 0 ags) ∧ ∀ e, e ≠ 0 → (hvR names s e ags).2.1 = e := by
  unfold optGB hvR
  cases s.hasH with
  | true => exact ⟨(exprH_spec names s.group s.hv).1 ags, fun e he => (exprH_spec names s.group s.hv).2 e ags he⟩
  | false => exact ⟨rfl, fun _ _ => rfl⟩
theorem whR_spec (names : List (Bs × Bs)) (s : Se) (p : Pl) : rel0 (match optBB names s.hasW s.wh with | .error e => .error e | .ok w => .ok (if s.hasW = true then filterP w p else p)) (whR names s p 0) ∧ ∀ e, e ≠ 0 → (whR names s p e).2 = e := by
  unfold optBB whR
  cases s.hasW with
  | false => exact ⟨rfl, fun _ _ => rfl⟩
  | true =>
    simp only [if_true]
    obtain ⟨h1, h2⟩ := exprR_spec names s.wh
    refine ⟨?_, h2⟩
    revert h1
    cases exprB names s.wh with
    | error e => intro h1; exact h1
    | ok w => intro h1; rw [rel0_ok h1 rfl]; rfl
theorem bodyR_spec (s : Se) (p : Pl) (names : List (Bs × Bs)) : rel0 (match (if groupedS s = true then groupM s p names else mapM' s p names) with | .error e => .error e | .ok q => .ok (q, if s.star = true then names.map (·.2) else calledL 0 s.items)) (bodyR s p names 0) ∧ ∀ e, e ≠ 0 → (bodyR s p names e).2 = e := by
  unfold bodyR groupM mapM' grpR
  cases hS : s.star with
  | true =>
    simp only [if_true]
    cases hG : groupedS s with
    | true => simp only [if_true, putE_zero]; exact ⟨⟨by decide, rfl⟩, fun e he => putE_ne he⟩
    | false => simp only [if_false, Bool.false_eq_true]; exact ⟨rfl, fun e he => trivial⟩
  | false =>
    simp only [if_false, Bool.false_eq_true]
    cases hG : groupedS s with
    | false =>
      simp only [if_false, Bool.false_eq_true, evsX_false]
      obtain ⟨h1, h2⟩ := exprsR_spec names (s.items.map (·.x))
      refine ⟨?_, h2⟩
      revert h1
      cases exprsB names (s.items.map (·.x)) with
      | error e => intro h1; exact h1
      | ok l => intro h1; simp only; rw [rel0_ok h1 rfl]; rfl
    | true =>
      simp only [if_true, evsX_true]
      obtain ⟨h1, h2⟩ := exprsR_spec names s.group
      obtain ⟨h3, h4⟩ := exprsH_spec names s.group (s.items.map (·.x))
      constructor
      · revert h1
        cases exprsB names s.group with
        | error e => intro h1; exact ⟨h1.1, by simp only; rw [h1.2, ((hvR_spec names s _).2 _ (by rw [h4 e _ h1.1]; exact h1.1)), h4 e _ h1.1]⟩
        | ok keys =>
          intro h1
          rw [rel0_ok h1 rfl]
          simp only
          have h5 := h3 []
          revert h5
          cases exprsG names s.group (s.items.map (·.x)) [] with
          | error e => intro h5; exact ⟨h5.1, by simp only; rw [(hvR_spec names s _).2 _ (by rw [h5.2]; exact h5.1), h5.2]⟩
          | ok it =>
            intro h5
            unfold relG at h5
            simp only at h5
            rw [h5]
            simp only
            have h6 := (hvR_spec names s it.2).1
            revert h6
            cases optGB names s.group s.hasH s.hv it.2 with
            | error e => intro h6; exact h6
            | ok h => intro h6; unfold relG at h6; simp only at h6; rw [h6]; rfl
      · intro e he
        rw [h2 e he, (hvR_spec names s _).2 _ (by rw [h4 e _ he]; exact he), h4 e _ he]
theorem selR2_stay (s : Se) (p : Pl) (names : List (Bs × Bs)) {e : Int} (he : e ≠ 0) : (selR2 s p names e).2 = e := (bodyR_spec s p names).2 e he
theorem selR_spec {rels : List Rel} {s : Se} (hs : ∀ x ∈ s.src, okAs (asOf x)) : rel0 (selB rels s) (selR rels s 0) ∧ ∀ e, e ≠ 0 → (selR rels s e).2 = e := by
  obtain ⟨h1, h2⟩ := fromR_spec (rels := rels) s.src 0 zeroP [] [] hs (by simp)
  have hst : ∀ e, e ≠ 0 → (selR rels s e).2 = e := by
    intro e he
    unfold selR
    simp only
    rw [selR2_stay _ _ _ (by rw [(whR_spec _ s _).2 _ (by rw [h2 _ e he]; exact he), h2 _ e he]; exact he), (whR_spec _ s _).2 _ (by rw [h2 _ e he]; exact he), h2 _ e he]
  refine ⟨?_, hst⟩
  unfold selB selR fromM
  simp only
  rw [flatS] at h1
  revert h1
  cases fromG rels s.src 0 zeroP [] [] with
  | error e =>
    intro h1
    refine ⟨h1.1, ?_⟩
    have h3 := h1.2
    rw [selR2_stay _ _ _ (by rw [(whR_spec _ s _).2 _ (by rw [h3]; exact h1.1), h3]; exact h1.1), (whR_spec _ s _).2 _ (by rw [h3]; exact h1.1), h3]
  | ok f =>
    intro h1
    rw [rel0_ok h1 rfl]
    simp only
    have h3 := (whR_spec f.2 s f.1).1
    revert h3
    cases optBB f.2 s.hasW s.wh with
    | error e => intro h3; exact ⟨h3.1, by rw [selR2_stay _ _ _ (by rw [h3.2]; exact h3.1), h3.2]⟩
    | ok w =>
      intro h3
      rw [rel0_ok h3 rfl]
      simp only
      have h4 := (bodyR_spec s (if s.hasW = true then filterP w f.1 else f.1) f.2).1
      unfold selR2
      simp only
      revert h4
      cases (if groupedS s = true then groupM s (if s.hasW = true then filterP w f.1 else f.1) f.2 else mapM' s (if s.hasW = true then filterP w f.1 else f.1) f.2) with
      | error e => intro h4; exact h4
      | ok q => intro h4; rw [rel0_ok h4 rfl]; rfl
theorem setR_setB {op : Int} (h : 1 ≤ op ∧ op ≤ 4) (a b : Pl) : setR op a b = setB op a b := by
  unfold setR setB
  rcases (show op = 1 ∨ op = 2 ∨ op = 3 ∨ op = 4 by omega) with rfl | rfl | rfl | rfl <;> rfl
theorem partsR_spec {rels : List Rel} {ops : List Int} (ho : ∀ j, j < ops.length → 1 ≤ ops.getD j 0 ∧ ops.getD j 0 ≤ 4) : ∀ (l : List Se) (i : Nat) (p : Pl) (names : List Bs), (∀ s ∈ l, ∀ x ∈ s.src, okAs (asOf x)) → l.length + i ≤ ops.length + 1 →
    rel0 (partsB rels ops i p names l) (partsR rels ops i p names 0 l) ∧ ∀ e, e ≠ 0 → (partsR rels ops i p names e l).2 = e
  | [], i, p, names, _, _ => ⟨by rw [partsB, partsR]; rfl, fun e he => by rw [partsR]⟩
  | s :: l, i, p, names, hl, hn => by
    obtain ⟨h1, h2⟩ := selR_spec (rels := rels) (hl s List.mem_cons_self)
    have hl' : ∀ x ∈ l, ∀ y ∈ x.src, okAs (asOf y) := fun x hx => hl x (List.mem_cons_of_mem _ hx)
    rw [List.length_cons] at hn
    have hst : ∀ e, e ≠ 0 → (partsR rels ops i p names e (s :: l)).2 = e := by
      intro e he
      rw [partsR, h2 e he]
      split
      · exact (partsR_spec ho l 1 _ _ hl' (by omega)).2 e he
      · exact (partsR_spec ho l (i + 1) _ _ hl' (by omega)).2 e he
    refine ⟨?_, hst⟩
    rw [partsB, partsR]
    revert h1
    cases selB rels s with
    | error e =>
      intro h1
      refine ⟨h1.1, ?_⟩
      rw [h1.2]
      split
      · exact (partsR_spec ho l 1 _ _ hl' (by omega)).2 e h1.1
      · exact (partsR_spec ho l (i + 1) _ _ hl' (by omega)).2 e h1.1
    | ok r =>
      intro h1
      rw [rel0_ok h1 rfl]
      simp only
      by_cases hi : i = 0
      · rw [if_pos hi, if_pos hi]
        exact (partsR_spec ho l 1 _ _ hl' (by omega)).1
      · rw [if_neg hi, if_neg hi, setR_setB (ho (i - 1) (by omega))]
        exact (partsR_spec ho l (i + 1) _ _ hl' (by omega)).1
theorem topR_spec (q : Q) (p : Pl) (names : List Bs) : rel0 (topB q (p, names)) (topR q p names 0) ∧ ∀ e, e ≠ 0 → (topR q p names e).2 = e := by
  unfold topB topR
  by_cases hl : 0 ≤ q.limit
  · simp only [if_pos hl]
    obtain ⟨h1, h2⟩ := exprsR_spec (names.map fun n => ([], n)) q.order
    refine ⟨?_, h2⟩
    revert h1
    cases exprsB (names.map fun n => ([], n)) q.order with
    | error e => intro h1; exact h1
    | ok l => intro h1; rw [rel0_ok h1 rfl]; rfl
  · simp only [if_neg hl]; exact ⟨rfl, by simp⟩
structure OkQ (q : Q) : Prop where
  src : ∀ s ∈ q.parts, ∀ x ∈ s.src, okAs (asOf x)
  ops : ∀ j, j < q.ops.length → 1 ≤ q.ops.getD j 0 ∧ q.ops.getD j 0 ≤ 4
  len : q.parts.length ≤ q.ops.length + 1
theorem queryR_spec {rels : List Rel} {q : Q} (hq : OkQ q) : rel0 (queryB rels q) (queryR rels q) := by
  have h1 := (partsR_spec (rels := rels) hq.ops q.parts 0 zeroP [] hq.src (by have := hq.len; omega)).1
  unfold queryB queryR
  simp only
  revert h1
  cases partsB rels q.ops 0 zeroP [] q.parts with
  | error e =>
    intro h1
    refine ⟨h1.1, ?_⟩
    simp only
    rw [h1.2]
    exact (topR_spec q _ _).2 e h1.1
  | ok r =>
    intro h1
    rw [rel0_ok h1 rfl]
    simp only
    have h2 := (topR_spec q r.1 r.2).1
    revert h2
    cases hh : topB q (r.1, r.2) with
    | error e => intro h2; exact h2
    | ok p => intro h2; rw [rel0_ok h2 rfl]; rfl
theorem queryB_ne {rels : List Rel} {q : Q} (hq : OkQ q) : ∀ e, queryB rels q = .error e → e ≠ 0 := by
  intro e he
  have h1 := queryR_spec (rels := rels) hq
  rw [he] at h1
  exact h1.1
theorem orE_eq0 {a b : Int} (h : orE a b = 0) : a = 0 ∧ b = 0 := by
  unfold orE at h
  split at h
  · rename_i h1; exact (h1 h).elim
  · rename_i h1; exact ⟨Classical.not_not.1 h1, h⟩
mutual
theorem shape_ok (d n : Nat) : ∀ (x : X), (shapeX d n x).1 = 0 → okX x ∧ (shapeX d n x).2 = n + cntX x
  | .mk k v tab name kids, h => by
    rw [shapeX] at h ⊢
    rw [cntX]
    split at h
    · cases h
    · rename_i c1
      rw [if_neg c1]
      split at h
      · cases h
      · rename_i c2
        rw [if_neg c2]
        split at h
        · cases h
        · rename_i hkk
          rw [if_neg hkk]
          have hk0 := Classical.not_not.1 hkk
          split at h
          · rename_i k1
            rw [if_pos k1]
            subst k1
            have hw : wrongV v = 0 := h
            have : kids = [] := by
              have h1 : kidsN 1 = 0 := by decide
              exact List.length_eq_zero_iff.1 (by omega)
            subst this
            refine ⟨⟨hk0, fun _ => ?_, trivial⟩, rfl⟩
            unfold wrongV at hw
            by_cases a1 : v.k = 1
            · omega
            · by_cases a2 : v.k = 2
              · omega
              · by_cases a3 : v.k = 3
                · omega
                · by_cases a4 : v.k = 4
                  · omega
                  · rw [if_neg a1, if_neg a2, if_neg a3, if_neg a4] at hw; cases hw
          · rename_i k1
            rw [if_neg k1]
            split at h
            · cases h
            · rename_i c3
              rw [if_neg c3]
              obtain ⟨h1, h2⟩ := shapeL_ok (d + 1) (n + 1) kids h
              exact ⟨⟨hk0, fun hk => (k1 hk).elim, h1⟩, by rw [h2]; omega⟩
theorem shapeL_ok (d n : Nat) : ∀ (l : List X), (shapeL d n l).1 = 0 → okXs l ∧ (shapeL d n l).2 = n + cntL l
  | [], _ => ⟨trivial, by rw [shapeL, cntL]; rfl⟩
  | x :: l, h => by
    rw [shapeL] at h ⊢
    rw [cntL]
    split at h
    · rename_i hx; exact (hx h).elim
    · rename_i hx
      rw [if_neg hx]
      obtain ⟨h1, h2⟩ := shape_ok d n x (Classical.not_not.1 hx)
      obtain ⟨h3, h4⟩ := shapeL_ok d _ l h
      exact ⟨⟨h1, h3⟩, by rw [h4, h2]; omega⟩
end
theorem exprW_ok {x : X} (h : exprW x = 0) : okX x ∧ cntX x ≤ 200 := by
  obtain ⟨h1, h2⟩ := shape_ok 1 0 x h
  have h3 := (shapeX_le 1 0 x (by omega)).2 h
  exact ⟨h1, by omega⟩
theorem exprsW_ok : ∀ {l : List X}, exprsW l = 0 → ∀ x ∈ l, okX x ∧ cntX x ≤ 200
  | [], _, x, hx => by cases hx
  | y :: l, h, x, hx => by
    rw [exprsW] at h
    obtain ⟨h1, h2⟩ := orE_eq0 h
    rcases List.mem_cons.1 hx with rfl | hx
    · exact exprW_ok h1
    · exact exprsW_ok h2 x hx
theorem itemsW_ok : ∀ {l : List It}, itemsW l = 0 → (∀ x ∈ l, okX x.x) ∧ cntL (l.map (·.x)) ≤ l.length * 200
  | [], _ => ⟨fun x hx => (by cases hx), by simp [cntL]⟩
  | y :: l, h => by
    rw [itemsW] at h
    obtain ⟨h1, h2⟩ := orE_eq0 h
    simp only [firstW] at h1
    obtain ⟨h3, h4⟩ := exprW_ok (orE_eq0 h1).1
    obtain ⟨h5, h6⟩ := itemsW_ok h2
    refine ⟨fun x hx => ?_, ?_⟩
    · rcases List.mem_cons.1 hx with rfl | hx
      · exact h3
      · exact h5 x hx
    · rw [List.map_cons, cntL, List.length_cons, Nat.succ_mul]; omega
theorem chOk_ne {i : Nat} {c : UInt8} (h : chOk i c = true) : c ≠ 124 := by
  rintro rfl
  unfold chOk at h
  have h1 : letterB (124 : UInt8).toNat = false := by decide
  have h2 : digitB (124 : UInt8).toNat = false := by decide
  rw [h1, h2] at h
  simp at h
theorem okFrom_ne : ∀ {l : Bs} {i : Nat}, okFrom i l = true → 124 ∉ l
  | [], _, _ => by simp
  | c :: l, i, h => by
    rw [okFrom, Bool.and_eq_true] at h
    intro hm
    rcases List.mem_cons.1 hm with h1 | h1
    · exact chOk_ne h.1 h1.symm
    · exact okFrom_ne h.2 h1
theorem namesW_one {s : Bs} (h : namesW [s] = 0) : okAs s ∧ s.length ≤ 12 := by
  unfold namesW at h
  split at h
  · rename_i h1
    rw [List.all_cons, List.all_nil, Bool.and_true] at h1
    unfold namedB at h1
    rw [Bool.and_eq_true, Bool.and_eq_true] at h1
    have h2 := of_decide_eq_true h1.1.1
    exact ⟨⟨okFrom_ne h1.2, fun h0 => by rw [h0] at h2; simp at h2⟩, h2.2⟩
  · cases h
theorem sourceW_ok {i : Nat} {s : So} (h : sourceW i s = 0) : okAs (asOf s) ∧ (asOf s).length ≤ 12 ∧ (0 < i → (2 ≤ s.k ∧ s.k ≤ 5) ∧ okX s.on) := by
  unfold sourceW at h
  split at h
  · cases h
  · rename_i hb
    have hk : 0 < i → 2 ≤ s.k ∧ s.k ≤ 5 := by
      intro h0
      have hi : ¬ (i : Int) = 0 := by omega
      simp only [hi, decide_false, beq_false] at hb
      simp at hb
      omega
    have hf : firstW [namesW [s.name], givenW s.as] = 0 ∧ (0 < i → okX s.on) := by
      split at h
      · rename_i h1
        exact ⟨h, fun h0 => by rcases h1 with h1 | h1; exact (h1 h).elim; omega⟩
      · rename_i h1
        have h2 := not_or.1 h1
        exact ⟨Classical.not_not.1 h2.1, fun _ => (exprW_ok h).1⟩
    obtain ⟨hf1, hx⟩ := hf
    simp only [firstW] at hf1
    obtain ⟨h3, h4⟩ := orE_eq0 hf1
    obtain ⟨h5, _⟩ := orE_eq0 h4
    have ha : okAs (asOf s) ∧ (asOf s).length ≤ 12 := by
      unfold asOf
      by_cases h0 : s.as = []
      · rw [if_pos h0]; exact namesW_one h3
      · rw [if_neg h0]
        unfold givenW at h5
        rw [if_neg h0] at h5
        exact namesW_one h5
    exact ⟨ha.1, ha.2, fun h0 => ⟨hk h0, hx h0⟩⟩
theorem sourcesW_ok : ∀ {l : List So} {i : Nat}, sourcesW i l = 0 → ∀ (j : Nat) (s : So), l[j]? = some s → okAs (asOf s) ∧ (asOf s).length ≤ 12 ∧ (0 < i + j → (2 ≤ s.k ∧ s.k ≤ 5) ∧ okX s.on)
  | [], i, _, j, s, hj => by simp at hj
  | x :: l, i, h, j, s, hj => by
    rw [sourcesW] at h
    obtain ⟨h1, h2⟩ := orE_eq0 h
    cases j with
    | zero =>
      simp only [List.getElem?_cons_zero, Option.some.injEq] at hj
      subst hj
      exact sourceW_ok h1
    | succ j =>
      obtain ⟨a, b, c⟩ := sourcesW_ok h2 j s (by simpa using hj)
      exact ⟨a, b, fun h0 => c (by omega)⟩
theorem selW_ok {s : Se} (h : selW s = 0) : OkSe s ∧ s.src ≠ [] ∧ ∀ x ∈ s.src, okAs (asOf x) ∧ (asOf x).length ≤ 12 := by
  unfold selW at h
  split at h
  · cases h
  · rename_i hm
    obtain ⟨h1, h2⟩ := orE_eq0 h
    unfold selW1 at h2
    obtain ⟨h3, h4⟩ := orE_eq0 h2
    unfold selW2 at h4
    obtain ⟨h5, h6⟩ := orE_eq0 h4
    unfold selW3 at h6
    obtain ⟨h7, h8⟩ := orE_eq0 h6
    unfold selW4 at h8
    have hm1 : (1 ≤ s.src.length ∧ s.src.length ≤ 4) ∧ s.group.length ≤ 8 ∧ (s.star = false → s.items.length ≤ 8) := by
      unfold selMany at hm
      rw [Bool.or_eq_true, not_or] at hm
      obtain ⟨ha, hb⟩ := hm
      have ha := fun h => ha (decide_eq_true h)
      refine ⟨⟨?_, ?_⟩, ?_, ?_⟩
      · rcases Nat.lt_or_ge s.src.length 1 with h | h
        · exact (ha (.inl (.inl (by omega)))).elim
        · exact h
      · rcases Nat.lt_or_ge 4 s.src.length with h | h
        · exact (ha (.inl (.inr (by omega)))).elim
        · exact h
      · rcases Nat.lt_or_ge 8 s.group.length with h | h
        · exact (ha (.inr (by omega))).elim
        · exact h
      · intro hs
        rcases Nat.lt_or_ge 8 s.items.length with h | h
        · exfalso
          apply hb
          rw [hs]
          simp; omega
        · exact h
    have hits : s.star = false → (∀ x ∈ s.items, okX x.x) ∧ cntL (s.items.map (·.x)) ≤ s.items.length * 200 := by
      intro hs
      rw [hs, if_neg (by decide)] at h1
      exact itemsW_ok h1
    have hhv : s.hasH = true → okX s.hv ∧ cntX s.hv ≤ 200 := by
      intro hh
      rw [if_pos hh] at h8
      exact exprW_ok h8
    refine ⟨⟨by omega, fun j x hj h0 => (sourcesW_ok h3 j x hj).2.2 (by omega), fun hw => ?_, ⟨by omega, fun x hx => (exprsW_ok h7 x hx).1⟩, fun hs => ⟨by have := hm1.2.2 hs; omega, (hits hs).1⟩, fun hh => (hhv hh).1, fun hs => ?_⟩, ?_, ?_⟩
    · rw [if_pos hw] at h5
      exact (exprW_ok h5).1
    · have ha := (hits hs).2
      have hb := hm1.2.2 hs
      have hc : hvC s ≤ 200 := by
        unfold hvC
        split
        · rename_i hh; exact (hhv hh).2
        · omega
      have hd : s.items.length * 200 ≤ 8 * 200 := Nat.mul_le_mul_right _ hb
      omega
    · rintro h0
      rw [h0] at hm1
      simp at hm1
    · intro x hx
      obtain ⟨j, hj⟩ := List.getElem?_of_mem hx
      have := sourcesW_ok h3 j x hj
      exact ⟨this.1, this.2.1⟩
theorem partsW_sel {ops : List Int} : ∀ {l : List Se} {i : Nat}, partsW ops i l = 0 → (∀ s ∈ l, selW s = 0) ∧ ∀ j, i ≤ j + 1 → j + 1 < i + l.length → 0 < j + 1 → 0 < i ∨ 0 < j + 1 - i → 1 ≤ ops.getD j 0 ∧ ops.getD j 0 ≤ 4
  | [], _, _ => ⟨fun s hs => (by cases hs), fun j h1 h2 => by simp at h2; omega⟩
  | x :: l, i, h => by
    rw [partsW] at h
    split at h
    · cases h
    · rename_i hb
      obtain ⟨h1, h2⟩ := orE_eq0 h
      obtain ⟨h3, h4⟩ := partsW_sel h2
      refine ⟨fun s hs => ?_, fun j ha hc hd he => ?_⟩
      · rcases List.mem_cons.1 hs with rfl | hs
        · exact h1
        · exact h3 s hs
      · rw [List.length_cons] at hc
        by_cases hj : j + 1 = i
        · have hi : 0 < i := by omega
          have : i - 1 = j := by omega
          rw [this] at hb
          constructor
          · rcases Int.lt_or_le (ops.getD j 0) 1 with h | h
            · exact (hb ⟨hi, .inl h⟩).elim
            · exact h
          · rcases Int.lt_or_le 4 (ops.getD j 0) with h | h
            · exact (hb ⟨hi, .inr h⟩).elim
            · exact h
        · exact h4 j (by omega) (by omega) hd (by omega)
theorem queryW_ok {q : Q} (h : queryW q = 0) : OkQ q ∧ q.parts ≠ [] ∧ q.parts.length ≤ 4 ∧ (0 ≤ q.limit → q.order.length ≤ 8 ∧ ∀ x ∈ q.order, okX x) ∧ ∀ s ∈ q.parts, OkSe s ∧ s.src ≠ [] ∧ ∀ x ∈ s.src, okAs (asOf x) ∧ (asOf x).length ≤ 12 := by
  unfold queryW at h
  split at h
  · cases h
  · rename_i hm
    split at h
    · cases h
    · obtain ⟨h1, h2⟩ := orE_eq0 h
      obtain ⟨h3, h4⟩ := partsW_sel h1
      have hm := fun h => hm (decide_eq_true h)
      have hl1 : 1 ≤ q.parts.length := by
        rcases Nat.lt_or_ge q.parts.length 1 with h | h
        · exact (hm (.inl (.inl (.inl (by omega))))).elim
        · exact h
      have hl2 : q.parts.length ≤ 4 := by
        rcases Nat.lt_or_ge 4 q.parts.length with h | h
        · exact (hm (.inl (.inl (.inr (by omega))))).elim
        · exact h
      have hl3 : q.ops.length + 1 = q.parts.length := by
        rcases Nat.lt_or_ge (q.ops.length + 1) q.parts.length with h | h
        · exact (hm (.inl (.inr (by omega)))).elim
        · rcases Nat.lt_or_ge q.parts.length (q.ops.length + 1) with h' | h'
          · exact (hm (.inl (.inr (by omega)))).elim
          · omega
      refine ⟨⟨fun s hs x hx => ((selW_ok (h3 s hs)).2.2 x hx).1, fun j hj => h4 j (by omega) (by omega) (by omega) (.inr (by omega)), by omega⟩, ?_, hl2, fun hl => ⟨?_, fun x hx => ?_⟩, fun s hs => selW_ok (h3 s hs)⟩
      · intro h0; rw [h0] at hl1; simp at hl1
      · rcases Nat.lt_or_ge 8 q.order.length with h | h
        · exact (hm (.inr ⟨hl, .inr (by omega)⟩)).elim
        · exact h
      · unfold queryW1 at h2
        rw [if_neg (by omega)] at h2
        exact (exprsW_ok h2 x hx).1
mutual
def widP (tables : List (List Int)) : Pl → Nat
  | .mk k n x xs ags kids => widK tables k n xs ags (widL tables kids)
def widL (tables : List (List Int)) : List Pl → List Nat
  | [] => []
  | p :: l => widP tables p :: widL tables l
def widK (tables : List (List Int)) (k n : Int) (xs : List Ex) (ags : List Ag) (c : List Nat) : Nat :=
  if k = 1 then (tables.getD n.toNat []).length else if k = 3 then xs.length else if k = 12 then xs.length + ags.length else if k = 4 ∨ k = 7 then c.getD 0 0 + c.getD 1 0 else c.getD 0 0
end
theorem w_typesE_len {cols : List Int} : ∀ {xs : List Ex} {t : List Int}, typesE cols xs = .ok t → t.length = xs.length
  | [], t, h => by injection h with h; subst h; rfl
  | x :: l, t, h => by
    rw [typesE] at h
    split at h
    · cases h
    · split at h
      · rename_i ts hts
        injection h with h; subst h
        rw [List.length_cons, List.length_cons, w_typesE_len hts]
      · cases h
theorem w_typesX_len {cols : List Int} {xs : List Ex} {t : List Int} (h : typesX cols xs = .ok t) : t.length = xs.length := by
  unfold typesX at h
  split at h
  · cases h
  · exact w_typesE_len h
theorem w_aggsT_len {cols : List Int} : ∀ {l : List Ag} {t : List Int}, aggsT cols l = .ok t → t.length = l.length
  | [], t, h => by injection h with h; subst h; rfl
  | x :: l, t, h => by
    rw [aggsT] at h
    split at h
    · cases h
    · split at h
      · rename_i ts hts
        injection h with h; subst h
        rw [List.length_cons, List.length_cons, w_aggsT_len hts]
      · cases h
theorem w_sideT_len : ∀ {a b t : List Int}, a.length = b.length → sideT a b = .ok t → t.length = a.length
  | [], [], t, _, h => by injection h with h; subst h; rfl
  | x :: a, y :: b, t, hl, h => by
    rw [sideT] at h
    split at h
    · cases h
    · split at h
      · rename_i ts hts
        injection h with h; subst h
        rw [List.length_cons, List.length_cons, w_sideT_len (by simpa using hl) hts]
      · cases h
theorem getD_map {α β : Type} (f : α → β) (l : List α) (i : Nat) (d : α) : (l.map f).getD i (f d) = f (l.getD i d) := by
  simp only [List.getD, List.getElem?_map]
  cases l[i]? <;> rfl
theorem w_nodeT_len {tables : List (List Int)} {k n : Int} {x : Ex} {xs : List Ex} {ags : List Ag} {c : List (List Int)} {t : List Int} (hk : ¬ kidsPl k < 0) (h : nodeT tables k n x xs ags c = .ok t) : t.length = widK tables k n xs ags (c.map List.length) := by
  have e0 : (c.map List.length).getD 0 0 = (c.getD 0 []).length := getD_map List.length c 0 []
  have e1 : (c.map List.length).getD 1 0 = (c.getD 1 []).length := getD_map List.length c 1 []
  unfold widK
  rw [e0, e1]
  unfold nodeT at h
  simp only at h
  generalize c.getD 0 [] = a at h ⊢
  generalize c.getD 1 [] = b at h ⊢
  by_cases k1 : k = 1
  · subst k1
    simp only [if_true] at h
    split at h
    · injection h with h; subst h; rfl
    · cases h
  rw [if_neg k1] at h
  rw [if_neg k1]
  by_cases k2 : k = 2
  · subst k2
    simp only [if_true] at h
    split at h
    · injection h with h; subst h; rfl
    · cases h
  rw [if_neg k2] at h
  by_cases k3 : k = 3
  · subst k3
    simp only [if_true] at h
    rw [if_pos rfl]
    exact w_typesX_len h
  rw [if_neg k3] at h
  rw [if_neg k3]
  by_cases k8 : k = 8 ∨ k = 9
  · rw [if_pos k8] at h
    rw [if_neg (by omega), if_neg (by omega)]
    unfold togetherT at h
    split at h
    · cases h
    · rename_i hl
      exact w_sideT_len (Classical.not_not.1 hl) h
  rw [if_neg k8] at h
  by_cases k10 : k = 10 ∨ k = 11
  · rw [if_pos k10] at h
    rw [if_neg (by omega), if_neg (by omega)]
    injection h with h; subst h; rfl
  rw [if_neg k10] at h
  by_cases k12 : k = 12
  · rw [if_pos k12] at h
    rw [if_pos k12]
    split at h
    · cases h
    · split at h
      · cases h
      · rename_i ks hks
        split at h
        · rename_i g hg
          injection h with h; subst h
          rw [List.length_append, w_typesX_len hks, w_aggsT_len hg]
        · cases h
  rw [if_neg k12] at h
  rw [if_neg k12]
  by_cases k13 : k = 13
  · rw [if_pos k13] at h
    rw [if_neg (by omega)]
    split at h
    · cases h
    · split at h
      · cases h
      · injection h with h; subst h; rfl
  rw [if_neg k13] at h
  split at h
  · cases h
  · split at h
    · cases h
    · injection h with h
      subst h
      have h47 : k = 4 ∨ k = 5 ∨ k = 6 ∨ k = 7 := by
        unfold kidsPl at hk
        rw [if_neg k1] at hk
        split at hk
        · omega
        · split at hk
          · omega
          · omega
      rcases h47 with rfl | rfl | rfl | rfl <;> simp
mutual
theorem w_colsPl_len {tables : List (List Int)} : ∀ (p : Pl) (deep m m' : Nat) (t : List Int), colsPl tables deep m p = (.ok t, m') → t.length = widP tables p
  | .mk k n x xs ags kids, deep, m, m', t, h => by
    rw [colsPl] at h
    split at h
    · cases h
    · split at h
      · cases h
      · rename_i hk
        split at h
        · cases h
        · split at h
          · cases h
          · rename_i c m2 hc
            injection h with h1 h2
            rw [widP, ← w_colsL_len kids (deep + 1) (m + 1) m2 c hc]
            exact w_nodeT_len hk h1
theorem w_colsL_len {tables : List (List Int)} : ∀ (l : List Pl) (deep m m' : Nat) (c : List (List Int)), colsL tables deep m l = (.ok c, m') → c.map List.length = widL tables l
  | [], deep, m, m', c, h => by
    rw [colsL] at h
    injection h with h1 h2
    injection h1 with h1
    subst h1; rfl
  | p :: l, deep, m, m', c, h => by
    rw [colsL] at h
    split at h
    · cases h
    · rename_i t m1 ht
      split at h
      · cases h
      · rename_i cs m2 hcs
        injection h with h1 h2
        injection h1 with h1
        subst h1
        rw [List.map_cons, widL, w_colsPl_len p deep m m1 t ht, w_colsL_len l deep m1 m2 cs hcs]
end
theorem colsT_len {tables : List (List Int)} {p : Pl} {t : List Int} (h : colsT tables p = .ok t) : t.length = widP tables p := by
  unfold colsT at h
  split at h
  · cases h
  · split at h
    · cases h
    · exact w_colsPl_len p 1 0 (colsPl tables 1 0 p).2 t (Prod.ext h rfl)
def rightR (rels : List Rel) : Prop := ∀ r ∈ rels, r.view = true → ∃ t, colsT (tablesM rels) r.plan = .ok t ∧ t.length = r.cols.length
theorem tablesM_cons (r : Rel) (l : List Rel) : tablesM (r :: l) = if r.view = true then tablesM l else r.cols.map (·.ty) :: tablesM l := by
  unfold tablesM
  cases hv : r.view <;> simp [hv]
theorem findG_len {T : List (List Int)} {name : Bs} : ∀ (l : List Rel) (pre : List (List Int)), T = pre ++ tablesM l → (∀ r ∈ l, r.view = true → ∃ t, colsT T r.plan = .ok t ∧ t.length = r.cols.length) →
    ∀ q, findG name pre.length l = some q → widP T q.1 = q.2.length
  | [], _, _, _, _, h => by cases h
  | r :: l, pre, hT, hr, q, h => by
    rw [findG] at h
    rw [tablesM_cons] at hT
    split at h
    · injection h with h
      subst h
      cases hv : r.view with
      | true =>
        simp only [if_true]
        obtain ⟨t, ht, hl⟩ := hr r (List.mem_cons_self ..) hv
        rw [← colsT_len ht, hl]
      | false =>
        rw [hv, if_neg (by decide)] at hT
        simp only [Bool.false_eq_true, if_false]
        rw [tableP, widP, widK, if_pos rfl, hT]
        simp
    · cases hv : r.view with
      | true =>
        rw [hv, if_pos rfl] at hT
        rw [hv] at h
        simp only [if_true] at h
        exact findG_len l pre hT (fun r' h' => hr r' (List.mem_cons_of_mem _ h')) q h
      | false =>
        rw [hv, if_neg (by decide)] at hT
        rw [hv] at h
        simp only [Bool.false_eq_true, if_false] at h
        refine findG_len (name := name) l (pre ++ [r.cols.map (·.ty)]) (by rw [hT]; simp) (fun r' h' => hr r' (List.mem_cons_of_mem _ h')) q ?_
        rw [List.length_append]; exact h
theorem findM_len {rels : List Rel} (hr : rightR rels) {name : Bs} {q : Pl × List Co} (h : findM rels name = .ok q) : widP (tablesM rels) q.1 = q.2.length := by
  unfold findM at h
  split at h
  · rename_i x hx
    injection h with h; subst h
    exact findG_len rels [] rfl hr x hx
  · cases h
theorem w_fromG_len {rels : List Rel} (hr : rightR rels) : ∀ (l : List So) (i : Nat) (p : Pl) (names : List (Bs × Bs)) (had : List Bs) (r : Pl × List (Bs × Bs)), (∀ (j : Nat) (s : So), l[j]? = some s → 0 < i + j → 2 ≤ s.k ∧ s.k ≤ 5) → (i = 0 → names = []) → (0 < i → widP (tablesM rels) p = names.length) → (l = [] → 0 < i) →
    fromG rels l i p names had = .ok r → widP (tablesM rels) r.1 = r.2.length
  | [], i, p, names, had, r, _, _, hw, hi, h => by
    rw [fromG] at h
    injection h with h; subst h
    exact hw (hi rfl)
  | s :: l, i, p, names, had, r, hk, h0, hw, _, h => by
    rw [fromG] at h
    split at h
    · cases h
    · rename_i q hq
      have hqw := findM_len hr hq
      split at h
      · cases h
      · split at h
        · rename_i hi0
          subst hi0
          rw [h0 rfl, List.nil_append] at h
          refine w_fromG_len hr l 1 _ _ _ r (fun j s' hj _ => hk (j + 1) s' hj (by omega)) (fun h => by omega) (fun _ => ?_) (fun _ => by omega) h
          rw [hqw, List.length_map]
        · rename_i hi0
          split at h
          · cases h
          · rename_i x hx
            have hks := hk 0 s rfl (by omega)
            have hp := hw (by omega)
            refine w_fromG_len hr l (i + 1) _ _ _ r (fun j s' hj _ => hk (j + 1) s' hj (by omega)) (fun h => by omega) (fun _ => ?_) (fun _ => by omega) h
            rw [widP, widL, widL, widL, widK]
            have h4 : s.k = 2 ∨ s.k = 3 ∨ s.k = 4 ∨ s.k = 5 := by omega
            rcases h4 with h4 | h4 | h4 | h4 <;> simp [h4, joinK, hp, hqw]
theorem exprsB_len {names : List (Bs × Bs)} : ∀ {l : List X} {t : List Ex}, exprsB names l = .ok t → t.length = l.length
  | [], t, h => by rw [exprsB] at h; injection h with h; subst h; rfl
  | x :: l, t, h => by
    rw [exprsB] at h
    split at h
    · cases h
    · split at h
      · rename_i m hm
        injection h with h; subst h
        rw [List.length_cons, List.length_cons, exprsB_len hm]
      · cases h
theorem w_exprsG_len {names : List (Bs × Bs)} {keys : List X} : ∀ {l : List X} {ags : List Ag} {t : List Ex × List Ag}, exprsG names keys l ags = .ok t → t.1.length = l.length
  | [], ags, t, h => by rw [exprsG] at h; injection h with h; subst h; rfl
  | x :: l, ags, t, h => by
    rw [exprsG] at h
    split at h
    · cases h
    · split at h
      · rename_i m hm
        injection h with h; subst h
        simp only [List.length_cons]
        rw [w_exprsG_len hm]
      · cases h
theorem w_calledL_len : ∀ (l : List It) (i : Nat), (calledL i l).length = l.length
  | [], _ => rfl
  | x :: l, i => by rw [calledL, List.length_cons, List.length_cons, w_calledL_len l]
theorem wid_filter (T : List (List Int)) (x : Ex) (p : Pl) : widP T (filterP x p) = widP T p := by
  unfold filterP
  rw [widP, widL, widL, widK]
  simp
theorem wid_plan1 (T : List (List Int)) (p : Pl) {k : Int} (h : k = 10 ∨ k = 11) : widP T (plan1 k p) = widP T p := by
  unfold plan1
  rw [widP, widL, widL, widK]
  rcases h with rfl | rfl <;> simp
theorem wid_plan2 (T : List (List Int)) (p q : Pl) {k : Int} (h : k = 8 ∨ k = 9) : widP T (plan2 k p q) = widP T p := by
  unfold plan2
  rw [widP, widL, widL, widL, widK]
  rcases h with rfl | rfl <;> simp
theorem wid_set (T : List (List Int)) (op : Int) (p q : Pl) : widP T (setB op p q) = widP T p := by
  unfold setB
  split
  · exact wid_plan2 T p q (.inl rfl)
  · split
    · rw [wid_plan1 T _ (.inr rfl), wid_plan2 T p q (.inl rfl)]
    · split
      · rw [wid_plan1 T _ (.inl rfl), wid_plan2 T _ _ (.inr rfl), wid_plan1 T _ (.inr rfl)]
      · rw [wid_plan1 T _ (.inl rfl), wid_plan2 T p q (.inr rfl)]
def okSrc (l : List So) : Prop := l ≠ [] ∧ ∀ (j : Nat) (s : So), l[j]? = some s → 0 < j → 2 ≤ s.k ∧ s.k ≤ 5
theorem selB_len {rels : List Rel} (hr : rightR rels) {s : Se} (hs : okSrc s.src) {r : Pl × List Bs} (h : selB rels s = .ok r) : widP (tablesM rels) r.1 = r.2.length := by
  unfold selB at h
  split at h
  · cases h
  · rename_i f hf
    have hfw : widP (tablesM rels) f.1 = f.2.length := w_fromG_len hr s.src 0 zeroP [] [] f (fun j s' hj h0 => hs.2 j s' hj (by omega)) (fun _ => rfl) (fun h => by omega) (fun h => (hs.1 h).elim) hf
    split at h
    · cases h
    · rename_i w hw
      simp only at h
      have hp : widP (tablesM rels) (if s.hasW = true then filterP w f.1 else f.1) = f.2.length := by
        split
        · rw [wid_filter, hfw]
        · exact hfw
      generalize (if s.hasW = true then filterP w f.1 else f.1) = p at h hp
      split at h
      · cases h
      · rename_i q hq
        injection h with h
        subst h
        have hd : widP (tablesM rels) (if s.distinct = true then plan1 11 q else q) = widP (tablesM rels) q := by
          split
          · exact wid_plan1 _ q (.inr rfl)
          · rfl
        show widP _ (if s.distinct = true then plan1 11 q else q) = (if s.star = true then f.2.map (·.2) else calledL 0 s.items).length
        rw [hd]
        split at hq
        · unfold groupM at hq
          split at hq
          · cases hq
          · rename_i hst
            rw [if_neg hst, w_calledL_len]
            split at hq
            · cases hq
            · split at hq
              · cases hq
              · rename_i it hit
                split at hq
                · cases hq
                · injection hq with hq
                  subst hq
                  rw [widP, widL, widL, widK]
                  simp only [if_true]
                  rw [if_neg (by decide), w_exprsG_len hit, List.length_map]
        · unfold mapM' at hq
          split at hq
          · rename_i hst
            injection hq with hq
            subst hq
            rw [if_pos hst, List.length_map, hp]
          · rename_i hst
            rw [if_neg hst, w_calledL_len]
            split at hq
            · cases hq
            · rename_i l hl
              injection hq with hq
              subst hq
              rw [widP, widL, widL, widK]
              simp only [if_true]
              rw [if_neg (by decide), exprsB_len hl, List.length_map]
theorem partsB_len {rels : List Rel} (hr : rightR rels) {ops : List Int} : ∀ (l : List Se) (i : Nat) (p : Pl) (names : List Bs) (r : Pl × List Bs), (∀ s ∈ l, okSrc s.src) → (0 < i → widP (tablesM rels) p = names.length) → (l = [] → 0 < i) →
    partsB rels ops i p names l = .ok r → widP (tablesM rels) r.1 = r.2.length
  | [], i, p, names, r, _, hw, hi, h => by
    rw [partsB] at h
    injection h with h; subst h
    exact hw (hi rfl)
  | s :: l, i, p, names, r, hs, hw, _, h => by
    rw [partsB] at h
    split at h
    · cases h
    · rename_i q hq
      have hqw := selB_len hr (hs s (List.mem_cons_self ..)) hq
      split at h
      · exact partsB_len hr l 1 _ _ r (fun s' h' => hs s' (List.mem_cons_of_mem _ h')) (fun _ => hqw) (fun _ => by omega) h
      · rename_i hi0
        exact partsB_len hr l (i + 1) _ _ r (fun s' h' => hs s' (List.mem_cons_of_mem _ h')) (fun _ => by rw [wid_set]; exact hw (by omega)) (fun _ => by omega) h
theorem queryB_len {rels : List Rel} (hr : rightR rels) {q : Q} (h0 : q.parts ≠ []) (hs : ∀ s ∈ q.parts, okSrc s.src) {r : Pl × List Bs} (h : queryB rels q = .ok r) : widP (tablesM rels) r.1 = r.2.length := by
  unfold queryB at h
  split at h
  · cases h
  · rename_i r0 hr0
    have hw := partsB_len hr q.parts 0 zeroP [] r0 hs (fun h => by omega) (fun h => (h0 h).elim) hr0
    split at h
    · cases h
    · rename_i p hp
      injection h with h; subst h
      show widP _ p = r0.2.length
      unfold topB at hp
      split at hp
      · split at hp
        · cases hp
        · injection hp with hp
          subst hp
          rw [widP, widL, widL, widK]
          simpa using hw
      · injection hp with hp
        subst hp
        exact hw
theorem zipC_len : ∀ (l : List Bs) (m : List Int), l.length = m.length → (zipC l m).length = m.length ∧ (zipC l m).map (·.ty) = m
  | [], [], _ => ⟨rfl, rfl⟩
  | a :: l, t :: m, h => by
    obtain ⟨h1, h2⟩ := zipC_len l m (by simpa using h)
    exact ⟨by rw [zipC, List.length_cons, List.length_cons, h1], by rw [zipC, List.map_cons, h2]⟩
theorem bound_typed {rels : List Rel} (hr : rightR rels) {q : Q} (h0 : q.parts ≠ []) (hs : ∀ s ∈ q.parts, okSrc s.src) {r : Pl × List Co} (h : boundM rels q = .ok r) : ∃ t, colsT (tablesM rels) r.1 = .ok t ∧ r.2.map (·.ty) = t ∧ r.2.length = t.length := by
  unfold boundM at h
  split at h
  · cases h
  · rename_i b hb
    have hw := queryB_len hr h0 hs hb
    split at h
    · cases h
    · rename_i t ht
      injection h with h
      subst h
      have hz := zipC_len b.2 t (by rw [← hw, colsT_len ht])
      exact ⟨t, ht, hz.2, hz.1⟩
theorem RQ_ext2 {M M' : Mem} (he : Ext M M') {q : Q} {cs : List Value} (h : RQ M q cs) : RQ M' q cs := by
  obtain ⟨pv, ov, dv, h1, h2, h3, h4⟩ := h
  exact ⟨pv, ov, dv, RS_ext he (RSe_ext he) h1, RS_ext he (fun _ _ h => h) h2, RS_ext he (RX_ext he) h3, h4⟩
theorem rightP_R {rels : List Rel} (h : rightP rels) : rightR rels := fun r hr hv => ⟨_, (h.1 r hr).2 hv, by simp⟩
theorem wid_B {rels : List Rel} {q : Q} (hr : rightP rels) (hq : queryW q = 0) : ∀ r t, queryB rels q = .ok r → colsT (tablesM rels) r.1 = .ok t → t.length ≤ r.2.length := by
  intro r t h1 h2
  obtain ⟨_, hp, _, _, hs⟩ := queryW_ok hq
  have h3 := queryB_len (rightP_R hr) hp (fun s hs' => ⟨(hs s hs').2.1, fun j x hj h0 => ((hs s hs').1.on j x hj h0).1⟩) h1
  rw [colsT_len h2, h3]
  exact Nat.le_refl _
end Go.Proofs.YtmccpbcbofhmlaaGreatDoor
namespace Vc
open Go
def memOf (W : World) : Mem := fun b => match W.heap[b]? with
  | some (.cells cs _ _) => some cs.toList
  | _ => none
theorem memOf_some {W : World} {b : Nat} {cs : Array Value} {t f} (h : W.heap[b]? = some (.cells cs t f)) : memOf W b = some cs.toList := by simp [memOf, h]
theorem memOf_holds (W : World) : Holds (memOf W) W := by
  intro b c hb
  unfold memOf at hb
  split at hb
  · rename_i cs t f h
    injection hb with hb
    subst hb
    exact ⟨t, f, by rw [h]⟩
  · cases hb
theorem memOf_cell {W : World} {a : Addr} {v : Value} (h : W.cell? a = some v) : a.spot = none ∧ mcell (memOf W) a = some v := by
  unfold World.cell? at h
  split at h
  · rename_i cs t f hb
    split at h
    · cases h
    · rename_i hs
      have hs : a.spot = none := by simpa using hs
      refine ⟨hs, ?_⟩
      simp [mcell, hs, memOf_some hb, h]
  · cases h
theorem mapM_get : ∀ {n o : Nat} {f : Nat → Option Value} {cs : List Value}, (List.range' o n).mapM f = some cs → cs.length = n ∧ ∀ i, i < n → f (o + i) = cs[i]?
  | 0, o, f, cs, h => by
    simp at h; subst h; simp
  | n + 1, o, f, cs, h => by
    rw [List.range'_succ, List.mapM_cons] at h
    simp only [Option.bind_eq_bind, Option.bind_eq_some_iff, Option.pure_def, Option.some.injEq] at h
    obtain ⟨v, hv, l, hl, rfl⟩ := h
    obtain ⟨h1, h2⟩ := mapM_get hl
    refine ⟨by simp [h1], fun i hi => ?_⟩
    cases i with
    | zero => simpa using hv
    | succ i => rw [List.getElem?_cons_succ, ← h2 i (by omega)]; congr 1; omega
theorem cells_get {W : World} {base : Nat} {a : Addr} {n : Nat} {cs : List Value} (h : W.cells? base a n = some cs) : cs.length = n ∧ ∀ i, i < n → W.cell? (a.add i) = cs[i]? := by
  unfold World.cells? at h
  split at h
  · rw [List.range_eq_range'] at h
    obtain ⟨h1, h2⟩ := mapM_get h
    exact ⟨h1, fun i hi => by have := h2 i hi; simpa using this⟩
  · cases h
theorem At_get {M : Mem} {b : Nat} : ∀ (cs : List Value) (o : Nat), (∀ i, i < cs.length → mcell M ⟨b, o + i, none⟩ = cs[i]?) → At M b o cs
  | [], o, h => trivial
  | v :: cs, o, h => by
    refine ⟨by simpa using h 0 (by simp), At_get cs (o + 1) fun i hi => ?_⟩
    have := h (i + 1) (by simpa using hi)
    rw [show o + 1 + i = o + (i + 1) by omega, this]; rfl
theorem cells_At' {W : World} {base : Nat} {a : Addr} {n : Nat} {cs : List Value} (h : W.cells? base a n = some cs) (hn : 0 < n) : a.spot = none ∧ cs.length = n ∧ At (memOf W) a.block a.off cs := by
  obtain ⟨h1, h2⟩ := cells_get h
  have h0 := h2 0 hn
  have e0 : a.add 0 = a := by simp [Addr.add]
  rw [e0, List.getElem?_eq_getElem (by omega)] at h0
  obtain ⟨hs, _⟩ := memOf_cell h0
  refine ⟨hs, h1, At_get cs _ fun i hi => ?_⟩
  have hi' := h2 i (by omega)
  obtain ⟨b, o, s⟩ := a
  simp only at hs
  subst hs
  rw [Addr.add_lit, List.getElem?_eq_getElem hi] at hi'
  rw [List.getElem?_eq_getElem hi]
  exact (memOf_cell hi').2
section
variable {H : Type} {enc : TypeId × Value → H} {P : Program} {W W' : World} {base : Nat} {held : Bool}
theorem RL_of {α : Type} {r : α → List Value → Prop} {sz : Nat} {M : Mem} {b : Nat} : ∀ (n o : Nat), (∀ i, i < n → ∃ cs, At M b (o + i * sz) cs ∧ cs.length = sz ∧ ∃ x, r x cs) → ∃ l xs, l.length = n ∧ RL r l xs ∧ xs.length = n * sz ∧ At M b o xs
  | 0, o, h => ⟨[], [], rfl, rfl, by simp, trivial⟩
  | n + 1, o, h => by
    obtain ⟨cs, h1, h2, x, h3⟩ := h 0 (by omega)
    obtain ⟨l, xs, h4, h5, h6, h7⟩ := RL_of (α := α) (r := r) (sz := sz) (M := M) (b := b) n (o + sz) fun i hi => by
      obtain ⟨cs, h1, h2⟩ := h (i + 1) (by omega)
      refine ⟨cs, ?_, h2⟩
      rw [show o + sz + i * sz = o + (i + 1) * sz by rw [Nat.add_mul]; omega]; exact h1
    refine ⟨x :: l, cs ++ xs, by simp [h4], ⟨cs, xs, rfl, h3, h5⟩, by rw [List.length_append, h2, h6, Nat.add_mul]; omega, At_app.2 ⟨by simpa using h1, ?_⟩⟩
    rw [h2]; exact h7
def Rd (enc : TypeId × Value → H) (P : Program) (W : World) (n : Nat) (t : TypeId) {α : Type} (r : α → List Value → Prop) : Prop :=
  ∀ (sp : Nat → Bool) m, m ≤ n → ∀ cs (x : DataW H × List MemPlace), DataW.trod enc P W 0 sp true m t cs = some x → (∀ k ∈ x.1.weights P t, k ≤ reachBytes) → ∃ a, r a cs
theorem Rd.le {n n' : Nat} {t : TypeId} {α : Type} {r : α → List Value → Prop} (h : Rd enc P W n t r) (hn : n' ≤ n) : Rd enc P W n' t r := fun sp m hm => h sp m (by omega)
theorem Rd.map {n : Nat} {t : TypeId} {α β : Type} {r : α → List Value → Prop} {q : β → List Value → Prop} (f : α → β) (h : Rd enc P W n t r) (hq : ∀ a cs, r a cs → q (f a) cs) : Rd enc P W n t q := by
  intro sp m hm cs x h1 h2
  obtain ⟨a, ha⟩ := h sp m hm cs x h1 h2
  exact ⟨f a, hq a cs ha⟩
end
end Vc
namespace Go.Proofs.YtmccpbcbofhmlaaGreatDoor
open Go Vc
set_option maxRecDepth 100000
theorem bulk_one {H : Type} (d : DataW H) : 1 ≤ Rows.uptoBulk d := by
  cases d with
  | lit l => cases l <;> simp [Rows.uptoBulk]
  | _ => simp [Rows.uptoBulk]
theorem bulk_length {H : Type} : ∀ (l : List (DataW H)), l.length ≤ Rows.uptoBulkAll l
  | [] => by simp [Rows.uptoBulkAll]
  | d :: l => by
    have := bulk_one d
    have := bulk_length l
    simp only [Rows.uptoBulkAll, List.length_cons]
    omega
theorem bulk_mem {H : Type} : ∀ {l : List (DataW H)} {d : DataW H}, d ∈ l → Rows.uptoBulk d ≤ Rows.uptoBulkAll l
  | a :: l, d, h => by
    simp only [Rows.uptoBulkAll]
    rcases List.mem_cons.1 h with rfl | h
    · omega
    · have := bulk_mem h; omega
section
variable {H : Type} {enc : TypeId × Value → H} {W : World}
def RdU (enc : TypeId × Value → H) (P : Program) (W : World) (n : Nat) (t : TypeId) {α : Type} (r : α → List Value → Prop) : Prop :=
  ∀ (sp : Nat → Bool) m, m ≤ n → ∀ cs (x : DataW H × List MemPlace), DataW.trod enc P W 0 sp true m t cs = some x → Rows.uptoBulk x.1 ≤ 1048576 → ∃ a, r a cs
theorem RdU_zero {P : Program} {t : TypeId} {α : Type} {r : α → List Value → Prop} : RdU enc P W 0 t r := by
  intro sp m hm cs x h
  obtain rfl : m = 0 := by omega
  simp [DataW.trod] at h
theorem openU_RS {P : Program} {α : Type} {r : α → List Value → Prop} {n sz : Nat} {t e : TypeId} (hr : RdU enc P W n e r) (ht : P.underlying t = some (.slice e)) (hsz : P.cellsOf e = sz) (hpos : 0 < sz) {sp : Nat → Bool} {m : Nat} (hm : m ≤ n + 1) {cs : List Value} {x : DataW H × List MemPlace}
    (h : DataW.trod enc P W 0 sp true m t cs = some x) (hw : Rows.uptoBulk x.1 ≤ 1048576) : ∃ l v, cs = [v] ∧ RS (memOf W) r sz l v ∧ l.length ≤ 1048576 := by
  rcases DataW.trod_slice ht h with ⟨rfl, rfl⟩ | ⟨a, len, cap, elems, rest, n', rfl, rfl, rfl, hb, hl, hmx, hlen, hel, _, _⟩
  · exact ⟨[], _, rfl, ⟨by simp, [], .inl ⟨none, 0, rfl, rfl, fun _ => rfl⟩, rfl⟩, by simp⟩
  · simp only [Rows.uptoBulk] at hw
    have hbl := bulk_length (elems.map (·.1))
    rw [List.length_map, hlen] at hbl
    have hone : ∀ i, i < len → a.spot = none ∧ ∃ cs, At (memOf W) a.block (a.off + i * sz) cs ∧ cs.length = sz ∧ ∃ x, r x cs := by
      intro i hi
      have h1 := hel i hi
      rw [List.getElem?_eq_getElem (by omega)] at h1
      obtain ⟨cs, h2, h3⟩ := Option.bind_eq_some_iff.1 h1
      have hsp : a.spot = none := by
        have h1 := hel 0 (by omega)
        rw [List.getElem?_eq_getElem (by omega)] at h1
        obtain ⟨cs, h2, _⟩ := Option.bind_eq_some_iff.1 h1
        have := (cells_At' h2 (by omega)).1
        rw [Nat.zero_mul] at this
        simpa [Addr.add] using this
      obtain ⟨-, h5, h6⟩ := cells_At' h2 (by omega)
      refine ⟨hsp, cs, ?_, by omega, hr sp n' (by omega) cs _ h3 ?_⟩
      · obtain ⟨b, o, s⟩ := a
        simp only at hsp
        subst hsp
        rw [Addr.add_lit, hsz] at h6
        exact h6
      · have hk := bulk_mem (List.mem_map_of_mem (f := (·.1)) (List.getElem_mem (l := elems) (n := i) (by omega)))
        omega
    obtain ⟨l, xs, h1, h2, h3, h4⟩ := RL_of (α := α) (r := r) (sz := sz) (M := memOf W) (b := a.block) len a.off fun i hi => (hone i hi).2
    refine ⟨l, _, rfl, ⟨by omega, xs, ?_, h2⟩, by omega⟩
    by_cases h0 : len = 0
    · subst h0
      exact .inl ⟨some a, cap, rfl, List.length_eq_zero_iff.1 (by omega), fun h => by cases h⟩
    · have hsp := (hone 0 (by omega)).1
      obtain ⟨b, o, s⟩ := a
      simp only at hsp
      subst hsp
      exact .inr ⟨b, o, len, cap, rfl, hl, h3, h4⟩
theorem RdU_slice {P : Program} {α : Type} {r : α → List Value → Prop} {n sz : Nat} {t e : TypeId} (hr : RdU enc P W n e r) (ht : P.underlying t = some (.slice e)) (hsz : P.cellsOf e = sz) (hpos : 0 < sz) : RdU enc P W (n + 1) t (fun (l : List α) cs => ∃ v, cs = [v] ∧ RS (memOf W) r sz l v) := by
  intro sp m hm cs x h hw
  obtain ⟨l, v, h1, h2, _⟩ := openU_RS hr ht hsz hpos hm h hw
  exact ⟨l, v, h1, h2⟩
theorem RdU_sliceB {P : Program} {α : Type} {r : α → List Value → Prop} {n sz : Nat} {t e : TypeId} (hr : RdU enc P W n e r) (ht : P.underlying t = some (.slice e)) (hsz : P.cellsOf e = sz) (hpos : 0 < sz) : RdU enc P W (n + 1) t (fun (l : List α) cs => ∃ v, cs = [v] ∧ RS (memOf W) r sz l v ∧ l.length ≤ 1048576) := by
  intro sp m hm cs x h hw
  obtain ⟨l, v, h1, h2, h3⟩ := openU_RS hr ht hsz hpos hm h hw
  exact ⟨l, v, h1, h2, h3⟩
theorem RdU_int {P : Program} {n : Nat} {t : TypeId} {k : IntKind} (ht : P.underlying t = some (.int k)) : RdU enc P W n t (fun (i : Int) cs => cs = [.int k i]) := by
  intro sp m hm cs x h hw
  obtain ⟨i, h1, _⟩ := DataW.trod_int ht h
  exact ⟨i, h1⟩
theorem RdU_bool {P : Program} {n : Nat} {t : TypeId} (ht : P.underlying t = some .bool) : RdU enc P W n t (fun (i : Bool) cs => cs = [.bool i]) := by
  intro sp m hm cs x h hw
  obtain ⟨i, h1, _⟩ := DataW.trod_bool ht h
  exact ⟨i, h1⟩
theorem RdU_str {P : Program} {n : Nat} {t : TypeId} (ht : P.underlying t = some .string) : RdU enc P W n t (fun (i : Bs) cs => cs = [st i]) := by
  intro sp m hm cs x h hw
  obtain ⟨i, h1, _⟩ := DataW.trod_string ht h
  exact ⟨i.data.toList, by rw [h1, bs_of i]; simp [st, bs]⟩
theorem RdU.le {P : Program} {n n' : Nat} {t : TypeId} {α : Type} {r : α → List Value → Prop} (h : RdU enc P W n t r) (hn : n' ≤ n) : RdU enc P W n' t r := fun sp m hm => h sp m (by omega)
theorem RdU.map {P : Program} {n : Nat} {t : TypeId} {α β : Type} {r : α → List Value → Prop} {q : β → List Value → Prop} (f : α → β) (h : RdU enc P W n t r) (hq : ∀ a cs, r a cs → q (f a) cs) : RdU enc P W n t q := by
  intro sp m hm cs x h1 h2
  obtain ⟨a, ha⟩ := h sp m hm cs x h1 h2
  exact ⟨f a, hq a cs ha⟩
theorem openU_struct {P : Program} {n : Nat} {t : TypeId} {fs : Array Field} (ht : P.underlying t = some (.struct fs)) {sp : Nat → Bool} {m : Nat} (hm : m ≤ n + 1) {cs : List Value} {x : DataW H × List MemPlace} (h : DataW.trod enc P W 0 sp true m t cs = some x) (hw : Rows.uptoBulk x.1 ≤ 1048576) :
    cs.length = P.cellsOf t ∧ ∀ {α : Type} {r : α → List Value → Prop} {i : Nat} {f : Field}, fs[i]? = some f → RdU enc P W n f.type r → ∃ a, r a ((cs.drop f.offset).take (P.cellsOf f.type)) := by
  obtain ⟨xs, n', rfl, rfl, h1, h2, h3⟩ := DataW.trod_struct ht h
  refine ⟨h1, fun {α r i f} hf hr => ?_⟩
  have h4 := h3 i f hf
  have hi : i < fs.size := (Array.getElem?_eq_some_iff.1 hf).1
  rw [List.getElem?_eq_getElem (by omega)] at h4
  refine hr sp n' (by omega) _ _ h4 ?_
  simp only [Rows.uptoBulk] at hw
  have hk := bulk_mem (List.mem_map_of_mem (f := (·.1)) (List.getElem_mem (l := xs) (n := i) (by omega)))
  omega
theorem fldU {P : Program} {n : Nat} {t : TypeId} {fs : Array Field} (ht : P.underlying t = some (.struct fs)) {sp : Nat → Bool} {m : Nat} (hm : m ≤ n + 1) {cs : List Value} {x : DataW H × List MemPlace} (h : DataW.trod enc P W 0 sp true m t cs = some x) (hw : Rows.uptoBulk x.1 ≤ 1048576)
    (i : Nat) (te : TypeId) (o k : Nat) (hf : (fs[i]?).map (fun f => (f.type, f.offset)) = some (te, o)) (hk : P.cellsOf te = k) {α : Type} {r : α → List Value → Prop} (hr : RdU enc P W n te r) : ∃ a, r a ((cs.drop o).take k) := by
  obtain ⟨f, hf1, hf2⟩ := Option.map_eq_some_iff.1 hf
  injection hf2 with e1 e2
  subst e1 e2
  have := (openU_struct ht hm h hw).2 hf1 hr
  rw [hk] at this
  exact this
theorem cutP (cs : List Value) (o n o' : Nat) (h : o + n = o') : cs.drop o = (cs.drop o).take n ++ cs.drop o' := by
  rw [← h, ← List.drop_drop]
  exact (List.take_append_drop _ _).symm
theorem cutE {cs : List Value} {o n : Nat} (h : cs.length = o + n) : cs.drop o = (cs.drop o).take n := by
  rw [List.take_of_length_le]
  rw [List.length_drop]; omega
theorem ru_val (n : Nat) : RdU enc Tryz.prog W n 29 RV := by
  cases n with
  | zero => exact RdU_zero
  | succ n =>
    intro sp m hm cs x h hw
    have hl := (openU_struct Tryz.underlying29 hm h hw).1
    rw [show Tryz.prog.cellsOf 29 = 3 from by kernel_rfl] at hl
    obtain ⟨k, hk⟩ := fldU Tryz.underlying29 hm h hw 0 3 0 1 rfl (by kernel_rfl) (RdU_int Tryz.underlying3)
    obtain ⟨k2, hk2⟩ := fldU Tryz.underlying29 hm h hw 1 2 1 1 rfl (by kernel_rfl) (RdU_int Tryz.underlying2)
    obtain ⟨s, hs⟩ := fldU Tryz.underlying29 hm h hw 2 9 2 1 rfl (by kernel_rfl) (RdU_str Tryz.underlying9)
    refine ⟨⟨k, k2, s⟩, ?_⟩
    show cs.drop 0 = _
    rw [cutP cs 0 1 1 rfl, hk, cutP cs 1 1 2 rfl, hk2, cutE (n := 1) (by omega), hs]
    rfl
theorem ru_co (n : Nat) : RdU enc Tryz.prog W n 48 RCo := by
  cases n with
  | zero => exact RdU_zero
  | succ n =>
    intro sp m hm cs x h hw
    have hl := (openU_struct Tryz.underlying48 hm h hw).1
    rw [show Tryz.prog.cellsOf 48 = 2 from by kernel_rfl] at hl
    obtain ⟨k, hk⟩ := fldU Tryz.underlying48 hm h hw 0 9 0 1 rfl (by kernel_rfl) (RdU_str Tryz.underlying9)
    obtain ⟨k2, hk2⟩ := fldU Tryz.underlying48 hm h hw 1 3 1 1 rfl (by kernel_rfl) (RdU_int Tryz.underlying3)
    refine ⟨⟨k, k2⟩, ?_⟩
    show cs.drop 0 = _
    rw [cutP cs 0 1 1 rfl, hk, cutE (n := 1) (by omega), hk2]
    rfl
theorem ru_x : ∀ (n : Nat), RdU enc Tryz.prog W n 31 (RX (memOf W))
  | 0 => RdU_zero
  | n + 1 => by
    have ih := ru_x n
    intro sp m hm cs x h hw
    have hl := (openU_struct Tryz.underlying31 hm h hw).1
    rw [show Tryz.prog.cellsOf 31 = 7 from by kernel_rfl] at hl
    obtain ⟨k, hk⟩ := fldU Tryz.underlying31 hm h hw 0 3 0 1 rfl (by kernel_rfl) (RdU_int Tryz.underlying3)
    obtain ⟨v, hv⟩ := fldU Tryz.underlying31 hm h hw 1 29 1 3 rfl (by kernel_rfl) (ru_val n)
    obtain ⟨a, ha⟩ := fldU Tryz.underlying31 hm h hw 2 9 4 1 rfl (by kernel_rfl) (RdU_str Tryz.underlying9)
    obtain ⟨b, hb⟩ := fldU Tryz.underlying31 hm h hw 3 9 5 1 rfl (by kernel_rfl) (RdU_str Tryz.underlying9)
    obtain ⟨l, hs⟩ := fldU Tryz.underlying31 hm h hw 4 25 6 1 rfl (by kernel_rfl) ((RdU_slice (sz := 7) ih Tryz.underlying25 (by kernel_rfl) (by decide)).le (Nat.le_succ n))
    obtain ⟨s, hs1, hs2⟩ := hs
    refine ⟨.mk k v a b l, RX_iff.2 ⟨s, ?_, hs2⟩⟩
    show cs.drop 0 = _
    unfold RV at hv
    rw [cutP cs 0 1 1 rfl, hk, cutP cs 1 3 4 rfl, hv, cutP cs 4 1 5 rfl, ha, cutP cs 5 1 6 rfl, hb, cutE (n := 1) (by omega), hs1]
    rfl
theorem ru_xs (n : Nat) : RdU enc Tryz.prog W n 25 (fun l cs => ∃ s, cs = [s] ∧ RS (memOf W) (RX (memOf W)) 7 l s) :=
  (RdU_slice (sz := 7) (ru_x n) Tryz.underlying25 (by kernel_rfl) (by decide)).le (Nat.le_succ n)
theorem ru_it (n : Nat) : RdU enc Tryz.prog W n 161 (RIt (memOf W)) := by
  cases n with
  | zero => exact RdU_zero
  | succ n =>
    intro sp m hm cs x h hw
    have hl := (openU_struct Tryz.underlying161 hm h hw).1
    rw [show Tryz.prog.cellsOf 161 = 8 from by kernel_rfl] at hl
    obtain ⟨y, hy⟩ := fldU Tryz.underlying161 hm h hw 0 31 0 7 rfl (by kernel_rfl) (ru_x n)
    obtain ⟨a, ha⟩ := fldU Tryz.underlying161 hm h hw 1 9 7 1 rfl (by kernel_rfl) (RdU_str Tryz.underlying9)
    generalize hX : List.take 7 (List.drop 0 cs) = xw at hy
    refine ⟨⟨y, a⟩, _, hy, ?_⟩
    show cs.drop 0 = _
    rw [cutP cs 0 7 7 rfl, hX, cutE (o := 7) (n := 1) (by omega), ha]
theorem ru_so (n : Nat) : RdU enc Tryz.prog W n 75 (RSo (memOf W)) := by
  cases n with
  | zero => exact RdU_zero
  | succ n =>
    intro sp m hm cs x h hw
    have hl := (openU_struct Tryz.underlying75 hm h hw).1
    rw [show Tryz.prog.cellsOf 75 = 10 from by kernel_rfl] at hl
    obtain ⟨k, hk⟩ := fldU Tryz.underlying75 hm h hw 0 3 0 1 rfl (by kernel_rfl) (RdU_int Tryz.underlying3)
    obtain ⟨a, ha⟩ := fldU Tryz.underlying75 hm h hw 1 9 1 1 rfl (by kernel_rfl) (RdU_str Tryz.underlying9)
    obtain ⟨b, hb⟩ := fldU Tryz.underlying75 hm h hw 2 9 2 1 rfl (by kernel_rfl) (RdU_str Tryz.underlying9)
    obtain ⟨y, hy⟩ := fldU Tryz.underlying75 hm h hw 3 31 3 7 rfl (by kernel_rfl) (ru_x n)
    generalize hX : List.take 7 (List.drop 3 cs) = xw at hy
    refine ⟨⟨k, a, b, y⟩, _, hy, ?_⟩
    show cs.drop 0 = _
    rw [cutP cs 0 1 1 rfl, hk, cutP cs 1 1 2 rfl, ha, cutP cs 2 1 3 rfl, hb, cutE (o := 3) (n := 7) (by omega), hX]
    rfl
theorem ru_se (n : Nat) : RdU enc Tryz.prog W n 79 (RSe (memOf W)) := by
  cases n with
  | zero => exact RdU_zero
  | succ n =>
    intro sp m hm cs x h hw
    have hl := (openU_struct Tryz.underlying79 hm h hw).1
    rw [show Tryz.prog.cellsOf 79 = 21 from by kernel_rfl] at hl
    obtain ⟨d, hd⟩ := fldU Tryz.underlying79 hm h hw 0 4 0 1 rfl (by kernel_rfl) (RdU_bool Tryz.underlying4)
    obtain ⟨st, hst⟩ := fldU Tryz.underlying79 hm h hw 1 4 1 1 rfl (by kernel_rfl) (RdU_bool Tryz.underlying4)
    obtain ⟨it, i, hi1, hi2⟩ := fldU Tryz.underlying79 hm h hw 2 77 2 1 rfl (by kernel_rfl) ((RdU_slice (sz := 8) (ru_it n) Tryz.underlying77 (by kernel_rfl) (by decide)).le (Nat.le_succ n))
    obtain ⟨fr, f, hf1, hf2⟩ := fldU Tryz.underlying79 hm h hw 3 76 3 1 rfl (by kernel_rfl) ((RdU_slice (sz := 10) (ru_so n) Tryz.underlying76 (by kernel_rfl) (by decide)).le (Nat.le_succ n))
    obtain ⟨w, hw1⟩ := fldU Tryz.underlying79 hm h hw 4 4 4 1 rfl (by kernel_rfl) (RdU_bool Tryz.underlying4)
    obtain ⟨v, hv1⟩ := fldU Tryz.underlying79 hm h hw 5 4 5 1 rfl (by kernel_rfl) (RdU_bool Tryz.underlying4)
    obtain ⟨wx, hwx⟩ := fldU Tryz.underlying79 hm h hw 6 31 6 7 rfl (by kernel_rfl) (ru_x n)
    obtain ⟨vx, hvx⟩ := fldU Tryz.underlying79 hm h hw 7 31 13 7 rfl (by kernel_rfl) (ru_x n)
    obtain ⟨gr, g, hg1, hg2⟩ := fldU Tryz.underlying79 hm h hw 8 25 20 1 rfl (by kernel_rfl) (ru_xs n)
    generalize hX : List.take 7 (List.drop 6 cs) = xw at hwx
    generalize hY : List.take 7 (List.drop 13 cs) = yw at hvx
    refine ⟨⟨d, st, it, fr, w, v, wx, vx, gr⟩, i, f, _, _, g, hi2, hf2, hwx, hvx, hg2, ?_⟩
    show cs.drop 0 = _
    rw [cutP cs 0 1 1 rfl, hd, cutP cs 1 1 2 rfl, hst, cutP cs 2 1 3 rfl, hi1, cutP cs 3 1 4 rfl, hf1, cutP cs 4 1 5 rfl, hw1, cutP cs 5 1 6 rfl, hv1, cutP cs 6 7 13 rfl, hX, cutP cs 13 7 20 rfl, hY, cutE (o := 20) (n := 1) (by omega), hg1]
    rfl
theorem ru_q (n : Nat) : RdU enc Tryz.prog W n 27 (RQ (memOf W)) := by
  cases n with
  | zero => exact RdU_zero
  | succ n =>
    intro sp m hm cs x h hw
    have hl := (openU_struct Tryz.underlying27 hm h hw).1
    rw [show Tryz.prog.cellsOf 27 = 4 from by kernel_rfl] at hl
    obtain ⟨p, a, ha1, ha2⟩ := fldU Tryz.underlying27 hm h hw 0 23 0 1 rfl (by kernel_rfl) ((RdU_slice (sz := 21) (ru_se n) Tryz.underlying23 (by kernel_rfl) (by decide)).le (Nat.le_succ n))
    obtain ⟨o, b, hb1, hb2⟩ := fldU Tryz.underlying27 hm h hw 1 24 1 1 rfl (by kernel_rfl) ((RdU_slice (sz := 1) (RdU_int (n := n) Tryz.underlying3) Tryz.underlying24 (by kernel_rfl) (by decide)).le (Nat.le_succ n))
    obtain ⟨r, c, hc1, hc2⟩ := fldU Tryz.underlying27 hm h hw 2 25 2 1 rfl (by kernel_rfl) (ru_xs n)
    obtain ⟨k, hk⟩ := fldU Tryz.underlying27 hm h hw 3 3 3 1 rfl (by kernel_rfl) (RdU_int Tryz.underlying3)
    refine ⟨⟨p, o, r, k⟩, a, b, c, ha2, hb2, hc2, ?_⟩
    show cs.drop 0 = _
    rw [cutP cs 0 1 1 rfl, ha1, cutP cs 1 1 2 rfl, hb1, cutP cs 2 1 3 rfl, hc1, cutE (o := 3) (n := 1) (by omega), hk]
    rfl
theorem ru_ex : ∀ (n : Nat), RdU enc Tryz.prog W n 38 (REx (memOf W))
  | 0 => RdU_zero
  | n + 1 => by
    have ih := ru_ex n
    intro sp m hm cs x h hw
    have hl := (openU_struct Tryz.underlying38 hm h hw).1
    rw [show Tryz.prog.cellsOf 38 = 6 from by kernel_rfl] at hl
    obtain ⟨k, hk⟩ := fldU Tryz.underlying38 hm h hw 0 3 0 1 rfl (by kernel_rfl) (RdU_int Tryz.underlying3)
    obtain ⟨v, hv⟩ := fldU Tryz.underlying38 hm h hw 1 29 1 3 rfl (by kernel_rfl) (ru_val n)
    obtain ⟨c, hc⟩ := fldU Tryz.underlying38 hm h hw 2 3 4 1 rfl (by kernel_rfl) (RdU_int Tryz.underlying3)
    obtain ⟨l, hs⟩ := fldU Tryz.underlying38 hm h hw 3 36 5 1 rfl (by kernel_rfl) ((RdU_slice (sz := 6) ih Tryz.underlying36 (by kernel_rfl) (by decide)).le (Nat.le_succ n))
    obtain ⟨s, hs1, hs2⟩ := hs
    refine ⟨.mk k v c l, REx_iff.2 ⟨s, ?_, hs2⟩⟩
    show cs.drop 0 = _
    unfold RV at hv
    rw [cutP cs 0 1 1 rfl, hk, cutP cs 1 3 4 rfl, hv, cutP cs 4 1 5 rfl, hc, cutE (n := 1) (by omega), hs1]
    rfl
theorem ru_ag (n : Nat) : RdU enc Tryz.prog W n 119 (RAg (memOf W)) := by
  cases n with
  | zero => exact RdU_zero
  | succ n =>
    intro sp m hm cs x h hw
    have hl := (openU_struct Tryz.underlying119 hm h hw).1
    rw [show Tryz.prog.cellsOf 119 = 7 from by kernel_rfl] at hl
    obtain ⟨k, hk⟩ := fldU Tryz.underlying119 hm h hw 0 3 0 1 rfl (by kernel_rfl) (RdU_int Tryz.underlying3)
    obtain ⟨y, hy⟩ := fldU Tryz.underlying119 hm h hw 1 38 1 6 rfl (by kernel_rfl) (ru_ex n)
    generalize hX : List.take 6 (List.drop 1 cs) = xw at hy
    refine ⟨⟨k, y⟩, _, hy, ?_⟩
    show cs.drop 0 = _
    rw [cutP cs 0 1 1 rfl, hk, cutE (o := 1) (n := 6) (by omega), hX]
    rfl
theorem ru_pl : ∀ (n : Nat), RdU enc Tryz.prog W n 42 (RPl (memOf W))
  | 0 => RdU_zero
  | n + 1 => by
    have ih := ru_pl n
    intro sp m hm cs x h hw
    have hl := (openU_struct Tryz.underlying42 hm h hw).1
    rw [show Tryz.prog.cellsOf 42 = 11 from by kernel_rfl] at hl
    obtain ⟨k, hk⟩ := fldU Tryz.underlying42 hm h hw 0 3 0 1 rfl (by kernel_rfl) (RdU_int Tryz.underlying3)
    obtain ⟨k2, hk2⟩ := fldU Tryz.underlying42 hm h hw 1 3 1 1 rfl (by kernel_rfl) (RdU_int Tryz.underlying3)
    obtain ⟨y, hy⟩ := fldU Tryz.underlying42 hm h hw 2 38 2 6 rfl (by kernel_rfl) (ru_ex n)
    obtain ⟨xs, xv, hx1, hx2⟩ := fldU Tryz.underlying42 hm h hw 3 36 8 1 rfl (by kernel_rfl) ((RdU_slice (sz := 6) (ru_ex n) Tryz.underlying36 (by kernel_rfl) (by decide)).le (Nat.le_succ n))
    obtain ⟨asl, av, ha1, ha2⟩ := fldU Tryz.underlying42 hm h hw 4 39 9 1 rfl (by kernel_rfl) ((RdU_slice (sz := 7) (ru_ag n) Tryz.underlying39 (by kernel_rfl) (by decide)).le (Nat.le_succ n))
    obtain ⟨ks, kv, hk1, hkv⟩ := fldU Tryz.underlying42 hm h hw 5 40 10 1 rfl (by kernel_rfl) ((RdU_slice (sz := 11) ih Tryz.underlying40 (by kernel_rfl) (by decide)).le (Nat.le_succ n))
    generalize hX : List.take 6 (List.drop 2 cs) = xw at hy
    refine ⟨.mk k k2 y xs asl ks, RPl_iff.2 ⟨_, xv, av, kv, ?_, hy, hx2, ha2, hkv⟩⟩
    show cs.drop 0 = _
    rw [cutP cs 0 1 1 rfl, hk, cutP cs 1 1 2 rfl, hk2, cutP cs 2 6 8 rfl, hX, cutP cs 8 1 9 rfl, hx1, cutP cs 9 1 10 rfl, ha1, cutE (o := 10) (n := 1) (by omega), hk1]
    rfl
theorem ru_rel (n : Nat) : RdU enc Tryz.prog W n 52 (fun (r : Rel) cs => RRel (memOf W) r cs ∧ r.cols.length ≤ 1048576) := by
  cases n with
  | zero => exact RdU_zero
  | succ n =>
    intro sp m hm cs x h hw
    have hl := (openU_struct Tryz.underlying52 hm h hw).1
    rw [show Tryz.prog.cellsOf 52 = 14 from by kernel_rfl] at hl
    obtain ⟨a, ha⟩ := fldU Tryz.underlying52 hm h hw 0 9 0 1 rfl (by kernel_rfl) (RdU_str Tryz.underlying9)
    obtain ⟨co, c, hc1, hc2, hc3⟩ := fldU Tryz.underlying52 hm h hw 1 43 1 1 rfl (by kernel_rfl) ((RdU_sliceB (sz := 2) (ru_co n) Tryz.underlying43 (by kernel_rfl) (by decide)).le (Nat.le_succ n))
    obtain ⟨b, hb⟩ := fldU Tryz.underlying52 hm h hw 2 4 2 1 rfl (by kernel_rfl) (RdU_bool Tryz.underlying4)
    obtain ⟨p, hp⟩ := fldU Tryz.underlying52 hm h hw 3 42 3 11 rfl (by kernel_rfl) (ru_pl n)
    generalize hX : List.take 11 (List.drop 3 cs) = xw at hp
    refine ⟨⟨a, co, b, p⟩, ⟨c, _, hc2, hp, ?_⟩, hc3⟩
    show cs.drop 0 = _
    rw [cutP cs 0 1 1 rfl, ha, cutP cs 1 1 2 rfl, hc1, cutP cs 2 1 3 rfl, hb, cutE (o := 3) (n := 11) (by omega), hX]
    rfl
theorem openU_rels {sp : Nat → Bool} {m : Nat} {cs : List Value} {x : DataW H × List MemPlace} (h : DataW.trod enc Tryz.prog W 0 sp true m 22 cs = some x) (hw : Rows.uptoBulk x.1 ≤ 1048576) :
    ∃ l v, cs = [v] ∧ RS (memOf W) (RRel (memOf W)) 14 l v ∧ l.length ≤ 1048576 ∧ ∀ r ∈ l, r.cols.length ≤ 1048576 := by
  obtain ⟨l, v, h1, ⟨h2, xs, h3, h4⟩, h5⟩ := openU_RS (sz := 14) (ru_rel m) Tryz.underlying22 (by kernel_rfl) (by decide) (Nat.le_succ m) h hw
  have h6 : RL (RRel (memOf W)) l xs ∧ ∀ r ∈ l, r.cols.length ≤ 1048576 := by
    clear h1 h2 h3 h5
    induction l generalizing xs with
    | nil => exact ⟨h4, by simp⟩
    | cons r l ih =>
      obtain ⟨cs, rest, rfl, h7, h8⟩ := h4
      obtain ⟨i1, i2⟩ := ih _ h8
      exact ⟨⟨cs, rest, rfl, h7.1, i1⟩, by simpa using ⟨h7.2, i2⟩⟩
  exact ⟨l, v, h1, ⟨h2, xs, h3, h6.1⟩, h5, h6.2⟩
end
open Go.ChangeMaps
open Go.ChangeShapes Go.WideShapes Go.ChangeAt Go.RowKit
theorem ownG : ownKnob Tryz.prog.godebug = none := by kernel_rfl
theorem calls_of {f : FuncId} {args : List Value} {M : Mem} {post : PostP} {W : World} (h : CtT Tryz.prog f args (fun _ => none) M [] [] post noPan) (hM : Holds M W) :
    Calls Tryz.prog f args.toArray W fun e W' => ∃ v M', e = .returned v ∧ Keeps W W' ∧ Holds M' W' ∧ Ext M M' ∧ post v M' [] [] := by
  refine (h.2 W [] ⟨[], rfl, ?_⟩).mono ?_
  · exact { typ := (fun b t h => by cases h), holds := hM, blk := (fun b cs h => by cases h), rows := ⟨rfl, (fun i v e sz xs o h => by simp at h)⟩, nodup := List.nodup_nil, apart := (fun b h => by simp at h), os := rfl, tape := rfl, output := rfl, size := Nat.le_refl _, old := fun _ _ _ => rfl, mem := fun _ _ _ => rfl, le := fun _ _ h => h }
  · intro e W' hc
    cases e with
    | panicked ch => obtain ⟨_, _, _, _, hp⟩ := hc; exact hp.elim
    | outgrown => exact hc.elim
    | returned v =>
      obtain ⟨M', L', R', hpo, hv⟩ := hc
      obtain ⟨⟨bs, hi⟩, hk, hr⟩ := hpo
      obtain rfl : L' = [] := by simpa [keys] using hk
      obtain rfl : R' = [] := by simpa using hr
      exact ⟨v, M', rfl, ⟨hi.os, hi.tape, hi.output, hi.size, fun b hb => hi.old b hb (by simp)⟩, hi.holds, fun b cs hb => hi.le b cs hb, hv⟩
theorem Keeps.but {W W' : World} (h : Keeps W W') (may : MemPlace → Prop) : W.keptBut W' may := by
  refine ⟨h.1, h.2.2.1, fun i hi => ?_⟩
  rw [h.2.2.2.2 i hi]
  split
  · rename_i h1 h2
    rw [h1] at h2
    injection h2 with h2
    injection h2 with h2 h3 h4
    subst h2 h3 h4
    exact ⟨rfl, rfl, rfl, fun _ _ => rfl⟩
  · rename_i h1 h2
    rw [h1] at h2
    injection h2 with h2
    injection h2 with h2 h3
    subst h2 h3
    exact .inr ⟨rfl, rfl⟩
  · rfl
theorem kids : Kids Tryz.prog (· < Tryz.prog.types.size) := kids_rows (by kernel_rfl) (by kernel_rfl)
theorem full : ∀ t e, t < Tryz.prog.types.size → Tryz.prog.underlying t = some (.slice e) → 0 < Tryz.prog.cellsOf e := slices_full_of Tryz.prog (by kernel_rfl)
theorem args_same {H : Type} {enc : TypeId × Value → H} {W W' : World} (hk : Keeps W W') : ∀ {ts : List TypeId} {vs : List Value} {ds : List (DataW H)} {ps : List MemPlace}, (∀ t ∈ ts, t < Tryz.prog.types.size) →
    DataW.TrodAll enc Tryz.prog W 0 (fun _ => true) true ts vs ds ps → DataW.TrodAll enc Tryz.prog W' 0 (fun b => decide (b < W.heap.size)) true ts vs ds ps
  | [], [], [], ps, _, h => h
  | t :: ts, v :: vs, d :: ds, ps, hT, h => by
    obtain ⟨p, q, ⟨n, h1⟩, h2, rfl⟩ := h
    refine ⟨p, q, ⟨n, ?_⟩, args_same hk (fun t ht => hT t (List.mem_cons_of_mem _ ht)) h2, rfl⟩
    have hlt := DataW.trod_lt n t _ _ h1
    refine DataW.trod_respare kids full n t _ _ (hT t (List.mem_cons_self ..)) (DataW.trod_carry n t _ _ h1 fun pl hp => ?_) (fun pl hp => by simpa using hlt pl hp)
    have hb := hk.2.2.2.2 pl.block (hlt pl hp)
    cases pl with
    | cell b off =>
      show W'.cell? _ = W.cell? _
      unfold World.cell?
      simp only [MemPlace.block] at hb
      simp only [hb]
    | map b => exact hb
def ndB : List Nat → Nat → Nat → List MemPlace → Bool
  | _, _, _, [] => true
  | seen, cur, last, .cell b o :: r => if b = cur then decide (last < o) && ndB seen cur o r else !seen.contains b && ndB (cur :: seen) b o r
  | _, _, _, .map _ :: _ => false
theorem ndB_ok : ∀ (l : List MemPlace) (seen : List Nat) (cur last : Nat), ndB seen cur last l = true → (∀ p ∈ l, ∃ b o, p = .cell b o ∧ (b ∉ seen ∨ b = cur) ∧ (b = cur → last < o)) ∧ l.Nodup
  | [], _, _, _, _ => ⟨fun _ h => (by cases h), List.nodup_nil⟩
  | .map _ :: _, _, _, _, h => by cases h
  | .cell b o :: r, seen, cur, last, h => by
    unfold ndB at h
    split at h
    · rename_i hb
      subst hb
      simp only [Bool.and_eq_true, decide_eq_true_eq] at h
      obtain ⟨h1, h2⟩ := ndB_ok r seen b o h.2
      refine ⟨fun p hp => ?_, List.nodup_cons.2 ⟨fun hm => ?_, h2⟩⟩
      · rcases List.mem_cons.1 hp with rfl | hp
        · exact ⟨b, o, rfl, .inr rfl, fun _ => h.1⟩
        · obtain ⟨b', o', rfl, h3, h4⟩ := h1 p hp
          exact ⟨b', o', rfl, h3, fun he => Nat.lt_trans h.1 (h4 he)⟩
      · obtain ⟨b', o', h5, _, h4⟩ := h1 _ hm
        injection h5 with e1 e2
        subst e1 e2
        exact Nat.lt_irrefl _ (h4 rfl)
    · rename_i hb
      simp only [Bool.and_eq_true, Bool.not_eq_true', List.contains_eq_mem, decide_eq_false_iff_not] at h
      obtain ⟨h1, h2⟩ := ndB_ok r (cur :: seen) b o h.2
      have key : ∀ p ∈ r, ∃ b' o', p = .cell b' o' ∧ (b' ∉ seen) ∧ b' ≠ cur ∧ (b' = b → o < o') := by
        intro p hp
        obtain ⟨b', o', rfl, h3, h4⟩ := h1 p hp
        refine ⟨b', o', rfl, ?_, ?_, h4⟩
        · rcases h3 with h3 | rfl
          · exact fun hm => h3 (List.mem_cons_of_mem _ hm)
          · exact h.1
        · rcases h3 with h3 | rfl
          · rintro rfl; exact h3 (List.mem_cons_self ..)
          · exact hb
      refine ⟨fun p hp => ?_, List.nodup_cons.2 ⟨fun hm => ?_, h2⟩⟩
      · rcases List.mem_cons.1 hp with rfl | hp
        · exact ⟨b, o, rfl, .inl h.1, fun he => (hb he).elim⟩
        · obtain ⟨b', o', rfl, h3, h5, _⟩ := key p hp
          exact ⟨b', o', rfl, .inl h3, fun he => (h5 he).elim⟩
      · obtain ⟨b', o', h5, _, _, h4⟩ := key _ hm
        injection h5 with e1 e2
        subst e1 e2
        exact Nat.lt_irrefl _ (h4 rfl)
theorem laidMet_fast {P : Program} {w : World} {l : List (String × DataW Unit)} (fuel : Nat) (h : (DataW.laidRun P w fuel (l.map (·.1))).map (·.1) = some l)
    (hq : (DataW.laidRun P w fuel (l.map (·.1))).map (fun x => ndB [] 1000000 0 x.2 && laidRowsB P w x.2) = some true) : laidMet P l w := by
  cases hx : DataW.laidRun P w fuel (l.map (·.1)) with
  | none => simp [hx] at h
  | some x =>
    obtain ⟨l', ps⟩ := x
    simp only [hx, Option.map_some, Option.some.injEq] at h hq
    subst h
    simp only [Bool.and_eq_true] at hq
    exact laidMet_of_run fuel hx (decide_eq_true (ndB_ok _ _ _ _ hq.1).2) hq.2
noncomputable def laidWorld2 (os : Os) : World :=
  { heap := ⟨[.cells #[.int .i64 0] 3 (0, 0),
      .cells #[.int .u64 1, .int .u64 10, .int .u64 100, .int .u64 1000, .int .u64 10000, .int .u64 100000, .int .u64 1000000, .int .u64 10000000, .int .u64 100000000, .int .u64 1000000000, .int .u64 10000000000, .int .u64 100000000000, .int .u64 1000000000000, .int .u64 10000000000000, .int .u64 100000000000000, .int .u64 1000000000000000, .int .u64 10000000000000000, .int .u64 100000000000000000, .int .u64 1000000000000000000, .int .u64 10000000000000000000] 359 (0, 0),
      .cells (Lib.asciiSpaceTab.map fun z => Value.int .u8 z).toArray 371 (0, 0),
      .cells (Pinned.utf8FirstZ.map fun (n : Nat) => Value.int .u8 (n : Int)).toArray 371 (0, 0),
      .cells #[.int .u8 128, .int .u8 191, .int .u8 160, .int .u8 191, .int .u8 128, .int .u8 159, .int .u8 144, .int .u8 191, .int .u8 128, .int .u8 143, .int .u8 0, .int .u8 0, .int .u8 0, .int .u8 0, .int .u8 0, .int .u8 0, .int .u8 0, .int .u8 0, .int .u8 0, .int .u8 0, .int .u8 0, .int .u8 0, .int .u8 0, .int .u8 0, .int .u8 0, .int .u8 0, .int .u8 0, .int .u8 0, .int .u8 0, .int .u8 0, .int .u8 0, .int .u8 0] 394 (0, 0),
      .cells #[.pointer (some ⟨17, 0, none⟩)] 399 (0, 0),
      .cells #[.iface 425 (.pointer (some ⟨19, 0, none⟩))] 230 (0, 0),
      .cells #[.iface 425 (.pointer (some ⟨18, 0, none⟩))] 230 (0, 0),
      .cells #[.int .u8 0, .int .u8 1, .int .u8 28, .int .u8 2, .int .u8 29, .int .u8 14, .int .u8 24, .int .u8 3, .int .u8 30, .int .u8 22, .int .u8 20, .int .u8 15, .int .u8 25, .int .u8 17, .int .u8 4, .int .u8 8, .int .u8 31, .int .u8 27, .int .u8 13, .int .u8 23, .int .u8 21, .int .u8 19, .int .u8 16, .int .u8 7, .int .u8 26, .int .u8 12, .int .u8 18, .int .u8 6, .int .u8 11, .int .u8 5, .int .u8 10, .int .u8 9] 410 (0, 0),
      .cells #[.int .u8 0, .int .u8 1, .int .u8 56, .int .u8 2, .int .u8 57, .int .u8 49, .int .u8 28, .int .u8 3, .int .u8 61, .int .u8 58, .int .u8 42, .int .u8 50, .int .u8 38, .int .u8 29, .int .u8 17, .int .u8 4, .int .u8 62, .int .u8 47, .int .u8 59, .int .u8 36, .int .u8 45, .int .u8 43, .int .u8 51, .int .u8 22, .int .u8 53, .int .u8 39, .int .u8 33, .int .u8 30, .int .u8 24, .int .u8 18, .int .u8 12, .int .u8 5, .int .u8 63, .int .u8 55, .int .u8 48, .int .u8 27, .int .u8 60, .int .u8 41, .int .u8 37, .int .u8 16, .int .u8 46, .int .u8 35, .int .u8 44, .int .u8 21, .int .u8 52, .int .u8 32, .int .u8 23, .int .u8 11, .int .u8 54, .int .u8 26, .int .u8 40, .int .u8 15, .int .u8 34, .int .u8 20, .int .u8 31, .int .u8 10, .int .u8 25, .int .u8 14, .int .u8 19, .int .u8 9, .int .u8 13, .int .u8 8, .int .u8 7, .int .u8 6] 411 (0, 0),
      .cells #[.pointer none] 399 (0, 0),
      .cells ((List.range 442).map fun (n : Nat) => Value.int .u64 (n : Int)).toArray 0 (0, 0),
      .map #[] 0,
      .finalizers #[] none,
      .cells #[.bool false] 0 (0, 0),
      .finalizers #[] none,
      .cells #[.int .u16 9, .int .u16 13, .int .u16 1, .int .u16 32, .int .u16 133, .int .u16 101, .int .u16 160, .int .u16 5760, .int .u16 5600, .int .u16 8192, .int .u16 8202, .int .u16 1, .int .u16 8232, .int .u16 8233, .int .u16 1, .int .u16 8239, .int .u16 8287, .int .u16 48, .int .u16 12288, .int .u16 12288, .int .u16 1] 420 (0, 0),
      .cells #[.slice (some ⟨16, 0, none⟩) 7 7, .slice none 0 0, .int .i64 2] 417 (0, 0),
      .cells #[.string ⟨#[118, 97, 108, 117, 101, 32, 111, 117, 116, 32, 111, 102, 32, 114, 97, 110, 103, 101]⟩] 427 (0, 0),
      .cells #[.string ⟨#[105, 110, 118, 97, 108, 105, 100, 32, 115, 121, 110, 116, 97, 120]⟩] 427 (0, 0)]⟩,
    tape := fun _ _ => 0, drawn := 0, os := os, output := #[] }
set_option maxRecDepth 10000
theorem RStm_at {M : Mem} {b o : Nat} {x : Stm} {cs : List Value} (h : RStm M x cs) (ha : At M b o cs) : ∃ c r, RS M RCo 2 x.cols c ∧ RS M (RVs M) 1 x.rows r ∧
    mcell M ⟨b, o, none⟩ = some (.int .i64 x.k) ∧ mcell M ⟨b, o + 1, none⟩ = some (st x.name) ∧ mcell M ⟨b, o + 2, none⟩ = some c ∧ (∃ q, RQ M x.q q ∧ At M b (o + 3) q) ∧
    mcell M ⟨b, o + 7, none⟩ = some r ∧ mcell M ⟨b, o + 8, none⟩ = some (.bool x.hasW) ∧ ∃ w, RX M x.wh w ∧ At M b (o + 9) w := by
  obtain ⟨c, q, r, w, h1, h2, h3, h4, rfl⟩ := h
  rw [At_app, At_app, At_app, RQ_len h2] at ha
  obtain ⟨⟨a0, a1, a2, _⟩, aq, ⟨a7, a8, _⟩, aw⟩ := ha
  exact ⟨c, r, h1, h3, a0, a1, a2, ⟨q, h2, aq⟩, a7, a8, w, h4, aw⟩
def colsW : List Co → Int | [] => 0 | c :: l => orE (namesW [c.name]) (if c.ty < 2 ∨ 4 < c.ty then 1 else colsW l)
def valsW : List V → Int | [] => 0 | v :: l => orE (wrongV v) (valsW l)
def rowsW : List (List V) → Int | [] => 0 | r :: l => if (r.length : Int) < 1 ∨ 8 < (r.length : Int) then 5 else orE (valsW r) (rowsW l)
def stmtW (s : Stm) : Int :=
  if s.k < 1 ∨ 5 < s.k then 1 else if s.k = 5 then queryW s.q else orE (namesW [s.name]) (
    if s.k = 2 then queryW s.q
    else if s.k = 1 then (if (s.cols.length : Int) < 1 ∨ 8 < (s.cols.length : Int) then 5 else colsW s.cols)
    else if s.k = 3 then (if (s.rows.length : Int) < 1 ∨ 400 < (s.rows.length : Int) then 5 else rowsW s.rows)
    else if s.k = 4 then (if s.hasW = true then exprW s.wh else 0) else 0)
theorem ct_wstmt {M : Mem} {b o : Nat} {x : Stm} {cs : List Value} (hg : Glob M) (hx : RStm M x cs) (ha : At M b o cs) : Ct Tryz.prog 87 [.pointer (some ⟨b, o, none⟩)] M [] [] (fun r _ _ _ => r = .int .i64 (stmtW x)) noPan := by
  intro T
  obtain ⟨cv, rv, hc, hr, m0, m1, m2, ⟨qc, hq, haq⟩, m7, m8, wc, hw, haw⟩ := RStm_at hx ha
  obtain ⟨hcb, ca, cc, rfl, hcl, _, hcget⟩ := RS_elim (by decide) (fun _ _ h => by unfold RCo at h; subst h; rfl) hc
  obtain ⟨hrb, ra, rc, rfl, hrl, _, hrget⟩ := RS_elim (by decide) (fun _ _ h => by obtain ⟨_, _, rfl⟩ := h; rfl) hr
  obtain ⟨sw, rfl, ow, w0, w1, w2, w3, w4, w5, w6⟩ := RX_atf hw haw
  obtain ⟨S, hS⟩ : ∃ S, S = stmtW x := ⟨_, rfl⟩
  rw [← hS]
  unfold stmtW at hS
  refine ct_run mx bod87 Tryz.func87 rfl (by rw [nt87]; exact Nat.le_of_ble_eq_true rfl) (dr := dr87) (by kernel_rfl) rs87 ?_
  intro hno _
  by_cases k0 : x.k < 1 ∨ 5 < x.k
  · rw [if_pos k0] at hS
    simp +contextual only [go_sem, sevalprocAttr, m0]
    rw [rCond_bool]
    by_cases k1 : x.k < 1
    · simp +contextual only [go_sem, Rcb, Rbk, sevalprocAttr, k1]
      exact end_none ExtT.rfl' (by rw [hS])
    · have k2 : 5 < x.k := by omega
      simp +contextual only [go_sem, Rcb, Rbk, sevalprocAttr, k1, k2]
      exact end_none ExtT.rfl' (by rw [hS])
  rw [if_neg k0] at hS
  have k1 : ¬ x.k < 1 := fun h => k0 (.inl h)
  have k2 : ¬ 5 < x.k := fun h => k0 (.inr h)
  by_cases k5 : x.k = 5
  · rw [if_pos k5] at hS
    simp +contextual only [go_sem, Rcb, Rbk, sevalprocAttr, m0, k1, k2, k5]
    refine rCall_pure (ct_wquery hg hq haq T) ?_ (fun _ _ _ _ h => h.elim)
    rintro v M2 hM2 _ rfl
    simp +contextual only [go_sem, Rcb, Rbk, sevalprocAttr]
    exact end_none ExtT.rfl' (by rw [hS])
  rw [if_neg k5] at hS
  simp +contextual only [go_sem, Rcb, Rbk, sevalprocAttr, m0, m1, k1, k2, k5]
  intro b1 hb1
  refine rCall_frz bod126 fun M1 hM1 hb1' hno1 => ?_
  have hl : RS M1 RSt 1 [x.name] (.slice (some ⟨b1, 0, none⟩) 1 1) := RS_lit (fun _ _ => RSt_len) hb1' (RL_strs [x.name]) rfl (by decide)
  refine rCall_pure (ct_names (hg.ext hM1) hl T) ?_ (fun _ _ _ _ h => h.elim)
  rintro v M2 hM2 _ rfl
  have h12 := hM1.trans hM2
  by_cases hE : namesW [x.name] = 0
  · rw [hE, orE0] at hS
    have n0 := mcell_ext h12 m0
    by_cases c2 : x.k = 2
    · rw [if_pos c2] at hS
      simp +contextual only [go_sem, Rcb, Rbk, sevalprocAttr, hE, n0, c2]
      refine rCall_pure (ct_wquery (hg.ext h12) (RQ_ext h12 _ _ hq) (haq.ext h12) T) ?_ (fun _ _ _ _ h => h.elim)
      rintro v M3 hM3 _ rfl
      simp +contextual only [go_sem, Rcb, Rbk, sevalprocAttr]
      exact end_none ExtT.rfl' (by rw [hS])
    rw [if_neg c2] at hS
    by_cases c1 : x.k = 1
    · rw [if_pos c1] at hS
      have n2 := mcell_ext h12 m2
      by_cases cl : (x.cols.length : Int) < 1 ∨ 8 < (x.cols.length : Int)
      · rw [if_pos cl] at hS
        by_cases cl1 : (x.cols.length : Int) < 1
        · simp +contextual only [go_sem, Rcb, Rbk, sevalprocAttr, hE, n0, c1, n2, cl1]
          exact end_none ExtT.rfl' (by rw [hS])
        · have cl2 : 8 < (x.cols.length : Int) := by omega
          simp +contextual only [go_sem, Rcb, Rbk, sevalprocAttr, hE, n0, c1, n2, cl1, cl2]
          exact end_none ExtT.rfl' (by rw [hS])
      rw [if_neg cl] at hS
      have cl1 : ¬ (x.cols.length : Int) < 1 := fun h => cl (.inl h)
      have cl2 : ¬ 8 < (x.cols.length : Int) := fun h => cl (.inr h)
      simp +contextual only [go_sem, Rcb, Rbk, sevalprocAttr, hE, n0, c1, n2, cl1, cl2]
      refine loop_range x.cols.length 73 [(71, .slice ca x.cols.length cc), (72, .int .i64 (x.cols.length : Int))]
        (fun i e h => ∃ N M', ExtT T N ∧ Ext M M' ∧ h = ⟨N, M', [], []⟩ ∧ S = colsW (x.cols.drop i))
        0 (by omega) (by simp only [live, go_sem, Rcb, Rbk, sevalprocAttr]) (by simp only [go_sem, Rcb, Rbk, sevalprocAttr]) ⟨T, M2, ExtT.rfl', h12, rfl, hS⟩ ?_
      clear hS
      rintro i e h hi hlv ht ⟨N, M3, hN, hM3, rfl, hS⟩
      simp only [live] at hlv
      by_cases hlt : i < x.cols.length
      · obtain ⟨b', o', cs', rfl, hat, hrs⟩ := hcget i x.cols[i] (List.getElem?_eq_getElem hlt)
        unfold RCo at hrs; subst hrs
        have hdrop : x.cols.drop i = x.cols[i] :: x.cols.drop (i + 1) := List.drop_eq_getElem_cons hlt
        have q0 := mcell_ext hM3 hat.1
        have q1 := mcell_ext hM3 hat.2.1
        rw [hdrop, colsW] at hS
        simp +contextual only [go_sem, Rcb, Rbk, sevalprocAttr, hlv, ht, hlt, q0, q1]
        intro b5 N5 hb5 hN5 hTb5 b7 hb7 hap7
        refine rCall_frz bod126 fun M4 hM4 hb7' hno4 => ?_
        have hl : RS M4 RSt 1 [x.cols[i].name] (.slice (some ⟨b7, 0, none⟩) 1 1) := RS_lit (fun _ _ => RSt_len) hb7' (RL_strs [x.cols[i].name]) rfl (by decide)
        refine rCall_pure (ct_names (hg.ext (hM3.trans hM4)) hl N5) ?_ (fun _ _ _ _ h => h.elim)
        rintro v M5 hM5 hno5 rfl
        simp only [noneL, and_true] at hno5
        by_cases hE2 : namesW [x.cols[i].name] = 0
        · rw [hE2, orE0] at hS
          by_cases t1 : x.cols[i].ty < 2
          · rw [if_pos (.inl t1)] at hS
            simp +contextual only [go_sem, Rcb, Rbk, sevalprocAttr, hlv, ht, hE2, hno5, t1]
            exact end_none (hN.trans hN5) (by rw [hS])
          · by_cases t2 : 4 < x.cols[i].ty
            · rw [if_pos (.inr t2)] at hS
              simp +contextual only [go_sem, Rcb, Rbk, sevalprocAttr, hlv, ht, hE2, hno5, t1, t2]
              exact end_none (hN.trans hN5) (by rw [hS])
            · rw [if_neg (by omega)] at hS
              simp +contextual only [go_sem, Rcb, Rbk, sevalprocAttr, hlv, ht, hE2, hno5, t1, t2]
              rw [Run_lp]
              refine Close_drop (Close_id ⟨x.cols.length - (i + 1), by omega, rfl, i + 1, by omega, rfl, ?_, ?_, N5, M5, hN.trans hN5, (hM3.trans hM4).trans hM5, rfl, hS⟩)
              · simp only [live, hlv, go_sem, Rcb, Rbk, sevalprocAttr]
              · simp only [ht, go_sem, Rcb, Rbk, sevalprocAttr, wrap_succ i (by omega)]
        · rw [orE_pos hE2] at hS
          simp +contextual only [go_sem, Rcb, Rbk, sevalprocAttr, hlv, ht, hE2, hno5]
          exact end_none (hN.trans hN5) (by rw [hS])
      · have : i = x.cols.length := by omega
        subst this
        rw [List.drop_length, colsW] at hS
        simp +contextual only [go_sem, Rcb, Rbk, sevalprocAttr, hlv, ht, hlt]
        exact end_none hN (by rw [hS])
    rw [if_neg c1] at hS
    by_cases c3 : x.k = 3
    · rw [if_pos c3] at hS
      have n7 := mcell_ext h12 m7
      by_cases cl : (x.rows.length : Int) < 1 ∨ 400 < (x.rows.length : Int)
      · rw [if_pos cl] at hS
        by_cases cl1 : (x.rows.length : Int) < 1
        · simp +contextual only [go_sem, Rcb, Rbk, sevalprocAttr, hE, n0, c3, n7, cl1]
          exact end_none ExtT.rfl' (by rw [hS])
        · have cl2 : 400 < (x.rows.length : Int) := by omega
          simp +contextual only [go_sem, Rcb, Rbk, sevalprocAttr, hE, n0, c3, n7, cl1, cl2]
          exact end_none ExtT.rfl' (by rw [hS])
      rw [if_neg cl] at hS
      have cl1 : ¬ (x.rows.length : Int) < 1 := fun h => cl (.inl h)
      have cl2 : ¬ 400 < (x.rows.length : Int) := fun h => cl (.inr h)
      simp +contextual only [go_sem, Rcb, Rbk, sevalprocAttr, hE, n0, c3, n7, cl1, cl2]
      refine loop_range x.rows.length 114 [(112, .slice ra x.rows.length rc), (113, .int .i64 (x.rows.length : Int))]
        (fun i e h => ∃ N M', ExtT T N ∧ Ext M M' ∧ h = ⟨N, M', [], []⟩ ∧ S = rowsW (x.rows.drop i))
        0 (by omega) (by simp only [live, go_sem, Rcb, Rbk, sevalprocAttr]) (by simp only [go_sem, Rcb, Rbk, sevalprocAttr]) ⟨T, M2, ExtT.rfl', h12, rfl, hS⟩ ?_
      clear hS
      rintro i e h hi hlv ht ⟨N, M3, hN, hM3, rfl, hS⟩
      simp only [live] at hlv
      by_cases hlt : i < x.rows.length
      · obtain ⟨b', o', cs', rfl, hat, sv, hsv, rfl⟩ := hrget i x.rows[i] (List.getElem?_eq_getElem hlt)
        have hdrop : x.rows.drop i = x.rows[i] :: x.rows.drop (i + 1) := List.drop_eq_getElem_cons hlt
        have q0 := mcell_ext hM3 hat.1
        rw [Nat.mul_one] at q0
        rw [hdrop, rowsW] at hS
        obtain ⟨hvb, va, vc, rfl, hvl, _, hvget⟩ := RS_elim (by decide) (fun _ _ h => RV_len h) hsv
        by_cases rl : (x.rows[i].length : Int) < 1 ∨ 8 < (x.rows[i].length : Int)
        · rw [if_pos rl] at hS
          by_cases rl1 : (x.rows[i].length : Int) < 1
          · simp +contextual only [go_sem, Rcb, Rbk, sevalprocAttr, hlv, ht, hlt, q0, rl1]
            exact end_none hN (by rw [hS])
          · have rl2 : 8 < (x.rows[i].length : Int) := by omega
            simp +contextual only [go_sem, Rcb, Rbk, sevalprocAttr, hlv, ht, hlt, q0, rl1, rl2]
            exact end_none hN (by rw [hS])
        rw [if_neg rl] at hS
        have rl1 : ¬ (x.rows[i].length : Int) < 1 := fun h => rl (.inl h)
        have rl2 : ¬ 8 < (x.rows[i].length : Int) := fun h => rl (.inr h)
        simp +contextual only [go_sem, Rcb, Rbk, sevalprocAttr, hlv, ht, hlt, q0, rl1, rl2]
        refine loop_range x.rows[i].length 128 [(112, .slice (some ⟨b', o', none⟩) x.rows.length rc), (113, .int .i64 (x.rows.length : Int)), (114, .int .i64 (i : Int)), (126, .slice va x.rows[i].length vc), (127, .int .i64 (x.rows[i].length : Int))]
          (fun j e h => ∃ N M', ExtT T N ∧ Ext M M' ∧ h = ⟨N, M', [], []⟩ ∧ S = orE (valsW (x.rows[i].drop j)) (rowsW (x.rows.drop (i + 1))))
          0 (by omega) (by simp only [live, hlv, ht, go_sem, Rcb, Rbk, sevalprocAttr]) (by simp only [go_sem, Rcb, Rbk, sevalprocAttr]) ⟨N, M3, hN, hM3, rfl, hS⟩ ?_
        clear hS hlv ht e hN hM3 q0
        rintro j e h hj hlv htj ⟨N, M4, hN, hM4, rfl, hS⟩
        simp only [live] at hlv
        by_cases hjt : j < x.rows[i].length
        · obtain ⟨bv, ov, cv', rfl, hatv, hrv⟩ := hvget j x.rows[i][j] (List.getElem?_eq_getElem hjt)
          unfold RV V.cs at hrv; subst hrv
          have hdropj : x.rows[i].drop j = x.rows[i][j] :: x.rows[i].drop (j + 1) := List.drop_eq_getElem_cons hjt
          have q0 := mcell_ext hM4 hatv.1
          have q1 := mcell_ext hM4 hatv.2.1
          have q2 := mcell_ext hM4 hatv.2.2.1
          rw [hdropj, valsW] at hS
          simp +contextual only [go_sem, Rcb, Rbk, sevalprocAttr, hlv, htj, hjt, q0, q1, q2]
          intro b10 N10 hb10 hN10 hTb10
          refine rCall_pure (ct_vals_Wrong x.rows[i][j] M4 N10) ?_ (fun _ _ _ _ h => h.elim)
          rintro v M5 hM5 hno5 rfl
          by_cases hE2 : wrongV x.rows[i][j] = 0
          · rw [hE2, orE0] at hS
            simp +contextual only [go_sem, Rcb, Rbk, sevalprocAttr, hlv, htj, hE2]
            rw [Run_lp]
            refine Close_drop (Close_id ⟨x.rows[i].length - (j + 1), by omega, rfl, j + 1, by omega, rfl, ?_, ?_, N10, M5, hN.trans hN10, hM4.trans hM5, rfl, hS⟩)
            · simp only [live, hlv, go_sem, Rcb, Rbk, sevalprocAttr]
            · simp only [htj, go_sem, Rcb, Rbk, sevalprocAttr, wrap_succ j (by omega)]
          · rw [orE_pos hE2, orE_pos hE2] at hS
            simp +contextual only [go_sem, Rcb, Rbk, sevalprocAttr, hlv, htj, hE2]
            exact end_none (hN.trans hN10) (by rw [hS])
        · have : j = x.rows[i].length := by omega
          subst this
          rw [List.drop_length, valsW, orE0] at hS
          simp +contextual only [go_sem, Rcb, Rbk, sevalprocAttr, hlv, htj, hjt]
          refine lp_range hlt ?_ ?_ ⟨N, M4, hN, hM4, rfl, hS⟩
          · simp only [live, hlv, go_sem, Rcb, Rbk, sevalprocAttr]
          · simp only [hlv, go_sem, Rcb, Rbk, sevalprocAttr, wrap_succ i (by omega)]
      · have : i = x.rows.length := by omega
        subst this
        rw [List.drop_length, rowsW] at hS
        simp +contextual only [go_sem, Rcb, Rbk, sevalprocAttr, hlv, ht, hlt]
        exact end_none hN (by rw [hS])
    rw [if_neg c3] at hS
    by_cases c4 : x.k = 4
    · rw [if_pos c4] at hS
      cases hW : x.hasW with
      | true =>
        rw [if_pos hW] at hS
        rw [hW] at m8
        simp +contextual only [go_sem, Rcb, Rbk, sevalprocAttr, hE, n0, c2, c1, c3, c4, mcell_ext h12 m8, mcell_ext h12 w0, mcell_ext h12 w1, mcell_ext h12 w2, mcell_ext h12 w3, mcell_ext h12 w4, mcell_ext h12 w5, mcell_ext h12 w6]
        refine rCall_pure (ct_Expr (hg.ext h12) (RX_ext h12 _ _ hw) T) ?_ (fun _ _ _ _ h => h.elim)
        rintro v M3 hM3 _ rfl
        simp +contextual only [go_sem, Rcb, Rbk, sevalprocAttr]
        exact end_none ExtT.rfl' (by rw [hS])
      | false =>
        rw [if_neg (by rw [hW]; exact Bool.false_ne_true)] at hS
        rw [hW] at m8
        simp +contextual only [go_sem, Rcb, Rbk, sevalprocAttr, hE, n0, c2, c1, c3, c4, mcell_ext h12 m8]
        exact end_none ExtT.rfl' (by rw [hS])
    · rw [if_neg c4] at hS
      simp +contextual only [go_sem, Rcb, Rbk, sevalprocAttr, hE, n0, c2, c1, c3, c4]
      exact end_none ExtT.rfl' (by rw [hS])
  · rw [orE_pos hE] at hS
    simp +contextual only [go_sem, Rcb, Rbk, sevalprocAttr, hE]
    exact end_none ExtT.rfl' (by rw [hS])
def wrongL : Nat → List Stm → Int × Nat | _, [] => (0, 0) | i, s :: l => if stmtW s ≠ 0 then (stmtW s, i) else wrongL (i + 1) l
def wrongS (l : List Stm) : Int × Nat := if 60 < (l.length : Int) then (5, 0) else wrongL 0 l
theorem ct_Wrong {M : Mem} {l : List Stm} {sv : Value} (hg : Glob M) (hs : RS M (RStm M) 16 l sv) : Ct Tryz.prog 42 [sv] M [] [] (fun r _ _ _ => r = flt (wrongS l).1 ((wrongS l).2 : Int)) noPan := by
  intro T
  obtain ⟨hb, a, c, rfl, hle, _, hget⟩ := RS_elim (by decide) (fun _ _ => RStm_len) hs
  obtain ⟨S, hS⟩ : ∃ S, S = wrongS l := ⟨_, rfl⟩
  rw [← hS]
  unfold wrongS at hS
  refine ct_run mx bod42 Tryz.func42 rfl (by rw [nt42]; exact Nat.le_of_ble_eq_true rfl) (dr := dr42) (by kernel_rfl) rs42 ?_
  intro hno _
  simp +contextual only [go_sem, Rcb, Rbk, sevalprocAttr]
  intro b2 T2 hb2 hT2 hTb2
  by_cases h60 : 60 < (l.length : Int)
  · rw [if_pos h60] at hS
    simp +contextual only [go_sem, Rcb, Rbk, sevalprocAttr, h60, hb2]
    exact end_none hT2 (by rw [hS]; rfl)
  rw [if_neg h60] at hS
  simp +contextual only [go_sem, Rcb, Rbk, sevalprocAttr, h60, hb2]
  refine loop_range l.length 11 [(0, .slice a l.length c), (2, .pointer (some ⟨b2, 0, none⟩)), (10, .int .i64 l.length)] (fun i e h => ∃ M', Ext M M' ∧ M' b2 = none ∧ h = ⟨T2, M', [(b2, [.int .i64 0, .int .i64 0])], []⟩ ∧ S = wrongL i (l.drop i)) 0 (by omega) (by simp only [live, go_sem, Rcb, Rbk, sevalprocAttr]) (by simp only [go_sem, Rcb, Rbk, sevalprocAttr]) ⟨M, Ext.rfl', hb2, rfl, hS⟩ ?_
  clear hS
  rintro i e h hi hlv ht ⟨M1, hM1, n2, rfl, hS⟩
  simp only [live] at hlv
  by_cases hlt : i < l.length
  · obtain ⟨b, o, cs, rfl, hat, hrs⟩ := hget i l[i] (List.getElem?_eq_getElem hlt)
    have hdrop : l.drop i = l[i] :: l.drop (i + 1) := List.drop_eq_getElem_cons hlt
    rw [hdrop, wrongL] at hS
    simp +contextual only [go_sem, Rcb, Rbk, sevalprocAttr, hlv, ht, hlt]
    refine rCall_pure (ct_wstmt (hg.ext hM1) (RStm_ext hM1 _ _ hrs) (hat.ext hM1) T2) ?_ (fun _ _ _ _ h => h.elim)
    rintro v M2 hM2 hno2 rfl
    simp only [noneL, and_true] at hno2
    by_cases hE : stmtW l[i] = 0
    · rw [if_neg (fun h => h hE)] at hS
      simp +contextual only [go_sem, Rcb, Rbk, sevalprocAttr, hlv, ht, hE]
      refine lp_range hlt ?_ ?_ ⟨M2, hM1.trans hM2, hno2, rfl, hS⟩
      · simp only [live, hlv, go_sem, Rcb, Rbk, sevalprocAttr]
      · simp only [ht, go_sem, Rcb, Rbk, sevalprocAttr, wrap_succ i (by omega)]
    · rw [if_pos hE] at hS
      simp +contextual only [go_sem, Rcb, Rbk, sevalprocAttr, hlv, ht, hE, hno2]
      exact end_none hT2 (by rw [hS]; rfl)
  · have : i = l.length := by omega
    subst this
    rw [List.drop_length, wrongL] at hS
    simp +contextual only [go_sem, Rcb, Rbk, sevalprocAttr, hlv, ht, hlt, n2]
    exact end_none hT2 (by rw [hS]; rfl)
def Eqv (t t' : List Tk) : Prop := t.map (fun x => (x.k, x.s)) = t'.map (fun x => (x.k, x.s))
theorem Eqv.rfl' {t : List Tk} : Eqv t t := rfl
theorem Eqv.nil {t' : List Tk} (h : Eqv [] t') : t' = [] := by simpa [Eqv] using h.symm
theorem Eqv.cons {x : Tk} {t t' : List Tk} (h : Eqv (x :: t) t') : ∃ x' t1, t' = x' :: t1 ∧ x'.k = x.k ∧ x'.s = x.s ∧ Eqv t t1 := by
  cases t' with
  | nil => simp [Eqv] at h
  | cons x' t1 =>
    simp only [Eqv, List.map_cons, List.cons.injEq, Prod.mk.injEq] at h
    exact ⟨x', t1, rfl, h.1.1.symm, h.1.2.symm, h.2⟩
theorem Eqv.tail {t t' : List Tk} (h : Eqv t t') : Eqv t.tail t'.tail := by
  cases t with
  | nil => rw [h.nil]; rfl
  | cons x t => obtain ⟨x', t1, rfl, _, _, h⟩ := h.cons; exact h
theorem tail_app {t' u : List Tk} (h : t' ≠ []) : (t' ++ u).tail = t'.tail ++ u := by
  cases t' with
  | nil => exact (h rfl).elim
  | cons x t => rfl
theorem Eqv.ne {t t' : List Tk} (h : Eqv t t') (hn : t ≠ []) : t' ≠ [] := by
  cases t with
  | nil => exact (hn rfl).elim
  | cons x t => obtain ⟨x', t1, rfl, _, _, h⟩ := h.cons; simp
theorem ne_of_le {r t : List Tk} (h : r.length ≤ t.length) (hr : r ≠ []) : t ≠ [] := by
  rintro rfl
  exact hr (List.length_eq_zero_iff.1 (by simpa using h))
theorem seesM_eqv {s : Bs} {t t' : List Tk} (h : Eqv t t') : seesM s t' = seesM s t := by
  cases t with
  | nil => rw [h.nil]
  | cons x t => obtain ⟨x', t1, rfl, h1, h2, h⟩ := h.cons; simp only [seesM, h1, h2]
theorem seesM_app {s : Bs} {t' u : List Tk} (h : t' ≠ []) : seesM s (t' ++ u) = seesM s t' := by
  cases t' with
  | nil => exact (h rfl).elim
  | cons x t => rfl
theorem seesM_ne {s : Bs} {t : List Tk} (h : seesM s t = true) : t ≠ [] := by rintro rfl; cases h
theorem idx_eqv {l : List Bs} {t t' : List Tk} (h : Eqv t t') : idxSign l t' = idxSign l t := by
  induction l with
  | nil => rfl
  | cons s l ih => simp only [idxSign, seesM_eqv h, ih]
theorem idx_app {l : List Bs} {t' u : List Tk} (h : t' ≠ []) : idxSign l (t' ++ u) = idxSign l t' := by
  induction l with
  | nil => rfl
  | cons s l ih => simp only [idxSign, seesM_app h, ih]
theorem idx_ne {l : List Bs} {t : List Tk} {j : Nat} (h : idxSign l t = some j) : t ≠ [] := by
  rintro rfl
  induction l generalizing j with
  | nil => cases h
  | cons s l ih =>
    simp only [idxSign, seesM, Bool.false_eq_true, if_false, Option.map_eq_some_iff] at h
    obtain ⟨k, h, _⟩ := h
    exact ih h
def Loc1 {α : Type} (g h : List Tk → Rs α) : Prop := ∀ t t' u a r, Eqv t t' → g t = .ok a r → r.length ≤ t.length ∧ (r ≠ [] → ∃ r', Eqv r r' ∧ h (t' ++ u) = .ok a (r' ++ u))
def Loc {α : Type} (g : Int → List Tk → Rs α) : Prop := ∀ en en', Loc1 (g en) (g en')
theorem loc_ok {α : Type} {a : α} : Loc1 (fun t => .ok a t) (fun t => .ok a t) := by
  intro t t' u b r he h
  injection h with h1 h2; subst h1 h2
  exact ⟨Nat.le_refl _, fun _ => ⟨t', he, rfl⟩⟩
theorem loc_err {α : Type} {e : Int} {f g : List Tk → Int} : Loc1 (fun t => (.err e (f t) : Rs α)) (fun t => .err e (g t)) := by
  intro t t' u b r he h; cases h
theorem loc_bind {α β : Type} {g g' : List Tk → Rs α} {f f' : α → List Tk → Rs β} (hg : Loc1 g g') (hf : ∀ a, Loc1 (f a) (f' a)) : Loc1 (fun t => (g t).bind (f)) (fun t => (g' t).bind f') := by
  intro t t' u b r he h
  have h : (g t).bind f = .ok b r := h
  cases hgt : g t with
  | err e a => rw [hgt] at h; cases h
  | out => rw [hgt] at h; cases h
  | ok a t1 =>
    rw [hgt] at h
    have h2 : f a t1 = .ok b r := h
    obtain ⟨l1, n1⟩ := hg t t' u a t1 he hgt
    obtain ⟨l2, _⟩ := hf a t1 t1 u b r rfl h2
    refine ⟨Nat.le_trans l2 l1, fun hr => ?_⟩
    obtain ⟨t1', e1, h1'⟩ := n1 (ne_of_le l2 hr)
    obtain ⟨_, n2⟩ := hf a t1 t1' u b r e1 h2
    obtain ⟨r', e2, h2'⟩ := n2 hr
    refine ⟨r', e2, ?_⟩
    show (g' (t' ++ u)).bind f' = _
    rw [h1']; exact h2'
theorem loc_if {α : Type} {s : Bs} {g g' k k' : List Tk → Rs α} (hg : Loc1 g g') (hk : Loc1 k k') : Loc1 (fun t => if seesM s t = true then g t.tail else k t) (fun t => if seesM s t = true then g' t.tail else k' t) := by
  intro t t' u b r he h
  simp only at h
  by_cases hs : seesM s t = true
  · rw [if_pos hs] at h
    have hne := seesM_ne hs
    have hne' := he.ne hne
    obtain ⟨l1, n1⟩ := hg t.tail t'.tail u b r he.tail h
    refine ⟨Nat.le_trans l1 (by simp), fun hr => ?_⟩
    obtain ⟨r', e1, h1⟩ := n1 hr
    refine ⟨r', e1, ?_⟩
    simp only
    rw [if_pos (by rw [seesM_app hne', seesM_eqv he]; exact hs), tail_app hne']
    exact h1
  · rw [if_neg hs] at h
    obtain ⟨l1, n1⟩ := hk t t' u b r he h
    refine ⟨l1, fun hr => ?_⟩
    obtain ⟨r', e1, h1⟩ := n1 hr
    have hne' := he.ne (ne_of_le l1 hr)
    refine ⟨r', e1, ?_⟩
    simp only
    rw [if_neg (by rw [seesM_app hne', seesM_eqv he]; exact hs)]
    exact h1
theorem loc_idx {α : Type} {l : List Bs} {g g' : Nat → List Tk → Rs α} {k k' : List Tk → Rs α} (hg : ∀ j, Loc1 (g j) (g' j)) (hk : Loc1 k k') :
    Loc1 (fun t => match idxSign l t with | some j => g j t.tail | none => k t) (fun t => match idxSign l t with | some j => g' j t.tail | none => k' t) := by
  intro t t' u b r he h
  simp only at h
  cases hs : idxSign l t with
  | some j =>
    rw [hs] at h
    have hne := idx_ne hs
    have hne' := he.ne hne
    obtain ⟨l1, n1⟩ := hg j t.tail t'.tail u b r he.tail h
    refine ⟨Nat.le_trans l1 (by simp), fun hr => ?_⟩
    obtain ⟨r', e1, h1⟩ := n1 hr
    refine ⟨r', e1, ?_⟩
    simp only
    rw [idx_app hne', idx_eqv he, hs, tail_app hne']
    exact h1
  | none =>
    rw [hs] at h
    obtain ⟨l1, n1⟩ := hk t t' u b r he h
    refine ⟨l1, fun hr => ?_⟩
    obtain ⟨r', e1, h1⟩ := n1 hr
    have hne' := he.ne (ne_of_le l1 hr)
    refine ⟨r', e1, ?_⟩
    simp only
    rw [idx_app hne', idx_eqv he, hs]
    exact h1
theorem loc_cond {α : Type} (c : Prop) [Decidable c] {g g' k k' : List Tk → Rs α} (hg : Loc1 g g') (hk : Loc1 k k') : Loc1 (fun t => if c then g t else k t) (fun t => if c then g' t else k' t) := by
  by_cases h : c
  · simp only [if_pos h]; exact hg
  · simp only [if_neg h]; exact hk
theorem loc_need : ∀ (l : List Bs), Loc fun en => needM en l
  | [], en, en' => loc_ok
  | s :: l, en, en' => loc_if (loc_need l en en') loc_err
theorem loc_name : Loc fun en => nameM en := by
  intro en en' t t' u a r he h
  cases t with
  | nil => cases h
  | cons x t =>
    obtain ⟨x', t1, rfl, h1, h2, he⟩ := he.cons
    simp only [nameM] at h
    split at h
    · rename_i hk
      split at h
      · rename_i hn
        injection h with h3 h4; subst h3 h4
        refine ⟨by simp, fun _ => ⟨t1, he, ?_⟩⟩
        simp only [List.cons_append, nameM, h1, h2, if_pos hk, if_pos hn]
      · cases h
    · cases h
theorem loc_int : Loc fun en => intM en := by
  have key : ∀ (neg : Bool) (at0 at1 en en' : Int), Loc1 (intT neg at0 en) (intT neg at1 en') := by
    intro neg at0 at1 en en' t t' u a r he h
    cases t with
    | nil => cases h
    | cons x t =>
      obtain ⟨x', t1, rfl, h1, h2, he⟩ := he.cons
      simp only [intT] at h
      split at h
      · rename_i hk
        split at h
        · cases h
        · rename_i hn
          injection h with h3 h4; subst h3 h4
          refine ⟨by simp, fun _ => ⟨t1, he, ?_⟩⟩
          simp only [List.cons_append, intT, h1, h2, if_pos hk, if_neg hn]
      · cases h
  intro en en' t t' u a r he h
  have h : intT (seesM minus t) (atM en t) en (if seesM minus t = true then t.tail else t) = .ok a r := h
  by_cases hs : seesM minus t = true
  · have hne := seesM_ne hs
    have hne' := he.ne hne
    have hs' : seesM minus (t' ++ u) = true := by rw [seesM_app hne', seesM_eqv he]; exact hs
    rw [if_pos hs, hs] at h
    obtain ⟨l1, n1⟩ := key true (atM en t) (atM en' (t' ++ u)) en en' t.tail t'.tail u a r he.tail h
    refine ⟨Nat.le_trans l1 (by simp), fun hr => ?_⟩
    obtain ⟨r', e1, h1⟩ := n1 hr
    refine ⟨r', e1, ?_⟩
    show intT _ _ _ _ = _
    rw [if_pos hs', hs', tail_app hne']
    exact h1
  · rw [if_neg hs] at h
    simp only [Bool.not_eq_true] at hs
    rw [hs] at h
    obtain ⟨l1, n1⟩ := key false (atM en t) (atM en' (t' ++ u)) en en' t t' u a r he h
    refine ⟨l1, fun hr => ?_⟩
    obtain ⟨r', e1, h1⟩ := n1 hr
    have hne' := he.ne (ne_of_le l1 hr)
    have hs' : seesM minus (t' ++ u) = false := by rw [seesM_app hne', seesM_eqv he]; exact hs
    refine ⟨r', e1, ?_⟩
    show intT _ _ _ _ = _
    rw [hs', if_neg Bool.false_ne_true]
    exact h1
theorem head_eqv {k : Int} {t t' : List Tk} (h : Eqv t t') : headIs k t' = headIs k t := by
  cases t with
  | nil => rw [h.nil]
  | cons x t => obtain ⟨x', t1, rfl, h1, h2, h⟩ := h.cons; simp only [headIs, h1]
theorem head_app {k : Int} {t' u : List Tk} (h : t' ≠ []) : headIs k (t' ++ u) = headIs k t' := by
  cases t' with
  | nil => exact (h rfl).elim
  | cons x t => rfl
theorem text_eqv {t t' u : List Tk} (h : Eqv t t') (hn : t ≠ []) : textV (t' ++ u) = textV t := by
  cases t with
  | nil => exact (hn rfl).elim
  | cons x t => obtain ⟨x', t1, rfl, h1, h2, h⟩ := h.cons; simp only [List.cons_append, textV, h2]
theorem head_ne {k : Int} {t : List Tk} (h : headIs k t = true) : t ≠ [] := by rintro rfl; cases h
theorem loc_map {α β : Type} {f : α → β} {g g' : List Tk → Rs α} (hg : Loc1 g g') : Loc1 (fun t => (g t).map f) (fun t => (g' t).map f) := by
  have h := loc_bind (f := fun a t => .ok (f a) t) (f' := fun a t => .ok (f a) t) hg (fun a => loc_ok)
  have e : ∀ (g : List Tk → Rs α), (fun t => (g t).map f) = fun t => (g t).bind fun a t => .ok (f a) t := by
    intro g; funext t; cases g t <;> rfl
  rw [e, e]; exact h
theorem loc_value : Loc fun en => valueM en := by
  intro en en'
  refine loc_if loc_ok (loc_if loc_ok (loc_if loc_ok ?_))
  have hint := loc_map (f := fun n => some (⟨3, n, []⟩ : V)) (loc_int en en')
  intro t t' u a r he h
  simp only at h
  by_cases h1 : seesM minus t = true ∨ headIs 2 t = true
  · rw [if_pos h1] at h
    have hne : t ≠ [] := by rcases h1 with h1 | h1; exact seesM_ne h1; exact head_ne h1
    have hne' := he.ne hne
    obtain ⟨l1, n1⟩ := hint t t' u a r he h
    refine ⟨l1, fun hr => ?_⟩
    obtain ⟨r', e1, h2⟩ := n1 hr
    refine ⟨r', e1, ?_⟩
    simp only
    rw [if_pos (by rw [seesM_app hne', seesM_eqv he, head_app hne', head_eqv he]; exact h1)]
    exact h2
  · rw [if_neg h1] at h
    by_cases h3 : headIs 3 t = true
    · rw [if_pos h3] at h
      have hne := head_ne h3
      have hne' := he.ne hne
      injection h with h4 h5
      subst h4 h5
      refine ⟨by simp, fun hr => ⟨t'.tail, he.tail, ?_⟩⟩
      simp only
      rw [if_neg (by rw [seesM_app hne', seesM_eqv he, head_app hne', head_eqv he]; exact h1), if_pos (by rw [head_app hne', head_eqv he]; exact h3), text_eqv he hne, tail_app hne']
    · rw [if_neg h3] at h
      injection h with h4 h5
      subst h4 h5
      refine ⟨Nat.le_refl _, fun hr => ⟨t', he, ?_⟩⟩
      have hne' := he.ne hr
      simp only
      rw [if_neg (by rw [seesM_app hne', seesM_eqv he, head_app hne', head_eqv he]; exact h1), if_neg (by rw [head_app hne', head_eqv he]; exact h3)]
theorem loc_is {x : X} : Loc fun en => fun t => if seesM wNot t = true then (needM en [wNull] t.tail).bind fun _ t => .ok (mkX 3 [mkX 16 [x]]) t else (needM en [wNull] t).bind fun _ t => .ok (mkX 16 [x]) t := fun en en' =>
  loc_if (g := fun t => (needM en [wNull] t).bind fun _ t => .ok (mkX 3 [mkX 16 [x]]) t) (loc_bind (loc_need _ en en') fun _ => loc_ok) (loc_bind (loc_need _ en en') fun _ => loc_ok)
theorem isM_eq (en : Int) (x : X) (t : List Tk) : isM en x t = if seesM wNot t.tail = true then (needM en [wNull] t.tail.tail).bind fun _ t => .ok (mkX 3 [mkX 16 [x]]) t else (needM en [wNull] t.tail).bind fun _ t => .ok (mkX 16 [x]) t := by
  unfold isM
  by_cases h : seesM wNot t.tail = true
  · simp only [if_pos h]
  · simp only [if_neg h]
theorem loc_loop {g g' : List Tk → Rs X} (hg : Loc1 g g') (l : Lvl) : ∀ (k k' : Nat) (x : X), k ≤ k' → Loc1 (loopM g l k x) (loopM g' l k' x)
  | 0, k', x, hk => by intro t t' u a r he h; cases h
  | k + 1, 0, x, hk => by omega
  | k + 1, k' + 1, x, hk => by
    have := loc_idx (l := l.signs) (g := fun j t => (g t).bind fun y t' => if l.once = true then .ok (mkX (l.kind + j) [x, y]) t' else loopM g l k (mkX (l.kind + j) [x, y]) t')
      (g' := fun j t => (g' t).bind fun y t' => if l.once = true then .ok (mkX (l.kind + j) [x, y]) t' else loopM g' l k' (mkX (l.kind + j) [x, y]) t') (k := fun t => .ok x t) (k' := fun t => .ok x t)
      (fun j => loc_bind hg fun y => loc_cond _ loc_ok (loc_loop hg l k k' _ (by omega))) loc_ok
    have e : ∀ (g : List Tk → Rs X) (k : Nat), loopM g l (k + 1) x = fun t => match idxSign l.signs t with
      | some j => (fun j t => (g t).bind fun y t' => if l.once = true then .ok (mkX (l.kind + j) [x, y]) t' else loopM g l k (mkX (l.kind + j) [x, y]) t') j t.tail
      | none => (fun t => .ok x t) t := by
      intro g k; funext t
      rw [loopM]
      cases idxSign l.signs t <;> rfl
    rw [e, e]; exact this
theorem loc_piece {en en' : Int} {ex ex' : List Tk → Rs X} (hex : Loc1 ex ex') : Loc1 (pieceM en ex) (pieceM en' ex') := by
  refine loc_bind (loc_value en en') fun v => ?_
  cases v with
  | some v => exact loc_ok
  | none =>
    simp only
    refine loc_if (g := fun t => (ex t).bind fun x t => (needM en [sClose] t).bind fun _ t => .ok x t) (loc_bind hex fun x => loc_bind (loc_need _ en en') fun _ => loc_ok) ?_
    refine loc_if (g := fun t => (needM en [wWhen] t).bind fun _ t => (ex t).bind fun a t => (needM en [wThen] t).bind fun _ t => (ex t).bind fun b t => (needM en [wElse] t).bind fun _ t => (ex t).bind fun c t => (needM en [wEnd] t).bind fun _ t => .ok (mkX 17 [a, b, c]) t)
      (loc_bind (loc_need _ en en') fun _ => loc_bind hex fun _ => loc_bind (loc_need _ en en') fun _ => loc_bind hex fun _ => loc_bind (loc_need _ en en') fun _ => loc_bind hex fun _ => loc_bind (loc_need _ en en') fun _ => loc_ok) ?_
    refine loc_if (g := fun t => (needM en [sOpen] t).bind fun _ t => (ex t).bind fun a t => (needM en [sComma] t).bind fun _ t => (ex t).bind fun b t => (needM en [sClose] t).bind fun _ t => .ok (mkX 18 [a, b]) t)
      (loc_bind (loc_need _ en en') fun _ => loc_bind hex fun _ => loc_bind (loc_need _ en en') fun _ => loc_bind hex fun _ => loc_bind (loc_need _ en en') fun _ => loc_ok) ?_
    refine loc_if (g := fun t => (needM en [sOpen] t).bind fun _ t => if seesM sStar t = true then (needM en [sClose] t.tail).bind fun _ t => .ok (mkX 19 []) t else (ex t).bind fun a t => (needM en [sClose] t).bind fun _ t => .ok (mkX 20 [a]) t)
      (loc_bind (loc_need _ en en') fun _ => loc_if (g := fun t => (needM en [sClose] t).bind fun _ t => .ok (mkX 19 []) t) (loc_bind (loc_need _ en en') fun _ => loc_ok) (loc_bind hex fun _ => loc_bind (loc_need _ en en') fun _ => loc_ok)) ?_
    refine loc_idx (g := fun i t => (needM en [sOpen] t).bind fun _ t => (ex t).bind fun a t => (needM en [sClose] t).bind fun _ t => .ok (mkX (21 + i) [a]) t) (fun i => loc_bind (loc_need _ en en') fun _ => loc_bind hex fun _ => loc_bind (loc_need _ en en') fun _ => loc_ok) ?_
    exact loc_bind (loc_name en en') fun n => loc_if (g := fun t => (nameM en t).bind fun m t => .ok (X.mk 2 ⟨0, 0, []⟩ n m []) t) (loc_bind (loc_name en en') fun m => loc_ok) loc_ok
theorem loc_bin : ∀ (f n : Nat) (op : Int), Loc fun en => binM en f n op
  | 0, n, op, en, en' => by intro t t' u a r he h; cases h
  | f + 1, n, op, en, en' => by
    have ih := loc_bin f
    by_cases h7 : n = 7
    · have e : ∀ en, binM en (f + 1) n op = pieceM en (fun t => if op + 1 > 100 then .err 4 (atM en t) else binM en f 0 (op + 1) t) := by
        intro en; funext t; rw [binM, if_pos h7]
      show Loc1 (binM en (f + 1) n op) (binM en' (f + 1) n op)
      rw [e, e]
      exact loc_piece (loc_cond _ loc_err (ih 0 (op + 1) en en'))
    by_cases h2 : n = 2
    · have e : ∀ en, binM en (f + 1) n op = fun t => if seesM wNot t = true then (fun t => if op + 1 > 100 then .err 4 (atM en t) else (binM en f 2 (op + 1) t).bind fun x t => .ok (mkX 3 [x]) t) t.tail else binM en f 3 op t := by
        intro en; funext t; rw [binM, if_neg h7, if_pos h2]
      show Loc1 (binM en (f + 1) n op) (binM en' (f + 1) n op)
      rw [e, e]
      exact loc_if (loc_cond _ loc_err (loc_bind (ih 2 (op + 1) en en') fun x => loc_ok)) (ih 3 op en en')
    · by_cases h3 : n = 3
      · have e : ∀ en, binM en (f + 1) n op = fun t => (binM en f (n + 1) op t).bind fun x t => if seesM wIs t = true then (fun t => if seesM wNot t = true then (needM en [wNull] t.tail).bind fun _ t => .ok (mkX 3 [mkX 16 [x]]) t else (needM en [wNull] t).bind fun _ t => .ok (mkX 16 [x]) t) t.tail
          else (fun t => loopM (binM en f (n + 1) op) (lvlAt n) (t.length + 1) x t) t := by
          intro en; funext t; rw [binM, if_neg h7, if_neg h2]
          congr 1; funext x t
          by_cases hi : seesM wIs t = true
          · rw [if_pos ⟨h3, hi⟩, if_pos hi, isM_eq]
          · rw [if_neg (fun h => hi h.2), if_neg hi]
        show Loc1 (binM en (f + 1) n op) (binM en' (f + 1) n op)
        rw [e, e]
        refine loc_bind (ih (n + 1) op en en') fun x => loc_if (loc_is en en') ?_
        intro t t' u a r he h
        have hlen : t.length = t'.length := by have := congrArg List.length he; simpa [Eqv] using this
        exact loc_loop (ih (n + 1) op en en') (lvlAt n) (t.length + 1) ((t' ++ u).length + 1) x (by rw [List.length_append]; omega) t t' u a r he h
      · have e : ∀ en, binM en (f + 1) n op = fun t => (binM en f (n + 1) op t).bind fun x t => (fun t => loopM (binM en f (n + 1) op) (lvlAt n) (t.length + 1) x t) t := by
          intro en; funext t; rw [binM, if_neg h7, if_neg h2]
          congr 1; funext x t
          rw [if_neg (fun h => h3 h.1)]
        show Loc1 (binM en (f + 1) n op) (binM en' (f + 1) n op)
        rw [e, e]
        refine loc_bind (ih (n + 1) op en en') fun x => ?_
        intro t t' u a r he h
        have hlen : t.length = t'.length := by have := congrArg List.length he; simpa [Eqv] using this
        exact loc_loop (ih (n + 1) op en en') (lvlAt n) (t.length + 1) ((t' ++ u).length + 1) x (by rw [List.length_append]; omega) t t' u a r he h
section
variable {en en' : Int} {ex ex' : List Tk → Rs X}
end
theorem loop_ne {g : List Tk → Rs X} (hg : ∀ t, g t ≠ .out) (hle : ∀ t a r, g t = .ok a r → r.length ≤ t.length) (l : Lvl) : ∀ (k : Nat) (x : X) (t : List Tk), t.length < k → loopM g l k x t ≠ .out
  | 0, x, t, h => by omega
  | k + 1, x, t, h => by
    rw [loopM]
    cases hi : idxSign l.signs t with
    | none => simp
    | some j =>
      simp only
      cases hgt : g t.tail with
      | out => exact (hg _ hgt).elim
      | err e a => simp [Rs.bind]
      | ok y t' =>
        simp only [Rs.bind]
        split
        · simp
        · refine loop_ne hg hle l k _ t' ?_
          have := hle _ _ _ hgt
          have hne := idx_ne hi
          have : t.tail.length < t.length := by
            cases t with
            | nil => exact (hne rfl).elim
            | cons _ _ => simp
          omega
theorem piece_ne {en : Int} {ex : List Tk → Rs X} (hex : ∀ t, ex t ≠ .out) (t : List Tk) : pieceM en ex t ≠ .out := by
  have hn : ∀ {α : Type} {l t} {f : Unit → List Tk → Rs α}, (∀ a t, f a t ≠ .out) → (needM en l t).bind f ≠ .out := fun h => bind_ne needM_ne h
  have hx : ∀ {α : Type} {t} {f : X → List Tk → Rs α}, (∀ a t, f a t ≠ .out) → (ex t).bind f ≠ .out := fun h => bind_ne (hex _) h
  unfold pieceM
  refine bind_ne valueM_ne fun v t => ?_
  cases v with
  | some v => simp
  | none =>
    simp only
    split
    · exact hx fun _ _ => hn fun _ _ => by simp
    split
    · exact hn fun _ _ => hx fun _ _ => hn fun _ _ => hx fun _ _ => hn fun _ _ => hx fun _ _ => hn fun _ _ => by simp
    split
    · exact hn fun _ _ => hx fun _ _ => hn fun _ _ => hx fun _ _ => hn fun _ _ => by simp
    split
    · refine hn fun _ _ => ?_
      split
      · exact hn fun _ _ => by simp
      · exact hx fun _ _ => hn fun _ _ => by simp
    split
    · exact hn fun _ _ => hx fun _ _ => hn fun _ _ => by simp
    · refine bind_ne nameM_ne fun _ _ => ?_
      split
      · exact bind_ne nameM_ne fun _ _ => by simp
      · simp
theorem bin_le {en : Int} {f n : Nat} {op : Int} {t : List Tk} {a r} (h : binM en f n op t = .ok a r) : r.length ≤ t.length := (loc_bin f n op en en t t [] a r rfl h).1
theorem bin_ne {en : Int} : ∀ (f n : Nat) (op : Int), n ≤ 7 → op ≤ 100 → 9 * (101 - op) + 8 - n < f → ∀ t, binM en f n op t ≠ .out
  | 0, n, op, h1, h2, h3, t => by omega
  | f + 1, n, op, h1, h2, h3, t => by
    rw [binM]
    split
    · rename_i h7
      refine piece_ne (fun t => ?_) t
      split
      · simp
      · exact bin_ne f 0 (op + 1) (by omega) (by omega) (by omega) t
    split
    · rename_i h7 h2'
      split
      · split
        · simp
        · exact bind_ne (bin_ne f 2 (op + 1) (by omega) (by omega) (by omega) _) fun _ _ => by simp
      · exact bin_ne f 3 op (by omega) (by omega) (by omega) t
    · rename_i h7 h2'
      refine bind_ne (bin_ne f (n + 1) op (by omega) h2 (by omega) t) fun x t => ?_
      split
      · unfold isM
        exact bind_ne needM_ne fun _ _ => by simp
      · exact loop_ne (fun t => bin_ne f (n + 1) op (by omega) h2 (by omega) t) (fun t a r h => bin_le h) _ _ _ _ (by omega)
def exF (en : Int) (t : List Tk) : Rs X := exprM en 1000 0 t
theorem exF_ne {en : Int} (t : List Tk) : exF en t ≠ .out := by
  unfold exF exprM
  split
  · simp
  · exact bin_ne 1000 0 (0 + 1) (by omega) (by omega) (by omega) t
section
variable {en : Int} {ex : List Tk → Rs X}
theorem item_ne (hex : ∀ t, ex t ≠ .out) (t : List Tk) : itemM en ex t ≠ .out := by
  refine bind_ne (hex t) fun x t => ?_
  split
  · exact bind_ne nameM_ne fun _ _ => by simp
  · simp
theorem source_ne (hex : ∀ t, ex t ≠ .out) (k : Int) (t : List Tk) : sourceM en ex k t ≠ .out := by
  refine bind_ne nameM_ne fun n t => bind_ne ?_ fun a t => ?_
  · unfold asM; split
    · exact nameM_ne
    · simp
  · split
    · exact bind_ne needM_ne fun _ _ => bind_ne (hex _) fun _ _ => by simp
    · simp
theorem joins_ne (hex : ∀ t, ex t ≠ .out) : ∀ (room : Nat) (t : List Tk), joinsM en ex room t ≠ .out
  | 0, t => by
    rw [joinsM_eq]
    refine bind_ne joinM_ne fun k t => ?_
    unfold joinsB; split <;> simp
  | n + 1, t => by
    rw [joinsM_eq]
    refine bind_ne joinM_ne fun k t => ?_
    unfold joinsB
    split
    · exact bind_ne (source_ne hex k t) fun _ _ => bind_ne (joins_ne hex n _) fun _ _ => by simp
    · simp
theorem optX_ne (hex : ∀ t, ex t ≠ .out) {w : Bs} {t : List Tk} : optX ex w t ≠ .out := by
  unfold optX; split
  · exact hex _
  · simp
theorem sel_ne (hex : ∀ t, ex t ≠ .out) (t : List Tk) : selM en ex t ≠ .out := by
  refine bind_ne needM_ne fun _ t0 => bind_ne ?_ fun items t => ?_
  · split
    · simp
    · exact someM_ne (fun t => item_ne hex t)
  · refine bind_ne needM_ne fun _ _ => bind_ne (source_ne hex 1 _) fun _ _ => bind_ne (joins_ne hex 3 _) fun _ _ => bind_ne (optX_ne hex) fun _ _ => bind_ne ?_ fun _ _ => bind_ne (optX_ne hex) fun _ _ => by simp
    unfold optG; split
    · exact bind_ne needM_ne fun _ _ => someM_ne hex
    · simp
theorem setsB_ne (hex : ∀ t, ex t ≠ .out) : ∀ (room : Nat) (k : Int) (t : List Tk), setsB en ex room k t ≠ .out
  | 0, k, t => by unfold setsB; split <;> simp
  | n + 1, k, t => by
    rw [setsB]
    split
    · exact bind_ne (sel_ne hex t) fun _ _ => bind_ne setM_ne fun k' t' => bind_ne (setsB_ne hex n k' t') fun _ _ => by simp
    · simp
theorem query_ne (hex : ∀ t, ex t ≠ .out) (t : List Tk) : queryM en ex t ≠ .out := by
  refine bind_ne (sel_ne hex t) fun _ _ => bind_ne setM_ne fun _ _ => bind_ne (setsB_ne hex 3 _ _) fun _ _ => bind_ne ?_ fun _ _ => by simp
  unfold orderM
  split
  · refine bind_ne needM_ne fun _ _ => bind_ne (someM_ne hex) fun _ _ => bind_ne needM_ne fun _ _ => bind_ne ?_ fun _ _ => by simp
    unfold limM
    refine bind_ne intM_ne fun _ _ => ?_
    split <;> simp
  · simp
theorem stmt_ne (hex : ∀ t, ex t ≠ .out) (t : List Tk) : stmtM en ex t ≠ .out := by
  unfold stmtM
  split
  · split
    · exact bind_ne nameM_ne fun _ _ => bind_ne needM_ne fun _ _ => bind_ne (query_ne hex _) fun _ _ => by simp
    · exact bind_ne needM_ne fun _ _ => bind_ne nameM_ne fun _ _ => bind_ne needM_ne fun _ _ => bind_ne (someM_ne fun _ => columnM_ne) fun _ _ => bind_ne needM_ne fun _ _ => by simp
  split
  · exact bind_ne needM_ne fun _ _ => bind_ne nameM_ne fun _ _ => bind_ne needM_ne fun _ _ => bind_ne (someM_ne fun _ => rowM_ne) fun _ _ => by simp
  split
  · exact bind_ne needM_ne fun _ _ => bind_ne nameM_ne fun _ _ => bind_ne (optX_ne hex) fun _ _ => by simp
  · exact bind_ne needM_ne fun _ _ => bind_ne (query_ne hex _) fun _ _ => by simp
end
def stmtsM (en : Int) : Nat → List Tk → Rs (List Stm)
  | room, t => if t = [] then .ok [] [] else match room with
    | 0 => .err 5 (atM en t)
    | r + 1 => (stmtM en (exF en) t).bind fun s t => (needM en [sSemi] t).bind fun _ t => (stmtsM en r t).bind fun l t => .ok (s :: l) t
def stmtsB (en : Int) (room : Nat) (t : List Tk) : Rs (List Stm) := match room with
    | 0 => .err 5 (atM en t)
    | r + 1 => (stmtM en (exF en) t).bind fun s t => (needM en [sSemi] t).bind fun _ t => (stmtsM en r t).bind fun l t => .ok (s :: l) t
theorem stmtsM_cons (en : Int) (room : Nat) (t : List Tk) (h : t ≠ []) : stmtsM en room t = stmtsB en room t := by
  cases room <;> (rw [stmtsM, if_neg h]; rfl)
theorem stmtsM_nil (en : Int) (room : Nat) : stmtsM en room [] = .ok [] [] := by cases room <;> rfl
def readM (s : Bs) : List Stm × Int × Int := match tokensM s with
  | .error x => ([], x.1, x.2)
  | .ok ts => match stmtsM s.length 60 ts with
    | .err e a => ([], e, a)
    | .out => ([], 0, 0)
    | .ok l _ => if (wrongS l).1 ≠ 0 then ([], (wrongS l).1, 0) else (l, 0, 0)
end Go.Proofs.YtmccpbcbofhmlaaGreatDoor
